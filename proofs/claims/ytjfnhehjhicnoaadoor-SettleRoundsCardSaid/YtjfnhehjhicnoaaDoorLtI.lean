/-
  strconv.Itoa: the kit's contract as a contract of the machine.
-/
import Derived.Test.YtjfnhehjhicnoaaDoorVmO
import Derived.Test.YtjfnhehjhicnoaaDoorVmT
import Derived.Test.YtjfnhehjhicnoaaDoorSfLIto
namespace Go.Proofs.YtjfnhehjhicnoaaDoor
open Go.RowKit Go.Sort Go.Proofs

theorem same_grow (w : World) (k : Nat) (os : Array Obj) : Same w (grow (w.drewN k) os) := by
  refine ⟨rfl, rfl, rfl, ?_, fun b hb => ?_⟩
  · show w.heap.size ≤ (w.heap ++ os).size
    simp
  · show (w.heap ++ os)[b]? = w.heap[b]?
    rw [Array.getElem?_append_left hb]
/-- the table's number, its cells -/
abbrev pwG : Nat := sfIto_ren.g 17
abbrev pwC : Array Value := (Lib.pow10Tab.map fun z => Value.int .u64 z).toArray
/-- a number's text -/
def itoB (n : Int) : ByteArray := ⟨(Lib.itoa n).toArray⟩
theorem itoT (n : Int) (h0 : -9223372036854775808 ≤ n) (h1 : n ≤ 9223372036854775807) : FnT Tryd.prog pwG pwC 65 [intV n] (fun obs r => obs = [] ∧ r = strV (itoB n)) := by
  refine ⟨⟨_, Tryd.func65, by decide, rfl⟩, fun w I vs hI ht hd => ?_⟩
  simp only [DenL, Den, intV, L.rd] at hd ht
  obtain ⟨u, us, rfl, ⟨rfl, -⟩, rfl⟩ := hd
  refine (Any.strconv_Itoa sfIto n h0 h1 w (tab_is sfIto.m17 ht.2)).mono ?_
  rintro e w' ⟨rfl, k, os, rfl⟩
  have hs := same_grow w k os
  refine ⟨_, Asg.zero, I, [], strV (itoB n), rfl, ⟨rfl, rfl⟩, hs, fun _ h => h, fun _ h => .inl h, ⟨rfl, fun b hb => Nat.lt_of_lt_of_le (hI b hb) hs.size, fun i o e => by simp at e, fun i o b e => by simp at e, fun i j oi oj b e => by simp at e⟩, ?_⟩
  simp only [strV, Den, L.rd]
  exact ⟨rfl, rfl⟩
end Go.Proofs.YtjfnhehjhicnoaaDoor
