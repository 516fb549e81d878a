/-
  strconv.Itoa, slices.Sort and slices.Compact of texts: the kit's contracts as contracts of the machine.
-/
import Derived.Test.YtjfnhehjhicnoaaDoorVmO
import Derived.Test.YtjfnhehjhicnoaaDoorVmT
import Derived.Test.YtjfnhehjhicnoaaDoorSfLIto
import Derived.Test.YtjfnhehjhicnoaaDoorSfLSts
import Derived.Test.YtjfnhehjhicnoaaDoorSfLCps
namespace Go.Proofs.YtjfnhehjhicnoaaDoor
open Go.RowKit Go.Sort Go.Proofs

theorem same_grow (w : World) (k : Nat) (os : Array Obj) : Same w (grow (w.drewN k) os) := by
  refine ⟨rfl, rfl, rfl, ?_, fun b hb => ?_⟩
  · show w.heap.size ≤ (w.heap ++ os).size
    simp
  · show (w.heap ++ os)[b]? = w.heap[b]?
    rw [Array.getElem?_append_left hb]
/-- the table's number, its cells -/
abbrev pwG : Nat := sfIto_ren.g 17
abbrev pwC : Array Value := (Lib.pow10Tab.map fun z => Value.int .u64 z).toArray
/-- a number's text -/
def itoB (n : Int) : ByteArray := ⟨(Lib.itoa n).toArray⟩
theorem itoT (n : Int) (h0 : -9223372036854775808 ≤ n) (h1 : n ≤ 9223372036854775807) : FnT Tryd.prog pwG pwC 65 [intV n] (fun obs r => obs = [] ∧ r = strV (itoB n)) := by
  refine ⟨⟨_, Tryd.func65, by decide, rfl⟩, fun w I vs hI ht hd => ?_⟩
  simp only [DenL, Den, intV, L.rd] at hd ht
  obtain ⟨u, us, rfl, ⟨rfl, -⟩, rfl⟩ := hd
  refine (Any.strconv_Itoa sfIto n h0 h1 w (tab_is sfIto.m17 ht.2)).mono ?_
  rintro e w' ⟨rfl, k, os, rfl⟩
  have hs := same_grow w k os
  refine ⟨_, Asg.zero, I, [], strV (itoB n), rfl, ⟨rfl, rfl⟩, hs, fun _ h => h, fun _ h => .inl h, ⟨rfl, fun b hb => Nat.lt_of_lt_of_le (hI b hb) hs.size, fun i o e => by simp at e, fun i o b e => by simp at e, fun i j oi oj b e => by simp at e⟩, ?_⟩
  simp only [strV, Den, L.rd]
  exact ⟨rfl, rfl⟩

/-- a row of texts: its bytes -/
def strL (n : Nat) (s : Nat → ByteArray) : List (List UInt8) := (List.range n).map fun k => (s k).data.toList
theorem strL_len (n : Nat) (s : Nat → ByteArray) : (strL n s).length = n := by simp [strL]
theorem strL_at {n : Nat} {s : Nat → ByteArray} {k : Nat} (h : k < n) : (strL n s)[k]? = some (s k).data.toList := by simp [strL, h]
/-- back again -/
def lstB (l : List (List UInt8)) (k : Nat) : ByteArray := ⟨(l.getD k []).toArray⟩
theorem lstB_strL {n : Nat} {s : Nat → ByteArray} {k : Nat} (h : k < n) : lstB (strL n s) k = s k := by
  unfold lstB
  rw [List.getD_eq_getElem?_getD, strL_at h]
  rfl
section
variable {σ0 : Asg} {I : Nat → Prop} {w : World} {e n b cap : Nat} {s : Nat → ByteArray} {cur : Array Value}
theorem row_holds (hr : RowRel σ0 I w 0 e 1 n (cS s)) (hn : 0 < n) : ∃ g cap cur, σ0.hdr 0 = .slice (some ⟨g, 0, none⟩) n cap ∧ σ0.blk 0 = some g ∧ w.heap[g]? = some (.cells cur e (0, 0)) ∧ n ≤ cap ∧ cap ≤ maxLen ∧ cur.size = cap * 1 ∧ Holds encStr w g 0 (strL n s).toArray := by
  obtain ⟨g, cap, cur, xs, a1, a2, a3, a4, a5, a6, a7, a8, a9, a10, a11⟩ := hr.at hn
  refine ⟨g, cap, cur, a1, a2, a3, a4, a5, a6, fun j hj => ?_⟩
  have hj : j < n := by simpa [strL] using hj
  obtain ⟨c, c1, c2⟩ := a10 j hj 0 (by omega)
  have c3 : c = .string (s j) := by
    simp only [cS, L.rd] at c2
    exact c2.1
  subst c3
  rw [Nat.zero_add]
  refine ⟨?_, by simp [World.frozen?, a3]⟩
  rw [a11 j _ (by simpa using c1)]
  rw [getElem!_pos _ j (by simpa [strL] using hj)]
  simp [strL, encStr]
theorem row_put (hst : Store σ0 I w (ownF w σ0 [.row e 1 n false (cS s)]) [.row e 1 n false (cS s)]) (a1 : σ0.hdr 0 = .slice (some ⟨b, 0, none⟩) n cap) (a2 : σ0.blk 0 = some b) (a3 : w.heap[b]? = some (.cells cur e (0, 0))) (a4 : n ≤ cap) (a5 : cap ≤ maxLen) (a6 : cur.size = cap * 1)
    {d : List (List UInt8)} (hd : d.length = n) (m : Nat) (os : Array Obj) :
    SameF (ownF w σ0 [.row e 1 n false (cS s)]) w (grow (putRow encStr (Sort.ahead w m) b 0 d.toArray) os) ∧ Store σ0 I (grow (putRow encStr (Sort.ahead w m) b 0 d.toArray) os) (ownF w σ0 [.row e 1 n false (cS s)]) [.row e 1 n false (cS (lstB d))] := by
  have ho : ([OB.row e 1 n false (cS s)] : List OB)[0]? = some (.row e 1 n false (cS s)) := rfl
  have hbw : b < w.heap.size := (Array.getElem?_eq_some_iff.1 a3).1
  have hsame : (grow (putRow encStr (Sort.ahead w m) b 0 d.toArray) os).heap[b]? = some (.cells (putCells encStr 0 d.toArray cur) e (0, 0)) := by
    show ((w.heap.modify b _) ++ os)[b]? = _
    rw [Array.getElem?_append_left (by simpa using hbw), Array.getElem?_modify, if_pos rfl, a3]
    rfl
  have hoth : ∀ x, x < w.heap.size → x ≠ b → (grow (putRow encStr (Sort.ahead w m) b 0 d.toArray) os).heap[x]? = w.heap[x]? := fun x hx hne => by
    show ((w.heap.modify b _) ++ os)[x]? = _
    rw [Array.getElem?_append_left (by simpa using hx), Array.getElem?_modify, if_neg (fun h => hne h.symm)]
  have hsize : w.heap.size ≤ (grow (putRow encStr (Sort.ahead w m) b 0 d.toArray) os).heap.size := by
    show w.heap.size ≤ ((w.heap.modify b _) ++ os).size
    simp
  have hpsz : (putCells encStr 0 d.toArray cur).size = cap * 1 := by
    unfold putCells
    rw [Array.size_mapIdx, a6]
  have hat : ∀ q, q < n → (putCells encStr 0 d.toArray cur)[q]? = some (.string (lstB d q)) := fun q hq => by
    unfold putCells
    rw [Array.getElem?_mapIdx, Array.getElem?_eq_getElem (by omega)]
    simp only [Option.map_some, Nat.zero_le, true_and, Nat.zero_add, Nat.sub_zero, List.size_toArray, hd, hq, if_true]
    rw [getElem!_pos _ q (by simpa [hd] using hq)]
    simp [encStr, lstB, List.getD_eq_getElem?_getD, List.getElem?_eq_getElem (show q < d.length by omega)]
  have htk : ∀ q, q < n → ((putCells encStr 0 d.toArray cur).toList.take (n * 1))[q]? = some (.string (lstB d q)) := fun q hq => by
    rw [List.getElem?_take_of_lt (by omega), Array.getElem?_toList]
    exact hat q hq
  have hlen : ((putCells encStr 0 d.toArray cur).toList.take (n * 1)).length = n * 1 := by
    rw [List.length_take, Array.length_toList, hpsz]
    omega
  have hrow := (hst.obj 0 _ ho).1
  have hown : (σ0.hdr 0).ownBlock = σ0.blk 0 := by rw [a1, a2]; rfl
  refine ⟨⟨rfl, rfl, rfl, hsize, fun x hx hF => hoth x hx fun hxb => hF (.inr ⟨0, _, ho, rfl, .inl (by rw [hxb]; exact a2)⟩)⟩, ?_⟩
  refine hst.updH (i := 0) (b := b) ho rfl (.inl a2) hsize hoth ⟨.inr ⟨hown, _, ⟨hlen, .inr ⟨b, cap, _, a1, Nat.zero_le _, hsame, a4, a5, hpsz, rfl⟩⟩, fun x hx => ?_, fun i hi j hj => ?_⟩, fun h => by cases h⟩
  · obtain ⟨q, hq, rfl⟩ := List.getElem_of_mem hx
    have h1 := htk q (by rw [hlen] at hq; omega)
    rw [List.getElem?_eq_getElem hq] at h1
    injection h1 with h1
    rw [h1]
    rfl
  · obtain rfl : j = 0 := by omega
    refine ⟨.string (lstB d i), by simpa using htk i hi, ?_⟩
    exact ⟨rfl, rfl⟩
end
abbrev rwS (n : Nat) (s : Nat → ByteArray) : OB := .row 9 1 n false (cS s)
def srtL (n : Nat) (s : Nat → ByteArray) : List (List UInt8) := (strL n s).mergeSort fun x y => decide (x ≤ y)
theorem srtL_len (n : Nat) (s : Nat → ByteArray) : (srtL n s).length = n := by
  unfold srtL
  rw [List.length_mergeSort, strL_len]
theorem srtT (n : Nat) (s : Nat → ByteArray) (hn0 : 0 < n) (hn : n ≤ 1000) : FnM Tryd.prog 72 [rwS n s] [.own 0] (fun obs r => obs = [rwS n (lstB (srtL n s))] ∧ r = .tup []) := by
  refine ⟨⟨_, Tryd.func72, by decide, rfl⟩, fun w I σ0 vs hst hd => ?_⟩
  simp only [DenL, Den] at hd
  obtain ⟨u0, us, rfl, ⟨hc0, rfl, hone⟩, rfl⟩ := hd
  obtain ⟨b, cap, cur, a1, a2, a3, a4, a5, a6, hH⟩ := row_holds (hst.obj 0 _ rfl).1 hn0
  rw [a1]
  have hcon := Any.slices_Sort_string sfSts b 0 cap (strL n s) w hH (Array.getElem?_eq_some_iff.1 a3).1 (by rw [strL_len]; omega)
  rw [strL_len] at hcon
  refine hcon.mono ?_
  rintro e' w' ⟨rfl, m, os, rfl⟩
  obtain ⟨g1, g2⟩ := row_put hst a1 a2 a3 a4 a5 a6 (srtL_len n s) m os
  refine ⟨.tuple #[], σ0, I, _, .tup [], rfl, ⟨rfl, rfl⟩, g1, fun _ h => h, fun _ h => .inl h, g2, ?_, Asg.le_refl _⟩
  simp only [Den]
  exact ⟨[], rfl, rfl⟩
def cmpL (n : Nat) (s : Nat → ByteArray) : List (List UInt8) := Lib.compact (strL n s)
theorem cmpT (n : Nat) (s : Nat → ByteArray) (hn0 : 0 < n) (hn : n ≤ 1000) (hc : (cmpL n s).length ≤ n) : FnM Tryd.prog 73 [rwS n s] [.own 0] (fun obs r => obs = [rwS n (lstB (cmpL n s ++ List.replicate (n - (cmpL n s).length) []))] ∧ r = .ov 0 1 0 (cmpL n s).length) := by
  refine ⟨⟨_, Tryd.func73, by decide, rfl⟩, fun w I σ0 vs hst hd => ?_⟩
  simp only [DenL, Den] at hd
  obtain ⟨u0, us, rfl, ⟨hc0, rfl, hone⟩, rfl⟩ := hd
  obtain ⟨b, cap, cur, a1, a2, a3, a4, a5, a6, hH⟩ := row_holds (hst.obj 0 _ rfl).1 hn0
  rw [a1]
  have hcon := Any.slices_Compact_string sfCps b 0 cap (strL n s) w hH (by rw [strL_len]; omega) (by rw [strL_len]; omega)
  rw [strL_len] at hcon
  refine hcon.mono ?_
  rintro e' w' ⟨rfl, m, rfl⟩
  obtain ⟨g1, g2⟩ := row_put (d := cmpL n s ++ List.replicate (n - (cmpL n s).length) []) hst a1 a2 a3 a4 a5 a6 (by rw [List.length_append, List.length_replicate]; omega) m #[]
  rw [grow_empty] at g1 g2
  refine ⟨_, σ0, I, _, .ov 0 1 0 (cmpL n s).length, rfl, ⟨rfl, rfl⟩, g1, fun _ h => h, fun _ h => .inl h, g2, ?_, Asg.le_refl _⟩
  simp only [Den]
  refine ⟨hc0, _, cap, rfl, ?_, a5, fun _ => ⟨b, n, cap, a1, rfl, by omega, by omega⟩⟩
  show (Lib.compact (strL n s)).length ≤ cap
  have : (Lib.compact (strL n s)).length ≤ n := hc
  omega
end Go.Proofs.YtjfnhehjhicnoaaDoor
