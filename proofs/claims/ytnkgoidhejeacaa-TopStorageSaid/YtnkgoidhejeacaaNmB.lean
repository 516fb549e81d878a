/-
  Names: netmodel.Name.
-/
import Derived.Test.YtnkgoidhejeacaaPur
namespace Go.Proofs.Ytnkgoidhejeacaa
open Go.RowKit

theorem strB_le (s : ByteArray) (i : Nat) : 0 ≤ strB s i ∧ strB s i ≤ 255 := by
  unfold strB
  cases s[i]? with
  | none => simp
  | some b => simp; have := b.toNat_lt; omega

def upB (c : Int) : Bool := inB c 65 90
def digB (c : Int) : Bool := inB c 48 57
def chB (s : ByteArray) (k : Nat) : Bool := upB (strB s k) || decide (0 < k) && digB (strB s k)
/-- a name: one to eight letters or digits, the first one a letter -/
def nameB (s : ByteArray) : Bool := decide (1 ≤ s.size) && decide (s.size ≤ 8) && (List.range s.size).all (chB s)

theorem all_range {n : Nat} {p : Nat → Bool} : (List.range n).all p = true ↔ ∀ k, k < n → p k = true := by
  rw [List.all_eq_true]
  exact ⟨fun h k hk => h k (List.mem_range.2 hk), fun h k hk => h k (List.mem_range.1 hk)⟩

def gamN1 : Gam := fun f => if f = 1999999 then some (fun _ => (.p False, .top)) else none
theorem gamN1_ok : GOk Try.prog gamN1 := fun f g h => by
  unfold gamN1 at h
  split at h
  · injection h with h; subst h; intro args hs; exact hs.elim
  · cases h

def s1S (p : ByteArray → Prop) (f : ByteArray → Bool) : List AV → Sd × AV
  | [.c (.v (.string s))] => (.p (p s), boolV (f s))
  | _ => (.p False, .top)
theorem s1S_ok {f : FuncId} {p : ByteArray → Prop} {g : ByteArray → Bool} (h : ∀ a, p a → Fn1 Try.prog f [strV a] (boolV (g a))) : ∀ args, (s1S p g args).1.ok → (s1S p g args).2.exact.isSome = true → Fn1 Try.prog f args (s1S p g args).2 := fun args hs _ => by
  unfold s1S at hs ⊢
  split at hs
  · exact h _ hs
  · exact hs.elim

end Go.Proofs.Ytnkgoidhejeacaa
