/-
  Offers: their check, their sums, and the references' forms of these.
-/
import Derived.Test.YtkkkldhilofgmaaName
namespace Go.Proofs.Ytkkkldhilofgmaa
open Go.RowKit

def offV (s : ByteArray) (n : Nat) (p q : Nat → Int) : AV := .agg [strV s, .c (.sl 2 n (c2 p q))]
/-- the error of step k -/
def stE (p q : Nat → Int) (k : Nat) : Int :=
  if p k < 1 ∨ 100000 < p k ∨ q k < -1000000 ∨ 1000000 < q k then 4 else if 0 < k ∧ q k < q (k - 1) then 3 else if 100000 < S p (k + 1) then 2 else 0
/-- the error of an offer -/
def offE (s : ByteArray) (n : Nat) (p q : Nat → Int) : Int := if nameB s = false then 6 else if 12 < n then 2 else fst (stE p q) n
def okOff (n : Nat) (p q : Nat → Int) : Prop := n ≤ 12 ∧ (∀ k, k < n → 1 ≤ p k ∧ p k ≤ 100000 ∧ -1000000 ≤ q k ∧ q k ≤ 1000000) ∧ (∀ k, k + 1 < n → q k ≤ q (k + 1)) ∧ ∀ k, k ≤ n → S p k ≤ 100000

theorem stE_zero {p q : Nat → Int} {k : Nat} (h : stE p q k = 0) : (1 ≤ p k ∧ p k ≤ 100000 ∧ -1000000 ≤ q k ∧ q k ≤ 1000000) ∧ (0 < k → q (k - 1) ≤ q k) ∧ S p (k + 1) ≤ 100000 := by
  unfold stE at h
  split at h
  · cases h
  · split at h
    · cases h
    · split at h
      · cases h
      · omega
theorem offE_zero {s : ByteArray} {n : Nat} {p q : Nat → Int} (h : offE s n p q = 0) : nameB s = true ∧ okOff n p q := by
  unfold offE at h
  split at h
  · cases h
  · rename_i hn
    split at h
    · cases h
    · refine ⟨by simpa using hn, by omega, fun k hk => (stE_zero (fst_zero h k hk)).1, fun k hk => ?_, fun k hk => ?_⟩
      · have := (stE_zero (fst_zero h (k + 1) hk)).2.1 (by omega)
        simpa using this
      · cases k with
        | zero => simp [S]
        | succ k => exact (stE_zero (fst_zero h k (by omega))).2.2

/-- the first steps' powers -/
def sB (P : Nat → Nat → (Nat → Int) → (Nat → Int) → Prop) (g : Nat → Nat → (Nat → Int) → (Nat → Int) → AV) : List AV → Sd × AV
  | [.agg [.c (.v (.string _)), .c (.sl 2 n f)], .c (.v (.int .i64 k))] => (.p (is2 n f ∧ 0 ≤ k ∧ P k.toNat n (d0 f) (d1 f)), g k.toNat n (d0 f) (d1 f))
  | _ => (.p False, .top)

def sBf (g : (Nat → Int) → Nat → Int) : List AV → Sd × AV
  | [.agg [.c (.v (.string _)), .c (.sl 2 n f)], .c (.v (.int .i64 k))] => (.p (is2 n f ∧ 0 ≤ k ∧ k ≤ n ∧ n ≤ 1000 ∧ ∀ i, i < k.toNat → 0 ≤ d0 f i ∧ d0 f i ≤ 1000000), intV (g (d0 f) k.toNat))
  | _ => (.p False, .top)
theorem offV_le {s : ByteArray} {n : Nat} {f : Nat → Nat → L} (h : is2 n f) : Le1 (.agg [.c (.v (.string s)), .c (.sl 2 n f)]) (offV s n (d0 f) (d1 f)) :=
  Le1.agg (Le.cons (Le1.refl _) (Le.cons (Le1.sl h) Le.nil))
def gamO1 : Gam := fun f => match f with
  | 27 => some (s3 inB)
  | 84 => some (s1S (fun s => s.size ≤ maxLen) nameB)
  | _ => none
theorem gamO1_ok : GOk Try.prog gamO1 := fun f g h => by
  unfold gamO1 at h
  split at h
  · injection h with h; subst h; exact s3_ok in3
  · injection h with h; subst h; exact s1S_ok name1
  · cases h

end Go.Proofs.Ytkkkldhilofgmaa
