/-
  The package dispatch: Cost.
-/
import Derived.Test.YtinamdapdlnlnaaOffLs
namespace Go.Proofs.Ytinamdapdlnlnaa
open Go.RowKit

theorem offsE_zero {n : Nat} {s : Nat → ByteArray} {m : Nat → Nat} {p q : Nat → Nat → Int} (h : offsE n s m p q = 0) : n ≤ 10 ∧ ∀ k, k < n → offE (s k) (m k) (p k) (q k) = 0 ∧ okOff (m k) (p k) (q k) ∧ S (p k) (m k) ≤ 100000 ∧ 0 ≤ S (p k) (m k) := by
  unfold offsE at h
  split at h
  · cases h
  · refine ⟨by omega, fun k hk => ?_⟩
    have h1 := fst_zero h k hk
    unfold lsE at h1
    split at h1
    · rename_i hn; exact absurd h1 hn
    · rename_i hn
      have hz : offE (s k) (m k) (p k) (q k) = 0 := by simpa using hn
      have ho := (offE_zero hz).2
      have := ho.S0 (Nat.le_refl _)
      exact ⟨hz, ho, by omega, by omega⟩

/-- the error of power k; of a list of powers -/
def pwE (m : Nat → Nat) (p : Nat → Nat → Int) (x : Nat → Int) (k : Nat) : Int := if x k < 0 ∨ S (p k) (m k) < x k then 4 else 0
def dxE (n nx : Nat) (s : Nat → ByteArray) (m : Nat → Nat) (p q : Nat → Nat → Int) (x : Nat → Int) : Int := if offsE n s m p q ≠ 0 then offsE n s m p q else if nx ≠ n then 3 else fst (pwE m p x) n
/-- what offer k costs -/
def cK (m : Nat → Nat) (p q : Nat → Nat → Int) (x : Nat → Int) (k : Nat) : Int := S (ct (p k) (q k) (x k)) (m k)
theorem pwE_off {s : Nat → ByteArray} {m : Nat → Nat} {p q : Nat → Nat → Int} {x : Nat → Int} {k : Nat} (h : offE (s k) (m k) (p k) (q k) = 0) : offXE (s k) (m k) (p k) (q k) (x k) = pwE m p x k := by
  unfold offXE pwE
  rw [if_neg (fun hh => hh h)]
theorem pwE_zero {m : Nat → Nat} {p : Nat → Nat → Int} {x : Nat → Int} {k : Nat} (h : pwE m p x k = 0) : 0 ≤ x k ∧ x k ≤ S (p k) (m k) := by
  unfold pwE at h
  split at h
  · cases h
  · omega

abbrev xOff (s : ByteArray) (n : Nat) (p q : Nat → Int) (x : Int) : AV := .tup [intV (if offXE s n p q x = 0 then S (ct p q x) n else 0), intV (offXE s n p q x)]
def gamD1 : Gam := fun f => match f with
  | 22 => some (sOl fun n s m p q => intV (offsE n s m p q))
  | 27 => some (sOi (fun s n _ _ _ => s.size ≤ maxLen ∧ n ≤ maxLen) xOff)
  | _ => none
theorem gamD1_ok : GOk Try.prog gamD1 := fun f g h => by
  unfold gamD1 at h
  split at h
  · injection h with h; subst h; exact sOl_ok fun s m p q n h1 h2 => checkAll s m p q n h1 h2
  · injection h with h; subst h; exact sOi_ok fun s n p q x hp => offCost s n p q x hp.1 hp.2
  · cases h

abbrev dcV (n nx : Nat) (s : Nat → ByteArray) (m : Nat → Nat) (p q : Nat → Nat → Int) (x : Nat → Int) : AV :=
  .tup [intV (if dxE n nx s m p q x = 0 then S (cK m p q x) n else 0), intV (if dxE n nx s m p q x = 0 then S x n else 0), intV (dxE n nx s m p q x)]
theorem dsum {n i : Nat} {s : Nat → ByteArray} {m : Nat → Nat} {p q : Nat → Nat → Int} {x : Nat → Int} (h0 : offsE n s m p q = 0) (hi : i ≤ n) (he : fst (pwE m p x) i = 0) : 0 ≤ S x i ∧ S x i ≤ 1000000 ∧ -12000000000000 ≤ S (cK m p q x) i ∧ S (cK m p q x) i ≤ 12000000000000 := by
  obtain ⟨hn, hall⟩ := offsE_zero h0
  have h1 := S_le (p := x) (a := 0) (b := 100000) (k := i) fun j hj => by have := pwE_zero (fst_zero he j hj); have := hall j (by omega); omega
  have h2 := S_le (p := cK m p q x) (a := -1200000000000) (b := 1200000000000) (k := i) fun j hj => C_le (hall j (by omega)).2.1 (x j) (Nat.le_refl _)
  omega

end Go.Proofs.Ytinamdapdlnlnaa
