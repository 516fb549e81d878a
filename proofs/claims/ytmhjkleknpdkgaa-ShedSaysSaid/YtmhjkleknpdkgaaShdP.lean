/-
  Load shedding: stages, their error, the run of low frequencies; a plain law.
-/
import Derived.Test.YtmhjkleknpdkgaaName4
namespace Go.Proofs.Ytmhjkleknpdkgaa
open Go.RowKit

/-- stages -/
structure Shs where
  m : Nat
  be : Nat → Int
  wa : Nat → Int
  nl : Nat → Nat
  ld : Nat → Nat → ByteArray
def cShs (s : Shs) : Nat → Nat → L := fun k j => [iL (s.be k), iL (s.wa k), .sl 1 (s.nl k) (cS (s.ld k))].getD j .un
/-- the loads of a stage; of the stages below k -/
def ldL (s : Shs) (k n : Nat) : List ByteArray := (List.range n).map (s.ld k)
def allL (s : Shs) : Nat → List ByteArray
  | 0 => []
  | k + 1 => allL s k ++ ldL s k (s.nl k)
theorem ldL_succ (s : Shs) (k n : Nat) : ldL s k (n + 1) = ldL s k n ++ [s.ld k n] := by
  unfold ldL
  rw [List.range_succ, List.map_append]
  rfl
theorem ldL_mem {s : Shs} {k n : Nat} {x : ByteArray} : x ∈ ldL s k n ↔ ∃ j, j < n ∧ s.ld k j = x := by
  unfold ldL
  rw [List.mem_map]
  constructor
  · rintro ⟨j, h1, h2⟩; exact ⟨j, List.mem_range.1 h1, h2⟩
  · rintro ⟨j, h1, h2⟩; exact ⟨j, List.mem_range.2 h1, h2⟩
theorem allL_mem {s : Shs} {x : ByteArray} : ∀ {k : Nat}, x ∈ allL s k ↔ ∃ t, t < k ∧ x ∈ ldL s t (s.nl t)
  | 0 => ⟨fun h => (List.not_mem_nil h).elim, fun ⟨t, h, _⟩ => absurd h (Nat.not_lt_zero t)⟩
  | k + 1 => by
    rw [allL, List.mem_append, allL_mem (k := k)]
    constructor
    · rintro (⟨t, h1, h2⟩ | h)
      · exact ⟨t, by omega, h2⟩
      · exact ⟨k, by omega, h⟩
    · rintro ⟨t, h1, h2⟩
      by_cases e : t = k
      · subst e; exact .inr h2
      · exact .inl ⟨t, by omega, h2⟩
/-- a name was there before -/
def twB (s : Shs) (k i : Nat) : Bool := inK (s.ld k i) (allL s k ++ ldL s k i)
/-- the error of a load; of a stage; of all -/
def ldE (s : Shs) (k i : Nat) : Int := if nameB (s.ld k i) = true then (if twB s k i = true then 7 else 0) else 6
def rgB (s : Shs) (k : Nat) : Prop := (-10000 ≤ s.be k ∧ s.be k ≤ -1) ∧ 1 ≤ s.wa k ∧ s.wa k ≤ 60
instance (s : Shs) (k : Nat) : Decidable (rgB s k) := by unfold rgB; infer_instance
def stE (s : Shs) (k : Nat) : Int := if rgB s k then (if 0 < k ∧ s.be k ≥ s.be (k - 1) then 3 else if 12 < s.nl k then 2 else fst (ldE s k) (s.nl k)) else 4
def shE (s : Shs) : Int := if 8 < s.m then 2 else fst (stE s) s.m
theorem stE_rg {s : Shs} {k : Nat} (h : ¬ rgB s k) : stE s k = 4 := if_neg h
theorem stE_fm {s : Shs} {k : Nat} (h : rgB s k) (h2 : 0 < k ∧ s.be k ≥ s.be (k - 1)) : stE s k = 3 := (if_pos h).trans (if_pos h2)
theorem stE_lg {s : Shs} {k : Nat} (h : rgB s k) (h2 : ¬ (0 < k ∧ s.be k ≥ s.be (k - 1))) (h3 : 12 < s.nl k) : stE s k = 2 := (if_pos h).trans ((if_neg h2).trans (if_pos h3))
theorem stE_ld {s : Shs} {k : Nat} (h : rgB s k) (h2 : ¬ (0 < k ∧ s.be k ≥ s.be (k - 1))) (h3 : ¬ 12 < s.nl k) : stE s k = fst (ldE s k) (s.nl k) := (if_pos h).trans ((if_neg h2).trans (if_neg h3))
theorem shE_at {s : Shs} {k : Nat} {c : Int} (h8 : ¬ 8 < s.m) (h0 : ∀ j, j < k → stE s j = 0) (hk : k < s.m) (he : stE s k = c) (hc : c ≠ 0) : c = shE s := (fst_eq (fst_of h0) hk he hc).trans (if_neg h8).symm
theorem shE_ld {s : Shs} {k i : Nat} {c : Int} (h8 : ¬ 8 < s.m) (h0 : ∀ j, j < k → stE s j = 0) (hk : k < s.m) (h : rgB s k) (h2 : ¬ (0 < k ∧ s.be k ≥ s.be (k - 1))) (h3 : ¬ 12 < s.nl k) (hi0 : ∀ j, j < i → ldE s k j = 0) (hi : i < s.nl k) (he : ldE s k i = c) (hc : c ≠ 0) : c = shE s :=
  shE_at h8 h0 hk ((stE_ld h h2 h3).trans (fst_eq (fst_of hi0) hi he hc).symm) hc
/-- the run of low frequencies at the end -/
def runL (g : Nat → Int) (b : Int) : Nat → Nat
  | 0 => 0
  | t + 1 => if g t < b then runL g b t + 1 else 0
/-- whether a stage has acted: by the definition -/
def actP (g : Nat → Int) (b w : Int) (t : Nat) : Prop := ∃ e : Nat, e ≤ t ∧ w ≤ e ∧ ∀ i : Nat, (e : Int) - w ≤ i → i < e → g i < b
theorem run_le (g : Nat → Int) (b : Int) : ∀ t, runL g b t ≤ t
  | 0 => Nat.le_refl 0
  | t + 1 => by
    have := run_le g b t
    simp only [runL]
    split <;> omega
theorem run_low {g : Nat → Int} {b : Int} : ∀ {t i : Nat}, t ≤ i + runL g b t → i < t → g i < b
  | 0, i, _, h => absurd h (Nat.not_lt_zero i)
  | t + 1, i, h1, h2 => by
    simp only [runL] at h1
    by_cases e : g t < b
    · rw [if_pos e] at h1
      by_cases e2 : i = t
      · subst e2; exact e
      · exact run_low (t := t) (by omega) (by omega)
    · rw [if_neg e] at h1
      omega
theorem run_ge {g : Nat → Int} {b : Int} {w : Nat} : ∀ {t : Nat}, w ≤ t → (∀ i, t - w ≤ i → i < t → g i < b) → w ≤ runL g b t
  | 0, h, _ => by omega
  | t + 1, h1, h2 => by
    simp only [runL]
    by_cases e0 : w = 0
    · omega
    rw [if_pos (h2 t (by omega) (by omega))]
    have := run_ge (g := g) (b := b) (w := w - 1) (t := t) (by omega) fun i h3 h4 => h2 i (by omega) (by omega)
    omega
theorem act_zero {g : Nat → Int} {b w : Int} (hw : 1 ≤ w) : ¬ actP g b w 0 := fun ⟨e, h1, h2, _⟩ => by omega
theorem act_succ {g : Nat → Int} {b w : Int} (hw : 1 ≤ w) (t : Nat) : actP g b w (t + 1) ↔ actP g b w t ∨ w ≤ runL g b (t + 1) := by
  constructor
  · rintro ⟨e, h1, h2, h3⟩
    by_cases h : e ≤ t
    · exact .inl ⟨e, h, h2, h3⟩
    · obtain rfl : e = t + 1 := by omega
      have := run_ge (g := g) (b := b) (w := w.toNat) (t := t + 1) (by omega) fun i h4 h5 => h3 i (by omega) h5
      exact .inr (by omega)
  · rintro (⟨e, h1, h2, h3⟩ | h)
    · exact ⟨e, by omega, h2, h3⟩
    · have := run_le g b (t + 1)
      exact ⟨t + 1, Nat.le_refl _, by omega, fun i h4 h5 => run_low (t := t + 1) (by omega) h5⟩
theorem run_congr {g g' : Nat → Int} {b : Int} : ∀ {t : Nat}, (∀ i, i < t → g i = g' i) → runL g b t = runL g' b t
  | 0, _ => rfl
  | t + 1, h => by
    simp only [runL]
    rw [run_congr (t := t) fun i hi => h i (by omega), h t (by omega)]
theorem act_congr {g g' : Nat → Int} {b w : Int} {t : Nat} (h : ∀ i, i < t → g i = g' i) (ha : actP g b w t) : actP g' b w t := by
  obtain ⟨e, h1, h2, h3⟩ := ha
  exact ⟨e, h1, h2, fun i h4 h5 => by rw [← h i (by omega)]; exact h3 i h4 h5⟩
end Go.Proofs.Ytmhjkleknpdkgaa
