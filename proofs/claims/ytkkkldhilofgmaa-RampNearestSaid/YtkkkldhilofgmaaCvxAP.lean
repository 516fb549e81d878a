/-
  The sum of two functions piece by piece: plain law.
-/
import Derived.Test.YtkkkldhilofgmaaCvxJ
namespace Go.Proofs.Ytkkkldhilofgmaa
open Go.RowKit

/-- what is taken, and the places, after so many pieces -/
def adS (p p' : Nat → Int) : Nat → Int × Nat × Nat
  | 0 => (0, 0, 0)
  | k + 1 => (min (S p ((adS p p' k).2.1 + 1)) (S p' ((adS p p' k).2.2 + 1)),
      if S p ((adS p p' k).2.1 + 1) ≤ S p' ((adS p p' k).2.2 + 1) then (adS p p' k).2.1 + 1 else (adS p p' k).2.1,
      if S p' ((adS p p' k).2.2 + 1) ≤ S p ((adS p p' k).2.1 + 1) then (adS p p' k).2.2 + 1 else (adS p p' k).2.2)
def adT (p p' : Nat → Int) (k : Nat) : Int := (adS p p' k).1
def adA (p p' : Nat → Int) (k : Nat) : Nat := (adS p p' k).2.1
def adB (p p' : Nat → Int) (k : Nat) : Nat := (adS p p' k).2.2
theorem adT_s (p p' : Nat → Int) (k : Nat) : adT p p' (k + 1) = min (S p (adA p p' k + 1)) (S p' (adB p p' k + 1)) := rfl
theorem adA_s (p p' : Nat → Int) (k : Nat) : adA p p' (k + 1) = if S p (adA p p' k + 1) ≤ S p' (adB p p' k + 1) then adA p p' k + 1 else adA p p' k := rfl
theorem adB_s (p p' : Nat → Int) (k : Nat) : adB p p' (k + 1) = if S p' (adB p p' k + 1) ≤ S p (adA p p' k + 1) then adB p p' k + 1 else adB p p' k := rfl
def adP (p p' : Nat → Int) (k : Nat) : Int := adT p p' (k + 1) - adT p p' k
def adQ (p q p' q' : Nat → Int) (k : Nat) : Int := q (adA p p' k) + q' (adB p p' k)
/-- what is left of a piece when T is taken -/
def rest (p : Nat → Int) (T : Int) (j : Nat) : Int := min (p j) (max 0 (S p (j + 1) - T))
structure AdI (n m : Nat) (p p' : Nat → Int) (k : Nat) : Prop where
  a : adA p p' k ≤ n
  b : adB p p' k ≤ m
  la : S p (adA p p' k) ≤ adT p p' k
  lb : S p' (adB p p' k) ≤ adT p p' k
  ha : adA p p' k < n → adT p p' k < S p (adA p p' k + 1)
  hb : adB p p' k < m → adT p p' k < S p' (adB p p' k + 1)
  k1 : k ≤ adA p p' k + adB p p' k
  t : 0 ≤ adT p p' k
  d : k = 0 ∨ adT p p' k ≤ S p n ∧ adT p p' k ≤ S p' m
variable {n m k : Nat} {p p' q q' : Nat → Int}
theorem AdI.zero (hp : ∀ j, j < n → 1 ≤ p j) (hp' : ∀ j, j < m → 1 ≤ p' j) : AdI n m p p' 0 := by
  refine ⟨Nat.zero_le _, Nat.zero_le _, ?_, ?_, fun h => ?_, fun h => ?_, Nat.zero_le _, ?_, .inl rfl⟩
  · exact Int.le_refl 0
  · exact Int.le_refl 0
  · have := hp 0 h
    show (0 : Int) < 0 + p 0
    omega
  · have := hp' 0 h
    show (0 : Int) < 0 + p' 0
    omega
  · exact Int.le_refl 0
theorem AdI.step (h : AdI n m p p' k) (hp : ∀ j, j < n → 1 ≤ p j) (hp' : ∀ j, j < m → 1 ≤ p' j) (ha : adA p p' k < n) (hb : adB p p' k < m) : AdI n m p p' (k + 1) ∧ 0 < adP p p' k := by
  have e1 := h.ha ha
  have e2 := h.hb hb
  have e3 := h.t
  have l1 := h.la
  have l2 := h.lb
  have lk := h.k1
  have m1 := S_mono (p := p) (i := adA p p' k + 1) (j := n) (fun j hj => by have := hp j hj; omega) ha
  have m2 := S_mono (p := p') (i := adB p p' k + 1) (j := m) (fun j hj => by have := hp' j hj; omega) hb
  have s1 : S p (adA p p' k + 1 + 1) = S p (adA p p' k + 1) + p (adA p p' k + 1) := rfl
  have s2 : S p' (adB p p' k + 1 + 1) = S p' (adB p p' k + 1) + p' (adB p p' k + 1) := rfl
  have p1 := hp (adA p p' k + 1)
  have p2 := hp' (adB p p' k + 1)
  refine ⟨⟨?_, ?_, ?_, ?_, ?_, ?_, ?_, ?_, .inr ?_⟩, ?_⟩
  · rw [adA_s]; split <;> omega
  · rw [adB_s]; split <;> omega
  · rw [adA_s, adT_s]; split <;> omega
  · rw [adB_s, adT_s]; split <;> omega
  · rw [adA_s, adT_s]; split
    · intro h1; have := p1 h1; omega
    · intro _; omega
  · rw [adB_s, adT_s]; split
    · intro h1; have := p2 h1; omega
    · intro _; omega
  · rw [adA_s, adB_s]; split <;> split <;> omega
  · rw [adT_s]; omega
  · rw [adT_s]; omega
  · unfold adP; rw [adT_s]; omega
/-- when one is at its end, so is the other -/
theorem AdI.done (h : AdI n m p p' k) (hp : ∀ j, j < n → 1 ≤ p j) (hp' : ∀ j, j < m → 1 ≤ p' j) (hS : S p n = S p' m) (hd : ¬ (adA p p' k < n ∧ adB p p' k < m)) : adA p p' k = n ∧ adB p p' k = m ∧ (adT p p' k = S p n) := by
  have ha := h.a
  have hb := h.b
  have l1 := h.la
  have l2 := h.lb
  have z1 := S_mono (p := p) (i := 0) (j := n) (fun j hj => by have := hp j hj; omega) (Nat.zero_le _)
  have hT : adT p p' k ≤ S p n ∧ adT p p' k ≤ S p' m := by
    rcases h.d with h0 | h0
    · subst h0
      have : adT p p' 0 = 0 := rfl
      have : S p 0 = 0 := rfl
      omega
    · exact h0
  by_cases h1 : adA p p' k < n
  · have h2 : adB p p' k = m := by omega
    have h3 := h.ha h1
    have m1 := S_mono (p := p) (i := adA p p' k + 1) (j := n) (fun j hj => by have := hp j hj; omega) h1
    rw [h2] at l2
    omega
  · have h2 : adA p p' k = n := by omega
    by_cases h3 : adB p p' k < m
    · have h4 := h.hb h3
      have m1 := S_mono (p := p') (i := adB p p' k + 1) (j := m) (fun j hj => by have := hp' j hj; omega) h3
      rw [h2] at l1
      omega
    · rw [h2] at l1
      exact ⟨h2, by omega, by omega⟩
theorem adP_S : ∀ k, S (adP p p') k = adT p p' k
  | 0 => rfl
  | k + 1 => by
    have := adP_S k
    show S (adP p p') k + (adT p p' (k + 1) - adT p p' k) = _
    omega
theorem rest_at {T : Int} {j : Nat} (h1 : S p j ≤ T) (h2 : T < S p (j + 1)) : rest p T j = S p (j + 1) - T := by
  have : S p (j + 1) = S p j + p j := rfl
  unfold rest
  omega
theorem rest_zero (hp : ∀ j, j < n → 1 ≤ p j) {j : Nat} (hj : j < n) : rest p 0 j = p j := by
  have e : S p (j + 1) = S p j + p j := rfl
  have m1 := S_mono (p := p) (i := 0) (j := j) (fun i hi => by have := hp i (by omega); omega) (Nat.zero_le _)
  have z : S p 0 = 0 := rfl
  have := hp j hj
  unfold rest
  omega
theorem rest_b (hp : ∀ j, j < n → 1 ≤ p j) {j : Nat} (hj : j < n) (T : Int) : 0 ≤ rest p T j ∧ rest p T j ≤ p j := by
  have := hp j hj
  unfold rest
  omega
theorem rest_step (hp : ∀ j, j < n → 1 ≤ p j) {a j : Nat} {T T' : Int} (ha : S p a ≤ T) (h1 : T ≤ T') (h2 : T' ≤ S p (a + 1)) (hj : j < n) (han : a < n) (hne : j ≠ a) : rest p T j = rest p T' j := by
  have e : S p (j + 1) = S p j + p j := rfl
  have hpj := hp j hj
  unfold rest
  rcases Nat.lt_or_gt_of_ne hne with h | h
  · have m1 := S_mono (p := p) (i := j + 1) (j := a) (fun i hi => by have := hp i (by omega); omega) h
    omega
  · have m1 := S_mono (p := p) (i := a + 1) (j := j) (fun i hi => by have := hp i (by omega); omega) h
    omega
/-- within a piece the cost rises by its slope -/
theorem ct_in (hp : ∀ j, j < n → 1 ≤ p j) {i : Nat} (hi : i < n) {x y : Int} (h0 : S p i ≤ x) (h1 : x ≤ y) (h2 : y ≤ S p (i + 1)) : S (ct p q y) n = S (ct p q x) n + q i * (y - x) := by
  obtain ⟨d, hd⟩ : ∃ d : Nat, y = x + d := ⟨(y - x).toNat, by omega⟩
  subst hd
  clear h1
  induction d with
  | zero => simp
  | succ d ih =>
    have h3 := ct_step (q := q) hp hi (m := x + d) (by omega) (by omega)
    rw [show x + ((d + 1 : Nat) : Int) = x + d + 1 by omega, h3, ih (by omega), Int.add_assoc]
    congr 1
    rw [show x + (d : Int) - x = d by omega, show x + (d : Int) + 1 - x = d + 1 by omega, Int.mul_add, Int.mul_one]
/-- the sum's values -/
theorem ad_val (hp : ∀ j, j < n → 1 ≤ p j) (hp' : ∀ j, j < m → 1 ≤ p' j) : ∀ k, (∀ i, i < k → AdI n m p p' i ∧ adA p p' i < n ∧ adB p p' i < m) → ∀ x : Int, 0 ≤ x → x ≤ adT p p' k → S (ct (adP p p') (adQ p q p' q') x) k = S (ct p q x) n + S (ct p' q' x) m
  | 0, _, x, h0, h1 => by
    have e : adT p p' 0 = 0 := rfl
    obtain rfl : x = 0 := by omega
    rw [ct_zero hp, ct_zero hp']
    rfl
  | k + 1, h, x, h0, h1 => by
    have ih := ad_val hp hp' k fun i hi => h i (by omega)
    obtain ⟨hI, ha, hb⟩ := h k (by omega)
    have hst := (hI.step hp hp' ha hb).2
    have eS := adP_S (p := p) (p' := p') k
    have eP : adT p p' (k + 1) = adT p p' k + adP p p' k := by unfold adP; omega
    have ht := adT_s p p' k
    have hpos : ∀ i, i < k → 1 ≤ adP p p' i := fun i hi => by
      obtain ⟨a1, a2, a3⟩ := h i (by omega)
      have := (a1.step hp hp' a2 a3).2
      omega
    show S (ct (adP p p') (adQ p q p' q') x) k + ct (adP p p') (adQ p q p' q') x k = _
    by_cases hx : x ≤ adT p p' k
    · rw [ih x h0 hx]
      have : ct (adP p p') (adQ p q p' q') x k = 0 := by
        unfold ct
        rw [eS, show min (max (x - adT p p' k) 0) (adP p p' k) = 0 by omega, Int.zero_mul]
      omega
    · have e1 : S (ct (adP p p') (adQ p q p' q') x) k = S (ct (adP p p') (adQ p q p' q') (adT p p' k)) k := S_congr fun i hi => by
        have m1 := S_mono (p := adP p p') (i := i + 1) (j := k) (fun j hj => by have := hpos j hj; omega) hi
        have e : S (adP p p') (i + 1) = S (adP p p') i + adP p p' i := rfl
        have := hpos i hi
        unfold ct
        rw [show min (max (x - S (adP p p') i) 0) (adP p p' i) = adP p p' i by omega, show min (max (adT p p' k - S (adP p p') i) 0) (adP p p' i) = adP p p' i by omega]
      have hT0 := hI.t
      rw [e1, ih (adT p p' k) hT0 (Int.le_refl _)]
      have g1 := ct_in (q := q) hp ha (x := adT p p' k) (y := x) hI.la (by omega) (by omega)
      have g2 := ct_in (q := q') hp' hb (x := adT p p' k) (y := x) hI.lb (by omega) (by omega)
      rw [g1, g2]
      have e3 : ct (adP p p') (adQ p q p' q') x k = (x - adT p p' k) * adQ p q p' q' k := by
        unfold ct
        rw [eS, show min (max (x - adT p p' k) 0) (adP p p' k) = x - adT p p' k by omega]
      rw [e3]
      unfold adQ
      rw [Int.mul_add, Int.mul_comm (x - adT p p' k), Int.mul_comm (x - adT p p' k)]
      omega
end Go.Proofs.Ytkkkldhilofgmaa
