/-
  Plain facts about convex functions: sums of pieces, unit by unit.
-/
import Derived.Test.YtkkkldhilofgmaaCvx
namespace Go.Proofs.Ytkkkldhilofgmaa
open Go.RowKit

/-- the piece of unit m -/
theorem piece {p : Nat → Int} {n : Nat} (hp : ∀ k, k < n → 1 ≤ p k) {m : Int} (h0 : 0 ≤ m) (h1 : m < S p n) : ∃ i, i < n ∧ S p i ≤ m ∧ m < S p (i + 1) := by
  induction n with
  | zero => simp only [S] at h1; omega
  | succ n ih =>
    by_cases h : m < S p n
    · obtain ⟨i, a, b⟩ := ih (fun k hk => hp k (by omega)) h
      exact ⟨i, by omega, b⟩
    · exact ⟨n, by omega, by omega, h1⟩
theorem cx_one {f g : Nat → Int} {d : Int} {i : Nat} : ∀ {n : Nat}, i < n → (∀ k, k < n → k ≠ i → g k = f k) → g i = f i + d → S g n = S f n + d
  | 0, h, _, _ => absurd h (Nat.not_lt_zero _)
  | n + 1, h, h1, h2 => by
    simp only [S]
    rcases Nat.lt_succ_iff_lt_or_eq.1 h with hlt | rfl
    · rw [cx_one hlt (fun k hk hne => h1 k (by omega) hne) h2, h1 n (by omega) (by omega)]
      omega
    · have : ∀ {m : Nat}, m ≤ i → S g m = S f m := by
        intro m
        induction m with
        | zero => intro _; rfl
        | succ m ih => intro hm; simp only [S]; rw [ih (by omega), h1 m (by omega) (by omega)]
      rw [this (Nat.le_refl _), h2]
      omega
/-- one unit more costs the slope of its piece -/
theorem ct_step {p q : Nat → Int} {n i : Nat} (hp : ∀ k, k < n → 1 ≤ p k) (hi : i < n) {m : Int} (h0 : S p i ≤ m) (h1 : m < S p (i + 1)) : S (ct p q (m + 1)) n = S (ct p q m) n + q i := by
  have hm0 : ∀ k, k < n → 0 ≤ p k := fun k hk => by have := hp k hk; omega
  refine cx_one hi (fun k hk hne => ?_) ?_
  · rcases Nat.lt_or_gt_of_ne hne with h | h
    · have h2 := S_mono (p := p) (i := k + 1) (j := i) (fun j hj => hm0 j (by omega)) (by omega)
      simp only [S] at h2
      unfold ct
      rw [show min (max (m + 1 - S p k) 0) (p k) = p k by omega, show min (max (m - S p k) 0) (p k) = p k by omega]
    · have h2 := S_mono (p := p) (i := i + 1) (j := k) (fun j hj => hm0 j (by omega)) (by omega)
      have := hm0 k hk
      unfold ct
      rw [show min (max (m + 1 - S p k) 0) (p k) = 0 by omega, show min (max (m - S p k) 0) (p k) = 0 by omega]
  · simp only [S] at h1
    unfold ct
    rw [show min (max (m + 1 - S p i) 0) (p i) = (m - S p i) + 1 by omega, show min (max (m - S p i) 0) (p i) = m - S p i by omega, Int.add_mul, Int.one_mul]
theorem ct_zero {p q : Nat → Int} {n : Nat} (hp : ∀ k, k < n → 1 ≤ p k) : S (ct p q 0) n = 0 := by
  have : ∀ m, m ≤ n → S (ct p q 0) m = 0 ∧ 0 ≤ S p m := by
    intro m
    induction m with
    | zero => intro _; simp [S]
    | succ m ih =>
      intro hm
      have h1 := ih (by omega)
      have h2 := hp m (by omega)
      simp only [S]
      refine ⟨?_, by omega⟩
      unfold ct
      rw [show S (fun k => min (max (0 - S p k) 0) (p k) * q k) m = 0 from h1.1, show min (max (0 - S p m) 0) (p m) = 0 by omega, Int.zero_mul]
      rfl
  exact (this n (Nat.le_refl n)).1
theorem ct_full {p q : Nat → Int} : ∀ {n : Nat}, (∀ k, k < n → 1 ≤ p k) → ∀ {i : Nat}, i ≤ n → S (ct p q (S p i)) n = S (fun k => p k * q k) i := by
  intro n hp i hi
  have hm0 : ∀ k, k < n → 0 ≤ p k := fun k hk => by have := hp k hk; omega
  have a : ∀ m, m ≤ i → S (ct p q (S p i)) m = S (fun k => p k * q k) m := by
    intro m
    induction m with
    | zero => intro _; rfl
    | succ m ih =>
      intro hm
      have h2 := S_mono (p := p) (i := m + 1) (j := i) (fun j hj => hm0 j (by omega)) (by omega)
      have h3 := hp m (by omega)
      simp only [S] at h2 ⊢
      rw [ih (by omega)]
      unfold ct
      rw [show min (max (S p i - S p m) 0) (p m) = p m by omega]
  have b : ∀ m, i ≤ m → m ≤ n → S (ct p q (S p i)) m = S (fun k => p k * q k) i := by
    intro m
    induction m with
    | zero => intro h1 h2; obtain rfl : i = 0 := by omega
              rfl
    | succ m ih =>
      intro h1 h2
      rcases Nat.eq_or_lt_of_le h1 with rfl | hlt
      · exact a _ (Nat.le_refl _)
      · have h3 := ih (by omega) (by omega)
        have h4 := S_mono (p := p) (i := i) (j := m) (fun j hj => hm0 j (by omega)) (by omega)
        have h5 := hp m (by omega)
        simp only [S]
        rw [h3]
        unfold ct
        rw [show min (max (S p i - S p m) 0) (p m) = 0 by omega]
        omega
  exact b n hi (Nat.le_refl n)
/-- where the slopes reach t -/
theorem SP1_at {p q : Nat → Int} {t : Int} : ∀ {n : Nat}, (∀ i j, i < j → j < n → q i < q j) → ∃ j, j ≤ n ∧ (∀ k, k < j → q k < t) ∧ (∀ k, j ≤ k → k < n → t ≤ q k) ∧ S (SP1 p q t) n = S p j
  | 0, _ => ⟨0, Nat.le_refl _, fun k hk => absurd hk (Nat.not_lt_zero _), fun k _ hk => absurd hk (Nat.not_lt_zero _), rfl⟩
  | n + 1, h => by
    obtain ⟨j, h1, h2, h3, h4⟩ := SP1_at (p := p) (q := q) (t := t) (n := n) fun i j hij hj => h i j hij (by omega)
    simp only [S, SP1]
    by_cases hq : q n < t
    · refine ⟨n + 1, Nat.le_refl _, fun k hk => ?_, fun k a b => by omega, ?_⟩
      · rcases Nat.lt_succ_iff_lt_or_eq.1 hk with hlt | rfl
        · have := h k n hlt (by omega); omega
        · exact hq
      · rw [if_pos hq]
        have hj : j = n := by
          rcases Nat.eq_or_lt_of_le h1 with e | e
          · exact e
          · have := h3 j (Nat.le_refl _) e
            have := h j n e (by omega)
            omega
        subst hj
        simp only [S]
        rw [h4]
    · refine ⟨j, by omega, h2, fun k a b => ?_, ?_⟩
      · rcases Nat.lt_succ_iff_lt_or_eq.1 b with hlt | rfl
        · exact h3 k a hlt
        · omega
      · rw [if_neg hq, h4]
        omega

/-- the slope of a unit is below t just in the first units -/
theorem unit_lt {p q : Nat → Int} {n : Nat} (hp : ∀ k, k < n → 1 ≤ p k) (hq : ∀ i j, i < j → j < n → q i < q j) (t : Int) {i : Nat} (hi : i < n) {m : Int} (h0 : S p i ≤ m) (h1 : m < S p (i + 1)) : (m < S (SP1 p q t) n → q i < t) ∧ (S (SP1 p q t) n ≤ m → t ≤ q i) := by
  have hm0 : ∀ k, k < n → 0 ≤ p k := fun k hk => by have := hp k hk; omega
  obtain ⟨j, a1, a2, a3, a4⟩ := SP1_at (p := p) (q := q) (t := t) hq
  rw [a4]
  refine ⟨fun h => ?_, fun h => ?_⟩
  · by_cases hij : i < j
    · exact a2 i hij
    · have := S_mono (p := p) (i := j) (j := i) (fun k hk => hm0 k (by omega)) (by omega); omega
  · by_cases hij : i < j
    · have := S_mono (p := p) (i := i + 1) (j := j) (fun k hk => hm0 k (by omega)) (by omega); omega
    · exact a3 i (by omega) hi
theorem SP1_in {p q : Nat → Int} {n : Nat} (hp : ∀ k, k < n → 1 ≤ p k) (t : Int) : 0 ≤ S (SP1 p q t) n ∧ S (SP1 p q t) n ≤ S p n := by
  induction n with
  | zero => simp [S]
  | succ n ih =>
    have := ih fun k hk => hp k (by omega)
    have := hp n (by omega)
    simp only [S, SP1] at *
    split <;> omega
/-- falls up to l, and rises from there -/
theorem fall_rise {g : Nat → Int} {l T : Nat} (h2 : ∀ k, l ≤ k → k < T → g k ≤ g (k + 1)) : ∀ k, l ≤ k → k ≤ T → g l ≤ g k := by
  intro k
  induction k with
  | zero => intro h _; obtain rfl : l = 0 := by omega
            exact Int.le_refl _
  | succ k ih =>
    intro h hk
    rcases Nat.eq_or_lt_of_le h with rfl | hlt
    · exact Int.le_refl _
    · have := ih (by omega) (by omega)
      have := h2 k (by omega) (by omega)
      omega
theorem rise_fall {g : Nat → Int} {l T : Nat} (h2 : ∀ k, l ≤ k → k < T → g (k + 1) ≤ g k) (k : Nat) (h : l ≤ k) (hk : k ≤ T) : g k ≤ g l := by
  have := fall_rise (g := fun k => - g k) (l := l) (T := T) (fun k a b => by have := h2 k a b; omega) k h hk
  omega

end Go.Proofs.Ytkkkldhilofgmaa
