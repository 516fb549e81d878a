/-
  An offer between two powers: what is left of its steps.
-/
import Derived.Test.YtemfikdogdadnaaBlkQ
namespace Go.Proofs.Ytemfikdogdadnaa
open Go.RowKit

/-- how many places before k have P -/
def dn (P : Nat → Prop) [DecidablePred P] : Nat → Nat
  | 0 => 0
  | k + 1 => if P k then dn P k + 1 else dn P k
theorem dn_spec {P : Nat → Prop} [DecidablePred P] {m : Nat} (h : ∀ j, j + 1 < m → P (j + 1) → P j) : ∀ k, k ≤ m → dn P k ≤ k ∧ ∀ j, j < k → (P j ↔ j < dn P k)
  | 0, _ => ⟨Nat.le_refl _, fun j hj => absurd hj (Nat.not_lt_zero _)⟩
  | k + 1, hk => by
    obtain ⟨h1, h2⟩ := dn_spec h k (by omega)
    by_cases hP : P k
    · have hall : ∀ d j, j + d = k → P j := fun d => by
        induction d with
        | zero => intro j e; rw [show j = k by omega]; exact hP
        | succ d ih => intro j e; exact h j (by omega) (ih (j + 1) (by omega))
      have hk' : dn P k = k := by
        rcases Nat.eq_zero_or_pos k with e | e
        · omega
        · have := (h2 (k - 1) (by omega)).1 (hall 1 (k - 1) (by omega))
          omega
      simp only [dn]
      rw [if_pos hP, hk']
      refine ⟨Nat.le_refl _, fun j hj => ⟨fun _ => hj, fun _ => hall (k - j) j (by omega)⟩⟩
    · simp only [dn]
      rw [if_neg hP]
      refine ⟨by omega, fun j hj => ?_⟩
      rcases Nat.lt_succ_iff_lt_or_eq.1 hj with hlt | rfl
      · exact h2 j hlt
      · exact ⟨fun hh => absurd hh hP, fun hh => by omega⟩

/-- the first step that goes beyond lo; the steps that begin below hi -/
def rJ (p : Nat → Int) (lo : Int) (m : Nat) : Nat := dn (fun j => S p (j + 1) ≤ lo) m
def rK (p : Nat → Int) (hi : Int) (m : Nat) : Nat := dn (fun j => S p j < hi) m
/-- the steps between lo and hi: how many, their powers, their prices -/
def rM (p : Nat → Int) (m : Nat) (lo hi : Int) : Nat := if lo < hi then rK p hi m - rJ p lo m else 0
def rP (p : Nat → Int) (m : Nat) (lo hi : Int) (j : Nat) : Int := min hi (S p (rJ p lo m + j + 1)) - max lo (S p (rJ p lo m + j))
def rQ (p q : Nat → Int) (m : Nat) (lo : Int) (j : Nat) : Int := q (rJ p lo m + j)

section
variable {p q : Nat → Int} {m : Nat} {lo hi : Int}
theorem S_up (hp : ∀ j, j < m → 1 ≤ p j) {a b : Nat} (h : a ≤ b) (hb : b ≤ m) : S p a ≤ S p b := S_mono (fun z hz => by have := hp z (by omega); omega) h
theorem rJ_spec (hp : ∀ j, j < m → 1 ≤ p j) (lo : Int) : rJ p lo m ≤ m ∧ ∀ j, j < m → (S p (j + 1) ≤ lo ↔ j < rJ p lo m) :=
  dn_spec (P := fun j => S p (j + 1) ≤ lo) (m := m) (fun j hj h => by have := S_up hp (a := j + 1) (b := j + 1 + 1) (by omega) (by omega); omega) m (Nat.le_refl _)
theorem rK_spec (hp : ∀ j, j < m → 1 ≤ p j) (hi : Int) : rK p hi m ≤ m ∧ ∀ j, j < m → (S p j < hi ↔ j < rK p hi m) :=
  dn_spec (P := fun j => S p j < hi) (m := m) (fun j hj h => by have := S_up hp (a := j) (b := j + 1) (by omega) (by omega); omega) m (Nat.le_refl _)
theorem rJ_lo (hp : ∀ j, j < m → 1 ≤ p j) (h0 : 0 ≤ lo) : S p (rJ p lo m) ≤ lo := by
  obtain ⟨h1, h2⟩ := rJ_spec hp lo
  rcases Nat.eq_zero_or_pos (rJ p lo m) with e | e
  · rw [e]; exact h0
  · have := (h2 (rJ p lo m - 1) (by omega)).2 (by omega)
    rw [show rJ p lo m - 1 + 1 = rJ p lo m by omega] at this
    exact this
theorem rM_le (hp : ∀ j, j < m → 1 ≤ p j) : rM p m lo hi ≤ m ∧ (0 < rM p m lo hi → lo < hi ∧ rJ p lo m + rM p m lo hi = rK p hi m) := by
  have h1 := (rK_spec hp hi).1
  unfold rM
  split
  · exact ⟨by omega, fun h => ⟨by assumption, by omega⟩⟩
  · exact ⟨Nat.zero_le _, fun h => absurd h (Nat.lt_irrefl _)⟩
theorem rM_at (hp : ∀ j, j < m → 1 ≤ p j) {j : Nat} (hj : j < rM p m lo hi) : rJ p lo m + j < m ∧ lo < S p (rJ p lo m + j + 1) ∧ S p (rJ p lo m + j) < hi ∧ lo < hi := by
  obtain ⟨h1, h2⟩ := rM_le (lo := lo) (hi := hi) hp
  obtain ⟨h3, h4⟩ := h2 (by omega)
  obtain ⟨h5, h6⟩ := rK_spec hp hi
  obtain ⟨h7, h8⟩ := rJ_spec hp lo
  have h9 : rJ p lo m + j < m := by omega
  refine ⟨h9, ?_, (h6 _ h9).2 (by omega), h3⟩
  have := fun h => (h8 _ h9).1 h
  omega
theorem rP_pos (hp : ∀ j, j < m → 1 ≤ p j) {j : Nat} (hj : j < rM p m lo hi) : 1 ≤ rP p m lo hi j := by
  obtain ⟨h1, h2, h3, h4⟩ := rM_at hp hj
  have h5 := hp _ h1
  have h6 : S p (rJ p lo m + j + 1) = S p (rJ p lo m + j) + p (rJ p lo m + j) := rfl
  unfold rP
  omega
theorem rP_sum (hp : ∀ j, j < m → 1 ≤ p j) (h0 : 0 ≤ lo) : ∀ j, j ≤ rM p m lo hi → S (rP p m lo hi) j = max lo (min hi (S p (rJ p lo m + j))) - lo
  | 0, _ => by
    have := rJ_lo hp h0
    show 0 = _
    rw [Nat.add_zero]
    omega
  | j + 1, hj => by
    obtain ⟨h1, h2, h3, h4⟩ := rM_at (lo := lo) (hi := hi) hp (j := j) (by omega)
    have h5 := hp _ h1
    have h6 : S p (rJ p lo m + j + 1) = S p (rJ p lo m + j) + p (rJ p lo m + j) := rfl
    have ih := rP_sum hp h0 j (by omega)
    show S (rP p m lo hi) j + rP p m lo hi j = _
    rw [ih]
    unfold rP
    rw [← Nat.add_assoc]
    omega
theorem rP_all (hp : ∀ j, j < m → 1 ≤ p j) (h0 : 0 ≤ lo) (h1 : lo ≤ hi) (h2 : hi ≤ S p m) : S (rP p m lo hi) (rM p m lo hi) = hi - lo := by
  rw [rP_sum hp h0 _ (Nat.le_refl _)]
  by_cases h3 : lo < hi
  · obtain ⟨h5, h6⟩ := rK_spec hp hi
    obtain ⟨h7, h8⟩ := rJ_spec hp lo
    have hJK : rJ p lo m ≤ rK p hi m := by
      by_cases h9 : rJ p lo m ≤ rK p hi m
      · exact h9
      · exfalso
        have g1 := (h8 (rK p hi m) (by omega)).2 (by omega)
        have g2 := fun h => (h6 (rK p hi m) (by omega)).1 h
        have g3 := hp (rK p hi m) (by omega)
        have g4 : S p (rK p hi m + 1) = S p (rK p hi m) + p (rK p hi m) := rfl
        omega
    have e : rJ p lo m + rM p m lo hi = rK p hi m := by unfold rM; rw [if_pos h3]; omega
    rw [e]
    have : hi ≤ S p (rK p hi m) := by
      rcases Nat.eq_or_lt_of_le h5 with e | hlt
      · rw [e]; exact h2
      · have g2 := fun h => (h6 _ hlt).1 h
        omega
    omega
  · have e : rM p m lo hi = 0 := by unfold rM; rw [if_neg h3]
    have := rJ_lo hp h0
    rw [e, Nat.add_zero]
    omega
theorem rU (hp : ∀ j, j < m → 1 ≤ p j) (h0 : 0 ≤ lo) (h1 : lo ≤ hi) (h2 : hi ≤ S p m) {x : Int} (hx : 0 ≤ x) : U (rP p m lo hi) (rQ p q m lo) (rM p m lo hi) x = if x < hi - lo then U p q m (lo + x) else 2000000 := by
  by_cases h3 : x < hi - lo
  · rw [if_pos h3]
    obtain ⟨h5, h6⟩ := rK_spec hp hi
    obtain ⟨h7, h8⟩ := rJ_spec hp lo
    obtain ⟨i, i1, i2⟩ := down (fun j => S p (j + 1) ≤ lo + x) m (fun j hj h => by have := S_up hp (a := j + 1) (b := j + 1 + 1) (by omega) (by omega); omega)
    have him : i < m := by
      rcases Nat.eq_or_lt_of_le i1 with e | hlt
      · exfalso
        rcases Nat.eq_zero_or_pos m with e0 | e0
        · rw [e0] at h2; have : S p 0 = 0 := rfl; omega
        · have g := (i2 (m - 1) (by omega)).2 (by omega)
          rw [show m - 1 + 1 = m by omega] at g
          omega
      · exact hlt
    have g1 : lo + x < S p (i + 1) := by have := fun h => (i2 i him).1 h; omega
    have g2 : S p i ≤ lo + x := by
      rcases Nat.eq_zero_or_pos i with e0 | e0
      · rw [e0]; have : S p 0 = 0 := rfl; omega
      · have g := (i2 (i - 1) (by omega)).2 (by omega)
        rw [show i - 1 + 1 = i by omega] at g
        exact g
    have g3 : rJ p lo m ≤ i := by
      by_cases hh : rJ p lo m ≤ i
      · exact hh
      · have := (h8 i him).2 (by omega); omega
    have g4 : i < rK p hi m := (h6 i him).1 (by omega)
    have g5 : i - rJ p lo m < rM p m lo hi := by unfold rM; rw [if_pos (by omega)]; omega
    rw [U_at (i := i) (fun j hj => (i2 j (by omega)).2 hj) g1 him]
    have a1 : ∀ j, j < i - rJ p lo m → S (rP p m lo hi) (j + 1) ≤ x := fun j hj => by
      rw [rP_sum hp h0 _ (by omega)]
      have := (i2 (rJ p lo m + j) (by omega)).2 (by omega)
      rw [← Nat.add_assoc]
      omega
    have a2 : x < S (rP p m lo hi) (i - rJ p lo m + 1) := by
      rw [rP_sum hp h0 _ (by omega), show rJ p lo m + (i - rJ p lo m + 1) = i + 1 by omega]
      omega
    rw [U_at a1 a2 g5]
    unfold rQ
    rw [show rJ p lo m + (i - rJ p lo m) = i by omega]
  · rw [if_neg h3, U_none fun j hj => ?_]
    rw [rP_sum hp h0 _ (by omega)]
    omega
theorem S_plus (f g : Nat → Int) : ∀ n, S (fun i => f i + g i) n = S f n + S g n
  | 0 => rfl
  | n + 1 => by
    have := S_plus f g n
    simp only [S] at *
    omega
/-- a sum over a window -/
theorem S_win (g : Nat → Int) (a b : Nat) : ∀ m, a + b ≤ m → S (fun i => if a ≤ i ∧ i < a + b then g (i - a) else 0) m = S g b := fun m h => by
  obtain ⟨c, rfl⟩ : ∃ c, m = a + (b + c) := ⟨m - a - b, by omega⟩
  rw [S_add, S_add]
  rw [S_zero (fun k hk => if_neg (by omega))]
  rw [S_zero (n := c) (fun k hk => if_neg (by omega))]
  rw [S_congr (g := g) (n := b) (fun k hk => by rw [if_pos (by omega), show a + k - a = k by omega])]
  omega
theorem rct (hp : ∀ j, j < m → 1 ≤ p j) (h0 : 0 ≤ lo) (h1 : lo ≤ hi) (h2 : hi ≤ S p m) {x : Int} (hx : 0 ≤ x) (hx1 : x ≤ hi - lo) : S (ct p q (lo + x)) m = S (ct p q lo) m + S (ct (rP p m lo hi) (rQ p q m lo) x) (rM p m lo hi) := by
  have hle : rJ p lo m + rM p m lo hi ≤ m := by
    have := (rM_le (lo := lo) (hi := hi) hp)
    have h5 := (rK_spec hp hi).1
    have h7 := (rJ_spec hp lo).1
    rcases Nat.eq_zero_or_pos (rM p m lo hi) with e | e
    · omega
    · have := (this.2 e).2; omega
  have key : ∀ i, i < m → ct p q (lo + x) i = ct p q lo i + (if rJ p lo m ≤ i ∧ i < rJ p lo m + rM p m lo hi then ct (rP p m lo hi) (rQ p q m lo) x (i - rJ p lo m) else 0) := fun i hi' => by
    obtain ⟨h5, h6⟩ := rK_spec hp hi
    obtain ⟨h7, h8⟩ := rJ_spec hp lo
    have e6 : S p (i + 1) = S p i + p i := rfl
    have p1 := hp i hi'
    have g8 := h8 i hi'
    by_cases hw : rJ p lo m ≤ i ∧ i < rJ p lo m + rM p m lo hi
    · rw [if_pos hw]
      obtain ⟨a1, a2, a3, a4⟩ := rM_at (p := p) (m := m) (lo := lo) (hi := hi) hp (j := i - rJ p lo m) (by omega)
      have s1 := rP_sum (hi := hi) hp h0 (i - rJ p lo m) (by omega)
      rw [show rJ p lo m + (i - rJ p lo m) = i by omega] at a1 a2 a3 s1
      have amt : min (max (lo + x - S p i) 0) (p i) = min (max (lo - S p i) 0) (p i) + min (max (x - S (rP p m lo hi) (i - rJ p lo m)) 0) (rP p m lo hi (i - rJ p lo m)) := by
        rw [s1]
        unfold rP
        rw [show rJ p lo m + (i - rJ p lo m) = i by omega]
        omega
      unfold ct rQ
      rw [show rJ p lo m + (i - rJ p lo m) = i by omega, amt, Int.add_mul]
    · rw [if_neg hw, Int.add_zero]
      have amt : min (max (lo + x - S p i) 0) (p i) = min (max (lo - S p i) 0) (p i) := by
        by_cases hJ : i < rJ p lo m
        · have := g8.2 hJ
          omega
        · -- beyond the last step
          by_cases hlt : lo < hi
          · have hK : ¬ i < rK p hi m := by
              intro hK
              apply hw
              unfold rM
              rw [if_pos hlt]
              omega
            have : ¬ S p i < hi := fun h => hK ((h6 i hi').1 h)
            omega
          · have : x = 0 := by omega
            subst this
            rw [Int.add_zero]
      unfold ct
      rw [amt]
  rw [S_congr key, ← S_win (ct (rP p m lo hi) (rQ p q m lo) x) (rJ p lo m) (rM p m lo hi) m hle, ← S_plus]
end
end Go.Proofs.Ytemfikdogdadnaa
