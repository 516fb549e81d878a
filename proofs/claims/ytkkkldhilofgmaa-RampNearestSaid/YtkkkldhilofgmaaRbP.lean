/-
  Blocks in the order of their prices, of which the late ones may be taken up to a limit only: what is taken is ahead of all that is permitted. Plain laws.
-/
import Derived.Test.YtkkkldhilofgmaaBlkR
import Derived.Test.YtkkkldhilofgmaaWk
namespace Go.Proofs.Ytkkkldhilofgmaa
open Go.RowKit

theorem S_sub2 (f g : Nat → Int) : ∀ n, S (fun i => f i - g i) n = S f n - S g n
  | 0 => rfl
  | n + 1 => by
    have := S_sub2 f g n
    simp only [S] at *
    omega
theorem S_leQ {f g : Nat → Int} : ∀ {n : Nat}, (∀ k, k < n → f k ≤ g k) → S f n ≤ S g n
  | 0, _ => Int.le_refl _
  | n + 1, h => by
    have h1 := S_leQ (n := n) fun k hk => h k (by omega)
    have h2 := h n (by omega)
    simp only [S]
    omega
/-- with prices that do not fall, the row that is ahead costs less -/
theorem abel {c x y : Nat → Int} : ∀ {n : Nat} (C : Int), (∀ b, b + 1 < n → c b ≤ c (b + 1)) → (∀ b, b < n → c b ≤ C) → (∀ b, b ≤ n → S y b ≤ S x b) → S (fun b => x b * c b) n ≤ S (fun b => y b * c b) n + C * (S x n - S y n)
  | 0, C, _, _, _ => by
    show (0 : Int) ≤ 0 + C * (0 - 0)
    omega
  | n + 1, C, hc, hC, h => by
    have hup : ∀ d, d ≤ n → c (n - d) ≤ c n := fun d => by
      induction d with
      | zero => intro _; exact Int.le_refl _
      | succ d ih =>
        intro hd
        have h1 := hc (n - (d + 1)) (by omega)
        rw [show n - (d + 1) + 1 = n - d by omega] at h1
        exact Int.le_trans h1 (ih (by omega))
    have h1 := abel (n := n) (c n) (fun b hb => hc b (by omega)) (fun b hb => by
      have := hup (n - b) (by omega)
      rwa [show n - (n - b) = b by omega] at this) (fun b hb => h b (by omega))
    have h2 := h (n + 1) (Nat.le_refl _)
    have h3 : c n * (S x (n + 1) - S y (n + 1)) ≤ C * (S x (n + 1) - S y (n + 1)) := Int.mul_le_mul_of_nonneg_right (hC n (by omega)) (by omega)
    have e1 : S x (n + 1) = S x n + x n := rfl
    have e2 : S y (n + 1) = S y n + y n := rfl
    have e3 : c n * (S x (n + 1) - S y (n + 1)) = c n * (S x n - S y n) + x n * c n - y n * c n := by
      rw [e1, e2, show S x n + x n - (S y n + y n) = (S x n - S y n) + (x n - y n) by omega, Int.mul_add, Int.mul_sub (c n) (x n), Int.mul_comm (x n), Int.mul_comm (y n)]
      omega
    show S (fun b => x b * c b) n + x n * c n ≤ S (fun b => y b * c b) n + y n * c n + _
    omega
theorem abel0 {c x y : Nat → Int} {n : Nat} (hc : ∀ b, b + 1 < n → c b ≤ c (b + 1)) (h : ∀ b, b ≤ n → S y b ≤ S x b) (e : S x n = S y n) : S (fun b => x b * c b) n ≤ S (fun b => y b * c b) n := by
  have hup : ∀ d, d + 1 ≤ n → c (n - (d + 1)) ≤ c (n - 1) := fun d => by
    induction d with
    | zero => intro _; exact Int.le_refl _
    | succ d ih =>
      intro hd
      have h1 := hc (n - (d + 1 + 1)) (by omega)
      rw [show n - (d + 1 + 1) + 1 = n - (d + 1) by omega] at h1
      exact Int.le_trans h1 (ih (by omega))
  have := abel (c n.pred) hc (fun b hb => by
    have := hup (n - b - 1) (by omega)
    rw [show n - (n - b - 1 + 1) = b by omega] at this
    exact this) h
  rw [e, Int.sub_self, Int.mul_zero] at this
  omega

/-- sizes of the first b, early and late ones -/
def eS (s : Nat → Int) (lt : Nat → Bool) (b : Nat) : Int := S (fun z => if lt z then 0 else s z) b
def lS (s : Nat → Int) (lt : Nat → Bool) (b : Nat) : Int := S (fun z => if lt z then s z else 0) b
theorem eS_lS (s : Nat → Int) (lt : Nat → Bool) : ∀ b, S s b = eS s lt b + lS s lt b
  | 0 => rfl
  | b + 1 => by
    have ih := eS_lS s lt b
    simp only [eS, lS, S] at ih ⊢
    cases lt b <;> simp <;> omega
/-- the demand before position b; what may still be taken of late ones; what is taken at b -/
def gd (T L : Int) (s : Nat → Int) (lt : Nat → Bool) (b : Nat) : Int := T - min T (eS s lt b + min L (lS s lt b))
def gl (T L : Int) (s : Nat → Int) (lt : Nat → Bool) : Nat → Int
  | 0 => L
  | b + 1 => if lt b then gl T L s lt b - min (min (gd T L s lt b) (s b)) (gl T L s lt b) else gl T L s lt b
def gn (T L : Int) (s : Nat → Int) (lt : Nat → Bool) (b : Nat) : Int := if lt b then min (min (gd T L s lt b) (s b)) (gl T L s lt b) else min (gd T L s lt b) (s b)

section
variable {T L : Int} {s : Nat → Int} {lt : Nat → Bool} {N : Nat}
theorem gl_inv (hT : 0 ≤ T) (hL : 0 ≤ L) (hs : ∀ z, z < N → 0 ≤ s z) : ∀ b, b ≤ N → (0 ≤ gl T L s lt b ∧ gl T L s lt b ≤ L) ∧ (0 < gd T L s lt b → gl T L s lt b = L - min L (lS s lt b))
  | 0, _ => by
    refine ⟨⟨hL, Int.le_refl _⟩, fun _ => ?_⟩
    show L = L - min L 0
    omega
  | b + 1, hb => by
    obtain ⟨⟨h1, h2⟩, h3⟩ := gl_inv hT hL hs b (by omega)
    have h4 := hs b (by omega)
    cases hc : lt b with
    | false =>
      have e1 : gl T L s lt (b + 1) = gl T L s lt b := by simp [gl, hc]
      have e2 : lS s lt (b + 1) = lS s lt b := by simp [lS, S, hc]
      have e3 : eS s lt (b + 1) = eS s lt b + s b := by simp [eS, S, hc]
      rw [e1]
      refine ⟨⟨h1, h2⟩, fun h => ?_⟩
      rw [e2]
      refine h3 ?_
      unfold gd at h ⊢
      rw [e2, e3] at h
      omega
    | true =>
      have e1 : gl T L s lt (b + 1) = gl T L s lt b - min (min (gd T L s lt b) (s b)) (gl T L s lt b) := by simp [gl, hc]
      have e2 : lS s lt (b + 1) = lS s lt b + s b := by simp [lS, S, hc]
      have e3 : eS s lt (b + 1) = eS s lt b := by simp [eS, S, hc]
      have h5 : 0 ≤ gd T L s lt b := by unfold gd; omega
      refine ⟨by rw [e1]; omega, fun h => ?_⟩
      rw [e1, e2]
      unfold gd at h h3 h5 ⊢
      rw [e2, e3] at h
      have h6 := h3 (by omega)
      omega
theorem gd_nn (T L : Int) (s : Nat → Int) (lt : Nat → Bool) (b : Nat) : 0 ≤ gd T L s lt b := by unfold gd; omega
theorem gn_b (hT : 0 ≤ T) (hL : 0 ≤ L) (hs : ∀ z, z < N → 0 ≤ s z) {b : Nat} (hb : b < N) : 0 ≤ gn T L s lt b ∧ gn T L s lt b ≤ s b ∧ gn T L s lt b ≤ gd T L s lt b := by
  have h1 := (gl_inv (lt := lt) hT hL hs b (by omega)).1
  have h2 := hs b hb
  have h3 := gd_nn T L s lt b
  unfold gn
  split <;> omega
theorem gd_step (hT : 0 ≤ T) (hL : 0 ≤ L) (hs : ∀ z, z < N → 0 ≤ s z) {b : Nat} (hb : b < N) : gd T L s lt (b + 1) = gd T L s lt b - gn T L s lt b := by
  obtain ⟨h1, h3⟩ := gl_inv (lt := lt) hT hL hs b (by omega)
  have h4 := hs b hb
  cases hc : lt b with
  | false =>
    have e0 : gn T L s lt b = min (gd T L s lt b) (s b) := by simp [gn, hc]
    have e2 : lS s lt (b + 1) = lS s lt b := by simp [lS, S, hc]
    have e3 : eS s lt (b + 1) = eS s lt b + s b := by simp [eS, S, hc]
    rw [e0]
    unfold gd
    rw [e2, e3]
    omega
  | true =>
    have e0 : gn T L s lt b = min (min (gd T L s lt b) (s b)) (gl T L s lt b) := by simp [gn, hc]
    have e2 : lS s lt (b + 1) = lS s lt b + s b := by simp [lS, S, hc]
    have e3 : eS s lt (b + 1) = eS s lt b := by simp [eS, S, hc]
    rw [e0]
    rcases Int.lt_or_le 0 (gd T L s lt b) with h5 | h5
    · rw [h3 h5]
      unfold gd at h5 ⊢
      rw [e2, e3]
      omega
    · have h6 := gd_nn T L s lt b
      have h7 : gd T L s lt b = 0 := by omega
      have h8 : gd T L s lt (b + 1) = 0 := by
        unfold gd at h7 ⊢
        rw [e2, e3]
        omega
      rw [h7, h8]
      omega
theorem gn_sum (hT : 0 ≤ T) (hL : 0 ≤ L) (hs : ∀ z, z < N → 0 ≤ s z) : ∀ b, b ≤ N → S (gn T L s lt) b = T - gd T L s lt b
  | 0, _ => by
    show (0 : Int) = T - (T - min T (0 + min L 0))
    omega
  | b + 1, hb => by
    have h1 := gn_sum hT hL hs b (by omega)
    have h2 := gd_step (lt := lt) hT hL hs (b := b) (by omega)
    simp only [S]
    omega
theorem gn_late (T L : Int) (s : Nat → Int) (lt : Nat → Bool) : ∀ b, lS (gn T L s lt) lt b = L - gl T L s lt b
  | 0 => by
    show (0 : Int) = L - L
    omega
  | b + 1 => by
    have h1 := gn_late T L s lt b
    cases hc : lt b with
    | false =>
      have e1 : gl T L s lt (b + 1) = gl T L s lt b := by simp [gl, hc]
      have e2 : lS (gn T L s lt) lt (b + 1) = lS (gn T L s lt) lt b := by simp [lS, S, hc]
      rw [e1, e2, h1]
    | true =>
      have e1 : gl T L s lt (b + 1) = gl T L s lt b - gn T L s lt b := by simp [gl, gn, hc]
      have e2 : lS (gn T L s lt) lt (b + 1) = lS (gn T L s lt) lt b + gn T L s lt b := by simp [lS, S, hc]
      rw [e1, e2, h1]
      omega
/-- no row that is permitted is ahead of it -/
theorem gn_ahead (hT : 0 ≤ T) (hL : 0 ≤ L) (hs : ∀ z, z < N → 0 ≤ s z) {y : Nat → Int} (hy : ∀ z, z < N → 0 ≤ y z ∧ y z ≤ s z) (hyT : S y N ≤ T) (hyL : lS y lt N ≤ L) {b : Nat} (hb : b ≤ N) : S y b ≤ S (gn T L s lt) b := by
  rw [gn_sum hT hL hs b hb]
  have h1 : S y b ≤ S y N := by
    have : ∀ d, b + d ≤ N → S y b ≤ S y (b + d) := fun d => by
      induction d with
      | zero => intro _; exact Int.le_refl _
      | succ d ih =>
        intro hd
        have h2 := ih (by omega)
        have h3 := hy (b + d) (by omega)
        show _ ≤ S y (b + d) + y (b + d)
        omega
    have := this (N - b) (by omega)
    rwa [show b + (N - b) = N by omega] at this
  have h2 : lS y lt b ≤ lS y lt N := by
    have : ∀ d, b + d ≤ N → lS y lt b ≤ lS y lt (b + d) := fun d => by
      induction d with
      | zero => intro _; exact Int.le_refl _
      | succ d ih =>
        intro hd
        have h2 := ih (by omega)
        have h3 := hy (b + d) (by omega)
        have e : lS y lt (b + d + 1) = lS y lt (b + d) + (if lt (b + d) then y (b + d) else 0) := rfl
        show _ ≤ lS y lt (b + d + 1)
        rw [e]
        split <;> omega
    have := this (N - b) (by omega)
    rwa [show b + (N - b) = N by omega] at this
  have h3 : lS y lt b ≤ lS s lt b := S_leQ fun z hz => by
    have := hy z (by omega)
    split <;> omega
  have h4 : eS y lt b ≤ eS s lt b := S_leQ fun z hz => by
    have := hy z (by omega)
    split <;> omega
  have h5 := eS_lS y lt b
  unfold gd
  omega
end
end Go.Proofs.Ytkkkldhilofgmaa
