/-
  The blocks of units, early and late ones: sums over blocks as sums over units and steps; the cheapest powers. Plain laws.
-/
import Derived.Test.YtemfikdogdadnaaBlkR
import Derived.Test.YtemfikdogdadnaaWk
namespace Go.Proofs.Ytemfikdogdadnaa
open Go.RowKit

theorem S_sub2 (f g : Nat → Int) : ∀ n, S (fun i => f i - g i) n = S f n - S g n
  | 0 => rfl
  | n + 1 => by
    have := S_sub2 f g n
    simp only [S] at *
    omega
theorem S_leQ {f g : Nat → Int} : ∀ {n : Nat}, (∀ k, k < n → f k ≤ g k) → S f n ≤ S g n
  | 0, _ => Int.le_refl _
  | n + 1, h => by
    have h1 := S_leQ (n := n) fun k hk => h k (by omega)
    have h2 := h n (by omega)
    simp only [S]
    omega
/-- with prices that do not fall, the row that is ahead costs less -/
theorem abel {c x y : Nat → Int} : ∀ {n : Nat} (C : Int), (∀ b, b + 1 < n → c b ≤ c (b + 1)) → (∀ b, b < n → c b ≤ C) → (∀ b, b ≤ n → S y b ≤ S x b) → S (fun b => x b * c b) n ≤ S (fun b => y b * c b) n + C * (S x n - S y n)
  | 0, C, _, _, _ => by
    show (0 : Int) ≤ 0 + C * (0 - 0)
    omega
  | n + 1, C, hc, hC, h => by
    have hup : ∀ d, d ≤ n → c (n - d) ≤ c n := fun d => by
      induction d with
      | zero => intro _; exact Int.le_refl _
      | succ d ih =>
        intro hd
        have h1 := hc (n - (d + 1)) (by omega)
        rw [show n - (d + 1) + 1 = n - d by omega] at h1
        exact Int.le_trans h1 (ih (by omega))
    have h1 := abel (n := n) (c n) (fun b hb => hc b (by omega)) (fun b hb => by
      have := hup (n - b) (by omega)
      rwa [show n - (n - b) = b by omega] at this) (fun b hb => h b (by omega))
    have h2 := h (n + 1) (Nat.le_refl _)
    have h3 : c n * (S x (n + 1) - S y (n + 1)) ≤ C * (S x (n + 1) - S y (n + 1)) := Int.mul_le_mul_of_nonneg_right (hC n (by omega)) (by omega)
    have e1 : S x (n + 1) = S x n + x n := rfl
    have e2 : S y (n + 1) = S y n + y n := rfl
    have e3 : c n * (S x (n + 1) - S y (n + 1)) = c n * (S x n - S y n) + x n * c n - y n * c n := by
      rw [e1, e2, show S x n + x n - (S y n + y n) = (S x n - S y n) + (x n - y n) by omega, Int.mul_add, Int.mul_sub (c n) (x n), Int.mul_comm (x n), Int.mul_comm (y n)]
      omega
    show S (fun b => x b * c b) n + x n * c n ≤ S (fun b => y b * c b) n + y n * c n + _
    omega
theorem abel0 {c x y : Nat → Int} {n : Nat} (hc : ∀ b, b + 1 < n → c b ≤ c (b + 1)) (h : ∀ b, b ≤ n → S y b ≤ S x b) (e : S x n = S y n) : S (fun b => x b * c b) n ≤ S (fun b => y b * c b) n := by
  have hup : ∀ d, d + 1 ≤ n → c (n - (d + 1)) ≤ c (n - 1) := fun d => by
    induction d with
    | zero => intro _; exact Int.le_refl _
    | succ d ih =>
      intro hd
      have h1 := hc (n - (d + 1 + 1)) (by omega)
      rw [show n - (d + 1 + 1) + 1 = n - (d + 1) by omega] at h1
      exact Int.le_trans h1 (ih (by omega))
  have := abel (c n.pred) hc (fun b hb => by
    have := hup (n - b - 1) (by omega)
    rw [show n - (n - b - 1 + 1) = b by omega] at this
    exact this) h
  rw [e, Int.sub_self, Int.mul_zero] at this
  omega

/-- sizes of the first b, early and late ones -/
def eS (s : Nat → Int) (lt : Nat → Bool) (b : Nat) : Int := S (fun z => if lt z then 0 else s z) b
def lS (s : Nat → Int) (lt : Nat → Bool) (b : Nat) : Int := S (fun z => if lt z then s z else 0) b
theorem eS_lS (s : Nat → Int) (lt : Nat → Bool) : ∀ b, S s b = eS s lt b + lS s lt b
  | 0 => rfl
  | b + 1 => by
    have ih := eS_lS s lt b
    simp only [eS, lS, S] at ih ⊢
    cases lt b <;> simp <;> omega
/-- the demand before position b; what may still be taken of late ones; what is taken at b -/
def gd (T L : Int) (s : Nat → Int) (lt : Nat → Bool) (b : Nat) : Int := T - min T (eS s lt b + min L (lS s lt b))
def gl (T L : Int) (s : Nat → Int) (lt : Nat → Bool) : Nat → Int
  | 0 => L
  | b + 1 => if lt b then gl T L s lt b - min (min (gd T L s lt b) (s b)) (gl T L s lt b) else gl T L s lt b
def gn (T L : Int) (s : Nat → Int) (lt : Nat → Bool) (b : Nat) : Int := if lt b then min (min (gd T L s lt b) (s b)) (gl T L s lt b) else min (gd T L s lt b) (s b)

section
variable {T L : Int} {s : Nat → Int} {lt : Nat → Bool} {N : Nat}
theorem gl_inv (hT : 0 ≤ T) (hL : 0 ≤ L) (hs : ∀ z, z < N → 0 ≤ s z) : ∀ b, b ≤ N → (0 ≤ gl T L s lt b ∧ gl T L s lt b ≤ L) ∧ (0 < gd T L s lt b → gl T L s lt b = L - min L (lS s lt b))
  | 0, _ => by
    refine ⟨⟨hL, Int.le_refl _⟩, fun _ => ?_⟩
    show L = L - min L 0
    omega
  | b + 1, hb => by
    obtain ⟨⟨h1, h2⟩, h3⟩ := gl_inv hT hL hs b (by omega)
    have h4 := hs b (by omega)
    cases hc : lt b with
    | false =>
      have e1 : gl T L s lt (b + 1) = gl T L s lt b := by simp [gl, hc]
      have e2 : lS s lt (b + 1) = lS s lt b := by simp [lS, S, hc]
      have e3 : eS s lt (b + 1) = eS s lt b + s b := by simp [eS, S, hc]
      rw [e1]
      refine ⟨⟨h1, h2⟩, fun h => ?_⟩
      rw [e2]
      refine h3 ?_
      unfold gd at h ⊢
      rw [e2, e3] at h
      omega
    | true =>
      have e1 : gl T L s lt (b + 1) = gl T L s lt b - min (min (gd T L s lt b) (s b)) (gl T L s lt b) := by simp [gl, hc]
      have e2 : lS s lt (b + 1) = lS s lt b + s b := by simp [lS, S, hc]
      have e3 : eS s lt (b + 1) = eS s lt b := by simp [eS, S, hc]
      have h5 : 0 ≤ gd T L s lt b := by unfold gd; omega
      refine ⟨by rw [e1]; omega, fun h => ?_⟩
      rw [e1, e2]
      unfold gd at h h3 h5 ⊢
      rw [e2, e3] at h
      have h6 := h3 (by omega)
      omega
theorem gd_nn (T L : Int) (s : Nat → Int) (lt : Nat → Bool) (b : Nat) : 0 ≤ gd T L s lt b := by unfold gd; omega
theorem gn_b (hT : 0 ≤ T) (hL : 0 ≤ L) (hs : ∀ z, z < N → 0 ≤ s z) {b : Nat} (hb : b < N) : 0 ≤ gn T L s lt b ∧ gn T L s lt b ≤ s b ∧ gn T L s lt b ≤ gd T L s lt b := by
  have h1 := (gl_inv (lt := lt) hT hL hs b (by omega)).1
  have h2 := hs b hb
  have h3 := gd_nn T L s lt b
  unfold gn
  split <;> omega
theorem gd_step (hT : 0 ≤ T) (hL : 0 ≤ L) (hs : ∀ z, z < N → 0 ≤ s z) {b : Nat} (hb : b < N) : gd T L s lt (b + 1) = gd T L s lt b - gn T L s lt b := by
  obtain ⟨h1, h3⟩ := gl_inv (lt := lt) hT hL hs b (by omega)
  have h4 := hs b hb
  cases hc : lt b with
  | false =>
    have e0 : gn T L s lt b = min (gd T L s lt b) (s b) := by simp [gn, hc]
    have e2 : lS s lt (b + 1) = lS s lt b := by simp [lS, S, hc]
    have e3 : eS s lt (b + 1) = eS s lt b + s b := by simp [eS, S, hc]
    rw [e0]
    unfold gd
    rw [e2, e3]
    omega
  | true =>
    have e0 : gn T L s lt b = min (min (gd T L s lt b) (s b)) (gl T L s lt b) := by simp [gn, hc]
    have e2 : lS s lt (b + 1) = lS s lt b + s b := by simp [lS, S, hc]
    have e3 : eS s lt (b + 1) = eS s lt b := by simp [eS, S, hc]
    rw [e0]
    rcases Int.lt_or_le 0 (gd T L s lt b) with h5 | h5
    · rw [h3 h5]
      unfold gd at h5 ⊢
      rw [e2, e3]
      omega
    · have h6 := gd_nn T L s lt b
      have h7 : gd T L s lt b = 0 := by omega
      have h8 : gd T L s lt (b + 1) = 0 := by
        unfold gd at h7 ⊢
        rw [e2, e3]
        omega
      rw [h7, h8]
      omega
theorem gn_sum (hT : 0 ≤ T) (hL : 0 ≤ L) (hs : ∀ z, z < N → 0 ≤ s z) : ∀ b, b ≤ N → S (gn T L s lt) b = T - gd T L s lt b
  | 0, _ => by
    show (0 : Int) = T - (T - min T (0 + min L 0))
    omega
  | b + 1, hb => by
    have h1 := gn_sum hT hL hs b (by omega)
    have h2 := gd_step (lt := lt) hT hL hs (b := b) (by omega)
    simp only [S]
    omega
theorem gn_late (T L : Int) (s : Nat → Int) (lt : Nat → Bool) : ∀ b, lS (gn T L s lt) lt b = L - gl T L s lt b
  | 0 => by
    show (0 : Int) = L - L
    omega
  | b + 1 => by
    have h1 := gn_late T L s lt b
    cases hc : lt b with
    | false =>
      have e1 : gl T L s lt (b + 1) = gl T L s lt b := by simp [gl, hc]
      have e2 : lS (gn T L s lt) lt (b + 1) = lS (gn T L s lt) lt b := by simp [lS, S, hc]
      rw [e1, e2, h1]
    | true =>
      have e1 : gl T L s lt (b + 1) = gl T L s lt b - gn T L s lt b := by simp [gl, gn, hc]
      have e2 : lS (gn T L s lt) lt (b + 1) = lS (gn T L s lt) lt b + gn T L s lt b := by simp [lS, S, hc]
      rw [e1, e2, h1]
      omega
/-- no row that is permitted is ahead of it -/
theorem gn_ahead (hT : 0 ≤ T) (hL : 0 ≤ L) (hs : ∀ z, z < N → 0 ≤ s z) {y : Nat → Int} (hy : ∀ z, z < N → 0 ≤ y z ∧ y z ≤ s z) (hyT : S y N ≤ T) (hyL : lS y lt N ≤ L) {b : Nat} (hb : b ≤ N) : S y b ≤ S (gn T L s lt) b := by
  rw [gn_sum hT hL hs b hb]
  have h1 : S y b ≤ S y N := by
    have : ∀ d, b + d ≤ N → S y b ≤ S y (b + d) := fun d => by
      induction d with
      | zero => intro _; exact Int.le_refl _
      | succ d ih =>
        intro hd
        have h2 := ih (by omega)
        have h3 := hy (b + d) (by omega)
        show _ ≤ S y (b + d) + y (b + d)
        omega
    have := this (N - b) (by omega)
    rwa [show b + (N - b) = N by omega] at this
  have h2 : lS y lt b ≤ lS y lt N := by
    have : ∀ d, b + d ≤ N → lS y lt b ≤ lS y lt (b + d) := fun d => by
      induction d with
      | zero => intro _; exact Int.le_refl _
      | succ d ih =>
        intro hd
        have h2 := ih (by omega)
        have h3 := hy (b + d) (by omega)
        have e : lS y lt (b + d + 1) = lS y lt (b + d) + (if lt (b + d) then y (b + d) else 0) := rfl
        show _ ≤ lS y lt (b + d + 1)
        rw [e]
        split <;> omega
    have := this (N - b) (by omega)
    rwa [show b + (N - b) = N by omega] at this
  have h3 : lS y lt b ≤ lS s lt b := S_leQ fun z hz => by
    have := hy z (by omega)
    split <;> omega
  have h4 : eS y lt b ≤ eS s lt b := S_leQ fun z hz => by
    have := hy z (by omega)
    split <;> omega
  have h5 := eS_lS y lt b
  unfold gd
  omega
end
end Go.Proofs.Ytemfikdogdadnaa

namespace Go.Proofs.Ytemfikdogdadnaa
open Go.RowKit

/-- how much of step j lies below a power -/
def fl (p : Nat → Int) (x : Int) (j : Nat) : Int := min (max (x - S p j) 0) (p j)
theorem fl_b {p : Nat → Int} {x : Int} {j : Nat} (h : 0 ≤ p j) : 0 ≤ fl p x j ∧ fl p x j ≤ p j := by unfold fl; omega
theorem fl_S {p : Nat → Int} {x : Int} {m : Nat} (hp : ∀ j, j < m → 0 ≤ p j) (hx : 0 ≤ x) : ∀ j, j ≤ m → S (fl p x) j = min x (S p j)
  | 0, _ => by
    show (0 : Int) = min x 0
    omega
  | j + 1, hj => by
    have h1 := fl_S hp hx j (by omega)
    have h2 := hp j (by omega)
    simp only [S]
    rw [h1]
    unfold fl
    omega
theorem fl_min (p : Nat → Int) (x y : Int) (j : Nat) : fl p (min x y) j = min (fl p x j) (fl p y j) := by unfold fl; omega
/-- how many blocks step j has; the step of a block, whether it is late, its size -/
def rW (p : Nat → Int) (E : Int) (j : Nat) : Nat := (if 0 < fl p E j then 1 else 0) + (if fl p E j < p j then 1 else 0)
def rJq (p : Nat → Int) (E : Int) (m e : Nat) : Nat := own (rW p E) m e
def rF (p : Nat → Int) (E : Int) (m e : Nat) : Bool := decide (¬ (e = oN (rW p E) (rJq p E m e) ∧ 0 < fl p E (rJq p E m e)))
def rS (p : Nat → Int) (E : Int) (m e : Nat) : Int := if rF p E m e then p (rJq p E m e) - fl p E (rJq p E m e) else fl p E (rJq p E m e)
theorem rJ_at {p : Nat → Int} {E : Int} {m i j : Nat} (hj : j < m) (hi : i < rW p E j) : rJq p E m (oN (rW p E) j + i) = j := own_at hi hj
theorem rF_at {p : Nat → Int} {E : Int} {m i j : Nat} (hj : j < m) (hi : i < rW p E j) : rF p E m (oN (rW p E) j + i) = decide (¬ (i = 0 ∧ 0 < fl p E j)) := by
  unfold rF
  rw [rJ_at hj hi]
  congr 1
  refine propext ⟨fun h h1 => h ⟨by omega, h1.2⟩, fun h h1 => h ⟨by omega, h1.2⟩⟩
theorem step_sum (p : Nat → Int) (E : Int) {m j : Nat} (hj : j < m) (f : Bool → Int) : S (fun i => f (rF p E m (oN (rW p E) j + i))) (rW p E j) = (if 0 < fl p E j then f false else 0) + (if fl p E j < p j then f true else 0) := by
  rw [S_congr (g := fun i => f (decide (¬ (i = 0 ∧ 0 < fl p E j)))) fun i hi => by rw [rF_at hj hi]]
  unfold rW
  by_cases h1 : 0 < fl p E j <;> by_cases h2 : fl p E j < p j <;> simp [h1, h2, S]

/-- how many blocks unit k has; a column of the blocks of all units -/
def rMq (m : Nat → Nat) (p : Nat → Nat → Int) (E : Nat → Int) (k : Nat) : Nat := oN (rW (p k) (E k)) (m k)
def uA {α : Type} (m : Nat → Nat) (p : Nat → Nat → Int) (E : Nat → Int) (n : Nat) (f : Nat → Nat → α) (e : Nat) : α := f (own (rMq m p E) n e) (e - oN (rMq m p E) (own (rMq m p E) n e))
def uS (m : Nat → Nat) (p : Nat → Nat → Int) (E : Nat → Int) (n : Nat) : Nat → Int := uA m p E n fun k e => rS (p k) (E k) (m k) e
def uQ (m : Nat → Nat) (p q : Nat → Nat → Int) (E : Nat → Int) (n : Nat) : Nat → Int := uA m p E n fun k e => q k (rJq (p k) (E k) (m k) e)
def uF (m : Nat → Nat) (p : Nat → Nat → Int) (E : Nat → Int) (n : Nat) : Nat → Bool := uA m p E n fun k e => rF (p k) (E k) (m k) e
def uY (m : Nat → Nat) (p : Nat → Nat → Int) (E x : Nat → Int) (n : Nat) : Nat → Int := uA m p E n fun k e =>
  if rF (p k) (E k) (m k) e then fl (p k) (x k) (rJq (p k) (E k) (m k) e) - fl (p k) (min (x k) (E k)) (rJq (p k) (E k) (m k) e) else fl (p k) (min (x k) (E k)) (rJq (p k) (E k) (m k) e)
def uK (m : Nat → Nat) (p q : Nat → Nat → Int) (E : Nat → Int) (n e : Nat) : Int := 2 * uQ m p q E n e + if uF m p E n e then 1 else 0

section
variable {m : Nat → Nat} {p q : Nat → Nat → Int} {E : Nat → Int} {n : Nat}
theorem rM_lt {i j k : Nat} (hj : j < m k) (hi : i < rW (p k) (E k) j) : oN (rW (p k) (E k)) j + i < rMq m p E k := by
  have := oN_mono (m := rW (p k) (E k)) (a := j + 1) (b := m k) hj
  simp only [oN] at this
  unfold rMq
  omega
theorem uA_at {α : Type} (f : Nat → Nat → α) {i j k : Nat} (hk : k < n) (hj : j < m k) (hi : i < rW (p k) (E k) j) : uA m p E n f (oN (rMq m p E) k + (oN (rW (p k) (E k)) j + i)) = f k (oN (rW (p k) (E k)) j + i) := by
  unfold uA
  rw [own_at (rM_lt hj hi) hk, Nat.add_sub_cancel_left]
theorem flat3 (G : Nat → Int) : S G (oN (rMq m p E) n) = S (fun k => S (fun j => S (fun i => G (oN (rMq m p E) k + (oN (rW (p k) (E k)) j + i))) (rW (p k) (E k) j)) (m k)) n := by
  rw [S_flat]
  refine S_congr fun k hk => ?_
  exact S_flat (fun z => G (oN (rMq m p E) k + z)) (rW (p k) (E k)) (m k)
/-- the place of a block -/
theorem at3 {e : Nat} (he : e < oN (rMq m p E) n) : ∃ k j i, k < n ∧ j < m k ∧ i < rW (p k) (E k) j ∧ e = oN (rMq m p E) k + (oN (rW (p k) (E k)) j + i) := by
  obtain ⟨h1, h2, h3⟩ := own_spec he
  obtain ⟨g1, g2, g3⟩ := own_spec (m := rW (p (own (rMq m p E) n e)) (E (own (rMq m p E) n e))) (e := e - oN (rMq m p E) (own (rMq m p E) n e)) (n := m (own (rMq m p E) n e)) (by
    have : rMq m p E (own (rMq m p E) n e) = oN (rW (p (own (rMq m p E) n e)) (E (own (rMq m p E) n e))) (m (own (rMq m p E) n e)) := rfl
    omega)
  exact ⟨_, _, e - oN (rMq m p E) (own (rMq m p E) n e) - oN (rW (p (own (rMq m p E) n e)) (E (own (rMq m p E) n e))) (own (rW (p (own (rMq m p E) n e)) (E (own (rMq m p E) n e))) (m (own (rMq m p E) n e)) (e - oN (rMq m p E) (own (rMq m p E) n e))), h1, g1, by omega, by omega⟩
structure RbOk (m : Nat → Nat) (p q : Nat → Nat → Int) (E : Nat → Int) (n : Nat) : Prop where
  pos : ∀ k, k < n → ∀ j, j < m k → 1 ≤ p k j
  up : ∀ k, k < n → ∀ j, j + 1 < m k → q k j ≤ q k (j + 1)
  e0 : ∀ k, k < n → 0 ≤ E k
  e1 : ∀ k, k < n → E k ≤ S (p k) (m k)
theorem RbOk.sz (h : RbOk m p q E n) {e : Nat} (he : e < oN (rMq m p E) n) : 1 ≤ uS m p E n e := by
  obtain ⟨k, j, i, hk, hj, hi, rfl⟩ := at3 he
  have h1 := h.pos k hk j hj
  unfold uS
  rw [uA_at _ hk hj hi]
  unfold rS
  rw [rF_at hj hi, rJ_at hj hi]
  unfold rW at hi
  have h2 := fl_b (p := p k) (x := E k) (j := j) (by omega)
  by_cases h3 : 0 < fl (p k) (E k) j <;> by_cases h4 : fl (p k) (E k) j < p k j <;> simp [h3, h4] at hi ⊢ <;> first | omega | (split <;> omega)
theorem RbOk.yb (h : RbOk m p q E n) (x : Nat → Int) {e : Nat} (he : e < oN (rMq m p E) n) : 0 ≤ uY m p E x n e ∧ uY m p E x n e ≤ uS m p E n e := by
  obtain ⟨k, j, i, hk, hj, hi, rfl⟩ := at3 he
  have h1 := h.pos k hk j hj
  unfold uS uY
  rw [uA_at _ hk hj hi, uA_at _ hk hj hi]
  unfold rS
  rw [rJ_at hj hi, fl_min]
  have h2 := fl_b (p := p k) (x := E k) (j := j) (by omega)
  have h3 := fl_b (p := p k) (x := x k) (j := j) (by omega)
  split <;> omega
/-- a sum over blocks by units and steps -/
theorem RbOk.sum (h : RbOk m p q E n) (f : Nat → Nat → Bool → Int) (h0 : ∀ k, k < n → ∀ j, j < m k → fl (p k) (E k) j = 0 → f k j false = 0) (h1 : ∀ k, k < n → ∀ j, j < m k → fl (p k) (E k) j = p k j → f k j true = 0) :
    S (uA m p E n fun k e => f k (rJq (p k) (E k) (m k) e) (rF (p k) (E k) (m k) e)) (oN (rMq m p E) n) = S (fun k => S (fun j => f k j false + f k j true) (m k)) n := by
  rw [flat3]
  refine S_congr fun k hk => S_congr fun j hj => ?_
  rw [S_congr (g := fun i => f k j (rF (p k) (E k) (m k) (oN (rW (p k) (E k)) j + i))) fun i hi => by rw [uA_at _ hk hj hi, rJ_at hj hi], step_sum (p k) (E k) hj fun b => f k j b]
  have h2 := h.pos k hk j hj
  have h3 := fl_b (p := p k) (x := E k) (j := j) (by omega)
  have h4 := h0 k hk j hj
  have h5 := h1 k hk j hj
  congr 1
  · split
    · rfl
    · exact (h4 (by omega)).symm
  · split
    · rfl
    · exact (h5 (by omega)).symm
section
variable {x : Nat → Int}
theorem RbOk.ysum (h : RbOk m p q E n) (hx : ∀ k, k < n → 0 ≤ x k ∧ x k ≤ S (p k) (m k)) : S (uY m p E x n) (oN (rMq m p E) n) = S x n := by
  have := h.sum (fun k j b => if b then fl (p k) (x k) j - fl (p k) (min (x k) (E k)) j else fl (p k) (min (x k) (E k)) j) (fun k hk j hj e => by
      have h1 := fl_b (p := p k) (x := x k) (j := j) (by have := h.pos k hk j hj; omega)
      simp only [Bool.false_eq_true, if_false]
      rw [fl_min]; omega) (fun k hk j hj e => by
      have h1 := fl_b (p := p k) (x := x k) (j := j) (by have := h.pos k hk j hj; omega)
      simp only [if_true]
      rw [fl_min]; omega)
  refine this.trans (S_congr fun k hk => ?_)
  rw [S_congr (g := fl (p k) (x k)) fun j hj => by simp only [Bool.false_eq_true, if_false, if_true]; omega, fl_S (m := m k) (fun j hj => by have := h.pos k hk j hj; omega) (hx k hk).1 _ (Nat.le_refl _)]
  have := hx k hk
  omega
theorem RbOk.ycost (h : RbOk m p q E n) : S (fun e => uY m p E x n e * uQ m p q E n e) (oN (rMq m p E) n) = S (fun k => S (ct (p k) (q k) (x k)) (m k)) n := by
  have := h.sum (fun k j b => (if b then fl (p k) (x k) j - fl (p k) (min (x k) (E k)) j else fl (p k) (min (x k) (E k)) j) * q k j) (fun k hk j hj e => by
      have h1 := fl_b (p := p k) (x := x k) (j := j) (by have := h.pos k hk j hj; omega)
      simp only [Bool.false_eq_true, if_false]
      rw [fl_min, show min (fl (p k) (x k) j) (fl (p k) (E k) j) = 0 by omega, Int.zero_mul]) (fun k hk j hj e => by
      have h1 := fl_b (p := p k) (x := x k) (j := j) (by have := h.pos k hk j hj; omega)
      simp only [if_true]
      rw [fl_min, show fl (p k) (x k) j - min (fl (p k) (x k) j) (fl (p k) (E k) j) = 0 by omega, Int.zero_mul])
  refine this.trans (S_congr fun k hk => S_congr fun j hj => ?_)
  simp only [Bool.false_eq_true, if_false, if_true]
  rw [← Int.add_mul]
  show _ = fl (p k) (x k) j * q k j
  congr 1
  omega
theorem RbOk.ylate (h : RbOk m p q E n) (hx : ∀ k, k < n → 0 ≤ x k ∧ x k ≤ S (p k) (m k)) : lS (uY m p E x n) (uF m p E n) (oN (rMq m p E) n) = S (fun k => x k - min (x k) (E k)) n := by
  have := h.sum (fun k j b => if b then fl (p k) (x k) j - fl (p k) (min (x k) (E k)) j else 0) (fun k hk j hj e => rfl) (fun k hk j hj e => by
      have h1 := fl_b (p := p k) (x := x k) (j := j) (by have := h.pos k hk j hj; omega)
      simp only [if_true]
      rw [fl_min]; omega)
  refine (S_congr fun e _ => ?_).trans (this.trans (S_congr fun k hk => ?_))
  · show (if uF m p E n e then uY m p E x n e else 0) = _
    unfold uF uY uA
    (try dsimp only)
    split <;> rfl
  · have hp : ∀ j, j < m k → 0 ≤ p k j := fun j hj => by have := h.pos k hk j hj; omega
    have h0 := h.e0 k hk
    have h1 := h.e1 k hk
    have h2 := hx k hk
    rw [S_congr (g := fun j => fl (p k) (x k) j - fl (p k) (min (x k) (E k)) j) fun j hj => by simp, S_sub2, fl_S hp h2.1 _ (Nat.le_refl _), fl_S hp (by omega) _ (Nat.le_refl _)]
    omega
end
/-- what is taken of unit k and of its step j -/
def uG (m : Nat → Nat) (p : Nat → Nat → Int) (E : Nat → Int) (G : Nat → Int) (k j : Nat) : Int := S (fun i => G (oN (rMq m p E) k + (oN (rW (p k) (E k)) j + i))) (rW (p k) (E k) j)
section
variable {G : Nat → Int}
theorem RbOk.gb (h : RbOk m p q E n) (hG : ∀ e, e < oN (rMq m p E) n → 0 ≤ G e ∧ G e ≤ uS m p E n e) {j k : Nat} (hk : k < n) (hj : j < m k) : 0 ≤ uG m p E G k j ∧ uG m p E G k j ≤ p k j := by
  have hlt : ∀ i, i < rW (p k) (E k) j → oN (rMq m p E) k + (oN (rW (p k) (E k)) j + i) < oN (rMq m p E) n := fun i hi => by
    have h1 := rM_lt (m := m) (p := p) (E := E) hj hi
    have h2 := oN_mono (m := rMq m p E) (a := k + 1) (b := n) hk
    simp only [oN] at h2
    omega
  constructor
  · have := S_mono (p := fun i => G (oN (rMq m p E) k + (oN (rW (p k) (E k)) j + i))) (i := 0) (j := rW (p k) (E k) j) (fun i hi => (hG _ (hlt i hi)).1) (Nat.zero_le _)
    exact this
  · refine Int.le_trans (S_leQ fun i hi => (hG _ (hlt i hi)).2) ?_
    have h1 := h.pos k hk j hj
    have h3 := fl_b (p := p k) (x := E k) (j := j) (by omega)
    rw [S_congr (g := fun i => if rF (p k) (E k) (m k) (oN (rW (p k) (E k)) j + i) then p k j - fl (p k) (E k) j else fl (p k) (E k) j) fun i hi => by
      unfold uS
      rw [uA_at _ hk hj hi]
      unfold rS
      rw [rJ_at hj hi], step_sum (p k) (E k) hj fun b => if b then p k j - fl (p k) (E k) j else fl (p k) (E k) j]
    simp only [Bool.false_eq_true, if_false, if_true]
    split <;> split <;> omega
theorem RbOk.gown (G : Nat → Int) {k : Nat} (hk : k < n) : S (fun e => if own (rMq m p E) n e = k then G e else 0) (oN (rMq m p E) n) = S (uG m p E G k) (m k) := by
  rw [flat3, S_one hk fun i hi hne => S_zero fun j hj => S_zero fun z hz => by
    (try dsimp only)
    rw [own_at (rM_lt hj hz) hi, if_neg hne]]
  refine S_congr fun j hj => S_congr fun z hz => ?_
  (try dsimp only)
  rw [own_at (rM_lt hj hz) hk, if_pos rfl]
theorem RbOk.gcost (G : Nat → Int) : S (fun e => G e * uQ m p q E n e) (oN (rMq m p E) n) = S (fun k => S (fun j => uG m p E G k j * q k j) (m k)) n := by
  rw [flat3]
  refine S_congr fun k hk => S_congr fun j hj => ?_
  rw [S_congr (g := fun i => q k j * G (oN (rMq m p E) k + (oN (rW (p k) (E k)) j + i))) fun i hi => by
    (try dsimp only)
    unfold uQ
    rw [uA_at _ hk hj hi, rJ_at hj hi, Int.mul_comm]]
  have : ∀ z, S (fun i => q k j * G (oN (rMq m p E) k + (oN (rW (p k) (E k)) j + i))) z = S (fun i => G (oN (rMq m p E) k + (oN (rW (p k) (E k)) j + i))) z * q k j := fun z => by
    induction z with
    | zero => exact (Int.zero_mul _).symm
    | succ z ih =>
      simp only [S]
      rw [ih, Int.add_mul, Int.mul_comm (q k j)]
  exact this _
/-- what is taken late is at least what lies above -/
theorem RbOk.glate (h : RbOk m p q E n) (hG : ∀ e, e < oN (rMq m p E) n → 0 ≤ G e ∧ G e ≤ uS m p E n e) : S (fun k => S (uG m p E G k) (m k) - min (S (uG m p E G k) (m k)) (E k)) n ≤ lS G (uF m p E n) (oN (rMq m p E) n) := by
  unfold lS
  rw [flat3]
  refine S_leQ fun k hk => ?_
  have hlt : ∀ j, j < m k → ∀ i, i < rW (p k) (E k) j → oN (rMq m p E) k + (oN (rW (p k) (E k)) j + i) < oN (rMq m p E) n := fun j hj i hi => by
    have h1 := rM_lt (m := m) (p := p) (E := E) hj hi
    have h2 := oN_mono (m := rMq m p E) (a := k + 1) (b := n) hk
    simp only [oN] at h2
    omega
  have hF : ∀ j, j < m k → ∀ i, i < rW (p k) (E k) j → uF m p E n (oN (rMq m p E) k + (oN (rW (p k) (E k)) j + i)) = rF (p k) (E k) (m k) (oN (rW (p k) (E k)) j + i) := fun j hj i hi => uA_at _ hk hj hi
  have hp : ∀ j, j < m k → 0 ≤ p k j := fun j hj => by have := h.pos k hk j hj; omega
  have h0 : 0 ≤ S (fun j => S (fun i => if uF m p E n (oN (rMq m p E) k + (oN (rW (p k) (E k)) j + i)) then G (oN (rMq m p E) k + (oN (rW (p k) (E k)) j + i)) else 0) (rW (p k) (E k) j)) (m k) := by
    have key : ∀ j, j < m k → (0 : Int) ≤ S (fun i => if uF m p E n (oN (rMq m p E) k + (oN (rW (p k) (E k)) j + i)) then G (oN (rMq m p E) k + (oN (rW (p k) (E k)) j + i)) else 0) (rW (p k) (E k) j) := fun j hj => by
      have := S_mono (p := fun i => if uF m p E n (oN (rMq m p E) k + (oN (rW (p k) (E k)) j + i)) then G (oN (rMq m p E) k + (oN (rW (p k) (E k)) j + i)) else 0) (i := 0) (j := rW (p k) (E k) j) (fun i hi => by
        have := (hG _ (hlt j hj i hi)).1
        (try dsimp only)
        split <;> omega) (Nat.zero_le _)
      exact this
    have := S_mono (p := fun j => S (fun i => if uF m p E n (oN (rMq m p E) k + (oN (rW (p k) (E k)) j + i)) then G (oN (rMq m p E) k + (oN (rW (p k) (E k)) j + i)) else 0) (rW (p k) (E k) j)) (i := 0) (j := m k) key (Nat.zero_le _)
    exact this
  have h1 : S (uG m p E G k) (m k) ≤ S (fun j => S (fun i => if uF m p E n (oN (rMq m p E) k + (oN (rW (p k) (E k)) j + i)) then G (oN (rMq m p E) k + (oN (rW (p k) (E k)) j + i)) else 0) (rW (p k) (E k) j)) (m k) + S (fl (p k) (E k)) (m k) := by
    rw [← S_plus2]
    refine S_leQ fun j hj => ?_
    have h2 : S (fun i => if uF m p E n (oN (rMq m p E) k + (oN (rW (p k) (E k)) j + i)) then 0 else G (oN (rMq m p E) k + (oN (rW (p k) (E k)) j + i))) (rW (p k) (E k) j) ≤ fl (p k) (E k) j := by
      have h3 : S (fun i => if uF m p E n (oN (rMq m p E) k + (oN (rW (p k) (E k)) j + i)) then 0 else G (oN (rMq m p E) k + (oN (rW (p k) (E k)) j + i))) (rW (p k) (E k) j) ≤ S (fun i => if rF (p k) (E k) (m k) (oN (rW (p k) (E k)) j + i) then 0 else fl (p k) (E k) j) (rW (p k) (E k) j) := S_leQ fun i hi => by
        have h4 := (hG _ (hlt j hj i hi)).2
        unfold uS at h4
        rw [uA_at _ hk hj hi] at h4
        unfold rS at h4
        rw [rJ_at hj hi] at h4
        rw [hF j hj i hi]
        cases h5 : rF (p k) (E k) (m k) (oN (rW (p k) (E k)) j + i) with
        | true => simp
        | false => rw [h5] at h4; simpa using h4
      rw [step_sum (p k) (E k) hj fun b => if b then 0 else fl (p k) (E k) j] at h3
      have h6 := fl_b (p := p k) (x := E k) (j := j) (hp j hj)
      simp only [Bool.false_eq_true, if_false, if_true] at h3
      refine Int.le_trans h3 ?_
      split <;> split <;> omega
    have h7 : uG m p E G k j = S (fun i => if uF m p E n (oN (rMq m p E) k + (oN (rW (p k) (E k)) j + i)) then G (oN (rMq m p E) k + (oN (rW (p k) (E k)) j + i)) else 0) (rW (p k) (E k) j) + S (fun i => if uF m p E n (oN (rMq m p E) k + (oN (rW (p k) (E k)) j + i)) then 0 else G (oN (rMq m p E) k + (oN (rW (p k) (E k)) j + i))) (rW (p k) (E k) j) := by
      rw [← S_plus2]
      refine S_congr fun i hi => ?_
      (try dsimp only)
      split <;> omega
    omega
  rw [fl_S hp (h.e0 k hk) _ (Nat.le_refl _)] at h1
  have h8 := h.e1 k hk
  show _ ≤ S (fun j => S (fun i => if uF m p E n (oN (rMq m p E) k + (oN (rW (p k) (E k)) j + i)) then G (oN (rMq m p E) k + (oN (rW (p k) (E k)) j + i)) else 0) (rW (p k) (E k) j)) (m k)
  omega
/-- each unit's power costs at most what its blocks cost -/
theorem RbOk.fills (h : RbOk m p q E n) (hG : ∀ e, e < oN (rMq m p E) n → 0 ≤ G e ∧ G e ≤ uS m p E n e) : S (fun k => S (ct (p k) (q k) (S (uG m p E G k) (m k))) (m k)) n ≤ S (fun e => G e * uQ m p q E n e) (oN (rMq m p E) n) := by
  rw [RbOk.gcost]
  refine S_leQ fun k hk => ?_
  have hb := fun j (hj : j < m k) => h.gb hG hk hj
  have hp : ∀ j, j < m k → 0 ≤ p k j := fun j hj => by have := h.pos k hk j hj; omega
  have h1 : ∀ j, j ≤ m k → S (uG m p E G k) j ≤ S (p k) j := fun j hj => S_leQ fun z hz => (hb z (by omega)).2
  have h2 : ∀ j, j ≤ m k → S (uG m p E G k) j ≤ S (uG m p E G k) (m k) := fun j hj => S_mono (fun z hz => (hb z hz).1) hj
  have h3 : 0 ≤ S (uG m p E G k) (m k) := h2 0 (Nat.zero_le _)
  have h4 := h1 (m k) (Nat.le_refl _)
  exact abel0 (c := q k) (x := fl (p k) (S (uG m p E G k) (m k))) (y := uG m p E G k) (h.up k hk) (fun j hj => by
    rw [fl_S hp h3 j hj]
    have := h1 j hj
    have := h2 j hj
    omega) (by
    rw [fl_S hp h3 _ (Nat.le_refl _)]
    omega)
end
end
end Go.Proofs.Ytemfikdogdadnaa
