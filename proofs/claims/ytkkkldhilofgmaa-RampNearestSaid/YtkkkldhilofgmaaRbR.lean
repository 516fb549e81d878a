/-
  Serving a demand and holding a reserve: what is taken block by block is the cheapest one of all permitted rows of powers. Plain laws.
-/
import Derived.Test.YtkkkldhilofgmaaRbQ
namespace Go.Proofs.Ytkkkldhilofgmaa
open Go.RowKit

/-- what is taken at position b; the demand before it; what is taken of unit k, and its cost -/
def rbN (m : Nat → Nat) (p : Nat → Nat → Int) (E : Nat → Int) (n : Nat) (π : Nat → Nat) (T L : Int) : Nat → Int := gn T L (fun b => uS m p E n (π b)) fun b => uF m p E n (π b)
def rbD (m : Nat → Nat) (p : Nat → Nat → Int) (E : Nat → Int) (n : Nat) (π : Nat → Nat) (T L : Int) : Nat → Int := gd T L (fun b => uS m p E n (π b)) fun b => uF m p E n (π b)
def rbL (m : Nat → Nat) (p : Nat → Nat → Int) (E : Nat → Int) (n : Nat) (π : Nat → Nat) (T L : Int) : Nat → Int := gl T L (fun b => uS m p E n (π b)) fun b => uF m p E n (π b)
def rbX (m : Nat → Nat) (p : Nat → Nat → Int) (E : Nat → Int) (n : Nat) (π : Nat → Nat) (T L : Int) (k b : Nat) : Int := S (fun z => if own (rM m p E) n (π z) = k then rbN m p E n π T L z else 0) b
def rbC (m : Nat → Nat) (p q : Nat → Nat → Int) (E : Nat → Int) (n : Nat) (π : Nat → Nat) (T L : Int) (b : Nat) : Int := S (fun z => rbN m p E n π T L z * uQ m p q E n (π z)) b
/-- what is taken of block e -/
def rbG (m : Nat → Nat) (p : Nat → Nat → Int) (E : Nat → Int) (n : Nat) (π : Nat → Nat) (T L : Int) (e : Nat) : Int := S (fun b => if π b = e then rbN m p E n π T L b else 0) (oN (rM m p E) n)

section
variable {m : Nat → Nat} {p q : Nat → Nat → Int} {E : Nat → Int} {n : Nat} {π : Nat → Nat} {T L : Int}
theorem rbG_at (hq : Wk (uK m p q E n) π (oN (rM m p E) n)) {b : Nat} (hb : b < oN (rM m p E) n) : rbG m p E n π T L (π b) = rbN m p E n π T L b := by
  unfold rbG
  rw [S_one hb fun i hi hne => if_neg fun e => hne (hq.inj hi hb e), if_pos rfl]
theorem rb_pos (h : RbOk m p q E n) (hq : Wk (uK m p q E n) π (oN (rM m p E) n)) : ∀ z, z < oN (rM m p E) n → 0 ≤ uS m p E n (π z) := fun z hz => by
  have := h.sz (hq.lt hz)
  omega
theorem rbG_b (h : RbOk m p q E n) (hq : Wk (uK m p q E n) π (oN (rM m p E) n)) (hT : 0 ≤ T) (hL : 0 ≤ L) {e : Nat} (he : e < oN (rM m p E) n) : 0 ≤ rbG m p E n π T L e ∧ rbG m p E n π T L e ≤ uS m p E n e := by
  obtain ⟨b, hb, rfl⟩ := hq.onto he
  rw [rbG_at hq hb]
  obtain ⟨h1, h2, _⟩ := gn_b (lt := fun b => uF m p E n (π b)) hT hL (rb_pos h hq) hb
  exact ⟨h1, h2⟩
theorem rbX_at (hq : Wk (uK m p q E n) π (oN (rM m p E) n)) {k : Nat} (hk : k < n) : rbX m p E n π T L k (oN (rM m p E) n) = S (uG m p E (rbG m p E n π T L) k) (m k) := by
  unfold rbX
  rw [S_congr (g := fun b => (fun e => if own (rM m p E) n e = k then rbG m p E n π T L e else 0) (π b)) fun b hb => by (try dsimp only); rw [rbG_at hq hb], hq.sum (fun e => if own (rM m p E) n e = k then rbG m p E n π T L e else 0)]
  exact RbOk.gown _ hk
theorem rbC_at (hq : Wk (uK m p q E n) π (oN (rM m p E) n)) : rbC m p q E n π T L (oN (rM m p E) n) = S (fun e => rbG m p E n π T L e * uQ m p q E n e) (oN (rM m p E) n) := by
  unfold rbC
  rw [S_congr (g := fun b => (fun e => rbG m p E n π T L e * uQ m p q E n e) (π b)) fun b hb => by (try dsimp only); rw [rbG_at hq hb], hq.sum (fun e => rbG m p E n π T L e * uQ m p q E n e)]
/-- every permitted row of powers costs at least as much -/
theorem rb_opt (h : RbOk m p q E n) (hq : Wk (uK m p q E n) π (oN (rM m p E) n)) (hT : 0 ≤ T) (hL : 0 ≤ L) {x : Nat → Int} (hx : ∀ k, k < n → 0 ≤ x k ∧ x k ≤ S (p k) (m k)) (hs : S x n = T) (hl : S (fun k => x k - min (x k) (E k)) n ≤ L) :
    rbD m p E n π T L (oN (rM m p E) n) = 0 ∧ rbC m p q E n π T L (oN (rM m p E) n) ≤ S (fun k => S (ct (p k) (q k) (x k)) (m k)) n := by
  have hy : ∀ z, z < oN (rM m p E) n → 0 ≤ uY m p E x n (π z) ∧ uY m p E x n (π z) ≤ uS m p E n (π z) := fun z hz => h.yb x (hq.lt hz)
  have hyT : S (fun b => uY m p E x n (π b)) (oN (rM m p E) n) = T := by rw [hq.sum (uY m p E x n), h.ysum hx, hs]
  have hyL : lS (fun b => uY m p E x n (π b)) (fun b => uF m p E n (π b)) (oN (rM m p E) n) ≤ L := by
    have e : lS (fun b => uY m p E x n (π b)) (fun b => uF m p E n (π b)) (oN (rM m p E) n) = lS (uY m p E x n) (uF m p E n) (oN (rM m p E) n) := hq.sum (fun e => if uF m p E n e then uY m p E x n e else 0)
    rw [e, h.ylate hx]
    exact hl
  have ha := fun b (hb : b ≤ oN (rM m p E) n) => gn_ahead (lt := fun b => uF m p E n (π b)) hT hL (rb_pos h hq) hy (Int.le_of_eq hyT) hyL hb
  have hN := ha _ (Nat.le_refl _)
  have hg := gn_sum (lt := fun b => uF m p E n (π b)) hT hL (rb_pos h hq) _ (Nat.le_refl _)
  have hd := gd_nn T L (fun b => uS m p E n (π b)) (fun b => uF m p E n (π b)) (oN (rM m p E) n)
  have hD : gd T L (fun b => uS m p E n (π b)) (fun b => uF m p E n (π b)) (oN (rM m p E) n) = 0 := by omega
  refine ⟨hD, ?_⟩
  have hc : ∀ b, b + 1 < oN (rM m p E) n → uQ m p q E n (π b) ≤ uQ m p q E n (π (b + 1)) := fun b hb => by
    have := hq.le (show b ≤ b + 1 by omega) hb
    unfold uK at this
    split at this <;> split at this <;> omega
  have := abel0 (c := fun b => uQ m p q E n (π b)) hc ha (by omega)
  refine Int.le_trans this ?_
  have e : S (fun b => uY m p E x n (π b) * uQ m p q E n (π b)) (oN (rM m p E) n) = S (fun e => uY m p E x n e * uQ m p q E n e) (oN (rM m p E) n) := hq.sum fun e => uY m p E x n e * uQ m p q E n e
  rw [e, h.ycost]
  exact Int.le_refl _
/-- what is found -/
theorem rb_found (h : RbOk m p q E n) (hq : Wk (uK m p q E n) π (oN (rM m p E) n)) (hT : 0 ≤ T) (hL : 0 ≤ L) :
    (∀ k, k < n → 0 ≤ rbX m p E n π T L k (oN (rM m p E) n) ∧ rbX m p E n π T L k (oN (rM m p E) n) ≤ S (p k) (m k)) ∧
    S (fun k => rbX m p E n π T L k (oN (rM m p E) n)) n = T - rbD m p E n π T L (oN (rM m p E) n) ∧
    S (fun k => rbX m p E n π T L k (oN (rM m p E) n) - min (rbX m p E n π T L k (oN (rM m p E) n)) (E k)) n ≤ L ∧
    (rbD m p E n π T L (oN (rM m p E) n) = 0 → S (fun k => S (ct (p k) (q k) (rbX m p E n π T L k (oN (rM m p E) n))) (m k)) n = rbC m p q E n π T L (oN (rM m p E) n)) := by
  have hG := fun e (he : e < oN (rM m p E) n) => rbG_b h hq hT hL he
  have hX := fun k (hk : k < n) => rbX_at (T := T) (L := L) hq hk
  have b1 : ∀ k, k < n → 0 ≤ rbX m p E n π T L k (oN (rM m p E) n) ∧ rbX m p E n π T L k (oN (rM m p E) n) ≤ S (p k) (m k) := fun k hk => by
    rw [hX k hk]
    constructor
    · have := S_mono (p := uG m p E (rbG m p E n π T L) k) (i := 0) (j := m k) (fun j hj => (h.gb hG hk hj).1) (Nat.zero_le _)
      exact this
    · exact S_leQ fun j hj => (h.gb hG hk hj).2
  have b2 : S (fun k => rbX m p E n π T L k (oN (rM m p E) n)) n = T - rbD m p E n π T L (oN (rM m p E) n) := by
    rw [S_congr hX]
    have e : S (fun k => S (uG m p E (rbG m p E n π T L) k) (m k)) n = S (rbG m p E n π T L) (oN (rM m p E) n) := (flat3 _).symm
    rw [e, ← hq.sum (rbG m p E n π T L), S_congr fun b hb => rbG_at (T := T) (L := L) hq hb]
    exact gn_sum (lt := fun b => uF m p E n (π b)) hT hL (rb_pos h hq) _ (Nat.le_refl _)
  have b3 : S (fun k => rbX m p E n π T L k (oN (rM m p E) n) - min (rbX m p E n π T L k (oN (rM m p E) n)) (E k)) n ≤ L := by
    rw [S_congr (g := fun k => S (uG m p E (rbG m p E n π T L) k) (m k) - min (S (uG m p E (rbG m p E n π T L) k) (m k)) (E k)) fun k hk => by rw [hX k hk]]
    refine Int.le_trans (h.glate hG) ?_
    have e : lS (rbG m p E n π T L) (uF m p E n) (oN (rM m p E) n) = lS (rbN m p E n π T L) (fun b => uF m p E n (π b)) (oN (rM m p E) n) := by
      unfold lS
      rw [← hq.sum fun e => if uF m p E n e then rbG m p E n π T L e else 0]
      exact S_congr fun b hb => by rw [rbG_at hq hb]
    rw [e]
    have h1 := gn_late T L (fun b => uS m p E n (π b)) (fun b => uF m p E n (π b)) (oN (rM m p E) n)
    have h2 := (gl_inv (lt := fun b => uF m p E n (π b)) hT hL (rb_pos h hq) _ (Nat.le_refl _)).1
    unfold rbN
    omega
  refine ⟨b1, b2, b3, fun hd => Int.le_antisymm ?_ ?_⟩
  · rw [rbC_at hq, S_congr (g := fun k => S (ct (p k) (q k) (S (uG m p E (rbG m p E n π T L) k) (m k))) (m k)) fun k hk => by rw [hX k hk]]
    exact h.fills hG
  · exact (rb_opt h hq hT hL b1 (by rw [b2, hd]; omega) b3).2
end
end Go.Proofs.Ytkkkldhilofgmaa
