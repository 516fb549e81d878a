/-
  Offers between two powers: what is taken in the order of the prices costs least.
-/
import Derived.Test.YtdakikgebfphmaaWinP
namespace Go.Proofs.Ytdakikgebfphmaa
open Go.RowKit

def amt (p : Nat → Int) (z : Int) (j : Nat) : Int := min (max (z - S p j) 0) (p j)
theorem amt_sum {p : Nat → Int} {m : Nat} (hp : ∀ j, j < m → 1 ≤ p j) {z : Int} (h0 : 0 ≤ z) : ∀ k, k ≤ m → S (amt p z) k = min z (S p k)
  | 0, _ => by
    show 0 = min z 0
    omega
  | k + 1, hk => by
    have ih := amt_sum hp h0 k (by omega)
    have := hp k (by omega)
    have e : S p (k + 1) = S p k + p k := rfl
    show S (amt p z) k + amt p z k = _
    rw [ih, e]
    unfold amt
    omega
theorem S_mulc (c : Int) (f : Nat → Int) : ∀ n, S (fun k => c * f k) n = c * S f n
  | 0 => (Int.mul_zero c).symm
  | n + 1 => by
    have := S_mulc c f n
    simp only [S] at *
    rw [this, Int.mul_add]
theorem S_leS {f g : Nat → Int} : ∀ {n : Nat}, (∀ k, k < n → f k ≤ g k) → S f n ≤ S g n
  | 0, _ => Int.le_refl _
  | n + 1, h => by
    have := S_leS (n := n) fun k hk => h k (by omega)
    have := h n (by omega)
    simp only [S]
    omega
theorem fl_amt {m J j : Nat} {p : Nat → Int} {r : Int} (hp : ∀ j, j < m → 1 ≤ p j) (h : FlOk m p J r) (hj : j < m) : amt p (S p J + r) j = flA p J r j := by
  have h0 := h.nn
  unfold amt flA
  by_cases h1 : j < J
  · rw [if_pos h1]
    have := S_step hp h1 h.le
    omega
  · rw [if_neg h1]
    by_cases h2 : j = J
    · subst h2
      rw [if_pos rfl]
      have := h.lt hj
      omega
    · rw [if_neg h2]
      have h3 := S_step hp (show J < j by omega) (by omega)
      have h4 := h.lt (by omega)
      have := hp j hj
      omega
section
variable {m : Nat → Nat} {p q : Nat → Nat → Int} {n : Nat} {π : Nat → Nat}
/-- at some price the steps below it are taken whole, the steps above it not at all -/
theorem Blks2.price (h : Blks2 m p q n π) {T : Int} {B : Nat} (hB : bAt m p n π T B) : ∃ c : Int, ∀ k, k < n → ∀ j, j < m k → (q k j < c → amt (p k) (bX m p n π T k (oN m n)) j = p k j) ∧ (c < q k j → amt (p k) (bX m p n π T k (oN m n)) j = 0) := by
  have key : ∀ k, k < n → ∀ j, j < m k → ∃ b, b < oN m n ∧ π b = oN m k + j ∧ amt (p k) (bX m p n π T k (oN m n)) j = if b < B then p k j else if b = B then T - bCum m p n π B else 0 := fun k hk j hj => by
    obtain ⟨J, r, f1, f2, f3, _⟩ := h.fill hB hk
    have he : oN m k + j < oN m n := by
      have h1 := oN_mono (m := m) (a := k + 1) (b := n) hk
      have h2 : oN m (k + 1) = oN m k + m k := rfl
      omega
    obtain ⟨b, b1, b2⟩ := h.srt.onto he
    refine ⟨b, b1, b2, ?_⟩
    rw [f2, fl_amt (h.pos k hk) f1 hj, ← f3 j hj, ← b2, ← h.am hB b1, h.tk hB b1, b2, bSz_at hk hj]
  by_cases hBN : B < oN m n
  · refine ⟨bSz m q n (π B), fun k hk j hj => ?_⟩
    obtain ⟨b, b1, b2, b3⟩ := key k hk j hj
    have hq : bSz m q n (π b) = q k j := by rw [b2, bSz_at hk hj]
    rw [b3]
    refine ⟨fun hlt => ?_, fun hlt => ?_⟩
    · rw [if_pos]
      by_cases hb : b < B
      · exact hb
      · have := h.srt.le (i := B) (j := b) (by omega) b1
        omega
    · rw [if_neg, if_neg]
      · intro hb; rw [hb] at hq; omega
      · intro hb
        have := h.srt.le (i := b) (j := B) (by omega) hBN
        omega
  · refine ⟨2000000, fun k hk j hj => ?_⟩
    obtain ⟨b, b1, b2, b3⟩ := key k hk j hj
    rw [b3]
    refine ⟨fun _ => if_pos (by omega), fun hlt => ?_⟩
    have := h.cap k hk j hj
    omega
theorem Blks2.opt (h : Blks2 m p q n π) {T : Int} (h0 : 0 ≤ T) (h1 : T ≤ S (fun k => S (p k) (m k)) n) {z : Nat → Int} (hz : ∀ k, k < n → 0 ≤ z k ∧ z k ≤ S (p k) (m k)) (hs : S z n = T) :
    S (fun k => S (ct (p k) (q k) (bX m p n π T k (oN m n))) (m k)) n ≤ S (fun k => S (ct (p k) (q k) (z k)) (m k)) n := by
  obtain ⟨B, hB⟩ := h.at h0 h1
  obtain ⟨c, hc⟩ := h.price hB
  have hX := bX_sum h h0 h1
  have hXb : ∀ k, k < n → 0 ≤ bX m p n π T k (oN m n) ∧ bX m p n π T k (oN m n) ≤ S (p k) (m k) := fun k hk => by
    obtain ⟨J, r, f1, f2, _⟩ := h.fill hB hk
    have hp := h.pos k hk
    have g1 := S_mono (p := p k) (i := 0) (j := J) (fun j hj => by have := hp j (by have := f1.le; omega); omega) (Nat.zero_le _)
    have g0 : S (p k) 0 = 0 := rfl
    have g2 := f1.nn
    rw [f2]
    rcases Nat.eq_or_lt_of_le f1.le with e | hlt
    · have h5 := f1.end' e
      rw [e] at g1 ⊢
      omega
    · have h3 := S_step hp hlt (Nat.le_refl _)
      have h4 := f1.lt hlt
      omega
  have split : ∀ k, k < n → ∀ y, 0 ≤ y → y ≤ S (p k) (m k) → S (ct (p k) (q k) y) (m k) = S (fun j => amt (p k) y j * (q k j - c)) (m k) + c * y := fun k hk y y0 y1 => by
    have e : c * y = S (fun j => c * amt (p k) y j) (m k) := by
      rw [S_mulc, amt_sum (h.pos k hk) y0 _ (Nat.le_refl _), Int.min_eq_left y1]
    rw [e, ← S_plus2]
    refine S_congr fun j hj => ?_
    show amt (p k) y j * q k j = amt (p k) y j * (q k j - c) + c * amt (p k) y j
    rw [Int.mul_sub, Int.mul_comm c]
    omega
  have each : ∀ k, k < n → S (ct (p k) (q k) (bX m p n π T k (oN m n))) (m k) - c * bX m p n π T k (oN m n) ≤ S (ct (p k) (q k) (z k)) (m k) - c * z k := fun k hk => by
    rw [split k hk _ (hXb k hk).1 (hXb k hk).2, split k hk _ (hz k hk).1 (hz k hk).2]
    have := S_leS (f := fun j => amt (p k) (bX m p n π T k (oN m n)) j * (q k j - c)) (g := fun j => amt (p k) (z k) j * (q k j - c)) (n := m k) fun j hj => by
      obtain ⟨c1, c2⟩ := hc k hk j hj
      have hp := h.pos k hk j hj
      have hzb : 0 ≤ amt (p k) (z k) j ∧ amt (p k) (z k) j ≤ p k j := by unfold amt; omega

      rcases Int.lt_trichotomy (q k j) c with hlt | he | hgt
      · rw [c1 hlt]
        exact Int.mul_le_mul_of_nonpos_right hzb.2 (by omega)
      · rw [he, Int.sub_self, Int.mul_zero, Int.mul_zero]
        exact Int.le_refl _
      · rw [c2 hgt, Int.zero_mul]
        exact Int.mul_nonneg hzb.1 (by omega)
    omega
  have all := S_leS each
  have e1 : ∀ y : Nat → Int, S (fun k => S (ct (p k) (q k) (y k)) (m k) - c * y k) n = S (fun k => S (ct (p k) (q k) (y k)) (m k)) n - c * S y n := fun y => by
    have g := S_plus2 (fun k => S (ct (p k) (q k) (y k)) (m k) - c * y k) (fun k => c * y k) n
    rw [S_congr (f := fun i => (S (ct (p i) (q i) (y i)) (m i) - c * y i) + c * y i) (g := fun k => S (ct (p k) (q k) (y k)) (m k)) fun k _ => by omega, S_mulc] at g
    omega
  have e2 := e1 (fun k => bX m p n π T k (oN m n))
  have e3 := e1 z
  rw [hX] at e2
  rw [hs] at e3
  rw [e2, e3] at all
  omega
end
theorem Win.opt {m : Nat → Nat} {p q : Nat → Nat → Int} {lo hi : Nat → Int} {n : Nat} (h : Win m p q lo hi n) {π : Nat → Nat} (hq : Sorted (bSz (wM m p lo hi) (wQ m p q lo) n) π (oN (wM m p lo hi) n)) {T : Int} (h0 : 0 ≤ T) (h1 : T ≤ S (wR lo hi) n)
    {y : Nat → Int} (hy : ∀ k, k < n → lo k ≤ y k ∧ y k ≤ hi k) (hs : S y n = S lo n + T) : S (wC m p q fun k => lo k + wX m p lo hi n π T k) n ≤ S (wC m p q y) n := by
  have hb := h.blks hq
  have e := h.sum
  have hz : S (fun k => y k - lo k) n = T := by
    have g := S_plus2 (fun k => y k - lo k) lo n
    rw [S_congr (f := fun i => (y i - lo i) + lo i) (g := y) fun k _ => by omega] at g
    omega
  have ho := hb.opt h0 (by omega) (z := fun k => y k - lo k) (fun k hk => by
    have g1 := hy k hk
    have g2 := h.all hk
    rw [g2]
    unfold wR
    omega) hz
  rw [h.cost hq h0 h1]
  have e2 : S (wC m p q y) n = S (wC m p q lo) n + S (fun k => S (ct (wP m p lo hi k) (wQ m p q lo k) (y k - lo k)) (wM m p lo hi k)) n := by
    rw [← S_plus2]
    refine S_congr fun k hk => ?_
    have g1 := hy k hk
    have g3 := h.c hk (x := y k - lo k) (by omega) (by unfold wR; omega)
    rw [show lo k + (y k - lo k) = y k by omega] at g3
    exact g3
  rw [e2]
  exact Int.add_le_add_left ho _
end Go.Proofs.Ytdakikgebfphmaa
