/-
  Auctions: both sides are taken in the order of their prices, as long as the heads fit.
-/
import Derived.Test.YtdakikgebfphmaaAucB
import Derived.Test.YtdakikgebfphmaaRsdP
namespace Go.Proofs.Ytdakikgebfphmaa
open Go.RowKit

theorem S_leS0 {f : Nat → Int} : ∀ {n : Nat}, (∀ k, k < n → 0 ≤ f k) → 0 ≤ S f n
  | 0, _ => Int.le_refl _
  | n + 1, h => by
    have := S_leS0 (n := n) fun k hk => h k (by omega)
    have := h n (by omega)
    simp only [S]
    omega
section
variable {m : Nat → Nat} {p q : Nat → Nat → Int} {n : Nat} {π : Nat → Nat}
/-- the block that is taken from when T units are taken -/
def hdB (m : Nat → Nat) (p : Nat → Nat → Int) (n : Nat) (π : Nat → Nat) (T : Int) : Nat := dn (fun i => bCum m p n π (i + 1) ≤ T) (oN m n)
theorem hd_spec (h : Blks2 m p q n π) (T : Int) : hdB m p n π T ≤ oN m n ∧ ∀ i, i < oN m n → (bCum m p n π (i + 1) ≤ T ↔ i < hdB m p n π T) :=
  dn_spec (P := fun i => bCum m p n π (i + 1) ≤ T) (m := oN m n) (fun j hj hh => by
    have := h.cum_mono (a := j + 1) (b := j + 1 + 1) (by omega) (by omega)
    omega) _ (Nat.le_refl _)
theorem hd_at (h : Blks2 m p q n π) {T : Int} (h0 : 0 ≤ T) (h1 : T ≤ S (fun k => S (p k) (m k)) n) : bAt m p n π T (hdB m p n π T) := by
  obtain ⟨B, hB⟩ := h.at h0 h1
  obtain ⟨g1, g2⟩ := hd_spec h T
  have e : hdB m p n π T = B := by
    have a1 := hB.le
    rcases Nat.lt_trichotomy (hdB m p n π T) B with hlt | e | hgt
    · have a2 := h.cum_mono (a := hdB m p n π T + 1) (b := B) hlt a1
      have := (g2 _ (by omega)).1 (Int.le_trans a2 hB.lo)
      omega
    · exact e
    · have a2 := (g2 B (by omega)).2 hgt
      have := hB.hi (by omega)
      omega
  rw [e]
  exact hB
theorem hd_eq (h : Blks2 m p q n π) {T : Int} {i : Nat} (hi : i ≤ oN m n) (h0 : bCum m p n π i ≤ T) (h1 : i < oN m n → T < bCum m p n π (i + 1)) : hdB m p n π T = i := by
  obtain ⟨g1, g2⟩ := hd_spec h T
  rcases Nat.lt_trichotomy (hdB m p n π T) i with hlt | e | hgt
  · have a2 := h.cum_mono (a := hdB m p n π T + 1) (b := i) hlt hi
    have := (g2 (hdB m p n π T) (by omega)).1 (by omega)
    omega
  · exact e
  · have a2 := (g2 i (by omega)).2 hgt
    have := h1 (by omega)
    omega
theorem hd_mono (h : Blks2 m p q n π) {T T' : Int} (hT : T ≤ T') : hdB m p n π T ≤ hdB m p n π T' := by
  obtain ⟨g1, g2⟩ := hd_spec h T
  obtain ⟨g3, g4⟩ := hd_spec h T'
  by_cases hh : hdB m p n π T ≤ hdB m p n π T'
  · exact hh
  · have := (g2 (hdB m p n π T') (by omega)).2 (by omega)
    have := (g4 (hdB m p n π T') (by omega)).1 (by omega)
    omega
theorem hd_lt (h : Blks2 m p q n π) {T : Int} (hT : hdB m p n π T < oN m n) : T < S (fun k => S (p k) (m k)) n := by
  obtain ⟨g1, g2⟩ := hd_spec h T
  have h1 : ¬ bCum m p n π (hdB m p n π T + 1) ≤ T := fun hh => by have := (g2 _ hT).1 hh; omega
  have h2 := h.cum_mono (a := hdB m p n π T + 1) (b := oN m n) (by omega) (Nat.le_refl _)
  rw [h.cum_all] at h2
  omega
end
section
variable {a : Nat → AuO} {n : Nat} {π1 π2 : Nat → Nat}
/-- the head of a side when t units are cleared; its price (a buyer's price counts down) -/
abbrev aHd (a : Nat → AuO) (b : Bool) (n : Nat) (π : Nat → Nat) (t : Int) : Nat := hdB (aM a b) (aP a) n π t
def aKy (a : Nat → AuO) (b : Bool) (n : Nat) (π : Nat → Nat) (t : Int) : Int := bSz (aM a b) (aQ a b) n (π (aHd a b n π t))
/-- one more unit can be cleared -/
def aFit (a : Nat → AuO) (n : Nat) (π1 π2 : Nat → Nat) (t : Int) : Prop :=
  aHd a true n π1 t < oN (aM a true) n ∧ aHd a false n π2 t < oN (aM a false) n ∧ aKy a true n π1 t + aKy a false n π2 t ≤ 0
structure Auc (a : Nat → AuO) (n : Nat) (π1 π2 : Nat → Nat) : Prop where
  ok : ∀ k, k < n → 1 ≤ (a k).pw ∧ -1000000 ≤ (a k).pr ∧ (a k).pr ≤ 1000000
  s1 : Sorted (bSz (aM a true) (aQ a true) n) π1 (oN (aM a true) n)
  s2 : Sorted (bSz (aM a false) (aQ a false) n) π2 (oN (aM a false) n)
theorem Auc.b1 (h : Auc a n π1 π2) : Blks2 (aM a true) (aP a) (aQ a true) n π1 := aBlks h.ok h.s1
theorem Auc.b2 (h : Auc a n π1 π2) : Blks2 (aM a false) (aP a) (aQ a false) n π2 := aBlks h.ok h.s2
theorem aFit_mono (h : Auc a n π1 π2) {t t' : Int} (ht : t ≤ t') (hf : aFit a n π1 π2 t') : aFit a n π1 π2 t := by
  obtain ⟨f1, f2, f3⟩ := hf
  have m1 := hd_mono h.b1 ht
  have m2 := hd_mono h.b2 ht
  have k1 := h.s1.le (i := aHd a true n π1 t) (j := aHd a true n π1 t') m1 f1
  have k2 := h.s2.le (i := aHd a false n π2 t) (j := aHd a false n π2 t') m2 f2
  have m1 : aHd a true n π1 t ≤ aHd a true n π1 t' := m1
  have m2 : aHd a false n π2 t ≤ aHd a false n π2 t' := m2
  unfold aKy at f3
  refine ⟨by omega, by omega, ?_⟩
  unfold aKy
  omega
/-- where the clearing ends -/
theorem aFit_end (h : Auc a n π1 π2) {t t' : Nat} (h1 : ∀ u : Nat, u < t → aFit a n π1 π2 u) (h2 : ¬ aFit a n π1 π2 t) (h3 : ∀ u : Nat, u < t' → aFit a n π1 π2 u) (h4 : ¬ aFit a n π1 π2 t') : t = t' := by
  rcases Nat.lt_trichotomy t t' with hlt | e | hgt
  · exact absurd (h3 t hlt) h2
  · exact e
  · exact absurd (h1 t' hgt) h4
theorem aFit_all (h : Auc a n π1 π2) {t : Int} (hf : aFit a n π1 π2 t) : t < aAll a true n ∧ t < aAll a false n := ⟨hd_lt h.b1 hf.1, hd_lt h.b2 hf.2.1⟩
theorem aFit_le (h : Auc a n π1 π2) {t : Nat} (h1 : ∀ u : Nat, u < t → aFit a n π1 π2 u) : (t : Int) ≤ aAll a true n ∧ (t : Int) ≤ aAll a false n := by
  have g : ∀ b, 0 ≤ aAll a b n := fun b => by
    have := S_leS0 (f := fun k => S (aP a k) (aM a b k)) (n := n) fun k hk => by
      have := (h.ok k hk).1
      unfold aM
      split
      · show 0 ≤ 0 + (a k).pw; omega
      · exact Int.le_refl _
    exact this
  rcases Nat.eq_zero_or_pos t with rfl | ht
  · exact ⟨g true, g false⟩
  · have := aFit_all h (h1 (t - 1) (by omega))
    omega
/-- the order of a side that best finds -/
theorem aBest (h : Auc a n π1 π2) {b : Bool} {π : Nat → Nat} (hs : Sorted (bSz (aM a b) (aQ a b) n) π (oN (aM a b) n)) {t : Int} (h0 : 0 ≤ t) (h1 : t ≤ aAll a b n) {x : Nat → Int} (hx : ∀ k, k < n → (a k).bu = b → x k = aX a b n π t k) :
    amC (aRoom a b x) (fun k => aQ a b k 0) n = if aHd a b n π t < oN (aM a b) n then (own (aM a b) n (π (aHd a b n π t)) : Int) else -1 := by
  have hb := aBlks h.ok hs
  have hB := hd_at hb h0 h1
  have hU : ∀ k, k < n → U (aP a k) (aQ a b k) (aM a b k) (aX a b n π t k) = if aRoom a b x k then aQ a b k 0 else 2000000 := fun k hk => by
    obtain ⟨g1, g2, g3⟩ := aX_b h.ok hs h0 h1 k hk
    have hp := (h.ok k hk).1
    by_cases hc : (a k).bu = b
    · have hm : aM a b k = 1 := if_pos hc
      have hxk := hx k hk hc
      have e1 : S (aP a k) 1 = 0 + (a k).pw := rfl
      by_cases hr : x k = (a k).pw
      · rw [if_neg (fun hh => hh.2 hr), hm]
        refine U_none fun j hj => ?_
        obtain rfl : j = 0 := by omega
        rw [e1]
        omega
      · rw [if_pos ⟨hc, hr⟩, hm]
        refine U_at (i := 0) (fun j hj => absurd hj (Nat.not_lt_zero _)) ?_ (by decide)
        show aX a b n π t k < S (aP a k) 1
        rw [e1]
        omega
    · have hm : aM a b k = 0 := if_neg hc
      rw [if_neg (fun hh => hc hh.1), hm]
      exact U_none fun j hj => absurd hj (Nat.not_lt_zero _)
  have hcap : ∀ k, k < n → aQ a b k 0 ≤ 1000000 := fun k hk => by
    have := h.ok k hk
    unfold aQ
    split <;> omega
  by_cases hlt : aHd a b n π t < oN (aM a b) n
  · rw [if_pos hlt]
    obtain ⟨o1, o2, o3⟩ := hb.next hB hlt
    have hk0 := hU _ o1
    have hcap0 : bSz (aM a b) (aQ a b) n (π (hdB (aM a b) (aP a) n π t)) ≤ 1000000 := by
      have := hcap _ o1
      exact this
    have o2' : U (aP a (own (aM a b) n (π (aHd a b n π t)))) (aQ a b (own (aM a b) n (π (aHd a b n π t)))) (aM a b (own (aM a b) n (π (aHd a b n π t)))) (aX a b n π t (own (aM a b) n (π (aHd a b n π t)))) = bSz (aM a b) (aQ a b) n (π (aHd a b n π t)) := o2
    have hr0 : aRoom a b x (own (aM a b) n (π (aHd a b n π t))) := by
      by_cases hh : aRoom a b x (own (aM a b) n (π (aHd a b n π t)))
      · exact hh
      · have hk0 : U (aP a (own (aM a b) n (π (aHd a b n π t)))) (aQ a b (own (aM a b) n (π (aHd a b n π t)))) (aM a b (own (aM a b) n (π (aHd a b n π t)))) (aX a b n π t (own (aM a b) n (π (aHd a b n π t)))) = 2000000 := by
          have := hU _ o1
          rw [if_neg hh] at this
          exact this
        have hcap0 : bSz (aM a b) (aQ a b) n (π (aHd a b n π t)) ≤ 1000000 := hcap0
        omega
    refine amC_eq hr0 (fun k hk hr => ?_) o1
    have h5 := hU k hk
    rw [if_pos hr] at h5
    have h6 := hU _ o1
    have h6 : U (aP a (own (aM a b) n (π (aHd a b n π t)))) (aQ a b (own (aM a b) n (π (aHd a b n π t)))) (aM a b (own (aM a b) n (π (aHd a b n π t)))) (aX a b n π t (own (aM a b) n (π (aHd a b n π t)))) = aQ a b (own (aM a b) n (π (aHd a b n π t))) 0 := by
      rw [hU _ o1, if_pos hr0]
    have h7 : bSz (aM a b) (aQ a b) n (π (aHd a b n π t)) ≤ U (aP a k) (aQ a b k) (aM a b k) (aX a b n π t k) ∧ (k < own (aM a b) n (π (aHd a b n π t)) → bSz (aM a b) (aQ a b) n (π (aHd a b n π t)) < U (aP a k) (aQ a b k) (aM a b k) (aX a b n π t k)) := o3 k hk
    rw [h5] at h7
    rw [← h6, o2']
    exact h7
  · rw [if_neg hlt]
    refine amC_none fun k hk hr => ?_
    have hBN : hdB (aM a b) (aP a) n π t = oN (aM a b) n := by
      have := hB.le
      have : ¬ hdB (aM a b) (aP a) n π t < oN (aM a b) n := hlt
      omega
    have ht := hB.fin hBN
    rw [hBN, hb.cum_all] at ht
    have hsum := bX_sum hb h0 (by omega)
    obtain ⟨hr1, hr2⟩ := hr
    have hxk := hx k hk hr1
    have h9 : S (fun k => S (aP a k) (aM a b k) - bX (aM a b) (aP a) n π t k (oN (aM a b) n)) n = 0 := by
      have := S_plus2 (fun k => S (aP a k) (aM a b k) - bX (aM a b) (aP a) n π t k (oN (aM a b) n)) (fun k => bX (aM a b) (aP a) n π t k (oN (aM a b) n)) n
      rw [S_congr (f := fun i => (S (aP a i) (aM a b i) - bX (aM a b) (aP a) n π t i (oN (aM a b) n)) + bX (aM a b) (aP a) n π t i (oN (aM a b) n)) (g := fun k => S (aP a k) (aM a b k)) fun k _ => by omega] at this
      omega
    have hSk : ∀ k, S (aP a k) (aM a b k) = if (a k).bu = b then (a k).pw else 0 := fun k => by
      unfold aM
      split
      · show 0 + (a k).pw = _; omega
      · rfl
    have h10 := S_nil (f := fun k => S (aP a k) (aM a b k) - bX (aM a b) (aP a) n π t k (oN (aM a b) n)) (fun k hk => by
      obtain ⟨g1, g2, g3⟩ := aX_b h.ok hs h0 h1 k hk
      have e := hSk k
      by_cases hc : (a k).bu = b
      · rw [if_pos hc] at e
        show 0 ≤ S (aP a k) (aM a b k) - aX a b n π t k
        omega
      · rw [if_neg hc] at e
        have := g3 hc
        show 0 ≤ S (aP a k) (aM a b k) - aX a b n π t k
        omega) h9 k hk
    have e := hSk k
    rw [if_pos hr1] at e
    have h10 : S (aP a k) (aM a b k) - aX a b n π t k = 0 := h10
    omega
end
end Go.Proofs.Ytdakikgebfphmaa
