/-
  Auctions: many units at once.
-/
import Derived.Test.YtdakikgebfphmaaAucD
namespace Go.Proofs.Ytdakikgebfphmaa
open Go.RowKit

section
variable {a : Nat → AuO} {n : Nat} {π1 π2 π : Nat → Nat} {b : Bool}
def aCm (a : Nat → AuO) (b : Bool) (n : Nat) (π : Nat → Nat) (i : Nat) : Int := bCum (aM a b) (aP a) n π i
/-- what the head lacks: up to the end of its block -/
theorem aHead (h : Auc a n π1 π2) (hs : Sorted (bSz (aM a b) (aQ a b) n) π (oN (aM a b) n)) {t : Int} (h0 : 0 ≤ t) (h1 : t ≤ aAll a b n) (hl : aHd a b n π t < oN (aM a b) n) :
    aX a b n π t (own (aM a b) n (π (aHd a b n π t))) = t - aCm a b n π (aHd a b n π t) ∧ aCm a b n π (aHd a b n π t + 1) = aCm a b n π (aHd a b n π t) + (a (own (aM a b) n (π (aHd a b n π t)))).pw ∧
      aCm a b n π (aHd a b n π t) ≤ t ∧ t < aCm a b n π (aHd a b n π t + 1) := by
  have hb := aBlks h.ok hs
  have hB := hd_at hb h0 h1
  obtain ⟨o1, o2⟩ := aOwn hs hl
  have hm : aM a b (own (aM a b) n (π (aHd a b n π t))) = 1 := if_pos o2
  obtain ⟨J, r, f1, f2, f3, f4⟩ := hb.fill hB o1
  obtain ⟨e1, e2⟩ := (f4 hl).1 rfl
  have e2 : J < aM a b (own (aM a b) n (π (aHd a b n π t))) := e2
  obtain rfl : J = 0 := by omega
  have f5 := f3 0 (by show 0 < aM a b (own (aM a b) n (π (aHd a b n π t))); omega)
  have f6 : flA (aP a (own (aM a b) n (π (aHd a b n π t)))) 0 r 0 = r := by unfold flA; rw [if_neg (by decide), if_pos rfl]
  have f7 := hb.am hB hl
  have f8 := hb.tk hB hl
  rw [if_neg (Nat.lt_irrefl _), if_pos rfl] at f8
  have f5' : bAm (aM a b) (aP a) (aQ a b) n π t (aHd a b n π t) (oN (aM a b) (own (aM a b) n (π (aHd a b n π t))) + 0) = r := f5.trans f6
  have e1 : π (aHd a b n π t) = oN (aM a b) (own (aM a b) n (π (aHd a b n π t))) + 0 := e1
  rw [← e1] at f5'
  have f7 : bTk (aM a b) (aP a) n π t (aHd a b n π t) = bAm (aM a b) (aP a) (aQ a b) n π t (aHd a b n π t) (π (aHd a b n π t)) := f7
  have f8 : bTk (aM a b) (aP a) n π t (aHd a b n π t) = t - aCm a b n π (aHd a b n π t) := f8
  have hr : r = t - aCm a b n π (aHd a b n π t) := by rw [← f8, f7, f5']
  have hX : aX a b n π t (own (aM a b) n (π (aHd a b n π t))) = S (aP a (own (aM a b) n (π (aHd a b n π t)))) 0 + r := f2
  have e0 : S (aP a (own (aM a b) n (π (aHd a b n π t)))) 0 = 0 := rfl
  exact ⟨by omega, rfl, hB.lo, hB.hi hl⟩
theorem aHd_keep (h : Auc a n π1 π2) (hs : Sorted (bSz (aM a b) (aQ a b) n) π (oN (aM a b) n)) {t u : Int} (h0 : 0 ≤ t) (h1 : t ≤ aAll a b n) (hl : aHd a b n π t < oN (aM a b) n) (hu0 : t ≤ u) (hu1 : u < aCm a b n π (aHd a b n π t + 1)) : aHd a b n π u = aHd a b n π t := by
  have hb := aBlks h.ok hs
  obtain ⟨_, _, g3, _⟩ := aHead h hs h0 h1 hl
  exact hd_eq hb (Nat.le_of_lt hl) (by unfold aCm at g3; omega) fun _ => hu1
theorem aHd_next (h : Auc a n π1 π2) (hs : Sorted (bSz (aM a b) (aQ a b) n) π (oN (aM a b) n)) {t u : Int} (h0 : 0 ≤ t) (h1 : t ≤ aAll a b n) (hl : aHd a b n π t < oN (aM a b) n) (hu : u = aCm a b n π (aHd a b n π t + 1)) : aHd a b n π u = aHd a b n π t + 1 := by
  have hb := aBlks h.ok hs
  refine hd_eq hb hl (by rw [hu]; exact Int.le_refl _) fun hlt => ?_
  have : bCum (aM a b) (aP a) n π (aHd a b n π t + 1 + 1) = bCum (aM a b) (aP a) n π (aHd a b n π t + 1) + bSz (aM a b) (aP a) n (π (aHd a b n π t + 1)) := rfl
  have h2 := hb.sz_pos (hs.lt hlt)
  rw [hu]
  unfold aCm
  omega
/-- d units at once, as long as the heads stay -/
theorem aFl_steps (h : Auc a n π1 π2) {t : Nat} (hall : ∀ u : Nat, u < t → aFit a n π1 π2 u) (hf : aFit a n π1 π2 t) : ∀ d : Nat, (t : Int) + d ≤ aCm a true n π1 (aHd a true n π1 t + 1) → (t : Int) + d ≤ aCm a false n π2 (aHd a false n π2 t + 1) →
    (∀ u : Nat, u < t + d → aFit a n π1 π2 u) ∧ ∀ k, aFl a n π1 π2 ((t : Int) + d) k = aFl a n π1 π2 t k + (if own (aM a true) n (π1 (aHd a true n π1 t)) = k then (d : Int) else 0) + (if own (aM a false) n (π2 (aHd a false n π2 t)) = k then (d : Int) else 0)
  | 0, _, _ => ⟨fun u hu => hall u (by omega), fun k => by
    rw [show (t : Int) + ((0 : Nat) : Int) = t by omega]
    split <;> split <;> omega⟩
  | d + 1, h1, h2 => by
    obtain ⟨i1, i2⟩ := aFl_steps h hall hf d (by omega) (by omega)
    obtain ⟨l1, l2⟩ := aFit_all h hf
    have e1 := aHd_keep h h.s1 (t := t) (u := (t : Int) + d) (by omega) (by omega) hf.1 (by omega) (by omega)
    have e2 := aHd_keep h h.s2 (t := t) (u := (t : Int) + d) (by omega) (by omega) hf.2.1 (by omega) (by omega)
    have hfd : aFit a n π1 π2 ((t : Int) + d) := by
      unfold aFit aKy
      rw [e1, e2]
      exact hf
    refine ⟨fun u hu => ?_, fun k => ?_⟩
    · by_cases hc : u < t + d
      · exact i1 u hc
      · rw [show (u : Int) = (t : Int) + d by omega]
        exact hfd
    · have hst := aFl_step h (t := (t : Int) + d) (by omega) hfd k
      rw [e1, e2, i2 k] at hst
      rw [show (t : Int) + ((d + 1 : Nat) : Int) = (t : Int) + d + 1 by omega, hst]
      split <;> split <;> omega
end
end Go.Proofs.Ytdakikgebfphmaa
