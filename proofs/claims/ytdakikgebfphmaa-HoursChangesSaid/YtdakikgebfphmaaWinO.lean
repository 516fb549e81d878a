/-
  Offers between two powers: what is taken in the order of the prices costs least.
-/
import Derived.Test.YtdakikgebfphmaaWinP
import Derived.Test.YtdakikgebfphmaaOptP
namespace Go.Proofs.Ytdakikgebfphmaa
open Go.RowKit

theorem Win.opt {m : Nat → Nat} {p q : Nat → Nat → Int} {lo hi : Nat → Int} {n : Nat} (h : Win m p q lo hi n) {π : Nat → Nat} (hq : Sorted (bSz (wM m p lo hi) (wQ m p q lo) n) π (oN (wM m p lo hi) n)) {T : Int} (h0 : 0 ≤ T) (h1 : T ≤ S (wR lo hi) n)
    {y : Nat → Int} (hy : ∀ k, k < n → lo k ≤ y k ∧ y k ≤ hi k) (hs : S y n = S lo n + T) : S (wC m p q fun k => lo k + wX m p lo hi n π T k) n ≤ S (wC m p q y) n := by
  have hb := h.blks hq
  have e := h.sum
  have hz : S (fun k => y k - lo k) n = T := by
    have g := S_plus2 (fun k => y k - lo k) lo n
    rw [S_congr (f := fun i => (y i - lo i) + lo i) (g := y) fun k _ => by omega] at g
    omega
  have ho := hb.opt h0 (by omega) (z := fun k => y k - lo k) (fun k hk => by
    have g1 := hy k hk
    have g2 := h.all hk
    rw [g2]
    unfold wR
    omega) hz
  rw [h.cost hq h0 h1]
  have e2 : S (wC m p q y) n = S (wC m p q lo) n + S (fun k => S (ct (wP m p lo hi k) (wQ m p q lo k) (y k - lo k)) (wM m p lo hi k)) n := by
    rw [← S_plus2]
    refine S_congr fun k hk => ?_
    have g1 := hy k hk
    have g3 := h.c hk (x := y k - lo k) (by omega) (by unfold wR; omega)
    rw [show lo k + (y k - lo k) = y k by omega] at g3
    exact g3
  rw [e2]
  exact Int.add_le_add_left ho _
end Go.Proofs.Ytdakikgebfphmaa
