/-
  Offers between two powers each: what is left of their steps, all of them together.
-/
import Derived.Test.YtdakikgebfphmaaOffLs
import Derived.Test.YtdakikgebfphmaaRsdP
import Derived.Test.YtdakikgebfphmaaBlkR
namespace Go.Proofs.Ytdakikgebfphmaa
open Go.RowKit

section
variable (m : Nat → Nat) (p q : Nat → Nat → Int) (lo hi : Nat → Int)
def wM (k : Nat) : Nat := rM (p k) (m k) (lo k) (hi k)
def wP (k : Nat) : Nat → Int := rP (p k) (m k) (lo k) (hi k)
def wQ (k : Nat) : Nat → Int := rQ (p k) (q k) (m k) (lo k)
def wR (k : Nat) : Int := hi k - lo k
def wC (x : Nat → Int) (k : Nat) : Int := S (ct (p k) (q k) (x k)) (m k)
def wN (k j : Nat) : Nat := if lo k < hi k then min j (rK (p k) (hi k) (m k)) - rJ (p k) (lo k) (m k) else 0
/-- the powers fit the offers -/
structure Win (n : Nat) : Prop where
  ok : ∀ k, k < n → okOff (m k) (p k) (q k)
  cap : ∀ k, k < n → S (p k) (m k) ≤ 100000
  lo0 : ∀ k, k < n → 0 ≤ lo k
  le : ∀ k, k < n → lo k ≤ hi k
  hi1 : ∀ k, k < n → hi k ≤ S (p k) (m k)
end
section
variable {m : Nat → Nat} {p q : Nat → Nat → Int} {lo hi : Nat → Int} {n k : Nat}
theorem Win.pos (h : Win m p q lo hi n) (hk : k < n) : ∀ j, j < m k → 1 ≤ p k j := fun j hj => ((h.ok k hk).2.1 j hj).1
theorem Win.all (h : Win m p q lo hi n) (hk : k < n) : S (wP m p lo hi k) (wM m p lo hi k) = wR lo hi k := rP_all (h.pos hk) (h.lo0 k hk) (h.le k hk) (h.hi1 k hk)
theorem Win.pb (h : Win m p q lo hi n) (hk : k < n) {j : Nat} (hj : j < wM m p lo hi k) : 1 ≤ wP m p lo hi k j ∧ wP m p lo hi k j ≤ 100000 := by
  have hp := h.pos hk
  refine ⟨rP_pos hp hj, ?_⟩
  obtain ⟨a1, a2, a3, a4⟩ := rM_at hp hj
  have := ((h.ok k hk).2.1 _ a1).2.1
  have e : S (p k) (rJ (p k) (lo k) (m k) + j + 1) = S (p k) (rJ (p k) (lo k) (m k) + j) + p k (rJ (p k) (lo k) (m k) + j) := rfl
  unfold wP rP
  omega
theorem Win.qb (h : Win m p q lo hi n) (hk : k < n) {j : Nat} (hj : j < wM m p lo hi k) : -1000000 ≤ wQ m p q lo k j ∧ wQ m p q lo k j ≤ 1000000 := by
  have hp := h.pos hk
  obtain ⟨a1, a2, a3, a4⟩ := rM_at hp hj
  have := (h.ok k hk).2.1 _ a1
  exact ⟨this.2.2.1, this.2.2.2⟩
theorem Win.u (h : Win m p q lo hi n) (hk : k < n) {x : Int} (hx : 0 ≤ x) : U (wP m p lo hi k) (wQ m p q lo k) (wM m p lo hi k) x = if x < wR lo hi k then U (p k) (q k) (m k) (lo k + x) else 2000000 := rU (h.pos hk) (h.lo0 k hk) (h.le k hk) (h.hi1 k hk) hx
theorem Win.c (h : Win m p q lo hi n) (hk : k < n) {x : Int} (hx : 0 ≤ x) (hx1 : x ≤ wR lo hi k) : S (ct (p k) (q k) (lo k + x)) (m k) = S (ct (p k) (q k) (lo k)) (m k) + S (ct (wP m p lo hi k) (wQ m p q lo k) x) (wM m p lo hi k) := rct (h.pos hk) (h.lo0 k hk) (h.le k hk) (h.hi1 k hk) hx hx1
theorem Win.m12 (h : Win m p q lo hi n) (hk : k < n) : wM m p lo hi k ≤ 12 := Nat.le_trans (rM_le (h.pos hk)).1 (h.ok k hk).1
theorem Win.blks (h : Win m p q lo hi n) {π : Nat → Nat} (hs : Sorted (bSz (wM m p lo hi) (wQ m p q lo) n) π (oN (wM m p lo hi) n)) : Blks2 (wM m p lo hi) (wP m p lo hi) (wQ m p q lo) n π :=
  ⟨fun k hk j hj => by
    obtain ⟨a1, a2, a3, a4⟩ := rM_at (h.pos hk) hj
    exact (h.ok k hk).2.2.1 (rJ (p k) (lo k) (m k) + j) (by omega),
   fun k hk j hj => (h.pb hk hj).1, fun k hk j hj => (h.qb hk hj).2, hs⟩
theorem Win.sum (h : Win m p q lo hi n) : S (fun k => S (wP m p lo hi k) (wM m p lo hi k)) n = S (wR lo hi) n := S_congr fun k hk => h.all hk
theorem Win.rb (h : Win m p q lo hi n) {k : Nat} (hk : k ≤ n) : 0 ≤ S (wR lo hi) k ∧ S (wR lo hi) k ≤ 100000 * k ∧ 0 ≤ S lo k ∧ S lo k ≤ 100000 * k := by
  have h1 := S_le (p := wR lo hi) (a := 0) (b := 100000) (k := k) fun i hi => by
    have g1 := h.cap i (by omega)
    have g2 := h.lo0 i (by omega)
    have g3 := h.le i (by omega)
    have g4 := h.hi1 i (by omega)
    unfold wR
    omega
  have h2 := S_le (p := lo) (a := 0) (b := 100000) (k := k) fun i hi => by
    have g1 := h.cap i (by omega)
    have g2 := h.lo0 i (by omega)
    have g3 := h.le i (by omega)
    have g4 := h.hi1 i (by omega)
    omega
  omega
theorem Win.on (h : Win m p q lo hi n) : ∀ k, k ≤ n → oN (wM m p lo hi) k ≤ 12 * k
  | 0, _ => Nat.le_refl _
  | k + 1, hk => by
    have := h.on k (by omega)
    have := h.m12 (k := k) (by omega)
    simp only [oN]
    omega
theorem Win.bq (h : Win m p q lo hi n) {e : Nat} (he : e < oN (wM m p lo hi) n) : -1000000 ≤ bSz (wM m p lo hi) (wQ m p q lo) n e ∧ bSz (wM m p lo hi) (wQ m p q lo) n e ≤ 1000000 ∧ 1 ≤ bSz (wM m p lo hi) (wP m p lo hi) n e ∧ bSz (wM m p lo hi) (wP m p lo hi) n e ≤ 100000 := by
  obtain ⟨o1, o2, o3⟩ := own_spec he
  have h1 := h.qb o1 (j := e - oN (wM m p lo hi) (own (wM m p lo hi) n e)) (by omega)
  have h2 := h.pb o1 (j := e - oN (wM m p lo hi) (own (wM m p lo hi) n e)) (by omega)
  exact ⟨h1.1, h1.2, h2.1, h2.2⟩
/-- the steps of an offer, one after the other -/
theorem Win.step (h : Win m p q lo hi n) (hk : k < n) {j : Nat} (hj : j < m k) :
    (0 < min (hi k) (S (p k) (j + 1)) - max (lo k) (S (p k) j) → wN m p lo hi k (j + 1) = wN m p lo hi k j + 1 ∧ wN m p lo hi k j < wM m p lo hi k ∧ wP m p lo hi k (wN m p lo hi k j) = min (hi k) (S (p k) (j + 1)) - max (lo k) (S (p k) j) ∧ wQ m p q lo k (wN m p lo hi k j) = q k j) ∧
    (¬ 0 < min (hi k) (S (p k) (j + 1)) - max (lo k) (S (p k) j) → wN m p lo hi k (j + 1) = wN m p lo hi k j) := by
  have hp := h.pos hk
  obtain ⟨j1, j2⟩ := rJ_spec hp (lo k)
  obtain ⟨k1, k2⟩ := rK_spec hp (hi k)
  have a1 := j2 j hj
  have a2 := k2 j hj
  have a3 := hp j hj
  have a4 : S (p k) (j + 1) = S (p k) j + p k j := rfl
  refine ⟨fun hb => ?_, fun hb => ?_⟩
  · have hlh : lo k < hi k := by omega
    have b1 : ¬ j < rJ (p k) (lo k) (m k) := fun hh => by have := a1.2 hh; omega
    have b2 : j < rK (p k) (hi k) (m k) := a2.1 (by omega)
    have eN : wN m p lo hi k j = j - rJ (p k) (lo k) (m k) := by unfold wN; rw [if_pos hlh]; omega
    have eN1 : wN m p lo hi k (j + 1) = j + 1 - rJ (p k) (lo k) (m k) := by unfold wN; rw [if_pos hlh]; omega
    have eM : wM m p lo hi k = rK (p k) (hi k) (m k) - rJ (p k) (lo k) (m k) := by unfold wM rM; rw [if_pos hlh]
    rw [eN, eN1, eM]
    refine ⟨by omega, by omega, ?_, ?_⟩
    · unfold wP rP
      rw [show rJ (p k) (lo k) (m k) + (j - rJ (p k) (lo k) (m k)) = j by omega]
    · unfold wQ rQ
      rw [show rJ (p k) (lo k) (m k) + (j - rJ (p k) (lo k) (m k)) = j by omega]
  · unfold wN
    split
    · rename_i hlh
      by_cases b1 : j < rJ (p k) (lo k) (m k)
      · omega
      · have : ¬ S (p k) (j + 1) ≤ lo k := fun hh => b1 (a1.1 hh)
        have : ¬ j < rK (p k) (hi k) (m k) := fun hh => by have := a2.2 hh; omega
        omega
    · rfl
theorem Win.ends (h : Win m p q lo hi n) (hk : k < n) : wN m p lo hi k 0 = 0 ∧ wN m p lo hi k (m k) = wM m p lo hi k := by
  have k1 := (rK_spec (h.pos hk) (hi k)).1
  unfold wN wM rM
  rw [Nat.min_eq_right k1]
  exact ⟨by split <;> omega, rfl⟩
theorem wN_le (j : Nat) : wN m p lo hi k j ≤ j := by unfold wN; split <;> omega
/-- what an offer gives above lo when T units are taken -/
abbrev wX (m : Nat → Nat) (p : Nat → Nat → Int) (lo hi : Nat → Int) (n : Nat) (π : Nat → Nat) (T : Int) (k : Nat) : Int := bX (wM m p lo hi) (wP m p lo hi) n π T k (oN (wM m p lo hi) n)
theorem Win.xb (h : Win m p q lo hi n) {π : Nat → Nat} (hq : Sorted (bSz (wM m p lo hi) (wQ m p q lo) n) π (oN (wM m p lo hi) n)) {T : Int} (h0 : 0 ≤ T) (h1 : T ≤ S (wR lo hi) n) :
    S (wX m p lo hi n π T) n = T ∧ ∀ k, k < n → 0 ≤ wX m p lo hi n π T k ∧ wX m p lo hi n π T k ≤ wR lo hi k := by
  have hs := h.blks hq
  have e := h.sum
  obtain ⟨B, hB⟩ := hs.at h0 (by omega)
  refine ⟨bX_sum hs h0 (by omega), fun k hk => ?_⟩
  obtain ⟨J, r, f1, f2, _⟩ := hs.fill hB hk
  have hp := hs.pos k hk
  have g1 := S_mono (p := wP m p lo hi k) (i := 0) (j := J) (fun j hj => by have := hp j (by have := f1.le; omega); omega) (Nat.zero_le _)
  have g0 : S (wP m p lo hi k) 0 = 0 := rfl
  have g2 := f1.nn
  have g3 := h.all hk
  show 0 ≤ bX (wM m p lo hi) (wP m p lo hi) n π T k (oN (wM m p lo hi) n) ∧ bX (wM m p lo hi) (wP m p lo hi) n π T k (oN (wM m p lo hi) n) ≤ _
  rw [f2]
  rcases Nat.eq_or_lt_of_le f1.le with e | hlt
  · have h5 := f1.end' e
    rw [e] at g1 ⊢
    omega
  · have h3 := S_step hp hlt (Nat.le_refl _)
    have h4 := f1.lt hlt
    omega
/-- the cost in terms of all powers -/
theorem Win.cost (h : Win m p q lo hi n) {π : Nat → Nat} (hq : Sorted (bSz (wM m p lo hi) (wQ m p q lo) n) π (oN (wM m p lo hi) n)) {T : Int} (h0 : 0 ≤ T) (h1 : T ≤ S (wR lo hi) n) :
    S (wC m p q fun k => lo k + wX m p lo hi n π T k) n = S (wC m p q lo) n + S (fun k => S (ct (wP m p lo hi k) (wQ m p q lo k) (wX m p lo hi n π T k)) (wM m p lo hi k)) n := by
  obtain ⟨_, hb⟩ := h.xb hq h0 h1
  rw [← S_plus2]
  exact S_congr fun k hk => h.c hk (hb k hk).1 (hb k hk).2
end
end Go.Proofs.Ytdakikgebfphmaa
