/-
  The reference Cleared: unit by unit.
-/
import Derived.Test.YtdakikgebfphmaaAucP
namespace Go.Proofs.Ytdakikgebfphmaa
open Go.RowKit

/-- what the orders have when t units are cleared -/
def aFl (a : Nat → AuO) (n : Nat) (π1 π2 : Nat → Nat) (t : Int) (k : Nat) : Int := aX a true n π1 t k + aX a false n π2 t k
theorem aFl_b {a : Nat → AuO} {n : Nat} {π1 π2 : Nat → Nat} (h : Auc a n π1 π2) {t : Int} (h0 : 0 ≤ t) (h1 : t ≤ aAll a true n) (h2 : t ≤ aAll a false n) {k : Nat} (hk : k < n) :
    0 ≤ aFl a n π1 π2 t k ∧ aFl a n π1 π2 t k ≤ (a k).pw ∧ ((a k).bu = true → aFl a n π1 π2 t k = aX a true n π1 t k) ∧ ((a k).bu = false → aFl a n π1 π2 t k = aX a false n π2 t k) := by
  obtain ⟨g1, g2, g3⟩ := aX_b h.ok h.s1 h0 h1 k hk
  obtain ⟨g4, g5, g6⟩ := aX_b h.ok h.s2 h0 h2 k hk
  unfold aFl
  cases hb : (a k).bu with
  | true =>
    have := g6 (by rw [hb]; decide)
    exact ⟨by omega, by omega, fun _ => by omega, fun h => by cases h⟩
  | false =>
    have := g3 (by rw [hb]; decide)
    exact ⟨by omega, by omega, fun h => (by cases h), fun _ => by omega⟩
theorem aOwn {a : Nat → AuO} {b : Bool} {n : Nat} {π : Nat → Nat} (hs : Sorted (bSz (aM a b) (aQ a b) n) π (oN (aM a b) n)) {i : Nat} (hi : i < oN (aM a b) n) : own (aM a b) n (π i) < n ∧ (a (own (aM a b) n (π i))).bu = b := by
  obtain ⟨o1, o2, o3⟩ := own_spec (hs.lt hi)
  refine ⟨o1, ?_⟩
  by_cases h : (a (own (aM a b) n (π i))).bu = b
  · exact h
  · have : aM a b (own (aM a b) n (π i)) = 0 := if_neg h
    omega
theorem aFl_step {a : Nat → AuO} {n : Nat} {π1 π2 : Nat → Nat} (h : Auc a n π1 π2) {t : Int} (h0 : 0 ≤ t) (hf : aFit a n π1 π2 t) (k : Nat) :
    aFl a n π1 π2 (t + 1) k = aFl a n π1 π2 t k + (if own (aM a true) n (π1 (aHd a true n π1 t)) = k then 1 else 0) + (if own (aM a false) n (π2 (aHd a false n π2 t)) = k then 1 else 0) := by
  obtain ⟨l1, l2⟩ := aFit_all h hf
  have hB1 := hd_at h.b1 h0 (Int.le_of_lt l1)
  have hB2 := hd_at h.b2 h0 (Int.le_of_lt l2)
  have s1 : aX a true n π1 (t + 1) k = aX a true n π1 t k + (if own (aM a true) n (π1 (aHd a true n π1 t)) = k then 1 else 0) := h.b1.step hB1 hf.1 k
  have s2 : aX a false n π2 (t + 1) k = aX a false n π2 t k + (if own (aM a false) n (π2 (aHd a false n π2 t)) = k then 1 else 0) := h.b2.step hB2 hf.2.1 k
  unfold aFl
  omega
theorem aFl_zero {a : Nat → AuO} {n : Nat} {π1 π2 : Nat → Nat} (h : Auc a n π1 π2) (k : Nat) : aFl a n π1 π2 0 k = 0 := by
  unfold aFl
  show bX _ _ _ _ _ _ _ + bX _ _ _ _ _ _ _ = 0
  rw [h.b1.none, h.b2.none]
  rfl
/-- what Cleared returns -/
def clK (a : Nat → AuO) (n : Nat) (π1 π2 : Nat → Nat) (obs : List OB) (v : AV) : Prop :=
  obs = [] ∧ ∃ t : Nat, (∀ u : Nat, u < t → aFit a n π1 π2 u) ∧ ¬ aFit a n π1 π2 t ∧ v = .agg [intV 0, intV t, .c (.sl 1 n (c1 (aFl a n π1 π2 t)))]
def ordCl : Ord := fun id => if id = 2 then some (.go 0 (.go 1 (.go 4 (.go 5 (.go 2 (.fork (.alt 3 (.go 6 (.go 7 (.go 8 (.go 9 (.done))))) (.alt 6 (.go 3 (.go 7 (.go 8 (.go 9 (.done))))) (.none))))))))) else none
set_option maxHeartbeats 1000000 in
theorem aucCleared (a : Nat → AuO) (n : Nat) (π1 π2 : Nat → Nat) (h : Auc a n π1 π2) (hn : n ≤ 32) (hpw : ∀ k, k < n → (a k).pw ≤ 100000) : Fn Try.prog 47 [.c (.sl 4 n (cAo a))] (clK a n π1 π2) := by
  refine fn_of_wpx (O := ordCl) tab_ok gamA3_ok mixed Try.func47 (by kernel_rfl) rfl rfl rfl (by simp [Try.ntmps47]) (by kernel_rfl) ?_
  conv => whnf
  repeat' (first
    | (refine NilG.mk fun bn hbn => ?_; conv => whnf)
    | (refine Both.mk ?_ ?_ <;> conv => whnf)
    | exact trivial
    | (refine Br.mk (fun hb => ?_) (fun hb => ?_) <;> (first | (exfalso; revert hb; decide) | ((try simp only [BL] at hb) <;> (try simp only [DL] at hb) <;> conv => whnf)))
    | (refine And.intro ?_ ?_; (focus (first | exact id | exact rfl | exact trivial | (intro hg; first | exact hg | exact rfl | (simp; done) | (simp at hg ⊢; assumption)) | omega | decide | exact is2_c _ _ _ | exact is1_c _ _ | exact isS_c _ _ | exact isB_c _ _ | exact Nat.le_refl _ | assumption | exact mulLe (by decide) (by omega) | exact mulLe2 (by decide) (by omega) (by omega) | (intros; simp only [BL] at *; omega) | (intros; (try simp only [BL] at *); (try simp only [DL] at *); omega) | (intros; simp only [BL] at *; rw [wr_id (by omega) (by omega)]; omega) | (intro h1 h2; exact Bool.and_eq_true_iff.2 ⟨h1, h2⟩) | (intros; simp_all; done))); conv => whnf)
    | (refine Or.inr (And.intro rfl ?_); first | (refine congrArg intV ?_) | (refine congrArg boolV ?_) | (refine tupII ?_ ?_) | (refine tupIII ?_ ?_ ?_) | (refine tupU ?_ ?_ ?_ ?_ ?_) | exact rfl))
  refine sem_loop tab_ok gamA3_ok mixed (by kernel_rfl) (O := ordCl) (fun t : Nat => ⟨[(0, .c (.sl 4 n (cAo a))), (2, .lp 0 0), (3, .lp 1 0)], [.box [intV 0, intV 0, .c (.v (.slice none 0 0))], .box [intV 0, intV t, .own 2], .row 3 1 n false (c1 (aFl a n π1 π2 t))]⟩) (fun t => ∀ u : Nat, u < t → aFit a n π1 π2 u) (fun t => (aAll a true n).toNat - t) ⟨0, [?_, ?_, ?_], fun u hu => absurd hu (Nat.not_lt_zero _), ?_⟩ fun t ht => ?_
  rotate_left 3
  · refine Sub.of ?_ ?_ ?_
    repeat' (first | (refine And.intro ?_ ?_) | exact trivial | exact fun _ _ _ => hsc _ _ | (exact congrArg intV (by first | with_reducible rfl | with_reducible assumption)) | exact (rfl : AV.idsLt _ _ = true) | exact (rfl : _ = AV.ren _ (.own _)) | exact (rfl : _ = AV.ren _ (.fn _ _)) | exact (rfl : _ = AV.ren _ (.gh _)) | (exact congrArg intV (by assumption)) | (refine congrArg intV ((wr_id (by omega) (by omega)).trans (by omega))) | exact rfl | (simp only [Int.toNat_natCast, Int.toNat_zero, Nat.sub_zero, Nat.zero_add]; first | exact rfl | done) | exact all0 | exact fun h => Bool.noConfusion h | exact fun _ _ _ _ => rfl | omega)
    · intro z hz c hc
      have hc : c < 1 := hc
      obtain rfl : c = 0 := by omega
      show iL 0 = iL (aFl a n π1 π2 ((0 : Nat) : Int) z)
      rw [show ((0 : Nat) : Int) = 0 from rfl, aFl_zero h]
  obtain ⟨hl1, hl2⟩ := aFit_le h ht
  have hxb := fun k (hk : k < n) => aFl_b h (Int.natCast_nonneg t) hl1 hl2 hk
  have hA1 := aBest h h.s1 (Int.natCast_nonneg t) hl1 (x := aFl a n π1 π2 t) fun k hk hb => (hxb k hk).2.2.1 hb
  have hA2 := aBest h h.s2 (Int.natCast_nonneg t) hl2 (x := aFl a n π1 π2 t) fun k hk hb => (hxb k hk).2.2.2 hb
  have hall : aAll a true n ≤ 3200000 := by
    have := S_le (p := fun k => S (aP a k) (aM a true k)) (a := 0) (b := 100000) (k := n) fun k hk => by
      have g1 := hpw k hk
      have g2 := (h.ok k hk).1
      unfold aM
      split
      · show 0 ≤ 0 + (a k).pw ∧ 0 + (a k).pw ≤ 100000; omega
      · show (0 : Int) ≤ 0 ∧ (0 : Int) ≤ 100000; decide
    unfold aAll
    omega
  conv => whnf
  repeat' (first
    | (refine NilG.mk fun bn hbn => ?_; conv => whnf)
    | (refine Both.mk ?_ ?_ <;> conv => whnf)
    | exact trivial
    | (refine Br.mk (fun hb => ?_) (fun hb => ?_) <;> (first | (exfalso; revert hb; decide) | ((try simp only [BL] at hb) <;> (try simp only [DL] at hb) <;> conv => whnf)))
    | (refine And.intro ?_ ?_; (focus (first | exact id | exact rfl | exact trivial | (intro hg; first | exact hg | exact rfl | (simp; done) | (simp at hg ⊢; assumption)) | omega | decide | exact is2_c _ _ _ | exact is1_c _ _ | exact isS_c _ _ | exact isB_c _ _ | exact Nat.le_refl _ | assumption | exact mulLe (by decide) (by omega) | exact mulLe2 (by decide) (by omega) (by omega) | (intros; simp only [BL] at *; omega) | (intros; (try simp only [BL] at *); (try simp only [DL] at *); omega) | (intros; simp only [BL] at *; rw [wr_id (by omega) (by omega)]; omega) | (intro h1 h2; exact Bool.and_eq_true_iff.2 ⟨h1, h2⟩) | (intros; simp_all; done))); conv => whnf)
    | (refine Or.inr (And.intro rfl ?_); first | (refine congrArg intV ?_) | (refine congrArg boolV ?_) | (refine tupII ?_ ?_) | (refine tupIII ?_ ?_ ?_) | (refine tupU ?_ ?_ ?_ ?_ ?_) | exact rfl))
  iterate 2
    · refine CallG.mk (Fn.mono (aucBest a true n _ hn) ?_)
      rintro obs r ⟨rfl, rfl⟩
      conv => whnf
      repeat' (first
        | (refine NilG.mk fun bn hbn => ?_; conv => whnf)
        | (refine Both.mk ?_ ?_ <;> conv => whnf)
        | exact trivial
        | (refine Br.mk (fun hb => ?_) (fun hb => ?_) <;> (first | (exfalso; revert hb; decide) | ((try simp only [BL] at hb) <;> (try simp only [DL] at hb) <;> conv => whnf)))
        | (refine And.intro ?_ ?_; (focus (first | exact id | exact rfl | exact trivial | (intro hg; first | exact hg | exact rfl | (simp; done) | (simp at hg ⊢; assumption)) | omega | decide | exact is2_c _ _ _ | exact is1_c _ _ | exact isS_c _ _ | exact isB_c _ _ | exact Nat.le_refl _ | assumption | exact mulLe (by decide) (by omega) | exact mulLe2 (by decide) (by omega) (by omega) | (intros; simp only [BL] at *; omega) | (intros; (try simp only [BL] at *); (try simp only [DL] at *); omega) | (intros; simp only [BL] at *; rw [wr_id (by omega) (by omega)]; omega) | (intro h1 h2; exact Bool.and_eq_true_iff.2 ⟨h1, h2⟩) | (intros; simp_all; done))); conv => whnf)
        | (refine Or.inr (And.intro rfl ?_); first | (refine congrArg intV ?_) | (refine congrArg boolV ?_) | (refine tupII ?_ ?_) | (refine tupIII ?_ ?_ ?_) | (refine tupU ?_ ?_ ?_ ?_ ?_) | exact rfl))
      refine CallG.mk (Fn.mono (aucBest a false n _ hn) ?_)
      rintro obs r ⟨rfl, rfl⟩
      rw [hA1, hA2]
      by_cases g1 : aHd a true n π1 t < oN (aM a true) n
      rotate_left
      · rw [if_neg g1]
        conv => whnf
        repeat' (first
          | (refine NilG.mk fun bn hbn => ?_; conv => whnf)
          | (refine Both.mk ?_ ?_ <;> conv => whnf)
          | exact trivial
          | (refine Br.mk (fun hb => ?_) (fun hb => ?_) <;> (first | (exfalso; revert hb; decide) | ((try simp only [BL] at hb) <;> (try simp only [DL] at hb) <;> conv => whnf)))
          | (refine And.intro ?_ ?_; (focus (first | exact id | exact rfl | exact trivial | (intro hg; first | exact hg | exact rfl | (simp; done) | (simp at hg ⊢; assumption)) | omega | decide | exact is2_c _ _ _ | exact is1_c _ _ | exact isS_c _ _ | exact isB_c _ _ | exact Nat.le_refl _ | assumption | exact mulLe (by decide) (by omega) | exact mulLe2 (by decide) (by omega) (by omega) | (intros; simp only [BL] at *; omega) | (intros; (try simp only [BL] at *); (try simp only [DL] at *); omega) | (intros; simp only [BL] at *; rw [wr_id (by omega) (by omega)]; omega) | (intro h1 h2; exact Bool.and_eq_true_iff.2 ⟨h1, h2⟩) | (intros; simp_all; done))); conv => whnf)
          | (refine Or.inr (And.intro rfl ?_); first | (refine congrArg intV ?_) | (refine congrArg boolV ?_) | (refine tupII ?_ ?_) | (refine tupIII ?_ ?_ ?_) | (refine tupU ?_ ?_ ?_ ?_ ?_) | exact rfl))
        · exact .inr ⟨rfl, t, ht, fun hf => g1 hf.1, rfl⟩
        · exact absurd (show (-1 : Int) < 0 by decide) hb.1.1
      by_cases g2 : aHd a false n π2 t < oN (aM a false) n
      rotate_left
      · rw [if_neg g2]
        conv => whnf
        repeat' (first
          | (refine NilG.mk fun bn hbn => ?_; conv => whnf)
          | (refine Both.mk ?_ ?_ <;> conv => whnf)
          | exact trivial
          | (refine Br.mk (fun hb => ?_) (fun hb => ?_) <;> (first | (exfalso; revert hb; decide) | ((try simp only [BL] at hb) <;> (try simp only [DL] at hb) <;> conv => whnf)))
          | (refine And.intro ?_ ?_; (focus (first | exact id | exact rfl | exact trivial | (intro hg; first | exact hg | exact rfl | (simp; done) | (simp at hg ⊢; assumption)) | omega | decide | exact is2_c _ _ _ | exact is1_c _ _ | exact isS_c _ _ | exact isB_c _ _ | exact Nat.le_refl _ | assumption | exact mulLe (by decide) (by omega) | exact mulLe2 (by decide) (by omega) (by omega) | (intros; simp only [BL] at *; omega) | (intros; (try simp only [BL] at *); (try simp only [DL] at *); omega) | (intros; simp only [BL] at *; rw [wr_id (by omega) (by omega)]; omega) | (intro h1 h2; exact Bool.and_eq_true_iff.2 ⟨h1, h2⟩) | (intros; simp_all; done))); conv => whnf)
          | (refine Or.inr (And.intro rfl ?_); first | (refine congrArg intV ?_) | (refine congrArg boolV ?_) | (refine tupII ?_ ?_) | (refine tupIII ?_ ?_ ?_) | (refine tupU ?_ ?_ ?_ ?_ ?_) | exact rfl))
        · exact .inr ⟨rfl, t, ht, fun hf => g2 hf.2.1, rfl⟩
        · exact absurd (show (-1 : Int) < 0 by decide) hb.1.2
      rw [if_pos g1, if_pos g2]
      obtain ⟨o1, o2⟩ := aOwn h.s1 g1
      obtain ⟨o3, o4⟩ := aOwn h.s2 g2
      have k1 : aKy a true n π1 t = -(a (own (aM a true) n (π1 (aHd a true n π1 t)))).pr := rfl
      have k2 : aKy a false n π2 t = (a (own (aM a false) n (π2 (aHd a false n π2 t)))).pr := rfl
      have hstep := fun hf k => aFl_step h (Int.natCast_nonneg t) hf k
      have hfall := fun hf => aFit_all h (t := t) hf
      have hfit : aFit a n π1 π2 t ↔ ¬ (a (own (aM a true) n (π1 (aHd a true n π1 t)))).pr < (a (own (aM a false) n (π2 (aHd a false n π2 t)))).pr := by
        unfold aFit
        rw [k1, k2]
        exact ⟨fun hh => by omega, fun hh => ⟨g1, g2, by omega⟩⟩
      generalize own (aM a true) n (π1 (aHd a true n π1 t)) = u1 at *
      generalize own (aM a false) n (π2 (aHd a false n π2 t)) = u2 at *
      have hne : u2 ≠ u1 := fun e => by rw [e, o2] at o4; cases o4
      have hx1 := hxb u1 o1
      have hx2 := hxb u2 o3
      have hp1 := hpw u1 o1
      have hp2 := hpw u2 o3
      have w1 : IntKind.i64.wrap (aFl a n π1 π2 t u1 + 1) = aFl a n π1 π2 t u1 + 1 := wr_id (by omega) (by omega)
      have w2 : IntKind.i64.wrap (aFl a n π1 π2 t u2 + 1) = aFl a n π1 π2 t u2 + 1 := wr_id (by omega) (by omega)
      conv => whnf
      repeat' (first
        | (refine NilG.mk fun bn hbn => ?_; conv => whnf)
        | (refine Both.mk ?_ ?_ <;> conv => whnf)
        | exact trivial
        | (refine Br.mk (fun hb => ?_) (fun hb => ?_) <;> (first | (exfalso; revert hb; decide) | ((try simp only [BL] at hb) <;> (try simp only [DL] at hb) <;> conv => whnf)))
        | (refine And.intro ?_ ?_; (focus (first | exact id | exact rfl | exact trivial | (intro hg; first | exact hg | exact rfl | (simp; done) | (simp at hg ⊢; assumption)) | omega | decide | exact is2_c _ _ _ | exact is1_c _ _ | exact isS_c _ _ | exact isB_c _ _ | exact Nat.le_refl _ | assumption | exact mulLe (by decide) (by omega) | exact mulLe2 (by decide) (by omega) (by omega) | (intros; simp only [BL] at *; omega) | (intros; (try simp only [BL] at *); (try simp only [DL] at *); omega) | (intros; simp only [BL] at *; rw [wr_id (by omega) (by omega)]; omega) | (intro h1 h2; exact Bool.and_eq_true_iff.2 ⟨h1, h2⟩) | (intros; simp_all; done))); conv => whnf)
        | (refine Or.inr (And.intro rfl ?_); first | (refine congrArg intV ?_) | (refine congrArg boolV ?_) | (refine tupII ?_ ?_) | (refine tupIII ?_ ?_ ?_) | (refine tupU ?_ ?_ ?_ ?_ ?_) | exact rfl))
      · refine .inr ⟨rfl, t, ht, fun hf => ?_, rfl⟩
        have hf' := hfit.1 hf
        rcases hb with (hb | hb) | hb
        · omega
        · omega
        · exact hf' hb
      · have hf : aFit a n π1 π2 t := hfit.2 hb.2
        dsimp only
        rw [if_neg (show ¬ (u2 : Int).toNat = (u1 : Int).toNat by rw [Int.toNat_natCast, Int.toNat_natCast]; exact hne)]
        conv => whnf
        repeat' (first
          | (refine NilG.mk fun bn hbn => ?_; conv => whnf)
          | (refine Both.mk ?_ ?_ <;> conv => whnf)
          | exact trivial
          | (refine Br.mk (fun hb => ?_) (fun hb => ?_) <;> (first | (exfalso; revert hb; decide) | ((try simp only [BL] at hb) <;> (try simp only [DL] at hb) <;> conv => whnf)))
          | (refine And.intro ?_ ?_; (focus (first | exact id | exact rfl | exact trivial | (intro hg; first | exact hg | exact rfl | (simp; done) | (simp at hg ⊢; assumption)) | omega | decide | exact is2_c _ _ _ | exact is1_c _ _ | exact isS_c _ _ | exact isB_c _ _ | exact Nat.le_refl _ | assumption | exact mulLe (by decide) (by omega) | exact mulLe2 (by decide) (by omega) (by omega) | (intros; simp only [BL] at *; omega) | (intros; (try simp only [BL] at *); (try simp only [DL] at *); omega) | (intros; simp only [BL] at *; rw [wr_id (by omega) (by omega)]; omega) | (intro h1 h2; exact Bool.and_eq_true_iff.2 ⟨h1, h2⟩) | (intros; simp_all; done))); conv => whnf)
          | (refine Or.inr (And.intro rfl ?_); first | (refine congrArg intV ?_) | (refine congrArg boolV ?_) | (refine tupII ?_ ?_) | (refine tupIII ?_ ?_ ?_) | (refine tupU ?_ ?_ ?_ ?_ ?_) | exact rfl))
        have hta := (hfall hf).1
        have ew : IntKind.i64.wrap ((t : Int) + 1) = ((t + 1 : Nat) : Int) := (wr_id (by omega) (by omega)).trans (by omega)
        refine ⟨t + 1, [0, 1, 2], fun u hu => by rcases Nat.lt_succ_iff_lt_or_eq.1 hu with hh | rfl; exact ht u hh; exact hf, by omega, ?_⟩
        refine Sub.of ?_ ?_ ?_
        repeat' (first | (exact congrArg (fun z => [intV 0, intV z, AV.own 2]) ew) | (refine And.intro ?_ ?_) | exact trivial | exact fun _ _ _ => hsc _ _ | (exact congrArg intV (by first | with_reducible rfl | with_reducible assumption)) | exact (rfl : AV.idsLt _ _ = true) | exact (rfl : _ = AV.ren _ (.own _)) | exact (rfl : _ = AV.ren _ (.fn _ _)) | exact (rfl : _ = AV.ren _ (.gh _)) | (exact congrArg intV (by assumption)) | (refine congrArg intV ((wr_id (by omega) (by omega)).trans (by omega))) | exact rfl | (simp only [Int.toNat_natCast, Int.toNat_zero, Nat.sub_zero, Nat.zero_add]; first | exact rfl | done) | exact all0 | exact fun h => Bool.noConfusion h | exact fun _ _ _ _ => rfl | omega)
        intro z hz c hc
        obtain rfl : c = 0 := by omega
        show (if z = u2 then iL (IntKind.i64.wrap (aFl a n π1 π2 t u2 + 1)) else if z = u1 then iL (IntKind.i64.wrap (aFl a n π1 π2 t u1 + 1)) else iL (aFl a n π1 π2 t z)) = iL (aFl a n π1 π2 ((t + 1 : Nat) : Int) z)
        rw [Int.natCast_succ, hstep hf z, w1, w2]
        by_cases z2 : z = u2
        · subst z2
          rw [if_pos rfl, if_neg (fun e => hne e.symm), if_pos rfl, Int.add_zero]
        · rw [if_neg z2]
          have e2 : (if u2 = z then (1 : Int) else 0) = 0 := if_neg (fun e => z2 e.symm)
          by_cases z1 : z = u1
          · subst z1
            rw [if_pos rfl, if_pos rfl, e2, Int.add_zero]
          · have e1 : (if u1 = z then (1 : Int) else 0) = 0 := if_neg (fun e => z1 e.symm)
            rw [if_neg z1, e1, e2, Int.add_zero, Int.add_zero]
end Go.Proofs.Ytdakikgebfphmaa
