/-
  TopCommit: what the law calls, each in one form; the example.
-/
import Derived.Test.YtemfikdogdadnaaDsgL
import Derived.Test.YtemfikdogdadnaaCbR
import Derived.Test.YtemfikdogdadnaaCbB
namespace Go.Proofs.Ytemfikdogdadnaa
open Go.RowKit

/-- the error of generators, demands and prices -/
def bnE (u : Nat → CuR) (n nd np : Nat) (D x : Nat → Int) : Int := if csE u n nd D ≠ 0 then csE u n nd D else if np ≠ nd then 3 else if fidx (fun k => badPr (x k)) np ≥ 0 then 4 else 0
theorem duChkB (u : Nat → CuR) (n nd np : Nat) (D x : Nat → Int) (hn : n ≤ maxLen) (hnd : nd ≤ maxLen) (hnp : np ≤ maxLen) (hz : ∀ k, k < n → cuZ (u k)) : Fn1 Try.prog 53 [.c (.sl 13 n (cCu u)), .c (.sl 1 nd (c1 D)), .c (.sl 1 np (c1 x))] (intV (bnE u n nd np D x)) := by
  refine fn_of_wpx (O := lex) tab_ok (Γ := fun _ => none) (fun _ _ h => by cases h) mixed Try.func53 (by kernel_rfl) rfl rfl rfl (by simp [Try.ntmps53]) (by kernel_rfl) ?_
  conv => whnf
  repeat' (first
    | (refine NilG.mk fun bn hbn hbx => ?_; conv => whnf)
    | (refine Both.mk ?_ ?_ <;> conv => whnf)
    | ((first | (refine MkG.box 1 rfl rfl rfl (by decide) ?_) | (refine MkG.box 2 rfl rfl rfl (by decide) ?_) | (refine MkG.box 3 rfl rfl rfl (by decide) ?_) | (refine MkG.row ?_)); conv => whnf)
    | exact trivial
    | (refine Br.mk (fun hb => ?_) (fun hb => ?_) <;> (first | (exfalso; revert hb; decide) | ((try simp only [BL] at hb) <;> (try simp only [DL] at hb) <;> conv => whnf)))
    | (refine And.intro ?_ ?_; (focus (first | exact id | exact rfl | exact trivial | (intro hg; first | exact hg | exact rfl | (simp; done) | (simp at hg ⊢; assumption)) | omega | decide | exact is2_c _ _ _ | exact is1_c _ _ | exact isS_c _ _ | exact isB_c _ _ | exact Nat.le_refl _ | assumption | exact mulLe (by decide) (by omega) | exact mulLe2 (by decide) (by omega) (by omega) | (intros; simp only [BL] at *; omega) | (intros; (try simp only [BL] at *); (try simp only [DL] at *); omega) | (intros; simp only [BL] at *; rw [wr_id (by omega) (by omega)]; omega) | (intro h1 h2; exact Bool.and_eq_true_iff.2 ⟨h1, h2⟩) | (intros; simp_all; done))); conv => whnf)
    | (refine Or.inr (And.intro rfl ?_); first | (refine congrArg intV ?_) | (refine congrArg boolV ?_) | (refine tupII ?_ ?_) | (refine tupIII ?_ ?_ ?_) | (refine tupU ?_ ?_ ?_ ?_ ?_) | exact rfl))
  refine CallG.mk (Fn.mono (duCheckAll u n nd D hn hnd hz) ?_)
  rintro obs r ⟨rfl, rfl⟩
  conv => whnf
  repeat' (first
    | (refine NilG.mk fun bn hbn hbx => ?_; conv => whnf)
    | (refine Both.mk ?_ ?_ <;> conv => whnf)
    | ((first | (refine MkG.box 1 rfl rfl rfl (by decide) ?_) | (refine MkG.box 2 rfl rfl rfl (by decide) ?_) | (refine MkG.box 3 rfl rfl rfl (by decide) ?_) | (refine MkG.row ?_)); conv => whnf)
    | exact trivial
    | (refine Br.mk (fun hb => ?_) (fun hb => ?_) <;> (first | (exfalso; revert hb; decide) | ((try simp only [BL] at hb) <;> (try simp only [DL] at hb) <;> conv => whnf)))
    | (refine And.intro ?_ ?_; (focus (first | exact id | exact rfl | exact trivial | (intro hg; first | exact hg | exact rfl | (simp; done) | (simp at hg ⊢; assumption)) | omega | decide | exact is2_c _ _ _ | exact is1_c _ _ | exact isS_c _ _ | exact isB_c _ _ | exact Nat.le_refl _ | assumption | exact mulLe (by decide) (by omega) | exact mulLe2 (by decide) (by omega) (by omega) | (intros; simp only [BL] at *; omega) | (intros; (try simp only [BL] at *); (try simp only [DL] at *); omega) | (intros; simp only [BL] at *; rw [wr_id (by omega) (by omega)]; omega) | (intro h1 h2; exact Bool.and_eq_true_iff.2 ⟨h1, h2⟩) | (intros; simp_all; done))); conv => whnf)
    | (refine Or.inr (And.intro rfl ?_); first | (refine congrArg intV ?_) | (refine congrArg boolV ?_) | (refine tupII ?_ ?_) | (refine tupIII ?_ ?_ ?_) | (refine tupU ?_ ?_ ?_ ?_ ?_) | exact rfl))
  · have hE : bnE u n nd np D x = csE u n nd D := if_pos hb
    rw [hE]
  · rename_i h0
    have hE : bnE u n nd np D x = 3 := by unfold bnE; rw [if_neg (fun h => h h0), if_pos (by omega)]
    rw [hE]
  · rename_i h0
    refine CallG.mk (Fn.mono (iCont prBad np x hnp) ?_)
    rintro obs r ⟨rfl, rfl⟩
    conv => whnf
    repeat' (first
      | (refine NilG.mk fun bn hbn hbx => ?_; conv => whnf)
      | (refine Both.mk ?_ ?_ <;> conv => whnf)
      | ((first | (refine MkG.box 1 rfl rfl rfl (by decide) ?_) | (refine MkG.box 2 rfl rfl rfl (by decide) ?_) | (refine MkG.box 3 rfl rfl rfl (by decide) ?_) | (refine MkG.row ?_)); conv => whnf)
      | exact trivial
      | (refine Br.mk (fun hb => ?_) (fun hb => ?_) <;> (first | (exfalso; revert hb; decide) | ((try simp only [BL] at hb) <;> (try simp only [DL] at hb) <;> conv => whnf)))
      | (refine And.intro ?_ ?_; (focus (first | exact id | exact rfl | exact trivial | (intro hg; first | exact hg | exact rfl | (simp; done) | (simp at hg ⊢; assumption)) | omega | decide | exact is2_c _ _ _ | exact is1_c _ _ | exact isS_c _ _ | exact isB_c _ _ | exact Nat.le_refl _ | assumption | exact mulLe (by decide) (by omega) | exact mulLe2 (by decide) (by omega) (by omega) | (intros; simp only [BL] at *; omega) | (intros; (try simp only [BL] at *); (try simp only [DL] at *); omega) | (intros; simp only [BL] at *; rw [wr_id (by omega) (by omega)]; omega) | (intro h1 h2; exact Bool.and_eq_true_iff.2 ⟨h1, h2⟩) | (intros; simp_all; done))); conv => whnf)
      | (refine Or.inr (And.intro rfl ?_); first | (refine congrArg intV ?_) | (refine congrArg boolV ?_) | (refine tupII ?_ ?_) | (refine tupIII ?_ ?_ ?_) | (refine tupU ?_ ?_ ?_ ?_ ?_) | exact rfl))
    · have hE : bnE u n nd np D x = 4 := by unfold bnE; rw [if_neg (fun h => h h0), if_neg (by omega), if_pos (by omega)]
      rw [hE]
    · have hE : bnE u n nd np D x = 0 := by unfold bnE; rw [if_neg (fun h => h h0), if_neg (by omega), if_neg (by omega)]
      rw [hE]
theorem bnE_zero {u : Nat → CuR} {n nd np : Nat} {D x : Nat → Int} (h : bnE u n nd np D x = 0) : csE u n nd D = 0 ∧ np = nd ∧ ∀ k, k < np → -2000000 ≤ x k ∧ x k ≤ 2000000 := by
  unfold bnE at h
  split at h
  · rename_i h1; exact absurd h h1
  · rename_i h1
    split at h
    · cases h
    · rename_i h2
      split at h
      · cases h
      · rename_i h3
        refine ⟨by simpa using h1, by omega, fun k hk => ?_⟩
        have := fidx_neg (by omega) k hk
        unfold badPr at this
        simp only [Bool.or_eq_false_iff, decide_eq_false_iff_not] at this
        omega
/-- what a generator earns at most at these prices -/
def gnU (u : CuR) (x : Nat → Int) (n : Nat) : Int := (dgF (pOk u n) (dV u x n) (2 ^ n)).1
theorem dV_b {u : CuR} (h : cuE u = 0) {x : Nat → Int} {n b : Nat} (hx : ∀ k, k < n → -2000000 ≤ x k ∧ x k ≤ 2000000) (ho : pOk u n b = true) : -2001000000000 * n ≤ dV u x n b ∧ dV u x n b ≤ 2001000000000 * n := by
  have h1 := pCo_b (cuE_all h).1 ho
  have h2 := S_le (p := fun t => if bt b t = 1 then dG u x t else 0) (a := -2000000000000) (b := 2000000000000) (k := n) fun j hj => by
    have := dG_b h x (hx j hj)
    show _ ≤ (if bt b j = 1 then dG u x j else 0) ∧ (if bt b j = 1 then dG u x j else 0) ≤ _
    split <;> omega
  unfold dV
  omega
theorem gnU_at {u : CuR} (h : cuE u = 0) (x : Nat → Int) {n : Nat} (hn : n ≤ 8) : ∃ b, pOk u n b = true ∧ gnU u x n = dV u x n b := by
  obtain ⟨h1, h2, h3⟩ := dg_at (dg_found h x hn)
  exact ⟨_, h2, h3⟩
theorem gnU_b {u : CuR} (h : cuE u = 0) {x : Nat → Int} {n : Nat} (hn : n ≤ 8) (hx : ∀ k, k < n → -2000000 ≤ x k ∧ x k ≤ 2000000) : -17000000000000 ≤ gnU u x n ∧ gnU u x n ≤ 17000000000000 := by
  obtain ⟨b, h1, h2⟩ := gnU_at h x hn
  have := dV_b h hx h1
  rw [h2]
  omega
/-- what Bound returns -/
def bndV (u : Nat → CuR) (n nd : Nat) (D x : Nat → Int) : Int := S (fun t => x t * D t) nd - S (fun i => gnU (u i) x nd) n
theorem duBndE (u : Nat → CuR) (n nd np : Nat) (D x : Nat → Int) (hn : n ≤ maxLen) (hnd : nd ≤ maxLen) (hnp : np ≤ maxLen) (hz : ∀ k, k < n → cuZ (u k)) (h0 : bnE u n nd np D x ≠ 0) : Fn1 Try.prog 22 [.c (.sl 13 n (cCu u)), .c (.sl 1 nd (c1 D)), .c (.sl 1 np (c1 x))] (.tup [intV 0, intV (bnE u n nd np D x)]) := by
  refine fn_of_wpx (O := lex) tab_ok (Γ := fun _ => none) (fun _ _ h => by cases h) mixed Try.func22 (by kernel_rfl) rfl rfl rfl (by simp [Try.ntmps22]) (by kernel_rfl) ?_
  conv => whnf
  repeat' (first
    | (refine NilG.mk fun bn hbn hbx => ?_; conv => whnf)
    | (refine Both.mk ?_ ?_ <;> conv => whnf)
    | ((first | (refine MkG.box 1 rfl rfl rfl (by decide) ?_) | (refine MkG.box 2 rfl rfl rfl (by decide) ?_) | (refine MkG.box 3 rfl rfl rfl (by decide) ?_) | (refine MkG.row ?_)); conv => whnf)
    | exact trivial
    | (refine Br.mk (fun hb => ?_) (fun hb => ?_) <;> (first | (exfalso; revert hb; decide) | ((try simp only [BL] at hb) <;> (try simp only [DL] at hb) <;> (first | (exfalso; omega) | (conv => whnf)))))
    | (refine And.intro ?_ ?_; (focus (first | exact id | exact rfl | exact trivial | (intro hg; first | exact hg | exact rfl | (simp; done) | (simp at hg ⊢; assumption)) | omega | decide | exact is2_c _ _ _ | exact is1_c _ _ | exact isS_c _ _ | exact isB_c _ _ | exact Nat.le_refl _ | assumption | exact mulLe (by decide) (by omega) | exact mulLe2 (by decide) (by omega) (by omega) | (intros; simp only [BL] at *; omega) | (intros; (try simp only [BL] at *); (try simp only [DL] at *); omega) | (intros; simp only [BL] at *; rw [wr_id (by omega) (by omega)]; omega) | (intro h1 h2; exact Bool.and_eq_true_iff.2 ⟨h1, h2⟩) | (intros; simp_all; done))); conv => whnf)
    | (refine Or.inr (And.intro rfl ?_); first | (refine congrArg intV ?_) | (refine congrArg boolV ?_) | (refine tupII ?_ ?_) | (refine tupIII ?_ ?_ ?_) | (refine tupU ?_ ?_ ?_ ?_ ?_) | exact rfl))
  refine CallG.mk (Fn.mono (duChkB u n nd np D x hn hnd hnp hz) ?_)
  rintro obs r ⟨rfl, rfl⟩
  conv => whnf
  repeat' (first
    | (refine NilG.mk fun bn hbn hbx => ?_; conv => whnf)
    | (refine Both.mk ?_ ?_ <;> conv => whnf)
    | ((first | (refine MkG.box 1 rfl rfl rfl (by decide) ?_) | (refine MkG.box 2 rfl rfl rfl (by decide) ?_) | (refine MkG.box 3 rfl rfl rfl (by decide) ?_) | (refine MkG.row ?_)); conv => whnf)
    | exact trivial
    | (refine Br.mk (fun hb => ?_) (fun hb => ?_) <;> (first | (exfalso; revert hb; decide) | ((try simp only [BL] at hb) <;> (try simp only [DL] at hb) <;> (first | (exfalso; omega) | (conv => whnf)))))
    | (refine And.intro ?_ ?_; (focus (first | exact id | exact rfl | exact trivial | (intro hg; first | exact hg | exact rfl | (simp; done) | (simp at hg ⊢; assumption)) | omega | decide | exact is2_c _ _ _ | exact is1_c _ _ | exact isS_c _ _ | exact isB_c _ _ | exact Nat.le_refl _ | assumption | exact mulLe (by decide) (by omega) | exact mulLe2 (by decide) (by omega) (by omega) | (intros; simp only [BL] at *; omega) | (intros; (try simp only [BL] at *); (try simp only [DL] at *); omega) | (intros; simp only [BL] at *; rw [wr_id (by omega) (by omega)]; omega) | (intro h1 h2; exact Bool.and_eq_true_iff.2 ⟨h1, h2⟩) | (intros; simp_all; done))); conv => whnf)
    | (refine Or.inr (And.intro rfl ?_); first | (refine congrArg intV ?_) | (refine congrArg boolV ?_) | (refine tupII ?_ ?_) | (refine tupIII ?_ ?_ ?_) | (refine tupU ?_ ?_ ?_ ?_ ?_) | exact rfl))
  all_goals rfl
theorem duBnd (u : Nat → CuR) (n nd : Nat) (D x : Nat → Int) (hn : n ≤ 3) (hnd : nd ≤ 8) (hz : ∀ k, k < n → cuZ (u k)) (h0 : bnE u n nd nd D x = 0) : Fn1 Try.prog 22 [.c (.sl 13 n (cCu u)), .c (.sl 1 nd (c1 D)), .c (.sl 1 nd (c1 x))] (.tup [intV (bndV u n nd D x), intV 0]) := by
  refine fn_of_wpx (O := lex) tab_ok (Γ := fun _ => none) (fun _ _ h => by cases h) mixed Try.func22 (by kernel_rfl) rfl rfl rfl (by simp [Try.ntmps22]) (by kernel_rfl) ?_
  have hnm : n ≤ maxLen := Nat.le_trans hn (by decide)
  have hdm : nd ≤ maxLen := Nat.le_trans hnd (by decide)
  obtain ⟨hc, -, hx⟩ := bnE_zero h0
  obtain ⟨-, -, hv, hD⟩ := csE_zero hc
  conv => whnf
  repeat' (first
    | (refine NilG.mk fun bn hbn hbx => ?_; conv => whnf)
    | (refine Both.mk ?_ ?_ <;> conv => whnf)
    | ((first | (refine MkG.box 1 rfl rfl rfl (by decide) ?_) | (refine MkG.box 2 rfl rfl rfl (by decide) ?_) | (refine MkG.box 3 rfl rfl rfl (by decide) ?_) | (refine MkG.row ?_)); conv => whnf)
    | exact trivial
    | (refine Br.mk (fun hb => ?_) (fun hb => ?_) <;> (first | (exfalso; revert hb; decide) | ((try simp only [BL] at hb) <;> (try simp only [DL] at hb) <;> (first | (exfalso; omega) | (conv => whnf)))))
    | (refine And.intro ?_ ?_; (focus (first | exact id | exact rfl | exact trivial | (intro hg; first | exact hg | exact rfl | (simp; done) | (simp at hg ⊢; assumption)) | omega | decide | exact is2_c _ _ _ | exact is1_c _ _ | exact isS_c _ _ | exact isB_c _ _ | exact Nat.le_refl _ | assumption | exact mulLe (by decide) (by omega) | exact mulLe2 (by decide) (by omega) (by omega) | (intros; simp only [BL] at *; omega) | (intros; (try simp only [BL] at *); (try simp only [DL] at *); omega) | (intros; simp only [BL] at *; rw [wr_id (by omega) (by omega)]; omega) | (intro h1 h2; exact Bool.and_eq_true_iff.2 ⟨h1, h2⟩) | (intros; simp_all; done))); conv => whnf)
    | (refine Or.inr (And.intro rfl ?_); first | (refine congrArg intV ?_) | (refine congrArg boolV ?_) | (refine tupII ?_ ?_) | (refine tupIII ?_ ?_ ?_) | (refine tupU ?_ ?_ ?_ ?_ ?_) | exact rfl))
  refine CallG.mk (Fn.mono (duChkB u n nd nd D x hnm hdm hdm hz) ?_)
  rintro obs r ⟨rfl, rfl⟩
  rw [h0]
  conv => whnf
  repeat' (first
    | (refine NilG.mk fun bn hbn hbx => ?_; conv => whnf)
    | (refine Both.mk ?_ ?_ <;> conv => whnf)
    | ((first | (refine MkG.box 1 rfl rfl rfl (by decide) ?_) | (refine MkG.box 2 rfl rfl rfl (by decide) ?_) | (refine MkG.box 3 rfl rfl rfl (by decide) ?_) | (refine MkG.row ?_)); conv => whnf)
    | exact trivial
    | (refine Br.mk (fun hb => ?_) (fun hb => ?_) <;> (first | (exfalso; revert hb; decide) | ((try simp only [BL] at hb) <;> (try simp only [DL] at hb) <;> (first | (exfalso; omega) | (conv => whnf)))))
    | (refine And.intro ?_ ?_; (focus (first | exact id | exact rfl | exact trivial | (intro hg; first | exact hg | exact rfl | (simp; done) | (simp at hg ⊢; assumption)) | omega | decide | exact is2_c _ _ _ | exact is1_c _ _ | exact isS_c _ _ | exact isB_c _ _ | exact Nat.le_refl _ | assumption | exact mulLe (by decide) (by omega) | exact mulLe2 (by decide) (by omega) (by omega) | (intros; simp only [BL] at *; omega) | (intros; (try simp only [BL] at *); (try simp only [DL] at *); omega) | (intros; simp only [BL] at *; rw [wr_id (by omega) (by omega)]; omega) | (intro h1 h2; exact Bool.and_eq_true_iff.2 ⟨h1, h2⟩) | (intros; simp_all; done))); conv => whnf)
    | (refine Or.inr (And.intro rfl ?_); first | (refine congrArg intV ?_) | (refine congrArg boolV ?_) | (refine tupII ?_ ?_) | (refine tupIII ?_ ?_ ?_) | (refine tupU ?_ ?_ ?_ ?_ ?_) | exact rfl))
  refine sem_loop tab_ok gamN1_ok mixed (by kernel_rfl) (O := lex) (fun t : Nat => ⟨[(0, .c (.sl 13 n (cCu u))), (1, .c (.sl 1 nd (c1 D))), (2, .c (.sl 1 nd (c1 x))), (9, intV (S (fun t => x t * D t) t)), (23, .c (.sl 1 nd (c1 x))), (24, intV nd), (25, intV t)], []⟩) (fun t => t ≤ nd) (fun t => nd - t) ⟨0, [], Nat.zero_le _, ?_⟩ fun t ht => ?_
  · refine Sub.of ?_ ?_ ?_
    repeat' (first | (refine And.intro ?_ ?_) | exact trivial | exact fun _ _ _ => hsc _ _ | (exact congrArg intV (by first | with_reducible rfl | with_reducible assumption)) | exact (rfl : AV.idsLt _ _ = true) | exact (rfl : _ = AV.ren _ (.own _)) | exact (rfl : _ = AV.ren _ (.fn _ _)) | exact (rfl : _ = AV.ren _ (.gh _)) | (exact congrArg intV (by assumption)) | (refine congrArg intV ((wr_id (by omega) (by omega)).trans (by omega))) | exact rfl | (simp only [Int.toNat_natCast, Int.toNat_zero, Nat.sub_zero, Nat.zero_add]; first | exact rfl | done) | exact all0 | exact fun h => Bool.noConfusion h | exact fun _ _ _ _ => rfl | omega)
  have hpb : ∀ k, k < nd → -2000000000000 ≤ x k * D k ∧ x k * D k ≤ 2000000000000 := fun k hk => by
    have h1 := hx k hk
    have h2 := hD k hk
    have := mulB (a := D k) (b := x k) (A := 1000000) (B := 2000000) (by omega) (by omega) (by omega) (by omega) (by omega)
    rw [Int.mul_comm (D k) (x k)] at this
    omega
  have hsb := S_le (p := fun t => x t * D t) (a := -2000000000000) (b := 2000000000000) (k := t) fun j hj => hpb j (by omega)
  by_cases htn : t < nd
  · have hpt := hpb t htn
    have e1 : IntKind.i64.wrap (x t * D t) = x t * D t := wr_id (by omega) (by omega)
    have e2 : IntKind.i64.wrap (S (fun t => x t * D t) t + IntKind.i64.wrap (x t * D t)) = S (fun t => x t * D t) (t + 1) := by rw [e1]; exact wr_id (by omega) (by omega)
    conv => whnf
    repeat' (first
      | (refine NilG.mk fun bn hbn hbx => ?_; conv => whnf)
      | (refine Both.mk ?_ ?_ <;> conv => whnf)
      | ((first | (refine MkG.box 1 rfl rfl rfl (by decide) ?_) | (refine MkG.box 2 rfl rfl rfl (by decide) ?_) | (refine MkG.box 3 rfl rfl rfl (by decide) ?_) | (refine MkG.row ?_)); conv => whnf)
      | exact trivial
      | (refine Br.mk (fun hb => ?_) (fun hb => ?_) <;> (first | (exfalso; revert hb; decide) | ((try simp only [BL] at hb) <;> (try simp only [DL] at hb) <;> (first | (exfalso; omega) | (conv => whnf)))))
      | (refine And.intro ?_ ?_; (focus (first | exact id | exact rfl | exact trivial | (intro hg; first | exact hg | exact rfl | (simp; done) | (simp at hg ⊢; assumption)) | omega | decide | exact is2_c _ _ _ | exact is1_c _ _ | exact isS_c _ _ | exact isB_c _ _ | exact Nat.le_refl _ | assumption | exact mulLe (by decide) (by omega) | exact mulLe2 (by decide) (by omega) (by omega) | (intros; simp only [BL] at *; omega) | (intros; (try simp only [BL] at *); (try simp only [DL] at *); omega) | (intros; simp only [BL] at *; rw [wr_id (by omega) (by omega)]; omega) | (intro h1 h2; exact Bool.and_eq_true_iff.2 ⟨h1, h2⟩) | exact ⟨rfl, by omega, by decide⟩ | (intros; simp_all; done))); conv => whnf)
      | (refine Or.inr (And.intro rfl ?_); first | (refine congrArg intV ?_) | (refine congrArg boolV ?_) | (refine tupII ?_ ?_) | (refine tupIII ?_ ?_ ?_) | (refine tupU ?_ ?_ ?_ ?_ ?_) | exact rfl))
    refine ⟨t + 1, [], (by omega : t + 1 ≤ nd), by omega, ?_⟩
    refine Sub.of ?_ ?_ ?_
    repeat' (first | (refine And.intro ?_ ?_) | exact trivial | exact fun _ _ _ => hsc _ _ | (exact congrArg intV (by first | with_reducible rfl | with_reducible assumption)) | exact (rfl : AV.idsLt _ _ = true) | exact (rfl : _ = AV.ren _ (.own _)) | exact (rfl : _ = AV.ren _ (.fn _ _)) | exact (rfl : _ = AV.ren _ (.gh _)) | (exact congrArg intV (by assumption)) | (refine congrArg intV ((wr_id (by omega) (by omega)).trans (by omega))) | exact rfl | (simp only [Int.toNat_natCast, Int.toNat_zero, Nat.sub_zero, Nat.zero_add]; first | exact rfl | done) | exact all0 | exact fun h => Bool.noConfusion h | exact fun _ _ _ _ => rfl | omega)
  obtain rfl : t = nd := by omega
  conv => whnf
  repeat' (first
    | (refine NilG.mk fun bn hbn hbx => ?_; conv => whnf)
    | (refine Both.mk ?_ ?_ <;> conv => whnf)
    | ((first | (refine MkG.box 1 rfl rfl rfl (by decide) ?_) | (refine MkG.box 2 rfl rfl rfl (by decide) ?_) | (refine MkG.box 3 rfl rfl rfl (by decide) ?_) | (refine MkG.row ?_)); conv => whnf)
    | exact trivial
    | (refine Br.mk (fun hb => ?_) (fun hb => ?_) <;> (first | (exfalso; revert hb; decide) | ((try simp only [BL] at hb) <;> (try simp only [DL] at hb) <;> (first | (exfalso; omega) | (conv => whnf)))))
    | (refine And.intro ?_ ?_; (focus (first | exact id | exact rfl | exact trivial | (intro hg; first | exact hg | exact rfl | (simp; done) | (simp at hg ⊢; assumption)) | omega | decide | exact is2_c _ _ _ | exact is1_c _ _ | exact isS_c _ _ | exact isB_c _ _ | exact Nat.le_refl _ | assumption | exact mulLe (by decide) (by omega) | exact mulLe2 (by decide) (by omega) (by omega) | (intros; simp only [BL] at *; omega) | (intros; (try simp only [BL] at *); (try simp only [DL] at *); omega) | (intros; simp only [BL] at *; rw [wr_id (by omega) (by omega)]; omega) | (intro h1 h2; exact Bool.and_eq_true_iff.2 ⟨h1, h2⟩) | exact ⟨rfl, by omega, by decide⟩ | (intros; simp_all; done))); conv => whnf)
    | (refine Or.inr (And.intro rfl ?_); first | (refine congrArg intV ?_) | (refine congrArg boolV ?_) | (refine tupII ?_ ?_) | (refine tupIII ?_ ?_ ?_) | (refine tupU ?_ ?_ ?_ ?_ ?_) | exact rfl))
  have e0 : S (fun t => x t * D t) t = S (fun t => x t * D t) t - S (fun i => gnU (u i) x t) 0 := (Int.sub_zero _).symm
  refine sem_loop tab_ok gamN1_ok mixed (by kernel_rfl) (O := lex) (fun i : Nat => ⟨[(2, .c (.sl 1 t (c1 x))), (9, intV (S (fun t => x t * D t) t - S (fun i => gnU (u i) x t) i)), (39, .c (.sl 13 n (cCu u))), (40, intV n), (41, intV i)], []⟩) (fun i => i ≤ n) (fun i => n - i) ⟨0, [], Nat.zero_le _, ?_⟩ fun i hi => ?_
  · refine Sub.of ?_ ?_ ?_
    repeat' (first | (refine And.intro ?_ ?_) | exact trivial | exact fun _ _ _ => hsc _ _ | (exact congrArg intV (by first | with_reducible rfl | with_reducible assumption)) | exact (rfl : AV.idsLt _ _ = true) | exact (rfl : _ = AV.ren _ (.own _)) | exact (rfl : _ = AV.ren _ (.fn _ _)) | exact (rfl : _ = AV.ren _ (.gh _)) | (exact congrArg intV (by assumption)) | (refine congrArg intV ((wr_id (by omega) (by omega)).trans (by omega))) | exact rfl | (simp only [Int.toNat_natCast, Int.toNat_zero, Nat.sub_zero, Nat.zero_add]; first | exact rfl | done) | exact all0 | exact fun h => Bool.noConfusion h | exact fun _ _ _ _ => rfl | omega)
  have hgb := S_le (p := fun i => gnU (u i) x t) (a := -17000000000000) (b := 17000000000000) (k := i) fun j hj => gnU_b (hv j (by omega)) hnd hx
  by_cases hin : i < n
  · have hgi := gnU_b (hv i hin) hnd hx
    conv => whnf
    repeat' (first
      | (refine NilG.mk fun bn hbn hbx => ?_; conv => whnf)
      | (refine Both.mk ?_ ?_ <;> conv => whnf)
      | ((first | (refine MkG.box 1 rfl rfl rfl (by decide) ?_) | (refine MkG.box 2 rfl rfl rfl (by decide) ?_) | (refine MkG.box 3 rfl rfl rfl (by decide) ?_) | (refine MkG.row ?_)); conv => whnf)
      | exact trivial
      | (refine Br.mk (fun hb => ?_) (fun hb => ?_) <;> (first | (exfalso; revert hb; decide) | ((try simp only [BL] at hb) <;> (try simp only [DL] at hb) <;> (first | (exfalso; omega) | (conv => whnf)))))
      | (refine And.intro ?_ ?_; (focus (first | exact id | exact rfl | exact trivial | (intro hg; first | exact hg | exact rfl | (simp; done) | (simp at hg ⊢; assumption)) | omega | decide | exact is2_c _ _ _ | exact is1_c _ _ | exact isS_c _ _ | exact isB_c _ _ | exact Nat.le_refl _ | assumption | exact mulLe (by decide) (by omega) | exact mulLe2 (by decide) (by omega) (by omega) | (intros; simp only [BL] at *; omega) | (intros; (try simp only [BL] at *); (try simp only [DL] at *); omega) | (intros; simp only [BL] at *; rw [wr_id (by omega) (by omega)]; omega) | (intro h1 h2; exact Bool.and_eq_true_iff.2 ⟨h1, h2⟩) | exact ⟨rfl, by omega, by decide⟩ | (intros; simp_all; done))); conv => whnf)
      | (refine Or.inr (And.intro rfl ?_); first | (refine congrArg intV ?_) | (refine congrArg boolV ?_) | (refine tupII ?_ ?_) | (refine tupIII ?_ ?_ ?_) | (refine tupU ?_ ?_ ?_ ?_ ?_) | exact rfl))
    refine CallG.mk (Fn.mono (single (u i) x t hnd (hv i hin) (hz i hin) hx) ?_)
    rintro obs r ⟨rfl, rfl⟩
    have e2 : IntKind.i64.wrap (S (fun t => x t * D t) t - S (fun i => gnU (u i) x t) i - (dgF (pOk (u i) t) (dV (u i) x t) (2 ^ t)).1) = S (fun t => x t * D t) t - S (fun i => gnU (u i) x t) (i + 1) := by
      have e3 : S (fun i => gnU (u i) x t) (i + 1) = S (fun i => gnU (u i) x t) i + gnU (u i) x t := rfl
      have e4 : (dgF (pOk (u i) t) (dV (u i) x t) (2 ^ t)).1 = gnU (u i) x t := rfl
      rw [e4, wr_id (by omega) (by omega)]
      omega
    conv => whnf
    repeat' (first
      | (refine NilG.mk fun bn hbn hbx => ?_; conv => whnf)
      | (refine Both.mk ?_ ?_ <;> conv => whnf)
      | ((first | (refine MkG.box 1 rfl rfl rfl (by decide) ?_) | (refine MkG.box 2 rfl rfl rfl (by decide) ?_) | (refine MkG.box 3 rfl rfl rfl (by decide) ?_) | (refine MkG.row ?_)); conv => whnf)
      | exact trivial
      | (refine Br.mk (fun hb => ?_) (fun hb => ?_) <;> (first | (exfalso; revert hb; decide) | ((try simp only [BL] at hb) <;> (try simp only [DL] at hb) <;> (first | (exfalso; omega) | (conv => whnf)))))
      | (refine And.intro ?_ ?_; (focus (first | exact id | exact rfl | exact trivial | (intro hg; first | exact hg | exact rfl | (simp; done) | (simp at hg ⊢; assumption)) | omega | decide | exact is2_c _ _ _ | exact is1_c _ _ | exact isS_c _ _ | exact isB_c _ _ | exact Nat.le_refl _ | assumption | exact mulLe (by decide) (by omega) | exact mulLe2 (by decide) (by omega) (by omega) | (intros; simp only [BL] at *; omega) | (intros; (try simp only [BL] at *); (try simp only [DL] at *); omega) | (intros; simp only [BL] at *; rw [wr_id (by omega) (by omega)]; omega) | (intro h1 h2; exact Bool.and_eq_true_iff.2 ⟨h1, h2⟩) | exact ⟨rfl, by omega, by decide⟩ | (intros; simp_all; done))); conv => whnf)
      | (refine Or.inr (And.intro rfl ?_); first | (refine congrArg intV ?_) | (refine congrArg boolV ?_) | (refine tupII ?_ ?_) | (refine tupIII ?_ ?_ ?_) | (refine tupU ?_ ?_ ?_ ?_ ?_) | exact rfl))
    refine ⟨i + 1, [], (by omega : i + 1 ≤ n), by omega, ?_⟩
    refine Sub.of ?_ ?_ ?_
    repeat' (first | (refine And.intro ?_ ?_) | exact trivial | exact fun _ _ _ => hsc _ _ | (exact congrArg intV (by first | with_reducible rfl | with_reducible assumption)) | exact (rfl : AV.idsLt _ _ = true) | exact (rfl : _ = AV.ren _ (.own _)) | exact (rfl : _ = AV.ren _ (.fn _ _)) | exact (rfl : _ = AV.ren _ (.gh _)) | (exact congrArg intV (by assumption)) | (refine congrArg intV ((wr_id (by omega) (by omega)).trans (by omega))) | exact rfl | (simp only [Int.toNat_natCast, Int.toNat_zero, Nat.sub_zero, Nat.zero_add]; first | exact rfl | done) | exact all0 | exact fun h => Bool.noConfusion h | exact fun _ _ _ _ => rfl | omega)
  obtain rfl : i = n := by omega
  conv => whnf
  repeat' (first
    | (refine NilG.mk fun bn hbn hbx => ?_; conv => whnf)
    | (refine Both.mk ?_ ?_ <;> conv => whnf)
    | ((first | (refine MkG.box 1 rfl rfl rfl (by decide) ?_) | (refine MkG.box 2 rfl rfl rfl (by decide) ?_) | (refine MkG.box 3 rfl rfl rfl (by decide) ?_) | (refine MkG.row ?_)); conv => whnf)
    | exact trivial
    | (refine Br.mk (fun hb => ?_) (fun hb => ?_) <;> (first | (exfalso; revert hb; decide) | ((try simp only [BL] at hb) <;> (try simp only [DL] at hb) <;> (first | (exfalso; omega) | (conv => whnf)))))
    | (refine And.intro ?_ ?_; (focus (first | exact id | exact rfl | exact trivial | (intro hg; first | exact hg | exact rfl | (simp; done) | (simp at hg ⊢; assumption)) | omega | decide | exact is2_c _ _ _ | exact is1_c _ _ | exact isS_c _ _ | exact isB_c _ _ | exact Nat.le_refl _ | assumption | exact mulLe (by decide) (by omega) | exact mulLe2 (by decide) (by omega) (by omega) | (intros; simp only [BL] at *; omega) | (intros; (try simp only [BL] at *); (try simp only [DL] at *); omega) | (intros; simp only [BL] at *; rw [wr_id (by omega) (by omega)]; omega) | (intro h1 h2; exact Bool.and_eq_true_iff.2 ⟨h1, h2⟩) | exact ⟨rfl, by omega, by decide⟩ | (intros; simp_all; done))); conv => whnf)
    | (refine Or.inr (And.intro rfl ?_); first | (refine congrArg intV ?_) | (refine congrArg boolV ?_) | (refine tupII ?_ ?_) | (refine tupIII ?_ ?_ ?_) | (refine tupU ?_ ?_ ?_ ?_ ?_) | exact rfl))
  all_goals rfl
theorem S_mulD (c : Int) (f : Nat → Int) : ∀ n, S (fun k => c * f k) n = c * S f n
  | 0 => by simp [S]
  | n + 1 => by
    show S (fun k => c * f k) n + c * f n = c * (S f n + f n)
    rw [S_mulD c f n, Int.mul_add]
theorem S_swap (f : Nat → Nat → Int) (m : Nat) : ∀ n, S (fun i => S (fun t => f i t) m) n = S (fun t => S (fun i => f i t) n) m
  | 0 => (S_zero fun _ _ => rfl).symm
  | n + 1 => by
    show S (fun i => S (fun t => f i t) m) n + S (fun t => f n t) m = _
    rw [S_swap f m n, ← S_plus2]
    rfl
theorem dg_le {ok : Nat → Bool} {v : Nat → Int} {i : Nat} (ho : ok i = true) : ∀ {N : Nat}, i < N → v i ≤ (dgF ok v N).1
  | N + 1, h => by
    simp only [dgF]
    rcases Nat.lt_succ_iff_lt_or_eq.1 h with hlt | rfl
    · have ih := dg_le ho hlt (v := v)
      split
      · rename_i hc
        rcases hc.2 with h2 | h2
        · rw [dg_some ho hlt] at h2; cases h2
        · dsimp only
          omega
      · exact ih
    · split
      · exact Int.le_refl _
      · rename_i hc
        by_cases h9 : v i ≤ (dgF ok v i).1
        · exact h9
        · exact absurd ⟨ho, .inr (by omega)⟩ hc
/-- a number with these bits -/
def bitsF (o : Nat → Bool) : Nat → Nat
  | 0 => 0
  | t + 1 => bitsF o t + if o t then 2 ^ t else 0
theorem bitsF_lt (o : Nat → Bool) : ∀ t, bitsF o t < 2 ^ t
  | 0 => Nat.one_pos
  | t + 1 => by
    have := bitsF_lt o t
    unfold bitsF
    rw [Nat.pow_succ]
    split <;> omega
theorem bitsF_at (o : Nat → Bool) : ∀ n t, t < n → (bitsF o n).testBit t = o t
  | 0, t, h => absurd h (Nat.not_lt_zero t)
  | n + 1, t, h => by
    have hl := bitsF_lt o n
    unfold bitsF
    rcases Nat.lt_succ_iff_lt_or_eq.1 h with h | rfl
    · have ih := bitsF_at o n t h
      split
      · rw [Nat.add_comm, Nat.testBit_two_pow_add_gt h]
        exact ih
      · exact ih
    · split
      · rename_i ho
        rw [Nat.add_comm, Nat.testBit_two_pow_add_eq, Nat.testBit_lt_two_pow hl, ho]
        rfl
      · rename_i ho
        rw [Nat.add_zero, Nat.testBit_lt_two_pow hl]
        simpa using ho
theorem bt8 : ∀ t : Nat, t < 8 → ∀ b : Nat, b < 256 → (bt b t = 1 ↔ b.testBit t = true) := by decide +kernel
theorem btF {o : Nat → Bool} {n t : Nat} (hn : n ≤ 8) (ht : t < n) : bt (bitsF o n) t = 1 ↔ o t = true := by
  have h1 := bitsF_lt o n
  have h2 : 2 ^ n ≤ 256 := Nat.pow_le_pow_right (by decide) hn
  rw [bt8 t (by omega) _ (by omega), bitsF_at o n t ht]
/-- a pattern that is permitted in terms of its number -/
theorem pOk_fit {u : CuR} (h : cuE u = 0) {o : Nat → Bool} {n : Nat} (hn : n ≤ 8) {b : Nat} (hb : ∀ t, t < n → (bt b t = 1 ↔ o t = true)) : (pOk u n b = true ↔ ∀ t, t < n → uk u o t = true) ∧ ((∀ t, t < n → uk u o t = true) → pCo u n b = S (uc u o) n) := by
  have hk := (cuE_all h).2.1
  unfold okR at hk
  obtain ⟨g1, g2⟩ := run_fit (u := u) (o := o) (sc := pLe u b) h (T := n) fun t ht => by
    unfold fitS
    show if o t = true then u.r.le ≤ (if bt b t = 1 then u.r.le else -1) ∧ (if bt b t = 1 then u.r.le else -1) ≤ u.r.mo else (if bt b t = 1 then u.r.le else -1) = -1
    by_cases ho : o t = true
    · rw [if_pos ho, if_pos ((hb t ht).2 ho)]; omega
    · rw [if_neg ho, if_neg (fun h1 => ho ((hb t ht).1 h1))]
  refine ⟨?_, g2⟩
  unfold pOk
  rw [decide_eq_true_iff]
  exact g1
/-- no power earns more than the best one -/
theorem dG_best {u : CuR} (hu : cuE u = 0) (x : Nat → Int) (t : Nat) {y : Int} (h0 : u.r.le ≤ y) (h1 : y ≤ u.r.mo) : x t * y - S (ct u.p u.q y) u.m ≤ dG u x t := by
  obtain ⟨_, hk, _, ho, hs, _⟩ := cuE_all hu
  unfold okR at hk
  have hp : ∀ j, j < u.m → 0 ≤ u.p j := fun j hj => by have := (ho.2.1 j hj).1; omega
  obtain ⟨a, ha, hP, e⟩ := sup_cut ho (x t)
  have ea : S u.p a ≤ S u.p u.m := S_mono hp ha
  have eG : dG u x t = prof u.p u.q u.m (x t) (max (S u.p a) u.r.le) := by
    unfold dG dP
    rw [e]
    exact prof_eq hp _ (by omega) (by omega)
  rw [eG, prof_eq hp _ (by omega) (by omega)]
  exact prof_best ho ha hP h0
/-- a permitted pattern costs at least the bound -/
theorem bnd_le {G : Cgx} (hG : G.ok) {D x : Nat → Int} {T : Nat} (hT : T ≤ 8) {h : Nat → Nat} (hf : feH G D T h) : bndV G.u G.n T D x ≤ csH G D T h := by
  have gi : ∀ i, i < G.n → S (fun t => if (h t).testBit i then x t * G.pw (bitsN (h t)) (D t) i - cC G.u (G.pw (bitsN (h t)) (D t)) i else 0) T - S (uc (G.u i) fun τ => (h τ).testBit i) T ≤ gnU (G.u i) x T := fun i hi => by
    have hv := hG.v i hi
    have hb := fun t (ht : t < T) => btF (o := fun τ => (h τ).testBit i) hT ht
    obtain ⟨q1, q2⟩ := pOk_fit hv hT hb
    have hk : ∀ t, t < T → uk (G.u i) (fun τ => (h τ).testBit i) t = true := fun t ht => (hf t ht).2.1 i hi
    have h1 := dg_le (ok := pOk (G.u i) T) (v := dV (G.u i) x T) (q1.2 hk) (bitsF_lt (fun τ => (h τ).testBit i) T)
    have h2 : S (fun t => if (h t).testBit i then x t * G.pw (bitsN (h t)) (D t) i - cC G.u (G.pw (bitsN (h t)) (D t)) i else 0) T ≤ S (fun t => if bt (bitsF (fun τ => (h τ).testBit i) T) t = 1 then dG (G.u i) x t else 0) T := S_leQ fun t ht => by
      show (if (h t).testBit i = true then _ else 0) ≤ (if bt (bitsF (fun τ => (h τ).testBit i) T) t = 1 then _ else 0)
      by_cases ho : (h t).testBit i = true
      · rw [if_pos ho, if_pos ((hb t ht).2 ho)]
        obtain ⟨w1, w2⟩ := (G.pw_b hG (hf t ht).2.2).2 i hi
        unfold cLo at w1
        unfold cHi at w2
        have e1 : bitsN (h t) i = true := ho
        rw [e1] at w1 w2
        exact dG_best hv x t w1 w2
      · rw [if_neg ho, if_neg (fun hh => ho ((hb t ht).1 hh))]
        exact Int.le_refl _
    have h3 := q2 hk
    have h4 : dV (G.u i) x T (bitsF (fun τ => (h τ).testBit i) T) = S (fun t => if bt (bitsF (fun τ => (h τ).testBit i) T) t = 1 then dG (G.u i) x t else 0) T - pCo (G.u i) T (bitsF (fun τ => (h τ).testBit i) T) := rfl
    rw [h3] at h4
    have h5 : gnU (G.u i) x T = (dgF (pOk (G.u i) T) (dV (G.u i) x T) (2 ^ T)).1 := rfl
    omega
  have hsum := S_leQ gi
  rw [S_sub2] at hsum
  have e1 : S (fun i => S (fun t => if (h t).testBit i then x t * G.pw (bitsN (h t)) (D t) i - cC G.u (G.pw (bitsN (h t)) (D t)) i else 0) T) G.n = S (fun t => x t * D t - G.sC (bitsN (h t)) (D t)) T := by
    rw [S_swap]
    refine S_congr fun t ht => ?_
    obtain ⟨w1, w2⟩ := G.pw_b hG (hf t ht).2.2
    have e2 : S (fun i => if (h t).testBit i then x t * G.pw (bitsN (h t)) (D t) i - cC G.u (G.pw (bitsN (h t)) (D t)) i else 0) G.n = S (fun i => x t * G.pw (bitsN (h t)) (D t) i - cC G.u (G.pw (bitsN (h t)) (D t)) i) G.n := S_congr fun i hi => by
      show (if (h t).testBit i = true then _ else 0) = _
      by_cases ho : (h t).testBit i = true
      · rw [if_pos ho]
      · have ho' : bitsN (h t) i = false := by simpa using ho
        rw [if_neg ho]
        have w := w2 i hi
        unfold cLo cHi at w
        rw [ho'] at w
        have e3 : G.pw (bitsN (h t)) (D t) i = 0 := by simp at w; omega
        have e4 : cC G.u (G.pw (bitsN (h t)) (D t)) i = 0 := by
          unfold cC
          rw [e3]
          exact ct_zero fun j hj => by
            have := (cuE_zero (hG.v i hi)).2.2.2.1.2.1 j hj
            omega
        rw [e3, e4]
        simp
    rw [e2, S_sub2, S_mulD, w1]
    rfl
  rw [e1, S_sub2] at hsum
  have e5 : csH G D T h = S (fun t => G.sC (bitsN (h t)) (D t)) T + S (fun i => S (uc (G.u i) fun τ => (h τ).testBit i) T) G.n := by
    unfold csH
    rw [S_plus2, S_swap, Int.add_comm]
  unfold bndV
  omega
end Go.Proofs.Ytemfikdogdadnaa

namespace Go.Proofs.Ytemfikdogdadnaa
open Go.RowKit

/-- what Best returns, for valid generators -/
def beR (G : Cgx) (D : Nat → Int) (nd : Nat) (obs : List OB) (v : AV) : Prop :=
  obs = [] ∧ (((∀ h, ¬ feH G D nd h) ∧ v = .tup [.c (.sl 1 0 fun _ _ => .un), intV 0, intV 8]) ∨
    ∃ h, feH G D nd h ∧ (∀ h', feH G D nd h' → csH G D nd h ≤ csH G D nd h') ∧ v = .tup [.c (.sl 1 G.n fun k _ => .sl 1 nd (c1 fun t => G.sP (bitsN (h t)) (D t) k)), intV (csH G D nd h), intV 0])
theorem cbBestR (G : Cgx) (h : G.ok) (nd : Nat) (D : Nat → Int) (h0 : csE G.u G.n nd D = 0) : Fn Try.prog 21 [.c (.sl 13 G.n (cCu G.u)), .c (.sl 1 nd (c1 D))] (beR G D nd) := by
  obtain ⟨_, h8, _, hD⟩ := csE_zero h0
  refine (cbBest G h nd D h8 hD h0).res fun obs r ⟨h1, h2⟩ => ?_
  rcases h2 with ⟨h2, rfl⟩ | ⟨h2, F, rfl, hF⟩
  · refine ⟨_, ⟨h1, .inl ⟨fun g hg => ?_, rfl⟩⟩, dTup (Le.cons dNil (Le.cons (Le1.refl _) (Le.cons (Le1.refl _) Le.nil)))⟩
    have := (best_le h.n3 hg).1
    omega
  · obtain ⟨g, g1, g2, g3⟩ := best_at h2
    refine ⟨_, ⟨h1, .inr ⟨g, g1, fun g' hg' => ?_, rfl⟩⟩, ?_⟩
    · have := (best_le h.n3 hg').2
      omega
    · rw [g2]
      refine dTup (Le.cons (Le1.l (LLe.sl fun k hk j hj => ?_)) (Le.cons (Le1.refl _) (Le.cons (Le1.refl _) Le.nil)))
      obtain rfl : j = 0 := by omega
      refine fun w I u hu => (LLe.sl fun t ht j' hj' => ?_) w I u (hF k hk w I u hu)
      obtain rfl : j' = 0 := by omega
      refine LLe.of_eq ?_
      exact congrArg iL (congrFun (g3 t ht) k)
/-- Bound in one form -/
def bnR (u : Nat → CuR) (n nd np : Nat) (D x : Nat → Int) (obs : List OB) (v : AV) : Prop := obs = [] ∧ ∃ b e, v = .tup [intV b, intV e] ∧ (e = 0 → bnE u n nd np D x = 0 ∧ b = bndV u n nd D x)
theorem duBndR (u : Nat → CuR) (n nd np : Nat) (D x : Nat → Int) (hn : n ≤ maxLen) (hnd : nd ≤ maxLen) (hnp : np ≤ maxLen) (hz : ∀ k, k < n → cuZ (u k)) : Fn Try.prog 22 [.c (.sl 13 n (cCu u)), .c (.sl 1 nd (c1 D)), .c (.sl 1 np (c1 x))] (bnR u n nd np D x) := by
  by_cases h0 : bnE u n nd np D x = 0
  · obtain ⟨hc, rfl, hx⟩ := bnE_zero h0
    obtain ⟨h3, h8, _, _⟩ := csE_zero hc
    refine Fn.mono (duBnd u n np D x h3 h8 hz h0) ?_
    rintro obs r ⟨rfl, rfl⟩
    exact ⟨rfl, _, _, rfl, fun _ => ⟨h0, rfl⟩⟩
  · refine Fn.mono (duBndE u n nd np D x hn hnd hnp hz h0) ?_
    rintro obs r ⟨rfl, rfl⟩
    exact ⟨rfl, _, _, rfl, fun h => absurd h h0⟩
/-- Serve of a pattern that can be served -/
theorem serveT (G : Cgx) (h : G.ok) (o : Nat → Bool) (T : Int) (hcs : csE G.u G.n 1 (fun _ => T) = 0) (hc : G.can o T = true) : Fn Try.prog 24 [.c (.sl 13 G.n (cCu G.u)), .c (.sl 1 G.n (cB o)), intV T] (fun obs v => obs = [] ∧ ∃ g, v = .tup [.c (.sl 1 G.n (c1 g)), intV (G.sC o T), intV 0]) := by
  have hn : G.n ≤ maxLen := Nat.le_trans h.n3 (by decide)
  refine Fn.mono (serveR G.u o G.n G.n T hn hn h.z) ?_
  rintro obs r ⟨rfl, K, g, c, rfl, h1, h2⟩
  have h0 : seE G.u o G.n G.n T = 0 := by
    unfold seE
    rw [if_neg (fun hh => hh hcs), if_neg (fun hh => hh rfl), if_pos (Cgx.can_iff.1 hc)]
  obtain ⟨rfl, π, hq, -, rfl⟩ := h2 h0
  rw [h0]
  refine ⟨rfl, g, ?_⟩
  have e : S (cC G.u fun k => cLo G.u o k + cX G.u o G.n π (T - S (cLo G.u o) G.n) k) G.n = G.sC o T := by
    unfold Cgx.sC
    congr 2
    funext k
    exact G.pw_of h hq k
  rw [e]
/-- a schedule of a permitted pattern -/
theorem sP_fit {G : Cgx} (hG : G.ok) {D : Nat → Int} {T : Nat} {h : Nat → Nat} (hf : feH G D T h) {i : Nat} (hi : i < G.n) {t : Nat} (ht : t < T) : fitS (G.u i) (fun τ => (h τ).testBit i) (fun t => G.sP (bitsN (h t)) (D t) i) t := by
  obtain ⟨w1, w2⟩ := (G.pw_b hG (hf t ht).2.2).2 i hi
  unfold fitS
  show if (h t).testBit i = true then _ ≤ (if (h t).testBit i = true then G.pw (bitsN (h t)) (D t) i else -1) ∧ (if (h t).testBit i = true then G.pw (bitsN (h t)) (D t) i else -1) ≤ _ else (if (h t).testBit i = true then G.pw (bitsN (h t)) (D t) i else -1) = -1
  unfold cLo at w1
  unfold cHi at w2
  by_cases ho : (h t).testBit i = true
  · have e1 : bitsN (h t) i = true := ho
    rw [e1] at w1 w2
    rw [if_pos ho, if_pos ho]
    exact ⟨w1, w2⟩
  · rw [if_neg ho, if_neg ho]
theorem sP_on {G : Cgx} (hG : G.ok) {D : Nat → Int} {T : Nat} {h : Nat → Nat} (hf : feH G D T h) {i : Nat} (hi : i < G.n) {t : Nat} (ht : t < T) : decide (G.sP (bitsN (h t)) (D t) i ≥ 0) = (h t).testBit i := by
  have hk := (cuE_all (hG.v i hi)).2.1
  unfold okR at hk
  have hft := sP_fit hG hf hi ht
  have : if (h t).testBit i = true then (G.u i).r.le ≤ G.sP (bitsN (h t)) (D t) i ∧ G.sP (bitsN (h t)) (D t) i ≤ (G.u i).r.mo else G.sP (bitsN (h t)) (D t) i = -1 := hft
  cases ho : (h t).testBit i with
  | true =>
    rw [ho, if_pos rfl] at this
    exact decide_eq_true (by omega)
  | false =>
    rw [ho, if_neg (by decide)] at this
    exact decide_eq_false (by omega)
theorem runT (G : Cgx) (hG : G.ok) {D : Nat → Int} {T : Nat} (hT : T ≤ 8) {h : Nat → Nat} (hf : feH G D T h) {i : Nat} (hi : i < G.n) : Fn Try.prog 23 [rV (G.u i).r, vV (cuS (G.u i)), .c (.sl 1 T (c1 fun t => G.sP (bitsN (h t)) (D t) i))] (fun obs v => obs = [] ∧ v = .tup [.c (.sl 3 T (cUr fun k => stt (G.u i).r (cuS (G.u i)) (fun t => G.sP (bitsN (h t)) (D t) i) (k + 1))), intV (S (uc (G.u i) fun τ => (h τ).testBit i) T), intV 0]) := by
  have hv := hG.v i hi
  obtain ⟨q1, q2⟩ := run_fit (T := T) hv fun t ht => sP_fit hG hf hi ht
  have hk : ∀ t, t < T → uk (G.u i) (fun τ => (h τ).testBit i) t = true := fun t ht => (hf t ht).2.1 i hi
  refine Fn.mono (uRun (G.u i).r (cuS (G.u i)) T _ (hG.z i hi).1) ?_
  rintro obs r ⟨rfl, h2⟩
  have h0 : runE (G.u i).r (cuS (G.u i)) T (fun t => G.sP (bitsN (h t)) (D t) i) = 0 := by
    unfold runE
    rw [if_neg (fun hh => hh (cuE_all hv).1), if_neg (by omega)]
    exact q1.2 hk
  rcases h2 with ⟨h2, -⟩ | ⟨-, rfl⟩
  · exact absurd h0 h2
  · exact ⟨rfl, by rw [q2 hk]⟩
theorem uc_b {u : CuR} (h : cuE u = 0) (o : Nat → Bool) (T : Nat) : 0 ≤ S (uc u o) T ∧ S (uc u o) T ≤ 1000000 * T := by
  have := S_le (p := uc u o) (a := 0) (b := 1000000) (k := T) fun j _ => stU_b h _ _
  omega
theorem csH_eq {G : Cgx} {D : Nat → Int} {T : Nat} {h : Nat → Nat} : csH G D T h = S (fun i => S (uc (G.u i) fun τ => (h τ).testBit i) T) G.n + S (fun t => G.sC (bitsN (h t)) (D t)) T := by
  unfold csH
  rw [S_plus2, S_swap]
theorem csE_one {u : Nat → CuR} {n nd : Nat} {D : Nat → Int} (h : csE u n nd D = 0) {t : Nat} (ht : t < nd) : csE u n 1 (fun _ => D t) = 0 := by
  obtain ⟨h3, h8, _, hD⟩ := csE_zero h
  have h1 : fst (clE u) n = 0 := by
    unfold csE at h
    split at h
    · cases h
    · split at h
      · rename_i h2; exact absurd h h2
      · rename_i h2; simpa using h2
  unfold csE
  rw [if_neg (by omega), if_neg (fun hh => hh h1), if_neg]
  intro hh
  obtain ⟨k, hk⟩ : ∃ k, k < 1 ∧ badD (D t) = true := by
    refine ⟨0, by decide, ?_⟩
    cases hb : badD (D t) with
    | true => rfl
    | false =>
      rw [fidx_none fun k _ => hb] at hh
      omega
  have := hD t ht
  have hk2 := hk.2
  unfold badD at hk2
  simp at hk2
  omega
/-- the generators with an order for each pattern -/
theorem cgx_ex (u : Nat → CuR) (n nd : Nat) (D : Nat → Int) (hz : ∀ k, k < n → cuZ (u k)) (h0 : csE u n nd D = 0) : ∃ G : Cgx, G.u = u ∧ G.n = n ∧ G.ok := by
  obtain ⟨h3, h8, hv, hD⟩ := csE_zero h0
  exact ⟨⟨u, n, fun o => Classical.choose (sorted_ex (bSz (cM u o) (cQ u o) n) (oN (cM u o) n))⟩, rfl, rfl, ⟨h3, hv, hz, fun o => Classical.choose_spec (sorted_ex (bSz (cM u o) (cQ u o) n) (oN (cM u o) n))⟩⟩
/-- the example -/
abbrev eU : Nat → CuR := fun _ => dU
theorem dU_z : cuZ dU := ⟨by decide, by decide, by decide⟩
theorem eZ : ∀ k, k < 1 → cuZ (eU k) := fun _ _ => dU_z
theorem e_fst : fst (clE eU) 1 = 0 := by
  have h0 : clE eU 0 = 0 := by unfold clE; rw [if_neg (fun h => h d_cu), if_neg (by decide)]
  simp [fst, h0]
theorem e_cs {nd : Nat} {D : Nat → Int} (h8 : nd ≤ 8) (hD : fidx (fun k => badD (D k)) nd = -1) : csE eU 1 nd D = 0 := by
  unfold csE
  rw [if_neg (by omega), if_neg (fun hh => hh e_fst), hD]
  rfl
section
variable {G : Cgx} (hu : G.u = eU) (hn : G.n = 1) (hG : G.ok)
include hu hn
theorem e_can {o : Nat → Bool} {T : Int} : G.can o T = true ↔ 0 ≤ T ∧ T ≤ if o 0 = true then 20 else 0 := by
  rw [Cgx.can_iff, hu, hn]
  show 0 ≤ T - (0 + cLo eU o 0) ∧ T - (0 + cLo eU o 0) ≤ 0 + cR eU o 0 ↔ _
  unfold cR cLo cHi
  cases o 0 with
  | true =>
    show 0 ≤ T - (0 + 0) ∧ T - (0 + 0) ≤ 0 + (20 - 0) ↔ 0 ≤ T ∧ T ≤ 20
    omega
  | false =>
    show 0 ≤ T - (0 + 0) ∧ T - (0 + 0) ≤ 0 + (0 - 0) ↔ 0 ≤ T ∧ T ≤ 0
    omega
include hG
theorem e_sC {o : Nat → Bool} {T : Int} (hc : G.can o T = true) : G.sC o T = S (ct dU.p dU.q T) 2 := by
  have h1 := (G.pw_b hG hc).1
  rw [hn] at h1
  have h1 : 0 + G.pw o T 0 = T := h1
  unfold Cgx.sC
  rw [hn]
  show 0 + S (ct (G.u 0).p (G.u 0).q (G.pw o T 0)) (G.u 0).m = _
  rw [hu, show G.pw o T 0 = T by omega]
  exact Int.zero_add _
end
def eD2 (k : Nat) : Int := if k = 0 then 12 else 0
theorem e_best {G : Cgx} (hu : G.u = eU) (hn : G.n = 1) (hG : G.ok) : feH G eD2 2 (fun _ => 1) ∧ ∀ h, feH G eD2 2 h → csH G eD2 2 h = 75 := by
  refine ⟨fun t ht => ⟨by rw [hn]; show 1 < 2; decide, fun i hi => ?_, ?_⟩, fun h hf => ?_⟩
  · rw [hu]
    obtain rfl : i = 0 := by omega
    match t, ht with
    | 0, _ => decide
    | 1, _ => decide
  · refine (e_can hu hn).2 ?_
    rw [if_pos (show (1 : Nat).testBit 0 = true by decide)]
    unfold eD2
    split <;> omega
  · have c0 := (hf 0 (by decide)).2.2
    have c1' := (hf 1 (by decide)).2.2
    have b0 : (h 0).testBit 0 = true := by
      have := (e_can hu hn).1 c0
      by_cases hb : (h 0).testBit 0 = true
      · exact hb
      · rw [if_neg hb] at this
        have := this.2
        have e : eD2 0 = 12 := rfl
        omega
    have s0 := e_sC hu hn hG c0
    have s1 := e_sC hu hn hG c1'
    unfold csH
    show 0 + (S (fun i => uc (G.u i) (fun τ => (h τ).testBit i) 0) G.n + G.sC (bitsN (h 0)) (eD2 0)) + (S (fun i => uc (G.u i) (fun τ => (h τ).testBit i) 1) G.n + G.sC (bitsN (h 1)) (eD2 1)) = 75
    rw [s0, s1, hn, hu]
    have u0 : S (fun i => uc (eU i) (fun τ => (h τ).testBit i) 0) 1 = 9 := by
      show 0 + stU dU ((h 0).testBit 0) false = 9
      rw [b0]
      decide
    have u1 : S (fun i => uc (eU i) (fun τ => (h τ).testBit i) 1) 1 = 0 := by
      show 0 + stU dU ((h 1).testBit 0) ((h 0).testBit 0) = 0
      rw [b0]
      cases (h 1).testBit 0 <;> decide
    rw [u0, u1]
    decide
theorem e_gn : gnU dU (fun _ => 5) 1 = 0 := by decide +kernel
end Go.Proofs.Ytemfikdogdadnaa
