/-
  storage: checks, line, costs, Value.
-/
import Derived.Test.YtkkkldhilofgmaaStoP
namespace Go.Proofs.Ytkkkldhilofgmaa
open Go.RowKit

abbrev sV (s : Sto) : AV := .agg [intV s.C, intV s.D, intV s.cap, intV s.beg, intV s.en]
theorem stOut (n h : Int) : Fn1 Try.prog 131 [intV n, intV h] (boolV (decide (n < 0) || decide (n > h))) := by
  refine fn_of_wpx (O := lex) tab_ok (Γ := fun _ => none) (fun _ _ h => by cases h) mixed Try.func131 (by kernel_rfl) rfl rfl rfl (by simp [Try.ntmps131]) (by kernel_rfl) ?_
  conv => whnf
  repeat' (first
    | (refine NilG.mk fun bn hbn hbx => ?_; conv => whnf)
    | (refine Both.mk ?_ ?_ <;> conv => whnf)
    | exact trivial
    | (refine Br.mk (fun hb => ?_) (fun hb => ?_) <;> (first | (exfalso; revert hb; decide) | ((try simp only [BL] at hb) <;> (try simp only [DL] at hb) <;> conv => whnf)))
    | (refine And.intro ?_ ?_; (focus (first | exact id | exact rfl | exact trivial | (intro hg; first | exact hg | exact rfl | (simp; done) | (simp at hg ⊢; assumption)) | omega | decide | exact is2_c _ _ _ | exact is1_c _ _ | exact isS_c _ _ | exact isB_c _ _ | exact Nat.le_refl _ | assumption | exact mulLe (by decide) (by omega) | exact mulLe2 (by decide) (by omega) (by omega) | (intros; simp only [BL] at *; omega) | (intros; (try simp only [BL] at *); (try simp only [DL] at *); omega) | (intros; simp only [BL] at *; rw [wr_id (by omega) (by omega)]; omega) | (intro h1 h2; exact Bool.and_eq_true_iff.2 ⟨h1, h2⟩) | (intros; simp_all; done))); conv => whnf)
    | (refine Or.inr (And.intro rfl ?_); first | (refine congrArg intV ?_) | (refine congrArg boolV ?_) | (refine tupII ?_ ?_) | (refine tupIII ?_ ?_ ?_) | (refine tupU ?_ ?_ ?_ ?_ ?_) | exact rfl))
  · rfl
def oB (n h : Int) : Bool := decide (n < 0) || decide (n > h)
theorem oB_t {n h : Int} (e : oB n h = true) : n < 0 ∨ h < n := by
  simp only [oB, BL] at e
  omega
theorem oB_f {n h : Int} (e : oB n h = false) : 0 ≤ n ∧ n ≤ h := by
  simp only [oB, BL] at e
  omega
theorem stOk_of {s : Sto} (e1 : oB s.C 100000 = false) (e2 : oB s.D 100000 = false) (e3 : oB s.cap 100000 = false) (e4 : oB s.beg s.cap = false) (e5 : oB s.en s.cap = false) : stOk s := by
  have := oB_f e1
  have := oB_f e2
  have := oB_f e3
  have := oB_f e4
  have := oB_f e5
  unfold stOk
  omega
theorem stOk_no {s : Sto} (h : stOk s) (e : oB s.C 100000 = true ∨ oB s.D 100000 = true ∨ oB s.cap 100000 = true ∨ oB s.beg s.cap = true ∨ oB s.en s.cap = true) : False := by
  unfold stOk at h
  rcases e with e | e | e | e | e <;> (have := oB_t e; omega)
theorem stChk (s : Sto) : Fn1 Try.prog 105 [sV s] (intV (if stOk s then 0 else 4)) := by
  refine fn_of_wpx (O := lex) tab_ok (Γ := fun _ => none) (fun _ _ h => by cases h) mixed Try.func105 (by kernel_rfl) rfl rfl rfl (by simp [Try.ntmps105]) (by kernel_rfl) ?_
  conv => whnf
  repeat' (first
    | (refine NilG.mk fun bn hbn hbx => ?_; conv => whnf)
    | (refine Both.mk ?_ ?_ <;> conv => whnf)
    | exact trivial
    | (refine Br.mk (fun hb => ?_) (fun hb => ?_) <;> (first | (exfalso; revert hb; decide) | ((try simp only [BL] at hb) <;> (try simp only [DL] at hb) <;> conv => whnf)))
    | (refine And.intro ?_ ?_; (focus (first | exact id | exact rfl | exact trivial | (intro hg; first | exact hg | exact rfl | (simp; done) | (simp at hg ⊢; assumption)) | omega | decide | exact is2_c _ _ _ | exact is1_c _ _ | exact isS_c _ _ | exact isB_c _ _ | exact Nat.le_refl _ | assumption | exact mulLe (by decide) (by omega) | exact mulLe2 (by decide) (by omega) (by omega) | (intros; simp only [BL] at *; omega) | (intros; (try simp only [BL] at *); (try simp only [DL] at *); omega) | (intros; simp only [BL] at *; rw [wr_id (by omega) (by omega)]; omega) | (intro h1 h2; exact Bool.and_eq_true_iff.2 ⟨h1, h2⟩) | (intros; simp_all; done))); conv => whnf)
    | (refine Or.inr (And.intro rfl ?_); first | (refine congrArg intV ?_) | (refine congrArg boolV ?_) | (refine tupII ?_ ?_) | (refine tupIII ?_ ?_ ?_) | (refine tupU ?_ ?_ ?_ ?_ ?_) | exact rfl))
  refine CallG.mk (Fn.mono (stOut _ _) ?_)
  rintro obs r ⟨rfl, rfl⟩
  rw [show (decide (s.C < 0) || decide (s.C > 100000)) = oB s.C 100000 from rfl]
  cases e1 : oB s.C 100000
  · conv => whnf
    repeat' (first
      | (refine NilG.mk fun bn hbn hbx => ?_; conv => whnf)
      | (refine Both.mk ?_ ?_ <;> conv => whnf)
      | exact trivial
      | (refine Br.mk (fun hb => ?_) (fun hb => ?_) <;> (first | (exfalso; revert hb; decide) | ((try simp only [BL] at hb) <;> (try simp only [DL] at hb) <;> conv => whnf)))
      | (refine And.intro ?_ ?_; (focus (first | exact id | exact rfl | exact trivial | (intro hg; first | exact hg | exact rfl | (simp; done) | (simp at hg ⊢; assumption)) | omega | decide | exact is2_c _ _ _ | exact is1_c _ _ | exact isS_c _ _ | exact isB_c _ _ | exact Nat.le_refl _ | assumption | exact mulLe (by decide) (by omega) | exact mulLe2 (by decide) (by omega) (by omega) | (intros; simp only [BL] at *; omega) | (intros; (try simp only [BL] at *); (try simp only [DL] at *); omega) | (intros; simp only [BL] at *; rw [wr_id (by omega) (by omega)]; omega) | (intro h1 h2; exact Bool.and_eq_true_iff.2 ⟨h1, h2⟩) | (intros; simp_all; done))); conv => whnf)
      | (refine Or.inr (And.intro rfl ?_); first | (refine congrArg intV ?_) | (refine congrArg boolV ?_) | (refine tupII ?_ ?_) | (refine tupIII ?_ ?_ ?_) | (refine tupU ?_ ?_ ?_ ?_ ?_) | exact rfl))
    refine And.intro (fun _ => ?_) (fun hg => absurd hg (by decide))
    conv => whnf
    repeat' (first
      | (refine NilG.mk fun bn hbn hbx => ?_; conv => whnf)
      | (refine Both.mk ?_ ?_ <;> conv => whnf)
      | exact trivial
      | (refine Br.mk (fun hb => ?_) (fun hb => ?_) <;> (first | (exfalso; revert hb; decide) | ((try simp only [BL] at hb) <;> (try simp only [DL] at hb) <;> conv => whnf)))
      | (refine And.intro ?_ ?_; (focus (first | exact id | exact rfl | exact trivial | (intro hg; first | exact hg | exact rfl | (simp; done) | (simp at hg ⊢; assumption)) | omega | decide | exact is2_c _ _ _ | exact is1_c _ _ | exact isS_c _ _ | exact isB_c _ _ | exact Nat.le_refl _ | assumption | exact mulLe (by decide) (by omega) | exact mulLe2 (by decide) (by omega) (by omega) | (intros; simp only [BL] at *; omega) | (intros; (try simp only [BL] at *); (try simp only [DL] at *); omega) | (intros; simp only [BL] at *; rw [wr_id (by omega) (by omega)]; omega) | (intro h1 h2; exact Bool.and_eq_true_iff.2 ⟨h1, h2⟩) | (intros; simp_all; done))); conv => whnf)
      | (refine Or.inr (And.intro rfl ?_); first | (refine congrArg intV ?_) | (refine congrArg boolV ?_) | (refine tupII ?_ ?_) | (refine tupIII ?_ ?_ ?_) | (refine tupU ?_ ?_ ?_ ?_ ?_) | exact rfl))
    refine CallG.mk (Fn.mono (stOut _ _) ?_)
    rintro obs r ⟨rfl, rfl⟩
    rw [show (decide (s.D < 0) || decide (s.D > 100000)) = oB s.D 100000 from rfl]
    cases e2 : oB s.D 100000
    · conv => whnf
      repeat' (first
        | (refine NilG.mk fun bn hbn hbx => ?_; conv => whnf)
        | (refine Both.mk ?_ ?_ <;> conv => whnf)
        | exact trivial
        | (refine Br.mk (fun hb => ?_) (fun hb => ?_) <;> (first | (exfalso; revert hb; decide) | ((try simp only [BL] at hb) <;> (try simp only [DL] at hb) <;> conv => whnf)))
        | (refine And.intro ?_ ?_; (focus (first | exact id | exact rfl | exact trivial | (intro hg; first | exact hg | exact rfl | (simp; done) | (simp at hg ⊢; assumption)) | omega | decide | exact is2_c _ _ _ | exact is1_c _ _ | exact isS_c _ _ | exact isB_c _ _ | exact Nat.le_refl _ | assumption | exact mulLe (by decide) (by omega) | exact mulLe2 (by decide) (by omega) (by omega) | (intros; simp only [BL] at *; omega) | (intros; (try simp only [BL] at *); (try simp only [DL] at *); omega) | (intros; simp only [BL] at *; rw [wr_id (by omega) (by omega)]; omega) | (intro h1 h2; exact Bool.and_eq_true_iff.2 ⟨h1, h2⟩) | (intros; simp_all; done))); conv => whnf)
        | (refine Or.inr (And.intro rfl ?_); first | (refine congrArg intV ?_) | (refine congrArg boolV ?_) | (refine tupII ?_ ?_) | (refine tupIII ?_ ?_ ?_) | (refine tupU ?_ ?_ ?_ ?_ ?_) | exact rfl))
      refine And.intro (fun _ => ?_) (fun hg => absurd hg (by decide))
      conv => whnf
      repeat' (first
        | (refine NilG.mk fun bn hbn hbx => ?_; conv => whnf)
        | (refine Both.mk ?_ ?_ <;> conv => whnf)
        | exact trivial
        | (refine Br.mk (fun hb => ?_) (fun hb => ?_) <;> (first | (exfalso; revert hb; decide) | ((try simp only [BL] at hb) <;> (try simp only [DL] at hb) <;> conv => whnf)))
        | (refine And.intro ?_ ?_; (focus (first | exact id | exact rfl | exact trivial | (intro hg; first | exact hg | exact rfl | (simp; done) | (simp at hg ⊢; assumption)) | omega | decide | exact is2_c _ _ _ | exact is1_c _ _ | exact isS_c _ _ | exact isB_c _ _ | exact Nat.le_refl _ | assumption | exact mulLe (by decide) (by omega) | exact mulLe2 (by decide) (by omega) (by omega) | (intros; simp only [BL] at *; omega) | (intros; (try simp only [BL] at *); (try simp only [DL] at *); omega) | (intros; simp only [BL] at *; rw [wr_id (by omega) (by omega)]; omega) | (intro h1 h2; exact Bool.and_eq_true_iff.2 ⟨h1, h2⟩) | (intros; simp_all; done))); conv => whnf)
        | (refine Or.inr (And.intro rfl ?_); first | (refine congrArg intV ?_) | (refine congrArg boolV ?_) | (refine tupII ?_ ?_) | (refine tupIII ?_ ?_ ?_) | (refine tupU ?_ ?_ ?_ ?_ ?_) | exact rfl))
      refine CallG.mk (Fn.mono (stOut _ _) ?_)
      rintro obs r ⟨rfl, rfl⟩
      rw [show (decide (s.cap < 0) || decide (s.cap > 100000)) = oB s.cap 100000 from rfl]
      cases e3 : oB s.cap 100000
      · conv => whnf
        repeat' (first
          | (refine NilG.mk fun bn hbn hbx => ?_; conv => whnf)
          | (refine Both.mk ?_ ?_ <;> conv => whnf)
          | exact trivial
          | (refine Br.mk (fun hb => ?_) (fun hb => ?_) <;> (first | (exfalso; revert hb; decide) | ((try simp only [BL] at hb) <;> (try simp only [DL] at hb) <;> conv => whnf)))
          | (refine And.intro ?_ ?_; (focus (first | exact id | exact rfl | exact trivial | (intro hg; first | exact hg | exact rfl | (simp; done) | (simp at hg ⊢; assumption)) | omega | decide | exact is2_c _ _ _ | exact is1_c _ _ | exact isS_c _ _ | exact isB_c _ _ | exact Nat.le_refl _ | assumption | exact mulLe (by decide) (by omega) | exact mulLe2 (by decide) (by omega) (by omega) | (intros; simp only [BL] at *; omega) | (intros; (try simp only [BL] at *); (try simp only [DL] at *); omega) | (intros; simp only [BL] at *; rw [wr_id (by omega) (by omega)]; omega) | (intro h1 h2; exact Bool.and_eq_true_iff.2 ⟨h1, h2⟩) | (intros; simp_all; done))); conv => whnf)
          | (refine Or.inr (And.intro rfl ?_); first | (refine congrArg intV ?_) | (refine congrArg boolV ?_) | (refine tupII ?_ ?_) | (refine tupIII ?_ ?_ ?_) | (refine tupU ?_ ?_ ?_ ?_ ?_) | exact rfl))
        refine And.intro (fun _ => ?_) (fun hg => absurd hg (by decide))
        conv => whnf
        repeat' (first
          | (refine NilG.mk fun bn hbn hbx => ?_; conv => whnf)
          | (refine Both.mk ?_ ?_ <;> conv => whnf)
          | exact trivial
          | (refine Br.mk (fun hb => ?_) (fun hb => ?_) <;> (first | (exfalso; revert hb; decide) | ((try simp only [BL] at hb) <;> (try simp only [DL] at hb) <;> conv => whnf)))
          | (refine And.intro ?_ ?_; (focus (first | exact id | exact rfl | exact trivial | (intro hg; first | exact hg | exact rfl | (simp; done) | (simp at hg ⊢; assumption)) | omega | decide | exact is2_c _ _ _ | exact is1_c _ _ | exact isS_c _ _ | exact isB_c _ _ | exact Nat.le_refl _ | assumption | exact mulLe (by decide) (by omega) | exact mulLe2 (by decide) (by omega) (by omega) | (intros; simp only [BL] at *; omega) | (intros; (try simp only [BL] at *); (try simp only [DL] at *); omega) | (intros; simp only [BL] at *; rw [wr_id (by omega) (by omega)]; omega) | (intro h1 h2; exact Bool.and_eq_true_iff.2 ⟨h1, h2⟩) | (intros; simp_all; done))); conv => whnf)
          | (refine Or.inr (And.intro rfl ?_); first | (refine congrArg intV ?_) | (refine congrArg boolV ?_) | (refine tupII ?_ ?_) | (refine tupIII ?_ ?_ ?_) | (refine tupU ?_ ?_ ?_ ?_ ?_) | exact rfl))
        refine CallG.mk (Fn.mono (stOut _ _) ?_)
        rintro obs r ⟨rfl, rfl⟩
        rw [show (decide (s.beg < 0) || decide (s.beg > s.cap)) = oB s.beg s.cap from rfl]
        cases e4 : oB s.beg s.cap
        · conv => whnf
          repeat' (first
            | (refine NilG.mk fun bn hbn hbx => ?_; conv => whnf)
            | (refine Both.mk ?_ ?_ <;> conv => whnf)
            | exact trivial
            | (refine Br.mk (fun hb => ?_) (fun hb => ?_) <;> (first | (exfalso; revert hb; decide) | ((try simp only [BL] at hb) <;> (try simp only [DL] at hb) <;> conv => whnf)))
            | (refine And.intro ?_ ?_; (focus (first | exact id | exact rfl | exact trivial | (intro hg; first | exact hg | exact rfl | (simp; done) | (simp at hg ⊢; assumption)) | omega | decide | exact is2_c _ _ _ | exact is1_c _ _ | exact isS_c _ _ | exact isB_c _ _ | exact Nat.le_refl _ | assumption | exact mulLe (by decide) (by omega) | exact mulLe2 (by decide) (by omega) (by omega) | (intros; simp only [BL] at *; omega) | (intros; (try simp only [BL] at *); (try simp only [DL] at *); omega) | (intros; simp only [BL] at *; rw [wr_id (by omega) (by omega)]; omega) | (intro h1 h2; exact Bool.and_eq_true_iff.2 ⟨h1, h2⟩) | (intros; simp_all; done))); conv => whnf)
            | (refine Or.inr (And.intro rfl ?_); first | (refine congrArg intV ?_) | (refine congrArg boolV ?_) | (refine tupII ?_ ?_) | (refine tupIII ?_ ?_ ?_) | (refine tupU ?_ ?_ ?_ ?_ ?_) | exact rfl))
          refine And.intro (fun _ => ?_) (fun hg => absurd hg (by decide))
          conv => whnf
          repeat' (first
            | (refine NilG.mk fun bn hbn hbx => ?_; conv => whnf)
            | (refine Both.mk ?_ ?_ <;> conv => whnf)
            | exact trivial
            | (refine Br.mk (fun hb => ?_) (fun hb => ?_) <;> (first | (exfalso; revert hb; decide) | ((try simp only [BL] at hb) <;> (try simp only [DL] at hb) <;> conv => whnf)))
            | (refine And.intro ?_ ?_; (focus (first | exact id | exact rfl | exact trivial | (intro hg; first | exact hg | exact rfl | (simp; done) | (simp at hg ⊢; assumption)) | omega | decide | exact is2_c _ _ _ | exact is1_c _ _ | exact isS_c _ _ | exact isB_c _ _ | exact Nat.le_refl _ | assumption | exact mulLe (by decide) (by omega) | exact mulLe2 (by decide) (by omega) (by omega) | (intros; simp only [BL] at *; omega) | (intros; (try simp only [BL] at *); (try simp only [DL] at *); omega) | (intros; simp only [BL] at *; rw [wr_id (by omega) (by omega)]; omega) | (intro h1 h2; exact Bool.and_eq_true_iff.2 ⟨h1, h2⟩) | (intros; simp_all; done))); conv => whnf)
            | (refine Or.inr (And.intro rfl ?_); first | (refine congrArg intV ?_) | (refine congrArg boolV ?_) | (refine tupII ?_ ?_) | (refine tupIII ?_ ?_ ?_) | (refine tupU ?_ ?_ ?_ ?_ ?_) | exact rfl))
          refine CallG.mk (Fn.mono (stOut _ _) ?_)
          rintro obs r ⟨rfl, rfl⟩
          rw [show (decide (s.en < 0) || decide (s.en > s.cap)) = oB s.en s.cap from rfl]
          cases e5 : oB s.en s.cap
          · conv => whnf
            repeat' (first
              | (refine NilG.mk fun bn hbn hbx => ?_; conv => whnf)
              | (refine Both.mk ?_ ?_ <;> conv => whnf)
              | exact trivial
              | (refine Br.mk (fun hb => ?_) (fun hb => ?_) <;> (first | (exfalso; revert hb; decide) | ((try simp only [BL] at hb) <;> (try simp only [DL] at hb) <;> conv => whnf)))
              | (refine And.intro ?_ ?_; (focus (first | exact id | exact rfl | exact trivial | (intro hg; first | exact hg | exact rfl | (simp; done) | (simp at hg ⊢; assumption)) | omega | decide | exact is2_c _ _ _ | exact is1_c _ _ | exact isS_c _ _ | exact isB_c _ _ | exact Nat.le_refl _ | assumption | exact mulLe (by decide) (by omega) | exact mulLe2 (by decide) (by omega) (by omega) | (intros; simp only [BL] at *; omega) | (intros; (try simp only [BL] at *); (try simp only [DL] at *); omega) | (intros; simp only [BL] at *; rw [wr_id (by omega) (by omega)]; omega) | (intro h1 h2; exact Bool.and_eq_true_iff.2 ⟨h1, h2⟩) | (intros; simp_all; done))); conv => whnf)
              | (refine Or.inr (And.intro rfl ?_); first | (refine congrArg intV ?_) | (refine congrArg boolV ?_) | (refine tupII ?_ ?_) | (refine tupIII ?_ ?_ ?_) | (refine tupU ?_ ?_ ?_ ?_ ?_) | exact rfl))
            rw [if_pos (stOk_of e1 e2 e3 e4 e5)]
          · conv => whnf
            repeat' (first
              | (refine NilG.mk fun bn hbn hbx => ?_; conv => whnf)
              | (refine Both.mk ?_ ?_ <;> conv => whnf)
              | exact trivial
              | (refine Br.mk (fun hb => ?_) (fun hb => ?_) <;> (first | (exfalso; revert hb; decide) | ((try simp only [BL] at hb) <;> (try simp only [DL] at hb) <;> conv => whnf)))
              | (refine And.intro ?_ ?_; (focus (first | exact id | exact rfl | exact trivial | (intro hg; first | exact hg | exact rfl | (simp; done) | (simp at hg ⊢; assumption)) | omega | decide | exact is2_c _ _ _ | exact is1_c _ _ | exact isS_c _ _ | exact isB_c _ _ | exact Nat.le_refl _ | assumption | exact mulLe (by decide) (by omega) | exact mulLe2 (by decide) (by omega) (by omega) | (intros; simp only [BL] at *; omega) | (intros; (try simp only [BL] at *); (try simp only [DL] at *); omega) | (intros; simp only [BL] at *; rw [wr_id (by omega) (by omega)]; omega) | (intro h1 h2; exact Bool.and_eq_true_iff.2 ⟨h1, h2⟩) | (intros; simp_all; done))); conv => whnf)
              | (refine Or.inr (And.intro rfl ?_); first | (refine congrArg intV ?_) | (refine congrArg boolV ?_) | (refine tupII ?_ ?_) | (refine tupIII ?_ ?_ ?_) | (refine tupU ?_ ?_ ?_ ?_ ?_) | exact rfl))
            rw [if_neg (fun h => stOk_no h (.inr (.inr (.inr (.inr e5)))))]
        · conv => whnf
          repeat' (first
            | (refine NilG.mk fun bn hbn hbx => ?_; conv => whnf)
            | (refine Both.mk ?_ ?_ <;> conv => whnf)
            | exact trivial
            | (refine Br.mk (fun hb => ?_) (fun hb => ?_) <;> (first | (exfalso; revert hb; decide) | ((try simp only [BL] at hb) <;> (try simp only [DL] at hb) <;> conv => whnf)))
            | (refine And.intro ?_ ?_; (focus (first | exact id | exact rfl | exact trivial | (intro hg; first | exact hg | exact rfl | (simp; done) | (simp at hg ⊢; assumption)) | omega | decide | exact is2_c _ _ _ | exact is1_c _ _ | exact isS_c _ _ | exact isB_c _ _ | exact Nat.le_refl _ | assumption | exact mulLe (by decide) (by omega) | exact mulLe2 (by decide) (by omega) (by omega) | (intros; simp only [BL] at *; omega) | (intros; (try simp only [BL] at *); (try simp only [DL] at *); omega) | (intros; simp only [BL] at *; rw [wr_id (by omega) (by omega)]; omega) | (intro h1 h2; exact Bool.and_eq_true_iff.2 ⟨h1, h2⟩) | (intros; simp_all; done))); conv => whnf)
            | (refine Or.inr (And.intro rfl ?_); first | (refine congrArg intV ?_) | (refine congrArg boolV ?_) | (refine tupII ?_ ?_) | (refine tupIII ?_ ?_ ?_) | (refine tupU ?_ ?_ ?_ ?_ ?_) | exact rfl))
          intro _
          conv => whnf
          repeat' (first
            | (refine NilG.mk fun bn hbn hbx => ?_; conv => whnf)
            | (refine Both.mk ?_ ?_ <;> conv => whnf)
            | exact trivial
            | (refine Br.mk (fun hb => ?_) (fun hb => ?_) <;> (first | (exfalso; revert hb; decide) | ((try simp only [BL] at hb) <;> (try simp only [DL] at hb) <;> conv => whnf)))
            | (refine And.intro ?_ ?_; (focus (first | exact id | exact rfl | exact trivial | (intro hg; first | exact hg | exact rfl | (simp; done) | (simp at hg ⊢; assumption)) | omega | decide | exact is2_c _ _ _ | exact is1_c _ _ | exact isS_c _ _ | exact isB_c _ _ | exact Nat.le_refl _ | assumption | exact mulLe (by decide) (by omega) | exact mulLe2 (by decide) (by omega) (by omega) | (intros; simp only [BL] at *; omega) | (intros; (try simp only [BL] at *); (try simp only [DL] at *); omega) | (intros; simp only [BL] at *; rw [wr_id (by omega) (by omega)]; omega) | (intro h1 h2; exact Bool.and_eq_true_iff.2 ⟨h1, h2⟩) | (intros; simp_all; done))); conv => whnf)
            | (refine Or.inr (And.intro rfl ?_); first | (refine congrArg intV ?_) | (refine congrArg boolV ?_) | (refine tupII ?_ ?_) | (refine tupIII ?_ ?_ ?_) | (refine tupU ?_ ?_ ?_ ?_ ?_) | exact rfl))
          rw [if_neg (fun h => stOk_no h (.inr (.inr (.inr (.inl e4)))))]
      · conv => whnf
        repeat' (first
          | (refine NilG.mk fun bn hbn hbx => ?_; conv => whnf)
          | (refine Both.mk ?_ ?_ <;> conv => whnf)
          | exact trivial
          | (refine Br.mk (fun hb => ?_) (fun hb => ?_) <;> (first | (exfalso; revert hb; decide) | ((try simp only [BL] at hb) <;> (try simp only [DL] at hb) <;> conv => whnf)))
          | (refine And.intro ?_ ?_; (focus (first | exact id | exact rfl | exact trivial | (intro hg; first | exact hg | exact rfl | (simp; done) | (simp at hg ⊢; assumption)) | omega | decide | exact is2_c _ _ _ | exact is1_c _ _ | exact isS_c _ _ | exact isB_c _ _ | exact Nat.le_refl _ | assumption | exact mulLe (by decide) (by omega) | exact mulLe2 (by decide) (by omega) (by omega) | (intros; simp only [BL] at *; omega) | (intros; (try simp only [BL] at *); (try simp only [DL] at *); omega) | (intros; simp only [BL] at *; rw [wr_id (by omega) (by omega)]; omega) | (intro h1 h2; exact Bool.and_eq_true_iff.2 ⟨h1, h2⟩) | (intros; simp_all; done))); conv => whnf)
          | (refine Or.inr (And.intro rfl ?_); first | (refine congrArg intV ?_) | (refine congrArg boolV ?_) | (refine tupII ?_ ?_) | (refine tupIII ?_ ?_ ?_) | (refine tupU ?_ ?_ ?_ ?_ ?_) | exact rfl))
        intro _
        conv => whnf
        repeat' (first
          | (refine NilG.mk fun bn hbn hbx => ?_; conv => whnf)
          | (refine Both.mk ?_ ?_ <;> conv => whnf)
          | exact trivial
          | (refine Br.mk (fun hb => ?_) (fun hb => ?_) <;> (first | (exfalso; revert hb; decide) | ((try simp only [BL] at hb) <;> (try simp only [DL] at hb) <;> conv => whnf)))
          | (refine And.intro ?_ ?_; (focus (first | exact id | exact rfl | exact trivial | (intro hg; first | exact hg | exact rfl | (simp; done) | (simp at hg ⊢; assumption)) | omega | decide | exact is2_c _ _ _ | exact is1_c _ _ | exact isS_c _ _ | exact isB_c _ _ | exact Nat.le_refl _ | assumption | exact mulLe (by decide) (by omega) | exact mulLe2 (by decide) (by omega) (by omega) | (intros; simp only [BL] at *; omega) | (intros; (try simp only [BL] at *); (try simp only [DL] at *); omega) | (intros; simp only [BL] at *; rw [wr_id (by omega) (by omega)]; omega) | (intro h1 h2; exact Bool.and_eq_true_iff.2 ⟨h1, h2⟩) | (intros; simp_all; done))); conv => whnf)
          | (refine Or.inr (And.intro rfl ?_); first | (refine congrArg intV ?_) | (refine congrArg boolV ?_) | (refine tupII ?_ ?_) | (refine tupIII ?_ ?_ ?_) | (refine tupU ?_ ?_ ?_ ?_ ?_) | exact rfl))
        intro _
        conv => whnf
        repeat' (first
          | (refine NilG.mk fun bn hbn hbx => ?_; conv => whnf)
          | (refine Both.mk ?_ ?_ <;> conv => whnf)
          | exact trivial
          | (refine Br.mk (fun hb => ?_) (fun hb => ?_) <;> (first | (exfalso; revert hb; decide) | ((try simp only [BL] at hb) <;> (try simp only [DL] at hb) <;> conv => whnf)))
          | (refine And.intro ?_ ?_; (focus (first | exact id | exact rfl | exact trivial | (intro hg; first | exact hg | exact rfl | (simp; done) | (simp at hg ⊢; assumption)) | omega | decide | exact is2_c _ _ _ | exact is1_c _ _ | exact isS_c _ _ | exact isB_c _ _ | exact Nat.le_refl _ | assumption | exact mulLe (by decide) (by omega) | exact mulLe2 (by decide) (by omega) (by omega) | (intros; simp only [BL] at *; omega) | (intros; (try simp only [BL] at *); (try simp only [DL] at *); omega) | (intros; simp only [BL] at *; rw [wr_id (by omega) (by omega)]; omega) | (intro h1 h2; exact Bool.and_eq_true_iff.2 ⟨h1, h2⟩) | (intros; simp_all; done))); conv => whnf)
          | (refine Or.inr (And.intro rfl ?_); first | (refine congrArg intV ?_) | (refine congrArg boolV ?_) | (refine tupII ?_ ?_) | (refine tupIII ?_ ?_ ?_) | (refine tupU ?_ ?_ ?_ ?_ ?_) | exact rfl))
        rw [if_neg (fun h => stOk_no h (.inr (.inr (.inl e3))))]
    · conv => whnf
      repeat' (first
        | (refine NilG.mk fun bn hbn hbx => ?_; conv => whnf)
        | (refine Both.mk ?_ ?_ <;> conv => whnf)
        | exact trivial
        | (refine Br.mk (fun hb => ?_) (fun hb => ?_) <;> (first | (exfalso; revert hb; decide) | ((try simp only [BL] at hb) <;> (try simp only [DL] at hb) <;> conv => whnf)))
        | (refine And.intro ?_ ?_; (focus (first | exact id | exact rfl | exact trivial | (intro hg; first | exact hg | exact rfl | (simp; done) | (simp at hg ⊢; assumption)) | omega | decide | exact is2_c _ _ _ | exact is1_c _ _ | exact isS_c _ _ | exact isB_c _ _ | exact Nat.le_refl _ | assumption | exact mulLe (by decide) (by omega) | exact mulLe2 (by decide) (by omega) (by omega) | (intros; simp only [BL] at *; omega) | (intros; (try simp only [BL] at *); (try simp only [DL] at *); omega) | (intros; simp only [BL] at *; rw [wr_id (by omega) (by omega)]; omega) | (intro h1 h2; exact Bool.and_eq_true_iff.2 ⟨h1, h2⟩) | (intros; simp_all; done))); conv => whnf)
        | (refine Or.inr (And.intro rfl ?_); first | (refine congrArg intV ?_) | (refine congrArg boolV ?_) | (refine tupII ?_ ?_) | (refine tupIII ?_ ?_ ?_) | (refine tupU ?_ ?_ ?_ ?_ ?_) | exact rfl))
      intro _
      conv => whnf
      repeat' (first
        | (refine NilG.mk fun bn hbn hbx => ?_; conv => whnf)
        | (refine Both.mk ?_ ?_ <;> conv => whnf)
        | exact trivial
        | (refine Br.mk (fun hb => ?_) (fun hb => ?_) <;> (first | (exfalso; revert hb; decide) | ((try simp only [BL] at hb) <;> (try simp only [DL] at hb) <;> conv => whnf)))
        | (refine And.intro ?_ ?_; (focus (first | exact id | exact rfl | exact trivial | (intro hg; first | exact hg | exact rfl | (simp; done) | (simp at hg ⊢; assumption)) | omega | decide | exact is2_c _ _ _ | exact is1_c _ _ | exact isS_c _ _ | exact isB_c _ _ | exact Nat.le_refl _ | assumption | exact mulLe (by decide) (by omega) | exact mulLe2 (by decide) (by omega) (by omega) | (intros; simp only [BL] at *; omega) | (intros; (try simp only [BL] at *); (try simp only [DL] at *); omega) | (intros; simp only [BL] at *; rw [wr_id (by omega) (by omega)]; omega) | (intro h1 h2; exact Bool.and_eq_true_iff.2 ⟨h1, h2⟩) | (intros; simp_all; done))); conv => whnf)
        | (refine Or.inr (And.intro rfl ?_); first | (refine congrArg intV ?_) | (refine congrArg boolV ?_) | (refine tupII ?_ ?_) | (refine tupIII ?_ ?_ ?_) | (refine tupU ?_ ?_ ?_ ?_ ?_) | exact rfl))
      intro _
      conv => whnf
      repeat' (first
        | (refine NilG.mk fun bn hbn hbx => ?_; conv => whnf)
        | (refine Both.mk ?_ ?_ <;> conv => whnf)
        | exact trivial
        | (refine Br.mk (fun hb => ?_) (fun hb => ?_) <;> (first | (exfalso; revert hb; decide) | ((try simp only [BL] at hb) <;> (try simp only [DL] at hb) <;> conv => whnf)))
        | (refine And.intro ?_ ?_; (focus (first | exact id | exact rfl | exact trivial | (intro hg; first | exact hg | exact rfl | (simp; done) | (simp at hg ⊢; assumption)) | omega | decide | exact is2_c _ _ _ | exact is1_c _ _ | exact isS_c _ _ | exact isB_c _ _ | exact Nat.le_refl _ | assumption | exact mulLe (by decide) (by omega) | exact mulLe2 (by decide) (by omega) (by omega) | (intros; simp only [BL] at *; omega) | (intros; (try simp only [BL] at *); (try simp only [DL] at *); omega) | (intros; simp only [BL] at *; rw [wr_id (by omega) (by omega)]; omega) | (intro h1 h2; exact Bool.and_eq_true_iff.2 ⟨h1, h2⟩) | (intros; simp_all; done))); conv => whnf)
        | (refine Or.inr (And.intro rfl ?_); first | (refine congrArg intV ?_) | (refine congrArg boolV ?_) | (refine tupII ?_ ?_) | (refine tupIII ?_ ?_ ?_) | (refine tupU ?_ ?_ ?_ ?_ ?_) | exact rfl))
      intro _
      conv => whnf
      repeat' (first
        | (refine NilG.mk fun bn hbn hbx => ?_; conv => whnf)
        | (refine Both.mk ?_ ?_ <;> conv => whnf)
        | exact trivial
        | (refine Br.mk (fun hb => ?_) (fun hb => ?_) <;> (first | (exfalso; revert hb; decide) | ((try simp only [BL] at hb) <;> (try simp only [DL] at hb) <;> conv => whnf)))
        | (refine And.intro ?_ ?_; (focus (first | exact id | exact rfl | exact trivial | (intro hg; first | exact hg | exact rfl | (simp; done) | (simp at hg ⊢; assumption)) | omega | decide | exact is2_c _ _ _ | exact is1_c _ _ | exact isS_c _ _ | exact isB_c _ _ | exact Nat.le_refl _ | assumption | exact mulLe (by decide) (by omega) | exact mulLe2 (by decide) (by omega) (by omega) | (intros; simp only [BL] at *; omega) | (intros; (try simp only [BL] at *); (try simp only [DL] at *); omega) | (intros; simp only [BL] at *; rw [wr_id (by omega) (by omega)]; omega) | (intro h1 h2; exact Bool.and_eq_true_iff.2 ⟨h1, h2⟩) | (intros; simp_all; done))); conv => whnf)
        | (refine Or.inr (And.intro rfl ?_); first | (refine congrArg intV ?_) | (refine congrArg boolV ?_) | (refine tupII ?_ ?_) | (refine tupIII ?_ ?_ ?_) | (refine tupU ?_ ?_ ?_ ?_ ?_) | exact rfl))
      rw [if_neg (fun h => stOk_no h (.inr (.inl e2)))]
  · conv => whnf
    repeat' (first
      | (refine NilG.mk fun bn hbn hbx => ?_; conv => whnf)
      | (refine Both.mk ?_ ?_ <;> conv => whnf)
      | exact trivial
      | (refine Br.mk (fun hb => ?_) (fun hb => ?_) <;> (first | (exfalso; revert hb; decide) | ((try simp only [BL] at hb) <;> (try simp only [DL] at hb) <;> conv => whnf)))
      | (refine And.intro ?_ ?_; (focus (first | exact id | exact rfl | exact trivial | (intro hg; first | exact hg | exact rfl | (simp; done) | (simp at hg ⊢; assumption)) | omega | decide | exact is2_c _ _ _ | exact is1_c _ _ | exact isS_c _ _ | exact isB_c _ _ | exact Nat.le_refl _ | assumption | exact mulLe (by decide) (by omega) | exact mulLe2 (by decide) (by omega) (by omega) | (intros; simp only [BL] at *; omega) | (intros; (try simp only [BL] at *); (try simp only [DL] at *); omega) | (intros; simp only [BL] at *; rw [wr_id (by omega) (by omega)]; omega) | (intro h1 h2; exact Bool.and_eq_true_iff.2 ⟨h1, h2⟩) | (intros; simp_all; done))); conv => whnf)
      | (refine Or.inr (And.intro rfl ?_); first | (refine congrArg intV ?_) | (refine congrArg boolV ?_) | (refine tupII ?_ ?_) | (refine tupIII ?_ ?_ ?_) | (refine tupU ?_ ?_ ?_ ?_ ?_) | exact rfl))
    intro _
    conv => whnf
    repeat' (first
      | (refine NilG.mk fun bn hbn hbx => ?_; conv => whnf)
      | (refine Both.mk ?_ ?_ <;> conv => whnf)
      | exact trivial
      | (refine Br.mk (fun hb => ?_) (fun hb => ?_) <;> (first | (exfalso; revert hb; decide) | ((try simp only [BL] at hb) <;> (try simp only [DL] at hb) <;> conv => whnf)))
      | (refine And.intro ?_ ?_; (focus (first | exact id | exact rfl | exact trivial | (intro hg; first | exact hg | exact rfl | (simp; done) | (simp at hg ⊢; assumption)) | omega | decide | exact is2_c _ _ _ | exact is1_c _ _ | exact isS_c _ _ | exact isB_c _ _ | exact Nat.le_refl _ | assumption | exact mulLe (by decide) (by omega) | exact mulLe2 (by decide) (by omega) (by omega) | (intros; simp only [BL] at *; omega) | (intros; (try simp only [BL] at *); (try simp only [DL] at *); omega) | (intros; simp only [BL] at *; rw [wr_id (by omega) (by omega)]; omega) | (intro h1 h2; exact Bool.and_eq_true_iff.2 ⟨h1, h2⟩) | (intros; simp_all; done))); conv => whnf)
      | (refine Or.inr (And.intro rfl ?_); first | (refine congrArg intV ?_) | (refine congrArg boolV ?_) | (refine tupII ?_ ?_) | (refine tupIII ?_ ?_ ?_) | (refine tupU ?_ ?_ ?_ ?_ ?_) | exact rfl))
    intro _
    conv => whnf
    repeat' (first
      | (refine NilG.mk fun bn hbn hbx => ?_; conv => whnf)
      | (refine Both.mk ?_ ?_ <;> conv => whnf)
      | exact trivial
      | (refine Br.mk (fun hb => ?_) (fun hb => ?_) <;> (first | (exfalso; revert hb; decide) | ((try simp only [BL] at hb) <;> (try simp only [DL] at hb) <;> conv => whnf)))
      | (refine And.intro ?_ ?_; (focus (first | exact id | exact rfl | exact trivial | (intro hg; first | exact hg | exact rfl | (simp; done) | (simp at hg ⊢; assumption)) | omega | decide | exact is2_c _ _ _ | exact is1_c _ _ | exact isS_c _ _ | exact isB_c _ _ | exact Nat.le_refl _ | assumption | exact mulLe (by decide) (by omega) | exact mulLe2 (by decide) (by omega) (by omega) | (intros; simp only [BL] at *; omega) | (intros; (try simp only [BL] at *); (try simp only [DL] at *); omega) | (intros; simp only [BL] at *; rw [wr_id (by omega) (by omega)]; omega) | (intro h1 h2; exact Bool.and_eq_true_iff.2 ⟨h1, h2⟩) | (intros; simp_all; done))); conv => whnf)
      | (refine Or.inr (And.intro rfl ?_); first | (refine congrArg intV ?_) | (refine congrArg boolV ?_) | (refine tupII ?_ ?_) | (refine tupIII ?_ ?_ ?_) | (refine tupU ?_ ?_ ?_ ?_ ?_) | exact rfl))
    intro _
    conv => whnf
    repeat' (first
      | (refine NilG.mk fun bn hbn hbx => ?_; conv => whnf)
      | (refine Both.mk ?_ ?_ <;> conv => whnf)
      | exact trivial
      | (refine Br.mk (fun hb => ?_) (fun hb => ?_) <;> (first | (exfalso; revert hb; decide) | ((try simp only [BL] at hb) <;> (try simp only [DL] at hb) <;> conv => whnf)))
      | (refine And.intro ?_ ?_; (focus (first | exact id | exact rfl | exact trivial | (intro hg; first | exact hg | exact rfl | (simp; done) | (simp at hg ⊢; assumption)) | omega | decide | exact is2_c _ _ _ | exact is1_c _ _ | exact isS_c _ _ | exact isB_c _ _ | exact Nat.le_refl _ | assumption | exact mulLe (by decide) (by omega) | exact mulLe2 (by decide) (by omega) (by omega) | (intros; simp only [BL] at *; omega) | (intros; (try simp only [BL] at *); (try simp only [DL] at *); omega) | (intros; simp only [BL] at *; rw [wr_id (by omega) (by omega)]; omega) | (intro h1 h2; exact Bool.and_eq_true_iff.2 ⟨h1, h2⟩) | (intros; simp_all; done))); conv => whnf)
      | (refine Or.inr (And.intro rfl ?_); first | (refine congrArg intV ?_) | (refine congrArg boolV ?_) | (refine tupII ?_ ?_) | (refine tupIII ?_ ?_ ?_) | (refine tupU ?_ ?_ ?_ ?_ ?_) | exact rfl))
    intro _
    conv => whnf
    repeat' (first
      | (refine NilG.mk fun bn hbn hbx => ?_; conv => whnf)
      | (refine Both.mk ?_ ?_ <;> conv => whnf)
      | exact trivial
      | (refine Br.mk (fun hb => ?_) (fun hb => ?_) <;> (first | (exfalso; revert hb; decide) | ((try simp only [BL] at hb) <;> (try simp only [DL] at hb) <;> conv => whnf)))
      | (refine And.intro ?_ ?_; (focus (first | exact id | exact rfl | exact trivial | (intro hg; first | exact hg | exact rfl | (simp; done) | (simp at hg ⊢; assumption)) | omega | decide | exact is2_c _ _ _ | exact is1_c _ _ | exact isS_c _ _ | exact isB_c _ _ | exact Nat.le_refl _ | assumption | exact mulLe (by decide) (by omega) | exact mulLe2 (by decide) (by omega) (by omega) | (intros; simp only [BL] at *; omega) | (intros; (try simp only [BL] at *); (try simp only [DL] at *); omega) | (intros; simp only [BL] at *; rw [wr_id (by omega) (by omega)]; omega) | (intro h1 h2; exact Bool.and_eq_true_iff.2 ⟨h1, h2⟩) | (intros; simp_all; done))); conv => whnf)
      | (refine Or.inr (And.intro rfl ?_); first | (refine congrArg intV ?_) | (refine congrArg boolV ?_) | (refine tupII ?_ ?_) | (refine tupIII ?_ ?_ ?_) | (refine tupU ?_ ?_ ?_ ?_ ?_) | exact rfl))
    rw [if_neg (fun h => stOk_no h (.inl e1))]
theorem stLine0 (lo hi sl : Int) : Fn Try.prog 107 [intV lo, intV hi, intV sl] (fun obs r => obs = [] ∧ ((lo < hi ∧ ∃ f, r = .agg [intV lo, intV (IntKind.i64.wrap (lo * sl)), .c (.sl 2 1 f)] ∧ Sh 1 2 f (c2 (fun _ => IntKind.i64.wrap (hi - lo)) (fun _ => sl))) ∨ (¬ lo < hi ∧ r = .agg [intV lo, intV (IntKind.i64.wrap (lo * sl)), .c (.v (.slice none 0 0))]))) := by
  refine fn_of_wpx (O := lex) tab_ok (Γ := fun _ => none) (fun _ _ h => by cases h) mixed Try.func107 (by kernel_rfl) rfl rfl rfl (by simp [Try.ntmps107]) (by kernel_rfl) ?_
  conv => whnf
  repeat' (first
    | (refine NilG.mk fun bn hbn hbx => ?_; conv => whnf)
    | (refine Both.mk ?_ ?_ <;> conv => whnf)
    | exact trivial
    | (refine Br.mk (fun hb => ?_) (fun hb => ?_) <;> (first | (exfalso; revert hb; decide) | ((try simp only [BL] at hb) <;> (try simp only [DL] at hb) <;> conv => whnf)))
    | (refine And.intro ?_ ?_; (focus (first | exact id | exact rfl | exact trivial | (intro hg; first | exact hg | exact rfl | (simp; done) | (simp at hg ⊢; assumption)) | omega | decide | exact is2_c _ _ _ | exact is1_c _ _ | exact isS_c _ _ | exact isB_c _ _ | exact Nat.le_refl _ | assumption | exact mulLe (by decide) (by omega) | exact mulLe2 (by decide) (by omega) (by omega) | (intros; simp only [BL] at *; omega) | (intros; (try simp only [BL] at *); (try simp only [DL] at *); omega) | (intros; simp only [BL] at *; rw [wr_id (by omega) (by omega)]; omega) | (intro h1 h2; exact Bool.and_eq_true_iff.2 ⟨h1, h2⟩) | (intros; simp_all; done))); conv => whnf)
    | (refine Or.inr (And.intro rfl ?_); first | (refine congrArg intV ?_) | (refine congrArg boolV ?_) | (refine tupII ?_ ?_) | (refine tupIII ?_ ?_ ?_) | (refine tupU ?_ ?_ ?_ ?_ ?_) | exact rfl))
  · refine .inr ⟨rfl, .inl ⟨hb, _, rfl, fun k hk j hj => ?_⟩⟩
    obtain rfl : k = 0 := by omega
    match j, hj with
    | 0, _ => rfl
    | 1, _ => rfl
  · exact .inr ⟨rfl, .inr ⟨hb, rfl⟩⟩
theorem stLine (lo hi sl : Int) (h : lo ≤ hi) (h1 : -1000000 ≤ lo) (h2 : hi ≤ 1000000) (h3 : -1000000 ≤ sl ∧ sl ≤ 1000000) : Fn1 Try.prog 107 [intV lo, intV hi, intV sl] (lineC lo hi sl).av := by
  have hm : -1000000000000 ≤ lo * sl ∧ lo * sl ≤ 1000000000000 := by
    rcases Int.le_total 0 lo with h0 | h0
    · have := mulB (a := lo) (b := sl) (A := 1000000) (B := 1000000) (by omega) (by omega) (by omega) (by omega) (by omega)
      omega
    · have := mulB (a := -lo) (b := sl) (A := 1000000) (B := 1000000) (by omega) (by omega) (by omega) (by omega) (by omega)
      rw [Int.neg_mul] at this
      omega
  have w1 : IntKind.i64.wrap (lo * sl) = lo * sl := wr_id (by omega) (by omega)
  have w2 : IntKind.i64.wrap (hi - lo) = hi - lo := wr_id (by omega) (by omega)
  refine (stLine0 lo hi sl).res fun obs r ⟨g1, g2⟩ => ⟨_, ⟨g1, rfl⟩, ?_⟩
  rw [w1, w2] at g2
  show Le1 r (.agg [intV lo, intV (lo * sl), .c (.sl 2 (if lo < hi then 1 else 0) (c2 (fun _ => hi - lo) (fun _ => sl)))])
  rcases g2 with ⟨g2, f, rfl, g3⟩ | ⟨g2, rfl⟩
  · rw [if_pos g2]
    exact Le1.agg (Le.cons (Le1.refl _) (Le.cons (Le1.refl _) (Le.cons (Le1.sl g3) Le.nil)))
  · rw [if_neg g2]
    exact Le1.agg (Le.cons (Le1.refl _) (Le.cons (Le1.refl _) (Le.cons Le1.nil Le.nil)))
theorem stPrF (p : Int) : Fn1 Try.prog 106 [intV p] (boolV (decide (p < -1000000) || decide (p > 1000000))) := by
  refine fn_of_wpx (O := lex) tab_ok (Γ := fun _ => none) (fun _ _ h => by cases h) mixed Try.func106 (by kernel_rfl) rfl rfl rfl (by simp [Try.ntmps106]) (by kernel_rfl) ?_
  conv => whnf
  repeat' (first
    | (refine NilG.mk fun bn hbn hbx => ?_; conv => whnf)
    | (refine Both.mk ?_ ?_ <;> conv => whnf)
    | exact trivial
    | (refine Br.mk (fun hb => ?_) (fun hb => ?_) <;> (first | (exfalso; revert hb; decide) | ((try simp only [BL] at hb) <;> (try simp only [DL] at hb) <;> conv => whnf)))
    | (refine And.intro ?_ ?_; (focus (first | exact id | exact rfl | exact trivial | (intro hg; first | exact hg | exact rfl | (simp; done) | (simp at hg ⊢; assumption)) | omega | decide | exact is2_c _ _ _ | exact is1_c _ _ | exact isS_c _ _ | exact isB_c _ _ | exact Nat.le_refl _ | assumption | exact mulLe (by decide) (by omega) | exact mulLe2 (by decide) (by omega) (by omega) | (intros; simp only [BL] at *; omega) | (intros; (try simp only [BL] at *); (try simp only [DL] at *); omega) | (intros; simp only [BL] at *; rw [wr_id (by omega) (by omega)]; omega) | (intro h1 h2; exact Bool.and_eq_true_iff.2 ⟨h1, h2⟩) | (intros; simp_all; done))); conv => whnf)
    | (refine Or.inr (And.intro rfl ?_); first | (refine congrArg intV ?_) | (refine congrArg boolV ?_) | (refine tupII ?_ ?_) | (refine tupIII ?_ ?_ ?_) | (refine tupU ?_ ?_ ?_ ?_ ?_) | exact rfl))
  · rfl
def prB1 (pr : Nat → Int) (k : Nat) : Bool := decide (pr k < -1000000) || decide (pr k > 1000000)
theorem stPrI (m : Nat) (pr : Nat → Int) (hm : m ≤ maxLen) : Fn1 Try.prog 109 [.c (.sl 1 m (c1 pr)), .fn 106 []] (intV (fidx (prB1 pr) m)) := by
  refine fn_of_wpx (O := lex) tab_ok (Γ := fun _ => none) (fun _ _ h => by cases h) mixed Try.func109 (by kernel_rfl) rfl rfl rfl (by simp [Try.ntmps109]) (by kernel_rfl) ?_
  have hn' : m ≤ 9223372036854775807 := hm
  conv => whnf
  repeat' (first
    | (refine NilG.mk fun bn hbn hbx => ?_; conv => whnf)
    | (refine Both.mk ?_ ?_ <;> conv => whnf)
    | exact trivial
    | (refine Br.mk (fun hb => ?_) (fun hb => ?_) <;> (first | (exfalso; revert hb; decide) | ((try simp only [BL] at hb) <;> (try simp only [DL] at hb) <;> conv => whnf)))
    | (refine And.intro ?_ ?_; (focus (first | exact id | exact rfl | exact trivial | (intro hg; first | exact hg | exact rfl | (simp; done) | (simp at hg ⊢; assumption)) | omega | decide | exact is2_c _ _ _ | exact is1_c _ _ | exact isS_c _ _ | exact isB_c _ _ | exact Nat.le_refl _ | assumption | exact mulLe (by decide) (by omega) | exact mulLe2 (by decide) (by omega) (by omega) | (intros; simp only [BL] at *; omega) | (intros; (try simp only [BL] at *); (try simp only [DL] at *); omega) | (intros; simp only [BL] at *; rw [wr_id (by omega) (by omega)]; omega) | (intro h1 h2; exact Bool.and_eq_true_iff.2 ⟨h1, h2⟩) | (intros; simp_all; done))); conv => whnf)
    | (refine Or.inr (And.intro rfl ?_); first | (refine congrArg intV ?_) | (refine congrArg boolV ?_) | (refine tupII ?_ ?_) | (refine tupIII ?_ ?_ ?_) | (refine tupU ?_ ?_ ?_ ?_ ?_) | exact rfl))
  refine sem_loop tab_ok gamN1_ok mixed (by kernel_rfl) (O := lex) (fun i : Nat => ⟨[(8, intV i), (7, intV m), (0, .c (.sl 1 m (c1 pr))), (1, .fn 106 [])], []⟩) (fun i => i ≤ m ∧ ∀ k, k < i → prB1 pr k = false) (fun i => m - i) ⟨0, [], ⟨Nat.zero_le _, fun k hk => absurd hk (Nat.not_lt_zero _)⟩, ?_⟩ fun i hi => ?_
  · refine Sub.of ?_ ?_ ?_
    repeat' (first | (refine And.intro ?_ ?_) | exact trivial | exact fun _ _ _ => hsc _ _ | (exact congrArg intV (by first | with_reducible rfl | with_reducible assumption)) | exact (rfl : AV.idsLt _ _ = true) | exact (rfl : _ = AV.ren _ (.own _)) | exact (rfl : _ = AV.ren _ (.fn _ _)) | exact (rfl : _ = AV.ren _ (.gh _)) | (exact congrArg intV (by assumption)) | (refine congrArg intV ((wr_id (by omega) (by omega)).trans (by omega))) | exact rfl | (simp only [Int.toNat_natCast, Int.toNat_zero, Nat.sub_zero, Nat.zero_add]; first | exact rfl | done) | exact all0 | exact fun h => Bool.noConfusion h | exact fun _ _ _ _ => rfl | omega)
  conv => whnf
  repeat' (first
    | (refine NilG.mk fun bn hbn hbx => ?_; conv => whnf)
    | (refine Both.mk ?_ ?_ <;> conv => whnf)
    | exact trivial
    | (refine Br.mk (fun hb => ?_) (fun hb => ?_) <;> (first | (exfalso; revert hb; decide) | ((try simp only [BL] at hb) <;> (try simp only [DL] at hb) <;> conv => whnf)))
    | (refine And.intro ?_ ?_; (focus (first | exact id | exact rfl | exact trivial | (intro hg; first | exact hg | exact rfl | (simp; done) | (simp at hg ⊢; assumption)) | omega | decide | exact is2_c _ _ _ | exact is1_c _ _ | exact isS_c _ _ | exact isB_c _ _ | exact Nat.le_refl _ | assumption | exact mulLe (by decide) (by omega) | exact mulLe2 (by decide) (by omega) (by omega) | (intros; simp only [BL] at *; omega) | (intros; (try simp only [BL] at *); (try simp only [DL] at *); omega) | (intros; simp only [BL] at *; rw [wr_id (by omega) (by omega)]; omega) | (intro h1 h2; exact Bool.and_eq_true_iff.2 ⟨h1, h2⟩) | (intros; simp_all; done))); conv => whnf)
    | (refine Or.inr (And.intro rfl ?_); first | (refine congrArg intV ?_) | (refine congrArg boolV ?_) | (refine tupII ?_ ?_) | (refine tupIII ?_ ?_ ?_) | (refine tupU ?_ ?_ ?_ ?_ ?_) | exact rfl))
  · refine CallG.mk (Fn.mono (stPrF _) ?_)
    rintro obs r ⟨rfl, rfl⟩
    conv => whnf
    repeat' (first
      | (refine NilG.mk fun bn hbn hbx => ?_; conv => whnf)
      | (refine Both.mk ?_ ?_ <;> conv => whnf)
      | exact trivial
      | (refine Br.mk (fun hb => ?_) (fun hb => ?_) <;> (first | (exfalso; revert hb; decide) | ((try simp only [BL] at hb) <;> (try simp only [DL] at hb) <;> conv => whnf)))
      | (refine And.intro ?_ ?_; (focus (first | exact id | exact rfl | exact trivial | (intro hg; first | exact hg | exact rfl | (simp; done) | (simp at hg ⊢; assumption)) | omega | decide | exact is2_c _ _ _ | exact is1_c _ _ | exact isS_c _ _ | exact isB_c _ _ | exact Nat.le_refl _ | assumption | exact mulLe (by decide) (by omega) | exact mulLe2 (by decide) (by omega) (by omega) | (intros; simp only [BL] at *; omega) | (intros; (try simp only [BL] at *); (try simp only [DL] at *); omega) | (intros; simp only [BL] at *; rw [wr_id (by omega) (by omega)]; omega) | (intro h1 h2; exact Bool.and_eq_true_iff.2 ⟨h1, h2⟩) | (intros; simp_all; done))); conv => whnf)
      | (refine Or.inr (And.intro rfl ?_); first | (refine congrArg intV ?_) | (refine congrArg boolV ?_) | (refine tupII ?_ ?_) | (refine tupIII ?_ ?_ ?_) | (refine tupU ?_ ?_ ?_ ?_ ?_) | exact rfl))
    · refine (fidx_at hi.2 ?_ (by omega)).symm
      simp only [prB1, BL]
      exact hb
    · refine ⟨i + 1, [], ⟨by omega, fun k hk => by
            rcases Nat.lt_succ_iff_lt_or_eq.1 hk with h | rfl
            · exact hi.2 k h
            · simp only [prB1, BL]; exact hb⟩, by omega, ?_⟩
      refine Sub.of ?_ ?_ ?_
      repeat' (first | (refine And.intro ?_ ?_) | exact trivial | exact fun _ _ _ => hsc _ _ | (exact congrArg intV (by first | with_reducible rfl | with_reducible assumption)) | exact (rfl : AV.idsLt _ _ = true) | exact (rfl : _ = AV.ren _ (.own _)) | exact (rfl : _ = AV.ren _ (.fn _ _)) | exact (rfl : _ = AV.ren _ (.gh _)) | (exact congrArg intV (by assumption)) | (refine congrArg intV ((wr_id (by omega) (by omega)).trans (by omega))) | exact rfl | (simp only [Int.toNat_natCast, Int.toNat_zero, Nat.sub_zero, Nat.zero_add]; first | exact rfl | done) | exact all0 | exact fun h => Bool.noConfusion h | exact fun _ _ _ _ => rfl | omega)
  · obtain rfl : i = m := by omega
    exact (fidx_none hi.2).symm
theorem stPrC (m : Nat) (pr : Nat → Int) (hm : m ≤ maxLen) : Fn1 Try.prog 77 [.c (.sl 1 m (c1 pr)), .fn 106 []] (boolV (decide (fidx (prB1 pr) m ≥ 0))) := by
  refine fn_of_wpx (O := lex) tab_ok (Γ := fun _ => none) (fun _ _ h => by cases h) mixed Try.func77 (by kernel_rfl) rfl rfl rfl (by simp [Try.ntmps77]) (by kernel_rfl) ?_
  conv => whnf
  repeat' (first
    | (refine NilG.mk fun bn hbn hbx => ?_; conv => whnf)
    | (refine Both.mk ?_ ?_ <;> conv => whnf)
    | exact trivial
    | (refine Br.mk (fun hb => ?_) (fun hb => ?_) <;> (first | (exfalso; revert hb; decide) | ((try simp only [BL] at hb) <;> (try simp only [DL] at hb) <;> conv => whnf)))
    | (refine And.intro ?_ ?_; (focus (first | exact id | exact rfl | exact trivial | (intro hg; first | exact hg | exact rfl | (simp; done) | (simp at hg ⊢; assumption)) | omega | decide | exact is2_c _ _ _ | exact is1_c _ _ | exact isS_c _ _ | exact isB_c _ _ | exact Nat.le_refl _ | assumption | exact mulLe (by decide) (by omega) | exact mulLe2 (by decide) (by omega) (by omega) | (intros; simp only [BL] at *; omega) | (intros; (try simp only [BL] at *); (try simp only [DL] at *); omega) | (intros; simp only [BL] at *; rw [wr_id (by omega) (by omega)]; omega) | (intro h1 h2; exact Bool.and_eq_true_iff.2 ⟨h1, h2⟩) | (intros; simp_all; done))); conv => whnf)
    | (refine Or.inr (And.intro rfl ?_); first | (refine congrArg intV ?_) | (refine congrArg boolV ?_) | (refine tupII ?_ ?_) | (refine tupIII ?_ ?_ ?_) | (refine tupU ?_ ?_ ?_ ?_ ?_) | exact rfl))
  refine CallG.mk (Fn.mono (stPrI m pr hm) ?_)
  rintro obs r ⟨rfl, rfl⟩
  conv => whnf
  repeat' (first
    | (refine NilG.mk fun bn hbn hbx => ?_; conv => whnf)
    | (refine Both.mk ?_ ?_ <;> conv => whnf)
    | exact trivial
    | (refine Br.mk (fun hb => ?_) (fun hb => ?_) <;> (first | (exfalso; revert hb; decide) | ((try simp only [BL] at hb) <;> (try simp only [DL] at hb) <;> conv => whnf)))
    | (refine And.intro ?_ ?_; (focus (first | exact id | exact rfl | exact trivial | (intro hg; first | exact hg | exact rfl | (simp; done) | (simp at hg ⊢; assumption)) | omega | decide | exact is2_c _ _ _ | exact is1_c _ _ | exact isS_c _ _ | exact isB_c _ _ | exact Nat.le_refl _ | assumption | exact mulLe (by decide) (by omega) | exact mulLe2 (by decide) (by omega) (by omega) | (intros; simp only [BL] at *; omega) | (intros; (try simp only [BL] at *); (try simp only [DL] at *); omega) | (intros; simp only [BL] at *; rw [wr_id (by omega) (by omega)]; omega) | (intro h1 h2; exact Bool.and_eq_true_iff.2 ⟨h1, h2⟩) | (intros; simp_all; done))); conv => whnf)
    | (refine Or.inr (And.intro rfl ?_); first | (refine congrArg intV ?_) | (refine congrArg boolV ?_) | (refine tupII ?_ ?_) | (refine tupIII ?_ ?_ ?_) | (refine tupU ?_ ?_ ?_ ?_ ?_) | exact rfl))
  · rfl
theorem stoE_bad {s : Sto} {m : Nat} {pr : Nat → Int} (h1 : stOk s) (h2 : ¬ 24 < m) (h : fidx (prB1 pr) m ≥ 0) : stoE s m pr = 4 := by
  unfold stoE
  rw [if_neg (fun h => h h1), if_neg h2]
  refine Decidable.byContradiction fun h3 => ?_
  have hv : ∀ k, (if -1000000 ≤ pr k ∧ pr k ≤ 1000000 then (0 : Int) else 4) = 0 ∨ (if -1000000 ≤ pr k ∧ pr k ≤ 1000000 then (0 : Int) else 4) = 4 := fun k => by split <;> simp
  have h4 : ∀ k, k < m → prB1 pr k = false := fun k hk => by
    refine Bool.eq_false_iff.2 fun h5 => h3 ?_
    refine fst_val4 (by decide) hv (j := k) ?_ hk
    simp only [prB1, BL] at h5
    exact if_neg (by omega)
  rw [fidx_none h4] at h
  exact absurd h (by decide)
where
  fst_val4 {e : Nat → Int} {v : Int} (hv : v ≠ 0) (he : ∀ k, e k = 0 ∨ e k = v) {j : Nat} (hj : e j = v) : ∀ {n : Nat}, j < n → fst e n = v
    | n + 1, h => by
      by_cases h0 : fst e n = 0
      · simp only [fst, h0]
        rcases Nat.lt_succ_iff_lt_or_eq.1 h with h1 | rfl
        · exact absurd (fst_zero h0 j h1) (by rw [hj]; exact hv)
        · simpa using hj
      · simp only [fst]
        rw [if_pos h0]
        have : ∀ n, fst e n = 0 ∨ fst e n = v := fun n => by
          induction n with
          | zero => exact .inl rfl
          | succ n ih =>
            simp only [fst]
            split
            · exact ih
            · exact he n
        rcases this n with h | h
        · exact absurd h h0
        · exact h
def sSto : (Sto → AV) → List AV → Sd × AV
  | G, [.agg [.c (.v (.int .i64 a)), .c (.v (.int .i64 b)), .c (.v (.int .i64 c)), .c (.v (.int .i64 d)), .c (.v (.int .i64 e))]] => (.t, G ⟨a, b, c, d, e⟩)
  | _, _ => (.p False, .top)
def gamSt : Gam := fun f => match f with
  | 105 => some (sSto fun s => intV (if stOk s then 0 else 4))
  | _ => none
theorem gamSt_ok : GOk Try.prog gamSt := fun f g h => by
  unfold gamSt at h
  split at h
  · injection h with h; subst h
    intro args hs _
    unfold sSto at hs ⊢
    split at hs
    · exact stChk ⟨_, _, _, _, _⟩
    · exact hs.elim
  · cases h
theorem stCheck (s : Sto) (m : Nat) (pr : Nat → Int) (hm : m ≤ maxLen) : Fn1 Try.prog 72 [sV s, .c (.sl 1 m (c1 pr))] (intV (stoE s m pr)) := by
  refine fn_of_wpx (O := lex) tab_ok gamSt_ok mixed Try.func72 (by kernel_rfl) rfl rfl rfl (by simp [Try.ntmps72]) (by kernel_rfl) ?_
  have hs : (⟨s.C, s.D, s.cap, s.beg, s.en⟩ : Sto) = s := rfl
  conv => whnf
  repeat' (first
    | (refine NilG.mk fun bn hbn hbx => ?_; conv => whnf)
    | (refine Both.mk ?_ ?_ <;> conv => whnf)
    | exact trivial
    | (refine Br.mk (fun hb => ?_) (fun hb => ?_) <;> (first | (exfalso; revert hb; decide) | ((try simp only [BL] at hb) <;> (try simp only [DL] at hb) <;> conv => whnf)))
    | (refine And.intro ?_ ?_; (focus (first | exact id | exact rfl | exact trivial | (intro hg; first | exact hg | exact rfl | (simp; done) | (simp at hg ⊢; assumption)) | omega | decide | exact is2_c _ _ _ | exact is1_c _ _ | exact isS_c _ _ | exact isB_c _ _ | exact Nat.le_refl _ | assumption | exact mulLe (by decide) (by omega) | exact mulLe2 (by decide) (by omega) (by omega) | (intros; simp only [BL] at *; omega) | (intros; (try simp only [BL] at *); (try simp only [DL] at *); omega) | (intros; simp only [BL] at *; rw [wr_id (by omega) (by omega)]; omega) | (intro h1 h2; exact Bool.and_eq_true_iff.2 ⟨h1, h2⟩) | (intros; simp_all; done))); conv => whnf)
    | (refine Or.inr (And.intro rfl ?_); first | (refine congrArg intV ?_) | (refine congrArg boolV ?_) | (refine tupII ?_ ?_) | (refine tupIII ?_ ?_ ?_) | (refine tupU ?_ ?_ ?_ ?_ ?_) | exact rfl))
  · have h1 : ¬ stOk s := fun h => hb (if_pos h)
    rw [hs, if_neg h1]
    exact (if_pos h1).symm
  · rename_i h0
    have h1 : stOk s := Decidable.byContradiction fun h => by rw [hs, if_neg h] at h0; cases h0
    unfold stoE
    rw [if_neg (fun h => h h1), if_pos (by omega)]
  rename_i h0
  have h1 : stOk s := Decidable.byContradiction fun h => by rw [hs, if_neg h] at h0; cases h0
  refine CallG.mk (Fn.mono (stPrC m pr hm) ?_)
  rintro obs r ⟨rfl, rfl⟩
  conv => whnf
  repeat' (first
    | (refine NilG.mk fun bn hbn hbx => ?_; conv => whnf)
    | (refine Both.mk ?_ ?_ <;> conv => whnf)
    | exact trivial
    | (refine Br.mk (fun hb => ?_) (fun hb => ?_) <;> (first | (exfalso; revert hb; decide) | ((try simp only [BL] at hb) <;> (try simp only [DL] at hb) <;> conv => whnf)))
    | (refine And.intro ?_ ?_; (focus (first | exact id | exact rfl | exact trivial | (intro hg; first | exact hg | exact rfl | (simp; done) | (simp at hg ⊢; assumption)) | omega | decide | exact is2_c _ _ _ | exact is1_c _ _ | exact isS_c _ _ | exact isB_c _ _ | exact Nat.le_refl _ | assumption | exact mulLe (by decide) (by omega) | exact mulLe2 (by decide) (by omega) (by omega) | (intros; simp only [BL] at *; omega) | (intros; (try simp only [BL] at *); (try simp only [DL] at *); omega) | (intros; simp only [BL] at *; rw [wr_id (by omega) (by omega)]; omega) | (intro h1 h2; exact Bool.and_eq_true_iff.2 ⟨h1, h2⟩) | (intros; simp_all; done))); conv => whnf)
    | (refine Or.inr (And.intro rfl ?_); first | (refine congrArg intV ?_) | (refine congrArg boolV ?_) | (refine tupII ?_ ?_) | (refine tupIII ?_ ?_ ?_) | (refine tupU ?_ ?_ ?_ ?_ ?_) | exact rfl))
  · exact (stoE_bad h1 (by omega) hb).symm
  · unfold stoE
    rw [if_neg (fun h => h h1), if_neg (by omega)]
    refine (fst_of fun k hk => if_pos ?_).symm
    have := fidx_neg hb k hk
    simp only [prB1, BL] at this
    omega

/-- a list of functions -/
def cF (F : Nat → Cxt) : Nat → Nat → L := fun k j => [iL (F k).lo, iL (F k).v, .sl 2 (F k).n (c2 (F k).p (F k).q)].getD j .un
/-- the chain of costs -/
def stCh (s : Sto) (m : Nat) (pr : Nat → Int) (F : Nat → Cxt) : Prop := F 0 = begC s ∧ (∀ t, t < m → stR s (pr t) (F t) (F (t + 1))) ∧ ∀ t, t ≤ m → stB s t (F t)
theorem beg_ch {s : Sto} {pr : Nat → Int} (h : stB s 0 (begC s)) : stCh s 0 pr fun _ => begC s := ⟨rfl, fun t h => absurd h (Nat.not_lt_zero t), fun t ht => by
  obtain rfl : t = 0 := by omega
  exact h⟩
/-- one more function behind a list -/
def pushC (F : Nat → Cxt) (t : Nat) (g : Cxt) : Nat → Cxt := fun k => if k < t then F k else g
theorem push_ch {s : Sto} {t : Nat} {pr : Nat → Int} {F : Nat → Cxt} {g : Cxt} (h : stCh s t pr F) (h1 : stR s (pr t) (F t) g) (h2 : stB s (t + 1) g) : stCh s (t + 1) pr (pushC F (t + 1) g) := by
  obtain ⟨a1, a2, a3⟩ := h
  have e1 : ∀ k, k ≤ t → pushC F (t + 1) g k = F k := fun k hk => if_pos (by omega)
  have e2 : pushC F (t + 1) g (t + 1) = g := if_neg (by omega)
  refine ⟨(e1 0 (Nat.zero_le t)).trans a1, fun k hk => ?_, fun k hk => ?_⟩
  · by_cases e : k = t
    · rw [e, e1 t (Nat.le_refl t), e2]; exact h1
    · rw [e1 k (by omega), e1 (k + 1) (by omega)]; exact a2 k (by omega)
  · by_cases e : k = t + 1
    · rw [e, e2]; exact h2
    · rw [e1 k (by omega)]; exact a3 k (by omega)
def costK (s : Sto) (m : Nat) (pr : Nat → Int) (obs : List OB) (r : AV) : Prop := obs = [] ∧ ∃ F, stCh s m pr F ∧ r = .tup [.c (.sl 3 (m + 1) (cF F)), intV 0]
theorem OLe.rowL {e sz n : Nat} {sc : Bool} {f g : Nat → Nat → L} (h : ∀ k, k < n → ∀ j, j < sz → LLe (f k j) (g k j)) : OLe (.row e sz n sc f) (.row e sz n false g) := by
  refine ⟨rfl, fun σ I w i hr => ⟨?_, fun h => by cases h⟩⟩
  rcases hr.1 with h0 | ⟨h0, xs, h1, h2, h3⟩
  · exact .inl h0
  · exact .inr ⟨h0, xs, h1, h2, fun k hk j hj => by
      obtain ⟨c, c1, c2⟩ := h3 k hk j hj
      exact ⟨c, c1, h k hk j hj _ _ _ c2⟩⟩
/-- the objects looked at otherwise -/
theorem LoopG.objs {P : Program} {N : Nat} {c : Code} {S : AS} {K : Ex → AS → Prop} (os : List OB) (ho : OLeL S.obs os) (h : LoopG P N c ⟨S.fr, os⟩ K) : LoopG P N c S K :=
  ⟨fun w0 I0 σ I a w hd hN hr => h.sem w0 I0 σ I a w hd hN (by
    obtain ⟨g1, g2, g3⟩ := ho.get
    have hs := hr.st
    refine ⟨hr.same0, ⟨hs.cnt.trans g1, hs.imm, fun i o e => ?_, fun i o b e hl hb => ?_, fun i j oi oj b ei ej li lj hb hb' => ?_⟩, hr.fr, hr.i1, hr.i2, hr.sz⟩
    · obtain ⟨o', e', hle⟩ := g2 i o e
      exact hle.2 _ _ _ _ (hs.obj i o' e')
    · obtain ⟨o', e', hle⟩ := g2 i o e
      exact hs.fresh i o' b e' (hle.1.trans hl) hb
    · obtain ⟨o1, e1, h1⟩ := g2 i oi ei
      obtain ⟨o2, e2, h2⟩ := g2 j oj ej
      exact hs.inj i j o1 o2 b e1 e2 (h1.1.trans li) (h2.1.trans lj) hb hb')⟩
theorem Le1.of_eq {a b : AV} (h : a = b) : Le1 a b := h ▸ Le1.refl a
theorem LLe.nil {sz : Nat} {f : Nat → Nat → L} : LLe (.v (.slice none 0 0)) (.sl sz 0 f) := fun w I u hr => by
  simp only [L.rd] at hr ⊢
  obtain ⟨rfl, _⟩ := hr
  exact ⟨none, 0, rfl, Nat.le_refl _, Nat.zero_le _, fun h => absurd h (Nat.lt_irrefl 0)⟩
def ordSC : Ord := fun id => if id = 5 then some (.go 0 (.go 1 (.go 2 (.go 3 (.go 4 (.go 6 (.go 9 (.go 11 (.fork (.alt 5 (.fork (.alt 7 (.go 8 (.fork (.alt 10 (.fork (.alt 12 (.fork (.alt 13 (.go 14 (.go 15 (.go 16 (.go 17 (.go 18 (.go 19 (.done))))))) (.alt 17 (.go 13 (.go 14 (.go 15 (.go 16 (.go 18 (.go 19 (.done))))))) (.none)))) (.alt 17 (.go 12 (.go 13 (.go 14 (.go 15 (.go 16 (.go 18 (.go 19 (.done)))))))) (.none)))) (.alt 17 (.go 10 (.go 12 (.go 13 (.go 14 (.go 15 (.go 16 (.go 18 (.go 19 (.done))))))))) (.none))))) (.alt 10 (.fork (.alt 7 (.go 8 (.fork (.alt 12 (.fork (.alt 13 (.go 14 (.go 15 (.go 16 (.go 17 (.go 18 (.go 19 (.done))))))) (.alt 17 (.go 13 (.go 14 (.go 15 (.go 16 (.go 18 (.go 19 (.done))))))) (.none)))) (.alt 17 (.go 12 (.go 13 (.go 14 (.go 15 (.go 16 (.go 18 (.go 19 (.done)))))))) (.none))))) (.alt 17 (.go 7 (.go 8 (.go 12 (.go 13 (.go 14 (.go 15 (.go 16 (.go 18 (.go 19 (.done)))))))))) (.none)))) (.alt 17 (.go 7 (.go 8 (.go 10 (.go 12 (.go 13 (.go 14 (.go 15 (.go 16 (.go 18 (.go 19 (.done))))))))))) (.none))))) (.alt 7 (.go 8 (.fork (.alt 5 (.fork (.alt 10 (.fork (.alt 12 (.fork (.alt 13 (.go 14 (.go 15 (.go 16 (.go 17 (.go 18 (.go 19 (.done))))))) (.alt 17 (.go 13 (.go 14 (.go 15 (.go 16 (.go 18 (.go 19 (.done))))))) (.none)))) (.alt 17 (.go 12 (.go 13 (.go 14 (.go 15 (.go 16 (.go 18 (.go 19 (.done)))))))) (.none)))) (.alt 17 (.go 10 (.go 12 (.go 13 (.go 14 (.go 15 (.go 16 (.go 18 (.go 19 (.done))))))))) (.none)))) (.alt 10 (.fork (.alt 5 (.fork (.alt 12 (.fork (.alt 13 (.go 14 (.go 15 (.go 16 (.go 17 (.go 18 (.go 19 (.done))))))) (.alt 17 (.go 13 (.go 14 (.go 15 (.go 16 (.go 18 (.go 19 (.done))))))) (.none)))) (.alt 17 (.go 12 (.go 13 (.go 14 (.go 15 (.go 16 (.go 18 (.go 19 (.done)))))))) (.none)))) (.alt 12 (.fork (.alt 5 (.fork (.alt 13 (.go 14 (.go 15 (.go 16 (.go 17 (.go 18 (.go 19 (.done))))))) (.alt 17 (.go 13 (.go 14 (.go 15 (.go 16 (.go 18 (.go 19 (.done))))))) (.none)))) (.alt 17 (.go 5 (.go 13 (.go 14 (.go 15 (.go 16 (.go 18 (.go 19 (.done)))))))) (.none)))) (.alt 17 (.fork (.alt 5 (.go 12 (.go 13 (.go 14 (.go 15 (.go 16 (.go 18 (.go 19 (.done)))))))) (.alt 12 (.go 5 (.go 13 (.go 14 (.go 15 (.go 16 (.go 18 (.go 19 (.done)))))))) (.none)))) (.none))))) (.alt 17 (.go 10 (.fork (.alt 5 (.go 12 (.go 13 (.go 14 (.go 15 (.go 16 (.go 18 (.go 19 (.done)))))))) (.alt 12 (.go 5 (.go 13 (.go 14 (.go 15 (.go 16 (.go 18 (.go 19 (.done)))))))) (.none))))) (.none)))))) (.alt 10 (.fork (.alt 5 (.fork (.alt 7 (.go 8 (.fork (.alt 12 (.fork (.alt 13 (.go 14 (.go 15 (.go 16 (.go 17 (.go 18 (.go 19 (.done))))))) (.alt 17 (.go 13 (.go 14 (.go 15 (.go 16 (.go 18 (.go 19 (.done))))))) (.none)))) (.alt 17 (.go 12 (.go 13 (.go 14 (.go 15 (.go 16 (.go 18 (.go 19 (.done)))))))) (.none))))) (.alt 17 (.go 7 (.go 8 (.go 12 (.go 13 (.go 14 (.go 15 (.go 16 (.go 18 (.go 19 (.done)))))))))) (.none)))) (.alt 7 (.go 8 (.fork (.alt 5 (.fork (.alt 12 (.fork (.alt 13 (.go 14 (.go 15 (.go 16 (.go 17 (.go 18 (.go 19 (.done))))))) (.alt 17 (.go 13 (.go 14 (.go 15 (.go 16 (.go 18 (.go 19 (.done))))))) (.none)))) (.alt 17 (.go 12 (.go 13 (.go 14 (.go 15 (.go 16 (.go 18 (.go 19 (.done)))))))) (.none)))) (.alt 12 (.fork (.alt 5 (.fork (.alt 13 (.go 14 (.go 15 (.go 16 (.go 17 (.go 18 (.go 19 (.done))))))) (.alt 17 (.go 13 (.go 14 (.go 15 (.go 16 (.go 18 (.go 19 (.done))))))) (.none)))) (.alt 17 (.go 5 (.go 13 (.go 14 (.go 15 (.go 16 (.go 18 (.go 19 (.done)))))))) (.none)))) (.alt 17 (.fork (.alt 5 (.go 12 (.go 13 (.go 14 (.go 15 (.go 16 (.go 18 (.go 19 (.done)))))))) (.alt 12 (.go 5 (.go 13 (.go 14 (.go 15 (.go 16 (.go 18 (.go 19 (.done)))))))) (.none)))) (.none)))))) (.alt 17 (.go 7 (.go 8 (.fork (.alt 5 (.go 12 (.go 13 (.go 14 (.go 15 (.go 16 (.go 18 (.go 19 (.done)))))))) (.alt 12 (.go 5 (.go 13 (.go 14 (.go 15 (.go 16 (.go 18 (.go 19 (.done)))))))) (.none)))))) (.none))))) (.alt 17 (.go 7 (.go 8 (.go 10 (.fork (.alt 5 (.go 12 (.go 13 (.go 14 (.go 15 (.go 16 (.go 18 (.go 19 (.done)))))))) (.alt 12 (.go 5 (.go 13 (.go 14 (.go 15 (.go 16 (.go 18 (.go 19 (.done)))))))) (.none))))))) (.none)))))))))))))) else none
set_option maxHeartbeats 8000000 in
set_option maxRecDepth 100000 in
theorem stCosts (s : Sto) (m : Nat) (pr : Nat → Int) (hs : stOk s) (hm : m ≤ 24) (hp : prOk m pr) : Fn Try.prog 73 [sV s, .c (.sl 1 m (c1 pr))] (costK s m pr) := by
  refine fn_of_wpx (O := ordSC) tab_ok gamSt_ok mixed Try.func73 (by kernel_rfl) rfl rfl rfl (by simp [Try.ntmps73]) (by kernel_rfl) ?_
  have hs0 := hs
  unfold stOk at hs0
  obtain ⟨b1, b2, b3, b4⟩ := begC_B hs
  conv => whnf
  repeat' (first
    | (refine NilG.mk fun bn hbn hbx => ?_; conv => whnf)
    | (refine Both.mk ?_ ?_ <;> conv => whnf)
    | exact trivial
    | (refine Br.mk (fun hb => ?_) (fun hb => ?_) <;> (first | (exfalso; revert hb; decide) | ((try simp only [BL] at hb) <;> (try simp only [DL] at hb) <;> conv => whnf)))
    | (refine And.intro ?_ ?_; (focus (first | exact id | exact rfl | exact trivial | (intro hg; first | exact hg | exact rfl | (simp; done) | (simp at hg ⊢; assumption)) | omega | decide | exact is2_c _ _ _ | exact is1_c _ _ | exact isS_c _ _ | exact isB_c _ _ | exact Nat.le_refl _ | assumption | exact mulLe (by decide) (by omega) | exact mulLe2 (by decide) (by omega) (by omega) | (intros; simp only [BL] at *; omega) | (intros; (try simp only [BL] at *); (try simp only [DL] at *); omega) | (intros; simp only [BL] at *; rw [wr_id (by omega) (by omega)]; omega) | (intro h1 h2; exact Bool.and_eq_true_iff.2 ⟨h1, h2⟩) | (intros; simp_all; done))); conv => whnf)
    | (refine Or.inr (And.intro rfl ?_); first | (refine congrArg intV ?_) | (refine congrArg boolV ?_) | (refine tupII ?_ ?_) | (refine tupIII ?_ ?_ ?_) | (refine tupU ?_ ?_ ?_ ?_ ?_) | exact rfl))
  refine LoopG.objs [.box [intV s.C, intV s.D, intV s.cap, intV s.beg, intV s.en], .row 41 3 1 false (cF fun _ => begC s)] ⟨OLe.refl _, OLe.rowL fun k hk j hj => ?_, trivial⟩ ?_
  · match k, j, hk, hj with
    | 0, 0, _, _ => exact LLe.of_eq rfl
    | 0, 1, _, _ => exact LLe.of_eq rfl
    | 0, 2, _, _ => exact LLe.nil
  refine sem_loop tab_ok gamSt_ok mixed (by kernel_rfl) (O := ordSC) (fun x : Nat × (Nat → Cxt) => ⟨[(2, .lp 0 0), (6, .own 1), (15, .c (.sl 1 m (c1 pr))), (16, intV m), (17, intV x.1)], [.box [intV s.C, intV s.D, intV s.cap, intV s.beg, intV s.en], .row 41 3 (x.1 + 1) false (cF x.2)]⟩) (fun x => x.1 ≤ m ∧ stCh s x.1 pr x.2) (fun x => m - x.1) ⟨(0, fun _ => begC s), [?_, ?_], ⟨Nat.zero_le _, beg_ch b1⟩, ?_⟩ fun y hy => ?_
  rotate_left 2
  · refine Sub.of ?_ ?_ ?_
    repeat' (first | (refine And.intro ?_ ?_) | exact trivial | exact fun _ _ _ => hsc _ _ | (exact congrArg intV (by first | with_reducible rfl | with_reducible assumption)) | exact (rfl : AV.idsLt _ _ = true) | exact (rfl : _ = AV.ren _ (.own _)) | exact (rfl : _ = AV.ren _ (.fn _ _)) | exact (rfl : _ = AV.ren _ (.gh _)) | (exact congrArg intV (by assumption)) | (refine congrArg intV ((wr_id (by omega) (by omega)).trans (by omega))) | exact rfl | (simp only [Int.toNat_natCast, Int.toNat_zero, Nat.sub_zero, Nat.zero_add]; first | exact rfl | done) | exact all0 | exact fun h => Bool.noConfusion h | exact fun _ _ _ _ => rfl | omega)
  obtain ⟨t, F⟩ := y
  obtain ⟨ht, hc⟩ := hy
  dsimp only at ht hc ⊢
  have ei : (IntKind.i64.wrap (((t + 1 : Nat) : Int) - 1)).toNat = t := by rw [wr_id (by omega) (by omega)]; omega
  have ei2 : IntKind.i64.wrap (((t + 1 : Nat) : Int) - 1) = t := (wr_id (by omega) (by omega)).trans (by omega)
  have wD : IntKind.i64.wrap (0 - s.D) = -s.D := (wr_id (by omega) (by omega)).trans (by omega)
  have hp' := fun h : t < m => hp t h
  have hC := fun h : t < m => st_cvB hs (hc.2.2 t (Nat.le_refl t)) (by omega) (hp t h)
  conv => whnf
  repeat' (first
    | (refine NilG.mk fun bn hbn hbx => ?_; conv => whnf)
    | (refine Both.mk ?_ ?_ <;> conv => whnf)
    | exact trivial
    | (refine Br.mk (fun hb => ?_) (fun hb => ?_) <;> (first | (exfalso; revert hb; decide) | ((try simp only [BL] at hb) <;> (try simp only [DL] at hb) <;> conv => whnf)))
    | (refine And.intro ?_ ?_; (focus (first | exact id | exact rfl | exact trivial | (intro hg; first | exact hg | exact rfl | (simp; done) | (simp at hg ⊢; assumption)) | omega | decide | exact is2_c _ _ _ | exact is1_c _ _ | exact isS_c _ _ | exact isB_c _ _ | exact Nat.le_refl _ | assumption | exact mulLe (by decide) (by omega) | exact mulLe2 (by decide) (by omega) (by omega) | (intros; simp only [BL] at *; omega) | (intros; (try simp only [BL] at *); (try simp only [DL] at *); omega) | (intros; simp only [BL] at *; rw [wr_id (by omega) (by omega)]; omega) | (intro h1 h2; exact Bool.and_eq_true_iff.2 ⟨h1, h2⟩) | exact ⟨rfl, by rw [ei]; omega, by decide⟩ | (intros; simp_all; done))); conv => whnf)
    | (refine Or.inr (And.intro rfl ?_); first | (refine congrArg intV ?_) | (refine congrArg boolV ?_) | (refine tupII ?_ ?_) | (refine tupIII ?_ ?_ ?_) | (refine tupU ?_ ?_ ?_ ?_ ?_) | exact rfl))
  repeat' (first
    | (refine CallG.mk (Fn.mono ((stLine (-s.D) s.C (pr t) (by omega) (by omega) (by omega) (hp t (by omega))).le (Le.cons (Le1.of_eq (congrArg intV wD)) (Le.cons (Le1.refl _) (Le.cons (Le1.refl _) Le.nil)))) ?_); rintro obs r ⟨rfl, rfl⟩; ((conv => whnf); repeat' (first | (refine NilG.mk fun bn hbn hbx => ?_; conv => whnf) | (refine Both.mk ?_ ?_ <;> conv => whnf) | exact trivial | (refine Br.mk (fun hb => ?_) (fun hb => ?_) <;> (first | (exfalso; revert hb; decide) | ((try simp only [BL] at hb) <;> (try simp only [DL] at hb) <;> conv => whnf))) | (refine And.intro ?_ ?_; (focus (first | exact id | exact rfl | exact trivial | (intro hg; first | exact hg | exact rfl | (simp; done) | (simp at hg ⊢; assumption)) | omega | decide | exact is2_c _ _ _ | exact is1_c _ _ | exact isS_c _ _ | exact isB_c _ _ | exact Nat.le_refl _ | assumption | exact mulLe (by decide) (by omega) | exact mulLe2 (by decide) (by omega) (by omega) | (intros; simp only [BL] at *; omega) | (intros; (try simp only [BL] at *); (try simp only [DL] at *); omega) | (intros; simp only [BL] at *; rw [wr_id (by omega) (by omega)]; omega) | (intro h1 h2; exact Bool.and_eq_true_iff.2 ⟨h1, h2⟩) | exact ⟨rfl, by rw [ei]; omega, by decide⟩ | (intros; simp_all; done))); conv => whnf) | (refine Or.inr (And.intro rfl ?_); first | (refine congrArg intV ?_) | (refine congrArg boolV ?_) | (refine tupII ?_ ?_) | (refine tupIII ?_ ?_ ?_) | (refine tupU ?_ ?_ ?_ ?_ ?_) | exact rfl))))
    | (refine CallG.mk (Fn.mono ((convG (F t) (lineC (-s.D) s.C (pr t)) (hc.2.2 t (Nat.le_refl t)).1 (lineC_ok (by omega) (by omega) (by omega) (hp t (by omega))) (hC (by omega))).le (Le.cons (Le1.of_eq (congrArg (fun k => Cxt.av (F k)) ei)) (Le.cons (Le1.refl _) Le.nil))) ?_); rintro obs r ⟨rfl, e, g, rfl, rfl, hg⟩; ((conv => whnf); repeat' (first | (refine NilG.mk fun bn hbn hbx => ?_; conv => whnf) | (refine Both.mk ?_ ?_ <;> conv => whnf) | exact trivial | (refine Br.mk (fun hb => ?_) (fun hb => ?_) <;> (first | (exfalso; revert hb; decide) | ((try simp only [BL] at hb) <;> (try simp only [DL] at hb) <;> conv => whnf))) | (refine And.intro ?_ ?_; (focus (first | exact id | exact rfl | exact trivial | (intro hg; first | exact hg | exact rfl | (simp; done) | (simp at hg ⊢; assumption)) | omega | decide | exact is2_c _ _ _ | exact is1_c _ _ | exact isS_c _ _ | exact isB_c _ _ | exact Nat.le_refl _ | assumption | exact mulLe (by decide) (by omega) | exact mulLe2 (by decide) (by omega) (by omega) | (intros; simp only [BL] at *; omega) | (intros; (try simp only [BL] at *); (try simp only [DL] at *); omega) | (intros; simp only [BL] at *; rw [wr_id (by omega) (by omega)]; omega) | (intro h1 h2; exact Bool.and_eq_true_iff.2 ⟨h1, h2⟩) | exact ⟨rfl, by rw [ei]; omega, by decide⟩ | (intros; simp_all; done))); conv => whnf) | (refine Or.inr (And.intro rfl ?_); first | (refine congrArg intV ?_) | (refine congrArg boolV ?_) | (refine tupII ?_ ?_) | (refine tupIII ?_ ?_ ?_) | (refine tupU ?_ ?_ ?_ ?_ ?_) | exact rfl))))
    | (refine CallG.mk (Fn.mono (restG g 0 s.cap hg.1) ?_); rintro obs r ⟨rfl, e, g2, rfl, hr⟩; (rcases hr with ⟨hno, -, -⟩ | ⟨-, rfl, hr⟩); (exfalso; have := st_some hs (hc.2.2 t (Nat.le_refl t)) hg; omega); ((conv => whnf); repeat' (first | (refine NilG.mk fun bn hbn hbx => ?_; conv => whnf) | (refine Both.mk ?_ ?_ <;> conv => whnf) | exact trivial | (refine Br.mk (fun hb => ?_) (fun hb => ?_) <;> (first | (exfalso; revert hb; decide) | ((try simp only [BL] at hb) <;> (try simp only [DL] at hb) <;> conv => whnf))) | (refine And.intro ?_ ?_; (focus (first | exact id | exact rfl | exact trivial | (intro hg; first | exact hg | exact rfl | (simp; done) | (simp at hg ⊢; assumption)) | omega | decide | exact is2_c _ _ _ | exact is1_c _ _ | exact isS_c _ _ | exact isB_c _ _ | exact Nat.le_refl _ | assumption | exact mulLe (by decide) (by omega) | exact mulLe2 (by decide) (by omega) (by omega) | (intros; simp only [BL] at *; omega) | (intros; (try simp only [BL] at *); (try simp only [DL] at *); omega) | (intros; simp only [BL] at *; rw [wr_id (by omega) (by omega)]; omega) | (intro h1 h2; exact Bool.and_eq_true_iff.2 ⟨h1, h2⟩) | (intros; simp_all; done))); conv => whnf) | (refine Or.inr (And.intro rfl ?_); first | (refine congrArg intV ?_) | (refine congrArg boolV ?_) | (refine tupII ?_ ?_) | (refine tupIII ?_ ?_ ?_) | (refine tupU ?_ ?_ ?_ ?_ ?_) | exact rfl)))))
  all_goals first | exact absurd trivial hb | skip
  iterate 39
    · have hn := st_next hs (hc.2.2 t (Nat.le_refl t)) (hp t (by omega)) hg hr
      refine ⟨(t + 1, pushC F (t + 1) g2), [?_, ?_], ⟨by show t + 1 ≤ m; omega, push_ch hc hn.1 hn.2⟩, by show m - (t + 1) < m - t; omega, ?_⟩
      rotate_left 2
      refine Sub.of ?_ ?_ ?_
      repeat' (first | (refine And.intro ?_ ?_) | exact trivial | exact fun _ _ _ => hsc _ _ | (exact congrArg intV (by first | with_reducible rfl | with_reducible assumption)) | exact (rfl : AV.idsLt _ _ = true) | exact (rfl : _ = AV.ren _ (.own _)) | exact (rfl : _ = AV.ren _ (.fn _ _)) | exact (rfl : _ = AV.ren _ (.gh _)) | (exact congrArg intV (by assumption)) | (refine congrArg intV ((wr_id (by omega) (by omega)).trans (by omega))) | exact rfl | (simp only [Int.toNat_natCast, Int.toNat_zero, Nat.sub_zero, Nat.zero_add]; first | exact rfl | done) | exact all0 | exact fun h => Bool.noConfusion h | exact fun _ _ _ _ => rfl | omega)
      intro a ha b hb9
      have hb9 : b < 3 := hb9
      by_cases e : a < t + 1
      · refine (if_pos e).trans ?_
        show cF F a b = [iL (pushC F (t + 1) g2 a).lo, iL (pushC F (t + 1) g2 a).v, .sl 2 (pushC F (t + 1) g2 a).n (c2 (pushC F (t + 1) g2 a).p (pushC F (t + 1) g2 a).q)].getD b .un
        rw [show pushC F (t + 1) g2 a = F a from if_pos e]
        rfl
      · have ea : a = t + 1 := by omega
        refine (if_neg e).trans ?_
        show _ = [iL (pushC F (t + 1) g2 a).lo, iL (pushC F (t + 1) g2 a).v, .sl 2 (pushC F (t + 1) g2 a).n (c2 (pushC F (t + 1) g2 a).p (pushC F (t + 1) g2 a).q)].getD b .un
        rw [show pushC F (t + 1) g2 a = g2 from if_neg e, ea, Nat.sub_self]
        match b, hb9 with
        | 0, _ => rfl
        | 1, _ => rfl
        | 2, _ => rfl
  · obtain rfl : t = m := by omega
    exact .inr ⟨rfl, F, hc, rfl⟩
end Go.Proofs.Ytkkkldhilofgmaa
