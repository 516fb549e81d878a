/-
  ShedSays holds: stages act in the first step in which they have acted by the definition, whatever the stages and the frequencies.
-/
import Derived.Test.YtmhjkleknpdkgaaShdL
namespace Go.Proofs.Ytmhjkleknpdkgaa
open Go.RowKit Go.ChangeShapes Go.WideShapes

def exSh : Shs := ⟨1, fun _ => -200, fun _ => 2, fun _ => 1, fun _ _ => ⟨#[65]⟩⟩
theorem exSh0 : shE exSh = 0 := by decide
theorem exShOk : shOk exSh := ⟨by decide, fun k _ => ⟨show 1 ≤ maxLen by decide, fun j _ => show (⟨#[65]⟩ : ByteArray).size ≤ maxLen by decide⟩⟩
abbrev exC1 : Nat → Int := cn1 exSh (fun _ => 0) (-300)
theorem exS1 : FnM Try.prog 7 [.box [.own 1, .own 2, .own 3], stR exSh, ciR 1 fun _ => 0, liR []] [.lp 0 0, intV (-300)] (fun obs r => obs = [.box [.own 1, .own 2, .own 3], stR exSh, ciR 1 exC1, liR [], lsR []] ∧ r = .tup [.own 4, intV 0]) :=
  (shStep0 exSh (fun _ => 0) (-300) [] (by decide) (fun k hk => by obtain rfl : k = 0 := by (have hk : k < 1 := hk); omega
                                                                   decide) (by decide) (fun k _ => by decide) (by decide)).mono fun obs r ⟨h1, h2⟩ => by
    rcases h2 with ⟨-, h2⟩ | ⟨h2, -⟩
    · exact ⟨h2, h1⟩
    · exact absurd (by decide) h2
theorem exS2 : FnM Try.prog 7 [.box [.own 1, .own 2, .own 3], stR exSh, ciR 1 exC1, liR []] [.lp 0 0, intV (-300)] (fun obs r => obs = [.box [.own 1, .own 2, .own 5], stR exSh, ciR 1 (cn1 exSh exC1 (-300)), .dead, lsR [⟨#[65]⟩], liR [0]] ∧ r = .tup [.own 4, intV 0]) :=
  (shStep0 exSh exC1 (-300) [] (by decide) (fun k hk => by obtain rfl : k = 0 := by (have hk : k < 1 := hk); omega
                                                           decide) (by decide) (fun k hk => by obtain rfl : k = 0 := by (have hk : k < 1 := hk); omega
                                                                                               decide) (by decide)).mono fun obs r ⟨h1, h2⟩ => by
    rcases h2 with ⟨h2, -⟩ | ⟨-, h2⟩
    · exact absurd h2 (by decide)
    · exact ⟨h2, h1⟩
set_option maxHeartbeats 8000000 in
set_option maxRecDepth 100000 in
theorem sdLaw (s : Shs) (N : Nat) (fr : Nat → Int) (hs : shOk s) (hN : N ≤ maxLen) : Fn1 Try.prog 4 [.c (.sl 3 s.m (cShs s)), .c (.sl 1 N (c1 fr))] (boolV true) := by
  refine fn_of_wpx (O := lex) tab_ok gamSl_ok mixed Try.func4 (by kernel_rfl) rfl rfl rfl (by simp [Try.ntmps4]) (by kernel_rfl) ?_
  conv => whnf
  repeat' (first
    | (refine NilG.mk fun bn hbn hbx => ?_; conv => whnf)
    | (refine Both.mk ?_ ?_ <;> conv => whnf)
    | exact trivial
    | (refine Br.mk (fun hb => ?_) (fun hb => ?_) <;> (first | (exfalso; revert hb; decide) | ((try simp only [BL] at hb) <;> (try simp only [DL] at hb) <;> conv => whnf)))
    | (refine And.intro ?_ ?_; (focus (first | exact id | exact rfl | exact trivial | (intro hg; first | exact hg | exact rfl | (simp; done) | (simp at hg ⊢; assumption)) | omega | decide | exact is2_c _ _ _ | exact is1_c _ _ | exact isS_c _ _ | exact isB_c _ _ | exact Nat.le_refl _ | assumption | exact mulLe (by decide) (by omega) | exact mulLe2 (by decide) (by omega) (by omega) | (intros; simp only [BL] at *; omega) | (intros; (try simp only [BL] at *); (try simp only [DL] at *); omega) | (intros; simp only [BL] at *; rw [wr_id (by omega) (by omega)]; omega) | (intro h1 h2; exact Bool.and_eq_true_iff.2 ⟨h1, h2⟩) | (intros; simp_all; done))); conv => whnf)
    | (refine Or.inr (And.intro rfl ?_); first | (refine congrArg intV ?_) | (refine congrArg boolV ?_) | (refine tupII ?_ ?_) | (refine tupIII ?_ ?_ ?_) | (refine tupU ?_ ?_ ?_ ?_ ?_) | exact rfl))
  refine CallG.mk (Fn.mono ((shNew0 exSh exShOk exSh0).le (Le.cons (Le1.l (LLe.sl fun k hk j hj => ?_)) Le.nil)) ?_)
  · match k, j, hk, hj with
    | 0, 0, _, _ => exact LLe.of_eq rfl
    | 0, 1, _, _ => exact LLe.of_eq rfl
    | 0, 2, _, _ => exact LLe.sl fun a ha b hb9 => (match a, b, ha, hb9 with | 0, 0, _, _ => LLe.of_eq rfl)
  rintro obs r ⟨rfl, rfl⟩
  conv => whnf
  repeat' (first
    | (refine NilG.mk fun bn hbn hbx => ?_; conv => whnf)
    | (refine Both.mk ?_ ?_ <;> conv => whnf)
    | exact trivial
    | (refine Br.mk (fun hb => ?_) (fun hb => ?_) <;> (first | (exfalso; revert hb; decide) | ((try simp only [BL] at hb) <;> (try simp only [DL] at hb) <;> conv => whnf)))
    | (refine And.intro ?_ ?_; (focus (first | exact id | exact rfl | exact trivial | (intro hg; first | exact hg | exact rfl | (simp; done) | (simp at hg ⊢; assumption)) | omega | decide | exact is2_c _ _ _ | exact is1_c _ _ | exact isS_c _ _ | exact isB_c _ _ | exact Nat.le_refl _ | assumption | exact mulLe (by decide) (by omega) | exact mulLe2 (by decide) (by omega) (by omega) | (intros; simp only [BL] at *; omega) | (intros; (try simp only [BL] at *); (try simp only [DL] at *); omega) | (intros; simp only [BL] at *; rw [wr_id (by omega) (by omega)]; omega) | (intro h1 h2; exact Bool.and_eq_true_iff.2 ⟨h1, h2⟩) | (intros; simp_all; done))); conv => whnf)
    | (refine Or.inr (And.intro rfl ?_); first | (refine congrArg intV ?_) | (refine congrArg boolV ?_) | (refine tupII ?_ ?_) | (refine tupIII ?_ ?_ ?_) | (refine tupU ?_ ?_ ?_ ?_ ?_) | exact rfl))
  refine CallG.wr [2, 3, 4, 5] rfl (FnM.mono exS1 ?_)
  rintro obs r ⟨rfl, rfl⟩
  conv => whnf
  repeat' (first
    | (refine NilG.mk fun bn hbn hbx => ?_; conv => whnf)
    | (refine Both.mk ?_ ?_ <;> conv => whnf)
    | exact trivial
    | (refine Br.mk (fun hb => ?_) (fun hb => ?_) <;> (first | (exfalso; revert hb; decide) | ((try simp only [BL] at hb) <;> (try simp only [DL] at hb) <;> conv => whnf)))
    | (refine And.intro ?_ ?_; (focus (first | exact id | exact rfl | exact trivial | (intro hg; first | exact hg | exact rfl | (simp; done) | (simp at hg ⊢; assumption)) | omega | decide | exact is2_c _ _ _ | exact is1_c _ _ | exact isS_c _ _ | exact isB_c _ _ | exact Nat.le_refl _ | assumption | exact mulLe (by decide) (by omega) | exact mulLe2 (by decide) (by omega) (by omega) | (intros; simp only [BL] at *; omega) | (intros; (try simp only [BL] at *); (try simp only [DL] at *); omega) | (intros; simp only [BL] at *; rw [wr_id (by omega) (by omega)]; omega) | (intro h1 h2; exact Bool.and_eq_true_iff.2 ⟨h1, h2⟩) | (intros; simp_all; done))); conv => whnf)
    | (refine Or.inr (And.intro rfl ?_); first | (refine congrArg intV ?_) | (refine congrArg boolV ?_) | (refine tupII ?_ ?_) | (refine tupIII ?_ ?_ ?_) | (refine tupU ?_ ?_ ?_ ?_ ?_) | exact rfl))
  refine CallG.wr [2, 3, 4, 5] rfl (FnM.mono exS2 ?_)
  rintro obs r ⟨rfl, rfl⟩
  conv => whnf
  repeat' (first
    | (refine NilG.mk fun bn hbn hbx => ?_; conv => whnf)
    | (refine Both.mk ?_ ?_ <;> conv => whnf)
    | exact trivial
    | (refine Br.mk (fun hb => ?_) (fun hb => ?_) <;> (first | (exfalso; revert hb; decide) | ((try simp only [BL] at hb) <;> (try simp only [DL] at hb) <;> conv => whnf)))
    | (refine And.intro ?_ ?_; (focus (first | exact id | exact rfl | exact trivial | (intro hg; first | exact hg | exact rfl | (simp; done) | (simp at hg ⊢; assumption)) | omega | decide | exact is2_c _ _ _ | exact is1_c _ _ | exact isS_c _ _ | exact isB_c _ _ | exact Nat.le_refl _ | assumption | exact mulLe (by decide) (by omega) | exact mulLe2 (by decide) (by omega) (by omega) | (intros; simp only [BL] at *; omega) | (intros; (try simp only [BL] at *); (try simp only [DL] at *); omega) | (intros; simp only [BL] at *; rw [wr_id (by omega) (by omega)]; omega) | (intro h1 h2; exact Bool.and_eq_true_iff.2 ⟨h1, h2⟩) | (intros; simp_all; done))); conv => whnf)
    | (refine Or.inr (And.intro rfl ?_); first | (refine congrArg intV ?_) | (refine congrArg boolV ?_) | (refine tupII ?_ ?_) | (refine tupIII ?_ ?_ ?_) | (refine tupU ?_ ?_ ?_ ?_ ?_) | exact rfl))
  refine And.intro (fun _ => ?_) (fun hg => absurd hg (by decide))
  conv => whnf
  repeat' (first
    | (refine NilG.mk fun bn hbn hbx => ?_; conv => whnf)
    | (refine Both.mk ?_ ?_ <;> conv => whnf)
    | exact trivial
    | (refine Br.mk (fun hb => ?_) (fun hb => ?_) <;> (first | (exfalso; revert hb; decide) | ((try simp only [BL] at hb) <;> (try simp only [DL] at hb) <;> conv => whnf)))
    | (refine And.intro ?_ ?_; (focus (first | exact id | exact rfl | exact trivial | (intro hg; first | exact hg | exact rfl | (simp; done) | (simp at hg ⊢; assumption)) | omega | decide | exact is2_c _ _ _ | exact is1_c _ _ | exact isS_c _ _ | exact isB_c _ _ | exact Nat.le_refl _ | assumption | exact mulLe (by decide) (by omega) | exact mulLe2 (by decide) (by omega) (by omega) | (intros; simp only [BL] at *; omega) | (intros; (try simp only [BL] at *); (try simp only [DL] at *); omega) | (intros; simp only [BL] at *; rw [wr_id (by omega) (by omega)]; omega) | (intro h1 h2; exact Bool.and_eq_true_iff.2 ⟨h1, h2⟩) | exact fun _ => ⟨isS_c _ _, fun k hk j hj => (match k, j, hk, hj with | 0, 0, _, _ => rfl), by decide, rfl, fun i hi => (match i, hi with | 0, _ => rfl)⟩ | (intros; simp_all; done))); conv => whnf)
    | (refine Or.inr (And.intro rfl ?_); first | (refine congrArg intV ?_) | (refine congrArg boolV ?_) | (refine tupII ?_ ?_) | (refine tupIII ?_ ?_ ?_) | (refine tupU ?_ ?_ ?_ ?_ ?_) | exact rfl))
  by_cases h0 : shE s = 0
  rotate_left
  · refine CallG.mk (Fn.mono (shNewE s hs h0) ?_)
    rintro obs r ⟨rfl, rfl⟩
    conv => whnf
    repeat' (first
      | (refine NilG.mk fun bn hbn hbx => ?_; conv => whnf)
      | (refine Both.mk ?_ ?_ <;> conv => whnf)
      | exact trivial
      | (refine Br.mk (fun hb => ?_) (fun hb => ?_) <;> (first | (exfalso; revert hb; decide) | ((try simp only [BL] at hb) <;> (try simp only [DL] at hb) <;> conv => whnf)))
      | (refine And.intro ?_ ?_; (focus (first | exact id | exact rfl | exact trivial | (intro hg; first | exact hg | exact rfl | (simp; done) | (simp at hg ⊢; assumption)) | omega | decide | exact is2_c _ _ _ | exact is1_c _ _ | exact isS_c _ _ | exact isB_c _ _ | exact Nat.le_refl _ | assumption | exact mulLe (by decide) (by omega) | exact mulLe2 (by decide) (by omega) (by omega) | (intros; simp only [BL] at *; omega) | (intros; (try simp only [BL] at *); (try simp only [DL] at *); omega) | (intros; simp only [BL] at *; rw [wr_id (by omega) (by omega)]; omega) | (intro h1 h2; exact Bool.and_eq_true_iff.2 ⟨h1, h2⟩) | (intros; simp_all; done))); conv => whnf)
      | (refine Or.inr (And.intro rfl ?_); first | (refine congrArg intV ?_) | (refine congrArg boolV ?_) | (refine tupII ?_ ?_) | (refine tupIII ?_ ?_ ?_) | (refine tupU ?_ ?_ ?_ ?_ ?_) | exact rfl))
    refine CallG.mk (Fn.mono (shErr s hs) ?_)
    rintro obs r ⟨rfl, rfl⟩
    conv => whnf
    repeat' (first
      | (refine NilG.mk fun bn hbn hbx => ?_; conv => whnf)
      | (refine Both.mk ?_ ?_ <;> conv => whnf)
      | exact trivial
      | (refine Br.mk (fun hb => ?_) (fun hb => ?_) <;> (first | (exfalso; revert hb; decide) | ((try simp only [BL] at hb) <;> (try simp only [DL] at hb) <;> conv => whnf)))
      | (refine And.intro ?_ ?_; (focus (first | exact id | exact rfl | exact trivial | (intro hg; first | exact hg | exact rfl | (simp; done) | (simp at hg ⊢; assumption)) | omega | decide | exact is2_c _ _ _ | exact is1_c _ _ | exact isS_c _ _ | exact isB_c _ _ | exact Nat.le_refl _ | assumption | exact mulLe (by decide) (by omega) | exact mulLe2 (by decide) (by omega) (by omega) | (intros; simp only [BL] at *; omega) | (intros; (try simp only [BL] at *); (try simp only [DL] at *); omega) | (intros; simp only [BL] at *; rw [wr_id (by omega) (by omega)]; omega) | (intro h1 h2; exact Bool.and_eq_true_iff.2 ⟨h1, h2⟩) | (intros; simp_all; done))); conv => whnf)
      | (refine Or.inr (And.intro rfl ?_); first | (refine congrArg intV ?_) | (refine congrArg boolV ?_) | (refine tupII ?_ ?_) | (refine tupIII ?_ ?_ ?_) | (refine tupU ?_ ?_ ?_ ?_ ?_) | exact rfl))
    refine And.intro (fun _ => ?_) (fun hg => absurd hg (by simp))
    refine CallG.mk (Fn.mono (shChk s hs) ?_)
    rintro obs r ⟨rfl, rfl⟩
    conv => whnf
    repeat' (first
      | (refine NilG.mk fun bn hbn hbx => ?_; conv => whnf)
      | (refine Both.mk ?_ ?_ <;> conv => whnf)
      | exact trivial
      | (refine Br.mk (fun hb => ?_) (fun hb => ?_) <;> (first | (exfalso; revert hb; decide) | ((try simp only [BL] at hb) <;> (try simp only [DL] at hb) <;> (first | (exfalso; omega) | (conv => whnf)))))
      | (refine And.intro ?_ ?_; (focus (first | exact id | exact rfl | exact trivial | (intro hg; first | exact hg | exact rfl | (simp; done) | (simp at hg ⊢; assumption)) | omega | decide | exact is2_c _ _ _ | exact is1_c _ _ | exact isS_c _ _ | exact isB_c _ _ | exact Nat.le_refl _ | assumption | exact mulLe (by decide) (by omega) | exact mulLe2 (by decide) (by omega) (by omega) | (intros; simp only [BL] at *; omega) | (intros; (try simp only [BL] at *); (try simp only [DL] at *); omega) | (intros; simp only [BL] at *; rw [wr_id (by omega) (by omega)]; omega) | (intro h1 h2; exact Bool.and_eq_true_iff.2 ⟨h1, h2⟩) | (intros; simp_all; done))); conv => whnf)
      | (refine Or.inr (And.intro rfl ?_); first | (refine congrArg intV ?_) | (refine congrArg boolV ?_) | (refine tupII ?_ ?_) | (refine tupIII ?_ ?_ ?_) | (refine tupU ?_ ?_ ?_ ?_ ?_) | exact rfl))
    · refine And.intro (fun _ => ?_) (fun hg => absurd hg (by simp))
      refine CallG.mk (Fn.mono (shChk s hs) ?_)
      rintro obs r ⟨rfl, rfl⟩
      conv => whnf
      repeat' (first
        | (refine NilG.mk fun bn hbn hbx => ?_; conv => whnf)
        | (refine Both.mk ?_ ?_ <;> conv => whnf)
        | exact trivial
        | (refine Br.mk (fun hb => ?_) (fun hb => ?_) <;> (first | (exfalso; revert hb; decide) | ((try simp only [BL] at hb) <;> (try simp only [DL] at hb) <;> (first | (exfalso; omega) | (conv => whnf)))))
        | (refine And.intro ?_ ?_; (focus (first | exact id | exact rfl | exact trivial | (intro hg; first | exact hg | exact rfl | (simp; done) | (simp at hg ⊢; assumption)) | omega | decide | exact is2_c _ _ _ | exact is1_c _ _ | exact isS_c _ _ | exact isB_c _ _ | exact Nat.le_refl _ | assumption | exact mulLe (by decide) (by omega) | exact mulLe2 (by decide) (by omega) (by omega) | (intros; simp only [BL] at *; omega) | (intros; (try simp only [BL] at *); (try simp only [DL] at *); omega) | (intros; simp only [BL] at *; rw [wr_id (by omega) (by omega)]; omega) | (intro h1 h2; exact Bool.and_eq_true_iff.2 ⟨h1, h2⟩) | (intros; simp_all; done))); conv => whnf)
        | (refine Or.inr (And.intro rfl ?_); first | (refine congrArg intV ?_) | (refine congrArg boolV ?_) | (refine tupII ?_ ?_) | (refine tupIII ?_ ?_ ?_) | (refine tupU ?_ ?_ ?_ ?_ ?_) | exact rfl))
      simp
  refine CallG.mk (Fn.mono (shNew0 s hs h0) ?_)
  rintro obs r ⟨rfl, rfl⟩
  conv => whnf
  repeat' (first
    | (refine NilG.mk fun bn hbn hbx => ?_; conv => whnf)
    | (refine Both.mk ?_ ?_ <;> conv => whnf)
    | exact trivial
    | (refine Br.mk (fun hb => ?_) (fun hb => ?_) <;> (first | (exfalso; revert hb; decide) | ((try simp only [BL] at hb) <;> (try simp only [DL] at hb) <;> conv => whnf)))
    | (refine And.intro ?_ ?_; (focus (first | exact id | exact rfl | exact trivial | (intro hg; first | exact hg | exact rfl | (simp; done) | (simp at hg ⊢; assumption)) | omega | decide | exact is2_c _ _ _ | exact is1_c _ _ | exact isS_c _ _ | exact isB_c _ _ | exact Nat.le_refl _ | assumption | exact mulLe (by decide) (by omega) | exact mulLe2 (by decide) (by omega) (by omega) | (intros; simp only [BL] at *; omega) | (intros; (try simp only [BL] at *); (try simp only [DL] at *); omega) | (intros; simp only [BL] at *; rw [wr_id (by omega) (by omega)]; omega) | (intro h1 h2; exact Bool.and_eq_true_iff.2 ⟨h1, h2⟩) | (intros; simp_all; done))); conv => whnf)
    | (refine Or.inr (And.intro rfl ?_); first | (refine congrArg intV ?_) | (refine congrArg boolV ?_) | (refine tupII ?_ ?_) | (refine tupIII ?_ ?_ ?_) | (refine tupU ?_ ?_ ?_ ?_ ?_) | exact rfl))
  refine CallG.mk (Fn.mono (shErr s hs) ?_)
  rintro obs r ⟨rfl, rfl⟩
  rw [h0]
  conv => whnf
  repeat' (first
    | (refine NilG.mk fun bn hbn hbx => ?_; conv => whnf)
    | (refine Both.mk ?_ ?_ <;> conv => whnf)
    | exact trivial
    | (refine Br.mk (fun hb => ?_) (fun hb => ?_) <;> (first | (exfalso; revert hb; decide) | ((try simp only [BL] at hb) <;> (try simp only [DL] at hb) <;> conv => whnf)))
    | (refine And.intro ?_ ?_; (focus (first | exact id | exact rfl | exact trivial | (intro hg; first | exact hg | exact rfl | (simp; done) | (simp at hg ⊢; assumption)) | omega | decide | exact is2_c _ _ _ | exact is1_c _ _ | exact isS_c _ _ | exact isB_c _ _ | exact Nat.le_refl _ | assumption | exact mulLe (by decide) (by omega) | exact mulLe2 (by decide) (by omega) (by omega) | (intros; simp only [BL] at *; omega) | (intros; (try simp only [BL] at *); (try simp only [DL] at *); omega) | (intros; simp only [BL] at *; rw [wr_id (by omega) (by omega)]; omega) | (intro h1 h2; exact Bool.and_eq_true_iff.2 ⟨h1, h2⟩) | (intros; simp_all; done))); conv => whnf)
    | (refine Or.inr (And.intro rfl ?_); first | (refine congrArg intV ?_) | (refine congrArg boolV ?_) | (refine tupII ?_ ?_) | (refine tupIII ?_ ?_ ?_) | (refine tupU ?_ ?_ ?_ ?_ ?_) | exact rfl))
  refine And.intro (fun _ => ?_) (fun hg => absurd hg (by decide))
  refine CallG.mk (Fn.mono (shChk s hs) ?_)
  rintro obs r ⟨rfl, rfl⟩
  rw [h0]
  conv => whnf
  repeat' (first
    | (refine NilG.mk fun bn hbn hbx => ?_; conv => whnf)
    | (refine Both.mk ?_ ?_ <;> conv => whnf)
    | exact trivial
    | (refine Br.mk (fun hb => ?_) (fun hb => ?_) <;> (first | (exfalso; revert hb; decide) | ((try simp only [BL] at hb) <;> (try simp only [DL] at hb) <;> (first | (exfalso; omega) | (conv => whnf)))))
    | (refine And.intro ?_ ?_; (focus (first | exact id | exact rfl | exact trivial | (intro hg; first | exact hg | exact rfl | (simp; done) | (simp at hg ⊢; assumption)) | omega | decide | exact is2_c _ _ _ | exact is1_c _ _ | exact isS_c _ _ | exact isB_c _ _ | exact Nat.le_refl _ | assumption | exact mulLe (by decide) (by omega) | exact mulLe2 (by decide) (by omega) (by omega) | (intros; simp only [BL] at *; omega) | (intros; (try simp only [BL] at *); (try simp only [DL] at *); omega) | (intros; simp only [BL] at *; rw [wr_id (by omega) (by omega)]; omega) | (intro h1 h2; exact Bool.and_eq_true_iff.2 ⟨h1, h2⟩) | exact ⟨by omega, by omega⟩ | (intros; simp_all; done))); conv => whnf)
    | (refine Or.inr (And.intro rfl ?_); first | (refine congrArg intV ?_) | (refine congrArg boolV ?_) | (refine tupII ?_ ?_) | (refine tupIII ?_ ?_ ?_) | (refine tupU ?_ ?_ ?_ ?_ ?_) | exact rfl))
  obtain ⟨h8, hsk⟩ := shE_ok h0
  have hlt : ∀ k, k < s.m → s.nl k ≤ 12 := fun k hk => (hsk k hk).2
  have hrg : ∀ k, k < s.m → rgB s k := fun k hk => (hsk k hk).1
  obtain ⟨M, hM⟩ : ∃ M, M = (min (N : Int) 25).toNat - Int.toNat 0 := ⟨_, rfl⟩
  have hM25 : M ≤ 25 := by rw [hM, show Int.toNat 0 = 0 from rfl]; omega
  rw [← hM]
  have hz0 : acOk s (fun _ => 0) 0 [] := ⟨Nat.le_refl _, fun k hk => (List.not_mem_nil hk).elim, fun k hk => ⟨fun h => (List.not_mem_nil h).elim, fun h => absurd h (act_zero (hrg k hk).2.1)⟩⟩
  refine LoopG.nil 11 9 1 rfl ?_
  refine LoopG.nil 13 3 1 rfl ?_
  clear hb
  refine sem_loop tab_ok gamSl_ok mixed (by kernel_rfl) (O := lex) (fun y : Nat × Nat × (Nat → Int) × List Nat => ⟨[(0, .c (.sl 3 s.m (cShs s))), (9, .lp 0 0), (11, .own 4), (13, .own 5), (86, .c (.sl 1 M (c1 fun k => fr (Int.toNat 0 + k)))), (87, intV M), (88, intV y.1)], [.box [.own 1, .own 2, .own 3], stR s, ciR s.m (cnF s y.2.2.1 y.2.1), liR y.2.2.2, lsR (flL s y.2.2.2), ciR y.2.1 y.2.2.1]⟩) (fun y => y.1 ≤ M ∧ y.2.1 ≤ y.1 ∧ acOk s y.2.2.1 y.2.1 y.2.2.2) (fun y => M - y.1) ⟨(0, 0, (fun _ => 0), []), [?_, ?_, ?_, ?_, ?_, ?_], ⟨Nat.zero_le _, Nat.le_refl _, hz0⟩, ?_⟩ fun y hy => ?_
  rotate_left 6
  · refine Sub.of ?_ ?_ ?_
    repeat' (first | (refine And.intro ?_ ?_) | exact trivial | exact fun _ _ _ => hsc _ _ | (exact congrArg intV (by first | with_reducible rfl | with_reducible assumption)) | exact (rfl : AV.idsLt _ _ = true) | exact (rfl : _ = AV.ren _ (.own _)) | exact (rfl : _ = AV.ren _ (.fn _ _)) | exact (rfl : _ = AV.ren _ (.gh _)) | (exact congrArg intV (by assumption)) | (refine congrArg intV ((wr_id (by omega) (by omega)).trans (by omega))) | exact rfl | (simp only [Int.toNat_natCast, Int.toNat_zero, Nat.sub_zero, Nat.zero_add]; first | exact rfl | done) | exact all0 | exact fun h => Bool.noConfusion h | exact fun _ _ _ _ => rfl | omega)
    · intro a ha b hb9
      match b, hb9 with
      | 0, _ =>
        have h1 := (hrg a ha).2.1
        refine congrArg iL ?_
        show (0 : Int) = min ((0 : Nat) : Int) (s.wa a)
        omega
  obtain ⟨i, t, g, ac⟩ := y
  obtain ⟨hi, hti, hac⟩ := hy
  dsimp only at hi hti hac ⊢
  have hac8 := hac.1
  have hfs : ∀ l : List Nat, (∀ k, k ∈ l → k < s.m) → (flL s l).length ≤ 12 * l.length := fun l hl => flL_len fun k hk => hlt k (hl k hk)
  have hfa := hfs ac hac.2.1
  have hb8 : e3.bytes = 8 := rfl
  have hb16 : e9.bytes = 16 := rfl
  conv => whnf
  repeat' (first
    | (refine NilG.mk fun bn hbn hbx => ?_; conv => whnf)
    | (refine Both.mk ?_ ?_ <;> conv => whnf)
    | exact trivial
    | (refine Br.mk (fun hb => ?_) (fun hb => ?_) <;> (first | (exfalso; revert hb; decide) | ((try simp only [BL] at hb) <;> (try simp only [DL] at hb) <;> (first | (exfalso; omega) | (conv => whnf)))))
    | (refine And.intro ?_ ?_; (focus (first | exact id | exact rfl | exact trivial | (intro hg; first | exact hg | exact rfl | (simp; done) | (simp at hg ⊢; assumption)) | omega | decide | exact is2_c _ _ _ | exact is1_c _ _ | exact isS_c _ _ | exact isB_c _ _ | exact Nat.le_refl _ | assumption | exact mulLe (by decide) (by omega) | exact mulLe2 (by decide) (by omega) (by omega) | (intros; simp only [BL] at *; omega) | (intros; (try simp only [BL] at *); (try simp only [DL] at *); omega) | (intros; simp only [BL] at *; rw [wr_id (by omega) (by omega)]; omega) | (intro h1 h2; exact Bool.and_eq_true_iff.2 ⟨h1, h2⟩) | first | exact ⟨rfl, by omega, by decide⟩ | (intros; simp_all; done))); conv => whnf)
    | (refine Or.inr (And.intro rfl ?_); first | (refine congrArg intV ?_) | (refine congrArg boolV ?_) | (refine tupII ?_ ?_) | (refine tupIII ?_ ?_ ?_) | (refine tupU ?_ ?_ ?_ ?_ ?_) | exact rfl))
  · obtain ⟨f, hf⟩ : ∃ f, f = fr (Int.toNat 0 + i) := ⟨_, rfl⟩
    have hc60 : ∀ k, k < s.m → 0 ≤ cnF s g t k ∧ cnF s g t k ≤ 60 := fun k hk => by
      have h1 := (hrg k hk).2
      unfold cnF
      omega
    subst hf
    by_cases hr : -10000 ≤ fr (Int.toNat 0 + i) ∧ fr (Int.toNat 0 + i) ≤ 10000
    rotate_left
    · refine CallG.wr [0, 1, 2, 3] rfl (FnM.mono (shStepE s (cnF s g t) (fr (Int.toNat 0 + i)) ac hr) ?_)
      rintro obs r ⟨rfl, rfl⟩
      conv => whnf
      repeat' (first
        | (refine NilG.mk fun bn hbn hbx => ?_; conv => whnf)
        | (refine Both.mk ?_ ?_ <;> conv => whnf)
        | exact trivial
        | (refine Br.mk (fun hb => ?_) (fun hb => ?_) <;> (first | (exfalso; revert hb; decide) | ((try simp only [BL] at hb) <;> (try simp only [DL] at hb) <;> (first | (exfalso; omega) | (conv => whnf)))))
        | (refine And.intro ?_ ?_; (focus (first | exact id | exact rfl | exact trivial | (intro hg; first | exact hg | exact rfl | (simp; done) | (simp at hg ⊢; assumption)) | omega | decide | exact is2_c _ _ _ | exact is1_c _ _ | exact isS_c _ _ | exact isB_c _ _ | exact Nat.le_refl _ | assumption | exact mulLe (by decide) (by omega) | exact mulLe2 (by decide) (by omega) (by omega) | (intros; simp only [BL] at *; omega) | (intros; (try simp only [BL] at *); (try simp only [DL] at *); omega) | (intros; simp only [BL] at *; rw [wr_id (by omega) (by omega)]; omega) | (intro h1 h2; exact Bool.and_eq_true_iff.2 ⟨h1, h2⟩) | (intros; simp_all; done))); conv => whnf)
        | (refine Or.inr (And.intro rfl ?_); first | (refine congrArg intV ?_) | (refine congrArg boolV ?_) | (refine tupII ?_ ?_) | (refine tupIII ?_ ?_ ?_) | (refine tupU ?_ ?_ ?_ ?_ ?_) | exact rfl))
      all_goals first | exact absurd trivial hb | skip
      have e88 : IntKind.i64.wrap ((i : Int) + 1) = ((i + 1 : Nat) : Int) := (wr_id (by omega) (by omega)).trans (by omega)
      refine ⟨(i + 1, t, g, ac), [?_, ?_, ?_, ?_, ?_, ?_], ⟨by show i + 1 ≤ M; omega, by show t ≤ i + 1; omega, hac⟩, by show M - (i + 1) < M - i; omega, ?_⟩
      rotate_left 6
      refine Sub.of ?_ ?_ ?_
      repeat' (first | (refine And.intro ?_ ?_) | exact trivial | exact fun _ _ _ => hsc _ _ | (exact congrArg intV (by first | with_reducible rfl | with_reducible assumption)) | exact (rfl : AV.idsLt _ _ = true) | exact (rfl : _ = AV.ren _ (.own _)) | exact (rfl : _ = AV.ren _ (.fn _ _)) | exact (rfl : _ = AV.ren _ (.gh _)) | (exact congrArg intV (by assumption)) | (refine congrArg intV ((wr_id (by omega) (by omega)).trans (by omega))) | exact rfl | (simp only [Int.toNat_natCast, Int.toNat_zero, Nat.sub_zero, Nat.zero_add]; first | exact rfl | done) | exact all0 | exact fun h => Bool.noConfusion h | exact fun _ _ _ _ => rfl | omega)
    apply shareP True
    · intro key
      refine CallG.wr [0, 1, 2, 3] rfl (FnM.mono (shStep0 s (cnF s g t) (fr (Int.toNat 0 + i)) ac h8 hsk hr hc60 (by omega)) ?_)
      rintro obs r ⟨rfl, ⟨hnil, rfl⟩ | ⟨-, rfl⟩⟩
      · conv => whnf
        repeat' (first
          | (refine NilG.mk fun bn hbn hbx => ?_; conv => whnf)
          | (refine Both.mk ?_ ?_ <;> conv => whnf)
          | exact trivial
          | (refine Br.mk (fun hb => ?_) (fun hb => ?_) <;> (first | (exfalso; revert hb; decide) | ((try simp only [BL] at hb) <;> (try simp only [DL] at hb) <;> (first | (exfalso; omega) | (conv => whnf)))))
          | (refine And.intro ?_ ?_; (focus (first | exact id | exact rfl | exact trivial | (intro hg; first | exact hg | exact rfl | (simp; done) | (simp at hg ⊢; assumption)) | omega | decide | exact is2_c _ _ _ | exact is1_c _ _ | exact isS_c _ _ | exact isB_c _ _ | exact Nat.le_refl _ | assumption | exact mulLe (by decide) (by omega) | exact mulLe2 (by decide) (by omega) (by omega) | (intros; simp only [BL] at *; omega) | (intros; (try simp only [BL] at *); (try simp only [DL] at *); omega) | (intros; simp only [BL] at *; rw [wr_id (by omega) (by omega)]; omega) | (intro h1 h2; exact Bool.and_eq_true_iff.2 ⟨h1, h2⟩) | (rw [hb8]; omega) | (intros; simp_all; done))); conv => whnf)
          | (refine Or.inr (And.intro rfl ?_); first | (refine congrArg intV ?_) | (refine congrArg boolV ?_) | (refine tupII ?_ ?_) | (refine tupIII ?_ ?_ ?_) | (refine tupU ?_ ?_ ?_ ?_ ?_) | exact rfl))
        refine LoopG.nil 18 9 1 rfl ?_
        refine LoopG.sub (S' := ⟨[(0, .c (.sl 3 s.m (cShs s))), (9, .lp 0 0), (11, .own 4), (13, .own 5), (16, .own 6), (17, intV 0), (18, .own 7), (86, .c (.sl 1 M (c1 fun k => fr (Int.toNat 0 + k)))), (87, intV M), (88, intV i), (112, .c (.sl 3 s.m (cShs s))), (113, intV s.m), (114, intV 0)], [.box [.own 1, .own 2, .own 3], stR s, ciR s.m (cnF s (psh g t (fr (Int.toNat 0 + i))) (t + 1)), liR (ac ++ nwL s (cnF s g t) (fr (Int.toNat 0 + i)) ac s.m), lsR (flL s ac), ciR (t + 1) (psh g t (fr (Int.toNat 0 + i))), lsR (flL s (nwL s (cnF s g t) (fr (Int.toNat 0 + i)) ac s.m)), lsR []]⟩) (key.v trivial) ?_
        refine ⟨0, [0, 1, 2, 3, 4, 8, 6, 9], trivial, by decide, ?_⟩
        refine Sub.of ?_ ?_ ?_
        repeat' (first | (refine And.intro ?_ ?_) | exact trivial | exact fun _ _ _ => hsc _ _ | (exact congrArg intV (by first | with_reducible rfl | with_reducible assumption)) | exact (rfl : AV.idsLt _ _ = true) | exact (rfl : _ = AV.ren _ (.own _)) | exact (rfl : _ = AV.ren _ (.fn _ _)) | exact (rfl : _ = AV.ren _ (.gh _)) | (exact congrArg intV (by assumption)) | (refine congrArg intV ((wr_id (by omega) (by omega)).trans (by omega))) | exact rfl | (simp only [Int.toNat_natCast, Int.toNat_zero, Nat.sub_zero, Nat.zero_add]; first | exact rfl | done) | exact all0 | exact fun h => Bool.noConfusion h | exact fun _ _ _ _ => rfl | omega)
        · intro a ha b hb9
          match b, hb9 with
          | 0, _ => exact congrArg iL (cn_next (hrg a ha))
        · exact congrArg List.length ((List.append_nil ac).symm.trans (congrArg (fun l => ac ++ l) hnil.symm))
        · exact fun a _ b _ => congrArg (fun l => c1 (lI l) a b) ((List.append_nil ac).symm.trans (congrArg (fun l => ac ++ l) hnil.symm))
        · intro a ha b hb9
          have hb9 : b < 1 := hb9
          match b, hb9 with
          | 0, _ =>
            show _ = iL (if a < t then g a else (fr (Int.toNat 0 + i)))
            by_cases e : a < t
            · exact (if_pos e).trans (congrArg iL (if_pos e).symm)
            · refine (if_neg e).trans ?_
              rw [if_neg e, show a - t = 0 by omega]
              rfl
      · conv => whnf
        repeat' (first
          | (refine NilG.mk fun bn hbn hbx => ?_; conv => whnf)
          | (refine Both.mk ?_ ?_ <;> conv => whnf)
          | exact trivial
          | (refine Br.mk (fun hb => ?_) (fun hb => ?_) <;> (first | (exfalso; revert hb; decide) | ((try simp only [BL] at hb) <;> (try simp only [DL] at hb) <;> (first | (exfalso; omega) | (conv => whnf)))))
          | (refine And.intro ?_ ?_; (focus (first | exact id | exact rfl | exact trivial | (intro hg; first | exact hg | exact rfl | (simp; done) | (simp at hg ⊢; assumption)) | omega | decide | exact is2_c _ _ _ | exact is1_c _ _ | exact isS_c _ _ | exact isB_c _ _ | exact Nat.le_refl _ | assumption | exact mulLe (by decide) (by omega) | exact mulLe2 (by decide) (by omega) (by omega) | (intros; simp only [BL] at *; omega) | (intros; (try simp only [BL] at *); (try simp only [DL] at *); omega) | (intros; simp only [BL] at *; rw [wr_id (by omega) (by omega)]; omega) | (intro h1 h2; exact Bool.and_eq_true_iff.2 ⟨h1, h2⟩) | (rw [hb8]; omega) | (intros; simp_all; done))); conv => whnf)
          | (refine Or.inr (And.intro rfl ?_); first | (refine congrArg intV ?_) | (refine congrArg boolV ?_) | (refine tupII ?_ ?_) | (refine tupIII ?_ ?_ ?_) | (refine tupU ?_ ?_ ?_ ?_ ?_) | exact rfl))
        refine LoopG.nil 18 9 1 rfl ?_
        refine LoopG.sub (S' := ⟨[(0, .c (.sl 3 s.m (cShs s))), (9, .lp 0 0), (11, .own 4), (13, .own 5), (16, .own 6), (17, intV 0), (18, .own 7), (86, .c (.sl 1 M (c1 fun k => fr (Int.toNat 0 + k)))), (87, intV M), (88, intV i), (112, .c (.sl 3 s.m (cShs s))), (113, intV s.m), (114, intV 0)], [.box [.own 1, .own 2, .own 3], stR s, ciR s.m (cnF s (psh g t (fr (Int.toNat 0 + i))) (t + 1)), liR (ac ++ nwL s (cnF s g t) (fr (Int.toNat 0 + i)) ac s.m), lsR (flL s ac), ciR (t + 1) (psh g t (fr (Int.toNat 0 + i))), lsR (flL s (nwL s (cnF s g t) (fr (Int.toNat 0 + i)) ac s.m)), lsR []]⟩) (key.v trivial) ?_
        refine ⟨0, [0, 1, 2, 7, 4, 9, 6, 10], trivial, by decide, ?_⟩
        refine Sub.of ?_ ?_ ?_
        repeat' (first | (refine And.intro ?_ ?_) | exact trivial | exact fun _ _ _ => hsc _ _ | (exact congrArg intV (by first | with_reducible rfl | with_reducible assumption)) | exact (rfl : AV.idsLt _ _ = true) | exact (rfl : _ = AV.ren _ (.own _)) | exact (rfl : _ = AV.ren _ (.fn _ _)) | exact (rfl : _ = AV.ren _ (.gh _)) | (exact congrArg intV (by assumption)) | (refine congrArg intV ((wr_id (by omega) (by omega)).trans (by omega))) | exact rfl | (simp only [Int.toNat_natCast, Int.toNat_zero, Nat.sub_zero, Nat.zero_add]; first | exact rfl | done) | exact all0 | exact fun h => Bool.noConfusion h | exact fun _ _ _ _ => rfl | omega)
        · intro a ha b hb9
          match b, hb9 with
          | 0, _ => exact congrArg iL (cn_next (hrg a ha))
        · intro a ha b hb9
          have hb9 : b < 1 := hb9
          match b, hb9 with
          | 0, _ =>
            show _ = iL (if a < t then g a else (fr (Int.toNat 0 + i)))
            by_cases e : a < t
            · exact (if_pos e).trans (congrArg iL (if_pos e).symm)
            · refine (if_neg e).trans ?_
              rw [if_neg e, show a - t = 0 by omega]
              rfl
    · intro _
      have hac' := ac_next (f := fr (Int.toNat 0 + i)) h8 hrg hac
      refine sem_loop tab_ok gamSl_ok mixed (by kernel_rfl) (O := lex) (fun k : Nat => ⟨[(0, .c (.sl 3 s.m (cShs s))), (9, .lp 0 0), (11, .own 4), (13, .own 5), (16, .own 6), (17, intV 0), (18, .own 7), (86, .c (.sl 1 M (c1 fun k => fr (Int.toNat 0 + k)))), (87, intV M), (88, intV i), (112, .c (.sl 3 s.m (cShs s))), (113, intV s.m), (114, intV k)], [.box [.own 1, .own 2, .own 3], stR s, ciR s.m (cnF s (psh g t (fr (Int.toNat 0 + i))) (t + 1)), liR (ac ++ nwL s (cnF s g t) (fr (Int.toNat 0 + i)) ac s.m), lsR (flL s ac), ciR (t + 1) (psh g t (fr (Int.toNat 0 + i))), lsR (flL s (nwL s (cnF s g t) (fr (Int.toNat 0 + i)) ac s.m)), lsR (flL s (nwL s (cnF s g t) (fr (Int.toNat 0 + i)) ac k))]⟩) (fun k => k ≤ s.m) (fun k => s.m - k) ⟨0, [?_, ?_, ?_, ?_, ?_, ?_, ?_, ?_], Nat.zero_le _, ?_⟩ fun k hk => ?_
      rotate_left 8
      · refine Sub.of ?_ ?_ ?_
        repeat' (first | (refine And.intro ?_ ?_) | exact trivial | exact fun _ _ _ => hsc _ _ | (exact congrArg intV (by first | with_reducible rfl | with_reducible assumption)) | exact (rfl : AV.idsLt _ _ = true) | exact (rfl : _ = AV.ren _ (.own _)) | exact (rfl : _ = AV.ren _ (.fn _ _)) | exact (rfl : _ = AV.ren _ (.gh _)) | (exact congrArg intV (by assumption)) | (refine congrArg intV ((wr_id (by omega) (by omega)).trans (by omega))) | exact rfl | (simp only [Int.toNat_natCast, Int.toNat_zero, Nat.sub_zero, Nat.zero_add]; first | exact rfl | done) | exact all0 | exact fun h => Bool.noConfusion h | exact fun _ _ _ _ => rfl | omega)
      have hln := nwL_len (s := s) (cnt := cnF s g t) (f := fr (Int.toNat 0 + i)) (ac := ac) k
      have hfk := hfs (nwL s (cnF s g t) (fr (Int.toNat 0 + i)) ac k) fun j hj => by have := nwL_lt hj; omega
      by_cases hkm : k < s.m
      · have hwk := (hrg k hkm).2
        have hl12 := hlt k hkm
        have hl9 : s.nl (k : Int).toNat ≤ 12 := by rw [Int.toNat_natCast]; exact hl12
        have eT : IntKind.i64.wrap (((t + 1 : Nat) : Int) - 1) = (t : Int) := (wr_id (by omega) (by omega)).trans (by omega)
        have hA2 : actB (fun q => psh g t (fr (Int.toNat 0 + i)) (Int.toNat 0 + q)) (s.be k) (s.wa k) ((IntKind.i64.wrap (((t + 1 : Nat) : Int) - 1)).toNat - Int.toNat 0) = true ↔ actP (psh g t (fr (Int.toNat 0 + i))) (s.be k) (s.wa k) t := by
          rw [show (IntKind.i64.wrap (((t + 1 : Nat) : Int) - 1)).toNat - Int.toNat 0 = t by rw [eT, show Int.toNat 0 = 0 from rfl]; omega]
          exact (actB_iff hwk.1 _).trans ⟨act_congr fun q _ => congrArg (psh g t (fr (Int.toNat 0 + i))) (by show 0 + q = q; omega), act_congr fun q _ => congrArg (psh g t (fr (Int.toNat 0 + i))) (by show q = 0 + q; omega)⟩
        have eT2 : (IntKind.i64.wrap (((t + 1 : Nat) : Int) - 1)).toNat = t := by rw [eT]; omega
        conv => whnf
        repeat' (first
          | (refine NilG.mk fun bn hbn hbx => ?_; conv => whnf)
          | (refine Both.mk ?_ ?_ <;> conv => whnf)
          | exact trivial
          | (refine Br.mk (fun hb => ?_) (fun hb => ?_) <;> (first | (exfalso; revert hb; decide) | ((try simp only [BL] at hb) <;> (try simp only [DL] at hb) <;> (first | (exfalso; omega) | (conv => whnf)))))
          | (refine And.intro ?_ ?_; (focus (first | exact id | exact rfl | exact trivial | (intro hg; first | exact hg | exact rfl | (simp; done) | (simp at hg ⊢; assumption)) | omega | decide | exact is2_c _ _ _ | exact is1_c _ _ | exact isS_c _ _ | exact isB_c _ _ | exact Nat.le_refl _ | assumption | exact mulLe (by decide) (by omega) | exact mulLe2 (by decide) (by omega) (by omega) | (intros; simp only [BL] at *; omega) | (intros; (try simp only [BL] at *); (try simp only [DL] at *); omega) | (intros; simp only [BL] at *; rw [wr_id (by omega) (by omega)]; omega) | (intro h1 h2; exact Bool.and_eq_true_iff.2 ⟨h1, h2⟩) | first | exact ⟨rfl, by omega, by decide⟩ | exact ⟨isS_c _ _, is1_c _ _, hwk.1, hwk.2, by omega⟩ | exact fun _ => ⟨isS_c _ _, is1_c _ _, hwk.1, hwk.2, by rw [eT2]; omega⟩ | (intros; rw [eT]; omega) | (rw [hb16]; omega) | (intros; simp_all; done))); conv => whnf)
          | (refine Or.inr (And.intro rfl ?_); first | (refine congrArg intV ?_) | (refine congrArg boolV ?_) | (refine tupII ?_ ?_) | (refine tupIII ?_ ?_ ?_) | (refine tupU ?_ ?_ ?_ ?_ ?_) | exact rfl))
        · have hnw : nwP s (cnF s g t) (fr (Int.toNat 0 + i)) ac k := (nw_iff (hrg k hkm) hkm hac).2 ⟨(actB_iff hwk.1 _).1 hb.1, fun h => by
            have h9 : actB (fun q => psh g t (fr (Int.toNat 0 + i)) (Int.toNat 0 + q)) (s.be k) (s.wa k) ((IntKind.i64.wrap (((t + 1 : Nat) : Int) - 1)).toNat - Int.toNat 0) = false := hb.2
            rw [hA2.2 h] at h9
            cases h9⟩
          have hn : nwL s (cnF s g t) (fr (Int.toNat 0 + i)) ac (k + 1) = nwL s (cnF s g t) (fr (Int.toNat 0 + i)) ac k ++ [k] := if_pos hnw
          have e114 : IntKind.i64.wrap ((k : Int) + 1) = ((k + 1 : Nat) : Int) := (wr_id (by omega) (by omega)).trans (by omega)
          refine ⟨k + 1, [0, 1, 2, 3, 4, 5, 6, 9], by omega, by omega, ?_⟩
          refine Sub.of ?_ ?_ ?_
          repeat' (first | (refine And.intro ?_ ?_) | exact trivial | exact fun _ _ _ => hsc _ _ | (exact congrArg intV (by first | with_reducible rfl | with_reducible assumption)) | exact (rfl : AV.idsLt _ _ = true) | exact (rfl : _ = AV.ren _ (.own _)) | exact (rfl : _ = AV.ren _ (.fn _ _)) | exact (rfl : _ = AV.ren _ (.gh _)) | (exact congrArg intV (by assumption)) | (refine congrArg intV ((wr_id (by omega) (by omega)).trans (by omega))) | exact rfl | (simp only [Int.toNat_natCast, Int.toNat_zero, Nat.sub_zero, Nat.zero_add]; first | exact rfl | done) | exact all0 | exact fun h => Bool.noConfusion h | exact fun _ _ _ _ => rfl | omega)
          · exact ((congrArg (fun l => (flL s l).length) hn).trans (apS_len s _ k)).symm
          · exact fun a ha b hb => (apS a ha b hb).trans (congrArg (fun l => cS (lS (flL s l)) a b) hn.symm)
        · have hn : nwL s (cnF s g t) (fr (Int.toNat 0 + i)) ac (k + 1) = nwL s (cnF s g t) (fr (Int.toNat 0 + i)) ac k := if_neg fun h => by
            obtain ⟨h1, h2⟩ := (nw_iff (hrg k hkm) hkm hac).1 h
            rcases hb with hb | hb
            · have h9 : actB (psh g t (fr (Int.toNat 0 + i))) (s.be k) (s.wa k) (t + 1) = false := hb
              rw [(actB_iff hwk.1 _).2 h1] at h9
              cases h9
            · exact h2 (hA2.1 hb)
          have e114 : IntKind.i64.wrap ((k : Int) + 1) = ((k + 1 : Nat) : Int) := (wr_id (by omega) (by omega)).trans (by omega)
          refine ⟨k + 1, [0, 1, 2, 3, 4, 5, 6, 7], by omega, by omega, ?_⟩
          refine Sub.of ?_ ?_ ?_
          repeat' (first | (refine And.intro ?_ ?_) | exact trivial | exact fun _ _ _ => hsc _ _ | (exact congrArg intV (by first | with_reducible rfl | with_reducible assumption)) | exact (rfl : AV.idsLt _ _ = true) | exact (rfl : _ = AV.ren _ (.own _)) | exact (rfl : _ = AV.ren _ (.fn _ _)) | exact (rfl : _ = AV.ren _ (.gh _)) | (exact congrArg intV (by assumption)) | (refine congrArg intV ((wr_id (by omega) (by omega)).trans (by omega))) | exact rfl | (simp only [Int.toNat_natCast, Int.toNat_zero, Nat.sub_zero, Nat.zero_add]; first | exact rfl | done) | exact all0 | exact fun h => Bool.noConfusion h | exact fun _ _ _ _ => rfl | omega)
          · exact congrArg (fun l => (flL s l).length) hn.symm
          · exact fun a _ b _ => congrArg (fun l => cS (lS (flL s l)) a b) hn.symm
      · obtain rfl : k = s.m := by omega
        have hfn := hfs (nwL s (cnF s g t) (fr (Int.toNat 0 + i)) ac s.m) fun j hj => nwL_lt hj
        have hlm := nwL_len (s := s) (cnt := cnF s g t) (f := (fr (Int.toNat 0 + i))) (ac := ac) s.m
        conv => whnf
        repeat' (first
          | (refine NilG.mk fun bn hbn hbx => ?_; conv => whnf)
          | (refine Both.mk ?_ ?_ <;> conv => whnf)
          | exact trivial
          | (refine Br.mk (fun hb => ?_) (fun hb => ?_) <;> (first | (exfalso; revert hb; decide) | ((try simp only [BL] at hb) <;> (try simp only [DL] at hb) <;> (first | (exfalso; omega) | (conv => whnf)))))
          | (refine And.intro ?_ ?_; (focus (first | exact id | exact rfl | exact trivial | (intro hg; first | exact hg | exact rfl | (simp; done) | (simp at hg ⊢; assumption)) | omega | decide | exact is2_c _ _ _ | exact is1_c _ _ | exact isS_c _ _ | exact isB_c _ _ | exact Nat.le_refl _ | assumption | exact mulLe (by decide) (by omega) | exact mulLe2 (by decide) (by omega) (by omega) | (intros; simp only [BL] at *; omega) | (intros; (try simp only [BL] at *); (try simp only [DL] at *); omega) | (intros; simp only [BL] at *; rw [wr_id (by omega) (by omega)]; omega) | (intro h1 h2; exact Bool.and_eq_true_iff.2 ⟨h1, h2⟩) | first | exact fun _ => ⟨isS_c _ _, isS_c _ _, by omega, rfl, fun _ _ => rfl⟩ | (rw [hb16]; omega) | (intros; simp_all; done))); conv => whnf)
          | (refine Or.inr (And.intro rfl ?_); first | (refine congrArg intV ?_) | (refine congrArg boolV ?_) | (refine tupII ?_ ?_) | (refine tupIII ?_ ?_ ?_) | (refine tupU ?_ ?_ ?_ ?_ ?_) | exact rfl))
        have e88 : IntKind.i64.wrap ((i : Int) + 1) = ((i + 1 : Nat) : Int) := (wr_id (by omega) (by omega)).trans (by omega)
        refine ⟨(i + 1, t + 1, psh g t (fr (Int.toNat 0 + i)), ac ++ nwL s (cnF s g t) (fr (Int.toNat 0 + i)) ac s.m), [0, 1, 2, 3, 8, 5], ⟨by show i + 1 ≤ M; omega, by show t + 1 ≤ i + 1; omega, hac'⟩, by show M - (i + 1) < M - i; omega, ?_⟩
        refine Sub.of ?_ ?_ ?_
        repeat' (first | (refine And.intro ?_ ?_) | exact trivial | exact fun _ _ _ => hsc _ _ | (exact congrArg intV (by first | with_reducible rfl | with_reducible assumption)) | exact (rfl : AV.idsLt _ _ = true) | exact (rfl : _ = AV.ren _ (.own _)) | exact (rfl : _ = AV.ren _ (.fn _ _)) | exact (rfl : _ = AV.ren _ (.gh _)) | (exact congrArg intV (by assumption)) | (refine congrArg intV ((wr_id (by omega) (by omega)).trans (by omega))) | exact rfl | (simp only [Int.toNat_natCast, Int.toNat_zero, Nat.sub_zero, Nat.zero_add]; first | exact rfl | done) | exact all0 | exact fun h => Bool.noConfusion h | exact fun _ _ _ _ => rfl | omega)
        · exact ((congrArg List.length (flL_app s ac (nwL s (cnF s g t) (fr (Int.toNat 0 + i)) ac s.m))).trans List.length_append).symm
        · intro a ha b hb9
          match b, hb9 with
          | 0, _ =>
            show _ = sL (lS (flL s (ac ++ nwL s (cnF s g t) (fr (Int.toNat 0 + i)) ac s.m)) a)
            rw [flL_app, lS_app]
            by_cases e : a < (flL s ac).length
            · exact (if_pos e).trans (congrArg sL (if_pos e).symm)
            · exact (if_neg e).trans (congrArg sL (if_neg e).symm)
  refine CallG.wr [0, 1, 2, 3] rfl (FnM.mono (shOff s (cnF s g t) ac h8 hlt (by omega) hac.2.1) ?_)
  rintro obs r ⟨rfl, rfl⟩
  conv => whnf
  repeat' (first
    | (refine NilG.mk fun bn hbn hbx => ?_; conv => whnf)
    | (refine Both.mk ?_ ?_ <;> conv => whnf)
    | exact trivial
    | (refine Br.mk (fun hb => ?_) (fun hb => ?_) <;> (first | (exfalso; revert hb; decide) | ((try simp only [BL] at hb) <;> (try simp only [DL] at hb) <;> (first | (exfalso; omega) | (conv => whnf)))))
    | (refine And.intro ?_ ?_; (focus (first | exact id | exact rfl | exact trivial | (intro hg; first | exact hg | exact rfl | (simp; done) | (simp at hg ⊢; assumption)) | omega | decide | exact is2_c _ _ _ | exact is1_c _ _ | exact isS_c _ _ | exact isB_c _ _ | exact Nat.le_refl _ | assumption | exact mulLe (by decide) (by omega) | exact mulLe2 (by decide) (by omega) (by omega) | (intros; simp only [BL] at *; omega) | (intros; (try simp only [BL] at *); (try simp only [DL] at *); omega) | (intros; simp only [BL] at *; rw [wr_id (by omega) (by omega)]; omega) | (intro h1 h2; exact Bool.and_eq_true_iff.2 ⟨h1, h2⟩) | first | exact ⟨isS_c _ _, isS_c _ _, by have := hfs ac hac.2.1; omega, rfl, fun _ _ => rfl⟩ | (intros; simp_all; done))); conv => whnf)
    | (refine Or.inr (And.intro rfl ?_); first | (refine congrArg intV ?_) | (refine congrArg boolV ?_) | (refine tupII ?_ ?_) | (refine tupIII ?_ ?_ ?_) | (refine tupU ?_ ?_ ?_ ?_ ?_) | exact rfl))
  · rfl
theorem shedSays_own : ownKnob Try.prog.godebug = none := by kernel_rfl
theorem shedSays_laid : laidOutB Try.prog = true := by kernel_rfl

set_option maxRecDepth 100000 in
theorem shedSays_lifted (os : Os) (started : os.Started) (H : Type) (enc : TypeId × Value → H) :
    ReturnsInHanded {} Try.checked os 4 .any (Rows.shedSaysSpec.pre6 enc Try.prog Try.f4 Rows.shedSaysRow.domain false) (Rows.shedSaysSpec.post enc Try.prog Try.f4 false true false false) := by
  refine returnsInHanded_of_change (C := Try.checked) shedSays_own started (by kernel_rfl) Try.func4
    (ChangeSpec.witness6 (enc := enc) (C := Try.checked) false ⟨#[], #[.slice none 0 0, .slice none 0 0], []⟩ 8 (by kernel_rfl) (by kernel_rfl) (by kernel_rfl) (by kernel_rfl)) ?_
  intro W base args ds gs before hval0 hW hcnd _
  have hval : ∀ (j : Nat) t v, Try.f4.params[j]? = some t → args[j]? = some v → Value.okWide Try.prog W .any base t v := hval0
  have hW' : DataW.Whole enc Try.prog Try.f4.params.toList Rows.shedSaysSpec.vars false W args.toList ds gs before := hW
  exact law_post (P := Try.prog) [.sl (.st (.cons (.i .i64) (.cons (.i .i64) (.cons (.sl .s) .nil)))), .sl (.i .i64)] (by kernel_rfl) shedSays_laid (by kernel_rfl) rfl (tb := 4) rfl (by kernel_rfl) (fun ds h => by
    match ds, h with
    | [d1, d2], _ => rfl) (fun x hx => sdLaw ⟨x.1.1, fun k => (x.1.2 k).1, fun k => (x.1.2 k).2.1, fun k => (x.1.2 k).2.2.1.1, fun k j => (x.1.2 k).2.2.1.2 j⟩ x.2.1.1 x.2.1.2 ⟨hx.1.1, fun k hk => ⟨(hx.1.2 k hk).2.2.1.1, fun j hj => (hx.1.2 k hk).2.2.1.2 j hj⟩⟩ hx.2.1.1) W args ds gs before hval hW'

theorem shedSays_holds : Rows.ShedSaysSaid :=
  OpenClaim.holds_of_wide 4 Try.f4 rfl rfl rfl rfl rfl rfl rfl ⟨rfl, rfl, rfl, rfl, rfl⟩ rfl rfl rfl rfl rfl (by kernel_rfl) Try.func4 (by kernel_rfl)
    (of_decide_eq_true (by kernel_rfl)) (by unfold Func.isWrapper; rw [if_neg (by decide +kernel)]; exact ⟨rfl, rfl⟩)
    (fun os started H enc _ => shedSays_lifted os started H enc)
end Go.Proofs.Ytmhjkleknpdkgaa
