/-
  slices.Concat of two lists of pieces.
-/
import Derived.Test.YtkkkldhilofgmaaSfG
import Derived.Test.YtkkkldhilofgmaaCvxJ
namespace Go.Proofs.Ytkkkldhilofgmaa
open Go.RowKit

/-- one row behind the other -/
def cat (n : Nat) (p p' : Nat → Int) (i : Nat) : Int := if i < n then p i else p' (i - n)
/-- pieces, all cells scalars -/
def cX (p q : Nat → Int) : Nat → Nat → L := fun k j => match j with | 0 => iL (p k) | _ => iL (q k)
theorem scX (p q : Nat → Int) (k j : Nat) : ((cX p q) k j).scal = true := by
  unfold cX
  split <;> rfl
abbrev rowX (n : Nat) (p q : Nat → Int) : OB := .row 47 2 n true (cX p q)
theorem cxConcat (n n' : Nat) (p q p' q' : Nat → Int) (hn : n ≤ 64) (hn' : n' ≤ 64) : Fn Try.prog 69 [.c (.sl 1 2 fun k _ => if k = 0 then .sl 2 n (c2 p q) else .sl 2 n' (c2 p' q'))] (fun obs r => obs = [rowX (n + n') (cat n p p') (cat n q q')] ∧ r = .own 0) := by
  refine fn_of_wpx (O := lex) tab_ok gamZ_ok mixed Try.func69 (by kernel_rfl) rfl rfl rfl (by simp [Try.ntmps69]) (by kernel_rfl) ?_
  conv => whnf
  repeat' (first
    | (refine NilG.mk fun bn hbn hbx => ?_; conv => whnf)
    | (refine Both.mk ?_ ?_ <;> conv => whnf)
    | exact trivial
    | (refine Br.mk (fun hb => ?_) (fun hb => ?_) <;> (first | (exfalso; revert hb; decide) | ((try simp only [BL] at hb) <;> (try simp only [DL] at hb) <;> conv => whnf)))
    | (refine And.intro ?_ ?_; (focus (first | exact id | exact rfl | exact trivial | (intro hg; first | exact hg | exact rfl | (simp; done) | (simp at hg ⊢; assumption)) | omega | decide | exact is2_c _ _ _ | exact is1_c _ _ | exact isS_c _ _ | exact isB_c _ _ | exact Nat.le_refl _ | assumption | exact mulLe (by decide) (by omega) | exact mulLe2 (by decide) (by omega) (by omega) | (intros; simp only [BL] at *; omega) | (intros; (try simp only [BL] at *); (try simp only [DL] at *); omega) | (intros; simp only [BL] at *; rw [wr_id (by omega) (by omega)]; omega) | (intro h1 h2; exact Bool.and_eq_true_iff.2 ⟨h1, h2⟩) | (intros; simp_all; done))); conv => whnf)
    | (refine Or.inr (And.intro rfl ?_); first | (refine congrArg intV ?_) | (refine congrArg boolV ?_) | (refine tupII ?_ ?_) | (refine tupIII ?_ ?_ ?_) | (refine tupU ?_ ?_ ?_ ?_ ?_) | exact rfl))
  refine sem_loop tab_ok gamZ_ok mixed (by kernel_rfl) (O := lex) (fun i : Nat => ⟨[(0, .c (.sl 1 2 fun k _ => if k = 0 then .sl 2 n (c2 p q) else .sl 2 n' (c2 p' q'))), (3, intV (if i = 0 then 0 else if i = 1 then (n : Int) else (n + n' : Nat))), (9, .c (.sl 1 2 fun k _ => if k = 0 then .sl 2 n (c2 p q) else .sl 2 n' (c2 p' q'))), (10, intV 2), (11, intV i)], []⟩) (fun i => i ≤ 2) (fun i => 2 - i) ⟨0, [], Nat.zero_le _, ?_⟩ fun i hi => ?_
  · refine Sub.of ?_ ?_ ?_
    repeat' (first | (refine And.intro ?_ ?_) | exact trivial | exact fun _ _ _ => hsc _ _ | (exact congrArg intV (by first | with_reducible rfl | with_reducible assumption)) | exact (rfl : AV.idsLt _ _ = true) | exact (rfl : _ = AV.ren _ (.own _)) | exact (rfl : _ = AV.ren _ (.fn _ _)) | exact (rfl : _ = AV.ren _ (.gh _)) | (exact congrArg intV (by assumption)) | (refine congrArg intV ((wr_id (by omega) (by omega)).trans (by omega))) | exact rfl | (simp only [Int.toNat_natCast, Int.toNat_zero, Nat.sub_zero, Nat.zero_add]; first | exact rfl | done) | exact all0 | exact fun h => Bool.noConfusion h | exact fun _ _ _ _ => rfl | omega)
  match i, hi with
  | 0, _ =>
    have e : IntKind.i64.wrap ((if (0 : Nat) = 0 then (0 : Int) else if (0 : Nat) = 1 then (n : Int) else ((n + n' : Nat) : Int)) + (n : Int)) = (if (0 + 1 : Nat) = 0 then (0 : Int) else if (0 + 1 : Nat) = 1 then (n : Int) else ((n + n' : Nat) : Int)) := by
      simp
      exact wr_id (by omega) (by omega)
    conv => whnf
    repeat' (first
      | (refine NilG.mk fun bn hbn hbx => ?_; conv => whnf)
      | (refine Both.mk ?_ ?_ <;> conv => whnf)
      | exact trivial
      | (refine Br.mk (fun hb => ?_) (fun hb => ?_) <;> (first | (exfalso; revert hb; decide) | ((try simp only [BL] at hb) <;> (try simp only [DL] at hb) <;> conv => whnf)))
      | (refine And.intro ?_ ?_; (focus (first | exact id | exact rfl | exact trivial | (intro hg; first | exact hg | exact rfl | (simp; done) | (simp at hg ⊢; assumption)) | omega | decide | exact is2_c _ _ _ | exact is1_c _ _ | exact isS_c _ _ | exact isB_c _ _ | exact Nat.le_refl _ | assumption | exact mulLe (by decide) (by omega) | exact mulLe2 (by decide) (by omega) (by omega) | (intros; simp only [BL] at *; omega) | (intros; (try simp only [BL] at *); (try simp only [DL] at *); omega) | (intros; simp only [BL] at *; rw [wr_id (by omega) (by omega)]; omega) | (intro h1 h2; exact Bool.and_eq_true_iff.2 ⟨h1, h2⟩) | (intros; simp_all; done))); conv => whnf)
      | (refine Or.inr (And.intro rfl ?_); first | (refine congrArg intV ?_) | (refine congrArg boolV ?_) | (refine tupII ?_ ?_) | (refine tupIII ?_ ?_ ?_) | (refine tupU ?_ ?_ ?_ ?_ ?_) | exact rfl))
    · have hb : IntKind.i64.wrap ((if (0 : Nat) = 0 then (0 : Int) else if (0 : Nat) = 1 then (n : Int) else ((n + n' : Nat) : Int)) + (n : Int)) < 0 := by simpa using hb
      rw [e] at hb
      simp at hb
      omega
    · refine ⟨0 + 1, [], by omega, by omega, ?_⟩
      refine Sub.of ?_ ?_ ?_
      repeat' (first | (refine And.intro ?_ ?_) | exact trivial | exact fun _ _ _ => hsc _ _ | (exact congrArg intV (by first | with_reducible rfl | with_reducible assumption)) | exact (rfl : AV.idsLt _ _ = true) | exact (rfl : _ = AV.ren _ (.own _)) | exact (rfl : _ = AV.ren _ (.fn _ _)) | exact (rfl : _ = AV.ren _ (.gh _)) | (exact congrArg intV (by assumption)) | (refine congrArg intV ((wr_id (by omega) (by omega)).trans (by omega))) | exact rfl | (simp only [Int.toNat_natCast, Int.toNat_zero, Nat.sub_zero, Nat.zero_add]; first | exact rfl | done) | exact all0 | exact fun h => Bool.noConfusion h | exact fun _ _ _ _ => rfl | omega)
  | 1, _ =>
    have e : IntKind.i64.wrap ((if (1 : Nat) = 0 then (0 : Int) else if (1 : Nat) = 1 then (n : Int) else ((n + n' : Nat) : Int)) + (n' : Int)) = (if (1 + 1 : Nat) = 0 then (0 : Int) else if (1 + 1 : Nat) = 1 then (n : Int) else ((n + n' : Nat) : Int)) := by
      simp
      exact wr_id (by omega) (by omega)
    conv => whnf
    repeat' (first
      | (refine NilG.mk fun bn hbn hbx => ?_; conv => whnf)
      | (refine Both.mk ?_ ?_ <;> conv => whnf)
      | exact trivial
      | (refine Br.mk (fun hb => ?_) (fun hb => ?_) <;> (first | (exfalso; revert hb; decide) | ((try simp only [BL] at hb) <;> (try simp only [DL] at hb) <;> conv => whnf)))
      | (refine And.intro ?_ ?_; (focus (first | exact id | exact rfl | exact trivial | (intro hg; first | exact hg | exact rfl | (simp; done) | (simp at hg ⊢; assumption)) | omega | decide | exact is2_c _ _ _ | exact is1_c _ _ | exact isS_c _ _ | exact isB_c _ _ | exact Nat.le_refl _ | assumption | exact mulLe (by decide) (by omega) | exact mulLe2 (by decide) (by omega) (by omega) | (intros; simp only [BL] at *; omega) | (intros; (try simp only [BL] at *); (try simp only [DL] at *); omega) | (intros; simp only [BL] at *; rw [wr_id (by omega) (by omega)]; omega) | (intro h1 h2; exact Bool.and_eq_true_iff.2 ⟨h1, h2⟩) | (intros; simp_all; done))); conv => whnf)
      | (refine Or.inr (And.intro rfl ?_); first | (refine congrArg intV ?_) | (refine congrArg boolV ?_) | (refine tupII ?_ ?_) | (refine tupIII ?_ ?_ ?_) | (refine tupU ?_ ?_ ?_ ?_ ?_) | exact rfl))
    · have hb : IntKind.i64.wrap ((if (1 : Nat) = 0 then (0 : Int) else if (1 : Nat) = 1 then (n : Int) else ((n + n' : Nat) : Int)) + (n' : Int)) < 0 := by simpa using hb
      rw [e] at hb
      simp at hb
      omega
    · refine ⟨1 + 1, [], by omega, by omega, ?_⟩
      refine Sub.of ?_ ?_ ?_
      repeat' (first | (refine And.intro ?_ ?_) | exact trivial | exact fun _ _ _ => hsc _ _ | (exact congrArg intV (by first | with_reducible rfl | with_reducible assumption)) | exact (rfl : AV.idsLt _ _ = true) | exact (rfl : _ = AV.ren _ (.own _)) | exact (rfl : _ = AV.ren _ (.fn _ _)) | exact (rfl : _ = AV.ren _ (.gh _)) | (exact congrArg intV (by assumption)) | (refine congrArg intV ((wr_id (by omega) (by omega)).trans (by omega))) | exact rfl | (simp only [Int.toNat_natCast, Int.toNat_zero, Nat.sub_zero, Nat.zero_add]; first | exact rfl | done) | exact all0 | exact fun h => Bool.noConfusion h | exact fun _ _ _ _ => rfl | omega)
  | 2, _ =>
    conv => whnf
    repeat' (first
      | (refine NilG.mk fun bn hbn hbx => ?_; conv => whnf)
      | (refine Both.mk ?_ ?_ <;> conv => whnf)
      | exact trivial
      | (refine Br.mk (fun hb => ?_) (fun hb => ?_) <;> (first | (exfalso; revert hb; decide) | ((try simp only [BL] at hb) <;> (try simp only [DL] at hb) <;> conv => whnf)))
      | (refine And.intro ?_ ?_; (focus (first | exact id | exact rfl | exact trivial | (intro hg; first | exact hg | exact rfl | (simp; done) | (simp at hg ⊢; assumption)) | omega | decide | exact is2_c _ _ _ | exact is1_c _ _ | exact isS_c _ _ | exact isB_c _ _ | exact Nat.le_refl _ | assumption | exact mulLe (by decide) (by omega) | exact mulLe2 (by decide) (by omega) (by omega) | (intros; simp only [BL] at *; omega) | (intros; (try simp only [BL] at *); (try simp only [DL] at *); omega) | (intros; simp only [BL] at *; rw [wr_id (by omega) (by omega)]; omega) | (intro h1 h2; exact Bool.and_eq_true_iff.2 ⟨h1, h2⟩) | (intros; simp_all; done))); conv => whnf)
      | (refine Or.inr (And.intro rfl ?_); first | (refine congrArg intV ?_) | (refine congrArg boolV ?_) | (refine tupII ?_ ?_) | (refine tupIII ?_ ?_ ?_) | (refine tupU ?_ ?_ ?_ ?_ ?_) | exact rfl))
    refine CallG.mk (Fn.mono ((grow0 (n + n') (by omega)).le (Le.cons (Le1.refl _) (Le.cons (Le1.refl _) Le.nil))) ?_)
    rintro obs r ⟨rfl, rfl⟩
    have hsc := scX (cat n p p') (cat n q q')
    conv => whnf
    repeat' (first
      | (refine NilG.mk fun bn hbn hbx => ?_; conv => whnf)
      | (refine Both.mk ?_ ?_ <;> conv => whnf)
      | exact trivial
      | (refine Br.mk (fun hb => ?_) (fun hb => ?_) <;> (first | (exfalso; revert hb; decide) | ((try simp only [BL] at hb) <;> (try simp only [DL] at hb) <;> conv => whnf)))
      | (refine And.intro ?_ ?_; (focus (first | exact id | exact rfl | exact trivial | (intro hg; first | exact hg | exact rfl | (simp; done) | (simp at hg ⊢; assumption)) | omega | decide | exact is2_c _ _ _ | exact is1_c _ _ | exact isS_c _ _ | exact isB_c _ _ | exact Nat.le_refl _ | assumption | exact mulLe (by decide) (by omega) | exact mulLe2 (by decide) (by omega) (by omega) | (intros; simp only [BL] at *; omega) | (intros; (try simp only [BL] at *); (try simp only [DL] at *); omega) | (intros; simp only [BL] at *; rw [wr_id (by omega) (by omega)]; omega) | (intro h1 h2; exact Bool.and_eq_true_iff.2 ⟨h1, h2⟩) | (intros; simp_all; done))); conv => whnf)
      | (refine Or.inr (And.intro rfl ?_); first | (refine congrArg intV ?_) | (refine congrArg boolV ?_) | (refine tupII ?_ ?_) | (refine tupIII ?_ ?_ ?_) | (refine tupU ?_ ?_ ?_ ?_ ?_) | exact rfl))
    refine sem_loop tab_ok gamZ_ok mixed (by kernel_rfl) (O := lex) (fun i : Nat => ⟨[(6, .own 0), (25, .c (.sl 1 2 fun k _ => if k = 0 then .sl 2 n (c2 p q) else .sl 2 n' (c2 p' q'))), (26, intV 2), (27, intV i)], [rowX (if i = 0 then 0 else if i = 1 then n else n + n') (cat n p p') (cat n q q')]⟩) (fun i => i ≤ 2) (fun i => 2 - i) ⟨0, [?_], Nat.zero_le _, ?_⟩ fun i hi => ?_
    rotate_left 1
    · refine Sub.of ?_ ?_ ?_
      repeat' (first | (refine And.intro ?_ ?_) | exact trivial | exact fun _ _ _ => hsc _ _ | (exact congrArg intV (by first | with_reducible rfl | with_reducible assumption)) | exact (rfl : AV.idsLt _ _ = true) | exact (rfl : _ = AV.ren _ (.own _)) | exact (rfl : _ = AV.ren _ (.fn _ _)) | exact (rfl : _ = AV.ren _ (.gh _)) | (exact congrArg intV (by assumption)) | (refine congrArg intV ((wr_id (by omega) (by omega)).trans (by omega))) | exact rfl | (simp only [Int.toNat_natCast, Int.toNat_zero, Nat.sub_zero, Nat.zero_add]; first | exact rfl | done) | exact all0 | exact fun h => Bool.noConfusion h | exact fun _ _ _ _ => rfl | omega)
    match i, hi with
    | 0, _ =>
      conv => whnf
      repeat' (first
        | (refine NilG.mk fun bn hbn hbx => ?_; conv => whnf)
        | (refine Both.mk ?_ ?_ <;> conv => whnf)
        | exact trivial
        | (refine Br.mk (fun hb => ?_) (fun hb => ?_) <;> (first | (exfalso; revert hb; decide) | ((try simp only [BL] at hb) <;> (try simp only [DL] at hb) <;> conv => whnf)))
        | (refine And.intro ?_ ?_; (focus (first | exact id | exact rfl | exact trivial | (intro hg; first | exact hg | exact rfl | (simp; done) | (simp at hg ⊢; assumption)) | omega | decide | exact is2_c _ _ _ | exact is1_c _ _ | exact isS_c _ _ | exact isB_c _ _ | exact Nat.le_refl _ | assumption | exact mulLe (by decide) (by omega) | exact mulLe2 (by decide) (by omega) (by omega) | (intros; simp only [BL] at *; omega) | (intros; (try simp only [BL] at *); (try simp only [DL] at *); omega) | (intros; simp only [BL] at *; rw [wr_id (by omega) (by omega)]; omega) | (intro h1 h2; exact Bool.and_eq_true_iff.2 ⟨h1, h2⟩) | (intros; simp_all; done))); conv => whnf)
        | (refine Or.inr (And.intro rfl ?_); first | (refine congrArg intV ?_) | (refine congrArg boolV ?_) | (refine tupII ?_ ?_) | (refine tupIII ?_ ?_ ?_) | (refine tupU ?_ ?_ ?_ ?_ ?_) | exact rfl))
      refine And.intro (show ((if (0 : Nat) = 0 then 0 else if (0 : Nat) = 1 then n else n + n') + n) * 16 ≤ 140737488355328 by simp; omega) ?_
      conv => whnf
      repeat' (first
        | (refine NilG.mk fun bn hbn hbx => ?_; conv => whnf)
        | (refine Both.mk ?_ ?_ <;> conv => whnf)
        | exact trivial
        | (refine Br.mk (fun hb => ?_) (fun hb => ?_) <;> (first | (exfalso; revert hb; decide) | ((try simp only [BL] at hb) <;> (try simp only [DL] at hb) <;> conv => whnf)))
        | (refine And.intro ?_ ?_; (focus (first | exact id | exact rfl | exact trivial | (intro hg; first | exact hg | exact rfl | (simp; done) | (simp at hg ⊢; assumption)) | omega | decide | exact is2_c _ _ _ | exact is1_c _ _ | exact isS_c _ _ | exact isB_c _ _ | exact Nat.le_refl _ | assumption | exact mulLe (by decide) (by omega) | exact mulLe2 (by decide) (by omega) (by omega) | (intros; simp only [BL] at *; omega) | (intros; (try simp only [BL] at *); (try simp only [DL] at *); omega) | (intros; simp only [BL] at *; rw [wr_id (by omega) (by omega)]; omega) | (intro h1 h2; exact Bool.and_eq_true_iff.2 ⟨h1, h2⟩) | (intros; simp_all; done))); conv => whnf)
        | (refine Or.inr (And.intro rfl ?_); first | (refine congrArg intV ?_) | (refine congrArg boolV ?_) | (refine tupII ?_ ?_) | (refine tupIII ?_ ?_ ?_) | (refine tupU ?_ ?_ ?_ ?_ ?_) | exact rfl))
      have e5 : (if (0 : Nat) = 0 then 0 else if (0 : Nat) = 1 then n else n + n') + n = (if (0 + 1 : Nat) = 0 then 0 else if (0 + 1 : Nat) = 1 then n else n + n') := by simp
      refine ⟨0 + 1, [?_], by omega, by omega, ?_⟩
      rotate_left 1
      refine Sub.of ?_ ?_ ?_
      repeat' (first | (refine And.intro ?_ ?_) | exact trivial | exact fun _ _ _ => hsc _ _ | (exact congrArg intV (by first | with_reducible rfl | with_reducible assumption)) | exact (rfl : AV.idsLt _ _ = true) | exact (rfl : _ = AV.ren _ (.own _)) | exact (rfl : _ = AV.ren _ (.fn _ _)) | exact (rfl : _ = AV.ren _ (.gh _)) | (exact congrArg intV (by assumption)) | (refine congrArg intV ((wr_id (by omega) (by omega)).trans (by omega))) | exact rfl | (simp only [Int.toNat_natCast, Int.toNat_zero, Nat.sub_zero, Nat.zero_add]; first | exact rfl | done) | exact all0 | exact fun h => Bool.noConfusion h | exact fun _ _ _ _ => rfl | omega)
      intro a ha b hb9
      have hb9 : b < 2 := hb9
      have ha : a < n := by simpa using ha
      refine (if_neg (Nat.not_lt_zero a)).trans ?_
      match b, hb9 with
      | 0, _ =>
        show iL (p (a - 0)) = iL (cat n p p' a)
        unfold cat
        rw [if_pos ha, Nat.sub_zero]
      | 1, _ =>
        show iL (q (a - 0)) = iL (cat n q q' a)
        unfold cat
        rw [if_pos ha, Nat.sub_zero]
    | 1, _ =>
      conv => whnf
      repeat' (first
        | (refine NilG.mk fun bn hbn hbx => ?_; conv => whnf)
        | (refine Both.mk ?_ ?_ <;> conv => whnf)
        | exact trivial
        | (refine Br.mk (fun hb => ?_) (fun hb => ?_) <;> (first | (exfalso; revert hb; decide) | ((try simp only [BL] at hb) <;> (try simp only [DL] at hb) <;> conv => whnf)))
        | (refine And.intro ?_ ?_; (focus (first | exact id | exact rfl | exact trivial | (intro hg; first | exact hg | exact rfl | (simp; done) | (simp at hg ⊢; assumption)) | omega | decide | exact is2_c _ _ _ | exact is1_c _ _ | exact isS_c _ _ | exact isB_c _ _ | exact Nat.le_refl _ | assumption | exact mulLe (by decide) (by omega) | exact mulLe2 (by decide) (by omega) (by omega) | (intros; simp only [BL] at *; omega) | (intros; (try simp only [BL] at *); (try simp only [DL] at *); omega) | (intros; simp only [BL] at *; rw [wr_id (by omega) (by omega)]; omega) | (intro h1 h2; exact Bool.and_eq_true_iff.2 ⟨h1, h2⟩) | (intros; simp_all; done))); conv => whnf)
        | (refine Or.inr (And.intro rfl ?_); first | (refine congrArg intV ?_) | (refine congrArg boolV ?_) | (refine tupII ?_ ?_) | (refine tupIII ?_ ?_ ?_) | (refine tupU ?_ ?_ ?_ ?_ ?_) | exact rfl))
      refine And.intro (show ((if (1 : Nat) = 0 then 0 else if (1 : Nat) = 1 then n else n + n') + n') * 16 ≤ 140737488355328 by simp; omega) ?_
      conv => whnf
      repeat' (first
        | (refine NilG.mk fun bn hbn hbx => ?_; conv => whnf)
        | (refine Both.mk ?_ ?_ <;> conv => whnf)
        | exact trivial
        | (refine Br.mk (fun hb => ?_) (fun hb => ?_) <;> (first | (exfalso; revert hb; decide) | ((try simp only [BL] at hb) <;> (try simp only [DL] at hb) <;> conv => whnf)))
        | (refine And.intro ?_ ?_; (focus (first | exact id | exact rfl | exact trivial | (intro hg; first | exact hg | exact rfl | (simp; done) | (simp at hg ⊢; assumption)) | omega | decide | exact is2_c _ _ _ | exact is1_c _ _ | exact isS_c _ _ | exact isB_c _ _ | exact Nat.le_refl _ | assumption | exact mulLe (by decide) (by omega) | exact mulLe2 (by decide) (by omega) (by omega) | (intros; simp only [BL] at *; omega) | (intros; (try simp only [BL] at *); (try simp only [DL] at *); omega) | (intros; simp only [BL] at *; rw [wr_id (by omega) (by omega)]; omega) | (intro h1 h2; exact Bool.and_eq_true_iff.2 ⟨h1, h2⟩) | (intros; simp_all; done))); conv => whnf)
        | (refine Or.inr (And.intro rfl ?_); first | (refine congrArg intV ?_) | (refine congrArg boolV ?_) | (refine tupII ?_ ?_) | (refine tupIII ?_ ?_ ?_) | (refine tupU ?_ ?_ ?_ ?_ ?_) | exact rfl))
      have e5 : (if (1 : Nat) = 0 then 0 else if (1 : Nat) = 1 then n else n + n') + n' = (if (1 + 1 : Nat) = 0 then 0 else if (1 + 1 : Nat) = 1 then n else n + n') := by simp
      refine ⟨1 + 1, [?_], by omega, by omega, ?_⟩
      rotate_left 1
      refine Sub.of ?_ ?_ ?_
      repeat' (first | (refine And.intro ?_ ?_) | exact trivial | exact fun _ _ _ => hsc _ _ | (exact congrArg intV (by first | with_reducible rfl | with_reducible assumption)) | exact (rfl : AV.idsLt _ _ = true) | exact (rfl : _ = AV.ren _ (.own _)) | exact (rfl : _ = AV.ren _ (.fn _ _)) | exact (rfl : _ = AV.ren _ (.gh _)) | (exact congrArg intV (by assumption)) | (refine congrArg intV ((wr_id (by omega) (by omega)).trans (by omega))) | exact rfl | (simp only [Int.toNat_natCast, Int.toNat_zero, Nat.sub_zero, Nat.zero_add]; first | exact rfl | done) | exact all0 | exact fun h => Bool.noConfusion h | exact fun _ _ _ _ => rfl | omega)
      intro a ha b hb9
      have hb9 : b < 2 := hb9
      by_cases h : a < n
      · exact if_pos h
      · refine (if_neg h).trans ?_
        match b, hb9 with
        | 0, _ =>
          show iL (p' (a - n)) = iL (cat n p p' a)
          unfold cat
          rw [if_neg h]
        | 1, _ =>
          show iL (q' (a - n)) = iL (cat n q q' a)
          unfold cat
          rw [if_neg h]
    | 2, _ =>
      conv => whnf
      repeat' (first
        | (refine NilG.mk fun bn hbn hbx => ?_; conv => whnf)
        | (refine Both.mk ?_ ?_ <;> conv => whnf)
        | exact trivial
        | (refine Br.mk (fun hb => ?_) (fun hb => ?_) <;> (first | (exfalso; revert hb; decide) | ((try simp only [BL] at hb) <;> (try simp only [DL] at hb) <;> conv => whnf)))
        | (refine And.intro ?_ ?_; (focus (first | exact id | exact rfl | exact trivial | (intro hg; first | exact hg | exact rfl | (simp; done) | (simp at hg ⊢; assumption)) | omega | decide | exact is2_c _ _ _ | exact is1_c _ _ | exact isS_c _ _ | exact isB_c _ _ | exact Nat.le_refl _ | assumption | exact mulLe (by decide) (by omega) | exact mulLe2 (by decide) (by omega) (by omega) | (intros; simp only [BL] at *; omega) | (intros; (try simp only [BL] at *); (try simp only [DL] at *); omega) | (intros; simp only [BL] at *; rw [wr_id (by omega) (by omega)]; omega) | (intro h1 h2; exact Bool.and_eq_true_iff.2 ⟨h1, h2⟩) | (intros; simp_all; done))); conv => whnf)
        | (refine Or.inr (And.intro rfl ?_); first | (refine congrArg intV ?_) | (refine congrArg boolV ?_) | (refine tupII ?_ ?_) | (refine tupIII ?_ ?_ ?_) | (refine tupU ?_ ?_ ?_ ?_ ?_) | exact rfl))
      refine .inl ⟨[0], [rowX (n + n') (cat n p p') (cat n q q')], .own 0, rfl, ?_, rfl, rfl, rfl, rfl⟩
      all_goals repeat' (first | (refine And.intro ?_ ?_) | exact trivial | exact rfl | exact fun _ _ _ => hsc _ _ | exact fun _ _ _ _ => rfl)
end Go.Proofs.Ytkkkldhilofgmaa
