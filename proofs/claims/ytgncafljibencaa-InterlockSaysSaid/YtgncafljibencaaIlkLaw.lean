/-
  InterlockSays holds: interlock's Check, CheckStates, Explain and Permitted return what the reference returns, whatever the input.
-/
import Derived.Test.YtgncafljibencaaIlk5
namespace Go.Proofs.Ytgncafljibencaa
open Go.RowKit Go.ChangeShapes Go.WideShapes

theorem sameI (n m : Nat) (x y : Nat → Int) (h : n ≤ 1000000 ∧ m = n ∧ ∀ i, i < n → x i = y i) : Fn1 Try.prog 27 [.c (.sl 1 n (c1 x)), .c (.sl 1 m (c1 y))] (boolV true) := by
  refine fn_of_wpx (O := lex) tab_ok gamI5_ok mixed Try.func27 (by kernel_rfl) rfl rfl rfl (by simp [Try.ntmps27]) (by kernel_rfl) ?_
  obtain ⟨hn, rfl, h⟩ := h
  conv => whnf
  repeat' (first
    | (refine NilG.mk fun bn hbn => ?_; conv => whnf)
    | (refine Both.mk ?_ ?_ <;> conv => whnf)
    | exact trivial
    | (refine Br.mk (fun hb => ?_) (fun hb => ?_) <;> (first | (exfalso; revert hb; decide) | ((try simp only [BL] at hb) <;> (try simp only [DL] at hb) <;> conv => whnf)))
    | (refine And.intro ?_ ?_; (focus (first | exact id | exact rfl | exact trivial | (intro hg; first | exact hg | exact rfl | (simp; done) | (simp at hg ⊢; assumption)) | omega | decide | exact is2_c _ _ _ | exact is1_c _ _ | exact isS_c _ _ | exact isB_c _ _ | exact Nat.le_refl _ | assumption | exact mulLe (by decide) (by omega) | exact mulLe2 (by decide) (by omega) (by omega) | (intros; simp only [BL] at *; omega) | (intros; (try simp only [BL] at *); (try simp only [DL] at *); omega) | (intros; simp only [BL] at *; rw [wr_id (by omega) (by omega)]; omega) | (intros; simp_all; done))); conv => whnf)
    | (refine Or.inr (And.intro rfl ?_); first | (refine congrArg intV ?_) | (refine congrArg boolV ?_) | (refine tupII ?_ ?_) | (refine tupIII ?_ ?_ ?_) | (refine tupU ?_ ?_ ?_ ?_ ?_) | exact rfl))
  · exact absurd trivial hb
  refine sem_loop tab_ok gamI5_ok mixed (by kernel_rfl) (O := lex) (fun i : Nat => ⟨[(0, .c (.sl 1 m (c1 x))), (1, .c (.sl 1 m (c1 y))), (12, intV m), (13, intV i)], []⟩) (fun i => i ≤ m) (fun i => m - i) ⟨0, [], Nat.zero_le _, ?_⟩ fun i hi => ?_
  · refine Sub.of ?_ ?_ ?_
    repeat' (first | (refine And.intro ?_ ?_) | exact trivial | exact fun _ _ _ => hsc _ _ | (exact congrArg intV (by first | with_reducible rfl | with_reducible assumption)) | exact (rfl : AV.idsLt _ _ = true) | exact (rfl : _ = AV.ren _ (.own _)) | exact (rfl : _ = AV.ren _ (.fn _ _)) | exact (rfl : _ = AV.ren _ (.gh _)) | (exact congrArg intV (by assumption)) | (refine congrArg intV ((wr_id (by omega) (by omega)).trans (by omega))) | exact rfl | (simp only [Int.toNat_natCast, Int.toNat_zero, Nat.sub_zero, Nat.zero_add]; first | exact rfl | done) | exact all0 | exact fun h => Bool.noConfusion h | exact fun _ _ _ _ => rfl | omega)
  conv => whnf
  repeat' (first
    | (refine NilG.mk fun bn hbn => ?_; conv => whnf)
    | (refine Both.mk ?_ ?_ <;> conv => whnf)
    | exact trivial
    | (refine Br.mk (fun hb => ?_) (fun hb => ?_) <;> (first | (exfalso; revert hb; decide) | ((try simp only [BL] at hb) <;> (try simp only [DL] at hb) <;> conv => whnf)))
    | (refine And.intro ?_ ?_; (focus (first | exact id | exact rfl | exact trivial | (intro hg; first | exact hg | exact rfl | (simp; done) | (simp at hg ⊢; assumption)) | omega | decide | exact is2_c _ _ _ | exact is1_c _ _ | exact isS_c _ _ | exact isB_c _ _ | exact Nat.le_refl _ | assumption | exact mulLe (by decide) (by omega) | exact mulLe2 (by decide) (by omega) (by omega) | (intros; simp only [BL] at *; omega) | (intros; (try simp only [BL] at *); (try simp only [DL] at *); omega) | (intros; simp only [BL] at *; rw [wr_id (by omega) (by omega)]; omega) | (intros; simp_all; done))); conv => whnf)
    | (refine Or.inr (And.intro rfl ?_); first | (refine congrArg intV ?_) | (refine congrArg boolV ?_) | (refine tupII ?_ ?_) | (refine tupIII ?_ ?_ ?_) | (refine tupU ?_ ?_ ?_ ?_ ?_) | exact rfl))
  · exact absurd (h i (by omega)) hb
  · refine ⟨i + 1, [], by omega, by omega, ?_⟩
    refine Sub.of ?_ ?_ ?_
    repeat' (first | (refine And.intro ?_ ?_) | exact trivial | exact fun _ _ _ => hsc _ _ | (exact congrArg intV (by first | with_reducible rfl | with_reducible assumption)) | exact (rfl : AV.idsLt _ _ = true) | exact (rfl : _ = AV.ren _ (.own _)) | exact (rfl : _ = AV.ren _ (.fn _ _)) | exact (rfl : _ = AV.ren _ (.gh _)) | (exact congrArg intV (by assumption)) | (refine congrArg intV ((wr_id (by omega) (by omega)).trans (by omega))) | exact rfl | (simp only [Int.toNat_natCast, Int.toNat_zero, Nat.sub_zero, Nat.zero_add]; first | exact rfl | done) | exact all0 | exact fun h => Bool.noConfusion h | exact fun _ _ _ _ => rfl | omega)
  · rfl
theorem eqI (n m : Nat) (x y : Nat → Int) (h : n ≤ 1000000 ∧ m = n ∧ ∀ i, i < n → x i = y i) : Fn1 Try.prog 22 [.c (.sl 1 n (c1 x)), .c (.sl 1 m (c1 y))] (boolV true) := by
  refine fn_of_wpx (O := lex) tab_ok gamI5_ok mixed Try.func22 (by kernel_rfl) rfl rfl rfl (by simp [Try.ntmps22]) (by kernel_rfl) ?_
  obtain ⟨hn, rfl, h⟩ := h
  conv => whnf
  repeat' (first
    | (refine NilG.mk fun bn hbn => ?_; conv => whnf)
    | (refine Both.mk ?_ ?_ <;> conv => whnf)
    | exact trivial
    | (refine Br.mk (fun hb => ?_) (fun hb => ?_) <;> (first | (exfalso; revert hb; decide) | ((try simp only [BL] at hb) <;> (try simp only [DL] at hb) <;> conv => whnf)))
    | (refine And.intro ?_ ?_; (focus (first | exact id | exact rfl | exact trivial | (intro hg; first | exact hg | exact rfl | (simp; done) | (simp at hg ⊢; assumption)) | omega | decide | exact is2_c _ _ _ | exact is1_c _ _ | exact isS_c _ _ | exact isB_c _ _ | exact Nat.le_refl _ | assumption | exact mulLe (by decide) (by omega) | exact mulLe2 (by decide) (by omega) (by omega) | (intros; simp only [BL] at *; omega) | (intros; (try simp only [BL] at *); (try simp only [DL] at *); omega) | (intros; simp only [BL] at *; rw [wr_id (by omega) (by omega)]; omega) | (intros; simp_all; done))); conv => whnf)
    | (refine Or.inr (And.intro rfl ?_); first | (refine congrArg intV ?_) | (refine congrArg boolV ?_) | (refine tupII ?_ ?_) | (refine tupIII ?_ ?_ ?_) | (refine tupU ?_ ?_ ?_ ?_ ?_) | exact rfl))
  · exact absurd trivial hb
  refine sem_loop tab_ok gamI5_ok mixed (by kernel_rfl) (O := lex) (fun i : Nat => ⟨[(0, .c (.sl 1 m (c1 x))), (1, .c (.sl 1 m (c1 y))), (12, intV m), (13, intV i)], []⟩) (fun i => i ≤ m) (fun i => m - i) ⟨0, [], Nat.zero_le _, ?_⟩ fun i hi => ?_
  · refine Sub.of ?_ ?_ ?_
    repeat' (first | (refine And.intro ?_ ?_) | exact trivial | exact fun _ _ _ => hsc _ _ | (exact congrArg intV (by first | with_reducible rfl | with_reducible assumption)) | exact (rfl : AV.idsLt _ _ = true) | exact (rfl : _ = AV.ren _ (.own _)) | exact (rfl : _ = AV.ren _ (.fn _ _)) | exact (rfl : _ = AV.ren _ (.gh _)) | (exact congrArg intV (by assumption)) | (refine congrArg intV ((wr_id (by omega) (by omega)).trans (by omega))) | exact rfl | (simp only [Int.toNat_natCast, Int.toNat_zero, Nat.sub_zero, Nat.zero_add]; first | exact rfl | done) | exact all0 | exact fun h => Bool.noConfusion h | exact fun _ _ _ _ => rfl | omega)
  conv => whnf
  repeat' (first
    | (refine NilG.mk fun bn hbn => ?_; conv => whnf)
    | (refine Both.mk ?_ ?_ <;> conv => whnf)
    | exact trivial
    | (refine Br.mk (fun hb => ?_) (fun hb => ?_) <;> (first | (exfalso; revert hb; decide) | ((try simp only [BL] at hb) <;> (try simp only [DL] at hb) <;> conv => whnf)))
    | (refine And.intro ?_ ?_; (focus (first | exact id | exact rfl | exact trivial | (intro hg; first | exact hg | exact rfl | (simp; done) | (simp at hg ⊢; assumption)) | omega | decide | exact is2_c _ _ _ | exact is1_c _ _ | exact isS_c _ _ | exact isB_c _ _ | exact Nat.le_refl _ | assumption | exact mulLe (by decide) (by omega) | exact mulLe2 (by decide) (by omega) (by omega) | (intros; simp only [BL] at *; omega) | (intros; (try simp only [BL] at *); (try simp only [DL] at *); omega) | (intros; simp only [BL] at *; rw [wr_id (by omega) (by omega)]; omega) | (intros; simp_all; done))); conv => whnf)
    | (refine Or.inr (And.intro rfl ?_); first | (refine congrArg intV ?_) | (refine congrArg boolV ?_) | (refine tupII ?_ ?_) | (refine tupIII ?_ ?_ ?_) | (refine tupU ?_ ?_ ?_ ?_ ?_) | exact rfl))
  · exact absurd (h i (by omega)) hb
  · refine ⟨i + 1, [], by omega, by omega, ?_⟩
    refine Sub.of ?_ ?_ ?_
    repeat' (first | (refine And.intro ?_ ?_) | exact trivial | exact fun _ _ _ => hsc _ _ | (exact congrArg intV (by first | with_reducible rfl | with_reducible assumption)) | exact (rfl : AV.idsLt _ _ = true) | exact (rfl : _ = AV.ren _ (.own _)) | exact (rfl : _ = AV.ren _ (.fn _ _)) | exact (rfl : _ = AV.ren _ (.gh _)) | (exact congrArg intV (by assumption)) | (refine congrArg intV ((wr_id (by omega) (by omega)).trans (by omega))) | exact rfl | (simp only [Int.toNat_natCast, Int.toNat_zero, Nat.sub_zero, Nat.zero_add]; first | exact rfl | done) | exact all0 | exact fun h => Bool.noConfusion h | exact fun _ _ _ _ => rfl | omega)
  · rfl
def sSm : List AV → Sd × AV
  | [.c (.sl 1 n f), .c (.sl 1 m g)] => (.p (is1 n f ∧ is1 m g ∧ n ≤ 1000000 ∧ m = n ∧ ∀ i, i < n → d0 f i = d0 g i), boolV true)
  | _ => (.p False, .top)
def gamI6 : Gam := fun f => match f with
  | 27 => some sSm
  | 22 => some sSm
  | 31 => some (sR1 Rls.ok fun r => intV (rlsE r))
  | 32 => some (sS1 Sts.ok fun s => intV (stsE s))
  | 29 => some (sR1 Rls.ok fun r => intV (rlsE r))
  | 30 => some (sS1 Sts.ok fun s => intV (stsE s))
  | _ => none
theorem gamI6_ok : GOk Try.prog gamI6 := fun f g h => by
  unfold gamI6 at h
  split at h
  · injection h with h; subst h
    intro args hs _
    unfold sSm at hs ⊢
    split at hs
    · exact (sameI _ _ _ _ hs.2.2).le (Le.cons (Le1.sl hs.1) (Le.cons (Le1.sl hs.2.1) Le.nil))
    · exact hs.elim
  · injection h with h; subst h
    intro args hs _
    unfold sSm at hs ⊢
    split at hs
    · exact (eqI _ _ _ _ hs.2.2).le (Le.cons (Le1.sl hs.1) (Le.cons (Le1.sl hs.2.1) Le.nil))
    · exact hs.elim
  · injection h with h; subst h; exact sR1_ok rlsChk
  · injection h with h; subst h; exact sS1_ok stsChk
  · injection h with h; subst h; exact sR1_ok rlsErr
  · injection h with h; subst h; exact sS1_ok stsErr
  · cases h

/-- the fixed example -/
def bA : ByteArray := ⟨#[65]⟩
def bB : ByteArray := ⟨#[66]⟩
def exR : Rls := ⟨1, fun _ => true, fun _ => bA, fun _ => ⟨1, fun _ => 2, fun _ => bB, fun _ => 0, fun _ => 0⟩⟩
def exS (b : Bool) : Sts := ⟨2, fun k => if k = 0 then bA else bB, fun k => if k = 0 then false else b⟩
theorem ilFact : Fn1 Try.prog 28 [] (boolV true) := by
  refine fn_of_wpx (O := lex) tab_ok gamI6_ok mixed Try.func28 (by kernel_rfl) rfl rfl rfl (by simp [Try.ntmps28]) (by kernel_rfl) ?_
  conv => whnf
  repeat' (first
    | (refine NilG.mk fun bn hbn => ?_; conv => whnf)
    | (refine Both.mk ?_ ?_ <;> conv => whnf)
    | exact trivial
    | (refine Br.mk (fun hb => ?_) (fun hb => ?_) <;> (first | (exfalso; revert hb; decide) | ((try simp only [BL] at hb) <;> (try simp only [DL] at hb) <;> conv => whnf)))
    | (refine And.intro ?_ ?_; (focus (first | exact id | exact rfl | exact trivial | (intro hg; first | exact hg | exact rfl | (simp; done) | (simp at hg ⊢; assumption)) | omega | decide | exact is2_c _ _ _ | exact is1_c _ _ | exact isS_c _ _ | exact isB_c _ _ | exact Nat.le_refl _ | assumption | exact mulLe (by decide) (by omega) | exact mulLe2 (by decide) (by omega) (by omega) | (intros; simp only [BL] at *; omega) | (intros; (try simp only [BL] at *); (try simp only [DL] at *); omega) | (intros; simp only [BL] at *; rw [wr_id (by omega) (by omega)]; omega) | (intros; simp_all; done))); conv => whnf)
    | (refine Or.inr (And.intro rfl ?_); first | (refine congrArg intV ?_) | (refine congrArg boolV ?_) | (refine tupII ?_ ?_) | (refine tupIII ?_ ?_ ?_) | (refine tupU ?_ ?_ ?_ ?_ ?_) | exact rfl))
  have hE1 : exE exR (exS true) bA = 0 := by decide +kernel
  have hN1 : exN exR (exS true) true bA = 1 := by decide +kernel
  have hF1 : flF (fbB exR (exS true) true bA) 1 0 = 0 := by decide +kernel
  have hE2 : exE exR (exS false) bA = 0 := by decide +kernel
  have hN2 : exN exR (exS false) true bA = 0 := by decide +kernel
  refine CallG.pre [1] (Fn.mono ((ilExplain1 exR (exS true) true bA ⟨by decide, fun k hk => ?_⟩ ⟨by decide, fun k hk => ?_⟩).le (Le.cons (Le1.l (LLe.sl fun k hk j hj => ?_)) (Le.cons (Le1.l (LLe.sl fun k hk j hj => ?_)) (Le.cons (Le1.refl _) (Le.cons (Le1.refl _) Le.nil))))) ?_)
  · exact ⟨by show (1 : Nat) ≤ maxLen; decide, by show (1 : Nat) ≤ maxLen; decide, fun _ _ => by show (1 : Nat) ≤ maxLen; decide⟩
  · show (if k = 0 then bA else bB).size ≤ maxLen
    split <;> decide
  · have hk : k < 1 := hk
    obtain rfl : k = 0 := by omega
    match j, hj with
    | 0, _ => exact LLe.refl _
    | 1, _ => exact LLe.refl _
    | 2, _ =>
      refine LLe.sl fun k hk j hj => ?_
      have hk : k < 1 := hk
      obtain rfl : k = 0 := by omega
      match j, hj with
      | 0, _ => exact LLe.refl _
      | 1, _ => exact LLe.refl _
      | 2, _ => exact LLe.refl _
      | 3, _ => exact LLe.refl _
  · match k, j, hk, hj with
    | 0, 0, _, _ => exact LLe.refl _
    | 0, 1, _, _ => exact LLe.refl _
    | 1, 0, _, _ => exact LLe.refl _
    | 1, 1, _, _ => exact LLe.refl _
  rintro obs r ⟨rfl, rfl⟩
  rw [hE1, hN1]
  conv => whnf
  repeat' (first
    | (refine NilG.mk fun bn hbn => ?_; conv => whnf)
    | (refine Both.mk ?_ ?_ <;> conv => whnf)
    | exact trivial
    | (refine Br.mk (fun hb => ?_) (fun hb => ?_) <;> (first | (exfalso; revert hb; decide) | ((try simp only [BL] at hb) <;> (try simp only [DL] at hb) <;> conv => whnf)))
    | (refine And.intro ?_ ?_; (focus (first | exact id | exact rfl | exact trivial | (intro hg; first | exact hg | exact rfl | (simp; done) | (simp at hg ⊢; assumption)) | omega | decide | exact is2_c _ _ _ | exact is1_c _ _ | exact isS_c _ _ | exact isB_c _ _ | exact Nat.le_refl _ | assumption | exact mulLe (by decide) (by omega) | exact mulLe2 (by decide) (by omega) (by omega) | (intros; simp only [BL] at *; omega) | (intros; (try simp only [BL] at *); (try simp only [DL] at *); omega) | (intros; simp only [BL] at *; rw [wr_id (by omega) (by omega)]; omega) | (intros; simp_all; done))); conv => whnf)
    | (refine Or.inr (And.intro rfl ?_); first | (refine congrArg intV ?_) | (refine congrArg boolV ?_) | (refine tupII ?_ ?_) | (refine tupIII ?_ ?_ ?_) | (refine tupU ?_ ?_ ?_ ?_ ?_) | exact rfl))
  refine CallG.mk (Fn.mono ((ilPermitted exR (exS false) true bA ⟨by decide, fun k hk => ?_⟩ ⟨by decide, fun k hk => ?_⟩).le (Le.cons (Le1.l (LLe.sl fun k hk j hj => ?_)) (Le.cons (Le1.l (LLe.sl fun k hk j hj => ?_)) (Le.cons (Le1.refl _) (Le.cons (Le1.refl _) Le.nil))))) ?_)
  · exact ⟨by show (1 : Nat) ≤ maxLen; decide, by show (1 : Nat) ≤ maxLen; decide, fun _ _ => by show (1 : Nat) ≤ maxLen; decide⟩
  · show (if k = 0 then bA else bB).size ≤ maxLen
    split <;> decide
  · have hk : k < 1 := hk
    obtain rfl : k = 0 := by omega
    match j, hj with
    | 0, _ => exact LLe.refl _
    | 1, _ => exact LLe.refl _
    | 2, _ =>
      refine LLe.sl fun k hk j hj => ?_
      have hk : k < 1 := hk
      obtain rfl : k = 0 := by omega
      match j, hj with
      | 0, _ => exact LLe.refl _
      | 1, _ => exact LLe.refl _
      | 2, _ => exact LLe.refl _
      | 3, _ => exact LLe.refl _
  · match k, j, hk, hj with
    | 0, 0, _, _ => exact LLe.refl _
    | 0, 1, _, _ => exact LLe.refl _
    | 1, 0, _, _ => exact LLe.refl _
    | 1, 1, _, _ => exact LLe.refl _
  rintro obs r ⟨rfl, rfl⟩
  rw [hE2, hN2]
  conv => whnf
  repeat' (first
    | (refine NilG.mk fun bn hbn => ?_; conv => whnf)
    | (refine Both.mk ?_ ?_ <;> conv => whnf)
    | exact trivial
    | (refine Br.mk (fun hb => ?_) (fun hb => ?_) <;> (first | (exfalso; revert hb; decide) | ((try simp only [BL] at hb) <;> (try simp only [DL] at hb) <;> conv => whnf)))
    | (refine And.intro ?_ ?_; (focus (first | exact id | exact rfl | exact trivial | (intro hg; first | exact hg | exact rfl | (simp; done) | (simp at hg ⊢; assumption)) | omega | decide | exact is2_c _ _ _ | exact is1_c _ _ | exact isS_c _ _ | exact isB_c _ _ | exact Nat.le_refl _ | assumption | exact mulLe (by decide) (by omega) | exact mulLe2 (by decide) (by omega) (by omega) | (intros; simp only [BL] at *; omega) | (intros; (try simp only [BL] at *); (try simp only [DL] at *); omega) | (intros; simp only [BL] at *; rw [wr_id (by omega) (by omega)]; omega) | (intros; simp_all; done))); conv => whnf)
    | (refine Or.inr (And.intro rfl ?_); first | (refine congrArg intV ?_) | (refine congrArg boolV ?_) | (refine tupII ?_ ?_) | (refine tupIII ?_ ?_ ?_) | (refine tupU ?_ ?_ ?_ ?_ ?_) | exact rfl))
  refine And.intro (fun _ => ?_) (fun hg => absurd hg (by decide))
  conv => whnf
  repeat' (first
    | (refine NilG.mk fun bn hbn => ?_; conv => whnf)
    | (refine Both.mk ?_ ?_ <;> conv => whnf)
    | exact trivial
    | (refine Br.mk (fun hb => ?_) (fun hb => ?_) <;> (first | (exfalso; revert hb; decide) | ((try simp only [BL] at hb) <;> (try simp only [DL] at hb) <;> conv => whnf)))
    | (refine And.intro ?_ ?_; (focus (first | exact id | exact rfl | exact trivial | (intro hg; first | exact hg | exact rfl | (simp; done) | (simp at hg ⊢; assumption)) | omega | decide | exact is2_c _ _ _ | exact is1_c _ _ | exact isS_c _ _ | exact isB_c _ _ | exact Nat.le_refl _ | assumption | exact mulLe (by decide) (by omega) | exact mulLe2 (by decide) (by omega) (by omega) | (intros; simp only [BL] at *; omega) | (intros; (try simp only [BL] at *); (try simp only [DL] at *); omega) | (intros; simp only [BL] at *; rw [wr_id (by omega) (by omega)]; omega) | (intros; simp_all; done))); conv => whnf)
    | (refine Or.inr (And.intro rfl ?_); first | (refine congrArg intV ?_) | (refine congrArg boolV ?_) | (refine tupII ?_ ?_) | (refine tupIII ?_ ?_ ?_) | (refine tupU ?_ ?_ ?_ ?_ ?_) | exact rfl))
  refine And.intro (fun _ => ⟨is1_c _ _, fun k hk j hj => ?_, by decide, rfl, fun i hi => ?_⟩) ?_
  · obtain rfl : k = 0 := by omega
    obtain rfl : j = 0 := by omega
    rfl
  · obtain rfl : i = 0 := by omega
    exact hF1
  conv => whnf
  repeat' (first
    | (refine NilG.mk fun bn hbn => ?_; conv => whnf)
    | (refine Both.mk ?_ ?_ <;> conv => whnf)
    | exact trivial
    | (refine Br.mk (fun hb => ?_) (fun hb => ?_) <;> (first | (exfalso; revert hb; decide) | ((try simp only [BL] at hb) <;> (try simp only [DL] at hb) <;> conv => whnf)))
    | (refine And.intro ?_ ?_; (focus (first | exact id | exact rfl | exact trivial | (intro hg; first | exact hg | exact rfl | (simp; done) | (simp at hg ⊢; assumption)) | omega | decide | exact is2_c _ _ _ | exact is1_c _ _ | exact isS_c _ _ | exact isB_c _ _ | exact Nat.le_refl _ | assumption | exact mulLe (by decide) (by omega) | exact mulLe2 (by decide) (by omega) (by omega) | (intros; simp only [BL] at *; omega) | (intros; (try simp only [BL] at *); (try simp only [DL] at *); omega) | (intros; simp only [BL] at *; rw [wr_id (by omega) (by omega)]; omega) | (intros; simp_all; done))); conv => whnf)
    | (refine Or.inr (And.intro rfl ?_); first | (refine congrArg intV ?_) | (refine congrArg boolV ?_) | (refine tupII ?_ ?_) | (refine tupIII ?_ ?_ ?_) | (refine tupU ?_ ?_ ?_ ?_ ?_) | exact rfl))
  · rfl

set_option maxHeartbeats 1000000 in
theorem ilLaw (r : Rls) (s : Sts) (cl : Bool) (nm : ByteArray) (hr : r.ok) (hs : s.ok) : Fn1 Try.prog 5 [rlV r, stV s, boolV cl, strV nm] (boolV true) := by
  refine fn_of_wpx (O := lex) tab_ok gamI6_ok mixed Try.func5 (by kernel_rfl) rfl rfl rfl (by simp [Try.ntmps5]) (by kernel_rfl) ?_
  have hn' : s.n ≤ 9223372036854775807 := hs.1
  conv => whnf
  repeat' (first
    | (refine NilG.mk fun bn hbn => ?_; conv => whnf)
    | (refine Both.mk ?_ ?_ <;> conv => whnf)
    | exact trivial
    | (refine Br.mk (fun hb => ?_) (fun hb => ?_) <;> (first | (exfalso; revert hb; decide) | ((try simp only [BL] at hb) <;> (try simp only [DL] at hb) <;> conv => whnf)))
    | (refine And.intro ?_ ?_; (focus (first | exact id | exact rfl | exact trivial | (intro hg; first | exact hg | exact rfl | (simp; done) | (simp at hg ⊢; assumption)) | omega | decide | exact is2_c _ _ _ | exact is1_c _ _ | exact isS_c _ _ | exact isB_c _ _ | exact Nat.le_refl _ | assumption | exact mulLe (by decide) (by omega) | exact mulLe2 (by decide) (by omega) (by omega) | (intros; simp only [BL] at *; omega) | (intros; (try simp only [BL] at *); (try simp only [DL] at *); omega) | (intros; simp only [BL] at *; rw [wr_id (by omega) (by omega)]; omega) | (intros; simp_all; done))); conv => whnf)
    | (refine Or.inr (And.intro rfl ?_); first | (refine congrArg intV ?_) | (refine congrArg boolV ?_) | (refine tupII ?_ ?_) | (refine tupIII ?_ ?_ ?_) | (refine tupU ?_ ?_ ?_ ?_ ?_) | exact rfl))
  refine CallG.mk (Fn.mono ilFact ?_)
  rintro obs v ⟨rfl, rfl⟩
  conv => whnf
  repeat' (first
    | (refine NilG.mk fun bn hbn => ?_; conv => whnf)
    | (refine Both.mk ?_ ?_ <;> conv => whnf)
    | exact trivial
    | (refine Br.mk (fun hb => ?_) (fun hb => ?_) <;> (first | (exfalso; revert hb; decide) | ((try simp only [BL] at hb) <;> (try simp only [DL] at hb) <;> conv => whnf)))
    | (refine And.intro ?_ ?_; (focus (first | exact id | exact rfl | exact trivial | (intro hg; first | exact hg | exact rfl | (simp; done) | (simp at hg ⊢; assumption)) | omega | decide | exact is2_c _ _ _ | exact is1_c _ _ | exact isS_c _ _ | exact isB_c _ _ | exact Nat.le_refl _ | assumption | exact mulLe (by decide) (by omega) | exact mulLe2 (by decide) (by omega) (by omega) | (intros; simp only [BL] at *; omega) | (intros; (try simp only [BL] at *); (try simp only [DL] at *); omega) | (intros; simp only [BL] at *; rw [wr_id (by omega) (by omega)]; omega) | (intros; simp_all; done) | first | exact ⟨isR_c r, hr⟩ | exact ⟨isSt_c s _, hs⟩ | exact fun _ => ⟨isSt_c s _, hs⟩)); conv => whnf)
    | (refine Or.inr (And.intro rfl ?_); first | (refine congrArg intV ?_) | (refine congrArg boolV ?_) | (refine tupII ?_ ?_) | (refine tupIII ?_ ?_ ?_) | (refine tupU ?_ ?_ ?_ ?_ ?_) | exact rfl))
  · simp at hb
  clear hb
  refine sem_loop tab_ok gamI6_ok mixed (by kernel_rfl) (O := lex) (fun i : Nat => ⟨[(0, rlV r), (1, stV s), (2, boolV cl), (3, strV nm), (9, intV (rlsE r)), (10, intV (stsE s)), (11, boolV (decide (fidx (sameN s.nm nm) i ≥ 0))), (36, stV s), (37, intV s.n), (38, intV i)], []⟩) (fun i => i ≤ s.n) (fun i => s.n - i) ⟨0, [], Nat.zero_le _, ?_⟩ fun i hi => ?_
  · refine Sub.of ?_ ?_ ?_
    repeat' (first | (refine And.intro ?_ ?_) | exact trivial | exact fun _ _ _ => hsc _ _ | (exact congrArg intV (by first | with_reducible rfl | with_reducible assumption)) | exact (rfl : AV.idsLt _ _ = true) | exact (rfl : _ = AV.ren _ (.own _)) | exact (rfl : _ = AV.ren _ (.fn _ _)) | exact (rfl : _ = AV.ren _ (.gh _)) | (exact congrArg intV (by assumption)) | (refine congrArg intV ((wr_id (by omega) (by omega)).trans (by omega))) | exact rfl | (simp only [Int.toNat_natCast, Int.toNat_zero, Nat.sub_zero, Nat.zero_add]; first | exact rfl | done) | exact all0 | exact fun h => Bool.noConfusion h | exact fun _ _ _ _ => rfl | omega)
  have hsc := fidx_succ (sameN s.nm nm) i
  conv => whnf
  repeat' (first
    | (refine NilG.mk fun bn hbn => ?_; conv => whnf)
    | (refine Both.mk ?_ ?_ <;> conv => whnf)
    | exact trivial
    | (refine Br.mk (fun hb => ?_) (fun hb => ?_) <;> (first | (exfalso; revert hb; decide) | ((try simp only [BL] at hb) <;> (try simp only [DL] at hb) <;> conv => whnf)))
    | (refine And.intro ?_ ?_; (focus (first | exact id | exact rfl | exact trivial | (intro hg; first | exact hg | exact rfl | (simp; done) | (simp at hg ⊢; assumption)) | omega | decide | exact is2_c _ _ _ | exact is1_c _ _ | exact isS_c _ _ | exact isB_c _ _ | exact Nat.le_refl _ | assumption | exact mulLe (by decide) (by omega) | exact mulLe2 (by decide) (by omega) (by omega) | (intros; simp only [BL] at *; omega) | (intros; (try simp only [BL] at *); (try simp only [DL] at *); omega) | (intros; simp only [BL] at *; rw [wr_id (by omega) (by omega)]; omega) | (intros; simp_all; done))); conv => whnf)
    | (refine Or.inr (And.intro rfl ?_); first | (refine congrArg intV ?_) | (refine congrArg boolV ?_) | (refine tupII ?_ ?_) | (refine tupIII ?_ ?_ ?_) | (refine tupU ?_ ?_ ?_ ?_ ?_) | exact rfl))
  · have hin : i < s.n := by omega
    have e11 : (decide (fidx (sameN s.nm nm) i ≥ 0) || (s.nm i).toList == nm.toList) = decide (fidx (sameN s.nm nm) (i + 1) ≥ 0) := by
      rw [hsc]
      by_cases h : fidx (sameN s.nm nm) i ≥ 0
      · rw [if_pos h]; simp [h]
      · rw [if_neg h]
        by_cases h2 : sameN s.nm nm i = true
        · rw [if_pos h2]
          have h3 : ((s.nm i).toList == nm.toList) = true := h2
          rw [h3]; simp
        · rw [if_neg h2]
          have h3 : ((s.nm i).toList == nm.toList) = false := by simpa [sameN] using h2
          rw [h3]; simp [h]
    refine ⟨i + 1, [], by omega, by omega, ?_⟩
    refine Sub.of ?_ ?_ ?_
    repeat' (first | (refine And.intro ?_ ?_) | exact trivial | exact congrArg boolV e11 | (refine congrArg intV ((wr_id (by omega) (by omega)).trans (by omega))) | exact rfl)
  all_goals
    have hin : i = s.n := by omega
    refine CallG.mk (Fn.mono (ilExplain1 r s cl nm hr hs) ?_)
    rintro obs v ⟨rfl, rfl⟩
    conv => whnf
    repeat' (first
      | (refine NilG.mk fun bn hbn => ?_; conv => whnf)
      | (refine Both.mk ?_ ?_ <;> conv => whnf)
      | exact trivial
      | (refine Br.mk (fun hb => ?_) (fun hb => ?_) <;> (first | (exfalso; revert hb; decide) | ((try simp only [BL] at hb) <;> (try simp only [DL] at hb) <;> conv => whnf)))
      | (refine And.intro ?_ ?_; (focus (first | exact id | exact rfl | exact trivial | (intro hg; first | exact hg | exact rfl | (simp; done) | (simp at hg ⊢; assumption)) | omega | decide | exact is2_c _ _ _ | exact is1_c _ _ | exact isS_c _ _ | exact isB_c _ _ | exact Nat.le_refl _ | assumption | exact mulLe (by decide) (by omega) | exact mulLe2 (by decide) (by omega) (by omega) | (intros; simp only [BL] at *; omega) | (intros; (try simp only [BL] at *); (try simp only [DL] at *); omega) | (intros; simp only [BL] at *; rw [wr_id (by omega) (by omega)]; omega) | (intros; simp_all; done))); conv => whnf)
      | (refine Or.inr (And.intro rfl ?_); first | (refine congrArg intV ?_) | (refine congrArg boolV ?_) | (refine tupII ?_ ?_) | (refine tupIII ?_ ?_ ?_) | (refine tupU ?_ ?_ ?_ ?_ ?_) | exact rfl))
    refine CallG.mk (Fn.mono (ilPermitted r s cl nm hr hs) ?_)
    rintro obs v ⟨rfl, rfl⟩
    conv => whnf
    repeat' (first
      | (refine NilG.mk fun bn hbn => ?_; conv => whnf)
      | (refine Both.mk ?_ ?_ <;> conv => whnf)
      | exact trivial
      | (refine Br.mk (fun hb => ?_) (fun hb => ?_) <;> (first | (exfalso; revert hb; decide) | ((try simp only [BL] at hb) <;> (try simp only [DL] at hb) <;> conv => whnf)))
      | (refine And.intro ?_ ?_; (focus (first | exact id | exact rfl | exact trivial | (intro hg; first | exact hg | exact rfl | (simp; done) | (simp at hg ⊢; assumption)) | omega | decide | exact is2_c _ _ _ | exact is1_c _ _ | exact isS_c _ _ | exact isB_c _ _ | exact Nat.le_refl _ | assumption | exact mulLe (by decide) (by omega) | exact mulLe2 (by decide) (by omega) (by omega) | (intros; simp only [BL] at *; omega) | (intros; (try simp only [BL] at *); (try simp only [DL] at *); omega) | (intros; simp only [BL] at *; rw [wr_id (by omega) (by omega)]; omega) | (intros; simp_all; done))); conv => whnf)
      | (refine Or.inr (And.intro rfl ?_); first | (refine congrArg intV ?_) | (refine congrArg boolV ?_) | (refine tupII ?_ ?_) | (refine tupIII ?_ ?_ ?_) | (refine tupU ?_ ?_ ?_ ?_ ?_) | exact rfl))
  · have h1 : ¬ rlsE r = 0 := hb
    have hE : exE r s nm = rlsE r := if_pos h1
    have hN : exN r s cl nm = 0 := if_neg (by rw [hE]; exact h1)
    rw [hE, hN]
    simp [h1]
  · rename_i h1
    exact absurd hb h1
  · rename_i h1 _
    have h1 : rlsE r = 0 := h1
    have h2 : ¬ stsE s = 0 := hb
    have hE : exE r s nm = stsE s := by unfold exE; rw [if_neg (fun h => h h1), if_pos h2]
    have hN : exN r s cl nm = 0 := if_neg (by rw [hE]; exact h2)
    rw [hE, hN]
    simp [h2]
  · rename_i h1
    exact absurd hb h1
  · rename_i h1 h2 h3
    have h1 : rlsE r = 0 := h1
    have h2 : stsE s = 0 := h2
    rw [hin] at h3
    have hE : exE r s nm = 8 := by unfold exE sIx; rw [if_neg (fun h => h h1), if_neg (fun h => h h2), if_pos (by omega)]
    have hN : exN r s cl nm = 0 := if_neg (by rw [hE]; decide)
    rw [hE, hN]
    rfl
  · rename_i h1 h2 h3
    have h1 : rlsE r = 0 := h1
    have h2 : stsE s = 0 := h2
    rw [hin] at h3
    have hE : exE r s nm = 0 := by unfold exE sIx; rw [if_neg (fun h => h h1), if_neg (fun h => h h2), if_neg (by omega)]
    have hN : exN r s cl nm = flN (fbB r s cl nm) r.n := if_pos hE
    have hr24 := (rlsE_zero h1).1
    have hfl := flN_le (fbB r s cl nm) r.n
    refine CallG.mk (Fn.mono (rfForbids r s cl nm h1 h2) ?_)
    rintro obs v ⟨rfl, rfl⟩
    rw [hE, hN]
    conv => whnf
    repeat' (first
      | (refine NilG.mk fun bn hbn => ?_; conv => whnf)
      | (refine Both.mk ?_ ?_ <;> conv => whnf)
      | exact trivial
      | (refine Br.mk (fun hb => ?_) (fun hb => ?_) <;> (first | (exfalso; revert hb; decide) | ((try simp only [BL] at hb) <;> (try simp only [DL] at hb) <;> conv => whnf)))
      | (refine And.intro ?_ ?_; (focus (first | exact id | exact rfl | exact trivial | (intro hg; first | exact hg | exact rfl | (simp; done) | (simp at hg ⊢; assumption)) | omega | decide | exact is2_c _ _ _ | exact is1_c _ _ | exact isS_c _ _ | exact isB_c _ _ | exact Nat.le_refl _ | assumption | exact mulLe (by decide) (by omega) | exact mulLe2 (by decide) (by omega) (by omega) | (intros; simp only [BL] at *; omega) | (intros; (try simp only [BL] at *); (try simp only [DL] at *); omega) | (intros; simp only [BL] at *; rw [wr_id (by omega) (by omega)]; omega) | (intros; simp_all; done) | exact fun _ => ⟨is1_c _ _, is1_c _ _, by omega, rfl, fun _ _ => rfl⟩)); conv => whnf)
      | (refine Or.inr (And.intro rfl ?_); first | (refine congrArg intV ?_) | (refine congrArg boolV ?_) | (refine tupII ?_ ?_) | (refine tupIII ?_ ?_ ?_) | (refine tupU ?_ ?_ ?_ ?_ ?_) | exact rfl))
    · simp

def tyNode : Ty := .st (.cons (.i .i64) (.cons .s (.cons (.i .i64) (.cons (.i .i64) .nil))))
def tyRuleI : Ty := .st (.cons .b (.cons .s (.cons (.sl tyNode) .nil)))
def tyStI : Ty := .st (.cons .s (.cons .b .nil))

theorem interlockSays_own : ownKnob Try.prog.godebug = none := by kernel_rfl
theorem interlockSays_laid : laidOutB Try.prog = true := by kernel_rfl

set_option maxRecDepth 100000 in
theorem interlockSays_lifted (os : Os) (started : os.Started) (H : Type) (enc : TypeId × Value → H) :
    ReturnsInHanded {} Try.checked os 5 .any (Rows.interlockSaysSpec.pre6 enc Try.prog Try.f5 Rows.interlockSaysRow.domain false) (Rows.interlockSaysSpec.post enc Try.prog Try.f5 false true false false) := by
  refine returnsInHanded_of_change (C := Try.checked) interlockSays_own started (by kernel_rfl) Try.func5
    (ChangeSpec.witness6 (enc := enc) (C := Try.checked) false ⟨#[], #[.slice none 0 0, .slice none 0 0, .bool false, .string ByteArray.empty], []⟩ 8 (by kernel_rfl) (by kernel_rfl) (by kernel_rfl) (by kernel_rfl)) ?_
  intro W base args ds gs before hval0 hW hcnd _
  have hval : ∀ (j : Nat) t v, Try.f5.params[j]? = some t → args[j]? = some v → Value.okWide Try.prog W .any base t v := hval0
  have hW' : DataW.Whole enc Try.prog Try.f5.params.toList Rows.interlockSaysSpec.vars false W args.toList ds gs before := hW
  exact law_post (P := Try.prog) [.sl tyRuleI, .sl tyStI, .b, .s] (by kernel_rfl) interlockSays_laid (by kernel_rfl) rfl (tb := 4) rfl (by kernel_rfl) (fun ds h => by
    match ds, h with
    | [d1, d2, d3, d4], _ => rfl) (fun x hx => ilLaw ⟨x.1.1, fun k => (x.1.2 k).1, fun k => (x.1.2 k).2.1, fun k => ⟨(x.1.2 k).2.2.1.1, fun j => ((x.1.2 k).2.2.1.2 j).1, fun j => ((x.1.2 k).2.2.1.2 j).2.1, fun j => ((x.1.2 k).2.2.1.2 j).2.2.1, fun j => ((x.1.2 k).2.2.1.2 j).2.2.2.1⟩⟩ ⟨x.2.1.1, fun k => (x.2.1.2 k).1, fun k => (x.2.1.2 k).2.1⟩ x.2.2.1 x.2.2.2.1 ⟨hx.1.1, fun k hk => ⟨(hx.1.2 k hk).2.1, ⟨(hx.1.2 k hk).2.2.1.1, fun j hj => ((hx.1.2 k hk).2.2.1.2 j hj).2.1⟩⟩⟩ ⟨hx.2.1.1, fun k hk => (hx.2.1.2 k hk).1⟩) W args ds gs before hval hW'

theorem interlockSays_holds : Rows.InterlockSaysSaid :=
  OpenClaim.holds_of_wide 5 Try.f5 rfl rfl rfl rfl rfl rfl rfl ⟨rfl, rfl, rfl, rfl, rfl⟩ rfl rfl rfl rfl rfl (by kernel_rfl) Try.func5 (by kernel_rfl)
    (of_decide_eq_true (by kernel_rfl)) (by unfold Func.isWrapper; rw [if_neg (by decide +kernel)]; exact ⟨rfl, rfl⟩)
    (fun os started H enc _ => interlockSays_lifted os started H enc)
end Go.Proofs.Ytgncafljibencaa
