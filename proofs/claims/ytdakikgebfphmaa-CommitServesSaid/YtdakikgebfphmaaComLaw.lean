/-
  CommitServes holds: Serve has the least cost of the generators that are on, whatever the input.
-/
import Derived.Test.YtdakikgebfphmaaComV
import Derived.Test.YtdakikgebfphmaaSrtE
import Derived.Test.YtdakikgebfphmaaOffTwo
import Derived.Test.YtdakikgebfphmaaDspN
namespace Go.Proofs.Ytdakikgebfphmaa
open Go.RowKit Go.ChangeShapes Go.WideShapes

def gamC4 : Gam := fun f => match f with
  | 22 => some (s3 inB)
  | 27 => some (sOi (fun _ n p q x => okOff n p q ∧ 0 ≤ x ∧ x ≤ 2000000) fun _ n p q x => intV (S (ct p q x) n))
  | 34 => some sUI
  | _ => none
theorem gamC4_ok : GOk Try.prog gamC4 := fun f g h => by
  unfold gamC4 at h
  split at h
  · injection h with h; subst h; exact s3_ok in3
  · injection h with h; subst h; exact sOi_ok offCost3
  · injection h with h; subst h
    intro args hs _
    unfold sUI at hs ⊢
    split at hs
    · exact (uSame _ _ _ _ hs.2.2).le (Le.cons (Le1.sl hs.1) (Le.cons (Le1.sl hs.2.1) Le.nil))
    · exact hs.elim
  · cases h
/-- the example -/
def aU : CuR := ⟨⟨⟨#[65]⟩, 0, 20, 20, 20, 1, 1, 9⟩, ⟨#[65]⟩, 2, twoP, twoQ, false, 5, 0⟩
theorem aloneF : Fn1 Try.prog 38 [] (cuV aU) := by
  refine fn_of_wpx (O := lex) tab_ok gamC4_ok mixed Try.func38 (by kernel_rfl) rfl rfl rfl (by simp [Try.ntmps38]) (by kernel_rfl) ?_
  conv => whnf
  repeat' (first
    | (refine NilG.mk fun bn hbn => ?_; conv => whnf)
    | (refine Both.mk ?_ ?_ <;> conv => whnf)
    | exact trivial
    | (refine Br.mk (fun hb => ?_) (fun hb => ?_) <;> (first | (exfalso; revert hb; decide) | ((try simp only [BL] at hb) <;> (try simp only [DL] at hb) <;> conv => whnf)))
    | (refine And.intro ?_ ?_; (focus (first | exact id | exact rfl | exact trivial | (intro hg; first | exact hg | exact rfl | (simp; done) | (simp at hg ⊢; assumption)) | omega | decide | exact is2_c _ _ _ | exact is1_c _ _ | exact isS_c _ _ | exact isB_c _ _ | exact Nat.le_refl _ | assumption | exact mulLe (by decide) (by omega) | exact mulLe2 (by decide) (by omega) (by omega) | (intros; simp only [BL] at *; omega) | (intros; (try simp only [BL] at *); (try simp only [DL] at *); omega) | (intros; simp only [BL] at *; rw [wr_id (by omega) (by omega)]; omega) | (intro h1 h2; exact Bool.and_eq_true_iff.2 ⟨h1, h2⟩) | (intros; simp_all; done))); conv => whnf)
    | (refine Or.inr (And.intro rfl ?_); first | (refine congrArg intV ?_) | (refine congrArg boolV ?_) | (refine tupII ?_ ?_) | (refine tupIII ?_ ?_ ?_) | (refine tupU ?_ ?_ ?_ ?_ ?_) | exact rfl))
  refine CallG.mk (Fn.mono (two _) ?_)
  rintro obs r ⟨rfl, rfl⟩
  conv => whnf
  repeat' (first
    | (refine NilG.mk fun bn hbn => ?_; conv => whnf)
    | (refine Both.mk ?_ ?_ <;> conv => whnf)
    | exact trivial
    | (refine Br.mk (fun hb => ?_) (fun hb => ?_) <;> (first | (exfalso; revert hb; decide) | ((try simp only [BL] at hb) <;> (try simp only [DL] at hb) <;> conv => whnf)))
    | (refine And.intro ?_ ?_; (focus (first | exact id | exact rfl | exact trivial | (intro hg; first | exact hg | exact rfl | (simp; done) | (simp at hg ⊢; assumption)) | omega | decide | exact is2_c _ _ _ | exact is1_c _ _ | exact isS_c _ _ | exact isB_c _ _ | exact Nat.le_refl _ | assumption | exact mulLe (by decide) (by omega) | exact mulLe2 (by decide) (by omega) (by omega) | (intros; simp only [BL] at *; omega) | (intros; (try simp only [BL] at *); (try simp only [DL] at *); omega) | (intros; simp only [BL] at *; rw [wr_id (by omega) (by omega)]; omega) | (intro h1 h2; exact Bool.and_eq_true_iff.2 ⟨h1, h2⟩) | (intros; simp_all; done))); conv => whnf)
    | (refine Or.inr (And.intro rfl ?_); first | (refine congrArg intV ?_) | (refine congrArg boolV ?_) | (refine tupII ?_ ?_) | (refine tupIII ?_ ?_ ?_) | (refine tupU ?_ ?_ ?_ ?_ ?_) | exact rfl))
abbrev aUs : Nat → CuR := fun _ => aU
abbrev aOn : Nat → Bool := fun _ => true
theorem a_cu : cuE aU = 0 := by
  have h0 : staE aU.r aU.on aU.si aU.po = 0 := by decide
  have h1 : offE aU.s aU.m aU.p aU.q = 0 := by decide
  have h2 : (aU.r.nm.toList == aU.s.toList) = true := beq_self_eq_true _
  unfold cuE
  rw [if_neg (fun h => h h0), if_neg (fun h => h h1), if_neg (by rintro (h | h); exact h (by decide); rw [h2] at h; cases h), if_neg (by decide)]
theorem a_cs : csE aUs 1 1 (fun _ => 12) = 0 := by
  have h0 : clE aUs 0 = 0 := by unfold clE; rw [if_neg (fun h => h a_cu), if_neg (by decide)]
  have h1 : fst (clE aUs) 1 = 0 := by simp [fst, h0]
  unfold csE
  rw [if_neg (by decide), h1]
  decide
theorem a_se : seE aUs aOn 1 1 12 = 0 := by
  unfold seE
  rw [if_neg (fun h => h a_cs), if_neg (by decide), if_pos (by decide)]
theorem a_srt : Sorted (bSz (cM aUs aOn) (cQ aUs aOn) 1) id (oN (cM aUs aOn) 1) := by
  refine ⟨fun i j hi hij hj => ?_, Rea.refl _ _ _⟩
  have h4 : oN (cM aUs aOn) 1 = 2 := by decide
  rw [h4] at hj
  have key : ∀ i, i < 2 → ∀ j, j < 2 → i < j → bSz (cM aUs aOn) (cQ aUs aOn) 1 (id i) < bSz (cM aUs aOn) (cQ aUs aOn) 1 (id j) ∨ bSz (cM aUs aOn) (cQ aUs aOn) 1 (id i) = bSz (cM aUs aOn) (cQ aUs aOn) 1 (id j) ∧ id i < id j := by decide
  exact key i (by omega) j hj hij
theorem a_X {π : Nat → Nat} (h : Sorted (bSz (cM aUs aOn) (cQ aUs aOn) 1) π (oN (cM aUs aOn) 1)) : cX aUs aOn 1 π (12 - S (cLo aUs aOn) 1) 0 = 12 := by
  unfold cX
  rw [bX_uniq h a_srt]
  decide
theorem a_C {π : Nat → Nat} (h : Sorted (bSz (cM aUs aOn) (cQ aUs aOn) 1) π (oN (cM aUs aOn) 1)) : S (cC aUs fun k => cLo aUs aOn k + cX aUs aOn 1 π (12 - S (cLo aUs aOn) 1) k) 1 = 66 := by
  have e : S (cC aUs fun k => cLo aUs aOn k + cX aUs aOn 1 π (12 - S (cLo aUs aOn) 1) k) 1 = S (cC aUs fun _ => 12) 1 := S_congr fun k hk => by
    obtain rfl : k = 0 := by omega
    show S (ct aU.p aU.q (cLo aUs aOn 0 + cX aUs aOn 1 π (12 - S (cLo aUs aOn) 1) 0)) aU.m = S (ct aU.p aU.q 12) aU.m
    rw [a_X h]
    rfl
  rw [e]
  decide
set_option maxHeartbeats 2000000 in
theorem comLaw (u : Nat → CuR) (o : Nat → Bool) (n no : Nat) (T : Int) (hn : n ≤ maxLen) (hno : no ≤ maxLen) (hz : ∀ k, k < n → cuZ (u k)) :
    Fn1 Try.prog 12 [.c (.sl 13 n (cCu u)), .c (.sl 1 no (cB o)), intV T] (boolV true) := by
  refine fn_of_wpx (O := lex) tab_ok gamC4_ok mixed Try.func12 (by kernel_rfl) rfl rfl rfl (by simp [Try.ntmps12]) (by kernel_rfl) ?_
  have hn' : n ≤ 9223372036854775807 := hn
  have hno' : no ≤ 9223372036854775807 := hno
  conv => whnf
  repeat' (first
    | (refine NilG.mk fun bn hbn => ?_; conv => whnf)
    | (refine Both.mk ?_ ?_ <;> conv => whnf)
    | exact trivial
    | (refine Br.mk (fun hb => ?_) (fun hb => ?_) <;> (first | (exfalso; revert hb; decide) | ((try simp only [BL] at hb) <;> (try simp only [DL] at hb) <;> conv => whnf)))
    | (refine And.intro ?_ ?_; (focus (first | exact id | exact rfl | exact trivial | (intro hg; first | exact hg | exact rfl | (simp; done) | (simp at hg ⊢; assumption)) | omega | decide | exact is2_c _ _ _ | exact is1_c _ _ | exact isS_c _ _ | exact isB_c _ _ | exact Nat.le_refl _ | assumption | exact mulLe (by decide) (by omega) | exact mulLe2 (by decide) (by omega) (by omega) | (intros; simp only [BL] at *; omega) | (intros; (try simp only [BL] at *); (try simp only [DL] at *); omega) | (intros; simp only [BL] at *; rw [wr_id (by omega) (by omega)]; omega) | (intro h1 h2; exact Bool.and_eq_true_iff.2 ⟨h1, h2⟩) | (intros; simp_all; done))); conv => whnf)
    | (refine Or.inr (And.intro rfl ?_); first | (refine congrArg intV ?_) | (refine congrArg boolV ?_) | (refine tupII ?_ ?_) | (refine tupIII ?_ ?_ ?_) | (refine tupU ?_ ?_ ?_ ?_ ?_) | exact rfl))
  refine CallG.mk (Fn.mono aloneF ?_)
  rintro obs r ⟨rfl, rfl⟩
  conv => whnf
  repeat' (first
    | (refine NilG.mk fun bn hbn => ?_; conv => whnf)
    | (refine Both.mk ?_ ?_ <;> conv => whnf)
    | exact trivial
    | (refine Br.mk (fun hb => ?_) (fun hb => ?_) <;> (first | (exfalso; revert hb; decide) | ((try simp only [BL] at hb) <;> (try simp only [DL] at hb) <;> conv => whnf)))
    | (refine And.intro ?_ ?_; (focus (first | exact id | exact rfl | exact trivial | (intro hg; first | exact hg | exact rfl | (simp; done) | (simp at hg ⊢; assumption)) | omega | decide | exact is2_c _ _ _ | exact is1_c _ _ | exact isS_c _ _ | exact isB_c _ _ | exact Nat.le_refl _ | assumption | exact mulLe (by decide) (by omega) | exact mulLe2 (by decide) (by omega) (by omega) | (intros; simp only [BL] at *; omega) | (intros; (try simp only [BL] at *); (try simp only [DL] at *); omega) | (intros; simp only [BL] at *; rw [wr_id (by omega) (by omega)]; omega) | (intro h1 h2; exact Bool.and_eq_true_iff.2 ⟨h1, h2⟩) | (intros; simp_all; done))); conv => whnf)
    | (refine Or.inr (And.intro rfl ?_); first | (refine congrArg intV ?_) | (refine congrArg boolV ?_) | (refine tupII ?_ ?_) | (refine tupIII ?_ ?_ ?_) | (refine tupU ?_ ?_ ?_ ?_ ?_) | exact rfl))
  refine CallG.mk (Fn.mono ((serveR aUs aOn 1 1 12 (by decide) (by decide) (fun k hk => by show cuZ aU; unfold cuZ; decide)).le (Le.cons (Le1.l (LLe.sl fun k hk j hj => ?_)) (Le.cons (Le1.l (LLe.sl fun k hk j hj => ?_)) (Le.cons (Le1.refl _) Le.nil)))) ?_)
  · obtain rfl : k = 0 := by omega
    match j, hj with
    | 0, _ => exact LLe.of_eq rfl
    | 1, _ => exact LLe.of_eq rfl
    | 2, _ => exact LLe.of_eq rfl
    | 3, _ => exact LLe.of_eq rfl
    | 4, _ => exact LLe.of_eq rfl
    | 5, _ => exact LLe.of_eq rfl
    | 6, _ => exact LLe.of_eq rfl
    | 7, _ => exact LLe.of_eq rfl
    | 8, _ => exact LLe.of_eq rfl
    | 9, _ => exact LLe.of_eq rfl
    | 10, _ => exact LLe.of_eq rfl
    | 11, _ => exact LLe.of_eq rfl
    | 12, _ => exact LLe.of_eq rfl
  · match k, j, hk, hj with
    | 0, 0, _, _ => exact LLe.of_eq rfl
  rintro obs r ⟨rfl, K, g, c, rfl, _, hg1⟩
  obtain ⟨rfl, π0, hq0, rfl, hc0⟩ := hg1 a_se
  rw [a_C hq0] at hc0
  have hx0 := a_X hq0
  rw [a_se, hc0]
  conv => whnf
  repeat' (first
    | (refine NilG.mk fun bn hbn => ?_; conv => whnf)
    | (refine Both.mk ?_ ?_ <;> conv => whnf)
    | exact trivial
    | (refine Br.mk (fun hb => ?_) (fun hb => ?_) <;> (first | (exfalso; revert hb; decide) | ((try simp only [BL] at hb) <;> (try simp only [DL] at hb) <;> conv => whnf)))
    | (refine And.intro ?_ ?_; (focus (first | exact id | exact rfl | exact trivial | (intro hg; first | exact hg | exact rfl | (simp; done) | (simp at hg ⊢; assumption)) | omega | decide | exact is2_c _ _ _ | exact is1_c _ _ | exact isS_c _ _ | exact isB_c _ _ | exact Nat.le_refl _ | assumption | exact mulLe (by decide) (by omega) | exact mulLe2 (by decide) (by omega) (by omega) | (intros; simp only [BL] at *; omega) | (intros; (try simp only [BL] at *); (try simp only [DL] at *); omega) | (intros; simp only [BL] at *; rw [wr_id (by omega) (by omega)]; omega) | (intro h1 h2; exact Bool.and_eq_true_iff.2 ⟨h1, h2⟩) | (intros; simp_all; done))); conv => whnf)
    | (refine Or.inr (And.intro rfl ?_); first | (refine congrArg intV ?_) | (refine congrArg boolV ?_) | (refine tupII ?_ ?_) | (refine tupIII ?_ ?_ ?_) | (refine tupU ?_ ?_ ?_ ?_ ?_) | exact rfl))
  refine And.intro (fun _ => ?_) (fun hg => absurd hg (by decide))
  conv => whnf
  repeat' (first
    | (refine NilG.mk fun bn hbn => ?_; conv => whnf)
    | (refine Both.mk ?_ ?_ <;> conv => whnf)
    | exact trivial
    | (refine Br.mk (fun hb => ?_) (fun hb => ?_) <;> (first | (exfalso; revert hb; decide) | ((try simp only [BL] at hb) <;> (try simp only [DL] at hb) <;> conv => whnf)))
    | (refine And.intro ?_ ?_; (focus (first | exact id | exact rfl | exact trivial | (intro hg; first | exact hg | exact rfl | (simp; done) | (simp at hg ⊢; assumption)) | omega | decide | exact is2_c _ _ _ | exact is1_c _ _ | exact isS_c _ _ | exact isB_c _ _ | exact Nat.le_refl _ | assumption | exact mulLe (by decide) (by omega) | exact mulLe2 (by decide) (by omega) (by omega) | (intros; simp only [BL] at *; omega) | (intros; (try simp only [BL] at *); (try simp only [DL] at *); omega) | (intros; simp only [BL] at *; rw [wr_id (by omega) (by omega)]; omega) | (intro h1 h2; exact Bool.and_eq_true_iff.2 ⟨h1, h2⟩) | (intros; simp_all; done))); conv => whnf)
    | (refine Or.inr (And.intro rfl ?_); first | (refine congrArg intV ?_) | (refine congrArg boolV ?_) | (refine tupII ?_ ?_) | (refine tupIII ?_ ?_ ?_) | (refine tupU ?_ ?_ ?_ ?_ ?_) | exact rfl))
  refine And.intro (fun _ => ⟨is1_c _ _, fun k hk j hj => ?_, by decide, rfl, fun i hi => ?_⟩) ?_
  · match k, j, hk, hj with
    | 0, 0, _, _ => rfl
  · obtain rfl : i = 0 := by omega
    show (if aOn 0 = true then cLo aUs aOn 0 + cX aUs aOn 1 π0 (12 - S (cLo aUs aOn) 1) 0 else -1) = 12
    rw [hx0]
    decide
  clear hx0 hq0 hg1 hc0
  conv => whnf
  repeat' (first
    | (refine NilG.mk fun bn hbn => ?_; conv => whnf)
    | (refine Both.mk ?_ ?_ <;> conv => whnf)
    | exact trivial
    | (refine Br.mk (fun hb => ?_) (fun hb => ?_) <;> (first | (exfalso; revert hb; decide) | ((try simp only [BL] at hb) <;> (try simp only [DL] at hb) <;> conv => whnf)))
    | (refine And.intro ?_ ?_; (focus (first | exact id | exact rfl | exact trivial | (intro hg; first | exact hg | exact rfl | (simp; done) | (simp at hg ⊢; assumption)) | omega | decide | exact is2_c _ _ _ | exact is1_c _ _ | exact isS_c _ _ | exact isB_c _ _ | exact Nat.le_refl _ | assumption | exact mulLe (by decide) (by omega) | exact mulLe2 (by decide) (by omega) (by omega) | (intros; simp only [BL] at *; omega) | (intros; (try simp only [BL] at *); (try simp only [DL] at *); omega) | (intros; simp only [BL] at *; rw [wr_id (by omega) (by omega)]; omega) | (intro h1 h2; exact Bool.and_eq_true_iff.2 ⟨h1, h2⟩) | (intros; simp_all; done))); conv => whnf)
    | (refine Or.inr (And.intro rfl ?_); first | (refine congrArg intV ?_) | (refine congrArg boolV ?_) | (refine tupII ?_ ?_) | (refine tupIII ?_ ?_ ?_) | (refine tupU ?_ ?_ ?_ ?_ ?_) | exact rfl))
  refine CallG.mk (Fn.mono (serveR u o n no T hn hno hz) ?_)
  rintro obs r ⟨rfl, K, g, c, rfl, hs0, hs1⟩
  conv => whnf
  repeat' (first
    | (refine NilG.mk fun bn hbn => ?_; conv => whnf)
    | (refine Both.mk ?_ ?_ <;> conv => whnf)
    | exact trivial
    | (refine Br.mk (fun hb => ?_) (fun hb => ?_) <;> (first | (exfalso; revert hb; decide) | ((try simp only [BL] at hb) <;> (try simp only [DL] at hb) <;> conv => whnf)))
    | (refine And.intro ?_ ?_; (focus (first | exact id | exact rfl | exact trivial | (intro hg; first | exact hg | exact rfl | (simp; done) | (simp at hg ⊢; assumption)) | omega | decide | exact is2_c _ _ _ | exact is1_c _ _ | exact isS_c _ _ | exact isB_c _ _ | exact Nat.le_refl _ | assumption | exact mulLe (by decide) (by omega) | exact mulLe2 (by decide) (by omega) (by omega) | (intros; simp only [BL] at *; omega) | (intros; (try simp only [BL] at *); (try simp only [DL] at *); omega) | (intros; simp only [BL] at *; rw [wr_id (by omega) (by omega)]; omega) | (intro h1 h2; exact Bool.and_eq_true_iff.2 ⟨h1, h2⟩) | (intros; simp_all; done))); conv => whnf)
    | (refine Or.inr (And.intro rfl ?_); first | (refine congrArg intV ?_) | (refine congrArg boolV ?_) | (refine tupII ?_ ?_) | (refine tupIII ?_ ?_ ?_) | (refine tupU ?_ ?_ ?_ ?_ ?_) | exact rfl))
  refine CallG.mk (Fn.mono ((comsErr u n 1 (fun _ => T) hn (by decide) hz).le (Le.cons (Le1.refl _) (Le.cons (Le1.sl fun k hk j hj => ?_) Le.nil))) ?_)
  · match k, j, hk, hj with
    | 0, 0, _, _ => rfl
  rintro obs r ⟨rfl, rfl⟩
  conv => whnf
  repeat' (first
    | (refine NilG.mk fun bn hbn => ?_; conv => whnf)
    | (refine Both.mk ?_ ?_ <;> conv => whnf)
    | exact trivial
    | (refine Br.mk (fun hb => ?_) (fun hb => ?_) <;> (first | (exfalso; revert hb; decide) | ((try simp only [BL] at hb) <;> (try simp only [DL] at hb) <;> conv => whnf)))
    | (refine And.intro ?_ ?_; (focus (first | exact id | exact rfl | exact trivial | (intro hg; first | exact hg | exact rfl | (simp; done) | (simp at hg ⊢; assumption)) | omega | decide | exact is2_c _ _ _ | exact is1_c _ _ | exact isS_c _ _ | exact isB_c _ _ | exact Nat.le_refl _ | assumption | exact mulLe (by decide) (by omega) | exact mulLe2 (by decide) (by omega) (by omega) | (intros; simp only [BL] at *; omega) | (intros; (try simp only [BL] at *); (try simp only [DL] at *); omega) | (intros; simp only [BL] at *; rw [wr_id (by omega) (by omega)]; omega) | (intro h1 h2; exact Bool.and_eq_true_iff.2 ⟨h1, h2⟩) | (intros; simp_all; done))); conv => whnf)
    | (refine Or.inr (And.intro rfl ?_); first | (refine congrArg intV ?_) | (refine congrArg boolV ?_) | (refine tupII ?_ ?_) | (refine tupIII ?_ ?_ ?_) | (refine tupU ?_ ?_ ?_ ?_ ?_) | exact rfl))
  · have h0 : seE u o n no T = 3 := by unfold seE; rw [if_neg (fun h => by rename_i h1; exact h h1.1), if_pos (by omega)]
    obtain ⟨rfl, rfl⟩ := hs0 (by rw [h0]; decide)
    rw [h0]
    rfl
  · have h0 : seE u o n no T = csE u n 1 fun _ => T := by unfold seE; rw [if_pos hb]
    obtain ⟨rfl, rfl⟩ := hs0 (by rw [h0]; exact hb)
    rw [h0]
    simp
  · rfl
  have h1 : (csE u n 1 fun _ => T) = 0 := by rename_i h; exact h
  obtain rfl : no = n := by
    rename_i h _
    rcases h with h | h
    · exact absurd h1 h
    · omega
  obtain ⟨hn3, _, hv, hT⟩ := csE_zero h1
  have hT := hT 0 (by decide)
  have h0 : seE u o no no T = if 0 ≤ T - S (cLo u o) no ∧ T - S (cLo u o) no ≤ S (cR u o) no then 0 else 8 := by unfold seE; rw [if_neg (fun h => h h1), if_neg (fun h => h rfl)]
  generalize hEE : seE u o no no T = E at h0 hs0 hs1
  clear hb
  refine And.intro (by show (8 : Int) * no ≤ _; omega) (And.intro (by omega) (And.intro (by decide) ?_))
  conv => whnf
  repeat' (first
    | (refine NilG.mk fun bn hbn => ?_; conv => whnf)
    | (refine Both.mk ?_ ?_ <;> conv => whnf)
    | exact trivial
    | (refine Br.mk (fun hb => ?_) (fun hb => ?_) <;> (first | (exfalso; revert hb; decide) | ((try simp only [BL] at hb) <;> (try simp only [DL] at hb) <;> conv => whnf)))
    | (refine And.intro ?_ ?_; (focus (first | exact id | exact rfl | exact trivial | (intro hg; first | exact hg | exact rfl | (simp; done) | (simp at hg ⊢; assumption)) | omega | decide | exact is2_c _ _ _ | exact is1_c _ _ | exact isS_c _ _ | exact isB_c _ _ | exact Nat.le_refl _ | assumption | exact mulLe (by decide) (by omega) | exact mulLe2 (by decide) (by omega) (by omega) | (intros; simp only [BL] at *; omega) | (intros; (try simp only [BL] at *); (try simp only [DL] at *); omega) | (intros; simp only [BL] at *; rw [wr_id (by omega) (by omega)]; omega) | (intro h1 h2; exact Bool.and_eq_true_iff.2 ⟨h1, h2⟩) | (intros; simp_all; done))); conv => whnf)
    | (refine Or.inr (And.intro rfl ?_); first | (refine congrArg intV ?_) | (refine congrArg boolV ?_) | (refine tupII ?_ ?_) | (refine tupIII ?_ ?_ ?_) | (refine tupU ?_ ?_ ?_ ?_ ?_) | exact rfl))
  refine sem_loop tab_ok gamC4_ok mixed (by kernel_rfl) (O := lex) (fun i : Nat => ⟨[(0, .c (.sl 13 no (cCu u))), (1, .c (.sl 1 no (cB o))), (2, intV T), (10, .c (.sl 1 K (c1 g))), (11, intV c), (12, intV E), (14, .own 0), (83, intV no), (84, intV i)], [.row 3 1 no false (c1 fun k => if k < i then (if o k then 1 else 0) else 0)]⟩) (fun i => i ≤ no) (fun i => no - i) ⟨0, [?_], Nat.zero_le _, ?_⟩ fun i hi => ?_
  rotate_left 1
  · refine Sub.of ?_ ?_ ?_
    repeat' (first | (refine And.intro ?_ ?_) | exact trivial | exact fun _ _ _ => hsc _ _ | (exact congrArg intV (by first | with_reducible rfl | with_reducible assumption)) | exact (rfl : AV.idsLt _ _ = true) | exact (rfl : _ = AV.ren _ (.own _)) | exact (rfl : _ = AV.ren _ (.fn _ _)) | exact (rfl : _ = AV.ren _ (.gh _)) | (exact congrArg intV (by assumption)) | (refine congrArg intV ((wr_id (by omega) (by omega)).trans (by omega))) | exact rfl | (simp only [Int.toNat_natCast, Int.toNat_zero, Nat.sub_zero, Nat.zero_add]; first | exact rfl | done) | exact all0 | exact fun h => Bool.noConfusion h | exact fun _ _ _ _ => rfl | omega)
    · intro a ha b hb1
      have hb1 : b < 1 := hb1
      obtain rfl : b = 0 := by omega
      show iL 0 = iL (if a < 0 then (if o a = true then 1 else 0) else 0)
      rw [if_neg (Nat.not_lt_zero _)]
  conv => whnf
  repeat' (first
    | (refine NilG.mk fun bn hbn => ?_; conv => whnf)
    | (refine Both.mk ?_ ?_ <;> conv => whnf)
    | exact trivial
    | (refine Br.mk (fun hb => ?_) (fun hb => ?_) <;> (first | (exfalso; revert hb; decide) | ((try simp only [BL] at hb) <;> (try simp only [DL] at hb) <;> conv => whnf)))
    | (refine And.intro ?_ ?_; (focus (first | exact id | exact rfl | exact trivial | (intro hg; first | exact hg | exact rfl | (simp; done) | (simp at hg ⊢; assumption)) | omega | decide | exact is2_c _ _ _ | exact is1_c _ _ | exact isS_c _ _ | exact isB_c _ _ | exact Nat.le_refl _ | assumption | exact mulLe (by decide) (by omega) | exact mulLe2 (by decide) (by omega) (by omega) | (intros; simp only [BL] at *; omega) | (intros; (try simp only [BL] at *); (try simp only [DL] at *); omega) | (intros; simp only [BL] at *; rw [wr_id (by omega) (by omega)]; omega) | (intro h1 h2; exact Bool.and_eq_true_iff.2 ⟨h1, h2⟩) | (intros; simp_all; done))); conv => whnf)
    | (refine Or.inr (And.intro rfl ?_); first | (refine congrArg intV ?_) | (refine congrArg boolV ?_) | (refine tupII ?_ ?_) | (refine tupIII ?_ ?_ ?_) | (refine tupU ?_ ?_ ?_ ?_ ?_) | exact rfl))
  · have hin : i < no := by omega
    have hoi : o i = true := hb
    refine ⟨i + 1, [?_], by omega, by omega, ?_⟩
    rotate_left 1
    refine Sub.of ?_ ?_ ?_
    repeat' (first | (refine And.intro ?_ ?_) | exact trivial | exact fun _ _ _ => hsc _ _ | (exact congrArg intV (by first | with_reducible rfl | with_reducible assumption)) | exact (rfl : AV.idsLt _ _ = true) | exact (rfl : _ = AV.ren _ (.own _)) | exact (rfl : _ = AV.ren _ (.fn _ _)) | exact (rfl : _ = AV.ren _ (.gh _)) | (exact congrArg intV (by assumption)) | (refine congrArg intV ((wr_id (by omega) (by omega)).trans (by omega))) | exact rfl | (simp only [Int.toNat_natCast, Int.toNat_zero, Nat.sub_zero, Nat.zero_add]; first | exact rfl | done) | exact all0 | exact fun h => Bool.noConfusion h | exact fun _ _ _ _ => rfl | omega)
    intro a ha b hb1
    obtain rfl : b = 0 := by omega
    show (if a = i then iL 1 else iL (if a < i then (if o a = true then 1 else 0) else 0)) = iL (if a < i + 1 then (if o a = true then 1 else 0) else 0)
    by_cases h : a = i
    · rw [if_pos h, if_pos (show a < i + 1 by omega), h, if_pos hoi]
    · rw [if_neg h]
      by_cases h2 : a < i
      · rw [if_pos h2, if_pos (show a < i + 1 by omega)]
      · rw [if_neg h2, if_neg (by omega)]
  · have hin : i < no := by omega
    have hoi : o i = false := hb
    refine ⟨i + 1, [?_], by omega, by omega, ?_⟩
    rotate_left 1
    refine Sub.of ?_ ?_ ?_
    repeat' (first | (refine And.intro ?_ ?_) | exact trivial | exact fun _ _ _ => hsc _ _ | (exact congrArg intV (by first | with_reducible rfl | with_reducible assumption)) | exact (rfl : AV.idsLt _ _ = true) | exact (rfl : _ = AV.ren _ (.own _)) | exact (rfl : _ = AV.ren _ (.fn _ _)) | exact (rfl : _ = AV.ren _ (.gh _)) | (exact congrArg intV (by assumption)) | (refine congrArg intV ((wr_id (by omega) (by omega)).trans (by omega))) | exact rfl | (simp only [Int.toNat_natCast, Int.toNat_zero, Nat.sub_zero, Nat.zero_add]; first | exact rfl | done) | exact all0 | exact fun h => Bool.noConfusion h | exact fun _ _ _ _ => rfl | omega)
    intro a ha b hb1
    obtain rfl : b = 0 := by omega
    show iL (if a < i then (if o a = true then 1 else 0) else 0) = iL (if a < i + 1 then (if o a = true then 1 else 0) else 0)
    by_cases h2 : a < i
    · rw [if_pos h2, if_pos (show a < i + 1 by omega)]
    · rw [if_neg h2]
      by_cases h : a = i
      · rw [if_pos (by omega), h, hoi]; rfl
      · rw [if_neg (by omega)]
  obtain rfl : i = no := by omega
  have hbits : ∀ k, k < i → ∀ j, j < 1 → c1 (fun k => if k < i then (if o k = true then 1 else 0) else 0) k j = c1 (fun k => if o k = true then 1 else 0) k j := fun k hk j hj => by
    obtain rfl : j = 0 := by omega
    show iL (if k < i then (if o k = true then 1 else 0) else 0) = iL (if o k = true then 1 else 0)
    rw [if_pos hk]
  by_cases hc : 0 ≤ T - S (cLo u o) i ∧ T - S (cLo u o) i ≤ S (cR u o) i
  rotate_left
  · obtain ⟨π', hq'⟩ : ∃ π, Sorted (bSz (cM u o) (cQ u o) i) π (oN (cM u o) i) := sorted_ex _ _
    refine CallG.mk (Fn.mono ((cmCheap u o i T π' hn3 hT hv hq').le (Le.cons (Le1.refl _) (Le.cons (Le1.sl hbits) (Le.cons (Le1.refl _) Le.nil)))) ?_)
    rintro obs r ⟨rfl, c', rfl, hch⟩
    rw [if_neg hc] at h0
    subst h0
    obtain ⟨rfl, rfl⟩ := hs0 (by decide)
    rw [decide_eq_false hc]
    conv => whnf
    repeat' (first
      | (refine NilG.mk fun bn hbn => ?_; conv => whnf)
      | (refine Both.mk ?_ ?_ <;> conv => whnf)
      | exact trivial
      | (refine Br.mk (fun hb => ?_) (fun hb => ?_) <;> (first | (exfalso; revert hb; decide) | ((try simp only [BL] at hb) <;> (try simp only [DL] at hb) <;> conv => whnf)))
      | (refine And.intro ?_ ?_; (focus (first | exact id | exact rfl | exact trivial | (intro hg; first | exact hg | exact rfl | (simp; done) | (simp at hg ⊢; assumption)) | omega | decide | exact is2_c _ _ _ | exact is1_c _ _ | exact isS_c _ _ | exact isB_c _ _ | exact Nat.le_refl _ | assumption | exact mulLe (by decide) (by omega) | exact mulLe2 (by decide) (by omega) (by omega) | (intros; simp only [BL] at *; omega) | (intros; (try simp only [BL] at *); (try simp only [DL] at *); omega) | (intros; simp only [BL] at *; rw [wr_id (by omega) (by omega)]; omega) | (intro h1 h2; exact Bool.and_eq_true_iff.2 ⟨h1, h2⟩) | (intros; simp_all; done))); conv => whnf)
      | (refine Or.inr (And.intro rfl ?_); first | (refine congrArg intV ?_) | (refine congrArg boolV ?_) | (refine tupII ?_ ?_) | (refine tupIII ?_ ?_ ?_) | (refine tupU ?_ ?_ ?_ ?_ ?_) | exact rfl))
    · rfl
  rw [if_pos hc] at h0
  subst h0
  obtain ⟨rfl, π, hq, rfl, hcc⟩ := hs1 rfl
  refine CallG.mk (Fn.mono ((cmCheap u o K T π hn3 hT hv hq).le (Le.cons (Le1.refl _) (Le.cons (Le1.sl hbits) (Le.cons (Le1.refl _) Le.nil)))) ?_)
  rintro obs r ⟨rfl, c', rfl, hch⟩
  have hch := hch hc
  rw [decide_eq_true hc]
  obtain ⟨hXs, hXb⟩ := cX_b hv hq hc.1 hc.2
  generalize hX : cX u o K π (T - S (cLo u o) K) = X at *
  have hcl := fun k (hk : k < K) => cLH (o := o) (hv k hk)
  conv => whnf
  repeat' (first
    | (refine NilG.mk fun bn hbn => ?_; conv => whnf)
    | (refine Both.mk ?_ ?_ <;> conv => whnf)
    | exact trivial
    | (refine Br.mk (fun hb => ?_) (fun hb => ?_) <;> (first | (exfalso; revert hb; decide) | ((try simp only [BL] at hb) <;> (try simp only [DL] at hb) <;> conv => whnf)))
    | (refine And.intro ?_ ?_; (focus (first | exact id | exact rfl | exact trivial | (intro hg; first | exact hg | exact rfl | (simp; done) | (simp at hg ⊢; assumption)) | omega | decide | exact is2_c _ _ _ | exact is1_c _ _ | exact isS_c _ _ | exact isB_c _ _ | exact Nat.le_refl _ | assumption | exact mulLe (by decide) (by omega) | exact mulLe2 (by decide) (by omega) (by omega) | (intros; simp only [BL] at *; omega) | (intros; (try simp only [BL] at *); (try simp only [DL] at *); omega) | (intros; simp only [BL] at *; rw [wr_id (by omega) (by omega)]; omega) | (intro h1 h2; exact Bool.and_eq_true_iff.2 ⟨h1, h2⟩) | (intros; simp_all; done))); conv => whnf)
    | (refine Or.inr (And.intro rfl ?_); first | (refine congrArg intV ?_) | (refine congrArg boolV ?_) | (refine tupII ?_ ?_) | (refine tupIII ?_ ?_ ?_) | (refine tupU ?_ ?_ ?_ ?_ ?_) | exact rfl))
  · exfalso
    rcases hb with (h | h) | h
    · exact h trivial
    · exact h (hcc.trans hch.symm)
    · exact h trivial
  clear hb hs1 hs0 hq hX hbits
  have hy : ∀ k, k < K → max (if o k = true then (fun k => cLo u o k + X k) k else -1) 0 = (fun k => cLo u o k + X k) k := fun k hk => by
    show max (if o k = true then cLo u o k + X k else -1) 0 = cLo u o k + X k
    have g1 := hXb k hk
    have g2 := hcl k hk
    unfold cR at g1
    cases h9 : o k with
    | true => rw [if_pos rfl]; omega
    | false =>
      have g3 : cHi u o k = 0 := by unfold cHi; rw [h9]; rfl
      rw [if_neg (by decide)]
      omega
  have hyb : ∀ k, k < K → 0 ≤ (fun k => cLo u o k + X k) k ∧ (fun k => cLo u o k + X k) k ≤ 100000 := fun k hk => by
    show 0 ≤ cLo u o k + X k ∧ cLo u o k + X k ≤ 100000
    have g1 := hXb k hk
    have g2 := hcl k hk
    unfold cR at g1
    omega
  have hyr : ∀ k, k < K → o k = true → (u k).r.le ≤ (fun k => cLo u o k + X k) k ∧ (fun k => cLo u o k + X k) k ≤ (u k).r.mo := fun k hk h9 => by
    show (u k).r.le ≤ cLo u o k + X k ∧ cLo u o k + X k ≤ (u k).r.mo
    have g1 := hXb k hk
    have eL : cLo u o k = (u k).r.le := by unfold cLo; rw [if_pos h9]
    have eR : cR u o k = (u k).r.mo - (u k).r.le := by unfold cR cHi cLo; rw [if_pos h9, if_pos h9]
    omega
  have hys : S (fun k => cLo u o k + X k) K = T := by
    rw [S_plus2]
    show S (cLo u o) K + S X K = T
    omega
  have hrow : (fun k => if o k = true then cLo u o k + X k else -1) = fun k => if o k = true then (fun k => cLo u o k + X k) k else -1 := rfl
  rw [hrow]
  clear hrow hcc hXs hXb hcl hc
  generalize (fun k => cLo u o k + X k) = y at *
  have hCb := fun k (hk : k ≤ K) => cC_b hv y hk
  have hSb := fun k (hk : k ≤ K) => S_le (p := y) (a := 0) (b := 100000) (k := k) fun j hj => hyb j (by omega)
  refine sem_loop tab_ok gamC4_ok mixed (by kernel_rfl) (O := lex) (fun j : Nat => ⟨[(1, .c (.sl 1 K (cB o))), (2, intV T), (10, .c (.sl 1 K (c1 fun k => if o k = true then y k else -1))), (16, intV c'), (18, intV (S y j)), (19, intV (S (cC u y) j)), (129, .c (.sl 13 K (cCu u))), (130, intV K), (131, intV j)], []⟩) (fun j => j ≤ K) (fun j => K - j) ⟨0, [], Nat.zero_le _, ?_⟩ fun j hj => ?_
  · refine Sub.of ?_ ?_ ?_
    repeat' (first | (refine And.intro ?_ ?_) | exact trivial | exact fun _ _ _ => hsc _ _ | (exact congrArg intV (by first | with_reducible rfl | with_reducible assumption)) | exact (rfl : AV.idsLt _ _ = true) | exact (rfl : _ = AV.ren _ (.own _)) | exact (rfl : _ = AV.ren _ (.fn _ _)) | exact (rfl : _ = AV.ren _ (.gh _)) | (exact congrArg intV (by assumption)) | (refine congrArg intV ((wr_id (by omega) (by omega)).trans (by omega))) | exact rfl | (simp only [Int.toNat_natCast, Int.toNat_zero, Nat.sub_zero, Nat.zero_add]; first | exact rfl | done) | exact all0 | exact fun h => Bool.noConfusion h | exact fun _ _ _ _ => rfl | omega)
  have hyj := hy j
  have hybj := hyb j
  have hcj := fun (h : j < K) => (cuE_zero (hv j h)).2.2.2.1
  have hs2 : j < K → 0 ≤ max (if o j = true then y j else -1) 0 ∧ max (if o j = true then y j else -1) 0 ≤ 2000000 := fun h => by
    have := hyj h
    have := hybj h
    omega
  clear hy hyb hv
  have hCb1 := hCb (j + 1)
  have hSb1 := hSb (j + 1)
  conv => whnf
  repeat' (first
    | (refine NilG.mk fun bn hbn => ?_; conv => whnf)
    | (refine Both.mk ?_ ?_ <;> conv => whnf)
    | exact trivial
    | (refine Br.mk (fun hb => ?_) (fun hb => ?_) <;> (first | (exfalso; revert hb; decide) | ((try simp only [BL] at hb) <;> (try simp only [DL] at hb) <;> conv => whnf)))
    | (refine And.intro ?_ ?_; (focus (first | exact id | exact rfl | exact trivial | (intro hg; first | exact hg | exact rfl | (simp; done) | (simp at hg ⊢; assumption)) | omega | decide | exact is2_c _ _ _ | exact is1_c _ _ | exact isS_c _ _ | exact isB_c _ _ | exact Nat.le_refl _ | assumption | exact mulLe (by decide) (by omega) | exact mulLe2 (by decide) (by omega) (by omega) | (intros; simp only [BL] at *; omega) | (intros; (try simp only [BL] at *); (try simp only [DL] at *); omega) | (intros; simp only [BL] at *; rw [wr_id (by omega) (by omega)]; omega) | (intro h1 h2; exact Bool.and_eq_true_iff.2 ⟨h1, h2⟩) | exact ⟨is2_c _ _ _, hcj (by omega), (hs2 (by omega)).1, (hs2 (by omega)).2⟩ | (intros; simp_all; done))); conv => whnf)
    | (refine Or.inr (And.intro rfl ?_); first | (refine congrArg intV ?_) | (refine congrArg boolV ?_) | (refine tupII ?_ ?_) | (refine tupIII ?_ ?_ ?_) | (refine tupU ?_ ?_ ?_ ?_ ?_) | exact rfl))
  · exfalso
    have hjK : j < K := by omega
    have g1 := hybj hjK
    have g2 := hyr j hjK
    cases h9 : o j with
    | true =>
      have g2 := g2 h9
      rw [h9, if_pos rfl] at hb
      rcases hb with hb | ⟨_, hb⟩
      · apply hb
        rw [show (y j == -1) = false by rw [beq_eq_false_iff_ne]; omega]
        rfl
      · omega
    | false =>
      rw [h9, if_neg (by decide)] at hb
      rcases hb with hb | ⟨hb, _⟩
      · exact hb rfl
      · cases hb
  · have hjK : j < K := by omega
    have g1 := hybj hjK
    have g3 := hyj hjK
    have g4 := hCb1 hjK
    have g5 := hSb1 hjK
    have k1 : S y (j + 1) = S y j + y j := rfl
    have k2 : S (cC u y) (j + 1) = S (cC u y) j + S (ct (u j).p (u j).q (y j)) (u j).m := rfl
    have e1 : IntKind.i64.wrap (S y j + max (if o j = true then y j else -1) 0) = S y (j + 1) := by
      rw [g3, k1]
      exact wr_id (by omega) (by omega)
    have e2 : IntKind.i64.wrap (S (cC u y) j + S (ct (u j).p (u j).q (max (if o j = true then y j else -1) 0)) (u j).m) = S (cC u y) (j + 1) := by
      rw [g3, k2]
      exact wr_id (by omega) (by omega)
    refine ⟨j + 1, [], by omega, by omega, ?_⟩
    refine Sub.of ?_ ?_ ?_
    repeat' (first | (refine And.intro ?_ ?_) | exact trivial | exact fun _ _ _ => hsc _ _ | (exact congrArg intV (by first | with_reducible rfl | with_reducible assumption)) | exact (rfl : AV.idsLt _ _ = true) | exact (rfl : _ = AV.ren _ (.own _)) | exact (rfl : _ = AV.ren _ (.fn _ _)) | exact (rfl : _ = AV.ren _ (.gh _)) | (exact congrArg intV (by assumption)) | (refine congrArg intV ((wr_id (by omega) (by omega)).trans (by omega))) | exact rfl | (simp only [Int.toNat_natCast, Int.toNat_zero, Nat.sub_zero, Nat.zero_add]; first | exact rfl | done) | exact all0 | exact fun h => Bool.noConfusion h | exact fun _ _ _ _ => rfl | omega)
  · obtain rfl : j = K := by omega
    rw [hys, hch]
    simp

def tyRl : Ty := .st (.cons .s (.cons (.i .i64) (.cons (.i .i64) (.cons (.i .i64) (.cons (.i .i64) (.cons (.i .i64) (.cons (.i .i64) (.cons (.i .i64) .nil))))))))
def tySt : Ty := .st (.cons .b (.cons (.i .i64) (.cons (.i .i64) .nil)))
def tyCu : Ty := .st (.cons tyRl (.cons tyOff (.cons tySt .nil)))
theorem commitServes_own : ownKnob Try.prog.godebug = none := by kernel_rfl
theorem commitServes_laid : laidOutB Try.prog = true := by kernel_rfl

set_option maxRecDepth 100000 in
theorem commitServes_lifted (os : Os) (started : os.Started) (H : Type) (enc : TypeId × Value → H) :
    ReturnsInHanded {} Try.checked os 12 .any (Rows.commitServesSpec.pre6 enc Try.prog Try.f12 Rows.commitServesRow.domain false) (Rows.commitServesSpec.post enc Try.prog Try.f12 false true false false) := by
  refine returnsInHanded_of_change (C := Try.checked) commitServes_own started (by kernel_rfl) Try.func12
    (ChangeSpec.witness6 (enc := enc) (C := Try.checked) false ⟨#[], #[.slice none 0 0, .slice none 0 0, .int .i64 0], []⟩ 8 (by kernel_rfl) (by kernel_rfl) (by kernel_rfl) (by kernel_rfl)) ?_
  intro W base args ds gs before hval0 hW hcnd _
  have hval : ∀ (j : Nat) t v, Try.f12.params[j]? = some t → args[j]? = some v → Value.okWide Try.prog W .any base t v := hval0
  have hW' : DataW.Whole enc Try.prog Try.f12.params.toList Rows.commitServesSpec.vars false W args.toList ds gs before := hW
  exact law_post (P := Try.prog) [.sl tyCu, .sl .b, .i .i64] (by kernel_rfl) commitServes_laid (by kernel_rfl) rfl (tb := 4) rfl (by kernel_rfl) (fun ds h => by
    match ds, h with
    | [d1, d2, d3], _ => rfl) (fun x hx => comLaw (fun k => ⟨⟨(x.1.2 k).1.1, (x.1.2 k).1.2.1, (x.1.2 k).1.2.2.1, (x.1.2 k).1.2.2.2.1, (x.1.2 k).1.2.2.2.2.1, (x.1.2 k).1.2.2.2.2.2.1, (x.1.2 k).1.2.2.2.2.2.2.1, (x.1.2 k).1.2.2.2.2.2.2.2.1⟩, (x.1.2 k).2.1.1, (x.1.2 k).2.1.2.1.1, (fun i => ((x.1.2 k).2.1.2.1.2 i).1), (fun i => ((x.1.2 k).2.1.2.1.2 i).2.1), (x.1.2 k).2.2.1.1, (x.1.2 k).2.2.1.2.1, (x.1.2 k).2.2.1.2.2.1⟩) x.2.1.2 x.1.1 x.2.1.1 x.2.2.1 hx.1.1 hx.2.1.1 (fun k hk => ⟨(hx.1.2 k hk).1.1, (hx.1.2 k hk).2.1.1, (hx.1.2 k hk).2.1.2.1.1⟩)) W args ds gs before hval hW'

theorem commitServes_holds : Rows.CommitServesSaid :=
  OpenClaim.holds_of_wide 12 Try.f12 rfl rfl rfl rfl rfl rfl rfl ⟨rfl, rfl, rfl, rfl, rfl⟩ rfl rfl rfl rfl rfl (by kernel_rfl) Try.func12 (by kernel_rfl)
    (of_decide_eq_true (by kernel_rfl)) (by unfold Func.isWrapper; rw [if_neg (by decide +kernel)]; exact ⟨rfl, rfl⟩)
    (fun os started H enc _ => commitServes_lifted os started H enc)
end Go.Proofs.Ytdakikgebfphmaa
