/-
  convexpl: check of two functions; Convolve.
-/
import Derived.Test.YtkkkldhilofgmaaSfC
import Derived.Test.YtkkkldhilofgmaaMov2
namespace Go.Proofs.Ytkkkldhilofgmaa
open Go.RowKit

def gamXJ : Gam := fun f => match f with
  | 101 => some (sCx (fun _ _ n _ _ => n ≤ maxLen) fun lo v n p q => intV (cxE lo v n p q))
  | _ => none
theorem gamXJ_ok : GOk Try.prog gamXJ := fun f g h => by
  unfold gamXJ at h
  split at h
  · injection h with h; subst h; exact sCx_ok fun lo v n p q h => cxCheck lo v n p q h
  · cases h
/-- two functions as a list -/
def cxL (lo v : Int) (n : Nat) (p q : Nat → Int) : List L := [iL lo, iL v, .sl 2 n (c2 p q)]
/-- the first error of two -/
def cx2E (lo v : Int) (n : Nat) (p q : Nat → Int) (lo' v' : Int) (n' : Nat) (p' q' : Nat → Int) : Int := if cxE lo v n p q ≠ 0 then cxE lo v n p q else cxE lo' v' n' p' q'
theorem cxcheck2 (lo v : Int) (n : Nat) (p q : Nat → Int) (lo' v' : Int) (n' : Nat) (p' q' : Nat → Int) (hn : n ≤ maxLen) (hn' : n' ≤ maxLen) : Fn1 Try.prog 64 [.c (.sl 3 2 fun k j => (if k = 0 then cxL lo v n p q else cxL lo' v' n' p' q').getD j .un)] (intV (cx2E lo v n p q lo' v' n' p' q')) := by
  refine fn_of_wpx (O := lex) tab_ok gamXJ_ok mixed Try.func64 (by kernel_rfl) rfl rfl rfl (by simp [Try.ntmps64]) (by kernel_rfl) ?_
  conv => whnf
  repeat' (first
    | (refine NilG.mk fun bn hbn hbx => ?_; conv => whnf)
    | (refine Both.mk ?_ ?_ <;> conv => whnf)
    | exact trivial
    | (refine Br.mk (fun hb => ?_) (fun hb => ?_) <;> (first | (exfalso; revert hb; decide) | ((try simp only [BL] at hb) <;> (try simp only [DL] at hb) <;> conv => whnf)))
    | (refine And.intro ?_ ?_; (focus (first | exact id | exact rfl | exact trivial | (intro hg; first | exact hg | exact rfl | (simp; done) | (simp at hg ⊢; assumption)) | omega | decide | exact is2_c _ _ _ | exact is1_c _ _ | exact isS_c _ _ | exact isB_c _ _ | exact Nat.le_refl _ | assumption | exact mulLe (by decide) (by omega) | exact mulLe2 (by decide) (by omega) (by omega) | (intros; simp only [BL] at *; omega) | (intros; (try simp only [BL] at *); (try simp only [DL] at *); omega) | (intros; simp only [BL] at *; rw [wr_id (by omega) (by omega)]; omega) | (intro h1 h2; exact Bool.and_eq_true_iff.2 ⟨h1, h2⟩) | (intros; simp_all; done))); conv => whnf)
    | (refine Or.inr (And.intro rfl ?_); first | (refine congrArg intV ?_) | (refine congrArg boolV ?_) | (refine tupII ?_ ?_) | (refine tupIII ?_ ?_ ?_) | (refine tupU ?_ ?_ ?_ ?_ ?_) | exact rfl))
  refine sem_loop tab_ok gamXJ_ok mixed (by kernel_rfl) (O := lex) (fun i : Nat => ⟨[(6, .c (.sl 3 2 fun k j => (if k = 0 then cxL lo v n p q else cxL lo' v' n' p' q').getD j .un)), (7, intV 2), (8, intV i)], []⟩) (fun i => i ≤ 2 ∧ (0 < i → cxE lo v n p q = 0) ∧ (1 < i → cxE lo' v' n' p' q' = 0)) (fun i => 2 - i) ⟨0, [], ⟨by decide, fun h => absurd h (by decide), fun h => absurd h (by decide)⟩, ?_⟩ fun i hi => ?_
  · refine Sub.of ?_ ?_ ?_
    repeat' (first | (refine And.intro ?_ ?_) | exact trivial | exact fun _ _ _ => hsc _ _ | (exact congrArg intV (by first | with_reducible rfl | with_reducible assumption)) | exact (rfl : AV.idsLt _ _ = true) | exact (rfl : _ = AV.ren _ (.own _)) | exact (rfl : _ = AV.ren _ (.fn _ _)) | exact (rfl : _ = AV.ren _ (.gh _)) | (exact congrArg intV (by assumption)) | (refine congrArg intV ((wr_id (by omega) (by omega)).trans (by omega))) | exact rfl | (simp only [Int.toNat_natCast, Int.toNat_zero, Nat.sub_zero, Nat.zero_add]; first | exact rfl | done) | exact all0 | exact fun h => Bool.noConfusion h | exact fun _ _ _ _ => rfl | omega)
  obtain ⟨hi, h1, h2⟩ := hi
  match i, hi with
  | 0, _ =>
    conv => whnf
    repeat' (first
      | (refine NilG.mk fun bn hbn hbx => ?_; conv => whnf)
      | (refine Both.mk ?_ ?_ <;> conv => whnf)
      | exact trivial
      | (refine Br.mk (fun hb => ?_) (fun hb => ?_) <;> (first | (exfalso; revert hb; decide) | ((try simp only [BL] at hb) <;> (try simp only [DL] at hb) <;> conv => whnf)))
      | (refine And.intro ?_ ?_; (focus (first | exact id | exact rfl | exact trivial | (intro hg; first | exact hg | exact rfl | (simp; done) | (simp at hg ⊢; assumption)) | omega | decide | exact is2_c _ _ _ | exact is1_c _ _ | exact isS_c _ _ | exact isB_c _ _ | exact Nat.le_refl _ | assumption | exact mulLe (by decide) (by omega) | exact mulLe2 (by decide) (by omega) (by omega) | (intros; simp only [BL] at *; omega) | (intros; (try simp only [BL] at *); (try simp only [DL] at *); omega) | (intros; simp only [BL] at *; rw [wr_id (by omega) (by omega)]; omega) | (intro h1 h2; exact Bool.and_eq_true_iff.2 ⟨h1, h2⟩) | exact ⟨is2_c _ _ _, hn⟩ | (intros; simp_all; done))); conv => whnf)
      | (refine Or.inr (And.intro rfl ?_); first | (refine congrArg intV ?_) | (refine congrArg boolV ?_) | (refine tupII ?_ ?_) | (refine tupIII ?_ ?_ ?_) | (refine tupU ?_ ?_ ?_ ?_ ?_) | exact rfl))
    · unfold cx2E
      rw [if_pos hb]
      rfl
    · have hb : cxE lo v n p q = 0 := hb
      refine ⟨0 + 1, [], ⟨by omega, fun _ => hb, fun h => absurd h (by decide)⟩, by omega, ?_⟩
      refine Sub.of ?_ ?_ ?_
      repeat' (first | (refine And.intro ?_ ?_) | exact trivial | exact fun _ _ _ => hsc _ _ | (exact congrArg intV (by first | with_reducible rfl | with_reducible assumption)) | exact (rfl : AV.idsLt _ _ = true) | exact (rfl : _ = AV.ren _ (.own _)) | exact (rfl : _ = AV.ren _ (.fn _ _)) | exact (rfl : _ = AV.ren _ (.gh _)) | (exact congrArg intV (by assumption)) | (refine congrArg intV ((wr_id (by omega) (by omega)).trans (by omega))) | exact rfl | (simp only [Int.toNat_natCast, Int.toNat_zero, Nat.sub_zero, Nat.zero_add]; first | exact rfl | done) | exact all0 | exact fun h => Bool.noConfusion h | exact fun _ _ _ _ => rfl | omega)
  | 1, _ =>
    have h1 := h1 (by decide)
    conv => whnf
    repeat' (first
      | (refine NilG.mk fun bn hbn hbx => ?_; conv => whnf)
      | (refine Both.mk ?_ ?_ <;> conv => whnf)
      | exact trivial
      | (refine Br.mk (fun hb => ?_) (fun hb => ?_) <;> (first | (exfalso; revert hb; decide) | ((try simp only [BL] at hb) <;> (try simp only [DL] at hb) <;> conv => whnf)))
      | (refine And.intro ?_ ?_; (focus (first | exact id | exact rfl | exact trivial | (intro hg; first | exact hg | exact rfl | (simp; done) | (simp at hg ⊢; assumption)) | omega | decide | exact is2_c _ _ _ | exact is1_c _ _ | exact isS_c _ _ | exact isB_c _ _ | exact Nat.le_refl _ | assumption | exact mulLe (by decide) (by omega) | exact mulLe2 (by decide) (by omega) (by omega) | (intros; simp only [BL] at *; omega) | (intros; (try simp only [BL] at *); (try simp only [DL] at *); omega) | (intros; simp only [BL] at *; rw [wr_id (by omega) (by omega)]; omega) | (intro h1 h2; exact Bool.and_eq_true_iff.2 ⟨h1, h2⟩) | exact ⟨is2_c _ _ _, hn'⟩ | (intros; simp_all; done))); conv => whnf)
      | (refine Or.inr (And.intro rfl ?_); first | (refine congrArg intV ?_) | (refine congrArg boolV ?_) | (refine tupII ?_ ?_) | (refine tupIII ?_ ?_ ?_) | (refine tupU ?_ ?_ ?_ ?_ ?_) | exact rfl))
    · unfold cx2E
      rw [if_neg (fun h => h h1)]
      rfl
    · have hb : cxE lo' v' n' p' q' = 0 := hb
      refine ⟨1 + 1, [], ⟨by omega, fun _ => h1, fun _ => hb⟩, by omega, ?_⟩
      refine Sub.of ?_ ?_ ?_
      repeat' (first | (refine And.intro ?_ ?_) | exact trivial | exact fun _ _ _ => hsc _ _ | (exact congrArg intV (by first | with_reducible rfl | with_reducible assumption)) | exact (rfl : AV.idsLt _ _ = true) | exact (rfl : _ = AV.ren _ (.own _)) | exact (rfl : _ = AV.ren _ (.fn _ _)) | exact (rfl : _ = AV.ren _ (.gh _)) | (exact congrArg intV (by assumption)) | (refine congrArg intV ((wr_id (by omega) (by omega)).trans (by omega))) | exact rfl | (simp only [Int.toNat_natCast, Int.toNat_zero, Nat.sub_zero, Nat.zero_add]; first | exact rfl | done) | exact all0 | exact fun h => Bool.noConfusion h | exact fun _ _ _ _ => rfl | omega)
  | 2, _ =>
    have h1 := h1 (by decide)
    have h2 := h2 (by decide)
    conv => whnf
    repeat' (first
      | (refine NilG.mk fun bn hbn hbx => ?_; conv => whnf)
      | (refine Both.mk ?_ ?_ <;> conv => whnf)
      | exact trivial
      | (refine Br.mk (fun hb => ?_) (fun hb => ?_) <;> (first | (exfalso; revert hb; decide) | ((try simp only [BL] at hb) <;> (try simp only [DL] at hb) <;> conv => whnf)))
      | (refine And.intro ?_ ?_; (focus (first | exact id | exact rfl | exact trivial | (intro hg; first | exact hg | exact rfl | (simp; done) | (simp at hg ⊢; assumption)) | omega | decide | exact is2_c _ _ _ | exact is1_c _ _ | exact isS_c _ _ | exact isB_c _ _ | exact Nat.le_refl _ | assumption | exact mulLe (by decide) (by omega) | exact mulLe2 (by decide) (by omega) (by omega) | (intros; simp only [BL] at *; omega) | (intros; (try simp only [BL] at *); (try simp only [DL] at *); omega) | (intros; simp only [BL] at *; rw [wr_id (by omega) (by omega)]; omega) | (intro h1 h2; exact Bool.and_eq_true_iff.2 ⟨h1, h2⟩) | (intros; simp_all; done))); conv => whnf)
      | (refine Or.inr (And.intro rfl ?_); first | (refine congrArg intV ?_) | (refine congrArg boolV ?_) | (refine tupII ?_ ?_) | (refine tupIII ?_ ?_ ?_) | (refine tupU ?_ ?_ ?_ ?_ ?_) | exact rfl))
    unfold cx2E
    rw [if_neg (fun h => h h1), h2]
/-- what Convolve returns -/
def cvK (lo v : Int) (n : Nat) (p q : Nat → Int) (lo' v' : Int) (n' : Nat) (p' q' : Nat → Int) (obs : List OB) (r : AV) : Prop :=
  obs = [] ∧ ((cx2E lo v n p q lo' v' n' p' q' ≠ 0 ∧ r = .tup [nulV, intV (cx2E lo v n p q lo' v' n' p' q')]) ∨
    (cx2E lo v n p q lo' v' n' p' q' = 0 ∧ ∃ π, Wk (cat n q q') π (n + n') ∧ madeJ (lo + lo') (v + v') (n + n') (fun z => cat n p p' (π z)) (fun z => cat n q q' (π z)) [] r))
theorem cxConvolve (lo v : Int) (n : Nat) (p q : Nat → Int) (lo' v' : Int) (n' : Nat) (p' q' : Nat → Int) (hn : n ≤ maxLen) (hn' : n' ≤ maxLen) : Fn Try.prog 18 [cxV lo v n p q, cxV lo' v' n' p' q'] (cvK lo v n p q lo' v' n' p' q') := by
  refine fn_of_wpx (O := lex) tab_ok gamXJ_ok mixed Try.func18 (by kernel_rfl) rfl rfl rfl (by simp [Try.ntmps18]) (by kernel_rfl) ?_
  conv => whnf
  repeat' (first
    | (refine NilG.mk fun bn hbn hbx => ?_; conv => whnf)
    | (refine Both.mk ?_ ?_ <;> conv => whnf)
    | exact trivial
    | (refine Br.mk (fun hb => ?_) (fun hb => ?_) <;> (first | (exfalso; revert hb; decide) | ((try simp only [BL] at hb) <;> (try simp only [DL] at hb) <;> conv => whnf)))
    | (refine And.intro ?_ ?_; (focus (first | exact id | exact rfl | exact trivial | (intro hg; first | exact hg | exact rfl | (simp; done) | (simp at hg ⊢; assumption)) | omega | decide | exact is2_c _ _ _ | exact is1_c _ _ | exact isS_c _ _ | exact isB_c _ _ | exact Nat.le_refl _ | assumption | exact mulLe (by decide) (by omega) | exact mulLe2 (by decide) (by omega) (by omega) | (intros; simp only [BL] at *; omega) | (intros; (try simp only [BL] at *); (try simp only [DL] at *); omega) | (intros; simp only [BL] at *; rw [wr_id (by omega) (by omega)]; omega) | (intro h1 h2; exact Bool.and_eq_true_iff.2 ⟨h1, h2⟩) | (intros; simp_all; done))); conv => whnf)
    | (refine Or.inr (And.intro rfl ?_); first | (refine congrArg intV ?_) | (refine congrArg boolV ?_) | (refine tupII ?_ ?_) | (refine tupIII ?_ ?_ ?_) | (refine tupU ?_ ?_ ?_ ?_ ?_) | exact rfl))
  refine CallG.mk (Fn.mono ((cxcheck2 lo v n p q lo' v' n' p' q' hn hn').le (Le.cons (Le1.l (LLe.sl fun k hk j hj => ?_)) Le.nil)) ?_)
  · have hj : j < 3 := hj
    match k, hk, j, hj with
    | 0, _, 0, _ => exact LLe.of_eq rfl
    | 0, _, 1, _ => exact LLe.of_eq rfl
    | 0, _, 2, _ => exact LLe.of_eq rfl
    | 1, _, 0, _ => exact LLe.of_eq rfl
    | 1, _, 1, _ => exact LLe.of_eq rfl
    | 1, _, 2, _ => exact LLe.of_eq rfl
  rintro obs r ⟨rfl, rfl⟩
  conv => whnf
  repeat' (first
    | (refine NilG.mk fun bn hbn hbx => ?_; conv => whnf)
    | (refine Both.mk ?_ ?_ <;> conv => whnf)
    | exact trivial
    | (refine Br.mk (fun hb => ?_) (fun hb => ?_) <;> (first | (exfalso; revert hb; decide) | ((try simp only [BL] at hb) <;> (try simp only [DL] at hb) <;> conv => whnf)))
    | (refine And.intro ?_ ?_; (focus (first | exact id | exact rfl | exact trivial | (intro hg; first | exact hg | exact rfl | (simp; done) | (simp at hg ⊢; assumption)) | omega | decide | exact is2_c _ _ _ | exact is1_c _ _ | exact isS_c _ _ | exact isB_c _ _ | exact Nat.le_refl _ | assumption | exact mulLe (by decide) (by omega) | exact mulLe2 (by decide) (by omega) (by omega) | (intros; simp only [BL] at *; omega) | (intros; (try simp only [BL] at *); (try simp only [DL] at *); omega) | (intros; simp only [BL] at *; rw [wr_id (by omega) (by omega)]; omega) | (intro h1 h2; exact Bool.and_eq_true_iff.2 ⟨h1, h2⟩) | (intros; simp_all; done))); conv => whnf)
    | (refine Or.inr (And.intro rfl ?_); first | (refine congrArg intV ?_) | (refine congrArg boolV ?_) | (refine tupII ?_ ?_) | (refine tupIII ?_ ?_ ?_) | (refine tupU ?_ ?_ ?_ ?_ ?_) | exact rfl))
  · exact .inr ⟨rfl, .inl ⟨hb, rfl⟩⟩
  have h0 : cx2E lo v n p q lo' v' n' p' q' = 0 := hb
  clear hb
  have hE : cxE lo v n p q = 0 ∧ cxE lo' v' n' p' q' = 0 := by
    unfold cx2E at h0
    split at h0
    · rename_i h; exact absurd h0 h
    · rename_i h; exact ⟨by simpa using h, h0⟩
  have h1 := cxE_zero hE.1
  have h2 := cxE_zero hE.2
  have hn64 : n ≤ 64 := h1.1
  have hn64' : n' ≤ 64 := h2.1
  refine CallG.mk (Fn.mono ((cxConcat n n' p q p' q' hn64 hn64').le (Le.cons (Le1.l (LLe.sl fun k hk j hj => ?_)) Le.nil)) ?_)
  · have hj : j < 1 := hj
    match k, hk, j, hj with
    | 0, _, 0, _ => exact LLe.of_eq rfl
    | 1, _, 0, _ => exact LLe.of_eq rfl
  rintro obs r ⟨rfl, rfl⟩
  have hsc := scX (cat n p p') (cat n q q')
  conv => whnf
  repeat' (first
    | (refine NilG.mk fun bn hbn hbx => ?_; conv => whnf)
    | (refine Both.mk ?_ ?_ <;> conv => whnf)
    | exact trivial
    | (refine Br.mk (fun hb => ?_) (fun hb => ?_) <;> (first | (exfalso; revert hb; decide) | ((try simp only [BL] at hb) <;> (try simp only [DL] at hb) <;> conv => whnf)))
    | (refine And.intro ?_ ?_; (focus (first | exact id | exact rfl | exact trivial | (intro hg; first | exact hg | exact rfl | (simp; done) | (simp at hg ⊢; assumption)) | omega | decide | exact is2_c _ _ _ | exact is1_c _ _ | exact isS_c _ _ | exact isB_c _ _ | exact Nat.le_refl _ | assumption | exact mulLe (by decide) (by omega) | exact mulLe2 (by decide) (by omega) (by omega) | (intros; simp only [BL] at *; omega) | (intros; (try simp only [BL] at *); (try simp only [DL] at *); omega) | (intros; simp only [BL] at *; rw [wr_id (by omega) (by omega)]; omega) | (intro h1 h2; exact Bool.and_eq_true_iff.2 ⟨h1, h2⟩) | (intros; simp_all; done))); conv => whnf)
    | (refine Or.inr (And.intro rfl ?_); first | (refine congrArg intV ?_) | (refine congrArg boolV ?_) | (refine tupII ?_ ?_) | (refine tupIII ?_ ?_ ?_) | (refine tupU ?_ ?_ ?_ ?_ ?_) | exact rfl))
  have hcp : ∀ i, i < n + n' → 1 ≤ cat n p p' i ∧ cat n p p' i ≤ 2000000 := fun i hi => by
    unfold cat
    split
    · rename_i h; have := h1.2.2.2.2.2.1 i h; omega
    · have := h2.2.2.2.2.2.1 (i - n) (by omega); omega
  have hcq : ∀ i, i < n + n' → -10000000 ≤ cat n q q' i ∧ cat n q q' i ≤ 10000000 := fun i hi => by
    unfold cat
    split
    · rename_i h; have := h1.2.2.2.2.2.1 i h; omega
    · have := h2.2.2.2.2.2.1 (i - n) (by omega); omega
  refine CallG.wr [5] rfl (FnM.mono (sortCvx (n + n') (cat n p p') (cat n q q') (by omega) hcq) ?_)
  rintro obs r ⟨π, hπ, rfl, rfl⟩
  conv => whnf
  repeat' (first
    | (refine NilG.mk fun bn hbn hbx => ?_; conv => whnf)
    | (refine Both.mk ?_ ?_ <;> conv => whnf)
    | exact trivial
    | (refine Br.mk (fun hb => ?_) (fun hb => ?_) <;> (first | (exfalso; revert hb; decide) | ((try simp only [BL] at hb) <;> (try simp only [DL] at hb) <;> conv => whnf)))
    | (refine And.intro ?_ ?_; (focus (first | exact id | exact rfl | exact trivial | (intro hg; first | exact hg | exact rfl | (simp; done) | (simp at hg ⊢; assumption)) | omega | decide | exact is2_c _ _ _ | exact is1_c _ _ | exact isS_c _ _ | exact isB_c _ _ | exact Nat.le_refl _ | assumption | exact mulLe (by decide) (by omega) | exact mulLe2 (by decide) (by omega) (by omega) | (intros; simp only [BL] at *; omega) | (intros; (try simp only [BL] at *); (try simp only [DL] at *); omega) | (intros; simp only [BL] at *; rw [wr_id (by omega) (by omega)]; omega) | (intro h1 h2; exact Bool.and_eq_true_iff.2 ⟨h1, h2⟩) | (intros; simp_all; done))); conv => whnf)
    | (refine Or.inr (And.intro rfl ?_); first | (refine congrArg intV ?_) | (refine congrArg boolV ?_) | (refine tupII ?_ ?_) | (refine tupIII ?_ ?_ ?_) | (refine tupU ?_ ?_ ?_ ?_ ?_) | exact rfl))
  have w1 : IntKind.i64.wrap (lo + lo') = lo + lo' := wr_id (by have := h1.2; have := h2.2; omega) (by have := h1.2; have := h2.2; omega)
  have w2 : IntKind.i64.wrap (v + v') = v + v' := wr_id (by have := h1.2; have := h2.2; omega) (by have := h1.2; have := h2.2; omega)
  rw [w1, w2]
  refine CallG.mk (Fn.mono ((cxmadeJ (lo + lo') (v + v') (n + n') (fun z => cat n p p' (π z)) (fun z => cat n q q' (π z)) (by omega) (fun i hi => by have := hcp (π i) (hπ.lt hi); omega)).le (Le.cons (Le1.refl _) (Le.cons (Le1.refl _) (Le.cons (Le1.l (LLe.sl fun k hk j hj => ?_)) Le.nil)))) ?_)
  · match j, hj with
    | 0, _ => exact LLe.of_eq rfl
    | 1, _ => exact LLe.of_eq rfl
  rintro obs r ⟨rfl, hr⟩
  rcases hr with ⟨g1, rfl⟩ | ⟨g1, rfl⟩
  · conv => whnf
    repeat' (first
      | (refine NilG.mk fun bn hbn hbx => ?_; conv => whnf)
      | (refine Both.mk ?_ ?_ <;> conv => whnf)
      | exact trivial
      | (refine Br.mk (fun hb => ?_) (fun hb => ?_) <;> (first | (exfalso; revert hb; decide) | ((try simp only [BL] at hb) <;> (try simp only [DL] at hb) <;> conv => whnf)))
      | (refine And.intro ?_ ?_; (focus (first | exact id | exact rfl | exact trivial | (intro hg; first | exact hg | exact rfl | (simp; done) | (simp at hg ⊢; assumption)) | omega | decide | exact is2_c _ _ _ | exact is1_c _ _ | exact isS_c _ _ | exact isB_c _ _ | exact Nat.le_refl _ | assumption | exact mulLe (by decide) (by omega) | exact mulLe2 (by decide) (by omega) (by omega) | (intros; simp only [BL] at *; omega) | (intros; (try simp only [BL] at *); (try simp only [DL] at *); omega) | (intros; simp only [BL] at *; rw [wr_id (by omega) (by omega)]; omega) | (intro h1 h2; exact Bool.and_eq_true_iff.2 ⟨h1, h2⟩) | (intros; simp_all; done))); conv => whnf)
      | (refine Or.inr (And.intro rfl ?_); first | (refine congrArg intV ?_) | (refine congrArg boolV ?_) | (refine tupII ?_ ?_) | (refine tupIII ?_ ?_ ?_) | (refine tupU ?_ ?_ ?_ ?_ ?_) | exact rfl))
    exact .inr ⟨rfl, .inr ⟨h0, π, hπ, rfl, .inl ⟨g1, rfl⟩⟩⟩
  · conv => whnf
    repeat' (first
      | (refine NilG.mk fun bn hbn hbx => ?_; conv => whnf)
      | (refine Both.mk ?_ ?_ <;> conv => whnf)
      | exact trivial
      | (refine Br.mk (fun hb => ?_) (fun hb => ?_) <;> (first | (exfalso; revert hb; decide) | ((try simp only [BL] at hb) <;> (try simp only [DL] at hb) <;> conv => whnf)))
      | (refine And.intro ?_ ?_; (focus (first | exact id | exact rfl | exact trivial | (intro hg; first | exact hg | exact rfl | (simp; done) | (simp at hg ⊢; assumption)) | omega | decide | exact is2_c _ _ _ | exact is1_c _ _ | exact isS_c _ _ | exact isB_c _ _ | exact Nat.le_refl _ | assumption | exact mulLe (by decide) (by omega) | exact mulLe2 (by decide) (by omega) (by omega) | (intros; simp only [BL] at *; omega) | (intros; (try simp only [BL] at *); (try simp only [DL] at *); omega) | (intros; simp only [BL] at *; rw [wr_id (by omega) (by omega)]; omega) | (intro h1 h2; exact Bool.and_eq_true_iff.2 ⟨h1, h2⟩) | (intros; simp_all; done))); conv => whnf)
      | (refine Or.inr (And.intro rfl ?_); first | (refine congrArg intV ?_) | (refine congrArg boolV ?_) | (refine tupII ?_ ?_) | (refine tupIII ?_ ?_ ?_) | (refine tupU ?_ ?_ ?_ ?_ ?_) | exact rfl))
    exact .inr ⟨rfl, .inr ⟨h0, π, hπ, rfl, .inr ⟨g1, rfl⟩⟩⟩
end Go.Proofs.Ytkkkldhilofgmaa
