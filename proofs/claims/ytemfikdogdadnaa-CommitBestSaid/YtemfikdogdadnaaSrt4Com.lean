/-
  Stable sorting of lists of gridhall/commit.block: merges of more than one with more than one.
-/
import Derived.Test.YtemfikdogdadnaaSrt3Com
namespace Go.Proofs.Ytemfikdogdadnaa
open Go.RowKit

section
variable {F : FuncId}  {g0 : Nat → Int} {g1 : Nat → Int} {g2 : Nat → Int} {key : Nat → Int} {n : Nat}

set_option maxHeartbeats 8000000 in
theorem mrgBCom (hC : CmpCom F  (colCom g0 g1 g2) key n) (hn : n ≤ 1000000) (p : Nat → Nat) (a m b : Nat) (h1 : a < m) (h2 : m < b) (h3 : b ≤ n) (hpn : ∀ k, k < n → p k < n) (hA : Asc key p a m) (hB : Asc key p m b) (hP : Bef p a m b) (hab : ¬(m = a + 1 ∨ b = m + 1))
    (ih : ∀ (p : Nat → Nat) (a' m' b' : Nat) (A M B : Int), b' - a' < b - a → A = a' → M = m' → B = b' → a' < m' → m' < b' → b' ≤ n → (∀ k, k < n → p k < n) → Asc key p a' m' → Asc key p m' b' → Bef p a' m' b' → FnM Try.prog 117 [rowCom n (colCom g0 g1 g2) p] [.own 0, intV A, intV M, intV B, .fn F []] (srKCom n (colCom g0 g1 g2) key p a' b')) :
    FnM Try.prog 117 [rowCom n (colCom g0 g1 g2) p] [.own 0, intV a, intV m, intV b, .fn F []] (srKCom n (colCom g0 g1 g2) key p a b) := by
  refine fnM_of_wpx (O := lex) tab_ok gamZ_ok mixed Try.func117 (by kernel_rfl) rfl rfl rfl (by simp [Try.ntmps117]) (by kernel_rfl) ?_
  have hsc := scCom g0 g1 g2
  have e1 : IntKind.i64.wrap ((m : Int) - (a : Int)) = (m - a : Nat) := (wr_id (by omega) (by omega)).trans (by omega)
  have e2 : IntKind.i64.wrap ((b : Int) - (m : Int)) = (b - m : Nat) := (wr_id (by omega) (by omega)).trans (by omega)
  conv => whnf
  repeat' (first
    | (refine NilG.mk fun bn hbn hbx => ?_; conv => whnf)
    | (refine Both.mk ?_ ?_ <;> conv => whnf)
    | ((first | (refine MkG.box 1 rfl rfl rfl (by decide) ?_) | (refine MkG.box 2 rfl rfl rfl (by decide) ?_) | (refine MkG.box 3 rfl rfl rfl (by decide) ?_) | (refine MkG.row ?_)); conv => whnf)
    | exact trivial
    | (refine Br.mk (fun hb => ?_) (fun hb => ?_) <;> (first | (exfalso; revert hb; decide) | ((try simp only [BL] at hb) <;> (try simp only [DL] at hb) <;> conv => whnf)))
    | (refine And.intro ?_ ?_; (focus (first | exact id | exact rfl | exact trivial | (intro hg; first | exact hg | exact rfl | (simp; done) | (simp at hg ⊢; assumption)) | omega | decide | exact is2_c _ _ _ | exact is1_c _ _ | exact isS_c _ _ | exact isB_c _ _ | exact Nat.le_refl _ | assumption | exact mulLe (by decide) (by omega) | exact mulLe2 (by decide) (by omega) (by omega) | (intros; simp only [BL] at *; omega) | (intros; (try simp only [BL] at *); (try simp only [DL] at *); omega) | (intros; simp only [BL] at *; rw [wr_id (by omega) (by omega)]; omega) | (intro h1 h2; exact Bool.and_eq_true_iff.2 ⟨h1, h2⟩) | (intros; simp_all; done))); conv => whnf)
    | (refine Or.inr (And.intro rfl ?_); first | (refine congrArg intV ?_) | (refine congrArg boolV ?_) | (refine tupII ?_ ?_) | (refine tupIII ?_ ?_ ?_) | (refine tupU ?_ ?_ ?_ ?_ ?_) | exact rfl))
  · exfalso; omega
  · exfalso; omega
  all_goals
    obtain ⟨mid, hmid⟩ : ∃ mid, mid = (a + b) / 2 := ⟨_, rfl⟩
    have e18 : IntKind.i64.wrap (shrI IntKind.u64 (IntKind.u64.wrap (IntKind.i64.wrap ((a : Int) + (b : Int)))) 1) = (mid : Nat) := (half_add (by omega)).trans (by rw [hmid])
    have e19 : IntKind.i64.wrap ((mid : Int) + (m : Int)) = (mid + m : Nat) := (wr_id (by omega) (by omega)).trans (by omega)
    have e22 : IntKind.i64.wrap (((mid + m : Nat) : Int) - 1) = (mid + m - 1 : Nat) := (wr_id (by omega) (by omega)).trans (by omega)
    obtain ⟨s0, hs0⟩ : ∃ s0, s0 = if mid < m then mid + m - b else a := ⟨_, rfl⟩
    obtain ⟨r0, hr0⟩ : ∃ r0, r0 = if mid < m then mid else m := ⟨_, rfl⟩
    rw [e18] at hb
    have hsr : a ≤ s0 ∧ s0 ≤ r0 ∧ r0 ≤ m ∧ r0 ≤ mid ∧ mid + m - s0 ≤ b := by subst hs0 hr0; split <;> omega
    rw [e18]
    rw [e19]
    rw [e22]
    first
    | (have hmm : mid < m := by omega
       rw [if_pos hmm] at hs0 hr0
       have e20 : IntKind.i64.wrap (((mid + m : Nat) : Int) - (b : Int)) = (s0 : Nat) := (wr_id (by omega) (by omega)).trans (by omega)
       rw [e20]
       clear e20
       have i21 : ((mid : Nat) : Int) = (r0 : Nat) := by rw [hr0]
       skip)
    | (have hmm : ¬ mid < m := by omega
       rw [if_neg hmm] at hs0 hr0
       have i20 : ((a : Nat) : Int) = (s0 : Nat) := by rw [hs0]
       have i21 : ((m : Nat) : Int) = (r0 : Nat) := by rw [hr0]
       skip)
    clear e18 e19 e22 e1 e2
    clear hb
    refine sem_loop tab_ok gamZ_ok mixed (by kernel_rfl) (O := lex) (fun x : Nat × Nat => ⟨[(0, .own 0), (1, intV a), (2, intV m), (3, intV b), (4, .fn F []), (18, intV mid), (19, intV (mid + m : Nat)), (20, intV x.1), (21, intV x.2), (22, intV (mid + m - 1 : Nat)), (1000000, .gh 0)], [rowCom n (colCom g0 g1 g2) p]⟩) (fun x => s0 ≤ x.1 ∧ x.1 ≤ x.2 ∧ x.2 ≤ r0 ∧ (s0 < x.1 → sLt key (p (x.1 - 1)) (p (mid + m - 1 - (x.1 - 1)))) ∧ (x.2 < r0 → sLt key (p (mid + m - 1 - x.2)) (p x.2))) (fun x => x.2 - x.1) ⟨(s0, r0), [?_], ⟨Nat.le_refl _, hsr.2.1, Nat.le_refl _, fun h => absurd h (Nat.lt_irrefl _), fun h => absurd h (Nat.lt_irrefl _)⟩, ?_⟩ fun x hx => ?_
    rotate_left 1
    · refine Sub.of ?_ ?_ ?_
      repeat' (first | (refine And.intro ?_ ?_) | exact trivial | exact fun _ _ _ => hsc _ _ | (exact congrArg intV (by first | with_reducible rfl | with_reducible assumption)) | exact (rfl : AV.idsLt _ _ = true) | exact (rfl : _ = AV.ren _ (.own _)) | exact (rfl : _ = AV.ren _ (.fn _ _)) | exact (rfl : _ = AV.ren _ (.gh _)) | (exact congrArg intV (by assumption)) | (refine congrArg intV ((wr_id (by omega) (by omega)).trans (by omega))) | exact rfl | (simp only [Int.toNat_natCast, Int.toNat_zero, Nat.sub_zero, Nat.zero_add]; first | exact rfl | done) | exact all0 | exact fun h => Bool.noConfusion h | exact fun _ _ _ _ => rfl | omega)
    obtain ⟨st, j⟩ := x
    obtain ⟨x1, x2, x3, x4, x5⟩ := hx
    simp only [] at x1 x2 x3 x4 x5
    have eh := half_add (a := st) (b := j) (by omega)
    have th : (IntKind.i64.wrap (shrI IntKind.u64 (IntKind.u64.wrap (IntKind.i64.wrap ((st : Int) + (j : Int)))) 1)).toNat = (st + j) / 2 := by rw [eh]; omega
    have ep : st < j → IntKind.i64.wrap (((mid + m - 1 : Nat) : Int) - IntKind.i64.wrap (shrI IntKind.u64 (IntKind.u64.wrap (IntKind.i64.wrap ((st : Int) + (j : Int)))) 1)) = (mid + m - 1 - (st + j) / 2 : Nat) := fun h => by rw [eh]; exact (wr_id (by omega) (by omega)).trans (by omega)
    have e24 : IntKind.i64.wrap (((mid + m : Nat) : Int) - (st : Int)) = (mid + m - st : Nat) := (wr_id (by omega) (by omega)).trans (by omega)
    conv => whnf
    repeat' (first
      | (refine NilG.mk fun bn hbn hbx => ?_; conv => whnf)
      | (refine Both.mk ?_ ?_ <;> conv => whnf)
      | ((first | (refine MkG.box 1 rfl rfl rfl (by decide) ?_) | (refine MkG.box 2 rfl rfl rfl (by decide) ?_) | (refine MkG.box 3 rfl rfl rfl (by decide) ?_) | (refine MkG.row ?_)); conv => whnf)
      | exact trivial
      | (refine Br.mk (fun hb => ?_) (fun hb => ?_) <;> (first | (exfalso; revert hb; decide) | ((try simp only [BL] at hb) <;> (try simp only [DL] at hb) <;> conv => whnf)))
      | (refine And.intro ?_ ?_; (focus (first | exact id | exact rfl | exact trivial | (intro hg; first | exact hg | exact rfl | (simp; done) | (simp at hg ⊢; assumption)) | omega | decide | exact is2_c _ _ _ | exact is1_c _ _ | exact isS_c _ _ | exact isB_c _ _ | exact Nat.le_refl _ | assumption | exact mulLe (by decide) (by omega) | exact mulLe2 (by decide) (by omega) (by omega) | (intros; simp only [BL] at *; omega) | (intros; (try simp only [BL] at *); (try simp only [DL] at *); omega) | (intros; simp only [BL] at *; rw [wr_id (by omega) (by omega)]; omega) | (intro h1 h2; exact Bool.and_eq_true_iff.2 ⟨h1, h2⟩) | (rw [eh]; omega) | (rw [ep (by omega)]; omega) | (refine ⟨rfl, ?_, by decide⟩; first | omega | (rw [th]; omega) | (rw [ep (by omega)]; omega)) | (intros; simp_all; done))); conv => whnf)
      | (refine Or.inr (And.intro rfl ?_); first | (refine congrArg intV ?_) | (refine congrArg boolV ?_) | (refine tupII ?_ ?_) | (refine tupIII ?_ ?_ ?_) | (refine tupU ?_ ?_ ?_ ?_ ?_) | exact rfl))
    · have hij : st < j := by omega
      clear hb
      have tp : (IntKind.i64.wrap (((mid + m - 1 : Nat) : Int) - IntKind.i64.wrap (shrI IntKind.u64 (IntKind.u64.wrap (IntKind.i64.wrap ((st : Int) + (j : Int)))) 1))).toNat = mid + m - 1 - (st + j) / 2 := by rw [ep hij]; omega
      obtain ⟨v, hv, hvk⟩ := hC.run (p (IntKind.i64.wrap (((mid + m - 1 : Nat) : Int) - IntKind.i64.wrap (shrI IntKind.u64 (IntKind.u64.wrap (IntKind.i64.wrap ((st : Int) + (j : Int)))) 1))).toNat) (p (IntKind.i64.wrap (shrI IntKind.u64 (IntKind.u64.wrap (IntKind.i64.wrap ((st : Int) + (j : Int)))) 1)).toNat) (by rw [tp]; exact hpn _ (by omega)) (by rw [th]; exact hpn _ (by omega))
      rw [th, tp] at hvk
      have hbf := hP ((st + j) / 2) (mid + m - 1 - (st + j) / 2) (by omega) (by omega) (by omega) (by omega)
      refine CallG.mk (Fn.mono hv ?_)
      rintro obs r ⟨rfl, rfl⟩
      have eh1 : IntKind.i64.wrap (IntKind.i64.wrap (shrI IntKind.u64 (IntKind.u64.wrap (IntKind.i64.wrap ((st : Int) + (j : Int)))) 1) + 1) = ((st + j) / 2 + 1 : Nat) := by rw [eh]; exact (wr_id (by omega) (by omega)).trans (by omega)
      conv => whnf
      repeat' (first
        | (refine NilG.mk fun bn hbn hbx => ?_; conv => whnf)
        | (refine Both.mk ?_ ?_ <;> conv => whnf)
        | ((first | (refine MkG.box 1 rfl rfl rfl (by decide) ?_) | (refine MkG.box 2 rfl rfl rfl (by decide) ?_) | (refine MkG.box 3 rfl rfl rfl (by decide) ?_) | (refine MkG.row ?_)); conv => whnf)
        | exact trivial
        | (refine Br.mk (fun hb => ?_) (fun hb => ?_) <;> (first | (exfalso; revert hb; decide) | ((try simp only [BL] at hb) <;> (try simp only [DL] at hb) <;> conv => whnf)))
        | (refine And.intro ?_ ?_; (focus (first | exact id | exact rfl | exact trivial | (intro hg; first | exact hg | exact rfl | (simp; done) | (simp at hg ⊢; assumption)) | omega | decide | exact is2_c _ _ _ | exact is1_c _ _ | exact isS_c _ _ | exact isB_c _ _ | exact Nat.le_refl _ | assumption | exact mulLe (by decide) (by omega) | exact mulLe2 (by decide) (by omega) (by omega) | (intros; simp only [BL] at *; omega) | (intros; (try simp only [BL] at *); (try simp only [DL] at *); omega) | (intros; simp only [BL] at *; rw [wr_id (by omega) (by omega)]; omega) | (intro h1 h2; exact Bool.and_eq_true_iff.2 ⟨h1, h2⟩) | (intros; simp_all; done))); conv => whnf)
        | (refine Or.inr (And.intro rfl ?_); first | (refine congrArg intV ?_) | (refine congrArg boolV ?_) | (refine tupII ?_ ?_) | (refine tupIII ?_ ?_ ?_) | (refine tupU ?_ ?_ ?_ ?_ ?_) | exact rfl))
      · have hlt : sLt key (p ((st + j) / 2)) (p (mid + m - 1 - (st + j) / 2)) := by
          have : ¬ key (p (mid + m - 1 - (st + j) / 2)) < key (p ((st + j) / 2)) := fun h => by have := hvk.2 h; omega
          unfold sLt; omega
        refine ⟨((st + j) / 2 + 1, j), [?_], ⟨by show s0 ≤ (st + j) / 2 + 1; omega, by show (st + j) / 2 + 1 ≤ j; omega, x3, fun _ => by show sLt key (p ((st + j) / 2 + 1 - 1)) (p (mid + m - 1 - ((st + j) / 2 + 1 - 1))); rw [Nat.add_sub_cancel]; exact hlt, x5⟩, by show j - ((st + j) / 2 + 1) < j - st; omega, ?_⟩
        rotate_left 1
        refine Sub.of ?_ ?_ ?_
        repeat' (first | (refine And.intro ?_ ?_) | exact trivial | exact fun _ _ _ => hsc _ _ | (exact congrArg intV (by first | with_reducible rfl | with_reducible assumption)) | exact rfl | exact fun _ _ _ _ => rfl | (exact congrArg intV (by assumption)))
      · have hge : sLt key (p (mid + m - 1 - (st + j) / 2)) (p ((st + j) / 2)) := .inl (hvk.1 (by omega))
        have eh2 := eh
        refine ⟨(st, (st + j) / 2), [?_], ⟨x1, by show st ≤ (st + j) / 2; omega, by show (st + j) / 2 ≤ r0; omega, x4, fun _ => hge⟩, by show (st + j) / 2 - st < j - st; omega, ?_⟩
        rotate_left 1
        refine Sub.of ?_ ?_ ?_
        repeat' (first | (refine And.intro ?_ ?_) | exact trivial | exact fun _ _ _ => hsc _ _ | (exact congrArg intV (by first | with_reducible rfl | with_reducible assumption)) | exact rfl | exact fun _ _ _ _ => rfl | (exact congrArg intV (by assumption)))
    all_goals
      have hij : st = j := by omega
      have hcut : Cut key p a m b mid st := cut_of (s0 := s0) (r0 := r0) hA hB hmid h1 h2 (by first | (rw [if_pos hmm]; exact hs0) | (rw [if_neg hmm]; exact hs0)) (by first | (rw [if_pos hmm]; exact hr0) | (rw [if_neg hmm]; exact hr0)) x1 (by omega) x4 (fun h => by have := x5 (by omega); rwa [← hij] at this)
      have H0 := halved hA hB hP hcut (by omega) (by omega)
    · refine CallG.wr [0] rfl (FnM.mono (rotCom hn p st m (mid + m - st) rfl rfl e24 (by omega) (by omega) (by omega)) ?_)
      rintro obs r ⟨rfl, rfl⟩
      obtain ⟨q, hq⟩ : ∃ q : Nat → Nat, q = fun k => p (roI st m (mid + m - st) k) := ⟨_, rfl⟩
      have hR : Rea p q a b := by rw [hq]; exact (rea_ro p (by omega) (by omega)).wide (by omega) (by omega)
      rw [← hq] at H0
      have H := H0
      have hqn := hR.bnd h3 hpn
      rw [← hq]
      conv => whnf
      repeat' (first
        | (refine NilG.mk fun bn hbn hbx => ?_; conv => whnf)
        | (refine Both.mk ?_ ?_ <;> conv => whnf)
        | ((first | (refine MkG.box 1 rfl rfl rfl (by decide) ?_) | (refine MkG.box 2 rfl rfl rfl (by decide) ?_) | (refine MkG.box 3 rfl rfl rfl (by decide) ?_) | (refine MkG.row ?_)); conv => whnf)
        | exact trivial
        | (refine Br.mk (fun hb => ?_) (fun hb => ?_) <;> (first | (exfalso; revert hb; decide) | ((try simp only [BL] at hb) <;> (try simp only [DL] at hb) <;> conv => whnf)))
        | (refine And.intro ?_ ?_; (focus (first | exact id | exact rfl | exact trivial | (intro hg; first | exact hg | exact rfl | (simp; done) | (simp at hg ⊢; assumption)) | omega | decide | exact is2_c _ _ _ | exact is1_c _ _ | exact isS_c _ _ | exact isB_c _ _ | exact Nat.le_refl _ | assumption | exact mulLe (by decide) (by omega) | exact mulLe2 (by decide) (by omega) (by omega) | (intros; simp only [BL] at *; omega) | (intros; (try simp only [BL] at *); (try simp only [DL] at *); omega) | (intros; simp only [BL] at *; rw [wr_id (by omega) (by omega)]; omega) | (intro h1 h2; exact Bool.and_eq_true_iff.2 ⟨h1, h2⟩) | (intros; simp_all; done))); conv => whnf)
        | (refine Or.inr (And.intro rfl ?_); first | (refine congrArg intV ?_) | (refine congrArg boolV ?_) | (refine tupII ?_ ?_) | (refine tupIII ?_ ?_ ?_) | (refine tupU ?_ ?_ ?_ ?_ ?_) | exact rfl))
      · refine CallG.wr [0] rfl (FnM.mono (ih (q) a st mid _ _ _ (by omega) rfl rfl rfl (by omega) (by omega) (by omega) hqn H.p1 H.p2 H.b1) ?_)
        rintro obs r ⟨q1, hr1, ha1, rfl, rfl⟩
        have hqn1 := hr1.bnd (by omega) hqn
        conv => whnf
        repeat' (first
          | (refine NilG.mk fun bn hbn hbx => ?_; conv => whnf)
          | (refine Both.mk ?_ ?_ <;> conv => whnf)
          | ((first | (refine MkG.box 1 rfl rfl rfl (by decide) ?_) | (refine MkG.box 2 rfl rfl rfl (by decide) ?_) | (refine MkG.box 3 rfl rfl rfl (by decide) ?_) | (refine MkG.row ?_)); conv => whnf)
          | exact trivial
          | (refine Br.mk (fun hb => ?_) (fun hb => ?_) <;> (first | (exfalso; revert hb; decide) | ((try simp only [BL] at hb) <;> (try simp only [DL] at hb) <;> conv => whnf)))
          | (refine And.intro ?_ ?_; (focus (first | exact id | exact rfl | exact trivial | (intro hg; first | exact hg | exact rfl | (simp; done) | (simp at hg ⊢; assumption)) | omega | decide | exact is2_c _ _ _ | exact is1_c _ _ | exact isS_c _ _ | exact isB_c _ _ | exact Nat.le_refl _ | assumption | exact mulLe (by decide) (by omega) | exact mulLe2 (by decide) (by omega) (by omega) | (intros; simp only [BL] at *; omega) | (intros; (try simp only [BL] at *); (try simp only [DL] at *); omega) | (intros; simp only [BL] at *; rw [wr_id (by omega) (by omega)]; omega) | (intro h1 h2; exact Bool.and_eq_true_iff.2 ⟨h1, h2⟩) | (intros; simp_all; done))); conv => whnf)
          | (refine Or.inr (And.intro rfl ?_); first | (refine congrArg intV ?_) | (refine congrArg boolV ?_) | (refine tupII ?_ ?_) | (refine tupIII ?_ ?_ ?_) | (refine tupU ?_ ?_ ?_ ?_ ?_) | exact rfl))
        · refine CallG.wr [0] rfl (FnM.mono (ih (q1) mid (mid + m - st) b _ _ _ (by omega) rfl e24 rfl (by omega) (by omega) h3 hqn1 ((hr1).asc_out H.p3 (.inr (Nat.le_refl _))) ((hr1).asc_out H.p4 (.inr (by omega))) (bef_out (hr1) H.b2 (Nat.le_refl _))) ?_)
          rintro obs r ⟨q2, hr2, ha2, rfl, rfl⟩
          conv => whnf
          repeat' (first
            | (refine NilG.mk fun bn hbn hbx => ?_; conv => whnf)
            | (refine Both.mk ?_ ?_ <;> conv => whnf)
            | ((first | (refine MkG.box 1 rfl rfl rfl (by decide) ?_) | (refine MkG.box 2 rfl rfl rfl (by decide) ?_) | (refine MkG.box 3 rfl rfl rfl (by decide) ?_) | (refine MkG.row ?_)); conv => whnf)
            | exact trivial
            | (refine Br.mk (fun hb => ?_) (fun hb => ?_) <;> (first | (exfalso; revert hb; decide) | ((try simp only [BL] at hb) <;> (try simp only [DL] at hb) <;> conv => whnf)))
            | (refine And.intro ?_ ?_; (focus (first | exact id | exact rfl | exact trivial | (intro hg; first | exact hg | exact rfl | (simp; done) | (simp at hg ⊢; assumption)) | omega | decide | exact is2_c _ _ _ | exact is1_c _ _ | exact isS_c _ _ | exact isB_c _ _ | exact Nat.le_refl _ | assumption | exact mulLe (by decide) (by omega) | exact mulLe2 (by decide) (by omega) (by omega) | (intros; simp only [BL] at *; omega) | (intros; (try simp only [BL] at *); (try simp only [DL] at *); omega) | (intros; simp only [BL] at *; rw [wr_id (by omega) (by omega)]; omega) | (intro h1 h2; exact Bool.and_eq_true_iff.2 ⟨h1, h2⟩) | (intros; simp_all; done))); conv => whnf)
            | (refine Or.inr (And.intro rfl ?_); first | (refine congrArg intV ?_) | (refine congrArg boolV ?_) | (refine tupII ?_ ?_) | (refine tupIII ?_ ?_ ?_) | (refine tupU ?_ ?_ ?_ ?_ ?_) | exact rfl))
          refine ⟨[0], [rowCom n (colCom g0 g1 g2) (q2)], .tup [], rfl, ?_, rfl, rfl, ?_, Nat.le_refl _, ⟨q2, hR.trans (((hr1).wide (Nat.le_refl _) (by omega)).trans (hr2.wide (by omega) (Nat.le_refl _))), halved_end H.cr (hr1) (ha1) hr2 ha2, rfl, rfl⟩⟩
          all_goals repeat' (first | (refine And.intro ?_ ?_) | exact trivial | exact rfl | exact fun _ _ _ => hsc _ _ | exact fun _ _ _ _ => rfl)
        · have h2n := Halved.two H (by omega) (by omega) (by omega)
          refine ⟨[0], [rowCom n (colCom g0 g1 g2) (q1)], .tup [], rfl, ?_, rfl, rfl, ?_, Nat.le_refl _, ⟨q1, hR.trans ((hr1).wide (Nat.le_refl _) (by omega)), halved_end H.cr (hr1) (ha1) (Rea.refl _ mid b) ((hr1).asc_out h2n (.inr (Nat.le_refl _))), rfl, rfl⟩⟩
          all_goals repeat' (first | (refine And.intro ?_ ?_) | exact trivial | exact rfl | exact fun _ _ _ => hsc _ _ | exact fun _ _ _ _ => rfl)
      · have h1n := Halved.one H (by omega) (by omega) (by omega)
        refine CallG.wr [0] rfl (FnM.mono (ih (q) mid (mid + m - st) b _ _ _ (by omega) rfl e24 rfl (by omega) (by omega) h3 hqn H.p3 H.p4 H.b2) ?_)
        rintro obs r ⟨q2, hr2, ha2, rfl, rfl⟩
        conv => whnf
        repeat' (first
          | (refine NilG.mk fun bn hbn hbx => ?_; conv => whnf)
          | (refine Both.mk ?_ ?_ <;> conv => whnf)
          | ((first | (refine MkG.box 1 rfl rfl rfl (by decide) ?_) | (refine MkG.box 2 rfl rfl rfl (by decide) ?_) | (refine MkG.box 3 rfl rfl rfl (by decide) ?_) | (refine MkG.row ?_)); conv => whnf)
          | exact trivial
          | (refine Br.mk (fun hb => ?_) (fun hb => ?_) <;> (first | (exfalso; revert hb; decide) | ((try simp only [BL] at hb) <;> (try simp only [DL] at hb) <;> conv => whnf)))
          | (refine And.intro ?_ ?_; (focus (first | exact id | exact rfl | exact trivial | (intro hg; first | exact hg | exact rfl | (simp; done) | (simp at hg ⊢; assumption)) | omega | decide | exact is2_c _ _ _ | exact is1_c _ _ | exact isS_c _ _ | exact isB_c _ _ | exact Nat.le_refl _ | assumption | exact mulLe (by decide) (by omega) | exact mulLe2 (by decide) (by omega) (by omega) | (intros; simp only [BL] at *; omega) | (intros; (try simp only [BL] at *); (try simp only [DL] at *); omega) | (intros; simp only [BL] at *; rw [wr_id (by omega) (by omega)]; omega) | (intro h1 h2; exact Bool.and_eq_true_iff.2 ⟨h1, h2⟩) | (intros; simp_all; done))); conv => whnf)
          | (refine Or.inr (And.intro rfl ?_); first | (refine congrArg intV ?_) | (refine congrArg boolV ?_) | (refine tupII ?_ ?_) | (refine tupIII ?_ ?_ ?_) | (refine tupU ?_ ?_ ?_ ?_ ?_) | exact rfl))
        refine ⟨[0], [rowCom n (colCom g0 g1 g2) (q2)], .tup [], rfl, ?_, rfl, rfl, ?_, Nat.le_refl _, ⟨q2, hR.trans (hr2.wide (by omega) (Nat.le_refl _)), halved_end H.cr (Rea.refl _ a mid) h1n hr2 ha2, rfl, rfl⟩⟩
        all_goals repeat' (first | (refine And.intro ?_ ?_) | exact trivial | exact rfl | exact fun _ _ _ => hsc _ _ | exact fun _ _ _ _ => rfl)
      · have h1n := Halved.one H (by omega) (by omega) (by omega)
        have h2n := Halved.two H (by omega) (by omega) (by omega)
        refine ⟨[0], [rowCom n (colCom g0 g1 g2) (q)], .tup [], rfl, ?_, rfl, rfl, ?_, Nat.le_refl _, ⟨q, hR, halved_end H.cr (Rea.refl _ a mid) h1n (Rea.refl _ mid b) h2n, rfl, rfl⟩⟩
        all_goals repeat' (first | (refine And.intro ?_ ?_) | exact trivial | exact rfl | exact fun _ _ _ => hsc _ _ | exact fun _ _ _ _ => rfl)
    all_goals
      have hq : (fun k => p (roI st m (mid + m - st) k)) = p := funext fun k => congrArg p (roI_id (by omega) (by omega) (by omega) k)
      rw [hq] at H0
      have H := H0
      have hqn := hpn
      have hR : Rea p p a b := Rea.refl p a b
    · refine CallG.wr [0] rfl (FnM.mono (ih (p) a st mid _ _ _ (by omega) rfl rfl rfl (by omega) (by omega) (by omega) hqn H.p1 H.p2 H.b1) ?_)
      rintro obs r ⟨q1, hr1, ha1, rfl, rfl⟩
      have hqn1 := hr1.bnd (by omega) hqn
      conv => whnf
      repeat' (first
        | (refine NilG.mk fun bn hbn hbx => ?_; conv => whnf)
        | (refine Both.mk ?_ ?_ <;> conv => whnf)
        | ((first | (refine MkG.box 1 rfl rfl rfl (by decide) ?_) | (refine MkG.box 2 rfl rfl rfl (by decide) ?_) | (refine MkG.box 3 rfl rfl rfl (by decide) ?_) | (refine MkG.row ?_)); conv => whnf)
        | exact trivial
        | (refine Br.mk (fun hb => ?_) (fun hb => ?_) <;> (first | (exfalso; revert hb; decide) | ((try simp only [BL] at hb) <;> (try simp only [DL] at hb) <;> conv => whnf)))
        | (refine And.intro ?_ ?_; (focus (first | exact id | exact rfl | exact trivial | (intro hg; first | exact hg | exact rfl | (simp; done) | (simp at hg ⊢; assumption)) | omega | decide | exact is2_c _ _ _ | exact is1_c _ _ | exact isS_c _ _ | exact isB_c _ _ | exact Nat.le_refl _ | assumption | exact mulLe (by decide) (by omega) | exact mulLe2 (by decide) (by omega) (by omega) | (intros; simp only [BL] at *; omega) | (intros; (try simp only [BL] at *); (try simp only [DL] at *); omega) | (intros; simp only [BL] at *; rw [wr_id (by omega) (by omega)]; omega) | (intro h1 h2; exact Bool.and_eq_true_iff.2 ⟨h1, h2⟩) | (intros; simp_all; done))); conv => whnf)
        | (refine Or.inr (And.intro rfl ?_); first | (refine congrArg intV ?_) | (refine congrArg boolV ?_) | (refine tupII ?_ ?_) | (refine tupIII ?_ ?_ ?_) | (refine tupU ?_ ?_ ?_ ?_ ?_) | exact rfl))
      · refine CallG.wr [0] rfl (FnM.mono (ih (q1) mid (mid + m - st) b _ _ _ (by omega) rfl e24 rfl (by omega) (by omega) h3 hqn1 ((hr1).asc_out H.p3 (.inr (Nat.le_refl _))) ((hr1).asc_out H.p4 (.inr (by omega))) (bef_out (hr1) H.b2 (Nat.le_refl _))) ?_)
        rintro obs r ⟨q2, hr2, ha2, rfl, rfl⟩
        conv => whnf
        repeat' (first
          | (refine NilG.mk fun bn hbn hbx => ?_; conv => whnf)
          | (refine Both.mk ?_ ?_ <;> conv => whnf)
          | ((first | (refine MkG.box 1 rfl rfl rfl (by decide) ?_) | (refine MkG.box 2 rfl rfl rfl (by decide) ?_) | (refine MkG.box 3 rfl rfl rfl (by decide) ?_) | (refine MkG.row ?_)); conv => whnf)
          | exact trivial
          | (refine Br.mk (fun hb => ?_) (fun hb => ?_) <;> (first | (exfalso; revert hb; decide) | ((try simp only [BL] at hb) <;> (try simp only [DL] at hb) <;> conv => whnf)))
          | (refine And.intro ?_ ?_; (focus (first | exact id | exact rfl | exact trivial | (intro hg; first | exact hg | exact rfl | (simp; done) | (simp at hg ⊢; assumption)) | omega | decide | exact is2_c _ _ _ | exact is1_c _ _ | exact isS_c _ _ | exact isB_c _ _ | exact Nat.le_refl _ | assumption | exact mulLe (by decide) (by omega) | exact mulLe2 (by decide) (by omega) (by omega) | (intros; simp only [BL] at *; omega) | (intros; (try simp only [BL] at *); (try simp only [DL] at *); omega) | (intros; simp only [BL] at *; rw [wr_id (by omega) (by omega)]; omega) | (intro h1 h2; exact Bool.and_eq_true_iff.2 ⟨h1, h2⟩) | (intros; simp_all; done))); conv => whnf)
          | (refine Or.inr (And.intro rfl ?_); first | (refine congrArg intV ?_) | (refine congrArg boolV ?_) | (refine tupII ?_ ?_) | (refine tupIII ?_ ?_ ?_) | (refine tupU ?_ ?_ ?_ ?_ ?_) | exact rfl))
        refine ⟨[0], [rowCom n (colCom g0 g1 g2) (q2)], .tup [], rfl, ?_, rfl, rfl, ?_, Nat.le_refl _, ⟨q2, hR.trans (((hr1).wide (Nat.le_refl _) (by omega)).trans (hr2.wide (by omega) (Nat.le_refl _))), halved_end H.cr (hr1) (ha1) hr2 ha2, rfl, rfl⟩⟩
        all_goals repeat' (first | (refine And.intro ?_ ?_) | exact trivial | exact rfl | exact fun _ _ _ => hsc _ _ | exact fun _ _ _ _ => rfl)
      · have h2n := Halved.two H (by omega) (by omega) (by omega)
        refine ⟨[0], [rowCom n (colCom g0 g1 g2) (q1)], .tup [], rfl, ?_, rfl, rfl, ?_, Nat.le_refl _, ⟨q1, hR.trans ((hr1).wide (Nat.le_refl _) (by omega)), halved_end H.cr (hr1) (ha1) (Rea.refl _ mid b) ((hr1).asc_out h2n (.inr (Nat.le_refl _))), rfl, rfl⟩⟩
        all_goals repeat' (first | (refine And.intro ?_ ?_) | exact trivial | exact rfl | exact fun _ _ _ => hsc _ _ | exact fun _ _ _ _ => rfl)
    · have h1n := Halved.one H (by omega) (by omega) (by omega)
      refine CallG.wr [0] rfl (FnM.mono (ih (p) mid (mid + m - st) b _ _ _ (by omega) rfl e24 rfl (by omega) (by omega) h3 hqn H.p3 H.p4 H.b2) ?_)
      rintro obs r ⟨q2, hr2, ha2, rfl, rfl⟩
      conv => whnf
      repeat' (first
        | (refine NilG.mk fun bn hbn hbx => ?_; conv => whnf)
        | (refine Both.mk ?_ ?_ <;> conv => whnf)
        | ((first | (refine MkG.box 1 rfl rfl rfl (by decide) ?_) | (refine MkG.box 2 rfl rfl rfl (by decide) ?_) | (refine MkG.box 3 rfl rfl rfl (by decide) ?_) | (refine MkG.row ?_)); conv => whnf)
        | exact trivial
        | (refine Br.mk (fun hb => ?_) (fun hb => ?_) <;> (first | (exfalso; revert hb; decide) | ((try simp only [BL] at hb) <;> (try simp only [DL] at hb) <;> conv => whnf)))
        | (refine And.intro ?_ ?_; (focus (first | exact id | exact rfl | exact trivial | (intro hg; first | exact hg | exact rfl | (simp; done) | (simp at hg ⊢; assumption)) | omega | decide | exact is2_c _ _ _ | exact is1_c _ _ | exact isS_c _ _ | exact isB_c _ _ | exact Nat.le_refl _ | assumption | exact mulLe (by decide) (by omega) | exact mulLe2 (by decide) (by omega) (by omega) | (intros; simp only [BL] at *; omega) | (intros; (try simp only [BL] at *); (try simp only [DL] at *); omega) | (intros; simp only [BL] at *; rw [wr_id (by omega) (by omega)]; omega) | (intro h1 h2; exact Bool.and_eq_true_iff.2 ⟨h1, h2⟩) | (intros; simp_all; done))); conv => whnf)
        | (refine Or.inr (And.intro rfl ?_); first | (refine congrArg intV ?_) | (refine congrArg boolV ?_) | (refine tupII ?_ ?_) | (refine tupIII ?_ ?_ ?_) | (refine tupU ?_ ?_ ?_ ?_ ?_) | exact rfl))
      refine ⟨[0], [rowCom n (colCom g0 g1 g2) (q2)], .tup [], rfl, ?_, rfl, rfl, ?_, Nat.le_refl _, ⟨q2, hR.trans (hr2.wide (by omega) (Nat.le_refl _)), halved_end H.cr (Rea.refl _ a mid) h1n hr2 ha2, rfl, rfl⟩⟩
      all_goals repeat' (first | (refine And.intro ?_ ?_) | exact trivial | exact rfl | exact fun _ _ _ => hsc _ _ | exact fun _ _ _ _ => rfl)
    · have h1n := Halved.one H (by omega) (by omega) (by omega)
      have h2n := Halved.two H (by omega) (by omega) (by omega)
      refine ⟨[0], [rowCom n (colCom g0 g1 g2) (p)], .tup [], rfl, ?_, rfl, rfl, ?_, Nat.le_refl _, ⟨p, hR, halved_end H.cr (Rea.refl _ a mid) h1n (Rea.refl _ mid b) h2n, rfl, rfl⟩⟩
      all_goals repeat' (first | (refine And.intro ?_ ?_) | exact trivial | exact rfl | exact fun _ _ _ => hsc _ _ | exact fun _ _ _ _ => rfl)

end
end Go.Proofs.Ytemfikdogdadnaa
