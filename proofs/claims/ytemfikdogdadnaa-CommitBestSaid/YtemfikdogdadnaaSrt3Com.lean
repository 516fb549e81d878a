/-
  Stable sorting of lists of gridhall/commit.block: merges.
-/
import Derived.Test.YtemfikdogdadnaaSrt2Com
namespace Go.Proofs.Ytemfikdogdadnaa
open Go.RowKit

section
variable {F : FuncId}  {g0 : Nat → Int} {g1 : Nat → Int} {g2 : Nat → Int} {key : Nat → Int} {n : Nat}

set_option maxHeartbeats 2000000 in
theorem mrgACom (hC : CmpCom F  (colCom g0 g1 g2) key n) (hn : n ≤ 1000000) (p : Nat → Nat) (a m b : Nat) (h1 : a < m) (h2 : m < b) (h3 : b ≤ n) (hpn : ∀ k, k < n → p k < n) (hA : Asc key p a m) (hB : Asc key p m b) (hP : Bef p a m b) (hab : m = a + 1 ∨ b = m + 1) :
    FnM Try.prog 117 [rowCom n (colCom g0 g1 g2) p] [.own 0, intV a, intV m, intV b, .fn F []] (srKCom n (colCom g0 g1 g2) key p a b) := by
  refine fnM_of_wpx (O := lex) tab_ok gamZ_ok mixed Try.func117 (by kernel_rfl) rfl rfl rfl (by simp [Try.ntmps117]) (by kernel_rfl) ?_
  have hsc := scCom g0 g1 g2
  have e1 : IntKind.i64.wrap ((m : Int) - (a : Int)) = (m - a : Nat) := (wr_id (by omega) (by omega)).trans (by omega)
  have e2 : IntKind.i64.wrap ((b : Int) - (m : Int)) = (b - m : Nat) := (wr_id (by omega) (by omega)).trans (by omega)
  conv => whnf
  repeat' (first
    | (refine NilG.mk fun bn hbn hbx => ?_; conv => whnf)
    | (refine Both.mk ?_ ?_ <;> conv => whnf)
    | ((first | (refine MkG.box 1 rfl rfl rfl (by decide) ?_) | (refine MkG.box 2 rfl rfl rfl (by decide) ?_) | (refine MkG.box 3 rfl rfl rfl (by decide) ?_) | (refine MkG.row ?_)); conv => whnf)
    | exact trivial
    | (refine Br.mk (fun hb => ?_) (fun hb => ?_) <;> (first | (exfalso; revert hb; decide) | ((try simp only [BL] at hb) <;> (try simp only [DL] at hb) <;> conv => whnf)))
    | (refine And.intro ?_ ?_; (focus (first | exact id | exact rfl | exact trivial | (intro hg; first | exact hg | exact rfl | (simp; done) | (simp at hg ⊢; assumption)) | omega | decide | exact is2_c _ _ _ | exact is1_c _ _ | exact isS_c _ _ | exact isB_c _ _ | exact Nat.le_refl _ | assumption | exact mulLe (by decide) (by omega) | exact mulLe2 (by decide) (by omega) (by omega) | (intros; simp only [BL] at *; omega) | (intros; (try simp only [BL] at *); (try simp only [DL] at *); omega) | (intros; simp only [BL] at *; rw [wr_id (by omega) (by omega)]; omega) | (intro h1 h2; exact Bool.and_eq_true_iff.2 ⟨h1, h2⟩) | (intros; simp_all; done))); conv => whnf)
    | (refine Or.inr (And.intro rfl ?_); first | (refine congrArg intV ?_) | (refine congrArg boolV ?_) | (refine tupII ?_ ?_) | (refine tupIII ?_ ?_ ?_) | (refine tupU ?_ ?_ ?_ ?_ ?_) | exact rfl))
  · have ham : m = a + 1 := by omega
    clear hb
    refine sem_loop tab_ok gamZ_ok mixed (by kernel_rfl) (O := lex) (fun x : Nat × Nat => ⟨[(0, .own 0), (1, intV a), (4, .fn F []), (10, intV x.1), (11, intV x.2), (1000000, .gh 0)], [rowCom n (colCom g0 g1 g2) p]⟩) (fun x => m ≤ x.1 ∧ x.1 ≤ x.2 ∧ x.2 ≤ b ∧ (∀ k, m ≤ k → k < x.1 → sLt key (p k) (p a)) ∧ (∀ k, x.2 ≤ k → k < b → sLt key (p a) (p k))) (fun x => x.2 - x.1) ⟨(m, b), [?_], ⟨Nat.le_refl _, by show m ≤ b; omega, Nat.le_refl _, fun k k1 k2 => absurd k2 (Nat.not_lt_of_le k1), fun k k1 k2 => absurd k2 (Nat.not_lt_of_le k1)⟩, ?_⟩ fun x hx => ?_
    rotate_left 1
    · refine Sub.of ?_ ?_ ?_
      repeat' (first | (refine And.intro ?_ ?_) | exact trivial | exact fun _ _ _ => hsc _ _ | (exact congrArg intV (by first | with_reducible rfl | with_reducible assumption)) | exact (rfl : AV.idsLt _ _ = true) | exact (rfl : _ = AV.ren _ (.own _)) | exact (rfl : _ = AV.ren _ (.fn _ _)) | exact (rfl : _ = AV.ren _ (.gh _)) | (exact congrArg intV (by assumption)) | (refine congrArg intV ((wr_id (by omega) (by omega)).trans (by omega))) | exact rfl | (simp only [Int.toNat_natCast, Int.toNat_zero, Nat.sub_zero, Nat.zero_add]; first | exact rfl | done) | exact all0 | exact fun h => Bool.noConfusion h | exact fun _ _ _ _ => rfl | omega)
    obtain ⟨i, j⟩ := x
    obtain ⟨x1, x2, x3, x4, x5⟩ := hx
    simp only [] at x1 x2 x3 x4 x5
    have eh := half_add (a := i) (b := j) (by omega)
    have th : (IntKind.i64.wrap (shrI IntKind.u64 (IntKind.u64.wrap (IntKind.i64.wrap ((i : Int) + (j : Int)))) 1)).toNat = (i + j) / 2 := by rw [eh]; omega
    conv => whnf
    repeat' (first
      | (refine NilG.mk fun bn hbn hbx => ?_; conv => whnf)
      | (refine Both.mk ?_ ?_ <;> conv => whnf)
      | ((first | (refine MkG.box 1 rfl rfl rfl (by decide) ?_) | (refine MkG.box 2 rfl rfl rfl (by decide) ?_) | (refine MkG.box 3 rfl rfl rfl (by decide) ?_) | (refine MkG.row ?_)); conv => whnf)
      | exact trivial
      | (refine Br.mk (fun hb => ?_) (fun hb => ?_) <;> (first | (exfalso; revert hb; decide) | ((try simp only [BL] at hb) <;> (try simp only [DL] at hb) <;> conv => whnf)))
      | (refine And.intro ?_ ?_; (focus (first | exact id | exact rfl | exact trivial | (intro hg; first | exact hg | exact rfl | (simp; done) | (simp at hg ⊢; assumption)) | omega | decide | exact is2_c _ _ _ | exact is1_c _ _ | exact isS_c _ _ | exact isB_c _ _ | exact Nat.le_refl _ | assumption | exact mulLe (by decide) (by omega) | exact mulLe2 (by decide) (by omega) (by omega) | (intros; simp only [BL] at *; omega) | (intros; (try simp only [BL] at *); (try simp only [DL] at *); omega) | (intros; simp only [BL] at *; rw [wr_id (by omega) (by omega)]; omega) | (intro h1 h2; exact Bool.and_eq_true_iff.2 ⟨h1, h2⟩) | (rw [eh]; omega) | (refine ⟨rfl, ?_, by decide⟩; first | omega | (rw [th]; omega)) | (intros; simp_all; done))); conv => whnf)
      | (refine Or.inr (And.intro rfl ?_); first | (refine congrArg intV ?_) | (refine congrArg boolV ?_) | (refine tupII ?_ ?_) | (refine tupIII ?_ ?_ ?_) | (refine tupU ?_ ?_ ?_ ?_ ?_) | exact rfl))
    · have hij : i < j := by omega
      clear hb
      obtain ⟨v, hv, hvk⟩ := hC.run (p (IntKind.i64.wrap (shrI IntKind.u64 (IntKind.u64.wrap (IntKind.i64.wrap ((i : Int) + (j : Int)))) 1)).toNat) (p a) (by rw [th]; exact hpn _ (by omega)) (hpn _ (by omega))
      rw [th] at hvk
      have hbf := hP a ((i + j) / 2) (Nat.le_refl _) h1 (by omega) (by omega)
      refine CallG.mk (Fn.mono hv ?_)
      rintro obs r ⟨rfl, rfl⟩
      have eh1 : IntKind.i64.wrap (IntKind.i64.wrap (shrI IntKind.u64 (IntKind.u64.wrap (IntKind.i64.wrap ((i : Int) + (j : Int)))) 1) + 1) = ((i + j) / 2 + 1 : Nat) := by rw [eh]; exact (wr_id (by omega) (by omega)).trans (by omega)
      conv => whnf
      repeat' (first
        | (refine NilG.mk fun bn hbn hbx => ?_; conv => whnf)
        | (refine Both.mk ?_ ?_ <;> conv => whnf)
        | ((first | (refine MkG.box 1 rfl rfl rfl (by decide) ?_) | (refine MkG.box 2 rfl rfl rfl (by decide) ?_) | (refine MkG.box 3 rfl rfl rfl (by decide) ?_) | (refine MkG.row ?_)); conv => whnf)
        | exact trivial
        | (refine Br.mk (fun hb => ?_) (fun hb => ?_) <;> (first | (exfalso; revert hb; decide) | ((try simp only [BL] at hb) <;> (try simp only [DL] at hb) <;> conv => whnf)))
        | (refine And.intro ?_ ?_; (focus (first | exact id | exact rfl | exact trivial | (intro hg; first | exact hg | exact rfl | (simp; done) | (simp at hg ⊢; assumption)) | omega | decide | exact is2_c _ _ _ | exact is1_c _ _ | exact isS_c _ _ | exact isB_c _ _ | exact Nat.le_refl _ | assumption | exact mulLe (by decide) (by omega) | exact mulLe2 (by decide) (by omega) (by omega) | (intros; simp only [BL] at *; omega) | (intros; (try simp only [BL] at *); (try simp only [DL] at *); omega) | (intros; simp only [BL] at *; rw [wr_id (by omega) (by omega)]; omega) | (intro h1 h2; exact Bool.and_eq_true_iff.2 ⟨h1, h2⟩) | (intros; simp_all; done))); conv => whnf)
        | (refine Or.inr (And.intro rfl ?_); first | (refine congrArg intV ?_) | (refine congrArg boolV ?_) | (refine tupII ?_ ?_) | (refine tupIII ?_ ?_ ?_) | (refine tupU ?_ ?_ ?_ ?_ ?_) | exact rfl))
      · have hlt : sLt key (p ((i + j) / 2)) (p a) := .inl (hvk.1 (by omega))
        refine ⟨((i + j) / 2 + 1, j), [?_], ⟨by show m ≤ (i + j) / 2 + 1; omega, by show (i + j) / 2 + 1 ≤ j; omega, x3, fun k k1 k2 => if e : k = (i + j) / 2 then by rw [e]; exact hlt else (hB k ((i + j) / 2) k1 (by have : k < (i + j) / 2 + 1 := k2; omega) (by omega)).trans hlt, x5⟩, by show j - ((i + j) / 2 + 1) < j - i; omega, ?_⟩
        rotate_left 1
        refine Sub.of ?_ ?_ ?_
        repeat' (first | (refine And.intro ?_ ?_) | exact trivial | exact fun _ _ _ => hsc _ _ | (exact congrArg intV (by first | with_reducible rfl | with_reducible assumption)) | exact (rfl : AV.idsLt _ _ = true) | exact (rfl : _ = AV.ren _ (.own _)) | exact (rfl : _ = AV.ren _ (.fn _ _)) | exact (rfl : _ = AV.ren _ (.gh _)) | (exact congrArg intV (by assumption)) | (refine congrArg intV ((wr_id (by omega) (by omega)).trans (by omega))) | exact rfl | (simp only [Int.toNat_natCast, Int.toNat_zero, Nat.sub_zero, Nat.zero_add]; first | exact rfl | done) | exact all0 | exact fun h => Bool.noConfusion h | exact fun _ _ _ _ => rfl | omega)
      · have hge : sLt key (p a) (p ((i + j) / 2)) := by
          have : ¬ key (p ((i + j) / 2)) < key (p a) := fun h => by have := hvk.2 h; omega
          unfold sLt; omega
        refine ⟨(i, (i + j) / 2), [?_], ⟨x1, by show i ≤ (i + j) / 2; omega, by show (i + j) / 2 ≤ b; omega, x4, fun k k1 k2 => if e : k = (i + j) / 2 then by rw [e]; exact hge else hge.trans (hB ((i + j) / 2) k (by omega) (by have : (i + j) / 2 ≤ k := k1; omega) k2)⟩, by show (i + j) / 2 - i < j - i; omega, ?_⟩
        rotate_left 1
        refine Sub.of ?_ ?_ ?_
        repeat' (first | (refine And.intro ?_ ?_) | exact trivial | exact fun _ _ _ => hsc _ _ | (exact congrArg intV (by first | with_reducible rfl | with_reducible assumption)) | exact (rfl : AV.idsLt _ _ = true) | exact (rfl : _ = AV.ren _ (.own _)) | exact (rfl : _ = AV.ren _ (.fn _ _)) | exact (rfl : _ = AV.ren _ (.gh _)) | (exact congrArg intV (by assumption)) | (refine congrArg intV ((wr_id (by omega) (by omega)).trans (by omega))) | exact rfl | (simp only [Int.toNat_natCast, Int.toNat_zero, Nat.sub_zero, Nat.zero_add]; first | exact rfl | done) | exact all0 | exact fun h => Bool.noConfusion h | exact fun _ _ _ _ => rfl | omega)
    · have hij : i = j := by omega
      clear hb
      have e10 : IntKind.i64.wrap ((i : Int) - 1) = (i - 1 : Nat) := (wr_id (by omega) (by omega)).trans (by omega)
      refine sem_loop tab_ok gamZ_ok mixed (by kernel_rfl) (O := lex) (fun t : Nat => ⟨[(0, .own 0), (10, intV i), (13, intV t), (1000000, .gh 0)], [rowCom n (colCom g0 g1 g2) fun k => p (upI a t k)]⟩) (fun t => a ≤ t ∧ t ≤ i - 1) (fun t => i - t) ⟨a, [?_], ⟨Nat.le_refl _, by omega⟩, ?_⟩ fun t ht => ?_
      rotate_left 1
      · refine Sub.of ?_ ?_ ?_
        repeat' (first | (refine And.intro ?_ ?_) | exact trivial | exact fun _ _ _ => hsc _ _ | (exact congrArg intV (by first | with_reducible rfl | with_reducible assumption)) | exact (rfl : AV.idsLt _ _ = true) | exact (rfl : _ = AV.ren _ (.own _)) | exact (rfl : _ = AV.ren _ (.fn _ _)) | exact (rfl : _ = AV.ren _ (.gh _)) | (exact congrArg intV (by assumption)) | (refine congrArg intV ((wr_id (by omega) (by omega)).trans (by omega))) | exact rfl | (simp only [Int.toNat_natCast, Int.toNat_zero, Nat.sub_zero, Nat.zero_add]; first | exact rfl | done) | exact all0 | exact fun h => Bool.noConfusion h | exact fun _ _ _ _ => rfl | omega)
        · intro k _ c _
          show (colCom g0 g1 g2) (p k) c = (colCom g0 g1 g2) (p (upI a a k)) c
          rw [upI_same]
      have et : IntKind.i64.wrap ((t : Int) + 1) = (t + 1 : Nat) := (wr_id (by omega) (by omega)).trans (by omega)
      have tt : (IntKind.i64.wrap ((t : Int) + 1)).toNat = t + 1 := by rw [et]; omega
      conv => whnf
      repeat' (first
        | (refine NilG.mk fun bn hbn hbx => ?_; conv => whnf)
        | (refine Both.mk ?_ ?_ <;> conv => whnf)
        | ((first | (refine MkG.box 1 rfl rfl rfl (by decide) ?_) | (refine MkG.box 2 rfl rfl rfl (by decide) ?_) | (refine MkG.box 3 rfl rfl rfl (by decide) ?_) | (refine MkG.row ?_)); conv => whnf)
        | exact trivial
        | (refine Br.mk (fun hb => ?_) (fun hb => ?_) <;> (first | (exfalso; revert hb; decide) | ((try simp only [BL] at hb) <;> (try simp only [DL] at hb) <;> conv => whnf)))
        | (refine And.intro ?_ ?_; (focus (first | exact id | exact rfl | exact trivial | (intro hg; first | exact hg | exact rfl | (simp; done) | (simp at hg ⊢; assumption)) | omega | decide | exact is2_c _ _ _ | exact is1_c _ _ | exact isS_c _ _ | exact isB_c _ _ | exact Nat.le_refl _ | assumption | exact mulLe (by decide) (by omega) | exact mulLe2 (by decide) (by omega) (by omega) | (intros; simp only [BL] at *; omega) | (intros; (try simp only [BL] at *); (try simp only [DL] at *); omega) | (intros; simp only [BL] at *; rw [wr_id (by omega) (by omega)]; omega) | (intro h1 h2; exact Bool.and_eq_true_iff.2 ⟨h1, h2⟩) | (rw [et]; omega) | (refine ⟨rfl, ?_, by decide⟩; first | omega | (rw [tt]; omega)) | (intros; simp_all; done))); conv => whnf)
        | (refine Or.inr (And.intro rfl ?_); first | (refine congrArg intV ?_) | (refine congrArg boolV ?_) | (refine tupII ?_ ?_) | (refine tupIII ?_ ?_ ?_) | (refine tupU ?_ ?_ ?_ ?_ ?_) | exact rfl))
      · refine ⟨t + 1, [?_], ⟨by omega, by omega⟩, by omega, ?_⟩
        rotate_left 1
        refine Sub.of ?_ ?_ ?_
        repeat' (first | (refine And.intro ?_ ?_) | exact trivial | exact fun _ _ _ => hsc _ _ | (exact congrArg intV (by first | with_reducible rfl | with_reducible assumption)) | exact (rfl : AV.idsLt _ _ = true) | exact (rfl : _ = AV.ren _ (.own _)) | exact (rfl : _ = AV.ren _ (.fn _ _)) | exact (rfl : _ = AV.ren _ (.gh _)) | (exact congrArg intV (by assumption)) | (refine congrArg intV ((wr_id (by omega) (by omega)).trans (by omega))) | exact rfl | (simp only [Int.toNat_natCast, Int.toNat_zero, Nat.sub_zero, Nat.zero_add]; first | exact rfl | done) | exact all0 | exact fun h => Bool.noConfusion h | exact fun _ _ _ _ => rfl | omega)
        · intro k hk c hc
          exact twoCom (F0 := fun x y => (colCom g0 g1 g2) (p x) y) (g := upI a t) (h := upI a (t + 1)) (u := t) (v := (IntKind.i64.wrap ((t : Int) + 1)).toNat) hc rfl rfl (by rw [tt]; unfold upI; (repeat' split) <;> omega) (by rw [tt]; unfold upI; (repeat' split) <;> omega) (fun k h1 h2 => by rw [tt] at h2; unfold upI; (repeat' split) <;> omega)
      · have hti : t = i - 1 := by omega
        have hA1 : Asc key p (a + 1) b := by rw [← ham]; exact hB
        refine ⟨[0], [rowCom n (colCom g0 g1 g2) (fun k => p (upI a t k))], .tup [], rfl, ?_, rfl, rfl, ?_, Nat.le_refl _, ⟨fun k => p (upI a t k), rea_up p (Nat.le_refl _) (by omega) (by omega), asc_up hA1 (by omega) (by omega) (fun k k1 k2 => x4 k (by omega) (by omega)) (fun k k1 k2 => x5 k (by omega) k2), rfl, rfl⟩⟩
        all_goals repeat' (first | (refine And.intro ?_ ?_) | exact trivial | exact rfl | exact fun _ _ _ => hsc _ _ | exact fun _ _ _ _ => rfl)
  · have hbm : b = m + 1 := by omega
    clear hb
    refine sem_loop tab_ok gamZ_ok mixed (by kernel_rfl) (O := lex) (fun x : Nat × Nat => ⟨[(0, .own 0), (2, intV m), (4, .fn F []), (14, intV x.1), (15, intV x.2), (1000000, .gh 0)], [rowCom n (colCom g0 g1 g2) p]⟩) (fun x => a ≤ x.1 ∧ x.1 ≤ x.2 ∧ x.2 ≤ m ∧ (∀ k, a ≤ k → k < x.1 → sLt key (p k) (p m)) ∧ (∀ k, x.2 ≤ k → k < m → sLt key (p m) (p k))) (fun x => x.2 - x.1) ⟨(a, m), [?_], ⟨Nat.le_refl _, by show a ≤ m; omega, Nat.le_refl _, fun k k1 k2 => absurd k2 (Nat.not_lt_of_le k1), fun k k1 k2 => absurd k2 (Nat.not_lt_of_le k1)⟩, ?_⟩ fun x hx => ?_
    rotate_left 1
    · refine Sub.of ?_ ?_ ?_
      repeat' (first | (refine And.intro ?_ ?_) | exact trivial | exact fun _ _ _ => hsc _ _ | (exact congrArg intV (by first | with_reducible rfl | with_reducible assumption)) | exact (rfl : AV.idsLt _ _ = true) | exact (rfl : _ = AV.ren _ (.own _)) | exact (rfl : _ = AV.ren _ (.fn _ _)) | exact (rfl : _ = AV.ren _ (.gh _)) | (exact congrArg intV (by assumption)) | (refine congrArg intV ((wr_id (by omega) (by omega)).trans (by omega))) | exact rfl | (simp only [Int.toNat_natCast, Int.toNat_zero, Nat.sub_zero, Nat.zero_add]; first | exact rfl | done) | exact all0 | exact fun h => Bool.noConfusion h | exact fun _ _ _ _ => rfl | omega)
    obtain ⟨i, j⟩ := x
    obtain ⟨x1, x2, x3, x4, x5⟩ := hx
    simp only [] at x1 x2 x3 x4 x5
    have eh := half_add (a := i) (b := j) (by omega)
    have th : (IntKind.i64.wrap (shrI IntKind.u64 (IntKind.u64.wrap (IntKind.i64.wrap ((i : Int) + (j : Int)))) 1)).toNat = (i + j) / 2 := by rw [eh]; omega
    conv => whnf
    repeat' (first
      | (refine NilG.mk fun bn hbn hbx => ?_; conv => whnf)
      | (refine Both.mk ?_ ?_ <;> conv => whnf)
      | ((first | (refine MkG.box 1 rfl rfl rfl (by decide) ?_) | (refine MkG.box 2 rfl rfl rfl (by decide) ?_) | (refine MkG.box 3 rfl rfl rfl (by decide) ?_) | (refine MkG.row ?_)); conv => whnf)
      | exact trivial
      | (refine Br.mk (fun hb => ?_) (fun hb => ?_) <;> (first | (exfalso; revert hb; decide) | ((try simp only [BL] at hb) <;> (try simp only [DL] at hb) <;> conv => whnf)))
      | (refine And.intro ?_ ?_; (focus (first | exact id | exact rfl | exact trivial | (intro hg; first | exact hg | exact rfl | (simp; done) | (simp at hg ⊢; assumption)) | omega | decide | exact is2_c _ _ _ | exact is1_c _ _ | exact isS_c _ _ | exact isB_c _ _ | exact Nat.le_refl _ | assumption | exact mulLe (by decide) (by omega) | exact mulLe2 (by decide) (by omega) (by omega) | (intros; simp only [BL] at *; omega) | (intros; (try simp only [BL] at *); (try simp only [DL] at *); omega) | (intros; simp only [BL] at *; rw [wr_id (by omega) (by omega)]; omega) | (intro h1 h2; exact Bool.and_eq_true_iff.2 ⟨h1, h2⟩) | (rw [eh]; omega) | (refine ⟨rfl, ?_, by decide⟩; first | omega | (rw [th]; omega)) | (intros; simp_all; done))); conv => whnf)
      | (refine Or.inr (And.intro rfl ?_); first | (refine congrArg intV ?_) | (refine congrArg boolV ?_) | (refine tupII ?_ ?_) | (refine tupIII ?_ ?_ ?_) | (refine tupU ?_ ?_ ?_ ?_ ?_) | exact rfl))
    · have hij : i < j := by omega
      clear hb
      obtain ⟨v, hv, hvk⟩ := hC.run (p m) (p (IntKind.i64.wrap (shrI IntKind.u64 (IntKind.u64.wrap (IntKind.i64.wrap ((i : Int) + (j : Int)))) 1)).toNat) (hpn _ (by omega)) (by rw [th]; exact hpn _ (by omega))
      rw [th] at hvk
      have hbf := hP ((i + j) / 2) m (by omega) (by omega) (Nat.le_refl _) (by omega)
      refine CallG.mk (Fn.mono hv ?_)
      rintro obs r ⟨rfl, rfl⟩
      have eh1 : IntKind.i64.wrap (IntKind.i64.wrap (shrI IntKind.u64 (IntKind.u64.wrap (IntKind.i64.wrap ((i : Int) + (j : Int)))) 1) + 1) = ((i + j) / 2 + 1 : Nat) := by rw [eh]; exact (wr_id (by omega) (by omega)).trans (by omega)
      conv => whnf
      repeat' (first
        | (refine NilG.mk fun bn hbn hbx => ?_; conv => whnf)
        | (refine Both.mk ?_ ?_ <;> conv => whnf)
        | ((first | (refine MkG.box 1 rfl rfl rfl (by decide) ?_) | (refine MkG.box 2 rfl rfl rfl (by decide) ?_) | (refine MkG.box 3 rfl rfl rfl (by decide) ?_) | (refine MkG.row ?_)); conv => whnf)
        | exact trivial
        | (refine Br.mk (fun hb => ?_) (fun hb => ?_) <;> (first | (exfalso; revert hb; decide) | ((try simp only [BL] at hb) <;> (try simp only [DL] at hb) <;> conv => whnf)))
        | (refine And.intro ?_ ?_; (focus (first | exact id | exact rfl | exact trivial | (intro hg; first | exact hg | exact rfl | (simp; done) | (simp at hg ⊢; assumption)) | omega | decide | exact is2_c _ _ _ | exact is1_c _ _ | exact isS_c _ _ | exact isB_c _ _ | exact Nat.le_refl _ | assumption | exact mulLe (by decide) (by omega) | exact mulLe2 (by decide) (by omega) (by omega) | (intros; simp only [BL] at *; omega) | (intros; (try simp only [BL] at *); (try simp only [DL] at *); omega) | (intros; simp only [BL] at *; rw [wr_id (by omega) (by omega)]; omega) | (intro h1 h2; exact Bool.and_eq_true_iff.2 ⟨h1, h2⟩) | (intros; simp_all; done))); conv => whnf)
        | (refine Or.inr (And.intro rfl ?_); first | (refine congrArg intV ?_) | (refine congrArg boolV ?_) | (refine tupII ?_ ?_) | (refine tupIII ?_ ?_ ?_) | (refine tupU ?_ ?_ ?_ ?_ ?_) | exact rfl))
      · have hlt : sLt key (p ((i + j) / 2)) (p m) := by
          have : ¬ key (p m) < key (p ((i + j) / 2)) := fun h => by have := hvk.2 h; omega
          unfold sLt; omega
        refine ⟨((i + j) / 2 + 1, j), [?_], ⟨by show a ≤ (i + j) / 2 + 1; omega, by show (i + j) / 2 + 1 ≤ j; omega, x3, fun k k1 k2 => if e : k = (i + j) / 2 then by rw [e]; exact hlt else (hA k ((i + j) / 2) k1 (by have : k < (i + j) / 2 + 1 := k2; omega) (by omega)).trans hlt, x5⟩, by show j - ((i + j) / 2 + 1) < j - i; omega, ?_⟩
        rotate_left 1
        refine Sub.of ?_ ?_ ?_
        repeat' (first | (refine And.intro ?_ ?_) | exact trivial | exact fun _ _ _ => hsc _ _ | (exact congrArg intV (by first | with_reducible rfl | with_reducible assumption)) | exact (rfl : AV.idsLt _ _ = true) | exact (rfl : _ = AV.ren _ (.own _)) | exact (rfl : _ = AV.ren _ (.fn _ _)) | exact (rfl : _ = AV.ren _ (.gh _)) | (exact congrArg intV (by assumption)) | (refine congrArg intV ((wr_id (by omega) (by omega)).trans (by omega))) | exact rfl | (simp only [Int.toNat_natCast, Int.toNat_zero, Nat.sub_zero, Nat.zero_add]; first | exact rfl | done) | exact all0 | exact fun h => Bool.noConfusion h | exact fun _ _ _ _ => rfl | omega)
      · have hge : sLt key (p m) (p ((i + j) / 2)) := .inl (hvk.1 (by omega))
        refine ⟨(i, (i + j) / 2), [?_], ⟨x1, by show i ≤ (i + j) / 2; omega, by show (i + j) / 2 ≤ m; omega, x4, fun k k1 k2 => if e : k = (i + j) / 2 then by rw [e]; exact hge else hge.trans (hA ((i + j) / 2) k (by omega) (by have : (i + j) / 2 ≤ k := k1; omega) k2)⟩, by show (i + j) / 2 - i < j - i; omega, ?_⟩
        rotate_left 1
        refine Sub.of ?_ ?_ ?_
        repeat' (first | (refine And.intro ?_ ?_) | exact trivial | exact fun _ _ _ => hsc _ _ | (exact congrArg intV (by first | with_reducible rfl | with_reducible assumption)) | exact (rfl : AV.idsLt _ _ = true) | exact (rfl : _ = AV.ren _ (.own _)) | exact (rfl : _ = AV.ren _ (.fn _ _)) | exact (rfl : _ = AV.ren _ (.gh _)) | (exact congrArg intV (by assumption)) | (refine congrArg intV ((wr_id (by omega) (by omega)).trans (by omega))) | exact rfl | (simp only [Int.toNat_natCast, Int.toNat_zero, Nat.sub_zero, Nat.zero_add]; first | exact rfl | done) | exact all0 | exact fun h => Bool.noConfusion h | exact fun _ _ _ _ => rfl | omega)
    · have hij : i = j := by omega
      clear hb
      refine sem_loop tab_ok gamZ_ok mixed (by kernel_rfl) (O := lex) (fun t : Nat => ⟨[(0, .own 0), (14, intV i), (17, intV t), (1000000, .gh 0)], [rowCom n (colCom g0 g1 g2) fun k => p (inI t m k)]⟩) (fun t => i ≤ t ∧ t ≤ m) (fun t => t) ⟨m, [?_], ⟨by omega, Nat.le_refl _⟩, ?_⟩ fun t ht => ?_
      rotate_left 1
      · refine Sub.of ?_ ?_ ?_
        repeat' (first | (refine And.intro ?_ ?_) | exact trivial | exact fun _ _ _ => hsc _ _ | (exact congrArg intV (by first | with_reducible rfl | with_reducible assumption)) | exact (rfl : AV.idsLt _ _ = true) | exact (rfl : _ = AV.ren _ (.own _)) | exact (rfl : _ = AV.ren _ (.fn _ _)) | exact (rfl : _ = AV.ren _ (.gh _)) | (exact congrArg intV (by assumption)) | (refine congrArg intV ((wr_id (by omega) (by omega)).trans (by omega))) | exact rfl | (simp only [Int.toNat_natCast, Int.toNat_zero, Nat.sub_zero, Nat.zero_add]; first | exact rfl | done) | exact all0 | exact fun h => Bool.noConfusion h | exact fun _ _ _ _ => rfl | omega)
        · intro k _ c _
          show (colCom g0 g1 g2) (p k) c = (colCom g0 g1 g2) (p (inI m m k)) c
          rw [inI_same]
      have et' : i < t → IntKind.i64.wrap ((t : Int) - 1) = (t - 1 : Nat) := fun h => (wr_id (by omega) (by omega)).trans (by omega)
      conv => whnf
      repeat' (first
        | (refine NilG.mk fun bn hbn hbx => ?_; conv => whnf)
        | (refine Both.mk ?_ ?_ <;> conv => whnf)
        | ((first | (refine MkG.box 1 rfl rfl rfl (by decide) ?_) | (refine MkG.box 2 rfl rfl rfl (by decide) ?_) | (refine MkG.box 3 rfl rfl rfl (by decide) ?_) | (refine MkG.row ?_)); conv => whnf)
        | exact trivial
        | (refine Br.mk (fun hb => ?_) (fun hb => ?_) <;> (first | (exfalso; revert hb; decide) | ((try simp only [BL] at hb) <;> (try simp only [DL] at hb) <;> conv => whnf)))
        | (refine And.intro ?_ ?_; (focus (first | exact id | exact rfl | exact trivial | (intro hg; first | exact hg | exact rfl | (simp; done) | (simp at hg ⊢; assumption)) | omega | decide | exact is2_c _ _ _ | exact is1_c _ _ | exact isS_c _ _ | exact isB_c _ _ | exact Nat.le_refl _ | assumption | exact mulLe (by decide) (by omega) | exact mulLe2 (by decide) (by omega) (by omega) | (intros; simp only [BL] at *; omega) | (intros; (try simp only [BL] at *); (try simp only [DL] at *); omega) | (intros; simp only [BL] at *; rw [wr_id (by omega) (by omega)]; omega) | (intro h1 h2; exact Bool.and_eq_true_iff.2 ⟨h1, h2⟩) | (rw [et' (by omega)]; omega) | (refine ⟨rfl, ?_, by decide⟩; first | omega | (rw [et' (by omega)]; omega)) | (intros; simp_all; done))); conv => whnf)
        | (refine Or.inr (And.intro rfl ?_); first | (refine congrArg intV ?_) | (refine congrArg boolV ?_) | (refine tupII ?_ ?_) | (refine tupIII ?_ ?_ ?_) | (refine tupU ?_ ?_ ?_ ?_ ?_) | exact rfl))
      · have et := et' (by omega)
        have tt : (IntKind.i64.wrap ((t : Int) - 1)).toNat = t - 1 := by rw [et]; omega
        refine ⟨t - 1, [?_], ⟨by omega, by omega⟩, by omega, ?_⟩
        rotate_left 1
        refine Sub.of ?_ ?_ ?_
        repeat' (first | (refine And.intro ?_ ?_) | exact trivial | exact fun _ _ _ => hsc _ _ | (exact congrArg intV (by first | with_reducible rfl | with_reducible assumption)) | exact (rfl : AV.idsLt _ _ = true) | exact (rfl : _ = AV.ren _ (.own _)) | exact (rfl : _ = AV.ren _ (.fn _ _)) | exact (rfl : _ = AV.ren _ (.gh _)) | (exact congrArg intV (by assumption)) | (refine congrArg intV ((wr_id (by omega) (by omega)).trans (by omega))) | exact rfl | (simp only [Int.toNat_natCast, Int.toNat_zero, Nat.sub_zero, Nat.zero_add]; first | exact rfl | done) | exact all0 | exact fun h => Bool.noConfusion h | exact fun _ _ _ _ => rfl | omega)
        · intro k hk c hc
          exact twoCom (F0 := fun x y => (colCom g0 g1 g2) (p x) y) (g := inI t m) (h := inI (t - 1) m) (u := t) (v := (IntKind.i64.wrap ((t : Int) - 1)).toNat) hc rfl rfl (by rw [tt]; unfold inI; (repeat' split) <;> omega) (by rw [tt]; unfold inI; (repeat' split) <;> omega) (fun k h1 h2 => by rw [tt] at h2; unfold inI; (repeat' split) <;> omega)
      · have hti : t = i := by omega
        have hall := asc_in hA (j := t) (by omega) (by omega) (fun k k1 k2 => x4 k k1 (by omega)) (fun k k1 k2 => x5 k (by omega) k2)
        rw [← hbm] at hall
        refine ⟨[0], [rowCom n (colCom g0 g1 g2) (fun k => p (inI t m k))], .tup [], rfl, ?_, rfl, rfl, ?_, Nat.le_refl _, ⟨fun k => p (inI t m k), rea_in p (by omega) (by omega) (by omega), hall, rfl, rfl⟩⟩
        all_goals repeat' (first | (refine And.intro ?_ ?_) | exact trivial | exact rfl | exact fun _ _ _ => hsc _ _ | exact fun _ _ _ _ => rfl)
  all_goals (exfalso; omega)

end
end Go.Proofs.Ytemfikdogdadnaa
