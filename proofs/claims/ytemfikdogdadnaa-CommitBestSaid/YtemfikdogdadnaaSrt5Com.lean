/-
  Stable sorting of lists of gridhall/commit.block: all.
-/
import Derived.Test.YtemfikdogdadnaaSrt4Com
namespace Go.Proofs.Ytemfikdogdadnaa
open Go.RowKit

def soKCom (n : Nat) (F0 : Nat → Nat → L) (key : Nat → Int) (obs : List OB) (r : AV) : Prop := ∃ q, Sorted key q n ∧ obs = [rowCom n F0 q] ∧ r = .tup []

section
variable {F : FuncId}  {g0 : Nat → Int} {g1 : Nat → Int} {g2 : Nat → Int} {key : Nat → Int} {n : Nat}

theorem mrgCom (hC : CmpCom F  (colCom g0 g1 g2) key n) (hn : n ≤ 1000000) (p : Nat → Nat) (a m b : Nat) {A M B : Int} (eA : A = a) (eM : M = m) (eB : B = b) (h1 : a < m) (h2 : m < b) (h3 : b ≤ n) (hpn : ∀ k, k < n → p k < n) (hA : Asc key p a m) (hB : Asc key p m b) (hP : Bef p a m b) :
    FnM Try.prog 117 [rowCom n (colCom g0 g1 g2) p] [.own 0, intV A, intV M, intV B, .fn F []] (srKCom n (colCom g0 g1 g2) key p a b) := by
  have ky : ∀ (d : Nat) (p : Nat → Nat) (a m b : Nat) (A M B : Int), b - a ≤ d → A = a → M = m → B = b → a < m → m < b → b ≤ n → (∀ k, k < n → p k < n) → Asc key p a m → Asc key p m b → Bef p a m b →
      FnM Try.prog 117 [rowCom n (colCom g0 g1 g2) p] [.own 0, intV A, intV M, intV B, .fn F []] (srKCom n (colCom g0 g1 g2) key p a b) := fun d => by
    induction d with
    | zero => exact fun p a m b A M B hd _ _ _ h1 h2 => by omega
    | succ d ih =>
      intro p a m b A M B hd eA eM eB h1 h2 h3 hpn hA hB hP
      subst eA eM eB
      by_cases hab : m = a + 1 ∨ b = m + 1
      · exact mrgACom hC hn p a m b h1 h2 h3 hpn hA hB hP hab
      · exact mrgBCom hC hn p a m b h1 h2 h3 hpn hA hB hP hab fun p' a' m' b' A M B hlt => ih p' a' m' b' A M B (by omega)
  exact ky (b - a) p a m b A M B (Nat.le_refl _) eA eM eB h1 h2 h3 hpn hA hB hP

theorem stbCom (hC : CmpCom F  (colCom g0 g1 g2) key n) (hn : n ≤ 1000000) : FnM Try.prog 112 [rowCom n (colCom g0 g1 g2) id] [.own 0, intV n, .fn F []] (soKCom n (colCom g0 g1 g2) key) := by
  refine fnM_of_wpx (O := lex) tab_ok gamZ_ok mixed Try.func112 (by kernel_rfl) rfl rfl rfl (by simp [Try.ntmps112]) (by kernel_rfl) ?_
  have hsc := scCom g0 g1 g2
  conv => whnf
  repeat' (first
    | (refine NilG.mk fun bn hbn hbx => ?_; conv => whnf)
    | (refine Both.mk ?_ ?_ <;> conv => whnf)
    | ((first | (refine MkG.box 1 rfl rfl rfl (by decide) ?_) | (refine MkG.box 2 rfl rfl rfl (by decide) ?_) | (refine MkG.box 3 rfl rfl rfl (by decide) ?_) | (refine MkG.row ?_)); conv => whnf)
    | exact trivial
    | (refine Br.mk (fun hb => ?_) (fun hb => ?_) <;> (first | (exfalso; revert hb; decide) | ((try simp only [BL] at hb) <;> (try simp only [DL] at hb) <;> conv => whnf)))
    | (refine And.intro ?_ ?_; (focus (first | exact id | exact rfl | exact trivial | (intro hg; first | exact hg | exact rfl | (simp; done) | (simp at hg ⊢; assumption)) | omega | decide | exact is2_c _ _ _ | exact is1_c _ _ | exact isS_c _ _ | exact isB_c _ _ | exact Nat.le_refl _ | assumption | exact mulLe (by decide) (by omega) | exact mulLe2 (by decide) (by omega) (by omega) | (intros; simp only [BL] at *; omega) | (intros; (try simp only [BL] at *); (try simp only [DL] at *); omega) | (intros; simp only [BL] at *; rw [wr_id (by omega) (by omega)]; omega) | (intro h1 h2; exact Bool.and_eq_true_iff.2 ⟨h1, h2⟩) | (intros; simp_all; done))); conv => whnf)
    | (refine Or.inr (And.intro rfl ?_); first | (refine congrArg intV ?_) | (refine congrArg boolV ?_) | (refine tupII ?_ ?_) | (refine tupIII ?_ ?_ ?_) | (refine tupU ?_ ?_ ?_ ?_ ?_) | exact rfl))
  refine sem_loop tab_ok gamZ_ok mixed (by kernel_rfl) (O := lex) (fun x : Nat × (Nat → Nat) => ⟨[(0, .own 0), (1, intV n), (2, .fn F []), (6, intV 20), (7, intV (20 * x.1 : Nat)), (8, intV (20 * x.1 + 20 : Nat)), (1000000, .gh 0)], [rowCom n (colCom g0 g1 g2) x.2]⟩) (fun x => 20 * x.1 ≤ n ∧ Blks key 20 x.2 (20 * x.1) n) (fun x => n - 20 * x.1) ⟨(0, id), [?_], ⟨Nat.zero_le _, Blks.start key 20 n⟩, ?_⟩ fun x hx => ?_
  rotate_left 1
  · refine Sub.of ?_ ?_ ?_
    repeat' (first | (refine And.intro ?_ ?_) | exact trivial | exact fun _ _ _ => hsc _ _ | (exact congrArg intV (by first | with_reducible rfl | with_reducible assumption)) | exact (rfl : AV.idsLt _ _ = true) | exact (rfl : _ = AV.ren _ (.own _)) | exact (rfl : _ = AV.ren _ (.fn _ _)) | exact (rfl : _ = AV.ren _ (.gh _)) | (exact congrArg intV (by assumption)) | (refine congrArg intV ((wr_id (by omega) (by omega)).trans (by omega))) | exact rfl | (simp only [Int.toNat_natCast, Int.toNat_zero, Nat.sub_zero, Nat.zero_add]; first | exact rfl | done) | exact all0 | exact fun h => Bool.noConfusion h | exact fun _ _ _ _ => rfl | omega)
  obtain ⟨s, q⟩ := x
  obtain ⟨x1, x2⟩ := hx
  simp only [] at x1 x2
  have hid : ∀ k, 20 * s ≤ k → q k = k := fun k hk => x2.rea.out k (.inr hk)
  conv => whnf
  repeat' (first
    | (refine NilG.mk fun bn hbn hbx => ?_; conv => whnf)
    | (refine Both.mk ?_ ?_ <;> conv => whnf)
    | ((first | (refine MkG.box 1 rfl rfl rfl (by decide) ?_) | (refine MkG.box 2 rfl rfl rfl (by decide) ?_) | (refine MkG.box 3 rfl rfl rfl (by decide) ?_) | (refine MkG.row ?_)); conv => whnf)
    | exact trivial
    | (refine Br.mk (fun hb => ?_) (fun hb => ?_) <;> (first | (exfalso; revert hb; decide) | ((try simp only [BL] at hb) <;> (try simp only [DL] at hb) <;> conv => whnf)))
    | (refine And.intro ?_ ?_; (focus (first | exact id | exact rfl | exact trivial | (intro hg; first | exact hg | exact rfl | (simp; done) | (simp at hg ⊢; assumption)) | omega | decide | exact is2_c _ _ _ | exact is1_c _ _ | exact isS_c _ _ | exact isB_c _ _ | exact Nat.le_refl _ | assumption | exact mulLe (by decide) (by omega) | exact mulLe2 (by decide) (by omega) (by omega) | (intros; simp only [BL] at *; omega) | (intros; (try simp only [BL] at *); (try simp only [DL] at *); omega) | (intros; simp only [BL] at *; rw [wr_id (by omega) (by omega)]; omega) | (intro h1 h2; exact Bool.and_eq_true_iff.2 ⟨h1, h2⟩) | (intros; simp_all; done))); conv => whnf)
    | (refine Or.inr (And.intro rfl ?_); first | (refine congrArg intV ?_) | (refine congrArg boolV ?_) | (refine tupII ?_ ?_) | (refine tupIII ?_ ?_ ?_) | (refine tupU ?_ ?_ ?_ ?_ ?_) | exact rfl))
  · have hb1 : 20 * s + 20 ≤ n := by omega
    clear hb
    have e8 : IntKind.i64.wrap (((20 * s + 20 : Nat) : Int) + 20) = (20 * (s + 1) + 20 : Nat) := (wr_id (by omega) (by omega)).trans (by omega)
    refine CallG.wr [0] rfl (FnM.mono (insCom hC hn q (20 * s) (20 * s + 20) rfl rfl (by omega) hb1 (fun k k1 _ => hid k k1)) ?_)
    rintro obs r ⟨q1, hr1, ha1, rfl, rfl⟩
    have hb2 := x2.step (b := 20 * s + 20) (by omega) (Nat.le_refl _) hr1 ha1
    conv => whnf
    repeat' (first
      | (refine NilG.mk fun bn hbn hbx => ?_; conv => whnf)
      | (refine Both.mk ?_ ?_ <;> conv => whnf)
      | ((first | (refine MkG.box 1 rfl rfl rfl (by decide) ?_) | (refine MkG.box 2 rfl rfl rfl (by decide) ?_) | (refine MkG.box 3 rfl rfl rfl (by decide) ?_) | (refine MkG.row ?_)); conv => whnf)
      | exact trivial
      | (refine Br.mk (fun hb => ?_) (fun hb => ?_) <;> (first | (exfalso; revert hb; decide) | ((try simp only [BL] at hb) <;> (try simp only [DL] at hb) <;> conv => whnf)))
      | (refine And.intro ?_ ?_; (focus (first | exact id | exact rfl | exact trivial | (intro hg; first | exact hg | exact rfl | (simp; done) | (simp at hg ⊢; assumption)) | omega | decide | exact is2_c _ _ _ | exact is1_c _ _ | exact isS_c _ _ | exact isB_c _ _ | exact Nat.le_refl _ | assumption | exact mulLe (by decide) (by omega) | exact mulLe2 (by decide) (by omega) (by omega) | (intros; simp only [BL] at *; omega) | (intros; (try simp only [BL] at *); (try simp only [DL] at *); omega) | (intros; simp only [BL] at *; rw [wr_id (by omega) (by omega)]; omega) | (intro h1 h2; exact Bool.and_eq_true_iff.2 ⟨h1, h2⟩) | (intros; simp_all; done))); conv => whnf)
      | (refine Or.inr (And.intro rfl ?_); first | (refine congrArg intV ?_) | (refine congrArg boolV ?_) | (refine tupII ?_ ?_) | (refine tupIII ?_ ?_ ?_) | (refine tupU ?_ ?_ ?_ ?_ ?_) | exact rfl))
    · refine ⟨(s + 1, q1), [?_], ⟨by show 20 * (s + 1) ≤ n; omega, by show Blks key 20 q1 (20 * (s + 1)) n; rw [show 20 * (s + 1) = 20 * s + 20 by omega]; exact hb2⟩, by show n - 20 * (s + 1) < n - 20 * s; omega, ?_⟩
      rotate_left 1
      refine Sub.of ?_ ?_ ?_
      repeat' (first | (refine And.intro ?_ ?_) | exact trivial | exact fun _ _ _ => hsc _ _ | (exact congrArg intV (by first | with_reducible rfl | with_reducible assumption)) | exact rfl | exact fun _ _ _ _ => rfl | (exact congrArg intV (by assumption)))
  · have hb1 : n < 20 * s + 20 := by omega
    clear hb
    refine CallG.wr [0] rfl (FnM.mono (insCom hC hn q (20 * s) n rfl rfl x1 (Nat.le_refl _) (fun k k1 _ => hid k k1)) ?_)
    rintro obs r ⟨q1, hr1, ha1, rfl, rfl⟩
    have hb2 := x2.step (b := n) x1 (by omega) hr1 ha1
    conv => whnf
    repeat' (first
      | (refine NilG.mk fun bn hbn hbx => ?_; conv => whnf)
      | (refine Both.mk ?_ ?_ <;> conv => whnf)
      | ((first | (refine MkG.box 1 rfl rfl rfl (by decide) ?_) | (refine MkG.box 2 rfl rfl rfl (by decide) ?_) | (refine MkG.box 3 rfl rfl rfl (by decide) ?_) | (refine MkG.row ?_)); conv => whnf)
      | exact trivial
      | (refine Br.mk (fun hb => ?_) (fun hb => ?_) <;> (first | (exfalso; revert hb; decide) | ((try simp only [BL] at hb) <;> (try simp only [DL] at hb) <;> conv => whnf)))
      | (refine And.intro ?_ ?_; (focus (first | exact id | exact rfl | exact trivial | (intro hg; first | exact hg | exact rfl | (simp; done) | (simp at hg ⊢; assumption)) | omega | decide | exact is2_c _ _ _ | exact is1_c _ _ | exact isS_c _ _ | exact isB_c _ _ | exact Nat.le_refl _ | assumption | exact mulLe (by decide) (by omega) | exact mulLe2 (by decide) (by omega) (by omega) | (intros; simp only [BL] at *; omega) | (intros; (try simp only [BL] at *); (try simp only [DL] at *); omega) | (intros; simp only [BL] at *; rw [wr_id (by omega) (by omega)]; omega) | (intro h1 h2; exact Bool.and_eq_true_iff.2 ⟨h1, h2⟩) | (intros; simp_all; done))); conv => whnf)
      | (refine Or.inr (And.intro rfl ?_); first | (refine congrArg intV ?_) | (refine congrArg boolV ?_) | (refine tupII ?_ ?_) | (refine tupIII ?_ ?_ ?_) | (refine tupU ?_ ?_ ?_ ?_ ?_) | exact rfl))
    refine sem_loop tab_ok gamZ_ok mixed (by kernel_rfl) (O := lex) (fun y : Nat × (Nat → Nat) => ⟨[(0, .own 0), (1, intV n), (2, .fn F []), (6, intV y.1), (1000000, .gh 0)], [rowCom n (colCom g0 g1 g2) y.2]⟩) (fun y => 1 ≤ y.1 ∧ y.1 ≤ 2 * n + 20 ∧ Inv key y.1 y.2 0 n ∧ Rea id y.2 0 n) (fun y => n - y.1) ⟨(20, q1), [?_], ⟨by show 1 ≤ 20; omega, by show 20 ≤ 2 * n + 20; omega, hb2.inv, hb2.rea⟩, ?_⟩ fun y hy => ?_
    rotate_left 1
    · refine Sub.of ?_ ?_ ?_
      repeat' (first | (refine And.intro ?_ ?_) | exact trivial | exact fun _ _ _ => hsc _ _ | (exact congrArg intV (by first | with_reducible rfl | with_reducible assumption)) | exact (rfl : AV.idsLt _ _ = true) | exact (rfl : _ = AV.ren _ (.own _)) | exact (rfl : _ = AV.ren _ (.fn _ _)) | exact (rfl : _ = AV.ren _ (.gh _)) | (exact congrArg intV (by assumption)) | (refine congrArg intV ((wr_id (by omega) (by omega)).trans (by omega))) | exact rfl | (simp only [Int.toNat_natCast, Int.toNat_zero, Nat.sub_zero, Nat.zero_add]; first | exact rfl | done) | exact all0 | exact fun h => Bool.noConfusion h | exact fun _ _ _ _ => rfl | omega)
    obtain ⟨w, u⟩ := y
    obtain ⟨y1, y2, y3, y4⟩ := hy
    simp only [] at y1 y2 y3 y4
    have ew : IntKind.i64.wrap (2 * (w : Int)) = (0 + 2 * w : Nat) := (wr_id (by omega) (by omega)).trans (by omega)
    have ew2 : IntKind.i64.wrap ((w : Int) * 2) = (2 * w : Nat) := (wr_id (by omega) (by omega)).trans (by omega)
    conv => whnf
    repeat' (first
      | (refine NilG.mk fun bn hbn hbx => ?_; conv => whnf)
      | (refine Both.mk ?_ ?_ <;> conv => whnf)
      | ((first | (refine MkG.box 1 rfl rfl rfl (by decide) ?_) | (refine MkG.box 2 rfl rfl rfl (by decide) ?_) | (refine MkG.box 3 rfl rfl rfl (by decide) ?_) | (refine MkG.row ?_)); conv => whnf)
      | exact trivial
      | (refine Br.mk (fun hb => ?_) (fun hb => ?_) <;> (first | (exfalso; revert hb; decide) | ((try simp only [BL] at hb) <;> (try simp only [DL] at hb) <;> conv => whnf)))
      | (refine And.intro ?_ ?_; (focus (first | exact id | exact rfl | exact trivial | (intro hg; first | exact hg | exact rfl | (simp; done) | (simp at hg ⊢; assumption)) | omega | decide | exact is2_c _ _ _ | exact is1_c _ _ | exact isS_c _ _ | exact isB_c _ _ | exact Nat.le_refl _ | assumption | exact mulLe (by decide) (by omega) | exact mulLe2 (by decide) (by omega) (by omega) | (intros; simp only [BL] at *; omega) | (intros; (try simp only [BL] at *); (try simp only [DL] at *); omega) | (intros; simp only [BL] at *; rw [wr_id (by omega) (by omega)]; omega) | (intro h1 h2; exact Bool.and_eq_true_iff.2 ⟨h1, h2⟩) | (intros; simp_all; done))); conv => whnf)
      | (refine Or.inr (And.intro rfl ?_); first | (refine congrArg intV ?_) | (refine congrArg boolV ?_) | (refine tupII ?_ ?_) | (refine tupIII ?_ ?_ ?_) | (refine tupU ?_ ?_ ?_ ?_ ?_) | exact rfl))
    · have hwn : w < n := by omega
      clear hb
      refine sem_loop tab_ok gamZ_ok mixed (by kernel_rfl) (O := lex) (fun z : Nat × (Nat → Nat) => ⟨[(0, .own 0), (1, intV n), (2, .fn F []), (6, intV w), (7, intV z.1), (8, intV (z.1 + 2 * w : Nat)), (1000000, .gh 0)], [rowCom n (colCom g0 g1 g2) z.2]⟩) (fun z => (∃ s, z.1 = 2 * w * s) ∧ z.1 ≤ n ∧ Pass key w z.2 z.1 n ∧ Rea id z.2 0 n) (fun z => n - z.1) ⟨(0, u), [?_], ⟨⟨0, rfl⟩, Nat.zero_le _, Pass.start y3, y4⟩, ?_⟩ fun z hz => ?_
      rotate_left 1
      · refine Sub.of ?_ ?_ ?_
        repeat' (first | (refine And.intro ?_ ?_) | exact trivial | exact fun _ _ _ => hsc _ _ | (exact congrArg intV (by first | with_reducible rfl | with_reducible assumption)) | exact (rfl : AV.idsLt _ _ = true) | exact (rfl : _ = AV.ren _ (.own _)) | exact (rfl : _ = AV.ren _ (.fn _ _)) | exact (rfl : _ = AV.ren _ (.gh _)) | (exact congrArg intV (by assumption)) | (refine congrArg intV ((wr_id (by omega) (by omega)).trans (by omega))) | exact rfl | (simp only [Int.toNat_natCast, Int.toNat_zero, Nat.sub_zero, Nat.zero_add]; first | exact rfl | done) | exact all0 | exact fun h => Bool.noConfusion h | exact fun _ _ _ _ => rfl | omega)
      obtain ⟨a, v⟩ := z
      obtain ⟨⟨t, z1⟩, z2, z3, z4⟩ := hz
      simp only [] at z1 z2 z3 z4
      have hvn := z4.bnd (Nat.le_refl n) (fun k hk => hk)
      have em : IntKind.i64.wrap ((a : Int) + (w : Int)) = (a + w : Nat) := (wr_id (by omega) (by omega)).trans (by omega)
      have eb : IntKind.i64.wrap (((a + 2 * w : Nat) : Int) + IntKind.i64.wrap (2 * (w : Int))) = (a + 2 * w + 2 * w : Nat) := by rw [ew]; exact (wr_id (by omega) (by omega)).trans (by omega)
      conv => whnf
      repeat' (first
        | (refine NilG.mk fun bn hbn hbx => ?_; conv => whnf)
        | (refine Both.mk ?_ ?_ <;> conv => whnf)
        | ((first | (refine MkG.box 1 rfl rfl rfl (by decide) ?_) | (refine MkG.box 2 rfl rfl rfl (by decide) ?_) | (refine MkG.box 3 rfl rfl rfl (by decide) ?_) | (refine MkG.row ?_)); conv => whnf)
        | exact trivial
        | (refine Br.mk (fun hb => ?_) (fun hb => ?_) <;> (first | (exfalso; revert hb; decide) | ((try simp only [BL] at hb) <;> (try simp only [DL] at hb) <;> conv => whnf)))
        | (refine And.intro ?_ ?_; (focus (first | exact id | exact rfl | exact trivial | (intro hg; first | exact hg | exact rfl | (simp; done) | (simp at hg ⊢; assumption)) | omega | decide | exact is2_c _ _ _ | exact is1_c _ _ | exact isS_c _ _ | exact isB_c _ _ | exact Nat.le_refl _ | assumption | exact mulLe (by decide) (by omega) | exact mulLe2 (by decide) (by omega) (by omega) | (intros; simp only [BL] at *; omega) | (intros; (try simp only [BL] at *); (try simp only [DL] at *); omega) | (intros; simp only [BL] at *; rw [wr_id (by omega) (by omega)]; omega) | (intro h1 h2; exact Bool.and_eq_true_iff.2 ⟨h1, h2⟩) | (intros; simp_all; done))); conv => whnf)
        | (refine Or.inr (And.intro rfl ?_); first | (refine congrArg intV ?_) | (refine congrArg boolV ?_) | (refine tupII ?_ ?_) | (refine tupIII ?_ ?_ ?_) | (refine tupU ?_ ?_ ?_ ?_ ?_) | exact rfl))
      · have hb3 : a + 2 * w ≤ n := by omega
        clear hb
        refine CallG.wr [0] rfl (FnM.mono (mrgCom hC hn v a (a + w) (a + 2 * w) rfl em rfl (by omega) (by omega) hb3 hvn (by rw [z1] at z3 ⊢; exact z3.asc1 (by omega)) (by rw [z1] at z3 ⊢; exact z3.asc2 (Nat.le_refl _) (by omega)) (by rw [z1] at z3 ⊢; exact z3.bef (by omega))) ?_)
        rintro obs r ⟨q2, hr2, ha2, rfl, rfl⟩
        have hp2 : Pass key w q2 (a + 2 * w) n := by rw [z1] at z3 hr2 ha2 hb3 ⊢; exact z3.step (.inl rfl) (by omega) hb3 hr2 ha2
        conv => whnf
        repeat' (first
          | (refine NilG.mk fun bn hbn hbx => ?_; conv => whnf)
          | (refine Both.mk ?_ ?_ <;> conv => whnf)
          | ((first | (refine MkG.box 1 rfl rfl rfl (by decide) ?_) | (refine MkG.box 2 rfl rfl rfl (by decide) ?_) | (refine MkG.box 3 rfl rfl rfl (by decide) ?_) | (refine MkG.row ?_)); conv => whnf)
          | exact trivial
          | (refine Br.mk (fun hb => ?_) (fun hb => ?_) <;> (first | (exfalso; revert hb; decide) | ((try simp only [BL] at hb) <;> (try simp only [DL] at hb) <;> conv => whnf)))
          | (refine And.intro ?_ ?_; (focus (first | exact id | exact rfl | exact trivial | (intro hg; first | exact hg | exact rfl | (simp; done) | (simp at hg ⊢; assumption)) | omega | decide | exact is2_c _ _ _ | exact is1_c _ _ | exact isS_c _ _ | exact isB_c _ _ | exact Nat.le_refl _ | assumption | exact mulLe (by decide) (by omega) | exact mulLe2 (by decide) (by omega) (by omega) | (intros; simp only [BL] at *; omega) | (intros; (try simp only [BL] at *); (try simp only [DL] at *); omega) | (intros; simp only [BL] at *; rw [wr_id (by omega) (by omega)]; omega) | (intro h1 h2; exact Bool.and_eq_true_iff.2 ⟨h1, h2⟩) | (intros; simp_all; done))); conv => whnf)
          | (refine Or.inr (And.intro rfl ?_); first | (refine congrArg intV ?_) | (refine congrArg boolV ?_) | (refine tupII ?_ ?_) | (refine tupIII ?_ ?_ ?_) | (refine tupU ?_ ?_ ?_ ?_ ?_) | exact rfl))
        · refine ⟨(a + 2 * w, q2), [?_], ⟨⟨t + 1, by show a + 2 * w = 2 * w * (t + 1); rw [Nat.mul_succ, z1]⟩, hb3, hp2, z4.trans (hr2.wide (Nat.zero_le _) hb3)⟩, by show n - (a + 2 * w) < n - a; omega, ?_⟩
          rotate_left 1
          refine Sub.of ?_ ?_ ?_
          repeat' (first | (refine And.intro ?_ ?_) | exact trivial | exact fun _ _ _ => hsc _ _ | (exact congrArg intV (by first | with_reducible rfl | with_reducible assumption)) | exact rfl | exact fun _ _ _ _ => rfl | (exact congrArg intV (by assumption)))
      · have hm : a + w < n := by omega
        have h9 : n ≤ a + 2 * w := by omega
        have k1 : Asc key v a (a + w) := by rw [z1] at z3 hm ⊢; exact z3.asc1 (by omega)
        have k2 : Asc key v (a + w) n := by rw [z1] at z3 h9 ⊢; exact z3.asc2 h9 (Nat.le_refl _)
        have k3 : Bef v a (a + w) n := by rw [z1] at z3 ⊢; exact z3.bef (Nat.le_refl _)
        refine CallG.wr [0] rfl (FnM.mono (mrgCom hC hn v a (a + w) n rfl em rfl (by omega) hm (Nat.le_refl _) hvn k1 k2 k3) ?_)
        rintro obs r ⟨q2, hr2, ha2, rfl, rfl⟩
        have hp2 : Pass key w q2 n n := by
          rw [z1] at z3 hr2 ha2 h9 z2
          exact z3.step (.inr ⟨rfl, h9⟩) z2 (Nat.le_refl _) hr2 ha2
        conv => whnf
        repeat' (first
          | (refine NilG.mk fun bn hbn hbx => ?_; conv => whnf)
          | (refine Both.mk ?_ ?_ <;> conv => whnf)
          | ((first | (refine MkG.box 1 rfl rfl rfl (by decide) ?_) | (refine MkG.box 2 rfl rfl rfl (by decide) ?_) | (refine MkG.box 3 rfl rfl rfl (by decide) ?_) | (refine MkG.row ?_)); conv => whnf)
          | exact trivial
          | (refine Br.mk (fun hb => ?_) (fun hb => ?_) <;> (first | (exfalso; revert hb; decide) | ((try simp only [BL] at hb) <;> (try simp only [DL] at hb) <;> conv => whnf)))
          | (refine And.intro ?_ ?_; (focus (first | exact id | exact rfl | exact trivial | (intro hg; first | exact hg | exact rfl | (simp; done) | (simp at hg ⊢; assumption)) | omega | decide | exact is2_c _ _ _ | exact is1_c _ _ | exact isS_c _ _ | exact isB_c _ _ | exact Nat.le_refl _ | assumption | exact mulLe (by decide) (by omega) | exact mulLe2 (by decide) (by omega) (by omega) | (intros; simp only [BL] at *; omega) | (intros; (try simp only [BL] at *); (try simp only [DL] at *); omega) | (intros; simp only [BL] at *; rw [wr_id (by omega) (by omega)]; omega) | (intro h1 h2; exact Bool.and_eq_true_iff.2 ⟨h1, h2⟩) | (intros; simp_all; done))); conv => whnf)
          | (refine Or.inr (And.intro rfl ?_); first | (refine congrArg intV ?_) | (refine congrArg boolV ?_) | (refine tupII ?_ ?_) | (refine tupIII ?_ ?_ ?_) | (refine tupU ?_ ?_ ?_ ?_ ?_) | exact rfl))
        · refine ⟨(2 * w, q2), [?_], ⟨by show 1 ≤ 2 * w; omega, by show 2 * w ≤ 2 * n + 20; omega, hp2.done, z4.trans (hr2.wide (Nat.zero_le _) (Nat.le_refl _))⟩, by show n - 2 * w < n - w; omega, ?_⟩
          rotate_left 1
          refine Sub.of ?_ ?_ ?_
          repeat' (first | (refine And.intro ?_ ?_) | exact trivial | exact fun _ _ _ => hsc _ _ | (exact congrArg intV (by first | with_reducible rfl | with_reducible assumption)) | exact rfl | exact fun _ _ _ _ => rfl | (exact congrArg intV (by assumption)))
      · have hm : n ≤ a + w := by omega
        have hi2 : Inv key (2 * w) v 0 n := by rw [z1] at z3 hm z2; exact z3.rest z2 hm
        refine ⟨(2 * w, v), [?_], ⟨by show 1 ≤ 2 * w; omega, by show 2 * w ≤ 2 * n + 20; omega, hi2, z4⟩, by show n - 2 * w < n - w; omega, ?_⟩
        rotate_left 1
        refine Sub.of ?_ ?_ ?_
        repeat' (first | (refine And.intro ?_ ?_) | exact trivial | exact fun _ _ _ => hsc _ _ | (exact congrArg intV (by first | with_reducible rfl | with_reducible assumption)) | exact rfl | exact fun _ _ _ _ => rfl | (exact congrArg intV (by assumption)))
    · refine ⟨[0], [rowCom n (colCom g0 g1 g2) u], .tup [], rfl, ?_, rfl, rfl, ?_, Nat.le_refl _, ⟨u, ⟨y3.all (by omega), y4⟩, rfl, rfl⟩⟩
      all_goals repeat' (first | (refine And.intro ?_ ?_) | exact trivial | exact rfl | exact fun _ _ _ => hsc _ _ | exact fun _ _ _ _ => rfl)

theorem sortCom (hC : CmpCom F  (colCom g0 g1 g2) key n) (hn : n ≤ 1000000) : FnM Try.prog 91 [rowCom n (colCom g0 g1 g2) id] [.own 0, .fn F []] (soKCom n (colCom g0 g1 g2) key) := by
  refine fnM_of_wpx (O := lex) tab_ok gamZ_ok mixed Try.func91 (by kernel_rfl) rfl rfl rfl (by simp [Try.ntmps91]) (by kernel_rfl) ?_
  have hsc := scCom g0 g1 g2
  conv => whnf
  repeat' (first
    | (refine NilG.mk fun bn hbn hbx => ?_; conv => whnf)
    | (refine Both.mk ?_ ?_ <;> conv => whnf)
    | ((first | (refine MkG.box 1 rfl rfl rfl (by decide) ?_) | (refine MkG.box 2 rfl rfl rfl (by decide) ?_) | (refine MkG.box 3 rfl rfl rfl (by decide) ?_) | (refine MkG.row ?_)); conv => whnf)
    | exact trivial
    | (refine Br.mk (fun hb => ?_) (fun hb => ?_) <;> (first | (exfalso; revert hb; decide) | ((try simp only [BL] at hb) <;> (try simp only [DL] at hb) <;> conv => whnf)))
    | (refine And.intro ?_ ?_; (focus (first | exact id | exact rfl | exact trivial | (intro hg; first | exact hg | exact rfl | (simp; done) | (simp at hg ⊢; assumption)) | omega | decide | exact is2_c _ _ _ | exact is1_c _ _ | exact isS_c _ _ | exact isB_c _ _ | exact Nat.le_refl _ | assumption | exact mulLe (by decide) (by omega) | exact mulLe2 (by decide) (by omega) (by omega) | (intros; simp only [BL] at *; omega) | (intros; (try simp only [BL] at *); (try simp only [DL] at *); omega) | (intros; simp only [BL] at *; rw [wr_id (by omega) (by omega)]; omega) | (intro h1 h2; exact Bool.and_eq_true_iff.2 ⟨h1, h2⟩) | (intros; simp_all; done))); conv => whnf)
    | (refine Or.inr (And.intro rfl ?_); first | (refine congrArg intV ?_) | (refine congrArg boolV ?_) | (refine tupII ?_ ?_) | (refine tupIII ?_ ?_ ?_) | (refine tupU ?_ ?_ ?_ ?_ ?_) | exact rfl))
  refine CallG.wr [0] rfl (FnM.mono (stbCom hC hn) ?_)
  rintro obs r ⟨q, hq, rfl, rfl⟩
  conv => whnf
  repeat' (first
    | (refine NilG.mk fun bn hbn hbx => ?_; conv => whnf)
    | (refine Both.mk ?_ ?_ <;> conv => whnf)
    | ((first | (refine MkG.box 1 rfl rfl rfl (by decide) ?_) | (refine MkG.box 2 rfl rfl rfl (by decide) ?_) | (refine MkG.box 3 rfl rfl rfl (by decide) ?_) | (refine MkG.row ?_)); conv => whnf)
    | exact trivial
    | (refine Br.mk (fun hb => ?_) (fun hb => ?_) <;> (first | (exfalso; revert hb; decide) | ((try simp only [BL] at hb) <;> (try simp only [DL] at hb) <;> conv => whnf)))
    | (refine And.intro ?_ ?_; (focus (first | exact id | exact rfl | exact trivial | (intro hg; first | exact hg | exact rfl | (simp; done) | (simp at hg ⊢; assumption)) | omega | decide | exact is2_c _ _ _ | exact is1_c _ _ | exact isS_c _ _ | exact isB_c _ _ | exact Nat.le_refl _ | assumption | exact mulLe (by decide) (by omega) | exact mulLe2 (by decide) (by omega) (by omega) | (intros; simp only [BL] at *; omega) | (intros; (try simp only [BL] at *); (try simp only [DL] at *); omega) | (intros; simp only [BL] at *; rw [wr_id (by omega) (by omega)]; omega) | (intro h1 h2; exact Bool.and_eq_true_iff.2 ⟨h1, h2⟩) | (intros; simp_all; done))); conv => whnf)
    | (refine Or.inr (And.intro rfl ?_); first | (refine congrArg intV ?_) | (refine congrArg boolV ?_) | (refine tupII ?_ ?_) | (refine tupIII ?_ ?_ ?_) | (refine tupU ?_ ?_ ?_ ?_ ?_) | exact rfl))
  refine ⟨[0], [rowCom n (colCom g0 g1 g2) q], .tup [], rfl, ?_, rfl, rfl, ?_, Nat.le_refl _, ⟨q, hq, rfl, rfl⟩⟩
  all_goals repeat' (first | (refine And.intro ?_ ?_) | exact trivial | exact rfl | exact fun _ _ _ => hsc _ _ | exact fun _ _ _ _ => rfl)
end
end Go.Proofs.Ytemfikdogdadnaa
