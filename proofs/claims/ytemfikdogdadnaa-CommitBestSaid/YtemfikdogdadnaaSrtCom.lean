/-
  Stable sorting of lists of gridhall/commit.block: the walks.
-/
import Derived.Test.YtemfikdogdadnaaSrtP
namespace Go.Proofs.Ytemfikdogdadnaa
open Go.RowKit

/-- the elements, column by column -/
def colCom (g0 : Nat → Int) (g1 : Nat → Int) (g2 : Nat → Int) : Nat → Nat → L := fun k j => match j with | 0 => iL (g0 k) | 1 => iL (g1 k) | _ => iL (g2 k)
theorem scCom (g0 : Nat → Int) (g1 : Nat → Int) (g2 : Nat → Int) (k j : Nat) : ((colCom g0 g1 g2) k j).scal = true := by
  unfold colCom
  split <;> rfl
abbrev rowCom (n : Nat) (F0 : Nat → Nat → L) (p : Nat → Nat) : OB := .row 169 3 n true fun i j => F0 (p i) j
abbrev elCom (F0 : Nat → Nat → L) (i : Nat) : AV := .agg [.c (F0 i 0), .c (F0 i 1), .c (F0 i 2)]
/-- F compares elements by their keys -/
structure CmpCom (F : FuncId)  (F0 : Nat → Nat → L) (key : Nat → Int) (n : Nat) : Prop where
  run : ∀ i j, i < n → j < n → ∃ v : Int, Fn1 Try.prog F (elCom F0 i :: elCom F0 j :: []) (intV v) ∧ (v < 0 ↔ key i < key j)

theorem cellCom {f : Nat → L} {X : L} {c : Nat} (h : c < 3) : (if 0 ≤ c ∧ c < 0 + [f 0, f 1, f 2].length then ([f 0, f 1, f 2][c - 0]?).getD .un else X) = f c := by
  match c, h with
  | 0, _ => rfl
  | 1, _ => rfl
  | 2, _ => rfl
/-- two elements changed with each other -/
theorem twoCom {F0 : Nat → Nat → L} {g h : Nat → Nat} {u v k c : Nat} {X Y : L} {A B : Nat → L} (hc : c < 3) (hA : A = F0 (g u)) (hB : B = F0 (g v)) (h1 : g u = h v) (h2 : g v = h u) (h3 : ∀ k, k ≠ u → k ≠ v → g k = h k) :
    (if k = v then (if 0 ≤ c ∧ c < 0 + [A 0, A 1, A 2].length then ([A 0, A 1, A 2][c - 0]?).getD .un else X) else if k = u then (if 0 ≤ c ∧ c < 0 + [B 0, B 1, B 2].length then ([B 0, B 1, B 2][c - 0]?).getD .un else Y) else F0 (g k) c) = F0 (h k) c := by
  by_cases e1 : k = v
  · rw [if_pos e1, cellCom hc, hA, h1, e1]
  · by_cases e2 : k = u
    · rw [if_neg e1, if_pos e2, cellCom hc, hB, h2, e2]
    · rw [if_neg e1, if_neg e2, h3 k e2 e1]

section
variable {F : FuncId}  {g0 : Nat → Int} {g1 : Nat → Int} {g2 : Nat → Int} {key : Nat → Int} {n : Nat}

theorem swRCom0 (hn : n ≤ 1000000) (p : Nat → Nat) (a b m : Nat) (h1 : a + m ≤ b) (h2 : b + m ≤ n) : FnM Try.prog 119 [rowCom n (colCom g0 g1 g2) p] [.own 0, intV a, intV b, intV m, .fn F []] (fun obs r => obs = [rowCom n (colCom g0 g1 g2) fun k => p (swI a b m k)] ∧ r = .tup []) := by
  refine fnM_of_wpx (O := lex) tab_ok gamZ_ok mixed Try.func119 (by kernel_rfl) rfl rfl rfl (by simp [Try.ntmps119]) (by kernel_rfl) ?_
  have hsc := scCom g0 g1 g2
  conv => whnf
  repeat' (first
    | (refine NilG.mk fun bn hbn hbx => ?_; conv => whnf)
    | (refine Both.mk ?_ ?_ <;> conv => whnf)
    | ((first | (refine MkG.box 1 rfl rfl rfl (by decide) ?_) | (refine MkG.box 2 rfl rfl rfl (by decide) ?_) | (refine MkG.box 3 rfl rfl rfl (by decide) ?_) | (refine MkG.row ?_)); conv => whnf)
    | exact trivial
    | (refine Br.mk (fun hb => ?_) (fun hb => ?_) <;> (first | (exfalso; revert hb; decide) | ((try simp only [BL] at hb) <;> (try simp only [DL] at hb) <;> conv => whnf)))
    | (refine And.intro ?_ ?_; (focus (first | exact id | exact rfl | exact trivial | (intro hg; first | exact hg | exact rfl | (simp; done) | (simp at hg ⊢; assumption)) | omega | decide | exact is2_c _ _ _ | exact is1_c _ _ | exact isS_c _ _ | exact isB_c _ _ | exact Nat.le_refl _ | assumption | exact mulLe (by decide) (by omega) | exact mulLe2 (by decide) (by omega) (by omega) | (intros; simp only [BL] at *; omega) | (intros; (try simp only [BL] at *); (try simp only [DL] at *); omega) | (intros; simp only [BL] at *; rw [wr_id (by omega) (by omega)]; omega) | (intro h1 h2; exact Bool.and_eq_true_iff.2 ⟨h1, h2⟩) | (intros; simp_all; done))); conv => whnf)
    | (refine Or.inr (And.intro rfl ?_); first | (refine congrArg intV ?_) | (refine congrArg boolV ?_) | (refine tupII ?_ ?_) | (refine tupIII ?_ ?_ ?_) | (refine tupU ?_ ?_ ?_ ?_ ?_) | exact rfl))
  refine sem_loop tab_ok gamZ_ok mixed (by kernel_rfl) (O := lex) (fun i : Nat => ⟨[(0, .own 0), (1, intV a), (2, intV b), (3, intV m), (10, intV i), (1000000, .gh 0)], [rowCom n (colCom g0 g1 g2) fun k => p (swI a b i k)]⟩) (fun i => i ≤ m) (fun i => m - i) ⟨0, [?_], Nat.zero_le _, ?_⟩ fun i hi => ?_
  rotate_left 1
  · refine Sub.of ?_ ?_ ?_
    repeat' (first | (refine And.intro ?_ ?_) | exact trivial | exact fun _ _ _ => hsc _ _ | (exact congrArg intV (by first | with_reducible rfl | with_reducible assumption)) | exact (rfl : AV.idsLt _ _ = true) | exact (rfl : _ = AV.ren _ (.own _)) | exact (rfl : _ = AV.ren _ (.fn _ _)) | exact (rfl : _ = AV.ren _ (.gh _)) | (exact congrArg intV (by assumption)) | (refine congrArg intV ((wr_id (by omega) (by omega)).trans (by omega))) | exact rfl | (simp only [Int.toNat_natCast, Int.toNat_zero, Nat.sub_zero, Nat.zero_add]; first | exact rfl | done) | exact all0 | exact fun h => Bool.noConfusion h | exact fun _ _ _ _ => rfl | omega)
    · intro k _ c _
      have e0 : swI a b 0 k = k := by unfold swI; (repeat' split) <;> omega
      show (colCom g0 g1 g2) (p k) c = (colCom g0 g1 g2) (p (swI a b 0 k)) c
      rw [e0]
  have ea : IntKind.i64.wrap ((a : Int) + (i : Int)) = (a + i : Nat) := (wr_id (by omega) (by omega)).trans (by omega)
  have eb : IntKind.i64.wrap ((b : Int) + (i : Int)) = (b + i : Nat) := (wr_id (by omega) (by omega)).trans (by omega)
  have ta : (IntKind.i64.wrap ((a : Int) + (i : Int))).toNat = a + i := by rw [ea]; omega
  have tb : (IntKind.i64.wrap ((b : Int) + (i : Int))).toNat = b + i := by rw [eb]; omega
  conv => whnf
  repeat' (first
    | (refine NilG.mk fun bn hbn hbx => ?_; conv => whnf)
    | (refine Both.mk ?_ ?_ <;> conv => whnf)
    | ((first | (refine MkG.box 1 rfl rfl rfl (by decide) ?_) | (refine MkG.box 2 rfl rfl rfl (by decide) ?_) | (refine MkG.box 3 rfl rfl rfl (by decide) ?_) | (refine MkG.row ?_)); conv => whnf)
    | exact trivial
    | (refine Br.mk (fun hb => ?_) (fun hb => ?_) <;> (first | (exfalso; revert hb; decide) | ((try simp only [BL] at hb) <;> (try simp only [DL] at hb) <;> conv => whnf)))
    | (refine And.intro ?_ ?_; (focus (first | exact id | exact rfl | exact trivial | (intro hg; first | exact hg | exact rfl | (simp; done) | (simp at hg ⊢; assumption)) | omega | decide | exact is2_c _ _ _ | exact is1_c _ _ | exact isS_c _ _ | exact isB_c _ _ | exact Nat.le_refl _ | assumption | exact mulLe (by decide) (by omega) | exact mulLe2 (by decide) (by omega) (by omega) | (intros; simp only [BL] at *; omega) | (intros; (try simp only [BL] at *); (try simp only [DL] at *); omega) | (intros; simp only [BL] at *; rw [wr_id (by omega) (by omega)]; omega) | (intro h1 h2; exact Bool.and_eq_true_iff.2 ⟨h1, h2⟩) | (rw [ea]; omega) | (rw [eb]; omega) | (refine ⟨rfl, ?_, by decide⟩; first | (rw [ta]; omega) | (rw [tb]; omega)) | (intros; simp_all; done))); conv => whnf)
    | (refine Or.inr (And.intro rfl ?_); first | (refine congrArg intV ?_) | (refine congrArg boolV ?_) | (refine tupII ?_ ?_) | (refine tupIII ?_ ?_ ?_) | (refine tupU ?_ ?_ ?_ ?_ ?_) | exact rfl))
  · refine ⟨i + 1, [?_], by omega, by omega, ?_⟩
    rotate_left 1
    refine Sub.of ?_ ?_ ?_
    repeat' (first | (refine And.intro ?_ ?_) | exact trivial | exact fun _ _ _ => hsc _ _ | (exact congrArg intV (by first | with_reducible rfl | with_reducible assumption)) | exact (rfl : AV.idsLt _ _ = true) | exact (rfl : _ = AV.ren _ (.own _)) | exact (rfl : _ = AV.ren _ (.fn _ _)) | exact (rfl : _ = AV.ren _ (.gh _)) | (exact congrArg intV (by assumption)) | (refine congrArg intV ((wr_id (by omega) (by omega)).trans (by omega))) | exact rfl | (simp only [Int.toNat_natCast, Int.toNat_zero, Nat.sub_zero, Nat.zero_add]; first | exact rfl | done) | exact all0 | exact fun h => Bool.noConfusion h | exact fun _ _ _ _ => rfl | omega)
    · intro k hk c hc
      exact twoCom (F0 := fun x y => (colCom g0 g1 g2) (p x) y) (g := swI a b i) (h := swI a b (i + 1)) (u := (IntKind.i64.wrap ((a : Int) + (i : Int))).toNat) (v := (IntKind.i64.wrap ((b : Int) + (i : Int))).toNat) hc rfl rfl (by rw [ta, tb]; unfold swI; (repeat' split) <;> omega) (by rw [ta, tb]; unfold swI; (repeat' split) <;> omega) (fun k h1 h2 => by rw [ta] at h1; rw [tb] at h2; unfold swI; (repeat' split) <;> omega)
  · have hin : i = m := by omega
    rw [hin]
    refine ⟨[0], [rowCom n (colCom g0 g1 g2) fun k => p (swI a b m k)], .tup [], rfl, ?_, rfl, rfl, ?_, Nat.le_refl _, rfl, rfl⟩
    all_goals repeat' (first | (refine And.intro ?_ ?_) | exact trivial | exact rfl | exact fun _ _ _ => hsc _ _ | exact fun _ _ _ _ => rfl)
theorem swRCom (hn : n ≤ 1000000) (p : Nat → Nat) (a b m : Nat) {A B M : Int} (eA : A = a) (eB : B = b) (eM : M = m) (h1 : a + m ≤ b) (h2 : b + m ≤ n) : FnM Try.prog 119 [rowCom n (colCom g0 g1 g2) p] [.own 0, intV A, intV B, intV M, .fn F []] (fun obs r => obs = [rowCom n (colCom g0 g1 g2) fun k => p (swI a b m k)] ∧ r = .tup []) := by
  subst eA eB eM
  exact swRCom0 hn p a b m h1 h2

theorem rotCom0 (hn : n ≤ 1000000) (p : Nat → Nat) (a m b : Nat) (h1 : a < m) (h2 : m < b) (h3 : b ≤ n) : FnM Try.prog 118 [rowCom n (colCom g0 g1 g2) p] [.own 0, intV a, intV m, intV b, .fn F []] (fun obs r => obs = [rowCom n (colCom g0 g1 g2) fun k => p (roI a m b k)] ∧ r = .tup []) := by
  refine fnM_of_wpx (O := lex) tab_ok gamZ_ok mixed Try.func118 (by kernel_rfl) rfl rfl rfl (by simp [Try.ntmps118]) (by kernel_rfl) ?_
  have hsc := scCom g0 g1 g2
  have e10 : IntKind.i64.wrap ((m : Int) - (a : Int)) = (m - a : Nat) := (wr_id (by omega) (by omega)).trans (by omega)
  have e11 : IntKind.i64.wrap ((b : Int) - (m : Int)) = (b - m : Nat) := (wr_id (by omega) (by omega)).trans (by omega)
  conv => whnf
  repeat' (first
    | (refine NilG.mk fun bn hbn hbx => ?_; conv => whnf)
    | (refine Both.mk ?_ ?_ <;> conv => whnf)
    | ((first | (refine MkG.box 1 rfl rfl rfl (by decide) ?_) | (refine MkG.box 2 rfl rfl rfl (by decide) ?_) | (refine MkG.box 3 rfl rfl rfl (by decide) ?_) | (refine MkG.row ?_)); conv => whnf)
    | exact trivial
    | (refine Br.mk (fun hb => ?_) (fun hb => ?_) <;> (first | (exfalso; revert hb; decide) | ((try simp only [BL] at hb) <;> (try simp only [DL] at hb) <;> conv => whnf)))
    | (refine And.intro ?_ ?_; (focus (first | exact id | exact rfl | exact trivial | (intro hg; first | exact hg | exact rfl | (simp; done) | (simp at hg ⊢; assumption)) | omega | decide | exact is2_c _ _ _ | exact is1_c _ _ | exact isS_c _ _ | exact isB_c _ _ | exact Nat.le_refl _ | assumption | exact mulLe (by decide) (by omega) | exact mulLe2 (by decide) (by omega) (by omega) | (intros; simp only [BL] at *; omega) | (intros; (try simp only [BL] at *); (try simp only [DL] at *); omega) | (intros; simp only [BL] at *; rw [wr_id (by omega) (by omega)]; omega) | (intro h1 h2; exact Bool.and_eq_true_iff.2 ⟨h1, h2⟩) | (intros; simp_all; done))); conv => whnf)
    | (refine Or.inr (And.intro rfl ?_); first | (refine congrArg intV ?_) | (refine congrArg boolV ?_) | (refine tupII ?_ ?_) | (refine tupIII ?_ ?_ ?_) | (refine tupU ?_ ?_ ?_ ?_ ?_) | exact rfl))
  refine sem_loop tab_ok gamZ_ok mixed (by kernel_rfl) (O := lex) (fun x : Nat × Nat × (Nat → Nat) => ⟨[(0, .own 0), (2, intV m), (4, .fn F []), (10, intV x.1), (11, intV x.2.1), (1000000, .gh 0)], [rowCom n (colCom g0 g1 g2) x.2.2]⟩) (fun x => 1 ≤ x.1 ∧ 1 ≤ x.2.1 ∧ x.1 ≤ m ∧ m + x.2.1 ≤ n ∧ ∀ k, x.2.2 (roI (m - x.1) m (m + x.2.1) k) = p (roI a m b k)) (fun x => x.1 + x.2.1) ⟨(m - a, b - m, p), [?_], ⟨by show 1 ≤ m - a; omega, by show 1 ≤ b - m; omega, by show m - a ≤ m; omega, by show m + (b - m) ≤ n; omega, fun k => by show p (roI (m - (m - a)) m (m + (b - m)) k) = _; rw [show m - (m - a) = a by omega, show m + (b - m) = b by omega]⟩, ?_⟩ fun x hx => ?_
  rotate_left 1
  · refine Sub.of ?_ ?_ ?_
    repeat' (first | (refine And.intro ?_ ?_) | exact trivial | exact fun _ _ _ => hsc _ _ | (exact congrArg intV (by first | with_reducible rfl | with_reducible assumption)) | exact (rfl : AV.idsLt _ _ = true) | exact (rfl : _ = AV.ren _ (.own _)) | exact (rfl : _ = AV.ren _ (.fn _ _)) | exact (rfl : _ = AV.ren _ (.gh _)) | (exact congrArg intV (by assumption)) | (refine congrArg intV ((wr_id (by omega) (by omega)).trans (by omega))) | exact rfl | (simp only [Int.toNat_natCast, Int.toNat_zero, Nat.sub_zero, Nat.zero_add]; first | exact rfl | done) | exact all0 | exact fun h => Bool.noConfusion h | exact fun _ _ _ _ => rfl | omega)
  obtain ⟨i, j, q⟩ := x
  obtain ⟨x1, x2, x3, x4, x5⟩ := hx
  simp only [] at x1 x2 x3 x4 x5
  have f1 : IntKind.i64.wrap ((m : Int) - (i : Int)) = (m - i : Nat) := (wr_id (by omega) (by omega)).trans (by omega)
  have f2 : IntKind.i64.wrap ((m : Int) + (j : Int)) = (m + j : Nat) := (wr_id (by omega) (by omega)).trans (by omega)
  conv => whnf
  repeat' (first
    | (refine NilG.mk fun bn hbn hbx => ?_; conv => whnf)
    | (refine Both.mk ?_ ?_ <;> conv => whnf)
    | ((first | (refine MkG.box 1 rfl rfl rfl (by decide) ?_) | (refine MkG.box 2 rfl rfl rfl (by decide) ?_) | (refine MkG.box 3 rfl rfl rfl (by decide) ?_) | (refine MkG.row ?_)); conv => whnf)
    | exact trivial
    | (refine Br.mk (fun hb => ?_) (fun hb => ?_) <;> (first | (exfalso; revert hb; decide) | ((try simp only [BL] at hb) <;> (try simp only [DL] at hb) <;> conv => whnf)))
    | (refine And.intro ?_ ?_; (focus (first | exact id | exact rfl | exact trivial | (intro hg; first | exact hg | exact rfl | (simp; done) | (simp at hg ⊢; assumption)) | omega | decide | exact is2_c _ _ _ | exact is1_c _ _ | exact isS_c _ _ | exact isB_c _ _ | exact Nat.le_refl _ | assumption | exact mulLe (by decide) (by omega) | exact mulLe2 (by decide) (by omega) (by omega) | (intros; simp only [BL] at *; omega) | (intros; (try simp only [BL] at *); (try simp only [DL] at *); omega) | (intros; simp only [BL] at *; rw [wr_id (by omega) (by omega)]; omega) | (intro h1 h2; exact Bool.and_eq_true_iff.2 ⟨h1, h2⟩) | (intros; simp_all; done))); conv => whnf)
    | (refine Or.inr (And.intro rfl ?_); first | (refine congrArg intV ?_) | (refine congrArg boolV ?_) | (refine tupII ?_ ?_) | (refine tupIII ?_ ?_ ?_) | (refine tupU ?_ ?_ ?_ ?_ ?_) | exact rfl))
  · have hlt : j < i := by omega
    have f3 : IntKind.i64.wrap ((i : Int) - (j : Int)) = (i - j : Nat) := (wr_id (by omega) (by omega)).trans (by omega)
    refine CallG.wr [0] rfl (FnM.mono (swRCom hn q (m - i) m j f1 rfl rfl (by omega) (by omega)) ?_)
    rintro obs r ⟨rfl, rfl⟩
    conv => whnf
    repeat' (first
      | (refine NilG.mk fun bn hbn hbx => ?_; conv => whnf)
      | (refine Both.mk ?_ ?_ <;> conv => whnf)
      | ((first | (refine MkG.box 1 rfl rfl rfl (by decide) ?_) | (refine MkG.box 2 rfl rfl rfl (by decide) ?_) | (refine MkG.box 3 rfl rfl rfl (by decide) ?_) | (refine MkG.row ?_)); conv => whnf)
      | exact trivial
      | (refine Br.mk (fun hb => ?_) (fun hb => ?_) <;> (first | (exfalso; revert hb; decide) | ((try simp only [BL] at hb) <;> (try simp only [DL] at hb) <;> conv => whnf)))
      | (refine And.intro ?_ ?_; (focus (first | exact id | exact rfl | exact trivial | (intro hg; first | exact hg | exact rfl | (simp; done) | (simp at hg ⊢; assumption)) | omega | decide | exact is2_c _ _ _ | exact is1_c _ _ | exact isS_c _ _ | exact isB_c _ _ | exact Nat.le_refl _ | assumption | exact mulLe (by decide) (by omega) | exact mulLe2 (by decide) (by omega) (by omega) | (intros; simp only [BL] at *; omega) | (intros; (try simp only [BL] at *); (try simp only [DL] at *); omega) | (intros; simp only [BL] at *; rw [wr_id (by omega) (by omega)]; omega) | (intro h1 h2; exact Bool.and_eq_true_iff.2 ⟨h1, h2⟩) | (intros; simp_all; done))); conv => whnf)
      | (refine Or.inr (And.intro rfl ?_); first | (refine congrArg intV ?_) | (refine congrArg boolV ?_) | (refine tupII ?_ ?_) | (refine tupIII ?_ ?_ ?_) | (refine tupU ?_ ?_ ?_ ?_ ?_) | exact rfl))
    · refine ⟨(i - j, j, fun k => q (swI (m - i) m j k)), [?_], ⟨by show 1 ≤ i - j; omega, x2, by show i - j ≤ m; omega, x4, fun k => by show q (swI (m - i) m j (roI (m - (i - j)) m (m + j) k)) = _; rw [roI_gt x3 hlt, x5]⟩, by show i - j + j < i + j; omega, ?_⟩
      rotate_left 1
      refine Sub.of ?_ ?_ ?_
      repeat' (first | (refine And.intro ?_ ?_) | exact trivial | exact fun _ _ _ => hsc _ _ | (exact congrArg intV (by first | with_reducible rfl | with_reducible assumption)) | exact (rfl : AV.idsLt _ _ = true) | exact (rfl : _ = AV.ren _ (.own _)) | exact (rfl : _ = AV.ren _ (.fn _ _)) | exact (rfl : _ = AV.ren _ (.gh _)) | (exact congrArg intV (by assumption)) | (refine congrArg intV ((wr_id (by omega) (by omega)).trans (by omega))) | exact rfl | (simp only [Int.toNat_natCast, Int.toNat_zero, Nat.sub_zero, Nat.zero_add]; first | exact rfl | done) | exact all0 | exact fun h => Bool.noConfusion h | exact fun _ _ _ _ => rfl | omega)
  · have hlt : i < j := by omega
    have f3 : IntKind.i64.wrap ((j : Int) - (i : Int)) = (j - i : Nat) := (wr_id (by omega) (by omega)).trans (by omega)
    have f4 : IntKind.i64.wrap (IntKind.i64.wrap ((m : Int) + (j : Int)) - (i : Int)) = (m + j - i : Nat) := by rw [f2]; exact (wr_id (by omega) (by omega)).trans (by omega)
    refine CallG.wr [0] rfl (FnM.mono (swRCom hn q (m - i) (m + j - i) i f1 f4 rfl (by omega) (by omega)) ?_)
    rintro obs r ⟨rfl, rfl⟩
    conv => whnf
    repeat' (first
      | (refine NilG.mk fun bn hbn hbx => ?_; conv => whnf)
      | (refine Both.mk ?_ ?_ <;> conv => whnf)
      | ((first | (refine MkG.box 1 rfl rfl rfl (by decide) ?_) | (refine MkG.box 2 rfl rfl rfl (by decide) ?_) | (refine MkG.box 3 rfl rfl rfl (by decide) ?_) | (refine MkG.row ?_)); conv => whnf)
      | exact trivial
      | (refine Br.mk (fun hb => ?_) (fun hb => ?_) <;> (first | (exfalso; revert hb; decide) | ((try simp only [BL] at hb) <;> (try simp only [DL] at hb) <;> conv => whnf)))
      | (refine And.intro ?_ ?_; (focus (first | exact id | exact rfl | exact trivial | (intro hg; first | exact hg | exact rfl | (simp; done) | (simp at hg ⊢; assumption)) | omega | decide | exact is2_c _ _ _ | exact is1_c _ _ | exact isS_c _ _ | exact isB_c _ _ | exact Nat.le_refl _ | assumption | exact mulLe (by decide) (by omega) | exact mulLe2 (by decide) (by omega) (by omega) | (intros; simp only [BL] at *; omega) | (intros; (try simp only [BL] at *); (try simp only [DL] at *); omega) | (intros; simp only [BL] at *; rw [wr_id (by omega) (by omega)]; omega) | (intro h1 h2; exact Bool.and_eq_true_iff.2 ⟨h1, h2⟩) | (intros; simp_all; done))); conv => whnf)
      | (refine Or.inr (And.intro rfl ?_); first | (refine congrArg intV ?_) | (refine congrArg boolV ?_) | (refine tupII ?_ ?_) | (refine tupIII ?_ ?_ ?_) | (refine tupU ?_ ?_ ?_ ?_ ?_) | exact rfl))
    · refine ⟨(i, j - i, fun k => q (swI (m - i) (m + j - i) i k)), [?_], ⟨x1, by show 1 ≤ j - i; omega, x3, by show m + (j - i) ≤ n; omega, fun k => by show q (swI (m - i) (m + j - i) i (roI (m - i) m (m + (j - i)) k)) = _; rw [roI_lt x3 hlt, x5]⟩, by show i + (j - i) < i + j; omega, ?_⟩
      rotate_left 1
      refine Sub.of ?_ ?_ ?_
      repeat' (first | (refine And.intro ?_ ?_) | exact trivial | exact fun _ _ _ => hsc _ _ | (exact congrArg intV (by first | with_reducible rfl | with_reducible assumption)) | exact (rfl : AV.idsLt _ _ = true) | exact (rfl : _ = AV.ren _ (.own _)) | exact (rfl : _ = AV.ren _ (.fn _ _)) | exact (rfl : _ = AV.ren _ (.gh _)) | (exact congrArg intV (by assumption)) | (refine congrArg intV ((wr_id (by omega) (by omega)).trans (by omega))) | exact rfl | (simp only [Int.toNat_natCast, Int.toNat_zero, Nat.sub_zero, Nat.zero_add]; first | exact rfl | done) | exact all0 | exact fun h => Bool.noConfusion h | exact fun _ _ _ _ => rfl | omega)
  · obtain rfl : i = j := by omega
    refine CallG.wr [0] rfl (FnM.mono (swRCom hn q (m - i) m i f1 rfl rfl (by omega) (by omega)) ?_)
    rintro obs r ⟨rfl, rfl⟩
    conv => whnf
    repeat' (first
      | (refine NilG.mk fun bn hbn hbx => ?_; conv => whnf)
      | (refine Both.mk ?_ ?_ <;> conv => whnf)
      | ((first | (refine MkG.box 1 rfl rfl rfl (by decide) ?_) | (refine MkG.box 2 rfl rfl rfl (by decide) ?_) | (refine MkG.box 3 rfl rfl rfl (by decide) ?_) | (refine MkG.row ?_)); conv => whnf)
      | exact trivial
      | (refine Br.mk (fun hb => ?_) (fun hb => ?_) <;> (first | (exfalso; revert hb; decide) | ((try simp only [BL] at hb) <;> (try simp only [DL] at hb) <;> conv => whnf)))
      | (refine And.intro ?_ ?_; (focus (first | exact id | exact rfl | exact trivial | (intro hg; first | exact hg | exact rfl | (simp; done) | (simp at hg ⊢; assumption)) | omega | decide | exact is2_c _ _ _ | exact is1_c _ _ | exact isS_c _ _ | exact isB_c _ _ | exact Nat.le_refl _ | assumption | exact mulLe (by decide) (by omega) | exact mulLe2 (by decide) (by omega) (by omega) | (intros; simp only [BL] at *; omega) | (intros; (try simp only [BL] at *); (try simp only [DL] at *); omega) | (intros; simp only [BL] at *; rw [wr_id (by omega) (by omega)]; omega) | (intro h1 h2; exact Bool.and_eq_true_iff.2 ⟨h1, h2⟩) | (intros; simp_all; done))); conv => whnf)
      | (refine Or.inr (And.intro rfl ?_); first | (refine congrArg intV ?_) | (refine congrArg boolV ?_) | (refine tupII ?_ ?_) | (refine tupIII ?_ ?_ ?_) | (refine tupU ?_ ?_ ?_ ?_ ?_) | exact rfl))
    have hf : (fun k => q (swI (m - i) m i k)) = fun k => p (roI a m b k) := by
      funext k
      rw [← x5 k, roI_eq x3]
    rw [hf]
    refine ⟨[0], [rowCom n (colCom g0 g1 g2) fun k => p (roI a m b k)], .tup [], rfl, ?_, rfl, rfl, ?_, Nat.le_refl _, rfl, rfl⟩
    all_goals repeat' (first | (refine And.intro ?_ ?_) | exact trivial | exact rfl | exact fun _ _ _ => hsc _ _ | exact fun _ _ _ _ => rfl)
theorem rotCom (hn : n ≤ 1000000) (p : Nat → Nat) (a m b : Nat) {A M B : Int} (eA : A = a) (eM : M = m) (eB : B = b) (h1 : a < m) (h2 : m < b) (h3 : b ≤ n) : FnM Try.prog 118 [rowCom n (colCom g0 g1 g2) p] [.own 0, intV A, intV M, intV B, .fn F []] (fun obs r => obs = [rowCom n (colCom g0 g1 g2) fun k => p (roI a m b k)] ∧ r = .tup []) := by
  subst eA eB eM
  exact rotCom0 hn p a m b h1 h2 h3

end
end Go.Proofs.Ytemfikdogdadnaa
