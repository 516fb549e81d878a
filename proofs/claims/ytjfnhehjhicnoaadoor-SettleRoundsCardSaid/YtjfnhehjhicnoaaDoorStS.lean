/-
  SettleRounds: stable sorting of short lists of places (fewer than twenty).
-/
import Derived.Test.YtjfnhehjhicnoaaDoorSrtP
namespace Go.Proofs.YtjfnhehjhicnoaaDoor
open Go.RowKit

/-- the elements, column by column -/
def colStl (g0 : Nat → Int) : Nat → Nat → L := fun k j => iL (g0 k)
theorem scStl (g0 : Nat → Int) (k j : Nat) : ((colStl g0) k j).scal = true := by
  unfold colStl
  rfl
abbrev rowStl (n : Nat) (F0 : Nat → Nat → L) (p : Nat → Nat) : OB := .row 3 1 n true fun i j => F0 (p i) j
abbrev elStl (F0 : Nat → Nat → L) (i : Nat) : AV := .c (F0 i 0)
/-- F compares elements by their keys -/
structure CmpStl (F : FuncId) (cc0 : Nat → L) (F0 : Nat → Nat → L) (key : Nat → Int) (n : Nat) : Prop where
  run : ∀ i j, i < n → j < n → ∃ v : Int, Fn1 Tryd.prog F (elStl F0 i :: elStl F0 j :: [.xp 1 cc0]) (intV v) ∧ (v < 0 ↔ key i < key j)

theorem cellStl {f : Nat → L} {X : L} {c : Nat} (h : c < 1) : (if 0 ≤ c ∧ c < 0 + [f 0].length then ([f 0][c - 0]?).getD .un else X) = f c := by
  match c, h with
  | 0, _ => rfl
/-- two elements changed with each other -/
theorem twoStl {F0 : Nat → Nat → L} {g h : Nat → Nat} {u v k c : Nat} {X Y : L} {A B : Nat → L} (hc : c < 1) (hA : A = F0 (g u)) (hB : B = F0 (g v)) (h1 : g u = h v) (h2 : g v = h u) (h3 : ∀ k, k ≠ u → k ≠ v → g k = h k) :
    (if k = v then (if 0 ≤ c ∧ c < 0 + [A 0].length then ([A 0][c - 0]?).getD .un else X) else if k = u then (if 0 ≤ c ∧ c < 0 + [B 0].length then ([B 0][c - 0]?).getD .un else Y) else F0 (g k) c) = F0 (h k) c := by
  by_cases e1 : k = v
  · rw [if_pos e1, cellStl hc, hA, h1, e1]
  · by_cases e2 : k = u
    · rw [if_neg e1, if_pos e2, cellStl hc, hB, h2, e2]
    · rw [if_neg e1, if_neg e2, h3 k e2 e1]

def srKStl (n : Nat) (F0 : Nat → Nat → L) (key : Nat → Int) (p : Nat → Nat) (a b : Nat) (obs : List OB) (r : AV) : Prop := ∃ q, Rea p q a b ∧ Asc key q a b ∧ obs = [rowStl n F0 q] ∧ r = .tup []

section
variable {F : FuncId} {cc0 : Nat → L} {g0 : Nat → Int} {key : Nat → Int} {n : Nat}

theorem insStl0 (hC : CmpStl F cc0 (colStl g0) key n) (hn : n ≤ 1000000) (p : Nat → Nat) (a b : Nat) (h1 : a ≤ b) (h2 : b ≤ n) (hp : ∀ k, a ≤ k → k < b → p k = k) : FnM Tryd.prog 142 [rowStl n (colStl g0) p] [.own 0, intV a, intV b, .fn F [.xp 1 cc0]] (srKStl n (colStl g0) key p a b) := by
  refine fnM_of_wpx (O := lex) tab_ok gamZ_ok mixed Tryd.func142 (by kernel_rfl) rfl rfl rfl (by simp [Tryd.ntmps142]) (by kernel_rfl) ?_
  have hsc := scStl g0
  have e0 : IntKind.i64.wrap ((a : Int) + 1) = (a + 1 : Nat) := (wr_id (by omega) (by omega)).trans (by omega)
  conv => whnf
  repeat' (first
    | (refine NilG.mk fun bn hbn hbx => ?_; conv => whnf)
    | (refine Both.mk ?_ ?_ <;> conv => whnf)
    | ((first | (refine MkG.box 1 rfl rfl rfl (by decide) ?_) | (refine MkG.box 2 rfl rfl rfl (by decide) ?_) | (refine MkG.box 3 rfl rfl rfl (by decide) ?_) | (refine MkG.row ?_)); conv => whnf)
    | (refine LitG.row ?_; conv => whnf)
    | exact trivial
    | (refine Br.mk (fun hb => ?_) (fun hb => ?_) <;> (first | (exfalso; revert hb; decide) | ((try simp only [BL] at hb) <;> (try simp only [DL] at hb) <;> conv => whnf)))
    | (refine And.intro ?_ ?_; (focus (first | exact id | exact rfl | exact trivial | (intro hg; first | exact hg | exact rfl | (simp; done) | (simp at hg ⊢; assumption)) | omega | decide | exact is2_c _ _ _ | exact is1_c _ _ | exact isS_c _ _ | exact isB_c _ _ | exact Nat.le_refl _ | assumption | exact mulLe (by decide) (by omega) | exact mulLe2 (by decide) (by omega) (by omega) | (intros; simp only [BL] at *; omega) | (intros; (try simp only [BL] at *); (try simp only [DL] at *); omega) | (intros; simp only [BL] at *; rw [wr_id (by omega) (by omega)]; omega) | (intro h1 h2; exact Bool.and_eq_true_iff.2 ⟨h1, h2⟩) | (intros; simp_all; done))); conv => whnf)
    | (refine Or.inr (And.intro rfl ?_); first | (refine congrArg intV ?_) | (refine congrArg boolV ?_) | (refine tupII ?_ ?_) | (refine tupIII ?_ ?_ ?_) | (refine tupU ?_ ?_ ?_ ?_ ?_) | exact rfl))
  refine sem_loop tab_ok gamZ_ok mixed (by kernel_rfl) (O := lex) (fun x : Nat × (Nat → Nat) => ⟨[(0, .own 0), (1, intV a), (2, intV b), (3, .fn F [.xp 1 cc0]), (8, intV x.1), (1000000, .gh 0)], [rowStl n (colStl g0) x.2]⟩) (fun x => a + 1 ≤ x.1 ∧ x.1 ≤ b + 1 ∧ Rea p x.2 a (min x.1 b) ∧ Asc key x.2 a x.1) (fun x => b + 1 - x.1) ⟨(a + 1, p), [?_], ⟨Nat.le_refl _, by show a + 1 ≤ b + 1; omega, Rea.refl p _ _, Asc.short (Nat.le_refl _)⟩, ?_⟩ fun x hx => ?_
  rotate_left 1
  · refine Sub.of ?_ ?_ ?_
    repeat' (first | (refine And.intro ?_ ?_) | exact trivial | exact fun _ _ _ => hsc _ _ | (exact congrArg intV (by first | with_reducible rfl | with_reducible assumption)) | exact (rfl : AV.idsLt _ _ = true) | exact (rfl : _ = AV.ren _ (.own _)) | exact (rfl : _ = AV.ren _ (.fn _ _)) | exact (rfl : _ = AV.ren _ (.gh _)) | (exact congrArg intV (by assumption)) | (refine congrArg intV ((wr_id (by omega) (by omega)).trans (by omega))) | exact rfl | (simp only [NLc]; first | exact rfl | done) | exact all0 | exact fun h => Bool.noConfusion h | exact fun _ _ _ _ => rfl | omega)
  obtain ⟨i, q⟩ := x
  obtain ⟨x1, x2, x3, x5⟩ := hx
  simp only [] at x1 x2 x3 x5
  conv => whnf
  repeat' (first
    | (refine NilG.mk fun bn hbn hbx => ?_; conv => whnf)
    | (refine Both.mk ?_ ?_ <;> conv => whnf)
    | ((first | (refine MkG.box 1 rfl rfl rfl (by decide) ?_) | (refine MkG.box 2 rfl rfl rfl (by decide) ?_) | (refine MkG.box 3 rfl rfl rfl (by decide) ?_) | (refine MkG.row ?_)); conv => whnf)
    | (refine LitG.row ?_; conv => whnf)
    | exact trivial
    | (refine Br.mk (fun hb => ?_) (fun hb => ?_) <;> (first | (exfalso; revert hb; decide) | ((try simp only [BL] at hb) <;> (try simp only [DL] at hb) <;> conv => whnf)))
    | (refine And.intro ?_ ?_; (focus (first | exact id | exact rfl | exact trivial | (intro hg; first | exact hg | exact rfl | (simp; done) | (simp at hg ⊢; assumption)) | omega | decide | exact is2_c _ _ _ | exact is1_c _ _ | exact isS_c _ _ | exact isB_c _ _ | exact Nat.le_refl _ | assumption | exact mulLe (by decide) (by omega) | exact mulLe2 (by decide) (by omega) (by omega) | (intros; simp only [BL] at *; omega) | (intros; (try simp only [BL] at *); (try simp only [DL] at *); omega) | (intros; simp only [BL] at *; rw [wr_id (by omega) (by omega)]; omega) | (intro h1 h2; exact Bool.and_eq_true_iff.2 ⟨h1, h2⟩) | (intros; simp_all; done))); conv => whnf)
    | (refine Or.inr (And.intro rfl ?_); first | (refine congrArg intV ?_) | (refine congrArg boolV ?_) | (refine tupII ?_ ?_) | (refine tupIII ?_ ?_ ?_) | (refine tupU ?_ ?_ ?_ ?_ ?_) | exact rfl))
  · have hib : i < b := by omega
    clear hb
    rw [show min i b = i by omega] at x3
    have ei : IntKind.i64.wrap ((i : Int) + 1) = (i + 1 : Nat) := (wr_id (by omega) (by omega)).trans (by omega)
    have hqi : q i = i := (x3.out i (by omega)).trans (hp i (by omega) hib)
    have hql : ∀ k, a ≤ k → k < i → q k < i := fun k k1 k2 => by
      obtain ⟨u, u1, u2, e⟩ := x3.fwd k k1 k2
      rw [e, hp u u1 (by omega)]
      exact u2
    refine sem_loop tab_ok gamZ_ok mixed (by kernel_rfl) (O := lex) (fun j : Nat => ⟨[(0, .own 0), (1, intV a), (2, intV b), (3, .fn F [.xp 1 cc0]), (8, intV i), (9, intV j), (1000000, .gh 0)], [rowStl n (colStl g0) fun k => q (inI j i k)]⟩) (fun j => a ≤ j ∧ j ≤ i ∧ ∀ k, j ≤ k → k < i → sLt key i (q k)) (fun j => j) ⟨i, [?_], ⟨by omega, Nat.le_refl _, fun k k1 k2 => by omega⟩, ?_⟩ fun j hj => ?_
    rotate_left 1
    · refine Sub.of ?_ ?_ ?_
      repeat' (first | (refine And.intro ?_ ?_) | exact trivial | exact fun _ _ _ => hsc _ _ | (exact congrArg intV (by first | with_reducible rfl | with_reducible assumption)) | exact (rfl : AV.idsLt _ _ = true) | exact (rfl : _ = AV.ren _ (.own _)) | exact (rfl : _ = AV.ren _ (.fn _ _)) | exact (rfl : _ = AV.ren _ (.gh _)) | (exact congrArg intV (by assumption)) | (refine congrArg intV ((wr_id (by omega) (by omega)).trans (by omega))) | exact rfl | (simp only [NLc]; first | exact rfl | done) | exact all0 | exact fun h => Bool.noConfusion h | exact fun _ _ _ _ => rfl | omega)
      · intro k _ c _
        show (colStl g0) (q k) c = (colStl g0) (q (inI i i k)) c
        rw [inI_same]
    obtain ⟨y1, y2, y3⟩ := hj
    have ej' : a < j → IntKind.i64.wrap ((j : Int) - 1) = (j - 1 : Nat) := fun h => (wr_id (by omega) (by omega)).trans (by omega)
    conv => whnf
    repeat' (first
      | (refine NilG.mk fun bn hbn hbx => ?_; conv => whnf)
      | (refine Both.mk ?_ ?_ <;> conv => whnf)
      | ((first | (refine MkG.box 1 rfl rfl rfl (by decide) ?_) | (refine MkG.box 2 rfl rfl rfl (by decide) ?_) | (refine MkG.box 3 rfl rfl rfl (by decide) ?_) | (refine MkG.row ?_)); conv => whnf)
      | (refine LitG.row ?_; conv => whnf)
      | exact trivial
      | (refine Br.mk (fun hb => ?_) (fun hb => ?_) <;> (first | (exfalso; revert hb; decide) | ((try simp only [BL] at hb) <;> (try simp only [DL] at hb) <;> conv => whnf)))
      | (refine And.intro ?_ ?_; (focus (first | exact id | exact rfl | exact trivial | (intro hg; first | exact hg | exact rfl | (simp; done) | (simp at hg ⊢; assumption)) | omega | decide | exact is2_c _ _ _ | exact is1_c _ _ | exact isS_c _ _ | exact isB_c _ _ | exact Nat.le_refl _ | assumption | exact mulLe (by decide) (by omega) | exact mulLe2 (by decide) (by omega) (by omega) | (intros; simp only [BL] at *; omega) | (intros; (try simp only [BL] at *); (try simp only [DL] at *); omega) | (intros; simp only [BL] at *; rw [wr_id (by omega) (by omega)]; omega) | (intro h1 h2; exact Bool.and_eq_true_iff.2 ⟨h1, h2⟩) | (intro hg; simp only [BL] at hg; have := ej' (by omega); omega) | (intro hg; simp only [BL] at hg; have := ej' (by omega); refine ⟨rfl, ?_, by decide⟩; omega) | (intros; simp_all; done))); conv => whnf)
      | (refine Or.inr (And.intro rfl ?_); first | (refine congrArg intV ?_) | (refine congrArg boolV ?_) | (refine tupII ?_ ?_) | (refine tupIII ?_ ?_ ?_) | (refine tupU ?_ ?_ ?_ ?_ ?_) | exact rfl))
    refine And.intro (fun hg => ?_) (fun hg => ?_)
    · have haj : a < j := by simp at hg; omega
      have ej : IntKind.i64.wrap ((j : Int) - 1) = (j - 1 : Nat) := (wr_id (by omega) (by omega)).trans (by omega)
      have tj : (IntKind.i64.wrap ((j : Int) - 1)).toNat = j - 1 := by rw [ej]; omega
      have i1 : inI j i j = i := by unfold inI; rw [if_pos rfl]
      have i2 : inI j i (j - 1) = j - 1 := by unfold inI; rw [if_neg (by omega), if_neg (by omega)]
      obtain ⟨v, hv, hvk⟩ := hC.run (q (inI j i j)) (q (inI j i (IntKind.i64.wrap ((j : Int) - 1)).toNat)) (by rw [i1, hqi]; omega) (by rw [tj, i2]; have := hql (j - 1) (by omega) (by omega); omega)
      rw [tj, i1, i2, hqi] at hvk
      refine CallG.mk (Fn.mono hv ?_)
      rintro obs r ⟨rfl, rfl⟩
      conv => whnf
      repeat' (first
        | (refine NilG.mk fun bn hbn hbx => ?_; conv => whnf)
        | (refine Both.mk ?_ ?_ <;> conv => whnf)
        | ((first | (refine MkG.box 1 rfl rfl rfl (by decide) ?_) | (refine MkG.box 2 rfl rfl rfl (by decide) ?_) | (refine MkG.box 3 rfl rfl rfl (by decide) ?_) | (refine MkG.row ?_)); conv => whnf)
        | (refine LitG.row ?_; conv => whnf)
        | exact trivial
        | (refine Br.mk (fun hb => ?_) (fun hb => ?_) <;> (first | (exfalso; revert hb; decide) | ((try simp only [BL] at hb) <;> (try simp only [DL] at hb) <;> conv => whnf)))
        | (refine And.intro ?_ ?_; (focus (first | exact id | exact rfl | exact trivial | (intro hg; first | exact hg | exact rfl | (simp; done) | (simp at hg ⊢; assumption)) | omega | decide | exact is2_c _ _ _ | exact is1_c _ _ | exact isS_c _ _ | exact isB_c _ _ | exact Nat.le_refl _ | assumption | exact mulLe (by decide) (by omega) | exact mulLe2 (by decide) (by omega) (by omega) | (intros; simp only [BL] at *; omega) | (intros; (try simp only [BL] at *); (try simp only [DL] at *); omega) | (intros; simp only [BL] at *; rw [wr_id (by omega) (by omega)]; omega) | (intro h1 h2; exact Bool.and_eq_true_iff.2 ⟨h1, h2⟩) | (rw [ej]; omega) | (refine ⟨rfl, ?_, by decide⟩; first | omega | (rw [tj]; omega)) | (intros; simp_all; done))); conv => whnf)
        | (refine Or.inr (And.intro rfl ?_); first | (refine congrArg intV ?_) | (refine congrArg boolV ?_) | (refine tupII ?_ ?_) | (refine tupIII ?_ ?_ ?_) | (refine tupU ?_ ?_ ?_ ?_ ?_) | exact rfl))
      · have hlt := hvk.1 (by omega)
        refine ⟨j - 1, [?_], ⟨by omega, by omega, fun k k1 k2 => if e : k = j - 1 then by rw [e]; exact .inl hlt else y3 k (by omega) k2⟩, by omega, ?_⟩
        rotate_left 1
        refine Sub.of ?_ ?_ ?_
        repeat' (first | (refine And.intro ?_ ?_) | exact trivial | exact fun _ _ _ => hsc _ _ | (exact congrArg intV (by first | with_reducible rfl | with_reducible assumption)) | exact (rfl : AV.idsLt _ _ = true) | exact (rfl : _ = AV.ren _ (.own _)) | exact (rfl : _ = AV.ren _ (.fn _ _)) | exact (rfl : _ = AV.ren _ (.gh _)) | (exact congrArg intV (by assumption)) | (refine congrArg intV ((wr_id (by omega) (by omega)).trans (by omega))) | exact rfl | (simp only [NLc]; first | exact rfl | done) | exact all0 | exact fun h => Bool.noConfusion h | exact fun _ _ _ _ => rfl | omega)
        · intro k hk c hc
          exact twoStl (F0 := fun x y => (colStl g0) (q x) y) (g := inI j i) (h := inI (j - 1) i) (u := j) (v := (IntKind.i64.wrap ((j : Int) - 1)).toNat) hc rfl rfl (by rw [tj]; unfold inI; (repeat' split) <;> omega) (by rw [tj]; unfold inI; (repeat' split) <;> omega) (fun k h1 h2 => by rw [tj] at h2; unfold inI; (repeat' split) <;> omega)
      · have hge : ¬ key i < key (q (j - 1)) := fun h => by have := hvk.2 h; omega
        refine ⟨(i + 1, fun k => q (inI j i k)), [?_], ⟨by show a + 1 ≤ i + 1; omega, by show i + 1 ≤ b + 1; omega, by show Rea p _ a (min (i + 1) b); rw [show min (i + 1) b = i + 1 by omega]; exact (x3.wide (Nat.le_refl _) (by omega)).trans (rea_in q y1 y2 (by omega)), asc_in x5 y1 y2 (fun k k1 k2 => by rw [hqi]; have hs : sLt key (q (j - 1)) i := (by have := hql (j - 1) (by omega) (by omega); unfold sLt; omega); exact if e : k = j - 1 then by rw [e]; exact hs else (x5 k (j - 1) k1 (by omega) (by omega)).trans hs) (fun k k1 k2 => by rw [hqi]; exact y3 k k1 k2)⟩, by show b + 1 - (i + 1) < b + 1 - i; omega, ?_⟩
        rotate_left 1
        refine Sub.of ?_ ?_ ?_
        repeat' (first | (refine And.intro ?_ ?_) | exact trivial | exact fun _ _ _ => hsc _ _ | (exact congrArg intV (by first | with_reducible rfl | with_reducible assumption)) | exact (rfl : AV.idsLt _ _ = true) | exact (rfl : _ = AV.ren _ (.own _)) | exact (rfl : _ = AV.ren _ (.fn _ _)) | exact (rfl : _ = AV.ren _ (.gh _)) | (exact congrArg intV (by assumption)) | (refine congrArg intV ((wr_id (by omega) (by omega)).trans (by omega))) | exact rfl | (simp only [NLc]; first | exact rfl | done) | exact all0 | exact fun h => Bool.noConfusion h | exact fun _ _ _ _ => rfl | omega)
    · have haj : j = a := by simp at hg; omega
      rw [hg]
      conv => whnf
      repeat' (first
        | (refine NilG.mk fun bn hbn hbx => ?_; conv => whnf)
        | (refine Both.mk ?_ ?_ <;> conv => whnf)
        | ((first | (refine MkG.box 1 rfl rfl rfl (by decide) ?_) | (refine MkG.box 2 rfl rfl rfl (by decide) ?_) | (refine MkG.box 3 rfl rfl rfl (by decide) ?_) | (refine MkG.row ?_)); conv => whnf)
        | (refine LitG.row ?_; conv => whnf)
        | exact trivial
        | (refine Br.mk (fun hb => ?_) (fun hb => ?_) <;> (first | (exfalso; revert hb; decide) | ((try simp only [BL] at hb) <;> (try simp only [DL] at hb) <;> conv => whnf)))
        | (refine And.intro ?_ ?_; (focus (first | exact id | exact rfl | exact trivial | (intro hg; first | exact hg | exact rfl | (simp; done) | (simp at hg ⊢; assumption)) | omega | decide | exact is2_c _ _ _ | exact is1_c _ _ | exact isS_c _ _ | exact isB_c _ _ | exact Nat.le_refl _ | assumption | exact mulLe (by decide) (by omega) | exact mulLe2 (by decide) (by omega) (by omega) | (intros; simp only [BL] at *; omega) | (intros; (try simp only [BL] at *); (try simp only [DL] at *); omega) | (intros; simp only [BL] at *; rw [wr_id (by omega) (by omega)]; omega) | (intro h1 h2; exact Bool.and_eq_true_iff.2 ⟨h1, h2⟩) | (intros; simp_all; done))); conv => whnf)
        | (refine Or.inr (And.intro rfl ?_); first | (refine congrArg intV ?_) | (refine congrArg boolV ?_) | (refine tupII ?_ ?_) | (refine tupIII ?_ ?_ ?_) | (refine tupU ?_ ?_ ?_ ?_ ?_) | exact rfl))
      intro _
      conv => whnf
      repeat' (first
        | (refine NilG.mk fun bn hbn hbx => ?_; conv => whnf)
        | (refine Both.mk ?_ ?_ <;> conv => whnf)
        | ((first | (refine MkG.box 1 rfl rfl rfl (by decide) ?_) | (refine MkG.box 2 rfl rfl rfl (by decide) ?_) | (refine MkG.box 3 rfl rfl rfl (by decide) ?_) | (refine MkG.row ?_)); conv => whnf)
        | (refine LitG.row ?_; conv => whnf)
        | exact trivial
        | (refine Br.mk (fun hb => ?_) (fun hb => ?_) <;> (first | (exfalso; revert hb; decide) | ((try simp only [BL] at hb) <;> (try simp only [DL] at hb) <;> conv => whnf)))
        | (refine And.intro ?_ ?_; (focus (first | exact id | exact rfl | exact trivial | (intro hg; first | exact hg | exact rfl | (simp; done) | (simp at hg ⊢; assumption)) | omega | decide | exact is2_c _ _ _ | exact is1_c _ _ | exact isS_c _ _ | exact isB_c _ _ | exact Nat.le_refl _ | assumption | exact mulLe (by decide) (by omega) | exact mulLe2 (by decide) (by omega) (by omega) | (intros; simp only [BL] at *; omega) | (intros; (try simp only [BL] at *); (try simp only [DL] at *); omega) | (intros; simp only [BL] at *; rw [wr_id (by omega) (by omega)]; omega) | (intro h1 h2; exact Bool.and_eq_true_iff.2 ⟨h1, h2⟩) | (intros; simp_all; done))); conv => whnf)
        | (refine Or.inr (And.intro rfl ?_); first | (refine congrArg intV ?_) | (refine congrArg boolV ?_) | (refine tupII ?_ ?_) | (refine tupIII ?_ ?_ ?_) | (refine tupU ?_ ?_ ?_ ?_ ?_) | exact rfl))
      · refine ⟨(i + 1, fun k => q (inI j i k)), [?_], ⟨by show a + 1 ≤ i + 1; omega, by show i + 1 ≤ b + 1; omega, by show Rea p _ a (min (i + 1) b); rw [show min (i + 1) b = i + 1 by omega]; exact (x3.wide (Nat.le_refl _) (by omega)).trans (rea_in q y1 y2 (by omega)), asc_in x5 y1 y2 (fun k k1 k2 => by omega) (fun k k1 k2 => by rw [hqi]; exact y3 k k1 k2)⟩, by show b + 1 - (i + 1) < b + 1 - i; omega, ?_⟩
        rotate_left 1
        refine Sub.of ?_ ?_ ?_
        repeat' (first | (refine And.intro ?_ ?_) | exact trivial | exact fun _ _ _ => hsc _ _ | (exact congrArg intV (by first | with_reducible rfl | with_reducible assumption)) | exact (rfl : AV.idsLt _ _ = true) | exact (rfl : _ = AV.ren _ (.own _)) | exact (rfl : _ = AV.ren _ (.fn _ _)) | exact (rfl : _ = AV.ren _ (.gh _)) | (exact congrArg intV (by assumption)) | (refine congrArg intV ((wr_id (by omega) (by omega)).trans (by omega))) | exact rfl | (simp only [NLc]; first | exact rfl | done) | exact all0 | exact fun h => Bool.noConfusion h | exact fun _ _ _ _ => rfl | omega)
  · rw [show min i b = b by omega] at x3
    refine ⟨[0], [rowStl n (colStl g0) q], .tup [], rfl, ?_, rfl, rfl, ?_, Nat.le_refl _, ⟨q, x3, x5.sub (Nat.le_refl _) (by omega), rfl, rfl⟩⟩
    all_goals repeat' (first | (refine And.intro ?_ ?_) | exact trivial | exact rfl | exact fun _ _ _ => hsc _ _ | exact fun _ _ _ _ => rfl)
theorem insStl (hC : CmpStl F cc0 (colStl g0) key n) (hn : n ≤ 1000000) (p : Nat → Nat) (a b : Nat) {A B : Int} (eA : A = a) (eB : B = b) (h1 : a ≤ b) (h2 : b ≤ n) (hp : ∀ k, a ≤ k → k < b → p k = k) : FnM Tryd.prog 142 [rowStl n (colStl g0) p] [.own 0, intV A, intV B, .fn F [.xp 1 cc0]] (srKStl n (colStl g0) key p a b) := by
  subst eA eB
  exact insStl0 hC hn p a b h1 h2 hp

def soKStl (n : Nat) (F0 : Nat → Nat → L) (key : Nat → Int) (obs : List OB) (r : AV) : Prop := ∃ q, Sorted key q n ∧ obs = [rowStl n F0 q] ∧ r = .tup []
theorem stbStl (hC : CmpStl F cc0 (colStl g0) key n) (hn : n ≤ 19) : FnM Tryd.prog 113 [rowStl n (colStl g0) id] [.own 0, intV n, .fn F [.xp 1 cc0]] (soKStl n (colStl g0) key) := by
  refine fnM_of_wpx (O := lex) tab_ok gamZ_ok mixed Tryd.func113 (by kernel_rfl) rfl rfl rfl (by simp [Tryd.ntmps113]) (by kernel_rfl) ?_
  have hsc := scStl g0
  conv => whnf
  repeat' (first
    | (refine NilG.mk fun bn hbn hbx => ?_; conv => whnf)
    | (refine Both.mk ?_ ?_ <;> conv => whnf)
    | ((first | (refine MkG.box 1 rfl rfl rfl (by decide) ?_) | (refine MkG.box 2 rfl rfl rfl (by decide) ?_) | (refine MkG.box 3 rfl rfl rfl (by decide) ?_) | (refine MkG.row ?_)); conv => whnf)
    | (refine LitG.row ?_; conv => whnf)
    | exact trivial
    | (refine Br.mk (fun hb => ?_) (fun hb => ?_) <;> (first | (exfalso; revert hb; decide) | ((try simp only [BL] at hb) <;> (try simp only [DL] at hb) <;> conv => whnf)))
    | (refine And.intro ?_ ?_; (focus (first | exact id | exact rfl | exact trivial | (intro hg; first | exact hg | exact rfl | (simp; done) | (simp at hg ⊢; assumption)) | omega | decide | exact is2_c _ _ _ | exact is1_c _ _ | exact isS_c _ _ | exact isB_c _ _ | exact Nat.le_refl _ | assumption | exact mulLe (by decide) (by omega) | exact mulLe2 (by decide) (by omega) (by omega) | (intros; simp only [BL] at *; omega) | (intros; (try simp only [BL] at *); (try simp only [DL] at *); omega) | (intros; simp only [BL] at *; rw [wr_id (by omega) (by omega)]; omega) | (intro h1 h2; exact Bool.and_eq_true_iff.2 ⟨h1, h2⟩) | (intros; simp_all; done))); conv => whnf)
    | (refine Or.inr (And.intro rfl ?_); first | (refine congrArg intV ?_) | (refine congrArg boolV ?_) | (refine tupII ?_ ?_) | (refine tupIII ?_ ?_ ?_) | (refine tupU ?_ ?_ ?_ ?_ ?_) | exact rfl))
  refine sem_loop tab_ok gamZ_ok mixed (by kernel_rfl) (O := lex) (fun u : Unit => ⟨[(0, .own 0), (1, intV n), (2, .fn F [.xp 1 cc0]), (6, intV 20), (7, intV 0), (8, intV 20), (1000000, .gh 0)], [rowStl n (colStl g0) id]⟩) (fun u => True) (fun u => 0) ⟨(), [?_], trivial, ?_⟩ fun u hu => ?_
  rotate_left 1
  · refine Sub.of ?_ ?_ ?_
    repeat' (first | (refine And.intro ?_ ?_) | exact trivial | exact fun _ _ _ => hsc _ _ | (exact congrArg intV (by first | with_reducible rfl | with_reducible assumption)) | exact (rfl : AV.idsLt _ _ = true) | exact (rfl : _ = AV.ren _ (.own _)) | exact (rfl : _ = AV.ren _ (.fn _ _)) | exact (rfl : _ = AV.ren _ (.gh _)) | (exact congrArg intV (by assumption)) | (refine congrArg intV ((wr_id (by omega) (by omega)).trans (by omega))) | exact rfl | (simp only [NLc]; first | exact rfl | done) | exact all0 | exact fun h => Bool.noConfusion h | exact fun _ _ _ _ => rfl | omega)
  conv => whnf
  repeat' (first
    | (refine NilG.mk fun bn hbn hbx => ?_; conv => whnf)
    | (refine Both.mk ?_ ?_ <;> conv => whnf)
    | ((first | (refine MkG.box 1 rfl rfl rfl (by decide) ?_) | (refine MkG.box 2 rfl rfl rfl (by decide) ?_) | (refine MkG.box 3 rfl rfl rfl (by decide) ?_) | (refine MkG.row ?_)); conv => whnf)
    | (refine LitG.row ?_; conv => whnf)
    | exact trivial
    | (refine Br.mk (fun hb => ?_) (fun hb => ?_) <;> (first | (exfalso; revert hb; decide) | ((try simp only [BL] at hb) <;> (try simp only [DL] at hb) <;> conv => whnf)))
    | (refine And.intro ?_ ?_; (focus (first | exact id | exact rfl | exact trivial | (intro hg; first | exact hg | exact rfl | (simp; done) | (simp at hg ⊢; assumption)) | omega | decide | exact is2_c _ _ _ | exact is1_c _ _ | exact isS_c _ _ | exact isB_c _ _ | exact Nat.le_refl _ | assumption | exact mulLe (by decide) (by omega) | exact mulLe2 (by decide) (by omega) (by omega) | (intros; simp only [BL] at *; omega) | (intros; (try simp only [BL] at *); (try simp only [DL] at *); omega) | (intros; simp only [BL] at *; rw [wr_id (by omega) (by omega)]; omega) | (intro h1 h2; exact Bool.and_eq_true_iff.2 ⟨h1, h2⟩) | (intros; simp_all; done))); conv => whnf)
    | (refine Or.inr (And.intro rfl ?_); first | (refine congrArg intV ?_) | (refine congrArg boolV ?_) | (refine tupII ?_ ?_) | (refine tupIII ?_ ?_ ?_) | (refine tupU ?_ ?_ ?_ ?_ ?_) | exact rfl))
  · exfalso
    omega
  refine CallG.wr [0] rfl (FnM.mono (insStl hC (by omega) id 0 n rfl rfl (Nat.zero_le _) (Nat.le_refl _) (fun k _ _ => rfl)) ?_)
  rintro obs r ⟨q1, hr1, ha1, rfl, rfl⟩
  conv => whnf
  repeat' (first
    | (refine NilG.mk fun bn hbn hbx => ?_; conv => whnf)
    | (refine Both.mk ?_ ?_ <;> conv => whnf)
    | ((first | (refine MkG.box 1 rfl rfl rfl (by decide) ?_) | (refine MkG.box 2 rfl rfl rfl (by decide) ?_) | (refine MkG.box 3 rfl rfl rfl (by decide) ?_) | (refine MkG.row ?_)); conv => whnf)
    | (refine LitG.row ?_; conv => whnf)
    | exact trivial
    | (refine Br.mk (fun hb => ?_) (fun hb => ?_) <;> (first | (exfalso; revert hb; decide) | ((try simp only [BL] at hb) <;> (try simp only [DL] at hb) <;> conv => whnf)))
    | (refine And.intro ?_ ?_; (focus (first | exact id | exact rfl | exact trivial | (intro hg; first | exact hg | exact rfl | (simp; done) | (simp at hg ⊢; assumption)) | omega | decide | exact is2_c _ _ _ | exact is1_c _ _ | exact isS_c _ _ | exact isB_c _ _ | exact Nat.le_refl _ | assumption | exact mulLe (by decide) (by omega) | exact mulLe2 (by decide) (by omega) (by omega) | (intros; simp only [BL] at *; omega) | (intros; (try simp only [BL] at *); (try simp only [DL] at *); omega) | (intros; simp only [BL] at *; rw [wr_id (by omega) (by omega)]; omega) | (intro h1 h2; exact Bool.and_eq_true_iff.2 ⟨h1, h2⟩) | (intros; simp_all; done))); conv => whnf)
    | (refine Or.inr (And.intro rfl ?_); first | (refine congrArg intV ?_) | (refine congrArg boolV ?_) | (refine tupII ?_ ?_) | (refine tupIII ?_ ?_ ?_) | (refine tupU ?_ ?_ ?_ ?_ ?_) | exact rfl))
  refine sem_loop tab_ok gamZ_ok mixed (by kernel_rfl) (O := lex) (fun u : Unit => ⟨[(0, .own 0), (1, intV n), (2, .fn F [.xp 1 cc0]), (6, intV 20), (1000000, .gh 0)], [rowStl n (colStl g0) q1]⟩) (fun u => True) (fun u => 0) ⟨(), [?_], trivial, ?_⟩ fun u hu => ?_
  rotate_left 1
  · refine Sub.of ?_ ?_ ?_
    repeat' (first | (refine And.intro ?_ ?_) | exact trivial | exact fun _ _ _ => hsc _ _ | (exact congrArg intV (by first | with_reducible rfl | with_reducible assumption)) | exact (rfl : AV.idsLt _ _ = true) | exact (rfl : _ = AV.ren _ (.own _)) | exact (rfl : _ = AV.ren _ (.fn _ _)) | exact (rfl : _ = AV.ren _ (.gh _)) | (exact congrArg intV (by assumption)) | (refine congrArg intV ((wr_id (by omega) (by omega)).trans (by omega))) | exact rfl | (simp only [NLc]; first | exact rfl | done) | exact all0 | exact fun h => Bool.noConfusion h | exact fun _ _ _ _ => rfl | omega)
  conv => whnf
  repeat' (first
    | (refine NilG.mk fun bn hbn hbx => ?_; conv => whnf)
    | (refine Both.mk ?_ ?_ <;> conv => whnf)
    | ((first | (refine MkG.box 1 rfl rfl rfl (by decide) ?_) | (refine MkG.box 2 rfl rfl rfl (by decide) ?_) | (refine MkG.box 3 rfl rfl rfl (by decide) ?_) | (refine MkG.row ?_)); conv => whnf)
    | (refine LitG.row ?_; conv => whnf)
    | exact trivial
    | (refine Br.mk (fun hb => ?_) (fun hb => ?_) <;> (first | (exfalso; revert hb; decide) | ((try simp only [BL] at hb) <;> (try simp only [DL] at hb) <;> conv => whnf)))
    | (refine And.intro ?_ ?_; (focus (first | exact id | exact rfl | exact trivial | (intro hg; first | exact hg | exact rfl | (simp; done) | (simp at hg ⊢; assumption)) | omega | decide | exact is2_c _ _ _ | exact is1_c _ _ | exact isS_c _ _ | exact isB_c _ _ | exact Nat.le_refl _ | assumption | exact mulLe (by decide) (by omega) | exact mulLe2 (by decide) (by omega) (by omega) | (intros; simp only [BL] at *; omega) | (intros; (try simp only [BL] at *); (try simp only [DL] at *); omega) | (intros; simp only [BL] at *; rw [wr_id (by omega) (by omega)]; omega) | (intro h1 h2; exact Bool.and_eq_true_iff.2 ⟨h1, h2⟩) | (intros; simp_all; done))); conv => whnf)
    | (refine Or.inr (And.intro rfl ?_); first | (refine congrArg intV ?_) | (refine congrArg boolV ?_) | (refine tupII ?_ ?_) | (refine tupIII ?_ ?_ ?_) | (refine tupU ?_ ?_ ?_ ?_ ?_) | exact rfl))
  · exfalso
    omega
  refine ⟨[0], [rowStl n (colStl g0) q1], .tup [], rfl, ?_, rfl, rfl, ?_, Nat.le_refl _, ⟨q1, ⟨ha1, hr1⟩, rfl, rfl⟩⟩
  all_goals repeat' (first | (refine And.intro ?_ ?_) | exact trivial | exact rfl | exact fun _ _ _ => hsc _ _ | exact fun _ _ _ _ => rfl)
theorem sortStl (hC : CmpStl F cc0 (colStl g0) key n) (hn : n ≤ 19) : FnM Tryd.prog 85 [rowStl n (colStl g0) id] [.own 0, .fn F [.xp 1 cc0]] (soKStl n (colStl g0) key) := by
  refine fnM_of_wpx (O := lex) tab_ok gamZ_ok mixed Tryd.func85 (by kernel_rfl) rfl rfl rfl (by simp [Tryd.ntmps85]) (by kernel_rfl) ?_
  have hsc := scStl g0
  conv => whnf
  repeat' (first
    | (refine NilG.mk fun bn hbn hbx => ?_; conv => whnf)
    | (refine Both.mk ?_ ?_ <;> conv => whnf)
    | ((first | (refine MkG.box 1 rfl rfl rfl (by decide) ?_) | (refine MkG.box 2 rfl rfl rfl (by decide) ?_) | (refine MkG.box 3 rfl rfl rfl (by decide) ?_) | (refine MkG.row ?_)); conv => whnf)
    | (refine LitG.row ?_; conv => whnf)
    | exact trivial
    | (refine Br.mk (fun hb => ?_) (fun hb => ?_) <;> (first | (exfalso; revert hb; decide) | ((try simp only [BL] at hb) <;> (try simp only [DL] at hb) <;> conv => whnf)))
    | (refine And.intro ?_ ?_; (focus (first | exact id | exact rfl | exact trivial | (intro hg; first | exact hg | exact rfl | (simp; done) | (simp at hg ⊢; assumption)) | omega | decide | exact is2_c _ _ _ | exact is1_c _ _ | exact isS_c _ _ | exact isB_c _ _ | exact Nat.le_refl _ | assumption | exact mulLe (by decide) (by omega) | exact mulLe2 (by decide) (by omega) (by omega) | (intros; simp only [BL] at *; omega) | (intros; (try simp only [BL] at *); (try simp only [DL] at *); omega) | (intros; simp only [BL] at *; rw [wr_id (by omega) (by omega)]; omega) | (intro h1 h2; exact Bool.and_eq_true_iff.2 ⟨h1, h2⟩) | (intros; simp_all; done))); conv => whnf)
    | (refine Or.inr (And.intro rfl ?_); first | (refine congrArg intV ?_) | (refine congrArg boolV ?_) | (refine tupII ?_ ?_) | (refine tupIII ?_ ?_ ?_) | (refine tupU ?_ ?_ ?_ ?_ ?_) | exact rfl))
  refine CallG.wr [0] rfl (FnM.mono (stbStl hC hn) ?_)
  rintro obs r ⟨q, hq, rfl, rfl⟩
  conv => whnf
  repeat' (first
    | (refine NilG.mk fun bn hbn hbx => ?_; conv => whnf)
    | (refine Both.mk ?_ ?_ <;> conv => whnf)
    | ((first | (refine MkG.box 1 rfl rfl rfl (by decide) ?_) | (refine MkG.box 2 rfl rfl rfl (by decide) ?_) | (refine MkG.box 3 rfl rfl rfl (by decide) ?_) | (refine MkG.row ?_)); conv => whnf)
    | (refine LitG.row ?_; conv => whnf)
    | exact trivial
    | (refine Br.mk (fun hb => ?_) (fun hb => ?_) <;> (first | (exfalso; revert hb; decide) | ((try simp only [BL] at hb) <;> (try simp only [DL] at hb) <;> conv => whnf)))
    | (refine And.intro ?_ ?_; (focus (first | exact id | exact rfl | exact trivial | (intro hg; first | exact hg | exact rfl | (simp; done) | (simp at hg ⊢; assumption)) | omega | decide | exact is2_c _ _ _ | exact is1_c _ _ | exact isS_c _ _ | exact isB_c _ _ | exact Nat.le_refl _ | assumption | exact mulLe (by decide) (by omega) | exact mulLe2 (by decide) (by omega) (by omega) | (intros; simp only [BL] at *; omega) | (intros; (try simp only [BL] at *); (try simp only [DL] at *); omega) | (intros; simp only [BL] at *; rw [wr_id (by omega) (by omega)]; omega) | (intro h1 h2; exact Bool.and_eq_true_iff.2 ⟨h1, h2⟩) | (intros; simp_all; done))); conv => whnf)
    | (refine Or.inr (And.intro rfl ?_); first | (refine congrArg intV ?_) | (refine congrArg boolV ?_) | (refine tupII ?_ ?_) | (refine tupIII ?_ ?_ ?_) | (refine tupU ?_ ?_ ?_ ?_ ?_) | exact rfl))
  refine ⟨[0], [rowStl n (colStl g0) q], .tup [], rfl, ?_, rfl, rfl, ?_, Nat.le_refl _, ⟨q, hq, rfl, rfl⟩⟩
  all_goals repeat' (first | (refine And.intro ?_ ?_) | exact trivial | exact rfl | exact fun _ _ _ => hsc _ _ | exact fun _ _ _ _ => rfl)
end
end Go.Proofs.YtjfnhehjhicnoaaDoor
