/-
  Orders: an operation on states; the search.
-/
import Derived.Test.YtemfikdogdadnaaOrA
import Derived.Test.YtemfikdogdadnaaAlA
namespace Go.Proofs.Ytemfikdogdadnaa
open Go.RowKit

abbrev stR2 (s : Sts) : OB := .row 37 2 s.n false (cSt s)
theorem orClS (s : Sts) (hm : s.n ≤ 1000) : Fn Try.prog 48 [stV s] (fun obs r => (obs = [stR2 s] ∧ r = .own 0) ∨ (s.n = 0 ∧ obs = [] ∧ r = .c (.v (.slice none 0 0)))) := by
  refine fn_of_wpx (O := lex) tab_ok gamN1_ok mixed Try.func48 (by kernel_rfl) rfl rfl rfl (by simp [Try.ntmps48]) (by kernel_rfl) ?_
  conv => whnf
  repeat' (first
    | (refine NilG.mk fun bn hbn hbx => ?_; conv => whnf)
    | (refine Both.mk ?_ ?_ <;> conv => whnf)
    | ((first | (refine MkG.box 1 rfl rfl rfl (by decide) ?_) | (refine MkG.box 2 rfl rfl rfl (by decide) ?_) | (refine MkG.box 3 rfl rfl rfl (by decide) ?_) | (refine MkG.row ?_)); conv => whnf)
    | exact trivial
    | (refine Br.mk (fun hb => ?_) (fun hb => ?_) <;> (first | (exfalso; revert hb; decide) | ((try simp only [BL] at hb) <;> (try simp only [DL] at hb) <;> conv => whnf)))
    | (refine And.intro ?_ ?_; (focus (first | exact id | exact rfl | exact trivial | (intro hg; first | exact hg | exact rfl | (simp; done) | (simp at hg ⊢; assumption)) | omega | decide | exact is2_c _ _ _ | exact is1_c _ _ | exact isS_c _ _ | exact isB_c _ _ | exact Nat.le_refl _ | assumption | exact mulLe (by decide) (by omega) | exact mulLe2 (by decide) (by omega) (by omega) | (intros; simp only [BL] at *; omega) | (intros; (try simp only [BL] at *); (try simp only [DL] at *); omega) | (intros; simp only [BL] at *; rw [wr_id (by omega) (by omega)]; omega) | (intro h1 h2; exact Bool.and_eq_true_iff.2 ⟨h1, h2⟩) | (intros; simp_all; done))); conv => whnf)
    | (refine Or.inr (And.intro rfl ?_); first | (refine congrArg intV ?_) | (refine congrArg boolV ?_) | (refine tupII ?_ ?_) | (refine tupIII ?_ ?_ ?_) | (refine tupU ?_ ?_ ?_ ?_ ?_) | exact rfl))
  · exact .inr (.inr ⟨hbn (by simpa using hb), rfl, rfl⟩)
  · refine .inl ⟨[1], [stR2 s], .own 0, rfl, ?_, rfl, rfl, .inl ⟨rfl, rfl⟩⟩
    repeat' (first | (refine And.intro ?_ ?_) | exact trivial | exact rfl | exact (Nat.zero_add _).symm | exact fun h => Bool.noConfusion h | exact fun _ _ _ _ => rfl | omega)
theorem stC_ok {n : Nat} {nm : Nat → ByteArray} {c : Nat} (h : nmOk n nm) : (stC n nm c).ok := h
/-- the first state with a name -/
theorem sIx_at {s : Sts} (hu : unq s) {i : Nat} (hi : i < s.n) : sIx s (s.nm i) = (i : Int) :=
  fidx_at (fun k hk => hu i hi k hk) (b_eq.2 rfl) hi
theorem exE_ok {r : Rls} {s : Sts} {i : Nat} (h1 : rlsE r = 0) (h2 : stsE s = 0) (hi : i < s.n) : exE r s (s.nm i) = 0 := by
  unfold exE
  rw [if_neg (fun h => h h1), if_neg (fun h => h h2), sIx_at (unq_of h2).1 hi, if_neg (by omega)]
theorem orSet0 (n : Nat) (nm : Nat → ByteArray) (c i : Nat) (hn : n ≤ 8) (hm : nmOk n nm) (h2 : stsE (stC n nm c) = 0) (hi : i < n) : Fn Try.prog 49 [stV (stC n nm c), boolV (!c.testBit i), strV (nm i)] (fun obs r => obs = [] ∧ r = .tup [.c (.sl 2 n fun k j => if k = i then (if 1 ≤ j ∧ j < 1 + 1 then ([bL (!c.testBit i)][j - 1]?).getD .un else cSt (stC n nm c) k j) else cSt (stC n nm c) k j), intV 0]) := by
  refine fn_of_wpx (O := lex) tab_ok (Γ := fun _ => none) (fun _ _ h => by cases h) mixed Try.func49 (by kernel_rfl) rfl rfl rfl (by simp [Try.ntmps49]) (by kernel_rfl) ?_
  have hix : fidx (sameN nm (nm i)) n = (i : Int) := sIx_at (s := stC n nm c) (unq_of h2).1 hi
  have hu : n ≤ maxLen := by unfold maxLen; omega
  have h0 : (i : Int).toNat = i := rfl
  conv => whnf
  repeat' (first
    | (refine NilG.mk fun bn hbn hbx => ?_; conv => whnf)
    | (refine Both.mk ?_ ?_ <;> conv => whnf)
    | ((first | (refine MkG.box 1 rfl rfl rfl (by decide) ?_) | (refine MkG.box 2 rfl rfl rfl (by decide) ?_) | (refine MkG.box 3 rfl rfl rfl (by decide) ?_) | (refine MkG.row ?_)); conv => whnf)
    | exact trivial
    | (refine Br.mk (fun hb => ?_) (fun hb => ?_) <;> (first | (exfalso; revert hb; decide) | ((try simp only [BL] at hb) <;> (try simp only [DL] at hb) <;> (first | (exfalso; omega) | (conv => whnf)))))
    | (refine And.intro ?_ ?_; (focus (first | exact id | exact rfl | exact trivial | (intro hg; first | exact hg | exact rfl | (simp; done) | (simp at hg ⊢; assumption)) | omega | decide | exact is2_c _ _ _ | exact is1_c _ _ | exact isS_c _ _ | exact isB_c _ _ | exact Nat.le_refl _ | assumption | exact mulLe (by decide) (by omega) | exact mulLe2 (by decide) (by omega) (by omega) | (intros; simp only [BL] at *; omega) | (intros; (try simp only [BL] at *); (try simp only [DL] at *); omega) | (intros; simp only [BL] at *; rw [wr_id (by omega) (by omega)]; omega) | (intro h1 h2; exact Bool.and_eq_true_iff.2 ⟨h1, h2⟩) | (intros; simp_all; done))); conv => whnf)
    | (refine Or.inr (And.intro rfl ?_); first | (refine congrArg intV ?_) | (refine congrArg boolV ?_) | (refine tupII ?_ ?_) | (refine tupIII ?_ ?_ ?_) | (refine tupU ?_ ?_ ?_ ?_ ?_) | exact rfl))
  refine CallG.mk (Fn.mono (stsChk (stC n nm c) (stC_ok hm)) ?_)
  rintro obs r ⟨rfl, rfl⟩
  rw [h2]
  conv => whnf
  repeat' (first
    | (refine NilG.mk fun bn hbn hbx => ?_; conv => whnf)
    | (refine Both.mk ?_ ?_ <;> conv => whnf)
    | ((first | (refine MkG.box 1 rfl rfl rfl (by decide) ?_) | (refine MkG.box 2 rfl rfl rfl (by decide) ?_) | (refine MkG.box 3 rfl rfl rfl (by decide) ?_) | (refine MkG.row ?_)); conv => whnf)
    | exact trivial
    | (refine Br.mk (fun hb => ?_) (fun hb => ?_) <;> (first | (exfalso; revert hb; decide) | ((try simp only [BL] at hb) <;> (try simp only [DL] at hb) <;> (first | (exfalso; omega) | (conv => whnf)))))
    | (refine And.intro ?_ ?_; (focus (first | exact id | exact rfl | exact trivial | (intro hg; first | exact hg | exact rfl | (simp; done) | (simp at hg ⊢; assumption)) | omega | decide | exact is2_c _ _ _ | exact is1_c _ _ | exact isS_c _ _ | exact isB_c _ _ | exact Nat.le_refl _ | assumption | exact mulLe (by decide) (by omega) | exact mulLe2 (by decide) (by omega) (by omega) | (intros; simp only [BL] at *; omega) | (intros; (try simp only [BL] at *); (try simp only [DL] at *); omega) | (intros; simp only [BL] at *; rw [wr_id (by omega) (by omega)]; omega) | (intro h1 h2; exact Bool.and_eq_true_iff.2 ⟨h1, h2⟩) | (intros; simp_all; done))); conv => whnf)
    | (refine Or.inr (And.intro rfl ?_); first | (refine congrArg intV ?_) | (refine congrArg boolV ?_) | (refine tupII ?_ ?_) | (refine tupIII ?_ ?_ ?_) | (refine tupU ?_ ?_ ?_ ?_ ?_) | exact rfl))
  refine CallG.mk (Fn.mono (ilIdx (stC n nm c) n (nm i) hu) ?_)
  rintro obs r ⟨rfl, rfl⟩
  rw [show fidx (sameN (stC n nm c).nm (nm i)) n = (i : Int) from hix]
  conv => whnf
  repeat' (first
    | (refine NilG.mk fun bn hbn hbx => ?_; conv => whnf)
    | (refine Both.mk ?_ ?_ <;> conv => whnf)
    | ((first | (refine MkG.box 1 rfl rfl rfl (by decide) ?_) | (refine MkG.box 2 rfl rfl rfl (by decide) ?_) | (refine MkG.box 3 rfl rfl rfl (by decide) ?_) | (refine MkG.row ?_)); conv => whnf)
    | exact trivial
    | (refine Br.mk (fun hb => ?_) (fun hb => ?_) <;> (first | (exfalso; revert hb; decide) | ((try simp only [BL] at hb) <;> (try simp only [DL] at hb) <;> (first | (exfalso; omega) | (conv => whnf)))))
    | (refine And.intro ?_ ?_; (focus (first | exact id | exact rfl | exact trivial | (intro hg; first | exact hg | exact rfl | (simp; done) | (simp at hg ⊢; assumption)) | omega | decide | exact is2_c _ _ _ | exact is1_c _ _ | exact isS_c _ _ | exact isB_c _ _ | exact Nat.le_refl _ | assumption | exact mulLe (by decide) (by omega) | exact mulLe2 (by decide) (by omega) (by omega) | (intros; simp only [BL] at *; omega) | (intros; (try simp only [BL] at *); (try simp only [DL] at *); omega) | (intros; simp only [BL] at *; rw [wr_id (by omega) (by omega)]; omega) | (intro h1 h2; exact Bool.and_eq_true_iff.2 ⟨h1, h2⟩) | exact ⟨rfl, by omega, by decide⟩ | (intros; simp_all; done))); conv => whnf)
    | (refine Or.inr (And.intro rfl ?_); first | (refine congrArg intV ?_) | (refine congrArg boolV ?_) | (refine tupII ?_ ?_) | (refine tupIII ?_ ?_ ?_) | (refine tupU ?_ ?_ ?_ ?_ ?_) | exact rfl))
  · exfalso
    have hb : c.testBit i = !c.testBit i := hb
    revert hb
    cases c.testBit i <;> decide
  refine CallG.mk (Fn.mono (orClS (stC n nm c) (by show n ≤ 1000; omega)) ?_)
  rintro obs r (⟨rfl, rfl⟩ | ⟨h9, _⟩)
  · conv => whnf
    repeat' (first
      | (refine NilG.mk fun bn hbn hbx => ?_; conv => whnf)
      | (refine Both.mk ?_ ?_ <;> conv => whnf)
      | ((first | (refine MkG.box 1 rfl rfl rfl (by decide) ?_) | (refine MkG.box 2 rfl rfl rfl (by decide) ?_) | (refine MkG.box 3 rfl rfl rfl (by decide) ?_) | (refine MkG.row ?_)); conv => whnf)
      | exact trivial
      | (refine Br.mk (fun hb => ?_) (fun hb => ?_) <;> (first | (exfalso; revert hb; decide) | ((try simp only [BL] at hb) <;> (try simp only [DL] at hb) <;> (first | (exfalso; omega) | (conv => whnf)))))
      | (refine And.intro ?_ ?_; (focus (first | exact id | exact rfl | exact trivial | (intro hg; first | exact hg | exact rfl | (simp; done) | (simp at hg ⊢; assumption)) | omega | decide | exact is2_c _ _ _ | exact is1_c _ _ | exact isS_c _ _ | exact isB_c _ _ | exact Nat.le_refl _ | assumption | exact mulLe (by decide) (by omega) | exact mulLe2 (by decide) (by omega) (by omega) | (intros; simp only [BL] at *; omega) | (intros; (try simp only [BL] at *); (try simp only [DL] at *); omega) | (intros; simp only [BL] at *; rw [wr_id (by omega) (by omega)]; omega) | (intro h1 h2; exact Bool.and_eq_true_iff.2 ⟨h1, h2⟩) | exact ⟨rfl, by omega, by decide⟩ | (intros; simp_all; done))); conv => whnf)
      | (refine Or.inr (And.intro rfl ?_); first | (refine congrArg intV ?_) | (refine congrArg boolV ?_) | (refine tupII ?_ ?_) | (refine tupIII ?_ ?_ ?_) | (refine tupU ?_ ?_ ?_ ?_ ?_) | exact rfl))
  · have h9 : n = 0 := h9
    omega
theorem orSet (n : Nat) (nm : Nat → ByteArray) (c i : Nat) (hn : n ≤ 8) (hm : nmOk n nm) (h2 : stsE (stC n nm c) = 0) (hi : i < n) : Fn1 Try.prog 49 [stV (stC n nm c), boolV (!c.testBit i), strV (nm i)] (.tup [stV (stC n nm (c ^^^ 2 ^ i)), intV 0]) :=
  (orSet0 n nm c i hn hm h2 hi).res fun obs r ⟨h1, h2⟩ => ⟨_, ⟨h1, rfl⟩, by
    rw [h2]
    refine Le1.tup (Le.cons (Le1.sl fun k hk j hj => ?_) (Le.cons (Le1.refl _) Le.nil))
    match j, hj with
    | 0, _ =>
      by_cases e : k = i
      · exact if_pos e
      · exact if_neg e
    | 1, _ =>
      show _ = bL ((c ^^^ 2 ^ i).testBit k)
      rw [tb_xor]
      by_cases e : k = i
      · refine (if_pos e).trans ?_
        subst e
        show bL _ = _
        rw [decide_eq_true rfl, Bool.xor_true]
      · refine (if_neg e).trans ?_
        show bL _ = _
        rw [decide_eq_false (fun h => e h.symm), Bool.xor_false]⟩
/-- what the search is about: the rules, the switches' names, what is held -/
structure OrX where
  r : Rls
  n : Nat
  nm : Nat → ByteArray
  hN : Nat
  H : Nat → ByteArray
def OrX.ok (X : OrX) : Prop := X.r.ok ∧ nmOk X.n X.nm ∧ X.hN ≤ maxLen ∧ X.n ≤ 8 ∧ rlsE X.r = 0 ∧ stsE (stC X.n X.nm 0) = 0
/-- switch i may be operated in state c -/
def OrX.e (X : OrX) (c i : Nat) : Bool := !hasB X.H X.hN (X.nm i) && ((flN (fbB X.r (stC X.n X.nm c) (!c.testBit i) (X.nm i)) X.r.n : Int) == 0)
theorem OrX.st {X : OrX} (h : X.ok) (c : Nat) : stsE (stC X.n X.nm c) = 0 := h.2.2.2.2.2
theorem orPerm (X : OrX) (h : X.ok) (c i : Nat) (hi : i < X.n) : Fn1 Try.prog 50 [rlV X.r, stV (stC X.n X.nm c), boolV (!c.testBit i), strV (X.nm i)] (.tup [boolV ((flN (fbB X.r (stC X.n X.nm c) (!c.testBit i) (X.nm i)) X.r.n : Int) == 0), intV 0]) := by
  have h1 := ilPermitted X.r (stC X.n X.nm c) (!c.testBit i) (X.nm i) h.1 (stC_ok h.2.1)
  have h2 : exE X.r (stC X.n X.nm c) (X.nm i) = 0 := exE_ok (s := stC X.n X.nm c) h.2.2.2.2.1 (X.st h c) hi
  have h3 : exN X.r (stC X.n X.nm c) (!c.testBit i) (X.nm i) = flN (fbB X.r (stC X.n X.nm c) (!c.testBit i) (X.nm i)) X.r.n := if_pos h2
  rw [h2, h3] at h1
  exact h1
end Go.Proofs.Ytemfikdogdadnaa
