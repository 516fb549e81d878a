/-
  Permits: the law's known example, the kind of a call.
-/
import Derived.Test.YtkkkldhilofgmaaPmF
namespace Go.Proofs.Ytkkkldhilofgmaa
open Go.RowKit

theorem FnM.le' {P : Program} {f : FuncId} {os : List OB} {bs' bs : List AV} {K : List OB → AV → Prop} (h : FnM P f os bs K) (hl : Le bs' bs) : FnM P f os bs' K :=
  ⟨h.1, fun w I σ0 vs hs hd => h.2 w I σ0 vs hs (hl _ _ _ _ hd)⟩
def kdZ (x : Int) : Int := if x.tmod 3 < 0 then x.tmod 3 + 3 else x.tmod 3
theorem pmCut (x : Int) : Fn1 Try.prog 40 [intV x, intV 0, intV 2] (intV (kdZ x)) := by
  refine fn_of_wpx (O := lex) tab_ok gamPf_ok mixed Try.func40 (by kernel_rfl) rfl rfl rfl (by simp [Try.ntmps40]) (by kernel_rfl) ?_
  have h1 : -3 < x.tmod 3 ∧ x.tmod 3 < 3 := ⟨by have := Int.lt_tmod_of_pos x (by decide : (0 : Int) < 3); omega, Int.tmod_lt_of_pos x (by decide)⟩
  conv => whnf
  repeat' (first
    | (refine NilG.mk fun bn hbn hbx => ?_; conv => whnf)
    | (refine Both.mk ?_ ?_ <;> conv => whnf)
    | exact trivial
    | (refine Br.mk (fun hb => ?_) (fun hb => ?_) <;> (first | (exfalso; revert hb; decide) | ((try simp only [BL] at hb) <;> (try simp only [DL] at hb) <;> (first | (exfalso; omega) | (conv => whnf)))))
    | (refine And.intro ?_ ?_; (focus (first | exact id | exact rfl | exact trivial | (intro hg; first | exact hg | exact rfl | (simp; done) | (simp at hg ⊢; assumption)) | omega | decide | exact is2_c _ _ _ | exact is1_c _ _ | exact isS_c _ _ | exact isB_c _ _ | exact Nat.le_refl _ | assumption | exact mulLe (by decide) (by omega) | exact mulLe2 (by decide) (by omega) (by omega) | (intros; simp only [BL] at *; omega) | (intros; (try simp only [BL] at *); (try simp only [DL] at *); omega) | (intros; simp only [BL] at *; rw [wr_id (by omega) (by omega)]; omega) | (intro h1 h2; exact Bool.and_eq_true_iff.2 ⟨h1, h2⟩) | (intros; simp_all; done))); conv => whnf)
    | (refine Or.inr (And.intro rfl ?_); first | (refine congrArg intV ?_) | (refine congrArg boolV ?_) | (refine tupII ?_ ?_) | (refine tupIII ?_ ?_ ?_) | (refine tupU ?_ ?_ ?_ ?_ ?_) | exact rfl))
  · have e : IntKind.i64.wrap (IntKind.i64.wrap (2 - 0) + 1) = 3 := by decide
    rw [e] at hb ⊢
    rw [wr_id (x := x.tmod 3 + 3) (by omega) (by omega), wr_id (by omega) (by omega), Int.zero_add]
    exact (if_pos hb).symm
  · have e : IntKind.i64.wrap (IntKind.i64.wrap (2 - 0) + 1) = 3 := by decide
    rw [e] at hb ⊢
    rw [wr_id (by omega) (by omega), Int.zero_add]
    exact (if_neg hb).symm
def bA : ByteArray := ⟨#[65]⟩
def bB : ByteArray := ⟨#[66]⟩
def bTeam : ByteArray := ⟨#[84, 69, 65, 77]⟩
def dAB (k : Nat) : ByteArray := if k = 0 then bA else bB
def dOneB (_ : Nat) : ByteArray := bB
theorem ab_ok : nmOk 2 dAB := ⟨by decide, fun k _ => by unfold dAB; split <;> decide⟩
theorem b_ok : nmOk 1 dOneB := ⟨by decide, fun k _ => (by decide : bB.size ≤ maxLen)⟩
theorem ab0 : nmsE 2 dAB = 0 := by decide +kernel
theorem abI : isE 2 dAB bTeam 1 dOneB 0 = 0 := by decide +kernel
def pEx : Pap := p0.push 1 bTeam 1 dOneB
theorem exHd : hdL pEx dAB 2 = [bB] := by decide +kernel
theorem exNew : Fn Try.prog 32 [.c (.sl 1 2 (cS dAB))] (fun obs r => obs = [dkB 2 dAB 0, paR0] ∧ r = .tup [.lp 0 0, intV 0]) := pmNew 2 dAB ab_ok ab0
theorem exIss : FnM Try.prog 33 [dkB 2 dAB 0, paR0] [.lp 0 0, strV bTeam, .c (.sl 1 1 (cS dOneB))] (fun obs r => obs = [.box [.c (.sl 1 2 (cS dAB)), .own 2, intV 1], .dead, paR pEx] ∧ r = .tup [intV 1, intV 0]) :=
  FnM.leO (pmIssK 2 dAB 0 p0 bTeam 1 dOneB (by decide) (by decide) b_ok abI ⟨Int.le_refl _, by decide⟩ (by decide)) ⟨OLe.refl _, OLe.row (fun k hk => absurd hk (Nat.not_lt_zero k)) (fun h => nomatch h), trivial⟩
theorem exHld : Fn1 Try.prog 35 [.xp 3 (dkF 2 dAB pEx 1)] (.c (.sl 1 1 (cS (lY [bB])))) := by
  have h := pmHld 2 dAB pEx 1 (by decide) ⟨by decide, fun k hk => by decide +revert +kernel⟩
  rw [exHd] at h
  exact h
end Go.Proofs.Ytkkkldhilofgmaa
