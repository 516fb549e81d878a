/-
  The offer that the tests of the laws give.
-/
import Derived.Test.YtemfikdogdadnaaOff2
namespace Go.Proofs.Ytemfikdogdadnaa
open Go.RowKit

/-- two: an offer that is given by the test -/
def twoP : Nat → Int := fun _ => 10
def twoQ : Nat → Int := fun k => if k = 0 then 5 else 8
def twoF (s : ByteArray) (obs : List OB) (r : AV) : Prop := obs = [] ∧ ∃ f, r = .agg [strV s, .c (.sl 2 2 f)] ∧ Sh 2 2 f (c2 twoP twoQ)
theorem two0 (s : ByteArray) : Fn Try.prog 61 [strV s] (twoF s) := by
  refine fn_of_wpx (O := lex) tab_ok gamO1_ok mixed Try.func61 (by kernel_rfl) rfl rfl rfl (by simp [Try.ntmps61]) (by kernel_rfl) ?_
  conv => whnf
  repeat' (first
    | (refine NilG.mk fun bn hbn hbx => ?_; conv => whnf)
    | (refine Both.mk ?_ ?_ <;> conv => whnf)
    | ((first | (refine MkG.box 1 rfl rfl rfl (by decide) ?_) | (refine MkG.box 2 rfl rfl rfl (by decide) ?_) | (refine MkG.box 3 rfl rfl rfl (by decide) ?_) | (refine MkG.row ?_)); conv => whnf)
    | exact trivial
    | (refine Br.mk (fun hb => ?_) (fun hb => ?_) <;> (first | (exfalso; revert hb; decide) | ((try simp only [BL] at hb) <;> (try simp only [DL] at hb) <;> conv => whnf)))
    | (refine And.intro ?_ ?_; (focus (first | exact id | exact rfl | exact trivial | (intro hg; first | exact hg | exact rfl | (simp; done) | (simp at hg ⊢; assumption)) | omega | decide | exact is2_c _ _ _ | exact is1_c _ _ | exact isS_c _ _ | exact isB_c _ _ | exact Nat.le_refl _ | assumption | exact mulLe (by decide) (by omega) | exact mulLe2 (by decide) (by omega) (by omega) | (intros; simp only [BL] at *; omega) | (intros; (try simp only [BL] at *); (try simp only [DL] at *); omega) | (intros; simp only [BL] at *; rw [wr_id (by omega) (by omega)]; omega) | (intro h1 h2; exact Bool.and_eq_true_iff.2 ⟨h1, h2⟩) | (intros; simp_all; done))); conv => whnf)
    | (refine Or.inr (And.intro rfl ?_); first | (refine congrArg intV ?_) | (refine congrArg boolV ?_) | (refine tupII ?_ ?_) | (refine tupIII ?_ ?_ ?_) | (refine tupU ?_ ?_ ?_ ?_ ?_) | exact rfl))
  refine .inr ⟨rfl, _, rfl, fun k hk j hj => ?_⟩
  match k, j, hk, hj with
  | 0, 0, _, _ => rfl
  | 0, 1, _, _ => rfl
  | 1, 0, _, _ => rfl
  | 1, 1, _, _ => rfl
theorem two (s : ByteArray) : Fn1 Try.prog 61 [strV s] (offV s 2 twoP twoQ) :=
  (two0 s).res fun obs r ⟨h1, f, h2, h3⟩ => ⟨_, ⟨h1, rfl⟩, h2 ▸ Le1.agg (Le.cons (Le1.refl _) (Le.cons (Le1.sl h3) Le.nil))⟩

def tyOff : Ty := .st (.cons .s (.cons (.sl (.st (.cons (.i .i64) (.cons (.i .i64) .nil)))) .nil))
end Go.Proofs.Ytemfikdogdadnaa
