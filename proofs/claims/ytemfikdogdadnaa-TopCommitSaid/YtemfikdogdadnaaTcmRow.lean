/-
  TopCommit holds: the cost of a commitment is at least every bound, its schedules are permitted, and serving each period alone costs what the schedules say, whatever the generators, the demands and the prices.
-/
import Derived.Test.YtemfikdogdadnaaTcm
namespace Go.Proofs.Ytemfikdogdadnaa
open Go.RowKit Go.ChangeShapes Go.WideShapes

def tyRlT : Ty := .st (.cons .s (.cons (.i .i64) (.cons (.i .i64) (.cons (.i .i64) (.cons (.i .i64) (.cons (.i .i64) (.cons (.i .i64) (.cons (.i .i64) .nil))))))))
def tyStC : Ty := .st (.cons .b (.cons (.i .i64) (.cons (.i .i64) .nil)))
def tyCuT : Ty := .st (.cons tyRlT (.cons tyOff (.cons tyStC .nil)))
theorem topCommit_own : ownKnob Try.prog.godebug = none := by kernel_rfl
theorem topCommit_laid : laidOutB Try.prog = true := by kernel_rfl

set_option maxRecDepth 100000 in
theorem topCommit_lifted (os : Os) (started : os.Started) (H : Type) (enc : TypeId × Value → H) :
    ReturnsInHanded {} Try.checked os 5 .any (Rows.topCommitSpec.pre6 enc Try.prog Try.f5 Rows.topCommitRow.domain false) (Rows.topCommitSpec.post enc Try.prog Try.f5 false true false false) := by
  refine returnsInHanded_of_change (C := Try.checked) topCommit_own started (by kernel_rfl) Try.func5
    (ChangeSpec.witness6 (enc := enc) (C := Try.checked) false ⟨#[], #[.slice none 0 0, .slice none 0 0, .slice none 0 0], []⟩ 8 (by kernel_rfl) (by kernel_rfl) (by kernel_rfl) (by kernel_rfl)) ?_
  intro W base args ds gs before hval0 hW hcnd _
  have hval : ∀ (j : Nat) t v, Try.f5.params[j]? = some t → args[j]? = some v → Value.okWide Try.prog W .any base t v := hval0
  have hW' : DataW.Whole enc Try.prog Try.f5.params.toList Rows.topCommitSpec.vars false W args.toList ds gs before := hW
  exact law_post (P := Try.prog) [.sl tyCuT, .sl (.i .i64), .sl (.i .i64)] (by kernel_rfl) topCommit_laid (by kernel_rfl) rfl (tb := 4) rfl (by kernel_rfl) (fun ds h => by
    match ds, h with
    | [d1, d2, d3], _ => rfl) (fun x hx => tcLaw (fun k => ⟨⟨(x.1.2 k).1.1, (x.1.2 k).1.2.1, (x.1.2 k).1.2.2.1, (x.1.2 k).1.2.2.2.1, (x.1.2 k).1.2.2.2.2.1, (x.1.2 k).1.2.2.2.2.2.1, (x.1.2 k).1.2.2.2.2.2.2.1, (x.1.2 k).1.2.2.2.2.2.2.2.1⟩, (x.1.2 k).2.1.1, (x.1.2 k).2.1.2.1.1, (fun i => ((x.1.2 k).2.1.2.1.2 i).1), (fun i => ((x.1.2 k).2.1.2.1.2 i).2.1), (x.1.2 k).2.2.1.1, (x.1.2 k).2.2.1.2.1, (x.1.2 k).2.2.1.2.2.1⟩) x.1.1 x.2.1.1 x.2.2.1.1 x.2.1.2 x.2.2.1.2 hx.1.1 hx.2.1.1 hx.2.2.1.1 (fun k hk => ⟨(hx.1.2 k hk).1.1, (hx.1.2 k hk).2.1.1, (hx.1.2 k hk).2.1.2.1.1⟩)) W args ds gs before hval hW'

theorem topCommit_holds : Rows.TopCommitSaid :=
  OpenClaim.holds_of_wide 5 Try.f5 rfl rfl rfl rfl rfl rfl rfl ⟨rfl, rfl, rfl, rfl, rfl⟩ rfl rfl rfl rfl rfl (by kernel_rfl) Try.func5 (by kernel_rfl)
    (of_decide_eq_true (by kernel_rfl)) (by unfold Func.isWrapper; rw [if_neg (by decide +kernel)]; exact ⟨rfl, rfl⟩)
    (fun os started H enc _ => topCommit_lifted os started H enc)
end Go.Proofs.Ytemfikdogdadnaa
