/-
  CommitBest holds: the cost of Best is the least one of all patterns of all generators, for at most two generators and four periods, whatever the generators and the demands.
-/
import Derived.Test.YtemfikdogdadnaaCbl
namespace Go.Proofs.Ytemfikdogdadnaa
open Go.RowKit Go.ChangeShapes Go.WideShapes

def tyRlT : Ty := .st (.cons .s (.cons (.i .i64) (.cons (.i .i64) (.cons (.i .i64) (.cons (.i .i64) (.cons (.i .i64) (.cons (.i .i64) (.cons (.i .i64) .nil))))))))
def tyStC : Ty := .st (.cons .b (.cons (.i .i64) (.cons (.i .i64) .nil)))
def tyCuT : Ty := .st (.cons tyRlT (.cons tyOff (.cons tyStC .nil)))
theorem commitBest_own : ownKnob Try.prog.godebug = none := by kernel_rfl
theorem commitBest_laid : laidOutB Try.prog = true := by kernel_rfl

set_option maxRecDepth 100000 in
theorem commitBest_lifted (os : Os) (started : os.Started) (H : Type) (enc : TypeId × Value → H) :
    ReturnsInHanded {} Try.checked os 7 .any (Rows.commitBestSpec.pre6 enc Try.prog Try.f7 Rows.commitBestRow.domain false) (Rows.commitBestSpec.post enc Try.prog Try.f7 false true false false) := by
  refine returnsInHanded_of_change (C := Try.checked) commitBest_own started (by kernel_rfl) Try.func7
    (ChangeSpec.witness6 (enc := enc) (C := Try.checked) false ⟨#[], #[.slice none 0 0, .slice none 0 0], []⟩ 8 (by kernel_rfl) (by kernel_rfl) (by kernel_rfl) (by kernel_rfl)) ?_
  intro W base args ds gs before hval0 hW hcnd _
  have hval : ∀ (j : Nat) t v, Try.f7.params[j]? = some t → args[j]? = some v → Value.okWide Try.prog W .any base t v := hval0
  have hW' : DataW.Whole enc Try.prog Try.f7.params.toList Rows.commitBestSpec.vars false W args.toList ds gs before := hW
  exact law_post (P := Try.prog) [.sl tyCuT, .sl (.i .i64)] (by kernel_rfl) commitBest_laid (by kernel_rfl) rfl (tb := 4) rfl (by kernel_rfl) (fun ds h => by
    match ds, h with
    | [d1, d2], _ => rfl) (fun x hx => cbLaw (fun k => ⟨⟨(x.1.2 k).1.1, (x.1.2 k).1.2.1, (x.1.2 k).1.2.2.1, (x.1.2 k).1.2.2.2.1, (x.1.2 k).1.2.2.2.2.1, (x.1.2 k).1.2.2.2.2.2.1, (x.1.2 k).1.2.2.2.2.2.2.1, (x.1.2 k).1.2.2.2.2.2.2.2.1⟩, (x.1.2 k).2.1.1, (x.1.2 k).2.1.2.1.1, (fun i => ((x.1.2 k).2.1.2.1.2 i).1), (fun i => ((x.1.2 k).2.1.2.1.2 i).2.1), (x.1.2 k).2.2.1.1, (x.1.2 k).2.2.1.2.1, (x.1.2 k).2.2.1.2.2.1⟩) x.1.1 x.2.1.1 x.2.1.2 hx.1.1 hx.2.1.1 (fun k hk => ⟨(hx.1.2 k hk).1.1, (hx.1.2 k hk).2.1.1, (hx.1.2 k hk).2.1.2.1.1⟩)) W args ds gs before hval hW'

theorem commitBest_holds : Rows.CommitBestSaid :=
  OpenClaim.holds_of_wide 7 Try.f7 rfl rfl rfl rfl rfl rfl rfl ⟨rfl, rfl, rfl, rfl, rfl⟩ rfl rfl rfl rfl rfl (by kernel_rfl) Try.func7 (by kernel_rfl)
    (of_decide_eq_true (by kernel_rfl)) (by unfold Func.isWrapper; rw [if_neg (by decide +kernel)]; exact ⟨rfl, rfl⟩)
    (fun os started H enc _ => commitBest_lifted os started H enc)
end Go.Proofs.Ytemfikdogdadnaa
