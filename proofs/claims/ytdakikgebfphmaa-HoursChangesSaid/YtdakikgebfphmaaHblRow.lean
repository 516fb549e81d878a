/-
  HoursChanges holds: the cost of Change is the least one of all permitted changes, whatever the input.
-/
import Derived.Test.YtdakikgebfphmaaHblLaw
namespace Go.Proofs.Ytdakikgebfphmaa
open Go.RowKit Go.ChangeShapes Go.WideShapes

theorem hoursChanges_own : ownKnob Try.prog.godebug = none := by kernel_rfl
theorem hoursChanges_laid : laidOutB Try.prog = true := by kernel_rfl

set_option maxRecDepth 100000 in
theorem hoursChanges_lifted (os : Os) (started : os.Started) (H : Type) (enc : TypeId × Value → H) :
    ReturnsInHanded {} Try.checked os 10 .any (Rows.hoursChangesSpec.pre6 enc Try.prog Try.f10 Rows.hoursChangesRow.domain false) (Rows.hoursChangesSpec.post enc Try.prog Try.f10 false true false false) := by
  refine returnsInHanded_of_change (C := Try.checked) hoursChanges_own started (by kernel_rfl) Try.func10
    (ChangeSpec.witness6 (enc := enc) (C := Try.checked) false ⟨#[], #[.slice none 0 0, .slice none 0 0, .int .i64 0, .int .i64 0], []⟩ 8 (by kernel_rfl) (by kernel_rfl) (by kernel_rfl) (by kernel_rfl)) ?_
  intro W base args ds gs before hval0 hW hcnd _
  have hval : ∀ (j : Nat) t v, Try.f10.params[j]? = some t → args[j]? = some v → Value.okWide Try.prog W .any base t v := hval0
  have hW' : DataW.Whole enc Try.prog Try.f10.params.toList Rows.hoursChangesSpec.vars false W args.toList ds gs before := hW
  exact law_post (P := Try.prog) [.sl tyOff, .sl (.i .i64), .i .i64, .i .i64] (by kernel_rfl) hoursChanges_laid (by kernel_rfl) rfl (tb := 4) rfl (by kernel_rfl) (fun ds h => by
    match ds, h with
    | [d1, d2, d3, d4], _ => rfl) (fun x hx => hcLaw (fun k => (x.1.2 k).1) (fun k => (x.1.2 k).2.1.1) (fun k i => ((x.1.2 k).2.1.2 i).1) (fun k i => ((x.1.2 k).2.1.2 i).2.1) x.1.1 x.2.1.1 x.2.1.2 x.2.2.1 x.2.2.2.1 hx.1.1 (fun k hk => ⟨(hx.1.2 k hk).1, (hx.1.2 k hk).2.1.1⟩) hx.2.1.1) W args ds gs before hval hW'

theorem hoursChanges_holds : Rows.HoursChangesSaid :=
  OpenClaim.holds_of_wide 10 Try.f10 rfl rfl rfl rfl rfl rfl rfl ⟨rfl, rfl, rfl, rfl, rfl⟩ rfl rfl rfl rfl rfl (by kernel_rfl) Try.func10 (by kernel_rfl)
    (of_decide_eq_true (by kernel_rfl)) (by unfold Func.isWrapper; rw [if_neg (by decide +kernel)]; exact ⟨rfl, rfl⟩)
    (fun os started H enc _ => hoursChanges_lifted os started H enc)
end Go.Proofs.Ytdakikgebfphmaa
