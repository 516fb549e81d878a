/-
  Permits: the statement.
-/
import Derived.Test.YtkkkldhilofgmaaPmL
namespace Go.Proofs.Ytkkkldhilofgmaa
open Go.RowKit

abbrev tyPc : Ty := .st (.cons (.i .i64) (.cons (.i .i64) (.cons .s (.cons .s (.cons (.sl .s) .nil)))))
theorem permitSays_own : ownKnob Try.prog.godebug = none := by kernel_rfl
theorem permitSays_laid : laidOutB Try.prog = true := by kernel_rfl

set_option maxRecDepth 100000 in
theorem permitSays_lifted (os : Os) (started : os.Started) (H : Type) (enc : TypeId × Value → H) :
    ReturnsInHanded {} Try.checked os 7 .any (Rows.permitSaysSpec.pre6 enc Try.prog Try.f7 Rows.permitSaysRow.domain false) (Rows.permitSaysSpec.post enc Try.prog Try.f7 false true false false) := by
  refine returnsInHanded_of_change (C := Try.checked) permitSays_own started (by kernel_rfl) Try.func7
    (ChangeSpec.witness6 (enc := enc) (C := Try.checked) false ⟨#[], #[.slice none 0 0, .slice none 0 0, .string ⟨#[]⟩], []⟩ 8 (by kernel_rfl) (by kernel_rfl) (by kernel_rfl) (by kernel_rfl)) ?_
  intro W base args ds gs before hval0 hW hcnd _
  have hval : ∀ (j : Nat) t v, Try.f7.params[j]? = some t → args[j]? = some v → Value.okWide Try.prog W .any base t v := hval0
  have hW' : DataW.Whole enc Try.prog Try.f7.params.toList Rows.permitSaysSpec.vars false W args.toList ds gs before := hW
  exact law_post (P := Try.prog) [.sl .s, .sl tyPc, .s] (by kernel_rfl) permitSays_laid (by kernel_rfl) rfl (tb := 4) rfl (by kernel_rfl) (fun ds h => by
    match ds, h with
    | [d1, d2, d3], _ => rfl) (fun x hx => pmLaw x.1.1 x.1.2 ⟨x.2.1.1, fun k => ⟨(x.2.1.2 k).1, (x.2.1.2 k).2.1, (x.2.1.2 k).2.2.1, (x.2.1.2 k).2.2.2.1, (x.2.1.2 k).2.2.2.2.1.1, (x.2.1.2 k).2.2.2.2.1.2⟩⟩ x.2.2.1 hx.1 ⟨hx.2.1.1, fun k hk => ⟨(hx.2.1.2 k hk).2.2.1, (hx.2.1.2 k hk).2.2.2.1, (hx.2.1.2 k hk).2.2.2.2.1⟩⟩ hx.2.2.1) W args ds gs before hval hW'

theorem permitSays_holds : Rows.PermitSaysSaid :=
  OpenClaim.holds_of_wide 7 Try.f7 rfl rfl rfl rfl rfl rfl rfl ⟨rfl, rfl, rfl, rfl, rfl⟩ rfl rfl rfl rfl rfl (by kernel_rfl) Try.func7 (by kernel_rfl)
    (of_decide_eq_true (by kernel_rfl)) (by unfold Func.isWrapper; rw [if_neg (by decide +kernel)]; exact ⟨rfl, rfl⟩)
    (fun os started H enc _ => permitSays_lifted os started H enc)
end Go.Proofs.Ytkkkldhilofgmaa
