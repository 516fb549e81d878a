/-
  TopOrders holds: no order that is planned operates a switch for which someone holds a permit, and it leads to the wanted states, whatever the rules, the states and the number.
-/
import Derived.Test.YtemfikdogdadnaaTorLaw
namespace Go.Proofs.Ytemfikdogdadnaa
open Go.RowKit Go.ChangeShapes Go.WideShapes

def tyNodeT : Ty := .st (.cons (.i .i64) (.cons .s (.cons (.i .i64) (.cons (.i .i64) .nil))))
def tyRuleT : Ty := .st (.cons .b (.cons .s (.cons (.sl tyNodeT) .nil)))
def tyStT : Ty := .st (.cons .s (.cons .b .nil))
theorem topOrders_own : ownKnob Try.prog.godebug = none := by kernel_rfl
theorem topOrders_laid : laidOutB Try.prog = true := by kernel_rfl

set_option maxRecDepth 100000 in
theorem topOrders_lifted (os : Os) (started : os.Started) (H : Type) (enc : TypeId × Value → H) :
    ReturnsInHanded {} Try.checked os 4 .any (Rows.topOrdersSpec.pre6 enc Try.prog Try.f4 Rows.topOrdersRow.domain false) (Rows.topOrdersSpec.post enc Try.prog Try.f4 false true false false) := by
  refine returnsInHanded_of_change (C := Try.checked) topOrders_own started (by kernel_rfl) Try.func4
    (ChangeSpec.witness6 (enc := enc) (C := Try.checked) false ⟨#[], #[.slice none 0 0, .slice none 0 0, .slice none 0 0, .int .i64 0], []⟩ 8 (by kernel_rfl) (by kernel_rfl) (by kernel_rfl) (by kernel_rfl)) ?_
  intro W base args ds gs before hval0 hW hcnd _
  have hval : ∀ (j : Nat) t v, Try.f4.params[j]? = some t → args[j]? = some v → Value.okWide Try.prog W .any base t v := hval0
  have hW' : DataW.Whole enc Try.prog Try.f4.params.toList Rows.topOrdersSpec.vars false W args.toList ds gs before := hW
  exact law_post (P := Try.prog) [.sl tyRuleT, .sl tyStT, .sl tyStT, .i .i64] (by kernel_rfl) topOrders_laid (by kernel_rfl) rfl (tb := 4) rfl (by kernel_rfl) (fun ds h => by
    match ds, h with
    | [d1, d2, d3, d4], _ => rfl) (fun x hx => torLaw ⟨x.1.1, fun k => (x.1.2 k).1, fun k => (x.1.2 k).2.1, fun k => ⟨(x.1.2 k).2.2.1.1, fun j => ((x.1.2 k).2.2.1.2 j).1, fun j => ((x.1.2 k).2.2.1.2 j).2.1, fun j => ((x.1.2 k).2.2.1.2 j).2.2.1, fun j => ((x.1.2 k).2.2.1.2 j).2.2.2.1⟩⟩ ⟨x.2.1.1, fun k => (x.2.1.2 k).1, fun k => (x.2.1.2 k).2.1⟩ ⟨x.2.2.1.1, fun k => (x.2.2.1.2 k).1, fun k => (x.2.2.1.2 k).2.1⟩ x.2.2.2.1 ⟨hx.1.1, fun k hk => ⟨(hx.1.2 k hk).2.1, ⟨(hx.1.2 k hk).2.2.1.1, fun j hj => ((hx.1.2 k hk).2.2.1.2 j hj).2.1⟩⟩⟩ ⟨hx.2.1.1, fun k hk => (hx.2.1.2 k hk).1⟩ ⟨hx.2.2.1.1, fun k hk => (hx.2.2.1.2 k hk).1⟩) W args ds gs before hval hW'

theorem topOrders_holds : Rows.TopOrdersSaid :=
  OpenClaim.holds_of_wide 4 Try.f4 rfl rfl rfl rfl rfl rfl rfl ⟨rfl, rfl, rfl, rfl, rfl⟩ rfl rfl rfl rfl rfl (by kernel_rfl) Try.func4 (by kernel_rfl)
    (of_decide_eq_true (by kernel_rfl)) (by unfold Func.isWrapper; rw [if_neg (by decide +kernel)]; exact ⟨rfl, rfl⟩)
    (fun os started H enc _ => topOrders_lifted os started H enc)
end Go.Proofs.Ytemfikdogdadnaa
