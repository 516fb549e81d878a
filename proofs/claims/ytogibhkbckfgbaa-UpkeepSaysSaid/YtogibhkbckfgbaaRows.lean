/-
  No cell of these rows narrows 'for every input' (looked for: loops, veiled, ifaces, maps, wideKeys, modest, calm, conditions, laid).
  DERIVED. THE GIVEN ROWS OF THIS SEAT. 10 by the template 'for every input the law returns true; each argument reads behind the call as it read before'; 0 by the template 'total and deterministic' (their statements: YtogibhkbckfgbaaTotals.lean).
  GIVEN WITH THE SEED: the statements are not yours to turn. If you find one false, say at which input.
  Laid BY PROGRAM, IN A SANDBOX (cutbox-rows.mjs): the forced cells as the released guide's own fill.sh prints them over the translation 6915e750be424818… (all of the seat's roots in one cut). By AI agents, Wed Nov 11 2026. No macro, syntax, notation, axiom, sorry.
-/
import Derived.Test.YtogibhkbckfgbaaChecked
import GoSem.Claim
import GoSem.ClaimJoined
import GoSem.ClaimMapViews
import Derived.JoinedTies
import Derived.KernelRfl
namespace Go.Proofs.Ytogibhkbckfgbaa
/- THE CELL 'sum', in the pinned program and in every row, IS THE sha256 OF THE DUMP (.gsa) THAT YtogibhkbckfgbaaProg.lean LOADS. Nothing in Lean hashes anything: it is a label: what it is worth is what the hold of that sum in a sandbox is worth. -/
noncomputable def Try.pinned : Pinned := { name := "ytogibhkbckfgbaa", sum := "6915e750be424818f2523d45faae9053ac4d4cabeb59903c27d2b6b5aaf28627", checked := Try.checked }
namespace Rows
def none {H : Type} : Left H := { results := [], args := [] }

/-- 'gridhalllaw4.GovernorSays': WHATEVER THE INPUT: true; the input reads as it did. -/
def governorSaysSpec : ChangeSpec := { name := "governorSays", fn := fun _ => fun
  | [d1, d2, d3] => { results := [.lit (.bool true)], args := [d1, d2, d3] }
  | _ => none }
def governorSaysRow : OpenClaim := { program := "ytogibhkbckfgbaa", sum := "6915e750be424818f2523d45faae9053ac4d4cabeb59903c27d2b6b5aaf28627", func := "gridhall/gridhalllaw4.GovernorSays", spec := "governorSays", apart := false }
def GovernorSaysSaid : Prop := governorSaysRow.holds Try.pinned (OpenSpec.ofChange governorSaysSpec)

/-- ITS FALSE NEIGHBOUR: 'it returns false'. Refute it at one input. -/
def governorSaysWrong : ChangeSpec := { name := "governorSays", fn := fun _ => fun
  | [d1, d2, d3] => { results := [.lit (.bool false)], args := [d1, d2, d3] }
  | _ => none }
def GovernorSaysWrongFalsely : Prop := governorSaysRow.holds Try.pinned (OpenSpec.ofChange governorSaysWrong)

/-- 'gridhalllaw3.RampRanges': WHATEVER THE INPUT: true; the input reads as it did. -/
def rampRangesSpec : ChangeSpec := { name := "rampRanges", fn := fun _ => fun
  | [d1, d2, d3, d4] => { results := [.lit (.bool true)], args := [d1, d2, d3, d4] }
  | _ => none }
def rampRangesRow : OpenClaim := { program := "ytogibhkbckfgbaa", sum := "6915e750be424818f2523d45faae9053ac4d4cabeb59903c27d2b6b5aaf28627", func := "gridhall/gridhalllaw3.RampRanges", spec := "rampRanges", unfollowed := true, recurses := true, apart := false }
def RampRangesSaid : Prop := rampRangesRow.holds Try.pinned (OpenSpec.ofChange rampRangesSpec)

/-- ITS FALSE NEIGHBOUR: 'it returns false'. Refute it at one input. -/
def rampRangesWrong : ChangeSpec := { name := "rampRanges", fn := fun _ => fun
  | [d1, d2, d3, d4] => { results := [.lit (.bool false)], args := [d1, d2, d3, d4] }
  | _ => none }
def RampRangesWrongFalsely : Prop := rampRangesRow.holds Try.pinned (OpenSpec.ofChange rampRangesWrong)

/-- 'gridhalllaw3.OfferSupplies': WHATEVER THE INPUT: true; the input reads as it did. -/
def offerSuppliesSpec : ChangeSpec := { name := "offerSupplies", fn := fun _ => fun
  | [d1, d2] => { results := [.lit (.bool true)], args := [d1, d2] }
  | _ => none }
def offerSuppliesRow : OpenClaim := { program := "ytogibhkbckfgbaa", sum := "6915e750be424818f2523d45faae9053ac4d4cabeb59903c27d2b6b5aaf28627", func := "gridhall/gridhalllaw3.OfferSupplies", spec := "offerSupplies", apart := false }
def OfferSuppliesSaid : Prop := offerSuppliesRow.holds Try.pinned (OpenSpec.ofChange offerSuppliesSpec)

/-- ITS FALSE NEIGHBOUR: 'it returns false'. Refute it at one input. -/
def offerSuppliesWrong : ChangeSpec := { name := "offerSupplies", fn := fun _ => fun
  | [d1, d2] => { results := [.lit (.bool false)], args := [d1, d2] }
  | _ => none }
def OfferSuppliesWrongFalsely : Prop := offerSuppliesRow.holds Try.pinned (OpenSpec.ofChange offerSuppliesWrong)

/-- 'gridhalllaw3.UnitSteps': WHATEVER THE INPUT: true; the input reads as it did. -/
def unitStepsSpec : ChangeSpec := { name := "unitSteps", fn := fun _ => fun
  | [d1, d2, d3] => { results := [.lit (.bool true)], args := [d1, d2, d3] }
  | _ => none }
def unitStepsRow : OpenClaim := { program := "ytogibhkbckfgbaa", sum := "6915e750be424818f2523d45faae9053ac4d4cabeb59903c27d2b6b5aaf28627", func := "gridhall/gridhalllaw3.UnitSteps", spec := "unitSteps", apart := false }
def UnitStepsSaid : Prop := unitStepsRow.holds Try.pinned (OpenSpec.ofChange unitStepsSpec)

/-- ITS FALSE NEIGHBOUR: 'it returns false'. Refute it at one input. -/
def unitStepsWrong : ChangeSpec := { name := "unitSteps", fn := fun _ => fun
  | [d1, d2, d3] => { results := [.lit (.bool false)], args := [d1, d2, d3] }
  | _ => none }
def UnitStepsWrongFalsely : Prop := unitStepsRow.holds Try.pinned (OpenSpec.ofChange unitStepsWrong)

/-- 'gridhalllaw3.LedgerSettles': WHATEVER THE INPUT: true; the input reads as it did. -/
def ledgerSettlesSpec : ChangeSpec := { name := "ledgerSettles", fn := fun _ => fun
  | [d1, d2] => { results := [.lit (.bool true)], args := [d1, d2] }
  | _ => none }
def ledgerSettlesRow : OpenClaim := { program := "ytogibhkbckfgbaa", sum := "6915e750be424818f2523d45faae9053ac4d4cabeb59903c27d2b6b5aaf28627", func := "gridhall/gridhalllaw3.LedgerSettles", spec := "ledgerSettles", unfollowed := true, recurses := true, apart := false }
def LedgerSettlesSaid : Prop := ledgerSettlesRow.holds Try.pinned (OpenSpec.ofChange ledgerSettlesSpec)

/-- ITS FALSE NEIGHBOUR: 'it returns false'. Refute it at one input. -/
def ledgerSettlesWrong : ChangeSpec := { name := "ledgerSettles", fn := fun _ => fun
  | [d1, d2] => { results := [.lit (.bool false)], args := [d1, d2] }
  | _ => none }
def LedgerSettlesWrongFalsely : Prop := ledgerSettlesRow.holds Try.pinned (OpenSpec.ofChange ledgerSettlesWrong)

/-- 'gridhalllaw3.OfferCosts': WHATEVER THE INPUT: true; the input reads as it did. -/
def offerCostsSpec : ChangeSpec := { name := "offerCosts", fn := fun _ => fun
  | [d1, d2] => { results := [.lit (.bool true)], args := [d1, d2] }
  | _ => none }
def offerCostsRow : OpenClaim := { program := "ytogibhkbckfgbaa", sum := "6915e750be424818f2523d45faae9053ac4d4cabeb59903c27d2b6b5aaf28627", func := "gridhall/gridhalllaw3.OfferCosts", spec := "offerCosts", apart := false }
def OfferCostsSaid : Prop := offerCostsRow.holds Try.pinned (OpenSpec.ofChange offerCostsSpec)

/-- ITS FALSE NEIGHBOUR: 'it returns false'. Refute it at one input. -/
def offerCostsWrong : ChangeSpec := { name := "offerCosts", fn := fun _ => fun
  | [d1, d2] => { results := [.lit (.bool false)], args := [d1, d2] }
  | _ => none }
def OfferCostsWrongFalsely : Prop := offerCostsRow.holds Try.pinned (OpenSpec.ofChange offerCostsWrong)

/-- 'gridhalllaw3.ConvexValues': WHATEVER THE INPUT: true; the input reads as it did. -/
def convexValuesSpec : ChangeSpec := { name := "convexValues", fn := fun _ => fun
  | [d1, d2, d3] => { results := [.lit (.bool true)], args := [d1, d2, d3] }
  | _ => none }
def convexValuesRow : OpenClaim := { program := "ytogibhkbckfgbaa", sum := "6915e750be424818f2523d45faae9053ac4d4cabeb59903c27d2b6b5aaf28627", func := "gridhall/gridhalllaw3.ConvexValues", spec := "convexValues", apart := false }
def ConvexValuesSaid : Prop := convexValuesRow.holds Try.pinned (OpenSpec.ofChange convexValuesSpec)

/-- ITS FALSE NEIGHBOUR: 'it returns false'. Refute it at one input. -/
def convexValuesWrong : ChangeSpec := { name := "convexValues", fn := fun _ => fun
  | [d1, d2, d3] => { results := [.lit (.bool false)], args := [d1, d2, d3] }
  | _ => none }
def ConvexValuesWrongFalsely : Prop := convexValuesRow.holds Try.pinned (OpenSpec.ofChange convexValuesWrong)

/-- 'gridhalllaw3.OfferLists': WHATEVER THE INPUT: true; the input reads as it did. -/
def offerListsSpec : ChangeSpec := { name := "offerLists", fn := fun _ => fun
  | [d] => { results := [.lit (.bool true)], args := [d] }
  | _ => none }
def offerListsRow : OpenClaim := { program := "ytogibhkbckfgbaa", sum := "6915e750be424818f2523d45faae9053ac4d4cabeb59903c27d2b6b5aaf28627", func := "gridhall/gridhalllaw3.OfferLists", spec := "offerLists", unfollowed := true, recurses := true, apart := false }
def OfferListsSaid : Prop := offerListsRow.holds Try.pinned (OpenSpec.ofChange offerListsSpec)

/-- ITS FALSE NEIGHBOUR: 'it returns false'. Refute it at one input. -/
def offerListsWrong : ChangeSpec := { name := "offerLists", fn := fun _ => fun
  | [d] => { results := [.lit (.bool false)], args := [d] }
  | _ => none }
def OfferListsWrongFalsely : Prop := offerListsRow.holds Try.pinned (OpenSpec.ofChange offerListsWrong)

/-- 'gridhalllaw3.UnitRuns': WHATEVER THE INPUT: true; the input reads as it did. -/
def unitRunsSpec : ChangeSpec := { name := "unitRuns", fn := fun _ => fun
  | [d1, d2, d3] => { results := [.lit (.bool true)], args := [d1, d2, d3] }
  | _ => none }
def unitRunsRow : OpenClaim := { program := "ytogibhkbckfgbaa", sum := "6915e750be424818f2523d45faae9053ac4d4cabeb59903c27d2b6b5aaf28627", func := "gridhall/gridhalllaw3.UnitRuns", spec := "unitRuns", apart := false }
def UnitRunsSaid : Prop := unitRunsRow.holds Try.pinned (OpenSpec.ofChange unitRunsSpec)

/-- ITS FALSE NEIGHBOUR: 'it returns false'. Refute it at one input. -/
def unitRunsWrong : ChangeSpec := { name := "unitRuns", fn := fun _ => fun
  | [d1, d2, d3] => { results := [.lit (.bool false)], args := [d1, d2, d3] }
  | _ => none }
def UnitRunsWrongFalsely : Prop := unitRunsRow.holds Try.pinned (OpenSpec.ofChange unitRunsWrong)

/-- 'gridhalllaw4.UpkeepSays': WHATEVER THE INPUT: true; the input reads as it did. -/
def upkeepSaysSpec : ChangeSpec := { name := "upkeepSays", fn := fun _ => fun
  | [d1, d2] => { results := [.lit (.bool true)], args := [d1, d2] }
  | _ => none }
def upkeepSaysRow : OpenClaim := { program := "ytogibhkbckfgbaa", sum := "6915e750be424818f2523d45faae9053ac4d4cabeb59903c27d2b6b5aaf28627", func := "gridhall/gridhalllaw4.UpkeepSays", spec := "upkeepSays", unfollowed := true, recurses := true, apart := false }
def UpkeepSaysSaid : Prop := upkeepSaysRow.holds Try.pinned (OpenSpec.ofChange upkeepSaysSpec)

/-- ITS FALSE NEIGHBOUR: 'it returns false'. Refute it at one input. -/
def upkeepSaysWrong : ChangeSpec := { name := "upkeepSays", fn := fun _ => fun
  | [d1, d2] => { results := [.lit (.bool false)], args := [d1, d2] }
  | _ => none }
def UpkeepSaysWrongFalsely : Prop := upkeepSaysRow.holds Try.pinned (OpenSpec.ofChange upkeepSaysWrong)

/- THE SECOND FORM. 'bulk': how many values and letters a reading holds, each counted each time it is reached (what is shared counts as often as it is met; a slice's spare places count too). A statement '..UptoSaid' is the law's where the arguments, and the package variables that the reading takes, are together of bulk at most 1048576: NARROWER than '..Said'. Prove '..Said' where nothing that the law and all that it calls make is longer than what came in: it says more and counts as full. Else prove '..UptoSaid'. A law counts once. -/
mutual
def uptoBulk {H : Type} : DataW H → Nat
  | .lit (.string bytes) => bytes.length + 1
  | .lit _ => 1
  | .nil => 1
  | .ptr d => uptoBulk d + 1
  | .slice elems spare => uptoBulkAll elems + uptoBulkAll spare + 1
  | .agg parts => uptoBulkAll parts + 1
  | .iface _ d => uptoBulk d + 1
  | .map entries => uptoBulkEntries entries + 1
  | .held _ => 1
def uptoBulkAll {H : Type} : List (DataW H) → Nat
  | [] => 0
  | d :: r => uptoBulk d + uptoBulkAll r
def uptoBulkEntries {H : Type} : List (Lit × DataW H) → Nat
  | [] => 0
  | x :: r => uptoBulkEntry x + uptoBulkEntries r
def uptoBulkEntry {H : Type} : Lit × DataW H → Nat
  | (.string bytes, d) => bytes.length + uptoBulk d + 1
  | (_, d) => uptoBulk d + 1
 end
def uptoSmall : (H : Type) → List (DataW H) → Bool := fun _ ds => decide (uptoBulkAll ds ≤ 1048576)
def OpenSpec.upto (s : _root_.Go.ChangeSpec) : _root_.Go.OpenSpec := { _root_.Go.OpenSpec.ofChange s with cond := some uptoSmall }

/-- 'gridhalllaw4.GovernorSays', WHERE WHAT IT READS IS OF BULK AT MOST 1048576: true; the input reads as it did. -/
def governorSaysUptoRow : OpenClaim := { program := "ytogibhkbckfgbaa", sum := "6915e750be424818f2523d45faae9053ac4d4cabeb59903c27d2b6b5aaf28627", func := "gridhall/gridhalllaw4.GovernorSays", spec := "governorSays", apart := false, narrowed := true }
def GovernorSaysUptoSaid : Prop := governorSaysUptoRow.holds Try.pinned (OpenSpec.upto governorSaysSpec)

/-- 'gridhalllaw3.RampRanges', WHERE WHAT IT READS IS OF BULK AT MOST 1048576: true; the input reads as it did. -/
def rampRangesUptoRow : OpenClaim := { program := "ytogibhkbckfgbaa", sum := "6915e750be424818f2523d45faae9053ac4d4cabeb59903c27d2b6b5aaf28627", func := "gridhall/gridhalllaw3.RampRanges", spec := "rampRanges", unfollowed := true, recurses := true, apart := false, narrowed := true }
def RampRangesUptoSaid : Prop := rampRangesUptoRow.holds Try.pinned (OpenSpec.upto rampRangesSpec)

/-- 'gridhalllaw3.OfferSupplies', WHERE WHAT IT READS IS OF BULK AT MOST 1048576: true; the input reads as it did. -/
def offerSuppliesUptoRow : OpenClaim := { program := "ytogibhkbckfgbaa", sum := "6915e750be424818f2523d45faae9053ac4d4cabeb59903c27d2b6b5aaf28627", func := "gridhall/gridhalllaw3.OfferSupplies", spec := "offerSupplies", apart := false, narrowed := true }
def OfferSuppliesUptoSaid : Prop := offerSuppliesUptoRow.holds Try.pinned (OpenSpec.upto offerSuppliesSpec)

/-- 'gridhalllaw3.UnitSteps', WHERE WHAT IT READS IS OF BULK AT MOST 1048576: true; the input reads as it did. -/
def unitStepsUptoRow : OpenClaim := { program := "ytogibhkbckfgbaa", sum := "6915e750be424818f2523d45faae9053ac4d4cabeb59903c27d2b6b5aaf28627", func := "gridhall/gridhalllaw3.UnitSteps", spec := "unitSteps", apart := false, narrowed := true }
def UnitStepsUptoSaid : Prop := unitStepsUptoRow.holds Try.pinned (OpenSpec.upto unitStepsSpec)

/-- 'gridhalllaw3.LedgerSettles', WHERE WHAT IT READS IS OF BULK AT MOST 1048576: true; the input reads as it did. -/
def ledgerSettlesUptoRow : OpenClaim := { program := "ytogibhkbckfgbaa", sum := "6915e750be424818f2523d45faae9053ac4d4cabeb59903c27d2b6b5aaf28627", func := "gridhall/gridhalllaw3.LedgerSettles", spec := "ledgerSettles", unfollowed := true, recurses := true, apart := false, narrowed := true }
def LedgerSettlesUptoSaid : Prop := ledgerSettlesUptoRow.holds Try.pinned (OpenSpec.upto ledgerSettlesSpec)

/-- 'gridhalllaw3.OfferCosts', WHERE WHAT IT READS IS OF BULK AT MOST 1048576: true; the input reads as it did. -/
def offerCostsUptoRow : OpenClaim := { program := "ytogibhkbckfgbaa", sum := "6915e750be424818f2523d45faae9053ac4d4cabeb59903c27d2b6b5aaf28627", func := "gridhall/gridhalllaw3.OfferCosts", spec := "offerCosts", apart := false, narrowed := true }
def OfferCostsUptoSaid : Prop := offerCostsUptoRow.holds Try.pinned (OpenSpec.upto offerCostsSpec)

/-- 'gridhalllaw3.ConvexValues', WHERE WHAT IT READS IS OF BULK AT MOST 1048576: true; the input reads as it did. -/
def convexValuesUptoRow : OpenClaim := { program := "ytogibhkbckfgbaa", sum := "6915e750be424818f2523d45faae9053ac4d4cabeb59903c27d2b6b5aaf28627", func := "gridhall/gridhalllaw3.ConvexValues", spec := "convexValues", apart := false, narrowed := true }
def ConvexValuesUptoSaid : Prop := convexValuesUptoRow.holds Try.pinned (OpenSpec.upto convexValuesSpec)

/-- 'gridhalllaw3.OfferLists', WHERE WHAT IT READS IS OF BULK AT MOST 1048576: true; the input reads as it did. -/
def offerListsUptoRow : OpenClaim := { program := "ytogibhkbckfgbaa", sum := "6915e750be424818f2523d45faae9053ac4d4cabeb59903c27d2b6b5aaf28627", func := "gridhall/gridhalllaw3.OfferLists", spec := "offerLists", unfollowed := true, recurses := true, apart := false, narrowed := true }
def OfferListsUptoSaid : Prop := offerListsUptoRow.holds Try.pinned (OpenSpec.upto offerListsSpec)

/-- 'gridhalllaw3.UnitRuns', WHERE WHAT IT READS IS OF BULK AT MOST 1048576: true; the input reads as it did. -/
def unitRunsUptoRow : OpenClaim := { program := "ytogibhkbckfgbaa", sum := "6915e750be424818f2523d45faae9053ac4d4cabeb59903c27d2b6b5aaf28627", func := "gridhall/gridhalllaw3.UnitRuns", spec := "unitRuns", apart := false, narrowed := true }
def UnitRunsUptoSaid : Prop := unitRunsUptoRow.holds Try.pinned (OpenSpec.upto unitRunsSpec)

/-- 'gridhalllaw4.UpkeepSays', WHERE WHAT IT READS IS OF BULK AT MOST 1048576: true; the input reads as it did. -/
def upkeepSaysUptoRow : OpenClaim := { program := "ytogibhkbckfgbaa", sum := "6915e750be424818f2523d45faae9053ac4d4cabeb59903c27d2b6b5aaf28627", func := "gridhall/gridhalllaw4.UpkeepSays", spec := "upkeepSays", unfollowed := true, recurses := true, apart := false, narrowed := true }
def UpkeepSaysUptoSaid : Prop := upkeepSaysUptoRow.holds Try.pinned (OpenSpec.upto upkeepSaysSpec)

end Rows
end Go.Proofs.Ytogibhkbckfgbaa
