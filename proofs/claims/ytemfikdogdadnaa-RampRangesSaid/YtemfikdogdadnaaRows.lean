/-
  No cell of these rows narrows 'for every input' (looked for: loops, veiled, ifaces, maps, wideKeys, modest, calm, conditions, laid).
  DERIVED. THE GIVEN ROWS OF THIS SEAT. 5 by the template 'for every input the law returns true; each argument reads behind the call as it read before'; 0 by the template 'total and deterministic' (their statements: YtemfikdogdadnaaTotals.lean).
  GIVEN WITH THE SEED: the statements are not yours to turn. If you find one false, say at which input.
  Laid BY PROGRAM, IN A SANDBOX (cutbox-rows.mjs): the forced cells as the released guide's own fill.sh prints them over the translation 617c754ffdcda029… (all of the seat's roots in one cut). By AI agents, Wed Nov 11 2026. No macro, syntax, notation, axiom, sorry.
-/
import Derived.Test.YtemfikdogdadnaaChecked
import GoSem.Claim
import GoSem.ClaimJoined
import GoSem.ClaimMapViews
import Derived.JoinedTies
import Derived.KernelRfl
namespace Go.Proofs.Ytemfikdogdadnaa
/- THE CELL 'sum', in the pinned program and in every row, IS THE sha256 OF THE DUMP (.gsa) THAT YtemfikdogdadnaaProg.lean LOADS. Nothing in Lean hashes anything: it is a label: what it is worth is what the hold of that sum in a sandbox is worth. -/
noncomputable def Try.pinned : Pinned := { name := "ytemfikdogdadnaa", sum := "617c754ffdcda029125fb62b594e9e99efdf041bd8a2133d4ca9dc960311e145", checked := Try.checked }
namespace Rows
def none {H : Type} : Left H := { results := [], args := [] }

/-- 'gridhalllaw3.RampRanges': WHATEVER THE INPUT: true; the input reads as it did. -/
def rampRangesSpec : ChangeSpec := { name := "rampRanges", fn := fun _ => fun
  | [d1, d2, d3, d4] => { results := [.lit (.bool true)], args := [d1, d2, d3, d4] }
  | _ => none }
def rampRangesRow : OpenClaim := { program := "ytemfikdogdadnaa", sum := "617c754ffdcda029125fb62b594e9e99efdf041bd8a2133d4ca9dc960311e145", func := "gridhall/gridhalllaw3.RampRanges", spec := "rampRanges", unfollowed := true, recurses := true, plainKeys := false, apart := false }
def RampRangesSaid : Prop := rampRangesRow.holds Try.pinned (OpenSpec.ofChange rampRangesSpec)

/-- ITS FALSE NEIGHBOUR: 'it returns false'. Refute it at one input. -/
def rampRangesWrong : ChangeSpec := { name := "rampRanges", fn := fun _ => fun
  | [d1, d2, d3, d4] => { results := [.lit (.bool false)], args := [d1, d2, d3, d4] }
  | _ => none }
def RampRangesWrongFalsely : Prop := rampRangesRow.holds Try.pinned (OpenSpec.ofChange rampRangesWrong)

/-- 'gridhalltop.TopOrders': WHATEVER THE INPUT: true; the input reads as it did. -/
def topOrdersSpec : ChangeSpec := { name := "topOrders", fn := fun _ => fun
  | [d1, d2, d3, d4] => { results := [.lit (.bool true)], args := [d1, d2, d3, d4] }
  | _ => none }
def topOrdersRow : OpenClaim := { program := "ytemfikdogdadnaa", sum := "617c754ffdcda029125fb62b594e9e99efdf041bd8a2133d4ca9dc960311e145", func := "gridhall/gridhalltop.TopOrders", spec := "topOrders", unfollowed := true, recurses := true, plainKeys := false, apart := false }
def TopOrdersSaid : Prop := topOrdersRow.holds Try.pinned (OpenSpec.ofChange topOrdersSpec)

/-- ITS FALSE NEIGHBOUR: 'it returns false'. Refute it at one input. -/
def topOrdersWrong : ChangeSpec := { name := "topOrders", fn := fun _ => fun
  | [d1, d2, d3, d4] => { results := [.lit (.bool false)], args := [d1, d2, d3, d4] }
  | _ => none }
def TopOrdersWrongFalsely : Prop := topOrdersRow.holds Try.pinned (OpenSpec.ofChange topOrdersWrong)

/-- 'gridhalltop.TopCommit': WHATEVER THE INPUT: true; the input reads as it did. -/
def topCommitSpec : ChangeSpec := { name := "topCommit", fn := fun _ => fun
  | [d1, d2, d3] => { results := [.lit (.bool true)], args := [d1, d2, d3] }
  | _ => none }
def topCommitRow : OpenClaim := { program := "ytemfikdogdadnaa", sum := "617c754ffdcda029125fb62b594e9e99efdf041bd8a2133d4ca9dc960311e145", func := "gridhall/gridhalltop.TopCommit", spec := "topCommit", unfollowed := true, recurses := true, plainKeys := false, apart := false }
def TopCommitSaid : Prop := topCommitRow.holds Try.pinned (OpenSpec.ofChange topCommitSpec)

/-- ITS FALSE NEIGHBOUR: 'it returns false'. Refute it at one input. -/
def topCommitWrong : ChangeSpec := { name := "topCommit", fn := fun _ => fun
  | [d1, d2, d3] => { results := [.lit (.bool false)], args := [d1, d2, d3] }
  | _ => none }
def TopCommitWrongFalsely : Prop := topCommitRow.holds Try.pinned (OpenSpec.ofChange topCommitWrong)

/-- 'gridhalllaw4.OrderPlans': WHATEVER THE INPUT: true; the input reads as it did. -/
def orderPlansSpec : ChangeSpec := { name := "orderPlans", fn := fun _ => fun
  | [d1, d2, d3, d4] => { results := [.lit (.bool true)], args := [d1, d2, d3, d4] }
  | _ => none }
def orderPlansRow : OpenClaim := { program := "ytemfikdogdadnaa", sum := "617c754ffdcda029125fb62b594e9e99efdf041bd8a2133d4ca9dc960311e145", func := "gridhall/gridhalllaw4.OrderPlans", spec := "orderPlans", unfollowed := true, recurses := true, plainKeys := false, apart := false }
def OrderPlansSaid : Prop := orderPlansRow.holds Try.pinned (OpenSpec.ofChange orderPlansSpec)

/-- ITS FALSE NEIGHBOUR: 'it returns false'. Refute it at one input. -/
def orderPlansWrong : ChangeSpec := { name := "orderPlans", fn := fun _ => fun
  | [d1, d2, d3, d4] => { results := [.lit (.bool false)], args := [d1, d2, d3, d4] }
  | _ => none }
def OrderPlansWrongFalsely : Prop := orderPlansRow.holds Try.pinned (OpenSpec.ofChange orderPlansWrong)

/-- 'gridhalllaw3.CommitBest': WHATEVER THE INPUT: true; the input reads as it did. -/
def commitBestSpec : ChangeSpec := { name := "commitBest", fn := fun _ => fun
  | [d1, d2] => { results := [.lit (.bool true)], args := [d1, d2] }
  | _ => none }
def commitBestRow : OpenClaim := { program := "ytemfikdogdadnaa", sum := "617c754ffdcda029125fb62b594e9e99efdf041bd8a2133d4ca9dc960311e145", func := "gridhall/gridhalllaw3.CommitBest", spec := "commitBest", unfollowed := true, recurses := true, plainKeys := false, apart := false }
def CommitBestSaid : Prop := commitBestRow.holds Try.pinned (OpenSpec.ofChange commitBestSpec)

/-- ITS FALSE NEIGHBOUR: 'it returns false'. Refute it at one input. -/
def commitBestWrong : ChangeSpec := { name := "commitBest", fn := fun _ => fun
  | [d1, d2] => { results := [.lit (.bool false)], args := [d1, d2] }
  | _ => none }
def CommitBestWrongFalsely : Prop := commitBestRow.holds Try.pinned (OpenSpec.ofChange commitBestWrong)

/- THE SECOND FORM. 'bulk': how many values and letters a reading holds, each counted each time it is reached (what is shared counts as often as it is met; a slice's spare places count too). A statement '..UptoSaid' is the law's where the arguments, and the package variables that the reading takes, are together of bulk at most 1048576: NARROWER than '..Said'. Prove '..Said' where nothing that the law and all that it calls make is longer than what came in: it says more and counts as full. Else prove '..UptoSaid'. A law counts once. -/
mutual
def uptoBulk {H : Type} : DataW H → Nat
  | .lit (.string bytes) => bytes.length + 1
  | .lit _ => 1
  | .nil => 1
  | .ptr d => uptoBulk d + 1
  | .slice elems spare => uptoBulkAll elems + uptoBulkAll spare + 1
  | .agg parts => uptoBulkAll parts + 1
  | .iface _ d => uptoBulk d + 1
  | .map entries => uptoBulkEntries entries + 1
  | .held _ => 1
def uptoBulkAll {H : Type} : List (DataW H) → Nat
  | [] => 0
  | d :: r => uptoBulk d + uptoBulkAll r
def uptoBulkEntries {H : Type} : List (Lit × DataW H) → Nat
  | [] => 0
  | x :: r => uptoBulkEntry x + uptoBulkEntries r
def uptoBulkEntry {H : Type} : Lit × DataW H → Nat
  | (.string bytes, d) => bytes.length + uptoBulk d + 1
  | (_, d) => uptoBulk d + 1
 end
def uptoSmall : (H : Type) → List (DataW H) → Bool := fun _ ds => decide (uptoBulkAll ds ≤ 1048576)
def OpenSpec.upto (s : _root_.Go.ChangeSpec) : _root_.Go.OpenSpec := { _root_.Go.OpenSpec.ofChange s with cond := some uptoSmall }

/-- 'gridhalllaw3.RampRanges', WHERE WHAT IT READS IS OF BULK AT MOST 1048576: true; the input reads as it did. -/
def rampRangesUptoRow : OpenClaim := { program := "ytemfikdogdadnaa", sum := "617c754ffdcda029125fb62b594e9e99efdf041bd8a2133d4ca9dc960311e145", func := "gridhall/gridhalllaw3.RampRanges", spec := "rampRanges", unfollowed := true, recurses := true, plainKeys := false, apart := false, narrowed := true }
def RampRangesUptoSaid : Prop := rampRangesUptoRow.holds Try.pinned (OpenSpec.upto rampRangesSpec)

/-- 'gridhalltop.TopOrders', WHERE WHAT IT READS IS OF BULK AT MOST 1048576: true; the input reads as it did. -/
def topOrdersUptoRow : OpenClaim := { program := "ytemfikdogdadnaa", sum := "617c754ffdcda029125fb62b594e9e99efdf041bd8a2133d4ca9dc960311e145", func := "gridhall/gridhalltop.TopOrders", spec := "topOrders", unfollowed := true, recurses := true, plainKeys := false, apart := false, narrowed := true }
def TopOrdersUptoSaid : Prop := topOrdersUptoRow.holds Try.pinned (OpenSpec.upto topOrdersSpec)

/-- 'gridhalltop.TopCommit', WHERE WHAT IT READS IS OF BULK AT MOST 1048576: true; the input reads as it did. -/
def topCommitUptoRow : OpenClaim := { program := "ytemfikdogdadnaa", sum := "617c754ffdcda029125fb62b594e9e99efdf041bd8a2133d4ca9dc960311e145", func := "gridhall/gridhalltop.TopCommit", spec := "topCommit", unfollowed := true, recurses := true, plainKeys := false, apart := false, narrowed := true }
def TopCommitUptoSaid : Prop := topCommitUptoRow.holds Try.pinned (OpenSpec.upto topCommitSpec)

/-- 'gridhalllaw4.OrderPlans', WHERE WHAT IT READS IS OF BULK AT MOST 1048576: true; the input reads as it did. -/
def orderPlansUptoRow : OpenClaim := { program := "ytemfikdogdadnaa", sum := "617c754ffdcda029125fb62b594e9e99efdf041bd8a2133d4ca9dc960311e145", func := "gridhall/gridhalllaw4.OrderPlans", spec := "orderPlans", unfollowed := true, recurses := true, plainKeys := false, apart := false, narrowed := true }
def OrderPlansUptoSaid : Prop := orderPlansUptoRow.holds Try.pinned (OpenSpec.upto orderPlansSpec)

/-- 'gridhalllaw3.CommitBest', WHERE WHAT IT READS IS OF BULK AT MOST 1048576: true; the input reads as it did. -/
def commitBestUptoRow : OpenClaim := { program := "ytemfikdogdadnaa", sum := "617c754ffdcda029125fb62b594e9e99efdf041bd8a2133d4ca9dc960311e145", func := "gridhall/gridhalllaw3.CommitBest", spec := "commitBest", unfollowed := true, recurses := true, plainKeys := false, apart := false, narrowed := true }
def CommitBestUptoSaid : Prop := commitBestUptoRow.holds Try.pinned (OpenSpec.upto commitBestSpec)

end Rows
end Go.Proofs.Ytemfikdogdadnaa
