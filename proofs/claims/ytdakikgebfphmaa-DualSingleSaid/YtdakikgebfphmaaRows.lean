/-
  No cell of these rows narrows 'for every input' (looked for: loops, veiled, ifaces, maps, wideKeys, modest, calm, conditions, laid).
  DERIVED. THE GIVEN ROWS OF THIS SEAT. 12 by the template 'for every input the law returns true; each argument reads behind the call as it read before'; 0 by the template 'total and deterministic' (their statements: YtdakikgebfphmaaTotals.lean).
  GIVEN WITH THE SEED: the statements are not yours to turn. If you find one false, say at which input.
  Laid BY PROGRAM, IN A SANDBOX (cutbox-rows.mjs): the forced cells as the released guide's own fill.sh prints them over the translation ff1e5522e3849dfe… (all of the seat's roots in one cut). By AI agents, Wed Nov 11 2026. No macro, syntax, notation, axiom, sorry.
-/
import Derived.Test.YtdakikgebfphmaaChecked
import GoSem.Claim
import GoSem.ClaimJoined
import GoSem.ClaimMapViews
import Derived.JoinedTies
import Derived.KernelRfl
namespace Go.Proofs.Ytdakikgebfphmaa
/- THE CELL 'sum', in the pinned program and in every row, IS THE sha256 OF THE DUMP (.gsa) THAT YtdakikgebfphmaaProg.lean LOADS. Nothing in Lean hashes anything: it is a label: what it is worth is what the hold of that sum in a sandbox is worth. -/
noncomputable def Try.pinned : Pinned := { name := "ytdakikgebfphmaa", sum := "ff1e5522e3849dfeee36577798b255fdce8f5d23fd21e3531a7e7fa141d08591", checked := Try.checked }
namespace Rows
def none {H : Type} : Left H := { results := [], args := [] }

/-- 'gridhalllaw3.ConvexMoves': WHATEVER THE INPUT: true; the input reads as it did. -/
def convexMovesSpec : ChangeSpec := { name := "convexMoves", fn := fun _ => fun
  | [d1, d2, d3, d4, d5] => { results := [.lit (.bool true)], args := [d1, d2, d3, d4, d5] }
  | _ => none }
def convexMovesRow : OpenClaim := { program := "ytdakikgebfphmaa", sum := "ff1e5522e3849dfeee36577798b255fdce8f5d23fd21e3531a7e7fa141d08591", func := "gridhall/gridhalllaw3.ConvexMoves", spec := "convexMoves", plainKeys := false, apart := false }
def ConvexMovesSaid : Prop := convexMovesRow.holds Try.pinned (OpenSpec.ofChange convexMovesSpec)

/-- ITS FALSE NEIGHBOUR: 'it returns false'. Refute it at one input. -/
def convexMovesWrong : ChangeSpec := { name := "convexMoves", fn := fun _ => fun
  | [d1, d2, d3, d4, d5] => { results := [.lit (.bool false)], args := [d1, d2, d3, d4, d5] }
  | _ => none }
def ConvexMovesWrongFalsely : Prop := convexMovesRow.holds Try.pinned (OpenSpec.ofChange convexMovesWrong)

/-- 'gridhalllaw3.DispatchCosts': WHATEVER THE INPUT: true; the input reads as it did. -/
def dispatchCostsSpec : ChangeSpec := { name := "dispatchCosts", fn := fun _ => fun
  | [d1, d2] => { results := [.lit (.bool true)], args := [d1, d2] }
  | _ => none }
def dispatchCostsRow : OpenClaim := { program := "ytdakikgebfphmaa", sum := "ff1e5522e3849dfeee36577798b255fdce8f5d23fd21e3531a7e7fa141d08591", func := "gridhall/gridhalllaw3.DispatchCosts", spec := "dispatchCosts", unfollowed := true, recurses := true, plainKeys := false, apart := false }
def DispatchCostsSaid : Prop := dispatchCostsRow.holds Try.pinned (OpenSpec.ofChange dispatchCostsSpec)

/-- ITS FALSE NEIGHBOUR: 'it returns false'. Refute it at one input. -/
def dispatchCostsWrong : ChangeSpec := { name := "dispatchCosts", fn := fun _ => fun
  | [d1, d2] => { results := [.lit (.bool false)], args := [d1, d2] }
  | _ => none }
def DispatchCostsWrongFalsely : Prop := dispatchCostsRow.holds Try.pinned (OpenSpec.ofChange dispatchCostsWrong)

/-- 'gridhalllaw3.ReserveHolds': WHATEVER THE INPUT: true; the input reads as it did. -/
def reserveHoldsSpec : ChangeSpec := { name := "reserveHolds", fn := fun _ => fun
  | [d1, d2] => { results := [.lit (.bool true)], args := [d1, d2] }
  | _ => none }
def reserveHoldsRow : OpenClaim := { program := "ytdakikgebfphmaa", sum := "ff1e5522e3849dfeee36577798b255fdce8f5d23fd21e3531a7e7fa141d08591", func := "gridhall/gridhalllaw3.ReserveHolds", spec := "reserveHolds", unfollowed := true, recurses := true, plainKeys := false, apart := false }
def ReserveHoldsSaid : Prop := reserveHoldsRow.holds Try.pinned (OpenSpec.ofChange reserveHoldsSpec)

/-- ITS FALSE NEIGHBOUR: 'it returns false'. Refute it at one input. -/
def reserveHoldsWrong : ChangeSpec := { name := "reserveHolds", fn := fun _ => fun
  | [d1, d2] => { results := [.lit (.bool false)], args := [d1, d2] }
  | _ => none }
def ReserveHoldsWrongFalsely : Prop := reserveHoldsRow.holds Try.pinned (OpenSpec.ofChange reserveHoldsWrong)

/-- 'gridhalllaw3.HoursSpreads': WHATEVER THE INPUT: true; the input reads as it did. -/
def hoursSpreadsSpec : ChangeSpec := { name := "hoursSpreads", fn := fun _ => fun
  | [d1, d2, d3] => { results := [.lit (.bool true)], args := [d1, d2, d3] }
  | _ => none }
def hoursSpreadsRow : OpenClaim := { program := "ytdakikgebfphmaa", sum := "ff1e5522e3849dfeee36577798b255fdce8f5d23fd21e3531a7e7fa141d08591", func := "gridhall/gridhalllaw3.HoursSpreads", spec := "hoursSpreads", unfollowed := true, recurses := true, plainKeys := false, apart := false }
def HoursSpreadsSaid : Prop := hoursSpreadsRow.holds Try.pinned (OpenSpec.ofChange hoursSpreadsSpec)

/-- ITS FALSE NEIGHBOUR: 'it returns false'. Refute it at one input. -/
def hoursSpreadsWrong : ChangeSpec := { name := "hoursSpreads", fn := fun _ => fun
  | [d1, d2, d3] => { results := [.lit (.bool false)], args := [d1, d2, d3] }
  | _ => none }
def HoursSpreadsWrongFalsely : Prop := hoursSpreadsRow.holds Try.pinned (OpenSpec.ofChange hoursSpreadsWrong)

/-- 'gridhalllaw3.DualSingle': WHATEVER THE INPUT: true; the input reads as it did. -/
def dualSingleSpec : ChangeSpec := { name := "dualSingle", fn := fun _ => fun
  | [d1, d2] => { results := [.lit (.bool true)], args := [d1, d2] }
  | _ => none }
def dualSingleRow : OpenClaim := { program := "ytdakikgebfphmaa", sum := "ff1e5522e3849dfeee36577798b255fdce8f5d23fd21e3531a7e7fa141d08591", func := "gridhall/gridhalllaw3.DualSingle", spec := "dualSingle", unfollowed := true, recurses := true, plainKeys := false, apart := false }
def DualSingleSaid : Prop := dualSingleRow.holds Try.pinned (OpenSpec.ofChange dualSingleSpec)

/-- ITS FALSE NEIGHBOUR: 'it returns false'. Refute it at one input. -/
def dualSingleWrong : ChangeSpec := { name := "dualSingle", fn := fun _ => fun
  | [d1, d2] => { results := [.lit (.bool false)], args := [d1, d2] }
  | _ => none }
def DualSingleWrongFalsely : Prop := dualSingleRow.holds Try.pinned (OpenSpec.ofChange dualSingleWrong)

/-- 'gridhalllaw3.AuctionClears': WHATEVER THE INPUT: true; the input reads as it did. -/
def auctionClearsSpec : ChangeSpec := { name := "auctionClears", fn := fun _ => fun
  | [d] => { results := [.lit (.bool true)], args := [d] }
  | _ => none }
def auctionClearsRow : OpenClaim := { program := "ytdakikgebfphmaa", sum := "ff1e5522e3849dfeee36577798b255fdce8f5d23fd21e3531a7e7fa141d08591", func := "gridhall/gridhalllaw3.AuctionClears", spec := "auctionClears", unfollowed := true, recurses := true, plainKeys := false, apart := false }
def AuctionClearsSaid : Prop := auctionClearsRow.holds Try.pinned (OpenSpec.ofChange auctionClearsSpec)

/-- ITS FALSE NEIGHBOUR: 'it returns false'. Refute it at one input. -/
def auctionClearsWrong : ChangeSpec := { name := "auctionClears", fn := fun _ => fun
  | [d] => { results := [.lit (.bool false)], args := [d] }
  | _ => none }
def AuctionClearsWrongFalsely : Prop := auctionClearsRow.holds Try.pinned (OpenSpec.ofChange auctionClearsWrong)

/-- 'gridhalllaw3.DispatchUnits': WHATEVER THE INPUT: true; the input reads as it did. -/
def dispatchUnitsSpec : ChangeSpec := { name := "dispatchUnits", fn := fun _ => fun
  | [d1, d2] => { results := [.lit (.bool true)], args := [d1, d2] }
  | _ => none }
def dispatchUnitsRow : OpenClaim := { program := "ytdakikgebfphmaa", sum := "ff1e5522e3849dfeee36577798b255fdce8f5d23fd21e3531a7e7fa141d08591", func := "gridhall/gridhalllaw3.DispatchUnits", spec := "dispatchUnits", unfollowed := true, recurses := true, plainKeys := false, apart := false }
def DispatchUnitsSaid : Prop := dispatchUnitsRow.holds Try.pinned (OpenSpec.ofChange dispatchUnitsSpec)

/-- ITS FALSE NEIGHBOUR: 'it returns false'. Refute it at one input. -/
def dispatchUnitsWrong : ChangeSpec := { name := "dispatchUnits", fn := fun _ => fun
  | [d1, d2] => { results := [.lit (.bool false)], args := [d1, d2] }
  | _ => none }
def DispatchUnitsWrongFalsely : Prop := dispatchUnitsRow.holds Try.pinned (OpenSpec.ofChange dispatchUnitsWrong)

/-- 'gridhalllaw3.HoursChanges': WHATEVER THE INPUT: true; the input reads as it did. -/
def hoursChangesSpec : ChangeSpec := { name := "hoursChanges", fn := fun _ => fun
  | [d1, d2, d3, d4] => { results := [.lit (.bool true)], args := [d1, d2, d3, d4] }
  | _ => none }
def hoursChangesRow : OpenClaim := { program := "ytdakikgebfphmaa", sum := "ff1e5522e3849dfeee36577798b255fdce8f5d23fd21e3531a7e7fa141d08591", func := "gridhall/gridhalllaw3.HoursChanges", spec := "hoursChanges", unfollowed := true, recurses := true, plainKeys := false, apart := false }
def HoursChangesSaid : Prop := hoursChangesRow.holds Try.pinned (OpenSpec.ofChange hoursChangesSpec)

/-- ITS FALSE NEIGHBOUR: 'it returns false'. Refute it at one input. -/
def hoursChangesWrong : ChangeSpec := { name := "hoursChanges", fn := fun _ => fun
  | [d1, d2, d3, d4] => { results := [.lit (.bool false)], args := [d1, d2, d3, d4] }
  | _ => none }
def HoursChangesWrongFalsely : Prop := hoursChangesRow.holds Try.pinned (OpenSpec.ofChange hoursChangesWrong)

/-- 'gridhalllaw3.ReserveBest': WHATEVER THE INPUT: true; the input reads as it did. -/
def reserveBestSpec : ChangeSpec := { name := "reserveBest", fn := fun _ => fun
  | [d1, d2, d3] => { results := [.lit (.bool true)], args := [d1, d2, d3] }
  | _ => none }
def reserveBestRow : OpenClaim := { program := "ytdakikgebfphmaa", sum := "ff1e5522e3849dfeee36577798b255fdce8f5d23fd21e3531a7e7fa141d08591", func := "gridhall/gridhalllaw3.ReserveBest", spec := "reserveBest", unfollowed := true, recurses := true, plainKeys := false, apart := false }
def ReserveBestSaid : Prop := reserveBestRow.holds Try.pinned (OpenSpec.ofChange reserveBestSpec)

/-- ITS FALSE NEIGHBOUR: 'it returns false'. Refute it at one input. -/
def reserveBestWrong : ChangeSpec := { name := "reserveBest", fn := fun _ => fun
  | [d1, d2, d3] => { results := [.lit (.bool false)], args := [d1, d2, d3] }
  | _ => none }
def ReserveBestWrongFalsely : Prop := reserveBestRow.holds Try.pinned (OpenSpec.ofChange reserveBestWrong)

/-- 'gridhalllaw3.CommitServes': WHATEVER THE INPUT: true; the input reads as it did. -/
def commitServesSpec : ChangeSpec := { name := "commitServes", fn := fun _ => fun
  | [d1, d2, d3] => { results := [.lit (.bool true)], args := [d1, d2, d3] }
  | _ => none }
def commitServesRow : OpenClaim := { program := "ytdakikgebfphmaa", sum := "ff1e5522e3849dfeee36577798b255fdce8f5d23fd21e3531a7e7fa141d08591", func := "gridhall/gridhalllaw3.CommitServes", spec := "commitServes", unfollowed := true, recurses := true, plainKeys := false, apart := false }
def CommitServesSaid : Prop := commitServesRow.holds Try.pinned (OpenSpec.ofChange commitServesSpec)

/-- ITS FALSE NEIGHBOUR: 'it returns false'. Refute it at one input. -/
def commitServesWrong : ChangeSpec := { name := "commitServes", fn := fun _ => fun
  | [d1, d2, d3] => { results := [.lit (.bool false)], args := [d1, d2, d3] }
  | _ => none }
def CommitServesWrongFalsely : Prop := commitServesRow.holds Try.pinned (OpenSpec.ofChange commitServesWrong)

/-- 'gridhalllaw3.WelfareMoves': WHATEVER THE INPUT: true; the input reads as it did. -/
def welfareMovesSpec : ChangeSpec := { name := "welfareMoves", fn := fun _ => fun
  | [d1, d2] => { results := [.lit (.bool true)], args := [d1, d2] }
  | _ => none }
def welfareMovesRow : OpenClaim := { program := "ytdakikgebfphmaa", sum := "ff1e5522e3849dfeee36577798b255fdce8f5d23fd21e3531a7e7fa141d08591", func := "gridhall/gridhalllaw3.WelfareMoves", spec := "welfareMoves", unfollowed := true, recurses := true, plainKeys := false, apart := false }
def WelfareMovesSaid : Prop := welfareMovesRow.holds Try.pinned (OpenSpec.ofChange welfareMovesSpec)

/-- ITS FALSE NEIGHBOUR: 'it returns false'. Refute it at one input. -/
def welfareMovesWrong : ChangeSpec := { name := "welfareMoves", fn := fun _ => fun
  | [d1, d2] => { results := [.lit (.bool false)], args := [d1, d2] }
  | _ => none }
def WelfareMovesWrongFalsely : Prop := welfareMovesRow.holds Try.pinned (OpenSpec.ofChange welfareMovesWrong)

/-- 'gridhalllaw3.CommitBest': WHATEVER THE INPUT: true; the input reads as it did. -/
def commitBestSpec : ChangeSpec := { name := "commitBest", fn := fun _ => fun
  | [d1, d2] => { results := [.lit (.bool true)], args := [d1, d2] }
  | _ => none }
def commitBestRow : OpenClaim := { program := "ytdakikgebfphmaa", sum := "ff1e5522e3849dfeee36577798b255fdce8f5d23fd21e3531a7e7fa141d08591", func := "gridhall/gridhalllaw3.CommitBest", spec := "commitBest", unfollowed := true, recurses := true, plainKeys := false, apart := false }
def CommitBestSaid : Prop := commitBestRow.holds Try.pinned (OpenSpec.ofChange commitBestSpec)

/-- ITS FALSE NEIGHBOUR: 'it returns false'. Refute it at one input. -/
def commitBestWrong : ChangeSpec := { name := "commitBest", fn := fun _ => fun
  | [d1, d2] => { results := [.lit (.bool false)], args := [d1, d2] }
  | _ => none }
def CommitBestWrongFalsely : Prop := commitBestRow.holds Try.pinned (OpenSpec.ofChange commitBestWrong)

/- THE SECOND FORM. 'bulk': how many values and letters a reading holds, each counted each time it is reached (what is shared counts as often as it is met; a slice's spare places count too). A statement '..UptoSaid' is the law's where the arguments, and the package variables that the reading takes, are together of bulk at most 1048576: NARROWER than '..Said'. Prove '..Said' where nothing that the law and all that it calls make is longer than what came in: it says more and counts as full. Else prove '..UptoSaid'. A law counts once. -/
mutual
def uptoBulk {H : Type} : DataW H → Nat
  | .lit (.string bytes) => bytes.length + 1
  | .lit _ => 1
  | .nil => 1
  | .ptr d => uptoBulk d + 1
  | .slice elems spare => uptoBulkAll elems + uptoBulkAll spare + 1
  | .agg parts => uptoBulkAll parts + 1
  | .iface _ d => uptoBulk d + 1
  | .map entries => uptoBulkEntries entries + 1
  | .held _ => 1
def uptoBulkAll {H : Type} : List (DataW H) → Nat
  | [] => 0
  | d :: r => uptoBulk d + uptoBulkAll r
def uptoBulkEntries {H : Type} : List (Lit × DataW H) → Nat
  | [] => 0
  | x :: r => uptoBulkEntry x + uptoBulkEntries r
def uptoBulkEntry {H : Type} : Lit × DataW H → Nat
  | (.string bytes, d) => bytes.length + uptoBulk d + 1
  | (_, d) => uptoBulk d + 1
 end
def uptoSmall : (H : Type) → List (DataW H) → Bool := fun _ ds => decide (uptoBulkAll ds ≤ 1048576)
def OpenSpec.upto (s : _root_.Go.ChangeSpec) : _root_.Go.OpenSpec := { _root_.Go.OpenSpec.ofChange s with cond := some uptoSmall }

/-- 'gridhalllaw3.ConvexMoves', WHERE WHAT IT READS IS OF BULK AT MOST 1048576: true; the input reads as it did. -/
def convexMovesUptoRow : OpenClaim := { program := "ytdakikgebfphmaa", sum := "ff1e5522e3849dfeee36577798b255fdce8f5d23fd21e3531a7e7fa141d08591", func := "gridhall/gridhalllaw3.ConvexMoves", spec := "convexMoves", plainKeys := false, apart := false, narrowed := true }
def ConvexMovesUptoSaid : Prop := convexMovesUptoRow.holds Try.pinned (OpenSpec.upto convexMovesSpec)

/-- 'gridhalllaw3.DispatchCosts', WHERE WHAT IT READS IS OF BULK AT MOST 1048576: true; the input reads as it did. -/
def dispatchCostsUptoRow : OpenClaim := { program := "ytdakikgebfphmaa", sum := "ff1e5522e3849dfeee36577798b255fdce8f5d23fd21e3531a7e7fa141d08591", func := "gridhall/gridhalllaw3.DispatchCosts", spec := "dispatchCosts", unfollowed := true, recurses := true, plainKeys := false, apart := false, narrowed := true }
def DispatchCostsUptoSaid : Prop := dispatchCostsUptoRow.holds Try.pinned (OpenSpec.upto dispatchCostsSpec)

/-- 'gridhalllaw3.ReserveHolds', WHERE WHAT IT READS IS OF BULK AT MOST 1048576: true; the input reads as it did. -/
def reserveHoldsUptoRow : OpenClaim := { program := "ytdakikgebfphmaa", sum := "ff1e5522e3849dfeee36577798b255fdce8f5d23fd21e3531a7e7fa141d08591", func := "gridhall/gridhalllaw3.ReserveHolds", spec := "reserveHolds", unfollowed := true, recurses := true, plainKeys := false, apart := false, narrowed := true }
def ReserveHoldsUptoSaid : Prop := reserveHoldsUptoRow.holds Try.pinned (OpenSpec.upto reserveHoldsSpec)

/-- 'gridhalllaw3.HoursSpreads', WHERE WHAT IT READS IS OF BULK AT MOST 1048576: true; the input reads as it did. -/
def hoursSpreadsUptoRow : OpenClaim := { program := "ytdakikgebfphmaa", sum := "ff1e5522e3849dfeee36577798b255fdce8f5d23fd21e3531a7e7fa141d08591", func := "gridhall/gridhalllaw3.HoursSpreads", spec := "hoursSpreads", unfollowed := true, recurses := true, plainKeys := false, apart := false, narrowed := true }
def HoursSpreadsUptoSaid : Prop := hoursSpreadsUptoRow.holds Try.pinned (OpenSpec.upto hoursSpreadsSpec)

/-- 'gridhalllaw3.DualSingle', WHERE WHAT IT READS IS OF BULK AT MOST 1048576: true; the input reads as it did. -/
def dualSingleUptoRow : OpenClaim := { program := "ytdakikgebfphmaa", sum := "ff1e5522e3849dfeee36577798b255fdce8f5d23fd21e3531a7e7fa141d08591", func := "gridhall/gridhalllaw3.DualSingle", spec := "dualSingle", unfollowed := true, recurses := true, plainKeys := false, apart := false, narrowed := true }
def DualSingleUptoSaid : Prop := dualSingleUptoRow.holds Try.pinned (OpenSpec.upto dualSingleSpec)

/-- 'gridhalllaw3.AuctionClears', WHERE WHAT IT READS IS OF BULK AT MOST 1048576: true; the input reads as it did. -/
def auctionClearsUptoRow : OpenClaim := { program := "ytdakikgebfphmaa", sum := "ff1e5522e3849dfeee36577798b255fdce8f5d23fd21e3531a7e7fa141d08591", func := "gridhall/gridhalllaw3.AuctionClears", spec := "auctionClears", unfollowed := true, recurses := true, plainKeys := false, apart := false, narrowed := true }
def AuctionClearsUptoSaid : Prop := auctionClearsUptoRow.holds Try.pinned (OpenSpec.upto auctionClearsSpec)

/-- 'gridhalllaw3.DispatchUnits', WHERE WHAT IT READS IS OF BULK AT MOST 1048576: true; the input reads as it did. -/
def dispatchUnitsUptoRow : OpenClaim := { program := "ytdakikgebfphmaa", sum := "ff1e5522e3849dfeee36577798b255fdce8f5d23fd21e3531a7e7fa141d08591", func := "gridhall/gridhalllaw3.DispatchUnits", spec := "dispatchUnits", unfollowed := true, recurses := true, plainKeys := false, apart := false, narrowed := true }
def DispatchUnitsUptoSaid : Prop := dispatchUnitsUptoRow.holds Try.pinned (OpenSpec.upto dispatchUnitsSpec)

/-- 'gridhalllaw3.HoursChanges', WHERE WHAT IT READS IS OF BULK AT MOST 1048576: true; the input reads as it did. -/
def hoursChangesUptoRow : OpenClaim := { program := "ytdakikgebfphmaa", sum := "ff1e5522e3849dfeee36577798b255fdce8f5d23fd21e3531a7e7fa141d08591", func := "gridhall/gridhalllaw3.HoursChanges", spec := "hoursChanges", unfollowed := true, recurses := true, plainKeys := false, apart := false, narrowed := true }
def HoursChangesUptoSaid : Prop := hoursChangesUptoRow.holds Try.pinned (OpenSpec.upto hoursChangesSpec)

/-- 'gridhalllaw3.ReserveBest', WHERE WHAT IT READS IS OF BULK AT MOST 1048576: true; the input reads as it did. -/
def reserveBestUptoRow : OpenClaim := { program := "ytdakikgebfphmaa", sum := "ff1e5522e3849dfeee36577798b255fdce8f5d23fd21e3531a7e7fa141d08591", func := "gridhall/gridhalllaw3.ReserveBest", spec := "reserveBest", unfollowed := true, recurses := true, plainKeys := false, apart := false, narrowed := true }
def ReserveBestUptoSaid : Prop := reserveBestUptoRow.holds Try.pinned (OpenSpec.upto reserveBestSpec)

/-- 'gridhalllaw3.CommitServes', WHERE WHAT IT READS IS OF BULK AT MOST 1048576: true; the input reads as it did. -/
def commitServesUptoRow : OpenClaim := { program := "ytdakikgebfphmaa", sum := "ff1e5522e3849dfeee36577798b255fdce8f5d23fd21e3531a7e7fa141d08591", func := "gridhall/gridhalllaw3.CommitServes", spec := "commitServes", unfollowed := true, recurses := true, plainKeys := false, apart := false, narrowed := true }
def CommitServesUptoSaid : Prop := commitServesUptoRow.holds Try.pinned (OpenSpec.upto commitServesSpec)

/-- 'gridhalllaw3.WelfareMoves', WHERE WHAT IT READS IS OF BULK AT MOST 1048576: true; the input reads as it did. -/
def welfareMovesUptoRow : OpenClaim := { program := "ytdakikgebfphmaa", sum := "ff1e5522e3849dfeee36577798b255fdce8f5d23fd21e3531a7e7fa141d08591", func := "gridhall/gridhalllaw3.WelfareMoves", spec := "welfareMoves", unfollowed := true, recurses := true, plainKeys := false, apart := false, narrowed := true }
def WelfareMovesUptoSaid : Prop := welfareMovesUptoRow.holds Try.pinned (OpenSpec.upto welfareMovesSpec)

/-- 'gridhalllaw3.CommitBest', WHERE WHAT IT READS IS OF BULK AT MOST 1048576: true; the input reads as it did. -/
def commitBestUptoRow : OpenClaim := { program := "ytdakikgebfphmaa", sum := "ff1e5522e3849dfeee36577798b255fdce8f5d23fd21e3531a7e7fa141d08591", func := "gridhall/gridhalllaw3.CommitBest", spec := "commitBest", unfollowed := true, recurses := true, plainKeys := false, apart := false, narrowed := true }
def CommitBestUptoSaid : Prop := commitBestUptoRow.holds Try.pinned (OpenSpec.upto commitBestSpec)

end Rows
end Go.Proofs.Ytdakikgebfphmaa
