/-
  No cell of these rows narrows 'for every input' (looked for: loops, veiled, ifaces, maps, wideKeys, modest, calm, conditions, laid).
  DERIVED. THE GIVEN ROWS OF THIS SEAT. 6 by the template 'for every input the law returns true; each argument reads behind the call as it read before'; 0 by the template 'total and deterministic' (their statements: YtkkkldhilofgmaaTotals.lean).
  GIVEN WITH THE SEED: the statements are not yours to turn. If you find one false, say at which input.
  Laid BY PROGRAM, IN A SANDBOX (cutbox-rows.mjs): the forced cells as the released guide's own fill.sh prints them over the translation b680c312267f242f… (all of the seat's roots in one cut). By AI agents, Wed Nov 11 2026. No macro, syntax, notation, axiom, sorry.
-/
import Derived.Test.YtkkkldhilofgmaaChecked
import GoSem.Claim
import GoSem.ClaimJoined
import GoSem.ClaimMapViews
import Derived.JoinedTies
import Derived.KernelRfl
namespace Go.Proofs.Ytkkkldhilofgmaa
/- THE CELL 'sum', in the pinned program and in every row, IS THE sha256 OF THE DUMP (.gsa) THAT YtkkkldhilofgmaaProg.lean LOADS. Nothing in Lean hashes anything: it is a label: what it is worth is what the hold of that sum in a sandbox is worth. -/
noncomputable def Try.pinned : Pinned := { name := "ytkkkldhilofgmaa", sum := "b680c312267f242fa95e84f314ca63a1aad35000339def72549e0fd50f9f13fc", checked := Try.checked }
namespace Rows
def none {H : Type} : Left H := { results := [], args := [] }

/-- 'gridhalllaw4.UpkeepBest': WHATEVER THE INPUT: true; the input reads as it did. -/
def upkeepBestSpec : ChangeSpec := { name := "upkeepBest", fn := fun _ => fun
  | [d] => { results := [.lit (.bool true)], args := [d] }
  | _ => none }
def upkeepBestRow : OpenClaim := { program := "ytkkkldhilofgmaa", sum := "b680c312267f242fa95e84f314ca63a1aad35000339def72549e0fd50f9f13fc", func := "gridhall/gridhalllaw4.UpkeepBest", spec := "upkeepBest", unfollowed := true, recurses := true, apart := false }
def UpkeepBestSaid : Prop := upkeepBestRow.holds Try.pinned (OpenSpec.ofChange upkeepBestSpec)

/-- ITS FALSE NEIGHBOUR: 'it returns false'. Refute it at one input. -/
def upkeepBestWrong : ChangeSpec := { name := "upkeepBest", fn := fun _ => fun
  | [d] => { results := [.lit (.bool false)], args := [d] }
  | _ => none }
def UpkeepBestWrongFalsely : Prop := upkeepBestRow.holds Try.pinned (OpenSpec.ofChange upkeepBestWrong)

/-- 'gridhalllaw3.ConvexSums': WHATEVER THE INPUT: true; the input reads as it did. -/
def convexSumsSpec : ChangeSpec := { name := "convexSums", fn := fun _ => fun
  | [d1, d2] => { results := [.lit (.bool true)], args := [d1, d2] }
  | _ => none }
def convexSumsRow : OpenClaim := { program := "ytkkkldhilofgmaa", sum := "b680c312267f242fa95e84f314ca63a1aad35000339def72549e0fd50f9f13fc", func := "gridhall/gridhalllaw3.ConvexSums", spec := "convexSums", unfollowed := true, recurses := true, apart := false }
def ConvexSumsSaid : Prop := convexSumsRow.holds Try.pinned (OpenSpec.ofChange convexSumsSpec)

/-- ITS FALSE NEIGHBOUR: 'it returns false'. Refute it at one input. -/
def convexSumsWrong : ChangeSpec := { name := "convexSums", fn := fun _ => fun
  | [d1, d2] => { results := [.lit (.bool false)], args := [d1, d2] }
  | _ => none }
def ConvexSumsWrongFalsely : Prop := convexSumsRow.holds Try.pinned (OpenSpec.ofChange convexSumsWrong)

/-- 'gridhalllaw3.StorageBest': WHATEVER THE INPUT: true; the input reads as it did. -/
def storageBestSpec : ChangeSpec := { name := "storageBest", fn := fun _ => fun
  | [d1, d2] => { results := [.lit (.bool true)], args := [d1, d2] }
  | _ => none }
def storageBestRow : OpenClaim := { program := "ytkkkldhilofgmaa", sum := "b680c312267f242fa95e84f314ca63a1aad35000339def72549e0fd50f9f13fc", func := "gridhall/gridhalllaw3.StorageBest", spec := "storageBest", unfollowed := true, recurses := true, apart := false }
def StorageBestSaid : Prop := storageBestRow.holds Try.pinned (OpenSpec.ofChange storageBestSpec)

/-- ITS FALSE NEIGHBOUR: 'it returns false'. Refute it at one input. -/
def storageBestWrong : ChangeSpec := { name := "storageBest", fn := fun _ => fun
  | [d1, d2] => { results := [.lit (.bool false)], args := [d1, d2] }
  | _ => none }
def StorageBestWrongFalsely : Prop := storageBestRow.holds Try.pinned (OpenSpec.ofChange storageBestWrong)

/-- 'gridhalllaw3.RampNearest': WHATEVER THE INPUT: true; the input reads as it did. -/
def rampNearestSpec : ChangeSpec := { name := "rampNearest", fn := fun _ => fun
  | [d1, d2, d3, d4, d5] => { results := [.lit (.bool true)], args := [d1, d2, d3, d4, d5] }
  | _ => none }
def rampNearestRow : OpenClaim := { program := "ytkkkldhilofgmaa", sum := "b680c312267f242fa95e84f314ca63a1aad35000339def72549e0fd50f9f13fc", func := "gridhall/gridhalllaw3.RampNearest", spec := "rampNearest", unfollowed := true, recurses := true, apart := false }
def RampNearestSaid : Prop := rampNearestRow.holds Try.pinned (OpenSpec.ofChange rampNearestSpec)

/-- ITS FALSE NEIGHBOUR: 'it returns false'. Refute it at one input. -/
def rampNearestWrong : ChangeSpec := { name := "rampNearest", fn := fun _ => fun
  | [d1, d2, d3, d4, d5] => { results := [.lit (.bool false)], args := [d1, d2, d3, d4, d5] }
  | _ => none }
def RampNearestWrongFalsely : Prop := rampNearestRow.holds Try.pinned (OpenSpec.ofChange rampNearestWrong)

/-- 'gridhalllaw4.PermitSays': WHATEVER THE INPUT: true; the input reads as it did. -/
def permitSaysSpec : ChangeSpec := { name := "permitSays", fn := fun _ => fun
  | [d1, d2, d3] => { results := [.lit (.bool true)], args := [d1, d2, d3] }
  | _ => none }
def permitSaysRow : OpenClaim := { program := "ytkkkldhilofgmaa", sum := "b680c312267f242fa95e84f314ca63a1aad35000339def72549e0fd50f9f13fc", func := "gridhall/gridhalllaw4.PermitSays", spec := "permitSays", unfollowed := true, recurses := true, apart := false }
def PermitSaysSaid : Prop := permitSaysRow.holds Try.pinned (OpenSpec.ofChange permitSaysSpec)

/-- ITS FALSE NEIGHBOUR: 'it returns false'. Refute it at one input. -/
def permitSaysWrong : ChangeSpec := { name := "permitSays", fn := fun _ => fun
  | [d1, d2, d3] => { results := [.lit (.bool false)], args := [d1, d2, d3] }
  | _ => none }
def PermitSaysWrongFalsely : Prop := permitSaysRow.holds Try.pinned (OpenSpec.ofChange permitSaysWrong)

/-- 'gridhalllaw4.TelemetrySays': WHATEVER THE INPUT: true; the input reads as it did. -/
def telemetrySaysSpec : ChangeSpec := { name := "telemetrySays", fn := fun _ => fun
  | [d1, d2, d3, d4] => { results := [.lit (.bool true)], args := [d1, d2, d3, d4] }
  | _ => none }
def telemetrySaysRow : OpenClaim := { program := "ytkkkldhilofgmaa", sum := "b680c312267f242fa95e84f314ca63a1aad35000339def72549e0fd50f9f13fc", func := "gridhall/gridhalllaw4.TelemetrySays", spec := "telemetrySays", inPlace := ["internal/bytealg.abigen_runtime_cmpstring"], unfollowed := true, recurses := true, apart := false }
def TelemetrySaysSaid : Prop := telemetrySaysRow.holds Try.pinned (OpenSpec.ofChange telemetrySaysSpec)

/-- ITS FALSE NEIGHBOUR: 'it returns false'. Refute it at one input. -/
def telemetrySaysWrong : ChangeSpec := { name := "telemetrySays", fn := fun _ => fun
  | [d1, d2, d3, d4] => { results := [.lit (.bool false)], args := [d1, d2, d3, d4] }
  | _ => none }
def TelemetrySaysWrongFalsely : Prop := telemetrySaysRow.holds Try.pinned (OpenSpec.ofChange telemetrySaysWrong)

/- THE SECOND FORM. 'bulk': how many values and letters a reading holds, each counted each time it is reached (what is shared counts as often as it is met; a slice's spare places count too). A statement '..UptoSaid' is the law's where the arguments, and the package variables that the reading takes, are together of bulk at most 1048576: NARROWER than '..Said'. Prove '..Said' where nothing that the law and all that it calls make is longer than what came in: it says more and counts as full. Else prove '..UptoSaid'. A law counts once. -/
mutual
def uptoBulk {H : Type} : DataW H → Nat
  | .lit (.string bytes) => bytes.length + 1
  | .lit _ => 1
  | .nil => 1
  | .ptr d => uptoBulk d + 1
  | .slice elems spare => uptoBulkAll elems + uptoBulkAll spare + 1
  | .agg parts => uptoBulkAll parts + 1
  | .iface _ d => uptoBulk d + 1
  | .map entries => uptoBulkEntries entries + 1
  | .held _ => 1
def uptoBulkAll {H : Type} : List (DataW H) → Nat
  | [] => 0
  | d :: r => uptoBulk d + uptoBulkAll r
def uptoBulkEntries {H : Type} : List (Lit × DataW H) → Nat
  | [] => 0
  | x :: r => uptoBulkEntry x + uptoBulkEntries r
def uptoBulkEntry {H : Type} : Lit × DataW H → Nat
  | (.string bytes, d) => bytes.length + uptoBulk d + 1
  | (_, d) => uptoBulk d + 1
 end
def uptoSmall : (H : Type) → List (DataW H) → Bool := fun _ ds => decide (uptoBulkAll ds ≤ 1048576)
def OpenSpec.upto (s : _root_.Go.ChangeSpec) : _root_.Go.OpenSpec := { _root_.Go.OpenSpec.ofChange s with cond := some uptoSmall }

/-- 'gridhalllaw4.UpkeepBest', WHERE WHAT IT READS IS OF BULK AT MOST 1048576: true; the input reads as it did. -/
def upkeepBestUptoRow : OpenClaim := { program := "ytkkkldhilofgmaa", sum := "b680c312267f242fa95e84f314ca63a1aad35000339def72549e0fd50f9f13fc", func := "gridhall/gridhalllaw4.UpkeepBest", spec := "upkeepBest", unfollowed := true, recurses := true, apart := false, narrowed := true }
def UpkeepBestUptoSaid : Prop := upkeepBestUptoRow.holds Try.pinned (OpenSpec.upto upkeepBestSpec)

/-- 'gridhalllaw3.ConvexSums', WHERE WHAT IT READS IS OF BULK AT MOST 1048576: true; the input reads as it did. -/
def convexSumsUptoRow : OpenClaim := { program := "ytkkkldhilofgmaa", sum := "b680c312267f242fa95e84f314ca63a1aad35000339def72549e0fd50f9f13fc", func := "gridhall/gridhalllaw3.ConvexSums", spec := "convexSums", unfollowed := true, recurses := true, apart := false, narrowed := true }
def ConvexSumsUptoSaid : Prop := convexSumsUptoRow.holds Try.pinned (OpenSpec.upto convexSumsSpec)

/-- 'gridhalllaw3.StorageBest', WHERE WHAT IT READS IS OF BULK AT MOST 1048576: true; the input reads as it did. -/
def storageBestUptoRow : OpenClaim := { program := "ytkkkldhilofgmaa", sum := "b680c312267f242fa95e84f314ca63a1aad35000339def72549e0fd50f9f13fc", func := "gridhall/gridhalllaw3.StorageBest", spec := "storageBest", unfollowed := true, recurses := true, apart := false, narrowed := true }
def StorageBestUptoSaid : Prop := storageBestUptoRow.holds Try.pinned (OpenSpec.upto storageBestSpec)

/-- 'gridhalllaw3.RampNearest', WHERE WHAT IT READS IS OF BULK AT MOST 1048576: true; the input reads as it did. -/
def rampNearestUptoRow : OpenClaim := { program := "ytkkkldhilofgmaa", sum := "b680c312267f242fa95e84f314ca63a1aad35000339def72549e0fd50f9f13fc", func := "gridhall/gridhalllaw3.RampNearest", spec := "rampNearest", unfollowed := true, recurses := true, apart := false, narrowed := true }
def RampNearestUptoSaid : Prop := rampNearestUptoRow.holds Try.pinned (OpenSpec.upto rampNearestSpec)

/-- 'gridhalllaw4.PermitSays', WHERE WHAT IT READS IS OF BULK AT MOST 1048576: true; the input reads as it did. -/
def permitSaysUptoRow : OpenClaim := { program := "ytkkkldhilofgmaa", sum := "b680c312267f242fa95e84f314ca63a1aad35000339def72549e0fd50f9f13fc", func := "gridhall/gridhalllaw4.PermitSays", spec := "permitSays", unfollowed := true, recurses := true, apart := false, narrowed := true }
def PermitSaysUptoSaid : Prop := permitSaysUptoRow.holds Try.pinned (OpenSpec.upto permitSaysSpec)

/-- 'gridhalllaw4.TelemetrySays', WHERE WHAT IT READS IS OF BULK AT MOST 1048576: true; the input reads as it did. -/
def telemetrySaysUptoRow : OpenClaim := { program := "ytkkkldhilofgmaa", sum := "b680c312267f242fa95e84f314ca63a1aad35000339def72549e0fd50f9f13fc", func := "gridhall/gridhalllaw4.TelemetrySays", spec := "telemetrySays", inPlace := ["internal/bytealg.abigen_runtime_cmpstring"], unfollowed := true, recurses := true, apart := false, narrowed := true }
def TelemetrySaysUptoSaid : Prop := telemetrySaysUptoRow.holds Try.pinned (OpenSpec.upto telemetrySaysSpec)

end Rows
end Go.Proofs.Ytkkkldhilofgmaa
