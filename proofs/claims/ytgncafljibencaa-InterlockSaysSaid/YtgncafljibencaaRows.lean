/-
  No cell of these rows narrows 'for every input' (looked for: loops, veiled, ifaces, maps, wideKeys, modest, calm, conditions, laid).
  DERIVED. THE GIVEN ROWS OF THIS SEAT. 9 by the template 'for every input the law returns true; each argument reads behind the call as it read before'; 0 by the template 'total and deterministic' (their statements: YtgncafljibencaaTotals.lean).
  GIVEN WITH THE SEED: the statements are not yours to turn. If you find one false, say at which input.
  Laid BY PROGRAM, IN A SANDBOX (cutbox-rows.mjs): the forced cells as the released guide's own fill.sh prints them over the translation f974609c61a5a6cc… (all of the seat's roots in one cut). By AI agents, Wed Nov 11 2026. No macro, syntax, notation, axiom, sorry.
-/
import Derived.Test.YtgncafljibencaaChecked
import GoSem.Claim
import GoSem.ClaimJoined
import GoSem.ClaimMapViews
import Derived.JoinedTies
import Derived.KernelRfl
namespace Go.Proofs.Ytgncafljibencaa
/- THE CELL 'sum', in the pinned program and in every row, IS THE sha256 OF THE DUMP (.gsa) THAT YtgncafljibencaaProg.lean LOADS. Nothing in Lean hashes anything: it is a label: what it is worth is what the hold of that sum in a sandbox is worth. -/
noncomputable def Try.pinned : Pinned := { name := "ytgncafljibencaa", sum := "f974609c61a5a6cc6ce39e144910764fe5f1a4db4e99af4fcb5678b0b0f1d199", checked := Try.checked }
namespace Rows
def none {H : Type} : Left H := { results := [], args := [] }

/-- 'gridhalllaw4.ShedSays': WHATEVER THE INPUT: true; the input reads as it did. -/
def shedSaysSpec : ChangeSpec := { name := "shedSays", fn := fun _ => fun
  | [d1, d2] => { results := [.lit (.bool true)], args := [d1, d2] }
  | _ => none }
def shedSaysRow : OpenClaim := { program := "ytgncafljibencaa", sum := "f974609c61a5a6cc6ce39e144910764fe5f1a4db4e99af4fcb5678b0b0f1d199", func := "gridhall/gridhalllaw4.ShedSays", spec := "shedSays", apart := false }
def ShedSaysSaid : Prop := shedSaysRow.holds Try.pinned (OpenSpec.ofChange shedSaysSpec)

/-- ITS FALSE NEIGHBOUR: 'it returns false'. Refute it at one input. -/
def shedSaysWrong : ChangeSpec := { name := "shedSays", fn := fun _ => fun
  | [d1, d2] => { results := [.lit (.bool false)], args := [d1, d2] }
  | _ => none }
def ShedSaysWrongFalsely : Prop := shedSaysRow.holds Try.pinned (OpenSpec.ofChange shedSaysWrong)

/-- 'gridhalllaw4.UpkeepBest': WHATEVER THE INPUT: true; the input reads as it did. -/
def upkeepBestSpec : ChangeSpec := { name := "upkeepBest", fn := fun _ => fun
  | [d] => { results := [.lit (.bool true)], args := [d] }
  | _ => none }
def upkeepBestRow : OpenClaim := { program := "ytgncafljibencaa", sum := "f974609c61a5a6cc6ce39e144910764fe5f1a4db4e99af4fcb5678b0b0f1d199", func := "gridhall/gridhalllaw4.UpkeepBest", spec := "upkeepBest", unfollowed := true, recurses := true, apart := false }
def UpkeepBestSaid : Prop := upkeepBestRow.holds Try.pinned (OpenSpec.ofChange upkeepBestSpec)

/-- ITS FALSE NEIGHBOUR: 'it returns false'. Refute it at one input. -/
def upkeepBestWrong : ChangeSpec := { name := "upkeepBest", fn := fun _ => fun
  | [d] => { results := [.lit (.bool false)], args := [d] }
  | _ => none }
def UpkeepBestWrongFalsely : Prop := upkeepBestRow.holds Try.pinned (OpenSpec.ofChange upkeepBestWrong)

/-- 'gridhalllaw4.InterlockSays': WHATEVER THE INPUT: true; the input reads as it did. -/
def interlockSaysSpec : ChangeSpec := { name := "interlockSays", fn := fun _ => fun
  | [d1, d2, d3, d4] => { results := [.lit (.bool true)], args := [d1, d2, d3, d4] }
  | _ => none }
def interlockSaysRow : OpenClaim := { program := "ytgncafljibencaa", sum := "f974609c61a5a6cc6ce39e144910764fe5f1a4db4e99af4fcb5678b0b0f1d199", func := "gridhall/gridhalllaw4.InterlockSays", spec := "interlockSays", unfollowed := true, recurses := true, apart := false }
def InterlockSaysSaid : Prop := interlockSaysRow.holds Try.pinned (OpenSpec.ofChange interlockSaysSpec)

/-- ITS FALSE NEIGHBOUR: 'it returns false'. Refute it at one input. -/
def interlockSaysWrong : ChangeSpec := { name := "interlockSays", fn := fun _ => fun
  | [d1, d2, d3, d4] => { results := [.lit (.bool false)], args := [d1, d2, d3, d4] }
  | _ => none }
def InterlockSaysWrongFalsely : Prop := interlockSaysRow.holds Try.pinned (OpenSpec.ofChange interlockSaysWrong)

/-- 'gridhalllaw4.PermitSays': WHATEVER THE INPUT: true; the input reads as it did. -/
def permitSaysSpec : ChangeSpec := { name := "permitSays", fn := fun _ => fun
  | [d1, d2, d3] => { results := [.lit (.bool true)], args := [d1, d2, d3] }
  | _ => none }
def permitSaysRow : OpenClaim := { program := "ytgncafljibencaa", sum := "f974609c61a5a6cc6ce39e144910764fe5f1a4db4e99af4fcb5678b0b0f1d199", func := "gridhall/gridhalllaw4.PermitSays", spec := "permitSays", unfollowed := true, recurses := true, apart := false }
def PermitSaysSaid : Prop := permitSaysRow.holds Try.pinned (OpenSpec.ofChange permitSaysSpec)

/-- ITS FALSE NEIGHBOUR: 'it returns false'. Refute it at one input. -/
def permitSaysWrong : ChangeSpec := { name := "permitSays", fn := fun _ => fun
  | [d1, d2, d3] => { results := [.lit (.bool false)], args := [d1, d2, d3] }
  | _ => none }
def PermitSaysWrongFalsely : Prop := permitSaysRow.holds Try.pinned (OpenSpec.ofChange permitSaysWrong)

/-- 'gridhalllaw4.OrderPlans': WHATEVER THE INPUT: true; the input reads as it did. -/
def orderPlansSpec : ChangeSpec := { name := "orderPlans", fn := fun _ => fun
  | [d1, d2, d3, d4] => { results := [.lit (.bool true)], args := [d1, d2, d3, d4] }
  | _ => none }
def orderPlansRow : OpenClaim := { program := "ytgncafljibencaa", sum := "f974609c61a5a6cc6ce39e144910764fe5f1a4db4e99af4fcb5678b0b0f1d199", func := "gridhall/gridhalllaw4.OrderPlans", spec := "orderPlans", unfollowed := true, recurses := true, apart := false }
def OrderPlansSaid : Prop := orderPlansRow.holds Try.pinned (OpenSpec.ofChange orderPlansSpec)

/-- ITS FALSE NEIGHBOUR: 'it returns false'. Refute it at one input. -/
def orderPlansWrong : ChangeSpec := { name := "orderPlans", fn := fun _ => fun
  | [d1, d2, d3, d4] => { results := [.lit (.bool false)], args := [d1, d2, d3, d4] }
  | _ => none }
def OrderPlansWrongFalsely : Prop := orderPlansRow.holds Try.pinned (OpenSpec.ofChange orderPlansWrong)

/-- 'gridhalllaw4.Names': WHATEVER THE INPUT: true; the input reads as it did. -/
def namesSpec : ChangeSpec := { name := "names", fn := fun _ => fun
  | [] => { results := [.lit (.bool true)], args := [] }
  | _ => none }
def namesRow : OpenClaim := { program := "ytgncafljibencaa", sum := "f974609c61a5a6cc6ce39e144910764fe5f1a4db4e99af4fcb5678b0b0f1d199", func := "gridhall/gridhalllaw4.Names", spec := "names", recurses := true, apart := false }
def NamesSaid : Prop := namesRow.holds Try.pinned (OpenSpec.ofChange namesSpec)

/-- ITS FALSE NEIGHBOUR: 'it returns false'. Refute it at one input. -/
def namesWrong : ChangeSpec := { name := "names", fn := fun _ => fun
  | [] => { results := [.lit (.bool false)], args := [] }
  | _ => none }
def NamesWrongFalsely : Prop := namesRow.holds Try.pinned (OpenSpec.ofChange namesWrong)

/-- 'gridhalllaw4.TelemetrySays': WHATEVER THE INPUT: true; the input reads as it did. -/
def telemetrySaysSpec : ChangeSpec := { name := "telemetrySays", fn := fun _ => fun
  | [d1, d2, d3, d4] => { results := [.lit (.bool true)], args := [d1, d2, d3, d4] }
  | _ => none }
def telemetrySaysRow : OpenClaim := { program := "ytgncafljibencaa", sum := "f974609c61a5a6cc6ce39e144910764fe5f1a4db4e99af4fcb5678b0b0f1d199", func := "gridhall/gridhalllaw4.TelemetrySays", spec := "telemetrySays", inPlace := ["internal/bytealg.abigen_runtime_cmpstring"], unfollowed := true, recurses := true, apart := false }
def TelemetrySaysSaid : Prop := telemetrySaysRow.holds Try.pinned (OpenSpec.ofChange telemetrySaysSpec)

/-- ITS FALSE NEIGHBOUR: 'it returns false'. Refute it at one input. -/
def telemetrySaysWrong : ChangeSpec := { name := "telemetrySays", fn := fun _ => fun
  | [d1, d2, d3, d4] => { results := [.lit (.bool false)], args := [d1, d2, d3, d4] }
  | _ => none }
def TelemetrySaysWrongFalsely : Prop := telemetrySaysRow.holds Try.pinned (OpenSpec.ofChange telemetrySaysWrong)

/-- 'gridhalllaw4.AlarmSays': WHATEVER THE INPUT: true; the input reads as it did. -/
def alarmSaysSpec : ChangeSpec := { name := "alarmSays", fn := fun _ => fun
  | [d1, d2, d3] => { results := [.lit (.bool true)], args := [d1, d2, d3] }
  | _ => none }
def alarmSaysRow : OpenClaim := { program := "ytgncafljibencaa", sum := "f974609c61a5a6cc6ce39e144910764fe5f1a4db4e99af4fcb5678b0b0f1d199", func := "gridhall/gridhalllaw4.AlarmSays", spec := "alarmSays", unfollowed := true, recurses := true, apart := false }
def AlarmSaysSaid : Prop := alarmSaysRow.holds Try.pinned (OpenSpec.ofChange alarmSaysSpec)

/-- ITS FALSE NEIGHBOUR: 'it returns false'. Refute it at one input. -/
def alarmSaysWrong : ChangeSpec := { name := "alarmSays", fn := fun _ => fun
  | [d1, d2, d3] => { results := [.lit (.bool false)], args := [d1, d2, d3] }
  | _ => none }
def AlarmSaysWrongFalsely : Prop := alarmSaysRow.holds Try.pinned (OpenSpec.ofChange alarmSaysWrong)

/-- 'gridhalltop.TopOrders': WHATEVER THE INPUT: true; the input reads as it did. -/
def topOrdersSpec : ChangeSpec := { name := "topOrders", fn := fun _ => fun
  | [d1, d2, d3, d4] => { results := [.lit (.bool true)], args := [d1, d2, d3, d4] }
  | _ => none }
def topOrdersRow : OpenClaim := { program := "ytgncafljibencaa", sum := "f974609c61a5a6cc6ce39e144910764fe5f1a4db4e99af4fcb5678b0b0f1d199", func := "gridhall/gridhalltop.TopOrders", spec := "topOrders", unfollowed := true, recurses := true, apart := false }
def TopOrdersSaid : Prop := topOrdersRow.holds Try.pinned (OpenSpec.ofChange topOrdersSpec)

/-- ITS FALSE NEIGHBOUR: 'it returns false'. Refute it at one input. -/
def topOrdersWrong : ChangeSpec := { name := "topOrders", fn := fun _ => fun
  | [d1, d2, d3, d4] => { results := [.lit (.bool false)], args := [d1, d2, d3, d4] }
  | _ => none }
def TopOrdersWrongFalsely : Prop := topOrdersRow.holds Try.pinned (OpenSpec.ofChange topOrdersWrong)

/- THE SECOND FORM. 'bulk': how many values and letters a reading holds, each counted each time it is reached (what is shared counts as often as it is met; a slice's spare places count too). A statement '..UptoSaid' is the law's where the arguments, and the package variables that the reading takes, are together of bulk at most 1048576: NARROWER than '..Said'. Prove '..Said' where nothing that the law and all that it calls make is longer than what came in: it says more and counts as full. Else prove '..UptoSaid'. A law counts once. -/
mutual
def uptoBulk {H : Type} : DataW H → Nat
  | .lit (.string bytes) => bytes.length + 1
  | .lit _ => 1
  | .nil => 1
  | .ptr d => uptoBulk d + 1
  | .slice elems spare => uptoBulkAll elems + uptoBulkAll spare + 1
  | .agg parts => uptoBulkAll parts + 1
  | .iface _ d => uptoBulk d + 1
  | .map entries => uptoBulkEntries entries + 1
  | .held _ => 1
def uptoBulkAll {H : Type} : List (DataW H) → Nat
  | [] => 0
  | d :: r => uptoBulk d + uptoBulkAll r
def uptoBulkEntries {H : Type} : List (Lit × DataW H) → Nat
  | [] => 0
  | x :: r => uptoBulkEntry x + uptoBulkEntries r
def uptoBulkEntry {H : Type} : Lit × DataW H → Nat
  | (.string bytes, d) => bytes.length + uptoBulk d + 1
  | (_, d) => uptoBulk d + 1
 end
def uptoSmall : (H : Type) → List (DataW H) → Bool := fun _ ds => decide (uptoBulkAll ds ≤ 1048576)
def OpenSpec.upto (s : _root_.Go.ChangeSpec) : _root_.Go.OpenSpec := { _root_.Go.OpenSpec.ofChange s with cond := some uptoSmall }

/-- 'gridhalllaw4.ShedSays', WHERE WHAT IT READS IS OF BULK AT MOST 1048576: true; the input reads as it did. -/
def shedSaysUptoRow : OpenClaim := { program := "ytgncafljibencaa", sum := "f974609c61a5a6cc6ce39e144910764fe5f1a4db4e99af4fcb5678b0b0f1d199", func := "gridhall/gridhalllaw4.ShedSays", spec := "shedSays", apart := false, narrowed := true }
def ShedSaysUptoSaid : Prop := shedSaysUptoRow.holds Try.pinned (OpenSpec.upto shedSaysSpec)

/-- 'gridhalllaw4.UpkeepBest', WHERE WHAT IT READS IS OF BULK AT MOST 1048576: true; the input reads as it did. -/
def upkeepBestUptoRow : OpenClaim := { program := "ytgncafljibencaa", sum := "f974609c61a5a6cc6ce39e144910764fe5f1a4db4e99af4fcb5678b0b0f1d199", func := "gridhall/gridhalllaw4.UpkeepBest", spec := "upkeepBest", unfollowed := true, recurses := true, apart := false, narrowed := true }
def UpkeepBestUptoSaid : Prop := upkeepBestUptoRow.holds Try.pinned (OpenSpec.upto upkeepBestSpec)

/-- 'gridhalllaw4.InterlockSays', WHERE WHAT IT READS IS OF BULK AT MOST 1048576: true; the input reads as it did. -/
def interlockSaysUptoRow : OpenClaim := { program := "ytgncafljibencaa", sum := "f974609c61a5a6cc6ce39e144910764fe5f1a4db4e99af4fcb5678b0b0f1d199", func := "gridhall/gridhalllaw4.InterlockSays", spec := "interlockSays", unfollowed := true, recurses := true, apart := false, narrowed := true }
def InterlockSaysUptoSaid : Prop := interlockSaysUptoRow.holds Try.pinned (OpenSpec.upto interlockSaysSpec)

/-- 'gridhalllaw4.PermitSays', WHERE WHAT IT READS IS OF BULK AT MOST 1048576: true; the input reads as it did. -/
def permitSaysUptoRow : OpenClaim := { program := "ytgncafljibencaa", sum := "f974609c61a5a6cc6ce39e144910764fe5f1a4db4e99af4fcb5678b0b0f1d199", func := "gridhall/gridhalllaw4.PermitSays", spec := "permitSays", unfollowed := true, recurses := true, apart := false, narrowed := true }
def PermitSaysUptoSaid : Prop := permitSaysUptoRow.holds Try.pinned (OpenSpec.upto permitSaysSpec)

/-- 'gridhalllaw4.OrderPlans', WHERE WHAT IT READS IS OF BULK AT MOST 1048576: true; the input reads as it did. -/
def orderPlansUptoRow : OpenClaim := { program := "ytgncafljibencaa", sum := "f974609c61a5a6cc6ce39e144910764fe5f1a4db4e99af4fcb5678b0b0f1d199", func := "gridhall/gridhalllaw4.OrderPlans", spec := "orderPlans", unfollowed := true, recurses := true, apart := false, narrowed := true }
def OrderPlansUptoSaid : Prop := orderPlansUptoRow.holds Try.pinned (OpenSpec.upto orderPlansSpec)

/-- 'gridhalllaw4.Names', WHERE WHAT IT READS IS OF BULK AT MOST 1048576: true; the input reads as it did. -/
def namesUptoRow : OpenClaim := { program := "ytgncafljibencaa", sum := "f974609c61a5a6cc6ce39e144910764fe5f1a4db4e99af4fcb5678b0b0f1d199", func := "gridhall/gridhalllaw4.Names", spec := "names", recurses := true, apart := false, narrowed := true }
def NamesUptoSaid : Prop := namesUptoRow.holds Try.pinned (OpenSpec.upto namesSpec)

/-- 'gridhalllaw4.TelemetrySays', WHERE WHAT IT READS IS OF BULK AT MOST 1048576: true; the input reads as it did. -/
def telemetrySaysUptoRow : OpenClaim := { program := "ytgncafljibencaa", sum := "f974609c61a5a6cc6ce39e144910764fe5f1a4db4e99af4fcb5678b0b0f1d199", func := "gridhall/gridhalllaw4.TelemetrySays", spec := "telemetrySays", inPlace := ["internal/bytealg.abigen_runtime_cmpstring"], unfollowed := true, recurses := true, apart := false, narrowed := true }
def TelemetrySaysUptoSaid : Prop := telemetrySaysUptoRow.holds Try.pinned (OpenSpec.upto telemetrySaysSpec)

/-- 'gridhalllaw4.AlarmSays', WHERE WHAT IT READS IS OF BULK AT MOST 1048576: true; the input reads as it did. -/
def alarmSaysUptoRow : OpenClaim := { program := "ytgncafljibencaa", sum := "f974609c61a5a6cc6ce39e144910764fe5f1a4db4e99af4fcb5678b0b0f1d199", func := "gridhall/gridhalllaw4.AlarmSays", spec := "alarmSays", unfollowed := true, recurses := true, apart := false, narrowed := true }
def AlarmSaysUptoSaid : Prop := alarmSaysUptoRow.holds Try.pinned (OpenSpec.upto alarmSaysSpec)

/-- 'gridhalltop.TopOrders', WHERE WHAT IT READS IS OF BULK AT MOST 1048576: true; the input reads as it did. -/
def topOrdersUptoRow : OpenClaim := { program := "ytgncafljibencaa", sum := "f974609c61a5a6cc6ce39e144910764fe5f1a4db4e99af4fcb5678b0b0f1d199", func := "gridhall/gridhalltop.TopOrders", spec := "topOrders", unfollowed := true, recurses := true, apart := false, narrowed := true }
def TopOrdersUptoSaid : Prop := topOrdersUptoRow.holds Try.pinned (OpenSpec.upto topOrdersSpec)

end Rows
end Go.Proofs.Ytgncafljibencaa
