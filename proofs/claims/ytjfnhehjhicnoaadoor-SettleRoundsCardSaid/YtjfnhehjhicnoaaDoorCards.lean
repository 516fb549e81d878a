/-
  DERIVED. GIVEN WITH THE SEED: THE CARDS: each row of YtjfnhehjhicnoaaDoorRows.lean that lists a variable, with what it lists TIED to the program's text (the seventh form; the later family's looks); each row that meets fmt, with fmt's text TOLD by the authors' own Lean function (tested against real Go, not proved from fmt's source: count such statements apart). THE CARD IS WHAT COUNTS. Prove the row's statement (the work); the ties are given (YtjfnhehjhicnoaaDoorTie.lean); close each card by the builder's one call (the guide's Derived/Test/ToyasCard.lean, 'card_holds'). Laid BY PROGRAM, IN A SANDBOX (cutbox-door.mjs). By AI agents, Wed Nov 11 2026. No macro, syntax, notation, axiom, sorry.
-/
import Derived.Test.YtjfnhehjhicnoaaDoorRows
import GoSem.ClaimSeven
namespace Go.Proofs.YtjfnhehjhicnoaaDoor
namespace Rows

/-- THE TIED CARD OF 'gridhalllaw4.ArchiveSays'. -/
def archiveSaysCard : Claim7 := { stood := { row := archiveSaysRow, standIns := [], harness := (true, "46460d69bbc9461be5624d5826bf6773be0b75d4ed69e423ed679516c7ef2c32"), looks := true }, kinds := [], alts := [], laidByText := true, laidKinds := [.data, .data, .data], laidTests := true, laidLooks := .later }
def ArchiveSaysCardSaid : Prop := Claim7.holds Tryd.pinned (.plain (OpenSpec.ofChange archiveSaysSpec)) archiveSaysCard

/-- THE TIED CARD OF 'gridhalllaw4.ForecastMeans'. -/
def forecastMeansCard : Claim7 := { stood := { row := forecastMeansRow, standIns := [], harness := (true, "46460d69bbc9461be5624d5826bf6773be0b75d4ed69e423ed679516c7ef2c32"), looks := true }, kinds := [], alts := [], laidByText := true, laidKinds := [.data, .data, .data], laidTests := true, laidLooks := .later }
def ForecastMeansCardSaid : Prop := Claim7.holds Tryd.pinned (.plain (OpenSpec.ofChange forecastMeansSpec)) forecastMeansCard

/-- THE TIED CARD OF 'gridhalllaw3.LedgerTexts'. -/
def ledgerTextsCard : Claim7 := { stood := { row := ledgerTextsRow, standIns := [], harness := (true, "46460d69bbc9461be5624d5826bf6773be0b75d4ed69e423ed679516c7ef2c32"), looks := true }, kinds := [], alts := [], laidByText := true, laidKinds := [.data, .data, .data], laidTests := true, laidLooks := .later }
def LedgerTextsCardSaid : Prop := Claim7.holds Tryd.pinned (.plain (OpenSpec.ofChange ledgerTextsSpec)) ledgerTextsCard

/-- THE TIED CARD OF 'gridhalllaw4.SwingSteps'. -/
def swingStepsCard : Claim7 := { stood := { row := swingStepsRow, standIns := [], harness := (true, "46460d69bbc9461be5624d5826bf6773be0b75d4ed69e423ed679516c7ef2c32"), looks := true }, kinds := [], alts := [], laidByText := true, laidKinds := [.data, .data, .data, .sentinel, .sentinel], laidTests := true, laidLooks := .later }
def SwingStepsCardSaid : Prop := Claim7.holds Tryd.pinned (.plain (OpenSpec.ofChange swingStepsSpec)) swingStepsCard

/-- THE TIED CARD OF 'gridhalllaw3.SettleRounds'. -/
def settleRoundsCard : Claim7 := { stood := { row := settleRoundsRow, standIns := [], harness := (true, "46460d69bbc9461be5624d5826bf6773be0b75d4ed69e423ed679516c7ef2c32"), looks := true }, kinds := [], alts := [], laidByText := true, laidKinds := [.data, .data, .data, .sentinel, .sentinel], laidTests := true, laidLooks := .later }
def SettleRoundsCardSaid : Prop := Claim7.holds Tryd.pinned (.plain (OpenSpec.ofChange settleRoundsSpec)) settleRoundsCard

/-- THE SECOND FORM's CARD OF 'gridhalllaw4.ArchiveSays'. -/
def archiveSaysUptoCard : Claim7 := { stood := { row := archiveSaysUptoRow, standIns := [], harness := (true, "46460d69bbc9461be5624d5826bf6773be0b75d4ed69e423ed679516c7ef2c32"), looks := true }, kinds := [], alts := [], laidByText := true, laidKinds := [.data, .data, .data], laidTests := true, laidLooks := .later }
def ArchiveSaysUptoCardSaid : Prop := Claim7.holds Tryd.pinned (.plain (OpenSpec.upto archiveSaysSpec)) archiveSaysUptoCard

/-- THE SECOND FORM's CARD OF 'gridhalllaw4.ForecastMeans'. -/
def forecastMeansUptoCard : Claim7 := { stood := { row := forecastMeansUptoRow, standIns := [], harness := (true, "46460d69bbc9461be5624d5826bf6773be0b75d4ed69e423ed679516c7ef2c32"), looks := true }, kinds := [], alts := [], laidByText := true, laidKinds := [.data, .data, .data], laidTests := true, laidLooks := .later }
def ForecastMeansUptoCardSaid : Prop := Claim7.holds Tryd.pinned (.plain (OpenSpec.upto forecastMeansSpec)) forecastMeansUptoCard

/-- THE SECOND FORM's CARD OF 'gridhalllaw3.LedgerTexts'. -/
def ledgerTextsUptoCard : Claim7 := { stood := { row := ledgerTextsUptoRow, standIns := [], harness := (true, "46460d69bbc9461be5624d5826bf6773be0b75d4ed69e423ed679516c7ef2c32"), looks := true }, kinds := [], alts := [], laidByText := true, laidKinds := [.data, .data, .data], laidTests := true, laidLooks := .later }
def LedgerTextsUptoCardSaid : Prop := Claim7.holds Tryd.pinned (.plain (OpenSpec.upto ledgerTextsSpec)) ledgerTextsUptoCard

/-- THE SECOND FORM's CARD OF 'gridhalllaw4.SwingSteps'. -/
def swingStepsUptoCard : Claim7 := { stood := { row := swingStepsUptoRow, standIns := [], harness := (true, "46460d69bbc9461be5624d5826bf6773be0b75d4ed69e423ed679516c7ef2c32"), looks := true }, kinds := [], alts := [], laidByText := true, laidKinds := [.data, .data, .data, .sentinel, .sentinel], laidTests := true, laidLooks := .later }
def SwingStepsUptoCardSaid : Prop := Claim7.holds Tryd.pinned (.plain (OpenSpec.upto swingStepsSpec)) swingStepsUptoCard

/-- THE SECOND FORM's CARD OF 'gridhalllaw3.SettleRounds'. -/
def settleRoundsUptoCard : Claim7 := { stood := { row := settleRoundsUptoRow, standIns := [], harness := (true, "46460d69bbc9461be5624d5826bf6773be0b75d4ed69e423ed679516c7ef2c32"), looks := true }, kinds := [], alts := [], laidByText := true, laidKinds := [.data, .data, .data, .sentinel, .sentinel], laidTests := true, laidLooks := .later }
def SettleRoundsUptoCardSaid : Prop := Claim7.holds Tryd.pinned (.plain (OpenSpec.upto settleRoundsSpec)) settleRoundsUptoCard
end Rows
end Go.Proofs.YtjfnhehjhicnoaaDoor
