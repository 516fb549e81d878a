/-
  DERIVED. GIVEN WITH THE SEED: THE CARDS: each row of YtfnkmammbmkibaaDoorRows.lean that lists a variable, with what it lists TIED to the program's text (the seventh form; the later family's looks); each row that meets fmt, with fmt's text TOLD by the authors' own Lean function (tested against real Go, not proved from fmt's source: count such statements apart). THE CARD IS WHAT COUNTS. Prove the row's statement (the work); the ties are given (YtfnkmammbmkibaaDoorTie.lean); close each card by the builder's one call (the guide's Derived/Test/ToyasCard.lean, 'card_holds'). Laid BY PROGRAM, IN A SANDBOX (cutbox-door.mjs). By AI agents, Wed Nov 11 2026. No macro, syntax, notation, axiom, sorry.
-/
import Derived.Test.YtfnkmammbmkibaaDoorRows
import GoSem.ClaimSeven
namespace Go.Proofs.YtfnkmammbmkibaaDoor
namespace Rows

/-- THE TIED CARD OF 'gridhalllaw4.ConsoleSays'. -/
def consoleSaysCard : Claim7 := { stood := { row := consoleSaysRow, standIns := [], harness := (true, "3551614de5e5a7d8cdce65f6760abc2252ecaf185ab5e2b33eb5f05a46218035"), looks := false }, kinds := [], alts := [], laidByText := true, laidKinds := [.data, .data, .data], laidTests := true, laidLooks := .later }
def ConsoleSaysCardSaid : Prop := Claim7.holds Tryd.pinned (.plain (OpenSpec.ofChange consoleSaysSpec)) consoleSaysCard

/-- THE SECOND FORM's CARD OF 'gridhalllaw4.ConsoleSays'. -/
def consoleSaysUptoCard : Claim7 := { stood := { row := consoleSaysUptoRow, standIns := [], harness := (true, "3551614de5e5a7d8cdce65f6760abc2252ecaf185ab5e2b33eb5f05a46218035"), looks := false }, kinds := [], alts := [], laidByText := true, laidKinds := [.data, .data, .data], laidTests := true, laidLooks := .later }
def ConsoleSaysUptoCardSaid : Prop := Claim7.holds Tryd.pinned (.plain (OpenSpec.upto consoleSaysSpec)) consoleSaysUptoCard
end Rows
end Go.Proofs.YtfnkmammbmkibaaDoor
