/-
  DERIVED. GIVEN WITH THE SEED: THE CARDS: each row of YtfkonofjdimjbaaGreatDoorRows.lean that lists a variable, with what it lists TIED to the program's text (the seventh form; the later family's looks); each row that meets fmt, with fmt's text TOLD by the authors' own Lean function (tested against real Go, not proved from fmt's source: count such statements apart). THE CARD IS WHAT COUNTS. Prove the row's statement (the work); the ties are given (YtfkonofjdimjbaaGreatDoorTie.lean); close each card by the builder's one call (the guide's Derived/Test/ToyasCard.lean, 'card_holds'). Laid BY PROGRAM, IN A SANDBOX (cutbox-door.mjs). By AI agents, Wed Nov 11 2026. No macro, syntax, notation, axiom, sorry.
-/
import Derived.Test.YtfkonofjdimjbaaGreatDoorRows
import GoSem.ClaimSeven
namespace Go.Proofs.YtfkonofjdimjbaaGreatDoor
namespace Rows

/-- THE TIED CARD OF 'latchstringlaw20.MachineAlone'. -/
def machineAloneCard : Claim7 := { stood := { row := machineAloneRow, standIns := [], harness := (true, "25896f172d8dce087ca5b10f4f7fa18059a98e557837abadc2257bbebf0ff989"), looks := true }, kinds := [], alts := [], laidByText := true, laidKinds := [.data, .data, .data], laidTests := true, laidLooks := .later }
def MachineAloneCardSaid : Prop := Claim7.holds Tryz.pinned (.plain (OpenSpec.ofChange machineAloneSpec)) machineAloneCard

/-- THE SECOND FORM's CARD OF 'latchstringlaw20.MachineAlone'. -/
def machineAloneUptoCard : Claim7 := { stood := { row := machineAloneUptoRow, standIns := [], harness := (true, "25896f172d8dce087ca5b10f4f7fa18059a98e557837abadc2257bbebf0ff989"), looks := true }, kinds := [], alts := [], laidByText := true, laidKinds := [.data, .data, .data], laidTests := true, laidLooks := .later }
def MachineAloneUptoCardSaid : Prop := Claim7.holds Tryz.pinned (.plain (OpenSpec.upto machineAloneSpec)) machineAloneUptoCard
end Rows
end Go.Proofs.YtfkonofjdimjbaaGreatDoor
