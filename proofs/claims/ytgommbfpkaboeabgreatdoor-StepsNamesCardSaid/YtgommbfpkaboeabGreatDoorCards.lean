/-
  DERIVED. GIVEN WITH THE SEED: THE CARDS: each row of YtgommbfpkaboeabGreatDoorRows.lean that lists a variable, with what it lists TIED to the program's text (the seventh form; the later family's looks); each row that meets fmt, with fmt's text TOLD by the authors' own Lean function (tested against real Go, not proved from fmt's source: count such statements apart). THE CARD IS WHAT COUNTS. Prove the row's statement (the work); the ties are given (YtgommbfpkaboeabGreatDoorTie.lean); close each card by the builder's one call (the guide's Derived/Test/ToyasCard.lean, 'card_holds'). Laid BY PROGRAM, IN A SANDBOX (cutbox-door.mjs). By AI agents, Wed Nov 11 2026. No macro, syntax, notation, axiom, sorry.
-/
import Derived.Test.YtgommbfpkaboeabGreatDoorRows
import GoSem.ClaimSeven
namespace Go.Proofs.YtgommbfpkaboeabGreatDoor
namespace Rows

/-- THE TIED CARD OF 'latchstringlaw16.StepsNames'. -/
def stepsNamesCard : Claim7 := { stood := { row := stepsNamesRow, standIns := [], harness := (true, "85ec1042e81d42d72df87f4f948204587599a8bfd065880754d742577f8b4b71"), looks := true }, kinds := [], alts := [], laidByText := true, laidKinds := [.data, .data, .data], laidTests := true, laidLooks := .later }
def StepsNamesCardSaid : Prop := Claim7.holds Tryz.pinned (.plain (OpenSpec.ofChange stepsNamesSpec)) stepsNamesCard

/-- THE SECOND FORM's CARD OF 'latchstringlaw16.StepsNames'. -/
def stepsNamesUptoCard : Claim7 := { stood := { row := stepsNamesUptoRow, standIns := [], harness := (true, "85ec1042e81d42d72df87f4f948204587599a8bfd065880754d742577f8b4b71"), looks := true }, kinds := [], alts := [], laidByText := true, laidKinds := [.data, .data, .data], laidTests := true, laidLooks := .later }
def StepsNamesUptoCardSaid : Prop := Claim7.holds Tryz.pinned (.plain (OpenSpec.upto stepsNamesSpec)) stepsNamesUptoCard
end Rows
end Go.Proofs.YtgommbfpkaboeabGreatDoor
