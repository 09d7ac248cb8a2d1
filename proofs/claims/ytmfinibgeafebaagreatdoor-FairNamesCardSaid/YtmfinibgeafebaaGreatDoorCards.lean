/-
  DERIVED. GIVEN WITH THE SEED: THE CARDS: each row of YtmfinibgeafebaaGreatDoorRows.lean that lists a variable, with what it lists TIED to the program's text (the seventh form; the later family's looks); each row that meets fmt, with fmt's text TOLD by the authors' own Lean function (tested against real Go, not proved from fmt's source: count such statements apart). THE CARD IS WHAT COUNTS. Prove the row's statement (the work); the ties are given (YtmfinibgeafebaaGreatDoorTie.lean); close each card by the builder's one call (the guide's Derived/Test/ToyasCard.lean, 'card_holds'). Laid BY PROGRAM, IN A SANDBOX (cutbox-door.mjs). By AI agents, Wed Nov 11 2026. No macro, syntax, notation, axiom, sorry.
-/
import Derived.Test.YtmfinibgeafebaaGreatDoorRows
import GoSem.ClaimSeven
namespace Go.Proofs.YtmfinibgeafebaaGreatDoor
namespace Rows

/-- THE TIED CARD OF 'latchstringlaw28.FairNames'. -/
def fairNamesCard : Claim7 := { stood := { row := fairNamesRow, standIns := [], harness := (true, "b9c82404a3717a85e20db9762150afc37a767e0ae96fc7c4a2f220215ceda2ca"), looks := true }, kinds := [], alts := [], laidByText := true, laidKinds := [.data, .data, .data], laidTests := true, laidLooks := .later }
def FairNamesCardSaid : Prop := Claim7.holds Tryz.pinned (.plain (OpenSpec.ofChange fairNamesSpec)) fairNamesCard

/-- THE SECOND FORM's CARD OF 'latchstringlaw28.FairNames'. -/
def fairNamesUptoCard : Claim7 := { stood := { row := fairNamesUptoRow, standIns := [], harness := (true, "b9c82404a3717a85e20db9762150afc37a767e0ae96fc7c4a2f220215ceda2ca"), looks := true }, kinds := [], alts := [], laidByText := true, laidKinds := [.data, .data, .data], laidTests := true, laidLooks := .later }
def FairNamesUptoCardSaid : Prop := Claim7.holds Tryz.pinned (.plain (OpenSpec.upto fairNamesSpec)) fairNamesUptoCard
end Rows
end Go.Proofs.YtmfinibgeafebaaGreatDoor
