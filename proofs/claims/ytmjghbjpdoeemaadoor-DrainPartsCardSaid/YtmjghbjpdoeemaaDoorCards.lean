/-
  DERIVED. GIVEN WITH THE SEED: THE CARDS: each row of YtmjghbjpdoeemaaDoorRows.lean that lists a variable, with what it lists TIED to the program's text (the seventh form; the later family's looks); each row that meets fmt, with fmt's text TOLD by the authors' own Lean function (tested against real Go, not proved from fmt's source: count such statements apart). THE CARD IS WHAT COUNTS. Prove the row's statement (the work); the ties are given (YtmjghbjpdoeemaaDoorTie.lean); close each card by the builder's one call (the guide's Derived/Test/ToyasCard.lean, 'card_holds'). Laid BY PROGRAM, IN A SANDBOX (cutbox-door.mjs). By AI agents, Wed Nov 11 2026. No macro, syntax, notation, axiom, sorry.
-/
import Derived.Test.YtmjghbjpdoeemaaDoorRows
import GoSem.ClaimSeven
namespace Go.Proofs.YtmjghbjpdoeemaaDoor
namespace Rows

/-- THE TIED CARD OF 'latchstringlaw29.DrainParts'. -/
def drainPartsCard : Claim7 := { stood := { row := drainPartsRow, standIns := [], harness := (true, "9efc2fcda24718f0679dc6654988f68786bb3c06db220f2f95fd19a1a75d8268"), looks := false }, kinds := [], alts := [], laidByText := true, laidKinds := [.data, .data, .data], laidTests := true, laidLooks := .later }
def DrainPartsCardSaid : Prop := Claim7.holds Tryd.pinned (.plain (OpenSpec.ofChange drainPartsSpec)) drainPartsCard

/-- THE SECOND FORM's CARD OF 'latchstringlaw29.DrainParts'. -/
def drainPartsUptoCard : Claim7 := { stood := { row := drainPartsUptoRow, standIns := [], harness := (true, "9efc2fcda24718f0679dc6654988f68786bb3c06db220f2f95fd19a1a75d8268"), looks := false }, kinds := [], alts := [], laidByText := true, laidKinds := [.data, .data, .data], laidTests := true, laidLooks := .later }
def DrainPartsUptoCardSaid : Prop := Claim7.holds Tryd.pinned (.plain (OpenSpec.upto drainPartsSpec)) drainPartsUptoCard
end Rows
end Go.Proofs.YtmjghbjpdoeemaaDoor
