/-
  DERIVED. GIVEN WITH THE SEED: THE CARDS: each row of YtmjghbjpdoeemaaGreatDoorRows.lean that lists a variable, with what it lists TIED to the program's text (the seventh form; the later family's looks); each row that meets fmt, with fmt's text TOLD by the authors' own Lean function (tested against real Go, not proved from fmt's source: count such statements apart). THE CARD IS WHAT COUNTS. Prove the row's statement (the work); the ties are given (YtmjghbjpdoeemaaGreatDoorTie.lean); close each card by the builder's one call (the guide's Derived/Test/ToyasCard.lean, 'card_holds'). Laid BY PROGRAM, IN A SANDBOX (cutbox-door.mjs). By AI agents, Wed Nov 11 2026. No macro, syntax, notation, axiom, sorry.
-/
import Derived.Test.YtmjghbjpdoeemaaGreatDoorRows
import GoSem.ClaimSeven
namespace Go.Proofs.YtmjghbjpdoeemaaGreatDoor
namespace Rows

/-- THE TIED CARD OF 'latchstringlaw16.StepsApart'. -/
def stepsApartCard : Claim7 := { stood := { row := stepsApartRow, standIns := [], harness := (true, "21b8913c017b20d4b24ae3d35fad828ec88324e750bca00679d77939d0bef495"), looks := true }, kinds := [], alts := [], laidByText := true, laidKinds := [.data, .data, .data], laidTests := true, laidLooks := .later }
def StepsApartCardSaid : Prop := Claim7.holds Tryz.pinned (.plain (OpenSpec.ofChange stepsApartSpec)) stepsApartCard

/-- THE TIED CARD OF 'latchstringlaw16.StepsAlone'. -/
def stepsAloneCard : Claim7 := { stood := { row := stepsAloneRow, standIns := [], harness := (true, "21b8913c017b20d4b24ae3d35fad828ec88324e750bca00679d77939d0bef495"), looks := true }, kinds := [], alts := [], laidByText := true, laidKinds := [.data, .data, .data], laidTests := true, laidLooks := .later }
def StepsAloneCardSaid : Prop := Claim7.holds Tryz.pinned (.plain (OpenSpec.ofChange stepsAloneSpec)) stepsAloneCard

/-- THE TIED CARD OF 'latchstringlaw16.StepsTimes'. -/
def stepsTimesCard : Claim7 := { stood := { row := stepsTimesRow, standIns := [], harness := (true, "21b8913c017b20d4b24ae3d35fad828ec88324e750bca00679d77939d0bef495"), looks := true }, kinds := [], alts := [], laidByText := true, laidKinds := [.data, .data, .data], laidTests := true, laidLooks := .later }
def StepsTimesCardSaid : Prop := Claim7.holds Tryz.pinned (.plain (OpenSpec.ofChange stepsTimesSpec)) stepsTimesCard

/-- THE TIED CARD OF 'latchstringlaw16.StepsSafe'. -/
def stepsSafeCard : Claim7 := { stood := { row := stepsSafeRow, standIns := [], harness := (true, "21b8913c017b20d4b24ae3d35fad828ec88324e750bca00679d77939d0bef495"), looks := true }, kinds := [], alts := [], laidByText := true, laidKinds := [.data, .data, .data], laidTests := true, laidLooks := .later }
def StepsSafeCardSaid : Prop := Claim7.holds Tryz.pinned (.plain (OpenSpec.ofChange stepsSafeSpec)) stepsSafeCard

/-- THE SECOND FORM's CARD OF 'latchstringlaw16.StepsApart'. -/
def stepsApartUptoCard : Claim7 := { stood := { row := stepsApartUptoRow, standIns := [], harness := (true, "21b8913c017b20d4b24ae3d35fad828ec88324e750bca00679d77939d0bef495"), looks := true }, kinds := [], alts := [], laidByText := true, laidKinds := [.data, .data, .data], laidTests := true, laidLooks := .later }
def StepsApartUptoCardSaid : Prop := Claim7.holds Tryz.pinned (.plain (OpenSpec.upto stepsApartSpec)) stepsApartUptoCard

/-- THE SECOND FORM's CARD OF 'latchstringlaw16.StepsAlone'. -/
def stepsAloneUptoCard : Claim7 := { stood := { row := stepsAloneUptoRow, standIns := [], harness := (true, "21b8913c017b20d4b24ae3d35fad828ec88324e750bca00679d77939d0bef495"), looks := true }, kinds := [], alts := [], laidByText := true, laidKinds := [.data, .data, .data], laidTests := true, laidLooks := .later }
def StepsAloneUptoCardSaid : Prop := Claim7.holds Tryz.pinned (.plain (OpenSpec.upto stepsAloneSpec)) stepsAloneUptoCard

/-- THE SECOND FORM's CARD OF 'latchstringlaw16.StepsTimes'. -/
def stepsTimesUptoCard : Claim7 := { stood := { row := stepsTimesUptoRow, standIns := [], harness := (true, "21b8913c017b20d4b24ae3d35fad828ec88324e750bca00679d77939d0bef495"), looks := true }, kinds := [], alts := [], laidByText := true, laidKinds := [.data, .data, .data], laidTests := true, laidLooks := .later }
def StepsTimesUptoCardSaid : Prop := Claim7.holds Tryz.pinned (.plain (OpenSpec.upto stepsTimesSpec)) stepsTimesUptoCard

/-- THE SECOND FORM's CARD OF 'latchstringlaw16.StepsSafe'. -/
def stepsSafeUptoCard : Claim7 := { stood := { row := stepsSafeUptoRow, standIns := [], harness := (true, "21b8913c017b20d4b24ae3d35fad828ec88324e750bca00679d77939d0bef495"), looks := true }, kinds := [], alts := [], laidByText := true, laidKinds := [.data, .data, .data], laidTests := true, laidLooks := .later }
def StepsSafeUptoCardSaid : Prop := Claim7.holds Tryz.pinned (.plain (OpenSpec.upto stepsSafeSpec)) stepsSafeUptoCard
end Rows
end Go.Proofs.YtmjghbjpdoeemaaGreatDoor
