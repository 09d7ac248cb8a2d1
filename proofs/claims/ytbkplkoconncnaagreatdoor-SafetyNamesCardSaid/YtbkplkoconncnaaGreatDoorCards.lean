/-
  DERIVED. GIVEN WITH THE SEED: THE CARDS: each row of YtbkplkoconncnaaGreatDoorRows.lean that lists a variable, with what it lists TIED to the program's text (the seventh form; the later family's looks); each row that meets fmt, with fmt's text TOLD by the authors' own Lean function (tested against real Go, not proved from fmt's source: count such statements apart). THE CARD IS WHAT COUNTS. Prove the row's statement (the work); the ties are given (YtbkplkoconncnaaGreatDoorTie.lean); close each card by the builder's one call (the guide's Derived/Test/ToyasCard.lean, 'card_holds'). Laid BY PROGRAM, IN A SANDBOX (cutbox-door.mjs). By AI agents, Wed Nov 11 2026. No macro, syntax, notation, axiom, sorry.
-/
import Derived.Test.YtbkplkoconncnaaGreatDoorRows
import GoSem.ClaimSeven
namespace Go.Proofs.YtbkplkoconncnaaGreatDoor
namespace Rows

/-- THE TIED CARD OF 'latchstringlaw19.AgentNames'. -/
def agentNamesCard : Claim7 := { stood := { row := agentNamesRow, standIns := [], harness := (true, "e64905058a8582333d523cac9899fe3ffcccc907f1a7298a4568ba5c0f7551fa"), looks := true }, kinds := [], alts := [], laidByText := true, laidKinds := [.data, .data, .data], laidTests := true, laidLooks := .later }
def AgentNamesCardSaid : Prop := Claim7.holds Tryz.pinned (.plain (OpenSpec.ofChange agentNamesSpec)) agentNamesCard

/-- THE TIED CARD OF 'latchstringlaw20.MachineNames'. -/
def machineNamesCard : Claim7 := { stood := { row := machineNamesRow, standIns := [], harness := (true, "e64905058a8582333d523cac9899fe3ffcccc907f1a7298a4568ba5c0f7551fa"), looks := true }, kinds := [], alts := [], laidByText := true, laidKinds := [.data, .data, .data], laidTests := true, laidLooks := .later }
def MachineNamesCardSaid : Prop := Claim7.holds Tryz.pinned (.plain (OpenSpec.ofChange machineNamesSpec)) machineNamesCard

/-- THE TIED CARD OF 'latchstringlaw22.SafetyNames'. -/
def safetyNamesCard : Claim7 := { stood := { row := safetyNamesRow, standIns := [], harness := (true, "e64905058a8582333d523cac9899fe3ffcccc907f1a7298a4568ba5c0f7551fa"), looks := true }, kinds := [], alts := [], laidByText := true, laidKinds := [.data, .data, .data], laidTests := true, laidLooks := .later }
def SafetyNamesCardSaid : Prop := Claim7.holds Tryz.pinned (.plain (OpenSpec.ofChange safetyNamesSpec)) safetyNamesCard

/-- THE SECOND FORM's CARD OF 'latchstringlaw19.AgentNames'. -/
def agentNamesUptoCard : Claim7 := { stood := { row := agentNamesUptoRow, standIns := [], harness := (true, "e64905058a8582333d523cac9899fe3ffcccc907f1a7298a4568ba5c0f7551fa"), looks := true }, kinds := [], alts := [], laidByText := true, laidKinds := [.data, .data, .data], laidTests := true, laidLooks := .later }
def AgentNamesUptoCardSaid : Prop := Claim7.holds Tryz.pinned (.plain (OpenSpec.upto agentNamesSpec)) agentNamesUptoCard

/-- THE SECOND FORM's CARD OF 'latchstringlaw20.MachineNames'. -/
def machineNamesUptoCard : Claim7 := { stood := { row := machineNamesUptoRow, standIns := [], harness := (true, "e64905058a8582333d523cac9899fe3ffcccc907f1a7298a4568ba5c0f7551fa"), looks := true }, kinds := [], alts := [], laidByText := true, laidKinds := [.data, .data, .data], laidTests := true, laidLooks := .later }
def MachineNamesUptoCardSaid : Prop := Claim7.holds Tryz.pinned (.plain (OpenSpec.upto machineNamesSpec)) machineNamesUptoCard

/-- THE SECOND FORM's CARD OF 'latchstringlaw22.SafetyNames'. -/
def safetyNamesUptoCard : Claim7 := { stood := { row := safetyNamesUptoRow, standIns := [], harness := (true, "e64905058a8582333d523cac9899fe3ffcccc907f1a7298a4568ba5c0f7551fa"), looks := true }, kinds := [], alts := [], laidByText := true, laidKinds := [.data, .data, .data], laidTests := true, laidLooks := .later }
def SafetyNamesUptoCardSaid : Prop := Claim7.holds Tryz.pinned (.plain (OpenSpec.upto safetyNamesSpec)) safetyNamesUptoCard
end Rows
end Go.Proofs.YtbkplkoconncnaaGreatDoor
