/-
  DERIVED. GIVEN WITH THE SEED: THE CARDS: each row of YtoofpgianedgnaaGreatDoorRows.lean that lists a variable, with what it lists TIED to the program's text (the seventh form; the later family's looks); each row that meets fmt, with fmt's text TOLD by the authors' own Lean function (tested against real Go, not proved from fmt's source: count such statements apart). THE CARD IS WHAT COUNTS. Prove the row's statement (the work); the ties are given (YtoofpgianedgnaaGreatDoorTie.lean); close each card by the builder's one call (the guide's Derived/Test/ToyasCard.lean, 'card_holds'). Laid BY PROGRAM, IN A SANDBOX (cutbox-door.mjs). By AI agents, Wed Nov 11 2026. No macro, syntax, notation, axiom, sorry.
-/
import Derived.Test.YtoofpgianedgnaaGreatDoorRows
import GoSem.ClaimSeven
namespace Go.Proofs.YtoofpgianedgnaaGreatDoor
namespace Rows

/-- THE TIED CARD OF 'latchstringlaw25.TxnNames'. -/
def txnNamesCard : Claim7 := { stood := { row := txnNamesRow, standIns := [], harness := (true, "301148270fb6d3a85099d9bd01986a6f818e690195206b69d6d263018912c72f"), looks := true }, kinds := [], alts := [], laidByText := true, laidKinds := [.data, .data, .data], laidTests := true, laidLooks := .later }
def TxnNamesCardSaid : Prop := Claim7.holds Tryz.pinned (.plain (OpenSpec.ofChange txnNamesSpec)) txnNamesCard

/-- THE TIED CARD OF 'latchstringlaw29.DrainNames'. -/
def drainNamesCard : Claim7 := { stood := { row := drainNamesRow, standIns := [], harness := (true, "301148270fb6d3a85099d9bd01986a6f818e690195206b69d6d263018912c72f"), looks := true }, kinds := [], alts := [], laidByText := true, laidKinds := [.data, .data, .data], laidTests := true, laidLooks := .later }
def DrainNamesCardSaid : Prop := Claim7.holds Tryz.pinned (.plain (OpenSpec.ofChange drainNamesSpec)) drainNamesCard

/-- THE SECOND FORM's CARD OF 'latchstringlaw25.TxnNames'. -/
def txnNamesUptoCard : Claim7 := { stood := { row := txnNamesUptoRow, standIns := [], harness := (true, "301148270fb6d3a85099d9bd01986a6f818e690195206b69d6d263018912c72f"), looks := true }, kinds := [], alts := [], laidByText := true, laidKinds := [.data, .data, .data], laidTests := true, laidLooks := .later }
def TxnNamesUptoCardSaid : Prop := Claim7.holds Tryz.pinned (.plain (OpenSpec.upto txnNamesSpec)) txnNamesUptoCard

/-- THE SECOND FORM's CARD OF 'latchstringlaw29.DrainNames'. -/
def drainNamesUptoCard : Claim7 := { stood := { row := drainNamesUptoRow, standIns := [], harness := (true, "301148270fb6d3a85099d9bd01986a6f818e690195206b69d6d263018912c72f"), looks := true }, kinds := [], alts := [], laidByText := true, laidKinds := [.data, .data, .data], laidTests := true, laidLooks := .later }
def DrainNamesUptoCardSaid : Prop := Claim7.holds Tryz.pinned (.plain (OpenSpec.upto drainNamesSpec)) drainNamesUptoCard
end Rows
end Go.Proofs.YtoofpgianedgnaaGreatDoor
