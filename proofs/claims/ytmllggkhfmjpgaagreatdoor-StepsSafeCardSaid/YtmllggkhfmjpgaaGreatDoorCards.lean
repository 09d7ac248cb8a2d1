/-
  DERIVED. GIVEN WITH THE SEED: THE CARDS: each row of YtmllggkhfmjpgaaGreatDoorRows.lean that lists a variable, with what it lists TIED to the program's text (the seventh form; the later family's looks); each row that meets fmt, with fmt's text TOLD by the authors' own Lean function (tested against real Go, not proved from fmt's source: count such statements apart). THE CARD IS WHAT COUNTS. Prove the row's statement (the work); the ties are given (YtmllggkhfmjpgaaGreatDoorTie.lean); close each card by the builder's one call (the guide's Derived/Test/ToyasCard.lean, 'card_holds'). Laid BY PROGRAM, IN A SANDBOX (cutbox-door.mjs). By AI agents, Wed Nov 11 2026. No macro, syntax, notation, axiom, sorry.
-/
import Derived.Test.YtmllggkhfmjpgaaGreatDoorRows
import GoSem.ClaimSeven
namespace Go.Proofs.YtmllggkhfmjpgaaGreatDoor
namespace Rows

/-- THE TIED CARD OF 'latchstringlaw16.StepsSafe'. -/
def stepsSafeCard : Claim7 := { stood := { row := stepsSafeRow, standIns := [], harness := (true, "4cc3ce3ba212f8a80bf8facbdddf81a30756ec96221e3f9f8a22fd5a1ed52102"), looks := true }, kinds := [], alts := [], laidByText := true, laidKinds := [.data, .data, .data], laidTests := true, laidLooks := .later }
def StepsSafeCardSaid : Prop := Claim7.holds Tryz.pinned (.plain (OpenSpec.ofChange stepsSafeSpec)) stepsSafeCard

/-- THE TIED CARD OF 'latchstringlaw19.AgentReleases'. -/
def agentReleasesCard : Claim7 := { stood := { row := agentReleasesRow, standIns := [], harness := (true, "4cc3ce3ba212f8a80bf8facbdddf81a30756ec96221e3f9f8a22fd5a1ed52102"), looks := true }, kinds := [], alts := [], laidByText := true, laidKinds := [.data, .data, .data], laidTests := true, laidLooks := .later }
def AgentReleasesCardSaid : Prop := Claim7.holds Tryz.pinned (.plain (OpenSpec.ofChange agentReleasesSpec)) agentReleasesCard

/-- THE TIED CARD OF 'latchstringlaw19.AgentAlone'. -/
def agentAloneCard : Claim7 := { stood := { row := agentAloneRow, standIns := [], harness := (true, "4cc3ce3ba212f8a80bf8facbdddf81a30756ec96221e3f9f8a22fd5a1ed52102"), looks := true }, kinds := [], alts := [], laidByText := true, laidKinds := [.data, .data, .data], laidTests := true, laidLooks := .later }
def AgentAloneCardSaid : Prop := Claim7.holds Tryz.pinned (.plain (OpenSpec.ofChange agentAloneSpec)) agentAloneCard

/-- THE TIED CARD OF 'latchstringlaw25.TxnTwoPhase'. -/
def txnTwoPhaseCard : Claim7 := { stood := { row := txnTwoPhaseRow, standIns := [], harness := (true, "4cc3ce3ba212f8a80bf8facbdddf81a30756ec96221e3f9f8a22fd5a1ed52102"), looks := true }, kinds := [], alts := [], laidByText := true, laidKinds := [.data, .data, .data], laidTests := true, laidLooks := .later }
def TxnTwoPhaseCardSaid : Prop := Claim7.holds Tryz.pinned (.plain (OpenSpec.ofChange txnTwoPhaseSpec)) txnTwoPhaseCard

/-- THE TIED CARD OF 'latchstringlaw25.TxnAborts'. -/
def txnAbortsCard : Claim7 := { stood := { row := txnAbortsRow, standIns := [], harness := (true, "4cc3ce3ba212f8a80bf8facbdddf81a30756ec96221e3f9f8a22fd5a1ed52102"), looks := true }, kinds := [], alts := [], laidByText := true, laidKinds := [.data, .data, .data], laidTests := true, laidLooks := .later }
def TxnAbortsCardSaid : Prop := Claim7.holds Tryz.pinned (.plain (OpenSpec.ofChange txnAbortsSpec)) txnAbortsCard

/-- THE SECOND FORM's CARD OF 'latchstringlaw16.StepsSafe'. -/
def stepsSafeUptoCard : Claim7 := { stood := { row := stepsSafeUptoRow, standIns := [], harness := (true, "4cc3ce3ba212f8a80bf8facbdddf81a30756ec96221e3f9f8a22fd5a1ed52102"), looks := true }, kinds := [], alts := [], laidByText := true, laidKinds := [.data, .data, .data], laidTests := true, laidLooks := .later }
def StepsSafeUptoCardSaid : Prop := Claim7.holds Tryz.pinned (.plain (OpenSpec.upto stepsSafeSpec)) stepsSafeUptoCard

/-- THE SECOND FORM's CARD OF 'latchstringlaw19.AgentReleases'. -/
def agentReleasesUptoCard : Claim7 := { stood := { row := agentReleasesUptoRow, standIns := [], harness := (true, "4cc3ce3ba212f8a80bf8facbdddf81a30756ec96221e3f9f8a22fd5a1ed52102"), looks := true }, kinds := [], alts := [], laidByText := true, laidKinds := [.data, .data, .data], laidTests := true, laidLooks := .later }
def AgentReleasesUptoCardSaid : Prop := Claim7.holds Tryz.pinned (.plain (OpenSpec.upto agentReleasesSpec)) agentReleasesUptoCard

/-- THE SECOND FORM's CARD OF 'latchstringlaw19.AgentAlone'. -/
def agentAloneUptoCard : Claim7 := { stood := { row := agentAloneUptoRow, standIns := [], harness := (true, "4cc3ce3ba212f8a80bf8facbdddf81a30756ec96221e3f9f8a22fd5a1ed52102"), looks := true }, kinds := [], alts := [], laidByText := true, laidKinds := [.data, .data, .data], laidTests := true, laidLooks := .later }
def AgentAloneUptoCardSaid : Prop := Claim7.holds Tryz.pinned (.plain (OpenSpec.upto agentAloneSpec)) agentAloneUptoCard

/-- THE SECOND FORM's CARD OF 'latchstringlaw25.TxnTwoPhase'. -/
def txnTwoPhaseUptoCard : Claim7 := { stood := { row := txnTwoPhaseUptoRow, standIns := [], harness := (true, "4cc3ce3ba212f8a80bf8facbdddf81a30756ec96221e3f9f8a22fd5a1ed52102"), looks := true }, kinds := [], alts := [], laidByText := true, laidKinds := [.data, .data, .data], laidTests := true, laidLooks := .later }
def TxnTwoPhaseUptoCardSaid : Prop := Claim7.holds Tryz.pinned (.plain (OpenSpec.upto txnTwoPhaseSpec)) txnTwoPhaseUptoCard

/-- THE SECOND FORM's CARD OF 'latchstringlaw25.TxnAborts'. -/
def txnAbortsUptoCard : Claim7 := { stood := { row := txnAbortsUptoRow, standIns := [], harness := (true, "4cc3ce3ba212f8a80bf8facbdddf81a30756ec96221e3f9f8a22fd5a1ed52102"), looks := true }, kinds := [], alts := [], laidByText := true, laidKinds := [.data, .data, .data], laidTests := true, laidLooks := .later }
def TxnAbortsUptoCardSaid : Prop := Claim7.holds Tryz.pinned (.plain (OpenSpec.upto txnAbortsSpec)) txnAbortsUptoCard
end Rows
end Go.Proofs.YtmllggkhfmjpgaaGreatDoor
