/-
  No cell of these rows narrows 'for every input' (looked for: loops, veiled, ifaces, maps, wideKeys, modest, calm, conditions, laid).
  DERIVED. THE GIVEN ROWS OF THIS SEAT. 1 by the template 'for every input the law returns true; each argument reads behind the call as it read before'; 0 by the template 'total and deterministic' (their statements: YtfkkhpolmgncnacTotals.lean).
  GIVEN WITH THE SEED: the statements are not yours to turn. If you find one false, say at which input.
  Laid BY PROGRAM, IN A SANDBOX (cutbox-rows.mjs): the forced cells as the released guide's own fill.sh prints them over the translation 1eac847ec8c0353c… (all of the seat's roots in one cut). By AI agents, Wed Nov 11 2026. No macro, syntax, notation, axiom, sorry.
-/
import Derived.Test.YtfkkhpolmgncnacChecked
import GoSem.Claim
import GoSem.ClaimJoined
import GoSem.ClaimMapViews
import Derived.JoinedTies
import Derived.KernelRfl
namespace Go.Proofs.Ytfkkhpolmgncnac
/- THE CELL 'sum', in the pinned program and in every row, IS THE sha256 OF THE DUMP (.gsa) THAT YtfkkhpolmgncnacProg.lean LOADS. Nothing in Lean hashes anything: it is a label: what it is worth is what the hold of that sum in a sandbox is worth. -/
noncomputable def Try.pinned : Pinned := { name := "ytfkkhpolmgncnac", sum := "1eac847ec8c0353cb3283f6a98560bcf6f053a16506adc283e10a4538476169e", checked := Try.checked }
namespace Rows
def none {H : Type} : Left H := { results := [], args := [] }

/-- 'latchstringlaw21.LinearNames': WHATEVER THE INPUT: true; the input reads as it did. -/
def linearNamesSpec : ChangeSpec := { name := "linearNames", fn := fun _ => fun
  | [] => { results := [.lit (.bool true)], args := [] }
  | _ => none }
def linearNamesRow : OpenClaim := { program := "ytfkkhpolmgncnac", sum := "1eac847ec8c0353cb3283f6a98560bcf6f053a16506adc283e10a4538476169e", func := "latchstring/latchstringlaw21.LinearNames", spec := "linearNames", inPlace := ["slices.overlaps[int]", "slices.overlaps[latchstring/api.Held]"], unfollowed := true, recurses := true, apart := false }
def LinearNamesSaid : Prop := linearNamesRow.holds Try.pinned (OpenSpec.ofChange linearNamesSpec)

/-- ITS FALSE NEIGHBOUR: 'it returns false'. Refute it at one input. -/
def linearNamesWrong : ChangeSpec := { name := "linearNames", fn := fun _ => fun
  | [] => { results := [.lit (.bool false)], args := [] }
  | _ => none }
def LinearNamesWrongFalsely : Prop := linearNamesRow.holds Try.pinned (OpenSpec.ofChange linearNamesWrong)

/- THE SECOND FORM. 'bulk': how many values and letters a reading holds, each counted each time it is reached (what is shared counts as often as it is met; a slice's spare places count too). A statement '..UptoSaid' is the law's where the arguments, and the package variables that the reading takes, are together of bulk at most 1048576: NARROWER than '..Said'. Prove '..Said' where nothing that the law and all that it calls make is longer than what came in: it says more and counts as full. Else prove '..UptoSaid'. A law counts once. -/
mutual
def uptoBulk {H : Type} : DataW H → Nat
  | .lit (.string bytes) => bytes.length + 1
  | .lit _ => 1
  | .nil => 1
  | .ptr d => uptoBulk d + 1
  | .slice elems spare => uptoBulkAll elems + uptoBulkAll spare + 1
  | .agg parts => uptoBulkAll parts + 1
  | .iface _ d => uptoBulk d + 1
  | .map entries => uptoBulkEntries entries + 1
  | .held _ => 1
def uptoBulkAll {H : Type} : List (DataW H) → Nat
  | [] => 0
  | d :: r => uptoBulk d + uptoBulkAll r
def uptoBulkEntries {H : Type} : List (Lit × DataW H) → Nat
  | [] => 0
  | x :: r => uptoBulkEntry x + uptoBulkEntries r
def uptoBulkEntry {H : Type} : Lit × DataW H → Nat
  | (.string bytes, d) => bytes.length + uptoBulk d + 1
  | (_, d) => uptoBulk d + 1
 end
def uptoSmall : (H : Type) → List (DataW H) → Bool := fun _ ds => decide (uptoBulkAll ds ≤ 1048576)
def OpenSpec.upto (s : _root_.Go.ChangeSpec) : _root_.Go.OpenSpec := { _root_.Go.OpenSpec.ofChange s with cond := some uptoSmall }

/-- 'latchstringlaw21.LinearNames', WHERE WHAT IT READS IS OF BULK AT MOST 1048576: true; the input reads as it did. -/
def linearNamesUptoRow : OpenClaim := { program := "ytfkkhpolmgncnac", sum := "1eac847ec8c0353cb3283f6a98560bcf6f053a16506adc283e10a4538476169e", func := "latchstring/latchstringlaw21.LinearNames", spec := "linearNames", inPlace := ["slices.overlaps[int]", "slices.overlaps[latchstring/api.Held]"], unfollowed := true, recurses := true, apart := false, narrowed := true }
def LinearNamesUptoSaid : Prop := linearNamesUptoRow.holds Try.pinned (OpenSpec.upto linearNamesSpec)

end Rows
end Go.Proofs.Ytfkkhpolmgncnac
