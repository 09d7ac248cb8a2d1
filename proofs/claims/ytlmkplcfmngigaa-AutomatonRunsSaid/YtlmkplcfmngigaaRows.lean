/-
  No cell of these rows narrows 'for every input' (looked for: loops, veiled, ifaces, maps, wideKeys, modest, calm, conditions, laid).
  DERIVED. THE GIVEN ROWS OF THIS SEAT. 11 by the template 'for every input the law returns true; each argument reads behind the call as it read before'; 0 by the template 'total and deterministic' (their statements: YtlmkplcfmngigaaTotals.lean).
  GIVEN WITH THE SEED: the statements are not yours to turn. If you find one false, say at which input.
  Laid BY PROGRAM, IN A SANDBOX (cutbox-rows.mjs): the forced cells as the released guide's own fill.sh prints them over the translation 940481b16b032dd5… (all of the seat's roots in one cut). By AI agents, Wed Nov 11 2026. No macro, syntax, notation, axiom, sorry.
-/
import Derived.Test.YtlmkplcfmngigaaChecked
import GoSem.Claim
import GoSem.ClaimJoined
import GoSem.ClaimMapViews
import Derived.JoinedTies
import Derived.KernelRfl
namespace Go.Proofs.Ytlmkplcfmngigaa
/- THE CELL 'sum', in the pinned program and in every row, IS THE sha256 OF THE DUMP (.gsa) THAT YtlmkplcfmngigaaProg.lean LOADS. Nothing in Lean hashes anything: it is a label: what it is worth is what the hold of that sum in a sandbox is worth. -/
noncomputable def Try.pinned : Pinned := { name := "ytlmkplcfmngigaa", sum := "940481b16b032dd5721099637fd905faafc79bebb084fa84e6f1c7f7bf04a287", checked := Try.checked }
namespace Rows
def none {H : Type} : Left H := { results := [], args := [] }

/-- 'latchstringlaw22.SafetyClashes': WHATEVER THE INPUT: true; the input reads as it did. -/
def safetyClashesSpec : ChangeSpec := { name := "safetyClashes", fn := fun _ => fun
  | [d] => { results := [.lit (.bool true)], args := [d] }
  | _ => none }
def safetyClashesRow : OpenClaim := { program := "ytlmkplcfmngigaa", sum := "940481b16b032dd5721099637fd905faafc79bebb084fa84e6f1c7f7bf04a287", func := "latchstring/latchstringlaw22.SafetyClashes", spec := "safetyClashes", plainKeys := false, apart := false }
def SafetyClashesSaid : Prop := safetyClashesRow.holds Try.pinned (OpenSpec.ofChange safetyClashesSpec)

/-- ITS FALSE NEIGHBOUR: 'it returns false'. Refute it at one input. -/
def safetyClashesWrong : ChangeSpec := { name := "safetyClashes", fn := fun _ => fun
  | [d] => { results := [.lit (.bool false)], args := [d] }
  | _ => none }
def SafetyClashesWrongFalsely : Prop := safetyClashesRow.holds Try.pinned (OpenSpec.ofChange safetyClashesWrong)

/-- 'latchstringlaw18.PassRoom': WHATEVER THE INPUT: true; the input reads as it did. -/
def passRoomSpec : ChangeSpec := { name := "passRoom", fn := fun _ => fun
  | [d1, d2] => { results := [.lit (.bool true)], args := [d1, d2] }
  | _ => none }
def passRoomRow : OpenClaim := { program := "ytlmkplcfmngigaa", sum := "940481b16b032dd5721099637fd905faafc79bebb084fa84e6f1c7f7bf04a287", func := "latchstring/latchstringlaw18.PassRoom", spec := "passRoom", inPlace := ["slices.overlaps[latchstring/api.Held]"], unfollowed := true, recurses := true, plainKeys := false, apart := false }
def PassRoomSaid : Prop := passRoomRow.holds Try.pinned (OpenSpec.ofChange passRoomSpec)

/-- ITS FALSE NEIGHBOUR: 'it returns false'. Refute it at one input. -/
def passRoomWrong : ChangeSpec := { name := "passRoom", fn := fun _ => fun
  | [d1, d2] => { results := [.lit (.bool false)], args := [d1, d2] }
  | _ => none }
def PassRoomWrongFalsely : Prop := passRoomRow.holds Try.pinned (OpenSpec.ofChange passRoomWrong)

/-- 'latchstringlaw18.PassKeeps': WHATEVER THE INPUT: true; the input reads as it did. -/
def passKeepsSpec : ChangeSpec := { name := "passKeeps", fn := fun _ => fun
  | [d1, d2, d3] => { results := [.lit (.bool true)], args := [d1, d2, d3] }
  | _ => none }
def passKeepsRow : OpenClaim := { program := "ytlmkplcfmngigaa", sum := "940481b16b032dd5721099637fd905faafc79bebb084fa84e6f1c7f7bf04a287", func := "latchstring/latchstringlaw18.PassKeeps", spec := "passKeeps", inPlace := ["slices.overlaps[latchstring/api.Held]"], unfollowed := true, recurses := true, plainKeys := false, apart := false }
def PassKeepsSaid : Prop := passKeepsRow.holds Try.pinned (OpenSpec.ofChange passKeepsSpec)

/-- ITS FALSE NEIGHBOUR: 'it returns false'. Refute it at one input. -/
def passKeepsWrong : ChangeSpec := { name := "passKeeps", fn := fun _ => fun
  | [d1, d2, d3] => { results := [.lit (.bool false)], args := [d1, d2, d3] }
  | _ => none }
def PassKeepsWrongFalsely : Prop := passKeepsRow.holds Try.pinned (OpenSpec.ofChange passKeepsWrong)

/-- 'latchstringlaw18.PassScript': WHATEVER THE INPUT: true; the input reads as it did. -/
def passScriptSpec : ChangeSpec := { name := "passScript", fn := fun _ => fun
  | [d1, d2, d3] => { results := [.lit (.bool true)], args := [d1, d2, d3] }
  | _ => none }
def passScriptRow : OpenClaim := { program := "ytlmkplcfmngigaa", sum := "940481b16b032dd5721099637fd905faafc79bebb084fa84e6f1c7f7bf04a287", func := "latchstring/latchstringlaw18.PassScript", spec := "passScript", inPlace := ["slices.overlaps[latchstring/api.Held]"], unfollowed := true, recurses := true, plainKeys := false, apart := false }
def PassScriptSaid : Prop := passScriptRow.holds Try.pinned (OpenSpec.ofChange passScriptSpec)

/-- ITS FALSE NEIGHBOUR: 'it returns false'. Refute it at one input. -/
def passScriptWrong : ChangeSpec := { name := "passScript", fn := fun _ => fun
  | [d1, d2, d3] => { results := [.lit (.bool false)], args := [d1, d2, d3] }
  | _ => none }
def PassScriptWrongFalsely : Prop := passScriptRow.holds Try.pinned (OpenSpec.ofChange passScriptWrong)

/-- 'latchstringlaw17.CachePlans': WHATEVER THE INPUT: true; the input reads as it did. -/
def cachePlansSpec : ChangeSpec := { name := "cachePlans", fn := fun _ => fun
  | [d] => { results := [.lit (.bool true)], args := [d] }
  | _ => none }
def cachePlansRow : OpenClaim := { program := "ytlmkplcfmngigaa", sum := "940481b16b032dd5721099637fd905faafc79bebb084fa84e6f1c7f7bf04a287", func := "latchstring/latchstringlaw17.CachePlans", spec := "cachePlans", inPlace := ["slices.overlaps[latchstring/api.Held]"], unfollowed := true, recurses := true, plainKeys := false, apart := false }
def CachePlansSaid : Prop := cachePlansRow.holds Try.pinned (OpenSpec.ofChange cachePlansSpec)

/-- ITS FALSE NEIGHBOUR: 'it returns false'. Refute it at one input. -/
def cachePlansWrong : ChangeSpec := { name := "cachePlans", fn := fun _ => fun
  | [d] => { results := [.lit (.bool false)], args := [d] }
  | _ => none }
def CachePlansWrongFalsely : Prop := cachePlansRow.holds Try.pinned (OpenSpec.ofChange cachePlansWrong)

/-- 'latchstringlaw17.CacheMore': WHATEVER THE INPUT: true; the input reads as it did. -/
def cacheMoreSpec : ChangeSpec := { name := "cacheMore", fn := fun _ => fun
  | [d1, d2, d3] => { results := [.lit (.bool true)], args := [d1, d2, d3] }
  | _ => none }
def cacheMoreRow : OpenClaim := { program := "ytlmkplcfmngigaa", sum := "940481b16b032dd5721099637fd905faafc79bebb084fa84e6f1c7f7bf04a287", func := "latchstring/latchstringlaw17.CacheMore", spec := "cacheMore", inPlace := ["slices.overlaps[latchstring/api.Held]"], unfollowed := true, recurses := true, plainKeys := false, apart := false }
def CacheMoreSaid : Prop := cacheMoreRow.holds Try.pinned (OpenSpec.ofChange cacheMoreSpec)

/-- ITS FALSE NEIGHBOUR: 'it returns false'. Refute it at one input. -/
def cacheMoreWrong : ChangeSpec := { name := "cacheMore", fn := fun _ => fun
  | [d1, d2, d3] => { results := [.lit (.bool false)], args := [d1, d2, d3] }
  | _ => none }
def CacheMoreWrongFalsely : Prop := cacheMoreRow.holds Try.pinned (OpenSpec.ofChange cacheMoreWrong)

/-- 'latchstringlaw17.CacheOrders': WHATEVER THE INPUT: true; the input reads as it did. -/
def cacheOrdersSpec : ChangeSpec := { name := "cacheOrders", fn := fun _ => fun
  | [d] => { results := [.lit (.bool true)], args := [d] }
  | _ => none }
def cacheOrdersRow : OpenClaim := { program := "ytlmkplcfmngigaa", sum := "940481b16b032dd5721099637fd905faafc79bebb084fa84e6f1c7f7bf04a287", func := "latchstring/latchstringlaw17.CacheOrders", spec := "cacheOrders", unfollowed := true, recurses := true, plainKeys := false, apart := false }
def CacheOrdersSaid : Prop := cacheOrdersRow.holds Try.pinned (OpenSpec.ofChange cacheOrdersSpec)

/-- ITS FALSE NEIGHBOUR: 'it returns false'. Refute it at one input. -/
def cacheOrdersWrong : ChangeSpec := { name := "cacheOrders", fn := fun _ => fun
  | [d] => { results := [.lit (.bool false)], args := [d] }
  | _ => none }
def CacheOrdersWrongFalsely : Prop := cacheOrdersRow.holds Try.pinned (OpenSpec.ofChange cacheOrdersWrong)

/-- 'latchstringlaw15.AutomatonMay': WHATEVER THE INPUT: true; the input reads as it did. -/
def automatonMaySpec : ChangeSpec := { name := "automatonMay", fn := fun _ => fun
  | [d1, d2] => { results := [.lit (.bool true)], args := [d1, d2] }
  | _ => none }
def automatonMayRow : OpenClaim := { program := "ytlmkplcfmngigaa", sum := "940481b16b032dd5721099637fd905faafc79bebb084fa84e6f1c7f7bf04a287", func := "latchstring/latchstringlaw15.AutomatonMay", spec := "automatonMay", inPlace := ["slices.overlaps[int]", "slices.overlaps[latchstring/api.Held]"], unfollowed := true, recurses := true, plainKeys := false, apart := false }
def AutomatonMaySaid : Prop := automatonMayRow.holds Try.pinned (OpenSpec.ofChange automatonMaySpec)

/-- ITS FALSE NEIGHBOUR: 'it returns false'. Refute it at one input. -/
def automatonMayWrong : ChangeSpec := { name := "automatonMay", fn := fun _ => fun
  | [d1, d2] => { results := [.lit (.bool false)], args := [d1, d2] }
  | _ => none }
def AutomatonMayWrongFalsely : Prop := automatonMayRow.holds Try.pinned (OpenSpec.ofChange automatonMayWrong)

/-- 'latchstringlaw15.AutomatonSafe': WHATEVER THE INPUT: true; the input reads as it did. -/
def automatonSafeSpec : ChangeSpec := { name := "automatonSafe", fn := fun _ => fun
  | [d] => { results := [.lit (.bool true)], args := [d] }
  | _ => none }
def automatonSafeRow : OpenClaim := { program := "ytlmkplcfmngigaa", sum := "940481b16b032dd5721099637fd905faafc79bebb084fa84e6f1c7f7bf04a287", func := "latchstring/latchstringlaw15.AutomatonSafe", spec := "automatonSafe", inPlace := ["slices.overlaps[int]", "slices.overlaps[latchstring/api.Held]"], unfollowed := true, recurses := true, plainKeys := false, apart := false }
def AutomatonSafeSaid : Prop := automatonSafeRow.holds Try.pinned (OpenSpec.ofChange automatonSafeSpec)

/-- ITS FALSE NEIGHBOUR: 'it returns false'. Refute it at one input. -/
def automatonSafeWrong : ChangeSpec := { name := "automatonSafe", fn := fun _ => fun
  | [d] => { results := [.lit (.bool false)], args := [d] }
  | _ => none }
def AutomatonSafeWrongFalsely : Prop := automatonSafeRow.holds Try.pinned (OpenSpec.ofChange automatonSafeWrong)

/-- 'latchstringlaw15.AutomatonTurns': WHATEVER THE INPUT: true; the input reads as it did. -/
def automatonTurnsSpec : ChangeSpec := { name := "automatonTurns", fn := fun _ => fun
  | [d1, d2, d3] => { results := [.lit (.bool true)], args := [d1, d2, d3] }
  | _ => none }
def automatonTurnsRow : OpenClaim := { program := "ytlmkplcfmngigaa", sum := "940481b16b032dd5721099637fd905faafc79bebb084fa84e6f1c7f7bf04a287", func := "latchstring/latchstringlaw15.AutomatonTurns", spec := "automatonTurns", inPlace := ["slices.overlaps[int]", "slices.overlaps[latchstring/api.Held]"], unfollowed := true, recurses := true, plainKeys := false, apart := false }
def AutomatonTurnsSaid : Prop := automatonTurnsRow.holds Try.pinned (OpenSpec.ofChange automatonTurnsSpec)

/-- ITS FALSE NEIGHBOUR: 'it returns false'. Refute it at one input. -/
def automatonTurnsWrong : ChangeSpec := { name := "automatonTurns", fn := fun _ => fun
  | [d1, d2, d3] => { results := [.lit (.bool false)], args := [d1, d2, d3] }
  | _ => none }
def AutomatonTurnsWrongFalsely : Prop := automatonTurnsRow.holds Try.pinned (OpenSpec.ofChange automatonTurnsWrong)

/-- 'latchstringlaw15.AutomatonRuns': WHATEVER THE INPUT: true; the input reads as it did. -/
def automatonRunsSpec : ChangeSpec := { name := "automatonRuns", fn := fun _ => fun
  | [d1, d2, d3] => { results := [.lit (.bool true)], args := [d1, d2, d3] }
  | _ => none }
def automatonRunsRow : OpenClaim := { program := "ytlmkplcfmngigaa", sum := "940481b16b032dd5721099637fd905faafc79bebb084fa84e6f1c7f7bf04a287", func := "latchstring/latchstringlaw15.AutomatonRuns", spec := "automatonRuns", inPlace := ["slices.overlaps[int]", "slices.overlaps[latchstring/api.Held]"], unfollowed := true, recurses := true, plainKeys := false, apart := false }
def AutomatonRunsSaid : Prop := automatonRunsRow.holds Try.pinned (OpenSpec.ofChange automatonRunsSpec)

/-- ITS FALSE NEIGHBOUR: 'it returns false'. Refute it at one input. -/
def automatonRunsWrong : ChangeSpec := { name := "automatonRuns", fn := fun _ => fun
  | [d1, d2, d3] => { results := [.lit (.bool false)], args := [d1, d2, d3] }
  | _ => none }
def AutomatonRunsWrongFalsely : Prop := automatonRunsRow.holds Try.pinned (OpenSpec.ofChange automatonRunsWrong)

/- THE SECOND FORM. 'bulk': how many values and letters a reading holds, each counted each time it is reached (what is shared counts as often as it is met; a slice's spare places count too). A statement '..UptoSaid' is the law's where the arguments, and the package variables that the reading takes, are together of bulk at most 1048576: NARROWER than '..Said'. Prove '..Said' where nothing that the law and all that it calls make is longer than what came in: it says more and counts as full. Else prove '..UptoSaid'. A law counts once. -/
mutual
def uptoBulk {H : Type} : DataW H → Nat
  | .lit (.string bytes) => bytes.length + 1
  | .lit _ => 1
  | .nil => 1
  | .ptr d => uptoBulk d + 1
  | .slice elems spare => uptoBulkAll elems + uptoBulkAll spare + 1
  | .agg parts => uptoBulkAll parts + 1
  | .iface _ d => uptoBulk d + 1
  | .map entries => uptoBulkEntries entries + 1
  | .held _ => 1
def uptoBulkAll {H : Type} : List (DataW H) → Nat
  | [] => 0
  | d :: r => uptoBulk d + uptoBulkAll r
def uptoBulkEntries {H : Type} : List (Lit × DataW H) → Nat
  | [] => 0
  | x :: r => uptoBulkEntry x + uptoBulkEntries r
def uptoBulkEntry {H : Type} : Lit × DataW H → Nat
  | (.string bytes, d) => bytes.length + uptoBulk d + 1
  | (_, d) => uptoBulk d + 1
 end
def uptoSmall : (H : Type) → List (DataW H) → Bool := fun _ ds => decide (uptoBulkAll ds ≤ 1048576)
def OpenSpec.upto (s : _root_.Go.ChangeSpec) : _root_.Go.OpenSpec := { _root_.Go.OpenSpec.ofChange s with cond := some uptoSmall }

/-- 'latchstringlaw22.SafetyClashes', WHERE WHAT IT READS IS OF BULK AT MOST 1048576: true; the input reads as it did. -/
def safetyClashesUptoRow : OpenClaim := { program := "ytlmkplcfmngigaa", sum := "940481b16b032dd5721099637fd905faafc79bebb084fa84e6f1c7f7bf04a287", func := "latchstring/latchstringlaw22.SafetyClashes", spec := "safetyClashes", plainKeys := false, apart := false, narrowed := true }
def SafetyClashesUptoSaid : Prop := safetyClashesUptoRow.holds Try.pinned (OpenSpec.upto safetyClashesSpec)

/-- 'latchstringlaw18.PassRoom', WHERE WHAT IT READS IS OF BULK AT MOST 1048576: true; the input reads as it did. -/
def passRoomUptoRow : OpenClaim := { program := "ytlmkplcfmngigaa", sum := "940481b16b032dd5721099637fd905faafc79bebb084fa84e6f1c7f7bf04a287", func := "latchstring/latchstringlaw18.PassRoom", spec := "passRoom", inPlace := ["slices.overlaps[latchstring/api.Held]"], unfollowed := true, recurses := true, plainKeys := false, apart := false, narrowed := true }
def PassRoomUptoSaid : Prop := passRoomUptoRow.holds Try.pinned (OpenSpec.upto passRoomSpec)

/-- 'latchstringlaw18.PassKeeps', WHERE WHAT IT READS IS OF BULK AT MOST 1048576: true; the input reads as it did. -/
def passKeepsUptoRow : OpenClaim := { program := "ytlmkplcfmngigaa", sum := "940481b16b032dd5721099637fd905faafc79bebb084fa84e6f1c7f7bf04a287", func := "latchstring/latchstringlaw18.PassKeeps", spec := "passKeeps", inPlace := ["slices.overlaps[latchstring/api.Held]"], unfollowed := true, recurses := true, plainKeys := false, apart := false, narrowed := true }
def PassKeepsUptoSaid : Prop := passKeepsUptoRow.holds Try.pinned (OpenSpec.upto passKeepsSpec)

/-- 'latchstringlaw18.PassScript', WHERE WHAT IT READS IS OF BULK AT MOST 1048576: true; the input reads as it did. -/
def passScriptUptoRow : OpenClaim := { program := "ytlmkplcfmngigaa", sum := "940481b16b032dd5721099637fd905faafc79bebb084fa84e6f1c7f7bf04a287", func := "latchstring/latchstringlaw18.PassScript", spec := "passScript", inPlace := ["slices.overlaps[latchstring/api.Held]"], unfollowed := true, recurses := true, plainKeys := false, apart := false, narrowed := true }
def PassScriptUptoSaid : Prop := passScriptUptoRow.holds Try.pinned (OpenSpec.upto passScriptSpec)

/-- 'latchstringlaw17.CachePlans', WHERE WHAT IT READS IS OF BULK AT MOST 1048576: true; the input reads as it did. -/
def cachePlansUptoRow : OpenClaim := { program := "ytlmkplcfmngigaa", sum := "940481b16b032dd5721099637fd905faafc79bebb084fa84e6f1c7f7bf04a287", func := "latchstring/latchstringlaw17.CachePlans", spec := "cachePlans", inPlace := ["slices.overlaps[latchstring/api.Held]"], unfollowed := true, recurses := true, plainKeys := false, apart := false, narrowed := true }
def CachePlansUptoSaid : Prop := cachePlansUptoRow.holds Try.pinned (OpenSpec.upto cachePlansSpec)

/-- 'latchstringlaw17.CacheMore', WHERE WHAT IT READS IS OF BULK AT MOST 1048576: true; the input reads as it did. -/
def cacheMoreUptoRow : OpenClaim := { program := "ytlmkplcfmngigaa", sum := "940481b16b032dd5721099637fd905faafc79bebb084fa84e6f1c7f7bf04a287", func := "latchstring/latchstringlaw17.CacheMore", spec := "cacheMore", inPlace := ["slices.overlaps[latchstring/api.Held]"], unfollowed := true, recurses := true, plainKeys := false, apart := false, narrowed := true }
def CacheMoreUptoSaid : Prop := cacheMoreUptoRow.holds Try.pinned (OpenSpec.upto cacheMoreSpec)

/-- 'latchstringlaw17.CacheOrders', WHERE WHAT IT READS IS OF BULK AT MOST 1048576: true; the input reads as it did. -/
def cacheOrdersUptoRow : OpenClaim := { program := "ytlmkplcfmngigaa", sum := "940481b16b032dd5721099637fd905faafc79bebb084fa84e6f1c7f7bf04a287", func := "latchstring/latchstringlaw17.CacheOrders", spec := "cacheOrders", unfollowed := true, recurses := true, plainKeys := false, apart := false, narrowed := true }
def CacheOrdersUptoSaid : Prop := cacheOrdersUptoRow.holds Try.pinned (OpenSpec.upto cacheOrdersSpec)

/-- 'latchstringlaw15.AutomatonMay', WHERE WHAT IT READS IS OF BULK AT MOST 1048576: true; the input reads as it did. -/
def automatonMayUptoRow : OpenClaim := { program := "ytlmkplcfmngigaa", sum := "940481b16b032dd5721099637fd905faafc79bebb084fa84e6f1c7f7bf04a287", func := "latchstring/latchstringlaw15.AutomatonMay", spec := "automatonMay", inPlace := ["slices.overlaps[int]", "slices.overlaps[latchstring/api.Held]"], unfollowed := true, recurses := true, plainKeys := false, apart := false, narrowed := true }
def AutomatonMayUptoSaid : Prop := automatonMayUptoRow.holds Try.pinned (OpenSpec.upto automatonMaySpec)

/-- 'latchstringlaw15.AutomatonSafe', WHERE WHAT IT READS IS OF BULK AT MOST 1048576: true; the input reads as it did. -/
def automatonSafeUptoRow : OpenClaim := { program := "ytlmkplcfmngigaa", sum := "940481b16b032dd5721099637fd905faafc79bebb084fa84e6f1c7f7bf04a287", func := "latchstring/latchstringlaw15.AutomatonSafe", spec := "automatonSafe", inPlace := ["slices.overlaps[int]", "slices.overlaps[latchstring/api.Held]"], unfollowed := true, recurses := true, plainKeys := false, apart := false, narrowed := true }
def AutomatonSafeUptoSaid : Prop := automatonSafeUptoRow.holds Try.pinned (OpenSpec.upto automatonSafeSpec)

/-- 'latchstringlaw15.AutomatonTurns', WHERE WHAT IT READS IS OF BULK AT MOST 1048576: true; the input reads as it did. -/
def automatonTurnsUptoRow : OpenClaim := { program := "ytlmkplcfmngigaa", sum := "940481b16b032dd5721099637fd905faafc79bebb084fa84e6f1c7f7bf04a287", func := "latchstring/latchstringlaw15.AutomatonTurns", spec := "automatonTurns", inPlace := ["slices.overlaps[int]", "slices.overlaps[latchstring/api.Held]"], unfollowed := true, recurses := true, plainKeys := false, apart := false, narrowed := true }
def AutomatonTurnsUptoSaid : Prop := automatonTurnsUptoRow.holds Try.pinned (OpenSpec.upto automatonTurnsSpec)

/-- 'latchstringlaw15.AutomatonRuns', WHERE WHAT IT READS IS OF BULK AT MOST 1048576: true; the input reads as it did. -/
def automatonRunsUptoRow : OpenClaim := { program := "ytlmkplcfmngigaa", sum := "940481b16b032dd5721099637fd905faafc79bebb084fa84e6f1c7f7bf04a287", func := "latchstring/latchstringlaw15.AutomatonRuns", spec := "automatonRuns", inPlace := ["slices.overlaps[int]", "slices.overlaps[latchstring/api.Held]"], unfollowed := true, recurses := true, plainKeys := false, apart := false, narrowed := true }
def AutomatonRunsUptoSaid : Prop := automatonRunsUptoRow.holds Try.pinned (OpenSpec.upto automatonRunsSpec)

end Rows
end Go.Proofs.Ytlmkplcfmngigaa
