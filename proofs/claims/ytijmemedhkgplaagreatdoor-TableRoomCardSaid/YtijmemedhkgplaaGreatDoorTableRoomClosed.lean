/-
  PROVED HERE: a part of the proof, by a calculus of weakest conditions over an abstract heap (TableRoomClosed).
-/
import Derived.Test.YtijmemedhkgplaaGreatDoorRows
import Derived.JoinedOf
import Derived.KernelRfl
set_option linter.unusedVariables false
set_option linter.unusedSimpArgs false
set_option maxHeartbeats 40000000
set_option maxRecDepth 100000
namespace Go.Proofs.YtijmemedhkgplaaGreatDoor.tableRoom
open Go

theorem closed : joinedFacts Tryz.pinned.checked.prog 4 Tryz.f4 Rows.tableRoomSpec Rows.tableRoomRow = true := by
  unfold joinedFacts
  simp only [Bool.and_eq_true]
  repeat' apply And.intro
  all_goals as_aux_lemma => kernel_rfl
end Go.Proofs.YtijmemedhkgplaaGreatDoor.tableRoom
