/-
  PROVED HERE: the closed facts of the row of SafetyNames.
-/
import Derived.Test.YtbkplkoconncnaaGreatDoorRows
import Derived.JoinedOf
import Derived.KernelRfl
set_option linter.unusedVariables false
set_option maxHeartbeats 40000000
set_option maxRecDepth 100000
namespace Go.Proofs.YtbkplkoconncnaaGreatDoor.safetyNames
open Go

theorem closed : joinedFacts Tryz.pinned.checked.prog 5 Tryz.f5 Rows.safetyNamesSpec Rows.safetyNamesRow = true := by
  unfold joinedFacts
  simp only [Bool.and_eq_true]
  repeat' apply And.intro
  all_goals as_aux_lemma => kernel_rfl
end Go.Proofs.YtbkplkoconncnaaGreatDoor.safetyNames
