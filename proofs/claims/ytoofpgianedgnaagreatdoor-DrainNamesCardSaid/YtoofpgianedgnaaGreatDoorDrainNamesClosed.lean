/-
  PROVED HERE: the closed facts of the row of DrainNames.
-/
import Derived.Test.YtoofpgianedgnaaGreatDoorRows
import Derived.JoinedOf
import Derived.KernelRfl
set_option linter.unusedVariables false
set_option maxHeartbeats 40000000
set_option maxRecDepth 100000
namespace Go.Proofs.YtoofpgianedgnaaGreatDoor.drainNames
open Go

theorem closed : joinedFacts Tryz.pinned.checked.prog 4 Tryz.f4 Rows.drainNamesSpec Rows.drainNamesRow = true := by
  unfold joinedFacts
  simp only [Bool.and_eq_true]
  repeat' apply And.intro
  all_goals as_aux_lemma => kernel_rfl
end Go.Proofs.YtoofpgianedgnaaGreatDoor.drainNames
