/-
  PROVED HERE: the closed facts of the row of FairNames.
-/
import Derived.Test.YtmfinibgeafebaaGreatDoorRows
import Derived.JoinedOf
import Derived.KernelRfl
set_option linter.unusedVariables false
set_option maxHeartbeats 40000000
set_option maxRecDepth 100000
namespace Go.Proofs.YtmfinibgeafebaaGreatDoor.fairNames
open Go

theorem closed : joinedFacts Tryz.pinned.checked.prog 3 Tryz.f3 Rows.fairNamesSpec Rows.fairNamesRow = true := by
  unfold joinedFacts
  simp only [Bool.and_eq_true]
  repeat' apply And.intro
  all_goals as_aux_lemma => kernel_rfl
end Go.Proofs.YtmfinibgeafebaaGreatDoor.fairNames
