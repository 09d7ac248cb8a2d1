/-
  PROVED HERE: a part of the proof (MachineAloneClosed).
-/
import Derived.Test.YtfkonofjdimjbaaGreatDoorRows
import Derived.JoinedOf
import Derived.KernelRfl
set_option linter.unusedVariables false
set_option linter.unusedSimpArgs false
set_option maxRecDepth 100000
set_option maxHeartbeats 40000000
namespace Go.Proofs.YtfkonofjdimjbaaGreatDoor.machineAlone
open Go
theorem closed : joinedFacts Tryz.pinned.checked.prog 3 Tryz.f3 Rows.machineAloneSpec Rows.machineAloneRow = true := by
  unfold joinedFacts
  simp only [Bool.and_eq_true]
  repeat' apply And.intro
  all_goals as_aux_lemma => kernel_rfl
end Go.Proofs.YtfkonofjdimjbaaGreatDoor.machineAlone
