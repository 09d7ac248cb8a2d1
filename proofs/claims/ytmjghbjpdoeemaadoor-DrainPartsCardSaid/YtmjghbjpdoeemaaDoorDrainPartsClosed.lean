/-
  PROVED HERE: a part of the proof, by a calculus of weakest conditions over an abstract heap (DrainPartsClosed).
-/
import Derived.Test.YtmjghbjpdoeemaaDoorRows
import Derived.JoinedOf
import Derived.KernelRfl
set_option linter.unusedVariables false
set_option linter.unusedSimpArgs false
set_option maxHeartbeats 40000000
set_option maxRecDepth 100000
namespace Go.Proofs.YtmjghbjpdoeemaaDoor.drainParts
open Go
theorem closed : joinedFacts Tryd.pinned.checked.prog 3 Tryd.f3 Rows.drainPartsSpec Rows.drainPartsRow = true := by
  unfold joinedFacts
  simp only [Bool.and_eq_true]
  repeat' apply And.intro
  all_goals as_aux_lemma => kernel_rfl
end Go.Proofs.YtmjghbjpdoeemaaDoor.drainParts
