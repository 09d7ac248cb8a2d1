/-
  PROVED HERE: a part of the proof, by a calculus of weakest conditions over an abstract heap (TableApartClosed).
-/
import Derived.Test.YtijmemedhkgplaaGreatDoorRows
import Derived.JoinedOf
import Derived.KernelRfl
set_option linter.unusedVariables false
set_option linter.unusedSimpArgs false
set_option maxHeartbeats 40000000
set_option maxRecDepth 100000
namespace Go.Proofs.YtijmemedhkgplaaGreatDoor.tableApart
open Go

theorem closed : joinedFacts Tryz.pinned.checked.prog 3 Tryz.f3 Rows.tableApartSpec Rows.tableApartRow = true := by
  unfold joinedFacts
  simp only [Bool.and_eq_true]
  repeat' apply And.intro
  all_goals as_aux_lemma => kernel_rfl
end Go.Proofs.YtijmemedhkgplaaGreatDoor.tableApart
