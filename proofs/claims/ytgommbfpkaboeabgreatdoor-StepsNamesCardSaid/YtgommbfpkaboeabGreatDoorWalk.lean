/-
  PROVED HERE: what function 3 answers: the pieces, joined.
-/
import Derived.Test.YtgommbfpkaboeabGreatDoorSegs
set_option linter.unusedVariables false
set_option linter.unusedSimpArgs false
namespace Go.Proofs
open Go.Vai

set_option maxRecDepth 100000 in
theorem vaiWalk (w : World) : Calls Tryz.prog 3 #[] w fun e w' => e = .returned (.bool true) ∧ GrownOld w w' := by
  refine seg_start lawCode Tryz.func3 ?_
  refine seg_codes mixedHere prB_ok (by decide) codesOk run1 ?_
  refine seg_codes mixedHere prB_ok (by decide) codesOk run2 ?_
  refine seg_codes mixedHere prB_ok (by decide) codesOk run3 ?_
  refine seg_codes mixedHere prB_ok (by decide) codesOk run4 ?_
  refine seg_codes mixedHere prB_ok (by decide) codesOk run5 ?_
  refine seg_codes mixedHere prB_ok (by decide) codesOk run6 ?_
  refine seg_codes mixedHere prB_ok (by decide) codesOk run7 ?_
  refine seg_codes mixedHere prB_ok (by decide) codesOk run8 ?_
  refine seg_codes mixedHere prB_ok (by decide) codesOk run9 ?_
  refine seg_codes mixedHere prB_ok (by decide) codesOk run10 ?_
  refine seg_codes mixedHere prB_ok (by decide) codesOk run11 ?_
  refine reg_in isReg33 ?_
  refine seg_ops mixedHere prB_ok regOk33 (by decide) (by decide +kernel) run12 ?_
  refine seg_ops mixedHere prB_ok regOk33 (by decide) (by decide +kernel) run13 ?_
  refine reg_out (by decide +kernel) ?_
  exact seg_end mixedHere prB_ok lawCode Tryz.func3 runEnd
end Go.Proofs
