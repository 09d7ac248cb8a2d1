/-
  PROVED HERE: what function 3 answers: the run, with the calls that were run by themselves.
-/
import Derived.Test.YtbkplkoconncnaaGreatDoorAEn0
import Derived.Test.YtbkplkoconncnaaGreatDoorAEn1
import Derived.Test.YtbkplkoconncnaaGreatDoorAEn2
import Derived.Test.YtbkplkoconncnaaGreatDoorAEn3
import Derived.Test.YtbkplkoconncnaaGreatDoorAEn4
set_option linter.unusedVariables false
set_option linter.unusedSimpArgs false
namespace Go.Proofs
open Go.Vai

set_option maxRecDepth 100000 in
theorem vaiAnswers : answersTrue (prTab false prB cutF [e1, e2, e3, e4, e5, e6]) Tryz.prog 100000 3 = true := by decide +kernel

theorem vaiWalk (w : World) : Calls Tryz.prog 3 #[] w fun e w' => e = .returned (.bool true) ∧ GrownOld w w' :=
  answersTrue_sound mixedHere (prTab_ok yes_not prB_ok (okCons k1 (okCons k2 (okCons k3 (okCons k4 (okCons k5 (okCons k6 okNil))))))) vaiAnswers
end Go.Proofs
