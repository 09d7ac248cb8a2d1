/-
  PROVED HERE: what function 3 answers: the run, with the calls that were run by themselves.
-/
import Derived.Test.YtoofpgianedgnaaGreatDoorTEn0
import Derived.Test.YtoofpgianedgnaaGreatDoorTEn2
import Derived.Test.YtoofpgianedgnaaGreatDoorTEn3
import Derived.Test.YtoofpgianedgnaaGreatDoorTEn4
import Derived.Test.YtoofpgianedgnaaGreatDoorTEn5
set_option linter.unusedVariables false
set_option linter.unusedSimpArgs false
namespace Go.Proofs
open Go.Vai

set_option maxRecDepth 100000 in
theorem vaiAnswers : answersTrue (prTab false prB cutF [e3, e4, e5, e6, e7, e8, e9]) Tryz.prog 100000 3 = true := by decide +kernel

theorem vaiWalk (w : World) : Calls Tryz.prog 3 #[] w fun e w' => e = .returned (.bool true) ∧ GrownOld w w' :=
  answersTrue_sound mixedHere (prTab_ok yes_not prB_ok (okCons k3 (okCons k4 (okCons k5 (okCons k6 (okCons k7 (okCons k8 (okCons k9 okNil)))))))) vaiAnswers
end Go.Proofs
