/-
  PROVED HERE: what function 4 answers: the run, with the calls that were run by themselves.
-/
import Derived.Test.YtoofpgianedgnaaGreatDoorDEn0
import Derived.Test.YtoofpgianedgnaaGreatDoorDEn1
import Derived.Test.YtoofpgianedgnaaGreatDoorDEn2
import Derived.Test.YtoofpgianedgnaaGreatDoorDEn3
import Derived.Test.YtoofpgianedgnaaGreatDoorDEn4
import Derived.Test.YtoofpgianedgnaaGreatDoorDEn5
import Derived.Test.YtoofpgianedgnaaGreatDoorDEn6
import Derived.Test.YtoofpgianedgnaaGreatDoorDEn7
import Derived.Test.YtoofpgianedgnaaGreatDoorDEn8
set_option linter.unusedVariables false
set_option linter.unusedSimpArgs false
namespace Go.Proofs
open Go.Vai

set_option maxRecDepth 100000 in
theorem vaiAnswers : answersTrue (prTab false prB cutF [e0, e1, e2, e3, e4, e5, e6, e7, e8, e9, e10, e11, e12, e13, e14, e15, e16, e17, e18, e19, e20, e21, e22, e23, e24, e25, e26, e27, e28, e29, e30, e31, e32, e33, e34, e35, e36, e37, e38, e39, e40, e41, e42, e43, e44, e45, e46, e47, e48, e49, e50, e51, e52, e53, e54, e55, e56, e57, e58, e59]) Tryz.prog 100000 4 = true := by decide +kernel

theorem vaiWalk (w : World) : Calls Tryz.prog 4 #[] w fun e w' => e = .returned (.bool true) ∧ GrownOld w w' :=
  answersTrue_sound mixedHere (prTab_ok yes_not prB_ok (okCons k0 (okCons k1 (okCons k2 (okCons k3 (okCons k4 (okCons k5 (okCons k6 (okCons k7 (okCons k8 (okCons k9 (okCons k10 (okCons k11 (okCons k12 (okCons k13 (okCons k14 (okCons k15 (okCons k16 (okCons k17 (okCons k18 (okCons k19 (okCons k20 (okCons k21 (okCons k22 (okCons k23 (okCons k24 (okCons k25 (okCons k26 (okCons k27 (okCons k28 (okCons k29 (okCons k30 (okCons k31 (okCons k32 (okCons k33 (okCons k34 (okCons k35 (okCons k36 (okCons k37 (okCons k38 (okCons k39 (okCons k40 (okCons k41 (okCons k42 (okCons k43 (okCons k44 (okCons k45 (okCons k46 (okCons k47 (okCons k48 (okCons k49 (okCons k50 (okCons k51 (okCons k52 (okCons k53 (okCons k54 (okCons k55 (okCons k56 (okCons k57 (okCons k58 (okCons k59 okNil))))))))))))))))))))))))))))))))))))))))))))))))))))))))))))) vaiAnswers
end Go.Proofs
