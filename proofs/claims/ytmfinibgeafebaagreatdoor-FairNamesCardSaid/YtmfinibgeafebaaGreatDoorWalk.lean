/-
  PROVED HERE: what function 3 answers: the run, with the calls that were run by themselves.
-/
import Derived.Test.YtmfinibgeafebaaGreatDoorEn0
import Derived.Test.YtmfinibgeafebaaGreatDoorEn1
import Derived.Test.YtmfinibgeafebaaGreatDoorEn2
import Derived.Test.YtmfinibgeafebaaGreatDoorEn3
import Derived.Test.YtmfinibgeafebaaGreatDoorEn4
import Derived.Test.YtmfinibgeafebaaGreatDoorEn5
import Derived.Test.YtmfinibgeafebaaGreatDoorEn6
import Derived.Test.YtmfinibgeafebaaGreatDoorEn7
import Derived.Test.YtmfinibgeafebaaGreatDoorEn8
import Derived.Test.YtmfinibgeafebaaGreatDoorEn9
import Derived.Test.YtmfinibgeafebaaGreatDoorEn10
import Derived.Test.YtmfinibgeafebaaGreatDoorEn11
import Derived.Test.YtmfinibgeafebaaGreatDoorEn12
import Derived.Test.YtmfinibgeafebaaGreatDoorEn13
import Derived.Test.YtmfinibgeafebaaGreatDoorEn14
import Derived.Test.YtmfinibgeafebaaGreatDoorEn15
import Derived.Test.YtmfinibgeafebaaGreatDoorEn16
import Derived.Test.YtmfinibgeafebaaGreatDoorEn17
import Derived.Test.YtmfinibgeafebaaGreatDoorEn18
import Derived.Test.YtmfinibgeafebaaGreatDoorEn19
set_option linter.unusedVariables false
set_option linter.unusedSimpArgs false
namespace Go.Proofs
open Go.Vai

set_option maxRecDepth 100000 in
theorem vaiAnswers : answersTrue (prTab false prB cutF [e0, e1, e2, e3, e4, e5, e6, e7, e8, e9, e10, e11, e12, e13, e14, e15, e16, e17, e18, e19, e20, e21, e22, e23, e24, e25, e26, e27, e28, e29, e30, e31, e32, e33, e34, e35, e36, e37, e38, e39, e40, e41, e42, e43, e44, e45, e46, e47, e48, e49, e50, e51, e52, e53, e54, e55, e56, e57, e58, e59, e60, e61, e62, e63, e64, e65, e66, e67, e68, e69, e70, e71, e72, e73, e74, e75, e76, e77, e78, e79, e80, e81, e82, e83, e84, e85, e86, e87, e88, e89, e90, e91, e92, e93, e94, e95, e96, e97, e98, e99, e100, e101, e102, e103, e104, e105, e106, e107, e108, e109, e110]) Tryz.prog 100000 3 = true := by decide +kernel

theorem vaiWalk (w : World) : Calls Tryz.prog 3 #[] w fun e w' => e = .returned (.bool true) ∧ GrownOld w w' :=
  answersTrue_sound mixedHere (prTab_ok yes_not prB_ok (okCons k0 (okCons k1 (okCons k2 (okCons k3 (okCons k4 (okCons k5 (okCons k6 (okCons k7 (okCons k8 (okCons k9 (okCons k10 (okCons k11 (okCons k12 (okCons k13 (okCons k14 (okCons k15 (okCons k16 (okCons k17 (okCons k18 (okCons k19 (okCons k20 (okCons k21 (okCons k22 (okCons k23 (okCons k24 (okCons k25 (okCons k26 (okCons k27 (okCons k28 (okCons k29 (okCons k30 (okCons k31 (okCons k32 (okCons k33 (okCons k34 (okCons k35 (okCons k36 (okCons k37 (okCons k38 (okCons k39 (okCons k40 (okCons k41 (okCons k42 (okCons k43 (okCons k44 (okCons k45 (okCons k46 (okCons k47 (okCons k48 (okCons k49 (okCons k50 (okCons k51 (okCons k52 (okCons k53 (okCons k54 (okCons k55 (okCons k56 (okCons k57 (okCons k58 (okCons k59 (okCons k60 (okCons k61 (okCons k62 (okCons k63 (okCons k64 (okCons k65 (okCons k66 (okCons k67 (okCons k68 (okCons k69 (okCons k70 (okCons k71 (okCons k72 (okCons k73 (okCons k74 (okCons k75 (okCons k76 (okCons k77 (okCons k78 (okCons k79 (okCons k80 (okCons k81 (okCons k82 (okCons k83 (okCons k84 (okCons k85 (okCons k86 (okCons k87 (okCons k88 (okCons k89 (okCons k90 (okCons k91 (okCons k92 (okCons k93 (okCons k94 (okCons k95 (okCons k96 (okCons k97 (okCons k98 (okCons k99 (okCons k100 (okCons k101 (okCons k102 (okCons k103 (okCons k104 (okCons k105 (okCons k106 (okCons k107 (okCons k108 (okCons k109 (okCons k110 okNil)))))))))))))))))))))))))))))))))))))))))))))))))))))))))))))))))))))))))))))))))))))))))))))))))))))))))))))))) vaiAnswers
end Go.Proofs
