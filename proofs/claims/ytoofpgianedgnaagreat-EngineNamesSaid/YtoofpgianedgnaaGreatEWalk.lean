/-
  PROVED HERE: what function 3 answers: the run, with the calls that were run by themselves.
-/
import Derived.Test.YtoofpgianedgnaaGreatEEn0
import Derived.Test.YtoofpgianedgnaaGreatEEn5
import Derived.Test.YtoofpgianedgnaaGreatEEn6
import Derived.Test.YtoofpgianedgnaaGreatEEn7
import Derived.Test.YtoofpgianedgnaaGreatEEn8
import Derived.Test.YtoofpgianedgnaaGreatEEn9
import Derived.Test.YtoofpgianedgnaaGreatEEn10
import Derived.Test.YtoofpgianedgnaaGreatEEn11
import Derived.Test.YtoofpgianedgnaaGreatEEn12
set_option linter.unusedVariables false
set_option linter.unusedSimpArgs false
namespace Go.Proofs
open Go.Vai

set_option maxRecDepth 100000 in
theorem vaiAnswers : answersTrue (prTab false prB cutF [e41, e42, e43, e44, e45, e46, e47, e48, e49, e50, e51, e52, e53, e54, e55, e56, e57, e58, e59, e60, e61, e62, e63, e64, e65, e66, e67, e68, e69, e70, e71, e72, e73, e74, e75, e76, e77, e78, e79, e80, e81, e82, e83, e84, e85, e86, e87, e88, e89, e90, e91, e92, e93, e94, e95, e96, e97, e98, e99, e100, e101, e102, e103, e104]) Tryz.prog 100000 3 = true := by decide +kernel

theorem vaiWalk (w : World) : Calls Tryz.prog 3 #[] w fun e w' => e = .returned (.bool true) ∧ GrownOld w w' :=
  answersTrue_sound mixedHere (prTab_ok yes_not prB_ok (okCons k41 (okCons k42 (okCons k43 (okCons k44 (okCons k45 (okCons k46 (okCons k47 (okCons k48 (okCons k49 (okCons k50 (okCons k51 (okCons k52 (okCons k53 (okCons k54 (okCons k55 (okCons k56 (okCons k57 (okCons k58 (okCons k59 (okCons k60 (okCons k61 (okCons k62 (okCons k63 (okCons k64 (okCons k65 (okCons k66 (okCons k67 (okCons k68 (okCons k69 (okCons k70 (okCons k71 (okCons k72 (okCons k73 (okCons k74 (okCons k75 (okCons k76 (okCons k77 (okCons k78 (okCons k79 (okCons k80 (okCons k81 (okCons k82 (okCons k83 (okCons k84 (okCons k85 (okCons k86 (okCons k87 (okCons k88 (okCons k89 (okCons k90 (okCons k91 (okCons k92 (okCons k93 (okCons k94 (okCons k95 (okCons k96 (okCons k97 (okCons k98 (okCons k99 (okCons k100 (okCons k101 (okCons k102 (okCons k103 (okCons k104 okNil))))))))))))))))))))))))))))))))))))))))))))))))))))))))))))))))) vaiAnswers
end Go.Proofs
