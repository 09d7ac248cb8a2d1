/-
  PROVED HERE: a part of the proof (K37, K38, K39, K40).
-/
import Derived.Test.YtmjghbjpdoeemaaGreatDoorKE
import Derived.Test.YtmjghbjpdoeemaaGreatDoorV3
set_option linter.unusedVariables false
set_option linter.unusedSimpArgs false
set_option maxRecDepth 100000
namespace Go.Proofs
open Go.Vai Go.Clashes
theorem y8 {β:Type} {fl:β} (cn:Bool) (a b c d:Int) (h:Heap) (κ:Value→Heap→β):au fl Tryz.prog .eql 36 cn false (.agg ⟨[.int .i64 a,.int .i64 b]⟩) (.agg ⟨[.int .i64 c,.int .i64 d]⟩) h κ=κ (.bool (decide (a=c∧b=d))) h:=by
 have:=eqN h a b c d
 unfold dK at this
 simp only[au,this,bN]
end Go.Proofs
