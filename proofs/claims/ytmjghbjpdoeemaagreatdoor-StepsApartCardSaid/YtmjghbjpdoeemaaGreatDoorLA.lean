/-
  PROVED HERE: a part of the proof (L1, L2, L3, L4).
-/
import Derived.Test.YtmjghbjpdoeemaaGreatDoorKG
import Derived.Test.YtmjghbjpdoeemaaGreatDoorV5
set_option linter.unusedVariables false
set_option linter.unusedSimpArgs false
set_option maxRecDepth 100000
namespace Go.Proofs
open Go.Vai Go.Clashes
end Go.Proofs
