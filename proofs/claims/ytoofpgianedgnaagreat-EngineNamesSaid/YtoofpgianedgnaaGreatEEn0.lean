/-
  DEFINED HERE: the functions at whose calls the run is cut.
-/
import Derived.Test.YtoofpgianedgnaaGreatPrims
import Derived.Test.YtoofpgianedgnaaGreatVaiD
set_option linter.unusedVariables false
set_option linter.unusedSimpArgs false
namespace Go.Proofs
open Go.Vai

def cutF (f : Nat) : Bool := Nat.beq f 7 || Nat.beq f 6 || Nat.beq f 4
end Go.Proofs
