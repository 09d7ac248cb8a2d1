/-
  DEFINED HERE: the functions at whose calls the run is cut.
-/
import Derived.Test.YtoofpgianedgnaaGreatDoorPrims
import Derived.Test.YtoofpgianedgnaaGreatDoorVaiD
set_option linter.unusedVariables false
set_option linter.unusedSimpArgs false
namespace Go.Proofs
open Go.Vai

def cutF (f : Nat) : Bool := Nat.beq f 446 || Nat.beq f 449
end Go.Proofs
