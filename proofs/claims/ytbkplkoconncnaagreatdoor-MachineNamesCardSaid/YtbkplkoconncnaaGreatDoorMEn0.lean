/-
  DEFINED HERE: the functions at whose calls the run is cut.
-/
import Derived.Test.YtbkplkoconncnaaGreatDoorPrims
import Derived.Test.YtbkplkoconncnaaGreatDoorVaiD
set_option linter.unusedVariables false
set_option linter.unusedSimpArgs false
namespace Go.Proofs
open Go.Vai

def cutF (f : Nat) : Bool := Nat.beq f 31 || Nat.beq f 30
end Go.Proofs
