/-
  DEFINED HERE: the functions at whose calls the run is cut.
-/
import Derived.Test.YtmfinibgeafebaaGreatDoorPrims
set_option linter.unusedVariables false
set_option linter.unusedSimpArgs false
namespace Go.Proofs
open Go.Vai

def cutF (f : Nat) : Bool := Nat.beq f 394 || Nat.beq f 396 || Nat.beq f 16 || Nat.beq f 19
end Go.Proofs
