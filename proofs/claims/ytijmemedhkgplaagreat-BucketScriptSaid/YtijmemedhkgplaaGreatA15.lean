/-
  PROVED HERE: a part of the proof, by a calculus of weakest conditions over an abstract heap (A15).
-/
import Derived.Test.YtijmemedhkgplaaGreatLD
import Derived.Test.YtijmemedhkgplaaGreatA8
set_option linter.unusedVariables false
set_option linter.unusedSimpArgs false
set_option maxRecDepth 100000
namespace Go.Proofs
open Go.Vai Go.Clashes Go.ChangeShapes Go.WideShapes
theorem lawScript_row (a0 a1 : Int) (L : List Act) (h : Heap) (v : Value) (hv : Sl encA h v L) (hc : Cut 41 6 h v L.length) (hlo : h.lo ≤ h.nx) (hno : ∀ c vs t, h.bl.get c ≠ some (cellsO vs t true)) :
    CallW Tryz.prog 3 [.int .i64 a0, .int .i64 a1, v] h IsTrue := lawScript_w a0 a1 L h v hv hlo hno IsTrue fun _ => rfl
end Go.Proofs
