/-
  PROVED HERE: a part of the proof, by a calculus of weakest conditions over an abstract heap (RF).
-/
import Derived.Test.YtmfinibgeafebaaGreatDoorH3
import Derived.Test.YtmfinibgeafebaaGreatDoorProg
import Derived.KernelRfl
set_option linter.unusedVariables false
set_option linter.unusedSimpArgs false
set_option maxRecDepth 100000
namespace Go.Proofs
open Go.Vai

/-- latchstring/fair.rounds -/
theorem rs_21 (a0 a1 : Value) (h : Heap) (κ : Value → Heap → Prop) : BodyW Tryz.prog 21 [a0, a1] h κ = (
 cellsK False (Value.cells a0).toList 3 false fun o0 => newBlock False o0 h fun b1 h =>
 cellsK False (Value.cells a1).toList 31 false fun o2 => newBlock False o2 h fun b3 h =>
 κ (Value.func (.func 34) (Array.mk []) (Array.mk [(ptrTo b1), (ptrTo b3)])) h) := by kernel_rfl

end Go.Proofs
