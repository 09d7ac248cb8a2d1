/-
  PROVED HERE: a part of the proof, by a calculus of weakest conditions over an abstract heap (A8).
-/
import Derived.Test.YtijmemedhkgplaaGreatK41
import Derived.Test.YtijmemedhkgplaaGreatV3
import Derived.Test.YtijmemedhkgplaaGreatRows
set_option linter.unusedVariables false
set_option linter.unusedSimpArgs false
set_option maxRecDepth 100000
namespace Go.Proofs
open Go.Vai Go.Clashes Go.ChangeShapes Go.WideShapes
theorem laidOut : laidOutB Tryz.prog = true := by kernel_rfl
theorem own0 : ownKnob Tryz.prog.godebug = none := by kernel_rfl
theorem decAct {H : Type} {enc : TypeId × Value → H} {w : World} (n : Nat) (cs : List Value) (d : DataW H × List MemPlace) (hl : cs.length = 6) (h : DataW.trod enc Tryz.prog w 0 (fun _ => true) true n 41 cs = some d) : ∃ p : Act, cs = encA p := by
  have k0 := dec_flat (P := Tryz.prog) 10 41 [.i .i64, .i .i64, .i .i64, .i .i64, .i .i64, .i .i64] (by kernel_rfl) _ _ _ h
  clear h
  obtain ⟨_, _, rfl, ⟨n0, rfl, _⟩, k1⟩ := k0.uncons
  obtain ⟨_, _, rfl, ⟨n1, rfl, _⟩, k2⟩ := k1.uncons
  obtain ⟨_, _, rfl, ⟨n2, rfl, _⟩, k3⟩ := k2.uncons
  obtain ⟨_, _, rfl, ⟨n3, rfl, _⟩, k4⟩ := k3.uncons
  obtain ⟨_, _, rfl, ⟨n4, rfl, _⟩, k5⟩ := k4.uncons
  obtain ⟨_, _, rfl, ⟨n5, rfl, _⟩, k6⟩ := k5.uncons
  cases k6.unnil
  exact ⟨⟨_, _, _, _, _, _⟩, rfl⟩
end Go.Proofs
