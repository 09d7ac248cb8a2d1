/-
  PROVED HERE: a part of the proof, by a calculus of weakest conditions over an abstract heap (A7).
-/
import Derived.Test.YtlmkplcfmngigaaJ10
import Derived.Test.YtlmkplcfmngigaaA6
import Derived.Test.YtlmkplcfmngigaaV3
set_option linter.unusedVariables false
set_option linter.unusedSimpArgs false
set_option maxRecDepth 100000
namespace Go.Proofs
open Go.Vai Go.Clashes Go.ChangeShapes Go.WideShapes
theorem enc6_len (a : A6) : (enc6 a).length = 6 := rfl
theorem dec82 {H : Type} {enc : TypeId × Value → H} {w : World} (n : Nat) (cs : List Value) (d : DataW H × List MemPlace) (hl : cs.length = 6) (h : DataW.trod enc Try.prog w 0 (fun _ => true) true n 82 cs = some d) : ∃ p : A6, cs = enc6 p := by
  have k0 := dec_flat (P := Try.prog) 10 82 [.i .i64, .i .i64, .i .i64, .i .i64, .i .i64, .i .i64] (by kernel_rfl) _ _ _ h
  clear h
  obtain ⟨_, _, rfl, ⟨n0, rfl, _⟩, k1⟩ := k0.uncons
  obtain ⟨_, _, rfl, ⟨n1, rfl, _⟩, k2⟩ := k1.uncons
  obtain ⟨_, _, rfl, ⟨n2, rfl, _⟩, k3⟩ := k2.uncons
  obtain ⟨_, _, rfl, ⟨n3, rfl, _⟩, k4⟩ := k3.uncons
  obtain ⟨_, _, rfl, ⟨n4, rfl, _⟩, k5⟩ := k4.uncons
  obtain ⟨_, _, rfl, ⟨n5, rfl, _⟩, k6⟩ := k5.uncons
  cases k6.unnil
  exact ⟨⟨_, _, _, _, _, _⟩, rfl⟩
end Go.Proofs
