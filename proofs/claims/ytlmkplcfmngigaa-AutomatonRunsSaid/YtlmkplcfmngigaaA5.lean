/-
  PROVED HERE: a part of the proof, by a calculus of weakest conditions over an abstract heap (A5).
-/
import Derived.Test.YtlmkplcfmngigaaF
import Derived.Test.YtlmkplcfmngigaaA3
set_option linter.unusedVariables false
set_option linter.unusedSimpArgs false
set_option maxRecDepth 100000
namespace Go.Proofs
open Go.Vai Go.Clashes Go.ChangeShapes Go.WideShapes
theorem len2 {α : Type} {l : List α} (h : l.length = 2) : ∃ a b, l = [a, b] := by
  match l, h with
  | [a, b], _ => exact ⟨a, b, rfl⟩
/-- two numbers -/
theorem decII {H : Type} {enc : TypeId × Value → H} {w : World} {e : TypeId} {f0 f1 : Field} (hu : Try.prog.underlying e = some (.struct #[f0, f1])) (t0 : f0.type = 3) (o0 : f0.offset = 0) (t1 : f1.type = 3) (o1 : f1.offset = 1)
    (n : Nat) (cs : List Value) (d : DataW H × List MemPlace) (hl : cs.length = 2) (h : DataW.trod enc Try.prog w 0 (fun _ => true) true n e cs = some d) : ∃ p : N2, cs = enc2 p := by
  obtain ⟨a, b, rfl⟩ := len2 hl
  obtain ⟨xs, m, _, _, _, hx, hf⟩ := DataW.trod_struct hu h
  have h0 := hf 0 f0 rfl
  have h1 := hf 1 f1 rfl
  obtain ⟨x0, e0⟩ := some_of (i := 0) hx (by simp)
  obtain ⟨x1, e1⟩ := some_of (i := 1) hx (by simp)
  rw [e0, t0, o0] at h0; rw [e1, t1, o1] at h1
  have c3 : Try.prog.cellsOf 3 = 1 := by kernel_rfl
  simp only [c3, List.drop_zero, List.take_succ_cons, List.take_zero, List.drop_succ_cons] at h0 h1
  obtain ⟨n0, r0, _⟩ := DataW.trod_int Try.underlying3 h0
  obtain ⟨n1, r1, _⟩ := DataW.trod_int Try.underlying3 h1
  cases r0; cases r1
  exact ⟨⟨_, _⟩, rfl⟩
theorem dec64 {H : Type} {enc : TypeId × Value → H} {w : World} (n : Nat) (cs : List Value) (d : DataW H × List MemPlace) (hl : cs.length = 2) (h : DataW.trod enc Try.prog w 0 (fun _ => true) true n 64 cs = some d) : ∃ p : N2, cs = enc2 p :=
  decII Try.underlying64 rfl rfl rfl rfl n cs d hl h
end Go.Proofs
