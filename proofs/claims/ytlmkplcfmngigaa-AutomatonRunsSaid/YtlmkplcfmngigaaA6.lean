/-
  PROVED HERE: a part of the proof, by a calculus of weakest conditions over an abstract heap (A6).
-/
import Derived.Test.YtlmkplcfmngigaaA5
set_option linter.unusedVariables false
set_option linter.unusedSimpArgs false
namespace Go.Proofs
open Go.Vai Go.Clashes Go.ChangeShapes Go.WideShapes
/-- a struct that came in -/
theorem open_struct {P : Program} {H : Type} {enc : TypeId × Value → H} {α : Type} {encA : α → List Value} {s : Nat} {W : World} {t : TypeId} {fs : Array Field} {v : Value} {d : DataW H} {p : List MemPlace} {base : Nat} (ht : P.underlying t = some (.struct fs)) (hc : P.cellsOf t = s)
    (hdec : ∀ (n : Nat) (cs : List Value) (d : DataW H × List MemPlace), cs.length = s → DataW.trod enc P W 0 (fun _ => true) true n t cs = some d → ∃ a : α, cs = encA a)
    (hw : Value.okWide P W .any base t v) (h : DataW.Trod enc P W 0 (fun _ => true) true t v d p) : ∃ a : α, v = .agg ⟨encA a⟩ := by
  obtain ⟨cs, rfl, hsz⟩ := okWide_struct ht hw
  obtain ⟨fuel, hf⟩ := h
  have hf : DataW.trod enc P W 0 (fun _ => true) true fuel t cs.toList = some (d, p) := hf
  obtain ⟨a, ha⟩ := hdec fuel cs.toList _ (by simp [hsz, hc]) hf
  refine ⟨a, ?_⟩
  rw [← ha]
end Go.Proofs
