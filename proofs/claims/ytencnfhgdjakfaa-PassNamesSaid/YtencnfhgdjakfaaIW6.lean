/-
  PROVED HERE: a part of slices.Insert as a step of the interpreter.
-/
import Derived.Test.YtencnfhgdjakfaaIW5
set_option linter.unusedVariables false
set_option linter.unusedSimpArgs false
namespace Go.Proofs
open Go.Vai

noncomputable def z30 : List Value := match zOf Try.prog 30 with | some (z, _) => z | none => []
theorem z30_ok : zOf Try.prog 30 = some (z30, 4) := by kernel_rfl

theorem info30 : (match Try.prog.info? 30 with | some i => (match i.zero with | some z => Nat.beq z.cells.size 4 && Nat.ble i.bytes 10000 | none => false) | none => false) = true := by decide +kernel
set_option maxRecDepth 100000 in
theorem info30' : ∃ i z, Try.prog.info? 30 = some i ∧ i.zero = some z ∧ z.cells.size = 4 ∧ i.bytes ≤ 10000 := by
  have h := info30
  split at h <;> try contradiction
  rename_i i hi
  split at h <;> try contradiction
  rename_i z hz
  simp only [Bool.and_eq_true] at h
  exact ⟨i, z, hi, hz, beq_t h.1, ble_t h.2⟩

noncomputable def pr84 (β : Type) (fl : β) : Prims β := fun f => match Nat.beq f 84 with | true => some (insertB fl 30 4 z30) | false => none

theorem pr84_ok : PrimsOk yes (pr84 Bool false) Try.prog := by
  intro f g hg args args' h φ w κ ha hr hgood
  unfold pr84 at hg
  split at hg <;> try contradiction
  rename_i hf; have hf := beq_t hf
  subst hf
  cases hg
  obtain ⟨i, z, h1, h2, h3, h4⟩ := info30'
  exact insertB_sound (by simp [yes]) (insert84 h1 h2 h3 h4 Try.underlying3) Try.underlying22 z30_ok h1 h4 hr ha hgood

set_option maxRecDepth 100000 in
theorem vaiAnswers : answersTrue (pr84 Bool false) Try.prog 100000 6 = true := by decide +kernel

theorem vaiWalk (w : World) : Calls Try.prog 6 #[] w fun e w' => e = .returned (.bool true) ∧ Go.RowKit.Grown w w' :=
  answersTrue_sound mixed pr84_ok vaiAnswers
end Go.Proofs
