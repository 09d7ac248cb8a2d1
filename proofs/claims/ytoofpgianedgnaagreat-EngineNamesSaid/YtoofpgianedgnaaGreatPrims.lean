/-
  PROVED HERE: what the kernel's run of function 3 answers: the interpreter's steps, and the functions that are taken as one step.
-/
import Derived.Test.YtoofpgianedgnaaGreatIW5
import Derived.Test.YtoofpgianedgnaaGreatVaiP
set_option linter.unusedVariables false
set_option linter.unusedSimpArgs false
namespace Go.Proofs
open Go.Vai

theorem mixedHere : Tryz.prog.follows .mixedOrders = true := by kernel_rfl

noncomputable def zHeld : List Value := match zOf Tryz.prog 197 with | some (z, _) => z | none => []
theorem zHeld_ok : zOf Tryz.prog 197 = some (zHeld, 4) := by kernel_rfl
theorem infoHeld : (match Tryz.prog.info? 197 with | some i => (match i.zero with | some z => Nat.beq z.cells.size 4 && Nat.ble i.bytes 10000 | none => false) | none => false) = true := by decide +kernel
set_option maxRecDepth 100000 in
theorem infoHeld' : ∃ i z, Tryz.prog.info? 197 = some i ∧ i.zero = some z ∧ z.cells.size = 4 ∧ i.bytes ≤ 10000 := by
  have h := infoHeld
  split at h <;> try contradiction
  rename_i i hi
  split at h <;> try contradiction
  rename_i z hz
  simp only [Bool.and_eq_true] at h
  exact ⟨i, z, hi, hz, beq_t h.1, ble_t h.2⟩

noncomputable def insFn (β : Type) (fl : β) : FuncId → Option (List Value → Heap → (Value → Heap → β) → β) := fun f => match Nat.beq f 306 with | true => some (insertB fl 197 4 zHeld) | false => none

theorem insFn_ok {β : Type} {fl : β} {good : β → Prop} (hfl : ¬ good fl) : ∀ f g, insFn β fl f = some g → ∀ (args args' : List Value) (h : Heap) (φ : Emb) (w : World) (κ : Value → Heap → β), F2 (VR φ) args args' → HR Tryz.prog φ h w → good (g args h κ) → CallTo good Tryz.prog φ h w κ f args'.toArray := by
  intro f g hg args args' h φ w κ ha hr hgood
  unfold insFn at hg
  split at hg <;> try contradiction
  rename_i hf; have hf := beq_t hf
  subst hf
  cases hg
  obtain ⟨i, z, h1, h2, h3, h4⟩ := infoHeld'
  exact insertB_sound hfl (insert306 h1 h2 h3 h4 Tryz.underlying3) Tryz.underlying51 zHeld_ok h1 h4 hr ha hgood

noncomputable def prP : Prims PRes := ⟨insFn PRes .bad, bothP⟩
theorem prP_ok (r0 : PRes) : PrimsOk (goodP r0) prP Tryz.prog := ⟨bothP_good r0, insFn_ok (goodP_bad r0)⟩
def isPure (f : FuncId) : Bool := Nat.beq f 104 || Nat.beq f 394
noncomputable def prAny (β : Type) (fl : β) (both : β → β → β) : Prims β := ⟨fun f => match isPure f with | true => some (pureB fl prP Tryz.prog 100000 f) | false => insFn β fl f, both⟩
noncomputable def prB : Prims Bool := prAny Bool false noPr.both
theorem prB_ok : PrimsOk yes prB Tryz.prog := by
  refine ⟨(noPrims (P := Tryz.prog)).both, fun f g hg args args' h φ w κ ha hr hgood => ?_⟩
  have hfl : ¬ yes false := by simp [yes]
  simp only [prB, prAny] at hg
  split at hg
  · cases hg
    exact pureB_sound hfl mixedHere prP_ok hr ha hgood
  · exact insFn_ok hfl f g hg args args' h φ w κ ha hr hgood

end Go.Proofs
