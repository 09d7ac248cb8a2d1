/-
  PROVED HERE: what the kernel's run of function 3 answers: the interpreter's steps, and the functions that are taken as one step.
-/
import Derived.Test.YtfkkhpolmgncnabProg
import Derived.Test.YtfkkhpolmgncnabVaiS18
import Derived.WalkKit
set_option linter.unusedVariables false
set_option linter.unusedSimpArgs false
namespace Go.Proofs
open Go.Vai

theorem mixedHere : Try.prog.follows .mixedOrders = true := by kernel_rfl

noncomputable def insFn (β : Type) (fl : β) : FuncId → Option (List Value → Heap → (Value → Heap → β) → β) := fun _ => none
theorem insFn_ok {β : Type} {fl : β} {good : β → Prop} (hfl : ¬ good fl) : ∀ f g, insFn β fl f = some g → ∀ (args args' : List Value) (h : Heap) (φ : Emb) (w : World) (κ : Value → Heap → β), F2 (VR φ) args args' → HR Try.prog φ h w → good (g args h κ) → CallTo good Try.prog φ h w κ f args'.toArray := by
  intro f g hg
  cases hg

noncomputable def prB : Prims Bool := ⟨insFn Bool false, noPr.both⟩
theorem prB_ok : PrimsOk yes prB Try.prog := ⟨(noPrims (P := Try.prog)).both, insFn_ok (fl := false) (good := yes) (by simp [yes])⟩

set_option maxRecDepth 100000 in
theorem vaiAnswers : answersTrue prB Try.prog 100000 3 = true := by decide +kernel

theorem vaiWalk (w : World) : Calls Try.prog 3 #[] w fun e w' => e = .returned (.bool true) ∧ Go.RowKit.Grown w w' :=
  answersTrue_sound mixedHere prB_ok vaiAnswers
end Go.Proofs
