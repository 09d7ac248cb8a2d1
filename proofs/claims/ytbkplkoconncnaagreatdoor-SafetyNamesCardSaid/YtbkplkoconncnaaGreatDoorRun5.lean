/-
  PROVED HERE: what the kernel's run of function 5 answers: the interpreter's steps, and the functions that are taken as one step.
-/
import Derived.Test.YtbkplkoconncnaaGreatDoorProg
import Derived.Test.YtbkplkoconncnaaGreatDoorVaiS18
import Derived.WalkKit
set_option linter.unusedVariables false
set_option linter.unusedSimpArgs false
namespace Go.Proofs
open Go.Vai

theorem mixedHere : Tryz.prog.follows .mixedOrders = true := by kernel_rfl

noncomputable def insFn (β : Type) (fl : β) : FuncId → Option (List Value → Heap → (Value → Heap → β) → β) := fun _ => none
theorem insFn_ok {β : Type} {fl : β} {good : β → Prop} (hfl : ¬ good fl) : ∀ f g, insFn β fl f = some g → ∀ (args args' : List Value) (h : Heap) (φ : Emb) (w : World) (κ : Value → Heap → β), F2 (VR φ) args args' → HR Tryz.prog φ h w → good (g args h κ) → CallTo good Tryz.prog φ h w κ f args'.toArray := by
  intro f g hg
  cases hg

noncomputable def prAny (β : Type) (fl : β) (both : β → β → β) : Prims β := ⟨insFn β fl, both⟩
noncomputable def prB : Prims Bool := prAny Bool false noPr.both
theorem prB_ok : PrimsOk yes prB Tryz.prog := ⟨(noPrims (P := Tryz.prog)).both, insFn_ok (fl := false) (good := yes) (by simp [yes])⟩

set_option maxRecDepth 100000 in
theorem vaiAnswers : answersTrue prB Tryz.prog 100000 5 = true := by decide +kernel

theorem vaiWalk (w : World) : Calls Tryz.prog 5 #[] w fun e w' => e = .returned (.bool true) ∧ GrownOld w w' :=
  answersTrue_sound mixedHere prB_ok vaiAnswers
end Go.Proofs
