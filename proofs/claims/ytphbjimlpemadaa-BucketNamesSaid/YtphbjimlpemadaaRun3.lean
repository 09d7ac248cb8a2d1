/-
  PROVED HERE: what the kernel's run of function 3 answers: the interpreter's steps, and the functions that are taken as one step.
-/
import Derived.Test.YtphbjimlpemadaaProg
import Derived.Test.YtphbjimlpemadaaVaiP
import Derived.WalkKit
set_option linter.unusedVariables false
set_option linter.unusedSimpArgs false
namespace Go.Proofs
open Go.Vai

theorem mixedHere : Try.prog.follows .mixedOrders = true := by kernel_rfl

noncomputable def insFn (β : Type) (fl : β) : FuncId → Option (List Value → Heap → (Value → Heap → β) → β) := fun _ => none
theorem insFn_ok {β : Type} {fl : β} {good : β → Prop} (hfl : ¬ good fl) : ∀ f g, insFn β fl f = some g → ∀ (args args' : List Value) (h : Heap) (φ : Emb) (w : World) (κ : Value → Heap → β), F2 (VR φ) args args' → HR Try.prog φ h w → good (g args h κ) → CallTo good Try.prog φ h w κ f args'.toArray := by
  intro f g hg
  cases hg

noncomputable def prP : Prims PRes := ⟨insFn PRes .bad, bothP⟩
theorem prP_ok (r0 : PRes) : PrimsOk (goodP r0) prP Try.prog := ⟨bothP_good r0, insFn_ok (goodP_bad r0)⟩
def isPure (f : FuncId) : Bool := Nat.beq f 26 || Nat.beq f 37
noncomputable def prAny (β : Type) (fl : β) (both : β → β → β) : Prims β := ⟨fun f => match isPure f with | true => some (pureB fl prP Try.prog 100000 f) | false => insFn β fl f, both⟩
noncomputable def prB : Prims Bool := prAny Bool false noPr.both
set_option maxRecDepth 100000 in
theorem prB_ok : PrimsOk yes prB Try.prog := by
  refine ⟨(noPrims (P := Try.prog)).both, fun f g hg args args' h φ w κ ha hr hgood => ?_⟩
  have hfl : ¬ yes false := by simp [yes]
  simp only [prB, prAny] at hg
  split at hg
  · cases hg
    exact pureB_sound hfl mixedHere prP_ok hr ha hgood
  · exact insFn_ok hfl f g hg args args' h φ w κ ha hr hgood

set_option maxRecDepth 100000 in
theorem vaiAnswers : answersTrue prB Try.prog 100000 3 = true := by decide +kernel

theorem vaiWalk (w : World) : Calls Try.prog 3 #[] w fun e w' => e = .returned (.bool true) ∧ GrownOld w w' :=
  answersTrue_sound mixedHere prB_ok vaiAnswers
end Go.Proofs
