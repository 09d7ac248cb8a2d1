/-
  PROVED HERE: a part of an interpreter for the model's code, and that it is sound.
  The interpreter is sound, the end: a closed call that answers true does so in the model.
-/
import Derived.Test.YtfkkhpolmgncnacVaiS17
import Derived.RowKit3
set_option linter.unusedVariables false
set_option linter.unusedSimpArgs false
namespace Go.Vai
open Go
variable {pr : Prims Bool} {P : Program} {w : World}

theorem HR.start (w : World) : HR P (fun _ => none) ⟨0, .nil, 0⟩ w :=
  ⟨fun _ _ _ _ e => (by cases e), fun _ _ e => (by cases e), fun b o _ e => (by rw [T.get_nil] at e; cases e), by decide, fun _ _ _ _ _ _ _ _ _ _ e => (by cases e), Nat.le_refl _⟩

theorem grown_of_ext {φ' : Emb} {h' : Heap} {w' : World} (hx : Ext (fun _ => none) φ' ⟨0, .nil, 0⟩ h' w w') : RowKit.Grown w w' := by
  have hfr : ∀ B, B < w.heap.size → w'.heap[B]? = w.heap[B]? := fun B hB => hx.frC B hB fun b pl e => by cases e
  refine ⟨⟨hx.os, hx.output, fun i hi => ?_⟩, fun a => ?_, hx.size⟩
  · rw [hfr i hi]
    cases w.heap[i]? with
    | none => rfl
    | some O => cases O <;> first | exact ⟨rfl, rfl, rfl, fun _ _ => rfl⟩ | exact .inr ⟨rfl, rfl⟩ | rfl
  · by_cases ha : a.block < w.heap.size
    · simp only [World.frozen?, hfr a.block ha]
    · have h0 : w.heap[a.block]? = none := by simp; omega
      have h1 := hx.fz a.block (by rw [h0]; trivial)
      simp only [World.frozen?, h0]
      cases hO : w'.heap[a.block]? with
      | none => rfl
      | some O =>
        rw [hO] at h1
        cases O <;> try rfl
        rename_i C e f
        have hf : f = (0, 0) := h1
        subst hf
        simp

theorem of_true {v : Value} (h : (match v with | .bool true => true | _ => false) = true) : v = .bool true := by
  split at h
  · rfl
  · cases h

def yes (b : Bool) : Prop := b = true

theorem answersTrue_sound (hm : P.follows .mixedOrders = true) (hp : PrimsOk yes pr P) {n : Nat} {f : FuncId} (h : answersTrue pr P n f = true) :
    Calls P f #[] w fun e w' => e = .returned (.bool true) ∧ RowKit.Grown w w' := by
  have hfl : ¬ yes false := by simp [yes]
  have hrun := (run_sound (good := yes) hfl hp (draw_sound hfl hp hm) n).1
  have hc := callF_sound (good := yes) (w := w) hfl hp hrun (args := []) (args' := []) .nil (HR.start w) h
  refine Calls.mono hc.2 ?_
  rintro e w' ⟨φ', v, v', h', rfl, g1, g2, g3, g4⟩
  refine ⟨?_, grown_of_ext g4⟩
  have hv := of_true (v := v) g1
  subst hv
  cases g2
  rfl

/-- no function is given: all are run -/
def noPr : Prims Bool := ⟨fun _ => none, fun a b => match a with | true => b | false => false⟩
theorem noPrims : PrimsOk yes noPr P := ⟨fun x y hxy => by cases x <;> simp [noPr, yes] at hxy ⊢; exact hxy, fun f g hg => by cases hg⟩

end Go.Vai
