/-
  PROVED HERE: a part of a calculus of weakest conditions over an abstract heap.
  A closed call of scalars that the kernel runs: what it answers; what lay before lies as it lay.
-/
import Derived.Test.YtlmkplcfmngigaaVaiS18
import Derived.Below
set_option linter.unusedVariables false
set_option linter.unusedSimpArgs false
namespace Go.Vai
open Go Go.RowKit
variable {P : Program}

theorem VR.scal {φ : Emb} {v : Value} (hv : scal1 v = true) : VR φ v v := by
  cases v <;> first | exact VR.bool _ | exact VR.int _ _ | exact VR.string _ | cases hv
theorem VR.of_scal {φ : Emb} {v v' : Value} (hv : scal1 v = true) (h : VR φ v v') : v' = v := by
  cases h <;> first | rfl | cases hv
theorem F2.scal {φ : Emb} : ∀ {l : List Value}, l.all scal1 = true → F2 (VR φ) l l := by
  intro l
  induction l with
  | nil => intro _; exact .nil
  | cons v l ih =>
    intro h
    simp only [List.all_cons, Bool.and_eq_true] at h
    exact .cons (VR.scal h.1) (ih h.2)

noncomputable def answersB (pr : Prims Bool) (P : Program) (n : Nat) (f : FuncId) (args : List Value) (v : Value) : Bool :=
  args.all scal1 && scal1 v && callF false pr P (run false pr P n) f args ⟨0, .nil, 0⟩ fun v' _ => veq 8 v' v

theorem closedCall (hm : P.follows .mixedOrders = true) {n : Nat} {f : FuncId} {args : List Value} {v : Value} (h : answersB noPr P n f args v = true) (w : World) :
    Calls P f args.toArray w fun e w' => e = .returned v ∧ Below w.heap.size w w' := by
  have hfl : ¬ yes false := by simp [yes]
  simp only [answersB, Bool.and_eq_true] at h
  obtain ⟨⟨ha, hv⟩, h⟩ := h
  have hc := callF_sound (good := yes) (w := w) hfl (noPrims (P := P)) (run_sound (good := yes) hfl noPrims (draw_sound hfl noPrims hm) n).1 (F2.scal ha) (HR.start w) h
  refine Calls.mono hc.2 ?_
  rintro e w' ⟨φ', v1, v', h', rfl, g1, g2, g3, g4⟩
  have e1 := veq_eq 8 _ _ g1
  subst e1
  refine ⟨by rw [VR.of_scal hv g2], ⟨g4.os, g4.tape, g4.output, g4.size, fun k hk => g4.frC k hk fun b pl e => by cases e⟩⟩
end Go.Vai
