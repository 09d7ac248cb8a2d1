/-
  PROVED HERE: a part of the proof, by a calculus of weakest conditions over an abstract heap.
-/
import Derived.Test.YtlmkplcfmngigaaA2
import Derived.Test.YtlmkplcfmngigaaA3
import Derived.WalkKit
import Derived.OpenShut
set_option linter.unusedVariables false
namespace Go.Proofs.Ytlmkplcfmngigaa.safetyClashes
open Go.ChangeShapes Go.WideShapes Go.ChangeAt Go.RowKit Go.Vai Go.Clashes

theorem own : ownKnob Try.prog.godebug = none := by kernel_rfl

set_option maxRecDepth 100000 in
theorem lifted (os : Os) (started : os.Started) (H : Type) (enc : TypeId × Value → H) :
    ReturnsInHanded {} Try.checked os 3 .any (Rows.safetyClashesSpec.pre6 enc Try.prog Try.f3 Rows.safetyClashesRow.domain false) (Rows.safetyClashesSpec.post enc Try.prog Try.f3 false true false false) := by
  refine returnsInHanded_of_change (C := Try.checked) own started (by kernel_rfl) Try.func3
    (ChangeSpec.witness6 (enc := enc) (C := Try.checked) false ⟨#[], #[.slice none 0 0], []⟩ 8 (by kernel_rfl) (by kernel_rfl) (by kernel_rfl) (by kernel_rfl)) ?_
  intro W base args ds gs before hval0 hW hcnd _
  have hval : ∀ (j : Nat) t v, Try.f3.params[j]? = some t → args[j]? = some v → Value.okWide Try.prog W .any base t v := hval0
  have hW' := hW
  obtain ⟨p, q, hA0, hV, rfl, hfz, hnd⟩ := hW
  have hA : DataW.TrodAll enc Try.prog W 0 (fun _ => true) true Try.f3.params.toList args.toList ds p := hA0
  rw [Try.params3] at hA hval
  obtain ⟨v, d, rfl, rfl, h0⟩ := trodAll_one hA
  obtain ⟨rfl, rfl⟩ := trodVars_none hV
  clear hA0 hval0
  simp only [List.append_nil] at hW'
  have hlt : ∀ x ∈ p, x.block < W.heap.size := fun x hx => by simpa using hW'.lt x hx
  obtain ⟨fuel, hf⟩ := h0
  have hcs : v.cells.toList = [v] := by
    have := hval 0 22 v rfl rfl
    unfold Value.okWide at this
    rw [Try.underlying22] at this
    simp only at this
    unfold Cell.okWide Cell.ok at this
    rw [Try.underlying22] at this
    cases v <;> first | rfl | (simp at this)
  rw [hcs] at hf
  obtain ⟨L, hL⟩ := open_arg enc4_len (by decide) Try.underlying22 (by kernel_rfl) (fun n cs d => dec30 n cs d) hf
  have walk := law_slice (P := Try.prog) (f := 3) (pre := []) (post := []) rfl rfl (fun _ => rfl) hL fun h u hu hlo => clashes_law L h u hu hlo
  refine walk.mono fun e W' ⟨he, hb⟩ => ?_
  subst he
  have h0 : DataW.Trod enc Try.prog W 0 (fun _ => true) true 22 v d p := ⟨fuel, by rw [hcs]; exact hf⟩
  exact ⟨_, rfl, post_of_law (pa := p) (pv := []) hW' (fun _ _ _ => (trodAll_cons_mk (shut_bool Try.underlying4 _) trodAll_mk0))
    (fun sp hsp => trodAll_mk1 (arg_stays laidOut (by kernel_rfl) (of_decide_eq_true (by kernel_rfl)) h0 hb hlt hsp)) (fun _ _ => rfl) (by simp) hb
    (ok_one (by kernel_rfl) rfl (okWide_bool_mk Try.underlying4 _))⟩

theorem over : Rows.safetyClashesRow.holds Try.pinned (OpenSpec.ofChange Rows.safetyClashesSpec) :=
  OpenClaim.holds_of_wide 3 Try.f3 rfl rfl rfl rfl rfl rfl rfl ⟨rfl, rfl, rfl, rfl, rfl⟩ rfl rfl rfl rfl rfl (by kernel_rfl) Try.func3 (by kernel_rfl)
    (of_decide_eq_true (by kernel_rfl)) (by unfold Func.isWrapper; first | (rw [if_pos (by decide +kernel)]; kernel_rfl) | (rw [if_neg (by decide +kernel)]; exact ⟨rfl, rfl⟩))
    (fun os started H enc _ => lifted os started H enc)

theorem proved : Rows.SafetyClashesSaid :=
  over
#print axioms proved
end Go.Proofs.Ytlmkplcfmngigaa.safetyClashes
