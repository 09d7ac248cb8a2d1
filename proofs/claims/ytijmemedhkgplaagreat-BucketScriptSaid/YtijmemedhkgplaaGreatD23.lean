/-
  PROVED HERE: a part of the proof, by a calculus of weakest conditions over an abstract heap (D23).
-/
import Derived.Test.YtijmemedhkgplaaGreatA15
import Derived.Carry
import Derived.WalkKit
import Derived.OpenShut
set_option linter.unusedVariables false
set_option linter.unusedSimpArgs false
namespace Go.Proofs.YtijmemedhkgplaaGreat.bucketScript
open Go.ChangeShapes Go.WideShapes Go.ChangeAt Go.RowKit Go.Vai Go.Clashes
set_option maxRecDepth 100000 in
theorem lifted (os : Os) (started : os.Started) (H : Type) (enc : TypeId × Value → H) :
    ReturnsInHanded {} Tryz.checked os 3 .any (Rows.bucketScriptSpec.pre6 enc Tryz.prog Tryz.f3 Rows.bucketScriptRow.domain false) (Rows.bucketScriptSpec.post enc Tryz.prog Tryz.f3 false true false false) := by
  refine returnsInHanded_of_change (C := Tryz.checked) own0 started (by kernel_rfl) Tryz.func3
    (ChangeSpec.witness6 (enc := enc) (C := Tryz.checked) false ⟨#[], #[.int .i64 0, .int .i64 0, .slice none 0 0], []⟩ 8 (by kernel_rfl) (by kernel_rfl) (by kernel_rfl) (by kernel_rfl)) ?_
  intro W base args ds gs before hval0 hW hcnd _
  have hval : ∀ (j : Nat) t v, Tryz.f3.params[j]? = some t → args[j]? = some v → Value.okWide Tryz.prog W .any base t v := hval0
  have hW' := hW
  obtain ⟨p, q, hA0, hV, rfl, hfz, hnd⟩ := hW
  have hA : DataW.TrodAll enc Tryz.prog W 0 (fun _ => true) true Tryz.f3.params.toList args.toList ds p := hA0
  rw [Tryz.params3] at hA hval
  obtain ⟨v0, v1, v2, d0, d1, d2, p0, p1, p2, rfl, rfl, rfl, h0, h1, h2⟩ := trodAll_three hA
  obtain ⟨rfl, rfl⟩ := trodVars_none hV
  clear hA0 hval0
  simp only [List.append_nil, List.append_assoc] at hW'
  have hlt : ∀ x ∈ p0 ++ (p1 ++ p2), x.block < W.heap.size := fun x hx => by simpa using hW'.lt x hx
  have h0' := h0
  obtain ⟨a0, e0, _⟩ := open_int Tryz.underlying3 (hval 0 3 v0 rfl rfl) h0'
  have h1' := h1
  obtain ⟨a1, e1, _⟩ := open_int Tryz.underlying3 (hval 1 3 v1 rfl rfl) h1'
  obtain ⟨L2, g2⟩ := open_sliceArg encA_len (by decide) Tryz.underlying22 (by kernel_rfl) (fun n cs d => decAct n cs d) (hval 2 22 v2 rfl rfl) h2
  subst e0
  subst e1
  have hgood : ∀ v ∈ [.int .i64 a0, .int .i64 a1, v2], goodA W v := by
    intro v hv
    simp only [List.mem_cons, List.not_mem_nil, or_false] at hv
    rcases hv with rfl | rfl | rfl
    · exact goodA_int
    · exact goodA_int
    · exact g2.goodA
  have walk := law_mem (P := Tryz.prog) (f := 3) (args := [.int .i64 a0, .int .i64 a1, v2]) (w := W) hgood fun hlo => lawScript_row a0 a1 L2 (memH W) (absA v2) (g2.read (fun _ => rfl)) (g2.cut (fun _ => rfl)) hlo (memNo W)
  refine walk.mono fun e W' ⟨he, hb⟩ => ?_
  subst he
  exact ⟨_, rfl, post_of_law (pa := p0 ++ (p1 ++ p2)) (pv := []) hW' (fun _ _ _ => (trodAll_cons_mk (shut_bool Tryz.underlying4 _) trodAll_mk0))
    (fun sp hsp => trodAll_mk3
      (arg_stays laidOut (by kernel_rfl) (of_decide_eq_true (by kernel_rfl)) h0 hb (fun x hx => hlt x (List.mem_append_left _ hx)) (fun x hx => hsp x (List.mem_append_left _ hx)))
      (arg_stays laidOut (by kernel_rfl) (of_decide_eq_true (by kernel_rfl)) h1 hb (fun x hx => hlt x (List.mem_append_right _ (List.mem_append_left _ hx))) (fun x hx => hsp x (List.mem_append_right _ (List.mem_append_left _ hx))))
      (arg_stays laidOut (by kernel_rfl) (of_decide_eq_true (by kernel_rfl)) h2 hb (fun x hx => hlt x (List.mem_append_right _ (List.mem_append_right _ hx))) (fun x hx => hsp x (List.mem_append_right _ (List.mem_append_right _ hx))))) (fun _ _ => rfl) (by simp) hb
    (ok_one (by kernel_rfl) rfl (okWide_bool_mk Tryz.underlying4 _))⟩
theorem over : Rows.bucketScriptRow.holds Tryz.pinned (OpenSpec.ofChange Rows.bucketScriptSpec) :=
  OpenClaim.holds_of_wide 3 Tryz.f3 rfl rfl rfl rfl rfl rfl rfl ⟨rfl, rfl, rfl, rfl, rfl⟩ rfl rfl rfl rfl rfl (by kernel_rfl) Tryz.func3 (by kernel_rfl)
    (of_decide_eq_true (by kernel_rfl)) (by unfold Func.isWrapper; first | (rw [if_pos (by decide +kernel)]; kernel_rfl) | (rw [if_neg (by decide +kernel)]; exact ⟨rfl, rfl⟩))
    (fun os started H enc _ => lifted os started H enc)
theorem proved : Rows.BucketScriptSaid :=
  over
#print axioms proved
end Go.Proofs.YtijmemedhkgplaaGreat.bucketScript
