/-
  PROVED HERE: a part of the proof (MachineAlone).
-/
import Derived.Test.YtfkonofjdimjbaaGreatDoorMachineAloneOver
set_option linter.unusedVariables false
set_option linter.unusedSimpArgs false
set_option maxHeartbeats 40000000
namespace Go.Proofs.YtfkonofjdimjbaaGreatDoor.machineAlone
open Go Go.ChangeShapes Go.WideShapes Go.ChangeAt Go.RowKit
theorem goesBy_none {P : Program} {c : OpenClaim} (hs : c.start = .entering) (h : P.funcs.any Func.goes = false) : false = c.goesBy P := by
  have h1 : ∀ g : Nat, (P.funcs[g]?).any Func.goes = false := by
    intro g
    cases hq : P.funcs[g]? with
    | none => rfl
    | some fn =>
      obtain ⟨hlt, he⟩ := Array.getElem?_eq_some_iff.1 hq
      cases hb : fn.goes with
      | false => simpa using hb
      | true =>
        have : P.funcs.any Func.goes = true := Array.any_eq_true.2 ⟨g, hlt, by rw [he]; exact hb⟩
        rw [h] at this; cases this
  have h2 : ∀ f, P.goes f = false := by
    intro f
    unfold Program.goes
    rw [h]
    simp [h1]
  unfold OpenClaim.goesBy Program.goesAt Program.goesFrom
  rw [hs]
  cases P.funcNamed c.func <;> simp [h2]
theorem noStand : (Tryz.f3.params.toList.all fun t => !Tryz.prog.wantsStandIn t) = true := by kernel_rfl
theorem proved : Rows.MachineAloneCardSaid :=
  Claim7.holds_tied_plain_at .later [] [.data, .data, .data] true (true, "25896f172d8dce087ca5b10f4f7fa18059a98e557837abadc2257bbebf0ff989") true
    over (fun _ h => by cases h) (by as_aux_lemma => kernel_rfl) (fun _ h => by cases h) machineAlone_row_tie rfl ⟨rfl, rfl⟩ (by as_aux_lemma => kernel_rfl) rfl
    (fun f fn hf hfn => by
      obtain rfl : f = 3 := Option.some.inj ((show Tryz.prog.funcNamed "latchstring/latchstringlaw20.MachineAlone" = some 3 by as_aux_lemma => kernel_rfl).symm.trans hf) |>.symm
      obtain rfl : fn = Tryz.f3 := (Option.some.inj (Tryz.func3.symm.trans hfn)).symm
      exact ⟨by as_aux_lemma => kernel_rfl, fun j t ht => by
        have := List.all_eq_true.1 noStand t (List.mem_of_getElem? (i := j) (by rw [Array.getElem?_toList]; exact ht))
        exact (show Tryz.prog.wantsStandIn t = false by simpa using this)⟩)
    (goesBy_none rfl (by as_aux_lemma => kernel_rfl))
#print axioms proved
end Go.Proofs.YtfkonofjdimjbaaGreatDoor.machineAlone
