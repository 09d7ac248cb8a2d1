/-
  PROVED HERE: the tied card of FairNames: the row with what it lists tied to the program's text. The law takes no arguments and reads none of the listed variables: the kernel runs it with the interpreter.
-/
import Derived.Test.YtmfinibgeafebaaGreatDoorFairNamesOver
set_option linter.unusedVariables false
set_option maxHeartbeats 40000000
namespace Go.Proofs.YtmfinibgeafebaaGreatDoor.fairNames
open Go Go.ChangeShapes Go.WideShapes Go.ChangeAt Go.RowKit

theorem goesBy_none {P : Program} {c : OpenClaim} (hs : c.start = .entering) (h : P.funcs.any Func.goes = false) : false = c.goesBy P := by
  have h1 : ∀ g : Nat, (P.funcs[g]?).any Func.goes = false := by
    intro g
    cases hq : P.funcs[g]? with
    | none => rfl
    | some fn =>
      obtain ⟨hlt, he⟩ := Array.getElem?_eq_some_iff.1 hq
      cases hb : fn.goes with
      | false => simpa using hb
      | true =>
        have : P.funcs.any Func.goes = true := Array.any_eq_true.2 ⟨g, hlt, by rw [he]; exact hb⟩
        rw [h] at this; cases this
  have h2 : ∀ f, P.goes f = false := by
    intro f
    unfold Program.goes
    rw [h]
    simp [h1]
  unfold OpenClaim.goesBy Program.goesAt Program.goesFrom
  rw [hs]
  cases P.funcNamed c.func <;> simp [h2]

/-- ████ THE STATEMENT ████ -/
theorem proved : Rows.FairNamesCardSaid :=
  Claim7.holds_tied_plain_at .later [] [.data, .data, .data] true (true, "b9c82404a3717a85e20db9762150afc37a767e0ae96fc7c4a2f220215ceda2ca") true
    over (fun _ h => by cases h) (by as_aux_lemma => kernel_rfl) (fun _ h => by cases h) fairNames_row_tie rfl ⟨rfl, rfl⟩ (by as_aux_lemma => kernel_rfl) rfl
    (fun f fn hf hfn => by
      obtain rfl : f = 3 := Option.some.inj ((show Tryz.prog.funcNamed "latchstring/latchstringlaw28.FairNames" = some 3 by as_aux_lemma => kernel_rfl).symm.trans hf) |>.symm
      obtain rfl : fn = Tryz.f3 := (Option.some.inj (Tryz.func3.symm.trans hfn)).symm
      exact ⟨by as_aux_lemma => kernel_rfl, fun j t ht => by
        rw [Tryz.params3] at ht
        simp at ht⟩)
    (goesBy_none rfl (by as_aux_lemma => kernel_rfl))
#print axioms proved
end Go.Proofs.YtmfinibgeafebaaGreatDoor.fairNames
