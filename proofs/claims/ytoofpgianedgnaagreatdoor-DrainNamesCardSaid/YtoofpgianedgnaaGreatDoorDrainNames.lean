/-
  PROVED HERE: the tied card of DrainNames: the row with what it lists tied to the program's text. The law takes no arguments and reads none of the listed variables: the kernel runs it with the interpreter.
-/
import Derived.Test.YtoofpgianedgnaaGreatDoorDrainNamesOver
set_option linter.unusedVariables false
set_option maxHeartbeats 40000000
namespace Go.Proofs.YtoofpgianedgnaaGreatDoor.drainNames
open Go Go.ChangeShapes Go.WideShapes Go.ChangeAt Go.RowKit

theorem goesBy_none {P : Program} {c : OpenClaim} (hs : c.start = .entering) (h : P.funcs.any Func.goes = false) : false = c.goesBy P := by
  have h1 : ∀ g : Nat, (P.funcs[g]?).any Func.goes = false := by
    intro g
    cases hq : P.funcs[g]? with
    | none => rfl
    | some fn =>
      obtain ⟨hlt, he⟩ := Array.getElem?_eq_some_iff.1 hq
      cases hb : fn.goes with
      | false => simpa using hb
      | true =>
        have : P.funcs.any Func.goes = true := Array.any_eq_true.2 ⟨g, hlt, by rw [he]; exact hb⟩
        rw [h] at this; cases this
  have h2 : ∀ f, P.goes f = false := by
    intro f
    unfold Program.goes
    rw [h]
    simp [h1]
  unfold OpenClaim.goesBy Program.goesAt Program.goesFrom
  rw [hs]
  cases P.funcNamed c.func <;> simp [h2]

/-- ████ THE STATEMENT ████ -/
theorem proved : Rows.DrainNamesCardSaid :=
  Claim7.holds_tied_plain_at .later [] [.data, .data, .data] true (true, "301148270fb6d3a85099d9bd01986a6f818e690195206b69d6d263018912c72f") true
    over (fun _ h => by cases h) (by as_aux_lemma => kernel_rfl) (fun _ h => by cases h) drainNames_row_tie rfl ⟨rfl, rfl⟩ (by as_aux_lemma => kernel_rfl) rfl
    (fun f fn hf hfn => by
      obtain rfl : f = 4 := Option.some.inj ((show Tryz.prog.funcNamed "latchstring/latchstringlaw29.DrainNames" = some 4 by as_aux_lemma => kernel_rfl).symm.trans hf) |>.symm
      obtain rfl : fn = Tryz.f4 := (Option.some.inj (Tryz.func4.symm.trans hfn)).symm
      exact ⟨by as_aux_lemma => kernel_rfl, fun j t ht => by
        rw [Tryz.params4] at ht
        simp at ht⟩)
    (goesBy_none rfl (by as_aux_lemma => kernel_rfl))
#print axioms proved
end Go.Proofs.YtoofpgianedgnaaGreatDoor.drainNames
