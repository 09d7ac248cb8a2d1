/-
  PROVED HERE: a part of slices.Insert as a step of the interpreter.
-/
import Derived.Test.YtfkkhpolmgncnacIW3
import Derived.Test.YtfkkhpolmgncnacVaiI
import Derived.Test.YtfkkhpolmgncnacVaiR
set_option linter.unusedVariables false
set_option linter.unusedSimpArgs false
namespace Go.Proofs
open Go.Vai

theorem enters61 (args : Array Value) (w : World) : (callFunc 61 args).run Try.prog w = .ok (.enter 61 args) w := by
  have hb : Try.f61.body.isNone = false := by kernel_rfl
  have hn : (Try.f61.name == "runtime.NumGoroutine") = false := by kernel_rfl
  have hn' : Try.f61.name ≠ "runtime.NumGoroutine" := by simpa using hn
  simp [callFunc, Try.func61, hn', hb]
  cases h : Try.f61.body with
  | none => rw [h] at hb; cases hb
  | some c => simp

theorem insert61 {inf : TypeInfo} {z : Value} (hinf : Try.prog.info? 3 = some inf) (hz : inf.zero = some z) (hzc : z.cells.size = 1) (hby : inf.bytes ≤ 10000) (h3 : Try.prog.underlying 3 = some (.int .i64)) : InsertFn Try.prog 61 34 3 1 where
  enters := enters61
  atEnd := fun base n c VB vo m vc w r w' hm hle hr => f61_atEnd base n c VB vo m vc w r w' hm hle hr
  shift := fun B n c i VB vo m vc C VC e2 new w hne hi hm hroom hsm hC hV hcs hf hnl h1v h1c => by
    simp only [Nat.mul_one] at hcs hnl h1c ⊢
    exact f61_shift B n c i VB vo m vc C VC e2 new w hne hi hm hroom hsm hC hV hcs hf hnl h1v h1c
  grow := fun B n c i VB vo m vc C VC e2 new w hne hi hm hnc hroom hsm hC hV hcs hf hnl h1v h1c => by
    simp only [Nat.mul_one] at hcs hnl h1c ⊢
    exact f61_grow B n c i VB vo m vc C VC e2 new w hne hi hm hnc hroom hsm hC hV hcs hf hnl h1v h1c hinf hz hzc hby h3
end Go.Proofs
