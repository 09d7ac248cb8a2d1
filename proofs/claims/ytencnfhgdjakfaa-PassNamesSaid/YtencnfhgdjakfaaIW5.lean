/-
  PROVED HERE: a part of slices.Insert as a step of the interpreter.
-/
import Derived.Test.YtencnfhgdjakfaaIW3
import Derived.Test.YtencnfhgdjakfaaVaiI
import Derived.Test.YtencnfhgdjakfaaVaiR
set_option linter.unusedVariables false
set_option linter.unusedSimpArgs false
namespace Go.Proofs
open Go.Vai

theorem enters84 (args : Array Value) (w : World) : (callFunc 84 args).run Try.prog w = .ok (.enter 84 args) w := by
  have hb : Try.f84.body.isNone = false := by kernel_rfl
  have hn : (Try.f84.name == "runtime.NumGoroutine") = false := by kernel_rfl
  have hn' : Try.f84.name ≠ "runtime.NumGoroutine" := by simpa using hn
  simp [callFunc, Try.func84, hn', hb]
  cases h : Try.f84.body with
  | none => rw [h] at hb; cases hb
  | some c => simp

theorem insert84 {inf : TypeInfo} {z : Value} (hinf : Try.prog.info? 30 = some inf) (hz : inf.zero = some z) (hzc : z.cells.size = 4) (hby : inf.bytes ≤ 10000) (h3 : Try.prog.underlying 3 = some (.int .i64)) : InsertFn Try.prog 84 22 30 4 where
  enters := enters84
  atEnd := fun base n c VB vo m vc w r w' hm hle hr => f84_atEnd base n c VB vo m vc w r w' hm hle hr
  shift := fun B n c i VB vo m vc C VC e2 new w hne hi hm hroom hsm hC hV hcs hf hnl h1v h1c => f84_shift B n c i VB vo m vc C VC e2 new w hne hi hm hroom hsm hC hV hcs hf hnl h1v h1c
  grow := fun B n c i VB vo m vc C VC e2 new w hne hi hm hnc hroom hsm hC hV hcs hf hnl h1v h1c => f84_grow B n c i VB vo m vc C VC e2 new w hne hi hm hnc hroom hsm hC hV hcs hf hnl h1v h1c hinf hz hzc hby h3
end Go.Proofs
