/-
  PROVED HERE: a part of a calculus of weakest conditions over an abstract heap.
  PROVED HERE: a part of slices.Insert as a step of the interpreter.
-/
import Derived.Test.YtlmkplcfmngigaaIW3
import Derived.Test.YtlmkplcfmngigaaVaiI
import Derived.Test.YtlmkplcfmngigaaVaiR
set_option linter.unusedVariables false
set_option linter.unusedSimpArgs false
namespace Go.Proofs
open Go.Vai

theorem enters85 (args : Array Value) (w : World) : (callFunc 85 args).run Try.prog w = .ok (.enter 85 args) w := by
  have hb : Try.f85.body.isNone = false := by kernel_rfl
  have hn : (Try.f85.name == "runtime.NumGoroutine") = false := by kernel_rfl
  have hn' : Try.f85.name ≠ "runtime.NumGoroutine" := by simpa using hn
  simp [callFunc, Try.func85, hn', hb]
  cases h : Try.f85.body with
  | none => rw [h] at hb; cases hb
  | some c => simp

theorem insert85 {inf : TypeInfo} {z : Value} (hinf : Try.prog.info? 30 = some inf) (hz : inf.zero = some z) (hzc : z.cells.size = 4) (hby : inf.bytes ≤ 10000) (h3 : Try.prog.underlying 3 = some (.int .i64)) : InsertFn Try.prog 85 22 30 4 where
  enters := enters85
  atEnd := fun base n c VB vo m vc w r w' hm hle hr => f85_atEnd base n c VB vo m vc w r w' hm hle hr
  shift := fun B n c i VB vo m vc C VC e2 new w hne hi hm hroom hsm hC hV hcs hf hnl h1v h1c => f85_shift B n c i VB vo m vc C VC e2 new w hne hi hm hroom hsm hC hV hcs hf hnl h1v h1c
  grow := fun B n c i VB vo m vc C VC e2 new w hne hi hm hnc hroom hsm hC hV hcs hf hnl h1v h1c => f85_grow B n c i VB vo m vc C VC e2 new w hne hi hm hnc hroom hsm hC hV hcs hf hnl h1v h1c hinf hz hzc hby h3
end Go.Proofs
