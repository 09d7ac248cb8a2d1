/-
  PROVED HERE: a part of slices.Insert as a step of the interpreter.
-/
import Derived.Test.YtfkkhpolmgncnaaIW3
import Derived.Test.YtfkkhpolmgncnaaVaiI
import Derived.Test.YtfkkhpolmgncnaaVaiR
set_option linter.unusedVariables false
set_option linter.unusedSimpArgs false
namespace Go.Proofs
open Go.Vai

theorem enters22 (args : Array Value) (w : World) : (callFunc 22 args).run Try.prog w = .ok (.enter 22 args) w := by
  have hb : Try.f22.body.isNone = false := by kernel_rfl
  have hn : (Try.f22.name == "runtime.NumGoroutine") = false := by kernel_rfl
  have hn' : Try.f22.name ≠ "runtime.NumGoroutine" := by simpa using hn
  simp [callFunc, Try.func22, hn', hb]
  cases h : Try.f22.body with
  | none => rw [h] at hb; cases hb
  | some c => simp

theorem insert22 {inf : TypeInfo} {z : Value} (hinf : Try.prog.info? 32 = some inf) (hz : inf.zero = some z) (hzc : z.cells.size = 4) (hby : inf.bytes ≤ 10000) (h3 : Try.prog.underlying 3 = some (.int .i64)) : InsertFn Try.prog 22 28 32 4 where
  enters := enters22
  atEnd := fun base n c VB vo m vc w r w' hm hle hr => f22_atEnd base n c VB vo m vc w r w' hm hle hr
  shift := fun B n c i VB vo m vc C VC e2 new w hne hi hm hroom hsm hC hV hcs hf hnl h1v h1c => f22_shift B n c i VB vo m vc C VC e2 new w hne hi hm hroom hsm hC hV hcs hf hnl h1v h1c
  grow := fun B n c i VB vo m vc C VC e2 new w hne hi hm hnc hroom hsm hC hV hcs hf hnl h1v h1c => f22_grow B n c i VB vo m vc C VC e2 new w hne hi hm hnc hroom hsm hC hV hcs hf hnl h1v h1c hinf hz hzc hby h3
end Go.Proofs
