/-
  PROVED HERE: a part of slices.Insert as a step of the interpreter.
-/
import Derived.Test.YtoofpgianedgnaaGreatIW3
import Derived.Test.YtoofpgianedgnaaGreatVaiI
import Derived.Test.YtoofpgianedgnaaGreatVaiR
set_option linter.unusedVariables false
set_option linter.unusedSimpArgs false
namespace Go.Proofs
open Go.Vai

theorem enters306 (args : Array Value) (w : World) : (callFunc 306 args).run Tryz.prog w = .ok (.enter 306 args) w := by
  have hb : Tryz.f306.body.isNone = false := by kernel_rfl
  have hn : (Tryz.f306.name == "runtime.NumGoroutine") = false := by kernel_rfl
  have hn' : Tryz.f306.name ≠ "runtime.NumGoroutine" := by simpa using hn
  simp [callFunc, Tryz.func306, hn', hb]
  cases h : Tryz.f306.body with
  | none => rw [h] at hb; cases hb
  | some c => simp

theorem insert306 {inf : TypeInfo} {z : Value} (hinf : Tryz.prog.info? 197 = some inf) (hz : inf.zero = some z) (hzc : z.cells.size = 4) (hby : inf.bytes ≤ 10000) (h3 : Tryz.prog.underlying 3 = some (.int .i64)) : InsertFn Tryz.prog 306 51 197 4 where
  enters := enters306
  atEnd := fun base n c VB vo m vc w r w' hm hle hr => f306_atEnd base n c VB vo m vc w r w' hm hle hr
  shift := fun B n c i VB vo m vc C VC e2 new w hne hi hm hroom hsm hC hV hcs hf hnl h1v h1c => f306_shift B n c i VB vo m vc C VC e2 new w hne hi hm hroom hsm hC hV hcs hf hnl h1v h1c
  grow := fun B n c i VB vo m vc C VC e2 new w hne hi hm hnc hroom hsm hC hV hcs hf hnl h1v h1c => f306_grow B n c i VB vo m vc C VC e2 new w hne hi hm hnc hroom hsm hC hV hcs hf hnl h1v h1c hinf hz hzc hby h3
end Go.Proofs
