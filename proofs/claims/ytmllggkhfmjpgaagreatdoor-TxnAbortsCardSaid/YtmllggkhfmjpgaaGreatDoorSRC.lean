/-
  PROVED HERE: a part of the proof (SRC).
-/
import Derived.Shelf.SlMaps.Clone
import Derived.Test.YtmllggkhfmjpgaaGreatDoorProg
set_option linter.unusedVariables false
set_option linter.unusedSimpArgs false
namespace Go.Proofs
open Go.Shelf
open Tryz (prog)
def Tryz.MR:Go.Shelf.Ren:=⟨fun | 5=>92 | 7=>148 | n=>n,fun | 23=>96 | 25=>28 | 3=>2 | 4=>4 | 20=>20 | n=>n,fun | n=>n⟩
theorem Tryz.ahd:Go.Proofs.SlLaysW.n5 prog Tryz.MR:={
 mixed:=by kernel_rfl
 f5:=⟨Tryz.f92.name,by decide,Tryz.func92.trans (congrArg some (by kernel_rfl))⟩
 f7:=Tryz.func148.trans (congrArg some (by kernel_rfl))
 t4:=Tryz.underlying4
 a4:=Tryz.isAgg4
 z4:=Tryz.sizeOf4
 v4:=Tryz.zeroValue4
 t20:=Tryz.underlying20
 a20:=Tryz.isAgg20
 z20:=Tryz.sizeOf20
 v20:=Tryz.zeroValue20
 t23:=Tryz.underlying96
 a23:=Tryz.isAgg96
 z23:=Tryz.sizeOf96
 v23:=Tryz.zeroValue96 }
end Go.Proofs
