/-
  PROVED HERE: a part of the proof (A18).
-/
import Derived.Test.YtmjghbjpdoeemaaGreatDoorTH
import Derived.Test.YtmjghbjpdoeemaaGreatDoorV3
import Derived.Test.YtmjghbjpdoeemaaGreatDoorRows
set_option linter.unusedVariables false
set_option linter.unusedSimpArgs false
set_option maxRecDepth 100000
namespace Go.Proofs
open Go.Vai Go.Clashes Go.ChangeShapes Go.WideShapes
theorem laidOut:laidOutB Tryz.prog=true:=by kernel_rfl
theorem decK {H:Type} {enc:TypeId × Value→H} {w:World} (n:Nat) (cs:List Value) (d:DataW H × List MemPlace) (hl:cs.length=7) (h:DataW.trod enc Tryz.prog w 0 (fun _=>true) true n 39 cs=some d):∃p:cF,cs=fE p:=by
 have k0:=AB (P:=Tryz.prog) 10 39 [.i .i64,.i .i64,.i .i64,.i .i64,.i .i64,.i .i64,.i .i64] (by kernel_rfl) _ _ _ h
 clear h
 obtain ⟨_,_,rfl,⟨n0,rfl,_⟩,k1⟩:=k0.mE
 obtain ⟨_,_,rfl,⟨n1,rfl,_⟩,k2⟩:=k1.mE
 obtain ⟨_,_,rfl,⟨n2,rfl,_⟩,k3⟩:=k2.mE
 obtain ⟨_,_,rfl,⟨n3,rfl,_⟩,k4⟩:=k3.mE
 obtain ⟨_,_,rfl,⟨n4,rfl,_⟩,k5⟩:=k4.mE
 obtain ⟨_,_,rfl,⟨n5,rfl,_⟩,k6⟩:=k5.mE
 obtain ⟨_,_,rfl,⟨n6,rfl,_⟩,k7⟩:=k6.mE
 cases k7.NI
 exact ⟨⟨_,_,_,_,_,_,_⟩,rfl⟩
theorem decI {H:Type} {enc:TypeId × Value→H} {w:World} (n:Nat) (cs:List Value) (d:DataW H × List MemPlace) (hl:cs.length=1) (h:DataW.trod enc Tryz.prog w 0 (fun _=>true) true n 3 cs=some d):∃p:Int,cs=bQ p:=by
 have k0:=AB (P:=Tryz.prog) 10 3 [.i .i64] (by kernel_rfl) _ _ _ h
 clear h
 obtain ⟨_,_,rfl,⟨n0,rfl,_⟩,k1⟩:=k0.mE
 cases k1.NI
 exact ⟨_,rfl⟩
theorem memRo (w:World):jB (memH w):=by
 intro d
 refine ⟨fun vs t o e=>?_,fun es c e=>?_⟩
 ·obtain ⟨C,e',fz,_,h⟩:=nr e
  cases h
 ·obtain ⟨C,e',fz,_,h⟩:=nr e
  cases h
theorem lawApart_row (La Lb:List cF) (Tn:List Int) (h:Heap) (va vb vt:Value) (rH:Sl fE h va La) (ca:Cut 39 7 h va La.length) (Cl:Sl fE h vb Lb) (cb:Cut 39 7 h vb Lb.length) (R8:Sl bQ h vt Tn) (ct:Cut 3 1 h vt Tn.length) (hlo:h.lo≤h.nx) (ro:jB h) :
  CallW Tryz.prog 3 [va,vb,vt] h yy:=DF La Lb Tn h va vb vt rH Cl R8 hlo ro yy fun _=>rfl
end Go.Proofs
