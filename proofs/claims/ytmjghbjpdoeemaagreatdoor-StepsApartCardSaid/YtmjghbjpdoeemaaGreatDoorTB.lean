/-
  PROVED HERE: a part of the proof (S5, S7, S8, S9).
-/
import Derived.Test.YtmjghbjpdoeemaaGreatDoorTA
import Derived.Test.YtmjghbjpdoeemaaGreatDoorRZ
set_option linter.unusedVariables false
set_option linter.unusedSimpArgs false
set_option maxRecDepth 100000
namespace Go.Proofs
open Go.Vai Go.Clashes
theorem Wi (h:Heap) (b o:Nat):kV Tryz.prog h 100 101 (.pointer (some ⟨b,o,none⟩)) (.pointer none)=some false:=by kernel_rfl
theorem JX {β:Type} {fl:β} (cn:Bool) (b o:Nat) (h:Heap) (κ:Value→Heap→β):au fl Tryz.prog .eql 101 cn false (.pointer (some ⟨b,o,none⟩)) (.pointer none) h κ=κ (.bool false) h:=by simp only[au,Wi,bN]
theorem Wj (h:Heap) (b o:Nat):kV Tryz.prog h 100 176 (.pointer (some ⟨b,o,none⟩)) (.pointer none)=some false:=by kernel_rfl
theorem Wk (h:Heap):kV Tryz.prog h 100 176 (.pointer none) (.pointer none)=some true:=by kernel_rfl
theorem B3 {β:Type} {fl:β} (cn:Bool) (b o:Nat) (h:Heap) (κ:Value→Heap→β):au fl Tryz.prog .eql 176 cn false (.pointer (some ⟨b,o,none⟩)) (.pointer none) h κ=κ (.bool false) h:=by simp only[au,Wj,bN]
theorem B4 {β:Type} {fl:β} (cn:Bool) (h:Heap) (κ:Value→Heap→β):au fl Tryz.prog .eql 176 cn false (.pointer none) (.pointer none) h κ=κ (.bool true) h:=by simp only[au,Wk,bN]
abbrev lS (cI:List (Option (Nat × Int))):List Value:=cI.map fun o=>dy (o.map (·.1))
section
variable {h:Heap} {lb hb:Nat} {cI:List (Option (Nat × Int))}
theorem vf (gl:h.bl.get lb=some (aa [.slice (some ⟨hb,0,none⟩) cI.length cI.length] 179 false)) {i:Nat} {th:Int} (hi:i<cI.length) (ht:0≤th∧th<8) (κ:KQ) (hk:κ (.int .i64 0) h) :
  CallW Tryz.prog 100 [.pointer (some ⟨lb,0,none⟩),.int .i64 (i:Int),.int .i64 th] h κ:=by
 refine aq mixed ?_
 rw[PA]
 simp(disch:=first|omega|simp only[Wd]<;>omega|with_unfolding_all rfl)only[Wz,JX,AI,c6 (show (0:Int)≤(i:Int) by omega),aN,gl,c6 (show 0≤th by omega),aG (show ¬(cI.length:Int)≤(i:Int) by omega),aG (show ¬(8:Int)≤th by omega)]
 exact hk
theorem Dv {i:Nat} {o:Option (Nat × Int)} (hi:cI[i]? = some o):(lS cI)[i]? = some (dy (o.map (·.1))):=by rw[List.getElem?_map,hi]; rfl
theorem B5 {i:Nat} {o:Option (Nat × Int)} (hi:i<cI.length):over (lS cI) i [dy (o.map (·.1))]=lS (cI.set i o):=by
 unfold over lS
 rw[List.map_set,List.set_eq_take_append_cons_drop,if_pos (by simpa using hi)]
 simp
theorem RK (gl:h.bl.get lb=some (aa [.slice (some ⟨hb,0,none⟩) cI.length cI.length] 179 false)) (gh:h.bl.get hb=some (aa (lS cI) 176 false)) (hhb:hb<h.nx∧h.lo≤hb) (hlb:lb<h.nx) {i:Nat} {th:Int} (hi:cI[i]? = some none) (ht:0≤th∧th<8) (κ:KQ)
  (hk:κ (.tuple ⟨[.bool true,.int .i64 0]⟩) ⟨h.nx+1,(h.bl.aW h.nx (aa [.int .i64 th] 181 false)).aW hb (aa (lS (cI.set i (some (h.nx,th)))) 176 false),h.lo⟩) :
  CallW Tryz.prog 75 [.pointer (some ⟨lb,0,none⟩),.int .i64 (i:Int),.int .i64 th] h κ:=by
 have hil:=(List.getElem?_eq_some_iff.1 hi).1
 have r:=Dv hi
 have ov:=B5 (cI:=cI) (o:=some (h.nx,th)) hil
 have RL:(lS cI).length=cI.length:=List.length_map _
 refine aq mixed ?_
 rw[Uz]
 refine vf gl hil ht _ ?_
 simp only[dy,Option.map_none] at r
 simp only[dy,Option.map_some] at ov
 simp(disch:=first|omega|simp only[Wd]<;>omega|with_unfolding_all rfl)only[Wz,EK,aN,gl,aS,gh,r,Nat.mul_one,B4,EJ,ov]
 exact hk
theorem MD (gl:h.bl.get lb=some (aa [.slice (some ⟨hb,0,none⟩) cI.length cI.length] 179 false)) (gh:h.bl.get hb=some (aa (lS cI) 176 false)) (hhb:hb<h.nx∧h.lo≤hb) {i p:Nat} {th:Int} (hi:cI[i]? = some (some (p,th))) (gp:h.bl.get p=some (aa [.int .i64 th] 181 false)) (ht:0≤th∧th<8) (κ:KQ)
  (hk:κ (.int .i64 0) ⟨h.nx,h.bl.aW hb (aa (lS (cI.set i none)) 176 false),h.lo⟩) :
  CallW Tryz.prog 158 [.pointer (some ⟨lb,0,none⟩),.int .i64 (i:Int),.int .i64 th] h κ:=by
 have hil:=(List.getElem?_eq_some_iff.1 hi).1
 have r:=Dv hi
 have ov:=B5 (cI:=cI) (o:=none) hil
 have RL:(lS cI).length=cI.length:=List.length_map _
 refine aq mixed ?_
 rw[PZ]
 refine vf gl hil ht _ ?_
 simp only[dy,Option.map_some] at r
 simp only[dy,Option.map_none] at ov
 simp(disch:=first|omega|simp only[Wd]<;>omega|with_unfolding_all rfl)only[Wz,AY,aN,gl,aS,gh,r,gp,Nat.mul_one,B3,ov]
 exact hk
theorem Gp (gl:h.bl.get lb=some (aa [.slice (some ⟨hb,0,none⟩) cI.length cI.length] 179 false)) (gh:h.bl.get hb=some (aa (lS cI) 176 false)) {i:Nat} {o:Option (Nat × Int)} (hi:cI[i]? = some o) (gp:∀p,o=some p→h.bl.get p.1=some (aa [.int .i64 p.2] 181 false)) (κ:KQ)
  (hk:∀x,κ (.tuple ⟨[.int .i64 x,.bool o.isSome]⟩) h) :
  CallW Tryz.prog 62 [.pointer (some ⟨lb,0,none⟩),.int .i64 (i:Int)] h κ:=by
 have hil:=(List.getElem?_eq_some_iff.1 hi).1
 have r:=Dv hi
 have RL:(lS cI).length=cI.length:=List.length_map _
 refine aq mixed ?_
 rw[Up]
 refine vf gl hil (by omega) _ ?_
 cases o with
 | none=>
  simp only[dy,Option.map_none] at r
  simp(disch:=first|omega|simp only[Wd]<;>omega|with_unfolding_all rfl)only[Wz,aN,gl,aS,gh,r,Nat.mul_one,B4]
  exact hk 0
 | some p=>
  have gp:=gp p rfl
  simp only[dy,Option.map_some] at r
  simp(disch:=first|omega|simp only[Wd]<;>omega|with_unfolding_all rfl)only[Wz,aN,gl,aS,gh,r,Nat.mul_one,B3,EF,gp]
  exact hk p.2
end
theorem Wl (h:Heap) (b o:Nat):kV Tryz.prog h 100 102 (.pointer (some ⟨b,o,none⟩)) (.pointer none)=some false:=by kernel_rfl
theorem JY {β:Type} {fl:β} (cn:Bool) (b o:Nat) (h:Heap) (κ:Value→Heap→β):au fl Tryz.prog .eql 102 cn false (.pointer (some ⟨b,o,none⟩)) (.pointer none) h κ=κ (.bool false) h:=by simp only[au,Wl,bN]
abbrev Dw (bits:List Int):List Value:=bits.map fun n=>.int .i64 n
def ME (a b:Int):Int:=IntKind.i64.wrap (BitVec.ofInt IntKind.i64.bits a &&& BitVec.ofInt IntKind.i64.bits b).toNat
theorem Gq {β:Type} {fl:β} (P:Program) (t:TypeId) (cn gd:Bool) (a b:Int) (h:Heap) (κ:Value→Heap→β):au fl P .and t cn gd (.int .i64 a) (.int .i64 b) h κ=κ (.int .i64 (ME a b)) h:=by
 simp only[au,fO,jZ,fq,dB]; rfl
section
variable {h:Heap} {pb ib:Nat} {bits:List Int}
theorem JZ (gp:h.bl.get pb=some (aa [.slice (some ⟨ib,0,none⟩) bits.length bits.length] 193 false)) {i:Nat} (hi:i<bits.length) (κ:KQ) (hk:κ (.int .i64 0) h) :
  CallW Tryz.prog 136 [.pointer (some ⟨pb,0,none⟩),.int .i64 (i:Int)] h κ:=by
 refine aq mixed ?_
 rw[PM]
 simp(disch:=first|omega|simp only[Wd]<;>omega|with_unfolding_all rfl)only[Wz,JY,AN,c6 (show (0:Int)≤(i:Int) by omega),aN,gp,aG (show ¬(bits.length:Int)≤(i:Int) by omega)]
 exact hk
theorem RM {i:Nat} {n:Int} (hi:bits[i]? = some n):(Dw bits)[i]? = some (.int .i64 n):=by rw[List.getElem?_map,hi]; rfl
theorem Wm (gp:h.bl.get pb=some (aa [.slice (some ⟨ib,0,none⟩) bits.length bits.length] 193 false)) (gi:h.bl.get ib=some (aa (Dw bits) 3 false)) {i:Nat} {n:Int} (hi:bits[i]? = some n) (b:Int) (κ:KQ) (hk:κ (.bool (!decide (ME n b=0))) h) :
  CallW Tryz.prog 99 [.pointer (some ⟨pb,0,none⟩),.int .i64 (i:Int),.int .i64 b] h κ:=by
 have hil:=(List.getElem?_eq_some_iff.1 hi).1
 have r:=RM hi
 have RL:(Dw bits).length=bits.length:=List.length_map _
 refine aq mixed ?_
 rw[UG]
 refine JZ gp hil _ ?_
 simp(disch:=first|omega|simp only[Wd]<;>omega|with_unfolding_all rfl)only[Wz,aN,gp,aS,gi,r,Nat.mul_one,Gq]
 exact hk
theorem J1 (gp:h.bl.get pb=some (aa [.slice (some ⟨ib,0,none⟩) bits.length bits.length] 193 false)) (gi:h.bl.get ib=some (aa (Dw bits) 3 false)) {i:Nat} {n:Int} (hi:bits[i]? = some n) (κ:KQ) (hk:κ (.bool (!decide (ME n 1=0))) h) :
  CallW Tryz.prog 61 [.pointer (some ⟨pb,0,none⟩),.int .i64 (i:Int)] h κ:=by
 refine aq mixed ?_
 rw[Uo]
 exact Wm gp gi hi 1 _ hk
end
theorem fF {h:Heap} {a b:Nat} {v v':List Value} {t t':TypeId} {o o':Bool} (ha:h.bl.get a=some (aa v t o)) (hb:h.bl.get b=some (aa v' t' o')) (hn:t≠t'):a≠b:=by
 rintro rfl
 rw[ha] at hb
 exact aT hn hb
theorem gO {h:Heap} {a b:Nat} {v:List Value} {t:TypeId} {o:Bool} {es:List MapEntry} {cl:Nat} (ha:h.bl.get a=some (aa v t o)) (hb:h.bl.get b=some (.map es cl)):a≠b:=by
 rintro rfl
 rw[ha] at hb
 exact bB hb.symm
section
variable {h h':Heap} {A:WA} {tb:Nat} {cI:List (Option (Nat × Int))} {bits:List Int} {now:Int} {tv:Value} {cs:List (Option CR)} {wm:List IE} {ve:Nat} {begun:Int}
theorem RO {i:Nat} {c c':CR} (hi:cs[i]? = some (some c)) (hc:c'.ca=c.ca):((cs.set i (some c')).map fun o=>dy (o.map (·.ca)))=cs.map fun o=>dy (o.map (·.ca)):=by
 have hil:=(List.getElem?_eq_some_iff.1 hi).1
 refine List.ext_getElem? fun j=>?_
 rw[List.getElem?_map,List.getElem?_map,List.getElem?_set]
 split
 ·rename_i e; subst e
  rw[hi]
  simp[hc,hil]
 ·rfl
theorem vg {i:Nat} {c:CR} {o:Option CR} (h:some c∈cs.set i o):o=some c∨∃j,j≠i∧cs[j]? = some (some c):=by
 obtain ⟨j,hj⟩:=List.getElem?_of_mem h
 rw[List.getElem?_set] at hj
 split at hj
 ·split at hj
  ·exact .inl (Option.some.inj hj)
  ·cases hj
 ·rename_i hne; exact .inr ⟨j,fun e=>hne e.symm,hj⟩
theorem RW.apart (s:RW h A tb cI bits now tv cs wm ve begun) {i j:Nat} {c c':CR} (hi:cs[i]? = some (some c)) (hj:cs[j]? = some (some c')) (hne:i≠j):c.ca≠c'.ca:=by
 rcases Nat.lt_or_gt_of_ne hne with h1 | h1
 ·exact ee.1 s.dc i j _ _ h1 hi hj c c' rfl rfl
 ·exact fun e=>ee.1 s.dc j i _ _ h1 hj hi c' c rfl rfl e.symm
theorem RW.lJ (s:RW h A tb cI bits now tv cs wm ve begun) {i:Nat} {c c':CR} (hi:cs[i]? = some (some c)) (hc:c'.ca=c.ca):RW ⟨h.nx,h.bl.aW c.ca (cw A.wb c'),h.lo⟩ A tb cI bits now tv (cs.set i (some c')) wm ve begun:=by
 obtain ⟨k1,k2,k3⟩:=s.ca c (List.mem_of_getElem? hi)
 have up:∀{b:Nat} {v:List Value} {t:TypeId} {o:Bool},h.bl.get b=some (aa v t o)→99≠t→(h.bl.aW c.ca (cw A.wb c')).get b=some (aa v t o):=fun hb hn=>(T.ai _ _ (fF k3 hb hn)).trans hb
 refine ⟨s.zp,up s.gw (by decide),s.Mr,up s.gl (by decide),s.RJ,up s.gh (by decide),fun p hp=>⟨(s.ho p hp).1,up (s.ho p hp).2 (by decide)⟩,s.Oc,up s.gp (by decide),s.Wf,up s.gi (by decide),s.li,s.Wg,up s.gk (by decide),s.Oi,?_,?_,?_,s.rz,(T.ai _ _ (gO k3 s.gm)).trans s.gm,s.nn,?_⟩
 ·rw[RO hi hc]; exact up s.gc (by decide)
 ·rw[List.length_set]; exact s.lc
 ·intro d hd
  rcases vg hd with e | ⟨j,hne,hj⟩
  ·cases e
   rw[hc]
   exact ⟨k1,k2,T.af _ _ _⟩
  ·obtain ⟨g1,g2,g3⟩:=s.ca d (List.mem_of_getElem? hj)
   exact ⟨g1,g2,(T.ai _ _ (s.apart hi hj (fun e=>hne e.symm))).trans g3⟩
 ·refine qD s.dc (fun j q hj hq a b ha hb=>?_) (fun j q hj hq a b ha hb=>?_)
  ·subst ha; cases hb; rw[hc]; exact s.apart hq hi (by omega)
  ·subst hb; cases ha; rw[hc]; exact s.apart hi hq (by omega)
theorem RW.p9 (s:RW h A tb cI bits now tv cs wm ve begun) (i:Nat) (o:Option CR) (ho:∀c,o=some c→c.ca<h.nx∧h.lo≤c.ca∧h.bl.get c.ca=some (cw A.wb c)∧∀(j:Nat) (d:CR),j≠i→cs[j]? = some (some d)→d.ca≠c.ca) :
  RW ⟨h.nx,h.bl.aW A.cb (aa ((cs.set i o).map fun o=>dy (o.map (·.ca))) 96 false),h.lo⟩ A tb cI bits now tv (cs.set i o) wm ve begun:=by
 have k3:=s.gc
 have up:∀{b:Nat} {v:List Value} {t:TypeId} {op:Bool},h.bl.get b=some (aa v t op)→96≠t→(h.bl.aW A.cb (aa ((cs.set i o).map fun o=>dy (o.map (·.ca))) 96 false)).get b=some (aa v t op):=fun hb hn=>(T.ai _ _ (fF k3 hb hn)).trans hb
 refine ⟨s.zp,up s.gw (by decide),s.Mr,up s.gl (by decide),s.RJ,up s.gh (by decide),fun p hp=>⟨(s.ho p hp).1,up (s.ho p hp).2 (by decide)⟩,s.Oc,up s.gp (by decide),s.Wf,up s.gi (by decide),s.li,s.Wg,up s.gk (by decide),s.Oi,T.af _ _ _,?_,?_,s.rz,(T.ai _ _ (gO k3 s.gm)).trans s.gm,s.nn,?_⟩
 ·rw[List.length_set]; exact s.lc
 ·intro d hd
  rcases vg hd with e | ⟨j,hne,hj⟩
  ·obtain ⟨g1,g2,g3,_⟩:=ho d e
   exact ⟨g1,g2,up g3 (by decide)⟩
  ·obtain ⟨g1,g2,g3⟩:=s.ca d (List.mem_of_getElem? hj)
   exact ⟨g1,g2,up g3 (by decide)⟩
 ·refine qD s.dc (fun j q hj hq a b ha hb=>?_) (fun j q hj hq a b ha hb=>?_)
  ·subst ha; exact (ho b hb).2.2.2 j a (by omega) hq
  ·subst hb; exact fun e=>(ho a ha).2.2.2 j b (by omega) hq e.symm
theorem RW.zb (s:RW h A tb cI bits now tv cs wm ve begun) (vh:List (Option (Nat × Int))) (hl:vh.length=cI.length) (ho:∀p,some p∈vh→p.1<h.nx∧h.bl.get p.1=some (aa [.int .i64 p.2] 181 false)) :
  RW ⟨h.nx,h.bl.aW A.hb (aa (lS vh) 176 false),h.lo⟩ A tb vh bits now tv cs wm ve begun:=by
 have k3:=s.gh
 have up:∀{b:Nat} {v:List Value} {t:TypeId} {op:Bool},h.bl.get b=some (aa v t op)→176≠t→(h.bl.aW A.hb (aa (lS vh) 176 false)).get b=some (aa v t op):=fun hb hn=>(T.ai _ _ (fF k3 hb hn)).trans hb
 exact ⟨s.zp,up s.gw (by decide),s.Mr,by rw[hl]; exact up s.gl (by decide),s.RJ,T.af _ _ _,fun p hp=>⟨(ho p hp).1,up (ho p hp).2 (by decide)⟩,s.Oc,up s.gp (by decide),s.Wf,up s.gi (by decide),s.li,s.Wg,up s.gk (by decide),s.Oi,up s.gc (by decide),s.lc,fun c hc=>⟨(s.ca c hc).1,(s.ca c hc).2.1,up (s.ca c hc).2.2 (by decide)⟩,s.rz,(T.ai _ _ (gO k3 s.gm)).trans s.gm,s.nn,s.dc⟩
theorem RW.vj (s:RW h A tb cI bits now tv cs wm ve begun) (b':Int) :
  RW ⟨h.nx,h.bl.aW A.wb (aa [.pointer (some ⟨tb,0,none⟩),.pointer (some ⟨A.lb,0,none⟩),.pointer (some ⟨A.pb,0,none⟩),.pointer (some ⟨A.kb,0,none⟩),.slice (some ⟨A.cb,0,none⟩) A.n A.n,.map (some A.mb),.int .i64 b'] 107 false),h.lo⟩ A tb cI bits now tv cs wm ve b':=by
 have k3:=s.gw
 have up:∀(o':bC) {b:Nat} {v:List Value} {t:TypeId} {op:Bool},h.bl.get b=some (aa v t op)→107≠t→(h.bl.aW A.wb o').get b=some (aa v t op):=fun o' _ _ _ _ hb hn=>(T.ai _ _ (fF k3 hb hn)).trans hb
 exact ⟨s.zp,T.af _ _ _,s.Mr,up _ s.gl (by decide),s.RJ,up _ s.gh (by decide),fun p hp=>⟨(s.ho p hp).1,up _ (s.ho p hp).2 (by decide)⟩,s.Oc,up _ s.gp (by decide),s.Wf,up _ s.gi (by decide),s.li,s.Wg,up _ s.gk (by decide),s.Oi,up _ s.gc (by decide),s.lc,fun c hc=>⟨(s.ca c hc).1,(s.ca c hc).2.1,up _ (s.ca c hc).2.2 (by decide)⟩,s.rz,(T.ai _ _ (gO k3 s.gm)).trans s.gm,s.nn,s.dc⟩
end
structure TA where
 tb:Nat
 bw:Nat
 bp:Nat
 bl:Nat
 c:fW
 vb:Value
 aH:Nat
structure TD where
 Ts:List TB
 W:List IE
 wc:Nat
 F:List Int
 B:List Bool
structure RD where
 cI:List (Option (Nat × Int))
 bits:List Int
 now:Int
 tv:Value
 cs:List (Option CR)
 wm:List IE
 ve:Nat
 begun:Int
abbrev B6 (h:Heap) (a:TA) (N:Nat) (d:TD):Prop:=jx h a.tb a.bw a.bp a.bl a.c a.vb a.aH N d.Ts d.W d.wc d.F d.B
abbrev RWx (h:Heap) (A:WA) (tb:Nat) (R:RD):Prop:=RW h A tb R.cI R.bits R.now R.tv R.cs R.wm R.ve R.begun
structure WS (h:Heap) (A:WA) (a:TA) (N:Nat) (d:TD) (R:RD):Prop where
 t:B6 h a N d
 r:RWx h A a.tb R
 mw:A.mb≠a.bw
 mm:∀b∈d.Ts,A.mb≠b.bm
 lo:h.lo≤h.nx
section
variable {h h':Heap} {A:WA} {a:TA} {N:Nat} {d:TD} {R:RD}
theorem WS.le (s:WS h A a N d R) (l:Le h h'):WS h' A a N d R:=⟨s.t.le l,s.r.le l,s.mw,s.mm,by have:=l.nx; have:=l.lo; have:=s.lo; omega⟩
theorem WS.up (s:WS h A a N d R) {N':Nat} (hN:N≤N'):WS h A a N' d R:=⟨s.t.up hN,s.r,s.mw,s.mm,s.lo⟩
theorem WS.table (s:WS h A a N d R) {N':Nat} {d':TD} (t':B6 h' a N' d') (f:rR d.Ts a.bw a.bp a.bl h h') (hb:d'.Ts.map (·.bm)=d.Ts.map (·.bm)):WS h' A a N' d' R:=by
 refine ⟨t',s.r.Wh s.t.is f s.mw s.mm,s.mw,fun b hb'=>?_,by have:=f.nx; have:=f.lo; have:=s.lo; omega⟩
 have:b.bm∈d.Ts.map (·.bm):=by rw[←hb]; exact List.mem_map.2 ⟨b,hb',rfl⟩
 obtain ⟨b0,hb0,e⟩:=List.mem_map.1 this
 rw[←e]; exact s.mm b0 hb0
theorem B6.bU (s:B6 h a N d) {x:Nat} {v:List Value} {t:TypeId} {op:Bool} (hg:h.bl.get x=some (aa v t op)) (hn:∀ty o,oM ty o→t≠ty) (o:bC):B6 ⟨h.nx,h.bl.aW x o,h.lo⟩ a N d:=
 jx.put s o (fun vs ty o' ht e=>by rw[hg] at e; exact aT (hn ty o' ht) e) (gO hg s.is.kS) fun b hb=>gO hg (s.is.bk b hb).eG
theorem Wn {t:TypeId} (h1:t≠147) (h2:t≠182) (h3:t≠220) (h4:t≠81) (h5:t≠83) (h6:t≠225) (h7:t≠4) (h8:t≠3):∀ty o,oM ty o→t≠ty:=by
 rintro ty o (rfl | rfl | rfl | rfl | rfl | rfl | rfl | ⟨rfl,_⟩)<;>assumption
theorem WS.lJ (s:WS h A a N d R) {i:Nat} {c c':CR} (hi:R.cs[i]? = some (some c)) (hc:c'.ca=c.ca):WS ⟨h.nx,h.bl.aW c.ca (cw A.wb c'),h.lo⟩ A a N d { R with cs:=R.cs.set i (some c') }:=
 ⟨B6.bU s.t (s.r.ca c (List.mem_of_getElem? hi)).2.2 (Wn (by decide) (by decide) (by decide) (by decide) (by decide) (by decide) (by decide) (by decide)) _,s.r.lJ hi hc,s.mw,s.mm,s.lo⟩
theorem WS.p9 (s:WS h A a N d R) (i:Nat) (o:Option CR) (ho:∀c,o=some c→c.ca<h.nx∧h.lo≤c.ca∧h.bl.get c.ca=some (cw A.wb c)∧∀(j:Nat) (d:CR),j≠i→R.cs[j]? = some (some d)→d.ca≠c.ca) :
  WS ⟨h.nx,h.bl.aW A.cb (aa ((R.cs.set i o).map fun o=>dy (o.map (·.ca))) 96 false),h.lo⟩ A a N d { R with cs:=R.cs.set i o }:=
 ⟨B6.bU s.t s.r.gc (Wn (by decide) (by decide) (by decide) (by decide) (by decide) (by decide) (by decide) (by decide)) _,s.r.p9 i o ho,s.mw,s.mm,s.lo⟩
theorem WS.zb (s:WS h A a N d R) (vh:List (Option (Nat × Int))) (hl:vh.length=R.cI.length) (ho:∀p,some p∈vh→p.1<h.nx∧h.bl.get p.1=some (aa [.int .i64 p.2] 181 false)) :
  WS ⟨h.nx,h.bl.aW A.hb (aa (lS vh) 176 false),h.lo⟩ A a N d { R with cI:=vh }:=
 ⟨B6.bU s.t s.r.gh (Wn (by decide) (by decide) (by decide) (by decide) (by decide) (by decide) (by decide) (by decide)) _,s.r.zb vh hl ho,s.mw,s.mm,s.lo⟩
theorem WS.vj (s:WS h A a N d R) (b':Int) :
  WS ⟨h.nx,h.bl.aW A.wb (aa [.pointer (some ⟨a.tb,0,none⟩),.pointer (some ⟨A.lb,0,none⟩),.pointer (some ⟨A.pb,0,none⟩),.pointer (some ⟨A.kb,0,none⟩),.slice (some ⟨A.cb,0,none⟩) A.n A.n,.map (some A.mb),.int .i64 b'] 107 false),h.lo⟩ A a N d { R with begun:=b' }:=
 ⟨B6.bU s.t s.r.gw (Wn (by decide) (by decide) (by decide) (by decide) (by decide) (by decide) (by decide) (by decide)) _,s.r.vj b',s.mw,s.mm,s.lo⟩
end
theorem Wo (h:Heap) (b o:Nat):kV Tryz.prog h 100 32 (.pointer (some ⟨b,o,none⟩)) (.pointer none)=some false:=by kernel_rfl
theorem mP {β:Type} {fl:β} (cn:Bool) (b o:Nat) (h:Heap) (κ:Value→Heap→β):au fl Tryz.prog .eql 32 cn false (.pointer (some ⟨b,o,none⟩)) (.pointer none) h κ=κ (.bool false) h:=by simp only[au,Wo,bN]
theorem J2 {β:Type} {fl:β} (cn:Bool) (b o:Nat) (h:Heap) (κ:Value→Heap→β):au fl Tryz.prog .neq 32 cn false (.pointer (some ⟨b,o,none⟩)) (.pointer none) h κ=κ (.bool true) h:=by simp only[au,Wo,bN,Bool.not_false]
theorem Wp (h:Heap) (b o:Nat):kV Tryz.prog h 100 96 (.pointer (some ⟨b,o,none⟩)) (.pointer none)=some false:=by kernel_rfl
theorem Oj (h:Heap):kV Tryz.prog h 100 96 (.pointer none) (.pointer none)=some true:=by kernel_rfl
theorem MF {β:Type} {fl:β} (cn:Bool) (o:Option Nat) (h:Heap) (κ:Value→Heap→β):au fl Tryz.prog .eql 96 cn false (dy o) (.pointer none) h κ=κ (.bool o.isNone) h:=by
 cases o with
 | none=>simp only[dy,au,Oj,bN,Option.isNone]
 | some b=>simp only[dy,au,Wp,bN,Option.isNone]
theorem zc {β:Type} {fl:β} (cn:Bool) (o:Option Nat) (h:Heap) (κ:Value→Heap→β):au fl Tryz.prog .neq 96 cn false (dy o) (.pointer none) h κ=κ (.bool o.isSome) h:=by
 cases o with
 | none=>simp only[dy,au,Oj,bN,Bool.not_true]; rfl
 | some b=>simp only[dy,au,Wp,bN,Bool.not_false]; rfl
section
variable {h:Heap} {A:WA} {a:TA} {N:Nat} {d:TD} {R:RD}
theorem mQ (s:WS h A a N d R) {i:Nat} (hi:i<A.n) (κ:KQ) (hk:κ (.bool true) h):CallW Tryz.prog 41 [.pointer (some ⟨A.wb,0,none⟩),.int .i64 (i:Int)] h κ:=by
 have gw:=s.r.gw
 refine aq mixed ?_
 rw[Ui]
 simp(disch:=first|omega|simp only[Wd]<;>omega|with_unfolding_all rfl)only[Wz,J2,aZ (show (0:Int)≤(i:Int) by omega),aN,gw,fI (show (i:Int)<(A.n:Int) by omega)]
 exact hk
theorem kT (s:WS h A a N d R) {i:Nat} {o:Option CR} (hi:R.cs[i]? = some o):(R.cs.map fun o=>dy (o.map (·.ca)))[i]? = some (dy (o.map (·.ca))):=by rw[List.getElem?_map,hi]; rfl
theorem xN (s:WS h A a N d R) {i:Nat} {o:Option CR} (hi:R.cs[i]? = some o):i<A.n:=by
 have:=(List.getElem?_eq_some_iff.1 hi).1
 have:=s.r.lc
 omega
theorem Ol (s:WS h A a N d R) {i:Nat} {o:Option CR} (hi:R.cs[i]? = some o) (κ:KQ) (hk:κ (dy (o.map (·.ca))) h):CallW Tryz.prog 40 [.pointer (some ⟨A.wb,0,none⟩),.int .i64 (i:Int)] h κ:=by
 have gw:=s.r.gw
 have gc:=s.r.gc
 have hil:=xN s hi
 have r:=kT s hi
 refine aq mixed ?_
 rw[Uh]
 refine mQ s hil _ ?_
 simp(disch:=first|omega|simp only[Wd]<;>omega|with_unfolding_all rfl)only[Wz,aN,gw,aS,gc,r,Nat.mul_one]
 exact hk
def B7 (o:Option CR):Int:=match o with | none=>0 | some c=>(c.ph:Int)
theorem sx (s:WS h A a N d R) {i:Nat} {o:Option CR} (hi:R.cs[i]? = some o) (κ:KQ) (hk:κ (.int .i64 (B7 o)) h):CallW Tryz.prog 13 [.pointer (some ⟨A.wb,0,none⟩),.int .i64 (i:Int)] h κ:=by
 refine aq mixed ?_
 rw[T6]
 refine Ol s hi _ ?_
 cases o with
 | none=>
  simp(disch:=first|omega|simp only[Wd]<;>omega|with_unfolding_all rfl)only[Wz,zc,Option.map_none,Option.isSome_none]
  exact hk
 | some c=>
  have gca:=(s.r.ca c (List.mem_of_getElem? hi)).2.2
  simp(disch:=first|omega|simp only[Wd]<;>omega|with_unfolding_all rfl)only[Wz,zc,Option.map_some,Option.isSome_some]
  simp(disch:=first|omega|simp only[Wd]<;>omega|with_unfolding_all rfl)only[Wz,dy,aN,gca,cw]
  exact hk
theorem RP (a b:Int):(!decide (b<a))=decide (a≤b):=by
 by_cases h:b<a
 ·rw[aZ h,aG (show ¬a≤b by omega)]; rfl
 ·rw[aG h,aZ (show a≤b by omega)]; rfl
theorem RQ (x:cF) (h:Heap) (κ:KQ) (hlo:h.lo≤h.nx) (hk:∀h',Le h h'→κ (.bool (qQ x)) h'):CallW Tryz.prog 43 [.agg ⟨fE x⟩] h κ:=by
 refine aq mixed ?_
 rw[Uk]
 simp(disch:=first|omega|simp only[Wd]<;>omega|with_unfolding_all rfl)only[Wz,fE]
 obtain ⟨hA,aJ⟩:∃hA:Heap,hA=⟨h.nx+1,(h.bl.aW (h.nx) (aa [.int .i64 x.k,.int .i64 x.x,.int .i64 x.t,.int .i64 x.r,.int .i64 x.m,.int .i64 x.w,.int .i64 x.to] 39 false)),h.lo⟩:=⟨_,rfl⟩
 have aU:Le h hA:=by subst aJ; exact ((Le.refl h).new _)
 have g1:hA.bl.get (h.nx)=some (aa [.int .i64 x.k,.int .i64 x.x,.int .i64 x.t,.int .i64 x.r,.int .i64 x.m,.int .i64 x.w,.int .i64 x.to] 39 false):=by subst aJ; exact T.af _ _ _
 have ig:hA.nx=h.nx+1:=by subst aJ; rfl
 have ij:hA.lo=h.lo:=by subst aJ; rfl
 rw[←aJ]
 clear aJ
 have hk:=hk hA aU
 unfold qQ at hk
 refine BU x.t x.r ?_
 by_cases hl:bz x.t x.r = -1
 ·rw[if_pos hl]
  rw[aG (fun h=>h hl)] at hk
  simp(disch:=first|omega|simp only[Wd]<;>omega|with_unfolding_all rfl)only[Wz]
  exact hk
 ·rw[if_neg hl]
  rw[aZ hl,Bool.true_and] at hk
  simp(disch:=first|omega|simp only[Wd]<;>omega|with_unfolding_all rfl)only[Wz,g1]
  by_cases h1:x.k=1
  ·rw[if_pos h1] at hk
   simp(disch:=first|omega|simp only[Wd]<;>omega|with_unfolding_all rfl)only[Wz,aZ h1,EB,g1]
   refine pP x.m ?_
   cases hkn:kn x.m with
   | false=>rw[hkn] at hk; simp(disch:=first|omega|simp only[Wd]<;>omega|with_unfolding_all rfl)only[Wz]; exact hk
   | true=>
    rw[hkn,Bool.true_and] at hk
    simp(disch:=first|omega|simp only[Wd]<;>omega|with_unfolding_all rfl)only[Wz,g1]
    by_cases hm:x.m=0
    ·rw[aG (fun h=>h hm)] at hk
     simp(disch:=first|omega|simp only[Wd]<;>omega|with_unfolding_all rfl)only[Wz,aZ hm]; exact hk
    ·rw[aZ hm,Bool.true_and] at hk
     simp(disch:=first|omega|simp only[Wd]<;>omega|with_unfolding_all rfl)only[Wz,aG hm,g1,RP]
     exact hk
  ·rw[if_neg h1] at hk
   simp(disch:=first|omega|simp only[Wd]<;>omega|with_unfolding_all rfl)only[Wz,aG h1,EC,g1]
   by_cases h3:x.k=3
   ·rw[if_pos h3] at hk
    simp(disch:=first|omega|simp only[Wd]<;>omega|with_unfolding_all rfl)only[Wz,aZ h3,g1]
    simpa using hk
   ·rw[if_neg h3] at hk
    simp(disch:=first|omega|simp only[Wd]<;>omega|with_unfolding_all rfl)only[Wz,aG h3,g1]
    exact hk
end
end Go.Proofs
