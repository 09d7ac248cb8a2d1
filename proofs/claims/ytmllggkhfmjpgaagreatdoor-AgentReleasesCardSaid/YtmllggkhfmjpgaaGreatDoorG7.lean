/-
  PROVED HERE: a part of the proof (S4, S5, S7, S8, S9, S10, S11, S12, S13, N4, U14, U15, U16, U18, N5, N6, S14, S15, S16, S17, S18, S19, S20, S21, S22, S23, S24, S25, S26, AA1, IX, IW2, IW3, VaiI, IW5).
-/
import Derived.Test.YtmllggkhfmjpgaaGreatDoorG6
import Derived.Test.YtmllggkhfmjpgaaGreatDoorRZ
import Derived.Test.YtmllggkhfmjpgaaGreatDoorG3
import Derived.Test.YtmllggkhfmjpgaaGreatDoorG2
import Derived.Test.YtmllggkhfmjpgaaGreatDoorG4
import Derived.Shelf.RegionOpenPlain
import Derived.Shelf.Spec.SlicesInsert
import Derived.WalkKit
import Derived.Lib.Walk
import Derived.Lib.AppendZeros
import Derived.Laws.Externs
import Derived.Lib.Overlaps
import Derived.Deep.WholeRow
import Derived.Test.YtmllggkhfmjpgaaGreatDoorG0
set_option linter.unusedVariables false
set_option linter.unusedSimpArgs false
set_option maxRecDepth 100000
set_option maxHeartbeats 4000000
namespace Go.Proofs
open Go.Vai Go.Clashes
def cQ (o:Option Nat):Value:=match o with | some a=>.pointer (some ⟨a,0,none⟩) | none=>.pointer none
structure CR where
 ca:Nat
 a:iA
 th:Int
 no:Int
 st:Int
 ph:Nat
 wt:Bool
 id:Int
 cs:Int
 out:Int
def Uy (ph:Nat):FuncId:=if ph=1 then 58 else if ph=2 then 106 else if ph=3 then 159 else if ph=4 then 305 else 306
def uL (ph ca:Nat):Value:=.func (.func (Uy ph)) ⟨[.pointer (some ⟨ca,0,none⟩)]⟩ ⟨[]⟩
noncomputable def bO (wb:Nat) (c:CR):bC:=aa [.int .i64 c.a.k,.int .i64 c.a.x,.int .i64 c.a.t,.int .i64 c.a.r,.int .i64 c.a.m,.int .i64 c.a.w,.int .i64 c.a.to,.pointer (some ⟨wb,0,none⟩),.int .i64 c.th,.int .i64 c.no,.int .i64 c.st,uL c.ph c.ca,.int .i64 (c.ph:Int),.bool c.wt,.int .i64 c.id,.int .i64 c.cs,.int .i64 c.out,.bool false,.slice none 0 0] 128 false
structure WA where
 wb:Nat
 lb:Nat
 hb:Nat
 pb:Nat
 ib:Nat
 kb:Nat
 cb:Nat
 mb:Nat
 n:Nat
structure RW (h:Heap) (A:WA) (tb:Nat) (dn:List (Option (Nat × Int))) (bits:List Int) (now:Int) (tv:Value) (cs:List (Option CR)) (wm:List IE) (yy:Nat) (begun:Int):Prop where
 BL:A.wb<h.nx∧h.lo≤A.wb
 gw:h.bl.get A.wb=some (aa [.pointer (some ⟨tb,0,none⟩),.pointer (some ⟨A.lb,0,none⟩),.pointer (some ⟨A.pb,0,none⟩),.pointer (some ⟨A.kb,0,none⟩),.slice (some ⟨A.cb,0,none⟩) A.n A.n,.map (some A.mb),.int .i64 begun] 126 false)
 Jo:A.lb<h.nx
 gl:h.bl.get A.lb=some (aa [.slice (some ⟨A.hb,0,none⟩) dn.length dn.length] 247 false)
 YH:A.hb<h.nx∧h.lo≤A.hb
 gh:h.bl.get A.hb=some (aa (dn.map fun o=>cQ (o.map (·.1))) 251 false)
 ho:∀p,some p∈dn→p.1<h.nx∧h.bl.get p.1=some (aa [.int .i64 p.2] 253 false)
 OX:A.pb<h.nx
 gp:h.bl.get A.pb=some (aa [.slice (some ⟨A.ib,0,none⟩) A.n A.n] 244 false)
 lti:A.ib<h.nx∧h.lo≤A.ib
 gi:h.bl.get A.ib=some (aa (bits.map fun n=>.int .i64 n) 3 false)
 li:bits.length=A.n
 ltk:A.kb<h.nx∧h.lo≤A.kb
 gk:h.bl.get A.kb=some (aa [.int .i64 now,tv] 200 false)
 Uz:A.cb<h.nx∧h.lo≤A.cb
 gc:h.bl.get A.cb=some (aa (cs.map fun o=>cQ (o.map (·.ca))) 118 false)
 lc:cs.length=A.n
 ca:∀c,some c∈cs→c.ca<h.nx∧h.lo≤c.ca∧h.bl.get c.ca=some (bO A.wb c)
 vJ:A.mb<h.nx∧h.lo≤A.mb
 gm:h.bl.get A.mb=some (.map (wm.map Ay) yy)
 nn:1≤A.n∧A.n≤8
 dc:cs.Pairwise fun o o'=>∀c c',o=some c→o'=some c'→c.ca≠c'.ca
def lW (ty:TypeId) (op:Bool):Prop:=ty=126∨ty=247∨ty=251∨ty=253∨ty=244∨ty=200∨ty=118∨ty=128∨(ty=3∧op=false)
section
variable {h h':Heap} {A:WA} {tb:Nat} {dn:List (Option (Nat × Int))} {bits:List Int} {now:Int} {tv:Value} {cs:List (Option CR)} {wm:List IE} {yy:Nat} {begun:Int}
theorem RW.keep (s:RW h A tb dn bits now tv cs wm yy begun) (hn:h.nx≤h'.nx) (hl:h'.lo=h.lo) (hg:∀d vs ty op,d<h.nx→lW ty op→h.bl.get d=some (aa vs ty op)→h'.bl.get d=h.bl.get d) (hm:h'.bl.get A.mb=h.bl.get A.mb):RW h' A tb dn bits now tv cs wm yy begun:=by
 obtain ⟨⟨a1,a2⟩,a3,b1,b2,⟨c1,c2⟩,c3,c4,d1,d2,⟨e1,e2⟩,e3,e4,⟨f1,f2⟩,f3,⟨g1,g2⟩,g3,g4,g5,⟨i1,i2⟩,i3,i4,i5⟩:=s
 refine ⟨⟨by omega,by omega⟩,(hg _ _ _ _ a1 (by simp[lW]) a3).trans a3,by omega,(hg _ _ _ _ b1 (by simp[lW]) b2).trans b2,⟨by omega,by omega⟩,(hg _ _ _ _ c1 (by simp[lW]) c3).trans c3,fun p hp=>?_,by omega,(hg _ _ _ _ d1 (by simp[lW]) d2).trans d2,⟨by omega,by omega⟩,(hg _ _ _ _ e1 (by simp[lW]) e3).trans e3,e4,⟨by omega,by omega⟩,(hg _ _ _ _ f1 (by simp[lW]) f3).trans f3,⟨by omega,by omega⟩,(hg _ _ _ _ g1 (by simp[lW]) g3).trans g3,g4,fun c hc=>?_,⟨by omega,by omega⟩,hm.trans i3,i4,i5⟩
 ·obtain ⟨k1,k2⟩:=c4 p hp
  exact ⟨by omega,(hg _ _ _ _ k1 (by simp[lW]) k2).trans k2⟩
 ·obtain ⟨k1,k2,k3⟩:=g5 c hc
  exact ⟨by omega,by omega,(hg _ _ _ _ k1 (by simp[lW]) k3).trans k3⟩
theorem RW.le (s:RW h A tb dn bits now tv cs wm yy begun) (l:Le h h'):RW h' A tb dn bits now tv cs wm yy begun:=s.keep l.nx l.lo (fun d _ _ _ hd _ _=>l.get d hd) (l.get _ s.vJ.1)
theorem RW.adk (s:RW h A tb dn bits now tv cs wm yy begun) {bw bp bl:Nat} {c:fZ} {vb:Value} {aS:Nat} {Ts:List TB} {W:List IE} {wc:Nat} {F:List Int} {B:List Bool} (t:ep h tb bw bp bl c vb aS Ts W wc F B) (f:tL Ts bw bp bl h h') (hw:A.mb≠bw) (hm:∀b∈Ts,A.mb≠b.bm):RW h' A tb dn bits now tv cs wm yy begun:=by
 have gm:=s.gm
 obtain ⟨fs,yd,hpt⟩:=t.aY.fr.cell
 have gl:=t.aY.cell
 refine s.keep f.nx f.lo (fun d vs ty op hd hr hg=>?_) (f.get _ s.vJ.1 hm hw (by rintro e; rw[e,yd] at gm; exact bQ gm.symm) (by rintro e; rw[e,gl] at gm; exact bQ gm.symm) fun vs=>by rw[gm]; exact bQ)
 rcases hr with e | e | e | e | e | e | e | e | ⟨e,e'⟩<;>subst e
 ·exact f.keep t hd hg (by decide) (by decide) (by decide)
 ·exact f.keep t hd hg (by decide) (by decide) (by decide)
 ·exact f.keep t hd hg (by decide) (by decide) (by decide)
 ·exact f.keep t hd hg (by decide) (by decide) (by decide)
 ·exact f.keep t hd hg (by decide) (by decide) (by decide)
 ·exact f.keep t hd hg (by decide) (by decide) (by decide)
 ·exact f.keep t hd hg (by decide) (by decide) (by decide)
 ·exact f.keep t hd hg (by decide) (by decide) (by decide)
 ·subst e'
  refine f.get d hd (fun b hb=>?_) (by rintro rfl; have:=t.nQ; rw[hg] at this; exact bQ this.symm) (by rintro rfl; rw[hg] at yd; exact bq (by decide) yd) (by rintro rfl; rw[hg] at gl; exact bq (by decide) gl) fun ws=>by rw[hg]; exact bh
  rintro rfl
  have:=(t.bk b hb).fQ
  rw[hg] at this
  exact bQ this.symm
end
theorem adl (h:Heap) (b o:Nat):lM Tryz.prog h 100 120 (.pointer (some ⟨b,o,none⟩)) (.pointer none)=some false:=by kernel_rfl
theorem OY {β:Type} {fl:β} (cn:Bool) (b o:Nat) (h:Heap) (κ:Value→Heap→β):au fl Tryz.prog .eql 120 cn false (.pointer (some ⟨b,o,none⟩)) (.pointer none) h κ=κ (.bool false) h:=by simp only[au,adl,bM]
theorem adm (h:Heap) (b o:Nat):lM Tryz.prog h 100 251 (.pointer (some ⟨b,o,none⟩)) (.pointer none)=some false:=by kernel_rfl
theorem adn (h:Heap):lM Tryz.prog h 100 251 (.pointer none) (.pointer none)=some true:=by kernel_rfl
theorem E9 {β:Type} {fl:β} (cn:Bool) (b o:Nat) (h:Heap) (κ:Value→Heap→β):au fl Tryz.prog .eql 251 cn false (.pointer (some ⟨b,o,none⟩)) (.pointer none) h κ=κ (.bool false) h:=by simp only[au,adm,bM]
theorem E_ {β:Type} {fl:β} (cn:Bool) (h:Heap) (κ:Value→Heap→β):au fl Tryz.prog .eql 251 cn false (.pointer none) (.pointer none) h κ=κ (.bool true) h:=by simp only[au,adn,bM]
abbrev nW (dn:List (Option (Nat × Int))):List Value:=dn.map fun o=>cQ (o.map (·.1))
section
variable {h:Heap} {lb hb:Nat} {dn:List (Option (Nat × Int))}
theorem yz (gl:h.bl.get lb=some (aa [.slice (some ⟨hb,0,none⟩) dn.length dn.length] 247 false)) {i:Nat} {th:Int} (hi:i<dn.length) (ht:0≤th∧th<8) (κ:KQ) (hk:κ (.int .i64 0) h) :
  CallW Tryz.prog 156 [.pointer (some ⟨lb,0,none⟩),.int .i64 (i:Int),.int .i64 th] h κ:=by
 refine an mixed ?_
 rw[V9]
 simp(disch:=first|omega|simp only[Wd]<;>omega|rfl)only[Wz,OY,Dz,cW (show (0:Int)≤(i:Int) by omega),az,gl,cW (show 0≤th by omega),aV (show ¬(dn.length:Int)≤(i:Int) by omega),aV (show ¬(8:Int)≤th by omega)]
 exact hk
theorem Hf {i:Nat} {o:Option (Nat × Int)} (hi:dn[i]? = some o):(nW dn)[i]? = some (cQ (o.map (·.1))):=by rw[List.getElem?_map,hi]; rfl
theorem Fa {i:Nat} {o:Option (Nat × Int)} (hi:i<dn.length):over (nW dn) i [cQ (o.map (·.1))]=nW (dn.set i o):=by
 unfold over nW
 rw[List.map_set,List.set_eq_take_append_cons_drop,if_pos (by simpa using hi)]
 simp
theorem YI (gl:h.bl.get lb=some (aa [.slice (some ⟨hb,0,none⟩) dn.length dn.length] 247 false)) (gh:h.bl.get hb=some (aa (nW dn) 251 false)) (hhb:hb<h.nx∧h.lo≤hb) (hlb:lb<h.nx) {i:Nat} {th:Int} (hi:dn[i]? = some none) (ht:0≤th∧th<8) (κ:KQ)
  (hk:κ (.tuple ⟨[.bool true,.int .i64 0]⟩) ⟨h.nx+1,(h.bl.aT h.nx (aa [.int .i64 th] 253 false)).aT hb (aa (nW (dn.set i (some (h.nx,th)))) 251 false),h.lo⟩) :
  CallW Tryz.prog 105 [.pointer (some ⟨lb,0,none⟩),.int .i64 (i:Int),.int .i64 th] h κ:=by
 have hil:=(List.getElem?_eq_some_iff.1 hi).1
 have r:=Hf hi
 have ov:=Fa (dn:=dn) (o:=some (h.nx,th)) hil
 have hln:(nW dn).length=dn.length:=List.length_map _
 refine an mixed ?_
 rw[VF]
 refine yz gl hil ht _ ?_
 simp only[cQ,Option.map_none] at r
 simp only[cQ,Option.map_some] at ov
 simp(disch:=first|omega|simp only[Wd]<;>omega|rfl)only[Wz,Dh,az,gl,aW,gh,r,Nat.mul_one,E_,Dg,ov]
 exact hk
theorem Sp (gl:h.bl.get lb=some (aa [.slice (some ⟨hb,0,none⟩) dn.length dn.length] 247 false)) (gh:h.bl.get hb=some (aa (nW dn) 251 false)) (hhb:hb<h.nx∧h.lo≤hb) {i p:Nat} {th:Int} (hi:dn[i]? = some (some (p,th))) (gp:h.bl.get p=some (aa [.int .i64 th] 253 false)) (ht:0≤th∧th<8) (κ:KQ)
  (hk:κ (.int .i64 0) ⟨h.nx,h.bl.aT hb (aa (nW (dn.set i none)) 251 false),h.lo⟩) :
  CallW Tryz.prog 215 [.pointer (some ⟨lb,0,none⟩),.int .i64 (i:Int),.int .i64 th] h κ:=by
 have hil:=(List.getElem?_eq_some_iff.1 hi).1
 have r:=Hf hi
 have ov:=Fa (dn:=dn) (o:=none) hil
 have hln:(nW dn).length=dn.length:=List.length_map _
 refine an mixed ?_
 rw[WT]
 refine yz gl hil ht _ ?_
 simp only[cQ,Option.map_some] at r
 simp only[cQ,Option.map_none] at ov
 simp(disch:=first|omega|simp only[Wd]<;>omega|rfl)only[Wz,DV,az,gl,aW,gh,r,gp,Nat.mul_one,E9,ov]
 exact hk
theorem KK (gl:h.bl.get lb=some (aa [.slice (some ⟨hb,0,none⟩) dn.length dn.length] 247 false)) (gh:h.bl.get hb=some (aa (nW dn) 251 false)) {i:Nat} {o:Option (Nat × Int)} (hi:dn[i]? = some o) (gp:∀p,o=some p→h.bl.get p.1=some (aa [.int .i64 p.2] 253 false)) (κ:KQ)
  (hk:∀x,κ (.tuple ⟨[.int .i64 x,.bool o.isSome]⟩) h) :
  CallW Tryz.prog 115 [.pointer (some ⟨lb,0,none⟩),.int .i64 (i:Int)] h κ:=by
 have hil:=(List.getElem?_eq_some_iff.1 hi).1
 have r:=Hf hi
 have hln:(nW dn).length=dn.length:=List.length_map _
 refine an mixed ?_
 rw[VI]
 refine yz gl hil (by omega) _ ?_
 cases o with
 | none=>
  simp only[cQ,Option.map_none] at r
  simp(disch:=first|omega|simp only[Wd]<;>omega|rfl)only[Wz,az,gl,aW,gh,r,Nat.mul_one,E_]
  exact hk 0
 | some p=>
  have gp:=gp p rfl
  simp only[cQ,Option.map_some] at r
  simp(disch:=first|omega|simp only[Wd]<;>omega|rfl)only[Wz,az,gl,aW,gh,r,Nat.mul_one,E9,Dk,gp]
  exact hk p.2
end
theorem ado (h:Heap) (b o:Nat):lM Tryz.prog h 100 121 (.pointer (some ⟨b,o,none⟩)) (.pointer none)=some false:=by kernel_rfl
theorem OZ {β:Type} {fl:β} (cn:Bool) (b o:Nat) (h:Heap) (κ:Value→Heap→β):au fl Tryz.prog .eql 121 cn false (.pointer (some ⟨b,o,none⟩)) (.pointer none) h κ=κ (.bool false) h:=by simp only[au,ado,bM]
abbrev Hg (bits:List Int):List Value:=bits.map fun n=>.int .i64 n
def KL (a b:Int):Int:=IntKind.i64.wrap (BitVec.ofInt IntKind.i64.bits a &&& BitVec.ofInt IntKind.i64.bits b).toNat
theorem KM {β:Type} {fl:β} (P:Program) (t:TypeId) (cn gd:Bool) (a b:Int) (h:Heap) (κ:Value→Heap→β):au fl P .and t cn gd (.int .i64 a) (.int .i64 b) h κ=κ (.int .i64 (KL a b)) h:=by
 simp only[au,gI,lP,fT,dN]; rfl
section
variable {h:Heap} {pb ib:Nat} {bits:List Int}
theorem O0 (gp:h.bl.get pb=some (aa [.slice (some ⟨ib,0,none⟩) bits.length bits.length] 244 false)) {i:Nat} (hi:i<bits.length) (κ:KQ) (hk:κ (.int .i64 0) h) :
  CallW Tryz.prog 162 [.pointer (some ⟨pb,0,none⟩),.int .i64 (i:Int)] h κ:=by
 refine an mixed ?_
 rw[Wc]
 simp(disch:=first|omega|simp only[Wd]<;>omega|rfl)only[Wz,OZ,DA,cW (show (0:Int)≤(i:Int) by omega),az,gp,aV (show ¬(bits.length:Int)≤(i:Int) by omega)]
 exact hk
theorem YJ {i:Nat} {n:Int} (hi:bits[i]? = some n):(Hg bits)[i]? = some (.int .i64 n):=by rw[List.getElem?_map,hi]; rfl
theorem adp (gp:h.bl.get pb=some (aa [.slice (some ⟨ib,0,none⟩) bits.length bits.length] 244 false)) (gi:h.bl.get ib=some (aa (Hg bits) 3 false)) {i:Nat} {n:Int} (hi:bits[i]? = some n) (b:Int) (κ:KQ) (hk:κ (.bool (!decide (KL n b=0))) h) :
  CallW Tryz.prog 163 [.pointer (some ⟨pb,0,none⟩),.int .i64 (i:Int),.int .i64 b] h κ:=by
 have hil:=(List.getElem?_eq_some_iff.1 hi).1
 have r:=YJ hi
 have hln:(Hg bits).length=bits.length:=List.length_map _
 refine an mixed ?_
 rw[We]
 refine O0 gp hil _ ?_
 simp(disch:=first|omega|simp only[Wd]<;>omega|rfl)only[Wz,az,gp,aW,gi,r,Nat.mul_one,KM]
 exact hk
theorem O1 (gp:h.bl.get pb=some (aa [.slice (some ⟨ib,0,none⟩) bits.length bits.length] 244 false)) (gi:h.bl.get ib=some (aa (Hg bits) 3 false)) {i:Nat} {n:Int} (hi:bits[i]? = some n) (κ:KQ) (hk:κ (.bool (!decide (KL n 1=0))) h) :
  CallW Tryz.prog 114 [.pointer (some ⟨pb,0,none⟩),.int .i64 (i:Int)] h κ:=by
 refine an mixed ?_
 rw[VH]
 exact adp gp gi hi 1 _ hk
end
theorem cO {h:Heap} {a b:Nat} {v v':List Value} {t t':TypeId} {o o':Bool} (ha:h.bl.get a=some (aa v t o)) (hb:h.bl.get b=some (aa v' t' o')) (hn:t≠t'):a≠b:=by
 rintro rfl
 rw[ha] at hb
 exact bq hn hb
theorem iJ {h:Heap} {a b:Nat} {v:List Value} {t:TypeId} {o:Bool} {es:List MapEntry} {cl:Nat} (ha:h.bl.get a=some (aa v t o)) (hb:h.bl.get b=some (.map es cl)):a≠b:=by
 rintro rfl
 rw[ha] at hb
 exact bQ hb.symm
section
variable {h h':Heap} {A:WA} {tb:Nat} {dn:List (Option (Nat × Int))} {bits:List Int} {now:Int} {tv:Value} {cs:List (Option CR)} {wm:List IE} {yy:Nat} {begun:Int}
theorem YK {i:Nat} {c c':CR} (hi:cs[i]? = some (some c)) (hc:c'.ca=c.ca):((cs.set i (some c')).map fun o=>cQ (o.map (·.ca)))=cs.map fun o=>cQ (o.map (·.ca)):=by
 have hil:=(List.getElem?_eq_some_iff.1 hi).1
 refine List.ext_getElem? fun j=>?_
 rw[List.getElem?_map,List.getElem?_map,List.getElem?_set]
 split
 ·rename_i e; subst e
  rw[hi]
  simp[hc,hil]
 ·rfl
theorem yA {i:Nat} {c:CR} {o:Option CR} (h:some c∈cs.set i o):o=some c∨∃j,j≠i∧cs[j]? = some (some c):=by
 obtain ⟨j,hj⟩:=List.getElem?_of_mem h
 rw[List.getElem?_set] at hj
 split at hj
 ·split at hj
  ·exact .inl (Option.some.inj hj)
  ·cases hj
 ·rename_i hne; exact .inr ⟨j,fun e=>hne e.symm,hj⟩
theorem RW.apart (s:RW h A tb dn bits now tv cs wm yy begun) {i j:Nat} {c c':CR} (hi:cs[i]? = some (some c)) (hj:cs[j]? = some (some c')) (hne:i≠j):c.ca≠c'.ca:=by
 rcases Nat.lt_or_gt_of_ne hne with h1 | h1
 ·exact dU.1 s.dc i j _ _ h1 hi hj c c' rfl rfl
 ·exact fun e=>dU.1 s.dc j i _ _ h1 hj hi c' c rfl rfl e.symm
theorem RW.gX (s:RW h A tb dn bits now tv cs wm yy begun) {i:Nat} {c c':CR} (hi:cs[i]? = some (some c)) (hc:c'.ca=c.ca):RW ⟨h.nx,h.bl.aT c.ca (bO A.wb c'),h.lo⟩ A tb dn bits now tv (cs.set i (some c')) wm yy begun:=by
 obtain ⟨k1,k2,k3⟩:=s.ca c (List.mem_of_getElem? hi)
 have up:∀{b:Nat} {v:List Value} {t:TypeId} {o:Bool},h.bl.get b=some (aa v t o)→128≠t→(h.bl.aT c.ca (bO A.wb c')).get b=some (aa v t o):=fun hb hn=>(T.ai _ _ (cO k3 hb hn)).trans hb
 refine ⟨s.BL,up s.gw (by decide),s.Jo,up s.gl (by decide),s.YH,up s.gh (by decide),fun p hp=>⟨(s.ho p hp).1,up (s.ho p hp).2 (by decide)⟩,s.OX,up s.gp (by decide),s.lti,up s.gi (by decide),s.li,s.ltk,up s.gk (by decide),s.Uz,?_,?_,?_,s.vJ,(T.ai _ _ (iJ k3 s.gm)).trans s.gm,s.nn,?_⟩
 ·rw[YK hi hc]; exact up s.gc (by decide)
 ·rw[List.length_set]; exact s.lc
 ·intro d hd
  rcases yA hd with e | ⟨j,hne,hj⟩
  ·cases e
   rw[hc]
   exact ⟨k1,k2,T.af _ _ _⟩
  ·obtain ⟨g1,g2,g3⟩:=s.ca d (List.mem_of_getElem? hj)
   exact ⟨g1,g2,(T.ai _ _ (s.apart hi hj (fun e=>hne e.symm))).trans g3⟩
 ·refine qI s.dc (fun j q hj hq a b ha hb=>?_) (fun j q hj hq a b ha hb=>?_)
  ·subst ha; cases hb; rw[hc]; exact s.apart hq hi (by omega)
  ·subst hb; cases ha; rw[hc]; exact s.apart hi hq (by omega)
theorem RW.sk (s:RW h A tb dn bits now tv cs wm yy begun) (i:Nat) (o:Option CR) (ho:∀c,o=some c→c.ca<h.nx∧h.lo≤c.ca∧h.bl.get c.ca=some (bO A.wb c)∧∀(j:Nat) (d:CR),j≠i→cs[j]? = some (some d)→d.ca≠c.ca) :
  RW ⟨h.nx,h.bl.aT A.cb (aa ((cs.set i o).map fun o=>cQ (o.map (·.ca))) 118 false),h.lo⟩ A tb dn bits now tv (cs.set i o) wm yy begun:=by
 have k3:=s.gc
 have up:∀{b:Nat} {v:List Value} {t:TypeId} {op:Bool},h.bl.get b=some (aa v t op)→118≠t→(h.bl.aT A.cb (aa ((cs.set i o).map fun o=>cQ (o.map (·.ca))) 118 false)).get b=some (aa v t op):=fun hb hn=>(T.ai _ _ (cO k3 hb hn)).trans hb
 refine ⟨s.BL,up s.gw (by decide),s.Jo,up s.gl (by decide),s.YH,up s.gh (by decide),fun p hp=>⟨(s.ho p hp).1,up (s.ho p hp).2 (by decide)⟩,s.OX,up s.gp (by decide),s.lti,up s.gi (by decide),s.li,s.ltk,up s.gk (by decide),s.Uz,T.af _ _ _,?_,?_,s.vJ,(T.ai _ _ (iJ k3 s.gm)).trans s.gm,s.nn,?_⟩
 ·rw[List.length_set]; exact s.lc
 ·intro d hd
  rcases yA hd with e | ⟨j,hne,hj⟩
  ·obtain ⟨g1,g2,g3,_⟩:=ho d e
   exact ⟨g1,g2,up g3 (by decide)⟩
  ·obtain ⟨g1,g2,g3⟩:=s.ca d (List.mem_of_getElem? hj)
   exact ⟨g1,g2,up g3 (by decide)⟩
 ·refine qI s.dc (fun j q hj hq a b ha hb=>?_) (fun j q hj hq a b ha hb=>?_)
  ·subst ha; exact (ho b hb).2.2.2 j a (by omega) hq
  ·subst hb; exact fun e=>(ho a ha).2.2.2 j b (by omega) hq e.symm
theorem RW.BS (s:RW h A tb dn bits now tv cs wm yy begun) (yB:List (Option (Nat × Int))) (hl:yB.length=dn.length) (ho:∀p,some p∈yB→p.1<h.nx∧h.bl.get p.1=some (aa [.int .i64 p.2] 253 false)) :
  RW ⟨h.nx,h.bl.aT A.hb (aa (nW yB) 251 false),h.lo⟩ A tb yB bits now tv cs wm yy begun:=by
 have k3:=s.gh
 have up:∀{b:Nat} {v:List Value} {t:TypeId} {op:Bool},h.bl.get b=some (aa v t op)→251≠t→(h.bl.aT A.hb (aa (nW yB) 251 false)).get b=some (aa v t op):=fun hb hn=>(T.ai _ _ (cO k3 hb hn)).trans hb
 exact ⟨s.BL,up s.gw (by decide),s.Jo,by rw[hl]; exact up s.gl (by decide),s.YH,T.af _ _ _,fun p hp=>⟨(ho p hp).1,up (ho p hp).2 (by decide)⟩,s.OX,up s.gp (by decide),s.lti,up s.gi (by decide),s.li,s.ltk,up s.gk (by decide),s.Uz,up s.gc (by decide),s.lc,fun c hc=>⟨(s.ca c hc).1,(s.ca c hc).2.1,up (s.ca c hc).2.2 (by decide)⟩,s.vJ,(T.ai _ _ (iJ k3 s.gm)).trans s.gm,s.nn,s.dc⟩
theorem RW.yC (s:RW h A tb dn bits now tv cs wm yy begun) (b':Int) :
  RW ⟨h.nx,h.bl.aT A.wb (aa [.pointer (some ⟨tb,0,none⟩),.pointer (some ⟨A.lb,0,none⟩),.pointer (some ⟨A.pb,0,none⟩),.pointer (some ⟨A.kb,0,none⟩),.slice (some ⟨A.cb,0,none⟩) A.n A.n,.map (some A.mb),.int .i64 b'] 126 false),h.lo⟩ A tb dn bits now tv cs wm yy b':=by
 have k3:=s.gw
 have up:∀(o':bC) {b:Nat} {v:List Value} {t:TypeId} {op:Bool},h.bl.get b=some (aa v t op)→126≠t→(h.bl.aT A.wb o').get b=some (aa v t op):=fun o' _ _ _ _ hb hn=>(T.ai _ _ (cO k3 hb hn)).trans hb
 exact ⟨s.BL,T.af _ _ _,s.Jo,up _ s.gl (by decide),s.YH,up _ s.gh (by decide),fun p hp=>⟨(s.ho p hp).1,up _ (s.ho p hp).2 (by decide)⟩,s.OX,up _ s.gp (by decide),s.lti,up _ s.gi (by decide),s.li,s.ltk,up _ s.gk (by decide),s.Uz,up _ s.gc (by decide),s.lc,fun c hc=>⟨(s.ca c hc).1,(s.ca c hc).2.1,up _ (s.ca c hc).2.2 (by decide)⟩,s.vJ,(T.ai _ _ (iJ k3 s.gm)).trans s.gm,s.nn,s.dc⟩
end
structure TA where
 tb:Nat
 bw:Nat
 bp:Nat
 bl:Nat
 c:fZ
 vb:Value
 aS:Nat
structure TD where
 Ts:List TB
 W:List IE
 wc:Nat
 F:List Int
 B:List Bool
structure RD where
 dn:List (Option (Nat × Int))
 bits:List Int
 now:Int
 tv:Value
 cs:List (Option CR)
 wm:List IE
 yy:Nat
 begun:Int
abbrev y8 (h:Heap) (a:TA) (N:Nat) (d:TD):Prop:=jC h a.tb a.bw a.bp a.bl a.c a.vb a.aS N d.Ts d.W d.wc d.F d.B
abbrev RWx (h:Heap) (A:WA) (tb:Nat) (R:RD):Prop:=RW h A tb R.dn R.bits R.now R.tv R.cs R.wm R.yy R.begun
structure WS (h:Heap) (A:WA) (a:TA) (N:Nat) (d:TD) (R:RD):Prop where
 t:y8 h a N d
 r:RWx h A a.tb R
 mw:A.mb≠a.bw
 mm:∀b∈d.Ts,A.mb≠b.bm
 lo:h.lo≤h.nx
section
variable {h h':Heap} {A:WA} {a:TA} {N:Nat} {d:TD} {R:RD}
theorem WS.le (s:WS h A a N d R) (l:Le h h'):WS h' A a N d R:=⟨s.t.le l,s.r.le l,s.mw,s.mm,by have:=l.nx; have:=l.lo; have:=s.lo; omega⟩
theorem WS.up (s:WS h A a N d R) {N':Nat} (hN:N≤N'):WS h A a N' d R:=⟨s.t.up hN,s.r,s.mw,s.mm,s.lo⟩
theorem WS.table (s:WS h A a N d R) {N':Nat} {d':TD} (t':y8 h' a N' d') (f:tL d.Ts a.bw a.bp a.bl h h') (hb:d'.Ts.map (·.bm)=d.Ts.map (·.bm)):WS h' A a N' d' R:=by
 refine ⟨t',s.r.adk s.t.is f s.mw s.mm,s.mw,fun b hb'=>?_,by have:=f.nx; have:=f.lo; have:=s.lo; omega⟩
 have:b.bm∈d.Ts.map (·.bm):=by rw[←hb]; exact List.mem_map.2 ⟨b,hb',rfl⟩
 obtain ⟨b0,hb0,e⟩:=List.mem_map.1 this
 rw[←e]; exact s.mm b0 hb0
theorem y8.O2 (s:y8 h a N d) {x:Nat} {v:List Value} {t:TypeId} {op:Bool} (hg:h.bl.get x=some (aa v t op)) (hn:∀ty o,oS ty o→t≠ty) (o:bC):y8 ⟨h.nx,h.bl.aT x o,h.lo⟩ a N d:=
 jC.put s o (fun vs ty o' ht e=>by rw[hg] at e; exact bq (hn ty o' ht) e) (iJ hg s.is.nQ) fun b hb=>iJ hg (s.is.bk b hb).fQ
theorem nTy {t:TypeId} (h1:t≠194) (h2:t≠205) (h3:t≠267) (h4:t≠55) (h5:t≠57) (h6:t≠286) (h7:t≠4) (h8:t≠3):∀ty o,oS ty o→t≠ty:=by
 rintro ty o (rfl | rfl | rfl | rfl | rfl | rfl | rfl | ⟨rfl,_⟩)<;>assumption
theorem WS.gX (s:WS h A a N d R) {i:Nat} {c c':CR} (hi:R.cs[i]? = some (some c)) (hc:c'.ca=c.ca):WS ⟨h.nx,h.bl.aT c.ca (bO A.wb c'),h.lo⟩ A a N d { R with cs:=R.cs.set i (some c') }:=
 ⟨y8.O2 s.t (s.r.ca c (List.mem_of_getElem? hi)).2.2 (nTy (by decide) (by decide) (by decide) (by decide) (by decide) (by decide) (by decide) (by decide)) _,s.r.gX hi hc,s.mw,s.mm,s.lo⟩
theorem WS.sk (s:WS h A a N d R) (i:Nat) (o:Option CR) (ho:∀c,o=some c→c.ca<h.nx∧h.lo≤c.ca∧h.bl.get c.ca=some (bO A.wb c)∧∀(j:Nat) (d:CR),j≠i→R.cs[j]? = some (some d)→d.ca≠c.ca) :
  WS ⟨h.nx,h.bl.aT A.cb (aa ((R.cs.set i o).map fun o=>cQ (o.map (·.ca))) 118 false),h.lo⟩ A a N d { R with cs:=R.cs.set i o }:=
 ⟨y8.O2 s.t s.r.gc (nTy (by decide) (by decide) (by decide) (by decide) (by decide) (by decide) (by decide) (by decide)) _,s.r.sk i o ho,s.mw,s.mm,s.lo⟩
theorem WS.BS (s:WS h A a N d R) (yB:List (Option (Nat × Int))) (hl:yB.length=R.dn.length) (ho:∀p,some p∈yB→p.1<h.nx∧h.bl.get p.1=some (aa [.int .i64 p.2] 253 false)) :
  WS ⟨h.nx,h.bl.aT A.hb (aa (nW yB) 251 false),h.lo⟩ A a N d { R with dn:=yB }:=
 ⟨y8.O2 s.t s.r.gh (nTy (by decide) (by decide) (by decide) (by decide) (by decide) (by decide) (by decide) (by decide)) _,s.r.BS yB hl ho,s.mw,s.mm,s.lo⟩
theorem WS.yC (s:WS h A a N d R) (b':Int) :
  WS ⟨h.nx,h.bl.aT A.wb (aa [.pointer (some ⟨a.tb,0,none⟩),.pointer (some ⟨A.lb,0,none⟩),.pointer (some ⟨A.pb,0,none⟩),.pointer (some ⟨A.kb,0,none⟩),.slice (some ⟨A.cb,0,none⟩) A.n A.n,.map (some A.mb),.int .i64 b'] 126 false),h.lo⟩ A a N d { R with begun:=b' }:=
 ⟨y8.O2 s.t s.r.gw (nTy (by decide) (by decide) (by decide) (by decide) (by decide) (by decide) (by decide) (by decide)) _,s.r.yC b',s.mw,s.mm,s.lo⟩
end
theorem adr (h:Heap) (b o:Nat):lM Tryz.prog h 100 25 (.pointer (some ⟨b,o,none⟩)) (.pointer none)=some false:=by kernel_rfl
theorem f_ {β:Type} {fl:β} (cn:Bool) (b o:Nat) (h:Heap) (κ:Value→Heap→β):au fl Tryz.prog .eql 25 cn false (.pointer (some ⟨b,o,none⟩)) (.pointer none) h κ=κ (.bool false) h:=by simp only[au,adr,bM]
theorem O3 {β:Type} {fl:β} (cn:Bool) (b o:Nat) (h:Heap) (κ:Value→Heap→β):au fl Tryz.prog .neq 25 cn false (.pointer (some ⟨b,o,none⟩)) (.pointer none) h κ=κ (.bool true) h:=by simp only[au,adr,bM,Bool.not_false]
theorem ads (h:Heap) (b o:Nat):lM Tryz.prog h 100 118 (.pointer (some ⟨b,o,none⟩)) (.pointer none)=some false:=by kernel_rfl
theorem UA (h:Heap):lM Tryz.prog h 100 118 (.pointer none) (.pointer none)=some true:=by kernel_rfl
theorem Sq {β:Type} {fl:β} (cn:Bool) (o:Option Nat) (h:Heap) (κ:Value→Heap→β):au fl Tryz.prog .eql 118 cn false (cQ o) (.pointer none) h κ=κ (.bool o.isNone) h:=by
 cases o with
 | none=>simp only[cQ,au,UA,bM,Option.isNone]
 | some b=>simp only[cQ,au,ads,bM,Option.isNone]
theorem Sr {β:Type} {fl:β} (cn:Bool) (o:Option Nat) (h:Heap) (κ:Value→Heap→β):au fl Tryz.prog .neq 118 cn false (cQ o) (.pointer none) h κ=κ (.bool o.isSome) h:=by
 cases o with
 | none=>simp only[cQ,au,UA,bM,Bool.not_true]; rfl
 | some b=>simp only[cQ,au,ads,bM,Bool.not_false]; rfl
section
variable {h:Heap} {A:WA} {a:TA} {N:Nat} {d:TD} {R:RD}
theorem kP (s:WS h A a N d R) {i:Nat} (hi:i<A.n) (κ:KQ) (hk:κ (.bool true) h):CallW Tryz.prog 54 [.pointer (some ⟨A.wb,0,none⟩),.int .i64 (i:Int)] h κ:=by
 have gw:=s.r.gw
 refine an mixed ?_
 rw[abi]
 simp(disch:=first|omega|simp only[Wd]<;>omega|rfl)only[Wz,O3,bg (show (0:Int)≤(i:Int) by omega),az,gw,eY (show (i:Int)<(A.n:Int) by omega)]
 exact hk
theorem iY (s:WS h A a N d R) {i:Nat} {o:Option CR} (hi:R.cs[i]? = some o):(R.cs.map fun o=>cQ (o.map (·.ca)))[i]? = some (cQ (o.map (·.ca))):=by rw[List.getElem?_map,hi]; rfl
theorem uM (s:WS h A a N d R) {i:Nat} {o:Option CR} (hi:R.cs[i]? = some o):i<A.n:=by
 have:=(List.getElem?_eq_some_iff.1 hi).1
 have:=s.r.lc
 omega
theorem adt (s:WS h A a N d R) {i:Nat} {o:Option CR} (hi:R.cs[i]? = some o) (κ:KQ) (hk:κ (cQ (o.map (·.ca))) h):CallW Tryz.prog 68 [.pointer (some ⟨A.wb,0,none⟩),.int .i64 (i:Int)] h κ:=by
 have gw:=s.r.gw
 have gc:=s.r.gc
 have hil:=uM s hi
 have r:=iY s hi
 refine an mixed ?_
 rw[abr]
 refine kP s hil _ ?_
 simp(disch:=first|omega|simp only[Wd]<;>omega|rfl)only[Wz,az,gw,aW,gc,r,Nat.mul_one]
 exact hk
theorem YL (a b:Int):(!decide (b<a))=decide (a≤b):=by
 by_cases h:b<a
 ·rw[bg h,aV (show ¬a≤b by omega)]; rfl
 ·rw[aV h,bg (show a≤b by omega)]; rfl
theorem YM (x:iA) (h:Heap) (κ:KQ) (hlo:h.lo≤h.nx) (hk:∀h',Le h h'→κ (.bool (kO x)) h'):CallW Tryz.prog 55 [.agg ⟨BR x⟩] h κ:=by
 refine an mixed ?_
 rw[abj]
 simp(disch:=first|omega|simp only[Wd]<;>omega|rfl)only[Wz,BR]
 obtain ⟨hA,aH⟩:∃hA:Heap,hA=⟨h.nx+1,(h.bl.aT (h.nx) (aa [.int .i64 x.k,.int .i64 x.x,.int .i64 x.t,.int .i64 x.r,.int .i64 x.m,.int .i64 x.w,.int .i64 x.to] 31 false)),h.lo⟩:=⟨_,rfl⟩
 have aL:Le h hA:=by subst aH; exact ((Le.refl h).new _)
 have g1:hA.bl.get (h.nx)=some (aa [.int .i64 x.k,.int .i64 x.x,.int .i64 x.t,.int .i64 x.r,.int .i64 x.m,.int .i64 x.w,.int .i64 x.to] 31 false):=by subst aH; exact T.af _ _ _
 have ef:hA.nx=h.nx+1:=by subst aH; rfl
 have ej:hA.lo=h.lo:=by subst aH; rfl
 rw[←aH]
 clear aH
 have hk:=hk hA aL
 unfold kO at hk
 refine mQ x.t x.r ?_
 by_cases hl:a_ x.t x.r = -1
 ·rw[if_pos hl]
  rw[aV (fun h=>h hl)] at hk
  simp(disch:=first|omega|simp only[Wd]<;>omega|rfl)only[Wz]
  exact hk
 ·rw[if_neg hl]
  rw[bg hl,Bool.true_and] at hk
  simp(disch:=first|omega|simp only[Wd]<;>omega|rfl)only[Wz,g1]
  by_cases h1:x.k=1
  ·rw[if_pos h1] at hk
   simp(disch:=first|omega|simp only[Wd]<;>omega|rfl)only[Wz,bg h1,IN,g1]
   refine nE x.m ?_
   cases hkn:kn x.m with
   | false=>rw[hkn] at hk; simp(disch:=first|omega|simp only[Wd]<;>omega|rfl)only[Wz]; exact hk
   | true=>
    rw[hkn,Bool.true_and] at hk
    simp(disch:=first|omega|simp only[Wd]<;>omega|rfl)only[Wz,g1]
    by_cases hm:x.m=0
    ·rw[aV (fun h=>h hm)] at hk
     simp(disch:=first|omega|simp only[Wd]<;>omega|rfl)only[Wz,bg hm]; exact hk
    ·rw[bg hm,Bool.true_and] at hk
     simp(disch:=first|omega|simp only[Wd]<;>omega|rfl)only[Wz,aV hm,g1,YL]
     exact hk
  ·rw[if_neg h1] at hk
   simp(disch:=first|omega|simp only[Wd]<;>omega|rfl)only[Wz,aV h1,IP,g1]
   by_cases h3:x.k=3
   ·rw[if_pos h3] at hk
    simp(disch:=first|omega|simp only[Wd]<;>omega|rfl)only[Wz,bg h3,g1]
    simpa using hk
   ·rw[if_neg h3] at hk
    simp(disch:=first|omega|simp only[Wd]<;>omega|rfl)only[Wz,aV h3,g1]
    exact hk
end
section
variable {h:Heap} {A:WA} {a:TA} {N:Nat} {d:TD} {R:RD}
theorem AF (f:Fn) (a b:Array Value):(Value.cells (.func f a b)).toList=[.func f a b]:=id rfl
theorem BT {wb:Nat} (c:CR) (g:h.bl.get c.ca=some (bO wb c)) (hlo:h.lo≤c.ca) (ph:Nat) (f:FuncId) (hf:Uy ph=f) (κ:KQ) (hk:κ (.tuple ⟨[]⟩) ⟨h.nx,h.bl.aT c.ca (bO wb { c with ph:=ph }),h.lo⟩) :
  CallW Tryz.prog 57 [.pointer (some ⟨c.ca,0,none⟩),.int .i64 (ph:Int),.func (.func f) ⟨[.pointer (some ⟨c.ca,0,none⟩)]⟩ ⟨[]⟩] h κ:=by
 subst hf
 refine an mixed ?_
 rw[T7]
 unfold bO at g hk
 simp(disch:=first|omega|simp only[Wd]<;>omega|rfl)only[Wz,az,g,uL,AF]
 exact hk
theorem bD (s:WS h A a N d R) {i:Nat} {c:CR} (hi:R.cs[i]? = some (some c)):h.bl.get c.ca=some (bO A.wb c)∧c.ca<h.nx∧h.lo≤c.ca:=by
 obtain ⟨k1,k2,k3⟩:=s.r.ca c (List.mem_of_getElem? hi)
 exact ⟨k3,k1,k2⟩
theorem lK (s:WS h A a N d R) {i k:Nat} {c:CR} (hi:R.cs[i]? = some (some c)) {nb:Int} (hb:R.bits[i]? = some nb) (hst:c.st=(k:Int)) {o:Option (Nat × Int)} (hl:R.dn[k]? = some o) (κ:KQ) (hk:κ (.bool (!decide ((c.ph:Int)=1) || !o.isSome)) h) (hz:KL nb 1=0:=by decide) :
  CallW Tryz.prog 64 [.pointer (some ⟨A.wb,0,none⟩),.int .i64 (i:Int)] h κ:=by
 have gw:=s.r.gw
 obtain ⟨gc,_⟩:=bD s hi
 have hli:=s.r.li
 refine an mixed ?_
 rw[abn]
 refine adt s hi _ ?_
 simp(disch:=first|omega|simp only[Wd]<;>omega|rfl)only[Wz,Sq,Option.map_some,Option.isNone_some]
 simp(disch:=first|omega|simp only[Wd]<;>omega|rfl)only[Wz,az,gw]
 refine O1 (by rw[hli]; exact s.r.gp) s.r.gi hb _ ?_
 simp(disch:=first|omega|simp only[Wd]<;>omega|rfl)only[Wz,bg hz,IS,az,gw,cQ,gc,bO,hst]
 refine KK s.r.gl s.r.gh hl (fun p e=>by subst e; exact (s.r.ho p (List.mem_of_getElem? hl)).2) _ ?_
 intro x
 simp(disch:=first|omega|simp only[Wd]<;>omega|rfl)only[Wz,az,gc,bO]
 by_cases h1:(c.ph:Int)=1
 ·rw[bg h1] at hk
  simp(disch:=first|omega|simp only[Wd]<;>omega|rfl)only[Wz,bg h1]
  exact hk
 ·rw[aV h1] at hk
  simp(disch:=first|omega|simp only[Wd]<;>omega|rfl)only[Wz,aV h1]
  exact hk
end
theorem nG {v v':List Value} {t t':TypeId} {o o':Bool} (e:(some (aa v t o):Option bC)=some (aa v' t' o')):t=t'∧o=o':=by
 have ht:t=t':=Classical.byContradiction fun hn=>bq hn e
 subst ht
 refine ⟨rfl,?_⟩
 cases o<;>cases o'
 ·rfl
 ·exact absurd e bh
 ·exact absurd e.symm bh
 ·rfl
structure WK (a:TA) (h h':Heap):Prop where
 nx:h.nx≤h'.nx
 lo:h'.lo=h.lo
 ty:∀d vs t o,d<h.nx→h.bl.get d=some (aa vs t o)→¬oS t o→¬lW t o→h'.bl.get d=h.bl.get d
 oi:∀d vs,d<h.nx→h.bl.get d=some (aa vs 3 true)→¬FB h a.bp d→h'.bl.get d=h.bl.get d
 mv:∀d,d<h.nx→FB h' a.bp d→FB h a.bp d
 ro:∀d,d<h.nx→(∀vs t o,h.bl.get d≠some (aa vs t o))→(∀es c,h.bl.get d≠some (.map es c))→h'.bl.get d=h.bl.get d
theorem WK.trans {a:TA} {h h1 h2:Heap} (x:WK a h h1) (y:WK a h1 h2):WK a h h2 where
 nx:=Nat.le_trans x.nx y.nx
 lo:=y.lo.trans x.lo
 ty d vs t o hd hg ht hr:=by
  have e:=x.ty d vs t o hd hg ht hr
  exact (y.ty d vs t o (Nat.lt_of_lt_of_le hd x.nx) (e.trans hg) ht hr).trans e
 oi d vs hd hg hf:=by
  have e:=x.oi d vs hd hg hf
  exact (y.oi d vs (Nat.lt_of_lt_of_le hd x.nx) (e.trans hg) (fun f=>hf (x.mv d hd f))).trans e
 mv d hd f:=x.mv d hd (y.mv d (Nat.lt_of_lt_of_le hd x.nx) f)
 ro d hd h1 h2:=by
  have e:=x.ro d hd h1 h2
  exact (y.ro d (Nat.lt_of_lt_of_le hd x.nx) (fun vs t o=>by rw[e]; exact h1 vs t o) (fun es c=>by rw[e]; exact h2 es c)).trans e
section
variable {h h':Heap} {A:WA} {a:TA} {N:Nat} {d:TD} {R:RD}
theorem WS.bp (s:WS h A a N d R):∃fs ls,a.bp<h.nx∧h.bl.get a.bp=some (aa [fs,ls] 286 false):=by
 obtain ⟨fs,hg,_⟩:=s.t.is.aY.fr.cell
 exact ⟨fs,_,s.t.is.aY.fr.lt,hg⟩
theorem WS.Jp (s:WS h A a N d R) (l:Le h h'):WK a h h':=by
 obtain ⟨_,_,hb,_⟩:=s.bp
 exact ⟨l.nx,l.lo,fun d _ _ _ hd _ _ _=>l.get d hd,fun d _ hd _ _=>l.get d hd,fun d _ f=>(FB.congr (l.get _ hb)).1 f,fun d hd _ _=>l.get d hd⟩
theorem WS.sn (s:WS h A a N d R) {x:Nat} {v:List Value} {t:TypeId} {o:Bool} (hg:h.bl.get x=some (aa v t o)) (hr:lW t o) (hp:t≠286) (ob:bC):WK a h ⟨h.nx,h.bl.aT x ob,h.lo⟩:=by
 obtain ⟨fs,ls,hb,gb⟩:=s.bp
 have Tl:x≠a.bp:=cO hg gb hp
 refine ⟨Nat.le_refl _,rfl,fun d vs t' o' hd hgd _ hn=>T.ai _ _ ?_,fun d vs hd hgd _=>T.ai _ _ ?_,fun d _ f=>(FB.congr (T.ai _ _ Tl)).1 f,fun d hd h1 _=>T.ai _ _ ?_⟩
 ·rintro rfl
  rw[hg] at hgd
  by_cases ht:t=t'
  ·subst ht
   cases o<;>cases o'
   ·exact hn hr
   ·exact bh hgd
   ·exact bh hgd.symm
   ·exact hn hr
  ·exact bq ht hgd
 ·rintro rfl
  rw[hg] at hgd
  rcases hr with e | e | e | e | e | e | e | e | ⟨e,e'⟩<;>subst e<;>first | exact bq (by decide) hgd | (subst e'; exact bh hgd)
 ·rintro rfl; exact h1 _ _ _ hg
theorem WS.kfr (s:WS h A a N d R) (f:tL d.Ts a.bw a.bp a.bl h h'):WK a h h':=by
 obtain ⟨fs,ls,hb,gb⟩:=s.bp
 have gl:=s.t.is.aY.cell
 have gw:=s.t.is.nQ
 refine ⟨f.nx,f.lo,fun x vs t o hx hg ht _=>f.get x hx (fun b hb=>iJ hg (s.t.is.bk b hb).fQ) (iJ hg gw) ?_ ?_ ?_,fun x vs hx hg hn=>f.g2 hb x hx (fun b hb=>iJ hg (s.t.is.bk b hb).fQ) (iJ hg gw) (cO hg gb (by decide)) (cO hg gl (by decide)) hn,f.mv hb,fun x hx h1 h2=>f.get x hx ?_ ?_ ?_ ?_ fun vs=>h1 vs _ _⟩
 ·rintro rfl; rw[hg] at gb; exact ht (by
   by_cases e:t=286
   ·subst e; simp[oS]
   ·exact absurd gb (bq e))
 ·rintro rfl; rw[hg] at gl; exact ht (by
   by_cases e:t=4
   ·subst e; simp[oS]
   ·exact absurd gl (bq e))
 ·intro ws hw
  rw[hg] at hw
  by_cases e:t=3
  ·subst e
   cases o
   ·exact bh hw
   ·exact ht (by simp[oS])
  ·exact bq e hw
 ·intro b hb e; subst e; exact h2 _ _ (s.t.is.bk b hb).fQ
 ·rintro rfl; exact h2 _ _ gw
 ·rintro rfl; exact h1 _ _ _ gb
 ·rintro rfl; exact h1 _ _ _ gl
theorem O4 (s:WS h A a N d R) (hf:∀b,b<h.nx→b≠A.hb→h'.bl.get b=h.bl.get b) (hn:h.nx≤h'.nx) (hl:h'.lo=h.lo):WK a h h':=by
 obtain ⟨fs,ls,hb,gb⟩:=s.bp
 have gh:=s.r.gh
 refine ⟨hn,hl,fun x vs t o hx hg ht hr=>hf x hx ?_,fun x vs hx hg _=>hf x hx ?_,fun x _ f=>(FB.congr (hf _ hb (cO gb gh (by decide)))).1 f,fun x hx h1 _=>hf x hx ?_⟩
 ·rintro rfl
  rw[gh] at hg
  by_cases e:251=t
  ·subst e; exact hr (by simp[lW])
  ·exact bq e hg
 ·rintro rfl; rw[gh] at hg; exact bq (by decide) hg
 ·rintro rfl; exact h1 _ _ _ gh
end
section
variable {h:Heap} {A:WA} {a:TA} {N:Nat} {d:TD} {R:RD}
theorem O5 (s:WS h A a N d R) {i k:Nat} {c:CR} (hi:R.cs[i]? = some (some c)) (hst:c.st=(k:Int)) (AG:0≤c.th∧c.th<8) (hl:R.dn[k]? = some none) (κ:KQ)
  (hk:∀h',WS h' A a N d { R with dn:=R.dn.set k (some (h.nx,c.th)),cs:=R.cs.set i (some { c with ph:=2 }) }→WK a h h'→κ (.tuple ⟨[]⟩) h') :
  CallW Tryz.prog 58 [.pointer (some ⟨c.ca,0,none⟩)] h κ:=by
 obtain ⟨gc,c1,c2⟩:=bD s hi
 have gw:=s.r.gw
 have hlo:=s.lo
 have gc':=gc
 unfold bO at gc'
 refine an mixed ?_
 rw[abl]
 simp(disch:=first|omega|simp only[Wd]<;>omega|rfl)only[Wz,az,gc',gw,hst]
 refine YI s.r.gl s.r.gh s.r.YH s.r.Jo hl AG _ ?_
 have s1:=s.le ((Le.refl h).new (aa [.int .i64 c.th] 253 false))
 have s2:=s1.BS (R.dn.set k (some (h.nx,c.th))) (List.length_set ..) (fun p hp=>by
  rcases List.mem_or_eq_of_mem_set hp with hp | hp
  ·obtain ⟨k1,k2⟩:=s1.r.ho p hp
   exact ⟨k1,k2⟩
  ·cases hp
   exact ⟨Nat.lt_succ_self _,T.af _ _ _⟩)
 obtain ⟨h2,e2⟩:∃h2:Heap,h2=⟨h.nx+1,(h.bl.aT h.nx (aa [.int .i64 c.th] 253 false)).aT A.hb (aa (nW (R.dn.set k (some (h.nx,c.th)))) 251 false),h.lo⟩:=⟨_,rfl⟩
 have s2:WS h2 A a N d { R with dn:=R.dn.set k (some (h.nx,c.th)) }:=by rw[e2]; exact s2
 have f2:∀b,b<h.nx→b≠A.hb→h2.bl.get b=h.bl.get b:=fun b hb hn=>by rw[e2]; exact (T.ai _ _ (fun e=>hn e.symm)).trans (T.ai _ _ (by omega))
 have n2:h2.nx=h.nx+1:=by rw[e2]
 have l2:h2.lo=h.lo:=by rw[e2]
 rw[←e2]
 clear e2
 obtain ⟨tJ,c12,c22⟩:=bD (R:={ R with dn:=R.dn.set k (some (h.nx,c.th)) }) s2 hi
 refine BT c tJ c22 2 _ rfl _ ?_
 exact hk _ (WS.gX (R:={ R with dn:=R.dn.set k (some (h.nx,c.th)) }) s2 hi rfl) ((O4 s f2 (by omega) l2).trans (WS.sn s2 tJ (by simp[lW]) (by decide) _))
theorem RW.other {tb:Nat} {dn:List (Option (Nat × Int))} {bits:List Int} {now:Int} {tv:Value} {cs:List (Option CR)} {wm:List IE} {yy:Nat} {begun:Int} (s:RW h A tb dn bits now tv cs wm yy begun) {x:Nat} {v:List Value} {o:Bool} (hg:h.bl.get x=some (aa v 128 o)) (hn:∀c,some c∈cs→c.ca≠x) (ob:bC):RW ⟨h.nx,h.bl.aT x ob,h.lo⟩ A tb dn bits now tv cs wm yy begun:=by
 have up:∀{b:Nat} {v:List Value} {t:TypeId} {o:Bool},h.bl.get b=some (aa v t o)→128≠t→(h.bl.aT x ob).get b=some (aa v t o):=fun hb hn=>(T.ai _ _ (cO hg hb hn)).trans hb
 exact ⟨s.BL,up s.gw (by decide),s.Jo,up s.gl (by decide),s.YH,up s.gh (by decide),fun p hp=>⟨(s.ho p hp).1,up (s.ho p hp).2 (by decide)⟩,s.OX,up s.gp (by decide),s.lti,up s.gi (by decide),s.li,s.ltk,up s.gk (by decide),s.Uz,up s.gc (by decide),s.lc,fun c hc=>⟨(s.ca c hc).1,(s.ca c hc).2.1,(T.ai _ _ (fun e=>hn c hc e.symm)).trans (s.ca c hc).2.2⟩,s.vJ,(T.ai _ _ (iJ hg s.gm)).trans s.gm,s.nn,s.dc⟩
theorem WS.other (s:WS h A a N d R) {x:Nat} {v:List Value} {o:Bool} (hg:h.bl.get x=some (aa v 128 o)) (hn:∀c,some c∈R.cs→c.ca≠x) (ob:bC):WS ⟨h.nx,h.bl.aT x ob,h.lo⟩ A a N d R:=
 ⟨y8.O2 s.t hg (nTy (by decide) (by decide) (by decide) (by decide) (by decide) (by decide) (by decide) (by decide)) _,s.r.other hg hn ob,s.mw,s.mm,s.lo⟩
noncomputable def yD (wb:Nat) (c:CR):bC:=aa [.int .i64 c.a.k,.int .i64 c.a.x,.int .i64 c.a.t,.int .i64 c.a.r,.int .i64 c.a.m,.int .i64 c.a.w,.int .i64 c.a.to,.pointer (some ⟨wb,0,none⟩),.int .i64 c.th,.int .i64 c.no,.int .i64 c.st,uL c.ph c.ca,.int .i64 (c.ph:Int),.bool c.wt,.int .i64 c.id,.int .i64 c.cs,.int .i64 c.out,.bool true,.slice none 0 0] 128 false
theorem Ss (s:WS h A a N d R) {i k p:Nat} {c:CR} (hi:R.cs[i]? = some (some c)) (hst:c.st=(k:Int)) (AG:c.th=(i:Int)) (hout:c.out≠0) (hl:R.dn[k]? = some (some (p,c.th))) (κ:KQ)
  (hk:∀h',WS h' A a N d { R with dn:=R.dn.set k none,cs:=R.cs.set i none }→h'.bl.get c.ca=some (yD A.wb c)→WK a h h'→κ (.tuple ⟨[]⟩) h') :
  CallW Tryz.prog 159 [.pointer (some ⟨c.ca,0,none⟩)] h κ:=by
 obtain ⟨gc,c1,c2⟩:=bD s hi
 have gw:=s.r.gw
 have hlo:=s.lo
 have gc':=gc
 have hil:=uM s hi
 have hnn:=s.r.nn
 unfold bO at gc'
 have gp:=(s.r.ho (p,c.th) (List.mem_of_getElem? hl)).2
 refine an mixed ?_
 rw[Wa]
 simp(disch:=first|omega|simp only[Wd]<;>omega|rfl)only[Wz,az,gc',gw,hst]
 refine Sp s.r.gl s.r.gh s.r.YH hl gp (by omega) _ ?_
 have s2:=s.BS (R.dn.set k none) (List.length_set ..) (fun q hq=>by
  rcases List.mem_or_eq_of_mem_set hq with hq | hq
  ·exact s.r.ho q hq
  ·cases hq)
 have k2:=O4 (h':=⟨h.nx,h.bl.aT A.hb (aa (nW (R.dn.set k none)) 251 false),h.lo⟩) s (fun b hb hn=>T.ai _ _ (fun e=>hn e.symm)) (Nat.le_refl _) rfl
 obtain ⟨h2,e2⟩:∃h2:Heap,h2=⟨h.nx,h.bl.aT A.hb (aa (nW (R.dn.set k none)) 251 false),h.lo⟩:=⟨_,rfl⟩
 have s2:WS h2 A a N d { R with dn:=R.dn.set k none }:=by rw[e2]; exact s2
 have k2:WK a h h2:=by rw[e2]; exact k2
 rw[←e2]
 clear e2
 obtain ⟨tJ,c12,c22⟩:=bD (R:={ R with dn:=R.dn.set k none }) s2 hi
 have tP:=tJ
 unfold bO at tP
 have Qh:=s2.r.gw
 have O6:=s2.r.gc
 have cb2:=s2.r.Uz
 refine an mixed ?_
 rw[WU]
 have s3:WS ⟨h2.nx,h2.bl.aT A.cb (aa ((R.cs.set i none).map fun o=>cQ (o.map (·.ca))) 118 false),h2.lo⟩ A a N d { R with dn:=R.dn.set k none,cs:=R.cs.set i none }:=WS.sk (R:={ R with dn:=R.dn.set k none }) s2 i none (fun c e=>(nomatch e))
 have hne:c.ca≠A.cb:=cO tJ O6 (by decide)
 have ovc:over (R.cs.map fun o=>cQ (o.map (·.ca))) i [.pointer none]=(R.cs.set i none).map fun o=>cQ (o.map (·.ca)):=by
  unfold over
  rw[List.map_set,List.set_eq_take_append_cons_drop,if_pos (by rw[List.length_map]; exact (List.getElem?_eq_some_iff.1 hi).1)]
  simp[cQ]
 have hlc:(R.cs.map fun o=>cQ (o.map (·.ca))).length=A.n:=by rw[List.length_map]; exact s.r.lc
 have hnw:c.ca≠A.wb:=cO tJ Qh (by decide)
 simp(disch:=first|omega|simp only[Wd]<;>omega|rfl)only[Wz,az,tP,DX,aV hout,DW]
 simp(disch:=first|omega|simp only[Wd]<;>omega|rfl)only[Wz,az,Qh,AG,aW,O6,Nat.mul_one,ovc]
 have sq:(h2.bl.aT A.cb (aa ((R.cs.set i none).map fun o=>cQ (o.map (·.ca))) 118 false)).get c.ca=_:=(T.ai _ _ (fun e=>hne e.symm)).trans tP
 have hno:∀x,some x∈R.cs.set i none→x.ca≠c.ca:=by
  intro x hx
  rcases yA hx with e | ⟨j,hj,e⟩
  ·cases e
  ·exact s.r.apart e hi hj
 have s4:=WS.other s3 sq hno (yD A.wb c)
 have k3:=WS.sn s2 O6 (by simp[lW]) (by decide) (aa ((R.cs.set i none).map fun o=>cQ (o.map (·.ca))) 118 false)
 have k4:=WS.sn s3 sq (by simp[lW]) (by decide) (yD A.wb c)
 have hk:=hk _ s4 (T.af _ _ _) ((k2.trans k3).trans k4)
 rw[show ((h2.bl.aT A.cb (aa ((R.cs.set i none).map fun o=>cQ (o.map (·.ca))) 118 false)).aT c.ca (yD A.wb c))=(h2.bl.aT c.ca (yD A.wb c)).aT A.cb (aa ((R.cs.set i none).map fun o=>cQ (o.map (·.ca))) 118 false) from T.CN _ _ _ (fun e=>hne e.symm)] at hk
 unfold yD at hk
 rw[AG] at hk
 exact hk
end
section
variable {h:Heap} {A:WA} {a:TA} {N:Nat} {d:TD} {R:RD}
theorem Fb (s:WS h A a N d R) {i k:Nat} {c:CR} (hi:R.cs[i]? = some (some c)) (su:c.ph=1) {nb:Int} (hb:R.bits[i]? = some nb) (hst:c.st=(k:Int)) (AG:0≤c.th∧c.th<8) (hl:R.dn[k]? = some none) (κ:KQ)
  (hk:∀h',WS h' A a N d { R with dn:=R.dn.set k (some (h.nx,c.th)),cs:=R.cs.set i (some { c with ph:=2 }) }→WK a h h'→κ (.tuple ⟨[.bool false,.int .i64 0,.int .i64 0]⟩) h') (hz:KL nb 1=0:=by decide) :
  CallW Tryz.prog 15 [.pointer (some ⟨A.wb,0,none⟩),.int .i64 (i:Int)] h κ:=by
 have gw:=s.r.gw
 have St:=s.r.gc
 have hil:=uM s hi
 have r:(R.cs.map fun o=>cQ (o.map (·.ca)))[i]? = some (.pointer (some ⟨c.ca,0,none⟩)):=iY s hi
 obtain ⟨gc,c1,c2⟩:=bD s hi
 have hlc:(R.cs.map fun o=>cQ (o.map (·.ca))).length=A.n:=by rw[List.length_map]; exact s.r.lc
 have gc':=gc
 unfold bO uL at gc'
 rw[su] at gc'
 refine an mixed ?_
 rw[Dd]
 simp(disch:=first|omega|simp only[Wd]<;>omega|rfl)only[Wz,f_,pL]
 refine kP s hil _ ?_
 simp(disch:=first|omega|simp only[Wd]<;>omega|rfl)only[Wz]
 refine lK s hi hb hst hl _ ?_ hz
 rw[su]
 simp(disch:=first|omega|simp only[Wd]<;>omega|rfl)only[Wz,Option.isSome_none,Option.isSome_some,Bool.false_or,Bool.true_or,pK,az,gw,aW,St,r,gc',Nat.mul_one,nj]
 refine O5 s hi hst AG hl _ ?_
 intro h' s' k'
 have hi':(R.cs.set i (some { c with ph:=2 }))[i]? = some (some { c with ph:=2 }):=by rw[List.getElem?_set,if_pos rfl,if_pos (by have:=s.r.lc; omega)]
 obtain ⟨tJ,_,_⟩:=bD s' hi'
 unfold bO at tJ
 simp(disch:=first|omega|simp only[Wd]<;>omega|rfl)only[Wz,az,tJ]
 exact hk h' s' k'
theorem Hh (s:WS h A a N d R) {i k p:Nat} {c:CR} (hi:R.cs[i]? = some (some c)) (su:c.ph=3) {nb:Int} (hb:R.bits[i]? = some nb) (hst:c.st=(k:Int)) (AG:c.th=(i:Int)) (hout:c.out≠0) (hl:R.dn[k]? = some (some (p,c.th))) (κ:KQ)
  (hk:∀h',WS h' A a N d { R with dn:=R.dn.set k none,cs:=R.cs.set i none }→WK a h h'→κ (.tuple ⟨[.bool true,.int .i64 c.out,.int .i64 0]⟩) h') (hz:KL nb 1=0:=by decide) :
  CallW Tryz.prog 15 [.pointer (some ⟨A.wb,0,none⟩),.int .i64 (i:Int)] h κ:=by
 have gw:=s.r.gw
 have St:=s.r.gc
 have hil:=uM s hi
 have r:(R.cs.map fun o=>cQ (o.map (·.ca)))[i]? = some (.pointer (some ⟨c.ca,0,none⟩)):=iY s hi
 obtain ⟨gc,c1,c2⟩:=bD s hi
 have hlc:(R.cs.map fun o=>cQ (o.map (·.ca))).length=A.n:=by rw[List.length_map]; exact s.r.lc
 have gc':=gc
 unfold bO uL at gc'
 rw[su] at gc'
 refine an mixed ?_
 rw[Dd]
 simp(disch:=first|omega|simp only[Wd]<;>omega|rfl)only[Wz,f_,pL]
 refine kP s hil _ ?_
 simp(disch:=first|omega|simp only[Wd]<;>omega|rfl)only[Wz]
 refine lK s hi hb hst hl _ ?_ hz
 rw[su]
 simp(disch:=first|omega|simp only[Wd]<;>omega|rfl)only[Wz,Option.isSome_none,Option.isSome_some,Bool.false_or,Bool.true_or,pK,az,gw,aW,St,r,gc',Nat.mul_one,nj]
 refine Ss s hi hst AG hout hl _ ?_
 intro h' s' g' k'
 unfold yD at g'
 simp(disch:=first|omega|simp only[Wd]<;>omega|rfl)only[Wz,az,g']
 exact hk h' s' k'
theorem adu (a b c d e f g:Int):jX 8 (.agg ⟨[.int .i64 a,.int .i64 b,.int .i64 c,.int .i64 d,.int .i64 e,.int .i64 f,.int .i64 g]⟩) (.agg ⟨[.int .i64 a,.int .i64 b,.int .i64 c,.int .i64 d,.int .i64 e,.int .i64 f,.int .i64 g]⟩)=true:=by
 have v:∀n:Int,jX 7 (.int .i64 n) (.int .i64 n)=true:=fun n=>by
  show (gI .i64 .i64 && q8 n n)=true
  rw[fI,bg rfl]; rfl
 show (jX 7 (.int .i64 a) (.int .i64 a) && (jX 7 (.int .i64 b) (.int .i64 b) && (jX 7 (.int .i64 c) (.int .i64 c) && (jX 7 (.int .i64 d) (.int .i64 d) && (jX 7 (.int .i64 e) (.int .i64 e) && (jX 7 (.int .i64 f) (.int .i64 f) && (jX 7 (.int .i64 g) (.int .i64 g) && true)))))))=true
 simp only[v,Bool.and_self]
theorem Su (s:WS h A a N d R) {i:Nat} (hi:R.cs[i]? = some none) (x:iA) (hbg:0≤R.begun∧R.begun≤1000000) (κ:KQ)
  (Sh:kO x=false→∀h',Le h h'→κ (.int .i64 2) h')
  (hk:kO x=true→∀h' ca,WS h' A a N d { R with cs:=R.cs.set i (some ⟨ca,x,(i:Int),R.begun,dm x.t x.r a.c.S,1,false,0,0,0⟩),begun:=R.begun+1 }→WK a h h'→κ (.int .i64 0) h') :
  CallW Tryz.prog 11 [.pointer (some ⟨A.wb,0,none⟩),.int .i64 (i:Int),.agg ⟨BR x⟩] h κ:=by
 have hlo:=s.lo
 have hil:=uM s hi
 have r:(R.cs.map fun o=>cQ (o.map (·.ca)))[i]? = some (.pointer none):=iY s hi
 have hlc:(R.cs.map fun o=>cQ (o.map (·.ca))).length=A.n:=by rw[List.length_map]; exact s.r.lc
 refine an mixed ?_
 rw[aa4]
 simp(disch:=first|omega|simp only[Wd]<;>omega|rfl)only[Wz,BR]
 obtain ⟨hA,aH⟩:∃hA:Heap,hA=⟨h.nx+1,(h.bl.aT (h.nx) (aa [.int .i64 x.k,.int .i64 x.x,.int .i64 x.t,.int .i64 x.r,.int .i64 x.m,.int .i64 x.w,.int .i64 x.to] 31 false)),h.lo⟩:=⟨_,rfl⟩
 have aL:Le h hA:=by subst aH; exact ((Le.refl h).new _)
 have g1:hA.bl.get (h.nx)=some (aa [.int .i64 x.k,.int .i64 x.x,.int .i64 x.t,.int .i64 x.r,.int .i64 x.m,.int .i64 x.w,.int .i64 x.to] 31 false):=by subst aH; exact T.af _ _ _
 have ef:hA.nx=h.nx+1:=by subst aH; rfl
 have ej:hA.lo=h.lo:=by subst aH; rfl
 rw[←aH]
 clear aH
 have sA:=s.le aL
 simp(disch:=first|omega|simp only[Wd]<;>omega|rfl)only[Wz,f_,ID]
 refine kP sA hil _ ?_
 simp(disch:=first|omega|simp only[Wd]<;>omega|rfl)only[Wz,g1]
 refine YM x hA _ (by omega) ?_
 intro h1 bF
 have n1:=bF.nx
 have l1:=bF.lo
 have s1:=sA.le bF
 have g11:=(bF.get _ (by omega)).trans g1
 have Uv:=s1.r.gw
 have y9:=s1.r.gc
 cases hm:kO x with
 | false=>
  simp(disch:=first|omega|simp only[Wd]<;>omega|rfl)only[Wz]
  exact Sh hm h1 (aL.trans bF)
 | true=>
  have hk:=hk hm
  have ahR:∀(β:Type) (fl:β) (cn:Bool) (h:Heap) (κ:Value→Heap→β),au fl Tryz.prog .neq 118 cn false (.pointer none) (.pointer none) h κ=κ (.bool false) h:=fun β fl cn h κ=>Sr cn none h κ
  simp(disch:=first|omega|simp only[Wd]<;>omega|rfl)only[Wz,IC,az,Uv,aW,y9,r,Nat.mul_one,ahR,IB,g11]
  refine tM s1.t.is (by omega) x.t x.r _ ?_
  intro h2 bt
  have n2:=bt.nx
  have l2:=bt.lo
  have s2:=s1.le bt
  have g12:=(bt.get _ (by omega)).trans g11
  have Qh:=s2.r.gw
  simp(disch:=first|omega|simp only[Wd]<;>omega|rfl)only[Wz,az,g12,Qh]
  obtain ⟨cc,FJ⟩:∃cc:CR,cc=⟨h2.nx,x,(i:Int),R.begun,dm x.t x.r a.c.S,1,false,0,0,0⟩:=⟨_,rfl⟩
  obtain ⟨h3,e3⟩:∃h3:Heap,h3=⟨h2.nx+1,h2.bl.aT h2.nx (bO A.wb cc),h2.lo⟩:=⟨_,rfl⟩
  have cr:Le h2 h3:=by rw[e3]; exact (Le.refl h2).new _
  have g3:h3.bl.get h2.nx=some (bO A.wb cc):=by rw[e3]; exact T.af _ _ _
  have n3:h3.nx=h2.nx+1:=by rw[e3]
  have l3:h3.lo=h2.lo:=by rw[e3]
  have s3:=s2.le cr
  have e3':h3=⟨h2.nx+1,h2.bl.aT h2.nx (aa [.int .i64 x.k,.int .i64 x.x,.int .i64 x.t,.int .i64 x.r,.int .i64 x.m,.int .i64 x.w,.int .i64 x.to,.pointer (some ⟨A.wb,0,none⟩),.int .i64 (i:Int),.int .i64 R.begun,.int .i64 (dm x.t x.r a.c.S),.func (.func 58) ⟨[.pointer (some ⟨h2.nx,0,none⟩)]⟩ ⟨[]⟩,.int .i64 1,.bool false,.int .i64 0,.int .i64 0,.int .i64 0,.bool false,.slice none 0 0] 128 false),h2.lo⟩:=by rw[e3,FJ]; rfl
  have gw3:=s3.r.gw
  have lw3:=s3.r.BL
  have lc3:=s3.r.Uz
  have s4:=s3.yC (R.begun+1)
  have k4:=WS.sn s3 gw3 (by simp[lW]) (by decide) (aa [.pointer (some ⟨a.tb,0,none⟩),.pointer (some ⟨A.lb,0,none⟩),.pointer (some ⟨A.pb,0,none⟩),.pointer (some ⟨A.kb,0,none⟩),.slice (some ⟨A.cb,0,none⟩) A.n A.n,.map (some A.mb),.int .i64 (R.begun+1)] 126 false)
  have ahS:=s4.r.gc
  have ovc:over (R.cs.map fun o=>cQ (o.map (·.ca))) i [.pointer (some ⟨h2.nx,0,none⟩)]=(R.cs.set i (some cc)).map fun o=>cQ (o.map (·.ca)):=by
   unfold over
   rw[List.map_set,List.set_eq_take_append_cons_drop,if_pos (by rw[List.length_map]; have:=s.r.lc; omega),FJ]
   simp[cQ]
  have s5:=WS.sk (R:={ R with begun:=R.begun+1 }) s4 i (some cc) (fun c e=>by
   cases e
   refine ⟨by rw[FJ]; show h2.nx<h3.nx; omega,by rw[FJ]; show h3.lo≤h2.nx; omega,?_,fun j d' hj hd=>?_⟩
   ·have e9:cc.ca=h2.nx:=by rw[FJ]
    rw[e9]
    exact (T.ai _ _ (by have:=(s2.r.BL).1; omega)).trans g3
   ·have:=(s2.r.ca d' (List.mem_of_getElem? hd)).1
    rw[FJ]; show d'.ca≠h2.nx; omega)
  have k5:=WS.sn s4 ahS (by simp[lW]) (by decide) (aa ((R.cs.set i (some cc)).map fun o=>cQ (o.map (·.ca))) 118 false)
  have hne:A.wb≠A.cb:=cO gw3 s3.r.gc (by decide)
  have amT:=s3.r.gc
  have O6:=s2.r.gc
  have lw2:=s2.r.BL
  have lc2:=s2.r.Uz
  simp(disch:=first|omega|simp only[Wd]<;>omega|rfl)only[Wz,adu]
  refine an mixed ?_
  rw[T7]
  simp(disch:=first|omega|simp only[Wd]<;>omega|rfl)only[Wz,az,AF,Qh,aW,O6,Nat.mul_one,ovc]
  have hk:=fun h'=>hk h' h2.nx
  simp only[←FJ] at hk
  have hk:=hk _ s5 (((s.Jp ((aL.trans bF).trans (bt.trans cr))).trans k4).trans k5)
  rw[e3'] at hk
  exact hk
end
section
variable {a h:Heap} {rt rp rl:Nat} {c:fZ} {vr:Value} {aS:Nat} {R:List RB} {B:List Bool}
end
section
variable {h h2:Heap} {tb bw bp bl:Nat} {c:fZ} {vb:Value} {aS N:Nat} {Ts Ts2:List TB} {W:List IE} {wc:Nat} {F:List Int} {B:List Bool}
end
section
variable {h h':Heap} {bb bm bp bl most:Nat} {M M':List HE} {clock clock':Nat} {F F':List Int} {B:List Bool}
end
section
variable {h:Heap} {tb bw bp bl:Nat} {c:fZ} {vb:Value} {aS N:Nat} {Ts:List TB} {W:List IE} {wc:Nat} {F:List Int} {B:List Bool}
end
section
variable {h:Heap} {tb bw bp bl:Nat} {c:fZ} {vb:Value} {aS N:Nat} {Ts:List TB} {W:List IE} {wc:Nat} {F:List Int} {B:List Bool}
end
section
variable {h:Heap} {tb bw bp bl:Nat} {c:fZ} {vb:Value} {aS N:Nat} {Ts:List TB} {W:List IE} {wc:Nat} {F:List Int} {B:List Bool}
end
section
variable {a0 h:Heap} {tb bw bp bl:Nat} {c:fZ} {vb:Value} {aS N:Nat} {Ts:List TB} {W:List IE} {wc:Nat} {F:List Int} {B:List Bool} {rt rp rl:Nat} {vr:Value} {R:List RB}
end
def adw (Ts:List (List HE)) (s t r x id:Int) (b:Bool):Prop:=(dm t r s<0∧id=0∧b=false)∨∃(k:Nat) (M:List HE),Ts[k]? = some M∧dm t r s=(k:Int)∧GX M t r x id b
section
variable {a0 h:Heap} {tb bw bp bl:Nat} {c:fZ} {vb:Value} {aS N:Nat} {Ts:List TB} {W:List IE} {wc:Nat} {F:List Int} {B:List Bool} {rt rp rl:Nat} {vr:Value} {R:List RB}
theorem O7 (s:jC h tb bw bp bl c vb aS N Ts W wc F B) (hlo:h.lo≤h.nx) (t r x:Int) (κ:KQ)
  (hk:∀h' id b,adw (Ts.map (·.M)) c.S t r x id b→Le h h'→κ (.tuple ⟨[.int .i64 id,.bool b]⟩) h') :
  CallW Tryz.prog 297 [.pointer (some ⟨tb,0,none⟩),cN t r,.int .i64 x] h κ:=by
 refine an mixed ?_
 rw[Xi]
 simp(disch:=first|omega|simp only[Wd]<;>omega|rfl)only[Wz,cN]
 obtain ⟨hA,aH⟩:∃hA:Heap,hA=⟨h.nx+1,(h.bl.aT (h.nx) (aa [.int .i64 t,.int .i64 r] 28 false)),h.lo⟩:=⟨_,rfl⟩
 have aL:Le h hA:=by subst aH; exact ((Le.refl h).new _)
 have g1:hA.bl.get (h.nx)=some (aa [.int .i64 t,.int .i64 r] 28 false):=by subst aH; exact T.af _ _ _
 have ef:hA.nx=h.nx+1:=by subst aH; rfl
 have ej:hA.lo=h.lo:=by subst aH; rfl
 rw[←aH]
 clear aH
 refine tM (s.le aL).is (by omega) t r _ ?_
 intro h2 bt
 have uH:=bt.nx
 have uI:=bt.lo
 have g1:=(bt.get _ (by omega)).trans g1
 have jI:=aL.trans bt
 have s2:=s.le jI
 by_cases hneg:dm t r c.S<0
 ·simp(disch:=first|omega|simp only[Wd]<;>omega|rfl)only[Wz,bg hneg]
  exact hk h2 0 false (.inl ⟨hneg,rfl,rfl⟩) jI
 obtain ⟨k,b,hst,hb⟩:=ac8 s.is hneg
 have gt:=s2.is.lJ
 obtain ⟨cc,oo,_,Qe,l_⟩:=Se s2.is.sl k hb
 have l_:=l_ h2 (Le.refl _)
 rw[hst]
 simp(disch:=first|omega|simp only[Wd]<;>omega|rfl)only[Wz,cW (show (0:Int)≤(k:Int) by omega),D5,az,gt,Qe,l_,g1]
 refine Sb (s2.is.bk b (List.mem_of_getElem? hb)) (by omega) t r x _ ?_
 intro h3 id bb fi cr
 simp(disch:=first|omega|simp only[Wd]<;>omega|rfl)only[Wz]
 exact hk h3 id bb (.inr ⟨k,b.M,by rw[List.getElem?_map,hb]; rfl,hst,fi⟩) (jI.trans cr)
end
section
variable {h:Heap} {tb bw bp bl:Nat} {c:fZ} {vb:Value} {aS N:Nat} {Ts:List TB} {W:List IE} {wc:Nat} {F:List Int} {B:List Bool} {H X:Int→Int→Int}
theorem sx (s:jC h tb bw bp bl c vb aS N Ts W wc F B) (L:Lone Ts H X) (hlo:h.lo≤h.nx) (t r:Int) (κ:KQ)
  (nO:H t r=0→∀h',Le h h'→κ (.tuple ⟨[.int .i64 0,.bool false]⟩) h')
  (dy:H t r≠0→∀h' (k:Nat) (b:TB) (e:HE) (id:Int),Ts[k]? = some b→dm t r c.S=(k:Int)→e∈b.M→e.t=t→e.r=r→e.Q=[⟨id,X t r,H t r,H t r,0⟩]→Le h h'→κ (.tuple ⟨[.int .i64 id,.bool true]⟩) h') :
  CallW Tryz.prog 297 [.pointer (some ⟨tb,0,none⟩),cN t r,.int .i64 (X t r)] h κ:=by
 refine O7 s hlo t r (X t r) _ ?_
 intro h' id b fi le
 by_cases hH:H t r=0
 ·have hno:=L.no hH
  rcases fi with ⟨_,rfl,rfl⟩ | ⟨k,M,hM,hst,⟨rfl,e,he,ht,hr,_⟩ | ⟨rfl,rfl,_⟩⟩
  ·exact nO hH h' le
  ·rw[List.getElem?_map] at hM
   cases hb:Ts[k]? with
   | none=>rw[hb] at hM; cases hM
   | some b0=>
    rw[hb] at hM; cases hM
    exact absurd ⟨ht,hr⟩ (hno b0 (List.mem_of_getElem? hb) e he)
  ·exact nO hH h' le
 ·obtain ⟨k0,b0,e0,id0,hb0,ahT,OH,ht0,Cy,hQ0⟩:=L.at s hH
  have fin:∀(id:Int) (b:Bool),GX b0.M t r (X t r) id b→id=id0∧b=true:=by
   rintro id b (⟨rfl,e,he,ht,hr,p,hp,hx,rfl⟩ | ⟨_,_,hn⟩)
   ·have:=(s.is.bk b0 (List.mem_of_getElem? hb0)).ok.uniq he OH (by rw[←ht,ht0]) (by rw[←hr,Cy])
    subst this
    rw[hQ0,List.mem_singleton] at hp
    subst hp
    exact ⟨rfl,rfl⟩
   ·exact absurd rfl (hn e0 OH ht0.symm Cy.symm ⟨id0,X t r,H t r,H t r,0⟩ (by rw[hQ0]; exact .head _))
  rcases fi with ⟨h1,_⟩ | ⟨k,M,hM,hst,fi⟩
  ·omega
  ·obtain rfl:k=k0:=by omega
   rw[List.getElem?_map,hb0] at hM; cases hM
   obtain ⟨rfl,rfl⟩:=fin id b fi
   exact dy hH h' k b0 e0 id hb0 ahT OH ht0 Cy hQ0 le
theorem Sv (s:jC h tb bw bp bl c vb aS N Ts W wc F B) (hlo:h.lo≤h.nx) {b:TB} (hb:b∈Ts) {e:HE} (he:e∈b.M) {id x m:Int} (hQ:e.Q=[⟨id,x,m,m,0⟩]) (κ:KQ)
  (hk:∀h',Le h h'→κ (.tuple ⟨[cN e.t e.r,kK ⟨id,x,m,m,0⟩,.bool true]⟩) h') :
  CallW Tryz.prog 209 [.pointer (some ⟨tb,0,none⟩),.int .i64 id] h κ:=by
 refine YG s hlo id _ ?_ ?_
 ·intro h' hn le
  have:=hn b hb e he
  rw[hQ,iw,if_pos rfl] at this
  cases this
 ·intro h' b' e' p hb' he' hf le
  obtain ⟨i,hi,hid⟩:=oO ((s.is.bk b' hb').good e' he').vq hf
  obtain ⟨rfl,rfl⟩:=s.yc hb' hb he' he (List.mem_of_getElem? hi) (by rw[hQ]; exact .head _) hid
  rw[hQ,iw,if_pos rfl] at hf
  cases hf
  exact hk h' le
end
section
variable {h:Heap} {A:WA} {a:TA} {N:Nat} {d:TD} {R:RD} {H X:Int→Int→Int}
theorem yE (s:WS h A a N d R) (L:Lone d.Ts H X) (t r:Int) (κ:KQ)
  (hk:∀v Q h',(Q=[]∨∃id m,Q=[⟨id,X t r,m,m,0⟩])→Sl bu h' v Q→Le h h'→κ v h') :
  CallW Tryz.prog 298 [.pointer (some ⟨A.wb,0,none⟩),cN t r] h κ:=by
 have gw0:=s.r.gw
 have hlo:=s.lo
 refine an mixed ?_
 rw[Xj]
 have BL:=s.r.BL
 simp(disch:=first|omega|simp only[Wd]<;>omega|rfl)only[Wz,cN,az,gw0]
 obtain ⟨hA,aH⟩:∃hA:Heap,hA=⟨h.nx+1,(h.bl.aT (h.nx) (aa [.int .i64 t,.int .i64 r] 28 false)),h.lo⟩:=⟨_,rfl⟩
 have aL:Le h hA:=by subst aH; exact ((Le.refl h).new _)
 have g1:hA.bl.get (h.nx)=some (aa [.int .i64 t,.int .i64 r] 28 false):=by subst aH; exact T.af _ _ _
 have ef:hA.nx=h.nx+1:=by subst aH; rfl
 have ej:hA.lo=h.lo:=by subst aH; rfl
 rw[←aH]
 clear aH
 have sA:=s.le aL
 refine Jl sA.t (by omega) _ ?_
 intro v0 h0 K t0 Sm
 have n0:=Sm.nx
 have l0:=Sm.lo
 obtain ⟨x0,c0,ev0,_⟩:=(show Sl p7 h0 v0 K from t0.sl)
 have OT:∀(β:Type) (fl:β) (h':Heap) (κ:Value→Heap→β),bB fl v0 h' κ=κ (.int .i64 (K.length:Int)) h':=fun β fl h' κ=>by rw[ev0]; exact eV _ _ _ _ _
 have Uh:K.length≤1024:=by
  have h1:=t0.perm.length_eq
  rw[List.length_map] at h1
  rw[h1]
  have h2:=s.t.is.s1.2
  have h3:=s.t.is.hd
  have:∀L:List TB,(∀b∈L,b.M.length≤64)→(L.flatMap fun b=>b.M.map dS).length≤64*L.length:=by
   intro L
   induction L with
   | nil=>intro _; simp
   | cons b L ih=>
    intro hL
    rw[List.flatMap_cons,List.length_append,List.length_map,List.length_cons]
    have h1:=ih fun x hx=>hL x (.tail _ hx)
    have h2:=hL b (.head _)
    omega
  have:=this d.Ts fun b hb=>by have:=s.t.len b hb; omega
  omega
 have g10:=(Sm.get _ (by omega)).trans g1
 simp(disch:=first|omega|simp only[Wd]<;>omega|rfl)only[Wz,OT]
 refine ⟨fun n l h1=>∃i:Nat,slot l 12=.int .i64 (i:Int)∧n=K.length-i∧i≤K.length∧Le h0 h1,
  ⟨_,0,rfl,rfl,by omega,Le.refl _⟩,?_⟩
 rintro n l h1 ⟨i,s1,rfl,hi,bF⟩
 have n1:=bF.nx
 have l1:=bF.lo
 by_cases hlt:i<K.length
 ·obtain ⟨e,he⟩:∃e,K[i]? = some e:=⟨_,List.getElem?_eq_getElem hlt⟩
  have heK:=List.mem_of_getElem? he
  obtain ⟨⟨b',hb',e',he',se⟩,qv⟩:=t0.each e heK
  obtain ⟨b0,o0,hb0,hx0,Cy⟩:=ac1 t0.sl i he (Ov qv.1)
  have R1:=Cy h1 bF
  have qv1:=qv.le bF
  obtain ⟨qx,qc,eq,_⟩:=(show Sl bu h1 e.q e.Q from qv1.1)
  have g11:=(bF.get _ (by omega)).trans g10
  rw[eq] at R1
  simp(disch:=first|omega|simp only[Wd]<;>omega|rfl)only[Wz,s1,eY (show (i:Int)<(K.length:Int) by omega),D6,hx0,R1,g11]
  rw[pP]
  by_cases hn:e.t=t∧e.r=r
  ·rw[bg hn]
   simp(disch:=first|omega|simp only[Wd]<;>omega|rfl)only[Wz]
   obtain ⟨id,hQ,hm⟩:=L.one b' hb' e' he'
   refine hk _ e.Q _ ?_ ?_ ((aL.trans (Sm.trans bF)).trans ((Le.refl h1).new _))
   ·refine .inr ⟨id,H e'.t e'.r,?_⟩
    rw[se.2.2.2,hQ,←se.1,←se.2.1,hn.1,hn.2]
   ·rw[←eq]; exact (qv1.le ((Le.refl h1).new _)).1
  ·rw[aV hn]
   simp(disch:=first|omega|simp only[Wd]<;>omega|rfl)only[Wz,s1]
   exact ⟨_,by omega,i+1,rfl,rfl,by omega,bF.trans ((Le.refl h1).new _)⟩
 ·simp(disch:=first|omega|simp only[Wd]<;>omega|rfl)only[Wz,s1,cW (show (K.length:Int)≤(i:Int) by omega)]
  exact hk _ [] _ (.inl rfl) (Sl.nil _ _ _) (aL.trans (Sm.trans bF))
end
theorem O8 {m:Int} (h:kn m=true):bR 0 m=m:=by
 have key:∀j,j<7→bR 0 (j:Nat)=(j:Nat):=by decide +kernel
 obtain ⟨j,hj,rfl⟩:=jF h
 exact key j hj
theorem je {a b:Int} (ha:kn a=true) (hb:kn b=true) (h0:b≠0):bR a b≠0∧kn (bR a b)=true∧bR a (bR a b)=bR a b∧(jT a b=true→bR a b=a):=by
 have key:∀i:Nat,i<7→∀j:Nat,j<7→(j:Int)≠0→bR (i:Nat) (j:Nat)≠0∧kn (bR (i:Nat) (j:Nat))=true∧bR (i:Nat) (bR (i:Nat) (j:Nat))=bR (i:Nat) (j:Nat)∧(jT (i:Nat) (j:Nat)=true→bR (i:Nat) (j:Nat)=(i:Nat)):=by decide +kernel
 obtain ⟨i,hi,rfl⟩:=jF ha
 obtain ⟨j,hj,rfl⟩:=jF hb
 exact key i hi j hj h0
structure iZ (d d':TD) (k:Nat):Prop where
 f:d.F.length≤d'.F.length+1
 m:∀(j:Nat) (b':TB),d'.Ts[j]? = some b'→∃b,d.Ts[j]? = some b∧b'.M.length≤b.M.length+if j=k then 1 else 0
theorem sy {d:TD} {k:Nat} {b:TB} (hk:d.Ts[k]? = some b) {M':List HE} {cl:Nat} (hl:M'.length≤b.M.length+1) (W':List IE) (yq:Nat) {F':List Int} (hF:d.F.length≤F'.length+1) (B':List Bool):iZ d ⟨d.Ts.set k ⟨b.bb,b.bm,M',cl⟩,W',yq,F',B'⟩ k:=by
 refine ⟨hF,fun j b' hj=>?_⟩
 rcases eW hj with ⟨rfl,rfl⟩ | ⟨hne,hj⟩
 ·exact ⟨b,hk,by rw[if_pos rfl]; exact hl⟩
 ·exact ⟨b',hj,by omega⟩
section
variable {h:Heap} {a:TA} {N:Nat} {d:TD} {H X:Int→Int→Int}
theorem Sw (s:y8 h a N d) (L:Lone d.Ts H X) (hlo:h.lo≤h.nx) (hN:N≤1000) {k:Nat} {b:TB} (hb:d.Ts[k]? = some b) {t r m:Int} (hst:dm t r a.c.S=(k:Int)) (hH:H t r=0) (am:bN m=true) (hF:d.F≠[]) (hh:b.M.length<a.aS) (κ:KQ)
  (hk:∀h' d' id,y8 h' a (N+1) d'→Lone d'.Ts (gM H t r m) X→iZ d d' k→tL d.Ts a.bw a.bp a.bl h h'→d'.Ts.map (·.bm)=d.Ts.map (·.bm)→κ (.tuple ⟨[.int .i64 id,.bool true,.int .i64 0]⟩) h') :
  CallW Tryz.prog 301 [.pointer (some ⟨a.tb,0,none⟩),cN t r,.int .i64 (X t r),.int .i64 m] h κ:=by
 have hno:=L.no hH
 obtain ⟨hm,km⟩:=(iV m).1 am
 refine Jm s hlo hN t r (X t r) m _ ?_ ?_ ?_ ?_ ?_
 ·intro h' hn; omega
 ·intro k' b' h' _ _ hf; rw[am] at hf; cases hf
 ·intro k' b' h' e p hb' _ _ he ht hr; exact absurd ⟨ht,hr⟩ (hno b' (List.mem_of_getElem? hb') e he)
 ·intro k' b' h' hb' zH _ _ hor
  obtain rfl:k'=k:=by omega
  rw[hb] at hb'; cases hb'
  rcases hor with h1 | ⟨_,h1⟩
  ·exact absurd h1 hF
  ·omega
 ·intro k' b' M' clock' F' W' yq h0 h1 h' n g hb' zH _ _ _ ak s' fr
  obtain rfl:k'=k:=by omega
  rw[hb] at hb'; cases hb'
  obtain ⟨Q,w,hold,_,_,hg,st⟩:=ak.set
  rcases hold with ⟨e,he,h1,h2,_⟩ | ⟨_,_,rfl,rfl⟩
  ·exact absurd ⟨h1.symm,h2.symm⟩ (hno b (List.mem_of_getElem? hb) e he)
  ·rw[OW] at hg st
   rw[List.nil_append,tN hm] at st
   subst hg
   have L':=L.settle s hb hst hm clock' st
   have o:=(s.is.bk b (List.mem_of_getElem? hb)).ok
   refine hk h' ⟨_,W',yq,F',d.B.set n true⟩ n s' L' (sy hb (st.cnt o) W' yq ?_ _) fr (BN hb _ _)
   have:=ak.free.length_eq
   rw[List.length_cons] at this
   omega
theorem Sx (s:y8 h a N d) (L:Lone d.Ts H X) (hlo:h.lo≤h.nx) (hN:N≤1000) {k:Nat} {b:TB} (hb:d.Ts[k]? = some b) {t r m id:Int} (hst:dm t r a.c.S=(k:Int)) {e:HE} (he:e∈b.M) (ht:e.t=t) (hr:e.r=r) (hQ:e.Q=[⟨id,X t r,H t r,H t r,0⟩]) (hH:H t r≠0) (km:kn m=true) (hm:m≠0) (κ:KQ)
  (hk:∀h' d',y8 h' a (N+1) d'→Lone d'.Ts (gM H t r (bR (H t r) m)) X→iZ d d' k→tL d.Ts a.bw a.bp a.bl h h'→d'.Ts.map (·.bm)=d.Ts.map (·.bm)→κ (.tuple ⟨[.bool true,.int .i64 0]⟩) h') :
  CallW Tryz.prog 302 [.pointer (some ⟨a.tb,0,none⟩),.int .i64 id,.int .i64 (bR (H t r) m)] h κ:=by
 have Av:=List.mem_of_getElem? hb
 obtain ⟨n0,kns,idem,_⟩:=je (L.km s hH) km hm
 have am:bN (bR (H t r) m)=true:=(iV _).2 ⟨n0,kns⟩
 have UB:∀(k':Nat) (b':TB) (e':HE) (p:R5),d.Ts[k']? = some b'→e'∈b'.M→bV e'.Q id=some p→k'=k∧b'=b∧e'=e∧p=⟨id,X t r,H t r,H t r,0⟩:=by
  intro k' b' e' p hb' he' hf
  obtain ⟨i,hi,hid⟩:=oO ((s.is.bk b' (List.mem_of_getElem? hb')).good e' he').vq hf
  obtain ⟨rfl,rfl⟩:=s.yc (List.mem_of_getElem? hb') Av he' he (List.mem_of_getElem? hi) (by rw[hQ]; exact .head _) hid
  rw[hQ,iw,if_pos rfl] at hf
  have h1:=s.nm k' b' hb' e' he'
  rw[ht,hr] at h1
  exact ⟨by omega,rfl,rfl,(Option.some.inj hf).symm⟩
 refine E7 s hlo hN id _ _ ?_ ?_ ?_ ?_
 ·intro h' hf; rw[am] at hf; cases hf
 ·intro _ hn
  have:=hn b Av e he
  rw[hQ,iw,if_pos rfl] at this
  cases this
 ·intro k' b' h' e' p _ hb' he' hf hp
  obtain ⟨_,_,_,rfl⟩:=UB k' b' e' p hb' he' hf
  simp at hp
 ·intro k' b' h' M' clock' e' p i _ hb' he' hpi hf _ mv s'
  obtain ⟨rfl,rfl,rfl,rfl⟩:=UB k' b' e' p hb' he' hf
  have i0:i=0:=by
   have:=(List.getElem?_eq_some_iff.1 hpi).1
   rw[hQ] at this
   simpa using this
  subst i0
  have st:=mv.set
  rw[hQ,E8,idem,List.set_cons_zero,tN n0,ht,hr] at st
  rw[hQ,E8]
  have L':=L.settle s hb hst n0 clock' st
  have o:=(s.is.bk b' Av).ok
  exact hk h' ⟨_,d.W,d.wc,d.F,d.B⟩ s' L' (sy hb (st.cnt o) _ _ (Nat.le_succ _) _) (tL.Sd Av mv.fr) (BN hb _ _)
theorem KN (s:y8 h a N d) (L:Lone d.Ts H X) (hlo:h.lo≤h.nx) {k:Nat} {b:TB} (hb:d.Ts[k]? = some b) {t r id:Int} (hst:dm t r a.c.S=(k:Int)) {e:HE} (he:e∈b.M) (ht:e.t=t) (hr:e.r=r) (hQ:e.Q=[⟨id,X t r,H t r,H t r,0⟩]) (κ:KQ)
  (hk:∀h' d' v',zB h h' v' []→y8 h' a (N+1) d'→Lone d'.Ts (gM H t r 0) X→iZ d d' k→tL d.Ts a.bw a.bp a.bl h h'→d'.Ts.map (·.bm)=d.Ts.map (·.bm)→κ (.tuple ⟨[v',.int .i64 0]⟩) h') :
  CallW Tryz.prog 352 [.pointer (some ⟨a.tb,0,none⟩),.int .i64 id] h κ:=by
 have Av:=List.mem_of_getElem? hb
 have UB:∀(k':Nat) (b':TB) (e':HE) (p:R5),d.Ts[k']? = some b'→e'∈b'.M→bV e'.Q id=some p→k'=k∧b'=b∧e'=e∧p=⟨id,X t r,H t r,H t r,0⟩:=by
  intro k' b' e' p hb' he' hf
  obtain ⟨i,hi,hid⟩:=oO ((s.is.bk b' (List.mem_of_getElem? hb')).good e' he').vq hf
  obtain ⟨rfl,rfl⟩:=s.yc (List.mem_of_getElem? hb') Av he' he (List.mem_of_getElem? hi) (by rw[hQ]; exact .head _) hid
  rw[hQ,iw,if_pos rfl] at hf
  have h1:=s.nm k' b' hb' e' he'
  rw[ht,hr] at h1
  exact ⟨by omega,rfl,rfl,(Option.some.inj hf).symm⟩
 refine OI s hlo id _ ?_ ?_
 ·intro hn
  have:=hn b Av e he
  rw[hQ,iw,if_pos rfl] at this
  cases this
 ·intro k' b' h' M' clock' F' v' e' p n hb' he' hf hid B4 hpF mv ho s'
  obtain ⟨rfl,rfl,rfl,rfl⟩:=UB k' b' e' p hb' he' hf
  have ahX:(e'.Q.filter fun r=>!b6 id r)=[]:=by rw[hQ]; simp[b6]
  have st:=mv.set
  rw[ahX] at st ho
  rw[ht,hr] at st
  have L':=L.gone s hb hst clock' st
  have o:=(s.is.bk b' Av).ok
  refine hk h' ⟨_,d.W,d.wc,F',d.B.set n false⟩ v' ho s' L' (sy hb (st.cnt o) _ _ ?_ _) (tL.Sd Av mv.fr) (BN hb _ _)
  have:=hpF.length_eq
  rw[List.length_append,List.length_singleton] at this
  omega
end
theorem tQ (H:Int→Int→Int) (t r:Int):gM H t r (H t r)=H:=by
 funext t' r'
 unfold gM
 split
 ·rename_i e; rw[e.1,e.2]
 ·rfl
theorem iZ.refl (d:TD) (k:Nat):iZ d d k:=⟨Nat.le_succ _,fun j b' hj=>⟨b',hj,Nat.le_add_right _ _⟩⟩
section
variable {h:Heap} {A:WA} {a:TA} {N:Nat} {d:TD} {R:RD} {H X:Int→Int→Int}
theorem yF (s:WS h A a N d R) (L:Lone d.Ts H X) (hN:N≤1000) {i k:Nat} {c:CR} (hi:R.cs[i]? = some (some c)) {b:TB} (hb:d.Ts[k]? = some b) (hst:dm c.a.t c.a.r a.c.S=(k:Int)) (hx:c.a.x=X c.a.t c.a.r) (hx0:0≤c.a.x) (km:kn c.a.m=true) (hm:c.a.m≠0) (hF:H c.a.t c.a.r=0→d.F≠[]) (hh:H c.a.t c.a.r=0→b.M.length<a.aS)
  (y6:List Value) (hl:slot y6 19=.int .i64 (H c.a.t c.a.r)) (id:Int) (hid:H c.a.t c.a.r≠0→∃e∈b.M,e.t=c.a.t∧e.r=c.a.r∧e.Q=[⟨id,X c.a.t c.a.r,H c.a.t c.a.r,H c.a.t c.a.r,0⟩]) (κ:KQ)
  (hk:∀h' d',WS h' A a (N+1) d' { R with cs:=R.cs.set i (some { c with out:=1 }) }→Lone d'.Ts (gM H c.a.t c.a.r (bR (H c.a.t c.a.r) c.a.m)) X→iZ d d' k→WK a h h'→κ (.tuple ⟨[]⟩) h') :
  oI (.pointer (some ⟨c.ca,0,none⟩)) y6 (.int .i64 id) h κ:=by
 obtain ⟨gc,c1,c2⟩:=bD s hi
 have gc':=gc
 unfold bO at gc'
 have gw:=s.r.gw
 unfold oI
 simp(disch:=first|omega|simp only[Wd]<;>omega|rfl)only[Wz,hl,az,gc',gw]
 refine uE _ _ ?_
 simp(disch:=first|omega|simp only[Wd]<;>omega|rfl)only[Wz,az,gc',gw]
 refine yE s L c.a.t c.a.r _ ?_
 intro v Q h1 hQ hv bF
 obtain ⟨vx,vc,ev,_⟩:=(show Sl bu h1 v Q from hv)
 have hlen:∀(β:Type) (fl:β) (h':Heap) (κ:Value→Heap→β),bB fl v h' κ=κ (.int .i64 (Q.length:Int)) h':=fun β fl h' κ=>by rw[ev]; exact eV _ _ _ _ _
 have hQl:Q.length≤1:=by rcases hQ with rfl | ⟨_,_,rfl⟩<;>simp
 simp(disch:=first|omega|simp only[Wd]<;>omega|rfl)only[Wz,hlen]
 refine ⟨fun n l h2=>∃j:Nat,slot l 29=.int .i64 (j:Int)∧n=Q.length-j∧j≤Q.length∧Le h1 h2,⟨_,0,rfl,rfl,by omega,Le.refl _⟩,?_⟩
 rintro n l h2 ⟨j,s1,rfl,hj,bt⟩
 have n2:=bt.nx
 have l2:=bt.lo
 have n1:=bF.nx
 have l1:=bF.lo
 have hlo:=s.lo
 by_cases hlt:j<Q.length
 ·obtain ⟨p,hp⟩:∃p,Q[j]? = some p:=⟨_,List.getElem?_eq_getElem hlt⟩
  obtain ⟨b4,o4,hb4,Uw,Lw,_⟩:=NI hv j hp
  have hpx:0≤p.x:=by
   have hm:=List.mem_of_getElem? hp
   rcases hQ with rfl | ⟨i',m',rfl⟩
   ·nomatch hm
   ·rw[List.mem_singleton] at hm; subst hm; show 0≤X c.a.t c.a.r; omega
  rw[←bt.get _ hb4] at Lw
  simp(disch:=first|omega|simp only[Wd]<;>omega|rfl)only[Wz,oH,s1,eY (show (j:Int)<(Q.length:Int) by omega)]
  refine ⟨fun l' h'=>Le h1 h',?_,?_⟩
  ·simp(disch:=first|omega|simp only[Wd]<;>omega|rfl)only[Wz,xB,s1,Uw,Lw,bu,cW (show (0:Int)≤p.x by omega)]
   exact bt.trans ((Le.refl h2).new _)
  ·intro l' h' le'
   exact ⟨_,by omega,j+1,rfl,rfl,by omega,le'⟩
 ·have jI:=bF.trans bt
  have s2:=s.le jI
  have tJ:=(jI.get _ c1).trans gc
  have tP:=tJ
  unfold bO at tP
  have Qh:=s2.r.gw
  have k02:=s.Jp jI
  simp(disch:=first|omega|simp only[Wd]<;>omega|rfl)only[Wz,oH,s1,cW (show (Q.length:Int)≤(j:Int) by omega),xE,az,tP,hl]
  refine mL _ _ ?_
  have fin:∀h' d',WS h' A a (N+1) d' R→Lone d'.Ts (gM H c.a.t c.a.r (bR (H c.a.t c.a.r) c.a.m)) X→iZ d d' k→WK a h h'→κ (.tuple ⟨[]⟩) ⟨h'.nx,h'.bl.aT c.ca (bO A.wb { c with out:=1 }),h'.lo⟩:=fun h' d' s' L' g' w'=>by
   obtain ⟨sq,_,_⟩:=bD s' hi
   exact hk _ d' (WS.gX s' hi rfl) L' g' (w'.trans (WS.sn s' sq (by simp[lW]) (by decide) _))
  unfold bO at fin
  by_cases Fc:jT (H c.a.t c.a.r) c.a.m=true
  ·have hH:H c.a.t c.a.r≠0:=fun h0=>by rw[h0] at Fc; exact hm (Vt Fc)
   have hs:=(je (L.km s.t hH) km hm).2.2.2 Fc
   rw[Fc]
   simp(disch:=first|omega|simp only[Wd]<;>omega|rfl)only[Wz,az,tP]
   refine fin h2 d (s2.up (Nat.le_succ _)) (by rw[hs,tQ]; exact L) (iZ.refl _ _) k02
  ·rw[Bool.not_eq_true] at Fc
   rw[Fc]
   simp(disch:=first|omega|simp only[Wd]<;>omega|rfl)only[Wz]
   refine ⟨fun l' h'=>∃d',slot l' 39=.bool true∧slot l' 40=.int .i64 0∧WS h' A a (N+1) d' R∧Lone d'.Ts (gM H c.a.t c.a.r (bR (H c.a.t c.a.r) c.a.m)) X∧iZ d d' k∧WK a h h',?_,?_⟩
   ·by_cases hH:H c.a.t c.a.r=0
    ·have am:bN c.a.m=true:=(iV _).2 ⟨hm,km⟩
     rw[hH,O8 km]
     simp(disch:=first|omega|simp only[Wd]<;>omega|rfl)only[Wz,hl,hH,xC,az,tP,Qh]
     rw[hx]
     refine Sw s2.t L (by omega) hN hb hst hH am (hF hH) (hh hH) _ ?_
     intro h3 d3 id3 t3 L3 g3 f3 b3
     simp(disch:=first|omega|simp only[Wd]<;>omega|rfl)only[Wz]
     exact ⟨d3,trivial,trivial,s2.table t3 f3 b3,L3,g3,k02.trans (s2.kfr f3)⟩
    ·simp(disch:=first|omega|simp only[Wd]<;>omega|rfl)only[Wz,hl,aV hH,DO,az,tP,Qh]
     obtain ⟨e,he,het,her,heQ⟩:=hid hH
     refine Sx s2.t L (by omega) hN hb hst he het her heQ hH km hm _ ?_
     intro h3 d3 t3 L3 g3 f3 b3
     simp(disch:=first|omega|simp only[Wd]<;>omega|rfl)only[Wz]
     exact ⟨d3,trivial,trivial,s2.table t3 f3 b3,L3,g3,k02.trans (s2.kfr f3)⟩
   ·rintro l' h3 ⟨d3,e1,e2,s3,L3,g3,k3⟩
    obtain ⟨sq,_,_⟩:=bD s3 hi
    unfold bO at sq
    simp(disch:=first|omega|simp only[Wd]<;>omega|rfl)only[Wz,xD,e2,DQ,DP,e1,az,sq]
    exact fin h3 d3 s3 L3 g3 k3
end
section
variable {h:Heap} {A:WA} {a:TA} {N:Nat} {d:TD} {R:RD} {H X:Int→Int→Int}
theorem Sy (s:WS h A a N d R) (L:Lone d.Ts H X) (hN:N≤1000) {i k:Nat} {c:CR} (hi:R.cs[i]? = some (some c)) {b:TB} (hb:d.Ts[k]? = some b) (hst:dm c.a.t c.a.r a.c.S=(k:Int)) (hx:c.a.x=X c.a.t c.a.r) (hx0:0≤c.a.x) (km:kn c.a.m=true) (hm:c.a.m≠0) (hF:H c.a.t c.a.r=0→d.F≠[]) (hh:H c.a.t c.a.r=0→b.M.length<a.aS) (κ:KQ)
  (hk:∀h' d',WS h' A a (N+1) d' { R with cs:=R.cs.set i (some { c with out:=1 }) }→Lone d'.Ts (gM H c.a.t c.a.r (bR (H c.a.t c.a.r) c.a.m)) X→iZ d d' k→WK a h h'→κ (.tuple ⟨[]⟩) h') :
  CallW Tryz.prog 212 [.pointer (some ⟨c.ca,0,none⟩)] h κ:=by
 obtain ⟨gc,c1,c2⟩:=bD s hi
 have gc':=gc
 unfold bO at gc'
 have gw:=s.r.gw
 have hlo:=s.lo
 refine an mixed ?_
 rw[Nx]
 simp(disch:=first|omega|simp only[Wd]<;>omega|rfl)only[Wz,az,gc',gw]
 rw[hx]
 refine sx s.t L hlo c.a.t c.a.r _ ?_ ?_
 ·intro hH h1 bF
  have s1:=s.le bF
  simp(disch:=first|omega|simp only[Wd]<;>omega|rfl)only[Wz]
  refine ⟨fun l' h'=>slot l' 19=.int .i64 (H c.a.t c.a.r)∧Le h1 h',⟨by rw[hH]; rfl,Le.refl _⟩,?_⟩
  rintro l' h2 ⟨sl,bt⟩
  exact yF (s1.le bt) L hN hi hb hst hx hx0 km hm hF hh l' sl 0 (fun h0=>absurd hH h0) κ fun h' d' s' L' g' k'=>hk h' d' s' L' g' ((s.Jp (bF.trans bt)).trans k')
 ·intro hH h1 k' b' e id hb' zH he ht hr hQ bF
  obtain rfl:k'=k:=by omega
  rw[hb] at hb'; cases hb'
  have s1:=s.le bF
  obtain ⟨y9,_,_⟩:=bD s1 hi
  unfold bO at y9
  have Uv:=s1.r.gw
  have n1:=bF.nx
  have l1:=bF.lo
  simp(disch:=first|omega|simp only[Wd]<;>omega|rfl)only[Wz]
  refine ⟨fun l' h'=>slot l' 19=.int .i64 (H c.a.t c.a.r)∧Le h1 h',?_,?_⟩
  ·simp(disch:=first|omega|simp only[Wd]<;>omega|rfl)only[Wz,DN,az,y9,Uv]
   refine Sv s1.t (by omega) (List.mem_of_getElem? hb) he hQ _ ?_
   intro h2 bt
   have n2:=bt.nx
   have l2:=bt.lo
   simp(disch:=first|omega|simp only[Wd]<;>omega|rfl)only[Wz,cN,kK,bu]
   exact ⟨trivial,(((bt.new _).new _).set (by omega) _).set (by show h1.nx≤h2.nx+1; omega) _⟩
  ·rintro l' h2 ⟨sl,bt⟩
   exact yF (s1.le bt) L hN hi hb hst hx hx0 km hm hF hh l' sl id (fun _=>⟨e,he,ht,hr,hQ⟩) κ fun h' d' s' L' g' k'=>hk h' d' s' L' g' ((s.Jp (bF.trans bt)).trans k')
theorem O9 (s:WS h A a N d R) (L:Lone d.Ts H X) {i k:Nat} {c:CR} (hi:R.cs[i]? = some (some c)) {b:TB} (hb:d.Ts[k]? = some b) (hst:dm c.a.t c.a.r a.c.S=(k:Int)) {id:Int} {e:HE} (he:e∈b.M) (ht:e.t=c.a.t) (hr:e.r=c.a.r) (hQ:e.Q=[⟨id,X c.a.t c.a.r,H c.a.t c.a.r,H c.a.t c.a.r,0⟩]) (κ:KQ)
  (hk:∀h' d',WS h' A a (N+1) d' R→Lone d'.Ts (gM H c.a.t c.a.r 0) X→iZ d d' k→WK a h h'→κ (.tuple ⟨[]⟩) h') :
  CallW Tryz.prog 300 [.pointer (some ⟨c.ca,0,none⟩),.int .i64 id] h κ:=by
 obtain ⟨gc,c1,c2⟩:=bD s hi
 have gc':=gc
 unfold bO at gc'
 have gw:=s.r.gw
 have hlo:=s.lo
 refine an mixed ?_
 rw[Xk]
 simp(disch:=first|omega|simp only[Wd]<;>omega|rfl)only[Wz,az,gc',gw]
 refine KN s.t L hlo hb hst he ht hr hQ _ ?_
 intro h1 d1 v1 ho t1 L1 g1 f1 b1
 have s1:=s.table t1 f1 b1
 obtain ⟨y9,k1,k2⟩:=bD s1 hi
 have gcx:=y9
 unfold bO at gcx
 have e1:(h1.bl.aT c.ca (bO A.wb c))=h1.bl.aT c.ca (bO A.wb c):=rfl
 simp(disch:=first|omega|simp only[Wd]<;>omega|rfl)only[Wz,az,gcx]
 rw[append_nil ho.sl ⟨_,_,_,rfl⟩]
 simp(disch:=first|omega|simp only[Wd]<;>omega|rfl)only[Wz,az,gcx]
 have s2:=WS.gX s1 hi (c':=c) rfl
 have hcs:R.cs.set i (some c)=R.cs:=by
  refine List.ext_getElem? fun j=>?_
  rw[List.getElem?_set]
  split
  ·rename_i e; subst e
   rw[hi,if_pos (List.getElem?_eq_some_iff.1 hi).1]
  ·rfl
 rw[hcs] at s2
 have hk:=hk _ d1 s2 L1 g1 ((s.kfr f1).trans (WS.sn s1 y9 (by simp[lW]) (by decide) _))
 unfold bO at hk
 exact hk
theorem Sz (s:WS h A a N d R) (L:Lone d.Ts H X) {i k:Nat} {c:CR} (hi:R.cs[i]? = some (some c)) {b:TB} (hb:d.Ts[k]? = some b) (hst:dm c.a.t c.a.r a.c.S=(k:Int)) (hx:c.a.x=X c.a.t c.a.r) (κ:KQ)
  (hk:∀h' d',WS h' A a (N+1) d' { R with cs:=R.cs.set i (some { c with out:=if H c.a.t c.a.r=0 then 6 else 1 }) }→Lone d'.Ts (gM H c.a.t c.a.r 0) X→iZ d d' k→WK a h h'→κ (.tuple ⟨[]⟩) h') :
  CallW Tryz.prog 213 [.pointer (some ⟨c.ca,0,none⟩)] h κ:=by
 obtain ⟨gc,c1,c2⟩:=bD s hi
 have gc':=gc
 unfold bO at gc'
 have gw:=s.r.gw
 have hlo:=s.lo
 have fin:∀h' d',WS h' A a (N+1) d' R→Lone d'.Ts (gM H c.a.t c.a.r 0) X→iZ d d' k→WK a h h'→κ (.tuple ⟨[]⟩) ⟨h'.nx,h'.bl.aT c.ca (bO A.wb { c with out:=if H c.a.t c.a.r=0 then 6 else 1 }),h'.lo⟩:=fun h' d' s' L' g' w'=>by
  obtain ⟨sq,_,_⟩:=bD s' hi
  exact hk _ d' (WS.gX s' hi rfl) L' g' (w'.trans (WS.sn s' sq (by simp[lW]) (by decide) _))
 unfold bO at fin
 refine an mixed ?_
 rw[WQ]
 simp(disch:=first|omega|simp only[Wd]<;>omega|rfl)only[Wz,az,gc',gw]
 rw[hx]
 refine sx s.t L hlo c.a.t c.a.r _ ?_ ?_
 ·intro hH h1 bF
  have s1:=s.le bF
  obtain ⟨y9,_,_⟩:=bD s1 hi
  unfold bO at y9
  simp(disch:=first|omega|simp only[Wd]<;>omega|rfl)only[Wz,az,y9]
  have:=fin h1 d (s1.up (Nat.le_succ _)) (by have:=tQ H c.a.t c.a.r; rw[hH] at this; rw[this]; exact L) (iZ.refl _ _) (s.Jp bF)
  rw[if_pos hH] at this
  exact this
 ·intro hH h1 k' b' e id hb' zH he ht hr hQ bF
  obtain rfl:k'=k:=by omega
  rw[hb] at hb'; cases hb'
  have s1:=s.le bF
  simp(disch:=first|omega|simp only[Wd]<;>omega|rfl)only[Wz]
  refine O9 s1 L hi hb hst he ht hr hQ _ ?_
  intro h2 d2 s2 L2 g2 k2
  obtain ⟨tJ,_,_⟩:=bD s2 hi
  unfold bO at tJ
  simp(disch:=first|omega|simp only[Wd]<;>omega|rfl)only[Wz,az,tJ]
  have:=fin h2 d2 s2 L2 g2 ((s.Jp bF).trans k2)
  rw[if_neg hH] at this
  exact this
end
def Fe (k:Int) (f:FuncId) (n:Nat):MapEntry:={ key:=.int .i64 k,val:=.func (.func f) ⟨[]⟩ ⟨[]⟩,born:=n }
noncomputable def Ff:bC:=.map [Fe 1 212 0,Fe 2 213 1,Fe 3 214 2] 3
theorem findF (h:Heap) (k k':Int) (f:FuncId) (n:Nat) (es:List MapEntry) (i:Nat):fR Tryz.prog h 3 (.int .i64 k) (Fe k' f n::es) i=if k=k' then some (some (i,Fe k' f n)) else fR Tryz.prog h 3 (.int .i64 k) es (Nat.succ i):=by
 have hf:fR Tryz.prog h 3 (.int .i64 k) (Fe k' f n::es) i=(match (some (decide (k=k')):Option Bool) with | some true=>some (some (i,Fe k' f n)) | some false=>fR Tryz.prog h 3 (.int .i64 k) es (Nat.succ i) | none=>none):=by
  rw[←eqI h]; rfl
 rw[hf]
 by_cases e:k=k'
 ·rw[bg e,if_pos e]
 ·rw[aV e,if_neg e]
theorem Hi {es:List MapEntry} {clock:Nat} {h:Heap} {b:Nat} (g:h.bl.get b=some (.map es clock)) (hlo:h.lo≤b) (k:Int) (f:FuncId) (hf:∀h:Heap,fR Tryz.prog h 3 (.int .i64 k) es 0=some none) (κ:KQ)
  (hk:κ undef ⟨h.nx,h.bl.aT b (.map (es++[Fe k f clock]) (clock+1)),h.lo⟩) :
  cw False Tryz.prog 3 (.map (some b)) (.int .i64 k) (.func (.func f) ⟨[]⟩ ⟨[]⟩) h κ:=by
 unfold cw
 rw[OB]
 simp only[g,hf]
 rw[ot]
 simp only[bT]
 rw[bU _ _ _ _ hlo]
 exact hk
theorem Hj (h:Heap) (κ:KQ) (hlo:h.lo≤h.nx) (hk:∀b h',Le h h'→h'.bl.get b=some Ff→κ (.map (some b)) h'):CallW Tryz.prog 158 [] h κ:=by
 refine an mixed ?_
 rw[V_]
 simp(disch:=first|omega|simp only[Wd]<;>omega|rfl)only[Wz,iB]
 refine Hi (es:=[]) (T.af _ _ _) (by exact hlo) 1 212 (fun h=>rfl) _ ?_
 refine Hi (T.af _ _ _) (by exact hlo) 2 213 (fun h=>by rw[List.nil_append,findF,if_neg (by decide)]; rfl) _ ?_
 refine Hi (T.af _ _ _) (by exact hlo) 3 214 (fun h=>by rw[List.nil_append,List.singleton_append,findF,if_neg (by decide),findF,if_neg (by decide)]; rfl) _ ?_
 exact hk h.nx _ ((((Le.refl h).new _).set (Nat.le_refl _) _).set (Nat.le_refl _) _ |>.set (Nat.le_refl _) _) (T.af _ _ _)
theorem O_ {β:Type} {fl:β} {h:Heap} {b:Nat} (g:h.bl.get b=some Ff) (k:Int) (f:FuncId) (hk:(k=1∧f=212)∨(k=2∧f=213)) (κ:Value→Heap→β) :
  cV fl Tryz.prog 3 Value.nilFunc false (.map (some b)) (.int .i64 k) h κ=κ (.func (.func f) ⟨[]⟩ ⟨[]⟩) h:=by
 unfold cV ja
 rw[OB]
 simp only[g,Ff]
 rcases hk with ⟨rfl,rfl⟩ | ⟨rfl,rfl⟩
 ·rw[findF,if_pos rfl]; rfl
 ·rw[findF,if_neg (by decide),findF,if_pos rfl]; rfl
section
variable {h:Heap} {A:WA} {a:TA} {N:Nat} {d:TD} {R:RD} {H X:Int→Int→Int}
theorem SA (s:WS h A a N d R) (L:Lone d.Ts H X) (hN:N≤1000) {i k:Nat} {c:CR} (hi:R.cs[i]? = some (some c)) (s9:c.wt=false) {b:TB} (hb:d.Ts[k]? = some b) (hst:dm c.a.t c.a.r a.c.S=(k:Int)) (hx:c.a.x=X c.a.t c.a.r) (hx0:0≤c.a.x) (hm:kO c.a=true) (h3:c.a.k≠3) (hF:c.a.k=1→H c.a.t c.a.r=0→d.F≠[]) (hh:c.a.k=1→H c.a.t c.a.r=0→b.M.length<a.aS) (κ:KQ)
  (hk:∀h' d',WS h' A a (N+1) d' { R with cs:=R.cs.set i (some { c with ph:=3,out:=tO H c.a }) }→Lone d'.Ts (He H c.a) X→iZ d d' k→WK a h h'→κ (.tuple ⟨[]⟩) h') :
  CallW Tryz.prog 106 [.pointer (some ⟨c.ca,0,none⟩)] h κ:=by
 obtain ⟨gc,c1,c2⟩:=bD s hi
 have gc':=gc
 unfold bO at gc'
 have hlo:=s.lo
 have hil:=(List.getElem?_eq_some_iff.1 hi).1
 unfold kO at hm
 rw[Bool.and_eq_true] at hm
 have hm:=hm.2
 have fin:∀h' d',WS h' A a (N+1) d' { R with cs:=R.cs.set i (some { c with out:=tO H c.a }) }→Lone d'.Ts (He H c.a) X→iZ d d' k→WK a h h'→
   CallW Tryz.prog 57 [.pointer (some ⟨c.ca,0,none⟩),.int .i64 3,.func (.func 159) ⟨[.pointer (some ⟨c.ca,0,none⟩)]⟩ ⟨[]⟩] h' (fun _ h=>κ (.tuple ⟨[]⟩) h):=by
  intro h' d' s' L' g' k'
  have hi':(R.cs.set i (some { c with out:=tO H c.a }))[i]? = some (some { c with out:=tO H c.a }):=by rw[List.getElem?_set,if_pos rfl,if_pos hil]
  obtain ⟨sq,_,c3⟩:=bD s' hi'
  refine BT { c with out:=tO H c.a } sq c3 3 _ rfl _ ?_
  have s4:=WS.gX s' hi' (c':={ c with ph:=3,out:=tO H c.a }) rfl
  simp only[List.set_set] at s4
  exact hk _ d' s4 L' g' (k'.trans (WS.sn s' sq (by simp[lW]) (by decide) _))
 refine an mixed ?_
 rw[GD]
 refine ⟨fun l' h'=>∃d',WS h' A a (N+1) d' { R with cs:=R.cs.set i (some { c with out:=tO H c.a }) }∧Lone d'.Ts (He H c.a) X∧iZ d d' k∧WK a h h',?_,?_⟩
 ·simp(disch:=first|omega|simp only[Wd]<;>omega|rfl)only[Wz,rR,az,gc',s9,rQ]
  refine Hj h _ hlo ?_
  intro b0 h1 bF g0
  have s1:=s.le bF
  have k1:=s.Jp bF
  have y9:=(bF.get _ c1).trans gc'
  unfold tO He
  by_cases ha:c.a.k=1
  ·rw[if_pos ha] at hm ⊢
   rw[if_pos ha]
   rw[Bool.and_eq_true,Bool.and_eq_true,decide_eq_true_eq] at hm
   simp(disch:=first|omega|simp only[Wd]<;>omega|rfl)only[Wz,O_ g0 _ _ (.inl ⟨ha,rfl⟩),az,y9,List.nil_append,List.append_nil]
   refine Sy s1 L hN hi hb hst hx hx0 hm.1.1 hm.1.2 (hF ha) (hh ha) _ ?_
   intro h2 d2 s2 L2 g2 k2
   rw[s9] at s2
   exact ⟨d2,s2,L2,g2,k1.trans k2⟩
  ·rw[if_neg ha,if_neg h3,decide_eq_true_eq] at hm
   rw[if_neg ha,if_neg ha]
   simp(disch:=first|omega|simp only[Wd]<;>omega|rfl)only[Wz,O_ g0 _ _ (.inr ⟨hm,rfl⟩),az,y9,List.nil_append,List.append_nil]
   refine Sz s1 L hi hb hst hx _ ?_
   intro h2 d2 s2 L2 g2 k2
   rw[s9] at s2
   exact ⟨d2,s2,L2,g2,k1.trans k2⟩
 ·rintro l' h' ⟨d',s',L',g',k'⟩
  exact fin h' d' s' L' g' k'
theorem yG (s:WS h A a N d R) (L:Lone d.Ts H X) (hN:N≤1000) {i k:Nat} {c:CR} (hi:R.cs[i]? = some (some c)) (su:c.ph=2) (YB:R.bits[i]? = some 0) (s9:c.wt=false) {b:TB} (hb:d.Ts[k]? = some b) (hst:dm c.a.t c.a.r a.c.S=(k:Int)) (hsk:c.st=(k:Int)) {o:Option (Nat × Int)} (hl:R.dn[k]? = some o) (hx:c.a.x=X c.a.t c.a.r) (hx0:0≤c.a.x) (hm:kO c.a=true) (h3:c.a.k≠3) (hF:c.a.k=1→H c.a.t c.a.r=0→d.F≠[]) (hh:c.a.k=1→H c.a.t c.a.r=0→b.M.length<a.aS) (κ:KQ)
  (hk:∀h' d',WS h' A a (N+1) d' { R with cs:=R.cs.set i (some { c with ph:=3,out:=tO H c.a }) }→Lone d'.Ts (He H c.a) X→iZ d d' k→WK a h h'→κ (.tuple ⟨[.bool false,.int .i64 0,.int .i64 0]⟩) h') :
  CallW Tryz.prog 15 [.pointer (some ⟨A.wb,0,none⟩),.int .i64 (i:Int)] h κ:=by
 have gw:=s.r.gw
 have St:=s.r.gc
 have hil:=uM s hi
 have r:(R.cs.map fun o=>cQ (o.map (·.ca)))[i]? = some (.pointer (some ⟨c.ca,0,none⟩)):=iY s hi
 obtain ⟨gc,c1,c2⟩:=bD s hi
 have hlc:(R.cs.map fun o=>cQ (o.map (·.ca))).length=A.n:=by rw[List.length_map]; exact s.r.lc
 have gc':=gc
 unfold bO uL at gc'
 rw[su] at gc'
 have h1:decide (((2:Nat):Int)=1)=false:=by decide
 refine an mixed ?_
 rw[Dd]
 simp(disch:=first|omega|simp only[Wd]<;>omega|rfl)only[Wz,f_,pL]
 refine kP s hil _ ?_
 simp(disch:=first|omega|simp only[Wd]<;>omega|rfl)only[Wz]
 refine lK s hi YB hsk hl _ ?_
 rw[su,h1]
 simp(disch:=first|omega|simp only[Wd]<;>omega|rfl)only[Wz,Bool.not_false,Bool.true_or,pK,az,gw,aW,St,r,gc',Nat.mul_one,nj]
 refine SA s L hN hi s9 hb hst hx hx0 hm h3 hF hh _ ?_
 intro h' d' s' L' g' k'
 have hi':(R.cs.set i (some { c with ph:=3,out:=tO H c.a }))[i]? = some (some { c with ph:=3,out:=tO H c.a }):=by rw[List.getElem?_set,if_pos rfl,if_pos (by have:=s.r.lc; omega)]
 obtain ⟨tJ,_,_⟩:=bD s' hi'
 unfold bO at tJ
 simp(disch:=first|omega|simp only[Wd]<;>omega|rfl)only[Wz,az,tJ]
 exact hk h' d' s' L' g' k'
end
theorem Fg (n:Nat):aU [Value.int .i64 0] n=Hg (List.replicate n 0):=by
 unfold Hg
 induction n with
 | zero=>rfl
 | succ n ih=>rw[List.replicate_succ,List.map_cons,←ih]; rfl
theorem yH (n:Nat):aU [Value.pointer none] n=List.replicate n (.pointer none):=by
 induction n with
 | zero=>rfl
 | succ n ih=>rw[List.replicate_succ,←ih]; rfl
theorem qV (v:Value) (n:Nat):(aU [v] n).length=n:=by
 induction n with
 | zero=>rfl
 | succ n ih=>show (v::aU [v] n).length=_; rw[List.length_cons,ih]
theorem Fh (n:Nat) (hn:1≤n∧n≤8) (h:Heap) (κ:KQ)
  (hk:∀h' pb ib,Le h h'→h.nx≤ib→ib<h'.nx→pb<h'.nx→h'.bl.get pb=some (aa [.slice (some ⟨ib,0,none⟩) n n] 244 false)→h'.bl.get ib=some (aa (Hg (List.replicate n 0)) 3 false)→κ (.tuple ⟨[.pointer (some ⟨pb,0,none⟩),.int .i64 0]⟩) h') :
  CallW Tryz.prog 99 [.int .i64 (n:Int)] h κ:=by
 refine an mixed ?_
 rw[abC]
 have hrl:=qV (.int .i64 0) n
 simp(disch:=first|omega|simp only[Wd]<;>omega|rfl)only[Wz,cW (show (1:Int)≤(n:Int) by omega),cW (show (n:Int)≤8 by omega)]
 rw[Bm _ _ _ _ _ (by omega) (by omega),Fg]
 simp(disch:=first|omega|simp only[Wd]<;>omega|rfl)only[Wz]
 exact hk _ _ _ (((Le.refl h).new _).new _) (Nat.le_refl _) (by show h.nx<h.nx+1+1; omega) (by show h.nx+1<h.nx+1+1; omega) (T.af _ _ _) ((T.ai _ _ (by omega)).trans (T.af _ _ _))
theorem Hl (n:Nat) (hn:1≤n∧n≤16) (h:Heap) (κ:KQ)
  (hk:∀h' lb hb,Le h h'→h.nx≤hb→hb<h'.nx→lb<h'.nx→h'.bl.get lb=some (aa [.slice (some ⟨hb,0,none⟩) n n] 247 false)→h'.bl.get hb=some (aa (List.replicate n (.pointer none)) 251 false)→κ (.tuple ⟨[.pointer (some ⟨lb,0,none⟩),.int .i64 0]⟩) h') :
  CallW Tryz.prog 100 [.int .i64 (n:Int)] h κ:=by
 refine an mixed ?_
 rw[Vx]
 have hrl:=qV (.pointer none) n
 simp(disch:=first|omega|simp only[Wd]<;>omega|rfl)only[Wz,cW (show (1:Int)≤(n:Int) by omega),cW (show (n:Int)≤16 by omega)]
 rw[Bm _ _ _ _ _ (by omega) (by omega),yH]
 simp(disch:=first|omega|simp only[Wd]<;>omega|rfl)only[Wz]
 exact hk _ _ _ (((Le.refl h).new _).new _) (Nat.le_refl _) (by show h.nx<h.nx+1+1; omega) (by show h.nx+1<h.nx+1+1; omega) (T.af _ _ _) ((T.ai _ _ (by omega)).trans (T.af _ _ _))
theorem Ho (h:Heap) (κ:KQ)
  (hk:κ (.pointer (some ⟨h.nx,0,none⟩)) ⟨h.nx+1,h.bl.aT h.nx (aa [.int .i64 0,.slice none 0 0] 200 false),h.lo⟩) :
  CallW Tryz.prog 101 [] h κ:=by
 refine an mixed ?_
 rw[Vy]
 simp(disch:=first|omega|simp only[Wd]<;>omega|rfl)only[Wz]
 exact hk
theorem Pb {h:Heap} {a:TA} {N:Nat} {d:TD} (s:y8 h a N d) (hB:jO d.B=[]):(∀b∈d.Ts,b.M=[])∧d.F.length=d.B.length:=by
 constructor
 ·intro b hb
  cases hM:b.M with
  | nil=>rfl
  | cons e M=>
   exfalso
   have he:e∈b.M:=by rw[hM]; exact .head _
   have ids:=s.ids
   rw[hB] at ids
   have zD:=ids.eq_nil
   have g:=((s.is.bk b hb).good e he)
   cases hQ:e.Q with
   | nil=>exact g.ne hQ
   | cons p Q=>
    have:p.id∈d.Ts.flatMap fun b=>fE b.M:=List.mem_flatMap.2 ⟨b,hb,by
     unfold fE
     exact List.mem_flatMap.2 ⟨e,he,List.mem_map.2 ⟨p,by rw[hQ]; exact .head _,rfl⟩⟩⟩
    rw[zD] at this
    cases this
 ·have:=r8 s.is.aY.ok
  rw[hB] at this
  simpa using this
structure Pc (A:WA) (a:TA) (d:TD) (R:RD) (c:fZ) (n:Nat):Prop where
 ec:a.c=c
 en:A.n=n
 hd:(a.aS:Int)=c.H
 em:∀b∈d.Ts,b.M=[]
 f:(d.F.length:Int)=c.R
 cs:R.cs=List.replicate n none
 dn:R.dn=List.replicate c.S.toNat none
 bits:R.bits=List.replicate n 0
 begun:R.begun=0
 now:R.now=0
 tv:R.tv=.slice none 0 0
theorem yI (a:Option Nat):(Value.cells (.map a)).toList=[.map a]:=id rfl
theorem ahZ (n:Nat) (hn:n≤8) (h:Heap) (κ:KQ) (hk:κ (.slice (some ⟨h.nx,0,none⟩) n n) ⟨h.nx+1,h.bl.aT h.nx (aa (List.replicate n (.pointer none)) 118 false),h.lo⟩) :
  B8 (match Value.int .i64 (n:Int),Value.int .i64 (n:Int) with | .int _ (.ofNat l),.int _ (.ofNat c)=>(match Nat.ble l c,Nat.ble c 1000000 with | true,true=>(aF none (aU [(Value.pointer none)] c) 118 false fun o=>some (o,sliceTo l c)) | _,_=>none) | _,_=>none) h κ:=by
 have e1:Nat.ble n n=true:=by rw[Nat.ble_eq]; exact Nat.le_refl _
 have e2:Nat.ble n 1000000=true:=by rw[Nat.ble_eq]; omega
 have hl:=qV (.pointer none) n
 show B8 (match Nat.ble n n,Nat.ble n 1000000 with | true,true=>(aF none (aU [(Value.pointer none)] n) 118 false fun o=>some (o,sliceTo n n)) | _,_=>none) h κ
 rw[e1,e2]
 simp only
 rw[iu,wQ,yH]
 ·exact hk
 ·omega
theorem YN (c:fZ) (hc:iX c) (n:Nat) (hn:1≤n∧n≤8) (h:Heap) (hlo:h.lo≤h.nx) (κ:KQ)
  (hk:∀h' A a d R,Pc A a d R c n→WS h' A a 0 d R→Le h h'→(∀x,FB h' a.bp x→h.nx≤x)→κ (.tuple ⟨[.pointer (some ⟨A.wb,0,none⟩),.int .i64 0]⟩) h') :
  CallW Tryz.prog 52 [qm c,.int .i64 (n:Int)] h κ:=by
 obtain ⟨S,hS⟩:∃S:Nat,c.S=(S:Int):=⟨c.S.toNat,by have:=hc.1; omega⟩
 refine an mixed ?_
 rw[abg]
 simp(disch:=first|omega|simp only[Wd]<;>omega|rfl)only[Wz,qm]
 obtain ⟨hA,aH⟩:∃hA:Heap,hA=⟨h.nx+1,(h.bl.aT (h.nx) (aa [.int .i64 c.S,.int .i64 c.H,.int .i64 c.R,.int .i64 c.P] 115 false)),h.lo⟩:=⟨_,rfl⟩
 have aL:Le h hA:=by subst aH; exact ((Le.refl h).new _)
 have g1:hA.bl.get (h.nx)=some (aa [.int .i64 c.S,.int .i64 c.H,.int .i64 c.R,.int .i64 c.P] 115 false):=by subst aH; exact T.af _ _ _
 have ef:hA.nx=h.nx+1:=by subst aH; rfl
 have ej:hA.lo=h.lo:=by subst aH; rfl
 rw[←aH]
 clear aH
 refine Sg c hA _ (by omega) ?_ ?_
 ·intro h1 e _ hno _; exact absurd hc hno
 intro h1 tb bw bp bl vb aS Ts F _ t1 gbm gbw gbp gbl bF fb1
 have n1:=bF.nx
 have l1:=bF.lo
 have hcS:1≤S∧S≤16:=by have:=hc.1; have:=hc.2.1; omega
 have Jq:=bF.nx
 have Jr:=bF.lo
 have g1:=(bF.get _ (by omega)).trans g1
 simp(disch:=first|omega|simp only[Wd]<;>omega|rfl)only[Wz,IM]
 refine Fh n hn h1 _ ?_
 intro h2 pb ib bt i1 i2 p2 gp gi
 have n2:=bt.nx
 have l2:=bt.lo
 have uH:=bt.nx
 have uI:=bt.lo
 have g1:=(bt.get _ (by omega)).trans g1
 simp(disch:=first|omega|simp only[Wd]<;>omega|rfl)only[Wz,IL,az,g1,hS]
 refine Hl S hcS h2 _ ?_
 intro h3 lb hb cr j1 j2 q2 gl gh
 have n3:=cr.nx
 have l3:=cr.lo
 simp(disch:=first|omega|simp only[Wd]<;>omega|rfl)only[Wz]
 refine ahZ n hn.2 h3 _ ?_
 simp(disch:=first|omega|simp only[Wd]<;>omega|rfl)only[Wz,ptrTo,sliceTo,iB]
 obtain ⟨h4,e4⟩:∃h4:Heap,h4=⟨h3.nx+1+1,(h3.bl.aT h3.nx (aa (List.replicate n (Value.pointer none)) 118 false)).aT (h3.nx+1) (bC.map [] 0),h3.lo⟩:=⟨_,rfl⟩
 have jr:Le h3 h4:=by rw[e4]; exact ((Le.refl h3).new _).new _
 have gc4:h4.bl.get h3.nx=some (aa (List.replicate n (Value.pointer none)) 118 false):=by rw[e4]; exact (T.ai _ _ (by omega)).trans (T.af _ _ _)
 have gm4:h4.bl.get (h3.nx+1)=some (bC.map [] 0):=by rw[e4]; exact T.af _ _ _
 have n4:h4.nx=h3.nx+1+1:=by rw[e4]
 have l4:=jr.lo
 rw[←e4]
 clear e4
 refine Ho h4 _ ?_
 obtain ⟨h5,e5⟩:∃h5:Heap,h5=⟨h4.nx+1,h4.bl.aT h4.nx (aa [.int .i64 0,.slice none 0 0] 200 false),h4.lo⟩:=⟨_,rfl⟩
 have jB:Le h4 h5:=by rw[e5]; exact (Le.refl h4).new _
 have gk5:h5.bl.get h4.nx=some (aa [.int .i64 0,.slice none 0 0] 200 false):=by rw[e5]; exact T.af _ _ _
 have n5:h5.nx=h4.nx+1:=by rw[e5]
 have l5:=jB.lo
 rw[←e5]
 clear e5
 simp(disch:=first|omega|simp only[Wd]<;>omega|rfl)only[Wz]
 rw[pG _ _ _ _ _ _ _ (by rw[yI]; rfl) (Nat.le_of_ble_eq_true rfl),rL]
 simp(disch:=first|omega|simp only[Wd]<;>omega|rfl)only[Wz,yI]
 obtain ⟨h6,e6⟩:∃h6:Heap,h6=⟨h5.nx+1,h5.bl.aT h5.nx (aa [.pointer (some ⟨tb,0,none⟩),.pointer (some ⟨lb,0,none⟩),.pointer (some ⟨pb,0,none⟩),.pointer (some ⟨h4.nx,0,none⟩),.slice (some ⟨h3.nx,0,none⟩) n n,.map (some (h3.nx+1)),.int .i64 0] 126 false),h5.lo⟩:=⟨_,rfl⟩
 have BF:Le h5 h6:=by rw[e6]; exact (Le.refl h5).new _
 have gw6:h6.bl.get h5.nx=some (aa [.pointer (some ⟨tb,0,none⟩),.pointer (some ⟨lb,0,none⟩),.pointer (some ⟨pb,0,none⟩),.pointer (some ⟨h4.nx,0,none⟩),.slice (some ⟨h3.nx,0,none⟩) n n,.map (some (h3.nx+1)),.int .i64 0] 126 false):=by rw[e6]; exact T.af _ _ _
 have n6:h6.nx=h5.nx+1:=by rw[e6]
 have l6:=BF.lo
 have hk:=hk h6 ⟨h5.nx,lb,hb,pb,ib,h4.nx,h3.nx,h3.nx+1,n⟩ ⟨tb,bw,bp,bl,c,vb,aS⟩ ⟨Ts,[],0,F,List.replicate c.R.toNat false⟩ ⟨List.replicate S none,List.replicate n 0,0,.slice none 0 0,List.replicate n none,[],0,0⟩
 have t6:=t1.le (bt.trans (cr.trans (jr.trans (jB.trans BF))))
 have G9:=jr.trans (jB.trans BF)
 have SB:=cr.trans G9
 have nl:=Pb (a:=⟨tb,bw,bp,bl,c,vb,aS⟩) (d:=⟨Ts,[],0,F,List.replicate c.R.toNat false⟩) t6 (E6 _)
 have hR:=hc.2.2.2.2.1
 have am6:=t1.is.BL
 rw[e6] at hk
 refine hk ⟨rfl,rfl,t1.cH,nl.1,?_,rfl,?_,rfl,rfl,rfl,rfl⟩ ?_ (aL.trans (bF.trans (bt.trans (SB.trans (by rw[e6]; exact Le.refl _))))) ?_
 ·have:=nl.2
  simp only[List.length_replicate] at this
  show (F.length:Int)=c.R
  omega
 ·show List.replicate S none=List.replicate c.S.toNat none
  rw[hS]; rfl
 ·rw[←e6]
  have hm1:∀(m:Nat) (f:Option CR→Value),f none=.pointer none→(List.replicate m (none:Option CR)).map f=List.replicate m (.pointer none):=fun m f hf=>by rw[List.map_replicate,hf]
  have hm2:∀(m:Nat) (f:Option (Nat × Int)→Value),f none=.pointer none→(List.replicate m (none:Option (Nat × Int))).map f=List.replicate m (.pointer none):=fun m f hf=>by rw[List.map_replicate,hf]
  refine ⟨t6,⟨⟨by show h5.nx<h6.nx; omega,by show h6.lo≤h5.nx; omega⟩,gw6,by show lb<h6.nx; omega,?_,⟨by show hb<h6.nx; omega,by show h6.lo≤hb; omega⟩,?_,?_,by show pb<h6.nx; omega,?_,⟨by show ib<h6.nx; omega,by show h6.lo≤ib; omega⟩,?_,List.length_replicate ..,⟨by show h4.nx<h6.nx; omega,by show h6.lo≤h4.nx; omega⟩,?_,⟨by show h3.nx<h6.nx; omega,by show h6.lo≤h3.nx; omega⟩,?_,List.length_replicate ..,?_,⟨by show h3.nx+1<h6.nx; omega,by show h6.lo≤h3.nx+1; omega⟩,?_,hn,?_⟩,?_,?_,by omega⟩
  ·simp only[List.length_replicate]
   exact (G9.get _ q2).trans gl
  ·rw[hm2 S _ rfl]; exact (G9.get _ j2).trans gh
  ·intro p hp; rw[List.mem_replicate] at hp; nomatch hp.2
  ·exact (SB.get _ p2).trans gp
  ·exact (SB.get _ i2).trans gi
  ·exact (BF.get h4.nx (by omega)).trans gk5
  ·show h6.bl.get h3.nx=_
   rw[hm1 n _ rfl]; exact ((jB.trans BF).get h3.nx (by omega)).trans gc4
  ·intro p hp; rw[List.mem_replicate] at hp; nomatch hp.2
  ·exact ((jB.trans BF).get (h3.nx+1) (by omega)).trans gm4
  ·rw[List.pairwise_replicate]
   exact .inr fun c c' e=>nomatch e
  ·show h3.nx+1≠bw; omega
  ·intro b hb'
   have:=(t1.is.bk b hb').vJ
   show h3.nx+1≠b.bm; omega
 ·intro x hx
  rw[←e6] at hx
  obtain ⟨_,_,hb1,_⟩:∃fs ls,bp<h1.nx∧h1.bl.get bp=some (aa [fs,ls] 286 false):=by
   obtain ⟨fs,hg,_⟩:=t1.is.aY.fr.cell
   exact ⟨fs,_,t1.is.aY.fr.lt,hg⟩
  have:=fb1 x ((FB.congr ((bt.trans SB).get bp hb1)).1 hx)
  omega
def uN (h:Heap):Prop:=∀d,(∀vs t o,h.bl.get d≠some (aa vs t o))∧∀es c,h.bl.get d≠some (.map es c)
section
variable {h:Heap} {A:WA} {a:TA} {N:Nat} {d:TD} {R:RD}
theorem WS.SC (s:WS h A a N d R) {x:Nat} {v:List Value} {t:TypeId} {o:Bool} (hg:h.bl.get x=some (aa v t o)) (ht:¬oS t o) (hr:¬lW t o) (ob:bC):WS ⟨h.nx,h.bl.aT x ob,h.lo⟩ A a N d R:=by
 refine ⟨jC.put s.t ob (fun vs ty op h1 e=>?_) (iJ hg s.t.is.nQ) fun b hb=>iJ hg (s.t.is.bk b hb).fQ,s.r.keep (Nat.le_refl _) rfl (fun c vs ty op _ h1 e=>T.ai _ _ ?_) (T.ai _ _ (iJ hg s.r.gm)),s.mw,s.mm,s.lo⟩
 ·rw[hg] at e
  obtain ⟨rfl,rfl⟩:=nG e
  exact ht h1
 ·rintro rfl
  rw[hg] at e
  obtain ⟨rfl,rfl⟩:=nG e
  exact hr h1
end
theorem pT {α:Type} {l:List α} {i:Nat} {x y:α} (h:l[i]? = some y):(l.set i x)[i]? = some x:=by rw[List.getElem?_set,if_pos rfl,if_pos (List.getElem?_eq_some_iff.1 h).1]
theorem AH {α:Type} {l:List α} {i j:Nat} {x:α} (h:j≠i):(l.set i x)[j]? = l[j]?:=by rw[List.getElem?_set,if_neg (fun e=>h e.symm)]
section
variable {h:Heap} {A:WA} {a:TA} {N:Nat} {d:TD} {R:RD} {H X Hk Gn:Int→Int→Int}
end
section
variable {h:Heap} {A:WA} {a:TA} {N:Nat} {d:TD} {R:RD} {H X Hk Gn:Int→Int→Int}
end
def p8:fZ:=⟨2,8,24,2⟩
theorem SD:iX p8:=by unfold iX p8; decide
theorem KO (h:Heap) (κ:KQ) (hlo:h.lo≤h.nx) (hk:∀h',Le h h'→κ (qm p8) h'):CallW Tryz.prog 53 [] h κ:=by
 refine an mixed ?_
 rw[abh]
 simp(disch:=first|omega|simp only[Wd]<;>omega|rfl)only[Wz]
 exact hk _ ((Le.refl h).new _)
theorem Pc.lone {A:WA} {a:TA} {d:TD} {R:RD} {c:fZ} {n:Nat} (nw:Pc A a d R c n) (X:Int→Int→Int):Lone d.Ts (fun _ _=>0) X:=
 ⟨fun b hb e he=>(by rw[nw.em b hb] at he; cases he),fun t r hH=>absurd rfl hH⟩
theorem Pc.bit {A:WA} {a:TA} {d:TD} {R:RD} {c:fZ} {n i:Nat} (nw:Pc A a d R c n) (hi:i<n):R.bits[i]? = some 0:=by
 rw[nw.bits,List.getElem?_replicate,if_pos hi]
theorem SE {t r:Int} (h:a_ t r≠-1):∃k:Nat,k<2∧dm t r 2=(k:Int):=by
 unfold dm
 rw[if_neg (by rintro (h1 | h1 | h1)<;>first | omega | exact h h1)]
 have h1:=Int.tmod_nonneg (a:=tK (iO t r)) 2 (qS _).1
 have h2:=Int.tmod_lt_of_pos (tK (iO t r)) (show (0:Int)<2 by decide)
 exact ⟨((tK (iO t r)).tmod 2).toNat,by omega,by omega⟩
theorem YO (t:Int) (h:Heap) (κ:KQ) (hlo:h.lo≤h.nx) (hk:∀h',Le h h'→κ (cN t (-1)) h'):CallW Tryz.prog 50 [.int .i64 t] h κ:=by
 refine an mixed ?_
 rw[abf]
 simp(disch:=first|omega|simp only[Wd]<;>omega|rfl)only[Wz]
 exact hk _ ((Le.refl h).new _)
def lX (m:Int):Int:=if m=1∨m=3 then 1 else if m=2∨m=4∨m=5∨m=6 then 2 else 0
theorem Pd {f:FuncId} {F:Int→Value} (h1:∀i,i<7→bx Tryz.prog 200 f [.int .i64 (.ofNat i)] (F (.ofNat i))=true)
  (h2:∀(n:Nat),bx Tryz.prog 200 f [.int .i64 (.negSucc n)] (F (.negSucc n))=true) (h3:∀(n:Nat),bx Tryz.prog 200 f [.int .i64 (.ofNat (n+7))] (F (.ofNat (n+7)))=true)
  (a:Int) {h:Heap} {κ:Value→Heap→Prop} (hk:κ (F a) h):CallW Tryz.prog f [.int .i64 a] h κ:=by
 refine rK mixed (n:=200) ?_ hk
 rcases tr a with ⟨i,hi,rfl⟩ | ⟨n,rfl⟩ | ⟨n,rfl⟩
 ·exact h1 i hi
 ·exact h2 n
 ·exact h3 n
theorem Pe (n:Nat):lX (.negSucc n)=0:=by unfold lX; rw[if_neg (by omega),if_neg (by omega)]
theorem Pf (n:Nat):lX (.ofNat (n+7))=0:=by
 have:(Int.ofNat (n+7))=(n:Int)+7:=rfl
 rw[this]; unfold lX; rw[if_neg (by omega),if_neg (by omega)]
theorem YP:∀i,i<7→bx Tryz.prog 200 180 [.int .i64 (.ofNat i)] (.int .i64 (lX (.ofNat i)))=true:=by decide +kernel
theorem YQ (n:Nat):bx Tryz.prog 200 180 [.int .i64 (.negSucc n)] (.int .i64 0)=true:=by kernel_rfl
theorem YR (n:Nat):bx Tryz.prog 200 180 [.int .i64 (.ofNat (n+7))] (.int .i64 0)=true:=by kernel_rfl
theorem Fi (a:Int) {h:Heap} {κ:Value→Heap→Prop} (hk:κ (.int .i64 (lX a)) h):CallW Tryz.prog 180 [.int .i64 a] h κ:=
 Pd (F:=fun a=>.int .i64 (lX a)) YP (fun n=>by rw[Pe]; exact YQ n) (fun n=>by rw[Pf]; exact YR n) a hk
abbrev N2:=Int × Int
def me (t r:Int):List N2:=if a_ t r=1 then [(-1,-1)] else if a_ t r=2 then [(-1,-1),(t,-1)] else []
theorem vM (t r:Int):(me t r).length≤2:=by unfold me; split<;>(try split)<;>simp
theorem pU (t r:Int):a_ t r = -1∨a_ t r=0∨a_ t r=1∨a_ t r=2:=by unfold a_; split<;>(try split)<;>(try split)<;>simp
theorem ady {h:Heap} {κ:Value→Heap→Prop} (hk:κ (cN (-1) (-1)) h):CallW Tryz.prog 202 [] h κ:=
 rK mixed (show bx Tryz.prog 100 202 [] (cN (-1) (-1))=true by kernel_rfl) hk
theorem KP (zs:List Value) (n:Nat):aU zs (n+1)=zs++aU zs n:=id rfl
theorem YS {β:Type} {fl:β} (a:Int) (h:Heap) (κ:Value→Heap→β) (ha:0≤a):AM fl (.int .i64 a) (.int .i64 0) h κ=κ (.int .i64 a) h:=by
 unfold AM
 simp only
 rw[fH,aV (by omega)]
theorem ah1 {β:Type} {fl:β} (h:Heap) (κ:Value→Heap→β):AM fl (.int .i64 (-1)) (.int .i64 0) h κ=κ (.int .i64 0) h:=id rfl
theorem Pg {β:Type} {fl:β} (b:Nat) (h:Heap) (κ:Value→Heap→β):sliceB fl 28 2 (.slice (some ⟨b,0,none⟩) 2 2) none (some (.int .i64 0)) none h κ=κ (.slice (some ⟨b,0,none⟩) 0 2) h:=by
 unfold sliceB; rfl
theorem YT {β:Type} {fl:β} (b:Nat) (h:Heap) (κ:Value→Heap→β):sliceB fl 28 2 (.slice (some ⟨b,0,none⟩) 2 2) none (some (.int .i64 1)) none h κ=κ (.slice (some ⟨b,0,none⟩) 1 2) h:=by
 unfold sliceB; rfl
theorem YU {β:Type} {fl:β} (b:Nat) (h:Heap) (κ:Value→Heap→β):sliceB fl 28 2 (.slice (some ⟨b,0,none⟩) 2 2) none (some (.int .i64 2)) none h κ=κ (.slice (some ⟨b,0,none⟩) 2 2) h:=by
 unfold sliceB; rfl
theorem Js (t r:Int) (h:Heap) (κ:KQ) (hlo:h.lo≤h.nx) (hk:∀v h',Sl fe h' v (me t r)→jX 8 v v=true→Le h h'→κ v h'):CallW Tryz.prog 181 [cN t r] h κ:=by
 refine an mixed ?_
 rw[Wl]
 simp(disch:=first|omega|simp only[Wd]<;>omega|rfl)only[Wz,cN]
 refine ady ?_
 simp(disch:=first|omega|simp only[Wd]<;>omega|rfl)only[Wz,cN,KP,List.cons_append,List.nil_append]
 refine pQ t r ?_
 have hle1:=(Le.refl h).new (aa [.int .i64 t,.int .i64 r] 28 false)
 have hle2:=hle1.new (aa [.int .i64 (-1),.int .i64 (-1),.int .i64 t,.int .i64 (-1)] 28 false)
 have hh:∀k,k≤4→Has ((T.aT (T.aT h.bl h.nx (aa [.int .i64 t,.int .i64 r] 28 false)) (h.nx+1) (aa [.int .i64 (-1),.int .i64 (-1),.int .i64 t,.int .i64 (-1)] 28 false)).get (h.nx+1)) 0 ([Value.int .i64 (-1),.int .i64 (-1),.int .i64 t,.int .i64 (-1)].take k):=by
  intro k hk
  rw[T.af]
  have:=Has.cells (vs:=[Value.int .i64 (-1),.int .i64 (-1),.int .i64 t,.int .i64 (-1)]) (e:=28) (op:=false) (o:=0) (k:=k) (by simpa using hk)
  simpa using this
 rcases pU t r with h1 | h1 | h1 | h1
 ·simp(disch:=first|omega|simp only[Wd]<;>omega|rfl)only[Wz,h1,ah1,Pg]
  exact hk _ _ ⟨some ⟨h.nx+1,0,none⟩,2,by simp[me,h1],fun hn=>by simp[me,h1] at hn⟩ (gu _ _ _ _) hle2
 ·simp(disch:=first|omega|simp only[Wd]<;>omega|rfl)only[Wz,h1,YS,Pg]
  exact hk _ _ ⟨some ⟨h.nx+1,0,none⟩,2,by simp[me,h1],fun hn=>by simp[me,h1] at hn⟩ (gu _ _ _ _) hle2
 ·simp(disch:=first|omega|simp only[Wd]<;>omega|rfl)only[Wz,h1,YS,YT]
  exact hk _ _ ⟨some ⟨h.nx+1,0,none⟩,2,by simp[me,h1],fun _=>⟨_,0,rfl,Nat.lt_succ_self _,by simpa[me,h1,fe] using hh 2 (by omega)⟩⟩ (gu _ _ _ _) hle2
 ·simp(disch:=first|omega|simp only[Wd]<;>omega|rfl)only[Wz,h1,YS,YU]
  exact hk _ _ ⟨some ⟨h.nx+1,0,none⟩,2,by simp[me,h1],fun _=>⟨_,0,rfl,Nat.lt_succ_self _,by simpa[me,h1,fe] using hh 4 (by omega)⟩⟩ (gu _ _ _ _) hle2
theorem ldN {h:Heap} {v:Value} {L:List N2} (hs:Sl fe h v L) (i:Nat) {p:N2} (hp:L[i]? = some p) :
  ∃b o,b<h.nx∧(∀(β:Type) (fl:β) (h':Heap) (κ:Value→Heap→β),aD fl 2 v (.int .i64 (i:Int)) h' κ=κ (.pointer (some ⟨b,o,none⟩)) h')∧
   ((∀(β:Type) (fl:β) (κ:List Value→β),vz fl (h.bl.get b) o 2 κ=κ (fe p))∧
   (∀(β:Type) (fl:β) (κ:Value→β),sF fl (h.bl.get b) o κ=κ (.int .i64 p.1))∧
   (∀(β:Type) (fl:β) (κ:Value→β),sF fl (h.bl.get b) (o+1) κ=κ (.int .i64 p.2))):=by
 obtain ⟨b,o,h1,h2,h3,hh⟩:=hs.ld encN_len i hp
 have h4:(fe p).length=2:=rfl
 refine ⟨b,o,h1,h2,h3,fun β fl κ=>?_,fun β fl κ=>?_⟩
 ·exact dR (fl:=fl) hh 0 κ (by omega)
 ·exact dR (fl:=fl) hh 1 κ (by omega)
abbrev tT (p:L4):Value:=.agg ⟨bH p⟩
theorem ldP {h:Heap} {v:Value} {L:List L4} (hs:Sl bH h v L) (i:Nat) {p:L4} (hp:L[i]? = some p) :
  ∃b o,b<h.nx∧(∀(β:Type) (fl:β) (h':Heap) (κ:Value→Heap→β),aD fl 4 v (.int .i64 (i:Int)) h' κ=κ (.pointer (some ⟨b,o,none⟩)) h')∧
   ((∀(β:Type) (fl:β) (κ:List Value→β),vz fl (h.bl.get b) o 4 κ=κ (bH p))∧
   (∀(β:Type) (fl:β) (κ:List Value→β),vz fl (h.bl.get b) (o+1) 2 κ=κ [.int .i64 p.t,.int .i64 p.r])∧
   (∀(β:Type) (fl:β) (κ:Value→β),sF fl (h.bl.get b) o κ=κ (.int .i64 p.x))∧
   (∀(β:Type) (fl:β) (κ:Value→β),sF fl (h.bl.get b) (o+1) κ=κ (.int .i64 p.t))∧
   (∀(β:Type) (fl:β) (κ:Value→β),sF fl (h.bl.get b) (o+2) κ=κ (.int .i64 p.r))∧
   (∀(β:Type) (fl:β) (κ:Value→β),sF fl (h.bl.get b) (o+3) κ=κ (.int .i64 p.m))):=by
 obtain ⟨b,o,h1,h2,h3,hh⟩:=hs.ld bX i hp
 have h4:(bH p).length=4:=rfl
 refine ⟨b,o,h1,h2,h3,fun β fl κ=>nq (hh.sub 1 2 (by omega)) 2 κ rfl,fun β fl κ=>?_,fun β fl κ=>?_,fun β fl κ=>?_,fun β fl κ=>?_⟩
 ·exact dR (fl:=fl) hh 0 κ (by omega)
 ·exact dR (fl:=fl) hh 1 κ (by omega)
 ·exact dR (fl:=fl) hh 2 κ (by omega)
 ·exact dR (fl:=fl) hh 3 κ (by omega)
def zL:List Value:=[.int .i64 0,.int .i64 0,.int .i64 0,.int .i64 0]
theorem ah2:C8 Tryz.prog 43:=⟨fun h n c n' c'=>by kernel_rfl,fun h a n c n' c'=>by kernel_rfl⟩
theorem Hp (a0 a1:Value) (h:Heap) (κ:KQ):aK Tryz.prog 253 [a0,a1] h κ=dX Tryz.prog 3 4 a0 a1 h κ:=by kernel_rfl
theorem YV (a0 a1:Value) (h:Heap) (κ:KQ):aK Tryz.prog 266 [a0,a1] h κ=fV Tryz.prog 3 253 a0 a1 h κ:=by kernel_rfl
theorem YW (a0:Value) (h:Heap) (κ:KQ):aK Tryz.prog 76 [a0] h κ=vB Tryz.prog 43 46 4 zL a0 h κ:=by kernel_rfl
theorem Ph (a0 a1:Value) (h:Heap) (κ:KQ):aK Tryz.prog 264 [a0,a1] h κ=dY Tryz.prog 3 253 46 4 zL a0 a1 h κ:=by kernel_rfl
theorem yJ (L:List L4) (F:L4→Bool) (h:Heap) (v fv:Value) (κ:KQ) (hv:Sl bH h v L) (hlen:L.length≤1000000)
  (hF:∀p,p∈L→∀(h1:Heap) (κ1:Value→Heap→Prop),Le h h1→(∀h2,Le h1 h2→κ1 (.bool (F p)) h2)→eU Tryz.prog fv [zw bH p] h1 κ1)
  (hk:∀h',Le h h'→κ (.int .i64 (eZ (L.findIdx? F))) h'):CallW Tryz.prog 253 [v,fv] h κ:=kI mixed bX Hp L F h v fv κ hv hlen hF hk
theorem Fj (L:List L4) (F:L4→Bool) (h:Heap) (v fv:Value) (κ:KQ) (hv:Sl bH h v L) (hlen:L.length≤1000000)
  (hF:∀p,p∈L→∀(h1:Heap) (κ1:Value→Heap→Prop),Le h h1→(∀h2,Le h1 h2→κ1 (.bool (F p)) h2)→eU Tryz.prog fv [zw bH p] h1 κ1)
  (hk:∀h',Le h h'→κ (.bool (L.any F)) h'):CallW Tryz.prog 266 [v,fv] h κ:=lT mixed bX Hp YV L F h v fv κ hv hlen hF hk
theorem sC (L:List L4) (h:Heap) (v:Value) (κ:KQ) (hv:Sl bH h v L) (hlen:L.length≤1000000) (hlo:h.lo≤h.nx) (hk:∀v' h',qU h h' v' L→Le h h'→κ v' h'):CallW Tryz.prog 76 [v] h κ:=
 MO mixed bX mU (by decide) (by decide) ah2 YW L h v κ hv hlen hlo hk
theorem KR (a h:Heap) (L:List L4) (F:L4→Bool) (v fv:Value) (κ:KQ) (hle:Le a h) (ho:qU a h v L) (hlen:L.length≤100000) (hlo:a.lo≤a.nx)
  (hF:∀p,∀(h1:Heap) (κ1:Value→Heap→Prop),Le a h1→(h.nx≤h1.nx∧∀c,c<h.nx→h.bl.get c≠some (aa (L.flatMap bH) 46 true)→h1.bl.get c=h.bl.get c)→(∀h2,Le h1 h2→κ1 (.bool (F p)) h2)→eU Tryz.prog fv [zw bH p] h1 κ1)
  (hk:∀v' h',Sl bH h' v' (L.filter fun p=>!F p)→Cut 46 4 h' v' (L.filter fun p=>!F p).length→Le a h'→(h.nx≤h'.nx∧∀c,c<h.nx→h.bl.get c≠some (aa (L.flatMap bH) 46 true)→h'.bl.get c=h.bl.get c)→uz 46 h' v'→κ v' h'):CallW Tryz.prog 264 [v,fv] h κ:=
 wZ mixed bX mU (by decide) (by decide) (by decide) (by decide) Hp Ph a h L F v fv κ hle ho hlen hlo hF hk
end Go.Proofs

namespace Go.Vai
open Go
variable {P:Program} {w:World}
theorem Pj {B:Nat} {C:Array Value} {e:TypeId} (hC:w.heap[B]? = some (.cells C e (0,0))) (o j:Nat):w.cell? ((⟨B,o,none⟩:Addr).add j)=C[o+j]?:=by
 rw[iD]
 simp[World.cell?,hC]
theorem eM {B o k m n c:Nat} {C:Array Value} {e:TypeId} (hC:w.heap[B]? = some (.cells C e (0,0))) (hle:o+m*k≤C.size) :
  (Builtin.firstCells k m (.slice (some ⟨B,o,none⟩) n c)).run P w=.ok ((C.toList.drop o).take (m*k)).toArray w:=by
 have hlen:((C.toList.drop o).take (m*k)).length=m*k:=by simp; omega
 have:=run_loadCells_list (P:=P) w ⟨B,o,none⟩ ((C.toList.drop o).take (m*k)) fun j v hj=>by
  rw[Pj hC]
  rw[List.getElem?_take] at hj
  split at hj
  ·simpa[List.getElem?_drop] using hj
  ·cases hj
 rw[hlen] at this
 exact this
theorem gY {tS e k ty D o dl dc n c:Nat} {a:Option Addr} {l':List Value} {R:Array Value} (hu:P.underlying tS=some (.slice e)) (hs:er P e=some k)
  (hf:(Builtin.firstCells k (Nat.min n dl) (.slice a n c)).run P w=.ok l'.toArray w) (hR:w.heap[D]? = some (.cells R e (0,0))) (hfit:o+l'.length≤R.size) (hone:∀v∈l',v.oneCell'=true) :
  (Builtin.copy_ #[tS,tS] ty #[.slice (some ⟨D,o,none⟩) dl dc,.slice a n c]).run P w=.ok (goInt (Nat.min n dl)) (w.setRow D (R.toList.take o++l'++R.toList.drop (o+l'.length)).toArray):=by
 have h1:=run_storeCells_at P D o e l' 0 R w hR (by simpa using hfit) hone
 simp only[Nat.add_zero] at h1
 simp[Builtin.copy_,aO hu,b_ hs,Builtin.lenOf,hf,h1,goInt]
theorem Hq (L:List Value) (a b N:Nat) (h1:a≤N) (h2:N+b≤L.length):(L.take (a+b)++(L.drop a).take (N-a)++L.drop (N+b)).take a=(L.take N).take a:=by
 rw[List.append_assoc,List.take_append_of_le_length (by simp; omega),List.take_take,List.take_take]
 congr 1; omega
theorem Hr (L:List Value) (a b N:Nat) (h1:a≤N) (h2:N+b≤L.length):(L.take (a+b)++(L.drop a).take (N-a)++L.drop (N+b)).drop (a+b)=(L.take N).drop a++L.drop (N+b):=by
 rw[List.append_assoc,List.drop_left' (by simp; omega),List.drop_take]
end Go.Vai

namespace Go.Proofs
open Go.Shelf Go.RowKit Go.Lib Go.Vai
set_option maxHeartbeats 4000000 in
set_option maxRecDepth 100000 in
theorem Hs (base:Option Addr) (n c VB vo m vc:Nat) (w:World) (r:Value) (w':World) (hm:0<m) (hle:n≤c)
  (hr:(Builtin.append_ #[43,43] 43 #[.slice base n c,.slice (some ⟨VB,vo,none⟩) m vc]).run Tryz.prog w=.ok r w') :
  Calls Tryz.prog 255 #[.slice base n c,.int .i64 n,.slice (some ⟨VB,vo,none⟩) m vc] w fun e w''=>e=.returned r∧w''=w':=by
 have hz1:¬((m:Int)=0):=by omega
 go_enter Tryz.func255,Tryz.ntmps255
 go_wp2_with (at_builtin; refine Lib.wpList_append_run _ rfl _ _ 43 43 rfl _ _ rfl rfl _ _ hr ?_)
 all_goals go_ret
 all_goals exact ⟨rfl,rfl⟩
theorem AJ:Tryz.prog.underlying 43=some (.slice 46):=Tryz.underlying43
theorem KS:er Tryz.prog 46=some 4:=by kernel_rfl
set_option maxHeartbeats 4000000 in
set_option maxRecDepth 100000 in
theorem Ht (B n c i VB vo m vc:Nat) (C VC:Array Value) (e2:TypeId) (new:List Value) (w:World) (hne:B≠VB) (hi:i<n) (hm:0<m) (hroom:n+m≤c) (rG:n+m≤1000000)
  (hC:w.heap[B]? = some (.cells C 46 (0,0))) (hV:w.heap[VB]? = some (.cells VC e2 (0,0))) (hcs:c*4≤C.size)
  (hf:∀w1:World,w1.heap[VB]? = w.heap[VB]?→(Builtin.firstCells 4 m (.slice (some ⟨VB,vo,none⟩) m vc)).run Tryz.prog w1=.ok new.toArray w1) (hnl:new.length=m*4) (h1v:∀v∈new,v.oneCell'=true) (h1c:∀v∈C.toList.take (n*4),v.oneCell'=true) :
  Calls Tryz.prog 255 #[.slice (some ⟨B,0,none⟩) n c,.int .i64 i,.slice (some ⟨VB,vo,none⟩) m vc] w fun e w''=>e=.returned (.slice (some ⟨B,0,none⟩) (n+m) c)∧
   ∃d,w.drawn≤d∧w''={ w.setRow B (((C.toList.take (n*4)).take (i*4)++new++(C.toList.take (n*4)).drop (i*4))++C.toList.drop ((n+m)*4)).toArray with drawn:=d }:=by
 have mixed:=mixed
 have hz1:¬((m:Int)=0):=by omega
 have wA:¬((i:Int)=(n:Int)):=by omega
 have hw1:IntKind.i64.wrap ((i:Int)+(m:Int))=(i:Int)+(m:Int):=by rw[IntKind.wrap_i64]; omega
 have hw2:IntKind.i64.wrap ((n:Int)+(m:Int))=(n:Int)+(m:Int):=by rw[IntKind.wrap_i64]; omega
 have hb1:(0:Int)≤(i:Int)+(m:Int):=by omega
 have hin:i≤n:=by omega
 have htn:((i:Int)+(m:Int)).toNat=i+m:=by omega
 have hb2:¬(c=i+m):=by omega
 have hb3:(i:Int)≤(n:Int)+(m:Int):=by omega
 have hb4:¬(c=i):=by omega
 have hB:C.size≠0:=by omega
 have am8:∀j,w.frozen? ⟨B,j,none⟩=false:=fun j=>by simp[World.frozen?,hC]
 have adz:∀j,w.frozen? ⟨VB,j,none⟩=false:=fun j=>by simp[World.frozen?,hV]
 have Bj:∀lb cb,(callFunc 326 #[.slice (some ⟨VB,vo,none⟩) m vc,.slice (some ⟨B,(i+m)*4,none⟩) lb cb]).run Tryz.prog w=.ok (.value (.bool false)) w:=fun lb cb=>by
  rw[run_callFunc_extern Tryz.func326 (by kernel_rfl) (by kernel_rfl) (by kernel_rfl) (e:=Extern.SlicesOverlaps.overlaps #[43,43] #[4]) (by kernel_rfl),
   Lib.run_overlaps_apart w 43 4 46 AJ 4 (fun w=>b_ KS) ⟨VB,vo,none⟩ ⟨B,(i+m)*4,none⟩ m vc lb cb (fun e=>hne e.symm) e2 46 VC.size C.size (by simp[World.shape?,hV]) (by simp[World.shape?,hC]) hB (adz _) (adz _)]
  rfl
 have hnc:(n+m)*4≤C.size:=by omega
 have hCd:w.drew.heap[B]? = some (.cells C 46 (0,0)):=hC
 have nY:((C.toList.drop (i*4)).take ((n-i)*4)).length=(n-i)*4:=by simp; omega
 have YX:∀ty dc sc,(Builtin.copy_ #[43,43] ty #[.slice (some ⟨B,(i+m)*4,none⟩) (n+m-(i+m)) dc,.slice (some ⟨B,i*4,none⟩) (n+m-i) sc]).run Tryz.prog w.drew=.ok (goInt ((n-i:Nat))) (w.drew.setRow B (C.toList.take ((i+m)*4)++(C.toList.drop (i*4)).take ((n-i)*4)++C.toList.drop ((n+m)*4)).toArray):=fun ty dc sc=>by
  have hmin:Nat.min (n+m-i) (n+m-(i+m))=n-i:=by simp only[Nat.min_def]; split<;>omega
  have h:=gY (P:=Tryz.prog) (w:=w.drew) (ty:=ty) (D:=B) (o:=(i+m)*4) (dl:=n+m-(i+m)) (dc:=dc) (n:=n+m-i) (c:=sc) (a:=some ⟨B,i*4,none⟩) (l':=(C.toList.drop (i*4)).take ((n-i)*4)) AJ KS
   (by rw[hmin]; exact eM hCd (by omega)) hCd (by rw[nY]; omega) (fun v hv=>h1c v (by
    rw[List.mem_iff_getElem?] at hv ⊢
    obtain ⟨j,hj⟩:=hv
    rw[List.getElem?_take] at hj
    split at hj
    ·rw[List.getElem?_drop] at hj
     exact ⟨i*4+j,by rw[List.getElem?_take_of_lt (by omega)]; exact hj⟩
    ·cases hj))
  rw[hmin,nY,show (i+m)*4+(n-i)*4=(n+m)*4 by omega] at h
  exact h
 obtain ⟨R1,Qg⟩:∃R1:Array Value,R1=(C.toList.take ((i+m)*4)++(C.toList.drop (i*4)).take ((n-i)*4)++C.toList.drop ((n+m)*4)).toArray:=⟨_,rfl⟩
 rw[←Qg] at YX
 have ah4:R1.size=C.size:=by rw[Qg]; simp; omega
 obtain ⟨W1,UC⟩:∃W1,W1=w.drew.setRow B R1:=⟨_,rfl⟩
 obtain ⟨R2,Uu⟩:∃R2:Array Value,R2=(((C.toList.take (n*4)).take (i*4)++new++(C.toList.take (n*4)).drop (i*4))++C.toList.drop ((n+m)*4)).toArray:=⟨_,rfl⟩
 have ah5:W1.heap[B]? = some (.cells R1 46 (0,0)):=by rw[UC]; exact setRow_heap w.drew B C R1 46 (0,0) hCd
 have ah6:W1.heap[VB]? = w.heap[VB]?:=by rw[UC]; exact setRow_other w.drew B VB R1 (fun e=>hne e.symm)
 have ah7:∀(W:World),W.heap=W1.heap→∀ty dc,(Builtin.copy_ #[43,43] ty #[.slice (some ⟨B,i*4,none⟩) (n+m-i) dc,.slice (some ⟨VB,vo,none⟩) m vc]).run Tryz.prog W=.ok (goInt m) (W.setRow B R2):=fun W hW ty dc=>by
  have hmin:Nat.min m (n+m-i)=m:=by simp only[Nat.min_def]; split<;>omega
  have h:=gY (P:=Tryz.prog) (w:=W) (ty:=ty) (D:=B) (o:=i*4) (dl:=n+m-i) (dc:=dc) (n:=m) (c:=vc) (a:=some ⟨VB,vo,none⟩) (l':=new) AJ KS
   (by rw[hmin]; exact hf W (by rw[hW]; exact ah6)) (by rw[hW]; exact ah5) (by rw[hnl]; omega) h1v
  rw[hmin] at h
  have hrow:(R1.toList.take (i*4)++new++R1.toList.drop (i*4+new.length)).toArray=R2:=by
   rw[Uu,Qg,hnl]
   have e1:=Hq C.toList (i*4) (m*4) (n*4) (by omega) (by simp; omega)
   have e2:=Hr C.toList (i*4) (m*4) (n*4) (by omega) (by simp; omega)
   rw[←Nat.add_mul,←Nat.add_mul,←Nat.sub_mul] at e1 e2
   rw[List.toList_toArray,e1,←Nat.add_mul,e2,List.append_assoc,List.append_assoc,List.append_assoc]
  rw[hrow] at h
  exact h
 rw[←UC] at YX
 rw[←Uu]
 go_enter Tryz.func255,Tryz.ntmps255
 go_wp2_with (simp only[Bj])
 go_region_law_o (refine step_copy_runI rfl _ _ 43 43 rfl _ _ (by simp[Act.eval,Act.put]) (by simp[Act.eval,Act.put]) (YX _ _ _) ?_)
 go_wp2_with (at_builtin; refine wpList_copy_runI _ rfl _ _ 43 43 rfl _ _ rfl rfl (ah7 _ rfl _ _) ?_)
 go_ret
 refine ⟨rfl,w.drawn+1,Nat.le_succ _,?_⟩
 rw[setRow_setRow,Uu]
 simp only[List.append_assoc]
 rfl
end Go.Proofs

namespace Go.Proofs
open Go.Shelf Go.RowKit Go.Lib Go.Vai
theorem KU (C Z R new:List Value) (a b N:Nat) (h1:a≤N) (h2:N≤C.length) (hn:new.length=b) (hz:Z.length=N+b-a) :
  (((C.take a++Z++R).take a++new++(C.take a++Z++R).drop (a+b)).take (a+b)++(C.drop a).take (N-a)++((C.take a++Z++R).take a++new++(C.take a++Z++R).drop (a+b)).drop (N+b)) =
   ((C.take N).take a++new++(C.take N).drop a)++R:=by
 have la:(C.take a).length=a:=by simp; omega
 have e1:(C.take a++Z++R).take a=C.take a:=by rw[List.append_assoc,List.take_append_of_le_length (by omega),List.take_take]; congr 1; omega
 have e2:(C.take N).take a=C.take a:=by rw[List.take_take]; congr 1; omega
 have e3:(C.take N).drop a=(C.drop a).take (N-a):=by rw[List.drop_take]
 have l2:(C.take a++new).length=a+b:=by simp; omega
 have e4:(C.take a++new++(C.take a++Z++R).drop (a+b)).take (a+b)=C.take a++new:=List.take_left' l2
 have e5:(C.take a++new++(C.take a++Z++R).drop (a+b)).drop (N+b)=R:=by
  have hs:N+b=(a+b)+(N-a):=by omega
  rw[hs,←List.drop_drop,List.drop_left' l2,List.drop_drop]
  exact List.drop_left' (by simp; omega)
 rw[e1,e4,e5,e2,e3]
set_option maxHeartbeats 4000000 in
set_option maxRecDepth 100000 in
theorem yK (B n c i VB vo m vc G N:Nat) (R1 R2:Array Value) (w W1:World) (hi:i<n) (hm:0<m) (hnc:n≤c) (hroom:c<n+m) (rG:n+m≤1000000) (hG1:n+m≤G)
  (UD:(Builtin.append_ #[43,3] 43 #[.slice (some ⟨B,0,none⟩) i c,.int .i64 ((n:Int)+(m:Int)-(i:Int))]).run Tryz.prog w=.ok (.slice (some ⟨N,0,none⟩) (n+m) G) W1)
  (YY:∀(W:World),W.heap=W1.heap→∀ty dc,(Builtin.copy_ #[43,43] ty #[.slice (some ⟨N,i*4,none⟩) (n+m-i) dc,.slice (some ⟨VB,vo,none⟩) m vc]).run Tryz.prog W=.ok (goInt m) (W.setRow N R1))
  (YZ:∀(W:World),W.heap=(W1.setRow N R1).heap→∀ty dc sc,(Builtin.copy_ #[43,43] ty #[.slice (some ⟨N,(i+m)*4,none⟩) (n+m-(i+m)) dc,.slice (some ⟨B,i*4,none⟩) (n-i) sc]).run Tryz.prog W=.ok (goInt ((n-i:Nat))) (W.setRow N R2)) :
  Calls Tryz.prog 255 #[.slice (some ⟨B,0,none⟩) n c,.int .i64 i,.slice (some ⟨VB,vo,none⟩) m vc] w fun e' w''=>
   e'=.returned (.slice (some ⟨N,0,none⟩) (n+m) G)∧w''=(W1.setRow N R1).drew.setRow N R2:=by
 have mixed:=mixed
 have hz1:¬((m:Int)=0):=by omega
 have wA:¬((i:Int)=(n:Int)):=by omega
 have LQ:(c:Int)<(n:Int)+(m:Int):=by omega
 have hGi:¬(G=i):=by omega
 have am9:¬(G=i+m):=by omega
 have hci:¬(c=i):=by omega
 have hw1:IntKind.i64.wrap ((i:Int)+(m:Int))=(i:Int)+(m:Int):=by rw[IntKind.wrap_i64]; omega
 have hw2:IntKind.i64.wrap ((n:Int)+(m:Int))=(n:Int)+(m:Int):=by rw[IntKind.wrap_i64]; omega
 have hw3:IntKind.i64.wrap ((n:Int)+(m:Int)-(i:Int))=(n:Int)+(m:Int)-(i:Int):=by rw[IntKind.wrap_i64]; omega
 have hb1:(0:Int)≤(i:Int)+(m:Int):=by omega
 have hin:i≤n:=by omega
 have am_:i≤c:=by omega
 have htn:((i:Int)+(m:Int)).toNat=i+m:=by omega
 have hb3:(i:Int)≤(n:Int):=by omega
 go_enter Tryz.func255,Tryz.ntmps255
 go_wp2_with (first
  | (at_builtin; refine Lib.wpList_append_run _ rfl _ _ 43 3 rfl _ _ rfl rfl _ _ UD ?_)
  | (at_builtin; refine wpList_copy_runI _ rfl _ _ 43 43 rfl _ _ rfl rfl (YY _ rfl _ _) ?_))
 go_region_law_o (refine step_copy_runI rfl _ _ 43 43 rfl (.slice (some ⟨N,(i+m)*4,none⟩) (n+m-(i+m)) (G-(i+m))) (.slice (some ⟨B,i*4,none⟩) (n-i) (c-i)) (by simp[Act.eval,Act.put]) (by simp[Act.eval,Act.put]) (YZ (W1.setRow N R1).drew rfl 3 (G-(i+m)) (c-i)) ?_)
 go_wp2
 go_ret
 exact ⟨rfl,rfl⟩
set_option maxHeartbeats 4000000 in
set_option maxRecDepth 100000 in
theorem KV (B n c i VB vo m vc:Nat) (C VC:Array Value) (e2:TypeId) (new:List Value) (w:World) (hne:B≠VB) (hi:i<n) (hm:0<m) (hnc:n≤c) (hroom:c<n+m) (rG:n+m≤1000000)
  (hC:w.heap[B]? = some (.cells C 46 (0,0))) (hV:w.heap[VB]? = some (.cells VC e2 (0,0))) (hcs:n*4≤C.size)
  (hf:∀w1:World,w1.heap[VB]? = w.heap[VB]?→(Builtin.firstCells 4 m (.slice (some ⟨VB,vo,none⟩) m vc)).run Tryz.prog w1=.ok new.toArray w1) (hnl:new.length=m*4) (h1v:∀v∈new,v.oneCell'=true) (h1c:∀v∈C.toList.take (n*4),v.oneCell'=true)
  {inf:TypeInfo} {z:Value} (SF:Tryz.prog.info? 46=some inf) (hz:inf.zero=some z) (hzc:z.cells.size=4) (hby:inf.bytes≤10000) (h3:Tryz.prog.underlying 3=some (.int .i64)) :
  Calls Tryz.prog 255 #[.slice (some ⟨B,0,none⟩) n c,.int .i64 i,.slice (some ⟨VB,vo,none⟩) m vc] w fun e' w''=>∃cF rest d,w.drawn≤d∧n+m≤cF∧rest.length=(cF-(n+m))*4∧
   e'=.returned (.slice (some ⟨w.heap.size,0,none⟩) (n+m) cF)∧
   w''={ w.alloc (.cells (((C.toList.take (n*4)).take (i*4)++new++(C.toList.take (n*4)).drop (i*4))++rest).toArray 46 (0,0)) with drawn:=d }:=by
 have mixed:=mixed
 have hz1:¬((m:Int)=0):=by omega
 have wA:¬((i:Int)=(n:Int)):=by omega
 have LQ:(c:Int)<(n:Int)+(m:Int):=by omega
 have hkk:(n:Int)+(m:Int)-(i:Int)=((n+m-i:Nat):Int):=by omega
 have hik:i+(n+m-i)=n+m:=by omega
 have hzs:(Builtin.zeroCells z.cells (n+m-i)).size=(n+m-i)*4:=by rw[size_zeroCells,hzc]
 obtain ⟨G,rest,hG1,hrl,UD⟩:=mD (P:=Tryz.prog) (w:=w) (e:=46) (size:=4) (n:=n+m-i) (sLen:=i) (sCap:=c) (ty:=43) (ts:=#[43,3]) (base:=some ⟨B,0,none⟩) (x':=.int .i64 ((n+m-i:Nat):Int))
  (new':=(Builtin.zeroCells z.cells (n+m-i)).toList) (old':=C.toList.take (i*4)) (t:=43) rfl AJ KS SF hz hby
  (.mk (k':=.i64) (inf:=inf) (v:=z) rfl h3 (by omega) SF hz hby (by simp) (by intro h; omega)) (by omega) (by omega)
  (fun w1 hw1=>by
   have:=eM (P:=Tryz.prog) (w:=w1) (B:=B) (o:=0) (k:=4) (m:=i) (n:=i) (c:=c) (C:=C) (e:=46) (by rw[hw1]; exact hC) (by omega)
   simpa using this)
 rw[hik,hzc] at hrl
 rw[hik] at hG1 UD
 rw[←hkk] at UD
 obtain ⟨Z,hZ⟩:∃Z,Z=(Builtin.zeroCells z.cells (n+m-i)).toList:=⟨_,rfl⟩
 have hZl:Z.length=(n+m-i)*4:=by rw[hZ]; simpa using hzs
 rw[←hZ] at UD
 obtain ⟨SG,Y0⟩:∃SG:Array Value,SG=(C.toList.take (i*4)++Z++rest).toArray:=⟨_,rfl⟩
 rw[←Y0] at UD
 have hRs:(n+m)*4≤SG.size:=by rw[Y0]; simp[hZl]; omega
 obtain ⟨W1,UC⟩:∃W1,W1=w.drew.alloc (.cells SG 46 (0,0)):=⟨_,rfl⟩
 rw[←UC] at UD
 have hBl:B<w.heap.size:=(Array.getElem?_eq_some_iff.mp hC).1
 have hVl:VB<w.heap.size:=(Array.getElem?_eq_some_iff.mp hV).1
 have adA:W1.heap[w.heap.size]? = some (.cells SG 46 (0,0)):=by rw[UC]; show (w.heap.push _)[w.heap.size]? = _; simp
 have adB:∀k,k<w.heap.size→W1.heap[k]? = w.heap[k]?:=fun k hk=>by rw[UC]; exact dI (w:=w.drew) hk
 obtain ⟨R1,Qg⟩:∃R1:Array Value,R1=(SG.toList.take (i*4)++new++SG.toList.drop (i*4+m*4)).toArray:=⟨_,rfl⟩
 have ah4:R1.size=SG.size:=by rw[Qg]; simp[hnl]; omega
 have nY:((C.toList.drop (i*4)).take ((n-i)*4)).length=(n-i)*4:=by simp; omega
 obtain ⟨R2,Uu⟩:∃R2:Array Value,R2=(R1.toList.take ((i+m)*4)++(C.toList.drop (i*4)).take ((n-i)*4)++R1.toList.drop ((n+m)*4)).toArray:=⟨_,rfl⟩
 have YY:∀(W:World),W.heap=W1.heap→∀ty dc,(Builtin.copy_ #[43,43] ty #[.slice (some ⟨w.heap.size,i*4,none⟩) (n+m-i) dc,.slice (some ⟨VB,vo,none⟩) m vc]).run Tryz.prog W=.ok (goInt m) (W.setRow w.heap.size R1):=fun W hW ty dc=>by
  have hmin:Nat.min m (n+m-i)=m:=by simp only[Nat.min_def]; split<;>omega
  have h:=gY (P:=Tryz.prog) (w:=W) (ty:=ty) (D:=w.heap.size) (o:=i*4) (dl:=n+m-i) (dc:=dc) (n:=m) (c:=vc) (a:=some ⟨VB,vo,none⟩) (l':=new) AJ KS
   (by rw[hmin]; exact hf W (by rw[hW]; exact adB VB hVl)) (by rw[hW]; exact adA) (by rw[hnl]; omega) h1v
  rw[hmin,hnl,←Qg] at h
  exact h
 have YZ:∀(W:World),W.heap=(W1.setRow w.heap.size R1).heap→∀ty dc sc,(Builtin.copy_ #[43,43] ty #[.slice (some ⟨w.heap.size,(i+m)*4,none⟩) (n+m-(i+m)) dc,.slice (some ⟨B,i*4,none⟩) (n-i) sc]).run Tryz.prog W=.ok (goInt ((n-i:Nat))) (W.setRow w.heap.size R2):=fun W hW ty dc sc=>by
  have hmin:Nat.min (n-i) (n+m-(i+m))=n-i:=by simp only[Nat.min_def]; split<;>omega
  have hWB:W.heap[B]? = some (.cells C 46 (0,0)):=by rw[hW,setRow_other W1 w.heap.size B R1 (by omega),adB B hBl]; exact hC
  have hWN:W.heap[w.heap.size]? = some (.cells R1 46 (0,0)):=by rw[hW]; exact setRow_heap W1 w.heap.size SG R1 46 (0,0) adA
  have h:=gY (P:=Tryz.prog) (w:=W) (ty:=ty) (D:=w.heap.size) (o:=(i+m)*4) (dl:=n+m-(i+m)) (dc:=dc) (n:=n-i) (c:=sc) (a:=some ⟨B,i*4,none⟩) (l':=(C.toList.drop (i*4)).take ((n-i)*4)) AJ KS
   (by rw[hmin]; exact eM hWB (by omega)) hWN (by rw[nY]; omega) (fun v hv=>h1c v (by
    rw[List.mem_iff_getElem?] at hv ⊢
    obtain ⟨j,hj⟩:=hv
    rw[List.getElem?_take] at hj
    split at hj
    ·rw[List.getElem?_drop] at hj
     exact ⟨i*4+j,by rw[List.getElem?_take_of_lt (by omega)]; exact hj⟩
    ·cases hj))
  rw[hmin,nY,show (i+m)*4+(n-i)*4=(n+m)*4 by omega,←Uu] at h
  exact h
 refine (yK B n c i VB vo m vc G w.heap.size R1 R2 w W1 hi hm hnc hroom rG hG1 UD YY YZ).mono ?_
 rintro e' w'' ⟨rfl,rfl⟩
 refine ⟨G,rest,w.drawn+2,Nat.le_add_right _ _,hG1,hrl,rfl,?_⟩
 have ah8:R2=(((C.toList.take (n*4)).take (i*4)++new++(C.toList.take (n*4)).drop (i*4))++rest).toArray:=by
  rw[Uu,Qg,Y0]
  congr 1
  have:=KU C.toList Z rest new (i*4) (m*4) (n*4) (by omega) (by simpa using hcs) hnl (by rw[hZl]; omega)
  rw[←Nat.sub_mul,←Nat.add_mul,←Nat.add_mul] at this
  rw[←Nat.add_mul]
  exact this
 rw[UC,ah8]
 have ed:∀(X:World) (g:Nat) (R:Array Value),X.drew.setRow g R=(X.setRow g R).drew:=fun _ _ _=>rfl
 have ea:∀(A R:Array Value),(w.drew.alloc (.cells A 46 (0,0))).setRow w.heap.size R=w.drew.alloc (.cells R 46 (0,0)):=fun A R=>World.setRow_alloc_new w.drew A R 46
 rw[ed,setRow_setRow,ea]
 rfl
end Go.Proofs

namespace Go.Vai
open Go
variable {β:Type} {fl:β} {good:β→Prop} {P:Program} {φ:dG} {h:Heap} {w:World}
noncomputable def BU (fl:β) (e size:Nat) (base:Option Addr) (n cap i vb vo m vc:Nat) (h:Heap) (κ:Value→Heap→β):β:=
 match Nat.ble (i+1) n,Nat.ble cap 1000000000 && Nat.ble (cap+1) (n+(m+1)),base with
 | true,true,some ⟨b,0,none⟩=>match Nat.beq vb b,h.bl.get b,h.bl.get vb with
  | false,some (.cells _ _ e' _),some (.cells ..)=>match Nat.beq e' e,Nat.ble (n+(m+1)) 1000000 with
   | true,true=>dH fl h size n (.slice (some ⟨b,0,none⟩) n cap) fun old=>dH fl h size (m+1) (.slice (some ⟨vb,vo,none⟩) (m+1) vc) fun new=>
     match old.all cZ && new.all cZ with
     | true=>cL fl (old.take (i*size)++new++old.drop (i*size)) e true h fun nb h=>κ (.slice (some ⟨nb,0,none⟩) (n+(m+1)) aM) h
     | false=>fl
   | _,_=>fl
  | _,_,_=>fl
 | _,_,_=>fl
noncomputable def pV (fl:β) (e size:Nat) (z:List Value) (args:List Value) (h:Heap) (κ:Value→Heap→β):β:=
 match args with
 | [.slice base n cap,.int .i64 (.ofNat i),.slice (some ⟨vb,vo,none⟩) (m+1) vc]=>
  match Nat.beq i n with
  | true=>bL fl e size z false (.slice base n cap) (.slice (some ⟨vb,vo,none⟩) (m+1) vc) h κ
  | false=>match Nat.beq cap aM with
   | false=>BU fl e size base n cap i vb vo m vc h κ
   | true=>match Nat.ble (i+1) n,Nat.beq cap aM,base with
    | true,true,some ⟨b,0,none⟩=>match Nat.beq vb b,h.bl.get b,h.bl.get vb with
     | false,some (.cells nn _ e' true),some (.cells ..)=>match Nat.beq e' e,Nat.ble (n+(m+1)) 1000000 with
      | true,true=>dH fl h size n (.slice base n cap) fun old=>dH fl h size (m+1) (.slice (some ⟨vb,vo,none⟩) (m+1) vc) fun new=>
        match old.all cZ && new.all cZ with
        | true=>setBlock fl b (.dead nn e) h fun h=>cL fl (old.take (i*size)++new++old.drop (i*size)) e true h fun nb h=>κ (.slice (some ⟨nb,0,none⟩) (n+(m+1)) aM) h
        | false=>fl
      | _,_=>fl
     | _,_,_=>fl
    | _,_,_=>fl
 | _=>fl
structure yL (P:Program) (f:FuncId) (tS e k:Nat):Prop where
 enters:∀(args:Array Value) (w:World),(callFunc f args).run P w=.ok (.enter f args) w
 atEnd:∀(base:Option Addr) (n c VB vo m vc:Nat) (w:World) (r:Value) (w':World),0<m→n≤c→
  (Builtin.append_ #[tS,tS] tS #[.slice base n c,.slice (some ⟨VB,vo,none⟩) m vc]).run P w=.ok r w'→
  Calls P f #[.slice base n c,.int .i64 n,.slice (some ⟨VB,vo,none⟩) m vc] w fun e w''=>e=.returned r∧w''=w'
 shift:∀(B n c i VB vo m vc:Nat) (C VC:Array Value) (e2:TypeId) (new:List Value) (w:World),B≠VB→i<n→0<m→n+m≤c→n+m≤1000000→
  w.heap[B]? = some (.cells C e (0,0))→w.heap[VB]? = some (.cells VC e2 (0,0))→c*k≤C.size→(∀w1:World,w1.heap[VB]? = w.heap[VB]?→(Builtin.firstCells k m (.slice (some ⟨VB,vo,none⟩) m vc)).run P w1=.ok new.toArray w1)→
  new.length=m*k→(∀v∈new,v.oneCell'=true)→(∀v∈C.toList.take (n*k),v.oneCell'=true)→
  Calls P f #[.slice (some ⟨B,0,none⟩) n c,.int .i64 i,.slice (some ⟨VB,vo,none⟩) m vc] w fun e w''=>e=.returned (.slice (some ⟨B,0,none⟩) (n+m) c)∧
   ∃d,w.drawn≤d∧w''={ w.setRow B (((C.toList.take (n*k)).take (i*k)++new++(C.toList.take (n*k)).drop (i*k))++C.toList.drop ((n+m)*k)).toArray with drawn:=d }
 grow:∀(B n c i VB vo m vc:Nat) (C VC:Array Value) (e2:TypeId) (new:List Value) (w:World),B≠VB→i<n→0<m→n≤c→c<n+m→n+m≤1000000→
  w.heap[B]? = some (.cells C e (0,0))→w.heap[VB]? = some (.cells VC e2 (0,0))→n*k≤C.size→(∀w1:World,w1.heap[VB]? = w.heap[VB]?→(Builtin.firstCells k m (.slice (some ⟨VB,vo,none⟩) m vc)).run P w1=.ok new.toArray w1)→
  new.length=m*k→(∀v∈new,v.oneCell'=true)→(∀v∈C.toList.take (n*k),v.oneCell'=true)→
  Calls P f #[.slice (some ⟨B,0,none⟩) n c,.int .i64 i,.slice (some ⟨VB,vo,none⟩) m vc] w fun e' w''=>∃cF rest d,w.drawn≤d∧n+m≤cF∧rest.length=(cF-(n+m))*k∧
   e'=.returned (.slice (some ⟨w.heap.size,0,none⟩) (n+m) cF)∧
   w''={ w.alloc (.cells (((C.toList.take (n*k)).take (i*k)++new++(C.toList.take (n*k)).drop (i*k))++rest).toArray e (0,0)) with drawn:=d }
set_option maxHeartbeats 2000000 in
set_option maxRecDepth 100000 in
theorem zI (hfl:¬good fl) {f tS e size:Nat} {z:List Value} (hI:yL P f tS e size) (hz:Lx P e=some (z,size))
  (hr:HR P φ h w) {base base':Option Addr} {n cap cap' i vb vo m vc Jt:Nat} {zJ:Pl} (hs:VR φ (.slice base n cap) (.slice base' n cap')) (hpv:φ vb=some zJ) (hv:VR φ (.slice (some ⟨vb,vo,none⟩) (m+1) vc) (.slice (some ⟨zJ.B,vo,none⟩) (m+1) Jt))
  {κ:Value→Heap→β} (hg:good (BU fl e size base n cap i vb vo m vc h κ)):sU good P φ h w κ f #[.slice base' n cap',.int .i64 (.ofNat i),.slice (some ⟨zJ.B,vo,none⟩) (m+1) Jt]:=by
 obtain ⟨hz1,wA,LQ,JM⟩:=j0 hz
 unfold BU at hg
 split at hg<;>try exact absurd hg hfl
 rename_i b hlt FJ
 simp only[Bool.and_eq_true] at FJ
 have hlt:i<n:=ck hlt
 have hc1:cap≤1000000000:=ck FJ.1
 have hc2:cap<n+(m+1):=ck FJ.2
 obtain ⟨pl,hp,rfl,rfl,hle⟩:∃pl,φ b=some pl∧cap'=cap∧base'=some ⟨pl.B,0,none⟩∧n≤cap:=by
  cases hs with
  | slice hp hn hc=>exact ⟨_,hp,rfl,rfl,hn⟩
  | bJ hp hn hc=>exact absurd hc1 (by decide)
  | cz=>exact absurd hc1 (by decide)
 split at hg<;>try exact absurd hg hfl
 rename_i nn cc e' op nv cv ev opv hne hb hvb
 have hne:=mA hne
 split at hg<;>try exact absurd hg hfl
 rename_i hee rG
 have hee:=bY hee; subst hee
 have rG:n+(m+1)≤1000000:=ck rG
 obtain ⟨C,hC,uT,hn2,Qz,hcell⟩:=hr.rowAt hb hp
 obtain ⟨VC,UE,UQ,_,_,_⟩:=hr.rowAt hvb hpv
 have SH:pl.B≠zJ.B:=fun hB=>hne (hr.inj b vb _ _ pl zJ hb hvb trivial trivial hp hpv hB).symm
 obtain ⟨old,k1,k3,k5,k6⟩:=iE hfl hb hg
 obtain ⟨new,new',n1,n2,n3,n4⟩:=fc hfl hr k1 hv ⟨_,_,_,rfl,Nat.le_refl _⟩
 split at n1<;>try exact absurd n1 hfl
 rename_i rA
 simp only[Bool.and_eq_true] at rA
 unfold cL at n1
 obtain ⟨m1,m2⟩:=jk hfl n1
 obtain ⟨m3,m4⟩:=cI hfl m2
 have hnn:n*size≤nn:=by
  have:=k5 (by intro hnil; rw[hnil] at k3; simp at k3; rcases k3.symm with h0; have:0<n*size:=Nat.mul_pos (by omega) JM; omega)
  omega
 have HL:n*size≤C.size:=Nat.le_trans hnn uT
 have hold:F2 (VR φ) old (C.toList.take (n*size)):=by
  refine F2.kj (by simp; omega) fun j v v' e1 e2=>?_
  have hj:j<n*size:=by rw[←k3]; exact (List.getElem?_eq_some_iff.mp e1).1
  have h1:=k6 j v e1
  rw[Nat.zero_add] at h1
  obtain ⟨v2,h2,h3⟩:=hcell j v h1 (by omega)
  rw[List.getElem?_take_of_lt hj] at e2
  rw[Array.getElem?_toList,h2] at e2
  cases e2; exact h3
 have hmid:F2 (VR φ) (old.take (i*size)++new++old.drop (i*size)) ((C.toList.take (n*size)).take (i*size)++new'++(C.toList.take (n*size)).drop (i*size)):=
  ((hold.take _).append n2).append (hold.drop _)
 have h1v:=rz n2 rA.2
 have h1c:=rz hold rA.1
 have hnl:new'.length=(m+1)*size:=by rw[←n2.length,n3]
 have Ju:((C.toList.take (n*size)).take (i*size)++new'++(C.toList.take (n*size)).drop (i*size)).length=(n+(m+1))*size:=by
  have hin:i*size≤n*size:=Nat.mul_le_mul_right _ (by omega)
  rw[Nat.add_mul]
  simp[hnl]
  omega
 obtain ⟨l2,_,v4,v5,_⟩:=iE hfl hvb k1
 have hvs:vo+(m+1)*size≤VC.size:=by
  have hpos:0<(m+1)*size:=Nat.mul_pos (by omega) JM
  have:=v5 (by intro hnil; rw[hnil] at v4; simp only[List.length_nil] at v4; omega)
  rw[v4] at this
  exact Nat.le_trans this UQ
 have hf:∀w1:World,w1.heap[zJ.B]? = w.heap[zJ.B]?→(Builtin.firstCells size (m+1) (.slice (some ⟨zJ.B,vo,none⟩) (m+1) Jt)).run P w1=.ok new'.toArray w1:=by
  intro w1 hw1
  have h1:=n4 w rfl
  rw[eM UE hvs] at h1
  have h2:=eM (P:=P) (w:=w1) (n:=m+1) (c:=Jt) (by rw[hw1]; exact UE) hvs
  have h3:=(Result.ok.inj h1).1
  rw[h2,h3]
 refine ⟨hI.enters _ _,Calls.mono (hI.grow pl.B n cap' i zJ.B vo (m+1) Jt C VC ev new' w SH hlt (by omega) hle hc2 rG hC UE HL hf hnl h1v h1c) ?_⟩
 rintro e2 w'' ⟨cF,rest,d,HS,j1,j2,rfl,rfl⟩
 have JN:=wu (P:=P) hmid m1 e' ⟨w.heap.size,cF*size,size⟩ rest true (fun _=>⟨by
  rw[List.length_append,Ju,j2,←Nat.add_mul]; exact congrArg (fun x=>x*size) (Nat.add_sub_cancel' j1),wA,JM⟩)
 obtain ⟨q1,q3⟩:=hr.fresh m3 (cF*size) size JN trivial
 exact ⟨_,_,_,_,rfl,m4,.bJ (dO _ _ _) j1 (by simp),⟨q1.obj,q1.dom,q1.keys,q1.LI,q1.inj,q1.lo⟩,⟨q3.sub,q3.new,q3.nx,q3.size,q3.ze,q3.B1,q3.tape,q3.os,q3.output,q3.fz,q3.lo,q3.FH,q3.FI,HS⟩⟩
set_option maxHeartbeats 2000000 in
set_option maxRecDepth 100000 in
theorem zK (hfl:¬good fl) {f tS e size:Nat} {z:List Value} {inf:TypeInfo} (hI:yL P f tS e size) (hu:P.underlying tS=some (.slice e)) (hz:Lx P e=some (z,size)) (hi:P.info? e=some inf) (hby:inf.bytes≤10000)
  (hr:HR P φ h w) {args args':List Value} (ha:F2 (VR φ) args args') {κ:Value→Heap→β} (hg:good (pV fl e size z args h κ)):sU good P φ h w κ f args'.toArray:=by
 obtain ⟨hz1,wA,LQ,JM⟩:=j0 hz
 unfold pV at hg
 split at hg<;>try exact absurd hg hfl
 rename_i base n cap i vb vo m vc
 cases ha with
 | cons hs ha=>
 cases ha with
 | cons hi' ha=>
 cases ha with
 | cons hv ha=>
 cases ha
 cases hi'
 rename_i s' v'
 obtain ⟨base',cap',hs'⟩:∃base' cap',s'=.slice base' n cap':=by cases hs<;>exact ⟨_,_,rfl⟩
 have hle:n≤cap':=by subst hs'; cases hs<;>first | assumption | omega
 obtain ⟨zJ,Jt,hpv,ud⟩:∃zJ Jt,φ vb=some zJ∧v'=.slice (some ⟨zJ.B,vo,none⟩) (m+1) Jt:=by
  cases hv with
  | slice hp _ _=>exact ⟨_,_,hp,rfl⟩
  | bJ hp _ _=>exact ⟨_,_,hp,rfl⟩
 split at hg
 ·rename_i hin; have hin:=bY hin
  subst hin
  obtain ⟨φ',v,r,h',w',g1,g2,g3,g4,g5⟩:=qg (ts:=#[tS,tS]) (ty:=tS) (xd:=.slice e) hfl rfl hu hz hi hby rfl hu hr hg hs hv
  subst hs'; subst ud
  refine ⟨hI.enters _ _,Calls.mono (hI.atEnd base' i cap' zJ.B vo (m+1) Jt w r w' (by omega) hle g5) ?_⟩
  rintro e' w'' ⟨rfl,rfl⟩
  exact ⟨φ',v,r,h',rfl,g1,g2,g3,g4⟩
 ·split at hg
  ·subst hs'; subst ud
   exact zI hfl hI hz hr hs hpv hv hg
  split at hg<;>try exact absurd hg hfl
  rename_i b hlt hop
  have hlt:i<n:=ck hlt
  have hop:=bY hop
  subst hop
  split at hg<;>try exact absurd hg hfl
  rename_i nn cc e' nv cv ev opv hne hb hvb
  have hne:=mA hne
  split at hg<;>try exact absurd hg hfl
  rename_i hee rG
  have hee:=bY hee; subst hee
  have rG:n+(m+1)≤1000000:=ck rG
  obtain ⟨pl,hp,hcap,rfl⟩:∃pl,φ b=some pl∧cap'*pl.e+0=pl.sz∧base'=some ⟨pl.B,0,none⟩:=by
   subst hs'
   cases hs with
   | slice hp hn hc=>exact absurd hc (Nat.lt_irrefl _)
   | bJ hp hn hc=>exact ⟨_,hp,hc,rfl⟩
  obtain ⟨C,hC,uT,hn2,Qz,hcell⟩:=hr.rowAt hb hp
  obtain ⟨VC,UE,UQ,_,_,_⟩:=hr.rowAt hvb hpv
  obtain ⟨o1,o2,o3⟩:=Qz rfl
  have SH:pl.B≠zJ.B:=fun hB=>hne (hr.inj b vb _ _ pl zJ hb hvb trivial trivial hp hpv hB).symm
  have hpe:pl.e=size:=by rw[wA] at o2; exact (Option.some.inj o2).symm
  rw[hpe] at hcap
  obtain ⟨old,k1,k3,k5,k6⟩:=iE hfl hb hg
  obtain ⟨new,new',n1,n2,n3,n4⟩:=fc hfl hr k1 hv ⟨_,_,_,rfl,Nat.le_refl _⟩
  split at n1<;>try exact absurd n1 hfl
  rename_i rA
  simp only[Bool.and_eq_true] at rA
  obtain ⟨hlo,n1⟩:=bz hfl n1
  unfold cL at n1
  obtain ⟨m1,m2⟩:=jk hfl n1
  obtain ⟨m3,m4⟩:=cI hfl m2
  have hcs:cap'*size≤C.size:=by omega
  have HL:n*size≤C.size:=Nat.le_trans (Nat.mul_le_mul_right _ hle) hcs
  have hnn:n*size≤nn:=by
   have:=k5 (by intro hnil; rw[hnil] at k3; simp at k3; rcases k3.symm with h0; have:0<n*size:=Nat.mul_pos (by omega) JM; omega)
   omega
  have hold:F2 (VR φ) old (C.toList.take (n*size)):=by
   refine F2.kj (by simp; omega) fun j v v' e1 e2=>?_
   have hj:j<n*size:=by rw[←k3]; exact (List.getElem?_eq_some_iff.mp e1).1
   have h1:=k6 j v e1
   rw[Nat.zero_add] at h1
   obtain ⟨v2,h2,h3⟩:=hcell j v h1 (by omega)
   rw[List.getElem?_take_of_lt hj] at e2
   rw[Array.getElem?_toList,h2] at e2
   cases e2; exact h3
  have hmid:F2 (VR φ) (old.take (i*size)++new++old.drop (i*size)) ((C.toList.take (n*size)).take (i*size)++new'++(C.toList.take (n*size)).drop (i*size)):=
   ((hold.take _).append n2).append (hold.drop _)
  have h1v:=rz n2 rA.2
  have h1c:=rz hold rA.1
  have hnl:new'.length=(m+1)*size:=by rw[←n2.length,n3]
  have Ju:((C.toList.take (n*size)).take (i*size)++new'++(C.toList.take (n*size)).drop (i*size)).length=(n+(m+1))*size:=by
   have hin:i*size≤n*size:=Nat.mul_le_mul_right _ (by omega)
   rw[Nat.add_mul]
   simp[hnl]
   omega
  subst hs'; subst ud
  obtain ⟨l2,_,v4,v5,_⟩:=iE hfl hvb k1
  have hvs:vo+(m+1)*size≤VC.size:=by
   have hpos:0<(m+1)*size:=Nat.mul_pos (by omega) JM
   have:=v5 (by intro hnil; rw[hnil] at v4; simp only[List.length_nil] at v4; omega)
   rw[v4] at this
   exact Nat.le_trans this UQ
  have hf:∀w1:World,w1.heap[zJ.B]? = w.heap[zJ.B]?→(Builtin.firstCells size (m+1) (.slice (some ⟨zJ.B,vo,none⟩) (m+1) Jt)).run P w1=.ok new'.toArray w1:=by
   intro w1 hw1
   have h1:=n4 w rfl
   rw[eM UE hvs] at h1
   have h2:=eM (P:=P) (w:=w1) (n:=m+1) (c:=Jt) (by rw[hw1]; exact UE) hvs
   have h3:=(Result.ok.inj h1).1
   rw[h2,h3]
  by_cases hroom:n+(m+1)≤cap'
  ·refine ⟨hI.enters _ _,Calls.mono (hI.shift pl.B n cap' i zJ.B vo (m+1) Jt C VC ev new' w SH hlt (by omega) hroom rG hC UE hcs hf hnl h1v h1c) ?_⟩
   rintro e2 w'' ⟨rfl,d,HS,rfl⟩
   have hrow:=setRow_heap w pl.B C ((((C.toList.take (n*size)).take (i*size)++new'++(C.toList.take (n*size)).drop (i*size))++C.toList.drop ((n+(m+1))*size)).toArray) e' _ hC
   have JN:=wu (P:=P) hmid m1 e' pl (C.toList.drop ((n+(m+1))*size)) true (fun _=>⟨by
    have:(n+(m+1))*size≤C.size:=Nat.le_trans (Nat.mul_le_mul_right _ hroom) hcs
    rw[List.length_append,Ju]; simp; omega,o2,o3⟩)
   obtain ⟨q1,q2⟩:=hr.LV hlo (ob:=.cells (old.take (i*size)++new++old.drop (i*size)).length (lay (old.take (i*size)++new++old.drop (i*size)) .nil 0) e' true) (w':={ w.setRow pl.B ((((C.toList.take (n*size)).take (i*size)++new'++(C.toList.take (n*size)).drop (i*size))++C.toList.drop ((n+(m+1))*size)).toArray) with drawn:=d }) hb hp m3
    (setRow_size _ _ _) (fun k hk=>setRow_other _ _ _ _ hk) (by show OR P φ _ pl ((w.setRow pl.B _).heap[pl.B]?); rw[hrow]; exact JN) (by show OR P φ _ pl ((w.setRow pl.B _).heap[pl.B]?); rw[hrow]; exact ⟨by omega,hn2,o2,o3⟩) rfl rfl rfl trivial HS
   exact ⟨_,_,_,_,rfl,m4,.bJ (dO _ _ _) hroom (by rw[hpe]; exact hcap),q1,q2⟩
  ·refine ⟨hI.enters _ _,Calls.mono (hI.grow pl.B n cap' i zJ.B vo (m+1) Jt C VC ev new' w SH hlt (by omega) hle (by omega) rG hC UE HL hf hnl h1v h1c) ?_⟩
   rintro e2 w'' ⟨cF,rest,d,HS,j1,j2,rfl,rfl⟩
   have Cr:=hr.kU hlo (w':=w) (o:=.dead nn e') hp ⟨_,hb,trivial⟩ rfl (fun _ _=>rfl) (by rw[hC]; exact ⟨by omega,hn2,o2,o3⟩) rfl rfl rfl (.inr id)
   have JN:=wu (P:=P) hmid m1 e' ⟨w.heap.size,cF*size,size⟩ rest true (fun _=>⟨by
    rw[List.length_append,Ju,j2,←Nat.add_mul]; exact congrArg (fun x=>x*size) (Nat.add_sub_cancel' j1),wA,JM⟩)
   obtain ⟨q1,q2⟩:=Cr.1.fresh m3 (cF*size) size JN trivial
   have q3:=Cr.2.trans q2
   exact ⟨_,_,_,_,rfl,m4,.bJ (dO _ _ _) j1 (by simp),⟨q1.obj,q1.dom,q1.keys,q1.LI,q1.inj,q1.lo⟩,⟨q3.sub,q3.new,q3.nx,q3.size,q3.ze,q3.B1,q3.tape,q3.os,q3.output,q3.fz,q3.lo,q3.FH,q3.FI,HS⟩⟩
end Go.Vai

namespace Go.Proofs
open Go.Vai
theorem KW (args:Array Value) (w:World):(callFunc 255 args).run Tryz.prog w=.ok (.enter 255 args) w:=by
 have hb:Tryz.f255.body.isNone=false:=by kernel_rfl
 have hn : (Tryz.f255.name == "runtime.NumGoroutine") = false := by kernel_rfl
 have hn' : Tryz.f255.name ≠ "runtime.NumGoroutine" := by simpa using hn
 simp[callFunc,Tryz.func255,hn',hb]
 cases h:Tryz.f255.body with
 | none=>rw[h] at hb; cases hb
 | some c=>simp
theorem KX {inf:TypeInfo} {z:Value} (SF:Tryz.prog.info? 46=some inf) (hz:inf.zero=some z) (hzc:z.cells.size=4) (hby:inf.bytes≤10000) (h3:Tryz.prog.underlying 3=some (.int .i64)):yL Tryz.prog 255 43 46 4 where
 enters:=KW
 atEnd:=fun base n c VB vo m vc w r w' hm hle hr=>Hs base n c VB vo m vc w r w' hm hle hr
 shift:=fun B n c i VB vo m vc C VC e2 new w hne hi hm hroom rG hC hV hcs hf hnl h1v h1c=>Ht B n c i VB vo m vc C VC e2 new w hne hi hm hroom rG hC hV hcs hf hnl h1v h1c
 grow:=fun B n c i VB vo m vc C VC e2 new w hne hi hm hnc hroom rG hC hV hcs hf hnl h1v h1c=>KV B n c i VB vo m vc C VC e2 new w hne hi hm hnc hroom rG hC hV hcs hf hnl h1v h1c SF hz hzc hby h3
end Go.Proofs
