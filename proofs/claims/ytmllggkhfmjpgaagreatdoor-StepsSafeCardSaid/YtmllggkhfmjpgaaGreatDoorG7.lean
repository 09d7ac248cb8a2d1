/-
  PROVED HERE: a part of the proof (S9, S10, Y1, Y2, VaiJ, YC0, YC1, Y3, Y4, Y5, Y6, Y7, YC2, YC3, YC4, YC5, YC6, Y8, Y9, Y10, Y11, Y12, Y13, Y14, Y15, Y16).
-/
import Derived.Test.YtmllggkhfmjpgaaGreatDoorG6
import Derived.Test.YtmllggkhfmjpgaaGreatDoorG4
import Derived.Test.YtmllggkhfmjpgaaGreatDoorG5
import Derived.Test.YtmllggkhfmjpgaaGreatDoorRZ
set_option linter.unusedVariables false
set_option linter.unusedSimpArgs false
set_option maxRecDepth 100000
set_option maxHeartbeats 4000000
namespace Go.Proofs
open Go.Vai Go.Clashes
open Tryz (prog)
structure TA where
 tb:Nat
 bw:Nat
 bp:Nat
 bl:Nat
 c:jU
 vb:Value
 bf:Nat
structure TD where
 Ts:List TB
 W:List IE
 wc:Nat
 F:List Int
 B:List Bool
structure RD where
 cr:List (Option (Nat × Int))
 bits:List Int
 now:Int
 tv:Value
 cs:List (Option CR)
 wm:List IE
 nT:Nat
 begun:Int
abbrev Ns(h:ah)(a:TA)(N:Nat)(d:TD):Prop:=iZ h a.tb a.bw a.bp a.bl a.c a.vb a.bf N d.Ts d.W d.wc d.F d.B
abbrev RWx(h:ah)(A:WA)(tb:Nat)(R:RD):Prop:=RW h A tb R.cr R.bits R.now R.tv R.cs R.wm R.nT R.begun
structure WS(h:ah)(A:WA)(a:TA)(N:Nat)(d:TD)(R:RD):Prop where
 t:Ns h a N d
 r:RWx h A a.tb R
 mw:A.mb≠a.bw
 mm:∀b∈d.Ts,A.mb≠b.bm
 lo:h.lo<=h.nx
section
variable {h h':ah}{A:WA}{a:TA}{N:Nat}{d:TD}{R:RD}
theorem WS.le(s:WS h A a N d R)(l:Le h h'):WS h' A a N d R:=⟨s.t.le l,s.r.le l,s.mw,s.mm,by have:=l.nx;have:=l.lo;have:=s.lo;omega⟩
theorem WS.up(s:WS h A a N d R){N':Nat}(hN:N<=N'):WS h A a N' d R:=⟨s.t.up hN,s.r,s.mw,s.mm,s.lo⟩
theorem WS.table(s:WS h A a N d R){N':Nat}{d':TD}(t':Ns h' a N' d')(f:tE d.Ts a.bw a.bp a.bl h h')(hb:d'.Ts.map (·.bm)=d.Ts.map (·.bm)):WS h' A a N' d' R:=by
 refine⟨t',s.r.aeZ s.t.is f s.mw s.mm,s.mw,λb hb'=>?_,by have:=f.nx;have:=f.lo;have:=s.lo;omega⟩;have:b.bm∈d.Ts.map (·.bm):=by rw[<-hb];exact List.mem_map.2 ⟨b,hb',rfl⟩
 obtain⟨b0,hb0,e⟩:=List.mem_map.1 this;rw[<-e];exact s.mm b0 hb0
theorem Ns.RF(s:Ns h a N d){x:Nat}{v:List Value}{t:TypeId}{op:Bool}(hg:h.bl.get x=some (ai v t op))(hn:∀ty o,DM ty o->t≠ty)(o:bT):Ns ⟨h.nx,h.bl.bx x o,h.lo⟩ a N d:=
 iZ.put s o (λvs ty o' ht e=>by rw[hg]at e;exact bz (hn ty o' ht) e) (j8 hg s.is.lz) λb hb=>j8 hg (s.is.bk b hb).gf
theorem nTy{t:TypeId}(h1:t≠194)(h2:t≠205)(h3:t≠267)(h4:t≠55)(h5:t≠57)(h6:t≠286)(h7:t≠4)(h8:t≠3):∀ty o,DM ty o->t≠ty:=by
 rintro ty o (rfl|rfl|rfl|rfl|rfl|rfl|rfl|⟨rfl,_⟩)<;>assumption
theorem WS.iE(s:WS h A a N d R){i:Nat}{c c':CR}(hi:R.cs[i]? = some (some c))(hc:c'.ca=c.ca):WS ⟨h.nx,h.bl.bx c.ca (bJ A.wb c'),h.lo⟩ A a N d { R with cs:=R.cs.set i (some c') }:=
 ⟨Ns.RF s.t (s.r.ca c (List.mem_of_getElem? hi)).2.2 (nTy X0 X0 X0 X0 X0 X0 X0 X0) _,s.r.iE hi hc,s.mw,s.mm,s.lo⟩
theorem WS.uJ(s:WS h A a N d R)(i:Nat)(o:Option CR)(ho:∀c,o=some c->c.ca<h.nx/\h.lo<=c.ca/\h.bl.get c.ca=some (bJ A.wb c)/\∀(j:Nat)(d:CR),j≠i->R.cs[j]? = some (some d)->d.ca≠c.ca):WS ⟨h.nx,h.bl.bx A.cb (ai ((R.cs.set i o).map λo=>dS (o.map (·.ca))) 118 false),h.lo⟩ A a N d { R with cs:=R.cs.set i o }:=
 ⟨Ns.RF s.t s.r.gc (nTy X0 X0 X0 X0 X0 X0 X0 X0) _,s.r.uJ i o ho,s.mw,s.mm,s.lo⟩
theorem WS.Du(s:WS h A a N d R)(gN:List (Option (Nat × Int)))(hl:gN.length=R.cr.length)(ho:∀p,some p∈gN->p.1<h.nx/\h.bl.get p.1=some (ai [X1 p.2] 253 false)):WS ⟨h.nx,h.bl.bx A.hb (ai (nU gN) 251 false),h.lo⟩ A a N d { R with cr:=gN }:=
 ⟨Ns.RF s.t s.r.gh (nTy X0 X0 X0 X0 X0 X0 X0 X0) _,s.r.Du gN hl ho,s.mw,s.mm,s.lo⟩
theorem WS.Dv(s:WS h A a N d R)(bits':List Int)(hl:bits'.length=R.bits.length):WS ⟨h.nx,h.bl.bx A.ib (ai (kX bits') 3 false),h.lo⟩ A a N d { R with bits:=bits' }:=by
 have g:=s.r.gi;refine⟨iZ.put s.t _ ?_ (j8 g s.t.is.lz) λb hb=>j8 g (s.t.is.bk b hb).gf,s.r.Dv bits' hl,s.mw,s.mm,s.lo⟩;rintro vs ty op (rfl|rfl|rfl|rfl|rfl|rfl|rfl|⟨rfl,rfl⟩)<;>rw[g]<;>first|exact br|exact bz X0
theorem WS.zY(s:WS h A a N d R)(b':Int):WS ⟨h.nx,h.bl.bx A.wb (ai [X3 a.tb,X3 A.lb,X3 A.pb,X3 A.kb,X9 A.cb A.n A.n,.map (some A.mb),X1 b'] 126 false),h.lo⟩ A a N d { R with begun:=b' }:=
 ⟨Ns.RF s.t s.r.gw (nTy X0 X0 X0 X0 X0 X0 X0 X0) _,s.r.zY b',s.mw,s.mm,s.lo⟩
theorem WS.zZ(s:WS h A a N d R)(rF:List IE)(iN:Nat):WS ⟨h.nx,h.bl.bx A.mb (.map (rF.map si) iN),h.lo⟩ A a N d { R with wm:=rF,nT:=iN }:=by
 have g:=s.r.gm;exact⟨iZ.put s.t _ (λvs ty op _=>by rw[g];exact bL) s.mw s.mm,s.r.zZ rF iN,s.mw,s.mm,s.lo⟩
end
theorem ae6(h:ah)(b o:Nat):nH prog h 100 25 (.pointer (some ⟨b,o,none⟩)) (.pointer none)=some false:=by kernel_rfl
theorem mI{β:Type}{fl:β}(cn:Bool)(b o:Nat)(h:ah)(Y:XW β):aG fl prog .eql 25 cn false (.pointer (some ⟨b,o,none⟩)) (.pointer none) h Y=Y (.bool false) h:=by simp only[aG,ae6,cF]
theorem z6{β:Type}{fl:β}(cn:Bool)(b o:Nat)(h:ah)(Y:XW β):aG fl prog .neq 25 cn false (.pointer (some ⟨b,o,none⟩)) (.pointer none) h Y=Y (.bool true) h:=by simp only[aG,ae6,cF,Bool.not_false]
theorem ae7(h:ah)(b o:Nat):nH prog h 100 118 (.pointer (some ⟨b,o,none⟩)) (.pointer none)=some false:=by kernel_rfl
theorem WL(h:ah):nH prog h 100 118 (.pointer none) (.pointer none)=some true:=by kernel_rfl
theorem L_{β:Type}{fl:β}(cn:Bool)(o:Option Nat)(h:ah)(Y:XW β):aG fl prog .eql 118 cn false (dS o) (.pointer none) h Y=Y (.bool o.isNone) h:=by
 cases o with
 |none=>simp only[dS,aG,WL,cF,Option.isNone]
 |some b=>simp only[dS,aG,ae7,cF,Option.isNone]
theorem sj{β:Type}{fl:β}(cn:Bool)(o:Option Nat)(h:ah)(Y:XW β):aG fl prog .neq 118 cn false (dS o) (.pointer none) h Y=Y (.bool o.isSome) h:=by
 cases o with
 |none=>simp only[dS,aG,WL,cF,Bool.not_true];rfl
 |some b=>simp only[dS,aG,ae7,cF,Bool.not_false];rfl
section
variable {h:ah}{A:WA}{a:TA}{N:Nat}{d:TD}{R:RD}
theorem HU(s:WS h A a N d R){i:Nat}(hi:i<A.n)(Y:KQ)(hk:Y (.bool true) h):aj prog 54 [X3 A.wb,X1 (i:Int)] h Y:=by
 have gw:=s.r.gw;apply X2;rw[Wh];simp(disch:=try exact QQ)only[Wz,z6,bq (show(0:Int)<=(i:Int)by omega),aL,gw,dw (show(i:Int)<(A.n:Int)by omega)];exact hk
theorem lJ(s:WS h A a N d R){i:Nat}{o:Option CR}(hi:R.cs[i]? = some o):(R.cs.map λo=>dS (o.map (·.ca)))[i]? = some (dS (o.map (·.ca))):=by rw[List.getElem?_map,hi];rfl
theorem WM(s:WS h A a N d R){i:Nat}{o:Option CR}(hi:R.cs[i]? = some o):i<A.n:=by
 have:=(List.getElem?_eq_some_iff.1 hi).1;have:=s.r.lc;omega
theorem RG(s:WS h A a N d R){i:Nat}{o:Option CR}(hi:R.cs[i]? = some o)(Y:KQ)(hk:Y (dS (o.map (·.ca))) h):aj prog 68 [X3 A.wb,X1 (i:Int)] h Y:=by
 have gw:=s.r.gw;have gc:=s.r.gc;have hil:=WM s hi;have r:=lJ s hi;apply X2;rw[Wl];refine HU s hil _ ?_;simp(disch:=try exact QQ)only[Wz,aL,gw,aX,gc,r,Nat.mul_one];exact hk
def aaT(o:Option CR):Int:=match o with|none=>0|some c=>(c.ph:Int)
theorem UD(s:WS h A a N d R){i:Nat}{o:Option CR}(hi:R.cs[i]? = some o)(Y:KQ)(hk:Y (X1 (aaT o)) h):aj prog 18 [X3 A.wb,X1 (i:Int)] h Y:=by
 apply X2;rw[adg];refine RG s hi _ ?_;cases o with
 |none=>
  simp(disch:=try exact QQ)only[Wz,sj,Option.map_none,Option.isSome_none];exact hk
 |some c=>
  have gca:=(s.r.ca c (List.mem_of_getElem? hi)).2.2;simp(disch:=try exact QQ)only[Wz,sj,Option.map_some,Option.isSome_some];simp(disch:=try exact QQ)only[Wz,dS,aL,gca,bJ];exact hk
theorem aaU(a b:Int):(!decide (b<a))=decide (a<=b):=by
 by_cases h:b<a
 .rw[bq h,a_ (show ¬a<=b by omega)];rfl
 .rw[a_ h,bq (show a<=b by omega)];rfl
theorem aaV(x:Np)(h:ah)(Y:KQ)(hlo:h.lo<=h.nx)(hk:∀h',Le h h'->Y (.bool (Uz x)) h'):aj prog 55 [.agg ⟨Uy x⟩] h Y:=by
 apply X2;rw[adl];simp(disch:=try exact QQ)only[Wz,Uy];obtain⟨hA,bH,aY,g1,ia,ic⟩:=oR h (ai [X1 x.k,X1 x.x,X1 x.t,X1 x.r,X1 x.m,X1 x.w,X1 x.to] 31 false);rw[<-bH];clear bH;have hk:=hk hA aY;unfold Uz at hk;refine Hx x.t x.r ?_;by_cases hl:dG x.t x.r = -1
 .rw[if_pos hl];rw[a_ (λh=>h hl)]at hk;simp(disch:=try exact QQ)only[Wz];exact hk
 .rw[if_neg hl];rw[bq hl,Bool.true_and]at hk;simp(disch:=try exact QQ)only[Wz,g1];by_cases h1:x.k=1
  .rw[if_pos h1]at hk;simp(disch:=try exact QQ)only[Wz,bq h1,Lz,g1];refine uu x.m ?_;cases hkn:kn x.m with
   |false=>rw[hkn]at hk;simp(disch:=try exact QQ)only[Wz];exact hk
   |true=>
    rw[hkn,Bool.true_and]at hk;simp(disch:=try exact QQ)only[Wz,g1];by_cases hm:x.m=0
    .rw[a_ (λh=>h hm)]at hk;simp(disch:=try exact QQ)only[Wz,bq hm];exact hk
    .rw[bq hm,Bool.true_and]at hk;simp(disch:=try exact QQ)only[Wz,a_ hm,g1,aaU];exact hk
  .rw[if_neg h1]at hk;simp(disch:=try exact QQ)only[Wz,a_ h1,LA,g1];by_cases h3:x.k=3
   .rw[if_pos h3]at hk;simp(disch:=try exact QQ)only[Wz,bq h3,g1];simpa using hk
   .rw[if_neg h3]at hk;simp(disch:=try exact QQ)only[Wz,a_ h3,g1];exact hk
end
section
variable {h:ah}{A:WA}{a:TA}{N:Nat}{d:TD}{R:RD}
theorem B1(f:Fn)(a b:Array Value):(Value.cells (.func f a b)).toList=[.func f a b]:=id rfl
theorem aaW{wb:Nat}(c:CR)(g:h.bl.get c.ca=some (bJ wb c))(hlo:h.lo<=c.ca)(ph:Nat)(f:FuncId)(hf:uH ph=f)(Y:KQ)(hk:Y (.tuple ⟨[]⟩) ⟨h.nx,h.bl.bx c.ca (bJ wb { c with ph:=ph }),h.lo⟩):aj prog 57 [X3 c.ca,X1 (ph:Int),.func (.func f) ⟨[X3 c.ca]⟩ ⟨[]⟩] h Y:=by
 subst hf;apply X2;rw[Wi];unfold bJ at g hk;simp(disch:=try exact QQ)only[Wz,aL,g,HL,B1];exact hk
theorem bS(s:WS h A a N d R){i:Nat}{c:CR}(hi:R.cs[i]? = some (some c)):h.bl.get c.ca=some (bJ A.wb c)/\c.ca<h.nx/\h.lo<=c.ca:=by
 obtain⟨k1,k2,k3⟩:=s.r.ca c (List.mem_of_getElem? hi);exact⟨k3,k1,k2⟩
end
section
variable {h:ah}{pb ib:Nat}{bits:List Int}
def RH(ib:Nat)(bits:List Int)(h h':ah)(bits':List Int):Prop:=bits'.length=bits.length/\((h'=h/\bits'=bits)\/h'=⟨h.nx,h.bl.bx ib (ai (kX bits') 3 false),h.lo⟩)
theorem UE(gp:h.bl.get pb=some (ai [X9 ib bits.length bits.length] 244 false))(gi:h.bl.get ib=some (ai (kX bits) 3 false))(hib:ib<h.nx/\h.lo<=ib){i:Nat}(hi:i<bits.length)(Y:KQ)(hk:∀u h' bits',RH ib bits h h' bits'->Y u h'):aj prog 358 [X3 pb,X1 (i:Int)] h Y:=by
 obtain⟨n,hn⟩:∃n,bits[i]? = some n:=⟨_,List.getElem?_eq_getElem hi⟩
 have r:=JP hn;have hln:(kX bits).length=bits.length:=List.length_map _;have same:∀u,Y u h:=λu=>hk u h bits ⟨rfl,.inl ⟨rfl,rfl⟩⟩;have other:∀u m,Y u ⟨h.nx,h.bl.bx ib (ai (kX (bits.set i m)) 3 false),h.lo⟩:=λu m=>hk u _ _ ⟨List.length_set ..,.inr rfl⟩;have ov:∀m,over (kX bits) i [X1 m]=kX (bits.set i m):=λm=>HT hi;apply X2;rw[ZB];refine zX gp hi _ ?_;simp(disch:=try exact QQ)only[Wz,Gu];refine L9 gp gi hn 1 _ ?_;by_cases z1:JO n 1=0
 .simp(disch:=try exact QQ)only[Wz,bq z1];apply X2;rw[ZO];apply X2;rw[ZW];refine L9 gp gi hn 2 _ ?_;by_cases z2:JO n 2=0
  .simp(disch:=try exact QQ)only[Wz,bq z2,Gt,aL,gp,aX,gi,r,Nat.mul_one,HO,ov];exact other _ _
  .simp(disch:=try exact QQ)only[Wz,a_ z2,GL,aL,gp,aX,gi,r,Nat.mul_one,HS,ov];exact other _ _
 .simp(disch:=try exact QQ)only[Wz,a_ z1];exact same _
theorem Nt(gp:h.bl.get pb=some (ai [X9 ib bits.length bits.length] 244 false))(gi:h.bl.get ib=some (ai (kX bits) 3 false))(hib:ib<h.nx/\h.lo<=ib){i:Nat}(hi:i<bits.length)(Y:KQ)(hk:∀u h' bits',RH ib bits h h' bits'->Y u h'):aj prog 108 [X3 pb,X1 (i:Int)] h Y:=by
 obtain⟨n,hn⟩:∃n,bits[i]? = some n:=⟨_,List.getElem?_eq_getElem hi⟩
 have r:=JP hn;have hln:(kX bits).length=bits.length:=List.length_map _;have other:∀u m,Y u ⟨h.nx,h.bl.bx ib (ai (kX (bits.set i m)) 3 false),h.lo⟩:=λu m=>hk u _ _ ⟨List.length_set ..,.inr rfl⟩;have ov:∀m,over (kX bits) i [X1 m]=kX (bits.set i m):=λm=>HT hi;apply X2;rw[PY];refine zX gp hi _ ?_;simp(disch:=try exact QQ)only[Wz];refine L9 gp gi hn 1 _ ?_;by_cases z1:JO n 1=0
 .simp(disch:=try exact QQ)only[Wz,bq z1,Fa,aL,gp,aX,gi,r,Nat.mul_one,HO,ov];exact other _ _
 .simp(disch:=try exact QQ)only[Wz,a_ z1,E_,aL,gp,aX,gi,r,Nat.mul_one,HS,ov];exact other _ _
end
section
variable {h:ah}{lb hb:Nat}{cr:List (Option (Nat × Int))}
def aaX(hb:Nat)(cr:List (Option (Nat × Int)))(h h':ah)(gN:List (Option (Nat × Int))):Prop:=
 gN.length=cr.length/\((h'=h/\gN=cr)\/(∃i,gN=cr.set i none/\h'=⟨h.nx,h.bl.bx hb (ai (nU gN) 251 false),h.lo⟩)\/
  ∃(i:Nat)(th:Int),gN=cr.set i (some (h.nx,th))/\h'=⟨h.nx+1,(h.bl.bx h.nx (ai [X1 th] 253 false)).bx hb (ai (nU gN) 251 false),h.lo⟩)
theorem UG(gl:h.bl.get lb=some (ai [X9 hb cr.length cr.length] 247 false))(gh:h.bl.get hb=some (ai (nU cr) 251 false))(hhb:hb<h.nx/\h.lo<=hb)(hlb:lb<h.nx)(ho:∀p,some p∈cr->h.bl.get p.1=some (ai [X1 p.2] 253 false)){i:Nat}{th:Int}(hi:i<cr.length)(ht:0<=th/\th<8)(Y:KQ)(hk:∀u h' gN,aaX hb cr h h' gN->Y u h'):aj prog 105 [X3 lb,X1 (i:Int),X1 th] h Y:=by
 obtain⟨o,hio⟩:∃o,cr[i]? = some o:=⟨_,List.getElem?_eq_getElem hi⟩
 cases o with
 |none=>exact aaQ gl gh hhb hlb hio ht Y (hk _ _ _ ⟨List.length_set ..,.inr (.inr ⟨i,th,rfl,rfl⟩)⟩)
 |some p=>
  have r:=zV hio;have gp:=ho p (List.mem_of_getElem? hio);have hln:(nU cr).length=cr.length:=List.length_map _;have same:∀u,Y u h:=λu=>hk u h cr ⟨rfl,.inl ⟨rfl,rfl⟩⟩;apply X2;rw[PX];refine oO gl hi ht _ ?_;simp only[dS,Option.map_some]at r;simp(disch:=try exact QQ)only[Wz,yP,aL,gl,aX,gh,r,Nat.mul_one,uI,E7,gp];by_cases e:p.2=th
  .simp(disch:=try exact QQ)only[Wz,bq e];exact same _
  .simp(disch:=try exact QQ)only[Wz,a_ e];exact same _
theorem RI(gl:h.bl.get lb=some (ai [X9 hb cr.length cr.length] 247 false))(gh:h.bl.get hb=some (ai (nU cr) 251 false))(hhb:hb<h.nx/\h.lo<=hb)(ho:∀p,some p∈cr->h.bl.get p.1=some (ai [X1 p.2] 253 false)){i:Nat}{th:Int}(hi:i<cr.length)(ht:0<=th/\th<8)(Y:KQ)(hk:∀u h' gN,aaX hb cr h h' gN->Y u h'):aj prog 215 [X3 lb,X1 (i:Int),X1 th] h Y:=by
 obtain⟨o,hio⟩:∃o,cr[i]? = some o:=⟨_,List.getElem?_eq_getElem hi⟩
 have same:∀u,Y u h:=λu=>hk u h cr ⟨rfl,.inl ⟨rfl,rfl⟩⟩;have r:=zV hio;have hln:(nU cr).length=cr.length:=List.length_map _;cases o with
 |none=>
  apply X2;rw[Jm];refine oO gl hi ht _ ?_;simp only[dS,Option.map_none]at r;simp(disch:=try exact QQ)only[Wz,uo,aL,gl,aX,gh,r,Nat.mul_one,zU];exact same _
 |some p=>
  have gp:=ho p (List.mem_of_getElem? hio);by_cases e:p.2=th
  .obtain⟨p1,p2⟩:=p;simp only at e gp;subst e;exact UC gl gh hhb hio gp ht Y (hk _ _ _ ⟨List.length_set ..,.inr (.inl ⟨i,rfl,rfl⟩)⟩)
  .refine ay mixed ?_;rw[Jm];refine oO gl hi ht _ ?_;simp only[dS,Option.map_some]at r;simp(disch:=try exact QQ)only[Wz,uo,aL,gl,aX,gh,r,gp,Nat.mul_one,uI,a_ e];exact same _
end
structure WQ(M:List HE)(id t r x:Int):Prop where
 e:∃e∈M,e.t=t/\e.r=r/\∃p∈e.Q,p.id=id/\p.x=x/\0<p.s
theorem z7:∀(n:Nat)(Q:List R5)(p:R5),p∈(dx n Q).1->0<p.s->p∈Q
 |0,Q,p,hp,_=>hp
 |n+1,Q,p,hp,hs=>by
  unfold dx at hp;split at hp
  .exact hp
  .rename_i i hf;split at hp
   .exact hp
   .rename_i r hr;split at hp
    .have h1:=z7 n _ p hp hs;rcases List.mem_or_eq_of_mem_set h1 with h2|h2
     .exact h2
     .subst h2;simp[eD]at hs
    .exact hp
theorem vN:∀(n:Nat)(Q:List R5),(dx n Q).2.length<=n:=by
 intro n
 induction n with
 |zero=>intro Q;exact Nat.le_refl 0
 |succ n ih=>
  intro Q;unfold dx;split
  .exact Nat.zero_le _
  .split
   .exact Nat.zero_le _
   .split
    .exact Nat.succ_le_succ (ih _)
    .exact Nat.zero_le _
theorem iD.waits{M M':List HE}{t r w:Int}{n:Nat}{Q:List R5}(s:iD M M' t r w (dx n Q).1){id t' r' x:Int}(h:WQ M' id t' r' x):(t'=t/\r'=r/\∃p∈Q,p.id=id/\p.x=x/\0<p.s)\/(¬(t'=t/\r'=r)/\WQ M id t' r' x):=by
 obtain⟨e,he,rfl,rfl,p,hp,h1,h2,h3⟩:=h.e;have old:e∈M.filter (λx=>!uB t r x)->¬(e.t=t/\e.r=r)/\WQ M id e.t e.r x:=by
  intro h4;rw[List.mem_filter]at h4;refine⟨?_,⟨e,h4.1,rfl,rfl,p,hp,h1,h2,h3⟩⟩;rintro⟨rfl,rfl⟩;simp[uB]at h4
 by_cases hQ:(dx n Q).1=[]
 .rw[s.gone hQ]at he;exact .inr (old he)
 .obtain⟨e0,f1,f2,f3,f4,f5⟩:=s.put hQ;rcases List.mem_append.1 (f5.mem_iff.1 he)with h4|h4
  .exact .inr (old h4)
  .rw[List.mem_singleton]at h4;subst h4;rw[f4]at hp;exact .inl ⟨f1,f2,p,z7 _ _ _ hp h3,h1,h2,h3⟩
section
variable {h h':ah}{bb bm bp bl most:Nat}{M M':List HE}{clock':Nat}{F F':List Int}{B B':List Bool}
theorem eE.waits{e:HE}{Q1:List R5}{w1:Int}(m:eE h h' bb bm bp bl most M M' clock' F' B' e Q1 w1){id t r x:Int}(hw:WQ M' id t r x):(t=e.t/\r=e.r/\∃p∈Q1,p.id=id/\p.x=x/\0<p.s)\/(¬(t=e.t/\r=e.r)/\WQ M id t r x):=m.set.waits hw
theorem eE.left{e:HE}(he:e∈M){i:Int}{w1:Int}(m:eE h h' bb bm bp bl most M M' clock' F' B' e (e.Q.filter λr=>!bE i r) w1){id t r x:Int}(hw:WQ M' id t r x):WQ M id t r x/\(id=i->¬(t=e.t/\r=e.r)):=by
 rcases m.waits hw with⟨rfl,rfl,p,hp,h1,h2,h3⟩|⟨h1,h2⟩
 .rw[List.mem_filter]at hp;refine⟨⟨e,he,rfl,rfl,p,hp.1,h1,h2,h3⟩,λe'=>?_⟩;have:=hp.2;simp[bE]at this;exact absurd (h1.trans e') this
 .exact⟨h2,λ_=>h1⟩
theorem eE.wS{e:HE}(he:e∈M){i:Nat}{q:R5}{w1:Int}(m:eE h h' bb bm bp bl most M M' clock' F' B' e (e.Q.set i q) w1){id t r x:Int}(hw:WQ M' id t r x):WQ M id t r x\/(t=e.t/\r=e.r/\q.id=id/\q.x=x/\0<q.s):=by
 rcases m.waits hw with⟨rfl,rfl,p,hp,h1,h2,h3⟩|⟨h1,h2⟩
 .rcases List.mem_or_eq_of_mem_set hp with h4|h4
  .exact .inl ⟨e,he,rfl,rfl,p,h4,h1,h2,h3⟩
  .subst h4;exact .inr ⟨rfl,rfl,h1,h2,h3⟩
 .exact .inl h2
theorem lp.waits{t r x m:Int}{n:Nat}{g:Bool}(a:lp h h' bb bm bp bl most M M' clock' F F' B t r x m n g){id t' r' x':Int}(hw:WQ M' id t' r' x'):WQ M id t' r' x'\/(g=false/\t'=t/\r'=r/\x'=x/\id=(n:Int)):=by
 obtain⟨Q,w,hold,v1,v2,rfl,set⟩:=a.set;rcases set.waits hw with⟨rfl,rfl,p,hp,h1,h2,h3⟩|⟨h1,h2⟩
 .rcases List.mem_append.1 hp with h4|h4
  .rcases hold with⟨e,he,rfl,rfl,rfl,_⟩|⟨_,_,rfl,_⟩
   .exact .inl ⟨e,he,rfl,rfl,p,h4,h1,h2,h3⟩
   .cases h4
  .rw[List.mem_singleton]at h4;subst h4;unfold kS at h1 h2 h3 ⊢;by_cases hc:(decide (fq Q=none) && iY Q ⟨(n:Int),x,0,m,0⟩)=true
   .rw[if_pos hc]at h3;exact absurd h3 (Int.lt_irrefl _)
   .rw[if_neg hc]at h1 h2 ⊢;exact .inr ⟨rfl,rfl,rfl,h2.symm,h1.symm⟩
 .exact .inl h2
end
def WT(Ts:List TB)(id t r x:Int):Prop:=∃b∈Ts,WQ b.M id t r x
theorem WT.set{Ts:List TB}{k:Nat}{b:TB}(hk:Ts[k]? = some b){M':List HE}{clock':Nat}{id t r x:Int}(h:WT (Ts.set k ⟨b.bb,b.bm,M',clock'⟩) id t r x):(WQ M' id t r x)\/∃b' j,j≠k/\Ts[j]? = some b'/\WQ b'.M id t r x:=by
 obtain⟨b',hb',hw⟩:=h;obtain⟨j,hj⟩:=List.getElem?_of_mem hb';rcases gj hj with⟨rfl,rfl⟩|⟨hne,hj⟩
 .exact .inl hw
 .exact .inr ⟨b',j,hne,hj,hw⟩
theorem WT.of{Ts:List TB}{k:Nat}{b:TB}(hk:Ts[k]? = some b){id t r x:Int}(h:WQ b.M id t r x):WT Ts id t r x:=⟨b,List.mem_of_getElem? hk,h⟩
theorem HV:∀(n:Nat)(Q:List R5)(p:R5),p∈(dx n Q).1->∃q∈Q,q.id=p.id/\q.x=p.x
 |0,Q,p,hp=>⟨p,hp,rfl,rfl⟩
 |n+1,Q,p,hp=>by
  unfold dx at hp;split at hp
  .exact⟨p,hp,rfl,rfl⟩
  .rename_i i hf;split at hp
   .exact⟨p,hp,rfl,rfl⟩
   .rename_i r hr;split at hp
    .obtain⟨q,h1,h2,h3⟩:=HV n _ p hp;rcases List.mem_or_eq_of_mem_set h1 with h4|h4
     .exact⟨q,h4,h2,h3⟩
     .subst h4;exact⟨r,List.mem_of_getElem? hr,h2,h3⟩
    .exact⟨p,hp,rfl,rfl⟩
def RT(Ts:List TB)(id t r x:Int):Prop:=∃b∈Ts,∃e∈b.M,e.t=t/\e.r=r/\∃p∈e.Q,p.id=id/\p.x=x
theorem RT.left{h h':ah}{bb bm bp bl most:Nat}{M M':List HE}{clock clock':Nat}{F':List Int}{B':List Bool}{e:HE}{i:Int}{w1:Int}{Ts:List TB}{k:Nat}(hk:Ts[k]? = some ⟨bb,bm,M,clock⟩)(he:e∈M)(m:eE h h' bb bm bp bl most M M' clock' F' B' e (e.Q.filter λr=>!bE i r) w1){id t r x:Int}(hw:RT (Ts.set k ⟨bb,bm,M',clock'⟩) id t r x):RT Ts id t r x:=by
 obtain⟨b',hb',e',he',rfl,rfl,p,hp,h1,h2⟩:=hw;obtain⟨j,hj⟩:=List.getElem?_of_mem hb';rcases gj hj with⟨rfl,rfl⟩|⟨hne,hj⟩
 .have s:=m.set;have old:e'∈M.filter (λx=>!uB e.t e.r x)->RT Ts id e'.t e'.r x:=λh4=>⟨_,List.mem_of_getElem? hk,e',(List.mem_filter.1 h4).1,rfl,rfl,p,hp,h1,h2⟩
  by_cases hQ:(dx (fO (e.Q.filter λr=>!bE i r)+1) (e.Q.filter λr=>!bE i r)).1=[]
  .have he':e'∈M':=he';rw[s.gone hQ]at he';exact old he'
  .obtain⟨e0,f1,f2,f3,f4,f5⟩:=s.put hQ;rcases List.mem_append.1 (f5.mem_iff.1 he')with h4|h4
   .exact old h4
   .rw[List.mem_singleton]at h4;subst h4;rw[f4]at hp;obtain⟨q,q1,q2,q3⟩:=HV _ _ _ hp;exact⟨_,List.mem_of_getElem? hk,e,he,f1.symm,f2.symm,q,(List.mem_filter.1 q1).1,q2.trans h1,q3.trans h2⟩
 .exact⟨b',List.mem_of_getElem? hj,e',he',rfl,rfl,p,hp,h1,h2⟩
end Go.Proofs

namespace Go.Vai
open Go
section
variable {α:Type}{s:Nat}{enc:α->List Value}
def ee(enc:α->List Value)(s:Nat)(e:TypeId)(B:Nat)(h:ah)(v:Value)(L:List α)(o:Option Nat):Prop:=
 (L=[]/\v=.slice none 0 0/\o=none)\/
 ∃(b:Nat)(G:List α),o=some b/\b<h.nx/\h.lo<=b/\h.bl.get b=some (ai ((G++L).flatMap enc) e true)/\(G++L).length<=B/\
  v=.slice (some ⟨b,G.length*s,none⟩) L.length (if L=[]then gH else aS)
theorem ee.nil{e:TypeId}{B:Nat}{h:ah}:ee enc s e B h (.slice none 0 0) [] none:=.inl ⟨rfl,rfl,rfl⟩
theorem ee.up{e:TypeId}{B B':Nat}{h:ah}{v:Value}{L:List α}{o:Option Nat}(t:ee enc s e B h v L o)(hB:B<=B'):ee enc s e B' h v L o:=by
 rcases t with t|⟨b,G,h1,h2,h3,h4,h5,h6⟩
 .exact .inl t
 .exact .inr ⟨b,G,h1,h2,h3,h4,Nat.le_trans h5 hB,h6⟩
theorem ee.keep{e:TypeId}{B:Nat}{h h':ah}{v:Value}{L:List α}{o:Option Nat}(t:ee enc s e B h v L o)(hn:h.nx<=h'.nx)(hl:h'.lo=h.lo)(hg:∀b,o=some b->h'.bl.get b=h.bl.get b):ee enc s e B h' v L o:=by
 rcases t with t|⟨b,G,h1,h2,h3,h4,h5,h6⟩
 .exact .inl t
 .exact .inr ⟨b,G,h1,XV,XV,(hg b h1).trans h4,h5,h6⟩
theorem ee.sl(he:∀a:α,(enc a).length=s){e:TypeId}{B:Nat}{h:ah}{v:Value}{L:List α}{o:Option Nat}(t:ee enc s e B h v L o):Sl enc h v L:=by
 rcases t with⟨rfl,rfl,_⟩|⟨b,G,h1,h2,h3,h4,h5,rfl⟩
 .exact Sl.nil _ _ _
 .refine⟨_,_,rfl,λhne=>⟨b,_,rfl,h2,?_⟩⟩;rw[h4,List.flatMap_append];have hl:=bg (enc:=enc) he G;have:=(Has.all (vs:=G.flatMap enc++L.flatMap enc) (e:=e) (op:=true)).sub (G.length*s) (L.flatMap enc).length (by rw[List.length_append,hl];omega);rw[Nat.zero_add,List.drop_append_of_le_length (by rw[hl];exact Nat.le_refl _),List.drop_of_length_le (by rw[hl];exact Nat.le_refl _),List.nil_append,List.take_length]at this;exact this
set_option maxRecDepth 20000 in
theorem ee.append{h:ah}{e:TypeId}{z:List Value}{v x:Value}{o:Option Nat}{L M:List α}{B:Nat}(he:∀a:α,(enc a).length=s)(hone:∀a:α,(enc a).all eO=true)(hs0:0<s)(hs1:s<=100)(t:ee enc s e B h v L o)(hx:Sl enc h x M)(hB:B+M.length<=1000000000)(hlo:h.lo<=h.nx)(Y:KQ)(hk:∀v' o' h',ee enc s e (B+M.length) h' v' (L++M) o'->h.nx<=h'.nx->h'.lo=h.lo->(∀b,b<h.nx->o≠some b->h'.bl.get b=h.bl.get b)->(o'=o\/∃b,o'=some b/\h.nx<=b/\b<h'.nx)->Y v' h'):bt False And e s z false v x h Y:=by
 by_cases hM:M=[]
 .subst hM;rw[append_nil hx (by rcases t with⟨_,rfl,_⟩|⟨b,G,_,_,_,_,_,rfl⟩<;>exact⟨_,_,_,rfl⟩)];exact hk v o h (by simpa using t) (Nat.le_refl _) rfl (λ_ _ _=>rfl) (.inl rfl)
 .obtain⟨m,hm⟩:∃m,M.length=m+1:=⟨M.length-1,by have:=List.length_pos_iff.2 hM;omega⟩
  have hfl:=bg (enc:=enc) he;have fh:=hx.first (β:=Prop) (fl:=False) he;obtain⟨y,cap,rfl,h2⟩:=hx;have hml:∀K:List α,K.length<=1000000000->(K.flatMap enc).length<=1000000000000:=λK hK=>by
   rw[hfl];have:=Nat.mul_le_mul hK hs1;omega
  have hLM:L++M≠[]:=by simp[hM]
  have e5:(M.flatMap enc).all eO=true:=by
   rw[List.all_flatMap];simp only[List.all_eq_true];intro x _;exact List.all_eq_true.1 (hone x)
  have fresh:∀(hh:ah)(ws:List Value)(G:List α),ws=(G++(L++M)).flatMap enc->(G++(L++M)).length<=B+M.length->hh.nx=h.nx->hh.lo=h.lo->(∀b,b<h.nx->o≠some b->hh.bl.get b=h.bl.get b)->
    cG False ws e true hh λb h'=>Y (.slice (some ⟨b,G.length*s,none⟩) (L.length+M.length) aS) h':=by
   intro hh ws G hw hGl hnx hl hgt;subst hw;unfold cG;rw[iS _ _ _ _ (hml _ XV),dJ];refine hk _ (some hh.nx) _ (.inr ⟨hh.nx,G,rfl,Nat.lt_succ_self _,by show hh.lo<=_;omega,T.an _ _ _,hGl,?_⟩) (by show h.nx<=hh.nx+1;omega) hl (λb hb hn=>(T.au _ _ XV).trans (hgt b hb hn)) (.inr ⟨hh.nx,rfl,XV,Nat.lt_succ_self _⟩);rw[if_neg hLM,List.length_append]
  rcases t with⟨rfl,rfl,rfl⟩|⟨b,G,rfl,h3,h4,h6,h7,rfl⟩
  .have hF:=fresh h (M.flatMap enc) [] (by simp) (by simp) rfl rfl (λ_ _ _=>rfl);simp only[List.length_nil,Nat.zero_add,Nat.zero_mul]at hF;unfold bt jf;simp only;rw[fh];simp only[hm,bR];have e1:Nat.add 0 (m+1)=m+1:=by show 0+(m+1)=_;omega
   rw[e1,show Nat.ble (m+1) 1000000000=true from Nat.ble_eq_true_of_le XV];rw[hm]at hF;exact hF
  .have hGL:(G++L).length=G.length+L.length:=List.length_append;have h7':G.length+L.length<=B:=by rw[<-hGL];exact h7
   have hold:((G++L).flatMap enc++M.flatMap enc)=(G++(L++M)).flatMap enc:=by simp[List.flatMap_append]
   have dead:∀G':List α,(G'++(L++M)).length<=B+M.length->cG False ((G'++(L++M)).flatMap enc) e true ⟨h.nx,h.bl.bx b (.dead ((G++L).flatMap enc).length e),h.lo⟩ λb h'=>Y (.slice (some ⟨b,G'.length*s,none⟩) (L.length+M.length) aS) h':=λG' hG'=>
    fresh _ _ G' rfl hG' rfl rfl (λb' _ hn=>T.au _ _ (λe=>hn (by rw[e])))
   have BX:cG False ((L++M).flatMap enc) e true h λb h'=>Y (.slice (some ⟨b,0,none⟩) (L.length+M.length) aS) h':=by
    have:=fresh h ((L++M).flatMap enc) [] (by simp) (by simp;omega) rfl rfl (λ_ _ _=>rfl);simpa using this
   have e0:(G++(L++M)).length<=B+M.length:=by simp at hGL ⊢;omega
   have WN:∀κ':List Value->Prop,jV False (lay ((G++L).flatMap enc) .nil 0) 0 ((G++L).flatMap enc).length [] κ'=κ' ((G++L).flatMap enc):=λκ'=>by
    rw[yy _ _ _ _ _ XV,List.drop_zero,List.take_length,List.append_nil]
   by_cases hL:L=[]
   .subst hL;rw[if_pos rfl];unfold bt jf;simp only;rw[fh];have e1:Nat.add ([]:List α).length (m+1)=m+1:=by show 0+(m+1)=_;omega
    simp only[hm,bR];rw[e1,show Nat.ble (m+1) 1000000000=true from Nat.ble_eq_true_of_le XV];have c1:Nat.beq gH fT=false:=by decide
    have c2:Nat.beq gH gH=true:=Nat.beq_refl _;simp only[c1,c2,h6,ai];have c3:Nat.beq (G.length*s) ((G++[]).flatMap enc).length=true:=by rw[hfl,List.append_nil];exact Nat.beq_refl _
    simp only[List.length_nil,Nat.beq_refl,c3,e5,Bool.and_self];rw[WN,bI _ _ _ _ h4,hold];have d1:=dead G e0;have d2:=BX;simp only[List.length_nil,Nat.zero_add,List.nil_append,hm]at d1 d2;exact⟨d1,d2⟩
   .rw[if_neg hL];unfold bt jf;simp only;rw[fh];simp only[hm,bR];have e1:Nat.add L.length (m+1)=L.length+(m+1):=rfl;rw[e1,show Nat.ble (L.length+(m+1)) 1000000000=true from Nat.ble_eq_true_of_le (by rw[hGL]at h7;omega)];have c1:Nat.beq aS fT=false:=by decide
    have c0:Nat.beq aS gH=false:=by decide
    have c2:Nat.beq aS aS=true:=Nat.beq_refl _;simp only[c1,c0,c2,h6,ai];have hnn:((G++L).flatMap enc).length=G.length*s+L.length*s:=by rw[hfl,hGL,Nat.add_mul]
    have e4:Nat.ble (Nat.add (G.length*s) (Nat.mul (L.length+(m+1)) s)) ((G++L).flatMap enc).length=false:=by
     cases Iu:Nat.ble (Nat.add (G.length*s) (Nat.mul (L.length+(m+1)) s)) ((G++L).flatMap enc).length with
     |false=>rfl
     |true=>
      have h8:G.length*s+(L.length+(m+1))*s<=((G++L).flatMap enc).length:=Nat.le_of_ble_eq_true Iu;rw[hnn,Nat.add_mul,Nat.succ_mul]at h8;omega
    have UH:∀κ':List Value->Prop,fo False h s L.length (.slice (some ⟨b,G.length*s,none⟩) L.length aS) κ'=κ' (L.flatMap enc):=λκ'=>by
     refine jX ?_ s L.length _ _ _ (hfl L).symm;have:=(Has.all (vs:=G.flatMap enc++L.flatMap enc) (e:=e) (op:=true)).sub (G.length*s) (L.flatMap enc).length (by rw[List.length_append,hfl G];omega);rw[Nat.zero_add,List.drop_append_of_le_length (by rw[hfl G];exact Nat.le_refl _),List.drop_of_length_le (by rw[hfl G];exact Nat.le_refl _),List.nil_append,List.take_length]at this;rw[h6,List.flatMap_append];exact this
    simp only[Nat.beq_refl,e4,e5,Bool.and_true];have d1:=dead G e0;have d2:=BX;simp only[hm]at d1 d2;by_cases hG:G.length*s=0
    .have hG0:G=[]:=List.eq_nil_of_length_eq_zero (by rcases Nat.mul_eq_zero.1 hG with h|h<;>omega);subst hG0;have d0:=dead [] (by simpa using e0);simp only[hm,List.nil_append,List.length_nil,Nat.zero_mul]at d0;have c5:Nat.beq (([]:List α).length*s) 0=true:=by simp
     simp only[c5];rw[UH,bI _ _ _ _ h4,<-List.flatMap_append];exact d0
    ·have c5:Nat.beq (G.length*s) 0=false:=by
      cases hq:Nat.beq (G.length*s) 0 with
      |false=>rfl
      |true=>exact absurd (c_ hq) hG
     have c6:Nat.beq (Nat.add (G.length*s) (Nat.mul L.length s)) ((G++L).flatMap enc).length=true:=by rw[hnn];exact Nat.beq_refl _
     simp only[c5,c6];rw[WN,bI _ _ _ _ h4,hold,UH,<-List.flatMap_append];exact⟨d1,d2⟩
theorem ee.cut(he:∀a:α,(enc a).length=s)(hs0:0<s){h:ah}{e:TypeId}{v:Value}{o:Option Nat}{x:α}{L:List α}{B:Nat}(t:ee enc s e B h v (x::L) o):∃v',ee enc s e B h v' L o/\∀(β:Type)(fl:β)(Y:XW β),sliceB fl e s v (some (.int .i64 1)) none none h Y=Y v' h:=by
 rcases t with⟨h0,_⟩|⟨b,G,rfl,h2,h3,h4,h5,rfl⟩
 .cases h0
 obtain⟨s,rfl⟩:∃k,s=k+1:=⟨s-1,XV⟩
 have hfl:=bg (enc:=enc) he;have hlen:((G++x::L).flatMap enc).length=(G.length+(L.length+1))*(s+1):=by rw[hfl,List.length_append,List.length_cons]
 refine⟨.slice (some ⟨b,(G++[x]).length*(s+1),none⟩) L.length (if L=[]then gH else aS),.inr ⟨b,G++[x],rfl,h2,h3,by simpa using h4,by simpa using h5,rfl⟩,λβ fl Y=>?_⟩;rw[if_neg (by simp)];have hk:jj h e b=some ((G.length+(L.length+1))*(s+1)):=by unfold jj;rw[h4];simp only[ai,jm,hlen]
 have e1:Nat.beq aS fT=false:=by decide
 have e2:Nat.beq aS aS=true:=Nat.beq_refl _;have e3:Nat.ble (G.length*(s+1)) ((G.length+(L.length+1))*(s+1))=true:=Nat.ble_eq_true_of_le (Nat.mul_le_mul_right _ XV);have hd:Nat.div (Nat.sub ((G.length+(L.length+1))*(s+1)) (G.length*(s+1))) (s+1)=L.length+1:=by
  show((G.length+(L.length+1))*(s+1)-G.length*(s+1)) / (s+1)=_
  rw[<-Nat.sub_mul,show G.length+(L.length+1)-G.length=L.length+1 by omega,Nat.mul_div_cancel _ XV]
 have hb:∀κ':Nat->Nat->Nat->β,iP fl (L.length+1) (L.length+1) aS (some (.int .i64 1)) none none κ'=κ' 1 (L.length+1) aS:=λκ'=>Jc (i:=1) XV (Nat.le_refl _) κ';unfold sliceB;simp only[e1,e2,hk,e3,hd,List.length_cons];rw[hb];simp only[e2];have ho:G.length*(s+1)+1*(s+1)=(G++[x]).length*(s+1):=by rw[List.length_append,<-Nat.add_mul];rfl
 by_cases hL:L=[]
 .subst hL;have e4:Nat.beq 1 (([]:List α).length+1)=true:=rfl;simp only[e4,bR,if_true]
  show Y (.slice (some ⟨b,G.length*(s+1)+1*(s+1),none⟩) 0 gH) h=_
  rw[ho];rfl
 ·have e4:Nat.beq 1 (L.length+1)=false:=by
   cases hq:Nat.beq 1 (L.length+1)with
   |false=>rfl
   |true=>have:=c_ hq;have:=List.length_pos_iff.2 hL;omega
  rw[if_neg hL];simp only[e4,bR]
  show Y (.slice (some ⟨b,G.length*(s+1)+1*(s+1),none⟩) (L.length+1-1) aS) h=_
  rw[ho,show L.length+1-1=L.length by omega]
theorem ee.val{h:ah}{e:TypeId}{v:Value}{o:Option Nat}{L:List α}{B:Nat}(t:ee enc s e B h v L o):∃x cc,v=.slice x L.length cc:=by
 rcases t with⟨rfl,rfl,_⟩|⟨b,G,rfl,h2,h3,h4,h5,rfl⟩<;>exact⟨_,_,rfl⟩
end
end Go.Vai

namespace Go.Proofs
open Go.Vai Go.Clashes
open Tryz (prog)
theorem aj0(h:ah)(b o:Nat):nH prog h 100 122 (.pointer (some ⟨b,o,none⟩)) (.pointer none)=some false:=by kernel_rfl
theorem uK{β:Type}{fl:β}(cn:Bool)(b o:Nat)(h:ah)(Y:XW β):aG fl prog .eql 122 cn false (.pointer (some ⟨b,o,none⟩)) (.pointer none) h Y=Y (.bool false) h:=by simp only[aG,aj0,cF]
def RJ(b:Nat):Value:=.iface 261 (.pointer (some ⟨b,1,none⟩))
theorem JQ(b : Nat)(h : ah)(Y : Value → ah → Prop):gG prog "Len" (RJ b) [] h Y = (ax False (.pointer (some ⟨b, 1, none⟩)) h fun v h => aj prog 458 [v] h Y) := by kernel_rfl
theorem Dw(b : Nat)(i j : Value)(h : ah)(Y : Value → ah → Prop):gG prog "Less" (RJ b) [i, j] h Y = (ax False (.pointer (some ⟨b, 1, none⟩)) h fun v h => aj prog 459 [v, i, j] h Y) := by kernel_rfl
theorem xJ(b : Nat)(i j : Value)(h : ah)(Y : Value → ah → Prop):gG prog "Swap" (RJ b) [i, j] h Y = (ax False (.pointer (some ⟨b, 1, none⟩)) h fun v h => aj prog 460 [v, i, j] h Y) := by kernel_rfl
theorem UI(b : Nat)(x : Value)(h : ah)(Y : Value → ah → Prop):gG prog "Push" (RJ b) [x] h Y = aj prog 464 [.pointer (some ⟨b, 1, none⟩), x] h Y := by kernel_rfl
theorem RK(b : Nat)(h : ah)(Y : Value → ah → Prop):gG prog "Pop" (RJ b) [] h Y = aj prog 463 [.pointer (some ⟨b, 1, none⟩)] h Y := by kernel_rfl
structure TM where
 at':Int
 who:Int
 mark:Int
def c9(t:TM):List Value:=[X1 t.at',X1 t.who,X1 t.mark]
theorem eW(t:TM):(c9 t).length=3:=rfl
theorem rG(t:TM):(c9 t).all eO=true:=rfl
def cW(h:ah)(v:Value)(Z:List TM):Prop:=
 (Z=[]/\v=.slice none 0 0)\/∃(b:Nat)(G:List TM),b<h.nx/\h.lo<=b/\h.bl.get b=some (ai ((Z++G).flatMap c9) 258 true)/\0<(Z++G).length/\v=X9 b Z.length aS
theorem cW.keep{h h':ah}{v:Value}{Z:List TM}(t:cW h v Z)(hn:h.nx<=h'.nx)(hl:h'.lo=h.lo)(hg:∀b vs,b<h.nx->h.bl.get b=some (ai vs 258 true)->h'.bl.get b=h.bl.get b):cW h' v Z:=by
 rcases t with t|⟨b,G,h1,h2,h3,h4⟩
 .exact .inl t
 .exact .inr ⟨b,G,XV,XV,(hg b _ h1 h3).trans h3,h4⟩
theorem cW.val{h:ah}{v:Value}{Z:List TM}(t:cW h v Z):∃x cc,v=.slice x Z.length cc:=by
 rcases t with⟨rfl,rfl⟩|⟨b,G,_,_,_,_,rfl⟩<;>exact⟨_,_,rfl⟩
structure bQ(h:ah)(kb:Nat)(now:Int)(Z:List TM):Prop where
 lt:kb<h.nx
 lo:h.lo<=kb
 cell:∃tv,h.bl.get kb=some (ai [X1 now,tv] 200 false)/\cW h tv Z
structure pO(kb:Nat)(h h':ah):Prop where
 nx:h.nx<=h'.nx
 lo:h'.lo=h.lo
 get:∀b,b<h.nx->b≠kb->(∀vs,h.bl.get b≠some (ai vs 258 true))->h'.bl.get b=h.bl.get b
theorem pO.refl(kb:Nat)(h:ah):pO kb h h:=⟨Nat.le_refl _,rfl,λ_ _ _ _=>rfl⟩
theorem pO.of_le{kb:Nat}{h h':ah}(l:Le h h'):pO kb h h':=⟨l.nx,l.lo,λb hb _ _=>l.get b hb⟩
theorem pO.trans{kb:Nat}{h h1 h2:ah}(x:pO kb h h1)(y:pO kb h1 h2):pO kb h h2:=
 ⟨Nat.le_trans x.nx y.nx,y.lo.trans x.lo,λb hb hn hv=>by
  have e:=x.get b hb hn hv;exact(y.get b (Nat.lt_of_lt_of_le hb x.nx) hn λvs=>by rw[e];exact hv vs).trans e⟩
theorem bQ.le{h h':ah}{kb:Nat}{now:Int}{Z:List TM}(c:bQ h kb now Z)(l:Le h h'):bQ h' kb now Z:=by
 obtain⟨tv,g,t⟩:=c.cell;have h1:=c.lt;have h2:=c.lo;have h3:=l.nx;have h4:=l.lo;exact⟨XV,XV,tv,(l.get _ h1).trans g,t.keep l.nx l.lo λb _ hb _=>l.get b hb⟩
theorem HW(a:Int){h:ah}{Y:KQ}(hk:Y (.bool false) h):aj prog 360 [X1 a] h Y:=by
 refine iX (v:=.bool false) rfl rfl (ay mixed ?_) hk;rw[ZC];simp(disch:=try exact QQ)only[Wz]
theorem z8(a b:Int){h:ah}{Y:KQ}(hk:Y (X1 (eX a b)) h):aj prog 315 [X1 a,X1 b] h Y:=by
 refine iX (v:=X1 (eX a b)) rfl rfl (ay mixed ?_) hk;rw[Zi];refine HW _ (HW _ ?_);rcases Int.lt_trichotomy a b with h1|h1|h1
 .simp(disch:=try exact QQ)only[Wz,uq];simp[eX,h1]
 .simp(disch:=try exact QQ)only[Wz,uq];simp[eX,h1]
 .simp(disch:=try exact QQ)only[Wz,uq];simp[eX,h1];omega
theorem ae8(L:List Int)(h:ah)(v:Value)(hv:Sl aU h v L)(hL:L.length<=1000)(Y:KQ)(hk:∀n,Y (X1 n) h):aj prog 118 [v] h Y:=by
 apply X2;rw[PZ];simp only[hv.len];refine⟨λn l h1=>h1=h/\∃k:Nat,aa l 10=X1 (k:Int)/\k<=L.length/\n=L.length-k,⟨_,rfl,0,rfl,XV,rfl⟩,?_⟩;rintro n l h1 ⟨rfl,k,hs,hk2,rfl⟩;by_cases hlt:k<L.length
 .obtain⟨x,hx⟩:∃x,L[k]? = some x:=⟨_,List.getElem?_eq_getElem hlt⟩
  obtain⟨b0,o0,hb0,Df,_,hh0⟩:=hv.ld aZ k hx;have hx0:=λ(β:Type)(fl:β) Y=>cO (fl:=fl) hh0 0 Y (Nat.lt_succ_self _);simp only[Nat.add_zero,aU]at hx0;by_cases h0:x=0
  .simp(disch:=try exact QQ)only[Wz,hs,mu,dw (show(k:Int)<(L.length:Int)by omega),Df,hx0,bq h0];exact⟨_,XV,trivial,k+1,rfl,XV,rfl⟩
  .simp(disch:=try exact QQ)only[Wz,hs,mu,dw (show(k:Int)<(L.length:Int)by omega),Df,hx0,a_ h0];exact hk _
 .simp(disch:=try exact QQ)only[Wz,hs,b_ (show(L.length:Int)<=(k:Int)by omega)];exact hk _
theorem JR(x y:TM)(h:ah)(hlo:h.lo<=h.nx)(Y:KQ)(hk:∀n h',Le h h'->Y (X1 n) h'):aj prog 461 [.agg ⟨c9 x⟩,.agg ⟨c9 y⟩] h Y:=by
 apply X2;rw[Z5];simp(disch:=try exact QQ)only[Wz,c9];obtain⟨hA,bH,aY,g1,g2,ia,ic⟩:=DK h (ai [X1 x.at',X1 x.who,X1 x.mark] 258 false) (ai [X1 y.at',X1 y.who,X1 y.mark] 258 false);rw[<-bH];clear bH;refine z8 _ _ ?_;simp(disch:=try exact QQ)only[Wz,g1,g2];refine gM _ _ ?_;simp(disch:=try exact QQ)only[Wz,g1,g2];refine gM _ _ ?_;rw[show aV [X1 0] 3=[X1 0,X1 0,X1 0]from rfl];simp(disch:=try exact QQ)only[Wz,bB];refine ae8 [eX x.at' y.at',eX x.who y.who,eX x.mark y.mark] _ _ (Sl.new (L:=[eX x.at' y.at',eX x.who y.who,eX x.mark y.mark]) (e:=3) (op:=false) (Nat.lt_succ_self _) (show _=some (ai [X1 (eX x.at' y.at'),X1 (eX x.who y.who),X1 (eX x.mark y.mark)] 3 false)from T.an _ _ _) _) (by simp) _ ?_;intro n;exact hk n _ (aY.new _)
section
variable {h h':ah}{v:Value}{Z:List TM}
theorem JS(t:cW h v Z)(Y:KQ)(hk:Y (X1 (Z.length:Int)) h):aj prog 458 [v] h Y:=by
 obtain⟨x,cc,rfl⟩:=t.val;apply X2;rw[ZZ];simp(disch:=try exact QQ)only[Wz];exact hk
theorem tLd(t:cW h v Z){i:Nat}{x:TM}(hx:Z[i]? = some x):∃b,b<h.nx/\h.lo<=b/\(∃G,v=X9 b Z.length aS/\h.bl.get b=some (ai ((Z++G).flatMap c9) 258 true)/\0<(Z++G).length)/\
  (∀(β:Type)(fl:β)(h':ah)(Y:XW β),az fl 3 v (X1 (i:Int)) h' Y=Y (.pointer (some ⟨b,i*3,none⟩)) h')/\Has (h.bl.get b) (i*3) (c9 x)/\∀(β:Type)(fl:β)(Y:List Value->β),Aq fl (h.bl.get b) (i*3) 3 Y=Y (c9 x):=by
 have hi:=(List.getElem?_eq_some_iff.1 hx).1;rcases t with⟨rfl,_⟩|⟨b,G,h1,h2,h3,h4,rfl⟩
 .simp at hi
 .have hh:Has (h.bl.get b) (i*3) (c9 x):=?_
  .exact⟨b,h1,h2,⟨G,rfl,h3,h4⟩,λβ fl h' Y=>by rw[aX _ _ _ _ _ _ _ _ hi,Nat.zero_add],hh,λβ fl Y=>pG hh 3 Y rfl⟩
  .have hx':(Z++G)[i]? = some x:=by rw[List.getElem?_append_left hi];exact hx
   have hlt:=(List.getElem?_eq_some_iff.1 hx').1;have hl:=bg (enc:=c9) eW (Z++G);have hle:=Nat.mul_le_mul_right 3 (show i+1<=(Z++G).length by omega);rw[h3];have:=(Has.all (vs:=(Z++G).flatMap c9) (e:=258) (op:=true)).sub (i*3) 3 (by rw[hl];omega);rw[Nat.zero_add]at this;have e:(((Z++G).flatMap c9).drop (i*3)).take 3=c9 x:=by
    rw[uc eW (Z++G) i hlt];have:=List.getElem?_eq_getElem hlt;rw[this]at hx';rw[Option.some.inj hx']
   rw[e]at this;exact this
end
theorem eT{v v':List Value}{t t':TypeId}{o o':Bool}(e:(some (ai v t o):Option bT)=some (ai v' t' o')):t=t'/\o=o':=by
 have ht:t=t':=Classical.byContradiction λhn=>bz hn e;subst ht;refine⟨rfl,?_⟩;cases o<;>cases o'
 .rfl
 .exact absurd e br
 .exact absurd e.symm br
 .rfl
structure KR(h h':ah):Prop where
 nx:h.nx<=h'.nx
 lo:h'.lo=h.lo
 ro:∀d,d<h.nx->(∀vs t o,h.bl.get d≠some (ai vs t o))->(∀es c,h.bl.get d≠some (.map es c))->h'.bl.get d=h.bl.get d
theorem KR.refl(h:ah):KR h h:=⟨Nat.le_refl _,rfl,λ_ _ _ _=>rfl⟩
theorem KR.of_le{h h':ah}(l:Le h h'):KR h h':=⟨l.nx,l.lo,λd hd _ _=>l.get d hd⟩
theorem KR.trans{h h1 h2:ah}(x:KR h h1)(y:KR h1 h2):KR h h2:=
 ⟨Nat.le_trans x.nx y.nx,y.lo.trans x.lo,λd hd h1 h2=>by
  have e:=x.ro d hd h1 h2;exact(y.ro d (Nat.lt_of_lt_of_le hd x.nx) (λvs t o=>by rw[e];exact h1 vs t o) (λes c=>by rw[e];exact h2 es c)).trans e⟩
theorem KR.put{h:ah}{x:Nat}{v:List Value}{t:TypeId}{o:Bool}(hg:h.bl.get x=some (ai v t o))(ob:bT):KR h ⟨h.nx,h.bl.bx x ob,h.lo⟩:=
 ⟨Nat.le_refl _,rfl,λd _ h1 _=>T.au _ _ (by rintro rfl;exact h1 _ _ _ hg)⟩
theorem KR.aj1{h:ah}{x:Nat}{es:List MapEntry}{c:Nat}(hg:h.bl.get x=some (.map es c))(ob:bT):KR h ⟨h.nx,h.bl.bx x ob,h.lo⟩:=
 ⟨Nat.le_refl _,rfl,λd _ _ h2=>T.au _ _ (by rintro rfl;exact h2 _ _ hg)⟩
def moZ(X:Nat->Prop)(h h':ah):Prop:=h.nx<=h'.nx/\h'.lo=h.lo/\∀b,b<h.nx->¬X b->h'.bl.get b=h.bl.get b
structure JT(h:ah)(bp B:Nat)(c:CR):Prop where
 t:Vai.ee aU 1 3 B h c.wv c.wl c.wb
 f:∀b,c.wb=some b->¬FB h bp b
structure WG(h:ah)(A:WA)(a:TA)(N B:Nat)(d:TD)(R:RD)(Z:List TM):Prop where
 s:WS h A a N d R
 k:∀c,some c∈R.cs->JT h a.bp B c
 kd:∀(i j:Nat) c c' b,i≠j->R.cs[i]? = some (some c)->R.cs[j]? = some (some c')->c.wb=some b->c'.wb≠some b
 t:cW h R.tv Z
theorem ee.blk{B:Nat}{h:ah}{v:Value}{L:List Int}{b:Nat}(t:Vai.ee aU 1 3 B h v L (some b)):b<h.nx/\∃vs,h.bl.get b=some (ai vs 3 true):=by
 rcases t with⟨_,_,e⟩|⟨b',G,e,h1,_,h3,_⟩
 .cases e
 .cases e;exact⟨h1,_,h3⟩
theorem JT.keep{h h':ah}{bp B B':Nat}{c c':CR}(w:JT h bp B c)(hB:B<=B')(e1:c'.wv=c.wv)(e2:c'.wl=c.wl)(e3:c'.wb=c.wb)(hn:h.nx<=h'.nx)(hl:h'.lo=h.lo)(hg:∀b vs,c.wb=some b->b<h.nx->h.bl.get b=some (ai vs 3 true)->¬FB h bp b->h'.bl.get b=h.bl.get b)(hm:∀b,b<h.nx->FB h' bp b->FB h bp b):JT h' bp B' c':=by
 refine⟨?_,?_⟩
 .rw[e1,e2,e3];refine(w.t.up hB).keep hn hl λb hb=>?_;have t:=w.t;rw[hb]at t;obtain⟨h1,vs,h2⟩:=ee.blk t;exact hg b vs hb h1 h2 (w.f b hb)
 .intro b hb hf;rw[e3]at hb;have t:=w.t;rw[hb]at t;exact w.f b hb (hm b (ee.blk t).1 hf)
theorem JT.fresh{h:ah}{bp B:Nat}{c:CR}(e1:c.wv=.slice none 0 0)(e2:c.wl=[])(e3:c.wb=none):JT h bp B c:=by
 refine⟨?_,λb hb=>by rw[e3]at hb;cases hb⟩;rw[e1,e2,e3];exact Vai.ee.nil
section
variable {h h':ah}{A:WA}{a:TA}{N N' B B':Nat}{d d':TD}{R R':RD}{Z Z':List TM}
theorem WG.lt(g:WG h A a N B d R Z){i:Nat}{o:Option CR}(hi:R.cs[i]? = some o):i<A.n:=WM g.s hi
theorem WG.of(g:WG h A a N B d R Z)(s':WS h' A a N' d' R')(hB:B<=B')(hn:h.nx<=h'.nx)(hl:h'.lo=h.lo)(hg:∀b vs,b<h.nx->h.bl.get b=some (ai vs 3 true)->¬FB h a.bp b->h'.bl.get b=h.bl.get b)(hm:∀b,b<h.nx->FB h' a.bp b->FB h a.bp b)(hcs:∀(j:Nat) c',R'.cs[j]? = some (some c')->(∃c,R.cs[j]? = some (some c)/\c'.wv=c.wv/\c'.wl=c.wl/\c'.wb=c.wb)\/(c'.wv=.slice none 0 0/\c'.wl=[]/\c'.wb=none))(ht:cW h' R'.tv Z'):WG h' A a N' B' d' R' Z':=by
 refine⟨s',λc' sk=>?_,λi j c1 c2 b hne h1 h2 h3=>?_,ht⟩
 .obtain⟨j,hj⟩:=List.getElem?_of_mem sk;rcases hcs j c' hj with⟨c,h1,e1,e2,e3⟩|⟨e1,e2,e3⟩
  .exact(g.k c (List.mem_of_getElem? h1)).keep hB e1 e2 e3 hn hl (λb vs _ hb j_ hf=>hg b vs hb j_ hf) hm
  .exact JT.fresh e1 e2 e3
 .rcases hcs i c1 h1 with⟨d1,k1,_,_,e1⟩|⟨_,_,e1⟩
  .rcases hcs j c2 h2 with⟨d2,k2,_,_,e2⟩|⟨_,_,e2⟩
   .rw[e2];exact g.kd i j d1 d2 b hne k1 k2 (e1.symm.trans h3)
   .rw[e2];exact λe=>nomatch e
  .rw[e1]at h3;cases h3
theorem WG.le(g:WG h A a N B d R Z)(l:Le h h'):WG h' A a N B d R Z:=by
 obtain⟨fs,hp,_⟩:=g.s.t.is.di.fr.cell;have hb:=g.s.t.is.di.fr.lt;exact g.of (g.s.le l) (Nat.le_refl _) l.nx l.lo (λb _ hb _ _=>l.get b hb) (λb _ f=>(FB.congr (l.get _ hb)).1 f) (λj c' hj=>.inl ⟨c',hj,rfl,rfl,rfl⟩) (g.t.keep l.nx l.lo λb _ hb _=>l.get b hb)
theorem WG.up(g:WG h A a N B d R Z)(hN:N<=N')(hB:B<=B'):WG h A a N' B' d R Z:=
 g.of (g.s.up hN) hB (Nat.le_refl _) rfl (λ_ _ _ _ _=>rfl) (λ_ _ f=>f) (λj c' hj=>.inl ⟨c',hj,rfl,rfl,rfl⟩) g.t
theorem WG.put(g:WG h A a N B d R Z){x:Nat}{v:List Value}{t:TypeId}{o:Bool}(hg:h.bl.get x=some (ai v t o))(hr:rE t o)(ob:bT)(s':WS ⟨h.nx,h.bl.bx x ob,h.lo⟩ A a N d R')(hcs:∀(j:Nat) c',R'.cs[j]? = some (some c')->(∃c,R.cs[j]? = some (some c)/\c'.wv=c.wv/\c'.wl=c.wl/\c'.wb=c.wb)\/(c'.wv=.slice none 0 0/\c'.wl=[]/\c'.wb=none))(ht:R'.tv=R.tv):WG ⟨h.nx,h.bl.bx x ob,h.lo⟩ A a N B d R' Z:=by
 obtain⟨fs,hp,_⟩:=g.s.t.is.di.fr.cell;have Vy:x≠a.bp:=by
  rintro rfl;rw[hg]at hp;obtain⟨rfl,rfl⟩:=eT hp;revert hr;unfold rE;decide
 refine g.of s' (Nat.le_refl _) (Nat.le_refl _) rfl (λb vs _ hb _=>T.au _ _ ?_) (λb _ f=>(FB.congr (T.au _ _ Vy)).1 f) hcs ?_
 .rintro rfl;rw[hg]at hb;obtain⟨rfl,rfl⟩:=eT hb;revert hr;unfold rE;decide
 .rw[ht];refine g.t.keep (Nat.le_refl _) rfl λb vs _ hb=>T.au _ _ ?_;rintro rfl;rw[hg]at hb;obtain⟨rfl,rfl⟩:=eT hb;revert hr;unfold rE;decide
theorem WG.iE(g:WG h A a N B d R Z){i:Nat}{c:CR}(hi:R.cs[i]? = some (some c))(c':CR)(hc:c'.ca=c.ca)(e1:c'.wv=c.wv)(e2:c'.wl=c.wl)(e3:c'.wb=c.wb):WG ⟨h.nx,h.bl.bx c.ca (bJ A.wb c'),h.lo⟩ A a N B d { R with cs:=R.cs.set i (some c') } Z:=by
 obtain⟨gc,_⟩:=bS g.s hi;refine g.put gc (by simp[rE]) _ (WS.iE g.s hi hc) (λj x hj=>?_) rfl;rw[show({ R with cs:=R.cs.set i (some c') }:RD).cs=R.cs.set i (some c')from rfl,List.getElem?_set]at hj;split at hj
 .rename_i e;subst e;split at hj
  .cases hj;exact .inl ⟨c,hi,e1,e2,e3⟩
  .cases hj
 .exact .inl ⟨x,hj,rfl,rfl,rfl⟩
end
theorem RW.other{tb:Nat}{cr:List (Option (Nat × Int))}{bits:List Int}{now:Int}{tv:Value}{cs:List (Option CR)}{wm:List IE}{nT:Nat}{begun:Int}{h:ah}{A:WA}(s:RW h A tb cr bits now tv cs wm nT begun){x:Nat}{v:List Value}{o:Bool}(hg:h.bl.get x=some (ai v 128 o))(hn:∀c,some c∈cs->c.ca≠x)(ob:bT):RW ⟨h.nx,h.bl.bx x ob,h.lo⟩ A tb cr bits now tv cs wm nT begun:=by
 have up:∀{b:Nat}{v:List Value}{t:TypeId}{o:Bool},h.bl.get b=some (ai v t o)->128≠t->(h.bl.bx x ob).get b=some (ai v t o):=λhb hn=>(T.au _ _ (qd hg hb hn)).trans hb;exact⟨s.Ax,up s.gw X0,s.WK,up s.gl X0,s.UA,up s.gh X0,λp hp=>⟨(s.ho p hp).1,up (s.ho p hp).2 X0⟩,s.ltp,up s.gp X0,s.RB,up s.gi X0,s.li,s.UB,up s.gk X0,s.SS,up s.gc X0,s.lc,λc hc=>⟨(s.ca c hc).1,(s.ca c hc).2.1,(T.au _ _ (λe=>hn c hc e.symm)).trans (s.ca c hc).2.2⟩,s.r7,(T.au _ _ (j8 hg s.gm)).trans s.gm,s.nn,s.dc⟩
section
variable {h h':ah}{A:WA}{a:TA}{N N' B B':Nat}{d d':TD}{R R':RD}{Z Z':List TM}
theorem WS.other(s:WS h A a N d R){x:Nat}{v:List Value}{o:Bool}(hg:h.bl.get x=some (ai v 128 o))(hn:∀c,some c∈R.cs->c.ca≠x)(ob:bT):WS ⟨h.nx,h.bl.bx x ob,h.lo⟩ A a N d R:=
 ⟨Ns.RF s.t hg (nTy X0 X0 X0 X0 X0 X0 X0 X0) _,s.r.other hg hn ob,s.mw,s.mm,s.lo⟩
theorem nE:∀(j:Nat) c',R.cs[j]? = some (some c')->(∃c,R.cs[j]? = some (some c)/\c'.wv=c.wv/\c'.wl=c.wl/\c'.wb=c.wb)\/(c'.wv=.slice none 0 0/\c'.wl=[]/\c'.wb=none):=λj c' hj=>.inl ⟨c',hj,rfl,rfl,rfl⟩
theorem WG.cr(g:WG h A a N B d R Z){gN:List (Option (Nat × Int))}(l:aaX A.hb R.cr h h' gN):WG h' A a N B d { R with cr:=gN } Z/\KR h h':=by
 obtain⟨hl,hc⟩:=l;rcases hc with⟨rfl,rfl⟩|⟨i,rfl,rfl⟩|⟨i,th,rfl,rfl⟩
 .exact⟨g,KR.refl _⟩
 .refine⟨g.put g.s.r.gh (by simp[rE]) _ (g.s.Du _ hl λp hp=>?_) nE rfl,KR.put g.s.r.gh _⟩;rcases List.mem_or_eq_of_mem_set hp with hp|hp
  .exact g.s.r.ho p hp
  .cases hp
 .have g1:=g.le ((Le.refl h).new (ai [X1 th] 253 false));refine⟨g1.put g1.s.r.gh (by simp[rE]) _ (g1.s.Du _ hl λp hp=>?_) nE rfl,(KR.of_le ((Le.refl h).new _)).trans (KR.put g1.s.r.gh _)⟩;rcases List.mem_or_eq_of_mem_set hp with hp|hp
  .exact g1.s.r.ho p hp
  .cases hp;exact⟨Nat.lt_succ_self _,T.an _ _ _⟩
theorem WG.bit(g:WG h A a N B d R Z){bits':List Int}(l:RH A.ib R.bits h h' bits'):WG h' A a N B d { R with bits:=bits' } Z/\KR h h':=by
 obtain⟨hl,hc⟩:=l;rcases hc with⟨rfl,rfl⟩|rfl
 .exact⟨g,KR.refl _⟩
 .exact⟨g.put g.s.r.gi (by simp[rE]) _ (g.s.Dv _ hl) nE rfl,KR.put g.s.r.gi _⟩
theorem WG.phase(g:WG h A a N B d R Z){i:Nat}{c:CR}(hi:R.cs[i]? = some (some c))(ph:Nat)(f:FuncId)(hf:uH ph=f)(Y:KQ)(hk:∀h',WG h' A a N B d { R with cs:=R.cs.set i (some { c with ph:=ph }) } Z->KR h h'->Y (.tuple ⟨[]⟩) h'):aj prog 57 [X3 c.ca,X1 (ph:Int),.func (.func f) ⟨[X3 c.ca]⟩ ⟨[]⟩] h Y:=by
 obtain⟨gc,c1,c2⟩:=bS g.s hi;refine aaW c gc c2 ph f hf Y ?_;exact hk _ (g.iE hi { c with ph:=ph } rfl rfl rfl rfl) (KR.put gc _)
theorem RL(g:WG h A a N B d R Z){i k:Nat}{c:CR}(hi:R.cs[i]? = some (some c))(hst:c.st=(k:Int))(nj:k<R.cr.length)(Ma:0<=c.th/\c.th<8)(Y:KQ)(hk:∀h' gN,gN.length=R.cr.length->WG h' A a N B d { R with cr:=gN,cs:=R.cs.set i (some { c with ph:=2 }) } Z->KR h h'->Y (.tuple ⟨[]⟩) h'):aj prog 58 [X3 c.ca] h Y:=by
 obtain⟨gc,c1,c2⟩:=bS g.s hi;have gw:=g.s.r.gw;have hlo:=g.s.lo;unfold bJ at gc;apply X2;rw[adn];simp(disch:=try exact QQ)only[Wz,aL,gc,gw,hst];refine UG g.s.r.gl g.s.r.gh g.s.r.UA g.s.r.WK (λp hp=>(g.s.r.ho p hp).2) nj Ma _ ?_;intro u h1 gN l1;obtain⟨g1,k1⟩:=g.cr l1;refine g1.phase (c:=c) hi 2 _ rfl _ ?_;intro h2 g2 k2;exact hk h2 gN l1.1 g2 (k1.trans k2)
theorem RO(g:WG h A a N B d R Z){i:Nat}{c:CR}(hi:R.cs[i]? = some (some c))(Ma:c.th=(i:Int))(Y:KQ)(hk:∀h' bits',bits'.length=R.bits.length->WG h' A a N B d { R with bits:=bits',cs:=R.cs.set i (some { c with ph:=1 }) } Z->KR h h'->Y (.tuple ⟨[]⟩) h'):aj prog 306 [X3 c.ca] h Y:=by
 obtain⟨gc,c1,c2⟩:=bS g.s hi;have gw:=g.s.r.gw;have WO:=g.s.r.li;have hil:=g.lt hi;unfold bJ at gc;apply X2;rw[Zg];simp(disch:=try exact QQ)only[Wz,aL,gc,gw,Ma];refine UE (by rw[WO];exact g.s.r.gp) g.s.r.gi g.s.r.RB XV _ ?_;intro u h1 bits' l1;obtain⟨g1,k1⟩:=g.bit l1;refine g1.phase (c:=c) hi 1 _ rfl _ ?_;intro h2 g2 k2;exact hk h2 bits' l1.1 g2 (k1.trans k2)
noncomputable def wI(wb:Nat)(c:CR):bT:=ai [X1 c.a.k,X1 c.a.x,X1 c.a.t,X1 c.a.r,X1 c.a.m,X1 c.a.w,X1 c.a.to,X3 wb,X1 c.th,X1 c.no,X1 c.st,HL c.ph c.ca,X1 (c.ph:Int),.bool c.wt,X1 c.id,X1 c.cs,X1 c.out,.bool true,c.wv] 128 false
def z_(i:Nat)(c:CR)(R R':RD)(h':ah)(wb:Nat):Prop:=
 (c.wl≠[]/\R'={ R with cs:=R.cs.set i (some { c with ph:=4 }) })\/
 (c.wl=[]/\c.out≠0/\R'={ R with cs:=R.cs.set i none }/\h'.bl.get c.ca=some (wI wb c))\/
 (c.wl=[]/\c.out=0/\R'={ R with cs:=R.cs.set i (some { c with ph:=5 }) })
theorem B3(g:WG h A a N B d R Z){i:Nat}{c:CR}(hi:R.cs[i]? = some (some c))(Ma:c.th=(i:Int))(Y:KQ)(hk:∀h' R',z_ i c R R' h' A.wb->WG h' A a N B d R' Z->KR h h'->Y (.tuple ⟨[]⟩) h'):aj prog 216 [X3 c.ca] h Y:=by
 obtain⟨gc,c1,c2⟩:=bS g.s hi;have gc0:=gc;have gw:=g.s.r.gw;have Og:=g.s.r.gc;have cb2:=g.s.r.SS;have hil:=g.lt hi;have hnn:=g.s.r.nn;obtain⟨x,cc,hv⟩:=(g.k c (List.mem_of_getElem? hi)).t.val;unfold bJ at gc;rw[hv]at gc;apply X2;rw[YP];simp(disch:=try exact QQ)only[Wz,aL,gc];by_cases hw:c.wl=[]
 .have hlen:c.wl.length=0:=by rw[hw];rfl
  rw[hlen]at gc ⊢;have hf:¬((0:Nat):Int) > 0:=by decide
  simp(disch:=try exact QQ)only[Wz,a_ hf,FN,aL,gc];by_cases ho:c.out=0
  .simp(disch:=try exact QQ)only[Wz,bq ho];refine g.phase hi 5 _ rfl _ ?_;intro h1 g1 k1;exact hk h1 _ (.inr (.inr ⟨hw,ho,rfl⟩)) g1 k1
  ·simp(disch:=try exact QQ)only[Wz,a_ ho,FM,aL,gc];have s3:WS ⟨h.nx,h.bl.bx A.cb (ai ((R.cs.set i none).map λo=>dS (o.map (·.ca))) 118 false),h.lo⟩ A a N d { R with cs:=R.cs.set i none }:=WS.uJ g.s i none (λc e=>(nomatch e));have hne:c.ca≠A.cb:=qd gc0 Og X0;have ovc:over (R.cs.map λo=>dS (o.map (·.ca))) i [.pointer none]=(R.cs.set i none).map λo=>dS (o.map (·.ca)):=by
    unfold over;rw[List.map_set,List.set_eq_take_append_cons_drop,if_pos (by rw[List.length_map];exact(List.getElem?_eq_some_iff.1 hi).1)];simp[dS]
   have hlc:(R.cs.map λo=>dS (o.map (·.ca))).length=A.n:=by rw[List.length_map];exact g.s.r.lc
   have hnw:c.ca≠A.wb:=qd gc0 gw X0;simp(disch:=try exact QQ)only[Wz,aL,gw,Ma,aX,Og,Nat.mul_one,ovc];have g3:WG _ A a N B d { R with cs:=R.cs.set i none } Z:=g.put Og (by simp[rE]) _ s3 (λj x hj=>by
    rw[show({ R with cs:=R.cs.set i none }:RD).cs=R.cs.set i none from rfl,List.getElem?_set]at hj;split at hj
    .split at hj<;>cases hj
    .exact .inl ⟨x,hj,rfl,rfl,rfl⟩) rfl
   have UJ:(h.bl.bx A.cb (ai ((R.cs.set i none).map λo=>dS (o.map (·.ca))) 118 false)).get c.ca=_:=(T.au _ _ (λe=>hne e.symm)).trans gc;have hno:∀x,some x∈R.cs.set i none->x.ca≠c.ca:=by
    intro x hx;rcases mH hx with e|⟨j,hj,e⟩
    .cases e
    .exact g.s.r.apart e hi hj
   have g4:=g3.put UJ (by simp[rE]) (wI A.wb c) (WS.other s3 UJ hno (wI A.wb c)) nE rfl;have hk:=hk _ _ (.inr (.inl ⟨hw,ho,rfl,T.an _ _ _⟩)) g4 ((KR.put Og _).trans (KR.put UJ _));rw[show((h.bl.bx A.cb (ai ((R.cs.set i none).map λo=>dS (o.map (·.ca))) 118 false)).bx c.ca (wI A.wb c))=(h.bl.bx c.ca (wI A.wb c)).bx A.cb (ai ((R.cs.set i none).map λo=>dS (o.map (·.ca))) 118 false)from T.Eu _ _ _ (λe=>hne e.symm)]at hk;unfold wI at hk;rw[Ma,hv,hlen]at hk;exact hk
 .have hlen:0<c.wl.length:=List.length_pos_iff.2 hw;simp(disch:=try exact QQ)only[Wz,bq (show(c.wl.length:Int) > 0 by omega)];refine g.phase hi 4 _ rfl _ ?_;intro h1 g1 k1;exact hk h1 _ (.inl ⟨hw,rfl⟩) g1 k1
theorem UK(g:WG h A a N B d R Z){i k:Nat}{c:CR}(hi:R.cs[i]? = some (some c))(hst:c.st=(k:Int))(nj:k<R.cr.length)(Ma:c.th=(i:Int))(Y:KQ)(hk:∀h' gN R',gN.length=R.cr.length->z_ i c { R with cr:=gN } R' h' A.wb->WG h' A a N B d R' Z->KR h h'->Y (.tuple ⟨[]⟩) h'):aj prog 159 [X3 c.ca] h Y:=by
 obtain⟨gc,c1,c2⟩:=bS g.s hi;have gw:=g.s.r.gw;have hlo:=g.s.lo;have hil:=g.lt hi;have hnn:=g.s.r.nn;unfold bJ at gc;apply X2;rw[Yu];simp(disch:=try exact QQ)only[Wz,aL,gc,gw,hst];refine RI g.s.r.gl g.s.r.gh g.s.r.UA (λp hp=>(g.s.r.ho p hp).2) nj XV _ ?_;intro u h1 gN l1;obtain⟨g1,k1⟩:=g.cr l1;refine B3 g1 (c:=c) hi Ma _ ?_;intro h2 R' b2 g2 k2;exact hk h2 gN R' l1.1 b2 g2 (k1.trans k2)
end
theorem JU{a b a' b':Value}{t:TypeId}{o:Bool}(e:(some (ai [a,b] t o):Option bT)=some (ai [a',b'] t o)):a=a':=by
 have h1:Has (some (ai [a,b] t o)) 0 [a,b]:=Has.all;have h2:Has (some (ai [a',b'] t o)) 0 [a',b']:=Has.all;rw[<-e]at h2;have k1:=cO (β:=Option Value) (fl:=none) h1 0 some (by show 0<2;omega);have k2:=cO (β:=Option Value) (fl:=none) h2 0 some (by show 0<2;omega);exact Option.some.inj (k1.symm.trans k2)
theorem FB.lt{h:ah}{bp c:Nat}{F:List Int}{ls:Value}(f:gL h bp F ls)(x:FB h bp c):c<h.nx:=by
 obtain⟨fs,hg,hp⟩:=f.cell;obtain⟨n,cap,ls',hx⟩:=x;rw[hg]at hx;have e:=JU hx;rcases hp with⟨_,rfl⟩|⟨b,G,rfl,h1,_⟩
 .cases e
 .cases e;exact h1
section
variable {h:ah}{pb ib:Nat}{bits:List Int}
theorem B4(gp:h.bl.get pb=some (ai [X9 ib bits.length bits.length] 244 false))(gi:h.bl.get ib=some (ai (kX bits) 3 false))(hib:ib<h.nx/\h.lo<=ib)(t:Int)(Y:KQ)(hk:∀u h' bits',RH ib bits h h' bits'->Y u h'):aj prog 108 [X3 pb,X1 t] h Y:=by
 by_cases h1:0<=t/\t<bits.length
 .obtain⟨i,rfl⟩:∃i:Nat,t=(i:Int):=⟨t.toNat,XV⟩
  exact Nt gp gi hib XV Y hk
 .refine ay mixed ?_;rw[PY];apply X2;rw[P8];by_cases h0:t<0
  .simp(disch:=try exact QQ)only[Wz,zW,uk,dw h0];exact hk _ h bits ⟨rfl,.inl ⟨rfl,rfl⟩⟩
  .simp(disch:=try exact QQ)only[Wz,zW,uk,b_ (show(0:Int)<=t by omega),aL,gp,bq (show(bits.length:Int)<=t by omega)];exact hk _ h bits ⟨rfl,.inl ⟨rfl,rfl⟩⟩
end
section
variable {h h':ah}{A:WA}{a:TA}{N N' B B':Nat}{d d':TD}{R R':RD}{Z Z':List TM}
theorem WG.Dx(g:WG h A a N B d R Z){i:Nat}{c:CR}(hi:R.cs[i]? = some (some c)){v':Value}{L':List Int}{o':Option Nat}{h2:ah}(hB:B<=B')(t':Vai.ee aU 1 3 B' h2 v' L' o')(hn:h.nx<=h2.nx)(hl:h2.lo=h.lo)(hg:∀b,b<h.nx->c.wb≠some b->h2.bl.get b=h.bl.get b)(ho:o'=c.wb\/∃b,o'=some b/\h.nx<=b/\b<h2.nx):WG ⟨h2.nx,h2.bl.bx c.ca (bJ A.wb { c with wv:=v',wl:=L',wb:=o' }),h2.lo⟩ A a N B' d { R with cs:=R.cs.set i (some { c with wv:=v',wl:=L',wb:=o' }) } Z/\KR h ⟨h2.nx,h2.bl.bx c.ca (bJ A.wb { c with wv:=v',wl:=L',wb:=o' }),h2.lo⟩/\h2.bl.get c.ca=some (bJ A.wb c)/\(∀b vs ty op,b<h.nx->h.bl.get b=some (ai vs ty op)->ty≠3->h2.bl.get b=h.bl.get b):=by
 obtain⟨gc,c1,c2⟩:=bS g.s hi;have w:=g.k c (List.mem_of_getElem? hi);obtain⟨fs,hp,_⟩:=g.s.t.is.di.fr.cell;have Ao:=g.s.t.is.di.fr.lt;have own:∀b,c.wb=some b->b<h.nx/\(∃vs,h.bl.get b=some (ai vs 3 true))/\¬FB h a.bp b:=λb hb=>by
  have t:=w.t;rw[hb]at t;exact⟨(ee.blk t).1,(ee.blk t).2,w.f b hb⟩
 have keep:∀b vs ty op,b<h.nx->h.bl.get b=some (ai vs ty op)->¬(ty=3/\op=true/\¬FB h a.bp b)->h2.bl.get b=h.bl.get b:=λb vs ty op hb j_ hne=>hg b hb λe=>by
  obtain⟨_,⟨ws,k1⟩,k2⟩:=own b e;rw[j_]at k1;obtain⟨rfl,rfl⟩:=eT k1;exact hne ⟨rfl,rfl,k2⟩
 have Aa:∀b es cl,b<h.nx->h.bl.get b=some (.map es cl)->h2.bl.get b=h.bl.get b:=λb es cl hb j_=>hg b hb λe=>by
  obtain⟨_,⟨ws,k1⟩,_⟩:=own b e;rw[j_]at k1;exact bL k1
 have s2:WS h2 A a N d R:=by
  refine⟨iZ.only g.s.t hn hl (λb vs ty op hb _ hf j_=>keep b vs ty op hb j_ λe=>e.2.2 (hf e.1)) (Aa _ _ _ g.s.t.is.Ax g.s.t.is.lz) (λb hb=>Aa _ _ _ (g.s.t.is.bk b hb).r7 (g.s.t.is.bk b hb).gf),g.s.r.keep hn hl (λb vs ty op hb hr j_=>keep b vs ty op hb j_ ?_) (Aa _ _ _ g.s.r.r7.1 g.s.r.gm),g.s.mw,g.s.mm,by have:=g.s.lo;omega⟩;rintro⟨rfl,rfl,_⟩;revert hr;unfold rE;decide
 have DL:h2.bl.get c.ca=some (bJ A.wb c):=(keep _ _ _ _ c1 gc (by rintro⟨e,_⟩;revert e;decide)).trans gc;have hfb:∀b,b<h.nx->FB h2 a.bp b->FB h a.bp b:=λb _ f=>(FB.congr (keep _ _ _ _ Ao hp (by rintro⟨e,_⟩;revert e;decide))).1 f;have hfn:∀b,h.nx<=b->¬FB h2 a.bp b:=λb hb f=>by
  have f:=(FB.congr (keep _ _ _ _ Ao hp (by rintro⟨e,_⟩;revert e;decide))).1 f;exact absurd (FB.lt g.s.t.is.di.fr f) XV
 obtain⟨c',sk⟩:∃c':CR,c'={ c with wv:=v',wl:=L',wb:=o' }:=⟨_,rfl⟩
 rw[<-sk];have e1:c'.ca=c.ca:=by rw[sk]
 have s3:=WS.iE s2 hi e1;have UL:∀b vs ty op,h2.bl.get b=some (ai vs ty op)->ty≠128->(h2.bl.bx c.ca (bJ A.wb c')).get b=h2.bl.get b:=λb vs ty op j_ hne=>T.au _ _ (by
  rintro rfl;rw[DL]at j_;obtain⟨e,_⟩:=eT j_;exact hne e.symm)
 have hp2:=(keep _ _ _ _ Ao hp (by rintro⟨e,_⟩;revert e;decide)).trans hp;have ae9:∀b,FB ⟨h2.nx,h2.bl.bx c.ca (bJ A.wb c'),h2.lo⟩ a.bp b->FB h2 a.bp b:=λb f=>(FB.congr (UL _ _ _ _ hp2 X0)).1 f;refine⟨⟨s3,λx hx=>?_,λp q x y b hne h1 SN h3=>?_,?_⟩,?_,DL,λb vs ty op hb j_ hne=>keep b vs ty op hb j_ λe=>hne e.1⟩
 .rcases mH hx with e|⟨j,hj,e⟩
  .cases e;refine⟨?_,λb hb f=>?_⟩
   .have t2:=t';rw[sk];refine t2.keep (Nat.le_refl _) rfl λb hb=>?_;rw[hb]at t2;obtain⟨_,vs,k⟩:=ee.blk t2;rw[<-sk];exact UL _ _ _ _ k X0
   .have f:=ae9 b f;rw[sk]at hb;have hb:o'=some b:=hb;rcases ho with e|⟨b',e,k1,k2⟩
    .exact(own b (e.symm.trans hb)).2.2 (hfb b (own b (e.symm.trans hb)).1 f)
    .rw[hb]at e;cases e;exact hfn _ k1 f
  .have wx:=g.k x (List.mem_of_getElem? e);refine wx.keep hB rfl rfl rfl hn hl (λb vs hb sN j_ hnf=>?_) λb hb f=>hfb b hb (ae9 b f);have e9:h2.bl.get b=h.bl.get b:=hg b sN λe'=>g.kd i j c x b (λe=>hj e.symm) hi e e' hb;exact(UL _ _ _ _ (e9.trans j_) X0).trans e9
 ·have cases':∀(p:Nat)(x:CR),(R.cs.set i (some c'))[p]? = some (some x)->(p=i/\x=c')\/(p≠i/\R.cs[p]? = some (some x)):=λp x hp=>by
   rcases gj hp with⟨e,e'⟩|⟨e,e'⟩
   .cases e';exact .inl ⟨e,rfl⟩
   .exact .inr ⟨e,e'⟩
  have other:∀(q:Nat)(y:CR) b,q≠i->R.cs[q]? = some (some y)->o'=some b->y.wb≠some b:=λq y b hq hy hb=>by
   rcases ho with e|⟨b',e,k1,k2⟩
   .exact g.kd i q c y b (λe=>hq e.symm) hi hy (e.symm.trans hb)
   .rw[hb]at e;cases e;intro e;have ty:=(g.k y (List.mem_of_getElem? hy)).t;rw[e]at ty;have:=(ee.blk ty).1;omega
  have eo:c'.wb=o':=by rw[sk]
  rcases cases' p x h1 with⟨rfl,rfl⟩|⟨hp',hx⟩
  .rcases cases' q y SN with⟨rfl,rfl⟩|⟨hq,hy⟩
   .exact absurd rfl hne
   .exact other q y b hq hy (eo.symm.trans h3)
  .rcases cases' q y SN with⟨rfl,rfl⟩|⟨hq,hy⟩
   .rw[eo];exact λe=>other p x b hp' hx e h3
   .exact g.kd p q x y b hne hx hy h3
 .refine g.t.keep hn hl λb vs hb j_=>?_;have e9:=keep b _ _ _ hb j_ (by rintro⟨e,_⟩;revert e;decide);exact(UL _ _ _ _ (e9.trans j_) X0).trans e9
 ·refine⟨hn,hl,λb hb k1 k2=>?_⟩;have e9:h2.bl.get b=h.bl.get b:=hg b hb λe=>by
   obtain⟨_,⟨vs,k⟩,_⟩:=own b e;exact k1 _ _ _ k
  exact(T.au _ _ (by rintro rfl;exact k1 _ _ _ gc)).trans e9
end
structure KF(h h':ah):Prop where
 r:KR h h'
 ty:∀b vs ty op,b<h.nx->h.bl.get b=some (ai vs ty op)->ty≠286->ty≠4->ty≠3->ty≠128->h'.bl.get b=h.bl.get b
theorem KF.refl(h:ah):KF h h:=⟨KR.refl h,λ_ _ _ _ _ _ _ _ _ _=>rfl⟩
theorem KF.of_le{h h':ah}(l:Le h h'):KF h h':=⟨KR.of_le l,λb _ _ _ hb _ _ _ _ _=>l.get b hb⟩
theorem KF.trans{h h1 h2:ah}(x:KF h h1)(y:KF h1 h2):KF h h2:=
 ⟨x.r.trans y.r,λb vs ty op hb hg n1 n2 n3 n4=>by
  have e:=x.ty b vs ty op hb hg n1 n2 n3 n4;exact(y.ty b vs ty op (Nat.lt_of_lt_of_le hb x.r.nx) (e.trans hg) n1 n2 n3 n4).trans e⟩
section
variable {h h':ah}{A:WA}{a:TA}{N N' B B':Nat}{d d':TD}{R R':RD}{Z Z':List TM}
theorem WG.kfr(g:WG h A a N B d R Z)(f:tE d.Ts a.bw a.bp a.bl h h'):KF h h':=by
 obtain⟨fs,gb,_⟩:=g.s.t.is.di.fr.cell;have gl:=g.s.t.is.di.cell;have gw:=g.s.t.is.lz;refine⟨⟨f.nx,f.lo,λx hx h1 h2=>f.get x hx ?_ ?_ ?_ ?_ λvs=>h1 vs _ _⟩,λb vs ty op hb hg n1 n2 n3 _=>f.keep g.s.t.is hb hg n1 n2 n3⟩
 .intro b hb e;subst e;exact h2 _ _ (g.s.t.is.bk b hb).gf
 .rintro rfl;exact h2 _ _ gw
 .rintro rfl;exact h1 _ _ _ gb
 .rintro rfl;exact h1 _ _ _ gl
theorem WG.table(g:WG h A a N B d R Z)(t':Ns h' a N' d')(f:tE d.Ts a.bw a.bp a.bl h h')(hb:d'.Ts.map (·.bm)=d.Ts.map (·.bm)):WG h' A a N' B d' R Z:=by
 obtain⟨fs,gb,_⟩:=g.s.t.is.di.fr.cell;have gl:=g.s.t.is.di.cell;have gw:=g.s.t.is.lz;have Ao:=g.s.t.is.di.fr.lt;refine g.of (g.s.table t' f hb) (Nat.le_refl _) f.nx f.lo (λb vs sN hg hn=>f.g2 Ao b sN (λx hx=>j8 hg (g.s.t.is.bk x hx).gf) (j8 hg gw) (qd hg gb X0) (qd hg gl X0) hn) (λb hb x=>f.mv Ao b hb x) nE ?_;exact g.t.keep f.nx f.lo λb vs sN hg=>f.keep g.s.t.is sN hg X0 X0 X0
theorem Ab(g:WG h A a N B d R Z){i:Nat}{c:CR}(hi:R.cs[i]? = some (some c))(hB:B<=900000000)(id:Int)(Y:KQ)(hk:∀h' d' v' L' o',WG h' A a (N+1) (B+200) d' { R with cs:=R.cs.set i (some { c with wv:=v',wl:=L',wb:=o' }) } Z->(∀id' t r x,WT d'.Ts id' t r x->WT d.Ts id' t r x)->(∀id' t r x,RT d'.Ts id' t r x->RT d.Ts id' t r x)->KF h h'->Y (.tuple ⟨[]⟩) h'):aj prog 300 [X3 c.ca,X1 id] h Y:=by
 obtain⟨gc,c1,c2⟩:=bS g.s hi;have gw:=g.s.r.gw;have hlo:=g.s.lo;have gc':=gc;unfold bJ at gc';obtain⟨x,cc,hv⟩:=(g.k c (List.mem_of_getElem? hi)).t.val
 have fin:∀h1 d1 (v1:Value) (M:List Int) (e:Value),WG h1 A a (N+1) B d1 R Z->Sl aU h1 v1 M->M.length<=200->KF h h1->(∀id' t r x,WT d1.Ts id' t r x->WT d.Ts id' t r x)->(∀id' t r x,RT d1.Ts id' t r x->RT d.Ts id' t r x)->
   aT False (X3 c.ca) h1 λv9 h=>af False 18 v9 h λv10 h=>ax False v10 h λv11 h=>bt False And 3 1 [X1 0] false v11 v1 h λv12 h=>aT False (X3 c.ca) h λbP h=>af False 18 bP h λbO h=>aM False 1 bO v12 h λbN h=>Y (.tuple ⟨[]⟩) h:=by
  intro h1 d1 v1 M e g1 hs hM k1 hw hrq;obtain⟨w9,d1',d2'⟩:=bS g1.s hi;have pQ:=w9;unfold bJ at pQ;rw[hv]at pQ;simp(disch:=try exact QQ)only[Wz,aL,pQ];rw[<-hv];refine Vai.ee.append aZ dF X0 X0 (g1.k c (List.mem_of_getElem? hi)).t hs XV g1.s.lo _ ?_;intro v' o' h2 t2 n2 l2 f2 o2;obtain⟨y,cy,hy⟩:=t2.val;obtain⟨w1,w2,w3,w4⟩:=g1.Dx hi (B':=B+200) XV (t2.up XV) n2 l2 f2 o2;have w3':=w3;unfold bJ at w3';rw[hv]at w3';have k3:KF h1 ⟨h2.nx,h2.bl.bx c.ca (bJ A.wb { c with wv:=v',wl:=c.wl++M,wb:=o' }),h2.lo⟩:=⟨w2,λb vs ty op hb j_ _ _ n3 n4=>by
   have e9:=w4 b vs ty op hb j_ n3;exact(T.au _ _ (λe=>by
    rw[<-e,w9]at j_;exact n4 (eT j_).1.symm)).trans e9⟩
  have hk:=hk _ d1 v' (c.wl++M) o' w1 hw hrq (k1.trans k3);unfold bJ at hk;simp only at hk;rw[hy]at hk ⊢;have CA:h2.lo<=c.ca:=by omega
  simp(disch:=try exact QQ)only[Wz,aL,w3'];exact hk
 apply X2;rw[Za];simp(disch:=try exact QQ)only[Wz,aL,gc',gw];refine Rl g.s.t hlo id _ ?_ ?_
 .intro hno;simp(disch:=try exact QQ)only[Wz];exact fin h d (.slice none 0 0) [] (X1 5) (g.up (Nat.le_succ _) (Nat.le_refl _)) (Sl.nil _ _ _) (by simp) (KF.refl _) (λ_ _ _ _ x=>x) λ_ _ _ _ x=>x
 .intro k b h1 M' clock' F' v' e p n hkb he hf hid sN hpF mv ho t1;simp(disch:=try exact QQ)only[Wz];have g1:=g.table (d':=⟨d.Ts.set k ⟨b.bb,b.bm,M',clock'⟩,d.W,d.wc,F',d.B.set n false⟩) t1 (tE.zO (List.mem_of_getElem? hkb) mv.fr) (vM hkb _ _);refine fin h1 _ v' _ (X1 0) g1 ho.sl ?_ (g.kfr (tE.zO (List.mem_of_getElem? hkb) mv.fr)) (λid' t r x hw=>?_) λid' t r x hw=>RT.left hkb he mv hw
  .have h1:=(xC (fO (e.Q.filter λr=>!bE id r)+1) mv.vq).2.1;have h2:=((g.s.t.is.bk b (List.mem_of_getElem? hkb)).good e he).small;have h3:=vN (fO (e.Q.filter λr=>!bE id r)+1) (e.Q.filter λr=>!bE id r);have h4:fO (e.Q.filter λr=>!bE id r)<=(e.Q.filter λr=>!bE id r).length:=List.length_filter_le _ _;have h5:(e.Q.filter λr=>!bE id r).length<=e.Q.length:=List.length_filter_le _ _;omega
  .rcases WT.set hkb hw with h1|⟨b',j,_,hj,h1⟩
   .exact WT.of hkb (eE.left he mv h1).1
   .exact⟨b',List.mem_of_getElem? hj,h1⟩
end
theorem aj3{h:ah}{v:Value}{x:Int}{L:List Int}(hs:Sl aU h v (x::L)):∃c o,c<h.nx/\(∀(β:Type)(fl:β)(h':ah)(Y:XW β),az fl 1 v (X1 0) h' Y=Y (.pointer (some ⟨c,o,none⟩)) h')/\
   ∀(β:Type)(fl:β)(Y:Value->β),qn fl (h.bl.get c) o Y=Y (X1 x):=by
 obtain⟨c,o,h1,h2,_,hh⟩:=hs.ld aZ 0 (p:=x) rfl;exact⟨c,o,h1,h2,λβ fl Y=>cO (fl:=fl) hh 0 Y (by show 0<1;omega)⟩
section
variable {h h':ah}{A:WA}{a:TA}{N N' B B':Nat}{d d':TD}{R R':RD}{Z Z':List TM}
theorem RQ(g:WG h A a N B d R Z){i:Nat}{c:CR}(hi:R.cs[i]? = some (some c))(Ma:c.th=(i:Int))(hw:c.wl≠[])(Y:KQ)(hk:∀h' bits' c' R',bits'.length=R.bits.length->(∃v',c'={ c with wv:=v',wl:=c.wl.tail })->z_ i c' { R with bits:=bits',cs:=R.cs.set i (some c') } R' h' A.wb->WG h' A a N B d R' Z->KR h h'->Y (.tuple ⟨[]⟩) h'):aj prog 305 [X3 c.ca] h Y:=by
 obtain⟨gc,c1,c2⟩:=bS g.s hi;have gw:=g.s.r.gw;have gm:=g.s.r.gm;have hlo:=g.s.lo;have WO:=g.s.r.li;have hil:=g.lt hi;have gc':=gc;unfold bJ at gc';obtain⟨x,L,hL⟩:∃x L,c.wl=x::L:=List.exists_cons_of_ne_nil hw;have t:=(g.k c (List.mem_of_getElem? hi)).t;have hs:Sl aU h c.wv (x::L):=by rw[<-hL];exact t.sl aZ
 obtain⟨b0,o0,hb0,hx0,Mw⟩:=aj3 hs;apply X2;rw[Zf];refine⟨λl h1=>∃bits',bits'.length=R.bits.length/\WG h1 A a N B d { R with bits:=bits' } Z/\KR h h1,?_,?_⟩
 .simp(disch:=try exact QQ)only[Wz,F_,aL,gc',gw,hx0,Mw,LZ gm];cases hl:(BV R.wm x).isSome with
  |false=>
   simp(disch:=try exact QQ)only[Wz];exact⟨R.bits,rfl,g,KR.refl _⟩
  |true=>
   simp(disch:=try exact QQ)only[Wz,F9,aL,gc',gw];refine B4 (by rw[WO];exact g.s.r.gp) g.s.r.gi g.s.r.RB _ _ ?_;intro u h1 bits' l1;obtain⟨g1,k1⟩:=g.bit l1;exact⟨bits',l1.1,g1,k1⟩
 .rintro l h1 ⟨bits',e1,g1,k1⟩;obtain⟨w9,d1,d2⟩:=bS g1.s hi;have pQ:=w9;unfold bJ at pQ;have t1:=(g1.k c (List.mem_of_getElem? hi)).t;rw[hL]at t1;obtain⟨v',t2,aaZ⟩:=Vai.ee.cut aZ X0 t1;obtain⟨y,cy,hy⟩:=t2.val;obtain⟨w1,w2,w3,w4⟩:=g1.Dx hi (Nat.le_refl _) t2 (Nat.le_refl _) rfl (λ_ _ _=>rfl) (.inl rfl);obtain⟨c',sk⟩:∃c':CR,c'={ c with wv:=v',wl:=L,wb:=c.wb }:=⟨_,rfl⟩
  rw[<-sk]at w1 w2;have e9:c'.ca=c.ca:=by rw[sk]
  have e8:c'.th=(i:Int):=by rw[sk];exact Ma
  have ae_:i<R.cs.length:=(List.getElem?_eq_some_iff.1 hi).1;have hi':(R.cs.set i (some c'))[i]? = some (some c'):=by rw[List.getElem?_set,if_pos rfl,if_pos ae_]
  have hb:=λκ' hk'=>B3 w1 (c:=c') hi' e8 κ' hk';rw[e9]at hb;have hct:c'={ c with wv:=v',wl:=c.wl.tail }:=by rw[sk,hL];rfl
  simp(disch:=try exact QQ)only[Wz,Ga,aL,pQ,aaZ];rw[hy];simp(disch:=try exact QQ)only[Wz,aL,pQ];rw[<-hy];have hO:bJ A.wb c'=ai [X1 c.a.k,X1 c.a.x,X1 c.a.t,X1 c.a.r,X1 c.a.m,X1 c.a.w,X1 c.a.to,X3 A.wb,X1 c.th,X1 c.no,X1 c.st,HL c.ph c.ca,X1 (c.ph:Int),.bool c.wt,X1 c.id,X1 c.cs,X1 c.out,.bool false,v'] 128 false:=by rw[sk];rfl
  rw[<-hO];refine hb _ ?_;intro h2 R' b2 g2 k2;exact hk h2 bits' c' R' e1 ⟨v',hct⟩ b2 g2 ((k1.trans w2).trans k2)
def aa0(Ts:List TB)(t r x id:Int)(b:Bool):Prop:=(b=true/\∃(k:Nat)(q:TB)(e:HE)(p:R5),Ts[k]? = some q/\e∈q.M/\t=e.t/\r=e.r/\p∈e.Q/\p.x=x/\p.id=id)\/b=false
theorem Ac{tb bw bp bl:Nat}{cp:jU}{vb:Value}{bf:Nat}{Ts:List TB}{W:List IE}{wc:Nat}{F:List Int}{Bl:List Bool}(s:iZ h tb bw bp bl cp vb bf N Ts W wc F Bl)(hlo:h.lo<=h.nx)(t r x:Int)(Y:KQ)(hk:∀h' id b,aa0 Ts t r x id b->Le h h'->Y (.tuple ⟨[X1 id,.bool b]⟩) h'):aj prog 297 [X3 tb,iF t r,X1 x] h Y:=by
 apply X2;rw[Y9];simp(disch:=try exact QQ)only[Wz,iF];obtain⟨hA,bH,aY,g1,ia,ic⟩:=oR h (ai [X1 t,X1 r] 28 false);rw[<-bH];clear bH;refine vL (s.le aY).is XV t r _ ?_;intro h2 bK;have Hv:=bK.nx;have Hw:=bK.lo;have g1:=(bK.get _ XV).trans g1;have qk:=aY.trans bK;have s2:=s.le qk;by_cases hneg:jT t r cp.S<0
 .simp(disch:=try exact QQ)only[Wz,bq hneg];exact hk h2 0 false (.inr rfl) qk
 obtain⟨k,b,hst,hb⟩:=aeQ s.is hneg;have gt:=s2.is.nD;obtain⟨cc,oo,_,LP,mO⟩:=Rk s2.is.sl k hb;have mO:=mO h2 (Le.refl _);rw[hst];simp(disch:=try exact QQ)only[Wz,b_ (show(0:Int)<=(k:Int)by omega),F5,aL,gt,LP,mO,g1];refine G9 (s2.is.bk b (List.mem_of_getElem? hb)) XV t r x _ ?_ ?_
 .intro h3 hn d_;simp(disch:=try exact QQ)only[Wz];exact hk h3 0 false (.inr rfl) (qk.trans d_)
 .intro h3 e p he ht hr hp hx d_;simp(disch:=try exact QQ)only[Wz];exact hk h3 _ true (.inl ⟨rfl,k,b,e,p,hb,he,ht,hr,hp,hx,rfl⟩) (qk.trans d_)
end
section
variable {h h':ah}{v:Value}{Z:List TM}{kb:Nat}{now:Int}
theorem Dy(t:cW h v Z)(hlo:h.lo<=h.nx){i j:Nat}(hi:i<Z.length)(hj:j<Z.length)(Y:KQ)(hk:∀b h',Le h h'->Y (.bool b) h'):aj prog 459 [v,X1 (i:Int),X1 (j:Int)] h Y:=by
 obtain⟨b,h1,h2,_,x1,_,l1⟩:=tLd t (List.getElem?_eq_getElem hi);obtain⟨b',_,_,_,x2,_,l2⟩:=tLd t (List.getElem?_eq_getElem hj);apply X2;rw[Z0];simp(disch:=try exact QQ)only[Wz,x1,l1,x2,l2];refine JR _ _ h hlo _ ?_;intro n h1 bF;simp(disch:=try exact QQ)only[Wz];exact hk _ _ bF
def wJ(Z:List TM)(i j:Nat):List TM:=match Z[i]?,Z[j]? with|some x,some y=>(Z.set i y).set j x|_,_=>Z
theorem rH{Z:List TM}{i j:Nat}(hi:i<Z.length)(hj:j<Z.length):wJ Z i j=(Z.set i Z[j]).set j Z[i]:=by
 simp only[wJ,List.getElem?_eq_getElem hi,List.getElem?_eq_getElem hj]
theorem B5(Z:List TM)(i j:Nat):(wJ Z i j).length=Z.length:=by
 unfold wJ;split<;>simp
theorem pT{Z:List TM}{i j:Nat}(hi:i<Z.length)(hj:j<Z.length):(wJ Z i j).Perm Z:=by
 rw[rH hi hj];exact List.set_set_perm hi hj
theorem xK(t:cW h v Z){i j:Nat}(hi:i<Z.length)(hj:j<Z.length)(Y:KQ)(hk:∀h',h'.nx=h.nx->h'.lo=h.lo->cW h' v (wJ Z i j)->(∀c,(∀vs,h.bl.get c≠some (ai vs 258 true))->h'.bl.get c=h.bl.get c)->Y (.tuple ⟨[]⟩) h'):aj prog 460 [v,X1 (i:Int),X1 (j:Int)] h Y:=by
 obtain⟨b,h1,h2,⟨G,ev,hg,hpos⟩,x1,_,l1⟩:=tLd t (List.getElem?_eq_getElem hi);obtain⟨b',_,_,⟨G',ev',_⟩,x2,_,l2⟩:=tLd t (List.getElem?_eq_getElem hj);obtain rfl:b'=b:=by
  rw[ev]at ev';have e:=congrArg (λv=>match v with|Value.slice (some a) _ _=>a.block|_=>0) ev';exact e.symm
 have hl:=bg (enc:=c9) eW (Z++G);have hZG:(Z++G).length=Z.length+G.length:=List.length_append;have AT:=bg (enc:=c9) eW ((Z++G).set i Z[j]);have ov1:over ((Z++G).flatMap c9) (i*3) (c9 Z[j])=((Z++G).set i Z[j]).flatMap c9:=gJ eW _ _ _ XV;have ov2:over (((Z++G).set i Z[j]).flatMap c9) (j*3) (c9 Z[i])=(((Z++G).set i Z[j]).set j Z[i]).flatMap c9:=gJ eW _ _ _ (by rw[List.length_set];omega);rw[List.length_set]at AT;have rd:∀(k:Nat)(hk:k<Z.length),(((Z++G).flatMap c9).drop (k*3)).take 3=c9 Z[k]:=λk hk=>by
  rw[uc eW (Z++G) k XV,List.getElem_append_left hk]
 have r1:=rd i hi;have r2:=rd j hj;subst ev;apply X2;rw[Z4];simp(disch:=try exact QQ)only[Wz,x1,x2,hg,r1,r2];rw[ou ((Z++G).flatMap c9) 258 true 3 b' (i*3) (c9 Z[j]) h _ rfl (rG _) (by rw[hl];omega) h2,ov1];simp only[T.an];rw[ou (((Z++G).set i Z[j]).flatMap c9) 258 true 3 b' (j*3) (c9 Z[i]) _ _ rfl (rG _) (by rw[AT];omega) (by exact h2),ov2];refine hk _ rfl rfl (.inr ⟨b',G,h1,h2,?_,by rw[List.length_append,B5];omega,by rw[B5]⟩) λc hc=>(T.au _ _ (by rintro rfl;exact hc _ hg)).trans (T.au _ _ (by rintro rfl;exact hc _ hg));rw[rH hi hj];have e:((Z++G).set i Z[j]).set j Z[i]=(Z.set i Z[j]).set j Z[i]++G:=by
  rw[List.set_append,if_pos hi,List.set_append,if_pos (by rw[List.length_set];exact hj)]
 rw[<-e];exact T.an _ _ _
end
section
variable {h h':ah}{v:Value}{Z:List TM}{kb:Nat}{now:Int}
theorem bQ.swap(c:bQ h kb now Z){tv:Value}(hg:h.bl.get kb=some (ai [X1 now,tv] 200 false)){Z':List TM}(q1:h'.nx=h.nx)(q2:h'.lo=h.lo)(q3:cW h' tv Z')(q4:∀c,(∀vs,h.bl.get c≠some (ai vs 258 true))->h'.bl.get c=h.bl.get c):bQ h' kb now Z'/\pO kb h h':=
 ⟨⟨by rw[q1];exact c.lt,by rw[q2];exact c.lo,tv,(q4 kb λvs=>by rw[hg];exact br).trans hg,q3⟩,⟨XV,q2,λb _ _ hb=>q4 b hb⟩⟩
theorem WR(c:bQ h kb now Z)(hlo:h.lo<=h.nx)(hlen:Z.length<=100000){j:Nat}(hj:j<Z.length)(Y:KQ)(hk:∀h' Z',bQ h' kb now Z'->Z'.Perm Z->(∀k,j<k->Z'[k]? = Z[k]?)->pO kb h h'->Y (.tuple ⟨[]⟩) h'):aj prog 289 [RJ kb,X1 (j:Int)] h Y:=by
 apply X2;rw[Ql];refine⟨λn l h1=>∃(k:Nat)(Z1:List TM),aa l 19=X1 (k:Int)/\n=k/\k<Z.length/\k<=j/\Z1.Perm Z/\(∀k,j<k->Z1[k]? = Z[k]?)/\bQ h1 kb now Z1/\pO kb h h1,⟨_,j,Z,rfl,rfl,hj,Nat.le_refl _,List.Perm.refl _,λ_ _=>rfl,c,pO.refl _ _⟩,?_⟩;rintro n l h1 ⟨k,Z1,s1,rfl,gP,hkj,hp1,ht1,c1,oT⟩;have tK:=hp1.length_eq;have e1:=G3 n;have n1:=oT.nx;have l1:=oT.lo;by_cases h0:n=0
 .subst h0;simp(disch:=try exact QQ)only[Wz,qY,s1,xu,e1];exact hk h1 Z1 c1 hp1 ht1 oT
 .obtain⟨tv,hg,ht⟩:=c1.cell;simp(disch:=try exact QQ)only[Wz,qY,s1,xu,e1,KN,Dw,hg];refine Dy ht XV (show n<Z1.length by omega) (show(n-1) / 2<Z1.length by omega) _ ?_;intro b h2 bK;have c2:=c1.le bK;have hg2:=(bK.get kb c1.lt).trans hg;have ht2:cW h2 tv Z1:=ht.keep bK.nx bK.lo λb _ hb _=>bK.get b hb;have oI:=oT.trans (pO.of_le bK);cases b with
  |true=>
   simp(disch:=try exact QQ)only[Wz,xJ,hg2];refine xK ht2 (show(n-1) / 2<Z1.length by omega) (show n<Z1.length by omega) _ ?_;intro h3 q1 q2 q3 q4;obtain⟨c3,zx⟩:=c2.swap hg2 q1 q2 q3 q4;exact⟨_,XV,(n-1) / 2,_,rfl,rfl,XV,XV,(pT XV XV).trans hp1,λk gP=>by rw[<-ht1 k gP,rH XV XV,List.getElem?_set,if_neg XV,List.getElem?_set,if_neg XV],c3,oI.trans zx⟩
  |false=>
   simp(disch:=try exact QQ)only[Wz];exact hk h2 Z1 c2 hp1 ht1 oI
theorem Mb(c:bQ h kb now Z)(hlo:h.lo<=h.nx){i0 n:Nat}(hn:n<=Z.length)(hlen:Z.length<=100000)(XJ:i0<=100000)(Y:KQ)(hk:∀r h' Z',bQ h' kb now Z'->Z'.Perm Z->(∀k,n<=k->Z'[k]? = Z[k]?)->pO kb h h'->Y (.bool r) h'):aj prog 217 [RJ kb,X1 (i0:Int),X1 (n:Int)] h Y:=by
 apply X2;rw[Qi];refine⟨λl h'=>∃(k:Nat)(Z':List TM),aa l 36=X1 (k:Int)/\bQ h' kb now Z'/\Z'.Perm Z/\(∀k,n<=k->Z'[k]? = Z[k]?)/\pO kb h h',?_,?_⟩
 rotate_left
 .rintro l h' ⟨k,Z',s1,q1,q2,q3,q5⟩;simp(disch:=try exact QQ)only[Wz,s1];exact hk _ h' Z' q1 q2 q3 q5
 refine⟨λm l h1=>∃(i:Nat)(Z1:List TM),aa l 36=X1 (i:Int)/\m=200002-i/\i<=200000/\(i<n\/i=i0)/\Z1.Perm Z/\(∀k,n<=k->Z1[k]? = Z[k]?)/\bQ h1 kb now Z1/\pO kb h h1,⟨_,i0,Z,rfl,rfl,XV,.inr rfl,List.Perm.refl _,λ_ _=>rfl,c,pO.refl _ _⟩,?_⟩;rintro m l h1 ⟨i,Z1,s1,rfl,hi,hin,hp1,ht1,c1,oT⟩;have tK:=hp1.length_eq;have n1:=oT.nx;have l1:=oT.lo;obtain⟨tv,hg,ht⟩:=c1.cell;by_cases hst:2*i+1<n
 case neg=>
  simp(disch:=try exact QQ)only[Wz,qX,s1,b_ (show(n:Int)<=2*(i:Int)+1 by omega)];exact⟨i,Z1,rfl,c1,hp1,ht1,oT⟩
 have e1:(2*(i:Int)+1)=((2*i+1:Nat):Int):=by omega
 simp(disch:=try exact QQ)only[Wz,qX,s1,e1,dw (show((2*i+1:Nat):Int)<(n:Int)by omega),b_ (show(0:Int)<=((2*i+1:Nat):Int)by omega),yZ];refine⟨λfk h'=>∃j:Nat,aa fk 13=X1 (j:Int)/\i<j/\j<n/\Le h1 h',?_,?_⟩
 .have e2:((2*i+1:Nat):Int)+1=((2*i+2:Nat):Int):=by omega
  by_cases h2:2*i+2<n
  .simp(disch:=try exact QQ)only[Wz,qW,e2,dw (show((2*i+2:Nat):Int)<(n:Int)by omega),Dw,hg];refine Dy ht XV (show 2*i+2<Z1.length by omega) (show 2*i+1<Z1.length by omega) _ ?_;intro b SN bK;cases b with
   |true=>
    simp(disch:=try exact QQ)only[Wz];exact⟨2*i+2,rfl,XV,h2,bK⟩
   |false=>
    simp(disch:=try exact QQ)only[Wz];exact⟨2*i+1,rfl,XV,hst,bK⟩
  .simp(disch:=try exact QQ)only[Wz,qW,e2,b_ (show(n:Int)<=((2*i+2:Nat):Int)by omega)];exact⟨2*i+1,rfl,XV,hst,Le.refl _⟩
 .rintro fk h2 ⟨j,s2,hij,hjn,bK⟩;have c2:=c1.le bK;have hg2:=(bK.get kb c1.lt).trans hg;have ht2:cW h2 tv Z1:=ht.keep bK.nx bK.lo λb _ hb _=>bK.get b hb;have oI:=oT.trans (pO.of_le bK);have n2:=bK.nx;have l2:=bK.lo;simp(disch:=try exact QQ)only[Wz,s1,s2,Dw,hg2];refine Dy ht2 XV (show j<Z1.length by omega) (show i<Z1.length by omega) _ ?_;intro b h3 d_;have c3:=c2.le d_;have hg3:=(d_.get kb c2.lt).trans hg2;have ht3:cW h3 tv Z1:=ht2.keep d_.nx d_.lo λb _ hb _=>d_.get b hb;have zx:=oI.trans (pO.of_le d_);cases b with
  |true=>
   simp(disch:=try exact QQ)only[Wz,xJ,hg3,s1,s2];refine xK ht3 (show i<Z1.length by omega) (show j<Z1.length by omega) _ ?_;intro h4 q1 q2 q3 q4;obtain⟨c4,Ue⟩:=c3.swap hg3 q1 q2 q3 q4;refine⟨_,XV,j,wJ Z1 i j,rfl,rfl,XV,.inl hjn,(pT XV XV).trans hp1,λk gP=>?_,c4,zx.trans Ue⟩;rw[<-ht1 k gP,rH XV XV,List.getElem?_set,if_neg XV,List.getElem?_set,if_neg XV]
  |false=>
   simp(disch:=try exact QQ)only[Wz,s1];exact⟨i,Z1,rfl,c3,hp1,ht1,zx⟩
end
theorem Nu{h:ah}{v:Value}{Z:List TM}{x:TM}{b7 c7:Nat}(hp:cW h v Z)(hb7:b7<h.nx)(hg7:h.bl.get b7=some (ai (c9 x) 258 false))(hlen:Z.length<=100000)(hal:h.lo<=h.nx)(Y:KQ)(hk:∀v' h',cW h' v' (Z++[x])->h.nx<=h'.nx->h'.lo=h.lo->(∀c,c<h.nx->(∀vs,h.bl.get c≠some (ai vs 258 true))->h'.bl.get c=h.bl.get c)->Y v' h'):bt False And 258 3 [X1 0,X1 0,X1 0] false v (X9 b7 1 c7) h Y:=by
 have hx:Sl c9 h (X9 b7 1 c7) [x]:=Sl.new (L:=[x]) (e:=258) (op:=false) hb7 (by simpa[c9]using hg7) _;have full:eG c9 ⟨0,.nil,h.lo⟩ 258 h v Z->bt False And 258 3 [X1 0,X1 0,X1 0] false v (X9 b7 1 c7) h Y:=by
  intro ho;refine eN (enc:=c9) (a:=⟨0,.nil,h.lo⟩) (L:=Z) (M:=[x]) eW rG X0 X0 ho hx ⟨Nat.zero_le _,rfl,λb hb=>absurd hb (Nat.not_lt_zero _)⟩ (by simp;omega) hal Y ?_;intro v' h' ho' _ _ hn hl hs;refine hk v' h' ?_ hn hl (λc hc hne=>hs c hc (hne _));rcases ho' with⟨e,_⟩|⟨b,e,_,h2,h3,h4⟩
  .simp at e
  .exact .inr ⟨b,[],h2,h3,by rw[List.append_nil];exact h4,by simp,e⟩
 rcases hp with⟨rfl,rfl⟩|⟨b,G,h1,h2,h3,h4,rfl⟩
 .exact full (.inl ⟨rfl,.inl rfl⟩)
 .cases G with
  |nil=>
   rw[List.append_nil]at h3;exact full (.inr ⟨b,rfl,Nat.zero_le _,h1,h2,h3⟩)
  |cons g G=>
   have fh:∀κ':List Value->Prop,fo False h 3 1 (X9 b7 1 c7) κ'=κ' ([x].flatMap c9):=λκ'=>hx.first (β:=Prop) (fl:=False) eW κ';have hl:=bg (enc:=c9) eW (Z++g::G);have hl':(Z++g::G).length=Z.length+(G.length+1):=by simp
   have Ar:over ((Z++g::G).flatMap c9) (Z.length*3) (c9 x)=((Z++g::G).set Z.length x).flatMap c9:=gJ eW _ _ _ XV;have e0:(Z++g::G).set Z.length x=Z++[x]++G:=by simp
   rw[e0]at Ar;unfold bt jf;simp only;rw[fh];simp only[bR];have c0:Nat.beq aS gH=false:=by decide
   have e2:Nat.beq aS fT=false:=by decide
   have e3:Nat.beq aS aS=true:=Nat.beq_refl _;have e5:Nat.ble (Nat.add Z.length (0+1)) 1000000000=true:=Nat.ble_eq_true_of_le (by show Z.length+(0+1)<=_;omega);have e4:Nat.ble (Nat.add 0 (Nat.mul (Nat.add Z.length (0+1)) 3)) ((Z++g::G).flatMap c9).length=true:=Nat.ble_eq_true_of_le (by rw[hl,hl'];show 0+(Z.length+(0+1))*3<=_;omega);simp only[c0,e2,e3,e5,h3,ai,Nat.beq_refl,e4];have e6:(Nat.add 0 (Nat.mul Z.length 3))=Z.length*3:=by show 0+Z.length*3=_;omega
   have e8:[x].flatMap c9=c9 x:=by simp
   rw[e6,e8];rw[rW _ _ _ _ _ (by rw[hl,hl'];show Z.length*3+3<=_;omega) (rG x),bI _ _ _ _ h2];rw[xq _ _ _ (by rw[hl,hl'];show Z.length*3+3<=_;omega),Ar];have e7:((Z++g::G).flatMap c9).length=((Z++[x]++G).flatMap c9).length:=by rw[hl,bg eW];simp
   rw[e7];refine hk _ _ (.inr ⟨b,G,h1,h2,T.an _ _ _,by simp;omega,?_⟩) (Nat.le_refl _) rfl ?_
   .simp
   .intro c hc hne;refine T.au _ _ ?_;rintro rfl;exact hne _ h3
section
variable {h h':ah}{v:Value}{Z:List TM}{kb:Nat}{now:Int}
theorem cW.ne{tv:Value}(t:cW h v Z)(hg:h.bl.get kb=some (ai [X1 now,tv] 200 false)){w:Value}:cW ⟨h.nx,h.bl.bx kb (ai [X1 now,w] 200 false),h.lo⟩ v Z:=
 t.keep (Nat.le_refl _) rfl λb vs _ hb=>T.au _ _ (by rintro rfl;rw[hg]at hb;exact br hb)
theorem UM(c:bQ h kb now Z)(hlo:h.lo<=h.nx)(hlen:Z.length<=10000)(x:TM)(Y:KQ)(hk:∀h' Z',bQ h' kb now Z'->Z'.Perm (Z++[x])->pO kb h h'->Y (.tuple ⟨[]⟩) h'):aj prog 206 [RJ kb,.iface 258 (.agg ⟨c9 x⟩)] h Y:=by
 obtain⟨tv,hg,ht⟩:=c.cell;have hkb:=c.lt;have hlb:=c.lo;apply X2;rw[Qg];simp(disch:=try exact QQ)only[Wz,UI];apply X2;rw[Z8];obtain⟨tx,tc,etv⟩:=ht.val;simp(disch:=try exact QQ)only[Wz,dH,GN,aL,hg,c9];obtain⟨hA,bH,aY,g0,g1,ia,ic⟩:=DK h (ai [X1 x.at',X1 x.who,X1 x.mark] 258 false) (ai [X1 x.at',X1 x.who,X1 x.mark] 258 false);rw[<-bH];clear bH;have hgA:=(aY.get kb hkb).trans hg;refine Nu (x:=x) (ht.keep aY.nx aY.lo λb _ hb _=>aY.get b hb) XV g1 XV XV _ ?_;intro v' h2 ht2 n2 l2 f2;have hg2:=(f2 kb XV (λvs=>by rw[hgA];exact br)).trans hgA;obtain⟨vx,vc,ev⟩:=ht2.val;have t3:=ht2.ne hg2 (w:=v');rw[ev];simp(disch:=try exact QQ)only[Wz,hg2];rw[<-ev];obtain⟨h3,e3⟩:∃h3:ah,h3=⟨h2.nx,h2.bl.bx kb (ai [X1 now,v'] 200 false),h2.lo⟩:=⟨_,rfl⟩
 rw[<-e3]at t3 ⊢;have g3:h3.bl.get kb=some (ai [X1 now,v'] 200 false):=by rw[e3];exact T.an _ _ _
 have n3:h3.nx=h2.nx:=by rw[e3]
 have l3:h3.lo=h2.lo:=by rw[e3]
 have c3:bQ h3 kb now (Z++[x]):=⟨XV,XV,v',g3,t3⟩
 have zx:pO kb h h3:=⟨XV,XV,λb hb hn hv=>by
  have e1:hA.bl.get b=h.bl.get b:=aY.get b hb;rw[e3];exact(T.au _ _ (λe=>hn e.symm)).trans ((f2 b XV λvs=>by rw[e1];exact hv vs).trans e1)⟩
 clear e3;simp(disch:=try exact QQ)only[Wz,JQ,g3];refine JS t3 _ ?_;have el:(((Z++[x]).length:Nat):Int)-1=(Z.length:Int):=by simp
 have el2:(Z++[x]).length=Z.length+1:=by simp
 simp(disch:=try exact QQ)only[Wz,el];refine WR c3 XV XV (j:=Z.length) XV _ ?_;intro h4 Z' c4 BS _ Ue;exact hk h4 Z' c4 BS (zx.trans Ue)
theorem Mc(c:bQ h kb now Z)(hlo:h.lo<=h.nx)(hlen:Z.length<=100000){x:TM}(hx:Z[Z.length-1]? = some x)(Y:KQ)(hk:∀h',bQ h' kb now (Z.take (Z.length-1))->pO kb h h'->Y (.iface 258 (.agg ⟨c9 x⟩)) h'):aj prog 463 [.pointer (some ⟨kb,1,none⟩)] h Y:=by
 obtain⟨tv,hg,ht⟩:=c.cell;have hkb:=c.lt;have hlb:=c.lo;have hpos:Z.length-1<Z.length:=(List.getElem?_eq_some_iff.1 hx).1;obtain⟨b,h1,h2,⟨G,ev,j_,hp0⟩,x1,_,l1⟩:=tLd ht hx;have el:((Z.length:Nat):Int)-1=((Z.length-1:Nat):Int):=by omega
 have hfl:=bg (enc:=c9) eW (Z++G);have hl3:(Z++G).length=Z.length+G.length:=List.length_append;have eF:Z.take (Z.length-1)++x::G=Z++G:=by
  have:Z=Z.take (Z.length-1)++[x]:=by
   conv=>lhs;rw[<-List.take_append_drop (Z.length-1) Z]
   congr 1
   rw[List.drop_eq_getElem_cons hpos,List.drop_of_length_le XV];rw[List.getElem?_eq_getElem hpos]at hx;cases hx;rfl
  conv=>rhs;rw[this]
  simp
 unfold c9 at l1;apply X2;rw[Z7];have len:∀(β:Type)(fl:β)(h':ah)(Y:XW β),bh fl tv h' Y=Y (X1 (Z.length:Int)) h':=λβ fl h' Y=>by rw[ev];exact bX _ _ _ _ _
 simp(disch:=try exact QQ)only[Wz,aL,hg,len,el,x1,l1];obtain⟨hA,bH,aY,g1,ia,ic⟩:=oR h (ai [X1 x.at',X1 x.who,X1 x.mark] 258 false);rw[<-bH];clear bH;have hgA:=(aY.get kb hkb).trans hg;have UN:=(aY.get b h1).trans j_;subst ev;simp(disch:=try exact QQ)only[Wz,hgA,g1,oA (n:=(Z++G).length) (i:=Z.length-1) (Nat.succ_pos 2) UN (by rw[hfl]) XV XV];refine hk ⟨hA.nx,hA.bl.bx kb (ai [X1 now,X9 b (Z.length-1) aS] 200 false),hA.lo⟩ ⟨by show kb<hA.nx;omega,by show hA.lo<=kb;omega,X9 b (Z.length-1) aS,T.an _ _ _,.inr ⟨b,x::G,by show b<hA.nx;omega,by show hA.lo<=b;omega,?_,by simp;omega,by simp⟩⟩ ⟨by show h.nx<=hA.nx;omega,by show hA.lo=h.lo;omega,λd hd hn hv=>(T.au _ _ (λe=>hn e.symm)).trans (aY.get d hd)⟩;rw[eF];exact(T.au _ _ (by rintro rfl;rw[hgA]at UN;exact br UN)).trans UN
end
section
variable {h h':ah}{v:Value}{Z:List TM}{kb:Nat}{now:Int}
theorem Nv{Z:List TM}{x:TM}(hx:Z[Z.length-1]? = some x):Z=Z.take (Z.length-1)++[x]:=by
 have hpos:Z.length-1<Z.length:=(List.getElem?_eq_some_iff.1 hx).1
 conv=>lhs;rw[<-List.take_append_drop (Z.length-1) Z]
 congr 1
 rw[List.drop_eq_getElem_cons hpos,List.drop_of_length_le XV];rw[List.getElem?_eq_getElem hpos]at hx;cases hx;rfl
theorem B6{Z:List TM}{x:TM}(hx:Z[Z.length-1]? = some x):(x::Z.take (Z.length-1)).Perm Z:=by
 conv=>rhs;rw[Nv hx]
 exact(List.perm_append_singleton x _).symm
theorem aa1(c:bQ h kb now Z)(hlo:h.lo<=h.nx)(hlen:Z.length<=10000)(h0:Z≠[])(Y:KQ)(hk:∀h' x Z',bQ h' kb now Z'->(x::Z').Perm Z->pO kb h h'->Y (.iface 258 (.agg ⟨c9 x⟩)) h'):aj prog 161 [RJ kb] h Y:=by
 obtain⟨tv,hg,ht⟩:=c.cell;have hpos:0<Z.length:=List.length_pos_iff.2 h0;apply X2;rw[P7];simp(disch:=try exact QQ)only[Wz,JQ,hg];refine JS ht _ ?_;have el:((Z.length:Nat):Int)-1=((Z.length-1:Nat):Int):=by omega
 simp(disch:=try exact QQ)only[Wz,el,xJ,hg];refine xK ht hpos (show Z.length-1<Z.length by omega) _ ?_;intro h1 q1 q2 q3 q4;obtain⟨c1,oT⟩:=c.swap hg q1 q2 q3 q4;have wR:=pT (Z:=Z) (i:=0) (j:=Z.length-1) hpos XV;have tK:=wR.length_eq;have n1:=oT.nx;have l1:=oT.lo;refine Mb c1 XV (i0:=0) (n:=Z.length-1) XV XV XV _ ?_;intro r h2 Z2 c2 hp2 ht2 oI;have AT:=hp2.length_eq;have n2:=oI.nx;have l2:=oI.lo;obtain⟨x,hx⟩:∃x,Z2[Z2.length-1]? = some x:=⟨_,List.getElem?_eq_getElem XV⟩
 simp(disch:=try exact QQ)only[Wz,RK];refine Mc c2 XV XV hx _ ?_;intro h3 c3 zx;exact hk h3 x _ c3 ((B6 hx).trans (hp2.trans wR)) ((oT.trans oI).trans zx)
theorem Nw(c:bQ h kb now Z)(hlo:h.lo<=h.nx)(hlen:Z.length<=10000){i:Nat}{x:TM}(hx:Z[i]? = some x)(Y:KQ)(hk:∀u h' Z',bQ h' kb now Z'->(x::Z').Perm Z->pO kb h h'->Y u h'):aj prog 296 [RJ kb,X1 (i:Int)] h Y:=by
 obtain⟨tv,hg,ht⟩:=c.cell;have hi:=(List.getElem?_eq_some_iff.1 hx).1;have el:((Z.length:Nat):Int)-1=((Z.length-1:Nat):Int):=by omega
 apply X2;rw[Y8];simp(disch:=try exact QQ)only[Wz,JQ,hg];refine JS ht _ ?_;simp(disch:=try exact QQ)only[Wz,el];refine⟨λl h1=>∃Z1,bQ h1 kb now Z1/\Z1.Perm Z/\Z1[Z1.length-1]? = some x/\pO kb h h1,?_,?_⟩
 .by_cases e:i=Z.length-1
  .simp(disch:=try exact QQ)only[Wz,bq (show((Z.length-1:Nat):Int)=(i:Int)by omega)];exact⟨Z,c,List.Perm.refl _,by rw[<-e];exact hx,pO.refl _ _⟩
  ·simp(disch:=try exact QQ)only[Wz,a_ (show ¬((Z.length-1:Nat):Int)=(i:Int)by omega),F4,xJ,hg];refine xK ht hi (show Z.length-1<Z.length by omega) _ ?_;intro h1 q1 q2 q3 q4;obtain⟨c1,oT⟩:=c.swap hg q1 q2 q3 q4;have wR:=pT (Z:=Z) (i:=i) (j:=Z.length-1) hi XV;have tK:=wR.length_eq;have n1:=oT.nx;have l1:=oT.lo;have yE:(wJ Z i (Z.length-1))[Z.length-1]? = some x:=by
    rw[rH hi XV,List.getElem?_set,if_pos rfl,if_pos (by rw[List.length_set];omega)];rw[List.getElem?_eq_getElem hi]at hx;exact hx
   refine Mb c1 XV (i0:=i) (n:=Z.length-1) XV XV XV _ ?_;intro r h2 Z2 c2 hp2 ht2 oI;have AT:=hp2.length_eq;have n2:=oI.nx;have l2:=oI.lo;have RR:Z2[Z.length-1]? = some x:=(ht2 _ (Nat.le_refl _)).trans yE;cases r with
   |true=>
    simp(disch:=try exact QQ)only[Wz];exact⟨Z2,c2,hp2.trans wR,by rw[AT,tK];exact RR,oT.trans oI⟩
   |false=>
    simp(disch:=try exact QQ)only[Wz];refine WR c2 XV XV (j:=i) XV _ ?_;intro h3 Z3 c3 ye ht3 zx;have hl3:=ye.length_eq;exact⟨Z3,c3,ye.trans (hp2.trans wR),by rw[hl3,AT,tK];exact(ht3 _ XV).trans RR,(oT.trans oI).trans zx⟩
 .rintro l h1 ⟨Z1,c1,hp1,hx1,oT⟩;have tK:=hp1.length_eq;have n1:=oT.nx;have l1:=oT.lo;simp(disch:=try exact QQ)only[Wz,RK];refine Mc c1 XV XV hx1 _ ?_;intro h2 c2 oI;exact hk _ h2 _ c2 ((B6 hx1).trans hp1) (oT.trans oI)
theorem aa2(a0 a1:Value)(h:ah)(Y:KQ):aO prog 348 [a0,a1] h Y=eu prog 3 3 a0 a1 h Y:=by kernel_rfl
def WU(who mark:Int)(t:TM):Bool:=decide (t.who=who) && decide (t.mark=mark)
theorem cW.sl(t:cW h v Z):Sl c9 h v Z:=by
 rcases t with⟨rfl,rfl⟩|⟨b,G,h1,h2,h3,h4,rfl⟩
 .exact Sl.nil _ _ _
 .refine⟨_,_,rfl,λ_=>⟨b,0,rfl,h1,?_⟩⟩;rw[h3,List.flatMap_append];have:=(Has.all (vs:=Z.flatMap c9++G.flatMap c9) (e:=258) (op:=true)).sub 0 (Z.flatMap c9).length (by rw[List.length_append];omega);rw[List.drop_zero,List.take_append_of_le_length (Nat.le_refl _),List.take_length]at this;exact this
theorem HX(c:bQ h kb now Z)(hlo:h.lo<=h.nx)(hlen:Z.length<=10000)(who mark:Int)(Y:KQ)(hk:∀h',Le h h'->Y (X1 (gQ (Z.findIdx? (WU who mark)))) h'):aj prog 295 [X3 kb,X1 who,X1 mark] h Y:=by
 obtain⟨tv,hg,ht⟩:=c.cell;have hkb:=c.lt;apply X2;rw[Y7];simp(disch:=try exact QQ)only[Wz,av];obtain⟨hA,bH,aY,g1,g2,ia,ic⟩:=DK h (ai [X1 who] 3 false) (ai [X1 mark] 3 false);rw[<-bH];clear bH;have hgA:=(aY.get kb hkb).trans hg;simp(disch:=try exact QQ)only[Wz,hg];refine mj mixed eW aa2 Z (WU who mark) hA tv _ _ (ht.keep aY.nx aY.lo λb _ hb _=>aY.get b hb).sl XV ?_ ?_
 .intro p _ h1 κ1 bF gP;have n1:=bF.nx;have l1:=bF.lo;have g11:=(bF.get _ XV).trans g1;have g21:=(bF.get _ XV).trans g2;simp(disch:=try exact QQ)only[Wz,xw];apply X2;simp only[List.nil_append,List.cons_append];rw[Zt];unfold WU at gP;by_cases e1:p.who=who
  .rw[bq e1,Bool.true_and]at gP;simp(disch:=try exact QQ)only[Wz,wV,c9,g11,g21,bq e1];exact gP _ ((Le.refl h1).new _)
  .rw[a_ e1,Bool.false_and]at gP;simp(disch:=try exact QQ)only[Wz,wV,c9,g11,g21,a_ e1];exact gP _ ((Le.refl h1).new _)
 .intro h1 bF;exact hk h1 (aY.trans bF)
end
def fm(Z:List TM):Prop:=Z.Pairwise λa b=>¬(a.who=b.who/\a.mark=b.mark)
theorem fm.perm{Z Z':List TM}(k:fm Z)(p:Z'.Perm Z):fm Z':=(p.pairwise_iff λ{a b} h e=>h ⟨e.1.symm,e.2.symm⟩).2 k
section
variable {h h':ah}{v:Value}{Z:List TM}{kb:Nat}{now:Int}
theorem UO(c:bQ h kb now Z)(ko:fm Z)(hlo:h.lo<=h.nx)(hlen:Z.length<=10000)(at' who mark:Int)(Y:KQ)(hk:∀u h' Z',bQ h' kb now Z'->fm Z'->(Z'=Z\/Z'.Perm (Z++[⟨at',who,mark⟩]))->pO kb h h'->Y u h'):aj prog 356 [X3 kb,X1 at',X1 who,X1 mark] h Y:=by
 obtain⟨tv,hg,ht⟩:=c.cell;apply X2;rw[Zz];simp(disch:=try exact QQ)only[Wz,uK,Gr,aL,hg];by_cases h1:at'<=now
 .simp(disch:=try exact QQ)only[Wz,bq h1];exact hk _ h Z c ko (.inl rfl) (pO.refl _ _)
 .simp(disch:=try exact QQ)only[Wz,a_ h1,Gq];refine HX c hlo hlen who mark _ ?_;intro h2 bK;have c2:=c.le bK;have n2:=bK.nx;have l2:=bK.lo;cases hf:Z.findIdx? (WU who mark)with
  |some i=>
   simp(disch:=try exact QQ)only[Wz,gQ,b_ (show(0:Int)<=(i:Int)by omega),bq (show(0:Int)<=(i:Int)by omega)];exact hk _ h2 Z c2 ko (.inl rfl) (pO.of_le bK)
  |none=>
   simp(disch:=try exact QQ)only[Wz,gQ,aL];refine UM c2 XV hlen ⟨at',who,mark⟩ _ ?_;intro h3 Z' c3 ye zx;refine hk _ h3 Z' c3 (fm.perm ?_ ye) (.inr ye) ((pO.of_le bK).trans zx);refine List.pairwise_append.2 ⟨ko,List.pairwise_singleton _ _,λa ha b hb e=>?_⟩;rw[List.mem_singleton]at hb;subst hb;have:=(List.findIdx?_eq_none_iff.1 hf) a ha;simp[WU,e.1,e.2]at this
theorem RS(c:bQ h kb now Z)(ko:fm Z)(hlo:h.lo<=h.nx)(hlen:Z.length<=10000)(who mark:Int)(Y:KQ)(hk:∀u h' Z',bQ h' kb now Z'->fm Z'->(∀t∈Z',t∈Z/\¬(t.who=who/\t.mark=mark))->Z'.length<=Z.length->pO kb h h'->Y u h'):aj prog 211 [X3 kb,X1 who,X1 mark] h Y:=by
 apply X2;rw[YL];simp(disch:=try exact QQ)only[Wz,uK];refine HX c hlo hlen who mark _ ?_;intro h2 bK;have c2:=c.le bK;have n2:=bK.nx;have l2:=bK.lo;refine⟨λl h'=>∃Z',bQ h' kb now Z'/\fm Z'/\(∀t∈Z',t∈Z/\¬(t.who=who/\t.mark=mark))/\Z'.length<=Z.length/\pO kb h h',?_,?_⟩
 .cases hf:Z.findIdx? (WU who mark)with
  |none=>
   simp(disch:=try exact QQ)only[Wz,yV,gQ];refine⟨Z,c2,ko,λt ht=>⟨ht,λe=>?_⟩,Nat.le_refl _,pO.of_le bK⟩;have:=(List.findIdx?_eq_none_iff.1 hf) t ht;simp[WU,e.1,e.2]at this
  |some i=>
   obtain⟨hi,hT,_⟩:=List.findIdx?_eq_some_iff_getElem.1 hf;simp(disch:=try exact QQ)only[Wz,yV,gQ,b_ (show(0:Int)<=(i:Int)by omega),bq (show(0:Int)<=(i:Int)by omega),aL];refine Nw c2 XV hlen (i:=i) (List.getElem?_eq_getElem hi) _ ?_;intro u h3 Z' c3 ye zx;have ko3:=fm.perm ko ye;refine⟨Z',c3,(List.pairwise_cons.1 ko3).2,λt ht=>⟨ye.mem_iff.1 (.tail _ ht),λe=>?_⟩,?_,(pO.of_le bK).trans zx⟩
   .have hx:Z[i].who=who/\Z[i].mark=mark:=by simpa[WU]using hT
    exact(List.pairwise_cons.1 ko3).1 t ht ⟨hx.1.trans e.1.symm,hx.2.trans e.2.symm⟩
   .have:=ye.length_eq;rw[List.length_cons]at this;omega
 .rintro l h3 ⟨Z',c3,k3,m3,n3,zx⟩;simp(disch:=try exact QQ)only[Wz];exact hk _ h3 Z' c3 k3 m3 n3 zx
theorem UP(c:bQ h kb now Z)(Y:KQ)(hk:Y (X1 now) h):aj prog 355 [X3 kb] h Y:=by
 obtain⟨tv,gk,_⟩:=c.cell;apply X2;rw[Zy];simp(disch:=try exact QQ)only[Wz,uK,aL,gk];exact hk
theorem UQ(c:bQ h kb now Z)(Y:KQ)(hk:Y (X1 (Z.length:Int)) h):aj prog 70 [X3 kb] h Y:=by
 obtain⟨tv,gk,t⟩:=c.cell;obtain⟨x,cc,rfl⟩:=t.val;apply X2;rw[adx];simp(disch:=try exact QQ)only[Wz,uK,aL,gk];exact hk
end
section
variable {h:ah}{A:WA}{a:TA}{N:Nat}{d:TD}{R:RD}
theorem HY(s:WS h A a N d R)(t r:Int){Pq:List R5->Prop}(P0:Pq [])(hP:∀b∈d.Ts,∀e∈b.M,e.t=t->e.r=r->Pq e.Q)(Y:KQ)(hk:∀v Q h',Pq Q->QV h' v Q->Le h h'->Y v h'):aj prog 298 [X3 A.wb,iF t r] h Y:=by
 have gw0:=s.r.gw;have hlo:=s.lo;apply X2;rw[Y_];have Ax:=s.r.Ax;simp(disch:=try exact QQ)only[Wz,iF,aL,gw0];obtain⟨hA,bH,aY,g1,ia,ic⟩:=oR h (ai [X1 t,X1 r] 28 false);rw[<-bH];clear bH;have sA:=s.le aY;refine xI sA.t XV _ ?_;intro v0 h0 K t0 Ay;have n0:=Ay.nx;have l0:=Ay.lo;obtain⟨x0,c0,ev0,_⟩:=(show Sl oM h0 v0 K from t0.sl)
 have zT:∀(β:Type)(fl:β)(h':ah)(Y:XW β),bh fl v0 h' Y=Y (X1 (K.length:Int)) h':=λβ fl h' Y=>by rw[ev0];exact bX _ _ _ _ _
 have G0:K.length<=1024:=by
  have h1:=t0.perm.length_eq;rw[List.length_map]at h1;rw[h1];have h2:=s.t.is.s1.2;have h3:=s.t.is.hd;have:∀L:List TB,(∀b∈L,b.M.length<=64)->(L.flatMap λb=>b.M.map dR).length<=64*L.length:=by
   intro L
   induction L with
   |nil=>intro _;simp
   |cons b L ih=>
    intro hL;rw[List.flatMap_cons,List.length_append,List.length_map,List.length_cons];have h1:=ih λx hx=>hL x (.tail _ hx);have h2:=hL b (.head _);omega
  have:=this d.Ts λb hb=>by have:=s.t.len b hb;omega
  omega
 have g10:=(Ay.get _ XV).trans g1;simp(disch:=try exact QQ)only[Wz,zT];refine⟨λn l h1=>∃i:Nat,aa l 12=X1 (i:Int)/\n=K.length-i/\i<=K.length/\Le h0 h1,
  ⟨_,0,rfl,rfl,XV,Le.refl _⟩,?_⟩
 rintro n l h1 ⟨i,s1,rfl,hi,bF⟩;have n1:=bF.nx;have l1:=bF.lo;by_cases hlt:i<K.length
 .obtain⟨e,he⟩:∃e,K[i]? = some e:=⟨_,List.getElem?_eq_getElem hlt⟩
  have SR:=List.mem_of_getElem? he;obtain⟨⟨b',hb',e',he',se⟩,qv⟩:=t0.each e SR;obtain⟨b0,o0,hb0,hx0,Mw⟩:=Rx t0.sl i he (zK qv.1);have R1:=Mw h1 bF;have WI:=qv.le bF;obtain⟨qx,qc,eq,_⟩:=(show Sl bA h1 e.q e.Q from WI.1)
  have g11:=(bF.get _ XV).trans g10;rw[eq]at R1;simp(disch:=try exact QQ)only[Wz,s1,dw (show(i:Int)<(K.length:Int)by omega),F6,hx0,R1,g11];rw[Dm];by_cases hn:e.t=t/\e.r=r
  .rw[bq hn];simp(disch:=try exact QQ)only[Wz];refine hk _ e.Q _ ?_ ?_ ((aY.trans (Ay.trans bF)).trans ((Le.refl h1).new _))
   .rw[se.2.2.2];exact hP b' hb' e' he' (by rw[<-se.1];exact hn.1) (by rw[<-se.2.1];exact hn.2)
   .rw[<-eq];exact WI.le ((Le.refl h1).new _)
  .rw[a_ hn];simp(disch:=try exact QQ)only[Wz,s1];exact⟨_,XV,i+1,rfl,rfl,XV,bF.trans ((Le.refl h1).new _)⟩
 .simp(disch:=try exact QQ)only[Wz,s1,b_ (show(K.length:Int)<=(i:Int)by omega)];exact hk _ [] _ P0 ⟨Sl.nil _ _ _,λb o n c hv hn=>by cases hv⟩ (aY.trans (Ay.trans bF))
end
section
variable {h h':ah}{A:WA}{a:TA}{N B:Nat}{d:TD}{R:RD}{Z Z':List TM}
structure FrK(kb:Nat)(h h':ah):Prop where
 nx:h.nx<=h'.nx
 lo:h'.lo=h.lo
 get:∀b,b<h.nx->b≠kb->(∀vs,h.bl.get b≠some (ai vs 258 true))->(∀vs,h.bl.get b≠some (ai vs 134 true))->h'.bl.get b=h.bl.get b
theorem pO.p{kb:Nat}(f:pO kb h h'):FrK kb h h':=⟨f.nx,f.lo,λb hb hn hv _=>f.get b hb hn hv⟩
theorem WG.clk(g:WG h A a N B d R Z)(f:FrK A.kb h h'){aa3:Int}(c:bQ h' A.kb aa3 Z'):∃rI,WG h' A a N B d { R with now:=aa3,tv:=rI } Z'/\KR h h':=by
 obtain⟨rI,gk',ht'⟩:=c.cell;have gk:=g.s.r.gk;have get:∀b vs t o,b<h.nx->h.bl.get b=some (ai vs t o)->t≠200->t≠258->t≠134->h'.bl.get b=h.bl.get b:=λb vs t o hb hg h1 h2 h3=>by
  refine f.get b hb ?_ (λws e=>?_) λws e=>?_
  .rintro rfl;rw[gk]at hg;exact h1 (eT hg).1.symm
  .rw[hg]at e;exact h2 (eT e).1
  .rw[hg]at e;exact h3 (eT e).1
 have aa4:∀b es cl,b<h.nx->h.bl.get b=some (.map es cl)->h'.bl.get b=h.bl.get b:=λb es cl hb hg=>by
  refine f.get b hb ?_ (λws e=>?_) λws e=>?_
  .rintro rfl;rw[gk]at hg;exact bL hg.symm
  .rw[hg]at e;exact bL e
  .rw[hg]at e;exact bL e
 have hn:=f.nx;have hl:=f.lo;have t':Ns h' a N d:=iZ.only g.s.t hn hl (λb vs ty op hb ht _ hg=>get b vs ty op hb hg (by rintro rfl;simp[DM]at ht) (by rintro rfl;simp[DM]at ht) (by rintro rfl;simp[DM]at ht)) (aa4 _ _ _ g.s.t.is.Ax g.s.t.is.lz) λb hb=>aa4 _ _ _ (g.s.t.is.bk b hb).r7 (g.s.t.is.bk b hb).gf;have hg:∀d vs ty op,d<h.nx->rE ty op->ty≠200->h.bl.get d=some (ai vs ty op)->h'.bl.get d=h.bl.get d:=λd vs ty op hd hr hne hgd=>get d vs ty op hd hgd hne (by rintro rfl;simp[rE]at hr) (by rintro rfl;simp[rE]at hr);have r':RWx h' A a.tb { R with now:=aa3,tv:=rI }:=by
  have s:=g.s.r;have hm:=aa4 _ _ _ s.r7.1 s.gm;obtain⟨⟨a1,a2⟩,a3,b1,b2,⟨c1,c2⟩,c3,c4,d1,d2,⟨e1,e2⟩,e3,e4,⟨f1,f2⟩,f3,⟨g1,g2⟩,g3,g4,g5,⟨i1,i2⟩,i3,i4,i5⟩:=s;refine⟨⟨XV,XV⟩,(hg _ _ _ _ a1 (by simp[rE]) X0 a3).trans a3,XV,(hg _ _ _ _ b1 (by simp[rE]) X0 b2).trans b2,⟨XV,XV⟩,(hg _ _ _ _ c1 (by simp[rE]) X0 c3).trans c3,λp hp=>?_,XV,(hg _ _ _ _ d1 (by simp[rE]) X0 d2).trans d2,⟨XV,XV⟩,(hg _ _ _ _ e1 (by simp[rE]) X0 e3).trans e3,e4,⟨XV,XV⟩,gk',⟨XV,XV⟩,(hg _ _ _ _ g1 (by simp[rE]) X0 g3).trans g3,g4,λc hc=>?_,⟨XV,XV⟩,hm.trans i3,i4,i5⟩
  .obtain⟨k1,k2⟩:=c4 p hp;exact⟨XV,(hg _ _ _ _ k1 (by simp[rE]) X0 k2).trans k2⟩
  .obtain⟨k1,k2,k3⟩:=g5 c hc;exact⟨XV,XV,(hg _ _ _ _ k1 (by simp[rE]) X0 k3).trans k3⟩
 obtain⟨fs,hp,_⟩:=g.s.t.is.di.fr.cell;have Ao:=g.s.t.is.di.fr.lt;refine⟨rI,g.of ⟨t',r',g.s.mw,g.s.mm,by have:=g.s.lo;omega⟩ (Nat.le_refl _) hn hl (λb vs hb j_ _=>get b _ _ _ hb j_ X0 X0 X0) (λb _ x=>(FB.congr (get _ _ _ _ Ao hp X0 X0 X0)).1 x) nE ht',hn,hl,λb hb h1 h2=>f.get b hb ?_ (λvs=>h1 _ _ _) λvs=>h1 _ _ _⟩;rintro rfl;exact h1 _ _ _ gk
theorem WG.clock(g:WG h A a N B d R Z):bQ h A.kb R.now Z:=⟨g.s.r.UB.1,g.s.r.UB.2,R.tv,g.s.r.gk,g.t⟩
theorem WG.zZ(g:WG h A a N B d R Z)(rF:List IE)(iN:Nat):WG ⟨h.nx,h.bl.bx A.mb (.map (rF.map si) iN),h.lo⟩ A a N B d { R with wm:=rF,nT:=iN } Z/\KR h ⟨h.nx,h.bl.bx A.mb (.map (rF.map si) iN),h.lo⟩:=by
 have gm:=g.s.r.gm;obtain⟨fs,hp,_⟩:=g.s.t.is.di.fr.cell;have ne:∀{b vs t o},h.bl.get b=some (ai vs t o)->A.mb≠b:=λhg=>by rintro rfl;rw[gm]at hg;exact bL hg
 exact⟨g.of (g.s.zZ rF iN) (Nat.le_refl _) (Nat.le_refl _) rfl (λb vs _ hb _=>T.au _ _ (ne hb)) (λb _ x=>(FB.congr (T.au _ _ (ne hp))).1 x) nE (g.t.keep (Nat.le_refl _) rfl λb vs _ hb=>T.au _ _ (ne hb)),KR.aj1 gm _⟩
theorem UR(g:WG h A a N B d R Z){i:Nat}{c:CR}(hi:R.cs[i]? = some (some c))(ko:fm Z)(hlen:Z.length<=1000)(uL:0<=R.now/\R.now<=1000000)(hw:0<=c.a.w/\c.a.w<=9223372036854775807)(id:Int)(Y:KQ)(hk:∀h' rI rF iN Z',WG h' A a N B d { R with cs:=R.cs.set i (some { c with wt:=true,id:=id }),tv:=rI,wm:=rF,nT:=iN } Z'->fm Z'->(Z'=Z\/∃t,Z'.Perm (Z++[⟨t,c.th,c.no⟩]))->KR h h'->Y (.tuple ⟨[]⟩) h'):aj prog 303 [X3 c.ca,X1 id] h Y:=by
 obtain⟨gc,c1,c2⟩:=bS g.s hi;have gc':=gc;unfold bJ at gc';have gw:=g.s.r.gw;have hlo:=g.s.lo;have hca:c.ca≠A.wb:=qd gc gw X0;apply X2;rw[Zd];have g1:=g.iE hi { c with wt:=true,id:=id } rfl rfl rfl rfl;have k1:=KR.put gc (bJ A.wb { c with wt:=true,id:=id });obtain⟨h1,e1⟩:∃h1:ah,h1=⟨h.nx,h.bl.bx c.ca (bJ A.wb { c with wt:=true,id:=id }),h.lo⟩:=⟨_,rfl⟩
 rw[<-e1]at g1 k1;have n1:h1.nx=h.nx:=by rw[e1]
 unfold bJ at e1;simp(disch:=try exact QQ)only[Wz,aL,gc',gw];rw[<-e1];clear e1;refine JK g1.s.r.gm g1.s.r.r7.2 id c.th _ ?_;intro W' clock' _;obtain⟨g2,k2⟩:=g1.zZ W' clock';obtain⟨h2,e2⟩:∃h2:ah,h2=⟨h1.nx,h1.bl.bx A.mb (.map (W'.map si) clock'),h1.lo⟩:=⟨_,rfl⟩
 rw[<-e2]at g2 k2 ⊢;clear e2;have hil:=(List.getElem?_eq_some_iff.1 hi).1;have hi2:(R.cs.set i (some { c with wt:=true,id:=id }))[i]? = some (some { c with wt:=true,id:=id }):=by rw[List.getElem?_set,if_pos rfl,if_pos hil]
 obtain⟨DL,_,_⟩:=bS g2.s hi2;unfold bJ at DL;have JV:=g2.s.r.gw;have CA:=g2.s.lo;simp(disch:=try exact QQ)only[Wz,aL,DL,JV];refine UP g2.clock _ ?_;by_cases hpos:0<c.a.w
 .simp(disch:=try exact QQ)only[Wz,aL,DL,JV,bq hpos];by_cases hle:R.now<=9223372036854775807-c.a.w
  .simp(disch:=try exact QQ)only[Wz,bq hle,F8,aL,DL,JV];refine UO g2.clock ko CA XV (R.now+c.a.w) c.th c.no _ ?_;intro u h3 Z' c3 ko3 hz f3;obtain⟨rI,g3,k3⟩:=g2.clk f3.p c3;exact hk h3 rI W' clock' Z' g3 ko3 (hz.imp (λe=>e) λe=>⟨_,e⟩) ((k1.trans k2).trans k3)
  .simp(disch:=try exact QQ)only[Wz,a_ hle];exact hk h2 R.tv W' clock' Z g2 ko (.inl rfl) (k1.trans k2)
 .simp(disch:=try exact QQ)only[Wz,aL,DL,JV,a_ hpos];exact hk h2 R.tv W' clock' Z g2 ko (.inl rfl) (k1.trans k2)
end
theorem RU(a b c d e:Int):je 8 (.agg ⟨[X1 a,X1 b,X1 c,X1 d,X1 e]⟩) (.agg ⟨[X1 a,X1 b,X1 c,X1 d,X1 e]⟩)=true:=by
 have v:∀n:Int,je 7 (X1 n) (X1 n)=true:=λn=>by
  show(fU .i64 .i64 && nY n n)=true
  rw[fS,bq rfl];rfl
 show(je 7 (X1 a) (X1 a) && (je 7 (X1 b) (X1 b) && (je 7 (X1 c) (X1 c) && (je 7 (X1 d) (X1 d) && (je 7 (X1 e) (X1 e) && true)))))=true
 simp only[v,Bool.and_self]
theorem rj.uM{M:List HE}{B:List Bool}(i:rj M B){e e':HE}(he:e∈M)(he':e'∈M){p p':R5}(hp:p∈e.Q)(hp':p'∈e'.Q)(h:p.id=p'.id):e=e':=by
 obtain⟨X,hX⟩:=i;have hnd:=(List.nodup_append.1 ((hX.nodup_iff).2 (tB B))).1;unfold ig at hnd;rw[List.Nodup,List.pairwise_flatMap]at hnd;obtain⟨i,hi⟩:=List.getElem?_of_mem he;obtain⟨j,hj⟩:=List.getElem?_of_mem he';have G:=c8.1 hnd.2;rcases Nat.lt_trichotomy i j with hl|hl|hl
 .exact absurd h (G i j e e' hl hi hj _ (List.mem_map.2 ⟨p,hp,rfl⟩) _ (List.mem_map.2 ⟨p',hp',rfl⟩))
 .subst hl;rw[hi]at hj;exact Option.some.inj hj
 .exact absurd h.symm (G j i e' e hl hj hi _ (List.mem_map.2 ⟨p',hp',rfl⟩) _ (List.mem_map.2 ⟨p,hp,rfl⟩))
theorem iZ.uM{h:ah}{tb bw bp bl:Nat}{c:jU}{vb:Value}{bf N:Nat}{Ts:List TB}{W:List IE}{wc:Nat}{F:List Int}{B:List Bool}(s:iZ h tb bw bp bl c vb bf N Ts W wc F B){k j:Nat}{b b':TB}(hk:Ts[k]? = some b)(hj:Ts[j]? = some b'){e e':HE}(he:e∈b.M)(he':e'∈b'.M){p p':R5}(hp:p∈e.Q)(hp':p'∈e'.Q)(hid:p.id=p'.id):k=j/\b=b'/\e=e':=by
 have h1:=s.wh k b hk e he p hp;have h2:=s.wh j b' hj e' he' p' hp';rw[hid,h2]at h1;have:j=k:=by have:=Option.some.inj h1;omega
 subst this;rw[hk]at hj;cases hj;exact⟨rfl,rfl,(s.L8 hk).uM he he' hp hp' hid⟩
section
variable {h h':ah}{A:WA}{a:TA}{N N' B B':Nat}{d d':TD}{R R':RD}{Z Z':List TM}
theorem WG.aj5(g:WG h A a N B d R Z){i:Nat}{c:CR}(hi:R.cs[i]? = some (some c))(hB:B<=900000000){v1:Value}{M:List Int}(hs:Sl aU h v1 M)(hM:M.length<=200)(K:ah->Prop)(hk:∀h' v' L' o',WG h' A a N (B+200) d { R with cs:=R.cs.set i (some { c with wv:=v',wl:=L',wb:=o' }) } Z->KF h h'->K h'):bt False And 3 1 [X1 0] false c.wv v1 h λv12 h=>DJ False (h.bl.get c.ca) 1 c.ca 18 v12.cells.toList h λh=>K h:=by
 obtain⟨w9,d1',d2'⟩:=bS g.s hi;obtain⟨x,cc,hv⟩:=(g.k c (List.mem_of_getElem? hi)).t.val;refine Vai.ee.append aZ dF X0 X0 (g.k c (List.mem_of_getElem? hi)).t hs XV g.s.lo _ ?_;intro v' o' h2 t2 n2 l2 f2 o2;obtain⟨y,cy,hy⟩:=t2.val;obtain⟨w1,w2,w3,w4⟩:=g.Dx hi (B':=B+200) XV (t2.up XV) n2 l2 f2 o2;have w3':=w3;unfold bJ at w3';have k3:KF h ⟨h2.nx,h2.bl.bx c.ca (bJ A.wb { c with wv:=v',wl:=c.wl++M,wb:=o' }),h2.lo⟩:=⟨w2,λb vs ty op hb j_ _ _ n3 n4=>by
  have e9:=w4 b vs ty op hb j_ n3;exact(T.au _ _ (λe=>by
   rw[<-e,w9]at j_;exact n4 (eT j_).1.symm)).trans e9⟩
 have hk:=hk _ v' (c.wl++M) o' w1 k3;unfold bJ at hk;simp only at hk;rw[hy]at hk ⊢;have CA:h2.lo<=c.ca:=by omega
 simp(disch:=try exact QQ)only[Wz,w3'];exact hk
theorem RV{Q:List R5}{W:Int}(v:VQ Q W){p p':R5}(hp:p∈Q)(hp':p'∈Q)(hid:p.id=p'.id):p=p':=by
 obtain⟨i,hi⟩:=List.getElem?_of_mem hp;obtain⟨j,hj⟩:=List.getElem?_of_mem hp';rcases Nat.lt_trichotomy i j with h1|h1|h1
 .exact absurd hid (c8.1 v.pair i j p p' h1 hi hj).id
 .subst h1;rw[hi]at hj;exact Option.some.inj hj
 .exact absurd hid.symm (c8.1 v.pair j i p' p h1 hj hi).id
theorem WT.is(g:WG h A a N B d R Z){b:TB}{e:HE}{p:R5}(hb:b∈d.Ts)(he:e∈b.M)(hp:p∈e.Q){t r x:Int}(w:WT d.Ts p.id t r x):e.t=t/\e.r=r/\p.x=x/\0<p.s:=by
 obtain⟨b',hb',w'⟩:=w;obtain⟨e',he',rfl,rfl,p',hp',hid,hx,hs⟩:=w'.e;obtain⟨k,hk⟩:=List.getElem?_of_mem hb;obtain⟨j,hj⟩:=List.getElem?_of_mem hb';obtain⟨_,rfl,rfl⟩:=iZ.uM g.s.t hk hj he he' hp hp' hid.symm;have e9:=RV ((g.s.t.is.bk b hb).good e he).vq hp hp' hid.symm;subst e9;exact⟨rfl,rfl,hx,hs⟩
structure afa(c:CR)(d d':TD)(Z Z':List TM)(out:Int):Prop where
 out:out≠0
 wt:∀id t r x,WT d'.Ts id t r x->WT d.Ts id t r x
 no:¬WT d'.Ts c.id c.a.t c.a.r c.a.x
 ko:fm Z'
 tm:∀t∈Z',t∈Z/\¬(t.who=c.th/\t.mark=c.no)
 len:Z'.length<=Z.length
theorem RX(g:WG h A a N B d R Z){i:Nat}{c:CR}(hi:R.cs[i]? = some (some c))(hB:B<=900000000)(ko:fm Z)(hlen:Z.length<=1000)(Y:KQ)(nj:∀h',WG h' A a N B d R Z->KR h h'->Y (.tuple ⟨[]⟩) h')(hk:∀h' d' Z' rI v' L' o' out,afa c d d' Z Z' out->WG h' A a (N+1) (B+200) d' { R with cs:=R.cs.set i (some { c with out:=out,wv:=v',wl:=L',wb:=o' }),tv:=rI } Z'->KR h h'->Y (.tuple ⟨[]⟩) h'):aj prog 157 [X3 c.ca] h Y:=by
 obtain⟨gc,c1,c2⟩:=bS g.s hi;have gc':=gc;unfold bJ at gc';have gw:=g.s.r.gw;have hlo:=g.s.lo;apply X2;rw[Ys];simp(disch:=try exact QQ)only[Wz,aL,gc',gw];obtain⟨hA,bH,aY,g11,g12,ia,ic⟩:=DK h (ai [X1 0,X1 0] 28 false) (ai [X1 0,X1 0,X1 0,X1 0,X1 0] 57 false);rw[<-bH];clear bH;have sA:=g.s.le aY
 have fin:∀(h2:ah)(t r:Int)(p:R5)(is:Bool),Le h h2->h2.bl.get h.nx=some (ai [X1 t,X1 r] 28 false)->h2.bl.get (h.nx+1)=some (ai [X1 p.id,X1 p.x,X1 p.m,X1 p.w,X1 p.s] 57 false)->((is=false/\∀b∈d.Ts,∀e∈b.M,bU e.Q c.id=none)\/(is=true/\∃b∈d.Ts,∃e∈b.M,bU e.Q c.id=some p/\e.t=t/\e.r=r))->
   dz (λFq=>qV (.bool is) (X3 h.nx) (X3 c.ca) (.pointer (some ⟨h.nx+1,0,none⟩)) Fq h2 Y) (λC6 h=>yS (X3 c.ca) h Y):=by
  intro h2 t r p is bK g1 g2 hf;have gg:=g.le bK;have n2:=bK.nx;obtain⟨DL,c21,c22⟩:=bS gg.s hi;have sF:=DL;unfold bJ at sF;have JV:=gg.s.r.gw;have hrv:je 8 (X1 0) (X1 0)=true:=rfl;have pos:∀b∈d.Ts,∀e∈b.M,∀q∈e.Q,q.s≠0->0<q.s:=λb hb e he q hq h0=>by
   have:=(((g.s.t.is.bk b hb).good e he).vq.right q hq).s0;omega
  have found:∀b∈d.Ts,∀e∈b.M,bU e.Q c.id=some p->e.t=t->e.r=r->∀t' r' x,WT d.Ts c.id t' r' x->t'=t/\r'=r/\x=p.x/\0<p.s:=λb hb e he Md e1 e2 t' r' x w=>by
   obtain⟨k1,k2⟩:=dQ Md;rw[<-k2]at w;obtain⟨q1,q2,q3,q4⟩:=WT.is g hb he k1 w;exact⟨q1.symm.trans e1,q2.symm.trans e2,q3.symm,q4⟩
  obtain⟨P,hP⟩:∃P:ah->Prop,P=λh'=>∃d' v' L' o' out,out≠0/\(∀id t r x,WT d'.Ts id t r x->WT d.Ts id t r x)/\¬WT d'.Ts c.id c.a.t c.a.r c.a.x/\WG h' A a (N+1) (B+200) d' { R with cs:=R.cs.set i (some { c with out:=out,wv:=v',wl:=L',wb:=o' }) } Z/\KR h h':=⟨_,rfl⟩
  have simple:∀out:Int,out≠0->¬WT d.Ts c.id c.a.t c.a.r c.a.x->P ⟨h2.nx,h2.bl.bx c.ca (bJ A.wb { c with out:=out }),h2.lo⟩:=λout h0 hn=>by
   rw[hP];exact⟨d,c.wv,c.wl,c.wb,out,h0,λ_ _ _ _ w=>w,hn,(gg.iE hi { c with out:=out } rfl rfl rfl rfl).up (Nat.le_succ _) (Nat.le_add_right _ _),(KR.of_le bK).trans (KR.put DL _)⟩
  have close:∀(h3:ah)(d3:TD)(v3:Value)(M:List Int),c.cs≠0->WG h3 A a (N+1) B d3 R Z->Sl aU h3 v3 M->M.length<=200->KR h h3->(∀id t r x,WT d3.Ts id t r x->WT d.Ts id t r x)->¬WT d3.Ts c.id c.a.t c.a.r c.a.x->
    bt False And 3 1 [X1 0] false c.wv v3 h3 λEY h_1=>DJ False (h_1.bl.get c.ca) 1 c.ca 18 EY.cells.toList h_1 λh_2=>qn False (h_2.bl.get c.ca) 15 λv=>DJ False (h_2.bl.get c.ca) 1 c.ca 16 v.cells.toList h_2 λh_3=>P h_3:=by
   intro h3 d3 v3 M hcs g3 hs hM k3 hsub hno;refine g3.aj5 hi hB hs hM _ ?_;intro h4 v' L' o' g4 k4;have hil:=(List.getElem?_eq_some_iff.1 hi).1;have hi4:(R.cs.set i (some { c with wv:=v',wl:=L',wb:=o' }))[i]? = some (some { c with wv:=v',wl:=L',wb:=o' }):=by rw[List.getElem?_set,if_pos rfl,if_pos hil]
   obtain⟨Oh,_,c42⟩:=bS g4.s hi4;have g5:=g4.iE hi4 { c with wv:=v',wl:=L',wb:=o',out:=c.cs } rfl rfl rfl rfl;have k5:=KR.put Oh (bJ A.wb { c with wv:=v',wl:=L',wb:=o',out:=c.cs });have fin:P ⟨h4.nx,h4.bl.bx c.ca (bJ A.wb { c with wv:=v',wl:=L',wb:=o',out:=c.cs }),h4.lo⟩:=by
    rw[hP];refine⟨d3,v',L',o',c.cs,hcs,hsub,hno,?_,(k3.trans k4.r).trans k5⟩;have g5:=g5;simp only[List.set_set]at g5;exact g5
   have Ad:=Oh;unfold bJ at Ad fin;simp(disch:=try exact QQ)only[Wz,Ad];exact fin
  refine⟨λl' h'=>P h',?_,?_⟩
  .rcases hf with⟨rfl,hno⟩|⟨rfl,b,hb,e,he,Md,e1,e2⟩
   ·simp(disch:=try exact QQ)only[Wz,qV,g1,g2,aL,sF];have:=simple 6 X0 (λw=>by
     obtain⟨b,hb,w⟩:=w;obtain⟨e,he,_,_,p',hp',hid,_,_⟩:=w.e;exact mq (hno b hb e he) p' hp' hid)
    unfold bJ at this;exact this
   .by_cases hn:t=c.a.t/\r=c.a.r
    .simp(disch:=try exact QQ)only[Wz,qV,g1,g2,aL,sF,LX,bq hn,Bool.not_true,Bool.not_false];by_cases hx:p.x=c.a.x
     .simp(disch:=try exact QQ)only[Wz,bq hx,Bool.not_true,Bool.not_false,Ft,g2,aL,sF];by_cases hs:p.s=0
      ·simp(disch:=try exact QQ)only[Wz,bq hs,aL,sF];have:=simple 1 X0 (λw=>by
        have:=(found b hb e he Md e1 e2 _ _ _ w).2.2.2;omega)
       unfold bJ at this;exact this
      .simp(disch:=try exact QQ)only[Wz,a_ hs,Fs,aL,sF];by_cases hcs:c.cs=0
       .simp(disch:=try exact QQ)only[Wz,bq hcs];exact nj h2 gg (KR.of_le bK)
       .simp(disch:=try exact QQ)only[Wz,a_ hcs,Fp,aL,sF,JV];have CA:=gg.s.lo;refine HJ gg.s.t CA c.id _ ?_ ?_ ?_ ?_
        .intro hno;rw[hno b hb e he]at Md;cases Md
        .intro k b' h' e' p' hkb he' JW hs' _;exfalso;obtain⟨j,hj⟩:=List.getElem?_of_mem hb;obtain⟨q1,q2⟩:=dQ Md;obtain⟨q3,q4⟩:=dQ JW;obtain⟨_,rfl,rfl⟩:=iZ.uM gg.s.t hkb hj he' he q3 q1 (q4.trans q2.symm);rw[Md]at JW;cases JW;exact hs' (pos _ hb _ he p q1 hs)
        .intro k b' h3 M' clock' F' v' e' p' n hkb he' JW hs' hm hid sN mv ho t3;have g3:=gg.table (d':=⟨d.Ts.set k ⟨b'.bb,b'.bm,M',clock'⟩,d.W,d.wc,F',d.B.set n false⟩) t3 (tE.zO (List.mem_of_getElem? hkb) mv.fr) (vM hkb _ _);obtain⟨UJ,_,_⟩:=bS g3.s hi;have HZ:=UJ;unfold bJ at HZ;simp(disch:=try exact QQ)only[Wz,HZ,hrv];refine close h3 _ v' _ hcs g3 ho.sl ?_ ((KR.of_le bK).trans (gg.kfr (tE.zO (List.mem_of_getElem? hkb) mv.fr)).r) (λid' t r x hw=>?_) (λhw=>?_)
         .have h2:=((gg.s.t.is.bk b' (List.mem_of_getElem? hkb)).good e' he').small;have h3:=vN (fO (e'.Q.filter λr=>!bE c.id r)+1) (e'.Q.filter λr=>!bE c.id r);have h4:fO (e'.Q.filter λr=>!bE c.id r)<=(e'.Q.filter λr=>!bE c.id r).length:=List.length_filter_le _ _;have h5:(e'.Q.filter λr=>!bE c.id r).length<=e'.Q.length:=List.length_filter_le _ _;omega
         .rcases WT.set hkb hw with h1|⟨b1,j,_,hj,h1⟩
          .exact WT.of hkb (eE.left he' mv h1).1
          .exact⟨b1,List.mem_of_getElem? hj,h1⟩
         .obtain⟨q3,q4⟩:=dQ JW;rcases WT.set hkb hw with h1|⟨b1,j,hne,hj,h1⟩
          .obtain⟨w1,w2⟩:=eE.left he' mv h1;obtain⟨e1',JX,f1,f2,p1,hp1,Dz,_⟩:=w1.e;obtain⟨_,_,f3⟩:=iZ.uM gg.s.t hkb hkb JX he' hp1 q3 (Dz.trans q4.symm);subst f3;exact w2 rfl ⟨f1.symm,f2.symm⟩
          .obtain⟨e1',JX,_,_,p1,hp1,Dz,_⟩:=h1.e;exact hne (iZ.uM gg.s.t hj hkb JX he' hp1 q3 (Dz.trans q4.symm)).1
        .intro k b' h3 M' clock' v' e' p' i' hkb he' hi' JW hs' hm mv ho t3;have g3:=gg.table (d':=⟨d.Ts.set k ⟨b'.bb,b'.bm,M',clock'⟩,d.W,d.wc,d.F,d.B⟩) t3 (tE.zO (List.mem_of_getElem? hkb) mv.fr) (vM hkb _ _);obtain⟨UJ,_,_⟩:=bS g3.s hi;have HZ:=UJ;unfold bJ at HZ;simp(disch:=try exact QQ)only[Wz,HZ,hrv];obtain⟨q3,q4⟩:=dQ JW;refine close h3 _ v' _ hcs g3 ho.sl ?_ ((KR.of_le bK).trans (gg.kfr (tE.zO (List.mem_of_getElem? hkb) mv.fr)).r) (λid' t r x hw=>?_) (λhw=>?_)
         .have h2:=((gg.s.t.is.bk b' (List.mem_of_getElem? hkb)).good e' he').small;have h3:=vN (fO (e'.Q.set i' (kJ p'))+1) (e'.Q.set i' (kJ p'));have h4:fO (e'.Q.set i' (kJ p'))<=(e'.Q.set i' (kJ p')).length:=List.length_filter_le _ _;rw[List.length_set]at h4;omega
         .rcases WT.set hkb hw with h1|⟨b1,j,_,hj,h1⟩
          .rcases eE.wS he' mv h1 with h1|⟨_,_,_,_,h1⟩
           .exact WT.of hkb h1
           .exact absurd h1 (Int.lt_irrefl _)
          .exact⟨b1,List.mem_of_getElem? hj,h1⟩
         .rcases WT.set hkb hw with h1|⟨b1,j,hne,hj,h1⟩
          .rcases eE.waits mv h1 with⟨_,_,p1,hp1,Dz,_,hs1⟩|⟨w2,w1⟩
           .have hl:i'<e'.Q.length:=(List.getElem?_eq_some_iff.1 hi').1;have e9:=RV mv.vq hp1 (List.mem_of_getElem? (i:=i') (by rw[List.getElem?_set,if_pos rfl,if_pos hl])) (show p1.id=(kJ p').id from Dz.trans q4.symm);rw[e9]at hs1;exact absurd hs1 (Int.lt_irrefl _)
           .obtain⟨e1',JX,f1,f2,p1,hp1,Dz,_⟩:=w1.e;obtain⟨_,_,f3⟩:=iZ.uM gg.s.t hkb hkb JX he' hp1 q3 (Dz.trans q4.symm);subst f3;exact w2 ⟨f1.symm,f2.symm⟩
          .obtain⟨e1',JX,_,_,p1,hp1,Dz,_⟩:=h1.e;exact hne (iZ.uM gg.s.t hj hkb JX he' hp1 q3 (Dz.trans q4.symm)).1
     .simp(disch:=try exact QQ)only[Wz,a_ hx,Bool.not_true,Bool.not_false,aL,sF];have:=simple 6 X0 (λw=>hx (found b hb e he Md e1 e2 _ _ _ w).2.2.1.symm);unfold bJ at this;exact this
    ·simp(disch:=try exact QQ)only[Wz,qV,g1,g2,aL,sF,LX,a_ hn,Bool.not_true,Bool.not_false];have:=simple 6 X0 (λw=>hn (by
      have:=found b hb e he Md e1 e2 _ _ _ w;exact⟨this.1.symm,this.2.1.symm⟩))
     unfold bJ at this;exact this
  .intro l' h' hp;rw[hP]at hp;obtain⟨d',v',L',o',out,h0,hw,hno,g5,k5⟩:=hp;have hi':(R.cs.set i (some { c with out:=out,wv:=v',wl:=L',wb:=o' }))[i]? = some (some { c with out:=out,wv:=v',wl:=L',wb:=o' }):=by rw[List.getElem?_set,if_pos rfl,if_pos (List.getElem?_eq_some_iff.1 hi).1]
   obtain⟨gc5,_,_⟩:=bS g5.s hi';unfold bJ at gc5;have gw5:=g5.s.r.gw;simp(disch:=try exact QQ)only[Wz,yS,aL,gc5,gw5];refine RS g5.clock ko g5.s.lo XV c.th c.no _ ?_;intro u h6 Z' c6 ko6 hz hl6 f6;obtain⟨rI,g6,k6⟩:=g5.clk f6.p c6;exact hk h6 d' Z' rI v' L' o' out ⟨h0,hw,hno,ko6,hz,hl6⟩ g6 (k5.trans k6)
 refine Rz sA.t XV c.id _ ?_ ?_
 .intro h1 hn bF;have Me:=bF.nx;have Mf:=bF.lo;have g11:=(bF.get _ XV).trans g11;have g12:=(bF.get _ XV).trans g12;simp(disch:=try exact QQ)only[Wz,iF,j0,bA,g11,g12];rw[RU];simp(disch:=try exact QQ)only[Wz];refine fin _ 0 0 ⟨0,0,0,0,0⟩ false (((aY.trans bF).set XV _).set XV _) ((T.au _ _ XV).trans (T.an _ _ _)) (T.an _ _ _) (.inl ⟨rfl,hn⟩)
 .intro h1 b e p hb he Md bF;have Me:=bF.nx;have Mf:=bF.lo;have g11:=(bF.get _ XV).trans g11;have g12:=(bF.get _ XV).trans g12;simp(disch:=try exact QQ)only[Wz,iF,j0,bA,g11,g12];rw[RU];simp(disch:=try exact QQ)only[Wz];refine fin _ e.t e.r p true (((aY.trans bF).set XV _).set XV _) ((T.au _ _ XV).trans (T.an _ _ _)) (T.an _ _ _) (.inr ⟨rfl,b,hb,e,he,Md,rfl,rfl⟩)
end
structure fL(c c':CR)(d d':TD)(Z Z':List TM):Prop where
 eq:c'.ca=c.ca/\c'.a=c.a/\c'.th=c.th/\c'.no=c.no/\c'.st=c.st/\c'.cs=c.cs
 idk:c.wt=true->c'.wt=true/\c'.id=c.id
 wt:∀id t r x,WT d'.Ts id t r x->WT d.Ts id t r x\/(c'.wt=true/\c'.out=0/\c'.id=id/\c.a.t=t/\c.a.r=r/\c.a.x=x)
 own:c.wt=true->c'.out≠0->¬WT d'.Ts c.id c.a.t c.a.r c.a.x
 tm:∀t∈Z',t∈Z\/(c'.wt=true/\c'.out=0/\t.who=c.th/\t.mark=c.no)
 tn:c.wt=true->c'.out≠0->∀t∈Z',¬(t.who=c.th/\t.mark=c.no)
 ko:fm Z'
 len:Z'.length<=Z.length+1
section
variable {h h':ah}{A:WA}{a:TA}{N N' B B':Nat}{d d':TD}{R R':RD}{Z Z':List TM}
theorem fL.plain{c:CR}(ko:fm Z)(hw:c.wt=false)(v':Value)(L':List Int)(o':Option Nat)(out:Int)(hs:∀id t r x,WT d'.Ts id t r x->WT d.Ts id t r x):fL c { c with out:=out,wv:=v',wl:=L',wb:=o' } d d' Z Z:=
 ⟨⟨rfl,rfl,rfl,rfl,rfl,rfl⟩,λe=>(by rw[hw]at e;cases e),λid t r x w=>.inl (hs id t r x w),λe=>(by rw[hw]at e;cases e),λt ht=>.inl ht,λe=>(by rw[hw]at e;cases e),ko,Nat.le_succ _⟩
theorem Ae{i:Nat}{c c':CR}(hi:R.cs[i]? = some (some c)):(R.cs.set i (some c'))[i]? = some (some c'):=by rw[List.getElem?_set,if_pos rfl,if_pos (List.getElem?_eq_some_iff.1 hi).1]
theorem RD.same{i:Nat}{c:CR}(hi:R.cs[i]? = some (some c)):({ R with cs:=R.cs.set i (some c) }:RD)=R:=by
 show(⟨R.cr,R.bits,R.now,R.tv,R.cs.set i (some c),R.wm,R.nT,R.begun⟩:RD)=R
 rw[rB hi]
theorem WG.US(g:WG h A a N B d R Z){i:Nat}{c:CR}(hi:R.cs[i]? = some (some c)){v':Value}{L':List Int}{o':Option Nat}(g2:WG h' A a N' B' d' { R with cs:=R.cs.set i (some { c with wv:=v',wl:=L',wb:=o' }) } Z)(out:Int)(K:ah->Prop)(hk:∀h2,WG h2 A a N' B' d' { R with cs:=R.cs.set i (some { c with out:=out,wv:=v',wl:=L',wb:=o' }) } Z->KR h' h2->K h2):DJ False (h'.bl.get c.ca) 1 c.ca 16 [X1 out] h' K:=by
 have hi2:=Ae (c':={ c with wv:=v',wl:=L',wb:=o' }) hi;obtain⟨Oh,_,c42⟩:=bS g2.s hi2;have g5:=g2.iE hi2 { c with out:=out,wv:=v',wl:=L',wb:=o' } rfl rfl rfl rfl;simp only[List.set_set]at g5;have hk:=hk _ g5 (KR.put Oh _);have Ad:=Oh;unfold bJ at Ad hk;simp(disch:=try exact QQ)only[Wz,Ad];exact hk
theorem WG.afc(g:WG h A a N B d R Z){i:Nat}{c:CR}(hi:R.cs[i]? = some (some c))(out:Int)(K:ah->Prop)(hk:∀h2,WG h2 A a N B d { R with cs:=R.cs.set i (some { c with out:=out }) } Z->KR h h2->K h2):DJ False (h.bl.get c.ca) 1 c.ca 16 [X1 out] h K:=by
 obtain⟨Oh,_,c42⟩:=bS g.s hi;have hk:=hk _ (g.iE hi { c with out:=out } rfl rfl rfl rfl) (KR.put Oh _);have Ad:=Oh;unfold bJ at Ad hk;simp(disch:=try exact QQ)only[Wz,Ad];exact hk
theorem UT(g:WG h A a N B d R Z){i:Nat}{c:CR}(hi:R.cs[i]? = some (some c))(hw:c.wt=false)(hB:B<=900000000)(ko:fm Z)(Y:KQ)(hk:∀h' d' c',c'.out≠0->fL c c' d d' Z Z->WG h' A a (N+1) (B+200) d' { R with cs:=R.cs.set i (some c') } Z->KR h h'->Y (.tuple ⟨[]⟩) h'):aj prog 213 [X3 c.ca] h Y:=by
 obtain⟨gc,c1,c2⟩:=bS g.s hi;have gc':=gc;unfold bJ at gc';have gw:=g.s.r.gw;apply X2;rw[YN];simp(disch:=try exact QQ)only[Wz,aL,gc',gw];refine Ac g.s.t g.s.lo c.a.t c.a.r c.a.x _ ?_;intro h1 id b f1 bF;have g1:=g.le bF;obtain⟨w9,_,_⟩:=bS g1.s hi;have pQ:=w9;unfold bJ at pQ;cases b with
 |false=>
  simp(disch:=try exact QQ)only[Wz,Bool.not_false,aL];refine WG.US (h':=h1) g hi (v':=c.wv) (L':=c.wl) (o':=c.wb) (N':=N+1) (B':=B+200) (d':=d) ?_ 6 _ ?_
  .rw[show({ R with cs:=R.cs.set i (some { c with wv:=c.wv,wl:=c.wl,wb:=c.wb }) }:RD)=R from RD.same hi];exact g1.up (Nat.le_succ _) (Nat.le_add_right _ _)
  .intro h2 g2 k2;exact hk h2 d _ (by show(6:Int)≠0;decide) (fL.plain ko hw _ _ _ _ λ_ _ _ _ w=>w) g2 ((KR.of_le bF).trans k2)
 |true=>
  simp(disch:=try exact QQ)only[Wz,Bool.not_true];refine Ab g1 hi hB id _ ?_;intro h2 d2 v' L' o' g2 hsub _ k2;refine WG.US g hi g2 1 _ ?_;intro h3 g3 k3;exact hk h3 d2 _ (by show(1:Int)≠0;decide) (fL.plain ko hw _ _ _ _ hsub) g3 (((KR.of_le bF).trans k2.r).trans k3)
end
section
variable {h h':ah}{A:WA}{a:TA}{N N' B B':Nat}{d d':TD}{R R':RD}{Z Z':List TM}
theorem WG.qs(g:WG h A a N B d R Z)(t r:Int):∀b∈d.Ts,∀e∈b.M,e.t=t->e.r=r->e.Q.length<=128:=λb hb e he _ _=>((g.s.t.is.bk b hb).good e he).small
theorem UU(g:WG h A a N B d R Z){i:Nat}{c:CR}(hi:R.cs[i]? = some (some c))(hw:c.wt=false)(hB:B<=900000000)(ko:fm Z)(Y:KQ)(hk:∀h' d' c',c'.out≠0->fL c c' d d' Z Z->WG h' A a (N+1) (B+200) d' { R with cs:=R.cs.set i (some c') } Z->KR h h'->Y (.tuple ⟨[]⟩) h'):aj prog 214 [X3 c.ca] h Y:=by
 obtain⟨gc,c1,c2⟩:=bS g.s hi;have gc':=gc;unfold bJ at gc';have gw:=g.s.r.gw;apply X2;rw[YO];simp(disch:=try exact QQ)only[Wz,aL,gc',gw];refine Ac g.s.t g.s.lo c.a.t c.a.r c.a.x _ ?_;intro h1 id b f1 bF;have g1:=g.le bF;have n1:=bF.nx;have l1:=bF.lo;obtain⟨w9,_,_⟩:=bS g1.s hi;have pQ:=w9;unfold bJ at pQ;have Rn:=g1.s.r.gw;cases b with
 |false=>
  simp(disch:=try exact QQ)only[Wz,Bool.not_false,aL];refine WG.US (h':=h1) g hi (v':=c.wv) (L':=c.wl) (o':=c.wb) (N':=N+1) (B':=B+200) (d':=d) ?_ 6 _ ?_
  .rw[show({ R with cs:=R.cs.set i (some { c with wv:=c.wv,wl:=c.wl,wb:=c.wb }) }:RD)=R from RD.same hi];exact g1.up (Nat.le_succ _) (Nat.le_add_right _ _)
  .intro h2 g2 k2;exact hk h2 d _ (by show(6:Int)≠0;decide) (fL.plain ko hw _ _ _ _ λ_ _ _ _ w=>w) g2 ((KR.of_le bF).trans k2)
 |true=>
  simp(disch:=try exact QQ)only[Wz,Bool.not_true];refine⟨λl' h'=>Le h h',?_,?_⟩
  .simp(disch:=try exact QQ)only[Wz,FK,aL,pQ];by_cases hto:c.a.to<0
   .simp(disch:=try exact QQ)only[Wz,bq hto,FJ,aL,pQ,Rn];refine HY g1.s c.a.t c.a.r (Pq:=λQ=>Q.length<=128) (by simp) (g1.qs _ _) _ ?_;intro v Q h2 hQ hv bK;have hv:=hv.1;obtain⟨vx,vc,ev,_⟩:=(show Sl bA h2 v Q from hv)
    have hlen:∀(β:Type)(fl:β)(h':ah)(Y:XW β),bh fl v h' Y=Y (X1 (Q.length:Int)) h':=λβ fl h' Y=>by rw[ev];exact bX _ _ _ _ _
    simp(disch:=try exact QQ)only[Wz,hlen];refine⟨λn l h3=>∃j:Nat,aa l 14=X1 (j:Int)/\n=Q.length-j/\j<=Q.length/\Le h2 h3,⟨_,0,rfl,rfl,XV,Le.refl _⟩,?_⟩;rintro n l h3 ⟨j,s1,rfl,hj,d_⟩;have n2:=bK.nx;have l2:=bK.lo;have n3:=d_.nx;have l3:=d_.lo;by_cases hlt:j<Q.length
    .obtain⟨p,hp⟩:∃p,Q[j]? = some p:=⟨_,List.getElem?_eq_getElem hlt⟩
     obtain⟨b4,o4,hb4,B0,BS,_⟩:=Jn hv j hp;rw[<-d_.get _ hb4]at BS;simp(disch:=try exact QQ)only[Wz,s1,dw (show(j:Int)<(Q.length:Int)by omega),FI,B0,BS,bA];by_cases hs:0<p.s
     .simp(disch:=try exact QQ)only[Wz,bq hs];have DA:=(bK.trans d_).trans ((Le.refl h3).new (ai [X1 p.id,X1 p.x,X1 p.m,X1 p.w,X1 p.s] 57 false));refine Ab (g1.le DA) hi hB id _ ?_;intro h4 d4 v' L' o' g4 hsub _ k4;refine WG.US g hi g4 3 _ ?_;intro h5 g5 k5;exact hk h5 d4 _ (by show(3:Int)≠0;decide) (fL.plain ko hw _ _ _ _ hsub) g5 (((KR.of_le (bF.trans DA)).trans k4.r).trans k5)
     .simp(disch:=try exact QQ)only[Wz,a_ hs,s1];exact⟨_,XV,j+1,rfl,rfl,XV,d_.trans ((Le.refl h3).new _)⟩
    .simp(disch:=try exact QQ)only[Wz,s1,b_ (show(Q.length:Int)<=(j:Int)by omega)];exact(bF.trans bK).trans d_
   .simp(disch:=try exact QQ)only[Wz,a_ hto];exact bF
  .intro l' h2 bK;have g2:=g.le bK;obtain⟨DL,_,c22⟩:=bS g2.s hi;have sF:=DL;unfold bJ at sF;have gO:=g2.iE hi { c with out:=1 } rfl rfl rfl rfl;have kO:=KR.put DL (bJ A.wb { c with out:=1 });obtain⟨h3,e3⟩:∃h3:ah,h3=⟨h2.nx,h2.bl.bx c.ca (bJ A.wb { c with out:=1 }),h2.lo⟩:=⟨_,rfl⟩
   rw[<-e3]at gO kO;have hiO:=Ae (c':={ c with out:=1 }) hi;obtain⟨UJ,_,c32⟩:=bS gO.s hiO;have gw3:=gO.s.r.gw;have HZ:=UJ;unfold bJ at HZ e3;simp(disch:=try exact QQ)only[Wz,FL,aL,sF];have Ed:=congrArg ah.bl e3;simp only at Ed;rw[<-e3,<-Ed];simp(disch:=try exact QQ)only[Wz,aL,HZ,gw3];have bad:∀(h4:ah),Le h3 h4->DJ False (h4.bl.get c.ca) 1 c.ca 16 [X1 6] h4 λh=>Y (.tuple ⟨[]⟩) h:=by
    intro h4 mE;refine WG.afc (gO.le mE) hiO 6 _ ?_;intro h5 g5 k5;simp only[List.set_set]at g5;exact hk h5 d _ (by show(6:Int)≠0;decide) (fL.plain ko hw c.wv c.wl c.wb 6 λ_ _ _ _ w=>w) (g5.up (Nat.le_succ _) (Nat.le_add_right _ _)) ((((KR.of_le bK).trans kO).trans (KR.of_le mE)).trans k5)
   refine RA gO.s.t gO.s.lo id c.a.to _ ?_ ?_ ?_ ?_
   .intro _;simp(disch:=try exact QQ)only[Wz,aL];exact bad h3 (Le.refl _)
   .intro k b h4 e p _ _ _ _ mE;simp(disch:=try exact QQ)only[Wz,aL];exact bad h4 mE
   .intro k b h4 e p _ _ _ _ _ mE;simp(disch:=try exact QQ)only[Wz,aL];exact bad h4 mE
   .intro k b h4 M' clock' e p j hkb he hj Md _ hs mv t4;have g4:=gO.table (d':=⟨d.Ts.set k ⟨b.bb,b.bm,M',clock'⟩,d.W,d.wc,d.F,d.B⟩) t4 (tE.zO (List.mem_of_getElem? hkb) mv.fr) (vM hkb _ _);refine hk h4 _ { c with out:=1 } (by show(1:Int)≠0;decide) (fL.plain ko hw c.wv c.wl c.wb 1 λid' t r x w=>?_) (g4.up (Nat.le_refl _) (Nat.le_add_right _ _)) (((KR.of_le bK).trans kO).trans (gO.kfr (tE.zO (List.mem_of_getElem? hkb) mv.fr)).r);rcases WT.set hkb w with h1|⟨b1,j',_,hj',h1⟩
    .rcases eE.wS he mv h1 with h1|⟨_,_,_,_,h1⟩
     .exact WT.of hkb h1
     .exact absurd h1 hs
    .exact⟨b1,List.mem_of_getElem? hj',h1⟩
end
section
variable {h h':ah}{A:WA}{a:TA}{N N' B B':Nat}{d d':TD}{R R':RD}{Z Z':List TM}
theorem RT.uniq(g:WG h A a N B d R Z){id t r x t' r' x':Int}(w:RT d.Ts id t r x)(w':RT d.Ts id t' r' x'):t=t'/\r=r'/\x=x':=by
 obtain⟨b,hb,e,he,rfl,rfl,p,hp,h1,rfl⟩:=w;obtain⟨b',hb',e',he',rfl,rfl,p',hp',h1',rfl⟩:=w';obtain⟨k,hk⟩:=List.getElem?_of_mem hb;obtain⟨j,hj⟩:=List.getElem?_of_mem hb';obtain⟨_,rfl,rfl⟩:=iZ.uM g.s.t hk hj he he' hp hp' (h1.trans h1'.symm);have:=RV ((g.s.t.is.bk b hb).good e he).vq hp hp' (h1.trans h1'.symm);subst this;exact⟨rfl,rfl,rfl⟩
theorem QV.kf{q:Value}{Q:List R5}(v:QV h q Q)(k:KF h h'):QV h' q Q:=
 Sl.vK v.1 v.2 k.r.nx λc vs op hc hg=>k.ty c vs _ op hc hg X0 X0 X0 X0
theorem RY{Q:List R5}{W:Int}{p:R5}{m:Int}(hs:¬0<p.s)(h:0<(jg Q W p m).1.s):(jg Q W p m).2.2=false:=by
 unfold jg at h ⊢;split at h
 .exact absurd h hs
 .rename_i hc;rw[if_neg hc]
theorem RZ{Q:List R5}{W:Int}{p:R5}{m:Int}:(jg Q W p m).1.id=p.id/\(jg Q W p m).1.x=p.x:=by
 unfold jg;split<;>exact⟨rfl,rfl⟩
theorem Nx{h2:ah}(g:WG h2 A a N B d' R Z){i:Nat}{c c0:CR}(hi:R.cs[i]? = some (some c))(k0:KR h h2)(hc:∃v' L' o',c={ c0 with wv:=v',wl:=L',wb:=o' })(hw:c0.wt=false)(hout:c0.out=0)(ko:fm Z)(hlen:Z.length<=999)(uL:0<=R.now/\R.now<=1000000)(DH:0<=c.a.w/\c.a.w<=9223372036854775807)(l:List Value){gr:Bool}{e Mg:Int}(e1:aa l 39=.bool gr)(e2:aa l 40=X1 e)(e3:aa l 25=X1 Mg)(sub:∀id t r x,WT d'.Ts id t r x->WT d.Ts id t r x\/(e=0/\gr=false/\id=Mg/\t=c.a.t/\r=c.a.r/\x=c.a.x))(Y:KQ)(hk:∀h' c' Z' rI rF iN,(c'.out≠0\/c'.wt=true)->fL c0 c' d d' Z Z'->WG h' A a N B d' { R with cs:=R.cs.set i (some c'),tv:=rI,wm:=rF,nT:=iN } Z'->KR h h'->Y (.tuple ⟨[]⟩) h'):yW l (X3 c.ca) h2 Y:=by
 obtain⟨v',L',o',rfl⟩:=hc;obtain⟨gc,c1,c2⟩:=bS g.s hi;have gc':=gc;unfold bJ at gc';have plain:∀out:Int,out≠0->(¬(e=0/\gr=false))->DJ False (h2.bl.get c0.ca) 1 c0.ca 16 [X1 out] h2 λh=>Y (.tuple ⟨[]⟩) h:=λout ho hne=>by
  refine WG.afc g hi out _ ?_;intro h3 g3 k3;refine hk h3 _ Z R.tv R.wm R.nT (.inl ho) (fL.plain ko hw v' L' o' out λid t r x w=>?_) g3 (k0.trans k3);rcases sub id t r x w with s|s
  .exact s
  .exact absurd ⟨s.1,s.2.1⟩ hne
 simp(disch:=try exact QQ)only[Wz,yW,e2];by_cases h8:e=8
 .simp(disch:=try exact QQ)only[Wz,bq h8,aL];exact plain 5 X0 (by rintro⟨h0,_⟩;omega)
 .simp(disch:=try exact QQ)only[Wz,a_ h8,FG,e2];by_cases h0:e=0
  .simp(disch:=try exact QQ)only[Wz,h0,Bool.not_true,Bool.not_false,FF,e1,e3];cases gr with
   |true=>
    simp(disch:=try exact QQ)only[Wz,aL];exact plain 1 X0 (by rintro⟨_,h⟩;cases h)
   |false=>
    simp(disch:=try exact QQ)only[Wz];refine UR g hi ko XV uL DH Mg _ ?_;intro h3 rI rF iN Z' g3 ko3 hz k3;refine hk h3 { c0 with wt:=true,id:=Mg,wv:=v',wl:=L',wb:=o' } Z' rI rF iN (.inr rfl) ⟨⟨rfl,rfl,rfl,rfl,rfl,rfl⟩,λe=>(by rw[hw]at e;cases e),λid t r x w=>?_,λe=>(by rw[hw]at e;cases e),λt ht=>?_,λe=>(by rw[hw]at e;cases e),ko3,?_⟩ g3 (k0.trans k3)
    .rcases sub id t r x w with s|s
     .exact .inl s
     .exact .inr ⟨rfl,hout,s.2.2.1.symm,s.2.2.2.1.symm,s.2.2.2.2.1.symm,s.2.2.2.2.2.symm⟩
    .rcases hz with rfl|⟨at',hz⟩
     .exact .inl ht
     .rcases List.mem_append.1 (hz.mem_iff.1 ht)with h1|h1
      .exact .inl h1
      .rw[List.mem_singleton]at h1;subst h1;exact .inr ⟨rfl,hout,rfl,rfl⟩
    .rcases hz with rfl|⟨at',hz⟩
     .omega
     .rw[hz.length_eq];simp
  .simp(disch:=try exact QQ)only[Wz,a_ h0,Bool.not_true,Bool.not_false,aL];exact plain 6 X0 (by rintro⟨h,_⟩;exact h0 h)
end
theorem oP(b:Bool):je 8 (.bool b) (.bool b)=true:=by cases b<;>rfl
section
variable {h h':ah}{A:WA}{a:TA}{N N' B B':Nat}{d d':TD}{R R':RD}{Z Z':List TM}
theorem Ny{h2:ah}{c0:CR}{i:Nat}(gd:WG h A a N B d R Z){N2 B2:Nat}{v':Value}{L':List Int}{o':Option Nat}(hi:R.cs[i]? = some (some c0))(g:WG h2 A a N2 B2 d' { R with cs:=R.cs.set i (some { c0 with wv:=v',wl:=L',wb:=o' }) } Z)(hN:N2<=90000)(k0:KR h h2)(hw:c0.wt=false)(hout:c0.out=0)(ko:fm Z)(hlen:Z.length<=999)(uL:0<=R.now/\R.now<=1000000)(DH:0<=c0.a.w/\c0.a.w<=9223372036854775807)(jo:List Value){m id want:Int}(hl:aa jo 19=X1 m)(rq:m≠0->RT d.Ts id c0.a.t c0.a.r c0.a.x)(sub:∀id t r x,WT d'.Ts id t r x->WT d.Ts id t r x)(R6:∀id t r x,RT d'.Ts id t r x->RT d.Ts id t r x)(Y:KQ)(hk:∀h' d' c' Z' rI rF iN,(c'.out≠0\/c'.wt=true)->fL c0 c' d d' Z Z'->WG h' A a (N2+1) B2 d' { R with cs:=R.cs.set i (some c'),tv:=rI,wm:=rF,nT:=iN } Z'->KR h h'->Y (.tuple ⟨[]⟩) h'):yX (X3 c0.ca) jo (X1 want) (X1 id) h2 Y:=by
 have hi2:=Ae (c':={ c0 with wv:=v',wl:=L',wb:=o' }) hi;obtain⟨gc,c1,c2⟩:=bS g.s hi2;have gc':=gc;unfold bJ at gc';have gw:=g.s.r.gw;have hlo:=g.s.lo;unfold yX;simp(disch:=try exact QQ)only[Wz,hl,aL,gc'];refine Qq _ _ ?_;cases apM:qP m c0.a.m with
 |true=>
  have g5:=g.iE hi2 { c0 with out:=1,wv:=v',wl:=L',wb:=o' } rfl rfl rfl rfl;simp only[List.set_set]at g5;have hk:=hk _ d' { c0 with out:=1,wv:=v',wl:=L',wb:=o' } Z R.tv R.wm R.nT (.inl (by show(1:Int)≠0;decide)) (fL.plain ko hw v' L' o' 1 sub) (g5.up (Nat.le_succ _) (Nat.le_refl _)) (k0.trans (KR.put gc _));unfold bJ at hk;simp(disch:=try exact QQ)only[Wz,aL,gc'];exact hk
 |false=>
  simp(disch:=try exact QQ)only[Wz];refine⟨λl' h3=>∃(d3:TD)(Mg:Int)(gr:Bool)(e:Int),aa l' 39=.bool gr/\aa l' 40=X1 e/\aa l' 25=X1 Mg/\WG h3 A a (N2+1) B2 d3 { R with cs:=R.cs.set i (some { c0 with wv:=v',wl:=L',wb:=o' }) } Z/\(∀id t r x,WT d3.Ts id t r x->WT d.Ts id t r x\/(e=0/\gr=false/\id=Mg/\t=c0.a.t/\r=c0.a.r/\x=c0.a.x))/\KR h h3,?_,?_⟩
  .by_cases hm:m=0
   ·simp(disch:=try exact QQ)only[Wz,hl,bq hm,FD,aL,gc',gw];have bad:∀(h3:ah)(e:Int),e≠0->Le h2 h3->∃(d3:TD)(Mg:Int)(gr:Bool)(e':Int),Value.bool false=.bool gr/\X1 e=X1 e'/\X1 0=X1 Mg/\WG h3 A a (N2+1) B2 d3 { R with cs:=R.cs.set i (some { c0 with wv:=v',wl:=L',wb:=o' }) } Z/\(∀id t r x,WT d3.Ts id t r x->WT d.Ts id t r x\/(e'=0/\gr=false/\id=Mg/\t=c0.a.t/\r=c0.a.r/\x=c0.a.x))/\KR h h3:=λh3 e he l=>
     ⟨d',0,false,e,rfl,rfl,rfl,(g.le l).up (Nat.le_succ _) (Nat.le_refl _),λid t r x w=>.inl (sub id t r x w),k0.trans (KR.of_le l)⟩
    refine Ux g.s.t hlo hN c0.a.t c0.a.r c0.a.x want _ ?_ ?_ ?_ ?_ ?_
    .intro h3 _ l;simp(disch:=try exact QQ)only[Wz,oP];exact bad h3 2 X0 l
    .intro k b h3 _ _ _ l;simp(disch:=try exact QQ)only[Wz,oP];exact bad h3 2 X0 l
    .intro k b h3 e p _ _ _ _ _ _ _ _ l;simp(disch:=try exact QQ)only[Wz,oP];exact bad h3 4 X0 l
    .intro k b h3 _ _ _ _ _ l;simp(disch:=try exact QQ)only[Wz,oP];exact bad h3 8 X0 l
    .intro k b M' clock' F' W' Dp h0 h1 h3 n gr hkb _ _ _ _ ha t3 f3;simp(disch:=try exact QQ)only[Wz,oP];have g3:=g.table (d':=⟨d'.Ts.set k ⟨b.bb,b.bm,M',clock'⟩,W',Dp,F',d'.B.set n true⟩) t3 f3 (vM hkb _ _);refine⟨_,(n:Int),gr,0,rfl,rfl,rfl,g3,λid t r x w=>?_,k0.trans (g.kfr f3).r⟩;rcases WT.set hkb w with h1|⟨b1,j',_,hj',h1⟩
     .rcases lp.waits ha h1 with h1|⟨q1,q2,q3,q4,q5⟩
      .exact .inl (sub _ _ _ _ (WT.of hkb h1))
      .exact .inr ⟨rfl,q1,q5,q2,q3,q4⟩
     .exact .inl (sub _ _ _ _ ⟨b1,List.mem_of_getElem? hj',h1⟩)
   ·simp(disch:=try exact QQ)only[Wz,hl,a_ hm,FE,aL,gc',gw];have bad:∀(h3:ah)(e:Int),e≠0->Le h2 h3->∃(d3:TD)(Mg:Int)(gr:Bool)(e':Int),Value.bool false=.bool gr/\X1 e=X1 e'/\X1 id=X1 Mg/\WG h3 A a (N2+1) B2 d3 { R with cs:=R.cs.set i (some { c0 with wv:=v',wl:=L',wb:=o' }) } Z/\(∀id t r x,WT d3.Ts id t r x->WT d.Ts id t r x\/(e'=0/\gr=false/\id=Mg/\t=c0.a.t/\r=c0.a.r/\x=c0.a.x))/\KR h h3:=λh3 e he l=>
     ⟨d',id,false,e,rfl,rfl,rfl,(g.le l).up (Nat.le_succ _) (Nat.le_refl _),λid t r x w=>.inl (sub id t r x w),k0.trans (KR.of_le l)⟩
    refine HK g.s.t hlo hN id want _ ?_ ?_ ?_ ?_
    .intro h3 _ l;simp(disch:=try exact QQ)only[Wz];exact bad h3 2 X0 l
    .intro _ _;simp(disch:=try exact QQ)only[Wz];exact bad h2 5 X0 (Le.refl _)
    .intro k b h3 e p _ _ _ _ _ l;simp(disch:=try exact QQ)only[Wz];exact bad h3 7 X0 l
    .intro k b h3 M' clock' e p j _ hkb he hj Md hs mv t3;simp(disch:=try exact QQ)only[Wz];have g3:=g.table (d':=⟨d'.Ts.set k ⟨b.bb,b.bm,M',clock'⟩,d'.W,d'.wc,d'.F,d'.B⟩) t3 (tE.zO (List.mem_of_getElem? hkb) mv.fr) (vM hkb _ _);refine⟨_,id,_,0,rfl,rfl,rfl,g3,λid' t r x w=>?_,k0.trans (g.kfr (tE.zO (List.mem_of_getElem? hkb) mv.fr)).r⟩;rcases WT.set hkb w with h1|⟨b1,j',_,hj',h1⟩
     .rcases eE.wS he mv h1 with h1|⟨q1,q2,q3,q4,q5⟩
      .exact .inl (sub _ _ _ _ (WT.of hkb h1))
      .obtain⟨p1,p2⟩:=dQ Md;rw[RZ.1]at q3;rw[RZ.2]at q4;have w2:=R6 _ _ _ _ (show RT d'.Ts id e.t e.r p.x from⟨b,List.mem_of_getElem? hkb,e,he,rfl,rfl,p,p1,p2,rfl⟩);obtain⟨u1,u2,u3⟩:=RT.uniq gd (rq hm) w2;exact .inr ⟨rfl,RY hs q5,XV,XV,XV,XV⟩
     .exact .inl (sub _ _ _ _ ⟨b1,List.mem_of_getElem? hj',h1⟩)
  .rintro l' h3 ⟨d3,Mg,gr,e,e1,e2,e3,g3,s3,k3⟩;refine Nx g3 hi2 k3 ⟨v',L',o',rfl⟩ hw hout ko hlen uL DH l' e1 e2 e3 s3 Y ?_;intro h4 c' Z' rI rF iN hg4 lk g4 k4;simp only[List.set_set]at g4;exact hk h4 d3 c' Z' rI rF iN hg4 lk g4 k4
end
section
variable {h h':ah}{A:WA}{a:TA}{N N' B B':Nat}{d d':TD}{R R':RD}{Z Z':List TM}
theorem UW(g:WG h A a N B d R Z){i:Nat}{c:CR}(hi:R.cs[i]? = some (some c))(hw:c.wt=false)(hout:c.out=0)(hN:N<=80000)(hB:B<=800000000)(ko:fm Z)(hlen:Z.length<=999)(uL:0<=R.now/\R.now<=1000000)(DH:0<=c.a.w/\c.a.w<=9223372036854775807)(Y:KQ)(hk:∀h' d' c' Z' rI rF iN,(c'.out≠0\/c'.wt=true)->fL c c' d d' Z Z'->WG h' A a (N+129) (B+25600) d' { R with cs:=R.cs.set i (some c'),tv:=rI,wm:=rF,nT:=iN } Z'->KR h h'->Y (.tuple ⟨[]⟩) h'):aj prog 212 [X3 c.ca] h Y:=by
 obtain⟨gc,c1,c2⟩:=bS g.s hi;have gc':=gc;unfold bJ at gc';have gw:=g.s.r.gw;apply X2;rw[YM];simp(disch:=try exact QQ)only[Wz,aL,gc',gw];refine Ac g.s.t g.s.lo c.a.t c.a.r c.a.x _ ?_;intro h1 id b f1 bF;have g1:=g.le bF;have n1:=bF.nx;have l1:=bF.lo;have apN:=g1.s.lo;obtain⟨w9,_,_⟩:=bS g1.s hi;have pQ:=w9;unfold bJ at pQ;have Rn:=g1.s.r.gw;have rq:b=true->RT d.Ts id c.a.t c.a.r c.a.x:=λhb=>by
  rcases f1 with⟨_,k,q,e,p,hq,he,h1,h2,hp,hx,hid⟩|e
  .exact⟨q,List.mem_of_getElem? hq,e,he,h1.symm,h2.symm,p,hp,hid,hx⟩
  .rw[hb]at e;cases e
 simp(disch:=try exact QQ)only[Wz,oP];refine⟨λl' h'=>∃m:Int,aa l' 19=X1 m/\(m≠0->b=true)/\Le h h',?_,?_⟩
 .cases b with
  |false=>
   simp(disch:=try exact QQ)only[Wz];exact⟨0,rfl,λe=>absurd rfl e,bF⟩
  |true=>
   simp(disch:=try exact QQ)only[Wz,FA,aL,pQ,Rn];refine Rz g1.s.t g1.s.lo id _ ?_ ?_
   .intro h2 _ bK;have n2:=bK.nx;have l2:=bK.lo;simp(disch:=try exact QQ)only[Wz,iF,j0,bA];exact⟨0,rfl,λ_=>trivial,((((bF.trans bK).new _).new _).set XV _).set XV _⟩
   .intro h2 b e p _ _ _ bK;have n2:=bK.nx;have l2:=bK.lo;simp(disch:=try exact QQ)only[Wz,iF,j0,bA];exact⟨p.m,rfl,λ_=>trivial,((((bF.trans bK).new _).new _).set XV _).set XV _⟩
 .rintro jo h2 ⟨m,hl,hm,bK⟩;have g2:=g.le bK;obtain⟨DL,c21,c22⟩:=bS g2.s hi;have sF:=DL;unfold bJ at sF;have JV:=g2.s.r.gw;have CA:=g2.s.lo;simp(disch:=try exact QQ)only[Wz,FH,hl,aL,sF];refine Wn _ _ ?_;simp(disch:=try exact QQ)only[Wz,aL,sF,JV];refine HY g2.s c.a.t c.a.r (Pq:=λQ=>Q.length<=128) (by simp) (g2.qs _ _) _ ?_;intro v Q h3 hQ hv d_;have g3:=g2.le d_;obtain⟨vx,vc,ev,_⟩:=(show Sl bA h3 v Q from hv.1)
  have afd:∀(β:Type)(fl:β)(h':ah)(Y:XW β),bh fl v h' Y=Y (X1 (Q.length:Int)) h':=λβ fl h' Y=>by rw[ev];exact bX _ _ _ _ _
  simp(disch:=try exact QQ)only[Wz,afd];refine⟨λn l h4=>∃j:Nat,aa l 29=X1 (j:Int)/\n=Q.length-j/\j<=Q.length/\∃d4 v' L' o',WG h4 A a (N+j) (B+200*j) d4 { R with cs:=R.cs.set i (some { c with wv:=v',wl:=L',wb:=o' }) } Z/\(∀id t r x,WT d4.Ts id t r x->WT d.Ts id t r x)/\(∀id t r x,RT d4.Ts id t r x->RT d.Ts id t r x)/\KF h3 h4,
   ⟨_,0,rfl,rfl,XV,d,c.wv,c.wl,c.wb,?_,λ_ _ _ _ w=>w,λ_ _ _ _ w=>w,KF.refl _⟩,?_⟩
  .rw[show({ R with cs:=R.cs.set i (some { c with wv:=c.wv,wl:=c.wl,wb:=c.wb }) }:RD)=R from RD.same hi];exact g3
  rintro n l h4 ⟨j,s1,rfl,hj,d4,v',L',o',g4,sub,R6,k4⟩;have hi4:=Ae (c':={ c with wv:=v',wl:=L',wb:=o' }) hi;obtain⟨Oh,c41,c42⟩:=bS g4.s hi4;have Ad:=Oh;unfold bJ at Ad;have c41:c.ca<h4.nx:=c41;have c42:h4.lo<=c.ca:=c42;have apO:=g4.s.lo;by_cases hlt:j<Q.length
  .obtain⟨p,hp⟩:∃p,Q[j]? = some p:=⟨_,List.getElem?_eq_getElem hlt⟩
   obtain⟨b4,o4,hb4,B0,BS,_⟩:=Jn (hv.kf k4).1 j hp;simp(disch:=try exact QQ)only[Wz,yY,s1,dw (show(j:Int)<(Q.length:Int)by omega)];refine⟨λl' h'=>∃d5 v' L' o',WG h' A a (N+(j+1)) (B+200*(j+1)) d5 { R with cs:=R.cs.set i (some { c with wv:=v',wl:=L',wb:=o' }) } Z/\(∀id t r x,WT d5.Ts id t r x->WT d.Ts id t r x)/\(∀id t r x,RT d5.Ts id t r x->RT d.Ts id t r x)/\KF h3 h',?_,?_⟩
   .simp(disch:=try exact QQ)only[Wz,FC,s1,B0,BS,bA];have lI:Le h4 ⟨h4.nx+1,h4.bl.bx h4.nx (ai [X1 p.id,X1 p.x,X1 p.m,X1 p.w,X1 p.s] 57 false),h4.lo⟩:=(Le.refl h4).new _;have same:=(⟨d4,v',L',o',(g4.le lI).up XV XV,sub,R6,k4.trans (KF.of_le lI)⟩:∃d5 v' L' o',WG _ A a (N+(j+1)) (B+200*(j+1)) d5 { R with cs:=R.cs.set i (some { c with wv:=v',wl:=L',wb:=o' }) } Z/\(∀id t r x,WT d5.Ts id t r x->WT d.Ts id t r x)/\(∀id t r x,RT d5.Ts id t r x->RT d.Ts id t r x)/\KF h3 _)
    by_cases hneg:p.x<0
    .simp(disch:=try exact QQ)only[Wz,bq hneg,aL,Ad];by_cases hx:p.x=c.a.x
     .simp(disch:=try exact QQ)only[Wz,bq hx,Bool.not_true];exact same
     .simp(disch:=try exact QQ)only[Wz,a_ hx,Bool.not_false];refine zl _ _ ?_;cases cmp p.m (jC m c.a.m)with
      |true=>
       simp(disch:=try exact QQ)only[Wz,Bool.not_true];exact same
      |false=>
       simp(disch:=try exact QQ)only[Wz,Bool.not_false];refine Ab (g4.le lI) hi4 XV p.id _ ?_;intro h6 d6 v6 L6 o6 g6 aj8 afe k6;simp only[List.set_set]at g6;exact⟨d6,v6,L6,o6,g6,λid t r x w=>sub _ _ _ _ (aj8 _ _ _ _ w),λid t r x w=>R6 _ _ _ _ (afe _ _ _ _ w),(k4.trans (KF.of_le lI)).trans k6⟩
    .simp(disch:=try exact QQ)only[Wz,a_ hneg];exact same
   .rintro l' h5 ⟨d5,v5,L5,o5,g5,aj9,aff,k5⟩;exact⟨_,XV,j+1,rfl,rfl,XV,d5,v5,L5,o5,g5,aj9,aff,k5⟩
  .simp(disch:=try exact QQ)only[Wz,yY,s1,b_ (show(Q.length:Int)<=(j:Int)by omega)];refine Ny g hi g4 XV ((KR.of_le (bK.trans d_)).trans k4.r) hw hout ko hlen uL DH jo hl (λh0=>rq (hm h0)) sub R6 Y ?_;intro h6 d6 c6 Z6 rI rF iN ho lk g6 k6;exact hk h6 d6 c6 Z6 rI rF iN ho lk (g6.up XV XV) k6
end
def H7(k:Int)(f:FuncId)(n:Nat):MapEntry:={ key:=X1 k,val:=.func (.func f) ⟨[]⟩ ⟨[]⟩,born:=n }
noncomputable def R7:bT:=.map [H7 1 212 0,H7 2 213 1,H7 3 214 2] 3
theorem findF(h:ah)(k k':Int)(f:FuncId)(n:Nat)(es:List MapEntry)(i:Nat):fN prog h 3 (X1 k) (H7 k' f n::es) i=if k=k' then some (some (i,H7 k' f n))else fN prog h 3 (X1 k) es (Nat.succ i):=by
 have hf:fN prog h 3 (.int .i64 k) (H7 k' f n::es) i=(match(some (decide (k=k')):Option Bool)with|some true=>some (some (i,H7 k' f n))|some false=>fN prog h 3 (.int .i64 k) es (Nat.succ i)|none=>none):=by
  rw[<-eqI h];rfl
 rw[hf];by_cases e:k=k'
 .rw[bq e,if_pos e]
 .rw[a_ e,if_neg e]
theorem JY{es:List MapEntry}{clock:Nat}{h:ah}{b:Nat}(g:h.bl.get b=some (.map es clock))(hlo:h.lo<=b)(k:Int)(f:FuncId)(hf:∀h:ah,fN prog h 3 (X1 k) es 0=some none)(Y:KQ)(hk:Y undef ⟨h.nx,h.bl.bx b (.map (es++[H7 k f clock]) (clock+1)),h.lo⟩):bY False prog 3 (.map (some b)) (X1 k) (.func (.func f) ⟨[]⟩ ⟨[]⟩) h Y:=by
 unfold bY;rw[JJ];simp only[g,hf];rw[lW];simp only[bR];rw[bI _ _ _ _ hlo];exact hk
theorem aa6(h:ah)(Y:KQ)(hlo:h.lo<=h.nx)(hk:∀b h',Le h h'->h'.bl.get b=some R7->Y (.map (some b)) h'):aj prog 158 [] h Y:=by
 apply X2;rw[Yt];simp(disch:=try exact QQ)only[Wz,eY];refine JY (es:=[]) (T.an _ _ _) (by exact hlo) 1 212 (λh=>rfl) _ ?_;refine JY (T.an _ _ _) (by exact hlo) 2 213 (λh=>by rw[List.nil_append,findF,if_neg X0];rfl) _ ?_;refine JY (T.an _ _ _) (by exact hlo) 3 214 (λh=>by rw[List.nil_append,List.singleton_append,findF,if_neg X0,findF,if_neg X0];rfl) _ ?_;exact hk h.nx _ ((((Le.refl h).new _).set (Nat.le_refl _) _).set (Nat.le_refl _) _ |>.set (Nat.le_refl _) _) (T.an _ _ _)
theorem JZ{β:Type}{fl:β}{h:ah}{b:Nat}(g:h.bl.get b=some R7)(k:Int)(f:FuncId)(hk:(k=1/\f=212)\/(k=2/\f=213)\/(k=3/\f=214))(Y:XW β):ct fl prog 3 Value.nilFunc false (.map (some b)) (X1 k) h Y=Y (.func (.func f) ⟨[]⟩ ⟨[]⟩) h:=by
 unfold ct jF;rw[JJ];simp only[g,R7];rcases hk with⟨rfl,rfl⟩|⟨rfl,rfl⟩|⟨rfl,rfl⟩
 .rw[findF,if_pos rfl];rfl
 .rw[findF,if_neg X0,findF,if_pos rfl];rfl
 .rw[findF,if_neg X0,findF,if_neg X0,findF,if_pos rfl];rfl
section
variable {h h':ah}{A:WA}{a:TA}{N N' B B':Nat}{d d':TD}{R R':RD}{Z Z':List TM}
theorem fL.ph{c c':CR}(l:fL c c' d d' Z Z')(p:Nat):fL c { c' with ph:=p } d d' Z Z':=⟨l.eq,l.idk,l.wt,l.own,l.tm,l.tn,l.ko,l.len⟩
theorem UX(g:WG h A a N B d R Z){i:Nat}{c:CR}(hi:R.cs[i]? = some (some c))(hout:c.out=0)(hkd:c.a.k=1\/c.a.k=2\/c.a.k=3)(hN:N<=80000)(hB:B<=800000000)(ko:fm Z)(hlen:Z.length<=999)(uL:0<=R.now/\R.now<=1000000)(DH:0<=c.a.w/\c.a.w<=9223372036854775807\/c.a.k≠1)(Y:KQ)(hk:∀h' d' c' Z' rI rF iN,(c'.out≠0\/c'.wt=true)->c'.ph=3->fL c c' d d' Z Z'->WG h' A a (N+129) (B+25600) d' { R with cs:=R.cs.set i (some c'),tv:=rI,wm:=rF,nT:=iN } Z'->KR h h'->Y (.tuple ⟨[]⟩) h'):aj prog 106 [X3 c.ca] h Y:=by
 obtain⟨gc,c1,c2⟩:=bS g.s hi;have gc':=gc;unfold bJ at gc';have hlo:=g.s.lo;apply X2;rw[X_];refine⟨λl' h'=>∃d' c' Z' rI rF iN,(c'.out≠0\/c'.wt=true)/\fL c c' d d' Z Z'/\WG h' A a (N+129) (B+25600) d' { R with cs:=R.cs.set i (some c'),tv:=rI,wm:=rF,nT:=iN } Z'/\KR h h',?_,?_⟩
 .simp(disch:=try exact QQ)only[Wz,E9,aL,gc'];cases AP:c.wt with
  |true=>
   simp(disch:=try exact QQ)only[Wz];refine RX g hi XV ko XV _ ?_ ?_
   .intro h1 g1 k1;refine⟨d,c,Z,R.tv,R.wm,R.nT,.inr AP,⟨⟨rfl,rfl,rfl,rfl,rfl,rfl⟩,λe=>⟨e,rfl⟩,λ_ _ _ _ w=>.inl w,λ_ e=>absurd hout e,λt ht=>.inl ht,λ_ e=>absurd hout e,ko,Nat.le_succ _⟩,?_,k1⟩;rw[show({ R with cs:=R.cs.set i (some c),tv:=R.tv,wm:=R.wm,nT:=R.nT }:RD)=R from RD.same hi];exact g1.up XV XV
   .intro h1 d1 Z1 rI v' L' o' out ag g1 k1;exact⟨d1,{ c with out:=out,wv:=v',wl:=L',wb:=o' },Z1,rI,R.wm,R.nT,.inl ag.out,⟨⟨rfl,rfl,rfl,rfl,rfl,rfl⟩,λ_=>⟨AP,rfl⟩,λid t r x w=>.inl (ag.wt id t r x w),λ_ _=>ag.no,λt ht=>.inl (ag.tm t ht).1,λ_ _ t ht=>(ag.tm t ht).2,ag.ko,Nat.le_succ_of_le ag.len⟩,g1.up XV XV,k1⟩
  |false=>
   simp(disch:=try exact QQ)only[Wz,E8,aL,gc'];refine aa6 h _ hlo ?_;intro b0 h1 bF g0;have g1:=g.le bF;have w9:=(bF.get _ c1).trans gc';rcases hkd with ha|ha|ha
   .simp(disch:=try exact QQ)only[Wz,JZ g0 _ _ (.inl ⟨ha,rfl⟩),aL,w9,List.nil_append,List.append_nil];refine UW g1 hi AP hout hN hB ko hlen uL XV _ ?_;intro h2 d2 c' Z2 rI rF iN ho lk g2 k2;exact⟨d2,c',Z2,rI,rF,iN,ho,lk,g2,(KR.of_le bF).trans k2⟩
   .simp(disch:=try exact QQ)only[Wz,JZ g0 _ _ (.inr (.inl ⟨ha,rfl⟩)),aL,w9,List.nil_append,List.append_nil];refine UT g1 hi AP XV ko _ ?_;intro h2 d2 c' ho lk g2 k2;exact⟨d2,c',Z,R.tv,R.wm,R.nT,.inl ho,lk,g2.up XV XV,(KR.of_le bF).trans k2⟩
   .simp(disch:=try exact QQ)only[Wz,JZ g0 _ _ (.inr (.inr ⟨ha,rfl⟩)),aL,w9,List.nil_append,List.append_nil];refine UU g1 hi AP XV ko _ ?_;intro h2 d2 c' ho lk g2 k2;exact⟨d2,c',Z,R.tv,R.wm,R.nT,.inl ho,lk,g2.up XV XV,(KR.of_le bF).trans k2⟩
 .rintro l' h2 ⟨d2,c',Z2,rI,rF,iN,ho,lk,g2,k2⟩;have hi2:=Ae (c':=c') hi;have ec:c.ca=c'.ca:=lk.eq.1.symm;rw[ec];refine g2.phase hi2 3 _ rfl _ ?_;intro h3 g3 k3;simp only[List.set_set]at g3;exact hk h3 d2 { c' with ph:=3 } Z2 rI rF iN ho rfl (lk.ph 3) g3 (k2.trans k3)
end
structure tG(L i:Nat)(c:CR):Prop where
 th:c.th=(i:Int)
 st:∃k:Nat,c.st=(k:Int)/\k<L
 kd:c.a.k=1\/c.a.k=2\/c.a.k=3
 w:0<=c.a.w/\c.a.w<=9223372036854775807\/c.a.k≠1
 ph:1<=c.ph/\c.ph<=5
 wl:c.ph=4->c.wl≠[]
 out:c.ph<=2\/c.ph=5->c.out=0
structure Inv(L:Nat)(Ts:List TB)(cs:List (Option CR))(Z:List TM):Prop where
 c:∀(i:Nat) c,cs[i]? = some (some c)->tG L i c
 wt:∀id t r x,WT Ts id t r x->∃(i:Nat)(c:CR),cs[i]? = some (some c)/\c.wt=true/\c.out=0/\c.id=id/\c.a.t=t/\c.a.r=r/\c.a.x=x
 tm:∀t∈Z,∃(i:Nat)(c:CR),cs[i]? = some (some c)/\c.wt=true/\c.out=0/\t.who=c.th/\t.mark=c.no
 ko:fm Z
section
variable {L:Nat}{Ts Ts':List TB}{cs:List (Option CR)}{Z Z':List TM}{i:Nat}{c c':CR}
theorem jq(hi:cs[i]? = some (some c))(o:Option CR):(cs.set i o)[i]? = some o:=by rw[List.getElem?_set,if_pos rfl,if_pos (List.getElem?_eq_some_iff.1 hi).1]
theorem qe{j:Nat}(hne:j≠i)(o:Option CR):(cs.set i o)[j]? = cs[j]?:=by rw[List.getElem?_set,if_neg (λe=>hne e.symm)]
theorem Inv.set(I:Inv L Ts cs Z)(hi:cs[i]? = some (some c))(ok:tG L i c')(ea:c'.a=c.a)(Nz:c'.th=c.th)(UY:c'.no=c.no)(Jt:c'.id=c.id)(G2:c'.wt=c.wt)(H8:c'.out=c.out):Inv L Ts (cs.set i (some c')) Z:=by
 refine⟨λj x hj=>?_,λid t r x w=>?_,λt ht=>?_,I.ko⟩
 .by_cases e:j=i
  .subst e;rw[jq hi]at hj;cases hj;exact ok
  .rw[qe e]at hj;exact I.c j x hj
 .obtain⟨j,y,hj,q1,q2,q3,q4,q5,q6⟩:=I.wt id t r x w;by_cases e:j=i
  .subst e;rw[hi]at hj;cases hj;exact⟨j,c',jq hi _,G2.trans q1,H8.trans q2,Jt.trans q3,by rw[ea];exact q4,by rw[ea];exact q5,by rw[ea];exact q6⟩
  .exact⟨j,y,(qe e _).trans hj,q1,q2,q3,q4,q5,q6⟩
 .obtain⟨j,y,hj,q1,q2,q3,q4⟩:=I.tm t ht;by_cases e:j=i
  .subst e;rw[hi]at hj;cases hj;exact⟨j,c',jq hi _,G2.trans q1,H8.trans q2,q3.trans Nz.symm,q4.trans UY.symm⟩
  .exact⟨j,y,(qe e _).trans hj,q1,q2,q3,q4⟩
theorem Inv.del(I:Inv L Ts cs Z)(hi:cs[i]? = some (some c))(ho:c.out≠0):Inv L Ts (cs.set i none) Z:=by
 refine⟨λj x hj=>?_,λid t r x w=>?_,λt ht=>?_,I.ko⟩
 .by_cases e:j=i
  .subst e;rw[jq hi]at hj;cases hj
  .rw[qe e]at hj;exact I.c j x hj
 .obtain⟨j,y,hj,q1,q2,q3⟩:=I.wt id t r x w;by_cases e:j=i
  .subst e;rw[hi]at hj;cases hj;exact absurd q2 ho
  .exact⟨j,y,(qe e _).trans hj,q1,q2,q3⟩
 .obtain⟨j,y,hj,q1,q2,q3⟩:=I.tm t ht;by_cases e:j=i
  .subst e;rw[hi]at hj;cases hj;exact absurd q2 ho
  .exact⟨j,y,(qe e _).trans hj,q1,q2,q3⟩
theorem Inv.looked{d d':TD}(I:Inv L d.Ts cs Z)(hi:cs[i]? = some (some c))(lk:fL c c' d d' Z Z')(ok:tG L i c'):Inv L d'.Ts (cs.set i (some c')) Z':=by
 obtain⟨_,ea,Nz,UY,_,_⟩:=lk.eq;refine⟨λj x hj=>?_,λid t r x w=>?_,λt ht=>?_,lk.ko⟩
 .by_cases e:j=i
  .subst e;rw[jq hi]at hj;cases hj;exact ok
  .rw[qe e]at hj;exact I.c j x hj
 .rcases lk.wt id t r x w with w0|⟨k1,k2,k3,k4,k5,k6⟩
  .obtain⟨j,y,hj,q1,q2,q3,q4,q5,q6⟩:=I.wt id t r x w0;by_cases e:j=i
   .subst e;rw[hi]at hj;cases hj;obtain⟨e1,e2⟩:=lk.idk q1;by_cases ho:c'.out=0
    .exact⟨j,c',jq hi _,e1,ho,e2.trans q3,by rw[ea];exact q4,by rw[ea];exact q5,by rw[ea];exact q6⟩
    .subst q3;subst q4;subst q5;subst q6;exact absurd w (lk.own q1 ho)
   .exact⟨j,y,(qe e _).trans hj,q1,q2,q3,q4,q5,q6⟩
  .exact⟨i,c',jq hi _,k1,k2,k3,by rw[ea];exact k4,by rw[ea];exact k5,by rw[ea];exact k6⟩
 .rcases lk.tm t ht with t0|⟨k1,k2,k3,k4⟩
  .obtain⟨j,y,hj,q1,q2,q3,q4⟩:=I.tm t t0;by_cases e:j=i
   .subst e;rw[hi]at hj;cases hj;obtain⟨e1,e2⟩:=lk.idk q1;by_cases ho:c'.out=0
    .exact⟨j,c',jq hi _,e1,ho,q3.trans Nz.symm,q4.trans UY.symm⟩
    .exact absurd ⟨q3,q4⟩ (lk.tn q1 ho t ht)
   .exact⟨j,y,(qe e _).trans hj,q1,q2,q3,q4⟩
  .exact⟨i,c',jq hi _,k1,k2,k3.trans Nz.symm,k4.trans UY.symm⟩
theorem tG.of(o:tG L i c)(ea:c'.a=c.a)(Nz:c'.th=c.th)(est:c'.st=c.st)(hp:1<=c'.ph/\c'.ph<=5)(hw:c'.ph=4->c'.wl≠[])(ho:c'.ph<=2\/c'.ph=5->c'.out=0):tG L i c':=
 ⟨Nz.trans o.th,by rw[est];exact o.st,by rw[ea];exact o.kd,by rw[ea];exact o.w,hp,hw,ho⟩
theorem Inv.behind{Rm R':RD}{h:ah}{wb:Nat}(I:Inv L Ts cs Z)(hi:cs[i]? = some (some c))(hm:Rm.cs=cs.set i (some c'))(ea:c'.a=c.a)(Nz:c'.th=c.th)(est:c'.st=c.st)(UY:c'.no=c.no)(Jt:c'.id=c.id)(G2:c'.wt=c.wt)(H8:c'.out=c.out)(b:z_ i c' Rm R' h wb):Inv L Ts R'.cs Z/\R'.cr=Rm.cr/\R'.now=Rm.now/\R'.begun=Rm.begun:=by
 have o:=I.c i c hi;rcases b with⟨h1,rfl⟩|⟨h1,h2,rfl,_⟩|⟨h1,h2,rfl⟩
 .refine⟨?_,rfl,rfl,rfl⟩
  show Inv L Ts (Rm.cs.set i _) Z
  rw[hm,List.set_set];exact I.set hi (o.of ea Nz est (by show 1<=4/\4<=5;omega) (λ_=>h1) (λh=>absurd h (show ¬((4:Nat)<=2\/(4:Nat)=5)by decide))) ea Nz UY Jt G2 H8
 .refine⟨?_,rfl,rfl,rfl⟩
  show Inv L Ts (Rm.cs.set i _) Z
  rw[hm,List.set_set];exact I.del hi (by rw[<-H8];exact h2)
 .refine⟨?_,rfl,rfl,rfl⟩
  show Inv L Ts (Rm.cs.set i _) Z
  rw[hm,List.set_set];exact I.set hi (o.of ea Nz est (by show 1<=5/\5<=5;omega) (λh=>absurd h (show ¬(5:Nat)=4 by decide)) (λ_=>h2)) ea Nz UY Jt G2 H8
end
end Go.Proofs
