/-
  PROVED HERE: a part of the proof (S9, S10, S11, S12, S13, N4, U14, U15, U16, U18, N5, N6, S14, S15, S16, S17, S18, S19, S20, S21, S22, S23, S24, S25, S26, AA1, IX, IW2, IW3, VaiI, IW5, AA2, AA3, AA4, SB1, SB2, AW1, AW2, AG1, AG2, M1, M2).
-/
import Derived.Test.YtmllggkhfmjpgaaGreatDoorG6
import Derived.Test.YtmllggkhfmjpgaaGreatDoorRZ
import Derived.Test.YtmllggkhfmjpgaaGreatDoorG3
import Derived.Test.YtmllggkhfmjpgaaGreatDoorG2
import Derived.Test.YtmllggkhfmjpgaaGreatDoorG4
import Derived.Shelf.RegionOpenPlain
import Derived.Shelf.Spec.SlicesInsert
import Derived.WalkKit
import Derived.Lib.Walk
import Derived.Lib.AppendZeros
import Derived.Laws.Externs
import Derived.Lib.Overlaps
import Derived.Deep.WholeRow
import Derived.Test.YtmllggkhfmjpgaaGreatDoorG0
set_option linter.unusedVariables false
set_option linter.unusedSimpArgs false
set_option maxRecDepth 100000
set_option maxHeartbeats 4000000
noncomputable section
namespace Go.Proofs
open Go.Vai Go.Clashes
open Tryz (prog)
structure TA where
 tb:Nat
 bw:Nat
 bp:Nat
 bl:Nat
 c:gr
 vb:Value
 aY:Nat
 ms:List Nat
structure TD where
 Ts:List TB
 W:List IE
 wc:Nat
 F:List Int
 B:List Bool
structure RD where
 dO:List (Option (Nat × Int))
 bits:List Int
 now:Int
 tv:Value
 cs:List (Option CR)
 wm:List IE
 zH:Nat
 begun:Int
abbrev AR(h:af)(a:TA)(N:Nat)(d:TD):Prop:=kg h a.tb a.bw a.bp a.bl a.c a.vb a.aY N d.Ts d.W d.wc d.F d.B
abbrev RWx(h:af)(A:WA)(tb:Nat)(R:RD):Prop:=RW h A tb R.dO R.bits R.now R.tv R.cs R.wm R.zH R.begun
structure WS(h:af)(A:WA)(a:TA)(N:Nat)(d:TD)(R:RD):Prop where
 t:AR h a N d
 r:RWx h A a.tb R
 mw:A.mb≠a.bw
 mm:∀b∈d.Ts,A.mb≠b.bm
 mi:A.mb∈a.ms/\a.bw∈a.ms/\∀b∈d.Ts,b.bm∈a.ms
 lo:h.lo<=h.nx
section
variable {h h':af}{A:WA}{a:TA}{N:Nat}{d:TD}{R:RD}
theorem WS.le(s:WS h A a N d R)(l:Le h h'):WS h' A a N d R:=⟨s.t.le l,s.r.le l,s.mw,s.mm,s.mi,by have:=l.nx;have:=l.lo;have:=s.lo;omega⟩
theorem WS.up(s:WS h A a N d R){N':Nat}(hN:N<=N'):WS h A a N' d R:=⟨s.t.up hN,s.r,s.mw,s.mm,s.mi,s.lo⟩
theorem WS.table(s:WS h A a N d R){N':Nat}{d':TD}(t':AR h' a N' d')(f:uy d.Ts a.bw a.bp a.bl h h')(hb:d'.Ts.map (·.bm)=d.Ts.map (·.bm)):WS h' A a N' d' R:=by
 have back:∀b∈d'.Ts,∃b0∈d.Ts,b0.bm=b.bm:=λb hb'=>by
  have:b.bm∈d.Ts.map (·.bm):=by rw[<-hb];exact List.mem_map.2 ⟨b,hb',rfl⟩
  exact List.mem_map.1 this
 refine⟨t',s.r.afD s.t.is f s.mw s.mm,s.mw,λb hb'=>?_,⟨s.mi.1,s.mi.2.1,λb hb'=>?_⟩,by have:=f.nx;have:=f.lo;have:=s.lo;omega⟩
 .obtain⟨b0,hb0,e⟩:=back b hb';rw[<-e];exact s.mm b0 hb0
 .obtain⟨b0,hb0,e⟩:=back b hb';rw[<-e];exact s.mi.2.2 b0 hb0
theorem AR.Ro(s:AR h a N d){x:Nat}{v:List Value}{t:TypeId}{op:Bool}(hg:h.bl.get x=some (ai v t op))(hn:∀ty o,o_ ty o->t≠ty)(o:bL):AR ⟨h.nx,h.bl.bq x o,h.lo⟩ a N d:=
 kg.put s o (λvs ty o' ht e=>by rw[hg]at e;exact bE (hn ty o' ht) e) (fH hg s.is.oV) λb hb=>fH hg (s.is.bk b hb).gP
theorem nTy{t:TypeId}(h1:t≠194)(h2:t≠205)(h3:t≠267)(h4:t≠55)(h5:t≠57)(h6:t≠286)(h7:t≠4)(h8:t≠3):∀ty o,o_ ty o->t≠ty:=by
 rintro ty o (rfl|rfl|rfl|rfl|rfl|rfl|rfl|⟨rfl,_⟩)<;>assumption
theorem WS.jN(s:WS h A a N d R){i:Nat}{c c':CR}(hi:R.cs[i]? = some (some c))(hc:c'.ca=c.ca):WS ⟨h.nx,h.bl.bq c.ca (cO A.wb c'),h.lo⟩ A a N d { R with cs:=R.cs.set i (some c') }:=
 ⟨AR.Ro s.t (s.r.ca c (List.mem_of_getElem? hi)).2.2 (nTy J0 J0 J0 J0 J0 J0 J0 J0) _,s.r.jN hi hc,s.mw,s.mm,s.mi,s.lo⟩
theorem WS.tY(s:WS h A a N d R)(i:Nat)(o:Option CR)(ho:∀c,o=some c->c.ca<h.nx/\h.lo<=c.ca/\h.bl.get c.ca=some (cO A.wb c)/\∀(j:Nat)(d:CR),j≠i->R.cs[j]? = some (some d)->d.ca≠c.ca):WS ⟨h.nx,h.bl.bq A.cb (ai ((R.cs.set i o).map λo=>dM (o.map (·.ca))) 118 false),h.lo⟩ A a N d { R with cs:=R.cs.set i o }:=
 ⟨AR.Ro s.t s.r.gc (nTy J0 J0 J0 J0 J0 J0 J0 J0) _,s.r.tY i o ho,s.mw,s.mm,s.mi,s.lo⟩
theorem WS.Dl(s:WS h A a N d R)(zK:List (Option (Nat × Int)))(hl:zK.length=R.dO.length)(ho:∀p,some p∈zK->p.1<h.nx/\h.bl.get p.1=some (ai [YYY p.2] 253 false)):WS ⟨h.nx,h.bl.bq A.hb (ai (pn zK) 251 false),h.lo⟩ A a N d { R with dO:=zK }:=
 ⟨AR.Ro s.t s.r.gh (nTy J0 J0 J0 J0 J0 J0 J0 J0) _,s.r.Dl zK hl ho,s.mw,s.mm,s.mi,s.lo⟩
theorem WS.zM(s:WS h A a N d R)(b':Int):WS ⟨h.nx,h.bl.bq A.wb (ai [YYQ a.tb,YYQ A.lb,YYQ A.pb,YYQ A.kb,YYX A.cb A.n A.n,.map (some A.mb),YYY b'] 126 false),h.lo⟩ A a N d { R with begun:=b' }:=
 ⟨AR.Ro s.t s.r.gw (nTy J0 J0 J0 J0 J0 J0 J0 J0) _,s.r.zM b',s.mw,s.mm,s.mi,s.lo⟩
end
theorem afK(h:af)(b o:Nat):mQ prog h 100 25 (.pointer (some ⟨b,o,none⟩)) (.pointer none)=some false:=by kernel_rfl
theorem jl{β:Type}{fl:β}(cn:Bool)(b o:Nat)(h:af)(V:UV β):aF fl prog .eql 25 cn false (.pointer (some ⟨b,o,none⟩)) (.pointer none) h V=V (.bool false) h:=by simp only[aF,afK,bX]
theorem Rp{β:Type}{fl:β}(cn:Bool)(b o:Nat)(h:af)(V:UV β):aF fl prog .neq 25 cn false (.pointer (some ⟨b,o,none⟩)) (.pointer none) h V=V (.bool true) h:=by simp only[aF,afK,bX,Bool.not_false]
theorem afL(h:af)(b o:Nat):mQ prog h 100 118 (.pointer (some ⟨b,o,none⟩)) (.pointer none)=some false:=by kernel_rfl
theorem WI(h:af):mQ prog h 100 118 (.pointer none) (.pointer none)=some true:=by kernel_rfl
theorem Uz{β:Type}{fl:β}(cn:Bool)(o:Option Nat)(h:af)(V:UV β):aF fl prog .eql 118 cn false (dM o) (.pointer none) h V=V (.bool o.isNone) h:=by
 cases o with
 |none=>simp only[dM,aF,WI,bX,Option.isNone]
 |some b=>simp only[dM,aF,afL,bX,Option.isNone]
theorem UA{β:Type}{fl:β}(cn:Bool)(o:Option Nat)(h:af)(V:UV β):aF fl prog .neq 118 cn false (dM o) (.pointer none) h V=V (.bool o.isSome) h:=by
 cases o with
 |none=>simp only[dM,aF,WI,bX,Bool.not_true];rfl
 |some b=>simp only[dM,aF,afL,bX,Bool.not_false];rfl
section
variable {h:af}{A:WA}{a:TA}{N:Nat}{d:TD}{R:RD}
theorem qh(s:WS h A a N d R){i:Nat}(hi:i<A.n)(V:KQ)(hk:V (.bool true) h):aj prog 54 [YYQ A.wb,YYY (i:Int)] h V:=by
 have gw:=s.r.gw;apply YYZ;rw[adF];simp(disch:=try exact Y)only[Wz,Rp,bx (show(0:Int)<=(i:Int)by omega),aN,gw,fm (show(i:Int)<(A.n:Int)by omega)];exact hk
theorem oe(s:WS h A a N d R){i:Nat}{o:Option CR}(hi:R.cs[i]? = some o):(R.cs.map λo=>dM (o.map (·.ca)))[i]? = some (dM (o.map (·.ca))):=by rw[List.getElem?_map,hi];rfl
theorem BK(s:WS h A a N d R){i:Nat}{o:Option CR}(hi:R.cs[i]? = some o):i<A.n:=by
 have:=(List.getElem?_eq_some_iff.1 hi).1;have:=s.r.lc;omega
theorem afM(s:WS h A a N d R){i:Nat}{o:Option CR}(hi:R.cs[i]? = some o)(V:KQ)(hk:V (dM (o.map (·.ca))) h):aj prog 68 [YYQ A.wb,YYY (i:Int)] h V:=by
 have gw:=s.r.gw;have gc:=s.r.gc;have hil:=BK s hi;have r:=oe s hi;apply YYZ;rw[adP];refine qh s hil _ ?_;simp(disch:=try exact Y)only[Wz,aN,gw,bt,gc,r,Nat.mul_one];exact hk
theorem aaE(a b:Int):(!decide (b<a))=decide (a<=b):=by
 by_cases h:b<a
 .rw[bx h,aZ (show ¬a<=b by omega)];rfl
 .rw[aZ h,bx (show a<=b by omega)];rfl
theorem aaF(x:iz)(h:af)(V:KQ)(hlo:h.lo<=h.nx)(hk:∀h',Le h h'->V (.bool (ni x)) h'):aj prog 55 [.agg ⟨Dk x⟩] h V:=by
 apply YYZ;rw[adG];simp(disch:=try exact Y)only[Wz,Dk];obtain⟨hA,bh,aU,g1,eE,eG⟩:=nP h (ai [YYY x.k,YYY x.x,YYY x.t,YYY x.r,YYY x.m,YYY x.w,YYY x.to] 31 false);rw[<-bh];clear bh;have hk:=hk hA aU;unfold ni at hk;refine nY x.t x.r ?_;by_cases hl:bf x.t x.r = -1
 .rw[if_pos hl];rw[aZ (λh=>h hl)]at hk;simp(disch:=try exact Y)only[Wz];exact hk
 .rw[if_neg hl];rw[bx hl,Bool.true_and]at hk;simp(disch:=try exact Y)only[Wz,g1];by_cases h1:x.k=1
  .rw[if_pos h1]at hk;simp(disch:=try exact Y)only[Wz,bx h1,KI,g1];refine oH x.m ?_;cases hkn:kn x.m with
   |false=>rw[hkn]at hk;simp(disch:=try exact Y)only[Wz];exact hk
   |true=>
    rw[hkn,Bool.true_and]at hk;simp(disch:=try exact Y)only[Wz,g1];by_cases hm:x.m=0
    .rw[aZ (λh=>h hm)]at hk;simp(disch:=try exact Y)only[Wz,bx hm];exact hk
    .rw[bx hm,Bool.true_and]at hk;simp(disch:=try exact Y)only[Wz,aZ hm,g1,aaE];exact hk
  .rw[if_neg h1]at hk;simp(disch:=try exact Y)only[Wz,aZ h1,KJ,g1];by_cases h3:x.k=3
   .rw[if_pos h3]at hk;simp(disch:=try exact Y)only[Wz,bx h3,g1];simpa using hk
   .rw[if_neg h3]at hk;simp(disch:=try exact Y)only[Wz,aZ h3,g1];exact hk
end
section
variable {h:af}{A:WA}{a:TA}{N:Nat}{d:TD}{R:RD}
theorem BL(f:Fn)(a b:Array Value):(Value.cells (.func f a b)).toList=[.func f a b]:=id rfl
theorem Rq{wb:Nat}(c:CR)(g:h.bl.get c.ca=some (cO wb c))(hlo:h.lo<=c.ca)(ph:Nat)(f:FuncId)(hf:WG ph=f)(V:KQ)(hk:V (.tuple ⟨[]⟩) ⟨h.nx,h.bl.bq c.ca (cO wb { c with ph:=ph }),h.lo⟩):aj prog 57 [YYQ c.ca,YYY (ph:Int),.func (.func f) ⟨[YYQ c.ca]⟩ ⟨[]⟩] h V:=by
 subst hf;apply YYZ;rw[Wa];unfold cO at g hk;simp(disch:=try exact Y)only[Wz,aN,g,BJ,BL];exact hk
theorem cD(s:WS h A a N d R){i:Nat}{c:CR}(hi:R.cs[i]? = some (some c)):h.bl.get c.ca=some (cO A.wb c)/\c.ca<h.nx/\h.lo<=c.ca:=by
 obtain⟨k1,k2,k3⟩:=s.r.ca c (List.mem_of_getElem? hi);exact⟨k3,k1,k2⟩
theorem qR(s:WS h A a N d R){i k:Nat}{c:CR}(hi:R.cs[i]? = some (some c)){nb:Int}(hb:R.bits[i]? = some nb)(hst:c.st=(k:Int)){o:Option (Nat × Int)}(hl:R.dO[k]? = some o)(V:KQ)(hk:V (.bool (!decide ((c.ph:Int)=1) || !o.isSome)) h)(hz:MX nb 1=0:=by decide):aj prog 64 [YYQ A.wb,YYY (i:Int)] h V:=by
 have gw:=s.r.gw;obtain⟨gc,_⟩:=cD s hi;have hli:=s.r.li;apply YYZ;rw[adK];refine afM s hi _ ?_;simp(disch:=try exact Y)only[Wz,Uz,Option.map_some,Option.isNone_some];simp(disch:=try exact Y)only[Wz,aN,gw];refine Rn (by rw[hli];exact s.r.gp) s.r.gi hb _ ?_;simp(disch:=try exact Y)only[Wz,bx hz,KL,aN,gw,dM,gc,cO,hst];refine MW s.r.gl s.r.gh hl (λp e=>by subst e;exact(s.r.ho p (List.mem_of_getElem? hl)).2) _ ?_;intro x;simp(disch:=try exact Y)only[Wz,aN,gc,cO];by_cases h1:(c.ph:Int)=1
 .rw[bx h1]at hk;simp(disch:=try exact Y)only[Wz,bx h1];exact hk
 .rw[aZ h1]at hk;simp(disch:=try exact Y)only[Wz,aZ h1];exact hk
end
theorem oK{v v':List Value}{t t':TypeId}{o o':Bool}(e:(some (ai v t o):Option bL)=some (ai v' t' o')):t=t'/\o=o':=by
 have ht:t=t':=Classical.byContradiction λhn=>bE hn e;subst ht;refine⟨rfl,?_⟩;cases o<;>cases o'
 .rfl
 .exact absurd e bC
 .exact absurd e.symm bC
 .rfl
structure WK(a:TA)(h h':af):Prop where
 nx:h.nx<=h'.nx
 lo:h'.lo=h.lo
 ty:∀d vs t o,d<h.nx->h.bl.get d=some (ai vs t o)->¬o_ t o->¬nj t o->h'.bl.get d=h.bl.get d
 oi:∀d vs,d<h.nx->h.bl.get d=some (ai vs 3 true)->¬FB h a.bp d->h'.bl.get d=h.bl.get d
 mv:∀d,d<h.nx->FB h' a.bp d->FB h a.bp d
 ro:∀d,d<h.nx->(∀vs t o,h.bl.get d≠some (ai vs t o))->(∀es c,h.bl.get d≠some (.map es c))->h'.bl.get d=h.bl.get d
 mp:∀d es c,d<h.nx->h.bl.get d=some (.map es c)->d∉a.ms->h'.bl.get d=h.bl.get d
theorem WK.trans{a:TA}{h h1 h2:af}(x:WK a h h1)(y:WK a h1 h2):WK a h h2 where
 nx:=Nat.le_trans x.nx y.nx
 lo:=y.lo.trans x.lo
 ty d vs t o hd hg ht hr:=by
  have e:=x.ty d vs t o hd hg ht hr;exact(y.ty d vs t o (Nat.lt_of_lt_of_le hd x.nx) (e.trans hg) ht hr).trans e
 oi d vs hd hg hf:=by
  have e:=x.oi d vs hd hg hf;exact(y.oi d vs (Nat.lt_of_lt_of_le hd x.nx) (e.trans hg) (λf=>hf (x.mv d hd f))).trans e
 mv d hd f:=x.mv d hd (y.mv d (Nat.lt_of_lt_of_le hd x.nx) f)
 ro d hd h1 h2:=by
  have e:=x.ro d hd h1 h2;exact(y.ro d (Nat.lt_of_lt_of_le hd x.nx) (λvs t o=>by rw[e];exact h1 vs t o) (λes c=>by rw[e];exact h2 es c)).trans e
 mp d es c hd hg hn:=by
  have e:=x.mp d es c hd hg hn;exact(y.mp d es c (Nat.lt_of_lt_of_le hd x.nx) (e.trans hg) hn).trans e
section
variable {h h':af}{A:WA}{a:TA}{N:Nat}{d:TD}{R:RD}
theorem WS.bp(s:WS h A a N d R):∃fs ls,a.bp<h.nx/\h.bl.get a.bp=some (ai [fs,ls] 286 false):=by
 obtain⟨fs,hg,_⟩:=s.t.is.aL.fr.cell;exact⟨fs,_,s.t.is.aL.fr.lt,hg⟩
theorem WS.Jb(s:WS h A a N d R)(l:Le h h'):WK a h h':=by
 obtain⟨_,_,hb,_⟩:=s.bp;exact⟨l.nx,l.lo,λd _ _ _ hd _ _ _=>l.get d hd,λd _ hd _ _=>l.get d hd,λd _ f=>(FB.congr (l.get _ hb)).1 f,λd hd _ _=>l.get d hd,λd _ _ hd _ _=>l.get d hd⟩
theorem WS.wN(s:WS h A a N d R){x:Nat}{v:List Value}{t:TypeId}{o:Bool}(hg:h.bl.get x=some (ai v t o))(hr:nj t o)(hp:t≠286)(ob:bL):WK a h ⟨h.nx,h.bl.bq x ob,h.lo⟩:=by
 obtain⟨fs,ls,hb,gb⟩:=s.bp;have Vr:x≠a.bp:=dh hg gb hp;refine⟨Nat.le_refl _,rfl,λd vs t' o' hd hgd _ hn=>T.ax _ _ ?_,λd vs hd hgd _=>T.ax _ _ ?_,λd _ f=>(FB.congr (T.ax _ _ Vr)).1 f,λd hd h1 _=>T.ax _ _ ?_,λd _ _ _ hgd _=>T.ax _ _ (fH hg hgd)⟩
 .rintro rfl;rw[hg]at hgd;by_cases ht:t=t'
  .subst ht;cases o<;>cases o'
   .exact hn hr
   .exact bC hgd
   .exact bC hgd.symm
   .exact hn hr
  .exact bE ht hgd
 .rintro rfl;rw[hg]at hgd;rcases hr with e|e|e|e|e|e|e|e|⟨e,e'⟩<;>subst e<;>first|exact bE J0 hgd|(subst e';exact bC hgd)
 .rintro rfl;exact h1 _ _ _ hg
theorem WS.kfr(s:WS h A a N d R)(f:uy d.Ts a.bw a.bp a.bl h h'):WK a h h':=by
 obtain⟨fs,ls,hb,gb⟩:=s.bp;have gl:=s.t.is.aL.cell;have gw:=s.t.is.oV;refine⟨f.nx,f.lo,λx vs t o hx hg ht _=>f.get x hx (λb hb=>fH hg (s.t.is.bk b hb).gP) (fH hg gw) ?_ ?_ ?_,λx vs hx hg hn=>f.g2 hb x hx (λb hb=>fH hg (s.t.is.bk b hb).gP) (fH hg gw) (dh hg gb J0) (dh hg gl J0) hn,f.mv hb,λx hx h1 h2=>f.get x hx ?_ ?_ ?_ ?_ λvs=>h1 vs _ _,λx es c hx hg hn=>f.get x hx (λb hb e=>hn (e▸s.mi.2.2 b hb)) (λe=>hn (e▸s.mi.2.1)) (λe=>fH gb hg e.symm) (λe=>fH gl hg e.symm) λvs=>by rw[hg];exact bV⟩
 ·rintro rfl;rw[hg]at gb;exact ht (by
   by_cases e:t=286
   .subst e;simp[o_]
   .exact absurd gb (bE e))
 ·rintro rfl;rw[hg]at gl;exact ht (by
   by_cases e:t=4
   .subst e;simp[o_]
   .exact absurd gl (bE e))
 .intro ws hw;rw[hg]at hw;by_cases e:t=3
  .subst e;cases o
   .exact bC hw
   .exact ht (by simp[o_])
  .exact bE e hw
 .intro b hb e;subst e;exact h2 _ _ (s.t.is.bk b hb).gP
 .rintro rfl;exact h2 _ _ gw
 .rintro rfl;exact h1 _ _ _ gb
 .rintro rfl;exact h1 _ _ _ gl
theorem Rr(s:WS h A a N d R)(hf:∀b,b<h.nx->b≠A.hb->h'.bl.get b=h.bl.get b)(hn:h.nx<=h'.nx)(hl:h'.lo=h.lo):WK a h h':=by
 obtain⟨fs,ls,hb,gb⟩:=s.bp;have gh:=s.r.gh;refine⟨hn,hl,λx vs t o hx hg ht hr=>hf x hx ?_,λx vs hx hg _=>hf x hx ?_,λx _ f=>(FB.congr (hf _ hb (dh gb gh J0))).1 f,λx hx h1 _=>hf x hx ?_,λx es c hx hg _=>hf x hx λe=>fH gh hg e.symm⟩
 .rintro rfl;rw[gh]at hg;by_cases e:251=t
  .subst e;exact hr (by simp[nj])
  .exact bE e hg
 .rintro rfl;rw[gh]at hg;exact bE J0 hg
 .rintro rfl;exact h1 _ _ _ gh
end
section
variable {h:af}{A:WA}{a:TA}{N:Nat}{d:TD}{R:RD}
theorem Rs(s:WS h A a N d R){i k:Nat}{c:CR}(hi:R.cs[i]? = some (some c))(hst:c.st=(k:Int))(uz:0<=c.th/\c.th<8)(hl:R.dO[k]? = some none)(V:KQ)(hk:∀h',WS h' A a N d { R with dO:=R.dO.set k (some (h.nx,c.th)),cs:=R.cs.set i (some { c with ph:=2 }) }->WK a h h'->V (.tuple ⟨[]⟩) h'):aj prog 58 [YYQ c.ca] h V:=by
 obtain⟨gc,c1,c2⟩:=cD s hi;have gw:=s.r.gw;have hlo:=s.lo;have gc':=gc;unfold cO at gc';apply YYZ;rw[adI];simp(disch:=try exact Y)only[Wz,aN,gc',gw,hst];refine aaB s.r.gl s.r.gh s.r.lth s.r.GY hl uz _ ?_;have s1:=s.le ((Le.refl h).new (ai [YYY c.th] 253 false));have s2:=s1.Dl (R.dO.set k (some (h.nx,c.th))) (List.length_set ..) (λp hp=>by
  rcases List.mem_or_eq_of_mem_set hp with hp|hp
  .obtain⟨k1,k2⟩:=s1.r.ho p hp;exact⟨k1,k2⟩
  .cases hp;exact⟨Nat.lt_succ_self _,T.au _ _ _⟩)
 obtain⟨h2,e2⟩:∃h2:af,h2=⟨h.nx+1,(h.bl.bq h.nx (ai [YYY c.th] 253 false)).bq A.hb (ai (pn (R.dO.set k (some (h.nx,c.th)))) 251 false),h.lo⟩:=⟨_,rfl⟩
 have s2:WS h2 A a N d { R with dO:=R.dO.set k (some (h.nx,c.th)) }:=by rw[e2];exact s2
 have f2:∀b,b<h.nx->b≠A.hb->h2.bl.get b=h.bl.get b:=λb hb hn=>by rw[e2];exact(T.ax _ _ (λe=>hn e.symm)).trans (T.ax _ _ XQ)
 have n2:h2.nx=h.nx+1:=by rw[e2]
 have l2:h2.lo=h.lo:=by rw[e2]
 rw[<-e2];clear e2;obtain⟨DC,c12,c22⟩:=cD (R:={ R with dO:=R.dO.set k (some (h.nx,c.th)) }) s2 hi;refine Rq c DC c22 2 _ rfl _ ?_;exact hk _ (WS.jN (R:={ R with dO:=R.dO.set k (some (h.nx,c.th)) }) s2 hi rfl) ((Rr s f2 XQ l2).trans (WS.wN s2 DC (by simp[nj]) J0 _))
theorem RW.other{tb:Nat}{dO:List (Option (Nat × Int))}{bits:List Int}{now:Int}{tv:Value}{cs:List (Option CR)}{wm:List IE}{zH:Nat}{begun:Int}(s:RW h A tb dO bits now tv cs wm zH begun){x:Nat}{v:List Value}{o:Bool}(hg:h.bl.get x=some (ai v 128 o))(hn:∀c,some c∈cs->c.ca≠x)(ob:bL):RW ⟨h.nx,h.bl.bq x ob,h.lo⟩ A tb dO bits now tv cs wm zH begun:=by
 have up:∀{b:Nat}{v:List Value}{t:TypeId}{o:Bool},h.bl.get b=some (ai v t o)->128≠t->(h.bl.bq x ob).get b=some (ai v t o):=λhb hn=>(T.ax _ _ (dh hg hb hn)).trans hb;exact⟨s.De,up s.gw J0,s.GY,up s.gl J0,s.lth,up s.gh J0,λp hp=>⟨(s.ho p hp).1,up (s.ho p hp).2 J0⟩,s.MV,up s.gp J0,s.lti,up s.gi J0,s.li,s.ltk,up s.gk J0,s.WH,up s.gc J0,s.lc,λc hc=>⟨(s.ca c hc).1,(s.ca c hc).2.1,(T.ax _ _ (λe=>hn c hc e.symm)).trans (s.ca c hc).2.2⟩,s.xq,(T.ax _ _ (fH hg s.gm)).trans s.gm,s.nn,s.dc⟩
theorem WS.other(s:WS h A a N d R){x:Nat}{v:List Value}{o:Bool}(hg:h.bl.get x=some (ai v 128 o))(hn:∀c,some c∈R.cs->c.ca≠x)(ob:bL):WS ⟨h.nx,h.bl.bq x ob,h.lo⟩ A a N d R:=
 ⟨AR.Ro s.t hg (nTy J0 J0 J0 J0 J0 J0 J0 J0) _,s.r.other hg hn ob,s.mw,s.mm,s.mi,s.lo⟩
def zN(wb:Nat)(c:CR):bL:=ai [YYY c.a.k,YYY c.a.x,YYY c.a.t,YYY c.a.r,YYY c.a.m,YYY c.a.w,YYY c.a.to,YYQ wb,YYY c.th,YYY c.no,YYY c.st,BJ c.ph c.ca,YYY (c.ph:Int),.bool c.wt,YYY c.id,YYY c.cs,YYY c.out,.bool true,.slice none 0 0] 128 false
theorem UB(s:WS h A a N d R){i k p:Nat}{c:CR}(hi:R.cs[i]? = some (some c))(hst:c.st=(k:Int))(uz:c.th=(i:Int))(hout:c.out≠0)(hl:R.dO[k]? = some (some (p,c.th)))(V:KQ)(hk:∀h',WS h' A a N d { R with dO:=R.dO.set k none,cs:=R.cs.set i none }->h'.bl.get c.ca=some (zN A.wb c)->WK a h h'->V (.tuple ⟨[]⟩) h'):aj prog 159 [YYQ c.ca] h V:=by
 obtain⟨gc,c1,c2⟩:=cD s hi;have gw:=s.r.gw;have hlo:=s.lo;have gc':=gc;have hil:=BK s hi;have hnn:=s.r.nn;unfold cO at gc';have gp:=(s.r.ho (p,c.th) (List.mem_of_getElem? hl)).2;apply YYZ;rw[Yp];simp(disch:=try exact Y)only[Wz,aN,gc',gw,hst];refine Uy s.r.gl s.r.gh s.r.lth hl gp XQ _ ?_;have s2:=s.Dl (R.dO.set k none) (List.length_set ..) (λq hq=>by
  rcases List.mem_or_eq_of_mem_set hq with hq|hq
  .exact s.r.ho q hq
  .cases hq)
 have k2:=Rr (h':=⟨h.nx,h.bl.bq A.hb (ai (pn (R.dO.set k none)) 251 false),h.lo⟩) s (λb hb hn=>T.ax _ _ (λe=>hn e.symm)) (Nat.le_refl _) rfl;obtain⟨h2,e2⟩:∃h2:af,h2=⟨h.nx,h.bl.bq A.hb (ai (pn (R.dO.set k none)) 251 false),h.lo⟩:=⟨_,rfl⟩
 have s2:WS h2 A a N d { R with dO:=R.dO.set k none }:=by rw[e2];exact s2
 have k2:WK a h h2:=by rw[e2];exact k2
 rw[<-e2];clear e2;obtain⟨DC,c12,c22⟩:=cD (R:={ R with dO:=R.dO.set k none }) s2 hi;have aaG:=DC;unfold cO at aaG;have gw2:=s2.r.gw;have Rt:=s2.r.gc;have cb2:=s2.r.WH;apply YYZ;rw[YW];have s3:WS ⟨h2.nx,h2.bl.bq A.cb (ai ((R.cs.set i none).map λo=>dM (o.map (·.ca))) 118 false),h2.lo⟩ A a N d { R with dO:=R.dO.set k none,cs:=R.cs.set i none }:=WS.tY (R:={ R with dO:=R.dO.set k none }) s2 i none (λc e=>(nomatch e));have hne:c.ca≠A.cb:=dh DC Rt J0;have ovc:over (R.cs.map λo=>dM (o.map (·.ca))) i [.pointer none]=(R.cs.set i none).map λo=>dM (o.map (·.ca)):=by
  unfold over;rw[List.map_set,List.set_eq_take_append_cons_drop,if_pos (by rw[List.length_map];exact(List.getElem?_eq_some_iff.1 hi).1)];simp[dM]
 have hlc:(R.cs.map λo=>dM (o.map (·.ca))).length=A.n:=by rw[List.length_map];exact s.r.lc
 have hnw:c.ca≠A.wb:=dh DC gw2 J0;simp(disch:=try exact Y)only[Wz,aN,aaG,FA,aZ hout,Fz];simp(disch:=try exact Y)only[Wz,aN,gw2,uz,bt,Rt,Nat.mul_one,ovc];have G4:(h2.bl.bq A.cb (ai ((R.cs.set i none).map λo=>dM (o.map (·.ca))) 118 false)).get c.ca=_:=(T.ax _ _ (λe=>hne e.symm)).trans aaG;have hno:∀x,some x∈R.cs.set i none->x.ca≠c.ca:=by
  intro x hx;rcases zJ hx with e|⟨j,hj,e⟩
  .cases e
  .exact s.r.apart e hi hj
 have s4:=WS.other s3 G4 hno (zN A.wb c);have k3:=WS.wN s2 Rt (by simp[nj]) J0 (ai ((R.cs.set i none).map λo=>dM (o.map (·.ca))) 118 false);have k4:=WS.wN s3 G4 (by simp[nj]) J0 (zN A.wb c);have hk:=hk _ s4 (T.au _ _ _) ((k2.trans k3).trans k4);rw[show((h2.bl.bq A.cb (ai ((R.cs.set i none).map λo=>dM (o.map (·.ca))) 118 false)).bq c.ca (zN A.wb c))=(h2.bl.bq c.ca (zN A.wb c)).bq A.cb (ai ((R.cs.set i none).map λo=>dM (o.map (·.ca))) 118 false)from T.Ei _ _ _ (λe=>hne e.symm)]at hk;unfold zN at hk;rw[uz]at hk;exact hk
end
section
variable {h:af}{A:WA}{a:TA}{N:Nat}{d:TD}{R:RD}
theorem G5(s:WS h A a N d R){i k:Nat}{c:CR}(hi:R.cs[i]? = some (some c))(BM:c.ph=1){nb:Int}(hb:R.bits[i]? = some nb)(hst:c.st=(k:Int))(uz:0<=c.th/\c.th<8)(hl:R.dO[k]? = some none)(V:KQ)(hk:∀h',WS h' A a N d { R with dO:=R.dO.set k (some (h.nx,c.th)),cs:=R.cs.set i (some { c with ph:=2 }) }->WK a h h'->V (.tuple ⟨[.bool false,YYY 0,YYY 0]⟩) h')(hz:MX nb 1=0:=by decide):aj prog 15 [YYQ A.wb,YYY (i:Int)] h V:=by
 have gw:=s.r.gw;have gcs:=s.r.gc;have hil:=BK s hi;have r:(R.cs.map λo=>dM (o.map (·.ca)))[i]? = some (YYQ c.ca):=oe s hi;obtain⟨gc,c1,c2⟩:=cD s hi;have hlc:(R.cs.map λo=>dM (o.map (·.ca))).length=A.n:=by rw[List.length_map];exact s.r.lc
 have gc':=gc;unfold cO BJ at gc';rw[BM]at gc';apply YYZ;rw[PC];simp(disch:=try exact Y)only[Wz,jl,xb];refine qh s hil _ ?_;simp(disch:=try exact Y)only[Wz];refine qR s hi hb hst hl _ ?_ hz;rw[BM];simp(disch:=try exact Y)only[Wz,Option.isSome_none,Option.isSome_some,Bool.false_or,Bool.true_or,w_,aN,gw,bt,gcs,r,gc',Nat.mul_one,tc];refine Rs s hi hst uz hl _ ?_;intro h' s' k';have hi':(R.cs.set i (some { c with ph:=2 }))[i]? = some (some { c with ph:=2 }):=by rw[List.getElem?_set,if_pos rfl,if_pos (by have:=s.r.lc;omega)]
 obtain⟨DC,_,_⟩:=cD s' hi';unfold cO at DC;simp(disch:=try exact Y)only[Wz,aN,DC];exact hk h' s' k'
theorem Jc(s:WS h A a N d R){i k p:Nat}{c:CR}(hi:R.cs[i]? = some (some c))(BM:c.ph=3){nb:Int}(hb:R.bits[i]? = some nb)(hst:c.st=(k:Int))(uz:c.th=(i:Int))(hout:c.out≠0)(hl:R.dO[k]? = some (some (p,c.th)))(V:KQ)(hk:∀h',WS h' A a N d { R with dO:=R.dO.set k none,cs:=R.cs.set i none }->WK a h h'->V (.tuple ⟨[.bool true,YYY c.out,YYY 0]⟩) h')(hz:MX nb 1=0:=by decide):aj prog 15 [YYQ A.wb,YYY (i:Int)] h V:=by
 have gw:=s.r.gw;have gcs:=s.r.gc;have hil:=BK s hi;have r:(R.cs.map λo=>dM (o.map (·.ca)))[i]? = some (YYQ c.ca):=oe s hi;obtain⟨gc,c1,c2⟩:=cD s hi;have hlc:(R.cs.map λo=>dM (o.map (·.ca))).length=A.n:=by rw[List.length_map];exact s.r.lc
 have gc':=gc;unfold cO BJ at gc';rw[BM]at gc';apply YYZ;rw[PC];simp(disch:=try exact Y)only[Wz,jl,xb];refine qh s hil _ ?_;simp(disch:=try exact Y)only[Wz];refine qR s hi hb hst hl _ ?_ hz;rw[BM];simp(disch:=try exact Y)only[Wz,Option.isSome_none,Option.isSome_some,Bool.false_or,Bool.true_or,w_,aN,gw,bt,gcs,r,gc',Nat.mul_one,tc];refine UB s hi hst uz hout hl _ ?_;intro h' s' g' k';unfold zN at g';simp(disch:=try exact Y)only[Wz,aN,g'];exact hk h' s' k'
theorem afP(a b c d e f g:Int):ki 8 (.agg ⟨[YYY a,YYY b,YYY c,YYY d,YYY e,YYY f,YYY g]⟩) (.agg ⟨[YYY a,YYY b,YYY c,YYY d,YYY e,YYY f,YYY g]⟩)=true:=by
 have v:∀n:Int,ki 7 (YYY n) (YYY n)=true:=λn=>by
  show(ir .i64 .i64 && sE n n)=true
  rw[gH,bx rfl];rfl
 show(ki 7 (YYY a) (YYY a) && (ki 7 (YYY b) (YYY b) && (ki 7 (YYY c) (YYY c) && (ki 7 (YYY d) (YYY d) && (ki 7 (YYY e) (YYY e) && (ki 7 (YYY f) (YYY f) && (ki 7 (YYY g) (YYY g) && true)))))))=true
 simp only[v,Bool.and_self]
theorem UC(s:WS h A a N d R){i:Nat}(hi:R.cs[i]? = some none)(x:iz)(hbg:0<=R.begun/\R.begun<=1000000)(V:KQ)(Ur:ni x=false->∀h',Le h h'->V (YYY 2) h')(hk:ni x=true->∀h' ca,WS h' A a N d { R with cs:=R.cs.set i (some ⟨ca,x,(i:Int),R.begun,ef x.t x.r a.c.S,1,false,0,0,0⟩),begun:=R.begun+1 }->WK a h h'->V (YYY 0) h'):aj prog 11 [YYQ A.wb,YYY (i:Int),.agg ⟨Dk x⟩] h V:=by
 have hlo:=s.lo;have hil:=BK s hi;have r:(R.cs.map λo=>dM (o.map (·.ca)))[i]? = some (.pointer none):=oe s hi;have hlc:(R.cs.map λo=>dM (o.map (·.ca))).length=A.n:=by rw[List.length_map];exact s.r.lc
 apply YYZ;rw[adk];simp(disch:=try exact Y)only[Wz,Dk];obtain⟨hA,bh,aU,g1,eE,eG⟩:=nP h (ai [YYY x.k,YYY x.x,YYY x.t,YYY x.r,YYY x.m,YYY x.w,YYY x.to] 31 false);rw[<-bh];clear bh;have sA:=s.le aU;simp(disch:=try exact Y)only[Wz,jl,Kt];refine qh sA hil _ ?_;simp(disch:=try exact Y)only[Wz,g1];refine aaF x hA _ XQ ?_;intro h1 bN;have n1:=bN.nx;have l1:=bN.lo;have s1:=sA.le bN;have g11:=(bN.get _ XQ).trans g1;have WD:=s1.r.gw;have AS:=s1.r.gc;cases hm:ni x with
 |false=>
  simp(disch:=try exact Y)only[Wz];exact Ur hm h1 (aU.trans bN)
 |true=>
  have hk:=hk hm;have akJ:∀(β:Type)(fl:β)(cn:Bool)(h:af)(V:UV β),aF fl prog .neq 118 cn false (.pointer none) (.pointer none) h V=V (.bool false) h:=λβ fl cn h V=>UA cn none h V;simp(disch:=try exact Y)only[Wz,Ks,aN,WD,bt,AS,r,Nat.mul_one,akJ,Kr,g11];refine vj s1.t.is XQ x.t x.r _ ?_;intro h2 bF;have n2:=bF.nx;have l2:=bF.lo;have s2:=s1.le bF;have g12:=(bF.get _ XQ).trans g11;have gw2:=s2.r.gw;simp(disch:=try exact Y)only[Wz,aN,g12,gw2];obtain⟨cc,HJ⟩:∃cc:CR,cc=⟨h2.nx,x,(i:Int),R.begun,ef x.t x.r a.c.S,1,false,0,0,0⟩:=⟨_,rfl⟩
  obtain⟨h3,e3⟩:∃h3:af,h3=⟨h2.nx+1,h2.bl.bq h2.nx (cO A.wb cc),h2.lo⟩:=⟨_,rfl⟩
  have cT:Le h2 h3:=by rw[e3];exact(Le.refl h2).new _
  have g3:h3.bl.get h2.nx=some (cO A.wb cc):=by rw[e3];exact T.au _ _ _
  have n3:h3.nx=h2.nx+1:=by rw[e3]
  have l3:h3.lo=h2.lo:=by rw[e3]
  have s3:=s2.le cT;have e3':h3=⟨h2.nx+1,h2.bl.bq h2.nx (ai [YYY x.k,YYY x.x,YYY x.t,YYY x.r,YYY x.m,YYY x.w,YYY x.to,YYQ A.wb,YYY (i:Int),YYY R.begun,YYY (ef x.t x.r a.c.S),.func (.func 58) ⟨[YYQ h2.nx]⟩ ⟨[]⟩,YYY 1,.bool false,YYY 0,YYY 0,YYY 0,.bool false,.slice none 0 0] 128 false),h2.lo⟩:=by rw[e3,HJ];rfl
  have gw3:=s3.r.gw;have lw3:=s3.r.De;have lc3:=s3.r.WH;have s4:=s3.zM (R.begun+1);have k4:=WS.wN s3 gw3 (by simp[nj]) J0 (ai [YYQ a.tb,YYQ A.lb,YYQ A.pb,YYQ A.kb,YYX A.cb A.n A.n,.map (some A.mb),YYY (R.begun+1)] 126 false);have akK:=s4.r.gc;have ovc:over (R.cs.map λo=>dM (o.map (·.ca))) i [YYQ h2.nx]=(R.cs.set i (some cc)).map λo=>dM (o.map (·.ca)):=by
   unfold over;rw[List.map_set,List.set_eq_take_append_cons_drop,if_pos (by rw[List.length_map];have:=s.r.lc;omega),HJ];simp[dM]
  have s5:=WS.tY (R:={ R with begun:=R.begun+1 }) s4 i (some cc) (λc e=>by
   cases e;refine⟨by rw[HJ];show h2.nx<h3.nx;omega,by rw[HJ];show h3.lo<=h2.nx;omega,?_,λj d' hj hd=>?_⟩
   .have e9:cc.ca=h2.nx:=by rw[HJ]
    rw[e9];exact(T.ax _ _ (by have:=(s2.r.De).1;omega)).trans g3
   .have:=(s2.r.ca d' (List.mem_of_getElem? hd)).1;rw[HJ];show d'.ca≠h2.nx;omega)
  have k5:=WS.wN s4 akK (by simp[nj]) J0 (ai ((R.cs.set i (some cc)).map λo=>dM (o.map (·.ca))) 118 false);have hne:A.wb≠A.cb:=dh gw3 s3.r.gc J0;have apz:=s3.r.gc;have Rt:=s2.r.gc;have lw2:=s2.r.De;have lc2:=s2.r.WH;simp(disch:=try exact Y)only[Wz,afP];apply YYZ;rw[Wa];simp(disch:=try exact Y)only[Wz,aN,BL,gw2,bt,Rt,Nat.mul_one,ovc];have hk:=λh'=>hk h' h2.nx;simp only[<-HJ]at hk;have hk:=hk _ s5 (((s.Jb ((aU.trans bN).trans (bF.trans cT))).trans k4).trans k5);rw[e3']at hk;exact hk
end
section
variable {a h:af}{rt rp rl:Nat}{c:gr}{vr:Value}{aY:Nat}{R:List RB}{B:List Bool}
end
section
variable {h h2:af}{tb bw bp bl:Nat}{c:gr}{vb:Value}{aY N:Nat}{Ts Ts2:List TB}{W:List IE}{wc:Nat}{F:List Int}{B:List Bool}
end
section
variable {h h':af}{bb bm bp bl most:Nat}{M M':List HE}{clock clock':Nat}{F F':List Int}{B:List Bool}
end
section
variable {h:af}{tb bw bp bl:Nat}{c:gr}{vb:Value}{aY N:Nat}{Ts:List TB}{W:List IE}{wc:Nat}{F:List Int}{B:List Bool}
end
section
variable {h:af}{tb bw bp bl:Nat}{c:gr}{vb:Value}{aY N:Nat}{Ts:List TB}{W:List IE}{wc:Nat}{F:List Int}{B:List Bool}
end
section
variable {h:af}{tb bw bp bl:Nat}{c:gr}{vb:Value}{aY N:Nat}{Ts:List TB}{W:List IE}{wc:Nat}{F:List Int}{B:List Bool}
end
section
variable {a0 h:af}{tb bw bp bl:Nat}{c:gr}{vb:Value}{aY N:Nat}{Ts:List TB}{W:List IE}{wc:Nat}{F:List Int}{B:List Bool}{rt rp rl:Nat}{vr:Value}{R:List RB}
end
def afR(Ts:List (List HE))(s t r x id:Int)(b:Bool):Prop:=(ef t r s<0/\id=0/\b=false)\/∃(k:Nat)(M:List HE),Ts[k]? = some M/\ef t r s=(k:Int)/\QU M t r x id b
section
variable {a0 h:af}{tb bw bp bl:Nat}{c:gr}{vb:Value}{aY N:Nat}{Ts:List TB}{W:List IE}{wc:Nat}{F:List Int}{B:List Bool}{rt rp rl:Nat}{vr:Value}{R:List RB}
theorem Ru(s:kg h tb bw bp bl c vb aY N Ts W wc F B)(hlo:h.lo<=h.nx)(t r x:Int)(V:KQ)(hk:∀h' id b,afR (Ts.map (·.M)) c.S t r x id b->Le h h'->V (.tuple ⟨[YYY id,.bool b]⟩) h'):aj prog 297 [YYQ tb,cQ t r,YYY x] h V:=by
 apply YYZ;rw[Zh];simp(disch:=try exact Y)only[Wz,cQ];obtain⟨hA,bh,aU,g1,eE,eG⟩:=nP h (ai [YYY t,YYY r] 28 false);rw[<-bh];clear bh;refine vj (s.le aU).is XQ t r _ ?_;intro h2 bF;have tV:=bF.nx;have tW:=bF.lo;have g1:=(bF.get _ XQ).trans g1;have qb:=aU.trans bF;have s2:=s.le qb;by_cases hneg:ef t r c.S<0
 .simp(disch:=try exact Y)only[Wz,bx hneg];exact hk h2 0 false (.inl ⟨hneg,rfl,rfl⟩) qb
 obtain⟨k,b,hst,hb⟩:=afs s.is hneg;have gt:=s2.is.mN;obtain⟨cc,oo,_,Mx,mh⟩:=Uo s2.is.sl k hb;have mh:=mh h2 (Le.refl _);rw[hst];simp(disch:=try exact Y)only[Wz,dF (show(0:Int)<=(k:Int)by omega),FJ,aN,gt,Mx,mh,g1];refine Uk (s2.is.bk b (List.mem_of_getElem? hb)) XQ t r x _ ?_;intro h3 id bb fi cT;simp(disch:=try exact Y)only[Wz];exact hk h3 id bb (.inr ⟨k,b.M,by rw[List.getElem?_map,hb];rfl,hst,fi⟩) (qb.trans cT)
end
section
variable {h:af}{tb bw bp bl:Nat}{c:gr}{vb:Value}{aY N:Nat}{Ts:List TB}{W:List IE}{wc:Nat}{F:List Int}{B:List Bool}{H X:Int->Int->Int}
end
section
variable {h:af}{A:WA}{a:TA}{N:Nat}{d:TD}{R:RD}{H X:Int->Int->Int}
end
theorem Rv{m:Int}(h:kn m=true):bA 0 m=m:=by
 have key:∀j,j<7->bA 0 (j:Nat)=(j:Nat):=by decide +kernel
 obtain⟨j,hj,rfl⟩:=iy h;exact key j hj
theorem jm{a b:Int}(ha:kn a=true)(hb:kn b=true)(h0:b≠0):bA a b≠0/\kn (bA a b)=true/\bA a (bA a b)=bA a b/\(iK a b=true->bA a b=a):=by
 have key:∀i:Nat,i<7->∀j:Nat,j<7->(j:Int)≠0->bA (i:Nat) (j:Nat)≠0/\kn (bA (i:Nat) (j:Nat))=true/\bA (i:Nat) (bA (i:Nat) (j:Nat))=bA (i:Nat) (j:Nat)/\(iK (i:Nat) (j:Nat)=true->bA (i:Nat) (j:Nat)=(i:Nat)):=by decide +kernel
 obtain⟨i,hi,rfl⟩:=iy ha;obtain⟨j,hj,rfl⟩:=iy hb;exact key i hi j hj h0
structure Dm(d d':TD)(k:Nat):Prop where
 f:d.F.length<=d'.F.length+1
 m:∀(j:Nat)(b':TB),d'.Ts[j]? = some b'->∃b,d.Ts[j]? = some b/\b'.M.length<=b.M.length+if j=k then 1 else 0
theorem tZ{d:TD}{k:Nat}{b:TB}(hk:d.Ts[k]? = some b){M':List HE}{cl:Nat}(hl:M'.length<=b.M.length+1)(W':List IE)(Ai:Nat){F':List Int}(hF:d.F.length<=F'.length+1)(B':List Bool):Dm d ⟨d.Ts.set k ⟨b.bb,b.bm,M',cl⟩,W',Ai,F',B'⟩ k:=by
 refine⟨hF,λj b' hj=>?_⟩;rcases fG hj with⟨rfl,rfl⟩|⟨hne,hj⟩
 .exact⟨b,hk,by rw[if_pos rfl];exact hl⟩
 .exact⟨b',hj,XQ⟩
section
variable {h:af}{a:TA}{N:Nat}{d:TD}{H X:Int->Int->Int}
end
section
variable {h:af}{A:WA}{a:TA}{N:Nat}{d:TD}{R:RD}{H X:Int->Int->Int}
end
section
variable {h:af}{A:WA}{a:TA}{N:Nat}{d:TD}{R:RD}{H X:Int->Int->Int}
end
def G6(k:Int)(f:FuncId)(n:Nat):MapEntry:={ key:=YYY k,val:=.func (.func f) ⟨[]⟩ ⟨[]⟩,born:=n }
def G7:bL:=.map [G6 1 212 0,G6 2 213 1,G6 3 214 2] 3
theorem findF(h:af)(k k':Int)(f:FuncId)(n:Nat)(es:List MapEntry)(i:Nat):gF prog h 3 (YYY k) (G6 k' f n::es) i=if k=k' then some (some (i,G6 k' f n))else gF prog h 3 (YYY k) es (Nat.succ i):=by
 have hf:gF prog h 3 (.int .i64 k) (G6 k' f n::es) i=(match(some (decide (k=k')):Option Bool)with|some true=>some (some (i,G6 k' f n))|some false=>gF prog h 3 (.int .i64 k) es (Nat.succ i)|none=>none):=by
  rw[<-eqI h];rfl
 rw[hf];by_cases e:k=k'
 .rw[bx e,if_pos e]
 .rw[aZ e,if_neg e]
theorem Jd{es:List MapEntry}{clock:Nat}{h:af}{b:Nat}(g:h.bl.get b=some (.map es clock))(hlo:h.lo<=b)(k:Int)(f:FuncId)(hf:∀h:af,gF prog h 3 (YYY k) es 0=some none)(V:KQ)(hk:V undef ⟨h.nx,h.bl.bq b (.map (es++[G6 k f clock]) (clock+1)),h.lo⟩):cM False prog 3 (.map (some b)) (YYY k) (.func (.func f) ⟨[]⟩ ⟨[]⟩) h V:=by
 unfold cM;rw[QZ];simp only[g,hf];rw[nJ];simp only[bY];rw[cg _ _ _ _ hlo];exact hk
theorem aaH(h:af)(V:KQ)(hlo:h.lo<=h.nx)(hk:∀b h',Le h h'->h'.bl.get b=some G7->V (.map (some b)) h'):aj prog 158 [] h V:=by
 apply YYZ;rw[Yo];simp(disch:=try exact Y)only[Wz,jc];refine Jd (es:=[]) (T.au _ _ _) (by exact hlo) 1 212 (λh=>rfl) _ ?_;refine Jd (T.au _ _ _) (by exact hlo) 2 213 (λh=>by rw[List.nil_append,findF,if_neg J0];rfl) _ ?_;refine Jd (T.au _ _ _) (by exact hlo) 3 214 (λh=>by rw[List.nil_append,List.singleton_append,findF,if_neg J0,findF,if_neg J0];rfl) _ ?_;exact hk h.nx _ ((((Le.refl h).new _).set (Nat.le_refl _) _).set (Nat.le_refl _) _ |>.set (Nat.le_refl _) _) (T.au _ _ _)
theorem WL{β:Type}{fl:β}{h:af}{b:Nat}(g:h.bl.get b=some G7)(k:Int)(f:FuncId)(hk:(k=1/\f=212)\/(k=2/\f=213))(V:UV β):dG fl prog 3 Value.nilFunc false (.map (some b)) (YYY k) h V=V (.func (.func f) ⟨[]⟩ ⟨[]⟩) h:=by
 unfold dG jJ;rw[QZ];simp only[g,G7];rcases hk with⟨rfl,rfl⟩|⟨rfl,rfl⟩
 .rw[findF,if_pos rfl];rfl
 .rw[findF,if_neg J0,findF,if_pos rfl];rfl
section
variable {h:af}{A:WA}{a:TA}{N:Nat}{d:TD}{R:RD}{H X:Int->Int->Int}
end
theorem G8(n:Nat):a_ [YYY 0] n=Ja (List.replicate n 0):=by
 unfold Ja
 induction n with
 |zero=>rfl
 |succ n ih=>rw[List.replicate_succ,List.map_cons,<-ih];rfl
theorem zO(n:Nat):a_ [Value.pointer none] n=List.replicate n (.pointer none):=by
 induction n with
 |zero=>rfl
 |succ n ih=>rw[List.replicate_succ,<-ih];rfl
theorem sv(v:Value)(n:Nat):(a_ [v] n).length=n:=by
 induction n with
 |zero=>rfl
 |succ n ih=>show(v::a_ [v] n).length=_;rw[List.length_cons,ih]
theorem G9(n:Nat)(hn:1<=n/\n<=8)(h:af)(V:KQ)(hk:∀h' pb ib,Le h h'->h.nx<=ib->ib<h'.nx->pb<h'.nx->h'.bl.get pb=some (ai [YYX ib n n] 244 false)->h'.bl.get ib=some (ai (Ja (List.replicate n 0)) 3 false)->V (.tuple ⟨[YYQ pb,YYY 0]⟩) h'):aj prog 99 [YYY (n:Int)] h V:=by
 apply YYZ;rw[ad4];have hrl:=sv (I 0) n;simp(disch:=try exact Y)only[Wz,dF (show(1:Int)<=(n:Int)by omega),dF (show(n:Int)<=8 by omega)];rw[CH _ _ _ _ _ XQ XQ,G8];simp(disch:=try exact Y)only[Wz];exact hk _ _ _ (((Le.refl h).new _).new _) (Nat.le_refl _) (by show h.nx<h.nx+1+1;omega) (by show h.nx+1<h.nx+1+1;omega) (T.au _ _ _) ((T.ax _ _ XQ).trans (T.au _ _ _))
theorem Je(n:Nat)(hn:1<=n/\n<=16)(h:af)(V:KQ)(hk:∀h' lb hb,Le h h'->h.nx<=hb->hb<h'.nx->lb<h'.nx->h'.bl.get lb=some (ai [YYX hb n n] 247 false)->h'.bl.get hb=some (ai (List.replicate n (.pointer none)) 251 false)->V (.tuple ⟨[YYQ lb,YYY 0]⟩) h'):aj prog 100 [YYY (n:Int)] h V:=by
 apply YYZ;rw[XT];have hrl:=sv (.pointer none) n;simp(disch:=try exact Y)only[Wz,dF (show(1:Int)<=(n:Int)by omega),dF (show(n:Int)<=16 by omega)];rw[CH _ _ _ _ _ XQ XQ,zO];simp(disch:=try exact Y)only[Wz];exact hk _ _ _ (((Le.refl h).new _).new _) (Nat.le_refl _) (by show h.nx<h.nx+1+1;omega) (by show h.nx+1<h.nx+1+1;omega) (T.au _ _ _) ((T.ax _ _ XQ).trans (T.au _ _ _))
theorem Jf(h:af)(V:KQ)(hk:V (YYQ h.nx) ⟨h.nx+1,h.bl.bq h.nx (ai [YYY 0,.slice none 0 0] 200 false),h.lo⟩):aj prog 101 [] h V:=by
 apply YYZ;rw[XU];simp(disch:=try exact Y)only[Wz];exact hk
theorem Rw{h:af}{a:TA}{N:Nat}{d:TD}(s:AR h a N d)(hB:kK d.B=[]):(∀b∈d.Ts,b.M=[])/\d.F.length=d.B.length:=by
 constructor
 .intro b hb;cases hM:b.M with
  |nil=>rfl
  |cons e M=>
   exfalso;have he:e∈b.M:=by rw[hM];exact .head _
   have ids:=s.ids;rw[hB]at ids;have AO:=ids.eq_nil;have g:=((s.is.bk b hb).good e he)
   cases hQ:e.Q with
   |nil=>exact g.ne hQ
   |cons p Q=>
    have:p.id∈d.Ts.flatMap λb=>gq b.M:=List.mem_flatMap.2 ⟨b,hb,by
     unfold gq;exact List.mem_flatMap.2 ⟨e,he,List.mem_map.2 ⟨p,by rw[hQ];exact .head _,rfl⟩⟩⟩
    rw[AO]at this;cases this
 .have:=tO s.is.aL.ok;rw[hB]at this;simpa using this
structure aaI(A:WA)(a:TA)(d:TD)(R:RD)(c:gr)(n:Nat):Prop where
 ec:a.c=c
 en:A.n=n
 hd:(a.aY:Int)=c.H
 em:∀b∈d.Ts,b.M=[]
 f:(d.F.length:Int)=c.R
 cs:R.cs=List.replicate n none
 dO:R.dO=List.replicate c.S.toNat none
 bits:R.bits=List.replicate n 0
 begun:R.begun=0
 now:R.now=0
 tv:R.tv=.slice none 0 0
 ms:a.ms=A.mb::a.bw::d.Ts.map (·.bm)
theorem zP(a:Option Nat):(Value.cells (.map a)).toList=[.map a]:=id rfl
theorem akL(n:Nat)(hn:n<=8)(h:af)(V:KQ)(hk:V (YYX h.nx n n) ⟨h.nx+1,h.bl.bq h.nx (ai (List.replicate n (.pointer none)) 118 false),h.lo⟩):Ad (match Value.int .i64 (n:Int),Value.int .i64 (n:Int)with | .int _ (.ofNat l),.int _ (.ofNat c)=>(match Nat.ble l c,Nat.ble c 1000000 with|true,true=>(aK none (a_ [(Value.pointer none)] c) 118 false λo=>some (o,bU l c))|_,_=>none)|_,_=>none) h V:=by
 have e1:Nat.ble n n=true:=by rw[Nat.ble_eq];exact Nat.le_refl _
 have e2:Nat.ble n 1000000=true:=by rw[Nat.ble_eq];omega
 have hl:=sv (.pointer none) n
 show Ad (match Nat.ble n n,Nat.ble n 1000000 with|true,true=>(aK none (a_ [(Value.pointer none)] n) 118 false λo=>some (o,bU n n))|_,_=>none) h V
 rw[e1,e2];simp only;rw[iX,yd,zO]
 .exact hk
 .omega
theorem aaJ(c:gr)(hc:jF c)(n:Nat)(hn:1<=n/\n<=8)(h:af)(hlo:h.lo<=h.nx)(V:KQ)(hk:∀h' A a d R,aaI A a d R c n->WS h' A a 0 d R->Le h h'->(∀x,FB h' a.bp x->h.nx<=x)->V (.tuple ⟨[YYQ A.wb,YYY 0]⟩) h'):aj prog 52 [rE c,YYY (n:Int)] h V:=by
 obtain⟨S,hS⟩:∃S:Nat,c.S=(S:Int):=⟨c.S.toNat,by have:=hc.1;omega⟩
 apply YYZ;rw[adD];simp(disch:=try exact Y)only[Wz,rE];obtain⟨hA,bh,aU,g1,eE,eG⟩:=nP h (ai [YYY c.S,YYY c.H,YYY c.R,YYY c.P] 115 false);rw[<-bh];clear bh;refine Uq c hA _ XQ ?_ ?_
 .intro h1 e _ hno _;exact absurd hc hno
 intro h1 tb bw bp bl vb aY Ts F _ t1 gbm gbw gbp gbl bN fb1;have n1:=bN.nx;have l1:=bN.lo;have hcS:1<=S/\S<=16:=by have:=hc.1;have:=hc.2.1;omega
 have Lr:=bN.nx;have Ls:=bN.lo;have g1:=(bN.get _ XQ).trans g1;simp(disch:=try exact Y)only[Wz,KH];refine G9 n hn h1 _ ?_;intro h2 pb ib bF i1 i2 p2 gp gi;have n2:=bF.nx;have l2:=bF.lo;have tV:=bF.nx;have tW:=bF.lo;have g1:=(bF.get _ XQ).trans g1;simp(disch:=try exact Y)only[Wz,KG,aN,g1,hS];refine Je S hcS h2 _ ?_;intro h3 lb hb cT j1 j2 q2 gl gh;have n3:=cT.nx;have l3:=cT.lo;simp(disch:=try exact Y)only[Wz];refine akL n hn.2 h3 _ ?_;simp(disch:=try exact Y)only[Wz,aq,bU,jc];obtain⟨h4,e4⟩:∃h4:af,h4=⟨h3.nx+1+1,(h3.bl.bq h3.nx (ai (List.replicate n (Value.pointer none)) 118 false)).bq (h3.nx+1) (bL.map [] 0),h3.lo⟩:=⟨_,rfl⟩
 have kU:Le h3 h4:=by rw[e4];exact((Le.refl h3).new _).new _
 have gc4:h4.bl.get h3.nx=some (ai (List.replicate n (Value.pointer none)) 118 false):=by rw[e4];exact(T.ax _ _ XQ).trans (T.au _ _ _)
 have gm4:h4.bl.get (h3.nx+1)=some (bL.map [] 0):=by rw[e4];exact T.au _ _ _
 have n4:h4.nx=h3.nx+1+1:=by rw[e4]
 have l4:=kU.lo;rw[<-e4];clear e4;refine Jf h4 _ ?_;obtain⟨h5,e5⟩:∃h5:af,h5=⟨h4.nx+1,h4.bl.bq h4.nx (ai [YYY 0,.slice none 0 0] 200 false),h4.lo⟩:=⟨_,rfl⟩
 have qe:Le h4 h5:=by rw[e5];exact(Le.refl h4).new _
 have gk5:h5.bl.get h4.nx=some (ai [YYY 0,.slice none 0 0] 200 false):=by rw[e5];exact T.au _ _ _
 have n5:h5.nx=h4.nx+1:=by rw[e5]
 have l5:=qe.lo;rw[<-e5];clear e5;simp(disch:=try exact Y)only[Wz];rw[qH _ _ _ _ _ _ _ (by rw[zP];rfl) (Nat.le_of_ble_eq_true rfl),tf];simp(disch:=try exact Y)only[Wz,zP];obtain⟨h6,e6⟩:∃h6:af,h6=⟨h5.nx+1,h5.bl.bq h5.nx (ai [YYQ tb,YYQ lb,YYQ pb,YYQ h4.nx,YYX h3.nx n n,.map (some (h3.nx+1)),YYY 0] 126 false),h5.lo⟩:=⟨_,rfl⟩
 have zy:Le h5 h6:=by rw[e6];exact(Le.refl h5).new _
 have gw6:h6.bl.get h5.nx=some (ai [YYQ tb,YYQ lb,YYQ pb,YYQ h4.nx,YYX h3.nx n n,.map (some (h3.nx+1)),YYY 0] 126 false):=by rw[e6];exact T.au _ _ _
 have n6:h6.nx=h5.nx+1:=by rw[e6]
 have l6:=zy.lo;have hk:=hk h6 ⟨h5.nx,lb,hb,pb,ib,h4.nx,h3.nx,h3.nx+1,n⟩ ⟨tb,bw,bp,bl,c,vb,aY,(h3.nx+1)::bw::Ts.map (·.bm)⟩ ⟨Ts,[],0,F,List.replicate c.R.toNat false⟩ ⟨List.replicate S none,List.replicate n 0,0,.slice none 0 0,List.replicate n none,[],0,0⟩;have t6:=t1.le (bF.trans (cT.trans (kU.trans (qe.trans zy))));have I9:=kU.trans (qe.trans zy);have UD:=cT.trans I9;have nl:=Rw (a:=⟨tb,bw,bp,bl,c,vb,aY,(h3.nx+1)::bw::Ts.map (·.bm)⟩) (d:=⟨Ts,[],0,F,List.replicate c.R.toNat false⟩) t6 (GV _);have hR:=hc.2.2.2.2.1;have apG:=t1.is.De;rw[e6]at hk;refine hk ⟨rfl,rfl,t1.cH,nl.1,?_,rfl,?_,rfl,rfl,rfl,rfl,rfl⟩ ?_ (aU.trans (bN.trans (bF.trans (UD.trans (by rw[e6];exact Le.refl _))))) ?_
 .have:=nl.2;simp only[List.length_replicate]at this
  show(F.length:Int)=c.R
  omega
 .show List.replicate S none=List.replicate c.S.toNat none
  rw[hS];rfl
 .rw[<-e6];have Xl:∀(m:Nat)(f:Option CR->Value),f none=.pointer none->(List.replicate m (none:Option CR)).map f=List.replicate m (.pointer none):=λm f hf=>by rw[List.map_replicate,hf]
  have hm2:∀(m:Nat) (f:Option (Nat × Int)->Value),f none=.pointer none->(List.replicate m (none:Option (Nat × Int))).map f=List.replicate m (.pointer none):=λm f hf=>by rw[List.map_replicate,hf]
  refine⟨t6,⟨⟨by show h5.nx<h6.nx;omega,by show h6.lo<=h5.nx;omega⟩,gw6,by show lb<h6.nx;omega,?_,⟨by show hb<h6.nx;omega,by show h6.lo<=hb;omega⟩,?_,?_,by show pb<h6.nx;omega,?_,⟨by show ib<h6.nx;omega,by show h6.lo<=ib;omega⟩,?_,List.length_replicate ..,⟨by show h4.nx<h6.nx;omega,by show h6.lo<=h4.nx;omega⟩,?_,⟨by show h3.nx<h6.nx;omega,by show h6.lo<=h3.nx;omega⟩,?_,List.length_replicate ..,?_,⟨by show h3.nx+1<h6.nx;omega,by show h6.lo<=h3.nx+1;omega⟩,?_,hn,?_⟩,?_,?_,⟨.head _,.tail _ (.head _),λb hb'=>.tail _ (.tail _ (List.mem_map.2 ⟨b,hb',rfl⟩))⟩,XQ⟩
  .simp only[List.length_replicate];exact(I9.get _ q2).trans gl
  .rw[hm2 S _ rfl];exact(I9.get _ j2).trans gh
  .intro p hp;rw[List.mem_replicate]at hp;nomatch hp.2
  .exact(UD.get _ p2).trans gp
  .exact(UD.get _ i2).trans gi
  .exact(zy.get h4.nx XQ).trans gk5
  .show h6.bl.get h3.nx=_
   rw[Xl n _ rfl];exact((qe.trans zy).get h3.nx XQ).trans gc4
  .intro p hp;rw[List.mem_replicate]at hp;nomatch hp.2
  .exact((qe.trans zy).get (h3.nx+1) XQ).trans gm4
  .rw[List.pairwise_replicate];exact .inr λc c' e=>nomatch e
  .show h3.nx+1≠bw;omega
  .intro b hb';have:=(t1.is.bk b hb').xq
   show h3.nx+1≠b.bm;omega
 ·intro x hx;rw[<-e6]at hx;obtain⟨_,_,hb1,_⟩:∃fs ls,bp<h1.nx/\h1.bl.get bp=some (ai [fs,ls] 286 false):=by
   obtain⟨fs,hg,_⟩:=t1.is.aL.fr.cell;exact⟨fs,_,t1.is.aL.fr.lt,hg⟩
  have:=fb1 x ((FB.congr ((bF.trans UD).get bp hb1)).1 hx);omega
def v_(h:af):Prop:=∀d,(∀vs t o,h.bl.get d≠some (ai vs t o))/\∀es c,h.bl.get d≠some (.map es c)
section
variable {h:af}{A:WA}{a:TA}{N:Nat}{d:TD}{R:RD}
theorem WS.UE(s:WS h A a N d R){x:Nat}{v:List Value}{t:TypeId}{o:Bool}(hg:h.bl.get x=some (ai v t o))(ht:¬o_ t o)(hr:¬nj t o)(ob:bL):WS ⟨h.nx,h.bl.bq x ob,h.lo⟩ A a N d R:=by
 refine⟨kg.put s.t ob (λvs ty op h1 e=>?_) (fH hg s.t.is.oV) λb hb=>fH hg (s.t.is.bk b hb).gP,s.r.keep (Nat.le_refl _) rfl (λc vs ty op _ h1 e=>T.ax _ _ ?_) (T.ax _ _ (fH hg s.r.gm)),s.mw,s.mm,s.mi,s.lo⟩
 .rw[hg]at e;obtain⟨rfl,rfl⟩:=oK e;exact ht h1
 .rintro rfl;rw[hg]at e;obtain⟨rfl,rfl⟩:=oK e;exact hr h1
end
theorem qS{α:Type}{l:List α}{i:Nat}{x y:α}(h:l[i]? = some y):(l.set i x)[i]? = some x:=by rw[List.getElem?_set,if_pos rfl,if_pos (List.getElem?_eq_some_iff.1 h).1]
theorem BN{α:Type}{l:List α}{i j:Nat}{x:α}(h:j≠i):(l.set i x)[j]? = l[j]?:=by rw[List.getElem?_set,if_neg (λe=>h e.symm)]
section
variable {h:af}{A:WA}{a:TA}{N:Nat}{d:TD}{R:RD}{H X Hk Gn:Int->Int->Int}
end
section
variable {h:af}{A:WA}{a:TA}{N:Nat}{d:TD}{R:RD}{H X Hk Gn:Int->Int->Int}
end
def Jg:gr:=⟨2,8,24,2⟩
theorem MZ(h:af)(V:KQ)(hlo:h.lo<=h.nx)(hk:∀h',Le h h'->V (rE Jg) h'):aj prog 53 [] h V:=by
 apply YYZ;rw[adE];simp(disch:=try exact Y)only[Wz];exact hk _ ((Le.refl h).new _)
theorem aaI.bit{A:WA}{a:TA}{d:TD}{R:RD}{c:gr}{n i:Nat}(nw:aaI A a d R c n)(hi:i<n):R.bits[i]? = some 0:=by
 rw[nw.bits,List.getElem?_replicate,if_pos hi]
theorem UG{t r:Int}(h:bf t r≠-1):∃k:Nat,k<2/\ef t r 2=(k:Int):=by
 unfold ef;rw[if_neg (by rintro(h1|h1|h1)<;>first|omega|exact h h1)];have h1:=Int.tmod_nonneg (a:=vf (jv t r)) 2 (sk _).1;have h2:=Int.tmod_lt_of_pos (vf (jv t r)) (show(0:Int)<2 by decide);exact⟨((vf (jv t r)).tmod 2).toNat,XQ,XQ⟩
theorem aaK(t:Int)(h:af)(V:KQ)(hlo:h.lo<=h.nx)(hk:∀h',Le h h'->V (cQ t (-1)) h'):aj prog 50 [YYY t] h V:=by
 apply YYZ;rw[adC];simp(disch:=try exact Y)only[Wz];exact hk _ ((Le.refl h).new _)
def ja(m:Int):Int:=if m=1\/m=3 then 1 else if m=2\/m=4\/m=5\/m=6 then 2 else 0
theorem G_{f:FuncId}{F:Int->Value}(h1:∀i,i<7->br prog 200 f [YYY (.ofNat i)] (F (.ofNat i))=true)(h2:∀(n:Nat),br prog 200 f [YYY (.negSucc n)] (F (.negSucc n))=true)(h3:∀(n:Nat),br prog 200 f [YYY (.ofNat (n+7))] (F (.ofNat (n+7)))=true)(a:Int){h:af}{V:KQ}(hk:V (F a) h):aj prog f [YYY a] h V:=by
 refine td mixed (n:=200) ?_ hk;rcases uV a with⟨i,hi,rfl⟩|⟨n,rfl⟩|⟨n,rfl⟩
 .exact h1 i hi
 .exact h2 n
 .exact h3 n
theorem He(n:Nat):ja (.negSucc n)=0:=by unfold ja;rw[if_neg XQ,if_neg XQ]
theorem Hf(n:Nat):ja (.ofNat (n+7))=0:=by
 have:(Int.ofNat (n+7))=(n:Int)+7:=rfl;rw[this];unfold ja;rw[if_neg XQ,if_neg XQ]
theorem aaL:∀i,i<7->br prog 200 180 [YYY (.ofNat i)] (YYY (ja (.ofNat i)))=true:=by decide +kernel
theorem aaM(n:Nat):br prog 200 180 [YYY (.negSucc n)] (YYY 0)=true:=by kernel_rfl
theorem aaN(n:Nat):br prog 200 180 [YYY (.ofNat (n+7))] (YYY 0)=true:=by kernel_rfl
theorem Hg(a:Int){h:af}{V:KQ}(hk:V (YYY (ja a)) h):aj prog 180 [YYY a] h V:=
 G_ (F:=λa=>YYY (ja a)) aaL (λn=>by rw[He];exact aaM n) (λn=>by rw[Hf];exact aaN n) a hk
abbrev N2:=Int × Int
def gu(t r:Int):List N2:=if bf t r=1 then[(-1,-1)]else if bf t r=2 then[(-1,-1),(t,-1)]else[]
theorem t_(t r:Int):(gu t r).length<=2:=by unfold gu;split<;>(try split)<;>simp
theorem og(t r:Int):bf t r = -1\/bf t r=0\/bf t r=1\/bf t r=2:=by unfold bf;split<;>(try split)<;>(try split)<;>simp
theorem afS{h:af}{V:KQ}(hk:V (cQ (-1) (-1)) h):aj prog 202 [] h V:=
 td mixed (show br prog 100 202 [] (cQ (-1) (-1))=true by kernel_rfl) hk
theorem BO(zs:List Value)(n:Nat):a_ zs (n+1)=zs++a_ zs n:=id rfl
theorem aaO{β:Type}{fl:β}(a:Int)(h:af)(V:UV β)(ha:0<=a):BZ fl (YYY a) (YYY 0) h V=V (YYY a) h:=by
 unfold BZ;simp only;rw[gG,aZ XQ]
theorem akM{β:Type}{fl:β}(h:af)(V:UV β):BZ fl (YYY (-1)) (YYY 0) h V=V (YYY 0) h:=id rfl
theorem Rx{β:Type}{fl:β}(b:Nat)(h:af)(V:UV β):sliceB fl 28 2 (YYX b 2 2) none (some (YYY 0)) none h V=V (YYX b 0 2) h:=by
 unfold sliceB;rfl
theorem aaP{β:Type}{fl:β}(b:Nat)(h:af)(V:UV β):sliceB fl 28 2 (YYX b 2 2) none (some (YYY 1)) none h V=V (YYX b 1 2) h:=by
 unfold sliceB;rfl
theorem aaQ{β:Type}{fl:β}(b:Nat)(h:af)(V:UV β):sliceB fl 28 2 (YYX b 2 2) none (some (YYY 2)) none h V=V (YYX b 2 2) h:=by
 unfold sliceB;rfl
theorem Ry(t r:Int)(h:af)(V:KQ)(hlo:h.lo<=h.nx)(hk:∀v h',Sl eP h' v (gu t r)->ki 8 v v=true->Le h h'->V v h'):aj prog 181 [cQ t r] h V:=by
 apply YYZ;rw[Yz];simp(disch:=try exact Y)only[Wz,cQ];refine afS ?_;simp(disch:=try exact Y)only[Wz,cQ,BO,List.cons_append,List.nil_append];refine qP t r ?_;have hle1:=(Le.refl h).new (ai [YYY t,YYY r] 28 false);have hle2:=hle1.new (ai [YYY (-1),YYY (-1),YYY t,YYY (-1)] 28 false);have hh:∀k,k<=4->Has ((T.bq (T.bq h.bl h.nx (ai [YYY t,YYY r] 28 false)) (h.nx+1) (ai [YYY (-1),YYY (-1),YYY t,YYY (-1)] 28 false)).get (h.nx+1)) 0 ([YYY (-1),YYY (-1),YYY t,YYY (-1)].take k):=by
  intro k hk;rw[T.au];have:=Has.cells (vs:=[YYY (-1),YYY (-1),YYY t,YYY (-1)]) (e:=28) (op:=false) (o:=0) (k:=k) (by simpa using hk);simpa using this
 rcases og t r with h1|h1|h1|h1
 .simp(disch:=try exact Y)only[Wz,h1,akM,Rx];exact hk _ _ ⟨some ⟨h.nx+1,0,none⟩,2,by simp[gu,h1],λhn=>by simp[gu,h1]at hn⟩ (gO _ _ _ _) hle2
 .simp(disch:=try exact Y)only[Wz,h1,aaO,Rx];exact hk _ _ ⟨some ⟨h.nx+1,0,none⟩,2,by simp[gu,h1],λhn=>by simp[gu,h1]at hn⟩ (gO _ _ _ _) hle2
 .simp(disch:=try exact Y)only[Wz,h1,aaO,aaP];exact hk _ _ ⟨some ⟨h.nx+1,0,none⟩,2,by simp[gu,h1],λ_=>⟨_,0,rfl,Nat.lt_succ_self _,by simpa[gu,h1,eP]using hh 2 XQ⟩⟩ (gO _ _ _ _) hle2
 .simp(disch:=try exact Y)only[Wz,h1,aaO,aaQ];exact hk _ _ ⟨some ⟨h.nx+1,0,none⟩,2,by simp[gu,h1],λ_=>⟨_,0,rfl,Nat.lt_succ_self _,by simpa[gu,h1,eP]using hh 4 XQ⟩⟩ (gO _ _ _ _) hle2
theorem ldN{h:af}{v:Value}{L:List N2}(hs:Sl eP h v L)(i:Nat){p:N2}(hp:L[i]? = some p):∃b o,b<h.nx/\(∀(β:Type)(fl:β)(h':af)(V:UV β),aI fl 2 v (YYY (i:Int)) h' V=V (.pointer (some ⟨b,o,none⟩)) h')/\
   ((∀(β:Type)(fl:β)(V:List Value->β),wW fl (h.bl.get b) o 2 V=V (eP p))/\
   (∀(β:Type)(fl:β)(V:Value->β),uv fl (h.bl.get b) o V=V (YYY p.1))/\
   (∀(β:Type)(fl:β)(V:Value->β),uv fl (h.bl.get b) (o+1) V=V (YYY p.2))):=by
 obtain⟨b,o,h1,h2,h3,hh⟩:=hs.ld encN_len i hp;have h4:(eP p).length=2:=rfl;refine⟨b,o,h1,h2,h3,λβ fl V=>?_,λβ fl V=>?_⟩
 .exact eO (fl:=fl) hh 0 V XQ
 .exact eO (fl:=fl) hh 1 V XQ
abbrev wO(p:L4):Value:=.agg ⟨bS p⟩
theorem ldP{h:af}{v:Value}{L:List L4}(hs:Sl bS h v L)(i:Nat){p:L4}(hp:L[i]? = some p):∃b o,b<h.nx/\(∀(β:Type)(fl:β)(h':af)(V:UV β),aI fl 4 v (YYY (i:Int)) h' V=V (.pointer (some ⟨b,o,none⟩)) h')/\
   ((∀(β:Type)(fl:β)(V:List Value->β),wW fl (h.bl.get b) o 4 V=V (bS p))/\
   (∀(β:Type)(fl:β)(V:List Value->β),wW fl (h.bl.get b) (o+1) 2 V=V [YYY p.t,YYY p.r])/\
   (∀(β:Type)(fl:β)(V:Value->β),uv fl (h.bl.get b) o V=V (YYY p.x))/\
   (∀(β:Type)(fl:β)(V:Value->β),uv fl (h.bl.get b) (o+1) V=V (YYY p.t))/\
   (∀(β:Type)(fl:β)(V:Value->β),uv fl (h.bl.get b) (o+2) V=V (YYY p.r))/\
   (∀(β:Type)(fl:β)(V:Value->β),uv fl (h.bl.get b) (o+3) V=V (YYY p.m))):=by
 obtain⟨b,o,h1,h2,h3,hh⟩:=hs.ld cC i hp;have h4:(bS p).length=4:=rfl;refine⟨b,o,h1,h2,h3,λβ fl V=>oD (hh.sub 1 2 XQ) 2 V rfl,λβ fl V=>?_,λβ fl V=>?_,λβ fl V=>?_,λβ fl V=>?_⟩
 .exact eO (fl:=fl) hh 0 V XQ
 .exact eO (fl:=fl) hh 1 V XQ
 .exact eO (fl:=fl) hh 2 V XQ
 .exact eO (fl:=fl) hh 3 V XQ
def zL:List Value:=[YYY 0,YYY 0,YYY 0,YYY 0]
theorem akN:ED prog 43:=⟨λh n c n' c'=>by kernel_rfl,λh a n c n' c'=>by kernel_rfl⟩
theorem Rz(a0 a1:Value)(h:af)(V:KQ):aT prog 253 [a0,a1] h V=eW prog 3 4 a0 a1 h V:=by kernel_rfl
theorem aaR(a0:Value)(h:af)(V:KQ):aT prog 76 [a0] h V=wY prog 43 46 4 zL a0 h V:=by kernel_rfl
theorem RA(a0 a1:Value)(h:af)(V:KQ):aT prog 264 [a0,a1] h V=eX prog 3 253 46 4 zL a0 a1 h V:=by kernel_rfl
theorem zQ(L:List L4)(F:L4->Bool)(h:af)(v fv:Value)(V:KQ)(hv:Sl bS h v L)(hlen:L.length<=1000000)(hF:∀p,p∈L->∀(h1:af)(κ1:Value->af->Prop),Le h h1->(∀h2,Le h1 h2->κ1 (.bool (F p)) h2)->fL prog fv [Cz bS p] h1 κ1)(hk:∀h',Le h h'->V (YYY (fS (L.findIdx? F))) h'):aj prog 253 [v,fv] h V:=lR mixed cC Rz L F h v fv V hv hlen hF hk
theorem qi(L:List L4)(h:af)(v:Value)(V:KQ)(hv:Sl bS h v L)(hlen:L.length<=1000000)(hlo:h.lo<=h.nx)(hk:∀v' h',qZ h h' v' L->Le h h'->V v' h'):aj prog 76 [v] h V:=
 Pb mixed cC oc J0 J0 akN aaR L h v V hv hlen hlo hk
theorem M0(a h:af)(L:List L4)(F:L4->Bool)(v fv:Value)(V:KQ)(hle:Le a h)(ho:qZ a h v L)(hlen:L.length<=100000)(hlo:a.lo<=a.nx)(hF:∀p,∀(h1:af)(κ1:Value->af->Prop),Le a h1->(h.nx<=h1.nx/\∀c,c<h.nx->h.bl.get c≠some (ai (L.flatMap bS) 46 true)->h1.bl.get c=h.bl.get c)->(∀h2,Le h1 h2->κ1 (.bool (F p)) h2)->fL prog fv [Cz bS p] h1 κ1)(hk:∀v' h',Sl bS h' v' (L.filter λp=>!F p)->Cut 46 4 h' v' (L.filter λp=>!F p).length->Le a h'->(h.nx<=h'.nx/\∀c,c<h.nx->h.bl.get c≠some (ai (L.flatMap bS) 46 true)->h'.bl.get c=h.bl.get c)->vS 46 h' v'->V v' h'):aj prog 264 [v,fv] h V:=
 yo mixed cC oc J0 J0 J0 J0 Rz RA a h L F v fv V hle ho hlen hlo hF hk
end Go.Proofs

namespace Go.Vai
open Go
variable {P:Program}{w:World}
theorem RC{B:Nat}{C:Array Value}{e:TypeId}(hC:w.heap[B]? = some (.cells C e (0,0)))(o j:Nat):w.cell? ((⟨B,o,none⟩:Addr).add j)=C[o+j]?:=by
 rw[je];simp[World.cell?,hC]
theorem fh{B o k m n c:Nat}{C:Array Value}{e:TypeId}(hC:w.heap[B]? = some (.cells C e (0,0)))(hle:o+m*k<=C.size):(Builtin.firstCells k m (.slice (some ⟨B,o,none⟩) n c)).run P w=.ok ((C.toList.drop o).take (m*k)).toArray w:=by
 have hlen:((C.toList.drop o).take (m*k)).length=m*k:=by simp;omega
 have:=run_loadCells_list (P:=P) w ⟨B,o,none⟩ ((C.toList.drop o).take (m*k)) λj v hj=>by
  rw[RC hC];rw[List.getElem?_take]at hj;split at hj
  .simpa[List.getElem?_drop]using hj
  .cases hj
 rw[hlen]at this;exact this
theorem iL{tS e k ty D o dl dc n c:Nat}{a:Option Addr}{l':List Value}{R:Array Value}(hu:P.underlying tS=some (.slice e))(hs:e_ P e=some k)(hf:(Builtin.firstCells k (Nat.min n dl) (.slice a n c)).run P w=.ok l'.toArray w)(hR:w.heap[D]? = some (.cells R e (0,0)))(hfit:o+l'.length<=R.size)(hone:∀v∈l',v.oneCell'=true):(Builtin.copy_ #[tS,tS] ty #[.slice (some ⟨D,o,none⟩) dl dc,.slice a n c]).run P w=.ok (goInt (Nat.min n dl)) (w.setRow D (R.toList.take o++l'++R.toList.drop (o+l'.length)).toArray):=by
 have h1:=run_storeCells_at P D o e l' 0 R w hR (by simpa using hfit) hone;simp only[Nat.add_zero]at h1;simp[Builtin.copy_,aX hu,cB hs,Builtin.lenOf,hf,h1,goInt]
theorem Jh(L:List Value)(a b N:Nat)(h1:a<=N)(h2:N+b<=L.length):(L.take (a+b)++(L.drop a).take (N-a)++L.drop (N+b)).take a=(L.take N).take a:=by
 rw[List.append_assoc,List.take_append_of_le_length (by simp;omega),List.take_take,List.take_take]
 congr 1;omega
theorem Ji(L:List Value)(a b N:Nat)(h1:a<=N)(h2:N+b<=L.length):(L.take (a+b)++(L.drop a).take (N-a)++L.drop (N+b)).drop (a+b)=(L.take N).drop a++L.drop (N+b):=by
 rw[List.append_assoc,List.drop_left' (by simp;omega),List.drop_take]
end Go.Vai

namespace Go.Proofs
open Go.Shelf Go.RowKit Go.Lib Go.Vai
open Tryz (prog)
set_option maxHeartbeats 4000000 in
set_option maxRecDepth 100000 in
theorem Jj(base:Option Addr)(n c VB vo m vc:Nat)(w:World)(r:Value)(w':World)(hm:0<m)(hle:n<=c)(hr:(Builtin.append_ #[43,43] 43 #[.slice base n c,.slice (some ⟨VB,vo,none⟩) m vc]).run prog w=.ok r w'):Calls prog 255 #[.slice base n c,.int .i64 n,.slice (some ⟨VB,vo,none⟩) m vc] w λe w''=>e=.returned r/\w''=w':=by
 have hz1:¬((m:Int)=0):=by omega
 go_enter Tryz.func255,Tryz.ntmps255
 go_wp2_with (at_builtin;refine Lib.wpList_append_run _ rfl _ _ 43 43 rfl _ _ rfl rfl _ _ hr ?_)
 all_goals go_ret
 all_goals exact⟨rfl,rfl⟩
theorem BP:prog.underlying 43=some (.slice 46):=Tryz.underlying43
theorem M1:e_ prog 46=some 4:=by kernel_rfl
set_option maxHeartbeats 4000000 in
set_option maxRecDepth 100000 in
theorem Jk(B n c i VB vo m vc:Nat)(C VC:Array Value)(e2:TypeId)(new:List Value)(w:World)(hne:B≠VB)(hi:i<n)(hm:0<m)(hroom:n+m<=c)(sY:n+m<=1000000)(hC:w.heap[B]? = some (.cells C 46 (0,0)))(hV:w.heap[VB]? = some (.cells VC e2 (0,0)))(hcs:c*4<=C.size)(hf:∀w1:World,w1.heap[VB]? = w.heap[VB]?->(Builtin.firstCells 4 m (.slice (some ⟨VB,vo,none⟩) m vc)).run prog w1=.ok new.toArray w1)(hnl:new.length=m*4)(h1v:∀v∈new,v.oneCell'=true)(h1c:∀v∈C.toList.take (n*4),v.oneCell'=true):Calls prog 255 #[.slice (some ⟨B,0,none⟩) n c,.int .i64 i,.slice (some ⟨VB,vo,none⟩) m vc] w λe w''=>e=.returned (.slice (some ⟨B,0,none⟩) (n+m) c)/\
   ∃d,w.drawn<=d/\w''={ w.setRow B (((C.toList.take (n*4)).take (i*4)++new++(C.toList.take (n*4)).drop (i*4))++C.toList.drop ((n+m)*4)).toArray with drawn:=d }:=by
 have mixed:=mixed;have hz1:¬((m:Int)=0):=by omega
 have xU:¬((i:Int)=(n:Int)):=by omega
 have hw1:IntKind.i64.wrap ((i:Int)+(m:Int))=(i:Int)+(m:Int):=by rw[IntKind.wrap_i64];omega
 have hw2:IntKind.i64.wrap ((n:Int)+(m:Int))=(n:Int)+(m:Int):=by rw[IntKind.wrap_i64];omega
 have hb1:(0:Int)<=(i:Int)+(m:Int):=by omega
 have hin:i<=n:=by omega
 have htn:((i:Int)+(m:Int)).toNat=i+m:=by omega
 have hb2:¬(c=i+m):=by omega
 have hb3:(i:Int)<=(n:Int)+(m:Int):=by omega
 have hb4:¬(c=i):=by omega
 have hB:C.size≠0:=by omega
 have apI:∀j,w.frozen? ⟨B,j,none⟩=false:=λj=>by simp[World.frozen?,hC]
 have afT:∀j,w.frozen? ⟨VB,j,none⟩=false:=λj=>by simp[World.frozen?,hV]
 have CB:∀lb cb,(callFunc 326 #[.slice (some ⟨VB,vo,none⟩) m vc,.slice (some ⟨B,(i+m)*4,none⟩) lb cb]).run prog w=.ok (.value (.bool false)) w:=λlb cb=>by
  rw[run_callFunc_extern Tryz.func326 (by kernel_rfl) (by kernel_rfl) (by kernel_rfl) (e:=Extern.SlicesOverlaps.overlaps #[43,43] #[4]) (by kernel_rfl),
   Lib.run_overlaps_apart w 43 4 46 BP 4 (λw=>cB M1) ⟨VB,vo,none⟩ ⟨B,(i+m)*4,none⟩ m vc lb cb (λe=>hne e.symm) e2 46 VC.size C.size (by simp[World.shape?,hV]) (by simp[World.shape?,hC]) hB (afT _) (afT _)]
  rfl
 have hnc:(n+m)*4<=C.size:=by omega
 have hCd:w.drew.heap[B]? = some (.cells C 46 (0,0)):=hC;have pE:((C.toList.drop (i*4)).take ((n-i)*4)).length=(n-i)*4:=by simp;omega
 have aaS:∀ty dc sc,(Builtin.copy_ #[43,43] ty #[.slice (some ⟨B,(i+m)*4,none⟩) (n+m-(i+m)) dc,.slice (some ⟨B,i*4,none⟩) (n+m-i) sc]).run prog w.drew=.ok (goInt ((n-i:Nat))) (w.drew.setRow B (C.toList.take ((i+m)*4)++(C.toList.drop (i*4)).take ((n-i)*4)++C.toList.drop ((n+m)*4)).toArray):=λty dc sc=>by
  have hmin:Nat.min (n+m-i) (n+m-(i+m))=n-i:=by simp only[Nat.min_def];split<;>omega
  have h:=iL (P:=prog) (w:=w.drew) (ty:=ty) (D:=B) (o:=(i+m)*4) (dl:=n+m-(i+m)) (dc:=dc) (n:=n+m-i) (c:=sc) (a:=some ⟨B,i*4,none⟩) (l':=(C.toList.drop (i*4)).take ((n-i)*4)) BP M1
   (by rw[hmin];exact fh hCd (by omega)) hCd (by rw[pE];omega) (λv hv=>h1c v (by
    rw[List.mem_iff_getElem?]at hv ⊢;obtain⟨j,hj⟩:=hv;rw[List.getElem?_take]at hj;split at hj
    .rw[List.getElem?_drop]at hj;exact⟨i*4+j,by rw[List.getElem?_take_of_lt (by omega)];exact hj⟩
    .cases hj))
  rw[hmin,pE,show(i+m)*4+(n-i)*4=(n+m)*4 by omega]at h;exact h
 obtain⟨R1,SF⟩:∃R1:Array Value,R1=(C.toList.take ((i+m)*4)++(C.toList.drop (i*4)).take ((n-i)*4)++C.toList.drop ((n+m)*4)).toArray:=⟨_,rfl⟩
 rw[<-SF]at aaS;have akP:R1.size=C.size:=by rw[SF];simp;omega
 obtain⟨W1,WM⟩:∃W1,W1=w.drew.setRow B R1:=⟨_,rfl⟩
 obtain⟨R2,WC⟩:∃R2:Array Value,R2=(((C.toList.take (n*4)).take (i*4)++new++(C.toList.take (n*4)).drop (i*4))++C.toList.drop ((n+m)*4)).toArray:=⟨_,rfl⟩
 have akQ:W1.heap[B]? = some (.cells R1 46 (0,0)):=by rw[WM];exact setRow_heap w.drew B C R1 46 (0,0) hCd
 have akR:W1.heap[VB]? = w.heap[VB]?:=by rw[WM];exact setRow_other w.drew B VB R1 (λe=>hne e.symm)
 have akS:∀(W:World),W.heap=W1.heap->∀ty dc,(Builtin.copy_ #[43,43] ty #[.slice (some ⟨B,i*4,none⟩) (n+m-i) dc,.slice (some ⟨VB,vo,none⟩) m vc]).run prog W=.ok (goInt m) (W.setRow B R2):=λW hW ty dc=>by
  have hmin:Nat.min m (n+m-i)=m:=by simp only[Nat.min_def];split<;>omega
  have h:=iL (P:=prog) (w:=W) (ty:=ty) (D:=B) (o:=i*4) (dl:=n+m-i) (dc:=dc) (n:=m) (c:=vc) (a:=some ⟨VB,vo,none⟩) (l':=new) BP M1
   (by rw[hmin];exact hf W (by rw[hW];exact akR)) (by rw[hW];exact akQ) (by rw[hnl];omega) h1v
  rw[hmin]at h;have hrow:(R1.toList.take (i*4)++new++R1.toList.drop (i*4+new.length)).toArray=R2:=by
   rw[WC,SF,hnl];have e1:=Jh C.toList (i*4) (m*4) (n*4) (by omega) (by simp;omega);have e2:=Ji C.toList (i*4) (m*4) (n*4) (by omega) (by simp;omega);rw[<-Nat.add_mul,<-Nat.add_mul,<-Nat.sub_mul]at e1 e2;rw[List.toList_toArray,e1,<-Nat.add_mul,e2,List.append_assoc,List.append_assoc,List.append_assoc]
  rw[hrow]at h;exact h
 rw[<-WM]at aaS;rw[<-WC]
 go_enter Tryz.func255,Tryz.ntmps255
 go_wp2_with (simp only[CB])
 go_region_law_o (refine step_copy_runI rfl _ _ 43 43 rfl _ _ (by simp[Act.eval,Act.put]) (by simp[Act.eval,Act.put]) (aaS _ _ _) ?_)
 go_wp2_with (at_builtin;refine wpList_copy_runI _ rfl _ _ 43 43 rfl _ _ rfl rfl (akS _ rfl _ _) ?_)
 go_ret
 refine⟨rfl,w.drawn+1,Nat.le_succ _,?_⟩;rw[setRow_setRow,WC];simp only[List.append_assoc];rfl
end Go.Proofs

namespace Go.Proofs
open Go.Shelf Go.RowKit Go.Lib Go.Vai
open Tryz (prog)
theorem M4(C Z R new:List Value)(a b N:Nat)(h1:a<=N)(h2:N<=C.length)(hn:new.length=b)(hz:Z.length=N+b-a):(((C.take a++Z++R).take a++new++(C.take a++Z++R).drop (a+b)).take (a+b)++(C.drop a).take (N-a)++((C.take a++Z++R).take a++new++(C.take a++Z++R).drop (a+b)).drop (N+b)) =
   ((C.take N).take a++new++(C.take N).drop a)++R:=by
 have la:(C.take a).length=a:=by simp;omega
 have e1:(C.take a++Z++R).take a=C.take a:=by rw[List.append_assoc,List.take_append_of_le_length (by omega),List.take_take];congr 1;omega
 have e2:(C.take N).take a=C.take a:=by rw[List.take_take];congr 1;omega
 have e3:(C.take N).drop a=(C.drop a).take (N-a):=by rw[List.drop_take]
 have l2:(C.take a++new).length=a+b:=by simp;omega
 have e4:(C.take a++new++(C.take a++Z++R).drop (a+b)).take (a+b)=C.take a++new:=List.take_left' l2;have e5:(C.take a++new++(C.take a++Z++R).drop (a+b)).drop (N+b)=R:=by
  have hs:N+b=(a+b)+(N-a):=by omega
  rw[hs,<-List.drop_drop,List.drop_left' l2,List.drop_drop];exact List.drop_left' (by simp;omega)
 rw[e1,e4,e5,e2,e3]
set_option maxHeartbeats 4000000 in
set_option maxRecDepth 100000 in
theorem zS(B n c i VB vo m vc G N:Nat)(R1 R2:Array Value)(w W1:World)(hi:i<n)(hm:0<m)(hnc:n<=c)(hroom:c<n+m)(sY:n+m<=1000000)(hG1:n+m<=G)(WN:(Builtin.append_ #[43,3] 43 #[.slice (some ⟨B,0,none⟩) i c,.int .i64 ((n:Int)+(m:Int)-(i:Int))]).run prog w=.ok (.slice (some ⟨N,0,none⟩) (n+m) G) W1)(aaT:∀(W:World),W.heap=W1.heap->∀ty dc,(Builtin.copy_ #[43,43] ty #[.slice (some ⟨N,i*4,none⟩) (n+m-i) dc,.slice (some ⟨VB,vo,none⟩) m vc]).run prog W=.ok (goInt m) (W.setRow N R1))(aaU:∀(W:World),W.heap=(W1.setRow N R1).heap->∀ty dc sc,(Builtin.copy_ #[43,43] ty #[.slice (some ⟨N,(i+m)*4,none⟩) (n+m-(i+m)) dc,.slice (some ⟨B,i*4,none⟩) (n-i) sc]).run prog W=.ok (goInt ((n-i:Nat))) (W.setRow N R2)):Calls prog 255 #[.slice (some ⟨B,0,none⟩) n c,.int .i64 i,.slice (some ⟨VB,vo,none⟩) m vc] w λe' w''=>
   e'=.returned (.slice (some ⟨N,0,none⟩) (n+m) G)/\w''=(W1.setRow N R1).drew.setRow N R2:=by
 have mixed:=mixed;have hz1:¬((m:Int)=0):=by omega
 have xU:¬((i:Int)=(n:Int)):=by omega
 have Ob:(c:Int)<(n:Int)+(m:Int):=by omega
 have hGi:¬(G=i):=by omega
 have apJ:¬(G=i+m):=by omega
 have hci:¬(c=i):=by omega
 have hw1:IntKind.i64.wrap ((i:Int)+(m:Int))=(i:Int)+(m:Int):=by rw[IntKind.wrap_i64];omega
 have hw2:IntKind.i64.wrap ((n:Int)+(m:Int))=(n:Int)+(m:Int):=by rw[IntKind.wrap_i64];omega
 have hw3:IntKind.i64.wrap ((n:Int)+(m:Int)-(i:Int))=(n:Int)+(m:Int)-(i:Int):=by rw[IntKind.wrap_i64];omega
 have hb1:(0:Int)<=(i:Int)+(m:Int):=by omega
 have hin:i<=n:=by omega
 have apK:i<=c:=by omega
 have htn:((i:Int)+(m:Int)).toNat=i+m:=by omega
 have hb3:(i:Int)<=(n:Int):=by omega
 go_enter Tryz.func255,Tryz.ntmps255
 go_wp2_with (first
  |(at_builtin;refine Lib.wpList_append_run _ rfl _ _ 43 3 rfl _ _ rfl rfl _ _ WN ?_)
  |(at_builtin;refine wpList_copy_runI _ rfl _ _ 43 43 rfl _ _ rfl rfl (aaT _ rfl _ _) ?_))
 go_region_law_o (refine step_copy_runI rfl _ _ 43 43 rfl (.slice (some ⟨N,(i+m)*4,none⟩) (n+m-(i+m)) (G-(i+m))) (.slice (some ⟨B,i*4,none⟩) (n-i) (c-i)) (by simp[Act.eval,Act.put]) (by simp[Act.eval,Act.put]) (aaU (W1.setRow N R1).drew rfl 3 (G-(i+m)) (c-i)) ?_)
 go_wp2
 go_ret
 exact⟨rfl,rfl⟩
set_option maxHeartbeats 4000000 in
set_option maxRecDepth 100000 in
theorem M5(B n c i VB vo m vc:Nat)(C VC:Array Value)(e2:TypeId)(new:List Value)(w:World)(hne:B≠VB)(hi:i<n)(hm:0<m)(hnc:n<=c)(hroom:c<n+m)(sY:n+m<=1000000)(hC:w.heap[B]? = some (.cells C 46 (0,0)))(hV:w.heap[VB]? = some (.cells VC e2 (0,0)))(hcs:n*4<=C.size)(hf:∀w1:World,w1.heap[VB]? = w.heap[VB]?->(Builtin.firstCells 4 m (.slice (some ⟨VB,vo,none⟩) m vc)).run prog w1=.ok new.toArray w1)(hnl:new.length=m*4)(h1v:∀v∈new,v.oneCell'=true)(h1c:∀v∈C.toList.take (n*4),v.oneCell'=true){inf:TypeInfo}{z:Value}(UH:prog.info? 46=some inf)(hz:inf.zero=some z)(hzc:z.cells.size=4)(hby:inf.bytes<=10000)(h3:prog.underlying 3=some (.int .i64)):Calls prog 255 #[.slice (some ⟨B,0,none⟩) n c,.int .i64 i,.slice (some ⟨VB,vo,none⟩) m vc] w λe' w''=>∃di rest d,w.drawn<=d/\n+m<=di/\rest.length=(di-(n+m))*4/\
   e'=.returned (.slice (some ⟨w.heap.size,0,none⟩) (n+m) di)/\
   w''={ w.alloc (.cells (((C.toList.take (n*4)).take (i*4)++new++(C.toList.take (n*4)).drop (i*4))++rest).toArray 46 (0,0))with drawn:=d }:=by
 have mixed:=mixed;have hz1:¬((m:Int)=0):=by omega
 have xU:¬((i:Int)=(n:Int)):=by omega
 have Ob:(c:Int)<(n:Int)+(m:Int):=by omega
 have hkk:(n:Int)+(m:Int)-(i:Int)=((n+m-i:Nat):Int):=by omega
 have hik:i+(n+m-i)=n+m:=by omega
 have hzs:(Builtin.zeroCells z.cells (n+m-i)).size=(n+m-i)*4:=by rw[size_zeroCells,hzc]
 obtain⟨G,rest,hG1,hrl,WN⟩:=nM (P:=prog) (w:=w) (e:=46) (size:=4) (n:=n+m-i) (sLen:=i) (sCap:=c) (ty:=43) (ts:=#[43,3]) (base:=some ⟨B,0,none⟩) (x':=.int .i64 ((n+m-i:Nat):Int))
  (new':=(Builtin.zeroCells z.cells (n+m-i)).toList) (old':=C.toList.take (i*4)) (t:=43) rfl BP M1 UH hz hby
  (.mk (k':=.i64) (inf:=inf) (v:=z) rfl h3 (by omega) UH hz hby (by simp) (by intro h;omega)) (by omega) (by omega)
  (λw1 hw1=>by
   have:=fh (P:=prog) (w:=w1) (B:=B) (o:=0) (k:=4) (m:=i) (n:=i) (c:=c) (C:=C) (e:=46) (by rw[hw1];exact hC) (by omega);simpa using this)
 rw[hik,hzc]at hrl;rw[hik]at hG1 WN;rw[<-hkk]at WN;obtain⟨Z,hZ⟩:∃Z,Z=(Builtin.zeroCells z.cells (n+m-i)).toList:=⟨_,rfl⟩
 have hZl:Z.length=(n+m-i)*4:=by rw[hZ];simpa using hzs
 rw[<-hZ]at WN;obtain⟨UI,aaV⟩:∃UI:Array Value,UI=(C.toList.take (i*4)++Z++rest).toArray:=⟨_,rfl⟩
 rw[<-aaV]at WN;have hRs:(n+m)*4<=UI.size:=by rw[aaV];simp[hZl];omega
 obtain⟨W1,WM⟩:∃W1,W1=w.drew.alloc (.cells UI 46 (0,0)):=⟨_,rfl⟩
 rw[<-WM]at WN;have hBl:B<w.heap.size:=(Array.getElem?_eq_some_iff.mp hC).1;have hVl:VB<w.heap.size:=(Array.getElem?_eq_some_iff.mp hV).1;have afU:W1.heap[w.heap.size]? = some (.cells UI 46 (0,0)):=by rw[WM];show(w.heap.push _)[w.heap.size]? = _;simp
 have afV:∀k,k<w.heap.size->W1.heap[k]? = w.heap[k]?:=λk hk=>by rw[WM];exact dX (w:=w.drew) hk
 obtain⟨R1,SF⟩:∃R1:Array Value,R1=(UI.toList.take (i*4)++new++UI.toList.drop (i*4+m*4)).toArray:=⟨_,rfl⟩
 have akP:R1.size=UI.size:=by rw[SF];simp[hnl];omega
 have pE:((C.toList.drop (i*4)).take ((n-i)*4)).length=(n-i)*4:=by simp;omega
 obtain⟨R2,WC⟩:∃R2:Array Value,R2=(R1.toList.take ((i+m)*4)++(C.toList.drop (i*4)).take ((n-i)*4)++R1.toList.drop ((n+m)*4)).toArray:=⟨_,rfl⟩
 have aaT:∀(W:World),W.heap=W1.heap->∀ty dc,(Builtin.copy_ #[43,43] ty #[.slice (some ⟨w.heap.size,i*4,none⟩) (n+m-i) dc,.slice (some ⟨VB,vo,none⟩) m vc]).run prog W=.ok (goInt m) (W.setRow w.heap.size R1):=λW hW ty dc=>by
  have hmin:Nat.min m (n+m-i)=m:=by simp only[Nat.min_def];split<;>omega
  have h:=iL (P:=prog) (w:=W) (ty:=ty) (D:=w.heap.size) (o:=i*4) (dl:=n+m-i) (dc:=dc) (n:=m) (c:=vc) (a:=some ⟨VB,vo,none⟩) (l':=new) BP M1
   (by rw[hmin];exact hf W (by rw[hW];exact afV VB hVl)) (by rw[hW];exact afU) (by rw[hnl];omega) h1v
  rw[hmin,hnl,<-SF]at h;exact h
 have aaU:∀(W:World),W.heap=(W1.setRow w.heap.size R1).heap->∀ty dc sc,(Builtin.copy_ #[43,43] ty #[.slice (some ⟨w.heap.size,(i+m)*4,none⟩) (n+m-(i+m)) dc,.slice (some ⟨B,i*4,none⟩) (n-i) sc]).run prog W=.ok (goInt ((n-i:Nat))) (W.setRow w.heap.size R2):=λW hW ty dc sc=>by
  have hmin:Nat.min (n-i) (n+m-(i+m))=n-i:=by simp only[Nat.min_def];split<;>omega
  have hWB:W.heap[B]? = some (.cells C 46 (0,0)):=by rw[hW,setRow_other W1 w.heap.size B R1 (by omega),afV B hBl];exact hC
  have hWN:W.heap[w.heap.size]? = some (.cells R1 46 (0,0)):=by rw[hW];exact setRow_heap W1 w.heap.size UI R1 46 (0,0) afU
  have h:=iL (P:=prog) (w:=W) (ty:=ty) (D:=w.heap.size) (o:=(i+m)*4) (dl:=n+m-(i+m)) (dc:=dc) (n:=n-i) (c:=sc) (a:=some ⟨B,i*4,none⟩) (l':=(C.toList.drop (i*4)).take ((n-i)*4)) BP M1
   (by rw[hmin];exact fh hWB (by omega)) hWN (by rw[pE];omega) (λv hv=>h1c v (by
    rw[List.mem_iff_getElem?]at hv ⊢;obtain⟨j,hj⟩:=hv;rw[List.getElem?_take]at hj;split at hj
    .rw[List.getElem?_drop]at hj;exact⟨i*4+j,by rw[List.getElem?_take_of_lt (by omega)];exact hj⟩
    .cases hj))
  rw[hmin,pE,show(i+m)*4+(n-i)*4=(n+m)*4 by omega,<-WC]at h;exact h
 refine(zS B n c i VB vo m vc G w.heap.size R1 R2 w W1 hi hm hnc hroom sY hG1 WN aaT aaU).mono ?_;rintro e' w'' ⟨rfl,rfl⟩;refine⟨G,rest,w.drawn+2,Nat.le_add_right _ _,hG1,hrl,rfl,?_⟩;have aaW:R2=(((C.toList.take (n*4)).take (i*4)++new++(C.toList.take (n*4)).drop (i*4))++rest).toArray:=by
  rw[WC,SF,aaV]
  congr 1
  have:=M4 C.toList Z rest new (i*4) (m*4) (n*4) (by omega) (by simpa using hcs) hnl (by rw[hZl];omega);rw[<-Nat.sub_mul,<-Nat.add_mul,<-Nat.add_mul]at this;rw[<-Nat.add_mul];exact this
 rw[WM,aaW];have ed:∀(X:World)(g:Nat)(R:Array Value),X.drew.setRow g R=(X.setRow g R).drew:=λ_ _ _=>rfl;have ea:∀(A R:Array Value),(w.drew.alloc (.cells A 46 (0,0))).setRow w.heap.size R=w.drew.alloc (.cells R 46 (0,0)):=λA R=>World.setRow_alloc_new w.drew A R 46;rw[ed,setRow_setRow,ea];rfl
end Go.Proofs

namespace Go.Vai
open Go
variable {β:Type}{fl:β}{good:β->Prop}{P:Program}{φ:dV}{h:af}{w:World}
def Dn(fl:β)(e size:Nat)(base:Option Addr)(n cap i vb vo m vc:Nat)(h:af)(V:UV β):β:=
 match Nat.ble (i+1) n,Nat.ble cap 1000000000 && Nat.ble (cap+1) (n+(m+1)),base with
 |true,true,some ⟨b,0,none⟩=>match Nat.beq vb b,h.bl.get b,h.bl.get vb with
  |false,some (.cells _ _ e' _),some (.cells ..)=>match Nat.beq e' e,Nat.ble (n+(m+1)) 1000000 with
   | true,true=>dW fl h size n (.slice (some ⟨b,0,none⟩) n cap) λold=>dW fl h size (m+1) (.slice (some ⟨vb,vo,none⟩) (m+1) vc) λnew=>
     match old.all dI && new.all dI with
     |true=>dw fl (old.take (i*size)++new++old.drop (i*size)) e true h λnb h=>V (.slice (some ⟨nb,0,none⟩) (n+(m+1)) aW) h
     |false=>fl
   |_,_=>fl
  |_,_,_=>fl
 |_,_,_=>fl
def qT(fl:β)(e size:Nat)(z:List Value)(args:List Value)(h:af)(V:UV β):β:=
 match args with
 | [.slice base n cap,.int .i64 (.ofNat i),.slice (some ⟨vb,vo,none⟩) (m+1) vc]=>
  match Nat.beq i n with
  |true=>bO fl e size z false (.slice base n cap) (.slice (some ⟨vb,vo,none⟩) (m+1) vc) h V
  |false=>match Nat.beq cap aW with
   |false=>Dn fl e size base n cap i vb vo m vc h V
   |true=>match Nat.ble (i+1) n,Nat.beq cap aW,base with
    |true,true,some ⟨b,0,none⟩=>match Nat.beq vb b,h.bl.get b,h.bl.get vb with
     |false,some (.cells nn _ e' true),some (.cells ..)=>match Nat.beq e' e,Nat.ble (n+(m+1)) 1000000 with
      | true,true=>dW fl h size n (.slice base n cap) λold=>dW fl h size (m+1) (.slice (some ⟨vb,vo,none⟩) (m+1) vc) λnew=>
        match old.all dI && new.all dI with
        |true=>setBlock fl b (.dead nn e) h λh=>dw fl (old.take (i*size)++new++old.drop (i*size)) e true h λnb h=>V (.slice (some ⟨nb,0,none⟩) (n+(m+1)) aW) h
        |false=>fl
      |_,_=>fl
     |_,_,_=>fl
    |_,_,_=>fl
 |_=>fl
structure zT(P:Program)(f:FuncId)(tS e k:Nat):Prop where
 enters:∀(args:Array Value)(w:World),(callFunc f args).run P w=.ok (.enter f args) w
 atEnd:∀(base:Option Addr)(n c VB vo m vc:Nat)(w:World)(r:Value)(w':World),0<m->n<=c->
  (Builtin.append_ #[tS,tS] tS #[.slice base n c,.slice (some ⟨VB,vo,none⟩) m vc]).run P w=.ok r w'->
  Calls P f #[.slice base n c,.int .i64 n,.slice (some ⟨VB,vo,none⟩) m vc] w λe w''=>e=.returned r/\w''=w'
 shift:∀(B n c i VB vo m vc:Nat)(C VC:Array Value)(e2:TypeId)(new:List Value)(w:World),B≠VB->i<n->0<m->n+m<=c->n+m<=1000000->
  w.heap[B]? = some (.cells C e (0,0))->w.heap[VB]? = some (.cells VC e2 (0,0))->c*k<=C.size->(∀w1:World,w1.heap[VB]? = w.heap[VB]?->(Builtin.firstCells k m (.slice (some ⟨VB,vo,none⟩) m vc)).run P w1=.ok new.toArray w1)->
  new.length=m*k->(∀v∈new,v.oneCell'=true)->(∀v∈C.toList.take (n*k),v.oneCell'=true)->
  Calls P f #[.slice (some ⟨B,0,none⟩) n c,.int .i64 i,.slice (some ⟨VB,vo,none⟩) m vc] w λe w''=>e=.returned (.slice (some ⟨B,0,none⟩) (n+m) c)/\
   ∃d,w.drawn<=d/\w''={ w.setRow B (((C.toList.take (n*k)).take (i*k)++new++(C.toList.take (n*k)).drop (i*k))++C.toList.drop ((n+m)*k)).toArray with drawn:=d }
 grow:∀(B n c i VB vo m vc:Nat)(C VC:Array Value)(e2:TypeId)(new:List Value)(w:World),B≠VB->i<n->0<m->n<=c->c<n+m->n+m<=1000000->
  w.heap[B]? = some (.cells C e (0,0))->w.heap[VB]? = some (.cells VC e2 (0,0))->n*k<=C.size->(∀w1:World,w1.heap[VB]? = w.heap[VB]?->(Builtin.firstCells k m (.slice (some ⟨VB,vo,none⟩) m vc)).run P w1=.ok new.toArray w1)->
  new.length=m*k->(∀v∈new,v.oneCell'=true)->(∀v∈C.toList.take (n*k),v.oneCell'=true)->
  Calls P f #[.slice (some ⟨B,0,none⟩) n c,.int .i64 i,.slice (some ⟨VB,vo,none⟩) m vc] w λe' w''=>∃di rest d,w.drawn<=d/\n+m<=di/\rest.length=(di-(n+m))*k/\
   e'=.returned (.slice (some ⟨w.heap.size,0,none⟩) (n+m) di)/\
   w''={ w.alloc (.cells (((C.toList.take (n*k)).take (i*k)++new++(C.toList.take (n*k)).drop (i*k))++rest).toArray e (0,0))with drawn:=d }
set_option maxHeartbeats 2000000 in
set_option maxRecDepth 100000 in
theorem AT(hfl:¬good fl){f tS e size:Nat}{z:List Value}(hI:zT P f tS e size)(hz:NL P e=some (z,size))(hr:HR P φ h w){base base':Option Addr}{n cap cap' i vb vo m vc Jl:Nat}{AU:Pl}(hs:VR φ (.slice base n cap) (.slice base' n cap'))(hpv:φ vb=some AU)(hv:VR φ (.slice (some ⟨vb,vo,none⟩) (m+1) vc) (.slice (some ⟨AU.B,vo,none⟩) (m+1) Jl)){V:UV β}(hg:good (Dn fl e size base n cap i vb vo m vc h V)):uJ good P φ h w V f #[.slice base' n cap',.int .i64 (.ofNat i),.slice (some ⟨AU.B,vo,none⟩) (m+1) Jl]:=by
 obtain⟨hz1,xU,Ob,LQ⟩:=kX hz;unfold Dn at hg;split at hg<;>try cases hfl hg
 rename_i b hlt HJ;simp only[Bool.and_eq_true]at HJ;have hlt:i<n:=cG hlt;have hc1:cap<=1000000000:=cG HJ.1;have hc2:cap<n+(m+1):=cG HJ.2;obtain⟨pl,hp,rfl,rfl,hle⟩:∃pl,φ b=some pl/\cap'=cap/\base'=some ⟨pl.B,0,none⟩/\n<=cap:=by
  cases hs with
  |slice hp hn hc=>exact⟨_,hp,rfl,rfl,hn⟩
  |bQ hp hn hc=>exact absurd hc1 J0
  |cU=>exact absurd hc1 J0
 split at hg<;>try cases hfl hg
 rename_i nn cc e' op nv cv ev opv hne hb hvb;have hne:=nH hne;split at hg<;>try cases hfl hg
 rename_i hee sY;have hee:=cw hee;subst hee;have sY:n+(m+1)<=1000000:=cG sY;obtain⟨C,hC,wC,hn2,SU,hcell⟩:=hr.rowAt hb hp;obtain⟨VC,WO,Sn,_,_,_⟩:=hr.rowAt hvb hpv;have UJ:pl.B≠AU.B:=λhB=>hne (hr.inj b vb _ _ pl AU hb hvb trivial trivial hp hpv hB).symm;obtain⟨old,k1,k3,k5,k6⟩:=jg hfl hb hg;obtain⟨new,new',n1,n2,n3,n4⟩:=fO hfl hr k1 hv ⟨_,_,_,rfl,Nat.le_refl _⟩;split at n1<;>try exact absurd n1 hfl
 rename_i sP;simp only[Bool.and_eq_true]at sP;unfold dw at n1;obtain⟨m1,m2⟩:=jV hfl n1;obtain⟨m3,m4⟩:=dn hfl m2;have hnn:n*size<=nn:=by
  have:=k5 (by intro hnil;rw[hnil]at k3;simp at k3;rcases k3.symm with h0;have:0<n*size:=Nat.mul_pos XQ LQ;omega);omega
 have JN:n*size<=C.size:=Nat.le_trans hnn wC;have hold:F2 (VR φ) old (C.toList.take (n*size)):=by
  refine F2.lH (by simp;omega) λj v v' e1 e2=>?_;have hj:j<n*size:=by rw[<-k3];exact(List.getElem?_eq_some_iff.mp e1).1
  have h1:=k6 j v e1;rw[Nat.zero_add]at h1;obtain⟨v2,h2,h3⟩:=hcell j v h1 XQ;rw[List.getElem?_take_of_lt hj]at e2;rw[Array.getElem?_toList,h2]at e2;cases e2;exact h3
 have hmid:F2 (VR φ) (old.take (i*size)++new++old.drop (i*size)) ((C.toList.take (n*size)).take (i*size)++new'++(C.toList.take (n*size)).drop (i*size)):=
  ((hold.take _).append n2).append (hold.drop _)
 have h1v:=sO n2 sP.2;have h1c:=sO hold sP.1;have hnl:new'.length=(m+1)*size:=by rw[<-n2.length,n3]
 have Lt:((C.toList.take (n*size)).take (i*size)++new'++(C.toList.take (n*size)).drop (i*size)).length=(n+(m+1))*size:=by
  have hin:i*size<=n*size:=Nat.mul_le_mul_right _ XQ;rw[Nat.add_mul];simp[hnl];omega
 obtain⟨l2,_,v4,v5,_⟩:=jg hfl hvb k1;have hvs:vo+(m+1)*size<=VC.size:=by
  have hpos:0<(m+1)*size:=Nat.mul_pos XQ LQ;have:=v5 (by intro hnil;rw[hnil]at v4;simp only[List.length_nil]at v4;omega);rw[v4]at this;exact Nat.le_trans this Sn
 have hf:∀w1:World,w1.heap[AU.B]? = w.heap[AU.B]?->(Builtin.firstCells size (m+1) (.slice (some ⟨AU.B,vo,none⟩) (m+1) Jl)).run P w1=.ok new'.toArray w1:=by
  intro w1 hw1;have h1:=n4 w rfl;rw[fh WO hvs]at h1;have h2:=fh (P:=P) (w:=w1) (n:=m+1) (c:=Jl) (by rw[hw1];exact WO) hvs;have h3:=(Result.ok.inj h1).1;rw[h2,h3]
 refine⟨hI.enters _ _,Calls.mono (hI.grow pl.B n cap' i AU.B vo (m+1) Jl C VC ev new' w UJ hlt XQ hle hc2 sY hC WO JN hf hnl h1v h1c) ?_⟩;rintro e2 w'' ⟨di,rest,d,DS,j1,j2,rfl,rfl⟩;have LR:=xS (P:=P) hmid m1 e' ⟨w.heap.size,di*size,size⟩ rest true (λ_=>⟨by
  rw[List.length_append,Lt,j2,<-Nat.add_mul];exact congrArg (λx=>x*size) (Nat.add_sub_cancel' j1),xU,LQ⟩)
 obtain⟨q1,q3⟩:=hr.fresh m3 (di*size) size LR trivial;exact⟨_,_,_,_,rfl,m4,.bQ (er _ _ _) j1 (by simp),⟨q1.obj,q1.dom,q1.keys,q1.NU,q1.inj,q1.lo⟩,⟨q3.sub,q3.new,q3.nx,q3.size,q3.Ao,q3.Dw,q3.tape,q3.os,q3.output,q3.fz,q3.lo,q3.HH,q3.HI,DS⟩⟩
set_option maxHeartbeats 2000000 in
set_option maxRecDepth 100000 in
theorem AV(hfl:¬good fl){f tS e size:Nat}{z:List Value}{inf:TypeInfo}(hI:zT P f tS e size)(hu:P.underlying tS=some (.slice e))(hz:NL P e=some (z,size))(hi:P.info? e=some inf)(hby:inf.bytes<=10000)(hr:HR P φ h w){args args':List Value}(ha:F2 (VR φ) args args'){V:UV β}(hg:good (qT fl e size z args h V)):uJ good P φ h w V f args'.toArray:=by
 obtain⟨hz1,xU,Ob,LQ⟩:=kX hz;unfold qT at hg;split at hg<;>try cases hfl hg
 rename_i base n cap i vb vo m vc;cases ha with
 |cons hs ha=>
 cases ha with
 |cons hi' ha=>
 cases ha with
 |cons hv ha=>
 cases ha;cases hi';rename_i s' v';obtain⟨base',cap',hs'⟩:∃base' cap',s'=.slice base' n cap':=by cases hs<;>exact⟨_,_,rfl⟩
 have hle:n<=cap':=by subst hs';cases hs<;>first|assumption|omega
 obtain⟨AU,Jl,hpv,vD⟩:∃AU Jl,φ vb=some AU/\v'=.slice (some ⟨AU.B,vo,none⟩) (m+1) Jl:=by
  cases hv with
  |slice hp _ _=>exact⟨_,_,hp,rfl⟩
  |bQ hp _ _=>exact⟨_,_,hp,rfl⟩
 split at hg
 .rename_i hin;have hin:=cw hin;subst hin;obtain⟨φ',v,r,h',w',g1,g2,g3,g4,g5⟩:=rm (ts:=#[tS,tS]) (ty:=tS) (xd:=.slice e) hfl rfl hu hz hi hby rfl hu hr hg hs hv;subst hs';subst vD;refine⟨hI.enters _ _,Calls.mono (hI.atEnd base' i cap' AU.B vo (m+1) Jl w r w' XQ hle g5) ?_⟩;rintro e' w'' ⟨rfl,rfl⟩;exact⟨φ',v,r,h',rfl,g1,g2,g3,g4⟩
 .split at hg
  .subst hs';subst vD;exact AT hfl hI hz hr hs hpv hv hg
  split at hg<;>try cases hfl hg
  rename_i b hlt hop;have hlt:i<n:=cG hlt;have hop:=cw hop;subst hop;split at hg<;>try cases hfl hg
  rename_i nn cc e' nv cv ev opv hne hb hvb;have hne:=nH hne;split at hg<;>try cases hfl hg
  rename_i hee sY;have hee:=cw hee;subst hee;have sY:n+(m+1)<=1000000:=cG sY;obtain⟨pl,hp,hcap,rfl⟩:∃pl,φ b=some pl/\cap'*pl.e+0=pl.sz/\base'=some ⟨pl.B,0,none⟩:=by
   subst hs';cases hs with
   |slice hp hn hc=>exact absurd hc (Nat.lt_irrefl _)
   |bQ hp hn hc=>exact⟨_,hp,hc,rfl⟩
  obtain⟨C,hC,wC,hn2,SU,hcell⟩:=hr.rowAt hb hp;obtain⟨VC,WO,Sn,_,_,_⟩:=hr.rowAt hvb hpv;obtain⟨o1,o2,o3⟩:=SU rfl;have UJ:pl.B≠AU.B:=λhB=>hne (hr.inj b vb _ _ pl AU hb hvb trivial trivial hp hpv hB).symm;have hpe:pl.e=size:=by rw[xU]at o2;exact(Option.some.inj o2).symm
  rw[hpe]at hcap;obtain⟨old,k1,k3,k5,k6⟩:=jg hfl hb hg;obtain⟨new,new',n1,n2,n3,n4⟩:=fO hfl hr k1 hv ⟨_,_,_,rfl,Nat.le_refl _⟩;split at n1<;>try exact absurd n1 hfl
  rename_i sP;simp only[Bool.and_eq_true]at sP;obtain⟨hlo,n1⟩:=bD hfl n1;unfold dw at n1;obtain⟨m1,m2⟩:=jV hfl n1;obtain⟨m3,m4⟩:=dn hfl m2;have hcs:cap'*size<=C.size:=by omega
  have JN:n*size<=C.size:=Nat.le_trans (Nat.mul_le_mul_right _ hle) hcs;have hnn:n*size<=nn:=by
   have:=k5 (by intro hnil;rw[hnil]at k3;simp at k3;rcases k3.symm with h0;have:0<n*size:=Nat.mul_pos XQ LQ;omega);omega
  have hold:F2 (VR φ) old (C.toList.take (n*size)):=by
   refine F2.lH (by simp;omega) λj v v' e1 e2=>?_;have hj:j<n*size:=by rw[<-k3];exact(List.getElem?_eq_some_iff.mp e1).1
   have h1:=k6 j v e1;rw[Nat.zero_add]at h1;obtain⟨v2,h2,h3⟩:=hcell j v h1 XQ;rw[List.getElem?_take_of_lt hj]at e2;rw[Array.getElem?_toList,h2]at e2;cases e2;exact h3
  have hmid:F2 (VR φ) (old.take (i*size)++new++old.drop (i*size)) ((C.toList.take (n*size)).take (i*size)++new'++(C.toList.take (n*size)).drop (i*size)):=
   ((hold.take _).append n2).append (hold.drop _)
  have h1v:=sO n2 sP.2;have h1c:=sO hold sP.1;have hnl:new'.length=(m+1)*size:=by rw[<-n2.length,n3]
  have Lt:((C.toList.take (n*size)).take (i*size)++new'++(C.toList.take (n*size)).drop (i*size)).length=(n+(m+1))*size:=by
   have hin:i*size<=n*size:=Nat.mul_le_mul_right _ XQ;rw[Nat.add_mul];simp[hnl];omega
  subst hs';subst vD;obtain⟨l2,_,v4,v5,_⟩:=jg hfl hvb k1;have hvs:vo+(m+1)*size<=VC.size:=by
   have hpos:0<(m+1)*size:=Nat.mul_pos XQ LQ;have:=v5 (by intro hnil;rw[hnil]at v4;simp only[List.length_nil]at v4;omega);rw[v4]at this;exact Nat.le_trans this Sn
  have hf:∀w1:World,w1.heap[AU.B]? = w.heap[AU.B]?->(Builtin.firstCells size (m+1) (.slice (some ⟨AU.B,vo,none⟩) (m+1) Jl)).run P w1=.ok new'.toArray w1:=by
   intro w1 hw1;have h1:=n4 w rfl;rw[fh WO hvs]at h1;have h2:=fh (P:=P) (w:=w1) (n:=m+1) (c:=Jl) (by rw[hw1];exact WO) hvs;have h3:=(Result.ok.inj h1).1;rw[h2,h3]
  by_cases hroom:n+(m+1)<=cap'
  ·refine⟨hI.enters _ _,Calls.mono (hI.shift pl.B n cap' i AU.B vo (m+1) Jl C VC ev new' w UJ hlt XQ hroom sY hC WO hcs hf hnl h1v h1c) ?_⟩;rintro e2 w'' ⟨rfl,d,DS,rfl⟩;have hrow:=setRow_heap w pl.B C ((((C.toList.take (n*size)).take (i*size)++new'++(C.toList.take (n*size)).drop (i*size))++C.toList.drop ((n+(m+1))*size)).toArray) e' _ hC;have LR:=xS (P:=P) hmid m1 e' pl (C.toList.drop ((n+(m+1))*size)) true (λ_=>⟨by
    have:(n+(m+1))*size<=C.size:=Nat.le_trans (Nat.mul_le_mul_right _ hroom) hcs;rw[List.length_append,Lt];simp;omega,o2,o3⟩)
   obtain⟨q1,q2⟩:=hr.Og hlo (ob:=.cells (old.take (i*size)++new++old.drop (i*size)).length (lay (old.take (i*size)++new++old.drop (i*size)) .nil 0) e' true) (w':={ w.setRow pl.B ((((C.toList.take (n*size)).take (i*size)++new'++(C.toList.take (n*size)).drop (i*size))++C.toList.drop ((n+(m+1))*size)).toArray)with drawn:=d }) hb hp m3
    (setRow_size _ _ _) (λk hk=>setRow_other _ _ _ _ hk) (by show OR P φ _ pl ((w.setRow pl.B _).heap[pl.B]?);rw[hrow];exact LR) (by show OR P φ _ pl ((w.setRow pl.B _).heap[pl.B]?);rw[hrow];exact⟨XQ,hn2,o2,o3⟩) rfl rfl rfl trivial DS
   exact⟨_,_,_,_,rfl,m4,.bQ (er _ _ _) hroom (by rw[hpe];exact hcap),q1,q2⟩
  ·refine⟨hI.enters _ _,Calls.mono (hI.grow pl.B n cap' i AU.B vo (m+1) Jl C VC ev new' w UJ hlt XQ hle XQ sY hC WO JN hf hnl h1v h1c) ?_⟩;rintro e2 w'' ⟨di,rest,d,DS,j1,j2,rfl,rfl⟩;have DY:=hr.Cf hlo (w':=w) (o:=.dead nn e') hp ⟨_,hb,trivial⟩ rfl (λ_ _=>rfl) (by rw[hC];exact⟨XQ,hn2,o2,o3⟩) rfl rfl rfl (.inr id);have LR:=xS (P:=P) hmid m1 e' ⟨w.heap.size,di*size,size⟩ rest true (λ_=>⟨by
    rw[List.length_append,Lt,j2,<-Nat.add_mul];exact congrArg (λx=>x*size) (Nat.add_sub_cancel' j1),xU,LQ⟩)
   obtain⟨q1,q2⟩:=DY.1.fresh m3 (di*size) size LR trivial;have q3:=DY.2.trans q2;exact⟨_,_,_,_,rfl,m4,.bQ (er _ _ _) j1 (by simp),⟨q1.obj,q1.dom,q1.keys,q1.NU,q1.inj,q1.lo⟩,⟨q3.sub,q3.new,q3.nx,q3.size,q3.Ao,q3.Dw,q3.tape,q3.os,q3.output,q3.fz,q3.lo,q3.HH,q3.HI,DS⟩⟩
end Go.Vai

namespace Go.Proofs
open Go.Vai Go.Clashes
open Tryz (prog)
theorem M6(args:Array Value)(w:World):(callFunc 255 args).run prog w=.ok (.enter 255 args) w:=by
 have hb:Tryz.f255.body.isNone=false:=by kernel_rfl
 have hn : (Tryz.f255.name == "runtime.NumGoroutine") = false := by kernel_rfl
 have hn' : Tryz.f255.name ≠ "runtime.NumGoroutine" := by simpa using hn
 simp[callFunc,Tryz.func255,hn',hb];cases h:Tryz.f255.body with
 |none=>rw[h]at hb;cases hb
 |some c=>simp
theorem M7{inf:TypeInfo}{z:Value}(UH:prog.info? 46=some inf)(hz:inf.zero=some z)(hzc:z.cells.size=4)(hby:inf.bytes<=10000)(h3:prog.underlying 3=some (.int .i64)):zT prog 255 43 46 4 where
 enters:=M6
 atEnd:=λbase n c VB vo m vc w r w' hm hle hr=>Jj base n c VB vo m vc w r w' hm hle hr
 shift:=λB n c i VB vo m vc C VC e2 new w hne hi hm hroom sY hC hV hcs hf hnl h1v h1c=>Jk B n c i VB vo m vc C VC e2 new w hne hi hm hroom sY hC hV hcs hf hnl h1v h1c
 grow:=λB n c i VB vo m vc C VC e2 new w hne hi hm hnc hroom sY hC hV hcs hf hnl h1v h1c=>M5 B n c i VB vo m vc C VC e2 new w hne hi hm hnc hroom sY hC hV hcs hf hnl h1v h1c UH hz hzc hby h3
def gx(t r:Int)(p:L4):Bool:=decide (p.t=t/\p.r=r)
theorem afW(t r:Int)(p:L4)(b:Nat)(h:af)(V:KQ)(hlo:h.lo<=h.nx)(hb:b<h.nx)(hg:h.bl.get b=some (ai [YYY t,YYY r] 28 false))(hk:∀h',Le h h'->V (.bool (gx t r p)) h'):aj prog 262 [wO p,aq b] h V:=by
 apply YYZ;rw[Y4];simp(disch:=try exact Y)only[Wz,bS,hg,oJ];exact hk _ ((Le.refl h).new _)
theorem afX(L:List L4)(t r:Int)(h:af)(v:Value)(V:KQ)(hv:Sl bS h v L)(hlen:L.length<=1000000)(hlo:h.lo<=h.nx)(hk:∀h',Le h h'->V (YYY (fS (L.findIdx? (gx t r)))) h'):aj prog 182 [v,cQ t r] h V:=by
 apply YYZ;rw[YA];simp(disch:=try exact Y)only[Wz,cQ];have hle:=(Le.refl h).new (ai [YYY t,YYY r] 28 false);refine zQ L (gx t r) _ v _ _ (hv.le hle) hlen ?_ λh' hl=>hk h' (hle.trans hl);intro p hp h1 κ1 pE dB;have wC:=pE.nx;have hg1:=pE.get;have SS:=pE.lo;dsimp only at wC hg1 SS;simp(disch:=try exact Y)only[Wz];exact afW t r p _ h1 κ1 XQ XQ (by rw[hg1 _ (Nat.lt_succ_self _),T.au]) dB
def aO(L:List L4)(t r:Int):Int:=match L.find? (gx t r)with|some p=>p.m|none=>0
theorem oL(L:List L4)(F:L4->Bool):(L.findIdx? F=none/\L.find? F=none)\/∃i p,L.findIdx? F=some i/\L[i]? = some p/\F p=true/\L.find? F=some p:=by
 induction L with
 |nil=>exact .inl ⟨rfl,rfl⟩
 |cons a L ih=>
  cases hF:F a with
  |true=>exact .inr ⟨0,a,by simp[List.findIdx?_cons,hF],rfl,hF,by simp[List.find?,hF]⟩
  |false=>
   rcases ih with⟨h1,h2⟩|⟨i,p,h1,h2,h3,h4⟩
   .exact .inl ⟨by simp[List.findIdx?_cons,hF,h1],by simp[List.find?,hF,h2]⟩
   .exact .inr ⟨i+1,p,by simp[List.findIdx?_cons,hF,h1],by simpa using h2,h3,by simp[List.find?,hF,h4]⟩
theorem kE(L:List L4)(t r:Int)(h:af)(v:Value)(V:KQ)(hv:Sl bS h v L)(hlen:L.length<=1000000)(hlo:h.lo<=h.nx)(hk:∀h',Le h h'->V (YYY (aO L t r)) h'):aj prog 130 [v,cQ t r] h V:=by
 apply YYZ;rw[Yb];simp(disch:=try exact Y)only[Wz,cQ];have hle:=(Le.refl h).new (ai [YYY t,YYY r] 28 false);refine afX L t r _ v _ (hv.le hle) hlen (by show h.lo<=h.nx+1;omega) ?_;intro h1 pE;have hle1:=hle.trans pE;have wC:=hle1.nx;rcases oL L (gx t r)with⟨h2,h3⟩|⟨i,p,h2,h3,h4,h5⟩
 .simp only[h2,fS];simp(disch:=try exact Y)only[Wz];have:=hk h1 hle1;simpa only [aO,h3]using this
 .simp only[h2,fS];obtain⟨b,o,hb,mD,mh⟩:=ldP hv i h3;simp(disch:=try exact Y)only[Wz,mD,hle1.get,mh];have:=hk h1 hle1;simpa only [aO,h5]using this
def zHd:List Value:=match NL prog 46 with|some (z,_)=>z|none=>[]
theorem aaX:NL prog 46=some (zHd,4):=by kernel_rfl
theorem aaY:(match prog.info? 46 with|some i=>(match i.zero with|some z=>Nat.beq z.cells.size 4 && Nat.ble i.bytes 10000|none=>false)|none=>false)=true:=by decide +kernel
theorem UK:∃i z,prog.info? 46=some i/\i.zero=some z/\z.cells.size=4/\i.bytes<=10000:=by
 have h:=aaY;split at h<;>try contradiction
 rename_i i hi;split at h<;>try contradiction
 rename_i z hz;simp only[Bool.and_eq_true]at h;exact⟨i,z,hi,hz,cw h.1,cG h.2⟩
theorem aaZ{args:List Value}{h:af}{V:KQ}(hg:qT False 46 4 zHd args h V):aj prog 255 args h V:=by
 intro φ w args' ha hr;obtain⟨i,z,h1,h2,h3,h4⟩:=UK;exact AV (good:=ok) sZ (M7 h1 h2 h3 h4 Tryz.underlying3) Tryz.underlying43 aaX h1 h4 hr ha hg
theorem RE(L:List L4):(L.flatMap bS).length=L.length*4:=bz cC L
theorem M8(L:List L4):(L.flatMap bS).all dI=true:=by
 rw[List.all_flatMap];simp only[List.all_eq_true];intro x _;exact List.all_eq_true.1 (oc x)
theorem RF{a h:af}{v:Value}{L:List L4}{p:L4}{i:Nat}{vb vc:Nat}(hi:i<=L.length)(ho:qZ a h v L)(hle:Le a h)(hlen:L.length<=100000)(hlo:h.lo<=h.nx)(hvb:h.bl.get vb=some (ai (bS p) 46 false))(hvn:vb<h.nx)(hne:i<L.length->∀b n c,v=YYX b n c->vb≠b)(V:KQ)(hk:∀v' h',qZ a h' v' (L.take i++[p]++L.drop i)->Le a h'->V v' h'):aj prog 255 [v,YYY (i:Int),YYX vb 1 vc] h V:=by
 refine aaZ ?_;have hx:Sl bS h (YYX vb 1 vc) [p]:=⟨_,vc,rfl,λ_=>⟨vb,0,rfl,hvn,by rw[hvb];simpa using Has.all⟩⟩
 by_cases he:i=L.length
 ·subst he;have key:bO False 46 4 zHd false v (YYX vb 1 vc) h V:=by
   refine iO (enc:=bS) (a:=a) (M:=[p]) cC oc XQ XQ ho hx hle (by simp;omega) hlo _ ?_;intro v' h' ho' hl' _ _;refine hk v' h' ?_ hl';simpa using ho'
  have fin:∀(base:Option Addr)(cap:Nat),v=.slice base L.length cap->qT False 46 4 zHd [v,YYY (L.length:Int),YYX vb 1 vc] h V:=by
   rintro base cap rfl;unfold qT
   show(match Nat.beq L.length L.length with|true=>_|false=>_)
   rw[Nat.beq_refl];exact key
  rcases ho with⟨rfl,rfl|⟨b,o,rfl⟩⟩|⟨b,rfl,_⟩
  .exact fin _ _ rfl
  .exact fin _ _ rfl
  .exact fin _ _ rfl
 .have hlt:i<L.length:=by omega
  rcases ho with⟨rfl,_⟩|⟨b,rfl,h1,h2,h3,h4⟩
  .simp at hlt
  .have hne:=hne hlt b _ _ rfl;unfold qT
   show(match Nat.beq i L.length with|true=>_|false=>_)
   have e1:Nat.beq i L.length=false:=by
    cases hq:Nat.beq i L.length with
    |false=>rfl
    |true=>exact absurd (cw hq) he
   have e2:Nat.beq aW aW=true:=Nat.beq_refl _;have e3:Nat.ble (i+1) L.length=true:=Nat.ble_eq_true_of_le hlt;have e4:Nat.beq vb b=false:=by
    cases hq:Nat.beq vb b with
    |false=>rfl
    |true=>exact absurd (cw hq) hne
   have e5:Nat.ble (L.length+(0+1)) 1000000=true:=Nat.ble_eq_true_of_le XQ;have Sp:Has (h.bl.get b) 0 (L.flatMap bS):=by rw[h4];exact Has.all
   have hh2:Has (h.bl.get vb) 0 (bS p):=by rw[hvb];exact Has.all
   have f1:∀V:List Value->Prop,dW False h 4 L.length (YYX b L.length aW) V=V (L.flatMap bS):=λV=>jA Sp _ _ _ _ V (RE L).symm;have f2:∀V:List Value->Prop,dW False h 4 (0+1) (YYX vb (0+1) vc) V=V (bS p):=λV=>jA hh2 _ _ _ _ V rfl;have e6:((L.flatMap bS).all dI && (bS p).all dI)=true:=by rw[M8];rfl
   have e7:Nat.beq 46 46=true:=rfl;have g4:=h4;have gvb:=hvb;simp only[ai]at g4 gvb;simp only[e1,e2,e3,e4,g4,gvb,e5,e7,f1,f2,e6];rw[cg _ _ _ _ h3];unfold dw;have hfl:((L.flatMap bS).take (i*4)++bS p++(L.flatMap bS).drop (i*4))=(L.take i++[p]++L.drop i).flatMap bS:=by
    rw[oF cC,oG cC];simp
   rw[hfl,iX _ _ _ _ (by rw[RE];simp;omega),dN];refine hk _ _ (.inr ⟨h.nx,?_,hle.nx,Nat.lt_succ_self _,hlo,T.au _ _ _⟩) ((hle.set h1 _).new _);rw[show(L.take i++[p]++L.drop i).length=L.length+(0+1)by simp;omega]
def sx(p x:L4):Bool:=decide (0<nX x.t x.r p.t p.r)
def cV(L:List L4)(p:L4):List L4:=match L.findIdx? (gx p.t p.r)with
 |some i=>L.set i p
 |none=>match L.findIdx? (sx p)with
  |some i=>L.take i++[p]++L.drop i
  |none=>L++[p]
theorem aa0(p x:L4)(b:Nat)(h:af)(V:KQ)(hlo:h.lo<=h.nx)(hb:b<h.nx)(hg:h.bl.get b=some (ai (bS p) 46 false))(hk:∀h',Le h h'->V (.bool (sx p x)) h'):aj prog 254 [wO x,aq b] h V:=by
 apply YYZ;rw[Y1];simp(disch:=try exact Y)only[Wz,bS,hg];refine kf _ _ _ _ ?_;have:=hk _ ((Le.refl h).new (ai (bS x) 46 false));by_cases h1:0<nX x.t x.r p.t p.r
 .simp(disch:=try exact Y)only[Wz];simp only[sx,bx h1,bS]at this;exact this
 .simp(disch:=try exact Y)only[Wz];simp only[sx,aZ h1,bS]at this;exact this
def kF(h:af)(v:Value)(L:List L4):Prop:=Sl bS h v L/\vS 46 h v/\ki 8 v v=true
theorem kF.le{h h':af}{v:Value}{L:List L4}(s:kF h v L)(l:Le h h'):kF h' v L:=⟨s.1.le l,s.2.1.le l,s.2.2⟩
theorem kF.own{a h:af}{v:Value}{L:List L4}(o:qZ a h v L):kF h v L:=⟨o.sl,vS.own o,o.same⟩
theorem kF.nil(h:af):kF h (.slice none 0 0) []:=⟨Sl.nil _ _ _,(λb o n c e=>by cases e),qI _ _⟩
theorem kF.cell{h:af}{v:Value}{L:List L4}(s:kF h v L):∃x c,v=.slice x L.length c:=by
 obtain⟨x,c,rfl,_⟩:=s.1;exact⟨x,c,rfl⟩
theorem kF.keep{h h':af}{v:Value}{L:List L4}(s:kF h v L)(hn:h.nx<=h'.nx)(hg:∀c vs op,c<h.nx->h.bl.get c=some (ai vs 46 op)->h'.bl.get c=h.bl.get c):kF h' v L:=by
 obtain⟨⟨x,cap,rfl,h2⟩,t,q⟩:=s;refine⟨⟨x,cap,rfl,λhn0=>?_⟩,λb o n c hv hn0=>?_,q⟩
 .obtain⟨b,o,rfl,h3,h4⟩:=h2 hn0;obtain⟨h1,vs,op,h5⟩:=t b o _ cap rfl (by intro h0;exact hn0 (List.eq_nil_of_length_eq_zero h0));exact⟨b,o,rfl,XQ,by rw[hg b vs op h1 h5];exact h4⟩
 .obtain⟨h1,vs,op,h5⟩:=t b o n c hv hn0;exact⟨XQ,vs,op,(hg b vs op h1 h5).trans h5⟩
theorem Lu(L:List L4)(p:L4)(h:af)(v:Value)(V:KQ)(hv:Sl bS h v L)(hlen:L.length<=100000)(hlo:h.lo<=h.nx)(hk:∀v' h',kF h' v' (cV L p)->Le h h'->V v' h'):aj prog 177 [v,wO p] h V:=by
 apply YYZ;rw[Yx];simp(disch:=try exact Y)only[Wz,bS];obtain⟨hA,bh,aU,gA,eE,eG⟩:=nP h (ai [YYY p.x,YYY p.t,YYY p.r,YYY p.m] 46 false);rw[<-bh];clear bh;refine qi L hA v _ (hv.le aU) XQ XQ ?_;intro v2 h2 mj hle2;have n2:=hle2.nx;have l2:=hle2.lo;have g2:=(hle2.get h.nx XQ).trans gA;simp(disch:=try exact Y)only[Wz,g2];refine afX L p.t p.r h2 v2 _ mj.sl XQ XQ ?_;intro h3 bJ;have n3:=bJ.nx;have l3:=bJ.lo;have g3:=(bJ.get h.nx XQ).trans g2;have jY:=hle2.trans bJ;rcases oL L (gx p.t p.r)with⟨f1,_⟩|⟨i,q,f1,f2,_,_⟩
 .simp only[f1,fS];simp(disch:=try exact Y)only[Wz,E_];refine zQ L (sx p) h3 v2 _ _ (mj.sl.le bJ) XQ ?_ ?_
  .intro x hx h4 κ4 bW Ac;have n4:=bW.nx;have l4:=bW.lo;simp(disch:=try exact Y)only[Wz];exact aa0 p x h.nx h4 κ4 XQ XQ ((bW.get h.nx XQ).trans g3) Ac
  .intro h4 bW;have n4:=bW.nx;have l4:=bW.lo;have g4:=(bW.get h.nx XQ).trans g3;have iY:=jY.trans bW;refine⟨λl h'=>h4=h'/\∃j:Nat,ah l 4=YYY (j:Int)/\j<=L.length/\L.take j++[p]++L.drop j=cV L p,?_,?_⟩
   .rcases oL L (sx p)with⟨e1,_⟩|⟨j,q,e1,e2,_,_⟩
    .simp only[e1,fS];simp(disch:=try exact Y)only[Wz,mj.sl.len];exact⟨trivial,L.length,rfl,Nat.le_refl _,by simp[cV,f1,e1]⟩
    .simp only[e1,fS];simp(disch:=try exact Y)only[Wz];have hj:=(List.getElem?_eq_some_iff.1 e2).1;exact⟨trivial,j,rfl,XQ,by simp[cV,f1,e1]⟩
   .rintro l h' ⟨rfl,j,hs,hj,hput⟩;simp(disch:=try exact Y)only[Wz,hs,g4];refine RF (a:=hA) (L:=L) (p:=p) hj ((mj.le (bJ.trans bW)).le ((Le.refl _).new _)) ((iY).new _) hlen (by show h4.lo<=h4.nx+1;omega) (T.au _ _ _) (Nat.lt_succ_self _) ?_ _ ?_
    .intro hlt b n c e;subst e;rcases mj with⟨e,_⟩|⟨b',e,_,b2,_⟩
     .subst e;simp at hlt
     .cases e;have:=(bJ.trans bW).nx;omega
    .intro v' h5 oI dA;rw[hput]at oI;exact hk v' h5 (.own oI) (aU.trans dA)
 .simp only[f1,fS];have hi:i<L.length:=(List.getElem?_eq_some_iff.1 f2).1;have pz:=mj.le bJ;rcases pz with⟨rfl,_⟩|⟨b,rfl,b1,b2,b3,b4⟩
  .simp at hi
  .have hfl:=RE L;have CB:=rV cC L i p hi;simp only[bS]at CB;simp(disch:=try exact Y)only[Wz,g3,bt,b4,CB];have hput:cV L p=L.set i p:=by simp only[cV,f1]
   rw[hput]at hk;refine hk _ _ ⟨⟨_,aW,by rw[List.length_set],λ_=>⟨b,0,rfl,b2,by rw[T.au];exact Has.all⟩⟩,λb' o' n' c' e _=>?_,gO _ _ _ _⟩ (aU.trans ((jY).set b1 _));cases e;exact⟨b2,_,_,T.au _ _ _⟩
def cE(L:List L4)(t r:Int):List L4:=L.filter λp=>!gx t r p
theorem UL(t r:Int)(p:L4)(b:Nat)(h:af)(V:KQ)(hlo:h.lo<=h.nx)(hb:b<h.nx)(hg:h.bl.get b=some (ai [YYY t,YYY r] 28 false))(hk:∀h',Le h h'->V (.bool (gx t r p)) h'):aj prog 265 [wO p,aq b] h V:=by
 apply YYZ;rw[Y5];simp(disch:=try exact Y)only[Wz,bS,hg,oJ];exact hk _ ((Le.refl h).new _)
theorem RG(L:List L4)(t r:Int)(h:af)(v:Value)(V:KQ)(hv:Sl bS h v L)(hlen:L.length<=100000)(hlo:h.lo<=h.nx)(hk:∀v' h',kF h' v' (cE L t r)->Le h h'->V v' h'):aj prog 188 [v,cQ t r] h V:=by
 apply YYZ;rw[YG];simp(disch:=try exact Y)only[Wz,cQ];obtain⟨hA,bh,aU,gA,eE,eG⟩:=nP h (ai [YYY t,YYY r] 28 false);rw[<-bh];clear bh;refine qi L hA v _ (hv.le aU) XQ XQ ?_;intro v2 h2 mj hle2;have n2:=hle2.nx;have l2:=hle2.lo;refine M0 hA h2 L (gx t r) v2 _ _ hle2 mj hlen XQ ?_ ?_
 .intro p h3 κ3 bJ _ uO;have n3:=bJ.nx;have l3:=bJ.lo;simp(disch:=try exact Y)only[Wz];exact UL t r p h.nx h3 κ3 XQ XQ ((bJ.get h.nx XQ).trans gA) uO
 .intro v' h3 hs Pf bJ _ ht;refine hk v' h3 ⟨hs,ht,?_⟩ (aU.trans bJ);rcases Pf with⟨_,rfl⟩|⟨_,b,o,rfl⟩|⟨b,o,cap,rfl,_⟩|⟨b,vs,n,rfl,_⟩
  .exact qI _ _
  .exact gO _ _ _ _
  .exact gO _ _ _ _
  .exact gO _ _ _ _
theorem aa1(a0 a1:Value)(h:af)(V:KQ):aT prog 328 [a0,a1] h V=eW prog 3 2 a0 a1 h V:=by kernel_rfl
theorem aa2(a0 a1:Value)(h:af)(V:KQ):aT prog 259 [a0,a1] h V=jj prog 3 328 a0 a1 h V:=by kernel_rfl
theorem Hh(L:List N2)(F:N2->Bool)(h:af)(v fv:Value)(V:KQ)(hv:Sl eP h v L)(hlen:L.length<=1000000)(hF:∀p,p∈L->∀(h1:af)(κ1:Value->af->Prop),Le h h1->(∀h2,Le h1 h2->κ1 (.bool (F p)) h2)->fL prog fv [Cz eP p] h1 κ1)(hk:∀h',Le h h'->V (.bool (L.any F)) h'):aj prog 259 [v,fv] h V:=rz mixed encN_len aa1 aa2 L F h v fv V hv hlen hF hk
def kP(a m:Int):Bool:=decide (a=6) || ((decide (a=3) || decide (a=4) || decide (a=5)) && (decide (m=1) || decide (m=3)))
theorem aa3:∀i,i<7->∀j,j<7->br prog 200 261 [YYY (.ofNat i),YYY (.ofNat j)] (.bool (kP (.ofNat i) (.ofNat j)))=true:=by decide +kernel
theorem aa4(n:Nat)(b:Int):br prog 200 261 [YYY (.negSucc n),YYY b] (.bool (kP (.negSucc n) b))=true:=by kernel_rfl
theorem aa5(n:Nat)(b:Int):br prog 200 261 [YYY (.ofNat (n+7)),YYY b] (.bool (kP (.ofNat (n+7)) b))=true:=by kernel_rfl
theorem aa6:∀i,i<7->∀n:Nat,br prog 200 261 [YYY (.ofNat i),YYY (.negSucc n)] (.bool (kP (.ofNat i) (.negSucc n)))=true:=by
 refine seven ?_ ?_ ?_ ?_ ?_ ?_ ?_<;>intro n<;>kernel_rfl
theorem aa7:∀i,i<7->∀n:Nat,br prog 200 261 [YYY (.ofNat i),YYY (.ofNat (n+7))] (.bool (kP (.ofNat i) (.ofNat (n+7))))=true:=by
 refine seven ?_ ?_ ?_ ?_ ?_ ?_ ?_<;>intro n<;>kernel_rfl
theorem aa8(a b:Int){h:af}{V:KQ}(hk:V (.bool (kP a b)) h):aj prog 261 [YYY a,YYY b] h V:=
 kZ mixed (F:=λa b=>.bool (kP a b)) aa3 aa4 aa5 aa6 aa7 a b hk
def ua(t r m:Int):Bool:=decide (bf t r≠-1) && kn m && decide (m≠0)
theorem UM(t r m:Int){h:af}{V:KQ}(hk:V (.bool (ua t r m)) h):aj prog 258 [cQ t r,YYY m] h V:=by
 refine gN (v:=.bool (ua t r m)) rfl rfl (ay mixed ?_) hk;rw[Y2];simp(disch:=try exact Y)only[Wz,cQ];refine nY t r ?_;by_cases hl:bf t r = -1
 .rw[if_pos hl];simp(disch:=try exact Y)only[Wz,aZ (show ¬(2:Int)=0 by decide)];simp[ua,hl]
 .rw[if_neg hl];simp(disch:=try exact Y)only[Wz];refine oH m ?_;cases hkn:kn m with
  |false=>simp(disch:=try exact Y)only[Wz];simp[ua,hl,hkn]
  |true=>
   by_cases h0:m=0
   .simp(disch:=try exact Y)only[Wz,bx h0];simp[ua,hl,hkn,h0]
   .simp(disch:=try exact Y)only[Wz,aZ h0];simp[ua,hl,hkn,h0]
def lY(f:Int->Int->Int)(t r m:Int):Bool:=!ua t r m || iK (f t r) m || (gu t r).any λa=>kP (f a.1 a.2) m
theorem aa9(L:List L4)(t r m:Int)(b1 b5:Nat)(h:af)(v:Value)(V:KQ)(hv:Sl bS h v L)(hlen:L.length<=100000)(hlo:h.lo<=h.nx)(n1:b1<h.nx)(n5:b5<h.nx)(g1:h.bl.get b1=some (ai [v] 43 false))(g5:h.bl.get b5=some (ai [YYY m] 29 false))(hk:∀h',Le h h'->V (.bool (kP (aO L t r) m)) h'):aj prog 260 [cQ t r,aq b1,aq b5] h V:=by
 apply YYZ;rw[Y3];simp(disch:=try exact Y)only[Wz,cQ,g1,g5];have hle:=(Le.refl h).new (ai [YYY t,YYY r] 28 false);refine kE L t r _ v _ (hv.le hle) XQ (by show h.lo<=h.nx+1;omega) ?_;intro h' hl';have hall:=hle.trans hl';have g5':=(hall.get b5 n5).trans g5;simp(disch:=try exact Y)only[Wz,g5'];exact aa8 _ _ (hk h' hall)
theorem M9(L:List L4)(t r m:Int)(h:af)(v:Value)(V:KQ)(hv:Sl bS h v L)(hlen:L.length<=100000)(hlo:h.lo<=h.nx)(hk:∀h',Le h h'->V (.bool (lY (aO L) t r m)) h'):aj prog 179 [v,cQ t r,YYY m] h V:=by
 apply YYZ;rw[Yy];have hv0:=hv;obtain⟨x,cap,rfl,hx⟩:=hv;simp(disch:=try exact Y)only[Wz,cQ];obtain⟨hA,eA⟩:∃hA:af,hA=⟨h.nx+1+1+1,T.bq (T.bq (h.bl.bq h.nx (ai [.slice x L.length cap] 43 false)) (h.nx+1) (ai [YYY t,YYY r] 28 false)) (h.nx+1+1) (ai [YYY m] 29 false),h.lo⟩:=⟨_,rfl⟩
 have iD:Le h hA:=by subst eA;exact(((Le.refl h).new _).new _).new _
 have g1:hA.bl.get h.nx=some (ai [.slice x L.length cap] 43 false):=by subst eA;exact(T.ax _ _ XQ).trans ((T.ax _ _ XQ).trans (T.au _ _ _))
 have g3:hA.bl.get (h.nx+1)=some (ai [YYY t,YYY r] 28 false):=by subst eA;exact(T.ax _ _ XQ).trans (T.au _ _ _)
 have g5:hA.bl.get (h.nx+1+1)=some (ai [YYY m] 29 false):=by subst eA;exact T.au _ _ _
 have nA:hA.nx=h.nx+1+1+1:=by subst eA;rfl
 have lA:hA.lo=h.lo:=by subst eA;rfl
 rw[<-eA];clear eA;refine UM t r m ?_;have hvA:=hv0.le iD;cases ha:ua t r m with
 |false=>
  simp(disch:=try exact Y)only[Wz];have:=hk hA iD;simpa[lY,ha]using this
 |true=>
  simp(disch:=try exact Y)only[Wz,g1,g3,g5];refine kE L t r hA _ _ hvA XQ XQ ?_;intro h2 hle2;have n2:=hle2.nx;have l2:=hle2.lo;have SN:=(hle2.get _ XQ).trans g3;have g5':=(hle2.get _ XQ).trans g5;have Sm:=(hle2.get _ XQ).trans g1;simp(disch:=try exact Y)only[Wz,g5'];refine p8 _ _ ?_;have qj:=iD.trans hle2;cases hc:iK (aO L t r) m with
  |true=>
   simp(disch:=try exact Y)only[Wz];have:=hk h2 qj;simpa[lY,ha,hc]using this
  |false=>
   simp(disch:=try exact Y)only[Wz,SN];refine Ry t r h2 _ XQ ?_;intro u h3 hu _ bJ;have n3:=bJ.nx;have l3:=bJ.lo;have hlA:(gu t r).length<=2:=by unfold gu;split<;>(try split)<;>simp
   refine Hh (gu t r) (λa=>kP (aO L a.1 a.2) m) h3 u _ _ hu XQ ?_ ?_
   ·intro p hp h4 κ4 bW Ac;have n4:=bW.nx;have l4:=bW.lo;simp(disch:=try exact Y)only[Wz,List.nil_append,List.cons_append];exact aa9 L p.1 p.2 m h.nx (h.nx+1+1) h4 _ κ4 (((hvA.le hle2).le bJ).le bW) hlen XQ XQ XQ
     ((bW.get _ XQ).trans ((bJ.get _ XQ).trans Sm)) ((bW.get _ XQ).trans ((bJ.get _ XQ).trans g5')) Ac
   .intro h4 bW;have:=hk h4 ((qj.trans bJ).trans bW);simpa[lY,ha,hc]using this
abbrev N3:=Int × Int × Int
def lZ(p:N3):List Value:=[YYY p.1,YYY p.2.1,YYY p.2.2]
theorem om(p:N3):(lZ p).length=3:=rfl
theorem qk(p:N3):(lZ p).all dI=true:=rfl
def BQ(f:Int->Int->Int)(m:Int)(A:List N2):List N3:=(A.filter λa=>!iK (f a.1 a.2) (ja m)).map λa=>(a.1,a.2,bA (f a.1 a.2) (ja m))
def ck(f:Int->Int->Int)(t r m:Int):List N3:=if lY f t r m=true then[]else BQ f m (gu t r)++[(t,r,bA (f t r) m)]
theorem ud{f:Int->Int->Int}{m:Int}{A:List N2}{k:Nat}{a:N2}(ha:A[k]? = some a):BQ f m (A.take (k+1))=BQ f m (A.take k)++if iK (f a.1 a.2) (ja m)=true then[]else[(a.1,a.2,bA (f a.1 a.2) (ja m))]:=by
 obtain⟨hj,rfl⟩:=List.getElem?_eq_some_iff.1 ha;unfold BQ;rw[List.take_succ_eq_append_getElem hj,List.filter_append,List.map_append];cases h:iK (f A[k].1 A[k].2) (ja m)<;>simp[h]
theorem Dp(f:Int->Int->Int)(m:Int)(A:List N2):(BQ f m A).length<=A.length:=by
 unfold BQ;rw[List.length_map];exact List.length_filter_le _ _
theorem aa_(L:List L4)(t r m:Int)(h:af)(v:Value)(V:KQ)(hv:Sl bS h v L)(hlen:L.length<=100000)(hlo:h.lo<=h.nx)(hk:∀v' h',fF lZ 160 h' v' (ck (aO L) t r m)->Le h h'->V v' h'):aj prog 128 [v,cQ t r,YYY m] h V:=by
 apply YYZ;rw[Ya];simp(disch:=try exact Y)only[Wz,cQ];obtain⟨hA,eA⟩:∃hA:af,hA=⟨h.nx+1,h.bl.bq h.nx (ai [YYY t,YYY r] 28 false),h.lo⟩:=⟨_,rfl⟩
 have iD:Le h hA:=by subst eA;exact(Le.refl h).new _
 have gA:hA.bl.get h.nx=some (ai [YYY t,YYY r] 28 false):=by subst eA;exact T.au _ _ _
 have nA:hA.nx=h.nx+1:=by subst eA;rfl
 have lA:hA.lo=h.lo:=by subst eA;rfl
 rw[<-eA];clear eA;refine M9 L t r m hA v _ (hv.le iD) hlen XQ ?_;intro h2 hle2;have n2:=hle2.nx;have l2:=hle2.lo;have g2:=(hle2.get h.nx XQ).trans gA;have qj:=iD.trans hle2;cases himp:lY (aO L) t r m with
 |true=>
  simp(disch:=try exact Y)only[Wz];exact hk _ _ (.inl ⟨by simp[ck,himp],rfl⟩) qj
 |false=>
  simp(disch:=try exact Y)only[Wz];refine Hg m ?_;simp(disch:=try exact Y)only[Wz,g2];refine Ry t r h2 _ XQ ?_;intro u h3 hu _ bJ;have n3:=bJ.nx;have l3:=bJ.lo;have hlA:=t_ t r;have jY:=qj.trans bJ;simp(disch:=try exact Y)only[Wz,hu.len];refine⟨λn l h4=>Le h3 h4/\∃k:Nat,ah l 22=YYY (k:Int)/\k<=(gu t r).length/\n=(gu t r).length-k/\ia lZ h3 160 h4 (ah l 20) (BQ (aO L) m ((gu t r).take k)),⟨_,Le.refl _,0,rfl,Nat.zero_le _,rfl,.inl ⟨rfl,.inl rfl⟩⟩,?_⟩;rintro n l h4 ⟨bW,k,s4,Ac,rfl,HL⟩;have n4:=bW.nx;have l4:=bW.lo;have iY:=jY.trans bW;have hu4:=Dp (aO L) m ((gu t r).take k);rw[List.length_take]at hu4;by_cases hlt:k<(gu t r).length
  .obtain⟨a,ha⟩:∃a,(gu t r)[k]? = some a:=⟨_,List.getElem?_eq_getElem hlt⟩
   obtain⟨b,o,hb,mD,mh⟩:=ldN (hu.le bW) k ha;simp(disch:=try exact Y)only[Wz,yK,s4];refine⟨λj7 h5=>Le h3 h5/\ia lZ h3 160 h5 (ah j7 19) (BQ (aO L) m ((gu t r).take (k+1))),?_,?_⟩
   .simp(disch:=try exact Y)only[Wz,E1,s4,mD,mh,eP];obtain⟨hB,eB⟩:∃hB:af,hB=⟨h4.nx+1,h4.bl.bq h4.nx (ai [YYY a.1,YYY a.2] 28 false),h4.lo⟩:=⟨_,rfl⟩
    have r8:Le h4 hB:=by subst eB;exact(Le.refl h4).new _
    have gB:hB.bl.get h4.nx=some (ai [YYY a.1,YYY a.2] 28 false):=by subst eB;exact T.au _ _ _
    have lB:hB.lo=h4.lo:=by subst eB;rfl
    have nB:hB.nx=h4.nx+1:=by subst eB;rfl
    rw[<-eB];clear eB;refine kE L a.1 a.2 hB v _ (hv.le (iY.trans r8)) XQ XQ ?_;intro h5 dA;have n5:=dA.nx;have l5:=dA.lo;have g5:=(dA.get h4.nx XQ).trans gB;have lU:=(bW.trans r8).trans dA;refine p8 _ _ ?_;have oI:=(HL.le r8).le dA;cases hc:iK (aO L a.1 a.2) (ja m)with
    |true=>
     simp(disch:=try exact Y)only[Wz];refine⟨lU,?_⟩;rw[ud ha,if_pos hc,List.append_nil];exact oI
    |false=>
     simp(disch:=try exact Y)only[Wz,E0,g5];refine zd _ _ ?_;simp(disch:=try exact Y)only[Wz,g5,oI.same];have ku:=(Le.refl h5).new (ai [YYY a.1,YYY a.2,YYY (bA (aO L a.1 a.2) (ja m))] 160 false);refine iO (enc:=lZ) (a:=h3) (L:=BQ (aO L) m ((gu t r).take k)) (M:=[(a.1,a.2,bA (aO L a.1 a.2) (ja m))]) om qk XQ XQ (oI.le ku) ⟨_,1,rfl,λ_=>⟨h5.nx,0,rfl,Nat.lt_succ_self _,by show Has ((T.bq _ _ _).get _) 0 _;rw[T.au];exact Has.all⟩⟩ (lU.trans ku)
      (by simp;omega) (by show h5.lo<=h5.nx+1;omega) _ ?_
     intro v' h' ho' hl' _ _;refine⟨hl',?_⟩;rw[ud ha,hc,if_neg (by simp)];exact ho'
   .rintro j7 h5 ⟨SB,oI⟩;exact⟨_,XQ,SB,k+1,rfl,XQ,rfl,oI⟩
  .have hkk:k=(gu t r).length:=by omega
   subst hkk;rw[List.take_length]at HL hu4;have g4:=(bW.get h.nx XQ).trans ((bJ.get h.nx XQ).trans g2);simp(disch:=try exact Y)only[Wz,yK,s4,E2,g4];refine kE L t r h4 v _ (hv.le iY) XQ XQ ?_;intro h5 dA;have n5:=dA.nx;have l5:=dA.lo;have g5:=(dA.get h.nx XQ).trans g4;have oI:=HL.le dA;have lU:=bW.trans dA;simp(disch:=try exact Y)only[Wz,g5,oI.same];refine zd _ _ ?_;simp(disch:=try exact Y)only[Wz,g5,oI.same];have ku:=(Le.refl h5).new (ai [YYY t,YYY r,YYY (bA (aO L t r) m)] 160 false);refine iO (enc:=lZ) (a:=h3) (L:=BQ (aO L) m (gu t r)) (M:=[(t,r,bA (aO L t r) m)]) om qk XQ XQ (oI.le ku) ⟨_,1,rfl,λ_=>⟨h5.nx,0,rfl,Nat.lt_succ_self _,by show Has ((T.bq _ _ _).get _) 0 _;rw[T.au];exact Has.all⟩⟩ (lU.trans ku)
    (by simp;omega) (by show h5.lo<=h5.nx+1;omega) _ ?_
   intro v' h' ho' hl' _ _;have e:ck (aO L) t r m=BQ (aO L) m (gu t r)++[(t,r,bA (aO L t r) m)]:=by rw[ck,himp];simp
   rw[<-e]at ho';exact hk v' h' (fF.own ho' (by rw[e];simp)) (jY.trans hl')
theorem swap_perm{E:List L4}{j:Nat}{x y:L4}(hx:E[j+1]? = some x)(hy:E[j]? = some y):((E.set (j+1) y).set j x).Perm E:=by
 induction E generalizing j with
 |nil=>simp at hx
 |cons a E ih=>
  cases j with
  |zero=>
   cases E with
   |nil=>simp at hx
   |cons c E=>
    simp at hx hy;subst hx;subst hy;simpa using List.Perm.swap _ _ _
  |succ j=>
   simp only[List.getElem?_cons_succ]at hx hy;simpa using ih hx hy
theorem RH(b:Nat)(L:List L4)(h:af)(fv:Value)(V:KQ)(hb:h.bl.get b=some (ai (L.flatMap bS) 46 true))(Dy:b<h.nx)(hbl:h.lo<=b)(oS:L.length<=100)(hF:∀p q (h1:af) (κ1:Value->af->Prop),Iu b h h1->(∀i h2,Le h1 h2->κ1 (YYY i) h2)->fL prog fv [wO p,wO q] h1 κ1)(hk:∀(D:List L4) h',D.Perm L->Iu b h h'->h'.bl.get b=some (ai (D.flatMap bS) 46 true)->V (.tuple ⟨[]⟩) h'):aj prog 245 [YYX b L.length aW,YYY 0,YYY (L.length:Int),fv] h V:=by
 apply YYZ;rw[P6];simp(disch:=try exact Y)only[Wz];refine⟨λk l h1=>∃(i:Nat)(D:List L4),ah l 42=YYY (i:Int)/\1<=i/\k=L.length-i/\D.Perm L/\Iu b h h1/\h1.bl.get b=some (ai (D.flatMap bS) 46 true),⟨_,1,L,rfl,Nat.le_refl _,rfl,List.Perm.refl _,Iu.of_le (Le.refl _),hb⟩,?_⟩;rintro k l h1 ⟨i,D,s1,hi1,rfl,hp1,hle1,g1⟩;have n1:=hle1.nx;have l1:=hle1.lo;by_cases hlt:i<L.length
 .simp(disch:=try exact Y)only[Wz,s1,fm (show(i:Int)<(L.length:Int)by omega)];refine⟨λk l5 h5=>∃(j:Nat)(D:List L4),ah l5 35=YYY (j:Int)/\j<=i/\k=j/\D.Perm L/\Iu b h h5/\h5.bl.get b=some (ai (D.flatMap bS) 46 true),⟨_,i,D,rfl,Nat.le_refl _,rfl,hp1,hle1,g1⟩,?_⟩;rintro k l5 h5 ⟨j,E,s5,hj,rfl,hpE,dA,g5⟩;have n5:=dA.nx;have l5':=dA.lo;have hlE:E.length=L.length:=hpE.length_eq;by_cases hj0:k=0
  .subst hj0;simp(disch:=try exact Y)only[Wz,yV,s5,s1];exact⟨_,XQ,i+1,E,rfl,XQ,rfl,hpE,dA,g5⟩
  .obtain⟨j,rfl⟩:∃j,k=j+1:=⟨k-1,XQ⟩
   have e1:((j+1:Nat):Int)-1=(j:Nat):=by omega
   obtain⟨x,hx⟩:∃x,E[j+1]? = some x:=⟨_,List.getElem?_eq_getElem XQ⟩
   obtain⟨y,hy⟩:∃y,E[j]? = some y:=⟨_,List.getElem?_eq_getElem XQ⟩
   have r1:=rdE cC g5 hx;have r2:=rdE cC g5 hy;simp(disch:=try exact Y)only[Wz,yV,s5,e1,bt,r1,r2];refine hF x y h5 _ dA ?_;intro c h6 ku;have n6:=ku.nx;have l6:=ku.lo;have g6:=(ku.get b XQ).trans g5;have WQ:=dA.trans (Iu.of_le ku);by_cases hc:c<0
   .have SS:=EF cC (p':=y) hx;have hy2:(E.set (j+1) y)[j]? = some y:=by rw[List.getElem?_set,if_neg XQ];exact hy
    have mj:=EF cC (p':=x) hy2;have MP:=bz cC E;have hf2:=bz cC (E.set (j+1) y);rw[List.length_set]at hf2;have r3:=rdE cC g6 hx;have r4:=rdE cC g6 hy;simp only[bS]at SS mj;simp(disch:=try exact Y)only[Wz,bx hc,FD,s5,e1,bt,r3,r4,bS];simp(disch:=try exact Y)only[Wz,g6,SS,mj];refine⟨_,XQ,j,(E.set (j+1) y).set j x,rfl,XQ,rfl,(swap_perm hx hy).trans hpE,WQ.trans (Iu.set (Le.refl h6) _),rfl⟩
   .simp(disch:=try exact Y)only[Wz,aZ hc,s1];exact⟨_,XQ,i+1,E,rfl,XQ,rfl,hpE,WQ,g6⟩
 .simp(disch:=try exact Y)only[Wz,s1,dF (show(L.length:Int)<=(i:Int)by omega)];exact hk D h1 hp1 hle1 g1
theorem aba(p q:L4)(h:af)(V:KQ)(hlo:h.lo<=h.nx)(hk:∀i h',Le h h'->V (YYY i) h'):aj prog 272 [.agg ⟨[]⟩,wO p,wO q] h V:=by
 apply YYZ;rw[Y9];simp(disch:=try exact Y)only[Wz,bS];have hle:=(((Le.refl h).new (ai [] 364 false)).new (ai [YYY p.x,YYY p.t,YYY p.r,YYY p.m] 46 false)).new (ai [YYY q.x,YYY q.t,YYY q.r,YYY q.m] 46 false);have hk:=λi=>hk i _ hle;have c1:=og p.t p.r;have c2:=og q.t q.r;refine qP q.t q.r ?_;simp(disch:=try exact Y)only[Wz];refine qP p.t p.r ?_;by_cases hz:bf q.t q.r-bf p.t p.r=0
 .simp(disch:=try exact Y)only[Wz,bx hz];exact kf _ _ _ _ (hk _)
 .simp(disch:=try exact Y)only[Wz,aZ hz];exact hk _
theorem abb(p q:L4)(b:Nat)(h:af)(V:KQ)(hlo:h.lo<=h.nx)(hb:b<h.nx)(hg:h.bl.get b=some (ai [.func (.func 272) ⟨[]⟩ ⟨[]⟩] 362 false))(hk:∀i h',Le h h'->V (YYY i) h'):aj prog 274 [wO p,wO q,aq b] h V:=by
 apply YYZ;rw[Za];simp(disch:=try exact Y)only[Wz,bS,hg];refine aba p q _ V (by show h.lo<=h.nx+1+1;omega) ?_;intro i h' hle;exact hk i h' ((((Le.refl h).new _).new _).trans hle)
theorem RI(v fv:Value)(n:Nat)(hn:n<20)(h:af)(V:KQ)(hk:aj prog 245 [v,YYY 0,YYY (n:Int),fv] h λ_ h'=>V (.tuple ⟨[]⟩) h'):aj prog 331 [v,YYY (n:Int),fv] h V:=by
 apply YYZ;rw[Zr];refine⟨λn l h1=>HQ h h1/\ah l 13=YYY 20/\ah l 9=YYY 0,⟨0,rfl,rfl,rfl⟩,?_⟩;rintro _ l h1 ⟨hE,s1,s2⟩;cases(show h=h1 from hE);simp(disch:=try exact Y)only[Wz,s1,s2,FN];refine aj.mono hk ?_;intro _ h2 hk2;refine⟨λn l h1=>HQ h2 h1/\ah l 38=YYY 20,⟨0,rfl,rfl⟩,?_⟩;rintro _ l h3 ⟨hE,s1⟩;cases(show h2=h3 from hE);simp(disch:=try exact Y)only[Wz,s1];exact hk2
theorem abc(p:L4)(hok:bf p.t p.r≠-1)(h:af)(V:KQ)(hlo:h.lo<=h.nx)(hk:∀h',Le h h'->V (.bool false) h'):aj prog 271 [wO p] h V:=by
 apply YYZ;rw[Y8];simp(disch:=try exact Y)only[Wz,bS];refine nY p.t p.r ?_;rw[if_neg hok];simp(disch:=try exact Y)only[Wz];exact hk _ ((Le.refl h).new _)
theorem Dq(L:List L4)(h:af)(v fv:Value)(V:KQ)(hv:Sl bS h v L)(hlen:L.length<=100000)(hF:∀p,p∈L->∀(h1:af)(κ1:Value->af->Prop),Le h h1->(∀h2,Le h1 h2->κ1 (.bool false) h2)->fL prog fv [wO p] h1 κ1)(hk:∀h',Le h h'->V v h'):aj prog 264 [v,fv] h V:=by
 apply YYZ;rw[RA];unfold eX;refine zQ L (λ_=>false) h v fv _ hv XQ hF ?_;intro h1 hle1;have e:L.findIdx? (λ_=>false)=none:=by rw[List.findIdx?_eq_none_iff];intro _ _;rfl
 simp only[e,fS];simp(disch:=try exact Y)only[Wz];exact hk h1 hle1
theorem ql(f:Fn)(a b:Array Value):(Value.cells (.func f a b)).toList=[.func f a b]:=id rfl
theorem UN(L:List L4)(h:af)(v:Value)(V:KQ)(hv:Sl bS h v L)(hlen:L.length<20)(hlo:h.lo<=h.nx)(hok:∀p∈L,bf p.t p.r≠-1)(hk:∀(D:List L4) v' h',D.Perm L->fE bS 4 46 h' v' D->Le h h'->V v' h'):aj prog 192 [v] h V:=by
 apply YYZ;rw[YI];refine qi L h v _ hv XQ hlo ?_;intro v2 h2 mj hle2;have n2:=hle2.nx;have l2:=hle2.lo;refine Dq L h2 v2 _ _ mj.sl XQ ?_ ?_
 .intro p hp h3 κ3 bJ uO;have n3:=bJ.nx;have l3:=bJ.lo;simp(disch:=try exact Y)only[Wz,List.nil_append,List.append_nil];exact abc p (hok p hp) h3 κ3 XQ uO
 intro h3 bJ;have n3:=bJ.nx;have l3:=bJ.lo;have pz:=mj.le bJ;simp(disch:=try exact Y)only[Wz,ql];obtain⟨hA,bh,aU,gA,eE,eG⟩:=nP h3 (ai [.func (.func 272) ⟨[]⟩ ⟨[]⟩] 362 false);rw[<-bh];clear bh;have Hi:=(hle2.trans bJ).trans aU;apply YYZ;rw[Y_];simp(disch:=try exact Y)only[Wz,pz.sl.len];refine RI v2 _ L.length hlen hA _ ?_;rcases pz.le aU with⟨rfl,ND⟩|⟨b,rfl,b1,b2,b3,b4⟩
 ·have abd:∀(v fv:Value)(h:af)(V:KQ),V (.tuple ⟨[]⟩) h->aj prog 245 [v,YYY 0,YYY 0,fv] h V:=by
   intro v fv h V hk;apply YYZ;rw[P6];simp(disch:=try exact Y)only[Wz];refine⟨λn l h1=>HQ h h1/\ah l 42=YYY 1,⟨0,rfl,rfl⟩,?_⟩;rintro n l h1 ⟨hE,s1⟩;cases(show h=h1 from hE);simp(disch:=try exact Y)only[Wz,s1];exact hk
  refine abd _ _ _ _ ?_;exact hk [] v2 hA (List.Perm.refl _) (.own (.inl ⟨rfl,ND⟩:qZ h hA v2 [])) Hi
 ·have hbA:b<h3.nx:=by
   rcases pz with⟨_,e|⟨_,_,e⟩⟩|⟨b',e,_,c2,_⟩
   .simp at e
   .simp[aW]at e
   .simp at e;omega
  refine RH b L hA _ _ b4 b2 b3 XQ ?_ ?_
  .intro p q h4 κ4 bW Ac;have n4:=bW.nx;have l4:=bW.lo;simp(disch:=try exact Y)only[Wz,List.nil_append];exact abb p q h3.nx h4 κ4 XQ XQ ((bW.get h3.nx XQ XQ).trans gA) Ac
  .intro D h4 p1 bW g4;have hlD:=p1.length_eq;have n4:=bW.nx;have l4:=bW.lo;have akU:Le h h4:=⟨by have:=Hi.nx;omega,by rw[l4];exact Hi.lo,λc hc=>(bW.get c (by have:=Hi.nx;omega) XQ).trans (Hi.get c hc)⟩
   refine hk D _ h4 p1 (fE.own (a:=h) (.inr ⟨b,by rw[hlD],b1,XQ,XQ,g4⟩)) akU
section
variable {h:af}{A:WA}{a:TA}{N:Nat}{d:TD}{R:RD}{H X:Int->Int->Int}
end
section
variable {h:af}{A:WA}{a:TA}{N:Nat}{d:TD}{R:RD}{H X:Int->Int->Int}
end
section
variable {h:af}{a:TA}{N:Nat}{d:TD}{H X:Int->Int->Int}
end
section
variable {h:af}{A:WA}{a:TA}{N:Nat}{d:TD}{R:RD}{H X:Int->Int->Int}
theorem abe{β:Type}{fl:β}{h:af}{b:Nat}(g:h.bl.get b=some G7)(k:Int)(hk:k=3)(V:UV β):dG fl prog 3 Value.nilFunc false (.map (some b)) (YYY k) h V=V (.func (.func 214) ⟨[]⟩ ⟨[]⟩) h:=by
 subst hk;unfold dG jJ;rw[QZ];simp only[g,G7];rw[findF,if_neg J0,findF,if_neg J0,findF,if_pos rfl];rfl
end
def TH(R:RD)(n:Nat)(x:iz)(out:Int):Prop:=
 (n=0/\R.cs[0]? = some none/\∀k,k<2->R.dO[k]? = some none)\/
 ∃(c:CR)(k:Nat),k<2/\R.cs[0]? = some (some c)/\c.a=x/\c.wt=false/\c.th=((0:Nat):Int)/\c.st=(k:Int)/\ef x.t x.r 2=(k:Int)/\ni x=true/\(∀j,j<2->j≠k->R.dO[j]? = some none)/\
  ((n=3/\c.ph=1/\R.dO[k]? = some none)\/(n=2/\c.ph=2/\∃p,R.dO[k]? = some (some (p,c.th)))\/(n=1/\c.ph=3/\(∃p,R.dO[k]? = some (some (p,c.th)))/\c.out=out/\out≠0))
section
variable {h h':af}{A:WA}{a:TA}{H X:Int->Int->Int}{N n:Nat}{x:iz}{out:Int}
end
abbrev pt(b:Nat):Value:=YYQ b
def CTy(t:TypeId):Prop:=t=155\/t=224\/t=288\/t=160
def ATy(t:TypeId):Prop:=CTy t\/t=227\/t=46
theorem ATy.nt{t:TypeId}{o:Bool}(h:ATy t):¬o_ t o/\¬nj t o:=by
 rcases h with(rfl|rfl|rfl|rfl)|rfl|rfl<;>refine⟨?_,?_⟩<;>(first|unfold o_|unfold nj)<;>cases o<;>decide
structure FK(a:TA)(h h':af):Prop where
 nx:h.nx<=h'.nx
 lo:h'.lo=h.lo
 ty:∀d vs t o,d<h.nx->h.bl.get d=some (ai vs t o)->¬o_ t o->¬nj t o->¬CTy t->h'.bl.get d=h.bl.get d
 ro:∀d,d<h.nx->(∀vs t o,h.bl.get d≠some (ai vs t o))->(∀es c,h.bl.get d≠some (.map es c))->h'.bl.get d=h.bl.get d
 mp:∀d es c,d<h.nx->h.bl.get d=some (.map es c)->d∉a.ms->h'.bl.get d=h.bl.get d
theorem FK.trans{a:TA}{h h1 h2:af}(x:FK a h h1)(y:FK a h1 h2):FK a h h2 where
 nx:=Nat.le_trans x.nx y.nx
 lo:=y.lo.trans x.lo
 ty d vs t o hd hg h1 h2 h3:=by
  have e:=x.ty d vs t o hd hg h1 h2 h3;exact(y.ty d vs t o (Nat.lt_of_lt_of_le hd x.nx) (e.trans hg) h1 h2 h3).trans e
 ro d hd h1 h2:=by
  have e:=x.ro d hd h1 h2;exact(y.ro d (Nat.lt_of_lt_of_le hd x.nx) (λvs t o=>by rw[e];exact h1 vs t o) (λes c=>by rw[e];exact h2 es c)).trans e
 mp d es c hd hg hn:=by
  have e:=x.mp d es c hd hg hn;exact(y.mp d es c (Nat.lt_of_lt_of_le hd x.nx) (e.trans hg) hn).trans e
theorem WK.fk{a:TA}{h h':af}(k:WK a h h'):FK a h h':=⟨k.nx,k.lo,λd vs t o hd hg h1 h2 _=>k.ty d vs t o hd hg h1 h2,k.ro,k.mp⟩
theorem FK.le{a:TA}{h h':af}(l:Le h h'):FK a h h':=⟨l.nx,l.lo,λd _ _ _ hd _ _ _ _=>l.get d hd,λd hd _ _=>l.get d hd,λd _ _ hd _ _=>l.get d hd⟩
theorem FK.put{a:TA}{h:af}{x:Nat}{v:List Value}{t:TypeId}{o:Bool}(hg:h.bl.get x=some (ai v t o))(ht:CTy t)(ob:bL):FK a h ⟨h.nx,h.bl.bq x ob,h.lo⟩:=by
 refine⟨Nat.le_refl _,rfl,λd vs t' o' _ hgd _ _ hc=>T.ax _ _ ?_,λd _ h1 _=>T.ax _ _ ?_,λd _ _ _ hgd _=>T.ax _ _ (fH hg hgd)⟩
 .rintro rfl;rw[hg]at hgd;obtain⟨rfl,rfl⟩:=oK hgd;exact hc ht
 .rintro rfl;exact h1 _ _ _ hg
theorem FK.leV{a:TA}{h h':af}{v:Value}(l:Tw v h h')(hv:∀d,vT v d->∃vs o,h.bl.get d=some (ai vs 160 o)):FK a h h':=by
 refine⟨l.nx,l.lo,λd vs t' o' hd hgd _ _ hc=>l.get d hd λhb=>?_,λd hd h1 _=>l.get d hd λhb=>?_,λd _ _ hd hgd _=>l.get d hd λhb=>?_⟩
 .obtain⟨vs',o,e⟩:=hv d hb;rw[e]at hgd;obtain⟨rfl,rfl⟩:=oK hgd;exact hc (.inr (.inr (.inr rfl)))
 .obtain⟨vs',o,e⟩:=hv d hb;exact h1 _ _ _ e
 .obtain⟨vs',o,e⟩:=hv d hb;exact fH e hgd rfl
structure KT(T:TypeId->Prop)(h h':af):Prop where
 nx:h.nx<=h'.nx
 lo:h'.lo=h.lo
 ty:∀d vs t o,d<h.nx->h.bl.get d=some (ai vs t o)->T t->h'.bl.get d=h.bl.get d
abbrev KA:=KT ATy
theorem WK.ka{a:TA}{h h':af}(k:WK a h h'):KA h h':=⟨k.nx,k.lo,λd vs t o hd hg ht=>k.ty d vs t o hd hg ht.nt.1 ht.nt.2⟩
theorem KT.le{T:TypeId->Prop}{h h':af}(l:Le h h'):KT T h h':=⟨l.nx,l.lo,λd _ _ _ hd _ _=>l.get d hd⟩
theorem KT.mono{T T':TypeId->Prop}{h h':af}(k:KT T h h')(m:∀t,T' t->T t):KT T' h h':=⟨k.nx,k.lo,λd vs t o hd hg ht=>k.ty d vs t o hd hg (m t ht)⟩
def M_(t:TypeId):Prop:=t=155\/t=288\/t=227\/t=46
theorem M_.a{t:TypeId}(h:M_ t):ATy t:=by
 rcases h with h|h|h|h
 .exact .inl (.inl h)
 .exact .inl (.inr (.inr (.inl h)))
 .exact .inr (.inl h)
 .exact .inr (.inr h)
theorem ktV{α:Type}{enc:α->List Value}{h h':af}{v:Value}{L:List α}(l:Tw v h h')(p:fF enc 160 h v L):KT (λt=>t≠160) h h':=⟨l.nx,l.lo,λd vs t o hd hg ht=>l.get d hd λhb=>by
 obtain⟨_,vs',e⟩:=p.blk hb;rw[hg]at e;exact bE ht e⟩
structure AA where
 ab:Nat
 pb:Nat
 lb:Nat
 wb:Nat
 th:Int
 most:Int
structure AD where
 jG:Int
 asked:List L4
 has:List L4
 aL:List L4
structure CD where
 k:Int
 t:Int
 r:Int
 m:Int
 w:Int
 ask:iz
 fQ:Int
 RJ:FuncId
 DE:Value
 seen:Bool
 code:Int
 dP:List N3
 goes:List L4
structure jb(h:af)(z:AA)(D:AD)(cp:Option Nat):Prop where
 Aj:z.ab<h.nx/\h.lo<=z.ab
 ga:∃va vh,h.bl.get z.ab=some (ai [pt z.wb,YYY z.th,YYY D.jG,va,vh,pt z.pb,dM cp] 155 false)/\kF h va D.asked/\kF h vh D.has
 MV:z.pb<h.nx/\h.lo<=z.pb
 gp:h.bl.get z.pb=some (ai [pt z.lb,YYY (-1-z.th),YYY z.most] 227 false)
 GY:z.lb<h.nx/\h.lo<=z.lb
 gl:∃vp,h.bl.get z.lb=some (ai [vp] 288 false)/\kF h vp D.aL
def agO(z:AA)(D:AD)(va vh:Value)(cp:Option Nat):bL:=ai [pt z.wb,YYY z.th,YYY D.jG,va,vh,pt z.pb,dM cp] 155 false
def c_(z:AA)(c:CD)(vn vg:Value):bL:=ai [vn,vg,YYY c.k,YYY 0,YYY c.t,YYY c.r,YYY c.m,YYY 0,YYY c.w,YYY c.ask.k,YYY c.ask.x,YYY c.ask.t,YYY c.ask.r,YYY c.ask.m,YYY c.ask.w,YYY c.ask.to,YYY c.fQ,.func (.func c.RJ) ⟨[pt z.ab]⟩ ⟨[]⟩,c.DE,.bool c.seen,YYY c.code] 224 false
structure iA(h:af)(z:AA)(kb:Nat)(c:CD):Prop where
 lt:kb<h.nx/\h.lo<=kb
 g:∃vn vg,h.bl.get kb=some (c_ z c vn vg)/\fF lZ 160 h vn c.dP/\fE bS 4 46 h vg c.goes
 DE:dI c.DE=true
section
variable {h h':af}{z:AA}{D:AD}{cp:Option Nat}{kb:Nat}{c:CD}
theorem kF.ka{v:Value}{L:List L4}(s:kF h v L)(k:KT M_ h h'):kF h' v L:=s.keep k.nx λc vs op hc hg=>k.ty c vs _ op hc hg (.inr (.inr (.inr rfl)))
theorem kF.fk{a:TA}{v:Value}{L:List L4}(s:kF h v L)(k:FK a h h'):kF h' v L:=s.keep k.nx λc vs op hc hg=>k.ty c vs _ op hc hg (ATy.nt (.inr (.inr rfl))).1 (ATy.nt (.inr (.inr rfl))).2 (by unfold CTy;decide)
theorem jb.kt(s:jb h z D cp)(k:KT M_ h h'):jb h' z D cp:=by
 have n:=k.nx;have l:=k.lo;obtain⟨va,vh,g1,g2,g3⟩:=s.ga;obtain⟨vp,q1,q2⟩:=s.gl;have a1:=s.Aj;have a2:=s.MV;have a3:=s.GY;exact⟨⟨XQ,XQ⟩,⟨va,vh,(k.ty _ _ _ _ a1.1 g1 (.inl rfl)).trans g1,g2.ka k,g3.ka k⟩,⟨XQ,XQ⟩,(k.ty _ _ _ _ a2.1 s.gp (.inr (.inr (.inl rfl)))).trans s.gp,⟨XQ,XQ⟩,vp,(k.ty _ _ _ _ a3.1 q1 (.inr (.inl rfl))).trans q1,q2.ka k⟩
theorem jb.ka(s:jb h z D cp)(k:KA h h'):jb h' z D cp:=s.kt (k.mono λ_ h=>h.a)
theorem jb.le(s:jb h z D cp)(l:Le h h'):jb h' z D cp:=s.kt (.le l)
theorem iA.ka(s:iA h z kb c)(k:KA h h'):iA h' z kb c:=by
 have n:=k.nx;have l:=k.lo;have a1:=s.lt;obtain⟨vn,vg,g1,g2,g3⟩:=s.g;exact⟨⟨XQ,XQ⟩,⟨vn,vg,(k.ty _ _ _ _ a1.1 g1 (.inl (.inr (.inl rfl)))).trans g1,g2.keep n l λc vs hc hg=>k.ty c vs _ _ hc hg (.inl (.inr (.inr (.inr rfl)))),g3.keep n l λc vs hc hg=>k.ty c vs _ _ hc hg (.inr (.inr rfl))⟩,s.DE⟩
theorem iA.le(s:iA h z kb c)(l:Le h h'):iA h' z kb c:=s.ka (.le l)
theorem jb.set(s:jb h z D cp){D':AD}{cp':Option Nat}{va vh:Value}(h1:kF h va D'.asked)(h2:kF h vh D'.has)(h3:D'.aL=D.aL):jb ⟨h.nx,h.bl.bq z.ab (agO z D' va vh cp'),h.lo⟩ z D' cp':=by
 obtain⟨va0,vh0,g1,_,_⟩:=s.ga;obtain⟨vp,q1,q2⟩:=s.gl;have kt:∀{v:Value}{L:List L4},kF h v L->kF ⟨h.nx,h.bl.bq z.ab (agO z D' va vh cp'),h.lo⟩ v L:=λs=>s.keep (Nat.le_refl _) λc vs op hc hg=>T.ax _ _ (dh g1 hg J0);exact⟨s.Aj,⟨va,vh,T.au _ _ _,kt h1,kt h2⟩,s.MV,(T.ax _ _ (dh g1 s.gp J0)).trans s.gp,s.GY,vp,(T.ax _ _ (dh g1 q1 J0)).trans q1,by rw[h3];exact kt q2⟩
theorem jb.afZ(s:jb h z D cp){vp:Value}{P:List L4}(h1:kF h vp P):jb ⟨h.nx,h.bl.bq z.lb (ai [vp] 288 false),h.lo⟩ z { D with aL:=P } cp:=by
 obtain⟨va,vh,g1,g2,g3⟩:=s.ga;obtain⟨vp0,q1,_⟩:=s.gl;have kt:∀{v:Value}{L:List L4},kF h v L->kF ⟨h.nx,h.bl.bq z.lb (ai [vp] 288 false),h.lo⟩ v L:=λs=>s.keep (Nat.le_refl _) λc vs op hc hg=>T.ax _ _ (dh q1 hg J0);exact⟨s.Aj,⟨va,vh,(T.ax _ _ (dh q1 g1 J0)).trans g1,kt g2,kt g3⟩,s.MV,(T.ax _ _ (dh q1 s.gp J0)).trans s.gp,s.GY,vp,T.au _ _ _,kt h1⟩
theorem jb.put(s:jb h z D cp){x:Nat}{v:List Value}{t:TypeId}{o:Bool}(hg:h.bl.get x=some (ai v t o))(ht:t=224\/t=160)(ob:bL):jb ⟨h.nx,h.bl.bq x ob,h.lo⟩ z D cp:=by
 obtain⟨va,vh,g1,g2,g3⟩:=s.ga;obtain⟨vp,q1,q2⟩:=s.gl;have up:∀{b:Nat}{w:List Value}{t':TypeId}{o':Bool},h.bl.get b=some (ai w t' o')->t≠t'->(h.bl.bq x ob).get b=h.bl.get b:=λhb hn=>T.ax _ _ (dh hg hb hn);have n1:t≠155:=by rcases ht with rfl|rfl<;>decide
 have n2:t≠227:=by rcases ht with rfl|rfl<;>decide
 have n3:t≠288:=by rcases ht with rfl|rfl<;>decide
 have n4:t≠46:=by rcases ht with rfl|rfl<;>decide
 have kt:∀{v:Value}{L:List L4},kF h v L->kF ⟨h.nx,h.bl.bq x ob,h.lo⟩ v L:=λs=>s.keep (Nat.le_refl _) λc vs op hc hg=>up hg n4;exact⟨s.Aj,⟨va,vh,(up g1 n1).trans g1,kt g2,kt g3⟩,s.MV,(up s.gp n2).trans s.gp,s.GY,vp,(up q1 n3).trans q1,kt q2⟩
theorem iA.put(s:iA h z kb c){x:Nat}{v:List Value}{t:TypeId}{o:Bool}(hg:h.bl.get x=some (ai v t o))(ht:t=155\/t=288)(ob:bL):iA ⟨h.nx,h.bl.bq x ob,h.lo⟩ z kb c:=by
 obtain⟨vn,vg,g1,g2,g3⟩:=s.g;have up:∀{b:Nat}{w:List Value}{t':TypeId}{o':Bool},h.bl.get b=some (ai w t' o')->t≠t'->(h.bl.bq x ob).get b=h.bl.get b:=λhb hn=>T.ax _ _ (dh hg hb hn);have n1:t≠224:=by rcases ht with rfl|rfl<;>decide
 have n2:t≠160:=by rcases ht with rfl|rfl<;>decide
 have n3:t≠46:=by rcases ht with rfl|rfl<;>decide
 exact⟨s.lt,⟨vn,vg,(up g1 n1).trans g1,g2.keep (Nat.le_refl _) rfl λc vs hc hg=>up hg n2,g3.keep (Nat.le_refl _) rfl λc vs hc hg=>up hg n3⟩,s.DE⟩
theorem iA.mk'(hl:kb<h.nx/\h.lo<=kb){vs:List Value}{o:Bool}(g1:h.bl.get kb=some (ai vs 224 o)){c':CD}{vn vg:Value}(h1:fF lZ 160 h vn c'.dP)(h2:fE bS 4 46 h vg c'.goes)(h3:dI c'.DE=true):iA ⟨h.nx,h.bl.bq kb (c_ z c' vn vg),h.lo⟩ z kb c':=by
 have up:∀{b:Nat}{w:List Value}{t':TypeId}{o':Bool},h.bl.get b=some (ai w t' o')->224≠t'->(h.bl.bq kb (c_ z c' vn vg)).get b=h.bl.get b:=λhb hn=>T.ax _ _ (dh g1 hb hn);exact⟨hl,⟨vn,vg,T.au _ _ _,h1.keep (Nat.le_refl _) rfl λc vs hc hg=>up hg J0,h2.keep (Nat.le_refl _) rfl λc vs hc hg=>up hg J0⟩,h3⟩
theorem iA.set(s:iA h z kb c){c':CD}{vn vg:Value}(h1:fF lZ 160 h vn c'.dP)(h2:fE bS 4 46 h vg c'.goes)(h3:dI c'.DE=true):iA ⟨h.nx,h.bl.bq kb (c_ z c' vn vg),h.lo⟩ z kb c':=by
 obtain⟨vn0,vg0,g1,_,_⟩:=s.g;exact .mk' s.lt g1 h1 h2 h3
end
theorem af0(h:af)(b o:Nat):mQ prog h 100 152 (.pointer (some ⟨b,o,none⟩)) (.pointer none)=some false:=by kernel_rfl
theorem WR(h:af)(b o:Nat):mQ prog h 100 225 (.pointer (some ⟨b,o,none⟩)) (.pointer none)=some false:=by kernel_rfl
theorem oq{β:Type}{fl:β}(cn:Bool)(b o:Nat)(h:af)(V:UV β):aF fl prog .eql 152 cn false (.pointer (some ⟨b,o,none⟩)) (.pointer none) h V=V (.bool false) h:=by simp only[aF,af0,bX]
theorem RK{β:Type}{fl:β}(cn:Bool)(b o:Nat)(h:af)(V:UV β):aF fl prog .neq 152 cn false (.pointer (some ⟨b,o,none⟩)) (.pointer none) h V=V (.bool true) h:=by simp only[aF,af0,bX,Bool.not_false]
theorem RL{β:Type}{fl:β}(cn:Bool)(b o:Nat)(h:af)(V:UV β):aF fl prog .eql 225 cn false (.pointer (some ⟨b,o,none⟩)) (.pointer none) h V=V (.bool false) h:=by simp only[aF,WR,bX]
theorem RM{β:Type}{fl:β}(cn:Bool)(b o:Nat)(h:af)(V:UV β):aF fl prog .neq 225 cn false (.pointer (some ⟨b,o,none⟩)) (.pointer none) h V=V (.bool true) h:=by simp only[aF,WR,bX,Bool.not_false]
def vl(t r m:Int):Bool:=(decide (bf t r=0) || decide (bf t r=1)) && (decide (m=1) || decide (m=2) || decide (m=3))
theorem zU(t r m:Int){h:af}{V:KQ}(hk:V (.bool (vl t r m)) h):aj prog 275 [cQ t r,YYY m] h V:=by
 refine gN (v:=.bool (vl t r m)) rfl rfl (ay mixed ?_) hk;rw[Zb];simp(disch:=try exact Y)only[Wz,cQ];refine qP t r ?_;have:(m=1\/m=2\/m=3)\/(m<1\/3<m):=by omega
 rcases og t r with h1|h1|h1|h1<;>rcases this with(h2|h2|h2)|(h2|h2)<;>simp(disch:=try exact Y)only[Wz,h1,h2]<;>simp[vl,h1,h2]<;>omega
section
variable {h:af}{z:AA}{D:AD}{cp:Option Nat}
theorem xx(s:jb h z D cp)(hlen:D.aL.length<=100000)(hlo:h.lo<=h.nx)(V:KQ)(hk:∀v' h',qZ h h' v' D.aL->Le h h'->V v' h'):aj prog 77 [pt z.pb] h V:=by
 have gp:=s.gp;obtain⟨vp,gl,sl⟩:=s.gl;apply YYZ;rw[adU];simp(disch:=try exact Y)only[Wz,oq,aN,gp];apply YYZ;rw[Yh];simp(disch:=try exact Y)only[Wz,RL,aN,gl];refine iO (enc:=bS) (a:=h) (L:=[]) (M:=D.aL) cC oc XQ XQ (.inl ⟨rfl,.inl rfl⟩) sl.1 (Le.refl h) (by simp;omega) hlo _ ?_;intro v' h' ho hl _ _;exact hk v' h' (by simpa using ho) hl
theorem Jm(s:jb h z D cp)(V:KQ)(hk:V (YYY (-1-z.th)) h):aj prog 187 [pt z.pb] h V:=by
 have gp:=s.gp;apply YYZ;rw[YF];simp(disch:=try exact Y)only[Wz,oq,aN,gp];exact hk
theorem Lv(s:jb h z D cp)(hlen:D.aL.length<=100000)(hm:0<=z.most/\z.most<=8)(V:KQ)(hk:V (YYY (z.most-D.aL.length)) h):aj prog 276 [pt z.pb] h V:=by
 have gp:=s.gp;obtain⟨vp,gl,sl⟩:=s.gl;have hlen':=λ(β:Type)(fl:β) V h'=>sl.1.len (β:=β) (fl:=fl) V h';apply YYZ;rw[Zc];simp(disch:=try exact Y)only[Wz,oq,FG,aN,gp,gl,hlen'];exact hk
theorem Jn(s:jb h z D cp)(hlen:D.aL.length<=100000)(hlo:h.lo<=h.nx)(t r:Int)(V:KQ)(hk:∀h',Le h h'->V (.bool (decide (aO D.aL t r≠0))) h'):aj prog 269 [pt z.pb,cQ t r] h V:=by
 have gp:=s.gp;have q1:=s.MV;have q2:=s.GY;obtain⟨vp,gl,sl⟩:=s.gl;apply YYZ;rw[Y6];simp(disch:=try exact Y)only[Wz,cQ,RK,aN,gp];have hle:=(Le.refl h).new (ai [YYY t,YYY r] 28 false);apply YYZ;rw[Zq];simp(disch:=try exact Y)only[Wz,cQ,RM,aN,gl];have hle2:=hle.new (ai [YYY t,YYY r] 28 false);refine kE D.aL t r _ vp _ (sl.1.le hle2) XQ (by show h.lo<=h.nx+1+1;omega) ?_;intro h' hl;have hk:=hk h' (hle2.trans hl);by_cases h0:aO D.aL t r=0
 .rw[aZ (λh=>h h0)]at hk;simp(disch:=try exact Y)only[Wz,bx h0];exact hk
 .rw[bx h0]at hk;simp(disch:=try exact Y)only[Wz,aZ h0];exact hk
def Dr(most x:Int)(L:List L4)(t r m:Int):List L4:=
 if vl t r m=false then L else if aO L t r≠0 then L else if most-L.length=0 then L else cV L ⟨x,t,r,m⟩
theorem abg(s:jb h z D cp)(hlen:D.aL.length<=100000)(hlo:h.lo<=h.nx)(hm:0<=z.most/\z.most<=8)(t r m:Int)(V:KQ)(hk:∀u h1 h',Le h h1->(h'=h1\/∃vp,h'=⟨h1.nx,h1.bl.bq z.lb (ai [vp] 288 false),h1.lo⟩)->jb h' z { D with aL:=Dr z.most (-1-z.th) D.aL t r m } cp->V u h'):aj prog 270 [pt z.pb,cQ t r,YYY m] h V:=by
 apply YYZ;rw[Y7];simp(disch:=try exact Y)only[Wz,cQ,oq];refine zU t r m ?_;obtain⟨hA,bh,aU,gA,eE,eG⟩:=nP h (ai [YYY t,YYY r] 28 false);rw[<-bh]
 try rw[show(h.bl.bq (h.nx) (ai [YYY t,YYY r] 28 false))=hA.bl by rw[bh]]
 clear bh;have sA:=s.le aU;have same:∀(P:List L4),P=D.aL->({ D with aL:=P }:AD)=D:=λP e=>by subst e;rfl
 cases he:vl t r m with
 |false=>
  simp(disch:=try exact Y)only[Wz];exact hk _ hA _ aU (.inl rfl) (by rw[same _ (by unfold Dr;rw[if_pos he])];exact sA)
 |true=>
  simp(disch:=try exact Y)only[Wz,FF,gA];refine Jn sA hlen XQ t r _ ?_;intro h2 hle2;have u0:=hle2.nx;have u5:=hle2.lo;have gA:=(hle2.get _ XQ).trans gA;have s2:=sA.le hle2;by_cases hmo:aO D.aL t r=0
  .simp(disch:=try exact Y)only[Wz,aZ (not_not_intro hmo)];refine Lv s2 hlen hm _ ?_;by_cases hr:z.most-D.aL.length=0
   .simp(disch:=try exact Y)only[Wz,bx hr];exact hk _ h2 _ (aU.trans hle2) (.inl rfl) (by rw[same _ (by unfold Dr;rw[if_neg (by rw[he];decide),if_neg (λh=>h hmo),if_pos hr])];exact s2)
   ·simp(disch:=try exact Y)only[Wz,aZ hr];have gp:=s2.gp;have q2:=s2.GY;obtain⟨vp,gl,sl⟩:=s2.gl;simp(disch:=try exact Y)only[Wz,FE,aN,gp,gl,gA];refine Lu D.aL ⟨-1-z.th,t,r,m⟩ h2 vp _ sl.1 hlen XQ ?_;intro v' h3 TT bJ;have s3:=s2.le bJ;have gp3:=s3.gp;have q3:=s3.GY;obtain⟨vp3,gl3,sl3⟩:=s3.gl;obtain⟨x',c',e'⟩:=TT.cell;subst e';simp(disch:=try exact Y)only[Wz,aN,gp3,gl3];exact hk _ h3 _ (aU.trans (hle2.trans bJ)) (.inr ⟨_,rfl⟩) (by
     have:=s3.afZ TT;unfold Dr;rw[if_neg (by rw[he];decide),if_neg (λh=>h hmo),if_neg hr];exact this)
  .simp(disch:=try exact Y)only[Wz,bx hmo];exact hk _ h2 _ (aU.trans hle2) (.inl rfl) (by rw[same _ (by unfold Dr;rw[if_neg (by rw[he];decide),if_pos hmo])];exact s2)
theorem RO(s:jb h z D cp)(hlen:D.aL.length<=100000)(hlo:h.lo<=h.nx)(t r:Int)(h0:aO D.aL t r=0)(V:KQ)(hk:∀h',Le h h'->V (.tuple ⟨[YYY 0,.bool false]⟩) h'):aj prog 190 [pt z.pb,cQ t r] h V:=by
 apply YYZ;rw[PV];simp(disch:=try exact Y)only[Wz,cQ,oq];obtain⟨hA,bh,aU,gA,eE,eG⟩:=nP h (ai [YYY t,YYY r] 28 false);rw[<-bh]
 try rw[show(h.bl.bq (h.nx) (ai [YYY t,YYY r] 28 false))=hA.bl by rw[bh]]
 clear bh;refine Jn (s.le aU) hlen XQ t r _ ?_;intro h2 hle2;rw[aZ (λh=>h h0)];simp(disch:=try exact Y)only[Wz];exact hk h2 (aU.trans hle2)
end
def nq(q:R5):Int × Int:=(q.x,q.m)
def fI(Q:List R5):Prop:=∀q∈Q,q.w=q.m/\q.s=0/\q.m≠0
theorem wg{Q:List R5}(h:fI Q):ew Q=none:=by
 unfold ew;cases hb:best Q Q.length with
 |some b=>
  obtain⟨_,r,hr,hu⟩:=CF Q _ _ hb;have:=h r (List.mem_of_getElem? hr);rw[qK]at hu;omega
 |none=>
  show Q.findIdx? _=none
  rw[List.findIdx?_eq_none_iff];intro r hr;have:=(h r hr).2.2;simp[this]
theorem oM{Q:List R5}(h:fI Q)(n:Nat):dS n Q=(Q,[]):=yz (zi (wg h)) n
structure Mul(Ts:List TB)(G:Int->Int->List (Int × Int)):Prop where
 one:∀b∈Ts,∀e∈b.M,fI e.Q/\e.Q.map nq=G e.t e.r/\e.Q≠[]
 all:∀t r,G t r≠[]->∃b∈Ts,∃e∈b.M,e.t=t/\e.r=r
def dH(G:Int->Int->List (Int × Int))(t r:Int)(l:List (Int × Int)):Int->Int->List (Int × Int):=λt' r'=>if t'=t/\r'=r then l else G t' r'
theorem jH(G:Int->Int->List (Int × Int))(t r:Int)(l:List (Int × Int)):dH G t r l t r=l:=by simp[dH]
theorem mO(G:Int->Int->List (Int × Int)){t r t' r':Int}{l:List (Int × Int)}(h:¬(t'=t/\r'=r)):dH G t r l t' r'=G t' r':=by simp[dH,h]
section
variable {h:af}{tb bw bp bl:Nat}{c:gr}{vb:Value}{aY N:Nat}{Ts:List TB}{W:List IE}{wc:Nat}{F:List Int}{B:List Bool}{G:Int->Int->List (Int × Int)}
theorem Mul.settle(L:Mul Ts G)(s:kg h tb bw bp bl c vb aY N Ts W wc F B){k:Nat}{b:TB}(hk:Ts[k]? = some b){t r w:Int}(hst:ef t r c.S=(k:Int)){Q:List R5}(hQ:fI Q){M':List HE}(cl:Nat)(st:fP b.M M' t r w Q):Mul (Ts.set k ⟨b.bb,b.bm,M',cl⟩) (dH G t r (Q.map nq)):=by
 have hil:=(List.getElem?_eq_some_iff.1 hk).1;have hb:=List.mem_of_getElem? hk;by_cases hne:Q=[]
 .have hM:=st.gone hne;subst hM hne;constructor
  .intro b' hb' e he;obtain⟨j,hj⟩:=List.getElem?_of_mem hb';rcases fG hj with⟨rfl,rfl⟩|⟨hne,hj⟩
   .obtain⟨he,hn⟩:=List.mem_filter.1 he;have hn:=rC.1 hn;rw[mO G (λe=>hn ⟨e.1.symm,e.2.symm⟩)];exact L.one b hb e he
   .have hs:=s.nm j b' hj e he;rw[mO G (λe1=>by rw[e1.1,e1.2,hst]at hs;omega)];exact L.one b' (List.mem_of_getElem? hj) e he
  .intro t' r' hH;by_cases hn:t'=t/\r'=r
   .obtain⟨rfl,rfl⟩:=hn;rw[jH]at hH;exact absurd rfl hH
   .rw[mO G hn]at hH;obtain⟨b1,hb1,e1,pq,e2,e3⟩:=L.all t' r' hH;obtain⟨j,hj⟩:=List.getElem?_of_mem hb1;by_cases hjk:k=j
    .subst hjk;rw[hk]at hj;cases hj;exact⟨_,List.mem_of_getElem? (i:=k) (by rw[List.getElem?_set,if_pos rfl,if_pos hil]),e1,List.mem_filter.2 ⟨pq,rC.2 λe=>hn ⟨e2.symm.trans e.1.symm,e3.symm.trans e.2.symm⟩⟩,e2,e3⟩
    .exact⟨b1,List.mem_of_getElem? (i:=j) (by rw[List.getElem?_set,if_neg hjk];exact hj),e1,pq,e2,e3⟩
 .obtain⟨e0,h1,h2,h3,h4,hp⟩:=st.put hne;constructor
  .intro b' hb' e he;obtain⟨j,hj⟩:=List.getElem?_of_mem hb';rcases fG hj with⟨rfl,rfl⟩|⟨apU,hj⟩
   .rcases List.mem_append.1 (hp.mem_iff.1 he)with he|he
    .obtain⟨he,hn⟩:=List.mem_filter.1 he;have hn:=rC.1 hn;rw[mO G (λe=>hn ⟨e.1.symm,e.2.symm⟩)];exact L.one b hb e he
    .rw[List.mem_singleton]at he;subst he;rw[h1,h2,jH,h4];exact⟨hQ,rfl,hne⟩
   .have hs:=s.nm j b' hj e he;rw[mO G (λe1=>by rw[e1.1,e1.2,hst]at hs;omega)];exact L.one b' (List.mem_of_getElem? hj) e he
  .intro t' r' hH;by_cases hn:t'=t/\r'=r
   .obtain⟨rfl,rfl⟩:=hn;exact⟨_,List.mem_of_getElem? (i:=k) (by rw[List.getElem?_set,if_pos rfl,if_pos hil]),e0,hp.mem_iff.2 (List.mem_append_right _ (.head _)),h1,h2⟩
   .rw[mO G hn]at hH;obtain⟨b1,hb1,e1,pq,e2,e3⟩:=L.all t' r' hH;obtain⟨j,hj⟩:=List.getElem?_of_mem hb1;by_cases hjk:k=j
    .subst hjk;rw[hk]at hj;cases hj;exact⟨_,List.mem_of_getElem? (i:=k) (by rw[List.getElem?_set,if_pos rfl,if_pos hil]),e1,hp.mem_iff.2 (List.mem_append_left _ (List.mem_filter.2 ⟨pq,rC.2 λe=>hn ⟨e2.symm.trans e.1.symm,e3.symm.trans e.2.symm⟩⟩)),e2,e3⟩
    .exact⟨b1,List.mem_of_getElem? (i:=j) (by rw[List.getElem?_set,if_neg hjk];exact hj),e1,pq,e2,e3⟩
theorem Mul.at(L:Mul Ts G)(s:kg h tb bw bp bl c vb aY N Ts W wc F B){t r:Int}(hH:G t r≠[]):∃(k:Nat)(b:TB)(e:HE),Ts[k]? = some b/\ef t r c.S=(k:Int)/\e∈b.M/\e.t=t/\e.r=r/\fI e.Q/\e.Q.map nq=G t r:=by
 obtain⟨b,hb,e,he,rfl,rfl⟩:=L.all t r hH;obtain⟨k,hk⟩:=List.getElem?_of_mem hb;obtain⟨h1,h2,_⟩:=L.one b hb e he;exact⟨k,b,e,hk,s.nm k b hk e he,he,rfl,rfl,h1,h2⟩
theorem Mul.no(L:Mul Ts G){t r:Int}(hH:G t r=[]):∀b∈Ts,∀e∈b.M,¬(t=e.t/\r=e.r):=by
 rintro b hb e he ⟨rfl,rfl⟩;obtain⟨_,h2,h3⟩:=L.one b hb e he;rw[hH]at h2;exact h3 (List.map_eq_nil_iff.1 h2)
theorem Mul.NK(L:Mul Ts G)(s:kg h tb bw bp bl c vb aY N Ts W wc F B){t r:Int}{k:Nat}{b:TB}(hk:Ts[k]? = some b){e:HE}(he:e∈b.M)(ht:e.t=t)(hr:e.r=r):fI e.Q/\e.Q.map nq=G t r:=by
 subst ht hr;obtain⟨h1,h2,_⟩:=L.one b (List.mem_of_getElem? hk) e he;exact⟨h1,h2⟩
end
def sG(l:List (Int × Int))(x m:Int):List (Int × Int):=l.map λp=>if p.1=x then(x,m)else p
def qm(l:List (Int × Int))(x:Int):List (Int × Int):=l.filter λp=>decide (p.1≠x)
def ue(l:List (Int × Int))(x y:Int):List (Int × Int):=l.map λp=>if p.1=x then(y,p.2)else p
def cZ(l:List (Int × Int))(x:Int):Int:=((l.find? λp=>decide (p.1=x)).map (·.2)).getD 0
theorem qn{Q:List R5}{W:Int}(v:VQ Q W){i j:Nat}{p q:R5}(hp:Q[i]? = some p)(hq:Q[j]? = some q)(hij:i≠j):p.x≠q.x/\p.id≠q.id:=by
 rcases Nat.lt_or_gt_of_ne hij with h|h
 .have b:=dY.1 v.pair i j p q h hp hq;exact⟨b.x,b.id⟩
 .have b:=dY.1 v.pair j i q p h hq hp;exact⟨λe=>b.x e.symm,λe=>b.id e.symm⟩
theorem map_set{Q:List R5}{W:Int}(v:VQ Q W){i:Nat}{q q':R5}(hq:Q[i]? = some q)(g:Int × Int->Int × Int)(h1:nq q'=g (nq q))(h2:∀p∈Q,p.x≠q.x->g (nq p)=nq p):(Q.set i q').map nq=(Q.map nq).map g:=by
 refine List.ext_getElem? λj=>?_;rw[List.getElem?_map,List.getElem?_map,List.getElem?_map,List.getElem?_set];obtain⟨hi,_⟩:=List.getElem?_eq_some_iff.1 hq;by_cases e:i=j
 .subst e;rw[if_pos rfl,if_pos hi,hq]
  show some (nq q')=some (g (nq q))
  rw[h1]
 .rw[if_neg e];cases hj:Q[j]? with
  |none=>rfl
  |some p=>
   show some (nq p)=some (g (nq p))
   rw[h2 p (List.mem_of_getElem? hj) (qn v hj hq (λe'=>e e'.symm)).1]
theorem abh{Q:List R5}{W:Int}(v:VQ Q W){i:Nat}{q:R5}(hq:Q[i]? = some q)(m:Int):(Q.set i ⟨q.id,q.x,m,m,0⟩).map nq=sG (Q.map nq) q.x m:=
 map_set v hq (λp=>if p.1=q.x then(q.x,m)else p) (by simp[nq]) λp _ hn=>by simp[nq,hn]
theorem RP{Q:List R5}{W:Int}(v:VQ Q W){i:Nat}{q:R5}(hq:Q[i]? = some q)(y:Int):(Q.set i (rA q y)).map nq=ue (Q.map nq) q.x y:=
 map_set v hq (λp=>if p.1=q.x then(y,p.2)else p) (by simp[nq,rA]) λp _ hn=>by simp[nq,hn]
theorem RQ{Q:List R5}{W:Int}(v:VQ Q W){i:Nat}{q:R5}(hq:Q[i]? = some q):(Q.filter λr=>!b_ q.id r).map nq=qm (Q.map nq) q.x:=by
 unfold qm;rw[List.filter_map]
 congr 1
 refine List.filter_congr λp hp=>?_;obtain⟨j,hj⟩:=List.mem_iff_getElem?.1 hp
 show(!b_ q.id p)=decide ((nq p).1≠q.x)
 by_cases e:j=i
 .subst e;rw[hj]at hq;cases hq;simp[b_,nq]
 .have:=qn v hj hq e;simp[b_,nq,this.1,this.2]
theorem BR{Q:List R5}(h:fI Q)(i:Nat){q':R5}(h':q'.w=q'.m/\q'.s=0/\q'.m≠0):fI (Q.set i q'):=λq hq=>by
 rcases List.mem_or_eq_of_mem_set hq with hq|rfl
 .exact h q hq
 .exact h'
theorem Ds{Q:List R5}(h:fI Q)(f:R5->Bool):fI (Q.filter f):=λq hq=>h q (List.mem_filter.1 hq).1
theorem Jo{Q:List R5}(h:fI Q){q':R5}(h':q'.w=q'.m/\q'.s=0/\q'.m≠0):fI (Q++[q']):=λq hq=>by
 rcases List.mem_append.1 hq with hq|hq
 .exact h q hq
 .rw[List.mem_singleton]at hq;subst hq;exact h'
def Lw(l:List (Int × Int))(x m:Int):Prop:=∀p∈l,p.1≠x->cmp p.2 m=true
theorem Na{Q:List R5}(h:fI Q){W id x m:Int}(hm:m≠0)(hx:∀q∈Q,q.x≠x)(f:Lw (Q.map nq) x m):j0 Q W id x m=(⟨id,x,m,m,0⟩,W,true):=by
 unfold j0;rw[if_pos];rw[wg h];simp only[decide_true,Bool.true_and];rw[jE];intro o ho _ _;exact f (nq o) (List.mem_map.2 ⟨o,ho,rfl⟩) (hx o ho)
theorem Nb{Q:List R5}(h:fI Q){W0 W:Int}(v:VQ Q W0){i:Nat}{q:R5}(hq:Q[i]? = some q){m:Int}(f:Lw (Q.map nq) q.x (bA q.m m)):jq Q W q m=(⟨q.id,q.x,bA q.m m,bA q.m m,0⟩,W,true):=by
 have hs:=(h q (List.mem_of_getElem? hq)).2.1;unfold jq;rw[if_pos,hs];rw[Bool.or_eq_true,Bool.and_eq_true];refine .inr ⟨?_,?_⟩
 .rw[jE];intro o ho hid _;obtain⟨j,hj⟩:=List.mem_iff_getElem?.1 ho;have:j≠i:=by rintro rfl;rw[hj]at hq;cases hq;exact hid rfl
  exact f (nq o) (List.mem_map.2 ⟨o,ho,rfl⟩) (qn v hj hq this).1
 .rw[Bool.not_eq_true',List.any_eq_false];intro r hr hu;have:=h r hr;rw[qK]at hu;omega
theorem uf{Q:List R5}{W:Int}(v:VQ Q W){i:Nat}{q:R5}(hq:Q[i]? = some q):ct Q q.id=some q:=by
 cases hf:ct Q q.id with
 |none=>exact absurd rfl (r6 hf q (List.mem_of_getElem? hq))
 |some p=>
  obtain⟨hp,hid⟩:=iQ hf;obtain⟨j,hj⟩:=List.mem_iff_getElem?.1 hp;by_cases e:j=i
  .subst e;rw[hj]at hq;cases hq;rfl
  .exact absurd hid (qn v hj hq e).2
end Go.Proofs
end
