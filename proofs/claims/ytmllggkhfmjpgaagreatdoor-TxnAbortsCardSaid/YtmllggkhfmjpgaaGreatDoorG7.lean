/-
  PROVED HERE: a part of the proof (S11, S12, S13, N4, U14, U15, U16, U18, N5, N6, S14, S15, S16, S17, S18, S19, S20, S21, S22, S23, S24, S25, S26, AA1, IX, IW2, IW3, VaiI, IW5, AA2, AA3, AA4, SB1, SB2).
-/
import Derived.Test.YtmllggkhfmjpgaaGreatDoorG6
import Derived.Test.YtmllggkhfmjpgaaGreatDoorRZ
import Derived.Test.YtmllggkhfmjpgaaGreatDoorG3
import Derived.Test.YtmllggkhfmjpgaaGreatDoorG2
import Derived.Test.YtmllggkhfmjpgaaGreatDoorG4
import Derived.Shelf.RegionOpenPlain
import Derived.Shelf.Spec.SlicesInsert
import Derived.WalkKit
import Derived.Lib.Walk
import Derived.Lib.AppendZeros
import Derived.Laws.Externs
import Derived.Lib.Overlaps
import Derived.Deep.WholeRow
import Derived.Test.YtmllggkhfmjpgaaGreatDoorG0
set_option linter.unusedVariables false
set_option linter.unusedSimpArgs false
set_option maxRecDepth 100000
set_option maxHeartbeats 4000000
noncomputable section
namespace Go.Proofs
open Go.Vai Go.Clashes
open Tryz (prog)
theorem gV{v v':List Value}{t t':TypeId}{o o':Bool}(e:(some (aj v t o):Option bP)=some (aj v' t' o')):t=t'/\o=o':=by
 have ht:t=t':=Classical.byContradiction λhn=>bJ hn e;subst ht;refine⟨rfl,?_⟩;cases o<;>cases o'
 .rfl
 .exact absurd e bI
 .exact absurd e.symm bI
 .rfl
structure WK(a:TA)(h h':af):Prop where
 nx:h.nx<=h'.nx
 lo:h'.lo=h.lo
 ty:∀d vs t o,d<h.nx->h.bl.get d=some (aj vs t o)->¬mE t o->¬ki t o->h'.bl.get d=h.bl.get d
 oi:∀d vs,d<h.nx->h.bl.get d=some (aj vs 3 true)->¬FB h a.bp d->h'.bl.get d=h.bl.get d
 mv:∀d,d<h.nx->FB h' a.bp d->FB h a.bp d
 ro:∀d,d<h.nx->(∀vs t o,h.bl.get d≠some (aj vs t o))->(∀es c,h.bl.get d≠some (.map es c))->h'.bl.get d=h.bl.get d
 mp:∀d es c,d<h.nx->h.bl.get d=some (.map es c)->d∉a.ms->h'.bl.get d=h.bl.get d
theorem WK.trans{a:TA}{h h1 h2:af}(x:WK a h h1)(y:WK a h1 h2):WK a h h2 where
 nx:=Nat.le_trans x.nx y.nx
 lo:=y.lo.trans x.lo
 ty d vs t o hd hg ht hr:=by
  have e:=x.ty d vs t o hd hg ht hr;exact(y.ty d vs t o (Nat.lt_of_lt_of_le hd x.nx) (e.trans hg) ht hr).trans e
 oi d vs hd hg hf:=by
  have e:=x.oi d vs hd hg hf;exact(y.oi d vs (Nat.lt_of_lt_of_le hd x.nx) (e.trans hg) (λf=>hf (x.mv d hd f))).trans e
 mv d hd f:=x.mv d hd (y.mv d (Nat.lt_of_lt_of_le hd x.nx) f)
 ro d hd h1 h2:=by
  have e:=x.ro d hd h1 h2;exact(y.ro d (Nat.lt_of_lt_of_le hd x.nx) (λvs t o=>by rw[e];exact h1 vs t o) (λes c=>by rw[e];exact h2 es c)).trans e
 mp d es c hd hg hn:=by
  have e:=x.mp d es c hd hg hn;exact(y.mp d es c (Nat.lt_of_lt_of_le hd x.nx) (e.trans hg) hn).trans e
section
variable {h h':af}{A:WA}{a:TA}{N:Nat}{d:TD}{R:RD}
theorem WS.bp(s:WS h A a N d R):∃fs ls,a.bp<h.nx/\h.bl.get a.bp=some (aj [fs,ls] 286 false):=by
 obtain⟨fs,hg,_⟩:=s.t.is.bu.fr.cell;exact⟨fs,_,s.t.is.bu.fr.lt,hg⟩
theorem WS.OX(s:WS h A a N d R)(l:Le h h'):WK a h h':=by
 obtain⟨_,_,hb,_⟩:=s.bp;exact⟨l.nx,l.lo,λd _ _ _ hd _ _ _=>l.get d hd,λd _ hd _ _=>l.get d hd,λd _ f=>(FB.congr (l.get _ hb)).1 f,λd hd _ _=>l.get d hd,λd _ _ hd _ _=>l.get d hd⟩
theorem WS.wJ(s:WS h A a N d R){x:Nat}{v:List Value}{t:TypeId}{o:Bool}(hg:h.bl.get x=some (aj v t o))(hr:ki t o)(hp:t≠286)(ob:bP):WK a h ⟨h.nx,h.bl.a_ x ob,h.lo⟩:=by
 obtain⟨fs,ls,hb,gb⟩:=s.bp;have Z3:x≠a.bp:=dK hg gb hp;refine⟨Nat.le_refl _,rfl,λd vs t' o' hd hgd _ hn=>T.aD _ _ ?_,λd vs hd hgd _=>T.aD _ _ ?_,λd _ f=>(FB.congr (T.aD _ _ Z3)).1 f,λd hd h1 _=>T.aD _ _ ?_,λd _ _ _ hgd _=>T.aD _ _ (dL hg hgd)⟩
 .rintro rfl;rw[hg]at hgd;by_cases ht:t=t'
  .subst ht;cases o<;>cases o'
   .exact hn hr
   .exact bI hgd
   .exact bI hgd.symm
   .exact hn hr
  .exact bJ ht hgd
 .rintro rfl;rw[hg]at hgd;rcases hr with e|e|e|e|e|e|e|e|⟨e,e'⟩<;>subst e<;>first|exact bJ X7 hgd|(subst e';exact bI hgd)
 .rintro rfl;exact h1 _ _ _ hg
theorem WS.kfr(s:WS h A a N d R)(f:x_ d.Ts a.bw a.bp a.bl h h'):WK a h h':=by
 obtain⟨fs,ls,hb,gb⟩:=s.bp;have gl:=s.t.is.bu.cell;have gw:=s.t.is.qw;refine⟨f.nx,f.lo,λx vs t o hx hg ht _=>f.get x hx (λb hb=>dL hg (s.t.is.bk b hb).g_) (dL hg gw) ?_ ?_ ?_,λx vs hx hg hn=>f.g2 hb x hx (λb hb=>dL hg (s.t.is.bk b hb).g_) (dL hg gw) (dK hg gb X7) (dK hg gl X7) hn,f.mv hb,λx hx h1 h2=>f.get x hx ?_ ?_ ?_ ?_ λvs=>h1 vs _ _,λx es c hx hg hn=>f.get x hx (λb hb e=>hn (e▸s.mi.2.2 b hb)) (λe=>hn (e▸s.mi.2.1)) (λe=>dL gb hg e.symm) (λe=>dL gl hg e.symm) λvs=>by rw[hg];exact bY⟩
 ·rintro rfl;rw[hg]at gb;exact ht (by
   by_cases e:t=286
   .subst e;simp[mE]
   .exact absurd gb (bJ e))
 ·rintro rfl;rw[hg]at gl;exact ht (by
   by_cases e:t=4
   .subst e;simp[mE]
   .exact absurd gl (bJ e))
 .intro ws hw;rw[hg]at hw;by_cases e:t=3
  .subst e;cases o
   .exact bI hw
   .exact ht (by simp[mE])
  .exact bJ e hw
 .intro b hb e;subst e;exact h2 _ _ (s.t.is.bk b hb).g_
 .rintro rfl;exact h2 _ _ gw
 .rintro rfl;exact h1 _ _ _ gb
 .rintro rfl;exact h1 _ _ _ gl
theorem U8(s:WS h A a N d R)(hf:∀b,b<h.nx->b≠A.hb->h'.bl.get b=h.bl.get b)(hn:h.nx<=h'.nx)(hl:h'.lo=h.lo):WK a h h':=by
 obtain⟨fs,ls,hb,gb⟩:=s.bp;have gh:=s.r.gh;refine⟨hn,hl,λx vs t o hx hg ht hr=>hf x hx ?_,λx vs hx hg _=>hf x hx ?_,λx _ f=>(FB.congr (hf _ hb (dK gb gh X7))).1 f,λx hx h1 _=>hf x hx ?_,λx es c hx hg _=>hf x hx λe=>dL gh hg e.symm⟩
 .rintro rfl;rw[gh]at hg;by_cases e:251=t
  .subst e;exact hr (by simp[ki])
  .exact bJ e hg
 .rintro rfl;rw[gh]at hg;exact bJ X7 hg
 .rintro rfl;exact h1 _ _ _ gh
end
section
variable {h:af}{A:WA}{a:TA}{N:Nat}{d:TD}{R:RD}
theorem U9(s:WS h A a N d R){i k:Nat}{c:CR}(hi:R.cs[i]? = some (some c))(hst:c.st=(k:Int))(Di:0<=c.th/\c.th<8)(hl:R.eO[k]? = some none)(V:KQ)(hk:∀h',WS h' A a N d { R with eO:=R.eO.set k (some (h.nx,c.th)),cs:=R.cs.set i (some { c with ph:=2 }) }->WK a h h'->V (.tuple ⟨[]⟩) h'):av prog 58 [UV c.ca] h V:=by
 obtain⟨gc,c1,c2⟩:=b6 s hi;have gw:=s.r.gw;have hlo:=s.lo;have gc':=gc;unfold cF at gc';apply X9;rw[aj8];simp(disch:=try exact Y)only[Wz,aN,gc',gw,hst];refine afH s.r.gl s.r.gh s.r.lth s.r.OW hl Di _ ?_;have s1:=s.le ((Le.refl h).new (aj [X8 c.th] 253 false));have s2:=s1.FH (R.eO.set k (some (h.nx,c.th))) (List.length_set ..) (λp hp=>by
  rcases List.mem_or_eq_of_mem_set hp with hp|hp
  .obtain⟨k1,k2⟩:=s1.r.ho p hp;exact⟨k1,k2⟩
  .cases hp;exact⟨Nat.lt_succ_self _,T.ay _ _ _⟩)
 obtain⟨h2,e2⟩:∃h2:af,h2=⟨h.nx+1,(h.bl.a_ h.nx (aj [X8 c.th] 253 false)).a_ A.hb (aj (rI (R.eO.set k (some (h.nx,c.th)))) 251 false),h.lo⟩:=⟨_,rfl⟩
 have s2:WS h2 A a N d { R with eO:=R.eO.set k (some (h.nx,c.th)) }:=by rw[e2];exact s2
 have f2:∀b,b<h.nx->b≠A.hb->h2.bl.get b=h.bl.get b:=λb hb hn=>by rw[e2];exact(T.aD _ _ (λe=>hn e.symm)).trans (T.aD _ _ X1)
 have n2:h2.nx=h.nx+1:=by rw[e2]
 have l2:h2.lo=h.lo:=by rw[e2]
 rw[<-e2];clear e2;obtain⟨wB,c12,c22⟩:=b6 (R:={ R with eO:=R.eO.set k (some (h.nx,c.th)) }) s2 hi;refine FI c wB c22 2 _ rfl _ ?_;exact hk _ (WS.jt (R:={ R with eO:=R.eO.set k (some (h.nx,c.th)) }) s2 hi rfl) ((U8 s f2 X1 l2).trans (WS.wJ s2 wB (by simp[ki]) X7 _))
theorem RW.other{tb:Nat}{eO:List (Option (Nat × Int))}{bits:List Int}{now:Int}{tv:Value}{cs:List (Option CR)}{wm:List IE}{Cg:Nat}{begun:Int}(s:RW h A tb eO bits now tv cs wm Cg begun){x:Nat}{v:List Value}{o:Bool}(hg:h.bl.get x=some (aj v 128 o))(hn:∀c,some c∈cs->c.ca≠x)(ob:bP):RW ⟨h.nx,h.bl.a_ x ob,h.lo⟩ A tb eO bits now tv cs wm Cg begun:=by
 have up:∀{b:Nat}{v:List Value}{t:TypeId}{o:Bool},h.bl.get b=some (aj v t o)->128≠t->(h.bl.a_ x ob).get b=some (aj v t o):=λhb hn=>(T.aD _ _ (dK hg hb hn)).trans hb;exact⟨s.De,up s.gw X7,s.OW,up s.gl X7,s.lth,up s.gh X7,λp hp=>⟨(s.ho p hp).1,up (s.ho p hp).2 X7⟩,s.UZ,up s.gp X7,s.lti,up s.gi X7,s.li,s.ltk,up s.gk X7,s.ltc,up s.gc X7,s.lc,λc hc=>⟨(s.ca c hc).1,(s.ca c hc).2.1,(T.aD _ _ (λe=>hn c hc e.symm)).trans (s.ca c hc).2.2⟩,s.jV,(T.aD _ _ (dL hg s.gm)).trans s.gm,s.nn,s.dc⟩
theorem WS.other(s:WS h A a N d R){x:Nat}{v:List Value}{o:Bool}(hg:h.bl.get x=some (aj v 128 o))(hn:∀c,some c∈R.cs->c.ca≠x)(ob:bP):WS ⟨h.nx,h.bl.a_ x ob,h.lo⟩ A a N d R:=
 ⟨Dh.U5 s.t hg (nTy X7 X7 X7 X7 X7 X7 X7 X7) _,s.r.other hg hn ob,s.mw,s.mm,s.mi,s.lo⟩
def Cl(wb:Nat)(c:CR):bP:=aj [X8 c.a.k,X8 c.a.x,X8 c.a.t,X8 c.a.r,X8 c.a.m,X8 c.a.w,X8 c.a.to,UV wb,X8 c.th,X8 c.no,X8 c.st,yZ c.ph c.ca,X8 (c.ph:Int),.bool c.wt,X8 c.id,X8 c.cs,X8 c.out,.bool true,.slice none 0 0] 128 false
theorem YT(s:WS h A a N d R){i k p:Nat}{c:CR}(hi:R.cs[i]? = some (some c))(hst:c.st=(k:Int))(Di:c.th=(i:Int))(hout:c.out≠0)(hl:R.eO[k]? = some (some (p,c.th)))(V:KQ)(hk:∀h',WS h' A a N d { R with eO:=R.eO.set k none,cs:=R.cs.set i none }->h'.bl.get c.ca=some (Cl A.wb c)->WK a h h'->V (.tuple ⟨[]⟩) h'):av prog 159 [UV c.ca] h V:=by
 obtain⟨gc,c1,c2⟩:=b6 s hi;have gw:=s.r.gw;have hlo:=s.lo;have gc':=gc;have hil:=y8 s hi;have hnn:=s.r.nn;unfold cF at gc';have gp:=(s.r.ho (p,c.th) (List.mem_of_getElem? hl)).2;apply X9;rw[ac3];simp(disch:=try exact Y)only[Wz,aN,gc',gw,hst];refine YQ s.r.gl s.r.gh s.r.lth hl gp X1 _ ?_;have s2:=s.FH (R.eO.set k none) (List.length_set ..) (λq hq=>by
  rcases List.mem_or_eq_of_mem_set hq with hq|hq
  .exact s.r.ho q hq
  .cases hq)
 have k2:=U8 (h':=⟨h.nx,h.bl.a_ A.hb (aj (rI (R.eO.set k none)) 251 false),h.lo⟩) s (λb hb hn=>T.aD _ _ (λe=>hn e.symm)) (Nat.le_refl _) rfl;obtain⟨h2,e2⟩:∃h2:af,h2=⟨h.nx,h.bl.a_ A.hb (aj (rI (R.eO.set k none)) 251 false),h.lo⟩:=⟨_,rfl⟩
 have s2:WS h2 A a N d { R with eO:=R.eO.set k none }:=by rw[e2];exact s2
 have k2:WK a h h2:=by rw[e2];exact k2
 rw[<-e2];clear e2;obtain⟨wB,c12,c22⟩:=b6 (R:={ R with eO:=R.eO.set k none }) s2 hi;have yf:=wB;unfold cF at yf;have WW:=s2.r.gw;have U_:=s2.r.gc;have cb2:=s2.r.ltc;apply X9;rw[adH];have s3:WS ⟨h2.nx,h2.bl.a_ A.cb (aj ((R.cs.set i none).map λo=>dF (o.map (·.ca))) 118 false),h2.lo⟩ A a N d { R with eO:=R.eO.set k none,cs:=R.cs.set i none }:=WS.wI (R:={ R with eO:=R.eO.set k none }) s2 i none (λc e=>(nomatch e));have hne:c.ca≠A.cb:=dK wB U_ X7;have ovc:over (R.cs.map λo=>dF (o.map (·.ca))) i [.pointer none]=(R.cs.set i none).map λo=>dF (o.map (·.ca)):=by
  unfold over;rw[List.map_set,List.set_eq_take_append_cons_drop,if_pos (by rw[List.length_map];exact(List.getElem?_eq_some_iff.1 hi).1)];simp[dF]
 have hlc:(R.cs.map λo=>dF (o.map (·.ca))).length=A.n:=by rw[List.length_map];exact s.r.lc
 have hnw:c.ca≠A.wb:=dK wB WW X7;simp(disch:=try exact Y)only[Wz,aN,yf,Iz,bf hout,Iy];simp(disch:=try exact Y)only[Wz,aN,WW,Di,bB,U_,Nat.mul_one,ovc];have wK:(h2.bl.a_ A.cb (aj ((R.cs.set i none).map λo=>dF (o.map (·.ca))) 118 false)).get c.ca=_:=(T.aD _ _ (λe=>hne e.symm)).trans yf;have hno:∀x,some x∈R.cs.set i none->x.ca≠c.ca:=by
  intro x hx;rcases Ci hx with e|⟨j,hj,e⟩
  .cases e
  .exact s.r.apart e hi hj
 have s4:=WS.other s3 wK hno (Cl A.wb c);have k3:=WS.wJ s2 U_ (by simp[ki]) X7 (aj ((R.cs.set i none).map λo=>dF (o.map (·.ca))) 118 false);have k4:=WS.wJ s3 wK (by simp[ki]) X7 (Cl A.wb c);have hk:=hk _ s4 (T.ay _ _ _) ((k2.trans k3).trans k4);rw[show((h2.bl.a_ A.cb (aj ((R.cs.set i none).map λo=>dF (o.map (·.ca))) 118 false)).a_ c.ca (Cl A.wb c))=(h2.bl.a_ c.ca (Cl A.wb c)).a_ A.cb (aj ((R.cs.set i none).map λo=>dF (o.map (·.ca))) 118 false)from T.GU _ _ _ (λe=>hne e.symm)]at hk;unfold Cl at hk;rw[Di]at hk;exact hk
end
section
variable {h:af}{A:WA}{a:TA}{N:Nat}{d:TD}{R:RD}
theorem JY(s:WS h A a N d R){i k:Nat}{c:CR}(hi:R.cs[i]? = some (some c))(wL:c.ph=1){nb:Int}(hb:R.bits[i]? = some nb)(hst:c.st=(k:Int))(Di:0<=c.th/\c.th<8)(hl:R.eO[k]? = some none)(V:KQ)(hk:∀h',WS h' A a N d { R with eO:=R.eO.set k (some (h.nx,c.th)),cs:=R.cs.set i (some { c with ph:=2 }) }->WK a h h'->V (.tuple ⟨[.bool false,X8 0,X8 0]⟩) h')(hz:QA nb 1=0:=by decide):av prog 15 [UV A.wb,X8 (i:Int)] h V:=by
 have gw:=s.r.gw;have YU:=s.r.gc;have hil:=y8 s hi;have r:(R.cs.map λo=>dF (o.map (·.ca)))[i]? = some (UV c.ca):=kV s hi;obtain⟨gc,c1,c2⟩:=b6 s hi;have hlc:(R.cs.map λo=>dF (o.map (·.ca))).length=A.n:=by rw[List.length_map];exact s.r.lc
 have gc':=gc;unfold cF yZ at gc';rw[wL]at gc';apply X9;rw[Hr];simp(disch:=try exact Y)only[Wz,ko,tw];refine nV s hil _ ?_;simp(disch:=try exact Y)only[Wz];refine oT s hi hb hst hl _ ?_ hz;rw[wL];simp(disch:=try exact Y)only[Wz,Option.isSome_none,Option.isSome_some,Bool.false_or,Bool.true_or,tu,aN,gw,bB,YU,r,gc',Nat.mul_one,qQ];refine U9 s hi hst Di hl _ ?_;intro h' s' k';have hi':(R.cs.set i (some { c with ph:=2 }))[i]? = some (some { c with ph:=2 }):=by rw[List.getElem?_set,if_pos rfl,if_pos (by have:=s.r.lc;omega)]
 obtain⟨wB,_,_⟩:=b6 s' hi';unfold cF at wB;simp(disch:=try exact Y)only[Wz,aN,wB];exact hk h' s' k'
theorem Mo(s:WS h A a N d R){i k p:Nat}{c:CR}(hi:R.cs[i]? = some (some c))(wL:c.ph=3){nb:Int}(hb:R.bits[i]? = some nb)(hst:c.st=(k:Int))(Di:c.th=(i:Int))(hout:c.out≠0)(hl:R.eO[k]? = some (some (p,c.th)))(V:KQ)(hk:∀h',WS h' A a N d { R with eO:=R.eO.set k none,cs:=R.cs.set i none }->WK a h h'->V (.tuple ⟨[.bool true,X8 c.out,X8 0]⟩) h')(hz:QA nb 1=0:=by decide):av prog 15 [UV A.wb,X8 (i:Int)] h V:=by
 have gw:=s.r.gw;have YU:=s.r.gc;have hil:=y8 s hi;have r:(R.cs.map λo=>dF (o.map (·.ca)))[i]? = some (UV c.ca):=kV s hi;obtain⟨gc,c1,c2⟩:=b6 s hi;have hlc:(R.cs.map λo=>dF (o.map (·.ca))).length=A.n:=by rw[List.length_map];exact s.r.lc
 have gc':=gc;unfold cF yZ at gc';rw[wL]at gc';apply X9;rw[Hr];simp(disch:=try exact Y)only[Wz,ko,tw];refine nV s hil _ ?_;simp(disch:=try exact Y)only[Wz];refine oT s hi hb hst hl _ ?_ hz;rw[wL];simp(disch:=try exact Y)only[Wz,Option.isSome_none,Option.isSome_some,Bool.false_or,Bool.true_or,tu,aN,gw,bB,YU,r,gc',Nat.mul_one,qQ];refine YT s hi hst Di hout hl _ ?_;intro h' s' g' k';unfold Cl at g';simp(disch:=try exact Y)only[Wz,aN,g'];exact hk h' s' k'
theorem amb(a b c d e f g:Int):k_ 8 (.agg ⟨[X8 a,X8 b,X8 c,X8 d,X8 e,X8 f,X8 g]⟩) (.agg ⟨[X8 a,X8 b,X8 c,X8 d,X8 e,X8 f,X8 g]⟩)=true:=by
 have v:∀n:Int,k_ 7 (X8 n) (X8 n)=true:=λn=>by
  show(jx .i64 .i64 && rK n n)=true
  rw[iA,bz rfl];rfl
 show(k_ 7 (X8 a) (X8 a) && (k_ 7 (X8 b) (X8 b) && (k_ 7 (X8 c) (X8 c) && (k_ 7 (X8 d) (X8 d) && (k_ 7 (X8 e) (X8 e) && (k_ 7 (X8 f) (X8 f) && (k_ 7 (X8 g) (X8 g) && true)))))))=true
 simp only[v,Bool.and_self]
theorem YV(s:WS h A a N d R){i:Nat}(hi:R.cs[i]? = some none)(x:iT)(hbg:0<=R.begun/\R.begun<=1000000)(V:KQ)(JQ:pG x=false->∀h',Le h h'->V (X8 2) h')(hk:pG x=true->∀h' ca,WS h' A a N d { R with cs:=R.cs.set i (some ⟨ca,x,(i:Int),R.begun,eN x.t x.r a.c.S,1,false,0,0,0⟩),begun:=R.begun+1 }->WK a h h'->V (X8 0) h'):av prog 11 [UV A.wb,X8 (i:Int),.agg ⟨FG x⟩] h V:=by
 have hlo:=s.lo;have hil:=y8 s hi;have r:(R.cs.map λo=>dF (o.map (·.ca)))[i]? = some (.pointer none):=kV s hi;have hlc:(R.cs.map λo=>dF (o.map (·.ca))).length=A.n:=by rw[List.length_map];exact s.r.lc
 apply X9;rw[ajG];simp(disch:=try exact Y)only[Wz,FG];obtain⟨hA,aY,aU,g1,dI,dJ⟩:=kG h (aj [X8 x.k,X8 x.x,X8 x.t,X8 x.r,X8 x.m,X8 x.w,X8 x.to] 31 false);rw[<-aY];clear aY;have sA:=s.le aU;simp(disch:=try exact Y)only[Wz,ko,NO];refine nV sA hil _ ?_;simp(disch:=try exact Y)only[Wz,g1];refine afK x hA _ X1 ?_;intro h1 bN;have n1:=bN.nx;have l1:=bN.lo;have s1:=sA.le bN;have g11:=(bN.get _ X1).trans g1;have gw1:=s1.r.gw;have Ad:=s1.r.gc;cases hm:pG x with
 |false=>
  simp(disch:=try exact Y)only[Wz];exact JQ hm h1 (aU.trans bN)
 |true=>
  have hk:=hk hm;have as6:∀(β:Type)(fl:β)(cn:Bool)(h:af)(V:X3 β),aI fl prog .neq 118 cn false (.pointer none) (.pointer none) h V=V (.bool false) h:=λβ fl cn h V=>YS cn none h V;simp(disch:=try exact Y)only[Wz,NN,aN,gw1,bB,Ad,r,Nat.mul_one,as6,NL,g11];refine ya s1.t.is X1 x.t x.r _ ?_;intro h2 bD;have n2:=bD.nx;have l2:=bD.lo;have s2:=s1.le bD;have g12:=(bD.get _ X1).trans g11;have WW:=s2.r.gw;simp(disch:=try exact Y)only[Wz,aN,g12,WW];obtain⟨cc,KG⟩:∃cc:CR,cc=⟨h2.nx,x,(i:Int),R.begun,eN x.t x.r a.c.S,1,false,0,0,0⟩:=⟨_,rfl⟩
  obtain⟨h3,e3⟩:∃h3:af,h3=⟨h2.nx+1,h2.bl.a_ h2.nx (cF A.wb cc),h2.lo⟩:=⟨_,rfl⟩
  have dM:Le h2 h3:=by rw[e3];exact(Le.refl h2).new _
  have g3:h3.bl.get h2.nx=some (cF A.wb cc):=by rw[e3];exact T.ay _ _ _
  have n3:h3.nx=h2.nx+1:=by rw[e3]
  have l3:h3.lo=h2.lo:=by rw[e3]
  have s3:=s2.le dM;have e3':h3=⟨h2.nx+1,h2.bl.a_ h2.nx (aj [X8 x.k,X8 x.x,X8 x.t,X8 x.r,X8 x.m,X8 x.w,X8 x.to,UV A.wb,X8 (i:Int),X8 R.begun,X8 (eN x.t x.r a.c.S),.func (.func 58) ⟨[UV h2.nx]⟩ ⟨[]⟩,X8 1,.bool false,X8 0,X8 0,X8 0,.bool false,.slice none 0 0] 128 false),h2.lo⟩:=by rw[e3,KG];rfl
  have gw3:=s3.r.gw;have lw3:=s3.r.De;have lc3:=s3.r.ltc;have s4:=s3.Ck (R.begun+1);have k4:=WS.wJ s3 gw3 (by simp[ki]) X7 (aj [UV a.tb,UV A.lb,UV A.pb,UV A.kb,YYY A.cb A.n A.n,.map (some A.mb),X8 (R.begun+1)] 126 false);have as7:=s4.r.gc;have ovc:over (R.cs.map λo=>dF (o.map (·.ca))) i [UV h2.nx]=(R.cs.set i (some cc)).map λo=>dF (o.map (·.ca)):=by
   unfold over;rw[List.map_set,List.set_eq_take_append_cons_drop,if_pos (by rw[List.length_map];have:=s.r.lc;omega),KG];simp[dF]
  have s5:=WS.wI (R:={ R with begun:=R.begun+1 }) s4 i (some cc) (λc e=>by
   cases e;refine⟨by rw[KG];show h2.nx<h3.nx;omega,by rw[KG];show h3.lo<=h2.nx;omega,?_,λj d' hj hd=>?_⟩
   .have e9:cc.ca=h2.nx:=by rw[KG]
    rw[e9];exact(T.aD _ _ (by have:=(s2.r.De).1;omega)).trans g3
   .have:=(s2.r.ca d' (List.mem_of_getElem? hd)).1;rw[KG];show d'.ca≠h2.nx;omega)
  have k5:=WS.wJ s4 as7 (by simp[ki]) X7 (aj ((R.cs.set i (some cc)).map λo=>dF (o.map (·.ca))) 118 false);have hne:A.wb≠A.cb:=dK gw3 s3.r.gc X7;have ayz:=s3.r.gc;have U_:=s2.r.gc;have lw2:=s2.r.De;have lc2:=s2.r.ltc;simp(disch:=try exact Y)only[Wz,amb];apply X9;rw[aaE];simp(disch:=try exact Y)only[Wz,aN,ye,WW,bB,U_,Nat.mul_one,ovc];have hk:=λh'=>hk h' h2.nx;simp only[<-KG]at hk;have hk:=hk _ s5 (((s.OX ((aU.trans bN).trans (bD.trans dM))).trans k4).trans k5);rw[e3']at hk;exact hk
end
section
variable {a h:af}{rt rp rl:Nat}{c:iL}{vr:Value}{bh:Nat}{R:List RB}{B:List Bool}
end
section
variable {h h2:af}{tb bw bp bl:Nat}{c:iL}{vb:Value}{bh N:Nat}{Ts Ts2:List TB}{W:List IE}{wc:Nat}{F:List Int}{B:List Bool}
end
section
variable {h h':af}{bb bm bp bl most:Nat}{M M':List HE}{clock clock':Nat}{F F':List Int}{B:List Bool}
end
section
variable {h:af}{tb bw bp bl:Nat}{c:iL}{vb:Value}{bh N:Nat}{Ts:List TB}{W:List IE}{wc:Nat}{F:List Int}{B:List Bool}
end
section
variable {h:af}{tb bw bp bl:Nat}{c:iL}{vb:Value}{bh N:Nat}{Ts:List TB}{W:List IE}{wc:Nat}{F:List Int}{B:List Bool}
end
section
variable {h:af}{tb bw bp bl:Nat}{c:iL}{vb:Value}{bh N:Nat}{Ts:List TB}{W:List IE}{wc:Nat}{F:List Int}{B:List Bool}
end
section
variable {a0 h:af}{tb bw bp bl:Nat}{c:iL}{vb:Value}{bh N:Nat}{Ts:List TB}{W:List IE}{wc:Nat}{F:List Int}{B:List Bool}{rt rp rl:Nat}{vr:Value}{R:List RB}
end
def amd(Ts:List (List HE))(s t r x id:Int)(b:Bool):Prop:=(eN t r s<0/\id=0/\b=false)\/∃(k:Nat)(M:List HE),Ts[k]? = some M/\eN t r s=(k:Int)/\Mc M t r x id b
section
variable {a0 h:af}{tb bw bp bl:Nat}{c:iL}{vb:Value}{bh N:Nat}{Ts:List TB}{W:List IE}{wc:Nat}{F:List Int}{B:List Bool}{rt rp rl:Nat}{vr:Value}{R:List RB}
theorem Va(s:mP h tb bw bp bl c vb bh N Ts W wc F B)(hlo:h.lo<=h.nx)(t r x:Int)(V:KQ)(hk:∀h' id b,amd (Ts.map (·.M)) c.S t r x id b->Le h h'->V (.tuple ⟨[X8 id,.bool b]⟩) h'):av prog 297 [UV tb,dg t r,X8 x] h V:=by
 apply X9;rw[ad7];simp(disch:=try exact Y)only[Wz,dg];obtain⟨hA,aY,aU,g1,dI,dJ⟩:=kG h (aj [X8 t,X8 r] 28 false);rw[<-aY];clear aY;refine ya (s.le aU).is X1 t r _ ?_;intro h2 bD;have mM:=bD.nx;have mN:=bD.lo;have g1:=(bD.get _ X1).trans g1;have mD:=aU.trans bD;have s2:=s.le mD;by_cases hneg:eN t r c.S<0
 .simp(disch:=try exact Y)only[Wz,bz hneg];exact hk h2 0 false (.inl ⟨hneg,rfl,rfl⟩) mD
 obtain⟨k,b,hst,hb⟩:=alS s.is hneg;have gt:=s2.is.oS;obtain⟨cc,oo,_,WN,qg⟩:=YK s2.is.sl k hb;have qg:=qg h2 (Le.refl _);rw[hst];simp(disch:=try exact Y)only[Wz,d_ (show(0:Int)<=(k:Int)by omega),IK,aN,gt,WN,qg,g1];refine YH (s2.is.bk b (List.mem_of_getElem? hb)) X1 t r x _ ?_;intro h3 id bb fi dM;simp(disch:=try exact Y)only[Wz];exact hk h3 id bb (.inr ⟨k,b.M,by rw[List.getElem?_map,hb];rfl,hst,fi⟩) (mD.trans dM)
end
section
variable {h:af}{tb bw bp bl:Nat}{c:iL}{vb:Value}{bh N:Nat}{Ts:List TB}{W:List IE}{wc:Nat}{F:List Int}{B:List Bool}{H X:Int->Int->Int}
theorem wM(s:mP h tb bw bp bl c vb bh N Ts W wc F B)(L:Lone Ts H X)(hlo:h.lo<=h.nx)(t r:Int)(V:KQ)(qn:H t r=0->∀h',Le h h'->V (.tuple ⟨[X8 0,.bool false]⟩) h')(dZ:H t r≠0->∀h' (k:Nat) (b:TB) (e:HE) (id:Int),Ts[k]? = some b->eN t r c.S=(k:Int)->e∈b.M->e.t=t->e.r=r->e.Q=[⟨id,X t r,H t r,H t r,0⟩]->Le h h'->V (.tuple ⟨[X8 id,.bool true]⟩) h'):av prog 297 [UV tb,dg t r,X8 (X t r)] h V:=by
 refine Va s hlo t r (X t r) _ ?_;intro h' id b fi le;by_cases hH:H t r=0
 .have hno:=L.no hH;rcases fi with⟨_,rfl,rfl⟩|⟨k,M,hM,hst,⟨rfl,e,he,ht,hr,_⟩|⟨rfl,rfl,_⟩⟩
  .exact qn hH h' le
  .rw[List.getElem?_map]at hM;cases hb:Ts[k]? with
   |none=>rw[hb]at hM;cases hM
   |some b0=>
    rw[hb]at hM;cases hM;exact absurd ⟨ht,hr⟩ (hno b0 (List.mem_of_getElem? hb) e he)
  .exact qn hH h' le
 ·obtain⟨k0,b0,e0,id0,hb0,as8,UQ,ht0,Lf,hQ0⟩:=L.at s hH;have fin:∀(id:Int)(b:Bool),Mc b0.M t r (X t r) id b->id=id0/\b=true:=by
   rintro id b (⟨rfl,e,he,ht,hr,p,hp,hx,rfl⟩|⟨_,_,hn⟩)
   .have:=(s.is.bk b0 (List.mem_of_getElem? hb0)).ok.uniq he UQ (by rw[<-ht,ht0]) (by rw[<-hr,Lf]);subst this;rw[hQ0,List.mem_singleton]at hp;subst hp;exact⟨rfl,rfl⟩
   .exact absurd rfl (hn e0 UQ ht0.symm Lf.symm ⟨id0,X t r,H t r,H t r,0⟩ (by rw[hQ0];exact .head _))
  rcases fi with⟨h1,_⟩|⟨k,M,hM,hst,fi⟩
  .omega
  .obtain rfl:k=k0:=by omega
   rw[List.getElem?_map,hb0]at hM;cases hM;obtain⟨rfl,rfl⟩:=fin id b fi;exact dZ hH h' k b0 e0 id hb0 as8 UQ ht0 Lf hQ0 le
theorem YW(s:mP h tb bw bp bl c vb bh N Ts W wc F B)(hlo:h.lo<=h.nx){b:TB}(hb:b∈Ts){e:HE}(he:e∈b.M){id x m:Int}(hQ:e.Q=[⟨id,x,m,m,0⟩])(V:KQ)(hk:∀h',Le h h'->V (.tuple ⟨[dg e.t e.r,nP ⟨id,x,m,m,0⟩,.bool true]⟩) h'):av prog 209 [UV tb,X8 id] h V:=by
 refine afF s hlo id _ ?_ ?_
 .intro h' hn le;have:=hn b hb e he;rw[hQ,jQ,if_pos rfl]at this;cases this
 .intro h' b' e' p hb' he' hf le;obtain⟨i,hi,hid⟩:=sE ((s.is.bk b' hb').good e' he').vq hf;obtain⟨rfl,rfl⟩:=s.yW hb' hb he' he (List.mem_of_getElem? hi) (by rw[hQ];exact .head _) hid;rw[hQ,jQ,if_pos rfl]at hf;cases hf;exact hk h' le
end
section
variable {h:af}{A:WA}{a:TA}{N:Nat}{d:TD}{R:RD}{H X:Int->Int->Int}
theorem Cm(s:WS h A a N d R)(L:Lone d.Ts H X)(t r:Int)(V:KQ)(hk:∀v Q h',(Q=[]\/∃id m,Q=[⟨id,X t r,m,m,0⟩])->Sl bT h' v Q->Le h h'->V v h'):av prog 298 [UV A.wb,dg t r] h V:=by
 have gw0:=s.r.gw;have hlo:=s.lo;apply X9;rw[ad8];have De:=s.r.De;simp(disch:=try exact Y)only[Wz,dg,aN,gw0];obtain⟨hA,aY,aU,g1,dI,dJ⟩:=kG h (aj [X8 t,X8 r] 28 false);rw[<-aY];clear aY;have sA:=s.le aU;refine YO sA.t X1 _ ?_;intro v0 h0 K t0 qJ;have n0:=qJ.nx;have l0:=qJ.lo;obtain⟨x0,c0,ev0,_⟩:=(show Sl uU h0 v0 K from t0.sl)
 have ame:∀(β:Type)(fl:β)(h':af)(V:X3 β),bU fl v0 h' V=V (X8 (K.length:Int)) h':=λβ fl h' V=>by rw[ev0];exact iR _ _ _ _ _
 have hKl:K.length<=1024:=by
  have h1:=t0.perm.length_eq;rw[List.length_map]at h1;rw[h1];have h2:=s.t.is.s1.2;have h3:=s.t.is.hd;have:∀L:List TB,(∀b∈L,b.M.length<=64)->(L.flatMap λb=>b.M.map c_).length<=64*L.length:=by
   intro L
   induction L with
   |nil=>intro _;simp
   |cons b L ih=>
    intro hL;rw[List.flatMap_cons,List.length_append,List.length_map,List.length_cons];have h1:=ih λx hx=>hL x (.tail _ hx);have h2:=hL b (.head _);omega
  have:=this d.Ts λb hb=>by have:=s.t.len b hb;omega
  omega
 have g10:=(qJ.get _ X1).trans g1;simp(disch:=try exact Y)only[Wz,ame];refine⟨λn l h1=>∃i:Nat,ah l 12=X8 (i:Int)/\n=K.length-i/\i<=K.length/\Le h0 h1,
  ⟨_,0,rfl,rfl,X1,Le.refl _⟩,?_⟩
 rintro n l h1 ⟨i,s1,rfl,hi,bN⟩;have n1:=bN.nx;have l1:=bN.lo;by_cases hlt:i<K.length
 .obtain⟨e,he⟩:∃e,K[i]? = some e:=⟨_,List.getElem?_eq_getElem hlt⟩
  have heK:=List.mem_of_getElem? he;obtain⟨⟨b',hb',e',he',se⟩,qv⟩:=t0.each e heK;obtain⟨b0,o0,hb0,hx0,Lf⟩:=asM t0.sl i he (afu qv.1);have R1:=Lf h1 bN;have qv1:=qv.le bN;obtain⟨qx,qc,eq,_⟩:=(show Sl bT h1 e.q e.Q from qv1.1)
  have g11:=(bN.get _ X1).trans g10;rw[eq]at R1;simp(disch:=try exact Y)only[Wz,s1,f_ (show(i:Int)<(K.length:Int)by omega),IL,hx0,R1,g11];rw[wE];by_cases hn:e.t=t/\e.r=r
  .rw[bz hn];simp(disch:=try exact Y)only[Wz];obtain⟨id,hQ,hm⟩:=L.one b' hb' e' he';refine hk _ e.Q _ ?_ ?_ ((aU.trans (qJ.trans bN)).trans ((Le.refl h1).new _))
   .refine .inr ⟨id,H e'.t e'.r,?_⟩;rw[se.2.2.2,hQ,<-se.1,<-se.2.1,hn.1,hn.2]
   .rw[<-eq];exact(qv1.le ((Le.refl h1).new _)).1
  .rw[bf hn];simp(disch:=try exact Y)only[Wz,s1];exact⟨_,X1,i+1,rfl,rfl,X1,bN.trans ((Le.refl h1).new _)⟩
 .simp(disch:=try exact Y)only[Wz,s1,d_ (show(K.length:Int)<=(i:Int)by omega)];exact hk _ [] _ (.inl rfl) (Sl.nil _ _ _) (aU.trans (qJ.trans bN))
end
theorem Vb{m:Int}(h:kn m=true):bZ 0 m=m:=by
 have key:∀j,j<7->bZ 0 (j:Nat)=(j:Nat):=by decide +kernel
 obtain⟨j,hj,rfl⟩:=kg h;exact key j hj
theorem lI{a b:Int}(ha:kn a=true)(hb:kn b=true)(h0:b≠0):bZ a b≠0/\kn (bZ a b)=true/\bZ a (bZ a b)=bZ a b/\(mU a b=true->bZ a b=a):=by
 have key:∀i:Nat,i<7->∀j:Nat,j<7->(j:Int)≠0->bZ (i:Nat) (j:Nat)≠0/\kn (bZ (i:Nat) (j:Nat))=true/\bZ (i:Nat) (bZ (i:Nat) (j:Nat))=bZ (i:Nat) (j:Nat)/\(mU (i:Nat) (j:Nat)=true->bZ (i:Nat) (j:Nat)=(i:Nat)):=by decide +kernel
 obtain⟨i,hi,rfl⟩:=kg ha;obtain⟨j,hj,rfl⟩:=kg hb;exact key i hi j hj h0
structure kW(d d':TD)(k:Nat):Prop where
 f:d.F.length<=d'.F.length+1
 m:∀(j:Nat)(b':TB),d'.Ts[j]? = some b'->∃b,d.Ts[j]? = some b/\b'.M.length<=b.M.length+if j=k then 1 else 0
theorem wN{d:TD}{k:Nat}{b:TB}(hk:d.Ts[k]? = some b){M':List HE}{cl:Nat}(hl:M'.length<=b.M.length+1)(W':List IE)(Cd:Nat){F':List Int}(hF:d.F.length<=F'.length+1)(B':List Bool):kW d ⟨d.Ts.set k ⟨b.bb,b.bm,M',cl⟩,W',Cd,F',B'⟩ k:=by
 refine⟨hF,λj b' hj=>?_⟩;rcases gN hj with⟨rfl,rfl⟩|⟨hne,hj⟩
 .exact⟨b,hk,by rw[if_pos rfl];exact hl⟩
 .exact⟨b',hj,X1⟩
section
variable {h:af}{a:TA}{N:Nat}{d:TD}{H X:Int->Int->Int}
theorem YX(s:Dh h a N d)(L:Lone d.Ts H X)(hlo:h.lo<=h.nx)(hN:N<=1000){k:Nat}{b:TB}(hb:d.Ts[k]? = some b){t r m:Int}(hst:eN t r a.c.S=(k:Int))(hH:H t r=0)(am:cE m=true)(hF:d.F≠[])(hh:b.M.length<a.bh)(V:KQ)(hk:∀h' d' id,Dh h' a (N+1) d'->Lone d'.Ts (jD H t r m) X->kW d d' k->x_ d.Ts a.bw a.bp a.bl h h'->d'.Ts.map (·.bm)=d.Ts.map (·.bm)->V (.tuple ⟨[X8 id,.bool true,X8 0]⟩) h'):av prog 301 [UV a.tb,dg t r,X8 (X t r),X8 m] h V:=by
 have hno:=L.no hH;obtain⟨hm,km⟩:=(kR m).1 am;refine OU s hlo hN t r (X t r) m _ ?_ ?_ ?_ ?_ ?_
 .intro h' hn;omega
 .intro k' b' h' _ _ hf;rw[am]at hf;cases hf
 .intro k' b' h' e p hb' _ _ he ht hr;exact absurd ⟨ht,hr⟩ (hno b' (List.mem_of_getElem? hb') e he)
 .intro k' b' h' hb' Dj _ _ hor;obtain rfl:k'=k:=by omega
  rw[hb]at hb';cases hb';rcases hor with h1|⟨_,h1⟩
  .exact absurd h1 hF
  .omega
 .intro k' b' M' clock' F' W' Cd h0 h1 h' n g hb' Dj _ _ _ ak s' fr;obtain rfl:k'=k:=by omega
  rw[hb]at hb';cases hb';obtain⟨Q,w,hold,_,_,hg,st⟩:=ak.set;rcases hold with⟨e,he,h1,h2,_⟩|⟨_,_,rfl,rfl⟩
  .exact absurd ⟨h1.symm,h2.symm⟩ (hno b (List.mem_of_getElem? hb) e he)
  .rw[UY]at hg st;rw[List.nil_append,yb hm]at st;subst hg;have L':=L.settle s hb hst hm clock' st;have o:=(s.is.bk b (List.mem_of_getElem? hb)).ok;refine hk h' ⟨_,W',Cd,F',d.B.set n true⟩ n s' L' (wN hb (st.cnt o) W' Cd ?_ _) fr (FD hb _ _);have:=ak.free.length_eq;rw[List.length_cons]at this;omega
theorem YY(s:Dh h a N d)(L:Lone d.Ts H X)(hlo:h.lo<=h.nx)(hN:N<=1000){k:Nat}{b:TB}(hb:d.Ts[k]? = some b){t r m id:Int}(hst:eN t r a.c.S=(k:Int)){e:HE}(he:e∈b.M)(ht:e.t=t)(hr:e.r=r)(hQ:e.Q=[⟨id,X t r,H t r,H t r,0⟩])(hH:H t r≠0)(km:kn m=true)(hm:m≠0)(V:KQ)(hk:∀h' d',Dh h' a (N+1) d'->Lone d'.Ts (jD H t r (bZ (H t r) m)) X->kW d d' k->x_ d.Ts a.bw a.bp a.bl h h'->d'.Ts.map (·.bm)=d.Ts.map (·.bm)->V (.tuple ⟨[.bool true,X8 0]⟩) h'):av prog 302 [UV a.tb,X8 id,X8 (bZ (H t r) m)] h V:=by
 have yX:=List.mem_of_getElem? hb;obtain⟨n0,kns,idem,_⟩:=lI (L.km s hH) km hm;have am:cE (bZ (H t r) m)=true:=(kR _).2 ⟨n0,kns⟩;have uni:∀(k':Nat)(b':TB)(e':HE)(p:R5),d.Ts[k']? = some b'->e'∈b'.M->cL e'.Q id=some p->k'=k/\b'=b/\e'=e/\p=⟨id,X t r,H t r,H t r,0⟩:=by
  intro k' b' e' p hb' he' hf;obtain⟨i,hi,hid⟩:=sE ((s.is.bk b' (List.mem_of_getElem? hb')).good e' he').vq hf;obtain⟨rfl,rfl⟩:=s.yW (List.mem_of_getElem? hb') yX he' he (List.mem_of_getElem? hi) (by rw[hQ];exact .head _) hid;rw[hQ,jQ,if_pos rfl]at hf;have h1:=s.nm k' b' hb' e' he';rw[ht,hr]at h1;exact⟨X1,rfl,rfl,(Option.some.inj hf).symm⟩
 refine JS s hlo hN id _ _ ?_ ?_ ?_ ?_
 .intro h' hf;rw[am]at hf;cases hf
 .intro _ hn;have:=hn b yX e he;rw[hQ,jQ,if_pos rfl]at this;cases this
 .intro k' b' h' e' p _ hb' he' hf hp;obtain⟨_,_,_,rfl⟩:=uni k' b' e' p hb' he' hf;simp at hp
 ·intro k' b' h' M' clock' e' p i _ hb' he' hpi hf _ mv s';obtain⟨rfl,rfl,rfl,rfl⟩:=uni k' b' e' p hb' he' hf;have i0:i=0:=by
   have:=(List.getElem?_eq_some_iff.1 hpi).1;rw[hQ]at this;simpa using this
  subst i0;have st:=mv.set;rw[hQ,JU,idem,List.set_cons_zero,yb n0,ht,hr]at st;rw[hQ,JU];have L':=L.settle s hb hst n0 clock' st;have o:=(s.is.bk b' yX).ok;exact hk h' ⟨_,d.W,d.wc,d.F,d.B⟩ s' L' (wN hb (st.cnt o) _ _ (Nat.le_succ _) _) (x_.YJ yX mv.fr) (FD hb _ _)
theorem QC(s:Dh h a N d)(L:Lone d.Ts H X)(hlo:h.lo<=h.nx){k:Nat}{b:TB}(hb:d.Ts[k]? = some b){t r id:Int}(hst:eN t r a.c.S=(k:Int)){e:HE}(he:e∈b.M)(ht:e.t=t)(hr:e.r=r)(hQ:e.Q=[⟨id,X t r,H t r,H t r,0⟩])(V:KQ)(hk:∀h' d' v',C_ h h' v' []->Dh h' a (N+1) d'->Lone d'.Ts (jD H t r 0) X->kW d d' k->x_ d.Ts a.bw a.bp a.bl h h'->d'.Ts.map (·.bm)=d.Ts.map (·.bm)->V (.tuple ⟨[v',X8 0]⟩) h'):av prog 352 [UV a.tb,X8 id] h V:=by
 have yX:=List.mem_of_getElem? hb;have uni:∀(k':Nat)(b':TB)(e':HE)(p:R5),d.Ts[k']? = some b'->e'∈b'.M->cL e'.Q id=some p->k'=k/\b'=b/\e'=e/\p=⟨id,X t r,H t r,H t r,0⟩:=by
  intro k' b' e' p hb' he' hf;obtain⟨i,hi,hid⟩:=sE ((s.is.bk b' (List.mem_of_getElem? hb')).good e' he').vq hf;obtain⟨rfl,rfl⟩:=s.yW (List.mem_of_getElem? hb') yX he' he (List.mem_of_getElem? hi) (by rw[hQ];exact .head _) hid;rw[hQ,jQ,if_pos rfl]at hf;have h1:=s.nm k' b' hb' e' he';rw[ht,hr]at h1;exact⟨X1,rfl,rfl,(Option.some.inj hf).symm⟩
 refine UR s hlo id _ ?_ ?_
 .intro hn;have:=hn b yX e he;rw[hQ,jQ,if_pos rfl]at this;cases this
 .intro k' b' h' M' clock' F' v' e' p n hb' he' hf hid zI hpF mv ho s';obtain⟨rfl,rfl,rfl,rfl⟩:=uni k' b' e' p hb' he' hf;have ata:(e'.Q.filter λr=>!cZ id r)=[]:=by rw[hQ];simp[cZ]
  have st:=mv.set;rw[ata]at st ho;rw[ht,hr]at st;have L':=L.gone s hb hst clock' st;have o:=(s.is.bk b' yX).ok;refine hk h' ⟨_,d.W,d.wc,F',d.B.set n false⟩ v' ho s' L' (wN hb (st.cnt o) _ _ ?_ _) (x_.YJ yX mv.fr) (FD hb _ _);have:=hpF.length_eq;rw[List.length_append,List.length_singleton]at this;omega
end
theorem yg(H:Int->Int->Int)(t r:Int):jD H t r (H t r)=H:=by
 funext t' r';unfold jD;split
 .rename_i e;rw[e.1,e.2]
 .rfl
theorem kW.refl(d:TD)(k:Nat):kW d d k:=⟨Nat.le_succ _,λj b' hj=>⟨b',hj,Nat.le_add_right _ _⟩⟩
section
variable {h:af}{A:WA}{a:TA}{N:Nat}{d:TD}{R:RD}{H X:Int->Int->Int}
theorem Cn(s:WS h A a N d R)(L:Lone d.Ts H X)(hN:N<=1000){i k:Nat}{c:CR}(hi:R.cs[i]? = some (some c)){b:TB}(hb:d.Ts[k]? = some b)(hst:eN c.a.t c.a.r a.c.S=(k:Int))(hx:c.a.x=X c.a.t c.a.r)(hx0:0<=c.a.x)(km:kn c.a.m=true)(hm:c.a.m≠0)(hF:H c.a.t c.a.r=0->d.F≠[])(hh:H c.a.t c.a.r=0->b.M.length<a.bh)(CE:List Value)(hl:ah CE 19=X8 (H c.a.t c.a.r))(id:Int)(hid:H c.a.t c.a.r≠0->∃e∈b.M,e.t=c.a.t/\e.r=c.a.r/\e.Q=[⟨id,X c.a.t c.a.r,H c.a.t c.a.r,H c.a.t c.a.r,0⟩])(V:KQ)(hk:∀h' d',WS h' A a (N+1) d' { R with cs:=R.cs.set i (some { c with out:=1 }) }->Lone d'.Ts (jD H c.a.t c.a.r (bZ (H c.a.t c.a.r) c.a.m)) X->kW d d' k->WK a h h'->V (.tuple ⟨[]⟩) h'):sn (UV c.ca) CE (X8 id) h V:=by
 obtain⟨gc,c1,c2⟩:=b6 s hi;have gc':=gc;unfold cF at gc';have gw:=s.r.gw;unfold sn;simp(disch:=try exact Y)only[Wz,hl,aN,gc',gw];refine yR _ _ ?_;simp(disch:=try exact Y)only[Wz,aN,gc',gw];refine Cm s L c.a.t c.a.r _ ?_;intro v Q h1 hQ hv bN;obtain⟨vx,vc,ev,_⟩:=(show Sl bT h1 v Q from hv)
 have hlen:∀(β:Type)(fl:β)(h':af)(V:X3 β),bU fl v h' V=V (X8 (Q.length:Int)) h':=λβ fl h' V=>by rw[ev];exact iR _ _ _ _ _
 have hQl:Q.length<=1:=by rcases hQ with rfl|⟨_,_,rfl⟩<;>simp
 simp(disch:=try exact Y)only[Wz,hlen];refine⟨λn l h2=>∃j:Nat,ah l 29=X8 (j:Int)/\n=Q.length-j/\j<=Q.length/\Le h1 h2,⟨_,0,rfl,rfl,X1,Le.refl _⟩,?_⟩;rintro n l h2 ⟨j,s1,rfl,hj,bD⟩;have n2:=bD.nx;have l2:=bD.lo;have n1:=bN.nx;have l1:=bN.lo;have hlo:=s.lo;by_cases hlt:j<Q.length
 .obtain⟨p,hp⟩:∃p,Q[j]? = some p:=⟨_,List.getElem?_eq_getElem hlt⟩
  obtain⟨b4,o4,hb4,hx4,WQ,_⟩:=WJ hv j hp;have hpx:0<=p.x:=by
   have hm:=List.mem_of_getElem? hp;rcases hQ with rfl|⟨i',m',rfl⟩
   .nomatch hm
   .rw[List.mem_singleton]at hm;subst hm;show 0<=X c.a.t c.a.r;omega
  rw[<-bD.get _ hb4]at WQ;simp(disch:=try exact Y)only[Wz,sk,s1,f_ (show(j:Int)<(Q.length:Int)by omega)];refine⟨λl' h'=>Le h1 h',?_,?_⟩
  .simp(disch:=try exact Y)only[Wz,Bo,s1,hx4,WQ,bT,d_ (show(0:Int)<=p.x by omega)];exact bD.trans ((Le.refl h2).new _)
  .intro l' h' le';exact⟨_,X1,j+1,rfl,rfl,X1,le'⟩
 ·have mD:=bN.trans bD;have s2:=s.le mD;have wB:=(mD.get _ c1).trans gc;have yf:=wB;unfold cF at yf;have WW:=s2.r.gw;have k02:=s.OX mD;simp(disch:=try exact Y)only[Wz,sk,s1,d_ (show(Q.length:Int)<=(j:Int)by omega),Br,aN,yf,hl];refine qk _ _ ?_;have fin:∀h' d',WS h' A a (N+1) d' R->Lone d'.Ts (jD H c.a.t c.a.r (bZ (H c.a.t c.a.r) c.a.m)) X->kW d d' k->WK a h h'->V (.tuple ⟨[]⟩) ⟨h'.nx,h'.bl.a_ c.ca (cF A.wb { c with out:=1 }),h'.lo⟩:=λh' d' s' L' g' w'=>by
   obtain⟨wK,_,_⟩:=b6 s' hi;exact hk _ d' (WS.jt s' hi rfl) L' g' (w'.trans (WS.wJ s' wK (by simp[ki]) X7 _))
  unfold cF at fin;by_cases JZ:mU (H c.a.t c.a.r) c.a.m=true
  .have hH:H c.a.t c.a.r≠0:=λh0=>by rw[h0]at JZ;exact hm (acg JZ)
   have hs:=(lI (L.km s.t hH) km hm).2.2.2 JZ;rw[JZ];simp(disch:=try exact Y)only[Wz,aN,yf];refine fin h2 d (s2.up (Nat.le_succ _)) (by rw[hs,yg];exact L) (kW.refl _ _) k02
  .rw[Bool.not_eq_true]at JZ;rw[JZ];simp(disch:=try exact Y)only[Wz];refine⟨λl' h'=>∃d',ah l' 39=.bool true/\ah l' 40=X8 0/\WS h' A a (N+1) d' R/\Lone d'.Ts (jD H c.a.t c.a.r (bZ (H c.a.t c.a.r) c.a.m)) X/\kW d d' k/\WK a h h',?_,?_⟩
   .by_cases hH:H c.a.t c.a.r=0
    .have am:cE c.a.m=true:=(kR _).2 ⟨hm,km⟩;rw[hH,Vb km];simp(disch:=try exact Y)only[Wz,hl,hH,Bp,aN,yf,WW];rw[hx];refine YX s2.t L X1 hN hb hst hH am (hF hH) (hh hH) _ ?_;intro h3 d3 id3 t3 L3 g3 f3 b3;simp(disch:=try exact Y)only[Wz];exact⟨d3,trivial,trivial,s2.table t3 f3 b3,L3,g3,k02.trans (s2.kfr f3)⟩
    .simp(disch:=try exact Y)only[Wz,hl,bf hH,Ip,aN,yf,WW];obtain⟨e,he,het,her,heQ⟩:=hid hH;refine YY s2.t L X1 hN hb hst he het her heQ hH km hm _ ?_;intro h3 d3 t3 L3 g3 f3 b3;simp(disch:=try exact Y)only[Wz];exact⟨d3,trivial,trivial,s2.table t3 f3 b3,L3,g3,k02.trans (s2.kfr f3)⟩
   .rintro l' h3 ⟨d3,e1,e2,s3,L3,g3,k3⟩;obtain⟨wK,_,_⟩:=b6 s3 hi;unfold cF at wK;simp(disch:=try exact Y)only[Wz,Bq,e2,Ir,Iq,e1,aN,wK];exact fin h3 d3 s3 L3 g3 k3
end
section
variable {h:af}{A:WA}{a:TA}{N:Nat}{d:TD}{R:RD}{H X:Int->Int->Int}
theorem YZ(s:WS h A a N d R)(L:Lone d.Ts H X)(hN:N<=1000){i k:Nat}{c:CR}(hi:R.cs[i]? = some (some c)){b:TB}(hb:d.Ts[k]? = some b)(hst:eN c.a.t c.a.r a.c.S=(k:Int))(hx:c.a.x=X c.a.t c.a.r)(hx0:0<=c.a.x)(km:kn c.a.m=true)(hm:c.a.m≠0)(hF:H c.a.t c.a.r=0->d.F≠[])(hh:H c.a.t c.a.r=0->b.M.length<a.bh)(V:KQ)(hk:∀h' d',WS h' A a (N+1) d' { R with cs:=R.cs.set i (some { c with out:=1 }) }->Lone d'.Ts (jD H c.a.t c.a.r (bZ (H c.a.t c.a.r) c.a.m)) X->kW d d' k->WK a h h'->V (.tuple ⟨[]⟩) h'):av prog 212 [UV c.ca] h V:=by
 obtain⟨gc,c1,c2⟩:=b6 s hi;have gc':=gc;unfold cF at gc';have gw:=s.r.gw;have hlo:=s.lo;apply X9;rw[TV];simp(disch:=try exact Y)only[Wz,aN,gc',gw];rw[hx];refine wM s.t L hlo c.a.t c.a.r _ ?_ ?_
 .intro hH h1 bN;have s1:=s.le bN;simp(disch:=try exact Y)only[Wz];refine⟨λl' h'=>ah l' 19=X8 (H c.a.t c.a.r)/\Le h1 h',⟨by rw[hH];rfl,Le.refl _⟩,?_⟩;rintro l' h2 ⟨sl,bD⟩;exact Cn (s1.le bD) L hN hi hb hst hx hx0 km hm hF hh l' sl 0 (λh0=>absurd hH h0) V λh' d' s' L' g' k'=>hk h' d' s' L' g' ((s.OX (bN.trans bD)).trans k')
 .intro hH h1 k' b' e id hb' Dj he ht hr hQ bN;obtain rfl:k'=k:=by omega
  rw[hb]at hb';cases hb';have s1:=s.le bN;obtain⟨Ad,_,_⟩:=b6 s1 hi;unfold cF at Ad;have gw1:=s1.r.gw;have n1:=bN.nx;have l1:=bN.lo;simp(disch:=try exact Y)only[Wz];refine⟨λl' h'=>ah l' 19=X8 (H c.a.t c.a.r)/\Le h1 h',?_,?_⟩
  .simp(disch:=try exact Y)only[Wz,Io,aN,Ad,gw1];refine YW s1.t X1 (List.mem_of_getElem? hb) he hQ _ ?_;intro h2 bD;have n2:=bD.nx;have l2:=bD.lo;simp(disch:=try exact Y)only[Wz,dg,nP,bT];exact⟨trivial,(((bD.new _).new _).set X1 _).set (by show h1.nx<=h2.nx+1;omega) _⟩
  .rintro l' h2 ⟨sl,bD⟩;exact Cn (s1.le bD) L hN hi hb hst hx hx0 km hm hF hh l' sl id (λ_=>⟨e,he,ht,hr,hQ⟩) V λh' d' s' L' g' k'=>hk h' d' s' L' g' ((s.OX (bN.trans bD)).trans k')
theorem Vc(s:WS h A a N d R)(L:Lone d.Ts H X){i k:Nat}{c:CR}(hi:R.cs[i]? = some (some c)){b:TB}(hb:d.Ts[k]? = some b)(hst:eN c.a.t c.a.r a.c.S=(k:Int)){id:Int}{e:HE}(he:e∈b.M)(ht:e.t=c.a.t)(hr:e.r=c.a.r)(hQ:e.Q=[⟨id,X c.a.t c.a.r,H c.a.t c.a.r,H c.a.t c.a.r,0⟩])(V:KQ)(hk:∀h' d',WS h' A a (N+1) d' R->Lone d'.Ts (jD H c.a.t c.a.r 0) X->kW d d' k->WK a h h'->V (.tuple ⟨[]⟩) h'):av prog 300 [UV c.ca,X8 id] h V:=by
 obtain⟨gc,c1,c2⟩:=b6 s hi;have gc':=gc;unfold cF at gc';have gw:=s.r.gw;have hlo:=s.lo;apply X9;rw[ad9];simp(disch:=try exact Y)only[Wz,aN,gc',gw];refine QC s.t L hlo hb hst he ht hr hQ _ ?_;intro h1 d1 v1 ho t1 L1 g1 f1 b1;have s1:=s.table t1 f1 b1;obtain⟨Ad,k1,k2⟩:=b6 s1 hi;have gcx:=Ad;unfold cF at gcx;have e1:(h1.bl.a_ c.ca (cF A.wb c))=h1.bl.a_ c.ca (cF A.wb c):=rfl;simp(disch:=try exact Y)only[Wz,aN,gcx];rw[append_nil ho.sl ⟨_,_,_,rfl⟩];simp(disch:=try exact Y)only[Wz,aN,gcx];have s2:=WS.jt s1 hi (c':=c) rfl;have hcs:R.cs.set i (some c)=R.cs:=by
  refine List.ext_getElem? λj=>?_;rw[List.getElem?_set];split
  .rename_i e;subst e;rw[hi,if_pos (List.getElem?_eq_some_iff.1 hi).1]
  .rfl
 rw[hcs]at s2;have hk:=hk _ d1 s2 L1 g1 ((s.kfr f1).trans (WS.wJ s1 Ad (by simp[ki]) X7 _));unfold cF at hk;exact hk
theorem Y0(s:WS h A a N d R)(L:Lone d.Ts H X){i k:Nat}{c:CR}(hi:R.cs[i]? = some (some c)){b:TB}(hb:d.Ts[k]? = some b)(hst:eN c.a.t c.a.r a.c.S=(k:Int))(hx:c.a.x=X c.a.t c.a.r)(V:KQ)(hk:∀h' d',WS h' A a (N+1) d' { R with cs:=R.cs.set i (some { c with out:=if H c.a.t c.a.r=0 then 6 else 1 }) }->Lone d'.Ts (jD H c.a.t c.a.r 0) X->kW d d' k->WK a h h'->V (.tuple ⟨[]⟩) h'):av prog 213 [UV c.ca] h V:=by
 obtain⟨gc,c1,c2⟩:=b6 s hi;have gc':=gc;unfold cF at gc';have gw:=s.r.gw;have hlo:=s.lo;have fin:∀h' d',WS h' A a (N+1) d' R->Lone d'.Ts (jD H c.a.t c.a.r 0) X->kW d d' k->WK a h h'->V (.tuple ⟨[]⟩) ⟨h'.nx,h'.bl.a_ c.ca (cF A.wb { c with out:=if H c.a.t c.a.r=0 then 6 else 1 }),h'.lo⟩:=λh' d' s' L' g' w'=>by
  obtain⟨wK,_,_⟩:=b6 s' hi;exact hk _ d' (WS.jt s' hi rfl) L' g' (w'.trans (WS.wJ s' wK (by simp[ki]) X7 _))
 unfold cF at fin;apply X9;rw[adE];simp(disch:=try exact Y)only[Wz,aN,gc',gw];rw[hx];refine wM s.t L hlo c.a.t c.a.r _ ?_ ?_
 .intro hH h1 bN;have s1:=s.le bN;obtain⟨Ad,_,_⟩:=b6 s1 hi;unfold cF at Ad;simp(disch:=try exact Y)only[Wz,aN,Ad];have:=fin h1 d (s1.up (Nat.le_succ _)) (by have:=yg H c.a.t c.a.r;rw[hH]at this;rw[this];exact L) (kW.refl _ _) (s.OX bN);rw[if_pos hH]at this;exact this
 .intro hH h1 k' b' e id hb' Dj he ht hr hQ bN;obtain rfl:k'=k:=by omega
  rw[hb]at hb';cases hb';have s1:=s.le bN;simp(disch:=try exact Y)only[Wz];refine Vc s1 L hi hb hst he ht hr hQ _ ?_;intro h2 d2 s2 L2 g2 k2;obtain⟨wB,_,_⟩:=b6 s2 hi;unfold cF at wB;simp(disch:=try exact Y)only[Wz,aN,wB];have:=fin h2 d2 s2 L2 g2 ((s.OX bN).trans k2);rw[if_neg hH]at this;exact this
end
def wO(k:Int)(f:FuncId)(n:Nat):MapEntry:={ key:=X8 k,val:=.func (.func f) ⟨[]⟩ ⟨[]⟩,born:=n }
def J1:bP:=.map [wO 1 212 0,wO 2 213 1,wO 3 214 2] 3
theorem findF(h:af)(k k':Int)(f:FuncId)(n:Nat)(es:List MapEntry)(i:Nat):fJ prog h 3 (X8 k) (wO k' f n::es) i=if k=k' then some (some (i,wO k' f n))else fJ prog h 3 (X8 k) es (Nat.succ i):=by
 have hf:fJ prog h 3 (.int .i64 k) (wO k' f n::es) i=(match(some (decide (k=k')):Option Bool)with|some true=>some (some (i,wO k' f n))|some false=>fJ prog h 3 (.int .i64 k) es (Nat.succ i)|none=>none):=by
  rw[<-eqI h];rfl
 rw[hf];by_cases e:k=k'
 .rw[bz e,if_pos e]
 .rw[bf e,if_neg e]
theorem sH{es:List MapEntry}{clock:Nat}{h:af}{b:Nat}(g:h.bl.get b=some (.map es clock))(hlo:h.lo<=b)(k:Int)(f:FuncId)(hf:∀h:af,fJ prog h 3 (X8 k) es 0=some none)(V:KQ)(hk:V undef ⟨h.nx,h.bl.a_ b (.map (es++[wO k f clock]) (clock+1)),h.lo⟩):bQ False prog 3 (.map (some b)) (X8 k) (.func (.func f) ⟨[]⟩ ⟨[]⟩) h V:=by
 unfold bQ;rw[Qs];simp only[g,hf];rw[lU];simp only[cC];rw[bG _ _ _ _ hlo];exact hk
theorem Mp(h:af)(V:KQ)(hlo:h.lo<=h.nx)(hk:∀b h',Le h h'->h'.bl.get b=some J1->V (.map (some b)) h'):av prog 158 [] h V:=by
 apply X9;rw[ac2];simp(disch:=try exact Y)only[Wz,cT];refine sH (es:=[]) (T.ay _ _ _) (by exact hlo) 1 212 (λh=>rfl) _ ?_;refine sH (T.ay _ _ _) (by exact hlo) 2 213 (λh=>by rw[List.nil_append,findF,if_neg X7];rfl) _ ?_;refine sH (T.ay _ _ _) (by exact hlo) 3 214 (λh=>by rw[List.nil_append,List.singleton_append,findF,if_neg X7,findF,if_neg X7];rfl) _ ?_;exact hk h.nx _ ((((Le.refl h).new _).set (Nat.le_refl _) _).set (Nat.le_refl _) _ |>.set (Nat.le_refl _) _) (T.ay _ _ _)
theorem Vd{β:Type}{fl:β}{h:af}{b:Nat}(g:h.bl.get b=some J1)(k:Int)(f:FuncId)(hk:(k=1/\f=212)\/(k=2/\f=213))(V:X3 β):cq fl prog 3 Value.nilFunc false (.map (some b)) (X8 k) h V=V (.func (.func f) ⟨[]⟩ ⟨[]⟩) h:=by
 unfold cq iP;rw[Qs];simp only[g,J1];rcases hk with⟨rfl,rfl⟩|⟨rfl,rfl⟩
 .rw[findF,if_pos rfl];rfl
 .rw[findF,if_neg X7,findF,if_pos rfl];rfl
section
variable {h:af}{A:WA}{a:TA}{N:Nat}{d:TD}{R:RD}{H X:Int->Int->Int}
theorem Y1(s:WS h A a N d R)(L:Lone d.Ts H X)(hN:N<=1000){i k:Nat}{c:CR}(hi:R.cs[i]? = some (some c))(xF:c.wt=false){b:TB}(hb:d.Ts[k]? = some b)(hst:eN c.a.t c.a.r a.c.S=(k:Int))(hx:c.a.x=X c.a.t c.a.r)(hx0:0<=c.a.x)(hm:pG c.a=true)(h3:c.a.k≠3)(hF:c.a.k=1->H c.a.t c.a.r=0->d.F≠[])(hh:c.a.k=1->H c.a.t c.a.r=0->b.M.length<a.bh)(V:KQ)(hk:∀h' d',WS h' A a (N+1) d' { R with cs:=R.cs.set i (some { c with ph:=3,out:=yd H c.a }) }->Lone d'.Ts (Mk H c.a) X->kW d d' k->WK a h h'->V (.tuple ⟨[]⟩) h'):av prog 106 [UV c.ca] h V:=by
 obtain⟨gc,c1,c2⟩:=b6 s hi;have gc':=gc;unfold cF at gc';have hlo:=s.lo;have hil:=(List.getElem?_eq_some_iff.1 hi).1;unfold pG at hm;rw[Bool.and_eq_true]at hm;have hm:=hm.2
 have fin:∀h' d',WS h' A a (N+1) d' { R with cs:=R.cs.set i (some { c with out:=yd H c.a }) }->Lone d'.Ts (Mk H c.a) X->kW d d' k->WK a h h'->
   av prog 57 [UV c.ca,X8 3,.func (.func 159) ⟨[UV c.ca]⟩ ⟨[]⟩] h' (λ_ h=>V (.tuple ⟨[]⟩) h):=by
  intro h' d' s' L' g' k';have hi':(R.cs.set i (some { c with out:=yd H c.a }))[i]? = some (some { c with out:=yd H c.a }):=by rw[List.getElem?_set,if_pos rfl,if_pos hil]
  obtain⟨wK,_,c3⟩:=b6 s' hi';refine FI { c with out:=yd H c.a } wK c3 3 _ rfl _ ?_;have s4:=WS.jt s' hi' (c':={ c with ph:=3,out:=yd H c.a }) rfl;simp only[List.set_set]at s4;exact hk _ d' s4 L' g' (k'.trans (WS.wJ s' wK (by simp[ki]) X7 _))
 apply X9;rw[LQ];refine⟨λl' h'=>∃d',WS h' A a (N+1) d' { R with cs:=R.cs.set i (some { c with out:=yd H c.a }) }/\Lone d'.Ts (Mk H c.a) X/\kW d d' k/\WK a h h',?_,?_⟩
 .simp(disch:=try exact Y)only[Wz,vT,aN,gc',xF,vS];refine Mp h _ hlo ?_;intro b0 h1 bN g0;have s1:=s.le bN;have k1:=s.OX bN;have Ad:=(bN.get _ c1).trans gc';unfold yd Mk;by_cases ha:c.a.k=1
  .rw[if_pos ha]at hm ⊢;rw[if_pos ha];rw[Bool.and_eq_true,Bool.and_eq_true,decide_eq_true_eq]at hm;simp(disch:=try exact Y)only[Wz,Vd g0 _ _ (.inl ⟨ha,rfl⟩),aN,Ad,List.nil_append,List.append_nil];refine YZ s1 L hN hi hb hst hx hx0 hm.1.1 hm.1.2 (hF ha) (hh ha) _ ?_;intro h2 d2 s2 L2 g2 k2;rw[xF]at s2;exact⟨d2,s2,L2,g2,k1.trans k2⟩
  .rw[if_neg ha,if_neg h3,decide_eq_true_eq]at hm;rw[if_neg ha,if_neg ha];simp(disch:=try exact Y)only[Wz,Vd g0 _ _ (.inr ⟨hm,rfl⟩),aN,Ad,List.nil_append,List.append_nil];refine Y0 s1 L hi hb hst hx _ ?_;intro h2 d2 s2 L2 g2 k2;rw[xF]at s2;exact⟨d2,s2,L2,g2,k1.trans k2⟩
 .rintro l' h' ⟨d',s',L',g',k'⟩;exact fin h' d' s' L' g' k'
theorem Co(s:WS h A a N d R)(L:Lone d.Ts H X)(hN:N<=1000){i k:Nat}{c:CR}(hi:R.cs[i]? = some (some c))(wL:c.ph=2)(hbi:R.bits[i]? = some 0)(xF:c.wt=false){b:TB}(hb:d.Ts[k]? = some b)(hst:eN c.a.t c.a.r a.c.S=(k:Int))(hsk:c.st=(k:Int)){o:Option (Nat × Int)}(hl:R.eO[k]? = some o)(hx:c.a.x=X c.a.t c.a.r)(hx0:0<=c.a.x)(hm:pG c.a=true)(h3:c.a.k≠3)(hF:c.a.k=1->H c.a.t c.a.r=0->d.F≠[])(hh:c.a.k=1->H c.a.t c.a.r=0->b.M.length<a.bh)(V:KQ)(hk:∀h' d',WS h' A a (N+1) d' { R with cs:=R.cs.set i (some { c with ph:=3,out:=yd H c.a }) }->Lone d'.Ts (Mk H c.a) X->kW d d' k->WK a h h'->V (.tuple ⟨[.bool false,X8 0,X8 0]⟩) h'):av prog 15 [UV A.wb,X8 (i:Int)] h V:=by
 have gw:=s.r.gw;have YU:=s.r.gc;have hil:=y8 s hi;have r:(R.cs.map λo=>dF (o.map (·.ca)))[i]? = some (UV c.ca):=kV s hi;obtain⟨gc,c1,c2⟩:=b6 s hi;have hlc:(R.cs.map λo=>dF (o.map (·.ca))).length=A.n:=by rw[List.length_map];exact s.r.lc
 have gc':=gc;unfold cF yZ at gc';rw[wL]at gc';have h1:decide (((2:Nat):Int)=1)=false:=by decide
 apply X9;rw[Hr];simp(disch:=try exact Y)only[Wz,ko,tw];refine nV s hil _ ?_;simp(disch:=try exact Y)only[Wz];refine oT s hi hbi hsk hl _ ?_;rw[wL,h1];simp(disch:=try exact Y)only[Wz,Bool.not_false,Bool.true_or,tu,aN,gw,bB,YU,r,gc',Nat.mul_one,qQ];refine Y1 s L hN hi xF hb hst hx hx0 hm h3 hF hh _ ?_;intro h' d' s' L' g' k';have hi':(R.cs.set i (some { c with ph:=3,out:=yd H c.a }))[i]? = some (some { c with ph:=3,out:=yd H c.a }):=by rw[List.getElem?_set,if_pos rfl,if_pos (by have:=s.r.lc;omega)]
 obtain⟨wB,_,_⟩:=b6 s' hi';unfold cF at wB;simp(disch:=try exact Y)only[Wz,aN,wB];exact hk h' d' s' L' g' k'
end
theorem J2(n:Nat):bx [X8 0] n=Mm (List.replicate n 0):=by
 unfold Mm
 induction n with
 |zero=>rfl
 |succ n ih=>rw[List.replicate_succ,List.map_cons,<-ih];rfl
theorem Cp(n:Nat):bx [Value.pointer none] n=List.replicate n (.pointer none):=by
 induction n with
 |zero=>rfl
 |succ n ih=>rw[List.replicate_succ,<-ih];rfl
theorem uX(v:Value)(n:Nat):(bx [v] n).length=n:=by
 induction n with
 |zero=>rfl
 |succ n ih=>show(v::bx [v] n).length=_;rw[List.length_cons,ih]
theorem J4(n:Nat)(hn:1<=n/\n<=8)(h:af)(V:KQ)(hk:∀h' pb ib,Le h h'->h.nx<=ib->ib<h'.nx->pb<h'.nx->h'.bl.get pb=some (aj [YYY ib n n] 244 false)->h'.bl.get ib=some (aj (Mm (List.replicate n 0)) 3 false)->V (.tuple ⟨[UV pb,X8 0]⟩) h'):av prog 99 [X8 (n:Int)] h V:=by
 apply X9;rw[akw];have hrl:=uX (I 0) n;simp(disch:=try exact Y)only[Wz,d_ (show(1:Int)<=(n:Int)by omega),d_ (show(n:Int)<=8 by omega)];rw[E6 _ _ _ _ _ X1 X1,J2];simp(disch:=try exact Y)only[Wz];exact hk _ _ _ (((Le.refl h).new _).new _) (Nat.le_refl _) (by show h.nx<h.nx+1+1;omega) (by show h.nx+1<h.nx+1+1;omega) (T.ay _ _ _) ((T.aD _ _ X1).trans (T.ay _ _ _))
theorem Mq(n:Nat)(hn:1<=n/\n<=16)(h:af)(V:KQ)(hk:∀h' lb hb,Le h h'->h.nx<=hb->hb<h'.nx->lb<h'.nx->h'.bl.get lb=some (aj [YYY hb n n] 247 false)->h'.bl.get hb=some (aj (List.replicate n (.pointer none)) 251 false)->V (.tuple ⟨[UV lb,X8 0]⟩) h'):av prog 100 [X8 (n:Int)] h V:=by
 apply X9;rw[acq];have hrl:=uX (.pointer none) n;simp(disch:=try exact Y)only[Wz,d_ (show(1:Int)<=(n:Int)by omega),d_ (show(n:Int)<=16 by omega)];rw[E6 _ _ _ _ _ X1 X1,Cp];simp(disch:=try exact Y)only[Wz];exact hk _ _ _ (((Le.refl h).new _).new _) (Nat.le_refl _) (by show h.nx<h.nx+1+1;omega) (by show h.nx+1<h.nx+1+1;omega) (T.ay _ _ _) ((T.aD _ _ X1).trans (T.ay _ _ _))
theorem Mr(h:af)(V:KQ)(hk:V (UV h.nx) ⟨h.nx+1,h.bl.a_ h.nx (aj [X8 0,.slice none 0 0] 200 false),h.lo⟩):av prog 101 [] h V:=by
 apply X9;rw[acr];simp(disch:=try exact Y)only[Wz];exact hk
theorem Ve{h:af}{a:TA}{N:Nat}{d:TD}(s:Dh h a N d)(hB:mK d.B=[]):(∀b∈d.Ts,b.M=[])/\d.F.length=d.B.length:=by
 constructor
 .intro b hb;cases hM:b.M with
  |nil=>rfl
  |cons e M=>
   exfalso;have he:e∈b.M:=by rw[hM];exact .head _
   have ids:=s.ids;rw[hB]at ids;have Dc:=ids.eq_nil;have g:=((s.is.bk b hb).good e he)
   cases hQ:e.Q with
   |nil=>exact g.ne hQ
   |cons p Q=>
    have:p.id∈d.Ts.flatMap λb=>iu b.M:=List.mem_flatMap.2 ⟨b,hb,by
     unfold iu;exact List.mem_flatMap.2 ⟨e,he,List.mem_map.2 ⟨p,by rw[hQ];exact .head _,rfl⟩⟩⟩
    rw[Dc]at this;cases this
 .have:=wz s.is.bu.ok;rw[hB]at this;simpa using this
structure Vf(A:WA)(a:TA)(d:TD)(R:RD)(c:iL)(n:Nat):Prop where
 ec:a.c=c
 en:A.n=n
 hd:(a.bh:Int)=c.H
 em:∀b∈d.Ts,b.M=[]
 f:(d.F.length:Int)=c.R
 cs:R.cs=List.replicate n none
 eO:R.eO=List.replicate c.S.toNat none
 bits:R.bits=List.replicate n 0
 begun:R.begun=0
 now:R.now=0
 tv:R.tv=.slice none 0 0
 ms:a.ms=A.mb::a.bw::d.Ts.map (·.bm)
theorem qY(a:Option Nat):(Value.cells (.map a)).toList=[.map a]:=id rfl
theorem atc(n:Nat)(hn:n<=8)(h:af)(V:KQ)(hk:V (YYY h.nx n n) ⟨h.nx+1,h.bl.a_ h.nx (aj (List.replicate n (.pointer none)) 118 false),h.lo⟩):zN (match Value.int .i64 (n:Int),Value.int .i64 (n:Int)with | .int _ (.ofNat l),.int _ (.ofNat c)=>(match Nat.ble l c,Nat.ble c 1000000 with|true,true=>(aM none (bx [(Value.pointer none)] c) 118 false λo=>some (o,cN l c))|_,_=>none)|_,_=>none) h V:=by
 have e1:Nat.ble n n=true:=by rw[Nat.ble_eq];exact Nat.le_refl _
 have e2:Nat.ble n 1000000=true:=by rw[Nat.ble_eq];omega
 have hl:=uX (.pointer none) n
 show zN (match Nat.ble n n,Nat.ble n 1000000 with|true,true=>(aM none (bx [(Value.pointer none)] n) 118 false λo=>some (o,cN n n))|_,_=>none) h V
 rw[e1,e2];simp only;rw[jK,AS,Cp]
 .exact hk
 .omega
theorem afM(c:iL)(hc:kU c)(n:Nat)(hn:1<=n/\n<=8)(h:af)(hlo:h.lo<=h.nx)(V:KQ)(hk:∀h' A a d R,Vf A a d R c n->WS h' A a 0 d R->Le h h'->(∀x,FB h' a.bp x->h.nx<=x)->V (.tuple ⟨[UV A.wb,X8 0]⟩) h'):av prog 52 [wH c,X8 (n:Int)] h V:=by
 obtain⟨S,hS⟩:∃S:Nat,c.S=(S:Int):=⟨c.S.toNat,by have:=hc.1;omega⟩
 apply X9;rw[aj3];simp(disch:=try exact Y)only[Wz,wH];obtain⟨hA,aY,aU,g1,dI,dJ⟩:=kG h (aj [X8 c.S,X8 c.H,X8 c.R,X8 c.P] 115 false);rw[<-aY];clear aY;refine YM c hA _ X1 ?_ ?_
 .intro h1 e _ hno _;exact absurd hc hno
 intro h1 tb bw bp bl vb bh Ts F _ t1 gbm gbw gbp gbl bN fb1;have n1:=bN.nx;have l1:=bN.lo;have hcS:1<=S/\S<=16:=by have:=hc.1;have:=hc.2.1;omega
 have Cq:=bN.nx;have Cr:=bN.lo;have g1:=(bN.get _ X1).trans g1;simp(disch:=try exact Y)only[Wz,N_];refine J4 n hn h1 _ ?_;intro h2 pb ib bD i1 i2 p2 gp gi;have n2:=bD.nx;have l2:=bD.lo;have mM:=bD.nx;have mN:=bD.lo;have g1:=(bD.get _ X1).trans g1;simp(disch:=try exact Y)only[Wz,NZ,aN,g1,hS];refine Mq S hcS h2 _ ?_;intro h3 lb hb dM j1 j2 q2 gl gh;have n3:=dM.nx;have l3:=dM.lo;simp(disch:=try exact Y)only[Wz];refine atc n hn.2 h3 _ ?_;simp(disch:=try exact Y)only[Wz,ax,cN,cT];obtain⟨h4,e4⟩:∃h4:af,h4=⟨h3.nx+1+1,(h3.bl.a_ h3.nx (aj (List.replicate n (Value.pointer none)) 118 false)).a_ (h3.nx+1) (bP.map [] 0),h3.lo⟩:=⟨_,rfl⟩
 have jP:Le h3 h4:=by rw[e4];exact((Le.refl h3).new _).new _
 have gc4:h4.bl.get h3.nx=some (aj (List.replicate n (Value.pointer none)) 118 false):=by rw[e4];exact(T.aD _ _ X1).trans (T.ay _ _ _)
 have gm4:h4.bl.get (h3.nx+1)=some (bP.map [] 0):=by rw[e4];exact T.ay _ _ _
 have n4:h4.nx=h3.nx+1+1:=by rw[e4]
 have l4:=jP.lo;rw[<-e4];clear e4;refine Mr h4 _ ?_;obtain⟨h5,e5⟩:∃h5:af,h5=⟨h4.nx+1,h4.bl.a_ h4.nx (aj [X8 0,.slice none 0 0] 200 false),h4.lo⟩:=⟨_,rfl⟩
 have uk:Le h4 h5:=by rw[e5];exact(Le.refl h4).new _
 have gk5:h5.bl.get h4.nx=some (aj [X8 0,.slice none 0 0] 200 false):=by rw[e5];exact T.ay _ _ _
 have n5:h5.nx=h4.nx+1:=by rw[e5]
 have l5:=uk.lo;rw[<-e5];clear e5;simp(disch:=try exact Y)only[Wz];rw[m_ _ _ _ _ _ _ _ (by rw[qY];rfl) (Nat.le_of_ble_eq_true rfl),qd];simp(disch:=try exact Y)only[Wz,qY];obtain⟨h6,e6⟩:∃h6:af,h6=⟨h5.nx+1,h5.bl.a_ h5.nx (aj [UV tb,UV lb,UV pb,UV h4.nx,YYY h3.nx n n,.map (some (h3.nx+1)),X8 0] 126 false),h5.lo⟩:=⟨_,rfl⟩
 have OJ:Le h5 h6:=by rw[e6];exact(Le.refl h5).new _
 have gw6:h6.bl.get h5.nx=some (aj [UV tb,UV lb,UV pb,UV h4.nx,YYY h3.nx n n,.map (some (h3.nx+1)),X8 0] 126 false):=by rw[e6];exact T.ay _ _ _
 have n6:h6.nx=h5.nx+1:=by rw[e6]
 have l6:=OJ.lo;have hk:=hk h6 ⟨h5.nx,lb,hb,pb,ib,h4.nx,h3.nx,h3.nx+1,n⟩ ⟨tb,bw,bp,bl,c,vb,bh,(h3.nx+1)::bw::Ts.map (·.bm)⟩ ⟨Ts,[],0,F,List.replicate c.R.toNat false⟩ ⟨List.replicate S none,List.replicate n 0,0,.slice none 0 0,List.replicate n none,[],0,0⟩;have t6:=t1.le (bD.trans (dM.trans (jP.trans (uk.trans OJ))));have afN:=jP.trans (uk.trans OJ);have Y2:=dM.trans afN;have nl:=Ve (a:=⟨tb,bw,bp,bl,c,vb,bh,(h3.nx+1)::bw::Ts.map (·.bm)⟩) (d:=⟨Ts,[],0,F,List.replicate c.R.toNat false⟩) t6 (JP _);have hR:=hc.2.2.2.2.1;have ayM:=t1.is.De;rw[e6]at hk;refine hk ⟨rfl,rfl,t1.cH,nl.1,?_,rfl,?_,rfl,rfl,rfl,rfl,rfl⟩ ?_ (aU.trans (bN.trans (bD.trans (Y2.trans (by rw[e6];exact Le.refl _))))) ?_
 .have:=nl.2;simp only[List.length_replicate]at this
  show(F.length:Int)=c.R
  omega
 .show List.replicate S none=List.replicate c.S.toNat none
  rw[hS];rfl
 .rw[<-e6];have hm1:∀(m:Nat)(f:Option CR->Value),f none=.pointer none->(List.replicate m (none:Option CR)).map f=List.replicate m (.pointer none):=λm f hf=>by rw[List.map_replicate,hf]
  have hm2:∀(m:Nat) (f:Option (Nat × Int)->Value),f none=.pointer none->(List.replicate m (none:Option (Nat × Int))).map f=List.replicate m (.pointer none):=λm f hf=>by rw[List.map_replicate,hf]
  refine⟨t6,⟨⟨by show h5.nx<h6.nx;omega,by show h6.lo<=h5.nx;omega⟩,gw6,by show lb<h6.nx;omega,?_,⟨by show hb<h6.nx;omega,by show h6.lo<=hb;omega⟩,?_,?_,by show pb<h6.nx;omega,?_,⟨by show ib<h6.nx;omega,by show h6.lo<=ib;omega⟩,?_,List.length_replicate ..,⟨by show h4.nx<h6.nx;omega,by show h6.lo<=h4.nx;omega⟩,?_,⟨by show h3.nx<h6.nx;omega,by show h6.lo<=h3.nx;omega⟩,?_,List.length_replicate ..,?_,⟨by show h3.nx+1<h6.nx;omega,by show h6.lo<=h3.nx+1;omega⟩,?_,hn,?_⟩,?_,?_,⟨.head _,.tail _ (.head _),λb hb'=>.tail _ (.tail _ (List.mem_map.2 ⟨b,hb',rfl⟩))⟩,X1⟩
  .simp only[List.length_replicate];exact(afN.get _ q2).trans gl
  .rw[hm2 S _ rfl];exact(afN.get _ j2).trans gh
  .intro p hp;rw[List.mem_replicate]at hp;nomatch hp.2
  .exact(Y2.get _ p2).trans gp
  .exact(Y2.get _ i2).trans gi
  .exact(OJ.get h4.nx X1).trans gk5
  .show h6.bl.get h3.nx=_
   rw[hm1 n _ rfl];exact((uk.trans OJ).get h3.nx X1).trans gc4
  .intro p hp;rw[List.mem_replicate]at hp;nomatch hp.2
  .exact((uk.trans OJ).get (h3.nx+1) X1).trans gm4
  .rw[List.pairwise_replicate];exact .inr λc c' e=>nomatch e
  .show h3.nx+1≠bw;omega
  .intro b hb';have:=(t1.is.bk b hb').jV
   show h3.nx+1≠b.bm;omega
 ·intro x hx;rw[<-e6]at hx;obtain⟨_,_,hb1,_⟩:∃fs ls,bp<h1.nx/\h1.bl.get bp=some (aj [fs,ls] 286 false):=by
   obtain⟨fs,hg,_⟩:=t1.is.bu.fr.cell;exact⟨fs,_,t1.is.bu.fr.lt,hg⟩
  have:=fb1 x ((FB.congr ((bD.trans Y2).get bp hb1)).1 hx);omega
def kK(h:af):Prop:=∀d,(∀vs t o,h.bl.get d≠some (aj vs t o))/\∀es c,h.bl.get d≠some (.map es c)
section
variable {h:af}{A:WA}{a:TA}{N:Nat}{d:TD}{R:RD}
theorem WS.Y3(s:WS h A a N d R){x:Nat}{v:List Value}{t:TypeId}{o:Bool}(hg:h.bl.get x=some (aj v t o))(ht:¬mE t o)(hr:¬ki t o)(ob:bP):WS ⟨h.nx,h.bl.a_ x ob,h.lo⟩ A a N d R:=by
 refine⟨mP.put s.t ob (λvs ty op h1 e=>?_) (dL hg s.t.is.qw) λb hb=>dL hg (s.t.is.bk b hb).g_,s.r.keep (Nat.le_refl _) rfl (λc vs ty op _ h1 e=>T.aD _ _ ?_) (T.aD _ _ (dL hg s.r.gm)),s.mw,s.mm,s.mi,s.lo⟩
 .rw[hg]at e;obtain⟨rfl,rfl⟩:=gV e;exact ht h1
 .rintro rfl;rw[hg]at e;obtain⟨rfl,rfl⟩:=gV e;exact hr h1
end
theorem tG{α:Type}{l:List α}{i:Nat}{x y:α}(h:l[i]? = some y):(l.set i x)[i]? = some x:=by rw[List.getElem?_set,if_pos rfl,if_pos (List.getElem?_eq_some_iff.1 h).1]
theorem Ec{α:Type}{l:List α}{i j:Nat}{x:α}(h:j≠i):(l.set i x)[j]? = l[j]?:=by rw[List.getElem?_set,if_neg (λe=>h e.symm)]
section
variable {h:af}{A:WA}{a:TA}{N:Nat}{d:TD}{R:RD}{H X Hk Gn:Int->Int->Int}
end
section
variable {h:af}{A:WA}{a:TA}{N:Nat}{d:TD}{R:RD}{H X Hk Gn:Int->Int->Int}
end
def Ms:iL:=⟨2,8,24,2⟩
theorem Y4:kU Ms:=by unfold kU Ms;decide
theorem QD(h:af)(V:KQ)(hlo:h.lo<=h.nx)(hk:∀h',Le h h'->V (wH Ms) h'):av prog 53 [] h V:=by
 apply X9;rw[aj4];simp(disch:=try exact Y)only[Wz];exact hk _ ((Le.refl h).new _)
theorem Vf.lone{A:WA}{a:TA}{d:TD}{R:RD}{c:iL}{n:Nat}(nw:Vf A a d R c n)(X:Int->Int->Int):Lone d.Ts (λ_ _=>0) X:=
 ⟨λb hb e he=>(by rw[nw.em b hb]at he;cases he),λt r hH=>absurd rfl hH⟩
theorem Vf.bit{A:WA}{a:TA}{d:TD}{R:RD}{c:iL}{n i:Nat}(nw:Vf A a d R c n)(hi:i<n):R.bits[i]? = some 0:=by
 rw[nw.bits,List.getElem?_replicate,if_pos hi]
theorem Y5{t r:Int}(h:br t r≠-1):∃k:Nat,k<2/\eN t r 2=(k:Int):=by
 unfold eN;rw[if_neg (by rintro(h1|h1|h1)<;>first|omega|exact h h1)];have h1:=Int.tmod_nonneg (a:=x9 (kJ t r)) 2 (uV _).1;have h2:=Int.tmod_lt_of_pos (x9 (kJ t r)) (show(0:Int)<2 by decide);exact⟨((x9 (kJ t r)).tmod 2).toNat,X1,X1⟩
def pH(m:Int):Int:=if m=1\/m=3 then 1 else if m=2\/m=4\/m=5\/m=6 then 2 else 0
theorem Vg{f:FuncId}{F:Int->Value}(h1:∀i,i<7->bR prog 200 f [X8 (.ofNat i)] (F (.ofNat i))=true)(h2:∀(n:Nat),bR prog 200 f [X8 (.negSucc n)] (F (.negSucc n))=true)(h3:∀(n:Nat),bR prog 200 f [X8 (.ofNat (n+7))] (F (.ofNat (n+7)))=true)(a:Int){h:af}{V:KQ}(hk:V (F a) h):av prog f [X8 a] h V:=by
 refine s9 mixed (n:=200) ?_ hk;rcases xQ a with⟨i,hi,rfl⟩|⟨n,rfl⟩|⟨n,rfl⟩
 .exact h1 i hi
 .exact h2 n
 .exact h3 n
theorem Vh(n:Nat):pH (.negSucc n)=0:=by unfold pH;rw[if_neg X1,if_neg X1]
theorem Vi(n:Nat):pH (.ofNat (n+7))=0:=by
 have:(Int.ofNat (n+7))=(n:Int)+7:=rfl;rw[this];unfold pH;rw[if_neg X1,if_neg X1]
theorem afO:∀i,i<7->bR prog 200 180 [X8 (.ofNat i)] (X8 (pH (.ofNat i)))=true:=by decide +kernel
theorem afP(n:Nat):bR prog 200 180 [X8 (.negSucc n)] (X8 0)=true:=by kernel_rfl
theorem afQ(n:Nat):bR prog 200 180 [X8 (.ofNat (n+7))] (X8 0)=true:=by kernel_rfl
theorem J5(a:Int){h:af}{V:KQ}(hk:V (X8 (pH a)) h):av prog 180 [X8 a] h V:=
 Vg (F:=λa=>X8 (pH a)) afO (λn=>by rw[Vh];exact afP n) (λn=>by rw[Vi];exact afQ n) a hk
abbrev N2:=Int × Int
def oU(t r:Int):List N2:=if br t r=1 then[(-1,-1)]else if br t r=2 then[(-1,-1),(t,-1)]else[]
theorem Ae(t r:Int):(oU t r).length<=2:=by unfold oU;split<;>(try split)<;>simp
theorem qz(t r:Int):br t r = -1\/br t r=0\/br t r=1\/br t r=2:=by unfold br;split<;>(try split)<;>(try split)<;>simp
theorem amg{h:af}{V:KQ}(hk:V (dg (-1) (-1)) h):av prog 202 [] h V:=
 s9 mixed (show bR prog 100 202 [] (dg (-1) (-1))=true by kernel_rfl) hk
theorem QE(zs:List Value)(n:Nat):bx zs (n+1)=zs++bx zs n:=id rfl
theorem afR{β:Type}{fl:β}(a:Int)(h:af)(V:X3 β)(ha:0<=a):En fl (X8 a) (X8 0) h V=V (X8 a) h:=by
 unfold En;simp only;rw[iz,bf X1]
theorem atd{β:Type}{fl:β}(h:af)(V:X3 β):En fl (X8 (-1)) (X8 0) h V=V (X8 0) h:=id rfl
theorem Vj{β:Type}{fl:β}(b:Nat)(h:af)(V:X3 β):sliceB fl 28 2 (YYY b 2 2) none (some (X8 0)) none h V=V (YYY b 0 2) h:=by
 unfold sliceB;rfl
theorem afS{β:Type}{fl:β}(b:Nat)(h:af)(V:X3 β):sliceB fl 28 2 (YYY b 2 2) none (some (X8 1)) none h V=V (YYY b 1 2) h:=by
 unfold sliceB;rfl
theorem afT{β:Type}{fl:β}(b:Nat)(h:af)(V:X3 β):sliceB fl 28 2 (YYY b 2 2) none (some (X8 2)) none h V=V (YYY b 2 2) h:=by
 unfold sliceB;rfl
theorem Vk(t r:Int)(h:af)(V:KQ)(hlo:h.lo<=h.nx)(hk:∀v h',Sl jc h' v (oU t r)->k_ 8 v v=true->Le h h'->V v h'):av prog 181 [dg t r] h V:=by
 apply X9;rw[ade];simp(disch:=try exact Y)only[Wz,dg];refine amg ?_;simp(disch:=try exact Y)only[Wz,dg,QE,List.cons_append,List.nil_append];refine lH t r ?_;have hle1:=(Le.refl h).new (aj [X8 t,X8 r] 28 false);have hle2:=hle1.new (aj [X8 (-1),X8 (-1),X8 t,X8 (-1)] 28 false);have hh:∀k,k<=4->Has ((T.a_ (T.a_ h.bl h.nx (aj [X8 t,X8 r] 28 false)) (h.nx+1) (aj [X8 (-1),X8 (-1),X8 t,X8 (-1)] 28 false)).get (h.nx+1)) 0 ([X8 (-1),X8 (-1),X8 t,X8 (-1)].take k):=by
  intro k hk;rw[T.ay];have:=Has.cells (vs:=[X8 (-1),X8 (-1),X8 t,X8 (-1)]) (e:=28) (op:=false) (o:=0) (k:=k) (by simpa using hk);simpa using this
 rcases qz t r with h1|h1|h1|h1
 .simp(disch:=try exact Y)only[Wz,h1,atd,Vj];exact hk _ _ ⟨some ⟨h.nx+1,0,none⟩,2,by simp[oU,h1],λhn=>by simp[oU,h1]at hn⟩ (iS _ _ _ _) hle2
 .simp(disch:=try exact Y)only[Wz,h1,afR,Vj];exact hk _ _ ⟨some ⟨h.nx+1,0,none⟩,2,by simp[oU,h1],λhn=>by simp[oU,h1]at hn⟩ (iS _ _ _ _) hle2
 .simp(disch:=try exact Y)only[Wz,h1,afR,afS];exact hk _ _ ⟨some ⟨h.nx+1,0,none⟩,2,by simp[oU,h1],λ_=>⟨_,0,rfl,Nat.lt_succ_self _,by simpa[oU,h1,jc]using hh 2 X1⟩⟩ (iS _ _ _ _) hle2
 .simp(disch:=try exact Y)only[Wz,h1,afR,afT];exact hk _ _ ⟨some ⟨h.nx+1,0,none⟩,2,by simp[oU,h1],λ_=>⟨_,0,rfl,Nat.lt_succ_self _,by simpa[oU,h1,jc]using hh 4 X1⟩⟩ (iS _ _ _ _) hle2
theorem ldN{h:af}{v:Value}{L:List N2}(hs:Sl jc h v L)(i:Nat){p:N2}(hp:L[i]? = some p):∃b o,b<h.nx/\(∀(β:Type)(fl:β)(h':af)(V:X3 β),aO fl 2 v (X8 (i:Int)) h' V=V (.pointer (some ⟨b,o,none⟩)) h')/\
   ((∀(β:Type)(fl:β)(V:List Value->β),xI fl (h.bl.get b) o 2 V=V (jc p))/\
   (∀(β:Type)(fl:β)(V:Value->β),w8 fl (h.bl.get b) o V=V (X8 p.1))/\
   (∀(β:Type)(fl:β)(V:Value->β),w8 fl (h.bl.get b) (o+1) V=V (X8 p.2))):=by
 obtain⟨b,o,h1,h2,h3,hh⟩:=hs.ld nT i hp;have h4:(jc p).length=2:=rfl;refine⟨b,o,h1,h2,h3,λβ fl V=>?_,λβ fl V=>?_⟩
 .exact eU (fl:=fl) hh 0 V X1
 .exact eU (fl:=fl) hh 1 V X1
abbrev zx(p:L4):Value:=.agg ⟨dn p⟩
theorem ldP{h:af}{v:Value}{L:List L4}(hs:Sl dn h v L)(i:Nat){p:L4}(hp:L[i]? = some p):∃b o,b<h.nx/\(∀(β:Type)(fl:β)(h':af)(V:X3 β),aO fl 4 v (X8 (i:Int)) h' V=V (.pointer (some ⟨b,o,none⟩)) h')/\
   ((∀(β:Type)(fl:β)(V:List Value->β),xI fl (h.bl.get b) o 4 V=V (dn p))/\
   (∀(β:Type)(fl:β)(V:List Value->β),xI fl (h.bl.get b) (o+1) 2 V=V [X8 p.t,X8 p.r])/\
   (∀(β:Type)(fl:β)(V:Value->β),w8 fl (h.bl.get b) o V=V (X8 p.x))/\
   (∀(β:Type)(fl:β)(V:Value->β),w8 fl (h.bl.get b) (o+1) V=V (X8 p.t))/\
   (∀(β:Type)(fl:β)(V:Value->β),w8 fl (h.bl.get b) (o+2) V=V (X8 p.r))/\
   (∀(β:Type)(fl:β)(V:Value->β),w8 fl (h.bl.get b) (o+3) V=V (X8 p.m))):=by
 obtain⟨b,o,h1,h2,h3,hh⟩:=hs.ld dD i hp;have h4:(dn p).length=4:=rfl;refine⟨b,o,h1,h2,h3,λβ fl V=>lD (hh.sub 1 2 X1) 2 V rfl,λβ fl V=>?_,λβ fl V=>?_,λβ fl V=>?_,λβ fl V=>?_⟩
 .exact eU (fl:=fl) hh 0 V X1
 .exact eU (fl:=fl) hh 1 V X1
 .exact eU (fl:=fl) hh 2 V X1
 .exact eU (fl:=fl) hh 3 V X1
def zL:List Value:=[X8 0,X8 0,X8 0,X8 0]
theorem atf:DX prog 43:=⟨λh n c n' c'=>by kernel_rfl,λh a n c n' c'=>by kernel_rfl⟩
theorem Vl(a0 a1:Value)(h:af)(V:KQ):aV prog 253 [a0,a1] h V=fC prog 3 4 a0 a1 h V:=by kernel_rfl
theorem afU(a0:Value)(h:af)(V:KQ):aV prog 76 [a0] h V=vK prog 43 46 4 zL a0 h V:=by kernel_rfl
theorem Vm(a0 a1:Value)(h:af)(V:KQ):aV prog 264 [a0,a1] h V=fm prog 3 253 46 4 zL a0 a1 h V:=by kernel_rfl
theorem Cs(L:List L4)(F:L4->Bool)(h:af)(v fv:Value)(V:KQ)(hv:Sl dn h v L)(hlen:L.length<=1000000)(hF:∀p,p∈L->∀(h1:af)(κ1:Value->af->Prop),Le h h1->(∀h2,Le h1 h2->κ1 (.bool (F p)) h2)->gu prog fv [E1 dn p] h1 κ1)(hk:∀h',Le h h'->V (X8 (gY (L.findIdx? F))) h'):av prog 253 [v,fv] h V:=nO mixed dD Vl L F h v fv V hv hlen hF hk
theorem wP(L:List L4)(h:af)(v:Value)(V:KQ)(hv:Sl dn h v L)(hlen:L.length<=1000000)(hlo:h.lo<=h.nx)(hk:∀v' h',FF h h' v' L->Le h h'->V v' h'):av prog 76 [v] h V:=
 LB mixed dD sG X7 X7 atf afU L h v V hv hlen hlo hk
theorem QF(a h:af)(L:List L4)(F:L4->Bool)(v fv:Value)(V:KQ)(hle:Le a h)(ho:FF a h v L)(hlen:L.length<=100000)(hlo:a.lo<=a.nx)(hF:∀p,∀(h1:af)(κ1:Value->af->Prop),Le a h1->(h.nx<=h1.nx/\∀c,c<h.nx->h.bl.get c≠some (aj (L.flatMap dn) 46 true)->h1.bl.get c=h.bl.get c)->(∀h2,Le h1 h2->κ1 (.bool (F p)) h2)->gu prog fv [E1 dn p] h1 κ1)(hk:∀v' h',Sl dn h' v' (L.filter λp=>!F p)->Cut 46 4 h' v' (L.filter λp=>!F p).length->Le a h'->(h.nx<=h'.nx/\∀c,c<h.nx->h.bl.get c≠some (aj (L.flatMap dn) 46 true)->h'.bl.get c=h.bl.get c)->zQ 46 h' v'->V v' h'):av prog 264 [v,fv] h V:=
 uI mixed dD sG X7 X7 X7 X7 Vl Vm a h L F v fv V hle ho hlen hlo hF hk
end Go.Proofs

namespace Go.Vai
open Go
variable {P:Program}{w:World}
theorem Vn{B:Nat}{C:Array Value}{e:TypeId}(hC:w.heap[B]? = some (.cells C e (0,0)))(o j:Nat):w.cell? ((⟨B,o,none⟩:Addr).add j)=C[o+j]?:=by
 rw[jY];simp[World.cell?,hC]
theorem gj{B o k m n c:Nat}{C:Array Value}{e:TypeId}(hC:w.heap[B]? = some (.cells C e (0,0)))(hle:o+m*k<=C.size):(Builtin.firstCells k m (.slice (some ⟨B,o,none⟩) n c)).run P w=.ok ((C.toList.drop o).take (m*k)).toArray w:=by
 have hlen:((C.toList.drop o).take (m*k)).length=m*k:=by simp;omega
 have:=run_loadCells_list (P:=P) w ⟨B,o,none⟩ ((C.toList.drop o).take (m*k)) λj v hj=>by
  rw[Vn hC];rw[List.getElem?_take]at hj;split at hj
  .simpa[List.getElem?_drop]using hj
  .cases hj
 rw[hlen]at this;exact this
theorem jv{tS e k ty D o dl dc n c:Nat}{a:Option Addr}{l':List Value}{R:Array Value}(hu:P.underlying tS=some (.slice e))(hs:fV P e=some k)(hf:(Builtin.firstCells k (Nat.min n dl) (.slice a n c)).run P w=.ok l'.toArray w)(hR:w.heap[D]? = some (.cells R e (0,0)))(hfit:o+l'.length<=R.size)(hone:∀v∈l',v.oneCell'=true):(Builtin.copy_ #[tS,tS] ty #[.slice (some ⟨D,o,none⟩) dl dc,.slice a n c]).run P w=.ok (goInt (Nat.min n dl)) (w.setRow D (R.toList.take o++l'++R.toList.drop (o+l'.length)).toArray):=by
 have h1:=run_storeCells_at P D o e l' 0 R w hR (by simpa using hfit) hone;simp only[Nat.add_zero]at h1;simp[Builtin.copy_,bg hu,de hs,Builtin.lenOf,hf,h1,goInt]
theorem Mt(L:List Value)(a b N:Nat)(h1:a<=N)(h2:N+b<=L.length):(L.take (a+b)++(L.drop a).take (N-a)++L.drop (N+b)).take a=(L.take N).take a:=by
 rw[List.append_assoc,List.take_append_of_le_length (by simp;omega),List.take_take,List.take_take]
 congr 1;omega
theorem Mu(L:List Value)(a b N:Nat)(h1:a<=N)(h2:N+b<=L.length):(L.take (a+b)++(L.drop a).take (N-a)++L.drop (N+b)).drop (a+b)=(L.take N).drop a++L.drop (N+b):=by
 rw[List.append_assoc,List.drop_left' (by simp;omega),List.drop_take]
end Go.Vai

namespace Go.Proofs
open Go.Shelf Go.RowKit Go.Lib Go.Vai
open Tryz (prog)
set_option maxHeartbeats 4000000 in
set_option maxRecDepth 100000 in
theorem Mv(base:Option Addr)(n c VB vo m vc:Nat)(w:World)(r:Value)(w':World)(hm:0<m)(hle:n<=c)(hr:(Builtin.append_ #[43,43] 43 #[.slice base n c,.slice (some ⟨VB,vo,none⟩) m vc]).run prog w=.ok r w'):Calls prog 255 #[.slice base n c,.int .i64 n,.slice (some ⟨VB,vo,none⟩) m vc] w λe w''=>e=.returned r/\w''=w':=by
 have hz1:¬((m:Int)=0):=by omega
 go_enter Tryz.func255,Tryz.ntmps255
 go_wp2_with (at_builtin;refine Lib.wpList_append_run _ rfl _ _ 43 43 rfl _ _ rfl rfl _ _ hr ?_)
 all_goals go_ret
 all_goals exact⟨rfl,rfl⟩
theorem Ed:prog.underlying 43=some (.slice 46):=Tryz.underlying43
theorem QG:fV prog 46=some 4:=by kernel_rfl
set_option maxHeartbeats 4000000 in
set_option maxRecDepth 100000 in
theorem Mx(B n c i VB vo m vc:Nat)(C VC:Array Value)(e2:TypeId)(new:List Value)(w:World)(hne:B≠VB)(hi:i<n)(hm:0<m)(hroom:n+m<=c)(uZ:n+m<=1000000)(hC:w.heap[B]? = some (.cells C 46 (0,0)))(hV:w.heap[VB]? = some (.cells VC e2 (0,0)))(hcs:c*4<=C.size)(hf:∀w1:World,w1.heap[VB]? = w.heap[VB]?->(Builtin.firstCells 4 m (.slice (some ⟨VB,vo,none⟩) m vc)).run prog w1=.ok new.toArray w1)(hnl:new.length=m*4)(h1v:∀v∈new,v.oneCell'=true)(h1c:∀v∈C.toList.take (n*4),v.oneCell'=true):Calls prog 255 #[.slice (some ⟨B,0,none⟩) n c,.int .i64 i,.slice (some ⟨VB,vo,none⟩) m vc] w λe w''=>e=.returned (.slice (some ⟨B,0,none⟩) (n+m) c)/\
   ∃d,w.drawn<=d/\w''={ w.setRow B (((C.toList.take (n*4)).take (i*4)++new++(C.toList.take (n*4)).drop (i*4))++C.toList.drop ((n+m)*4)).toArray with drawn:=d }:=by
 have mixed:=mixed;have hz1:¬((m:Int)=0):=by omega
 have Az:¬((i:Int)=(n:Int)):=by omega
 have hw1:IntKind.i64.wrap ((i:Int)+(m:Int))=(i:Int)+(m:Int):=by rw[IntKind.wrap_i64];omega
 have hw2:IntKind.i64.wrap ((n:Int)+(m:Int))=(n:Int)+(m:Int):=by rw[IntKind.wrap_i64];omega
 have hb1:(0:Int)<=(i:Int)+(m:Int):=by omega
 have hin:i<=n:=by omega
 have htn:((i:Int)+(m:Int)).toNat=i+m:=by omega
 have hb2:¬(c=i+m):=by omega
 have hb3:(i:Int)<=(n:Int)+(m:Int):=by omega
 have hb4:¬(c=i):=by omega
 have hB:C.size≠0:=by omega
 have ayP:∀j,w.frozen? ⟨B,j,none⟩=false:=λj=>by simp[World.frozen?,hC]
 have amh:∀j,w.frozen? ⟨VB,j,none⟩=false:=λj=>by simp[World.frozen?,hV]
 have E3:∀lb cb,(callFunc 326 #[.slice (some ⟨VB,vo,none⟩) m vc,.slice (some ⟨B,(i+m)*4,none⟩) lb cb]).run prog w=.ok (.value (.bool false)) w:=λlb cb=>by
  rw[run_callFunc_extern Tryz.func326 (by kernel_rfl) (by kernel_rfl) (by kernel_rfl) (e:=Extern.SlicesOverlaps.overlaps #[43,43] #[4]) (by kernel_rfl),
   Lib.run_overlaps_apart w 43 4 46 Ed 4 (λw=>de QG) ⟨VB,vo,none⟩ ⟨B,(i+m)*4,none⟩ m vc lb cb (λe=>hne e.symm) e2 46 VC.size C.size (by simp[World.shape?,hV]) (by simp[World.shape?,hC]) hB (amh _) (amh _)]
  rfl
 have hnc:(n+m)*4<=C.size:=by omega
 have hCd:w.drew.heap[B]? = some (.cells C 46 (0,0)):=hC;have rJ:((C.toList.drop (i*4)).take ((n-i)*4)).length=(n-i)*4:=by simp;omega
 have afV:∀ty dc sc,(Builtin.copy_ #[43,43] ty #[.slice (some ⟨B,(i+m)*4,none⟩) (n+m-(i+m)) dc,.slice (some ⟨B,i*4,none⟩) (n+m-i) sc]).run prog w.drew=.ok (goInt ((n-i:Nat))) (w.drew.setRow B (C.toList.take ((i+m)*4)++(C.toList.drop (i*4)).take ((n-i)*4)++C.toList.drop ((n+m)*4)).toArray):=λty dc sc=>by
  have hmin:Nat.min (n+m-i) (n+m-(i+m))=n-i:=by simp only[Nat.min_def];split<;>omega
  have h:=jv (P:=prog) (w:=w.drew) (ty:=ty) (D:=B) (o:=(i+m)*4) (dl:=n+m-(i+m)) (dc:=dc) (n:=n+m-i) (c:=sc) (a:=some ⟨B,i*4,none⟩) (l':=(C.toList.drop (i*4)).take ((n-i)*4)) Ed QG
   (by rw[hmin];exact gj hCd (by omega)) hCd (by rw[rJ];omega) (λv hv=>h1c v (by
    rw[List.mem_iff_getElem?]at hv ⊢;obtain⟨j,hj⟩:=hv;rw[List.getElem?_take]at hj;split at hj
    .rw[List.getElem?_drop]at hj;exact⟨i*4+j,by rw[List.getElem?_take_of_lt (by omega)];exact hj⟩
    .cases hj))
  rw[hmin,rJ,show(i+m)*4+(n-i)*4=(n+m)*4 by omega]at h;exact h
 obtain⟨R1,WV⟩:∃R1:Array Value,R1=(C.toList.take ((i+m)*4)++(C.toList.drop (i*4)).take ((n-i)*4)++C.toList.drop ((n+m)*4)).toArray:=⟨_,rfl⟩
 rw[<-WV]at afV;have ath:R1.size=C.size:=by rw[WV];simp;omega
 obtain⟨W1,hW1⟩:∃W1,W1=w.drew.setRow B R1:=⟨_,rfl⟩
 obtain⟨R2,hR2⟩:∃R2:Array Value,R2=(((C.toList.take (n*4)).take (i*4)++new++(C.toList.take (n*4)).drop (i*4))++C.toList.drop ((n+m)*4)).toArray:=⟨_,rfl⟩
 have ati:W1.heap[B]? = some (.cells R1 46 (0,0)):=by rw[hW1];exact setRow_heap w.drew B C R1 46 (0,0) hCd
 have atj:W1.heap[VB]? = w.heap[VB]?:=by rw[hW1];exact setRow_other w.drew B VB R1 (λe=>hne e.symm)
 have atk:∀(W:World),W.heap=W1.heap->∀ty dc,(Builtin.copy_ #[43,43] ty #[.slice (some ⟨B,i*4,none⟩) (n+m-i) dc,.slice (some ⟨VB,vo,none⟩) m vc]).run prog W=.ok (goInt m) (W.setRow B R2):=λW hW ty dc=>by
  have hmin:Nat.min m (n+m-i)=m:=by simp only[Nat.min_def];split<;>omega
  have h:=jv (P:=prog) (w:=W) (ty:=ty) (D:=B) (o:=i*4) (dl:=n+m-i) (dc:=dc) (n:=m) (c:=vc) (a:=some ⟨VB,vo,none⟩) (l':=new) Ed QG
   (by rw[hmin];exact hf W (by rw[hW];exact atj)) (by rw[hW];exact ati) (by rw[hnl];omega) h1v
  rw[hmin]at h;have hrow:(R1.toList.take (i*4)++new++R1.toList.drop (i*4+new.length)).toArray=R2:=by
   rw[hR2,WV,hnl];have e1:=Mt C.toList (i*4) (m*4) (n*4) (by omega) (by simp;omega);have e2:=Mu C.toList (i*4) (m*4) (n*4) (by omega) (by simp;omega);rw[<-Nat.add_mul,<-Nat.add_mul,<-Nat.sub_mul]at e1 e2;rw[List.toList_toArray,e1,<-Nat.add_mul,e2,List.append_assoc,List.append_assoc,List.append_assoc]
  rw[hrow]at h;exact h
 rw[<-hW1]at afV;rw[<-hR2]
 go_enter Tryz.func255,Tryz.ntmps255
 go_wp2_with (simp only[E3])
 go_region_law_o (refine step_copy_runI rfl _ _ 43 43 rfl _ _ (by simp[Act.eval,Act.put]) (by simp[Act.eval,Act.put]) (afV _ _ _) ?_)
 go_wp2_with (at_builtin;refine wpList_copy_runI _ rfl _ _ 43 43 rfl _ _ rfl rfl (atk _ rfl _ _) ?_)
 go_ret
 refine⟨rfl,w.drawn+1,Nat.le_succ _,?_⟩;rw[setRow_setRow,hR2];simp only[List.append_assoc];rfl
end Go.Proofs

namespace Go.Proofs
open Go.Shelf Go.RowKit Go.Lib Go.Vai
open Tryz (prog)
theorem QH(C Z R new:List Value)(a b N:Nat)(h1:a<=N)(h2:N<=C.length)(hn:new.length=b)(hz:Z.length=N+b-a):(((C.take a++Z++R).take a++new++(C.take a++Z++R).drop (a+b)).take (a+b)++(C.drop a).take (N-a)++((C.take a++Z++R).take a++new++(C.take a++Z++R).drop (a+b)).drop (N+b)) =
   ((C.take N).take a++new++(C.take N).drop a)++R:=by
 have la:(C.take a).length=a:=by simp;omega
 have e1:(C.take a++Z++R).take a=C.take a:=by rw[List.append_assoc,List.take_append_of_le_length (by omega),List.take_take];congr 1;omega
 have e2:(C.take N).take a=C.take a:=by rw[List.take_take];congr 1;omega
 have e3:(C.take N).drop a=(C.drop a).take (N-a):=by rw[List.drop_take]
 have l2:(C.take a++new).length=a+b:=by simp;omega
 have e4:(C.take a++new++(C.take a++Z++R).drop (a+b)).take (a+b)=C.take a++new:=List.take_left' l2;have e5:(C.take a++new++(C.take a++Z++R).drop (a+b)).drop (N+b)=R:=by
  have hs:N+b=(a+b)+(N-a):=by omega
  rw[hs,<-List.drop_drop,List.drop_left' l2,List.drop_drop];exact List.drop_left' (by simp;omega)
 rw[e1,e4,e5,e2,e3]
set_option maxHeartbeats 4000000 in
set_option maxRecDepth 100000 in
theorem Ct(B n c i VB vo m vc G N:Nat)(R1 R2:Array Value)(w W1:World)(hi:i<n)(hm:0<m)(hnc:n<=c)(hroom:c<n+m)(uZ:n+m<=1000000)(hG1:n+m<=G)(hrz:(Builtin.append_ #[43,3] 43 #[.slice (some ⟨B,0,none⟩) i c,.int .i64 ((n:Int)+(m:Int)-(i:Int))]).run prog w=.ok (.slice (some ⟨N,0,none⟩) (n+m) G) W1)(afW:∀(W:World),W.heap=W1.heap->∀ty dc,(Builtin.copy_ #[43,43] ty #[.slice (some ⟨N,i*4,none⟩) (n+m-i) dc,.slice (some ⟨VB,vo,none⟩) m vc]).run prog W=.ok (goInt m) (W.setRow N R1))(afX:∀(W:World),W.heap=(W1.setRow N R1).heap->∀ty dc sc,(Builtin.copy_ #[43,43] ty #[.slice (some ⟨N,(i+m)*4,none⟩) (n+m-(i+m)) dc,.slice (some ⟨B,i*4,none⟩) (n-i) sc]).run prog W=.ok (goInt ((n-i:Nat))) (W.setRow N R2)):Calls prog 255 #[.slice (some ⟨B,0,none⟩) n c,.int .i64 i,.slice (some ⟨VB,vo,none⟩) m vc] w λe' w''=>
   e'=.returned (.slice (some ⟨N,0,none⟩) (n+m) G)/\w''=(W1.setRow N R1).drew.setRow N R2:=by
 have mixed:=mixed;have hz1:¬((m:Int)=0):=by omega
 have Az:¬((i:Int)=(n:Int)):=by omega
 have RY:(c:Int)<(n:Int)+(m:Int):=by omega
 have hGi:¬(G=i):=by omega
 have ayQ:¬(G=i+m):=by omega
 have hci:¬(c=i):=by omega
 have hw1:IntKind.i64.wrap ((i:Int)+(m:Int))=(i:Int)+(m:Int):=by rw[IntKind.wrap_i64];omega
 have hw2:IntKind.i64.wrap ((n:Int)+(m:Int))=(n:Int)+(m:Int):=by rw[IntKind.wrap_i64];omega
 have hw3:IntKind.i64.wrap ((n:Int)+(m:Int)-(i:Int))=(n:Int)+(m:Int)-(i:Int):=by rw[IntKind.wrap_i64];omega
 have hb1:(0:Int)<=(i:Int)+(m:Int):=by omega
 have hin:i<=n:=by omega
 have ayR:i<=c:=by omega
 have htn:((i:Int)+(m:Int)).toNat=i+m:=by omega
 have hb3:(i:Int)<=(n:Int):=by omega
 go_enter Tryz.func255,Tryz.ntmps255
 go_wp2_with (first
  |(at_builtin;refine Lib.wpList_append_run _ rfl _ _ 43 3 rfl _ _ rfl rfl _ _ hrz ?_)
  |(at_builtin;refine wpList_copy_runI _ rfl _ _ 43 43 rfl _ _ rfl rfl (afW _ rfl _ _) ?_))
 go_region_law_o (refine step_copy_runI rfl _ _ 43 43 rfl (.slice (some ⟨N,(i+m)*4,none⟩) (n+m-(i+m)) (G-(i+m))) (.slice (some ⟨B,i*4,none⟩) (n-i) (c-i)) (by simp[Act.eval,Act.put]) (by simp[Act.eval,Act.put]) (afX (W1.setRow N R1).drew rfl 3 (G-(i+m)) (c-i)) ?_)
 go_wp2
 go_ret
 exact⟨rfl,rfl⟩
set_option maxHeartbeats 4000000 in
set_option maxRecDepth 100000 in
theorem QI(B n c i VB vo m vc:Nat)(C VC:Array Value)(e2:TypeId)(new:List Value)(w:World)(hne:B≠VB)(hi:i<n)(hm:0<m)(hnc:n<=c)(hroom:c<n+m)(uZ:n+m<=1000000)(hC:w.heap[B]? = some (.cells C 46 (0,0)))(hV:w.heap[VB]? = some (.cells VC e2 (0,0)))(hcs:n*4<=C.size)(hf:∀w1:World,w1.heap[VB]? = w.heap[VB]?->(Builtin.firstCells 4 m (.slice (some ⟨VB,vo,none⟩) m vc)).run prog w1=.ok new.toArray w1)(hnl:new.length=m*4)(h1v:∀v∈new,v.oneCell'=true)(h1c:∀v∈C.toList.take (n*4),v.oneCell'=true){inf:TypeInfo}{z:Value}(Y6:prog.info? 46=some inf)(hz:inf.zero=some z)(hzc:z.cells.size=4)(hby:inf.bytes<=10000)(h3:prog.underlying 3=some (.int .i64)):Calls prog 255 #[.slice (some ⟨B,0,none⟩) n c,.int .i64 i,.slice (some ⟨VB,vo,none⟩) m vc] w λe' w''=>∃dQ rest d,w.drawn<=d/\n+m<=dQ/\rest.length=(dQ-(n+m))*4/\
   e'=.returned (.slice (some ⟨w.heap.size,0,none⟩) (n+m) dQ)/\
   w''={ w.alloc (.cells (((C.toList.take (n*4)).take (i*4)++new++(C.toList.take (n*4)).drop (i*4))++rest).toArray 46 (0,0))with drawn:=d }:=by
 have mixed:=mixed;have hz1:¬((m:Int)=0):=by omega
 have Az:¬((i:Int)=(n:Int)):=by omega
 have RY:(c:Int)<(n:Int)+(m:Int):=by omega
 have hkk:(n:Int)+(m:Int)-(i:Int)=((n+m-i:Nat):Int):=by omega
 have hik:i+(n+m-i)=n+m:=by omega
 have hzs:(Builtin.zeroCells z.cells (n+m-i)).size=(n+m-i)*4:=by rw[size_zeroCells,hzc]
 obtain⟨G,rest,hG1,hrl,hrz⟩:=pZ (P:=prog) (w:=w) (e:=46) (size:=4) (n:=n+m-i) (sLen:=i) (sCap:=c) (ty:=43) (ts:=#[43,3]) (base:=some ⟨B,0,none⟩) (x':=.int .i64 ((n+m-i:Nat):Int))
  (new':=(Builtin.zeroCells z.cells (n+m-i)).toList) (old':=C.toList.take (i*4)) (t:=43) rfl Ed QG Y6 hz hby
  (.mk (k':=.i64) (inf:=inf) (v:=z) rfl h3 (by omega) Y6 hz hby (by simp) (by intro h;omega)) (by omega) (by omega)
  (λw1 hw1=>by
   have:=gj (P:=prog) (w:=w1) (B:=B) (o:=0) (k:=4) (m:=i) (n:=i) (c:=c) (C:=C) (e:=46) (by rw[hw1];exact hC) (by omega);simpa using this)
 rw[hik,hzc]at hrl;rw[hik]at hG1 hrz;rw[<-hkk]at hrz;obtain⟨Z,hZ⟩:∃Z,Z=(Builtin.zeroCells z.cells (n+m-i)).toList:=⟨_,rfl⟩
 have hZl:Z.length=(n+m-i)*4:=by rw[hZ];simpa using hzs
 rw[<-hZ]at hrz;obtain⟨Y7,afY⟩:∃Y7:Array Value,Y7=(C.toList.take (i*4)++Z++rest).toArray:=⟨_,rfl⟩
 rw[<-afY]at hrz;have hRs:(n+m)*4<=Y7.size:=by rw[afY];simp[hZl];omega
 obtain⟨W1,hW1⟩:∃W1,W1=w.drew.alloc (.cells Y7 46 (0,0)):=⟨_,rfl⟩
 rw[<-hW1]at hrz;have hBl:B<w.heap.size:=(Array.getElem?_eq_some_iff.mp hC).1;have hVl:VB<w.heap.size:=(Array.getElem?_eq_some_iff.mp hV).1;have ami:W1.heap[w.heap.size]? = some (.cells Y7 46 (0,0)):=by rw[hW1];show(w.heap.push _)[w.heap.size]? = _;simp
 have amj:∀k,k<w.heap.size->W1.heap[k]? = w.heap[k]?:=λk hk=>by rw[hW1];exact fh (w:=w.drew) hk
 obtain⟨R1,WV⟩:∃R1:Array Value,R1=(Y7.toList.take (i*4)++new++Y7.toList.drop (i*4+m*4)).toArray:=⟨_,rfl⟩
 have ath:R1.size=Y7.size:=by rw[WV];simp[hnl];omega
 have rJ:((C.toList.drop (i*4)).take ((n-i)*4)).length=(n-i)*4:=by simp;omega
 obtain⟨R2,hR2⟩:∃R2:Array Value,R2=(R1.toList.take ((i+m)*4)++(C.toList.drop (i*4)).take ((n-i)*4)++R1.toList.drop ((n+m)*4)).toArray:=⟨_,rfl⟩
 have afW:∀(W:World),W.heap=W1.heap->∀ty dc,(Builtin.copy_ #[43,43] ty #[.slice (some ⟨w.heap.size,i*4,none⟩) (n+m-i) dc,.slice (some ⟨VB,vo,none⟩) m vc]).run prog W=.ok (goInt m) (W.setRow w.heap.size R1):=λW hW ty dc=>by
  have hmin:Nat.min m (n+m-i)=m:=by simp only[Nat.min_def];split<;>omega
  have h:=jv (P:=prog) (w:=W) (ty:=ty) (D:=w.heap.size) (o:=i*4) (dl:=n+m-i) (dc:=dc) (n:=m) (c:=vc) (a:=some ⟨VB,vo,none⟩) (l':=new) Ed QG
   (by rw[hmin];exact hf W (by rw[hW];exact amj VB hVl)) (by rw[hW];exact ami) (by rw[hnl];omega) h1v
  rw[hmin,hnl,<-WV]at h;exact h
 have afX:∀(W:World),W.heap=(W1.setRow w.heap.size R1).heap->∀ty dc sc,(Builtin.copy_ #[43,43] ty #[.slice (some ⟨w.heap.size,(i+m)*4,none⟩) (n+m-(i+m)) dc,.slice (some ⟨B,i*4,none⟩) (n-i) sc]).run prog W=.ok (goInt ((n-i:Nat))) (W.setRow w.heap.size R2):=λW hW ty dc sc=>by
  have hmin:Nat.min (n-i) (n+m-(i+m))=n-i:=by simp only[Nat.min_def];split<;>omega
  have hWB:W.heap[B]? = some (.cells C 46 (0,0)):=by rw[hW,setRow_other W1 w.heap.size B R1 (by omega),amj B hBl];exact hC
  have hWN:W.heap[w.heap.size]? = some (.cells R1 46 (0,0)):=by rw[hW];exact setRow_heap W1 w.heap.size Y7 R1 46 (0,0) ami
  have h:=jv (P:=prog) (w:=W) (ty:=ty) (D:=w.heap.size) (o:=(i+m)*4) (dl:=n+m-(i+m)) (dc:=dc) (n:=n-i) (c:=sc) (a:=some ⟨B,i*4,none⟩) (l':=(C.toList.drop (i*4)).take ((n-i)*4)) Ed QG
   (by rw[hmin];exact gj hWB (by omega)) hWN (by rw[rJ];omega) (λv hv=>h1c v (by
    rw[List.mem_iff_getElem?]at hv ⊢;obtain⟨j,hj⟩:=hv;rw[List.getElem?_take]at hj;split at hj
    .rw[List.getElem?_drop]at hj;exact⟨i*4+j,by rw[List.getElem?_take_of_lt (by omega)];exact hj⟩
    .cases hj))
  rw[hmin,rJ,show(i+m)*4+(n-i)*4=(n+m)*4 by omega,<-hR2]at h;exact h
 refine(Ct B n c i VB vo m vc G w.heap.size R1 R2 w W1 hi hm hnc hroom uZ hG1 hrz afW afX).mono ?_;rintro e' w'' ⟨rfl,rfl⟩;refine⟨G,rest,w.drawn+2,Nat.le_add_right _ _,hG1,hrl,rfl,?_⟩;have atl:R2=(((C.toList.take (n*4)).take (i*4)++new++(C.toList.take (n*4)).drop (i*4))++rest).toArray:=by
  rw[hR2,WV,afY]
  congr 1
  have:=QH C.toList Z rest new (i*4) (m*4) (n*4) (by omega) (by simpa using hcs) hnl (by rw[hZl];omega);rw[<-Nat.sub_mul,<-Nat.add_mul,<-Nat.add_mul]at this;rw[<-Nat.add_mul];exact this
 rw[hW1,atl];have ed:∀(X:World)(g:Nat)(R:Array Value),X.drew.setRow g R=(X.setRow g R).drew:=λ_ _ _=>rfl;have ea:∀(A R:Array Value),(w.drew.alloc (.cells A 46 (0,0))).setRow w.heap.size R=w.drew.alloc (.cells R 46 (0,0)):=λA R=>World.setRow_alloc_new w.drew A R 46;rw[ed,setRow_setRow,ea];rfl
end Go.Proofs

namespace Go.Vai
open Go
variable {β:Type}{fl:β}{good:β->Prop}{P:Program}{φ:ff}{h:af}{w:World}
def FJ(fl:β)(e size:Nat)(base:Option Addr)(n cap i vb vo m vc:Nat)(h:af)(V:X3 β):β:=
 match Nat.ble (i+1) n,Nat.ble cap 1000000000 && Nat.ble (cap+1) (n+(m+1)),base with
 |true,true,some ⟨b,0,none⟩=>match Nat.beq vb b,h.bl.get b,h.bl.get vb with
  |false,some (.cells _ _ e' _),some (.cells ..)=>match Nat.beq e' e,Nat.ble (n+(m+1)) 1000000 with
   | true,true=>fe fl h size n (.slice (some ⟨b,0,none⟩) n cap) λold=>fe fl h size (m+1) (.slice (some ⟨vb,vo,none⟩) (m+1) vc) λnew=>
     match old.all ef && new.all ef with
     |true=>dV fl (old.take (i*size)++new++old.drop (i*size)) e true h λnb h=>V (.slice (some ⟨nb,0,none⟩) (n+(m+1)) aZ) h
     |false=>fl
   |_,_=>fl
  |_,_,_=>fl
 |_,_,_=>fl
def tH(fl:β)(e size:Nat)(z:List Value)(args:List Value)(h:af)(V:X3 β):β:=
 match args with
 | [.slice base n cap,.int .i64 (.ofNat i),.slice (some ⟨vb,vo,none⟩) (m+1) vc]=>
  match Nat.beq i n with
  |true=>cg fl e size z false (.slice base n cap) (.slice (some ⟨vb,vo,none⟩) (m+1) vc) h V
  |false=>match Nat.beq cap aZ with
   |false=>FJ fl e size base n cap i vb vo m vc h V
   |true=>match Nat.ble (i+1) n,Nat.beq cap aZ,base with
    |true,true,some ⟨b,0,none⟩=>match Nat.beq vb b,h.bl.get b,h.bl.get vb with
     |false,some (.cells nn _ e' true),some (.cells ..)=>match Nat.beq e' e,Nat.ble (n+(m+1)) 1000000 with
      | true,true=>fe fl h size n (.slice base n cap) λold=>fe fl h size (m+1) (.slice (some ⟨vb,vo,none⟩) (m+1) vc) λnew=>
        match old.all ef && new.all ef with
        |true=>setBlock fl b (.dead nn e) h λh=>dV fl (old.take (i*size)++new++old.drop (i*size)) e true h λnb h=>V (.slice (some ⟨nb,0,none⟩) (n+(m+1)) aZ) h
        |false=>fl
      |_,_=>fl
     |_,_,_=>fl
    |_,_,_=>fl
 |_=>fl
structure Cu(P:Program)(f:FuncId)(tS e k:Nat):Prop where
 enters:∀(args:Array Value)(w:World),(callFunc f args).run P w=.ok (.enter f args) w
 atEnd:∀(base:Option Addr)(n c VB vo m vc:Nat)(w:World)(r:Value)(w':World),0<m->n<=c->
  (Builtin.append_ #[tS,tS] tS #[.slice base n c,.slice (some ⟨VB,vo,none⟩) m vc]).run P w=.ok r w'->
  Calls P f #[.slice base n c,.int .i64 n,.slice (some ⟨VB,vo,none⟩) m vc] w λe w''=>e=.returned r/\w''=w'
 shift:∀(B n c i VB vo m vc:Nat)(C VC:Array Value)(e2:TypeId)(new:List Value)(w:World),B≠VB->i<n->0<m->n+m<=c->n+m<=1000000->
  w.heap[B]? = some (.cells C e (0,0))->w.heap[VB]? = some (.cells VC e2 (0,0))->c*k<=C.size->(∀w1:World,w1.heap[VB]? = w.heap[VB]?->(Builtin.firstCells k m (.slice (some ⟨VB,vo,none⟩) m vc)).run P w1=.ok new.toArray w1)->
  new.length=m*k->(∀v∈new,v.oneCell'=true)->(∀v∈C.toList.take (n*k),v.oneCell'=true)->
  Calls P f #[.slice (some ⟨B,0,none⟩) n c,.int .i64 i,.slice (some ⟨VB,vo,none⟩) m vc] w λe w''=>e=.returned (.slice (some ⟨B,0,none⟩) (n+m) c)/\
   ∃d,w.drawn<=d/\w''={ w.setRow B (((C.toList.take (n*k)).take (i*k)++new++(C.toList.take (n*k)).drop (i*k))++C.toList.drop ((n+m)*k)).toArray with drawn:=d }
 grow:∀(B n c i VB vo m vc:Nat)(C VC:Array Value)(e2:TypeId)(new:List Value)(w:World),B≠VB->i<n->0<m->n<=c->c<n+m->n+m<=1000000->
  w.heap[B]? = some (.cells C e (0,0))->w.heap[VB]? = some (.cells VC e2 (0,0))->n*k<=C.size->(∀w1:World,w1.heap[VB]? = w.heap[VB]?->(Builtin.firstCells k m (.slice (some ⟨VB,vo,none⟩) m vc)).run P w1=.ok new.toArray w1)->
  new.length=m*k->(∀v∈new,v.oneCell'=true)->(∀v∈C.toList.take (n*k),v.oneCell'=true)->
  Calls P f #[.slice (some ⟨B,0,none⟩) n c,.int .i64 i,.slice (some ⟨VB,vo,none⟩) m vc] w λe' w''=>∃dQ rest d,w.drawn<=d/\n+m<=dQ/\rest.length=(dQ-(n+m))*k/\
   e'=.returned (.slice (some ⟨w.heap.size,0,none⟩) (n+m) dQ)/\
   w''={ w.alloc (.cells (((C.toList.take (n*k)).take (i*k)++new++(C.toList.take (n*k)).drop (i*k))++rest).toArray e (0,0))with drawn:=d }
set_option maxHeartbeats 2000000 in
set_option maxRecDepth 100000 in
theorem Dk(hfl:¬good fl){f tS e size:Nat}{z:List Value}(hI:Cu P f tS e size)(hz:RE P e=some (z,size))(hr:HR P φ h w){base base':Option Addr}{n cap cap' i vb vo m vc QK:Nat}{Dl:Pl}(hs:VR φ (.slice base n cap) (.slice base' n cap'))(hpv:φ vb=some Dl)(hv:VR φ (.slice (some ⟨vb,vo,none⟩) (m+1) vc) (.slice (some ⟨Dl.B,vo,none⟩) (m+1) QK)){V:X3 β}(hg:good (FJ fl e size base n cap i vb vo m vc h V)):xA good P φ h w V f #[.slice base' n cap',.int .i64 (.ofNat i),.slice (some ⟨Dl.B,vo,none⟩) (m+1) QK]:=by
 obtain⟨hz1,Az,RY,Pu⟩:=mY hz;unfold FJ at hg;split at hg<;>try cases hfl hg
 rename_i b hlt KG;simp only[Bool.and_eq_true]at KG;have hlt:i<n:=di hlt;have hc1:cap<=1000000000:=di KG.1;have hc2:cap<n+(m+1):=di KG.2;obtain⟨pl,hp,rfl,rfl,hle⟩:∃pl,φ b=some pl/\cap'=cap/\base'=some ⟨pl.B,0,none⟩/\n<=cap:=by
  cases hs with
  |slice hp hn hc=>exact⟨_,hp,rfl,rfl,hn⟩
  |cw hp hn hc=>exact absurd hc1 X7
  |dB=>exact absurd hc1 X7
 split at hg<;>try cases hfl hg
 rename_i nn cc e' op nv cv ev opv hne hb hvb;have hne:=pU hne;split at hg<;>try cases hfl hg
 rename_i hee uZ;have hee:=cU hee;subst hee;have uZ:n+(m+1)<=1000000:=di uZ;obtain⟨C,hC,zi,hn2,Xg,hcell⟩:=hr.rowAt hb hp;obtain⟨VC,hVC,hv1,_,_,_⟩:=hr.rowAt hvb hpv;have Y8:pl.B≠Dl.B:=λhB=>hne (hr.inj b vb _ _ pl Dl hb hvb trivial trivial hp hpv hB).symm;obtain⟨old,k1,k3,k5,k6⟩:=j7 hfl hb hg;obtain⟨new,new',n1,n2,n3,n4⟩:=gT hfl hr k1 hv ⟨_,_,_,rfl,Nat.le_refl _⟩;split at n1<;>try exact absurd n1 hfl
 rename_i vA;simp only[Bool.and_eq_true]at vA;unfold dV at n1;obtain⟨m1,m2⟩:=lS hfl n1;obtain⟨m3,m4⟩:=dS hfl m2;have hnn:n*size<=nn:=by
  have:=k5 (by intro hnil;rw[hnil]at k3;simp at k3;rcases k3.symm with h0;have:0<n*size:=Nat.mul_pos X1 Pu;omega);omega
 have CP:n*size<=C.size:=Nat.le_trans hnn zi;have hold:F2 (VR φ) old (C.toList.take (n*size)):=by
  refine F2.nF (by simp;omega) λj v v' e1 e2=>?_;have hj:j<n*size:=by rw[<-k3];exact(List.getElem?_eq_some_iff.mp e1).1
  have h1:=k6 j v e1;rw[Nat.zero_add]at h1;obtain⟨v2,h2,h3⟩:=hcell j v h1 X1;rw[List.getElem?_take_of_lt hj]at e2;rw[Array.getElem?_toList,h2]at e2;cases e2;exact h3
 have hmid:F2 (VR φ) (old.take (i*size)++new++old.drop (i*size)) ((C.toList.take (n*size)).take (i*size)++new'++(C.toList.take (n*size)).drop (i*size)):=
  ((hold.take _).append n2).append (hold.drop _)
 have h1v:=vz n2 vA.2;have h1c:=vz hold vA.1;have hnl:new'.length=(m+1)*size:=by rw[<-n2.length,n3]
 have OY:((C.toList.take (n*size)).take (i*size)++new'++(C.toList.take (n*size)).drop (i*size)).length=(n+(m+1))*size:=by
  have hin:i*size<=n*size:=Nat.mul_le_mul_right _ X1;rw[Nat.add_mul];simp[hnl];omega
 obtain⟨l2,_,v4,v5,_⟩:=j7 hfl hvb k1;have hvs:vo+(m+1)*size<=VC.size:=by
  have hpos:0<(m+1)*size:=Nat.mul_pos X1 Pu;have:=v5 (by intro hnil;rw[hnil]at v4;simp only[List.length_nil]at v4;omega);rw[v4]at this;exact Nat.le_trans this hv1
 have hf:∀w1:World,w1.heap[Dl.B]? = w.heap[Dl.B]?->(Builtin.firstCells size (m+1) (.slice (some ⟨Dl.B,vo,none⟩) (m+1) QK)).run P w1=.ok new'.toArray w1:=by
  intro w1 hw1;have h1:=n4 w rfl;rw[gj hVC hvs]at h1;have h2:=gj (P:=P) (w:=w1) (n:=m+1) (c:=QK) (by rw[hw1];exact hVC) hvs;have h3:=(Result.ok.inj h1).1;rw[h2,h3]
 refine⟨hI.enters _ _,Calls.mono (hI.grow pl.B n cap' i Dl.B vo (m+1) QK C VC ev new' w Y8 hlt X1 hle hc2 uZ hC hVC CP hf hnl h1v h1c) ?_⟩;rintro e2 w'' ⟨dQ,rest,d,M0,j1,j2,rfl,rfl⟩;have Pv:=Ax (P:=P) hmid m1 e' ⟨w.heap.size,dQ*size,size⟩ rest true (λ_=>⟨by
  rw[List.length_append,OY,j2,<-Nat.add_mul];exact congrArg (λx=>x*size) (Nat.add_sub_cancel' j1),Az,Pu⟩)
 obtain⟨q1,q3⟩:=hr.fresh m3 (dQ*size) size Pv trivial;exact⟨_,_,_,_,rfl,m4,.cw (eW _ _ _) j1 (by simp),⟨q1.obj,q1.dom,q1.keys,q1.RO,q1.inj,q1.lo⟩,⟨q3.sub,q3.new,q3.nx,q3.size,q3.CJ,q3.Dz,q3.tape,q3.os,q3.output,q3.fz,q3.lo,q3.KE,q3.KF,M0⟩⟩
set_option maxHeartbeats 2000000 in
set_option maxRecDepth 100000 in
theorem Dm(hfl:¬good fl){f tS e size:Nat}{z:List Value}{inf:TypeInfo}(hI:Cu P f tS e size)(hu:P.underlying tS=some (.slice e))(hz:RE P e=some (z,size))(hi:P.info? e=some inf)(hby:inf.bytes<=10000)(hr:HR P φ h w){args args':List Value}(ha:F2 (VR φ) args args'){V:X3 β}(hg:good (tH fl e size z args h V)):xA good P φ h w V f args'.toArray:=by
 obtain⟨hz1,Az,RY,Pu⟩:=mY hz;unfold tH at hg;split at hg<;>try cases hfl hg
 rename_i base n cap i vb vo m vc;cases ha with
 |cons hs ha=>
 cases ha with
 |cons hi' ha=>
 cases ha with
 |cons hv ha=>
 cases ha;cases hi';rename_i s' v';obtain⟨base',cap',hs'⟩:∃base' cap',s'=.slice base' n cap':=by cases hs<;>exact⟨_,_,rfl⟩
 have hle:n<=cap':=by subst hs';cases hs<;>first|assumption|omega
 obtain⟨Dl,QK,hpv,yu⟩:∃Dl QK,φ vb=some Dl/\v'=.slice (some ⟨Dl.B,vo,none⟩) (m+1) QK:=by
  cases hv with
  |slice hp _ _=>exact⟨_,_,hp,rfl⟩
  |cw hp _ _=>exact⟨_,_,hp,rfl⟩
 split at hg
 .rename_i hin;have hin:=cU hin;subst hin;obtain⟨φ',v,r,h',w',g1,g2,g3,g4,g5⟩:=ud (ts:=#[tS,tS]) (ty:=tS) (xd:=.slice e) hfl rfl hu hz hi hby rfl hu hr hg hs hv;subst hs';subst yu;refine⟨hI.enters _ _,Calls.mono (hI.atEnd base' i cap' Dl.B vo (m+1) QK w r w' X1 hle g5) ?_⟩;rintro e' w'' ⟨rfl,rfl⟩;exact⟨φ',v,r,h',rfl,g1,g2,g3,g4⟩
 .split at hg
  .subst hs';subst yu;exact Dk hfl hI hz hr hs hpv hv hg
  split at hg<;>try cases hfl hg
  rename_i b hlt hop;have hlt:i<n:=di hlt;have hop:=cU hop;subst hop;split at hg<;>try cases hfl hg
  rename_i nn cc e' nv cv ev opv hne hb hvb;have hne:=pU hne;split at hg<;>try cases hfl hg
  rename_i hee uZ;have hee:=cU hee;subst hee;have uZ:n+(m+1)<=1000000:=di uZ;obtain⟨pl,hp,hcap,rfl⟩:∃pl,φ b=some pl/\cap'*pl.e+0=pl.sz/\base'=some ⟨pl.B,0,none⟩:=by
   subst hs';cases hs with
   |slice hp hn hc=>exact absurd hc (Nat.lt_irrefl _)
   |cw hp hn hc=>exact⟨_,hp,hc,rfl⟩
  obtain⟨C,hC,zi,hn2,Xg,hcell⟩:=hr.rowAt hb hp;obtain⟨VC,hVC,hv1,_,_,_⟩:=hr.rowAt hvb hpv;obtain⟨o1,o2,o3⟩:=Xg rfl;have Y8:pl.B≠Dl.B:=λhB=>hne (hr.inj b vb _ _ pl Dl hb hvb trivial trivial hp hpv hB).symm;have hpe:pl.e=size:=by rw[Az]at o2;exact(Option.some.inj o2).symm
  rw[hpe]at hcap;obtain⟨old,k1,k3,k5,k6⟩:=j7 hfl hb hg;obtain⟨new,new',n1,n2,n3,n4⟩:=gT hfl hr k1 hv ⟨_,_,_,rfl,Nat.le_refl _⟩;split at n1<;>try exact absurd n1 hfl
  rename_i vA;simp only[Bool.and_eq_true]at vA;obtain⟨hlo,n1⟩:=bK hfl n1;unfold dV at n1;obtain⟨m1,m2⟩:=lS hfl n1;obtain⟨m3,m4⟩:=dS hfl m2;have hcs:cap'*size<=C.size:=by omega
  have CP:n*size<=C.size:=Nat.le_trans (Nat.mul_le_mul_right _ hle) hcs;have hnn:n*size<=nn:=by
   have:=k5 (by intro hnil;rw[hnil]at k3;simp at k3;rcases k3.symm with h0;have:0<n*size:=Nat.mul_pos X1 Pu;omega);omega
  have hold:F2 (VR φ) old (C.toList.take (n*size)):=by
   refine F2.nF (by simp;omega) λj v v' e1 e2=>?_;have hj:j<n*size:=by rw[<-k3];exact(List.getElem?_eq_some_iff.mp e1).1
   have h1:=k6 j v e1;rw[Nat.zero_add]at h1;obtain⟨v2,h2,h3⟩:=hcell j v h1 X1;rw[List.getElem?_take_of_lt hj]at e2;rw[Array.getElem?_toList,h2]at e2;cases e2;exact h3
  have hmid:F2 (VR φ) (old.take (i*size)++new++old.drop (i*size)) ((C.toList.take (n*size)).take (i*size)++new'++(C.toList.take (n*size)).drop (i*size)):=
   ((hold.take _).append n2).append (hold.drop _)
  have h1v:=vz n2 vA.2;have h1c:=vz hold vA.1;have hnl:new'.length=(m+1)*size:=by rw[<-n2.length,n3]
  have OY:((C.toList.take (n*size)).take (i*size)++new'++(C.toList.take (n*size)).drop (i*size)).length=(n+(m+1))*size:=by
   have hin:i*size<=n*size:=Nat.mul_le_mul_right _ X1;rw[Nat.add_mul];simp[hnl];omega
  subst hs';subst yu;obtain⟨l2,_,v4,v5,_⟩:=j7 hfl hvb k1;have hvs:vo+(m+1)*size<=VC.size:=by
   have hpos:0<(m+1)*size:=Nat.mul_pos X1 Pu;have:=v5 (by intro hnil;rw[hnil]at v4;simp only[List.length_nil]at v4;omega);rw[v4]at this;exact Nat.le_trans this hv1
  have hf:∀w1:World,w1.heap[Dl.B]? = w.heap[Dl.B]?->(Builtin.firstCells size (m+1) (.slice (some ⟨Dl.B,vo,none⟩) (m+1) QK)).run P w1=.ok new'.toArray w1:=by
   intro w1 hw1;have h1:=n4 w rfl;rw[gj hVC hvs]at h1;have h2:=gj (P:=P) (w:=w1) (n:=m+1) (c:=QK) (by rw[hw1];exact hVC) hvs;have h3:=(Result.ok.inj h1).1;rw[h2,h3]
  by_cases hroom:n+(m+1)<=cap'
  ·refine⟨hI.enters _ _,Calls.mono (hI.shift pl.B n cap' i Dl.B vo (m+1) QK C VC ev new' w Y8 hlt X1 hroom uZ hC hVC hcs hf hnl h1v h1c) ?_⟩;rintro e2 w'' ⟨rfl,d,M0,rfl⟩;have hrow:=setRow_heap w pl.B C ((((C.toList.take (n*size)).take (i*size)++new'++(C.toList.take (n*size)).drop (i*size))++C.toList.drop ((n+(m+1))*size)).toArray) e' _ hC;have Pv:=Ax (P:=P) hmid m1 e' pl (C.toList.drop ((n+(m+1))*size)) true (λ_=>⟨by
    have:(n+(m+1))*size<=C.size:=Nat.le_trans (Nat.mul_le_mul_right _ hroom) hcs;rw[List.length_append,OY];simp;omega,o2,o3⟩)
   obtain⟨q1,q2⟩:=hr.R7 hlo (ob:=.cells (old.take (i*size)++new++old.drop (i*size)).length (lay (old.take (i*size)++new++old.drop (i*size)) .nil 0) e' true) (w':={ w.setRow pl.B ((((C.toList.take (n*size)).take (i*size)++new'++(C.toList.take (n*size)).drop (i*size))++C.toList.drop ((n+(m+1))*size)).toArray)with drawn:=d }) hb hp m3
    (setRow_size _ _ _) (λk hk=>setRow_other _ _ _ _ hk) (by show OR P φ _ pl ((w.setRow pl.B _).heap[pl.B]?);rw[hrow];exact Pv) (by show OR P φ _ pl ((w.setRow pl.B _).heap[pl.B]?);rw[hrow];exact⟨X1,hn2,o2,o3⟩) rfl rfl rfl trivial M0
   exact⟨_,_,_,_,rfl,m4,.cw (eW _ _ _) hroom (by rw[hpe];exact hcap),q1,q2⟩
  ·refine⟨hI.enters _ _,Calls.mono (hI.grow pl.B n cap' i Dl.B vo (m+1) QK C VC ev new' w Y8 hlt X1 hle X1 uZ hC hVC CP hf hnl h1v h1c) ?_⟩;rintro e2 w'' ⟨dQ,rest,d,M0,j1,j2,rfl,rfl⟩;have Gt:=hr.EF hlo (w':=w) (o:=.dead nn e') hp ⟨_,hb,trivial⟩ rfl (λ_ _=>rfl) (by rw[hC];exact⟨X1,hn2,o2,o3⟩) rfl rfl rfl (.inr id);have Pv:=Ax (P:=P) hmid m1 e' ⟨w.heap.size,dQ*size,size⟩ rest true (λ_=>⟨by
    rw[List.length_append,OY,j2,<-Nat.add_mul];exact congrArg (λx=>x*size) (Nat.add_sub_cancel' j1),Az,Pu⟩)
   obtain⟨q1,q2⟩:=Gt.1.fresh m3 (dQ*size) size Pv trivial;have q3:=Gt.2.trans q2;exact⟨_,_,_,_,rfl,m4,.cw (eW _ _ _) j1 (by simp),⟨q1.obj,q1.dom,q1.keys,q1.RO,q1.inj,q1.lo⟩,⟨q3.sub,q3.new,q3.nx,q3.size,q3.CJ,q3.Dz,q3.tape,q3.os,q3.output,q3.fz,q3.lo,q3.KE,q3.KF,M0⟩⟩
end Go.Vai

namespace Go.Proofs
open Go.Vai
open Tryz (prog)
theorem QL(args:Array Value)(w:World):(callFunc 255 args).run prog w=.ok (.enter 255 args) w:=by
 have hb:Tryz.f255.body.isNone=false:=by kernel_rfl
 have hn : (Tryz.f255.name == "runtime.NumGoroutine") = false := by kernel_rfl
 have hn' : Tryz.f255.name ≠ "runtime.NumGoroutine" := by simpa using hn
 simp[callFunc,Tryz.func255,hn',hb];cases h:Tryz.f255.body with
 |none=>rw[h]at hb;cases hb
 |some c=>simp
theorem QM{inf:TypeInfo}{z:Value}(Y6:prog.info? 46=some inf)(hz:inf.zero=some z)(hzc:z.cells.size=4)(hby:inf.bytes<=10000)(h3:prog.underlying 3=some (.int .i64)):Cu prog 255 43 46 4 where
 enters:=QL
 atEnd:=λbase n c VB vo m vc w r w' hm hle hr=>Mv base n c VB vo m vc w r w' hm hle hr
 shift:=λB n c i VB vo m vc C VC e2 new w hne hi hm hroom uZ hC hV hcs hf hnl h1v h1c=>Mx B n c i VB vo m vc C VC e2 new w hne hi hm hroom uZ hC hV hcs hf hnl h1v h1c
 grow:=λB n c i VB vo m vc C VC e2 new w hne hi hm hnc hroom uZ hC hV hcs hf hnl h1v h1c=>QI B n c i VB vo m vc C VC e2 new w hne hi hm hnc hroom uZ hC hV hcs hf hnl h1v h1c Y6 hz hzc hby h3
def jE(t r:Int)(p:L4):Bool:=decide (p.t=t/\p.r=r)
theorem amk(t r:Int)(p:L4)(b:Nat)(h:af)(V:KQ)(hlo:h.lo<=h.nx)(hb:b<h.nx)(hg:h.bl.get b=some (aj [X8 t,X8 r] 28 false))(hk:∀h',Le h h'->V (.bool (jE t r p)) h'):av prog 262 [zx p,ax b] h V:=by
 apply X9;rw[adP];simp(disch:=try exact Y)only[Wz,dn,hg,wE];exact hk _ ((Le.refl h).new _)
theorem aml(L:List L4)(t r:Int)(h:af)(v:Value)(V:KQ)(hv:Sl dn h v L)(hlen:L.length<=1000000)(hlo:h.lo<=h.nx)(hk:∀h',Le h h'->V (X8 (gY (L.findIdx? (jE t r)))) h'):av prog 182 [v,dg t r] h V:=by
 apply X9;rw[adf];simp(disch:=try exact Y)only[Wz,dg];have hle:=(Le.refl h).new (aj [X8 t,X8 r] 28 false);refine Cs L (jE t r) _ v _ _ (hv.le hle) hlen ?_ λh' hl=>hk h' (hle.trans hl);intro p hp h1 κ1 rJ dZ;have zi:=rJ.nx;have hg1:=rJ.get;have Xf:=rJ.lo;dsimp only at zi hg1 Xf;simp(disch:=try exact Y)only[Wz];exact amk t r p _ h1 κ1 X1 X1 (by rw[hg1 _ (Nat.lt_succ_self _),T.ay]) dZ
def aX(L:List L4)(t r:Int):Int:=match L.find? (jE t r)with|some p=>p.m|none=>0
theorem qZ(L:List L4)(F:L4->Bool):(L.findIdx? F=none/\L.find? F=none)\/∃i p,L.findIdx? F=some i/\L[i]? = some p/\F p=true/\L.find? F=some p:=by
 induction L with
 |nil=>exact .inl ⟨rfl,rfl⟩
 |cons a L ih=>
  cases hF:F a with
  |true=>exact .inr ⟨0,a,by simp[List.findIdx?_cons,hF],rfl,hF,by simp[List.find?,hF]⟩
  |false=>
   rcases ih with⟨h1,h2⟩|⟨i,p,h1,h2,h3,h4⟩
   .exact .inl ⟨by simp[List.findIdx?_cons,hF,h1],by simp[List.find?,hF,h2]⟩
   .exact .inr ⟨i+1,p,by simp[List.findIdx?_cons,hF,h1],by simpa using h2,h3,by simp[List.find?,hF,h4]⟩
theorem nW(L:List L4)(t r:Int)(h:af)(v:Value)(V:KQ)(hv:Sl dn h v L)(hlen:L.length<=1000000)(hlo:h.lo<=h.nx)(hk:∀h',Le h h'->V (X8 (aX L t r)) h'):av prog 130 [v,dg t r] h V:=by
 apply X9;rw[acJ];simp(disch:=try exact Y)only[Wz,dg];have hle:=(Le.refl h).new (aj [X8 t,X8 r] 28 false);refine aml L t r _ v _ (hv.le hle) hlen (by show h.lo<=h.nx+1;omega) ?_;intro h1 rJ;have hle1:=hle.trans rJ;have zi:=hle1.nx;rcases qZ L (jE t r)with⟨h2,h3⟩|⟨i,p,h2,h3,h4,h5⟩
 .simp only[h2,gY];simp(disch:=try exact Y)only[Wz];have:=hk h1 hle1;simpa only [aX,h3]using this
 .simp only[h2,gY];obtain⟨b,o,hb,pg,qg⟩:=ldP hv i h3;simp(disch:=try exact Y)only[Wz,pg,hle1.get,qg];have:=hk h1 hle1;simpa only [aX,h5]using this
def zHd:List Value:=match RE prog 46 with|some (z,_)=>z|none=>[]
theorem afZ:RE prog 46=some (zHd,4):=by kernel_rfl
theorem af0:(match prog.info? 46 with|some i=>(match i.zero with|some z=>Nat.beq z.cells.size 4 && Nat.ble i.bytes 10000|none=>false)|none=>false)=true:=by decide +kernel
theorem Y9:∃i z,prog.info? 46=some i/\i.zero=some z/\z.cells.size=4/\i.bytes<=10000:=by
 have h:=af0;split at h<;>try contradiction
 rename_i i hi;split at h<;>try contradiction
 rename_i z hz;simp only[Bool.and_eq_true]at h;exact⟨i,z,hi,hz,cU h.1,di h.2⟩
theorem af1{args:List Value}{h:af}{V:KQ}(hg:tH False 46 4 zHd args h V):av prog 255 args h V:=by
 intro φ w args' ha hr;obtain⟨i,z,h1,h2,h3,h4⟩:=Y9;exact Dm (good:=ok) vG (QM h1 h2 h3 h4 Tryz.underlying3) Tryz.underlying43 afZ h1 h4 hr ha hg
theorem Vo(L:List L4):(L.flatMap dn).length=L.length*4:=bH dD L
theorem QN(L:List L4):(L.flatMap dn).all ef=true:=by
 rw[List.all_flatMap];simp only[List.all_eq_true];intro x _;exact List.all_eq_true.1 (sG x)
theorem Vp{a h:af}{v:Value}{L:List L4}{p:L4}{i:Nat}{vb vc:Nat}(hi:i<=L.length)(ho:FF a h v L)(hle:Le a h)(hlen:L.length<=100000)(hlo:h.lo<=h.nx)(hvb:h.bl.get vb=some (aj (dn p) 46 false))(hvn:vb<h.nx)(hne:i<L.length->∀b n c,v=YYY b n c->vb≠b)(V:KQ)(hk:∀v' h',FF a h' v' (L.take i++[p]++L.drop i)->Le a h'->V v' h'):av prog 255 [v,X8 (i:Int),YYY vb 1 vc] h V:=by
 refine af1 ?_;have hx:Sl dn h (YYY vb 1 vc) [p]:=⟨_,vc,rfl,λ_=>⟨vb,0,rfl,hvn,by rw[hvb];simpa using Has.all⟩⟩
 by_cases he:i=L.length
 ·subst he;have key:cg False 46 4 zHd false v (YYY vb 1 vc) h V:=by
   refine kO (enc:=dn) (a:=a) (M:=[p]) dD sG X1 X1 ho hx hle (by simp;omega) hlo _ ?_;intro v' h' ho' hl' _ _;refine hk v' h' ?_ hl';simpa using ho'
  have fin:∀(base:Option Addr)(cap:Nat),v=.slice base L.length cap->tH False 46 4 zHd [v,X8 (L.length:Int),YYY vb 1 vc] h V:=by
   rintro base cap rfl;unfold tH
   show(match Nat.beq L.length L.length with|true=>_|false=>_)
   rw[Nat.beq_refl];exact key
  rcases ho with⟨rfl,rfl|⟨b,o,rfl⟩⟩|⟨b,rfl,_⟩
  .exact fin _ _ rfl
  .exact fin _ _ rfl
  .exact fin _ _ rfl
 .have hlt:i<L.length:=by omega
  rcases ho with⟨rfl,_⟩|⟨b,rfl,h1,h2,h3,h4⟩
  .simp at hlt
  .have hne:=hne hlt b _ _ rfl;unfold tH
   show(match Nat.beq i L.length with|true=>_|false=>_)
   have e1:Nat.beq i L.length=false:=by
    cases hq:Nat.beq i L.length with
    |false=>rfl
    |true=>exact absurd (cU hq) he
   have e2:Nat.beq aZ aZ=true:=Nat.beq_refl _;have e3:Nat.ble (i+1) L.length=true:=Nat.ble_eq_true_of_le hlt;have e4:Nat.beq vb b=false:=by
    cases hq:Nat.beq vb b with
    |false=>rfl
    |true=>exact absurd (cU hq) hne
   have e5:Nat.ble (L.length+(0+1)) 1000000=true:=Nat.ble_eq_true_of_le X1;have hh1:Has (h.bl.get b) 0 (L.flatMap dn):=by rw[h4];exact Has.all
   have hh2:Has (h.bl.get vb) 0 (dn p):=by rw[hvb];exact Has.all
   have f1:∀V:List Value->Prop,fe False h 4 L.length (YYY b L.length aZ) V=V (L.flatMap dn):=λV=>kN hh1 _ _ _ _ V (Vo L).symm;have f2:∀V:List Value->Prop,fe False h 4 (0+1) (YYY vb (0+1) vc) V=V (dn p):=λV=>kN hh2 _ _ _ _ V rfl;have e6:((L.flatMap dn).all ef && (dn p).all ef)=true:=by rw[QN];rfl
   have e7:Nat.beq 46 46=true:=rfl;have g4:=h4;have gvb:=hvb;simp only[aj]at g4 gvb;simp only[e1,e2,e3,e4,g4,gvb,e5,e7,f1,f2,e6];rw[bG _ _ _ _ h3];unfold dV;have hfl:((L.flatMap dn).take (i*4)++dn p++(L.flatMap dn).drop (i*4))=(L.take i++[p]++L.drop i).flatMap dn:=by
    rw[qT dD,qU dD];simp
   rw[hfl,jK _ _ _ _ (by rw[Vo];simp;omega),dO];refine hk _ _ (.inr ⟨h.nx,?_,hle.nx,Nat.lt_succ_self _,hlo,T.ay _ _ _⟩) ((hle.set h1 _).new _);rw[show(L.take i++[p]++L.drop i).length=L.length+(0+1)by simp;omega]
def uY(p x:L4):Bool:=decide (0<sF x.t x.r p.t p.r)
def dx(L:List L4)(p:L4):List L4:=match L.findIdx? (jE p.t p.r)with
 |some i=>L.set i p
 |none=>match L.findIdx? (uY p)with
  |some i=>L.take i++[p]++L.drop i
  |none=>L++[p]
theorem af2(p x:L4)(b:Nat)(h:af)(V:KQ)(hlo:h.lo<=h.nx)(hb:b<h.nx)(hg:h.bl.get b=some (aj (dn p) 46 false))(hk:∀h',Le h h'->V (.bool (uY p x)) h'):av prog 254 [zx x,ax b] h V:=by
 apply X9;rw[adM];simp(disch:=try exact Y)only[Wz,dn,hg];refine oR _ _ _ _ ?_;have:=hk _ ((Le.refl h).new (aj (dn x) 46 false));by_cases h1:0<sF x.t x.r p.t p.r
 .simp(disch:=try exact Y)only[Wz];simp only[uY,bz h1,dn]at this;exact this
 .simp(disch:=try exact Y)only[Wz];simp only[uY,bf h1,dn]at this;exact this
def mQ(h:af)(v:Value)(L:List L4):Prop:=Sl dn h v L/\zQ 46 h v/\k_ 8 v v=true
theorem mQ.le{h h':af}{v:Value}{L:List L4}(s:mQ h v L)(l:Le h h'):mQ h' v L:=⟨s.1.le l,s.2.1.le l,s.2.2⟩
theorem mQ.own{a h:af}{v:Value}{L:List L4}(o:FF a h v L):mQ h v L:=⟨o.sl,zQ.own o,o.same⟩
theorem mQ.nil(h:af):mQ h (.slice none 0 0) []:=⟨Sl.nil _ _ _,(λb o n c e=>by cases e),vJ _ _⟩
theorem mQ.cell{h:af}{v:Value}{L:List L4}(s:mQ h v L):∃x c,v=.slice x L.length c:=by
 obtain⟨x,c,rfl,_⟩:=s.1;exact⟨x,c,rfl⟩
theorem mQ.keep{h h':af}{v:Value}{L:List L4}(s:mQ h v L)(hn:h.nx<=h'.nx)(hg:∀c vs op,c<h.nx->h.bl.get c=some (aj vs 46 op)->h'.bl.get c=h.bl.get c):mQ h' v L:=by
 obtain⟨⟨x,cap,rfl,h2⟩,t,q⟩:=s;refine⟨⟨x,cap,rfl,λhn0=>?_⟩,λb o n c hv hn0=>?_,q⟩
 .obtain⟨b,o,rfl,h3,h4⟩:=h2 hn0;obtain⟨h1,vs,op,h5⟩:=t b o _ cap rfl (by intro h0;exact hn0 (List.eq_nil_of_length_eq_zero h0));exact⟨b,o,rfl,X1,by rw[hg b vs op h1 h5];exact h4⟩
 .obtain⟨h1,vs,op,h5⟩:=t b o n c hv hn0;exact⟨X1,vs,op,(hg b vs op h1 h5).trans h5⟩
theorem y9(L:List L4)(p:L4)(h:af)(v:Value)(V:KQ)(hv:Sl dn h v L)(hlen:L.length<=100000)(hlo:h.lo<=h.nx)(hk:∀v' h',mQ h' v' (dx L p)->Le h h'->V v' h'):av prog 177 [v,zx p] h V:=by
 apply X9;rw[ada];simp(disch:=try exact Y)only[Wz,dn];obtain⟨hA,aY,aU,gA,dI,dJ⟩:=kG h (aj [X8 p.x,X8 p.t,X8 p.r,X8 p.m] 46 false);rw[<-aY];clear aY;refine wP L hA v _ (hv.le aU) X1 X1 ?_;intro v2 h2 nJ hle2;have n2:=hle2.nx;have l2:=hle2.lo;have g2:=(hle2.get h.nx X1).trans gA;simp(disch:=try exact Y)only[Wz,g2];refine aml L p.t p.r h2 v2 _ nJ.sl X1 X1 ?_;intro h3 cD;have n3:=cD.nx;have l3:=cD.lo;have g3:=(cD.get h.nx X1).trans g2;have oK:=hle2.trans cD;rcases qZ L (jE p.t p.r)with⟨f1,_⟩|⟨i,q,f1,f2,_,_⟩
 .simp only[f1,gY];simp(disch:=try exact Y)only[Wz,H8];refine Cs L (uY p) h3 v2 _ _ (nJ.sl.le cD) X1 ?_ ?_
  .intro x hx h4 κ4 dy wZ;have n4:=dy.nx;have l4:=dy.lo;simp(disch:=try exact Y)only[Wz];exact af2 p x h.nx h4 κ4 X1 X1 ((dy.get h.nx X1).trans g3) wZ
  .intro h4 dy;have n4:=dy.nx;have l4:=dy.lo;have g4:=(dy.get h.nx X1).trans g3;have ql:=oK.trans dy;refine⟨λl h'=>h4=h'/\∃j:Nat,ah l 4=X8 (j:Int)/\j<=L.length/\L.take j++[p]++L.drop j=dx L p,?_,?_⟩
   .rcases qZ L (uY p)with⟨e1,_⟩|⟨j,q,e1,e2,_,_⟩
    .simp only[e1,gY];simp(disch:=try exact Y)only[Wz,nJ.sl.len];exact⟨trivial,L.length,rfl,Nat.le_refl _,by simp[dx,f1,e1]⟩
    .simp only[e1,gY];simp(disch:=try exact Y)only[Wz];have hj:=(List.getElem?_eq_some_iff.1 e2).1;exact⟨trivial,j,rfl,X1,by simp[dx,f1,e1]⟩
   .rintro l h' ⟨rfl,j,hs,hj,hput⟩;simp(disch:=try exact Y)only[Wz,hs,g4];refine Vp (a:=hA) (L:=L) (p:=p) hj ((nJ.le (cD.trans dy)).le ((Le.refl _).new _)) ((ql).new _) hlen (by show h4.lo<=h4.nx+1;omega) (T.ay _ _ _) (Nat.lt_succ_self _) ?_ _ ?_
    .intro hlt b n c e;subst e;rcases nJ with⟨e,_⟩|⟨b',e,_,b2,_⟩
     .subst e;simp at hlt
     .cases e;have:=(cD.trans dy).nx;omega
    .intro v' h5 uQ fR;rw[hput]at uQ;exact hk v' h5 (.own uQ) (aU.trans fR)
 .simp only[f1,gY];have hi:i<L.length:=(List.getElem?_eq_some_iff.1 f2).1;have tM:=nJ.le cD;rcases tM with⟨rfl,_⟩|⟨b,rfl,b1,b2,b3,b4⟩
  .simp at hi
  .have hfl:=Vo L;have E3:=uH dD L i p hi;simp only[dn]at E3;simp(disch:=try exact Y)only[Wz,g3,bB,b4,E3];have hput:dx L p=L.set i p:=by simp only[dx,f1]
   rw[hput]at hk;refine hk _ _ ⟨⟨_,aZ,by rw[List.length_set],λ_=>⟨b,0,rfl,b2,by rw[T.ay];exact Has.all⟩⟩,λb' o' n' c' e _=>?_,iS _ _ _ _⟩ (aU.trans ((oK).set b1 _));cases e;exact⟨b2,_,_,T.ay _ _ _⟩
def gz(L:List L4)(t r:Int):List L4:=L.filter λp=>!jE t r p
theorem Y_(t r:Int)(p:L4)(b:Nat)(h:af)(V:KQ)(hlo:h.lo<=h.nx)(hb:b<h.nx)(hg:h.bl.get b=some (aj [X8 t,X8 r] 28 false))(hk:∀h',Le h h'->V (.bool (jE t r p)) h'):av prog 265 [zx p,ax b] h V:=by
 apply X9;rw[adQ];simp(disch:=try exact Y)only[Wz,dn,hg,wE];exact hk _ ((Le.refl h).new _)
theorem af3(L:List L4)(t r:Int)(h:af)(v:Value)(V:KQ)(hv:Sl dn h v L)(hlen:L.length<=100000)(hlo:h.lo<=h.nx)(hk:∀v' h',mQ h' v' (gz L t r)->Le h h'->V v' h'):av prog 188 [v,dg t r] h V:=by
 apply X9;rw[adl];simp(disch:=try exact Y)only[Wz,dg];obtain⟨hA,aY,aU,gA,dI,dJ⟩:=kG h (aj [X8 t,X8 r] 28 false);rw[<-aY];clear aY;refine wP L hA v _ (hv.le aU) X1 X1 ?_;intro v2 h2 nJ hle2;have n2:=hle2.nx;have l2:=hle2.lo;refine QF hA h2 L (jE t r) v2 _ _ hle2 nJ hlen X1 ?_ ?_
 .intro p h3 κ3 cD _ xG;have n3:=cD.nx;have l3:=cD.lo;simp(disch:=try exact Y)only[Wz];exact Y_ t r p h.nx h3 κ3 X1 X1 ((cD.get h.nx X1).trans gA) xG
 .intro v' h3 hs S7 cD _ ht;refine hk v' h3 ⟨hs,ht,?_⟩ (aU.trans cD);rcases S7 with⟨_,rfl⟩|⟨_,b,o,rfl⟩|⟨b,o,cap,rfl,_⟩|⟨b,vs,n,rfl,_⟩
  .exact vJ _ _
  .exact iS _ _ _ _
  .exact iS _ _ _ _
  .exact iS _ _ _ _
theorem af4(a0 a1:Value)(h:af)(V:KQ):aV prog 328 [a0,a1] h V=fC prog 3 2 a0 a1 h V:=by kernel_rfl
theorem af5(a0 a1:Value)(h:af)(V:KQ):aV prog 259 [a0,a1] h V=kf prog 3 328 a0 a1 h V:=by kernel_rfl
theorem J6(L:List N2)(F:N2->Bool)(h:af)(v fv:Value)(V:KQ)(hv:Sl jc h v L)(hlen:L.length<=1000000)(hF:∀p,p∈L->∀(h1:af)(κ1:Value->af->Prop),Le h h1->(∀h2,Le h1 h2->κ1 (.bool (F p)) h2)->gu prog fv [E1 jc p] h1 κ1)(hk:∀h',Le h h'->V (.bool (L.any F)) h'):av prog 259 [v,fv] h V:=ug mixed nT af4 af5 L F h v fv V hv hlen hF hk
def um(a m:Int):Bool:=decide (a=6) || ((decide (a=3) || decide (a=4) || decide (a=5)) && (decide (m=1) || decide (m=3)))
theorem af6:∀i,i<7->∀j,j<7->bR prog 200 261 [X8 (.ofNat i),X8 (.ofNat j)] (.bool (um (.ofNat i) (.ofNat j)))=true:=by decide +kernel
theorem af7(n:Nat)(b:Int):bR prog 200 261 [X8 (.negSucc n),X8 b] (.bool (um (.negSucc n) b))=true:=by kernel_rfl
theorem af8(n:Nat)(b:Int):bR prog 200 261 [X8 (.ofNat (n+7)),X8 b] (.bool (um (.ofNat (n+7)) b))=true:=by kernel_rfl
theorem af9:∀i,i<7->∀n:Nat,bR prog 200 261 [X8 (.ofNat i),X8 (.negSucc n)] (.bool (um (.ofNat i) (.negSucc n)))=true:=by
 refine seven ?_ ?_ ?_ ?_ ?_ ?_ ?_<;>intro n<;>kernel_rfl
theorem af_:∀i,i<7->∀n:Nat,bR prog 200 261 [X8 (.ofNat i),X8 (.ofNat (n+7))] (.bool (um (.ofNat i) (.ofNat (n+7))))=true:=by
 refine seven ?_ ?_ ?_ ?_ ?_ ?_ ?_<;>intro n<;>kernel_rfl
theorem aga(a b:Int){h:af}{V:KQ}(hk:V (.bool (um a b)) h):av prog 261 [X8 a,X8 b] h V:=
 tj mixed (F:=λa b=>.bool (um a b)) af6 af7 af8 af9 af_ a b hk
def J7(t r m:Int):Bool:=decide (br t r≠-1) && kn m && decide (m≠0)
theorem Za(t r m:Int){h:af}{V:KQ}(hk:V (.bool (J7 t r m)) h):av prog 258 [dg t r,X8 m] h V:=by
 refine jL (v:=.bool (J7 t r m)) rfl rfl (aG mixed ?_) hk;rw[adN];simp(disch:=try exact Y)only[Wz,dg];refine qt t r ?_;by_cases hl:br t r = -1
 .rw[if_pos hl];simp(disch:=try exact Y)only[Wz,bf (show ¬(2:Int)=0 by decide)];simp[J7,hl]
 .rw[if_neg hl];simp(disch:=try exact Y)only[Wz];refine qW m ?_;cases hkn:kn m with
  |false=>simp(disch:=try exact Y)only[Wz];simp[J7,hl,hkn]
  |true=>
   by_cases h0:m=0
   .simp(disch:=try exact Y)only[Wz,bz h0];simp[J7,hl,hkn,h0]
   .simp(disch:=try exact Y)only[Wz,bf h0];simp[J7,hl,hkn,h0]
def QO(f:Int->Int->Int)(t r m:Int):Bool:=!J7 t r m || mU (f t r) m || (oU t r).any λa=>um (f a.1 a.2) m
theorem agb(L:List L4)(t r m:Int)(b1 b5:Nat)(h:af)(v:Value)(V:KQ)(hv:Sl dn h v L)(hlen:L.length<=100000)(hlo:h.lo<=h.nx)(n1:b1<h.nx)(n5:b5<h.nx)(g1:h.bl.get b1=some (aj [v] 43 false))(g5:h.bl.get b5=some (aj [X8 m] 29 false))(hk:∀h',Le h h'->V (.bool (um (aX L t r) m)) h'):av prog 260 [dg t r,ax b1,ax b5] h V:=by
 apply X9;rw[adO];simp(disch:=try exact Y)only[Wz,dg,g1,g5];have hle:=(Le.refl h).new (aj [X8 t,X8 r] 28 false);refine nW L t r _ v _ (hv.le hle) X1 (by show h.lo<=h.nx+1;omega) ?_;intro h' hl';have hall:=hle.trans hl';have g5':=(hall.get b5 n5).trans g5;simp(disch:=try exact Y)only[Wz,g5'];exact aga _ _ (hk h' hall)
theorem QS(L:List L4)(t r m:Int)(h:af)(v:Value)(V:KQ)(hv:Sl dn h v L)(hlen:L.length<=100000)(hlo:h.lo<=h.nx)(hk:∀h',Le h h'->V (.bool (QO (aX L) t r m)) h'):av prog 179 [v,dg t r,X8 m] h V:=by
 apply X9;rw[adb];have hv0:=hv;obtain⟨x,cap,rfl,hx⟩:=hv;simp(disch:=try exact Y)only[Wz,dg];obtain⟨hA,eA⟩:∃hA:af,hA=⟨h.nx+1+1+1,T.a_ (T.a_ (h.bl.a_ h.nx (aj [.slice x L.length cap] 43 false)) (h.nx+1) (aj [X8 t,X8 r] 28 false)) (h.nx+1+1) (aj [X8 m] 29 false),h.lo⟩:=⟨_,rfl⟩
 have nQ:Le h hA:=by subst eA;exact(((Le.refl h).new _).new _).new _
 have g1:hA.bl.get h.nx=some (aj [.slice x L.length cap] 43 false):=by subst eA;exact(T.aD _ _ X1).trans ((T.aD _ _ X1).trans (T.ay _ _ _))
 have g3:hA.bl.get (h.nx+1)=some (aj [X8 t,X8 r] 28 false):=by subst eA;exact(T.aD _ _ X1).trans (T.ay _ _ _)
 have g5:hA.bl.get (h.nx+1+1)=some (aj [X8 m] 29 false):=by subst eA;exact T.ay _ _ _
 have nA:hA.nx=h.nx+1+1+1:=by subst eA;rfl
 have lA:hA.lo=h.lo:=by subst eA;rfl
 rw[<-eA];clear eA;refine Za t r m ?_;have hvA:=hv0.le nQ;cases ha:J7 t r m with
 |false=>
  simp(disch:=try exact Y)only[Wz];have:=hk hA nQ;simpa[QO,ha]using this
 |true=>
  simp(disch:=try exact Y)only[Wz,g1,g3,g5];refine nW L t r hA _ _ hvA X1 X1 ?_;intro h2 hle2;have n2:=hle2.nx;have l2:=hle2.lo;have W9:=(hle2.get _ X1).trans g3;have g5':=(hle2.get _ X1).trans g5;have Wu:=(hle2.get _ X1).trans g1;simp(disch:=try exact Y)only[Wz,g5'];refine qk _ _ ?_;have J8:=nQ.trans hle2;cases hc:mU (aX L t r) m with
  |true=>
   simp(disch:=try exact Y)only[Wz];have:=hk h2 J8;simpa[QO,ha,hc]using this
  |false=>
   simp(disch:=try exact Y)only[Wz,W9];refine Vk t r h2 _ X1 ?_;intro u h3 hu _ cD;have n3:=cD.nx;have l3:=cD.lo;have hlA:(oU t r).length<=2:=by unfold oU;split<;>(try split)<;>simp
   refine J6 (oU t r) (λa=>um (aX L a.1 a.2) m) h3 u _ _ hu X1 ?_ ?_
   ·intro p hp h4 κ4 dy wZ;have n4:=dy.nx;have l4:=dy.lo;simp(disch:=try exact Y)only[Wz,List.nil_append,List.cons_append];exact agb L p.1 p.2 m h.nx (h.nx+1+1) h4 _ κ4 (((hvA.le hle2).le cD).le dy) hlen X1 X1 X1
     ((dy.get _ X1).trans ((cD.get _ X1).trans Wu)) ((dy.get _ X1).trans ((cD.get _ X1).trans g5')) wZ
   .intro h4 dy;have:=hk h4 ((J8.trans cD).trans dy);simpa[QO,ha,hc]using this
abbrev N3:=Int × Int × Int
def kX(p:N3):List Value:=[X8 p.1,X8 p.2.1,X8 p.2.2]
theorem kq(p:N3):(kX p).length=3:=rfl
theorem sI(p:N3):(kX p).all ef=true:=rfl
def QT(f:Int->Int->Int)(m:Int)(A:List N2):List N3:=(A.filter λa=>!mU (f a.1 a.2) (pH m)).map λa=>(a.1,a.2,bZ (f a.1 a.2) (pH m))
def iG(f:Int->Int->Int)(t r m:Int):List N3:=if QO f t r m=true then[]else QT f m (oU t r)++[(t,r,bZ (f t r) m)]
theorem J9{f:Int->Int->Int}{m:Int}{A:List N2}{k:Nat}{a:N2}(ha:A[k]? = some a):QT f m (A.take (k+1))=QT f m (A.take k)++if mU (f a.1 a.2) (pH m)=true then[]else[(a.1,a.2,bZ (f a.1 a.2) (pH m))]:=by
 obtain⟨hj,rfl⟩:=List.getElem?_eq_some_iff.1 ha;unfold QT;rw[List.take_succ_eq_append_getElem hj,List.filter_append,List.map_append];cases h:mU (f A[k].1 A[k].2) (pH m)<;>simp[h]
theorem OZ(f:Int->Int->Int)(m:Int)(A:List N2):(QT f m A).length<=A.length:=by
 unfold QT;rw[List.length_map];exact List.length_filter_le _ _
theorem agc(L:List L4)(t r m:Int)(h:af)(v:Value)(V:KQ)(hv:Sl dn h v L)(hlen:L.length<=100000)(hlo:h.lo<=h.nx)(hk:∀v' h',gK kX 160 h' v' (iG (aX L) t r m)->Le h h'->V v' h'):av prog 128 [v,dg t r,X8 m] h V:=by
 apply X9;rw[acI];simp(disch:=try exact Y)only[Wz,dg];obtain⟨hA,eA⟩:∃hA:af,hA=⟨h.nx+1,h.bl.a_ h.nx (aj [X8 t,X8 r] 28 false),h.lo⟩:=⟨_,rfl⟩
 have nQ:Le h hA:=by subst eA;exact(Le.refl h).new _
 have gA:hA.bl.get h.nx=some (aj [X8 t,X8 r] 28 false):=by subst eA;exact T.ay _ _ _
 have nA:hA.nx=h.nx+1:=by subst eA;rfl
 have lA:hA.lo=h.lo:=by subst eA;rfl
 rw[<-eA];clear eA;refine QS L t r m hA v _ (hv.le nQ) hlen X1 ?_;intro h2 hle2;have n2:=hle2.nx;have l2:=hle2.lo;have g2:=(hle2.get h.nx X1).trans gA;have J8:=nQ.trans hle2;cases himp:QO (aX L) t r m with
 |true=>
  simp(disch:=try exact Y)only[Wz];exact hk _ _ (.inl ⟨by simp[iG,himp],rfl⟩) J8
 |false=>
  simp(disch:=try exact Y)only[Wz];refine J5 m ?_;simp(disch:=try exact Y)only[Wz,g2];refine Vk t r h2 _ X1 ?_;intro u h3 hu _ cD;have n3:=cD.nx;have l3:=cD.lo;have hlA:=Ae t r;have oK:=J8.trans cD;simp(disch:=try exact Y)only[Wz,hu.len];refine⟨λn l h4=>Le h3 h4/\∃k:Nat,ah l 22=X8 (k:Int)/\k<=(oU t r).length/\n=(oU t r).length-k/\Own kX h3 160 h4 (ah l 20) (QT (aX L) m ((oU t r).take k)),⟨_,Le.refl _,0,rfl,Nat.zero_le _,rfl,.inl ⟨rfl,.inl rfl⟩⟩,?_⟩;rintro n l h4 ⟨dy,k,s4,wZ,rfl,Fq⟩;have n4:=dy.nx;have l4:=dy.lo;have ql:=oK.trans dy;have hu4:=OZ (aX L) m ((oU t r).take k);rw[List.length_take]at hu4;by_cases hlt:k<(oU t r).length
  .obtain⟨a,ha⟩:∃a,(oU t r)[k]? = some a:=⟨_,List.getElem?_eq_getElem hlt⟩
   obtain⟨b,o,hb,pg,qg⟩:=ldN (hu.le dy) k ha;simp(disch:=try exact Y)only[Wz,Be,s4];refine⟨λw_ h5=>Le h3 h5/\Own kX h3 160 h5 (ah w_ 19) (QT (aX L) m ((oU t r).take (k+1))),?_,?_⟩
   .simp(disch:=try exact Y)only[Wz,HL,s4,pg,qg,jc];obtain⟨hB,eB⟩:∃hB:af,hB=⟨h4.nx+1,h4.bl.a_ h4.nx (aj [X8 a.1,X8 a.2] 28 false),h4.lo⟩:=⟨_,rfl⟩
    have uP:Le h4 hB:=by subst eB;exact(Le.refl h4).new _
    have gB:hB.bl.get h4.nx=some (aj [X8 a.1,X8 a.2] 28 false):=by subst eB;exact T.ay _ _ _
    have lB:hB.lo=h4.lo:=by subst eB;rfl
    have nB:hB.nx=h4.nx+1:=by subst eB;rfl
    rw[<-eB];clear eB;refine nW L a.1 a.2 hB v _ (hv.le (ql.trans uP)) X1 X1 ?_;intro h5 fR;have n5:=fR.nx;have l5:=fR.lo;have g5:=(fR.get h4.nx X1).trans gB;have uh:=(dy.trans uP).trans fR;refine qk _ _ ?_;have uQ:=(Fq.le uP).le fR;cases hc:mU (aX L a.1 a.2) (pH m)with
    |true=>
     simp(disch:=try exact Y)only[Wz];refine⟨uh,?_⟩;rw[J9 ha,if_pos hc,List.append_nil];exact uQ
    |false=>
     simp(disch:=try exact Y)only[Wz,HK,g5];refine yR _ _ ?_;simp(disch:=try exact Y)only[Wz,g5,uQ.same];have mB:=(Le.refl h5).new (aj [X8 a.1,X8 a.2,X8 (bZ (aX L a.1 a.2) (pH m))] 160 false);refine kO (enc:=kX) (a:=h3) (L:=QT (aX L) m ((oU t r).take k)) (M:=[(a.1,a.2,bZ (aX L a.1 a.2) (pH m))]) kq sI X1 X1 (uQ.le mB) ⟨_,1,rfl,λ_=>⟨h5.nx,0,rfl,Nat.lt_succ_self _,by show Has ((T.a_ _ _ _).get _) 0 _;rw[T.ay];exact Has.all⟩⟩ (uh.trans mB)
      (by simp;omega) (by show h5.lo<=h5.nx+1;omega) _ ?_
     intro v' h' ho' hl' _ _;refine⟨hl',?_⟩;rw[J9 ha,hc,if_neg (by simp)];exact ho'
   .rintro w_ h5 ⟨hl5,uQ⟩;exact⟨_,X1,hl5,k+1,rfl,X1,rfl,uQ⟩
  .have hkk:k=(oU t r).length:=by omega
   subst hkk;rw[List.take_length]at Fq hu4;have g4:=(dy.get h.nx X1).trans ((cD.get h.nx X1).trans g2);simp(disch:=try exact Y)only[Wz,Be,s4,HM,g4];refine nW L t r h4 v _ (hv.le ql) X1 X1 ?_;intro h5 fR;have n5:=fR.nx;have l5:=fR.lo;have g5:=(fR.get h.nx X1).trans g4;have uQ:=Fq.le fR;have uh:=dy.trans fR;simp(disch:=try exact Y)only[Wz,g5,uQ.same];refine yR _ _ ?_;simp(disch:=try exact Y)only[Wz,g5,uQ.same];have mB:=(Le.refl h5).new (aj [X8 t,X8 r,X8 (bZ (aX L t r) m)] 160 false);refine kO (enc:=kX) (a:=h3) (L:=QT (aX L) m (oU t r)) (M:=[(t,r,bZ (aX L t r) m)]) kq sI X1 X1 (uQ.le mB) ⟨_,1,rfl,λ_=>⟨h5.nx,0,rfl,Nat.lt_succ_self _,by show Has ((T.a_ _ _ _).get _) 0 _;rw[T.ay];exact Has.all⟩⟩ (uh.trans mB)
    (by simp;omega) (by show h5.lo<=h5.nx+1;omega) _ ?_
   intro v' h' ho' hl' _ _;have e:iG (aX L) t r m=QT (aX L) m (oU t r)++[(t,r,bZ (aX L t r) m)]:=by rw[iG,himp];simp
   rw[<-e]at ho';exact hk v' h' (gK.own ho' (by rw[e];simp)) (oK.trans hl')
theorem swap_perm{E:List L4}{j:Nat}{x y:L4}(hx:E[j+1]? = some x)(hy:E[j]? = some y):((E.set (j+1) y).set j x).Perm E:=by
 induction E generalizing j with
 |nil=>simp at hx
 |cons a E ih=>
  cases j with
  |zero=>
   cases E with
   |nil=>simp at hx
   |cons c E=>
    simp at hx hy;subst hx;subst hy;simpa using List.Perm.swap _ _ _
  |succ j=>
   simp only[List.getElem?_cons_succ]at hx hy;simpa using ih hx hy
theorem Vq(b:Nat)(L:List L4)(h:af)(fv:Value)(V:KQ)(hb:h.bl.get b=some (aj (L.flatMap dn) 46 true))(zI:b<h.nx)(hbl:h.lo<=b)(tg:L.length<=100)(hF:∀p q (h1:af) (κ1:Value->af->Prop),LC b h h1->(∀i h2,Le h1 h2->κ1 (X8 i) h2)->gu prog fv [zx p,zx q] h1 κ1)(hk:∀(D:List L4) h',D.Perm L->LC b h h'->h'.bl.get b=some (aj (D.flatMap dn) 46 true)->V (.tuple ⟨[]⟩) h'):av prog 245 [YYY b L.length aZ,X8 0,X8 (L.length:Int),fv] h V:=by
 apply X9;rw[TW];simp(disch:=try exact Y)only[Wz];refine⟨λk l h1=>∃(i:Nat)(D:List L4),ah l 42=X8 (i:Int)/\1<=i/\k=L.length-i/\D.Perm L/\LC b h h1/\h1.bl.get b=some (aj (D.flatMap dn) 46 true),⟨_,1,L,rfl,Nat.le_refl _,rfl,List.Perm.refl _,LC.of_le (Le.refl _),hb⟩,?_⟩;rintro k l h1 ⟨i,D,s1,hi1,rfl,hp1,hle1,g1⟩;have n1:=hle1.nx;have l1:=hle1.lo;by_cases hlt:i<L.length
 .simp(disch:=try exact Y)only[Wz,s1,f_ (show(i:Int)<(L.length:Int)by omega)];refine⟨λk l5 h5=>∃(j:Nat)(D:List L4),ah l5 35=X8 (j:Int)/\j<=i/\k=j/\D.Perm L/\LC b h h5/\h5.bl.get b=some (aj (D.flatMap dn) 46 true),⟨_,i,D,rfl,Nat.le_refl _,rfl,hp1,hle1,g1⟩,?_⟩;rintro k l5 h5 ⟨j,E,s5,hj,rfl,hpE,fR,g5⟩;have n5:=fR.nx;have l5':=fR.lo;have hlE:E.length=L.length:=hpE.length_eq;by_cases hj0:k=0
  .subst hj0;simp(disch:=try exact Y)only[Wz,Bu,s5,s1];exact⟨_,X1,i+1,E,rfl,X1,rfl,hpE,fR,g5⟩
  .obtain⟨j,rfl⟩:∃j,k=j+1:=⟨k-1,X1⟩
   have e1:((j+1:Nat):Int)-1=(j:Nat):=by omega
   obtain⟨x,hx⟩:∃x,E[j+1]? = some x:=⟨_,List.getElem?_eq_getElem X1⟩
   obtain⟨y,hy⟩:∃y,E[j]? = some y:=⟨_,List.getElem?_eq_getElem X1⟩
   have r1:=rdE dD g5 hx;have r2:=rdE dD g5 hy;simp(disch:=try exact Y)only[Wz,Bu,s5,e1,bB,r1,r2];refine hF x y h5 _ fR ?_;intro c h6 mB;have n6:=mB.nx;have l6:=mB.lo;have g6:=(mB.get b X1).trans g5;have aa7:=fR.trans (LC.of_le mB);by_cases hc:c<0
   .have Xf:=Hj dD (p':=y) hx;have hy2:(E.set (j+1) y)[j]? = some y:=by rw[List.getElem?_set,if_neg X1];exact hy
    have nJ:=Hj dD (p':=x) hy2;have Qu:=bH dD E;have hf2:=bH dD (E.set (j+1) y);rw[List.length_set]at hf2;have r3:=rdE dD g6 hx;have r4:=rdE dD g6 hy;simp only[dn]at Xf nJ;simp(disch:=try exact Y)only[Wz,bz hc,IB,s5,e1,bB,r3,r4,dn];simp(disch:=try exact Y)only[Wz,g6,Xf,nJ];refine⟨_,X1,j,(E.set (j+1) y).set j x,rfl,X1,rfl,(swap_perm hx hy).trans hpE,aa7.trans (LC.set (Le.refl h6) _),rfl⟩
   .simp(disch:=try exact Y)only[Wz,bf hc,s1];exact⟨_,X1,i+1,E,rfl,X1,rfl,hpE,aa7,g6⟩
 .simp(disch:=try exact Y)only[Wz,s1,d_ (show(L.length:Int)<=(i:Int)by omega)];exact hk D h1 hp1 hle1 g1
theorem agd(p q:L4)(h:af)(V:KQ)(hlo:h.lo<=h.nx)(hk:∀i h',Le h h'->V (X8 i) h'):av prog 272 [.agg ⟨[]⟩,zx p,zx q] h V:=by
 apply X9;rw[adU];simp(disch:=try exact Y)only[Wz,dn];have hle:=(((Le.refl h).new (aj [] 364 false)).new (aj [X8 p.x,X8 p.t,X8 p.r,X8 p.m] 46 false)).new (aj [X8 q.x,X8 q.t,X8 q.r,X8 q.m] 46 false);have hk:=λi=>hk i _ hle;have c1:=qz p.t p.r;have c2:=qz q.t q.r;refine lH q.t q.r ?_;simp(disch:=try exact Y)only[Wz];refine lH p.t p.r ?_;by_cases hz:br q.t q.r-br p.t p.r=0
 .simp(disch:=try exact Y)only[Wz,bz hz];exact oR _ _ _ _ (hk _)
 .simp(disch:=try exact Y)only[Wz,bf hz];exact hk _
theorem age(p q:L4)(b:Nat)(h:af)(V:KQ)(hlo:h.lo<=h.nx)(hb:b<h.nx)(hg:h.bl.get b=some (aj [.func (.func 272) ⟨[]⟩ ⟨[]⟩] 362 false))(hk:∀i h',Le h h'->V (X8 i) h'):av prog 274 [zx p,zx q,ax b] h V:=by
 apply X9;rw[adW];simp(disch:=try exact Y)only[Wz,dn,hg];refine agd p q _ V (by show h.lo<=h.nx+1+1;omega) ?_;intro i h' hle;exact hk i h' ((((Le.refl h).new _).new _).trans hle)
theorem Vr(v fv:Value)(n:Nat)(hn:n<20)(h:af)(V:KQ)(hk:av prog 245 [v,X8 0,X8 (n:Int),fv] h λ_ h'=>V (.tuple ⟨[]⟩) h'):av prog 331 [v,X8 (n:Int),fv] h V:=by
 apply X9;rw[aeg];refine⟨λn l h1=>HQ h h1/\ah l 13=X8 20/\ah l 9=X8 0,⟨0,rfl,rfl,rfl⟩,?_⟩;rintro _ l h1 ⟨hE,s1,s2⟩;cases(show h=h1 from hE);simp(disch:=try exact Y)only[Wz,s1,s2,IN];refine av.mono hk ?_;intro _ h2 hk2;refine⟨λn l h1=>HQ h2 h1/\ah l 38=X8 20,⟨0,rfl,rfl⟩,?_⟩;rintro _ l h3 ⟨hE,s1⟩;cases(show h2=h3 from hE);simp(disch:=try exact Y)only[Wz,s1];exact hk2
theorem agf(p:L4)(hok:br p.t p.r≠-1)(h:af)(V:KQ)(hlo:h.lo<=h.nx)(hk:∀h',Le h h'->V (.bool false) h'):av prog 271 [zx p] h V:=by
 apply X9;rw[adT];simp(disch:=try exact Y)only[Wz,dn];refine qt p.t p.r ?_;rw[if_neg hok];simp(disch:=try exact Y)only[Wz];exact hk _ ((Le.refl h).new _)
theorem FM(L:List L4)(h:af)(v fv:Value)(V:KQ)(hv:Sl dn h v L)(hlen:L.length<=100000)(hF:∀p,p∈L->∀(h1:af)(κ1:Value->af->Prop),Le h h1->(∀h2,Le h1 h2->κ1 (.bool false) h2)->gu prog fv [zx p] h1 κ1)(hk:∀h',Le h h'->V v h'):av prog 264 [v,fv] h V:=by
 apply X9;rw[Vm];unfold fm;refine Cs L (λ_=>false) h v fv _ hv X1 hF ?_;intro h1 hle1;have e:L.findIdx? (λ_=>false)=none:=by rw[List.findIdx?_eq_none_iff];intro _ _;rfl
 simp only[e,gY];simp(disch:=try exact Y)only[Wz];exact hk h1 hle1
theorem sJ(f:Fn)(a b:Array Value):(Value.cells (.func f a b)).toList=[.func f a b]:=id rfl
theorem Zb(L:List L4)(h:af)(v:Value)(V:KQ)(hv:Sl dn h v L)(hlen:L.length<20)(hlo:h.lo<=h.nx)(hok:∀p∈L,br p.t p.r≠-1)(hk:∀(D:List L4) v' h',D.Perm L->gJ dn 4 46 h' v' D->Le h h'->V v' h'):av prog 192 [v] h V:=by
 apply X9;rw[ado];refine wP L h v _ hv X1 hlo ?_;intro v2 h2 nJ hle2;have n2:=hle2.nx;have l2:=hle2.lo;refine FM L h2 v2 _ _ nJ.sl X1 ?_ ?_
 .intro p hp h3 κ3 cD xG;have n3:=cD.nx;have l3:=cD.lo;simp(disch:=try exact Y)only[Wz,List.nil_append,List.append_nil];exact agf p (hok p hp) h3 κ3 X1 xG
 intro h3 cD;have n3:=cD.nx;have l3:=cD.lo;have tM:=nJ.le cD;simp(disch:=try exact Y)only[Wz,sJ];obtain⟨hA,aY,aU,gA,dI,dJ⟩:=kG h3 (aj [.func (.func 272) ⟨[]⟩ ⟨[]⟩] 362 false);rw[<-aY];clear aY;have J_:=(hle2.trans cD).trans aU;apply X9;rw[adV];simp(disch:=try exact Y)only[Wz,tM.sl.len];refine Vr v2 _ L.length hlen hA _ ?_;rcases tM.le aU with⟨rfl,W_⟩|⟨b,rfl,b1,b2,b3,b4⟩
 ·have agh:∀(v fv:Value)(h:af)(V:KQ),V (.tuple ⟨[]⟩) h->av prog 245 [v,X8 0,X8 0,fv] h V:=by
   intro v fv h V hk;apply X9;rw[TW];simp(disch:=try exact Y)only[Wz];refine⟨λn l h1=>HQ h h1/\ah l 42=X8 1,⟨0,rfl,rfl⟩,?_⟩;rintro n l h1 ⟨hE,s1⟩;cases(show h=h1 from hE);simp(disch:=try exact Y)only[Wz,s1];exact hk
  refine agh _ _ _ _ ?_;exact hk [] v2 hA (List.Perm.refl _) (.own (.inl ⟨rfl,W_⟩:FF h hA v2 [])) J_
 ·have hbA:b<h3.nx:=by
   rcases tM with⟨_,e|⟨_,_,e⟩⟩|⟨b',e,_,c2,_⟩
   .simp at e
   .simp[aZ]at e
   .simp at e;omega
  refine Vq b L hA _ _ b4 b2 b3 X1 ?_ ?_
  .intro p q h4 κ4 dy wZ;have n4:=dy.nx;have l4:=dy.lo;simp(disch:=try exact Y)only[Wz,List.nil_append];exact age p q h3.nx h4 κ4 X1 X1 ((dy.get h3.nx X1 X1).trans gA) wZ
  .intro D h4 p1 dy g4;have hlD:=p1.length_eq;have n4:=dy.nx;have l4:=dy.lo;have atm:Le h h4:=⟨by have:=J_.nx;omega,by rw[l4];exact J_.lo,λc hc=>(dy.get c (by have:=J_.nx;omega) X1).trans (J_.get c hc)⟩
   refine hk D _ h4 p1 (gJ.own (a:=h) (.inr ⟨b,by rw[hlD],b1,X1,X1,g4⟩)) atm
section
variable {h:af}{A:WA}{a:TA}{N:Nat}{d:TD}{R:RD}{H X:Int->Int->Int}
theorem Zc(s:Dh h a N d)(L:Lone d.Ts H X)(hlo:h.lo<=h.nx)(hN:N<=1000){k:Nat}{b:TB}(hb:d.Ts[k]? = some b){t r m:Int}(hst:eN t r a.c.S=(k:Int))(hH:H t r=0)(am:cE m=true)(hf:d.F=[]\/a.bh<=b.M.length)(V:KQ)(hk:∀h',Le h h'->V (.tuple ⟨[X8 0,.bool false,X8 8]⟩) h'):av prog 301 [UV a.tb,dg t r,X8 (X t r),X8 m] h V:=by
 have hno:=L.no hH;refine OU s hlo hN t r (X t r) m _ ?_ ?_ ?_ ?_ ?_
 .intro h' hn;omega
 .intro k' b' h' _ _ hf;rw[am]at hf;cases hf
 .intro k' b' h' e p hb' _ _ he ht hr;exact absurd ⟨ht,hr⟩ (hno b' (List.mem_of_getElem? hb') e he)
 .intro k' b' h' _ _ _ _ _ le;exact hk h' le
 .intro k' b' M' clock' F' W' Cd h0 h1 h' n g hb' Dj _ _ _ ak s' fr;obtain rfl:k'=k:=by omega
  rw[hb]at hb';cases hb';exfalso;rcases hf with e|e
  .have:=ak.free.length_eq;rw[e]at this;simp at this
  .obtain⟨Q,w,hold,_⟩:=ak.set;rcases hold with⟨e',he,h1,h2,_⟩|⟨_,h2,_⟩
   .exact hno b (List.mem_of_getElem? hb) e' he ⟨h1.symm,h2.symm⟩
   .omega
theorem Ka(s:WS h A a N d R)(L:Lone d.Ts H X)(hN:N<=1000){i k:Nat}{c:CR}(hi:R.cs[i]? = some (some c)){b:TB}(hb:d.Ts[k]? = some b)(hst:eN c.a.t c.a.r a.c.S=(k:Int))(hx:c.a.x=X c.a.t c.a.r)(hx0:0<=c.a.x)(km:kn c.a.m=true)(hm:c.a.m≠0)(hH:H c.a.t c.a.r=0)(hf:d.F=[]\/a.bh<=b.M.length)(CE:List Value)(hl:ah CE 19=X8 (H c.a.t c.a.r))(id:Int)(V:KQ)(hk:∀h',WS h' A a N d { R with cs:=R.cs.set i (some { c with out:=5 }) }->WK a h h'->V (.tuple ⟨[]⟩) h'):sn (UV c.ca) CE (X8 id) h V:=by
 obtain⟨gc,c1,c2⟩:=b6 s hi;have gc':=gc;unfold cF at gc';have gw:=s.r.gw;unfold sn;simp(disch:=try exact Y)only[Wz,hl,aN,gc',gw];refine yR _ _ ?_;simp(disch:=try exact Y)only[Wz,aN,gc',gw];refine Cm s L c.a.t c.a.r _ ?_;intro v Q h1 hQ hv bN;obtain⟨vx,vc,ev,_⟩:=(show Sl bT h1 v Q from hv)
 have hlen:∀(β:Type)(fl:β)(h':af)(V:X3 β),bU fl v h' V=V (X8 (Q.length:Int)) h':=λβ fl h' V=>by rw[ev];exact iR _ _ _ _ _
 have hQl:Q.length<=1:=by rcases hQ with rfl|⟨_,_,rfl⟩<;>simp
 simp(disch:=try exact Y)only[Wz,hlen];refine⟨λn l h2=>∃j:Nat,ah l 29=X8 (j:Int)/\n=Q.length-j/\j<=Q.length/\Le h1 h2,⟨_,0,rfl,rfl,X1,Le.refl _⟩,?_⟩;rintro n l h2 ⟨j,s1,rfl,hj,bD⟩;have n2:=bD.nx;have l2:=bD.lo;have n1:=bN.nx;have l1:=bN.lo;have hlo:=s.lo;by_cases hlt:j<Q.length
 .obtain⟨p,hp⟩:∃p,Q[j]? = some p:=⟨_,List.getElem?_eq_getElem hlt⟩
  obtain⟨b4,o4,hb4,hx4,WQ,_⟩:=WJ hv j hp;have hpx:0<=p.x:=by
   have hm:=List.mem_of_getElem? hp;rcases hQ with rfl|⟨i',m',rfl⟩
   .nomatch hm
   .rw[List.mem_singleton]at hm;subst hm;show 0<=X c.a.t c.a.r;omega
  rw[<-bD.get _ hb4]at WQ;simp(disch:=try exact Y)only[Wz,sk,s1,f_ (show(j:Int)<(Q.length:Int)by omega)];refine⟨λl' h'=>Le h1 h',?_,?_⟩
  .simp(disch:=try exact Y)only[Wz,Bo,s1,hx4,WQ,bT,d_ (show(0:Int)<=p.x by omega)];exact bD.trans ((Le.refl h2).new _)
  .intro l' h' le';exact⟨_,X1,j+1,rfl,rfl,X1,le'⟩
 ·have mD:=bN.trans bD;have s2:=s.le mD;have wB:=(mD.get _ c1).trans gc;have yf:=wB;unfold cF at yf;have WW:=s2.r.gw;have k02:=s.OX mD;simp(disch:=try exact Y)only[Wz,sk,s1,d_ (show(Q.length:Int)<=(j:Int)by omega),Br,aN,yf,hl];refine qk _ _ ?_;have fin:∀h',WS h' A a N d R->WK a h h'->V (.tuple ⟨[]⟩) ⟨h'.nx,h'.bl.a_ c.ca (cF A.wb { c with out:=5 }),h'.lo⟩:=λh' s' w'=>by
   obtain⟨wK,_,_⟩:=b6 s' hi;exact hk _ (WS.jt s' hi rfl) (w'.trans (WS.wJ s' wK (by simp[ki]) X7 _))
  unfold cF at fin;have JZ:mU (H c.a.t c.a.r) c.a.m=false:=by
   cases hc:mU (H c.a.t c.a.r) c.a.m with
   |false=>rfl
   |true=>rw[hH]at hc;exact absurd (acg hc) hm
  rw[JZ];simp(disch:=try exact Y)only[Wz];refine⟨λl' h'=>ah l' 39=.bool false/\ah l' 40=X8 8/\WS h' A a N d R/\WK a h h',?_,?_⟩
  .have am:cE c.a.m=true:=(kR _).2 ⟨hm,km⟩;rw[hH,Vb km];simp(disch:=try exact Y)only[Wz,hl,hH,Bp,aN,yf,WW];rw[hx];refine Zc s2.t L X1 hN hb hst hH am hf _ ?_;intro h3 dM;simp(disch:=try exact Y)only[Wz];exact⟨trivial,trivial,s2.le dM,k02.trans (s2.OX dM)⟩
  .rintro l' h3 ⟨e1,e2,s3,k3⟩;obtain⟨wK,_,_⟩:=b6 s3 hi;unfold cF at wK;simp(disch:=try exact Y)only[Wz,Bq,e2,aN,wK];exact fin h3 s3 k3
theorem Zd(s:WS h A a N d R)(L:Lone d.Ts H X)(hN:N<=1000){i k:Nat}{c:CR}(hi:R.cs[i]? = some (some c)){b:TB}(hb:d.Ts[k]? = some b)(hst:eN c.a.t c.a.r a.c.S=(k:Int))(hx:c.a.x=X c.a.t c.a.r)(hx0:0<=c.a.x)(km:kn c.a.m=true)(hm:c.a.m≠0)(hH:H c.a.t c.a.r=0)(hf:d.F=[]\/a.bh<=b.M.length)(V:KQ)(hk:∀h',WS h' A a N d { R with cs:=R.cs.set i (some { c with out:=5 }) }->WK a h h'->V (.tuple ⟨[]⟩) h'):av prog 212 [UV c.ca] h V:=by
 obtain⟨gc,c1,c2⟩:=b6 s hi;have gc':=gc;unfold cF at gc';have gw:=s.r.gw;have hlo:=s.lo;apply X9;rw[TV];simp(disch:=try exact Y)only[Wz,aN,gc',gw];rw[hx];refine wM s.t L hlo c.a.t c.a.r _ ?_ (λh=>absurd hH h);intro _ h1 bN;have s1:=s.le bN;simp(disch:=try exact Y)only[Wz];refine⟨λl' h'=>ah l' 19=X8 (H c.a.t c.a.r)/\Le h1 h',⟨by rw[hH];rfl,Le.refl _⟩,?_⟩;rintro l' h2 ⟨sl,bD⟩;exact Ka (s1.le bD) L hN hi hb hst hx hx0 km hm hH hf l' sl 0 V λh' s' k'=>hk h' s' ((s.OX (bN.trans bD)).trans k')
theorem Ze(s:WS h A a N d R)(L:Lone d.Ts H X)(hN:N<=1000){i k:Nat}{c:CR}(hi:R.cs[i]? = some (some c))(xF:c.wt=false){b:TB}(hb:d.Ts[k]? = some b)(hst:eN c.a.t c.a.r a.c.S=(k:Int))(hx:c.a.x=X c.a.t c.a.r)(hx0:0<=c.a.x)(hm:pG c.a=true)(h1:c.a.k=1)(hH:H c.a.t c.a.r=0)(hf:d.F=[]\/a.bh<=b.M.length)(V:KQ)(hk:∀h',WS h' A a N d { R with cs:=R.cs.set i (some { c with ph:=3,out:=5 }) }->WK a h h'->V (.tuple ⟨[]⟩) h'):av prog 106 [UV c.ca] h V:=by
 obtain⟨gc,c1,c2⟩:=b6 s hi;have gc':=gc;unfold cF at gc';have hlo:=s.lo;have hil:=(List.getElem?_eq_some_iff.1 hi).1;unfold pG at hm;rw[Bool.and_eq_true]at hm;have hm:=hm.2
 have fin:∀h',WS h' A a N d { R with cs:=R.cs.set i (some { c with out:=5 }) }->WK a h h'->
   av prog 57 [UV c.ca,X8 3,.func (.func 159) ⟨[UV c.ca]⟩ ⟨[]⟩] h' (λ_ h=>V (.tuple ⟨[]⟩) h):=by
  intro h' s' k';have hi':(R.cs.set i (some { c with out:=5 }))[i]? = some (some { c with out:=5 }):=by rw[List.getElem?_set,if_pos rfl,if_pos hil]
  obtain⟨wK,_,c3⟩:=b6 s' hi';refine FI { c with out:=5 } wK c3 3 _ rfl _ ?_;have s4:=WS.jt s' hi' (c':={ c with ph:=3,out:=5 }) rfl;simp only[List.set_set]at s4;exact hk _ s4 (k'.trans (WS.wJ s' wK (by simp[ki]) X7 _))
 apply X9;rw[LQ];refine⟨λl' h'=>WS h' A a N d { R with cs:=R.cs.set i (some { c with out:=5 }) }/\WK a h h',?_,?_⟩
 .simp(disch:=try exact Y)only[Wz,vT,aN,gc',xF,vS];refine Mp h _ hlo ?_;intro b0 hz lez g0;have s1:=s.le lez;have k1:=s.OX lez;have Ad:=(lez.get _ c1).trans gc';rw[if_pos h1]at hm;rw[Bool.and_eq_true,Bool.and_eq_true,decide_eq_true_eq]at hm;simp(disch:=try exact Y)only[Wz,Vd g0 _ _ (.inl ⟨h1,rfl⟩),aN,Ad,List.nil_append,List.append_nil];refine Zd s1 L hN hi hb hst hx hx0 hm.1.1 hm.1.2 hH hf _ ?_;intro h3 s2 k2;rw[xF]at s2;exact⟨s2,k1.trans k2⟩
 .rintro l' h' ⟨s',k'⟩;exact fin h' s' k'
theorem Kb(s:WS h A a N d R)(L:Lone d.Ts H X)(hN:N<=1000){i k:Nat}{c:CR}(hi:R.cs[i]? = some (some c))(wL:c.ph=2)(hbi:R.bits[i]? = some 0)(xF:c.wt=false){b:TB}(hb:d.Ts[k]? = some b)(hst:eN c.a.t c.a.r a.c.S=(k:Int))(hsk:c.st=(k:Int)){o:Option (Nat × Int)}(hl:R.eO[k]? = some o)(hx:c.a.x=X c.a.t c.a.r)(hx0:0<=c.a.x)(hm:pG c.a=true)(h1:c.a.k=1)(hH:H c.a.t c.a.r=0)(hf:d.F=[]\/a.bh<=b.M.length)(V:KQ)(hk:∀h',WS h' A a N d { R with cs:=R.cs.set i (some { c with ph:=3,out:=5 }) }->WK a h h'->V (.tuple ⟨[.bool false,X8 0,X8 0]⟩) h'):av prog 15 [UV A.wb,X8 (i:Int)] h V:=by
 have gw:=s.r.gw;have YU:=s.r.gc;have hil:=y8 s hi;have r:(R.cs.map λo=>dF (o.map (·.ca)))[i]? = some (UV c.ca):=kV s hi;obtain⟨gc,c1,c2⟩:=b6 s hi;have hlc:(R.cs.map λo=>dF (o.map (·.ca))).length=A.n:=by rw[List.length_map];exact s.r.lc
 have gc':=gc;unfold cF yZ at gc';rw[wL]at gc';have h2:decide (((2:Nat):Int)=1)=false:=by decide
 apply X9;rw[Hr];simp(disch:=try exact Y)only[Wz,ko,tw];refine nV s hil _ ?_;simp(disch:=try exact Y)only[Wz];refine oT s hi hbi hsk hl _ ?_;rw[wL,h2];simp(disch:=try exact Y)only[Wz,Bool.not_false,Bool.true_or,tu,aN,gw,bB,YU,r,gc',Nat.mul_one,qQ];refine Ze s L hN hi xF hb hst hx hx0 hm h1 hH hf _ ?_;intro h' s' k';have hi':(R.cs.set i (some { c with ph:=3,out:=5 }))[i]? = some (some { c with ph:=3,out:=5 }):=by rw[List.getElem?_set,if_pos rfl,if_pos (by have:=s.r.lc;omega)]
 obtain⟨wB,_,_⟩:=b6 s' hi';unfold cF at wB;simp(disch:=try exact Y)only[Wz,aN,wB];exact hk h' s' k'
end
section
variable {h:af}{A:WA}{a:TA}{N:Nat}{d:TD}{R:RD}{H X:Int->Int->Int}
end
end Go.Proofs
end
