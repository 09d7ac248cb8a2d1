/-
  PROVED HERE: a part of the proof (S11, S12, S13, N4, U14, U15, U16, U18, N5, N6, S14, S15, S16, S17, S18, S19, S20, S21, S22, S23, S24, S25, S26, AA1, IX, IW2, IW3, VaiI, IW5, AA2, AA3, AA4, SB1, SB2).
-/
import Derived.Test.YtmllggkhfmjpgaaGreatDoorG6
import Derived.Test.YtmllggkhfmjpgaaGreatDoorRZ
import Derived.Test.YtmllggkhfmjpgaaGreatDoorG3
import Derived.Test.YtmllggkhfmjpgaaGreatDoorG2
import Derived.Test.YtmllggkhfmjpgaaGreatDoorG4
import Derived.Shelf.RegionOpenPlain
import Derived.Shelf.Spec.SlicesInsert
import Derived.WalkKit
import Derived.Lib.Walk
import Derived.Lib.AppendZeros
import Derived.Laws.Externs
import Derived.Lib.Overlaps
import Derived.Deep.WholeRow
import Derived.Test.YtmllggkhfmjpgaaGreatDoorG0
set_option linter.unusedVariables false
set_option linter.unusedSimpArgs false
set_option maxRecDepth 100000
set_option maxHeartbeats 4000000
noncomputable section
namespace Go.Proofs
open Go.Vai Go.Clashes
open Tryz (prog)
theorem gf{v v':List Value}{t t':TypeId}{o o':Bool}(e:(some (aa v t o):Option bD)=some (aa v' t' o')):t=t'/\o=o':=by
 have ht:t=t':=Classical.byContradiction λhn=>bz hn e;subst ht;refine⟨rfl,?_⟩;cases o<;>cases o'
 .rfl
 .exact absurd e bx
 .exact absurd e.symm bx
 .rfl
structure WK(a:TA)(h h':Heap):Prop where
 nx:h.nx<=h'.nx
 lo:h'.lo=h.lo
 ty:∀d vs t o,d<h.nx->h.bl.get d=some (aa vs t o)->¬lZ t o->¬jO t o->h'.bl.get d=h.bl.get d
 oi:∀d vs,d<h.nx->h.bl.get d=some (aa vs 3 true)->¬FB h a.bp d->h'.bl.get d=h.bl.get d
 mv:∀d,d<h.nx->FB h' a.bp d->FB h a.bp d
 ro:∀d,d<h.nx->(∀vs t o,h.bl.get d≠some (aa vs t o))->(∀es c,h.bl.get d≠some (.map es c))->h'.bl.get d=h.bl.get d
 mp:∀d es c,d<h.nx->h.bl.get d=some (.map es c)->d∉a.ms->h'.bl.get d=h.bl.get d
theorem WK.trans{a:TA}{h h1 h2:Heap}(x:WK a h h1)(y:WK a h1 h2):WK a h h2 where
 nx:=Nat.le_trans x.nx y.nx
 lo:=y.lo.trans x.lo
 ty d vs t o hd hg ht hr:=by
  have e:=x.ty d vs t o hd hg ht hr;exact(y.ty d vs t o (Nat.lt_of_lt_of_le hd x.nx) (e.trans hg) ht hr).trans e
 oi d vs hd hg hf:=by
  have e:=x.oi d vs hd hg hf;exact(y.oi d vs (Nat.lt_of_lt_of_le hd x.nx) (e.trans hg) (λf=>hf (x.mv d hd f))).trans e
 mv d hd f:=x.mv d hd (y.mv d (Nat.lt_of_lt_of_le hd x.nx) f)
 ro d hd h1 h2:=by
  have e:=x.ro d hd h1 h2;exact(y.ro d (Nat.lt_of_lt_of_le hd x.nx) (λvs t o=>by rw[e];exact h1 vs t o) (λes c=>by rw[e];exact h2 es c)).trans e
 mp d es c hd hg hn:=by
  have e:=x.mp d es c hd hg hn;exact(y.mp d es c (Nat.lt_of_lt_of_le hd x.nx) (e.trans hg) hn).trans e
section
variable {h h':Heap}{A:WA}{a:TA}{N:Nat}{d:TD}{R:RD}
theorem WS.bp(s:WS h A a N d R):∃fs ls,a.bp<h.nx/\h.bl.get a.bp=some (aa [fs,ls] 286 false):=by
 obtain⟨fs,hg,_⟩:=s.t.is.aX.fr.cell;exact⟨fs,_,s.t.is.aX.fr.lt,hg⟩
theorem WS.Mp(s:WS h A a N d R)(l:Le h h'):WK a h h':=by
 obtain⟨_,_,hb,_⟩:=s.bp;exact⟨l.nx,l.lo,λd _ _ _ hd _ _ _=>l.get d hd,λd _ hd _ _=>l.get d hd,λd _ f=>(FB.congr (l.get _ hb)).1 f,λd hd _ _=>l.get d hd,λd _ _ hd _ _=>l.get d hd⟩
theorem WS.uX(s:WS h A a N d R){x:Nat}{v:List Value}{t:TypeId}{o:Bool}(hg:h.bl.get x=some (aa v t o))(hr:jO t o)(hp:t≠286)(ob:bD):WK a h ⟨h.nx,h.bl.aV x ob,h.lo⟩:=by
 obtain⟨fs,ls,hb,gb⟩:=s.bp;have Xo:x≠a.bp:=de hg gb hp;refine⟨Nat.le_refl _,rfl,λd vs t' o' hd hgd _ hn=>T.aj _ _ ?_,λd vs hd hgd _=>T.aj _ _ ?_,λd _ f=>(FB.congr (T.aj _ _ Xo)).1 f,λd hd h1 _=>T.aj _ _ ?_,λd _ _ _ hgd _=>T.aj _ _ (dh hg hgd)⟩
 .rintro rfl;rw[hg]at hgd;by_cases ht:t=t'
  .subst ht;cases o<;>cases o'
   .exact hn hr
   .exact bx hgd
   .exact bx hgd.symm
   .exact hn hr
  .exact bz ht hgd
 .rintro rfl;rw[hg]at hgd;rcases hr with e|e|e|e|e|e|e|e|⟨e,e'⟩<;>subst e<;>first|exact bz (by decide) hgd|(subst e';exact bx hgd)
 .rintro rfl;exact h1 _ _ _ hg
theorem WS.kfr(s:WS h A a N d R)(f:wD d.Ts a.bw a.bp a.bl h h'):WK a h h':=by
 obtain⟨fs,ls,hb,gb⟩:=s.bp;have gl:=s.t.is.aX.cell;have gw:=s.t.is.pq;refine⟨f.nx,f.lo,λx vs t o hx hg ht _=>f.get x hx (λb hb=>dh hg (s.t.is.bk b hb).gu) (dh hg gw) ?_ ?_ ?_,λx vs hx hg hn=>f.g2 hb x hx (λb hb=>dh hg (s.t.is.bk b hb).gu) (dh hg gw) (de hg gb (by decide)) (de hg gl (by decide)) hn,f.mv hb,λx hx h1 h2=>f.get x hx ?_ ?_ ?_ ?_ λvs=>h1 vs _ _,λx es c hx hg hn=>f.get x hx (λb hb e=>hn (e▸s.mi.2.2 b hb)) (λe=>hn (e▸s.mi.2.1)) (λe=>dh gb hg e.symm) (λe=>dh gl hg e.symm) λvs=>by rw[hg];exact bQ⟩
 ·rintro rfl;rw[hg]at gb;exact ht (by
   by_cases e:t=286
   .subst e;simp[lZ]
   .exact absurd gb (bz e))
 ·rintro rfl;rw[hg]at gl;exact ht (by
   by_cases e:t=4
   .subst e;simp[lZ]
   .exact absurd gl (bz e))
 .intro ws hw;rw[hg]at hw;by_cases e:t=3
  .subst e;cases o
   .exact bx hw
   .exact ht (by simp[lZ])
  .exact bz e hw
 .intro b hb e;subst e;exact h2 _ _ (s.t.is.bk b hb).gu
 .rintro rfl;exact h2 _ _ gw
 .rintro rfl;exact h1 _ _ _ gb
 .rintro rfl;exact h1 _ _ _ gl
theorem Sv(s:WS h A a N d R)(hf:∀b,b<h.nx->b≠A.hb->h'.bl.get b=h.bl.get b)(hn:h.nx<=h'.nx)(hl:h'.lo=h.lo):WK a h h':=by
 obtain⟨fs,ls,hb,gb⟩:=s.bp;have gh:=s.r.gh;refine⟨hn,hl,λx vs t o hx hg ht hr=>hf x hx ?_,λx vs hx hg _=>hf x hx ?_,λx _ f=>(FB.congr (hf _ hb (de gb gh (by decide)))).1 f,λx hx h1 _=>hf x hx ?_,λx es c hx hg _=>hf x hx λe=>dh gh hg e.symm⟩
 .rintro rfl;rw[gh]at hg;by_cases e:251=t
  .subst e;exact hr (by simp[jO])
  .exact bz e hg
 .rintro rfl;rw[gh]at hg;exact bz (by decide) hg
 .rintro rfl;exact h1 _ _ _ gh
end
section
variable {h:Heap}{A:WA}{a:TA}{N:Nat}{d:TD}{R:RD}
theorem Sw(s:WS h A a N d R){i k:Nat}{c:CR}(hi:R.cs[i]? = some (some c))(hst:c.st=(k:Int))(BW:0<=c.th/\c.th<8)(hl:R.dS[k]? = some none)(V:KQ)(hk:∀h',WS h' A a N d { R with dS:=R.dS.set k (some (h.nx,c.th)),cs:=R.cs.set i (some { c with ph:=2 }) }->WK a h h'->V (.tuple ⟨[]⟩) h'):CallW prog 58 [.pointer (some ⟨c.ca,0,none⟩)] h V:=by
 obtain⟨gc,c1,c2⟩:=bO s hi;have gw:=s.r.gw;have hlo:=s.lo;have gc':=gc;unfold bZ at gc';refine av mixed ?_;rw[agC];simp(disch:=try exact Y)only[Wz,aG,gc',gw,hst];refine ac_ s.r.gl s.r.gh s.r.lth s.r.Mo hl BW _ ?_;have s1:=s.le ((Le.refl h).new (aa [.int .i64 c.th] 253 false));have s2:=s1.DZ (R.dS.set k (some (h.nx,c.th))) (List.length_set ..) (λp hp=>by
  rcases List.mem_or_eq_of_mem_set hp with hp|hp
  .obtain⟨k1,k2⟩:=s1.r.ho p hp;exact⟨k1,k2⟩
  .cases hp;exact⟨Nat.lt_succ_self _,T.ah _ _ _⟩)
 obtain⟨h2,e2⟩:∃h2:Heap,h2=⟨h.nx+1,(h.bl.aV h.nx (aa [.int .i64 c.th] 253 false)).aV A.hb (aa (ql (R.dS.set k (some (h.nx,c.th)))) 251 false),h.lo⟩:=⟨_,rfl⟩
 have s2:WS h2 A a N d { R with dS:=R.dS.set k (some (h.nx,c.th)) }:=by rw[e2];exact s2
 have f2:∀b,b<h.nx->b≠A.hb->h2.bl.get b=h.bl.get b:=λb hb hn=>by rw[e2];exact(T.aj _ _ (λe=>hn e.symm)).trans (T.aj _ _ (by omega))
 have n2:h2.nx=h.nx+1:=by rw[e2]
 have l2:h2.lo=h.lo:=by rw[e2]
 rw[<-e2];clear e2;obtain⟨uQ,c12,c22⟩:=bO (R:={ R with dS:=R.dS.set k (some (h.nx,c.th)) }) s2 hi;refine D0 c uQ c22 2 _ rfl _ ?_;exact hk _ (WS.iT (R:={ R with dS:=R.dS.set k (some (h.nx,c.th)) }) s2 hi rfl) ((Sv s f2 (by omega) l2).trans (WS.uX s2 uQ (by simp[jO]) (by decide) _))
theorem RW.other{tb:Nat}{dS:List (Option (Nat × Int))}{bits:List Int}{now:Int}{tv:Value}{cs:List (Option CR)}{wm:List IE}{AX:Nat}{begun:Int}(s:RW h A tb dS bits now tv cs wm AX begun){x:Nat}{v:List Value}{o:Bool}(hg:h.bl.get x=some (aa v 128 o))(hn:∀c,some c∈cs->c.ca≠x)(ob:bD):RW ⟨h.nx,h.bl.aV x ob,h.lo⟩ A tb dS bits now tv cs wm AX begun:=by
 have up:∀{b:Nat}{v:List Value}{t:TypeId}{o:Bool},h.bl.get b=some (aa v t o)->128≠t->(h.bl.aV x ob).get b=some (aa v t o):=λhb hn=>(T.aj _ _ (de hg hb hn)).trans hb;exact⟨s.BT,up s.gw (by decide),s.Mo,up s.gl (by decide),s.lth,up s.gh (by decide),λp hp=>⟨(s.ho p hp).1,up (s.ho p hp).2 (by decide)⟩,s.Sn,up s.gp (by decide),s.lti,up s.gi (by decide),s.li,s.ltk,up s.gk (by decide),s.Yu,up s.gc (by decide),s.lc,λc hc=>⟨(s.ca c hc).1,(s.ca c hc).2.1,(T.aj _ _ (λe=>hn c hc e.symm)).trans (s.ca c hc).2.2⟩,s.kO,(T.aj _ _ (dh hg s.gm)).trans s.gm,s.nn,s.dc⟩
theorem WS.other(s:WS h A a N d R){x:Nat}{v:List Value}{o:Bool}(hg:h.bl.get x=some (aa v 128 o))(hn:∀c,some c∈R.cs->c.ca≠x)(ob:bD):WS ⟨h.nx,h.bl.aV x ob,h.lo⟩ A a N d R:=
 ⟨BV.St s.t hg (nTy (by decide) (by decide) (by decide) (by decide) (by decide) (by decide) (by decide) (by decide)) _,s.r.other hg hn ob,s.mw,s.mm,s.mi,s.lo⟩
def A2(wb:Nat)(c:CR):bD:=aa [.int .i64 c.a.k,.int .i64 c.a.x,.int .i64 c.a.t,.int .i64 c.a.r,.int .i64 c.a.m,.int .i64 c.a.w,.int .i64 c.a.to,.pointer (some ⟨wb,0,none⟩),.int .i64 c.th,.int .i64 c.no,.int .i64 c.st,xD c.ph c.ca,.int .i64 (c.ph:Int),.bool c.wt,.int .i64 c.id,.int .i64 c.cs,.int .i64 c.out,.bool true,.slice none 0 0] 128 false
theorem V6(s:WS h A a N d R){i k p:Nat}{c:CR}(hi:R.cs[i]? = some (some c))(hst:c.st=(k:Int))(BW:c.th=(i:Int))(hout:c.out≠0)(hl:R.dS[k]? = some (some (p,c.th)))(V:KQ)(hk:∀h',WS h' A a N d { R with dS:=R.dS.set k none,cs:=R.cs.set i none }->h'.bl.get c.ca=some (A2 A.wb c)->WK a h h'->V (.tuple ⟨[]⟩) h'):CallW prog 159 [.pointer (some ⟨c.ca,0,none⟩)] h V:=by
 obtain⟨gc,c1,c2⟩:=bO s hi;have gw:=s.r.gw;have hlo:=s.lo;have gc':=gc;have hil:=xE s hi;have hnn:=s.r.nn;unfold bZ at gc';have gp:=(s.r.ho (p,c.th) (List.mem_of_getElem? hl)).2;refine av mixed ?_;rw[aaq];simp(disch:=try exact Y)only[Wz,aG,gc',gw,hst];refine V3 s.r.gl s.r.gh s.r.lth hl gp (by omega) _ ?_;have s2:=s.DZ (R.dS.set k none) (List.length_set ..) (λq hq=>by
  rcases List.mem_or_eq_of_mem_set hq with hq|hq
  .exact s.r.ho q hq
  .cases hq)
 have k2:=Sv (h':=⟨h.nx,h.bl.aV A.hb (aa (ql (R.dS.set k none)) 251 false),h.lo⟩) s (λb hb hn=>T.aj _ _ (λe=>hn e.symm)) (Nat.le_refl _) rfl;obtain⟨h2,e2⟩:∃h2:Heap,h2=⟨h.nx,h.bl.aV A.hb (aa (ql (R.dS.set k none)) 251 false),h.lo⟩:=⟨_,rfl⟩
 have s2:WS h2 A a N d { R with dS:=R.dS.set k none }:=by rw[e2];exact s2
 have k2:WK a h h2:=by rw[e2];exact k2
 rw[<-e2];clear e2;obtain⟨uQ,c12,c22⟩:=bO (R:={ R with dS:=R.dS.set k none }) s2 hi;have wI:=uQ;unfold bZ at wI;have Ua:=s2.r.gw;have Sx:=s2.r.gc;have cb2:=s2.r.Yu;refine av mixed ?_;rw[aa4];have s3:WS ⟨h2.nx,h2.bl.aV A.cb (aa ((R.cs.set i none).map λo=>cZ (o.map (·.ca))) 118 false),h2.lo⟩ A a N d { R with dS:=R.dS.set k none,cs:=R.cs.set i none }:=WS.uW (R:={ R with dS:=R.dS.set k none }) s2 i none (λc e=>(nomatch e));have hne:c.ca≠A.cb:=de uQ Sx (by decide);have ovc:over (R.cs.map λo=>cZ (o.map (·.ca))) i [.pointer none]=(R.cs.set i none).map λo=>cZ (o.map (·.ca)):=by
  unfold over;rw[List.map_set,List.set_eq_take_append_cons_drop,if_pos (by rw[List.length_map];exact(List.getElem?_eq_some_iff.1 hi).1)];simp[cZ]
 have hlc:(R.cs.map λo=>cZ (o.map (·.ca))).length=A.n:=by rw[List.length_map];exact s.r.lc
 have hnw:c.ca≠A.wb:=de uQ Ua (by decide);simp(disch:=try exact Y)only[Wz,aG,wI,Gk,aZ hout,Gj];simp(disch:=try exact Y)only[Wz,aG,Ua,BW,bh,Sx,Nat.mul_one,ovc];have uY:(h2.bl.aV A.cb (aa ((R.cs.set i none).map λo=>cZ (o.map (·.ca))) 118 false)).get c.ca=_:=(T.aj _ _ (λe=>hne e.symm)).trans wI;have hno:∀x,some x∈R.cs.set i none->x.ca≠c.ca:=by
  intro x hx;rcases AZ hx with e|⟨j,hj,e⟩
  .cases e
  .exact s.r.apart e hi hj
 have s4:=WS.other s3 uY hno (A2 A.wb c);have k3:=WS.uX s2 Sx (by simp[jO]) (by decide) (aa ((R.cs.set i none).map λo=>cZ (o.map (·.ca))) 118 false);have k4:=WS.uX s3 uY (by simp[jO]) (by decide) (A2 A.wb c);have hk:=hk _ s4 (T.ah _ _ _) ((k2.trans k3).trans k4);rw[show((h2.bl.aV A.cb (aa ((R.cs.set i none).map λo=>cZ (o.map (·.ca))) 118 false)).aV c.ca (A2 A.wb c))=(h2.bl.aV c.ca (A2 A.wb c)).aV A.cb (aa ((R.cs.set i none).map λo=>cZ (o.map (·.ca))) 118 false)from T.EZ _ _ _ (λe=>hne e.symm)]at hk;unfold A2 at hk;rw[BW]at hk;exact hk
end
section
variable {h:Heap}{A:WA}{a:TA}{N:Nat}{d:TD}{R:RD}
theorem HZ(s:WS h A a N d R){i k:Nat}{c:CR}(hi:R.cs[i]? = some (some c))(uZ:c.ph=1){nb:Int}(hb:R.bits[i]? = some nb)(hst:c.st=(k:Int))(BW:0<=c.th/\c.th<8)(hl:R.dS[k]? = some none)(V:KQ)(hk:∀h',WS h' A a N d { R with dS:=R.dS.set k (some (h.nx,c.th)),cs:=R.cs.set i (some { c with ph:=2 }) }->WK a h h'->V (.tuple ⟨[.bool false,.int .i64 0,.int .i64 0]⟩) h')(hz:Oa nb 1=0:=by decide):CallW prog 15 [.pointer (some ⟨A.wb,0,none⟩),.int .i64 (i:Int)] h V:=by
 have gw:=s.r.gw;have V7:=s.r.gc;have hil:=xE s hi;have r:(R.cs.map λo=>cZ (o.map (·.ca)))[i]? = some (.pointer (some ⟨c.ca,0,none⟩)):=jZ s hi;obtain⟨gc,c1,c2⟩:=bO s hi;have hlc:(R.cs.map λo=>cZ (o.map (·.ca))).length=A.n:=by rw[List.length_map];exact s.r.lc
 have gc':=gc;unfold bZ xD at gc';rw[uZ]at gc';refine av mixed ?_;rw[Fj];simp(disch:=try exact Y)only[Wz,jF,rP];refine mQ s hil _ ?_;simp(disch:=try exact Y)only[Wz];refine nO s hi hb hst hl _ ?_ hz;rw[uZ];simp(disch:=try exact Y)only[Wz,Option.isSome_none,Option.isSome_some,Bool.false_or,Bool.true_or,rO,aG,gw,bh,V7,r,gc',Nat.mul_one,pO];refine Sw s hi hst BW hl _ ?_;intro h' s' k';have hi':(R.cs.set i (some { c with ph:=2 }))[i]? = some (some { c with ph:=2 }):=by rw[List.getElem?_set,if_pos rfl,if_pos (by have:=s.r.lc;omega)]
 obtain⟨uQ,_,_⟩:=bO s' hi';unfold bZ at uQ;simp(disch:=try exact Y)only[Wz,aG,uQ];exact hk h' s' k'
theorem JV(s:WS h A a N d R){i k p:Nat}{c:CR}(hi:R.cs[i]? = some (some c))(uZ:c.ph=3){nb:Int}(hb:R.bits[i]? = some nb)(hst:c.st=(k:Int))(BW:c.th=(i:Int))(hout:c.out≠0)(hl:R.dS[k]? = some (some (p,c.th)))(V:KQ)(hk:∀h',WS h' A a N d { R with dS:=R.dS.set k none,cs:=R.cs.set i none }->WK a h h'->V (.tuple ⟨[.bool true,.int .i64 c.out,.int .i64 0]⟩) h')(hz:Oa nb 1=0:=by decide):CallW prog 15 [.pointer (some ⟨A.wb,0,none⟩),.int .i64 (i:Int)] h V:=by
 have gw:=s.r.gw;have V7:=s.r.gc;have hil:=xE s hi;have r:(R.cs.map λo=>cZ (o.map (·.ca)))[i]? = some (.pointer (some ⟨c.ca,0,none⟩)):=jZ s hi;obtain⟨gc,c1,c2⟩:=bO s hi;have hlc:(R.cs.map λo=>cZ (o.map (·.ca))).length=A.n:=by rw[List.length_map];exact s.r.lc
 have gc':=gc;unfold bZ xD at gc';rw[uZ]at gc';refine av mixed ?_;rw[Fj];simp(disch:=try exact Y)only[Wz,jF,rP];refine mQ s hil _ ?_;simp(disch:=try exact Y)only[Wz];refine nO s hi hb hst hl _ ?_ hz;rw[uZ];simp(disch:=try exact Y)only[Wz,Option.isSome_none,Option.isSome_some,Bool.false_or,Bool.true_or,rO,aG,gw,bh,V7,r,gc',Nat.mul_one,pO];refine V6 s hi hst BW hout hl _ ?_;intro h' s' g' k';unfold A2 at g';simp(disch:=try exact Y)only[Wz,aG,g'];exact hk h' s' k'
theorem aiT(a b c d e f g:Int):kY 8 (.agg ⟨[.int .i64 a,.int .i64 b,.int .i64 c,.int .i64 d,.int .i64 e,.int .i64 f,.int .i64 g]⟩) (.agg ⟨[.int .i64 a,.int .i64 b,.int .i64 c,.int .i64 d,.int .i64 e,.int .i64 f,.int .i64 g]⟩)=true:=by
 have v:∀n:Int,kY 7 (.int .i64 n) (.int .i64 n)=true:=λn=>by
  show(iV .i64 .i64 && tT n n)=true
  rw[iq,br rfl];rfl
 show(kY 7 (.int .i64 a) (.int .i64 a) && (kY 7 (.int .i64 b) (.int .i64 b) && (kY 7 (.int .i64 c) (.int .i64 c) && (kY 7 (.int .i64 d) (.int .i64 d) && (kY 7 (.int .i64 e) (.int .i64 e) && (kY 7 (.int .i64 f) (.int .i64 f) && (kY 7 (.int .i64 g) (.int .i64 g) && true)))))))=true
 simp only[v,Bool.and_self]
theorem V8(s:WS h A a N d R){i:Nat}(hi:R.cs[i]? = some none)(x:iz)(hbg:0<=R.begun/\R.begun<=1000000)(V:KQ)(JN:oc x=false->∀h',Le h h'->V (.int .i64 2) h')(hk:oc x=true->∀h' ca,WS h' A a N d { R with cs:=R.cs.set i (some ⟨ca,x,(i:Int),R.begun,dR x.t x.r a.c.S,1,false,0,0,0⟩),begun:=R.begun+1 }->WK a h h'->V (.int .i64 0) h'):CallW prog 11 [.pointer (some ⟨A.wb,0,none⟩),.int .i64 (i:Int),.agg ⟨DY x⟩] h V:=by
 have hlo:=s.lo;have hil:=xE s hi;have r:(R.cs.map λo=>cZ (o.map (·.ca)))[i]? = some (.pointer none):=jZ s hi;have hlc:(R.cs.map λo=>cZ (o.map (·.ca))).length=A.n:=by rw[List.length_map];exact s.r.lc
 refine av mixed ?_;rw[agb];simp(disch:=try exact Y)only[Wz,DY];obtain⟨hA,aT,aL,g1,dy,dz⟩:=kf h (aa [.int .i64 x.k,.int .i64 x.x,.int .i64 x.t,.int .i64 x.r,.int .i64 x.m,.int .i64 x.w,.int .i64 x.to] 31 false);rw[<-aT];clear aT;have sA:=s.le aL;simp(disch:=try exact Y)only[Wz,jF,Ll];refine mQ sA hil _ ?_;simp(disch:=try exact Y)only[Wz,g1];refine ade x hA _ (by omega) ?_;intro h1 bG;have n1:=bG.nx;have l1:=bG.lo;have s1:=sA.le bG;have g11:=bG.up g1;have Ys:=s1.r.gw;have yp:=s1.r.gc;cases hm:oc x with
 |false=>
  simp(disch:=try exact Y)only[Wz];exact JN hm h1 (aL.trans bG)
 |true=>
  have hk:=hk hm;have aov:∀(β:Type)(fl:β)(cn:Bool)(h:Heap)(V:Z7 β),ay fl prog .neq 118 cn false (.pointer none) (.pointer none) h V=V (.bool false) h:=λβ fl cn h V=>V5 cn none h V;simp(disch:=try exact Y)only[Wz,Lj,aG,Ys,bh,yp,r,Nat.mul_one,aov,Li,g11];refine wE s1.t.is (by omega) x.t x.r _ ?_;intro h2 bt;have n2:=bt.nx;have l2:=bt.lo;have s2:=s1.le bt;have g12:=bt.up g11;have Ua:=s2.r.gw;simp(disch:=try exact Y)only[Wz,aG,g12,Ua];obtain⟨cc,ID⟩:∃cc:CR,cc=⟨h2.nx,x,(i:Int),R.begun,dR x.t x.r a.c.S,1,false,0,0,0⟩:=⟨_,rfl⟩
  obtain⟨h3,e3⟩:∃h3:Heap,h3=⟨h2.nx+1,h2.bl.aV h2.nx (bZ A.wb cc),h2.lo⟩:=⟨_,rfl⟩
  have dg:Le h2 h3:=by rw[e3];exact(Le.refl h2).new _
  have g3:h3.bl.get h2.nx=some (bZ A.wb cc):=by rw[e3];exact T.ah _ _ _
  have n3:h3.nx=h2.nx+1:=by rw[e3]
  have l3:h3.lo=h2.lo:=by rw[e3]
  have s3:=s2.le dg;have e3':h3=⟨h2.nx+1,h2.bl.aV h2.nx (aa [.int .i64 x.k,.int .i64 x.x,.int .i64 x.t,.int .i64 x.r,.int .i64 x.m,.int .i64 x.w,.int .i64 x.to,.pointer (some ⟨A.wb,0,none⟩),.int .i64 (i:Int),.int .i64 R.begun,.int .i64 (dR x.t x.r a.c.S),.func (.func 58) ⟨[.pointer (some ⟨h2.nx,0,none⟩)]⟩ ⟨[]⟩,.int .i64 1,.bool false,.int .i64 0,.int .i64 0,.int .i64 0,.bool false,.slice none 0 0] 128 false),h2.lo⟩:=by rw[e3,ID];rfl
  have gw3:=s3.r.gw;have lw3:=s3.r.BT;have lc3:=s3.r.Yu;have s4:=s3.A1 (R.begun+1);have k4:=WS.uX s3 gw3 (by simp[jO]) (by decide) (aa [.pointer (some ⟨a.tb,0,none⟩),.pointer (some ⟨A.lb,0,none⟩),.pointer (some ⟨A.pb,0,none⟩),.pointer (some ⟨A.kb,0,none⟩),.slice (some ⟨A.cb,0,none⟩) A.n A.n,.map (some A.mb),.int .i64 (R.begun+1)] 126 false);have aow:=s4.r.gc;have ovc:over (R.cs.map λo=>cZ (o.map (·.ca))) i [.pointer (some ⟨h2.nx,0,none⟩)]=(R.cs.set i (some cc)).map λo=>cZ (o.map (·.ca)):=by
   unfold over;rw[List.map_set,List.set_eq_take_append_cons_drop,if_pos (by rw[List.length_map];have:=s.r.lc;omega),ID];simp[cZ]
  have s5:=WS.uW (R:={ R with begun:=R.begun+1 }) s4 i (some cc) (λc e=>by
   cases e;refine⟨by rw[ID];show h2.nx<h3.nx;omega,by rw[ID];show h3.lo<=h2.nx;omega,?_,λj d' hj hd=>?_⟩
   .have e9:cc.ca=h2.nx:=by rw[ID]
    rw[e9];exact(T.aj _ _ (by have:=(s2.r.BT).1;omega)).trans g3
   .have:=(s2.r.ca d' (List.mem_of_getElem? hd)).1;rw[ID];show d'.ca≠h2.nx;omega)
  have k5:=WS.uX s4 aow (by simp[jO]) (by decide) (aa ((R.cs.set i (some cc)).map λo=>cZ (o.map (·.ca))) 118 false);have hne:A.wb≠A.cb:=de gw3 s3.r.gc (by decide);have atW:=s3.r.gc;have Sx:=s2.r.gc;have lw2:=s2.r.BT;have lc2:=s2.r.Yu;simp(disch:=try exact Y)only[Wz,aiT];refine av mixed ?_;rw[X7];simp(disch:=try exact Y)only[Wz,aG,wH,Ua,bh,Sx,Nat.mul_one,ovc];have hk:=λh'=>hk h' h2.nx;simp only[<-ID]at hk;have hk:=hk _ s5 (((s.Mp ((aL.trans bG).trans (bt.trans dg))).trans k4).trans k5);rw[e3']at hk;exact hk
end
section
variable {a h:Heap}{rt rp rl:Nat}{c:h_}{vr:Value}{aW:Nat}{R:List RB}{B:List Bool}
end
section
variable {h h2:Heap}{tb bw bp bl:Nat}{c:h_}{vb:Value}{aW N:Nat}{Ts Ts2:List TB}{W:List IE}{wc:Nat}{F:List Int}{B:List Bool}
end
section
variable {h h':Heap}{bb bm bp bl most:Nat}{M M':List HE}{clock clock':Nat}{F F':List Int}{B:List Bool}
end
section
variable {h:Heap}{tb bw bp bl:Nat}{c:h_}{vb:Value}{aW N:Nat}{Ts:List TB}{W:List IE}{wc:Nat}{F:List Int}{B:List Bool}
end
section
variable {h:Heap}{tb bw bp bl:Nat}{c:h_}{vb:Value}{aW N:Nat}{Ts:List TB}{W:List IE}{wc:Nat}{F:List Int}{B:List Bool}
end
section
variable {h:Heap}{tb bw bp bl:Nat}{c:h_}{vb:Value}{aW N:Nat}{Ts:List TB}{W:List IE}{wc:Nat}{F:List Int}{B:List Bool}
end
section
variable {a0 h:Heap}{tb bw bp bl:Nat}{c:h_}{vb:Value}{aW N:Nat}{Ts:List TB}{W:List IE}{wc:Nat}{F:List Int}{B:List Bool}{rt rp rl:Nat}{vr:Value}{R:List RB}
end
def aiV(Ts:List (List HE))(s t r x id:Int)(b:Bool):Prop:=(dR t r s<0/\id=0/\b=false)\/∃(k:Nat)(M:List HE),Ts[k]? = some M/\dR t r s=(k:Int)/\JG M t r x id b
section
variable {a0 h:Heap}{tb bw bp bl:Nat}{c:h_}{vb:Value}{aW N:Nat}{Ts:List TB}{W:List IE}{wc:Nat}{F:List Int}{B:List Bool}{rt rp rl:Nat}{vr:Value}{R:List RB}
theorem Sy(s:lH h tb bw bp bl c vb aW N Ts W wc F B)(hlo:h.lo<=h.nx)(t r x:Int)(V:KQ)(hk:∀h' id b,aiV (Ts.map (·.M)) c.S t r x id b->Le h h'->V (.tuple ⟨[.int .i64 id,.bool b]⟩) h'):CallW prog 297 [.pointer (some ⟨tb,0,none⟩),cV t r,.int .i64 x] h V:=by
 refine av mixed ?_;rw[abu];simp(disch:=try exact Y)only[Wz,cV];obtain⟨hA,aT,aL,g1,dy,dz⟩:=kf h (aa [.int .i64 t,.int .i64 r] 28 false);rw[<-aT];clear aT;refine wE (s.le aL).is (by omega) t r _ ?_;intro h2 bt;have o5:=bt.nx;have o_:=bt.lo;have g1:=bt.up g1;have kW:=aL.trans bt;have s2:=s.le kW;by_cases hneg:dR t r c.S<0
 .simp(disch:=try exact Y)only[Wz,br hneg];exact hk h2 0 false (.inl ⟨hneg,rfl,rfl⟩) kW
 obtain⟨k,b,hst,hb⟩:=aiz s.is hneg;have gt:=s2.is.nN;obtain⟨cc,oo,_,TZ,oP⟩:=VX s2.is.sl k hb;have oP:=oP h2 (Le.refl _);rw[hst];simp(disch:=try exact Y)only[Wz,dL (show(0:Int)<=(k:Int)by omega),Gv,aG,gt,TZ,oP,g1];refine VU (s2.is.bk b (List.mem_of_getElem? hb)) (by omega) t r x _ ?_;intro h3 id bb fi dg;simp(disch:=try exact Y)only[Wz];exact hk h3 id bb (.inr ⟨k,b.M,by rw[List.getElem?_map,hb];rfl,hst,fi⟩) (kW.trans dg)
end
section
variable {h:Heap}{tb bw bp bl:Nat}{c:h_}{vb:Value}{aW N:Nat}{Ts:List TB}{W:List IE}{wc:Nat}{F:List Int}{B:List Bool}{H X:Int->Int->Int}
theorem u0(s:lH h tb bw bp bl c vb aW N Ts W wc F B)(L:Lone Ts H X)(hlo:h.lo<=h.nx)(t r:Int)(V:KQ)(nZ:H t r=0->∀h',Le h h'->V (.tuple ⟨[.int .i64 0,.bool false]⟩) h')(dB:H t r≠0->∀h' (k:Nat) (b:TB) (e:HE) (id:Int),Ts[k]? = some b->dR t r c.S=(k:Int)->e∈b.M->e.t=t->e.r=r->e.Q=[⟨id,X t r,H t r,H t r,0⟩]->Le h h'->V (.tuple ⟨[.int .i64 id,.bool true]⟩) h'):CallW prog 297 [.pointer (some ⟨tb,0,none⟩),cV t r,.int .i64 (X t r)] h V:=by
 refine Sy s hlo t r (X t r) _ ?_;intro h' id b fi le;by_cases hH:H t r=0
 .have hno:=L.no hH;rcases fi with⟨_,rfl,rfl⟩|⟨k,M,hM,hst,⟨rfl,e,he,ht,hr,_⟩|⟨rfl,rfl,_⟩⟩
  .exact nZ hH h' le
  .rw[List.getElem?_map]at hM;cases hb:Ts[k]? with
   |none=>rw[hb]at hM;cases hM
   |some b0=>
    rw[hb]at hM;cases hM;exact absurd ⟨ht,hr⟩ (hno b0 (List.mem_of_getElem? hb) e he)
  .exact nZ hH h' le
 ·obtain⟨k0,b0,e0,id0,hb0,aox,Sd,ht0,I1,hQ0⟩:=L.at s hH;have fin:∀(id:Int)(b:Bool),JG b0.M t r (X t r) id b->id=id0/\b=true:=by
   rintro id b (⟨rfl,e,he,ht,hr,p,hp,hx,rfl⟩|⟨_,_,hn⟩)
   .have:=(s.is.bk b0 (List.mem_of_getElem? hb0)).ok.uniq he Sd (by rw[<-ht,ht0]) (by rw[<-hr,I1]);subst this;rw[hQ0,List.mem_singleton]at hp;subst hp;exact⟨rfl,rfl⟩
   .exact absurd rfl (hn e0 Sd ht0.symm I1.symm ⟨id0,X t r,H t r,H t r,0⟩ (by rw[hQ0];exact .head _))
  rcases fi with⟨h1,_⟩|⟨k,M,hM,hst,fi⟩
  .omega
  .obtain rfl:k=k0:=by omega
   rw[List.getElem?_map,hb0]at hM;cases hM;obtain⟨rfl,rfl⟩:=fin id b fi;exact dB hH h' k b0 e0 id hb0 aox Sd ht0 I1 hQ0 le
theorem V9(s:lH h tb bw bp bl c vb aW N Ts W wc F B)(hlo:h.lo<=h.nx){b:TB}(hb:b∈Ts){e:HE}(he:e∈b.M){id x m:Int}(hQ:e.Q=[⟨id,x,m,m,0⟩])(V:KQ)(hk:∀h',Le h h'->V (.tuple ⟨[cV e.t e.r,mK ⟨id,x,m,m,0⟩,.bool true]⟩) h'):CallW prog 209 [.pointer (some ⟨tb,0,none⟩),.int .i64 id] h V:=by
 refine ac8 s hlo id _ ?_ ?_
 .intro h' hn le;have:=hn b hb e he;rw[hQ,jm,if_pos rfl]at this;cases this
 .intro h' b' e' p hb' he' hf le;obtain⟨i,hi,hid⟩:=qZ ((s.is.bk b' hb').good e' he').vq hf;obtain⟨rfl,rfl⟩:=s.xA hb' hb he' he (List.mem_of_getElem? hi) (by rw[hQ];exact .head _) hid;rw[hQ,jm,if_pos rfl]at hf;cases hf;exact hk h' le
end
section
variable {h:Heap}{A:WA}{a:TA}{N:Nat}{d:TD}{R:RD}{H X:Int->Int->Int}
theorem A3(s:WS h A a N d R)(L:Lone d.Ts H X)(t r:Int)(V:KQ)(hk:∀v Q h',(Q=[]\/∃id m,Q=[⟨id,X t r,m,m,0⟩])->Sl bH h' v Q->Le h h'->V v h'):CallW prog 298 [.pointer (some ⟨A.wb,0,none⟩),cV t r] h V:=by
 have gw0:=s.r.gw;have hlo:=s.lo;refine av mixed ?_;rw[abv];have BT:=s.r.BT;simp(disch:=try exact Y)only[Wz,cV,aG,gw0];obtain⟨hA,aT,aL,g1,dy,dz⟩:=kf h (aa [.int .i64 t,.int .i64 r] 28 false);rw[<-aT];clear aT;have sA:=s.le aL;refine V1 sA.t (by omega) _ ?_;intro v0 h0 K t0 tQ;have n0:=tQ.nx;have l0:=tQ.lo;obtain⟨x0,c0,ev0,_⟩:=(show Sl tH h0 v0 K from t0.sl)
 have aiW:∀(β:Type)(fl:β)(h':Heap)(V:Z7 β),bJ fl v0 h' V=V (.int .i64 (K.length:Int)) h':=λβ fl h' V=>by rw[ev0];exact iu _ _ _ _ _
 have hKl:K.length<=1024:=by
  have h1:=t0.perm.length_eq;rw[List.length_map]at h1;rw[h1];have h2:=s.t.is.s1.2;have h3:=s.t.is.hd;have:∀L:List TB,(∀b∈L,b.M.length<=64)->(L.flatMap λb=>b.M.map cT).length<=64*L.length:=by
   intro L
   induction L with
   |nil=>intro _;simp
   |cons b L ih=>
    intro hL;rw[List.flatMap_cons,List.length_append,List.length_map,List.length_cons];have h1:=ih λx hx=>hL x (.tail _ hx);have h2:=hL b (.head _);omega
  have:=this d.Ts λb hb=>by have:=s.t.len b hb;omega
  omega
 have g10:=tQ.up g1;simp(disch:=try exact Y)only[Wz,aiW];refine⟨λn l h1=>∃i:Nat,slot l 12=.int .i64 (i:Int)/\n=K.length-i/\i<=K.length/\Le h0 h1,
  ⟨_,0,rfl,rfl,by omega,Le.refl _⟩,?_⟩
 rintro n l h1 ⟨i,s1,rfl,hi,bG⟩;have n1:=bG.nx;have l1:=bG.lo;by_cases hlt:i<K.length
 .obtain⟨e,he⟩:∃e,K[i]? = some e:=⟨_,List.getElem?_eq_getElem hlt⟩
  have heK:=List.mem_of_getElem? he;obtain⟨⟨b',hb',e',he',se⟩,qv⟩:=t0.each e heK;obtain⟨b0,o0,hb0,hx0,I1⟩:=aoe t0.sl i he (acX qv.1);have R1:=I1 h1 bG;have qv1:=qv.le bG;obtain⟨qx,qc,eq,_⟩:=(show Sl bH h1 e.q e.Q from qv1.1)
  have g11:=bG.up g10;rw[eq]at R1;simp(disch:=try exact Y)only[Wz,s1,fV (show(i:Int)<(K.length:Int)by omega),Gw,hx0,R1,g11];rw[rS];by_cases hn:e.t=t/\e.r=r
  .rw[br hn];simp(disch:=try exact Y)only[Wz];obtain⟨id,hQ,hm⟩:=L.one b' hb' e' he';refine hk _ e.Q _ ?_ ?_ ((aL.trans (tQ.trans bG)).trans ((Le.refl h1).new _))
   .refine .inr ⟨id,H e'.t e'.r,?_⟩;rw[se.2.2.2,hQ,<-se.1,<-se.2.1,hn.1,hn.2]
   .rw[<-eq];exact(qv1.le ((Le.refl h1).new _)).1
  .rw[aZ hn];simp(disch:=try exact Y)only[Wz,s1];exact⟨_,by omega,i+1,rfl,rfl,by omega,bG.trans ((Le.refl h1).new _)⟩
 .simp(disch:=try exact Y)only[Wz,s1,dL (show(K.length:Int)<=(i:Int)by omega)];exact hk _ [] _ (.inl rfl) (Sl.nil _ _ _) (aL.trans (tQ.trans bG))
end
theorem Sz{m:Int}(h:kn m=true):bN 0 m=m:=by
 have key:∀j,j<7->bN 0 (j:Nat)=(j:Nat):=by decide +kernel
 obtain⟨j,hj,rfl⟩:=iY h;exact key j hj
theorem ki{a b:Int}(ha:kn a=true)(hb:kn b=true)(h0:b≠0):bN a b≠0/\kn (bN a b)=true/\bN a (bN a b)=bN a b/\(lN a b=true->bN a b=a):=by
 have key:∀i:Nat,i<7->∀j:Nat,j<7->(j:Int)≠0->bN (i:Nat) (j:Nat)≠0/\kn (bN (i:Nat) (j:Nat))=true/\bN (i:Nat) (bN (i:Nat) (j:Nat))=bN (i:Nat) (j:Nat)/\(lN (i:Nat) (j:Nat)=true->bN (i:Nat) (j:Nat)=(i:Nat)):=by decide +kernel
 obtain⟨i,hi,rfl⟩:=iY ha;obtain⟨j,hj,rfl⟩:=iY hb;exact key i hi j hj h0
structure j0(d d':TD)(k:Nat):Prop where
 f:d.F.length<=d'.F.length+1
 m:∀(j:Nat)(b':TB),d'.Ts[j]? = some b'->∃b,d.Ts[j]? = some b/\b'.M.length<=b.M.length+if j=k then 1 else 0
theorem u5{d:TD}{k:Nat}{b:TB}(hk:d.Ts[k]? = some b){M':List HE}{cl:Nat}(hl:M'.length<=b.M.length+1)(W':List IE)(AT:Nat){F':List Int}(hF:d.F.length<=F'.length+1)(B':List Bool):j0 d ⟨d.Ts.set k ⟨b.bb,b.bm,M',cl⟩,W',AT,F',B'⟩ k:=by
 refine⟨hF,λj b' hj=>?_⟩;rcases fU hj with⟨rfl,rfl⟩|⟨hne,hj⟩
 .exact⟨b,hk,by rw[if_pos rfl];exact hl⟩
 .exact⟨b',hj,by omega⟩
section
variable {h:Heap}{a:TA}{N:Nat}{d:TD}{H X:Int->Int->Int}
theorem V_(s:BV h a N d)(L:Lone d.Ts H X)(hlo:h.lo<=h.nx)(hN:N<=1000){k:Nat}{b:TB}(hb:d.Ts[k]? = some b){t r m:Int}(hst:dR t r a.c.S=(k:Int))(hH:H t r=0)(am:bY m=true)(hF:d.F≠[])(hh:b.M.length<a.aW)(V:KQ)(hk:∀h' d' id,BV h' a (N+1) d'->Lone d'.Ts (jb H t r m) X->j0 d d' k->wD d.Ts a.bw a.bp a.bl h h'->d'.Ts.map (·.bm)=d.Ts.map (·.bm)->V (.tuple ⟨[.int .i64 id,.bool true,.int .i64 0]⟩) h'):CallW prog 301 [.pointer (some ⟨a.tb,0,none⟩),cV t r,.int .i64 (X t r),.int .i64 m] h V:=by
 have hno:=L.no hH;obtain⟨hm,km⟩:=(jU m).1 am;refine Ml s hlo hN t r (X t r) m _ ?_ ?_ ?_ ?_ ?_
 .intro h' hn;omega
 .intro k' b' h' _ _ hf;rw[am]at hf;cases hf
 .intro k' b' h' e p hb' _ _ he ht hr;exact absurd ⟨ht,hr⟩ (hno b' (List.mem_of_getElem? hb') e he)
 .intro k' b' h' hb' BX _ _ hor;obtain rfl:k'=k:=by omega
  rw[hb]at hb';cases hb';rcases hor with h1|⟨_,h1⟩
  .exact absurd h1 hF
  .omega
 .intro k' b' M' clock' F' W' AT h0 h1 h' n g hb' BX _ _ _ ak s' fr;obtain rfl:k'=k:=by omega
  rw[hb]at hb';cases hb';obtain⟨Q,w,hold,_,_,hg,st⟩:=ak.set;rcases hold with⟨e,he,h1,h2,_⟩|⟨_,_,rfl,rfl⟩
  .exact absurd ⟨h1.symm,h2.symm⟩ (hno b (List.mem_of_getElem? hb) e he)
  .rw[Sm]at hg st;rw[List.nil_append,wF hm]at st;subst hg;have L':=L.settle s hb hst hm clock' st;have o:=(s.is.bk b (List.mem_of_getElem? hb)).ok;refine hk h' ⟨_,W',AT,F',d.B.set n true⟩ n s' L' (u5 hb (st.cnt o) W' AT ?_ _) fr (DV hb _ _);have:=ak.free.length_eq;rw[List.length_cons]at this;omega
theorem Wa(s:BV h a N d)(L:Lone d.Ts H X)(hlo:h.lo<=h.nx)(hN:N<=1000){k:Nat}{b:TB}(hb:d.Ts[k]? = some b){t r m id:Int}(hst:dR t r a.c.S=(k:Int)){e:HE}(he:e∈b.M)(ht:e.t=t)(hr:e.r=r)(hQ:e.Q=[⟨id,X t r,H t r,H t r,0⟩])(hH:H t r≠0)(km:kn m=true)(hm:m≠0)(V:KQ)(hk:∀h' d',BV h' a (N+1) d'->Lone d'.Ts (jb H t r (bN (H t r) m)) X->j0 d d' k->wD d.Ts a.bw a.bp a.bl h h'->d'.Ts.map (·.bm)=d.Ts.map (·.bm)->V (.tuple ⟨[.bool true,.int .i64 0]⟩) h'):CallW prog 302 [.pointer (some ⟨a.tb,0,none⟩),.int .i64 id,.int .i64 (bN (H t r) m)] h V:=by
 have xB:=List.mem_of_getElem? hb;obtain⟨n0,kns,idem,_⟩:=ki (L.km s hH) km hm;have am:bY (bN (H t r) m)=true:=(jU _).2 ⟨n0,kns⟩;have Yw:∀(k':Nat)(b':TB)(e':HE)(p:R5),d.Ts[k']? = some b'->e'∈b'.M->cq e'.Q id=some p->k'=k/\b'=b/\e'=e/\p=⟨id,X t r,H t r,H t r,0⟩:=by
  intro k' b' e' p hb' he' hf;obtain⟨i,hi,hid⟩:=qZ ((s.is.bk b' (List.mem_of_getElem? hb')).good e' he').vq hf;obtain⟨rfl,rfl⟩:=s.xA (List.mem_of_getElem? hb') xB he' he (List.mem_of_getElem? hi) (by rw[hQ];exact .head _) hid;rw[hQ,jm,if_pos rfl]at hf;have h1:=s.nm k' b' hb' e' he';rw[ht,hr]at h1;exact⟨by omega,rfl,rfl,(Option.some.inj hf).symm⟩
 refine HU s hlo hN id _ _ ?_ ?_ ?_ ?_
 .intro h' hf;rw[am]at hf;cases hf
 .intro _ hn;have:=hn b xB e he;rw[hQ,jm,if_pos rfl]at this;cases this
 .intro k' b' h' e' p _ hb' he' hf hp;obtain⟨_,_,_,rfl⟩:=Yw k' b' e' p hb' he' hf;simp at hp
 ·intro k' b' h' M' clock' e' p i _ hb' he' hpi hf _ mv s';obtain⟨rfl,rfl,rfl,rfl⟩:=Yw k' b' e' p hb' he' hf;have i0:i=0:=by
   have:=(List.getElem?_eq_some_iff.1 hpi).1;rw[hQ]at this;simpa using this
  subst i0;have st:=mv.set;rw[hQ,HV,idem,List.set_cons_zero,wF n0,ht,hr]at st;rw[hQ,HV];have L':=L.settle s hb hst n0 clock' st;have o:=(s.is.bk b' xB).ok;exact hk h' ⟨_,d.W,d.wc,d.F,d.B⟩ s' L' (u5 hb (st.cnt o) _ _ (Nat.le_succ _) _) (wD.VW xB mv.fr) (DV hb _ _)
theorem Oc(s:BV h a N d)(L:Lone d.Ts H X)(hlo:h.lo<=h.nx){k:Nat}{b:TB}(hb:d.Ts[k]? = some b){t r id:Int}(hst:dR t r a.c.S=(k:Int)){e:HE}(he:e∈b.M)(ht:e.t=t)(hr:e.r=r)(hQ:e.Q=[⟨id,X t r,H t r,H t r,0⟩])(V:KQ)(hk:∀h' d' v',BP h h' v' []->BV h' a (N+1) d'->Lone d'.Ts (jb H t r 0) X->j0 d d' k->wD d.Ts a.bw a.bp a.bl h h'->d'.Ts.map (·.bm)=d.Ts.map (·.bm)->V (.tuple ⟨[v',.int .i64 0]⟩) h'):CallW prog 352 [.pointer (some ⟨a.tb,0,none⟩),.int .i64 id] h V:=by
 have xB:=List.mem_of_getElem? hb;have Yw:∀(k':Nat)(b':TB)(e':HE)(p:R5),d.Ts[k']? = some b'->e'∈b'.M->cq e'.Q id=some p->k'=k/\b'=b/\e'=e/\p=⟨id,X t r,H t r,H t r,0⟩:=by
  intro k' b' e' p hb' he' hf;obtain⟨i,hi,hid⟩:=qZ ((s.is.bk b' (List.mem_of_getElem? hb')).good e' he').vq hf;obtain⟨rfl,rfl⟩:=s.xA (List.mem_of_getElem? hb') xB he' he (List.mem_of_getElem? hi) (by rw[hQ];exact .head _) hid;rw[hQ,jm,if_pos rfl]at hf;have h1:=s.nm k' b' hb' e' he';rw[ht,hr]at h1;exact⟨by omega,rfl,rfl,(Option.some.inj hf).symm⟩
 refine Se s hlo id _ ?_ ?_
 .intro hn;have:=hn b xB e he;rw[hQ,jm,if_pos rfl]at this;cases this
 .intro k' b' h' M' clock' F' v' e' p n hb' he' hf hid Bx hpF mv ho s';obtain⟨rfl,rfl,rfl,rfl⟩:=Yw k' b' e' p hb' he' hf;have aoB:(e'.Q.filter λr=>!cC id r)=[]:=by rw[hQ];simp[cC]
  have st:=mv.set;rw[aoB]at st ho;rw[ht,hr]at st;have L':=L.gone s hb hst clock' st;have o:=(s.is.bk b' xB).ok;refine hk h' ⟨_,d.W,d.wc,F',d.B.set n false⟩ v' ho s' L' (u5 hb (st.cnt o) _ _ ?_ _) (wD.VW xB mv.fr) (DV hb _ _);have:=hpF.length_eq;rw[List.length_append,List.length_singleton]at this;omega
end
theorem wJ(H:Int->Int->Int)(t r:Int):jb H t r (H t r)=H:=by
 funext t' r';unfold jb;split
 .rename_i e;rw[e.1,e.2]
 .rfl
theorem j0.refl(d:TD)(k:Nat):j0 d d k:=⟨Nat.le_succ _,λj b' hj=>⟨b',hj,Nat.le_add_right _ _⟩⟩
section
variable {h:Heap}{A:WA}{a:TA}{N:Nat}{d:TD}{R:RD}{H X:Int->Int->Int}
theorem A4(s:WS h A a N d R)(L:Lone d.Ts H X)(hN:N<=1000){i k:Nat}{c:CR}(hi:R.cs[i]? = some (some c)){b:TB}(hb:d.Ts[k]? = some b)(hst:dR c.a.t c.a.r a.c.S=(k:Int))(hx:c.a.x=X c.a.t c.a.r)(hx0:0<=c.a.x)(km:kn c.a.m=true)(hm:c.a.m≠0)(hF:H c.a.t c.a.r=0->d.F≠[])(hh:H c.a.t c.a.r=0->b.M.length<a.aW)(Bn:List Value)(hl:slot Bn 19=.int .i64 (H c.a.t c.a.r))(id:Int)(hid:H c.a.t c.a.r≠0->∃e∈b.M,e.t=c.a.t/\e.r=c.a.r/\e.Q=[⟨id,X c.a.t c.a.r,H c.a.t c.a.r,H c.a.t c.a.r,0⟩])(V:KQ)(hk:∀h' d',WS h' A a (N+1) d' { R with cs:=R.cs.set i (some { c with out:=1 }) }->Lone d'.Ts (jb H c.a.t c.a.r (bN (H c.a.t c.a.r) c.a.m)) X->j0 d d' k->WK a h h'->V (.tuple ⟨[]⟩) h'):qT (.pointer (some ⟨c.ca,0,none⟩)) Bn (.int .i64 id) h V:=by
 obtain⟨gc,c1,c2⟩:=bO s hi;have gc':=gc;unfold bZ at gc';have gw:=s.r.gw;unfold qT;simp(disch:=try exact Y)only[Wz,hl,aG,gc',gw];refine xu _ _ ?_;simp(disch:=try exact Y)only[Wz,aG,gc',gw];refine A3 s L c.a.t c.a.r _ ?_;intro v Q h1 hQ hv bG;obtain⟨vx,vc,ev,_⟩:=(show Sl bH h1 v Q from hv)
 have hlen:∀(β:Type)(fl:β)(h':Heap)(V:Z7 β),bJ fl v h' V=V (.int .i64 (Q.length:Int)) h':=λβ fl h' V=>by rw[ev];exact iu _ _ _ _ _
 have hQl:Q.length<=1:=by rcases hQ with rfl|⟨_,_,rfl⟩<;>simp
 simp(disch:=try exact Y)only[Wz,hlen];refine⟨λn l h2=>∃j:Nat,slot l 29=.int .i64 (j:Int)/\n=Q.length-j/\j<=Q.length/\Le h1 h2,⟨_,0,rfl,rfl,by omega,Le.refl _⟩,?_⟩;rintro n l h2 ⟨j,s1,rfl,hj,bt⟩;have n2:=bt.nx;have l2:=bt.lo;have n1:=bG.nx;have l1:=bG.lo;have hlo:=s.lo;by_cases hlt:j<Q.length
 .obtain⟨p,hp⟩:∃p,Q[j]? = some p:=⟨_,List.getElem?_eq_getElem hlt⟩
  obtain⟨b4,o4,hb4,hx4,T0,_⟩:=TW hv j hp;have hpx:0<=p.x:=by
   have hm:=List.mem_of_getElem? hp;rcases hQ with rfl|⟨i',m',rfl⟩
   .nomatch hm
   .rw[List.mem_singleton]at hm;subst hm;show 0<=X c.a.t c.a.r;omega
  rw[<-bt.get _ hb4]at T0;simp(disch:=try exact Y)only[Wz,qS,s1,fV (show(j:Int)<(Q.length:Int)by omega)];refine⟨λl' h'=>Le h1 h',?_,?_⟩
  .simp(disch:=try exact Y)only[Wz,zP,s1,hx4,T0,bH,dL (show(0:Int)<=p.x by omega)];exact bt.trans ((Le.refl h2).new _)
  .intro l' h' le';exact⟨_,by omega,j+1,rfl,rfl,by omega,le'⟩
 ·have kW:=bG.trans bt;have s2:=s.le kW;have uQ:=(kW.get _ c1).trans gc;have wI:=uQ;unfold bZ at wI;have Ua:=s2.r.gw;have k02:=s.Mp kW;simp(disch:=try exact Y)only[Wz,qS,s1,dL (show(Q.length:Int)<=(j:Int)by omega),zT,aG,wI,hl];refine oS _ _ ?_;have fin:∀h' d',WS h' A a (N+1) d' R->Lone d'.Ts (jb H c.a.t c.a.r (bN (H c.a.t c.a.r) c.a.m)) X->j0 d d' k->WK a h h'->V (.tuple ⟨[]⟩) ⟨h'.nx,h'.bl.aV c.ca (bZ A.wb { c with out:=1 }),h'.lo⟩:=λh' d' s' L' g' w'=>by
   obtain⟨uY,_,_⟩:=bO s' hi;exact hk _ d' (WS.iT s' hi rfl) L' g' (w'.trans (WS.uX s' uY (by simp[jO]) (by decide) _))
  unfold bZ at fin;by_cases H6:lN (H c.a.t c.a.r) c.a.m=true
  .have hH:H c.a.t c.a.r≠0:=λh0=>by rw[h0]at H6;exact hm (ZF H6)
   have hs:=(ki (L.km s.t hH) km hm).2.2.2 H6;rw[H6];simp(disch:=try exact Y)only[Wz,aG,wI];refine fin h2 d (s2.up (Nat.le_succ _)) (by rw[hs,wJ];exact L) (j0.refl _ _) k02
  .rw[Bool.not_eq_true]at H6;rw[H6];simp(disch:=try exact Y)only[Wz];refine⟨λl' h'=>∃d',slot l' 39=.bool true/\slot l' 40=.int .i64 0/\WS h' A a (N+1) d' R/\Lone d'.Ts (jb H c.a.t c.a.r (bN (H c.a.t c.a.r) c.a.m)) X/\j0 d d' k/\WK a h h',?_,?_⟩
   .by_cases hH:H c.a.t c.a.r=0
    .have am:bY c.a.m=true:=(jU _).2 ⟨hm,km⟩;rw[hH,Sz km];simp(disch:=try exact Y)only[Wz,hl,hH,zQ,aG,wI,Ua];rw[hx];refine V_ s2.t L (by omega) hN hb hst hH am (hF hH) (hh hH) _ ?_;intro h3 d3 id3 t3 L3 g3 f3 b3;simp(disch:=try exact Y)only[Wz];exact⟨d3,trivial,trivial,s2.table t3 f3 b3,L3,g3,k02.trans (s2.kfr f3)⟩
    .simp(disch:=try exact Y)only[Wz,hl,aZ hH,Gb,aG,wI,Ua];obtain⟨e,he,het,her,heQ⟩:=hid hH;refine Wa s2.t L (by omega) hN hb hst he het her heQ hH km hm _ ?_;intro h3 d3 t3 L3 g3 f3 b3;simp(disch:=try exact Y)only[Wz];exact⟨d3,trivial,trivial,s2.table t3 f3 b3,L3,g3,k02.trans (s2.kfr f3)⟩
   .rintro l' h3 ⟨d3,e1,e2,s3,L3,g3,k3⟩;obtain⟨uY,_,_⟩:=bO s3 hi;unfold bZ at uY;simp(disch:=try exact Y)only[Wz,zS,e2,Gd,Gc,e1,aG,uY];exact fin h3 d3 s3 L3 g3 k3
end
section
variable {h:Heap}{A:WA}{a:TA}{N:Nat}{d:TD}{R:RD}{H X:Int->Int->Int}
theorem Wb(s:WS h A a N d R)(L:Lone d.Ts H X)(hN:N<=1000){i k:Nat}{c:CR}(hi:R.cs[i]? = some (some c)){b:TB}(hb:d.Ts[k]? = some b)(hst:dR c.a.t c.a.r a.c.S=(k:Int))(hx:c.a.x=X c.a.t c.a.r)(hx0:0<=c.a.x)(km:kn c.a.m=true)(hm:c.a.m≠0)(hF:H c.a.t c.a.r=0->d.F≠[])(hh:H c.a.t c.a.r=0->b.M.length<a.aW)(V:KQ)(hk:∀h' d',WS h' A a (N+1) d' { R with cs:=R.cs.set i (some { c with out:=1 }) }->Lone d'.Ts (jb H c.a.t c.a.r (bN (H c.a.t c.a.r) c.a.m)) X->j0 d d' k->WK a h h'->V (.tuple ⟨[]⟩) h'):CallW prog 212 [.pointer (some ⟨c.ca,0,none⟩)] h V:=by
 obtain⟨gc,c1,c2⟩:=bO s hi;have gc':=gc;unfold bZ at gc';have gw:=s.r.gw;have hlo:=s.lo;refine av mixed ?_;rw[Rf];simp(disch:=try exact Y)only[Wz,aG,gc',gw];rw[hx];refine u0 s.t L hlo c.a.t c.a.r _ ?_ ?_
 .intro hH h1 bG;have s1:=s.le bG;simp(disch:=try exact Y)only[Wz];refine⟨λl' h'=>slot l' 19=.int .i64 (H c.a.t c.a.r)/\Le h1 h',⟨by rw[hH];rfl,Le.refl _⟩,?_⟩;rintro l' h2 ⟨sl,bt⟩;exact A4 (s1.le bt) L hN hi hb hst hx hx0 km hm hF hh l' sl 0 (λh0=>absurd hH h0) V λh' d' s' L' g' k'=>hk h' d' s' L' g' ((s.Mp (bG.trans bt)).trans k')
 .intro hH h1 k' b' e id hb' BX he ht hr hQ bG;obtain rfl:k'=k:=by omega
  rw[hb]at hb';cases hb';have s1:=s.le bG;obtain⟨yp,_,_⟩:=bO s1 hi;unfold bZ at yp;have Ys:=s1.r.gw;have n1:=bG.nx;have l1:=bG.lo;simp(disch:=try exact Y)only[Wz];refine⟨λl' h'=>slot l' 19=.int .i64 (H c.a.t c.a.r)/\Le h1 h',?_,?_⟩
  .simp(disch:=try exact Y)only[Wz,Ga,aG,yp,Ys];refine V9 s1.t (by omega) (List.mem_of_getElem? hb) he hQ _ ?_;intro h2 bt;have n2:=bt.nx;have l2:=bt.lo;simp(disch:=try exact Y)only[Wz,cV,mK,bH];exact⟨trivial,(((bt.new _).new _).set (by omega) _).set (by show h1.nx<=h2.nx+1;omega) _⟩
  .rintro l' h2 ⟨sl,bt⟩;exact A4 (s1.le bt) L hN hi hb hst hx hx0 km hm hF hh l' sl id (λ_=>⟨e,he,ht,hr,hQ⟩) V λh' d' s' L' g' k'=>hk h' d' s' L' g' ((s.Mp (bG.trans bt)).trans k')
theorem SA(s:WS h A a N d R)(L:Lone d.Ts H X){i k:Nat}{c:CR}(hi:R.cs[i]? = some (some c)){b:TB}(hb:d.Ts[k]? = some b)(hst:dR c.a.t c.a.r a.c.S=(k:Int)){id:Int}{e:HE}(he:e∈b.M)(ht:e.t=c.a.t)(hr:e.r=c.a.r)(hQ:e.Q=[⟨id,X c.a.t c.a.r,H c.a.t c.a.r,H c.a.t c.a.r,0⟩])(V:KQ)(hk:∀h' d',WS h' A a (N+1) d' R->Lone d'.Ts (jb H c.a.t c.a.r 0) X->j0 d d' k->WK a h h'->V (.tuple ⟨[]⟩) h'):CallW prog 300 [.pointer (some ⟨c.ca,0,none⟩),.int .i64 id] h V:=by
 obtain⟨gc,c1,c2⟩:=bO s hi;have gc':=gc;unfold bZ at gc';have gw:=s.r.gw;have hlo:=s.lo;refine av mixed ?_;rw[abw];simp(disch:=try exact Y)only[Wz,aG,gc',gw];refine Oc s.t L hlo hb hst he ht hr hQ _ ?_;intro h1 d1 v1 ho t1 L1 g1 f1 b1;have s1:=s.table t1 f1 b1;obtain⟨yp,k1,k2⟩:=bO s1 hi;have gcx:=yp;unfold bZ at gcx;have e1:(h1.bl.aV c.ca (bZ A.wb c))=h1.bl.aV c.ca (bZ A.wb c):=rfl;simp(disch:=try exact Y)only[Wz,aG,gcx];rw[append_nil ho.sl ⟨_,_,_,rfl⟩];simp(disch:=try exact Y)only[Wz,aG,gcx];have s2:=WS.iT s1 hi (c':=c) rfl;have hcs:R.cs.set i (some c)=R.cs:=by
  refine List.ext_getElem? λj=>?_;rw[List.getElem?_set];split
  .rename_i e;subst e;rw[hi,if_pos (List.getElem?_eq_some_iff.1 hi).1]
  .rfl
 rw[hcs]at s2;have hk:=hk _ d1 s2 L1 g1 ((s.kfr f1).trans (WS.uX s1 yp (by simp[jO]) (by decide) _));unfold bZ at hk;exact hk
theorem Wc(s:WS h A a N d R)(L:Lone d.Ts H X){i k:Nat}{c:CR}(hi:R.cs[i]? = some (some c)){b:TB}(hb:d.Ts[k]? = some b)(hst:dR c.a.t c.a.r a.c.S=(k:Int))(hx:c.a.x=X c.a.t c.a.r)(V:KQ)(hk:∀h' d',WS h' A a (N+1) d' { R with cs:=R.cs.set i (some { c with out:=if H c.a.t c.a.r=0 then 6 else 1 }) }->Lone d'.Ts (jb H c.a.t c.a.r 0) X->j0 d d' k->WK a h h'->V (.tuple ⟨[]⟩) h'):CallW prog 213 [.pointer (some ⟨c.ca,0,none⟩)] h V:=by
 obtain⟨gc,c1,c2⟩:=bO s hi;have gc':=gc;unfold bZ at gc';have gw:=s.r.gw;have hlo:=s.lo;have fin:∀h' d',WS h' A a (N+1) d' R->Lone d'.Ts (jb H c.a.t c.a.r 0) X->j0 d d' k->WK a h h'->V (.tuple ⟨[]⟩) ⟨h'.nx,h'.bl.aV c.ca (bZ A.wb { c with out:=if H c.a.t c.a.r=0 then 6 else 1 }),h'.lo⟩:=λh' d' s' L' g' w'=>by
  obtain⟨uY,_,_⟩:=bO s' hi;exact hk _ d' (WS.iT s' hi rfl) L' g' (w'.trans (WS.uX s' uY (by simp[jO]) (by decide) _))
 unfold bZ at fin;refine av mixed ?_;rw[aa1];simp(disch:=try exact Y)only[Wz,aG,gc',gw];rw[hx];refine u0 s.t L hlo c.a.t c.a.r _ ?_ ?_
 .intro hH h1 bG;have s1:=s.le bG;obtain⟨yp,_,_⟩:=bO s1 hi;unfold bZ at yp;simp(disch:=try exact Y)only[Wz,aG,yp];have:=fin h1 d (s1.up (Nat.le_succ _)) (by have:=wJ H c.a.t c.a.r;rw[hH]at this;rw[this];exact L) (j0.refl _ _) (s.Mp bG);rw[if_pos hH]at this;exact this
 .intro hH h1 k' b' e id hb' BX he ht hr hQ bG;obtain rfl:k'=k:=by omega
  rw[hb]at hb';cases hb';have s1:=s.le bG;simp(disch:=try exact Y)only[Wz];refine SA s1 L hi hb hst he ht hr hQ _ ?_;intro h2 d2 s2 L2 g2 k2;obtain⟨uQ,_,_⟩:=bO s2 hi;unfold bZ at uQ;simp(disch:=try exact Y)only[Wz,aG,uQ];have:=fin h2 d2 s2 L2 g2 ((s.Mp bG).trans k2);rw[if_neg hH]at this;exact this
end
def u6(k:Int)(f:FuncId)(n:Nat):MapEntry:={ key:=.int .i64 k,val:=.func (.func f) ⟨[]⟩ ⟨[]⟩,born:=n }
def H7:bD:=.map [u6 1 212 0,u6 2 213 1,u6 3 214 2] 3
theorem findF(h:Heap)(k k':Int)(f:FuncId)(n:Nat)(es:List MapEntry)(i:Nat):ff prog h 3 (.int .i64 k) (u6 k' f n::es) i=if k=k' then some (some (i,u6 k' f n))else ff prog h 3 (.int .i64 k) es (Nat.succ i):=by
 have hf:ff prog h 3 (.int .i64 k) (u6 k' f n::es) i=(match(some (decide (k=k')):Option Bool)with|some true=>some (some (i,u6 k' f n))|some false=>ff prog h 3 (.int .i64 k) es (Nat.succ i)|none=>none):=by
  rw[<-eqI h];rfl
 rw[hf];by_cases e:k=k'
 .rw[br e,if_pos e]
 .rw[aZ e,if_neg e]
theorem ri{es:List MapEntry}{clock:Nat}{h:Heap}{b:Nat}(g:h.bl.get b=some (.map es clock))(hlo:h.lo<=b)(k:Int)(f:FuncId)(hf:∀h:Heap,ff prog h 3 (.int .i64 k) es 0=some none)(V:KQ)(hk:V undef ⟨h.nx,h.bl.aV b (.map (es++[u6 k f clock]) (clock+1)),h.lo⟩):bS False prog 3 (.map (some b)) (.int .i64 k) (.func (.func f) ⟨[]⟩ ⟨[]⟩) h V:=by
 unfold bS;rw[NU];simp only[g,hf];rw[oG];simp only[b6];rw[bB _ _ _ _ hlo];exact hk
theorem JW(h:Heap)(V:KQ)(hlo:h.lo<=h.nx)(hk:∀b h',Le h h'->h'.bl.get b=some H7->V (.map (some b)) h'):CallW prog 158 [] h V:=by
 refine av mixed ?_;rw[aap];simp(disch:=try exact Y)only[Wz,fI];refine ri (es:=[]) (T.ah _ _ _) (by exact hlo) 1 212 (λh=>rfl) _ ?_;refine ri (T.ah _ _ _) (by exact hlo) 2 213 (λh=>by rw[List.nil_append,findF,if_neg (by decide)];rfl) _ ?_;refine ri (T.ah _ _ _) (by exact hlo) 3 214 (λh=>by rw[List.nil_append,List.singleton_append,findF,if_neg (by decide),findF,if_neg (by decide)];rfl) _ ?_;exact hk h.nx _ ((((Le.refl h).new _).set (Nat.le_refl _) _).set (Nat.le_refl _) _ |>.set (Nat.le_refl _) _) (T.ah _ _ _)
theorem SB{β:Type}{fl:β}{h:Heap}{b:Nat}(g:h.bl.get b=some H7)(k:Int)(f:FuncId)(hk:(k=1/\f=212)\/(k=2/\f=213))(V:Z7 β):cr fl prog 3 Value.nilFunc false (.map (some b)) (.int .i64 k) h V=V (.func (.func f) ⟨[]⟩ ⟨[]⟩) h:=by
 unfold cr ij;rw[NU];simp only[g,H7];rcases hk with⟨rfl,rfl⟩|⟨rfl,rfl⟩
 .rw[findF,if_pos rfl];rfl
 .rw[findF,if_neg (by decide),findF,if_pos rfl];rfl
section
variable {h:Heap}{A:WA}{a:TA}{N:Nat}{d:TD}{R:RD}{H X:Int->Int->Int}
theorem We(s:WS h A a N d R)(L:Lone d.Ts H X)(hN:N<=1000){i k:Nat}{c:CR}(hi:R.cs[i]? = some (some c))(vS:c.wt=false){b:TB}(hb:d.Ts[k]? = some b)(hst:dR c.a.t c.a.r a.c.S=(k:Int))(hx:c.a.x=X c.a.t c.a.r)(hx0:0<=c.a.x)(hm:oc c.a=true)(h3:c.a.k≠3)(hF:c.a.k=1->H c.a.t c.a.r=0->d.F≠[])(hh:c.a.k=1->H c.a.t c.a.r=0->b.M.length<a.aW)(V:KQ)(hk:∀h' d',WS h' A a (N+1) d' { R with cs:=R.cs.set i (some { c with ph:=3,out:=wG H c.a }) }->Lone d'.Ts (JQ H c.a) X->j0 d d' k->WK a h h'->V (.tuple ⟨[]⟩) h'):CallW prog 106 [.pointer (some ⟨c.ca,0,none⟩)] h V:=by
 obtain⟨gc,c1,c2⟩:=bO s hi;have gc':=gc;unfold bZ at gc';have hlo:=s.lo;have hil:=(List.getElem?_eq_some_iff.1 hi).1;unfold oc at hm;rw[Bool.and_eq_true]at hm;have hm:=hm.2
 have fin:∀h' d',WS h' A a (N+1) d' { R with cs:=R.cs.set i (some { c with out:=wG H c.a }) }->Lone d'.Ts (JQ H c.a) X->j0 d d' k->WK a h h'->
   CallW prog 57 [.pointer (some ⟨c.ca,0,none⟩),.int .i64 3,.func (.func 159) ⟨[.pointer (some ⟨c.ca,0,none⟩)]⟩ ⟨[]⟩] h' (λ_ h=>V (.tuple ⟨[]⟩) h):=by
  intro h' d' s' L' g' k';have hi':(R.cs.set i (some { c with out:=wG H c.a }))[i]? = some (some { c with out:=wG H c.a }):=by rw[List.getElem?_set,if_pos rfl,if_pos hil]
  obtain⟨uY,_,c3⟩:=bO s' hi';refine D0 { c with out:=wG H c.a } uY c3 3 _ rfl _ ?_;have s4:=WS.iT s' hi' (c':={ c with ph:=3,out:=wG H c.a }) rfl;simp only[List.set_set]at s4;exact hk _ d' s4 L' g' (k'.trans (WS.uX s' uY (by simp[jO]) (by decide) _))
 refine av mixed ?_;rw[Js];refine⟨λl' h'=>∃d',WS h' A a (N+1) d' { R with cs:=R.cs.set i (some { c with out:=wG H c.a }) }/\Lone d'.Ts (JQ H c.a) X/\j0 d d' k/\WK a h h',?_,?_⟩
 .simp(disch:=try exact Y)only[Wz,uC,aG,gc',vS,uB];refine JW h _ hlo ?_;intro b0 h1 bG g0;have s1:=s.le bG;have k1:=s.Mp bG;have yp:=(bG.get _ c1).trans gc';unfold wG JQ;by_cases ha:c.a.k=1
  .rw[if_pos ha]at hm ⊢;rw[if_pos ha];rw[Bool.and_eq_true,Bool.and_eq_true,decide_eq_true_eq]at hm;simp(disch:=try exact Y)only[Wz,SB g0 _ _ (.inl ⟨ha,rfl⟩),aG,yp,List.nil_append,List.append_nil];refine Wb s1 L hN hi hb hst hx hx0 hm.1.1 hm.1.2 (hF ha) (hh ha) _ ?_;intro h2 d2 s2 L2 g2 k2;rw[vS]at s2;exact⟨d2,s2,L2,g2,k1.trans k2⟩
  .rw[if_neg ha,if_neg h3,decide_eq_true_eq]at hm;rw[if_neg ha,if_neg ha];simp(disch:=try exact Y)only[Wz,SB g0 _ _ (.inr ⟨hm,rfl⟩),aG,yp,List.nil_append,List.append_nil];refine Wc s1 L hi hb hst hx _ ?_;intro h2 d2 s2 L2 g2 k2;rw[vS]at s2;exact⟨d2,s2,L2,g2,k1.trans k2⟩
 .rintro l' h' ⟨d',s',L',g',k'⟩;exact fin h' d' s' L' g' k'
theorem A5(s:WS h A a N d R)(L:Lone d.Ts H X)(hN:N<=1000){i k:Nat}{c:CR}(hi:R.cs[i]? = some (some c))(uZ:c.ph=2)(hbi:R.bits[i]? = some 0)(vS:c.wt=false){b:TB}(hb:d.Ts[k]? = some b)(hst:dR c.a.t c.a.r a.c.S=(k:Int))(hsk:c.st=(k:Int)){o:Option (Nat × Int)}(hl:R.dS[k]? = some o)(hx:c.a.x=X c.a.t c.a.r)(hx0:0<=c.a.x)(hm:oc c.a=true)(h3:c.a.k≠3)(hF:c.a.k=1->H c.a.t c.a.r=0->d.F≠[])(hh:c.a.k=1->H c.a.t c.a.r=0->b.M.length<a.aW)(V:KQ)(hk:∀h' d',WS h' A a (N+1) d' { R with cs:=R.cs.set i (some { c with ph:=3,out:=wG H c.a }) }->Lone d'.Ts (JQ H c.a) X->j0 d d' k->WK a h h'->V (.tuple ⟨[.bool false,.int .i64 0,.int .i64 0]⟩) h'):CallW prog 15 [.pointer (some ⟨A.wb,0,none⟩),.int .i64 (i:Int)] h V:=by
 have gw:=s.r.gw;have V7:=s.r.gc;have hil:=xE s hi;have r:(R.cs.map λo=>cZ (o.map (·.ca)))[i]? = some (.pointer (some ⟨c.ca,0,none⟩)):=jZ s hi;obtain⟨gc,c1,c2⟩:=bO s hi;have hlc:(R.cs.map λo=>cZ (o.map (·.ca))).length=A.n:=by rw[List.length_map];exact s.r.lc
 have gc':=gc;unfold bZ xD at gc';rw[uZ]at gc';have h1:decide (((2:Nat):Int)=1)=false:=by decide
 refine av mixed ?_;rw[Fj];simp(disch:=try exact Y)only[Wz,jF,rP];refine mQ s hil _ ?_;simp(disch:=try exact Y)only[Wz];refine nO s hi hbi hsk hl _ ?_;rw[uZ,h1];simp(disch:=try exact Y)only[Wz,Bool.not_false,Bool.true_or,rO,aG,gw,bh,V7,r,gc',Nat.mul_one,pO];refine We s L hN hi vS hb hst hx hx0 hm h3 hF hh _ ?_;intro h' d' s' L' g' k';have hi':(R.cs.set i (some { c with ph:=3,out:=wG H c.a }))[i]? = some (some { c with ph:=3,out:=wG H c.a }):=by rw[List.getElem?_set,if_pos rfl,if_pos (by have:=s.r.lc;omega)]
 obtain⟨uQ,_,_⟩:=bO s' hi';unfold bZ at uQ;simp(disch:=try exact Y)only[Wz,aG,uQ];exact hk h' d' s' L' g' k'
end
theorem H8(n:Nat):a_ [Value.int .i64 0] n=JS (List.replicate n 0):=by
 unfold JS
 induction n with
 |zero=>rfl
 |succ n ih=>rw[List.replicate_succ,List.map_cons,<-ih];rfl
theorem A6(n:Nat):a_ [Value.pointer none] n=List.replicate n (.pointer none):=by
 induction n with
 |zero=>rfl
 |succ n ih=>rw[List.replicate_succ,<-ih];rfl
theorem tK(v:Value)(n:Nat):(a_ [v] n).length=n:=by
 induction n with
 |zero=>rfl
 |succ n ih=>show(v::a_ [v] n).length=_;rw[List.length_cons,ih]
theorem H9(n:Nat)(hn:1<=n/\n<=8)(h:Heap)(V:KQ)(hk:∀h' pb ib,Le h h'->h.nx<=ib->ib<h'.nx->pb<h'.nx->h'.bl.get pb=some (aa [.slice (some ⟨ib,0,none⟩) n n] 244 false)->h'.bl.get ib=some (aa (JS (List.replicate n 0)) 3 false)->V (.tuple ⟨[.pointer (some ⟨pb,0,none⟩),.int .i64 0]⟩) h'):CallW prog 99 [.int .i64 (n:Int)] h V:=by
 refine av mixed ?_;rw[ag1];have hrl:=tK (.int .i64 0) n;simp(disch:=try exact Y)only[Wz,dL (show(1:Int)<=(n:Int)by omega),dL (show(n:Int)<=8 by omega)];rw[Dy _ _ _ _ _ (by omega) (by omega),H8];simp(disch:=try exact Y)only[Wz];exact hk _ _ _ (((Le.refl h).new _).new _) (Nat.le_refl _) (by show h.nx<h.nx+1+1;omega) (by show h.nx+1<h.nx+1+1;omega) (T.ah _ _ _) ((T.aj _ _ (by omega)).trans (T.ah _ _ _))
theorem JX(n:Nat)(hn:1<=n/\n<=16)(h:Heap)(V:KQ)(hk:∀h' lb hb,Le h h'->h.nx<=hb->hb<h'.nx->lb<h'.nx->h'.bl.get lb=some (aa [.slice (some ⟨hb,0,none⟩) n n] 247 false)->h'.bl.get hb=some (aa (List.replicate n (.pointer none)) 251 false)->V (.tuple ⟨[.pointer (some ⟨lb,0,none⟩),.int .i64 0]⟩) h'):CallW prog 100 [.int .i64 (n:Int)] h V:=by
 refine av mixed ?_;rw[ZM];have hrl:=tK (.pointer none) n;simp(disch:=try exact Y)only[Wz,dL (show(1:Int)<=(n:Int)by omega),dL (show(n:Int)<=16 by omega)];rw[Dy _ _ _ _ _ (by omega) (by omega),A6];simp(disch:=try exact Y)only[Wz];exact hk _ _ _ (((Le.refl h).new _).new _) (Nat.le_refl _) (by show h.nx<h.nx+1+1;omega) (by show h.nx+1<h.nx+1+1;omega) (T.ah _ _ _) ((T.aj _ _ (by omega)).trans (T.ah _ _ _))
theorem JY(h:Heap)(V:KQ)(hk:V (.pointer (some ⟨h.nx,0,none⟩)) ⟨h.nx+1,h.bl.aV h.nx (aa [.int .i64 0,.slice none 0 0] 200 false),h.lo⟩):CallW prog 101 [] h V:=by
 refine av mixed ?_;rw[ZN];simp(disch:=try exact Y)only[Wz];exact hk
theorem SC{h:Heap}{a:TA}{N:Nat}{d:TD}(s:BV h a N d)(hB:lz d.B=[]):(∀b∈d.Ts,b.M=[])/\d.F.length=d.B.length:=by
 constructor
 .intro b hb;cases hM:b.M with
  |nil=>rfl
  |cons e M=>
   exfalso;have he:e∈b.M:=by rw[hM];exact .head _
   have ids:=s.ids;rw[hB]at ids;have BR:=ids.eq_nil;have g:=((s.is.bk b hb).good e he)
   cases hQ:e.Q with
   |nil=>exact g.ne hQ
   |cons p Q=>
    have:p.id∈d.Ts.flatMap λb=>gK b.M:=List.mem_flatMap.2 ⟨b,hb,by
     unfold gK;exact List.mem_flatMap.2 ⟨e,he,List.mem_map.2 ⟨p,by rw[hQ];exact .head _,rfl⟩⟩⟩
    rw[BR]at this;cases this
 .have:=uO s.is.aX.ok;rw[hB]at this;simpa using this
structure SF(A:WA)(a:TA)(d:TD)(R:RD)(c:h_)(n:Nat):Prop where
 ec:a.c=c
 en:A.n=n
 hd:(a.aW:Int)=c.H
 em:∀b∈d.Ts,b.M=[]
 f:(d.F.length:Int)=c.R
 cs:R.cs=List.replicate n none
 dS:R.dS=List.replicate c.S.toNat none
 bits:R.bits=List.replicate n 0
 begun:R.begun=0
 now:R.now=0
 tv:R.tv=.slice none 0 0
 ms:a.ms=A.mb::a.bw::d.Ts.map (·.bm)
theorem pZ(a:Option Nat):(Value.cells (.map a)).toList=[.map a]:=id rfl
theorem aoD(n:Nat)(hn:n<=8)(h:Heap)(V:KQ)(hk:V (.slice (some ⟨h.nx,0,none⟩) n n) ⟨h.nx+1,h.bl.aV h.nx (aa (List.replicate n (.pointer none)) 118 false),h.lo⟩):y_ (match Value.int .i64 (n:Int),Value.int .i64 (n:Int)with | .int _ (.ofNat l),.int _ (.ofNat c)=>(match Nat.ble l c,Nat.ble c 1000000 with|true,true=>(aH none (a_ [(Value.pointer none)] c) 118 false λo=>some (o,sliceTo l c))|_,_=>none)|_,_=>none) h V:=by
 have e1:Nat.ble n n=true:=by rw[Nat.ble_eq];exact Nat.le_refl _
 have e2:Nat.ble n 1000000=true:=by rw[Nat.ble_eq];omega
 have hl:=tK (.pointer none) n
 show y_ (match Nat.ble n n,Nat.ble n 1000000 with|true,true=>(aH none (a_ [(Value.pointer none)] n) 118 false λo=>some (o,sliceTo n n))|_,_=>none) h V
 rw[e1,e2];simp only;rw[jj,zd,A6]
 .exact hk
 .omega
theorem adg(c:h_)(hc:jY c)(n:Nat)(hn:1<=n/\n<=8)(h:Heap)(hlo:h.lo<=h.nx)(V:KQ)(hk:∀h' A a d R,SF A a d R c n->WS h' A a 0 d R->Le h h'->(∀x,FB h' a.bp x->h.nx<=x)->V (.tuple ⟨[.pointer (some ⟨A.wb,0,none⟩),.int .i64 0]⟩) h'):CallW prog 52 [uV c,.int .i64 (n:Int)] h V:=by
 obtain⟨S,hS⟩:∃S:Nat,c.S=(S:Int):=⟨c.S.toNat,by have:=hc.1;omega⟩
 refine av mixed ?_;rw[agx];simp(disch:=try exact Y)only[Wz,uV];obtain⟨hA,aT,aL,g1,dy,dz⟩:=kf h (aa [.int .i64 c.S,.int .i64 c.H,.int .i64 c.R,.int .i64 c.P] 115 false);rw[<-aT];clear aT;refine VZ c hA _ (by omega) ?_ ?_
 .intro h1 e _ hno _;exact absurd hc hno
 intro h1 tb bw bp bl vb aW Ts F _ t1 gbm gbw gbp gbl bG fb1;have n1:=bG.nx;have l1:=bG.lo;have hcS:1<=S/\S<=16:=by have:=hc.1;have:=hc.2.1;omega
 have A7:=bG.nx;have A8:=bG.lo;have g1:=bG.up g1;simp(disch:=try exact Y)only[Wz,Lv];refine H9 n hn h1 _ ?_;intro h2 pb ib bt i1 i2 p2 gp gi;have n2:=bt.nx;have l2:=bt.lo;have o5:=bt.nx;have o_:=bt.lo;have g1:=bt.up g1;simp(disch:=try exact Y)only[Wz,Lu,aG,g1,hS];refine JX S hcS h2 _ ?_;intro h3 lb hb dg j1 j2 q2 gl gh;have n3:=dg.nx;have l3:=dg.lo;simp(disch:=try exact Y)only[Wz];refine aoD n hn.2 h3 _ ?_;simp(disch:=try exact Y)only[Wz,ptrTo,sliceTo,fI];obtain⟨h4,e4⟩:∃h4:Heap,h4=⟨h3.nx+1+1,(h3.bl.aV h3.nx (aa (List.replicate n (Value.pointer none)) 118 false)).aV (h3.nx+1) (bD.map [] 0),h3.lo⟩:=⟨_,rfl⟩
 have iS:Le h3 h4:=by rw[e4];exact((Le.refl h3).new _).new _
 have gc4:h4.bl.get h3.nx=some (aa (List.replicate n (Value.pointer none)) 118 false):=by rw[e4];exact(T.aj _ _ (by omega)).trans (T.ah _ _ _)
 have gm4:h4.bl.get (h3.nx+1)=some (bD.map [] 0):=by rw[e4];exact T.ah _ _ _
 have n4:h4.nx=h3.nx+1+1:=by rw[e4]
 have l4:=iS.lo;rw[<-e4];clear e4;refine JY h4 _ ?_;obtain⟨h5,e5⟩:∃h5:Heap,h5=⟨h4.nx+1,h4.bl.aV h4.nx (aa [.int .i64 0,.slice none 0 0] 200 false),h4.lo⟩:=⟨_,rfl⟩
 have vw:Le h4 h5:=by rw[e5];exact(Le.refl h4).new _
 have gk5:h5.bl.get h4.nx=some (aa [.int .i64 0,.slice none 0 0] 200 false):=by rw[e5];exact T.ah _ _ _
 have n5:h5.nx=h4.nx+1:=by rw[e5]
 have l5:=vw.lo;rw[<-e5];clear e5;simp(disch:=try exact Y)only[Wz];rw[oM _ _ _ _ _ _ _ (by rw[pZ];rfl) (Nat.le_of_ble_eq_true rfl),qP];simp(disch:=try exact Y)only[Wz,pZ];obtain⟨h6,e6⟩:∃h6:Heap,h6=⟨h5.nx+1,h5.bl.aV h5.nx (aa [.pointer (some ⟨tb,0,none⟩),.pointer (some ⟨lb,0,none⟩),.pointer (some ⟨pb,0,none⟩),.pointer (some ⟨h4.nx,0,none⟩),.slice (some ⟨h3.nx,0,none⟩) n n,.map (some (h3.nx+1)),.int .i64 0] 126 false),h5.lo⟩:=⟨_,rfl⟩
 have Mb:Le h5 h6:=by rw[e6];exact(Le.refl h5).new _
 have gw6:h6.bl.get h5.nx=some (aa [.pointer (some ⟨tb,0,none⟩),.pointer (some ⟨lb,0,none⟩),.pointer (some ⟨pb,0,none⟩),.pointer (some ⟨h4.nx,0,none⟩),.slice (some ⟨h3.nx,0,none⟩) n n,.map (some (h3.nx+1)),.int .i64 0] 126 false):=by rw[e6];exact T.ah _ _ _
 have n6:h6.nx=h5.nx+1:=by rw[e6]
 have l6:=Mb.lo;have hk:=hk h6 ⟨h5.nx,lb,hb,pb,ib,h4.nx,h3.nx,h3.nx+1,n⟩ ⟨tb,bw,bp,bl,c,vb,aW,(h3.nx+1)::bw::Ts.map (·.bm)⟩ ⟨Ts,[],0,F,List.replicate c.R.toNat false⟩ ⟨List.replicate S none,List.replicate n 0,0,.slice none 0 0,List.replicate n none,[],0,0⟩;have t6:=t1.le (bt.trans (dg.trans (iS.trans (vw.trans Mb))));have adh:=iS.trans (vw.trans Mb);have Wf:=dg.trans adh;have nl:=SC (a:=⟨tb,bw,bp,bl,c,vb,aW,(h3.nx+1)::bw::Ts.map (·.bm)⟩) (d:=⟨Ts,[],0,F,List.replicate c.R.toNat false⟩) t6 (HT _);have hR:=hc.2.2.2.2.1;have aub:=t1.is.BT;rw[e6]at hk;refine hk ⟨rfl,rfl,t1.cH,nl.1,?_,rfl,?_,rfl,rfl,rfl,rfl,rfl⟩ ?_ (aL.trans (bG.trans (bt.trans (Wf.trans (by rw[e6];exact Le.refl _))))) ?_
 .have:=nl.2;simp only[List.length_replicate]at this
  show(F.length:Int)=c.R
  omega
 .show List.replicate S none=List.replicate c.S.toNat none
  rw[hS];rfl
 .rw[<-e6];have hm1:∀(m:Nat)(f:Option CR->Value),f none=.pointer none->(List.replicate m (none:Option CR)).map f=List.replicate m (.pointer none):=λm f hf=>by rw[List.map_replicate,hf]
  have hm2:∀(m:Nat) (f:Option (Nat × Int)->Value),f none=.pointer none->(List.replicate m (none:Option (Nat × Int))).map f=List.replicate m (.pointer none):=λm f hf=>by rw[List.map_replicate,hf]
  refine⟨t6,⟨⟨by show h5.nx<h6.nx;omega,by show h6.lo<=h5.nx;omega⟩,gw6,by show lb<h6.nx;omega,?_,⟨by show hb<h6.nx;omega,by show h6.lo<=hb;omega⟩,?_,?_,by show pb<h6.nx;omega,?_,⟨by show ib<h6.nx;omega,by show h6.lo<=ib;omega⟩,?_,List.length_replicate ..,⟨by show h4.nx<h6.nx;omega,by show h6.lo<=h4.nx;omega⟩,?_,⟨by show h3.nx<h6.nx;omega,by show h6.lo<=h3.nx;omega⟩,?_,List.length_replicate ..,?_,⟨by show h3.nx+1<h6.nx;omega,by show h6.lo<=h3.nx+1;omega⟩,?_,hn,?_⟩,?_,?_,⟨.head _,.tail _ (.head _),λb hb'=>.tail _ (.tail _ (List.mem_map.2 ⟨b,hb',rfl⟩))⟩,by omega⟩
  .simp only[List.length_replicate];exact(adh.get _ q2).trans gl
  .rw[hm2 S _ rfl];exact(adh.get _ j2).trans gh
  .intro p hp;rw[List.mem_replicate]at hp;nomatch hp.2
  .exact(Wf.get _ p2).trans gp
  .exact(Wf.get _ i2).trans gi
  .exact(Mb.get h4.nx (by omega)).trans gk5
  .show h6.bl.get h3.nx=_
   rw[hm1 n _ rfl];exact((vw.trans Mb).get h3.nx (by omega)).trans gc4
  .intro p hp;rw[List.mem_replicate]at hp;nomatch hp.2
  .exact((vw.trans Mb).get (h3.nx+1) (by omega)).trans gm4
  .rw[List.pairwise_replicate];exact .inr λc c' e=>nomatch e
  .show h3.nx+1≠bw;omega
  .intro b hb';have:=(t1.is.bk b hb').kO
   show h3.nx+1≠b.bm;omega
 ·intro x hx;rw[<-e6]at hx;obtain⟨_,_,hb1,_⟩:∃fs ls,bp<h1.nx/\h1.bl.get bp=some (aa [fs,ls] 286 false):=by
   obtain⟨fs,hg,_⟩:=t1.is.aX.fr.cell;exact⟨fs,_,t1.is.aX.fr.lt,hg⟩
  have:=fb1 x ((FB.congr ((bt.trans Wf).get bp hb1)).1 hx);omega
def lI(h:Heap):Prop:=∀d,(∀vs t o,h.bl.get d≠some (aa vs t o))/\∀es c,h.bl.get d≠some (.map es c)
section
variable {h:Heap}{A:WA}{a:TA}{N:Nat}{d:TD}{R:RD}
theorem WS.Wg(s:WS h A a N d R){x:Nat}{v:List Value}{t:TypeId}{o:Bool}(hg:h.bl.get x=some (aa v t o))(ht:¬lZ t o)(hr:¬jO t o)(ob:bD):WS ⟨h.nx,h.bl.aV x ob,h.lo⟩ A a N d R:=by
 refine⟨lH.put s.t ob (λvs ty op h1 e=>?_) (dh hg s.t.is.pq) λb hb=>dh hg (s.t.is.bk b hb).gu,s.r.keep (Nat.le_refl _) rfl (λc vs ty op _ h1 e=>T.aj _ _ ?_) (T.aj _ _ (dh hg s.r.gm)),s.mw,s.mm,s.mi,s.lo⟩
 .rw[hg]at e;obtain⟨rfl,rfl⟩:=gf e;exact ht h1
 .rintro rfl;rw[hg]at e;obtain⟨rfl,rfl⟩:=gf e;exact hr h1
end
theorem rV{α:Type}{l:List α}{i:Nat}{x y:α}(h:l[i]? = some y):(l.set i x)[i]? = some x:=by rw[List.getElem?_set,if_pos rfl,if_pos (List.getElem?_eq_some_iff.1 h).1]
theorem CM{α:Type}{l:List α}{i j:Nat}{x:α}(h:j≠i):(l.set i x)[j]? = l[j]?:=by rw[List.getElem?_set,if_neg (λe=>h e.symm)]
section
variable {h:Heap}{A:WA}{a:TA}{N:Nat}{d:TD}{R:RD}{H X Hk Gn:Int->Int->Int}
end
section
variable {h:Heap}{A:WA}{a:TA}{N:Nat}{d:TD}{R:RD}{H X Hk Gn:Int->Int->Int}
end
def JZ:h_:=⟨2,8,24,2⟩
theorem Wh:jY JZ:=by unfold jY JZ;decide
theorem Od(h:Heap)(V:KQ)(hlo:h.lo<=h.nx)(hk:∀h',Le h h'->V (uV JZ) h'):CallW prog 53 [] h V:=by
 refine av mixed ?_;rw[agy];simp(disch:=try exact Y)only[Wz];exact hk _ ((Le.refl h).new _)
theorem SF.lone{A:WA}{a:TA}{d:TD}{R:RD}{c:h_}{n:Nat}(nw:SF A a d R c n)(X:Int->Int->Int):Lone d.Ts (λ_ _=>0) X:=
 ⟨λb hb e he=>(by rw[nw.em b hb]at he;cases he),λt r hH=>absurd rfl hH⟩
theorem SF.bit{A:WA}{a:TA}{d:TD}{R:RD}{c:h_}{n i:Nat}(nw:SF A a d R c n)(hi:i<n):R.bits[i]? = some 0:=by
 rw[nw.bits,List.getElem?_replicate,if_pos hi]
theorem Wi{t r:Int}(h:bf t r≠-1):∃k:Nat,k<2/\dR t r 2=(k:Int):=by
 unfold dR;rw[if_neg (by rintro(h1|h1|h1)<;>first|omega|exact h h1)];have h1:=Int.tmod_nonneg (a:=wC (jN t r)) 2 (tI _).1;have h2:=Int.tmod_lt_of_pos (wC (jN t r)) (show(0:Int)<2 by decide);exact⟨((wC (jN t r)).tmod 2).toNat,by omega,by omega⟩
def oe(m:Int):Int:=if m=1\/m=3 then 1 else if m=2\/m=4\/m=5\/m=6 then 2 else 0
theorem SH{f:FuncId}{F:Int->Value}(h1:∀i,i<7->bE prog 200 f [.int .i64 (.ofNat i)] (F (.ofNat i))=true)(h2:∀(n:Nat),bE prog 200 f [.int .i64 (.negSucc n)] (F (.negSucc n))=true)(h3:∀(n:Nat),bE prog 200 f [.int .i64 (.ofNat (n+7))] (F (.ofNat (n+7)))=true)(a:Int){h:Heap}{V:KQ}(hk:V (F a) h):CallW prog f [.int .i64 a] h V:=by
 refine rH mixed (n:=200) ?_ hk;rcases wj a with⟨i,hi,rfl⟩|⟨n,rfl⟩|⟨n,rfl⟩
 .exact h1 i hi
 .exact h2 n
 .exact h3 n
theorem SJ(n:Nat):oe (.negSucc n)=0:=by unfold oe;rw[if_neg (by omega),if_neg (by omega)]
theorem SK(n:Nat):oe (.ofNat (n+7))=0:=by
 have:(Int.ofNat (n+7))=(n:Int)+7:=rfl;rw[this];unfold oe;rw[if_neg (by omega),if_neg (by omega)]
theorem adi:∀i,i<7->bE prog 200 180 [.int .i64 (.ofNat i)] (.int .i64 (oe (.ofNat i)))=true:=by decide +kernel
theorem adj(n:Nat):bE prog 200 180 [.int .i64 (.negSucc n)] (.int .i64 0)=true:=by kernel_rfl
theorem adk(n:Nat):bE prog 200 180 [.int .i64 (.ofNat (n+7))] (.int .i64 0)=true:=by kernel_rfl
theorem H_(a:Int){h:Heap}{V:KQ}(hk:V (.int .i64 (oe a)) h):CallW prog 180 [.int .i64 a] h V:=
 SH (F:=λa=>.int .i64 (oe a)) adi (λn=>by rw[SJ];exact adj n) (λn=>by rw[SK];exact adk n) a hk
abbrev N2:=Int × Int
def nP(t r:Int):List N2:=if bf t r=1 then[(-1,-1)]else if bf t r=2 then[(-1,-1),(t,-1)]else[]
theorem yq(t r:Int):(nP t r).length<=2:=by unfold nP;split<;>(try split)<;>simp
theorem pF(t r:Int):bf t r = -1\/bf t r=0\/bf t r=1\/bf t r=2:=by unfold bf;split<;>(try split)<;>(try split)<;>simp
theorem aiY{h:Heap}{V:KQ}(hk:V (cV (-1) (-1)) h):CallW prog 202 [] h V:=
 rH mixed (show bE prog 100 202 [] (cV (-1) (-1))=true by kernel_rfl) hk
theorem Oe(zs:List Value)(n:Nat):a_ zs (n+1)=zs++a_ zs n:=id rfl
theorem adl{β:Type}{fl:β}(a:Int)(h:Heap)(V:Z7 β)(ha:0<=a):CY fl (.int .i64 a) (.int .i64 0) h V=V (.int .i64 a) h:=by
 unfold CY;simp only;rw[gN,aZ (by omega)]
theorem aoE{β:Type}{fl:β}(h:Heap)(V:Z7 β):CY fl (.int .i64 (-1)) (.int .i64 0) h V=V (.int .i64 0) h:=id rfl
theorem SM{β:Type}{fl:β}(b:Nat)(h:Heap)(V:Z7 β):sliceB fl 28 2 (.slice (some ⟨b,0,none⟩) 2 2) none (some (.int .i64 0)) none h V=V (.slice (some ⟨b,0,none⟩) 0 2) h:=by
 unfold sliceB;rfl
theorem adm{β:Type}{fl:β}(b:Nat)(h:Heap)(V:Z7 β):sliceB fl 28 2 (.slice (some ⟨b,0,none⟩) 2 2) none (some (.int .i64 1)) none h V=V (.slice (some ⟨b,0,none⟩) 1 2) h:=by
 unfold sliceB;rfl
theorem adn{β:Type}{fl:β}(b:Nat)(h:Heap)(V:Z7 β):sliceB fl 28 2 (.slice (some ⟨b,0,none⟩) 2 2) none (some (.int .i64 2)) none h V=V (.slice (some ⟨b,0,none⟩) 2 2) h:=by
 unfold sliceB;rfl
theorem SN(t r:Int)(h:Heap)(V:KQ)(hlo:h.lo<=h.nx)(hk:∀v h',Sl iI h' v (nP t r)->kY 8 v v=true->Le h h'->V v h'):CallW prog 181 [cV t r] h V:=by
 refine av mixed ?_;rw[aaA];simp(disch:=try exact Y)only[Wz,cV];refine aiY ?_;simp(disch:=try exact Y)only[Wz,cV,Oe,List.cons_append,List.nil_append];refine lR t r ?_;have hle1:=(Le.refl h).new (aa [.int .i64 t,.int .i64 r] 28 false);have hle2:=hle1.new (aa [.int .i64 (-1),.int .i64 (-1),.int .i64 t,.int .i64 (-1)] 28 false);have hh:∀k,k<=4->Has ((T.aV (T.aV h.bl h.nx (aa [.int .i64 t,.int .i64 r] 28 false)) (h.nx+1) (aa [.int .i64 (-1),.int .i64 (-1),.int .i64 t,.int .i64 (-1)] 28 false)).get (h.nx+1)) 0 ([Value.int .i64 (-1),.int .i64 (-1),.int .i64 t,.int .i64 (-1)].take k):=by
  intro k hk;rw[T.ah];have:=Has.cells (vs:=[Value.int .i64 (-1),.int .i64 (-1),.int .i64 t,.int .i64 (-1)]) (e:=28) (op:=false) (o:=0) (k:=k) (by simpa using hk);simpa using this
 rcases pF t r with h1|h1|h1|h1
 .simp(disch:=try exact Y)only[Wz,h1,aoE,SM];exact hk _ _ ⟨some ⟨h.nx+1,0,none⟩,2,by simp[nP,h1],λhn=>by simp[nP,h1]at hn⟩ (iR _ _ _ _) hle2
 .simp(disch:=try exact Y)only[Wz,h1,adl,SM];exact hk _ _ ⟨some ⟨h.nx+1,0,none⟩,2,by simp[nP,h1],λhn=>by simp[nP,h1]at hn⟩ (iR _ _ _ _) hle2
 .simp(disch:=try exact Y)only[Wz,h1,adl,adm];exact hk _ _ ⟨some ⟨h.nx+1,0,none⟩,2,by simp[nP,h1],λ_=>⟨_,0,rfl,Nat.lt_succ_self _,by simpa[nP,h1,iI]using hh 2 (by omega)⟩⟩ (iR _ _ _ _) hle2
 .simp(disch:=try exact Y)only[Wz,h1,adl,adn];exact hk _ _ ⟨some ⟨h.nx+1,0,none⟩,2,by simp[nP,h1],λ_=>⟨_,0,rfl,Nat.lt_succ_self _,by simpa[nP,h1,iI]using hh 4 (by omega)⟩⟩ (iR _ _ _ _) hle2
theorem ldN{h:Heap}{v:Value}{L:List N2}(hs:Sl iI h v L)(i:Nat){p:N2}(hp:L[i]? = some p):∃b o,b<h.nx/\(∀(β:Type)(fl:β)(h':Heap)(V:Z7 β),aK fl 2 v (.int .i64 (i:Int)) h' V=V (.pointer (some ⟨b,o,none⟩)) h')/\
   ((∀(β:Type)(fl:β)(V:List Value->β),x9 fl (h.bl.get b) o 2 V=V (iI p))/\
   (∀(β:Type)(fl:β)(V:Value->β),w9 fl (h.bl.get b) o V=V (.int .i64 p.1))/\
   (∀(β:Type)(fl:β)(V:Value->β),w9 fl (h.bl.get b) (o+1) V=V (.int .i64 p.2))):=by
 obtain⟨b,o,h1,h2,h3,hh⟩:=hs.ld mO i hp;have h4:(iI p).length=2:=rfl;refine⟨b,o,h1,h2,h3,λβ fl V=>?_,λβ fl V=>?_⟩
 .exact eY (fl:=fl) hh 0 V (by omega)
 .exact eY (fl:=fl) hh 1 V (by omega)
abbrev xS(p:L4):Value:=.agg ⟨cI p⟩
theorem ldP{h:Heap}{v:Value}{L:List L4}(hs:Sl cI h v L)(i:Nat){p:L4}(hp:L[i]? = some p):∃b o,b<h.nx/\(∀(β:Type)(fl:β)(h':Heap)(V:Z7 β),aK fl 4 v (.int .i64 (i:Int)) h' V=V (.pointer (some ⟨b,o,none⟩)) h')/\
   ((∀(β:Type)(fl:β)(V:List Value->β),x9 fl (h.bl.get b) o 4 V=V (cI p))/\
   (∀(β:Type)(fl:β)(V:List Value->β),x9 fl (h.bl.get b) (o+1) 2 V=V [.int .i64 p.t,.int .i64 p.r])/\
   (∀(β:Type)(fl:β)(V:Value->β),w9 fl (h.bl.get b) o V=V (.int .i64 p.x))/\
   (∀(β:Type)(fl:β)(V:Value->β),w9 fl (h.bl.get b) (o+1) V=V (.int .i64 p.t))/\
   (∀(β:Type)(fl:β)(V:Value->β),w9 fl (h.bl.get b) (o+2) V=V (.int .i64 p.r))/\
   (∀(β:Type)(fl:β)(V:Value->β),w9 fl (h.bl.get b) (o+3) V=V (.int .i64 p.m))):=by
 obtain⟨b,o,h1,h2,h3,hh⟩:=hs.ld cW i hp;have h4:(cI p).length=4:=rfl;refine⟨b,o,h1,h2,h3,λβ fl V=>pQ (hh.sub 1 2 (by omega)) 2 V rfl,λβ fl V=>?_,λβ fl V=>?_,λβ fl V=>?_,λβ fl V=>?_⟩
 .exact eY (fl:=fl) hh 0 V (by omega)
 .exact eY (fl:=fl) hh 1 V (by omega)
 .exact eY (fl:=fl) hh 2 V (by omega)
 .exact eY (fl:=fl) hh 3 V (by omega)
def zL:List Value:=[.int .i64 0,.int .i64 0,.int .i64 0,.int .i64 0]
theorem aoH:Cw prog 43:=⟨λh n c n' c'=>by kernel_rfl,λh a n c n' c'=>by kernel_rfl⟩
theorem SP(a0 a1:Value)(h:Heap)(V:KQ):aM prog 253 [a0,a1] h V=ew prog 3 4 a0 a1 h V:=by kernel_rfl
theorem ado(a0:Value)(h:Heap)(V:KQ):aM prog 76 [a0] h V=uv prog 43 46 4 zL a0 h V:=by kernel_rfl
theorem SQ(a0 a1:Value)(h:Heap)(V:KQ):aM prog 264 [a0,a1] h V=ej prog 3 253 46 4 zL a0 a1 h V:=by kernel_rfl
theorem A9(L:List L4)(F:L4->Bool)(h:Heap)(v fv:Value)(V:KQ)(hv:Sl cI h v L)(hlen:L.length<=1000000)(hF:∀p,p∈L->∀(h1:Heap)(κ1:Value->Heap->Prop),Le h h1->(∀h2,Le h1 h2->κ1 (.bool (F p)) h2)->fJ prog fv [Dt cI p] h1 κ1)(hk:∀h',Le h h'->V (.int .i64 (gj (L.findIdx? F))) h'):CallW prog 253 [v,fv] h V:=mI mixed cW SP L F h v fv V hv hlen hF hk
theorem u7(L:List L4)(h:Heap)(v:Value)(V:KQ)(hv:Sl cI h v L)(hlen:L.length<=1000000)(hlo:h.lo<=h.nx)(hk:∀v' h',DX h h' v' L->Le h h'->V v' h'):CallW prog 76 [v] h V:=
 Jj mixed cW q_ (by decide) (by decide) aoH ado L h v V hv hlen hlo hk
theorem Of(a h:Heap)(L:List L4)(F:L4->Bool)(v fv:Value)(V:KQ)(hle:Le a h)(ho:DX a h v L)(hlen:L.length<=100000)(hlo:a.lo<=a.nx)(hF:∀p,∀(h1:Heap)(κ1:Value->Heap->Prop),Le a h1->(h.nx<=h1.nx/\∀c,c<h.nx->h.bl.get c≠some (aa (L.flatMap cI) 46 true)->h1.bl.get c=h.bl.get c)->(∀h2,Le h1 h2->κ1 (.bool (F p)) h2)->fJ prog fv [Dt cI p] h1 κ1)(hk:∀v' h',Sl cI h' v' (L.filter λp=>!F p)->Cut 46 4 h' v' (L.filter λp=>!F p).length->Le a h'->(h.nx<=h'.nx/\∀c,c<h.nx->h.bl.get c≠some (aa (L.flatMap cI) 46 true)->h'.bl.get c=h.bl.get c)->yb 46 h' v'->V v' h'):CallW prog 264 [v,fv] h V:=
 tf mixed cW q_ (by decide) (by decide) (by decide) (by decide) SP SQ a h L F v fv V hle ho hlen hlo hF hk
end Go.Proofs

namespace Go.Vai
open Go
variable {P:Program}{w:World}
theorem SR{B:Nat}{C:Array Value}{e:TypeId}(hC:w.heap[B]? = some (.cells C e (0,0)))(o j:Nat):w.cell? ((⟨B,o,none⟩:Addr).add j)=C[o+j]?:=by
 rw[jy];simp[World.cell?,hC]
theorem fH{B o k m n c:Nat}{C:Array Value}{e:TypeId}(hC:w.heap[B]? = some (.cells C e (0,0)))(hle:o+m*k<=C.size):(Builtin.firstCells k m (.slice (some ⟨B,o,none⟩) n c)).run P w=.ok ((C.toList.drop o).take (m*k)).toArray w:=by
 have hlen:((C.toList.drop o).take (m*k)).length=m*k:=by simp;omega
 have:=run_loadCells_list (P:=P) w ⟨B,o,none⟩ ((C.toList.drop o).take (m*k)) λj v hj=>by
  rw[SR hC];rw[List.getElem?_take]at hj;split at hj
  .simpa[List.getElem?_drop]using hj
  .cases hj
 rw[hlen]at this;exact this
theorem iU{tS e k ty D o dl dc n c:Nat}{a:Option Addr}{l':List Value}{R:Array Value}(hu:P.underlying tS=some (.slice e))(hs:fD P e=some k)(hf:(Builtin.firstCells k (Nat.min n dl) (.slice a n c)).run P w=.ok l'.toArray w)(hR:w.heap[D]? = some (.cells R e (0,0)))(hfit:o+l'.length<=R.size)(hone:∀v∈l',v.oneCell'=true):(Builtin.copy_ #[tS,tS] ty #[.slice (some ⟨D,o,none⟩) dl dc,.slice a n c]).run P w=.ok (goInt (Nat.min n dl)) (w.setRow D (R.toList.take o++l'++R.toList.drop (o+l'.length)).toArray):=by
 have h1:=run_storeCells_at P D o e l' 0 R w hR (by simpa using hfit) hone;simp only[Nat.add_zero]at h1;simp[Builtin.copy_,aU hu,cD hs,Builtin.lenOf,hf,h1,goInt]
theorem J1(L:List Value)(a b N:Nat)(h1:a<=N)(h2:N+b<=L.length):(L.take (a+b)++(L.drop a).take (N-a)++L.drop (N+b)).take a=(L.take N).take a:=by
 rw[List.append_assoc,List.take_append_of_le_length (by simp;omega),List.take_take,List.take_take]
 congr 1;omega
theorem J2(L:List Value)(a b N:Nat)(h1:a<=N)(h2:N+b<=L.length):(L.take (a+b)++(L.drop a).take (N-a)++L.drop (N+b)).drop (a+b)=(L.take N).drop a++L.drop (N+b):=by
 rw[List.append_assoc,List.drop_left' (by simp;omega),List.drop_take]
end Go.Vai

namespace Go.Proofs
open Go.Shelf Go.RowKit Go.Lib Go.Vai
open Tryz (prog)
set_option maxHeartbeats 4000000 in
set_option maxRecDepth 100000 in
theorem J4(base:Option Addr)(n c VB vo m vc:Nat)(w:World)(r:Value)(w':World)(hm:0<m)(hle:n<=c)(hr:(Builtin.append_ #[43,43] 43 #[.slice base n c,.slice (some ⟨VB,vo,none⟩) m vc]).run prog w=.ok r w'):Calls prog 255 #[.slice base n c,.int .i64 n,.slice (some ⟨VB,vo,none⟩) m vc] w λe w''=>e=.returned r/\w''=w':=by
 have hz1:¬((m:Int)=0):=by omega
 go_enter Tryz.func255,Tryz.ntmps255
 go_wp2_with (at_builtin;refine Lib.wpList_append_run _ rfl _ _ 43 43 rfl _ _ rfl rfl _ _ hr ?_)
 all_goals go_ret
 all_goals exact⟨rfl,rfl⟩
theorem CN:prog.underlying 43=some (.slice 46):=Tryz.underlying43
theorem Og:fD prog 46=some 4:=by kernel_rfl
set_option maxHeartbeats 4000000 in
set_option maxRecDepth 100000 in
theorem J5(B n c i VB vo m vc:Nat)(C VC:Array Value)(e2:TypeId)(new:List Value)(w:World)(hne:B≠VB)(hi:i<n)(hm:0<m)(hroom:n+m<=c)(um:n+m<=1000000)(hC:w.heap[B]? = some (.cells C 46 (0,0)))(hV:w.heap[VB]? = some (.cells VC e2 (0,0)))(hcs:c*4<=C.size)(hf:∀w1:World,w1.heap[VB]? = w.heap[VB]?->(Builtin.firstCells 4 m (.slice (some ⟨VB,vo,none⟩) m vc)).run prog w1=.ok new.toArray w1)(hnl:new.length=m*4)(h1v:∀v∈new,v.oneCell'=true)(h1c:∀v∈C.toList.take (n*4),v.oneCell'=true):Calls prog 255 #[.slice (some ⟨B,0,none⟩) n c,.int .i64 i,.slice (some ⟨VB,vo,none⟩) m vc] w λe w''=>e=.returned (.slice (some ⟨B,0,none⟩) (n+m) c)/\
   ∃d,w.drawn<=d/\w''={ w.setRow B (((C.toList.take (n*4)).take (i*4)++new++(C.toList.take (n*4)).drop (i*4))++C.toList.drop ((n+m)*4)).toArray with drawn:=d }:=by
 have mixed:=mixed;have hz1:¬((m:Int)=0):=by omega
 have yP:¬((i:Int)=(n:Int)):=by omega
 have hw1:IntKind.i64.wrap ((i:Int)+(m:Int))=(i:Int)+(m:Int):=by rw[IntKind.wrap_i64];omega
 have hw2:IntKind.i64.wrap ((n:Int)+(m:Int))=(n:Int)+(m:Int):=by rw[IntKind.wrap_i64];omega
 have hb1:(0:Int)<=(i:Int)+(m:Int):=by omega
 have hin:i<=n:=by omega
 have htn:((i:Int)+(m:Int)).toNat=i+m:=by omega
 have hb2:¬(c=i+m):=by omega
 have hb3:(i:Int)<=(n:Int)+(m:Int):=by omega
 have hb4:¬(c=i):=by omega
 have hB:C.size≠0:=by omega
 have aud:∀j,w.frozen? ⟨B,j,none⟩=false:=λj=>by simp[World.frozen?,hC]
 have aiZ:∀j,w.frozen? ⟨VB,j,none⟩=false:=λj=>by simp[World.frozen?,hV]
 have Dv:∀lb cb,(callFunc 326 #[.slice (some ⟨VB,vo,none⟩) m vc,.slice (some ⟨B,(i+m)*4,none⟩) lb cb]).run prog w=.ok (.value (.bool false)) w:=λlb cb=>by
  rw[run_callFunc_extern Tryz.func326 (by kernel_rfl) (by kernel_rfl) (by kernel_rfl) (e:=Extern.SlicesOverlaps.overlaps #[43,43] #[4]) (by kernel_rfl),
   Lib.run_overlaps_apart w 43 4 46 CN 4 (λw=>cD Og) ⟨VB,vo,none⟩ ⟨B,(i+m)*4,none⟩ m vc lb cb (λe=>hne e.symm) e2 46 VC.size C.size (by simp[World.shape?,hV]) (by simp[World.shape?,hC]) hB (aiZ _) (aiZ _)]
  rfl
 have hnc:(n+m)*4<=C.size:=by omega
 have hCd:w.drew.heap[B]? = some (.cells C 46 (0,0)):=hC;have qn:((C.toList.drop (i*4)).take ((n-i)*4)).length=(n-i)*4:=by simp;omega
 have adp:∀ty dc sc,(Builtin.copy_ #[43,43] ty #[.slice (some ⟨B,(i+m)*4,none⟩) (n+m-(i+m)) dc,.slice (some ⟨B,i*4,none⟩) (n+m-i) sc]).run prog w.drew=.ok (goInt ((n-i:Nat))) (w.drew.setRow B (C.toList.take ((i+m)*4)++(C.toList.drop (i*4)).take ((n-i)*4)++C.toList.drop ((n+m)*4)).toArray):=λty dc sc=>by
  have hmin:Nat.min (n+m-i) (n+m-(i+m))=n-i:=by simp only[Nat.min_def];split<;>omega
  have h:=iU (P:=prog) (w:=w.drew) (ty:=ty) (D:=B) (o:=(i+m)*4) (dl:=n+m-(i+m)) (dc:=dc) (n:=n+m-i) (c:=sc) (a:=some ⟨B,i*4,none⟩) (l':=(C.toList.drop (i*4)).take ((n-i)*4)) CN Og
   (by rw[hmin];exact fH hCd (by omega)) hCd (by rw[qn];omega) (λv hv=>h1c v (by
    rw[List.mem_iff_getElem?]at hv ⊢;obtain⟨j,hj⟩:=hv;rw[List.getElem?_take]at hj;split at hj
    .rw[List.getElem?_drop]at hj;exact⟨i*4+j,by rw[List.getElem?_take_of_lt (by omega)];exact hj⟩
    .cases hj))
  rw[hmin,qn,show(i+m)*4+(n-i)*4=(n+m)*4 by omega]at h;exact h
 obtain⟨R1,T_⟩:∃R1:Array Value,R1=(C.toList.take ((i+m)*4)++(C.toList.drop (i*4)).take ((n-i)*4)++C.toList.drop ((n+m)*4)).toArray:=⟨_,rfl⟩
 rw[<-T_]at adp;have aoJ:R1.size=C.size:=by rw[T_];simp;omega
 obtain⟨W1,Yx⟩:∃W1,W1=w.drew.setRow B R1:=⟨_,rfl⟩
 obtain⟨R2,Yr⟩:∃R2:Array Value,R2=(((C.toList.take (n*4)).take (i*4)++new++(C.toList.take (n*4)).drop (i*4))++C.toList.drop ((n+m)*4)).toArray:=⟨_,rfl⟩
 have aoK:W1.heap[B]? = some (.cells R1 46 (0,0)):=by rw[Yx];exact setRow_heap w.drew B C R1 46 (0,0) hCd
 have aoL:W1.heap[VB]? = w.heap[VB]?:=by rw[Yx];exact setRow_other w.drew B VB R1 (λe=>hne e.symm)
 have aoM:∀(W:World),W.heap=W1.heap->∀ty dc,(Builtin.copy_ #[43,43] ty #[.slice (some ⟨B,i*4,none⟩) (n+m-i) dc,.slice (some ⟨VB,vo,none⟩) m vc]).run prog W=.ok (goInt m) (W.setRow B R2):=λW hW ty dc=>by
  have hmin:Nat.min m (n+m-i)=m:=by simp only[Nat.min_def];split<;>omega
  have h:=iU (P:=prog) (w:=W) (ty:=ty) (D:=B) (o:=i*4) (dl:=n+m-i) (dc:=dc) (n:=m) (c:=vc) (a:=some ⟨VB,vo,none⟩) (l':=new) CN Og
   (by rw[hmin];exact hf W (by rw[hW];exact aoL)) (by rw[hW];exact aoK) (by rw[hnl];omega) h1v
  rw[hmin]at h;have hrow:(R1.toList.take (i*4)++new++R1.toList.drop (i*4+new.length)).toArray=R2:=by
   rw[Yr,T_,hnl];have e1:=J1 C.toList (i*4) (m*4) (n*4) (by omega) (by simp;omega);have e2:=J2 C.toList (i*4) (m*4) (n*4) (by omega) (by simp;omega);rw[<-Nat.add_mul,<-Nat.add_mul,<-Nat.sub_mul]at e1 e2;rw[List.toList_toArray,e1,<-Nat.add_mul,e2,List.append_assoc,List.append_assoc,List.append_assoc]
  rw[hrow]at h;exact h
 rw[<-Yx]at adp;rw[<-Yr]
 go_enter Tryz.func255,Tryz.ntmps255
 go_wp2_with (simp only[Dv])
 go_region_law_o (refine step_copy_runI rfl _ _ 43 43 rfl _ _ (by simp[Act.eval,Act.put]) (by simp[Act.eval,Act.put]) (adp _ _ _) ?_)
 go_wp2_with (at_builtin;refine wpList_copy_runI _ rfl _ _ 43 43 rfl _ _ rfl rfl (aoM _ rfl _ _) ?_)
 go_ret
 refine⟨rfl,w.drawn+1,Nat.le_succ _,?_⟩;rw[setRow_setRow,Yr];simp only[List.append_assoc];rfl
end Go.Proofs

namespace Go.Proofs
open Go.Shelf Go.RowKit Go.Lib Go.Vai
open Tryz (prog)
theorem Oh(C Z R new:List Value)(a b N:Nat)(h1:a<=N)(h2:N<=C.length)(hn:new.length=b)(hz:Z.length=N+b-a):(((C.take a++Z++R).take a++new++(C.take a++Z++R).drop (a+b)).take (a+b)++(C.drop a).take (N-a)++((C.take a++Z++R).take a++new++(C.take a++Z++R).drop (a+b)).drop (N+b)) =
   ((C.take N).take a++new++(C.take N).drop a)++R:=by
 have la:(C.take a).length=a:=by simp;omega
 have e1:(C.take a++Z++R).take a=C.take a:=by rw[List.append_assoc,List.take_append_of_le_length (by omega),List.take_take];congr 1;omega
 have e2:(C.take N).take a=C.take a:=by rw[List.take_take];congr 1;omega
 have e3:(C.take N).drop a=(C.drop a).take (N-a):=by rw[List.drop_take]
 have l2:(C.take a++new).length=a+b:=by simp;omega
 have e4:(C.take a++new++(C.take a++Z++R).drop (a+b)).take (a+b)=C.take a++new:=List.take_left' l2;have e5:(C.take a++new++(C.take a++Z++R).drop (a+b)).drop (N+b)=R:=by
  have hs:N+b=(a+b)+(N-a):=by omega
  rw[hs,<-List.drop_drop,List.drop_left' l2,List.drop_drop];exact List.drop_left' (by simp;omega)
 rw[e1,e4,e5,e2,e3]
set_option maxHeartbeats 4000000 in
set_option maxRecDepth 100000 in
theorem A_(B n c i VB vo m vc G N:Nat)(R1 R2:Array Value)(w W1:World)(hi:i<n)(hm:0<m)(hnc:n<=c)(hroom:c<n+m)(um:n+m<=1000000)(hG1:n+m<=G)(Yy:(Builtin.append_ #[43,3] 43 #[.slice (some ⟨B,0,none⟩) i c,.int .i64 ((n:Int)+(m:Int)-(i:Int))]).run prog w=.ok (.slice (some ⟨N,0,none⟩) (n+m) G) W1)(adq:∀(W:World),W.heap=W1.heap->∀ty dc,(Builtin.copy_ #[43,43] ty #[.slice (some ⟨N,i*4,none⟩) (n+m-i) dc,.slice (some ⟨VB,vo,none⟩) m vc]).run prog W=.ok (goInt m) (W.setRow N R1))(adr:∀(W:World),W.heap=(W1.setRow N R1).heap->∀ty dc sc,(Builtin.copy_ #[43,43] ty #[.slice (some ⟨N,(i+m)*4,none⟩) (n+m-(i+m)) dc,.slice (some ⟨B,i*4,none⟩) (n-i) sc]).run prog W=.ok (goInt ((n-i:Nat))) (W.setRow N R2)):Calls prog 255 #[.slice (some ⟨B,0,none⟩) n c,.int .i64 i,.slice (some ⟨VB,vo,none⟩) m vc] w λe' w''=>
   e'=.returned (.slice (some ⟨N,0,none⟩) (n+m) G)/\w''=(W1.setRow N R1).drew.setRow N R2:=by
 have mixed:=mixed;have hz1:¬((m:Int)=0):=by omega
 have yP:¬((i:Int)=(n:Int)):=by omega
 have Pk:(c:Int)<(n:Int)+(m:Int):=by omega
 have hGi:¬(G=i):=by omega
 have aue:¬(G=i+m):=by omega
 have hci:¬(c=i):=by omega
 have hw1:IntKind.i64.wrap ((i:Int)+(m:Int))=(i:Int)+(m:Int):=by rw[IntKind.wrap_i64];omega
 have hw2:IntKind.i64.wrap ((n:Int)+(m:Int))=(n:Int)+(m:Int):=by rw[IntKind.wrap_i64];omega
 have hw3:IntKind.i64.wrap ((n:Int)+(m:Int)-(i:Int))=(n:Int)+(m:Int)-(i:Int):=by rw[IntKind.wrap_i64];omega
 have hb1:(0:Int)<=(i:Int)+(m:Int):=by omega
 have hin:i<=n:=by omega
 have auf:i<=c:=by omega
 have htn:((i:Int)+(m:Int)).toNat=i+m:=by omega
 have hb3:(i:Int)<=(n:Int):=by omega
 go_enter Tryz.func255,Tryz.ntmps255
 go_wp2_with (first
  |(at_builtin;refine Lib.wpList_append_run _ rfl _ _ 43 3 rfl _ _ rfl rfl _ _ Yy ?_)
  |(at_builtin;refine wpList_copy_runI _ rfl _ _ 43 43 rfl _ _ rfl rfl (adq _ rfl _ _) ?_))
 go_region_law_o (refine step_copy_runI rfl _ _ 43 43 rfl (.slice (some ⟨N,(i+m)*4,none⟩) (n+m-(i+m)) (G-(i+m))) (.slice (some ⟨B,i*4,none⟩) (n-i) (c-i)) (by simp[Act.eval,Act.put]) (by simp[Act.eval,Act.put]) (adr (W1.setRow N R1).drew rfl 3 (G-(i+m)) (c-i)) ?_)
 go_wp2
 go_ret
 exact⟨rfl,rfl⟩
set_option maxHeartbeats 4000000 in
set_option maxRecDepth 100000 in
theorem Oi(B n c i VB vo m vc:Nat)(C VC:Array Value)(e2:TypeId)(new:List Value)(w:World)(hne:B≠VB)(hi:i<n)(hm:0<m)(hnc:n<=c)(hroom:c<n+m)(um:n+m<=1000000)(hC:w.heap[B]? = some (.cells C 46 (0,0)))(hV:w.heap[VB]? = some (.cells VC e2 (0,0)))(hcs:n*4<=C.size)(hf:∀w1:World,w1.heap[VB]? = w.heap[VB]?->(Builtin.firstCells 4 m (.slice (some ⟨VB,vo,none⟩) m vc)).run prog w1=.ok new.toArray w1)(hnl:new.length=m*4)(h1v:∀v∈new,v.oneCell'=true)(h1c:∀v∈C.toList.take (n*4),v.oneCell'=true){inf:TypeInfo}{z:Value}(Wj:prog.info? 46=some inf)(hz:inf.zero=some z)(hzc:z.cells.size=4)(hby:inf.bytes<=10000)(h3:prog.underlying 3=some (.int .i64)):Calls prog 255 #[.slice (some ⟨B,0,none⟩) n c,.int .i64 i,.slice (some ⟨VB,vo,none⟩) m vc] w λe' w''=>∃dn rest d,w.drawn<=d/\n+m<=dn/\rest.length=(dn-(n+m))*4/\
   e'=.returned (.slice (some ⟨w.heap.size,0,none⟩) (n+m) dn)/\
   w''={ w.alloc (.cells (((C.toList.take (n*4)).take (i*4)++new++(C.toList.take (n*4)).drop (i*4))++rest).toArray 46 (0,0))with drawn:=d }:=by
 have mixed:=mixed;have hz1:¬((m:Int)=0):=by omega
 have yP:¬((i:Int)=(n:Int)):=by omega
 have Pk:(c:Int)<(n:Int)+(m:Int):=by omega
 have hkk:(n:Int)+(m:Int)-(i:Int)=((n+m-i:Nat):Int):=by omega
 have hik:i+(n+m-i)=n+m:=by omega
 have hzs:(Builtin.zeroCells z.cells (n+m-i)).size=(n+m-i)*4:=by rw[size_zeroCells,hzc]
 obtain⟨G,rest,hG1,hrl,Yy⟩:=oI (P:=prog) (w:=w) (e:=46) (size:=4) (n:=n+m-i) (sLen:=i) (sCap:=c) (ty:=43) (ts:=#[43,3]) (base:=some ⟨B,0,none⟩) (x':=.int .i64 ((n+m-i:Nat):Int))
  (new':=(Builtin.zeroCells z.cells (n+m-i)).toList) (old':=C.toList.take (i*4)) (t:=43) rfl CN Og Wj hz hby
  (.mk (k':=.i64) (inf:=inf) (v:=z) rfl h3 (by omega) Wj hz hby (by simp) (by intro h;omega)) (by omega) (by omega)
  (λw1 hw1=>by
   have:=fH (P:=prog) (w:=w1) (B:=B) (o:=0) (k:=4) (m:=i) (n:=i) (c:=c) (C:=C) (e:=46) (by rw[hw1];exact hC) (by omega);simpa using this)
 rw[hik,hzc]at hrl;rw[hik]at hG1 Yy;rw[<-hkk]at Yy;obtain⟨Z,hZ⟩:∃Z,Z=(Builtin.zeroCells z.cells (n+m-i)).toList:=⟨_,rfl⟩
 have hZl:Z.length=(n+m-i)*4:=by rw[hZ];simpa using hzs
 rw[<-hZ]at Yy;obtain⟨Wk,ads⟩:∃Wk:Array Value,Wk=(C.toList.take (i*4)++Z++rest).toArray:=⟨_,rfl⟩
 rw[<-ads]at Yy;have hRs:(n+m)*4<=Wk.size:=by rw[ads];simp[hZl];omega
 obtain⟨W1,Yx⟩:∃W1,W1=w.drew.alloc (.cells Wk 46 (0,0)):=⟨_,rfl⟩
 rw[<-Yx]at Yy;have hBl:B<w.heap.size:=(Array.getElem?_eq_some_iff.mp hC).1;have hVl:VB<w.heap.size:=(Array.getElem?_eq_some_iff.mp hV).1;have ai0:W1.heap[w.heap.size]? = some (.cells Wk 46 (0,0)):=by rw[Yx];show(w.heap.push _)[w.heap.size]? = _;simp
 have ai1:∀k,k<w.heap.size->W1.heap[k]? = w.heap[k]?:=λk hk=>by rw[Yx];exact ef (w:=w.drew) hk
 obtain⟨R1,T_⟩:∃R1:Array Value,R1=(Wk.toList.take (i*4)++new++Wk.toList.drop (i*4+m*4)).toArray:=⟨_,rfl⟩
 have aoJ:R1.size=Wk.size:=by rw[T_];simp[hnl];omega
 have qn:((C.toList.drop (i*4)).take ((n-i)*4)).length=(n-i)*4:=by simp;omega
 obtain⟨R2,Yr⟩:∃R2:Array Value,R2=(R1.toList.take ((i+m)*4)++(C.toList.drop (i*4)).take ((n-i)*4)++R1.toList.drop ((n+m)*4)).toArray:=⟨_,rfl⟩
 have adq:∀(W:World),W.heap=W1.heap->∀ty dc,(Builtin.copy_ #[43,43] ty #[.slice (some ⟨w.heap.size,i*4,none⟩) (n+m-i) dc,.slice (some ⟨VB,vo,none⟩) m vc]).run prog W=.ok (goInt m) (W.setRow w.heap.size R1):=λW hW ty dc=>by
  have hmin:Nat.min m (n+m-i)=m:=by simp only[Nat.min_def];split<;>omega
  have h:=iU (P:=prog) (w:=W) (ty:=ty) (D:=w.heap.size) (o:=i*4) (dl:=n+m-i) (dc:=dc) (n:=m) (c:=vc) (a:=some ⟨VB,vo,none⟩) (l':=new) CN Og
   (by rw[hmin];exact hf W (by rw[hW];exact ai1 VB hVl)) (by rw[hW];exact ai0) (by rw[hnl];omega) h1v
  rw[hmin,hnl,<-T_]at h;exact h
 have adr:∀(W:World),W.heap=(W1.setRow w.heap.size R1).heap->∀ty dc sc,(Builtin.copy_ #[43,43] ty #[.slice (some ⟨w.heap.size,(i+m)*4,none⟩) (n+m-(i+m)) dc,.slice (some ⟨B,i*4,none⟩) (n-i) sc]).run prog W=.ok (goInt ((n-i:Nat))) (W.setRow w.heap.size R2):=λW hW ty dc sc=>by
  have hmin:Nat.min (n-i) (n+m-(i+m))=n-i:=by simp only[Nat.min_def];split<;>omega
  have hWB:W.heap[B]? = some (.cells C 46 (0,0)):=by rw[hW,setRow_other W1 w.heap.size B R1 (by omega),ai1 B hBl];exact hC
  have hWN:W.heap[w.heap.size]? = some (.cells R1 46 (0,0)):=by rw[hW];exact setRow_heap W1 w.heap.size Wk R1 46 (0,0) ai0
  have h:=iU (P:=prog) (w:=W) (ty:=ty) (D:=w.heap.size) (o:=(i+m)*4) (dl:=n+m-(i+m)) (dc:=dc) (n:=n-i) (c:=sc) (a:=some ⟨B,i*4,none⟩) (l':=(C.toList.drop (i*4)).take ((n-i)*4)) CN Og
   (by rw[hmin];exact fH hWB (by omega)) hWN (by rw[qn];omega) (λv hv=>h1c v (by
    rw[List.mem_iff_getElem?]at hv ⊢;obtain⟨j,hj⟩:=hv;rw[List.getElem?_take]at hj;split at hj
    .rw[List.getElem?_drop]at hj;exact⟨i*4+j,by rw[List.getElem?_take_of_lt (by omega)];exact hj⟩
    .cases hj))
  rw[hmin,qn,show(i+m)*4+(n-i)*4=(n+m)*4 by omega,<-Yr]at h;exact h
 refine(A_ B n c i VB vo m vc G w.heap.size R1 R2 w W1 hi hm hnc hroom um hG1 Yy adq adr).mono ?_;rintro e' w'' ⟨rfl,rfl⟩;refine⟨G,rest,w.drawn+2,Nat.le_add_right _ _,hG1,hrl,rfl,?_⟩;have aoN:R2=(((C.toList.take (n*4)).take (i*4)++new++(C.toList.take (n*4)).drop (i*4))++rest).toArray:=by
  rw[Yr,T_,ads]
  congr 1
  have:=Oh C.toList Z rest new (i*4) (m*4) (n*4) (by omega) (by simpa using hcs) hnl (by rw[hZl];omega);rw[<-Nat.sub_mul,<-Nat.add_mul,<-Nat.add_mul]at this;rw[<-Nat.add_mul];exact this
 rw[Yx,aoN];have ed:∀(X:World)(g:Nat)(R:Array Value),X.drew.setRow g R=(X.setRow g R).drew:=λ_ _ _=>rfl;have ea:∀(A R:Array Value),(w.drew.alloc (.cells A 46 (0,0))).setRow w.heap.size R=w.drew.alloc (.cells R 46 (0,0)):=λA R=>World.setRow_alloc_new w.drew A R 46;rw[ed,setRow_setRow,ea];rfl
end Go.Proofs

namespace Go.Vai
open Go
variable {β:Type}{fl:β}{good:β->Prop}{P:Program}{φ:ee}{h:Heap}{w:World}
def D1(fl:β)(e size:Nat)(base:Option Addr)(n cap i vb vo m vc:Nat)(h:Heap)(V:Z7 β):β:=
 match Nat.ble (i+1) n,Nat.ble cap 1000000000 && Nat.ble (cap+1) (n+(m+1)),base with
 |true,true,some ⟨b,0,none⟩=>match Nat.beq vb b,h.bl.get b,h.bl.get vb with
  |false,some (.cells _ _ e' _),some (.cells ..)=>match Nat.beq e' e,Nat.ble (n+(m+1)) 1000000 with
   | true,true=>d_ fl h size n (.slice (some ⟨b,0,none⟩) n cap) λold=>d_ fl h size (m+1) (.slice (some ⟨vb,vo,none⟩) (m+1) vc) λnew=>
     match old.all dJ && new.all dJ with
     |true=>dF fl (old.take (i*size)++new++old.drop (i*size)) e true h λnb h=>V (.slice (some ⟨nb,0,none⟩) (n+(m+1)) aS) h
     |false=>fl
   |_,_=>fl
  |_,_,_=>fl
 |_,_,_=>fl
def rW(fl:β)(e size:Nat)(z:List Value)(args:List Value)(h:Heap)(V:Z7 β):β:=
 match args with
 | [.slice base n cap,.int .i64 (.ofNat i),.slice (some ⟨vb,vo,none⟩) (m+1) vc]=>
  match Nat.beq i n with
  |true=>bR fl e size z false (.slice base n cap) (.slice (some ⟨vb,vo,none⟩) (m+1) vc) h V
  |false=>match Nat.beq cap aS with
   |false=>D1 fl e size base n cap i vb vo m vc h V
   |true=>match Nat.ble (i+1) n,Nat.beq cap aS,base with
    |true,true,some ⟨b,0,none⟩=>match Nat.beq vb b,h.bl.get b,h.bl.get vb with
     |false,some (.cells nn _ e' true),some (.cells ..)=>match Nat.beq e' e,Nat.ble (n+(m+1)) 1000000 with
      | true,true=>d_ fl h size n (.slice base n cap) λold=>d_ fl h size (m+1) (.slice (some ⟨vb,vo,none⟩) (m+1) vc) λnew=>
        match old.all dJ && new.all dJ with
        |true=>setBlock fl b (.dead nn e) h λh=>dF fl (old.take (i*size)++new++old.drop (i*size)) e true h λnb h=>V (.slice (some ⟨nb,0,none⟩) (n+(m+1)) aS) h
        |false=>fl
      |_,_=>fl
     |_,_,_=>fl
    |_,_,_=>fl
 |_=>fl
structure Ba(P:Program)(f:FuncId)(tS e k:Nat):Prop where
 enters:∀(args:Array Value)(w:World),(callFunc f args).run P w=.ok (.enter f args) w
 atEnd:∀(base:Option Addr)(n c VB vo m vc:Nat)(w:World)(r:Value)(w':World),0<m->n<=c->
  (Builtin.append_ #[tS,tS] tS #[.slice base n c,.slice (some ⟨VB,vo,none⟩) m vc]).run P w=.ok r w'->
  Calls P f #[.slice base n c,.int .i64 n,.slice (some ⟨VB,vo,none⟩) m vc] w λe w''=>e=.returned r/\w''=w'
 shift:∀(B n c i VB vo m vc:Nat)(C VC:Array Value)(e2:TypeId)(new:List Value)(w:World),B≠VB->i<n->0<m->n+m<=c->n+m<=1000000->
  w.heap[B]? = some (.cells C e (0,0))->w.heap[VB]? = some (.cells VC e2 (0,0))->c*k<=C.size->(∀w1:World,w1.heap[VB]? = w.heap[VB]?->(Builtin.firstCells k m (.slice (some ⟨VB,vo,none⟩) m vc)).run P w1=.ok new.toArray w1)->
  new.length=m*k->(∀v∈new,v.oneCell'=true)->(∀v∈C.toList.take (n*k),v.oneCell'=true)->
  Calls P f #[.slice (some ⟨B,0,none⟩) n c,.int .i64 i,.slice (some ⟨VB,vo,none⟩) m vc] w λe w''=>e=.returned (.slice (some ⟨B,0,none⟩) (n+m) c)/\
   ∃d,w.drawn<=d/\w''={ w.setRow B (((C.toList.take (n*k)).take (i*k)++new++(C.toList.take (n*k)).drop (i*k))++C.toList.drop ((n+m)*k)).toArray with drawn:=d }
 grow:∀(B n c i VB vo m vc:Nat)(C VC:Array Value)(e2:TypeId)(new:List Value)(w:World),B≠VB->i<n->0<m->n<=c->c<n+m->n+m<=1000000->
  w.heap[B]? = some (.cells C e (0,0))->w.heap[VB]? = some (.cells VC e2 (0,0))->n*k<=C.size->(∀w1:World,w1.heap[VB]? = w.heap[VB]?->(Builtin.firstCells k m (.slice (some ⟨VB,vo,none⟩) m vc)).run P w1=.ok new.toArray w1)->
  new.length=m*k->(∀v∈new,v.oneCell'=true)->(∀v∈C.toList.take (n*k),v.oneCell'=true)->
  Calls P f #[.slice (some ⟨B,0,none⟩) n c,.int .i64 i,.slice (some ⟨VB,vo,none⟩) m vc] w λe' w''=>∃dn rest d,w.drawn<=d/\n+m<=dn/\rest.length=(dn-(n+m))*k/\
   e'=.returned (.slice (some ⟨w.heap.size,0,none⟩) (n+m) dn)/\
   w''={ w.alloc (.cells (((C.toList.take (n*k)).take (i*k)++new++(C.toList.take (n*k)).drop (i*k))++rest).toArray e (0,0))with drawn:=d }
set_option maxHeartbeats 2000000 in
set_option maxRecDepth 100000 in
theorem BY(hfl:¬good fl){f tS e size:Nat}{z:List Value}(hI:Ba P f tS e size)(hz:O2 P e=some (z,size))(hr:HR P φ h w){base base':Option Addr}{n cap cap' i vb vo m vc Oj:Nat}{BZ:Pl}(hs:VR φ (.slice base n cap) (.slice base' n cap'))(hpv:φ vb=some BZ)(hv:VR φ (.slice (some ⟨vb,vo,none⟩) (m+1) vc) (.slice (some ⟨BZ.B,vo,none⟩) (m+1) Oj)){V:Z7 β}(hg:good (D1 fl e size base n cap i vb vo m vc h V)):vN good P φ h w V f #[.slice base' n cap',.int .i64 (.ofNat i),.slice (some ⟨BZ.B,vo,none⟩) (m+1) Oj]:=by
 obtain⟨hz1,yP,Pk,MY⟩:=lW hz;unfold D1 at hg;split at hg<;>try cases hfl hg
 rename_i b hlt ID;simp only[Bool.and_eq_true]at ID;have hlt:i<n:=cF hlt;have hc1:cap<=1000000000:=cF ID.1;have hc2:cap<n+(m+1):=cF ID.2;obtain⟨pl,hp,rfl,rfl,hle⟩:∃pl,φ b=some pl/\cap'=cap/\base'=some ⟨pl.B,0,none⟩/\n<=cap:=by
  cases hs with
  |slice hp hn hc=>exact⟨_,hp,rfl,rfl,hn⟩
  |bT hp hn hc=>exact absurd hc1 (by decide)
  |cU=>exact absurd hc1 (by decide)
 split at hg<;>try cases hfl hg
 rename_i nn cc e' op nv cv ev opv hne hb hvb;have hne:=oE hne;split at hg<;>try cases hfl hg
 rename_i hee um;have hee:=cz hee;subst hee;have um:n+(m+1)<=1000000:=cF um;obtain⟨C,hC,xL,hn2,Uu,hcell⟩:=hr.rowAt hb hp;obtain⟨VC,Yz,Y4,_,_,_⟩:=hr.rowAt hvb hpv;have Wl:pl.B≠BZ.B:=λhB=>hne (hr.inj b vb _ _ pl BZ hb hvb trivial trivial hp hpv hB).symm;obtain⟨old,k1,k3,k5,k6⟩:=jA hfl hb hg;obtain⟨new,new',n1,n2,n3,n4⟩:=f_ hfl hr k1 hv ⟨_,_,_,rfl,Nat.le_refl _⟩;split at n1<;>try exact absurd n1 hfl
 rename_i ue;simp only[Bool.and_eq_true]at ue;unfold dF at n1;obtain⟨m1,m2⟩:=kF hfl n1;obtain⟨m3,m4⟩:=dA hfl m2;have hnn:n*size<=nn:=by
  have:=k5 (by intro hnil;rw[hnil]at k3;simp at k3;rcases k3.symm with h0;have:0<n*size:=Nat.mul_pos (by omega) MY;omega);omega
 have Bw:n*size<=C.size:=Nat.le_trans hnn xL;have hold:F2 (VR φ) old (C.toList.take (n*size)):=by
  refine F2.mz (by simp;omega) λj v v' e1 e2=>?_;have hj:j<n*size:=by rw[<-k3];exact(List.getElem?_eq_some_iff.mp e1).1
  have h1:=k6 j v e1;rw[Nat.zero_add]at h1;obtain⟨v2,h2,h3⟩:=hcell j v h1 (by omega);rw[List.getElem?_take_of_lt hj]at e2;rw[Array.getElem?_toList,h2]at e2;cases e2;exact h3
 have hmid:F2 (VR φ) (old.take (i*size)++new++old.drop (i*size)) ((C.toList.take (n*size)).take (i*size)++new'++(C.toList.take (n*size)).drop (i*size)):=
  ((hold.take _).append n2).append (hold.drop _)
 have h1v:=ud n2 ue.2;have h1c:=ud hold ue.1;have hnl:new'.length=(m+1)*size:=by rw[<-n2.length,n3]
 have Mq:((C.toList.take (n*size)).take (i*size)++new'++(C.toList.take (n*size)).drop (i*size)).length=(n+(m+1))*size:=by
  have hin:i*size<=n*size:=Nat.mul_le_mul_right _ (by omega);rw[Nat.add_mul];simp[hnl];omega
 obtain⟨l2,_,v4,v5,_⟩:=jA hfl hvb k1;have hvs:vo+(m+1)*size<=VC.size:=by
  have hpos:0<(m+1)*size:=Nat.mul_pos (by omega) MY;have:=v5 (by intro hnil;rw[hnil]at v4;simp only[List.length_nil]at v4;omega);rw[v4]at this;exact Nat.le_trans this Y4
 have hf:∀w1:World,w1.heap[BZ.B]? = w.heap[BZ.B]?->(Builtin.firstCells size (m+1) (.slice (some ⟨BZ.B,vo,none⟩) (m+1) Oj)).run P w1=.ok new'.toArray w1:=by
  intro w1 hw1;have h1:=n4 w rfl;rw[fH Yz hvs]at h1;have h2:=fH (P:=P) (w:=w1) (n:=m+1) (c:=Oj) (by rw[hw1];exact Yz) hvs;have h3:=(Result.ok.inj h1).1;rw[h2,h3]
 refine⟨hI.enters _ _,Calls.mono (hI.grow pl.B n cap' i BZ.B vo (m+1) Oj C VC ev new' w Wl hlt (by omega) hle hc2 um hC Yz Bw hf hnl h1v h1c) ?_⟩;rintro e2 w'' ⟨dn,rest,d,Kv,j1,j2,rfl,rfl⟩;have MZ:=yN (P:=P) hmid m1 e' ⟨w.heap.size,dn*size,size⟩ rest true (λ_=>⟨by
  rw[List.length_append,Mq,j2,<-Nat.add_mul];exact congrArg (λx=>x*size) (Nat.add_sub_cancel' j1),yP,MY⟩)
 obtain⟨q1,q3⟩:=hr.fresh m3 (dn*size) size MZ trivial;exact⟨_,_,_,_,rfl,m4,.bT (eO _ _ _) j1 (by simp),⟨q1.obj,q1.dom,q1.keys,q1.Pb,q1.inj,q1.lo⟩,⟨q3.sub,q3.new,q3.nx,q3.size,q3.Bs,q3.B9,q3.tape,q3.os,q3.output,q3.fz,q3.lo,q3.IB,q3.IC,Kv⟩⟩
set_option maxHeartbeats 2000000 in
set_option maxRecDepth 100000 in
theorem B0(hfl:¬good fl){f tS e size:Nat}{z:List Value}{inf:TypeInfo}(hI:Ba P f tS e size)(hu:P.underlying tS=some (.slice e))(hz:O2 P e=some (z,size))(hi:P.info? e=some inf)(hby:inf.bytes<=10000)(hr:HR P φ h w){args args':List Value}(ha:F2 (VR φ) args args'){V:Z7 β}(hg:good (rW fl e size z args h V)):vN good P φ h w V f args'.toArray:=by
 obtain⟨hz1,yP,Pk,MY⟩:=lW hz;unfold rW at hg;split at hg<;>try cases hfl hg
 rename_i base n cap i vb vo m vc;cases ha with
 |cons hs ha=>
 cases ha with
 |cons hi' ha=>
 cases ha with
 |cons hv ha=>
 cases ha;cases hi';rename_i s' v';obtain⟨base',cap',hs'⟩:∃base' cap',s'=.slice base' n cap':=by cases hs<;>exact⟨_,_,rfl⟩
 have hle:n<=cap':=by subst hs';cases hs<;>first|assumption|omega
 obtain⟨BZ,Oj,hpv,wS⟩:∃BZ Oj,φ vb=some BZ/\v'=.slice (some ⟨BZ.B,vo,none⟩) (m+1) Oj:=by
  cases hv with
  |slice hp _ _=>exact⟨_,_,hp,rfl⟩
  |bT hp _ _=>exact⟨_,_,hp,rfl⟩
 split at hg
 .rename_i hin;have hin:=cz hin;subst hin;obtain⟨φ',v,r,h',w',g1,g2,g3,g4,g5⟩:=sy (ts:=#[tS,tS]) (ty:=tS) (xd:=.slice e) hfl rfl hu hz hi hby rfl hu hr hg hs hv;subst hs';subst wS;refine⟨hI.enters _ _,Calls.mono (hI.atEnd base' i cap' BZ.B vo (m+1) Oj w r w' (by omega) hle g5) ?_⟩;rintro e' w'' ⟨rfl,rfl⟩;exact⟨φ',v,r,h',rfl,g1,g2,g3,g4⟩
 .split at hg
  .subst hs';subst wS;exact BY hfl hI hz hr hs hpv hv hg
  split at hg<;>try cases hfl hg
  rename_i b hlt hop;have hlt:i<n:=cF hlt;have hop:=cz hop;subst hop;split at hg<;>try cases hfl hg
  rename_i nn cc e' nv cv ev opv hne hb hvb;have hne:=oE hne;split at hg<;>try cases hfl hg
  rename_i hee um;have hee:=cz hee;subst hee;have um:n+(m+1)<=1000000:=cF um;obtain⟨pl,hp,hcap,rfl⟩:∃pl,φ b=some pl/\cap'*pl.e+0=pl.sz/\base'=some ⟨pl.B,0,none⟩:=by
   subst hs';cases hs with
   |slice hp hn hc=>exact absurd hc (Nat.lt_irrefl _)
   |bT hp hn hc=>exact⟨_,hp,hc,rfl⟩
  obtain⟨C,hC,xL,hn2,Uu,hcell⟩:=hr.rowAt hb hp;obtain⟨VC,Yz,Y4,_,_,_⟩:=hr.rowAt hvb hpv;obtain⟨o1,o2,o3⟩:=Uu rfl;have Wl:pl.B≠BZ.B:=λhB=>hne (hr.inj b vb _ _ pl BZ hb hvb trivial trivial hp hpv hB).symm;have hpe:pl.e=size:=by rw[yP]at o2;exact(Option.some.inj o2).symm
  rw[hpe]at hcap;obtain⟨old,k1,k3,k5,k6⟩:=jA hfl hb hg;obtain⟨new,new',n1,n2,n3,n4⟩:=f_ hfl hr k1 hv ⟨_,_,_,rfl,Nat.le_refl _⟩;split at n1<;>try exact absurd n1 hfl
  rename_i ue;simp only[Bool.and_eq_true]at ue;obtain⟨hlo,n1⟩:=bI hfl n1;unfold dF at n1;obtain⟨m1,m2⟩:=kF hfl n1;obtain⟨m3,m4⟩:=dA hfl m2;have hcs:cap'*size<=C.size:=by omega
  have Bw:n*size<=C.size:=Nat.le_trans (Nat.mul_le_mul_right _ hle) hcs;have hnn:n*size<=nn:=by
   have:=k5 (by intro hnil;rw[hnil]at k3;simp at k3;rcases k3.symm with h0;have:0<n*size:=Nat.mul_pos (by omega) MY;omega);omega
  have hold:F2 (VR φ) old (C.toList.take (n*size)):=by
   refine F2.mz (by simp;omega) λj v v' e1 e2=>?_;have hj:j<n*size:=by rw[<-k3];exact(List.getElem?_eq_some_iff.mp e1).1
   have h1:=k6 j v e1;rw[Nat.zero_add]at h1;obtain⟨v2,h2,h3⟩:=hcell j v h1 (by omega);rw[List.getElem?_take_of_lt hj]at e2;rw[Array.getElem?_toList,h2]at e2;cases e2;exact h3
  have hmid:F2 (VR φ) (old.take (i*size)++new++old.drop (i*size)) ((C.toList.take (n*size)).take (i*size)++new'++(C.toList.take (n*size)).drop (i*size)):=
   ((hold.take _).append n2).append (hold.drop _)
  have h1v:=ud n2 ue.2;have h1c:=ud hold ue.1;have hnl:new'.length=(m+1)*size:=by rw[<-n2.length,n3]
  have Mq:((C.toList.take (n*size)).take (i*size)++new'++(C.toList.take (n*size)).drop (i*size)).length=(n+(m+1))*size:=by
   have hin:i*size<=n*size:=Nat.mul_le_mul_right _ (by omega);rw[Nat.add_mul];simp[hnl];omega
  subst hs';subst wS;obtain⟨l2,_,v4,v5,_⟩:=jA hfl hvb k1;have hvs:vo+(m+1)*size<=VC.size:=by
   have hpos:0<(m+1)*size:=Nat.mul_pos (by omega) MY;have:=v5 (by intro hnil;rw[hnil]at v4;simp only[List.length_nil]at v4;omega);rw[v4]at this;exact Nat.le_trans this Y4
  have hf:∀w1:World,w1.heap[BZ.B]? = w.heap[BZ.B]?->(Builtin.firstCells size (m+1) (.slice (some ⟨BZ.B,vo,none⟩) (m+1) Oj)).run P w1=.ok new'.toArray w1:=by
   intro w1 hw1;have h1:=n4 w rfl;rw[fH Yz hvs]at h1;have h2:=fH (P:=P) (w:=w1) (n:=m+1) (c:=Oj) (by rw[hw1];exact Yz) hvs;have h3:=(Result.ok.inj h1).1;rw[h2,h3]
  by_cases hroom:n+(m+1)<=cap'
  ·refine⟨hI.enters _ _,Calls.mono (hI.shift pl.B n cap' i BZ.B vo (m+1) Oj C VC ev new' w Wl hlt (by omega) hroom um hC Yz hcs hf hnl h1v h1c) ?_⟩;rintro e2 w'' ⟨rfl,d,Kv,rfl⟩;have hrow:=setRow_heap w pl.B C ((((C.toList.take (n*size)).take (i*size)++new'++(C.toList.take (n*size)).drop (i*size))++C.toList.drop ((n+(m+1))*size)).toArray) e' _ hC;have MZ:=yN (P:=P) hmid m1 e' pl (C.toList.drop ((n+(m+1))*size)) true (λ_=>⟨by
    have:(n+(m+1))*size<=C.size:=Nat.le_trans (Nat.mul_le_mul_right _ hroom) hcs;rw[List.length_append,Mq];simp;omega,o2,o3⟩)
   obtain⟨q1,q2⟩:=hr.Pr hlo (ob:=.cells (old.take (i*size)++new++old.drop (i*size)).length (lay (old.take (i*size)++new++old.drop (i*size)) .nil 0) e' true) (w':={ w.setRow pl.B ((((C.toList.take (n*size)).take (i*size)++new'++(C.toList.take (n*size)).drop (i*size))++C.toList.drop ((n+(m+1))*size)).toArray)with drawn:=d }) hb hp m3
    (setRow_size _ _ _) (λk hk=>setRow_other _ _ _ _ hk) (by show OR P φ _ pl ((w.setRow pl.B _).heap[pl.B]?);rw[hrow];exact MZ) (by show OR P φ _ pl ((w.setRow pl.B _).heap[pl.B]?);rw[hrow];exact⟨by omega,hn2,o2,o3⟩) rfl rfl rfl trivial Kv
   exact⟨_,_,_,_,rfl,m4,.bT (eO _ _ _) hroom (by rw[hpe];exact hcap),q1,q2⟩
  ·refine⟨hI.enters _ _,Calls.mono (hI.grow pl.B n cap' i BZ.B vo (m+1) Oj C VC ev new' w Wl hlt (by omega) hle (by omega) um hC Yz Bw hf hnl h1v h1c) ?_⟩;rintro e2 w'' ⟨dn,rest,d,Kv,j1,j2,rfl,rfl⟩;have ED:=hr.Dc hlo (w':=w) (o:=.dead nn e') hp ⟨_,hb,trivial⟩ rfl (λ_ _=>rfl) (by rw[hC];exact⟨by omega,hn2,o2,o3⟩) rfl rfl rfl (.inr id);have MZ:=yN (P:=P) hmid m1 e' ⟨w.heap.size,dn*size,size⟩ rest true (λ_=>⟨by
    rw[List.length_append,Mq,j2,<-Nat.add_mul];exact congrArg (λx=>x*size) (Nat.add_sub_cancel' j1),yP,MY⟩)
   obtain⟨q1,q2⟩:=ED.1.fresh m3 (dn*size) size MZ trivial;have q3:=ED.2.trans q2;exact⟨_,_,_,_,rfl,m4,.bT (eO _ _ _) j1 (by simp),⟨q1.obj,q1.dom,q1.keys,q1.Pb,q1.inj,q1.lo⟩,⟨q3.sub,q3.new,q3.nx,q3.size,q3.Bs,q3.B9,q3.tape,q3.os,q3.output,q3.fz,q3.lo,q3.IB,q3.IC,Kv⟩⟩
end Go.Vai

namespace Go.Proofs
open Go.Vai
open Tryz (prog)
theorem Ol(args:Array Value)(w:World):(callFunc 255 args).run prog w=.ok (.enter 255 args) w:=by
 have hb:Tryz.f255.body.isNone=false:=by kernel_rfl
 have hn : (Tryz.f255.name == "runtime.NumGoroutine") = false := by kernel_rfl
 have hn' : Tryz.f255.name ≠ "runtime.NumGoroutine" := by simpa using hn
 simp[callFunc,Tryz.func255,hn',hb];cases h:Tryz.f255.body with
 |none=>rw[h]at hb;cases hb
 |some c=>simp
theorem Om{inf:TypeInfo}{z:Value}(Wj:prog.info? 46=some inf)(hz:inf.zero=some z)(hzc:z.cells.size=4)(hby:inf.bytes<=10000)(h3:prog.underlying 3=some (.int .i64)):Ba prog 255 43 46 4 where
 enters:=Ol
 atEnd:=λbase n c VB vo m vc w r w' hm hle hr=>J4 base n c VB vo m vc w r w' hm hle hr
 shift:=λB n c i VB vo m vc C VC e2 new w hne hi hm hroom um hC hV hcs hf hnl h1v h1c=>J5 B n c i VB vo m vc C VC e2 new w hne hi hm hroom um hC hV hcs hf hnl h1v h1c
 grow:=λB n c i VB vo m vc C VC e2 new w hne hi hm hnc hroom um hC hV hcs hf hnl h1v h1c=>Oi B n c i VB vo m vc C VC e2 new w hne hi hm hnc hroom um hC hV hcs hf hnl h1v h1c Wj hz hzc hby h3
def jc(t r:Int)(p:L4):Bool:=decide (p.t=t/\p.r=r)
theorem ai2(t r:Int)(p:L4)(b:Nat)(h:Heap)(V:KQ)(hlo:h.lo<=h.nx)(hb:b<h.nx)(hg:h.bl.get b=some (aa [.int .i64 t,.int .i64 r] 28 false))(hk:∀h',Le h h'->V (.bool (jc t r p)) h'):CallW prog 262 [xS p,ptrTo b] h V:=by
 refine av mixed ?_;rw[abb];simp(disch:=try exact Y)only[Wz,cI,hg,rS];exact hk _ ((Le.refl h).new _)
theorem ai3(L:List L4)(t r:Int)(h:Heap)(v:Value)(V:KQ)(hv:Sl cI h v L)(hlen:L.length<=1000000)(hlo:h.lo<=h.nx)(hk:∀h',Le h h'->V (.int .i64 (gj (L.findIdx? (jc t r)))) h'):CallW prog 182 [v,cV t r] h V:=by
 refine av mixed ?_;rw[aaB];simp(disch:=try exact Y)only[Wz,cV];have hle:=(Le.refl h).new (aa [.int .i64 t,.int .i64 r] 28 false);refine A9 L (jc t r) _ v _ _ (hv.le hle) hlen ?_ λh' hl=>hk h' (hle.trans hl);intro p hp h1 κ1 qn dB;have xL:=qn.nx;have hg1:=qn.get;have Ut:=qn.lo;dsimp only at xL hg1 Ut;simp(disch:=try exact Y)only[Wz];exact ai2 t r p _ h1 κ1 (by omega) (by omega) (by rw[hg1 _ (Nat.lt_succ_self _),T.ah]) dB
def aO(L:List L4)(t r:Int):Int:=match L.find? (jc t r)with|some p=>p.m|none=>0
theorem p5(L:List L4)(F:L4->Bool):(L.findIdx? F=none/\L.find? F=none)\/∃i p,L.findIdx? F=some i/\L[i]? = some p/\F p=true/\L.find? F=some p:=by
 induction L with
 |nil=>exact .inl ⟨rfl,rfl⟩
 |cons a L ih=>
  cases hF:F a with
  |true=>exact .inr ⟨0,a,by simp[List.findIdx?_cons,hF],rfl,hF,by simp[List.find?,hF]⟩
  |false=>
   rcases ih with⟨h1,h2⟩|⟨i,p,h1,h2,h3,h4⟩
   .exact .inl ⟨by simp[List.findIdx?_cons,hF,h1],by simp[List.find?,hF,h2]⟩
   .exact .inr ⟨i+1,p,by simp[List.findIdx?_cons,hF,h1],by simpa using h2,h3,by simp[List.find?,hF,h4]⟩
theorem mR(L:List L4)(t r:Int)(h:Heap)(v:Value)(V:KQ)(hv:Sl cI h v L)(hlen:L.length<=1000000)(hlo:h.lo<=h.nx)(hk:∀h',Le h h'->V (.int .i64 (aO L t r)) h'):CallW prog 130 [v,cV t r] h V:=by
 refine av mixed ?_;rw[Z4];simp(disch:=try exact Y)only[Wz,cV];have hle:=(Le.refl h).new (aa [.int .i64 t,.int .i64 r] 28 false);refine ai3 L t r _ v _ (hv.le hle) hlen (by show h.lo<=h.nx+1;omega) ?_;intro h1 qn;have hle1:=hle.trans qn;have xL:=hle1.nx;rcases p5 L (jc t r)with⟨h2,h3⟩|⟨i,p,h2,h3,h4,h5⟩
 .simp only[h2,gj];simp(disch:=try exact Y)only[Wz];have:=hk h1 hle1;simpa only [aO,h3]using this
 .simp only[h2,gj];obtain⟨b,o,hb,qm,oP⟩:=ldP hv i h3;simp(disch:=try exact Y)only[Wz,qm,hle1.get,oP];have:=hk h1 hle1;simpa only [aO,h5]using this
def zHd:List Value:=match O2 prog 46 with|some (z,_)=>z|none=>[]
theorem adt:O2 prog 46=some (zHd,4):=by kernel_rfl
theorem adu:(match prog.info? 46 with|some i=>(match i.zero with|some z=>Nat.beq z.cells.size 4 && Nat.ble i.bytes 10000|none=>false)|none=>false)=true:=by decide +kernel
theorem Wm:∃i z,prog.info? 46=some i/\i.zero=some z/\z.cells.size=4/\i.bytes<=10000:=by
 have h:=adu;split at h<;>try contradiction
 rename_i i hi;split at h<;>try contradiction
 rename_i z hz;simp only[Bool.and_eq_true]at h;exact⟨i,z,hi,hz,cz h.1,cF h.2⟩
theorem adv{args:List Value}{h:Heap}{V:KQ}(hg:rW False 46 4 zHd args h V):CallW prog 255 args h V:=by
 intro φ w args' ha hr;obtain⟨i,z,h1,h2,h3,h4⟩:=Wm;exact B0 (good:=ok) uo (Om h1 h2 h3 h4 Tryz.underlying3) Tryz.underlying43 adt h1 h4 hr ha hg
theorem SS(L:List L4):(L.flatMap cI).length=L.length*4:=bu cW L
theorem On(L:List L4):(L.flatMap cI).all dJ=true:=by
 rw[List.all_flatMap];simp only[List.all_eq_true];intro x _;exact List.all_eq_true.1 (q_ x)
theorem SU{a h:Heap}{v:Value}{L:List L4}{p:L4}{i:Nat}{vb vc:Nat}(hi:i<=L.length)(ho:DX a h v L)(hle:Le a h)(hlen:L.length<=100000)(hlo:h.lo<=h.nx)(hvb:h.bl.get vb=some (aa (cI p) 46 false))(hvn:vb<h.nx)(hne:i<L.length->∀b n c,v=.slice (some ⟨b,0,none⟩) n c->vb≠b)(V:KQ)(hk:∀v' h',DX a h' v' (L.take i++[p]++L.drop i)->Le a h'->V v' h'):CallW prog 255 [v,.int .i64 (i:Int),.slice (some ⟨vb,0,none⟩) 1 vc] h V:=by
 refine adv ?_;have hx:Sl cI h (.slice (some ⟨vb,0,none⟩) 1 vc) [p]:=⟨_,vc,rfl,λ_=>⟨vb,0,rfl,hvn,by rw[hvb];simpa using Has.all⟩⟩
 by_cases he:i=L.length
 ·subst he;have key:bR False 46 4 zHd false v (.slice (some ⟨vb,0,none⟩) 1 vc) h V:=by
   refine jR (enc:=cI) (a:=a) (M:=[p]) cW q_ (by omega) (by omega) ho hx hle (by simp;omega) hlo _ ?_;intro v' h' ho' hl' _ _;refine hk v' h' ?_ hl';simpa using ho'
  have fin:∀(base:Option Addr)(cap:Nat),v=.slice base L.length cap->rW False 46 4 zHd [v,.int .i64 (L.length:Int),.slice (some ⟨vb,0,none⟩) 1 vc] h V:=by
   rintro base cap rfl;unfold rW
   show(match Nat.beq L.length L.length with|true=>_|false=>_)
   rw[Nat.beq_refl];exact key
  rcases ho with⟨rfl,rfl|⟨b,o,rfl⟩⟩|⟨b,rfl,_⟩
  .exact fin _ _ rfl
  .exact fin _ _ rfl
  .exact fin _ _ rfl
 .have hlt:i<L.length:=by omega
  rcases ho with⟨rfl,_⟩|⟨b,rfl,h1,h2,h3,h4⟩
  .simp at hlt
  .have hne:=hne hlt b _ _ rfl;unfold rW
   show(match Nat.beq i L.length with|true=>_|false=>_)
   have e1:Nat.beq i L.length=false:=by
    cases hq:Nat.beq i L.length with
    |false=>rfl
    |true=>exact absurd (cz hq) he
   have e2:Nat.beq aS aS=true:=Nat.beq_refl _;have e3:Nat.ble (i+1) L.length=true:=Nat.ble_eq_true_of_le hlt;have e4:Nat.beq vb b=false:=by
    cases hq:Nat.beq vb b with
    |false=>rfl
    |true=>exact absurd (cz hq) hne
   have e5:Nat.ble (L.length+(0+1)) 1000000=true:=Nat.ble_eq_true_of_le (by omega);have Za:Has (h.bl.get b) 0 (L.flatMap cI):=by rw[h4];exact Has.all
   have hh2:Has (h.bl.get vb) 0 (cI p):=by rw[hvb];exact Has.all
   have f1:∀V:List Value->Prop,d_ False h 4 L.length (.slice (some ⟨b,0,none⟩) L.length aS) V=V (L.flatMap cI):=λV=>jQ Za _ _ _ _ V (SS L).symm;have f2:∀V:List Value->Prop,d_ False h 4 (0+1) (.slice (some ⟨vb,0,none⟩) (0+1) vc) V=V (cI p):=λV=>jQ hh2 _ _ _ _ V rfl;have e6:((L.flatMap cI).all dJ && (cI p).all dJ)=true:=by rw[On];rfl
   have e7:Nat.beq 46 46=true:=rfl;have g4:=h4;have gvb:=hvb;simp only[aa]at g4 gvb;simp only[e1,e2,e3,e4,g4,gvb,e5,e7,f1,f2,e6];rw[bB _ _ _ _ h3];unfold dF;have hfl:((L.flatMap cI).take (i*4)++cI p++(L.flatMap cI).drop (i*4))=(L.take i++[p]++L.drop i).flatMap cI:=by
    rw[pT cW,pU cW];simp
   rw[hfl,jj _ _ _ _ (by rw[SS];simp;omega),di];refine hk _ _ (.inr ⟨h.nx,?_,hle.nx,Nat.lt_succ_self _,hlo,T.ah _ _ _⟩) ((hle.set h1 _).new _);rw[show(L.take i++[p]++L.drop i).length=L.length+(0+1)by simp;omega]
def tL(p x:L4):Bool:=decide (0<q9 x.t x.r p.t p.r)
def cM(L:List L4)(p:L4):List L4:=match L.findIdx? (jc p.t p.r)with
 |some i=>L.set i p
 |none=>match L.findIdx? (tL p)with
  |some i=>L.take i++[p]++L.drop i
  |none=>L++[p]
theorem adw(p x:L4)(b:Nat)(h:Heap)(V:KQ)(hlo:h.lo<=h.nx)(hb:b<h.nx)(hg:h.bl.get b=some (aa (cI p) 46 false))(hk:∀h',Le h h'->V (.bool (tL p x)) h'):CallW prog 254 [xS x,ptrTo b] h V:=by
 refine av mixed ?_;rw[aa9];simp(disch:=try exact Y)only[Wz,cI,hg];refine nM _ _ _ _ ?_;have:=hk _ ((Le.refl h).new (aa (cI x) 46 false));by_cases h1:0<q9 x.t x.r p.t p.r
 .simp(disch:=try exact Y)only[Wz];simp only[tL,br h1,cI]at this;exact this
 .simp(disch:=try exact Y)only[Wz];simp only[tL,aZ h1,cI]at this;exact this
def jt(h:Heap)(v:Value)(L:List L4):Prop:=Sl cI h v L/\yb 46 h v/\kY 8 v v=true
theorem jt.le{h h':Heap}{v:Value}{L:List L4}(s:jt h v L)(l:Le h h'):jt h' v L:=⟨s.1.le l,s.2.1.le l,s.2.2⟩
theorem jt.own{a h:Heap}{v:Value}{L:List L4}(o:DX a h v L):jt h v L:=⟨o.sl,yb.own o,o.same⟩
theorem jt.nil(h:Heap):jt h (.slice none 0 0) []:=⟨Sl.nil _ _ _,(λb o n c e=>by cases e),uu _ _⟩
theorem jt.cell{h:Heap}{v:Value}{L:List L4}(s:jt h v L):∃x c,v=.slice x L.length c:=by
 obtain⟨x,c,rfl,_⟩:=s.1;exact⟨x,c,rfl⟩
theorem jt.keep{h h':Heap}{v:Value}{L:List L4}(s:jt h v L)(hn:h.nx<=h'.nx)(hg:∀c vs op,c<h.nx->h.bl.get c=some (aa vs 46 op)->h'.bl.get c=h.bl.get c):jt h' v L:=by
 obtain⟨⟨x,cap,rfl,h2⟩,t,q⟩:=s;refine⟨⟨x,cap,rfl,λhn0=>?_⟩,λb o n c hv hn0=>?_,q⟩
 .obtain⟨b,o,rfl,h3,h4⟩:=h2 hn0;obtain⟨h1,vs,op,h5⟩:=t b o _ cap rfl (by intro h0;exact hn0 (List.eq_nil_of_length_eq_zero h0));exact⟨b,o,rfl,by omega,by rw[hg b vs op h1 h5];exact h4⟩
 .obtain⟨h1,vs,op,h5⟩:=t b o n c hv hn0;exact⟨by omega,vs,op,(hg b vs op h1 h5).trans h5⟩
theorem SV(L:List L4)(p:L4)(h:Heap)(v:Value)(V:KQ)(hv:Sl cI h v L)(hlen:L.length<=100000)(hlo:h.lo<=h.nx)(hk:∀v' h',jt h' v' (cM L p)->Le h h'->V v' h'):CallW prog 177 [v,xS p] h V:=by
 refine av mixed ?_;rw[aay];simp(disch:=try exact Y)only[Wz,cI];obtain⟨hA,aT,aL,gA,dy,dz⟩:=kf h (aa [.int .i64 p.x,.int .i64 p.t,.int .i64 p.r,.int .i64 p.m] 46 false);rw[<-aT];clear aT;refine u7 L hA v _ (hv.le aL) (by omega) (by omega) ?_;intro v2 h2 ny hle2;have n2:=hle2.nx;have l2:=hle2.lo;have g2:=(hle2.get h.nx (by omega)).trans gA;simp(disch:=try exact Y)only[Wz,g2];refine ai3 L p.t p.r h2 v2 _ ny.sl (by omega) (by omega) ?_;intro h3 bX;have n3:=bX.nx;have l3:=bX.lo;have g3:=(bX.get h.nx (by omega)).trans g2;have nH:=hle2.trans bX;rcases p5 L (jc p.t p.r)with⟨f1,_⟩|⟨i,q,f1,f2,_,_⟩
 .simp only[f1,gj];simp(disch:=try exact Y)only[Wz,FU];refine A9 L (tL p) h3 v2 _ _ (ny.sl.le bX) (by omega) ?_ ?_
  .intro x hx h4 κ4 cN vm;have n4:=cN.nx;have l4:=cN.lo;simp(disch:=try exact Y)only[Wz];exact adw p x h.nx h4 κ4 (by omega) (by omega) ((cN.get h.nx (by omega)).trans g3) vm
  .intro h4 cN;have n4:=cN.nx;have l4:=cN.lo;have g4:=(cN.get h.nx (by omega)).trans g3;have oT:=nH.trans cN;refine⟨λl h'=>h4=h'/\∃j:Nat,slot l 4=.int .i64 (j:Int)/\j<=L.length/\L.take j++[p]++L.drop j=cM L p,?_,?_⟩
   .rcases p5 L (tL p)with⟨e1,_⟩|⟨j,q,e1,e2,_,_⟩
    .simp only[e1,gj];simp(disch:=try exact Y)only[Wz,ny.sl.len];exact⟨trivial,L.length,rfl,Nat.le_refl _,by simp[cM,f1,e1]⟩
    .simp only[e1,gj];simp(disch:=try exact Y)only[Wz];have hj:=(List.getElem?_eq_some_iff.1 e2).1;exact⟨trivial,j,rfl,by omega,by simp[cM,f1,e1]⟩
   .rintro l h' ⟨rfl,j,hs,hj,hput⟩;simp(disch:=try exact Y)only[Wz,hs,g4];refine SU (a:=hA) (L:=L) (p:=p) hj ((ny.le (bX.trans cN)).le ((Le.refl _).new _)) ((oT).new _) hlen (by show h4.lo<=h4.nx+1;omega) (T.ah _ _ _) (Nat.lt_succ_self _) ?_ _ ?_
    .intro hlt b n c e;subst e;rcases ny with⟨e,_⟩|⟨b',e,_,b2,_⟩
     .subst e;simp at hlt
     .cases e;have:=(bX.trans cN).nx;omega
    .intro v' h5 tC fo;rw[hput]at tC;exact hk v' h5 (.own tC) (aL.trans fo)
 .simp only[f1,gj];have hi:i<L.length:=(List.getElem?_eq_some_iff.1 f2).1;have r7:=ny.le bX;rcases r7 with⟨rfl,_⟩|⟨b,rfl,b1,b2,b3,b4⟩
  .simp at hi
  .have hfl:=SS L;have Dv:=td cW L i p hi;simp only[cI]at Dv;simp(disch:=try exact Y)only[Wz,g3,bh,b4,Dv];have hput:cM L p=L.set i p:=by simp only[cM,f1]
   rw[hput]at hk;refine hk _ _ ⟨⟨_,aS,by rw[List.length_set],λ_=>⟨b,0,rfl,b2,by rw[T.ah];exact Has.all⟩⟩,λb' o' n' c' e _=>?_,iR _ _ _ _⟩ (aL.trans ((nH).set b1 _));cases e;exact⟨b2,_,_,T.ah _ _ _⟩
def fL(L:List L4)(t r:Int):List L4:=L.filter λp=>!jc t r p
theorem Wn(t r:Int)(p:L4)(b:Nat)(h:Heap)(V:KQ)(hlo:h.lo<=h.nx)(hb:b<h.nx)(hg:h.bl.get b=some (aa [.int .i64 t,.int .i64 r] 28 false))(hk:∀h',Le h h'->V (.bool (jc t r p)) h'):CallW prog 265 [xS p,ptrTo b] h V:=by
 refine av mixed ?_;rw[abc];simp(disch:=try exact Y)only[Wz,cI,hg,rS];exact hk _ ((Le.refl h).new _)
theorem adx(L:List L4)(t r:Int)(h:Heap)(v:Value)(V:KQ)(hv:Sl cI h v L)(hlen:L.length<=100000)(hlo:h.lo<=h.nx)(hk:∀v' h',jt h' v' (fL L t r)->Le h h'->V v' h'):CallW prog 188 [v,cV t r] h V:=by
 refine av mixed ?_;rw[aaH];simp(disch:=try exact Y)only[Wz,cV];obtain⟨hA,aT,aL,gA,dy,dz⟩:=kf h (aa [.int .i64 t,.int .i64 r] 28 false);rw[<-aT];clear aT;refine u7 L hA v _ (hv.le aL) (by omega) (by omega) ?_;intro v2 h2 ny hle2;have n2:=hle2.nx;have l2:=hle2.lo;refine Of hA h2 L (jc t r) v2 _ _ hle2 ny hlen (by omega) ?_ ?_
 .intro p h3 κ3 bX _ vT;have n3:=bX.nx;have l3:=bX.lo;simp(disch:=try exact Y)only[Wz];exact Wn t r p h.nx h3 κ3 (by omega) (by omega) ((bX.get h.nx (by omega)).trans gA) vT
 .intro v' h3 hs Qp bX _ ht;refine hk v' h3 ⟨hs,ht,?_⟩ (aL.trans bX);rcases Qp with⟨_,rfl⟩|⟨_,b,o,rfl⟩|⟨b,o,cap,rfl,_⟩|⟨b,vs,n,rfl,_⟩
  .exact uu _ _
  .exact iR _ _ _ _
  .exact iR _ _ _ _
  .exact iR _ _ _ _
theorem ady(a0 a1:Value)(h:Heap)(V:KQ):aM prog 328 [a0,a1] h V=ew prog 3 2 a0 a1 h V:=by kernel_rfl
theorem adz(a0 a1:Value)(h:Heap)(V:KQ):aM prog 259 [a0,a1] h V=jE prog 3 328 a0 a1 h V:=by kernel_rfl
theorem Ia(L:List N2)(F:N2->Bool)(h:Heap)(v fv:Value)(V:KQ)(hv:Sl iI h v L)(hlen:L.length<=1000000)(hF:∀p,p∈L->∀(h1:Heap)(κ1:Value->Heap->Prop),Le h h1->(∀h2,Le h1 h2->κ1 (.bool (F p)) h2)->fJ prog fv [Dt iI p] h1 κ1)(hk:∀h',Le h h'->V (.bool (L.any F)) h'):CallW prog 259 [v,fv] h V:=sE mixed mO ady adz L F h v fv V hv hlen hF hk
def sH(a m:Int):Bool:=decide (a=6) || ((decide (a=3) || decide (a=4) || decide (a=5)) && (decide (m=1) || decide (m=3)))
theorem adA:∀i,i<7->∀j,j<7->bE prog 200 261 [.int .i64 (.ofNat i),.int .i64 (.ofNat j)] (.bool (sH (.ofNat i) (.ofNat j)))=true:=by decide +kernel
theorem adB(n:Nat)(b:Int):bE prog 200 261 [.int .i64 (.negSucc n),.int .i64 b] (.bool (sH (.negSucc n) b))=true:=by kernel_rfl
theorem adC(n:Nat)(b:Int):bE prog 200 261 [.int .i64 (.ofNat (n+7)),.int .i64 b] (.bool (sH (.ofNat (n+7)) b))=true:=by kernel_rfl
theorem adD:∀i,i<7->∀n:Nat,bE prog 200 261 [.int .i64 (.ofNat i),.int .i64 (.negSucc n)] (.bool (sH (.ofNat i) (.negSucc n)))=true:=by
 refine seven ?_ ?_ ?_ ?_ ?_ ?_ ?_<;>intro n<;>kernel_rfl
theorem adE:∀i,i<7->∀n:Nat,bE prog 200 261 [.int .i64 (.ofNat i),.int .i64 (.ofNat (n+7))] (.bool (sH (.ofNat i) (.ofNat (n+7))))=true:=by
 refine seven ?_ ?_ ?_ ?_ ?_ ?_ ?_<;>intro n<;>kernel_rfl
theorem adF(a b:Int){h:Heap}{V:KQ}(hk:V (.bool (sH a b)) h):CallW prog 261 [.int .i64 a,.int .i64 b] h V:=
 rN mixed (F:=λa b=>.bool (sH a b)) adA adB adC adD adE a b hk
def Ib(t r m:Int):Bool:=decide (bf t r≠-1) && kn m && decide (m≠0)
theorem Wo(t r m:Int){h:Heap}{V:KQ}(hk:V (.bool (Ib t r m)) h):CallW prog 258 [cV t r,.int .i64 m] h V:=by
 refine jD (v:=.bool (Ib t r m)) rfl rfl (av mixed ?_) hk;rw[aa_];simp(disch:=try exact Y)only[Wz,cV];refine pg t r ?_;by_cases hl:bf t r = -1
 .rw[if_pos hl];simp(disch:=try exact Y)only[Wz,aZ (show ¬(2:Int)=0 by decide)];simp[Ib,hl]
 .rw[if_neg hl];simp(disch:=try exact Y)only[Wz];refine pV m ?_;cases hkn:kn m with
  |false=>simp(disch:=try exact Y)only[Wz];simp[Ib,hl,hkn]
  |true=>
   by_cases h0:m=0
   .simp(disch:=try exact Y)only[Wz,br h0];simp[Ib,hl,hkn,h0]
   .simp(disch:=try exact Y)only[Wz,aZ h0];simp[Ib,hl,hkn,h0]
def Oo(f:Int->Int->Int)(t r m:Int):Bool:=!Ib t r m || lN (f t r) m || (nP t r).any λa=>sH (f a.1 a.2) m
theorem adG(L:List L4)(t r m:Int)(b1 b5:Nat)(h:Heap)(v:Value)(V:KQ)(hv:Sl cI h v L)(hlen:L.length<=100000)(hlo:h.lo<=h.nx)(n1:b1<h.nx)(n5:b5<h.nx)(g1:h.bl.get b1=some (aa [v] 43 false))(g5:h.bl.get b5=some (aa [.int .i64 m] 29 false))(hk:∀h',Le h h'->V (.bool (sH (aO L t r) m)) h'):CallW prog 260 [cV t r,ptrTo b1,ptrTo b5] h V:=by
 refine av mixed ?_;rw[aba];simp(disch:=try exact Y)only[Wz,cV,g1,g5];have hle:=(Le.refl h).new (aa [.int .i64 t,.int .i64 r] 28 false);refine mR L t r _ v _ (hv.le hle) (by omega) (by show h.lo<=h.nx+1;omega) ?_;intro h' hl';have hall:=hle.trans hl';have g5':=(hall.get b5 n5).trans g5;simp(disch:=try exact Y)only[Wz,g5'];exact adF _ _ (hk h' hall)
theorem Oq(L:List L4)(t r m:Int)(h:Heap)(v:Value)(V:KQ)(hv:Sl cI h v L)(hlen:L.length<=100000)(hlo:h.lo<=h.nx)(hk:∀h',Le h h'->V (.bool (Oo (aO L) t r m)) h'):CallW prog 179 [v,cV t r,.int .i64 m] h V:=by
 refine av mixed ?_;rw[aaz];have hv0:=hv;obtain⟨x,cap,rfl,hx⟩:=hv;simp(disch:=try exact Y)only[Wz,cV];obtain⟨hA,eA⟩:∃hA:Heap,hA=⟨h.nx+1+1+1,T.aV (T.aV (h.bl.aV h.nx (aa [.slice x L.length cap] 43 false)) (h.nx+1) (aa [.int .i64 t,.int .i64 r] 28 false)) (h.nx+1+1) (aa [.int .i64 m] 29 false),h.lo⟩:=⟨_,rfl⟩
 have mL:Le h hA:=by subst eA;exact(((Le.refl h).new _).new _).new _
 have g1:hA.bl.get h.nx=some (aa [.slice x L.length cap] 43 false):=by subst eA;exact(T.aj _ _ (by omega)).trans ((T.aj _ _ (by omega)).trans (T.ah _ _ _))
 have g3:hA.bl.get (h.nx+1)=some (aa [.int .i64 t,.int .i64 r] 28 false):=by subst eA;exact(T.aj _ _ (by omega)).trans (T.ah _ _ _)
 have g5:hA.bl.get (h.nx+1+1)=some (aa [.int .i64 m] 29 false):=by subst eA;exact T.ah _ _ _
 have nA:hA.nx=h.nx+1+1+1:=by subst eA;rfl
 have lA:hA.lo=h.lo:=by subst eA;rfl
 rw[<-eA];clear eA;refine Wo t r m ?_;have hvA:=hv0.le mL;cases ha:Ib t r m with
 |false=>
  simp(disch:=try exact Y)only[Wz];have:=hk hA mL;simpa[Oo,ha]using this
 |true=>
  simp(disch:=try exact Y)only[Wz,g1,g3,g5];refine mR L t r hA _ _ hvA (by omega) (by omega) ?_;intro h2 hle2;have n2:=hle2.nx;have l2:=hle2.lo;have Ul:=hle2.up g3;have g5':=hle2.up g5;have TO:=hle2.up g1;simp(disch:=try exact Y)only[Wz,g5'];refine oS _ _ ?_;have Ic:=mL.trans hle2;cases hc:lN (aO L t r) m with
  |true=>
   simp(disch:=try exact Y)only[Wz];have:=hk h2 Ic;simpa[Oo,ha,hc]using this
  |false=>
   simp(disch:=try exact Y)only[Wz,Ul];refine SN t r h2 _ (by omega) ?_;intro u h3 hu _ bX;have n3:=bX.nx;have l3:=bX.lo;have hlA:(nP t r).length<=2:=by unfold nP;split<;>(try split)<;>simp
   refine Ia (nP t r) (λa=>sH (aO L a.1 a.2) m) h3 u _ _ hu (by omega) ?_ ?_
   ·intro p hp h4 κ4 cN vm;have n4:=cN.nx;have l4:=cN.lo;simp(disch:=try exact Y)only[Wz,List.nil_append,List.cons_append];exact adG L p.1 p.2 m h.nx (h.nx+1+1) h4 _ κ4 (((hvA.le hle2).le bX).le cN) hlen (by omega) (by omega) (by omega)
     (cN.up (bX.up TO)) (cN.up (bX.up g5')) vm
   .intro h4 cN;have:=hk h4 ((Ic.trans bX).trans cN);simpa[Oo,ha,hc]using this
abbrev N3:=Int × Int × Int
def mZ(p:N3):List Value:=[.int .i64 p.1,.int .i64 p.2.1,.int .i64 p.2.2]
theorem pG(p:N3):(mZ p).length=3:=rfl
theorem rj(p:N3):(mZ p).all dJ=true:=rfl
def Ot(f:Int->Int->Int)(m:Int)(A:List N2):List N3:=(A.filter λa=>!lN (f a.1 a.2) (oe m)).map λa=>(a.1,a.2,bN (f a.1 a.2) (oe m))
def gU(f:Int->Int->Int)(t r m:Int):List N3:=if Oo f t r m=true then[]else Ot f m (nP t r)++[(t,r,bN (f t r) m)]
theorem Ie{f:Int->Int->Int}{m:Int}{A:List N2}{k:Nat}{a:N2}(ha:A[k]? = some a):Ot f m (A.take (k+1))=Ot f m (A.take k)++if lN (f a.1 a.2) (oe m)=true then[]else[(a.1,a.2,bN (f a.1 a.2) (oe m))]:=by
 obtain⟨hj,rfl⟩:=List.getElem?_eq_some_iff.1 ha;unfold Ot;rw[List.take_succ_eq_append_getElem hj,List.filter_append,List.map_append];cases h:lN (f A[k].1 A[k].2) (oe m)<;>simp[h]
theorem Mr(f:Int->Int->Int)(m:Int)(A:List N2):(Ot f m A).length<=A.length:=by
 unfold Ot;rw[List.length_map];exact List.length_filter_le _ _
theorem adH(L:List L4)(t r m:Int)(h:Heap)(v:Value)(V:KQ)(hv:Sl cI h v L)(hlen:L.length<=100000)(hlo:h.lo<=h.nx)(hk:∀v' h',fS mZ 160 h' v' (gU (aO L) t r m)->Le h h'->V v' h'):CallW prog 128 [v,cV t r,.int .i64 m] h V:=by
 refine av mixed ?_;rw[Z3];simp(disch:=try exact Y)only[Wz,cV];obtain⟨hA,eA⟩:∃hA:Heap,hA=⟨h.nx+1,h.bl.aV h.nx (aa [.int .i64 t,.int .i64 r] 28 false),h.lo⟩:=⟨_,rfl⟩
 have mL:Le h hA:=by subst eA;exact(Le.refl h).new _
 have gA:hA.bl.get h.nx=some (aa [.int .i64 t,.int .i64 r] 28 false):=by subst eA;exact T.ah _ _ _
 have nA:hA.nx=h.nx+1:=by subst eA;rfl
 have lA:hA.lo=h.lo:=by subst eA;rfl
 rw[<-eA];clear eA;refine Oq L t r m hA v _ (hv.le mL) hlen (by omega) ?_;intro h2 hle2;have n2:=hle2.nx;have l2:=hle2.lo;have g2:=(hle2.get h.nx (by omega)).trans gA;have Ic:=mL.trans hle2;cases himp:Oo (aO L) t r m with
 |true=>
  simp(disch:=try exact Y)only[Wz];exact hk _ _ (.inl ⟨by simp[gU,himp],rfl⟩) Ic
 |false=>
  simp(disch:=try exact Y)only[Wz];refine H_ m ?_;simp(disch:=try exact Y)only[Wz,g2];refine SN t r h2 _ (by omega) ?_;intro u h3 hu _ bX;have n3:=bX.nx;have l3:=bX.lo;have hlA:=yq t r;have nH:=Ic.trans bX;simp(disch:=try exact Y)only[Wz,hu.len];refine⟨λn l h4=>Le h3 h4/\∃k:Nat,slot l 22=.int .i64 (k:Int)/\k<=(nP t r).length/\n=(nP t r).length-k/\fC mZ h3 160 h4 (slot l 20) (Ot (aO L) m ((nP t r).take k)),⟨_,Le.refl _,0,rfl,Nat.zero_le _,rfl,.inl ⟨rfl,.inl rfl⟩⟩,?_⟩;rintro n l h4 ⟨cN,k,s4,vm,rfl,DL⟩;have n4:=cN.nx;have l4:=cN.lo;have oT:=nH.trans cN;have hu4:=Mr (aO L) m ((nP t r).take k);rw[List.length_take]at hu4;by_cases hlt:k<(nP t r).length
  .obtain⟨a,ha⟩:∃a,(nP t r)[k]? = some a:=⟨_,List.getElem?_eq_getElem hlt⟩
   obtain⟨b,o,hb,qm,oP⟩:=ldN (hu.le cN) k ha;simp(disch:=try exact Y)only[Wz,zD,s4];refine⟨λvt h5=>Le h3 h5/\fC mZ h3 160 h5 (slot vt 19) (Ot (aO L) m ((nP t r).take (k+1))),?_,?_⟩
   .simp(disch:=try exact Y)only[Wz,FC,s4,qm,oP,iI];obtain⟨hB,eB⟩:∃hB:Heap,hB=⟨h4.nx+1,h4.bl.aV h4.nx (aa [.int .i64 a.1,.int .i64 a.2] 28 false),h4.lo⟩:=⟨_,rfl⟩
    have tw:Le h4 hB:=by subst eB;exact(Le.refl h4).new _
    have gB:hB.bl.get h4.nx=some (aa [.int .i64 a.1,.int .i64 a.2] 28 false):=by subst eB;exact T.ah _ _ _
    have lB:hB.lo=h4.lo:=by subst eB;rfl
    have nB:hB.nx=h4.nx+1:=by subst eB;rfl
    rw[<-eB];clear eB;refine mR L a.1 a.2 hB v _ (hv.le (oT.trans tw)) (by omega) (by omega) ?_;intro h5 fo;have n5:=fo.nx;have l5:=fo.lo;have g5:=(fo.get h4.nx (by omega)).trans gB;have sF:=(cN.trans tw).trans fo;refine oS _ _ ?_;have tC:=(DL.le tw).le fo;cases hc:lN (aO L a.1 a.2) (oe m)with
    |true=>
     simp(disch:=try exact Y)only[Wz];refine⟨sF,?_⟩;rw[Ie ha,if_pos hc,List.append_nil];exact tC
    |false=>
     simp(disch:=try exact Y)only[Wz,FA,g5];refine xu _ _ ?_;simp(disch:=try exact Y)only[Wz,g5,tC.same];have kU:=(Le.refl h5).new (aa [.int .i64 a.1,.int .i64 a.2,.int .i64 (bN (aO L a.1 a.2) (oe m))] 160 false);refine jR (enc:=mZ) (a:=h3) (L:=Ot (aO L) m ((nP t r).take k)) (M:=[(a.1,a.2,bN (aO L a.1 a.2) (oe m))]) pG rj (by omega) (by omega) (tC.le kU) ⟨_,1,rfl,λ_=>⟨h5.nx,0,rfl,Nat.lt_succ_self _,by show Has ((T.aV _ _ _).get _) 0 _;rw[T.ah];exact Has.all⟩⟩ (sF.trans kU)
      (by simp;omega) (by show h5.lo<=h5.nx+1;omega) _ ?_
     intro v' h' ho' hl' _ _;refine⟨hl',?_⟩;rw[Ie ha,hc,if_neg (by simp)];exact ho'
   .rintro vt h5 ⟨Yd,tC⟩;exact⟨_,by omega,Yd,k+1,rfl,by omega,rfl,tC⟩
  .have hkk:k=(nP t r).length:=by omega
   subst hkk;rw[List.take_length]at DL hu4;have g4:=(cN.get h.nx (by omega)).trans ((bX.get h.nx (by omega)).trans g2);simp(disch:=try exact Y)only[Wz,zD,s4,FD,g4];refine mR L t r h4 v _ (hv.le oT) (by omega) (by omega) ?_;intro h5 fo;have n5:=fo.nx;have l5:=fo.lo;have g5:=(fo.get h.nx (by omega)).trans g4;have tC:=DL.le fo;have sF:=cN.trans fo;simp(disch:=try exact Y)only[Wz,g5,tC.same];refine xu _ _ ?_;simp(disch:=try exact Y)only[Wz,g5,tC.same];have kU:=(Le.refl h5).new (aa [.int .i64 t,.int .i64 r,.int .i64 (bN (aO L t r) m)] 160 false);refine jR (enc:=mZ) (a:=h3) (L:=Ot (aO L) m (nP t r)) (M:=[(t,r,bN (aO L t r) m)]) pG rj (by omega) (by omega) (tC.le kU) ⟨_,1,rfl,λ_=>⟨h5.nx,0,rfl,Nat.lt_succ_self _,by show Has ((T.aV _ _ _).get _) 0 _;rw[T.ah];exact Has.all⟩⟩ (sF.trans kU)
    (by simp;omega) (by show h5.lo<=h5.nx+1;omega) _ ?_
   intro v' h' ho' hl' _ _;have e:gU (aO L) t r m=Ot (aO L) m (nP t r)++[(t,r,bN (aO L t r) m)]:=by rw[gU,himp];simp
   rw[<-e]at ho';exact hk v' h' (fS.own ho' (by rw[e];simp)) (nH.trans hl')
theorem swap_perm{E:List L4}{j:Nat}{x y:L4}(hx:E[j+1]? = some x)(hy:E[j]? = some y):((E.set (j+1) y).set j x).Perm E:=by
 induction E generalizing j with
 |nil=>simp at hx
 |cons a E ih=>
  cases j with
  |zero=>
   cases E with
   |nil=>simp at hx
   |cons c E=>
    simp at hx hy;subst hx;subst hy;simpa using List.Perm.swap _ _ _
  |succ j=>
   simp only[List.getElem?_cons_succ]at hx hy;simpa using ih hx hy
theorem SX(b:Nat)(L:List L4)(h:Heap)(fv:Value)(V:KQ)(hb:h.bl.get b=some (aa (L.flatMap cI) 46 true))(Bx:b<h.nx)(hbl:h.lo<=b)(rM:L.length<=100)(hF:∀p q (h1:Heap) (κ1:Value->Heap->Prop),Jk b h h1->(∀i h2,Le h1 h2->κ1 (.int .i64 i) h2)->fJ prog fv [xS p,xS q] h1 κ1)(hk:∀(D:List L4) h',D.Perm L->Jk b h h'->h'.bl.get b=some (aa (D.flatMap cI) 46 true)->V (.tuple ⟨[]⟩) h'):CallW prog 245 [.slice (some ⟨b,0,none⟩) L.length aS,.int .i64 0,.int .i64 (L.length:Int),fv] h V:=by
 refine av mixed ?_;rw[Rg];simp(disch:=try exact Y)only[Wz];refine⟨λk l h1=>∃(i:Nat)(D:List L4),slot l 42=.int .i64 (i:Int)/\1<=i/\k=L.length-i/\D.Perm L/\Jk b h h1/\h1.bl.get b=some (aa (D.flatMap cI) 46 true),⟨_,1,L,rfl,Nat.le_refl _,rfl,List.Perm.refl _,Jk.of_le (Le.refl _),hb⟩,?_⟩;rintro k l h1 ⟨i,D,s1,hi1,rfl,hp1,hle1,g1⟩;have n1:=hle1.nx;have l1:=hle1.lo;by_cases hlt:i<L.length
 .simp(disch:=try exact Y)only[Wz,s1,fV (show(i:Int)<(L.length:Int)by omega)];refine⟨λk l5 h5=>∃(j:Nat)(D:List L4),slot l5 35=.int .i64 (j:Int)/\j<=i/\k=j/\D.Perm L/\Jk b h h5/\h5.bl.get b=some (aa (D.flatMap cI) 46 true),⟨_,i,D,rfl,Nat.le_refl _,rfl,hp1,hle1,g1⟩,?_⟩;rintro k l5 h5 ⟨j,E,s5,hj,rfl,hpE,fo,g5⟩;have n5:=fo.nx;have l5':=fo.lo;have hlE:E.length=L.length:=hpE.length_eq;by_cases hj0:k=0
  .subst hj0;simp(disch:=try exact Y)only[Wz,zX,s5,s1];exact⟨_,by omega,i+1,E,rfl,by omega,rfl,hpE,fo,g5⟩
  .obtain⟨j,rfl⟩:∃j,k=j+1:=⟨k-1,by omega⟩
   have e1:((j+1:Nat):Int)-1=(j:Nat):=by omega
   obtain⟨x,hx⟩:∃x,E[j+1]? = some x:=⟨_,List.getElem?_eq_getElem (by omega)⟩
   obtain⟨y,hy⟩:∃y,E[j]? = some y:=⟨_,List.getElem?_eq_getElem (by omega)⟩
   have r1:=rdE cW g5 hx;have r2:=rdE cW g5 hy;simp(disch:=try exact Y)only[Wz,zX,s5,e1,bh,r1,r2];refine hF x y h5 _ fo ?_;intro c h6 kU;have n6:=kU.nx;have l6:=kU.lo;have g6:=(kU.get b (by omega)).trans g5;have YA:=fo.trans (Jk.of_le kU);by_cases hc:c<0
   .have Ut:=Fh cW (p':=y) hx;have hy2:(E.set (j+1) y)[j]? = some y:=by rw[List.getElem?_set,if_neg (by omega)];exact hy
    have ny:=Fh cW (p':=x) hy2;have NW:=bu cW E;have hf2:=bu cW (E.set (j+1) y);rw[List.length_set]at hf2;have r3:=rdE cW g6 hx;have r4:=rdE cW g6 hy;simp only[cI]at Ut ny;simp(disch:=try exact Y)only[Wz,br hc,Gm,s5,e1,bh,r3,r4,cI];simp(disch:=try exact Y)only[Wz,g6,Ut,ny];refine⟨_,by omega,j,(E.set (j+1) y).set j x,rfl,by omega,rfl,(swap_perm hx hy).trans hpE,YA.trans (Jk.set (Le.refl h6) _),rfl⟩
   .simp(disch:=try exact Y)only[Wz,aZ hc,s1];exact⟨_,by omega,i+1,E,rfl,by omega,rfl,hpE,YA,g6⟩
 .simp(disch:=try exact Y)only[Wz,s1,dL (show(L.length:Int)<=(i:Int)by omega)];exact hk D h1 hp1 hle1 g1
theorem adI(p q:L4)(h:Heap)(V:KQ)(hlo:h.lo<=h.nx)(hk:∀i h',Le h h'->V (.int .i64 i) h'):CallW prog 272 [.agg ⟨[]⟩,xS p,xS q] h V:=by
 refine av mixed ?_;rw[abg];simp(disch:=try exact Y)only[Wz,cI];have hle:=(((Le.refl h).new (aa [] 364 false)).new (aa [.int .i64 p.x,.int .i64 p.t,.int .i64 p.r,.int .i64 p.m] 46 false)).new (aa [.int .i64 q.x,.int .i64 q.t,.int .i64 q.r,.int .i64 q.m] 46 false);have hk:=λi=>hk i _ hle;have c1:=pF p.t p.r;have c2:=pF q.t q.r;refine lR q.t q.r ?_;simp(disch:=try exact Y)only[Wz];refine lR p.t p.r ?_;by_cases hz:bf q.t q.r-bf p.t p.r=0
 .simp(disch:=try exact Y)only[Wz,br hz];exact nM _ _ _ _ (hk _)
 .simp(disch:=try exact Y)only[Wz,aZ hz];exact hk _
theorem adJ(p q:L4)(b:Nat)(h:Heap)(V:KQ)(hlo:h.lo<=h.nx)(hb:b<h.nx)(hg:h.bl.get b=some (aa [.func (.func 272) ⟨[]⟩ ⟨[]⟩] 362 false))(hk:∀i h',Le h h'->V (.int .i64 i) h'):CallW prog 274 [xS p,xS q,ptrTo b] h V:=by
 refine av mixed ?_;rw[abi];simp(disch:=try exact Y)only[Wz,cI,hg];refine adI p q _ V (by show h.lo<=h.nx+1+1;omega) ?_;intro i h' hle;exact hk i h' ((((Le.refl h).new _).new _).trans hle)
theorem SY(v fv:Value)(n:Nat)(hn:n<20)(h:Heap)(V:KQ)(hk:CallW prog 245 [v,.int .i64 0,.int .i64 (n:Int),fv] h λ_ h'=>V (.tuple ⟨[]⟩) h'):CallW prog 331 [v,.int .i64 (n:Int),fv] h V:=by
 refine av mixed ?_;rw[abE];refine⟨λn l h1=>HQ h h1/\slot l 13=.int .i64 20/\slot l 9=.int .i64 0,⟨0,rfl,rfl,rfl⟩,?_⟩;rintro _ l h1 ⟨hE,s1,s2⟩;cases(show h=h1 from hE);simp(disch:=try exact Y)only[Wz,s1,s2,Gy];refine CallW.mono hk ?_;intro _ h2 hk2;refine⟨λn l h1=>HQ h2 h1/\slot l 38=.int .i64 20,⟨0,rfl,rfl⟩,?_⟩;rintro _ l h3 ⟨hE,s1⟩;cases(show h2=h3 from hE);simp(disch:=try exact Y)only[Wz,s1];exact hk2
theorem adK(p:L4)(hok:bf p.t p.r≠-1)(h:Heap)(V:KQ)(hlo:h.lo<=h.nx)(hk:∀h',Le h h'->V (.bool false) h'):CallW prog 271 [xS p] h V:=by
 refine av mixed ?_;rw[abf];simp(disch:=try exact Y)only[Wz,cI];refine pg p.t p.r ?_;rw[if_neg hok];simp(disch:=try exact Y)only[Wz];exact hk _ ((Le.refl h).new _)
theorem D2(L:List L4)(h:Heap)(v fv:Value)(V:KQ)(hv:Sl cI h v L)(hlen:L.length<=100000)(hF:∀p,p∈L->∀(h1:Heap)(κ1:Value->Heap->Prop),Le h h1->(∀h2,Le h1 h2->κ1 (.bool false) h2)->fJ prog fv [xS p] h1 κ1)(hk:∀h',Le h h'->V v h'):CallW prog 264 [v,fv] h V:=by
 refine av mixed ?_;rw[SQ];unfold ej;refine A9 L (λ_=>false) h v fv _ hv (by omega) hF ?_;intro h1 hle1;have e:L.findIdx? (λ_=>false)=none:=by rw[List.findIdx?_eq_none_iff];intro _ _;rfl
 simp only[e,gj];simp(disch:=try exact Y)only[Wz];exact hk h1 hle1
theorem rm(f:Fn)(a b:Array Value):(Value.cells (.func f a b)).toList=[.func f a b]:=id rfl
theorem Wp(L:List L4)(h:Heap)(v:Value)(V:KQ)(hv:Sl cI h v L)(hlen:L.length<20)(hlo:h.lo<=h.nx)(hok:∀p∈L,bf p.t p.r≠-1)(hk:∀(D:List L4) v' h',D.Perm L->fR cI 4 46 h' v' D->Le h h'->V v' h'):CallW prog 192 [v] h V:=by
 refine av mixed ?_;rw[aaK];refine u7 L h v _ hv (by omega) hlo ?_;intro v2 h2 ny hle2;have n2:=hle2.nx;have l2:=hle2.lo;refine D2 L h2 v2 _ _ ny.sl (by omega) ?_ ?_
 .intro p hp h3 κ3 bX vT;have n3:=bX.nx;have l3:=bX.lo;simp(disch:=try exact Y)only[Wz,List.nil_append,List.append_nil];exact adK p (hok p hp) h3 κ3 (by omega) vT
 intro h3 bX;have n3:=bX.nx;have l3:=bX.lo;have r7:=ny.le bX;simp(disch:=try exact Y)only[Wz,rm];obtain⟨hA,aT,aL,gA,dy,dz⟩:=kf h3 (aa [.func (.func 272) ⟨[]⟩ ⟨[]⟩] 362 false);rw[<-aT];clear aT;have Ig:=(hle2.trans bX).trans aL;refine av mixed ?_;rw[abh];simp(disch:=try exact Y)only[Wz,r7.sl.len];refine SY v2 _ L.length hlen hA _ ?_;rcases r7.le aL with⟨rfl,Un⟩|⟨b,rfl,b1,b2,b3,b4⟩
 ·have adL:∀(v fv:Value)(h:Heap)(V:KQ),V (.tuple ⟨[]⟩) h->CallW prog 245 [v,.int .i64 0,.int .i64 0,fv] h V:=by
   intro v fv h V hk;refine av mixed ?_;rw[Rg];simp(disch:=try exact Y)only[Wz];refine⟨λn l h1=>HQ h h1/\slot l 42=.int .i64 1,⟨0,rfl,rfl⟩,?_⟩;rintro n l h1 ⟨hE,s1⟩;cases(show h=h1 from hE);simp(disch:=try exact Y)only[Wz,s1];exact hk
  refine adL _ _ _ _ ?_;exact hk [] v2 hA (List.Perm.refl _) (.own (.inl ⟨rfl,Un⟩:DX h hA v2 [])) Ig
 ·have hbA:b<h3.nx:=by
   rcases r7 with⟨_,e|⟨_,_,e⟩⟩|⟨b',e,_,c2,_⟩
   .simp at e
   .simp[aS]at e
   .simp at e;omega
  refine SX b L hA _ _ b4 b2 b3 (by omega) ?_ ?_
  .intro p q h4 κ4 cN vm;have n4:=cN.nx;have l4:=cN.lo;simp(disch:=try exact Y)only[Wz,List.nil_append];exact adJ p q h3.nx h4 κ4 (by omega) (by omega) ((cN.get h3.nx (by omega) (by omega)).trans gA) vm
  .intro D h4 p1 cN g4;have hlD:=p1.length_eq;have n4:=cN.nx;have l4:=cN.lo;have aoO:Le h h4:=⟨by have:=Ig.nx;omega,by rw[l4];exact Ig.lo,λc hc=>(cN.get c (by have:=Ig.nx;omega) (by omega)).trans (Ig.get c hc)⟩
   refine hk D _ h4 p1 (fR.own (a:=h) (.inr ⟨b,by rw[hlD],b1,by omega,by omega,g4⟩)) aoO
section
variable {h:Heap}{A:WA}{a:TA}{N:Nat}{d:TD}{R:RD}{H X:Int->Int->Int}
theorem Wq(s:BV h a N d)(L:Lone d.Ts H X)(hlo:h.lo<=h.nx)(hN:N<=1000){k:Nat}{b:TB}(hb:d.Ts[k]? = some b){t r m:Int}(hst:dR t r a.c.S=(k:Int))(hH:H t r=0)(am:bY m=true)(hf:d.F=[]\/a.aW<=b.M.length)(V:KQ)(hk:∀h',Le h h'->V (.tuple ⟨[.int .i64 0,.bool false,.int .i64 8]⟩) h'):CallW prog 301 [.pointer (some ⟨a.tb,0,none⟩),cV t r,.int .i64 (X t r),.int .i64 m] h V:=by
 have hno:=L.no hH;refine Ml s hlo hN t r (X t r) m _ ?_ ?_ ?_ ?_ ?_
 .intro h' hn;omega
 .intro k' b' h' _ _ hf;rw[am]at hf;cases hf
 .intro k' b' h' e p hb' _ _ he ht hr;exact absurd ⟨ht,hr⟩ (hno b' (List.mem_of_getElem? hb') e he)
 .intro k' b' h' _ _ _ _ _ le;exact hk h' le
 .intro k' b' M' clock' F' W' AT h0 h1 h' n g hb' BX _ _ _ ak s' fr;obtain rfl:k'=k:=by omega
  rw[hb]at hb';cases hb';exfalso;rcases hf with e|e
  .have:=ak.free.length_eq;rw[e]at this;simp at this
  .obtain⟨Q,w,hold,_⟩:=ak.set;rcases hold with⟨e',he,h1,h2,_⟩|⟨_,h2,_⟩
   .exact hno b (List.mem_of_getElem? hb) e' he ⟨h1.symm,h2.symm⟩
   .omega
theorem Ih(s:WS h A a N d R)(L:Lone d.Ts H X)(hN:N<=1000){i k:Nat}{c:CR}(hi:R.cs[i]? = some (some c)){b:TB}(hb:d.Ts[k]? = some b)(hst:dR c.a.t c.a.r a.c.S=(k:Int))(hx:c.a.x=X c.a.t c.a.r)(hx0:0<=c.a.x)(km:kn c.a.m=true)(hm:c.a.m≠0)(hH:H c.a.t c.a.r=0)(hf:d.F=[]\/a.aW<=b.M.length)(Bn:List Value)(hl:slot Bn 19=.int .i64 (H c.a.t c.a.r))(id:Int)(V:KQ)(hk:∀h',WS h' A a N d { R with cs:=R.cs.set i (some { c with out:=5 }) }->WK a h h'->V (.tuple ⟨[]⟩) h'):qT (.pointer (some ⟨c.ca,0,none⟩)) Bn (.int .i64 id) h V:=by
 obtain⟨gc,c1,c2⟩:=bO s hi;have gc':=gc;unfold bZ at gc';have gw:=s.r.gw;unfold qT;simp(disch:=try exact Y)only[Wz,hl,aG,gc',gw];refine xu _ _ ?_;simp(disch:=try exact Y)only[Wz,aG,gc',gw];refine A3 s L c.a.t c.a.r _ ?_;intro v Q h1 hQ hv bG;obtain⟨vx,vc,ev,_⟩:=(show Sl bH h1 v Q from hv)
 have hlen:∀(β:Type)(fl:β)(h':Heap)(V:Z7 β),bJ fl v h' V=V (.int .i64 (Q.length:Int)) h':=λβ fl h' V=>by rw[ev];exact iu _ _ _ _ _
 have hQl:Q.length<=1:=by rcases hQ with rfl|⟨_,_,rfl⟩<;>simp
 simp(disch:=try exact Y)only[Wz,hlen];refine⟨λn l h2=>∃j:Nat,slot l 29=.int .i64 (j:Int)/\n=Q.length-j/\j<=Q.length/\Le h1 h2,⟨_,0,rfl,rfl,by omega,Le.refl _⟩,?_⟩;rintro n l h2 ⟨j,s1,rfl,hj,bt⟩;have n2:=bt.nx;have l2:=bt.lo;have n1:=bG.nx;have l1:=bG.lo;have hlo:=s.lo;by_cases hlt:j<Q.length
 .obtain⟨p,hp⟩:∃p,Q[j]? = some p:=⟨_,List.getElem?_eq_getElem hlt⟩
  obtain⟨b4,o4,hb4,hx4,T0,_⟩:=TW hv j hp;have hpx:0<=p.x:=by
   have hm:=List.mem_of_getElem? hp;rcases hQ with rfl|⟨i',m',rfl⟩
   .nomatch hm
   .rw[List.mem_singleton]at hm;subst hm;show 0<=X c.a.t c.a.r;omega
  rw[<-bt.get _ hb4]at T0;simp(disch:=try exact Y)only[Wz,qS,s1,fV (show(j:Int)<(Q.length:Int)by omega)];refine⟨λl' h'=>Le h1 h',?_,?_⟩
  .simp(disch:=try exact Y)only[Wz,zP,s1,hx4,T0,bH,dL (show(0:Int)<=p.x by omega)];exact bt.trans ((Le.refl h2).new _)
  .intro l' h' le';exact⟨_,by omega,j+1,rfl,rfl,by omega,le'⟩
 ·have kW:=bG.trans bt;have s2:=s.le kW;have uQ:=(kW.get _ c1).trans gc;have wI:=uQ;unfold bZ at wI;have Ua:=s2.r.gw;have k02:=s.Mp kW;simp(disch:=try exact Y)only[Wz,qS,s1,dL (show(Q.length:Int)<=(j:Int)by omega),zT,aG,wI,hl];refine oS _ _ ?_;have fin:∀h',WS h' A a N d R->WK a h h'->V (.tuple ⟨[]⟩) ⟨h'.nx,h'.bl.aV c.ca (bZ A.wb { c with out:=5 }),h'.lo⟩:=λh' s' w'=>by
   obtain⟨uY,_,_⟩:=bO s' hi;exact hk _ (WS.iT s' hi rfl) (w'.trans (WS.uX s' uY (by simp[jO]) (by decide) _))
  unfold bZ at fin;have H6:lN (H c.a.t c.a.r) c.a.m=false:=by
   cases hc:lN (H c.a.t c.a.r) c.a.m with
   |false=>rfl
   |true=>rw[hH]at hc;exact absurd (ZF hc) hm
  rw[H6];simp(disch:=try exact Y)only[Wz];refine⟨λl' h'=>slot l' 39=.bool false/\slot l' 40=.int .i64 8/\WS h' A a N d R/\WK a h h',?_,?_⟩
  .have am:bY c.a.m=true:=(jU _).2 ⟨hm,km⟩;rw[hH,Sz km];simp(disch:=try exact Y)only[Wz,hl,hH,zQ,aG,wI,Ua];rw[hx];refine Wq s2.t L (by omega) hN hb hst hH am hf _ ?_;intro h3 dg;simp(disch:=try exact Y)only[Wz];exact⟨trivial,trivial,s2.le dg,k02.trans (s2.Mp dg)⟩
  .rintro l' h3 ⟨e1,e2,s3,k3⟩;obtain⟨uY,_,_⟩:=bO s3 hi;unfold bZ at uY;simp(disch:=try exact Y)only[Wz,zS,e2,aG,uY];exact fin h3 s3 k3
theorem Wr(s:WS h A a N d R)(L:Lone d.Ts H X)(hN:N<=1000){i k:Nat}{c:CR}(hi:R.cs[i]? = some (some c)){b:TB}(hb:d.Ts[k]? = some b)(hst:dR c.a.t c.a.r a.c.S=(k:Int))(hx:c.a.x=X c.a.t c.a.r)(hx0:0<=c.a.x)(km:kn c.a.m=true)(hm:c.a.m≠0)(hH:H c.a.t c.a.r=0)(hf:d.F=[]\/a.aW<=b.M.length)(V:KQ)(hk:∀h',WS h' A a N d { R with cs:=R.cs.set i (some { c with out:=5 }) }->WK a h h'->V (.tuple ⟨[]⟩) h'):CallW prog 212 [.pointer (some ⟨c.ca,0,none⟩)] h V:=by
 obtain⟨gc,c1,c2⟩:=bO s hi;have gc':=gc;unfold bZ at gc';have gw:=s.r.gw;have hlo:=s.lo;refine av mixed ?_;rw[Rf];simp(disch:=try exact Y)only[Wz,aG,gc',gw];rw[hx];refine u0 s.t L hlo c.a.t c.a.r _ ?_ (λh=>absurd hH h);intro _ h1 bG;have s1:=s.le bG;simp(disch:=try exact Y)only[Wz];refine⟨λl' h'=>slot l' 19=.int .i64 (H c.a.t c.a.r)/\Le h1 h',⟨by rw[hH];rfl,Le.refl _⟩,?_⟩;rintro l' h2 ⟨sl,bt⟩;exact Ih (s1.le bt) L hN hi hb hst hx hx0 km hm hH hf l' sl 0 V λh' s' k'=>hk h' s' ((s.Mp (bG.trans bt)).trans k')
theorem Ws(s:WS h A a N d R)(L:Lone d.Ts H X)(hN:N<=1000){i k:Nat}{c:CR}(hi:R.cs[i]? = some (some c))(vS:c.wt=false){b:TB}(hb:d.Ts[k]? = some b)(hst:dR c.a.t c.a.r a.c.S=(k:Int))(hx:c.a.x=X c.a.t c.a.r)(hx0:0<=c.a.x)(hm:oc c.a=true)(h1:c.a.k=1)(hH:H c.a.t c.a.r=0)(hf:d.F=[]\/a.aW<=b.M.length)(V:KQ)(hk:∀h',WS h' A a N d { R with cs:=R.cs.set i (some { c with ph:=3,out:=5 }) }->WK a h h'->V (.tuple ⟨[]⟩) h'):CallW prog 106 [.pointer (some ⟨c.ca,0,none⟩)] h V:=by
 obtain⟨gc,c1,c2⟩:=bO s hi;have gc':=gc;unfold bZ at gc';have hlo:=s.lo;have hil:=(List.getElem?_eq_some_iff.1 hi).1;unfold oc at hm;rw[Bool.and_eq_true]at hm;have hm:=hm.2
 have fin:∀h',WS h' A a N d { R with cs:=R.cs.set i (some { c with out:=5 }) }->WK a h h'->
   CallW prog 57 [.pointer (some ⟨c.ca,0,none⟩),.int .i64 3,.func (.func 159) ⟨[.pointer (some ⟨c.ca,0,none⟩)]⟩ ⟨[]⟩] h' (λ_ h=>V (.tuple ⟨[]⟩) h):=by
  intro h' s' k';have hi':(R.cs.set i (some { c with out:=5 }))[i]? = some (some { c with out:=5 }):=by rw[List.getElem?_set,if_pos rfl,if_pos hil]
  obtain⟨uY,_,c3⟩:=bO s' hi';refine D0 { c with out:=5 } uY c3 3 _ rfl _ ?_;have s4:=WS.iT s' hi' (c':={ c with ph:=3,out:=5 }) rfl;simp only[List.set_set]at s4;exact hk _ s4 (k'.trans (WS.uX s' uY (by simp[jO]) (by decide) _))
 refine av mixed ?_;rw[Js];refine⟨λl' h'=>WS h' A a N d { R with cs:=R.cs.set i (some { c with out:=5 }) }/\WK a h h',?_,?_⟩
 .simp(disch:=try exact Y)only[Wz,uC,aG,gc',vS,uB];refine JW h _ hlo ?_;intro b0 hz lez g0;have s1:=s.le lez;have k1:=s.Mp lez;have yp:=(lez.get _ c1).trans gc';rw[if_pos h1]at hm;rw[Bool.and_eq_true,Bool.and_eq_true,decide_eq_true_eq]at hm;simp(disch:=try exact Y)only[Wz,SB g0 _ _ (.inl ⟨h1,rfl⟩),aG,yp,List.nil_append,List.append_nil];refine Wr s1 L hN hi hb hst hx hx0 hm.1.1 hm.1.2 hH hf _ ?_;intro h3 s2 k2;rw[vS]at s2;exact⟨s2,k1.trans k2⟩
 .rintro l' h' ⟨s',k'⟩;exact fin h' s' k'
theorem Ii(s:WS h A a N d R)(L:Lone d.Ts H X)(hN:N<=1000){i k:Nat}{c:CR}(hi:R.cs[i]? = some (some c))(uZ:c.ph=2)(hbi:R.bits[i]? = some 0)(vS:c.wt=false){b:TB}(hb:d.Ts[k]? = some b)(hst:dR c.a.t c.a.r a.c.S=(k:Int))(hsk:c.st=(k:Int)){o:Option (Nat × Int)}(hl:R.dS[k]? = some o)(hx:c.a.x=X c.a.t c.a.r)(hx0:0<=c.a.x)(hm:oc c.a=true)(h1:c.a.k=1)(hH:H c.a.t c.a.r=0)(hf:d.F=[]\/a.aW<=b.M.length)(V:KQ)(hk:∀h',WS h' A a N d { R with cs:=R.cs.set i (some { c with ph:=3,out:=5 }) }->WK a h h'->V (.tuple ⟨[.bool false,.int .i64 0,.int .i64 0]⟩) h'):CallW prog 15 [.pointer (some ⟨A.wb,0,none⟩),.int .i64 (i:Int)] h V:=by
 have gw:=s.r.gw;have V7:=s.r.gc;have hil:=xE s hi;have r:(R.cs.map λo=>cZ (o.map (·.ca)))[i]? = some (.pointer (some ⟨c.ca,0,none⟩)):=jZ s hi;obtain⟨gc,c1,c2⟩:=bO s hi;have hlc:(R.cs.map λo=>cZ (o.map (·.ca))).length=A.n:=by rw[List.length_map];exact s.r.lc
 have gc':=gc;unfold bZ xD at gc';rw[uZ]at gc';have h2:decide (((2:Nat):Int)=1)=false:=by decide
 refine av mixed ?_;rw[Fj];simp(disch:=try exact Y)only[Wz,jF,rP];refine mQ s hil _ ?_;simp(disch:=try exact Y)only[Wz];refine nO s hi hbi hsk hl _ ?_;rw[uZ,h2];simp(disch:=try exact Y)only[Wz,Bool.not_false,Bool.true_or,rO,aG,gw,bh,V7,r,gc',Nat.mul_one,pO];refine Ws s L hN hi vS hb hst hx hx0 hm h1 hH hf _ ?_;intro h' s' k';have hi':(R.cs.set i (some { c with ph:=3,out:=5 }))[i]? = some (some { c with ph:=3,out:=5 }):=by rw[List.getElem?_set,if_pos rfl,if_pos (by have:=s.r.lc;omega)]
 obtain⟨uQ,_,_⟩:=bO s' hi';unfold bZ at uQ;simp(disch:=try exact Y)only[Wz,aG,uQ];exact hk h' s' k'
end
section
variable {h:Heap}{A:WA}{a:TA}{N:Nat}{d:TD}{R:RD}{H X:Int->Int->Int}
end
end Go.Proofs
end
