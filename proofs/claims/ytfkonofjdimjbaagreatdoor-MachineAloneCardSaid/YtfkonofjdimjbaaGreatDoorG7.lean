/-
  PROVED HERE: a part of the proof (S13, N4, U14, U15, U16, U18, N5, N6, S14, S15, S16, S17, S18, S19, S20, S21, S22, S23, S24, S25, S26, AA1, IX, IW2, IW3, VaiI, IW5, AA2, AA3, AA4, SB1, SB2, AW1, AW2, AG1, AG2, M1, M2, M3).
-/
import Derived.Test.YtfkonofjdimjbaaGreatDoorG6
import Derived.Test.YtfkonofjdimjbaaGreatDoorRZ
import Derived.Test.YtfkonofjdimjbaaGreatDoorG3
import Derived.Test.YtfkonofjdimjbaaGreatDoorG2
import Derived.Test.YtfkonofjdimjbaaGreatDoorG4
import Derived.Shelf.RegionOpenPlain
import Derived.Shelf.Spec.SlicesInsert
import Derived.WalkKit
import Derived.Lib.Walk
import Derived.Lib.AppendZeros
import Derived.Laws.Externs
import Derived.Lib.Overlaps
import Derived.Deep.WholeRow
import Derived.Test.YtfkonofjdimjbaaGreatDoorG0
set_option linter.unusedVariables false
set_option linter.unusedSimpArgs false
set_option maxRecDepth 100000
set_option maxHeartbeats 4000000
noncomputable section
namespace Go.Proofs
open Go.Vai Go.Clashes
open Tryz (prog)
section
variable {h:af}{A:WA}{a:TA}{N:Nat}{d:TD}{R:RD}
theorem I8(s:WS h A a N d R){i k:Nat}{c:CR}(hi:R.cs[i]? = some (some c))(CZ:c.ph=1){nb:Int}(hb:R.bits[i]? = some nb)(hst:c.st=(k:Int))(tX:0<=c.th/\c.th<8)(hl:R.eE[k]? = some none)(V:KQ)(hk:∀h',WS h' A a N d { R with eE:=R.eE.set k (some (h.nx,c.th)),cs:=R.cs.set i (some { c with ph:=2 }) }->WK a h h'->V (.tuple ⟨[.bool false,YYX 0,YYX 0]⟩) h')(hz:O8 nb 1=0:=by decide):aq prog 82 [YYV A.wb,YYX (i:Int)] h V:=by
 have gw:=s.r.gw;have gcs:=s.r.gc;have hil:=CX s hi;have r:(R.cs.map λo=>dV (o.map (·.ca)))[i]? = some (YYV c.ca):=pI s hi;obtain⟨gc,c1,c2⟩:=cN s hi;have hlc:(R.cs.map λo=>dV (o.map (·.ca))).length=A.n:=by rw[List.length_map];exact s.r.lc
 have gc':=gc;unfold c_ CV at gc';rw[CZ]at gc';apply YYW;rw[Sh];simp(disch:=try exact Y)only[Wz,mU,yR];refine q_ s hil _ ?_;simp(disch:=try exact Y)only[Wz];refine rY s hi hb hst hl _ ?_ hz;rw[CZ];simp(disch:=try exact Y)only[Wz,Option.isSome_none,Option.isSome_some,Bool.false_or,Bool.true_or,yQ,aJ,gw,br,gcs,r,gc',Nat.mul_one,uB];refine TO s hi hst tX hl _ ?_;intro h' s' k';have hi':(R.cs.set i (some { c with ph:=2 }))[i]? = some (some { c with ph:=2 }):=by rw[List.getElem?_set,if_pos rfl,if_pos (by have:=s.r.lc;omega)]
 obtain⟨EZ,_,_⟩:=cN s' hi';unfold c_ at EZ;simp(disch:=try exact Y)only[Wz,aJ,EZ];exact hk h' s' k'
theorem Lc(s:WS h A a N d R){i k p:Nat}{c:CR}(hi:R.cs[i]? = some (some c))(CZ:c.ph=3){nb:Int}(hb:R.bits[i]? = some nb)(hst:c.st=(k:Int))(tX:c.th=(i:Int))(hout:c.out≠0)(hl:R.eE[k]? = some (some (p,c.th)))(V:KQ)(hk:∀h',WS h' A a N d { R with eE:=R.eE.set k none,cs:=R.cs.set i none }->WK a h h'->V (.tuple ⟨[.bool true,YYX c.out,YYX 0]⟩) h')(hz:O8 nb 1=0:=by decide):aq prog 82 [YYV A.wb,YYX (i:Int)] h V:=by
 have gw:=s.r.gw;have gcs:=s.r.gc;have hil:=CX s hi;have r:(R.cs.map λo=>dV (o.map (·.ca)))[i]? = some (YYV c.ca):=pI s hi;obtain⟨gc,c1,c2⟩:=cN s hi;have hlc:(R.cs.map λo=>dV (o.map (·.ca))).length=A.n:=by rw[List.length_map];exact s.r.lc
 have gc':=gc;unfold c_ CV at gc';rw[CZ]at gc';apply YYW;rw[Sh];simp(disch:=try exact Y)only[Wz,mU,yR];refine q_ s hil _ ?_;simp(disch:=try exact Y)only[Wz];refine rY s hi hb hst hl _ ?_ hz;rw[CZ];simp(disch:=try exact Y)only[Wz,Option.isSome_none,Option.isSome_some,Bool.false_or,Bool.true_or,yQ,aJ,gw,br,gcs,r,gc',Nat.mul_one,uB];refine Xq s hi hst tX hout hl _ ?_;intro h' s' g' k';unfold Ba at g';simp(disch:=try exact Y)only[Wz,aJ,g'];exact hk h' s' k'
theorem ajh(a b c d e f g:Int):lE 8 (.agg ⟨[YYX a,YYX b,YYX c,YYX d,YYX e,YYX f,YYX g]⟩) (.agg ⟨[YYX a,YYX b,YYX c,YYX d,YYX e,YYX f,YYX g]⟩)=true:=by
 have v:∀n:Int,lE 7 (YYX n) (YYX n)=true:=λn=>by
  show(ji .i64 .i64 && tY n n)=true
  rw[iO,bf rfl];rfl
 show(lE 7 (YYX a) (YYX a) && (lE 7 (YYX b) (YYX b) && (lE 7 (YYX c) (YYX c) && (lE 7 (YYX d) (YYX d) && (lE 7 (YYX e) (YYX e) && (lE 7 (YYX f) (YYX f) && (lE 7 (YYX g) (YYX g) && true)))))))=true
 simp only[v,Bool.and_self]
theorem Xr(s:WS h A a N d R){i:Nat}(hi:R.cs[i]? = some none)(x:fE)(hbg:0<=R.begun/\R.begun<=1000000)(V:KQ)(Xj:mR x=false->∀h',Le h h'->V (YYX 2) h')(hk:mR x=true->∀h' ca,WS h' A a N d { R with cs:=R.cs.set i (some ⟨ca,x,(i:Int),R.begun,ff x.t x.r a.c.S,1,false,0,0,0⟩),begun:=R.begun+1 }->WK a h h'->V (YYX 0) h'):aq prog 214 [YYV A.wb,YYX (i:Int),.agg ⟨Et x⟩] h V:=by
 have hlo:=s.lo;have hil:=CX s hi;have r:(R.cs.map λo=>dV (o.map (·.ca)))[i]? = some (.pointer none):=pI s hi;have hlc:(R.cs.map λo=>dV (o.map (·.ca))).length=A.n:=by rw[List.length_map];exact s.r.lc
 apply YYW;rw[abS];simp(disch:=try exact Y)only[Wz,Et];obtain⟨hA,bg,aS,g1,dP,dQ⟩:=jH h (ah [YYX x.k,YYX x.x,YYX x.t,YYX x.r,YYX x.m,YYX x.w,YYX x.to] 152 false);rw[<-bg];clear bg;have sA:=s.le aS;simp(disch:=try exact Y)only[Wz,mU,GX];refine q_ sA hil _ ?_;simp(disch:=try exact Y)only[Wz,g1];refine adV x hA _ YYZ ?_;intro h1 bT;have n1:=bT.nx;have l1:=bT.lo;have s1:=sA.le bT;have g11:=(bT.get _ YYZ).trans g1;have ZK:=s1.r.gw;have B4:=s1.r.gc;cases hm:mR x with
 |false=>
  simp(disch:=try exact Y)only[Wz];exact Xj hm h1 (aS.trans bT)
 |true=>
  have hk:=hk hm;have aok:∀(β:Type)(fl:β)(cn:Bool)(h:af)(V:YYY β),aI fl prog .neq 155 cn false (.pointer none) (.pointer none) h V=V (.bool false) h:=λβ fl cn h V=>Ev cn none h V;simp(disch:=try exact Y)only[Wz,GV,aJ,ZK,br,B4,r,Nat.mul_one,aok,GU,g11];refine xm s1.t.is YYZ x.t x.r _ ?_;intro h2 bE;have n2:=bE.nx;have l2:=bE.lo;have s2:=s1.le bE;have g12:=(bE.get _ YYZ).trans g11;have gw2:=s2.r.gw;simp(disch:=try exact Y)only[Wz,aJ,g12,gw2];obtain⟨cc,JN⟩:∃cc:CR,cc=⟨h2.nx,x,(i:Int),R.begun,ff x.t x.r a.c.S,1,false,0,0,0⟩:=⟨_,rfl⟩
  obtain⟨h3,e3⟩:∃h3:af,h3=⟨h2.nx+1,h2.bl.bt h2.nx (c_ A.wb cc),h2.lo⟩:=⟨_,rfl⟩
  have cL:Le h2 h3:=by rw[e3];exact(Le.refl h2).new _
  have g3:h3.bl.get h2.nx=some (c_ A.wb cc):=by rw[e3];exact T.az _ _ _
  have n3:h3.nx=h2.nx+1:=by rw[e3]
  have l3:h3.lo=h2.lo:=by rw[e3]
  have s3:=s2.le cL;have e3':h3=⟨h2.nx+1,h2.bl.bt h2.nx (ah [YYX x.k,YYX x.x,YYX x.t,YYX x.r,YYX x.m,YYX x.w,YYX x.to,YYV A.wb,YYX (i:Int),YYX R.begun,YYX (ff x.t x.r a.c.S),.func (.func 260) ⟨[YYV h2.nx]⟩ ⟨[]⟩,YYX 1,.bool false,YYX 0,YYX 0,YYX 0,.bool false,.slice none 0 0] 154 false),h2.lo⟩:=by rw[e3,JN];rfl
  have gw3:=s3.r.gw;have lw3:=s3.r.CU;have lc3:=s3.r.ZM;have s4:=s3.A_ (R.begun+1);have k4:=WS.yy s3 gw3 (by simp[kI]) YYQ (ah [YYV a.tb,YYV A.lb,YYV A.pb,YYV A.kb,YYU A.cb A.n A.n,.map (some A.mb),YYX (R.begun+1)] 99 false);have aol:=s4.r.gc;have ovc:over (R.cs.map λo=>dV (o.map (·.ca))) i [YYV h2.nx]=(R.cs.set i (some cc)).map λo=>dV (o.map (·.ca)):=by
   unfold over;rw[List.map_set,List.set_eq_take_append_cons_drop,if_pos (by rw[List.length_map];have:=s.r.lc;omega),JN];simp[dV]
  have s5:=WS.vv (R:={ R with begun:=R.begun+1 }) s4 i (some cc) (λc e=>by
   cases e;refine⟨by rw[JN];show h2.nx<h3.nx;omega,by rw[JN];show h3.lo<=h2.nx;omega,?_,λj d' hj hd=>?_⟩
   .have e9:cc.ca=h2.nx:=by rw[JN]
    rw[e9];exact(T.aD _ _ (by have:=(s2.r.CU).1;omega)).trans g3
   .have:=(s2.r.ca d' (List.mem_of_getElem? hd)).1;rw[JN];show d'.ca≠h2.nx;omega)
  have k5:=WS.yy s4 aol (by simp[kI]) YYQ (ah ((R.cs.set i (some cc)).map λo=>dV (o.map (·.ca))) 155 false);have hne:A.wb≠A.cb:=cr gw3 s3.r.gc YYQ;have aty:=s3.r.gc;have TP:=s2.r.gc;have lw2:=s2.r.CU;have lc2:=s2.r.ZM;simp(disch:=try exact Y)only[Wz,ajh];apply YYW;rw[Sv];simp(disch:=try exact Y)only[Wz,aJ,CY,gw2,br,TP,Nat.mul_one,ovc];have hk:=λh'=>hk h' h2.nx;simp only[<-JN]at hk;have hk:=hk _ s5 (((s.Lb ((aS.trans bT).trans (bE.trans cL))).trans k4).trans k5);rw[e3']at hk;exact hk
end
section
variable {a h:af}{rt rp rl:Nat}{c:iF}{vr:Value}{bu:Nat}{R:List RB}{B:List Bool}
end
section
variable {h h2:af}{tb bw bp bl:Nat}{c:iF}{vb:Value}{bu N:Nat}{Ts Ts2:List TB}{W:List IE}{wc:Nat}{F:List Int}{B:List Bool}
end
section
variable {h h':af}{bb bm bp bl most:Nat}{M M':List HE}{clock clock':Nat}{F F':List Int}{B:List Bool}
end
section
variable {h:af}{tb bw bp bl:Nat}{c:iF}{vb:Value}{bu N:Nat}{Ts:List TB}{W:List IE}{wc:Nat}{F:List Int}{B:List Bool}
end
section
variable {h:af}{tb bw bp bl:Nat}{c:iF}{vb:Value}{bu N:Nat}{Ts:List TB}{W:List IE}{wc:Nat}{F:List Int}{B:List Bool}
end
theorem O_{B:List Int}{n:Nat}{b:Int}(h:n<B.length):over (B.map λx=>YYX x) n [YYX b]=(B.set n b).map λx=>YYX x:=by
 unfold over;rw[List.set_eq_take_append_cons_drop,if_pos h];simp[List.map_take,List.map_drop]
section
variable {h:af}{tb bw bp bl:Nat}{c:iF}{vb:Value}{bu N:Nat}{Ts:List TB}{W:List IE}{wc:Nat}{F:List Int}{B:List Bool}
end
section
variable {a0 h:af}{tb bw bp bl:Nat}{c:iF}{vb:Value}{bu N:Nat}{Ts:List TB}{W:List IE}{wc:Nat}{F:List Int}{B:List Bool}{rt rp rl:Nat}{vr:Value}{R:List RB}
end
def ajj(Ts:List (List HE))(s t r x id:Int)(b:Bool):Prop:=(ff t r s<0/\id=0/\b=false)\/∃(k:Nat)(M:List HE),Ts[k]? = some M/\ff t r s=(k:Int)/\Tk M t r x id b
section
variable {a0 h:af}{tb bw bp bl:Nat}{c:iF}{vb:Value}{bu N:Nat}{Ts:List TB}{W:List IE}{wc:Nat}{F:List Int}{B:List Bool}{rt rp rl:Nat}{vr:Value}{R:List RB}
theorem TQ(s:lM h tb bw bp bl c vb bu N Ts W wc F B)(hlo:h.lo<=h.nx)(t r x:Int)(V:KQ)(hk:∀h' id b,ajj (Ts.map (·.M)) c.S t r x id b->Le h h'->V (.tuple ⟨[YYX id,.bool b]⟩) h'):aq prog 315 [YYV tb,dJ t r,YYX x] h V:=by
 apply YYW;rw[acB];simp(disch:=try exact Y)only[Wz,dJ];obtain⟨hA,bg,aS,g1,dP,dQ⟩:=jH h (ah [YYX t,YYX r] 26 false);rw[<-bg];clear bg;refine xm (s.le aS).is YYZ t r _ ?_;intro h2 bE;have qn:=bE.nx;have qo:=bE.lo;have g1:=(bE.get _ YYZ).trans g1;have qZ:=aS.trans bE;have s2:=s.le qZ;by_cases hneg:ff t r c.S<0
 .simp(disch:=try exact Y)only[Wz,bf hneg];exact hk h2 0 false (.inl ⟨hneg,rfl,rfl⟩) qZ
 obtain⟨k,b,hst,hb⟩:=aiW s.is hneg;have gt:=s2.is.nU;obtain⟨cc,oo,_,JR,mK⟩:=Xg s2.is.sl k hb;have mK:=mK h2 (Le.refl _);rw[hst];simp(disch:=try exact Y)only[Wz,cG (show(0:Int)<=(k:Int)by omega),Hz,aJ,gt,JR,mK,g1];refine Xc (s2.is.bk b (List.mem_of_getElem? hb)) YYZ t r x _ ?_;intro h3 id bb fi cL;simp(disch:=try exact Y)only[Wz];exact hk h3 id bb (.inr ⟨k,b.M,by rw[List.getElem?_map,hb];rfl,hst,fi⟩) (qZ.trans cL)
end
section
variable {h:af}{tb bw bp bl:Nat}{c:iF}{vb:Value}{bu N:Nat}{Ts:List TB}{W:List IE}{wc:Nat}{F:List Int}{B:List Bool}{H X:Int->Int->Int}
end
section
variable {h:af}{A:WA}{a:TA}{N:Nat}{d:TD}{R:RD}{H X:Int->Int->Int}
end
theorem TS{m:Int}(h:kn m=true):bM 0 m=m:=by
 have key:∀j,j<7->bM 0 (j:Nat)=(j:Nat):=by decide +kernel
 obtain⟨j,hj,rfl⟩:=lz h;exact key j hj
theorem jR{a b:Int}(ha:kn a=true)(hb:kn b=true)(h0:b≠0):bM a b≠0/\kn (bM a b)=true/\bM a (bM a b)=bM a b/\(kG a b=true->bM a b=a):=by
 have key:∀i:Nat,i<7->∀j:Nat,j<7->(j:Int)≠0->bM (i:Nat) (j:Nat)≠0/\kn (bM (i:Nat) (j:Nat))=true/\bM (i:Nat) (bM (i:Nat) (j:Nat))=bM (i:Nat) (j:Nat)/\(kG (i:Nat) (j:Nat)=true->bM (i:Nat) (j:Nat)=(i:Nat)):=by decide +kernel
 obtain⟨i,hi,rfl⟩:=lz ha;obtain⟨j,hj,rfl⟩:=lz hb;exact key i hi j hj h0
structure Ew(d d':TD)(k:Nat):Prop where
 f:d.F.length<=d'.F.length+1
 m:∀(j:Nat)(b':TB),d'.Ts[j]? = some b'->∃b,d.Ts[j]? = some b/\b'.M.length<=b.M.length+if j=k then 1 else 0
theorem vw{d:TD}{k:Nat}{b:TB}(hk:d.Ts[k]? = some b){M':List HE}{cl:Nat}(hl:M'.length<=b.M.length+1)(W':List IE)(Bx:Nat){F':List Int}(hF:d.F.length<=F'.length+1)(B':List Bool):Ew d ⟨d.Ts.set k ⟨b.bb,b.bm,M',cl⟩,W',Bx,F',B'⟩ k:=by
 refine⟨hF,λj b' hj=>?_⟩;rcases gu hj with⟨rfl,rfl⟩|⟨hne,hj⟩
 .exact⟨b,hk,by rw[if_pos rfl];exact hl⟩
 .exact⟨b',hj,YYZ⟩
section
variable {h:af}{a:TA}{N:Nat}{d:TD}{H X:Int->Int->Int}
end
section
variable {h:af}{A:WA}{a:TA}{N:Nat}{d:TD}{R:RD}{H X:Int->Int->Int}
end
section
variable {h:af}{A:WA}{a:TA}{N:Nat}{d:TD}{R:RD}{H X:Int->Int->Int}
end
def xu(k:Int)(f:FuncId)(n:Nat):MapEntry:={ key:=YYX k,val:=.func (.func f) ⟨[]⟩ ⟨[]⟩,born:=n }
def I9:bO:=.map [xu 1 302 0,xu 2 303 1,xu 3 304 2] 3
theorem findF(h:af)(k k':Int)(f:FuncId)(n:Nat)(es:List MapEntry)(i:Nat):gH prog h 3 (YYX k) (xu k' f n::es) i=if k=k' then some (some (i,xu k' f n))else gH prog h 3 (YYX k) es (Nat.succ i):=by
 have hf:gH prog h 3 (.int .i64 k) (xu k' f n::es) i=(match(some (decide (k=k')):Option Bool)with|some true=>some (some (i,xu k' f n))|some false=>gH prog h 3 (.int .i64 k) es (Nat.succ i)|none=>none):=by
  rw[<-eqI h];rfl
 rw[hf];by_cases e:k=k'
 .rw[bf e,if_pos e]
 .rw[aZ e,if_neg e]
theorem tN{es:List MapEntry}{clock:Nat}{h:af}{b:Nat}(g:h.bl.get b=some (.map es clock))(hlo:h.lo<=b)(k:Int)(f:FuncId)(hf:∀h:af,gH prog h 3 (YYX k) es 0=some none)(V:KQ)(hk:V undef ⟨h.nx,h.bl.bt b (.map (es++[xu k f clock]) (clock+1)),h.lo⟩):cz False prog 3 (.map (some b)) (YYX k) (.func (.func f) ⟨[]⟩ ⟨[]⟩) h V:=by
 unfold cz;rw[O2];simp only[g,hf];rw[oL];simp only[bY];rw[cq _ _ _ _ hlo];exact hk
theorem adX(h:af)(V:KQ)(hlo:h.lo<=h.nx)(hk:∀b h',Le h h'->h'.bl.get b=some I9->V (.map (some b)) h'):aq prog 293 [] h V:=by
 apply YYW;rw[acm];simp(disch:=try exact Y)only[Wz,gR];refine tN (es:=[]) (T.az _ _ _) (by exact hlo) 1 302 (λh=>rfl) _ ?_;refine tN (T.az _ _ _) (by exact hlo) 2 303 (λh=>by rw[List.nil_append,findF,if_neg YYQ];rfl) _ ?_;refine tN (T.az _ _ _) (by exact hlo) 3 304 (λh=>by rw[List.nil_append,List.singleton_append,findF,if_neg YYQ,findF,if_neg YYQ];rfl) _ ?_;exact hk h.nx _ ((((Le.refl h).new _).set (Nat.le_refl _) _).set (Nat.le_refl _) _ |>.set (Nat.le_refl _) _) (T.az _ _ _)
theorem ZP{β:Type}{fl:β}{h:af}{b:Nat}(g:h.bl.get b=some I9)(k:Int)(f:FuncId)(hk:(k=1/\f=302)\/(k=2/\f=303))(V:YYY β):dw fl prog 3 Value.nilFunc false (.map (some b)) (YYX k) h V=V (.func (.func f) ⟨[]⟩ ⟨[]⟩) h:=by
 unfold dw jJ;rw[O2];simp only[g,I9];rcases hk with⟨rfl,rfl⟩|⟨rfl,rfl⟩
 .rw[findF,if_pos rfl];rfl
 .rw[findF,if_neg YYQ,findF,if_pos rfl];rfl
section
variable {h:af}{A:WA}{a:TA}{N:Nat}{d:TD}{R:RD}{H X:Int->Int->Int}
end
theorem I_(n:Nat):bq [YYX 0] n=La (List.replicate n 0):=by
 unfold La
 induction n with
 |zero=>rfl
 |succ n ih=>rw[List.replicate_succ,List.map_cons,<-ih];rfl
theorem Bb(n:Nat):bq [Value.pointer none] n=List.replicate n (.pointer none):=by
 induction n with
 |zero=>rfl
 |succ n ih=>rw[List.replicate_succ,<-ih];rfl
theorem tO(v:Value)(n:Nat):(bq [v] n).length=n:=by
 induction n with
 |zero=>rfl
 |succ n ih=>show(v::bq [v] n).length=_;rw[List.length_cons,ih]
theorem Ja(n:Nat)(hn:1<=n/\n<=8)(h:af)(V:KQ)(hk:∀h' pb ib,Le h h'->h.nx<=ib->ib<h'.nx->pb<h'.nx->h'.bl.get pb=some (ah [YYU ib n n] 126 false)->h'.bl.get ib=some (ah (La (List.replicate n 0)) 3 false)->V (.tuple ⟨[YYV pb,YYX 0]⟩) h'):aq prog 42 [YYX (n:Int)] h V:=by
 apply YYW;rw[ag5];have hrl:=tO (I 0) n;simp(disch:=try exact Y)only[Wz,cG (show(1:Int)<=(n:Int)by omega),cG (show(n:Int)<=8 by omega)];rw[DO _ _ _ _ _ YYZ YYZ,I_];simp(disch:=try exact Y)only[Wz];exact hk _ _ _ (((Le.refl h).new _).new _) (Nat.le_refl _) (by show h.nx<h.nx+1+1;omega) (by show h.nx+1<h.nx+1+1;omega) (T.az _ _ _) ((T.aD _ _ YYZ).trans (T.az _ _ _))
theorem Ld(n:Nat)(hn:1<=n/\n<=16)(h:af)(V:KQ)(hk:∀h' lb hb,Le h h'->h.nx<=hb->hb<h'.nx->lb<h'.nx->h'.bl.get lb=some (ah [YYU hb n n] 129 false)->h'.bl.get hb=some (ah (List.replicate n (.pointer none)) 269 false)->V (.tuple ⟨[YYV lb,YYX 0]⟩) h'):aq prog 43 [YYX (n:Int)] h V:=by
 apply YYW;rw[ag6];have hrl:=tO (.pointer none) n;simp(disch:=try exact Y)only[Wz,cG (show(1:Int)<=(n:Int)by omega),cG (show(n:Int)<=16 by omega)];rw[DO _ _ _ _ _ YYZ YYZ,Bb];simp(disch:=try exact Y)only[Wz];exact hk _ _ _ (((Le.refl h).new _).new _) (Nat.le_refl _) (by show h.nx<h.nx+1+1;omega) (by show h.nx+1<h.nx+1+1;omega) (T.az _ _ _) ((T.aD _ _ YYZ).trans (T.az _ _ _))
theorem Lf(h:af)(V:KQ)(hk:V (YYV h.nx) ⟨h.nx+1,h.bl.bt h.nx (ah [YYX 0,.slice none 0 0] 133 false),h.lo⟩):aq prog 44 [] h V:=by
 apply YYW;rw[ag7];simp(disch:=try exact Y)only[Wz];exact hk
theorem TT{h:af}{a:TA}{N:Nat}{d:TD}(s:CW h a N d)(hB:lI d.B=[]):(∀b∈d.Ts,b.M=[])/\d.F.length=d.B.length:=by
 constructor
 .intro b hb;cases hM:b.M with
  |nil=>rfl
  |cons e M=>
   exfalso;have he:e∈b.M:=by rw[hM];exact .head _
   have ids:=s.ids;rw[hB]at ids;have B2:=ids.eq_nil;have g:=((s.is.bk b hb).good e he)
   cases hQ:e.Q with
   |nil=>exact g.ne hQ
   |cons p Q=>
    have:p.id∈d.Ts.flatMap λb=>iq b.M:=List.mem_flatMap.2 ⟨b,hb,by
     unfold iq;exact List.mem_flatMap.2 ⟨e,he,List.mem_map.2 ⟨p,by rw[hQ];exact .head _,rfl⟩⟩⟩
    rw[B2]at this;cases this
 .have:=u9 s.is.aL.ok;rw[hB]at this;simpa using this
structure adY(A:WA)(a:TA)(d:TD)(R:RD)(c:iF)(n:Nat):Prop where
 ec:a.c=c
 en:A.n=n
 hd:(a.bu:Int)=c.H
 em:∀b∈d.Ts,b.M=[]
 f:(d.F.length:Int)=c.R
 cs:R.cs=List.replicate n none
 eE:R.eE=List.replicate c.S.toNat none
 bits:R.bits=List.replicate n 0
 begun:R.begun=0
 now:R.now=0
 tv:R.tv=.slice none 0 0
 ms:a.ms=A.mb::a.bw::d.Ts.map (·.bm)
theorem Bc(a:Option Nat):(Value.cells (.map a)).toList=[.map a]:=id rfl
theorem aom(n:Nat)(hn:n<=8)(h:af)(V:KQ)(hk:V (YYU h.nx n n) ⟨h.nx+1,h.bl.bt h.nx (ah (List.replicate n (.pointer none)) 155 false),h.lo⟩):yI (match Value.int .i64 (n:Int),Value.int .i64 (n:Int)with | .int _ (.ofNat l),.int _ (.ofNat c)=>(match Nat.ble l c,Nat.ble c 1000000 with|true,true=>(aN none (bq [(Value.pointer none)] c) 155 false λo=>some (o,bR l c))|_,_=>none)|_,_=>none) h V:=by
 have e1:Nat.ble n n=true:=by rw[Nat.ble_eq];exact Nat.le_refl _
 have e2:Nat.ble n 1000000=true:=by rw[Nat.ble_eq];omega
 have hl:=tO (.pointer none) n
 show yI (match Nat.ble n n,Nat.ble n 1000000 with|true,true=>(aN none (bq [(Value.pointer none)] n) 155 false λo=>some (o,bR n n))|_,_=>none) h V
 rw[e1,e2];simp only;rw[iQ,zG,Bb]
 .exact hk
 .omega
theorem adZ(c:iF)(hc:ku c)(n:Nat)(hn:1<=n/\n<=8)(h:af)(hlo:h.lo<=h.nx)(V:KQ)(hk:∀h' A a d R,adY A a d R c n->WS h' A a 0 d R->Le h h'->(∀x,FB h' a.bp x->h.nx<=x)->V (.tuple ⟨[YYV A.wb,YYX 0]⟩) h'):aq prog 21 [xY c,YYX (n:Int)] h V:=by
 obtain⟨S,hS⟩:∃S:Nat,c.S=(S:Int):=⟨c.S.toNat,by have:=hc.1;omega⟩
 apply YYW;rw[agV];simp(disch:=try exact Y)only[Wz,xY];obtain⟨hA,bg,aS,g1,dP,dQ⟩:=jH h (ah [YYX c.S,YYX c.H,YYX c.R,YYX c.P] 34 false);rw[<-bg];clear bg;refine Xi c hA _ YYZ ?_ ?_
 .intro h1 e _ hno _;exact absurd hc hno
 intro h1 tb bw bp bl vb bu Ts F _ t1 gbm gbw gbp gbl bT fb1;have n1:=bT.nx;have l1:=bT.lo;have hcS:1<=S/\S<=16:=by have:=hc.1;have:=hc.2.1;omega
 have Jb:=bT.nx;have Jc:=bT.lo;have g1:=(bT.get _ YYZ).trans g1;simp(disch:=try exact Y)only[Wz,MI];refine Ja n hn h1 _ ?_;intro h2 pb ib bE i1 i2 p2 gp gi;have n2:=bE.nx;have l2:=bE.lo;have qn:=bE.nx;have qo:=bE.lo;have g1:=(bE.get _ YYZ).trans g1;simp(disch:=try exact Y)only[Wz,MH,aJ,g1,hS];refine Ld S hcS h2 _ ?_;intro h3 lb hb cL j1 j2 q2 gl gh;have n3:=cL.nx;have l3:=cL.lo;simp(disch:=try exact Y)only[Wz];refine aom n hn.2 h3 _ ?_;simp(disch:=try exact Y)only[Wz,av,bR,gR];obtain⟨h4,e4⟩:∃h4:af,h4=⟨h3.nx+1+1,(h3.bl.bt h3.nx (ah (List.replicate n (Value.pointer none)) 155 false)).bt (h3.nx+1) (bO.map [] 0),h3.lo⟩:=⟨_,rfl⟩
 have jU:Le h3 h4:=by rw[e4];exact((Le.refl h3).new _).new _
 have gc4:h4.bl.get h3.nx=some (ah (List.replicate n (Value.pointer none)) 155 false):=by rw[e4];exact(T.aD _ _ YYZ).trans (T.az _ _ _)
 have gm4:h4.bl.get (h3.nx+1)=some (bO.map [] 0):=by rw[e4];exact T.az _ _ _
 have n4:h4.nx=h3.nx+1+1:=by rw[e4]
 have l4:=jU.lo;rw[<-e4];clear e4;refine Lf h4 _ ?_;obtain⟨h5,e5⟩:∃h5:af,h5=⟨h4.nx+1,h4.bl.bt h4.nx (ah [YYX 0,.slice none 0 0] 133 false),h4.lo⟩:=⟨_,rfl⟩
 have nj:Le h4 h5:=by rw[e5];exact(Le.refl h4).new _
 have gk5:h5.bl.get h4.nx=some (ah [YYX 0,.slice none 0 0] 133 false):=by rw[e5];exact T.az _ _ _
 have n5:h5.nx=h4.nx+1:=by rw[e5]
 have l5:=nj.lo;rw[<-e5];clear e5;simp(disch:=try exact Y)only[Wz];rw[rQ _ _ _ _ _ _ _ (by rw[Bc];rfl) (Nat.le_of_ble_eq_true rfl),uC];simp(disch:=try exact Y)only[Wz,Bc];obtain⟨h6,e6⟩:∃h6:af,h6=⟨h5.nx+1,h5.bl.bt h5.nx (ah [YYV tb,YYV lb,YYV pb,YYV h4.nx,YYU h3.nx n n,.map (some (h3.nx+1)),YYX 0] 99 false),h5.lo⟩:=⟨_,rfl⟩
 have vW:Le h5 h6:=by rw[e6];exact(Le.refl h5).new _
 have gw6:h6.bl.get h5.nx=some (ah [YYV tb,YYV lb,YYV pb,YYV h4.nx,YYU h3.nx n n,.map (some (h3.nx+1)),YYX 0] 99 false):=by rw[e6];exact T.az _ _ _
 have n6:h6.nx=h5.nx+1:=by rw[e6]
 have l6:=vW.lo;have hk:=hk h6 ⟨h5.nx,lb,hb,pb,ib,h4.nx,h3.nx,h3.nx+1,n⟩ ⟨tb,bw,bp,bl,c,vb,bu,(h3.nx+1)::bw::Ts.map (·.bm)⟩ ⟨Ts,[],0,F,List.replicate c.R.toNat false⟩ ⟨List.replicate S none,List.replicate n 0,0,.slice none 0 0,List.replicate n none,[],0,0⟩;have t6:=t1.le (bE.trans (cL.trans (jU.trans (nj.trans vW))));have ad0:=jU.trans (nj.trans vW);have Xs:=cL.trans ad0;have nl:=TT (a:=⟨tb,bw,bp,bl,c,vb,bu,(h3.nx+1)::bw::Ts.map (·.bm)⟩) (d:=⟨Ts,[],0,F,List.replicate c.R.toNat false⟩) t6 (IV _);have hR:=hc.2.2.2.2.1;have atD:=t1.is.CU;rw[e6]at hk;refine hk ⟨rfl,rfl,t1.cH,nl.1,?_,rfl,?_,rfl,rfl,rfl,rfl,rfl⟩ ?_ (aS.trans (bT.trans (bE.trans (Xs.trans (by rw[e6];exact Le.refl _))))) ?_
 .have:=nl.2;simp only[List.length_replicate]at this
  show(F.length:Int)=c.R
  omega
 .show List.replicate S none=List.replicate c.S.toNat none
  rw[hS];rfl
 .rw[<-e6];have hm1:∀(m:Nat)(f:Option CR->Value),f none=.pointer none->(List.replicate m (none:Option CR)).map f=List.replicate m (.pointer none):=λm f hf=>by rw[List.map_replicate,hf]
  have hm2:∀(m:Nat) (f:Option (Nat × Int)->Value),f none=.pointer none->(List.replicate m (none:Option (Nat × Int))).map f=List.replicate m (.pointer none):=λm f hf=>by rw[List.map_replicate,hf]
  refine⟨t6,⟨⟨by show h5.nx<h6.nx;omega,by show h6.lo<=h5.nx;omega⟩,gw6,by show lb<h6.nx;omega,?_,⟨by show hb<h6.nx;omega,by show h6.lo<=hb;omega⟩,?_,?_,by show pb<h6.nx;omega,?_,⟨by show ib<h6.nx;omega,by show h6.lo<=ib;omega⟩,?_,List.length_replicate ..,⟨by show h4.nx<h6.nx;omega,by show h6.lo<=h4.nx;omega⟩,?_,⟨by show h3.nx<h6.nx;omega,by show h6.lo<=h3.nx;omega⟩,?_,List.length_replicate ..,?_,⟨by show h3.nx+1<h6.nx;omega,by show h6.lo<=h3.nx+1;omega⟩,?_,hn,?_⟩,?_,?_,⟨.head _,.tail _ (.head _),λb hb'=>.tail _ (.tail _ (List.mem_map.2 ⟨b,hb',rfl⟩))⟩,YYZ⟩
  .simp only[List.length_replicate];exact(ad0.get _ q2).trans gl
  .rw[hm2 S _ rfl];exact(ad0.get _ j2).trans gh
  .intro p hp;rw[List.mem_replicate]at hp;nomatch hp.2
  .exact(Xs.get _ p2).trans gp
  .exact(Xs.get _ i2).trans gi
  .exact(vW.get h4.nx YYZ).trans gk5
  .show h6.bl.get h3.nx=_
   rw[hm1 n _ rfl];exact((nj.trans vW).get h3.nx YYZ).trans gc4
  .intro p hp;rw[List.mem_replicate]at hp;nomatch hp.2
  .exact((nj.trans vW).get (h3.nx+1) YYZ).trans gm4
  .rw[List.pairwise_replicate];exact .inr λc c' e=>nomatch e
  .show h3.nx+1≠bw;omega
  .intro b hb';have:=(t1.is.bk b hb').iN
   show h3.nx+1≠b.bm;omega
 ·intro x hx;rw[<-e6]at hx;obtain⟨_,_,hb1,_⟩:∃fs ls,bp<h1.nx/\h1.bl.get bp=some (ah [fs,ls] 173 false):=by
   obtain⟨fs,hg,_⟩:=t1.is.aL.fr.cell;exact⟨fs,_,t1.is.aL.fr.lt,hg⟩
  have:=fb1 x ((FB.congr ((bE.trans Xs).get bp hb1)).1 hx);omega
theorem Lg{a b a' b':Value}{t:TypeId}{o:Bool}(e:(some (ah [a,b] t o):Option bO)=some (ah [a',b'] t o)):a=a':=by
 have h1:Has (some (ah [a,b] t o)) 0 [a,b]:=Has.all;have h2:Has (some (ah [a',b'] t o)) 0 [a',b']:=Has.all;rw[<-e]at h2;have k1:=dH (β:=Option Value) (fl:=none) h1 0 some (by show 0<2;omega);have k2:=dH (β:=Option Value) (fl:=none) h2 0 some (by show 0<2;omega);exact Option.some.inj (k1.symm.trans k2)
section
variable {h:af}{A:WA}{a:TA}{N:Nat}{d:TD}{R:RD}
theorem WS.Xt(s:WS h A a N d R){x:Nat}{v:List Value}{t:TypeId}{o:Bool}(hg:h.bl.get x=some (ah v t o))(ht:¬mT t o)(hr:¬kI t o)(ob:bO):WS ⟨h.nx,h.bl.bt x ob,h.lo⟩ A a N d R:=by
 refine⟨lM.put s.t ob (λvs ty op h1 e=>?_) (gx hg s.t.is.pG) λb hb=>gx hg (s.t.is.bk b hb).gW,s.r.keep (Nat.le_refl _) rfl (λc vs ty op _ h1 e=>T.aD _ _ ?_) (T.aD _ _ (gx hg s.r.gm)),s.mw,s.mm,s.mi,s.lo⟩
 .rw[hg]at e;obtain⟨rfl,rfl⟩:=cW e;exact ht h1
 .rintro rfl;rw[hg]at e;obtain⟨rfl,rfl⟩:=cW e;exact hr h1
end
theorem rZ{α:Type}{l:List α}{i:Nat}{x y:α}(h:l[i]? = some y):(l.set i x)[i]? = some x:=by rw[List.getElem?_set,if_pos rfl,if_pos (List.getElem?_eq_some_iff.1 h).1]
theorem C1{α:Type}{l:List α}{i j:Nat}{x:α}(h:j≠i):(l.set i x)[j]? = l[j]?:=by rw[List.getElem?_set,if_neg (λe=>h e.symm)]
section
variable {h:af}{A:WA}{a:TA}{N:Nat}{d:TD}{R:RD}{H X Hk Gn:Int->Int->Int}
end
section
variable {h:af}{A:WA}{a:TA}{N:Nat}{d:TD}{R:RD}{H X Hk Gn:Int->Int->Int}
end
theorem adY.bit{A:WA}{a:TA}{d:TD}{R:RD}{c:iF}{n i:Nat}(nw:adY A a d R c n)(hi:i<n):R.bits[i]? = some 0:=by
 rw[nw.bits,List.getElem?_replicate,if_pos hi]
theorem Xu{t r:Int}(h:bx t r≠-1):∃k:Nat,k<2/\ff t r 2=(k:Int):=by
 unfold ff;rw[if_neg (by rintro(h1|h1|h1)<;>first|omega|exact h h1)];have h1:=Int.tmod_nonneg (a:=xk (j8 t r)) 2 (tK _).1;have h2:=Int.tmod_lt_of_pos (xk (j8 t r)) (show(0:Int)<2 by decide);exact⟨((xk (j8 t r)).tmod 2).toNat,YYZ,YYZ⟩
def mV(m:Int):Int:=if m=1\/m=3 then 1 else if m=2\/m=4\/m=5\/m=6 then 2 else 0
theorem TU{f:FuncId}{F:Int->Value}(h1:∀i,i<7->bA prog 200 f [YYX (.ofNat i)] (F (.ofNat i))=true)(h2:∀(n:Nat),bA prog 200 f [YYX (.negSucc n)] (F (.negSucc n))=true)(h3:∀(n:Nat),bA prog 200 f [YYX (.ofNat (n+7))] (F (.ofNat (n+7)))=true)(a:Int){h:af}{V:KQ}(hk:V (F a) h):aq prog f [YYX a] h V:=by
 refine gN mixed (n:=200) ?_ hk;rcases wS a with⟨i,hi,rfl⟩|⟨n,rfl⟩|⟨n,rfl⟩
 .exact h1 i hi
 .exact h2 n
 .exact h3 n
theorem TV(n:Nat):mV (.negSucc n)=0:=by unfold mV;rw[if_neg YYZ,if_neg YYZ]
theorem TW(n:Nat):mV (.ofNat (n+7))=0:=by
 have:(Int.ofNat (n+7))=(n:Int)+7:=rfl;rw[this];unfold mV;rw[if_neg YYZ,if_neg YYZ]
theorem ad1:∀i,i<7->bA prog 200 168 [YYX (.ofNat i)] (YYX (mV (.ofNat i)))=true:=by decide +kernel
theorem ad2(n:Nat):bA prog 200 168 [YYX (.negSucc n)] (YYX 0)=true:=by kernel_rfl
theorem ad3(n:Nat):bA prog 200 168 [YYX (.ofNat (n+7))] (YYX 0)=true:=by kernel_rfl
theorem Jd(a:Int){h:af}{V:KQ}(hk:V (YYX (mV a)) h):aq prog 168 [YYX a] h V:=
 TU (F:=λa=>YYX (mV a)) ad1 (λn=>by rw[TV];exact ad2 n) (λn=>by rw[TW];exact ad3 n) a hk
abbrev N2:=Int × Int
def lN(t r:Int):List N2:=if bx t r=1 then[(-1,-1)]else if bx t r=2 then[(-1,-1),(t,-1)]else[]
theorem yV(t r:Int):(lN t r).length<=2:=by unfold lN;split<;>(try split)<;>simp
theorem mh(t r:Int):bx t r = -1\/bx t r=0\/bx t r=1\/bx t r=2:=by unfold bx;split<;>(try split)<;>(try split)<;>simp
theorem ajl{h:af}{V:KQ}(hk:V (dJ (-1) (-1)) h):aq prog 78 [] h V:=
 gN mixed (show bA prog 100 78 [] (dJ (-1) (-1))=true by kernel_rfl) hk
theorem Pb(zs:List Value)(n:Nat):bq zs (n+1)=zs++bq zs n:=id rfl
theorem ad4{β:Type}{fl:β}(a:Int)(h:af)(V:YYY β)(ha:0<=a):C_ fl (YYX a) (YYX 0) h V=V (YYX a) h:=by
 unfold C_;simp only;rw[iw,aZ YYZ]
theorem aoo{β:Type}{fl:β}(h:af)(V:YYY β):C_ fl (YYX (-1)) (YYX 0) h V=V (YYX 0) h:=id rfl
theorem TX{β:Type}{fl:β}(b:Nat)(h:af)(V:YYY β):sliceB fl 26 2 (YYU b 2 2) none (some (YYX 0)) none h V=V (YYU b 0 2) h:=by
 unfold sliceB;rfl
theorem ad5{β:Type}{fl:β}(b:Nat)(h:af)(V:YYY β):sliceB fl 26 2 (YYU b 2 2) none (some (YYX 1)) none h V=V (YYU b 1 2) h:=by
 unfold sliceB;rfl
theorem ad6{β:Type}{fl:β}(b:Nat)(h:af)(V:YYY β):sliceB fl 26 2 (YYU b 2 2) none (some (YYX 2)) none h V=V (YYU b 2 2) h:=by
 unfold sliceB;rfl
theorem Nl(t r:Int)(h:af)(V:KQ)(hlo:h.lo<=h.nx)(hk:∀v h',Sl fD h' v (lN t r)->lE 8 v v=true->Le h h'->V v h'):aq prog 169 [dJ t r] h V:=by
 apply YYW;rw[abw];simp(disch:=try exact Y)only[Wz,dJ];refine ajl ?_;simp(disch:=try exact Y)only[Wz,dJ,Pb,List.cons_append,List.nil_append];refine qa t r ?_;have hle1:=(Le.refl h).new (ah [YYX t,YYX r] 26 false);have hle2:=hle1.new (ah [YYX (-1),YYX (-1),YYX t,YYX (-1)] 26 false);have hh:∀k,k<=4->Has ((T.bt (T.bt h.bl h.nx (ah [YYX t,YYX r] 26 false)) (h.nx+1) (ah [YYX (-1),YYX (-1),YYX t,YYX (-1)] 26 false)).get (h.nx+1)) 0 ([YYX (-1),YYX (-1),YYX t,YYX (-1)].take k):=by
  intro k hk;rw[T.az];have:=Has.cells (vs:=[YYX (-1),YYX (-1),YYX t,YYX (-1)]) (e:=26) (op:=false) (o:=0) (k:=k) (by simpa using hk);simpa using this
 rcases mh t r with h1|h1|h1|h1
 .simp(disch:=try exact Y)only[Wz,h1,aoo,TX];exact hk _ _ ⟨some ⟨h.nx+1,0,none⟩,2,by simp[lN,h1],λhn=>by simp[lN,h1]at hn⟩ (iD _ _ _ _) hle2
 .simp(disch:=try exact Y)only[Wz,h1,ad4,TX];exact hk _ _ ⟨some ⟨h.nx+1,0,none⟩,2,by simp[lN,h1],λhn=>by simp[lN,h1]at hn⟩ (iD _ _ _ _) hle2
 .simp(disch:=try exact Y)only[Wz,h1,ad4,ad5];exact hk _ _ ⟨some ⟨h.nx+1,0,none⟩,2,by simp[lN,h1],λ_=>⟨_,0,rfl,Nat.lt_succ_self _,by simpa[lN,h1,fD]using hh 2 YYZ⟩⟩ (iD _ _ _ _) hle2
 .simp(disch:=try exact Y)only[Wz,h1,ad4,ad6];exact hk _ _ ⟨some ⟨h.nx+1,0,none⟩,2,by simp[lN,h1],λ_=>⟨_,0,rfl,Nat.lt_succ_self _,by simpa[lN,h1,fD]using hh 4 YYZ⟩⟩ (iD _ _ _ _) hle2
theorem ldN{h:af}{v:Value}{L:List N2}(hs:Sl fD h v L)(i:Nat){p:N2}(hp:L[i]? = some p):∃b o,b<h.nx/\(∀(β:Type)(fl:β)(h':af)(V:YYY β),aK fl 2 v (YYX (i:Int)) h' V=V (.pointer (some ⟨b,o,none⟩)) h')/\
   ((∀(β:Type)(fl:β)(V:List Value->β),yh fl (h.bl.get b) o 2 V=V (fD p))/\
   (∀(β:Type)(fl:β)(V:Value->β),uy fl (h.bl.get b) o V=V (YYX p.1))/\
   (∀(β:Type)(fl:β)(V:Value->β),uy fl (h.bl.get b) (o+1) V=V (YYX p.2))):=by
 obtain⟨b,o,h1,h2,h3,hh⟩:=hs.ld jd i hp;have h4:(fD p).length=2:=rfl;refine⟨b,o,h1,h2,h3,λβ fl V=>?_,λβ fl V=>?_⟩
 .exact dH (fl:=fl) hh 0 V YYZ
 .exact dH (fl:=fl) hh 1 V YYZ
abbrev xw(p:L4):Value:=.agg ⟨cC p⟩
theorem ldP{h:af}{v:Value}{L:List L4}(hs:Sl cC h v L)(i:Nat){p:L4}(hp:L[i]? = some p):∃b o,b<h.nx/\(∀(β:Type)(fl:β)(h':af)(V:YYY β),aK fl 4 v (YYX (i:Int)) h' V=V (.pointer (some ⟨b,o,none⟩)) h')/\
   ((∀(β:Type)(fl:β)(V:List Value->β),yh fl (h.bl.get b) o 4 V=V (cC p))/\
   (∀(β:Type)(fl:β)(V:List Value->β),yh fl (h.bl.get b) (o+1) 2 V=V [YYX p.t,YYX p.r])/\
   (∀(β:Type)(fl:β)(V:Value->β),uy fl (h.bl.get b) o V=V (YYX p.x))/\
   (∀(β:Type)(fl:β)(V:Value->β),uy fl (h.bl.get b) (o+1) V=V (YYX p.t))/\
   (∀(β:Type)(fl:β)(V:Value->β),uy fl (h.bl.get b) (o+2) V=V (YYX p.r))/\
   (∀(β:Type)(fl:β)(V:Value->β),uy fl (h.bl.get b) (o+3) V=V (YYX p.m))):=by
 obtain⟨b,o,h1,h2,h3,hh⟩:=hs.ld c9 i hp;have h4:(cC p).length=4:=rfl;refine⟨b,o,h1,h2,h3,λβ fl V=>pV (hh.sub 1 2 YYZ) 2 V rfl,λβ fl V=>?_,λβ fl V=>?_,λβ fl V=>?_,λβ fl V=>?_⟩
 .exact dH (fl:=fl) hh 0 V YYZ
 .exact dH (fl:=fl) hh 1 V YYZ
 .exact dH (fl:=fl) hh 2 V YYZ
 .exact dH (fl:=fl) hh 3 V YYZ
def zL:List Value:=[YYX 0,YYX 0,YYX 0,YYX 0]
theorem aor:F_ prog 104:=⟨λh n c n' c'=>by kernel_rfl,λh a n c n' c'=>by kernel_rfl⟩
theorem Lh(a0 a1:Value)(h:af)(V:KQ):aW prog 203 [a0,a1] h V=ez prog 3 4 a0 a1 h V:=by kernel_rfl
theorem ad7(a0 a1:Value)(h:af)(V:KQ):aW prog 217 [a0,a1] h V=fu prog 3 203 a0 a1 h V:=by kernel_rfl
theorem ad8(a0:Value)(h:af)(V:KQ):aW prog 202 [a0] h V=yK prog 104 278 4 zL a0 h V:=by kernel_rfl
theorem TY(a0 a1:Value)(h:af)(V:KQ):aW prog 215 [a0,a1] h V=fN prog 3 203 278 4 zL a0 a1 h V:=by kernel_rfl
theorem Bd(L:List L4)(F:L4->Bool)(h:af)(v fv:Value)(V:KQ)(hv:Sl cC h v L)(hlen:L.length<=1000000)(hF:∀p,p∈L->∀(h1:af)(κ1:Value->af->Prop),Le h h1->(∀h2,Le h1 h2->κ1 (.bool (F p)) h2)->fq prog fv [yj cC p] h1 κ1)(hk:∀h',Le h h'->V (YYX (gG (L.findIdx? F))) h'):aq prog 203 [v,fv] h V:=mJ mixed c9 Lh L F h v fv V hv hlen hF hk
theorem Je(L:List L4)(F:L4->Bool)(h:af)(v fv:Value)(V:KQ)(hv:Sl cC h v L)(hlen:L.length<=1000000)(hF:∀p,p∈L->∀(h1:af)(κ1:Value->af->Prop),Le h h1->(∀h2,Le h1 h2->κ1 (.bool (F p)) h2)->fq prog fv [yj cC p] h1 κ1)(hk:∀h',Le h h'->V (.bool (L.any F)) h'):aq prog 217 [v,fv] h V:=i_ mixed c9 Lh ad7 L F h v fv V hv hlen hF hk
theorem Be(L:List L4)(h:af)(v:Value)(V:KQ)(hv:Sl cC h v L)(hlen:L.length<=1000000)(hlo:h.lo<=h.nx)(hk:∀v' h',K0 h h' v' L->Le h h'->V v' h'):aq prog 202 [v] h V:=
 Rz mixed c9 q9 YYQ YYQ aor ad8 L h v V hv hlen hlo hk
theorem Pc(a h:af)(L:List L4)(F:L4->Bool)(v fv:Value)(V:KQ)(hle:Le a h)(ho:K0 a h v L)(hlen:L.length<=100000)(hlo:a.lo<=a.nx)(hF:∀p,∀(h1:af)(κ1:Value->af->Prop),Le a h1->(h.nx<=h1.nx/\∀c,c<h.nx->h.bl.get c≠some (ah (L.flatMap cC) 278 true)->h1.bl.get c=h.bl.get c)->(∀h2,Le h1 h2->κ1 (.bool (F p)) h2)->fq prog fv [yj cC p] h1 κ1)(hk:∀v' h',Sl cC h' v' (L.filter λp=>!F p)->Cut 278 4 h' v' (L.filter λp=>!F p).length->Le a h'->(h.nx<=h'.nx/\∀c,c<h.nx->h.bl.get c≠some (ah (L.flatMap cC) 278 true)->h'.bl.get c=h.bl.get c)->yL 278 h' v'->V v' h'):aq prog 215 [v,fv] h V:=
 zQ mixed c9 q9 YYQ YYQ YYQ YYQ Lh TY a h L F v fv V hle ho hlen hlo hF hk
end Go.Proofs

namespace Go.Vai
open Go
variable {P:Program}{w:World}
theorem TZ{B:Nat}{C:Array Value}{e:TypeId}(hC:w.heap[B]? = some (.cells C e (0,0)))(o j:Nat):w.cell? ((⟨B,o,none⟩:Addr).add j)=C[o+j]?:=by
 rw[jL];simp[World.cell?,hC]
theorem fW{B o k m n c:Nat}{C:Array Value}{e:TypeId}(hC:w.heap[B]? = some (.cells C e (0,0)))(hle:o+m*k<=C.size):(Builtin.firstCells k m (.slice (some ⟨B,o,none⟩) n c)).run P w=.ok ((C.toList.drop o).take (m*k)).toArray w:=by
 have hlen:((C.toList.drop o).take (m*k)).length=m*k:=by simp;omega
 have:=run_loadCells_list (P:=P) w ⟨B,o,none⟩ ((C.toList.drop o).take (m*k)) λj v hj=>by
  rw[TZ hC];rw[List.getElem?_take]at hj;split at hj
  .simpa[List.getElem?_drop]using hj
  .cases hj
 rw[hlen]at this;exact this
theorem jh{tS e k ty D o dl dc n c:Nat}{a:Option Addr}{l':List Value}{R:Array Value}(hu:P.underlying tS=some (.slice e))(hs:fT P e=some k)(hf:(Builtin.firstCells k (Nat.min n dl) (.slice a n c)).run P w=.ok l'.toArray w)(hR:w.heap[D]? = some (.cells R e (0,0)))(hfit:o+l'.length<=R.size)(hone:∀v∈l',v.oneCell'=true):(Builtin.copy_ #[tS,tS] ty #[.slice (some ⟨D,o,none⟩) dl dc,.slice a n c]).run P w=.ok (goInt (Nat.min n dl)) (w.setRow D (R.toList.take o++l'++R.toList.drop (o+l'.length)).toArray):=by
 have h1:=run_storeCells_at P D o e l' 0 R w hR (by simpa using hfit) hone;simp only[Nat.add_zero]at h1;simp[Builtin.copy_,a_ hu,cM hs,Builtin.lenOf,hf,h1,goInt]
theorem Li(L:List Value)(a b N:Nat)(h1:a<=N)(h2:N+b<=L.length):(L.take (a+b)++(L.drop a).take (N-a)++L.drop (N+b)).take a=(L.take N).take a:=by
 rw[List.append_assoc,List.take_append_of_le_length (by simp;omega),List.take_take,List.take_take]
 congr 1;omega
theorem Lj(L:List Value)(a b N:Nat)(h1:a<=N)(h2:N+b<=L.length):(L.take (a+b)++(L.drop a).take (N-a)++L.drop (N+b)).drop (a+b)=(L.take N).drop a++L.drop (N+b):=by
 rw[List.append_assoc,List.drop_left' (by simp;omega),List.drop_take]
end Go.Vai

namespace Go.Proofs
open Go.Shelf Go.RowKit Go.Lib Go.Vai
open Tryz (prog)
set_option maxHeartbeats 4000000 in
set_option maxRecDepth 100000 in
theorem Ll(base:Option Addr)(n c VB vo m vc:Nat)(w:World)(r:Value)(w':World)(hm:0<m)(hle:n<=c)(hr:(Builtin.append_ #[104,104] 104 #[.slice base n c,.slice (some ⟨VB,vo,none⟩) m vc]).run prog w=.ok r w'):Calls prog 205 #[.slice base n c,.int .i64 n,.slice (some ⟨VB,vo,none⟩) m vc] w λe w''=>e=.returned r/\w''=w':=by
 have hz1:¬((m:Int)=0):=by omega
 go_enter Tryz.func205,Tryz.ntmps205
 go_wp2_with (at_builtin;refine Lib.wpList_append_run _ rfl _ _ 104 104 rfl _ _ rfl rfl _ _ hr ?_)
 all_goals go_ret
 all_goals exact⟨rfl,rfl⟩
theorem xx:prog.underlying 104=some (.slice 278):=Tryz.underlying104
theorem C2:fT prog 278=some 4:=by kernel_rfl
set_option maxHeartbeats 4000000 in
set_option maxRecDepth 100000 in
theorem Lm(B n c i VB vo m vc:Nat)(C VC:Array Value)(e2:TypeId)(new:List Value)(w:World)(hne:B≠VB)(hi:i<n)(hm:0<m)(hroom:n+m<=c)(vV:n+m<=1000000)(hC:w.heap[B]? = some (.cells C 278 (0,0)))(hV:w.heap[VB]? = some (.cells VC e2 (0,0)))(hcs:c*4<=C.size)(hf:∀w1:World,w1.heap[VB]? = w.heap[VB]?->(Builtin.firstCells 4 m (.slice (some ⟨VB,vo,none⟩) m vc)).run prog w1=.ok new.toArray w1)(hnl:new.length=m*4)(h1v:∀v∈new,v.oneCell'=true)(h1c:∀v∈C.toList.take (n*4),v.oneCell'=true):Calls prog 205 #[.slice (some ⟨B,0,none⟩) n c,.int .i64 i,.slice (some ⟨VB,vo,none⟩) m vc] w λe w''=>e=.returned (.slice (some ⟨B,0,none⟩) (n+m) c)/\
   ∃d,w.drawn<=d/\w''={ w.setRow B (((C.toList.take (n*4)).take (i*4)++new++(C.toList.take (n*4)).drop (i*4))++C.toList.drop ((n+m)*4)).toArray with drawn:=d }:=by
 have mixed:=mixed;have hz1:¬((m:Int)=0):=by omega
 have zn:¬((i:Int)=(n:Int)):=by omega
 have hw1:IntKind.i64.wrap ((i:Int)+(m:Int))=(i:Int)+(m:Int):=by rw[IntKind.wrap_i64];omega
 have hw2:IntKind.i64.wrap ((n:Int)+(m:Int))=(n:Int)+(m:Int):=by rw[IntKind.wrap_i64];omega
 have hb1:(0:Int)<=(i:Int)+(m:Int):=by omega
 have hin:i<=n:=by omega
 have htn:((i:Int)+(m:Int)).toNat=i+m:=by omega
 have hb2:¬(c=i+m):=by omega
 have hb3:(i:Int)<=(n:Int)+(m:Int):=by omega
 have hb4:¬(c=i):=by omega
 have hB:C.size≠0:=by omega
 have atF:∀j,w.frozen? ⟨B,j,none⟩=false:=λj=>by simp[World.frozen?,hC]
 have ajm:∀j,w.frozen? ⟨VB,j,none⟩=false:=λj=>by simp[World.frozen?,hV]
 have DJ:∀lb cb,(callFunc 254 #[.slice (some ⟨VB,vo,none⟩) m vc,.slice (some ⟨B,(i+m)*4,none⟩) lb cb]).run prog w=.ok (.value (.bool false)) w:=λlb cb=>by
  rw[run_callFunc_extern Tryz.func254 (by kernel_rfl) (by kernel_rfl) (by kernel_rfl) (e:=Extern.SlicesOverlaps.overlaps #[104,104] #[4]) (by kernel_rfl),
   Lib.run_overlaps_apart w 104 4 278 xx 4 (λw=>cM C2) ⟨VB,vo,none⟩ ⟨B,(i+m)*4,none⟩ m vc lb cb (λe=>hne e.symm) e2 278 VC.size C.size (by simp[World.shape?,hV]) (by simp[World.shape?,hC]) hB (ajm _) (ajm _)]
  rfl
 have hnc:(n+m)*4<=C.size:=by omega
 have hCd:w.drew.heap[B]? = some (.cells C 278 (0,0)):=hC;have qy:((C.toList.drop (i*4)).take ((n-i)*4)).length=(n-i)*4:=by simp;omega
 have ad9:∀ty dc sc,(Builtin.copy_ #[104,104] ty #[.slice (some ⟨B,(i+m)*4,none⟩) (n+m-(i+m)) dc,.slice (some ⟨B,i*4,none⟩) (n+m-i) sc]).run prog w.drew=.ok (goInt ((n-i:Nat))) (w.drew.setRow B (C.toList.take ((i+m)*4)++(C.toList.drop (i*4)).take ((n-i)*4)++C.toList.drop ((n+m)*4)).toArray):=λty dc sc=>by
  have hmin:Nat.min (n+m-i) (n+m-(i+m))=n-i:=by simp only[Nat.min_def];split<;>omega
  have h:=jh (P:=prog) (w:=w.drew) (ty:=ty) (D:=B) (o:=(i+m)*4) (dl:=n+m-(i+m)) (dc:=dc) (n:=n+m-i) (c:=sc) (a:=some ⟨B,i*4,none⟩) (l':=(C.toList.drop (i*4)).take ((n-i)*4)) xx C2
   (by rw[hmin];exact fW hCd (by omega)) hCd (by rw[qy];omega) (λv hv=>h1c v (by
    rw[List.mem_iff_getElem?]at hv ⊢;obtain⟨j,hj⟩:=hv;rw[List.getElem?_take]at hj;split at hj
    .rw[List.getElem?_drop]at hj;exact⟨i*4+j,by rw[List.getElem?_take_of_lt (by omega)];exact hj⟩
    .cases hj))
  rw[hmin,qy,show(i+m)*4+(n-i)*4=(n+m)*4 by omega]at h;exact h
 obtain⟨R1,Ve⟩:∃R1:Array Value,R1=(C.toList.take ((i+m)*4)++(C.toList.drop (i*4)).take ((n-i)*4)++C.toList.drop ((n+m)*4)).toArray:=⟨_,rfl⟩
 rw[<-Ve]at ad9;have aot:R1.size=C.size:=by rw[Ve];simp;omega
 obtain⟨W1,ZQ⟩:∃W1,W1=w.drew.setRow B R1:=⟨_,rfl⟩
 obtain⟨R2,ZJ⟩:∃R2:Array Value,R2=(((C.toList.take (n*4)).take (i*4)++new++(C.toList.take (n*4)).drop (i*4))++C.toList.drop ((n+m)*4)).toArray:=⟨_,rfl⟩
 have aou:W1.heap[B]? = some (.cells R1 278 (0,0)):=by rw[ZQ];exact setRow_heap w.drew B C R1 278 (0,0) hCd
 have aov:W1.heap[VB]? = w.heap[VB]?:=by rw[ZQ];exact setRow_other w.drew B VB R1 (λe=>hne e.symm)
 have aow:∀(W:World),W.heap=W1.heap->∀ty dc,(Builtin.copy_ #[104,104] ty #[.slice (some ⟨B,i*4,none⟩) (n+m-i) dc,.slice (some ⟨VB,vo,none⟩) m vc]).run prog W=.ok (goInt m) (W.setRow B R2):=λW hW ty dc=>by
  have hmin:Nat.min m (n+m-i)=m:=by simp only[Nat.min_def];split<;>omega
  have h:=jh (P:=prog) (w:=W) (ty:=ty) (D:=B) (o:=i*4) (dl:=n+m-i) (dc:=dc) (n:=m) (c:=vc) (a:=some ⟨VB,vo,none⟩) (l':=new) xx C2
   (by rw[hmin];exact hf W (by rw[hW];exact aov)) (by rw[hW];exact aou) (by rw[hnl];omega) h1v
  rw[hmin]at h;have hrow:(R1.toList.take (i*4)++new++R1.toList.drop (i*4+new.length)).toArray=R2:=by
   rw[ZJ,Ve,hnl];have e1:=Li C.toList (i*4) (m*4) (n*4) (by omega) (by simp;omega);have e2:=Lj C.toList (i*4) (m*4) (n*4) (by omega) (by simp;omega);rw[<-Nat.add_mul,<-Nat.add_mul,<-Nat.sub_mul]at e1 e2;rw[List.toList_toArray,e1,<-Nat.add_mul,e2,List.append_assoc,List.append_assoc,List.append_assoc]
  rw[hrow]at h;exact h
 rw[<-ZQ]at ad9;rw[<-ZJ]
 go_enter Tryz.func205,Tryz.ntmps205
 go_wp2_with (simp only[DJ])
 go_region_law_o (refine step_copy_runI rfl _ _ 104 104 rfl _ _ (by simp[Act.eval,Act.put]) (by simp[Act.eval,Act.put]) (ad9 _ _ _) ?_)
 go_wp2_with (at_builtin;refine wpList_copy_runI _ rfl _ _ 104 104 rfl _ _ rfl rfl (aow _ rfl _ _) ?_)
 go_ret
 refine⟨rfl,w.drawn+1,Nat.le_succ _,?_⟩;rw[setRow_setRow,ZJ];simp only[List.append_assoc];rfl
end Go.Proofs

namespace Go.Proofs
open Go.Shelf Go.RowKit Go.Lib Go.Vai
open Tryz (prog)
theorem Pd(C Z R new:List Value)(a b N:Nat)(h1:a<=N)(h2:N<=C.length)(hn:new.length=b)(hz:Z.length=N+b-a):(((C.take a++Z++R).take a++new++(C.take a++Z++R).drop (a+b)).take (a+b)++(C.drop a).take (N-a)++((C.take a++Z++R).take a++new++(C.take a++Z++R).drop (a+b)).drop (N+b)) =
   ((C.take N).take a++new++(C.take N).drop a)++R:=by
 have la:(C.take a).length=a:=by simp;omega
 have e1:(C.take a++Z++R).take a=C.take a:=by rw[List.append_assoc,List.take_append_of_le_length (by omega),List.take_take];congr 1;omega
 have e2:(C.take N).take a=C.take a:=by rw[List.take_take];congr 1;omega
 have e3:(C.take N).drop a=(C.drop a).take (N-a):=by rw[List.drop_take]
 have l2:(C.take a++new).length=a+b:=by simp;omega
 have e4:(C.take a++new++(C.take a++Z++R).drop (a+b)).take (a+b)=C.take a++new:=List.take_left' l2;have e5:(C.take a++new++(C.take a++Z++R).drop (a+b)).drop (N+b)=R:=by
  have hs:N+b=(a+b)+(N-a):=by omega
  rw[hs,<-List.drop_drop,List.drop_left' l2,List.drop_drop];exact List.drop_left' (by simp;omega)
 rw[e1,e4,e5,e2,e3]
set_option maxHeartbeats 4000000 in
set_option maxRecDepth 100000 in
theorem Bf(B n c i VB vo m vc G N:Nat)(R1 R2:Array Value)(w W1:World)(hi:i<n)(hm:0<m)(hnc:n<=c)(hroom:c<n+m)(vV:n+m<=1000000)(hG1:n+m<=G)(ZR:(Builtin.append_ #[104,3] 104 #[.slice (some ⟨B,0,none⟩) i c,.int .i64 ((n:Int)+(m:Int)-(i:Int))]).run prog w=.ok (.slice (some ⟨N,0,none⟩) (n+m) G) W1)(ad_:∀(W:World),W.heap=W1.heap->∀ty dc,(Builtin.copy_ #[104,104] ty #[.slice (some ⟨N,i*4,none⟩) (n+m-i) dc,.slice (some ⟨VB,vo,none⟩) m vc]).run prog W=.ok (goInt m) (W.setRow N R1))(aea:∀(W:World),W.heap=(W1.setRow N R1).heap->∀ty dc sc,(Builtin.copy_ #[104,104] ty #[.slice (some ⟨N,(i+m)*4,none⟩) (n+m-(i+m)) dc,.slice (some ⟨B,i*4,none⟩) (n-i) sc]).run prog W=.ok (goInt ((n-i:Nat))) (W.setRow N R2)):Calls prog 205 #[.slice (some ⟨B,0,none⟩) n c,.int .i64 i,.slice (some ⟨VB,vo,none⟩) m vc] w λe' w''=>
   e'=.returned (.slice (some ⟨N,0,none⟩) (n+m) G)/\w''=(W1.setRow N R1).drew.setRow N R2:=by
 have mixed:=mixed;have hz1:¬((m:Int)=0):=by omega
 have zn:¬((i:Int)=(n:Int)):=by omega
 have Qw:(c:Int)<(n:Int)+(m:Int):=by omega
 have hGi:¬(G=i):=by omega
 have atG:¬(G=i+m):=by omega
 have hci:¬(c=i):=by omega
 have hw1:IntKind.i64.wrap ((i:Int)+(m:Int))=(i:Int)+(m:Int):=by rw[IntKind.wrap_i64];omega
 have hw2:IntKind.i64.wrap ((n:Int)+(m:Int))=(n:Int)+(m:Int):=by rw[IntKind.wrap_i64];omega
 have hw3:IntKind.i64.wrap ((n:Int)+(m:Int)-(i:Int))=(n:Int)+(m:Int)-(i:Int):=by rw[IntKind.wrap_i64];omega
 have hb1:(0:Int)<=(i:Int)+(m:Int):=by omega
 have hin:i<=n:=by omega
 have atH:i<=c:=by omega
 have htn:((i:Int)+(m:Int)).toNat=i+m:=by omega
 have hb3:(i:Int)<=(n:Int):=by omega
 go_enter Tryz.func205,Tryz.ntmps205
 go_wp2_with (first
  |(at_builtin;refine Lib.wpList_append_run _ rfl _ _ 104 3 rfl _ _ rfl rfl _ _ ZR ?_)
  |(at_builtin;refine wpList_copy_runI _ rfl _ _ 104 104 rfl _ _ rfl rfl (ad_ _ rfl _ _) ?_))
 go_region_law_o (refine step_copy_runI rfl _ _ 104 104 rfl (.slice (some ⟨N,(i+m)*4,none⟩) (n+m-(i+m)) (G-(i+m))) (.slice (some ⟨B,i*4,none⟩) (n-i) (c-i)) (by simp[Act.eval,Act.put]) (by simp[Act.eval,Act.put]) (aea (W1.setRow N R1).drew rfl 3 (G-(i+m)) (c-i)) ?_)
 go_wp2
 go_ret
 exact⟨rfl,rfl⟩
set_option maxHeartbeats 4000000 in
set_option maxRecDepth 100000 in
theorem Pe(B n c i VB vo m vc:Nat)(C VC:Array Value)(e2:TypeId)(new:List Value)(w:World)(hne:B≠VB)(hi:i<n)(hm:0<m)(hnc:n<=c)(hroom:c<n+m)(vV:n+m<=1000000)(hC:w.heap[B]? = some (.cells C 278 (0,0)))(hV:w.heap[VB]? = some (.cells VC e2 (0,0)))(hcs:n*4<=C.size)(hf:∀w1:World,w1.heap[VB]? = w.heap[VB]?->(Builtin.firstCells 4 m (.slice (some ⟨VB,vo,none⟩) m vc)).run prog w1=.ok new.toArray w1)(hnl:new.length=m*4)(h1v:∀v∈new,v.oneCell'=true)(h1c:∀v∈C.toList.take (n*4),v.oneCell'=true){inf:TypeInfo}{z:Value}(Xv:prog.info? 278=some inf)(hz:inf.zero=some z)(hzc:z.cells.size=4)(hby:inf.bytes<=10000)(h3:prog.underlying 3=some (.int .i64)):Calls prog 205 #[.slice (some ⟨B,0,none⟩) n c,.int .i64 i,.slice (some ⟨VB,vo,none⟩) m vc] w λe' w''=>∃dI rest d,w.drawn<=d/\n+m<=dI/\rest.length=(dI-(n+m))*4/\
   e'=.returned (.slice (some ⟨w.heap.size,0,none⟩) (n+m) dI)/\
   w''={ w.alloc (.cells (((C.toList.take (n*4)).take (i*4)++new++(C.toList.take (n*4)).drop (i*4))++rest).toArray 278 (0,0))with drawn:=d }:=by
 have mixed:=mixed;have hz1:¬((m:Int)=0):=by omega
 have zn:¬((i:Int)=(n:Int)):=by omega
 have Qw:(c:Int)<(n:Int)+(m:Int):=by omega
 have hkk:(n:Int)+(m:Int)-(i:Int)=((n+m-i:Nat):Int):=by omega
 have hik:i+(n+m-i)=n+m:=by omega
 have hzs:(Builtin.zeroCells z.cells (n+m-i)).size=(n+m-i)*4:=by rw[size_zeroCells,hzc]
 obtain⟨G,rest,hG1,hrl,ZR⟩:=oQ (P:=prog) (w:=w) (e:=278) (size:=4) (n:=n+m-i) (sLen:=i) (sCap:=c) (ty:=104) (ts:=#[104,3]) (base:=some ⟨B,0,none⟩) (x':=.int .i64 ((n+m-i:Nat):Int))
  (new':=(Builtin.zeroCells z.cells (n+m-i)).toList) (old':=C.toList.take (i*4)) (t:=104) rfl xx C2 Xv hz hby
  (.mk (k':=.i64) (inf:=inf) (v:=z) rfl h3 (by omega) Xv hz hby (by simp) (by intro h;omega)) (by omega) (by omega)
  (λw1 hw1=>by
   have:=fW (P:=prog) (w:=w1) (B:=B) (o:=0) (k:=4) (m:=i) (n:=i) (c:=c) (C:=C) (e:=278) (by rw[hw1];exact hC) (by omega);simpa using this)
 rw[hik,hzc]at hrl;rw[hik]at hG1 ZR;rw[<-hkk]at ZR;obtain⟨Z,hZ⟩:∃Z,Z=(Builtin.zeroCells z.cells (n+m-i)).toList:=⟨_,rfl⟩
 have hZl:Z.length=(n+m-i)*4:=by rw[hZ];simpa using hzs
 rw[<-hZ]at ZR;obtain⟨Xw,aeb⟩:∃Xw:Array Value,Xw=(C.toList.take (i*4)++Z++rest).toArray:=⟨_,rfl⟩
 rw[<-aeb]at ZR;have hRs:(n+m)*4<=Xw.size:=by rw[aeb];simp[hZl];omega
 obtain⟨W1,ZQ⟩:∃W1,W1=w.drew.alloc (.cells Xw 278 (0,0)):=⟨_,rfl⟩
 rw[<-ZQ]at ZR;have hBl:B<w.heap.size:=(Array.getElem?_eq_some_iff.mp hC).1;have hVl:VB<w.heap.size:=(Array.getElem?_eq_some_iff.mp hV).1;have ajn:W1.heap[w.heap.size]? = some (.cells Xw 278 (0,0)):=by rw[ZQ];show(w.heap.push _)[w.heap.size]? = _;simp
 have ajo:∀k,k<w.heap.size->W1.heap[k]? = w.heap[k]?:=λk hk=>by rw[ZQ];exact eX (w:=w.drew) hk
 obtain⟨R1,Ve⟩:∃R1:Array Value,R1=(Xw.toList.take (i*4)++new++Xw.toList.drop (i*4+m*4)).toArray:=⟨_,rfl⟩
 have aot:R1.size=Xw.size:=by rw[Ve];simp[hnl];omega
 have qy:((C.toList.drop (i*4)).take ((n-i)*4)).length=(n-i)*4:=by simp;omega
 obtain⟨R2,ZJ⟩:∃R2:Array Value,R2=(R1.toList.take ((i+m)*4)++(C.toList.drop (i*4)).take ((n-i)*4)++R1.toList.drop ((n+m)*4)).toArray:=⟨_,rfl⟩
 have ad_:∀(W:World),W.heap=W1.heap->∀ty dc,(Builtin.copy_ #[104,104] ty #[.slice (some ⟨w.heap.size,i*4,none⟩) (n+m-i) dc,.slice (some ⟨VB,vo,none⟩) m vc]).run prog W=.ok (goInt m) (W.setRow w.heap.size R1):=λW hW ty dc=>by
  have hmin:Nat.min m (n+m-i)=m:=by simp only[Nat.min_def];split<;>omega
  have h:=jh (P:=prog) (w:=W) (ty:=ty) (D:=w.heap.size) (o:=i*4) (dl:=n+m-i) (dc:=dc) (n:=m) (c:=vc) (a:=some ⟨VB,vo,none⟩) (l':=new) xx C2
   (by rw[hmin];exact hf W (by rw[hW];exact ajo VB hVl)) (by rw[hW];exact ajn) (by rw[hnl];omega) h1v
  rw[hmin,hnl,<-Ve]at h;exact h
 have aea:∀(W:World),W.heap=(W1.setRow w.heap.size R1).heap->∀ty dc sc,(Builtin.copy_ #[104,104] ty #[.slice (some ⟨w.heap.size,(i+m)*4,none⟩) (n+m-(i+m)) dc,.slice (some ⟨B,i*4,none⟩) (n-i) sc]).run prog W=.ok (goInt ((n-i:Nat))) (W.setRow w.heap.size R2):=λW hW ty dc sc=>by
  have hmin:Nat.min (n-i) (n+m-(i+m))=n-i:=by simp only[Nat.min_def];split<;>omega
  have hWB:W.heap[B]? = some (.cells C 278 (0,0)):=by rw[hW,setRow_other W1 w.heap.size B R1 (by omega),ajo B hBl];exact hC
  have hWN:W.heap[w.heap.size]? = some (.cells R1 278 (0,0)):=by rw[hW];exact setRow_heap W1 w.heap.size Xw R1 278 (0,0) ajn
  have h:=jh (P:=prog) (w:=W) (ty:=ty) (D:=w.heap.size) (o:=(i+m)*4) (dl:=n+m-(i+m)) (dc:=dc) (n:=n-i) (c:=sc) (a:=some ⟨B,i*4,none⟩) (l':=(C.toList.drop (i*4)).take ((n-i)*4)) xx C2
   (by rw[hmin];exact fW hWB (by omega)) hWN (by rw[qy];omega) (λv hv=>h1c v (by
    rw[List.mem_iff_getElem?]at hv ⊢;obtain⟨j,hj⟩:=hv;rw[List.getElem?_take]at hj;split at hj
    .rw[List.getElem?_drop]at hj;exact⟨i*4+j,by rw[List.getElem?_take_of_lt (by omega)];exact hj⟩
    .cases hj))
  rw[hmin,qy,show(i+m)*4+(n-i)*4=(n+m)*4 by omega,<-ZJ]at h;exact h
 refine(Bf B n c i VB vo m vc G w.heap.size R1 R2 w W1 hi hm hnc hroom vV hG1 ZR ad_ aea).mono ?_;rintro e' w'' ⟨rfl,rfl⟩;refine⟨G,rest,w.drawn+2,Nat.le_add_right _ _,hG1,hrl,rfl,?_⟩;have aec:R2=(((C.toList.take (n*4)).take (i*4)++new++(C.toList.take (n*4)).drop (i*4))++rest).toArray:=by
  rw[ZJ,Ve,aeb]
  congr 1
  have:=Pd C.toList Z rest new (i*4) (m*4) (n*4) (by omega) (by simpa using hcs) hnl (by rw[hZl];omega);rw[<-Nat.sub_mul,<-Nat.add_mul,<-Nat.add_mul]at this;rw[<-Nat.add_mul];exact this
 rw[ZQ,aec];have ed:∀(X:World)(g:Nat)(R:Array Value),X.drew.setRow g R=(X.setRow g R).drew:=λ_ _ _=>rfl;have ea:∀(A R:Array Value),(w.drew.alloc (.cells A 278 (0,0))).setRow w.heap.size R=w.drew.alloc (.cells R 278 (0,0)):=λA R=>World.setRow_alloc_new w.drew A R 278;rw[ed,setRow_setRow,ea];rfl
end Go.Proofs

namespace Go.Vai
open Go
variable {β:Type}{fl:β}{good:β->Prop}{P:Program}{φ:eW}{h:af}{w:World}
def Ey(fl:β)(e size:Nat)(base:Option Addr)(n cap i vb vo m vc:Nat)(h:af)(V:YYY β):β:=
 match Nat.ble (i+1) n,Nat.ble cap 1000000000 && Nat.ble (cap+1) (n+(m+1)),base with
 |true,true,some ⟨b,0,none⟩=>match Nat.beq vb b,h.bl.get b,h.bl.get vb with
  |false,some (.cells _ _ e' _),some (.cells ..)=>match Nat.beq e' e,Nat.ble (n+(m+1)) 1000000 with
   | true,true=>eN fl h size n (.slice (some ⟨b,0,none⟩) n cap) λold=>eN fl h size (m+1) (.slice (some ⟨vb,vo,none⟩) (m+1) vc) λnew=>
     match old.all dK && new.all dK with
     |true=>dh fl (old.take (i*size)++new++old.drop (i*size)) e true h λnb h=>V (.slice (some ⟨nb,0,none⟩) (n+(m+1)) aX) h
     |false=>fl
   |_,_=>fl
  |_,_,_=>fl
 |_,_,_=>fl
def r6(fl:β)(e size:Nat)(z:List Value)(args:List Value)(h:af)(V:YYY β):β:=
 match args with
 | [.slice base n cap,.int .i64 (.ofNat i),.slice (some ⟨vb,vo,none⟩) (m+1) vc]=>
  match Nat.beq i n with
  |true=>bD fl e size z false (.slice base n cap) (.slice (some ⟨vb,vo,none⟩) (m+1) vc) h V
  |false=>match Nat.beq cap aX with
   |false=>Ey fl e size base n cap i vb vo m vc h V
   |true=>match Nat.ble (i+1) n,Nat.beq cap aX,base with
    |true,true,some ⟨b,0,none⟩=>match Nat.beq vb b,h.bl.get b,h.bl.get vb with
     |false,some (.cells nn _ e' true),some (.cells ..)=>match Nat.beq e' e,Nat.ble (n+(m+1)) 1000000 with
      | true,true=>eN fl h size n (.slice base n cap) λold=>eN fl h size (m+1) (.slice (some ⟨vb,vo,none⟩) (m+1) vc) λnew=>
        match old.all dK && new.all dK with
        |true=>setBlock fl b (.dead nn e) h λh=>dh fl (old.take (i*size)++new++old.drop (i*size)) e true h λnb h=>V (.slice (some ⟨nb,0,none⟩) (n+(m+1)) aX) h
        |false=>fl
      |_,_=>fl
     |_,_,_=>fl
    |_,_,_=>fl
 |_=>fl
structure Bg(P:Program)(f:FuncId)(tS e k:Nat):Prop where
 enters:∀(args:Array Value)(w:World),(callFunc f args).run P w=.ok (.enter f args) w
 atEnd:∀(base:Option Addr)(n c VB vo m vc:Nat)(w:World)(r:Value)(w':World),0<m->n<=c->
  (Builtin.append_ #[tS,tS] tS #[.slice base n c,.slice (some ⟨VB,vo,none⟩) m vc]).run P w=.ok r w'->
  Calls P f #[.slice base n c,.int .i64 n,.slice (some ⟨VB,vo,none⟩) m vc] w λe w''=>e=.returned r/\w''=w'
 shift:∀(B n c i VB vo m vc:Nat)(C VC:Array Value)(e2:TypeId)(new:List Value)(w:World),B≠VB->i<n->0<m->n+m<=c->n+m<=1000000->
  w.heap[B]? = some (.cells C e (0,0))->w.heap[VB]? = some (.cells VC e2 (0,0))->c*k<=C.size->(∀w1:World,w1.heap[VB]? = w.heap[VB]?->(Builtin.firstCells k m (.slice (some ⟨VB,vo,none⟩) m vc)).run P w1=.ok new.toArray w1)->
  new.length=m*k->(∀v∈new,v.oneCell'=true)->(∀v∈C.toList.take (n*k),v.oneCell'=true)->
  Calls P f #[.slice (some ⟨B,0,none⟩) n c,.int .i64 i,.slice (some ⟨VB,vo,none⟩) m vc] w λe w''=>e=.returned (.slice (some ⟨B,0,none⟩) (n+m) c)/\
   ∃d,w.drawn<=d/\w''={ w.setRow B (((C.toList.take (n*k)).take (i*k)++new++(C.toList.take (n*k)).drop (i*k))++C.toList.drop ((n+m)*k)).toArray with drawn:=d }
 grow:∀(B n c i VB vo m vc:Nat)(C VC:Array Value)(e2:TypeId)(new:List Value)(w:World),B≠VB->i<n->0<m->n<=c->c<n+m->n+m<=1000000->
  w.heap[B]? = some (.cells C e (0,0))->w.heap[VB]? = some (.cells VC e2 (0,0))->n*k<=C.size->(∀w1:World,w1.heap[VB]? = w.heap[VB]?->(Builtin.firstCells k m (.slice (some ⟨VB,vo,none⟩) m vc)).run P w1=.ok new.toArray w1)->
  new.length=m*k->(∀v∈new,v.oneCell'=true)->(∀v∈C.toList.take (n*k),v.oneCell'=true)->
  Calls P f #[.slice (some ⟨B,0,none⟩) n c,.int .i64 i,.slice (some ⟨VB,vo,none⟩) m vc] w λe' w''=>∃dI rest d,w.drawn<=d/\n+m<=dI/\rest.length=(dI-(n+m))*k/\
   e'=.returned (.slice (some ⟨w.heap.size,0,none⟩) (n+m) dI)/\
   w''={ w.alloc (.cells (((C.toList.take (n*k)).take (i*k)++new++(C.toList.take (n*k)).drop (i*k))++rest).toArray e (0,0))with drawn:=d }
set_option maxHeartbeats 2000000 in
set_option maxRecDepth 100000 in
theorem B5(hfl:¬good fl){f tS e size:Nat}{z:List Value}(hI:Bg P f tS e size)(hz:Qg P e=some (z,size))(hr:HR P φ h w){base base':Option Addr}{n cap cap' i vb vo m vc Pf:Nat}{B6:Pl}(hs:VR φ (.slice base n cap) (.slice base' n cap'))(hpv:φ vb=some B6)(hv:VR φ (.slice (some ⟨vb,vo,none⟩) (m+1) vc) (.slice (some ⟨B6.B,vo,none⟩) (m+1) Pf)){V:YYY β}(hg:good (Ey fl e size base n cap i vb vo m vc h V)):wD good P φ h w V f #[.slice base' n cap',.int .i64 (.ofNat i),.slice (some ⟨B6.B,vo,none⟩) (m+1) Pf]:=by
 obtain⟨hz1,zn,Qw,NV⟩:=lY hz;unfold Ey at hg;split at hg<;>try cases hfl hg
 rename_i b hlt JN;simp only[Bool.and_eq_true]at JN;have hlt:i<n:=cU hlt;have hc1:cap<=1000000000:=cU JN.1;have hc2:cap<n+(m+1):=cU JN.2;obtain⟨pl,hp,rfl,rfl,hle⟩:∃pl,φ b=some pl/\cap'=cap/\base'=some ⟨pl.B,0,none⟩/\n<=cap:=by
  cases hs with
  |slice hp hn hc=>exact⟨_,hp,rfl,rfl,hn⟩
  |bW hp hn hc=>exact absurd hc1 YYQ
  |di=>exact absurd hc1 YYQ
 split at hg<;>try cases hfl hg
 rename_i nn cc e' op nv cv ev opv hne hb hvb;have hne:=oJ hne;split at hg<;>try cases hfl hg
 rename_i hee vV;have hee:=cD hee;subst hee;have vV:n+(m+1)<=1000000:=cU vV;obtain⟨C,hC,ye,hn2,Vw,hcell⟩:=hr.rowAt hb hp;obtain⟨VC,ZS,hv1,_,_,_⟩:=hr.rowAt hvb hpv;have Xx:pl.B≠B6.B:=λhB=>hne (hr.inj b vb _ _ pl B6 hb hvb trivial trivial hp hpv hB).symm;obtain⟨old,k1,k3,k5,k6⟩:=jN hfl hb hg;obtain⟨new,new',n1,n2,n3,n4⟩:=gL hfl hr k1 hv ⟨_,_,_,rfl,Nat.le_refl _⟩;split at n1<;>try exact absurd n1 hfl
 rename_i uk;simp only[Bool.and_eq_true]at uk;unfold dh at n1;obtain⟨m1,m2⟩:=kV hfl n1;obtain⟨m3,m4⟩:=dL hfl m2;have hnn:n*size<=nn:=by
  have:=k5 (by intro hnil;rw[hnil]at k3;simp at k3;rcases k3.symm with h0;have:0<n*size:=Nat.mul_pos YYZ NV;omega);omega
 have LR:n*size<=C.size:=Nat.le_trans hnn ye;have hold:F2 (VR φ) old (C.toList.take (n*size)):=by
  refine F2.mB (by simp;omega) λj v v' e1 e2=>?_;have hj:j<n*size:=by rw[<-k3];exact(List.getElem?_eq_some_iff.mp e1).1
  have h1:=k6 j v e1;rw[Nat.zero_add]at h1;obtain⟨v2,h2,h3⟩:=hcell j v h1 YYZ;rw[List.getElem?_take_of_lt hj]at e2;rw[Array.getElem?_toList,h2]at e2;cases e2;exact h3
 have hmid:F2 (VR φ) (old.take (i*size)++new++old.drop (i*size)) ((C.toList.take (n*size)).take (i*size)++new'++(C.toList.take (n*size)).drop (i*size)):=
  ((hold.take _).append n2).append (hold.drop _)
 have h1v:=uj n2 uk.2;have h1c:=uj hold uk.1;have hnl:new'.length=(m+1)*size:=by rw[<-n2.length,n3]
 have Nn:((C.toList.take (n*size)).take (i*size)++new'++(C.toList.take (n*size)).drop (i*size)).length=(n+(m+1))*size:=by
  have hin:i*size<=n*size:=Nat.mul_le_mul_right _ YYZ;rw[Nat.add_mul];simp[hnl];omega
 obtain⟨l2,_,v4,v5,_⟩:=jN hfl hvb k1;have hvs:vo+(m+1)*size<=VC.size:=by
  have hpos:0<(m+1)*size:=Nat.mul_pos YYZ NV;have:=v5 (by intro hnil;rw[hnil]at v4;simp only[List.length_nil]at v4;omega);rw[v4]at this;exact Nat.le_trans this hv1
 have hf:∀w1:World,w1.heap[B6.B]? = w.heap[B6.B]?->(Builtin.firstCells size (m+1) (.slice (some ⟨B6.B,vo,none⟩) (m+1) Pf)).run P w1=.ok new'.toArray w1:=by
  intro w1 hw1;have h1:=n4 w rfl;rw[fW ZS hvs]at h1;have h2:=fW (P:=P) (w:=w1) (n:=m+1) (c:=Pf) (by rw[hw1];exact ZS) hvs;have h3:=(Result.ok.inj h1).1;rw[h2,h3]
 refine⟨hI.enters _ _,Calls.mono (hI.grow pl.B n cap' i B6.B vo (m+1) Pf C VC ev new' w Xx hlt YYZ hle hc2 vV hC ZS LR hf hnl h1v h1c) ?_⟩;rintro e2 w'' ⟨dI,rest,d,LU,j1,j2,rfl,rfl⟩;have NW:=zl (P:=P) hmid m1 e' ⟨w.heap.size,dI*size,size⟩ rest true (λ_=>⟨by
  rw[List.length_append,Nn,j2,<-Nat.add_mul];exact congrArg (λx=>x*size) (Nat.add_sub_cancel' j1),zn,NV⟩)
 obtain⟨q1,q3⟩:=hr.fresh m3 (dI*size) size NW trivial;exact⟨_,_,_,_,rfl,m4,.bW (fo _ _ _) j1 (by simp),⟨q1.obj,q1.dom,q1.keys,q1.Qp,q1.inj,q1.lo⟩,⟨q3.sub,q3.new,q3.nx,q3.size,q3.BC,q3.ET,q3.tape,q3.os,q3.output,q3.fz,q3.lo,q3.JL,q3.JM,LU⟩⟩
set_option maxHeartbeats 2000000 in
set_option maxRecDepth 100000 in
theorem B7(hfl:¬good fl){f tS e size:Nat}{z:List Value}{inf:TypeInfo}(hI:Bg P f tS e size)(hu:P.underlying tS=some (.slice e))(hz:Qg P e=some (z,size))(hi:P.info? e=some inf)(hby:inf.bytes<=10000)(hr:HR P φ h w){args args':List Value}(ha:F2 (VR φ) args args'){V:YYY β}(hg:good (r6 fl e size z args h V)):wD good P φ h w V f args'.toArray:=by
 obtain⟨hz1,zn,Qw,NV⟩:=lY hz;unfold r6 at hg;split at hg<;>try cases hfl hg
 rename_i base n cap i vb vo m vc;cases ha with
 |cons hs ha=>
 cases ha with
 |cons hi' ha=>
 cases ha with
 |cons hv ha=>
 cases ha;cases hi';rename_i s' v';obtain⟨base',cap',hs'⟩:∃base' cap',s'=.slice base' n cap':=by cases hs<;>exact⟨_,_,rfl⟩
 have hle:n<=cap':=by subst hs';cases hs<;>first|assumption|omega
 obtain⟨B6,Pf,hpv,xE⟩:∃B6 Pf,φ vb=some B6/\v'=.slice (some ⟨B6.B,vo,none⟩) (m+1) Pf:=by
  cases hv with
  |slice hp _ _=>exact⟨_,_,hp,rfl⟩
  |bW hp _ _=>exact⟨_,_,hp,rfl⟩
 split at hg
 .rename_i hin;have hin:=cD hin;subst hin;obtain⟨φ',v,r,h',w',g1,g2,g3,g4,g5⟩:=sF (ts:=#[tS,tS]) (ty:=tS) (xd:=.slice e) hfl rfl hu hz hi hby rfl hu hr hg hs hv;subst hs';subst xE;refine⟨hI.enters _ _,Calls.mono (hI.atEnd base' i cap' B6.B vo (m+1) Pf w r w' YYZ hle g5) ?_⟩;rintro e' w'' ⟨rfl,rfl⟩;exact⟨φ',v,r,h',rfl,g1,g2,g3,g4⟩
 .split at hg
  .subst hs';subst xE;exact B5 hfl hI hz hr hs hpv hv hg
  split at hg<;>try cases hfl hg
  rename_i b hlt hop;have hlt:i<n:=cU hlt;have hop:=cD hop;subst hop;split at hg<;>try cases hfl hg
  rename_i nn cc e' nv cv ev opv hne hb hvb;have hne:=oJ hne;split at hg<;>try cases hfl hg
  rename_i hee vV;have hee:=cD hee;subst hee;have vV:n+(m+1)<=1000000:=cU vV;obtain⟨pl,hp,hcap,rfl⟩:∃pl,φ b=some pl/\cap'*pl.e+0=pl.sz/\base'=some ⟨pl.B,0,none⟩:=by
   subst hs';cases hs with
   |slice hp hn hc=>exact absurd hc (Nat.lt_irrefl _)
   |bW hp hn hc=>exact⟨_,hp,hc,rfl⟩
  obtain⟨C,hC,ye,hn2,Vw,hcell⟩:=hr.rowAt hb hp;obtain⟨VC,ZS,hv1,_,_,_⟩:=hr.rowAt hvb hpv;obtain⟨o1,o2,o3⟩:=Vw rfl;have Xx:pl.B≠B6.B:=λhB=>hne (hr.inj b vb _ _ pl B6 hb hvb trivial trivial hp hpv hB).symm;have hpe:pl.e=size:=by rw[zn]at o2;exact(Option.some.inj o2).symm
  rw[hpe]at hcap;obtain⟨old,k1,k3,k5,k6⟩:=jN hfl hb hg;obtain⟨new,new',n1,n2,n3,n4⟩:=gL hfl hr k1 hv ⟨_,_,_,rfl,Nat.le_refl _⟩;split at n1<;>try exact absurd n1 hfl
  rename_i uk;simp only[Bool.and_eq_true]at uk;obtain⟨hlo,n1⟩:=bH hfl n1;unfold dh at n1;obtain⟨m1,m2⟩:=kV hfl n1;obtain⟨m3,m4⟩:=dL hfl m2;have hcs:cap'*size<=C.size:=by omega
  have LR:n*size<=C.size:=Nat.le_trans (Nat.mul_le_mul_right _ hle) hcs;have hnn:n*size<=nn:=by
   have:=k5 (by intro hnil;rw[hnil]at k3;simp at k3;rcases k3.symm with h0;have:0<n*size:=Nat.mul_pos YYZ NV;omega);omega
  have hold:F2 (VR φ) old (C.toList.take (n*size)):=by
   refine F2.mB (by simp;omega) λj v v' e1 e2=>?_;have hj:j<n*size:=by rw[<-k3];exact(List.getElem?_eq_some_iff.mp e1).1
   have h1:=k6 j v e1;rw[Nat.zero_add]at h1;obtain⟨v2,h2,h3⟩:=hcell j v h1 YYZ;rw[List.getElem?_take_of_lt hj]at e2;rw[Array.getElem?_toList,h2]at e2;cases e2;exact h3
  have hmid:F2 (VR φ) (old.take (i*size)++new++old.drop (i*size)) ((C.toList.take (n*size)).take (i*size)++new'++(C.toList.take (n*size)).drop (i*size)):=
   ((hold.take _).append n2).append (hold.drop _)
  have h1v:=uj n2 uk.2;have h1c:=uj hold uk.1;have hnl:new'.length=(m+1)*size:=by rw[<-n2.length,n3]
  have Nn:((C.toList.take (n*size)).take (i*size)++new'++(C.toList.take (n*size)).drop (i*size)).length=(n+(m+1))*size:=by
   have hin:i*size<=n*size:=Nat.mul_le_mul_right _ YYZ;rw[Nat.add_mul];simp[hnl];omega
  subst hs';subst xE;obtain⟨l2,_,v4,v5,_⟩:=jN hfl hvb k1;have hvs:vo+(m+1)*size<=VC.size:=by
   have hpos:0<(m+1)*size:=Nat.mul_pos YYZ NV;have:=v5 (by intro hnil;rw[hnil]at v4;simp only[List.length_nil]at v4;omega);rw[v4]at this;exact Nat.le_trans this hv1
  have hf:∀w1:World,w1.heap[B6.B]? = w.heap[B6.B]?->(Builtin.firstCells size (m+1) (.slice (some ⟨B6.B,vo,none⟩) (m+1) Pf)).run P w1=.ok new'.toArray w1:=by
   intro w1 hw1;have h1:=n4 w rfl;rw[fW ZS hvs]at h1;have h2:=fW (P:=P) (w:=w1) (n:=m+1) (c:=Pf) (by rw[hw1];exact ZS) hvs;have h3:=(Result.ok.inj h1).1;rw[h2,h3]
  by_cases hroom:n+(m+1)<=cap'
  ·refine⟨hI.enters _ _,Calls.mono (hI.shift pl.B n cap' i B6.B vo (m+1) Pf C VC ev new' w Xx hlt YYZ hroom vV hC ZS hcs hf hnl h1v h1c) ?_⟩;rintro e2 w'' ⟨rfl,d,LU,rfl⟩;have hrow:=setRow_heap w pl.B C ((((C.toList.take (n*size)).take (i*size)++new'++(C.toList.take (n*size)).drop (i*size))++C.toList.drop ((n+(m+1))*size)).toArray) e' _ hC;have NW:=zl (P:=P) hmid m1 e' pl (C.toList.drop ((n+(m+1))*size)) true (λ_=>⟨by
    have:(n+(m+1))*size<=C.size:=Nat.le_trans (Nat.mul_le_mul_right _ hroom) hcs;rw[List.length_append,Nn];simp;omega,o2,o3⟩)
   obtain⟨q1,q2⟩:=hr.QC hlo (ob:=.cells (old.take (i*size)++new++old.drop (i*size)).length (lay (old.take (i*size)++new++old.drop (i*size)) .nil 0) e' true) (w':={ w.setRow pl.B ((((C.toList.take (n*size)).take (i*size)++new'++(C.toList.take (n*size)).drop (i*size))++C.toList.drop ((n+(m+1))*size)).toArray)with drawn:=d }) hb hp m3
    (setRow_size _ _ _) (λk hk=>setRow_other _ _ _ _ hk) (by show OR P φ _ pl ((w.setRow pl.B _).heap[pl.B]?);rw[hrow];exact NW) (by show OR P φ _ pl ((w.setRow pl.B _).heap[pl.B]?);rw[hrow];exact⟨YYZ,hn2,o2,o3⟩) rfl rfl rfl trivial LU
   exact⟨_,_,_,_,rfl,m4,.bW (fo _ _ _) hroom (by rw[hpe];exact hcap),q1,q2⟩
  ·refine⟨hI.enters _ _,Calls.mono (hI.grow pl.B n cap' i B6.B vo (m+1) Pf C VC ev new' w Xx hlt YYZ hle YYZ vV hC ZS LR hf hnl h1v h1c) ?_⟩;rintro e2 w'' ⟨dI,rest,d,LU,j1,j2,rfl,rfl⟩;have Fq:=hr.turn hlo (w':=w) (o:=.dead nn e') hp ⟨_,hb,trivial⟩ rfl (λ_ _=>rfl) (by rw[hC];exact⟨YYZ,hn2,o2,o3⟩) rfl rfl rfl (.inr id);have NW:=zl (P:=P) hmid m1 e' ⟨w.heap.size,dI*size,size⟩ rest true (λ_=>⟨by
    rw[List.length_append,Nn,j2,<-Nat.add_mul];exact congrArg (λx=>x*size) (Nat.add_sub_cancel' j1),zn,NV⟩)
   obtain⟨q1,q2⟩:=Fq.1.fresh m3 (dI*size) size NW trivial;have q3:=Fq.2.trans q2;exact⟨_,_,_,_,rfl,m4,.bW (fo _ _ _) j1 (by simp),⟨q1.obj,q1.dom,q1.keys,q1.Qp,q1.inj,q1.lo⟩,⟨q3.sub,q3.new,q3.nx,q3.size,q3.BC,q3.ET,q3.tape,q3.os,q3.output,q3.fz,q3.lo,q3.JL,q3.JM,LU⟩⟩
end Go.Vai

namespace Go.Proofs
open Go.Vai Go.Clashes
open Tryz (prog)
theorem Pg(args:Array Value)(w:World):(callFunc 205 args).run prog w=.ok (.enter 205 args) w:=by
 have hb:Tryz.f205.body.isNone=false:=by kernel_rfl
 have hn : (Tryz.f205.name == "runtime.NumGoroutine") = false := by kernel_rfl
 have hn' : Tryz.f205.name ≠ "runtime.NumGoroutine" := by simpa using hn
 simp[callFunc,Tryz.func205,hn',hb];cases h:Tryz.f205.body with
 |none=>rw[h]at hb;cases hb
 |some c=>simp
theorem Ph{inf:TypeInfo}{z:Value}(Xv:prog.info? 278=some inf)(hz:inf.zero=some z)(hzc:z.cells.size=4)(hby:inf.bytes<=10000)(h3:prog.underlying 3=some (.int .i64)):Bg prog 205 104 278 4 where
 enters:=Pg
 atEnd:=λbase n c VB vo m vc w r w' hm hle hr=>Ll base n c VB vo m vc w r w' hm hle hr
 shift:=λB n c i VB vo m vc C VC e2 new w hne hi hm hroom vV hC hV hcs hf hnl h1v h1c=>Lm B n c i VB vo m vc C VC e2 new w hne hi hm hroom vV hC hV hcs hf hnl h1v h1c
 grow:=λB n c i VB vo m vc C VC e2 new w hne hi hm hnc hroom vV hC hV hcs hf hnl h1v h1c=>Pe B n c i VB vo m vc C VC e2 new w hne hi hm hnc hroom vV hC hV hcs hf hnl h1v h1c Xv hz hzc hby h3
def iZ(t r:Int)(p:L4):Bool:=decide (p.t=t/\p.r=r)
theorem ajp(t r:Int)(p:L4)(b:Nat)(h:af)(V:KQ)(hlo:h.lo<=h.nx)(hb:b<h.nx)(hg:h.bl.get b=some (ah [YYX t,YYX r] 26 false))(hk:∀h',Le h h'->V (.bool (iZ t r p)) h'):aq prog 212 [xw p,av b] h V:=by
 apply YYW;rw[abR];simp(disch:=try exact Y)only[Wz,cC,hg,iR];exact hk _ ((Le.refl h).new _)
theorem ajq(L:List L4)(t r:Int)(h:af)(v:Value)(V:KQ)(hv:Sl cC h v L)(hlen:L.length<=1000000)(hlo:h.lo<=h.nx)(hk:∀h',Le h h'->V (YYX (gG (L.findIdx? (iZ t r)))) h'):aq prog 170 [v,dJ t r] h V:=by
 apply YYW;rw[abx];simp(disch:=try exact Y)only[Wz,dJ];have hle:=(Le.refl h).new (ah [YYX t,YYX r] 26 false);refine Bd L (iZ t r) _ v _ _ (hv.le hle) hlen ?_ λh' hl=>hk h' (hle.trans hl);intro p hp h1 κ1 qy cZ;have ye:=qy.nx;have hg1:=qy.get;have P6:=qy.lo;dsimp only at ye hg1 P6;simp(disch:=try exact Y)only[Wz];exact ajp t r p _ h1 κ1 YYZ YYZ (by rw[hg1 _ (Nat.lt_succ_self _),T.az]) cZ
def aY(L:List L4)(t r:Int):Int:=match L.find? (iZ t r)with|some p=>p.m|none=>0
theorem qb(L:List L4)(F:L4->Bool):(L.findIdx? F=none/\L.find? F=none)\/∃i p,L.findIdx? F=some i/\L[i]? = some p/\F p=true/\L.find? F=some p:=by
 induction L with
 |nil=>exact .inl ⟨rfl,rfl⟩
 |cons a L ih=>
  cases hF:F a with
  |true=>exact .inr ⟨0,a,by simp[List.findIdx?_cons,hF],rfl,hF,by simp[List.find?,hF]⟩
  |false=>
   rcases ih with⟨h1,h2⟩|⟨i,p,h1,h2,h3,h4⟩
   .exact .inl ⟨by simp[List.findIdx?_cons,hF,h1],by simp[List.find?,hF,h2]⟩
   .exact .inr ⟨i+1,p,by simp[List.findIdx?_cons,hF,h1],by simpa using h2,h3,by simp[List.find?,hF,h4]⟩
theorem jS(L:List L4)(t r:Int)(h:af)(v:Value)(V:KQ)(hv:Sl cC h v L)(hlen:L.length<=1000000)(hlo:h.lo<=h.nx)(hk:∀h',Le h h'->V (YYX (aY L t r)) h'):aq prog 125 [v,dJ t r] h V:=by
 apply YYW;rw[abe];simp(disch:=try exact Y)only[Wz,dJ];have hle:=(Le.refl h).new (ah [YYX t,YYX r] 26 false);refine ajq L t r _ v _ (hv.le hle) hlen (by show h.lo<=h.nx+1;omega) ?_;intro h1 qy;have hle1:=hle.trans qy;have ye:=hle1.nx;rcases qb L (iZ t r)with⟨h2,h3⟩|⟨i,p,h2,h3,h4,h5⟩
 .simp only[h2,gG];simp(disch:=try exact Y)only[Wz];have:=hk h1 hle1;simpa only [aY,h3]using this
 .simp only[h2,gG];obtain⟨b,o,hb,om,mK⟩:=ldP hv i h3;simp(disch:=try exact Y)only[Wz,om,hle1.get,mK];have:=hk h1 hle1;simpa only [aY,h5]using this
def zHd:List Value:=match Qg prog 278 with|some (z,_)=>z|none=>[]
theorem aed:Qg prog 278=some (zHd,4):=by kernel_rfl
theorem aee:(match prog.info? 278 with|some i=>(match i.zero with|some z=>Nat.beq z.cells.size 4 && Nat.ble i.bytes 10000|none=>false)|none=>false)=true:=by decide +kernel
theorem Xy:∃i z,prog.info? 278=some i/\i.zero=some z/\z.cells.size=4/\i.bytes<=10000:=by
 have h:=aee;split at h<;>try contradiction
 rename_i i hi;split at h<;>try contradiction
 rename_i z hz;simp only[Bool.and_eq_true]at h;exact⟨i,z,hi,hz,cD h.1,cU h.2⟩
theorem aef{args:List Value}{h:af}{V:KQ}(hg:r6 False 278 4 zHd args h V):aq prog 205 args h V:=by
 intro φ w args' ha hr;obtain⟨i,z,h1,h2,h3,h4⟩:=Xy;exact B7 (good:=ok) uw (Ph h1 h2 h3 h4 Tryz.underlying3) Tryz.underlying104 aed h1 h4 hr ha hg
theorem T0(L:List L4):(L.flatMap cC).length=L.length*4:=bB c9 L
theorem Pj(L:List L4):(L.flatMap cC).all dK=true:=by
 rw[List.all_flatMap];simp only[List.all_eq_true];intro x _;exact List.all_eq_true.1 (q9 x)
theorem T1{a h:af}{v:Value}{L:List L4}{p:L4}{i:Nat}{vb vc:Nat}(hi:i<=L.length)(ho:K0 a h v L)(hle:Le a h)(hlen:L.length<=100000)(hlo:h.lo<=h.nx)(hvb:h.bl.get vb=some (ah (cC p) 278 false))(hvn:vb<h.nx)(hne:i<L.length->∀b n c,v=YYU b n c->vb≠b)(V:KQ)(hk:∀v' h',K0 a h' v' (L.take i++[p]++L.drop i)->Le a h'->V v' h'):aq prog 205 [v,YYX (i:Int),YYU vb 1 vc] h V:=by
 refine aef ?_;have hx:Sl cC h (YYU vb 1 vc) [p]:=⟨_,vc,rfl,λ_=>⟨vb,0,rfl,hvn,by rw[hvb];simpa using Has.all⟩⟩
 by_cases he:i=L.length
 ·subst he;have key:bD False 278 4 zHd false v (YYU vb 1 vc) h V:=by
   refine d_ (enc:=cC) (a:=a) (M:=[p]) c9 q9 YYZ YYZ ho hx hle (by simp;omega) hlo _ ?_;intro v' h' ho' hl' _ _;refine hk v' h' ?_ hl';simpa using ho'
  have fin:∀(base:Option Addr)(cap:Nat),v=.slice base L.length cap->r6 False 278 4 zHd [v,YYX (L.length:Int),YYU vb 1 vc] h V:=by
   rintro base cap rfl;unfold r6
   show(match Nat.beq L.length L.length with|true=>_|false=>_)
   rw[Nat.beq_refl];exact key
  rcases ho with⟨rfl,rfl|⟨b,o,rfl⟩⟩|⟨b,rfl,_⟩
  .exact fin _ _ rfl
  .exact fin _ _ rfl
  .exact fin _ _ rfl
 .have hlt:i<L.length:=by omega
  rcases ho with⟨rfl,_⟩|⟨b,rfl,h1,h2,h3,h4⟩
  .simp at hlt
  .have hne:=hne hlt b _ _ rfl;unfold r6
   show(match Nat.beq i L.length with|true=>_|false=>_)
   have e1:Nat.beq i L.length=false:=by
    cases hq:Nat.beq i L.length with
    |false=>rfl
    |true=>exact absurd (cD hq) he
   have e2:Nat.beq aX aX=true:=Nat.beq_refl _;have e3:Nat.ble (i+1) L.length=true:=Nat.ble_eq_true_of_le hlt;have e4:Nat.beq vb b=false:=by
    cases hq:Nat.beq vb b with
    |false=>rfl
    |true=>exact absurd (cD hq) hne
   have e5:Nat.ble (L.length+(0+1)) 1000000=true:=Nat.ble_eq_true_of_le YYZ;have hh1:Has (h.bl.get b) 0 (L.flatMap cC):=by rw[h4];exact Has.all
   have hh2:Has (h.bl.get vb) 0 (cC p):=by rw[hvb];exact Has.all
   have f1:∀V:List Value->Prop,eN False h 4 L.length (YYU b L.length aX) V=V (L.flatMap cC):=λV=>jl hh1 _ _ _ _ V (T0 L).symm;have f2:∀V:List Value->Prop,eN False h 4 (0+1) (YYU vb (0+1) vc) V=V (cC p):=λV=>jl hh2 _ _ _ _ V rfl;have e6:((L.flatMap cC).all dK && (cC p).all dK)=true:=by rw[Pj];rfl
   have e7:Nat.beq 278 278=true:=rfl;have g4:=h4;have gvb:=hvb;simp only[ah]at g4 gvb;simp only[e1,e2,e3,e4,g4,gvb,e5,e7,f1,f2,e6];rw[cq _ _ _ _ h3];unfold dh;have hfl:((L.flatMap cC).take (i*4)++cC p++(L.flatMap cC).drop (i*4))=(L.take i++[p]++L.drop i).flatMap cC:=by
    rw[pZ c9,p7 c9];simp
   rw[hfl,iQ _ _ _ _ (by rw[T0];simp;omega),dS];refine hk _ _ (.inr ⟨h.nx,?_,hle.nx,Nat.lt_succ_self _,hlo,T.az _ _ _⟩) ((hle.set h1 _).new _);rw[show(L.take i++[p]++L.drop i).length=L.length+(0+1)by simp;omega]
def tP(p x:L4):Bool:=decide (0<q8 x.t x.r p.t p.r)
def de(L:List L4)(p:L4):List L4:=match L.findIdx? (iZ p.t p.r)with
 |some i=>L.set i p
 |none=>match L.findIdx? (tP p)with
  |some i=>L.take i++[p]++L.drop i
  |none=>L++[p]
theorem aeg(p x:L4)(b:Nat)(h:af)(V:KQ)(hlo:h.lo<=h.nx)(hb:b<h.nx)(hg:h.bl.get b=some (ah (cC p) 278 false))(hk:∀h',Le h h'->V (.bool (tP p x)) h'):aq prog 204 [xw x,av b] h V:=by
 apply YYW;rw[abO];simp(disch:=try exact Y)only[Wz,cC,hg];refine nT _ _ _ _ ?_;have:=hk _ ((Le.refl h).new (ah (cC x) 278 false));by_cases h1:0<q8 x.t x.r p.t p.r
 .simp(disch:=try exact Y)only[Wz];simp only[tP,bf h1,cC]at this;exact this
 .simp(disch:=try exact Y)only[Wz];simp only[tP,aZ h1,cC]at this;exact this
def k_(h:af)(v:Value)(L:List L4):Prop:=Sl cC h v L/\yL 278 h v/\lE 8 v v=true
theorem k_.le{h h':af}{v:Value}{L:List L4}(s:k_ h v L)(l:Le h h'):k_ h' v L:=⟨s.1.le l,s.2.1.le l,s.2.2⟩
theorem k_.own{a h:af}{v:Value}{L:List L4}(o:K0 a h v L):k_ h v L:=⟨o.sl,yL.own o,o.same⟩
theorem k_.nil(h:af):k_ h (.slice none 0 0) []:=⟨Sl.nil _ _ _,(λb o n c e=>by cases e),pY _ _⟩
theorem k_.cell{h:af}{v:Value}{L:List L4}(s:k_ h v L):∃x c,v=.slice x L.length c:=by
 obtain⟨x,c,rfl,_⟩:=s.1;exact⟨x,c,rfl⟩
theorem k_.keep{h h':af}{v:Value}{L:List L4}(s:k_ h v L)(hn:h.nx<=h'.nx)(hg:∀c vs op,c<h.nx->h.bl.get c=some (ah vs 278 op)->h'.bl.get c=h.bl.get c):k_ h' v L:=by
 obtain⟨⟨x,cap,rfl,h2⟩,t,q⟩:=s;refine⟨⟨x,cap,rfl,λhn0=>?_⟩,λb o n c hv hn0=>?_,q⟩
 .obtain⟨b,o,rfl,h3,h4⟩:=h2 hn0;obtain⟨h1,vs,op,h5⟩:=t b o _ cap rfl (by intro h0;exact hn0 (List.eq_nil_of_length_eq_zero h0));exact⟨b,o,rfl,YYZ,by rw[hg b vs op h1 h5];exact h4⟩
 .obtain⟨h1,vs,op,h5⟩:=t b o n c hv hn0;exact⟨YYZ,vs,op,(hg b vs op h1 h5).trans h5⟩
theorem Np(L:List L4)(p:L4)(h:af)(v:Value)(V:KQ)(hv:Sl cC h v L)(hlen:L.length<=100000)(hlo:h.lo<=h.nx)(hk:∀v' h',k_ h' v' (de L p)->Le h h'->V v' h'):aq prog 165 [v,xw p] h V:=by
 apply YYW;rw[abu];simp(disch:=try exact Y)only[Wz,cC];obtain⟨hA,bg,aS,gA,dP,dQ⟩:=jH h (ah [YYX p.x,YYX p.t,YYX p.r,YYX p.m] 278 false);rw[<-bg];clear bg;refine Be L hA v _ (hv.le aS) YYZ YYZ ?_;intro v2 h2 mE hle2;have n2:=hle2.nx;have l2:=hle2.lo;have g2:=(hle2.get h.nx YYZ).trans gA;simp(disch:=try exact Y)only[Wz,g2];refine ajq L p.t p.r h2 v2 _ mE.sl YYZ YYZ ?_;intro h3 bP;have n3:=bP.nx;have l3:=bP.lo;have g3:=(bP.get h.nx YYZ).trans g2;have nN:=hle2.trans bP;rcases qb L (iZ p.t p.r)with⟨f1,_⟩|⟨i,q,f1,f2,_,_⟩
 .simp only[f1,gG];simp(disch:=try exact Y)only[Wz,GH];refine Bd L (tP p) h3 v2 _ _ (mE.sl.le bP) YYZ ?_ ?_
  .intro x hx h4 κ4 cI Cp;have n4:=cI.nx;have l4:=cI.lo;simp(disch:=try exact Y)only[Wz];exact aeg p x h.nx h4 κ4 YYZ YYZ ((cI.get h.nx YYZ).trans g3) Cp
  .intro h4 cI;have n4:=cI.nx;have l4:=cI.lo;have g4:=(cI.get h.nx YYZ).trans g3;have oZ:=nN.trans cI;refine⟨λl h'=>h4=h'/\∃j:Nat,an l 4=YYX (j:Int)/\j<=L.length/\L.take j++[p]++L.drop j=de L p,?_,?_⟩
   .rcases qb L (tP p)with⟨e1,_⟩|⟨j,q,e1,e2,_,_⟩
    .simp only[e1,gG];simp(disch:=try exact Y)only[Wz,mE.sl.len];exact⟨trivial,L.length,rfl,Nat.le_refl _,by simp[de,f1,e1]⟩
    .simp only[e1,gG];simp(disch:=try exact Y)only[Wz];have hj:=(List.getElem?_eq_some_iff.1 e2).1;exact⟨trivial,j,rfl,YYZ,by simp[de,f1,e1]⟩
   .rintro l h' ⟨rfl,j,hs,hj,hput⟩;simp(disch:=try exact Y)only[Wz,hs,g4];refine T1 (a:=hA) (L:=L) (p:=p) hj ((mE.le (bP.trans cI)).le ((Le.refl _).new _)) ((oZ).new _) hlen (by show h4.lo<=h4.nx+1;omega) (T.az _ _ _) (Nat.lt_succ_self _) ?_ _ ?_
    .intro hlt b n c e;subst e;rcases mE with⟨e,_⟩|⟨b',e,_,b2,_⟩
     .subst e;simp at hlt
     .cases e;have:=(bP.trans cI).nx;omega
    .intro v' h5 uV fQ;rw[hput]at uV;exact hk v' h5 (.own uV) (aS.trans fQ)
 .simp only[f1,gG];have hi:i<L.length:=(List.getElem?_eq_some_iff.1 f2).1;have ta:=mE.le bP;rcases ta with⟨rfl,_⟩|⟨b,rfl,b1,b2,b3,b4⟩
  .simp at hi
  .have hfl:=T0 L;have DJ:=tr c9 L i p hi;simp only[cC]at DJ;simp(disch:=try exact Y)only[Wz,g3,br,b4,DJ];have hput:de L p=L.set i p:=by simp only[de,f1]
   rw[hput]at hk;refine hk _ _ ⟨⟨_,aX,by rw[List.length_set],λ_=>⟨b,0,rfl,b2,by rw[T.az];exact Has.all⟩⟩,λb' o' n' c' e _=>?_,iD _ _ _ _⟩ (aS.trans ((nN).set b1 _));cases e;exact⟨b2,_,_,T.az _ _ _⟩
def bU(L:List L4)(t r:Int):List L4:=L.filter λp=>!iZ t r p
theorem Xz(t r:Int)(p:L4)(b:Nat)(h:af)(V:KQ)(hlo:h.lo<=h.nx)(hb:b<h.nx)(hg:h.bl.get b=some (ah [YYX t,YYX r] 26 false))(hk:∀h',Le h h'->V (.bool (iZ t r p)) h'):aq prog 216 [xw p,av b] h V:=by
 apply YYW;rw[abT];simp(disch:=try exact Y)only[Wz,cC,hg,iR];exact hk _ ((Le.refl h).new _)
theorem Ez(L:List L4)(t r:Int)(h:af)(v:Value)(V:KQ)(hv:Sl cC h v L)(hlen:L.length<=100000)(hlo:h.lo<=h.nx)(hk:∀v' h',k_ h' v' (bU L t r)->Le h h'->V v' h'):aq prog 176 [v,dJ t r] h V:=by
 apply YYW;rw[abD];simp(disch:=try exact Y)only[Wz,dJ];obtain⟨hA,bg,aS,gA,dP,dQ⟩:=jH h (ah [YYX t,YYX r] 26 false);rw[<-bg];clear bg;refine Be L hA v _ (hv.le aS) YYZ YYZ ?_;intro v2 h2 mE hle2;have n2:=hle2.nx;have l2:=hle2.lo;refine Pc hA h2 L (iZ t r) v2 _ _ hle2 mE hlen YYZ ?_ ?_
 .intro p h3 κ3 bP _ uv;have n3:=bP.nx;have l3:=bP.lo;simp(disch:=try exact Y)only[Wz];exact Xz t r p h.nx h3 κ3 YYZ YYZ ((bP.get h.nx YYZ).trans gA) uv
 .intro v' h3 hs RF bP _ ht;refine hk v' h3 ⟨hs,ht,?_⟩ (aS.trans bP);rcases RF with⟨_,rfl⟩|⟨_,b,o,rfl⟩|⟨b,o,cap,rfl,_⟩|⟨b,vs,n,rfl,_⟩
  .exact pY _ _
  .exact iD _ _ _ _
  .exact iD _ _ _ _
  .exact iD _ _ _ _
theorem aeh(a0 a1:Value)(h:af)(V:KQ):aW prog 256 [a0,a1] h V=ez prog 3 2 a0 a1 h V:=by kernel_rfl
theorem aei(a0 a1:Value)(h:af)(V:KQ):aW prog 209 [a0,a1] h V=fu prog 3 256 a0 a1 h V:=by kernel_rfl
theorem Jf(L:List N2)(F:N2->Bool)(h:af)(v fv:Value)(V:KQ)(hv:Sl fD h v L)(hlen:L.length<=1000000)(hF:∀p,p∈L->∀(h1:af)(κ1:Value->af->Prop),Le h h1->(∀h2,Le h1 h2->κ1 (.bool (F p)) h2)->fq prog fv [yj fD p] h1 κ1)(hk:∀h',Le h h'->V (.bool (L.any F)) h'):aq prog 209 [v,fv] h V:=i_ mixed jd aeh aei L F h v fv V hv hlen hF hk
def sO(a m:Int):Bool:=decide (a=6) || ((decide (a=3) || decide (a=4) || decide (a=5)) && (decide (m=1) || decide (m=3)))
theorem aej:∀i,i<7->∀j,j<7->bA prog 200 211 [YYX (.ofNat i),YYX (.ofNat j)] (.bool (sO (.ofNat i) (.ofNat j)))=true:=by decide +kernel
theorem aek(n:Nat)(b:Int):bA prog 200 211 [YYX (.negSucc n),YYX b] (.bool (sO (.negSucc n) b))=true:=by kernel_rfl
theorem ael(n:Nat)(b:Int):bA prog 200 211 [YYX (.ofNat (n+7)),YYX b] (.bool (sO (.ofNat (n+7)) b))=true:=by kernel_rfl
theorem aem:∀i,i<7->∀n:Nat,bA prog 200 211 [YYX (.ofNat i),YYX (.negSucc n)] (.bool (sO (.ofNat i) (.negSucc n)))=true:=by
 refine seven ?_ ?_ ?_ ?_ ?_ ?_ ?_<;>intro n<;>kernel_rfl
theorem aen:∀i,i<7->∀n:Nat,bA prog 200 211 [YYX (.ofNat i),YYX (.ofNat (n+7))] (.bool (sO (.ofNat i) (.ofNat (n+7))))=true:=by
 refine seven ?_ ?_ ?_ ?_ ?_ ?_ ?_<;>intro n<;>kernel_rfl
theorem aeo(a b:Int){h:af}{V:KQ}(hk:V (.bool (sO a b)) h):aq prog 211 [YYX a,YYX b] h V:=
 rR mixed (F:=λa b=>.bool (sO a b)) aej aek ael aem aen a b hk
def Jg(t r m:Int):Bool:=decide (bx t r≠-1) && kn m && decide (m≠0)
theorem XB(t r m:Int){h:af}{V:KQ}(hk:V (.bool (Jg t r m)) h):aq prog 208 [dJ t r,YYX m] h V:=by
 refine jB (v:=.bool (Jg t r m)) rfl rfl (aF mixed ?_) hk;rw[abP];simp(disch:=try exact Y)only[Wz,dJ];refine pE t r ?_;by_cases hl:bx t r = -1
 .rw[if_pos hl];simp(disch:=try exact Y)only[Wz,aZ (show ¬(2:Int)=0 by decide)];simp[Jg,hl]
 .rw[if_neg hl];simp(disch:=try exact Y)only[Wz];refine p9 m ?_;cases hkn:kn m with
  |false=>simp(disch:=try exact Y)only[Wz];simp[Jg,hl,hkn]
  |true=>
   by_cases h0:m=0
   .simp(disch:=try exact Y)only[Wz,bf h0];simp[Jg,hl,hkn,h0]
   .simp(disch:=try exact Y)only[Wz,aZ h0];simp[Jg,hl,hkn,h0]
def Jh(f:Int->Int->Int)(t r m:Int):Bool:=!Jg t r m || kG (f t r) m || (lN t r).any λa=>sO (f a.1 a.2) m
theorem aep(L:List L4)(t r m:Int)(b1 b5:Nat)(h:af)(v:Value)(V:KQ)(hv:Sl cC h v L)(hlen:L.length<=100000)(hlo:h.lo<=h.nx)(n1:b1<h.nx)(n5:b5<h.nx)(g1:h.bl.get b1=some (ah [v] 104 false))(g5:h.bl.get b5=some (ah [YYX m] 27 false))(hk:∀h',Le h h'->V (.bool (sO (aY L t r) m)) h'):aq prog 210 [dJ t r,av b1,av b5] h V:=by
 apply YYW;rw[abQ];simp(disch:=try exact Y)only[Wz,dJ,g1,g5];have hle:=(Le.refl h).new (ah [YYX t,YYX r] 26 false);refine jS L t r _ v _ (hv.le hle) YYZ (by show h.lo<=h.nx+1;omega) ?_;intro h' hl';have hall:=hle.trans hl';have g5':=(hall.get b5 n5).trans g5;simp(disch:=try exact Y)only[Wz,g5'];exact aeo _ _ (hk h' hall)
theorem Pk(L:List L4)(t r m:Int)(h:af)(v:Value)(V:KQ)(hv:Sl cC h v L)(hlen:L.length<=100000)(hlo:h.lo<=h.nx)(hk:∀h',Le h h'->V (.bool (Jh (aY L) t r m)) h'):aq prog 167 [v,dJ t r,YYX m] h V:=by
 apply YYW;rw[abv];have hv0:=hv;obtain⟨x,cap,rfl,hx⟩:=hv;simp(disch:=try exact Y)only[Wz,dJ];obtain⟨hA,eA⟩:∃hA:af,hA=⟨h.nx+1+1+1,T.bt (T.bt (h.bl.bt h.nx (ah [.slice x L.length cap] 104 false)) (h.nx+1) (ah [YYX t,YYX r] 26 false)) (h.nx+1+1) (ah [YYX m] 27 false),h.lo⟩:=⟨_,rfl⟩
 have jE:Le h hA:=by subst eA;exact(((Le.refl h).new _).new _).new _
 have g1:hA.bl.get h.nx=some (ah [.slice x L.length cap] 104 false):=by subst eA;exact(T.aD _ _ YYZ).trans ((T.aD _ _ YYZ).trans (T.az _ _ _))
 have g3:hA.bl.get (h.nx+1)=some (ah [YYX t,YYX r] 26 false):=by subst eA;exact(T.aD _ _ YYZ).trans (T.az _ _ _)
 have g5:hA.bl.get (h.nx+1+1)=some (ah [YYX m] 27 false):=by subst eA;exact T.az _ _ _
 have nA:hA.nx=h.nx+1+1+1:=by subst eA;rfl
 have lA:hA.lo=h.lo:=by subst eA;rfl
 rw[<-eA];clear eA;refine XB t r m ?_;have hvA:=hv0.le jE;cases ha:Jg t r m with
 |false=>
  simp(disch:=try exact Y)only[Wz];have:=hk hA jE;simpa[Jh,ha]using this
 |true=>
  simp(disch:=try exact Y)only[Wz,g1,g3,g5];refine jS L t r hA _ _ hvA YYZ YYZ ?_;intro h2 hle2;have n2:=hle2.nx;have l2:=hle2.lo;have Vp:=(hle2.get _ YYZ).trans g3;have g5':=(hle2.get _ YYZ).trans g5;have UY:=(hle2.get _ YYZ).trans g1;simp(disch:=try exact Y)only[Wz,g5'];refine oW _ _ ?_;have Ji:=jE.trans hle2;cases hc:kG (aY L t r) m with
  |true=>
   simp(disch:=try exact Y)only[Wz];have:=hk h2 Ji;simpa[Jh,ha,hc]using this
  |false=>
   simp(disch:=try exact Y)only[Wz,Vp];refine Nl t r h2 _ YYZ ?_;intro u h3 hu _ bP;have n3:=bP.nx;have l3:=bP.lo;have hlA:(lN t r).length<=2:=by unfold lN;split<;>(try split)<;>simp
   refine Jf (lN t r) (λa=>sO (aY L a.1 a.2) m) h3 u _ _ hu YYZ ?_ ?_
   ·intro p hp h4 κ4 cI Cp;have n4:=cI.nx;have l4:=cI.lo;simp(disch:=try exact Y)only[Wz,List.nil_append,List.cons_append];exact aep L p.1 p.2 m h.nx (h.nx+1+1) h4 _ κ4 (((hvA.le hle2).le bP).le cI) hlen YYZ YYZ YYZ
     ((cI.get _ YYZ).trans ((bP.get _ YYZ).trans UY)) ((cI.get _ YYZ).trans ((bP.get _ YYZ).trans g5')) Cp
   .intro h4 cI;have:=hk h4 ((Ji.trans bP).trans cI);simpa[Jh,ha,hc]using this
abbrev N3:=Int × Int × Int
def pJ(p:N3):List Value:=[YYX p.1,YYX p.2.1,YYX p.2.2]
theorem rj(p:N3):(pJ p).length=3:=rfl
theorem Bh(p:N3):(pJ p).all dK=true:=rfl
def Ln(f:Int->Int->Int)(m:Int)(A:List N2):List N3:=(A.filter λa=>!kG (f a.1 a.2) (mV m)).map λa=>(a.1,a.2,bM (f a.1 a.2) (mV m))
def dW(f:Int->Int->Int)(t r m:Int):List N3:=if Jh f t r m=true then[]else Ln f m (lN t r)++[(t,r,bM (f t r) m)]
theorem Jj{f:Int->Int->Int}{m:Int}{A:List N2}{k:Nat}{a:N2}(ha:A[k]? = some a):Ln f m (A.take (k+1))=Ln f m (A.take k)++if kG (f a.1 a.2) (mV m)=true then[]else[(a.1,a.2,bM (f a.1 a.2) (mV m))]:=by
 obtain⟨hj,rfl⟩:=List.getElem?_eq_some_iff.1 ha;unfold Ln;rw[List.take_succ_eq_append_getElem hj,List.filter_append,List.map_append];cases h:kG (f A[k].1 A[k].2) (mV m)<;>simp[h]
theorem Nq(f:Int->Int->Int)(m:Int)(A:List N2):(Ln f m A).length<=A.length:=by
 unfold Ln;rw[List.length_map];exact List.length_filter_le _ _
theorem aeq(L:List L4)(t r m:Int)(h:af)(v:Value)(V:KQ)(hv:Sl cC h v L)(hlen:L.length<=100000)(hlo:h.lo<=h.nx)(hk:∀v' h',fP pJ 275 h' v' (dW (aY L) t r m)->Le h h'->V v' h'):aq prog 123 [v,dJ t r,YYX m] h V:=by
 apply YYW;rw[abd];simp(disch:=try exact Y)only[Wz,dJ];obtain⟨hA,eA⟩:∃hA:af,hA=⟨h.nx+1,h.bl.bt h.nx (ah [YYX t,YYX r] 26 false),h.lo⟩:=⟨_,rfl⟩
 have jE:Le h hA:=by subst eA;exact(Le.refl h).new _
 have gA:hA.bl.get h.nx=some (ah [YYX t,YYX r] 26 false):=by subst eA;exact T.az _ _ _
 have nA:hA.nx=h.nx+1:=by subst eA;rfl
 have lA:hA.lo=h.lo:=by subst eA;rfl
 rw[<-eA];clear eA;refine Pk L t r m hA v _ (hv.le jE) hlen YYZ ?_;intro h2 hle2;have n2:=hle2.nx;have l2:=hle2.lo;have g2:=(hle2.get h.nx YYZ).trans gA;have Ji:=jE.trans hle2;cases himp:Jh (aY L) t r m with
 |true=>
  simp(disch:=try exact Y)only[Wz];exact hk _ _ (.inl ⟨by simp[dW,himp],rfl⟩) Ji
 |false=>
  simp(disch:=try exact Y)only[Wz];refine Jd m ?_;simp(disch:=try exact Y)only[Wz,g2];refine Nl t r h2 _ YYZ ?_;intro u h3 hu _ bP;have n3:=bP.nx;have l3:=bP.lo;have hlA:=yV t r;have nN:=Ji.trans bP;simp(disch:=try exact Y)only[Wz,hu.len];refine⟨λn l h4=>Le h3 h4/\∃k:Nat,an l 22=YYX (k:Int)/\k<=(lN t r).length/\n=(lN t r).length-k/\iJ pJ h3 275 h4 (an l 20) (Ln (aY L) m ((lN t r).take k)),⟨_,Le.refl _,0,rfl,Nat.zero_le _,rfl,.inl ⟨rfl,.inl rfl⟩⟩,?_⟩;rintro n l h4 ⟨cI,k,s4,Cp,rfl,Qa⟩;have n4:=cI.nx;have l4:=cI.lo;have oZ:=nN.trans cI;have hu4:=Nq (aY L) m ((lN t r).take k);rw[List.length_take]at hu4;by_cases hlt:k<(lN t r).length
  .obtain⟨a,ha⟩:∃a,(lN t r)[k]? = some a:=⟨_,List.getElem?_eq_getElem hlt⟩
   obtain⟨b,o,hb,om,mK⟩:=ldN (hu.le cI) k ha;simp(disch:=try exact Y)only[Wz,z_,s4];refine⟨λwV h5=>Le h3 h5/\iJ pJ h3 275 h5 (an wV 19) (Ln (aY L) m ((lN t r).take (k+1))),?_,?_⟩
   .simp(disch:=try exact Y)only[Wz,Gt,s4,om,mK,fD];obtain⟨hB,eB⟩:∃hB:af,hB=⟨h4.nx+1,h4.bl.bt h4.nx (ah [YYX a.1,YYX a.2] 26 false),h4.lo⟩:=⟨_,rfl⟩
    have tF:Le h4 hB:=by subst eB;exact(Le.refl h4).new _
    have gB:hB.bl.get h4.nx=some (ah [YYX a.1,YYX a.2] 26 false):=by subst eB;exact T.az _ _ _
    have lB:hB.lo=h4.lo:=by subst eB;rfl
    have nB:hB.nx=h4.nx+1:=by subst eB;rfl
    rw[<-eB];clear eB;refine jS L a.1 a.2 hB v _ (hv.le (oZ.trans tF)) YYZ YYZ ?_;intro h5 fQ;have n5:=fQ.nx;have l5:=fQ.lo;have g5:=(fQ.get h4.nx YYZ).trans gB;have sL:=(cI.trans tF).trans fQ;refine oW _ _ ?_;have uV:=(Qa.le tF).le fQ;cases hc:kG (aY L a.1 a.2) (mV m)with
    |true=>
     simp(disch:=try exact Y)only[Wz];refine⟨sL,?_⟩;rw[Jj ha,if_pos hc,List.append_nil];exact uV
    |false=>
     simp(disch:=try exact Y)only[Wz,Gs,g5];refine Ay _ _ ?_;simp(disch:=try exact Y)only[Wz,g5,uV.same];have p_:=(Le.refl h5).new (ah [YYX a.1,YYX a.2,YYX (bM (aY L a.1 a.2) (mV m))] 275 false);refine d_ (enc:=pJ) (a:=h3) (L:=Ln (aY L) m ((lN t r).take k)) (M:=[(a.1,a.2,bM (aY L a.1 a.2) (mV m))]) rj Bh YYZ YYZ (uV.le p_) ⟨_,1,rfl,λ_=>⟨h5.nx,0,rfl,Nat.lt_succ_self _,by show Has ((T.bt _ _ _).get _) 0 _;rw[T.az];exact Has.all⟩⟩ (sL.trans p_)
      (by simp;omega) (by show h5.lo<=h5.nx+1;omega) _ ?_
     intro v' h' ho' hl' _ _;refine⟨hl',?_⟩;rw[Jj ha,hc,if_neg (by simp)];exact ho'
   .rintro wV h5 ⟨Zt,uV⟩;exact⟨_,YYZ,Zt,k+1,rfl,YYZ,rfl,uV⟩
  .have hkk:k=(lN t r).length:=by omega
   subst hkk;rw[List.take_length]at Qa hu4;have g4:=(cI.get h.nx YYZ).trans ((bP.get h.nx YYZ).trans g2);simp(disch:=try exact Y)only[Wz,z_,s4,Gu,g4];refine jS L t r h4 v _ (hv.le oZ) YYZ YYZ ?_;intro h5 fQ;have n5:=fQ.nx;have l5:=fQ.lo;have g5:=(fQ.get h.nx YYZ).trans g4;have uV:=Qa.le fQ;have sL:=cI.trans fQ;simp(disch:=try exact Y)only[Wz,g5,uV.same];refine Ay _ _ ?_;simp(disch:=try exact Y)only[Wz,g5,uV.same];have p_:=(Le.refl h5).new (ah [YYX t,YYX r,YYX (bM (aY L t r) m)] 275 false);refine d_ (enc:=pJ) (a:=h3) (L:=Ln (aY L) m (lN t r)) (M:=[(t,r,bM (aY L t r) m)]) rj Bh YYZ YYZ (uV.le p_) ⟨_,1,rfl,λ_=>⟨h5.nx,0,rfl,Nat.lt_succ_self _,by show Has ((T.bt _ _ _).get _) 0 _;rw[T.az];exact Has.all⟩⟩ (sL.trans p_)
    (by simp;omega) (by show h5.lo<=h5.nx+1;omega) _ ?_
   intro v' h' ho' hl' _ _;have e:dW (aY L) t r m=Ln (aY L) m (lN t r)++[(t,r,bM (aY L t r) m)]:=by rw[dW,himp];simp
   rw[<-e]at ho';exact hk v' h' (fP.own ho' (by rw[e];simp)) (nN.trans hl')
theorem T2(L:List N2)(t r:Int)(h:af)(v:Value)(V:KQ)(hv:Sl fD h v L)(hlen:L.length<=1000000)(hk:∀h',Le h h'->V (YYX (gG (L.findIdx? λa=>decide (t=a.1/\r=a.2)))) h'):aq prog 261 [v,dJ t r] h V:=by
 apply YYW;rw[ab_];simp(disch:=try exact Y)only[Wz,dJ,hv.len];obtain⟨hA,eA⟩:∃hA:af,hA=⟨h.nx+1,h.bl.bt h.nx (ah [YYX t,YYX r] 26 false),h.lo⟩:=⟨_,rfl⟩
 have jE:Le h hA:=by subst eA;exact(Le.refl h).new _
 have gA:hA.bl.get h.nx=some (ah [YYX t,YYX r] 26 false):=by subst eA;exact T.az _ _ _
 rw[<-eA];clear eA;refine⟨λn l h1=>HQ hA h1/\∃k:Nat,an l 12=YYX (k:Int)/\k<=L.length/\n=L.length-k/\∀(j:Nat) p,j<k->L[j]? = some p->decide (t=p.1/\r=p.2)=false,⟨_,rfl,0,rfl,Nat.zero_le _,rfl,YYZ⟩,?_⟩;rintro n l h1 ⟨hE,k,hs,hkl,rfl,hno⟩;cases(show hA=h1 from hE);by_cases hlt:k<L.length
 .obtain⟨p,hp⟩:∃p,L[k]? = some p:=⟨_,List.getElem?_eq_getElem hlt⟩
  obtain⟨b,o,hb,om,mK⟩:=ldN (hv.le jE) k hp;by_cases hc:t=p.1/\r=p.2
  ·simp(disch:=try exact Y)only[Wz,hs,Af,gA,om,mK,fD,iR,bf hc];have:L.findIdx? (λa=>decide (t=a.1/\r=a.2))=some k:=by
    rw[List.findIdx?_eq_some_iff_getElem];obtain⟨cZ,hk2⟩:=List.getElem?_eq_some_iff.1 hp;refine⟨cZ,by rw[hk2];exact decide_eq_true hc,λj hj=>?_⟩;have:=hno j _ hj (List.getElem?_eq_getElem YYZ);rw[this];simp
   have hk2:=hk hA jE;rw[this]at hk2;exact hk2
  .simp(disch:=try exact Y)only[Wz,hs,Af,gA,om,mK,fD,iR,aZ hc];refine⟨_,YYZ,rfl,k+1,rfl,YYZ,rfl,λj q hj hq=>?_⟩;rcases Nat.lt_or_ge j k with h4|h4
   .exact hno j q h4 hq
   .obtain rfl:j=k:=by omega
    rw[hp]at hq;cases hq;exact decide_eq_false hc
 ·simp(disch:=try exact Y)only[Wz,hs];have:L.findIdx? (λa=>decide (t=a.1/\r=a.2))=none:=by
   rw[List.findIdx?_eq_none_iff];intro p hp;obtain⟨j,hj,rfl⟩:=List.mem_iff_getElem.1 hp;exact hno j _ YYZ (List.getElem?_eq_getElem hj)
  have hk2:=hk hA jE;rw[this]at hk2;exact hk2
theorem EA(L:List N2)(t r:Int)(h:af)(v:Value)(V:KQ)(hv:Sl fD h v L)(hlen:L.length<=1000000)(hk:∀h',Le h h'->V (.bool (L.any λa=>decide (t=a.1/\r=a.2))) h'):aq prog 219 [v,dJ t r] h V:=by
 apply YYW;rw[abV];simp(disch:=try exact Y)only[Wz,dJ];have hle:=(Le.refl h).new (ah [YYX t,YYX r] 26 false);refine T2 L t r _ v _ (hv.le hle) hlen ?_;intro h' hl;have:=hk h' (hle.trans hl);rw[<-F9]at this;by_cases h0:gG (L.findIdx? λa=>decide (t=a.1/\r=a.2))<0
 .simp(disch:=try exact Y)only[Wz]
  rwa [aZ YYZ]at this
 .simp(disch:=try exact Y)only[Wz]
  rwa [bf YYZ]at this
def Bi(K:List L4)(t r:Int):Bool:=K.any λx=>(lN x.t x.r).any λa=>decide (a.1=t/\a.2=r)
theorem T3(t r:Int)(p:L4)(b:Nat)(h:af)(V:KQ)(hlo:h.lo<=h.nx)(hb:b<h.nx)(hg:h.bl.get b=some (ah [YYX t,YYX r] 26 false))(hk:∀h',Le h h'->V (.bool ((lN p.t p.r).any λa=>decide (t=a.1/\r=a.2))) h'):aq prog 218 [xw p,av b] h V:=by
 apply YYW;rw[abU];simp(disch:=try exact Y)only[Wz,cC,hg];obtain⟨hA,eA⟩:∃hA:af,hA=⟨h.nx+1,h.bl.bt h.nx (ah [YYX p.x,YYX p.t,YYX p.r,YYX p.m] 278 false),h.lo⟩:=⟨_,rfl⟩
 have jE:Le h hA:=by subst eA;exact(Le.refl h).new _
 have nA:hA.nx=h.nx+1:=by subst eA;rfl
 have lA:hA.lo=h.lo:=by subst eA;rfl
 rw[<-eA];clear eA;refine Nl p.t p.r hA _ YYZ ?_;intro u h2 hu _ hle2;have g2:=(hle2.get b YYZ).trans ((jE.get b hb).trans hg);have hl:=yV p.t p.r;simp(disch:=try exact Y)only[Wz,g2];refine EA _ t r h2 u _ hu YYZ ?_;intro h3 bP;exact hk h3 ((jE.trans hle2).trans bP)
theorem Nr(L:List L4)(t r:Int)(h:af)(v:Value)(V:KQ)(hv:Sl cC h v L)(hlen:L.length<=100000)(hlo:h.lo<=h.nx)(hk:∀h',Le h h'->V (.bool (Bi L t r)) h'):aq prog 177 [v,dJ t r] h V:=by
 apply YYW;rw[abE];simp(disch:=try exact Y)only[Wz,dJ];have hle:=(Le.refl h).new (ah [YYX t,YYX r] 26 false);have e:Bi L t r=L.any λp=>(lN p.t p.r).any λa=>decide (t=a.1/\r=a.2):=by
  unfold Bi
  congr 1;funext p;congr 1;funext a
  exact decide_eq_decide.2 ⟨λh=>⟨h.1.symm,h.2.symm⟩,λh=>⟨h.1.symm,h.2.symm⟩⟩
 rw[e]at hk;refine Je L (λp=>(lN p.t p.r).any λa=>decide (t=a.1/\r=a.2)) _ v _ _ (hv.le hle) YYZ ?_ ?_
 .intro p hp h3 κ3 bP uv;have n3:=bP.nx;have l3:=bP.lo;have n3':h.nx+1<=h3.nx:=n3;have l3':h3.lo=h.lo:=l3;simp(disch:=try exact Y)only[Wz,List.nil_append,List.cons_append];exact T3 t r p h.nx h3 κ3 YYZ YYZ ((bP.get h.nx (Nat.lt_succ_self _)).trans (T.az _ _ _)) uv
 .intro h3 bP;exact hk h3 (hle.trans bP)
theorem swap_perm{E:List L4}{j:Nat}{x y:L4}(hx:E[j+1]? = some x)(hy:E[j]? = some y):((E.set (j+1) y).set j x).Perm E:=by
 induction E generalizing j with
 |nil=>simp at hx
 |cons a E ih=>
  cases j with
  |zero=>
   cases E with
   |nil=>simp at hx
   |cons c E=>
    simp at hx hy;subst hx;subst hy;simpa using List.Perm.swap _ _ _
  |succ j=>
   simp only[List.getElem?_cons_succ]at hx hy;simpa using ih hx hy
theorem T4(b:Nat)(L:List L4)(h:af)(fv:Value)(V:KQ)(hb:h.bl.get b=some (ah (L.flatMap cC) 278 true))(EV:b<h.nx)(hbl:h.lo<=b)(ot:L.length<=100)(hF:∀p q (h1:af) (κ1:Value->af->Prop),Kr b h h1->(∀i h2,Le h1 h2->κ1 (YYX i) h2)->fq prog fv [xw p,xw q] h1 κ1)(hk:∀(D:List L4) h',D.Perm L->Kr b h h'->h'.bl.get b=some (ah (D.flatMap cC) 278 true)->V (.tuple ⟨[]⟩) h'):aq prog 282 [YYU b L.length aX,YYX 0,YYX (L.length:Int),fv] h V:=by
 apply YYW;rw[SC];simp(disch:=try exact Y)only[Wz];refine⟨λk l h1=>∃(i:Nat)(D:List L4),an l 42=YYX (i:Int)/\1<=i/\k=L.length-i/\D.Perm L/\Kr b h h1/\h1.bl.get b=some (ah (D.flatMap cC) 278 true),⟨_,1,L,rfl,Nat.le_refl _,rfl,List.Perm.refl _,Kr.of_le (Le.refl _),hb⟩,?_⟩;rintro k l h1 ⟨i,D,s1,hi1,rfl,hp1,hle1,g1⟩;have n1:=hle1.nx;have l1:=hle1.lo;by_cases hlt:i<L.length
 .simp(disch:=try exact Y)only[Wz,s1,dZ (show(i:Int)<(L.length:Int)by omega)];refine⟨λk l5 h5=>∃(j:Nat)(D:List L4),an l5 35=YYX (j:Int)/\j<=i/\k=j/\D.Perm L/\Kr b h h5/\h5.bl.get b=some (ah (D.flatMap cC) 278 true),⟨_,i,D,rfl,Nat.le_refl _,rfl,hp1,hle1,g1⟩,?_⟩;rintro k l5 h5 ⟨j,E,s5,hj,rfl,hpE,fQ,g5⟩;have n5:=fQ.nx;have l5':=fQ.lo;have hlE:E.length=L.length:=hpE.length_eq;by_cases hj0:k=0
  .subst hj0;simp(disch:=try exact Y)only[Wz,Ag,s5,s1];exact⟨_,YYZ,i+1,E,rfl,YYZ,rfl,hpE,fQ,g5⟩
  .obtain⟨j,rfl⟩:∃j,k=j+1:=⟨k-1,YYZ⟩
   have e1:((j+1:Nat):Int)-1=(j:Nat):=by omega
   obtain⟨x,hx⟩:∃x,E[j+1]? = some x:=⟨_,List.getElem?_eq_getElem YYZ⟩
   obtain⟨y,hy⟩:∃y,E[j]? = some y:=⟨_,List.getElem?_eq_getElem YYZ⟩
   have r1:=rdE c9 g5 hx;have r2:=rdE c9 g5 hy;simp(disch:=try exact Y)only[Wz,Ag,s5,e1,br,r1,r2];refine hF x y h5 _ fQ ?_;intro c h6 p_;have n6:=p_.nx;have l6:=p_.lo;have g6:=(p_.get b YYZ).trans g5;have ZT:=fQ.trans (Kr.of_le p_);by_cases hc:c<0
   .have P6:=Gb c9 (p':=y) hx;have hy2:(E.set (j+1) y)[j]? = some y:=by rw[List.getElem?_set,if_neg YYZ];exact hy
    have mE:=Gb c9 (p':=x) hy2;have O4:=bB c9 E;have hf2:=bB c9 (E.set (j+1) y);rw[List.length_set]at hf2;have r3:=rdE c9 g6 hx;have r4:=rdE c9 g6 hy;simp only[cC]at P6 mE;simp(disch:=try exact Y)only[Wz,bf hc,He,s5,e1,br,r3,r4,cC];simp(disch:=try exact Y)only[Wz,g6,P6,mE];refine⟨_,YYZ,j,(E.set (j+1) y).set j x,rfl,YYZ,rfl,(swap_perm hx hy).trans hpE,ZT.trans (Kr.set (Le.refl h6) _),rfl⟩
   .simp(disch:=try exact Y)only[Wz,aZ hc,s1];exact⟨_,YYZ,i+1,E,rfl,YYZ,rfl,hpE,ZT,g6⟩
 .simp(disch:=try exact Y)only[Wz,s1,cG (show(L.length:Int)<=(i:Int)by omega)];exact hk D h1 hp1 hle1 g1
theorem aer(p q:L4)(h:af)(V:KQ)(hlo:h.lo<=h.nx)(hk:∀i h',Le h h'->V (YYX i) h'):aq prog 224 [.agg ⟨[]⟩,xw p,xw q] h V:=by
 apply YYW;rw[ab0];simp(disch:=try exact Y)only[Wz,cC];have hle:=(((Le.refl h).new (ah [] 329 false)).new (ah [YYX p.x,YYX p.t,YYX p.r,YYX p.m] 278 false)).new (ah [YYX q.x,YYX q.t,YYX q.r,YYX q.m] 278 false);have hk:=λi=>hk i _ hle;have c1:=mh p.t p.r;have c2:=mh q.t q.r;refine qa q.t q.r ?_;simp(disch:=try exact Y)only[Wz];refine qa p.t p.r ?_;by_cases hz:bx q.t q.r-bx p.t p.r=0
 .simp(disch:=try exact Y)only[Wz,bf hz];exact nT _ _ _ _ (hk _)
 .simp(disch:=try exact Y)only[Wz,aZ hz];exact hk _
theorem aes(p q:L4)(b:Nat)(h:af)(V:KQ)(hlo:h.lo<=h.nx)(hb:b<h.nx)(hg:h.bl.get b=some (ah [.func (.func 224) ⟨[]⟩ ⟨[]⟩] 326 false))(hk:∀i h',Le h h'->V (YYX i) h'):aq prog 226 [xw p,xw q,av b] h V:=by
 apply YYW;rw[ab2];simp(disch:=try exact Y)only[Wz,cC,hg];refine aer p q _ V (by show h.lo<=h.nx+1+1;omega) ?_;intro i h' hle;exact hk i h' ((((Le.refl h).new _).new _).trans hle)
theorem T6(v fv:Value)(n:Nat)(hn:n<20)(h:af)(V:KQ)(hk:aq prog 282 [v,YYX 0,YYX (n:Int),fv] h λ_ h'=>V (.tuple ⟨[]⟩) h'):aq prog 263 [v,YYX (n:Int),fv] h V:=by
 apply YYW;rw[ace];refine⟨λn l h1=>HQ h h1/\an l 13=YYX 20/\an l 9=YYX 0,⟨0,rfl,rfl,rfl⟩,?_⟩;rintro _ l h1 ⟨hE,s1,s2⟩;cases(show h=h1 from hE);simp(disch:=try exact Y)only[Wz,s1,s2,G6];refine aq.mono hk ?_;intro _ h2 hk2;refine⟨λn l h1=>HQ h2 h1/\an l 38=YYX 20,⟨0,rfl,rfl⟩,?_⟩;rintro _ l h3 ⟨hE,s1⟩;cases(show h2=h3 from hE);simp(disch:=try exact Y)only[Wz,s1];exact hk2
theorem aet(p:L4)(hok:bx p.t p.r≠-1)(h:af)(V:KQ)(hlo:h.lo<=h.nx)(hk:∀h',Le h h'->V (.bool false) h'):aq prog 223 [xw p] h V:=by
 apply YYW;rw[abZ];simp(disch:=try exact Y)only[Wz,cC];refine pE p.t p.r ?_;rw[if_neg hok];simp(disch:=try exact Y)only[Wz];exact hk _ ((Le.refl h).new _)
theorem EB(L:List L4)(h:af)(v fv:Value)(V:KQ)(hv:Sl cC h v L)(hlen:L.length<=100000)(hF:∀p,p∈L->∀(h1:af)(κ1:Value->af->Prop),Le h h1->(∀h2,Le h1 h2->κ1 (.bool false) h2)->fq prog fv [xw p] h1 κ1)(hk:∀h',Le h h'->V v h'):aq prog 215 [v,fv] h V:=by
 apply YYW;rw[TY];unfold fN;refine Bd L (λ_=>false) h v fv _ hv YYZ hF ?_;intro h1 hle1;have e:L.findIdx? (λ_=>false)=none:=by rw[List.findIdx?_eq_none_iff];intro _ _;rfl
 simp only[e,gG];simp(disch:=try exact Y)only[Wz];exact hk h1 hle1
theorem rm(f:Fn)(a b:Array Value):(Value.cells (.func f a b)).toList=[.func f a b]:=id rfl
theorem XC(L:List L4)(h:af)(v:Value)(V:KQ)(hv:Sl cC h v L)(hlen:L.length<20)(hlo:h.lo<=h.nx)(hok:∀p∈L,bx p.t p.r≠-1)(hk:∀(D:List L4) v' h',D.Perm L->fO cC 4 278 h' v' D->Le h h'->V v' h'):aq prog 181 [v] h V:=by
 apply YYW;rw[abH];refine Be L h v _ hv YYZ hlo ?_;intro v2 h2 mE hle2;have n2:=hle2.nx;have l2:=hle2.lo;refine EB L h2 v2 _ _ mE.sl YYZ ?_ ?_
 .intro p hp h3 κ3 bP uv;have n3:=bP.nx;have l3:=bP.lo;simp(disch:=try exact Y)only[Wz,List.nil_append,List.append_nil];exact aet p (hok p hp) h3 κ3 YYZ uv
 intro h3 bP;have n3:=bP.nx;have l3:=bP.lo;have ta:=mE.le bP;simp(disch:=try exact Y)only[Wz,rm];obtain⟨hA,bg,aS,gA,dP,dQ⟩:=jH h3 (ah [.func (.func 224) ⟨[]⟩ ⟨[]⟩] 326 false);rw[<-bg];clear bg;have Jk:=(hle2.trans bP).trans aS;apply YYW;rw[ab1];simp(disch:=try exact Y)only[Wz,ta.sl.len];refine T6 v2 _ L.length hlen hA _ ?_;rcases ta.le aS with⟨rfl,Vq⟩|⟨b,rfl,b1,b2,b3,b4⟩
 ·have aeu:∀(v fv:Value)(h:af)(V:KQ),V (.tuple ⟨[]⟩) h->aq prog 282 [v,YYX 0,YYX 0,fv] h V:=by
   intro v fv h V hk;apply YYW;rw[SC];simp(disch:=try exact Y)only[Wz];refine⟨λn l h1=>HQ h h1/\an l 42=YYX 1,⟨0,rfl,rfl⟩,?_⟩;rintro n l h1 ⟨hE,s1⟩;cases(show h=h1 from hE);simp(disch:=try exact Y)only[Wz,s1];exact hk
  refine aeu _ _ _ _ ?_;exact hk [] v2 hA (List.Perm.refl _) (.own (.inl ⟨rfl,Vq⟩:K0 h hA v2 [])) Jk
 ·have hbA:b<h3.nx:=by
   rcases ta with⟨_,e|⟨_,_,e⟩⟩|⟨b',e,_,c2,_⟩
   .simp at e
   .simp[aX]at e
   .simp at e;omega
  refine T4 b L hA _ _ b4 b2 b3 YYZ ?_ ?_
  .intro p q h4 κ4 cI Cp;have n4:=cI.nx;have l4:=cI.lo;simp(disch:=try exact Y)only[Wz,List.nil_append];exact aes p q h3.nx h4 κ4 YYZ YYZ ((cI.get h3.nx YYZ YYZ).trans gA) Cp
  .intro D h4 p1 cI g4;have hlD:=p1.length_eq;have n4:=cI.nx;have l4:=cI.lo;have aox:Le h h4:=⟨by have:=Jk.nx;omega,by rw[l4];exact Jk.lo,λc hc=>(cI.get c (by have:=Jk.nx;omega) YYZ).trans (Jk.get c hc)⟩
   refine hk D _ h4 p1 (fO.own (a:=h) (.inr ⟨b,by rw[hlD],b1,YYZ,YYZ,g4⟩)) aox
section
variable {h:af}{A:WA}{a:TA}{N:Nat}{d:TD}{R:RD}{H X:Int->Int->Int}
end
section
variable {h:af}{A:WA}{a:TA}{N:Nat}{d:TD}{R:RD}{H X:Int->Int->Int}
end
section
variable {h:af}{a:TA}{N:Nat}{d:TD}{H X:Int->Int->Int}
end
section
variable {h:af}{A:WA}{a:TA}{N:Nat}{d:TD}{R:RD}{H X:Int->Int->Int}
theorem aev{β:Type}{fl:β}{h:af}{b:Nat}(g:h.bl.get b=some I9)(k:Int)(hk:k=3)(V:YYY β):dw fl prog 3 Value.nilFunc false (.map (some b)) (YYX k) h V=V (.func (.func 304) ⟨[]⟩ ⟨[]⟩) h:=by
 subst hk;unfold dw jJ;rw[O2];simp only[g,I9];rw[findF,if_neg YYQ,findF,if_neg YYQ,findF,if_pos rfl];rfl
end
def TH(R:RD)(n:Nat)(x:fE)(out:Int):Prop:=
 (n=0/\R.cs[0]? = some none/\∀k,k<2->R.eE[k]? = some none)\/
 ∃(c:CR)(k:Nat),k<2/\R.cs[0]? = some (some c)/\c.a=x/\c.wt=false/\c.th=((0:Nat):Int)/\c.st=(k:Int)/\ff x.t x.r 2=(k:Int)/\mR x=true/\(∀j,j<2->j≠k->R.eE[j]? = some none)/\
  ((n=3/\c.ph=1/\R.eE[k]? = some none/\c.out=0)\/(n=2/\c.ph=2/\(∃p,R.eE[k]? = some (some (p,c.th)))/\c.out=0)\/(n=1/\c.ph=3/\(∃p,R.eE[k]? = some (some (p,c.th)))/\c.out=out/\out≠0))
section
variable {h h':af}{A:WA}{a:TA}{H X:Int->Int->Int}{N n:Nat}{x:fE}{out:Int}
end
abbrev pt(b:Nat):Value:=YYV b
def EC(t:TypeId):Prop:=t=107\/t=184\/t=136\/t=275
def T7(t:TypeId):Prop:=EC t\/t=138\/t=278
theorem T7.nt{t:TypeId}{o:Bool}(h:T7 t):¬mT t o/\¬kI t o:=by
 rcases h with(rfl|rfl|rfl|rfl)|rfl|rfl<;>refine⟨?_,?_⟩<;>(first|unfold mT|unfold kI)<;>cases o<;>decide
structure FK(a:TA)(h h':af):Prop where
 nx:h.nx<=h'.nx
 lo:h'.lo=h.lo
 ty:∀d vs t o,d<h.nx->h.bl.get d=some (ah vs t o)->¬mT t o->¬kI t o->¬EC t->h'.bl.get d=h.bl.get d
 ro:∀d,d<h.nx->(∀vs t o,h.bl.get d≠some (ah vs t o))->(∀es c,h.bl.get d≠some (.map es c))->h'.bl.get d=h.bl.get d
 mp:∀d es c,d<h.nx->h.bl.get d=some (.map es c)->d∉a.ms->h'.bl.get d=h.bl.get d
 oi:a.bp<h.nx->∀d vs,d<h.nx->h.bl.get d=some (ah vs 3 true)->¬FB h a.bp d->h'.bl.get d=h.bl.get d
 mv:a.bp<h.nx->∀d,d<h.nx->FB h' a.bp d->FB h a.bp d
def PB(a:TA)(h:af):Prop:=∃vs,h.bl.get a.bp=some (ah vs 173 false)
theorem PB.ne{a:TA}{h:af}(p:PB a h){x:Nat}{v:List Value}{t:TypeId}{o:Bool}(hg:h.bl.get x=some (ah v t o))(ht:t≠173):x≠a.bp:=by
 rintro rfl;obtain⟨vs,e⟩:=p;rw[hg]at e;exact ht (cW e).1
theorem EC.np{t:TypeId}(ht:EC t):t≠173:=by
 rcases ht with rfl|rfl|rfl|rfl<;>decide
theorem EC.ni{t:TypeId}(ht:EC t):t≠3:=by
 rcases ht with rfl|rfl|rfl|rfl<;>decide
theorem FK.trans{a:TA}{h h1 h2:af}(x:FK a h h1)(y:FK a h1 h2):FK a h h2 where
 nx:=Nat.le_trans x.nx y.nx
 lo:=y.lo.trans x.lo
 ty d vs t o hd hg h1 h2 h3:=by
  have e:=x.ty d vs t o hd hg h1 h2 h3;exact(y.ty d vs t o (Nat.lt_of_lt_of_le hd x.nx) (e.trans hg) h1 h2 h3).trans e
 ro d hd h1 h2:=by
  have e:=x.ro d hd h1 h2;exact(y.ro d (Nat.lt_of_lt_of_le hd x.nx) (λvs t o=>by rw[e];exact h1 vs t o) (λes c=>by rw[e];exact h2 es c)).trans e
 mp d es c hd hg hn:=by
  have e:=x.mp d es c hd hg hn;exact(y.mp d es c (Nat.lt_of_lt_of_le hd x.nx) (e.trans hg) hn).trans e
 oi hb d vs hd hg hf:=by
  have e:=x.oi hb d vs hd hg hf;exact(y.oi (Nat.lt_of_lt_of_le hb x.nx) d vs (Nat.lt_of_lt_of_le hd x.nx) (e.trans hg) λf=>hf (x.mv hb d hd f)).trans e
 mv hb d hd f:=x.mv hb d hd (y.mv (Nat.lt_of_lt_of_le hb x.nx) d (Nat.lt_of_lt_of_le hd x.nx) f)
theorem WK.fk{a:TA}{h h':af}(k:WK a h h'):FK a h h':=⟨k.nx,k.lo,λd vs t o hd hg h1 h2 _=>k.ty d vs t o hd hg h1 h2,k.ro,k.mp,λ_=>k.oi,λ_=>k.mv⟩
theorem FK.le{a:TA}{h h':af}(l:Le h h'):FK a h h':=⟨l.nx,l.lo,λd _ _ _ hd _ _ _ _=>l.get d hd,λd hd _ _=>l.get d hd,λd _ _ hd _ _=>l.get d hd,λ_ d _ hd _ _=>l.get d hd,λhb d _ f=>(FB.congr (l.get _ hb)).1 f⟩
theorem FK.put{a:TA}{h:af}{x:Nat}{v:List Value}{t:TypeId}{o:Bool}(hg:h.bl.get x=some (ah v t o))(ht:EC t)(ob:bO)(hp:PB a h):FK a h ⟨h.nx,h.bl.bt x ob,h.lo⟩:=by
 refine⟨Nat.le_refl _,rfl,λd vs t' o' _ hgd _ _ hc=>T.aD _ _ ?_,λd _ h1 _=>T.aD _ _ ?_,λd _ _ _ hgd _=>T.aD _ _ (gx hg hgd),λ_ d vs _ hgd _=>T.aD _ _ ?_,λ_ d _ f=>(FB.congr (T.aD _ _ (hp.ne hg ht.np))).1 f⟩
 .rintro rfl;rw[hg]at hgd;obtain⟨rfl,rfl⟩:=cW hgd;exact hc ht
 .rintro rfl;exact h1 _ _ _ hg
 .rintro rfl;rw[hg]at hgd;exact ht.ni (cW hgd).1
theorem FK.leV{a:TA}{h h':af}{v:Value}(l:V8 v h h')(hv:∀d,xS v d->∃vs o,h.bl.get d=some (ah vs 275 o))(hp:PB a h):FK a h h':=by
 refine⟨l.nx,l.lo,λd vs t' o' hd hgd _ _ hc=>l.get d hd λhb=>?_,λd hd h1 _=>l.get d hd λhb=>?_,λd _ _ hd hgd _=>l.get d hd λhb=>?_,λ_ d vs hd hgd _=>l.get d hd λhb=>?_,λhbp d _ f=>(FB.congr (l.get _ hbp λhb=>?_)).1 f⟩
 .obtain⟨vs',o,e⟩:=hv d hb;rw[e]at hgd;obtain⟨rfl,rfl⟩:=cW hgd;exact hc (.inr (.inr (.inr rfl)))
 .obtain⟨vs',o,e⟩:=hv d hb;exact h1 _ _ _ e
 .obtain⟨vs',o,e⟩:=hv d hb;exact gx e hgd rfl
 .obtain⟨vs',o,e⟩:=hv d hb;rw[e]at hgd;exact absurd (cW hgd).1 YYQ
 .obtain⟨vs',o,e⟩:=hv _ hb;exact hp.ne e YYQ rfl
structure KT(T:TypeId->Prop)(h h':af):Prop where
 nx:h.nx<=h'.nx
 lo:h'.lo=h.lo
 ty:∀d vs t o,d<h.nx->h.bl.get d=some (ah vs t o)->T t->h'.bl.get d=h.bl.get d
abbrev KA:=KT T7
theorem WK.ka{a:TA}{h h':af}(k:WK a h h'):KA h h':=⟨k.nx,k.lo,λd vs t o hd hg ht=>k.ty d vs t o hd hg ht.nt.1 ht.nt.2⟩
theorem KT.le{T:TypeId->Prop}{h h':af}(l:Le h h'):KT T h h':=⟨l.nx,l.lo,λd _ _ _ hd _ _=>l.get d hd⟩
theorem KT.mono{T T':TypeId->Prop}{h h':af}(k:KT T h h')(m:∀t,T' t->T t):KT T' h h':=⟨k.nx,k.lo,λd vs t o hd hg ht=>k.ty d vs t o hd hg (m t ht)⟩
def Pm(t:TypeId):Prop:=t=107\/t=136\/t=138\/t=278
theorem Pm.a{t:TypeId}(h:Pm t):T7 t:=by
 rcases h with h|h|h|h
 .exact .inl (.inl h)
 .exact .inl (.inr (.inr (.inl h)))
 .exact .inr (.inl h)
 .exact .inr (.inr h)
theorem ktV{α:Type}{enc:α->List Value}{h h':af}{v:Value}{L:List α}(l:V8 v h h')(p:fP enc 275 h v L):KT (λt=>t≠275) h h':=⟨l.nx,l.lo,λd vs t o hd hg ht=>l.get d hd λhb=>by
 obtain⟨_,vs',e⟩:=p.blk hb;rw[hg]at e;exact bG ht e⟩
structure AA where
 ab:Nat
 pb:Nat
 lb:Nat
 wb:Nat
 th:Int
 most:Int
structure AD where
 je:Int
 asked:List L4
 has:List L4
 aL:List L4
structure CD where
 k:Int
 t:Int
 r:Int
 m:Int
 w:Int
 ask:fE
 fe:Int
 Qb:FuncId
 tQ:Value
 seen:Bool
 code:Int
 cO:List N3
 goes:List L4
 ax:Int
structure jF(h:af)(z:AA)(D:AD)(cp:Option Nat):Prop where
 yz:z.ab<h.nx/\h.lo<=z.ab
 ga:∃va vh,h.bl.get z.ab=some (ah [pt z.wb,YYX z.th,YYX D.je,va,vh,pt z.pb,dV cp] 107 false)/\k_ h va D.asked/\k_ h vh D.has
 xq:z.pb<h.nx/\h.lo<=z.pb
 gp:h.bl.get z.pb=some (ah [pt z.lb,YYX (-1-z.th),YYX z.most] 138 false)
 IX:z.lb<h.nx/\h.lo<=z.lb
 gl:∃vp,h.bl.get z.lb=some (ah [vp] 136 false)/\k_ h vp D.aL
def agO(z:AA)(D:AD)(va vh:Value)(cp:Option Nat):bO:=ah [pt z.wb,YYX z.th,YYX D.je,va,vh,pt z.pb,dV cp] 107 false
def cE(z:AA)(c:CD)(vn vg:Value):bO:=ah [vn,vg,YYX c.k,YYX c.ax,YYX c.t,YYX c.r,YYX c.m,YYX 0,YYX c.w,YYX c.ask.k,YYX c.ask.x,YYX c.ask.t,YYX c.ask.r,YYX c.ask.m,YYX c.ask.w,YYX c.ask.to,YYX c.fe,.func (.func c.Qb) ⟨[pt z.ab]⟩ ⟨[]⟩,c.tQ,.bool c.seen,YYX c.code] 184 false
structure i6(h:af)(z:AA)(kb:Nat)(c:CD):Prop where
 lt:kb<h.nx/\h.lo<=kb
 g:∃vn vg,h.bl.get kb=some (cE z c vn vg)/\fP pJ 275 h vn c.cO/\fO cC 4 278 h vg c.goes
 tQ:dK c.tQ=true
section
variable {h h':af}{z:AA}{D:AD}{cp:Option Nat}{kb:Nat}{c:CD}
theorem k_.ka{v:Value}{L:List L4}(s:k_ h v L)(k:KT Pm h h'):k_ h' v L:=s.keep k.nx λc vs op hc hg=>k.ty c vs _ op hc hg (.inr (.inr (.inr rfl)))
theorem k_.fk{a:TA}{v:Value}{L:List L4}(s:k_ h v L)(k:FK a h h'):k_ h' v L:=s.keep k.nx λc vs op hc hg=>k.ty c vs _ op hc hg (T7.nt (.inr (.inr rfl))).1 (T7.nt (.inr (.inr rfl))).2 (by unfold EC;decide)
theorem jF.kt(s:jF h z D cp)(k:KT Pm h h'):jF h' z D cp:=by
 have n:=k.nx;have l:=k.lo;obtain⟨va,vh,g1,g2,g3⟩:=s.ga;obtain⟨vp,q1,q2⟩:=s.gl;have a1:=s.yz;have a2:=s.xq;have a3:=s.IX;exact⟨⟨YYZ,YYZ⟩,⟨va,vh,(k.ty _ _ _ _ a1.1 g1 (.inl rfl)).trans g1,g2.ka k,g3.ka k⟩,⟨YYZ,YYZ⟩,(k.ty _ _ _ _ a2.1 s.gp (.inr (.inr (.inl rfl)))).trans s.gp,⟨YYZ,YYZ⟩,vp,(k.ty _ _ _ _ a3.1 q1 (.inr (.inl rfl))).trans q1,q2.ka k⟩
theorem jF.ka(s:jF h z D cp)(k:KA h h'):jF h' z D cp:=s.kt (k.mono λ_ h=>h.a)
theorem jF.le(s:jF h z D cp)(l:Le h h'):jF h' z D cp:=s.kt (.le l)
theorem i6.ka(s:i6 h z kb c)(k:KA h h'):i6 h' z kb c:=by
 have n:=k.nx;have l:=k.lo;have a1:=s.lt;obtain⟨vn,vg,g1,g2,g3⟩:=s.g;exact⟨⟨YYZ,YYZ⟩,⟨vn,vg,(k.ty _ _ _ _ a1.1 g1 (.inl (.inr (.inl rfl)))).trans g1,g2.keep n l λc vs hc hg=>k.ty c vs _ _ hc hg (.inl (.inr (.inr (.inr rfl)))),g3.keep n l λc vs hc hg=>k.ty c vs _ _ hc hg (.inr (.inr rfl))⟩,s.tQ⟩
theorem i6.le(s:i6 h z kb c)(l:Le h h'):i6 h' z kb c:=s.ka (.le l)
theorem jF.set(s:jF h z D cp){D':AD}{cp':Option Nat}{va vh:Value}(h1:k_ h va D'.asked)(h2:k_ h vh D'.has)(h3:D'.aL=D.aL):jF ⟨h.nx,h.bl.bt z.ab (agO z D' va vh cp'),h.lo⟩ z D' cp':=by
 obtain⟨va0,vh0,g1,_,_⟩:=s.ga;obtain⟨vp,q1,q2⟩:=s.gl;have kt:∀{v:Value}{L:List L4},k_ h v L->k_ ⟨h.nx,h.bl.bt z.ab (agO z D' va vh cp'),h.lo⟩ v L:=λs=>s.keep (Nat.le_refl _) λc vs op hc hg=>T.aD _ _ (cr g1 hg YYQ);exact⟨s.yz,⟨va,vh,T.az _ _ _,kt h1,kt h2⟩,s.xq,(T.aD _ _ (cr g1 s.gp YYQ)).trans s.gp,s.IX,vp,(T.aD _ _ (cr g1 q1 YYQ)).trans q1,by rw[h3];exact kt q2⟩
theorem jF.XD(s:jF h z D cp){vp:Value}{P:List L4}(h1:k_ h vp P):jF ⟨h.nx,h.bl.bt z.lb (ah [vp] 136 false),h.lo⟩ z { D with aL:=P } cp:=by
 obtain⟨va,vh,g1,g2,g3⟩:=s.ga;obtain⟨vp0,q1,_⟩:=s.gl;have kt:∀{v:Value}{L:List L4},k_ h v L->k_ ⟨h.nx,h.bl.bt z.lb (ah [vp] 136 false),h.lo⟩ v L:=λs=>s.keep (Nat.le_refl _) λc vs op hc hg=>T.aD _ _ (cr q1 hg YYQ);exact⟨s.yz,⟨va,vh,(T.aD _ _ (cr q1 g1 YYQ)).trans g1,kt g2,kt g3⟩,s.xq,(T.aD _ _ (cr q1 s.gp YYQ)).trans s.gp,s.IX,vp,T.az _ _ _,kt h1⟩
theorem jF.put(s:jF h z D cp){x:Nat}{v:List Value}{t:TypeId}{o:Bool}(hg:h.bl.get x=some (ah v t o))(ht:t=184\/t=275)(ob:bO):jF ⟨h.nx,h.bl.bt x ob,h.lo⟩ z D cp:=by
 obtain⟨va,vh,g1,g2,g3⟩:=s.ga;obtain⟨vp,q1,q2⟩:=s.gl;have up:∀{b:Nat}{w:List Value}{t':TypeId}{o':Bool},h.bl.get b=some (ah w t' o')->t≠t'->(h.bl.bt x ob).get b=h.bl.get b:=λhb hn=>T.aD _ _ (cr hg hb hn);have n1:t≠107:=by rcases ht with rfl|rfl<;>decide
 have n2:t≠138:=by rcases ht with rfl|rfl<;>decide
 have n3:t≠136:=by rcases ht with rfl|rfl<;>decide
 have n4:t≠278:=by rcases ht with rfl|rfl<;>decide
 have kt:∀{v:Value}{L:List L4},k_ h v L->k_ ⟨h.nx,h.bl.bt x ob,h.lo⟩ v L:=λs=>s.keep (Nat.le_refl _) λc vs op hc hg=>up hg n4;exact⟨s.yz,⟨va,vh,(up g1 n1).trans g1,kt g2,kt g3⟩,s.xq,(up s.gp n2).trans s.gp,s.IX,vp,(up q1 n3).trans q1,kt q2⟩
theorem i6.put(s:i6 h z kb c){x:Nat}{v:List Value}{t:TypeId}{o:Bool}(hg:h.bl.get x=some (ah v t o))(ht:t=107\/t=136)(ob:bO):i6 ⟨h.nx,h.bl.bt x ob,h.lo⟩ z kb c:=by
 obtain⟨vn,vg,g1,g2,g3⟩:=s.g;have up:∀{b:Nat}{w:List Value}{t':TypeId}{o':Bool},h.bl.get b=some (ah w t' o')->t≠t'->(h.bl.bt x ob).get b=h.bl.get b:=λhb hn=>T.aD _ _ (cr hg hb hn);have n1:t≠184:=by rcases ht with rfl|rfl<;>decide
 have n2:t≠275:=by rcases ht with rfl|rfl<;>decide
 have n3:t≠278:=by rcases ht with rfl|rfl<;>decide
 exact⟨s.lt,⟨vn,vg,(up g1 n1).trans g1,g2.keep (Nat.le_refl _) rfl λc vs hc hg=>up hg n2,g3.keep (Nat.le_refl _) rfl λc vs hc hg=>up hg n3⟩,s.tQ⟩
theorem i6.mk'(hl:kb<h.nx/\h.lo<=kb){vs:List Value}{o:Bool}(g1:h.bl.get kb=some (ah vs 184 o)){c':CD}{vn vg:Value}(h1:fP pJ 275 h vn c'.cO)(h2:fO cC 4 278 h vg c'.goes)(h3:dK c'.tQ=true):i6 ⟨h.nx,h.bl.bt kb (cE z c' vn vg),h.lo⟩ z kb c':=by
 have up:∀{b:Nat}{w:List Value}{t':TypeId}{o':Bool},h.bl.get b=some (ah w t' o')->184≠t'->(h.bl.bt kb (cE z c' vn vg)).get b=h.bl.get b:=λhb hn=>T.aD _ _ (cr g1 hb hn);exact⟨hl,⟨vn,vg,T.az _ _ _,h1.keep (Nat.le_refl _) rfl λc vs hc hg=>up hg YYQ,h2.keep (Nat.le_refl _) rfl λc vs hc hg=>up hg YYQ⟩,h3⟩
theorem i6.set(s:i6 h z kb c){c':CD}{vn vg:Value}(h1:fP pJ 275 h vn c'.cO)(h2:fO cC 4 278 h vg c'.goes)(h3:dK c'.tQ=true):i6 ⟨h.nx,h.bl.bt kb (cE z c' vn vg),h.lo⟩ z kb c':=by
 obtain⟨vn0,vg0,g1,_,_⟩:=s.g;exact .mk' s.lt g1 h1 h2 h3
end
theorem ajr(h:af)(b o:Nat):nk prog h 100 101 (.pointer (some ⟨b,o,none⟩)) (.pointer none)=some false:=by kernel_rfl
theorem ZU(h:af)(b o:Nat):nk prog h 100 134 (.pointer (some ⟨b,o,none⟩)) (.pointer none)=some false:=by kernel_rfl
theorem pK{β:Type}{fl:β}(cn:Bool)(b o:Nat)(h:af)(V:YYY β):aI fl prog .eql 101 cn false (.pointer (some ⟨b,o,none⟩)) (.pointer none) h V=V (.bool false) h:=by simp only[aI,ajr,bZ]
theorem T8{β:Type}{fl:β}(cn:Bool)(b o:Nat)(h:af)(V:YYY β):aI fl prog .neq 101 cn false (.pointer (some ⟨b,o,none⟩)) (.pointer none) h V=V (.bool true) h:=by simp only[aI,ajr,bZ,Bool.not_false]
theorem T9{β:Type}{fl:β}(cn:Bool)(b o:Nat)(h:af)(V:YYY β):aI fl prog .eql 134 cn false (.pointer (some ⟨b,o,none⟩)) (.pointer none) h V=V (.bool false) h:=by simp only[aI,ZU,bZ]
theorem T_{β:Type}{fl:β}(cn:Bool)(b o:Nat)(h:af)(V:YYY β):aI fl prog .neq 134 cn false (.pointer (some ⟨b,o,none⟩)) (.pointer none) h V=V (.bool true) h:=by simp only[aI,ZU,bZ,Bool.not_false]
def xy(t r m:Int):Bool:=(decide (bx t r=0) || decide (bx t r=1)) && (decide (m=1) || decide (m=2) || decide (m=3))
theorem Bj(t r m:Int){h:af}{V:KQ}(hk:V (.bool (xy t r m)) h):aq prog 227 [dJ t r,YYX m] h V:=by
 refine jB (v:=.bool (xy t r m)) rfl rfl (aF mixed ?_) hk;rw[ab3];simp(disch:=try exact Y)only[Wz,dJ];refine qa t r ?_;have:(m=1\/m=2\/m=3)\/(m<1\/3<m):=by omega
 rcases mh t r with h1|h1|h1|h1<;>rcases this with(h2|h2|h2)|(h2|h2)<;>simp(disch:=try exact Y)only[Wz,h1,h2]<;>simp[xy,h1,h2]<;>omega
section
variable {h:af}{z:AA}{D:AD}{cp:Option Nat}
theorem ED(s:jF h z D cp)(hlen:D.aL.length<=100000)(hlo:h.lo<=h.nx)(V:KQ)(hk:∀v' h',K0 h h' v' D.aL->Le h h'->V v' h'):aq prog 178 [pt z.pb] h V:=by
 have gp:=s.gp;obtain⟨vp,gl,sl⟩:=s.gl;apply YYW;rw[abF];simp(disch:=try exact Y)only[Wz,pK,aJ,gp];apply YYW;rw[abW];simp(disch:=try exact Y)only[Wz,T9,aJ,gl];refine d_ (enc:=cC) (a:=h) (L:=[]) (M:=D.aL) c9 q9 YYZ YYZ (.inl ⟨rfl,.inl rfl⟩) sl.1 (Le.refl h) (by simp;omega) hlo _ ?_;intro v' h' ho hl _ _;exact hk v' h' (by simpa using ho) hl
theorem Lo(s:jF h z D cp)(V:KQ)(hk:V (YYX (-1-z.th)) h):aq prog 175 [pt z.pb] h V:=by
 have gp:=s.gp;apply YYW;rw[abC];simp(disch:=try exact Y)only[Wz,pK,aJ,gp];exact hk
theorem Ns(s:jF h z D cp)(hlen:D.aL.length<=100000)(hm:0<=z.most/\z.most<=8)(V:KQ)(hk:V (YYX (z.most-D.aL.length)) h):aq prog 228 [pt z.pb] h V:=by
 have gp:=s.gp;obtain⟨vp,gl,sl⟩:=s.gl;have hlen':=λ(β:Type)(fl:β) V h'=>sl.1.len (β:=β) (fl:=fl) V h';apply YYW;rw[ab4];simp(disch:=try exact Y)only[Wz,pK,G1,aJ,gp,gl,hlen'];exact hk
theorem Lp(s:jF h z D cp)(hlen:D.aL.length<=100000)(hlo:h.lo<=h.nx)(t r:Int)(V:KQ)(hk:∀h',Le h h'->V (.bool (decide (aY D.aL t r≠0))) h'):aq prog 221 [pt z.pb,dJ t r] h V:=by
 have gp:=s.gp;have q1:=s.xq;have q2:=s.IX;obtain⟨vp,gl,sl⟩:=s.gl;apply YYW;rw[abX];simp(disch:=try exact Y)only[Wz,dJ,T8,aJ,gp];have hle:=(Le.refl h).new (ah [YYX t,YYX r] 26 false);apply YYW;rw[acd];simp(disch:=try exact Y)only[Wz,dJ,T_,aJ,gl];have hle2:=hle.new (ah [YYX t,YYX r] 26 false);refine jS D.aL t r _ vp _ (sl.1.le hle2) YYZ (by show h.lo<=h.nx+1+1;omega) ?_;intro h' hl;have hk:=hk h' (hle2.trans hl);by_cases h0:aY D.aL t r=0
 .rw[aZ (λh=>h h0)]at hk;simp(disch:=try exact Y)only[Wz,bf h0];exact hk
 .rw[bf h0]at hk;simp(disch:=try exact Y)only[Wz,aZ h0];exact hk
def EE(most x:Int)(L:List L4)(t r m:Int):List L4:=
 if xy t r m=false then L else if aY L t r≠0 then L else if most-L.length=0 then L else de L ⟨x,t,r,m⟩
theorem aex(s:jF h z D cp)(hlen:D.aL.length<=100000)(hlo:h.lo<=h.nx)(hm:0<=z.most/\z.most<=8)(t r m:Int)(V:KQ)(hk:∀u h1 h',Le h h1->(h'=h1\/∃vp,h'=⟨h1.nx,h1.bl.bt z.lb (ah [vp] 136 false),h1.lo⟩)->jF h' z { D with aL:=EE z.most (-1-z.th) D.aL t r m } cp->V u h'):aq prog 222 [pt z.pb,dJ t r,YYX m] h V:=by
 apply YYW;rw[abY];simp(disch:=try exact Y)only[Wz,dJ,pK];refine Bj t r m ?_;obtain⟨hA,bg,aS,gA,dP,dQ⟩:=jH h (ah [YYX t,YYX r] 26 false);rw[<-bg]
 try rw[show(h.bl.bt (h.nx) (ah [YYX t,YYX r] 26 false))=hA.bl by rw[bg]]
 clear bg;have sA:=s.le aS;have same:∀(P:List L4),P=D.aL->({ D with aL:=P }:AD)=D:=λP e=>by subst e;rfl
 cases he:xy t r m with
 |false=>
  simp(disch:=try exact Y)only[Wz];exact hk _ hA _ aS (.inl rfl) (by rw[same _ (by unfold EE;rw[if_pos he])];exact sA)
 |true=>
  simp(disch:=try exact Y)only[Wz,GZ,gA];refine Lp sA hlen YYZ t r _ ?_;intro h2 hle2;have wY:=hle2.nx;have wZ:=hle2.lo;have gA:=(hle2.get _ YYZ).trans gA;have s2:=sA.le hle2;by_cases hmo:aY D.aL t r=0
  .simp(disch:=try exact Y)only[Wz,aZ (not_not_intro hmo)];refine Ns s2 hlen hm _ ?_;by_cases hr:z.most-D.aL.length=0
   .simp(disch:=try exact Y)only[Wz,bf hr];exact hk _ h2 _ (aS.trans hle2) (.inl rfl) (by rw[same _ (by unfold EE;rw[if_neg (by rw[he];decide),if_neg (λh=>h hmo),if_pos hr])];exact s2)
   ·simp(disch:=try exact Y)only[Wz,aZ hr];have gp:=s2.gp;have q2:=s2.IX;obtain⟨vp,gl,sl⟩:=s2.gl;simp(disch:=try exact Y)only[Wz,GY,aJ,gp,gl,gA];refine Np D.aL ⟨-1-z.th,t,r,m⟩ h2 vp _ sl.1 hlen YYZ ?_;intro v' h3 JQ bP;have s3:=s2.le bP;have gp3:=s3.gp;have q3:=s3.IX;obtain⟨vp3,gl3,sl3⟩:=s3.gl;obtain⟨x',c',e'⟩:=JQ.cell;subst e';simp(disch:=try exact Y)only[Wz,aJ,gp3,gl3];exact hk _ h3 _ (aS.trans (hle2.trans bP)) (.inr ⟨_,rfl⟩) (by
     have:=s3.XD JQ;unfold EE;rw[if_neg (by rw[he];decide),if_neg (λh=>h hmo),if_neg hr];exact this)
  .simp(disch:=try exact Y)only[Wz,bf hmo];exact hk _ h2 _ (aS.trans hle2) (.inl rfl) (by rw[same _ (by unfold EE;rw[if_neg (by rw[he];decide),if_pos hmo])];exact s2)
theorem Ua(s:jF h z D cp)(hlen:D.aL.length<=100000)(hlo:h.lo<=h.nx)(t r:Int)(h0:aY D.aL t r=0)(V:KQ)(hk:∀h',Le h h'->V (.tuple ⟨[YYX 0,.bool false]⟩) h'):aq prog 179 [pt z.pb,dJ t r] h V:=by
 apply YYW;rw[Sn];simp(disch:=try exact Y)only[Wz,dJ,pK];obtain⟨hA,bg,aS,gA,dP,dQ⟩:=jH h (ah [YYX t,YYX r] 26 false);rw[<-bg]
 try rw[show(h.bl.bt (h.nx) (ah [YYX t,YYX r] 26 false))=hA.bl by rw[bg]]
 clear bg;refine Lp (s.le aS) hlen YYZ t r _ ?_;intro h2 hle2;rw[aZ (λh=>h h0)];simp(disch:=try exact Y)only[Wz];exact hk h2 (aS.trans hle2)
end
def ou(q:R5):Int × Int:=(q.x,q.m)
def gz(Q:List R5):Prop:=∀q∈Q,q.w=q.m/\q.s=0/\q.m≠0
theorem x5{Q:List R5}(h:gz Q):fC Q=none:=by
 unfold fC;cases hb:best Q Q.length with
 |some b=>
  obtain⟨_,r,hr,hu⟩:=DM Q _ _ hb;have:=h r (List.mem_of_getElem? hr);rw[rS]at hu;omega
 |none=>
  show Q.findIdx? _=none
  rw[List.findIdx?_eq_none_iff];intro r hr;have:=(h r hr).2.2;simp[this]
theorem qd{Q:List R5}(h:gz Q)(n:Nat):eU n Q=(Q,[]):=zW (AF (x5 h)) n
structure Mul(Ts:List TB)(G:Int->Int->List (Int × Int)):Prop where
 one:∀b∈Ts,∀e∈b.M,gz e.Q/\e.Q.map ou=G e.t e.r/\e.Q≠[]
 all:∀t r,G t r≠[]->∃b∈Ts,∃e∈b.M,e.t=t/\e.r=r
def dR(G:Int->Int->List (Int × Int))(t r:Int)(l:List (Int × Int)):Int->Int->List (Int × Int):=λt' r'=>if t'=t/\r'=r then l else G t' r'
theorem kz(G:Int->Int->List (Int × Int))(t r:Int)(l:List (Int × Int)):dR G t r l t r=l:=by simp[dR]
theorem nV(G:Int->Int->List (Int × Int)){t r t' r':Int}{l:List (Int × Int)}(h:¬(t'=t/\r'=r)):dR G t r l t' r'=G t' r':=by simp[dR,h]
section
variable {h:af}{tb bw bp bl:Nat}{c:iF}{vb:Value}{bu N:Nat}{Ts:List TB}{W:List IE}{wc:Nat}{F:List Int}{B:List Bool}{G:Int->Int->List (Int × Int)}
theorem Mul.settle(L:Mul Ts G)(s:lM h tb bw bp bl c vb bu N Ts W wc F B){k:Nat}{b:TB}(hk:Ts[k]? = some b){t r w:Int}(hst:ff t r c.S=(k:Int)){Q:List R5}(hQ:gz Q){M':List HE}(cl:Nat)(st:gP b.M M' t r w Q):Mul (Ts.set k ⟨b.bb,b.bm,M',cl⟩) (dR G t r (Q.map ou)):=by
 have hil:=(List.getElem?_eq_some_iff.1 hk).1;have hb:=List.mem_of_getElem? hk;by_cases hne:Q=[]
 .have hM:=st.gone hne;subst hM hne;constructor
  .intro b' hb' e he;obtain⟨j,hj⟩:=List.getElem?_of_mem hb';rcases gu hj with⟨rfl,rfl⟩|⟨hne,hj⟩
   .obtain⟨he,hn⟩:=List.mem_filter.1 he;have hn:=sM.1 hn;rw[nV G (λe=>hn ⟨e.1.symm,e.2.symm⟩)];exact L.one b hb e he
   .have hs:=s.nm j b' hj e he;rw[nV G (λe1=>by rw[e1.1,e1.2,hst]at hs;omega)];exact L.one b' (List.mem_of_getElem? hj) e he
  .intro t' r' hH;by_cases hn:t'=t/\r'=r
   .obtain⟨rfl,rfl⟩:=hn;rw[kz]at hH;exact absurd rfl hH
   .rw[nV G hn]at hH;obtain⟨b1,hb1,e1,qw,e2,e3⟩:=L.all t' r' hH;obtain⟨j,hj⟩:=List.getElem?_of_mem hb1;by_cases hjk:k=j
    .subst hjk;rw[hk]at hj;cases hj;exact⟨_,List.mem_of_getElem? (i:=k) (by rw[List.getElem?_set,if_pos rfl,if_pos hil]),e1,List.mem_filter.2 ⟨qw,sM.2 λe=>hn ⟨e2.symm.trans e.1.symm,e3.symm.trans e.2.symm⟩⟩,e2,e3⟩
    .exact⟨b1,List.mem_of_getElem? (i:=j) (by rw[List.getElem?_set,if_neg hjk];exact hj),e1,qw,e2,e3⟩
 .obtain⟨e0,h1,h2,h3,h4,hp⟩:=st.put hne;constructor
  .intro b' hb' e he;obtain⟨j,hj⟩:=List.getElem?_of_mem hb';rcases gu hj with⟨rfl,rfl⟩|⟨atT,hj⟩
   .rcases List.mem_append.1 (hp.mem_iff.1 he)with he|he
    .obtain⟨he,hn⟩:=List.mem_filter.1 he;have hn:=sM.1 hn;rw[nV G (λe=>hn ⟨e.1.symm,e.2.symm⟩)];exact L.one b hb e he
    .rw[List.mem_singleton]at he;subst he;rw[h1,h2,kz,h4];exact⟨hQ,rfl,hne⟩
   .have hs:=s.nm j b' hj e he;rw[nV G (λe1=>by rw[e1.1,e1.2,hst]at hs;omega)];exact L.one b' (List.mem_of_getElem? hj) e he
  .intro t' r' hH;by_cases hn:t'=t/\r'=r
   .obtain⟨rfl,rfl⟩:=hn;exact⟨_,List.mem_of_getElem? (i:=k) (by rw[List.getElem?_set,if_pos rfl,if_pos hil]),e0,hp.mem_iff.2 (List.mem_append_right _ (.head _)),h1,h2⟩
   .rw[nV G hn]at hH;obtain⟨b1,hb1,e1,qw,e2,e3⟩:=L.all t' r' hH;obtain⟨j,hj⟩:=List.getElem?_of_mem hb1;by_cases hjk:k=j
    .subst hjk;rw[hk]at hj;cases hj;exact⟨_,List.mem_of_getElem? (i:=k) (by rw[List.getElem?_set,if_pos rfl,if_pos hil]),e1,hp.mem_iff.2 (List.mem_append_left _ (List.mem_filter.2 ⟨qw,sM.2 λe=>hn ⟨e2.symm.trans e.1.symm,e3.symm.trans e.2.symm⟩⟩)),e2,e3⟩
    .exact⟨b1,List.mem_of_getElem? (i:=j) (by rw[List.getElem?_set,if_neg hjk];exact hj),e1,qw,e2,e3⟩
theorem Mul.at(L:Mul Ts G)(s:lM h tb bw bp bl c vb bu N Ts W wc F B){t r:Int}(hH:G t r≠[]):∃(k:Nat)(b:TB)(e:HE),Ts[k]? = some b/\ff t r c.S=(k:Int)/\e∈b.M/\e.t=t/\e.r=r/\gz e.Q/\e.Q.map ou=G t r:=by
 obtain⟨b,hb,e,he,rfl,rfl⟩:=L.all t r hH;obtain⟨k,hk⟩:=List.getElem?_of_mem hb;obtain⟨h1,h2,_⟩:=L.one b hb e he;exact⟨k,b,e,hk,s.nm k b hk e he,he,rfl,rfl,h1,h2⟩
theorem Mul.no(L:Mul Ts G){t r:Int}(hH:G t r=[]):∀b∈Ts,∀e∈b.M,¬(t=e.t/\r=e.r):=by
 rintro b hb e he ⟨rfl,rfl⟩;obtain⟨_,h2,h3⟩:=L.one b hb e he;rw[hH]at h2;exact h3 (List.map_eq_nil_iff.1 h2)
theorem Mul.Qc(L:Mul Ts G)(s:lM h tb bw bp bl c vb bu N Ts W wc F B){t r:Int}{k:Nat}{b:TB}(hk:Ts[k]? = some b){e:HE}(he:e∈b.M)(ht:e.t=t)(hr:e.r=r):gz e.Q/\e.Q.map ou=G t r:=by
 subst ht hr;obtain⟨h1,h2,_⟩:=L.one b (List.mem_of_getElem? hk) e he;exact⟨h1,h2⟩
end
def sG(l:List (Int × Int))(x m:Int):List (Int × Int):=l.map λp=>if p.1=x then(x,m)else p
def qe(l:List (Int × Int))(x:Int):List (Int × Int):=l.filter λp=>decide (p.1≠x)
def vz(l:List (Int × Int))(x y:Int):List (Int × Int):=l.map λp=>if p.1=x then(y,p.2)else p
def dm(l:List (Int × Int))(x:Int):Int:=((l.find? λp=>decide (p.1=x)).map (·.2)).getD 0
theorem ru{Q:List R5}{W:Int}(v:VQ Q W){i j:Nat}{p q:R5}(hp:Q[i]? = some p)(hq:Q[j]? = some q)(hij:i≠j):p.x≠q.x/\p.id≠q.id:=by
 rcases Nat.lt_or_gt_of_ne hij with h|h
 .have b:=eY.1 v.pair i j p q h hp hq;exact⟨b.x,b.id⟩
 .have b:=eY.1 v.pair j i q p h hq hp;exact⟨λe=>b.x e.symm,λe=>b.id e.symm⟩
theorem map_set{Q:List R5}{W:Int}(v:VQ Q W){i:Nat}{q q':R5}(hq:Q[i]? = some q)(g:Int × Int->Int × Int)(h1:ou q'=g (ou q))(h2:∀p∈Q,p.x≠q.x->g (ou p)=ou p):(Q.set i q').map ou=(Q.map ou).map g:=by
 refine List.ext_getElem? λj=>?_;rw[List.getElem?_map,List.getElem?_map,List.getElem?_map,List.getElem?_set];obtain⟨hi,_⟩:=List.getElem?_eq_some_iff.1 hq;by_cases e:i=j
 .subst e;rw[if_pos rfl,if_pos hi,hq]
  show some (ou q')=some (g (ou q))
  rw[h1]
 .rw[if_neg e];cases hj:Q[j]? with
  |none=>rfl
  |some p=>
   show some (ou p)=some (g (ou p))
   rw[h2 p (List.mem_of_getElem? hj) (ru v hj hq (λe'=>e e'.symm)).1]
theorem aey{Q:List R5}{W:Int}(v:VQ Q W){i:Nat}{q:R5}(hq:Q[i]? = some q)(m:Int):(Q.set i ⟨q.id,q.x,m,m,0⟩).map ou=sG (Q.map ou) q.x m:=
 map_set v hq (λp=>if p.1=q.x then(q.x,m)else p) (by simp[ou]) λp _ hn=>by simp[ou,hn]
theorem Ub{Q:List R5}{W:Int}(v:VQ Q W){i:Nat}{q:R5}(hq:Q[i]? = some q)(y:Int):(Q.set i (sJ q y)).map ou=vz (Q.map ou) q.x y:=
 map_set v hq (λp=>if p.1=q.x then(y,p.2)else p) (by simp[ou,sJ]) λp _ hn=>by simp[ou,hn]
theorem Uc{Q:List R5}{W:Int}(v:VQ Q W){i:Nat}{q:R5}(hq:Q[i]? = some q):(Q.filter λr=>!cw q.id r).map ou=qe (Q.map ou) q.x:=by
 unfold qe;rw[List.filter_map]
 congr 1
 refine List.filter_congr λp hp=>?_;obtain⟨j,hj⟩:=List.mem_iff_getElem?.1 hp
 show(!cw q.id p)=decide ((ou p).1≠q.x)
 by_cases e:j=i
 .subst e;rw[hj]at hq;cases hq;simp[cw,ou]
 .have:=ru v hj hq e;simp[cw,ou,this.1,this.2]
theorem C3{Q:List R5}(h:gz Q)(i:Nat){q':R5}(h':q'.w=q'.m/\q'.s=0/\q'.m≠0):gz (Q.set i q'):=λq hq=>by
 rcases List.mem_or_eq_of_mem_set hq with hq|rfl
 .exact h q hq
 .exact h'
theorem EF{Q:List R5}(h:gz Q)(f:R5->Bool):gz (Q.filter f):=λq hq=>h q (List.mem_filter.1 hq).1
theorem Lq{Q:List R5}(h:gz Q){q':R5}(h':q'.w=q'.m/\q'.s=0/\q'.m≠0):gz (Q++[q']):=λq hq=>by
 rcases List.mem_append.1 hq with hq|hq
 .exact h q hq
 .rw[List.mem_singleton]at hq;subst hq;exact h'
def Nt(l:List (Int × Int))(x m:Int):Prop:=∀p∈l,p.1≠x->cmp p.2 m=true
theorem Pn{Q:List R5}(h:gz Q){W id x m:Int}(hm:m≠0)(hx:∀q∈Q,q.x≠x)(f:Nt (Q.map ou) x m):kY Q W id x m=(⟨id,x,m,m,0⟩,W,true):=by
 unfold kY;rw[if_pos];rw[x5 h];simp only[decide_true,Bool.true_and];rw[kj];intro o ho _ _;exact f (ou o) (List.mem_map.2 ⟨o,ho,rfl⟩) (hx o ho)
theorem Po{Q:List R5}(h:gz Q){W0 W:Int}(v:VQ Q W0){i:Nat}{q:R5}(hq:Q[i]? = some q){m:Int}(f:Nt (Q.map ou) q.x (bM q.m m)):jW Q W q m=(⟨q.id,q.x,bM q.m m,bM q.m m,0⟩,W,true):=by
 have hs:=(h q (List.mem_of_getElem? hq)).2.1;unfold jW;rw[if_pos,hs];rw[Bool.or_eq_true,Bool.and_eq_true];refine .inr ⟨?_,?_⟩
 .rw[kj];intro o ho hid _;obtain⟨j,hj⟩:=List.mem_iff_getElem?.1 ho;have:j≠i:=by rintro rfl;rw[hj]at hq;cases hq;exact hid rfl
  exact f (ou o) (List.mem_map.2 ⟨o,ho,rfl⟩) (ru v hj hq this).1
 .rw[Bool.not_eq_true',List.any_eq_false];intro r hr hu;have:=h r hr;rw[rS]at hu;omega
theorem vA{Q:List R5}{W:Int}(v:VQ Q W){i:Nat}{q:R5}(hq:Q[i]? = some q):cB Q q.id=some q:=by
 cases hf:cB Q q.id with
 |none=>exact absurd rfl (tE hf q (List.mem_of_getElem? hq))
 |some p=>
  obtain⟨hp,hid⟩:=jo hf;obtain⟨j,hj⟩:=List.mem_iff_getElem?.1 hp;by_cases e:j=i
  .subst e;rw[hj]at hq;cases hq;rfl
  .exact absurd hid (ru v hj hq e).2
section
variable {h:af}{tb bw bp bl:Nat}{c:iF}{vb:Value}{bu N:Nat}{Ts:List TB}{W:List IE}{wc:Nat}{F:List Int}{B:List Bool}{G:Int->Int->List (Int × Int)}
theorem Bk(s:lM h tb bw bp bl c vb bu N Ts W wc F B)(L:Mul Ts G)(hlo:h.lo<=h.nx)(t r x:Int)(V:KQ)(iE:(∀p∈G t r,p.1≠x)->∀h',Le h h'->V (.tuple ⟨[YYX 0,.bool false]⟩) h')(cZ:∀h' (k:Nat) (b:TB) (e:HE) (i:Nat) (q:R5),Ts[k]? = some b->ff t r c.S=(k:Int)->e∈b.M->e.t=t->e.r=r->e.Q[i]? = some q->q.x=x->Le h h'->V (.tuple ⟨[YYX q.id,.bool true]⟩) h'):aq prog 315 [YYV tb,dJ t r,YYX x] h V:=by
 refine TQ s hlo t r x _ ?_;intro h' id b fi le;by_cases hx:∀p∈G t r,p.1≠x
 .rcases fi with⟨_,rfl,rfl⟩|⟨k,M,hM,hst,⟨rfl,e,he,ht,hr,p,hp,hpx,_⟩|⟨rfl,rfl,_⟩⟩
  .exact iE hx h' le
  .rw[List.getElem?_map]at hM;cases hb:Ts[k]? with
   |none=>rw[hb]at hM;cases hM
   |some b0=>
    rw[hb]at hM;cases hM;obtain⟨_,h2⟩:=L.Qc s hb he ht.symm hr.symm;exact absurd hpx (hx (ou p) (by rw[<-h2];exact List.mem_map.2 ⟨p,hp,rfl⟩))
  .exact iE hx h' le
 ·obtain ⟨p,hp,hpx⟩:∃p∈G t r,p.1=x:=by
   refine Classical.byContradiction λhn=>hx λp hp e=>hn ⟨p,hp,e⟩
  obtain⟨k0,b0,e0,hb0,aoB,Xe,ht0,J_,_,hQ0⟩:=L.at s (t:=t) (r:=r) (by intro e;rw[e]at hp;cases hp);rw[<-hQ0]at hp;obtain⟨q0,hq0,rfl⟩:=List.mem_map.1 hp;rcases fi with⟨h1,_⟩|⟨k,M,hM,hst,fi⟩
  .omega
  .obtain rfl:k=k0:=by omega
   rw[List.getElem?_map,hb0]at hM;cases hM;rcases fi with⟨rfl,e,he,ht,hr,p,hp',aoC,rfl⟩|⟨_,_,hn⟩
   .obtain⟨i,hi⟩:=List.mem_iff_getElem?.1 hp';exact cZ h' k b0 e i p hb0 aoB he ht.symm hr.symm hi aoC le
   .exact absurd hpx (hn e0 Xe ht0.symm J_.symm q0 hq0)
theorem ZV(s:lM h tb bw bp bl c vb bu N Ts W wc F B){b:TB}(hb:b∈Ts){e:HE}(he:e∈b.M):VQ e.Q e.w:=((s.is.bk b hb).good e he).vq
theorem Lr(s:lM h tb bw bp bl c vb bu N Ts W wc F B){k:Nat}{b:TB}(hb:Ts[k]? = some b){e:HE}(he:e∈b.M){i:Nat}{q:R5}(hq:e.Q[i]? = some q){k':Nat}{b':TB}{e':HE}{p:R5}(hb':Ts[k']? = some b')(he':e'∈b'.M)(hf:cB e'.Q q.id=some p):k'=k/\b'=b/\e'=e/\p=q:=by
 have AR:=List.mem_of_getElem? hb;obtain⟨i',hi',hid⟩:=Iv (ZV s (List.mem_of_getElem? hb') he') hf;obtain⟨rfl,rfl⟩:=s.Nb (List.mem_of_getElem? hb') AR he' he (List.mem_of_getElem? hi') (List.mem_of_getElem? hq) hid;rw[vA (ZV s AR he) hq]at hf;have h1:=s.nm k' b' hb' e' he';have h2:=s.nm k b' hb e' he;exact⟨YYZ,rfl,rfl,(Option.some.inj hf).symm⟩
theorem XE(s:lM h tb bw bp bl c vb bu N Ts W wc F B)(hlo:h.lo<=h.nx){k:Nat}{b:TB}(hb:Ts[k]? = some b){e:HE}(he:e∈b.M){i:Nat}{q:R5}(hq:e.Q[i]? = some q)(V:KQ)(hk:∀h',Le h h'->V (.tuple ⟨[dJ e.t e.r,mN q,.bool true]⟩) h'):aq prog 299 [YYV tb,YYX q.id] h V:=by
 refine adR s hlo q.id _ ?_ ?_
 .intro h' hn le;have:=hn b (List.mem_of_getElem? hb) e he;rw[vA (ZV s (List.mem_of_getElem? hb) he) hq]at this;cases this
 .intro h' b' e' p hb' he' hf le;obtain⟨k',hk'⟩:=List.getElem?_of_mem hb';obtain⟨_,rfl,rfl,rfl⟩:=Lr s hb he hq hk' he' hf;exact hk h' le
end
section
variable {h:af}{a:TA}{N:Nat}{d:TD}{G:Int->Int->List (Int × Int)}
theorem XG(s:CW h a N d)(L:Mul d.Ts G)(hlo:h.lo<=h.nx)(hN:N<=1000){k:Nat}{b:TB}(hb:d.Ts[k]? = some b){t r x m:Int}(hst:ff t r a.c.S=(k:Int))(hx:∀p∈G t r,p.1≠x)(am:cu m=true)(fit:Nt (G t r) x m)(V:KQ)(WY:(d.F=[]\/(G t r=[]/\a.bu<=b.M.length))->∀h',Le h h'->V (.tuple ⟨[YYX 0,.bool false,YYX 8]⟩) h')(hk:∀h' d' id,CW h' a (N+1) d'->Mul d'.Ts (dR G t r (G t r++[(x,m)]))->Ew d d' k->vX d.Ts a.bw a.bp a.bl h h'->d'.Ts.map (·.bm)=d.Ts.map (·.bm)->V (.tuple ⟨[YYX id,.bool true,YYX 0]⟩) h'):aq prog 318 [YYV a.tb,dJ t r,YYX x,YYX m] h V:=by
 obtain⟨hm,km⟩:=(mL m).1 am;refine Xn s hlo hN t r x m _ ?_ ?_ ?_ ?_ ?_
 .intro h' hn;omega
 .intro k' b' h' _ _ hf;rw[am]at hf;cases hf
 .intro k' b' h' e p hb' _ _ he ht hr hp hpx;obtain⟨_,h2⟩:=L.Qc s hb' he ht.symm hr.symm;exact absurd hpx (hx (ou p) (by rw[<-h2];exact List.mem_map.2 ⟨p,hp,rfl⟩))
 .intro k' b' h' hb' Pp _ _ hor le;obtain rfl:k'=k:=by omega
  rw[hb]at hb';cases hb';refine WY ?_ h' le;rcases hor with h1|⟨h0,h1⟩
  .exact .inl h1
  .refine .inr ⟨?_,h1⟩;refine Classical.byContradiction λhG=>?_;obtain⟨k1,b1,e1,hb1,aoD,qw,ht1,Dv,_⟩:=L.at s hG;obtain rfl:k1=k':=by omega
   rw[hb]at hb1;cases hb1;exact h0 e1 qw ⟨ht1.symm,Dv.symm⟩
 .intro k' b' M' clock' F' W' Bx h0 h1 h' n g hb' Pp _ _ _ ak s' fr;obtain rfl:k'=k:=by omega
  rw[hb]at hb';cases hb';obtain⟨Q,w,hold,_,_,hg,st⟩:=ak.set;have hQ:gz Q/\Q.map ou=G t r:=by
   rcases hold with⟨e,he,h1,h2,h3,_⟩|⟨hno,_,rfl,_⟩
   .have:=L.Qc s hb he h1 h2;rw[h3]at this;exact this
   .refine⟨λq hq=>(by cases hq),?_⟩;refine Classical.byContradiction λhG=>?_;obtain⟨k1,b1,e1,hb1,aoD,qw,ht1,Dv,_⟩:=L.at s (t:=t) (r:=r) (λe=>hG e.symm);obtain rfl:k1=k':=by omega
    rw[hb]at hb1;cases hb1;exact hno e1 qw ⟨ht1.symm,Dv.symm⟩
  have hxQ:∀q∈Q,q.x≠x:=λq hq=>hx (ou q) (by rw[<-hQ.2];exact List.mem_map.2 ⟨q,hq,rfl⟩);rw[Pn hQ.1 hm hxQ (by rw[hQ.2];exact fit)]at hg st;have Ls:gz (Q++[⟨(n:Int),x,m,m,0⟩]):=Lq hQ.1 ⟨rfl,rfl,hm⟩;rw[qd Ls]at st;subst hg;have L':=L.settle s hb hst Ls clock' st;rw[List.map_append,hQ.2]at L';have o:=(s.is.bk b (List.mem_of_getElem? hb)).ok;refine hk h' ⟨_,W',Bx,F',d.B.set n true⟩ n s' L' (vw hb (st.cnt o) W' Bx ?_ _) fr (Er hb _ _);have:=ak.free.length_eq;rw[List.length_cons]at this;omega
theorem XH(s:CW h a N d)(L:Mul d.Ts G)(hlo:h.lo<=h.nx)(hN:N<=1000){k:Nat}{b:TB}(hb:d.Ts[k]? = some b){t r m:Int}(hst:ff t r a.c.S=(k:Int)){e:HE}(he:e∈b.M)(ht:e.t=t)(hr:e.r=r){i:Nat}{q:R5}(hq:e.Q[i]? = some q)(km:kn m=true)(hm:m≠0)(fit:Nt (G t r) q.x (bM q.m m))(V:KQ)(hk:∀h' d',CW h' a (N+1) d'->Mul d'.Ts (dR G t r (sG (G t r) q.x (bM q.m m)))->Ew d d' k->vX d.Ts a.bw a.bp a.bl h h'->d'.Ts.map (·.bm)=d.Ts.map (·.bm)->V (.tuple ⟨[.bool true,YYX 0]⟩) h'):aq prog 319 [YYV a.tb,YYX q.id,YYX (bM q.m m)] h V:=by
 have AR:=List.mem_of_getElem? hb;have vq:=ZV s AR he;have kq:kn q.m=true:=(vq.right q (List.mem_of_getElem? hq)).km;obtain⟨n0,kns,idem,_⟩:=jR kq km hm;have am:cu (bM q.m m)=true:=(mL _).2 ⟨n0,kns⟩;obtain⟨hQ,hG⟩:=L.Qc s hb he ht hr;refine IW s hlo hN q.id _ _ ?_ ?_ ?_ ?_
 .intro h' hf;rw[am]at hf;cases hf
 .intro _ hn;have:=hn b AR e he;rw[vA vq hq]at this;cases this
 .intro k' b' h' e' p _ hb' he' hf hp;obtain⟨_,_,_,rfl⟩:=Lr s hb he hq hb' he' hf;have:=(hQ p (List.mem_of_getElem? hq)).2.1;omega
 .intro k' b' h' M' clock' e' p i' _ hb' he' hpi hf _ mv s';obtain⟨rfl,rfl,rfl,rfl⟩:=Lr s hb he hq hb' he' hf;have ii:i'=i:=Classical.byContradiction λhn=>(ru vq hpi hq hn).2 rfl;subst ii;have st:=mv.set;have eu:=Po hQ (W:=e'.w) vq hq (m:=bM p.m m) (by rw[hG,idem];exact fit);rw[idem]at eu;have Ls:gz (e'.Q.set i' ⟨p.id,p.x,bM p.m m,bM p.m m,0⟩):=C3 hQ i' ⟨rfl,rfl,n0⟩;rw[eu,qd Ls,ht,hr]at st;rw[eu];have L':=L.settle s hb hst Ls clock' st;rw[aey vq hq,hG]at L';have o:=(s.is.bk b' AR).ok;exact hk h' ⟨_,d.W,d.wc,d.F,d.B⟩ s' L' (vw hb (st.cnt o) _ _ (Nat.le_succ _) _) (vX.Xf AR mv.fr) (Er hb _ _)
def nW(d:TD)(k:Nat)(t r:Int)(q:R5):Prop:=∃(b:TB)(e:HE)(j:Nat),d.Ts[k]? = some b/\e∈b.M/\e.t=t/\e.r=r/\e.Q[j]? = some q
theorem Pq(s:CW h a N d)(L:Mul d.Ts G)(hlo:h.lo<=h.nx){k:Nat}{b:TB}(hb:d.Ts[k]? = some b){t r:Int}(hst:ff t r a.c.S=(k:Int)){e:HE}(he:e∈b.M)(ht:e.t=t)(hr:e.r=r){i:Nat}{q:R5}(hq:e.Q[i]? = some q)(V:KQ)(hk:∀h' d' v',B0 h h' v' []->CW h' a (N+1) d'->Mul d'.Ts (dR G t r (qe (G t r) q.x))->(∀q'∈e.Q,q'.id≠q.id->nW d' k t r q')->Ew d d' k->vX d.Ts a.bw a.bp a.bl h h'->d'.Ts.map (·.bm)=d.Ts.map (·.bm)->V (.tuple ⟨[v',YYX 0]⟩) h'):aq prog 334 [YYV a.tb,YYX q.id] h V:=by
 have AR:=List.mem_of_getElem? hb;have vq:=ZV s AR he;obtain⟨hQ,hG⟩:=L.Qc s hb he ht hr;refine Tu s hlo q.id _ ?_ ?_
 .intro hn;have:=hn b AR e he;rw[vA vq hq]at this;cases this
 ·intro k' b' h' M' clock' F' v' e' p n hb' he' hf hid EV hpF mv ho s';obtain⟨rfl,rfl,rfl,rfl⟩:=Lr s hb he hq hb' he' hf;have Ls:gz (e'.Q.filter λr=>!cw p.id r):=EF hQ _;have st:=mv.set;rw[qd Ls]at st ho;rw[ht,hr]at st;have L':=L.settle s hb hst Ls clock' st;rw[Uc vq hq,hG]at L';have o:=(s.is.bk b' AR).ok;have still:∀q'∈e'.Q,q'.id≠p.id->nW ⟨d.Ts.set k' ⟨b'.bb,b'.bm,M',clock'⟩,d.W,d.wc,F',d.B.set n false⟩ k' t r q':=λq' Dn hn=>by
   have hm:q'∈e'.Q.filter λr=>!cw p.id r:=List.mem_filter.2 ⟨Dn,by simp[cw,hn]⟩;obtain⟨e0,h1,h2,h3,h4,hp⟩:=st.put (λe=>by have e:(e'.Q.filter λr=>!cw p.id r)=[]:=e;rw[e]at hm;cases hm);obtain⟨j,hj⟩:=List.mem_iff_getElem?.1 hm;exact⟨⟨b'.bb,b'.bm,M',clock'⟩,e0,j,by show(d.Ts.set k' _)[k']? = _;rw[List.getElem?_set,if_pos rfl,if_pos (List.getElem?_eq_some_iff.1 hb).1],hp.mem_iff.2 (List.mem_append_right _ (.head _)),h1,h2,by rw[h4];exact hj⟩
  refine hk h' ⟨_,d.W,d.wc,F',d.B.set n false⟩ v' ho s' L' still (vw hb (st.cnt o) _ _ ?_ _) (vX.Xf AR mv.fr) (Er hb _ _);have:=hpF.length_eq;rw[List.length_append,List.length_singleton]at this;omega
theorem Ud(s:CW h a N d)(L:Mul d.Ts G)(hlo:h.lo<=h.nx){k:Nat}{b:TB}(hb:d.Ts[k]? = some b){t r y:Int}(hst:ff t r a.c.S=(k:Int)){e:HE}(he:e∈b.M)(ht:e.t=t)(hr:e.r=r){i:Nat}{q:R5}(hq:e.Q[i]? = some q)(hy:∀p∈G t r,p.1≠q.x->p.1≠y)(V:KQ)(hk:∀h' d',CW h' a (N+1) d'->Mul d'.Ts (dR G t r (vz (G t r) q.x y))->Ew d d' k->vX d.Ts a.bw a.bp a.bl h h'->d'.Ts.map (·.bm)=d.Ts.map (·.bm)->V (YYX 0) h'):aq prog 321 [YYV a.tb,YYX q.id,YYX y] h V:=by
 have AR:=List.mem_of_getElem? hb;have vq:=ZV s AR he;obtain⟨hQ,hG⟩:=L.Qc s hb he ht hr;refine TC s hlo q.id y _ ?_ ?_ ?_ ?_
 .intro hn;have:=hn b AR e he;rw[vA vq hq]at this;cases this
 .intro k' b' h' e' p hb' he' hf hex;obtain⟨rfl,rfl,rfl,rfl⟩:=Lr s hb he hq hb' he' hf;obtain⟨o,ho,hid,hox⟩:=hex;obtain⟨j,hj⟩:=List.mem_iff_getElem?.1 ho;have hji:j≠i:=by rintro rfl;rw[hj]at hq;cases hq;exact hid rfl
  exact absurd hox (hy (ou o) (by rw[<-hG];exact List.mem_map.2 ⟨o,ho,rfl⟩) (ru vq hj hq hji).1)
 .intro k' b' h' e' p hb' he' hf _ hp;obtain⟨_,_,_,rfl⟩:=Lr s hb he hq hb' he' hf;have:=(hQ p (List.mem_of_getElem? hq)).2.1;omega
 .intro k' b' h' M' clock' e' p i' hb' he' hpi hf _ _ mv s';obtain⟨rfl,rfl,rfl,rfl⟩:=Lr s hb he hq hb' he' hf;have ii:i'=i:=Classical.byContradiction λhn=>(ru vq hpi hq hn).2 rfl;subst ii;have h0:=hQ p (List.mem_of_getElem? hq);have Ls:gz (e'.Q.set i' (sJ p y)):=C3 hQ i' ⟨h0.1,h0.2.1,h0.2.2⟩;have st:=mv.set;rw[qd Ls,ht,hr]at st;have L':=L.settle s hb hst Ls clock' st;rw[Ub vq hq,hG]at L';have o:=(s.is.bk b' AR).ok;exact hk h' ⟨_,d.W,d.wc,d.F,d.B⟩ s' L' (vw hb (st.cnt o) _ _ (Nat.le_succ _) _) (vX.Xf AR mv.fr) (Er hb _ _)
end
end Go.Proofs
end
