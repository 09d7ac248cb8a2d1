/-
  PROVED HERE: a part of the proof (AW1, AW2, AG1, AG2, AG3, AG4, AG5, AG6, AG7, AP1, AG8, AP2, AR1, AR2, AH1, TX1, TX2, TX3, TX4).
-/
import Derived.Test.YtmllggkhfmjpgaaGreatDoorG7
import Derived.Test.YtmllggkhfmjpgaaGreatDoorG3
import Derived.Test.YtmllggkhfmjpgaaGreatDoorRZ
import Derived.Test.YtmllggkhfmjpgaaGreatDoorG6
set_option linter.unusedVariables false
set_option linter.unusedSimpArgs false
set_option maxRecDepth 100000
set_option maxHeartbeats 4000000
noncomputable section
namespace Go.Proofs
open Go.Vai Go.Clashes
open Tryz (prog)
section
variable {h:af}{a:TA}{N:Nat}{d:TD}{H X:Int->Int->Int}
theorem Vs(s:Dh h a N d)(L:Lone d.Ts H X)(hlo:h.lo<=h.nx){k:Nat}{b:TB}(hb:d.Ts[k]? = some b){t r id:Int}(hst:eN t r a.c.S=(k:Int)){e:HE}(he:e∈b.M)(ht:e.t=t)(hr:e.r=r)(hQ:e.Q=[⟨id,X t r,H t r,H t r,0⟩])(hH:H t r≠0)(to:Int)(V:KQ)(hk:∀h' d',Dh h' a (N+1) d'->Lone d'.Ts H (jD X t r to)->kW d d' k->x_ d.Ts a.bw a.bp a.bl h h'->d'.Ts.map (·.bm)=d.Ts.map (·.bm)->V (X8 0) h'):av prog 304 [UV a.tb,X8 id,X8 to] h V:=by
 have yX:=List.mem_of_getElem? hb;have uni:∀(b':TB)(e':HE)(p:R5),b'∈d.Ts->e'∈b'.M->cL e'.Q id=some p->b'=b/\e'=e/\p=⟨id,X t r,H t r,H t r,0⟩:=by
  intro b' e' p hb' he' hf;obtain⟨i,hi,hid⟩:=sE ((s.is.bk b' hb').good e' he').vq hf;obtain⟨rfl,rfl⟩:=s.yW hb' yX he' he (List.mem_of_getElem? hi) (by rw[hQ];exact .head _) hid;rw[hQ,jQ,if_pos rfl]at hf;exact⟨rfl,rfl,(Option.some.inj hf).symm⟩
 refine UX s hlo id to _ ?_ ?_ ?_ ?_
 .intro hn;have:=hn b yX e he;rw[hQ,jQ,if_pos rfl]at this;cases this
 .intro k' b' h' e' p hb' he' hf ⟨o,ho,hne,_⟩ _;obtain⟨rfl,rfl,rfl⟩:=uni b' e' p (List.mem_of_getElem? hb') he' hf;rw[hQ,List.mem_singleton]at ho;subst ho;exact absurd rfl hne
 .intro k' b' h' e' p hb' he' hf _ hs _;obtain⟨rfl,rfl,rfl⟩:=uni b' e' p (List.mem_of_getElem? hb') he' hf;simp at hs
 .intro k' b' h' M' clock' e' p i hb' he' hpi hf _ _ mv s';obtain⟨rfl,rfl,rfl⟩:=uni b' e' p (List.mem_of_getElem? hb') he' hf;have h1:=s.nm k' b' hb' e' he';rw[ht,hr,hst]at h1;obtain rfl:k'=k:=by omega
  have i0:i=0:=by
   have:=(List.getElem?_eq_some_iff.1 hpi).1;rw[hQ]at this;simpa using this
  subst i0;have st:=mv.set;rw[hQ,List.set_cons_zero,show yP ⟨id,X t r,H t r,H t r,0⟩ to=⟨id,jD X t r to t r,H t r,H t r,0⟩by rw[tF];rfl,yb hH,ht,hr]at st;have L':=L.OV s hb hst hH clock' st λt' r' hn=>mW X hn;rw[yg]at L';have o:=(s.is.bk b' yX).ok;exact hk h' ⟨_,d.W,d.wc,d.F,d.B⟩ s' L' (wN hb (st.cnt o) _ _ (Nat.le_succ _) _) (x_.YJ yX mv.fr) (FD hb _ _)
end
section
variable {h:af}{A:WA}{a:TA}{N:Nat}{d:TD}{R:RD}{H X:Int->Int->Int}
theorem agj{β:Type}{fl:β}{h:af}{b:Nat}(g:h.bl.get b=some J1)(k:Int)(hk:k=3)(V:X3 β):cq fl prog 3 Value.nilFunc false (.map (some b)) (X8 k) h V=V (.func (.func 214) ⟨[]⟩ ⟨[]⟩) h:=by
 subst hk;unfold cq iP;rw[Qs];simp only[g,J1];rw[findF,if_neg X7,findF,if_neg X7,findF,if_pos rfl];rfl
def FN(H X:Int->Int->Int)(a:iT):Int->Int->Int:=if H a.t a.r=0 then X else jD X a.t a.r a.to
theorem Zf(s:WS h A a N d R)(L:Lone d.Ts H X){i k:Nat}{c:CR}(hi:R.cs[i]? = some (some c)){b:TB}(hb:d.Ts[k]? = some b)(hst:eN c.a.t c.a.r a.c.S=(k:Int))(hx:c.a.x=X c.a.t c.a.r)(V:KQ)(hk:∀h' d',WS h' A a (N+1) d' { R with cs:=R.cs.set i (some { c with out:=if H c.a.t c.a.r=0 then 6 else 1 }) }->Lone d'.Ts H (FN H X c.a)->kW d d' k->WK a h h'->V (.tuple ⟨[]⟩) h'):av prog 214 [UV c.ca] h V:=by
 obtain⟨gc,c1,c2⟩:=b6 s hi;have gc':=gc;unfold cF at gc';have gw:=s.r.gw;have hlo:=s.lo;have fin:∀h' d',WS h' A a (N+1) d' R->Lone d'.Ts H (FN H X c.a)->kW d d' k->WK a h h'->V (.tuple ⟨[]⟩) ⟨h'.nx,h'.bl.a_ c.ca (cF A.wb { c with out:=if H c.a.t c.a.r=0 then 6 else 1 }),h'.lo⟩:=λh' d' s' L' g' w'=>by
  obtain⟨wK,_,_⟩:=b6 s' hi;exact hk _ d' (WS.jt s' hi rfl) L' g' (w'.trans (WS.wJ s' wK (by simp[ki]) X7 _))
 unfold cF at fin;apply X9;rw[adF];simp(disch:=try exact Y)only[Wz,aN,gc',gw];rw[hx];refine wM s.t L hlo c.a.t c.a.r _ ?_ ?_
 .intro hH h1 bN;have s1:=s.le bN;obtain⟨Ad,_,_⟩:=b6 s1 hi;unfold cF at Ad;simp(disch:=try exact Y)only[Wz,aN,Ad];have:=fin h1 d (s1.up (Nat.le_succ _)) (by unfold FN;rw[if_pos hH];exact L) (kW.refl _ _) (s.OX bN);rw[if_pos hH]at this;exact this
 .intro hH h1 k' b' e id hb' Dj he ht hr hQ bN;obtain rfl:k'=k:=by omega
  rw[hb]at hb';cases hb';have s1:=s.le bN;have n1:=bN.nx;have l1:=bN.lo;obtain⟨Ad,c11,_⟩:=b6 s1 hi;have agk:=Ad;unfold cF at agk;have gw1:=s1.r.gw;simp(disch:=try exact Y)only[Wz];refine⟨λl' h'=>Le h1 h',?_,?_⟩
  .simp(disch:=try exact Y)only[Wz,Iv,aN,agk];by_cases hto:c.a.to<0
   .simp(disch:=try exact Y)only[Wz,f_ hto,Iu,aN,agk,gw1];refine Cm s1 L c.a.t c.a.r _ ?_;intro v Q h2 hQ hv bD;obtain⟨vx,vc,ev,_⟩:=(show Sl bT h2 v Q from hv)
    have hlen:∀(β:Type)(fl:β)(h':af)(V:X3 β),bU fl v h' V=V (X8 (Q.length:Int)) h':=λβ fl h' V=>by rw[ev];exact iR _ _ _ _ _
    have hQl:Q.length<=1:=by rcases hQ with rfl|⟨_,_,rfl⟩<;>simp
    have n2:=bD.nx;have l2:=bD.lo;simp(disch:=try exact Y)only[Wz,hlen];refine⟨λn l h3=>∃j:Nat,ah l 14=X8 (j:Int)/\n=Q.length-j/\j<=Q.length/\Le h2 h3,⟨_,0,rfl,rfl,X1,Le.refl _⟩,?_⟩;rintro n l h3 ⟨j,e1,rfl,hj,dM⟩;have n3:=dM.nx;have l3:=dM.lo;by_cases hlt:j<Q.length
    .obtain⟨p,hp⟩:∃p,Q[j]? = some p:=⟨_,List.getElem?_eq_getElem hlt⟩
     obtain⟨b4,o4,hb4,hx4,WQ,_⟩:=WJ hv j hp;have hps:p.s=0:=by
      have hm:=List.mem_of_getElem? hp;rcases hQ with rfl|⟨i',m',rfl⟩
      .nomatch hm
      .rw[List.mem_singleton]at hm;subst hm;rfl
     rw[<-dM.get _ hb4]at WQ;simp(disch:=try exact Y)only[Wz,e1,f_ (show(j:Int)<(Q.length:Int)by omega),Is,hx4,WQ,bT,hps];exact⟨_,X1,j+1,rfl,rfl,X1,dM.trans ((Le.refl h3).new _)⟩
    .simp(disch:=try exact Y)only[Wz,e1,d_ (show(Q.length:Int)<=(j:Int)by omega)];exact bD.trans dM
   .simp(disch:=try exact Y)only[Wz,d_ (show 0<=c.a.to by omega)];exact Le.refl _
  .rintro l' h3 dM;have s3:=s1.le dM;obtain⟨wK,c31,_⟩:=b6 s3 hi;have gw3:=s3.r.gw;have hne:c.ca≠A.wb:=dK wK gw3 X7;have k3:=(s.OX (bN.trans dM)).trans (WS.wJ s3 wK (by simp[ki]) X7 (cF A.wb { c with out:=1 }));have s3':=WS.jt s3 hi (c':={ c with out:=1 }) rfl;have lo3:=s3.lo;have amn:=wK;unfold cF at amn s3' k3;simp(disch:=try exact Y)only[Wz,Iw,aN,amn,gw3];refine Vs s3'.t L (by exact lo3) hb hst he ht hr hQ hH c.a.to _ ?_;intro h4 d4 t4 L4' g4 f4 b4;simp(disch:=try exact Y)only[Wz];have s4:=s3'.table t4 f4 b4;refine hk h4 d4 ?_ (by unfold FN;rw[if_neg hH];exact L4') g4 (k3.trans (s3'.kfr f4));rw[if_neg hH];exact s4
theorem Zg(s:WS h A a N d R)(L:Lone d.Ts H X){i k:Nat}{c:CR}(hi:R.cs[i]? = some (some c))(xF:c.wt=false){b:TB}(hb:d.Ts[k]? = some b)(hst:eN c.a.t c.a.r a.c.S=(k:Int))(hx:c.a.x=X c.a.t c.a.r)(h3:c.a.k=3)(V:KQ)(hk:∀h' d',WS h' A a (N+1) d' { R with cs:=R.cs.set i (some { c with ph:=3,out:=if H c.a.t c.a.r=0 then 6 else 1 }) }->Lone d'.Ts H (FN H X c.a)->kW d d' k->WK a h h'->V (.tuple ⟨[]⟩) h'):av prog 106 [UV c.ca] h V:=by
 obtain⟨gc,c1,c2⟩:=b6 s hi;have gc':=gc;unfold cF at gc';have hlo:=s.lo;have hil:=(List.getElem?_eq_some_iff.1 hi).1;apply X9;rw[LQ];refine⟨λl' h'=>∃d',WS h' A a (N+1) d' { R with cs:=R.cs.set i (some { c with out:=if H c.a.t c.a.r=0 then 6 else 1 }) }/\Lone d'.Ts H (FN H X c.a)/\kW d d' k/\WK a h h',?_,?_⟩
 .simp(disch:=try exact Y)only[Wz,vT,aN,gc',xF,vS];refine Mp h _ hlo ?_;intro b0 hz lez g0;have s1:=s.le lez;have k1:=s.OX lez;have Ad:=(lez.get _ c1).trans gc';simp(disch:=try exact Y)only[Wz,aN,Ad,agj g0 _ h3,List.nil_append,List.append_nil];refine Zf s1 L hi hb hst hx _ ?_;intro h4 d4 s4 L4' g4 k4;rw[xF]at s4;exact⟨d4,s4,L4',g4,k1.trans k4⟩
 .rintro l' h' ⟨d',s',L',g',k'⟩;have hi':(R.cs.set i (some { c with out:=if H c.a.t c.a.r=0 then 6 else 1 }))[i]? = some (some { c with out:=if H c.a.t c.a.r=0 then 6 else 1 }):=by rw[List.getElem?_set,if_pos rfl,if_pos hil]
  obtain⟨wK,_,c3⟩:=b6 s' hi';refine FI { c with out:=if H c.a.t c.a.r=0 then 6 else 1 } wK c3 3 _ rfl _ ?_;have s4:=WS.jt s' hi' (c':={ c with ph:=3,out:=if H c.a.t c.a.r=0 then 6 else 1 }) rfl;simp only[List.set_set]at s4;exact hk _ d' s4 L' g' (k'.trans (WS.wJ s' wK (by simp[ki]) X7 _))
theorem Kc(s:WS h A a N d R)(L:Lone d.Ts H X){i k:Nat}{c:CR}(hi:R.cs[i]? = some (some c))(wL:c.ph=2)(hbi:R.bits[i]? = some 0)(xF:c.wt=false){b:TB}(hb:d.Ts[k]? = some b)(hst:eN c.a.t c.a.r a.c.S=(k:Int))(hsk:c.st=(k:Int)){o:Option (Nat × Int)}(hl:R.eO[k]? = some o)(hx:c.a.x=X c.a.t c.a.r)(hm:pG c.a=true)(h3:c.a.k=3)(V:KQ)(hk:∀h' d',WS h' A a (N+1) d' { R with cs:=R.cs.set i (some { c with ph:=3,out:=if H c.a.t c.a.r=0 then 6 else 1 }) }->Lone d'.Ts H (FN H X c.a)->kW d d' k->WK a h h'->V (.tuple ⟨[.bool false,X8 0,X8 0]⟩) h'):av prog 15 [UV A.wb,X8 (i:Int)] h V:=by
 have gw:=s.r.gw;have YU:=s.r.gc;have hil:=y8 s hi;have r:(R.cs.map λo=>dF (o.map (·.ca)))[i]? = some (UV c.ca):=kV s hi;obtain⟨gc,c1,c2⟩:=b6 s hi;have hlc:(R.cs.map λo=>dF (o.map (·.ca))).length=A.n:=by rw[List.length_map];exact s.r.lc
 have gc':=gc;unfold cF yZ at gc';rw[wL]at gc';have h2:decide (((2:Nat):Int)=1)=false:=by decide
 apply X9;rw[Hr];simp(disch:=try exact Y)only[Wz,ko,tw];refine nV s hil _ ?_;simp(disch:=try exact Y)only[Wz];refine oT s hi hbi hsk hl _ ?_;rw[wL,h2];simp(disch:=try exact Y)only[Wz,Bool.not_false,Bool.true_or,tu,aN,gw,bB,YU,r,gc',Nat.mul_one,qQ];refine Zg s L hi xF hb hst hx h3 _ ?_;intro h' d' s' L' g' k';have hi':(R.cs.set i (some { c with ph:=3,out:=if H c.a.t c.a.r=0 then 6 else 1 }))[i]? = some (some { c with ph:=3,out:=if H c.a.t c.a.r=0 then 6 else 1 }):=by rw[List.getElem?_set,if_pos rfl,if_pos (by have:=s.r.lc;omega)]
 obtain⟨wB,_,_⟩:=b6 s' hi';unfold cF at wB;simp(disch:=try exact Y)only[Wz,aN,wB];exact hk h' d' s' L' g' k'
end
def TH(R:RD)(n:Nat)(x:iT)(out:Int):Prop:=
 (n=0/\R.cs[0]? = some none/\∀k,k<2->R.eO[k]? = some none)\/
 ∃(c:CR)(k:Nat),k<2/\R.cs[0]? = some (some c)/\c.a=x/\c.wt=false/\c.th=((0:Nat):Int)/\c.st=(k:Int)/\eN x.t x.r 2=(k:Int)/\pG x=true/\(∀j,j<2->j≠k->R.eO[j]? = some none)/\
  ((n=3/\c.ph=1/\R.eO[k]? = some none)\/(n=2/\c.ph=2/\∃p,R.eO[k]? = some (some (p,c.th)))\/(n=1/\c.ph=3/\(∃p,R.eO[k]? = some (some (p,c.th)))/\c.out=out/\out≠0))
def Ke(d:TD)(N:Nat):Prop:=(∀b∈d.Ts,b.M.length<=N)/\24<=d.F.length+N
theorem Ke.up{d:TD}{N N':Nat}(c:Ke d N)(h:N<=N'):Ke d N':=⟨λb hb=>Nat.le_trans (c.1 b hb) h,by have:=c.2;omega⟩
theorem Ke.agl{d d':TD}{N k:Nat}(c:Ke d N)(g:kW d d' k):Ke d' (N+1):=by
 refine⟨λb' hb'=>?_,by have:=c.2;have:=g.f;omega⟩;obtain⟨j,hj⟩:=List.getElem?_of_mem hb';obtain⟨b,hb,hl⟩:=g.m j b' hj;have:=c.1 b (List.mem_of_getElem? hb);split at hl<;>omega
structure WI(h:af)(A:WA)(a:TA)(H X:Int->Int->Int)(N n:Nat)(x:iT)(out:Int):Prop where
 w:∃(d:TD)(R:RD)(N0:Nat),WS h A a N0 d R/\Lone d.Ts H X/\R.bits[0]? = some 0/\0<=R.begun/\R.begun<=N/\N0+n / 2<=N/\Ke d N0/\TH R n x out
 cS:a.c.S=2
 hd:a.bh=8
section
variable {h h':af}{A:WA}{a:TA}{H X:Int->Int->Int}{N n:Nat}{x:iT}{out:Int}
theorem WI.le(s:WI h A a H X N n x out)(l:Le h h'):WI h' A a H X N n x out:=by
 obtain⟨⟨d,R,N0,s1,s2⟩,s3,s4⟩:=s;exact⟨⟨d,R,N0,s1.le l,s2⟩,s3,s4⟩
theorem WI.lo(s:WI h A a H X N n x out):h.lo<=h.nx:=by
 obtain⟨⟨d,R,N0,s1,s2⟩,s3,s4⟩:=s;exact s1.lo
theorem WI.put(s:WI h A a H X N n x out){b:Nat}{v:List Value}{t:TypeId}{o:Bool}(hg:h.bl.get b=some (aj v t o))(ht:¬mE t o)(hr:¬ki t o)(ob:bP):WI ⟨h.nx,h.bl.a_ b ob,h.lo⟩ A a H X N n x out:=by
 obtain⟨⟨d,R,N0,s1,s2⟩,s3,s4⟩:=s;exact⟨⟨d,R,N0,s1.Y3 hg ht hr ob,s2⟩,s3,s4⟩
theorem WI.rest(s:WI h A a H X N 0 x out)(x':iT)(out':Int):WI h A a H X N 0 x' out':=by
 obtain⟨⟨d,R,N0,s1,s2,s3,s4,s5,s6,sc,t⟩,s7,s8⟩:=s;refine⟨⟨d,R,N0,s1,s2,s3,s4,s5,s6,sc,?_⟩,s7,s8⟩;rcases t with t|⟨c,k,_,_,_,_,_,_,_,_,_,t⟩
 .exact .inl t
 .rcases t with⟨e,_⟩|⟨e,_⟩|⟨e,_⟩<;>omega
theorem WI.leV(s:WI h A a H X N n x out){v:Value}(l:XU v h h')(hv:∀d,yN v d->d<h.nx/\∃vs o,h.bl.get d=some (aj vs 160 o))(one:∀d d',yN v d->yN v d'->d=d')(hs:∀d,yN v d->∃ob,h'.bl.get d=some ob):WI h' A a H X N n x out:=by
 by_cases hb:∃d,yN v d
 .obtain⟨d,hd⟩:=hb;obtain⟨h1,vs,o,h2⟩:=hv d hd;obtain⟨ob,h3⟩:=hs d hd;have s1:=s.put h2 (by unfold mE;cases o<;>decide) (by unfold ki;cases o<;>decide) ob;refine s1.le ⟨l.nx,l.lo,λc hc=>?_⟩;by_cases e:c=d
  .subst e;rw[h3];exact(T.ay _ _ _).symm
  .exact(l.get c hc λhb=>e (one c d hb hd)).trans (T.aD _ _ (λe'=>e e'.symm)).symm
 .exact s.le ⟨l.nx,l.lo,λc hc=>l.get c hc λhb'=>hb ⟨c,hb'⟩⟩
theorem QU(s:WI h A a H X N 0 x out)(hN:N<=900)(y:iT)(hm:pG y=true)(o:Int)(V:KQ)(hk:∀h',WI h' A a H X (N+1) 3 y o->WK a h h'->V (X8 0) h'):av prog 11 [UV A.wb,X8 ((0:Nat):Int),.agg ⟨FG y⟩] h V:=by
 obtain⟨⟨d,R,N0,s1,s2,s3,s4,s5,s6,sc,t⟩,s7,s8⟩:=s;obtain⟨t1,t2⟩:R.cs[0]? = some none/\∀k,k<2->R.eO[k]? = some none:=by
  rcases t with⟨_,t⟩|⟨c,k,_,_,_,_,_,_,_,_,_,t⟩
  .exact t
  .rcases t with⟨e,_⟩|⟨e,_⟩|⟨e,_⟩<;>omega
 refine YV s1 t1 y ⟨s4,X1⟩ _ ?_ ?_
 .intro e;rw[hm]at e;cases e
 ·intro _ h' ca s' k';have hl:br y.t y.r≠-1:=by
   unfold pG at hm;rw[Bool.and_eq_true,decide_eq_true_eq]at hm;exact hm.1
  obtain⟨k,hk2,hst⟩:=Y5 hl;refine hk h' ⟨⟨d,_,N0,s',s2,s3,by show 0<=R.begun+1;omega,by show R.begun+1<=((N+1:Nat):Int);omega,X1,sc,.inr ⟨_,k,hk2,tG t1,rfl,rfl,rfl,by rw[s7];exact hst,hst,hm,λj hj _=>t2 j hj,.inl ⟨rfl,rfl,t2 k hk2⟩⟩⟩,s7,s8⟩ k'
theorem QW(s:WI h A a H X N n x out)(hn:n≠0)(V:KQ)(hk:V (.bool true) h):av prog 64 [UV A.wb,X8 ((0:Nat):Int)] h V:=by
 obtain⟨⟨d,R,N0,s1,s2,s3,s4,s5,s6,sc,t⟩,s7,s8⟩:=s;rcases t with⟨e,_⟩|⟨c,k,k2,hi,ha,hw,Di,hst,hs2,hm,ho,t⟩
 .exact absurd e hn
 .rcases t with⟨_,wL,hl⟩|⟨_,wL,p,hl⟩|⟨_,wL,⟨p,hl⟩,_⟩
  .refine oT s1 hi s3 hst hl _ ?_;rw[wL];exact hk
  .refine oT s1 hi s3 hst hl _ ?_;rw[wL];exact hk
  .refine oT s1 hi s3 hst hl _ ?_;rw[wL];exact hk
theorem Ee(s:WI h A a H X N 3 x out)(V:KQ)(hk:∀h',WI h' A a H X N 2 x out->WK a h h'->V (.tuple ⟨[.bool false,X8 0,X8 0]⟩) h'):av prog 15 [UV A.wb,X8 ((0:Nat):Int)] h V:=by
 obtain⟨⟨d,R,N0,s1,s2,s3,s4,s5,s6,sc,t⟩,s7,s8⟩:=s;rcases t with⟨e,_⟩|⟨c,k,k2,hi,ha,hw,Di,hst,hs2,hm,ho,t⟩
 .omega
 .rcases t with⟨_,wL,hl⟩|⟨e,_⟩|⟨e,_⟩
  .refine JY s1 hi wL s3 hst ⟨by rw[Di];omega,by rw[Di];omega⟩ hl _ ?_;intro h' s' k';exact hk h' ⟨⟨d,_,N0,s',s2,s3,s4,s5,X1,sc,.inr ⟨_,k,k2,tG hi,ha,hw,Di,hst,hs2,hm,λj hj hne=>(Ec hne).trans (ho j hj hne),.inr (.inl ⟨rfl,rfl,_,tG hl⟩)⟩⟩,s7,s8⟩ k'
  .omega
  .omega
theorem Vt(s:WI h A a H X N 1 x out)(V:KQ)(hk:∀h',WI h' A a H X N 0 x out->WK a h h'->V (.tuple ⟨[.bool true,X8 out,X8 0]⟩) h'):av prog 15 [UV A.wb,X8 ((0:Nat):Int)] h V:=by
 obtain⟨⟨d,R,N0,s1,s2,s3,s4,s5,s6,sc,t⟩,s7,s8⟩:=s;rcases t with⟨e,_⟩|⟨c,k,k2,hi,ha,hw,Di,hst,hs2,hm,ho,t⟩
 .omega
 .rcases t with⟨e,_⟩|⟨e,_⟩|⟨_,wL,⟨p,hl⟩,hout,hnz⟩
  .omega
  .omega
  .subst hout;refine Mo s1 hi wL s3 hst Di hnz hl _ ?_;intro h' s' k';refine hk h' ⟨⟨d,_,N0,s',s2,s3,s4,s5,X1,sc,.inl ⟨rfl,tG hi,λj hj=>?_⟩⟩,s7,s8⟩ k';by_cases e:j=k
   .subst e;exact tG hl
   .exact(Ec e).trans (ho j hj e)
theorem Kf(s:WI h A a H X N 2 x out)(hN:N<=1000)(hx:x.x=X x.t x.r)(hx0:x.k≠3->0<=x.x)(V:KQ)(hkL:x.k=1->∀h',WI h' A a (jD H x.t x.r (bZ (H x.t x.r) x.m)) X N 1 x 1->WK a h h'->V (.tuple ⟨[.bool false,X8 0,X8 0]⟩) h')(hkF:x.k=1->H x.t x.r=0->8<=N->∀h',WI h' A a H X N 1 x 5->WK a h h'->V (.tuple ⟨[.bool false,X8 0,X8 0]⟩) h')(hkD:x.k=2->∀h',WI h' A a (jD H x.t x.r 0) X N 1 x (if H x.t x.r=0 then 6 else 1)->WK a h h'->V (.tuple ⟨[.bool false,X8 0,X8 0]⟩) h')(hkH:x.k=3->∀h',WI h' A a H (FN H X x) N 1 x (if H x.t x.r=0 then 6 else 1)->WK a h h'->V (.tuple ⟨[.bool false,X8 0,X8 0]⟩) h'):av prog 15 [UV A.wb,X8 ((0:Nat):Int)] h V:=by
 obtain⟨⟨d,R,N0,s1,s2,s3,s4,s5,s6,sc,t⟩,s7,s8⟩:=s;rcases t with⟨e,_⟩|⟨c,k,k2,hi,ha,hw,Di,hst,hs2,hm,ho,t⟩
 .omega
 .rcases t with⟨e,_⟩|⟨_,wL,p,hl⟩|⟨e,_⟩
  .omega
  ·subst ha;have mk:∀h' H' X' o' d' c',c'={ c with ph:=3,out:=o' }->o'≠0->Ke d' (N0+1)->WS h' A a (N0+1) d' { R with cs:=R.cs.set 0 (some c') }->Lone d'.Ts H' X'->WI h' A a H' X' N 1 c.a o':=by
    intro h' H' X' o' d' c' e hz cn s' L';subst e;exact⟨⟨d',_,N0+1,s',L',s3,s4,s5,X1,cn,.inr ⟨_,k,k2,tG hi,rfl,hw,Di,hst,hs2,hm,ho,.inr (.inr ⟨rfl,rfl,⟨p,hl⟩,rfl,hz⟩)⟩⟩,s7,s8⟩
   obtain⟨b,hbk⟩:∃b,d.Ts[k]? = some b:=by
    have h2:=s1.t.is.cS;rw[s7]at h2;exact⟨_,List.getElem?_eq_getElem X1⟩
   have Dj:eN c.a.t c.a.r a.c.S=(k:Int):=by rw[s7];exact hs2
   have hz:(if H c.a.t c.a.r=0 then(6:Int)else 1)≠0:=by split<;>decide
   have atr:c.a.k=1\/c.a.k=2\/c.a.k=3:=by
    have hm2:=hm;unfold pG at hm2;rw[Bool.and_eq_true]at hm2;have hm2:=hm2.2;split at hm2
    .exact .inl (by assumption)
    .split at hm2
     .exact .inr (.inr (by assumption))
     .rw[decide_eq_true_eq]at hm2;exact .inr (.inl hm2)
   rcases atr with e1|e2|e3
   .have hx0:=hx0 X1;by_cases hroom:H c.a.t c.a.r=0/\(d.F=[]\/a.bh<=b.M.length)
    .obtain⟨hH,hf⟩:=hroom;refine Kb s1 s2 X1 hi wL s3 hw hbk Dj hst hl hx hx0 hm e1 hH hf _ ?_;intro h' s' k';refine hkF e1 hH ?_ h' (mk h' H X 5 d _ rfl X7 (sc.up (Nat.le_succ _)) (s'.up (Nat.le_succ _)) s2) k';rcases hf with e|e
     .have:=sc.2;rw[e]at this;simp at this;omega
     .have:=sc.1 b (List.mem_of_getElem? hbk);rw[s8]at e;omega
    .refine Co s1 s2 X1 hi wL s3 hw hbk Dj hst hl hx hx0 hm X1 ?_ ?_ _ ?_
     .intro _ hH e;exact hroom ⟨hH,.inl e⟩
     .intro _ hH;rcases Nat.lt_or_ge b.M.length a.bh with h1|h1
      .exact h1
      .exact absurd ⟨hH,.inr h1⟩ hroom
     .intro h' d' s' L' g' k';unfold yd Mk at *
      rw[if_pos e1]at s' L';exact hkL e1 h' (mk h' _ X 1 d' _ rfl X7 (sc.agl g') s' L') k'
   .refine Co s1 s2 X1 hi wL s3 hw hbk Dj hst hl hx (hx0 X1) hm X1 (λe=>by omega) (λe=>by omega) _ ?_;intro h' d' s' L' g' k';unfold yd Mk at *
    rw[if_neg X1]at s' L';exact hkD e2 h' (mk h' _ X _ d' _ rfl hz (sc.agl g') s' L') k'
   .refine Kc s1 s2 hi wL s3 hw hbk Dj hst hl hx hm e3 _ ?_;intro h' d' s' L' g' k';exact hkH e3 h' (mk h' H _ _ d' _ rfl hz (sc.agl g') s' L') k'
  .omega
end
abbrev pt(b:Nat):Value:=UV b
def KI(t:TypeId):Prop:=t=155\/t=224\/t=288\/t=160
def Kg(t:TypeId):Prop:=KI t\/t=227\/t=46
theorem Kg.nt{t:TypeId}{o:Bool}(h:Kg t):¬mE t o/\¬ki t o:=by
 rcases h with(rfl|rfl|rfl|rfl)|rfl|rfl<;>refine⟨?_,?_⟩<;>(first|unfold mE|unfold ki)<;>cases o<;>decide
structure FK(a:TA)(h h':af):Prop where
 nx:h.nx<=h'.nx
 lo:h'.lo=h.lo
 ty:∀d vs t o,d<h.nx->h.bl.get d=some (aj vs t o)->¬mE t o->¬ki t o->¬KI t->h'.bl.get d=h.bl.get d
 ro:∀d,d<h.nx->(∀vs t o,h.bl.get d≠some (aj vs t o))->(∀es c,h.bl.get d≠some (.map es c))->h'.bl.get d=h.bl.get d
 mp:∀d es c,d<h.nx->h.bl.get d=some (.map es c)->d∉a.ms->h'.bl.get d=h.bl.get d
theorem FK.trans{a:TA}{h h1 h2:af}(x:FK a h h1)(y:FK a h1 h2):FK a h h2 where
 nx:=Nat.le_trans x.nx y.nx
 lo:=y.lo.trans x.lo
 ty d vs t o hd hg h1 h2 h3:=by
  have e:=x.ty d vs t o hd hg h1 h2 h3;exact(y.ty d vs t o (Nat.lt_of_lt_of_le hd x.nx) (e.trans hg) h1 h2 h3).trans e
 ro d hd h1 h2:=by
  have e:=x.ro d hd h1 h2;exact(y.ro d (Nat.lt_of_lt_of_le hd x.nx) (λvs t o=>by rw[e];exact h1 vs t o) (λes c=>by rw[e];exact h2 es c)).trans e
 mp d es c hd hg hn:=by
  have e:=x.mp d es c hd hg hn;exact(y.mp d es c (Nat.lt_of_lt_of_le hd x.nx) (e.trans hg) hn).trans e
theorem WK.fk{a:TA}{h h':af}(k:WK a h h'):FK a h h':=⟨k.nx,k.lo,λd vs t o hd hg h1 h2 _=>k.ty d vs t o hd hg h1 h2,k.ro,k.mp⟩
theorem FK.le{a:TA}{h h':af}(l:Le h h'):FK a h h':=⟨l.nx,l.lo,λd _ _ _ hd _ _ _ _=>l.get d hd,λd hd _ _=>l.get d hd,λd _ _ hd _ _=>l.get d hd⟩
theorem FK.put{a:TA}{h:af}{x:Nat}{v:List Value}{t:TypeId}{o:Bool}(hg:h.bl.get x=some (aj v t o))(ht:KI t)(ob:bP):FK a h ⟨h.nx,h.bl.a_ x ob,h.lo⟩:=by
 refine⟨Nat.le_refl _,rfl,λd vs t' o' _ hgd _ _ hc=>T.aD _ _ ?_,λd _ h1 _=>T.aD _ _ ?_,λd _ _ _ hgd _=>T.aD _ _ (dL hg hgd)⟩
 .rintro rfl;rw[hg]at hgd;obtain⟨rfl,rfl⟩:=gV hgd;exact hc ht
 .rintro rfl;exact h1 _ _ _ hg
theorem FK.leV{a:TA}{h h':af}{v:Value}(l:XU v h h')(hv:∀d,yN v d->∃vs o,h.bl.get d=some (aj vs 160 o)):FK a h h':=by
 refine⟨l.nx,l.lo,λd vs t' o' hd hgd _ _ hc=>l.get d hd λhb=>?_,λd hd h1 _=>l.get d hd λhb=>?_,λd _ _ hd hgd _=>l.get d hd λhb=>?_⟩
 .obtain⟨vs',o,e⟩:=hv d hb;rw[e]at hgd;obtain⟨rfl,rfl⟩:=gV hgd;exact hc (.inr (.inr (.inr rfl)))
 .obtain⟨vs',o,e⟩:=hv d hb;exact h1 _ _ _ e
 .obtain⟨vs',o,e⟩:=hv d hb;exact dL e hgd rfl
structure KT(T:TypeId->Prop)(h h':af):Prop where
 nx:h.nx<=h'.nx
 lo:h'.lo=h.lo
 ty:∀d vs t o,d<h.nx->h.bl.get d=some (aj vs t o)->T t->h'.bl.get d=h.bl.get d
abbrev KA:=KT Kg
theorem WK.ka{a:TA}{h h':af}(k:WK a h h'):KA h h':=⟨k.nx,k.lo,λd vs t o hd hg ht=>k.ty d vs t o hd hg ht.nt.1 ht.nt.2⟩
theorem KT.le{T:TypeId->Prop}{h h':af}(l:Le h h'):KT T h h':=⟨l.nx,l.lo,λd _ _ _ hd _ _=>l.get d hd⟩
theorem KT.mono{T T':TypeId->Prop}{h h':af}(k:KT T h h')(m:∀t,T' t->T t):KT T' h h':=⟨k.nx,k.lo,λd vs t o hd hg ht=>k.ty d vs t o hd hg (m t ht)⟩
def QX(t:TypeId):Prop:=t=155\/t=288\/t=227\/t=46
theorem QX.a{t:TypeId}(h:QX t):Kg t:=by
 rcases h with h|h|h|h
 .exact .inl (.inl h)
 .exact .inl (.inr (.inr (.inl h)))
 .exact .inr (.inl h)
 .exact .inr (.inr h)
theorem ktV{α:Type}{enc:α->List Value}{h h':af}{v:Value}{L:List α}(l:XU v h h')(p:gK enc 160 h v L):KT (λt=>t≠160) h h':=⟨l.nx,l.lo,λd vs t o hd hg ht=>l.get d hd λhb=>by
 obtain⟨_,vs',e⟩:=p.blk hb;rw[hg]at e;exact bJ ht e⟩
structure AA where
 ab:Nat
 pb:Nat
 lb:Nat
 wb:Nat
 th:Int
 most:Int
structure AD where
 ni:Int
 asked:List L4
 has:List L4
 bu:List L4
structure CD where
 k:Int
 t:Int
 r:Int
 m:Int
 w:Int
 ask:iT
 sD:Int
 beh:FuncId
 Kh:Value
 seen:Bool
 code:Int
 fM:List N3
 goes:List L4
structure jF(h:af)(z:AA)(D:AD)(cp:Option Nat):Prop where
 FO:z.ab<h.nx/\h.lo<=z.ab
 ga:∃va vh,h.bl.get z.ab=some (aj [pt z.wb,X8 z.th,X8 D.ni,va,vh,pt z.pb,dF cp] 155 false)/\mQ h va D.asked/\mQ h vh D.has
 UZ:z.pb<h.nx/\h.lo<=z.pb
 gp:h.bl.get z.pb=some (aj [pt z.lb,X8 (-1-z.th),X8 z.most] 227 false)
 OW:z.lb<h.nx/\h.lo<=z.lb
 gl:∃vp,h.bl.get z.lb=some (aj [vp] 288 false)/\mQ h vp D.bu
def agO(z:AA)(D:AD)(va vh:Value)(cp:Option Nat):bP:=aj [pt z.wb,X8 z.th,X8 D.ni,va,vh,pt z.pb,dF cp] 155 false
def dR(z:AA)(c:CD)(vn vg:Value):bP:=aj [vn,vg,X8 c.k,X8 0,X8 c.t,X8 c.r,X8 c.m,X8 0,X8 c.w,X8 c.ask.k,X8 c.ask.x,X8 c.ask.t,X8 c.ask.r,X8 c.ask.m,X8 c.ask.w,X8 c.ask.to,X8 c.sD,.func (.func c.beh) ⟨[pt z.ab]⟩ ⟨[]⟩,c.Kh,.bool c.seen,X8 c.code] 224 false
structure jd(h:af)(z:AA)(kb:Nat)(c:CD):Prop where
 lt:kb<h.nx/\h.lo<=kb
 g:∃vn vg,h.bl.get kb=some (dR z c vn vg)/\gK kX 160 h vn c.fM/\gJ dn 4 46 h vg c.goes
 Kh:ef c.Kh=true
section
variable {h h':af}{z:AA}{D:AD}{cp:Option Nat}{kb:Nat}{c:CD}
theorem mQ.ka{v:Value}{L:List L4}(s:mQ h v L)(k:KT QX h h'):mQ h' v L:=s.keep k.nx λc vs op hc hg=>k.ty c vs _ op hc hg (.inr (.inr (.inr rfl)))
theorem mQ.fk{a:TA}{v:Value}{L:List L4}(s:mQ h v L)(k:FK a h h'):mQ h' v L:=s.keep k.nx λc vs op hc hg=>k.ty c vs _ op hc hg (Kg.nt (.inr (.inr rfl))).1 (Kg.nt (.inr (.inr rfl))).2 (by unfold KI;decide)
theorem jF.kt(s:jF h z D cp)(k:KT QX h h'):jF h' z D cp:=by
 have n:=k.nx;have l:=k.lo;obtain⟨va,vh,g1,g2,g3⟩:=s.ga;obtain⟨vp,q1,q2⟩:=s.gl;have a1:=s.FO;have a2:=s.UZ;have a3:=s.OW;exact⟨⟨X1,X1⟩,⟨va,vh,(k.ty _ _ _ _ a1.1 g1 (.inl rfl)).trans g1,g2.ka k,g3.ka k⟩,⟨X1,X1⟩,(k.ty _ _ _ _ a2.1 s.gp (.inr (.inr (.inl rfl)))).trans s.gp,⟨X1,X1⟩,vp,(k.ty _ _ _ _ a3.1 q1 (.inr (.inl rfl))).trans q1,q2.ka k⟩
theorem jF.ka(s:jF h z D cp)(k:KA h h'):jF h' z D cp:=s.kt (k.mono λ_ h=>h.a)
theorem jF.le(s:jF h z D cp)(l:Le h h'):jF h' z D cp:=s.kt (.le l)
theorem jd.ka(s:jd h z kb c)(k:KA h h'):jd h' z kb c:=by
 have n:=k.nx;have l:=k.lo;have a1:=s.lt;obtain⟨vn,vg,g1,g2,g3⟩:=s.g;exact⟨⟨X1,X1⟩,⟨vn,vg,(k.ty _ _ _ _ a1.1 g1 (.inl (.inr (.inl rfl)))).trans g1,g2.keep n l λc vs hc hg=>k.ty c vs _ _ hc hg (.inl (.inr (.inr (.inr rfl)))),g3.keep n l λc vs hc hg=>k.ty c vs _ _ hc hg (.inr (.inr rfl))⟩,s.Kh⟩
theorem jd.le(s:jd h z kb c)(l:Le h h'):jd h' z kb c:=s.ka (.le l)
theorem jF.set(s:jF h z D cp){D':AD}{cp':Option Nat}{va vh:Value}(h1:mQ h va D'.asked)(h2:mQ h vh D'.has)(h3:D'.bu=D.bu):jF ⟨h.nx,h.bl.a_ z.ab (agO z D' va vh cp'),h.lo⟩ z D' cp':=by
 obtain⟨va0,vh0,g1,_,_⟩:=s.ga;obtain⟨vp,q1,q2⟩:=s.gl;have kt:∀{v:Value}{L:List L4},mQ h v L->mQ ⟨h.nx,h.bl.a_ z.ab (agO z D' va vh cp'),h.lo⟩ v L:=λs=>s.keep (Nat.le_refl _) λc vs op hc hg=>T.aD _ _ (dK g1 hg X7);exact⟨s.FO,⟨va,vh,T.ay _ _ _,kt h1,kt h2⟩,s.UZ,(T.aD _ _ (dK g1 s.gp X7)).trans s.gp,s.OW,vp,(T.aD _ _ (dK g1 q1 X7)).trans q1,by rw[h3];exact kt q2⟩
theorem jF.atv(s:jF h z D cp){vp:Value}{P:List L4}(h1:mQ h vp P):jF ⟨h.nx,h.bl.a_ z.lb (aj [vp] 288 false),h.lo⟩ z { D with bu:=P } cp:=by
 obtain⟨va,vh,g1,g2,g3⟩:=s.ga;obtain⟨vp0,q1,_⟩:=s.gl;have kt:∀{v:Value}{L:List L4},mQ h v L->mQ ⟨h.nx,h.bl.a_ z.lb (aj [vp] 288 false),h.lo⟩ v L:=λs=>s.keep (Nat.le_refl _) λc vs op hc hg=>T.aD _ _ (dK q1 hg X7);exact⟨s.FO,⟨va,vh,(T.aD _ _ (dK q1 g1 X7)).trans g1,kt g2,kt g3⟩,s.UZ,(T.aD _ _ (dK q1 s.gp X7)).trans s.gp,s.OW,vp,T.ay _ _ _,kt h1⟩
theorem jF.put(s:jF h z D cp){x:Nat}{v:List Value}{t:TypeId}{o:Bool}(hg:h.bl.get x=some (aj v t o))(ht:t=224\/t=160)(ob:bP):jF ⟨h.nx,h.bl.a_ x ob,h.lo⟩ z D cp:=by
 obtain⟨va,vh,g1,g2,g3⟩:=s.ga;obtain⟨vp,q1,q2⟩:=s.gl;have up:∀{b:Nat}{w:List Value}{t':TypeId}{o':Bool},h.bl.get b=some (aj w t' o')->t≠t'->(h.bl.a_ x ob).get b=h.bl.get b:=λhb hn=>T.aD _ _ (dK hg hb hn);have n1:t≠155:=by rcases ht with rfl|rfl<;>decide
 have n2:t≠227:=by rcases ht with rfl|rfl<;>decide
 have n3:t≠288:=by rcases ht with rfl|rfl<;>decide
 have n4:t≠46:=by rcases ht with rfl|rfl<;>decide
 have kt:∀{v:Value}{L:List L4},mQ h v L->mQ ⟨h.nx,h.bl.a_ x ob,h.lo⟩ v L:=λs=>s.keep (Nat.le_refl _) λc vs op hc hg=>up hg n4;exact⟨s.FO,⟨va,vh,(up g1 n1).trans g1,kt g2,kt g3⟩,s.UZ,(up s.gp n2).trans s.gp,s.OW,vp,(up q1 n3).trans q1,kt q2⟩
theorem jd.put(s:jd h z kb c){x:Nat}{v:List Value}{t:TypeId}{o:Bool}(hg:h.bl.get x=some (aj v t o))(ht:t=155\/t=288)(ob:bP):jd ⟨h.nx,h.bl.a_ x ob,h.lo⟩ z kb c:=by
 obtain⟨vn,vg,g1,g2,g3⟩:=s.g;have up:∀{b:Nat}{w:List Value}{t':TypeId}{o':Bool},h.bl.get b=some (aj w t' o')->t≠t'->(h.bl.a_ x ob).get b=h.bl.get b:=λhb hn=>T.aD _ _ (dK hg hb hn);have n1:t≠224:=by rcases ht with rfl|rfl<;>decide
 have n2:t≠160:=by rcases ht with rfl|rfl<;>decide
 have n3:t≠46:=by rcases ht with rfl|rfl<;>decide
 exact⟨s.lt,⟨vn,vg,(up g1 n1).trans g1,g2.keep (Nat.le_refl _) rfl λc vs hc hg=>up hg n2,g3.keep (Nat.le_refl _) rfl λc vs hc hg=>up hg n3⟩,s.Kh⟩
theorem jd.mk'(hl:kb<h.nx/\h.lo<=kb){vs:List Value}{o:Bool}(g1:h.bl.get kb=some (aj vs 224 o)){c':CD}{vn vg:Value}(h1:gK kX 160 h vn c'.fM)(h2:gJ dn 4 46 h vg c'.goes)(h3:ef c'.Kh=true):jd ⟨h.nx,h.bl.a_ kb (dR z c' vn vg),h.lo⟩ z kb c':=by
 have up:∀{b:Nat}{w:List Value}{t':TypeId}{o':Bool},h.bl.get b=some (aj w t' o')->224≠t'->(h.bl.a_ kb (dR z c' vn vg)).get b=h.bl.get b:=λhb hn=>T.aD _ _ (dK g1 hb hn);exact⟨hl,⟨vn,vg,T.ay _ _ _,h1.keep (Nat.le_refl _) rfl λc vs hc hg=>up hg X7,h2.keep (Nat.le_refl _) rfl λc vs hc hg=>up hg X7⟩,h3⟩
theorem jd.set(s:jd h z kb c){c':CD}{vn vg:Value}(h1:gK kX 160 h vn c'.fM)(h2:gJ dn 4 46 h vg c'.goes)(h3:ef c'.Kh=true):jd ⟨h.nx,h.bl.a_ kb (dR z c' vn vg),h.lo⟩ z kb c':=by
 obtain⟨vn0,vg0,g1,_,_⟩:=s.g;exact .mk' s.lt g1 h1 h2 h3
end
theorem amo(h:af)(b o:Nat):mR prog h 100 152 (.pointer (some ⟨b,o,none⟩)) (.pointer none)=some false:=by kernel_rfl
theorem aa8(h:af)(b o:Nat):mR prog h 100 225 (.pointer (some ⟨b,o,none⟩)) (.pointer none)=some false:=by kernel_rfl
theorem sK{β:Type}{fl:β}(cn:Bool)(b o:Nat)(h:af)(V:X3 β):aI fl prog .eql 152 cn false (.pointer (some ⟨b,o,none⟩)) (.pointer none) h V=V (.bool false) h:=by simp only[aI,amo,bX]
theorem Vu{β:Type}{fl:β}(cn:Bool)(b o:Nat)(h:af)(V:X3 β):aI fl prog .neq 152 cn false (.pointer (some ⟨b,o,none⟩)) (.pointer none) h V=V (.bool true) h:=by simp only[aI,amo,bX,Bool.not_false]
theorem Vv{β:Type}{fl:β}(cn:Bool)(b o:Nat)(h:af)(V:X3 β):aI fl prog .eql 225 cn false (.pointer (some ⟨b,o,none⟩)) (.pointer none) h V=V (.bool false) h:=by simp only[aI,aa8,bX]
theorem Vw{β:Type}{fl:β}(cn:Bool)(b o:Nat)(h:af)(V:X3 β):aI fl prog .neq 225 cn false (.pointer (some ⟨b,o,none⟩)) (.pointer none) h V=V (.bool true) h:=by simp only[aI,aa8,bX,Bool.not_false]
def yh(t r m:Int):Bool:=(decide (br t r=0) || decide (br t r=1)) && (decide (m=1) || decide (m=2) || decide (m=3))
theorem Cv(t r m:Int){h:af}{V:KQ}(hk:V (.bool (yh t r m)) h):av prog 275 [dg t r,X8 m] h V:=by
 refine jL (v:=.bool (yh t r m)) rfl rfl (aG mixed ?_) hk;rw[adX];simp(disch:=try exact Y)only[Wz,dg];refine lH t r ?_;have:(m=1\/m=2\/m=3)\/(m<1\/3<m):=by omega
 rcases qz t r with h1|h1|h1|h1<;>rcases this with(h2|h2|h2)|(h2|h2)<;>simp(disch:=try exact Y)only[Wz,h1,h2]<;>simp[yh,h1,h2]<;>omega
section
variable {h:af}{z:AA}{D:AD}{cp:Option Nat}
theorem O0(s:jF h z D cp)(hlen:D.bu.length<=100000)(hlo:h.lo<=h.nx)(V:KQ)(hk:∀v' h',FF h h' v' D.bu->Le h h'->V v' h'):av prog 77 [pt z.pb] h V:=by
 have gp:=s.gp;obtain⟨vp,gl,sl⟩:=s.gl;apply X9;rw[akf];simp(disch:=try exact Y)only[Wz,sK,aN,gp];apply X9;rw[acQ];simp(disch:=try exact Y)only[Wz,Vv,aN,gl];refine kO (enc:=dn) (a:=h) (L:=[]) (M:=D.bu) dD sG X1 X1 (.inl ⟨rfl,.inl rfl⟩) sl.1 (Le.refl h) (by simp;omega) hlo _ ?_;intro v' h' ho hl _ _;exact hk v' h' (by simpa using ho) hl
theorem agn(s:jF h z D cp)(V:KQ)(hk:V (X8 (-1-z.th)) h):av prog 187 [pt z.pb] h V:=by
 have gp:=s.gp;apply X9;rw[adk];simp(disch:=try exact Y)only[Wz,sK,aN,gp];exact hk
theorem O1(s:jF h z D cp)(hlen:D.bu.length<=100000)(hm:0<=z.most/\z.most<=8)(V:KQ)(hk:V (X8 (z.most-D.bu.length)) h):av prog 276 [pt z.pb] h V:=by
 have gp:=s.gp;obtain⟨vp,gl,sl⟩:=s.gl;have hlen':=λ(β:Type)(fl:β) V h'=>sl.1.len (β:=β) (fl:=fl) V h';apply X9;rw[adY];simp(disch:=try exact Y)only[Wz,sK,IF,aN,gp,gl,hlen'];exact hk
theorem Vx(s:jF h z D cp)(hlen:D.bu.length<=100000)(hlo:h.lo<=h.nx)(t r:Int)(V:KQ)(hk:∀h',Le h h'->V (.bool (decide (aX D.bu t r≠0))) h'):av prog 269 [pt z.pb,dg t r] h V:=by
 have gp:=s.gp;have q1:=s.UZ;have q2:=s.OW;obtain⟨vp,gl,sl⟩:=s.gl;apply X9;rw[adR];simp(disch:=try exact Y)only[Wz,dg,Vu,aN,gp];have hle:=(Le.refl h).new (aj [X8 t,X8 r] 28 false);apply X9;rw[aef];simp(disch:=try exact Y)only[Wz,dg,Vw,aN,gl];have hle2:=hle.new (aj [X8 t,X8 r] 28 false);refine nW D.bu t r _ vp _ (sl.1.le hle2) X1 (by show h.lo<=h.nx+1+1;omega) ?_;intro h' hl;have hk:=hk h' (hle2.trans hl);by_cases h0:aX D.bu t r=0
 .rw[bf (λh=>h h0)]at hk;simp(disch:=try exact Y)only[Wz,bz h0];exact hk
 .rw[bz h0]at hk;simp(disch:=try exact Y)only[Wz,bf h0];exact hk
def FP(most x:Int)(L:List L4)(t r m:Int):List L4:=
 if yh t r m=false then L else if aX L t r≠0 then L else if most-L.length=0 then L else dx L ⟨x,t,r,m⟩
theorem ago(s:jF h z D cp)(hlen:D.bu.length<=100000)(hlo:h.lo<=h.nx)(hm:0<=z.most/\z.most<=8)(t r m:Int)(V:KQ)(hk:∀u h1 h',Le h h1->(h'=h1\/∃vp,h'=⟨h1.nx,h1.bl.a_ z.lb (aj [vp] 288 false),h1.lo⟩)->jF h' z { D with bu:=FP z.most (-1-z.th) D.bu t r m } cp->V u h'):av prog 270 [pt z.pb,dg t r,X8 m] h V:=by
 apply X9;rw[adS];simp(disch:=try exact Y)only[Wz,dg,sK];refine Cv t r m ?_;obtain⟨hA,aY,aU,gA,dI,dJ⟩:=kG h (aj [X8 t,X8 r] 28 false);rw[<-aY]
 try rw[show(h.bl.a_ (h.nx) (aj [X8 t,X8 r] 28 false))=hA.bl by rw[aY]]
 clear aY;have sA:=s.le aU;have same:∀(P:List L4),P=D.bu->({ D with bu:=P }:AD)=D:=λP e=>by subst e;rfl
 cases he:yh t r m with
 |false=>
  simp(disch:=try exact Y)only[Wz];exact hk _ hA _ aU (.inl rfl) (by rw[same _ (by unfold FP;rw[if_pos he])];exact sA)
 |true=>
  simp(disch:=try exact Y)only[Wz,ID,gA];refine Vx sA hlen X1 t r _ ?_;intro h2 hle2;have BM:=hle2.nx;have BN:=hle2.lo;have gA:=(hle2.get _ X1).trans gA;have s2:=sA.le hle2;by_cases hmo:aX D.bu t r=0
  .simp(disch:=try exact Y)only[Wz,bf (not_not_intro hmo)];refine O1 s2 hlen hm _ ?_;by_cases hr:z.most-D.bu.length=0
   .simp(disch:=try exact Y)only[Wz,bz hr];exact hk _ h2 _ (aU.trans hle2) (.inl rfl) (by rw[same _ (by unfold FP;rw[if_neg (by rw[he];decide),if_neg (λh=>h hmo),if_pos hr])];exact s2)
   ·simp(disch:=try exact Y)only[Wz,bf hr];have gp:=s2.gp;have q2:=s2.OW;obtain⟨vp,gl,sl⟩:=s2.gl;simp(disch:=try exact Y)only[Wz,IC,aN,gp,gl,gA];refine y9 D.bu ⟨-1-z.th,t,r,m⟩ h2 vp _ sl.1 hlen X1 ?_;intro v' h3 WM cD;have s3:=s2.le cD;have gp3:=s3.gp;have q3:=s3.OW;obtain⟨vp3,WR,sl3⟩:=s3.gl;obtain⟨x',c',e'⟩:=WM.cell;subst e';simp(disch:=try exact Y)only[Wz,aN,gp3,WR];exact hk _ h3 _ (aU.trans (hle2.trans cD)) (.inr ⟨_,rfl⟩) (by
     have:=s3.atv WM;unfold FP;rw[if_neg (by rw[he];decide),if_neg (λh=>h hmo),if_neg hr];exact this)
  .simp(disch:=try exact Y)only[Wz,bz hmo];exact hk _ h2 _ (aU.trans hle2) (.inl rfl) (by rw[same _ (by unfold FP;rw[if_neg (by rw[he];decide),if_pos hmo])];exact s2)
theorem Vy(s:jF h z D cp)(hlen:D.bu.length<=100000)(hlo:h.lo<=h.nx)(t r:Int)(h0:aX D.bu t r=0)(V:KQ)(hk:∀h',Le h h'->V (.tuple ⟨[X8 0,.bool false]⟩) h'):av prog 190 [pt z.pb,dg t r] h V:=by
 apply X9;rw[adm];simp(disch:=try exact Y)only[Wz,dg,sK];obtain⟨hA,aY,aU,gA,dI,dJ⟩:=kG h (aj [X8 t,X8 r] 28 false);rw[<-aY]
 try rw[show(h.bl.a_ (h.nx) (aj [X8 t,X8 r] 28 false))=hA.bl by rw[aY]]
 clear aY;refine Vx (s.le aU) hlen X1 t r _ ?_;intro h2 hle2;rw[bf (λh=>h h0)];simp(disch:=try exact Y)only[Wz];exact hk h2 (aU.trans hle2)
end
structure EN where
 A:WA
 a:TA
 z:AA
structure AW(h:af)(E:EN)(H X:Int->Int->Int)(N n:Nat)(y:iT)(out:Int)(D:AD)(kb:Nat)(c:CD):Prop where
 w:WI h E.A E.a H X N n y out
 g:jF h E.z D (some kb)
 c:jd h E.z kb c
 wb:E.z.wb=E.A.wb
 th:E.z.th=0
section
variable {h h':af}{E:EN}{H X:Int->Int->Int}{N n:Nat}{y:iT}{out:Int}{D:AD}{kb:Nat}{c:CD}
theorem AW.le(s:AW h E H X N n y out D kb c)(l:Le h h'):AW h' E H X N n y out D kb c:=⟨s.w.le l,s.g.le l,s.c.le l,s.wb,s.th⟩
theorem AW.lo(s:AW h E H X N n y out D kb c):h.lo<=h.nx:=s.w.lo
theorem AW.wk(s:AW h E H X N n y out D kb c){H' X':Int->Int->Int}{N' n':Nat}{y':iT}{out':Int}(w:WI h' E.A E.a H' X' N' n' y' out')(k:WK E.a h h'):AW h' E H' X' N' n' y' out' D kb c:=⟨w,s.g.ka k.ka,s.c.ka k.ka,s.wb,s.th⟩
theorem AW.rest(s:AW h E H X N 0 y out D kb c)(y':iT)(out':Int):AW h E H X N 0 y' out' D kb c:=⟨s.w.rest y' out',s.g,s.c,s.wb,s.th⟩
theorem AW.ag(s:AW h E H X N n y out D kb c):∃va vh,h.bl.get E.z.ab=some (aj [pt E.A.wb,X8 0,X8 D.ni,va,vh,pt E.z.pb,pt kb] 155 false)/\mQ h va D.asked/\mQ h vh D.has:=by
 obtain⟨va,vh,g1,g2,g3⟩:=s.g.ga;rw[s.wb,s.th]at g1;exact⟨va,vh,g1,g2,g3⟩
theorem AW.Ki(s:AW h E H X N n y out D kb c){c':CD}{vn vg:Value}(h1:gK kX 160 h vn c'.fM)(h2:gJ dn 4 46 h vg c'.goes)(h3:ef c'.Kh=true):AW ⟨h.nx,h.bl.a_ kb (dR E.z c' vn vg),h.lo⟩ E H X N n y out D kb c'/\FK E.a h ⟨h.nx,h.bl.a_ kb (dR E.z c' vn vg),h.lo⟩:=by
 obtain⟨vn0,vg0,g1,_,_⟩:=s.c.g;exact⟨⟨s.w.put g1 (by unfold mE;decide) (by unfold ki;decide) _,s.g.put g1 (.inl rfl) _,s.c.set h1 h2 h3,s.wb,s.th⟩,FK.put g1 (.inr (.inl rfl)) _⟩
theorem AW.Zh(s:AW h E H X N n y out D kb c){D':AD}{va vh:Value}(h1:mQ h va D'.asked)(h2:mQ h vh D'.has)(h3:D'.bu=D.bu):AW ⟨h.nx,h.bl.a_ E.z.ab (aj [pt E.A.wb,X8 0,X8 D'.ni,va,vh,pt E.z.pb,pt kb] 155 false),h.lo⟩ E H X N n y out D' kb c/\FK E.a h ⟨h.nx,h.bl.a_ E.z.ab (aj [pt E.A.wb,X8 0,X8 D'.ni,va,vh,pt E.z.pb,pt kb] 155 false),h.lo⟩:=by
 obtain⟨va0,vh0,g1,_,_⟩:=s.g.ga;have q:=s.g.set (cp':=some kb) h1 h2 h3;have hp:=λob=>s.w.put g1 (by unfold mE;decide) (by unfold ki;decide) ob;have cp:=λob=>s.c.put g1 (.inl rfl) ob;have fp:=λob=>FK.put (a:=E.a) g1 (.inl rfl) ob;unfold agO at q;rw[s.wb,s.th]at q;exact⟨⟨hp _,q,cp _,s.wb,s.th⟩,fp _⟩
theorem Kj(s:AW h E H X N 0 y out D kb c)(hN:N<=900)(x:iT)(hm:pG x=true)(o:Int)(V:KQ)(hk:∀h',AW h' E H X (N+1) 3 x o D kb { c with ask:=x }->FK E.a h h'->V (.tuple ⟨[]⟩) h'):av prog 186 [pt E.z.ab,.agg ⟨FG x⟩] h V:=by
 have hlo:=s.lo;apply X9;rw[adj];simp(disch:=try exact Y)only[Wz,FG];obtain⟨hA,aY,aU,g1,dI,dJ⟩:=kG h (aj [X8 x.k,X8 x.x,X8 x.t,X8 x.r,X8 x.m,X8 x.w,X8 x.to] 31 false);rw[<-aY]
 try rw[show(h.bl.a_ (h.nx) (aj [X8 x.k,X8 x.x,X8 x.t,X8 x.r,X8 x.m,X8 x.w,X8 x.to] 31 false))=hA.bl by rw[aY]]
 clear aY;have sA:=s.le aU;obtain⟨va,vh,ga,_,_⟩:=sA.ag;obtain⟨vn,vg,gk,p1,p2⟩:=sA.c.g;have hlt:=sA.c.lt;have tg:=sA.g.FO;have hne:kb≠E.z.ab:=dK gk ga X7;obtain⟨s2,f2⟩:=sA.Ki (c':={ c with ask:=x }) p1 p2 sA.c.Kh;have hkh:kb≠h.nx:=dK gk g1 X7;unfold dR at gk s2 f2;simp(disch:=try exact Y)only[Wz,aN,ga,gk,g1];refine QU s2.w hN x hm o _ ?_;intro h3 w3 k3;exact hk h3 (s2.wk w3 k3) (((FK.le aU).trans f2).trans k3.fk)
theorem My(s:AW h E H X N n y out D kb c)(t r had:Int)(h0:had≠0\/D.bu=[])(hlen:D.has.length<=100000)(V:KQ)(hk:∀h',Le h h'->V (.tuple ⟨[X8 0,.bool false]⟩) h'):av prog 185 [pt E.z.ab,dg t r,X8 had] h V:=by
 have hlo:=s.lo;apply X9;rw[adi];simp(disch:=try exact Y)only[Wz,dg];obtain⟨hA,aY,aU,g1,dI,dJ⟩:=kG h (aj [X8 t,X8 r] 28 false);rw[<-aY]
 try rw[show(h.bl.a_ (h.nx) (aj [X8 t,X8 r] 28 false))=hA.bl by rw[aY]]
 clear aY;by_cases hh:had=0
 .have hp:D.bu=[]:=h0.resolve_left λe=>e hh;have sA:=s.le aU;obtain⟨va,vh,ga,_,shA⟩:=sA.ag;simp(disch:=try exact Y)only[Wz,bf (show ¬¬had=0 by omega),Ia,aN,ga,g1];refine O0 sA.g (by rw[hp];exact Nat.zero_le _) X1 _ ?_;intro v2 h2 nJ bD;have n2:=bD.nx;have l2:=bD.lo;have g2:=(bD.get _ X1).trans g1;simp(disch:=try exact Y)only[Wz,g2];refine nW D.bu t r h2 v2 _ nJ.sl (by rw[hp];exact Nat.zero_le _) X1 ?_;intro h3 dM;have n3:=dM.nx;have l3:=dM.lo;have g3:=(dM.get _ X1).trans g2;refine J5 _ ?_;simp(disch:=try exact Y)only[Wz,g3];refine Vk t r h3 _ X1 ?_;intro u h4 hu _ jP;have n4:=jP.nx;have l4:=jP.lo;have hal:=Ae t r;have QY:=aU.trans (bD.trans (dM.trans jP));simp(disch:=try exact Y)only[Wz,hu.len];refine⟨λn l h5=>Le h4 h5/\∃k:Nat,ah l 22=X8 (k:Int)/\k<=(oU t r).length/\n=(oU t r).length-k,⟨_,Le.refl _,0,rfl,Nat.zero_le _,rfl⟩,?_⟩;rintro n l h5 ⟨uk,k,e1,Fx,rfl⟩;have n5:=uk.nx;have l5:=uk.lo;have s5:=s.le (QY.trans uk);obtain⟨va5,vh5,ga5,_,sh5⟩:=s5.ag;by_cases hlt:k<(oU t r).length
  .obtain⟨p,hp5⟩:∃p,(oU t r)[k]? = some p:=⟨_,List.getElem?_eq_getElem hlt⟩
   obtain⟨b,o,hb,pg,qg⟩:=ldN (hu.le uk) k hp5;simp(disch:=try exact Y)only[Wz,e1,H9,pg,qg,jc];obtain⟨hB,gL,bW,g6,BO,BP⟩:=kG h5 (aj [X8 p.1,X8 p.2] 28 false);rw[<-gL]
   try rw[show(h5.bl.a_ (h5.nx) (aj [X8 p.1,X8 p.2] 28 false))=hB.bl by rw[gL]]
   clear gL;have gaB:=(bW.get _ s5.g.FO.1).trans ga5;simp(disch:=try exact Y)only[Wz,aN,gaB,g6];refine nW D.has p.1 p.2 hB vh5 _ (sh5.1.le bW) X1 X1 ?_;intro h7 WT;have agp:=uk.trans (bW.trans WT);by_cases hm:aX D.has p.1 p.2=0
   .simp(disch:=try exact Y)only[Wz,bz hm];exact hk h7 (QY.trans agp)
   .simp(disch:=try exact Y)only[Wz,bf hm];refine qk _ _ ?_;cases hc:mU (aX D.has p.1 p.2) (pH (aX D.bu t r))with
    |false=>
     simp(disch:=try exact Y)only[Wz];exact hk h7 (QY.trans agp)
    |true=>
     simp(disch:=try exact Y)only[Wz,e1];exact⟨_,X1,agp,k+1,rfl,X1,rfl⟩
  .have g5:=(uk.get _ X1).trans ((jP.get _ X1).trans g3);simp(disch:=try exact Y)only[Wz,e1,H_,aN,ga5,g5];refine Vy s5.g (by rw[hp];exact Nat.zero_le _) X1 t r (by rw[hp];rfl) _ ?_;intro h6 OJ;simp(disch:=try exact Y)only[Wz];exact hk h6 ((QY.trans uk).trans OJ)
 .simp(disch:=try exact Y)only[Wz,bf hh];exact hk hA aU
def z3:List Value:=[X8 0,X8 0,X8 0]
theorem agq(a0 a1:Value)(h:af)(V:KQ):aV prog 263 [a0,a1] h V=fC prog 3 3 a0 a1 h V:=by kernel_rfl
theorem agr(a0 a1:Value)(h:af)(V:KQ):aV prog 183 [a0,a1] h V=fm prog 3 263 160 3 z3 a0 a1 h V:=by kernel_rfl
def nX(L:List L4)(p:N3):Bool:=decide (aX L p.1 p.2.1≠0) && mU (aX L p.1 p.2.1) p.2.2
theorem Zi(p:N3)(L:List L4)(b1 ab:Nat)(h:af)(va vh w0 w1 w2 w5 w6:Value)(V:KQ)(hlo:h.lo<=h.nx)(g1:h.bl.get b1=some (aj [pt ab] 60 false))(hb1:b1<h.nx)(ga:h.bl.get ab=some (aj [w0,w1,w2,va,vh,w5,w6] 155 false))(hab:ab<h.nx)(hv:Sl dn h vh L)(hlen:L.length<=100000)(hk:∀h',Le h h'->V (.bool (nX L p)) h'):av prog 184 [E1 kX p,ax b1] h V:=by
 apply X9;rw[adg];simp(disch:=try exact Y)only[Wz,E1,kX];obtain⟨hA,aY,aU,gA,dI,dJ⟩:=kG h (aj [X8 p.1,X8 p.2.1,X8 p.2.2] 160 false);rw[<-aY]
 try rw[show(h.bl.a_ (h.nx) (aj [X8 p.1,X8 p.2.1,X8 p.2.2] 160 false))=hA.bl by rw[aY]]
 clear aY;have Wu:=(aU.get _ hb1).trans g1;have ga':=(aU.get _ hab).trans ga;simp(disch:=try exact Y)only[Wz,aN,g1,ga,Wu,ga',gA];refine nW L p.1 p.2.1 hA vh _ (hv.le aU) X1 X1 ?_;intro h2 bD;have mM:=bD.nx;have mN:=bD.lo;have gA:=(bD.get _ X1).trans gA;have hk:=hk h2 (aU.trans bD);unfold nX at hk;by_cases hm:aX L p.1 p.2.1=0
 .rw[bf (λh=>h hm)]at hk;simp(disch:=try exact Y)only[Wz,bz hm];exact hk
 .rw[bz hm,Bool.true_and]at hk;simp(disch:=try exact Y)only[Wz,bf hm,gA];refine qk _ _ ?_;exact hk
end
def rC(D:AD)(c:CD)(p:N3):iT:=⟨1,D.ni,p.1,p.2.1,bZ (aX D.has p.1 p.2.1) p.2.2,c.w,0⟩
def fc(L:List L4)(P:List N3):List N3:=P.filter λp=>!nX L p
theorem yj(L:List L4)(P:List N3):(fc L P).length<=P.length:=List.length_filter_le _ _
def tI(P:List N3):Prop:=∀p∈P,br p.1 p.2.1≠-1/\kn p.2.2=true/\p.2.2≠0
section
variable {h h':af}{E:EN}{H X:Int->Int->Int}{N n:Nat}{y:iT}{out:Int}{D:AD}{kb:Nat}{c:CD}
theorem hdN{v:Value}{p:N3}{P:List N3}(s:gK kX 160 h v (p::P)):∃b o,b<h.nx/\(∀(β:Type)(fl:β)(h':af)(V:X3 β),aO fl 3 v (X8 0) h' V=V (.pointer (some ⟨b,o,none⟩)) h')/\
  (∀(β:Type)(fl:β)(V:List Value->β),xI fl (h.bl.get b) o 3 V=V (kX p))/\(∀(β:Type)(fl:β)(V:List Value->β),xI fl (h.bl.get b) o 2 V=V [X8 p.1,X8 p.2.1]):=by
 obtain⟨b,o,h1,h2,h3,hh⟩:=s.sl.ld kq 0 (p:=p) rfl;have hs:=hh.sub 0 2 (by show 0+2<=3;omega);rw[Nat.add_zero]at hs;exact⟨b,o,h1,h2,h3,λβ fl V=>lD hs 2 V rfl⟩
theorem hdG{v:Value}{g:L4}{G:List L4}(s:gJ dn 4 46 h v (g::G)):∃b o,b<h.nx/\(∀(β:Type)(fl:β)(h':af)(V:X3 β),aO fl 4 v (X8 0) h' V=V (.pointer (some ⟨b,o,none⟩)) h')/\
  (∀(β:Type)(fl:β)(V:List Value->β),xI fl (h.bl.get b) o 4 V=V (dn g)):=by
 obtain⟨b,o,h1,h2,h3,_⟩:=(s.head dD).ld dD 0 (p:=g) rfl;exact⟨b,o,h1,h2,h3⟩
theorem upE{v:Value}{L:List N3}(p:gK kX 160 h v L){b:Nat}{ws:List Value}{t:TypeId}{o:Bool}(ga:h.bl.get b=some (aj ws t o))(ht:t≠160)(ob:bP):gK kX 160 ⟨h.nx,h.bl.a_ b ob,h.lo⟩ v L:=
 p.keep (Nat.le_refl _) rfl λc vs hc hg=>T.aD _ _ (dK ga hg ht)
theorem upX{v:Value}{L:List L4}(p:gJ dn 4 46 h v L){b:Nat}{ws:List Value}{t:TypeId}{o:Bool}(ga:h.bl.get b=some (aj ws t o))(ht:t≠46)(ob:bP):gJ dn 4 46 ⟨h.nx,h.bl.a_ b ob,h.lo⟩ v L:=
 p.keep (Nat.le_refl _) rfl λc vs hc hg=>T.aD _ _ (dK ga hg ht)
theorem mQ.up{v:Value}{L:List L4}(s:mQ h v L){b:Nat}{ws:List Value}{t:TypeId}{o:Bool}(ga:h.bl.get b=some (aj ws t o))(ht:t≠46)(ob:bP):mQ ⟨h.nx,h.bl.a_ b ob,h.lo⟩ v L:=
 s.keep (Nat.le_refl _) λc vs op hc hg=>T.aD _ _ (dK ga hg ht)
theorem QZ(hw:0<=c.w){p:N3}(ok:br p.1 p.2.1≠-1/\kn p.2.2=true/\p.2.2≠0)(hk:kn (aX D.has p.1 p.2.1)=true):pG (rC D c p)=true:=by
 obtain⟨o1,o2,o3⟩:=ok;obtain⟨m1,m2,_⟩:=lI hk o2 o3;unfold pG rC;simp only[o1,m1,m2,hw,if_pos,ne_eq,not_false_eq_true,decide_true,Bool.and_true]
theorem Zj(s:AW h E H X N 0 y out D kb c)(l2:D.asked.length<=1000){b1:Nat}(hb1:b1<h.nx)(g1:h.bl.get b1=some (aj [pt E.z.ab] 60 false))(V:KQ)(qn:∀h',AW h' E H X N 0 y out { D with asked:=dx D.asked ⟨D.ni,c.t,c.r,bZ (aX D.asked c.t c.r) c.m⟩ } kb { c with code:=1 }->FK E.a h h'->V (.tuple ⟨[]⟩) h'):Bf b1 (pt kb) h V:=by
 have hlo:=s.lo;obtain⟨va,vh,ga,sa,sh⟩:=s.ag;obtain⟨vn,vg,gk,p1,p2⟩:=s.c.g;have hlt:=s.c.lt;have tg:=s.g.FO;have gk0:=gk;unfold dR at gk;unfold Bf;simp(disch:=try exact Y)only[Wz,aN,g1,ga,gk];obtain⟨hA,aY,aU,gA,dI,dJ⟩:=kG h (aj [X8 0,X8 0,X8 0,X8 0] 46 false);rw[<-aY]
 try rw[show(h.bl.a_ (h.nx) (aj [X8 0,X8 0,X8 0,X8 0] 46 false))=hA.bl by rw[aY]]
 clear aY;have Zk:=(aU.get _ hb1).trans g1;have F9:=(aU.get _ tg.1).trans ga;have Kk:=(aU.get _ hlt.1).trans gk;refine nW D.asked c.t c.r hA va _ (sa.1.le aU) X1 X1 ?_;intro h2 bD;have n2:=bD.nx;have Vz:=bD.lo;have g12:=(bD.get _ X1).trans Zk;have Zl:=(bD.get _ X1).trans F9;have Zm:=(bD.get _ X1).trans Kk;have gA2:=(bD.get _ X1).trans gA;simp(disch:=try exact Y)only[Wz,aN,g12,Zl,Zm,gA2];refine yR _ _ ?_;simp(disch:=try exact Y)only[Wz,aN,g12,Zl,Zm,gA2];have OI:=(aU.trans bD).set (Nat.le_refl h.nx) (aj [X8 D.ni,X8 c.t,X8 c.r,X8 (bZ (aX D.asked c.t c.r) c.m)] 46 false);refine y9 D.asked ⟨D.ni,c.t,c.r,bZ (aX D.asked c.t c.r) c.m⟩ _ va _ (sa.1.le OI) X1 (by show h2.lo<=h2.nx;omega) ?_;intro v' h3 WM dM;have jP:=OI.trans dM;have s4:=s.le jP;have lo4:=jP.lo;have n4:=jP.nx;obtain⟨x',c',rfl⟩:=WM.cell;have g14:=(jP.get _ hb1).trans g1;have ga4:=(jP.get _ tg.1).trans ga;have gk4:=(jP.get _ hlt.1).trans gk;have hkb:E.z.ab≠kb:=dK ga gk X7;simp(disch:=try exact Y)only[Wz,aN,g14,ga4,gk4];have q:=s4.Zh (D':={ D with asked:=dx D.asked ⟨D.ni,c.t,c.r,bZ (aX D.asked c.t c.r) c.m⟩ }) WM (sh.le jP) rfl;have q2:=q.1.Ki (c':={ c with code:=1 }) (upE (p1.le jP) ga4 X7 _) (upX (p2.le jP) ga4 X7 _) s.c.Kh;unfold dR at q2;exact qn _ q2.1 ((FK.le jP).trans (q.2.trans q2.2))
theorem Zn(s:AW h E H X N 0 y out D kb c)(hN:N<=900)(hp:D.bu=[])(l1:D.has.length<=1000)(hw:0<=c.w){p:N3}{P:List N3}(hc:c.fM=p::P)(ok:br p.1 p.2.1≠-1/\kn p.2.2=true/\p.2.2≠0)(Uq:∀t r,kn (aX D.has t r)=true)(o:Int){b1:Nat}(hb1:b1<h.nx)(g1:h.bl.get b1=some (aj [pt E.z.ab] 60 false))(V:KQ)(dZ:∀h',AW h' E H X (N+1) 3 (rC D c p) o D kb { c with ask:=rC D c p }->FK E.a h h'->V (.tuple ⟨[]⟩) h'):Bg (pt kb) b1 h V:=by
 have hlo:=s.lo;obtain⟨va,vh,ga,sa,sh⟩:=s.ag;obtain⟨vn,vg,gk,p1,p2⟩:=s.c.g;have hlt:=s.c.lt;have tg:=s.g.FO;rw[hc]at p1;obtain⟨b0,o0,hb0,hx0,Lf,_⟩:=hdN p1;have gk0:=gk;unfold dR at gk;unfold Bg;simp(disch:=try exact Y)only[Wz,aN,gk,hx0,Lf,kX,g1,ga];obtain⟨hA,aY,aU,gA,dI,dJ⟩:=kG h (aj [X8 p.1,X8 p.2.1,X8 p.2.2] 160 false);rw[<-aY]
 try rw[show(h.bl.a_ (h.nx) (aj [X8 p.1,X8 p.2.1,X8 p.2.2] 160 false))=hA.bl by rw[aY]]
 clear aY;have Zk:=(aU.get _ hb1).trans g1;have F9:=(aU.get _ tg.1).trans ga;have Kk:=(aU.get _ hlt.1).trans gk;refine nW D.has p.1 p.2.1 hA vh _ (sh.1.le aU) X1 X1 ?_;intro h2 bD;have mM:=bD.nx;have mN:=bD.lo;have Zk:=(bD.get _ X1).trans Zk;have F9:=(bD.get _ X1).trans F9;have Kk:=(bD.get _ X1).trans Kk;have gA:=(bD.get _ X1).trans gA;simp(disch:=try exact Y)only[Wz,aN,Zk,gA];refine My (s.le (aU.trans bD)) p.1 p.2.1 (aX D.has p.1 p.2.1) (.inr hp) X1 _ ?_;intro h3 dM;have avL:=dM.nx;have avM:=dM.lo;have Zk:=(dM.get _ X1).trans Zk;have F9:=(dM.get _ X1).trans F9;have Kk:=(dM.get _ X1).trans Kk;have gA:=(dM.get _ X1).trans gA;have Uo:=(aU.trans bD).trans dM;simp(disch:=try exact Y)only[Wz,HO,aN,Zk,F9,Kk,gA];refine yR _ _ ?_;simp(disch:=try exact Y)only[Wz,aN,Zk,F9,Kk,gA];refine Kj (s.le Uo) hN (rC D c p) (QZ hw ok (Uq _ _)) o _ ?_;intro h4 s4 f4;exact dZ h4 s4 ((FK.le Uo).trans f4)
theorem O2(s:AW h E H X N 0 y out D kb c)(hN:N<=900)(hp:D.bu=[])(l1:D.has.length<=1000)(l2:D.asked.length<=1000)(l3:c.fM.length<=100)(hw:0<=c.w)(hm:kn c.m=true)(ok:tI c.fM)(Uq:∀t r,kn (aX D.has t r)=true)(o:Int)(V:KQ)(qn:fc D.has c.fM=[]->∀h',AW h' E H X N 0 y out { D with asked:=dx D.asked ⟨D.ni,c.t,c.r,bZ (aX D.asked c.t c.r) c.m⟩ } kb { c with fM:=[],code:=1 }->FK E.a h h'->V (.tuple ⟨[]⟩) h')(dZ:∀p P,fc D.has c.fM=p::P->∀h',AW h' E H X (N+1) 3 (rC D c p) o D kb { c with fM:=p::P,ask:=rC D c p }->FK E.a h h'->V (.tuple ⟨[]⟩) h'):av prog 131 [pt E.z.ab] h V:=by
 have hlo:=s.lo;apply X9;rw[acL];simp(disch:=try exact Y)only[Wz];obtain⟨hA,aY,aU,g1,dI,dJ⟩:=kG h (aj [pt E.z.ab] 60 false);rw[<-aY]
 try rw[show(h.bl.a_ (h.nx) (aj [pt E.z.ab] 60 false))=hA.bl by rw[aY]]
 clear aY;have sA:=s.le aU;obtain⟨va,vh,ga,sa,sh⟩:=sA.ag;obtain⟨vn,vg,gk,p1,p2⟩:=sA.c.g;have hlt:=sA.c.lt;have tg:=sA.g.FO;unfold dR at gk;simp(disch:=try exact Y)only[Wz,aN,g1,ga,gk];refine Hl mixed kq sI X7 (za:=(0,0,0)) rfl X7 agq agr hA c.fM (nX D.has) vn _ _ p1 X1 X1 ?_ ?_
 .intro p h1 κ1 lv dZ;have n1:=lv.nx;have Rz:=lv.lo;have kt:=ktV lv p1;simp(disch:=try exact Y)only[Wz,List.nil_append];exact Zi p D.has h.nx E.z.ab h1 _ _ _ _ _ _ _ κ1 X1 ((kt.ty _ _ _ _ X1 g1 X7).trans g1) X1 ((kt.ty _ _ _ _ tg.1 ga X7).trans ga) X1 (sh.ka (kt.mono λt ht=>by rintro rfl;revert ht;unfold QX;decide)).1 X1 dZ
 ·intro v' h1 pe lv shp;have n1:=lv.nx;have Rz:=lv.lo;have kt:=ktV lv p1;have w1:WI h1 E.A E.a H X N 0 y out:=by
   refine sA.w.leV lv (λd hd=>?_) (λd d' hd hd'=>?_) (λd hd=>?_)
   .obtain⟨q1,vs,q2⟩:=p1.blk hd;exact⟨q1,vs,true,q2⟩
   .obtain⟨o1,n1,c1,e1⟩:=hd;obtain⟨o2,n2,c2,e2⟩:=hd';rw[e1]at e2;cases e2;rfl
   .rcases shp with e|⟨b,m,m',e1,e2⟩
    .rw[e]at pe;exact⟨_,(pe.blk hd).2.choose_spec⟩
    .obtain⟨o1,n1,c1,e3⟩:=hd;rw[e1]at e3;cases e3;exact⟨_,(pe.blk ⟨0,m',aZ,e2⟩).2.choose_spec⟩
  have f1:FK E.a hA h1:=FK.leV lv λd hd=>by
   obtain⟨_,vs,q2⟩:=p1.blk hd;exact⟨vs,true,q2⟩
  have a1:=sA.g.kt (kt.mono λt ht=>by rintro rfl;revert ht;unfold QX;decide);have WX:=(kt.ty _ _ _ _ hlt.1 gk X7).trans gk;have Zo:=(kt.ty _ _ _ _ tg.1 ga X7).trans ga;have g11:=(kt.ty _ _ _ _ X1 g1 X7).trans g1;have p21:gJ dn 4 46 h1 vg c.goes:=p2.keep n1 Rz λd vs hd hg=>kt.ty d vs _ _ hd hg X7;have kl1:kb<h1.nx/\h1.lo<=kb:=⟨X1,X1⟩
  have hkb:kb≠h.nx:=dK gk g1 X7;have hab:E.z.ab≠kb:=λe=>dK gk ga X7 e.symm;have e7:(fc D.has c.fM).length<=100:=by have:=yj D.has c.fM;omega
  have s2:AW ⟨h1.nx,h1.bl.a_ kb (dR E.z { c with fM:=fc D.has c.fM } v' vg),h1.lo⟩ E H X N 0 y out D kb { c with fM:=fc D.has c.fM }:=
   ⟨w1.put WX (by unfold mE;decide) (by unfold ki;decide) _,a1.put WX (.inl rfl) _,.mk' kl1 WX pe p21 s.c.Kh,s.wb,s.th⟩
  have f2:=(((FK.le aU).trans f1).trans (FK.put (a:=E.a) WX (.inr (.inl rfl)) (dR E.z { c with fM:=fc D.has c.fM } v' vg)))
  obtain⟨x',c',e'⟩:=pe.cell;have e9:(List.filter (λp=>!nX D.has p) c.fM)=fc D.has c.fM:=rfl;rw[e9]at e' pe;subst e';unfold dR at s2 f2;cases hL:fc D.has c.fM with
  |nil=>
   rw[hL]at s2 f2;simp(disch:=try exact Y)only[Wz,aN,WX,hL,List.length_nil];refine Zj s2 l2 (by show h.nx<h1.nx;omega) ((T.aD _ _ hkb).trans g11) _ ?_;intro h3 s3 f3;exact qn hL h3 s3 (f2.trans f3)
  |cons p P=>
   rw[hL]at s2 f2;have okp:=ok p (by
    have:p∈fc D.has c.fM:=by rw[hL];exact .head _
    exact(List.mem_filter.1 this).1)
   simp(disch:=try exact Y)only[Wz,aN,WX,hL,List.length_cons];refine Zn s2 hN hp l1 hw rfl okp Uq o (by show h.nx<h1.nx;omega) ((T.aD _ _ hkb).trans g11) _ ?_;intro h3 s3 f3;exact dZ p P hL h3 s3 (f2.trans f3)
end
section
variable {h h':af}{E:EN}{H X:Int->Int->Int}{N n:Nat}{y:iT}{out:Int}{D:AD}{kb:Nat}{c:CD}
theorem Q0(s:AW h E H X N 0 y out D kb c){p:N3}{P:List N3}(hc:c.fM=p::P)(h3:c.ask.k=1)(l1:D.has.length<=1000)(code:Int)(V:KQ)(hkF:code≠1->∀h',AW h' E H X N 0 y out D kb { c with code:=code }->FK E.a h h'->V (.tuple ⟨[]⟩) h')(hkG:code=1->∀h',AW h' E H X N 0 y out { D with has:=dx D.has ⟨D.ni,p.1,p.2.1,c.ask.m⟩ } kb c->FK E.a h h'->av prog 131 [pt E.z.ab] h' λ_ h=>V (.tuple ⟨[]⟩) h):av prog 126 [pt E.z.ab,X8 code] h V:=by
 have hlo:=s.lo;obtain⟨va,vh,ga,sa,sh⟩:=s.ag;obtain⟨vn,vg,gk,p1,p2⟩:=s.c.g;have hlt:=s.c.lt;have tg:=s.g.FO;have p1':=p1;rw[hc]at p1';obtain⟨b0,o0,hb0,hx0,_,Lf⟩:=hdN p1';have gk0:=gk;unfold dR at gk;apply X9;rw[acH];simp(disch:=try exact Y)only[Wz,aN,ga,gk,hx0,Lf];obtain⟨hA,aY,aU,gA,dI,dJ⟩:=kG h (aj [X8 p.1,X8 p.2.1] 28 false);rw[<-aY]
 try rw[show(h.bl.a_ (h.nx) (aj [X8 p.1,X8 p.2.1] 28 false))=hA.bl by rw[aY]]
 clear aY;have sA:=s.le aU;have F9:=(aU.get _ tg.1).trans ga;have Kk:=(aU.get _ hlt.1).trans gk;by_cases Kl:code=1
 .refine⟨λl' h'=>ah l' 10=X8 c.ask.m/\HQ hA h',?_,?_⟩
  .simp(disch:=try exact Y)only[Wz,Bd,aN,Kk,bf (show ¬c.ask.k=3 by omega),Bc,bz Kl];exact⟨by first|rfl|trivial,rfl⟩
  .rintro l' h' ⟨e1,hE⟩;cases(show hA=h' from hE);simp(disch:=try exact Y)only[Wz,HJ];refine⟨λl2 h2=>AW h2 E H X N 0 y out { D with has:=dx D.has ⟨D.ni,p.1,p.2.1,c.ask.m⟩ } kb c/\FK E.a h h2,?_,?_⟩
   .simp(disch:=try exact Y)only[Wz,bz Kl,HI,aN,F9,gA,e1];refine y9 D.has ⟨D.ni,p.1,p.2.1,c.ask.m⟩ hA vh _ (sh.1.le aU) X1 X1 ?_;intro v' h2 hs2 bD;have n2:=bD.nx;have Vz:=bD.lo;have s2:=sA.le bD;have Zl:=(bD.get _ X1).trans F9;obtain⟨x',c',rfl⟩:=hs2.cell;simp(disch:=try exact Y)only[Wz,aN,Zl];have q:=s2.Zh (D':={ D with has:=dx D.has ⟨D.ni,p.1,p.2.1,c.ask.m⟩ }) ((sa.le aU).le bD) hs2 rfl;exact⟨q.1,((FK.le aU).trans (FK.le bD)).trans q.2⟩
   .rintro l2 h2 ⟨s2,f2⟩;exact hkG Kl h2 s2 f2
 .refine⟨λ_ _=>False,?_,λ_ _ hf=>hf.elim⟩;simp(disch:=try exact Y)only[Wz,Bd,aN,Kk,bf (show ¬c.ask.k=3 by omega),Bc,bf Kl];have q:=sA.Ki (c':={ c with code:=code }) (p1.keep aU.nx aU.lo λd _ hd _=>aU.get d hd) (p2.keep aU.nx aU.lo λd _ hd _=>aU.get d hd) s.c.Kh;unfold dR at q;exact hkF Kl _ q.1 ((FK.le aU).trans q.2)
end
def xb(E:EN)(D:AD)(g:L4):iT:=if yh g.t g.r g.m=true/\0<E.z.most-D.bu.length then⟨3,D.ni,g.t,g.r,0,0,-1-E.z.th⟩else⟨2,D.ni,g.t,g.r,0,0,0⟩
section
variable {h h':af}{E:EN}{H X:Int->Int->Int}{N n:Nat}{y:iT}{out:Int}{D:AD}{kb:Nat}{c:CD}
theorem Zp{g:L4}(ok:br g.t g.r≠-1)(hx:D.ni≠-1-E.z.th):pG (xb E D g)=true:=by
 unfold pG xb;split
 .simp[ok,hx.symm]
 .simp[ok]
theorem O3(s:AW h E H X N 0 y out D kb c)(hN:N<=900)(hm:0<=E.z.most/\E.z.most<=8)(lp:D.bu.length<=1000)(lg:c.goes.length<=1000)(okG:∀g∈c.goes,br g.t g.r≠-1)(hx:D.ni≠-1-E.z.th)(o:Int)(V:KQ)(qn:c.goes=[]->∀h',AW h' E H X N 0 y out { D with ni:=0,asked:=[],has:=[] } kb { c with code:=1 }->FK E.a h h'->V (.tuple ⟨[]⟩) h')(dZ:∀g G,c.goes=g::G->∀h',AW h' E H X (N+1) 3 (xb E D g) o D kb { c with ask:=xb E D g }->FK E.a h h'->V (.tuple ⟨[]⟩) h'):av prog 193 [pt E.z.ab] h V:=by
 have hlo:=s.lo;obtain⟨va,vh,ga,sa,sh⟩:=s.ag;obtain⟨vn,vg,gk,p1,p2⟩:=s.c.g;have hlt:=s.c.lt;have tg:=s.g.FO;have hkb:E.z.ab≠kb:=dK ga gk X7;obtain⟨vx,vc,ev⟩:=p2.cell;have hlen:=p2.len (β:=Prop) (fl:=False);unfold dR at gk;apply X9;rw[adp];simp(disch:=try exact Y)only[Wz,aN,ga,gk,hlen];cases hc:c.goes with
 |nil=>
  simp(disch:=try exact Y)only[Wz,List.length_nil,Ig,aN,ga,gk];have q:=s.Zh (D':={ D with ni:=0,asked:=[],has:=[] }) (mQ.nil h) (mQ.nil h) rfl;have q2:=q.1.Ki (c':={ c with code:=1 }) (upE p1 ga X7 _) (upX p2 ga X7 _) s.c.Kh;unfold dR at q2;exact qn hc _ q2.1 (q.2.trans q2.2)
 |cons g G=>
  have p2':=p2;rw[hc]at p2';obtain⟨b0,o0,hb0,hx0,Lf⟩:=hdG p2';have okg:=okG g (by rw[hc];exact .head _);have lG:(g::G).length<=1000:=by rw[<-hc];exact lg
  have lG':G.length+1<=1000:=by simpa using lG
  simp(disch:=try exact Y)only[Wz,List.length_cons,Ih,aN,ga,gk,hx0,Lf,dn];obtain⟨hA,aY,aU,gA,gB,dI,dJ⟩:=AY h (aj [X8 g.x,X8 g.t,X8 g.r,X8 g.m] 46 false) (aj [X8 2,X8 D.ni,X8 g.t,X8 g.r,X8 0,X8 0,X8 0] 31 false);rw[<-aY]
  try rw[show((h.bl.a_ (h.nx) (aj [X8 g.x,X8 g.t,X8 g.r,X8 g.m] 46 false)).a_ (h.nx+1) (aj [X8 2,X8 D.ni,X8 g.t,X8 g.r,X8 0,X8 0,X8 0] 31 false))=hA.bl by rw[aY]]
  clear aY;have sA:=s.le aU;have F9:=(aU.get _ tg.1).trans ga;refine⟨λl' h1=>Le h h1/\h.nx+1<h1.nx/\h1.bl.get (h.nx+1)=some (aj (FG (xb E D g)) 31 false),?_,?_⟩
  .simp(disch:=try exact Y)only[Wz,Ie,gA];refine Cv g.t g.r g.m ?_;cases he:yh g.t g.r g.m with
   |false=>
    have e9:xb E D g=⟨2,D.ni,g.t,g.r,0,0,0⟩:=by unfold xb;rw[if_neg (by rw[he];simp)]
    simp(disch:=try exact Y)only[Wz];rw[e9];exact⟨aU,X1,gB⟩
   |true=>
    simp(disch:=try exact Y)only[Wz,aN,F9];refine O1 sA.g X1 hm _ ?_;by_cases hr:0<E.z.most-D.bu.length
    .have e9:xb E D g=⟨3,D.ni,g.t,g.r,0,0,-1-E.z.th⟩:=by unfold xb;rw[if_pos ⟨he,hr⟩]
     simp(disch:=try exact Y)only[Wz,f_ hr,Ic,aN,F9];refine agn sA.g _ ?_;simp(disch:=try exact Y)only[Wz,gB];rw[e9];exact⟨aU.set X1 _,X1,rfl⟩
    .have e9:xb E D g=⟨2,D.ni,g.t,g.r,0,0,0⟩:=by unfold xb;rw[if_neg (λe=>hr e.2)]
     simp(disch:=try exact Y)only[Wz,d_ (show E.z.most-D.bu.length<=0 by omega)];rw[e9];exact⟨aU,X1,gB⟩
  .rintro l' h1 ⟨bN,lt1,g1⟩;unfold FG at g1;simp(disch:=try exact Y)only[Wz,g1];refine Kj (s.le bN) hN (xb E D g) (Zp okg hx) o _ ?_;intro h8 s8 f8;exact dZ g G hc h8 s8 ((FK.le bN).trans f8)
def uo(E:EN)(D:AD)(c:CD)(g:L4)(code:Int):AD:={ D with has:=gz D.has g.t g.r,bu:=if c.ask.k=3/\code=1 then FP E.z.most (-1-E.z.th) D.bu g.t g.r g.m else D.bu }
theorem Q3(s:AW h E H X N 0 y out D kb c)(hm:0<=E.z.most/\E.z.most<=8)(l1:D.has.length<=1000)(lp:D.bu.length<=1000){g:L4}{G:List L4}(hc:c.goes=g::G)(code:Int)(V:KQ)(hk:∀h',AW h' E H X N 0 y out (uo E D c g code) kb { c with goes:=G }->FK E.a h h'->av prog 193 [pt E.z.ab] h' λ_ h=>V (.tuple ⟨[]⟩) h):av prog 191 [pt E.z.ab,X8 code] h V:=by
 have hlo:=s.lo;obtain⟨va,vh,ga,sa,sh⟩:=s.ag;obtain⟨vn,vg,gk,p1,p2⟩:=s.c.g;have hlt:=s.c.lt;have tg:=s.g.FO;have p2':=p2;rw[hc]at p2';obtain⟨b0,o0,hb0,hx0,Lf⟩:=hdG p2';have gk0:=gk;unfold dR at gk;apply X9;rw[adn];simp(disch:=try exact Y)only[Wz,aN,ga,gk,hx0,Lf,dn];obtain⟨hA,aY,aU,gA,dI,dJ⟩:=kG h (aj [X8 g.x,X8 g.t,X8 g.r,X8 g.m] 46 false);rw[<-aY]
 try rw[show(h.bl.a_ (h.nx) (aj [X8 g.x,X8 g.t,X8 g.r,X8 g.m] 46 false))=hA.bl by rw[aY]]
 clear aY;have sA:=s.le aU;have F9:=(aU.get _ tg.1).trans ga;have Kk:=(aU.get _ hlt.1).trans gk;obtain⟨u,pu,hu⟩:=(p2'.le aU).tail dD X7;obtain⟨ux,uc,eu⟩:=pu.cell;subst eu;have q1:=sA.Ki (c':={ c with goes:=G }) (p1.le aU) pu s.c.Kh;have hne:kb≠h.nx:=dK Kk gA X7;have hab:E.z.ab≠kb:=dK F9 Kk X7;have f1:=(FK.le (a:=E.a) aU).trans q1.2;obtain⟨h1,e1⟩:∃h1:af,h1=⟨hA.nx,hA.bl.a_ kb (dR E.z { c with goes:=G } vn (.slice ux G.length uc)),hA.lo⟩:=⟨_,rfl⟩
 have s1:AW h1 E H X N 0 y out D kb { c with goes:=G }:=by rw[e1];exact q1.1
 have f1:FK E.a h h1:=by rw[e1];exact f1
 have gA1:h1.bl.get h.nx=some (aj [X8 g.x,X8 g.t,X8 g.r,X8 g.m] 46 false):=by rw[e1];exact(T.aD _ _ hne).trans gA
 have n1:h.nx<h1.nx:=by rw[e1];show h.nx<hA.nx;omega
 have Zo:h1.bl.get E.z.ab=some (aj [pt E.A.wb,X8 0,X8 D.ni,va,vh,pt E.z.pb,pt kb] 155 false):=by rw[e1];exact(T.aD _ _ (λe=>hab e.symm)).trans F9
 have sa1:mQ h1 va D.asked:=by rw[e1];exact(sa.le aU).up Kk X7 _
 have sh1:mQ h1 vh D.has:=by rw[e1];exact(sh.le aU).up Kk X7 _
 unfold dR at e1;simp(disch:=try exact Y)only[Wz,aN,Kk,hu];rw[<-e1];clear e1;obtain⟨vn1,vg1,WX,p11,p21⟩:=s1.c.g;have aty:=s1.c.lt;have atz:=s1.g.FO;have Rz:=s1.lo;simp(disch:=try exact Y)only[Wz,aN,F9,Zo,gA1];refine af3 D.has g.t g.r h1 vh _ sh1.1 X1 X1 ?_;intro v' h2 hs2 bD;have s2:=s1.le bD;obtain⟨x',c',rfl⟩:=hs2.cell;have Zl:=(bD.get _ atz.1).trans Zo;have gA2:=(bD.get _ n1).trans gA1;have n2:=bD.nx;have Vz:=bD.lo;have Fs:E.z.ab≠h.nx:=dK Zl gA2 X7;have q3:=s2.Zh (D':={ D with has:=gz D.has g.t g.r }) (sa1.le bD) hs2 rfl;have f3:=(f1.trans (FK.le bD)).trans q3.2;obtain⟨h3,e3⟩:∃h3:af,h3=⟨h2.nx,h2.bl.a_ E.z.ab (aj [pt E.A.wb,X8 0,X8 D.ni,va,.slice x' (gz D.has g.t g.r).length c',pt E.z.pb,pt kb] 155 false),h2.lo⟩:=⟨_,rfl⟩
 have s3:AW h3 E H X N 0 y out { D with has:=gz D.has g.t g.r } kb { c with goes:=G }:=by rw[e3];exact q3.1
 have f3:FK E.a h h3:=by rw[e3];exact f3
 have gA3:h3.bl.get h.nx=some (aj [X8 g.x,X8 g.t,X8 g.r,X8 g.m] 46 false):=by rw[e3];exact(T.aD _ _ Fs).trans gA2
 have n3:h.nx<h3.nx:=by rw[e3];show h.nx<h2.nx;omega
 simp(disch:=try exact Y)only[Wz,aN,Zl];rw[<-e3];clear e3;obtain⟨va3,vh3,ga3,sa3,sh3⟩:=s3.ag;obtain⟨vn3,vg3,gk3,p13,p23⟩:=s3.c.g;have lo3:=s3.lo;unfold dR at gk3;refine⟨λl' h'=>AW h' E H X N 0 y out (uo E D c g code) kb { c with goes:=G }/\FK E.a h h',?_,?_⟩
 .by_cases xG:c.ask.k=3
  .by_cases hcd:code=1
   .simp(disch:=try exact Y)only[Wz,vX,aN,gk3,bz xG,bz hcd,Ib,ga3,gA3];refine ago s3.g (by show D.bu.length<=100000;omega) X1 hm g.t g.r g.m _ ?_;intro u4 h4 h5 jP hor g5;have s4:=s3.le jP;obtain⟨vp,gl,_⟩:=s4.g.gl;have e5:uo E D c g code={ ({ D with has:=gz D.has g.t g.r }:AD)with bu:=FP E.z.most (-1-E.z.th) D.bu g.t g.r g.m }:=by unfold uo;rw[if_pos ⟨xG,hcd⟩]
    rcases hor with rfl|⟨vp',rfl⟩
    .refine⟨⟨s4.w,?_,s4.c,s4.wb,s4.th⟩,f3.trans (FK.le jP)⟩;rw[e5];exact g5
    .refine⟨⟨s4.w.put gl (by unfold mE;decide) (by unfold ki;decide) _,?_,s4.c.put gl (.inr rfl) _,s4.wb,s4.th⟩,(f3.trans (FK.le jP)).trans (FK.put gl (.inr (.inr (.inl rfl))) _)⟩;rw[e5];exact g5
   .have e5:uo E D c g code={ D with has:=gz D.has g.t g.r }:=by unfold uo;rw[if_neg (λe=>hcd e.2)]
    simp(disch:=try exact Y)only[Wz,vX,aN,gk3,bz xG,bf hcd];rw[e5];exact⟨s3,f3⟩
  .have e5:uo E D c g code={ D with has:=gz D.has g.t g.r }:=by unfold uo;rw[if_neg (λe=>xG e.1)]
   simp(disch:=try exact Y)only[Wz,vX,aN,gk3,bf xG];rw[e5];exact⟨s3,f3⟩
 .rintro l' h' ⟨s',f'⟩;exact hk h' s' f'
theorem VA(s:AW h E H X N 0 y out D kb c)(hp:D.bu=[])(l1:D.has.length<20)(okH:∀g∈D.has,br g.t g.r≠-1)(V:KQ)(hk:∀O h',O.Perm D.has->AW h' E H X N 0 y out D kb { c with beh:=191,goes:=O }->FK E.a h h'->av prog 193 [pt E.z.ab] h' λ_ h=>V (.tuple ⟨[]⟩) h):av prog 136 [pt E.z.ab] h V:=by
 have hlo:=s.lo;obtain⟨va,vh,ga,sa,sh⟩:=s.ag;have tg:=s.g.FO;apply X9;rw[acM];simp(disch:=try exact Y)only[Wz,aN,ga];refine O0 s.g (by rw[hp];exact Nat.zero_le _) hlo _ ?_;intro v2 h2 nJ bD;have n2:=bD.nx;have l2:=bD.lo;rw[hp]at nJ;have hlen:=nJ.sl.len (β:=Prop) (fl:=False);have s2:=s.le bD;have Zl:=(bD.get _ tg.1).trans ga;obtain⟨vn2,vg2,Zm,p12,p22⟩:=s2.c.g;have atA:=s2.c.lt;unfold dR at Zm;simp(disch:=try exact Y)only[Wz,hlen,List.length_nil,HS,aN,Zl];refine Zb D.has h2 vh _ (sh.1.le bD) l1 X1 okH ?_;intro O v3 h3 hO po dM;have n3:=dM.nx;have lo3:=dM.lo;have s3:=s2.le dM;have gk3:=(dM.get _ atA.1).trans Zm;obtain⟨x3,c3,e3⟩:=po.cell;subst e3;have q:=s3.Ki (c':={ c with beh:=191,goes:=O }) (p12.le dM) po s.c.Kh;unfold dR at q;simp(disch:=try exact Y)only[Wz,aN,gk3,sJ];exact hk O _ hO q.1 ((FK.le (bD.trans dM)).trans q.2)
end
theorem amq(h:af)(b o:Nat):mR prog h 100 60 (.pointer (some ⟨b,o,none⟩)) (.pointer none)=some false:=by kernel_rfl
theorem q9{β:Type}{fl:β}(cn:Bool)(b o:Nat)(h:af)(V:X3 β):aI fl prog .eql 60 cn false (.pointer (some ⟨b,o,none⟩)) (.pointer none) h V=V (.bool false) h:=by simp only[aI,amq,bX]
theorem Zq{β:Type}{fl:β}(cn:Bool)(b o:Nat)(h:af)(V:X3 β):aI fl prog .neq 60 cn false (.pointer (some ⟨b,o,none⟩)) (.pointer none) h V=V (.bool true) h:=by simp only[aI,amq,bX,Bool.not_false]
theorem atB(h:af)(b o:Nat):mR prog h 100 153 (.pointer (some ⟨b,o,none⟩)) (.pointer none)=some false:=by kernel_rfl
theorem amr(h:af):mR prog h 100 153 (.pointer none) (.pointer none)=some true:=by kernel_rfl
theorem Km{β:Type}{fl:β}(cn:Bool)(o:Option Nat)(h:af)(V:X3 β):aI fl prog .neq 153 cn false (dF o) (.pointer none) h V=V (.bool o.isSome) h:=by
 cases o with
 |none=>simp only[dF,aI,amr,bX,Bool.not_true];rfl
 |some b=>simp only[dF,aI,atB,bX,Bool.not_false];rfl
structure AI(h:af)(E:EN)(H X:Int->Int->Int)(N:Nat)(D:AD):Prop where
 w:∀y out,WI h E.A E.a H X N 0 y out
 g:jF h E.z D none
 wb:E.z.wb=E.A.wb
 th:E.z.th=0
section
variable {h h':af}{E:EN}{H X:Int->Int->Int}{N n:Nat}{y:iT}{out:Int}{D:AD}{kb:Nat}{c:CD}
theorem AI.le(s:AI h E H X N D)(l:Le h h'):AI h' E H X N D:=⟨λy o=>(s.w y o).le l,s.g.le l,s.wb,s.th⟩
theorem AI.lo(s:AI h E H X N D):h.lo<=h.nx:=(s.w ⟨0,0,0,0,0,0,0⟩ 0).lo
theorem AI.ag(s:AI h E H X N D):∃va vh,h.bl.get E.z.ab=some (aj [pt E.A.wb,X8 0,X8 D.ni,va,vh,pt E.z.pb,.pointer none] 155 false)/\mQ h va D.asked/\mQ h vh D.has:=by
 obtain⟨va,vh,g1,g2,g3⟩:=s.g.ga;rw[s.wb,s.th]at g1;exact⟨va,vh,g1,g2,g3⟩
theorem Mz(s:AW h E H X N n y out D kb c)(V:KQ)(hk:V (.bool true) h):av prog 194 [pt E.z.ab] h V:=by
 obtain⟨va,vh,ga,_,_⟩:=s.ag;have bn:=λ(β:Type)(fl:β)(cn:Bool)(h:af)(V:X3 β)=>Km (fl:=fl) cn (some kb) h V;simp only[dF,Option.isSome]at bn;apply X9;rw[adq];simp(disch:=try exact Y)only[Wz,Zq,aN,ga,bn];exact hk
theorem nY(s:AW h E H X N n y out D kb c)(hn:c.ask.k=0\/n≠0)(V:KQ)(hk:V (.bool true) h):av prog 137 [pt E.z.ab] h V:=by
 obtain⟨va,vh,ga,_,_⟩:=s.ag;obtain⟨vn,vg,gk,_,_⟩:=s.c.g;unfold dR at gk;apply X9;rw[acN];simp(disch:=try exact Y)only[Wz];refine Mz s _ ?_;by_cases h0:c.ask.k=0
 .simp(disch:=try exact Y)only[Wz,aN,ga,gk,bz h0];exact hk
 .simp(disch:=try exact Y)only[Wz,aN,ga,gk,bf h0];refine QW s.w (hn.resolve_left h0) _ ?_;exact hk
theorem VD(s:AW h E H X N 0 y out D kb c)(V:KQ)(hk:∀h',AI h' E H X N D->FK E.a h h'->V (.tuple ⟨[.bool true,X8 c.code,X8 0]⟩) h'):Fi (pt E.z.ab) (pt kb) h V:=by
 obtain⟨va,vh,ga,sa,sh⟩:=s.ag;obtain⟨vn,vg,gk,p1,p2⟩:=s.c.g;have hkb:E.z.ab≠kb:=dK ga gk X7;have tg:=s.g.FO;obtain⟨va0,vh0,g1,_,_⟩:=s.g.ga;have q:=s.g.set (D':=D) (cp':=none) sa sh rfl;have hp:=λob y' o'=>(s.w.rest y' o').put g1 (by unfold mE;decide) (by unfold ki;decide) ob;have fp:=λob=>FK.put (a:=E.a) g1 (.inl rfl) ob;unfold agO at q;rw[s.wb,s.th]at q;unfold dR at gk;simp(disch:=try exact Y)only[Wz,Fi,aN,ga,gk];exact hk _ ⟨hp _,q,s.wb,s.th⟩ (fp _)
theorem Kn(s:AW h E H X N 0 y out D kb c)(h0:c.ask.k=0)(V:KQ)(hk:∀h',AI h' E H X N D->FK E.a h h'->V (.tuple ⟨[.bool true,X8 c.code,X8 0]⟩) h'):av prog 74 [pt E.z.ab] h V:=by
 obtain⟨va,vh,ga,sa,sh⟩:=s.ag;obtain⟨vn,vg,gk,p1,p2⟩:=s.c.g;unfold dR at gk;apply X9;rw[Tx];simp(disch:=try exact Y)only[Wz,q9,z_];refine nY s (.inl h0) _ ?_;simp(disch:=try exact Y)only[Wz,aN,ga];refine⟨λl' h'=>HQ h h',?_,?_⟩
 .simp(disch:=try exact Y)only[Wz,zZ,aN,gk,bz h0];exact rfl
 .rintro l' h' hE;cases(show h=h' from hE);exact VD s V hk
theorem Ko(s:AW h E H X N n y out D kb c)(hn:n≠0)(VE:c.ask.k≠0)(Q:af->Prop)(hW:∀κ1:Value->af->Prop,(∀h1,Q h1->κ1 (.tuple ⟨[.bool false,X8 0,X8 0]⟩) h1)->av prog 15 [UV E.A.wb,X8 ((0:Nat):Int)] h κ1)(V:KQ)(hk:∀h1,Q h1->V (.tuple ⟨[.bool false,X8 0,X8 0]⟩) h1):av prog 74 [pt E.z.ab] h V:=by
 obtain⟨va,vh,ga,sa,sh⟩:=s.ag;obtain⟨vn,vg,gk,p1,p2⟩:=s.c.g;unfold dR at gk;apply X9;rw[Tx];simp(disch:=try exact Y)only[Wz,q9,z_];refine nY s (.inr hn) _ ?_;simp(disch:=try exact Y)only[Wz,aN,ga];refine⟨λ_ _=>False,?_,λ_ _ hf=>hf.elim⟩;simp(disch:=try exact Y)only[Wz,zZ,aN,gk,bf VE,Fh,ga];refine hW _ ?_;intro h1 q1;simp(disch:=try exact Y)only[Wz];exact hk h1 q1
theorem Kp(s:AW h E H X N 1 y out D kb c)(VE:c.ask.k≠0)(V:KQ)(hB:∀h1,AW h1 E H X N 0 y out D kb { c with seen:=true }->FK E.a h h1->av prog c.beh [pt E.z.ab,X8 out] h1 λ_ h2=>∃H' X' N' n' y' out' D' c',AW h2 E H' X' N' n' y' out' D' kb c'/\FK E.a h1 h2/\
   (c'.code=0->V (.tuple ⟨[.bool false,X8 0,X8 0]⟩) h2)/\(c'.code≠0->n'=0/\∀h3,AI h3 E H' X' N' D'->FK E.a h2 h3->V (.tuple ⟨[.bool true,X8 c'.code,X8 0]⟩) h3)):av prog 74 [pt E.z.ab] h V:=by
 obtain⟨va,vh,ga,sa,sh⟩:=s.ag;obtain⟨vn,vg,gk,p1,p2⟩:=s.c.g;have gk0:=gk;unfold dR at gk;apply X9;rw[Tx];simp(disch:=try exact Y)only[Wz,q9,z_];refine nY s (.inr X7) _ ?_;simp(disch:=try exact Y)only[Wz,aN,ga];refine⟨λl' h'=>∃H' X' N' n' y' out' D' c',AW h' E H' X' N' n' y' out' D' kb c'/\c'.code≠0/\n'=0/\∀h3,AI h3 E H' X' N' D'->FK E.a h' h3->V (.tuple ⟨[.bool true,X8 c'.code,X8 0]⟩) h3,?_,?_⟩
 .simp(disch:=try exact Y)only[Wz,zZ,aN,gk,bf VE,Fh,ga];refine Vt s.w _ ?_;intro h1 w1 k1;have s1:=s.wk w1 k1;have aty:=s1.c.lt;obtain⟨vn1,vg1,WX,p11,p21⟩:=s1.c.g;have q:=s1.Ki (c':={ c with seen:=true }) p11 p21 s.c.Kh;unfold dR at WX q;simp(disch:=try exact Y)only[Wz,Om,aN,WX,List.cons_append,List.nil_append,List.append_nil];refine av.mono (hB _ q.1 (k1.fk.trans q.2)) ?_;rintro u h2 ⟨H',X',N',n',y',out',D',c',s2,f2,dZ,hk2⟩;obtain⟨vn2,vg2,Zm,_,_⟩:=s2.c.g;unfold dR at Zm;by_cases h0:c'.code=0
  .simp(disch:=try exact Y)only[Wz,aN,Zm,bz h0];exact dZ h0
  .simp(disch:=try exact Y)only[Wz,aN,Zm,bf h0];obtain⟨e1,e2⟩:=hk2 h0;exact⟨H',X',N',n',y',out',D',c',s2,h0,e1,e2⟩
 .rintro l' h' ⟨H',X',N',n',y',out',D',c',s2,h0,rfl,hk2⟩;exact VD s2 V hk2
def Zr(k t r m w:Int):Bool:=decide (0<=w) && (if k=1 then kn m && decide (m≠0) && decide (br t r≠-1)else if k=2 then decide (br t r≠-1)else decide (k=3))
theorem agt(k t r m w:Int)(hm:Zr k t r m w=true)(h:af)(V:KQ)(hlo:h.lo<=h.nx)(hk:∀h',Le h h'->V (.bool true) h'):av prog 125 [.agg ⟨[X8 k,X8 0,X8 t,X8 r,X8 m,X8 0]⟩,X8 w] h V:=by
 unfold Zr at hm;rw[Bool.and_eq_true,decide_eq_true_eq]at hm;obtain⟨hw,hm⟩:=hm;apply X9;rw[acG];simp(disch:=try exact Y)only[Wz];obtain⟨hA,aY,aU,gA,dI,dJ⟩:=kG h (aj [X8 k,X8 0,X8 t,X8 r,X8 m,X8 0] 66 false);rw[<-aY]
 try rw[show(h.bl.a_ (h.nx) (aj [X8 k,X8 0,X8 t,X8 r,X8 m,X8 0] 66 false))=hA.bl by rw[aY]]
 clear aY;by_cases h1:k=1
 .rw[if_pos h1,Bool.and_eq_true,Bool.and_eq_true,decide_eq_true_eq,decide_eq_true_eq]at hm;obtain⟨⟨hm1,hm2⟩,hm3⟩:=hm;refine⟨λ_ _=>False,?_,λ_ _ hf=>hf.elim⟩;simp(disch:=try exact Y)only[Wz,gA];refine⟨λl' h'=>ah l' 15=.bool true/\HQ hA h',?_,?_⟩
  .simp(disch:=try exact Y)only[Wz,vV,bz h1,HG,gA];refine qW m ?_;rw[hm1];simp(disch:=try exact Y)only[Wz,gA,bf hm2];exact⟨by first|rfl|trivial,rfl⟩
  .rintro l' h' ⟨e1,hE⟩;cases(show hA=h' from hE);simp(disch:=try exact Y)only[Wz,Bb,e1,gA];refine qt t r ?_;rw[if_neg hm3];simp(disch:=try exact Y)only[Wz];exact hk hA aU
 .rw[if_neg h1]at hm;by_cases h2:k=2
  .rw[if_pos h2,decide_eq_true_eq]at hm;refine⟨λ_ _=>False,?_,λ_ _ hf=>hf.elim⟩;simp(disch:=try exact Y)only[Wz,gA];refine⟨λl' h'=>ah l' 15=.bool true/\HQ hA h',?_,?_⟩
   .simp(disch:=try exact Y)only[Wz,vV,bf h1,bz h2];exact⟨by first|rfl|trivial,rfl⟩
   .rintro l' h' ⟨e1,hE⟩;cases(show hA=h' from hE);simp(disch:=try exact Y)only[Wz,Bb,e1,gA];refine qt t r ?_;rw[if_neg hm];simp(disch:=try exact Y)only[Wz];exact hk hA aU
  .rw[if_neg h2,decide_eq_true_eq]at hm;refine⟨λl' h'=>ah l' 17=.bool true/\HQ hA h',?_,?_⟩
   .simp(disch:=try exact Y)only[Wz,gA];refine⟨λ_ _=>False,?_,λ_ _ hf=>hf.elim⟩;simp(disch:=try exact Y)only[Wz,vV,bf h1,bf h2];exact⟨by first|rfl|trivial,rfl⟩
   .rintro l' h' ⟨e1,hE⟩;cases(show hA=h' from hE);simp(disch:=try exact Y)only[Wz,HH,e1,gA,bz hm];exact hk hA aU
def tT:iT:=⟨0,0,0,0,0,0,0⟩
def jR(z:AA)(D:AD)(k t r m w:Int):CD:=
 if k=1 then⟨k,t,r,m,w,tT,0,126,.func (.func 127) ⟨[pt z.ab]⟩ ⟨[]⟩,false,0,iG (aX D.has) t r (bZ (aX D.asked t r) m),[]⟩
 else if k=2 then⟨k,t,r,m,w,tT,0,132,.func (.func 133) ⟨[]⟩ ⟨[]⟩,false,0,[],[]⟩
 else⟨k,t,r,m,w,tT,0,135,.func (.func 133) ⟨[]⟩ ⟨[]⟩,false,0,[],[]⟩
def FQ(k:Int):FuncId:=if k=1 then 131 else if k=2 then 134 else 136
theorem Cw:(Value.cells Value.nilFunc).toList=[Value.nilFunc]:=id rfl
theorem AI.call(s:AI h E H X N D){va vh:Value}(ga:h.bl.get E.z.ab=some (aj [pt E.A.wb,X8 0,X8 D.ni,va,vh,pt E.z.pb,.pointer none] 155 false))(sa:mQ h va D.asked)(sh:mQ h vh D.has)(vs:List Value){c':CD}(h1:c'.fM=[])(h2:c'.goes=[])(h3:ef c'.Kh=true)(y:iT)(out:Int):AW ⟨h.nx+1,((h.bl.a_ h.nx (aj vs 224 false)).a_ E.z.ab (aj [pt E.A.wb,X8 0,X8 D.ni,va,vh,pt E.z.pb,pt h.nx] 155 false)).a_ h.nx (dR E.z c' (.slice none 0 0) (.slice none 0 0)),h.lo⟩ E H X N 0 y out D h.nx c'/\
  FK E.a h ⟨h.nx+1,((h.bl.a_ h.nx (aj vs 224 false)).a_ E.z.ab (aj [pt E.A.wb,X8 0,X8 D.ni,va,vh,pt E.z.pb,pt h.nx] 155 false)).a_ h.nx (dR E.z c' (.slice none 0 0) (.slice none 0 0)),h.lo⟩:=by
 have OI:=(Le.refl h).new (aj vs 224 false);have sB:=s.le OI;have hl:=s.g.FO;have lo:=s.lo;have gaB:=(OI.get _ hl.1).trans ga;have q:=sB.g.set (D':=D) (cp':=some h.nx) (sa.le OI) (sh.le OI) rfl;have w1:=λob=>(sB.w y out).put gaB (by unfold mE;decide) (by unfold ki;decide) ob;have f1:=λob=>FK.put (a:=E.a) gaB (.inl rfl) ob;unfold agO at q;rw[s.wb,s.th]at q;have gk:((h.bl.a_ h.nx (aj vs 224 false)).a_ E.z.ab (aj [pt E.A.wb,X8 0,X8 D.ni,va,vh,pt E.z.pb,pt h.nx] 155 false)).get h.nx=some (aj vs 224 false):=(T.aD _ _ X1).trans (T.ay _ _ _);have w2:=(w1 (aj [pt E.A.wb,X8 0,X8 D.ni,va,vh,pt E.z.pb,pt h.nx] 155 false)).put gk (by unfold mE;decide) (by unfold ki;decide) (dR E.z c' (.slice none 0 0) (.slice none 0 0));have g2:=jF.put q gk (.inl rfl) (dR E.z c' (.slice none 0 0) (.slice none 0 0));have f2:=FK.put (a:=E.a) (h:=⟨h.nx+1,(h.bl.a_ h.nx (aj vs 224 false)).a_ E.z.ab (aj [pt E.A.wb,X8 0,X8 D.ni,va,vh,pt E.z.pb,pt h.nx] 155 false),h.lo⟩) gk (.inr (.inl rfl)) (dR E.z c' (.slice none 0 0) (.slice none 0 0));have c2:=jd.mk' (h:=⟨h.nx+1,(h.bl.a_ h.nx (aj vs 224 false)).a_ E.z.ab (aj [pt E.A.wb,X8 0,X8 D.ni,va,vh,pt E.z.pb,pt h.nx] 155 false),h.lo⟩) (z:=E.z) (c':=c') (vn:=.slice none 0 0) (vg:=.slice none 0 0) ⟨Nat.lt_succ_self _,lo⟩ gk (.inl ⟨h1,rfl⟩) (.inl ⟨h2,_,_,rfl⟩) h3;exact⟨⟨w2,g2,c2,s.wb,s.th⟩,((FK.le OI).trans (f1 _)).trans f2⟩
theorem O4(s:AI h E H X N D)(ht:D.ni≠0)(l1:D.has.length<=1000)(l2:D.asked.length<=1000)(k t r m w:Int)(hm:Zr k t r m w=true)(V:KQ)(hk:∀h' kb,AW h' E H X N 0 tT 0 D kb (jR E.z D k t r m w)->FK E.a h h'->av prog (FQ k) [pt E.z.ab] h' λ_ h=>V (X8 0) h):av prog 73 [pt E.z.ab,.agg ⟨[X8 k,X8 0,X8 t,X8 r,X8 m,X8 0]⟩,X8 w] h V:=by
 have hlo:=s.lo;have bn:=λ(β:Type)(fl:β)(cn:Bool)(h:af)(V:X3 β)=>Km (fl:=fl) cn none h V;simp only[dF,Option.isSome]at bn;apply X9;rw[akd];simp(disch:=try exact Y)only[Wz,q9];obtain⟨hA,aY,aU,gA,dI,dJ⟩:=kG h (aj [X8 k,X8 0,X8 t,X8 r,X8 m,X8 0] 66 false);rw[<-aY]
 try rw[show(h.bl.a_ (h.nx) (aj [X8 k,X8 0,X8 t,X8 r,X8 m,X8 0] 66 false))=hA.bl by rw[aY]]
 clear aY;have sA:=s.le aU;obtain⟨va,vh,ga,sa,sh⟩:=sA.ag;have tg:=sA.g.FO;simp(disch:=try exact Y)only[Wz,Ol,aN,ga,bf ht,bn,gA];refine agt k t r m w hm hA _ X1 ?_;intro h1 bN;have s1:=sA.le bN;have Zo:=(bN.get _ tg.1).trans ga;have Cq:=bN.nx;have Cr:=bN.lo;have gA:=(bN.get _ X1).trans gA;have rJ:=s1.g.FO;have Rz:=s1.lo;have sa1:=sa.le bN;have sh1:=sh.le bN;have hab:E.z.ab≠h1.nx:=by omega
 have hA1:h.nx≠E.z.ab:=λe=>dK gA Zo X7 e;have hA2:h.nx<h1.nx:=by omega
 have f1:=FK.le (a:=E.a) (aU.trans bN);simp(disch:=try exact Y)only[Wz,aN,Zo,gA,Oj,Cw];refine⟨λl' h'=>V (X8 0) h',?_,λl' h' hk=>hk⟩;by_cases dZ:k=1
 .simp(disch:=try exact Y)only[Wz,zY,gA,bz dZ,Oi,sJ,aN];have q:=s1.call Zo sa1 sh1 [.slice none 0 0,.slice none 0 0,X8 k,X8 0,X8 t,X8 r,X8 m,X8 0,X8 w,X8 0,X8 0,X8 0,X8 0,X8 0,X8 0,X8 0,X8 0,Value.nilFunc,Value.nilFunc,.bool false,X8 0] (c':=⟨k,t,r,m,w,tT,0,126,.func (.func 127) ⟨[pt E.z.ab]⟩ ⟨[]⟩,false,0,[],[]⟩) rfl rfl rfl tT 0;unfold dR tT at q;have sa2:=sa1.fk q.2;have sh2:=sh1.fk q.2;have gA2:=(q.2.ty _ _ _ _ hA2 gA (by unfold mE;decide) (by unfold ki;decide) (by unfold KI;decide)).trans gA;refine nW D.asked t r _ va _ sa2.1 X1 (by show h1.lo<=h1.nx+1;omega) ?_;intro h3 dM;have n3:h1.nx+1<=h3.nx:=dM.nx;have l3:h3.lo=h1.lo:=dM.lo;have ga3:h3.bl.get E.z.ab=some (aj [pt E.A.wb,X8 0,X8 D.ni,va,vh,pt E.z.pb,pt h1.nx] 155 false):=(dM.get _ (by show E.z.ab<h1.nx+1;omega)).trans ((T.aD _ _ X1).trans (T.ay _ _ _));have gk3:=(dM.get h1.nx (Nat.lt_succ_self _)).trans (T.ay _ _ _);have gA3:=(dM.get h.nx (by show h.nx<h1.nx+1;omega)).trans gA2;have qv:=sh.2.2;simp(disch:=try exact Y)only[Wz,aN,ga3,gA3,qv];refine yR _ _ ?_;simp(disch:=try exact Y)only[Wz,aN,ga3,gA3,qv];refine agc D.has t r _ h3 vh _ (sh2.le dM).1 X1 X1 ?_;intro v' h4 pe jP;have n4:=jP.nx;have l4:=jP.lo;have gk4:=(jP.get h1.nx X1).trans gk3;have s4:=q.1.le (dM.trans jP);obtain⟨x',c',e'⟩:=pe.cell;subst e';have q4:=s4.Ki (c':=jR E.z D k t r m w) (vg:=.slice none 0 0) (by unfold jR;rw[if_pos dZ];exact pe) (by unfold jR;rw[if_pos dZ];exact .inl ⟨rfl,_,_,rfl⟩) (by unfold jR;rw[if_pos dZ];rfl);have hk:=hk _ _ (q4.1.rest tT 0) ((f1.trans (q.2.trans (FK.le (dM.trans jP)))).trans q4.2);unfold FQ jR at hk;rw[if_pos dZ,if_pos dZ]at hk;unfold dR tT at hk;simp(disch:=try exact Y)only[Wz,aN,gk4];exact hk
 .by_cases hk2:k=2
  .have q:=s1.call Zo sa1 sh1 [.slice none 0 0,.slice none 0 0,X8 k,X8 0,X8 t,X8 r,X8 m,X8 0,X8 w,X8 0,X8 0,X8 0,X8 0,X8 0,X8 0,X8 0,X8 0,Value.nilFunc,Value.nilFunc,.bool false,X8 0] (c':=jR E.z D k t r m w) (by unfold jR;rw[if_neg dZ,if_pos hk2]) (by unfold jR;rw[if_neg dZ,if_pos hk2]) (by unfold jR;rw[if_neg dZ,if_pos hk2];rfl) tT 0;have hk:=hk _ _ q.1 (f1.trans q.2);unfold FQ jR at hk;rw[if_neg dZ,if_pos hk2,if_neg dZ,if_pos hk2]at hk;unfold dR tT at hk;simp(disch:=try exact Y)only[Wz,zY,gA,bf dZ,bz hk2,Og,sJ,aN];exact hk
  .have q:=s1.call Zo sa1 sh1 [.slice none 0 0,.slice none 0 0,X8 k,X8 0,X8 t,X8 r,X8 m,X8 0,X8 w,X8 0,X8 0,X8 0,X8 0,X8 0,X8 0,X8 0,X8 0,Value.nilFunc,Value.nilFunc,.bool false,X8 0] (c':=jR E.z D k t r m w) (by unfold jR;rw[if_neg dZ,if_neg hk2]) (by unfold jR;rw[if_neg dZ,if_neg hk2]) (by unfold jR;rw[if_neg dZ,if_neg hk2];rfl) tT 0;have hk:=hk _ _ q.1 (f1.trans q.2);unfold FQ jR at hk;rw[if_neg dZ,if_neg hk2,if_neg dZ,if_neg hk2]at hk;unfold dR tT at hk;simp(disch:=try exact Y)only[Wz,zY,gA,bf dZ,bf hk2,Oh,sJ,aN];exact hk
end
def jl(p:L4):Int × Int:=(p.t,p.r)
theorem iM{t r:Int}{p:L4}:jE t r p=true<->p.t=t/\p.r=r:=by simp[jE]
theorem sL{t r:Int}{p:L4}:jE t r p=false<->¬(p.t=t/\p.r=r):=by rw[<-iM,Bool.not_eq_true]
theorem jG(p:L4)(L:List L4)(t r:Int):aX (p::L) t r=if p.t=t/\p.r=r then p.m else aX L t r:=by
 unfold aX;rw[List.find?_cons];by_cases h:p.t=t/\p.r=r
 .rw[if_pos h,iM.2 h]
 .rw[if_neg h,sL.2 h]
theorem yl(A B:List L4)(p:L4)(t r:Int)(hn:∀q∈A,¬(q.t=p.t/\q.r=p.r)):aX (A++p::B) t r=if p.t=t/\p.r=r then p.m else aX (A++B) t r:=by
 induction A with
 |nil=>rw[List.nil_append,List.nil_append,jG]
 |cons q A ih=>
  have h1:=hn q (.head _);have ih:=ih λx hx=>hn x (.tail _ hx);rw[List.cons_append,List.cons_append,jG,jG,ih];by_cases h:q.t=t/\q.r=r
  .rw[if_pos h,if_pos h,if_neg (λe=>h1 ⟨h.1.trans e.1.symm,h.2.trans e.2.symm⟩)]
  .rw[if_neg h,if_neg h]
theorem Cx(L:List L4)(p:L4):(∃A q B,L=A++q::B/\q.t=p.t/\q.r=p.r/\(∀x∈A,¬(x.t=p.t/\x.r=p.r))/\dx L p=A++p::B)\/(∃A B,L=A++B/\(∀x∈L,¬(x.t=p.t/\x.r=p.r))/\dx L p=A++p::B):=by
 unfold dx;cases hf:L.findIdx? (jE p.t p.r)with
 |some i=>
  rw[List.findIdx?_eq_some_iff_getElem]at hf;obtain⟨hi,h1,h2⟩:=hf;refine .inl ⟨L.take i,L[i],L.drop (i+1),?_,(iM.1 h1).1,(iM.1 h1).2,λx hx=>?_,?_⟩
  .rw[<-List.drop_eq_getElem_cons hi,List.take_append_drop]
  .obtain⟨j,hj⟩:=List.getElem?_of_mem hx;have hj':j<i:=by have:=(List.getElem?_eq_some_iff.1 hj).1;simp at this;omega
   have:=h2 j hj';rw[List.getElem?_take_of_lt hj',List.getElem?_eq_getElem X1]at hj;rw[Option.some.inj hj]at this;exact sL.1 (by simpa using this)
  .show L.set i p=_
   rw[List.set_eq_take_append_cons_drop,if_pos hi]
 |none=>
  rw[List.findIdx?_eq_none_iff]at hf;have hno:∀x∈L,¬(x.t=p.t/\x.r=p.r):=λx hx=>sL.1 (hf x hx);cases hg:L.findIdx? (uY p)with
  |some i=>exact .inr ⟨L.take i,L.drop i,(List.take_append_drop _ _).symm,hno,by simp⟩
  |none=>exact .inr ⟨L,[],by simp,hno,by simp⟩
theorem nj(L:List L4)(p:L4)(t r:Int):aX (dx L p) t r=if p.t=t/\p.r=r then p.m else aX L t r:=by
 rcases Cx L p with⟨A,q,B,rfl,h1,h2,h3,e⟩|⟨A,B,rfl,h3,e⟩
 .rw[e,yl A B p t r h3,yl A B q t r (by rw[h1,h2];exact h3),h1,h2];split<;>rfl
 .rw[e,yl A B p t r λx hx=>h3 x (List.mem_append_left _ hx)]
theorem nZ(L:List L4)(t r t' r':Int):aX (gz L t r) t' r'=if t=t'/\r=r' then 0 else aX L t' r':=by
 induction L with
 |nil=>unfold gz;simp[aX]
 |cons p L ih=>
  unfold gz at ih ⊢;rw[List.filter_cons];by_cases h:p.t=t/\p.r=r
  .rw[iM.2 h,if_neg X7,ih,jG];by_cases h2:t=t'/\r=r'
   .rw[if_pos h2,if_pos h2]
   .rw[if_neg h2,if_neg h2,if_neg (λe=>h2 ⟨h.1.symm.trans e.1,h.2.symm.trans e.2⟩)]
  .rw[sL.2 h,if_pos X7,jG,jG,ih];by_cases h2:t=t'/\r=r'
   .rw[if_pos h2,if_pos h2,if_neg (λe=>h ⟨e.1.trans h2.1.symm,e.2.trans h2.2.symm⟩)]
   .rw[if_neg h2,if_neg h2]
structure kY(M:List (Int × Int))(L:List L4):Prop where
 nd:(L.map jl).Nodup
 ok:∀p∈L,br p.t p.r≠-1/\kn p.m=true/\p.m≠0
 sub:∀p∈L,jl p∈M
theorem kY.nil(M:List (Int × Int)):kY M []:=⟨List.nodup_nil,(λp hp=>by cases hp),(λp hp=>by cases hp)⟩
theorem kY.mode{M:List (Int × Int)}{L:List L4}(s:kY M L){p:L4}(hp:p∈L):aX L p.t p.r=p.m:=by
 have nd:=s.nd;clear s
 induction L with
 |nil=>cases hp
 |cons q L ih=>
  rw[List.map_cons,List.nodup_cons]at nd;rw[jG];rcases List.mem_cons.1 hp with rfl|hp'
  .rw[if_pos ⟨rfl,rfl⟩]
  .rw[if_neg]
   .exact ih hp' nd.2
   .rintro⟨e1,e2⟩;exact nd.1 (List.mem_map.2 ⟨p,hp',by unfold jl;rw[e1,e2]⟩)
theorem Ef{L:List L4}{t r:Int}(h:aX L t r≠0):∃p∈L,p.t=t/\p.r=r/\p.m=aX L t r:=by
 unfold aX at *
 cases hf:L.find? (jE t r)with
 |none=>rw[hf]at h;exact absurd rfl h
 |some p=>exact⟨p,List.mem_of_find?_eq_some hf,(iM.1 (List.find?_some hf)).1,(iM.1 (List.find?_some hf)).2,rfl⟩
theorem kY.CG{M:List (Int × Int)}{L:List L4}(s:kY M L)(t r:Int):kn (aX L t r)=true:=by
 by_cases h:aX L t r=0
 .rw[h];rfl
 .obtain⟨p,hp,rfl,rfl,e⟩:=Ef h;rw[<-e];exact(s.ok p hp).2.1
theorem kY.put{M:List (Int × Int)}{L:List L4}(s:kY M L){p:L4}(ok:br p.t p.r≠-1/\kn p.m=true/\p.m≠0)(hm:jl p∈M):kY M (dx L p):=by
 have key:∀(A B:List L4),((A++B).map jl).Nodup->(∀x∈A++B,¬(x.t=p.t/\x.r=p.r))->((A++p::B).map jl).Nodup:=by
  intro A B h1 h2;have hp:((A++p::B).map jl).Perm (jl p::(A++B).map jl):=by
   rw[<-List.map_cons];exact List.perm_middle.map jl
  rw[hp.nodup_iff,List.nodup_cons];refine⟨λhx=>?_,h1⟩;obtain⟨x,hx,e⟩:=List.mem_map.1 hx;unfold jl at e;exact h2 x hx ⟨congrArg Prod.fst e,congrArg Prod.snd e⟩
 rcases Cx L p with⟨A,q,B,rfl,h1,h2,h3,e⟩|⟨A,B,rfl,h3,e⟩
 .have hk:jl q=jl p:=by unfold jl;rw[h1,h2]
  rw[e];refine⟨?_,λx hx=>?_,λx hx=>?_⟩
  .have:=s.nd;rw[List.map_append,List.map_cons]at this ⊢
   rwa [hk]at this
  .rcases List.mem_append.1 hx with hx|hx
   .exact s.ok x (List.mem_append_left _ hx)
   .rcases List.mem_cons.1 hx with rfl|hx
    .exact ok
    .exact s.ok x (List.mem_append_right _ (.tail _ hx))
  .rcases List.mem_append.1 hx with hx|hx
   .exact s.sub x (List.mem_append_left _ hx)
   .rcases List.mem_cons.1 hx with rfl|hx
    .exact hm
    .exact s.sub x (List.mem_append_right _ (.tail _ hx))
 ·rw[e];have mem:∀x,x∈A++p::B->x=p\/x∈A++B:=λx hx=>by
   rcases List.mem_append.1 hx with hx|hx
   .exact .inr (List.mem_append_left _ hx)
   .rcases List.mem_cons.1 hx with rfl|hx
    .exact .inl rfl
    .exact .inr (List.mem_append_right _ hx)
  refine⟨key A B s.nd h3,λx hx=>?_,λx hx=>?_⟩
  .rcases mem x hx with rfl|hx
   .exact ok
   .exact s.ok x hx
  .rcases mem x hx with rfl|hx
   .exact hm
   .exact s.sub x hx
theorem ym(L:List L4)(t r:Int):(gz L t r).Sublist L:=List.filter_sublist
theorem kY.drop{M:List (Int × Int)}{L:List L4}(s:kY M L)(t r:Int):kY M (gz L t r):=
 ⟨s.nd.sublist ((ym L t r).map jl),λp hp=>s.ok p ((ym L t r).subset hp),λp hp=>s.sub p ((ym L t r).subset hp)⟩
theorem Q4{α:Type}[DecidableEq α]:∀(L M:List α),L.Nodup->(∀x∈L,x∈M)->L.length<=M.length:=by
 intro L
 induction L with
 |nil=>intro M _ _;exact Nat.zero_le _
 |cons x L ih=>
  intro M h1 h2;rw[List.nodup_cons]at h1;have hx:=h2 x (.head _);have:=ih (M.erase x) h1.2 λy hy=>(List.mem_erase_of_ne (by rintro rfl;exact h1.1 hy)).2 (h2 y (.tail _ hy));rw[List.length_erase_of_mem hx]at this;have hp:=List.length_pos_of_mem hx;rw[List.length_cons];omega
theorem kY.len{M:List (Int × Int)}{L:List L4}(s:kY M L):L.length<=M.length:=by
 have:=Q4 (L.map jl) M s.nd λx hx=>by
  obtain⟨p,hp,rfl⟩:=List.mem_map.1 hx;exact s.sub p hp
 rwa [List.length_map]at this
theorem agu{t r:Int}:∀a∈oU t r,br a.1 a.2≠-1:=by
 intro a ha;unfold oU at ha;split at ha
 .rw[List.mem_singleton]at ha;subst ha;decide
 .split at ha
  .rename_i h2;rcases List.mem_cons.1 ha with rfl|ha
   .decide
   .rw[List.mem_singleton]at ha;subst ha
    show br t (-1)≠-1
    unfold br at h2 ⊢;split at h2
    .cases h2
    .split at h2
     .cases h2
     .split at h2
      .rename_i h3;rw[if_neg (by rintro⟨rfl,_⟩;revert h3;unfold JI;simp),if_pos ⟨h3.1,rfl⟩];decide
      .cases h2
  .cases ha
theorem Zs{m:Int}(h:kn m=true)(h0:m≠0):kn (pH m)=true/\pH m≠0:=by
 have key:∀i:Nat,i<7->(i:Int)≠0->kn (pH (i:Nat))=true/\pH (i:Nat)≠0:=by decide +kernel
 obtain⟨i,hi,rfl⟩:=kg h;exact key i hi h0
theorem Kq{f:Int->Int->Int}(hf:∀t r,kn (f t r)=true){t r m:Int}(ok:br t r≠-1)(hm:kn m=true)(h0:m≠0):tI (iG f t r m)/\(iG f t r m).length<=3/\∀p∈iG f t r m,(p.1,p.2.1)=(t,r)\/(p.1,p.2.1)∈oU t r:=by
 obtain⟨pk,p0⟩:=Zs hm h0;unfold iG;split
 .exact⟨λp hp=>(by cases hp),Nat.zero_le _,λp hp=>by cases hp⟩
 ·have hu:=OZ f m (oU t r);have hal:=Ae t r;have mem:∀p∈QT f m (oU t r),∃a∈oU t r,p=(a.1,a.2,bZ (f a.1 a.2) (pH m)):=by
   intro p hp;unfold QT at hp;obtain⟨a,ha,rfl⟩:=List.mem_map.1 hp;exact⟨a,(List.mem_filter.1 ha).1,rfl⟩
  refine⟨λp hp=>?_,by rw[List.length_append,List.length_singleton];omega,λp hp=>?_⟩
  .rcases List.mem_append.1 hp with hp|hp
   .obtain⟨a,ha,rfl⟩:=mem p hp;obtain⟨q1,q2,_⟩:=lI (hf a.1 a.2) pk p0;exact⟨agu a ha,q2,q1⟩
   .rw[List.mem_singleton]at hp;subst hp;obtain⟨q1,q2,_⟩:=lI (hf t r) hm h0;exact⟨ok,q2,q1⟩
  .rcases List.mem_append.1 hp with hp|hp
   .obtain⟨a,ha,rfl⟩:=mem p hp;exact .inr ha
   .rw[List.mem_singleton]at hp;subst hp;exact .inl rfl
theorem Q5{β:Type}{fl:β}(a b c d:Int)(h:af)(V:X3 β):uv fl false 1 3 (.agg ⟨[X8 a,X8 b,X8 c,X8 d]⟩) h V=V (X8 d) h:=id rfl
section
variable {h h':af}{A:WA}{a:TA}{N:Nat}{d:TD}{R:RD}{H X:Int->Int->Int}{E:EN}{D:AD}
theorem MA(s:WS h A a N d R)(V:KQ)(hk:V (X8 (A.n:Int)) h):av prog 122 [UV A.wb] h V:=by
 have gw:=s.r.gw;apply X9;rw[acD];simp(disch:=try exact Y)only[Wz,ko,aN,gw];exact hk
theorem VF(s:Dh h a N d)(hlo:h.lo<=h.nx)(V:KQ)(hk:∀h',Le h h'->V (wH a.c) h'):av prog 176 [UV a.tb] h V:=by
 apply X9;rw[ac_];have gt:=s.is.oS;have ht:=s.is.ltt;simp(disch:=try exact Y)only[Wz,qy,aN,gt];exact hk _ ((Le.refl h).new _)
theorem Zt(s:WS h A a N d R)(V:KQ)(hk:∀h',Le h h'->V (wH a.c) h'):av prog 124 [UV A.wb] h V:=by
 have gw:=s.r.gw;have De:=s.r.De;have hlo:=s.lo;apply X9;rw[acF];simp(disch:=try exact Y)only[Wz,ko,aN,gw];have OI:=(Le.refl h).new (aj [X8 0,X8 0,X8 0,X8 0] 115 false);have sB:=s.le OI;refine VF sB.t (by show h.lo<=h.nx+1;omega) _ ?_;intro h1 bN;have n1:h.nx+1<=h1.nx:=bN.nx;have l1:h1.lo=h.lo:=bN.lo;have g:=(bN.get h.nx (Nat.lt_succ_self _)).trans (T.ay _ _ _);simp(disch:=try exact Y)only[Wz,wH,g];exact hk _ ((OI.trans bN).set (Nat.le_refl _) _)
theorem agv(ni most:Int)(h1:ni<0)(h2:0<=most)(h3:most<=8)(h:af)(V:KQ)(hlo:h.lo<=h.nx)(hk:∀pb lb h',Le h h'->h.nx<=lb->h.nx<=pb->pb<h'.nx->lb<h'.nx->h'.bl.get pb=some (aj [pt lb,X8 ni,X8 most] 227 false)->h'.bl.get lb=some (aj [.slice none 0 0] 288 false)->V (.tuple ⟨[pt pb,X8 0]⟩) h'):av prog 123 [X8 ni,X8 most] h V:=by
 apply X9;rw[acE];simp(disch:=try exact Y)only[Wz];exact hk (h.nx+1) h.nx _ (((Le.refl h).new _).new _) (Nat.le_refl _) (Nat.le_succ _) (by show h.nx+1<h.nx+1+1;omega) (by show h.nx<h.nx+1+1;omega) (T.ay _ _ _) ((T.aD _ _ X1).trans (T.ay _ _ _))
theorem agw(W:∀y out,WI h A a H X N 0 y out)(hn:1<=A.n)(hc:0<=a.c.P/\a.c.P<=8)(V:KQ)(hk:∀h' z,AI h' ⟨A,a,z⟩ H X N ⟨0,[],[],[]⟩->z.most=a.c.P->Le h h'->V (.tuple ⟨[pt z.ab,X8 0]⟩) h'):av prog 72 [UV A.wb,X8 ((0:Nat):Int)] h V:=by
 obtain⟨⟨d,R,N0,s1,s2,s3,s4,s5,s6,sc,t⟩,s7,s8⟩:=W ⟨0,0,0,0,0,0,0⟩ 0;have hlo:=s1.lo;apply X9;rw[akc];have e0:((0:Nat):Int)=0:=rfl;simp(disch:=try exact Y)only[Wz,ko,Of,e0];refine MA s1 _ ?_;simp(disch:=try exact Y)only[Wz,bf (show ¬(A.n:Int)<=0 by omega),f_ (show(0:Int)<(A.n:Int)by omega),Oe];refine Zt s1 _ ?_;intro h1 bN;have n1:=bN.nx;have l1:=bN.lo;simp(disch:=try exact Y)only[Wz,wH,Q5];refine agv (-1) a.c.P X7 hc.1 hc.2 h1 _ X1 ?_;intro pb lb h2 bD q1 q2 q3 q4 g1 g2;have n2:=bD.nx;have l2:=bD.lo;simp(disch:=try exact Y)only[Wz];have dM:=(Le.refl h2).new (aj [pt A.wb,X8 0,X8 0,.slice none 0 0,.slice none 0 0,pt pb,.pointer none] 155 false);refine hk _ ⟨h2.nx,pb,lb,A.wb,0,a.c.P⟩ ⟨λy o=>(W y o).le ((bN.trans bD).trans dM),⟨⟨Nat.lt_succ_self _,by show h2.lo<=h2.nx;omega⟩,⟨.slice none 0 0,.slice none 0 0,T.ay _ _ _,mQ.nil _,mQ.nil _⟩,⟨by show pb<h2.nx+1;omega,by show h2.lo<=pb;omega⟩,(dM.get _ q3).trans g1,⟨by show lb<h2.nx+1;omega,by show h2.lo<=lb;omega⟩,.slice none 0 0,(dM.get _ q4).trans g2,mQ.nil _⟩,rfl,rfl⟩ rfl ((bN.trans bD).trans dM)
theorem MB(s:AI h E H X N D)(V:KQ)(hk:V (X8 D.ni) h):av prog 28 [pt E.z.ab] h V:=by
 obtain⟨va,vh,ga,_,_⟩:=s.ag;apply X9;rw[ajH];simp(disch:=try exact Y)only[Wz,q9,aN,ga];exact hk
theorem agx(s:AI h E H X N D)(l2:D.has.length<=1000)(V:KQ)(hk:∀v h',FF h h' v D.has->Le h h'->V v h'):av prog 33 [pt E.z.ab] h V:=by
 obtain⟨va,vh,ga,_,sh⟩:=s.ag;apply X9;rw[ajI];simp(disch:=try exact Y)only[Wz,q9,aN,ga];refine wP D.has h vh _ sh.1 X1 s.lo ?_;intro v h1 o1 bN;exact hk v h1 o1 bN
theorem Q6(s:AI h E H X N D)(h0:D.ni=0)(x:Int)(hx:1<=x)(V:KQ)(hk:∀h',AI h' E H X N { D with ni:=x }->FK E.a h h'->V (X8 0) h'):av prog 35 [pt E.z.ab,X8 x] h V:=by
 obtain⟨va,vh,ga,sa,sh⟩:=s.ag;have tg:=s.g.FO;obtain⟨va0,vh0,g1,_,_⟩:=s.g.ga;have q:=s.g.set (D':={ D with ni:=x }) (cp':=none) sa sh rfl;have hp:=λob y' o'=>(s.w y' o').put g1 (by unfold mE;decide) (by unfold ki;decide) ob;have fp:=λob=>FK.put (a:=E.a) g1 (.inl rfl) ob;unfold agO at q;rw[s.wb,s.th]at q;apply X9;rw[ajJ];simp(disch:=try exact Y)only[Wz,q9,d_ (show 1<=x from hx),aN,ga,bz h0,NP];exact hk _ ⟨hp _,q,s.wb,s.th⟩ (fp _)
end
section
variable {h h':af}{A:WA}{a:TA}{N n:Nat}{H X:Int->Int->Int}{y:iT}{out:Int}
end
structure ams(E:EN)(S:Nat->Nat->af->Prop)(Post:Nat->Int->af->Prop):Prop where
 le:∀i n h,S i n h->(n=3\/n=2\/n=1)/\i<=62
 s32:∀i n h (V:KQ),S i (n+1) h->n≠0->(∀h',S (i+1) n h'->V (.tuple ⟨[.bool false,X8 0,X8 0]⟩) h')->av prog 74 [pt E.z.ab] h V
 s1:∀i h (V:KQ),S i 1 h->(∀h',S (i+1) 3 h'->V (.tuple ⟨[.bool false,X8 0,X8 0]⟩) h')->(∀code h',Post i code h'->V (.tuple ⟨[.bool true,X8 code,X8 0]⟩) h')->av prog 74 [pt E.z.ab] h V
theorem Cy(L:List L4)(p:L4):(dx L p).length<=L.length+1:=by
 rcases Cx L p with⟨A,q,B,rfl,_,_,_,e⟩|⟨A,B,rfl,_,e⟩
 .rw[e];simp
 .rw[e];simp;omega
theorem VG(L:List L4)(p:L4):jD (aX L) p.t p.r p.m=aX (dx L p):=by
 funext t r;rw[nj];unfold jD;by_cases h:t=p.t/\r=p.r
 .rw[if_pos h,if_pos ⟨h.1.symm,h.2.symm⟩]
 .rw[if_neg h,if_neg λe=>h ⟨e.1.symm,e.2.symm⟩]
def kZ(x:Int)(has:List L4)(p:N3):L4:=⟨x,p.1,p.2.1,bZ (aX has p.1 p.2.1) p.2.2⟩
structure Kr(x:Int)(J:Nat->List L4->List N3->Prop)(F:Nat->List L4->Prop):Prop where
 bnd:∀i has p P,J i has (p::P)->i<=60/\has.length<=999/\(p::P).length<=100/\tI (p::P)/\∀t r,kn (aX has t r)=true
 fin:∀i has p P,J i has (p::P)->fc (dx has (kZ x has p)) (p::P)=[]->F (i+2) (dx has (kZ x has p))
 nxt:∀i has p P q Q,J i has (p::P)->fc (dx has (kZ x has p)) (p::P)=q::Q->J (i+3) (dx has (kZ x has p)) (q::Q)
 kn:∀i has p P,J i has (p::P)->∀t r,kn (aX (dx has (kZ x has p)) t r)=true
structure agy(E:EN)(Z:af->Prop)(x:Int)(asked:List L4)(t r m w:Int)(N0:Nat)(J:Nat->List L4->List N3->Prop)(i n:Nat)(h:af):Prop where
 ex:∃(i0:Nat)(has:List L4)(p:N3)(P:List N3)(N kb:Nat)(H:Int->Int->Int)(out:Int)(c:CD),i+n=i0+3/\J i0 has (p::P)/\AW h E H (λ_ _=>x) N n (rC ⟨x,asked,has,[]⟩ c p) out ⟨x,asked,has,[]⟩ kb c/\c.fM=p::P/\c.ask=rC ⟨x,asked,has,[]⟩ c p/\
  c.beh=126/\c.code=0/\c.t=t/\c.r=r/\c.m=m/\c.w=w/\3*N<=3*N0+i0+2/\Z h/\
  ((n≠1/\H=aX has)\/(n=1/\((out=1/\H=aX (dx has (kZ x has p)))\/(out=5/\H=aX has/\8<=N))))
 n3:n=3\/n=2\/n=1
def agz(E:EN)(Z:af->Prop)(x:Int)(asked:List L4)(t r m:Int)(N0:Nat)(J:Nat->List L4->List N3->Prop)(F:Nat->List L4->Prop)(i:Nat)(code:Int)(h:af):Prop:=
 ∃has asked' N,AI h E (aX has) (λ_ _=>x) N ⟨x,asked',has,[]⟩/\Z h/\3*N<=3*N0+i+2/\((code=1/\asked'=dx asked ⟨x,t,r,bZ (aX asked t r) m⟩/\F i has)\/(code=5/\asked'=asked/\8<=N/\∃i0 p P,i=i0+2/\J i0 has (p::P)))
theorem Zu{E:EN}{Z:af->Prop}(hZ:∀{h h':af},Z h->FK E.a h h'->Z h'){x:Int}(hx:0<=x){asked:List L4}{t r m w:Int}{N0:Nat}{J:Nat->List L4->List N3->Prop}{F:Nat->List L4->Prop}(C:Kr x J F)(hN0:N0<=800)(la:asked.length<=1000)(hw:0<=w)(hm:kn m=true):ams E (agy E Z x asked t r m w N0 J) (agz E Z x asked t r m N0 J F):=by
 refine⟨λi n h s=>?_,λi n h V s hn hk=>?_,λi h V s dZ hk2=>?_⟩
 .obtain⟨⟨i0,has,p,P,N,kb,H,out,c,e1,hJ,_⟩,n3⟩:=s;have:=(C.bnd i0 has p P hJ).1;exact⟨n3,X1⟩
 ·obtain⟨⟨i0,has,p,P,N,kb,H,out,c,e1,hJ,s,c1,c2,c3,c4,c5,c6,c7,c8,c9,f,hH⟩,n3⟩:=s;obtain⟨b1,b2,b3,b4,b5⟩:=C.bnd i0 has p P hJ;have ok:=b4 p (.head _);have hE:H=aX has:=by
   rcases hH with⟨_,e⟩|⟨e,_⟩
   .exact e
   .omega
  have VE:c.ask.k≠0:=by rw[c2];show(1:Int)≠0;decide
  refine Ko s X1 VE (agy E Z x asked t r m w N0 J (i+1) n) ?_ V hk;intro κ1 dZ;have n2:n=2\/n=1:=by omega
  rcases n2 with rfl|rfl
  .refine Ee s.w κ1 λh' w' k'=>dZ h' ⟨⟨i0,has,p,P,N,kb,H,out,c,X1,hJ,s.wk w' k',c1,c2,c3,c4,c5,c6,c7,c8,c9,hZ f k'.fk,.inl ⟨X7,hE⟩⟩,.inr (.inl rfl)⟩
  .refine Kf s.w X1 rfl (λ_=>hx) κ1 ?_ ?_ ?_ ?_
   .intro _ h' w' k';refine dZ h' ⟨⟨i0,has,p,P,N,kb,_,1,c,X1,hJ,s.wk w' k',c1,c2,c3,c4,c5,c6,c7,c8,c9,hZ f k'.fk,.inr ⟨rfl,.inl ⟨rfl,?_⟩⟩⟩,.inr (.inr rfl)⟩;rw[<-VG,hE]
    show jD (aX has) p.1 p.2.1 (bZ (aX has p.1 p.2.1) (bZ (aX has p.1 p.2.1) p.2.2))=_
    rw[(lI (b5 _ _) ok.2.1 ok.2.2).2.2.1];rfl
   .intro _ _ h8 h' w' k';exact dZ h' ⟨⟨i0,has,p,P,N,kb,_,5,c,X1,hJ,s.wk w' k',c1,c2,c3,c4,c5,c6,c7,c8,c9,hZ f k'.fk,.inr ⟨rfl,.inr ⟨rfl,hE,h8⟩⟩⟩,.inr (.inr rfl)⟩
   .intro e;exact absurd e (by show ¬(1:Int)=2;decide)
   .intro e;exact absurd e (by show ¬(1:Int)=3;decide)
 .obtain⟨⟨i0,has,p,P,N,kb,H,out,c,e1,hJ,s,c1,c2,c3,c4,c5,c6,c7,c8,c9,f,hH⟩,n3⟩:=s;obtain⟨b1,b2,b3,b4,b5⟩:=C.bnd i0 has p P hJ;have ok:=b4 p (.head _);have hi:i=i0+2:=by omega
  have VE:c.ask.k≠0:=by rw[c2];show(1:Int)≠0;decide
  have atC:c.ask.k=1:=by rw[c2];rfl
  have ham:c.ask.m=bZ (aX has p.1 p.2.1) p.2.2:=by rw[c2];rfl
  refine Kp s VE V ?_;intro h1 s1 f1;rw[c3];refine Q0 s1 (p:=p) (P:=P) c1 atC (by show has.length<=1000;omega) out _ ?_ ?_
  ·intro ho h2 s2 f2;have hH:out=5/\H=aX has/\8<=N:=by
    rcases hH with⟨e,_⟩|⟨_,⟨e,_⟩|e⟩
    .exact absurd rfl e
    .exact absurd e ho
    .exact e
   obtain⟨e1,e2,e3⟩:=hH;refine⟨H,_,N,0,_,_,_,_,s2,f2,λe=>?_,λ_=>⟨rfl,λh3 a3 f3=>?_⟩⟩
   .exact absurd (show out=0 from e) X1
   .refine hk2 out h3 ⟨has,asked,N,by rw[<-e2];exact a3,hZ (hZ (hZ f f1) f2) f3,X1,.inr ⟨e1,rfl,e3,i0,p,P,hi,hJ⟩⟩
  ·intro ho h2 s2 f2;have hH:H=aX (dx has (kZ x has p)):=by
    rcases hH with⟨e,_⟩|⟨_,⟨_,e⟩|⟨e,_⟩⟩
    .exact absurd rfl e
    .exact e
    .omega
   have eD:(⟨x,asked,dx has ⟨x,p.1,p.2.1,c.ask.m⟩,[]⟩:AD)=⟨x,asked,dx has (kZ x has p),[]⟩:=by rw[ham];rfl
   have s2':AW h2 E H (λ_ _=>x) N 0 (rC ⟨x,asked,has,[]⟩ c p) out ⟨x,asked,dx has (kZ x has p),[]⟩ kb { c with seen:=true }:=by
    have:=s2;rw[ham]at this;exact this
   have RU:=Cy has (kZ x has p);refine O2 s2' X1 rfl (by show(dx has (kZ x has p)).length<=1000;omega) la (by show c.fM.length<=100;rw[c1];exact b3) (by show 0<=c.w;omega) (by show kn c.m=true;rw[c7];exact hm) (by show tI c.fM;rw[c1];exact b4) (C.kn i0 has p P hJ) 0 _ ?_ ?_
   .intro hL h3 s3 f3;have hL:fc (dx has (kZ x has p)) (p::P)=[]:=by rw[<-c1];exact hL
    refine⟨H,_,N,0,_,_,_,_,s3,f2.trans f3,λe=>?_,λ_=>⟨rfl,λh4 a4 f4=>?_⟩⟩
    .exact absurd (show(1:Int)=0 from e) X7
    .refine hk2 1 h4 ⟨_,_,N,by rw[<-hH];exact a4,hZ (hZ (hZ (hZ f f1) f2) f3) f4,X1,.inl ⟨rfl,?_,?_⟩⟩
     .show dx asked ⟨x,c.t,c.r,bZ (aX asked c.t c.r) c.m⟩=_
      rw[c5,c6,c7]
     .rw[hi];exact C.fin i0 has p P hJ hL
   .intro q Q hL h3 s3 f3;have hL:fc (dx has (kZ x has p)) (p::P)=q::Q:=by rw[<-c1];exact hL
    refine⟨H,_,N+1,3,_,_,_,_,s3,f2.trans f3,λ_=>?_,λe=>absurd c4 e⟩;refine dZ h3 ⟨⟨i0+3,_,q,Q,N+1,kb,H,0,{ c with seen:=true,fM:=q::Q,ask:=rC ⟨x,asked,dx has (kZ x has p),[]⟩ c q },X1,C.nxt i0 has p P q Q hJ hL,s3,rfl,rfl,c3,c4,c5,c6,c7,c8,X1,hZ (hZ (hZ f f1) f2) f3,.inl ⟨X7,hH⟩⟩,.inl rfl⟩
def sM(E:EN)(bu:List L4)(g:L4):List L4:=if yh g.t g.r g.m=true/\0<E.z.most-bu.length then dx bu ⟨-1-E.z.th,g.t,g.r,g.m⟩else bu
structure GoP(E:EN)(x:Int)(M:List (Int × Int))(has bu:List L4)(H X:Int->Int->Int):Prop where
 h:kY M has
 p:kY M bu
 dis:∀t r,aX has t r≠0->aX bu t r=0
 le:(bu.length:Int)<=E.z.most
 H:∀t r,H t r=if aX has t r≠0 then aX has t r else aX bu t r
 X:∀t r,aX has t r≠0->X t r=x
section
variable {E:EN}{x:Int}{M:List (Int × Int)}{has bu:List L4}{H X:Int->Int->Int}
theorem wQ{t r t' r':Int}(h:aX (gz has t r) t' r'≠0):¬(t=t'/\r=r')/\aX has t' r'≠0:=by
 rw[nZ]at h;by_cases e:t=t'/\r=r'
 .rw[if_pos e]at h;exact absurd rfl h
 .rw[if_neg e]at h;exact⟨e,h⟩
theorem GoP.drop(s:GoP E x M has bu H X){g:L4}(hg:g∈has)(hn:¬(yh g.t g.r g.m=true/\0<E.z.most-bu.length)):GoP E x M (gz has g.t g.r) (sM E bu g) (jD H g.t g.r 0) X:=by
 have e0:sM E bu g=bu:=if_neg hn;rw[e0];have Zv:aX has g.t g.r≠0:=by rw[s.h.mode hg];exact(s.h.ok g hg).2.2
 refine⟨s.h.drop _ _,s.p,λt r h=>s.dis t r (wQ h).2,s.le,λt r=>?_,λt r h=>s.X t r (wQ h).2⟩;by_cases e:g.t=t/\g.r=r
 .have e1:aX (gz has g.t g.r) t r=0:=by rw[nZ,if_pos e]
  rw[e1,if_neg (λh=>h rfl),<-e.1,<-e.2,tF,s.dis _ _ Zv]
 .have e1:aX (gz has g.t g.r) t r=aX has t r:=by rw[nZ,if_neg e]
  rw[e1,mW H λh=>e ⟨h.1.symm,h.2.symm⟩];exact s.H t r
theorem GoP.hand(s:GoP E x M has bu H X){g:L4}(hg:g∈has)(hn:yh g.t g.r g.m=true/\0<E.z.most-bu.length)(to:Int):GoP E x M (gz has g.t g.r) (sM E bu g) H (jD X g.t g.r to):=by
 have e0:sM E bu g=dx bu ⟨-1-E.z.th,g.t,g.r,g.m⟩:=if_pos hn;rw[e0];have Zv:aX has g.t g.r≠0:=by rw[s.h.mode hg];exact(s.h.ok g hg).2.2
 refine⟨s.h.drop _ _,s.p.put (s.h.ok g hg) (s.h.sub g hg),λt r h=>?_,?_,λt r=>?_,λt r h=>?_⟩
 .obtain⟨h1,h2⟩:=wQ h;rw[nj,if_neg h1];exact s.dis t r h2
 .have:=Cy bu ⟨-1-E.z.th,g.t,g.r,g.m⟩;omega
 .have hH:=s.H t r;by_cases e:g.t=t/\g.r=r
  .have e1:aX (gz has g.t g.r) t r=0:=by rw[nZ,if_pos e]
   have e2:aX (dx bu ⟨-1-E.z.th,g.t,g.r,g.m⟩) t r=g.m:=by rw[nj,if_pos e]
   rw[e1,if_neg (λh=>h rfl),e2,hH,<-e.1,<-e.2,if_pos Zv,s.h.mode hg]
  .have e1:aX (gz has g.t g.r) t r=aX has t r:=by rw[nZ,if_neg e]
   have e2:aX (dx bu ⟨-1-E.z.th,g.t,g.r,g.m⟩) t r=aX bu t r:=by rw[nj,if_neg e]
   rw[e1,e2];exact hH
 .obtain⟨h1,h2⟩:=wQ h;rw[mW X λe=>h1 ⟨e.1.symm,e.2.symm⟩];exact s.X t r h2
theorem Q7{g:L4}{G:List L4}(s:kY M has)(hp:(g::G).Perm has):G.Perm (gz has g.t g.r):=by
 have h1:gz (g::G) g.t g.r=G:=by
  have nd:((g::G).map jl).Nodup:=((hp.map jl).nodup_iff).2 s.nd;rw[List.map_cons,List.nodup_cons]at nd;unfold gz;rw[List.filter_cons,iM.2 ⟨rfl,rfl⟩,if_neg X7,List.filter_eq_self.2];intro y hy;rw[Bool.not_eq_true',sL];rintro⟨e1,e2⟩;exact nd.1 (List.mem_map.2 ⟨y,hy,by unfold jl;rw[e1,e2]⟩)
 have h2:(gz (g::G) g.t g.r).Perm (gz has g.t g.r):=hp.filter _
 rwa [h1]at h2
end
theorem O5{E:EN}{D:AD}{g:L4}:(xb E D g).k≠0/\(xb E D g).k≠1:=by
 unfold xb;split
 .exact⟨show(3:Int)≠0 by decide,show(3:Int)≠1 by decide⟩
 .exact⟨show(2:Int)≠0 by decide,show(2:Int)≠1 by decide⟩
structure SGo(E:EN)(Z:af->Prop)(x:Int)(M:List (Int × Int))(asked:List L4)(N0 L0:Nat)(i n:Nat)(h:af):Prop where
 ex:∃(i0:Nat)(g:L4)(G has bu:List L4)(N kb:Nat)(H X H0 X0:Int->Int->Int)(out:Int)(c:CD),i+n=i0+3/\i0+3*(G.length+1)<=1+3*L0/\AW h E H X N n (xb E ⟨x,asked,has,bu⟩ g) out ⟨x,asked,has,bu⟩ kb c/\c.goes=g::G/\(g::G).Perm has/\c.ask=xb E ⟨x,asked,has,bu⟩ g/\
  c.beh=191/\c.code=0/\3*N<=3*N0+i0+2/\Z h/\GoP E x M has bu H0 X0/\(n≠1->H=H0/\X=X0)/\(n=1->out=1/\GoP E x M (gz has g.t g.r) (sM E bu g) H X)
 n3:n=3\/n=2\/n=1
def PGo(E:EN)(Z:af->Prop)(M:List (Int × Int))(i:Nat)(code:Int)(h:af):Prop:=
 code=1/\∃bu X N,AI h E (aX bu) X N ⟨0,[],[],bu⟩/\kY M bu/\(bu.length:Int)<=E.z.most/\Z h
theorem go_run{E:EN}{Z:af->Prop}(hZ:∀{h h':af},Z h->FK E.a h h'->Z h'){x:Int}(hx:1<=x){M:List (Int × Int)}(hM:M.length<=19){asked:List L4}{N0 L0:Nat}(hL0:L0<=19)(hN0:N0<=800)(uq:0<=E.z.most/\E.z.most<=8)(Di:E.z.th=0):ams E (SGo E Z x M asked N0 L0) (PGo E Z M):=by
 refine⟨λi n h s=>?_,λi n h V s hn hk=>?_,λi h V s dZ hk2=>?_⟩
 .obtain⟨⟨i0,g,G,has,bu,N,kb,H,X,H0,X0,out,c,e1,e2,_⟩,n3⟩:=s;exact⟨n3,X1⟩
 .obtain⟨⟨i0,g,G,has,bu,N,kb,H,X,H0,X0,out,c,e1,e2,s,c1,hp,c2,c3,c4,c5,f,P,hH,_⟩,n3⟩:=s;obtain⟨rfl,rfl⟩:=hH X1;have hg:g∈has:=hp.mem_iff.1 (.head _);have Zv:aX has g.t g.r≠0:=by rw[P.h.mode hg];exact(P.h.ok g hg).2.2
  have VE:c.ask.k≠0:=by rw[c2];exact O5.1
  have Xd:(xb E ⟨x,asked,has,bu⟩ g).x=X (xb E ⟨x,asked,has,bu⟩ g).t (xb E ⟨x,asked,has,bu⟩ g).r:=by
   unfold xb;split<;>exact(P.X _ _ Zv).symm
  have hg0:(xb E ⟨x,asked,has,bu⟩ g).t=g.t/\(xb E ⟨x,asked,has,bu⟩ g).r=g.r/\(xb E ⟨x,asked,has,bu⟩ g).x=x:=by
   unfold xb;split<;>exact⟨rfl,rfl,rfl⟩
  have hHg:H g.t g.r≠0:=by rw[P.H,if_pos Zv];exact Zv
  refine Ko s X1 VE (SGo E Z x M asked N0 L0 (i+1) n) ?_ V hk;intro κ1 dZ;have n2:n=2\/n=1:=by omega
  rcases n2 with rfl|rfl
  .refine Ee s.w κ1 λh' w' k'=>dZ h' ⟨⟨i0,g,G,has,bu,N,kb,H,X,H,X,out,c,X1,e2,s.wk w' k',c1,hp,c2,c3,c4,c5,hZ f k'.fk,P,λ_=>⟨rfl,rfl⟩,λe=>by omega⟩,.inr (.inl rfl)⟩
  .refine Kf s.w X1 Xd (λ_=>by rw[hg0.2.2];omega) κ1 ?_ ?_ ?_ ?_
   .intro e;exact absurd e O5.2
   .intro e;exact absurd e O5.2
   ·intro e h' w' k';have hn:¬(yh g.t g.r g.m=true/\0<E.z.most-bu.length):=by
     intro hc;unfold xb at e;rw[if_pos hc]at e;exact absurd e (by show ¬(3:Int)=2;decide)
    rw[hg0.1,hg0.2.1]at w';rw[if_neg hHg]at w';exact dZ h' ⟨⟨i0,g,G,has,bu,N,kb,_,X,H,X,1,c,X1,e2,s.wk w' k',c1,hp,c2,c3,c4,c5,hZ f k'.fk,P,λe=>absurd rfl e,λ_=>⟨rfl,P.drop hg hn⟩⟩,.inr (.inr rfl)⟩
   ·intro e h' w' k';have hn:yh g.t g.r g.m=true/\0<E.z.most-bu.length:=by
     refine Classical.byContradiction λhc=>?_;unfold xb at e;rw[if_neg hc]at e;exact absurd e (by show ¬(2:Int)=3;decide)
    unfold FN at w';rw[hg0.1,hg0.2.1]at w';rw[if_neg hHg,if_neg hHg]at w';exact dZ h' ⟨⟨i0,g,G,has,bu,N,kb,_,_,H,X,1,c,X1,e2,s.wk w' k',c1,hp,c2,c3,c4,c5,hZ f k'.fk,P,λe=>absurd rfl e,λ_=>⟨rfl,P.hand hg hn _⟩⟩,.inr (.inr rfl)⟩
 .obtain⟨⟨i0,g,G,has,bu,N,kb,H,X,H0,X0,out,c,e1,e2,s,c1,hp,c2,c3,c4,c5,f,P,_,hH⟩,n3⟩:=s;obtain⟨rfl,P'⟩:=hH rfl;have hg:g∈has:=hp.mem_iff.1 (.head _);have Zv:aX has g.t g.r≠0:=by rw[P.h.mode hg];exact(P.h.ok g hg).2.2
  have VE:c.ask.k≠0:=by rw[c2];exact O5.1
  have hi:i=i0+2:=by omega
  have lh:=P.h.len;have lp:=P.p.len;have lp':=P'.p.len;have lh':=P'.h.len;have hpG:=Q7 P.h hp;have hGl:=hpG.length_eq;have amv:(if c.ask.k=3/\(1:Int)=1 then FP E.z.most (-1-E.z.th) bu g.t g.r g.m else bu)=sM E bu g:=by
   rw[c2];unfold xb sM;by_cases hn:yh g.t g.r g.m=true/\0<E.z.most-bu.length
   .rw[if_pos hn,if_pos hn,if_pos ⟨rfl,rfl⟩];unfold FP;rw[if_neg (by rw[hn.1];decide),if_neg (λh=>h (P.dis _ _ Zv)),if_neg X1]
   .rw[if_neg hn,if_neg hn,if_neg (λe=>absurd e.1 (by show ¬(2:Int)=3;decide))]
  refine Kp s VE V ?_;intro h1 s1 f1;rw[c3];refine Q3 s1 uq (by show has.length<=1000;omega) (by show bu.length<=1000;omega) (g:=g) (G:=G) c1 1 _ ?_;intro h2 s2 f2;have eD:uo E ⟨x,asked,has,bu⟩ { c with seen:=true } g 1=⟨x,asked,gz has g.t g.r,sM E bu g⟩:=by
   unfold uo;rw[amv]
  rw[eD]at s2;refine O3 s2 X1 uq (by show(sM E bu g).length<=1000;omega) (by show G.length<=1000;omega) (λq hq=>?_) (by show x≠-1-E.z.th;omega) 0 _ ?_ ?_
  .exact(P'.h.ok q (hpG.mem_iff.1 hq)).1
  .intro hG h3 s3 f3;have hG:G=[]:=hG;have hh0:gz has g.t g.r=[]:=by rw[hG]at hpG;exact List.Perm.eq_nil hpG.symm
   refine⟨H,X,N,0,_,_,_,_,s3,f2.trans f3,λe=>?_,λ_=>⟨rfl,λh4 a4 f4=>?_⟩⟩
   .exact absurd (show(1:Int)=0 from e) X7
   ·refine hk2 1 h4 ⟨rfl,sM E bu g,X,N,?_,P'.p,P'.le,hZ (hZ (hZ (hZ f f1) f2) f3) f4⟩;have eH:H=aX (sM E bu g):=by
     funext t r;rw[P'.H t r,hh0];exact if_neg (λh=>h rfl)
    rw[<-eH];exact a4
  .intro q Q hG h3 s3 f3;have hG:G=q::Q:=hG;refine⟨H,X,N+1,3,_,_,_,_,s3,f2.trans f3,λ_=>?_,λe=>absurd c4 e⟩;refine dZ h3 ⟨⟨i0+3,q,Q,_,_,N+1,kb,H,X,H,X,0,_,X1,?_,s3,hG,by rw[<-hG];exact hpG,rfl,c3,c4,X1,hZ (hZ (hZ f f1) f2) f3,P',λ_=>⟨rfl,rfl⟩,λe=>by omega⟩,.inl rfl⟩;have:G.length=Q.length+1:=by rw[hG];rfl
   omega
theorem agA(t r:Int)(h:af)(V:KQ)(hlo:h.lo<=h.nx)(hk:∀h',Le h h'->V (dg t r) h'):av prog 71 [X8 t,X8 r] h V:=by
 apply X9;rw[akb];simp(disch:=try exact Y)only[Wz];exact hk _ ((Le.refl h).new _)
theorem amw(h:af)(V:KQ)(hlo:h.lo<=h.nx)(hk:∀h',Le h h'->V (dg (-1) (-1)) h'):av prog 75 [] h V:=by
 apply X9;rw[ake];simp(disch:=try exact Y)only[Wz];exact hk _ ((Le.refl h).new _)
theorem kK.fk{h0 h1 h2:af}(ro:kK h0)(l:Le h0 h1){a:TA}(k:FK a h1 h2):Le h0 h2:=
 ⟨Nat.le_trans l.nx k.nx,k.lo.trans l.lo,λd hd=>by
  have e:=l.get d hd;exact(k.ro d (Nat.lt_of_lt_of_le hd l.nx) (λvs t o=>by rw[e];exact(ro d).1 vs t o) (λes c=>by rw[e];exact(ro d).2 es c)).trans e⟩
section
variable {h h':af}{A:WA}{a:TA}{N n:Nat}{d:TD}{R:RD}{H X:Int->Int->Int}{x:iT}{out:Int}
end
def jf(e:HE):MapEntry:={ key:=dg e.t e.r,val:=X8 e.w,born:=e.born }
def cM(M:List HE)(t r:Int):Option Int:=(M.find? (jO t r)).map (·.w)
theorem Ks(h:af)(t r:Int):∀(M:List HE)(i:Nat),(fJ prog h 28 (dg t r) (M.map jf) i=some none/\(∀e∈M,¬(t=e.t/\r=e.r))/\M.find? (jO t r)=none)\/
  ∃(j:Nat)(e:HE),fJ prog h 28 (dg t r) (M.map jf) i=some (some (i+j,jf e))/\M[j]? = some e/\t=e.t/\r=e.r/\M.find? (jO t r)=some e:=by
 intro M
 induction M with
 |nil=>intro i;exact .inl ⟨rfl,(λe he=>nomatch he),rfl⟩
 |cons e M ih=>
  intro i;have hf:fJ prog h 28 (dg t r) ((e::M).map jf) i=(match(some (decide (t=e.t/\r=e.r)):Option Bool)with|some true=>some (some (i,jf e))|some false=>fJ prog h 28 (dg t r) (M.map jf) (Nat.succ i)|none=>none):=by
   rw[<-eqN h];rfl
  rw[hf];by_cases h1:t=e.t/\r=e.r
  .rw[bz h1];exact .inr ⟨0,e,rfl,rfl,h1.1,h1.2,by rw[List.find?_cons];unfold jO;rw[bz h1]⟩
  .rw[bf h1];have h2:jO t r e=false:=bf h1;rcases ih (Nat.succ i)with⟨g1,g2,g3⟩|⟨j,e',g1,g2,g3,g4,g5⟩
   .exact .inl ⟨g1,(λx hx=>by rcases List.mem_cons.1 hx with rfl|hx;exact h1;exact g2 x hx),by rw[List.find?_cons,h2];exact g3⟩
   .exact .inr ⟨j+1,e',by rw[show i+(j+1)=Nat.succ i+j by omega];exact g1,g2,g3,g4,by rw[List.find?_cons,h2];exact g5⟩
section
variable {β:Type}{fl:β}{M:List HE}{clock:Nat}{h:af}{bm:Nat}
theorem aba(g:h.bl.get bm=some (.map (M.map jf) clock))(t r:Int)(V:X3 β):cq fl prog 28 (X8 0) true (.map (some bm)) (dg t r) h V=V (.tuple ⟨[X8 ((cM M t r).getD 0),.bool (cM M t r).isSome]⟩) h:=by
 unfold cq iP cM;rw[Db];simp only[g];rcases Ks h t r M 0 with⟨g1,_,g2⟩|⟨j,e,g1,_,_,_,g2⟩
 .rw[g1,g2];rfl
 .rw[g1,g2];rfl
theorem VH(g:h.bl.get bm=some (.map (M.map jf) clock))(t r:Int)(V:X3 β):cq fl prog 28 (X8 0) false (.map (some bm)) (dg t r) h V=V (X8 ((cM M t r).getD 0)) h:=by
 unfold cq iP cM;rw[Db];simp only[g];rcases Ks h t r M 0 with⟨g1,_,g2⟩|⟨j,e,g1,_,_,_,g2⟩
 .rw[g1,g2];rfl
 .rw[g1,g2];rfl
end
def zE(t r:Int)(v:Int)(b:Nat):HE:=⟨t,r,0,b,undef,v,[]⟩
theorem VI{M:List HE}{clock:Nat}{h:af}{bm:Nat}(o:cO M clock)(g:h.bl.get bm=some (.map (M.map jf) clock))(hlo:h.lo<=bm)(t r v:Int)(V:KQ)(hk:∀M' clock' born,cO M' clock'->M'.Perm (M.filter (λx=>!jO t r x)++[zE t r v born])->V undef ⟨h.nx,h.bl.a_ bm (.map (M'.map jf) clock'),h.lo⟩):bQ False prog 28 (.map (some bm)) (dg t r) (X8 v) h V:=by
 unfold bQ;rw[Db];simp only[g];rcases Ks h t r M 0 with⟨g1,g2,_⟩|⟨j,e,g1,g2,g3,g4,_⟩
 ·rw[g1];simp only;rw[lU];simp only[cC];rw[bG _ _ _ _ hlo];have vf:(M++[zE t r v clock]).Perm (M.filter (λx=>!jO t r x)++[zE t r v clock]):=by
   rw[List.filter_eq_self.2 λx hx=>lY.2 (g2 x hx)]
  have:=hk (M++[zE t r v clock]) (clock+1) clock (o.put (e:=zE t r v clock) (Nat.le_succ _) vf (λx hx _=>Nat.ne_of_lt (o.lt x hx)) (Nat.lt_succ_self _)) vf;rw[List.map_append]at this;exact this
 ·rw[g1];simp only[jf,g3,g4,afe];rw[Nat.zero_add,j0 _ _ j (jf e) _ (by rw[List.getElem?_map,g2];rfl),bG _ _ _ _ hlo];subst g3 g4;have vf:(M.set j (zE e.t e.r v e.born)).Perm (M.filter (λx=>!jO e.t e.r x)++[zE e.t e.r v e.born]):=by
   rw[<-erase_filter o.nm g2];obtain⟨hj,_⟩:=List.getElem?_eq_some_iff.1 g2;rw[List.set_eq_take_append_cons_drop,if_pos hj,List.eraseIdx_eq_take_drop_succ];exact(List.perm_middle).trans (List.perm_append_singleton _ _).symm
  have hne:∀x∈M,¬(e.t=x.t/\e.r=x.r)->x.born≠e.born:=λx hx hn zI=>by
   have:∀(L:List HE),(L.Pairwise λa b=>a.born≠b.born)->e∈L->x∈L->e=x:=by
    intro L
    induction L with
    |nil=>intro _ h;nomatch h
    |cons a L ih=>
     intro hp h1 h2;rw[List.pairwise_cons]at hp;rcases List.mem_cons.1 h1 with rfl|k1<;>rcases List.mem_cons.1 h2 with rfl|k2
     .rfl
     .exact absurd zI.symm (hp.1 _ k2)
     .exact absurd zI (hp.1 _ k1)
     .exact ih hp.2 k1 k2
   have:=this M o.bn (List.mem_of_getElem? g2) hx;subst this;exact hn ⟨rfl,rfl⟩
  have:=hk (M.set j (zE e.t e.r v e.born)) clock e.born (o.put (e:=zE e.t e.r v e.born) (Nat.le_refl _) vf hne (o.lt e (List.mem_of_getElem? g2))) vf;rw[List.map_set]at this;exact this
theorem agB{M:List HE}{clock:Nat}{h:af}{bm:Nat}(o:cO M clock)(g:h.bl.get bm=some (.map (M.map jf) clock))(hlo:h.lo<=bm)(t r:Int)(V:KQ)(hk:∀h',h'=⟨h.nx,h.bl.a_ bm (.map ((M.filter (λx=>!jO t r x)).map jf) clock),h.lo⟩\/(h'=h/\M.filter (λx=>!jO t r x)=M)->V (.tuple ⟨[]⟩) h'):jW False prog 28 (.map (some bm)) (dg t r) h V:=by
 unfold jW;rw[Db];simp only[g];rcases Ks h t r M 0 with⟨g1,g2,_⟩|⟨j,e,g1,g2,g3,g4,_⟩
 .rw[g1];exact hk h (.inr ⟨rfl,List.filter_eq_self.2 λx hx=>lY.2 (g2 x hx)⟩)
 .rw[g1];simp only;rw[Nat.zero_add,vt,bG _ _ _ _ hlo];subst g3 g4;refine hk _ (.inl ?_);rw[<-erase_filter o.nm g2,D5]
structure dG(h:af)(sb sm:Nat)(M:List HE)(ck:Nat):Prop where
 rH:sb<h.nx/\h.lo<=sb
 gb:h.bl.get sb=some (aj [.map (some sm)] 175 false)
 jV:sm<h.nx/\h.lo<=sm
 gm:h.bl.get sm=some (.map (M.map jf) ck)
 ok:cO M ck
structure MK(sm:Nat)(h h':af):Prop where
 nx:h.nx<=h'.nx
 lo:h'.lo=h.lo
 get:∀d,d<h.nx->d≠sm->h'.bl.get d=h.bl.get d
theorem MK.le{sm:Nat}{h h':af}(l:Le h h'):MK sm h h':=⟨l.nx,l.lo,λd hd _=>l.get d hd⟩
theorem MK.trans{sm:Nat}{h h1 h2:af}(x:MK sm h h1)(y:MK sm h1 h2):MK sm h h2:=
 ⟨Nat.le_trans x.nx y.nx,y.lo.trans x.lo,λd hd hn=>(y.get d (Nat.lt_of_lt_of_le hd x.nx) hn).trans (x.get d hd hn)⟩
theorem MK.a_{sm:Nat}{h:af}(ob:bP):MK sm h ⟨h.nx,h.bl.a_ sm ob,h.lo⟩:=⟨Nat.le_refl _,rfl,λd _ hn=>T.aD _ _ λe=>hn e.symm⟩
theorem MK.cell{sm:Nat}{h h':af}(k:MK sm h h'){es:List MapEntry}{c:Nat}(gm:h.bl.get sm=some (.map es c)){d:Nat}{v:List Value}{t:TypeId}{o:Bool}(hd:d<h.nx)(hg:h.bl.get d=some (aj v t o)):h'.bl.get d=some (aj v t o):=(k.get d hd (dL hg gm)).trans hg
theorem MK.set{sm:Nat}{h h':af}(k:MK sm h h'){b:Nat}(hb:h.nx<=b)(ob:bP):MK sm h ⟨h'.nx,h'.bl.a_ b ob,h'.lo⟩:=⟨k.nx,k.lo,λd hd hn=>(T.aD _ _ X1).trans (k.get d hd hn)⟩
theorem amx(h:af)(b o:Nat):mR prog h 100 83 (.pointer (some ⟨b,o,none⟩)) (.pointer none)=some false:=by kernel_rfl
theorem n_{β:Type}{fl:β}(cn:Bool)(b o:Nat)(h:af)(V:X3 β):aI fl prog .eql 83 cn false (.pointer (some ⟨b,o,none⟩)) (.pointer none) h V=V (.bool false) h:=by simp only[aI,amx,bX]
section
variable {h h':af}{sb sm:Nat}{M:List HE}{ck:Nat}
theorem dG.le(s:dG h sb sm M ck)(l:Le h h'):dG h' sb sm M ck:=
 ⟨⟨Nat.lt_of_lt_of_le s.rH.1 l.nx,by rw[l.lo];exact s.rH.2⟩,(l.get _ s.rH.1).trans s.gb,⟨Nat.lt_of_lt_of_le s.jV.1 l.nx,by rw[l.lo];exact s.jV.2⟩,(l.get _ s.jV.1).trans s.gm,s.ok⟩
theorem dG.fk{a:TA}(s:dG h sb sm M ck)(k:FK a h h')(hn:sm∉a.ms):dG h' sb sm M ck:=
 ⟨⟨Nat.lt_of_lt_of_le s.rH.1 k.nx,by rw[k.lo];exact s.rH.2⟩,(k.ty _ _ _ _ s.rH.1 s.gb (by unfold mE;decide) (by unfold ki;decide) (by unfold KI;decide)).trans s.gb,⟨Nat.lt_of_lt_of_le s.jV.1 k.nx,by rw[k.lo];exact s.jV.2⟩,(k.mp _ _ _ s.jV.1 s.gm hn).trans s.gm,s.ok⟩
theorem dG.set(s:dG h sb sm M ck){M':List HE}{eY:Nat}(o:cO M' eY):dG ⟨h.nx,h.bl.a_ sm (.map (M'.map jf) eY),h.lo⟩ sb sm M' eY:=
 ⟨s.rH,(T.aD _ _ (λe=>dL s.gb s.gm e.symm)).trans s.gb,s.jV,T.ay _ _ _,o⟩
theorem dG.put(s:dG h sb sm M ck){x:Nat}{v:List Value}{t:TypeId}{o:Bool}(hg:h.bl.get x=some (aj v t o))(ht:t≠175)(ob:bP):dG ⟨h.nx,h.bl.a_ x ob,h.lo⟩ sb sm M ck:=
 ⟨s.rH,(T.aD _ _ (dK hg s.gb ht)).trans s.gb,s.jV,(T.aD _ _ (dL hg s.gm)).trans s.gm,s.ok⟩
def Kt(t r:Int)(o:Option Int):List Value:=[X8 t,X8 r,X8 (o.getD 0),.bool o.isSome]
theorem O6(s:dG h sb sm M ck)(hlo:h.lo<=h.nx)(t r:Int)(V:KQ)(hk:∀h',Le h h'->V (.tuple ⟨[X8 ((cM M t r).getD 0),.bool (cM M t r).isSome]⟩) h'):av prog 384 [pt sb,dg t r] h V:=by
 apply X9;rw[aew];simp(disch:=try exact Y)only[Wz,dg];obtain⟨hA,aY,aU,g1,dI,dJ⟩:=kG h (aj [X8 t,X8 r] 28 false);rw[<-aY]
 try rw[show(h.bl.a_ (h.nx) (aj [X8 t,X8 r] 28 false))=hA.bl by rw[aY]]
 clear aY;have sA:=s.le aU;have gb:=sA.gb;have lk:=λ(β:Type)(fl:β)(V:X3 β)=>aba (fl:=fl) sA.gm t r V;unfold dg at lk;simp(disch:=try exact Y)only[Wz,n_,I5,aN,gb,g1,lk];exact hk hA aU
theorem abb(s:dG h sb sm M ck)(hlo:h.lo<=h.nx){t r:Int}(lv:br t r=2)(V:KQ)(hk:∀h',Le h h'->V (.tuple ⟨[.agg ⟨Kt t r (cM M t r)⟩,X8 0]⟩) h'):av prog 91 [pt sb,dg t r] h V:=by
 apply X9;rw[aaF];simp(disch:=try exact Y)only[Wz,dg];obtain⟨hA,aY,aU,g1,g3,dI,dJ⟩:=AY h (aj [X8 t,X8 r] 28 false) (aj [X8 0,X8 0,X8 0,.bool false] 99 false);rw[<-aY]
 try rw[show((h.bl.a_ (h.nx) (aj [X8 t,X8 r] 28 false)).a_ (h.nx+1) (aj [X8 0,X8 0,X8 0,.bool false] 99 false))=hA.bl by rw[aY]]
 clear aY;have sA:=s.le aU;have gb:=sA.gb;have lk:=λ(β:Type)(fl:β)(V:X3 β)=>aba (fl:=fl) sA.gm t r V;unfold dg at lk;simp(disch:=try exact Y)only[Wz,n_,Fj,g1];refine lH t r ?_;rw[lv];simp(disch:=try exact Y)only[Wz,Oy,aN,gb,g1,lk,g3];exact hk _ (aU.set X1 _)
theorem FU(s:dG h sb sm M ck)(hlo:h.lo<=h.nx){t r:Int}(lv:br t r=2)(v:Int)(V:KQ)(hk:∀h' M' eY born,dG h' sb sm M' eY->M'.Perm (M.filter (λx=>!jO t r x)++[zE t r v born])->MK sm h h'->V (.tuple ⟨[.agg ⟨Kt t r (cM M t r)⟩,X8 0]⟩) h'):av prog 43 [pt sb,dg t r,X8 v] h V:=by
 apply X9;rw[aaD];simp(disch:=try exact Y)only[Wz,dg];obtain⟨hA,aY,aU,g1,g3,dI,dJ⟩:=AY h (aj [X8 t,X8 r] 28 false) (aj [X8 0,X8 0,X8 0,.bool false] 99 false);rw[<-aY]
 try rw[show((h.bl.a_ (h.nx) (aj [X8 t,X8 r] 28 false)).a_ (h.nx+1) (aj [X8 0,X8 0,X8 0,.bool false] 99 false))=hA.bl by rw[aY]]
 clear aY;refine abb (s.le aU) X1 lv _ ?_;intro h2 bD;have mM:=bD.nx;have mN:=bD.lo;have g1:=(bD.get _ X1).trans g1;have g3:=(bD.get _ X1).trans g3;simp(disch:=try exact Y)only[Wz,Kt];obtain⟨hB,gL,bW,g9,BO,BP⟩:=kG h2 (aj [X8 t,X8 r,X8 ((cM M t r).getD 0),.bool (cM M t r).isSome] 99 false);rw[<-gL]
 try rw[show(h2.bl.a_ (h2.nx) (aj [X8 t,X8 r,X8 ((cM M t r).getD 0),.bool (cM M t r).isSome] 99 false))=hB.bl by rw[gL]]
 clear gL;have oN:=bW.nx;have oO:=bW.lo;have g1:=(bW.get _ X1).trans g1;have g3:=(bW.get _ X1).trans g3;have qJ:=(aU.trans bD).trans bW;have sB:=s.le qJ;have gb:=sB.gb;have gm:=sB.gm;refine⟨λl' h'=>∃M' eY born,dG h' sb sm M' eY/\M'.Perm (M.filter (λx=>!jO t r x)++[zE t r v born])/\MK sm hB h',?_,?_⟩
 .simp(disch:=try exact Y)only[Wz,NT,aN,gb,g1];refine VI sB.ok gm sB.jV.2 t r v _ ?_;intro M' eY born o hp;exact⟨M',eY,born,sB.set o,hp,MK.a_ _⟩
 .rintro l' h' ⟨M',eY,born,s',hp,k'⟩;have n':=k'.nx;have l':=k'.lo;have k9:=k'.cell gm X1 g9;have k3:=k'.cell gm X1 g3;simp(disch:=try exact Y)only[Wz,k9,k3];have hk:=hk ⟨h'.nx,h'.bl.a_ (h.nx+1) (aj [X8 t,X8 r,X8 ((cM M t r).getD 0),.bool (cM M t r).isSome] 99 false),h'.lo⟩ M' eY born (s'.put k3 X7 _) hp (((MK.le qJ).trans k').set X1 _);exact hk
theorem O7(s:dG h sb sm M ck)(hlo:h.lo<=h.nx){t r:Int}(lv:br t r=2)(V:KQ)(hk:∀h' ,dG h' sb sm (M.filter λx=>!jO t r x) ck->MK sm h h'->V (.tuple ⟨[.agg ⟨Kt t r (cM M t r)⟩,X8 0]⟩) h'):av prog 279 [pt sb,dg t r] h V:=by
 apply X9;rw[ad1];simp(disch:=try exact Y)only[Wz,dg];obtain⟨hA,aY,aU,g1,g3,dI,dJ⟩:=AY h (aj [X8 t,X8 r] 28 false) (aj [X8 0,X8 0,X8 0,.bool false] 99 false);rw[<-aY]
 try rw[show((h.bl.a_ (h.nx) (aj [X8 t,X8 r] 28 false)).a_ (h.nx+1) (aj [X8 0,X8 0,X8 0,.bool false] 99 false))=hA.bl by rw[aY]]
 clear aY;refine abb (s.le aU) X1 lv _ ?_;intro h2 bD;have mM:=bD.nx;have mN:=bD.lo;have g1:=(bD.get _ X1).trans g1;have g3:=(bD.get _ X1).trans g3;simp(disch:=try exact Y)only[Wz,Kt];obtain⟨hB,gL,bW,g9,BO,BP⟩:=kG h2 (aj [X8 t,X8 r,X8 ((cM M t r).getD 0),.bool (cM M t r).isSome] 99 false);rw[<-gL]
 try rw[show(h2.bl.a_ (h2.nx) (aj [X8 t,X8 r,X8 ((cM M t r).getD 0),.bool (cM M t r).isSome] 99 false))=hB.bl by rw[gL]]
 clear gL;have oN:=bW.nx;have oO:=bW.lo;have g1:=(bW.get _ X1).trans g1;have g3:=(bW.get _ X1).trans g3;have qJ:=(aU.trans bD).trans bW;have sB:=s.le qJ;have gb:=sB.gb;have gm:=sB.gm;refine⟨λl' h'=>dG h' sb sm (M.filter λx=>!jO t r x) ck/\MK sm hB h',?_,?_⟩
 .simp(disch:=try exact Y)only[Wz,IG,aN,gb,g1];refine agB sB.ok gm sB.jV.2 t r _ ?_;rintro h' (rfl|⟨rfl,e⟩)
  .exact⟨sB.set (sB.ok.filter _),MK.a_ _⟩
  .rw[e];exact⟨sB,MK.le (Le.refl _)⟩
 .rintro l' h' ⟨s',k'⟩;have n':=k'.nx;have l':=k'.lo;have k9:=k'.cell gm X1 g9;have k3:=k'.cell gm X1 g3;simp(disch:=try exact Y)only[Wz,k9,k3];have hk:=hk ⟨h'.nx,h'.bl.a_ (h.nx+1) (aj [X8 t,X8 r,X8 ((cM M t r).getD 0),.bool (cM M t r).isSome] 99 false),h'.lo⟩ (s'.put k3 X7 _) (((MK.le qJ).trans k').set X1 _);exact hk
end
theorem Zw{M:List HE}{clock b bm:Nat}{seen:List Nat}{h:af}(o:cO M clock)(hb:h.bl.get b=some (.dU (some bm) clock seen clock))(g:h.bl.get bm=some (.map (M.map jf) clock))(hlo:h.lo<=b)(V:KQ)(qn:(∀e∈M,seen.any (Nat.beq e.born)=true)->V (.tuple ⟨[.bool false]⟩) h)(dZ:∀e∈M,seen.any (Nat.beq e.born)=false->V (.tuple ⟨[.bool true,dg e.t e.r,X8 e.w]⟩) ⟨h.nx,h.bl.a_ b (.dU (some bm) clock (e.born::seen) clock),h.lo⟩):pP False And (UV b) h V:=by
 unfold pP;simp only[hb,g];have e1:(!seen.isEmpty && !(M.map jf).isEmpty && (M.map jf).all (λe=>Nat.ble clock e.born))=false:=by
  cases M with
  |nil=>simp
  |cons e M=>
   have:Nat.ble clock (jf e).born=false:=by
    have:=o.lt e (.head _);cases hc:Nat.ble clock (jf e).born with
    |false=>rfl
    |true=>have:=Nat.le_of_ble_eq_true hc;simp only[jf]at this;omega
   rw[List.map_cons,List.all_cons,this];simp
 rw[e1];simp only;rw[List.filter_map];have hmem:∀x,x∈(M.filter ((λe:MapEntry=>!seen.any (Nat.beq e.born)) ∘ jf)).map jf->∃e∈M,seen.any (Nat.beq e.born)=false/\x=jf e:=by
  intro x hx;obtain⟨e,he,rfl⟩:=List.mem_map.1 hx;rw[List.mem_filter]at he;exact⟨e,he.1,by have:=he.2;simpa[jf]using this,rfl⟩
 split
 .rename_i hnil;refine qn λe he=>?_;cases hs:seen.any (Nat.beq e.born)with
  |true=>rfl
  |false=>
   have:jf e∈(M.filter ((λe:MapEntry=>!seen.any (Nat.beq e.born)) ∘ jf)).map jf:=List.mem_map.2 ⟨e,List.mem_filter.2 ⟨he,by simp only[Function.comp,jf,hs];rfl⟩,rfl⟩;rw[hnil]at this
   nomatch this
 .rename_i e es heq;rw[heq]at hmem;refine BY hlo es e (λx hx=>?_) λx hx=>?_
  .obtain⟨y,hy,_,rfl⟩:=hmem x hx;exact o.lt y hy
  .obtain⟨y,hy,h1,rfl⟩:=hmem x hx;exact dZ y hy h1
theorem VJ{β:Type}{fl:β}{M:List HE}{clock b bm:Nat}{seen:List Nat}{h:af}(o:cO M clock){e:HE}(he:e∈M)(hb:h.bl.get b=some (.dU (some bm) clock (e.born::seen) clock))(g:h.bl.get bm=some (.map (M.map jf) clock))(V:X3 β):mj fl (UV b) h V=V (.tuple ⟨[dg e.t e.r,X8 e.w]⟩) h:=by
 unfold mj;simp only[hb,g];have e1:Nat.beq clock clock=true:=Nat.beq_refl _;rw[e1];simp only;have:(M.map jf).find? (λx=>Nat.beq x.born e.born)=some (jf e):=by
  have key:∀(L:List HE),(L.Pairwise λa b=>a.born≠b.born)->e∈L->(L.map jf).find? (λx=>Nat.beq x.born e.born)=some (jf e):=by
   intro L
   induction L with
   |nil=>intro _ h;nomatch h
   |cons a L ih=>
    intro hp h1;rw[List.pairwise_cons]at hp;rw[List.map_cons,List.find?_cons];rcases List.mem_cons.1 h1 with rfl|k1
    .have:Nat.beq (jf e).born e.born=true:=Nat.beq_refl _;rw[this]
    ·have:Nat.beq (jf a).born e.born=false:=by
      cases hc:Nat.beq (jf a).born e.born with
      |false=>rfl
      |true=>exact absurd (Nat.eq_of_beq_eq_true hc) (hp.1 e k1)
     rw[this];exact ih hp.2 k1
  exact key M o.bn he
 rw[this];rfl
abbrev Zx:FuncId:=151
abbrev fAZ:FuncId:=204
def VK(f:FuncId):Bool:=Nat.beq f Zx || Nat.beq f fAZ
noncomputable abbrev xe:lN Prop:=prK prog VK
noncomputable abbrev q_(n:Nat):Rec Prop:=run False xe prog n
def cKZ:Code:=x7 prog Zx
def cAZ:Code:=x7 prog fAZ
def kAZ:Code:=jC cKZ
def kLZ:Code:=L6 (L6 (jU cKZ))
def kBZ:Code:=jC kLZ
def VL:Code:=L6 (jU (jU kLZ))
def kCZ:Code:=jC VL
def kDZ:Code:=jC (jU VL)
theorem agC:cKZ=.seq kAZ (.block 0 (.loop (.seq kBZ (.seq (.cond (.tmp 7) .skip (.exit 0)) (.block 1 (.seq kCZ (.seq kDZ (.cond (.tmp 13) .ret .skip)))))))):=by kernel_rfl
def aAZ:Code:=jC cAZ
def aBZ:Code:=jC (jC (jU cAZ))
def aRZ:Code:=L6 (jU (jC (jU cAZ)))
def aPZ:Code:=rfA aRZ
def aQZ:Code:=L6 (rfB aRZ)
def aCZ:Code:=jC (jU (jU cAZ))
theorem agF:cAZ=.seq aAZ (.seq (.seq aBZ (.block 0 (.rangeFunc (.tmp 6) #[7] aPZ (.block 1 aQZ)))) (.seq aCZ .ret)):=by kernel_rfl
section
variable (rec:Rec Prop)(tm:T Value)(h:af)
theorem atF(V:Ex->T Value->af->Prop):body False xe prog rec kAZ tm h V =
  ev tm (.tmp 1) λx=>aF False x h λv h=>T.set tm 4 v λtm=>ev tm (.tmp 4) λx=>oW False x h λv h=>T.set tm 5 v λtm=>V .normal tm h:=by kernel_rfl
theorem atG(V:Ex->T Value->af->Prop):body False xe prog rec kBZ tm h V =
  ev tm (.tmp 5) λx=>pP False And x h λv h=>T.set tm 6 v λtm=>ev tm (.tmp 6) λx=>aK False 0 x h λv h=>T.set tm 7 v λtm=>V .normal tm h:=by kernel_rfl
theorem atH(V:Ex->T Value->af->Prop):body False xe prog rec kCZ tm h V =
  ev tm (.tmp 5) λx=>mj False x h λv h=>T.set tm 8 v λtm=>ev tm (.tmp 8) λx=>aK False 0 x h λv h=>T.set tm 9 v λtm=>
   aH False (aj [X8 0,X8 0] 28 false) h λb h=>T.set tm 3 (ax b) λtm=>ev tm (.tmp 3) λa=>ev tm (.tmp 9) λv=>aT False 2 a v h λv h=>V .normal tm h:=by kernel_rfl
theorem atI(V:Ex->T Value->af->Prop):body False xe prog rec kDZ tm h V =
  ev tm (.tmp 0) λfv=>T.set tm 10 fv λtm=>ev tm (.tmp 3) λx=>aL False 2 x h λv h=>T.set tm 11 v λtm=>
   ev tm (.tmp 11) λx=>ev tm (.tmp 10) λfv=>tW False xe prog rec fv [x] h λv h=>T.set tm 12 v λtm=>ev tm (.tmp 12) λx=>jh False .not x h λv h=>T.set tm 13 v λtm=>V .normal tm h:=by kernel_rfl
theorem amC(V:Ex->T Value->af->Prop):body False xe prog rec aAZ tm h V =
  ev tm (.tmp 0) λs=>aM False (Value.cells s).toList 156 false λo=>aH False o h λb h=>T.set tm 2 (ax b) λtm=>T.set tm 4 (.slice none 0 0) λtm=>V .normal tm h:=by kernel_rfl
theorem amD(V:Ex->T Value->af->Prop):body False xe prog rec aBZ tm h V=ev tm (.tmp 1) λg=>T.set tm 6 g λtm=>V .normal tm h:=by kernel_rfl
theorem amE(V:Ex->T Value->af->Prop):body False xe prog rec aPZ tm h V =
  aH False (aj [X8 0,X8 0] 28 false) h λb h=>T.set tm 5 (ax b) λtm=>ev tm (.tmp 5) λa=>ev tm (.tmp 7) λv=>aT False 2 a v h λv h=>V .normal tm h:=by kernel_rfl
theorem amF(V:Ex->T Value->af->Prop):body False xe prog rec aQZ tm h V =
  ev tm (.tmp 2) λx=>aF False x h λv h=>T.set tm 8 v λtm=>ev tm (.tmp 5) λx=>aL False 2 x h λv h=>T.set tm 9 v λtm=>
   ev tm (.tmp 9) λv=>bA False [(0,2)] [v] [X8 0,X8 0] λcs=>aM False cs 28 false λo=>aH False o h λb h=>T.set tm 10 (cN 1 1 b) λtm=>
   ev tm (.tmp 8) λs=>ev tm (.tmp 10) λx=>cg False 28 2 [X8 0,X8 0] false s x h λv h=>T.set tm 11 v λtm=>ev tm (.tmp 2) λa=>ev tm (.tmp 11) λv=>aT False 1 a v h λv h=>V .normal tm h:=by kernel_rfl
theorem amG(V:Ex->T Value->af->Prop):body False xe prog rec aCZ tm h V =
  ev tm (.tmp 2) λx=>aF False x h λv h=>T.set tm 12 v λtm=>ev tm (.tmp 12) λv=>T.set tm 4 v λtm=>V .normal tm h:=by kernel_rfl
theorem agG(s g:Value)(V:KQ):iU False xe prog rec fAZ [s,g] h V=rec cAZ (lay [s,g] .nil 0) h (tK False [.tmp 4] V):=by kernel_rfl
theorem agH(y m:Value)(V:KQ):iU False xe prog rec Zx [y,m] h V=rec cKZ (lay [y,m] .nil 0) h (tK False [] V):=by kernel_rfl
end
theorem iN(t:T Value)(n:Nat)(v:Value):dw (t.a_ n v) n=v:=by unfold dw;rw[T.ay]
theorem oc(t:T Value){n m:Nat}(v:Value)(h:n≠m):dw (t.a_ n v) m=dw t m:=by unfold dw;rw[T.aD _ _ h]
theorem ri{β:Type}(tm:T Value)(t:Nat)(V:Value->β):ev tm (.tmp t) V=V (dw tm t):=fL _ _ _
section
variable (n:Nat)(a b:Code)(tm:T Value)(h:af)(V:Ex->T Value->af->Prop)
theorem Cz:q_ (n+1) (.seq a b) tm h V=q_ n a tm h (pS (q_ n) b V):=id rfl
theorem O8(t:Nat):q_ (n+1) (.cond (.tmp t) a b) tm h V=pT False (q_ n) a b tm h V (dw tm t):=fL tm (.tmp t) (pT False (q_ n) a b tm h V)
theorem wR(i:Nat):q_ (n+1) (.block i a) tm h V=q_ n a tm h (jy i V):=id rfl
theorem Zy:q_ (n+1) (.loop a) tm h V=q_ n a tm h (pS (q_ n) (.loop a) V):=id rfl
theorem O9(i:Nat):q_ (n+1) (.exit i) tm h V=V (.exit i) tm h:=id rfl
theorem agI:q_ (n+1) .ret tm h V=V .ret tm h:=id rfl
theorem O_:q_ (n+1) .skip tm h V=V .normal tm h:=id rfl
theorem amH(t:Nat)(ps:Array Tmp):q_ (n+1) (.rangeFunc (.tmp t) ps a b) tm h V=ep False xe prog (q_ n) ps.toList a b tm h V (dw tm t):=fL tm (.tmp t) (ep False xe prog (q_ n) ps.toList a b tm h V)
theorem amI:q_ (n+1) kAZ tm h V=body False xe prog (q_ n) kAZ tm h V:=id rfl
theorem amJ:q_ (n+1) kBZ tm h V=body False xe prog (q_ n) kBZ tm h V:=id rfl
theorem amK:q_ (n+1) kCZ tm h V=body False xe prog (q_ n) kCZ tm h V:=id rfl
theorem amL:q_ (n+1) kDZ tm h V=body False xe prog (q_ n) kDZ tm h V:=id rfl
theorem amM:q_ (n+1) aAZ tm h V=body False xe prog (q_ n) aAZ tm h V:=id rfl
theorem amN:q_ (n+1) aBZ tm h V=body False xe prog (q_ n) aBZ tm h V:=id rfl
theorem amO:q_ (n+1) aPZ tm h V=body False xe prog (q_ n) aPZ tm h V:=id rfl
theorem amP:q_ (n+1) aQZ tm h V=body False xe prog (q_ n) aQZ tm h V:=id rfl
theorem amQ:q_ (n+1) aCZ tm h V=body False xe prog (q_ n) aCZ tm h V:=id rfl
theorem Eg(rec:Rec Prop):pS rec b V .normal tm h=rec b tm h V:=id rfl
theorem abc(rec:Rec Prop)(i:Nat):pS rec b V (.exit i) tm h=V (.exit i) tm h:=id rfl
theorem abd(rec:Rec Prop):pS rec b V .ret tm h=V .ret tm h:=id rfl
theorem Pb(i:Nat):jy i V .normal tm h=V .normal tm h:=id rfl
theorem amR(i:Nat):jy i V .ret tm h=V .ret tm h:=id rfl
theorem VM:jy 0 V (.exit 0) tm h=V .normal tm h:=id rfl
theorem amS(rec:Rec Prop):pT False rec a b tm h V (.bool true)=rec a tm h V:=id rfl
theorem abe(rec:Rec Prop):pT False rec a b tm h V (.bool false)=rec b tm h V:=id rfl
end
noncomputable abbrev MC:Code:=.seq kBZ (.seq (.cond (.tmp 7) .skip (.exit 0)) (.block 1 (.seq kCZ (.seq kDZ (.cond (.tmp 13) .ret .skip)))))
noncomputable abbrev je(st:LoopState)(fI:T Value):bP:=.loop st none fI [7] aPZ (.block 1 aQZ)
structure VN(a:af)(bm:Nat)(clock:Nat)(M:List HE)(fI:T Value)(seen:List Nat)(tm:T Value)(h1:af)(v:Value)(L:List HE):Prop where
 le:Le a h1
 nx:a.nx+3<=h1.nx
 gs:h1.bl.get a.nx=some (aj [v] 156 false)
 gl:h1.bl.get (a.nx+1)=some (je .ready fI)
 gi:h1.bl.get (a.nx+2)=some (.dU (some bm) clock seen clock)
 own:qX a h1 v (L.map c_)
 perm:L.Perm (M.filter λe=>seen.any (Nat.beq e.born))
 t0:dw tm 0=.func (.yield (a.nx+1)) #[] #[]
 t5:dw tm 5=ax (a.nx+2)
theorem Zz(rec:Rec Prop)(l:Nat)(x:Value)(h:af)(V:KQ):tW False xe prog rec (.func (.yield l) #[] #[]) [x] h V=mq False rec l [x] h V:=id rfl
theorem Q8{rec:Rec Prop}{l:Nat}{x:Value}{h:af}{V:KQ}{st:LoopState}{fI:T Value}(hl:h.bl.get l=some (je st fI)):mq False rec l [x] h V=rec aPZ (fI.a_ 7 x) h (ee False rec l (.block 1 aQZ) V):=by
 unfold mq;simp only[hl,List.length_cons,List.length_nil]
 show oB [7] [x] fI _=_
 unfold oB;rw[T.cI];unfold oB;rfl
theorem Q9{rec:Rec Prop}{l:Nat}{bd:Code}{tm:T Value}{h:af}{V:KQ}{fI:T Value}(hl:h.bl.get l=some (je .ready fI))(hlo:h.lo<=l):ee False rec l bd V .normal tm h=rec bd tm ⟨h.nx,h.bl.a_ l (je .busy fI),h.lo⟩ (gG False l V):=by
 unfold ee;simp only[hl,bG _ _ _ _ hlo]
theorem ZA{l:Nat}{tm:T Value}{h:af}{V:KQ}{st:LoopState}{fI:T Value}(hl:h.bl.get l=some (je st fI))(hlo:h.lo<=l):gG False l V .normal tm h=V (.bool true) ⟨h.nx,h.bl.a_ l (je .ready fI),h.lo⟩:=by
 unfold gG;simp only[hl,bG _ _ _ _ hlo]
theorem MD{M:List HE}{clock:Nat}(o:cO M clock){e:HE}(he:e∈M){seen:List Nat}(hn:seen.any (Nat.beq e.born)=false):(M.filter λx=>(e.born::seen).any (Nat.beq x.born)).Perm (M.filter (λx=>seen.any (Nat.beq x.born))++[e]):=by
 have hnd:M.Nodup:=o.bn.imp λh e=>h (by rw[e]);refine(List.perm_ext_iff_of_nodup (hnd.filter _) ?_).2 λx=>?_
 .rw[List.nodup_append];refine⟨hnd.filter _,by simp,λx hx y hy=>?_⟩;rw[List.mem_singleton]at hy;subst hy;rintro rfl;rw[List.mem_filter,hn]at hx;exact absurd hx.2 (by simp)
 .rw[List.mem_filter,List.mem_append,List.mem_filter,List.mem_singleton,List.any_cons,Bool.or_eq_true];constructor
  .rintro⟨h1,h2|h2⟩
   .exact .inr (o.yW h1 he (Nat.eq_of_beq_eq_true h2))
   .exact .inl ⟨h1,h2⟩
  .rintro(⟨h1,h2⟩|rfl)
   .exact⟨h1,.inr h2⟩
   .exact⟨he,.inl (Nat.beq_refl _)⟩
theorem ME(a:af)(bm clock:Nat)(M:List HE)(fI:T Value)(o:cO M clock)(g:a.bl.get bm=some (.map (M.map jf) clock))(yX:bm<a.nx)(hlo:a.lo<=a.nx)(hM:M.length<=1000)(hA:dw fI 2=ax a.nx)(V:Ex->T Value->af->Prop)(hk:∀(tm:T Value)(h1:af)(v:Value)(L:List HE),L.Perm M->qX a h1 v (L.map c_)->Le a h1->a.nx+3<=h1.nx->h1.bl.get a.nx=some (aj [v] 156 false)->h1.bl.get (a.nx+1)=some (je .ready fI)->V (.exit 0) tm h1):∀(k:Nat)(seen:List Nat)(tm:T Value)(h1:af)(v:Value)(L:List HE),BX M seen<=k->VN a bm clock M fI seen tm h1 v L->q_ (k+12) (.loop MC) tm h1 V:=by
 have step:∀(k:Nat)(seen:List Nat)(tm:T Value)(h1:af)(v:Value)(L:List HE),VN a bm clock M fI seen tm h1 v L->
   (∀e∈M,seen.any (Nat.beq e.born)=false->∀(tm:T Value)(h1:af)(v:Value)(L:List HE),VN a bm clock M fI (e.born::seen) tm h1 v L->q_ (k+11) (.loop MC) tm h1 V)->q_ (k+12) (.loop MC) tm h1 V:=by
  intro k seen tm h1 v L I hnext;have n1:=I.nx;have l1:=I.le.lo;have gm:=(I.le.get bm yX).trans g;rw[show k+12=k+11+1 from by omega,Zy];simp(disch:=try exact Y)only[Wz,Cz,amJ,atG,ri,T.cI,iN,oc,Eg,abc,abd,Pb,amR,VM,I.t5];refine Zw o I.gi gm X1 _ ?_ ?_
  .intro hall;simp(disch:=try exact Y)only[Wz,O8,iN,abe,O9,abc];have hf:M.filter (λe=>seen.any (Nat.beq e.born))=M:=List.filter_eq_self.2 hall;exact hk _ h1 v L (hf▸I.perm) I.own I.le n1 I.gs I.gl
  .intro e he CP;obtain⟨h2,e2⟩:∃h2:af,h2=⟨h1.nx,h1.bl.a_ (a.nx+2) (.dU (some bm) clock (e.born::seen) clock),h1.lo⟩:=⟨_,rfl⟩
   have bD:Le a h2:=by rw[e2];exact I.le.set X1 _
   have n2:h2.nx=h1.nx:=by rw[e2]
   have l2:h2.lo=h1.lo:=by rw[e2]
   have gi2:h2.bl.get (a.nx+2)=some (.dU (some bm) clock (e.born::seen) clock):=by rw[e2];exact T.ay _ _ _
   have gs2:h2.bl.get a.nx=some (aj [v] 156 false):=by rw[e2];exact(T.aD _ _ X1).trans I.gs
   have gl2:h2.bl.get (a.nx+1)=some (je .ready fI):=by rw[e2];exact(T.aD _ _ X1).trans I.gl
   have nJ:qX a h2 v (L.map c_):=by rw[e2];exact Own.put I.own (by rw[I.gi];intro hc;unfold aj at hc;cases hc) _
   rw[<-e2];clear e2;have Yt:=(bD.get bm yX).trans g;simp(disch:=try exact Y)only[Wz,O8,O_,Cz,wR,iN,oc,amS,O9,Eg,amK,atH,ri,T.cI,I.t5,VJ o he gi2 Yt,dg,amL,atI,I.t0];have n3:a.nx+3<=h2.nx:=by omega
   obtain⟨h3,e3⟩:∃h3:af,h3=⟨h2.nx+1,h2.bl.a_ h2.nx (aj [X8 e.t,X8 e.r] 28 false),h2.lo⟩:=⟨_,rfl⟩
   have B4:Le h2 h3:=by rw[e3];exact(Le.refl h2).new _
   have nx3:h3.nx=h2.nx+1:=by rw[e3]
   have l3:h3.lo=h2.lo:=by rw[e3]
   have WR:=(B4.get _ X1).trans gl2;rw[<-e3,Zz,Q8 WR];clear e3;simp(disch:=try exact Y)only[Wz,amO,amE,T.cI,ri,iN,oc];obtain⟨h4,e4⟩:∃h4:af,h4=⟨h3.nx+1,h3.bl.a_ h3.nx (aj [X8 e.t,X8 e.r] 28 false),h3.lo⟩:=⟨_,rfl⟩
   have B5:Le h3 h4:=by rw[e4];exact(Le.refl h3).new _
   have nx4:h4.nx=h3.nx+1:=by rw[e4]
   have l4:h4.lo=h3.lo:=by rw[e4]
   have gn4:h4.bl.get h3.nx=some (aj [X8 e.t,X8 e.r] 28 false):=by rw[e4];exact T.ay _ _ _
   have gl4:=(B5.get _ X1).trans WR;have gs4:=((B4.trans B5).get _ X1).trans gs2;have gi4:=((B4.trans B5).get _ X1).trans gi2;have Fq:qX a h4 v (L.map c_):=nJ.le (B4.trans B5);rw[<-e4,Q9 gl4 X1];clear e4;have Uy:(h4.bl.a_ (a.nx+1) (je .busy fI)).get a.nx=_:=(T.aD _ _ X1).trans gs4;have gn5:(h4.bl.a_ (a.nx+1) (je .busy fI)).get h3.nx=_:=(T.aD _ _ X1).trans gn4;simp(disch:=try exact Y)only[Wz,wR,amP,amF,T.cI,ri,iN,oc,hA,Uy,gn5];obtain⟨h5,e5⟩:∃h5:af,h5=⟨h4.nx+1,(h4.bl.a_ (a.nx+1) (je .busy fI)).a_ h4.nx (aj [X8 e.t,X8 e.r] 28 false),h4.lo⟩:=⟨_,rfl⟩
   have afo:Le a h5:=by rw[e5];exact(((bD.trans B4).trans B5).set (b:=a.nx+1) X1 _).new _
   have nx5:h5.nx=h4.nx+1:=by rw[e5]
   have l5:h5.lo=h4.lo:=by rw[e5]
   have Uy:h5.bl.get a.nx=some (aj [v] 156 false):=by rw[e5];exact(T.aD _ _ X1).trans Uy
   have gl5:h5.bl.get (a.nx+1)=some (je .busy fI):=by rw[e5];exact(T.aD _ _ X1).trans (T.ay _ _ _)
   have gi5:h5.bl.get (a.nx+2)=some (.dU (some bm) clock (e.born::seen) clock):=by rw[e5];exact(T.aD _ _ X1).trans ((T.aD _ _ X1).trans gi4)
   have gx5:h5.bl.get h4.nx=some (aj ([c_ e].flatMap jc) 28 false):=by rw[e5];exact T.ay _ _ _
   have uQ:qX a h5 v (L.map c_):=by
    rw[e5];exact Own.le (Own.put Fq (by rw[gl4];intro hc;unfold aj at hc;cases hc) _) ((Le.refl _).new _)
   have hLl:L.length<=1000:=by
    rw[I.perm.length_eq];exact Nat.le_trans (List.length_filter_le _ _) hM
   rw[<-e5];clear e5;refine jM (enc:=jc) (a:=a) (L:=L.map c_) (M:=[c_ e]) nT Jz X7 X7 uQ (Sl.new X1 gx5 _) afo (by simp;omega) X1 _ ?_;intro v' h6 Ug OJ _ n6 l6 B6;have gs6:=(B6 a.nx X1 (by rw[Uy];exact bI)).trans Uy;have gl6:=(B6 (a.nx+1) X1 (by rw[gl5];intro hc;unfold aj at hc;cases hc)).trans gl5;have gi6:=(B6 (a.nx+2) X1 (by rw[gi5];intro hc;unfold aj at hc;cases hc)).trans gi5;obtain⟨x',c',rfl,_⟩:=(show Sl jc h6 v' _ from Ug.sl)
   simp(disch:=try exact Y)only[Wz,gs6];obtain⟨h7,e7⟩:∃h7:af,h7=⟨h6.nx,h6.bl.a_ a.nx (aj [.slice x' (L.map c_++[c_ e]).length c'] 156 false),h6.lo⟩:=⟨_,rfl⟩
   have gl7:h7.bl.get (a.nx+1)=some (je .busy fI):=by rw[e7];exact(T.aD _ _ X1).trans gl6
   have nx7:h7.nx=h6.nx:=by rw[e7]
   have l7:h7.lo=h6.lo:=by rw[e7]
   have gs7:h7.bl.get a.nx=some (aj [.slice x' (L.map c_++[c_ e]).length c'] 156 false):=by rw[e7];exact T.ay _ _ _
   have gi7:h7.bl.get (a.nx+2)=some (.dU (some bm) clock (e.born::seen) clock):=by rw[e7];exact(T.aD _ _ X1).trans gi6
   have WT:Le a h7:=by rw[e7];exact OJ.set X1 _
   have ho7:qX a h7 (.slice x' (L.map c_++[c_ e]).length c') (L.map c_++[c_ e]):=by rw[e7];exact Own.put Ug (by rw[gs6];exact bI) _
   rw[<-e7,Pb,ZA gl7 X1];clear e7;simp(disch:=try exact Y)only[Wz,abe,O_,Pb,Eg];have fr:∀c,c≠a.nx+1->(h7.bl.a_ (a.nx+1) (je .ready fI)).get c=h7.bl.get c:=λc hc=>T.aD _ _ (λe=>hc e.symm);refine hnext e he CP _ _ (.slice x' (L.map c_++[c_ e]).length c') (L++[e]) ⟨WT.set X1 _,by show a.nx+3<=h7.nx;omega,(fr _ X1).trans gs7,T.ay _ _ _,(fr _ X1).trans gi7,?_,(I.perm.append_right _).trans (MD o he CP).symm,?_,?_⟩
   .rw[List.map_append];exact Own.put ho7 (by rw[gl7];intro hc;unfold aj at hc;cases hc) _
   .simp (disch:=decide) only [oc];exact I.t0
   .simp (disch:=decide) only [oc];exact I.t5
 intro k
 induction k with
 |zero=>
  intro seen tm h1 v L hu I;refine step 0 seen tm h1 v L I λe he CP=>?_;have:=qq he CP;omega
 |succ k ih=>
  intro seen tm h1 v L hu I;refine step (k+1) seen tm h1 v L I λe he CP dz h1' v' L' I'=>ih (e.born::seen) dz h1' v' L' ?_ I';have:=qq he CP;omega
theorem agJ(rec:Rec Prop)(ps:List Nat)(x y:Code)(tm:T Value)(h:af)(V:Ex->T Value->af->Prop)(c:Value):ep False xe prog rec ps x y tm h V (.func (.func Zx) #[] #[c])=iU False xe prog rec Zx [.func (.yield h.nx) #[] #[],c] ⟨h.nx+1,h.bl.a_ h.nx (.loop .ready none tm ps x y),h.lo⟩ (dW False h.nx tm V):=dO (fl:=False) (.loop .ready none tm ps x y) h (λl h=>iU False xe prog rec Zx [.func (.yield l) #[] #[],c] h (dW False l tm V))
theorem amT(tm:T Value)(h:af)(V:KQ):tK False [] V .normal tm h=V (.tuple ⟨[]⟩) h:=id rfl
theorem amU(tm:T Value)(h:af)(V:KQ):tK False [.tmp 4] V .ret tm h=V (dw tm 4) h:=fL tm (.tmp 4) λv=>V v h
theorem Q_{l:Nat}{tm fI:T Value}{v:Value}{h:af}{V:Ex->T Value->af->Prop}(hl:h.bl.get l=some (je .ready fI))(hlo:h.lo<=l):∃o,dW False l tm V v h=V .normal tm ⟨h.nx,h.bl.a_ l o,h.lo⟩:=by
 refine⟨.loop .exhausted none fI [7] aPZ (.block 1 aQZ),?_⟩;unfold dW;simp only[hl,bG _ _ _ _ hlo]
theorem abf(s g:Value):lay [s,g] .nil 0=((T.nil:T Value).a_ 0 s).a_ 1 g:=by kernel_rfl
theorem FV(M:List HE)(clock bm mc:Nat)(a:af)(o:cO M clock)(g:a.bl.get bm=some (.map (M.map jf) clock))(yX:bm<a.nx)(gc:a.bl.get mc=some (aj [.map (some bm)] 96 false))(hmc:mc<a.nx)(hlo:a.lo<=a.nx)(hM:M.length<=1000)(V:KQ)(hk:∀v h' (L:List HE),L.Perm M->qX a h' v (L.map c_)->Le a h'->V v h'):av prog fAZ [.slice none 0 0,.func (.func Zx) #[] #[UV mc]] a V:=by
 refine x5 mixed (skip:=VK) (M.length+60) ?_;rw[agG,agF,abf];simp(disch:=try exact Y)only[Wz,Cz,amM,amC,T.cI,ri,iN,oc,Eg,amN,amD,wR,amH,agJ];generalize htm:(((((T.nil:T Value).a_ 0 (Value.slice none 0 0)).a_ 1 (Value.func (Fn.func Zx) #[] #[UV mc])).a_ 2 (UV a.nx)).a_ 4 (Value.slice none 0 0)).a_ 6 (Value.func (Fn.func Zx) #[] #[UV mc])=fI;have hA:dw fI 2=ax a.nx:=by rw[<-htm];simp (disch:=decide) only [oc,iN];rfl
 obtain⟨hA2,JB,uT,gs,gl,alE,alF⟩:=AY a (aj [.slice none 0 0] 156 false) (je .ready fI);rw[<-JB];clear JB;have wB:=(uT.get _ hmc).trans gc;have Yt:=(uT.get _ yX).trans g;rw[agH,agC,abf];simp(disch:=try exact Y)only[Wz,Cz,amI,atF,T.cI,ri,iN,oc,Eg,wB,BZ Yt,wR];refine ME a bm clock M fI o g yX hlo hM hA _ ?_ (M.length+41) [] _ _ (.slice none 0 0) [] ?_ ?_
 .intro tm h1 v L hp ho bN n1 g1 gl1;have l1:=bN.lo;obtain⟨ob,ea⟩:=Q_ (tm:=fI) (v:=.tuple ⟨[]⟩) (V:=jy 0 (pS (q_ (M.length+58)) (aCZ.seq Code.ret) (tK False [uw.tmp 4] V))) gl1 X1;rw[VM,amT,ea];have gs1:(h1.bl.a_ (a.nx+1) ob).get a.nx=some (aj [v] 156 false):=(T.aD _ _ X1).trans g1;simp(disch:=try exact Y)only[Wz,Pb,Eg,Cz,amQ,amG,T.cI,ri,iN,oc,hA,gs1,agI,abd,amU];exact hk v _ L hp (Own.put ho (by rw[gl1];intro hc;unfold aj at hc;cases hc) _) (bN.set X1 _)
 .exact Nat.le_trans (List.countP_le_length) X1
 .have e2:hA2.nx=a.nx+2:=by omega
  refine⟨uT.new _,by show a.nx+3<=hA2.nx+1;omega,(T.aD _ _ X1).trans gs,(T.aD _ _ X1).trans gl,by rw[<-e2];exact T.ay _ _ _,.inl ⟨rfl,.inl rfl⟩,?_,?_,?_⟩
  .rw[List.filter_eq_nil_iff.2 (λx _=>by simp)]
  .simp (disch:=decide) only [oc,iN]
  .rw[iN,e2];rfl
def rowsOf(M:List HE)(D:List N2):List N3:=D.map λp=>(p.1,p.2,(cM M p.1 p.2).getD 0)
theorem Ku{M:List HE}{D:List N2}{k:Nat}{p:N2}(hp:D[k]? = some p):rowsOf M (D.take (k+1))=rowsOf M (D.take k)++[(p.1,p.2,(cM M p.1 p.2).getD 0)]:=by
 unfold rowsOf;rw[List.take_add_one,hp,List.map_append];rfl
def jm(u:Value):Prop:=∃n c,u=.slice none n c\/∃b o,u=.slice (some ⟨b,o,none⟩) n c
theorem Cut.ok{e s:Nat}{h:af}{v:Value}{k:Nat}(c:Cut e s h v k):jm v:=by
 rcases c with⟨_,rfl⟩|⟨_,b,o,rfl⟩|⟨b,o,cap,rfl,_⟩|⟨b,vs,n,rfl,_⟩
 .exact⟨_,_,.inl rfl⟩
 .exact⟨_,_,.inr ⟨_,_,rfl⟩⟩
 .exact⟨_,_,.inr ⟨_,_,rfl⟩⟩
 .exact⟨_,_,.inr ⟨_,_,rfl⟩⟩
section
variable {h h':af}{sb sm:Nat}{M:List HE}{ck:Nat}
theorem Ra(s:dG h sb sm M ck)(hlo:h.lo<=h.nx)(hM:M.length<=1000)(V:KQ)(hk:∀v h' (D:List N2),D.Perm (M.map c_)->D.Pairwise x8->qX h h' v D->Le h h'->V v h'):av prog 95 [.map (some sm)] h λv h=>av prog 94 [v,.func (.func 96) ⟨[]⟩ ⟨[]⟩] h V:=by
 apply X9;rw[akr];simp(disch:=try exact Y)only[Wz,JD];obtain⟨hA,aY,aU,gc,dI,dJ⟩:=kG h (aj [.map (some sm)] 96 false);rw[<-aY]
 try rw[show(h.bl.a_ (h.nx) (aj [.map (some sm)] 96 false))=hA.bl by rw[aY]]
 clear aY;have sA:=s.le aU;apply X9;rw[aaG];apply X9;rw[TJ];have hlm:=s.jV.1;refine FV M ck sm h.nx hA s.ok sA.gm X1 gc X1 X1 hM _ ?_;intro v h2 L hp ho bD;have n2:=bD.nx;have l2:=bD.lo;have hnd:(L.map c_).Nodup:=by
  refine((hp.map c_).nodup_iff).2 ?_;rw[List.Nodup,List.pairwise_map];exact s.ok.nm.imp λhn e=>hn ⟨congrArg Prod.fst e,congrArg Prod.snd e⟩
 have hll:=hp.length_eq;refine OO hA h2 (L.map c_) v _ ho bD X1 (by rw[List.length_map];omega) hnd ?_;intro D h3 Ma hs tM dM;exact hk v h3 D (Ma.trans (hp.map c_)) hs (Own.base tM X1) (aU.trans dM)
theorem wS(s:dG h sb sm M ck)(hlo:h.lo<=h.nx)(hM:M.length<=1000)(V:KQ)(hk:∀v h' (D:List N2),D.Perm (M.map c_)->D.Pairwise x8->Own kX h 107 h' v (rowsOf M D)->Le h h'->V v h'):av prog 47 [pt sb] h V:=by
 apply X9;rw[aj1];have gb:=s.gb;simp(disch:=try exact Y)only[Wz,n_,NW,aN,gb];refine Ra s hlo hM _ ?_;intro v h3 D Ma hs ho dM;have n3:=dM.nx;have l3:=dM.lo;have hlen:=ho.sl.len (β:=Prop) (fl:=False);have hDl:=Ma.length_eq;rw[List.length_map]at hDl;simp(disch:=try exact Y)only[Wz,hlen];refine⟨λn l h4=>Le h3 h4/\∃k:Nat,ah l 17=X8 (k:Int)/\k<=D.length/\n=D.length-k/\Own kX h3 107 h4 (ah l 15) (rowsOf M (D.take k)),⟨_,Le.refl _,0,rfl,Nat.zero_le _,rfl,.inl ⟨rfl,.inl rfl⟩⟩,?_⟩;rintro n l h4 ⟨jP,k,s4,wZ,rfl,Fq⟩;have n4:=jP.nx;have l4:=jP.lo;by_cases hlt:k<D.length
 .obtain⟨p,hp⟩:∃p,D[k]? = some p:=⟨_,List.getElem?_eq_getElem hlt⟩
  obtain⟨b,o,hb,pg,qg⟩:=ldN (ho.sl.le jP) k hp;have hlk:(rowsOf M (D.take k)).length=k:=by unfold rowsOf;rw[List.length_map,List.length_take];omega
  simp(disch:=try exact Y)only[Wz,s4,f_ (show(k:Int)<(D.length:Int)by omega),NV,pg,qg,jc];obtain⟨hB,gL,bW,gB,BO,BP⟩:=kG h4 (aj [X8 p.1,X8 p.2] 28 false);rw[<-gL]
  try rw[show(h4.bl.a_ (h4.nx) (aj [X8 p.1,X8 p.2] 28 false))=hB.bl by rw[gL]]
  clear gL;have sB:=s.le ((dM.trans jP).trans bW);have gbB:=sB.gb;have lk:=λ(β:Type)(fl:β)(V:X3 β)=>VH (fl:=fl) sB.gm p.1 p.2 V;unfold dg at lk;simp(disch:=try exact Y)only[Wz,gB,aN,gbB,lk,Fq.same];have mB:=(Le.refl hB).new (aj [X8 p.1,X8 p.2,X8 ((cM M p.1 p.2).getD 0)] 107 false);refine kO (enc:=kX) (a:=h3) (L:=rowsOf M (D.take k)) (M:=[(p.1,p.2,(cM M p.1 p.2).getD 0)]) kq sI X1 X1 ((Fq.le bW).le mB) ⟨_,1,rfl,λ_=>⟨hB.nx,0,rfl,Nat.lt_succ_self _,by show Has ((T.a_ _ _ _).get _) 0 _;rw[T.ay];exact Has.all⟩⟩ ((jP.trans bW).trans mB)
   (by rw[hlk];simp;omega) (by show hB.lo<=hB.nx+1;omega) _ ?_
  intro v' h' ho' hl' _ _;refine⟨_,?_,hl',k+1,rfl,X1,rfl,?_⟩
  .omega
  .rw[Ku hp];exact ho'
 .have hkk:k=D.length:=by omega
  subst hkk;rw[List.take_length]at Fq;simp(disch:=try exact Y)only[Wz,s4];exact hk _ _ D Ma hs (Own.base Fq X1) (dM.trans jP)
theorem ZB(s:dG h sb sm M ck)(hlo:h.lo<=h.nx)(hM:M.length<=1000)(V:KQ)(hk:∀h',Le h h'->V (X8 (M.length:Int)) h'):av prog 84 [pt sb] h V:=by
 apply X9;rw[akh];refine wS s hlo hM _ ?_;intro v h' D hp _ ho le;have hlen:=ho.sl.len (β:=Prop) (fl:=False);have:(rowsOf M D).length=M.length:=by unfold rowsOf;rw[List.length_map,hp.length_eq,List.length_map]
 simp(disch:=try exact Y)only[Wz,hlen,this];exact hk h' le
theorem ZC(a0 a1:Value)(h:af)(V:KQ):aV prog 428 [a0,a1] h V=fC prog 3 3 a0 a1 h V:=by kernel_rfl
theorem ZD(a0 a1:Value)(h:af)(V:KQ):aV prog 409 [a0,a1] h V=fm prog 3 428 107 3 z3 a0 a1 h V:=by kernel_rfl
theorem VO(s:dG h sb sm M ck)(hlo:h.lo<=h.nx)(hM:M.length<=1000)(t:Int)(V:KQ)(hk:∀u h',Le h h'->jm u->V u h'):av prog 388 [pt sb,X8 t] h V:=by
 apply X9;rw[aeA];simp(disch:=try exact Y)only[Wz];obtain⟨hA,aY,aU,g1,dI,dJ⟩:=kG h (aj [X8 t] 3 false);rw[<-aY]
 try rw[show(h.bl.a_ (h.nx) (aj [X8 t] 3 false))=hA.bl by rw[aY]]
 clear aY;refine wS (s.le aU) X1 hM _ ?_;intro v h2 D hp _ ho bD;have hDl:=hp.length_eq;rw[List.length_map]at hDl;have hl:(rowsOf M D).length=D.length:=by unfold rowsOf;rw[List.length_map]
 refine uI mixed kq sI X7 X7 X7 X7 ZC ZD hA h2 (rowsOf M D) (λp=>!decide (p.1=t)) v _ _ bD ho X1 X1 ?_ ?_
 .intro p h3 κ1 dM _ dZ;have n3:=dM.nx;have l3:=dM.lo;have g3:=(dM.get h.nx X1).trans g1;apply X9
  show aV prog 410 [.agg ⟨[X8 p.1,X8 p.2.1,X8 p.2.2]⟩,pt h.nx] h3 κ1
  rw[aeL];simp(disch:=try exact Y)only[Wz,kX,g3];exact dZ _ ((Le.refl h3).new _)
 .intro v' h' hs ct le' _ ty;exact hk v' h' (aU.trans le') (Cut.ok (e:=107) (s:=3) (h:=h') ct)
end
end Go.Proofs
end
