/-
  PROVED HERE: a part of the proof (AW1, AW2, AG1, AG2, AG3, AG4, AG5, AG6, AG7, AP1, AG8, AP2, AR1, AR2, AH1, TX1, TX2, TX3).
-/
import Derived.Test.YtmllggkhfmjpgaaGreatDoorG7
import Derived.Test.YtmllggkhfmjpgaaGreatDoorG3
import Derived.Test.YtmllggkhfmjpgaaGreatDoorRZ
import Derived.Test.YtmllggkhfmjpgaaGreatDoorG6
set_option linter.unusedVariables false
set_option linter.unusedSimpArgs false
set_option maxRecDepth 100000
set_option maxHeartbeats 4000000
noncomputable section
namespace Go.Proofs
open Go.Vai Go.Clashes
open Tryz (prog)
section
variable {h:Heap}{a:TA}{N:Nat}{d:TD}{H X:Int->Int->Int}
theorem SZ(s:BV h a N d)(L:Lone d.Ts H X)(hlo:h.lo<=h.nx){k:Nat}{b:TB}(hb:d.Ts[k]? = some b){t r id:Int}(hst:dR t r a.c.S=(k:Int)){e:HE}(he:e∈b.M)(ht:e.t=t)(hr:e.r=r)(hQ:e.Q=[⟨id,X t r,H t r,H t r,0⟩])(hH:H t r≠0)(to:Int)(V:KQ)(hk:∀h' d',BV h' a (N+1) d'->Lone d'.Ts H (jb X t r to)->j0 d d' k->wD d.Ts a.bw a.bp a.bl h h'->d'.Ts.map (·.bm)=d.Ts.map (·.bm)->V (.int .i64 0) h'):CallW prog 304 [.pointer (some ⟨a.tb,0,none⟩),.int .i64 id,.int .i64 to] h V:=by
 have xB:=List.mem_of_getElem? hb;have Yw:∀(b':TB)(e':HE)(p:R5),b'∈d.Ts->e'∈b'.M->cq e'.Q id=some p->b'=b/\e'=e/\p=⟨id,X t r,H t r,H t r,0⟩:=by
  intro b' e' p hb' he' hf;obtain⟨i,hi,hid⟩:=qZ ((s.is.bk b' hb').good e' he').vq hf;obtain⟨rfl,rfl⟩:=s.xA hb' xB he' he (List.mem_of_getElem? hi) (by rw[hQ];exact .head _) hid;rw[hQ,jm,if_pos rfl]at hf;exact⟨rfl,rfl,(Option.some.inj hf).symm⟩
 refine Sk s hlo id to _ ?_ ?_ ?_ ?_
 .intro hn;have:=hn b xB e he;rw[hQ,jm,if_pos rfl]at this;cases this
 .intro k' b' h' e' p hb' he' hf ⟨o,ho,hne,_⟩ _;obtain⟨rfl,rfl,rfl⟩:=Yw b' e' p (List.mem_of_getElem? hb') he' hf;rw[hQ,List.mem_singleton]at ho;subst ho;exact absurd rfl hne
 .intro k' b' h' e' p hb' he' hf _ hs _;obtain⟨rfl,rfl,rfl⟩:=Yw b' e' p (List.mem_of_getElem? hb') he' hf;simp at hs
 .intro k' b' h' M' clock' e' p i hb' he' hpi hf _ _ mv s';obtain⟨rfl,rfl,rfl⟩:=Yw b' e' p (List.mem_of_getElem? hb') he' hf;have h1:=s.nm k' b' hb' e' he';rw[ht,hr,hst]at h1;obtain rfl:k'=k:=by omega
  have i0:i=0:=by
   have:=(List.getElem?_eq_some_iff.1 hpi).1;rw[hQ]at this;simpa using this
  subst i0;have st:=mv.set;rw[hQ,List.set_cons_zero,show xq ⟨id,X t r,H t r,H t r,0⟩ to=⟨id,jb X t r to t r,H t r,H t r,0⟩by rw[rU];rfl,wF hH,ht,hr]at st;have L':=L.Mm s hb hst hH clock' st λt' r' hn=>lS X hn;rw[wJ]at L';have o:=(s.is.bk b' xB).ok;exact hk h' ⟨_,d.W,d.wc,d.F,d.B⟩ s' L' (u5 hb (st.cnt o) _ _ (Nat.le_succ _) _) (wD.VW xB mv.fr) (DV hb _ _)
end
section
variable {h:Heap}{A:WA}{a:TA}{N:Nat}{d:TD}{R:RD}{H X:Int->Int->Int}
theorem adN{β:Type}{fl:β}{h:Heap}{b:Nat}(g:h.bl.get b=some H7)(k:Int)(hk:k=3)(V:Z7 β):cr fl prog 3 Value.nilFunc false (.map (some b)) (.int .i64 k) h V=V (.func (.func 214) ⟨[]⟩ ⟨[]⟩) h:=by
 subst hk;unfold cr ij;rw[NU];simp only[g,H7];rw[findF,if_neg (by decide),findF,if_neg (by decide),findF,if_pos rfl];rfl
def D3(H X:Int->Int->Int)(a:iz):Int->Int->Int:=if H a.t a.r=0 then X else jb X a.t a.r a.to
theorem Wt(s:WS h A a N d R)(L:Lone d.Ts H X){i k:Nat}{c:CR}(hi:R.cs[i]? = some (some c)){b:TB}(hb:d.Ts[k]? = some b)(hst:dR c.a.t c.a.r a.c.S=(k:Int))(hx:c.a.x=X c.a.t c.a.r)(V:KQ)(hk:∀h' d',WS h' A a (N+1) d' { R with cs:=R.cs.set i (some { c with out:=if H c.a.t c.a.r=0 then 6 else 1 }) }->Lone d'.Ts H (D3 H X c.a)->j0 d d' k->WK a h h'->V (.tuple ⟨[]⟩) h'):CallW prog 214 [.pointer (some ⟨c.ca,0,none⟩)] h V:=by
 obtain⟨gc,c1,c2⟩:=bO s hi;have gc':=gc;unfold bZ at gc';have gw:=s.r.gw;have hlo:=s.lo;have fin:∀h' d',WS h' A a (N+1) d' R->Lone d'.Ts H (D3 H X c.a)->j0 d d' k->WK a h h'->V (.tuple ⟨[]⟩) ⟨h'.nx,h'.bl.aV c.ca (bZ A.wb { c with out:=if H c.a.t c.a.r=0 then 6 else 1 }),h'.lo⟩:=λh' d' s' L' g' w'=>by
  obtain⟨uY,_,_⟩:=bO s' hi;exact hk _ d' (WS.iT s' hi rfl) L' g' (w'.trans (WS.uX s' uY (by simp[jO]) (by decide) _))
 unfold bZ at fin;refine av mixed ?_;rw[aa2];simp(disch:=try exact Y)only[Wz,aG,gc',gw];rw[hx];refine u0 s.t L hlo c.a.t c.a.r _ ?_ ?_
 .intro hH h1 bG;have s1:=s.le bG;obtain⟨yp,_,_⟩:=bO s1 hi;unfold bZ at yp;simp(disch:=try exact Y)only[Wz,aG,yp];have:=fin h1 d (s1.up (Nat.le_succ _)) (by unfold D3;rw[if_pos hH];exact L) (j0.refl _ _) (s.Mp bG);rw[if_pos hH]at this;exact this
 .intro hH h1 k' b' e id hb' BX he ht hr hQ bG;obtain rfl:k'=k:=by omega
  rw[hb]at hb';cases hb';have s1:=s.le bG;have n1:=bG.nx;have l1:=bG.lo;obtain⟨yp,c11,_⟩:=bO s1 hi;have adO:=yp;unfold bZ at adO;have Ys:=s1.r.gw;simp(disch:=try exact Y)only[Wz];refine⟨λl' h'=>Le h1 h',?_,?_⟩
  .simp(disch:=try exact Y)only[Wz,Gg,aG,adO];by_cases hto:c.a.to<0
   .simp(disch:=try exact Y)only[Wz,fV hto,Gf,aG,adO,Ys];refine A3 s1 L c.a.t c.a.r _ ?_;intro v Q h2 hQ hv bt;obtain⟨vx,vc,ev,_⟩:=(show Sl bH h2 v Q from hv)
    have hlen:∀(β:Type)(fl:β)(h':Heap)(V:Z7 β),bJ fl v h' V=V (.int .i64 (Q.length:Int)) h':=λβ fl h' V=>by rw[ev];exact iu _ _ _ _ _
    have hQl:Q.length<=1:=by rcases hQ with rfl|⟨_,_,rfl⟩<;>simp
    have n2:=bt.nx;have l2:=bt.lo;simp(disch:=try exact Y)only[Wz,hlen];refine⟨λn l h3=>∃j:Nat,slot l 14=.int .i64 (j:Int)/\n=Q.length-j/\j<=Q.length/\Le h2 h3,⟨_,0,rfl,rfl,by omega,Le.refl _⟩,?_⟩;rintro n l h3 ⟨j,e1,rfl,hj,dg⟩;have n3:=dg.nx;have l3:=dg.lo;by_cases hlt:j<Q.length
    .obtain⟨p,hp⟩:∃p,Q[j]? = some p:=⟨_,List.getElem?_eq_getElem hlt⟩
     obtain⟨b4,o4,hb4,hx4,T0,_⟩:=TW hv j hp;have hps:p.s=0:=by
      have hm:=List.mem_of_getElem? hp;rcases hQ with rfl|⟨i',m',rfl⟩
      .nomatch hm
      .rw[List.mem_singleton]at hm;subst hm;rfl
     rw[<-dg.get _ hb4]at T0;simp(disch:=try exact Y)only[Wz,e1,fV (show(j:Int)<(Q.length:Int)by omega),Ge,hx4,T0,bH,hps];exact⟨_,by omega,j+1,rfl,rfl,by omega,dg.trans ((Le.refl h3).new _)⟩
    .simp(disch:=try exact Y)only[Wz,e1,dL (show(Q.length:Int)<=(j:Int)by omega)];exact bt.trans dg
   .simp(disch:=try exact Y)only[Wz,dL (show 0<=c.a.to by omega)];exact Le.refl _
  .rintro l' h3 dg;have s3:=s1.le dg;obtain⟨uY,c31,_⟩:=bO s3 hi;have gw3:=s3.r.gw;have hne:c.ca≠A.wb:=de uY gw3 (by decide);have k3:=(s.Mp (bG.trans dg)).trans (WS.uX s3 uY (by simp[jO]) (by decide) (bZ A.wb { c with out:=1 }));have s3':=WS.iT s3 hi (c':={ c with out:=1 }) rfl;have lo3:=s3.lo;have ai4:=uY;unfold bZ at ai4 s3' k3;simp(disch:=try exact Y)only[Wz,Gh,aG,ai4,gw3];refine SZ s3'.t L (by exact lo3) hb hst he ht hr hQ hH c.a.to _ ?_;intro h4 d4 t4 L4' g4 f4 b4;simp(disch:=try exact Y)only[Wz];have s4:=s3'.table t4 f4 b4;refine hk h4 d4 ?_ (by unfold D3;rw[if_neg hH];exact L4') g4 (k3.trans (s3'.kfr f4));rw[if_neg hH];exact s4
theorem Wu(s:WS h A a N d R)(L:Lone d.Ts H X){i k:Nat}{c:CR}(hi:R.cs[i]? = some (some c))(vS:c.wt=false){b:TB}(hb:d.Ts[k]? = some b)(hst:dR c.a.t c.a.r a.c.S=(k:Int))(hx:c.a.x=X c.a.t c.a.r)(h3:c.a.k=3)(V:KQ)(hk:∀h' d',WS h' A a (N+1) d' { R with cs:=R.cs.set i (some { c with ph:=3,out:=if H c.a.t c.a.r=0 then 6 else 1 }) }->Lone d'.Ts H (D3 H X c.a)->j0 d d' k->WK a h h'->V (.tuple ⟨[]⟩) h'):CallW prog 106 [.pointer (some ⟨c.ca,0,none⟩)] h V:=by
 obtain⟨gc,c1,c2⟩:=bO s hi;have gc':=gc;unfold bZ at gc';have hlo:=s.lo;have hil:=(List.getElem?_eq_some_iff.1 hi).1;refine av mixed ?_;rw[Js];refine⟨λl' h'=>∃d',WS h' A a (N+1) d' { R with cs:=R.cs.set i (some { c with out:=if H c.a.t c.a.r=0 then 6 else 1 }) }/\Lone d'.Ts H (D3 H X c.a)/\j0 d d' k/\WK a h h',?_,?_⟩
 .simp(disch:=try exact Y)only[Wz,uC,aG,gc',vS,uB];refine JW h _ hlo ?_;intro b0 hz lez g0;have s1:=s.le lez;have k1:=s.Mp lez;have yp:=(lez.get _ c1).trans gc';simp(disch:=try exact Y)only[Wz,aG,yp,adN g0 _ h3,List.nil_append,List.append_nil];refine Wt s1 L hi hb hst hx _ ?_;intro h4 d4 s4 L4' g4 k4;rw[vS]at s4;exact⟨d4,s4,L4',g4,k1.trans k4⟩
 .rintro l' h' ⟨d',s',L',g',k'⟩;have hi':(R.cs.set i (some { c with out:=if H c.a.t c.a.r=0 then 6 else 1 }))[i]? = some (some { c with out:=if H c.a.t c.a.r=0 then 6 else 1 }):=by rw[List.getElem?_set,if_pos rfl,if_pos hil]
  obtain⟨uY,_,c3⟩:=bO s' hi';refine D0 { c with out:=if H c.a.t c.a.r=0 then 6 else 1 } uY c3 3 _ rfl _ ?_;have s4:=WS.iT s' hi' (c':={ c with ph:=3,out:=if H c.a.t c.a.r=0 then 6 else 1 }) rfl;simp only[List.set_set]at s4;exact hk _ d' s4 L' g' (k'.trans (WS.uX s' uY (by simp[jO]) (by decide) _))
theorem Ij(s:WS h A a N d R)(L:Lone d.Ts H X){i k:Nat}{c:CR}(hi:R.cs[i]? = some (some c))(uZ:c.ph=2)(hbi:R.bits[i]? = some 0)(vS:c.wt=false){b:TB}(hb:d.Ts[k]? = some b)(hst:dR c.a.t c.a.r a.c.S=(k:Int))(hsk:c.st=(k:Int)){o:Option (Nat × Int)}(hl:R.dS[k]? = some o)(hx:c.a.x=X c.a.t c.a.r)(hm:oc c.a=true)(h3:c.a.k=3)(V:KQ)(hk:∀h' d',WS h' A a (N+1) d' { R with cs:=R.cs.set i (some { c with ph:=3,out:=if H c.a.t c.a.r=0 then 6 else 1 }) }->Lone d'.Ts H (D3 H X c.a)->j0 d d' k->WK a h h'->V (.tuple ⟨[.bool false,.int .i64 0,.int .i64 0]⟩) h'):CallW prog 15 [.pointer (some ⟨A.wb,0,none⟩),.int .i64 (i:Int)] h V:=by
 have gw:=s.r.gw;have V7:=s.r.gc;have hil:=xE s hi;have r:(R.cs.map λo=>cZ (o.map (·.ca)))[i]? = some (.pointer (some ⟨c.ca,0,none⟩)):=jZ s hi;obtain⟨gc,c1,c2⟩:=bO s hi;have hlc:(R.cs.map λo=>cZ (o.map (·.ca))).length=A.n:=by rw[List.length_map];exact s.r.lc
 have gc':=gc;unfold bZ xD at gc';rw[uZ]at gc';have h2:decide (((2:Nat):Int)=1)=false:=by decide
 refine av mixed ?_;rw[Fj];simp(disch:=try exact Y)only[Wz,jF,rP];refine mQ s hil _ ?_;simp(disch:=try exact Y)only[Wz];refine nO s hi hbi hsk hl _ ?_;rw[uZ,h2];simp(disch:=try exact Y)only[Wz,Bool.not_false,Bool.true_or,rO,aG,gw,bh,V7,r,gc',Nat.mul_one,pO];refine Wu s L hi vS hb hst hx h3 _ ?_;intro h' d' s' L' g' k';have hi':(R.cs.set i (some { c with ph:=3,out:=if H c.a.t c.a.r=0 then 6 else 1 }))[i]? = some (some { c with ph:=3,out:=if H c.a.t c.a.r=0 then 6 else 1 }):=by rw[List.getElem?_set,if_pos rfl,if_pos (by have:=s.r.lc;omega)]
 obtain⟨uQ,_,_⟩:=bO s' hi';unfold bZ at uQ;simp(disch:=try exact Y)only[Wz,aG,uQ];exact hk h' d' s' L' g' k'
end
def TH(R:RD)(n:Nat)(x:iz)(out:Int):Prop:=
 (n=0/\R.cs[0]? = some none/\∀k,k<2->R.dS[k]? = some none)\/
 ∃(c:CR)(k:Nat),k<2/\R.cs[0]? = some (some c)/\c.a=x/\c.wt=false/\c.th=((0:Nat):Int)/\c.st=(k:Int)/\dR x.t x.r 2=(k:Int)/\oc x=true/\(∀j,j<2->j≠k->R.dS[j]? = some none)/\
  ((n=3/\c.ph=1/\R.dS[k]? = some none)\/(n=2/\c.ph=2/\∃p,R.dS[k]? = some (some (p,c.th)))\/(n=1/\c.ph=3/\(∃p,R.dS[k]? = some (some (p,c.th)))/\c.out=out/\out≠0))
def Ik(d:TD)(N:Nat):Prop:=(∀b∈d.Ts,b.M.length<=N)/\24<=d.F.length+N
theorem Ik.up{d:TD}{N N':Nat}(c:Ik d N)(h:N<=N'):Ik d N':=⟨λb hb=>Nat.le_trans (c.1 b hb) h,by have:=c.2;omega⟩
theorem Ik.adP{d d':TD}{N k:Nat}(c:Ik d N)(g:j0 d d' k):Ik d' (N+1):=by
 refine⟨λb' hb'=>?_,by have:=c.2;have:=g.f;omega⟩;obtain⟨j,hj⟩:=List.getElem?_of_mem hb';obtain⟨b,hb,hl⟩:=g.m j b' hj;have:=c.1 b (List.mem_of_getElem? hb);split at hl<;>omega
structure WI(h:Heap)(A:WA)(a:TA)(H X:Int->Int->Int)(N n:Nat)(x:iz)(out:Int):Prop where
 w:∃(d:TD)(R:RD)(N0:Nat),WS h A a N0 d R/\Lone d.Ts H X/\R.bits[0]? = some 0/\0<=R.begun/\R.begun<=N/\N0+n / 2<=N/\Ik d N0/\TH R n x out
 cS:a.c.S=2
 hd:a.aW=8
section
variable {h h':Heap}{A:WA}{a:TA}{H X:Int->Int->Int}{N n:Nat}{x:iz}{out:Int}
theorem WI.le(s:WI h A a H X N n x out)(l:Le h h'):WI h' A a H X N n x out:=by
 obtain⟨⟨d,R,N0,s1,s2⟩,s3,s4⟩:=s;exact⟨⟨d,R,N0,s1.le l,s2⟩,s3,s4⟩
theorem WI.lo(s:WI h A a H X N n x out):h.lo<=h.nx:=by
 obtain⟨⟨d,R,N0,s1,s2⟩,s3,s4⟩:=s;exact s1.lo
theorem WI.put(s:WI h A a H X N n x out){b:Nat}{v:List Value}{t:TypeId}{o:Bool}(hg:h.bl.get b=some (aa v t o))(ht:¬lZ t o)(hr:¬jO t o)(ob:bD):WI ⟨h.nx,h.bl.aV b ob,h.lo⟩ A a H X N n x out:=by
 obtain⟨⟨d,R,N0,s1,s2⟩,s3,s4⟩:=s;exact⟨⟨d,R,N0,s1.Wg hg ht hr ob,s2⟩,s3,s4⟩
theorem WI.rest(s:WI h A a H X N 0 x out)(x':iz)(out':Int):WI h A a H X N 0 x' out':=by
 obtain⟨⟨d,R,N0,s1,s2,s3,s4,s5,s6,sc,t⟩,s7,s8⟩:=s;refine⟨⟨d,R,N0,s1,s2,s3,s4,s5,s6,sc,?_⟩,s7,s8⟩;rcases t with t|⟨c,k,_,_,_,_,_,_,_,_,_,t⟩
 .exact .inl t
 .rcases t with⟨e,_⟩|⟨e,_⟩|⟨e,_⟩<;>omega
theorem WI.leV(s:WI h A a H X N n x out){v:Value}(l:U7 v h h')(hv:∀d,xm v d->d<h.nx/\∃vs o,h.bl.get d=some (aa vs 160 o))(one:∀d d',xm v d->xm v d'->d=d')(hs:∀d,xm v d->∃ob,h'.bl.get d=some ob):WI h' A a H X N n x out:=by
 by_cases hb:∃d,xm v d
 .obtain⟨d,hd⟩:=hb;obtain⟨h1,vs,o,h2⟩:=hv d hd;obtain⟨ob,h3⟩:=hs d hd;have s1:=s.put h2 (by unfold lZ;cases o<;>decide) (by unfold jO;cases o<;>decide) ob;refine s1.le ⟨l.nx,l.lo,λc hc=>?_⟩;by_cases e:c=d
  .subst e;rw[h3];exact(T.ah _ _ _).symm
  .exact(l.get c hc λhb=>e (one c d hb hd)).trans (T.aj _ _ (λe'=>e e'.symm)).symm
 .exact s.le ⟨l.nx,l.lo,λc hc=>l.get c hc λhb'=>hb ⟨c,hb'⟩⟩
theorem Ou(s:WI h A a H X N 0 x out)(hN:N<=900)(y:iz)(hm:oc y=true)(o:Int)(V:KQ)(hk:∀h',WI h' A a H X (N+1) 3 y o->WK a h h'->V (.int .i64 0) h'):CallW prog 11 [.pointer (some ⟨A.wb,0,none⟩),.int .i64 ((0:Nat):Int),.agg ⟨DY y⟩] h V:=by
 obtain⟨⟨d,R,N0,s1,s2,s3,s4,s5,s6,sc,t⟩,s7,s8⟩:=s;obtain⟨t1,t2⟩:R.cs[0]? = some none/\∀k,k<2->R.dS[k]? = some none:=by
  rcases t with⟨_,t⟩|⟨c,k,_,_,_,_,_,_,_,_,_,t⟩
  .exact t
  .rcases t with⟨e,_⟩|⟨e,_⟩|⟨e,_⟩<;>omega
 refine V8 s1 t1 y ⟨s4,by omega⟩ _ ?_ ?_
 .intro e;rw[hm]at e;cases e
 ·intro _ h' ca s' k';have hl:bf y.t y.r≠-1:=by
   unfold oc at hm;rw[Bool.and_eq_true,decide_eq_true_eq]at hm;exact hm.1
  obtain⟨k,hk2,hst⟩:=Wi hl;refine hk h' ⟨⟨d,_,N0,s',s2,s3,by show 0<=R.begun+1;omega,by show R.begun+1<=((N+1:Nat):Int);omega,by omega,sc,.inr ⟨_,k,hk2,rV t1,rfl,rfl,rfl,by rw[s7];exact hst,hst,hm,λj hj _=>t2 j hj,.inl ⟨rfl,rfl,t2 k hk2⟩⟩⟩,s7,s8⟩ k'
theorem Ov(s:WI h A a H X N n x out)(hn:n≠0)(V:KQ)(hk:V (.bool true) h):CallW prog 64 [.pointer (some ⟨A.wb,0,none⟩),.int .i64 ((0:Nat):Int)] h V:=by
 obtain⟨⟨d,R,N0,s1,s2,s3,s4,s5,s6,sc,t⟩,s7,s8⟩:=s;rcases t with⟨e,_⟩|⟨c,k,k2,hi,ha,hw,BW,hst,hs2,hm,ho,t⟩
 .exact absurd e hn
 .rcases t with⟨_,uZ,hl⟩|⟨_,uZ,p,hl⟩|⟨_,uZ,⟨p,hl⟩,_⟩
  .refine nO s1 hi s3 hst hl _ ?_;rw[uZ];exact hk
  .refine nO s1 hi s3 hst hl _ ?_;rw[uZ];exact hk
  .refine nO s1 hi s3 hst hl _ ?_;rw[uZ];exact hk
theorem CO(s:WI h A a H X N 3 x out)(V:KQ)(hk:∀h',WI h' A a H X N 2 x out->WK a h h'->V (.tuple ⟨[.bool false,.int .i64 0,.int .i64 0]⟩) h'):CallW prog 15 [.pointer (some ⟨A.wb,0,none⟩),.int .i64 ((0:Nat):Int)] h V:=by
 obtain⟨⟨d,R,N0,s1,s2,s3,s4,s5,s6,sc,t⟩,s7,s8⟩:=s;rcases t with⟨e,_⟩|⟨c,k,k2,hi,ha,hw,BW,hst,hs2,hm,ho,t⟩
 .omega
 .rcases t with⟨_,uZ,hl⟩|⟨e,_⟩|⟨e,_⟩
  .refine HZ s1 hi uZ s3 hst ⟨by rw[BW];omega,by rw[BW];omega⟩ hl _ ?_;intro h' s' k';exact hk h' ⟨⟨d,_,N0,s',s2,s3,s4,s5,by omega,sc,.inr ⟨_,k,k2,rV hi,ha,hw,BW,hst,hs2,hm,λj hj hne=>(CM hne).trans (ho j hj hne),.inr (.inl ⟨rfl,rfl,_,rV hl⟩)⟩⟩,s7,s8⟩ k'
  .omega
  .omega
theorem S0(s:WI h A a H X N 1 x out)(V:KQ)(hk:∀h',WI h' A a H X N 0 x out->WK a h h'->V (.tuple ⟨[.bool true,.int .i64 out,.int .i64 0]⟩) h'):CallW prog 15 [.pointer (some ⟨A.wb,0,none⟩),.int .i64 ((0:Nat):Int)] h V:=by
 obtain⟨⟨d,R,N0,s1,s2,s3,s4,s5,s6,sc,t⟩,s7,s8⟩:=s;rcases t with⟨e,_⟩|⟨c,k,k2,hi,ha,hw,BW,hst,hs2,hm,ho,t⟩
 .omega
 .rcases t with⟨e,_⟩|⟨e,_⟩|⟨_,uZ,⟨p,hl⟩,hout,hnz⟩
  .omega
  .omega
  .subst hout;refine JV s1 hi uZ s3 hst BW hnz hl _ ?_;intro h' s' k';refine hk h' ⟨⟨d,_,N0,s',s2,s3,s4,s5,by omega,sc,.inl ⟨rfl,rV hi,λj hj=>?_⟩⟩,s7,s8⟩ k';by_cases e:j=k
   .subst e;exact rV hl
   .exact(CM e).trans (ho j hj e)
theorem Il(s:WI h A a H X N 2 x out)(hN:N<=1000)(hx:x.x=X x.t x.r)(hx0:x.k≠3->0<=x.x)(V:KQ)(hkL:x.k=1->∀h',WI h' A a (jb H x.t x.r (bN (H x.t x.r) x.m)) X N 1 x 1->WK a h h'->V (.tuple ⟨[.bool false,.int .i64 0,.int .i64 0]⟩) h')(hkF:x.k=1->H x.t x.r=0->8<=N->∀h',WI h' A a H X N 1 x 5->WK a h h'->V (.tuple ⟨[.bool false,.int .i64 0,.int .i64 0]⟩) h')(hkD:x.k=2->∀h',WI h' A a (jb H x.t x.r 0) X N 1 x (if H x.t x.r=0 then 6 else 1)->WK a h h'->V (.tuple ⟨[.bool false,.int .i64 0,.int .i64 0]⟩) h')(hkH:x.k=3->∀h',WI h' A a H (D3 H X x) N 1 x (if H x.t x.r=0 then 6 else 1)->WK a h h'->V (.tuple ⟨[.bool false,.int .i64 0,.int .i64 0]⟩) h'):CallW prog 15 [.pointer (some ⟨A.wb,0,none⟩),.int .i64 ((0:Nat):Int)] h V:=by
 obtain⟨⟨d,R,N0,s1,s2,s3,s4,s5,s6,sc,t⟩,s7,s8⟩:=s;rcases t with⟨e,_⟩|⟨c,k,k2,hi,ha,hw,BW,hst,hs2,hm,ho,t⟩
 .omega
 .rcases t with⟨e,_⟩|⟨_,uZ,p,hl⟩|⟨e,_⟩
  .omega
  ·subst ha;have mk:∀h' H' X' o' d' c',c'={ c with ph:=3,out:=o' }->o'≠0->Ik d' (N0+1)->WS h' A a (N0+1) d' { R with cs:=R.cs.set 0 (some c') }->Lone d'.Ts H' X'->WI h' A a H' X' N 1 c.a o':=by
    intro h' H' X' o' d' c' e hz cn s' L';subst e;exact⟨⟨d',_,N0+1,s',L',s3,s4,s5,by omega,cn,.inr ⟨_,k,k2,rV hi,rfl,hw,BW,hst,hs2,hm,ho,.inr (.inr ⟨rfl,rfl,⟨p,hl⟩,rfl,hz⟩)⟩⟩,s7,s8⟩
   obtain⟨b,hbk⟩:∃b,d.Ts[k]? = some b:=by
    have h2:=s1.t.is.cS;rw[s7]at h2;exact⟨_,List.getElem?_eq_getElem (by omega)⟩
   have BX:dR c.a.t c.a.r a.c.S=(k:Int):=by rw[s7];exact hs2
   have hz:(if H c.a.t c.a.r=0 then(6:Int)else 1)≠0:=by split<;>decide
   have aoS:c.a.k=1\/c.a.k=2\/c.a.k=3:=by
    have hm2:=hm;unfold oc at hm2;rw[Bool.and_eq_true]at hm2;have hm2:=hm2.2;split at hm2
    .exact .inl (by assumption)
    .split at hm2
     .exact .inr (.inr (by assumption))
     .rw[decide_eq_true_eq]at hm2;exact .inr (.inl hm2)
   rcases aoS with e1|e2|e3
   .have hx0:=hx0 (by omega);by_cases hroom:H c.a.t c.a.r=0/\(d.F=[]\/a.aW<=b.M.length)
    .obtain⟨hH,hf⟩:=hroom;refine Ii s1 s2 (by omega) hi uZ s3 hw hbk BX hst hl hx hx0 hm e1 hH hf _ ?_;intro h' s' k';refine hkF e1 hH ?_ h' (mk h' H X 5 d _ rfl (by decide) (sc.up (Nat.le_succ _)) (s'.up (Nat.le_succ _)) s2) k';rcases hf with e|e
     .have:=sc.2;rw[e]at this;simp at this;omega
     .have:=sc.1 b (List.mem_of_getElem? hbk);rw[s8]at e;omega
    .refine A5 s1 s2 (by omega) hi uZ s3 hw hbk BX hst hl hx hx0 hm (by omega) ?_ ?_ _ ?_
     .intro _ hH e;exact hroom ⟨hH,.inl e⟩
     .intro _ hH;rcases Nat.lt_or_ge b.M.length a.aW with h1|h1
      .exact h1
      .exact absurd ⟨hH,.inr h1⟩ hroom
     .intro h' d' s' L' g' k';unfold wG JQ at *
      rw[if_pos e1]at s' L';exact hkL e1 h' (mk h' _ X 1 d' _ rfl (by decide) (sc.adP g') s' L') k'
   .refine A5 s1 s2 (by omega) hi uZ s3 hw hbk BX hst hl hx (hx0 (by omega)) hm (by omega) (λe=>by omega) (λe=>by omega) _ ?_;intro h' d' s' L' g' k';unfold wG JQ at *
    rw[if_neg (by omega)]at s' L';exact hkD e2 h' (mk h' _ X _ d' _ rfl hz (sc.adP g') s' L') k'
   .refine Ij s1 s2 hi uZ s3 hw hbk BX hst hl hx hm e3 _ ?_;intro h' d' s' L' g' k';exact hkH e3 h' (mk h' H _ _ d' _ rfl hz (sc.adP g') s' L') k'
  .omega
end
abbrev pt(b:Nat):Value:=.pointer (some ⟨b,0,none⟩)
def Ms(t:TypeId):Prop:=t=155\/t=224\/t=288\/t=160
def D4(t:TypeId):Prop:=Ms t\/t=227\/t=46
theorem D4.nt{t:TypeId}{o:Bool}(h:D4 t):¬lZ t o/\¬jO t o:=by
 rcases h with(rfl|rfl|rfl|rfl)|rfl|rfl<;>refine⟨?_,?_⟩<;>(first|unfold lZ|unfold jO)<;>cases o<;>decide
structure FK(a:TA)(h h':Heap):Prop where
 nx:h.nx<=h'.nx
 lo:h'.lo=h.lo
 ty:∀d vs t o,d<h.nx->h.bl.get d=some (aa vs t o)->¬lZ t o->¬jO t o->¬Ms t->h'.bl.get d=h.bl.get d
 ro:∀d,d<h.nx->(∀vs t o,h.bl.get d≠some (aa vs t o))->(∀es c,h.bl.get d≠some (.map es c))->h'.bl.get d=h.bl.get d
 mp:∀d es c,d<h.nx->h.bl.get d=some (.map es c)->d∉a.ms->h'.bl.get d=h.bl.get d
theorem FK.trans{a:TA}{h h1 h2:Heap}(x:FK a h h1)(y:FK a h1 h2):FK a h h2 where
 nx:=Nat.le_trans x.nx y.nx
 lo:=y.lo.trans x.lo
 ty d vs t o hd hg h1 h2 h3:=by
  have e:=x.ty d vs t o hd hg h1 h2 h3;exact(y.ty d vs t o (Nat.lt_of_lt_of_le hd x.nx) (e.trans hg) h1 h2 h3).trans e
 ro d hd h1 h2:=by
  have e:=x.ro d hd h1 h2;exact(y.ro d (Nat.lt_of_lt_of_le hd x.nx) (λvs t o=>by rw[e];exact h1 vs t o) (λes c=>by rw[e];exact h2 es c)).trans e
 mp d es c hd hg hn:=by
  have e:=x.mp d es c hd hg hn;exact(y.mp d es c (Nat.lt_of_lt_of_le hd x.nx) (e.trans hg) hn).trans e
theorem WK.fk{a:TA}{h h':Heap}(k:WK a h h'):FK a h h':=⟨k.nx,k.lo,λd vs t o hd hg h1 h2 _=>k.ty d vs t o hd hg h1 h2,k.ro,k.mp⟩
theorem FK.le{a:TA}{h h':Heap}(l:Le h h'):FK a h h':=⟨l.nx,l.lo,λd _ _ _ hd _ _ _ _=>l.get d hd,λd hd _ _=>l.get d hd,λd _ _ hd _ _=>l.get d hd⟩
theorem FK.put{a:TA}{h:Heap}{x:Nat}{v:List Value}{t:TypeId}{o:Bool}(hg:h.bl.get x=some (aa v t o))(ht:Ms t)(ob:bD):FK a h ⟨h.nx,h.bl.aV x ob,h.lo⟩:=by
 refine⟨Nat.le_refl _,rfl,λd vs t' o' _ hgd _ _ hc=>T.aj _ _ ?_,λd _ h1 _=>T.aj _ _ ?_,λd _ _ _ hgd _=>T.aj _ _ (dh hg hgd)⟩
 .rintro rfl;rw[hg]at hgd;obtain⟨rfl,rfl⟩:=gf hgd;exact hc ht
 .rintro rfl;exact h1 _ _ _ hg
theorem FK.leV{a:TA}{h h':Heap}{v:Value}(l:U7 v h h')(hv:∀d,xm v d->∃vs o,h.bl.get d=some (aa vs 160 o)):FK a h h':=by
 refine⟨l.nx,l.lo,λd vs t' o' hd hgd _ _ hc=>l.get d hd λhb=>?_,λd hd h1 _=>l.get d hd λhb=>?_,λd _ _ hd hgd _=>l.get d hd λhb=>?_⟩
 .obtain⟨vs',o,e⟩:=hv d hb;rw[e]at hgd;obtain⟨rfl,rfl⟩:=gf hgd;exact hc (.inr (.inr (.inr rfl)))
 .obtain⟨vs',o,e⟩:=hv d hb;exact h1 _ _ _ e
 .obtain⟨vs',o,e⟩:=hv d hb;exact dh e hgd rfl
structure KT(T:TypeId->Prop)(h h':Heap):Prop where
 nx:h.nx<=h'.nx
 lo:h'.lo=h.lo
 ty:∀d vs t o,d<h.nx->h.bl.get d=some (aa vs t o)->T t->h'.bl.get d=h.bl.get d
abbrev KA:=KT D4
theorem WK.ka{a:TA}{h h':Heap}(k:WK a h h'):KA h h':=⟨k.nx,k.lo,λd vs t o hd hg ht=>k.ty d vs t o hd hg ht.nt.1 ht.nt.2⟩
theorem KT.le{T:TypeId->Prop}{h h':Heap}(l:Le h h'):KT T h h':=⟨l.nx,l.lo,λd _ _ _ hd _ _=>l.get d hd⟩
theorem KT.mono{T T':TypeId->Prop}{h h':Heap}(k:KT T h h')(m:∀t,T' t->T t):KT T' h h':=⟨k.nx,k.lo,λd vs t o hd hg ht=>k.ty d vs t o hd hg (m t ht)⟩
def Ow(t:TypeId):Prop:=t=155\/t=288\/t=227\/t=46
theorem Ow.a{t:TypeId}(h:Ow t):D4 t:=by
 rcases h with h|h|h|h
 .exact .inl (.inl h)
 .exact .inl (.inr (.inr (.inl h)))
 .exact .inr (.inl h)
 .exact .inr (.inr h)
theorem ktV{α:Type}{enc:α->List Value}{h h':Heap}{v:Value}{L:List α}(l:U7 v h h')(p:fS enc 160 h v L):KT (λt=>t≠160) h h':=⟨l.nx,l.lo,λd vs t o hd hg ht=>l.get d hd λhb=>by
 obtain⟨_,vs',e⟩:=p.blk hb;rw[hg]at e;exact bz ht e⟩
structure AA where
 ab:Nat
 pb:Nat
 lb:Nat
 wb:Nat
 th:Int
 most:Int
structure AD where
 l_:Int
 asked:List L4
 has:List L4
 aX:List L4
structure CD where
 k:Int
 t:Int
 r:Int
 m:Int
 w:Int
 ask:iz
 qY:Int
 beh:FuncId
 Im:Value
 seen:Bool
 code:Int
 fc:List N3
 goes:List L4
structure jd(h:Heap)(z:AA)(D:AD)(cp:Option Nat):Prop where
 D5:z.ab<h.nx/\h.lo<=z.ab
 ga:∃va vh,h.bl.get z.ab=some (aa [pt z.wb,.int .i64 z.th,.int .i64 D.l_,va,vh,pt z.pb,cZ cp] 155 false)/\jt h va D.asked/\jt h vh D.has
 Sn:z.pb<h.nx/\h.lo<=z.pb
 gp:h.bl.get z.pb=some (aa [pt z.lb,.int .i64 (-1-z.th),.int .i64 z.most] 227 false)
 Mo:z.lb<h.nx/\h.lo<=z.lb
 gl:∃vp,h.bl.get z.lb=some (aa [vp] 288 false)/\jt h vp D.aX
def agO(z:AA)(D:AD)(va vh:Value)(cp:Option Nat):bD:=aa [pt z.wb,.int .i64 z.th,.int .i64 D.l_,va,vh,pt z.pb,cZ cp] 155 false
def dx(z:AA)(c:CD)(vn vg:Value):bD:=aa [vn,vg,.int .i64 c.k,.int .i64 0,.int .i64 c.t,.int .i64 c.r,.int .i64 c.m,.int .i64 0,.int .i64 c.w,.int .i64 c.ask.k,.int .i64 c.ask.x,.int .i64 c.ask.t,.int .i64 c.ask.r,.int .i64 c.ask.m,.int .i64 c.ask.w,.int .i64 c.ask.to,.int .i64 c.qY,.func (.func c.beh) ⟨[pt z.ab]⟩ ⟨[]⟩,c.Im,.bool c.seen,.int .i64 c.code] 224 false
structure iJ(h:Heap)(z:AA)(kb:Nat)(c:CD):Prop where
 lt:kb<h.nx/\h.lo<=kb
 g:∃vn vg,h.bl.get kb=some (dx z c vn vg)/\fS mZ 160 h vn c.fc/\fR cI 4 46 h vg c.goes
 Im:dJ c.Im=true
section
variable {h h':Heap}{z:AA}{D:AD}{cp:Option Nat}{kb:Nat}{c:CD}
theorem jt.ka{v:Value}{L:List L4}(s:jt h v L)(k:KT Ow h h'):jt h' v L:=s.keep k.nx λc vs op hc hg=>k.ty c vs _ op hc hg (.inr (.inr (.inr rfl)))
theorem jt.fk{a:TA}{v:Value}{L:List L4}(s:jt h v L)(k:FK a h h'):jt h' v L:=s.keep k.nx λc vs op hc hg=>k.ty c vs _ op hc hg (D4.nt (.inr (.inr rfl))).1 (D4.nt (.inr (.inr rfl))).2 (by unfold Ms;decide)
theorem jd.kt(s:jd h z D cp)(k:KT Ow h h'):jd h' z D cp:=by
 have n:=k.nx;have l:=k.lo;obtain⟨va,vh,g1,g2,g3⟩:=s.ga;obtain⟨vp,q1,q2⟩:=s.gl;have a1:=s.D5;have a2:=s.Sn;have a3:=s.Mo;exact⟨⟨by omega,by omega⟩,⟨va,vh,(k.ty _ _ _ _ a1.1 g1 (.inl rfl)).trans g1,g2.ka k,g3.ka k⟩,⟨by omega,by omega⟩,(k.ty _ _ _ _ a2.1 s.gp (.inr (.inr (.inl rfl)))).trans s.gp,⟨by omega,by omega⟩,vp,(k.ty _ _ _ _ a3.1 q1 (.inr (.inl rfl))).trans q1,q2.ka k⟩
theorem jd.ka(s:jd h z D cp)(k:KA h h'):jd h' z D cp:=s.kt (k.mono λ_ h=>h.a)
theorem jd.le(s:jd h z D cp)(l:Le h h'):jd h' z D cp:=s.kt (.le l)
theorem iJ.ka(s:iJ h z kb c)(k:KA h h'):iJ h' z kb c:=by
 have n:=k.nx;have l:=k.lo;have a1:=s.lt;obtain⟨vn,vg,g1,g2,g3⟩:=s.g;exact⟨⟨by omega,by omega⟩,⟨vn,vg,(k.ty _ _ _ _ a1.1 g1 (.inl (.inr (.inl rfl)))).trans g1,g2.keep n l λc vs hc hg=>k.ty c vs _ _ hc hg (.inl (.inr (.inr (.inr rfl)))),g3.keep n l λc vs hc hg=>k.ty c vs _ _ hc hg (.inr (.inr rfl))⟩,s.Im⟩
theorem iJ.le(s:iJ h z kb c)(l:Le h h'):iJ h' z kb c:=s.ka (.le l)
theorem jd.set(s:jd h z D cp){D':AD}{cp':Option Nat}{va vh:Value}(h1:jt h va D'.asked)(h2:jt h vh D'.has)(h3:D'.aX=D.aX):jd ⟨h.nx,h.bl.aV z.ab (agO z D' va vh cp'),h.lo⟩ z D' cp':=by
 obtain⟨va0,vh0,g1,_,_⟩:=s.ga;obtain⟨vp,q1,q2⟩:=s.gl;have kt:∀{v:Value}{L:List L4},jt h v L->jt ⟨h.nx,h.bl.aV z.ab (agO z D' va vh cp'),h.lo⟩ v L:=λs=>s.keep (Nat.le_refl _) λc vs op hc hg=>T.aj _ _ (de g1 hg (by decide));exact⟨s.D5,⟨va,vh,T.ah _ _ _,kt h1,kt h2⟩,s.Sn,(T.aj _ _ (de g1 s.gp (by decide))).trans s.gp,s.Mo,vp,(T.aj _ _ (de g1 q1 (by decide))).trans q1,by rw[h3];exact kt q2⟩
theorem jd.aoV(s:jd h z D cp){vp:Value}{P:List L4}(h1:jt h vp P):jd ⟨h.nx,h.bl.aV z.lb (aa [vp] 288 false),h.lo⟩ z { D with aX:=P } cp:=by
 obtain⟨va,vh,g1,g2,g3⟩:=s.ga;obtain⟨vp0,q1,_⟩:=s.gl;have kt:∀{v:Value}{L:List L4},jt h v L->jt ⟨h.nx,h.bl.aV z.lb (aa [vp] 288 false),h.lo⟩ v L:=λs=>s.keep (Nat.le_refl _) λc vs op hc hg=>T.aj _ _ (de q1 hg (by decide));exact⟨s.D5,⟨va,vh,(T.aj _ _ (de q1 g1 (by decide))).trans g1,kt g2,kt g3⟩,s.Sn,(T.aj _ _ (de q1 s.gp (by decide))).trans s.gp,s.Mo,vp,T.ah _ _ _,kt h1⟩
theorem jd.put(s:jd h z D cp){x:Nat}{v:List Value}{t:TypeId}{o:Bool}(hg:h.bl.get x=some (aa v t o))(ht:t=224\/t=160)(ob:bD):jd ⟨h.nx,h.bl.aV x ob,h.lo⟩ z D cp:=by
 obtain⟨va,vh,g1,g2,g3⟩:=s.ga;obtain⟨vp,q1,q2⟩:=s.gl;have up:∀{b:Nat}{w:List Value}{t':TypeId}{o':Bool},h.bl.get b=some (aa w t' o')->t≠t'->(h.bl.aV x ob).get b=h.bl.get b:=λhb hn=>T.aj _ _ (de hg hb hn);have n1:t≠155:=by rcases ht with rfl|rfl<;>decide
 have n2:t≠227:=by rcases ht with rfl|rfl<;>decide
 have n3:t≠288:=by rcases ht with rfl|rfl<;>decide
 have n4:t≠46:=by rcases ht with rfl|rfl<;>decide
 have kt:∀{v:Value}{L:List L4},jt h v L->jt ⟨h.nx,h.bl.aV x ob,h.lo⟩ v L:=λs=>s.keep (Nat.le_refl _) λc vs op hc hg=>up hg n4;exact⟨s.D5,⟨va,vh,(up g1 n1).trans g1,kt g2,kt g3⟩,s.Sn,(up s.gp n2).trans s.gp,s.Mo,vp,(up q1 n3).trans q1,kt q2⟩
theorem iJ.put(s:iJ h z kb c){x:Nat}{v:List Value}{t:TypeId}{o:Bool}(hg:h.bl.get x=some (aa v t o))(ht:t=155\/t=288)(ob:bD):iJ ⟨h.nx,h.bl.aV x ob,h.lo⟩ z kb c:=by
 obtain⟨vn,vg,g1,g2,g3⟩:=s.g;have up:∀{b:Nat}{w:List Value}{t':TypeId}{o':Bool},h.bl.get b=some (aa w t' o')->t≠t'->(h.bl.aV x ob).get b=h.bl.get b:=λhb hn=>T.aj _ _ (de hg hb hn);have n1:t≠224:=by rcases ht with rfl|rfl<;>decide
 have n2:t≠160:=by rcases ht with rfl|rfl<;>decide
 have n3:t≠46:=by rcases ht with rfl|rfl<;>decide
 exact⟨s.lt,⟨vn,vg,(up g1 n1).trans g1,g2.keep (Nat.le_refl _) rfl λc vs hc hg=>up hg n2,g3.keep (Nat.le_refl _) rfl λc vs hc hg=>up hg n3⟩,s.Im⟩
theorem iJ.mk'(hl:kb<h.nx/\h.lo<=kb){vs:List Value}{o:Bool}(g1:h.bl.get kb=some (aa vs 224 o)){c':CD}{vn vg:Value}(h1:fS mZ 160 h vn c'.fc)(h2:fR cI 4 46 h vg c'.goes)(h3:dJ c'.Im=true):iJ ⟨h.nx,h.bl.aV kb (dx z c' vn vg),h.lo⟩ z kb c':=by
 have up:∀{b:Nat}{w:List Value}{t':TypeId}{o':Bool},h.bl.get b=some (aa w t' o')->224≠t'->(h.bl.aV kb (dx z c' vn vg)).get b=h.bl.get b:=λhb hn=>T.aj _ _ (de g1 hb hn);exact⟨hl,⟨vn,vg,T.ah _ _ _,h1.keep (Nat.le_refl _) rfl λc vs hc hg=>up hg (by decide),h2.keep (Nat.le_refl _) rfl λc vs hc hg=>up hg (by decide)⟩,h3⟩
theorem iJ.set(s:iJ h z kb c){c':CD}{vn vg:Value}(h1:fS mZ 160 h vn c'.fc)(h2:fR cI 4 46 h vg c'.goes)(h3:dJ c'.Im=true):iJ ⟨h.nx,h.bl.aV kb (dx z c' vn vg),h.lo⟩ z kb c':=by
 obtain⟨vn0,vg0,g1,_,_⟩:=s.g;exact .mk' s.lt g1 h1 h2 h3
end
theorem ai5(h:Heap)(b o:Nat):lT prog h 100 152 (.pointer (some ⟨b,o,none⟩)) (.pointer none)=some false:=by kernel_rfl
theorem YB(h:Heap)(b o:Nat):lT prog h 100 225 (.pointer (some ⟨b,o,none⟩)) (.pointer none)=some false:=by kernel_rfl
theorem rq{β:Type}{fl:β}(cn:Bool)(b o:Nat)(h:Heap)(V:Z7 β):ay fl prog .eql 152 cn false (.pointer (some ⟨b,o,none⟩)) (.pointer none) h V=V (.bool false) h:=by simp only[ay,ai5,bK]
theorem S1{β:Type}{fl:β}(cn:Bool)(b o:Nat)(h:Heap)(V:Z7 β):ay fl prog .neq 152 cn false (.pointer (some ⟨b,o,none⟩)) (.pointer none) h V=V (.bool true) h:=by simp only[ay,ai5,bK,Bool.not_false]
theorem S2{β:Type}{fl:β}(cn:Bool)(b o:Nat)(h:Heap)(V:Z7 β):ay fl prog .eql 225 cn false (.pointer (some ⟨b,o,none⟩)) (.pointer none) h V=V (.bool false) h:=by simp only[ay,YB,bK]
theorem S3{β:Type}{fl:β}(cn:Bool)(b o:Nat)(h:Heap)(V:Z7 β):ay fl prog .neq 225 cn false (.pointer (some ⟨b,o,none⟩)) (.pointer none) h V=V (.bool true) h:=by simp only[ay,YB,bK,Bool.not_false]
def wK(t r m:Int):Bool:=(decide (bf t r=0) || decide (bf t r=1)) && (decide (m=1) || decide (m=2) || decide (m=3))
theorem Bb(t r m:Int){h:Heap}{V:KQ}(hk:V (.bool (wK t r m)) h):CallW prog 275 [cV t r,.int .i64 m] h V:=by
 refine jD (v:=.bool (wK t r m)) rfl rfl (av mixed ?_) hk;rw[abj];simp(disch:=try exact Y)only[Wz,cV];refine lR t r ?_;have:(m=1\/m=2\/m=3)\/(m<1\/3<m):=by omega
 rcases pF t r with h1|h1|h1|h1<;>rcases this with(h2|h2|h2)|(h2|h2)<;>simp(disch:=try exact Y)only[Wz,h1,h2]<;>simp[wK,h1,h2]<;>omega
section
variable {h:Heap}{z:AA}{D:AD}{cp:Option Nat}
theorem Mt(s:jd h z D cp)(hlen:D.aX.length<=100000)(hlo:h.lo<=h.nx)(V:KQ)(hk:∀v' h',DX h h' v' D.aX->Le h h'->V v' h'):CallW prog 77 [pt z.pb] h V:=by
 have gp:=s.gp;obtain⟨vp,gl,sl⟩:=s.gl;refine av mixed ?_;rw[agK];simp(disch:=try exact Y)only[Wz,rq,aG,gp];refine av mixed ?_;rw[aad];simp(disch:=try exact Y)only[Wz,S2,aG,gl];refine jR (enc:=cI) (a:=h) (L:=[]) (M:=D.aX) cW q_ (by omega) (by omega) (.inl ⟨rfl,.inl rfl⟩) sl.1 (Le.refl h) (by simp;omega) hlo _ ?_;intro v' h' ho hl _ _;exact hk v' h' (by simpa using ho) hl
theorem adR(s:jd h z D cp)(V:KQ)(hk:V (.int .i64 (-1-z.th)) h):CallW prog 187 [pt z.pb] h V:=by
 have gp:=s.gp;refine av mixed ?_;rw[aaG];simp(disch:=try exact Y)only[Wz,rq,aG,gp];exact hk
theorem Mu(s:jd h z D cp)(hlen:D.aX.length<=100000)(hm:0<=z.most/\z.most<=8)(V:KQ)(hk:V (.int .i64 (z.most-D.aX.length)) h):CallW prog 276 [pt z.pb] h V:=by
 have gp:=s.gp;obtain⟨vp,gl,sl⟩:=s.gl;have hlen':=λ(β:Type)(fl:β) V h'=>sl.1.len (β:=β) (fl:=fl) V h';refine av mixed ?_;rw[abk];simp(disch:=try exact Y)only[Wz,rq,Gr,aG,gp,gl,hlen'];exact hk
theorem S4(s:jd h z D cp)(hlen:D.aX.length<=100000)(hlo:h.lo<=h.nx)(t r:Int)(V:KQ)(hk:∀h',Le h h'->V (.bool (decide (aO D.aX t r≠0))) h'):CallW prog 269 [pt z.pb,cV t r] h V:=by
 have gp:=s.gp;have q1:=s.Sn;have q2:=s.Mo;obtain⟨vp,gl,sl⟩:=s.gl;refine av mixed ?_;rw[abd];simp(disch:=try exact Y)only[Wz,cV,S1,aG,gp];have hle:=(Le.refl h).new (aa [.int .i64 t,.int .i64 r] 28 false);refine av mixed ?_;rw[abD];simp(disch:=try exact Y)only[Wz,cV,S3,aG,gl];have hle2:=hle.new (aa [.int .i64 t,.int .i64 r] 28 false);refine mR D.aX t r _ vp _ (sl.1.le hle2) (by omega) (by show h.lo<=h.nx+1+1;omega) ?_;intro h' hl;have hk:=hk h' (hle2.trans hl);by_cases h0:aO D.aX t r=0
 .rw[aZ (λh=>h h0)]at hk;simp(disch:=try exact Y)only[Wz,br h0];exact hk
 .rw[br h0]at hk;simp(disch:=try exact Y)only[Wz,aZ h0];exact hk
def D6(most x:Int)(L:List L4)(t r m:Int):List L4:=
 if wK t r m=false then L else if aO L t r≠0 then L else if most-L.length=0 then L else cM L ⟨x,t,r,m⟩
theorem adS(s:jd h z D cp)(hlen:D.aX.length<=100000)(hlo:h.lo<=h.nx)(hm:0<=z.most/\z.most<=8)(t r m:Int)(V:KQ)(hk:∀u h1 h',Le h h1->(h'=h1\/∃vp,h'=⟨h1.nx,h1.bl.aV z.lb (aa [vp] 288 false),h1.lo⟩)->jd h' z { D with aX:=D6 z.most (-1-z.th) D.aX t r m } cp->V u h'):CallW prog 270 [pt z.pb,cV t r,.int .i64 m] h V:=by
 refine av mixed ?_;rw[abe];simp(disch:=try exact Y)only[Wz,cV,rq];refine Bb t r m ?_;obtain⟨hA,aT,aL,gA,dy,dz⟩:=kf h (aa [.int .i64 t,.int .i64 r] 28 false);rw[<-aT]
 try rw[show(h.bl.aV (h.nx) (aa [.int .i64 t,.int .i64 r] 28 false))=hA.bl by rw[aT]]
 clear aT;have sA:=s.le aL;have same:∀(P:List L4),P=D.aX->({ D with aX:=P }:AD)=D:=λP e=>by subst e;rfl
 cases he:wK t r m with
 |false=>
  simp(disch:=try exact Y)only[Wz];exact hk _ hA _ aL (.inl rfl) (by rw[same _ (by unfold D6;rw[if_pos he])];exact sA)
 |true=>
  simp(disch:=try exact Y)only[Wz,Gq,gA];refine S4 sA hlen (by omega) t r _ ?_;intro h2 hle2;have An:=hle2.nx;have Ao:=hle2.lo;have gA:=hle2.up gA;have s2:=sA.le hle2;by_cases hmo:aO D.aX t r=0
  .simp(disch:=try exact Y)only[Wz,aZ (not_not_intro hmo)];refine Mu s2 hlen hm _ ?_;by_cases hr:z.most-D.aX.length=0
   .simp(disch:=try exact Y)only[Wz,br hr];exact hk _ h2 _ (aL.trans hle2) (.inl rfl) (by rw[same _ (by unfold D6;rw[if_neg (by rw[he];decide),if_neg (λh=>h hmo),if_pos hr])];exact s2)
   ·simp(disch:=try exact Y)only[Wz,aZ hr];have gp:=s2.gp;have q2:=s2.Mo;obtain⟨vp,gl,sl⟩:=s2.gl;simp(disch:=try exact Y)only[Wz,Gp,aG,gp,gl,gA];refine SV D.aX ⟨-1-z.th,t,r,m⟩ h2 vp _ sl.1 hlen (by omega) ?_;intro v' h3 TY bX;have s3:=s2.le bX;have gp3:=s3.gp;have q3:=s3.Mo;obtain⟨vp3,T7,sl3⟩:=s3.gl;obtain⟨x',c',e'⟩:=TY.cell;subst e';simp(disch:=try exact Y)only[Wz,aG,gp3,T7];exact hk _ h3 _ (aL.trans (hle2.trans bX)) (.inr ⟨_,rfl⟩) (by
     have:=s3.aoV TY;unfold D6;rw[if_neg (by rw[he];decide),if_neg (λh=>h hmo),if_neg hr];exact this)
  .simp(disch:=try exact Y)only[Wz,br hmo];exact hk _ h2 _ (aL.trans hle2) (.inl rfl) (by rw[same _ (by unfold D6;rw[if_neg (by rw[he];decide),if_pos hmo])];exact s2)
theorem S5(s:jd h z D cp)(hlen:D.aX.length<=100000)(hlo:h.lo<=h.nx)(t r:Int)(h0:aO D.aX t r=0)(V:KQ)(hk:∀h',Le h h'->V (.tuple ⟨[.int .i64 0,.bool false]⟩) h'):CallW prog 190 [pt z.pb,cV t r] h V:=by
 refine av mixed ?_;rw[aaI];simp(disch:=try exact Y)only[Wz,cV,rq];obtain⟨hA,aT,aL,gA,dy,dz⟩:=kf h (aa [.int .i64 t,.int .i64 r] 28 false);rw[<-aT]
 try rw[show(h.bl.aV (h.nx) (aa [.int .i64 t,.int .i64 r] 28 false))=hA.bl by rw[aT]]
 clear aT;refine S4 (s.le aL) hlen (by omega) t r _ ?_;intro h2 hle2;rw[aZ (λh=>h h0)];simp(disch:=try exact Y)only[Wz];exact hk h2 (aL.trans hle2)
end
structure EN where
 A:WA
 a:TA
 z:AA
structure AW(h:Heap)(E:EN)(H X:Int->Int->Int)(N n:Nat)(y:iz)(out:Int)(D:AD)(kb:Nat)(c:CD):Prop where
 w:WI h E.A E.a H X N n y out
 g:jd h E.z D (some kb)
 c:iJ h E.z kb c
 wb:E.z.wb=E.A.wb
 th:E.z.th=0
section
variable {h h':Heap}{E:EN}{H X:Int->Int->Int}{N n:Nat}{y:iz}{out:Int}{D:AD}{kb:Nat}{c:CD}
theorem AW.le(s:AW h E H X N n y out D kb c)(l:Le h h'):AW h' E H X N n y out D kb c:=⟨s.w.le l,s.g.le l,s.c.le l,s.wb,s.th⟩
theorem AW.lo(s:AW h E H X N n y out D kb c):h.lo<=h.nx:=s.w.lo
theorem AW.wk(s:AW h E H X N n y out D kb c){H' X':Int->Int->Int}{N' n':Nat}{y':iz}{out':Int}(w:WI h' E.A E.a H' X' N' n' y' out')(k:WK E.a h h'):AW h' E H' X' N' n' y' out' D kb c:=⟨w,s.g.ka k.ka,s.c.ka k.ka,s.wb,s.th⟩
theorem AW.rest(s:AW h E H X N 0 y out D kb c)(y':iz)(out':Int):AW h E H X N 0 y' out' D kb c:=⟨s.w.rest y' out',s.g,s.c,s.wb,s.th⟩
theorem AW.ag(s:AW h E H X N n y out D kb c):∃va vh,h.bl.get E.z.ab=some (aa [pt E.A.wb,.int .i64 0,.int .i64 D.l_,va,vh,pt E.z.pb,pt kb] 155 false)/\jt h va D.asked/\jt h vh D.has:=by
 obtain⟨va,vh,g1,g2,g3⟩:=s.g.ga;rw[s.wb,s.th]at g1;exact⟨va,vh,g1,g2,g3⟩
theorem AW.Io(s:AW h E H X N n y out D kb c){c':CD}{vn vg:Value}(h1:fS mZ 160 h vn c'.fc)(h2:fR cI 4 46 h vg c'.goes)(h3:dJ c'.Im=true):AW ⟨h.nx,h.bl.aV kb (dx E.z c' vn vg),h.lo⟩ E H X N n y out D kb c'/\FK E.a h ⟨h.nx,h.bl.aV kb (dx E.z c' vn vg),h.lo⟩:=by
 obtain⟨vn0,vg0,g1,_,_⟩:=s.c.g;exact⟨⟨s.w.put g1 (by unfold lZ;decide) (by unfold jO;decide) _,s.g.put g1 (.inl rfl) _,s.c.set h1 h2 h3,s.wb,s.th⟩,FK.put g1 (.inr (.inl rfl)) _⟩
theorem AW.Ww(s:AW h E H X N n y out D kb c){D':AD}{va vh:Value}(h1:jt h va D'.asked)(h2:jt h vh D'.has)(h3:D'.aX=D.aX):AW ⟨h.nx,h.bl.aV E.z.ab (aa [pt E.A.wb,.int .i64 0,.int .i64 D'.l_,va,vh,pt E.z.pb,pt kb] 155 false),h.lo⟩ E H X N n y out D' kb c/\FK E.a h ⟨h.nx,h.bl.aV E.z.ab (aa [pt E.A.wb,.int .i64 0,.int .i64 D'.l_,va,vh,pt E.z.pb,pt kb] 155 false),h.lo⟩:=by
 obtain⟨va0,vh0,g1,_,_⟩:=s.g.ga;have q:=s.g.set (cp':=some kb) h1 h2 h3;have hp:=λob=>s.w.put g1 (by unfold lZ;decide) (by unfold jO;decide) ob;have cp:=λob=>s.c.put g1 (.inl rfl) ob;have fp:=λob=>FK.put (a:=E.a) g1 (.inl rfl) ob;unfold agO at q;rw[s.wb,s.th]at q;exact⟨⟨hp _,q,cp _,s.wb,s.th⟩,fp _⟩
theorem Ip(s:AW h E H X N 0 y out D kb c)(hN:N<=900)(x:iz)(hm:oc x=true)(o:Int)(V:KQ)(hk:∀h',AW h' E H X (N+1) 3 x o D kb { c with ask:=x }->FK E.a h h'->V (.tuple ⟨[]⟩) h'):CallW prog 186 [pt E.z.ab,.agg ⟨DY x⟩] h V:=by
 have hlo:=s.lo;refine av mixed ?_;rw[aaF];simp(disch:=try exact Y)only[Wz,DY];obtain⟨hA,aT,aL,g1,dy,dz⟩:=kf h (aa [.int .i64 x.k,.int .i64 x.x,.int .i64 x.t,.int .i64 x.r,.int .i64 x.m,.int .i64 x.w,.int .i64 x.to] 31 false);rw[<-aT]
 try rw[show(h.bl.aV (h.nx) (aa [.int .i64 x.k,.int .i64 x.x,.int .i64 x.t,.int .i64 x.r,.int .i64 x.m,.int .i64 x.w,.int .i64 x.to] 31 false))=hA.bl by rw[aT]]
 clear aT;have sA:=s.le aL;obtain⟨va,vh,ga,_,_⟩:=sA.ag;obtain⟨vn,vg,gk,p1,p2⟩:=sA.c.g;have hlt:=sA.c.lt;have rM:=sA.g.D5;have hne:kb≠E.z.ab:=de gk ga (by decide);obtain⟨s2,f2⟩:=sA.Io (c':={ c with ask:=x }) p1 p2 sA.c.Im;have hkh:kb≠h.nx:=de gk g1 (by decide);unfold dx at gk s2 f2;simp(disch:=try exact Y)only[Wz,aG,ga,gk,g1];refine Ou s2.w hN x hm o _ ?_;intro h3 w3 k3;exact hk h3 (s2.wk w3 k3) (((FK.le aL).trans f2).trans k3.fk)
theorem J6(s:AW h E H X N n y out D kb c)(t r had:Int)(h0:had≠0\/D.aX=[])(hlen:D.has.length<=100000)(V:KQ)(hk:∀h',Le h h'->V (.tuple ⟨[.int .i64 0,.bool false]⟩) h'):CallW prog 185 [pt E.z.ab,cV t r,.int .i64 had] h V:=by
 have hlo:=s.lo;refine av mixed ?_;rw[aaE];simp(disch:=try exact Y)only[Wz,cV];obtain⟨hA,aT,aL,g1,dy,dz⟩:=kf h (aa [.int .i64 t,.int .i64 r] 28 false);rw[<-aT]
 try rw[show(h.bl.aV (h.nx) (aa [.int .i64 t,.int .i64 r] 28 false))=hA.bl by rw[aT]]
 clear aT;by_cases hh:had=0
 .have hp:D.aX=[]:=h0.resolve_left λe=>e hh;have sA:=s.le aL;obtain⟨va,vh,ga,_,shA⟩:=sA.ag;simp(disch:=try exact Y)only[Wz,aZ (show ¬¬had=0 by omega),FX,aG,ga,g1];refine Mt sA.g (by rw[hp];exact Nat.zero_le _) (by omega) _ ?_;intro v2 h2 ny bt;have n2:=bt.nx;have l2:=bt.lo;have g2:=bt.up g1;simp(disch:=try exact Y)only[Wz,g2];refine mR D.aX t r h2 v2 _ ny.sl (by rw[hp];exact Nat.zero_le _) (by omega) ?_;intro h3 dg;have n3:=dg.nx;have l3:=dg.lo;have g3:=dg.up g2;refine H_ _ ?_;simp(disch:=try exact Y)only[Wz,g3];refine SN t r h3 _ (by omega) ?_;intro u h4 hu _ iS;have n4:=iS.nx;have l4:=iS.lo;have hal:=yq t r;have WB:=aL.trans (bt.trans (dg.trans iS));simp(disch:=try exact Y)only[Wz,hu.len];refine⟨λn l h5=>Le h4 h5/\∃k:Nat,slot l 22=.int .i64 (k:Int)/\k<=(nP t r).length/\n=(nP t r).length-k,⟨_,Le.refl _,0,rfl,Nat.zero_le _,rfl⟩,?_⟩;rintro n l h5 ⟨vw,k,e1,DQ,rfl⟩;have n5:=vw.nx;have l5:=vw.lo;have s5:=s.le (WB.trans vw);obtain⟨va5,vh5,ga5,_,sh5⟩:=s5.ag;by_cases hlt:k<(nP t r).length
  .obtain⟨p,hp5⟩:∃p,(nP t r)[k]? = some p:=⟨_,List.getElem?_eq_getElem hlt⟩
   obtain⟨b,o,hb,qm,oP⟩:=ldN (hu.le vw) k hp5;simp(disch:=try exact Y)only[Wz,e1,FV,qm,oP,iI];obtain⟨hB,gI,bV,g6,BN,BO⟩:=kf h5 (aa [.int .i64 p.1,.int .i64 p.2] 28 false);rw[<-gI]
   try rw[show(h5.bl.aV (h5.nx) (aa [.int .i64 p.1,.int .i64 p.2] 28 false))=hB.bl by rw[gI]]
   clear gI;have gaB:=(bV.get _ s5.g.D5.1).trans ga5;simp(disch:=try exact Y)only[Wz,aG,gaB,g6];refine mR D.has p.1 p.2 hB vh5 _ (sh5.1.le bV) (by omega) (by omega) ?_;intro h7 T8;have adT:=vw.trans (bV.trans T8);by_cases hm:aO D.has p.1 p.2=0
   .simp(disch:=try exact Y)only[Wz,br hm];exact hk h7 (WB.trans adT)
   .simp(disch:=try exact Y)only[Wz,aZ hm];refine oS _ _ ?_;cases hc:lN (aO D.has p.1 p.2) (oe (aO D.aX t r))with
    |false=>
     simp(disch:=try exact Y)only[Wz];exact hk h7 (WB.trans adT)
    |true=>
     simp(disch:=try exact Y)only[Wz,e1];exact⟨_,by omega,adT,k+1,rfl,by omega,rfl⟩
  .have g5:=vw.up (iS.up g3);simp(disch:=try exact Y)only[Wz,e1,FW,aG,ga5,g5];refine S5 s5.g (by rw[hp];exact Nat.zero_le _) (by omega) t r (by rw[hp];rfl) _ ?_;intro h6 Mb;simp(disch:=try exact Y)only[Wz];exact hk h6 ((WB.trans vw).trans Mb)
 .simp(disch:=try exact Y)only[Wz,aZ hh];exact hk hA aL
def z3:List Value:=[.int .i64 0,.int .i64 0,.int .i64 0]
theorem adU(a0 a1:Value)(h:Heap)(V:KQ):aM prog 263 [a0,a1] h V=ew prog 3 3 a0 a1 h V:=by kernel_rfl
theorem adV(a0 a1:Value)(h:Heap)(V:KQ):aM prog 183 [a0,a1] h V=ej prog 3 263 160 3 z3 a0 a1 h V:=by kernel_rfl
def mT(L:List L4)(p:N3):Bool:=decide (aO L p.1 p.2.1≠0) && lN (aO L p.1 p.2.1) p.2.2
theorem WC(p:N3)(L:List L4)(b1 ab:Nat)(h:Heap)(va vh w0 w1 w2 w5 w6:Value)(V:KQ)(hlo:h.lo<=h.nx)(g1:h.bl.get b1=some (aa [pt ab] 60 false))(hb1:b1<h.nx)(ga:h.bl.get ab=some (aa [w0,w1,w2,va,vh,w5,w6] 155 false))(hab:ab<h.nx)(hv:Sl cI h vh L)(hlen:L.length<=100000)(hk:∀h',Le h h'->V (.bool (mT L p)) h'):CallW prog 184 [Dt mZ p,ptrTo b1] h V:=by
 refine av mixed ?_;rw[aaC];simp(disch:=try exact Y)only[Wz,Dt,mZ];obtain⟨hA,aT,aL,gA,dy,dz⟩:=kf h (aa [.int .i64 p.1,.int .i64 p.2.1,.int .i64 p.2.2] 160 false);rw[<-aT]
 try rw[show(h.bl.aV (h.nx) (aa [.int .i64 p.1,.int .i64 p.2.1,.int .i64 p.2.2] 160 false))=hA.bl by rw[aT]]
 clear aT;have TO:=(aL.get _ hb1).trans g1;have ga':=(aL.get _ hab).trans ga;simp(disch:=try exact Y)only[Wz,aG,g1,ga,TO,ga',gA];refine mR L p.1 p.2.1 hA vh _ (hv.le aL) (by omega) (by omega) ?_;intro h2 bt;have o5:=bt.nx;have o_:=bt.lo;have gA:=bt.up gA;have hk:=hk h2 (aL.trans bt);unfold mT at hk;by_cases hm:aO L p.1 p.2.1=0
 .rw[aZ (λh=>h hm)]at hk;simp(disch:=try exact Y)only[Wz,br hm];exact hk
 .rw[br hm,Bool.true_and]at hk;simp(disch:=try exact Y)only[Wz,aZ hm,gA];refine oS _ _ ?_;exact hk
end
def qg(D:AD)(c:CD)(p:N3):iz:=⟨1,D.l_,p.1,p.2.1,bN (aO D.has p.1 p.2.1) p.2.2,c.w,0⟩
def dZ(L:List L4)(P:List N3):List N3:=P.filter λp=>!mT L p
theorem wL(L:List L4)(P:List N3):(dZ L P).length<=P.length:=List.length_filter_le _ _
def rX(P:List N3):Prop:=∀p∈P,bf p.1 p.2.1≠-1/\kn p.2.2=true/\p.2.2≠0
section
variable {h h':Heap}{E:EN}{H X:Int->Int->Int}{N n:Nat}{y:iz}{out:Int}{D:AD}{kb:Nat}{c:CD}
theorem hdN{v:Value}{p:N3}{P:List N3}(s:fS mZ 160 h v (p::P)):∃b o,b<h.nx/\(∀(β:Type)(fl:β)(h':Heap)(V:Z7 β),aK fl 3 v (.int .i64 0) h' V=V (.pointer (some ⟨b,o,none⟩)) h')/\
  (∀(β:Type)(fl:β)(V:List Value->β),x9 fl (h.bl.get b) o 3 V=V (mZ p))/\(∀(β:Type)(fl:β)(V:List Value->β),x9 fl (h.bl.get b) o 2 V=V [.int .i64 p.1,.int .i64 p.2.1]):=by
 obtain⟨b,o,h1,h2,h3,hh⟩:=s.sl.ld pG 0 (p:=p) rfl;have hs:=hh.sub 0 2 (by show 0+2<=3;omega);rw[Nat.add_zero]at hs;exact⟨b,o,h1,h2,h3,λβ fl V=>pQ hs 2 V rfl⟩
theorem hdG{v:Value}{g:L4}{G:List L4}(s:fR cI 4 46 h v (g::G)):∃b o,b<h.nx/\(∀(β:Type)(fl:β)(h':Heap)(V:Z7 β),aK fl 4 v (.int .i64 0) h' V=V (.pointer (some ⟨b,o,none⟩)) h')/\
  (∀(β:Type)(fl:β)(V:List Value->β),x9 fl (h.bl.get b) o 4 V=V (cI g)):=by
 obtain⟨b,o,h1,h2,h3,_⟩:=(s.head cW).ld cW 0 (p:=g) rfl;exact⟨b,o,h1,h2,h3⟩
theorem upE{v:Value}{L:List N3}(p:fS mZ 160 h v L){b:Nat}{ws:List Value}{t:TypeId}{o:Bool}(ga:h.bl.get b=some (aa ws t o))(ht:t≠160)(ob:bD):fS mZ 160 ⟨h.nx,h.bl.aV b ob,h.lo⟩ v L:=
 p.keep (Nat.le_refl _) rfl λc vs hc hg=>T.aj _ _ (de ga hg ht)
theorem upX{v:Value}{L:List L4}(p:fR cI 4 46 h v L){b:Nat}{ws:List Value}{t:TypeId}{o:Bool}(ga:h.bl.get b=some (aa ws t o))(ht:t≠46)(ob:bD):fR cI 4 46 ⟨h.nx,h.bl.aV b ob,h.lo⟩ v L:=
 p.keep (Nat.le_refl _) rfl λc vs hc hg=>T.aj _ _ (de ga hg ht)
theorem jt.up{v:Value}{L:List L4}(s:jt h v L){b:Nat}{ws:List Value}{t:TypeId}{o:Bool}(ga:h.bl.get b=some (aa ws t o))(ht:t≠46)(ob:bD):jt ⟨h.nx,h.bl.aV b ob,h.lo⟩ v L:=
 s.keep (Nat.le_refl _) λc vs op hc hg=>T.aj _ _ (de ga hg ht)
theorem Ox(hw:0<=c.w){p:N3}(ok:bf p.1 p.2.1≠-1/\kn p.2.2=true/\p.2.2≠0)(hk:kn (aO D.has p.1 p.2.1)=true):oc (qg D c p)=true:=by
 obtain⟨o1,o2,o3⟩:=ok;obtain⟨m1,m2,_⟩:=ki hk o2 o3;unfold oc qg;simp only[o1,m1,m2,hw,if_pos,ne_eq,not_false_eq_true,decide_true,Bool.and_true]
theorem WD(s:AW h E H X N 0 y out D kb c)(l2:D.asked.length<=1000){b1:Nat}(hb1:b1<h.nx)(g1:h.bl.get b1=some (aa [pt E.z.ab] 60 false))(V:KQ)(nZ:∀h',AW h' E H X N 0 y out { D with asked:=cM D.asked ⟨D.l_,c.t,c.r,bN (aO D.asked c.t c.r) c.m⟩ } kb { c with code:=1 }->FK E.a h h'->V (.tuple ⟨[]⟩) h'):zF b1 (pt kb) h V:=by
 have hlo:=s.lo;obtain⟨va,vh,ga,sa,sh⟩:=s.ag;obtain⟨vn,vg,gk,p1,p2⟩:=s.c.g;have hlt:=s.c.lt;have rM:=s.g.D5;have gk0:=gk;unfold dx at gk;unfold zF;simp(disch:=try exact Y)only[Wz,aG,g1,ga,gk];obtain⟨hA,aT,aL,gA,dy,dz⟩:=kf h (aa [.int .i64 0,.int .i64 0,.int .i64 0,.int .i64 0] 46 false);rw[<-aT]
 try rw[show(h.bl.aV (h.nx) (aa [.int .i64 0,.int .i64 0,.int .i64 0,.int .i64 0] 46 false))=hA.bl by rw[aT]]
 clear aT;have WE:=(aL.get _ hb1).trans g1;have Eh:=(aL.get _ rM.1).trans ga;have Iq:=(aL.get _ hlt.1).trans gk;refine mR D.asked c.t c.r hA va _ (sa.1.le aL) (by omega) (by omega) ?_;intro h2 bt;have n2:=bt.nx;have YC:=bt.lo;have g12:=bt.up WE;have WG:=bt.up Eh;have WH:=bt.up Iq;have gA2:=bt.up gA;simp(disch:=try exact Y)only[Wz,aG,g12,WG,WH,gA2];refine xu _ _ ?_;simp(disch:=try exact Y)only[Wz,aG,g12,WG,WH,gA2];have Ma:=(aL.trans bt).set (Nat.le_refl h.nx) (aa [.int .i64 D.l_,.int .i64 c.t,.int .i64 c.r,.int .i64 (bN (aO D.asked c.t c.r) c.m)] 46 false);refine SV D.asked ⟨D.l_,c.t,c.r,bN (aO D.asked c.t c.r) c.m⟩ _ va _ (sa.1.le Ma) (by omega) (by show h2.lo<=h2.nx;omega) ?_;intro v' h3 TY dg;have iS:=Ma.trans dg;have s4:=s.le iS;have lo4:=iS.lo;have n4:=iS.nx;obtain⟨x',c',rfl⟩:=TY.cell;have g14:=(iS.get _ hb1).trans g1;have ga4:=(iS.get _ rM.1).trans ga;have gk4:=(iS.get _ hlt.1).trans gk;have hkb:E.z.ab≠kb:=de ga gk (by decide);simp(disch:=try exact Y)only[Wz,aG,g14,ga4,gk4];have q:=s4.Ww (D':={ D with asked:=cM D.asked ⟨D.l_,c.t,c.r,bN (aO D.asked c.t c.r) c.m⟩ }) TY (sh.le iS) rfl;have q2:=q.1.Io (c':={ c with code:=1 }) (upE (p1.le iS) ga4 (by decide) _) (upX (p2.le iS) ga4 (by decide) _) s.c.Im;unfold dx at q2;exact nZ _ q2.1 ((FK.le iS).trans (q.2.trans q2.2))
theorem WJ(s:AW h E H X N 0 y out D kb c)(hN:N<=900)(hp:D.aX=[])(l1:D.has.length<=1000)(hw:0<=c.w){p:N3}{P:List N3}(hc:c.fc=p::P)(ok:bf p.1 p.2.1≠-1/\kn p.2.2=true/\p.2.2≠0)(RH:∀t r,kn (aO D.has t r)=true)(o:Int){b1:Nat}(hb1:b1<h.nx)(g1:h.bl.get b1=some (aa [pt E.z.ab] 60 false))(V:KQ)(dB:∀h',AW h' E H X (N+1) 3 (qg D c p) o D kb { c with ask:=qg D c p }->FK E.a h h'->V (.tuple ⟨[]⟩) h'):zG (pt kb) b1 h V:=by
 have hlo:=s.lo;obtain⟨va,vh,ga,sa,sh⟩:=s.ag;obtain⟨vn,vg,gk,p1,p2⟩:=s.c.g;have hlt:=s.c.lt;have rM:=s.g.D5;rw[hc]at p1;obtain⟨b0,o0,hb0,hx0,I1,_⟩:=hdN p1;have gk0:=gk;unfold dx at gk;unfold zG;simp(disch:=try exact Y)only[Wz,aG,gk,hx0,I1,mZ,g1,ga];obtain⟨hA,aT,aL,gA,dy,dz⟩:=kf h (aa [.int .i64 p.1,.int .i64 p.2.1,.int .i64 p.2.2] 160 false);rw[<-aT]
 try rw[show(h.bl.aV (h.nx) (aa [.int .i64 p.1,.int .i64 p.2.1,.int .i64 p.2.2] 160 false))=hA.bl by rw[aT]]
 clear aT;have WE:=(aL.get _ hb1).trans g1;have Eh:=(aL.get _ rM.1).trans ga;have Iq:=(aL.get _ hlt.1).trans gk;refine mR D.has p.1 p.2.1 hA vh _ (sh.1.le aL) (by omega) (by omega) ?_;intro h2 bt;have o5:=bt.nx;have o_:=bt.lo;have WE:=bt.up WE;have Eh:=bt.up Eh;have Iq:=bt.up Iq;have gA:=bt.up gA;simp(disch:=try exact Y)only[Wz,aG,WE,gA];refine J6 (s.le (aL.trans bt)) p.1 p.2.1 (aO D.has p.1 p.2.1) (.inr hp) (by omega) _ ?_;intro h3 dg;have aqZ:=dg.nx;have aq0:=dg.lo;have WE:=dg.up WE;have Eh:=dg.up Eh;have Iq:=dg.up Iq;have gA:=dg.up gA;have RF:=(aL.trans bt).trans dg;simp(disch:=try exact Y)only[Wz,FE,aG,WE,Eh,Iq,gA];refine xu _ _ ?_;simp(disch:=try exact Y)only[Wz,aG,WE,Eh,Iq,gA];refine Ip (s.le RF) hN (qg D c p) (Ox hw ok (RH _ _)) o _ ?_;intro h4 s4 f4;exact dB h4 s4 ((FK.le RF).trans f4)
theorem Mv(s:AW h E H X N 0 y out D kb c)(hN:N<=900)(hp:D.aX=[])(l1:D.has.length<=1000)(l2:D.asked.length<=1000)(l3:c.fc.length<=100)(hw:0<=c.w)(hm:kn c.m=true)(ok:rX c.fc)(RH:∀t r,kn (aO D.has t r)=true)(o:Int)(V:KQ)(nZ:dZ D.has c.fc=[]->∀h',AW h' E H X N 0 y out { D with asked:=cM D.asked ⟨D.l_,c.t,c.r,bN (aO D.asked c.t c.r) c.m⟩ } kb { c with fc:=[],code:=1 }->FK E.a h h'->V (.tuple ⟨[]⟩) h')(dB:∀p P,dZ D.has c.fc=p::P->∀h',AW h' E H X (N+1) 3 (qg D c p) o D kb { c with fc:=p::P,ask:=qg D c p }->FK E.a h h'->V (.tuple ⟨[]⟩) h'):CallW prog 131 [pt E.z.ab] h V:=by
 have hlo:=s.lo;refine av mixed ?_;rw[Z9];simp(disch:=try exact Y)only[Wz];obtain⟨hA,aT,aL,g1,dy,dz⟩:=kf h (aa [pt E.z.ab] 60 false);rw[<-aT]
 try rw[show(h.bl.aV (h.nx) (aa [pt E.z.ab] 60 false))=hA.bl by rw[aT]]
 clear aT;have sA:=s.le aL;obtain⟨va,vh,ga,sa,sh⟩:=sA.ag;obtain⟨vn,vg,gk,p1,p2⟩:=sA.c.g;have hlt:=sA.c.lt;have rM:=sA.g.D5;unfold dx at gk;simp(disch:=try exact Y)only[Wz,aG,g1,ga,gk];refine Fi mixed pG rj (by decide) (za:=(0,0,0)) rfl (by decide) adU adV hA c.fc (mT D.has) vn _ _ p1 (by omega) (by omega) ?_ ?_
 .intro p h1 κ1 lv dB;have n1:=lv.nx;have YD:=lv.lo;have kt:=ktV lv p1;simp(disch:=try exact Y)only[Wz,List.nil_append];exact WC p D.has h.nx E.z.ab h1 _ _ _ _ _ _ _ κ1 (by omega) ((kt.ty _ _ _ _ (by omega) g1 (by decide)).trans g1) (by omega) ((kt.ty _ _ _ _ rM.1 ga (by decide)).trans ga) (by omega) (sh.ka (kt.mono λt ht=>by rintro rfl;revert ht;unfold Ow;decide)).1 (by omega) dB
 ·intro v' h1 pe lv shp;have n1:=lv.nx;have YD:=lv.lo;have kt:=ktV lv p1;have w1:WI h1 E.A E.a H X N 0 y out:=by
   refine sA.w.leV lv (λd hd=>?_) (λd d' hd hd'=>?_) (λd hd=>?_)
   .obtain⟨q1,vs,q2⟩:=p1.blk hd;exact⟨q1,vs,true,q2⟩
   .obtain⟨o1,n1,c1,e1⟩:=hd;obtain⟨o2,n2,c2,e2⟩:=hd';rw[e1]at e2;cases e2;rfl
   .rcases shp with e|⟨b,m,m',e1,e2⟩
    .rw[e]at pe;exact⟨_,(pe.blk hd).2.choose_spec⟩
    .obtain⟨o1,n1,c1,e3⟩:=hd;rw[e1]at e3;cases e3;exact⟨_,(pe.blk ⟨0,m',aS,e2⟩).2.choose_spec⟩
  have f1:FK E.a hA h1:=FK.leV lv λd hd=>by
   obtain⟨_,vs,q2⟩:=p1.blk hd;exact⟨vs,true,q2⟩
  have a1:=sA.g.kt (kt.mono λt ht=>by rintro rfl;revert ht;unfold Ow;decide);have Ub:=(kt.ty _ _ _ _ hlt.1 gk (by decide)).trans gk;have WL:=(kt.ty _ _ _ _ rM.1 ga (by decide)).trans ga;have g11:=(kt.ty _ _ _ _ (by omega) g1 (by decide)).trans g1;have p21:fR cI 4 46 h1 vg c.goes:=p2.keep n1 YD λd vs hd hg=>kt.ty d vs _ _ hd hg (by decide);have kl1:kb<h1.nx/\h1.lo<=kb:=⟨by omega,by omega⟩
  have hkb:kb≠h.nx:=de gk g1 (by decide);have hab:E.z.ab≠kb:=λe=>de gk ga (by decide) e.symm;have e7:(dZ D.has c.fc).length<=100:=by have:=wL D.has c.fc;omega
  have s2:AW ⟨h1.nx,h1.bl.aV kb (dx E.z { c with fc:=dZ D.has c.fc } v' vg),h1.lo⟩ E H X N 0 y out D kb { c with fc:=dZ D.has c.fc }:=
   ⟨w1.put Ub (by unfold lZ;decide) (by unfold jO;decide) _,a1.put Ub (.inl rfl) _,.mk' kl1 Ub pe p21 s.c.Im,s.wb,s.th⟩
  have f2:=(((FK.le aL).trans f1).trans (FK.put (a:=E.a) Ub (.inr (.inl rfl)) (dx E.z { c with fc:=dZ D.has c.fc } v' vg)))
  obtain⟨x',c',e'⟩:=pe.cell;have e9:(List.filter (λp=>!mT D.has p) c.fc)=dZ D.has c.fc:=rfl;rw[e9]at e' pe;subst e';unfold dx at s2 f2;cases hL:dZ D.has c.fc with
  |nil=>
   rw[hL]at s2 f2;simp(disch:=try exact Y)only[Wz,aG,Ub,hL,List.length_nil];refine WD s2 l2 (by show h.nx<h1.nx;omega) ((T.aj _ _ hkb).trans g11) _ ?_;intro h3 s3 f3;exact nZ hL h3 s3 (f2.trans f3)
  |cons p P=>
   rw[hL]at s2 f2;have okp:=ok p (by
    have:p∈dZ D.has c.fc:=by rw[hL];exact .head _
    exact(List.mem_filter.1 this).1)
   simp(disch:=try exact Y)only[Wz,aG,Ub,hL,List.length_cons];refine WJ s2 hN hp l1 hw rfl okp RH o (by show h.nx<h1.nx;omega) ((T.aj _ _ hkb).trans g11) _ ?_;intro h3 s3 f3;exact dB p P hL h3 s3 (f2.trans f3)
end
section
variable {h h':Heap}{E:EN}{H X:Int->Int->Int}{N n:Nat}{y:iz}{out:Int}{D:AD}{kb:Nat}{c:CD}
theorem Oy(s:AW h E H X N 0 y out D kb c){p:N3}{P:List N3}(hc:c.fc=p::P)(h3:c.ask.k=1)(l1:D.has.length<=1000)(code:Int)(V:KQ)(hkF:code≠1->∀h',AW h' E H X N 0 y out D kb { c with code:=code }->FK E.a h h'->V (.tuple ⟨[]⟩) h')(hkG:code=1->∀h',AW h' E H X N 0 y out { D with has:=cM D.has ⟨D.l_,p.1,p.2.1,c.ask.m⟩ } kb c->FK E.a h h'->CallW prog 131 [pt E.z.ab] h' λ_ h=>V (.tuple ⟨[]⟩) h):CallW prog 126 [pt E.z.ab,.int .i64 code] h V:=by
 have hlo:=s.lo;obtain⟨va,vh,ga,sa,sh⟩:=s.ag;obtain⟨vn,vg,gk,p1,p2⟩:=s.c.g;have hlt:=s.c.lt;have rM:=s.g.D5;have p1':=p1;rw[hc]at p1';obtain⟨b0,o0,hb0,hx0,_,I1⟩:=hdN p1';have gk0:=gk;unfold dx at gk;refine av mixed ?_;rw[Z1];simp(disch:=try exact Y)only[Wz,aG,ga,gk,hx0,I1];obtain⟨hA,aT,aL,gA,dy,dz⟩:=kf h (aa [.int .i64 p.1,.int .i64 p.2.1] 28 false);rw[<-aT]
 try rw[show(h.bl.aV (h.nx) (aa [.int .i64 p.1,.int .i64 p.2.1] 28 false))=hA.bl by rw[aT]]
 clear aT;have sA:=s.le aL;have Eh:=(aL.get _ rM.1).trans ga;have Iq:=(aL.get _ hlt.1).trans gk;by_cases Ir:code=1
 .refine⟨λl' h'=>slot l' 10=.int .i64 c.ask.m/\HQ hA h',?_,?_⟩
  .simp(disch:=try exact Y)only[Wz,zB,aG,Iq,aZ (show ¬c.ask.k=3 by omega),zA,br Ir];exact⟨by first|rfl|trivial,rfl⟩
  .rintro l' h' ⟨e1,hE⟩;cases(show hA=h' from hE);simp(disch:=try exact Y)only[Wz,Fz];refine⟨λl2 h2=>AW h2 E H X N 0 y out { D with has:=cM D.has ⟨D.l_,p.1,p.2.1,c.ask.m⟩ } kb c/\FK E.a h h2,?_,?_⟩
   .simp(disch:=try exact Y)only[Wz,br Ir,Fy,aG,Eh,gA,e1];refine SV D.has ⟨D.l_,p.1,p.2.1,c.ask.m⟩ hA vh _ (sh.1.le aL) (by omega) (by omega) ?_;intro v' h2 hs2 bt;have n2:=bt.nx;have YC:=bt.lo;have s2:=sA.le bt;have WG:=bt.up Eh;obtain⟨x',c',rfl⟩:=hs2.cell;simp(disch:=try exact Y)only[Wz,aG,WG];have q:=s2.Ww (D':={ D with has:=cM D.has ⟨D.l_,p.1,p.2.1,c.ask.m⟩ }) ((sa.le aL).le bt) hs2 rfl;exact⟨q.1,((FK.le aL).trans (FK.le bt)).trans q.2⟩
   .rintro l2 h2 ⟨s2,f2⟩;exact hkG Ir h2 s2 f2
 .refine⟨λ_ _=>False,?_,λ_ _ hf=>hf.elim⟩;simp(disch:=try exact Y)only[Wz,zB,aG,Iq,aZ (show ¬c.ask.k=3 by omega),zA,aZ Ir];have q:=sA.Io (c':={ c with code:=code }) (p1.keep aL.nx aL.lo λd _ hd _=>aL.get d hd) (p2.keep aL.nx aL.lo λd _ hd _=>aL.get d hd) s.c.Im;unfold dx at q;exact hkF Ir _ q.1 ((FK.le aL).trans q.2)
end
def vz(E:EN)(D:AD)(g:L4):iz:=if wK g.t g.r g.m=true/\0<E.z.most-D.aX.length then⟨3,D.l_,g.t,g.r,0,0,-1-E.z.th⟩else⟨2,D.l_,g.t,g.r,0,0,0⟩
section
variable {h h':Heap}{E:EN}{H X:Int->Int->Int}{N n:Nat}{y:iz}{out:Int}{D:AD}{kb:Nat}{c:CD}
theorem WM{g:L4}(ok:bf g.t g.r≠-1)(hx:D.l_≠-1-E.z.th):oc (vz E D g)=true:=by
 unfold oc vz;split
 .simp[ok,hx.symm]
 .simp[ok]
theorem Mw(s:AW h E H X N 0 y out D kb c)(hN:N<=900)(hm:0<=E.z.most/\E.z.most<=8)(lp:D.aX.length<=1000)(lg:c.goes.length<=1000)(okG:∀g∈c.goes,bf g.t g.r≠-1)(hx:D.l_≠-1-E.z.th)(o:Int)(V:KQ)(nZ:c.goes=[]->∀h',AW h' E H X N 0 y out { D with l_:=0,asked:=[],has:=[] } kb { c with code:=1 }->FK E.a h h'->V (.tuple ⟨[]⟩) h')(dB:∀g G,c.goes=g::G->∀h',AW h' E H X (N+1) 3 (vz E D g) o D kb { c with ask:=vz E D g }->FK E.a h h'->V (.tuple ⟨[]⟩) h'):CallW prog 193 [pt E.z.ab] h V:=by
 have hlo:=s.lo;obtain⟨va,vh,ga,sa,sh⟩:=s.ag;obtain⟨vn,vg,gk,p1,p2⟩:=s.c.g;have hlt:=s.c.lt;have rM:=s.g.D5;have hkb:E.z.ab≠kb:=de ga gk (by decide);obtain⟨vx,vc,ev⟩:=p2.cell;have hlen:=p2.len (β:=Prop) (fl:=False);unfold dx at gk;refine av mixed ?_;rw[aaL];simp(disch:=try exact Y)only[Wz,aG,ga,gk,hlen];cases hc:c.goes with
 |nil=>
  simp(disch:=try exact Y)only[Wz,List.length_nil,F4,aG,ga,gk];have q:=s.Ww (D':={ D with l_:=0,asked:=[],has:=[] }) (jt.nil h) (jt.nil h) rfl;have q2:=q.1.Io (c':={ c with code:=1 }) (upE p1 ga (by decide) _) (upX p2 ga (by decide) _) s.c.Im;unfold dx at q2;exact nZ hc _ q2.1 (q.2.trans q2.2)
 |cons g G=>
  have p2':=p2;rw[hc]at p2';obtain⟨b0,o0,hb0,hx0,I1⟩:=hdG p2';have okg:=okG g (by rw[hc];exact .head _);have lG:(g::G).length<=1000:=by rw[<-hc];exact lg
  have lG':G.length+1<=1000:=by simpa using lG
  simp(disch:=try exact Y)only[Wz,List.length_cons,F5,aG,ga,gk,hx0,I1,cI];obtain⟨hA,aT,aL,gA,gB,dy,dz⟩:=BF h (aa [.int .i64 g.x,.int .i64 g.t,.int .i64 g.r,.int .i64 g.m] 46 false) (aa [.int .i64 2,.int .i64 D.l_,.int .i64 g.t,.int .i64 g.r,.int .i64 0,.int .i64 0,.int .i64 0] 31 false);rw[<-aT]
  try rw[show((h.bl.aV (h.nx) (aa [.int .i64 g.x,.int .i64 g.t,.int .i64 g.r,.int .i64 g.m] 46 false)).aV (h.nx+1) (aa [.int .i64 2,.int .i64 D.l_,.int .i64 g.t,.int .i64 g.r,.int .i64 0,.int .i64 0,.int .i64 0] 31 false))=hA.bl by rw[aT]]
  clear aT;have sA:=s.le aL;have Eh:=(aL.get _ rM.1).trans ga;refine⟨λl' h1=>Le h h1/\h.nx+1<h1.nx/\h1.bl.get (h.nx+1)=some (aa (DY (vz E D g)) 31 false),?_,?_⟩
  .simp(disch:=try exact Y)only[Wz,F0,gA];refine Bb g.t g.r g.m ?_;cases he:wK g.t g.r g.m with
   |false=>
    have e9:vz E D g=⟨2,D.l_,g.t,g.r,0,0,0⟩:=by unfold vz;rw[if_neg (by rw[he];simp)]
    simp(disch:=try exact Y)only[Wz];rw[e9];exact⟨aL,by omega,gB⟩
   |true=>
    simp(disch:=try exact Y)only[Wz,aG,Eh];refine Mu sA.g (by omega) hm _ ?_;by_cases hr:0<E.z.most-D.aX.length
    .have e9:vz E D g=⟨3,D.l_,g.t,g.r,0,0,-1-E.z.th⟩:=by unfold vz;rw[if_pos ⟨he,hr⟩]
     simp(disch:=try exact Y)only[Wz,fV hr,FZ,aG,Eh];refine adR sA.g _ ?_;simp(disch:=try exact Y)only[Wz,gB];rw[e9];exact⟨aL.set (by omega) _,by omega,rfl⟩
    .have e9:vz E D g=⟨2,D.l_,g.t,g.r,0,0,0⟩:=by unfold vz;rw[if_neg (λe=>hr e.2)]
     simp(disch:=try exact Y)only[Wz,dL (show E.z.most-D.aX.length<=0 by omega)];rw[e9];exact⟨aL,by omega,gB⟩
  .rintro l' h1 ⟨bG,lt1,g1⟩;unfold DY at g1;simp(disch:=try exact Y)only[Wz,g1];refine Ip (s.le bG) hN (vz E D g) (WM okg hx) o _ ?_;intro h8 s8 f8;exact dB g G hc h8 s8 ((FK.le bG).trans f8)
def sI(E:EN)(D:AD)(c:CD)(g:L4)(code:Int):AD:={ D with has:=fL D.has g.t g.r,aX:=if c.ask.k=3/\code=1 then D6 E.z.most (-1-E.z.th) D.aX g.t g.r g.m else D.aX }
theorem Oz(s:AW h E H X N 0 y out D kb c)(hm:0<=E.z.most/\E.z.most<=8)(l1:D.has.length<=1000)(lp:D.aX.length<=1000){g:L4}{G:List L4}(hc:c.goes=g::G)(code:Int)(V:KQ)(hk:∀h',AW h' E H X N 0 y out (sI E D c g code) kb { c with goes:=G }->FK E.a h h'->CallW prog 193 [pt E.z.ab] h' λ_ h=>V (.tuple ⟨[]⟩) h):CallW prog 191 [pt E.z.ab,.int .i64 code] h V:=by
 have hlo:=s.lo;obtain⟨va,vh,ga,sa,sh⟩:=s.ag;obtain⟨vn,vg,gk,p1,p2⟩:=s.c.g;have hlt:=s.c.lt;have rM:=s.g.D5;have p2':=p2;rw[hc]at p2';obtain⟨b0,o0,hb0,hx0,I1⟩:=hdG p2';have gk0:=gk;unfold dx at gk;refine av mixed ?_;rw[aaJ];simp(disch:=try exact Y)only[Wz,aG,ga,gk,hx0,I1,cI];obtain⟨hA,aT,aL,gA,dy,dz⟩:=kf h (aa [.int .i64 g.x,.int .i64 g.t,.int .i64 g.r,.int .i64 g.m] 46 false);rw[<-aT]
 try rw[show(h.bl.aV (h.nx) (aa [.int .i64 g.x,.int .i64 g.t,.int .i64 g.r,.int .i64 g.m] 46 false))=hA.bl by rw[aT]]
 clear aT;have sA:=s.le aL;have Eh:=(aL.get _ rM.1).trans ga;have Iq:=(aL.get _ hlt.1).trans gk;obtain⟨u,pu,hu⟩:=(p2'.le aL).tail cW (by decide);obtain⟨ux,uc,eu⟩:=pu.cell;subst eu;have q1:=sA.Io (c':={ c with goes:=G }) (p1.le aL) pu s.c.Im;have hne:kb≠h.nx:=de Iq gA (by decide);have hab:E.z.ab≠kb:=de Eh Iq (by decide);have f1:=(FK.le (a:=E.a) aL).trans q1.2;obtain⟨h1,e1⟩:∃h1:Heap,h1=⟨hA.nx,hA.bl.aV kb (dx E.z { c with goes:=G } vn (.slice ux G.length uc)),hA.lo⟩:=⟨_,rfl⟩
 have s1:AW h1 E H X N 0 y out D kb { c with goes:=G }:=by rw[e1];exact q1.1
 have f1:FK E.a h h1:=by rw[e1];exact f1
 have gA1:h1.bl.get h.nx=some (aa [.int .i64 g.x,.int .i64 g.t,.int .i64 g.r,.int .i64 g.m] 46 false):=by rw[e1];exact(T.aj _ _ hne).trans gA
 have n1:h.nx<h1.nx:=by rw[e1];show h.nx<hA.nx;omega
 have WL:h1.bl.get E.z.ab=some (aa [pt E.A.wb,.int .i64 0,.int .i64 D.l_,va,vh,pt E.z.pb,pt kb] 155 false):=by rw[e1];exact(T.aj _ _ (λe=>hab e.symm)).trans Eh
 have sa1:jt h1 va D.asked:=by rw[e1];exact(sa.le aL).up Iq (by decide) _
 have YE:jt h1 vh D.has:=by rw[e1];exact(sh.le aL).up Iq (by decide) _
 unfold dx at e1;simp(disch:=try exact Y)only[Wz,aG,Iq,hu];rw[<-e1];clear e1;obtain⟨vn1,vg1,Ub,p11,p21⟩:=s1.c.g;have aoY:=s1.c.lt;have aoZ:=s1.g.D5;have YD:=s1.lo;simp(disch:=try exact Y)only[Wz,aG,Eh,WL,gA1];refine adx D.has g.t g.r h1 vh _ YE.1 (by omega) (by omega) ?_;intro v' h2 hs2 bt;have s2:=s1.le bt;obtain⟨x',c',rfl⟩:=hs2.cell;have WG:=(bt.get _ aoZ.1).trans WL;have gA2:=(bt.get _ n1).trans gA1;have n2:=bt.nx;have YC:=bt.lo;have DM:E.z.ab≠h.nx:=de WG gA2 (by decide);have q3:=s2.Ww (D':={ D with has:=fL D.has g.t g.r }) (sa1.le bt) hs2 rfl;have f3:=(f1.trans (FK.le bt)).trans q3.2;obtain⟨h3,e3⟩:∃h3:Heap,h3=⟨h2.nx,h2.bl.aV E.z.ab (aa [pt E.A.wb,.int .i64 0,.int .i64 D.l_,va,.slice x' (fL D.has g.t g.r).length c',pt E.z.pb,pt kb] 155 false),h2.lo⟩:=⟨_,rfl⟩
 have s3:AW h3 E H X N 0 y out { D with has:=fL D.has g.t g.r } kb { c with goes:=G }:=by rw[e3];exact q3.1
 have f3:FK E.a h h3:=by rw[e3];exact f3
 have gA3:h3.bl.get h.nx=some (aa [.int .i64 g.x,.int .i64 g.t,.int .i64 g.r,.int .i64 g.m] 46 false):=by rw[e3];exact(T.aj _ _ DM).trans gA2
 have n3:h.nx<h3.nx:=by rw[e3];show h.nx<h2.nx;omega
 simp(disch:=try exact Y)only[Wz,aG,WG];rw[<-e3];clear e3;obtain⟨va3,vh3,ga3,sa3,sh3⟩:=s3.ag;obtain⟨vn3,vg3,YF,p13,p23⟩:=s3.c.g;have lo3:=s3.lo;unfold dx at YF;refine⟨λl' h'=>AW h' E H X N 0 y out (sI E D c g code) kb { c with goes:=G }/\FK E.a h h',?_,?_⟩
 .by_cases vT:c.ask.k=3
  .by_cases hcd:code=1
   .simp(disch:=try exact Y)only[Wz,uG,aG,YF,br vT,br hcd,FY,ga3,gA3];refine adS s3.g (by show D.aX.length<=100000;omega) (by omega) hm g.t g.r g.m _ ?_;intro u4 h4 h5 iS hor g5;have s4:=s3.le iS;obtain⟨vp,gl,_⟩:=s4.g.gl;have e5:sI E D c g code={ ({ D with has:=fL D.has g.t g.r }:AD)with aX:=D6 E.z.most (-1-E.z.th) D.aX g.t g.r g.m }:=by unfold sI;rw[if_pos ⟨vT,hcd⟩]
    rcases hor with rfl|⟨vp',rfl⟩
    .refine⟨⟨s4.w,?_,s4.c,s4.wb,s4.th⟩,f3.trans (FK.le iS)⟩;rw[e5];exact g5
    .refine⟨⟨s4.w.put gl (by unfold lZ;decide) (by unfold jO;decide) _,?_,s4.c.put gl (.inr rfl) _,s4.wb,s4.th⟩,(f3.trans (FK.le iS)).trans (FK.put gl (.inr (.inr (.inl rfl))) _)⟩;rw[e5];exact g5
   .have e5:sI E D c g code={ D with has:=fL D.has g.t g.r }:=by unfold sI;rw[if_neg (λe=>hcd e.2)]
    simp(disch:=try exact Y)only[Wz,uG,aG,YF,br vT,aZ hcd];rw[e5];exact⟨s3,f3⟩
  .have e5:sI E D c g code={ D with has:=fL D.has g.t g.r }:=by unfold sI;rw[if_neg (λe=>vT e.1)]
   simp(disch:=try exact Y)only[Wz,uG,aG,YF,aZ vT];rw[e5];exact⟨s3,f3⟩
 .rintro l' h' ⟨s',f'⟩;exact hk h' s' f'
theorem S6(s:AW h E H X N 0 y out D kb c)(hp:D.aX=[])(l1:D.has.length<20)(okH:∀g∈D.has,bf g.t g.r≠-1)(V:KQ)(hk:∀O h',O.Perm D.has->AW h' E H X N 0 y out D kb { c with beh:=191,goes:=O }->FK E.a h h'->CallW prog 193 [pt E.z.ab] h' λ_ h=>V (.tuple ⟨[]⟩) h):CallW prog 136 [pt E.z.ab] h V:=by
 have hlo:=s.lo;obtain⟨va,vh,ga,sa,sh⟩:=s.ag;have rM:=s.g.D5;refine av mixed ?_;rw[Z_];simp(disch:=try exact Y)only[Wz,aG,ga];refine Mt s.g (by rw[hp];exact Nat.zero_le _) hlo _ ?_;intro v2 h2 ny bt;have n2:=bt.nx;have l2:=bt.lo;rw[hp]at ny;have hlen:=ny.sl.len (β:=Prop) (fl:=False);have s2:=s.le bt;have WG:=(bt.get _ rM.1).trans ga;obtain⟨vn2,vg2,WH,p12,p22⟩:=s2.c.g;have ao0:=s2.c.lt;unfold dx at WH;simp(disch:=try exact Y)only[Wz,hlen,List.length_nil,FF,aG,WG];refine Wp D.has h2 vh _ (sh.1.le bt) l1 (by omega) okH ?_;intro O v3 h3 hO po dg;have n3:=dg.nx;have lo3:=dg.lo;have s3:=s2.le dg;have YF:=(dg.get _ ao0.1).trans WH;obtain⟨x3,c3,e3⟩:=po.cell;subst e3;have q:=s3.Io (c':={ c with beh:=191,goes:=O }) (p12.le dg) po s.c.Im;unfold dx at q;simp(disch:=try exact Y)only[Wz,aG,YF,rm];exact hk O _ hO q.1 ((FK.le (bt.trans dg)).trans q.2)
end
theorem ai6(h:Heap)(b o:Nat):lT prog h 100 60 (.pointer (some ⟨b,o,none⟩)) (.pointer none)=some false:=by kernel_rfl
theorem p7{β:Type}{fl:β}(cn:Bool)(b o:Nat)(h:Heap)(V:Z7 β):ay fl prog .eql 60 cn false (.pointer (some ⟨b,o,none⟩)) (.pointer none) h V=V (.bool false) h:=by simp only[ay,ai6,bK]
theorem WN{β:Type}{fl:β}(cn:Bool)(b o:Nat)(h:Heap)(V:Z7 β):ay fl prog .neq 60 cn false (.pointer (some ⟨b,o,none⟩)) (.pointer none) h V=V (.bool true) h:=by simp only[ay,ai6,bK,Bool.not_false]
theorem ao1(h:Heap)(b o:Nat):lT prog h 100 153 (.pointer (some ⟨b,o,none⟩)) (.pointer none)=some false:=by kernel_rfl
theorem ai7(h:Heap):lT prog h 100 153 (.pointer none) (.pointer none)=some true:=by kernel_rfl
theorem Is{β:Type}{fl:β}(cn:Bool)(o:Option Nat)(h:Heap)(V:Z7 β):ay fl prog .neq 153 cn false (cZ o) (.pointer none) h V=V (.bool o.isSome) h:=by
 cases o with
 |none=>simp only[cZ,ay,ai7,bK,Bool.not_true];rfl
 |some b=>simp only[cZ,ay,ao1,bK,Bool.not_false];rfl
structure AI(h:Heap)(E:EN)(H X:Int->Int->Int)(N:Nat)(D:AD):Prop where
 w:∀y out,WI h E.A E.a H X N 0 y out
 g:jd h E.z D none
 wb:E.z.wb=E.A.wb
 th:E.z.th=0
section
variable {h h':Heap}{E:EN}{H X:Int->Int->Int}{N n:Nat}{y:iz}{out:Int}{D:AD}{kb:Nat}{c:CD}
theorem AI.le(s:AI h E H X N D)(l:Le h h'):AI h' E H X N D:=⟨λy o=>(s.w y o).le l,s.g.le l,s.wb,s.th⟩
theorem AI.lo(s:AI h E H X N D):h.lo<=h.nx:=(s.w ⟨0,0,0,0,0,0,0⟩ 0).lo
theorem AI.ag(s:AI h E H X N D):∃va vh,h.bl.get E.z.ab=some (aa [pt E.A.wb,.int .i64 0,.int .i64 D.l_,va,vh,pt E.z.pb,.pointer none] 155 false)/\jt h va D.asked/\jt h vh D.has:=by
 obtain⟨va,vh,g1,g2,g3⟩:=s.g.ga;rw[s.wb,s.th]at g1;exact⟨va,vh,g1,g2,g3⟩
theorem J7(s:AW h E H X N n y out D kb c)(V:KQ)(hk:V (.bool true) h):CallW prog 194 [pt E.z.ab] h V:=by
 obtain⟨va,vh,ga,_,_⟩:=s.ag;have bn:=λ(β:Type)(fl:β)(cn:Bool)(h:Heap)(V:Z7 β)=>Is (fl:=fl) cn (some kb) h V;simp only[cZ,Option.isSome]at bn;refine av mixed ?_;rw[aaM];simp(disch:=try exact Y)only[Wz,WN,aG,ga,bn];exact hk
theorem mU(s:AW h E H X N n y out D kb c)(hn:c.ask.k=0\/n≠0)(V:KQ)(hk:V (.bool true) h):CallW prog 137 [pt E.z.ab] h V:=by
 obtain⟨va,vh,ga,_,_⟩:=s.ag;obtain⟨vn,vg,gk,_,_⟩:=s.c.g;unfold dx at gk;refine av mixed ?_;rw[aaa];simp(disch:=try exact Y)only[Wz];refine J7 s _ ?_;by_cases h0:c.ask.k=0
 .simp(disch:=try exact Y)only[Wz,aG,ga,gk,br h0];exact hk
 .simp(disch:=try exact Y)only[Wz,aG,ga,gk,aZ h0];refine Ov s.w (hn.resolve_left h0) _ ?_;exact hk
theorem S7(s:AW h E H X N 0 y out D kb c)(V:KQ)(hk:∀h',AI h' E H X N D->FK E.a h h'->V (.tuple ⟨[.bool true,.int .i64 c.code,.int .i64 0]⟩) h'):DE (pt E.z.ab) (pt kb) h V:=by
 obtain⟨va,vh,ga,sa,sh⟩:=s.ag;obtain⟨vn,vg,gk,p1,p2⟩:=s.c.g;have hkb:E.z.ab≠kb:=de ga gk (by decide);have rM:=s.g.D5;obtain⟨va0,vh0,g1,_,_⟩:=s.g.ga;have q:=s.g.set (D':=D) (cp':=none) sa sh rfl;have hp:=λob y' o'=>(s.w.rest y' o').put g1 (by unfold lZ;decide) (by unfold jO;decide) ob;have fp:=λob=>FK.put (a:=E.a) g1 (.inl rfl) ob;unfold agO at q;rw[s.wb,s.th]at q;unfold dx at gk;simp(disch:=try exact Y)only[Wz,DE,aG,ga,gk];exact hk _ ⟨hp _,q,s.wb,s.th⟩ (fp _)
theorem Iu(s:AW h E H X N 0 y out D kb c)(h0:c.ask.k=0)(V:KQ)(hk:∀h',AI h' E H X N D->FK E.a h h'->V (.tuple ⟨[.bool true,.int .i64 c.code,.int .i64 0]⟩) h'):CallW prog 74 [pt E.z.ab] h V:=by
 obtain⟨va,vh,ga,sa,sh⟩:=s.ag;obtain⟨vn,vg,gk,p1,p2⟩:=s.c.g;unfold dx at gk;refine av mixed ?_;rw[QS];simp(disch:=try exact Y)only[Wz,p7,yj];refine mU s (.inl h0) _ ?_;simp(disch:=try exact Y)only[Wz,aG,ga];refine⟨λl' h'=>HQ h h',?_,?_⟩
 .simp(disch:=try exact Y)only[Wz,yh,aG,gk,br h0];exact rfl
 .rintro l' h' hE;cases(show h=h' from hE);exact S7 s V hk
theorem Iv(s:AW h E H X N n y out D kb c)(hn:n≠0)(S8:c.ask.k≠0)(Q:Heap->Prop)(hW:∀κ1:Value->Heap->Prop,(∀h1,Q h1->κ1 (.tuple ⟨[.bool false,.int .i64 0,.int .i64 0]⟩) h1)->CallW prog 15 [.pointer (some ⟨E.A.wb,0,none⟩),.int .i64 ((0:Nat):Int)] h κ1)(V:KQ)(hk:∀h1,Q h1->V (.tuple ⟨[.bool false,.int .i64 0,.int .i64 0]⟩) h1):CallW prog 74 [pt E.z.ab] h V:=by
 obtain⟨va,vh,ga,sa,sh⟩:=s.ag;obtain⟨vn,vg,gk,p1,p2⟩:=s.c.g;unfold dx at gk;refine av mixed ?_;rw[QS];simp(disch:=try exact Y)only[Wz,p7,yj];refine mU s (.inr hn) _ ?_;simp(disch:=try exact Y)only[Wz,aG,ga];refine⟨λ_ _=>False,?_,λ_ _ hf=>hf.elim⟩;simp(disch:=try exact Y)only[Wz,yh,aG,gk,aZ S8,DD,ga];refine hW _ ?_;intro h1 q1;simp(disch:=try exact Y)only[Wz];exact hk h1 q1
theorem Iw(s:AW h E H X N 1 y out D kb c)(S8:c.ask.k≠0)(V:KQ)(hB:∀h1,AW h1 E H X N 0 y out D kb { c with seen:=true }->FK E.a h h1->CallW prog c.beh [pt E.z.ab,.int .i64 out] h1 λ_ h2=>∃H' X' N' n' y' out' D' c',AW h2 E H' X' N' n' y' out' D' kb c'/\FK E.a h1 h2/\
   (c'.code=0->V (.tuple ⟨[.bool false,.int .i64 0,.int .i64 0]⟩) h2)/\(c'.code≠0->n'=0/\∀h3,AI h3 E H' X' N' D'->FK E.a h2 h3->V (.tuple ⟨[.bool true,.int .i64 c'.code,.int .i64 0]⟩) h3)):CallW prog 74 [pt E.z.ab] h V:=by
 obtain⟨va,vh,ga,sa,sh⟩:=s.ag;obtain⟨vn,vg,gk,p1,p2⟩:=s.c.g;have gk0:=gk;unfold dx at gk;refine av mixed ?_;rw[QS];simp(disch:=try exact Y)only[Wz,p7,yj];refine mU s (.inr (by decide)) _ ?_;simp(disch:=try exact Y)only[Wz,aG,ga];refine⟨λl' h'=>∃H' X' N' n' y' out' D' c',AW h' E H' X' N' n' y' out' D' kb c'/\c'.code≠0/\n'=0/\∀h3,AI h3 E H' X' N' D'->FK E.a h' h3->V (.tuple ⟨[.bool true,.int .i64 c'.code,.int .i64 0]⟩) h3,?_,?_⟩
 .simp(disch:=try exact Y)only[Wz,yh,aG,gk,aZ S8,DD,ga];refine S0 s.w _ ?_;intro h1 w1 k1;have s1:=s.wk w1 k1;have aoY:=s1.c.lt;obtain⟨vn1,vg1,Ub,p11,p21⟩:=s1.c.g;have q:=s1.Io (c':={ c with seen:=true }) p11 p21 s.c.Im;unfold dx at Ub q;simp(disch:=try exact Y)only[Wz,LK,aG,Ub,List.cons_append,List.nil_append,List.append_nil];refine CallW.mono (hB _ q.1 (k1.fk.trans q.2)) ?_;rintro u h2 ⟨H',X',N',n',y',out',D',c',s2,f2,dB,hk2⟩;obtain⟨vn2,vg2,WH,_,_⟩:=s2.c.g;unfold dx at WH;by_cases h0:c'.code=0
  .simp(disch:=try exact Y)only[Wz,aG,WH,br h0];exact dB h0
  .simp(disch:=try exact Y)only[Wz,aG,WH,aZ h0];obtain⟨e1,e2⟩:=hk2 h0;exact⟨H',X',N',n',y',out',D',c',s2,h0,e1,e2⟩
 .rintro l' h' ⟨H',X',N',n',y',out',D',c',s2,h0,rfl,hk2⟩;exact S7 s2 V hk2
def WO(k t r m w:Int):Bool:=decide (0<=w) && (if k=1 then kn m && decide (m≠0) && decide (bf t r≠-1)else if k=2 then decide (bf t r≠-1)else decide (k=3))
theorem adX(k t r m w:Int)(hm:WO k t r m w=true)(h:Heap)(V:KQ)(hlo:h.lo<=h.nx)(hk:∀h',Le h h'->V (.bool true) h'):CallW prog 125 [.agg ⟨[.int .i64 k,.int .i64 0,.int .i64 t,.int .i64 r,.int .i64 m,.int .i64 0]⟩,.int .i64 w] h V:=by
 unfold WO at hm;rw[Bool.and_eq_true,decide_eq_true_eq]at hm;obtain⟨hw,hm⟩:=hm;refine av mixed ?_;rw[Z0];simp(disch:=try exact Y)only[Wz];obtain⟨hA,aT,aL,gA,dy,dz⟩:=kf h (aa [.int .i64 k,.int .i64 0,.int .i64 t,.int .i64 r,.int .i64 m,.int .i64 0] 66 false);rw[<-aT]
 try rw[show(h.bl.aV (h.nx) (aa [.int .i64 k,.int .i64 0,.int .i64 t,.int .i64 r,.int .i64 m,.int .i64 0] 66 false))=hA.bl by rw[aT]]
 clear aT;by_cases h1:k=1
 .rw[if_pos h1,Bool.and_eq_true,Bool.and_eq_true,decide_eq_true_eq,decide_eq_true_eq]at hm;obtain⟨⟨hm1,hm2⟩,hm3⟩:=hm;refine⟨λ_ _=>False,?_,λ_ _ hf=>hf.elim⟩;simp(disch:=try exact Y)only[Wz,gA];refine⟨λl' h'=>slot l' 15=.bool true/\HQ hA h',?_,?_⟩
  .simp(disch:=try exact Y)only[Wz,uE,br h1,Fw,gA];refine pV m ?_;rw[hm1];simp(disch:=try exact Y)only[Wz,gA,aZ hm2];exact⟨by first|rfl|trivial,rfl⟩
  .rintro l' h' ⟨e1,hE⟩;cases(show hA=h' from hE);simp(disch:=try exact Y)only[Wz,zy,e1,gA];refine pg t r ?_;rw[if_neg hm3];simp(disch:=try exact Y)only[Wz];exact hk hA aL
 .rw[if_neg h1]at hm;by_cases h2:k=2
  .rw[if_pos h2,decide_eq_true_eq]at hm;refine⟨λ_ _=>False,?_,λ_ _ hf=>hf.elim⟩;simp(disch:=try exact Y)only[Wz,gA];refine⟨λl' h'=>slot l' 15=.bool true/\HQ hA h',?_,?_⟩
   .simp(disch:=try exact Y)only[Wz,uE,aZ h1,br h2];exact⟨by first|rfl|trivial,rfl⟩
   .rintro l' h' ⟨e1,hE⟩;cases(show hA=h' from hE);simp(disch:=try exact Y)only[Wz,zy,e1,gA];refine pg t r ?_;rw[if_neg hm];simp(disch:=try exact Y)only[Wz];exact hk hA aL
  .rw[if_neg h2,decide_eq_true_eq]at hm;refine⟨λl' h'=>slot l' 17=.bool true/\HQ hA h',?_,?_⟩
   .simp(disch:=try exact Y)only[Wz,gA];refine⟨λ_ _=>False,?_,λ_ _ hf=>hf.elim⟩;simp(disch:=try exact Y)only[Wz,uE,aZ h1,aZ h2];exact⟨by first|rfl|trivial,rfl⟩
   .rintro l' h' ⟨e1,hE⟩;cases(show hA=h' from hE);simp(disch:=try exact Y)only[Wz,Fx,e1,gA,br hm];exact hk hA aL
def r_:iz:=⟨0,0,0,0,0,0,0⟩
def jo(z:AA)(D:AD)(k t r m w:Int):CD:=
 if k=1 then⟨k,t,r,m,w,r_,0,126,.func (.func 127) ⟨[pt z.ab]⟩ ⟨[]⟩,false,0,gU (aO D.has) t r (bN (aO D.asked t r) m),[]⟩
 else if k=2 then⟨k,t,r,m,w,r_,0,132,.func (.func 133) ⟨[]⟩ ⟨[]⟩,false,0,[],[]⟩
 else⟨k,t,r,m,w,r_,0,135,.func (.func 133) ⟨[]⟩ ⟨[]⟩,false,0,[],[]⟩
def D7(k:Int):FuncId:=if k=1 then 131 else if k=2 then 134 else 136
theorem Bc:(Value.cells Value.nilFunc).toList=[Value.nilFunc]:=id rfl
theorem AI.call(s:AI h E H X N D){va vh:Value}(ga:h.bl.get E.z.ab=some (aa [pt E.A.wb,.int .i64 0,.int .i64 D.l_,va,vh,pt E.z.pb,.pointer none] 155 false))(sa:jt h va D.asked)(sh:jt h vh D.has)(vs:List Value){c':CD}(h1:c'.fc=[])(h2:c'.goes=[])(h3:dJ c'.Im=true)(y:iz)(out:Int):AW ⟨h.nx+1,((h.bl.aV h.nx (aa vs 224 false)).aV E.z.ab (aa [pt E.A.wb,.int .i64 0,.int .i64 D.l_,va,vh,pt E.z.pb,pt h.nx] 155 false)).aV h.nx (dx E.z c' (.slice none 0 0) (.slice none 0 0)),h.lo⟩ E H X N 0 y out D h.nx c'/\
  FK E.a h ⟨h.nx+1,((h.bl.aV h.nx (aa vs 224 false)).aV E.z.ab (aa [pt E.A.wb,.int .i64 0,.int .i64 D.l_,va,vh,pt E.z.pb,pt h.nx] 155 false)).aV h.nx (dx E.z c' (.slice none 0 0) (.slice none 0 0)),h.lo⟩:=by
 have Ma:=(Le.refl h).new (aa vs 224 false);have sB:=s.le Ma;have hl:=s.g.D5;have lo:=s.lo;have gaB:=(Ma.get _ hl.1).trans ga;have q:=sB.g.set (D':=D) (cp':=some h.nx) (sa.le Ma) (sh.le Ma) rfl;have w1:=λob=>(sB.w y out).put gaB (by unfold lZ;decide) (by unfold jO;decide) ob;have f1:=λob=>FK.put (a:=E.a) gaB (.inl rfl) ob;unfold agO at q;rw[s.wb,s.th]at q;have gk:((h.bl.aV h.nx (aa vs 224 false)).aV E.z.ab (aa [pt E.A.wb,.int .i64 0,.int .i64 D.l_,va,vh,pt E.z.pb,pt h.nx] 155 false)).get h.nx=some (aa vs 224 false):=(T.aj _ _ (by omega)).trans (T.ah _ _ _);have w2:=(w1 (aa [pt E.A.wb,.int .i64 0,.int .i64 D.l_,va,vh,pt E.z.pb,pt h.nx] 155 false)).put gk (by unfold lZ;decide) (by unfold jO;decide) (dx E.z c' (.slice none 0 0) (.slice none 0 0));have g2:=jd.put q gk (.inl rfl) (dx E.z c' (.slice none 0 0) (.slice none 0 0));have f2:=FK.put (a:=E.a) (h:=⟨h.nx+1,(h.bl.aV h.nx (aa vs 224 false)).aV E.z.ab (aa [pt E.A.wb,.int .i64 0,.int .i64 D.l_,va,vh,pt E.z.pb,pt h.nx] 155 false),h.lo⟩) gk (.inr (.inl rfl)) (dx E.z c' (.slice none 0 0) (.slice none 0 0));have c2:=iJ.mk' (h:=⟨h.nx+1,(h.bl.aV h.nx (aa vs 224 false)).aV E.z.ab (aa [pt E.A.wb,.int .i64 0,.int .i64 D.l_,va,vh,pt E.z.pb,pt h.nx] 155 false),h.lo⟩) (z:=E.z) (c':=c') (vn:=.slice none 0 0) (vg:=.slice none 0 0) ⟨Nat.lt_succ_self _,lo⟩ gk (.inl ⟨h1,rfl⟩) (.inl ⟨h2,_,_,rfl⟩) h3;exact⟨⟨w2,g2,c2,s.wb,s.th⟩,((FK.le Ma).trans (f1 _)).trans f2⟩
theorem Mx(s:AI h E H X N D)(ht:D.l_≠0)(l1:D.has.length<=1000)(l2:D.asked.length<=1000)(k t r m w:Int)(hm:WO k t r m w=true)(V:KQ)(hk:∀h' kb,AW h' E H X N 0 r_ 0 D kb (jo E.z D k t r m w)->FK E.a h h'->CallW prog (D7 k) [pt E.z.ab] h' λ_ h=>V (.int .i64 0) h):CallW prog 73 [pt E.z.ab,.agg ⟨[.int .i64 k,.int .i64 0,.int .i64 t,.int .i64 r,.int .i64 m,.int .i64 0]⟩,.int .i64 w] h V:=by
 have hlo:=s.lo;have bn:=λ(β:Type)(fl:β)(cn:Bool)(h:Heap)(V:Z7 β)=>Is (fl:=fl) cn none h V;simp only[cZ,Option.isSome]at bn;refine av mixed ?_;rw[agI];simp(disch:=try exact Y)only[Wz,p7];obtain⟨hA,aT,aL,gA,dy,dz⟩:=kf h (aa [.int .i64 k,.int .i64 0,.int .i64 t,.int .i64 r,.int .i64 m,.int .i64 0] 66 false);rw[<-aT]
 try rw[show(h.bl.aV (h.nx) (aa [.int .i64 k,.int .i64 0,.int .i64 t,.int .i64 r,.int .i64 m,.int .i64 0] 66 false))=hA.bl by rw[aT]]
 clear aT;have sA:=s.le aL;obtain⟨va,vh,ga,sa,sh⟩:=sA.ag;have rM:=sA.g.D5;simp(disch:=try exact Y)only[Wz,LJ,aG,ga,aZ ht,bn,gA];refine adX k t r m w hm hA _ (by omega) ?_;intro h1 bG;have s1:=sA.le bG;have WL:=(bG.get _ rM.1).trans ga;have A7:=bG.nx;have A8:=bG.lo;have gA:=bG.up gA;have qn:=s1.g.D5;have YD:=s1.lo;have sa1:=sa.le bG;have YE:=sh.le bG;have hab:E.z.ab≠h1.nx:=by omega
 have hA1:h.nx≠E.z.ab:=λe=>de gA WL (by decide) e;have hA2:h.nx<h1.nx:=by omega
 have f1:=FK.le (a:=E.a) (aL.trans bG);simp(disch:=try exact Y)only[Wz,aG,WL,gA,LH,Bc];refine⟨λl' h'=>V (.int .i64 0) h',?_,λl' h' hk=>hk⟩;by_cases dB:k=1
 .simp(disch:=try exact Y)only[Wz,yg,gA,br dB,LG,rm,aG];have q:=s1.call WL sa1 YE [.slice none 0 0,.slice none 0 0,.int .i64 k,.int .i64 0,.int .i64 t,.int .i64 r,.int .i64 m,.int .i64 0,.int .i64 w,.int .i64 0,.int .i64 0,.int .i64 0,.int .i64 0,.int .i64 0,.int .i64 0,.int .i64 0,.int .i64 0,Value.nilFunc,Value.nilFunc,.bool false,.int .i64 0] (c':=⟨k,t,r,m,w,r_,0,126,.func (.func 127) ⟨[pt E.z.ab]⟩ ⟨[]⟩,false,0,[],[]⟩) rfl rfl rfl r_ 0;unfold dx r_ at q;have sa2:=sa1.fk q.2;have sh2:=YE.fk q.2;have gA2:=(q.2.ty _ _ _ _ hA2 gA (by unfold lZ;decide) (by unfold jO;decide) (by unfold Ms;decide)).trans gA;refine mR D.asked t r _ va _ sa2.1 (by omega) (by show h1.lo<=h1.nx+1;omega) ?_;intro h3 dg;have n3:h1.nx+1<=h3.nx:=dg.nx;have l3:h3.lo=h1.lo:=dg.lo;have ga3:h3.bl.get E.z.ab=some (aa [pt E.A.wb,.int .i64 0,.int .i64 D.l_,va,vh,pt E.z.pb,pt h1.nx] 155 false):=(dg.get _ (by show E.z.ab<h1.nx+1;omega)).trans ((T.aj _ _ (by omega)).trans (T.ah _ _ _));have YF:=(dg.get h1.nx (Nat.lt_succ_self _)).trans (T.ah _ _ _);have gA3:=(dg.get h.nx (by show h.nx<h1.nx+1;omega)).trans gA2;have qv:=sh.2.2;simp(disch:=try exact Y)only[Wz,aG,ga3,gA3,qv];refine xu _ _ ?_;simp(disch:=try exact Y)only[Wz,aG,ga3,gA3,qv];refine adH D.has t r _ h3 vh _ (sh2.le dg).1 (by omega) (by omega) ?_;intro v' h4 pe iS;have n4:=iS.nx;have l4:=iS.lo;have gk4:=(iS.get h1.nx (by omega)).trans YF;have s4:=q.1.le (dg.trans iS);obtain⟨x',c',e'⟩:=pe.cell;subst e';have q4:=s4.Io (c':=jo E.z D k t r m w) (vg:=.slice none 0 0) (by unfold jo;rw[if_pos dB];exact pe) (by unfold jo;rw[if_pos dB];exact .inl ⟨rfl,_,_,rfl⟩) (by unfold jo;rw[if_pos dB];rfl);have hk:=hk _ _ (q4.1.rest r_ 0) ((f1.trans (q.2.trans (FK.le (dg.trans iS)))).trans q4.2);unfold D7 jo at hk;rw[if_pos dB,if_pos dB]at hk;unfold dx r_ at hk;simp(disch:=try exact Y)only[Wz,aG,gk4];exact hk
 .by_cases hk2:k=2
  .have q:=s1.call WL sa1 YE [.slice none 0 0,.slice none 0 0,.int .i64 k,.int .i64 0,.int .i64 t,.int .i64 r,.int .i64 m,.int .i64 0,.int .i64 w,.int .i64 0,.int .i64 0,.int .i64 0,.int .i64 0,.int .i64 0,.int .i64 0,.int .i64 0,.int .i64 0,Value.nilFunc,Value.nilFunc,.bool false,.int .i64 0] (c':=jo E.z D k t r m w) (by unfold jo;rw[if_neg dB,if_pos hk2]) (by unfold jo;rw[if_neg dB,if_pos hk2]) (by unfold jo;rw[if_neg dB,if_pos hk2];rfl) r_ 0;have hk:=hk _ _ q.1 (f1.trans q.2);unfold D7 jo at hk;rw[if_neg dB,if_pos hk2,if_neg dB,if_pos hk2]at hk;unfold dx r_ at hk;simp(disch:=try exact Y)only[Wz,yg,gA,aZ dB,br hk2,LD,rm,aG];exact hk
  .have q:=s1.call WL sa1 YE [.slice none 0 0,.slice none 0 0,.int .i64 k,.int .i64 0,.int .i64 t,.int .i64 r,.int .i64 m,.int .i64 0,.int .i64 w,.int .i64 0,.int .i64 0,.int .i64 0,.int .i64 0,.int .i64 0,.int .i64 0,.int .i64 0,.int .i64 0,Value.nilFunc,Value.nilFunc,.bool false,.int .i64 0] (c':=jo E.z D k t r m w) (by unfold jo;rw[if_neg dB,if_neg hk2]) (by unfold jo;rw[if_neg dB,if_neg hk2]) (by unfold jo;rw[if_neg dB,if_neg hk2];rfl) r_ 0;have hk:=hk _ _ q.1 (f1.trans q.2);unfold D7 jo at hk;rw[if_neg dB,if_neg hk2,if_neg dB,if_neg hk2]at hk;unfold dx r_ at hk;simp(disch:=try exact Y)only[Wz,yg,gA,aZ dB,aZ hk2,LF,rm,aG];exact hk
end
def iK(p:L4):Int × Int:=(p.t,p.r)
theorem ia{t r:Int}{p:L4}:jc t r p=true<->p.t=t/\p.r=r:=by simp[jc]
theorem ru{t r:Int}{p:L4}:jc t r p=false<->¬(p.t=t/\p.r=r):=by rw[<-ia,Bool.not_eq_true]
theorem je(p:L4)(L:List L4)(t r:Int):aO (p::L) t r=if p.t=t/\p.r=r then p.m else aO L t r:=by
 unfold aO;rw[List.find?_cons];by_cases h:p.t=t/\p.r=r
 .rw[if_pos h,ia.2 h]
 .rw[if_neg h,ru.2 h]
theorem wM(A B:List L4)(p:L4)(t r:Int)(hn:∀q∈A,¬(q.t=p.t/\q.r=p.r)):aO (A++p::B) t r=if p.t=t/\p.r=r then p.m else aO (A++B) t r:=by
 induction A with
 |nil=>rw[List.nil_append,List.nil_append,je]
 |cons q A ih=>
  have h1:=hn q (.head _);have ih:=ih λx hx=>hn x (.tail _ hx);rw[List.cons_append,List.cons_append,je,je,ih];by_cases h:q.t=t/\q.r=r
  .rw[if_pos h,if_pos h,if_neg (λe=>h1 ⟨h.1.trans e.1.symm,h.2.trans e.2.symm⟩)]
  .rw[if_neg h,if_neg h]
theorem Bd(L:List L4)(p:L4):(∃A q B,L=A++q::B/\q.t=p.t/\q.r=p.r/\(∀x∈A,¬(x.t=p.t/\x.r=p.r))/\cM L p=A++p::B)\/(∃A B,L=A++B/\(∀x∈L,¬(x.t=p.t/\x.r=p.r))/\cM L p=A++p::B):=by
 unfold cM;cases hf:L.findIdx? (jc p.t p.r)with
 |some i=>
  rw[List.findIdx?_eq_some_iff_getElem]at hf;obtain⟨hi,h1,h2⟩:=hf;refine .inl ⟨L.take i,L[i],L.drop (i+1),?_,(ia.1 h1).1,(ia.1 h1).2,λx hx=>?_,?_⟩
  .rw[<-List.drop_eq_getElem_cons hi,List.take_append_drop]
  .obtain⟨j,hj⟩:=List.getElem?_of_mem hx;have hj':j<i:=by have:=(List.getElem?_eq_some_iff.1 hj).1;simp at this;omega
   have:=h2 j hj';rw[List.getElem?_take_of_lt hj',List.getElem?_eq_getElem (by omega)]at hj;rw[Option.some.inj hj]at this;exact ru.1 (by simpa using this)
  .show L.set i p=_
   rw[List.set_eq_take_append_cons_drop,if_pos hi]
 |none=>
  rw[List.findIdx?_eq_none_iff]at hf;have hno:∀x∈L,¬(x.t=p.t/\x.r=p.r):=λx hx=>ru.1 (hf x hx);cases hg:L.findIdx? (tL p)with
  |some i=>exact .inr ⟨L.take i,L.drop i,(List.take_append_drop _ _).symm,hno,by simp⟩
  |none=>exact .inr ⟨L,[],by simp,hno,by simp⟩
theorem me(L:List L4)(p:L4)(t r:Int):aO (cM L p) t r=if p.t=t/\p.r=r then p.m else aO L t r:=by
 rcases Bd L p with⟨A,q,B,rfl,h1,h2,h3,e⟩|⟨A,B,rfl,h3,e⟩
 .rw[e,wM A B p t r h3,wM A B q t r (by rw[h1,h2];exact h3),h1,h2];split<;>rfl
 .rw[e,wM A B p t r λx hx=>h3 x (List.mem_append_left _ hx)]
theorem mV(L:List L4)(t r t' r':Int):aO (fL L t r) t' r'=if t=t'/\r=r' then 0 else aO L t' r':=by
 induction L with
 |nil=>unfold fL;simp[aO]
 |cons p L ih=>
  unfold fL at ih ⊢;rw[List.filter_cons];by_cases h:p.t=t/\p.r=r
  .rw[ia.2 h,if_neg (by decide),ih,je];by_cases h2:t=t'/\r=r'
   .rw[if_pos h2,if_pos h2]
   .rw[if_neg h2,if_neg h2,if_neg (λe=>h2 ⟨h.1.symm.trans e.1,h.2.symm.trans e.2⟩)]
  .rw[ru.2 h,if_pos (by decide),je,je,ih];by_cases h2:t=t'/\r=r'
   .rw[if_pos h2,if_pos h2,if_neg (λe=>h ⟨e.1.trans h2.1.symm,e.2.trans h2.2.symm⟩)]
   .rw[if_neg h2,if_neg h2]
structure jJ(M:List (Int × Int))(L:List L4):Prop where
 nd:(L.map iK).Nodup
 ok:∀p∈L,bf p.t p.r≠-1/\kn p.m=true/\p.m≠0
 sub:∀p∈L,iK p∈M
theorem jJ.nil(M:List (Int × Int)):jJ M []:=⟨List.nodup_nil,(λp hp=>by cases hp),(λp hp=>by cases hp)⟩
theorem jJ.mode{M:List (Int × Int)}{L:List L4}(s:jJ M L){p:L4}(hp:p∈L):aO L p.t p.r=p.m:=by
 have nd:=s.nd;clear s
 induction L with
 |nil=>cases hp
 |cons q L ih=>
  rw[List.map_cons,List.nodup_cons]at nd;rw[je];rcases List.mem_cons.1 hp with rfl|hp'
  .rw[if_pos ⟨rfl,rfl⟩]
  .rw[if_neg]
   .exact ih hp' nd.2
   .rintro⟨e1,e2⟩;exact nd.1 (List.mem_map.2 ⟨p,hp',by unfold iK;rw[e1,e2]⟩)
theorem wN{L:List L4}{t r:Int}(h:aO L t r≠0):∃p∈L,p.t=t/\p.r=r/\p.m=aO L t r:=by
 unfold aO at *
 cases hf:L.find? (jc t r)with
 |none=>rw[hf]at h;exact absurd rfl h
 |some p=>exact⟨p,List.mem_of_find?_eq_some hf,(ia.1 (List.find?_some hf)).1,(ia.1 (List.find?_some hf)).2,rfl⟩
theorem jJ.Bq{M:List (Int × Int)}{L:List L4}(s:jJ M L)(t r:Int):kn (aO L t r)=true:=by
 by_cases h:aO L t r=0
 .rw[h];rfl
 .obtain⟨p,hp,rfl,rfl,e⟩:=wN h;rw[<-e];exact(s.ok p hp).2.1
theorem jJ.put{M:List (Int × Int)}{L:List L4}(s:jJ M L){p:L4}(ok:bf p.t p.r≠-1/\kn p.m=true/\p.m≠0)(hm:iK p∈M):jJ M (cM L p):=by
 have key:∀(A B:List L4),((A++B).map iK).Nodup->(∀x∈A++B,¬(x.t=p.t/\x.r=p.r))->((A++p::B).map iK).Nodup:=by
  intro A B h1 h2;have hp:((A++p::B).map iK).Perm (iK p::(A++B).map iK):=by
   rw[<-List.map_cons];exact List.perm_middle.map iK
  rw[hp.nodup_iff,List.nodup_cons];refine⟨λhx=>?_,h1⟩;obtain⟨x,hx,e⟩:=List.mem_map.1 hx;unfold iK at e;exact h2 x hx ⟨congrArg Prod.fst e,congrArg Prod.snd e⟩
 rcases Bd L p with⟨A,q,B,rfl,h1,h2,h3,e⟩|⟨A,B,rfl,h3,e⟩
 .have hk:iK q=iK p:=by unfold iK;rw[h1,h2]
  rw[e];refine⟨?_,λx hx=>?_,λx hx=>?_⟩
  .have:=s.nd;rw[List.map_append,List.map_cons]at this ⊢
   rwa [hk]at this
  .rcases List.mem_append.1 hx with hx|hx
   .exact s.ok x (List.mem_append_left _ hx)
   .rcases List.mem_cons.1 hx with rfl|hx
    .exact ok
    .exact s.ok x (List.mem_append_right _ (.tail _ hx))
  .rcases List.mem_append.1 hx with hx|hx
   .exact s.sub x (List.mem_append_left _ hx)
   .rcases List.mem_cons.1 hx with rfl|hx
    .exact hm
    .exact s.sub x (List.mem_append_right _ (.tail _ hx))
 ·rw[e];have mem:∀x,x∈A++p::B->x=p\/x∈A++B:=λx hx=>by
   rcases List.mem_append.1 hx with hx|hx
   .exact .inr (List.mem_append_left _ hx)
   .rcases List.mem_cons.1 hx with rfl|hx
    .exact .inl rfl
    .exact .inr (List.mem_append_right _ hx)
  refine⟨key A B s.nd h3,λx hx=>?_,λx hx=>?_⟩
  .rcases mem x hx with rfl|hx
   .exact ok
   .exact s.ok x hx
  .rcases mem x hx with rfl|hx
   .exact hm
   .exact s.sub x hx
theorem wO(L:List L4)(t r:Int):(fL L t r).Sublist L:=List.filter_sublist
theorem jJ.drop{M:List (Int × Int)}{L:List L4}(s:jJ M L)(t r:Int):jJ M (fL L t r):=
 ⟨s.nd.sublist ((wO L t r).map iK),λp hp=>s.ok p ((wO L t r).subset hp),λp hp=>s.sub p ((wO L t r).subset hp)⟩
theorem OA{α:Type}[DecidableEq α]:∀(L M:List α),L.Nodup->(∀x∈L,x∈M)->L.length<=M.length:=by
 intro L
 induction L with
 |nil=>intro M _ _;exact Nat.zero_le _
 |cons x L ih=>
  intro M h1 h2;rw[List.nodup_cons]at h1;have hx:=h2 x (.head _);have:=ih (M.erase x) h1.2 λy hy=>(List.mem_erase_of_ne (by rintro rfl;exact h1.1 hy)).2 (h2 y (.tail _ hy));rw[List.length_erase_of_mem hx]at this;have hp:=List.length_pos_of_mem hx;rw[List.length_cons];omega
theorem jJ.len{M:List (Int × Int)}{L:List L4}(s:jJ M L):L.length<=M.length:=by
 have:=OA (L.map iK) M s.nd λx hx=>by
  obtain⟨p,hp,rfl⟩:=List.mem_map.1 hx;exact s.sub p hp
 rwa [List.length_map]at this
theorem adY{t r:Int}:∀a∈nP t r,bf a.1 a.2≠-1:=by
 intro a ha;unfold nP at ha;split at ha
 .rw[List.mem_singleton]at ha;subst ha;decide
 .split at ha
  .rename_i h2;rcases List.mem_cons.1 ha with rfl|ha
   .decide
   .rw[List.mem_singleton]at ha;subst ha
    show bf t (-1)≠-1
    unfold bf at h2 ⊢;split at h2
    .cases h2
    .split at h2
     .cases h2
     .split at h2
      .rename_i h3;rw[if_neg (by rintro⟨rfl,_⟩;revert h3;unfold IF;simp),if_pos ⟨h3.1,rfl⟩];decide
      .cases h2
  .cases ha
theorem WQ{m:Int}(h:kn m=true)(h0:m≠0):kn (oe m)=true/\oe m≠0:=by
 have key:∀i:Nat,i<7->(i:Int)≠0->kn (oe (i:Nat))=true/\oe (i:Nat)≠0:=by decide +kernel
 obtain⟨i,hi,rfl⟩:=iY h;exact key i hi h0
theorem Ix{f:Int->Int->Int}(hf:∀t r,kn (f t r)=true){t r m:Int}(ok:bf t r≠-1)(hm:kn m=true)(h0:m≠0):rX (gU f t r m)/\(gU f t r m).length<=3/\∀p∈gU f t r m,(p.1,p.2.1)=(t,r)\/(p.1,p.2.1)∈nP t r:=by
 obtain⟨pk,p0⟩:=WQ hm h0;unfold gU;split
 .exact⟨λp hp=>(by cases hp),Nat.zero_le _,λp hp=>by cases hp⟩
 ·have hu:=Mr f m (nP t r);have hal:=yq t r;have mem:∀p∈Ot f m (nP t r),∃a∈nP t r,p=(a.1,a.2,bN (f a.1 a.2) (oe m)):=by
   intro p hp;unfold Ot at hp;obtain⟨a,ha,rfl⟩:=List.mem_map.1 hp;exact⟨a,(List.mem_filter.1 ha).1,rfl⟩
  refine⟨λp hp=>?_,by rw[List.length_append,List.length_singleton];omega,λp hp=>?_⟩
  .rcases List.mem_append.1 hp with hp|hp
   .obtain⟨a,ha,rfl⟩:=mem p hp;obtain⟨q1,q2,_⟩:=ki (hf a.1 a.2) pk p0;exact⟨adY a ha,q2,q1⟩
   .rw[List.mem_singleton]at hp;subst hp;obtain⟨q1,q2,_⟩:=ki (hf t r) hm h0;exact⟨ok,q2,q1⟩
  .rcases List.mem_append.1 hp with hp|hp
   .obtain⟨a,ha,rfl⟩:=mem p hp;exact .inr ha
   .rw[List.mem_singleton]at hp;subst hp;exact .inl rfl
theorem OB{β:Type}{fl:β}(a b c d:Int)(h:Heap)(V:Z7 β):sM fl false 1 3 (.agg ⟨[.int .i64 a,.int .i64 b,.int .i64 c,.int .i64 d]⟩) h V=V (.int .i64 d) h:=id rfl
section
variable {h h':Heap}{A:WA}{a:TA}{N:Nat}{d:TD}{R:RD}{H X:Int->Int->Int}{E:EN}{D:AD}
theorem J8(s:WS h A a N d R)(V:KQ)(hk:V (.int .i64 (A.n:Int)) h):CallW prog 122 [.pointer (some ⟨A.wb,0,none⟩)] h V:=by
 have gw:=s.r.gw;refine av mixed ?_;rw[ZX];simp(disch:=try exact Y)only[Wz,jF,aG,gw];exact hk
theorem S9(s:BV h a N d)(hlo:h.lo<=h.nx)(V:KQ)(hk:∀h',Le h h'->V (uV a.c) h'):CallW prog 176 [.pointer (some ⟨a.tb,0,none⟩)] h V:=by
 refine av mixed ?_;rw[aax];have gt:=s.is.nN;have ht:=s.is.ltt;simp(disch:=try exact Y)only[Wz,pE,aG,gt];exact hk _ ((Le.refl h).new _)
theorem WR(s:WS h A a N d R)(V:KQ)(hk:∀h',Le h h'->V (uV a.c) h'):CallW prog 124 [.pointer (some ⟨A.wb,0,none⟩)] h V:=by
 have gw:=s.r.gw;have BT:=s.r.BT;have hlo:=s.lo;refine av mixed ?_;rw[ZZ];simp(disch:=try exact Y)only[Wz,jF,aG,gw];have Ma:=(Le.refl h).new (aa [.int .i64 0,.int .i64 0,.int .i64 0,.int .i64 0] 115 false);have sB:=s.le Ma;refine S9 sB.t (by show h.lo<=h.nx+1;omega) _ ?_;intro h1 bG;have n1:h.nx+1<=h1.nx:=bG.nx;have l1:h1.lo=h.lo:=bG.lo;have g:=(bG.get h.nx (Nat.lt_succ_self _)).trans (T.ah _ _ _);simp(disch:=try exact Y)only[Wz,uV,g];exact hk _ ((Ma.trans bG).set (Nat.le_refl _) _)
theorem adZ(l_ most:Int)(h1:l_<0)(h2:0<=most)(h3:most<=8)(h:Heap)(V:KQ)(hlo:h.lo<=h.nx)(hk:∀pb lb h',Le h h'->h.nx<=lb->h.nx<=pb->pb<h'.nx->lb<h'.nx->h'.bl.get pb=some (aa [pt lb,.int .i64 l_,.int .i64 most] 227 false)->h'.bl.get lb=some (aa [.slice none 0 0] 288 false)->V (.tuple ⟨[pt pb,.int .i64 0]⟩) h'):CallW prog 123 [.int .i64 l_,.int .i64 most] h V:=by
 refine av mixed ?_;rw[ZY];simp(disch:=try exact Y)only[Wz];exact hk (h.nx+1) h.nx _ (((Le.refl h).new _).new _) (Nat.le_refl _) (Nat.le_succ _) (by show h.nx+1<h.nx+1+1;omega) (by show h.nx<h.nx+1+1;omega) (T.ah _ _ _) ((T.aj _ _ (by omega)).trans (T.ah _ _ _))
theorem ad0(W:∀y out,WI h A a H X N 0 y out)(hn:1<=A.n)(hc:0<=a.c.P/\a.c.P<=8)(V:KQ)(hk:∀h' z,AI h' ⟨A,a,z⟩ H X N ⟨0,[],[],[]⟩->z.most=a.c.P->Le h h'->V (.tuple ⟨[pt z.ab,.int .i64 0]⟩) h'):CallW prog 72 [.pointer (some ⟨A.wb,0,none⟩),.int .i64 ((0:Nat):Int)] h V:=by
 obtain⟨⟨d,R,N0,s1,s2,s3,s4,s5,s6,sc,t⟩,s7,s8⟩:=W ⟨0,0,0,0,0,0,0⟩ 0;have hlo:=s1.lo;refine av mixed ?_;rw[agH];have e0:((0:Nat):Int)=0:=rfl;simp(disch:=try exact Y)only[Wz,jF,LC,e0];refine J8 s1 _ ?_;simp(disch:=try exact Y)only[Wz,aZ (show ¬(A.n:Int)<=0 by omega),fV (show(0:Int)<(A.n:Int)by omega),LB];refine WR s1 _ ?_;intro h1 bG;have n1:=bG.nx;have l1:=bG.lo;simp(disch:=try exact Y)only[Wz,uV,OB];refine adZ (-1) a.c.P (by decide) hc.1 hc.2 h1 _ (by omega) ?_;intro pb lb h2 bt q1 q2 q3 q4 g1 g2;have n2:=bt.nx;have l2:=bt.lo;simp(disch:=try exact Y)only[Wz];have dg:=(Le.refl h2).new (aa [pt A.wb,.int .i64 0,.int .i64 0,.slice none 0 0,.slice none 0 0,pt pb,.pointer none] 155 false);refine hk _ ⟨h2.nx,pb,lb,A.wb,0,a.c.P⟩ ⟨λy o=>(W y o).le ((bG.trans bt).trans dg),⟨⟨Nat.lt_succ_self _,by show h2.lo<=h2.nx;omega⟩,⟨.slice none 0 0,.slice none 0 0,T.ah _ _ _,jt.nil _,jt.nil _⟩,⟨by show pb<h2.nx+1;omega,by show h2.lo<=pb;omega⟩,(dg.get _ q3).trans g1,⟨by show lb<h2.nx+1;omega,by show h2.lo<=lb;omega⟩,.slice none 0 0,(dg.get _ q4).trans g2,jt.nil _⟩,rfl,rfl⟩ rfl ((bG.trans bt).trans dg)
theorem J9(s:AI h E H X N D)(V:KQ)(hk:V (.int .i64 D.l_) h):CallW prog 28 [pt E.z.ab] h V:=by
 obtain⟨va,vh,ga,_,_⟩:=s.ag;refine av mixed ?_;rw[agc];simp(disch:=try exact Y)only[Wz,p7,aG,ga];exact hk
theorem ad1(s:AI h E H X N D)(l2:D.has.length<=1000)(V:KQ)(hk:∀v h',DX h h' v D.has->Le h h'->V v h'):CallW prog 33 [pt E.z.ab] h V:=by
 obtain⟨va,vh,ga,_,sh⟩:=s.ag;refine av mixed ?_;rw[agd];simp(disch:=try exact Y)only[Wz,p7,aG,ga];refine u7 D.has h vh _ sh.1 (by omega) s.lo ?_;intro v h1 o1 bG;exact hk v h1 o1 bG
theorem OC(s:AI h E H X N D)(h0:D.l_=0)(x:Int)(hx:1<=x)(V:KQ)(hk:∀h',AI h' E H X N { D with l_:=x }->FK E.a h h'->V (.int .i64 0) h'):CallW prog 35 [pt E.z.ab,.int .i64 x] h V:=by
 obtain⟨va,vh,ga,sa,sh⟩:=s.ag;have rM:=s.g.D5;obtain⟨va0,vh0,g1,_,_⟩:=s.g.ga;have q:=s.g.set (D':={ D with l_:=x }) (cp':=none) sa sh rfl;have hp:=λob y' o'=>(s.w y' o').put g1 (by unfold lZ;decide) (by unfold jO;decide) ob;have fp:=λob=>FK.put (a:=E.a) g1 (.inl rfl) ob;unfold agO at q;rw[s.wb,s.th]at q;refine av mixed ?_;rw[age];simp(disch:=try exact Y)only[Wz,p7,dL (show 1<=x from hx),aG,ga,br h0,Lm];exact hk _ ⟨hp _,q,s.wb,s.th⟩ (fp _)
end
section
variable {h h':Heap}{A:WA}{a:TA}{N n:Nat}{H X:Int->Int->Int}{y:iz}{out:Int}
end
structure ai8(E:EN)(S:Nat->Nat->Heap->Prop)(Post:Nat->Int->Heap->Prop):Prop where
 le:∀i n h,S i n h->(n=3\/n=2\/n=1)/\i<=62
 s32:∀i n h (V:KQ),S i (n+1) h->n≠0->(∀h',S (i+1) n h'->V (.tuple ⟨[.bool false,.int .i64 0,.int .i64 0]⟩) h')->CallW prog 74 [pt E.z.ab] h V
 s1:∀i h (V:KQ),S i 1 h->(∀h',S (i+1) 3 h'->V (.tuple ⟨[.bool false,.int .i64 0,.int .i64 0]⟩) h')->(∀code h',Post i code h'->V (.tuple ⟨[.bool true,.int .i64 code,.int .i64 0]⟩) h')->CallW prog 74 [pt E.z.ab] h V
theorem Be(L:List L4)(p:L4):(cM L p).length<=L.length+1:=by
 rcases Bd L p with⟨A,q,B,rfl,_,_,_,e⟩|⟨A,B,rfl,_,e⟩
 .rw[e];simp
 .rw[e];simp;omega
theorem S_(L:List L4)(p:L4):jb (aO L) p.t p.r p.m=aO (cM L p):=by
 funext t r;rw[me];unfold jb;by_cases h:t=p.t/\r=p.r
 .rw[if_pos h,if_pos ⟨h.1.symm,h.2.symm⟩]
 .rw[if_neg h,if_neg λe=>h ⟨e.1.symm,e.2.symm⟩]
def j7(x:Int)(has:List L4)(p:N3):L4:=⟨x,p.1,p.2.1,bN (aO has p.1 p.2.1) p.2.2⟩
structure Iy(x:Int)(J:Nat->List L4->List N3->Prop)(F:Nat->List L4->Prop):Prop where
 bnd:∀i has p P,J i has (p::P)->i<=60/\has.length<=999/\(p::P).length<=100/\rX (p::P)/\∀t r,kn (aO has t r)=true
 fin:∀i has p P,J i has (p::P)->dZ (cM has (j7 x has p)) (p::P)=[]->F (i+2) (cM has (j7 x has p))
 nxt:∀i has p P q Q,J i has (p::P)->dZ (cM has (j7 x has p)) (p::P)=q::Q->J (i+3) (cM has (j7 x has p)) (q::Q)
 kn:∀i has p P,J i has (p::P)->∀t r,kn (aO (cM has (j7 x has p)) t r)=true
structure ad2(E:EN)(Z:Heap->Prop)(x:Int)(asked:List L4)(t r m w:Int)(N0:Nat)(J:Nat->List L4->List N3->Prop)(i n:Nat)(h:Heap):Prop where
 ex:∃(i0:Nat)(has:List L4)(p:N3)(P:List N3)(N kb:Nat)(H:Int->Int->Int)(out:Int)(c:CD),i+n=i0+3/\J i0 has (p::P)/\AW h E H (λ_ _=>x) N n (qg ⟨x,asked,has,[]⟩ c p) out ⟨x,asked,has,[]⟩ kb c/\c.fc=p::P/\c.ask=qg ⟨x,asked,has,[]⟩ c p/\
  c.beh=126/\c.code=0/\c.t=t/\c.r=r/\c.m=m/\c.w=w/\3*N<=3*N0+i0+2/\Z h/\
  ((n≠1/\H=aO has)\/(n=1/\((out=1/\H=aO (cM has (j7 x has p)))\/(out=5/\H=aO has/\8<=N))))
 n3:n=3\/n=2\/n=1
def ad3(E:EN)(Z:Heap->Prop)(x:Int)(asked:List L4)(t r m:Int)(N0:Nat)(J:Nat->List L4->List N3->Prop)(F:Nat->List L4->Prop)(i:Nat)(code:Int)(h:Heap):Prop:=
 ∃has asked' N,AI h E (aO has) (λ_ _=>x) N ⟨x,asked',has,[]⟩/\Z h/\3*N<=3*N0+i+2/\((code=1/\asked'=cM asked ⟨x,t,r,bN (aO asked t r) m⟩/\F i has)\/(code=5/\asked'=asked/\8<=N/\∃i0 p P,i=i0+2/\J i0 has (p::P)))
theorem WT{E:EN}{Z:Heap->Prop}(hZ:∀{h h':Heap},Z h->FK E.a h h'->Z h'){x:Int}(hx:0<=x){asked:List L4}{t r m w:Int}{N0:Nat}{J:Nat->List L4->List N3->Prop}{F:Nat->List L4->Prop}(C:Iy x J F)(hN0:N0<=800)(la:asked.length<=1000)(hw:0<=w)(hm:kn m=true):ai8 E (ad2 E Z x asked t r m w N0 J) (ad3 E Z x asked t r m N0 J F):=by
 refine⟨λi n h s=>?_,λi n h V s hn hk=>?_,λi h V s dB hk2=>?_⟩
 .obtain⟨⟨i0,has,p,P,N,kb,H,out,c,e1,hJ,_⟩,n3⟩:=s;have:=(C.bnd i0 has p P hJ).1;exact⟨n3,by omega⟩
 ·obtain⟨⟨i0,has,p,P,N,kb,H,out,c,e1,hJ,s,c1,c2,c3,c4,c5,c6,c7,c8,c9,f,hH⟩,n3⟩:=s;obtain⟨b1,b2,b3,b4,b5⟩:=C.bnd i0 has p P hJ;have ok:=b4 p (.head _);have hE:H=aO has:=by
   rcases hH with⟨_,e⟩|⟨e,_⟩
   .exact e
   .omega
  have S8:c.ask.k≠0:=by rw[c2];show(1:Int)≠0;decide
  refine Iv s (by omega) S8 (ad2 E Z x asked t r m w N0 J (i+1) n) ?_ V hk;intro κ1 dB;have n2:n=2\/n=1:=by omega
  rcases n2 with rfl|rfl
  .refine CO s.w κ1 λh' w' k'=>dB h' ⟨⟨i0,has,p,P,N,kb,H,out,c,by omega,hJ,s.wk w' k',c1,c2,c3,c4,c5,c6,c7,c8,c9,hZ f k'.fk,.inl ⟨by decide,hE⟩⟩,.inr (.inl rfl)⟩
  .refine Il s.w (by omega) rfl (λ_=>hx) κ1 ?_ ?_ ?_ ?_
   .intro _ h' w' k';refine dB h' ⟨⟨i0,has,p,P,N,kb,_,1,c,by omega,hJ,s.wk w' k',c1,c2,c3,c4,c5,c6,c7,c8,c9,hZ f k'.fk,.inr ⟨rfl,.inl ⟨rfl,?_⟩⟩⟩,.inr (.inr rfl)⟩;rw[<-S_,hE]
    show jb (aO has) p.1 p.2.1 (bN (aO has p.1 p.2.1) (bN (aO has p.1 p.2.1) p.2.2))=_
    rw[(ki (b5 _ _) ok.2.1 ok.2.2).2.2.1];rfl
   .intro _ _ h8 h' w' k';exact dB h' ⟨⟨i0,has,p,P,N,kb,_,5,c,by omega,hJ,s.wk w' k',c1,c2,c3,c4,c5,c6,c7,c8,c9,hZ f k'.fk,.inr ⟨rfl,.inr ⟨rfl,hE,h8⟩⟩⟩,.inr (.inr rfl)⟩
   .intro e;exact absurd e (by show ¬(1:Int)=2;decide)
   .intro e;exact absurd e (by show ¬(1:Int)=3;decide)
 .obtain⟨⟨i0,has,p,P,N,kb,H,out,c,e1,hJ,s,c1,c2,c3,c4,c5,c6,c7,c8,c9,f,hH⟩,n3⟩:=s;obtain⟨b1,b2,b3,b4,b5⟩:=C.bnd i0 has p P hJ;have ok:=b4 p (.head _);have hi:i=i0+2:=by omega
  have S8:c.ask.k≠0:=by rw[c2];show(1:Int)≠0;decide
  have ao2:c.ask.k=1:=by rw[c2];rfl
  have ham:c.ask.m=bN (aO has p.1 p.2.1) p.2.2:=by rw[c2];rfl
  refine Iw s S8 V ?_;intro h1 s1 f1;rw[c3];refine Oy s1 (p:=p) (P:=P) c1 ao2 (by show has.length<=1000;omega) out _ ?_ ?_
  ·intro ho h2 s2 f2;have hH:out=5/\H=aO has/\8<=N:=by
    rcases hH with⟨e,_⟩|⟨_,⟨e,_⟩|e⟩
    .exact absurd rfl e
    .exact absurd e ho
    .exact e
   obtain⟨e1,e2,e3⟩:=hH;refine⟨H,_,N,0,_,_,_,_,s2,f2,λe=>?_,λ_=>⟨rfl,λh3 a3 f3=>?_⟩⟩
   .exact absurd (show out=0 from e) (by omega)
   .refine hk2 out h3 ⟨has,asked,N,by rw[<-e2];exact a3,hZ (hZ (hZ f f1) f2) f3,by omega,.inr ⟨e1,rfl,e3,i0,p,P,hi,hJ⟩⟩
  ·intro ho h2 s2 f2;have hH:H=aO (cM has (j7 x has p)):=by
    rcases hH with⟨e,_⟩|⟨_,⟨_,e⟩|⟨e,_⟩⟩
    .exact absurd rfl e
    .exact e
    .omega
   have eD:(⟨x,asked,cM has ⟨x,p.1,p.2.1,c.ask.m⟩,[]⟩:AD)=⟨x,asked,cM has (j7 x has p),[]⟩:=by rw[ham];rfl
   have s2':AW h2 E H (λ_ _=>x) N 0 (qg ⟨x,asked,has,[]⟩ c p) out ⟨x,asked,cM has (j7 x has p),[]⟩ kb { c with seen:=true }:=by
    have:=s2;rw[ham]at this;exact this
   have Ph:=Be has (j7 x has p);refine Mv s2' (by omega) rfl (by show(cM has (j7 x has p)).length<=1000;omega) la (by show c.fc.length<=100;rw[c1];exact b3) (by show 0<=c.w;omega) (by show kn c.m=true;rw[c7];exact hm) (by show rX c.fc;rw[c1];exact b4) (C.kn i0 has p P hJ) 0 _ ?_ ?_
   .intro hL h3 s3 f3;have hL:dZ (cM has (j7 x has p)) (p::P)=[]:=by rw[<-c1];exact hL
    refine⟨H,_,N,0,_,_,_,_,s3,f2.trans f3,λe=>?_,λ_=>⟨rfl,λh4 a4 f4=>?_⟩⟩
    .exact absurd (show(1:Int)=0 from e) (by decide)
    .refine hk2 1 h4 ⟨_,_,N,by rw[<-hH];exact a4,hZ (hZ (hZ (hZ f f1) f2) f3) f4,by omega,.inl ⟨rfl,?_,?_⟩⟩
     .show cM asked ⟨x,c.t,c.r,bN (aO asked c.t c.r) c.m⟩=_
      rw[c5,c6,c7]
     .rw[hi];exact C.fin i0 has p P hJ hL
   .intro q Q hL h3 s3 f3;have hL:dZ (cM has (j7 x has p)) (p::P)=q::Q:=by rw[<-c1];exact hL
    refine⟨H,_,N+1,3,_,_,_,_,s3,f2.trans f3,λ_=>?_,λe=>absurd c4 e⟩;refine dB h3 ⟨⟨i0+3,_,q,Q,N+1,kb,H,0,{ c with seen:=true,fc:=q::Q,ask:=qg ⟨x,asked,cM has (j7 x has p),[]⟩ c q },by omega,C.nxt i0 has p P q Q hJ hL,s3,rfl,rfl,c3,c4,c5,c6,c7,c8,by omega,hZ (hZ (hZ f f1) f2) f3,.inl ⟨by decide,hH⟩⟩,.inl rfl⟩
def ry(E:EN)(aX:List L4)(g:L4):List L4:=if wK g.t g.r g.m=true/\0<E.z.most-aX.length then cM aX ⟨-1-E.z.th,g.t,g.r,g.m⟩else aX
structure YG(E:EN)(x:Int)(M:List (Int × Int))(has aX:List L4)(H X:Int->Int->Int):Prop where
 h:jJ M has
 p:jJ M aX
 dis:∀t r,aO has t r≠0->aO aX t r=0
 le:(aX.length:Int)<=E.z.most
 H:∀t r,H t r=if aO has t r≠0 then aO has t r else aO aX t r
 X:∀t r,aO has t r≠0->X t r=x
section
variable {E:EN}{x:Int}{M:List (Int × Int)}{has aX:List L4}{H X:Int->Int->Int}
theorem u9{t r t' r':Int}(h:aO (fL has t r) t' r'≠0):¬(t=t'/\r=r')/\aO has t' r'≠0:=by
 rw[mV]at h;by_cases e:t=t'/\r=r'
 .rw[if_pos e]at h;exact absurd rfl h
 .rw[if_neg e]at h;exact⟨e,h⟩
theorem YG.drop(s:YG E x M has aX H X){g:L4}(hg:g∈has)(hn:¬(wK g.t g.r g.m=true/\0<E.z.most-aX.length)):YG E x M (fL has g.t g.r) (ry E aX g) (jb H g.t g.r 0) X:=by
 have e0:ry E aX g=aX:=if_neg hn;rw[e0];have WU:aO has g.t g.r≠0:=by rw[s.h.mode hg];exact(s.h.ok g hg).2.2
 refine⟨s.h.drop _ _,s.p,λt r h=>s.dis t r (u9 h).2,s.le,λt r=>?_,λt r h=>s.X t r (u9 h).2⟩;by_cases e:g.t=t/\g.r=r
 .have e1:aO (fL has g.t g.r) t r=0:=by rw[mV,if_pos e]
  rw[e1,if_neg (λh=>h rfl),<-e.1,<-e.2,rU,s.dis _ _ WU]
 .have e1:aO (fL has g.t g.r) t r=aO has t r:=by rw[mV,if_neg e]
  rw[e1,lS H λh=>e ⟨h.1.symm,h.2.symm⟩];exact s.H t r
theorem YG.hand(s:YG E x M has aX H X){g:L4}(hg:g∈has)(hn:wK g.t g.r g.m=true/\0<E.z.most-aX.length)(to:Int):YG E x M (fL has g.t g.r) (ry E aX g) H (jb X g.t g.r to):=by
 have e0:ry E aX g=cM aX ⟨-1-E.z.th,g.t,g.r,g.m⟩:=if_pos hn;rw[e0];have WU:aO has g.t g.r≠0:=by rw[s.h.mode hg];exact(s.h.ok g hg).2.2
 refine⟨s.h.drop _ _,s.p.put (s.h.ok g hg) (s.h.sub g hg),λt r h=>?_,?_,λt r=>?_,λt r h=>?_⟩
 .obtain⟨h1,h2⟩:=u9 h;rw[me,if_neg h1];exact s.dis t r h2
 .have:=Be aX ⟨-1-E.z.th,g.t,g.r,g.m⟩;omega
 .have hH:=s.H t r;by_cases e:g.t=t/\g.r=r
  .have e1:aO (fL has g.t g.r) t r=0:=by rw[mV,if_pos e]
   have e2:aO (cM aX ⟨-1-E.z.th,g.t,g.r,g.m⟩) t r=g.m:=by rw[me,if_pos e]
   rw[e1,if_neg (λh=>h rfl),e2,hH,<-e.1,<-e.2,if_pos WU,s.h.mode hg]
  .have e1:aO (fL has g.t g.r) t r=aO has t r:=by rw[mV,if_neg e]
   have e2:aO (cM aX ⟨-1-E.z.th,g.t,g.r,g.m⟩) t r=aO aX t r:=by rw[me,if_neg e]
   rw[e1,e2];exact hH
 .obtain⟨h1,h2⟩:=u9 h;rw[lS X λe=>h1 ⟨e.1.symm,e.2.symm⟩];exact s.X t r h2
theorem OD{g:L4}{G:List L4}(s:jJ M has)(hp:(g::G).Perm has):G.Perm (fL has g.t g.r):=by
 have h1:fL (g::G) g.t g.r=G:=by
  have nd:((g::G).map iK).Nodup:=((hp.map iK).nodup_iff).2 s.nd;rw[List.map_cons,List.nodup_cons]at nd;unfold fL;rw[List.filter_cons,ia.2 ⟨rfl,rfl⟩,if_neg (by decide),List.filter_eq_self.2];intro y hy;rw[Bool.not_eq_true',ru];rintro⟨e1,e2⟩;exact nd.1 (List.mem_map.2 ⟨y,hy,by unfold iK;rw[e1,e2]⟩)
 have h2:(fL (g::G) g.t g.r).Perm (fL has g.t g.r):=hp.filter _
 rwa [h1]at h2
end
theorem My{E:EN}{D:AD}{g:L4}:(vz E D g).k≠0/\(vz E D g).k≠1:=by
 unfold vz;split
 .exact⟨show(3:Int)≠0 by decide,show(3:Int)≠1 by decide⟩
 .exact⟨show(2:Int)≠0 by decide,show(2:Int)≠1 by decide⟩
structure SGo(E:EN)(Z:Heap->Prop)(x:Int)(M:List (Int × Int))(asked:List L4)(N0 L0:Nat)(i n:Nat)(h:Heap):Prop where
 ex:∃(i0:Nat)(g:L4)(G has aX:List L4)(N kb:Nat)(H X H0 X0:Int->Int->Int)(out:Int)(c:CD),i+n=i0+3/\i0+3*(G.length+1)<=1+3*L0/\AW h E H X N n (vz E ⟨x,asked,has,aX⟩ g) out ⟨x,asked,has,aX⟩ kb c/\c.goes=g::G/\(g::G).Perm has/\c.ask=vz E ⟨x,asked,has,aX⟩ g/\
  c.beh=191/\c.code=0/\3*N<=3*N0+i0+2/\Z h/\YG E x M has aX H0 X0/\(n≠1->H=H0/\X=X0)/\(n=1->out=1/\YG E x M (fL has g.t g.r) (ry E aX g) H X)
 n3:n=3\/n=2\/n=1
def PGo(E:EN)(Z:Heap->Prop)(M:List (Int × Int))(i:Nat)(code:Int)(h:Heap):Prop:=
 code=1/\∃aX X N,AI h E (aO aX) X N ⟨0,[],[],aX⟩/\jJ M aX/\(aX.length:Int)<=E.z.most/\Z h
theorem go_run{E:EN}{Z:Heap->Prop}(hZ:∀{h h':Heap},Z h->FK E.a h h'->Z h'){x:Int}(hx:1<=x){M:List (Int × Int)}(hM:M.length<=19){asked:List L4}{N0 L0:Nat}(hL0:L0<=19)(hN0:N0<=800)(sJ:0<=E.z.most/\E.z.most<=8)(BW:E.z.th=0):ai8 E (SGo E Z x M asked N0 L0) (PGo E Z M):=by
 refine⟨λi n h s=>?_,λi n h V s hn hk=>?_,λi h V s dB hk2=>?_⟩
 .obtain⟨⟨i0,g,G,has,aX,N,kb,H,X,H0,X0,out,c,e1,e2,_⟩,n3⟩:=s;exact⟨n3,by omega⟩
 .obtain⟨⟨i0,g,G,has,aX,N,kb,H,X,H0,X0,out,c,e1,e2,s,c1,hp,c2,c3,c4,c5,f,P,hH,_⟩,n3⟩:=s;obtain⟨rfl,rfl⟩:=hH (by omega);have hg:g∈has:=hp.mem_iff.1 (.head _);have WU:aO has g.t g.r≠0:=by rw[P.h.mode hg];exact(P.h.ok g hg).2.2
  have S8:c.ask.k≠0:=by rw[c2];exact My.1
  have Ur:(vz E ⟨x,asked,has,aX⟩ g).x=X (vz E ⟨x,asked,has,aX⟩ g).t (vz E ⟨x,asked,has,aX⟩ g).r:=by
   unfold vz;split<;>exact(P.X _ _ WU).symm
  have hg0:(vz E ⟨x,asked,has,aX⟩ g).t=g.t/\(vz E ⟨x,asked,has,aX⟩ g).r=g.r/\(vz E ⟨x,asked,has,aX⟩ g).x=x:=by
   unfold vz;split<;>exact⟨rfl,rfl,rfl⟩
  have hHg:H g.t g.r≠0:=by rw[P.H,if_pos WU];exact WU
  refine Iv s (by omega) S8 (SGo E Z x M asked N0 L0 (i+1) n) ?_ V hk;intro κ1 dB;have n2:n=2\/n=1:=by omega
  rcases n2 with rfl|rfl
  .refine CO s.w κ1 λh' w' k'=>dB h' ⟨⟨i0,g,G,has,aX,N,kb,H,X,H,X,out,c,by omega,e2,s.wk w' k',c1,hp,c2,c3,c4,c5,hZ f k'.fk,P,λ_=>⟨rfl,rfl⟩,λe=>by omega⟩,.inr (.inl rfl)⟩
  .refine Il s.w (by omega) Ur (λ_=>by rw[hg0.2.2];omega) κ1 ?_ ?_ ?_ ?_
   .intro e;exact absurd e My.2
   .intro e;exact absurd e My.2
   ·intro e h' w' k';have hn:¬(wK g.t g.r g.m=true/\0<E.z.most-aX.length):=by
     intro hc;unfold vz at e;rw[if_pos hc]at e;exact absurd e (by show ¬(3:Int)=2;decide)
    rw[hg0.1,hg0.2.1]at w';rw[if_neg hHg]at w';exact dB h' ⟨⟨i0,g,G,has,aX,N,kb,_,X,H,X,1,c,by omega,e2,s.wk w' k',c1,hp,c2,c3,c4,c5,hZ f k'.fk,P,λe=>absurd rfl e,λ_=>⟨rfl,P.drop hg hn⟩⟩,.inr (.inr rfl)⟩
   ·intro e h' w' k';have hn:wK g.t g.r g.m=true/\0<E.z.most-aX.length:=by
     refine Classical.byContradiction λhc=>?_;unfold vz at e;rw[if_neg hc]at e;exact absurd e (by show ¬(2:Int)=3;decide)
    unfold D3 at w';rw[hg0.1,hg0.2.1]at w';rw[if_neg hHg,if_neg hHg]at w';exact dB h' ⟨⟨i0,g,G,has,aX,N,kb,_,_,H,X,1,c,by omega,e2,s.wk w' k',c1,hp,c2,c3,c4,c5,hZ f k'.fk,P,λe=>absurd rfl e,λ_=>⟨rfl,P.hand hg hn _⟩⟩,.inr (.inr rfl)⟩
 .obtain⟨⟨i0,g,G,has,aX,N,kb,H,X,H0,X0,out,c,e1,e2,s,c1,hp,c2,c3,c4,c5,f,P,_,hH⟩,n3⟩:=s;obtain⟨rfl,P'⟩:=hH rfl;have hg:g∈has:=hp.mem_iff.1 (.head _);have WU:aO has g.t g.r≠0:=by rw[P.h.mode hg];exact(P.h.ok g hg).2.2
  have S8:c.ask.k≠0:=by rw[c2];exact My.1
  have hi:i=i0+2:=by omega
  have lh:=P.h.len;have lp:=P.p.len;have lp':=P'.p.len;have lh':=P'.h.len;have hpG:=OD P.h hp;have hGl:=hpG.length_eq;have aja:(if c.ask.k=3/\(1:Int)=1 then D6 E.z.most (-1-E.z.th) aX g.t g.r g.m else aX)=ry E aX g:=by
   rw[c2];unfold vz ry;by_cases hn:wK g.t g.r g.m=true/\0<E.z.most-aX.length
   .rw[if_pos hn,if_pos hn,if_pos ⟨rfl,rfl⟩];unfold D6;rw[if_neg (by rw[hn.1];decide),if_neg (λh=>h (P.dis _ _ WU)),if_neg (by omega)]
   .rw[if_neg hn,if_neg hn,if_neg (λe=>absurd e.1 (by show ¬(2:Int)=3;decide))]
  refine Iw s S8 V ?_;intro h1 s1 f1;rw[c3];refine Oz s1 sJ (by show has.length<=1000;omega) (by show aX.length<=1000;omega) (g:=g) (G:=G) c1 1 _ ?_;intro h2 s2 f2;have eD:sI E ⟨x,asked,has,aX⟩ { c with seen:=true } g 1=⟨x,asked,fL has g.t g.r,ry E aX g⟩:=by
   unfold sI;rw[aja]
  rw[eD]at s2;refine Mw s2 (by omega) sJ (by show(ry E aX g).length<=1000;omega) (by show G.length<=1000;omega) (λq hq=>?_) (by show x≠-1-E.z.th;omega) 0 _ ?_ ?_
  .exact(P'.h.ok q (hpG.mem_iff.1 hq)).1
  .intro hG h3 s3 f3;have hG:G=[]:=hG;have hh0:fL has g.t g.r=[]:=by rw[hG]at hpG;exact List.Perm.eq_nil hpG.symm
   refine⟨H,X,N,0,_,_,_,_,s3,f2.trans f3,λe=>?_,λ_=>⟨rfl,λh4 a4 f4=>?_⟩⟩
   .exact absurd (show(1:Int)=0 from e) (by decide)
   ·refine hk2 1 h4 ⟨rfl,ry E aX g,X,N,?_,P'.p,P'.le,hZ (hZ (hZ (hZ f f1) f2) f3) f4⟩;have eH:H=aO (ry E aX g):=by
     funext t r;rw[P'.H t r,hh0];exact if_neg (λh=>h rfl)
    rw[<-eH];exact a4
  .intro q Q hG h3 s3 f3;have hG:G=q::Q:=hG;refine⟨H,X,N+1,3,_,_,_,_,s3,f2.trans f3,λ_=>?_,λe=>absurd c4 e⟩;refine dB h3 ⟨⟨i0+3,q,Q,_,_,N+1,kb,H,X,H,X,0,_,by omega,?_,s3,hG,by rw[<-hG];exact hpG,rfl,c3,c4,by omega,hZ (hZ (hZ f f1) f2) f3,P',λ_=>⟨rfl,rfl⟩,λe=>by omega⟩,.inl rfl⟩;have:G.length=Q.length+1:=by rw[hG];rfl
   omega
theorem ad4(t r:Int)(h:Heap)(V:KQ)(hlo:h.lo<=h.nx)(hk:∀h',Le h h'->V (cV t r) h'):CallW prog 71 [.int .i64 t,.int .i64 r] h V:=by
 refine av mixed ?_;rw[agG];simp(disch:=try exact Y)only[Wz];exact hk _ ((Le.refl h).new _)
theorem ajb(h:Heap)(V:KQ)(hlo:h.lo<=h.nx)(hk:∀h',Le h h'->V (cV (-1) (-1)) h'):CallW prog 75 [] h V:=by
 refine av mixed ?_;rw[agJ];simp(disch:=try exact Y)only[Wz];exact hk _ ((Le.refl h).new _)
theorem lI.fk{h0 h1 h2:Heap}(ro:lI h0)(l:Le h0 h1){a:TA}(k:FK a h1 h2):Le h0 h2:=
 ⟨Nat.le_trans l.nx k.nx,k.lo.trans l.lo,λd hd=>by
  have e:=l.get d hd;exact(k.ro d (Nat.lt_of_lt_of_le hd l.nx) (λvs t o=>by rw[e];exact(ro d).1 vs t o) (λes c=>by rw[e];exact(ro d).2 es c)).trans e⟩
section
variable {h h':Heap}{A:WA}{a:TA}{N n:Nat}{d:TD}{R:RD}{H X:Int->Int->Int}{x:iz}{out:Int}
end
def pH(e:HE):MapEntry:={ key:=cV e.t e.r,val:=.int .i64 e.w,born:=e.born }
def eM(M:List HE)(t r:Int):Option Int:=(M.find? (jX t r)).map (·.w)
theorem Mz(h:Heap)(t r:Int):∀(M:List HE)(i:Nat),(ff prog h 28 (cV t r) (M.map pH) i=some none/\(∀e∈M,¬(t=e.t/\r=e.r))/\M.find? (jX t r)=none)\/
  ∃(j:Nat)(e:HE),ff prog h 28 (cV t r) (M.map pH) i=some (some (i+j,pH e))/\M[j]? = some e/\t=e.t/\r=e.r/\M.find? (jX t r)=some e:=by
 intro M
 induction M with
 |nil=>intro i;exact .inl ⟨rfl,(λe he=>nomatch he),rfl⟩
 |cons e M ih=>
  intro i;have hf:ff prog h 28 (cV t r) ((e::M).map pH) i=(match(some (decide (t=e.t/\r=e.r)):Option Bool)with|some true=>some (some (i,pH e))|some false=>ff prog h 28 (cV t r) (M.map pH) (Nat.succ i)|none=>none):=by
   rw[<-eqN h];rfl
  rw[hf];by_cases h1:t=e.t/\r=e.r
  .rw[br h1];exact .inr ⟨0,e,rfl,rfl,h1.1,h1.2,by rw[List.find?_cons];unfold jX;rw[br h1]⟩
  .rw[aZ h1];have h2:jX t r e=false:=aZ h1;rcases ih (Nat.succ i)with⟨g1,g2,g3⟩|⟨j,e',g1,g2,g3,g4,g5⟩
   .exact .inl ⟨g1,(λx hx=>by rcases List.mem_cons.1 hx with rfl|hx;exact h1;exact g2 x hx),by rw[List.find?_cons,h2];exact g3⟩
   .exact .inr ⟨j+1,e',by rw[show i+(j+1)=Nat.succ i+j by omega];exact g1,g2,g3,g4,by rw[List.find?_cons,h2];exact g5⟩
section
variable {β:Type}{fl:β}{M:List HE}{clock:Nat}{h:Heap}{bm:Nat}
theorem YH(g:h.bl.get bm=some (.map (M.map pH) clock))(t r:Int)(V:Z7 β):cr fl prog 28 (.int .i64 0) true (.map (some bm)) (cV t r) h V=V (.tuple ⟨[.int .i64 ((eM M t r).getD 0),.bool (eM M t r).isSome]⟩) h:=by
 unfold cr ij eM;rw[DP];simp only[g];rcases Mz h t r M 0 with⟨g1,_,g2⟩|⟨j,e,g1,_,_,_,g2⟩
 .rw[g1,g2];rfl
 .rw[g1,g2];rfl
theorem ad5(g:h.bl.get bm=some (.map (M.map pH) clock))(t r:Int)(V:Z7 β):cr fl prog 28 (.int .i64 0) false (.map (some bm)) (cV t r) h V=V (.int .i64 ((eM M t r).getD 0)) h:=by
 unfold cr ij eM;rw[DP];simp only[g];rcases Mz h t r M 0 with⟨g1,_,g2⟩|⟨j,e,g1,_,_,_,g2⟩
 .rw[g1,g2];rfl
 .rw[g1,g2];rfl
end
def zE(t r:Int)(v:Int)(b:Nat):HE:=⟨t,r,0,b,undef,v,[]⟩
theorem ad6{M:List HE}{clock:Nat}{h:Heap}{bm:Nat}(o:dw M clock)(g:h.bl.get bm=some (.map (M.map pH) clock))(hlo:h.lo<=bm)(t r v:Int)(V:KQ)(hk:∀M' clock' born,dw M' clock'->M'.Perm (M.filter (λx=>!jX t r x)++[zE t r v born])->V undef ⟨h.nx,h.bl.aV bm (.map (M'.map pH) clock'),h.lo⟩):bS False prog 28 (.map (some bm)) (cV t r) (.int .i64 v) h V:=by
 unfold bS;rw[DP];simp only[g];rcases Mz h t r M 0 with⟨g1,g2,_⟩|⟨j,e,g1,g2,g3,g4,_⟩
 ·rw[g1];simp only;rw[oG];simp only[b6];rw[bB _ _ _ _ hlo];have xZ:(M++[zE t r v clock]).Perm (M.filter (λx=>!jX t r x)++[zE t r v clock]):=by
   rw[List.filter_eq_self.2 λx hx=>lu.2 (g2 x hx)]
  have:=hk (M++[zE t r v clock]) (clock+1) clock (o.put (e:=zE t r v clock) (Nat.le_succ _) xZ (λx hx _=>Nat.ne_of_lt (o.lt x hx)) (Nat.lt_succ_self _)) xZ;rw[List.map_append]at this;exact this
 ·rw[g1];simp only[pH,g3,g4,ah5];rw[Nat.zero_add,qD _ _ j (pH e) _ (by rw[List.getElem?_map,g2];rfl),bB _ _ _ _ hlo];subst g3 g4;have xZ:(M.set j (zE e.t e.r v e.born)).Perm (M.filter (λx=>!jX e.t e.r x)++[zE e.t e.r v e.born]):=by
   rw[<-erase_filter o.nm g2];obtain⟨hj,_⟩:=List.getElem?_eq_some_iff.1 g2;rw[List.set_eq_take_append_cons_drop,if_pos hj,List.eraseIdx_eq_take_drop_succ];exact(List.perm_middle).trans (List.perm_append_singleton _ _).symm
  have hne:∀x∈M,¬(e.t=x.t/\e.r=x.r)->x.born≠e.born:=λx hx hn Bx=>by
   have:∀(L:List HE),(L.Pairwise λa b=>a.born≠b.born)->e∈L->x∈L->e=x:=by
    intro L
    induction L with
    |nil=>intro _ h;nomatch h
    |cons a L ih=>
     intro hp h1 h2;rw[List.pairwise_cons]at hp;rcases List.mem_cons.1 h1 with rfl|k1<;>rcases List.mem_cons.1 h2 with rfl|k2
     .rfl
     .exact absurd Bx.symm (hp.1 _ k2)
     .exact absurd Bx (hp.1 _ k1)
     .exact ih hp.2 k1 k2
   have:=this M o.bn (List.mem_of_getElem? g2) hx;subst this;exact hn ⟨rfl,rfl⟩
  have:=hk (M.set j (zE e.t e.r v e.born)) clock e.born (o.put (e:=zE e.t e.r v e.born) (Nat.le_refl _) xZ hne (o.lt e (List.mem_of_getElem? g2))) xZ;rw[List.map_set]at this;exact this
theorem ad7{M:List HE}{clock:Nat}{h:Heap}{bm:Nat}(o:dw M clock)(g:h.bl.get bm=some (.map (M.map pH) clock))(hlo:h.lo<=bm)(t r:Int)(V:KQ)(hk:∀h',h'=⟨h.nx,h.bl.aV bm (.map ((M.filter (λx=>!jX t r x)).map pH) clock),h.lo⟩\/(h'=h/\M.filter (λx=>!jX t r x)=M)->V (.tuple ⟨[]⟩) h'):jw False prog 28 (.map (some bm)) (cV t r) h V:=by
 unfold jw;rw[DP];simp only[g];rcases Mz h t r M 0 with⟨g1,g2,_⟩|⟨j,e,g1,g2,g3,g4,_⟩
 .rw[g1];exact hk h (.inr ⟨rfl,List.filter_eq_self.2 λx hx=>lu.2 (g2 x hx)⟩)
 .rw[g1];simp only;rw[Nat.zero_add,ua,bB _ _ _ _ hlo];subst g3 g4;refine hk _ (.inl ?_);rw[<-erase_filter o.nm g2,CE]
structure ic(h:Heap)(sb sm:Nat)(M:List HE)(ck:Nat):Prop where
 tE:sb<h.nx/\h.lo<=sb
 gb:h.bl.get sb=some (aa [.map (some sm)] 175 false)
 kO:sm<h.nx/\h.lo<=sm
 gm:h.bl.get sm=some (.map (M.map pH) ck)
 ok:dw M ck
structure MK(sm:Nat)(h h':Heap):Prop where
 nx:h.nx<=h'.nx
 lo:h'.lo=h.lo
 get:∀d,d<h.nx->d≠sm->h'.bl.get d=h.bl.get d
theorem MK.le{sm:Nat}{h h':Heap}(l:Le h h'):MK sm h h':=⟨l.nx,l.lo,λd hd _=>l.get d hd⟩
theorem MK.trans{sm:Nat}{h h1 h2:Heap}(x:MK sm h h1)(y:MK sm h1 h2):MK sm h h2:=
 ⟨Nat.le_trans x.nx y.nx,y.lo.trans x.lo,λd hd hn=>(y.get d (Nat.lt_of_lt_of_le hd x.nx) hn).trans (x.get d hd hn)⟩
theorem MK.aV{sm:Nat}{h:Heap}(ob:bD):MK sm h ⟨h.nx,h.bl.aV sm ob,h.lo⟩:=⟨Nat.le_refl _,rfl,λd _ hn=>T.aj _ _ λe=>hn e.symm⟩
theorem MK.cell{sm:Nat}{h h':Heap}(k:MK sm h h'){es:List MapEntry}{c:Nat}(gm:h.bl.get sm=some (.map es c)){d:Nat}{v:List Value}{t:TypeId}{o:Bool}(hd:d<h.nx)(hg:h.bl.get d=some (aa v t o)):h'.bl.get d=some (aa v t o):=(k.get d hd (dh hg gm)).trans hg
theorem MK.set{sm:Nat}{h h':Heap}(k:MK sm h h'){b:Nat}(hb:h.nx<=b)(ob:bD):MK sm h ⟨h'.nx,h'.bl.aV b ob,h'.lo⟩:=⟨k.nx,k.lo,λd hd hn=>(T.aj _ _ (by omega)).trans (k.get d hd hn)⟩
theorem ajc(h:Heap)(b o:Nat):lT prog h 100 83 (.pointer (some ⟨b,o,none⟩)) (.pointer none)=some false:=by kernel_rfl
theorem rz{β:Type}{fl:β}(cn:Bool)(b o:Nat)(h:Heap)(V:Z7 β):ay fl prog .eql 83 cn false (.pointer (some ⟨b,o,none⟩)) (.pointer none) h V=V (.bool false) h:=by simp only[ay,ajc,bK]
section
variable {h h':Heap}{sb sm:Nat}{M:List HE}{ck:Nat}
theorem ic.le(s:ic h sb sm M ck)(l:Le h h'):ic h' sb sm M ck:=
 ⟨⟨Nat.lt_of_lt_of_le s.tE.1 l.nx,by rw[l.lo];exact s.tE.2⟩,(l.get _ s.tE.1).trans s.gb,⟨Nat.lt_of_lt_of_le s.kO.1 l.nx,by rw[l.lo];exact s.kO.2⟩,(l.get _ s.kO.1).trans s.gm,s.ok⟩
theorem ic.fk{a:TA}(s:ic h sb sm M ck)(k:FK a h h')(hn:sm∉a.ms):ic h' sb sm M ck:=
 ⟨⟨Nat.lt_of_lt_of_le s.tE.1 k.nx,by rw[k.lo];exact s.tE.2⟩,(k.ty _ _ _ _ s.tE.1 s.gb (by unfold lZ;decide) (by unfold jO;decide) (by unfold Ms;decide)).trans s.gb,⟨Nat.lt_of_lt_of_le s.kO.1 k.nx,by rw[k.lo];exact s.kO.2⟩,(k.mp _ _ _ s.kO.1 s.gm hn).trans s.gm,s.ok⟩
theorem ic.set(s:ic h sb sm M ck){M':List HE}{gF:Nat}(o:dw M' gF):ic ⟨h.nx,h.bl.aV sm (.map (M'.map pH) gF),h.lo⟩ sb sm M' gF:=
 ⟨s.tE,(T.aj _ _ (λe=>dh s.gb s.gm e.symm)).trans s.gb,s.kO,T.ah _ _ _,o⟩
theorem ic.put(s:ic h sb sm M ck){x:Nat}{v:List Value}{t:TypeId}{o:Bool}(hg:h.bl.get x=some (aa v t o))(ht:t≠175)(ob:bD):ic ⟨h.nx,h.bl.aV x ob,h.lo⟩ sb sm M ck:=
 ⟨s.tE,(T.aj _ _ (de hg s.gb ht)).trans s.gb,s.kO,(T.aj _ _ (dh hg s.gm)).trans s.gm,s.ok⟩
def J_(t r:Int)(o:Option Int):List Value:=[.int .i64 t,.int .i64 r,.int .i64 (o.getD 0),.bool o.isSome]
theorem MA(s:ic h sb sm M ck)(hlo:h.lo<=h.nx)(t r:Int)(V:KQ)(hk:∀h',Le h h'->V (.tuple ⟨[.int .i64 ((eM M t r).getD 0),.bool (eM M t r).isSome]⟩) h'):CallW prog 384 [pt sb,cV t r] h V:=by
 refine av mixed ?_;rw[abU];simp(disch:=try exact Y)only[Wz,cV];obtain⟨hA,aT,aL,g1,dy,dz⟩:=kf h (aa [.int .i64 t,.int .i64 r] 28 false);rw[<-aT]
 try rw[show(h.bl.aV (h.nx) (aa [.int .i64 t,.int .i64 r] 28 false))=hA.bl by rw[aT]]
 clear aT;have sA:=s.le aL;have gb:=sA.gb;have lk:=λ(β:Type)(fl:β)(V:Z7 β)=>YH (fl:=fl) sA.gm t r V;unfold cV at lk;simp(disch:=try exact Y)only[Wz,rz,GQ,aG,gb,g1,lk];exact hk hA aL
theorem YI(s:ic h sb sm M ck)(hlo:h.lo<=h.nx){t r:Int}(lv:bf t r=2)(V:KQ)(hk:∀h',Le h h'->V (.tuple ⟨[.agg ⟨J_ t r (eM M t r)⟩,.int .i64 0]⟩) h'):CallW prog 91 [pt sb,cV t r] h V:=by
 refine av mixed ?_;rw[agW];simp(disch:=try exact Y)only[Wz,cV];obtain⟨hA,aT,aL,g1,g3,dy,dz⟩:=BF h (aa [.int .i64 t,.int .i64 r] 28 false) (aa [.int .i64 0,.int .i64 0,.int .i64 0,.bool false] 99 false);rw[<-aT]
 try rw[show((h.bl.aV (h.nx) (aa [.int .i64 t,.int .i64 r] 28 false)).aV (h.nx+1) (aa [.int .i64 0,.int .i64 0,.int .i64 0,.bool false] 99 false))=hA.bl by rw[aT]]
 clear aT;have sA:=s.le aL;have gb:=sA.gb;have lk:=λ(β:Type)(fl:β)(V:Z7 β)=>YH (fl:=fl) sA.gm t r V;unfold cV at lk;simp(disch:=try exact Y)only[Wz,rz,LW,g1];refine lR t r ?_;rw[lv];simp(disch:=try exact Y)only[Wz,LV,aG,gb,g1,lk,g3];exact hk _ (aL.set (by omega) _)
theorem MB(s:ic h sb sm M ck)(hlo:h.lo<=h.nx){t r:Int}(lv:bf t r=2)(v:Int)(V:KQ)(hk:∀h' M' gF born,ic h' sb sm M' gF->M'.Perm (M.filter (λx=>!jX t r x)++[zE t r v born])->MK sm h h'->V (.tuple ⟨[.agg ⟨J_ t r (eM M t r)⟩,.int .i64 0]⟩) h'):CallW prog 43 [pt sb,cV t r,.int .i64 v] h V:=by
 refine av mixed ?_;rw[agu];simp(disch:=try exact Y)only[Wz,cV];obtain⟨hA,aT,aL,g1,g3,dy,dz⟩:=BF h (aa [.int .i64 t,.int .i64 r] 28 false) (aa [.int .i64 0,.int .i64 0,.int .i64 0,.bool false] 99 false);rw[<-aT]
 try rw[show((h.bl.aV (h.nx) (aa [.int .i64 t,.int .i64 r] 28 false)).aV (h.nx+1) (aa [.int .i64 0,.int .i64 0,.int .i64 0,.bool false] 99 false))=hA.bl by rw[aT]]
 clear aT;refine YI (s.le aL) (by omega) lv _ ?_;intro h2 bt;have o5:=bt.nx;have o_:=bt.lo;have g1:=bt.up g1;have g3:=bt.up g3;simp(disch:=try exact Y)only[Wz,J_];obtain⟨hB,gI,bV,g9,BN,BO⟩:=kf h2 (aa [.int .i64 t,.int .i64 r,.int .i64 ((eM M t r).getD 0),.bool (eM M t r).isSome] 99 false);rw[<-gI]
 try rw[show(h2.bl.aV (h2.nx) (aa [.int .i64 t,.int .i64 r,.int .i64 ((eM M t r).getD 0),.bool (eM M t r).isSome] 99 false))=hB.bl by rw[gI]]
 clear gI;have pW:=bV.nx;have pX:=bV.lo;have g1:=bV.up g1;have g3:=bV.up g3;have tQ:=(aL.trans bt).trans bV;have sB:=s.le tQ;have gb:=sB.gb;have gm:=sB.gm;refine⟨λl' h'=>∃M' gF born,ic h' sb sm M' gF/\M'.Perm (M.filter (λx=>!jX t r x)++[zE t r v born])/\MK sm hB h',?_,?_⟩
 .simp(disch:=try exact Y)only[Wz,Lq,aG,gb,g1];refine ad6 sB.ok gm sB.kO.2 t r v _ ?_;intro M' gF born o hp;exact⟨M',gF,born,sB.set o,hp,MK.aV _⟩
 .rintro l' h' ⟨M',gF,born,s',hp,k'⟩;have n':=k'.nx;have l':=k'.lo;have k9:=k'.cell gm (by omega) g9;have k3:=k'.cell gm (by omega) g3;simp(disch:=try exact Y)only[Wz,k9,k3];have hk:=hk ⟨h'.nx,h'.bl.aV (h.nx+1) (aa [.int .i64 t,.int .i64 r,.int .i64 ((eM M t r).getD 0),.bool (eM M t r).isSome] 99 false),h'.lo⟩ M' gF born (s'.put k3 (by decide) _) hp (((MK.le tQ).trans k').set (by omega) _);exact hk
theorem MC(s:ic h sb sm M ck)(hlo:h.lo<=h.nx){t r:Int}(lv:bf t r=2)(V:KQ)(hk:∀h' ,ic h' sb sm (M.filter λx=>!jX t r x) ck->MK sm h h'->V (.tuple ⟨[.agg ⟨J_ t r (eM M t r)⟩,.int .i64 0]⟩) h'):CallW prog 279 [pt sb,cV t r] h V:=by
 refine av mixed ?_;rw[abn];simp(disch:=try exact Y)only[Wz,cV];obtain⟨hA,aT,aL,g1,g3,dy,dz⟩:=BF h (aa [.int .i64 t,.int .i64 r] 28 false) (aa [.int .i64 0,.int .i64 0,.int .i64 0,.bool false] 99 false);rw[<-aT]
 try rw[show((h.bl.aV (h.nx) (aa [.int .i64 t,.int .i64 r] 28 false)).aV (h.nx+1) (aa [.int .i64 0,.int .i64 0,.int .i64 0,.bool false] 99 false))=hA.bl by rw[aT]]
 clear aT;refine YI (s.le aL) (by omega) lv _ ?_;intro h2 bt;have o5:=bt.nx;have o_:=bt.lo;have g1:=bt.up g1;have g3:=bt.up g3;simp(disch:=try exact Y)only[Wz,J_];obtain⟨hB,gI,bV,g9,BN,BO⟩:=kf h2 (aa [.int .i64 t,.int .i64 r,.int .i64 ((eM M t r).getD 0),.bool (eM M t r).isSome] 99 false);rw[<-gI]
 try rw[show(h2.bl.aV (h2.nx) (aa [.int .i64 t,.int .i64 r,.int .i64 ((eM M t r).getD 0),.bool (eM M t r).isSome] 99 false))=hB.bl by rw[gI]]
 clear gI;have pW:=bV.nx;have pX:=bV.lo;have g1:=bV.up g1;have g3:=bV.up g3;have tQ:=(aL.trans bt).trans bV;have sB:=s.le tQ;have gb:=sB.gb;have gm:=sB.gm;refine⟨λl' h'=>ic h' sb sm (M.filter λx=>!jX t r x) ck/\MK sm hB h',?_,?_⟩
 .simp(disch:=try exact Y)only[Wz,Gs,aG,gb,g1];refine ad7 sB.ok gm sB.kO.2 t r _ ?_;rintro h' (rfl|⟨rfl,e⟩)
  .exact⟨sB.set (sB.ok.filter _),MK.aV _⟩
  .rw[e];exact⟨sB,MK.le (Le.refl _)⟩
 .rintro l' h' ⟨s',k'⟩;have n':=k'.nx;have l':=k'.lo;have k9:=k'.cell gm (by omega) g9;have k3:=k'.cell gm (by omega) g3;simp(disch:=try exact Y)only[Wz,k9,k3];have hk:=hk ⟨h'.nx,h'.bl.aV (h.nx+1) (aa [.int .i64 t,.int .i64 r,.int .i64 ((eM M t r).getD 0),.bool (eM M t r).isSome] 99 false),h'.lo⟩ (s'.put k3 (by decide) _) (((MK.le tQ).trans k').set (by omega) _);exact hk
end
theorem WV{M:List HE}{clock b bm:Nat}{seen:List Nat}{h:Heap}(o:dw M clock)(hb:h.bl.get b=some (.dD (some bm) clock seen clock))(g:h.bl.get bm=some (.map (M.map pH) clock))(hlo:h.lo<=b)(V:KQ)(nZ:(∀e∈M,seen.any (Nat.beq e.born)=true)->V (.tuple ⟨[.bool false]⟩) h)(dB:∀e∈M,seen.any (Nat.beq e.born)=false->V (.tuple ⟨[.bool true,cV e.t e.r,.int .i64 e.w]⟩) ⟨h.nx,h.bl.aV b (.dD (some bm) clock (e.born::seen) clock),h.lo⟩):oz False And (.pointer (some ⟨b,0,none⟩)) h V:=by
 unfold oz;simp only[hb,g];have e1:(!seen.isEmpty && !(M.map pH).isEmpty && (M.map pH).all (λe=>Nat.ble clock e.born))=false:=by
  cases M with
  |nil=>simp
  |cons e M=>
   have:Nat.ble clock (pH e).born=false:=by
    have:=o.lt e (.head _);cases hc:Nat.ble clock (pH e).born with
    |false=>rfl
    |true=>have:=Nat.le_of_ble_eq_true hc;simp only[pH]at this;omega
   rw[List.map_cons,List.all_cons,this];simp
 rw[e1];simp only;rw[List.filter_map];have hmem:∀x,x∈(M.filter ((λe:MapEntry=>!seen.any (Nat.beq e.born)) ∘ pH)).map pH->∃e∈M,seen.any (Nat.beq e.born)=false/\x=pH e:=by
  intro x hx;obtain⟨e,he,rfl⟩:=List.mem_map.1 hx;rw[List.mem_filter]at he;exact⟨e,he.1,by have:=he.2;simpa[pH]using this,rfl⟩
 split
 .rename_i hnil;refine nZ λe he=>?_;cases hs:seen.any (Nat.beq e.born)with
  |true=>rfl
  |false=>
   have:pH e∈(M.filter ((λe:MapEntry=>!seen.any (Nat.beq e.born)) ∘ pH)).map pH:=List.mem_map.2 ⟨e,List.mem_filter.2 ⟨he,by simp only[Function.comp,pH,hs];rfl⟩,rfl⟩;rw[hnil]at this
   nomatch this
 .rename_i e es heq;rw[heq]at hmem;refine Ay hlo es e (λx hx=>?_) λx hx=>?_
  .obtain⟨y,hy,_,rfl⟩:=hmem x hx;exact o.lt y hy
  .obtain⟨y,hy,h1,rfl⟩:=hmem x hx;exact dB y hy h1
theorem Ta{β:Type}{fl:β}{M:List HE}{clock b bm:Nat}{seen:List Nat}{h:Heap}(o:dw M clock){e:HE}(he:e∈M)(hb:h.bl.get b=some (.dD (some bm) clock (e.born::seen) clock))(g:h.bl.get bm=some (.map (M.map pH) clock))(V:Z7 β):kQ fl (.pointer (some ⟨b,0,none⟩)) h V=V (.tuple ⟨[cV e.t e.r,.int .i64 e.w]⟩) h:=by
 unfold kQ;simp only[hb,g];have e1:Nat.beq clock clock=true:=Nat.beq_refl _;rw[e1];simp only;have:(M.map pH).find? (λx=>Nat.beq x.born e.born)=some (pH e):=by
  have key:∀(L:List HE),(L.Pairwise λa b=>a.born≠b.born)->e∈L->(L.map pH).find? (λx=>Nat.beq x.born e.born)=some (pH e):=by
   intro L
   induction L with
   |nil=>intro _ h;nomatch h
   |cons a L ih=>
    intro hp h1;rw[List.pairwise_cons]at hp;rw[List.map_cons,List.find?_cons];rcases List.mem_cons.1 h1 with rfl|k1
    .have:Nat.beq (pH e).born e.born=true:=Nat.beq_refl _;rw[this]
    ·have:Nat.beq (pH a).born e.born=false:=by
      cases hc:Nat.beq (pH a).born e.born with
      |false=>rfl
      |true=>exact absurd (Nat.eq_of_beq_eq_true hc) (hp.1 e k1)
     rw[this];exact ih hp.2 k1
  exact key M o.bn he
 rw[this];rfl
abbrev WW:FuncId:=151
abbrev fAZ:FuncId:=204
def Tb(f:FuncId):Bool:=Nat.beq f WW || Nat.beq f fAZ
noncomputable abbrev vA:ko Prop:=prK prog Tb
noncomputable abbrev p8(n:Nat):Rec Prop:=run False vA prog n
def cKZ:Code:=wB prog WW
def cAZ:Code:=wB prog fAZ
def kAZ:Code:=ja cKZ
def kLZ:Code:=JA (JA (jr cKZ))
def kBZ:Code:=ja kLZ
def Tc:Code:=JA (jr (jr kLZ))
def kCZ:Code:=ja Tc
def kDZ:Code:=ja (jr Tc)
theorem ad8:cKZ=.seq kAZ (.block 0 (.loop (.seq kBZ (.seq (.cond (.tmp 7) .skip (.exit 0)) (.block 1 (.seq kCZ (.seq kDZ (.cond (.tmp 13) .ret .skip)))))))):=by kernel_rfl
def aAZ:Code:=ja cAZ
def aBZ:Code:=ja (ja (jr cAZ))
def aRZ:Code:=JA (jr (ja (jr cAZ)))
def aPZ:Code:=rfA aRZ
def aQZ:Code:=JA (rfB aRZ)
def aCZ:Code:=ja (jr (jr cAZ))
theorem aea:cAZ=.seq aAZ (.seq (.seq aBZ (.block 0 (.rangeFunc (.tmp 6) #[7] aPZ (.block 1 aQZ)))) (.seq aCZ .ret)):=by kernel_rfl
section
variable (rec:Rec Prop)(tm:T Value)(h:Heap)
theorem ao5(V:Ex->T Value->Heap->Prop):body False vA prog rec kAZ tm h V =
  ev tm (.tmp 1) λx=>load1 False x h λv h=>T.set tm 4 v λtm=>ev tm (.tmp 4) λx=>nS False x h λv h=>T.set tm 5 v λtm=>V .normal tm h:=by kernel_rfl
theorem ao6(V:Ex->T Value->Heap->Prop):body False vA prog rec kBZ tm h V =
  ev tm (.tmp 5) λx=>oz False And x h λv h=>T.set tm 6 v λtm=>ev tm (.tmp 6) λx=>aD False 0 x h λv h=>T.set tm 7 v λtm=>V .normal tm h:=by kernel_rfl
theorem ao7(V:Ex->T Value->Heap->Prop):body False vA prog rec kCZ tm h V =
  ev tm (.tmp 5) λx=>kQ False x h λv h=>T.set tm 8 v λtm=>ev tm (.tmp 8) λx=>aD False 0 x h λv h=>T.set tm 9 v λtm=>
   ax False (aa [.int .i64 0,.int .i64 0] 28 false) h λb h=>T.set tm 3 (ptrTo b) λtm=>ev tm (.tmp 3) λa=>ev tm (.tmp 9) λv=>aI False 2 a v h λv h=>V .normal tm h:=by kernel_rfl
theorem ao8(V:Ex->T Value->Heap->Prop):body False vA prog rec kDZ tm h V =
  ev tm (.tmp 0) λfv=>T.set tm 10 fv λtm=>ev tm (.tmp 3) λx=>aF False 2 x h λv h=>T.set tm 11 v λtm=>
   ev tm (.tmp 11) λx=>ev tm (.tmp 10) λfv=>sk False vA prog rec fv [x] h λv h=>T.set tm 12 v λtm=>ev tm (.tmp 12) λx=>jf False .not x h λv h=>T.set tm 13 v λtm=>V .normal tm h:=by kernel_rfl
theorem ajh(V:Ex->T Value->Heap->Prop):body False vA prog rec aAZ tm h V =
  ev tm (.tmp 0) λs=>aH False (Value.cells s).toList 156 false λo=>ax False o h λb h=>T.set tm 2 (ptrTo b) λtm=>T.set tm 4 (.slice none 0 0) λtm=>V .normal tm h:=by kernel_rfl
theorem aji(V:Ex->T Value->Heap->Prop):body False vA prog rec aBZ tm h V=ev tm (.tmp 1) λg=>T.set tm 6 g λtm=>V .normal tm h:=by kernel_rfl
theorem ajj(V:Ex->T Value->Heap->Prop):body False vA prog rec aPZ tm h V =
  ax False (aa [.int .i64 0,.int .i64 0] 28 false) h λb h=>T.set tm 5 (ptrTo b) λtm=>ev tm (.tmp 5) λa=>ev tm (.tmp 7) λv=>aI False 2 a v h λv h=>V .normal tm h:=by kernel_rfl
theorem ajk(V:Ex->T Value->Heap->Prop):body False vA prog rec aQZ tm h V =
  ev tm (.tmp 2) λx=>load1 False x h λv h=>T.set tm 8 v λtm=>ev tm (.tmp 5) λx=>aF False 2 x h λv h=>T.set tm 9 v λtm=>
   ev tm (.tmp 9) λv=>bg False [(0,2)] [v] [.int .i64 0,.int .i64 0] λcs=>aH False cs 28 false λo=>ax False o h λb h=>T.set tm 10 (sliceTo 1 1 b) λtm=>
   ev tm (.tmp 8) λs=>ev tm (.tmp 10) λx=>bR False 28 2 [.int .i64 0,.int .i64 0] false s x h λv h=>T.set tm 11 v λtm=>ev tm (.tmp 2) λa=>ev tm (.tmp 11) λv=>aI False 1 a v h λv h=>V .normal tm h:=by kernel_rfl
theorem ajl(V:Ex->T Value->Heap->Prop):body False vA prog rec aCZ tm h V =
  ev tm (.tmp 2) λx=>load1 False x h λv h=>T.set tm 12 v λtm=>ev tm (.tmp 12) λv=>T.set tm 4 v λtm=>V .normal tm h:=by kernel_rfl
theorem aeb(s g:Value)(V:KQ):iA False vA prog rec fAZ [s,g] h V=rec cAZ (lay [s,g] .nil 0) h (r5 False [.tmp 4] V):=by kernel_rfl
theorem aec(y m:Value)(V:KQ):iA False vA prog rec WW [y,m] h V=rec cKZ (lay [y,m] .nil 0) h (r5 False [] V):=by kernel_rfl
end
theorem ig(t:T Value)(n:Nat)(v:Value):cL (t.aV n v) n=v:=by unfold cL;rw[T.ah]
theorem mW(t:T Value){n m:Nat}(v:Value)(h:n≠m):cL (t.aV n v) m=cL t m:=by unfold cL;rw[T.aj _ _ h]
theorem p_{β:Type}(tm:T Value)(t:Nat)(V:Value->β):ev tm (.tmp t) V=V (cL tm t):=e_ _ _ _
section
variable (n:Nat)(a b:Code)(tm:T Value)(h:Heap)(V:Ex->T Value->Heap->Prop)
theorem Bf:p8 (n+1) (.seq a b) tm h V=p8 n a tm h (oC (p8 n) b V):=id rfl
theorem MD(t:Nat):p8 (n+1) (.cond (.tmp t) a b) tm h V=oD False (p8 n) a b tm h V (cL tm t):=e_ tm (.tmp t) (oD False (p8 n) a b tm h V)
theorem u_(i:Nat):p8 (n+1) (.block i a) tm h V=p8 n a tm h (iW i V):=id rfl
theorem WX:p8 (n+1) (.loop a) tm h V=p8 n a tm h (oC (p8 n) (.loop a) V):=id rfl
theorem ME(i:Nat):p8 (n+1) (.exit i) tm h V=V (.exit i) tm h:=id rfl
theorem aed:p8 (n+1) .ret tm h V=V .ret tm h:=id rfl
theorem MF:p8 (n+1) .skip tm h V=V .normal tm h:=id rfl
theorem ajm(t:Nat)(ps:Array Tmp):p8 (n+1) (.rangeFunc (.tmp t) ps a b) tm h V=dN False vA prog (p8 n) ps.toList a b tm h V (cL tm t):=e_ tm (.tmp t) (dN False vA prog (p8 n) ps.toList a b tm h V)
theorem ajn:p8 (n+1) kAZ tm h V=body False vA prog (p8 n) kAZ tm h V:=id rfl
theorem ajo:p8 (n+1) kBZ tm h V=body False vA prog (p8 n) kBZ tm h V:=id rfl
theorem ajp:p8 (n+1) kCZ tm h V=body False vA prog (p8 n) kCZ tm h V:=id rfl
theorem ajq:p8 (n+1) kDZ tm h V=body False vA prog (p8 n) kDZ tm h V:=id rfl
theorem ajr:p8 (n+1) aAZ tm h V=body False vA prog (p8 n) aAZ tm h V:=id rfl
theorem ajs:p8 (n+1) aBZ tm h V=body False vA prog (p8 n) aBZ tm h V:=id rfl
theorem ajt:p8 (n+1) aPZ tm h V=body False vA prog (p8 n) aPZ tm h V:=id rfl
theorem aju:p8 (n+1) aQZ tm h V=body False vA prog (p8 n) aQZ tm h V:=id rfl
theorem ajv:p8 (n+1) aCZ tm h V=body False vA prog (p8 n) aCZ tm h V:=id rfl
theorem CP(rec:Rec Prop):oC rec b V .normal tm h=rec b tm h V:=id rfl
theorem YJ(rec:Rec Prop)(i:Nat):oC rec b V (.exit i) tm h=V (.exit i) tm h:=id rfl
theorem YK(rec:Rec Prop):oC rec b V .ret tm h=V .ret tm h:=id rfl
theorem MG(i:Nat):iW i V .normal tm h=V .normal tm h:=id rfl
theorem ajw(i:Nat):iW i V .ret tm h=V .ret tm h:=id rfl
theorem Td:iW 0 V (.exit 0) tm h=V .normal tm h:=id rfl
theorem ajx(rec:Rec Prop):oD False rec a b tm h V (.bool true)=rec a tm h V:=id rfl
theorem YL(rec:Rec Prop):oD False rec a b tm h V (.bool false)=rec b tm h V:=id rfl
end
noncomputable abbrev Ka:Code:=.seq kBZ (.seq (.cond (.tmp 7) .skip (.exit 0)) (.block 1 (.seq kCZ (.seq kDZ (.cond (.tmp 13) .ret .skip)))))
noncomputable abbrev iL(st:LoopState)(eZ:T Value):bD:=.loop st none eZ [7] aPZ (.block 1 aQZ)
structure Te(a:Heap)(bm:Nat)(clock:Nat)(M:List HE)(eZ:T Value)(seen:List Nat)(tm:T Value)(h1:Heap)(v:Value)(L:List HE):Prop where
 le:Le a h1
 nx:a.nx+3<=h1.nx
 gs:h1.bl.get a.nx=some (aa [v] 156 false)
 gl:h1.bl.get (a.nx+1)=some (iL .ready eZ)
 gi:h1.bl.get (a.nx+2)=some (.dD (some bm) clock seen clock)
 own:pY a h1 v (L.map cT)
 perm:L.Perm (M.filter λe=>seen.any (Nat.beq e.born))
 t0:cL tm 0=.func (.yield (a.nx+1)) #[] #[]
 t5:cL tm 5=ptrTo (a.nx+2)
theorem WY(rec:Rec Prop)(l:Nat)(x:Value)(h:Heap)(V:KQ):sk False vA prog rec (.func (.yield l) #[] #[]) [x] h V=kR False rec l [x] h V:=id rfl
theorem OE{rec:Rec Prop}{l:Nat}{x:Value}{h:Heap}{V:KQ}{st:LoopState}{eZ:T Value}(hl:h.bl.get l=some (iL st eZ)):kR False rec l [x] h V=rec aPZ (eZ.aV 7 x) h (dI False rec l (.block 1 aQZ) V):=by
 unfold kR;simp only[hl,List.length_cons,List.length_nil]
 show nj [7] [x] eZ _=_
 unfold nj;rw[T.cg];unfold nj;rfl
theorem OF{rec:Rec Prop}{l:Nat}{bd:Code}{tm:T Value}{h:Heap}{V:KQ}{eZ:T Value}(hl:h.bl.get l=some (iL .ready eZ))(hlo:h.lo<=l):dI False rec l bd V .normal tm h=rec bd tm ⟨h.nx,h.bl.aV l (iL .busy eZ),h.lo⟩ (fO False l V):=by
 unfold dI;simp only[hl,bB _ _ _ _ hlo]
theorem WZ{l:Nat}{tm:T Value}{h:Heap}{V:KQ}{st:LoopState}{eZ:T Value}(hl:h.bl.get l=some (iL st eZ))(hlo:h.lo<=l):fO False l V .normal tm h=V (.bool true) ⟨h.nx,h.bl.aV l (iL .ready eZ),h.lo⟩:=by
 unfold fO;simp only[hl,bB _ _ _ _ hlo]
theorem Kb{M:List HE}{clock:Nat}(o:dw M clock){e:HE}(he:e∈M){seen:List Nat}(hn:seen.any (Nat.beq e.born)=false):(M.filter λx=>(e.born::seen).any (Nat.beq x.born)).Perm (M.filter (λx=>seen.any (Nat.beq x.born))++[e]):=by
 have hnd:M.Nodup:=o.bn.imp λh e=>h (by rw[e]);refine(List.perm_ext_iff_of_nodup (hnd.filter _) ?_).2 λx=>?_
 .rw[List.nodup_append];refine⟨hnd.filter _,by simp,λx hx y hy=>?_⟩;rw[List.mem_singleton]at hy;subst hy;rintro rfl;rw[List.mem_filter,hn]at hx;exact absurd hx.2 (by simp)
 .rw[List.mem_filter,List.mem_append,List.mem_filter,List.mem_singleton,List.any_cons,Bool.or_eq_true];constructor
  .rintro⟨h1,h2|h2⟩
   .exact .inr (o.xA h1 he (Nat.eq_of_beq_eq_true h2))
   .exact .inl ⟨h1,h2⟩
  .rintro(⟨h1,h2⟩|rfl)
   .exact⟨h1,.inr h2⟩
   .exact⟨he,.inl (Nat.beq_refl _)⟩
theorem Kc(a:Heap)(bm clock:Nat)(M:List HE)(eZ:T Value)(o:dw M clock)(g:a.bl.get bm=some (.map (M.map pH) clock))(xB:bm<a.nx)(hlo:a.lo<=a.nx)(hM:M.length<=1000)(hA:cL eZ 2=ptrTo a.nx)(V:Ex->T Value->Heap->Prop)(hk:∀(tm:T Value)(h1:Heap)(v:Value)(L:List HE),L.Perm M->pY a h1 v (L.map cT)->Le a h1->a.nx+3<=h1.nx->h1.bl.get a.nx=some (aa [v] 156 false)->h1.bl.get (a.nx+1)=some (iL .ready eZ)->V (.exit 0) tm h1):∀(k:Nat)(seen:List Nat)(tm:T Value)(h1:Heap)(v:Value)(L:List HE),Ax M seen<=k->Te a bm clock M eZ seen tm h1 v L->p8 (k+12) (.loop Ka) tm h1 V:=by
 have step:∀(k:Nat)(seen:List Nat)(tm:T Value)(h1:Heap)(v:Value)(L:List HE),Te a bm clock M eZ seen tm h1 v L->
   (∀e∈M,seen.any (Nat.beq e.born)=false->∀(tm:T Value)(h1:Heap)(v:Value)(L:List HE),Te a bm clock M eZ (e.born::seen) tm h1 v L->p8 (k+11) (.loop Ka) tm h1 V)->p8 (k+12) (.loop Ka) tm h1 V:=by
  intro k seen tm h1 v L I hnext;have n1:=I.nx;have l1:=I.le.lo;have gm:=(I.le.get bm xB).trans g;rw[show k+12=k+11+1 from by omega,WX];simp(disch:=try exact Y)only[Wz,Bf,ajo,ao6,p_,T.cg,ig,mW,CP,YJ,YK,MG,ajw,Td,I.t5];refine WV o I.gi gm (by omega) _ ?_ ?_
  .intro hall;simp(disch:=try exact Y)only[Wz,MD,ig,YL,ME,YJ];have hf:M.filter (λe=>seen.any (Nat.beq e.born))=M:=List.filter_eq_self.2 hall;exact hk _ h1 v L (hf▸I.perm) I.own I.le n1 I.gs I.gl
  .intro e he Bw;obtain⟨h2,e2⟩:∃h2:Heap,h2=⟨h1.nx,h1.bl.aV (a.nx+2) (.dD (some bm) clock (e.born::seen) clock),h1.lo⟩:=⟨_,rfl⟩
   have bt:Le a h2:=by rw[e2];exact I.le.set (by omega) _
   have n2:h2.nx=h1.nx:=by rw[e2]
   have l2:h2.lo=h1.lo:=by rw[e2]
   have gi2:h2.bl.get (a.nx+2)=some (.dD (some bm) clock (e.born::seen) clock):=by rw[e2];exact T.ah _ _ _
   have gs2:h2.bl.get a.nx=some (aa [v] 156 false):=by rw[e2];exact(T.aj _ _ (by omega)).trans I.gs
   have gl2:h2.bl.get (a.nx+1)=some (iL .ready eZ):=by rw[e2];exact(T.aj _ _ (by omega)).trans I.gl
   have ny:pY a h2 v (L.map cT):=by rw[e2];exact fC.put I.own (by rw[I.gi];intro hc;unfold aa at hc;cases hc) _
   rw[<-e2];clear e2;have VE:=(bt.get bm xB).trans g;simp(disch:=try exact Y)only[Wz,MD,MF,Bf,u_,ig,mW,ajx,ME,CP,ajp,ao7,p_,T.cg,I.t5,Ta o he gi2 VE,cV,ajq,ao8,I.t0];have n3:a.nx+3<=h2.nx:=by omega
   obtain⟨h3,e3⟩:∃h3:Heap,h3=⟨h2.nx+1,h2.bl.aV h2.nx (aa [.int .i64 e.t,.int .i64 e.r] 28 false),h2.lo⟩:=⟨_,rfl⟩
   have AH:Le h2 h3:=by rw[e3];exact(Le.refl h2).new _
   have nx3:h3.nx=h2.nx+1:=by rw[e3]
   have l3:h3.lo=h2.lo:=by rw[e3]
   have T7:=AH.up gl2;rw[<-e3,WY,OE T7];clear e3;simp(disch:=try exact Y)only[Wz,ajt,ajj,T.cg,p_,ig,mW];obtain⟨h4,e4⟩:∃h4:Heap,h4=⟨h3.nx+1,h3.bl.aV h3.nx (aa [.int .i64 e.t,.int .i64 e.r] 28 false),h3.lo⟩:=⟨_,rfl⟩
   have AJ:Le h3 h4:=by rw[e4];exact(Le.refl h3).new _
   have nx4:h4.nx=h3.nx+1:=by rw[e4]
   have l4:h4.lo=h3.lo:=by rw[e4]
   have gn4:h4.bl.get h3.nx=some (aa [.int .i64 e.t,.int .i64 e.r] 28 false):=by rw[e4];exact T.ah _ _ _
   have gl4:=AJ.up T7;have gs4:=((AH.trans AJ).get _ (by omega)).trans gs2;have gi4:=((AH.trans AJ).get _ (by omega)).trans gi2;have DL:pY a h4 v (L.map cT):=ny.le (AH.trans AJ);rw[<-e4,OF gl4 (by omega)];clear e4;have RQ:(h4.bl.aV (a.nx+1) (iL .busy eZ)).get a.nx=_:=(T.aj _ _ (by omega)).trans gs4;have gn5:(h4.bl.aV (a.nx+1) (iL .busy eZ)).get h3.nx=_:=(T.aj _ _ (by omega)).trans gn4;simp(disch:=try exact Y)only[Wz,u_,aju,ajk,T.cg,p_,ig,mW,hA,RQ,gn5];obtain⟨h5,e5⟩:∃h5:Heap,h5=⟨h4.nx+1,(h4.bl.aV (a.nx+1) (iL .busy eZ)).aV h4.nx (aa [.int .i64 e.t,.int .i64 e.r] 28 false),h4.lo⟩:=⟨_,rfl⟩
   have acQ:Le a h5:=by rw[e5];exact(((bt.trans AH).trans AJ).set (b:=a.nx+1) (by omega) _).new _
   have nx5:h5.nx=h4.nx+1:=by rw[e5]
   have l5:h5.lo=h4.lo:=by rw[e5]
   have RQ:h5.bl.get a.nx=some (aa [v] 156 false):=by rw[e5];exact(T.aj _ _ (by omega)).trans RQ
   have gl5:h5.bl.get (a.nx+1)=some (iL .busy eZ):=by rw[e5];exact(T.aj _ _ (by omega)).trans (T.ah _ _ _)
   have gi5:h5.bl.get (a.nx+2)=some (.dD (some bm) clock (e.born::seen) clock):=by rw[e5];exact(T.aj _ _ (by omega)).trans ((T.aj _ _ (by omega)).trans gi4)
   have gx5:h5.bl.get h4.nx=some (aa ([cT e].flatMap iI) 28 false):=by rw[e5];exact T.ah _ _ _
   have tC:pY a h5 v (L.map cT):=by
    rw[e5];exact fC.le (fC.put DL (by rw[gl4];intro hc;unfold aa at hc;cases hc) _) ((Le.refl _).new _)
   have hLl:L.length<=1000:=by
    rw[I.perm.length_eq];exact Nat.le_trans (List.length_filter_le _ _) hM
   rw[<-e5];clear e5;refine jk (enc:=iI) (a:=a) (L:=L.map cT) (M:=[cT e]) mO Hz (by decide) (by decide) tC (Sl.new (by omega) gx5 _) acQ (by simp;omega) (by omega) _ ?_;intro v' h6 Rv Mb _ n6 l6 AK;have gs6:=(AK a.nx (by omega) (by rw[RQ];exact bx)).trans RQ;have gl6:=(AK (a.nx+1) (by omega) (by rw[gl5];intro hc;unfold aa at hc;cases hc)).trans gl5;have gi6:=(AK (a.nx+2) (by omega) (by rw[gi5];intro hc;unfold aa at hc;cases hc)).trans gi5;obtain⟨x',c',rfl,_⟩:=(show Sl iI h6 v' _ from Rv.sl)
   simp(disch:=try exact Y)only[Wz,gs6];obtain⟨h7,e7⟩:∃h7:Heap,h7=⟨h6.nx,h6.bl.aV a.nx (aa [.slice x' (L.map cT++[cT e]).length c'] 156 false),h6.lo⟩:=⟨_,rfl⟩
   have gl7:h7.bl.get (a.nx+1)=some (iL .busy eZ):=by rw[e7];exact(T.aj _ _ (by omega)).trans gl6
   have nx7:h7.nx=h6.nx:=by rw[e7]
   have l7:h7.lo=h6.lo:=by rw[e7]
   have gs7:h7.bl.get a.nx=some (aa [.slice x' (L.map cT++[cT e]).length c'] 156 false):=by rw[e7];exact T.ah _ _ _
   have gi7:h7.bl.get (a.nx+2)=some (.dD (some bm) clock (e.born::seen) clock):=by rw[e7];exact(T.aj _ _ (by omega)).trans gi6
   have T8:Le a h7:=by rw[e7];exact Mb.set (by omega) _
   have ho7:pY a h7 (.slice x' (L.map cT++[cT e]).length c') (L.map cT++[cT e]):=by rw[e7];exact fC.put Rv (by rw[gs6];exact bx) _
   rw[<-e7,MG,WZ gl7 (by omega)];clear e7;simp(disch:=try exact Y)only[Wz,YL,MF,MG,CP];have fr:∀c,c≠a.nx+1->(h7.bl.aV (a.nx+1) (iL .ready eZ)).get c=h7.bl.get c:=λc hc=>T.aj _ _ (λe=>hc e.symm);refine hnext e he Bw _ _ (.slice x' (L.map cT++[cT e]).length c') (L++[e]) ⟨T8.set (by omega) _,by show a.nx+3<=h7.nx;omega,(fr _ (by omega)).trans gs7,T.ah _ _ _,(fr _ (by omega)).trans gi7,?_,(I.perm.append_right _).trans (Kb o he Bw).symm,?_,?_⟩
   .rw[List.map_append];exact fC.put ho7 (by rw[gl7];intro hc;unfold aa at hc;cases hc) _
   .simp (disch:=decide) only [mW];exact I.t0
   .simp (disch:=decide) only [mW];exact I.t5
 intro k
 induction k with
 |zero=>
  intro seen tm h1 v L hu I;refine step 0 seen tm h1 v L I λe he Bw=>?_;have:=oW he Bw;omega
 |succ k ih=>
  intro seen tm h1 v L hu I;refine step (k+1) seen tm h1 v L I λe he Bw cQ h1' v' L' I'=>ih (e.born::seen) cQ h1' v' L' ?_ I';have:=oW he Bw;omega
theorem aee(rec:Rec Prop)(ps:List Nat)(x y:Code)(tm:T Value)(h:Heap)(V:Ex->T Value->Heap->Prop)(c:Value):dN False vA prog rec ps x y tm h V (.func (.func WW) #[] #[c])=iA False vA prog rec WW [.func (.yield h.nx) #[] #[],c] ⟨h.nx+1,h.bl.aV h.nx (.loop .ready none tm ps x y),h.lo⟩ (dG False h.nx tm V):=di (fl:=False) (.loop .ready none tm ps x y) h (λl h=>iA False vA prog rec WW [.func (.yield l) #[] #[],c] h (dG False l tm V))
theorem ajy(tm:T Value)(h:Heap)(V:KQ):r5 False [] V .normal tm h=V (.tuple ⟨[]⟩) h:=id rfl
theorem ajz(tm:T Value)(h:Heap)(V:KQ):r5 False [.tmp 4] V .ret tm h=V (cL tm 4) h:=e_ tm (.tmp 4) λv=>V v h
theorem OG{l:Nat}{tm eZ:T Value}{v:Value}{h:Heap}{V:Ex->T Value->Heap->Prop}(hl:h.bl.get l=some (iL .ready eZ))(hlo:h.lo<=l):∃o,dG False l tm V v h=V .normal tm ⟨h.nx,h.bl.aV l o,h.lo⟩:=by
 refine⟨.loop .exhausted none eZ [7] aPZ (.block 1 aQZ),?_⟩;unfold dG;simp only[hl,bB _ _ _ _ hlo]
theorem YM(s g:Value):lay [s,g] .nil 0=((T.nil:T Value).aV 0 s).aV 1 g:=by kernel_rfl
theorem D8(M:List HE)(clock bm mc:Nat)(a:Heap)(o:dw M clock)(g:a.bl.get bm=some (.map (M.map pH) clock))(xB:bm<a.nx)(gc:a.bl.get mc=some (aa [.map (some bm)] 96 false))(hmc:mc<a.nx)(hlo:a.lo<=a.nx)(hM:M.length<=1000)(V:KQ)(hk:∀v h' (L:List HE),L.Perm M->pY a h' v (L.map cT)->Le a h'->V v h'):CallW prog fAZ [.slice none 0 0,.func (.func WW) #[] #[.pointer (some ⟨mc,0,none⟩)]] a V:=by
 refine wA mixed (skip:=Tb) (M.length+60) ?_;rw[aeb,aea,YM];simp(disch:=try exact Y)only[Wz,Bf,ajr,ajh,T.cg,p_,ig,mW,CP,ajs,aji,u_,ajm,aee];generalize htm:(((((T.nil:T Value).aV 0 (Value.slice none 0 0)).aV 1 (Value.func (Fn.func WW) #[] #[Value.pointer (some ⟨mc,0,none⟩)])).aV 2 (Value.pointer (some ⟨a.nx,0,none⟩))).aV 4 (Value.slice none 0 0)).aV 6 (Value.func (Fn.func WW) #[] #[Value.pointer (some ⟨mc,0,none⟩)])=eZ;have hA:cL eZ 2=ptrTo a.nx:=by rw[<-htm];simp (disch:=decide) only [mW,ig];rfl
 obtain⟨hA2,HB,tG,gs,gl,ail,aim⟩:=BF a (aa [.slice none 0 0] 156 false) (iL .ready eZ);rw[<-HB];clear HB;have uQ:=(tG.get _ hmc).trans gc;have VE:=(tG.get _ xB).trans g;rw[aec,ad8,YM];simp(disch:=try exact Y)only[Wz,Bf,ajn,ao5,T.cg,p_,ig,mW,CP,uQ,Az VE,u_];refine Kc a bm clock M eZ o g xB hlo hM hA _ ?_ (M.length+41) [] _ _ (.slice none 0 0) [] ?_ ?_
 .intro tm h1 v L hp ho bG n1 g1 Yl;have l1:=bG.lo;obtain⟨ob,ea⟩:=OG (tm:=eZ) (v:=.tuple ⟨[]⟩) (V:=iW 0 (oC (p8 (M.length+58)) (aCZ.seq Code.ret) (r5 False [sO.tmp 4] V))) Yl (by omega);rw[Td,ajy,ea];have gs1:(h1.bl.aV (a.nx+1) ob).get a.nx=some (aa [v] 156 false):=(T.aj _ _ (by omega)).trans g1;simp(disch:=try exact Y)only[Wz,MG,CP,Bf,ajv,ajl,T.cg,p_,ig,mW,hA,gs1,aed,YK,ajz];exact hk v _ L hp (fC.put ho (by rw[Yl];intro hc;unfold aa at hc;cases hc) _) (bG.set (by omega) _)
 .exact Nat.le_trans (List.countP_le_length) (by omega)
 .have e2:hA2.nx=a.nx+2:=by omega
  refine⟨tG.new _,by show a.nx+3<=hA2.nx+1;omega,(T.aj _ _ (by omega)).trans gs,(T.aj _ _ (by omega)).trans gl,by rw[<-e2];exact T.ah _ _ _,.inl ⟨rfl,.inl rfl⟩,?_,?_,?_⟩
  .rw[List.filter_eq_nil_iff.2 (λx _=>by simp)]
  .simp (disch:=decide) only [mW,ig]
  .rw[ig,e2];rfl
end Go.Proofs
end
