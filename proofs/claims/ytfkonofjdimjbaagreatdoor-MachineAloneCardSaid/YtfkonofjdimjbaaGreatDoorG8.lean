/-
  PROVED HERE: a part of the proof (M4, M5, M6, M7, M8, MW, BG3, BG4, BG5, BG6, BG7, BG8, BP1, BP2, VaiEx, MS1, MS2, MS3, MS4, MM1).
-/
import Derived.Test.YtfkonofjdimjbaaGreatDoorG7
import Derived.Test.YtfkonofjdimjbaaGreatDoorRZ
import Derived.Test.YtfkonofjdimjbaaGreatDoorG3
set_option linter.unusedVariables false
set_option linter.unusedSimpArgs false
set_option maxRecDepth 100000
set_option maxHeartbeats 4000000
namespace Go.Proofs
open Go.Vai Go.Clashes
open Tryz (prog)
section
variable {h:af}{A:WA}{a:TA}{N:Nat}{d:TD}{R:RD}{G:Int->Int->List (Int × Int)}
theorem Jl(s:WS h A a N d R)(L:Mul d.Ts G)(t r:Int)(V:KQ)(hk:∀v Q h',(Q=[]/\G t r=[]\/∃(k:Nat)(b:TB)(e:HE),d.Ts[k]? = some b/\ff t r a.c.S=(k:Int)/\e∈b.M/\e.t=t/\e.r=r/\e.Q=Q)->QV h' v Q->Le h h'->V v h'):aq prog 316 [YYV A.wb,dJ t r] h V:=by
 have gw0:=s.r.gw;have hlo:=s.lo;apply YYW;rw[acC];have CU:=s.r.CU;simp(disch:=try exact Y)only[Wz,dJ,aJ,gw0];obtain⟨hA,bg,aS,g1,dP,dQ⟩:=jH h (ah [YYX t,YYX r] 26 false);rw[<-bg];clear bg;have sA:=s.le aS;refine Xl sA.t YYZ _ ?_;intro v0 h0 K t0 le0;have n0:=le0.nx;have l0:=le0.lo;obtain⟨x0,c0,ev0,_⟩:=(show Sl tJ h0 v0 K from t0.sl)
 have aju:∀(β:Type)(fl:β)(h':af)(V:YYY β),bF fl v0 h' V=V (YYX (K.length:Int)) h':=λβ fl h' V=>by rw[ev0];exact gr _ _ _ _ _
 have hKl:K.length<=1024:=by
  have h1:=t0.perm.length_eq;rw[List.length_map]at h1;rw[h1];have h2:=s.t.is.s1.2;have h3:=s.t.is.hd;have:∀L:List TB,(∀b∈L,b.M.length<=64)->(L.flatMap λb=>b.M.map fH).length<=64*L.length:=by
   intro L
   induction L with
   |nil=>intro _;simp
   |cons b L ih=>
    intro hL;rw[List.flatMap_cons,List.length_append,List.length_map,List.length_cons];have h1:=ih λx hx=>hL x (.tail _ hx);have h2:=hL b (.head _);omega
  have:=this d.Ts λb hb=>by have:=s.t.len b hb;omega
  omega
 have g10:=(le0.get _ YYZ).trans g1;simp(disch:=try exact Y)only[Wz,aju];refine⟨λn l h1=>∃i:Nat,an l 12=YYX (i:Int)/\n=K.length-i/\i<=K.length/\Le h0 h1/\∀e∈K.take i,¬(e.t=t/\e.r=r),
  ⟨_,0,rfl,rfl,YYZ,Le.refl _,by simp⟩,?_⟩
 rintro n l h1 ⟨i,s1,rfl,hi,bT,hnone⟩;have n1:=bT.nx;have l1:=bT.lo;by_cases hlt:i<K.length
 .obtain⟨e,he⟩:∃e,K[i]? = some e:=⟨_,List.getElem?_eq_getElem hlt⟩
  have heK:=List.mem_of_getElem? he;obtain⟨⟨b',hb',e',he',se⟩,qv⟩:=t0.each e heK;obtain⟨b0,o0,hb0,hx0,J_⟩:=an3 t0.sl i he (adI qv.1);have R1:=J_ h1 bT;have qv1:=qv.le bT;obtain⟨qx,qc,eq,_⟩:=(show Sl bL h1 e.q e.Q from qv1.1)
  have g11:=(bT.get _ YYZ).trans g10;rw[eq]at R1;simp(disch:=try exact Y)only[Wz,s1,dZ (show(i:Int)<(K.length:Int)by omega),HA,hx0,R1,g11];rw[iR];by_cases hn:e.t=t/\e.r=r
  .rw[bf hn];simp(disch:=try exact Y)only[Wz];obtain⟨k',hk'⟩:=List.getElem?_of_mem hb';have hs:=s.t.nm k' b' hk' e' he';refine hk _ e.Q _ (.inr ⟨k',b',e',hk',?_,he',se.1.symm.trans hn.1,se.2.1.symm.trans hn.2,se.2.2.2.symm⟩) ?_ ((aS.trans (le0.trans bT)).trans ((Le.refl h1).new _))
   .rw[<-hn.1,<-hn.2,se.1,se.2.1];exact hs
   .rw[<-eq];exact qv1.le ((Le.refl h1).new _)
  .rw[aZ hn];simp(disch:=try exact Y)only[Wz,s1];refine⟨_,YYZ,i+1,rfl,rfl,YYZ,bT.trans ((Le.refl h1).new _),λx hx=>?_⟩;rw[List.take_add_one,he]at hx;rcases List.mem_append.1 hx with hx|hx
   .exact hnone x hx
   .simp at hx;subst hx;exact hn
 .have hi':i=K.length:=by omega
  subst hi';rw[List.take_length]at hnone;simp(disch:=try exact Y)only[Wz,s1,cG (show(K.length:Int)<=(K.length:Int)by omega)];refine hk _ [] _ (.inl ⟨rfl,?_⟩) ⟨Sl.nil _ _ _,λb o n c hv=>by cases hv⟩ (aS.trans (le0.trans bT));refine Classical.byContradiction λhG=>?_;obtain⟨k1,b1,e1,hb1,_,qw,ht1,Dv,_⟩:=L.at s.t hG;have hm:fH e1∈K.map fH:=t0.perm.mem_iff.2 (List.mem_flatMap.2 ⟨b1,List.mem_of_getElem? hb1,List.mem_map.2 ⟨e1,qw,rfl⟩⟩);obtain⟨x,hx,hxe⟩:=List.mem_map.1 hm;exact hnone x hx ⟨(congrArg Prod.fst hxe).trans ht1,(congrArg Prod.snd hxe).trans Dv⟩
theorem Ue{α:Type}{L:List α}{i:Nat}{x:α}(hi:L[i]? = some x):L.set i x=L:=by
 refine List.ext_getElem? λj=>?_;rw[List.getElem?_set];split
 .rename_i e;subst e;rw[hi,if_pos (List.getElem?_eq_some_iff.1 hi).1]
 .rfl
theorem Jm(s:WS h A a N d R)(L:Mul d.Ts G){i k:Nat}{c:CR}(hi:R.cs[i]? = some (some c)){b:TB}(hb:d.Ts[k]? = some b){t r:Int}(hst:ff t r a.c.S=(k:Int)){e:HE}(he:e∈b.M)(ht:e.t=t)(hr:e.r=r){j:Nat}{q:R5}(hq:e.Q[j]? = some q)(V:KQ)(hk:∀h' d',WS h' A a (N+1) d' R->Mul d'.Ts (dR G t r (qe (G t r) q.x))->(∀q'∈e.Q,q'.id≠q.id->nW d' k t r q')->(∀y vs op,y<h.nx->h.bl.get y=some (ah vs 164 op)->h'.bl.get y=h.bl.get y)->Ew d d' k->WK a h h'->V (.tuple ⟨[]⟩) h'):aq prog 317 [YYV c.ca,YYX q.id] h V:=by
 obtain⟨gc,c1,c2⟩:=cN s hi;have gc':=gc;unfold c_ at gc';have gw:=s.r.gw;have hlo:=s.lo;apply YYW;rw[acD];simp(disch:=try exact Y)only[Wz,aJ,gc',gw];refine Pq s.t L hlo hb hst he ht hr hq _ ?_;intro h1 d1 v1 ho t1 L1 st1 g1 f1 b1;have s1:=s.table t1 f1 b1;obtain⟨B4,k1,k2⟩:=cN s1 hi;have gcx:=B4;unfold c_ at gcx;simp(disch:=try exact Y)only[Wz,aJ,gcx];rw[append_nil ho.sl ⟨_,_,_,rfl⟩];simp(disch:=try exact Y)only[Wz,aJ,gcx];have s2:=WS.kJ s1 hi (c':=c) rfl;rw[Ue hi]at s2;have hk:=hk _ d1 s2 L1 st1 (λy vs op hy hg=>(T.aD _ _ (λe=>by subst e;rw[gc]at hg;exact bG YYQ hg)).trans (vX.keep s.t.is f1 hy hg YYQ YYQ YYQ)) g1 ((s.kfr f1).trans (WS.yy s1 B4 (by simp[kI]) YYQ _));unfold c_ at hk;exact hk
theorem XJ(s:WS h A a N d R)(L:Mul d.Ts G){i k:Nat}{c:CR}(hi:R.cs[i]? = some (some c)){b:TB}(hb:d.Ts[k]? = some b)(hst:ff c.a.t c.a.r a.c.S=(k:Int))(V:KQ)(iE:(∀p∈G c.a.t c.a.r,p.1≠c.a.x)->∀h',WS h' A a (N+1) d { R with cs:=R.cs.set i (some { c with out:=6 }) }->WK a h h'->V (.tuple ⟨[]⟩) h')(hk:(∃p∈G c.a.t c.a.r,p.1=c.a.x)->∀h' d',WS h' A a (N+1) d' { R with cs:=R.cs.set i (some { c with out:=1 }) }->Mul d'.Ts (dR G c.a.t c.a.r (qe (G c.a.t c.a.r) c.a.x))->Ew d d' k->WK a h h'->V (.tuple ⟨[]⟩) h'):aq prog 303 [YYV c.ca] h V:=by
 obtain⟨gc,c1,c2⟩:=cN s hi;have gc':=gc;unfold c_ at gc';have gw:=s.r.gw;have hlo:=s.lo;apply YYW;rw[acu];simp(disch:=try exact Y)only[Wz,aJ,gc',gw];refine Bk s.t L hlo c.a.t c.a.r c.a.x _ ?_ ?_
 .intro hH h1 bT;have s1:=s.le bT;obtain⟨B4,_,_⟩:=cN s1 hi;have iE:=iE hH _ (WS.kJ (s1.up (Nat.le_succ _)) hi (c':={ c with out:=6 }) rfl) ((s.Lb bT).trans (WS.yy s1 B4 (by simp[kI]) YYQ _));unfold c_ at B4 iE;simp(disch:=try exact Y)only[Wz,aJ,B4];exact iE
 .intro h1 k' b' e j q hb' Pp he ht hr hq Lt bT;obtain rfl:k'=k:=by omega
  rw[hb]at hb';cases hb';have s1:=s.le bT;obtain⟨_,hG⟩:=L.Qc s.t hb he ht hr;simp(disch:=try exact Y)only[Wz];refine Jm s1 L hi hb hst he ht hr hq _ ?_;intro h2 d2 s2 L2 _ _ g2 k2;obtain⟨EZ,_,_⟩:=cN s2 hi;rw[Lt]at L2;have hk:=hk ⟨ou q,by rw[<-hG];exact List.mem_map.2 ⟨q,List.mem_of_getElem? hq,rfl⟩,Lt⟩ _ d2 (WS.kJ s2 hi (c':={ c with out:=1 }) rfl) L2 g2 (((s.Lb bT).trans k2).trans (WS.yy s2 EZ (by simp[kI]) YYQ _));unfold c_ at EZ hk;simp(disch:=try exact Y)only[Wz,aJ,EZ];exact hk
end
def x6(y m:Int)(p:Int × Int):Bool:=!(decide (p.1=y) && !cmp p.2 m)
def j9(l:List (Int × Int))(y m:Int):List (Int × Int):=l.filter (x6 y m)
theorem Pt(G:Int->Int->List (Int × Int))(t r:Int):dR G t r (G t r)=G:=by
 funext a b;unfold dR;split
 .rename_i e;rw[e.1,e.2]
 .rfl
theorem Uf{l:List (Int × Int)}{y m:Int}(h:∀p∈l,p.1=y->cmp p.2 m=false):j9 l y m=qe l y:=by
 unfold j9 qe;refine List.filter_congr λp hp=>?_;unfold x6;by_cases e:p.1=y
 .rw[h p hp e];simp[e]
 .simp[e]
theorem Ug{l:List (Int × Int)}{y m:Int}(h:∀p∈l,p.1=y->cmp p.2 m=true):j9 l y m=l:=by
 unfold j9;refine List.filter_eq_self.2 λp hp=>?_;unfold x6;by_cases e:p.1=y
 .rw[h p hp e];simp
 .simp[e]
def aeA(d:TD)(N:Nat):Prop:=(∀b∈d.Ts,b.M.length<=N)/\24<=d.F.length+N
def sP(n:Nat)(d d':TD):Prop:=∀N,aeA d N->aeA d' (N+n)
theorem sP.refl(n:Nat)(d:TD):sP n d d:=λN c=>⟨λb hb=>Nat.le_trans (c.1 b hb) YYZ,by have:=c.2;omega⟩
theorem sP.trans{n m:Nat}{d d1 d2:TD}(g:sP n d d1)(g':sP m d1 d2):sP (n+m) d d2:=λN c=>by have:=g' _ (g N c);rwa [Nat.add_assoc]at this
theorem Ew.n{d d':TD}{k:Nat}(g:Ew d d' k):sP 1 d d':=λN c=>by
 refine⟨λb' hb'=>?_,by have:=c.2;have:=g.f;omega⟩;obtain⟨j,hj⟩:=List.getElem?_of_mem hb';obtain⟨b,hb,hl⟩:=g.m j b' hj;have:=c.1 b (List.mem_of_getElem? hb);split at hl<;>omega
def Lu(a:TA)(d:TD):Prop:=d.F=[]\/∃b∈d.Ts,a.bu<=b.M.length
section
variable {h:af}{A:WA}{a:TA}{N:Nat}{d:TD}{R:RD}{G:Int->Int->List (Int × Int)}
def Kept(A:WA)(a:TA)(N:Nat)(d:TD)(R:RD)(G:Int->Int->List (Int × Int))(t r y m:Int)(k:Nat)(Q:List R5)(h0 h:af):Prop:=
 ∃d',WS h A a (N+1) d' R/\Mul d'.Ts (dR G t r (j9 (G t r) y m))/\WK a h0 h/\sP 1 d d'/\((d'=d/\Le h0 h)\/∀q'∈Q,q'.x≠y->nW d' k t r q')
theorem Lv(s:WS h A a N d R)(L:Mul d.Ts G){i k:Nat}{c:CR}(hi:R.cs[i]? = some (some c))(hst:ff c.a.t c.a.r a.c.S=(k:Int)){y want:Int}(hy:y<0)(hx0:0<=c.a.x)(only:∀p∈G c.a.t c.a.r,p.1<0->p.1=y)(bS:Value)(wW:List Value)(V:KQ)(hend:∀h' Q,(Q=[]/\G c.a.t c.a.r=[]\/∃(b:TB)(e:HE),d.Ts[k]? = some b/\e∈b.M/\e.t=c.a.t/\e.r=c.a.r/\e.Q=Q)->Kept A a N d R G c.a.t c.a.r y want k Q h h'->uR (YYV c.ca) wW (YYX want) bS h' V):aq prog 316 [YYV A.wb,dJ c.a.t c.a.r] h λng h=>
   aH (bF none ng h λv _=>some v) h λj0 h=>
    dD [undef,undef,undef,undef,undef,undef,undef,undef,undef,undef,undef,undef,undef,undef,undef,undef,undef,undef,undef,undef,undef,undef,undef,undef,undef,undef,undef,undef,undef,YYX 0] h λOy h N58=>
     uS Oy j0 ng (YYV c.ca) (YYX want) N58 wW bS h V:=by
 refine Jl s L c.a.t c.a.r _ ?_;intro v Q h1 hQ hv bT;have Ls:Q=[]/\G c.a.t c.a.r=[]\/∃(b:TB)(e:HE),d.Ts[k]? = some b/\e∈b.M/\e.t=c.a.t/\e.r=c.a.r/\e.Q=Q:=by
  rcases hQ with h|⟨k',b,e,h1,h2,r⟩
  .exact .inl h
  .obtain rfl:k'=k:=by omega
   exact .inr ⟨b,e,h1,r⟩
 have hG:Q.map ou=G c.a.t c.a.r/\Q.length<=1000/\(∀(j j':Nat)(p q:R5),Q[j]? = some p->Q[j']? = some q->j≠j'->p.x≠q.x/\p.id≠q.id):=by
  rcases Ls with⟨rfl,e⟩|⟨b,e,hb,he,ht,hr,rfl⟩
  .exact⟨e.symm,by simp,λj j' p q h=>by simp at h⟩
  .have vq:=ZV s.t (List.mem_of_getElem? hb) he;refine⟨(L.Qc s.t hb he ht hr).2,?_,λj j' p q h1 h2 hn=>ru vq h1 h2 hn⟩;have:=((s.t.is.bk b (List.mem_of_getElem? hb)).good e he).small;omega
 obtain⟨hG,hQl,hne⟩:=hG;obtain⟨vx,vc,ev,_⟩:=(show Sl bL h1 v Q from hv.1)
 have hlen:∀(β:Type)(fl:β)(h':af)(V:YYY β),bF fl v h' V=V (YYX (Q.length:Int)) h':=λβ fl h' V=>by rw[ev];exact gr _ _ _ _ _
 have n1:=bT.nx;have l1:=bT.lo;have hlo:=s.lo;simp(disch:=try exact Y)only[Wz,hlen];refine⟨λn l h2=>∃j:Nat,an l 29=YYX (j:Int)/\n=Q.length-j/\j<=Q.length/\QV h2 v Q/\((Le h1 h2/\∀q∈Q.take j,q.x=y->cmp q.m want=true)\/((∀q∈Q.drop j,q.x≠y)/\(∀q∈Q,q.x=y->cmp q.m want=false)/\∃d',WS h2 A a (N+1) d' R/\Mul d'.Ts (dR G c.a.t c.a.r (qe (G c.a.t c.a.r) y))/\WK a h h2/\sP 1 d d'/\∀q'∈Q,q'.x≠y->nW d' k c.a.t c.a.r q')),⟨_,0,rfl,rfl,YYZ,hv,.inl ⟨Le.refl _,by simp⟩⟩,?_⟩;rintro n l h2 ⟨j,s1,rfl,hj,qv,XK⟩;have s2:∃d2,WS h2 A a (N+1) d2 R:=by
  rcases XK with⟨bE,_⟩|⟨_,_,d2,s2,_⟩
  .exact⟨d,(s.le (bT.trans bE)).up (Nat.le_succ _)⟩
  .exact⟨d2,s2⟩
 obtain⟨d2,s2⟩:=s2;obtain⟨gc,c1,c2⟩:=cN s2 hi;have gc':=gc;unfold c_ at gc';have lo2:=s2.lo;by_cases hlt:j<Q.length
 .obtain⟨p,hp⟩:∃p,Q[j]? = some p:=⟨_,List.getElem?_eq_getElem hlt⟩
  have hpQ:=List.mem_of_getElem? hp;have hpG:ou p∈G c.a.t c.a.r:=by rw[<-hG];exact List.mem_map.2 ⟨p,hpQ,rfl⟩
  obtain⟨b4,o4,hb4,hx4,hp4,_⟩:=WD qv.1 j hp;have ZW:∀(P:R5->Prop),(∀q∈Q.take j,P q)->P p->∀q∈Q.take (j+1),P q:=λP h1 h2 q hq=>by
   rw[List.take_add_one,hp]at hq;rcases List.mem_append.1 hq with hq|hq
   .exact h1 q hq
   .simp at hq;subst hq;exact h2
  have ZX:∀q∈Q.drop (j+1),q∈Q.drop j/\q.x≠p.x:=λq hq=>by
   refine⟨?_,?_⟩
   .rw[show Q.drop j=p::Q.drop (j+1)by obtain⟨hl,rfl⟩:=List.getElem?_eq_some_iff.1 hp;exact List.drop_eq_getElem_cons hl];exact .tail _ hq
   .obtain⟨j',hj'⟩:=List.mem_iff_getElem?.1 hq;rw[List.getElem?_drop]at hj';exact(hne _ _ _ _ hj' hp YYZ).1
  simp(disch:=try exact Y)only[Wz,uS,s1,dZ (show(j:Int)<(Q.length:Int)by omega)];by_cases hpx:p.x<0
  .have hpy:p.x=y:=only _ hpG hpx;rcases XK with⟨bE,hA⟩|⟨hB,_⟩
   .refine⟨λl' h'=>QV h' v Q/\((Le h1 h'/\∀q∈Q.take (j+1),q.x=y->cmp q.m want=true)\/((∀q∈Q.drop (j+1),q.x≠y)/\(∀q∈Q,q.x=y->cmp q.m want=false)/\∃d',WS h' A a (N+1) d' R/\Mul d'.Ts (dR G c.a.t c.a.r (qe (G c.a.t c.a.r) y))/\WK a h h'/\sP 1 d d'/\∀q'∈Q,q'.x≠y->nW d' k c.a.t c.a.r q')),?_,?_⟩
    .simp(disch:=try exact Y)only[Wz,Ai,s1,hx4,hp4,bL,dZ hpx,aJ,gc',aZ (show p.x≠c.a.x by omega)];refine Ig p.m want ?_;have XL:=(Le.refl h2).new (ah [YYX p.id,YYX p.x,YYX p.m,YYX p.w,YYX p.s] 164 false);cases hc:cmp p.m want with
     |true=>
      simp(disch:=try exact Y)only[Wz];exact⟨qv.le XL,.inl ⟨bE.trans XL,ZW _ hA λ_=>hc⟩⟩
     |false=>
      simp(disch:=try exact Y)only[Wz];rcases Ls with⟨e0,_⟩|⟨b,e,hb,he,ht,hr,rfl⟩
      .rw[e0]at hp;simp at hp
      refine Jm (s.le ((bT.trans bE).trans XL)) L hi hb hst he ht hr hp _ ?_;intro h3 d3 s3 L3 still rq g3 k3;refine⟨(qv.le XL).frame k3.nx λc vs op hc hg=>rq c vs op hc hg,.inr ⟨λq hq=>by have:=(ZX q hq).2;omega,λq hq hqy=>?_,d3,s3,by rw[<-hpy];exact L3,(s.Lb ((bT.trans bE).trans XL)).trans k3,g3.n,λq' Dn hn=>still q' Dn ?_⟩⟩
      .obtain⟨j',hj'⟩:=List.mem_iff_getElem?.1 hq;by_cases ej:j'=j
       .subst ej;rw[hp]at hj';cases hj';exact hc
       .exact absurd (hqy.trans hpy.symm) (hne _ _ _ _ hj' hp ej).1
      .obtain⟨j',hj'⟩:=List.mem_iff_getElem?.1 Dn;have ej:j'≠j:=by rintro rfl;rw[hp]at hj';cases hj';exact hn hpy
       exact(hne _ _ _ _ hj' hp ej).2
    .rintro l' h' ⟨q1,q2⟩;exact⟨_,YYZ,j+1,rfl,rfl,YYZ,q1,q2⟩
   .refine absurd hpy (hB p ?_);rw[show Q.drop j=p::Q.drop (j+1)by obtain⟨hl,rfl⟩:=List.getElem?_eq_some_iff.1 hp;exact List.drop_eq_getElem_cons hl];exact .head _
  .refine⟨λl' h'=>Le h2 h',?_,?_⟩
   .simp(disch:=try exact Y)only[Wz,Ai,s1,hx4,hp4,bL,cG (show(0:Int)<=p.x by omega)];exact(Le.refl h2).new _
   .intro l' h' le';refine⟨_,YYZ,j+1,rfl,rfl,YYZ,qv.le le',?_⟩;rcases XK with⟨bE,hA⟩|⟨hB,hF,d3,s3,L3,k3,gn,st3⟩
    .exact .inl ⟨bE.trans le',ZW _ hA λe=>absurd e YYZ⟩
    .exact .inr ⟨λq hq=>hB q (ZX q hq).1,hF,d3,s3.le le',L3,k3.trans (s3.Lb le'),gn,st3⟩
 .have hj':j=Q.length:=by omega
  subst hj';simp(disch:=try exact Y)only[Wz,uS,s1,cG (show(Q.length:Int)<=(Q.length:Int)by omega)];refine hend h2 Q Ls ?_;rcases XK with⟨bE,hA⟩|⟨hB,hF,d3,s3,L3,k3,gn,st3⟩
  .rw[List.take_length]at hA;refine⟨d,(s.le (bT.trans bE)).up (Nat.le_succ _),?_,s.Lb (bT.trans bE),sP.refl 1 d,.inl ⟨rfl,bT.trans bE⟩⟩;rw[Ug,Pt]
   .exact L
   .intro q hq hqy;rw[<-hG]at hq;obtain⟨q0,hq0,rfl⟩:=List.mem_map.1 hq;exact hA q0 hq0 hqy
  .refine⟨d3,s3,?_,k3,gn,.inr st3⟩;rw[Uf]
   .exact L3
   .intro q hq hqy;rw[<-hG]at hq;obtain⟨q0,hq0,rfl⟩:=List.mem_map.1 hq;exact hF q0 hq0 hqy
end
theorem Jn(G:Int->Int->List (Int × Int))(t r:Int)(l l':List (Int × Int)):dR (dR G t r l) t r l'=dR G t r l':=by
 funext a b;unfold dR;split<;>rfl
def ry(l:List (Int × Int))(x y m:Int):List (Int × Int):=
 if dm l x=0 then j9 l y (bM 0 m)++[(x,bM 0 m)]else sG (j9 l y (bM (dm l x) m)) x (bM (dm l x) m)
def vB(l:List (Int × Int)):Prop:=(∀p∈l,p.2≠0/\kn p.2=true)/\l.Pairwise λp q=>p.1≠q.1/\cmp p.2 q.2=true
theorem XM{l:List (Int × Int)}(h:vB l){p q:Int × Int}(hp:p∈l)(hq:q∈l)(e:p.1=q.1):p=q:=by
 have key:∀l:List (Int × Int),(l.Pairwise λp q=>p.1≠q.1/\cmp p.2 q.2=true)->p∈l->q∈l->p=q:=by
  intro l
  induction l with
  |nil=>intro _ hp;cases hp
  |cons a l ih=>
   intro h hp hq;rw[List.pairwise_cons]at h;rcases List.mem_cons.1 hp with e1|h1<;>rcases List.mem_cons.1 hq with e2|h2
   .rw[e1,e2]
   .rw[<-e1]at h;exact absurd e (h.1 q h2).1
   .rw[<-e2]at h;exact absurd e.symm (h.1 p h1).1
   .exact ih h.2 h1 h2
 exact key l h.2 hp hq
theorem vD{l:List (Int × Int)}(h:vB l){p:Int × Int}(hp:p∈l):dm l p.1=p.2:=by
 unfold dm;cases hf:l.find? λq=>decide (q.1=p.1)with
 |none=>exact absurd hp (λhp=>by have:=List.find?_eq_none.1 hf p hp;simp at this)
 |some q=>
  have h1:=List.find?_some hf;rw[decide_eq_true_eq]at h1;rw[XM h (List.mem_of_find?_eq_some hf) hp h1];rfl
theorem yW{l:List (Int × Int)}(h:vB l){x:Int}(e:dm l x=0):∀p∈l,p.1≠x:=λp hp ex=>by
 subst ex;rw[vD h hp]at e;exact(h.1 p hp).1 e
theorem pL{l:List (Int × Int)}(h:vB l){x:Int}(e:dm l x≠0):(x,dm l x)∈l:=by
 unfold dm at e ⊢;cases hf:l.find? λq=>decide (q.1=x)with
 |none=>rw[hf]at e;exact absurd rfl e
 |some q=>
  have h1:=List.find?_some hf;rw[decide_eq_true_eq]at h1;subst h1;exact List.mem_of_find?_eq_some hf
section
variable {h:af}{A:WA}{a:TA}{N:Nat}{d:TD}{R:RD}{G:Int->Int->List (Int × Int)}
theorem Mul.E1(L:Mul d.Ts G)(s:WS h A a N d R)(t r:Int):vB (G t r):=by
 by_cases hG:G t r=[]
 .rw[hG];exact⟨λp hp=>(by cases hp),List.Pairwise.nil⟩
 .obtain⟨k,b,e,hb,_,he,_,_,hQ,hm⟩:=L.at s.t hG;have vq:=ZV s.t (List.mem_of_getElem? hb) he;rw[<-hm];refine⟨λp hp=>?_,?_⟩
  .obtain⟨q,hq,rfl⟩:=List.mem_map.1 hp;exact⟨(hQ q hq).2.2,(vq.right q hq).km⟩
  .rw[List.pairwise_map];refine vq.pair.imp_of_mem λ{p q} hp hq b=>⟨b.x,b.cm (hQ p hp).2.2 (hQ q hq).2.2⟩
theorem Pu(s:WS h A a N d R)(L:Mul d.Ts G)(hN:N<=900){i k:Nat}{c:CR}(hi:R.cs[i]? = some (some c))(hst:ff c.a.t c.a.r a.c.S=(k:Int)){y:Int}(hxy:c.a.x≠y)(km:kn c.a.m=true)(hm:c.a.m≠0)(only:∀p∈G c.a.t c.a.r,p.1=c.a.x\/p.1=y)(wW:List Value)(hl:an wW 19=YYX (dm (G c.a.t c.a.r) c.a.x))(id:Int){d0:TD}{G0:Int->Int->List (Int × Int)}(L0:Mul d0.Ts G0)(D0:vB (G0 c.a.t c.a.r))(hG:G=dR G0 c.a.t c.a.r (j9 (G0 c.a.t c.a.r) y (bM (dm (G0 c.a.t c.a.r) c.a.x) c.a.m)))(gq:dm (G c.a.t c.a.r) c.a.x=dm (G0 c.a.t c.a.r) c.a.x)(hid:dm (G c.a.t c.a.r) c.a.x≠0->∃q,nW d k c.a.t c.a.r q/\q.id=id/\q.x=c.a.x)(V:KQ)(cZ:∀h' d',WS h' A a (N+1) d' { R with cs:=R.cs.set i (some { c with out:=1 }) }->Mul d'.Ts (dR G0 c.a.t c.a.r (ry (G0 c.a.t c.a.r) c.a.x y c.a.m))->sP 1 d d'->WK a h h'->V (.tuple ⟨[]⟩) h')(Bw:∀h',WS h' A a (N+1) d { R with cs:=R.cs.set i (some { c with out:=5 }) }->dm (G0 c.a.t c.a.r) c.a.x=0->Lu a d->WK a h h'->V (.tuple ⟨[]⟩) h'):uR (YYV c.ca) wW (YYX (bM (dm (G0 c.a.t c.a.r) c.a.x) c.a.m)) (YYX id) h V:=by
 obtain⟨gc,c1,c2⟩:=cN s hi;have gc':=gc;unfold c_ at gc';have gw:=s.r.gw;have hlo:=s.lo;have cS:=s.t.is.cS;have s1:=s.t.is.s1;obtain⟨_,slt,_⟩:=tL (t:=c.a.t) (r:=c.a.r) (s:=a.c.S) YYZ;obtain⟨b,hb⟩:∃b,d.Ts[k]? = some b:=⟨_,List.getElem?_eq_getElem YYZ⟩
 have D:=L.E1 s c.a.t c.a.r;have hGt:G c.a.t c.a.r=j9 (G0 c.a.t c.a.r) y (bM (dm (G0 c.a.t c.a.r) c.a.x) c.a.m):=by rw[hG,kz]
 simp(disch:=try exact Y)only[Wz,uR,aJ,gc',hl];refine oW _ _ ?_;have fin:∀o h' d',WS h' A a (N+1) d' R->WK a h h'->WS ⟨h'.nx,h'.bl.bt c.ca (c_ A.wb { c with out:=o }),h'.lo⟩ A a (N+1) d' { R with cs:=R.cs.set i (some { c with out:=o }) }/\WK a h ⟨h'.nx,h'.bl.bt c.ca (c_ A.wb { c with out:=o }),h'.lo⟩:=λo h' d' s' w'=>by
  obtain⟨I7,_,_⟩:=cN s' hi;exact⟨WS.kJ s' hi rfl,w'.trans (WS.yy s' I7 (by simp[kI]) YYQ _)⟩
 have C8:∀p∈G c.a.t c.a.r,p.1≠c.a.x->cmp p.2 (bM (dm (G0 c.a.t c.a.r) c.a.x) c.a.m)=true:=λp hp hpx=>by
  have hy:p.1=y:=(only p hp).resolve_left hpx;rw[hGt]at hp;have:=(List.mem_filter.1 hp).2;unfold x6 at this;simpa[hy]using this
 by_cases B8:kG (dm (G c.a.t c.a.r) c.a.x) c.a.m=true
 .have hH:dm (G c.a.t c.a.r) c.a.x≠0:=λh0=>by rw[h0]at B8;exact hm (agB B8)
  have hmem:=pL D hH;have hs:=(jR (D.1 _ hmem).2 km hm).2.2.2 B8;rw[B8];simp(disch:=try exact Y)only[Wz,aJ,gc'];obtain⟨s9,w9⟩:=fin 1 h d (s.up (Nat.le_succ _)) (s.Lb (Le.refl h));have cZ:=cZ _ d s9 (by
   have:ry (G0 c.a.t c.a.r) c.a.x y c.a.m=G c.a.t c.a.r:=by
    unfold ry;rw[<-gq,if_neg hH,hs];rw[gq]at hs ⊢;rw[hs]at hGt;rw[<-hGt];unfold sG;rw[show(λp:Int × Int=>if p.1=c.a.x then(c.a.x,dm (G0 c.a.t c.a.r) c.a.x)else p)=λp=>if p.1=c.a.x then(c.a.x,dm (G0 c.a.t c.a.r) c.a.x)else p from rfl];refine(List.map_congr_left λp hp=>?_).trans (List.map_id _);split
    .rename_i e;have:=vD D hp;rw[e,gq]at this;exact Prod.ext e.symm this
    .rfl
   rw[this];have:dR G0 c.a.t c.a.r (G c.a.t c.a.r)=G:=by rw[hGt,<-hG]
   rw[this];exact L) (sP.refl 1 d) w9
  unfold c_ at cZ;exact cZ
 .rw[Bool.not_eq_true]at B8;rw[B8];simp(disch:=try exact Y)only[Wz];refine⟨λl' h'=>(an l' 39=.bool true/\an l' 40=YYX 0/\∃d',WS h' A a (N+1) d' R/\Mul d'.Ts (dR G0 c.a.t c.a.r (ry (G0 c.a.t c.a.r) c.a.x y c.a.m))/\sP 1 d d'/\WK a h h')\/(an l' 40=YYX 8/\dm (G0 c.a.t c.a.r) c.a.x=0/\Lu a d/\Le h h'),?_,?_⟩
  .by_cases hH:dm (G c.a.t c.a.r) c.a.x=0
   .have am:cu c.a.m=true:=(mL _).2 ⟨hm,km⟩;have hH0:=gq.symm.trans hH;have e0:bM (dm (G0 c.a.t c.a.r) c.a.x) c.a.m=c.a.m:=by rw[hH0];exact TS km
    rw[e0]at C8 ⊢;simp(disch:=try exact Y)only[Wz,hl,hH,Hi,aJ,gc',gw];refine XG s.t L hlo YYZ hb hst (yW D hH) am C8 _ ?_ ?_
    .intro hor h3 cL;simp(disch:=try exact Y)only[Wz];exact .inr ⟨trivial,hH0,hor.imp (λe=>e) λe=>⟨b,List.mem_of_getElem? hb,e.2⟩,cL⟩
    ·intro h3 d3 id3 t3 L3 g3 f3 b3;simp(disch:=try exact Y)only[Wz];refine .inl ⟨trivial,trivial,d3,s.table t3 f3 b3,?_,g3.n,s.kfr f3⟩;have:dR G0 c.a.t c.a.r (ry (G0 c.a.t c.a.r) c.a.x y c.a.m)=dR G c.a.t c.a.r (G c.a.t c.a.r++[(c.a.x,c.a.m)]):=by
      unfold ry;rw[if_pos hH0,TS km,hGt,e0]
      conv=>rhs;rw[hG]
      rw[Jn]
     rw[this];exact L3
   ·simp(disch:=try exact Y)only[Wz,hl,aZ hH,Hj,aJ,gc',gw];obtain⟨q,⟨b1,e1,j1,hb1,qw,ht1,Dv,hq1⟩,rfl,Lt⟩:=hid hH;obtain⟨hQ1,hm1⟩:=L.Qc s.t hb1 qw ht1 Dv;have YM:q.m=dm (G0 c.a.t c.a.r) c.a.x:=by
     have:=vD D (p:=ou q) (by rw[<-hm1];exact List.mem_map.2 ⟨q,List.mem_of_getElem? hq1,rfl⟩);rw[<-gq,<-Lt];exact this.symm
    rw[<-YM]at C8 ⊢;refine XH s.t L hlo YYZ hb1 hst qw ht1 Dv hq1 km hm (by rw[Lt];exact C8) _ ?_;intro h3 d3 t3 L3 g3 f3 b3;simp(disch:=try exact Y)only[Wz];refine .inl ⟨trivial,trivial,d3,s.table t3 f3 b3,?_,g3.n,s.kfr f3⟩;have:dR G0 c.a.t c.a.r (ry (G0 c.a.t c.a.r) c.a.x y c.a.m)=dR G c.a.t c.a.r (sG (G c.a.t c.a.r) q.x (bM q.m c.a.m)):=by
     unfold ry;rw[<-gq,if_neg hH,gq,<-YM,hGt,<-YM,Lt]
     conv=>rhs;rw[hG]
     rw[Jn]
    rw[this];exact L3
  .rintro l' h3 (⟨e1,e2,d3,s3,L3,gn,k3⟩|⟨e2,hH0,ho,cL⟩)
   .obtain⟨I7,_,_⟩:=cN s3 hi;obtain⟨s9,w9⟩:=fin 1 h3 d3 s3 k3;have cZ:=cZ _ d3 s9 L3 gn w9;unfold c_ at I7 cZ;simp(disch:=try exact Y)only[Wz,Aj,e2,Ho,Hl,e1,aJ,I7];exact cZ
   .have s3:=(s.le cL).up (Nat.le_succ N);obtain⟨I7,_,_⟩:=cN s3 hi;obtain⟨s9,w9⟩:=fin 5 h3 d s3 (s.Lb cL);have Bw:=Bw _ s9 hH0 ho w9;unfold c_ at I7 Bw;simp(disch:=try exact Y)only[Wz,Aj,e2,aJ,I7];exact Bw
end
theorem Pv{l:List (Int × Int)}{x y m:Int}(h:x≠y):dm (j9 l y m) x=dm l x:=by
 unfold dm j9;rw[List.find?_filter]
 congr 2
 have:(λa:Int × Int=>decide (x6 y m a=true/\decide (a.1=x)=true))=λa=>decide (a.1=x):=by
  funext a;by_cases e:a.1=x
  .have:a.1≠y:=by omega
   simp[x6,e,h]
  .simp[e]
 rw[this]
section
variable {h:af}{A:WA}{a:TA}{N:Nat}{d:TD}{R:RD}{G:Int->Int->List (Int × Int)}
theorem Bl(s:WS h A a N d R)(L:Mul d.Ts G)(hN:N<=890){i k:Nat}{c:CR}(hi:R.cs[i]? = some (some c))(hst:ff c.a.t c.a.r a.c.S=(k:Int)){y:Int}(hy:y<0)(hx0:0<=c.a.x)(km:kn c.a.m=true)(hm:c.a.m≠0)(only:∀p∈G c.a.t c.a.r,p.1=c.a.x\/p.1=y)(wW:List Value)(hl:an wW 19=YYX (dm (G c.a.t c.a.r) c.a.x))(id:Int)(hid:dm (G c.a.t c.a.r) c.a.x≠0->∃q,nW d k c.a.t c.a.r q/\q.id=id/\q.x=c.a.x)(V:KQ)(cZ:∀h' d',WS h' A a (N+2) d' { R with cs:=R.cs.set i (some { c with out:=1 }) }->Mul d'.Ts (dR G c.a.t c.a.r (ry (G c.a.t c.a.r) c.a.x y c.a.m))->sP 2 d d'->WK a h h'->V (.tuple ⟨[]⟩) h')(Bw:∀h' d',WS h' A a (N+2) d' { R with cs:=R.cs.set i (some { c with out:=5 }) }->Mul d'.Ts (dR G c.a.t c.a.r (j9 (G c.a.t c.a.r) y (bM 0 c.a.m)))->dm (G c.a.t c.a.r) c.a.x=0->sP 2 d d'->sP 1 d d'->Lu a d'->WK a h h'->V (.tuple ⟨[]⟩) h'):Ak (YYV c.ca) wW (YYX id) h V:=by
 obtain⟨gc,c1,c2⟩:=cN s hi;have gc':=gc;unfold c_ at gc';have gw:=s.r.gw;unfold Ak;simp(disch:=try exact Y)only[Wz,hl,aJ,gc',gw];refine Ay _ _ ?_;simp(disch:=try exact Y)only[Wz,aJ,gc',gw];refine Lv s L hi hst hy hx0 (λp hp hn=>(only p hp).resolve_left YYZ) (YYX id) wW V ?_;intro h' Q hQ kept;obtain⟨d1,s1,L1,k1,gn,hor⟩:=kept;have hxy:c.a.x≠y:=by omega
 have gq:dm (dR G c.a.t c.a.r (j9 (G c.a.t c.a.r) y (bM (dm (G c.a.t c.a.r) c.a.x) c.a.m)) c.a.t c.a.r) c.a.x=dm (G c.a.t c.a.r) c.a.x:=by
  rw[kz,Pv hxy]
 refine Pu s1 L1 YYZ hi hst hxy km hm (λp hp=>?_) wW (by rw[gq];exact hl) id L (L.E1 s _ _) rfl gq (λhne=>?_) V ?_ ?_
 .rw[kz]at hp;exact only p (List.mem_filter.1 hp).1
 .rw[gq]at hne;obtain⟨q,hq,hqi,Lt⟩:=hid hne;refine⟨q,?_,hqi,Lt⟩;rcases hor with⟨rfl,_⟩|st
  .exact hq
  .refine st q ?_ YYZ;obtain⟨b,e,j,hb,he,ht,hr,hqj⟩:=hq;rcases hQ with⟨_,hG⟩|⟨b',e',hb',he',ht',hr',rfl⟩
   .exact absurd ⟨ht.symm,hr.symm⟩ (L.no hG b (List.mem_of_getElem? hb) e he)
   .rw[hb]at hb';cases hb';have:=(s.t.is.bk b (List.mem_of_getElem? hb)).ok.uniq he he' (by rw[ht,ht']) (by rw[hr,hr']);subst this;exact List.mem_of_getElem? hqj
 .intro h'' d' s' L' gn' w';exact cZ h'' d' s' L' (gn.trans gn') (k1.trans w')
 .intro h'' s' h0 ho w';refine Bw h'' d1 s' ?_ h0 (gn.trans (sP.refl 1 d1)) gn ho (k1.trans w');rw[h0]at L1;exact L1
theorem XN(s:WS h A a N d R)(L:Mul d.Ts G)(hN:N<=890){i k:Nat}{c:CR}(hi:R.cs[i]? = some (some c))(hst:ff c.a.t c.a.r a.c.S=(k:Int)){y:Int}(hy:y<0)(hx0:0<=c.a.x)(km:kn c.a.m=true)(hm:c.a.m≠0)(only:∀p∈G c.a.t c.a.r,p.1=c.a.x\/p.1=y)(V:KQ)(cZ:∀h' d',WS h' A a (N+2) d' { R with cs:=R.cs.set i (some { c with out:=1 }) }->Mul d'.Ts (dR G c.a.t c.a.r (ry (G c.a.t c.a.r) c.a.x y c.a.m))->sP 2 d d'->WK a h h'->V (.tuple ⟨[]⟩) h')(Bw:∀h' d',WS h' A a (N+2) d' { R with cs:=R.cs.set i (some { c with out:=5 }) }->Mul d'.Ts (dR G c.a.t c.a.r (j9 (G c.a.t c.a.r) y (bM 0 c.a.m)))->dm (G c.a.t c.a.r) c.a.x=0->sP 2 d d'->sP 1 d d'->Lu a d'->WK a h h'->V (.tuple ⟨[]⟩) h'):aq prog 302 [YYV c.ca] h V:=by
 obtain⟨gc,c1,c2⟩:=cN s hi;have gc':=gc;unfold c_ at gc';have gw:=s.r.gw;have hlo:=s.lo;have D:=L.E1 s c.a.t c.a.r;apply YYW;rw[acs];simp(disch:=try exact Y)only[Wz,aJ,gc',gw];refine Bk s.t L hlo c.a.t c.a.r c.a.x _ ?_ ?_
 .intro hno h1 bT;have s1:=s.le bT;have hH:dm (G c.a.t c.a.r) c.a.x=0:=Classical.byContradiction λh=>hno _ (pL D h) rfl;simp(disch:=try exact Y)only[Wz];refine⟨λl' h'=>an l' 19=YYX (dm (G c.a.t c.a.r) c.a.x)/\Le h1 h',⟨by rw[hH];rfl,Le.refl _⟩,?_⟩;rintro l' h2 ⟨sl,bE⟩;exact Bl (s1.le bE) L hN hi hst hy hx0 km hm only l' sl 0 (λh0=>absurd hH h0) V (λh' d' s' L' gn k'=>cZ h' d' s' L' gn ((s.Lb (bT.trans bE)).trans k')) λh' d' s' L' h0 g2 g1 ho k'=>Bw h' d' s' L' h0 g2 g1 ho ((s.Lb (bT.trans bE)).trans k')
 .intro h1 k' b e j q hb Pp he ht hr hq Lt bT;obtain rfl:k'=k:=by omega
  have s1:=s.le bT;obtain⟨B4,_,_⟩:=cN s1 hi;unfold c_ at B4;have ZK:=s1.r.gw;have n1:=bT.nx;have l1:=bT.lo;obtain⟨hQ,hG⟩:=L.Qc s.t hb he ht hr;have YM:q.m=dm (G c.a.t c.a.r) c.a.x:=by
   have:=vD D (p:=ou q) (by rw[<-hG];exact List.mem_map.2 ⟨q,List.mem_of_getElem? hq,rfl⟩);rw[<-Lt];exact this.symm
  simp(disch:=try exact Y)only[Wz];refine⟨λl' h'=>an l' 19=YYX (dm (G c.a.t c.a.r) c.a.x)/\Le h1 h',?_,?_⟩
  .simp(disch:=try exact Y)only[Wz,Hh,aJ,B4,ZK];refine XE s1.t YYZ hb he hq _ ?_;intro h2 bE;have n2:=bE.nx;have l2:=bE.lo;simp(disch:=try exact Y)only[Wz,dJ,mN,bL];exact⟨by rw[<-YM],(((bE.new _).new _).set YYZ _).set (by show h1.nx<=h2.nx+1;omega) _⟩
  .rintro l' h2 ⟨sl,bE⟩;exact Bl (s1.le bE) L hN hi hst hy hx0 km hm only l' sl q.id (λ_=>⟨q,⟨b,e,j,hb,he,ht,hr,hq⟩,rfl,Lt⟩) V (λh' d' s' L' gn k'=>cZ h' d' s' L' gn ((s.Lb (bT.trans bE)).trans k')) λh' d' s' L' h0 g2 g1 ho k'=>Bw h' d' s' L' h0 g2 g1 ho ((s.Lb (bT.trans bE)).trans k')
end
def lQ(c:fE)(y:Int)(G:Int->Int->List (Int × Int))(G':Int->Int->List (Int × Int))(out:Int):Prop:=
 if c.k=1 then(out=1/\G'=dR G c.t c.r (ry (G c.t c.r) c.x y c.m))\/(out=5/\dm (G c.t c.r) c.x=0/\G'=dR G c.t c.r (j9 (G c.t c.r) y (bM 0 c.m)))
 else if dm (G c.t c.r) c.x=0 then out=6/\G'=G
 else out=1/\G'=dR G c.t c.r (if c.k=3 then vz (G c.t c.r) c.x c.to else qe (G c.t c.r) c.x)
section
variable {h:af}{A:WA}{a:TA}{N:Nat}{d:TD}{R:RD}{G:Int->Int->List (Int × Int)}
theorem EG{l:List (Int × Int)}(h:vB l){x:Int}:(∀p∈l,p.1≠x)<->dm l x=0:=by
 refine⟨λhn=>Classical.byContradiction λhg=>hn _ (pL h hg) rfl,λhg=>yW h hg⟩
theorem XP(s:WS h A a N d R)(L:Mul d.Ts G){i k:Nat}{c:CR}(hi:R.cs[i]? = some (some c))(hst:ff c.a.t c.a.r a.c.S=(k:Int))(twin:dm (G c.a.t c.a.r) c.a.x≠0->∀p∈G c.a.t c.a.r,p.1≠c.a.x->p.1≠c.a.to)(V:KQ)(iE:dm (G c.a.t c.a.r) c.a.x=0->∀h',WS h' A a (N+1) d { R with cs:=R.cs.set i (some { c with out:=6 }) }->WK a h h'->V (.tuple ⟨[]⟩) h')(hk:dm (G c.a.t c.a.r) c.a.x≠0->∀h' d',WS h' A a (N+1) d' { R with cs:=R.cs.set i (some { c with out:=1 }) }->Mul d'.Ts (dR G c.a.t c.a.r (vz (G c.a.t c.a.r) c.a.x c.a.to))->sP 1 d d'->WK a h h'->V (.tuple ⟨[]⟩) h'):aq prog 304 [YYV c.ca] h V:=by
 obtain⟨gc,c1,c2⟩:=cN s hi;have gc':=gc;unfold c_ at gc';have gw:=s.r.gw;have hlo:=s.lo;have D:=L.E1 s c.a.t c.a.r;apply YYW;rw[acv];simp(disch:=try exact Y)only[Wz,aJ,gc',gw];refine Bk s.t L hlo c.a.t c.a.r c.a.x _ ?_ ?_
 .intro hno h1 bT;have s1:=s.le bT;obtain⟨B4,_,_⟩:=cN s1 hi;have iE:=iE ((EG D).1 hno) _ (WS.kJ (s1.up (Nat.le_succ _)) hi (c':={ c with out:=6 }) rfl) ((s.Lb bT).trans (WS.yy s1 B4 (by simp[kI]) YYQ _));unfold c_ at B4 iE;simp(disch:=try exact Y)only[Wz,aJ,B4];exact iE
 .intro h1 k' b e j q hb Pp he ht hr hq Lt bT;obtain rfl:k'=k:=by omega
  have s1:=s.le bT;have n1:=bT.nx;have l1:=bT.lo;obtain⟨B4,c11,_⟩:=cN s1 hi;have aeB:=B4;unfold c_ at aeB;have ZK:=s1.r.gw;obtain⟨hQ,hG⟩:=L.Qc s.t hb he ht hr;have hH:dm (G c.a.t c.a.r) c.a.x≠0:=λh0=>(EG D).2 h0 (ou q) (by rw[<-hG];exact List.mem_map.2 ⟨q,List.mem_of_getElem? hq,rfl⟩) Lt;simp(disch:=try exact Y)only[Wz];refine⟨λl' h'=>Le h1 h',?_,?_⟩
  .simp(disch:=try exact Y)only[Wz,Hr,aJ,aeB];by_cases hto:c.a.to<0
   .simp(disch:=try exact Y)only[Wz,dZ hto,Hq,aJ,aeB,ZK];refine Jl s1 L c.a.t c.a.r _ ?_;intro v Q h2 hQ2 hv bE;obtain⟨vx,vc,ev,_⟩:=(show Sl bL h2 v Q from hv.1)
    have hlen:∀(β:Type)(fl:β)(h':af)(V:YYY β),bF fl v h' V=V (YYX (Q.length:Int)) h':=λβ fl h' V=>by rw[ev];exact gr _ _ _ _ _
    have hQl:Q.length<=1000/\gz Q:=by
     rcases hQ2 with⟨rfl,_⟩|⟨k2,b2,e2,hb2,_,Vt,ht2,JO,rfl⟩
     .exact⟨by simp,λq hq=>by cases hq⟩
     .have:=((s1.t.is.bk b2 (List.mem_of_getElem? hb2)).good e2 Vt).small;exact⟨YYZ,(L.Qc s1.t hb2 Vt ht2 JO).1⟩
    have n2:=bE.nx;have l2:=bE.lo;obtain⟨hQl,hQh⟩:=hQl;simp(disch:=try exact Y)only[Wz,hlen];refine⟨λn l h3=>∃j:Nat,an l 14=YYX (j:Int)/\n=Q.length-j/\j<=Q.length/\Le h2 h3,⟨_,0,rfl,rfl,YYZ,Le.refl _⟩,?_⟩;rintro n l h3 ⟨j,e1,rfl,hj,cL⟩;have n3:=cL.nx;have l3:=cL.lo;by_cases hlt:j<Q.length
    .obtain⟨p,hp⟩:∃p,Q[j]? = some p:=⟨_,List.getElem?_eq_getElem hlt⟩
     obtain⟨b4,o4,hb4,hx4,hp4,_⟩:=WD hv.1 j hp;have hps:p.s=0:=(hQh p (List.mem_of_getElem? hp)).2.1;rw[<-cL.get _ hb4]at hp4;simp(disch:=try exact Y)only[Wz,e1,dZ (show(j:Int)<(Q.length:Int)by omega),Hp,hx4,hp4,bL,hps];exact⟨_,YYZ,j+1,rfl,rfl,YYZ,cL.trans ((Le.refl h3).new _)⟩
    .simp(disch:=try exact Y)only[Wz,e1,cG (show(Q.length:Int)<=(j:Int)by omega)];exact bE.trans cL
   .simp(disch:=try exact Y)only[Wz,cG (show 0<=c.a.to by omega)];exact Le.refl _
  .rintro l' h3 cL;have s3:=s1.le cL;obtain⟨I7,c31,_⟩:=cN s3 hi;have gw3:=s3.r.gw;have hne:c.ca≠A.wb:=cr I7 gw3 YYQ;have k3:=(s.Lb (bT.trans cL)).trans (WS.yy s3 I7 (by simp[kI]) YYQ (c_ A.wb { c with out:=1 }));have s3':=WS.kJ s3 hi (c':={ c with out:=1 }) rfl;have lo3:=s3.lo;have ajx:=I7;unfold c_ at ajx s3' k3;simp(disch:=try exact Y)only[Wz,Hs,aJ,ajx,gw3];refine Ud s3'.t L (by exact lo3) hb hst he ht hr hq (y:=c.a.to) (by rw[Lt];exact twin hH) _ ?_;intro h4 d4 t4 L4' g4 f4 b4;simp(disch:=try exact Y)only[Wz];have s4:=s3'.table t4 f4 b4;rw[Lt]at L4';exact hk hH h4 d4 s4 L4' g4.n (k3.trans (s3'.kfr f4))
theorem XQ(s:WS h A a N d R)(L:Mul d.Ts G)(hN:N<=890){i k:Nat}{c:CR}(hi:R.cs[i]? = some (some c))(BN:c.wt=false)(hst:ff c.a.t c.a.r a.c.S=(k:Int)){y:Int}(hy:y<0)(hm:mR c.a=true)(hx0:c.a.k=1->0<=c.a.x)(only:c.a.k=1->∀p∈G c.a.t c.a.r,p.1=c.a.x\/p.1=y)(uv:c.a.k=1\/c.a.k=2\/c.a.k=3)(twin:c.a.k=3->dm (G c.a.t c.a.r) c.a.x≠0->∀p∈G c.a.t c.a.r,p.1≠c.a.x->p.1≠c.a.to)(V:KQ)(hk:∀h' d' G' out,WS h' A a (N+2) d' { R with cs:=R.cs.set i (some { c with ph:=3,out:=out }) }->Mul d'.Ts G'->lQ c.a y G G' out->sP 2 d d'->(out=5->sP 1 d d'/\Lu a d')->WK a h h'->V (.tuple ⟨[]⟩) h'):aq prog 281 [YYV c.ca] h V:=by
 obtain⟨gc,c1,c2⟩:=cN s hi;have gc':=gc;unfold c_ at gc';have hlo:=s.lo;have hil:=(List.getElem?_eq_some_iff.1 hi).1;unfold mR at hm;rw[Bool.and_eq_true]at hm;have hm:=hm.2;apply YYW;rw[aci];refine⟨λl' h'=>∃d' G' out,WS h' A a (N+2) d' { R with cs:=R.cs.set i (some { c with out:=out }) }/\Mul d'.Ts G'/\lQ c.a y G G' out/\sP 2 d d'/\(out=5->sP 1 d d'/\Lu a d')/\WK a h h',?_,?_⟩
 .simp(disch:=try exact Y)only[Wz,G_,aJ,gc',BN,G9];refine adX h _ hlo ?_;intro b0 h1 bT g0;have s1:=s.le bT;have k1:=s.Lb bT;have B4:=(bT.get _ c1).trans gc';have D:=L.E1 s c.a.t c.a.r;rcases uv with ha|ha|ha
  .rw[if_pos ha]at hm;rw[Bool.and_eq_true,Bool.and_eq_true,decide_eq_true_eq]at hm;simp(disch:=try exact Y)only[Wz,ZP g0 _ _ (.inl ⟨ha,rfl⟩),aJ,B4,List.nil_append,List.append_nil];refine XN s1 L hN hi hst hy (hx0 ha) hm.1.1 hm.1.2 (only ha) _ ?_ ?_
   .intro h2 d2 s2 L2 gn k2;rw[BN]at s2;exact⟨d2,_,1,s2,L2,by unfold lQ;rw[if_pos ha];exact .inl ⟨rfl,rfl⟩,gn,(λe=>by omega),k1.trans k2⟩
   .intro h2 d2 s2 L2 h0 gn2 gn1 ho k2;rw[BN]at s2;exact⟨d2,_,5,s2,L2,by unfold lQ;rw[if_pos ha];exact .inr ⟨rfl,h0,rfl⟩,gn2,(λ_=>⟨gn1,ho⟩),k1.trans k2⟩
  .have WW:c.a.k≠1:=by omega
   have h3':c.a.k≠3:=by omega
   simp(disch:=try exact Y)only[Wz,ZP g0 _ _ (.inr ⟨ha,rfl⟩),aJ,B4,List.nil_append,List.append_nil];obtain⟨_,slt,_⟩:=tL (t:=c.a.t) (r:=c.a.r) (s:=a.c.S) YYZ;have cS:=s.t.is.cS;obtain⟨b,hb⟩:∃b,d.Ts[k]? = some b:=⟨_,List.getElem?_eq_getElem YYZ⟩
   refine XJ s1 L hi hb hst _ ?_ ?_
   .intro hno h2 s2 k2;rw[BN]at s2;exact⟨d,G,6,s2.up (Nat.le_succ _),L,by unfold lQ;rw[if_neg WW,if_pos ((EG D).1 hno)];exact⟨rfl,rfl⟩,sP.refl 2 d,(λe=>by omega),k1.trans k2⟩
   .intro hex h2 d2 s2 L2 g2 k2;rw[BN]at s2;refine⟨d2,_,1,s2.up (Nat.le_succ _),L2,?_,g2.n.trans (sP.refl 1 d2),(λe=>by omega),k1.trans k2⟩;unfold lQ;obtain⟨p,hp,hpx⟩:=hex;rw[if_neg WW,if_neg (λh0=>(EG D).2 h0 p hp hpx),if_neg h3'];exact⟨rfl,rfl⟩
  .have WW:c.a.k≠1:=by omega
   simp(disch:=try exact Y)only[Wz,aev g0 _ ha,aJ,B4,List.nil_append,List.append_nil];refine XP s1 L hi hst (twin ha) _ ?_ ?_
   .intro h0 h2 s2 k2;rw[BN]at s2;exact⟨d,G,6,s2.up (Nat.le_succ _),L,by unfold lQ;rw[if_neg WW,if_pos h0];exact⟨rfl,rfl⟩,sP.refl 2 d,(λe=>by omega),k1.trans k2⟩
   .intro h0 h2 d2 s2 L2 gn k2;rw[BN]at s2;exact⟨d2,_,1,s2.up (Nat.le_succ _),L2,by unfold lQ;rw[if_neg WW,if_neg h0,if_pos ha];exact⟨rfl,rfl⟩,gn.trans (sP.refl 1 d2),(λe=>by omega),k1.trans k2⟩
 .rintro l' h' ⟨d',G',out,s',L',r',gn,ho,k'⟩;have hi':(R.cs.set i (some { c with out:=out }))[i]? = some (some { c with out:=out }):=by rw[List.getElem?_set,if_pos rfl,if_pos hil]
  obtain⟨I7,_,c3⟩:=cN s' hi';refine TM { c with out:=out } I7 c3 3 _ rfl _ ?_;have s4:=WS.kJ s' hi' (c':={ c with ph:=3,out:=out }) rfl;simp only[List.set_set]at s4;exact hk _ d' G' out s4 L' r' gn ho (k'.trans (WS.yy s' I7 (by simp[kI]) YYQ _))
theorem Jo(s:WS h A a N d R)(L:Mul d.Ts G)(hN:N<=890){i k:Nat}{c:CR}(hi:R.cs[i]? = some (some c))(CZ:c.ph=2)(hbi:R.bits[i]? = some 0)(BN:c.wt=false)(hst:ff c.a.t c.a.r a.c.S=(k:Int))(hsk:c.st=(k:Int)){o:Option (Nat × Int)}(hl:R.eE[k]? = some o){y:Int}(hy:y<0)(hm:mR c.a=true)(hx0:c.a.k=1->0<=c.a.x)(only:c.a.k=1->∀p∈G c.a.t c.a.r,p.1=c.a.x\/p.1=y)(uv:c.a.k=1\/c.a.k=2\/c.a.k=3)(twin:c.a.k=3->dm (G c.a.t c.a.r) c.a.x≠0->∀p∈G c.a.t c.a.r,p.1≠c.a.x->p.1≠c.a.to)(V:KQ)(hk:∀h' d' G' out,WS h' A a (N+2) d' { R with cs:=R.cs.set i (some { c with ph:=3,out:=out }) }->Mul d'.Ts G'->lQ c.a y G G' out->sP 2 d d'->(out=5->sP 1 d d'/\Lu a d')->WK a h h'->V (.tuple ⟨[.bool false,YYX 0,YYX 0]⟩) h'):aq prog 82 [YYV A.wb,YYX (i:Int)] h V:=by
 have gw:=s.r.gw;have gcs:=s.r.gc;have hil:=CX s hi;have r:(R.cs.map λo=>dV (o.map (·.ca)))[i]? = some (YYV c.ca):=pI s hi;obtain⟨gc,c1,c2⟩:=cN s hi;have hlc:(R.cs.map λo=>dV (o.map (·.ca))).length=A.n:=by rw[List.length_map];exact s.r.lc
 have gc':=gc;unfold c_ CV at gc';rw[CZ]at gc';have h2:decide (((2:Nat):Int)=1)=false:=by decide
 apply YYW;rw[Sh];simp(disch:=try exact Y)only[Wz,mU,yR];refine q_ s hil _ ?_;simp(disch:=try exact Y)only[Wz];refine rY s hi hbi hsk hl _ ?_;rw[CZ,h2];simp(disch:=try exact Y)only[Wz,Bool.not_false,Bool.true_or,yQ,aJ,gw,br,gcs,r,gc',Nat.mul_one,uB];refine XQ s L hN hi BN hst hy hm hx0 only uv twin _ ?_;intro h' d' G' out s' L' r' gn ho k';have hi':(R.cs.set i (some { c with ph:=3,out:=out }))[i]? = some (some { c with ph:=3,out:=out }):=by rw[List.getElem?_set,if_pos rfl,if_pos (by have:=s.r.lc;omega)]
 obtain⟨EZ,_,_⟩:=cN s' hi';unfold c_ at EZ;simp(disch:=try exact Y)only[Wz,aJ,EZ];exact hk h' d' G' out s' L' r' gn ho k'
end
abbrev GT:=Int->Int->List (Int × Int)
structure WJ(h:af)(A:WA)(a:TA)(G:GT)(N n:Nat)(x:fE)(out:Int):Prop where
 w:∃(d:TD)(R:RD)(N0:Nat),WS h A a N0 d R/\Mul d.Ts G/\R.bits[0]? = some 0/\0<=R.begun/\R.begun<=N/\N0+2*(n / 2)<=2*N/\aeA d N0/\TH R n x out
 cS:a.c.S=2
 hd:a.bu=8
section
variable {h h':af}{A:WA}{a:TA}{G:GT}{N n:Nat}{x:fE}{out:Int}
theorem WJ.le(s:WJ h A a G N n x out)(l:Le h h'):WJ h' A a G N n x out:=by
 obtain⟨⟨d,R,N0,s1,s2⟩,s3,s4⟩:=s;exact⟨⟨d,R,N0,s1.le l,s2⟩,s3,s4⟩
theorem WJ.lo(s:WJ h A a G N n x out):h.lo<=h.nx:=by
 obtain⟨⟨d,R,N0,s1,s2⟩,s3,s4⟩:=s;exact s1.lo
theorem WJ.E1(s:WJ h A a G N n x out)(t r:Int):vB (G t r):=by
 obtain⟨⟨d,R,N0,s1,s2,_⟩,s3,s4⟩:=s;exact s2.E1 s1 t r
theorem WJ.put(s:WJ h A a G N n x out){b:Nat}{v:List Value}{t:TypeId}{o:Bool}(hg:h.bl.get b=some (ah v t o))(ht:¬mT t o)(hr:¬kI t o)(ob:bO):WJ ⟨h.nx,h.bl.bt b ob,h.lo⟩ A a G N n x out:=by
 obtain⟨⟨d,R,N0,s1,s2⟩,s3,s4⟩:=s;exact⟨⟨d,R,N0,s1.Xt hg ht hr ob,s2⟩,s3,s4⟩
theorem WJ.rest(s:WJ h A a G N 0 x out)(x':fE)(out':Int):WJ h A a G N 0 x' out':=by
 obtain⟨⟨d,R,N0,s1,s2,s3,s4,s5,s6,sc,t⟩,s7,s8⟩:=s;refine⟨⟨d,R,N0,s1,s2,s3,s4,s5,s6,sc,?_⟩,s7,s8⟩;rcases t with t|⟨c,k,_,_,_,_,_,_,_,_,_,t⟩
 .exact .inl t
 .rcases t with⟨e,_⟩|⟨e,_⟩|⟨e,_⟩<;>omega
theorem WJ.leV(s:WJ h A a G N n x out){v:Value}(l:V8 v h h')(hv:∀d,xS v d->d<h.nx/\∃vs o,h.bl.get d=some (ah vs 275 o))(one:∀d d',xS v d->xS v d'->d=d')(hs:∀d,xS v d->∃ob,h'.bl.get d=some ob):WJ h' A a G N n x out:=by
 by_cases hb:∃d,xS v d
 .obtain⟨d,hd⟩:=hb;obtain⟨h1,vs,o,h2⟩:=hv d hd;obtain⟨ob,h3⟩:=hs d hd;have s1:=s.put h2 (by unfold mT;cases o<;>decide) (by unfold kI;cases o<;>decide) ob;refine s1.le ⟨l.nx,l.lo,λc hc=>?_⟩;by_cases e:c=d
  .subst e;rw[h3];exact(T.az _ _ _).symm
  .exact(l.get c hc λhb=>e (one c d hb hd)).trans (T.aD _ _ (λe'=>e e'.symm)).symm
 .exact s.le ⟨l.nx,l.lo,λc hc=>l.get c hc λhb'=>hb ⟨c,hb'⟩⟩
theorem Pw(s:WJ h A a G N 0 x out)(hN:N<=440)(y:fE)(hm:mR y=true)(o:Int)(V:KQ)(hk:∀h',WJ h' A a G (N+1) 3 y o->WK a h h'->V (YYX 0) h'):aq prog 214 [YYV A.wb,YYX ((0:Nat):Int),.agg ⟨Et y⟩] h V:=by
 obtain⟨⟨d,R,N0,s1,s2,s3,s4,s5,s6,sc,t⟩,s7,s8⟩:=s;obtain⟨t1,t2⟩:R.cs[0]? = some none/\∀k,k<2->R.eE[k]? = some none:=by
  rcases t with⟨_,t⟩|⟨c,k,_,_,_,_,_,_,_,_,_,t⟩
  .exact t
  .rcases t with⟨e,_⟩|⟨e,_⟩|⟨e,_⟩<;>omega
 refine Xr s1 t1 y ⟨s4,YYZ⟩ _ ?_ ?_
 .intro e;rw[hm]at e;cases e
 ·intro _ h' ca s' k';have hl:bx y.t y.r≠-1:=by
   unfold mR at hm;rw[Bool.and_eq_true,decide_eq_true_eq]at hm;exact hm.1
  obtain⟨k,hk2,hst⟩:=Xu hl;refine hk h' ⟨⟨d,_,N0,s',s2,s3,by show 0<=R.begun+1;omega,by show R.begun+1<=((N+1:Nat):Int);omega,YYZ,sc,.inr ⟨_,k,hk2,rZ t1,rfl,rfl,rfl,by rw[s7];exact hst,hst,hm,λj hj _=>t2 j hj,.inl ⟨rfl,rfl,t2 k hk2,rfl⟩⟩⟩,s7,s8⟩ k'
theorem Px(s:WJ h A a G N n x out)(hn:n≠0)(V:KQ)(hk:V (.bool true) h):aq prog 98 [YYV A.wb,YYX ((0:Nat):Int)] h V:=by
 obtain⟨⟨d,R,N0,s1,s2,s3,s4,s5,s6,sc,t⟩,s7,s8⟩:=s;rcases t with⟨e,_⟩|⟨c,k,k2,hi,ha,hw,tX,hst,hs2,hm,ho,t⟩
 .exact absurd e hn
 .rcases t with⟨_,CZ,hl,h0⟩|⟨_,CZ,⟨p,hl⟩,_⟩|⟨_,CZ,⟨p,hl⟩,_⟩
  .refine rY s1 hi s3 hst hl _ ?_;rw[CZ];exact hk
  .refine rY s1 hi s3 hst hl _ ?_;rw[CZ];exact hk
  .refine rY s1 hi s3 hst hl _ ?_;rw[CZ];exact hk
theorem r7(s:WJ h A a G N 3 x out)(V:KQ)(hk:∀h',WJ h' A a G N 2 x out->WK a h h'->V (.tuple ⟨[.bool false,YYX 0,YYX 0]⟩) h'):aq prog 82 [YYV A.wb,YYX ((0:Nat):Int)] h V:=by
 obtain⟨⟨d,R,N0,s1,s2,s3,s4,s5,s6,sc,t⟩,s7,s8⟩:=s;rcases t with⟨e,_⟩|⟨c,k,k2,hi,ha,hw,tX,hst,hs2,hm,ho,t⟩
 .omega
 .rcases t with⟨_,CZ,hl,h0⟩|⟨e,_⟩|⟨e,_⟩
  .refine I8 s1 hi CZ s3 hst ⟨by rw[tX];omega,by rw[tX];omega⟩ hl _ ?_;intro h' s' k';exact hk h' ⟨⟨d,_,N0,s',s2,s3,s4,s5,YYZ,sc,.inr ⟨_,k,k2,rZ hi,ha,hw,tX,hst,hs2,hm,λj hj hne=>(C1 hne).trans (ho j hj hne),.inr (.inl ⟨rfl,rfl,⟨_,rZ hl⟩,h0⟩)⟩⟩,s7,s8⟩ k'
  .omega
  .omega
theorem Uh(s:WJ h A a G N 1 x out)(V:KQ)(hk:∀h',WJ h' A a G N 0 x out->WK a h h'->V (.tuple ⟨[.bool true,YYX out,YYX 0]⟩) h'):aq prog 82 [YYV A.wb,YYX ((0:Nat):Int)] h V:=by
 obtain⟨⟨d,R,N0,s1,s2,s3,s4,s5,s6,sc,t⟩,s7,s8⟩:=s;rcases t with⟨e,_⟩|⟨c,k,k2,hi,ha,hw,tX,hst,hs2,hm,ho,t⟩
 .omega
 .rcases t with⟨e,_⟩|⟨e,_⟩|⟨_,CZ,⟨p,hl⟩,hout,hnz⟩
  .omega
  .omega
  .subst hout;refine Lc s1 hi CZ s3 hst tX hnz hl _ ?_;intro h' s' k';refine hk h' ⟨⟨d,_,N0,s',s2,s3,s4,s5,YYZ,sc,.inl ⟨rfl,rZ hi,λj hj=>?_⟩⟩,s7,s8⟩ k';by_cases e:j=k
   .subst e;exact rZ hl
   .exact(C1 e).trans (ho j hj e)
theorem rz(s:WJ h A a G N 2 x out)(hN:N<=440){y:Int}(hy:y<0)(hx0:x.k=1->0<=x.x)(only:x.k=1->∀p∈G x.t x.r,p.1=x.x\/p.1=y)(twin:x.k=3->dm (G x.t x.r) x.x≠0->∀p∈G x.t x.r,p.1≠x.x->p.1≠x.to)(V:KQ)(hk:∀h' G' o,WJ h' A a G' N 1 x o->lQ x y G G' o->(o=5->8<=2*N)->WK a h h'->V (.tuple ⟨[.bool false,YYX 0,YYX 0]⟩) h'):aq prog 82 [YYV A.wb,YYX ((0:Nat):Int)] h V:=by
 obtain⟨⟨d,R,N0,s1,s2,s3,s4,s5,s6,sc,t⟩,s7,s8⟩:=s;rcases t with⟨e,_⟩|⟨c,k,k2,hi,ha,hw,tX,hst,hs2,hm,ho,t⟩
 .omega
 .rcases t with⟨e,_⟩|⟨_,CZ,⟨p,hl⟩,_⟩|⟨e,_⟩
  .omega
  .subst ha;have Pp:ff c.a.t c.a.r a.c.S=(k:Int):=by rw[s7];exact hs2
   have aoH:c.a.k=1\/c.a.k=2\/c.a.k=3:=by
    have hm2:=hm;unfold mR at hm2;rw[Bool.and_eq_true]at hm2;have hm2:=hm2.2;split at hm2
    .exact .inl (by assumption)
    .split at hm2
     .exact .inr (.inr (by assumption))
     .rw[decide_eq_true_eq]at hm2;exact .inr (.inl hm2)
   refine Jo s1 s2 YYZ hi CZ s3 hw Pp hst hl hy hm hx0 only aoH twin V ?_;intro h' d' G' o' s' L' r' gn hO k';have hz:o'≠0:=by
    unfold lQ at r';split at r'
    .rcases r' with⟨e,_⟩|⟨e,_⟩<;>omega
    .split at r'<;>(have:=r'.1;omega)
   exact hk h' G' o' ⟨⟨d',_,N0+2,s',L',s3,s4,s5,YYZ,gn _ sc,.inr ⟨_,k,k2,rZ hi,rfl,hw,tX,hst,hs2,hm,ho,.inr (.inr ⟨rfl,rfl,⟨p,hl⟩,rfl,hz⟩)⟩⟩,s7,s8⟩ r' (λe=>by
    obtain⟨g1,h1⟩:=hO e;have q:=g1 _ sc;rcases h1 with e0|⟨b,hb,e0⟩
    .have:=q.2;rw[e0]at this;simp at this;omega
    .have:=q.1 b hb;rw[s8]at e0;omega) k'
  .omega
theorem aeD(s:WJ h A a G N n x out){L:List (Int × Int)}(nd:L.Nodup)(hL:∀p∈L,G p.1 p.2≠[]):L.length<=16:=by
 obtain⟨⟨d,R,N0,s1,M,_⟩,cS,hd⟩:=s;have key:∀(L M:List (Int × Int)),L.Nodup->(∀x∈L,x∈M)->L.length<=M.length:=by
  intro L
  induction L with
  |nil=>intro M _ _;exact Nat.zero_le _
  |cons x L ih=>
   intro M h1 h2;rw[List.nodup_cons]at h1;have hx:=h2 x (.head _);have:=ih (M.erase x) h1.2 λy hy=>(List.mem_erase_of_ne (by rintro rfl;exact h1.1 hy)).2 (h2 y (.tail _ hy));rw[List.length_erase_of_mem hx]at this;have hp:=List.length_pos_of_mem hx;rw[List.length_cons];omega
 have h4:=key L (d.Ts.flatMap λb=>b.M.map fH) nd λp hp=>by
  obtain⟨b,hb,e,he,e1,e2⟩:=M.all p.1 p.2 (hL p hp);exact List.mem_flatMap.2 ⟨b,hb,List.mem_map.2 ⟨e,he,Prod.ext e1 e2⟩⟩
 have h5:∀T:List TB,(∀b∈T,b.M.length<=8)->(T.flatMap λb=>b.M.map fH).length<=8*T.length:=by
  intro T
  induction T with
  |nil=>intro _;simp
  |cons b T ih=>
   intro hT;have h1:=ih λx hx=>hT x (.tail _ hx);have h2:=hT b (.head _);rw[List.flatMap_cons,List.length_append,List.length_map,List.length_cons];omega
 have h6:=h5 d.Ts λb hb=>by have:=s1.t.len b hb;omega
 have h7:=s1.t.is.cS;omega
end
structure EN where
 A:WA
 a:TA
 z:AA
structure AW(h:af)(E:EN)(G:GT)(N n:Nat)(y:fE)(out:Int)(D:AD)(kb:Nat)(c:CD):Prop where
 w:WJ h E.A E.a G N n y out
 g:jF h E.z D (some kb)
 c:i6 h E.z kb c
 wb:E.z.wb=E.A.wb
 th:E.z.th=0
section
variable {h h':af}{E:EN}{G:GT}{N n:Nat}{y:fE}{out:Int}{D:AD}{kb:Nat}{c:CD}
theorem AW.le(s:AW h E G N n y out D kb c)(l:Le h h'):AW h' E G N n y out D kb c:=⟨s.w.le l,s.g.le l,s.c.le l,s.wb,s.th⟩
theorem WJ.pb{A:WA}{a:TA}{x:fE}(s:WJ h A a G N n x out):PB a h:=by
 obtain⟨⟨d,R,N0,s1,_⟩,_,_⟩:=s;obtain⟨fs,hg,_⟩:=s1.t.is.aL.fr.cell;exact⟨_,hg⟩
theorem AW.lo(s:AW h E G N n y out D kb c):h.lo<=h.nx:=s.w.lo
theorem AW.wk(s:AW h E G N n y out D kb c){G':GT}{N' n':Nat}{y':fE}{out':Int}(w:WJ h' E.A E.a G' N' n' y' out')(k:WK E.a h h'):AW h' E G' N' n' y' out' D kb c:=⟨w,s.g.ka k.ka,s.c.ka k.ka,s.wb,s.th⟩
theorem AW.rest(s:AW h E G N 0 y out D kb c)(y':fE)(out':Int):AW h E G N 0 y' out' D kb c:=⟨s.w.rest y' out',s.g,s.c,s.wb,s.th⟩
theorem AW.ag(s:AW h E G N n y out D kb c):∃va vh,h.bl.get E.z.ab=some (ah [pt E.A.wb,YYX 0,YYX D.je,va,vh,pt E.z.pb,pt kb] 107 false)/\k_ h va D.asked/\k_ h vh D.has:=by
 obtain⟨va,vh,g1,g2,g3⟩:=s.g.ga;rw[s.wb,s.th]at g1;exact⟨va,vh,g1,g2,g3⟩
theorem AW.vF(s:AW h E G N n y out D kb c){c':CD}{vn vg:Value}(h1:fP pJ 275 h vn c'.cO)(h2:fO cC 4 278 h vg c'.goes)(h3:dK c'.tQ=true):AW ⟨h.nx,h.bl.bt kb (cE E.z c' vn vg),h.lo⟩ E G N n y out D kb c'/\FK E.a h ⟨h.nx,h.bl.bt kb (cE E.z c' vn vg),h.lo⟩:=by
 obtain⟨vn0,vg0,g1,_,_⟩:=s.c.g;exact⟨⟨s.w.put g1 (by unfold mT;decide) (by unfold kI;decide) _,s.g.put g1 (.inl rfl) _,s.c.set h1 h2 h3,s.wb,s.th⟩,FK.put g1 (.inr (.inl rfl)) _ s.w.pb⟩
theorem AW.Lw(s:AW h E G N n y out D kb c){D':AD}{va vh:Value}(h1:k_ h va D'.asked)(h2:k_ h vh D'.has)(h3:D'.aL=D.aL):AW ⟨h.nx,h.bl.bt E.z.ab (ah [pt E.A.wb,YYX 0,YYX D'.je,va,vh,pt E.z.pb,pt kb] 107 false),h.lo⟩ E G N n y out D' kb c/\FK E.a h ⟨h.nx,h.bl.bt E.z.ab (ah [pt E.A.wb,YYX 0,YYX D'.je,va,vh,pt E.z.pb,pt kb] 107 false),h.lo⟩:=by
 obtain⟨va0,vh0,g1,_,_⟩:=s.g.ga;have q:=s.g.set (cp':=some kb) h1 h2 h3;have hp:=λob=>s.w.put g1 (by unfold mT;decide) (by unfold kI;decide) ob;have cp:=λob=>s.c.put g1 (.inl rfl) ob;have fp:=λob=>FK.put (a:=E.a) g1 (.inl rfl) ob s.w.pb;unfold agO at q;rw[s.wb,s.th]at q;exact⟨⟨hp _,q,cp _,s.wb,s.th⟩,fp _⟩
theorem rA(s:AW h E G N 0 y out D kb c)(hN:N<=440)(x:fE)(hm:mR x=true)(o:Int)(V:KQ)(hk:∀h',AW h' E G (N+1) 3 x o D kb { c with ask:=x }->FK E.a h h'->V (.tuple ⟨[]⟩) h'):aq prog 174 [pt E.z.ab,.agg ⟨Et x⟩] h V:=by
 have hlo:=s.lo;apply YYW;rw[abB];simp(disch:=try exact Y)only[Wz,Et];obtain⟨hA,bg,aS,g1,dP,dQ⟩:=jH h (ah [YYX x.k,YYX x.x,YYX x.t,YYX x.r,YYX x.m,YYX x.w,YYX x.to] 152 false);rw[<-bg]
 try rw[show(h.bl.bt (h.nx) (ah [YYX x.k,YYX x.x,YYX x.t,YYX x.r,YYX x.m,YYX x.w,YYX x.to] 152 false))=hA.bl by rw[bg]]
 clear bg;have sA:=s.le aS;obtain⟨va,vh,ga,_,_⟩:=sA.ag;obtain⟨vn,vg,gk,p1,p2⟩:=sA.c.g;have hlt:=sA.c.lt;have ot:=sA.g.yz;have hne:kb≠E.z.ab:=cr gk ga YYQ;obtain⟨s2,f2⟩:=sA.vF (c':={ c with ask:=x }) p1 p2 sA.c.tQ;have hkh:kb≠h.nx:=cr gk g1 YYQ;unfold cE at gk s2 f2;simp(disch:=try exact Y)only[Wz,aJ,ga,gk,g1];refine Pw s2.w hN x hm o _ ?_;intro h3 w3 k3;exact hk h3 (s2.wk w3 k3) (((FK.le aS).trans f2).trans k3.fk)
theorem Nu{z:AA}{cp:Option Nat}(s:jF h z D cp)(hlen:D.aL.length<=100000)(hlo:h.lo<=h.nx)(t r:Int)(h0:aY D.aL t r≠0)(V:KQ)(hk:∀h1 vp,Le h h1->jF ⟨h1.nx,h1.bl.bt z.lb (ah [vp] 136 false),h1.lo⟩ z { D with aL:=bU D.aL t r } cp->V (.tuple ⟨[YYX (aY D.aL t r),.bool true]⟩) ⟨h1.nx,h1.bl.bt z.lb (ah [vp] 136 false),h1.lo⟩):aq prog 179 [pt z.pb,dJ t r] h V:=by
 apply YYW;rw[Sn];simp(disch:=try exact Y)only[Wz,dJ,pK];obtain⟨hA,bg,aS,gA,dP,dQ⟩:=jH h (ah [YYX t,YYX r] 26 false);rw[<-bg]
 try rw[show(h.bl.bt (h.nx) (ah [YYX t,YYX r] 26 false))=hA.bl by rw[bg]]
 clear bg;refine Lp (s.le aS) hlen YYZ t r _ ?_;intro h2 hle2;have n2:=hle2.nx;have l2:=hle2.lo;have wY:=hle2.nx;have wZ:=hle2.lo;have gA:=(hle2.get _ YYZ).trans gA;have s2:=(s.le aS).le hle2;have gp:=s2.gp;have q2:=s2.IX;obtain⟨vp,gl,sl⟩:=s2.gl;simp(disch:=try exact Y)only[Wz,bf h0,GL,aJ,gp,gl,gA];refine jS D.aL t r h2 vp _ sl.1 YYZ YYZ ?_;intro h3 bP;have n3:=bP.nx;have l3:=bP.lo;have KG:=bP.nx;have KH:=bP.lo;have gA:=(bP.get _ YYZ).trans gA;have s3:=s2.le bP;have gp3:=(bP.get _ s2.xq.1).trans gp;have gl3:=(bP.get _ q2.1).trans gl;simp(disch:=try exact Y)only[Wz,aJ,gp3,gl3,gA];refine Ez D.aL t r h3 vp _ (sl.le bP).1 hlen YYZ ?_;intro v' h4 hs4 cI;have s4:=s3.le cI;have gp4:=(cI.get _ s3.xq.1).trans gp3;have gl4:=(cI.get _ s3.IX.1).trans gl3;have q4:=s4.IX;obtain⟨x',c',e'⟩:=hs4.cell;subst e';simp(disch:=try exact Y)only[Wz,aJ,gp4,gl4];exact hk h4 _ (((aS.trans hle2).trans bP).trans cI) (s4.XD hs4)
theorem Py(s:AW h E G N n y out D kb c)(t r had:Int)(lp:D.aL.length<=100000)(hlen:D.has.length<=100000)(V:KQ)(hk:∀h',Le h h'->V (.tuple ⟨[YYX 0,.bool false]⟩) h')(cZ:had=0->aY D.aL t r≠0->∀h1 vp,Le h h1->AW ⟨h1.nx,h1.bl.bt E.z.lb (ah [vp] 136 false),h1.lo⟩ E G N n y out { D with aL:=bU D.aL t r } kb c->V (.tuple ⟨[YYX (aY D.aL t r),.bool true]⟩) ⟨h1.nx,h1.bl.bt E.z.lb (ah [vp] 136 false),h1.lo⟩):aq prog 173 [pt E.z.ab,dJ t r,YYX had] h V:=by
 have hlo:=s.lo;apply YYW;rw[abA];simp(disch:=try exact Y)only[Wz,dJ];obtain⟨hA,bg,aS,g1,dP,dQ⟩:=jH h (ah [YYX t,YYX r] 26 false);rw[<-bg]
 try rw[show(h.bl.bt (h.nx) (ah [YYX t,YYX r] 26 false))=hA.bl by rw[bg]]
 clear bg;by_cases hh:had=0
 .have sA:=s.le aS;obtain⟨va,vh,ga,_,shA⟩:=sA.ag;simp(disch:=try exact Y)only[Wz,aZ (show ¬¬had=0 by omega),GK,aJ,ga,g1];refine ED sA.g lp YYZ _ ?_;intro v2 h2 mE bE;have n2:=bE.nx;have l2:=bE.lo;have g2:=(bE.get _ YYZ).trans g1;simp(disch:=try exact Y)only[Wz,g2];refine jS D.aL t r h2 v2 _ mE.sl YYZ YYZ ?_;intro h3 cL;have n3:=cL.nx;have l3:=cL.lo;have g3:=(cL.get _ YYZ).trans g2;refine Jd _ ?_;simp(disch:=try exact Y)only[Wz,g3];refine Nl t r h3 _ YYZ ?_;intro u h4 hu _ jU;have n4:=jU.nx;have l4:=jU.lo;have hal:=yV t r;have Ui:=aS.trans (bE.trans (cL.trans jU));simp(disch:=try exact Y)only[Wz,hu.len];refine⟨λn l h5=>Le h4 h5/\∃k:Nat,an l 22=YYX (k:Int)/\k<=(lN t r).length/\n=(lN t r).length-k,⟨_,Le.refl _,0,rfl,Nat.zero_le _,rfl⟩,?_⟩;rintro n l h5 ⟨nj,k,e1,Bw,rfl⟩;have n5:=nj.nx;have l5:=nj.lo;have s5:=s.le (Ui.trans nj);obtain⟨va5,vh5,ga5,_,sh5⟩:=s5.ag;by_cases hlt:k<(lN t r).length
  .obtain⟨p,hp5⟩:∃p,(lN t r)[k]? = some p:=⟨_,List.getElem?_eq_getElem hlt⟩
   obtain⟨b,o,hb,om,mK⟩:=ldN (hu.le nj) k hp5;simp(disch:=try exact Y)only[Wz,e1,GI,om,mK,fD];obtain⟨hB,ig,ct,g6,BX,BZ⟩:=jH h5 (ah [YYX p.1,YYX p.2] 26 false);rw[<-ig]
   try rw[show(h5.bl.bt (h5.nx) (ah [YYX p.1,YYX p.2] 26 false))=hB.bl by rw[ig]]
   clear ig;have gaB:=(ct.get _ s5.g.yz.1).trans ga5;simp(disch:=try exact Y)only[Wz,aJ,gaB,g6];refine jS D.has p.1 p.2 hB vh5 _ (sh5.1.le ct) YYZ YYZ ?_;intro h7 le7;have aeF:=nj.trans (ct.trans le7);by_cases hm:aY D.has p.1 p.2=0
   .simp(disch:=try exact Y)only[Wz,bf hm];exact hk h7 (Ui.trans aeF)
   .simp(disch:=try exact Y)only[Wz,aZ hm];refine oW _ _ ?_;cases hc:kG (aY D.has p.1 p.2) (mV (aY D.aL t r))with
    |false=>
     simp(disch:=try exact Y)only[Wz];exact hk h7 (Ui.trans aeF)
    |true=>
     simp(disch:=try exact Y)only[Wz,e1];exact⟨_,YYZ,aeF,k+1,rfl,YYZ,rfl⟩
  .have g5:=(nj.get _ YYZ).trans ((jU.get _ YYZ).trans g3);simp(disch:=try exact Y)only[Wz,e1,GJ,aJ,ga5,g5];by_cases hp:aY D.aL t r=0
   .refine Ua s5.g lp YYZ t r hp _ ?_;intro h6 vW;simp(disch:=try exact Y)only[Wz];exact hk h6 ((Ui.trans nj).trans vW)
   .refine Nu s5.g lp YYZ t r hp _ ?_;intro h6 vp vW g6;have s6:=s5.le vW;obtain⟨vq,gl,_⟩:=s6.g.gl;simp(disch:=try exact Y)only[Wz];exact cZ hh hp h6 vp ((Ui.trans nj).trans vW) ⟨s6.w.put gl (by unfold mT;decide) (by unfold kI;decide) _,g6,s6.c.put gl (.inr rfl) _,s6.wb,s6.th⟩
 .simp(disch:=try exact Y)only[Wz,aZ hh];exact hk hA aS
def z3:List Value:=[YYX 0,YYX 0,YYX 0]
theorem aeG(a0 a1:Value)(h:af)(V:KQ):aW prog 213 [a0,a1] h V=ez prog 3 3 a0 a1 h V:=by kernel_rfl
theorem aeH(a0 a1:Value)(h:af)(V:KQ):aW prog 171 [a0,a1] h V=fN prog 3 213 275 3 z3 a0 a1 h V:=by kernel_rfl
def dG(L:List L4)(p:N3):Bool:=decide (aY L p.1 p.2.1≠0) && kG (aY L p.1 p.2.1) p.2.2
theorem XR(p:N3)(L:List L4)(b1 ab:Nat)(h:af)(va vh w0 w1 w2 w5 w6:Value)(V:KQ)(hlo:h.lo<=h.nx)(g1:h.bl.get b1=some (ah [pt ab] 70 false))(hb1:b1<h.nx)(ga:h.bl.get ab=some (ah [w0,w1,w2,va,vh,w5,w6] 107 false))(hab:ab<h.nx)(hv:Sl cC h vh L)(hlen:L.length<=100000)(hk:∀h',Le h h'->V (.bool (dG L p)) h'):aq prog 172 [yj pJ p,av b1] h V:=by
 apply YYW;rw[aby];simp(disch:=try exact Y)only[Wz,yj,pJ];obtain⟨hA,bg,aS,gA,dP,dQ⟩:=jH h (ah [YYX p.1,YYX p.2.1,YYX p.2.2] 275 false);rw[<-bg]
 try rw[show(h.bl.bt (h.nx) (ah [YYX p.1,YYX p.2.1,YYX p.2.2] 275 false))=hA.bl by rw[bg]]
 clear bg;have UY:=(aS.get _ hb1).trans g1;have ga':=(aS.get _ hab).trans ga;simp(disch:=try exact Y)only[Wz,aJ,g1,ga,UY,ga',gA];refine jS L p.1 p.2.1 hA vh _ (hv.le aS) YYZ YYZ ?_;intro h2 bE;have qn:=bE.nx;have qo:=bE.lo;have gA:=(bE.get _ YYZ).trans gA;have hk:=hk h2 (aS.trans bE);unfold dG at hk;by_cases hm:aY L p.1 p.2.1=0
 .rw[aZ (λh=>h hm)]at hk;simp(disch:=try exact Y)only[Wz,bf hm];exact hk
 .rw[bf hm,Bool.true_and]at hk;simp(disch:=try exact Y)only[Wz,aZ hm,gA];refine oW _ _ ?_;exact hk
end
def vG(D:AD)(c:CD)(p:N3):fE:=⟨1,D.je,p.1,p.2.1,bM (aY D.has p.1 p.2.1) p.2.2,c.w,0⟩
def dU(L:List L4)(P:List N3):List N3:=P.filter λp=>!dG L p
theorem Pz(L:List L4)(P:List N3):(dU L P).length<=P.length:=List.length_filter_le _ _
def yX(P:List N3):Prop:=∀p∈P,bx p.1 p.2.1≠-1/\kn p.2.2=true/\p.2.2≠0
section
variable {h h':af}{E:EN}{G:GT}{N n:Nat}{y:fE}{out:Int}{D:AD}{kb:Nat}{c:CD}
theorem hdN{v:Value}{p:N3}{P:List N3}(s:fP pJ 275 h v (p::P)):∃b o,b<h.nx/\(∀(β:Type)(fl:β)(h':af)(V:YYY β),aK fl 3 v (YYX 0) h' V=V (.pointer (some ⟨b,o,none⟩)) h')/\
  (∀(β:Type)(fl:β)(V:List Value->β),yh fl (h.bl.get b) o 3 V=V (pJ p))/\(∀(β:Type)(fl:β)(V:List Value->β),yh fl (h.bl.get b) o 2 V=V [YYX p.1,YYX p.2.1]):=by
 obtain⟨b,o,h1,h2,h3,hh⟩:=s.sl.ld rj 0 (p:=p) rfl;have hs:=hh.sub 0 2 (by show 0+2<=3;omega);rw[Nat.add_zero]at hs;exact⟨b,o,h1,h2,h3,λβ fl V=>pV hs 2 V rfl⟩
theorem hdG{v:Value}{g:L4}{G:List L4}(s:fO cC 4 278 h v (g::G)):∃b o,b<h.nx/\(∀(β:Type)(fl:β)(h':af)(V:YYY β),aK fl 4 v (YYX 0) h' V=V (.pointer (some ⟨b,o,none⟩)) h')/\
  (∀(β:Type)(fl:β)(V:List Value->β),yh fl (h.bl.get b) o 4 V=V (cC g)):=by
 obtain⟨b,o,h1,h2,h3,_⟩:=(s.head c9).ld c9 0 (p:=g) rfl;exact⟨b,o,h1,h2,h3⟩
theorem upE{v:Value}{L:List N3}(p:fP pJ 275 h v L){b:Nat}{ws:List Value}{t:TypeId}{o:Bool}(ga:h.bl.get b=some (ah ws t o))(ht:t≠275)(ob:bO):fP pJ 275 ⟨h.nx,h.bl.bt b ob,h.lo⟩ v L:=
 p.keep (Nat.le_refl _) rfl λc vs hc hg=>T.aD _ _ (cr ga hg ht)
theorem upX{v:Value}{L:List L4}(p:fO cC 4 278 h v L){b:Nat}{ws:List Value}{t:TypeId}{o:Bool}(ga:h.bl.get b=some (ah ws t o))(ht:t≠278)(ob:bO):fO cC 4 278 ⟨h.nx,h.bl.bt b ob,h.lo⟩ v L:=
 p.keep (Nat.le_refl _) rfl λc vs hc hg=>T.aD _ _ (cr ga hg ht)
theorem k_.up{v:Value}{L:List L4}(s:k_ h v L){b:Nat}{ws:List Value}{t:TypeId}{o:Bool}(ga:h.bl.get b=some (ah ws t o))(ht:t≠278)(ob:bO):k_ ⟨h.nx,h.bl.bt b ob,h.lo⟩ v L:=
 s.keep (Nat.le_refl _) λc vs op hc hg=>T.aD _ _ (cr ga hg ht)
theorem PA(hw:0<=c.w){p:N3}(ok:bx p.1 p.2.1≠-1/\kn p.2.2=true/\p.2.2≠0)(hk:kn (aY D.has p.1 p.2.1)=true):mR (vG D c p)=true:=by
 obtain⟨o1,o2,o3⟩:=ok;obtain⟨m1,m2,_⟩:=jR hk o2 o3;unfold mR vG;simp only[o1,m1,m2,hw,if_pos,ne_eq,not_false_eq_true,decide_true,Bool.and_true]
theorem XS(s:AW h E G N 0 y out D kb c)(l2:D.asked.length<=1000){b1:Nat}(hb1:b1<h.nx)(g1:h.bl.get b1=some (ah [pt E.z.ab] 70 false))(V:KQ)(iE:∀h',AW h' E G N 0 y out { D with asked:=de D.asked ⟨D.je,c.t,c.r,bM (aY D.asked c.t c.r) c.m⟩ } kb { c with code:=1 }->FK E.a h h'->V (.tuple ⟨[]⟩) h'):Aa b1 (pt kb) h V:=by
 have hlo:=s.lo;obtain⟨va,vh,ga,sa,sh⟩:=s.ag;obtain⟨vn,vg,gk,p1,p2⟩:=s.c.g;have hlt:=s.c.lt;have ot:=s.g.yz;have gk0:=gk;unfold cE at gk;unfold Aa;simp(disch:=try exact Y)only[Wz,aJ,g1,ga,gk];obtain⟨hA,bg,aS,gA,dP,dQ⟩:=jH h (ah [YYX 0,YYX 0,YYX 0,YYX 0] 278 false);rw[<-bg]
 try rw[show(h.bl.bt (h.nx) (ah [YYX 0,YYX 0,YYX 0,YYX 0] 278 false))=hA.bl by rw[bg]]
 clear bg;have PC:=(aS.get _ hb1).trans g1;have rB:=(aS.get _ ot.1).trans ga;have vY:=(aS.get _ hlt.1).trans gk;refine jS D.asked c.t c.r hA va _ (sa.1.le aS) YYZ YYZ ?_;intro h2 bE;have n2:=bE.nx;have lo2:=bE.lo;have g12:=(bE.get _ YYZ).trans PC;have PD:=(bE.get _ YYZ).trans rB;have XT:=(bE.get _ YYZ).trans vY;have gA2:=(bE.get _ YYZ).trans gA;simp(disch:=try exact Y)only[Wz,aJ,g12,PD,XT,gA2];refine Ay _ _ ?_;simp(disch:=try exact Y)only[Wz,aJ,g12,PD,XT,gA2];have CO:=(aS.trans bE).set (Nat.le_refl h.nx) (ah [YYX D.je,YYX c.t,YYX c.r,YYX (bM (aY D.asked c.t c.r) c.m)] 278 false);refine Np D.asked ⟨D.je,c.t,c.r,bM (aY D.asked c.t c.r) c.m⟩ _ va _ (sa.1.le CO) YYZ (by show h2.lo<=h2.nx;omega) ?_;intro v' h3 JQ cL;have jU:=CO.trans cL;have s4:=s.le jU;have lo4:=jU.lo;have n4:=jU.nx;obtain⟨x',c',rfl⟩:=JQ.cell;have g14:=(jU.get _ hb1).trans g1;have ZY:=(jU.get _ ot.1).trans ga;have gk4:=(jU.get _ hlt.1).trans gk;have hkb:E.z.ab≠kb:=cr ga gk YYQ;simp(disch:=try exact Y)only[Wz,aJ,g14,ZY,gk4];have q:=s4.Lw (D':={ D with asked:=de D.asked ⟨D.je,c.t,c.r,bM (aY D.asked c.t c.r) c.m⟩ }) JQ (sh.le jU) rfl;have q2:=q.1.vF (c':={ c with code:=1 }) (upE (p1.le jU) ZY YYQ _) (upX (p2.le jU) ZY YYQ _) s.c.tQ;unfold cE at q2;exact iE _ q2.1 ((FK.le jU).trans (q.2.trans q2.2))
def vH(E:EN)(D:AD)(p:N3):fE:=⟨3,-1-E.z.th,p.1,p.2.1,0,0,D.je⟩
theorem PE{p:N3}(ok:bx p.1 p.2.1≠-1)(hx:D.je≠-1-E.z.th):mR (vH E D p)=true:=by
 unfold mR vH;simp[ok,hx]
theorem XU(s:AW h E G N 0 y out D kb c)(hN:N<=440)(lp:D.aL.length<=1000)(hx:D.je≠-1-E.z.th)(l1:D.has.length<=1000)(hw:0<=c.w){p:N3}{P:List N3}(hc:c.cO=p::P)(ok:bx p.1 p.2.1≠-1/\kn p.2.2=true/\p.2.2≠0)(S0:∀t r,kn (aY D.has t r)=true)(o:Int){b1:Nat}(hb1:b1<h.nx)(g1:h.bl.get b1=some (ah [pt E.z.ab] 70 false))(V:KQ)(cZ:∀h',AW h' E G (N+1) 3 (vG D c p) o D kb { c with ask:=vG D c p }->FK E.a h h'->V (.tuple ⟨[]⟩) h')(hk2:aY D.has p.1 p.2.1=0->aY D.aL p.1 p.2.1≠0->∀h',AW h' E G (N+1) 3 (vH E D p) o { D with aL:=bU D.aL p.1 p.2.1 } kb { c with ask:=vH E D p,fe:=aY D.aL p.1 p.2.1 }->FK E.a h h'->V (.tuple ⟨[]⟩) h'):Ab (pt kb) b1 h V:=by
 have hlo:=s.lo;obtain⟨va,vh,ga,sa,sh⟩:=s.ag;obtain⟨vn,vg,gk,p1,p2⟩:=s.c.g;have hlt:=s.c.lt;have ot:=s.g.yz;rw[hc]at p1;obtain⟨b0,o0,hb0,hx0,J_,_⟩:=hdN p1;have gk0:=gk;unfold cE at gk;unfold Ab;simp(disch:=try exact Y)only[Wz,aJ,gk,hx0,J_,pJ,g1,ga];obtain⟨hA,bg,aS,gA,dP,dQ⟩:=jH h (ah [YYX p.1,YYX p.2.1,YYX p.2.2] 275 false);rw[<-bg]
 try rw[show(h.bl.bt (h.nx) (ah [YYX p.1,YYX p.2.1,YYX p.2.2] 275 false))=hA.bl by rw[bg]]
 clear bg;have PC:=(aS.get _ hb1).trans g1;have rB:=(aS.get _ ot.1).trans ga;have vY:=(aS.get _ hlt.1).trans gk;refine jS D.has p.1 p.2.1 hA vh _ (sh.1.le aS) YYZ YYZ ?_;intro h2 bE;have qn:=bE.nx;have qo:=bE.lo;have PC:=(bE.get _ YYZ).trans PC;have rB:=(bE.get _ YYZ).trans rB;have vY:=(bE.get _ YYZ).trans vY;have gA:=(bE.get _ YYZ).trans gA;simp(disch:=try exact Y)only[Wz,aJ,PC,gA];refine Py (s.le (aS.trans bE)) p.1 p.2.1 (aY D.has p.1 p.2.1) YYZ YYZ _ ?_ ?_
 .intro h3 cL;have Nv:=cL.nx;have Nw:=cL.lo;have PC:=(cL.get _ YYZ).trans PC;have rB:=(cL.get _ YYZ).trans rB;have vY:=(cL.get _ YYZ).trans vY;have gA:=(cL.get _ YYZ).trans gA;have yx:=(aS.trans bE).trans cL;simp(disch:=try exact Y)only[Wz,Gw,aJ,PC,rB,vY,gA];refine Ay _ _ ?_;simp(disch:=try exact Y)only[Wz,aJ,PC,rB,vY,gA];refine rA (s.le yx) hN (vG D c p) (PA hw ok (S0 _ _)) o _ ?_;intro h4 s4 f4;exact cZ h4 s4 ((FK.le yx).trans f4)
 .intro hH hP h3 vp cL s3;have Nv:=cL.nx;have Nw:=cL.lo;have PC:=(cL.get _ YYZ).trans PC;have rB:=(cL.get _ YYZ).trans rB;have vY:=(cL.get _ YYZ).trans vY;have gA:=(cL.get _ YYZ).trans gA;have yx:=(aS.trans bE).trans cL;have sX:=s.le yx;obtain⟨vq,gl,_⟩:=sX.g.gl;have fX:=(FK.le (a:=E.a) yx).trans (FK.put (a:=E.a) gl (.inr (.inr (.inl rfl))) (ah [vp] 136 false) sX.w.pb);have g1B:(h3.bl.bt E.z.lb (ah [vp] 136 false)).get b1=_:=(T.aD _ _ (cr gl PC YYQ)).trans PC;have gAB:(h3.bl.bt E.z.lb (ah [vp] 136 false)).get h.nx=_:=(T.aD _ _ (cr gl gA YYQ)).trans gA;obtain⟨hB,eB⟩:∃hB:af,hB=⟨h3.nx,h3.bl.bt E.z.lb (ah [vp] 136 false),h3.lo⟩:=⟨_,rfl⟩
  have g1B:hB.bl.get b1=some (ah [pt E.z.ab] 70 false):=by rw[eB];exact g1B
  have gAB:hB.bl.get h.nx=some (ah [YYX p.1,YYX p.2.1,YYX p.2.2] 275 false):=by rw[eB];exact gAB
  rw[<-eB]at s3 fX ⊢;clear eB;obtain⟨va3,vh3,PF,sa3,sh3⟩:=s3.ag;obtain⟨vn3,vg3,E2,p13,p23⟩:=s3.c.g;have aun:=s3.c.lt;have hlB:=s3.g.yz;have loB:=s3.lo;have kb1:kb≠b1:=cr E2 g1B YYQ;have kbA:kb≠h.nx:=cr E2 gAB YYQ;have kba:kb≠E.z.ab:=cr E2 PF YYQ;obtain⟨s4,f4⟩:=s3.vF (c':={ c with fe:=aY D.aL p.1 p.2.1 }) p13 p23 s.c.tQ;unfold cE at E2 s4 f4;simp(disch:=try exact Y)only[Wz,Gv,aJ,E2,g1B,PF,gAB];refine Lo s4.g _ ?_;simp(disch:=try exact Y)only[Wz,aJ,E2,g1B,PF,gAB];refine rA s4 hN (vH E D p) (PE ok.1 hx) o _ ?_;intro h5 s5 f5;exact hk2 hH hP h5 s5 ((fX.trans f4).trans f5)
theorem Nx(s:AW h E G N 0 y out D kb c)(hN:N<=440)(lp:D.aL.length<=1000)(hx:D.je≠-1-E.z.th)(l1:D.has.length<=1000)(l2:D.asked.length<=1000)(l3:c.cO.length<=100)(hw:0<=c.w)(hm:kn c.m=true)(ok:yX c.cO)(S0:∀t r,kn (aY D.has t r)=true)(o:Int)(V:KQ)(iE:dU D.has c.cO=[]->∀h',AW h' E G N 0 y out { D with asked:=de D.asked ⟨D.je,c.t,c.r,bM (aY D.asked c.t c.r) c.m⟩ } kb { c with cO:=[],code:=1 }->FK E.a h h'->V (.tuple ⟨[]⟩) h')(cZ:∀p P,dU D.has c.cO=p::P->∀h',AW h' E G (N+1) 3 (vG D c p) o D kb { c with cO:=p::P,ask:=vG D c p }->FK E.a h h'->V (.tuple ⟨[]⟩) h')(hk2:∀p P,dU D.has c.cO=p::P->aY D.has p.1 p.2.1=0->aY D.aL p.1 p.2.1≠0->∀h',AW h' E G (N+1) 3 (vH E D p) o { D with aL:=bU D.aL p.1 p.2.1 } kb { c with cO:=p::P,ask:=vH E D p,fe:=aY D.aL p.1 p.2.1 }->FK E.a h h'->V (.tuple ⟨[]⟩) h'):aq prog 126 [pt E.z.ab] h V:=by
 have hlo:=s.lo;apply YYW;rw[abf];simp(disch:=try exact Y)only[Wz];obtain⟨hA,bg,aS,g1,dP,dQ⟩:=jH h (ah [pt E.z.ab] 70 false);rw[<-bg]
 try rw[show(h.bl.bt (h.nx) (ah [pt E.z.ab] 70 false))=hA.bl by rw[bg]]
 clear bg;have sA:=s.le aS;obtain⟨va,vh,ga,sa,sh⟩:=sA.ag;obtain⟨vn,vg,gk,p1,p2⟩:=sA.c.g;have hlt:=sA.c.lt;have ot:=sA.g.yz;unfold cE at gk;simp(disch:=try exact Y)only[Wz,aJ,g1,ga,gk];refine Gc mixed rj Bh YYQ (za:=(0,0,0)) rfl YYQ aeG aeH hA c.cO (dG D.has) vn _ _ p1 YYZ YYZ ?_ ?_
 .intro p h1 κ1 lv cZ;have n1:=lv.nx;have lo1:=lv.lo;have kt:=ktV lv p1;simp(disch:=try exact Y)only[Wz,List.nil_append];exact XR p D.has h.nx E.z.ab h1 _ _ _ _ _ _ _ κ1 YYZ ((kt.ty _ _ _ _ YYZ g1 YYQ).trans g1) YYZ ((kt.ty _ _ _ _ ot.1 ga YYQ).trans ga) YYZ (sh.ka (kt.mono λt ht=>by rintro rfl;revert ht;unfold Pm;decide)).1 YYZ cZ
 ·intro v' h1 pe lv shp;have n1:=lv.nx;have lo1:=lv.lo;have kt:=ktV lv p1;have w1:WJ h1 E.A E.a G N 0 y out:=by
   refine sA.w.leV lv (λd hd=>?_) (λd d' hd hd'=>?_) (λd hd=>?_)
   .obtain⟨q1,vs,q2⟩:=p1.blk hd;exact⟨q1,vs,true,q2⟩
   .obtain⟨o1,n1,c1,e1⟩:=hd;obtain⟨o2,n2,c2,e2⟩:=hd';rw[e1]at e2;cases e2;rfl
   .rcases shp with e|⟨b,m,m',e1,e2⟩
    .rw[e]at pe;exact⟨_,(pe.blk hd).2.choose_spec⟩
    .obtain⟨o1,n1,c1,e3⟩:=hd;rw[e1]at e3;cases e3;exact⟨_,(pe.blk ⟨0,m',aX,e2⟩).2.choose_spec⟩
  have f1:FK E.a hA h1:=FK.leV lv (λd hd=>by
   obtain⟨_,vs,q2⟩:=p1.blk hd;exact⟨vs,true,q2⟩) sA.w.pb
  have a1:=sA.g.kt (kt.mono λt ht=>by rintro rfl;revert ht;unfold Pm;decide);have Vf:=(kt.ty _ _ _ _ hlt.1 gk YYQ).trans gk;have XV:=(kt.ty _ _ _ _ ot.1 ga YYQ).trans ga;have g11:=(kt.ty _ _ _ _ YYZ g1 YYQ).trans g1;have p21:fO cC 4 278 h1 vg c.goes:=p2.keep n1 lo1 λd vs hd hg=>kt.ty d vs _ _ hd hg YYQ;have kl1:kb<h1.nx/\h1.lo<=kb:=⟨YYZ,YYZ⟩
  have hkb:kb≠h.nx:=cr gk g1 YYQ;have hab:E.z.ab≠kb:=λe=>cr gk ga YYQ e.symm;have e7:(dU D.has c.cO).length<=100:=by have:=Pz D.has c.cO;omega
  have s2:AW ⟨h1.nx,h1.bl.bt kb (cE E.z { c with cO:=dU D.has c.cO } v' vg),h1.lo⟩ E G N 0 y out D kb { c with cO:=dU D.has c.cO }:=
   ⟨w1.put Vf (by unfold mT;decide) (by unfold kI;decide) _,a1.put Vf (.inl rfl) _,.mk' kl1 Vf pe p21 s.c.tQ,s.wb,s.th⟩
  have f2:=(((FK.le aS).trans f1).trans (FK.put (a:=E.a) Vf (.inr (.inl rfl)) (cE E.z { c with cO:=dU D.has c.cO } v' vg) w1.pb))
  obtain⟨x',c',e'⟩:=pe.cell;have e9:(List.filter (λp=>!dG D.has p) c.cO)=dU D.has c.cO:=rfl;rw[e9]at e' pe;subst e';unfold cE at s2 f2;cases hL:dU D.has c.cO with
  |nil=>
   rw[hL]at s2 f2;simp(disch:=try exact Y)only[Wz,aJ,Vf,hL,List.length_nil];refine XS s2 l2 (by show h.nx<h1.nx;omega) ((T.aD _ _ hkb).trans g11) _ ?_;intro h3 s3 f3;exact iE hL h3 s3 (f2.trans f3)
  |cons p P=>
   rw[hL]at s2 f2;have okp:=ok p (by
    have:p∈dU D.has c.cO:=by rw[hL];exact .head _
    exact(List.mem_filter.1 this).1)
   simp(disch:=try exact Y)only[Wz,aJ,Vf,hL,List.length_cons];refine XU s2 hN lp hx l1 hw rfl okp S0 o (by show h.nx<h1.nx;omega) ((T.aD _ _ hkb).trans g11) _ ?_ ?_
   .intro h3 s3 f3;exact cZ p P hL h3 s3 (f2.trans f3)
   .intro hH hP h3 s3 f3;exact hk2 p P hL hH hP h3 s3 (f2.trans f3)
end
section
variable {h h':af}{E:EN}{G:GT}{N n:Nat}{y:fE}{out:Int}{D:AD}{kb:Nat}{c:CD}
theorem PG(s:AW h E G N 0 y out D kb c){p:N3}{P:List N3}(hc:c.cO=p::P)(h3:c.ask.k=1)(l1:D.has.length<=1000)(code:Int)(V:KQ)(WY:code≠1->∀h',AW h' E G N 0 y out D kb { c with code:=code }->FK E.a h h'->V (.tuple ⟨[]⟩) h')(hkG:code=1->∀h',AW h' E G N 0 y out { D with has:=de D.has ⟨D.je,p.1,p.2.1,c.ask.m⟩ } kb c->FK E.a h h'->aq prog 126 [pt E.z.ab] h' λ_ h=>V (.tuple ⟨[]⟩) h):aq prog 121 [pt E.z.ab,YYX code] h V:=by
 have hlo:=s.lo;obtain⟨va,vh,ga,sa,sh⟩:=s.ag;obtain⟨vn,vg,gk,p1,p2⟩:=s.c.g;have hlt:=s.c.lt;have ot:=s.g.yz;have p1':=p1;rw[hc]at p1';obtain⟨b0,o0,hb0,hx0,_,J_⟩:=hdN p1';have gk0:=gk;unfold cE at gk;apply YYW;rw[Sj];simp(disch:=try exact Y)only[Wz,aJ,ga,gk,hx0,J_];obtain⟨hA,bg,aS,gA,dP,dQ⟩:=jH h (ah [YYX p.1,YYX p.2.1] 26 false);rw[<-bg]
 try rw[show(h.bl.bt (h.nx) (ah [YYX p.1,YYX p.2.1] 26 false))=hA.bl by rw[bg]]
 clear bg;have sA:=s.le aS;have rB:=(aS.get _ ot.1).trans ga;have vY:=(aS.get _ hlt.1).trans gk;by_cases sQ:code=1
 .refine⟨λl' h'=>an l' 10=YYX c.ask.m/\HQ hA h',?_,?_⟩
  .simp(disch:=try exact Y)only[Wz,uN,aJ,vY,aZ (show ¬c.ask.k=3 by omega),z6,bf sQ];exact⟨by first|rfl|trivial,rfl⟩
  .rintro l' h' ⟨e1,hE⟩;cases(show hA=h' from hE);simp(disch:=try exact Y)only[Wz,z8];refine⟨λl2 h2=>AW h2 E G N 0 y out { D with has:=de D.has ⟨D.je,p.1,p.2.1,c.ask.m⟩ } kb c/\FK E.a h h2,?_,?_⟩
   .simp(disch:=try exact Y)only[Wz,bf sQ,z7,aJ,rB,gA,e1];refine Np D.has ⟨D.je,p.1,p.2.1,c.ask.m⟩ hA vh _ (sh.1.le aS) YYZ YYZ ?_;intro v' h2 hs2 bE;have n2:=bE.nx;have lo2:=bE.lo;have s2:=sA.le bE;have PD:=(bE.get _ YYZ).trans rB;obtain⟨x',c',rfl⟩:=hs2.cell;simp(disch:=try exact Y)only[Wz,aJ,PD];have q:=s2.Lw (D':={ D with has:=de D.has ⟨D.je,p.1,p.2.1,c.ask.m⟩ }) ((sa.le aS).le bE) hs2 rfl;exact⟨q.1,((FK.le aS).trans (FK.le bE)).trans q.2⟩
   .rintro l2 h2 ⟨s2,f2⟩;exact hkG sQ h2 s2 f2
 .refine⟨λ_ _=>False,?_,λ_ _ hf=>hf.elim⟩;simp(disch:=try exact Y)only[Wz,uN,aJ,vY,aZ (show ¬c.ask.k=3 by omega),z6,aZ sQ];have q:=sA.vF (c':={ c with code:=code }) (p1.keep aS.nx aS.lo λd _ hd _=>aS.get d hd) (p2.keep aS.nx aS.lo λd _ hd _=>aS.get d hd) s.c.tQ;unfold cE at q;exact WY sQ _ q.1 ((FK.le aS).trans q.2)
theorem Lx(s:AW h E G N 0 y out D kb c){p:N3}{P:List N3}(hc:c.cO=p::P)(h3:c.ask.k=3)(l1:D.has.length<=1000)(code:Int)(V:KQ)(WY:code≠1->∀h',AW h' E G N 0 y out D kb c->FK E.a h h'->aq prog 126 [pt E.z.ab] h' λ_ h=>V (.tuple ⟨[]⟩) h)(hkG:code=1->∀h',AW h' E G N 0 y out { D with has:=de D.has ⟨D.je,p.1,p.2.1,c.fe⟩ } kb c->FK E.a h h'->aq prog 126 [pt E.z.ab] h' λ_ h=>V (.tuple ⟨[]⟩) h):aq prog 121 [pt E.z.ab,YYX code] h V:=by
 have hlo:=s.lo;obtain⟨va,vh,ga,sa,sh⟩:=s.ag;obtain⟨vn,vg,gk,p1,p2⟩:=s.c.g;have hlt:=s.c.lt;have ot:=s.g.yz;have p1':=p1;rw[hc]at p1';obtain⟨b0,o0,hb0,hx0,_,J_⟩:=hdN p1';have gk0:=gk;unfold cE at gk;apply YYW;rw[Sj];simp(disch:=try exact Y)only[Wz,aJ,ga,gk,hx0,J_];obtain⟨hA,bg,aS,gA,dP,dQ⟩:=jH h (ah [YYX p.1,YYX p.2.1] 26 false);rw[<-bg]
 try rw[show(h.bl.bt (h.nx) (ah [YYX p.1,YYX p.2.1] 26 false))=hA.bl by rw[bg]]
 clear bg;have sA:=s.le aS;have rB:=(aS.get _ ot.1).trans ga;have vY:=(aS.get _ hlt.1).trans gk;refine⟨λl' h'=>an l' 10=YYX c.fe/\HQ hA h',?_,?_⟩
 .simp(disch:=try exact Y)only[Wz,uN,aJ,vY,bf h3];exact⟨by first|rfl|trivial,rfl⟩
 .rintro l' h' ⟨e1,hE⟩;cases(show hA=h' from hE);simp(disch:=try exact Y)only[Wz,z8];by_cases sQ:code=1
  .refine⟨λl2 h2=>AW h2 E G N 0 y out { D with has:=de D.has ⟨D.je,p.1,p.2.1,c.fe⟩ } kb c/\FK E.a h h2,?_,?_⟩
   .simp(disch:=try exact Y)only[Wz,bf sQ,z7,aJ,rB,gA,e1];refine Np D.has ⟨D.je,p.1,p.2.1,c.fe⟩ hA vh _ (sh.1.le aS) YYZ YYZ ?_;intro v' h2 hs2 bE;have n2:=bE.nx;have lo2:=bE.lo;have s2:=sA.le bE;have PD:=(bE.get _ YYZ).trans rB;obtain⟨x',c',rfl⟩:=hs2.cell;simp(disch:=try exact Y)only[Wz,aJ,PD];have q:=s2.Lw (D':={ D with has:=de D.has ⟨D.je,p.1,p.2.1,c.fe⟩ }) ((sa.le aS).le bE) hs2 rfl;exact⟨q.1,((FK.le aS).trans (FK.le bE)).trans q.2⟩
   .rintro l2 h2 ⟨s2,f2⟩;exact hkG sQ h2 s2 f2
  .refine⟨λl2 h2=>HQ hA h2,?_,?_⟩
   .simp(disch:=try exact Y)only[Wz,aZ sQ];exact rfl
   .rintro l2 h2 hE2;cases(show hA=h2 from hE2);exact WY sQ hA sA (FK.le aS)
def vI(D:AD)(t r:Int):fE:=⟨2,D.je,t,r,0,0,0⟩
theorem PI{t r:Int}(h:bx t r≠-1):mR (vI D t r)=true:=by
 unfold mR vI;simp[h]
end
def x7(E:EN)(D:AD)(g:L4):fE:=if xy g.t g.r g.m=true/\0<E.z.most-D.aL.length then⟨3,D.je,g.t,g.r,0,0,-1-E.z.th⟩else⟨2,D.je,g.t,g.r,0,0,0⟩
section
variable {h h':af}{E:EN}{G:GT}{N n:Nat}{y:fE}{out:Int}{D:AD}{kb:Nat}{c:CD}
theorem XW{g:L4}(ok:bx g.t g.r≠-1)(hx:D.je≠-1-E.z.th):mR (x7 E D g)=true:=by
 unfold mR x7;split
 .simp[ok,hx.symm]
 .simp[ok]
theorem XX(s:AW h E G N 0 y out D kb c)(hN:N<=440)(hm:0<=E.z.most/\E.z.most<=8)(lp:D.aL.length<=1000)(lg:c.goes.length<=1000)(okG:∀g∈c.goes,bx g.t g.r≠-1)(hx:D.je≠-1-E.z.th)(o:Int)(V:KQ)(iE:c.goes=[]->∀h',AW h' E G N 0 y out { D with je:=0,asked:=[],has:=[] } kb { c with code:=1 }->FK E.a h h'->V (.tuple ⟨[]⟩) h')(cZ:∀g Q,c.goes=g::Q->∀h',AW h' E G (N+1) 3 (x7 E D g) o D kb { c with ask:=x7 E D g }->FK E.a h h'->V (.tuple ⟨[]⟩) h'):aq prog 182 [pt E.z.ab] h V:=by
 have hlo:=s.lo;obtain⟨va,vh,ga,sa,sh⟩:=s.ag;obtain⟨vn,vg,gk,p1,p2⟩:=s.c.g;have hlt:=s.c.lt;have ot:=s.g.yz;have hkb:E.z.ab≠kb:=cr ga gk YYQ;obtain⟨vx,vc,ev⟩:=p2.cell;have hlen:=p2.len (β:=Prop) (fl:=False);unfold cE at gk;apply YYW;rw[abI];simp(disch:=try exact Y)only[Wz,aJ,ga,gk,hlen];cases hc:c.goes with
 |nil=>
  simp(disch:=try exact Y)only[Wz,List.length_nil,GQ,aJ,ga,gk];have q:=s.Lw (D':={ D with je:=0,asked:=[],has:=[] }) (k_.nil h) (k_.nil h) rfl;have q2:=q.1.vF (c':={ c with code:=1 }) (upE p1 ga YYQ _) (upX p2 ga YYQ _) s.c.tQ;unfold cE at q2;exact iE hc _ q2.1 (q.2.trans q2.2)
 |cons g Q=>
  have p2':=p2;rw[hc]at p2';obtain⟨b0,o0,hb0,hx0,J_⟩:=hdG p2';have okg:=okG g (by rw[hc];exact .head _);have lG:(g::Q).length<=1000:=by rw[<-hc];exact lg
  have lG':Q.length+1<=1000:=by simpa using lG
  simp(disch:=try exact Y)only[Wz,List.length_cons,GR,aJ,ga,gk,hx0,J_,cC];obtain⟨hA,bg,aS,gA,gB,dP,dQ⟩:=Km h (ah [YYX g.x,YYX g.t,YYX g.r,YYX g.m] 278 false) (ah [YYX 2,YYX D.je,YYX g.t,YYX g.r,YYX 0,YYX 0,YYX 0] 152 false);rw[<-bg]
  try rw[show((h.bl.bt (h.nx) (ah [YYX g.x,YYX g.t,YYX g.r,YYX g.m] 278 false)).bt (h.nx+1) (ah [YYX 2,YYX D.je,YYX g.t,YYX g.r,YYX 0,YYX 0,YYX 0] 152 false))=hA.bl by rw[bg]]
  clear bg;have sA:=s.le aS;have rB:=(aS.get _ ot.1).trans ga;refine⟨λl' h1=>Le h h1/\h.nx+1<h1.nx/\h1.bl.get (h.nx+1)=some (ah (Et (x7 E D g)) 152 false),?_,?_⟩
  .simp(disch:=try exact Y)only[Wz,GO,gA];refine Bj g.t g.r g.m ?_;cases he:xy g.t g.r g.m with
   |false=>
    have e9:x7 E D g=⟨2,D.je,g.t,g.r,0,0,0⟩:=by unfold x7;rw[if_neg (by rw[he];simp)]
    simp(disch:=try exact Y)only[Wz];rw[e9];exact⟨aS,YYZ,gB⟩
   |true=>
    simp(disch:=try exact Y)only[Wz,aJ,rB];refine Ns sA.g YYZ hm _ ?_;by_cases hr:0<E.z.most-D.aL.length
    .have e9:x7 E D g=⟨3,D.je,g.t,g.r,0,0,-1-E.z.th⟩:=by unfold x7;rw[if_pos ⟨he,hr⟩]
     simp(disch:=try exact Y)only[Wz,dZ hr,GN,aJ,rB];refine Lo sA.g _ ?_;simp(disch:=try exact Y)only[Wz,gB];rw[e9];exact⟨aS.set YYZ _,YYZ,rfl⟩
    .have e9:x7 E D g=⟨2,D.je,g.t,g.r,0,0,0⟩:=by unfold x7;rw[if_neg (λe=>hr e.2)]
     simp(disch:=try exact Y)only[Wz,cG (show E.z.most-D.aL.length<=0 by omega)];rw[e9];exact⟨aS,YYZ,gB⟩
  .rintro l' h1 ⟨bT,lt1,g1⟩;unfold Et at g1;simp(disch:=try exact Y)only[Wz,g1];refine rA (s.le bT) hN (x7 E D g) (XW okg hx) o _ ?_;intro h8 s8 f8;exact cZ g Q hc h8 s8 ((FK.le bT).trans f8)
def sR(E:EN)(D:AD)(c:CD)(g:L4)(code:Int):AD:={ D with has:=bU D.has g.t g.r,aL:=if c.ask.k=3/\code=1 then EE E.z.most (-1-E.z.th) D.aL g.t g.r g.m else D.aL }
theorem PJ(s:AW h E G N 0 y out D kb c)(hm:0<=E.z.most/\E.z.most<=8)(l1:D.has.length<=1000)(lp:D.aL.length<=1000){g:L4}{Q:List L4}(hc:c.goes=g::Q)(code:Int)(V:KQ)(hk:∀h',AW h' E G N 0 y out (sR E D c g code) kb { c with goes:=Q }->FK E.a h h'->aq prog 182 [pt E.z.ab] h' λ_ h=>V (.tuple ⟨[]⟩) h):aq prog 180 [pt E.z.ab,YYX code] h V:=by
 have hlo:=s.lo;obtain⟨va,vh,ga,sa,sh⟩:=s.ag;obtain⟨vn,vg,gk,p1,p2⟩:=s.c.g;have hlt:=s.c.lt;have ot:=s.g.yz;have p2':=p2;rw[hc]at p2';obtain⟨b0,o0,hb0,hx0,J_⟩:=hdG p2';have gk0:=gk;unfold cE at gk;apply YYW;rw[abG];simp(disch:=try exact Y)only[Wz,aJ,ga,gk,hx0,J_,cC];obtain⟨hA,bg,aS,gA,dP,dQ⟩:=jH h (ah [YYX g.x,YYX g.t,YYX g.r,YYX g.m] 278 false);rw[<-bg]
 try rw[show(h.bl.bt (h.nx) (ah [YYX g.x,YYX g.t,YYX g.r,YYX g.m] 278 false))=hA.bl by rw[bg]]
 clear bg;have sA:=s.le aS;have rB:=(aS.get _ ot.1).trans ga;have vY:=(aS.get _ hlt.1).trans gk;obtain⟨u,pu,hu⟩:=(p2'.le aS).tail c9 YYQ;obtain⟨ux,uc,eu⟩:=pu.cell;subst eu;have q1:=sA.vF (c':={ c with goes:=Q }) (p1.le aS) pu s.c.tQ;have hne:kb≠h.nx:=cr vY gA YYQ;have hab:E.z.ab≠kb:=cr rB vY YYQ;have f1:=(FK.le (a:=E.a) aS).trans q1.2;obtain⟨h1,e1⟩:∃h1:af,h1=⟨hA.nx,hA.bl.bt kb (cE E.z { c with goes:=Q } vn (.slice ux Q.length uc)),hA.lo⟩:=⟨_,rfl⟩
 have s1:AW h1 E G N 0 y out D kb { c with goes:=Q }:=by rw[e1];exact q1.1
 have f1:FK E.a h h1:=by rw[e1];exact f1
 have gA1:h1.bl.get h.nx=some (ah [YYX g.x,YYX g.t,YYX g.r,YYX g.m] 278 false):=by rw[e1];exact(T.aD _ _ hne).trans gA
 have n1:h.nx<h1.nx:=by rw[e1];show h.nx<hA.nx;omega
 have XV:h1.bl.get E.z.ab=some (ah [pt E.A.wb,YYX 0,YYX D.je,va,vh,pt E.z.pb,pt kb] 107 false):=by rw[e1];exact(T.aD _ _ (λe=>hab e.symm)).trans rB
 have sa1:k_ h1 va D.asked:=by rw[e1];exact(sa.le aS).up vY YYQ _
 have sh1:k_ h1 vh D.has:=by rw[e1];exact(sh.le aS).up vY YYQ _
 unfold cE at e1;simp(disch:=try exact Y)only[Wz,aJ,vY,hu];rw[<-e1];clear e1;obtain⟨vn1,vg1,Vf,p11,p21⟩:=s1.c.g;have aoL:=s1.c.lt;have aoM:=s1.g.yz;have lo1:=s1.lo;simp(disch:=try exact Y)only[Wz,aJ,rB,XV,gA1];refine Ez D.has g.t g.r h1 vh _ sh1.1 YYZ YYZ ?_;intro v' h2 hs2 bE;have s2:=s1.le bE;obtain⟨x',c',rfl⟩:=hs2.cell;have PD:=(bE.get _ aoM.1).trans XV;have gA2:=(bE.get _ n1).trans gA1;have n2:=bE.nx;have lo2:=bE.lo;have Ee:E.z.ab≠h.nx:=cr PD gA2 YYQ;have q3:=s2.Lw (D':={ D with has:=bU D.has g.t g.r }) (sa1.le bE) hs2 rfl;have f3:=(f1.trans (FK.le bE)).trans q3.2;obtain⟨h3,e3⟩:∃h3:af,h3=⟨h2.nx,h2.bl.bt E.z.ab (ah [pt E.A.wb,YYX 0,YYX D.je,va,.slice x' (bU D.has g.t g.r).length c',pt E.z.pb,pt kb] 107 false),h2.lo⟩:=⟨_,rfl⟩
 have s3:AW h3 E G N 0 y out { D with has:=bU D.has g.t g.r } kb { c with goes:=Q }:=by rw[e3];exact q3.1
 have f3:FK E.a h h3:=by rw[e3];exact f3
 have gA3:h3.bl.get h.nx=some (ah [YYX g.x,YYX g.t,YYX g.r,YYX g.m] 278 false):=by rw[e3];exact(T.aD _ _ Ee).trans gA2
 have n3:h.nx<h3.nx:=by rw[e3];show h.nx<h2.nx;omega
 simp(disch:=try exact Y)only[Wz,aJ,PD];rw[<-e3];clear e3;obtain⟨va3,vh3,PF,sa3,sh3⟩:=s3.ag;obtain⟨vn3,vg3,E2,p13,p23⟩:=s3.c.g;have lo3:=s3.lo;unfold cE at E2;refine⟨λl' h'=>AW h' E G N 0 y out (sR E D c g code) kb { c with goes:=Q }/\FK E.a h h',?_,?_⟩
 .by_cases uv:c.ask.k=3
  .by_cases hcd:code=1
   .simp(disch:=try exact Y)only[Wz,uQ,aJ,E2,bf uv,bf hcd,GM,PF,gA3];refine aex s3.g (by show D.aL.length<=100000;omega) YYZ hm g.t g.r g.m _ ?_;intro u4 h4 h5 jU hor g5;have s4:=s3.le jU;obtain⟨vp,gl,_⟩:=s4.g.gl;have e5:sR E D c g code={ ({ D with has:=bU D.has g.t g.r }:AD)with aL:=EE E.z.most (-1-E.z.th) D.aL g.t g.r g.m }:=by unfold sR;rw[if_pos ⟨uv,hcd⟩]
    rcases hor with rfl|⟨vp',rfl⟩
    .refine⟨⟨s4.w,?_,s4.c,s4.wb,s4.th⟩,f3.trans (FK.le jU)⟩;rw[e5];exact g5
    .refine⟨⟨s4.w.put gl (by unfold mT;decide) (by unfold kI;decide) _,?_,s4.c.put gl (.inr rfl) _,s4.wb,s4.th⟩,(f3.trans (FK.le jU)).trans (FK.put gl (.inr (.inr (.inl rfl))) _ s4.w.pb)⟩;rw[e5];exact g5
   .have e5:sR E D c g code={ D with has:=bU D.has g.t g.r }:=by unfold sR;rw[if_neg (λe=>hcd e.2)]
    simp(disch:=try exact Y)only[Wz,uQ,aJ,E2,bf uv,aZ hcd];rw[e5];exact⟨s3,f3⟩
  .have e5:sR E D c g code={ D with has:=bU D.has g.t g.r }:=by unfold sR;rw[if_neg (λe=>uv e.1)]
   simp(disch:=try exact Y)only[Wz,uQ,aJ,E2,aZ uv];rw[e5];exact⟨s3,f3⟩
 .rintro l' h' ⟨s',f'⟩;exact hk h' s' f'
theorem Uj(s:AW h E G N 0 y out D kb c)(hp:D.aL=[])(l1:D.has.length<20)(okH:∀g∈D.has,bx g.t g.r≠-1)(V:KQ)(hk:∀O h',O.Perm D.has->AW h' E G N 0 y out D kb { c with Qb:=180,goes:=O }->FK E.a h h'->aq prog 182 [pt E.z.ab] h' λ_ h=>V (.tuple ⟨[]⟩) h):aq prog 131 [pt E.z.ab] h V:=by
 have hlo:=s.lo;obtain⟨va,vh,ga,sa,sh⟩:=s.ag;have ot:=s.g.yz;apply YYW;rw[Sm];simp(disch:=try exact Y)only[Wz,aJ,ga];refine ED s.g (by rw[hp];exact Nat.zero_le _) hlo _ ?_;intro v2 h2 mE bE;have n2:=bE.nx;have l2:=bE.lo;rw[hp]at mE;have hlen:=mE.sl.len (β:=Prop) (fl:=False);have s2:=s.le bE;have PD:=(bE.get _ ot.1).trans ga;obtain⟨vn2,vg2,XT,p12,p22⟩:=s2.c.g;have Uk:=s2.c.lt;unfold cE at XT;simp(disch:=try exact Y)only[Wz,hlen,List.length_nil,GD,aJ,PD];refine XC D.has h2 vh _ (sh.1.le bE) l1 YYZ okH ?_;intro O v3 h3 hO po cL;have n3:=cL.nx;have lo3:=cL.lo;have s3:=s2.le cL;have E2:=(cL.get _ Uk.1).trans XT;obtain⟨x3,c3,e3⟩:=po.cell;subst e3;have q:=s3.vF (c':={ c with Qb:=180,goes:=O }) (p12.le cL) po s.c.tQ;unfold cE at q;simp(disch:=try exact Y)only[Wz,aJ,E2,rm];exact hk O _ hO q.1 ((FK.le (bE.trans cL)).trans q.2)
def qf(E:EN)(g:L4):fE:=⟨2,-1-E.z.th,g.t,g.r,0,0,0⟩
theorem Ly{g:L4}(h:bx g.t g.r≠-1):mR (qf E g)=true:=by
 unfold mR qf;simp[h]
theorem PK(s:AW h E G N 0 y out D kb c)(hN:N<=440)(lp:D.aL.length<=1000){g:L4}{Q:List L4}(hp:D.aL=g::Q)(hg:aY D.aL g.t g.r≠0)(ok:bx g.t g.r≠-1)(o:Int)(V:KQ)(hk:∀h',AW h' E G (N+1) 3 (qf E g) o { D with aL:=bU D.aL g.t g.r } kb { c with ask:=qf E g }->FK E.a h h'->V (.tuple ⟨[]⟩) h'):aq prog 131 [pt E.z.ab] h V:=by
 have hlo:=s.lo;obtain⟨va,vh,ga,sa,sh⟩:=s.ag;have ot:=s.g.yz;have aqz:0<D.aL.length:=by rw[hp];exact Nat.succ_pos _
 apply YYW;rw[Sm];simp(disch:=try exact Y)only[Wz,aJ,ga];refine ED s.g YYZ hlo _ ?_;intro v2 h2 mE bE;have n2:=bE.nx;have l2:=bE.lo;have hlen:=mE.sl.len (β:=Prop) (fl:=False);have s2:=s.le bE;have PD:=(bE.get _ ot.1).trans ga;have sv2:=k_.own mE;obtain⟨b,ob,hb,hx,hr4,JO,_⟩:=ldP sv2.1 0 (p:=g) (by rw[hp];rfl);have hx:∀(β:Type)(fl:β)(h':af)(V:YYY β),aK fl 4 v2 (YYX 0) h' V=V (.pointer (some ⟨b,ob,none⟩)) h':=hx;simp(disch:=try exact Y)only[Wz,hlen,dZ (show(0:Int)<(D.aL.length:Int)by omega),GC,aJ,PD,hx,JO];refine Nu s2.g YYZ YYZ g.t g.r hg _ ?_;intro h3 vp cL g3;have s3:=s2.le cL;obtain⟨vq,gl,_⟩:=s3.g.gl;have sv3:=(sv2.le cL).up gl YYQ (ah [vp] 136 false);have sB:AW ⟨h3.nx,h3.bl.bt E.z.lb (ah [vp] 136 false),h3.lo⟩ E G N 0 y out { D with aL:=bU D.aL g.t g.r } kb c:=⟨s3.w.put gl (by unfold mT;decide) (by unfold kI;decide) _,g3,s3.c.put gl (.inr rfl) _,s3.wb,s3.th⟩
 have fB:=((FK.le (a:=E.a) bE).trans (FK.le cL)).trans (FK.put (a:=E.a) gl (.inr (.inr (.inl rfl))) (ah [vp] 136 false) s3.w.pb);obtain⟨hB,eB⟩:∃hB:af,hB=⟨h3.nx,h3.bl.bt E.z.lb (ah [vp] 136 false),h3.lo⟩:=⟨_,rfl⟩
 rw[<-eB]at sB fB sv3 ⊢;clear eB;obtain⟨b',ob',hb',hx',auz,ajB,_⟩:=ldP sv3.1 0 (p:=g) (by rw[hp];rfl);have eb:=(hx Value undef h λv _=>v).symm.trans (hx' Value undef h λv _=>v);cases eb;obtain⟨vaB,vhB,gaB,_,_⟩:=sB.ag;simp(disch:=try exact Y)only[Wz,aJ,gaB,hx,ajB,sv2.2.2];refine Lo sB.g _ ?_;simp(disch:=try exact Y)only[Wz,aJ,gaB,hx,ajB,sv2.2.2];refine rA sB hN (qf E g) (Ly ok) o _ ?_;intro h5 s5 f5;exact hk h5 s5 (fB.trans f5)
theorem XY(code:Int)(V:KQ)(hk:aq prog 131 [pt E.z.ab] h λ_ h=>V (.tuple ⟨[]⟩) h):aq prog 130 [pt E.z.ab,YYX code] h V:=by
 apply YYW;rw[abj];exact hk
end
theorem ajC(h:af)(b o:Nat):nk prog h 100 70 (.pointer (some ⟨b,o,none⟩)) (.pointer none)=some false:=by kernel_rfl
theorem r8{β:Type}{fl:β}(cn:Bool)(b o:Nat)(h:af)(V:YYY β):aI fl prog .eql 70 cn false (.pointer (some ⟨b,o,none⟩)) (.pointer none) h V=V (.bool false) h:=by simp only[aI,ajC,bZ]
theorem Ny{β:Type}{fl:β}(cn:Bool)(b o:Nat)(h:af)(V:YYY β):aI fl prog .neq 70 cn false (.pointer (some ⟨b,o,none⟩)) (.pointer none) h V=V (.bool true) h:=by simp only[aI,ajC,bZ,Bool.not_false]
theorem aoN(h:af)(b o:Nat):nk prog h 100 105 (.pointer (some ⟨b,o,none⟩)) (.pointer none)=some false:=by kernel_rfl
theorem ajD(h:af):nk prog h 100 105 (.pointer none) (.pointer none)=some true:=by kernel_rfl
theorem Bm{β:Type}{fl:β}(cn:Bool)(o:Option Nat)(h:af)(V:YYY β):aI fl prog .neq 105 cn false (dV o) (.pointer none) h V=V (.bool o.isSome) h:=by
 cases o with
 |none=>simp only[dV,aI,ajD,bZ,Bool.not_true];rfl
 |some b=>simp only[dV,aI,aoN,bZ,Bool.not_false];rfl
structure AI(h:af)(E:EN)(G:GT)(N:Nat)(D:AD):Prop where
 w:∀y out,WJ h E.A E.a G N 0 y out
 g:jF h E.z D none
 wb:E.z.wb=E.A.wb
 th:E.z.th=0
section
variable {h h':af}{E:EN}{G:GT}{N n:Nat}{y:fE}{out:Int}{D:AD}{kb:Nat}{c:CD}
theorem AI.le(s:AI h E G N D)(l:Le h h'):AI h' E G N D:=⟨λy o=>(s.w y o).le l,s.g.le l,s.wb,s.th⟩
theorem AI.lo(s:AI h E G N D):h.lo<=h.nx:=(s.w ⟨0,0,0,0,0,0,0⟩ 0).lo
theorem AI.ag(s:AI h E G N D):∃va vh,h.bl.get E.z.ab=some (ah [pt E.A.wb,YYX 0,YYX D.je,va,vh,pt E.z.pb,.pointer none] 107 false)/\k_ h va D.asked/\k_ h vh D.has:=by
 obtain⟨va,vh,g1,g2,g3⟩:=s.g.ga;rw[s.wb,s.th]at g1;exact⟨va,vh,g1,g2,g3⟩
theorem mW(s:AW h E G N n y out D kb c)(V:KQ)(hk:V (.bool true) h):aq prog 55 [pt E.z.ab] h V:=by
 obtain⟨va,vh,ga,_,_⟩:=s.ag;have bn:=λ(β:Type)(fl:β)(cn:Bool)(h:af)(V:YYY β)=>Bm (fl:=fl) cn (some kb) h V;simp only[dV,Option.isSome]at bn;apply YYW;rw[Zl];simp(disch:=try exact Y)only[Wz,Ny,aJ,ga,bn];exact hk
theorem vJ(s:AW h E G N n y out D kb c)(hn:c.ask.k=0\/n≠0)(V:KQ)(hk:V (.bool true) h):aq prog 81 [pt E.z.ab] h V:=by
 obtain⟨va,vh,ga,_,_⟩:=s.ag;obtain⟨vn,vg,gk,_,_⟩:=s.c.g;unfold cE at gk;apply YYW;rw[ahq];simp(disch:=try exact Y)only[Wz];refine mW s _ ?_;by_cases h0:c.ask.k=0
 .simp(disch:=try exact Y)only[Wz,aJ,ga,gk,bf h0];exact hk
 .simp(disch:=try exact Y)only[Wz,aJ,ga,gk,aZ h0];refine Px s.w (hn.resolve_left h0) _ ?_;exact hk
theorem Ul(s:AW h E G N 0 y out D kb c)(V:KQ)(hk:∀h',AI h' E G N D->FK E.a h h'->V (.tuple ⟨[.bool true,YYX c.code,YYX 0]⟩) h'):D7 (pt E.z.ab) (pt kb) h V:=by
 obtain⟨va,vh,ga,sa,sh⟩:=s.ag;obtain⟨vn,vg,gk,p1,p2⟩:=s.c.g;have hkb:E.z.ab≠kb:=cr ga gk YYQ;have ot:=s.g.yz;obtain⟨va0,vh0,g1,_,_⟩:=s.g.ga;have q:=s.g.set (D':=D) (cp':=none) sa sh rfl;have hp:=λob y' o'=>(s.w.rest y' o').put g1 (by unfold mT;decide) (by unfold kI;decide) ob;have fp:=λob=>FK.put (a:=E.a) g1 (.inl rfl) ob s.w.pb;unfold agO at q;rw[s.wb,s.th]at q;unfold cE at gk;simp(disch:=try exact Y)only[Wz,D7,aJ,ga,gk];exact hk _ ⟨hp _,q,s.wb,s.th⟩ (fp _)
theorem Um(s:AW h E G N 0 y out D kb c)(h0:c.ask.k=0)(V:KQ)(hk:∀h',AI h' E G N D->FK E.a h h'->V (.tuple ⟨[.bool true,YYX c.code,YYX 0]⟩) h'):aq prog 68 [pt E.z.ab] h V:=by
 obtain⟨va,vh,ga,sa,sh⟩:=s.ag;obtain⟨vn,vg,gk,p1,p2⟩:=s.c.g;unfold cE at gk;apply YYW;rw[Sg];simp(disch:=try exact Y)only[Wz,r8,yP];refine vJ s (.inl h0) _ ?_;simp(disch:=try exact Y)only[Wz,aJ,ga];refine⟨λl' h'=>HQ h h',?_,?_⟩
 .simp(disch:=try exact Y)only[Wz,yO,aJ,gk,bf h0];exact rfl
 .rintro l' h' hE;cases(show h=h' from hE);exact Ul s V hk
theorem vK(s:AW h E G N n y out D kb c)(hn:n≠0)(EH:c.ask.k≠0)(Q:af->Prop)(hW:∀κ1:Value->af->Prop,(∀h1,Q h1->κ1 (.tuple ⟨[.bool false,YYX 0,YYX 0]⟩) h1)->aq prog 82 [YYV E.A.wb,YYX ((0:Nat):Int)] h κ1)(V:KQ)(hk:∀h1,Q h1->V (.tuple ⟨[.bool false,YYX 0,YYX 0]⟩) h1):aq prog 68 [pt E.z.ab] h V:=by
 obtain⟨va,vh,ga,sa,sh⟩:=s.ag;obtain⟨vn,vg,gk,p1,p2⟩:=s.c.g;unfold cE at gk;apply YYW;rw[Sg];simp(disch:=try exact Y)only[Wz,r8,yP];refine vJ s (.inr hn) _ ?_;simp(disch:=try exact Y)only[Wz,aJ,ga];refine⟨λ_ _=>False,?_,λ_ _ hf=>hf.elim⟩;simp(disch:=try exact Y)only[Wz,yO,aJ,gk,aZ EH,D6,ga];refine hW _ ?_;intro h1 q1;simp(disch:=try exact Y)only[Wz];exact hk h1 q1
theorem vL(s:AW h E G N 1 y out D kb c)(EH:c.ask.k≠0)(V:KQ)(hB:∀h1,AW h1 E G N 0 y out D kb { c with seen:=true }->FK E.a h h1->aq prog c.Qb [pt E.z.ab,YYX out] h1 λ_ h2=>∃G' N' n' y' out' D' c',AW h2 E G' N' n' y' out' D' kb c'/\FK E.a h1 h2/\
   (c'.code=0->V (.tuple ⟨[.bool false,YYX 0,YYX 0]⟩) h2)/\(c'.code≠0->n'=0/\∀h3,AI h3 E G' N' D'->FK E.a h2 h3->V (.tuple ⟨[.bool true,YYX c'.code,YYX 0]⟩) h3)):aq prog 68 [pt E.z.ab] h V:=by
 obtain⟨va,vh,ga,sa,sh⟩:=s.ag;obtain⟨vn,vg,gk,p1,p2⟩:=s.c.g;have gk0:=gk;unfold cE at gk;apply YYW;rw[Sg];simp(disch:=try exact Y)only[Wz,r8,yP];refine vJ s (.inr YYQ) _ ?_;simp(disch:=try exact Y)only[Wz,aJ,ga];refine⟨λl' h'=>∃G' N' n' y' out' D' c',AW h' E G' N' n' y' out' D' kb c'/\c'.code≠0/\n'=0/\∀h3,AI h3 E G' N' D'->FK E.a h' h3->V (.tuple ⟨[.bool true,YYX c'.code,YYX 0]⟩) h3,?_,?_⟩
 .simp(disch:=try exact Y)only[Wz,yO,aJ,gk,aZ EH,D6,ga];refine Uh s.w _ ?_;intro h1 w1 k1;have s1:=s.wk w1 k1;have aoL:=s1.c.lt;obtain⟨vn1,vg1,Vf,p11,p21⟩:=s1.c.g;have q:=s1.vF (c':={ c with seen:=true }) p11 p21 s.c.tQ;unfold cE at Vf q;simp(disch:=try exact Y)only[Wz,MY,aJ,Vf,List.cons_append,List.nil_append,List.append_nil];refine aq.mono (hB _ q.1 (k1.fk.trans q.2)) ?_;rintro u h2 ⟨G',N',n',y',out',D',c',s2,f2,cZ,hk2⟩;obtain⟨vn2,vg2,XT,_,_⟩:=s2.c.g;unfold cE at XT;by_cases h0:c'.code=0
  .simp(disch:=try exact Y)only[Wz,aJ,XT,bf h0];exact cZ h0
  .simp(disch:=try exact Y)only[Wz,aJ,XT,aZ h0];obtain⟨e1,e2⟩:=hk2 h0;exact⟨G',N',n',y',out',D',c',s2,h0,e1,e2⟩
 .rintro l' h' ⟨G',N',n',y',out',D',c',s2,h0,rfl,hk2⟩;exact Ul s2 V hk2
def Jp(k t r m w:Int):Bool:=decide (0<=w) && (if k=1 then kn m && decide (m≠0) && decide (bx t r≠-1)else if k=2 then decide (bx t r≠-1)else decide (k=3))
theorem aeJ(k t r m w ax:Int)(hm:Jp k t r m w=true)(h:af)(V:KQ)(hlo:h.lo<=h.nx)(hk:∀h',Le h h'->V (.bool true) h'):aq prog 120 [.agg ⟨[YYX k,YYX ax,YYX t,YYX r,YYX m,YYX 0]⟩,YYX w] h V:=by
 unfold Jp at hm;rw[Bool.and_eq_true,decide_eq_true_eq]at hm;obtain⟨hw,hm⟩:=hm;apply YYW;rw[abb];simp(disch:=try exact Y)only[Wz];obtain⟨hA,bg,aS,gA,dP,dQ⟩:=jH h (ah [YYX k,YYX ax,YYX t,YYX r,YYX m,YYX 0] 57 false);rw[<-bg]
 try rw[show(h.bl.bt (h.nx) (ah [YYX k,YYX ax,YYX t,YYX r,YYX m,YYX 0] 57 false))=hA.bl by rw[bg]]
 clear bg;by_cases h1:k=1
 .rw[if_pos h1,Bool.and_eq_true,Bool.and_eq_true,decide_eq_true_eq,decide_eq_true_eq]at hm;obtain⟨⟨hm1,hm2⟩,hm3⟩:=hm;refine⟨λ_ _=>False,?_,λ_ _ hf=>hf.elim⟩;simp(disch:=try exact Y)only[Wz,gA];refine⟨λl' h'=>an l' 15=.bool true/\HQ hA h',?_,?_⟩
  .simp(disch:=try exact Y)only[Wz,uM,bf h1,Gq,gA];refine p9 m ?_;rw[hm1];simp(disch:=try exact Y)only[Wz,gA,aZ hm2];exact⟨by first|rfl|trivial,rfl⟩
  .rintro l' h' ⟨e1,hE⟩;cases(show hA=h' from hE);simp(disch:=try exact Y)only[Wz,z1,e1,gA];refine pE t r ?_;rw[if_neg hm3];simp(disch:=try exact Y)only[Wz];exact hk hA aS
 .rw[if_neg h1]at hm;by_cases h2:k=2
  .rw[if_pos h2,decide_eq_true_eq]at hm;refine⟨λ_ _=>False,?_,λ_ _ hf=>hf.elim⟩;simp(disch:=try exact Y)only[Wz,gA];refine⟨λl' h'=>an l' 15=.bool true/\HQ hA h',?_,?_⟩
   .simp(disch:=try exact Y)only[Wz,uM,aZ h1,bf h2];exact⟨by first|rfl|trivial,rfl⟩
   .rintro l' h' ⟨e1,hE⟩;cases(show hA=h' from hE);simp(disch:=try exact Y)only[Wz,z1,e1,gA];refine pE t r ?_;rw[if_neg hm];simp(disch:=try exact Y)only[Wz];exact hk hA aS
  .rw[if_neg h2,decide_eq_true_eq]at hm;refine⟨λl' h'=>an l' 17=.bool true/\HQ hA h',?_,?_⟩
   .simp(disch:=try exact Y)only[Wz,gA];refine⟨λ_ _=>False,?_,λ_ _ hf=>hf.elim⟩;simp(disch:=try exact Y)only[Wz,uM,aZ h1,aZ h2];exact⟨by first|rfl|trivial,rfl⟩
   .rintro l' h' ⟨e1,hE⟩;cases(show hA=h' from hE);simp(disch:=try exact Y)only[Wz,Gr,e1,gA,bf hm];exact hk hA aS
def nr:fE:=⟨0,0,0,0,0,0,0⟩
def iV(z:AA)(D:AD)(k t r m w ax:Int):CD:=
 if k=1 then⟨k,t,r,m,w,nr,0,121,.func (.func 122) ⟨[pt z.ab]⟩ ⟨[]⟩,false,0,dW (aY D.has) t r (bM (aY D.asked t r) m),[],ax⟩
 else if k=2 then⟨k,t,r,m,w,nr,0,127,.func (.func 128) ⟨[]⟩ ⟨[]⟩,false,0,[],[],ax⟩
 else⟨k,t,r,m,w,nr,0,130,.func (.func 128) ⟨[]⟩ ⟨[]⟩,false,0,[],[],ax⟩
def EI(k:Int):FuncId:=if k=1 then 126 else if k=2 then 129 else 131
theorem LA:(Value.cells Value.nilFunc).toList=[Value.nilFunc]:=id rfl
theorem AI.call(s:AI h E G N D){va vh:Value}(ga:h.bl.get E.z.ab=some (ah [pt E.A.wb,YYX 0,YYX D.je,va,vh,pt E.z.pb,.pointer none] 107 false))(sa:k_ h va D.asked)(sh:k_ h vh D.has)(vs:List Value){c':CD}(h1:c'.cO=[])(h2:c'.goes=[])(h3:dK c'.tQ=true)(y:fE)(out:Int):AW ⟨h.nx+1,((h.bl.bt h.nx (ah vs 184 false)).bt E.z.ab (ah [pt E.A.wb,YYX 0,YYX D.je,va,vh,pt E.z.pb,pt h.nx] 107 false)).bt h.nx (cE E.z c' (.slice none 0 0) (.slice none 0 0)),h.lo⟩ E G N 0 y out D h.nx c'/\
  FK E.a h ⟨h.nx+1,((h.bl.bt h.nx (ah vs 184 false)).bt E.z.ab (ah [pt E.A.wb,YYX 0,YYX D.je,va,vh,pt E.z.pb,pt h.nx] 107 false)).bt h.nx (cE E.z c' (.slice none 0 0) (.slice none 0 0)),h.lo⟩:=by
 have CO:=(Le.refl h).new (ah vs 184 false);have sB:=s.le CO;have hl:=s.g.yz;have lo:=s.lo;have gaB:=(CO.get _ hl.1).trans ga;have q:=sB.g.set (D':=D) (cp':=some h.nx) (sa.le CO) (sh.le CO) rfl;have w1:=λob=>(sB.w y out).put gaB (by unfold mT;decide) (by unfold kI;decide) ob;have f1:=λob=>FK.put (a:=E.a) gaB (.inl rfl) ob (sB.w y out).pb;unfold agO at q;rw[s.wb,s.th]at q;have gk:((h.bl.bt h.nx (ah vs 184 false)).bt E.z.ab (ah [pt E.A.wb,YYX 0,YYX D.je,va,vh,pt E.z.pb,pt h.nx] 107 false)).get h.nx=some (ah vs 184 false):=(T.aD _ _ YYZ).trans (T.az _ _ _);have w2:=(w1 (ah [pt E.A.wb,YYX 0,YYX D.je,va,vh,pt E.z.pb,pt h.nx] 107 false)).put gk (by unfold mT;decide) (by unfold kI;decide) (cE E.z c' (.slice none 0 0) (.slice none 0 0));have g2:=jF.put q gk (.inl rfl) (cE E.z c' (.slice none 0 0) (.slice none 0 0));have f2:=FK.put (a:=E.a) (h:=⟨h.nx+1,(h.bl.bt h.nx (ah vs 184 false)).bt E.z.ab (ah [pt E.A.wb,YYX 0,YYX D.je,va,vh,pt E.z.pb,pt h.nx] 107 false),h.lo⟩) gk (.inr (.inl rfl)) (cE E.z c' (.slice none 0 0) (.slice none 0 0)) (w1 _).pb;have c2:=i6.mk' (h:=⟨h.nx+1,(h.bl.bt h.nx (ah vs 184 false)).bt E.z.ab (ah [pt E.A.wb,YYX 0,YYX D.je,va,vh,pt E.z.pb,pt h.nx] 107 false),h.lo⟩) (z:=E.z) (c':=c') (vn:=.slice none 0 0) (vg:=.slice none 0 0) ⟨Nat.lt_succ_self _,lo⟩ gk (.inl ⟨h1,rfl⟩) (.inl ⟨h2,_,_,rfl⟩) h3;exact⟨⟨w2,g2,c2,s.wb,s.th⟩,((FK.le CO).trans (f1 _)).trans f2⟩
theorem EJ(s:AI h E G N D)(ht:D.je≠0)(l1:D.has.length<=1000)(l2:D.asked.length<=1000)(k t r m w ax:Int)(hm:Jp k t r m w=true)(V:KQ)(hk:∀h' kb,AW h' E G N 0 nr 0 D kb (iV E.z D k t r m w ax)->FK E.a h h'->aq prog (EI k) [pt E.z.ab] h' λ_ h=>V (YYX 0) h):aq prog 101 [pt E.z.ab,.agg ⟨[YYX k,YYX ax,YYX t,YYX r,YYX m,YYX 0]⟩,YYX w] h V:=by
 have hlo:=s.lo;have bn:=λ(β:Type)(fl:β)(cn:Bool)(h:af)(V:YYY β)=>Bm (fl:=fl) cn none h V;simp only[dV,Option.isSome]at bn;apply YYW;rw[aa2];simp(disch:=try exact Y)only[Wz,r8];obtain⟨hA,bg,aS,gA,dP,dQ⟩:=jH h (ah [YYX k,YYX ax,YYX t,YYX r,YYX m,YYX 0] 57 false);rw[<-bg]
 try rw[show(h.bl.bt (h.nx) (ah [YYX k,YYX ax,YYX t,YYX r,YYX m,YYX 0] 57 false))=hA.bl by rw[bg]]
 clear bg;have sA:=s.le aS;obtain⟨va,vh,ga,sa,sh⟩:=sA.ag;have ot:=sA.g.yz;simp(disch:=try exact Y)only[Wz,Gk,aJ,ga,aZ ht,bn,gA];refine aeJ k t r m w ax hm hA _ YYZ ?_;intro h1 bT;have s1:=sA.le bT;have XV:=(bT.get _ ot.1).trans ga;have Jb:=bT.nx;have Jc:=bT.lo;have gA:=(bT.get _ YYZ).trans gA;have qy:=s1.g.yz;have lo1:=s1.lo;have sa1:=sa.le bT;have sh1:=sh.le bT;have hab:E.z.ab≠h1.nx:=by omega
 have hA1:h.nx≠E.z.ab:=λe=>cr gA XV YYQ e;have hA2:h.nx<h1.nx:=by omega
 have f1:=FK.le (a:=E.a) (aS.trans bT);simp(disch:=try exact Y)only[Wz,aJ,XV,gA,Gj,LA];refine⟨λl' h'=>V (YYX 0) h',?_,λl' h' hk=>hk⟩;by_cases cZ:k=1
 .simp(disch:=try exact Y)only[Wz,uK,gA,bf cZ,Gi,rm,aJ];have q:=s1.call XV sa1 sh1 [.slice none 0 0,.slice none 0 0,YYX k,YYX ax,YYX t,YYX r,YYX m,YYX 0,YYX w,YYX 0,YYX 0,YYX 0,YYX 0,YYX 0,YYX 0,YYX 0,YYX 0,Value.nilFunc,Value.nilFunc,.bool false,YYX 0] (c':=⟨k,t,r,m,w,nr,0,121,.func (.func 122) ⟨[pt E.z.ab]⟩ ⟨[]⟩,false,0,[],[],ax⟩) rfl rfl rfl nr 0;unfold cE nr at q;have sa2:=sa1.fk q.2;have sh2:=sh1.fk q.2;have gA2:=(q.2.ty _ _ _ _ hA2 gA (by unfold mT;decide) (by unfold kI;decide) (by unfold EC;decide)).trans gA;refine jS D.asked t r _ va _ sa2.1 YYZ (by show h1.lo<=h1.nx+1;omega) ?_;intro h3 cL;have n3:h1.nx+1<=h3.nx:=cL.nx;have l3:h3.lo=h1.lo:=cL.lo;have PF:h3.bl.get E.z.ab=some (ah [pt E.A.wb,YYX 0,YYX D.je,va,vh,pt E.z.pb,pt h1.nx] 107 false):=(cL.get _ (by show E.z.ab<h1.nx+1;omega)).trans ((T.aD _ _ YYZ).trans (T.az _ _ _));have E2:=(cL.get h1.nx (Nat.lt_succ_self _)).trans (T.az _ _ _);have gA3:=(cL.get h.nx (by show h.nx<h1.nx+1;omega)).trans gA2;have qv:=sh.2.2;simp(disch:=try exact Y)only[Wz,aJ,PF,gA3,qv];refine Ay _ _ ?_;simp(disch:=try exact Y)only[Wz,aJ,PF,gA3,qv];refine aeq D.has t r _ h3 vh _ (sh2.le cL).1 YYZ YYZ ?_;intro v' h4 pe jU;have n4:=jU.nx;have l4:=jU.lo;have gk4:=(jU.get h1.nx YYZ).trans E2;have s4:=q.1.le (cL.trans jU);obtain⟨x',c',e'⟩:=pe.cell;subst e';have q4:=s4.vF (c':=iV E.z D k t r m w ax) (vg:=.slice none 0 0) (by unfold iV;rw[if_pos cZ];exact pe) (by unfold iV;rw[if_pos cZ];exact .inl ⟨rfl,_,_,rfl⟩) (by unfold iV;rw[if_pos cZ];rfl);have hk:=hk _ _ (q4.1.rest nr 0) ((f1.trans (q.2.trans (FK.le (cL.trans jU)))).trans q4.2);unfold EI iV at hk;rw[if_pos cZ,if_pos cZ]at hk;unfold cE nr at hk;simp(disch:=try exact Y)only[Wz,aJ,gk4];exact hk
 .by_cases hk2:k=2
  .have q:=s1.call XV sa1 sh1 [.slice none 0 0,.slice none 0 0,YYX k,YYX ax,YYX t,YYX r,YYX m,YYX 0,YYX w,YYX 0,YYX 0,YYX 0,YYX 0,YYX 0,YYX 0,YYX 0,YYX 0,Value.nilFunc,Value.nilFunc,.bool false,YYX 0] (c':=iV E.z D k t r m w ax) (by unfold iV;rw[if_neg cZ,if_pos hk2]) (by unfold iV;rw[if_neg cZ,if_pos hk2]) (by unfold iV;rw[if_neg cZ,if_pos hk2];rfl) nr 0;have hk:=hk _ _ q.1 (f1.trans q.2);unfold EI iV at hk;rw[if_neg cZ,if_pos hk2,if_neg cZ,if_pos hk2]at hk;unfold cE nr at hk;simp(disch:=try exact Y)only[Wz,uK,gA,aZ cZ,bf hk2,Gg,rm,aJ];exact hk
  .have q:=s1.call XV sa1 sh1 [.slice none 0 0,.slice none 0 0,YYX k,YYX ax,YYX t,YYX r,YYX m,YYX 0,YYX w,YYX 0,YYX 0,YYX 0,YYX 0,YYX 0,YYX 0,YYX 0,YYX 0,Value.nilFunc,Value.nilFunc,.bool false,YYX 0] (c':=iV E.z D k t r m w ax) (by unfold iV;rw[if_neg cZ,if_neg hk2]) (by unfold iV;rw[if_neg cZ,if_neg hk2]) (by unfold iV;rw[if_neg cZ,if_neg hk2];rfl) nr 0;have hk:=hk _ _ q.1 (f1.trans q.2);unfold EI iV at hk;rw[if_neg cZ,if_neg hk2,if_neg cZ,if_neg hk2]at hk;unfold cE nr at hk;simp(disch:=try exact Y)only[Wz,uK,gA,aZ cZ,aZ hk2,Gh,rm,aJ];exact hk
end
theorem PL{β:Type}{fl:β}(a b c d:Int)(h:af)(V:YYY β):sV fl false 1 3 (.agg ⟨[YYX a,YYX b,YYX c,YYX d]⟩) h V=V (YYX d) h:=id rfl
section
variable {h h':af}{A:WA}{a:TA}{N:Nat}{d:TD}{R:RD}{G:GT}{E:EN}{D:AD}
theorem LB(s:WS h A a N d R)(V:KQ)(hk:V (YYX (A.n:Int)) h):aq prog 45 [YYV A.wb] h V:=by
 have gw:=s.r.gw;apply YYW;rw[ag8];simp(disch:=try exact Y)only[Wz,mU,aJ,gw];exact hk
theorem Un(s:CW h a N d)(hlo:h.lo<=h.nx)(V:KQ)(hk:∀h',Le h h'->V (xY a.c) h'):aq prog 66 [YYV a.tb] h V:=by
 apply YYW;rw[ahg];have gt:=s.is.nU;have ht:=s.is.sj;simp(disch:=try exact Y)only[Wz,pH,aJ,gt];exact hk _ ((Le.refl h).new _)
theorem XZ(s:WS h A a N d R)(V:KQ)(hk:∀h',Le h h'->V (xY a.c) h'):aq prog 47 [YYV A.wb] h V:=by
 have gw:=s.r.gw;have CU:=s.r.CU;have hlo:=s.lo;apply YYW;rw[aha];simp(disch:=try exact Y)only[Wz,mU,aJ,gw];have CO:=(Le.refl h).new (ah [YYX 0,YYX 0,YYX 0,YYX 0] 34 false);have sB:=s.le CO;refine Un sB.t (by show h.lo<=h.nx+1;omega) _ ?_;intro h1 bT;have n1:h.nx+1<=h1.nx:=bT.nx;have l1:h1.lo=h.lo:=bT.lo;have g:=(bT.get h.nx (Nat.lt_succ_self _)).trans (T.az _ _ _);simp(disch:=try exact Y)only[Wz,xY,g];exact hk _ ((CO.trans bT).set (Nat.le_refl _) _)
theorem aeK(je most:Int)(h1:je<0)(h2:0<=most)(h3:most<=8)(h:af)(V:KQ)(hlo:h.lo<=h.nx)(hk:∀pb lb h',Le h h'->h.nx<=lb->h.nx<=pb->pb<h'.nx->lb<h'.nx->h'.bl.get pb=some (ah [pt lb,YYX je,YYX most] 138 false)->h'.bl.get lb=some (ah [.slice none 0 0] 136 false)->V (.tuple ⟨[pt pb,YYX 0]⟩) h'):aq prog 46 [YYX je,YYX most] h V:=by
 apply YYW;rw[ag9];simp(disch:=try exact Y)only[Wz];exact hk (h.nx+1) h.nx _ (((Le.refl h).new _).new _) (Nat.le_refl _) (Nat.le_succ _) (by show h.nx+1<h.nx+1+1;omega) (by show h.nx<h.nx+1+1;omega) (T.az _ _ _) ((T.aD _ _ YYZ).trans (T.az _ _ _))
theorem aeL(W:∀y out,WJ h A a G N 0 y out)(hn:1<=A.n)(hc:0<=a.c.P/\a.c.P<=8)(V:KQ)(hk:∀h' z,AI h' ⟨A,a,z⟩ G N ⟨0,[],[],[]⟩->z.most=a.c.P->Le h h'->V (.tuple ⟨[pt z.ab,YYX 0]⟩) h'):aq prog 22 [YYV A.wb,YYX ((0:Nat):Int)] h V:=by
 obtain⟨⟨d,R,N0,s1,s2,s3,s4,s5,s6,sc,t⟩,s7,s8⟩:=W ⟨0,0,0,0,0,0,0⟩ 0;have hlo:=s1.lo;apply YYW;rw[agW];have e0:((0:Nat):Int)=0:=rfl;simp(disch:=try exact Y)only[Wz,mU,MK,e0];refine LB s1 _ ?_;simp(disch:=try exact Y)only[Wz,aZ (show ¬(A.n:Int)<=0 by omega),dZ (show(0:Int)<(A.n:Int)by omega),MJ];refine XZ s1 _ ?_;intro h1 bT;have n1:=bT.nx;have l1:=bT.lo;simp(disch:=try exact Y)only[Wz,xY,PL];refine aeK (-1) a.c.P YYQ hc.1 hc.2 h1 _ YYZ ?_;intro pb lb h2 bE q1 q2 q3 q4 g1 g2;have n2:=bE.nx;have l2:=bE.lo;simp(disch:=try exact Y)only[Wz];have cL:=(Le.refl h2).new (ah [pt A.wb,YYX 0,YYX 0,.slice none 0 0,.slice none 0 0,pt pb,.pointer none] 107 false);refine hk _ ⟨h2.nx,pb,lb,A.wb,0,a.c.P⟩ ⟨λy o=>(W y o).le ((bT.trans bE).trans cL),⟨⟨Nat.lt_succ_self _,by show h2.lo<=h2.nx;omega⟩,⟨.slice none 0 0,.slice none 0 0,T.az _ _ _,k_.nil _,k_.nil _⟩,⟨by show pb<h2.nx+1;omega,by show h2.lo<=pb;omega⟩,(cL.get _ q3).trans g1,⟨by show lb<h2.nx+1;omega,by show h2.lo<=lb;omega⟩,.slice none 0 0,(cL.get _ q4).trans g2,k_.nil _⟩,rfl,rfl⟩ rfl ((bT.trans bE).trans cL)
theorem Uo(s:AI h E G N D)(V:KQ)(hk:V (YYX D.je) h):aq prog 77 [pt E.z.ab] h V:=by
 obtain⟨va,vh,ga,_,_⟩:=s.ag;apply YYW;rw[ahm];simp(disch:=try exact Y)only[Wz,r8,aJ,ga];exact hk
theorem PM(s:AI h E G N D)(h0:D.je=0)(x:Int)(hx:1<=x)(V:KQ)(hk:∀h',AI h' E G N { D with je:=x }->FK E.a h h'->V (YYX 0) h'):aq prog 102 [pt E.z.ab,YYX x] h V:=by
 obtain⟨va,vh,ga,sa,sh⟩:=s.ag;have ot:=s.g.yz;obtain⟨va0,vh0,g1,_,_⟩:=s.g.ga;have q:=s.g.set (D':={ D with je:=x }) (cp':=none) sa sh rfl;have hp:=λob y' o'=>(s.w y' o').put g1 (by unfold mT;decide) (by unfold kI;decide) ob;have fp:=λob=>FK.put (a:=E.a) g1 (.inl rfl) ob (s.w nr 0).pb;unfold agO at q;rw[s.wb,s.th]at q;apply YYW;rw[aa3];simp(disch:=try exact Y)only[Wz,r8,cG (show 1<=x from hx),aJ,ga,bf h0,Gl];exact hk _ ⟨hp _,q,s.wb,s.th⟩ (fp _)
end
def ny(p:L4):Int × Int:=(p.t,p.r)
theorem gQ{t r:Int}{p:L4}:iZ t r p=true<->p.t=t/\p.r=r:=by simp[iZ]
theorem mX{t r:Int}{p:L4}:iZ t r p=false<->¬(p.t=t/\p.r=r):=by rw[<-gQ,Bool.not_eq_true]
theorem jq(p:L4)(L:List L4)(t r:Int):aY (p::L) t r=if p.t=t/\p.r=r then p.m else aY L t r:=by
 unfold aY;rw[List.find?_cons];by_cases h:p.t=t/\p.r=r
 .rw[if_pos h,gQ.2 h]
 .rw[if_neg h,mX.2 h]
theorem xz(A B:List L4)(p:L4)(t r:Int)(hn:∀q∈A,¬(q.t=p.t/\q.r=p.r)):aY (A++p::B) t r=if p.t=t/\p.r=r then p.m else aY (A++B) t r:=by
 induction A with
 |nil=>rw[List.nil_append,List.nil_append,jq]
 |cons q A ih=>
  have h1:=hn q (.head _);have ih:=ih λx hx=>hn x (.tail _ hx);rw[List.cons_append,List.cons_append,jq,jq,ih];by_cases h:q.t=t/\q.r=r
  .rw[if_pos h,if_pos h,if_neg (λe=>h1 ⟨h.1.trans e.1.symm,h.2.trans e.2.symm⟩)]
  .rw[if_neg h,if_neg h]
theorem Bn(L:List L4)(p:L4):(∃A q B,L=A++q::B/\q.t=p.t/\q.r=p.r/\(∀x∈A,¬(x.t=p.t/\x.r=p.r))/\de L p=A++p::B)\/(∃A B,L=A++B/\(∀x∈L,¬(x.t=p.t/\x.r=p.r))/\de L p=A++p::B):=by
 unfold de;cases hf:L.findIdx? (iZ p.t p.r)with
 |some i=>
  rw[List.findIdx?_eq_some_iff_getElem]at hf;obtain⟨hi,h1,h2⟩:=hf;refine .inl ⟨L.take i,L[i],L.drop (i+1),?_,(gQ.1 h1).1,(gQ.1 h1).2,λx hx=>?_,?_⟩
  .rw[<-List.drop_eq_getElem_cons hi,List.take_append_drop]
  .obtain⟨j,hj⟩:=List.getElem?_of_mem hx;have hj':j<i:=by have:=(List.getElem?_eq_some_iff.1 hj).1;simp at this;omega
   have:=h2 j hj';rw[List.getElem?_take_of_lt hj',List.getElem?_eq_getElem YYZ]at hj;rw[Option.some.inj hj]at this;exact mX.1 (by simpa using this)
  .show L.set i p=_
   rw[List.set_eq_take_append_cons_drop,if_pos hi]
 |none=>
  rw[List.findIdx?_eq_none_iff]at hf;have hno:∀x∈L,¬(x.t=p.t/\x.r=p.r):=λx hx=>mX.1 (hf x hx);cases hg:L.findIdx? (tP p)with
  |some i=>exact .inr ⟨L.take i,L.drop i,(List.take_append_drop _ _).symm,hno,by simp⟩
  |none=>exact .inr ⟨L,[],by simp,hno,by simp⟩
theorem g_(L:List L4)(p:L4)(t r:Int):aY (de L p) t r=if p.t=t/\p.r=r then p.m else aY L t r:=by
 rcases Bn L p with⟨A,q,B,rfl,h1,h2,h3,e⟩|⟨A,B,rfl,h3,e⟩
 .rw[e,xz A B p t r h3,xz A B q t r (by rw[h1,h2];exact h3),h1,h2];split<;>rfl
 .rw[e,xz A B p t r λx hx=>h3 x (List.mem_append_left _ hx)]
theorem iM(L:List L4)(t r t' r':Int):aY (bU L t r) t' r'=if t=t'/\r=r' then 0 else aY L t' r':=by
 induction L with
 |nil=>unfold bU;simp[aY]
 |cons p L ih=>
  unfold bU at ih ⊢;rw[List.filter_cons];by_cases h:p.t=t/\p.r=r
  .rw[gQ.2 h,if_neg YYQ,ih,jq];by_cases h2:t=t'/\r=r'
   .rw[if_pos h2,if_pos h2]
   .rw[if_neg h2,if_neg h2,if_neg (λe=>h2 ⟨h.1.symm.trans e.1,h.2.symm.trans e.2⟩)]
  .rw[mX.2 h,if_pos YYQ,jq,jq,ih];by_cases h2:t=t'/\r=r'
   .rw[if_pos h2,if_pos h2,if_neg (λe=>h ⟨e.1.trans h2.1.symm,e.2.trans h2.2.symm⟩)]
   .rw[if_neg h2,if_neg h2]
structure kK(M:List (Int × Int))(L:List L4):Prop where
 nd:(L.map ny).Nodup
 ok:∀p∈L,bx p.t p.r≠-1/\kn p.m=true/\p.m≠0
 sub:∀p∈L,ny p∈M
theorem kK.nil(M:List (Int × Int)):kK M []:=⟨List.nodup_nil,(λp hp=>by cases hp),(λp hp=>by cases hp)⟩
theorem kK.mode{M:List (Int × Int)}{L:List L4}(s:kK M L){p:L4}(hp:p∈L):aY L p.t p.r=p.m:=by
 have nd:=s.nd;clear s
 induction L with
 |nil=>cases hp
 |cons q L ih=>
  rw[List.map_cons,List.nodup_cons]at nd;rw[jq];rcases List.mem_cons.1 hp with rfl|hp'
  .rw[if_pos ⟨rfl,rfl⟩]
  .rw[if_neg]
   .exact ih hp' nd.2
   .rintro⟨e1,e2⟩;exact nd.1 (List.mem_map.2 ⟨p,hp',by unfold ny;rw[e1,e2]⟩)
theorem C4{L:List L4}{t r:Int}(h:aY L t r≠0):∃p∈L,p.t=t/\p.r=r/\p.m=aY L t r:=by
 unfold aY at *
 cases hf:L.find? (iZ t r)with
 |none=>rw[hf]at h;exact absurd rfl h
 |some p=>exact⟨p,List.mem_of_find?_eq_some hf,(gQ.1 (List.find?_some hf)).1,(gQ.1 (List.find?_some hf)).2,rfl⟩
theorem kK.LC{M:List (Int × Int)}{L:List L4}(s:kK M L)(t r:Int):kn (aY L t r)=true:=by
 by_cases h:aY L t r=0
 .rw[h];rfl
 .obtain⟨p,hp,rfl,rfl,e⟩:=C4 h;rw[<-e];exact(s.ok p hp).2.1
theorem kK.put{M:List (Int × Int)}{L:List L4}(s:kK M L){p:L4}(ok:bx p.t p.r≠-1/\kn p.m=true/\p.m≠0)(hm:ny p∈M):kK M (de L p):=by
 have key:∀(A B:List L4),((A++B).map ny).Nodup->(∀x∈A++B,¬(x.t=p.t/\x.r=p.r))->((A++p::B).map ny).Nodup:=by
  intro A B h1 h2;have hp:((A++p::B).map ny).Perm (ny p::(A++B).map ny):=by
   rw[<-List.map_cons];exact List.perm_middle.map ny
  rw[hp.nodup_iff,List.nodup_cons];refine⟨λhx=>?_,h1⟩;obtain⟨x,hx,e⟩:=List.mem_map.1 hx;unfold ny at e;exact h2 x hx ⟨congrArg Prod.fst e,congrArg Prod.snd e⟩
 rcases Bn L p with⟨A,q,B,rfl,h1,h2,h3,e⟩|⟨A,B,rfl,h3,e⟩
 .have hk:ny q=ny p:=by unfold ny;rw[h1,h2]
  rw[e];refine⟨?_,λx hx=>?_,λx hx=>?_⟩
  .have:=s.nd;rw[List.map_append,List.map_cons]at this ⊢
   rwa [hk]at this
  .rcases List.mem_append.1 hx with hx|hx
   .exact s.ok x (List.mem_append_left _ hx)
   .rcases List.mem_cons.1 hx with rfl|hx
    .exact ok
    .exact s.ok x (List.mem_append_right _ (.tail _ hx))
  .rcases List.mem_append.1 hx with hx|hx
   .exact s.sub x (List.mem_append_left _ hx)
   .rcases List.mem_cons.1 hx with rfl|hx
    .exact hm
    .exact s.sub x (List.mem_append_right _ (.tail _ hx))
 ·rw[e];have mem:∀x,x∈A++p::B->x=p\/x∈A++B:=λx hx=>by
   rcases List.mem_append.1 hx with hx|hx
   .exact .inr (List.mem_append_left _ hx)
   .rcases List.mem_cons.1 hx with rfl|hx
    .exact .inl rfl
    .exact .inr (List.mem_append_right _ hx)
  refine⟨key A B s.nd h3,λx hx=>?_,λx hx=>?_⟩
  .rcases mem x hx with rfl|hx
   .exact ok
   .exact s.ok x hx
  .rcases mem x hx with rfl|hx
   .exact hm
   .exact s.sub x hx
theorem xA(L:List L4)(t r:Int):(bU L t r).Sublist L:=List.filter_sublist
theorem kK.drop{M:List (Int × Int)}{L:List L4}(s:kK M L)(t r:Int):kK M (bU L t r):=
 ⟨s.nd.sublist ((xA L t r).map ny),λp hp=>s.ok p ((xA L t r).subset hp),λp hp=>s.sub p ((xA L t r).subset hp)⟩
theorem PN{α:Type}[DecidableEq α]:∀(L M:List α),L.Nodup->(∀x∈L,x∈M)->L.length<=M.length:=by
 intro L
 induction L with
 |nil=>intro M _ _;exact Nat.zero_le _
 |cons x L ih=>
  intro M h1 h2;rw[List.nodup_cons]at h1;have hx:=h2 x (.head _);have:=ih (M.erase x) h1.2 λy hy=>(List.mem_erase_of_ne (by rintro rfl;exact h1.1 hy)).2 (h2 y (.tail _ hy));rw[List.length_erase_of_mem hx]at this;have hp:=List.length_pos_of_mem hx;rw[List.length_cons];omega
theorem kK.len{M:List (Int × Int)}{L:List L4}(s:kK M L):L.length<=M.length:=by
 have:=PN (L.map ny) M s.nd λx hx=>by
  obtain⟨p,hp,rfl⟩:=List.mem_map.1 hx;exact s.sub p hp
 rwa [List.length_map]at this
theorem kK.rC{M:List (Int × Int)}{L:List L4}(s:kK M L){t r:Int}(h:aY L t r≠0):(bU L t r).length+1=L.length:=by
 obtain⟨p,hp,rfl,rfl,he⟩:=C4 h;have nd:=s.nd;clear he h s;unfold bU
 induction L with
 |nil=>cases hp
 |cons q L ih=>
  rw[List.map_cons,List.nodup_cons]at nd;rw[List.filter_cons];rcases List.mem_cons.1 hp with rfl|hp'
  .rw[gQ.2 ⟨rfl,rfl⟩,if_neg YYQ,List.length_cons]
   congr 1
   rw[List.filter_eq_self.2];intro x hx;rw[Bool.not_eq_true',mX];rintro⟨e1,e2⟩;exact nd.1 (List.mem_map.2 ⟨x,hx,by unfold ny;rw[e1,e2]⟩)
  .have hn:iZ p.t p.r q=false:=mX.2 λe=>nd.1 (List.mem_map.2 ⟨p,hp',by unfold ny;rw[e.1,e.2]⟩);rw[hn,if_pos YYQ,List.length_cons,List.length_cons,ih hp' nd.2]
theorem aeM{t r:Int}:∀a∈lN t r,bx a.1 a.2≠-1:=by
 intro a ha;unfold lN at ha;split at ha
 .rw[List.mem_singleton]at ha;subst ha;decide
 .split at ha
  .rename_i h2;rcases List.mem_cons.1 ha with rfl|ha
   .decide
   .rw[List.mem_singleton]at ha;subst ha
    show bx t (-1)≠-1
    unfold bx at h2 ⊢;split at h2
    .cases h2
    .split at h2
     .cases h2
     .split at h2
      .rename_i h3;rw[if_neg (by rintro⟨rfl,_⟩;revert h3;unfold E0;simp),if_pos ⟨h3.1,rfl⟩];decide
      .cases h2
  .cases ha
theorem Nz{m:Int}(h:kn m=true)(h0:m≠0):kn (mV m)=true/\mV m≠0:=by
 have key:∀i:Nat,i<7->(i:Int)≠0->kn (mV (i:Nat))=true/\mV (i:Nat)≠0:=by decide +kernel
 obtain⟨i,hi,rfl⟩:=lz h;exact key i hi h0
theorem Bo{f:Int->Int->Int}(hf:∀t r,kn (f t r)=true){t r m:Int}(ok:bx t r≠-1)(hm:kn m=true)(h0:m≠0):yX (dW f t r m)/\(dW f t r m).length<=3/\∀p∈dW f t r m,(p.1,p.2.1)=(t,r)\/(p.1,p.2.1)∈lN t r:=by
 obtain⟨pk,p0⟩:=Nz hm h0;unfold dW;split
 .exact⟨λp hp=>(by cases hp),Nat.zero_le _,λp hp=>by cases hp⟩
 ·have hu:=Nq f m (lN t r);have hal:=yV t r;have mem:∀p∈Ln f m (lN t r),∃a∈lN t r,p=(a.1,a.2,bM (f a.1 a.2) (mV m)):=by
   intro p hp;unfold Ln at hp;obtain⟨a,ha,rfl⟩:=List.mem_map.1 hp;exact⟨a,(List.mem_filter.1 ha).1,rfl⟩
  refine⟨λp hp=>?_,by rw[List.length_append,List.length_singleton];omega,λp hp=>?_⟩
  .rcases List.mem_append.1 hp with hp|hp
   .obtain⟨a,ha,rfl⟩:=mem p hp;obtain⟨q1,q2,_⟩:=jR (hf a.1 a.2) pk p0;exact⟨aeM a ha,q2,q1⟩
   .rw[List.mem_singleton]at hp;subst hp;obtain⟨q1,q2,_⟩:=jR (hf t r) hm h0;exact⟨ok,q2,q1⟩
  .rcases List.mem_append.1 hp with hp|hp
   .obtain⟨a,ha,rfl⟩:=mem p hp;exact .inr ha
   .rw[List.mem_singleton]at hp;subst hp;exact .inl rfl
structure mY(x y:Int)(has aL:List L4)(G:GT):Prop where
 only:∀t r p,p∈G t r->p.1=x\/p.1=y
 hx:∀t r m,(x,m)∈G t r->aY has t r=m
 hy:∀t r,aY has t r≠0->(x,aY has t r)∈G t r
 py:∀t r m,(y,m)∈G t r->aY aL t r=m
section
variable {x y:Int}{has aL:List L4}{G G':GT}{t r m:Int}
theorem mY.get(s:mY x y has aL G)(D:vB (G t r)):dm (G t r) x=aY has t r:=by
 by_cases h:aY has t r=0
 .rw[h];refine Classical.byContradiction λhn=>?_;have:=pL D hn;rw[s.hx t r _ this]at h;exact hn h
 .exact vD D (s.hy t r h)
theorem fS{l:List (Int × Int)}{t' r':Int}{p:Int × Int}(h:p∈dR G t r l t' r'):(t=t'/\r=r'/\p∈l)\/(¬(t=t'/\r=r')/\p∈G t' r'):=by
 by_cases e:t'=t/\r'=r
 .obtain⟨rfl,rfl⟩:=e;rw[kz]at h;exact .inl ⟨rfl,rfl,h⟩
 .rw[nV G e]at h;exact .inr ⟨λe'=>e ⟨e'.1.symm,e'.2.symm⟩,h⟩
theorem jf{l:List (Int × Int)}{t' r':Int}{p:Int × Int}(h:(t=t'/\r=r'/\p∈l)\/(¬(t=t'/\r=r')/\p∈G t' r')):p∈dR G t r l t' r':=by
 rcases h with⟨rfl,rfl,h⟩|⟨hn,h⟩
 .rw[kz];exact h
 .rw[nV G λe=>hn ⟨e.1.symm,e.2.symm⟩];exact h
theorem mY.lock(s:mY x y has aL G)(hxy:x≠y)(D:vB (G t r))(w:Int){M:Int}(hM:M≠0)(eM:M=bM (dm (G t r) x) m):mY x y (de has ⟨w,t,r,M⟩) aL (dR G t r (ry (G t r) x y m)):=by
 have key:∀p,p∈ry (G t r) x y m->p=(x,M)\/(p∈G t r/\p.1≠x):=by
  intro p hp;unfold ry at hp;by_cases h0:dm (G t r) x=0
  .rw[if_pos h0]at hp;rw[h0]at eM;rcases List.mem_append.1 hp with hp|hp
   .have:=(List.mem_filter.1 hp).1;exact .inr ⟨this,yW D h0 p this⟩
   .rw[List.mem_singleton]at hp;exact .inl (by rw[hp,eM])
  .rw[if_neg h0,<-eM]at hp;obtain⟨q,hq,rfl⟩:=List.mem_map.1 hp;by_cases e:q.1=x
   .rw[if_pos e];exact .inl rfl
   .rw[if_neg e];exact .inr ⟨(List.mem_filter.1 hq).1,e⟩
 have Up:(x,M)∈ry (G t r) x y m:=by
  unfold ry;by_cases h0:dm (G t r) x=0
  .rw[if_pos h0];rw[h0]at eM;rw[eM];exact List.mem_append_right _ (.head _)
  .rw[if_neg h0,<-eM];refine List.mem_map.2 ⟨(x,dm (G t r) x),List.mem_filter.2 ⟨pL D h0,?_⟩,if_pos rfl⟩;unfold x6;simp[hxy]
 refine⟨λt' r' p hp=>?_,λt' r' m' hp=>?_,λt' r' hm'=>?_,λt' r' m' hp=>?_⟩
 .replace hp:=fS hp;rcases hp with⟨rfl,rfl,hp⟩|⟨hn,hp⟩
  .rcases key p hp with rfl|⟨hp,_⟩
   .exact .inl rfl
   .exact s.only _ _ p hp
  .exact s.only _ _ p hp
 .rw[g_];replace hp:=fS hp;rcases hp with⟨rfl,rfl,hp⟩|⟨hn,hp⟩
  .rw[if_pos ⟨rfl,rfl⟩];rcases key _ hp with e|⟨_,hp⟩
   .exact(congrArg Prod.snd e).symm
   .exact absurd rfl hp
  .rw[if_neg hn];exact s.hx _ _ _ hp
 .rw[g_]at hm' ⊢;by_cases e:t=t'/\r=r'
  .rw[if_pos e];exact jf (.inl ⟨e.1,e.2,Up⟩)
  .rw[if_neg e]at hm' ⊢;exact jf (.inr ⟨e,s.hy _ _ hm'⟩)
 .replace hp:=fS hp;rcases hp with⟨rfl,rfl,hp⟩|⟨hn,hp⟩
  .rcases key _ hp with e|⟨hp,_⟩
   .exact absurd (congrArg Prod.fst e).symm hxy
   .exact s.py _ _ _ hp
  .exact s.py _ _ _ hp
theorem mY.full(s:mY x y has aL G)(hxy:x≠y):mY x y has aL (dR G t r (j9 (G t r) y m)):=by
 have key:∀t' r' p,p∈dR G t r (j9 (G t r) y m) t' r'->p∈G t' r':=by
  intro t' r' p hp;replace hp:=fS hp;rcases hp with⟨rfl,rfl,hp⟩|⟨hn,hp⟩
  .exact(List.mem_filter.1 hp).1
  .exact hp
 refine⟨λt' r' p hp=>s.only _ _ p (key _ _ _ hp),λt' r' m' hp=>s.hx _ _ _ (key _ _ _ hp),λt' r' hm'=>?_,λt' r' m' hp=>s.py _ _ _ (key _ _ _ hp)⟩;refine jf ?_;by_cases e:t=t'/\r=r'
 .obtain⟨rfl,rfl⟩:=e;refine .inl ⟨rfl,rfl,List.mem_filter.2 ⟨s.hy _ _ hm',?_⟩⟩;unfold x6;simp[hxy]
 .exact .inr ⟨e,s.hy _ _ hm'⟩
theorem mY.inh(s:mY x y has aL G)(hxy:x≠y)(D:vB (G t r))(w:Int)(h0:aY has t r=0)(hg:dm (G t r) y≠0):mY x y (de has ⟨w,t,r,aY aL t r⟩) (bU aL t r) (dR G t r (vz (G t r) y x)):=by
 have hmem:=pL D hg;have eM:=s.py _ _ _ hmem;have hno:∀v,(x,v)∉G t r:=λv hv=>by
  have:=s.hx _ _ _ hv;rw[h0]at this;exact(D.1 _ hv).1 this.symm
 have key:∀p,p∈vz (G t r) y x->p=(x,aY aL t r):=by
  intro p hp;obtain⟨q,hq,rfl⟩:=List.mem_map.1 hp;rcases s.only _ _ q hq with e|e
  .exact absurd (show(x,q.2)∈G t r by rw[<-e];exact hq) (hno _)
  .rw[if_pos e,s.py t r q.2 (by rw[<-e];exact hq)]
 have Up:(x,aY aL t r)∈vz (G t r) y x:=List.mem_map.2 ⟨_,hmem,by rw[if_pos rfl,eM]⟩;refine⟨λt' r' p hp=>?_,λt' r' m' hp=>?_,λt' r' hm'=>?_,λt' r' m' hp=>?_⟩
 .replace hp:=fS hp;rcases hp with⟨rfl,rfl,hp⟩|⟨hn,hp⟩
  .rw[key p hp];exact .inl rfl
  .exact s.only _ _ p hp
 .rw[g_];replace hp:=fS hp;rcases hp with⟨rfl,rfl,hp⟩|⟨hn,hp⟩
  .rw[if_pos ⟨rfl,rfl⟩];exact(congrArg Prod.snd (key _ hp)).symm
  .rw[if_neg hn];exact s.hx _ _ _ hp
 .rw[g_]at hm' ⊢;by_cases e:t=t'/\r=r'
  .rw[if_pos e];exact jf (.inl ⟨e.1,e.2,Up⟩)
  .rw[if_neg e]at hm' ⊢;exact jf (.inr ⟨e,s.hy _ _ hm'⟩)
 .rw[iM];replace hp:=fS hp;rcases hp with⟨rfl,rfl,hp⟩|⟨hn,hp⟩
  .exact absurd (congrArg Prod.fst (key _ hp)).symm hxy
  .rw[if_neg hn];exact s.py _ _ _ hp
theorem mY.gone(s:mY x y has aL G)(D:vB (G t r))(hg:dm (G t r) y=0):mY x y has (bU aL t r) G:=by
 refine⟨s.only,s.hx,s.hy,λt' r' m' hp=>?_⟩;rw[iM];by_cases e:t=t'/\r=r'
 .obtain⟨rfl,rfl⟩:=e;exact absurd rfl (yW D hg _ hp)
 .rw[if_neg e];exact s.py _ _ _ hp
theorem mY.del(s:mY x y has aL G)(hxy:x≠y):mY x y has (bU aL t r) (dR G t r (qe (G t r) y)):=by
 have key:∀t' r' p,p∈dR G t r (qe (G t r) y) t' r'->p∈G t' r':=by
  intro t' r' p hp;replace hp:=fS hp;rcases hp with⟨rfl,rfl,hp⟩|⟨hn,hp⟩
  .exact(List.mem_filter.1 hp).1
  .exact hp
 refine⟨λt' r' p hp=>s.only _ _ p (key _ _ _ hp),λt' r' m' hp=>s.hx _ _ _ (key _ _ _ hp),λt' r' hm'=>?_,λt' r' m' hp=>?_⟩
 .refine jf ?_;by_cases e:t=t'/\r=r'
  .obtain⟨rfl,rfl⟩:=e;exact .inl ⟨rfl,rfl,List.mem_filter.2 ⟨s.hy _ _ hm',by simp[hxy]⟩⟩
  .exact .inr ⟨e,s.hy _ _ hm'⟩
 .rw[iM];replace hp:=fS hp;rcases hp with⟨rfl,rfl,hp⟩|⟨hn,hp⟩
  .have:=(List.mem_filter.1 hp).2;simp at this
  .rw[if_neg hn];exact s.py _ _ _ hp
theorem mY.drop(s:mY x y has aL G)(hxy:x≠y):mY x y (bU has t r) aL (dR G t r (qe (G t r) x)):=by
 have key:∀t' r' p,p∈dR G t r (qe (G t r) x) t' r'->p∈G t' r':=by
  intro t' r' p hp;replace hp:=fS hp;rcases hp with⟨rfl,rfl,hp⟩|⟨hn,hp⟩
  .exact(List.mem_filter.1 hp).1
  .exact hp
 refine⟨λt' r' p hp=>s.only _ _ p (key _ _ _ hp),λt' r' m' hp=>?_,λt' r' hm'=>?_,λt' r' m' hp=>s.py _ _ _ (key _ _ _ hp)⟩
 .rw[iM];replace hp:=fS hp;rcases hp with⟨rfl,rfl,hp⟩|⟨hn,hp⟩
  .have:=(List.mem_filter.1 hp).2;simp at this
  .rw[if_neg hn];exact s.hx _ _ _ hp
 .rw[iM]at hm' ⊢;by_cases e:t=t'/\r=r'
  .rw[if_pos e]at hm';exact absurd rfl hm'
  .rw[if_neg e]at hm' ⊢;exact jf (.inr ⟨e,s.hy _ _ hm'⟩)
theorem mY.hand(s:mY x y has aL G)(hxy:x≠y)(D:vB (G t r))(h0:aY has t r≠0)(hp0:aY aL t r=0)(w:Int):mY x y (bU has t r) (de aL ⟨w,t,r,aY has t r⟩) (dR G t r (vz (G t r) x y))/\(y,aY has t r)∈vz (G t r) x y:=by
 have hno:∀v,(y,v)∉G t r:=λv hv=>by
  have:=s.py _ _ _ hv;rw[hp0]at this;exact(D.1 _ hv).1 this.symm
 have key:∀p,p∈vz (G t r) x y->p=(y,aY has t r):=by
  intro p hp;obtain⟨q,hq,rfl⟩:=List.mem_map.1 hp;rcases s.only _ _ q hq with e|e
  .rw[if_pos e,s.hx t r q.2 (by rw[<-e];exact hq)]
  .exact absurd (show(y,q.2)∈G t r by rw[<-e];exact hq) (hno _)
 have Up:(y,aY has t r)∈vz (G t r) x y:=List.mem_map.2 ⟨_,s.hy _ _ h0,by rw[if_pos rfl]⟩;refine⟨⟨λt' r' p hp=>?_,λt' r' m' hp=>?_,λt' r' hm'=>?_,λt' r' m' hp=>?_⟩,Up⟩
 .replace hp:=fS hp;rcases hp with⟨rfl,rfl,hp⟩|⟨hn,hp⟩
  .rw[key p hp];exact .inr rfl
  .exact s.only _ _ p hp
 .rw[iM];replace hp:=fS hp;rcases hp with⟨rfl,rfl,hp⟩|⟨hn,hp⟩
  .exact absurd (congrArg Prod.fst (key _ hp)) hxy
  .rw[if_neg hn];exact s.hx _ _ _ hp
 .rw[iM]at hm' ⊢;by_cases e:t=t'/\r=r'
  .rw[if_pos e]at hm';exact absurd rfl hm'
  .rw[if_neg e]at hm' ⊢;exact jf (.inr ⟨e,s.hy _ _ hm'⟩)
 .rw[g_];replace hp:=fS hp;rcases hp with⟨rfl,rfl,hp⟩|⟨hn,hp⟩
  .rw[if_pos ⟨rfl,rfl⟩];exact(congrArg Prod.snd (key _ hp)).symm
  .rw[if_neg hn];exact s.py _ _ _ hp
end
end Go.Proofs

namespace Go.Vai
open Go
section
variable {α:Type}{s:Nat}{enc:α->List Value}
set_option maxRecDepth 20000 in
theorem C5{a h:af}{e:TypeId}{z:List Value}{v x:Value}{L M:List α}(he:∀a:α,(enc a).length=s)(hone:∀a:α,(enc a).all dK=true)(hs0:0<s)(hs1:s<=100)(ho:iJ enc a e h v L)(hx:Sl enc h x M)(hle:Le a h)(hb:L.length+M.length<=1000000)(hal:h.lo<=h.nx)(V:KQ)(hk:∀v' h',iJ enc a e h' v' (L++M)->Le a h'->h'.nx<=h.nx+1->h.nx<=h'.nx->h'.lo=h.lo->(∀b,b<h.nx->(∀n c,v≠.slice (some ⟨b,0,none⟩) n c)->h'.bl.get b=h.bl.get b)->(M≠[]->∃b,v'=.slice (some ⟨b,0,none⟩) (L.length+M.length) aX/\h.nx<=b)->V v' h'):bD False e s z false v x h V:=by
 by_cases hM:M=[]
 .subst hM;rw[append_nil hx (by rcases ho with⟨rfl,rfl|⟨b,o,rfl⟩⟩|⟨b,rfl,_⟩<;>exact⟨_,_,_,rfl⟩)];exact hk v h (by simpa using ho) hle (Nat.le_succ _) (Nat.le_refl _) rfl (λ_ _ _=>rfl) (λe=>absurd rfl e)
 .obtain⟨m,hm⟩:∃m,M.length=m+1:=⟨M.length-1,by have:=List.length_pos_iff.2 hM;omega⟩
  have hfl:=bB (enc:=enc) he;have iK:=hx.first (β:=Prop) (fl:=False) he;obtain⟨y,cap,rfl,h2⟩:=hx;have hml:∀K:List α,K.length<=1000000->(K.flatMap enc).length<=1000000000000:=λK hK=>by
   rw[hfl];have:=Nat.mul_le_mul hK hs1;omega
  have fresh:∀(hh:af)(ws:List Value),ws=(L++M).flatMap enc->Le a hh->hh.nx=h.nx->hh.lo=h.lo->(∀b,b<h.nx->(∀n c,v≠.slice (some ⟨b,0,none⟩) n c)->hh.bl.get b=h.bl.get b)->dh False ws e true hh λb h'=>V (.slice (some ⟨b,0,none⟩) (L.length+M.length) aX) h':=by
   intro hh ws hw Rb hnx hlo hgt;subst hw;unfold dh;rw[iQ _ _ _ _ (hml _ (by simp;omega)),dS];refine hk _ _ (.inr ⟨hh.nx,by simp,Rb.nx,Nat.lt_succ_self _,by show hh.lo<=_;omega,T.az _ _ _⟩) (Rb.new _) (by show hh.nx+1<=_;omega) (by show h.nx<=hh.nx+1;omega) hlo (λb hb hn=>(T.aD _ _ YYZ).trans (hgt b hb hn)) (λ_=>⟨hh.nx,rfl,YYZ⟩)
  rcases ho with⟨rfl,hv⟩|⟨b,rfl,h3,h4,h5,h6⟩
  .have hF:=fresh h (M.flatMap enc) (by simp) hle rfl rfl (λ_ _ _=>rfl);simp only[List.length_nil,Nat.zero_add]at hF;rcases hv with rfl|⟨b,o,rfl⟩
   .unfold bD kP;simp only;rw[iK];simp only[hm,bY];rw[show Nat.ble (Nat.add 0 (m+1)) 1000000000=true from Nat.ble_eq_true_of_le (by show 0+(m+1)<=_;omega)];rw[hm]at hF;have e1:Nat.add 0 (m+1)=m+1:=by show 0+(m+1)=_;omega
    rw[e1];exact hF
   .unfold bD kP;simp only;rw[iK];simp only[hm,bY];have e1:Nat.add 0 (m+1)=m+1:=by show 0+(m+1)=_;omega
    rw[e1,show Nat.ble (m+1) 1000000000=true from Nat.ble_eq_true_of_le YYZ];rw[hm]at hF
    show eN False h s 0 _ _
    rw[jA _ _ _ _ _ (by simp)];exact hF
  .unfold bD kP;simp only;rw[iK];simp only[hm,bY];have e1:Nat.add L.length (m+1)=L.length+(m+1):=rfl;rw[e1,show Nat.ble (L.length+(m+1)) 1000000000=true from Nat.ble_eq_true_of_le YYZ];have e2:Nat.beq aX gK=false:=by decide
   have e3:Nat.beq aX aX=true:=Nat.beq_refl _;simp only[e2,e3,h6];have e4:Nat.ble (Nat.add 0 (Nat.mul (L.length+(m+1)) s)) (L.flatMap enc).length=false:=by
    rw[hfl];cases Rc:Nat.ble (Nat.add 0 (Nat.mul (L.length+(m+1)) s)) (L.length*s)with
    |false=>rfl
    |true=>
     have h7:0+(L.length+(m+1))*s<=L.length*s:=Nat.le_of_ble_eq_true Rc;rw[Nat.add_mul,Nat.succ_mul]at h7;omega
   have e5:(M.flatMap enc).all dK=true:=by
    rw[List.all_flatMap];simp only[List.all_eq_true];intro x _;exact List.all_eq_true.1 (hone x)
   simp only[ah,Nat.beq_refl,e4,e5,Bool.and_self];have hh:Has (h.bl.get b) 0 (L.flatMap enc):=by rw[h6];exact Has.all
   rw[jl hh s L.length _ _ _ (hfl L).symm,cq _ _ _ _ h5];have hF:=fresh ⟨h.nx,h.bl.bt b (.dead (L.flatMap enc).length e),h.lo⟩ (L.flatMap enc++M.flatMap enc) (by simp) (hle.set h3 _) rfl rfl (λb' _ hn=>T.aD _ _ (λe=>hn _ _ (by rw[e])));rw[hm]at hF;exact hF
end
end Go.Vai

namespace Go.Proofs
open Go.Vai Go.Clashes
open Tryz (prog)
structure vM where
 k:Int
 t:Int
 r:Int
 m:Int
 v:Int
 w:Int
def iS(o:vM):List Value:=[YYX o.k,YYX o.t,YYX o.r,YYX o.m,YYX o.v,YYX o.w]
theorem encO_len(o:vM):(iS o).length=6:=rfl
theorem Jq(o:vM):(iS o).all dK=true:=rfl
def jC(k:Int):Int:=if k=2\/k=3\/k=4\/k=5 then 2 else if k=6 then 1 else if k=9\/k=10 then 3 else 0
structure Uq(o:vM):Prop where
 k:1<=o.k/\o.k<=11
 l:bx o.t o.r≠-1
 n:jC o.k=3\/bx o.t o.r=jC o.k
 m:if o.k=9 then 1<=o.m/\o.m<=6 else o.m=0
 v:if o.k=3\/o.k=4 then 0<=o.v/\o.v<=255 else o.v=0
 w:if 0<jC o.k/\o.k≠10 then 0<=o.w/\o.w<=255 else o.w=0
theorem r9(n lo hi:Int){h:af}{V:KQ}(hκ:V (.bool (decide (lo<=n) && decide (n<=hi))) h):aq prog 31 [YYX n,YYX lo,YYX hi] h V:=by
 apply YYW;rw[agY];by_cases h1:lo<=n
 .rw[bf h1,Bool.true_and]at hκ;simp(disch:=try exact Y)only[Wz,cG h1,ri];exact hκ
 .rw[aZ h1,Bool.false_and]at hκ;simp(disch:=try exact Y)only[Wz,dZ (show n<lo by omega)];exact hκ
theorem Ur:∀i:Nat,i<12->bA prog 200 33 [YYX (i:Nat)] (YYX (jC (i:Nat)))=true:=by decide +kernel
theorem Us(k:Int)(hk:1<=k/\k<=11){h:af}{V:KQ}(hκ:V (YYX (jC k)) h):aq prog 33 [YYX k] h V:=by
 obtain⟨i,rfl⟩:=Int.eq_ofNat_of_zero_le (show 0<=k by omega);exact gN mixed (Ur i YYZ) hκ
theorem Ut:∀i:Nat,i<12->bA prog 200 59 [YYX (i:Nat)] (YYX (jC (i:Nat)))=true:=by decide +kernel
theorem Uu(k:Int)(hk:1<=k/\k<=11){h:af}{V:KQ}(hκ:V (YYX (jC k)) h):aq prog 59 [YYX k] h V:=by
 obtain⟨i,rfl⟩:=Int.eq_ofNat_of_zero_le (show 0<=k by omega);exact gN mixed (Ut i YYZ) hκ
theorem ajE{h:af}{V:KQ}(hk:V (dJ (-1) (-1)) h):aq prog 58 [] h V:=
 gN mixed (show bA prog 100 58 [] (dJ (-1) (-1))=true by kernel_rfl) hk
theorem PO(t r:Int){h:af}{V:KQ}(hk:V (YYX (bx t r)) h):aq prog 32 [dJ t r] h V:=by
 refine jB (v:=YYX (bx t r)) rfl rfl (aF mixed ?_) hk;rw[agZ];simp(disch:=try exact Y)only[Wz,dJ];refine ajE ?_;unfold bx E0;by_cases h0:t = -1/\r = -1
 .rw[if_pos h0];obtain⟨rfl,rfl⟩:=h0;simp(disch:=try exact Y)only[Wz,dJ,iR,and_self,decide_true]
 .rw[if_neg h0];by_cases a1:t<0
  .simp(disch:=try exact Y)only[Wz,dJ,iR,aZ h0,p8,dZ a1,aZ (show ¬0<=t by omega)];simp
  .by_cases a2:100<=t
   .simp(disch:=try exact Y)only[Wz,dJ,iR,aZ h0,p8,cG (show 0<=t by omega),ri,bf a2,aZ (show ¬t<100 by omega)];simp
   .by_cases a3:r < -1
    .simp(disch:=try exact Y)only[Wz,dJ,iR,aZ h0,p8,cG (show 0<=t by omega),ri,aZ a2,dZ a3,aZ (show ¬0<=r by omega),aZ (show ¬r = -1 by omega)];simp;omega
    .by_cases a4:100<=r
     .simp(disch:=try exact Y)only[Wz,dJ,iR,aZ h0,p8,cG (show 0<=t by omega),ri,aZ a2,cG (show -1<=r by omega),bf a4];simp;omega
     .by_cases a5:r = -1
      .simp(disch:=try exact Y)only[Wz,dJ,iR,aZ h0,p8,cG (show 0<=t by omega),ri,aZ a2,cG (show -1<=r by omega),aZ a4,bf a5];simp;omega
      .simp(disch:=try exact Y)only[Wz,dJ,iR,aZ h0,p8,cG (show 0<=t by omega),ri,aZ a2,cG (show -1<=r by omega),aZ a4,aZ a5];simp;omega
section
variable {o:vM}{hA:af}{b1:Nat}{wv:Int}{V:KQ}
theorem LD(g1:hA.bl.get b1=some (ah [YYX o.k,YYX o.t,YYX o.r,YYX o.m,YYX o.v,YYX o.w] 29 false))(iE:(if 0<wv/\o.k≠10 then 0<=o.w/\o.w<=255 else o.w=0)->V (YYX 0) hA)(bad:V (YYX 2) hA):DV (YYX wv) b1 hA V:=by
 unfold DV;by_cases a1:0<wv
 .by_cases a2:o.k=10
  .rw[if_neg (λe=>e.2 a2)]at iE;by_cases a3:o.w=0
   .simp(disch:=try exact Y)only[Wz,dZ a1,g1,bf a2,bf a3];exact iE a3
   .simp(disch:=try exact Y)only[Wz,dZ a1,g1,bf a2,aZ a3];exact bad
  .rw[if_pos ⟨a1,a2⟩]at iE;simp(disch:=try exact Y)only[Wz,dZ a1,g1,aZ a2];refine r9 _ _ _ ?_;by_cases a3:0<=o.w
   .by_cases a4:o.w<=255
    .simp(disch:=try exact Y)only[Wz,bf a3,bf a4];exact iE ⟨a3,a4⟩
    .simp(disch:=try exact Y)only[Wz,bf a3,aZ a4];exact bad
   .simp(disch:=try exact Y)only[Wz,aZ a3];exact bad
 .rw[if_neg (λe=>a1 e.1)]at iE;by_cases a3:o.w=0
  .simp(disch:=try exact Y)only[Wz,cG (show wv<=0 by omega),g1,bf a3];exact iE a3
  .simp(disch:=try exact Y)only[Wz,cG (show wv<=0 by omega),g1,aZ a3];exact bad
theorem Uv(g1:hA.bl.get b1=some (ah [YYX o.k,YYX o.t,YYX o.r,YYX o.m,YYX o.v,YYX o.w] 29 false))(iE:(if o.k=3\/o.k=4 then 0<=o.v/\o.v<=255 else o.v=0)->(if 0<wv/\o.k≠10 then 0<=o.w/\o.w<=255 else o.w=0)->V (YYX 0) hA)(bad:V (YYX 2) hA):DW b1 (YYX wv) hA V:=by
 unfold DW;by_cases a1:o.k=3\/o.k=4
 .rw[if_pos a1]at iE;rcases a1 with a1|a1
  .simp(disch:=try exact Y)only[Wz,g1,bf a1];refine r9 _ _ _ ?_;by_cases a3:0<=o.v
   .by_cases a4:o.v<=255
    .simp(disch:=try exact Y)only[Wz,bf a3,bf a4];exact LD g1 (iE ⟨a3,a4⟩) bad
    .simp(disch:=try exact Y)only[Wz,bf a3,aZ a4];exact bad
   .simp(disch:=try exact Y)only[Wz,aZ a3];exact bad
  .simp(disch:=try exact Y)only[Wz,g1,aZ (show ¬o.k=3 by omega),bf a1];refine r9 _ _ _ ?_;by_cases a3:0<=o.v
   .by_cases a4:o.v<=255
    .simp(disch:=try exact Y)only[Wz,bf a3,bf a4];exact LD g1 (iE ⟨a3,a4⟩) bad
    .simp(disch:=try exact Y)only[Wz,bf a3,aZ a4];exact bad
   .simp(disch:=try exact Y)only[Wz,aZ a3];exact bad
 .rw[if_neg a1]at iE;have b3:¬o.k=3:=λe=>a1 (.inl e);have b4:¬o.k=4:=λe=>a1 (.inr e);by_cases a3:o.v=0
  .simp(disch:=try exact Y)only[Wz,g1,aZ b3,aZ b4,bf a3];exact LD g1 (iE a3) bad
  .simp(disch:=try exact Y)only[Wz,g1,aZ b3,aZ b4,aZ a3];exact bad
theorem aeN(g1:hA.bl.get b1=some (ah [YYX o.k,YYX o.t,YYX o.r,YYX o.m,YYX o.v,YYX o.w] 29 false))(iE:(if o.k=9 then 1<=o.m/\o.m<=6 else o.m=0)->(if o.k=3\/o.k=4 then 0<=o.v/\o.v<=255 else o.v=0)->(if 0<wv/\o.k≠10 then 0<=o.w/\o.w<=255 else o.w=0)->V (YYX 0) hA)(bad:V (YYX 2) hA):yN b1 (YYX wv) hA V:=by
 unfold yN;by_cases a1:o.k=9
 .rw[if_pos a1]at iE;simp(disch:=try exact Y)only[Wz,g1,bf a1];refine r9 _ _ _ ?_;by_cases a3:1<=o.m
  .by_cases a4:o.m<=6
   .simp(disch:=try exact Y)only[Wz,bf a3,bf a4];exact Uv g1 (iE ⟨a3,a4⟩) bad
   .simp(disch:=try exact Y)only[Wz,bf a3,aZ a4];exact bad
  .simp(disch:=try exact Y)only[Wz,aZ a3];exact bad
 .rw[if_neg a1]at iE;by_cases a3:o.m=0
  .simp(disch:=try exact Y)only[Wz,g1,aZ a1,bf a3];exact Uv g1 (iE a3) bad
  .simp(disch:=try exact Y)only[Wz,g1,aZ a1,aZ a3];exact bad
end
theorem x8(k:Int):jC k=0\/jC k=1\/jC k=2\/jC k=3:=by unfold jC;split<;>(try split)<;>(try split)<;>simp
theorem ajF(o:vM)(h:af)(hlo:h.lo<=h.nx)(V:KQ)(iE:Uq o->∀h',Le h h'->V (YYX 0) h')(cZ:∀h',Le h h'->V (YYX 2) h'):aq prog 18 [.agg ⟨iS o⟩] h V:=by
 apply YYW;rw[agS];simp(disch:=try exact Y)only[Wz,iS];obtain⟨hA,bg,aS,g1,dP,dQ⟩:=jH h (ah [YYX o.k,YYX o.t,YYX o.r,YYX o.m,YYX o.v,YYX o.w] 29 false);rw[<-bg]
 try rw[show(h.bl.bt (h.nx) (ah [YYX o.k,YYX o.t,YYX o.r,YYX o.m,YYX o.v,YYX o.w] 29 false))=hA.bl by rw[bg]]
 clear bg;have bad:=cZ hA aS;by_cases a1:o.k<1
 .simp(disch:=try exact Y)only[Wz,g1,dZ a1];exact bad
 by_cases a2:11<o.k
 .simp(disch:=try exact Y)only[Wz,g1,cG (show 1<=o.k by omega),dZ a2];exact bad
 simp(disch:=try exact Y)only[Wz,g1,cG (show 1<=o.k by omega),cG (show o.k<=11 by omega),ME];refine PO o.t o.r ?_;simp(disch:=try exact Y)only[Wz,g1];refine Us o.k ⟨YYZ,YYZ⟩ ?_;have good:bx o.t o.r≠-1->(jC o.k=3\/bx o.t o.r=jC o.k)->yN h.nx (YYX (jC o.k)) hA V:=λe1 e2=>aeN g1 (λe3 e4 e5=>iE ⟨⟨YYZ,YYZ⟩,e1,e2,e3,e4,e5⟩ hA aS) bad;generalize jC o.k=wv,x8 o.k=hw at good ⊢;generalize bx o.t o.r=lv,mh o.t o.r=hl at good ⊢;rcases hl with rfl|rfl|rfl|rfl<;>rcases hw with rfl|rfl|rfl|rfl
 all_goals simp(disch:=try exact Y)only[Wz]
 all_goals first|exact bad|exact good YYQ YYQ
theorem LF(n lo hi:Int)(th:Bool){h:af}{V:KQ}(hκ:V (.bool (if th=true then decide (lo<=n) && decide (n<=hi)else decide (n=0))) h):aq prog 61 [YYX n,YYX lo,YYX hi,.bool th] h V:=by
 apply YYW;rw[ahf];cases th with
 |false=>
  rw[if_neg YYQ]at hκ;simp(disch:=try exact Y)only[Wz];exact hκ
 |true=>
  rw[if_pos rfl]at hκ;by_cases h1:lo<=n
  .rw[bf h1,Bool.true_and]at hκ;simp(disch:=try exact Y)only[Wz,D4,cG h1,ri];exact hκ
  .rw[aZ h1,Bool.false_and]at hκ;simp(disch:=try exact Y)only[Wz,D4,dZ (show n<lo by omega)];exact hκ
theorem ajG(o:vM)(hk:1<=o.k/\o.k<=11){hA:af}{b1:Nat}(g1:hA.bl.get b1=some (ah [YYX o.k,YYX o.t,YYX o.r,YYX o.m,YYX o.v,YYX o.w] 29 false))(vb wb:Bool)(hm:if o.k=9 then 1<=o.m/\o.m<=6 else o.m=0)(hv:if vb=true then 0<=o.v/\o.v<=255 else o.v=0)(hw:if wb=true then 0<=o.w/\o.w<=255 else o.w=0)(CH:List Value->af->Prop)(hN:∀l,an l 27=.bool false->CH l hA):DY b1 CH (.bool true) (.bool vb) (.bool wb) hA:=by
 simp(disch:=try exact Y)only[Wz,DY,g1,cG (show(1:Int)<=o.k by omega),cG (show o.k<=11 by omega)];have e1:(if decide (o.k=9)=true then decide ((1:Int)<=o.m) && decide (o.m<=6)else decide (o.m=0))=true:=by
  by_cases h9:o.k=9
  .rw[if_pos h9]at hm;rw[if_pos (decide_eq_true h9),bf hm.1,bf hm.2];rfl
  .rw[if_neg h9]at hm;rw[if_neg (by rw[aZ h9];decide),bf hm]
 have e2:(if vb=true then decide ((0:Int)<=o.v) && decide (o.v<=255)else decide (o.v=0))=true:=by
  cases vb with
  |true=>rw[if_pos rfl]at hv ⊢;rw[bf hv.1,bf hv.2];rfl
  |false=>rw[if_neg YYQ]at hv ⊢;rw[bf hv]
 have e3:(if wb=true then decide ((0:Int)<=o.w) && decide (o.w<=255)else decide (o.w=0))=true:=by
  cases wb with
  |true=>rw[if_pos rfl]at hw ⊢;rw[bf hw.1,bf hw.2];rfl
  |false=>rw[if_neg YYQ]at hw ⊢;rw[bf hw]
 simp(disch:=try exact Y)only[Wz,MO,g1];refine LF _ _ _ _ ?_;rw[e1];simp(disch:=try exact Y)only[Wz,MM,g1];refine LF _ _ _ vb ?_;rw[e2];simp(disch:=try exact Y)only[Wz,g1];refine LF _ _ _ wb ?_;rw[e3];simp(disch:=try exact Y)only[Wz];exact hN _ rfl
theorem ajH(o:vM)(ok:Uq o)(h:af)(hlo:h.lo<=h.nx)(V:KQ)(hk:∀h',Le h h'->V (YYX 0) h'):aq prog 35 [.agg ⟨iS o⟩] h V:=by
 obtain⟨hkk,hl,hn,hm,hv,hw⟩:=ok;apply YYW;rw[ag2];simp(disch:=try exact Y)only[Wz,iS];obtain⟨hA,bg,aS,g1,dP,dQ⟩:=jH h (ah [YYX o.k,YYX o.t,YYX o.r,YYX o.m,YYX o.v,YYX o.w] 29 false);rw[<-bg]
 try rw[show(h.bl.bt (h.nx) (ah [YYX o.k,YYX o.t,YYX o.r,YYX o.m,YYX o.v,YYX o.w] 29 false))=hA.bl by rw[bg]]
 clear bg;refine Uu o.k hkk ?_;simp(disch:=try exact Y)only[Wz,g1];refine qa o.t o.r ?_;have inn:=λ(vb wb:Bool) (e1:vb=(decide (o.k=3) || decide (o.k=4))) (e2:wb=(decide (0<jC o.k) && !decide (o.k=10))) (CH:List Value->af->Prop)=>ajG o hkk (b1:=h.nx) g1 vb wb hm (by
  rw[e1];by_cases c3:o.k=3
  .rw[if_pos (.inl c3)]at hv;rw[if_pos (by simp[c3])];exact hv
  .by_cases c4:o.k=4
   .rw[if_pos (.inr c4)]at hv;rw[if_pos (by simp[c4])];exact hv
   .rw[if_neg (λe=>e.elim c3 c4)]at hv;rw[if_neg (by simp[c3,c4])];exact hv) (by
  rw[e2];by_cases c:0<jC o.k
  .by_cases d:o.k=10
   .rw[if_neg (λe=>e.2 d)]at hw;rw[if_neg (by simp[d])];exact hw
   .rw[if_pos ⟨c,d⟩]at hw;rw[if_pos (by simp[c,d])];exact hw
  .rw[if_neg (λe=>c e.1)]at hw;rw[if_neg (by simp[c])];exact hw) CH
 obtain⟨d3,e3⟩:∃d,decide (o.k=3)=d:=⟨_,rfl⟩
 obtain⟨d4,e4⟩:∃d,decide (o.k=4)=d:=⟨_,rfl⟩
 obtain⟨d0,e0⟩:∃d,decide (o.k=10)=d:=⟨_,rfl⟩
 rw[e3,e4,e0]at inn;clear hv hw hm;generalize jC o.k=wv,x8 o.k=hwv at hn inn ⊢;generalize bx o.t o.r=lv,mh o.t o.r=hlv at hl hn ⊢;rcases hlv with rfl|rfl|rfl|rfl
 .exact absurd rfl hl
 all_goals rcases hwv with rfl|rfl|rfl|rfl
 all_goals try (exfalso;revert hn;decide)
 all_goals cases d3<;>cases d4<;>cases d0
 all_goals simp(disch:=try exact Y)only[Wz,g1,e3,e4,e0]
 all_goals refine⟨λl' h'=>Le hA h',?_,λl' h' q=>hk h' (aS.trans q)⟩
 all_goals refine⟨λl' h'=>an l' 27=.bool false/\Le hA h',?_,?_⟩
 all_goals first|(refine inn _ _ YYQ YYQ _ λl e=>⟨e,Le.refl _⟩)|skip
 all_goals (rintro l' h' ⟨e27,le'⟩)
 all_goals simp(disch:=try exact Y)only[Wz,e27]
 all_goals exact le'
structure LG(h:af)(vt vp:Value)(O:List vM)(P:List (Int × Int)):Prop where
 t:∃tb vo,vt=YYU tb 1 1/\tb<h.nx/\h.bl.get tb=some (ah [vo] 22 false)/\Sl iS h vo O
 p:Sl fD h vp P
 l:O.length<=12/\P.length<=4096
theorem LG.le{h h':af}{vt vp:Value}{O:List vM}{P:List (Int × Int)}(s:LG h vt vp O P)(l:Le h h'):LG h' vt vp O P:=by
 obtain⟨tb,vo,h1,h2,h3,h4⟩:=s.t;exact⟨⟨tb,vo,h1,Nat.lt_of_lt_of_le h2 l.nx,(l.get tb h2).trans h3,h4.le l⟩,s.p.le l,s.l⟩
abbrev scV(vt vp:Value):Value:=.agg ⟨[vt,vp,YYX 2,YYX 8,YYX 24,YYX 2]⟩
abbrev kcV:Value:=.agg ⟨[YYX 2,YYX 8,YYX 24,YYX 2]⟩
theorem X0{h:af}{V:KQ}(hk:V (.bool true) h):aq prog 17 [kcV] h V:=
 gN mixed (show bA prog 200 17 [kcV] (.bool true)=true by kernel_rfl) hk
theorem X1{h:af}{V:KQ}(hk:V (.bool true) h):aq prog 36 [kcV] h V:=
 gN mixed (show bA prog 200 36 [kcV] (.bool true)=true by kernel_rfl) hk
theorem X2{h:af}{V:KQ}(hk:V (.bool true) h):aq prog 19 [.agg ⟨[YYX 1,YYX 0]⟩] h V:=
 gN mixed (show bA prog 200 19 [.agg ⟨[YYX 1,YYX 0]⟩] (.bool true)=true by kernel_rfl) hk
theorem X3{h:af}{V:KQ}(hk:V (.bool true) h):aq prog 40 [.agg ⟨[YYX 1,YYX 0]⟩] h V:=
 gN mixed (show bA prog 200 40 [.agg ⟨[YYX 1,YYX 0]⟩] (.bool true)=true by kernel_rfl) hk
theorem ajI{h:af}{v:Value}{L:List vM}(hs:Sl iS h v L)(i:Nat){p:vM}(hp:L[i]? = some p):∃c o,c<h.nx/\(∀(β:Type)(fl:β)(h':af)(V:YYY β),aK fl 6 v (YYX (i:Int)) h' V=V (.pointer (some ⟨c,o,none⟩)) h')/\
   ∀(β:Type)(fl:β)(V:List Value->β),yh fl (h.bl.get c) o 6 V=V (iS p):=by
 obtain⟨c,o,h1,h2,h3,_⟩:=hs.ld encO_len i hp;exact⟨c,o,h1,h2,h3⟩
theorem Uw(h:af)(hlo:h.lo<=h.nx)(vt vp:Value)(O:List vM)(P:List (Int × Int))(s:LG h vt vp O P)(hP:∀p∈P,p=(1,0))(V:KQ)(iE:(∀o∈O,Uq o)->∀h',Le h h'->V (YYX 0) h')(cZ:∀h',Le h h'->V (YYX 2) h'):aq prog 8 [scV vt vp] h V:=by
 obtain⟨tb,vo,rfl,htb,gt,so⟩:=s.t;obtain⟨px,pc,rfl,_⟩:=(show Sl fD h vp P from s.p)
 have hlP:=s.l.2;have hlO:=s.l.1;obtain⟨ox,oc,rfl,_⟩:=(show Sl iS h vo O from so)
 have hl:∀(β:Type)(fl:β)(n c:Nat)(x:Option Addr)(h':af)(V:YYY β),bF fl (.slice x n c) h' V=V (YYX (n:Int)) h':=λβ fl n c x h' V=>gr _ _ _ _ _;apply YYW;rw[al3];simp(disch:=try exact Y)only[Wz];obtain⟨hA,bg,aS,g1,dP,dQ⟩:=jH h (ah [YYU tb 1 1,.slice px P.length pc,YYX 2,YYX 8,YYX 24,YYX 2] 37 false);rw[<-bg]
 try rw[show(h.bl.bt (h.nx) (ah [YYU tb 1 1,.slice px P.length pc,YYX 2,YYX 8,YYX 24,YYX 2] 37 false))=hA.bl by rw[bg]]
 clear bg;have Qd:=(aS.get tb htb).trans gt;refine X0 ?_;simp(disch:=try exact Y)only[Wz];refine⟨λm l h1=>∃i:Nat,an l 36=YYX (i:Int)/\m=1-i/\i<=1/\(i=1->∀o∈O,Uq o)/\Le hA h1,⟨_,0,rfl,rfl,YYZ,(λe=>by cases e),Le.refl _⟩,?_⟩;rintro m l h1 ⟨i,s1,rfl,hi,hO,bT⟩;have n1:=bT.nx;have l1:=bT.lo;have Jb:=bT.nx;have Jc:=bT.lo;have g1:=(bT.get _ YYZ).trans g1;have Qd:=(bT.get _ YYZ).trans Qd;unfold R4;by_cases hlt:i<1
 .obtain rfl:i=0:=by omega
  have sT:Sl (λv:Value=>[v]) h1 (YYU tb 1 1) [.slice ox O.length oc]:=Sl.new (enc:=λv:Value=>[v]) (L:=[.slice ox O.length oc]) (e:=22) (op:=false) YYZ Qd 1;obtain⟨b5,o5,hb5,Ux,_,hh5⟩:=sT.ld (λ_=>rfl) 0 (p:=.slice ox O.length oc) rfl;have X4:=λ(β:Type)(fl:β) V=>dH (fl:=fl) hh5 0 V (by show 0<1;omega);simp only[Nat.add_zero]at X4;simp(disch:=try exact Y)only[Wz,s1,g1,hl,dZ (show((0:Nat):Int)<((1:Nat):Int)by decide),R3,Ux,X4,cG (show(O.length:Int)<=32 by omega)];refine⟨λm2 l2 h2=>∃j:Nat,an l2 21=YYX (j:Int)/\m2=O.length-j/\j<=O.length/\(∀(i:Nat) o,i<j->O[i]? = some o->Uq o)/\Le h1 h2,⟨_,0,rfl,rfl,YYZ,YYZ,Le.refl _⟩,?_⟩;rintro m2 l2 h2 ⟨j,s2,rfl,hj,hO2,bE⟩;have n2:=bE.nx;have l2':=bE.lo;have qn:=bE.nx;have qo:=bE.lo;have g1:=(bE.get _ YYZ).trans g1;have X4:∀(β:Type)(fl:β)(V:Value->β),uy fl (h2.bl.get b5) o5 V=V (.slice ox O.length oc):=λβ fl V=>by rw[bE.get b5 hb5];exact X4 β fl V
  unfold RV;by_cases Uk:j<O.length
  .obtain⟨o,ho⟩:∃o,O[j]? = some o:=⟨_,List.getElem?_eq_getElem Uk⟩
   obtain⟨b6,o6,hb6,aeO,aeP⟩:=ajI (so.le ((aS.trans bT).trans bE)) j ho;simp(disch:=try exact Y)only[Wz,s1,s2,g1,Ux,X4,hl,dZ (show(j:Int)<(O.length:Int)by omega),RU,aeO,aeP];refine ajF o h2 YYZ _ ?_ ?_
   .intro ok h3 cL;simp(disch:=try exact Y)only[Wz];refine⟨_,YYZ,j+1,rfl,rfl,YYZ,λi p hi hp=>?_,bE.trans cL⟩;rcases Nat.lt_or_ge i j with h4|h4
    .exact hO2 i p h4 hp
    .obtain rfl:i=j:=by omega
     rw[ho]at hp;cases hp;exact ok
   .intro h3 cL;simp(disch:=try exact Y)only[Wz];exact cZ h3 (((aS.trans bT).trans bE).trans cL)
  .simp(disch:=try exact Y)only[Wz,s1,s2,g1,Ux,X4,hl,cG (show(O.length:Int)<=(j:Int)by omega)];refine⟨_,YYZ,1,rfl,rfl,YYZ,λ_ o ho=>?_,bT.trans bE⟩;obtain⟨i,hi⟩:=List.getElem?_of_mem ho;exact hO2 i o (by have:=(List.getElem?_eq_some_iff.1 hi).1;omega) hi
 .obtain rfl:i=1:=by omega
  have hO:=hO rfl;simp(disch:=try exact Y)only[Wz,s1,g1,hl,cG (show((1:Nat):Int)<=((1:Nat):Int)by decide)];refine⟨λm2 l2 h2=>∃j:Nat,an l2 15=YYX (j:Int)/\m2=P.length-j/\j<=P.length/\Le h1 h2,⟨_,0,rfl,rfl,YYZ,Le.refl _⟩,?_⟩;rintro m2 l2 h2 ⟨j,s2,rfl,hj,bE⟩;have qn:=bE.nx;have qo:=bE.lo;have g1:=(bE.get _ YYZ).trans g1;unfold RZ;by_cases Uk:j<P.length
  .obtain⟨p,hp⟩:∃p,P[j]? = some p:=⟨_,List.getElem?_eq_getElem Uk⟩
   obtain⟨b6,o6,hb6,aeO,aeP,_⟩:=(s.p.le ((aS.trans bT).trans bE)).ld jd j hp;obtain rfl:=hP p (List.mem_of_getElem? hp);simp(disch:=try exact Y)only[Wz,s2,g1,hl,dZ (show(j:Int)<(P.length:Int)by omega),RX,aeO,aeP,fD];refine X2 ?_;simp(disch:=try exact Y)only[Wz];exact⟨_,YYZ,j+1,rfl,rfl,YYZ,bE⟩
  .simp(disch:=try exact Y)only[Wz,s2,g1,hl,cG (show(P.length:Int)<=(j:Int)by omega)];exact iE hO h2 ((aS.trans bT).trans bE)
theorem X5(a0 a1:Value)(h:af)(V:KQ):aW prog 62 [a0,a1] h V=ez prog 3 6 a0 a1 h V:=by kernel_rfl
theorem X6(a0 a1:Value)(h:af)(V:KQ):aW prog 37 [a0,a1] h V=fu prog 3 62 a0 a1 h V:=by kernel_rfl
theorem X7(a0 a1:Value)(h:af)(V:KQ):aW prog 63 [a0,a1] h V=ez prog 3 2 a0 a1 h V:=by kernel_rfl
theorem X8(a0 a1:Value)(h:af)(V:KQ):aW prog 38 [a0,a1] h V=fu prog 3 63 a0 a1 h V:=by kernel_rfl
theorem Uy(h:af)(hlo:h.lo<=h.nx)(vt vp:Value)(O:List vM)(P:List (Int × Int))(s:LG h vt vp O P)(hP:∀p∈P,p=(1,0))(hO:∀o∈O,Uq o)(V:KQ)(iE:∀h',Le h h'->V (YYX 0) h'):aq prog 20 [scV vt vp] h V:=by
 obtain⟨tb,vo,rfl,htb,gt,so⟩:=s.t;obtain⟨px,pc,rfl,_⟩:=(show Sl fD h vp P from s.p)
 have hlP:=s.l.2;have hlO:=s.l.1;obtain⟨ox,oc,rfl,_⟩:=(show Sl iS h vo O from so)
 have hl:∀(β:Type)(fl:β)(n c:Nat)(x:Option Addr)(h':af)(V:YYY β),bF fl (.slice x n c) h' V=V (YYX (n:Int)) h':=λβ fl n c x h' V=>gr _ _ _ _ _;apply YYW;rw[agU];simp(disch:=try exact Y)only[Wz];obtain⟨hA,bg,aS,g1,dP,dQ⟩:=jH h (ah [YYU tb 1 1,.slice px P.length pc,YYX 2,YYX 8,YYX 24,YYX 2] 37 false);rw[<-bg]
 try rw[show(h.bl.bt (h.nx) (ah [YYU tb 1 1,.slice px P.length pc,YYX 2,YYX 8,YYX 24,YYX 2] 37 false))=hA.bl by rw[bg]]
 clear bg;have Qd:=(aS.get tb htb).trans gt;refine X1 ?_;simp(disch:=try exact Y)only[Wz,g1];refine⟨λm l h1=>∃i:Nat,an l 14=YYX (i:Int)/\m=1-i/\i<=1/\Le hA h1,⟨_,0,rfl,rfl,YYZ,Le.refl _⟩,?_⟩;rintro m l h1 ⟨i,s1,rfl,hi,bT⟩;have n1:=bT.nx;have l1:=bT.lo;have Jb:=bT.nx;have Jc:=bT.lo;have g1:=(bT.get _ YYZ).trans g1;have Qd:=(bT.get _ YYZ).trans Qd;unfold MG;by_cases hlt:i<1
 .obtain rfl:i=0:=by omega
  have sT:Sl (λv:Value=>[v]) h1 (YYU tb 1 1) [.slice ox O.length oc]:=Sl.new (enc:=λv:Value=>[v]) (L:=[.slice ox O.length oc]) (e:=22) (op:=false) YYZ Qd 1;obtain⟨b5,o5,hb5,Ux,_,hh5⟩:=sT.ld (λ_=>rfl) 0 (p:=.slice ox O.length oc) rfl;have X4:=λ(β:Type)(fl:β) V=>dH (fl:=fl) hh5 0 V (by show 0<1;omega);simp only[Nat.add_zero]at X4;simp(disch:=try exact Y)only[Wz,s1,g1,hl,dZ (show((0:Nat):Int)<((1:Nat):Int)by decide),MF,Ux,X4,cG (show(O.length:Int)<=32 by omega)];refine i_ mixed encO_len X5 X6 O (λ_=>false) h1 _ _ _ (so.le (aS.trans bT)) YYZ ?_ ?_
  .intro p hp h2 κ2 bE hk2;have n2:=bE.nx;have l2:=bE.lo;simp(disch:=try exact Y)only[Wz,List.nil_append,List.cons_append];apply YYW;rw[ag0];simp(disch:=try exact Y)only[Wz,yj,iS];obtain⟨hB,ig,ct,g2,BX,BZ⟩:=jH h2 (ah [YYX p.k,YYX p.t,YYX p.r,YYX p.m,YYX p.v,YYX p.w] 29 false);rw[<-ig]
   try rw[show(h2.bl.bt (h2.nx) (ah [YYX p.k,YYX p.t,YYX p.r,YYX p.m,YYX p.v,YYX p.w] 29 false))=hB.bl by rw[ig]]
   clear ig;refine ajH p (hO p hp) hB YYZ _ ?_;intro h3 cL;simp(disch:=try exact Y)only[Wz];exact hk2 h3 (ct.trans cL)
  .intro h2 bE;have e:O.any (λ_=>false)=false:=by simp
   rw[e];simp(disch:=try exact Y)only[Wz,s1];exact⟨_,YYZ,1,rfl,rfl,YYZ,bT.trans bE⟩
 .obtain rfl:i=1:=by omega
  simp(disch:=try exact Y)only[Wz,s1,g1,hl,cG (show((1:Nat):Int)<=((1:Nat):Int)by decide)];refine i_ mixed jd X7 X8 P (λ_=>false) h1 _ _ _ (s.p.le (aS.trans bT)) YYZ ?_ ?_
  .intro p hp h2 κ2 bE hk2;obtain rfl:=hP p hp;simp(disch:=try exact Y)only[Wz,List.nil_append,List.cons_append];apply YYW;rw[ag3];simp(disch:=try exact Y)only[Wz,yj,fD];refine X3 ?_;simp(disch:=try exact Y)only[Wz];exact hk2 _ ((Le.refl h2).new _)
  .intro h2 bE;have e:P.any (λ_=>false)=false:=by simp
   rw[e];simp(disch:=try exact Y)only[Wz];exact iE h2 ((aS.trans bT).trans bE)
def aoS:Option CR->Int|some c=>c.out|none=>0
theorem Uz{h:af}{A:WA}{a:TA}{N:Nat}{d:TD}{R:RD}(s:WS h A a N d R){i:Nat}{o:Option CR}(hi:R.cs[i]? = some o)(V:KQ)(hk:V (YYX (aoS o)) h):aq prog 100 [YYV A.wb,YYX (i:Int)] h V:=by
 apply YYW;rw[aa1];refine ZO s hi _ ?_;cases o with
 |none=>
  simp(disch:=try exact Y)only[Wz,Ev,Option.map_none,Option.isSome_none];exact hk
 |some c=>
  have gc:=(s.r.ca c (List.mem_of_getElem? hi)).2.2;simp(disch:=try exact Y)only[Wz,Ev,Option.map_some,Option.isSome_some];simp(disch:=try exact Y)only[Wz,aJ,dV,gc,c_];exact hk
section
variable {h h':af}{E:EN}{G:GT}{N n:Nat}{y:fE}{out:Int}{D:AD}{kb:Nat}{c:CD}
theorem X9{A:WA}{a:TA}{x:fE}(s:WJ h A a G N n x out)(V:KQ)(hk:V (YYX (if n=1 then out else 0)) h):aq prog 100 [YYV A.wb,YYX ((0:Nat):Int)] h V:=by
 obtain⟨⟨d,R,N0,s1,s2,s3,s4,s5,s6,sc,t⟩,s7,s8⟩:=s;rcases t with⟨rfl,hi,_⟩|⟨c,k,k2,hi,ha,hw,tX,hst,hs2,hm,ho,t⟩
 .rw[if_neg YYQ]at hk;exact Uz s1 hi _ hk
 .refine Uz s1 hi _ ?_;rcases t with⟨rfl,_,_,h0⟩|⟨rfl,_,_,h0⟩|⟨rfl,_,_,h0,_⟩
  .rw[if_neg YYQ,<-h0]at hk;exact hk
  .rw[if_neg YYQ,<-h0]at hk;exact hk
  .rw[if_pos rfl,<-h0]at hk;exact hk
theorem qg(s:AW h E G N n y out D kb c)(V:KQ)(h1:c.code≠0->V (YYX c.code) h)(h2:c.code=0->c.k=3/\c.seen=true->V (YYX 1) h)(h3:c.code=0->¬(c.k=3/\c.seen=true)->(if n=1 then out else 0)=0->V (YYX 0) h)(h4:c.code=0->¬(c.k=3/\c.seen=true)->n=1->out≠0->fq prog c.tQ [YYX out] h V):aq prog 83 [pt E.z.ab] h V:=by
 obtain⟨va,vh,ga,_,_⟩:=s.ag;obtain⟨vn,vg,gk,_,_⟩:=s.c.g;have hw:=s.w;unfold cE at gk;apply YYW;rw[ahr];refine mW s _ ?_;by_cases c1:c.code=0
 .by_cases c2:c.k=3/\c.seen=true
  .obtain⟨c3,c4⟩:=c2;simp(disch:=try exact Y)only[Wz,uJ,yS,aJ,ga,gk,bf c1,bf c3,c4];exact h2 c1 ⟨c3,c4⟩
  ·have tail:D9 (pt E.z.ab) (pt kb) h V:=by
    unfold D9;simp(disch:=try exact Y)only[Wz,aJ,ga,gk];refine X9 hw _ ?_;by_cases h0:(if n=1 then out else 0)=0
    .rw[h0];simp(disch:=try exact Y)only[Wz];exact h3 c1 c2 h0
    .have hn:n=1:=Classical.byContradiction λe=>h0 (if_neg e);rw[if_pos hn]at h0 ⊢;simp(disch:=try exact Y)only[Wz,aZ h0,aJ,gk];exact h4 c1 c2 hn h0
   by_cases c3:c.k=3
   ·have c4:c.seen=false:=by
     cases e:c.seen with
     |false=>rfl
     |true=>exact absurd ⟨c3,e⟩ c2
    simp(disch:=try exact Y)only[Wz,uJ,yS,aJ,ga,gk,bf c1,bf c3,c4];exact tail
   .simp(disch:=try exact Y)only[Wz,uJ,yS,aJ,ga,gk,bf c1,aZ c3];exact tail
 .simp(disch:=try exact Y)only[Wz,uJ,aJ,ga,gk,aZ c1];exact h1 c1
theorem Jr(o:Int){h:af}{V:KQ}(hk:V (YYX (if o=0 then 0 else 1)) h):aq prog 128 [YYX o] h V:=by
 apply YYW;rw[abh];by_cases h0:o=0
 .rw[if_pos h0]at hk;simp(disch:=try exact Y)only[Wz,bf h0];exact hk
 .rw[if_neg h0]at hk;simp(disch:=try exact Y)only[Wz,aZ h0];exact hk
end
end Go.Proofs
