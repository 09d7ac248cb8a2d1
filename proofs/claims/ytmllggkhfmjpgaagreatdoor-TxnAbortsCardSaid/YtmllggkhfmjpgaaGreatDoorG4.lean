/-
  PROVED HERE: a part of the proof (K0, K1, K2, K3, K4, K5, K6, K7, K8, K9, K10, K11, K12, K13, K14, K15, K16, K17, K18, K19, K20, K21, K22, K23, K24, K25).
-/
import Derived.Test.YtmllggkhfmjpgaaGreatDoorG3
import Derived.Test.YtmllggkhfmjpgaaGreatDoorRZ
set_option linter.unusedVariables false
set_option linter.unusedSimpArgs false
set_option maxRecDepth 100000
namespace Go.Proofs
open Go.Vai Go.Clashes
open Tryz (prog)
theorem mixed:prog.follows .mixedOrders=true:=by kernel_rfl
theorem X9{f args h V}(g : aV prog f args h V):av prog f args h V := aG mixed g
def dg(t r:Int):Value:=.agg ⟨[X8 t,X8 r]⟩
theorem akL:∀i,i<7->∀j,j<7->bR prog 200 299 [X8 (.ofNat i),X8 (.ofNat j)] (.bool (cmp (.ofNat i) (.ofNat j)))=true:=by decide +kernel
theorem akM(n:Nat)(b:Int):bR prog 200 299 [X8 (.negSucc n),X8 b] (.bool false)=true:=by kernel_rfl
theorem akN(n:Nat)(b:Int):bR prog 200 299 [X8 (.ofNat (n+7)),X8 b] (.bool false)=true:=by kernel_rfl
theorem akO:∀i,i<7->∀n:Nat,bR prog 200 299 [X8 (.ofNat i),X8 (.negSucc n)] (.bool false)=true:=by
 refine seven ?_ ?_ ?_ ?_ ?_ ?_ ?_<;>intro n<;>kernel_rfl
theorem akP:∀i,i<7->∀n:Nat,bR prog 200 299 [X8 (.ofNat i),X8 (.ofNat (n+7))] (.bool false)=true:=by
 refine seven ?_ ?_ ?_ ?_ ?_ ?_ ?_<;>intro n<;>kernel_rfl
theorem T9(a b:Int){h:af}{V:KQ}(hk:V (.bool (cmp a b)) h):av prog 299 [X8 a,X8 b] h V:=
 tj mixed (F:=λa b=>.bool (cmp a b)) akL (λn b=>by rw[S_ (xO n)];exact akM n b) (λn b=>by rw[S_ (xP n)];exact akN n b) (λi hi n=>by rw[aaC (xO n)];exact akO i hi n) (λi hi n=>by rw[aaC (xP n)];exact akP i hi n) a b hk
theorem akQ:∀i,i<7->∀j,j<7->bR prog 200 178 [X8 (.ofNat i),X8 (.ofNat j)] (.bool (mU (.ofNat i) (.ofNat j)))=true:=by decide +kernel
theorem akR(n:Nat)(b:Int):bR prog 200 178 [X8 (.negSucc n),X8 b] (.bool false)=true:=by kernel_rfl
theorem akS(n:Nat)(b:Int):bR prog 200 178 [X8 (.ofNat (n+7)),X8 b] (.bool false)=true:=by kernel_rfl
theorem akT:∀i,i<7->∀n:Nat,bR prog 200 178 [X8 (.ofNat i),X8 (.negSucc n)] (.bool false)=true:=by
 refine seven ?_ ?_ ?_ ?_ ?_ ?_ ?_<;>intro n<;>kernel_rfl
theorem akU:∀i,i<7->∀n:Nat,bR prog 200 178 [X8 (.ofNat i),X8 (.ofNat (n+7))] (.bool false)=true:=by
 refine seven ?_ ?_ ?_ ?_ ?_ ?_ ?_<;>intro n<;>kernel_rfl
theorem qk(a b:Int){h:af}{V:KQ}(hk:V (.bool (mU a b)) h):av prog 178 [X8 a,X8 b] h V:=
 tj mixed (F:=λa b=>.bool (mU a b)) akQ (λn b=>by rw[aaA (xO n)];exact akR n b) (λn b=>by rw[aaA (xP n)];exact akS n b) (λi hi n=>by rw[aaB (xO n)];exact akT i hi n) (λi hi n=>by rw[aaB (xP n)];exact akU i hi n) a b hk
theorem akV:∀i,i<7->∀j,j<7->bR prog 200 129 [X8 (.ofNat i),X8 (.ofNat j)] (X8 (bZ (.ofNat i) (.ofNat j)))=true:=by decide +kernel
theorem akW(n:Nat)(b:Int):bR prog 200 129 [X8 (.negSucc n),X8 b] (X8 0)=true:=by kernel_rfl
theorem akX(n:Nat)(b:Int):bR prog 200 129 [X8 (.ofNat (n+7)),X8 b] (X8 0)=true:=by kernel_rfl
theorem akY:∀i,i<7->∀n:Nat,bR prog 200 129 [X8 (.ofNat i),X8 (.negSucc n)] (X8 0)=true:=by
 refine seven ?_ ?_ ?_ ?_ ?_ ?_ ?_<;>intro n<;>kernel_rfl
theorem akZ:∀i,i<7->∀n:Nat,bR prog 200 129 [X8 (.ofNat i),X8 (.ofNat (n+7))] (X8 0)=true:=by
 refine seven ?_ ?_ ?_ ?_ ?_ ?_ ?_<;>intro n<;>kernel_rfl
theorem yR(a b:Int){h:af}{V:KQ}(hk:V (X8 (bZ a b)) h):av prog 129 [X8 a,X8 b] h V:=
 tj mixed (F:=λa b=>X8 (bZ a b)) akV (λn b=>by rw[S8 (xO n)];exact akW n b) (λn b=>by rw[S8 (xP n)];exact akX n b) (λi hi n=>by rw[S9 (xO n)];exact akY i hi n) (λi hi n=>by rw[S9 (xP n)];exact akZ i hi n) a b hk
theorem qW(a:Int){h:af}{V:KQ}(hk:V (.bool (kn a)) h):av prog 103 [X8 a] h V:=by
 refine jL (v:=.bool (kn a)) rfl rfl (aG mixed ?_) hk;rw[acu];by_cases h1:a<0
 .simp(disch:=try exact Y)only[Wz];simp[kn];omega
 .by_cases h2:6<a
  .simp(disch:=try exact Y)only[Wz];simp[kn];omega
  .simp(disch:=try exact Y)only[Wz];simp[kn];omega
abbrev nP(r:R5):Value:=.agg ⟨bT r⟩
noncomputable abbrev mV(r:R5):bP:=aj [X8 r.id,X8 r.x,X8 r.m,X8 r.w,X8 r.s] 57 false
def zR:List Value:=[X8 0,X8 0,X8 0,X8 0,X8 0]
theorem arC:DX prog 53:=⟨λh n c n' c'=>by kernel_rfl,λh a n c n' c'=>by kernel_rfl⟩
theorem T_(a0 a1:Value)(h:af)(V:KQ):aV prog 363 [a0,a1] h V=fC prog 3 5 a0 a1 h V:=by kernel_rfl
theorem ak0(a0 a1:Value)(h:af)(V:KQ):aV prog 421 [a0,a1] h V=kf prog 3 363 a0 a1 h V:=by kernel_rfl
theorem ak1(a0:Value)(h:af)(V:KQ):aV prog 165 [a0] h V=vK prog 53 57 5 zR a0 h V:=by kernel_rfl
theorem ak2(a0 a1:Value)(h:af)(V:KQ):aV prog 415 [a0,a1] h V=fm prog 3 363 57 5 zR a0 a1 h V:=by kernel_rfl
theorem BJ(L:List R5)(F:R5->Bool)(h:af)(v fv:Value)(V:KQ)(hv:Sl bT h v L)(hlen:L.length<=1000000)(hF:∀p,p∈L->∀(h1:af)(κ1:Value->af->Prop),Le h h1->(∀h2,Le h1 h2->κ1 (.bool (F p)) h2)->gu prog fv [nP p] h1 κ1)(hk:∀h',Le h h'->V (X8 (gY (L.findIdx? F))) h'):av prog 363 [v,fv] h V:=
 nO mixed dm T_ L F h v fv V hv hlen hF hk
theorem oL(L:List R5)(F:R5->Bool)(h:af)(v fv:Value)(V:KQ)(hv:Sl bT h v L)(hlen:L.length<=1000000)(hF:∀p,p∈L->∀(h1:af)(κ1:Value->af->Prop),Le h h1->(∀h2,Le h1 h2->κ1 (.bool (F p)) h2)->gu prog fv [nP p] h1 κ1)(hk:∀h',Le h h'->V (.bool (L.any F)) h'):av prog 421 [v,fv] h V:=
 ug mixed dm T_ ak0 L F h v fv V hv hlen hF hk
abbrev zq(a h:af)(v:Value)(L:List R5):Prop:=Own bT a 57 h v L
theorem Jm(L:List R5)(h:af)(v:Value)(V:KQ)(hv:Sl bT h v L)(hlen:L.length<=1000000)(hlo:h.lo<=h.nx)(hk:∀v' h',zq h h' v' L->Le h h'->V v' h'):av prog 165 [v] h V:=
 LB mixed dm A4 X7 X7 arC ak1 L h v V hv hlen hlo hk
theorem P7(a h:af)(L:List R5)(F:R5->Bool)(v fv:Value)(V:KQ)(hle:Le a h)(ho:zq a h v L)(hlen:L.length<=100000)(hlo:a.lo<=a.nx)(hF:∀p,∀(h1:af)(κ1:Value->af->Prop),Le a h1->(h.nx<=h1.nx/\∀c,c<h.nx->h.bl.get c≠some (aj (L.flatMap bT) 57 true)->h1.bl.get c=h.bl.get c)->(∀h2,Le h1 h2->κ1 (.bool (F p)) h2)->gu prog fv [nP p] h1 κ1)(hk:∀v' h',Sl bT h' v' (L.filter λp=>!F p)->Cut 57 5 h' v' (L.filter λp=>!F p).length->Le a h'->(h.nx<=h'.nx/\∀c,c<h.nx->h.bl.get c≠some (aj (L.flatMap bT) 57 true)->h'.bl.get c=h.bl.get c)->zQ 57 h' v'->V v' h'):av prog 415 [v,fv] h V:=
 uI mixed dm A4 X7 rfl rfl X7 T_ ak2 a h L F v fv V hle ho hlen hlo hF hk
theorem WJ{h:af}{v:Value}{L:List R5}(hs:Sl bT h v L)(i:Nat){p:R5}(hp:L[i]? = some p):∃b o,b<h.nx/\(∀(β:Type)(fl:β)(h':af)(V:X3 β),aO fl 5 v (X8 (i:Int)) h' V=V (.pointer (some ⟨b,o,none⟩)) h')/\
   ((∀(β:Type)(fl:β)(V:List Value->β),xI fl (h.bl.get b) o 5 V=V (bT p))/\
   (∀(β:Type)(fl:β)(V:Value->β),w8 fl (h.bl.get b) o V=V (X8 p.id))/\
   (∀(β:Type)(fl:β)(V:Value->β),w8 fl (h.bl.get b) (o+1) V=V (X8 p.x))/\
   (∀(β:Type)(fl:β)(V:Value->β),w8 fl (h.bl.get b) (o+2) V=V (X8 p.m))/\
   (∀(β:Type)(fl:β)(V:Value->β),w8 fl (h.bl.get b) (o+3) V=V (X8 p.w))/\
   (∀(β:Type)(fl:β)(V:Value->β),w8 fl (h.bl.get b) (o+4) V=V (X8 p.s))):=by
 obtain⟨b,o,h1,h2,h3,hh⟩:=hs.ld dm i hp;have h5:(bT p).length=5:=rfl;exact⟨b,o,h1,h2,h3,λβ fl V=>eU (fl:=fl) hh 0 V X1,λβ fl V=>eU (fl:=fl) hh 1 V X1,λβ fl V=>eU (fl:=fl) hh 2 V X1,λβ fl V=>eU (fl:=fl) hh 3 V X1,λβ fl V=>eU (fl:=fl) hh 4 V X1⟩
theorem Fm(r:R5){h:af}{V:KQ}(hk:V (.bool (decide (r.m≠0))) h):av prog 319 [nP r] h V:=by
 refine jL (v:=.bool (decide (r.m≠0))) rfl rfl (aG mixed ?_) hk;rw[aed];simp(disch:=try exact Y)only[Wz,bT];simp
theorem Fo(r:R5){h:af}{V:KQ}(hk:V (.bool (decide (0<r.s))) h):av prog 238 [nP r] h V:=by
 refine jL (v:=.bool (decide (0<r.s))) rfl rfl (aG mixed ?_) hk;rw[adL];simp(disch:=try exact Y)only[Wz,bT]
theorem BK(r:R5){h:af}{V:KQ}(hk:V (.bool (yO r)) h):av prog 320 [nP r] h V:=by
 refine jL (v:=.bool (yO r)) rfl rfl (aG mixed ?_) hk;rw[aee];simp(disch:=try exact Y)only[Wz,bT];refine Fm r ?_;by_cases h1:r.m=0
 .simp(disch:=try exact Y)only[Wz,bf (show ¬r.m≠0 by omega)];simp[yO,h1]
 .simp(disch:=try exact Y)only[Wz,bz (show r.m≠0 from h1)];refine Fo r ?_;simp[yO,h1]
theorem Jn(m:Int){h:af}{V:KQ}(hk:V (.bool (cE m)) h):av prog 420 [X8 m] h V:=by
 refine jL (v:=.bool (cE m)) rfl rfl (aG mixed ?_) hk;rw[aeQ];by_cases h0:m=0
 .simp(disch:=try exact Y)only[Wz,bz h0];simp[cE,h0]
 .simp(disch:=try exact Y)only[Wz,bf h0];refine qW m ?_;simp[cE,h0]
def lF(t r:Int)(q:Value)(w:Int):Value:=.agg ⟨[X8 t,X8 r,q,X8 w]⟩
theorem BL{h:af}{q:Value}{Q:List R5}(hq:Sl bT h q Q):q.cells.toList=[q]/\ef q=true:=by
 obtain⟨x,cap,rfl,_⟩:=hq;exact⟨rfl,rfl⟩
theorem Ua(id:Int)(r:R5)(b:Nat)(h:af)(V:KQ)(hlo:h.lo<=h.nx)(hb:b<h.nx)(hg:h.bl.get b=some (aj [X8 id] 3 false))(hk:∀h',Le h h'->V (.bool (cZ id r)) h'):av prog 364 [nP r,ax b] h V:=by
 have hk:=hk _ ((Le.refl h).new (mV r));apply X9;rw[aev];simp(disch:=try exact Y)only[Wz,bT,hg];exact hk
theorem vZ(t r:Int)(q:Value)(w id:Int)(Q:List R5)(h:af)(V:KQ)(hq:Sl bT h q Q)(hlen:Q.length<=1000000)(hlo:h.lo<=h.nx)(hk:∀h',Le h h'->V (X8 (gY (Q.findIdx? (cZ id)))) h'):av prog 318 [lF t r q w,X8 id] h V:=by
 obtain⟨hc,ho⟩:=BL hq;apply X9;rw[aec];simp(disch:=try exact Y)only[Wz,lF];obtain⟨hA,eA⟩:∃hA:af,hA=⟨h.nx+1+1,(h.bl.a_ h.nx (aj [X8 t,X8 r,q,X8 w] 401 false)).a_ (h.nx+1) (aj [X8 id] 3 false),h.lo⟩:=⟨_,rfl⟩
 have nQ:Le h hA:=by subst eA;exact((Le.refl h).new _).new _
 have g3:hA.bl.get (h.nx+1)=some (aj [X8 id] 3 false):=by subst eA;exact T.ay _ _ _
 have nA:hA.nx=h.nx+1+1:=by subst eA;rfl
 have lA:hA.lo=h.lo:=by subst eA;rfl
 rw[<-eA];clear eA;refine BJ Q (cZ id) hA q _ _ (hq.le nQ) hlen ?_ λh' hl=>hk h' (nQ.trans hl);intro p hp h1 κ1 rJ dZ;have n1:=rJ.nx;have l1:=rJ.lo;simp(disch:=try exact Y)only[Wz,List.nil_append,List.cons_append];exact Ua id p (h.nx+1) h1 κ1 X1 X1 ((rJ.get _ X1).trans g3) dZ
def yS(r o:R5):Bool:=decide (o.id≠r.id) && decide (o.m≠0) && !cmp o.m r.w
theorem Yd(r o:R5)(b:Nat)(h:af)(V:KQ)(hlo:h.lo<=h.nx)(hb:b<h.nx)(hg:h.bl.get b=some (mV r))(hk:∀h',Le h h'->V (.bool (yS r o)) h'):av prog 433 [nP o,ax b] h V:=by
 have hk:=hk _ ((Le.refl h).new (mV o));apply X9;rw[aeT];by_cases h1:o.id=r.id
 .simp(disch:=try exact Y)only[Wz,bT,hg,bz h1];have e:yS r o=false:=by simp[yS,h1]
  rw[e]at hk;exact hk
 .simp(disch:=try exact Y)only[Wz,bT,hg,bf h1];refine Fm o ?_;by_cases h2:o.m=0
  .simp(disch:=try exact Y)only[Wz,bf (show ¬o.m≠0 by omega)];have e:yS r o=false:=by simp[yS,h2]
   rw[e]at hk;exact hk
  .simp(disch:=try exact Y)only[Wz,bz (show o.m≠0 from h2),hg];refine T9 _ _ ?_;simp(disch:=try exact Y)only[Wz];have e:yS r o=!cmp o.m r.w:=by simp[yS,h1,h2]
   rw[e]at hk;exact hk
theorem Fp(t r':Int)(q:Value)(w:Int)(r:R5)(Q:List R5)(h:af)(V:KQ)(hq:Sl bT h q Q)(hlen:Q.length<=1000000)(hlo:h.lo<=h.nx)(hk:∀h',Le h h'->V (.bool (iY Q r)) h'):av prog 417 [lF t r' q w,nP r] h V:=by
 obtain⟨hc,ho⟩:=BL hq;apply X9;rw[aeN];simp(disch:=try exact Y)only[Wz,lF,bT];obtain⟨hA,eA⟩:∃hA:af,hA=⟨h.nx+1+1,(h.bl.a_ h.nx (aj [X8 t,X8 r',q,X8 w] 401 false)).a_ (h.nx+1) (mV r),h.lo⟩:=⟨_,rfl⟩
 have nQ:Le h hA:=by subst eA;exact((Le.refl h).new _).new _
 have g3:hA.bl.get (h.nx+1)=some (mV r):=by subst eA;exact T.ay _ _ _
 have nA:hA.nx=h.nx+1+1:=by subst eA;rfl
 have lA:hA.lo=h.lo:=by subst eA;rfl
 rw[<-eA];clear eA;refine oL Q (yS r) hA q _ _ (hq.le nQ) hlen ?_ ?_
 .intro p hp h1 κ1 rJ dZ;have n1:=rJ.nx;have l1:=rJ.lo;simp(disch:=try exact Y)only[Wz,List.nil_append,List.cons_append];exact Yd r p (h.nx+1) h1 κ1 X1 X1 ((rJ.get _ X1).trans g3) dZ
 .intro h' hl;simp(disch:=try exact Y)only[Wz];exact hk h' (nQ.trans hl)
theorem Ub(r:R5){h:af}{V:KQ}(hk:V (.bool (decide (r.m=0))) h):av prog 434 [nP r] h V:=by
 refine jL (v:=.bool (decide (r.m=0))) rfl rfl (aG mixed ?_) hk;rw[aeU];simp(disch:=try exact Y)only[Wz,bT];refine Fm r ?_;simp(disch:=try exact Y)only[Wz];simp
theorem Jo(t r':Int)(q:Value)(w:Int)(Q:List R5)(h:af)(V:KQ)(hq:Sl bT h q Q)(hlen:Q.length<=1000000)(hlo:h.lo<=h.nx)(hk:∀h',Le h h'->V (X8 (gY (fE Q))) h'):av prog 418 [lF t r' q w] h V:=by
 obtain⟨hc,ho⟩:=BL hq;apply X9;rw[aeO];simp(disch:=try exact Y)only[Wz,lF];obtain⟨hA,eA⟩:∃hA:af,hA=⟨h.nx+1,h.bl.a_ h.nx (aj [X8 t,X8 r',q,X8 w] 401 false),h.lo⟩:=⟨_,rfl⟩
 have nQ:Le h hA:=by subst eA;exact(Le.refl h).new _
 have gA:hA.bl.get h.nx=some (aj [X8 t,X8 r',q,X8 w] 401 false):=by subst eA;exact T.ay _ _ _
 have nA:hA.nx=h.nx+1:=by subst eA;rfl
 have lA:hA.lo=h.lo:=by subst eA;rfl
 rw[<-eA];clear eA;simp(disch:=try exact Y)only[Wz,hq.len];refine⟨λn l h1=>∃i:Nat,ah l 27=X8 (i:Int)/\ah l 25=X8 (gY (best Q i))/\i<=Q.length/\n=Q.length-i/\Le hA h1,⟨_,0,rfl,rfl,Nat.zero_le _,rfl,Le.refl _⟩,?_⟩;rintro n l h1 ⟨i,s1,s2,hi,rfl,hle⟩;have n1:=hle.nx;have l1:=hle.lo;have g1:=(hle.get h.nx X1).trans gA;have hq1:=hq.le (nQ.trans hle);by_cases hlt:i<Q.length
 .obtain⟨p,hp⟩:∃p,Q[i]? = some p:=⟨_,List.getElem?_eq_getElem hlt⟩
  obtain⟨b,o,hb,pg,qg⟩:=WJ hq1 i hp;have OD:best Q (i+1)=if(yO p && DY Q p (best Q i))=true then some i else best Q i:=by
   show(match Q[i]? with|some r=>_|none=>_)=_
   rw[hp]
  simp(disch:=try exact Y)only[Wz,s1,BH];refine⟨λl' h'=>ah l' 24=X8 (gY (best Q (i+1)))/\Le hA h',?_,?_⟩
  .simp(disch:=try exact Y)only[Wz,Jk,s1,s2,pg,qg,bT];obtain⟨hB,eB⟩:∃hB:af,hB=⟨h1.nx+1,h1.bl.a_ h1.nx (mV p),h1.lo⟩:=⟨_,rfl⟩
   have uP:Le h1 hB:=by subst eB;exact(Le.refl h1).new _
   have gB:hB.bl.get h1.nx=some (mV p):=by subst eB;exact T.ay _ _ _
   have gB1:=(uP.get h.nx X1).trans g1;have nB:hB.nx=h1.nx+1:=by subst eB;rfl
   have lB:hB.lo=h1.lo:=by subst eB;rfl
   rw[<-eB];clear eB;refine BK p ?_;cases hu:yO p with
   |false=>
    simp(disch:=try exact Y)only[Wz,s2];refine⟨?_,hle.trans uP⟩;rw[OD,hu];simp[s2]
   |true=>
    cases zu:best Q i with
    |none=>
     simp(disch:=try exact Y)only[Wz,s2,gY,f_ (show(-1:Int)<0 by decide),zu];refine⟨?_,hle.trans uP⟩;rw[OD,hu,zu];rfl
    |some k=>
     obtain⟨hkl,pk,hpk,_⟩:=NF Q i k zu;obtain⟨b',o',hb',arE,arF⟩:=WJ (hq1.le uP) k hpk;have aaJ:DY Q p (some k)=decide (p.s<pk.s):=by simp only[DY,hpk]
     simp(disch:=try exact Y)only[Wz,s2,gY,d_ (show(0:Int)<=(k:Int)by omega),zu,gB,gB1,arE,arF];by_cases hs:p.s<pk.s
     .simp(disch:=try exact Y)only[Wz,bz hs];refine⟨?_,hle.trans uP⟩;rw[OD,hu,zu,aaJ,bz hs];rfl
     .simp(disch:=try exact Y)only[Wz,bf hs];refine⟨?_,hle.trans uP⟩;rw[OD,hu,zu,aaJ,bf hs]
      first|rfl|(rw[s2,zu];rfl)
  .rintro l' h' ⟨k1,k2⟩;exact⟨_,X1,i+1,rfl,k1,X1,rfl,k2⟩
 .have hil:i=Q.length:=by omega
  subst hil;simp(disch:=try exact Y)only[Wz,s1,BH];refine⟨λl' h'=>ah l' 6=X8 (gY (fE Q))/\Le hA h',?_,?_⟩
  rotate_left
  .rintro l' h' ⟨k1,k2⟩
   show V (ah l' 6) h'
   rw[k1];exact hk h' (nQ.trans k2)
  cases zu:best Q Q.length with
  |some k=>
   have e:fE Q=some k:=by simp only[fE,zu]
   simp(disch:=try exact Y)only[Wz,BG,s2,zu,gY,d_ (show(0:Int)<=(k:Int)by omega)];refine⟨?_,hle⟩;rw[e]
  |none=>
   have e:fE Q=Q.findIdx? (λr=>decide (r.m=0)):=by simp only[fE,zu]
   simp(disch:=try exact Y)only[Wz,BG,s2,zu,gY,f_ (show(-1:Int)<0 by decide),g1];refine BJ Q (λr=>decide (r.m=0)) h1 q _ _ hq1 hlen ?_ ?_
   .intro p hp h2 κ2 tg hk2;simp(disch:=try exact Y)only[Wz,List.nil_append,List.append_nil];exact Ub p (hk2 h2 (Le.refl _))
   .intro h' hl;refine⟨?_,hle.trans hl⟩;rw[e];rfl
theorem Own.base{α:Type}{enc:α->List Value}{a a' h:af}{e:TypeId}{v:Value}{L:List α}(ho:Own enc a e h v L)(hn:a'.nx<=a.nx):Own enc a' e h v L:=by
 rcases ho with ho|⟨b,h0,h1,h2⟩
 .exact .inl ho
 .exact .inr ⟨b,h0,Nat.le_trans hn h1,h2⟩
theorem Own.same{α:Type}{enc:α->List Value}{a h h':af}{e:TypeId}{v:Value}{L:List α}(ho:Own enc a e h v L)(hn:h.nx<=h'.nx)(hl:h'.lo=h.lo)(hs:∀b,a.nx<=b->b<h.nx->h'.bl.get b=h.bl.get b):Own enc a e h' v L:=by
 rcases ho with ho|⟨b,h0,h1,h2,h3,h4⟩
 .exact .inl ho
 .exact .inr ⟨b,h0,h1,Nat.lt_of_lt_of_le h2 hn,by rw[hl];exact h3,by rw[hs b h1 h2];exact h4⟩
theorem Jp(t r:Int)(q:Value)(w:Int)(Q:List R5)(h:af)(V:KQ)(hq:Sl bT h q Q)(hlen:Q.length<=1000000)(hlo:h.lo<=h.nx)(hk:∀q' h',zq h h' q' Q->Le h h'->V (lF t r q' w) h'):av prog 391 [lF t r q w] h V:=by
 obtain⟨qx,qc,rfl,_⟩:=id hq;apply X9;rw[aeB];simp(disch:=try exact Y)only[Wz,lF];obtain⟨hA,eA⟩:∃hA:af,hA=⟨h.nx+1+1,(h.bl.a_ h.nx (aj [X8 t,X8 r,.slice qx Q.length qc,X8 w] 55 false)).a_ (h.nx+1) (aj [X8 0,X8 0,.slice none 0 0,X8 0] 401 false),h.lo⟩:=⟨_,rfl⟩
 have nQ:Le h hA:=by subst eA;exact((Le.refl h).new _).new _
 have g1:hA.bl.get h.nx=some (aj [X8 t,X8 r,.slice qx Q.length qc,X8 w] 55 false):=by subst eA;exact(T.aD _ _ X1).trans (T.ay _ _ _)
 have g3:hA.bl.get (h.nx+1)=some (aj [X8 0,X8 0,.slice none 0 0,X8 0] 401 false):=by subst eA;exact T.ay _ _ _
 have nA:hA.nx=h.nx+1+1:=by subst eA;rfl
 have lA:hA.lo=h.lo:=by subst eA;rfl
 rw[<-eA];clear eA;refine Jm Q hA _ _ (hq.le nQ) hlen X1 ?_;intro q' h2 nJ hle2;have n2:=hle2.nx;have l2:=hle2.lo;have g12:=(hle2.get h.nx X1).trans g1;have WL:=(hle2.get (h.nx+1) X1).trans g3;have hle:=(nQ.trans hle2)
 obtain⟨qx',qc',rfl,_⟩:=id nJ.sl;simp(disch:=try exact Y)only[Wz,g12,WL];refine hk _ _ ?_ ?_
 .refine Own.base (Own.same nJ (Nat.le_refl _) rfl λb h1 _=>?_) X1;exact(T.aD _ _ X1).trans (T.aD _ _ X1)
 .exact(hle.set (b:=h.nx) (Nat.le_refl _) _).set (b:=h.nx+1) (Nat.le_succ _) _
def sx(id x:Int)(r:R5):Bool:=decide (r.id=id) || decide (r.x=x)
theorem aeZ(id x:Int)(r:R5)(b3 b5:Nat)(h:af)(V:KQ)(hlo:h.lo<=h.nx)(hb3:b3<h.nx)(hb5:b5<h.nx)(hg3:h.bl.get b3=some (aj [X8 id] 3 false))(hg5:h.bl.get b5=some (aj [X8 x] 3 false))(hk:∀h',Le h h'->V (.bool (sx id x r)) h'):av prog 422 [nP r,ax b3,ax b5] h V:=by
 have hk:=hk _ ((Le.refl h).new (mV r));apply X9;rw[aeR];by_cases h1:r.id=id
 .simp(disch:=try exact Y)only[Wz,bT,hg3,hg5,bz h1];have e:sx id x r=true:=by simp[sx,h1]
  rw[e]at hk;exact hk
 .simp(disch:=try exact Y)only[Wz,bT,hg3,hg5,bf h1];have e:sx id x r=decide (r.x=x):=by simp[sx,h1]
  rw[e]at hk;exact hk
theorem Own.put{α:Type}{enc:α->List Value}{a h:af}{e:TypeId}{v:Value}{L:List α}(ho:Own enc a e h v L){c:Nat}(hc:h.bl.get c≠some (aj (L.flatMap enc) e true))(o:bP):Own enc a e ⟨h.nx,h.bl.a_ c o,h.lo⟩ v L:=by
 rcases ho with ho|⟨b,h0,h1,h2,h3,h4⟩
 .exact .inl ho
 .refine .inr ⟨b,h0,h1,h2,h3,(T.aD _ _ ?_).trans h4⟩;rintro rfl;exact hc h4
theorem Uc(t r:Int)(qx:Option Addr)(qc:Nat)(w:Int)(p:R5)(g:Bool)(CF P6 b7:Nat)(Q:List R5)(a h:af)(V:KQ)(ho:zq a h (.slice qx Q.length qc) Q)(hle:Le a h)(hlen:Q.length<=100000)(hlo:h.lo<=h.nx)(arG:CF<h.nx)(axG:P6<h.nx)(hb7:b7<h.nx)(hd:CF≠b7)(axH:h.lo<=CF)(hl7:h.lo<=b7)(g29:h.bl.get CF=some (aj [X8 t,X8 r,.slice qx Q.length qc,X8 w] 401 false))(g35:h.bl.get P6=some (mV p))(g7:h.bl.get b7=some (aj [X8 0,X8 0,.slice none 0 0,X8 0] 55 false))(hk:∀q' h',zq a h' q' (Q++[p])->(h.nx<=h'.nx/\h'.lo=h.lo/\∀b,b<a.nx->b≠CF->b≠b7->h'.bl.get b=a.bl.get b)->V (.tuple ⟨[lF t r q' w,.bool g,X8 0]⟩) h'):vY CF P6 b7 (.bool g) h V:=by
 simp(disch:=try exact Y)only[Wz,vY,g29,g35];have hle1:=(Le.refl h).new (mV p);refine jM (enc:=bT) (a:=a) (L:=Q) (M:=[p]) dm A4 X7 X7 (ho.le hle1) (Sl.new (L:=[p]) (e:=57) (op:=false) (Nat.lt_succ_self _) (T.ay _ _ _) _) (hle.new _) (by simp;omega) (by show h.lo<=h.nx+1;omega) _ ?_;intro v' h' ho' hle' zi hn2 hl' hsame;obtain⟨qx',qc',rfl,_⟩:=(show Sl bT h' v' (Q++[p])from ho'.sl)
 have n1:h.nx+1<=h'.nx:=hn2;have k1:∀b,b<h.nx->h.bl.get b≠some (aj (Q.flatMap bT) 57 true)->h'.bl.get b=h.bl.get b:=by
  intro b hb hne;have e:(h.bl.a_ h.nx (mV p)).get b=h.bl.get b:=T.aD _ _ X1;exact(hsame b (Nat.lt_succ_of_lt hb) (λk=>hne (by rw[<-e];exact k))).trans e
 have ak7:=(k1 CF arG (by rw[g29];exact bI)).trans g29;have g7':=(k1 b7 hb7 (by rw[g7];exact bI)).trans g7;have tg:h'.lo=h.lo:=hl';simp(disch:=try exact Y)only[Wz,ak7,g7'];refine hk _ _ ?_ ⟨by show h.nx<=h'.nx;omega,tg,?_⟩
 .refine Own.put (Own.put ho' (by rw[ak7];exact bI) _) ?_ _
  show(h'.bl.a_ CF _).get b7≠_
  rw[T.aD _ _ hd,g7'];exact bI
 .intro b hb h1 h2;exact(T.aD _ _ (λe=>h2 e.symm)).trans ((T.aD _ _ (λe=>h1 e.symm)).trans (hle'.get b hb))
theorem ak8(t r:Int)(q:Value)(w id x m:Int)(Q:List R5)(h:af)(V:KQ)(hq:Sl bT h q Q)(hlen:Q.length<=100000)(hlo:h.lo<=h.nx)(hw:0<=w/\w<=1000000)(hid:0<=id)(hm:cE m=true)(hn:∀p∈Q,p.id≠id/\p.x≠x)(hk:∀q' h',zq h h' q' (Q++[(mz Q w id x m).1])->Le h h'->V (.tuple ⟨[lF t r q' (mz Q w id x m).2.1,.bool (mz Q w id x m).2.2,X8 0]⟩) h'):av prog 397 [lF t r q w,X8 id,X8 x,X8 m] h V:=by
 obtain⟨qx,qc,rfl,_⟩:=(show Sl bT h q Q from hq)
 apply X9;rw[aeI];simp(disch:=try exact Y)only[Wz,lF];obtain⟨hA,eA⟩:∃hA:af,hA=⟨h.nx+1+1+1+1,(((h.bl.a_ h.nx (aj [X8 t,X8 r,.slice qx Q.length qc,X8 w] 55 false)).a_ (h.nx+1) (aj [X8 id] 3 false)).a_ (h.nx+1+1) (aj [X8 x] 3 false)).a_ (h.nx+1+1+1) (aj [X8 0,X8 0,.slice none 0 0,X8 0] 55 false),h.lo⟩:=⟨_,rfl⟩
 have nQ:Le h hA:=by subst eA;exact((((Le.refl h).new _).new _).new _).new _
 have g1:hA.bl.get h.nx=some (aj [X8 t,X8 r,.slice qx Q.length qc,X8 w] 55 false):=by subst eA;exact(T.aD _ _ X1).trans ((T.aD _ _ X1).trans ((T.aD _ _ X1).trans (T.ay _ _ _)))
 have g3:hA.bl.get (h.nx+1)=some (aj [X8 id] 3 false):=by subst eA;exact(T.aD _ _ X1).trans ((T.aD _ _ X1).trans (T.ay _ _ _))
 have g5:hA.bl.get (h.nx+1+1)=some (aj [X8 x] 3 false):=by subst eA;exact(T.aD _ _ X1).trans (T.ay _ _ _)
 have g7:hA.bl.get (h.nx+1+1+1)=some (aj [X8 0,X8 0,.slice none 0 0,X8 0] 55 false):=by subst eA;exact T.ay _ _ _
 have nA:hA.nx=h.nx+1+1+1+1:=by subst eA;rfl
 have lA:hA.lo=h.lo:=by subst eA;rfl
 rw[<-eA];clear eA;refine Jn m ?_;rw[hm];simp(disch:=try exact Y)only[Wz,Jd,g1,g3,g5];refine oL Q (sx id x) hA _ _ _ (hq.le nQ) X1 ?_ ?_
 .intro p hp h1 κ1 rJ dZ;have n1:=rJ.nx;have l1:=rJ.lo;simp(disch:=try exact Y)only[Wz,List.nil_append,List.cons_append];exact aeZ id x p (h.nx+1) (h.nx+1+1) h1 κ1 X1 X1 X1 ((rJ.get _ X1).trans g3) ((rJ.get _ X1).trans g5) dZ
 intro h2 hle2;have n2:=hle2.nx;have l2:=hle2.lo;have hno:Q.any (sx id x)=false:=by
  rw[List.any_eq_false];intro p hp;simp[sx,(hn p hp).1,(hn p hp).2]
 rw[hno];have g12:=(hle2.get h.nx X1).trans g1;have WL:=(hle2.get (h.nx+1) X1).trans g3;have g52:=(hle2.get (h.nx+1+1) X1).trans g5;have g72:=(hle2.get (h.nx+1+1+1) X1).trans g7;simp(disch:=try exact Y)only[Wz,Jc,g12];refine Jp t r _ w Q h2 _ (hq.le (nQ.trans hle2)) X1 X1 ?_;intro q3 h3 tM cD;have n3:=cD.nx;have l3:=cD.lo;obtain⟨Jq,Jr,rfl,_⟩:=(show Sl bT h3 q3 Q from tM.sl)
 have g33:=(cD.get (h.nx+1) X1).trans WL;have g53:=(cD.get (h.nx+1+1) X1).trans g52;have g73:=(cD.get (h.nx+1+1+1) X1).trans g72;simp(disch:=try exact Y)only[Wz,lF,g33,g53];obtain⟨hB,eB⟩:∃hB:af,hB=⟨h3.nx+1+1,(h3.bl.a_ h3.nx (aj [X8 t,X8 r,.slice Jq Q.length Jr,X8 w] 401 false)).a_ (h3.nx+1) (mV ⟨id,x,0,m,0⟩),h3.lo⟩:=⟨_,rfl⟩
 have uP:Le h3 hB:=by subst eB;exact((Le.refl h3).new _).new _
 have g29:hB.bl.get h3.nx=some (aj [X8 t,X8 r,.slice Jq Q.length Jr,X8 w] 401 false):=by subst eB;exact(T.aD _ _ X1).trans (T.ay _ _ _)
 have g35:hB.bl.get (h3.nx+1)=some (mV ⟨id,x,0,m,0⟩):=by subst eB;exact T.ay _ _ _
 have g7B:=(uP.get (h.nx+1+1+1) X1).trans g73;have nB:hB.nx=h3.nx+1+1:=by subst eB;rfl
 have lB:hB.lo=h3.lo:=by subst eB;rfl
 rw[<-eB];clear eB;have P8:=tM.le uP;refine Jo t r _ w Q hB _ P8.sl X1 X1 ?_;intro h4 dy;have n4:=dy.nx;have l4:=dy.lo;have hall:Le h h4:=(((nQ.trans hle2).trans cD).trans uP).trans dy;have aaK:Le h2 h4:=(cD.trans uP).trans dy;have Ye:=(dy.get h3.nx X1).trans g29;have Yf:=(dy.get (h3.nx+1) X1).trans g35;have g74:=(dy.get (h.nx+1+1+1) X1).trans g7B;have Fq:=P8.le dy
 have fin:∀(p:R5)(w':Int)(g:Bool)(h5:af),mz Q w id x m=(p,w',g)->zq h2 h5 (.slice Jq Q.length Jr) Q->Le h h5->Le h2 h5->h4.nx<=h5.nx->
   h5.bl.get h3.nx=some (aj [X8 t,X8 r,.slice Jq Q.length Jr,X8 w'] 401 false)->h5.bl.get (h3.nx+1)=some (mV p)->h5.bl.get (h.nx+1+1+1)=some (aj [X8 0,X8 0,.slice none 0 0,X8 0] 55 false)->
   vY h3.nx (h3.nx+1) (h.nx+1+1+1) (.bool g) h5 V:=by
  intro p w' g h5 he uQ hl5 arK n5 k1 k2 k3;have l5:=hl5.lo;refine Uc t r Jq Jr w' p g _ _ _ Q h2 h5 V uQ arK X1 X1 X1 X1 X1 X1 X1 X1 k1 k2 k3 ?_;intro q' h' ho' hfr;obtain⟨e1,e2,e3⟩:=hfr;rw[he]at hk;have nn:=hl5.nx;refine hk q' h' (Own.base ho' X1) ⟨X1,by rw[e2];exact hl5.lo,λb hb=>?_⟩;exact(e3 b X1 X1 X1).trans ((nQ.trans hle2).get b hb)
 have ql:=hall;cases hf:fE Q with
 |some i=>
  simp(disch:=try exact Y)only[Wz,gY,d_ (show(0:Int)<=(i:Int)by omega)];obtain⟨hC,eC⟩:∃hC:af,hC=⟨h4.nx,(h4.bl.a_ h3.nx (aj [X8 t,X8 r,.slice Jq Q.length Jr,X8 (w+1)] 401 false)).a_ (h3.nx+1) (mV ⟨id,x,0,m,w+1⟩),h4.lo⟩:=⟨_,rfl⟩
  refine⟨λl h'=>HQ hC h',?_,?_⟩
  .simp(disch:=try exact Y)only[Wz,BD,Ye,Yf];exact eC
  .intro l h' MY;cases(show hC=h' from MY);have nC:hC.nx=h4.nx:=by rw[eC]
   refine fin ⟨id,x,0,m,w+1⟩ (w+1) false hC ?_ ?_ ?_ ?_ X1 ?_ ?_ ?_
   .unfold mz;rw[if_neg];simp[hf]
   .rw[eC];exact Own.put (Own.put Fq (by rw[Ye];exact bI) _) (by show(h4.bl.a_ h3.nx _).get (h3.nx+1)≠_;rw[T.aD _ _ X1,Yf];exact bI) _
   .rw[eC];exact(ql.set (b:=h3.nx) X1 _).set (b:=h3.nx+1) X1 _
   .rw[eC];exact(aaK.set (b:=h3.nx) X1 _).set (b:=h3.nx+1) X1 _
   .rw[eC];exact(T.aD _ _ X1).trans (T.ay _ _ _)
   .rw[eC];exact T.ay _ _ _
   .rw[eC];exact((T.aD _ _ X1).trans (T.aD _ _ X1)).trans g74
 |none=>
  simp(disch:=try exact Y)only[Wz,gY,f_ (show(-1:Int)<0 by decide),Ye,Yf];refine Fp t r _ w ⟨id,x,0,m,0⟩ Q h4 _ Fq.sl X1 X1 ?_;intro h5 fR;have n5:=fR.nx;have l5:=fR.lo;have ae0:=(fR.get h3.nx X1).trans Ye;have Yg:=(fR.get (h3.nx+1) X1).trans Yf;have g75:=(fR.get (h.nx+1+1+1) X1).trans g74;have uQ:=Fq.le fR;have uh:=hall.trans fR;have aaM:=aaK.trans fR;cases hfit:iY Q ⟨id,x,0,m,0⟩with
  |false=>
   simp(disch:=try exact Y)only[Wz];obtain⟨hC,eC⟩:∃hC:af,hC=⟨h5.nx,(h5.bl.a_ h3.nx (aj [X8 t,X8 r,.slice Jq Q.length Jr,X8 (w+1)] 401 false)).a_ (h3.nx+1) (mV ⟨id,x,0,m,w+1⟩),h5.lo⟩:=⟨_,rfl⟩
   refine⟨λl h'=>HQ hC h',?_,?_⟩
   .simp(disch:=try exact Y)only[Wz,BD,ae0,Yg];exact eC
   .intro l h' MY;cases(show hC=h' from MY);have nC:hC.nx=h5.nx:=by rw[eC]
    refine fin ⟨id,x,0,m,w+1⟩ (w+1) false hC ?_ ?_ ?_ ?_ X1 ?_ ?_ ?_
    .unfold mz;rw[if_neg];simp[hf,hfit]
    .rw[eC];exact Own.put (Own.put uQ (by rw[ae0];exact bI) _) (by show(h5.bl.a_ h3.nx _).get (h3.nx+1)≠_;rw[T.aD _ _ X1,Yg];exact bI) _
    .rw[eC];exact(uh.set (b:=h3.nx) X1 _).set (b:=h3.nx+1) X1 _
    .rw[eC];exact(aaM.set (b:=h3.nx) X1 _).set (b:=h3.nx+1) X1 _
    .rw[eC];exact(T.aD _ _ X1).trans (T.ay _ _ _)
    .rw[eC];exact T.ay _ _ _
    .rw[eC];exact((T.aD _ _ X1).trans (T.aD _ _ X1)).trans g75
  |true=>
   simp(disch:=try exact Y)only[Wz];obtain⟨hC,eC⟩:∃hC:af,hC=⟨h5.nx,h5.bl.a_ (h3.nx+1) (mV ⟨id,x,m,m,0⟩),h5.lo⟩:=⟨_,rfl⟩
   refine⟨λl h'=>HQ hC h',?_,?_⟩
   .simp(disch:=try exact Y)only[Wz,Yg];exact eC
   .intro l h' MY;cases(show hC=h' from MY);have nC:hC.nx=h5.nx:=by rw[eC]
    refine fin ⟨id,x,m,m,0⟩ w true hC ?_ ?_ ?_ ?_ X1 ?_ ?_ ?_
    .unfold mz;rw[if_pos];simp[hf,hfit]
    .rw[eC];exact Own.put uQ (by rw[Yg];exact bI) _
    .rw[eC];exact uh.set (b:=h3.nx+1) X1 _
    .rw[eC];exact aaM.set (b:=h3.nx+1) X1 _
    .rw[eC];exact(T.aD _ _ X1).trans ae0
    .rw[eC];exact T.ay _ _ _
    .rw[eC];exact(T.aD _ _ X1).trans g75
noncomputable abbrev nR(t r:Int)(q:Value)(w:Int):bP:=aj [X8 t,X8 r,q,X8 w] 401 false
noncomputable abbrev gQ(t r:Int)(q:Value)(w:Int):bP:=aj [X8 t,X8 r,q,X8 w] 55 false
noncomputable abbrev qm:bP:=aj [X8 0,X8 0,.slice none 0 0,X8 0] 55 false
theorem LR(id:Int)(r:R5)(b:Nat)(h:af)(V:KQ)(hlo:h.lo<=h.nx)(hb:b<h.nx)(hg:h.bl.get b=some (aj [X8 id] 3 false))(hk:∀h',Le h h'->V (.bool (cZ id r)) h'):av prog 416 [nP r,ax b] h V:=by
 have hk:=hk _ ((Le.refl h).new (mV r));apply X9;rw[aeM];simp(disch:=try exact Y)only[Wz,bT,hg];exact hk
theorem P9(t r:Int)(q:Value)(w id:Int)(Q:List R5)(a h:af)(V:KQ)(ho:zq a h q Q)(hle:Le a h)(hlen:Q.length<=100000)(hlo:a.lo<=a.nx)(hk:∀q' h',Sl bT h' q' (Q.filter λr=>!cZ id r)->zQ 57 h' q'->Le a h'->V (lF t r q' w) h'):av prog 392 [lF t r q w,X8 id] h V:=by
 obtain⟨qx,qc,rfl,_⟩:=(show Sl bT h q Q from ho.sl)
 have n_0:=hle.nx;have l_0:=hle.lo;apply X9;rw[aeC];simp(disch:=try exact Y)only[Wz,lF];obtain⟨hA,aY⟩:∃hA:af,hA=⟨h.nx+1+1+1,(((h.bl.a_ (h.nx) (nR t r (.slice qx Q.length qc) w)).a_ (h.nx+1) (aj [X8 id] 3 false)).a_ (h.nx+1+1) (qm)),h.lo⟩:=⟨_,rfl⟩
 have aU:Le h hA:=by subst aY;exact((((Le.refl h).new _).new _).new _)
 have g1:hA.bl.get (h.nx)=some (nR t r (.slice qx Q.length qc) w):=by subst aY;exact(T.aD _ _ X1).trans ((T.aD _ _ X1).trans (T.ay _ _ _))
 have g3:hA.bl.get (h.nx+1)=some (aj [X8 id] 3 false):=by subst aY;exact(T.aD _ _ X1).trans (T.ay _ _ _)
 have g5:hA.bl.get (h.nx+1+1)=some (qm):=by subst aY;exact T.ay _ _ _
 have dI:hA.nx=h.nx+1+1+1:=by subst aY;rfl
 have dJ:hA.lo=h.lo:=by subst aY;rfl
 rw[<-aY];clear aY;refine P7 a hA Q (cZ id) _ _ _ (hle.trans aU) (ho.le aU) hlen hlo ?_ ?_
 .intro p h1 κ1 rJ hfr dZ;have n1:=hfr.1;have l1:=rJ.lo;have g3:=(hfr.2 (h.nx+1) X1 (by rw[g3];exact bI)).trans g3;simp(disch:=try exact Y)only[Wz,List.nil_append,List.cons_append];exact LR id p (h.nx+1) h1 κ1 X1 X1 g3 dZ
 .intro q' h2 hs2 _ hle2 hfr ht;have n2:=hfr.1;have l2:=hle2.lo;have g1:=(hfr.2 h.nx X1 (by rw[g1];exact bI)).trans g1;have g5:=(hfr.2 (h.nx+1+1) X1 (by rw[g5];exact bI)).trans g5;obtain⟨qx',qc',rfl,_⟩:=(show Sl bT h2 q' _ from hs2)
  simp(disch:=try exact Y)only[Wz,g1,g5];have hd1:∀vs op,h2.bl.get h.nx≠some (aj vs 57 op):=λvs op=>by rw[g1];exact bJ X7
  have WM:=hs2.put ht hd1 (nR t r (.slice qx' (Q.filter λr=>!cZ id r).length qc') w);have ht3:=ht.put hd1 (nR t r (.slice qx' (Q.filter λr=>!cZ id r).length qc') w);have hd2:∀vs op,(h2.bl.a_ h.nx (nR t r (.slice qx' (Q.filter λr=>!cZ id r).length qc') w)).get (h.nx+1+1)≠some (aj vs 57 op):=λvs op=>by rw[T.aD _ _ X1,g5];exact bJ X7
  refine hk _ _ (WM.put ht3 hd2 _) (ht3.put hd2 _) ((hle2.set (b:=h.nx) X1 _).set (b:=h.nx+1+1) X1 _)
def QV(h:af)(q:Value)(Q:List R5):Prop:=Sl bT h q Q/\zQ 57 h q
theorem QV.le{h h':af}{q:Value}{Q:List R5}(v:QV h q Q)(l:Le h h'):QV h' q Q:=⟨v.1.le l,v.2.le l⟩
theorem QV.put{h:af}{q:Value}{Q:List R5}(v:QV h q Q){d:Nat}(hd:∀vs op,h.bl.get d≠some (aj vs 57 op))(o:bP):QV ⟨h.nx,h.bl.a_ d o,h.lo⟩ q Q:=⟨v.1.put v.2 hd o,v.2.put hd o⟩
theorem QV.own{a h:af}{q:Value}{Q:List R5}(ho:zq a h q Q):QV h q Q:=⟨ho.sl,zQ.own ho⟩
theorem oM(Q:List R5)(id:Int):(Q.findIdx? (cZ id)=none/\cL Q id=none)\/∃(i:Nat)(r:R5),Q.findIdx? (cZ id)=some i/\Q[i]? = some r/\r.id=id/\cL Q id=some r:=by
 rcases nN Q (cZ id)with⟨e,h⟩|⟨i,p,e,hp,h1,h2⟩
 .refine .inl ⟨e,?_⟩;unfold cL;rw[List.find?_eq_none];intro x hx;rw[h x hx];simp
 .refine .inr ⟨i,p,e,hp,by simpa[cZ]using h1,?_⟩;unfold cL;rw[List.find?_eq_some_iff_getElem];obtain⟨hi,rfl⟩:=List.getElem?_eq_some_iff.1 hp;exact⟨h1,i,hi,rfl,λj hj=>by rw[h2 j _ hj (List.getElem?_eq_getElem X1)];rfl⟩
theorem Yh(t r:Int)(q:Value)(w id:Int)(Q:List R5)(h:af)(V:KQ)(hq:Sl bT h q Q)(hlen:Q.length<=100000)(hlo:h.lo<=h.nx)(hf:cL Q id≠none)(hk:∀q' h',QV h' q' (Q.filter λr=>!cZ id r)->Le h h'->V (.tuple ⟨[lF t r q' w,X8 0]⟩) h'):av prog 419 [lF t r q w,X8 id] h V:=by
 obtain⟨qx,qc,rfl,_⟩:=(show Sl bT h q Q from hq)
 apply X9;rw[aeP];simp(disch:=try exact Y)only[Wz,lF];obtain⟨hA,aY,aU,g1,g3,dI,dJ⟩:=AY h (gQ t r (.slice qx Q.length qc) w) (qm);rw[<-aY];clear aY;have g3A:=g3;refine Jp t r _ w Q hA _ (hq.le aU) X1 X1 ?_;intro q2 h2 nJ hle2;have BM:=hle2.nx;have BN:=hle2.lo;have g1:=(hle2.get _ X1).trans g1;have g3:=(hle2.get _ X1).trans g3;obtain⟨yT,yU,rfl,_⟩:=(show Sl bT h2 q2 Q from nJ.sl)
 simp(disch:=try exact Y)only[Wz,lF];obtain⟨hB,gL,bW,g7,BO,BP⟩:=kG h2 (nR t r (.slice yT Q.length yU) w);rw[<-gL];clear gL;have oN:=bW.nx;have oO:=bW.lo;have g1:=(bW.get _ X1).trans g1;have g3:=(bW.get _ X1).trans g3;have P8:=nJ.le bW;refine vZ t r _ w id Q hB _ P8.sl X1 X1 ?_;intro h3 cD;have Ud:=cD.nx;have Ue:=cD.lo;have g1:=(cD.get _ X1).trans g1;have g3:=(cD.get _ X1).trans g3;have g7:=(cD.get _ X1).trans g7;have tM:=P8.le cD;rcases oM Q id with⟨_,e⟩|⟨i,p,e,hp,ae1,_⟩
 .exact absurd e hf
 rw[e];simp(disch:=try exact Y)only[Wz,gY,d_ (show(0:Int)<=(i:Int)by omega),g7];have ak9:Le hA h3:=(hle2.trans bW).trans cD;refine P9 t r _ w id Q hA h3 _ tM ak9 hlen X1 ?_;intro q4 h4 hs4 ht4 dy;have LS:=dy.nx;have LU:=dy.lo;have g3:=(dy.get _ X1).trans g3A;obtain⟨qx4,qc4,rfl,_⟩:=(show Sl bT h4 q4 _ from hs4)
 simp(disch:=try exact Y)only[Wz,lF,g3];exact hk _ _ (QV.put ⟨hs4,ht4⟩ (λvs op=>by rw[g3];exact bJ X7) _) ((aU.trans dy).set (b:=h.nx+1) X1 _)
theorem Yi(id x:Int)(r:R5)(b3 b5:Nat)(h:af)(V:KQ)(hlo:h.lo<=h.nx)(hb3:b3<h.nx)(hb5:b5<h.nx)(hg3:h.bl.get b3=some (aj [X8 id] 3 false))(hg5:h.bl.get b5=some (aj [X8 x] 3 false))(hk:∀h',Le h h'->V (.bool (decide (r.id≠id) && decide (r.x=x))) h'):av prog 423 [nP r,ax b3,ax b5] h V:=by
 have hk:=hk _ ((Le.refl h).new (mV r));apply X9;rw[aeS];by_cases h1:r.id=id
 .simp(disch:=try exact Y)only[Wz,bT,hg3,hg5,bz h1];rw[bf (show ¬r.id≠id by simp[h1])]at hk;exact hk
 .simp(disch:=try exact Y)only[Wz,bT,hg3,hg5,bf h1];rw[bz (show r.id≠id from h1)]at hk;exact hk
theorem QV.blk{h:af}{b n:Nat}{L:List R5}(hb:b<h.nx)(hg:h.bl.get b=some (aj (L.flatMap bT) 57 true))(hn:n=L.length):QV h (YYY b n aZ) L:=by
 subst hn;refine⟨Sl.new hb hg _,λb' o' n' c' hv _=>?_⟩;cases hv;exact⟨hb,_,_,hg⟩
theorem ae2(t r:Int)(q:Value)(w id x:Int)(Q:List R5)(h:af)(V:KQ)(hq:Sl bT h q Q)(hlen:Q.length<=100000)(hlo:h.lo<=h.nx)(hp:Q.Pairwise A5){i:Nat}{p:R5}(hi:Q[i]? = some p)(hid:p.id=id)(dZ:(∃o∈Q,o.id≠id/\o.x=x)->∀h',Le h h'->V (.tuple ⟨[lF 0 0 (.slice none 0 0) 0,X8 4]⟩) h')(hk2:(∀o∈Q,o.id≠id->o.x≠x)->0<p.s->∀h',Le h h'->V (.tuple ⟨[lF 0 0 (.slice none 0 0) 0,X8 7]⟩) h')(xG:(∀o∈Q,o.id≠id->o.x≠x)->¬0<p.s->∀q' h',QV h' q' (Q.set i (yP p x))->Le h h'->V (.tuple ⟨[lF t r q' w,X8 0]⟩) h'):av prog 399 [lF t r q w,X8 id,X8 x] h V:=by
 obtain⟨qx,qc,rfl,_⟩:=(show Sl bT h q Q from hq)
 apply X9;rw[aeK];simp(disch:=try exact Y)only[Wz,lF];obtain⟨hA,aY⟩:∃hA:af,hA=⟨h.nx+1+1+1+1,((((h.bl.a_ (h.nx) (gQ t r (.slice qx Q.length qc) w)).a_ (h.nx+1) (aj [X8 id] 3 false)).a_ (h.nx+1+1) (aj [X8 x] 3 false)).a_ (h.nx+1+1+1) (qm)),h.lo⟩:=⟨_,rfl⟩
 have aU:Le h hA:=by subst aY;exact(((((Le.refl h).new _).new _).new _).new _)
 have g1:hA.bl.get (h.nx)=some (gQ t r (.slice qx Q.length qc) w):=by subst aY;exact(T.aD _ _ X1).trans ((T.aD _ _ X1).trans ((T.aD _ _ X1).trans (T.ay _ _ _)))
 have g3:hA.bl.get (h.nx+1)=some (aj [X8 id] 3 false):=by subst aY;exact(T.aD _ _ X1).trans ((T.aD _ _ X1).trans (T.ay _ _ _))
 have g5:hA.bl.get (h.nx+1+1)=some (aj [X8 x] 3 false):=by subst aY;exact(T.aD _ _ X1).trans (T.ay _ _ _)
 have g7:hA.bl.get (h.nx+1+1+1)=some (qm):=by subst aY;exact T.ay _ _ _
 have dI:hA.nx=h.nx+1+1+1+1:=by subst aY;rfl
 have dJ:hA.lo=h.lo:=by subst aY;rfl
 rw[<-aY];clear aY;refine Jp t r _ w Q hA _ (hq.le aU) X1 X1 ?_;intro q2 h2 nJ hle2;have BM:=hle2.nx;have BN:=hle2.lo;have g3:=(hle2.get _ X1).trans g3;have g5:=(hle2.get _ X1).trans g5;have g7:=(hle2.get _ X1).trans g7;obtain⟨yT,yU,rfl,_⟩:=(show Sl bT h2 q2 Q from nJ.sl)
 simp(disch:=try exact Y)only[Wz,lF,g3];obtain⟨hB,gL,bW,g11,BO,BP⟩:=kG h2 (nR t r (.slice yT Q.length yU) w);rw[<-gL];clear gL;have oN:=bW.nx;have oO:=bW.lo;have g3:=(bW.get _ X1).trans g3;have g5:=(bW.get _ X1).trans g5;have g7:=(bW.get _ X1).trans g7;have P8:=nJ.le bW;refine vZ t r _ w id Q hB _ P8.sl X1 X1 ?_;intro h3 cD;have Ud:=cD.nx;have Ue:=cD.lo;have g3:=(cD.get _ X1).trans g3;have g5:=(cD.get _ X1).trans g5;have g7:=(cD.get _ X1).trans g7;have g11:=(cD.get _ X1).trans g11;have tM:=P8.le cD;have oK:Le h h3:=((aU.trans hle2).trans bW).trans cD;rcases oM Q id with⟨_,e⟩|⟨j,p',e,hj,hjd,_⟩
 .exact absurd hid (A8 e p (List.mem_of_getElem? hi))
 have hij:j=i:=Te hp hj hi (by rw[hjd,hid]);subst hij;rw[hi]at hj;cases hj;rw[e];simp(disch:=try exact Y)only[Wz,gY,d_ (show(0:Int)<=(j:Int)by omega),Jj,g11];refine oL Q (λo=>decide (o.id≠id) && decide (o.x=x)) h3 _ _ _ tM.sl X1 ?_ ?_
 .intro o ho h4 κ4 dy wZ;have LS:=dy.nx;have LU:=dy.lo;have g3:=(dy.get _ X1).trans g3;have g5:=(dy.get _ X1).trans g5;simp(disch:=try exact Y)only[Wz,List.nil_append,List.cons_append];exact Yi id x o (h.nx+1) (h.nx+1+1) h4 κ4 X1 X1 X1 g3 g5 wZ
 intro h4 dy;have LS:=dy.nx;have LU:=dy.lo;have g3:=(dy.get _ X1).trans g3;have g5:=(dy.get _ X1).trans g5;have g7:=(dy.get _ X1).trans g7;have g11:=(dy.get _ X1).trans g11;have Fq:=tM.le dy;have ql:=oK.trans dy;cases Gs:Q.any (λo=>decide (o.id≠id) && decide (o.x=x))with
 |true=>
  simp(disch:=try exact Y)only[Wz,g7];rw[List.any_eq_true]at Gs;obtain⟨o,ho,h1⟩:=Gs;simp only[Bool.and_eq_true,decide_eq_true_eq]at h1;exact dZ ⟨o,ho,h1⟩ _ (ql.set (b:=h.nx+1+1+1) X1 _)
 |false=>
  have hno:∀o∈Q,o.id≠id->o.x≠x:=by
   intro o ho h1 h2;rw[List.any_eq_false]at Gs;have:=Gs o ho;simp[h1,h2]at this
  obtain⟨b,o,hb,pg,qg⟩:=WJ Fq.sl j hi;simp(disch:=try exact Y)only[Wz,Ji,g11,pg,qg];refine Fo p ?_;by_cases hs:0<p.s
  .simp(disch:=try exact Y)only[Wz,bz hs,g7];exact hk2 hno hs _ (ql.set (b:=h.nx+1+1+1) X1 _)
  .rcases Fq with⟨rfl,_⟩|⟨bo,e1,k1,k2,k3,k4⟩
   .simp at hi
   cases e1;have hjl:j<Q.length:=(List.getElem?_eq_some_iff.1 hi).1;have hfl:=bH (enc:=bT) dm Q;have E3:=iJ (p':=yP p x) (ws:=[X8 x]) (j:=1) dm hi (by show 1+1<=5;omega) rfl;have P_:bo≠h2.nx:=by rintro rfl;rw[g11]at k4;exact bI k4
   have Fs:bo≠h.nx+1+1+1:=by rintro rfl;rw[g7]at k4;exact bI k4
   simp(disch:=try exact Y)only[Wz,bf hs,Jh,g11,g5,g7,bB,k4,E3];have k0:hA.nx<=bo:=k1;refine xG hno hs _ _ (QV.blk (by show bo<h4.nx;omega) ((T.aD _ _ (λe=>Fs e.symm)).trans (T.ay _ _ _)) (by simp)) ((ql.set (b:=bo) X1 _).set (b:=h.nx+1+1+1) X1 _)
def fG(n:Int):List Value:=[X8 n]
theorem gf(n:Int):(fG n).length=1:=rfl
theorem BQ(n:Int):(fG n).all ef=true:=rfl
abbrev C_(a h:af)(v:Value)(L:List Int):Prop:=Own fG a 3 h v L
theorem Js{Q:List R5}{W:Int}(v:VQ Q W){i:Nat}{r:R5}(hf:fE Q=some i)(hr:Q[i]? = some r)(hfit:iY Q r=true):e_ (jB Q+1) Q=((e_ (jB (Q.set i (eX r))+1) (Q.set i (eX r))).1,r.id::(e_ (jB (Q.set i (eX r))+1) (Q.set i (eX r))).2):=by
 have hc:=uL hr (lX v hf hr)
 conv=>lhs;unfold e_
 simp only[hf,hr,hfit,if_true];rw[hc]
theorem Uf{Q:List R5}(h:uM Q):e_ (jB Q+1) Q=(Q,[]):=A7 h _
theorem BR{Q:List R5}(h:fE Q=none):uM Q:=λi r e=>by rw[h]at e;cases e
theorem LV{Q:List R5}{i:Nat}{r:R5}(h:fE Q=some i)(hr:Q[i]? = some r)(hf:iY Q r=false):uM Q:=λj q e hq=>by
 rw[h]at e;cases e;rw[hr]at hq;cases hq;exact hf
set_option maxHeartbeats 2000000 in
theorem ae3(t r:Int)(q:Value)(w:Int)(Q:List R5)(h:af)(V:KQ)(hq:Sl bT h q Q)(hlen:Q.length<=100000)(hlo:h.lo<=h.nx)(vq:VQ Q w)(hk:∀q' v' h',QV h' q' (e_ (jB Q+1) Q).1->C_ h h' v' (e_ (jB Q+1) Q).2->Le h h'->V (.tuple ⟨[lF t r q' w,v']⟩) h'):av prog 393 [lF t r q w] h V:=by
 obtain⟨qx,qc,rfl,_⟩:=(show Sl bT h q Q from hq)
 apply X9;rw[aeD];simp(disch:=try exact Y)only[Wz,lF];obtain⟨hA,aY,aU,g1,g3,dI,dJ⟩:=AY h (gQ t r (.slice qx Q.length qc) w) (qm);rw[<-aY];clear aY;refine Jp t r _ w Q hA _ (hq.le aU) X1 X1 ?_;intro q2 h2 nJ hle2;have BM:=hle2.nx;have BN:=hle2.lo;have g3:=(hle2.get _ X1).trans g3;obtain⟨yT,yU,rfl,_⟩:=(show Sl bT h2 q2 Q from nJ.sl)
 simp(disch:=try exact Y)only[Wz,lF];obtain⟨hB,gL,bW,g7,BO,BP⟩:=kG h2 (nR t r (.slice yT Q.length yU) w);rw[<-gL];clear gL;have oN:=bW.nx;have oO:=bW.lo;have g3:=(bW.get _ X1).trans g3;have P8:=nJ.le bW;have ak_:Le h hB:=(aU.trans hle2).trans bW
 refine ⟨λn l h1=>∃(K:List R5)(ids:List Int),VQ K w/\n=jB K+1/\e_ (jB Q+1) Q=((e_ (jB K+1) K).1,ids++(e_ (jB K+1) K).2)/\K.length=Q.length/\ids.length+jB K<=jB Q/\
   C_ h h1 (ah l 49) ids/\(zq hA h1 (.slice yT K.length yU) K)/\h1.bl.get (h.nx+1)=some qm/\h1.bl.get h2.nx=some (nR t r (.slice yT Q.length yU) w)/\Le h h1/\hB.nx<=h1.nx,
  ⟨_,Q,[],vq,rfl,by simp,rfl,by simp,.inl ⟨rfl,.inl rfl⟩,P8,g3,g7,ak_,Nat.le_refl _⟩,?_⟩
 rintro n l h3 ⟨K,ids,vk,rfl,hsc,hKl,hcn,hoI,hoK,g3,g7,cD,n3⟩;have l3:=cD.lo;obtain⟨vi,ei⟩:∃vi,ah l 49=vi:=⟨_,rfl⟩
 rw[ei]at hoI;rw[hKl]at hoK;have hcK:jB K<=K.length:=List.length_filter_le _ _;have hcQ:jB Q<=Q.length:=List.length_filter_le _ _;simp(disch:=try exact Y)only[Wz,I9,g7];refine Jo t r _ w K h3 _ hoK.sl X1 X1 ?_;intro h4 dy;have LS:=dy.nx;have LU:=dy.lo;have g3:=(dy.get _ X1).trans g3;have g7:=(dy.get _ X1).trans g7;have Yj:=hoK.le dy;have ala:=hoI.le dy;have ql:=cD.trans dy;have finish:∀h',h4.nx<=h'.nx->Le h h'->C_ h h' vi ids->zq hA h' (.slice yT Q.length yU) K->h'.bl.get (h.nx+1)=some qm->uM K->V (.tuple ⟨[.agg ⟨[X8 t,X8 r,.slice yT Q.length yU,X8 w]⟩,vi]⟩) ⟨h'.nx,h'.bl.a_ (h.nx+1) (gQ t r (.slice yT Q.length yU) w),h'.lo⟩:=by
  intro h' hn hl hi hr hg hst;rw[Uf hst]at hsc;rw[hsc,List.append_nil]at hk;exact hk _ _ _ (QV.put (QV.own hr) (λvs op=>by rw[hg];exact bJ X7) _) (Own.put hi (by rw[hg];exact bI) _) (hl.set (b:=h.nx+1) X1 _)
 cases hf:fE K with
 |none=>
  simp(disch:=try exact Y)only[Wz,gY,f_ (show(-1:Int)<0 by decide),g7,g3,ei];exact finish h4 (Nat.le_refl _) ql ala Yj g3 (BR hf)
 |some i=>
  obtain⟨p,hp,_⟩:=uJ hf;obtain⟨b,o,hb,pg,qg⟩:=WJ Yj.sl i hp;simp(disch:=try exact Y)only[Wz,gY,d_ (show(0:Int)<=(i:Int)by omega),g7,pg,qg,List.append_nil,List.cons_append,List.nil_append];refine Fp t r _ w p K h4 _ Yj.sl X1 X1 ?_;intro h5 fR;have arM:=fR.nx;have arN:=fR.lo;have g3:=(fR.get _ X1).trans g3;have g7:=(fR.get _ X1).trans g7;have alb:=Yj.le fR;have alc:=ala.le fR;have uh:=ql.trans fR;cases hfit:iY K p with
  |false=>
   simp(disch:=try exact Y)only[Wz,g7,g3,ei];exact finish h5 X1 uh alc alb g3 (LV hf hp hfit)
  |true=>
   rcases alb with⟨rfl,_⟩|⟨bo,e1,k1,k2,k3,k4⟩
   .simp at hp
   rw[hKl]at e1;cases e1;have hil:i<K.length:=(List.getElem?_eq_some_iff.1 hp).1;have hfl:=bH (enc:=bT) dm K;have arO:((K.set i ⟨p.id,p.x,p.w,p.w,p.s⟩).flatMap bT).length=K.length*5:=by rw[bH dm,List.length_set]
   have E3:=iJ (p':=⟨p.id,p.x,p.w,p.w,p.s⟩) (ws:=[X8 p.w]) (j:=2) dm hp (by show 2+1<=5;omega) rfl;have hp2:(K.set i ⟨p.id,p.x,p.w,p.w,p.s⟩)[i]? = some ⟨p.id,p.x,p.w,p.w,p.s⟩:=by rw[List.getElem?_set,if_pos rfl,if_pos hil]
   have C1:=iJ (p':=eX p) (ws:=[X8 0]) (j:=4) dm hp2 (by show 4+1<=5;omega) rfl;rw[List.set_set]at C1;have P_:bo≠h2.nx:=by rintro rfl;rw[g7]at k4;exact bI k4
   have Fs:bo≠h.nx+1:=by rintro rfl;rw[g3]at k4;exact bI k4
   have hsl:(K.set i (eX p)).length=K.length:=List.length_set;rw[hKl]at hsl;have Sc:(K.set i (eX p))[i]? = some (eX p):=by rw[List.getElem?_set,if_pos rfl,if_pos hil]
   have r3:=kQ (j:=3) dm hp X7;have r0:=kQ (j:=0) dm Sc X7;have r3:(K.flatMap bT)[i*5+3]? = some (X8 p.w):=r3;have r0:((K.set i (eX p)).flatMap bT)[i*5]? = some (X8 p.id):=r0;simp(disch:=try exact Y)only[Wz,I8,g7,bB,k4,E3,C1,ei,r3,r0];obtain⟨hC,eC⟩:∃hC:af,hC=⟨h5.nx,h5.bl.a_ bo (aj ((K.set i (eX p)).flatMap bT) 57 true),h5.lo⟩:=⟨_,rfl⟩
   have Yk:Le h hC:=by subst eC;exact uh.set (b:=bo) X1 _
   have nC:hC.nx=h5.nx:=by rw[eC]
   have lC:hC.lo=h5.lo:=by rw[eC]
   have gC:hC.bl.get bo=some (aj ((K.set i (eX p)).flatMap bT) 57 true):=by subst eC;exact T.ay _ _ _
   have g3C:hC.bl.get (h.nx+1)=some qm:=by subst eC;exact(T.aD _ _ Fs).trans g3
   have g7C:hC.bl.get h2.nx=some (nR t r (YYY bo Q.length aZ) w):=by subst eC;exact(T.aD _ _ P_).trans g7
   have hoC:C_ h hC vi ids:=by subst eC;exact Own.put alc (by rw[k4];exact bJ X7) _
   have e2:(⟨h5.nx+1,(h5.bl.a_ bo (aj ((K.set i (eX p)).flatMap bT) 57 true)).a_ h5.nx (aj [X8 p.id] 3 false),h5.lo⟩:af)=⟨hC.nx+1,hC.bl.a_ hC.nx (aj [X8 p.id] 3 false),hC.lo⟩:=by rw[eC]
   rw[e2,show h5.nx=hC.nx from nC.symm];have hle1:=(Le.refl hC).new (aj [X8 p.id] 3 false);have vk2:=vk.Tf hf hp hfit;have hcg:=uL hp (lX vk hf hp);refine jM (enc:=fG) (a:=h) (L:=ids) (M:=[p.id]) gf BQ X7 X7 (hoC.le hle1) (Sl.new (L:=[p.id]) (e:=3) (op:=false) (Nat.lt_succ_self _) (T.ay _ _ _) _) (Yk.new _) (by simp;omega) (by show hC.lo<=hC.nx+1;omega) _ ?_;intro v' h6 Ug mB zi hn2 hl6 hsame;have n6:hC.nx+1<=h6.nx:=hn2;have keep:∀c o',c<hC.nx->hC.bl.get c=some o'->some o'≠some (aj (ids.flatMap fG) 3 true)->h6.bl.get c=some o':=by
    intro c o' hc hg hne;have e:(hC.bl.a_ hC.nx (aj [X8 p.id] 3 false)).get c=hC.bl.get c:=T.aD _ _ X1;exact(hsame c (Nat.lt_succ_of_lt hc) (λk=>hne (by rw[<-hg,<-e];exact k))).trans (e.trans hg)
   have axR:h6.lo=hC.lo:=hl6;refine⟨_,X1,K.set i (eX p),ids++[p.id],vk2,rfl,?_,by simpa using hKl,by simp;omega,Ug,?_,?_,?_,mB,X1⟩
   .rw[hsc,Js vk hf hp hfit];simp
   .refine .inr ⟨bo,rfl,X1,X1,X1,keep bo _ X1 gC (bJ X7)⟩
   .exact keep _ _ X1 g3C (bJ X7)
   .exact keep _ _ X1 g7C (bJ X7)
theorem OE(t r:Int)(q:Value)(w id:Int)(Q:List R5)(h:af)(V:KQ)(hq:Sl bT h q Q)(hlen:Q.length<=100000)(hlo:h.lo<=h.nx)(hk:∀h',Le h h'->V (match cL Q id with|some p=>.tuple ⟨[nP p,.bool true]⟩|none=>.tuple ⟨[nP ⟨0,0,0,0,0⟩,.bool false]⟩) h'):av prog 237 [lF t r q w,X8 id] h V:=by
 obtain⟨qx,qc,rfl,_⟩:=(show Sl bT h q Q from hq)
 apply X9;rw[adK];simp(disch:=try exact Y)only[Wz,lF];obtain⟨hA,aY,aU,g1,g3,dI,dJ⟩:=AY h (gQ t r (.slice qx Q.length qc) w) (mV ⟨0,0,0,0,0⟩);rw[<-aY];clear aY;refine vZ t r _ w id Q hA _ (hq.le aU) X1 X1 ?_;intro h2 hle2;have BM:=hle2.nx;have BN:=hle2.lo;have g1:=(hle2.get _ X1).trans g1;have g3:=(hle2.get _ X1).trans g3;rcases oM Q id with⟨e,e2⟩|⟨i,p,e,hi,hjd,e2⟩
 .rw[e];simp(disch:=try exact Y)only[Wz,gY,f_ (show(-1:Int)<0 by decide),g3];rw[e2]at hk;exact hk _ ((aU.trans hle2).set (b:=h.nx+1) X1 _)
 .rw[e];obtain⟨b,o,hb,pg,qg⟩:=WJ (hq.le (aU.trans hle2)) i hi;simp(disch:=try exact Y)only[Wz,gY,d_ (show(0:Int)<=(i:Int)by omega),g1,g3,pg,qg,bT];rw[e2]at hk;exact hk _ ((aU.trans hle2).set (b:=h.nx+1) X1 _)
theorem Uh{Q:List R5}{i:Nat}{p p1:R5}(hi:Q[i]? = some p)(hid:p.id=p1.id):iY (Q.set i p1) p1=iY Q p1:=by
 rw[Bool.eq_iff_iff,qh,qh];constructor
 .intro h o ho h1 h2;obtain⟨k,hk⟩:=List.getElem?_of_mem ho;have hki:i≠k:=by rintro rfl;rw[hi]at hk;cases hk;exact h1 hid
  exact h o (List.mem_of_getElem? (i:=k) (by rw[List.getElem?_set,if_neg hki];exact hk)) h1 h2
 .intro h o ho h1 h2;rcases mem_set ho with rfl|ho
  .exact absurd rfl h1
  .exact h o ho h1 h2
theorem Yl{Q:List R5}{i:Nat}{p p1:R5}(hi:Q[i]? = some p)(hu:yO p1=yO p):(Q.set i p1).any yO=Q.any yO:=by
 rw[Bool.eq_iff_iff,List.any_eq_true,List.any_eq_true];have hil:=(List.getElem?_eq_some_iff.1 hi).1;constructor
 .rintro⟨o,ho,h⟩;rcases mem_set ho with rfl|ho
  .exact⟨p,List.mem_of_getElem? hi,by rw[<-hu];exact h⟩
  .exact⟨o,ho,h⟩
 .rintro⟨o,ho,h⟩;obtain⟨k,hk⟩:=List.getElem?_of_mem ho;by_cases hki:i=k
  .subst hki;rw[hi]at hk;cases hk;exact⟨p1,List.mem_of_getElem? (i:=i) (by rw[List.getElem?_set,if_pos rfl,if_pos hil]),by rw[hu];exact h⟩
  .exact⟨o,List.mem_of_getElem? (i:=k) (by rw[List.getElem?_set,if_neg hki];exact hk),h⟩
theorem aN{β:Type}{fl:β}(b o:Nat)(h:af)(V:X3 β):aW fl (.pointer (some ⟨b,o,none⟩)) h V=V (.pointer (some ⟨b,o,none⟩)) h:=id rfl
set_option maxHeartbeats 2000000 in
theorem BS(t r:Int)(q:Value)(w id m:Int)(Q:List R5)(h:af)(V:KQ)(hq:Sl bT h q Q)(hlen:Q.length<=100000)(hlo:h.lo<=h.nx)(hw:0<=w/\w<=1000000)(qn:cE m=false->∀h',Le h h'->V (.tuple ⟨[lF 0 0 (.slice none 0 0) 0,.bool false,X8 2]⟩) h')(dZ:cE m=true->cL Q id=none->∀h',Le h h'->V (.tuple ⟨[lF 0 0 (.slice none 0 0) 0,.bool false,X8 5]⟩) h')(hk2:cE m=true->∀p,cL Q id=some p->0<p.s->∀h',Le h h'->V (.tuple ⟨[lF 0 0 (.slice none 0 0) 0,.bool false,X8 7]⟩) h')(xG:cE m=true->∀i p,Q[i]? = some p->cL Q id=some p->¬0<p.s->∀q' h',QV h' q' (Q.set i (kH Q w p m).1)->Le h h'->V (.tuple ⟨[lF t r q' (kH Q w p m).2.1,.bool (kH Q w p m).2.2,X8 0]⟩) h'):av prog 398 [lF t r q w,X8 id,X8 m] h V:=by
 obtain⟨qx,qc,rfl,_⟩:=(show Sl bT h q Q from hq)
 apply X9;rw[aeJ];simp(disch:=try exact Y)only[Wz,lF];obtain⟨hA,aY,aU,g1,g3,dI,dJ⟩:=AY h (gQ t r (.slice qx Q.length qc) w) (qm);rw[<-aY];clear aY;refine Jn m ?_;cases ha:cE m with
 |false=>
  simp(disch:=try exact Y)only[Wz,g3];exact qn ha _ (aU.set (b:=h.nx+1) X1 _)
 |true=>
 simp(disch:=try exact Y)only[Wz,Jg,g1];refine Jp t r _ w Q hA _ (hq.le aU) X1 X1 ?_;intro q2 h2 nJ hle2;have BM:=hle2.nx;have BN:=hle2.lo;have g3:=(hle2.get _ X1).trans g3;obtain⟨yT,yU,rfl,_⟩:=(show Sl bT h2 q2 Q from nJ.sl)
 simp(disch:=try exact Y)only[Wz,lF];obtain⟨hB,gL,bW,g12,BO,BP⟩:=kG h2 (nR t r (.slice yT Q.length yU) w);rw[<-gL];clear gL;have oN:=bW.nx;have oO:=bW.lo;have g3:=(bW.get _ X1).trans g3;have P8:=nJ.le bW;refine vZ t r _ w id Q hB _ P8.sl X1 X1 ?_;intro h3 cD;have Ud:=cD.nx;have Ue:=cD.lo;have g3:=(cD.get _ X1).trans g3;have g12:=(cD.get _ X1).trans g12;have tM:=P8.le cD;have oK:Le h h3:=((aU.trans hle2).trans bW).trans cD;rcases oM Q id with⟨e,e2⟩|⟨i,p,e,hi,hjd,e2⟩
 .rw[e];simp(disch:=try exact Y)only[Wz,gY,f_ (show(-1:Int)<0 by decide),g3];exact dZ ha e2 _ (oK.set (b:=h.nx+1) X1 _)
 rw[e];obtain⟨b,o,hb,pg,qg⟩:=WJ tM.sl i hi;simp(disch:=try exact Y)only[Wz,gY,d_ (show(0:Int)<=(i:Int)by omega),Jf,g12,pg,qg];refine Fo p ?_;by_cases hs:0<p.s
 .simp(disch:=try exact Y)only[Wz,bz hs,g3];exact hk2 ha p e2 hs _ (oK.set (b:=h.nx+1) X1 _)
 rcases tM with⟨rfl,_⟩|⟨bo,e1,k1,k2,k3,k4⟩
 .simp at hi
 cases e1;have hil:i<Q.length:=(List.getElem?_eq_some_iff.1 hi).1;obtain⟨wt,Ym⟩:∃wt,bZ p.m m=wt:=⟨_,rfl⟩
 have hfl:=bH (enc:=bT) dm Q;have r2:(Q.flatMap bT)[i*5+2]? = some (X8 p.m):=kQ (j:=2) dm hi X7;have E3:=iJ (p':=⟨p.id,p.x,p.m,wt,p.s⟩) (ws:=[X8 wt]) (j:=3) dm hi (by show 3+1<=5;omega) rfl;obtain⟨p1,ep1⟩:∃p1:R5,p1=⟨p.id,p.x,p.m,wt,p.s⟩:=⟨_,rfl⟩
 rw[<-ep1]at E3;have hp2:(Q.set i p1)[i]? = some p1:=by rw[List.getElem?_set,if_pos rfl,if_pos hil]
 have arO:((Q.set i p1).flatMap bT).length=Q.length*5:=by rw[bH dm,List.length_set]
 have s2:((Q.set i p1).flatMap bT)[i*5+2]? = some (X8 p.m):=by rw[kQ (j:=2) dm hp2 X7,ep1];rfl
 have s3:((Q.set i p1).flatMap bT)[i*5+3]? = some (X8 wt):=by rw[kQ (j:=3) dm hp2 X7,ep1];rfl
 have P_:bo≠h2.nx:=by rintro rfl;rw[g12]at k4;exact bI k4
 have Fs:bo≠h.nx+1:=by rintro rfl;rw[g3]at k4;exact bI k4
 simp(disch:=try exact Y)only[Wz,bf hs,Je,g12,bB,aN,k4,r2];refine yR _ _ ?_;rw[Ym];simp(disch:=try exact Y)only[Wz,aN,k4,E3,s2,s3];obtain⟨hC,eC⟩:∃hC:af,hC=⟨h3.nx,h3.bl.a_ bo (aj ((Q.set i p1).flatMap bT) 57 true),h3.lo⟩:=⟨_,rfl⟩
 have Yk:Le h hC:=by subst eC;exact oK.set (b:=bo) X1 _
 have nC:hC.nx=h3.nx:=by rw[eC]
 have lC:hC.lo=h3.lo:=by rw[eC]
 have gC:hC.bl.get bo=some (aj ((Q.set i p1).flatMap bT) 57 true):=by subst eC;exact T.ay _ _ _
 have g3C:hC.bl.get (h.nx+1)=some qm:=by subst eC;exact(T.aD _ _ Fs).trans g3
 have ae5:hC.bl.get h2.nx=some (nR t r (YYY bo Q.length aZ) w):=by subst eC;exact(T.aD _ _ P_).trans g12
 rw[<-eC];have hoC:zq hA hC (YYY bo Q.length aZ) (Q.set i p1):=.inr ⟨bo,by rw[List.length_set],k1,X1,X1,gC⟩;have eid:p.id=p1.id:=by rw[ep1]
 have eup:yO p1=yO p:=by rw[ep1];rfl
 have arP:=Uh hi eid;have arQ:=Yl hi eup
 have ale:∀(g:Bool)(hD:af),hD.bl.get bo=some (aj ((Q.set i p1).flatMap bT) 57 true)->hD.bl.get (h.nx+1)=some qm->hD.bl.get h2.nx=some (nR t r (YYY bo Q.length aZ) w)->Le h hD->hC.nx<=hD.nx->
   kH Q w p m=(⟨p.id,p.x,wt,wt,p.s⟩,w,true)->
   cV (λWH=>BE (.pointer (some ⟨bo,i*5,none⟩)) WH (.bool true) hD) λl76 h_14=>
    xI False (h_14.bl.get h2.nx) 0 4 λl=>Xu False (h_14.bl.get (h.nx+1)) 4 (h.nx+1) 0 l h_14 λh_15=>xI False (h_15.bl.get (h.nx+1)) 0 4 λl=>V (.tuple ⟨[.agg ⟨l⟩,.bool true,X8 0]⟩) h_15:=by
  intro g hD d1 d2 d3 hl hn he;have ll:=hl.lo;have C1:=iJ (p':=⟨p.id,p.x,wt,wt,p.s⟩) (ws:=[X8 wt]) (j:=2) dm hp2 (by show 2+1<=5;omega) (by rw[ep1];rfl);rw[List.set_set]at C1;refine⟨λl h'=>HQ ⟨hD.nx,hD.bl.a_ bo (aj ((Q.set i ⟨p.id,p.x,wt,wt,p.s⟩).flatMap bT) 57 true),hD.lo⟩ h',?_,?_⟩
  .simp(disch:=try exact Y)only[Wz,BE,aN,d1,s3,C1];rfl
  .intro l h' MY;cases(show _=h' from MY);simp(disch:=try exact Y)only[Wz,d3,d2];have key:=xG ha i p hi e2 hs;rw[he]at key;exact key _ _ (QV.blk (by show bo<hD.nx;omega) ((T.aD _ _ (λe=>Fs e.symm)).trans (T.ay _ _ _)) (by simp)) ((hl.set (b:=bo) X1 _).set (b:=h.nx+1) X1 _)
 have alf:∀(hD:af),hD.bl.get bo=some (aj ((Q.set i p1).flatMap bT) 57 true)->hD.bl.get (h.nx+1)=some qm->hD.bl.get h2.nx=some (nR t r (YYY bo Q.length aZ) w)->Le h hD->hC.nx<=hD.nx->
   kH Q w p m=(⟨p.id,p.x,p.m,wt,w+1⟩,w+1,false)->
   cV (λWH=>BF h2.nx (.pointer (some ⟨bo,i*5,none⟩)) WH (.bool false) hD) λl76 h_14=>
    xI False (h_14.bl.get h2.nx) 0 4 λl=>Xu False (h_14.bl.get (h.nx+1)) 4 (h.nx+1) 0 l h_14 λh_15=>xI False (h_15.bl.get (h.nx+1)) 0 4 λl=>V (.tuple ⟨[.agg ⟨l⟩,.bool false,X8 0]⟩) h_15:=by
  intro hD d1 d2 d3 hl hn he;have ll:=hl.lo;have C1:=iJ (p':=⟨p.id,p.x,p.m,wt,w+1⟩) (ws:=[X8 (w+1)]) (j:=4) dm hp2 (by show 4+1<=5;omega) (by rw[ep1];rfl);rw[List.set_set]at C1;refine⟨λl h'=>HQ ⟨hD.nx,(hD.bl.a_ h2.nx (nR t r (YYY bo Q.length aZ) (w+1))).a_ bo (aj ((Q.set i ⟨p.id,p.x,p.m,wt,w+1⟩).flatMap bT) 57 true),hD.lo⟩ h',?_,?_⟩
  .simp(disch:=try exact Y)only[Wz,BF,aN,d1,d3,C1];rfl
  .intro l h' MY;cases(show _=h' from MY);simp(disch:=try exact Y)only[Wz,d3,d2];have key:=xG ha i p hi e2 hs;rw[he]at key;exact key _ _ (QV.blk (by show bo<hD.nx;omega) ((T.aD _ _ (λe=>Fs e.symm)).trans (T.ay _ _ _)) (by simp)) (((hl.set (b:=h2.nx) X1 _).set (b:=bo) X1 _).set (b:=h.nx+1) X1 _)
 by_cases hq1:wt=p.m
 .simp(disch:=try exact Y)only[Wz,bz hq1];exact ale true hC gC g3C ae5 Yk (Nat.le_refl _) (by unfold kH;rw[Ym,if_pos (by simp[hq1])])
 ·have fa:(((Q.set i p1).flatMap bT).drop (i*5)).take 5=bT p1:=by
   have:=zO (enc:=bT) dm (Q.set i p1) i (by simpa using hil);rw[this,(List.getElem?_eq_some_iff.1 hp2).2]
  simp(disch:=try exact Y)only[Wz,bf hq1,g12,ae5,gC,fa];refine Fp t r _ w p1 (Q.set i p1) hC _ hoC.sl (by simp;omega) X1 ?_;intro h5 fR;have n5:=fR.nx;have l5:=fR.lo;have d1:=(fR.get bo X1).trans gC;have d2:=(fR.get (h.nx+1) X1).trans g3C;have d3:=(fR.get h2.nx X1).trans ae5;have hl5:=Yk.trans fR;rw[arP];have alg:iY Q p1=iY Q ⟨p.id,p.x,p.m,bZ p.m m,p.s⟩:=by rw[ep1,Ym]
  cases hft:iY Q p1 with
  |false=>
   simp(disch:=try exact Y)only[Wz];refine alf h5 d1 d2 d3 hl5 n5 ?_;unfold kH;rw[Ym,if_neg];rw[<-Ym,<-alg,hft,Ym];simp[hq1]
  |true=>
   simp(disch:=try exact Y)only[Wz,d3];refine oL (Q.set i p1) yO h5 _ _ _ (hoC.sl.le fR) (by simp;omega) ?_ ?_
   .intro o ho h6 κ6 hl6 Yn;simp(disch:=try exact Y)only[Wz,List.nil_append,List.append_nil];exact BK o (Yn h6 (Le.refl _))
   .intro h6 mB;have n6:=mB.nx;have l6:=mB.lo;have d1:=(mB.get bo X1).trans d1;have d2:=(mB.get (h.nx+1) X1).trans d2;have d3:=(mB.get h2.nx X1).trans d3;have hl6:=hl5.trans mB;rw[arQ];cases han:Q.any yO with
    |true=>
     simp(disch:=try exact Y)only[Wz];refine alf h6 d1 d2 d3 hl6 X1 ?_;unfold kH;rw[Ym,if_neg];rw[han];simp[hq1]
    |false=>
     simp(disch:=try exact Y)only[Wz];refine ale true h6 d1 d2 d3 hl6 X1 ?_;unfold kH;rw[Ym,if_pos];rw[<-Ym,<-alg,hft,han];simp
end Go.Proofs

namespace Go.Vai
section
variable {α:Type}{s:Nat}{enc:α->List Value}
set_option maxRecDepth 20000 in
theorem LY{a h:af}{e:TypeId}{z:List Value}{v x:Value}{L M:List α}(he:∀a:α,(enc a).length=s)(hone:∀a:α,(enc a).all ef=true)(hs0:0<s)(hs1:s<=100)(ho:Own enc a e h v L)(hx:Sl enc h x M)(hle:Le a h)(hb:L.length+M.length<=1000000)(hal:h.lo<=h.nx)(V:KQ)(hk:∀v' h',Own enc a e h' v' (L++M)->Le a h'->h'.nx<=h.nx+1->h.nx<=h'.nx->h'.lo=h.lo->(∀b,b<h.nx->h.bl.get b≠some (aj (L.flatMap enc) e true)->h'.bl.get b=h.bl.get b)->(∀b,b<h.nx->(∀n cap,v≠YYY b n cap)->h'.bl.get b=h.bl.get b)->(v'=v\/∃b n cap,h.nx<=b/\v'=YYY b n cap)->V v' h'):cg False e s z false v x h V:=by
 by_cases hM:M=[]
 .subst hM;rw[append_nil hx (by rcases ho with⟨rfl,rfl|⟨b,o,rfl⟩⟩|⟨b,rfl,_⟩<;>exact⟨_,_,_,rfl⟩)];exact hk v h (by simpa using ho) hle (Nat.le_succ _) (Nat.le_refl _) rfl (λ_ _ _=>rfl) (λ_ _ _=>rfl) (.inl rfl)
 .obtain⟨m,hm⟩:∃m,M.length=m+1:=⟨M.length-1,by have:=List.length_pos_iff.2 hM;omega⟩
  have hfl:=bH (enc:=enc) he;have kP:=hx.first (β:=Prop) (fl:=False) he;obtain⟨y,cap,rfl,h2⟩:=hx;have hml:∀K:List α,K.length<=1000000->(K.flatMap enc).length<=1000000000000:=λK hK=>by
   rw[hfl];have:=Nat.mul_le_mul hK hs1;omega
  have fresh:∀(hh:af)(ws:List Value),ws=(L++M).flatMap enc->Le a hh->hh.nx=h.nx->hh.lo=h.lo->(∀b,b<h.nx->h.bl.get b≠some (aj (L.flatMap enc) e true)->hh.bl.get b=h.bl.get b)->(∀b,b<h.nx->(∀n cap,v≠YYY b n cap)->hh.bl.get b=h.bl.get b)->dV False ws e true hh λb h'=>V (YYY b (L.length+M.length) aZ) h':=by
   intro hh ws hw hah yE hlo hgt arR;subst hw;unfold dV;rw[jK _ _ _ _ (hml _ (by simp;omega)),dO];refine hk _ _ (.inr ⟨hh.nx,by simp,hah.nx,Nat.lt_succ_self _,by show hh.lo<=_;omega,T.ay _ _ _⟩) (hah.new _) (by show hh.nx+1<=_;omega) (by show h.nx<=hh.nx+1;omega) hlo (λb hb hn=>(T.aD _ _ X1).trans (hgt b hb hn)) (λb hb hn=>(T.aD _ _ X1).trans (arR b hb hn)) (.inr ⟨hh.nx,_,_,X1,rfl⟩)
  rcases ho with⟨rfl,hv⟩|⟨b,rfl,h3,h4,h5,h6⟩
  .have hF:=fresh h (M.flatMap enc) (by simp) hle rfl rfl (λ_ _ _=>rfl) (λ_ _ _=>rfl);simp only[List.length_nil,Nat.zero_add]at hF;rcases hv with rfl|⟨b,o,rfl⟩
   .unfold cg oz;simp only;rw[kP];simp only[hm,cC];rw[show Nat.ble (Nat.add 0 (m+1)) 1000000000=true from Nat.ble_eq_true_of_le (by show 0+(m+1)<=_;omega)];rw[hm]at hF;have e1:Nat.add 0 (m+1)=m+1:=by show 0+(m+1)=_;omega
    rw[e1];exact hF
   .unfold cg oz;simp only;rw[kP];simp only[hm,cC];have e1:Nat.add 0 (m+1)=m+1:=by show 0+(m+1)=_;omega
    rw[e1,show Nat.ble (m+1) 1000000000=true from Nat.ble_eq_true_of_le X1];rw[hm]at hF
    show fe False h s 0 _ _
    rw[lW _ _ _ _ _ (by simp)];exact hF
  .unfold cg oz;simp only;rw[kP];simp only[hm,cC];have e1:Nat.add L.length (m+1)=L.length+(m+1):=rfl;rw[e1,show Nat.ble (L.length+(m+1)) 1000000000=true from Nat.ble_eq_true_of_le X1];have e2:Nat.beq aZ ig=false:=by decide
   have e3:Nat.beq aZ aZ=true:=Nat.beq_refl _;simp only[e2,e3,h6];have e4:Nat.ble (Nat.add 0 (Nat.mul (L.length+(m+1)) s)) (L.flatMap enc).length=false:=by
    rw[hfl];cases Xv:Nat.ble (Nat.add 0 (Nat.mul (L.length+(m+1)) s)) (L.length*s)with
    |false=>rfl
    |true=>
     have h7:0+(L.length+(m+1))*s<=L.length*s:=Nat.le_of_ble_eq_true Xv;rw[Nat.add_mul,Nat.succ_mul]at h7;omega
   have e5:(M.flatMap enc).all ef=true:=by
    rw[List.all_flatMap];simp only[List.all_eq_true];intro x _;exact List.all_eq_true.1 (hone x)
   simp only[aj,Nat.beq_refl,e4,e5,Bool.and_self];have hh:Has (h.bl.get b) 0 (L.flatMap enc):=by rw[h6];exact Has.all
   rw[kN hh s L.length _ _ _ (hfl L).symm,bG _ _ _ _ h5];have hF:=fresh ⟨h.nx,h.bl.a_ b (.dead (L.flatMap enc).length e),h.lo⟩ (L.flatMap enc++M.flatMap enc) (by simp) (hle.set h3 _) rfl rfl (λb' _ hn=>T.aD _ _ (λe=>hn (by rw[<-e];exact h6))) (λb' _ hn=>T.aD _ _ (by rintro rfl;exact hn _ _ rfl));rw[hm]at hF;exact hF
end
theorem oP{v v':Value}{vs vs':List Value}{e e':TypeId}{p p':Bool}(h:(some (aj (v::vs) e p):Option bP)=some (aj (v'::vs') e' p')):v=v':=by
 have h1:=congrArg (λob=>w8 (none:Option Value) ob 0 some) h;simp only[sZ]at h1;exact Option.some.inj h1
end Go.Vai
namespace Go.Proofs
open Go.Vai Go.Clashes
open Tryz (prog)
def Yo(b:Nat):Value:=.iface 306 (UV b)
theorem Ui(b : Nat)(h : af)(V : Value → af → Prop):kI prog "Len" (Yo b) [] h V = (aa False 0 (.pointer (some ⟨b, 0, none⟩)) h fun a h => aF False a h fun v h => av prog 175 [v] h V) := by kernel_rfl
theorem Ft(b : Nat)(i j : Value)(h : af)(V : Value → af → Prop):kI prog "Less" (Yo b) [i, j] h V = (aa False 0 (.pointer (some ⟨b, 0, none⟩)) h fun a h => aF False a h fun v h => av prog 465 [v, i, j] h V) := by kernel_rfl
theorem Fu(b : Nat)(i j : Value)(h : af)(V : Value → af → Prop):kI prog "Swap" (Yo b) [i, j] h V = (aa False 0 (.pointer (some ⟨b, 0, none⟩)) h fun a h => aF False a h fun v h => av prog 467 [v, i, j] h V) := by kernel_rfl
theorem Yp(b : Nat)(x : Value)(h : af)(V : Value → af → Prop):kI prog "Push" (Yo b) [x] h V = av prog 469 [.pointer (some ⟨b, 0, none⟩), x] h V := by kernel_rfl
theorem ae6(b : Nat)(h : af)(V : Value → af → Prop):kI prog "Pop" (Yo b) [] h V = av prog 468 [.pointer (some ⟨b, 0, none⟩)] h V := by kernel_rfl
def rB(h:af)(v:Value)(F:List Int):Prop:=(F=[]/\v=.slice none 0 0)\/∃b G,v=YYY b F.length aZ/\b<h.nx/\h.lo<=b/\h.bl.get b=some (aj ((F++G).flatMap fG) 3 true)/\0<(F++G).length
structure ir(h:af)(bp:Nat)(F:List Int)(ls:Value):Prop where
 lt:bp<h.nx
 lo:h.lo<=bp
 cell:∃fs,h.bl.get bp=some (aj [fs,ls] 286 false)/\rB h fs F
def FB(h:af)(bp c:Nat):Prop:=∃n cap ls,h.bl.get bp=some (aj [YYY c n cap,ls] 286 false)
theorem FB.congr{h h':af}{bp c:Nat}(e:h'.bl.get bp=h.bl.get bp):FB h' bp c<->FB h bp c:=by unfold FB;rw[e]
structure BT(bp:Nat)(h h':af):Prop where
 nx:h.nx<=h'.nx
 lo:h'.lo=h.lo
 get:∀c,c<h.nx->c≠bp->(∀vs,h.bl.get c≠some (aj vs 3 true))->h'.bl.get c=h.bl.get c
 g2:bp<h.nx->∀c,c<h.nx->c≠bp->¬FB h bp c->h'.bl.get c=h.bl.get c
 mv:bp<h.nx->∀c,c<h.nx->FB h' bp c->FB h bp c
theorem BT.refl(bp:Nat)(h:af):BT bp h h:=⟨Nat.le_refl _,rfl,λ_ _ _ _=>rfl,λ_ _ _ _ _=>rfl,λ_ _ _ x=>x⟩
theorem BT.trans{bp:Nat}{h h' h'':af}(a:BT bp h h')(b:BT bp h' h''):BT bp h h'':=
 ⟨Nat.le_trans a.nx b.nx,b.lo.trans a.lo,λc hc hn hi=>(b.get c (Nat.lt_of_lt_of_le hc a.nx) hn (λvs=>by rw[a.get c hc hn hi];exact hi vs)).trans (a.get c hc hn hi),
  λhb c hc hn hi=>(b.g2 (Nat.lt_of_lt_of_le hb a.nx) c (Nat.lt_of_lt_of_le hc a.nx) hn λx=>hi (a.mv hb c hc x)).trans (a.g2 hb c hc hn hi),
  λhb c hc x=>a.mv hb c hc (b.mv (Nat.lt_of_lt_of_le hb a.nx) c (Nat.lt_of_lt_of_le hc a.nx) x)⟩
theorem BT.swap{bp:Nat}{h h':af}{fs ls:Value}(hg:h.bl.get bp=some (aj [fs,ls] 286 false))(q1:h'.nx=h.nx)(q2:h'.lo=h.lo)(q4:∀c,(∀vs,h.bl.get c≠some (aj vs 3 true))->h'.bl.get c=h.bl.get c)(q5:∀c,(∀n cap,fs≠YYY c n cap)->h'.bl.get c=h.bl.get c):BT bp h h':=
 ⟨X1,q2,λc _ _ hi=>q4 c hi,λ_ c _ _ hn=>q5 c λn cap e=>hn ⟨n,cap,ls,e▸hg⟩,λ_ c _ x=>(FB.congr (q4 bp λvs=>by rw[hg];exact bI)).1 x⟩
theorem v_(F:List Int)(h:af)(v:Value)(V:KQ)(hp:rB h v F)(hk:V (X8 (F.length:Int)) h):av prog 175 [v] h V:=by
 apply X9;rw[ac9];rcases hp with⟨rfl,rfl⟩|⟨b,G,rfl,_⟩
 .simp(disch:=try exact Y)only[Wz];exact hk
 .simp(disch:=try exact Y)only[Wz];exact hk
theorem sy{F G:List Int}{i:Nat}{x:Int}(hx:F[i]? = some x):((F++G).flatMap fG)[i]? = some (X8 x):=by
 have h1:(F++G)[i]? = some x:=by rw[List.getElem?_append_left (List.getElem?_eq_some_iff.1 hx).1];exact hx
 have:=kQ (j:=0) gf h1 X7;simpa[fG]using this
theorem BU{F G:List Int}{i:Nat}{y:Int}(hi:i<F.length):over ((F++G).flatMap fG) i [X8 y]=((F.set i y)++G).flatMap fG:=by
 have h1:(F++G)[i]? = some F[i]:=by rw[List.getElem?_append_left hi];exact List.getElem?_eq_getElem hi
 have:=iJ (p':=y) (ws:=[X8 y]) (j:=0) gf h1 (by show 0+1<=1;omega) rfl;rw[Nat.mul_one,Nat.add_zero]at this;rw[this,List.set_append,if_pos hi]
theorem xX(F:List Int)(i j:Nat)(h:af)(v:Value)(V:KQ)(hp:rB h v F)(hi:i<F.length)(hj:j<F.length)(hk:V (.bool (decide (F[i]<F[j]))) h):av prog 465 [v,X8 (i:Int),X8 (j:Int)] h V:=by
 apply X9;rw[aeV];rcases hp with⟨rfl,rfl⟩|⟨b,G,rfl,h1,h2,h3,h4⟩
 .simp at hi
 .have r1:=sy (G:=G) (List.getElem?_eq_getElem hi);have r2:=sy (G:=G) (List.getElem?_eq_getElem hj);simp(disch:=try exact Y)only[Wz,bB,h3,r1,r2,Nat.mul_one];exact hk
def qp(F:List Int)(i j:Nat):List Int:=match F[i]?,F[j]? with|some x,some y=>(F.set i y).set j x|_,_=>F
theorem wg{F:List Int}{i j:Nat}(hi:i<F.length)(hj:j<F.length):qp F i j=(F.set i F[j]).set j F[i]:=by
 simp only[qp,List.getElem?_eq_getElem hi,List.getElem?_eq_getElem hj]
theorem xY(F:List Int)(i j:Nat):(qp F i j).length=F.length:=by
 unfold qp;split<;>simp
theorem xZ(F:List Int)(i j:Nat)(h:af)(v:Value)(V:KQ)(hp:rB h v F)(hi:i<F.length)(hj:j<F.length)(hk:∀h',h'.nx=h.nx->h'.lo=h.lo->rB h' v (qp F i j)->(∀c,(∀vs,h.bl.get c≠some (aj vs 3 true))->h'.bl.get c=h.bl.get c)->(∀c,(∀n cap,v≠YYY c n cap)->h'.bl.get c=h.bl.get c)->V (.tuple ⟨[]⟩) h'):av prog 467 [v,X8 (i:Int),X8 (j:Int)] h V:=by
 apply X9;rw[aeW];rcases hp with⟨rfl,rfl⟩|⟨b,G,rfl,h1,h2,h3,h4⟩
 .simp at hi
 .have r1:=sy (G:=G) (List.getElem?_eq_getElem hi);have r2:=sy (G:=G) (List.getElem?_eq_getElem hj);have hl:=bH (enc:=fG) gf (F++G);have tg:=bH (enc:=fG) gf ((F.set i F[j])++G);have ov1:=BU (G:=G) (y:=F[j]) hi;have ov2:=BU (G:=G) (F:=F.set i F[j]) (y:=F[i]) (i:=j) (by simpa using hj);have hlen:(F++G).length=F.length+G.length:=List.length_append;have avf:((F.set i F[j])++G).length=F.length+G.length:=by simp
  simp(disch:=try exact Y)only[Wz,bB,h3,r1,r2,Nat.mul_one,ov1,ov2];refine hk _ rfl rfl (.inr ⟨b,G,by rw[xY],h1,h2,?_,?_⟩) ?_ λc hc=>T.aD _ _ (by rintro rfl;exact hc _ _ rfl)
  .rw[wg hi hj];exact T.ay _ _ _
  .rw[List.length_append,xY];simpa using h4
  .intro c hc;refine T.aD _ _ ?_;rintro rfl;exact hc _ h3
theorem uR{F:List Int}{i j:Nat}(hi:i<F.length)(hj:j<F.length):(qp F i j).Perm F:=by
 rw[wg hi hj];exact List.set_set_perm hi hj
theorem gD{F:List Int}{i:Nat}(h:i<F.length):F.getD i 0=F[i]:=by
 rw[List.getD_eq_getElem?_getD,List.getElem?_eq_getElem h];rfl
theorem wj{F:List Int}{i j:Nat}(hi:i<F.length)(hj:j<F.length)(k:Nat):(qp F i j).getD k 0=if k=j then F.getD i 0 else if k=i then F.getD j 0 else F.getD k 0:=by
 rw[wg hi hj,gD hi,gD hj];simp only[List.getD_eq_getElem?_getD,List.getElem?_set,List.length_set];by_cases h1:j=k
 .subst h1;rw[if_pos rfl,if_pos hj,if_pos rfl];rfl
 .have h1':¬k=j:=λe=>h1 e.symm;rw[if_neg h1,if_neg h1'];by_cases h2:i=k
  .subst h2;rw[if_pos rfl,if_pos hi,if_pos rfl];rfl
  .have h2':¬k=i:=λe=>h2 e.symm;rw[if_neg h2,if_neg h2']
def HN(F:List Int)(n:Nat):Prop:=∀i,0<i->i<n->F.getD ((i-1) / 2) 0<=F.getD i 0
abbrev HP(F:List Int):Prop:=HN F F.length
structure BV(F:List Int)(j:Nat):Prop where
 a:∀i,0<i->i<F.length->i≠j->F.getD ((i-1) / 2) 0<=F.getD i 0
 b:0<j->∀i,0<i->i<F.length->(i-1) / 2=j->F.getD ((j-1) / 2) 0<=F.getD i 0
structure zw(F:List Int)(i n:Nat):Prop where
 a:∀k,0<k->k<n->(k-1) / 2≠i->F.getD ((k-1) / 2) 0<=F.getD k 0
 b:0<i->∀k,0<k->k<n->(k-1) / 2=i->F.getD ((i-1) / 2) 0<=F.getD k 0
theorem BV.step{F:List Int}{j:Nat}(u:BV F j)(h0:0<j)(hj:j<F.length)(hlt:F.getD j 0<F.getD ((j-1) / 2) 0):BV (qp F ((j-1) / 2) j) ((j-1) / 2):=by
 have hp:(j-1) / 2<F.length:=by omega
 have G:=wj (F:=F) hp hj;have L:=xY F ((j-1) / 2) j;refine⟨λi h1 h2 h3=>?_,λhp0 i h1 h2 h3=>?_⟩
 .rw[L]at h2;rw[G,G];by_cases e1:i=j
  .subst e1;rw[if_neg X1,if_pos rfl,if_pos rfl];omega
  .rw[if_neg e1,if_neg h3];have A:=u.a i h1 h2 e1;by_cases e2:(i-1) / 2=j
   .rw[if_pos e2];exact u.b h0 i h1 h2 e2
   .rw[if_neg e2];by_cases e3:(i-1) / 2=(j-1) / 2
    .rw[if_pos e3];rw[e3]at A;omega
    .rw[if_neg e3];exact A
 .rw[L]at h2;rw[G,G,if_neg X1,if_neg X1];have A:=u.a ((j-1) / 2) hp0 hp X1;by_cases e1:i=j
  .rw[if_pos e1];exact A
  .rw[if_neg e1,if_neg X1];have B:=u.a i h1 h2 e1;rw[h3]at B;omega
theorem BV.Qa{F:List Int}(u:BV F 0):HP F:=λi h1 h2=>u.a i h1 h2 X1
theorem BV.ae7{F:List Int}{j:Nat}(u:BV F j)(hge:F.getD ((j-1) / 2) 0<=F.getD j 0):HP F:=λi h1 h2=>by
 by_cases e:i=j
 .subst e;exact hge
 .exact u.a i h1 h2 e
theorem HP.push{F:List Int}(u:HP F)(x:Int):BV (F++[x]) F.length:=by
 have G:∀k,k<F.length->(F++[x]).getD k 0=F.getD k 0:=λk hk=>by
  rw[List.getD_eq_getElem?_getD,List.getElem?_append_left hk,List.getD_eq_getElem?_getD]
 refine⟨λi h1 h2 h3=>?_,λ_ i h1 h2 h3=>?_⟩
 .rw[List.length_append,List.length_singleton]at h2;rw[G _ X1,G _ X1];exact u i h1 X1
 .rw[List.length_append,List.length_singleton]at h2;omega
theorem zw.step{F:List Int}{i n c:Nat}(d:zw F i n)(hn:n<=F.length)(hc:c<n)(hi:(c-1) / 2=i)(hc0:0<c)(hlt:F.getD c 0<F.getD i 0)(hmin:∀k,0<k->k<n->(k-1) / 2=i->F.getD c 0<=F.getD k 0):zw (qp F i c) c n:=by
 have G:=wj (F:=F) (i:=i) (j:=c) X1 X1;refine⟨λk h1 h2 h3=>?_,λ_ k h1 h2 h3=>?_⟩
 .rw[G,G];by_cases e1:(k-1) / 2=i
  .rw[if_neg h3,if_pos e1];by_cases e2:k=c
   .rw[if_pos e2];omega
   .rw[if_neg e2,if_neg X1];exact hmin k h1 h2 e1
  .rw[if_neg h3,if_neg e1];have A:=d.a k h1 h2 e1;by_cases e2:k=c
   .subst e2;omega
   .rw[if_neg e2];by_cases e3:k=i
    .subst e3;rw[if_pos rfl];exact d.b h1 c hc0 hc hi
    .rw[if_neg e3];exact A
 .rw[G,G,hi,if_neg X1,if_pos rfl,if_neg X1,if_neg X1];have A:=d.a k h1 h2 X1;rw[h3]at A;exact A
theorem zw.Qa{F:List Int}{i n:Nat}(d:zw F i n)(h:n<=2*i+1):HN F n:=λk h1 h2=>d.a k h1 h2 X1
theorem zw.ae7{F:List Int}{i n c:Nat}(d:zw F i n)(hge:F.getD i 0<=F.getD c 0)(hmin:∀k,0<k->k<n->(k-1) / 2=i->F.getD c 0<=F.getD k 0):HN F n:=λk h1 h2=>by
 by_cases e:(k-1) / 2=i
 .have:=hmin k h1 h2 e;rw[e];omega
 .exact d.a k h1 h2 e
theorem HP.pop{F:List Int}(u:HP F)(h0:0<F.length):zw (qp F 0 (F.length-1)) 0 (F.length-1):=by
 have G:=wj (F:=F) (i:=0) (j:=F.length-1) h0 X1;refine⟨λk h1 h2 h3=>?_,λh=>by omega⟩;rw[G,G,if_neg X1,if_neg h3,if_neg X1,if_neg X1];exact u k h1 X1
theorem HP.least{F:List Int}(u:HP F):∀n k,k<n->k<F.length->F.getD 0 0<=F.getD k 0:=by
 intro n
 induction n with
 |zero=>intro k h;omega
 |succ n ih=>
  intro k h1 h2;by_cases e:k=0
  .subst e;exact Int.le_refl _
  .have:=ih ((k-1) / 2) X1 X1;have:=u k X1 h2;omega
theorem HN.take{F:List Int}{n:Nat}(u:HN F n)(hn:n<=F.length):HP (F.take n):=by
 have G:∀k,k<n->(F.take n).getD k 0=F.getD k 0:=λk hk=>by
  rw[List.getD_eq_getElem?_getD,List.getElem?_take,if_pos hk,List.getD_eq_getElem?_getD]
 intro i h1 h2;rw[List.length_take]at h2;rw[G _ X1,G _ X1];exact u i h1 X1
theorem ir.same{h h':af}{bp:Nat}{F F':List Int}{ls fs:Value}(f:ir h bp F ls)(hn:h'.nx=h.nx)(hl:h'.lo=h.lo)(hg:h.bl.get bp=some (aj [fs,ls] 286 false))(hp:rB h' fs F')(hfr:∀c,(∀vs,h.bl.get c≠some (aj vs 3 true))->h'.bl.get c=h.bl.get c):ir h' bp F' ls:=
 ⟨by rw[hn];exact f.lt,by rw[hl];exact f.lo,fs,by rw[hfr bp (λvs=>by rw[hg];exact bI)];exact hg,hp⟩
theorem Uj(j:Nat):Int.tdiv ((j:Int)-1) 2=(((j-1) / 2:Nat):Int):=by
 cases j with
 |zero=>rfl
 |succ j=>rw[Int.tdiv_eq_ediv_of_nonneg X1];omega
theorem arS(bp:Nat)(F:List Int)(ls:Value)(j:Nat)(h:af)(V:KQ)(f:ir h bp F ls)(hj:j<F.length)(hlen:F.length<=100000)(hk:∀h' F',ir h' bp F' ls->F'.Perm F->(BV F j->HP F')->BT bp h h'->V (.tuple ⟨[]⟩) h'):av prog 289 [Yo bp,X8 (j:Int)] h V:=by
 apply X9;rw[ad4];refine⟨λn l h1=>∃(k:Nat)(F1:List Int),ah l 19=X8 (k:Int)/\n=k/\k<F.length/\F1.Perm F/\(BV F j->BV F1 k)/\ir h1 bp F1 ls/\BT bp h h1,⟨_,j,F,rfl,rfl,hj,List.Perm.refl _,id,f,BT.refl _ _⟩,?_⟩;rintro n l h1 ⟨k,F1,s1,rfl,dZ,hp1,RZ,f1,OF⟩;have rJ:=hp1.length_eq;have e1:=Uj n;by_cases h0:n=0
 .subst h0;simp(disch:=try exact Y)only[Wz,Bv,s1,Nh,e1];exact hk h1 F1 f1 hp1 (λu=>(RZ u).Qa) OF
 .obtain⟨fs,hg,hpt⟩:=f1.cell;simp(disch:=try exact Y)only[Wz,Bv,s1,Nh,e1,Sz,Ft,hg];refine xX F1 n ((n-1) / 2) h1 _ _ hpt X1 X1 ?_;by_cases hls:F1[n]'X1<F1[(n-1) / 2]'X1
  .simp(disch:=try exact Y)only[Wz,bz hls,Fu,hg];refine xZ F1 ((n-1) / 2) n h1 _ _ hpt X1 X1 ?_;intro h2 q1 q2 q3 q4 q5;refine⟨_,?_,(n-1) / 2,qp F1 ((n-1) / 2) n,rfl,rfl,X1,(uR X1 X1).trans hp1,λu=>(RZ u).step X1 X1 (by rw[gD X1,gD X1];exact hls),f1.same q1 q2 hg q3 q4,OF.trans (.swap hg q1 q2 q4 q5)⟩;omega
  .simp(disch:=try exact Y)only[Wz,bf hls];exact hk h1 F1 f1 hp1 (λu=>(RZ u).ae7 (by rw[gD X1,gD X1];omega)) OF
set_option maxHeartbeats 1000000 in
theorem ae8(bp:Nat)(F:List Int)(ls:Value)(i0 n:Nat)(h:af)(V:KQ)(f:ir h bp F ls)(hn:n<=F.length)(hlen:F.length<=100000)(hi0:i0<=100000)(hk:∀r h' F',ir h' bp F' ls->F'.Perm F->(∀k,n<=k->F'[k]? = F[k]?)->(zw F i0 n->HN F' n)->BT bp h h'->V (.bool r) h'):av prog 217 [Yo bp,X8 (i0:Int),X8 (n:Int)] h V:=by
 apply X9;rw[adI];refine⟨λl h'=>∃(k:Nat)(F':List Int),ah l 36=X8 (k:Int)/\ir h' bp F' ls/\F'.Perm F/\(∀k,n<=k->F'[k]? = F[k]?)/\(zw F i0 n->HN F' n)/\BT bp h h',?_,?_⟩
 rotate_left
 .rintro l h' ⟨k,F',s1,q1,q2,q3,q4,q5⟩;simp(disch:=try exact Y)only[Wz,s1];exact hk _ h' F' q1 q2 q3 q4 q5
 refine⟨λm l h1=>∃(i:Nat)(F1:List Int),ah l 36=X8 (i:Int)/\m=200002-i/\i<=200000/\(i<n\/i=i0)/\F1.Perm F/\(∀k,n<=k->F1[k]? = F[k]?)/\(zw F i0 n->zw F1 i n)/\ir h1 bp F1 ls/\BT bp h h1,⟨_,i0,F,rfl,rfl,X1,.inr rfl,List.Perm.refl _,λ_ _=>rfl,id,f,BT.refl _ _⟩,?_⟩;rintro m l h1 ⟨i,F1,s1,rfl,hi,hin,hp1,ht1,hd1,f1,OF⟩;have rJ:=hp1.length_eq;obtain⟨fs,hg,hpt⟩:=f1.cell;by_cases hst:2*i+1<n
 case neg=>
  simp(disch:=try exact Y)only[Wz,Bt,s1,d_ (show(n:Int)<=2*(i:Int)+1 by omega)];exact⟨i,F1,rfl,f1,hp1,ht1,λd=>(hd1 d).Qa X1,OF⟩
 have c1:(2*(i:Int)+1)=((2*i+1:Nat):Int):=by omega
 simp(disch:=try exact Y)only[Wz,Bt,s1,c1,f_ (show((2*i+1:Nat):Int)<(n:Int)by omega),d_ (show(0:Int)<=((2*i+1:Nat):Int)by omega),IA];refine⟨λnh h'=>∃j:Nat,ah nh 13=X8 (j:Int)/\i<j/\j<n/\(j-1) / 2=i/\(∀k,0<k->k<n->(k-1) / 2=i->F1.getD j 0<=F1.getD k 0)/\HQ h1 h',?_,?_⟩
 .have c2:((2*i+1:Nat):Int)+1=((2*i+2:Nat):Int):=by omega
  by_cases h2:2*i+2<n
  .simp(disch:=try exact Y)only[Wz,Bs,c2,f_ (show((2*i+2:Nat):Int)<(n:Int)by omega),Ft,hg];refine xX F1 (2*i+2) (2*i+1) h1 _ _ hpt X1 X1 ?_;by_cases hls:F1[2*i+2]'X1<F1[2*i+1]'X1
   ·simp(disch:=try exact Y)only[Wz,bz hls];exact⟨2*i+2,rfl,X1,h2,X1,λk k0 k1 k2=>by
     have ek:k=2*i+1\/k=2*i+2:=by omega
     rcases ek with rfl|rfl
     .rw[gD X1,gD X1];omega
     .exact Int.le_refl _,rfl⟩
   ·simp(disch:=try exact Y)only[Wz,bf hls];exact⟨2*i+1,rfl,X1,hst,X1,λk k0 k1 k2=>by
     have ek:k=2*i+1\/k=2*i+2:=by omega
     rcases ek with rfl|rfl
     .exact Int.le_refl _
     .rw[gD X1,gD X1];omega,rfl⟩
  ·simp(disch:=try exact Y)only[Wz,Bs,c2,d_ (show(n:Int)<=((2*i+2:Nat):Int)by omega)];exact⟨2*i+1,rfl,X1,hst,X1,λk k0 k1 k2=>by
    have ek:k=2*i+1:=by omega
    rw[ek];exact Int.le_refl _,rfl⟩
 .rintro nh h' ⟨j,s2,hij,hjn,hjp,hmin,hq⟩;cases(show h1=h' from hq);simp(disch:=try exact Y)only[Wz,s1,s2,Ft,hg];refine xX F1 j i h1 _ _ hpt X1 X1 ?_;by_cases hls:F1[j]'X1<F1[i]'X1
  .simp(disch:=try exact Y)only[Wz,bz hls,Fu,hg,s1,s2];refine xZ F1 i j h1 _ _ hpt X1 X1 ?_;intro h2 q1 q2 q3 q4 q5;refine⟨_,?_,j,qp F1 i j,rfl,rfl,X1,.inl hjn,(uR X1 X1).trans hp1,?_,λd=>(hd1 d).step X1 hjn hjp X1 (by rw[gD X1,gD X1];exact hls) hmin,f1.same q1 q2 hg q3 q4,OF.trans (.swap hg q1 q2 q4 q5)⟩
   .omega
   .intro k dZ;rw[<-ht1 k dZ,wg X1 X1,List.getElem?_set,if_neg X1,List.getElem?_set,if_neg X1]
  .simp(disch:=try exact Y)only[Wz,bf hls,s1];exact⟨i,F1,rfl,f1,hp1,ht1,λd=>(hd1 d).ae7 (by rw[gD X1,gD X1];omega) hmin,OF⟩
theorem Jt{h:af}{v:Value}{F:List Int}{x:Int}{b7 c7:Nat}(hp:rB h v F)(hb7:b7<h.nx)(hg7:h.bl.get b7=some (aj [X8 x] 3 false))(hlen:F.length<=100000)(hal:h.lo<=h.nx)(V:KQ)(hk:∀v' h',rB h' v' (F++[x])->h.nx<=h'.nx->h'.lo=h.lo->(∀c,c<h.nx->(∀vs,h.bl.get c≠some (aj vs 3 true))->h'.bl.get c=h.bl.get c)->(∀c,c<h.nx->(∀n cap,v≠YYY c n cap)->h'.bl.get c=h.bl.get c)->(∀c n cap,c<h.nx->v'=YYY c n cap->∃n cap,v=YYY c n cap)->V v' h'):cg False 3 1 [X8 0] false v (YYY b7 1 c7) h V:=by
 have hx:Sl fG h (YYY b7 1 c7) [x]:=Sl.new (L:=[x]) (e:=3) (op:=false) hb7 (by simpa[fG]using hg7) _;have full:Own fG ⟨0,.nil,h.lo⟩ 3 h v F->(∀v' h',Own fG ⟨0,.nil,h.lo⟩ 3 h' v' (F++[x])->rB h' v' (F++[x]))->cg False 3 1 [X8 0] false v (YYY b7 1 c7) h V:=by
  intro ho alj;refine LY (enc:=fG) (a:=⟨0,.nil,h.lo⟩) (L:=F) (M:=[x]) gf BQ X7 X7 ho hx ⟨Nat.zero_le _,rfl,λb hb=>absurd hb (Nat.not_lt_zero _)⟩ (by simp;omega) hal V ?_;intro v' h' ho' _ _ hn hl hs hs2 hv;refine hk v' h' (alj v' h' ho') hn hl (λc hc hne=>hs c hc (hne _)) hs2 λc n cap hc e=>?_;rcases hv with rfl|⟨b,n',cap',hb,rfl⟩
  .exact⟨n,cap,e⟩
  .injection e with e;injection e with e;injection e with e;omega
 have conv:∀v' h',Own fG ⟨0,.nil,h.lo⟩ 3 h' v' (F++[x])->rB h' v' (F++[x]):=by
  intro v' h' ho;rcases ho with⟨e,_⟩|⟨b,e,_,h2,h3,h4⟩
  .simp at e
  .exact .inr ⟨b,[],e,h2,h3,by rw[List.append_nil];exact h4,by simp⟩
 rcases hp with⟨rfl,rfl⟩|⟨b,G,rfl,h1,h2,h3,h4⟩
 .exact full (.inl ⟨rfl,.inl rfl⟩) conv
 .cases G with
  |nil=>
   rw[List.append_nil]at h3;exact full (.inr ⟨b,rfl,Nat.zero_le _,h1,h2,h3⟩) conv
  |cons g G=>
   have kP:∀κ':List Value->Prop,fe False h 1 1 (YYY b7 1 c7) κ'=κ' [X8 x]:=λκ'=>hx.first (β:=Prop) (fl:=False) gf κ';have hl:=bH (enc:=fG) gf (F++g::G);have hl':(F++g::G).length=F.length+(G.length+1):=by simp
   have E3:=BU (G:=G) (F:=F++[g]) (y:=x) (i:=F.length) (by simp);have e0:F++[g]++G=F++g::G:=by simp
   have e00:(F++[g]).set F.length x=F++[x]:=by simp
   rw[e0,e00]at E3;unfold cg oz;simp only;rw[kP];simp only[cC];have e2:Nat.beq aZ ig=false:=by decide
   have e3:Nat.beq aZ aZ=true:=Nat.beq_refl _;have e5:Nat.ble (Nat.add F.length (0+1)) 1000000000=true:=Nat.ble_eq_true_of_le (by show F.length+(0+1)<=_;omega);have e4:Nat.ble (Nat.add 0 (Nat.mul (Nat.add F.length (0+1)) 1)) ((F++g::G).flatMap fG).length=true:=Nat.ble_eq_true_of_le (by rw[hl];show 0+(F.length+(0+1))*1<=_;omega);simp only[e2,e3,e5,h3,aj,Nat.beq_refl,e4];rw[xK _ _ _ _ _ (by show 0+F.length*1+1<=_;omega) rfl,bG _ _ _ _ h2];have e6:(Nat.add 0 (Nat.mul F.length 1))=F.length:=by show 0+F.length*1=_;omega
   rw[e6,EU _ _ _ (by show F.length+1<=_;omega),E3];have e7:((F++g::G).flatMap fG).length=((F++[x]++G).flatMap fG).length:=by rw[hl,bH gf];simp
   rw[e7];refine hk _ _ (.inr ⟨b,G,by simp,h1,h2,T.ay _ _ _,by simp;omega⟩) (Nat.le_refl _) rfl ?_ ?_ ?_
   .intro c hc hne;refine T.aD _ _ ?_;rintro rfl;exact hne _ h3
   .intro c hc hne;refine T.aD _ _ ?_;rintro rfl;exact hne _ _ rfl
   .intro c n cap hc e;injection e with e;injection e with e;injection e with e
    subst e;exact⟨_,_,rfl⟩
theorem Uk(bp:Nat)(F:List Int)(ls:Value)(x:Int)(h:af)(V:KQ)(f:ir h bp F ls)(hlen:F.length<=10000)(hlo:h.lo<=h.nx)(hls:∃a n c,ls=.slice a n c)(hk:∀h' F',ir h' bp F' ls->F'.Perm (F++[x])->(HP F->HP F')->BT bp h h'->V (.tuple ⟨[]⟩) h'):av prog 206 [Yo bp,.iface 3 (X8 x)] h V:=by
 obtain⟨la,ln,lc,rfl⟩:=hls;apply X9;rw[adA];simp(disch:=try exact Y)only[Wz,Yp];apply X9;rw[aeY];obtain⟨fs,hg,hpt⟩:=f.cell;have hfs:∃a n c,fs=.slice a n c:=by
  rcases hpt with⟨_,rfl⟩|⟨b,G,rfl,_⟩<;>exact⟨_,_,_,rfl⟩
 have hbp:=f.lt;have axX:=f.lo;simp(disch:=try exact Y)only[Wz,fO,Jl,aN,hg];have hle1:=(Le.refl h).new (aj [X8 x] 3 false);obtain⟨hA,eA⟩:∃hA:af,hA=⟨h.nx+1,h.bl.a_ h.nx (aj [X8 x] 3 false),h.lo⟩:=⟨_,rfl⟩
 rw[<-eA]at hle1 ⊢;have nA:hA.nx=h.nx+1:=by rw[eA]
 have lA:hA.lo=h.lo:=by rw[eA]
 have gA:hA.bl.get h.nx=some (aj [X8 x] 3 false):=by rw[eA];exact T.ay _ _ _
 have gbp:=(hle1.get bp hbp).trans hg;have arV:rB hA fs F:=by
  rcases hpt with e|⟨b,G,e,h1,h2,h3,h4⟩
  .exact .inl e
  .exact .inr ⟨b,G,e,X1,X1,(hle1.get b h1).trans h3,h4⟩
 refine Jt arV X1 gA X1 X1 _ ?_;intro v' h2 hp2 n2 l2 hs2 WM hv3;have g2:=(hs2 bp X1 (λvs=>by rw[gbp];exact bI)).trans gbp;have yu:∃a n c,v'=.slice a n c:=by
  rcases hp2 with⟨_,rfl⟩|⟨b,G,rfl,_⟩<;>exact⟨_,_,_,rfl⟩
 obtain⟨va,vn,vc,rfl⟩:=yu;simp(disch:=try exact Y)only[Wz,g2];obtain⟨hB,eB⟩:∃hB:af,hB=⟨h2.nx,h2.bl.a_ bp (aj [.slice va vn vc,.slice la ln lc] 286 false),h2.lo⟩:=⟨_,rfl⟩
 rw[<-eB];have nB:hB.nx=h2.nx:=by rw[eB]
 have lB:hB.lo=h2.lo:=by rw[eB]
 have gB:hB.bl.get bp=some (aj [.slice va vn vc,.slice la ln lc] 286 false):=by rw[eB];exact T.ay _ _ _
 have hpB:rB hB (.slice va vn vc) (F++[x]):=by
  rcases hp2 with e|⟨b,G,e,h1,h2',h3,h4⟩
  .exact .inl e
  .refine .inr ⟨b,G,e,X1,X1,?_,h4⟩;rw[eB];exact(T.aD _ _ (by rintro rfl;rw[g2]at h3;exact bI h3)).trans h3
 have fB:ir hB bp (F++[x]) (.slice la ln lc):=⟨X1,X1,_,gB,hpB⟩
 have frB:BT bp h hB:=by
  refine⟨X1,X1,λc hc hn hi=>?_,λ_ c hc hn hi=>?_,λ_ c hc hx=>?_⟩
  .have e1:hA.bl.get c=h.bl.get c:=hle1.get c hc;rw[eB];exact(T.aD _ _ (λe=>hn e.symm)).trans ((hs2 c X1 (λvs=>by rw[e1];exact hi vs)).trans e1)
  .have e1:hA.bl.get c=h.bl.get c:=hle1.get c hc;rw[eB];exact(T.aD _ _ (λe=>hn e.symm)).trans ((WM c X1 (λn cap e=>hi ⟨n,cap,_,e▸hg⟩)).trans e1)
  .obtain⟨n,cap,ls',hx⟩:=hx;rw[gB]at hx;obtain⟨n',cap',e⟩:=hv3 c n cap X1 (oP hx);exact⟨n',cap',_,e▸hg⟩
 simp(disch:=try exact Y)only[Wz,Ui,gB];refine v_ (F++[x]) hB _ _ hpB ?_;have el:(((F++[x]).length:Nat):Int)-1=(F.length:Int):=by simp
 have el2:(F++[x]).length=F.length+1:=by simp
 simp(disch:=try exact Y)only[Wz,el];refine arS bp (F++[x]) _ F.length hB _ fB X1 X1 ?_;intro h3 F' f3 Sc hu3 fr3;exact hk h3 F' f3 Sc (λu=>hu3 (HP.push u x)) (frB.trans fr3)
theorem alm(bp:Nat)(F:List Int)(ls:Value)(h:af)(V:KQ)(f:ir h bp F ls)(h0:F≠[])(hlen:F.length<=10000)(hlo:h.lo<=h.nx)(hls:∃a n c,ls=.slice a n c)(hk:∀h' F' x,ir h' bp F' ls->(x::F').Perm F->(HP F->HP F'/\∀y∈F',x<=y)->BT bp h h'->V (.iface 3 (X8 x)) h'):av prog 161 [Yo bp] h V:=by
 obtain⟨la,ln,lc,rfl⟩:=hls;have hpos:0<F.length:=List.length_pos_iff.2 h0;apply X9;rw[ac4];obtain⟨fs,hg,hpt⟩:=f.cell;simp(disch:=try exact Y)only[Wz,Ui,hg];refine v_ F h _ _ hpt ?_;have el:((F.length:Nat):Int)-1=((F.length-1:Nat):Int):=by omega
 simp(disch:=try exact Y)only[Wz,el,Fu,hg];refine xZ F 0 (F.length-1) h _ _ hpt hpos X1 ?_;intro h1 q1 q2 q3 q4 q5;have f1:=f.same q1 q2 hg q3 q4;have vf:=uR (F:=F) (i:=0) (j:=F.length-1) hpos X1;have rJ:=vf.length_eq;refine ae8 bp (qp F 0 (F.length-1)) _ 0 (F.length-1) h1 _ f1 X1 X1 X1 ?_;intro r h2 F2 f2 hp2 ht2 hd2 Da;have tg:=hp2.length_eq;obtain⟨fs2,hg2,Yq⟩:=f2.cell;have hbp:=f2.lt;have hlb:=f2.lo;simp(disch:=try exact Y)only[Wz,ae6];apply X9;rw[aeX];simp(disch:=try exact Y)only[Wz,aN,hg2];refine v_ F2 h2 _ _ Yq ?_;have el2:((F2.length:Nat):Int)-1=((F2.length-1:Nat):Int):=by omega
 rcases Yq with⟨e,_⟩|⟨b,G,rfl,k1,k2,k3,k4⟩
 .rw[e]at tg;simp at tg;omega
 obtain⟨x,hx⟩:∃x,F2[F2.length-1]? = some x:=⟨_,List.getElem?_eq_getElem X1⟩
 have hr:=sy (G:=G) hx;have hfl:=bH (enc:=fG) gf (F2++G);have hl3:(F2++G).length=F2.length+G.length:=List.length_append;simp(disch:=try exact Y)only[Wz,el2,hg2,bB,k3,hr,Nat.mul_one,A1 (n:=(F2++G).length) (i:=F2.length-1) (Nat.succ_pos 0) k3 (by rw[hfl]) X1 X1];have hne:b≠bp:=by rintro rfl;rw[hg2]at k3;exact bI k3
 have eF:F2=F2.take (F2.length-1)++[x]:=by
  conv=>lhs;rw[<-List.take_append_drop (F2.length-1) F2]
  congr 1
  have hlt:F2.length-1<F2.length:=by omega
  rw[List.drop_eq_getElem_cons hlt,List.drop_of_length_le X1];rw[List.getElem?_eq_getElem hlt]at hx;cases hx;rfl
 refine hk ⟨h2.nx,h2.bl.a_ bp (aj [YYY b (F2.length-1) aZ,.slice la ln lc] 286 false),h2.lo⟩ (F2.take (F2.length-1)) x ⟨hbp,hlb,_,T.ay _ _ _,.inr ⟨b,x::G,by simp,k1,k2,?_,by simp;omega⟩⟩ ?_ ?_ ?_
 .rw[show F2.take (F2.length-1)++x::G=F2++G by conv=>rhs;rw[eF];simp];exact(T.aD _ _ (λe=>hne e.symm)).trans k3
 .refine List.Perm.trans ?_ (hp2.trans vf)
  conv=>rhs;rw[eF]
  exact(List.perm_append_singleton x _).symm
 ·intro u;refine⟨HN.take (by rw[tg,rJ];exact hd2 (HP.pop u hpos)) X1,λy hy=>?_⟩;have hyF:y∈F:=by
   refine(hp2.trans vf).mem_iff.1 ?_;rw[eF];exact List.mem_append_left _ hy
  obtain⟨k,dZ,rfl⟩:=List.getElem_of_mem hyF;have Xd:x=F.getD 0 0:=by
   have e1:=ht2 (F.length-1) (Nat.le_refl _);rw[tg,rJ,e1,List.getElem?_eq_getElem X1]at hx;have e2:=wj (F:=F) (i:=0) (j:=F.length-1) hpos X1 (F.length-1);rw[if_pos rfl,gD X1]at e2;rw[<-e2];exact(Option.some.inj hx).symm
  rw[Xd,<-gD dZ];exact HP.least u _ k (Nat.lt_succ_self _) dZ
 .refine BT.trans (BT.trans (.swap hg q1 q2 q4 q5) Da) ⟨Nat.le_refl _,rfl,λc _ hn _=>T.aD _ _ (λe=>hn e.symm),λ_ c _ hn _=>T.aD _ _ (λe=>hn e.symm),λ_ c _ hx=>?_⟩;obtain⟨n,cap,ls',hx⟩:=hx;have e:=oP ((T.ay _ _ _).symm.trans hx);injection e with e;injection e with e;injection e with e
  subst e;exact⟨_,_,_,hg2⟩
structure mC(F:List Int)(B:List Bool):Prop where
 nodup:F.Nodup
 mem:∀n:Nat,(n:Int)∈F<->B[n]? = some false
 pos:∀x∈F,0<=x
 hp:HP F
structure fo(h:af)(bp bl:Nat)(F:List Int)(B:List Bool):Prop where
 fr:ir h bp F (YYY bl B.length B.length)
 lt:bl<h.nx
 lo:h.lo<=bl
 cell:h.bl.get bl=some (aj (B.map Value.bool) 4 false)
 ok:mC F B
 small:B.length<=128
theorem mC.take{F F':List Int}{B:List Bool}{x:Int}(o:mC F B)(hp:(x::F').Perm F)(hu:HP F->HP F'/\∀y∈F',x<=y):∃n:Nat,x=(n:Int)/\n<B.length/\B[n]? = some false/\(∀k,k<n->B[k]? = some true)/\mC F' (B.set n true):=by
 have hx:x∈F:=hp.mem_iff.1 (.head _);obtain⟨n,rfl⟩:∃n:Nat,x=(n:Int):=⟨x.toNat,by have:=o.pos x hx;omega⟩
 have hb:=(o.mem n).1 hx;have hn:n<B.length:=(List.getElem?_eq_some_iff.1 hb).1;have hnd:((n:Int)::F').Nodup:=(hp.nodup_iff).2 o.nodup;rw[List.nodup_cons]at hnd;obtain⟨RZ,Xa⟩:=hu o.hp;have ae_:∀k,k<n->B[k]? = some true:=by
  intro k hk;have hkl:k<B.length:=by omega
  rw[List.getElem?_eq_getElem hkl];cases hbk:B[k]with
  |true=>rfl
  |false=>
   have hkF:(k:Int)∈F:=(o.mem k).2 (by rw[List.getElem?_eq_getElem hkl,hbk]);rcases List.mem_cons.1 (hp.mem_iff.2 hkF)with h|h
   .omega
   .have:=Xa _ h;omega
 refine⟨n,rfl,hn,hb,ae_,hnd.2,λk=>?_,λy hy=>o.pos y (hp.mem_iff.1 (.tail _ hy)),RZ⟩;rw[List.getElem?_set];by_cases hk:n=k
 .subst hk;rw[if_pos rfl,if_pos hn];simp[hnd.1]
 .rw[if_neg hk,<-o.mem k,<-hp.mem_iff,List.mem_cons];constructor
  .exact λh=>.inr h
  .rintro(h|h)
   .omega
   .exact h
theorem mC.arW{F F':List Int}{B:List Bool}{n:Nat}(o:mC F B)(hb:B[n]? = some true)(hp:F'.Perm (F++[(n:Int)]))(hu:HP F->HP F'):mC F' (B.set n false):=by
 have hn:n<B.length:=(List.getElem?_eq_some_iff.1 hb).1;have hno:(n:Int)∉F:=λh=>by have:=(o.mem n).1 h;rw[hb]at this;cases this
 refine⟨(hp.nodup_iff).2 ?_,λk=>?_,λy hy=>?_,hu o.hp⟩
 .rw[List.nodup_append];refine⟨o.nodup,by simp,λa ha b hb'=>?_⟩;rw[List.mem_singleton]at hb';subst hb';rintro rfl;exact hno ha
 .rw[hp.mem_iff,List.mem_append,List.mem_singleton,List.getElem?_set];by_cases hk:n=k
  .subst hk;rw[if_pos rfl,if_pos hn];simp
  .rw[if_neg hk,<-o.mem k];constructor
   .rintro(h|h)
    .exact h
    .omega
   .exact λh=>.inl h
 .rcases List.mem_append.1 (hp.mem_iff.1 hy)with h|h
  .exact o.pos y h
  .rw[List.mem_singleton]at h;omega
theorem aaO(h:af)(b o:Nat):mR prog h 100 191 (.pointer (some ⟨b,o,none⟩)) (.pointer none)=some false:=by kernel_rfl
theorem Fv{β:Type}{fl:β}(cn:Bool)(b o:Nat)(h:af)(V:X3 β):aI fl prog .eql 191 cn false (.pointer (some ⟨b,o,none⟩)) (.pointer none) h V=V (.bool false) h:=by simp only[aI,aaO,bX]
theorem Fw{β:Type}{fl:β}(cn:Bool)(b o:Nat)(h:af)(V:X3 β):aI fl prog .neq 191 cn false (.pointer (some ⟨b,o,none⟩)) (.pointer none) h V=V (.bool true) h:=by simp only[aI,aaO,bX,Bool.not_false]
theorem aaP(bp bl:Nat)(F:List Int)(B:List Bool)(i:Int)(h:af)(V:KQ)(p:fo h bp bl F B)(hk:V (.bool (decide (0<=i) && (B[i.toNat]?).getD false)) h):av prog 342 [UV bp,X8 i] h V:=by
 apply X9;rw[aem];obtain⟨fs,hg,hpt⟩:=p.fr.cell;by_cases h0:0<=i
 .obtain⟨n,rfl⟩:∃n:Nat,i=(n:Int):=⟨i.toNat,X1⟩
  rw[bz h0,Bool.true_and,Int.toNat_natCast]at hk;by_cases h1:n<B.length
  .have hr:(B.map Value.bool)[n]? = some (.bool B[n]):=by rw[List.getElem?_map,List.getElem?_eq_getElem h1];rfl
   rw[List.getElem?_eq_getElem h1]at hk;simp(disch:=try exact Y)only[Wz,Fw,aN,hg,d_ h0,f_ (show(n:Int)<(B.length:Int)by omega),bB,p.cell,hr,Nat.mul_one];exact hk
  .rw[List.getElem?_eq_none X1]at hk;simp(disch:=try exact Y)only[Wz,Fw,aN,hg,d_ h0,d_ (show(B.length:Int)<=(n:Int)by omega)];exact hk
 .rw[bf h0,Bool.false_and]at hk;simp(disch:=try exact Y)only[Wz,Fw,aN,hg,f_ (show i<0 by omega)];exact hk
structure OG(bp bl:Nat)(h h':af):Prop where
 nx:h.nx<=h'.nx
 lo:h'.lo=h.lo
 get:∀c,c<h.nx->c≠bp->c≠bl->(∀vs,h.bl.get c≠some (aj vs 3 true))->h'.bl.get c=h.bl.get c
 g2:bp<h.nx->∀c,c<h.nx->c≠bp->c≠bl->¬FB h bp c->h'.bl.get c=h.bl.get c
 mv:bp<h.nx->∀c,c<h.nx->FB h' bp c->FB h bp c
theorem OG.trans{bp bl:Nat}{h h' h'':af}(a:OG bp bl h h')(b:OG bp bl h' h''):OG bp bl h h'':=
 ⟨Nat.le_trans a.nx b.nx,b.lo.trans a.lo,λc hc hn hl hi=>(b.get c (Nat.lt_of_lt_of_le hc a.nx) hn hl (λvs=>by rw[a.get c hc hn hl hi];exact hi vs)).trans (a.get c hc hn hl hi),
  λhb c hc hn hl hi=>(b.g2 (Nat.lt_of_lt_of_le hb a.nx) c (Nat.lt_of_lt_of_le hc a.nx) hn hl λx=>hi (a.mv hb c hc x)).trans (a.g2 hb c hc hn hl hi),
  λhb c hc x=>a.mv hb c hc (b.mv (Nat.lt_of_lt_of_le hb a.nx) c (Nat.lt_of_lt_of_le hc a.nx) x)⟩
theorem OG.aln{bp bl:Nat}{h h':af}(f:BT bp h h'):OG bp bl h h':=⟨f.nx,f.lo,λc hc hn _ hi=>f.get c hc hn hi,λhb c hc hn _ hi=>f.g2 hb c hc hn hi,f.mv⟩
theorem BW(B:List Bool)(n:Nat)(b:Bool):over (B.map Value.bool) n [.bool b]=(if n<B.length then(B.set n b).map Value.bool else over (B.map Value.bool) n [.bool b]):=by
 split
 .rename_i h;rw[List.map_set];unfold over;rw[List.set_eq_take_append_cons_drop,if_pos (by simpa using h)];simp
 .rfl
theorem D3{B:List Bool}{n:Nat}{b:Bool}(h:n<B.length):over (B.map Value.bool) n [.bool b]=(B.set n b).map Value.bool:=by
 rw[BW,if_pos h]
theorem afb(bp bl:Nat)(F:List Int)(B:List Bool)(h:af)(V:KQ)(p:fo h bp bl F B)(hF:F.length<=1000)(hlo:h.lo<=h.nx)(hne:bp≠bl)(qn:F=[]->V (.tuple ⟨[X8 0,X8 8]⟩) h)(dZ:∀h' F' (n:Nat),fo h' bp bl F' (B.set n true)->((n:Int)::F').Perm F->B[n]? = some false->(∀k,k<n->B[k]? = some true)->OG bp bl h h'->V (.tuple ⟨[X8 (n:Int),X8 0]⟩) h'):av prog 396 [UV bp] h V:=by
 apply X9;rw[aeG];obtain⟨fs,hg,hpt⟩:=p.fr.cell;simp(disch:=try exact Y)only[Wz,Fv,Jb,aN,hg];refine v_ F h _ _ hpt ?_;by_cases h0:F=[]
 .simp(disch:=try exact Y)only[Wz,bz (show(F.length:Int)=0 by simp[h0])];exact qn h0
 have hpos:0<F.length:=List.length_pos_iff.2 h0;simp(disch:=try exact Y)only[Wz,bf (show ¬(F.length:Int)=0 by omega),Ja,aN];refine alm bp F _ h _ p.fr h0 X1 hlo ⟨_,_,_,rfl⟩ ?_;intro h2 F' x f2 hp2 Xa Da;obtain⟨n,rfl,hn,hb,afc,ho⟩:=p.ok.take hp2 Xa;obtain⟨fs2,hg2,Yq⟩:=f2.cell;have hbl:=p.lt;have arX:=p.lo;have n2:=Da.nx;have l2:=Da.lo;have hlm:(B.map Value.bool).length=B.length:=by simp
 have gl:=(Da.get bl hbl (λe=>hne e.symm) (λvs=>by rw[p.cell];exact bI)).trans p.cell;simp(disch:=try exact Y)only[Wz,fO,aN,hg2,bB,gl,Nat.mul_one,D3 hn];refine dZ ⟨h2.nx,h2.bl.a_ bl (aj ((B.set n true).map Value.bool) 4 false),h2.lo⟩ F' n ⟨⟨f2.lt,f2.lo,fs2,?_,?_⟩,by show bl<h2.nx;omega,by show h2.lo<=bl;omega,T.ay _ _ _,ho,by rw[List.length_set];exact p.small⟩ hp2 hb afc ?_
 .rw[List.length_set];exact(T.aD _ _ (λe=>hne e.symm)).trans hg2
 .rcases Yq with e|⟨b,G,e,k1,k2,k3,k4⟩
  .exact .inl e
  .exact .inr ⟨b,G,e,k1,k2,(T.aD _ _ (by rintro rfl;rw[gl]at k3;exact bI k3)).trans k3,k4⟩
 .exact(OG.aln Da).trans ⟨Nat.le_refl _,rfl,λc _ _ hn _=>T.aD _ _ (λe=>hn e.symm),λ_ c _ _ hn _=>T.aD _ _ (λe=>hn e.symm),λ_ c _ hx=>(FB.congr (T.aD _ _ (λe=>hne e.symm))).1 hx⟩
theorem afd(bp bl:Nat)(F:List Int)(B:List Bool)(n:Nat)(h:af)(V:KQ)(p:fo h bp bl F B)(hF:F.length<=1000)(hlo:h.lo<=h.nx)(hne:bp≠bl)(hb:B[n]? = some true)(hk:∀h' F',fo h' bp bl F' (B.set n false)->F'.Perm (F++[(n:Int)])->OG bp bl h h'->V (X8 0) h'):av prog 346 [UV bp,X8 (n:Int)] h V:=by
 apply X9;rw[aeo];have hn:n<B.length:=(List.getElem?_eq_some_iff.1 hb).1;have hlm:(B.map Value.bool).length=B.length:=by simp
 obtain⟨fs,hg,hpt⟩:=p.fr.cell;simp(disch:=try exact Y)only[Wz,Fv];refine aaP bp bl F B (n:Int) h _ p ?_;have eh:(decide ((0:Int)<=(n:Int)) && (B[((n:Int)).toNat]?).getD false)=true:=by
  rw[bz X1,Int.toNat_natCast,hb];rfl
 rw[eh];have hbl:=p.lt;have arX:=p.lo;simp(disch:=try exact Y)only[Wz,IT,aN,hg,bB,p.cell,Nat.mul_one,D3 hn];obtain⟨hA,eA⟩:∃hA:af,hA=⟨h.nx,h.bl.a_ bl (aj ((B.set n false).map Value.bool) 4 false),h.lo⟩:=⟨_,rfl⟩
 rw[<-eA];have nA:hA.nx=h.nx:=by rw[eA]
 have lA:hA.lo=h.lo:=by rw[eA]
 have gbl:hA.bl.get bl=some (aj ((B.set n false).map Value.bool) 4 false):=by rw[eA];exact T.ay _ _ _
 have fA:ir hA bp F (YYY bl B.length B.length):=by
  refine⟨by rw[nA];exact p.fr.lt,by rw[lA];exact p.fr.lo,fs,by rw[eA];exact(T.aD _ _ (λe=>hne e.symm)).trans hg,?_⟩;rcases hpt with e|⟨b,G,e,k1,k2,k3,k4⟩
  .exact .inl e
  .refine .inr ⟨b,G,e,X1,X1,?_,k4⟩;rw[eA];exact(T.aD _ _ (by rintro rfl;rw[p.cell]at k3;exact bI k3)).trans k3
 have Dz:OG bp bl h hA:=⟨X1,lA,λc _ _ hn _=>by rw[eA];exact T.aD _ _ (λe=>hn e.symm),λ_ c _ _ hn _=>by rw[eA];exact T.aD _ _ (λe=>hn e.symm),λ_ c _ hx=>(FB.congr (by rw[eA];exact T.aD _ _ (λe=>hne e.symm))).1 hx⟩
 refine Uk bp F _ (n:Int) hA _ fA X1 X1 ⟨_,_,_,rfl⟩ ?_;intro h3 F' f3 Sc hu3 fr3;have n3:=fr3.nx;have l3:=fr3.lo;refine hk h3 F' ⟨by rw[List.length_set];exact f3,X1,X1,?_,p.ok.arW hb Sc hu3,by rw[List.length_set];exact p.small⟩ Sc (Dz.trans (OG.aln fr3));exact(fr3.get bl X1 (λe=>hne e.symm) (λvs=>by rw[gbl];exact bI)).trans gbl
theorem yV(n:Nat):bx [Value.bool false] n=(List.replicate n false).map Value.bool:=by
 induction n with
 |zero=>rfl
 |succ n ih=>rw[List.replicate_succ,List.map_cons,<-ih];rfl
theorem mC.new(most:Nat){F:List Int}(hp:F.Perm ((List.range most).map λn:Nat=>(n:Int)))(hu:HP F):mC F (List.replicate most false):=by
 refine⟨(hp.nodup_iff).2 ?_,λn=>?_,λx hx=>?_,hu⟩
 .rw[List.Nodup,List.pairwise_map];exact List.nodup_range.imp λhne e=>hne (Int.ofNat.inj e)
 .rw[hp.mem_iff,List.mem_map,List.getElem?_replicate];constructor
  .rintro⟨a,ha,e⟩;have:a=n:=Int.ofNat.inj e;subst this;rw[if_pos (List.mem_range.1 ha)]
  .intro h;by_cases hn:n<most
   .exact⟨n,List.mem_range.2 hn,rfl⟩
   .rw[if_neg hn]at h;cases h
 .obtain⟨a,_,rfl⟩:=List.mem_map.1 (hp.mem_iff.1 hx);omega
theorem Qb(most:Nat)(h:af)(V:KQ)(hm:most<=128)(hlo:h.lo<=h.nx)(hk:∀bp bl h' F,fo h' bp bl F (List.replicate most false)->bp≠bl->h.nx<=bp->h.nx<=bl->F.length=most->Le h h'->(∀x,FB h' bp x->h.nx<=x)->V (.tuple ⟨[UV bp,X8 0]⟩) h'):av prog 152 [X8 (most:Int)] h V:=by
 apply X9;rw[TK];simp(disch:=try exact Y)only[Wz,d_ (show(0:Int)<=(most:Int)by omega),d_ (show(most:Int)<=128 by omega)];have hrl:(bx [Value.bool false] most).length=most:=by rw[yV];simp
 rw[E6 _ _ _ _ _ X1 X1,yV];simp(disch:=try exact Y)only[Wz];obtain⟨hA,aY,aU,gl,gp,dI,dJ⟩:=AY h (aj ((List.replicate most false).map Value.bool) 4 false) (aj [.slice none 0 0,YYY h.nx most most] 286 false);rw[<-aY];clear aY;refine⟨λm l h1=>∃(i:Nat)(F:List Int),ah l 11=X8 (i:Int)/\m=most-i/\i<=most/\ir h1 (h.nx+1) F (YYY h.nx most most)/\F.Perm ((List.range i).map λn:Nat=>(n:Int))/\HP F/\BT (h.nx+1) hA h1,⟨_,0,[],rfl,rfl,X1,⟨X1,X1,_,gp,.inl ⟨rfl,rfl⟩⟩,List.Perm.refl _,λi h1 h2=>absurd h2 (Nat.not_lt_zero _),BT.refl _ _⟩,?_⟩;rintro m l h1 ⟨i,F1,s1,rfl,hi,f1,hp1,RZ,OF⟩;have n1:=OF.nx;have l1:=OF.lo;have rJ:F1.length=i:=by rw[hp1.length_eq];simp
 by_cases hst:i<most
 .simp(disch:=try exact Y)only[Wz,Bl,s1,f_ (show(i:Int)<(most:Int)by omega),aN];refine Uk (h.nx+1) F1 _ (i:Int) h1 _ f1 X1 X1 ⟨_,_,_,rfl⟩ ?_;intro h2 F2 f2 hp2 Xa Da;refine⟨_,?_,i+1,F2,rfl,rfl,X1,f2,?_,Xa RZ,OF.trans Da⟩
  .omega
  .rw[List.range_succ,List.map_append];exact hp2.trans (hp1.append_right _)
 .have hie:i=most:=by omega
  subst hie;simp(disch:=try exact Y)only[Wz,Bl,s1,d_ (show(i:Int)<=(i:Int)by omega)];refine hk (h.nx+1) h.nx h1 F1 ⟨by rw[List.length_replicate];exact f1,X1,X1,?_,mC.new _ hp1 RZ,by rw[List.length_replicate];exact hm⟩ X1 X1 X1 rJ ⟨X1,X1,λc hc=>?_⟩ λx hx=>?_
  .exact(OF.get h.nx X1 X1 (λvs=>by rw[gl];exact bI)).trans gl
  .refine(OF.g2 X1 c X1 X1 ?_).trans (aU.get c hc);rintro⟨n,cap,ls,hx⟩;have:=oP (gp.symm.trans hx);cases this
  .rcases Nat.lt_or_ge x h.nx with hlt|hge
   .obtain⟨n,cap,ls,hx⟩:=OF.mv X1 x X1 hx;have:=oP (gp.symm.trans hx);cases this
   .exact hge
structure HE where
 t:Int
 r:Int
 hb:Nat
 born:Nat
 q:Value
 w:Int
 Q:List R5
def nS(e:HE):MapEntry:={ key:=dg e.t e.r,val:=UV e.hb,born:=e.born }
def jO(t r:Int)(e:HE):Bool:=decide (t=e.t/\r=e.r)
theorem lY{t r:Int}{x:HE}:(!jO t r x)=true<->¬(t=x.t/\r=x.r):=by unfold jO;rw[Bool.not_eq_true',decide_eq_false_iff_not]
structure cO(M:List HE)(clock:Nat):Prop where
 nm:M.Pairwise λa b=>¬(a.t=b.t/\a.r=b.r)
 bn:M.Pairwise λa b=>a.born≠b.born
 lt:∀e∈M,e.born<clock
theorem ar0(h:af)(a b c d:Int):mR prog h 100 28 (.agg ⟨[X8 a,X8 b]⟩) (.agg ⟨[X8 c,X8 d]⟩) =
  (match(some (rK a c))with|some true=>(match some (rK b d)with|some true=>some true|r=>r)|r=>r):=by kernel_rfl
theorem eqN(h:af)(a b c d:Int):mR prog h 100 28 (dg a b) (dg c d)=some (decide (a=c/\b=d)):=by
 unfold dg;rw[ar0,iA,iA];by_cases h1:a=c<;>by_cases h2:b=d<;>simp[h1,h2]
theorem Db(t r:Int):lK prog 20 28 (dg t r)=true:=by kernel_rfl
theorem afe(t r:Int):k_ 3 (dg t r) (dg t r)=true:=by unfold k_;exact xL 1 [t,r]
theorem lU(x:MapEntry):∀(l:List MapEntry)(V:List MapEntry->Prop),Dq x l V=V (l++[x]):=by
 intro l
 induction l with
 |nil=>intro V;rfl
 |cons a l ih=>intro V;exact ih _
theorem j0(f:MapEntry->MapEntry):∀(l:List MapEntry)(j:Nat)(e:MapEntry)(V:List MapEntry->Prop),l[j]? = some e->setAt f j l V=V (l.set j (f e)):=by
 intro l
 induction l with
 |nil=>intro j e V h;simp at h
 |cons a l ih=>
  intro j e V h;cases j with
  |zero=>rw[List.getElem?_cons_zero]at h;cases h;rfl
  |succ j=>rw[List.getElem?_cons_succ]at h;exact ih j e _ h
theorem vt:∀(l:List MapEntry)(j:Nat)(V:List MapEntry->Prop),Dr j l V=V (l.eraseIdx j):=by
 intro l
 induction l with
 |nil=>intro j V;cases j<;>rfl
 |cons a l ih=>
  intro j V;cases j with
  |zero=>rfl
  |succ j=>exact ih j _
theorem Ju(h:af)(t r:Int):∀(M:List HE)(i:Nat),(fJ prog h 28 (dg t r) (M.map nS) i=some none/\∀e∈M,¬(t=e.t/\r=e.r))\/
  ∃(j:Nat)(e:HE),fJ prog h 28 (dg t r) (M.map nS) i=some (some (i+j,nS e))/\M[j]? = some e/\t=e.t/\r=e.r:=by
 intro M
 induction M with
 |nil=>intro i;exact .inl ⟨rfl,λe he=>nomatch he⟩
 |cons e M ih=>
  intro i;have hf:fJ prog h 28 (dg t r) ((e::M).map nS) i=(match(some (decide (t=e.t/\r=e.r)):Option Bool)with|some true=>some (some (i,nS e))|some false=>fJ prog h 28 (dg t r) (M.map nS) (Nat.succ i)|none=>none):=by
   rw[<-eqN h];rfl
  rw[hf];by_cases h1:t=e.t/\r=e.r
  .rw[bz h1];exact .inr ⟨0,e,rfl,rfl,h1.1,h1.2⟩
  .rw[bf h1];rcases ih (Nat.succ i)with⟨g1,g2⟩|⟨j,e',g1,g2,g3,g4⟩
   .exact .inl ⟨g1,λx hx=>by rcases List.mem_cons.1 hx with rfl|hx;exact h1;exact g2 x hx⟩
   .exact .inr ⟨j+1,e',by rw[show i+(j+1)=Nat.succ i+j by omega];exact g1,g2,g3,g4⟩
theorem D4{β:Type}{fl:β}{M:List HE}{clock:Nat}{h:af}{bm:Nat}(g:h.bl.get bm=some (.map (M.map nS) clock))(t r:Int)(hn:∀e∈M,¬(t=e.t/\r=e.r))(V:X3 β):cq fl prog 28 (.pointer none) true (.map (some bm)) (dg t r) h V=V (.tuple ⟨[.pointer none,.bool false]⟩) h:=by
 unfold cq iP;rw[Db];simp only[g];rcases Ju h t r M 0 with⟨g1,_⟩|⟨j,e,_,g2,g3,g4⟩
 .rw[g1]
 .exact absurd (And.intro g3 g4) (hn e (List.mem_of_getElem? g2))
theorem cO.uniq{M:List HE}{clock:Nat}(o:cO M clock){e e':HE}(h:e∈M)(h':e'∈M)(ht:e.t=e'.t)(hr:e.r=e'.r):e=e':=by
 have:∀(L:List HE),(L.Pairwise λa b=>¬(a.t=b.t/\a.r=b.r))->e∈L->e'∈L->e=e':=by
  intro L
  induction L with
  |nil=>intro _ h;nomatch h
  |cons a L ih=>
   intro hp h1 h2;rw[List.pairwise_cons]at hp;rcases List.mem_cons.1 h1 with rfl|k1<;>rcases List.mem_cons.1 h2 with rfl|k2
   .rfl
   .exact absurd ⟨ht,hr⟩ (hp.1 _ k2)
   .exact absurd ⟨ht.symm,hr.symm⟩ (hp.1 _ k1)
   .exact ih hp.2 k1 k2
 exact this M o.nm h h'
theorem Jv{β:Type}{fl:β}{M:List HE}{clock:Nat}{h:af}{bm:Nat}(o:cO M clock)(g:h.bl.get bm=some (.map (M.map nS) clock)){e:HE}(he:e∈M)(V:X3 β):cq fl prog 28 (.pointer none) true (.map (some bm)) (dg e.t e.r) h V=V (.tuple ⟨[UV e.hb,.bool true]⟩) h:=by
 unfold cq iP;rw[Db];simp only[g];rcases Ju h e.t e.r M 0 with⟨g1,g2⟩|⟨j,e',g1,g2,g3,g4⟩
 .exact absurd ⟨rfl,rfl⟩ (g2 e he)
 .rw[g1];rw[o.uniq he (List.mem_of_getElem? g2) g3 g4];rfl
theorem erase_filter{M:List HE}(hn:M.Pairwise λa b=>¬(a.t=b.t/\a.r=b.r)){j:Nat}{e:HE}(hj:M[j]? = some e):M.eraseIdx j=M.filter λx=>!jO e.t e.r x:=by
 induction M generalizing j with
 |nil=>simp at hj
 |cons a M ih=>
  rw[List.pairwise_cons]at hn;cases j with
  |zero=>
   rw[List.getElem?_cons_zero]at hj;cases hj;rw[List.eraseIdx_cons_zero,List.filter_cons_of_neg (by simp[jO])];exact(List.filter_eq_self.2 λx hx=>lY.2 (hn.1 x hx)).symm
  |succ j=>
   rw[List.getElem?_cons_succ]at hj;have:=hn.1 e (List.mem_of_getElem? hj);rw[List.eraseIdx_cons_succ,List.filter_cons_of_pos (p:=λx=>!jO e.t e.r x) (lY.2 λ⟨h1,h2⟩=>this ⟨h1.symm,h2.symm⟩),ih hn.2 hj]
theorem OH{α:Type}{R:α->α->Prop}(hs:∀{a b},R a b->R b a){L L':List α}(hp:L.Perm L')(h:L.Pairwise R):L'.Pairwise R:=(hp.pairwise_iff hs).1 h
theorem cO.put{M M':List HE}{clock clock':Nat}(o:cO M clock)(hc:clock<=clock'){e:HE}(hp:M'.Perm (M.filter (λx=>!jO e.t e.r x)++[e]))(hb:∀x∈M,¬(e.t=x.t/\e.r=x.r)->x.born≠e.born)(hlt:e.born<clock'):cO M' clock':=by
 have hm:∀x∈M.filter (λx=>!jO e.t e.r x),x∈M/\¬(e.t=x.t/\e.r=x.r):=λx hx=>by
  rw[List.mem_filter]at hx;exact⟨hx.1,lY.1 hx.2⟩
 refine⟨OH (λh=>λ⟨a,b⟩=>h ⟨a.symm,b.symm⟩) hp.symm (vM (o.nm.filter _) λx hx=>λ⟨a,b⟩=>(hm x hx).2 ⟨a.symm,b.symm⟩),OH (λh=>h.symm) hp.symm (vM (o.bn.filter _) λx hx=>hb x (hm x hx).1 (hm x hx).2),λx hx=>?_⟩;rcases List.mem_append.1 (hp.mem_iff.1 hx)with h|h
 .exact Nat.lt_of_lt_of_le (o.lt x (hm x h).1) hc
 .rw[List.mem_singleton]at h;subst h;exact hlt
theorem aff{M:List HE}{clock:Nat}{h:af}{bm:Nat}(o:cO M clock)(g:h.bl.get bm=some (.map (M.map nS) clock))(hlo:h.lo<=bm)(t r:Int)(hb:Nat)(q:Value)(w:Int)(Q:List R5)(V:KQ)(hk:∀M' clock' born,cO M' clock'->M'.Perm (M.filter (λx=>!jO t r x)++[⟨t,r,hb,born,q,w,Q⟩])->V undef ⟨h.nx,h.bl.a_ bm (.map (M'.map nS) clock'),h.lo⟩):bQ False prog 28 (.map (some bm)) (dg t r) (UV hb) h V:=by
 unfold bQ;rw[Db];simp only[g];rcases Ju h t r M 0 with⟨g1,g2⟩|⟨j,e,g1,g2,g3,g4⟩
 ·rw[g1];simp only;rw[lU];simp only[cC];rw[bG _ _ _ _ hlo];have vf:(M++[(⟨t,r,hb,clock,q,w,Q⟩:HE)]).Perm (M.filter (λx=>!jO t r x)++[⟨t,r,hb,clock,q,w,Q⟩]):=by
   rw[List.filter_eq_self.2 λx hx=>lY.2 (g2 x hx)]
  have:=hk (M++[⟨t,r,hb,clock,q,w,Q⟩]) (clock+1) clock (o.put (e:=⟨t,r,hb,clock,q,w,Q⟩) (Nat.le_succ _) vf (λx hx _=>Nat.ne_of_lt (o.lt x hx)) (Nat.lt_succ_self _)) vf;rw[List.map_append]at this;exact this
 ·rw[g1];simp only[nS,g3,g4,afe];rw[Nat.zero_add,j0 _ _ j (nS e) _ (by rw[List.getElem?_map,g2];rfl),bG _ _ _ _ hlo];subst g3 g4;have vf:(M.set j (⟨e.t,e.r,hb,e.born,q,w,Q⟩:HE)).Perm (M.filter (λx=>!jO e.t e.r x)++[⟨e.t,e.r,hb,e.born,q,w,Q⟩]):=by
   rw[<-erase_filter o.nm g2];obtain⟨hj,_⟩:=List.getElem?_eq_some_iff.1 g2;rw[List.set_eq_take_append_cons_drop,if_pos hj,List.eraseIdx_eq_take_drop_succ];exact(List.perm_middle).trans (List.perm_append_singleton _ _).symm
  have hne:∀x∈M,¬(e.t=x.t/\e.r=x.r)->x.born≠e.born:=λx hx hn zI=>by
   have:∀(L:List HE),(L.Pairwise λa b=>a.born≠b.born)->e∈L->x∈L->e=x:=by
    intro L
    induction L with
    |nil=>intro _ h;nomatch h
    |cons a L ih=>
     intro hp h1 h2;rw[List.pairwise_cons]at hp;rcases List.mem_cons.1 h1 with rfl|k1<;>rcases List.mem_cons.1 h2 with rfl|k2
     .rfl
     .exact absurd zI.symm (hp.1 _ k2)
     .exact absurd zI (hp.1 _ k1)
     .exact ih hp.2 k1 k2
   have:=this M o.bn (List.mem_of_getElem? g2) hx;subst this;exact hn ⟨rfl,rfl⟩
  have:=hk (M.set j ⟨e.t,e.r,hb,e.born,q,w,Q⟩) clock e.born (o.put (e:=⟨e.t,e.r,hb,e.born,q,w,Q⟩) (Nat.le_refl _) vf hne (o.lt e (List.mem_of_getElem? g2))) vf;rw[List.map_set]at this;exact this
theorem D5{α β:Type}(f:α->β):∀(l:List α)(j:Nat),(l.eraseIdx j).map f=(l.map f).eraseIdx j:=by
 intro l
 induction l with
 |nil=>intro j;rfl
 |cons a l ih=>
  intro j;cases j with
  |zero=>rfl
  |succ j=>simp[ih j]
theorem afg{M:List HE}{clock:Nat}{h:af}{bm:Nat}(o:cO M clock)(g:h.bl.get bm=some (.map (M.map nS) clock))(hlo:h.lo<=bm)(t r:Int)(V:KQ)(hk:∀h',h'=⟨h.nx,h.bl.a_ bm (.map ((M.filter (λx=>!jO t r x)).map nS) clock),h.lo⟩\/(h'=h/\M.filter (λx=>!jO t r x)=M)->V (.tuple ⟨[]⟩) h'):jW False prog 28 (.map (some bm)) (dg t r) h V:=by
 unfold jW;rw[Db];simp only[g];rcases Ju h t r M 0 with⟨g1,g2⟩|⟨j,e,g1,g2,g3,g4⟩
 .rw[g1];exact hk h (.inr ⟨rfl,List.filter_eq_self.2 λx hx=>lY.2 (g2 x hx)⟩)
 .rw[g1];simp only;rw[Nat.zero_add,vt,bG _ _ _ _ hlo];subst g3 g4;refine hk _ (.inl ?_);rw[<-erase_filter o.nm g2,D5]
theorem cO.filter{M:List HE}{clock:Nat}(o:cO M clock)(p:HE->Bool):cO (M.filter p) clock:=⟨o.nm.filter _,o.bn.filter _,λe he=>o.lt e (List.mem_filter.1 he).1⟩
def BX(M:List HE)(seen:List Nat):Nat:=M.countP λe=>!seen.any (Nat.beq e.born)
theorem Qc{α:Type}{p q:α->Bool}:∀(L:List α),(∀x∈L,q x=true->p x=true)->(∃x∈L,p x=true/\q x=false)->L.countP q<L.countP p:=by
 intro L
 induction L with
 |nil=>rintro _ ⟨x,hx,_⟩;nomatch hx
 |cons a L ih=>
  intro h hx;have hle:L.countP q<=L.countP p:=List.countP_mono_left λx hx=>h x (.tail _ hx);rw[List.countP_cons,List.countP_cons];by_cases ha:p a=true/\q a=false
  .rw[ha.1,ha.2];simp;omega
  ·have ht:∃x∈L,p x=true/\q x=false:=by
    obtain⟨x,hx,h1⟩:=hx;rcases List.mem_cons.1 hx with rfl|hx
    .exact absurd h1 ha
    .exact⟨x,hx,h1⟩
   have:=ih (λx hx=>h x (.tail _ hx)) ht;have ha2:=h a (.head _);cases hq:q a with
   |false=>simp;omega
   |true=>rw[ha2 hq];simp;omega
theorem qq{M:List HE}{seen:List Nat}{e:HE}(he:e∈M)(hn:seen.any (Nat.beq e.born)=false):BX M (e.born::seen)<BX M seen:=by
 refine Qc M (λx _ h=>?_) ⟨e,he,by rw[hn];rfl,by simp⟩;rw[List.any_cons,Bool.not_or,Bool.and_eq_true]at h;exact h.2
theorem BY{b m since:Nat}{seen:List Nat}{clock:Nat}{h:af}{V:KQ}(hlo:h.lo<=b):∀(es:List MapEntry)(e:MapEntry),(∀x∈e::es,x.born<since)->(∀x∈e::es,V (.tuple ⟨[.bool true,x.key,x.val]⟩) ⟨h.nx,h.bl.a_ b (.dU (some m) since (x.born::seen) clock),h.lo⟩)->oA False And b m since seen clock h V e es:=by
 intro es
 induction es with
 |nil=>
  intro e hb hk;unfold oA;rw[Nat.ble_eq_true_of_le (show Nat.succ e.born<=since from hb e (.head _))];simp only;rw[bG _ _ _ _ hlo];exact hk e (.head _)
 |cons a es ih=>
  intro e hb hk;unfold oA;rw[Nat.ble_eq_true_of_le (show Nat.succ e.born<=since from hb e (.head _))];simp only;rw[bG _ _ _ _ hlo];exact⟨hk e (.head _),ih a (λx hx=>hb x (.tail _ hx)) λx hx=>hk x (.tail _ hx)⟩
theorem Ul{M:List HE}{clock b bm:Nat}{seen:List Nat}{h:af}(o:cO M clock)(hb:h.bl.get b=some (.dU (some bm) clock seen clock))(g:h.bl.get bm=some (.map (M.map nS) clock))(hlo:h.lo<=b)(V:KQ)(qn:(∀e∈M,seen.any (Nat.beq e.born)=true)->V (.tuple ⟨[.bool false]⟩) h)(dZ:∀e∈M,seen.any (Nat.beq e.born)=false->V (.tuple ⟨[.bool true,dg e.t e.r,UV e.hb]⟩) ⟨h.nx,h.bl.a_ b (.dU (some bm) clock (e.born::seen) clock),h.lo⟩):pP False And (UV b) h V:=by
 unfold pP;simp only[hb,g];have e1:(!seen.isEmpty && !(M.map nS).isEmpty && (M.map nS).all (λe=>Nat.ble clock e.born))=false:=by
  cases M with
  |nil=>simp
  |cons e M=>
   have:Nat.ble clock (nS e).born=false:=by
    have:=o.lt e (.head _);cases hc:Nat.ble clock (nS e).born with
    |false=>rfl
    |true=>have:=Nat.le_of_ble_eq_true hc;simp only[nS]at this;omega
   rw[List.map_cons,List.all_cons,this];simp
 rw[e1];simp only;rw[List.filter_map];have hmem:∀x,x∈(M.filter ((λe:MapEntry=>!seen.any (Nat.beq e.born)) ∘ nS)).map nS->∃e∈M,seen.any (Nat.beq e.born)=false/\x=nS e:=by
  intro x hx;obtain⟨e,he,rfl⟩:=List.mem_map.1 hx;rw[List.mem_filter]at he;exact⟨e,he.1,by have:=he.2;simpa[nS]using this,rfl⟩
 split
 .rename_i hnil;refine qn λe he=>?_;cases hs:seen.any (Nat.beq e.born)with
  |true=>rfl
  |false=>
   have:nS e∈(M.filter ((λe:MapEntry=>!seen.any (Nat.beq e.born)) ∘ nS)).map nS:=List.mem_map.2 ⟨e,List.mem_filter.2 ⟨he,by simp only[Function.comp,nS,hs];rfl⟩,rfl⟩;rw[hnil]at this
   nomatch this
 .rename_i e es heq;rw[heq]at hmem;refine BY hlo es e (λx hx=>?_) λx hx=>?_
  .obtain⟨y,hy,_,rfl⟩:=hmem x hx;exact o.lt y hy
  .obtain⟨y,hy,h1,rfl⟩:=hmem x hx;exact dZ y hy h1
theorem wo{β:Type}{fl:β}{M:List HE}{clock b bm:Nat}{seen:List Nat}{h:af}(o:cO M clock){e:HE}(he:e∈M)(hb:h.bl.get b=some (.dU (some bm) clock (e.born::seen) clock))(g:h.bl.get bm=some (.map (M.map nS) clock))(V:X3 β):mj fl (UV b) h V=V (.tuple ⟨[dg e.t e.r,UV e.hb]⟩) h:=by
 unfold mj;simp only[hb,g];have e1:Nat.beq clock clock=true:=Nat.beq_refl _;rw[e1];simp only;have:(M.map nS).find? (λx=>Nat.beq x.born e.born)=some (nS e):=by
  have key:∀(L:List HE),(L.Pairwise λa b=>a.born≠b.born)->e∈L->(L.map nS).find? (λx=>Nat.beq x.born e.born)=some (nS e):=by
   intro L
   induction L with
   |nil=>intro _ h;nomatch h
   |cons a L ih=>
    intro hp h1;rw[List.pairwise_cons]at hp;rw[List.map_cons,List.find?_cons];rcases List.mem_cons.1 h1 with rfl|k1
    .have:Nat.beq (nS e).born e.born=true:=Nat.beq_refl _;rw[this]
    ·have:Nat.beq (nS a).born e.born=false:=by
      cases hc:Nat.beq (nS a).born e.born with
      |false=>rfl
      |true=>exact absurd (Nat.eq_of_beq_eq_true hc) (hp.1 e k1)
     rw[this];exact ih hp.2 k1
  exact key M o.bn he
 rw[this];rfl
theorem BZ{β:Type}{fl:β}{bm clock:Nat}{es:List MapEntry}{h:af}(g:h.bl.get bm=some (.map es clock))(V:X3 β):oW fl (.map (some bm)) h V=V (UV h.nx) ⟨h.nx+1,h.bl.a_ h.nx (.dU (some bm) clock [] clock),h.lo⟩:=by
 unfold oW;simp only[g,dO]
structure pF(h:af)(e:HE):Prop where
 lt:e.hb<h.nx
 get:h.bl.get e.hb=some (gQ e.t e.r e.q e.w)
 qv:QV h e.q e.Q
structure Um(e:HE):Prop where
 ne:e.Q≠[]
 vq:VQ e.Q e.w
 stuck:uM e.Q
 small:e.Q.length<=128
structure bC(h:af)(bb bm bp bl:Nat)(most:Nat)(M:List HE)(clock:Nat)(F:List Int)(B:List Bool):Prop where
 rH:bb<h.nx
 jV:bm<h.nx
 Yr:h.lo<=bm
 jj:h.bl.get bb=some (aj [X8 (most:Int),UV bp,.map (some bm)] 267 false)
 g_:h.bl.get bm=some (.map (M.map nS) clock)
 ok:cO M clock
 bh:∀e∈M,pF h e
 good:∀e∈M,Um e
 bu:fo h bp bl F B
 ne:bp≠bl
theorem pF.le{h h':af}{e:HE}(a:pF h e)(l:Le h h'):pF h' e:=⟨Nat.lt_of_lt_of_le a.lt l.nx,(l.get _ a.lt).trans a.get,a.qv.le l⟩
theorem fo.le{h h':af}{bp bl:Nat}{F:List Int}{B:List Bool}(p:fo h bp bl F B)(l:Le h h'):fo h' bp bl F B:=by
 have ln:=l.nx;have ll:=l.lo;have pl:=p.lt;have fl:=p.fr.lt;obtain⟨fs,hg,hpt⟩:=p.fr.cell;refine⟨⟨X1,by rw[ll];exact p.fr.lo,fs,(l.get _ fl).trans hg,?_⟩,X1,by rw[ll];exact p.lo,(l.get _ pl).trans p.cell,p.ok,p.small⟩;rcases hpt with e|⟨b,G,e,k1,k2,k3,k4⟩
 .exact .inl e
 .exact .inr ⟨b,G,e,X1,X1,(l.get _ k1).trans k3,k4⟩
theorem bC.le{h h':af}{bb bm bp bl most:Nat}{M:List HE}{clock:Nat}{F:List Int}{B:List Bool}(s:bC h bb bm bp bl most M clock F B)(l:Le h h'):bC h' bb bm bp bl most M clock F B:=
 ⟨Nat.lt_of_lt_of_le s.rH l.nx,Nat.lt_of_lt_of_le s.jV l.nx,by rw[l.lo];exact s.Yr,(l.get _ s.rH).trans s.jj,(l.get _ s.jV).trans s.g_,s.ok,λe he=>(s.bh e he).le l,s.good,s.bu.le l,s.ne⟩
theorem ar2(h:af)(b o:Nat):mR prog h 100 205 (.pointer (some ⟨b,o,none⟩)) (.pointer none)=some false:=by kernel_rfl
theorem jk{β:Type}{fl:β}(cn:Bool)(b o:Nat)(h:af)(V:X3 β):aI fl prog .eql 205 cn false (.pointer (some ⟨b,o,none⟩)) (.pointer none) h V=V (.bool false) h:=by simp only[aI,ar2,bX]
theorem ar3(h:af)(b o:Nat):mR prog h 100 264 (.pointer (some ⟨b,o,none⟩)) (.pointer none)=some false:=by kernel_rfl
theorem wq{β:Type}{fl:β}(cn:Bool)(b o:Nat)(h:af)(V:X3 β):aI fl prog .eql 264 cn false (.pointer (some ⟨b,o,none⟩)) (.pointer none) h V=V (.bool false) h:=by simp only[aI,ar3,bX]
theorem ar4(h:af):mR prog h 100 264 (.pointer none) (.pointer none)=some true:=by kernel_rfl
theorem sC{β:Type}{fl:β}(cn:Bool)(h:af)(V:X3 β):aI fl prog .eql 264 cn false (.pointer none) (.pointer none) h V=V (.bool true) h:=by simp only[aI,ar4,bX]
theorem Un(bb:Nat)(h:af)(V:KQ)(hk:V (X8 5) h):av prog 344 [UV bb] h V:=by
 apply X9;rw[aen];simp(disch:=try exact Y)only[Wz,jk];exact hk
theorem cO.yW{M:List HE}{clock:Nat}(o:cO M clock){e e':HE}(h:e∈M)(h':e'∈M)(hb:e.born=e'.born):e=e':=by
 have:∀(L:List HE),(L.Pairwise λa b=>a.born≠b.born)->e∈L->e'∈L->e=e':=by
  intro L
  induction L with
  |nil=>intro _ h;nomatch h
  |cons a L ih=>
   intro hp h1 h2;rw[List.pairwise_cons]at hp;rcases List.mem_cons.1 h1 with rfl|k1<;>rcases List.mem_cons.1 h2 with rfl|k2
   .rfl
   .exact absurd hb (hp.1 _ k2)
   .exact absurd hb.symm (hp.1 _ k1)
   .exact ih hp.2 k1 k2
 exact this M o.bn h h'
theorem Ys{h:af}{bb bm bp bl most:Nat}{M:List HE}{clock:Nat}{F:List Int}{B:List Bool}(s:bC h bb bm bp bl most M clock F B)(hlo:h.lo<=h.nx)(id:Int)(V:KQ)(qn:∀h',(∀e∈M,cL e.Q id=none)->Le h h'->V (.pointer none) h')(dZ:∀h' e p,e∈M->cL e.Q id=some p->Le h h'->V (UV e.hb) h'):av prog 343 [UV bb,X8 id] h V:=by
 apply X9;rw[T8];have g:=s.jj;have gm:=s.g_;simp(disch:=try exact Y)only[Wz,jk,IS,aN,g,BZ gm];obtain⟨hA,eA⟩:∃hA:af,hA=⟨h.nx+1,h.bl.a_ h.nx (.dU (some bm) clock [] clock),h.lo⟩:=⟨_,rfl⟩
 rw[<-eA];have LZ:Le h hA:=by rw[eA];exact(Le.refl h).new _
 have nA:hA.nx=h.nx+1:=by rw[eA]
 have lA:hA.lo=h.lo:=by rw[eA]
 have gA:hA.bl.get h.nx=some (.dU (some bm) clock [] clock):=by rw[eA];exact T.ay _ _ _
 refine⟨λm l h1=>∃seen,m=BX M seen/\h.nx<h1.nx/\Le h h1/\h1.bl.get h.nx=some (.dU (some bm) clock seen clock)/\∀e∈M,seen.any (Nat.beq e.born)=true->cL e.Q id=none,⟨_,[],rfl,X1,LZ,gA,λe _ he=>by simp at he⟩,?_⟩;rintro m l h1 ⟨seen,rfl,n1,bN,g1,hs⟩;have gm1:=(bN.get _ s.jV).trans gm;have l1:=bN.lo;have n1':=bN.nx;refine Ul s.ok g1 gm1 X1 _ ?_ ?_
 .intro hall;simp(disch:=try exact Y)only[Wz];exact qn h1 (λe he=>hs e he (hall e he)) bN
 .intro e he CP;have H:=s.bh e he;have hlt:=H.lt;have bD:Le h ⟨h1.nx,h1.bl.a_ h.nx (.dU (some bm) clock (e.born::seen) clock),h1.lo⟩:=bN.set X1 _;obtain⟨h2,e2⟩:∃h2:af,h2=⟨h1.nx,h1.bl.a_ h.nx (.dU (some bm) clock (e.born::seen) clock),h1.lo⟩:=⟨_,rfl⟩
  rw[<-e2]at bD ⊢;have n2:h2.nx=h1.nx:=by rw[e2]
  have g2:h2.bl.get h.nx=some (.dU (some bm) clock (e.born::seen) clock):=by rw[e2];exact T.ay _ _ _
  have Yt:=(bD.get _ s.jV).trans gm;have l2:=bD.lo;obtain⟨qx,qc,eq,_⟩:=(show Sl bT h e.q e.Q from H.qv.1)
  have gh:=(bD.get _ hlt).trans H.get;rw[eq]at gh;simp(disch:=try exact Y)only[Wz,IQ,wo s.ok he g2 Yt,aN,gh];refine OE e.t e.r _ e.w id e.Q h2 _ (by rw[<-eq];exact H.qv.1.le bD) (by have:=(s.good e he).small;omega) X1 ?_;intro h3 dM;have n3:=dM.nx;have l3:=dM.lo;have g3:=(dM.get h.nx X1).trans g2;have Uo:=bD.trans dM;cases hf:cL e.Q id with
  |none=>
   simp(disch:=try exact Y)only[Wz,bT];refine⟨_,?_,e.born::seen,rfl,?_,Uo.new _,?_,?_⟩
   .exact qq he CP
   .show h.nx<h3.nx+1;omega
   .exact g3
   .intro x hx hxs;rw[List.any_cons,Bool.or_eq_true]at hxs;rcases hxs with hb|hb
    .rw[s.ok.yW hx he (Nat.eq_of_beq_eq_true hb)];exact hf
    .exact hs x hx hb
  |some p=>
   simp(disch:=try exact Y)only[Wz,bT];exact dZ _ e p he hf (Uo.new _)
structure tP(bm bp bl:Nat)(h h':af):Prop where
 nx:h.nx<=h'.nx
 lo:h'.lo=h.lo
 get:∀c,c<h.nx->c≠bm->c≠bp->c≠bl->(∀vs,h.bl.get c≠some (aj vs 3 true))->h'.bl.get c=h.bl.get c
 g2:bp<h.nx->∀c,c<h.nx->c≠bm->c≠bp->c≠bl->¬FB h bp c->h'.bl.get c=h.bl.get c
 mv:bp<h.nx->∀c,c<h.nx->FB h' bp c->FB h bp c
theorem tP.trans{bm bp bl:Nat}{h h' h'':af}(a:tP bm bp bl h h')(b:tP bm bp bl h' h''):tP bm bp bl h h'':=
 ⟨Nat.le_trans a.nx b.nx,b.lo.trans a.lo,λc hc hm hn hl hi=>(b.get c (Nat.lt_of_lt_of_le hc a.nx) hm hn hl (λvs=>by rw[a.get c hc hm hn hl hi];exact hi vs)).trans (a.get c hc hm hn hl hi),
  λhb c hc hm hn hl hi=>(b.g2 (Nat.lt_of_lt_of_le hb a.nx) c (Nat.lt_of_lt_of_le hc a.nx) hm hn hl λx=>hi (a.mv hb c hc x)).trans (a.g2 hb c hc hm hn hl hi),
  λhb c hc x=>a.mv hb c hc (b.mv (Nat.lt_of_lt_of_le hb a.nx) c (Nat.lt_of_lt_of_le hc a.nx) x)⟩
theorem tP.of_le{bm bp bl:Nat}{h h':af}(l:Le h h'):tP bm bp bl h h':=⟨l.nx,l.lo,λc hc _ _ _ _=>l.get c hc,λ_ c hc _ _ _ _=>l.get c hc,λhb c _ x=>(FB.congr (l.get bp hb)).1 x⟩
theorem tP.alo{bm bp bl:Nat}{h h':af}(f:OG bp bl h h'):tP bm bp bl h h':=⟨f.nx,f.lo,λc hc _ hn hl hi=>f.get c hc hn hl hi,λhb c hc _ hn hl hi=>f.g2 hb c hc hn hl hi,f.mv⟩
theorem tP.of_map{bm bp bl:Nat}(h:af){es:List MapEntry}{cl:Nat}:tP bm bp bl h ⟨h.nx,h.bl.a_ bm (.map es cl),h.lo⟩:=by
 refine⟨Nat.le_refl _,rfl,λc _ hm _ _ _=>T.aD _ _ (λe=>hm e.symm),λ_ c _ hm _ _ _=>T.aD _ _ (λe=>hm e.symm),λ_ c _ hx=>?_⟩;by_cases e:bm=bp
 .subst e;obtain⟨n,cap,ls,hx⟩:=hx;exact absurd ((T.ay _ _ _).symm.trans hx) bY
 .exact(FB.congr (T.aD _ _ e)).1 hx
theorem bC.put{h:af}{bb bm bp bl most:Nat}{M M':List HE}{clock clock':Nat}{F:List Int}{B:List Bool}(s:bC h bb bm bp bl most M clock F B)(o:cO M' clock')(hh:∀e∈M',pF h e)(hg:∀e∈M',Um e):bC ⟨h.nx,h.bl.a_ bm (.map (M'.map nS) clock'),h.lo⟩ bb bm bp bl most M' clock' F B:=by
 have gm:=s.g_;have ne:∀c,(h.bl.get c≠some (.map (M.map nS) clock))->(h.bl.a_ bm (.map (M'.map nS) clock')).get c=h.bl.get c:=λc hc=>T.aD _ _ (by rintro rfl;exact hc gm);have nc:∀{vs ty op},(some (aj vs ty op):Option bP)≠some (.map (M.map nS) clock):=λh=>bY h.symm;obtain⟨fs,B0,hpt⟩:=s.bu.fr.cell;have k1:(h.bl.a_ bm (.map (M'.map nS) clock')).get bb=h.bl.get bb:=ne bb (by rw[s.jj];exact nc);have k2:(h.bl.a_ bm (.map (M'.map nS) clock')).get bp=h.bl.get bp:=ne bp (by rw[B0];exact nc);have k3:(h.bl.a_ bm (.map (M'.map nS) clock')).get bl=h.bl.get bl:=ne bl (by rw[s.bu.cell];exact nc);refine⟨s.rH,s.jV,s.Yr,k1.trans s.jj,T.ay _ _ _,o,λe he=>?_,hg,⟨⟨s.bu.fr.lt,s.bu.fr.lo,fs,k2.trans B0,?_⟩,s.bu.lt,s.bu.lo,k3.trans s.bu.cell,s.bu.ok,s.bu.small⟩,s.ne⟩
 .have a:=hh e he;exact⟨a.lt,(ne _ (by rw[a.get];exact nc)).trans a.get,a.qv.put (λvs op=>by rw[gm];exact bY) _⟩
 .rcases hpt with e|⟨b,G,e,h1,h2,h3,h4⟩
  .exact .inl e
  .exact .inr ⟨b,G,e,h1,h2,(ne b (by rw[h3];exact nc)).trans h3,h4⟩
theorem Up{Q:List R5}{W:Int}(v:VQ Q W)(n:Nat):(e_ n Q).1.length=Q.length:=by
 have:=congrArg List.length (E5 n v).2.1;simpa using this
structure fS(M M':List HE)(t r w:Int)(Q:List R5):Prop where
 gone:Q=[]->M'=M.filter λx=>!jO t r x
 put:Q≠[]->∃e,e.t=t/\e.r=r/\e.w=w/\e.Q=Q/\M'.Perm (M.filter (λx=>!jO t r x)++[e])
theorem wu{h:af}{bb bm bp bl most:Nat}{M:List HE}{clock:Nat}{F:List Int}{B:List Bool}(s:bC h bb bm bp bl most M clock F B)(hlo:h.lo<=h.nx)(t r:Int)(q:Value)(w:Int)(Q:List R5)(V:KQ)(hq:Sl bT h q Q)(vq:VQ Q w)(hlen:Q.length<=128)(hk:∀M' clock' v' h',bC h' bb bm bp bl most M' clock' F B->fS M M' t r w (e_ (jB Q+1) Q).1->C_ h h' v' (e_ (jB Q+1) Q).2->tP bm bp bl h h'->V v' h'):av prog 347 [UV bb,lF t r q w] h V:=by
 obtain⟨qx,qc,rfl,_⟩:=(show Sl bT h q Q from hq)
 apply X9;rw[aep];simp(disch:=try exact QQ)only[Wz,lF];obtain⟨hA,aY,aU,g1,dI,dJ⟩:=kG h (gQ t r (.slice qx Q.length qc) w);rw[<-aY];clear aY;refine ae3 t r _ w Q hA _ (hq.le aU) X1 X1 vq ?_;intro q2 v2 h2 DB nJ bD;obtain⟨vq2,hkey,hst,hgr⟩:=E5 (jB Q+1) vq;have tg:=Up vq (jB Q+1);generalize hQ2:(e_ (jB Q+1) Q).1=Q2 at *
 generalize hI2:(e_ (jB Q+1) Q).2=I2 at *
 obtain⟨yT,yU,rfl,_⟩:=(show Sl bT h2 q2 Q2 from DB.1)
 have n2:=bD.nx;have l2:=bD.lo;have g1:=(bD.get _ X1).trans g1;have ar5:=hst (Nat.lt_succ_self _);simp(disch:=try exact QQ)only[Wz,lF,g1];obtain⟨h3,e3⟩:∃h3:af,h3=⟨h2.nx,h2.bl.a_ h.nx (gQ t r (.slice yT Q2.length yU) w),h2.lo⟩:=⟨_,rfl⟩
 have dM:Le h h3:=by rw[e3];exact(aU.trans bD).set X1 _
 have g3:h3.bl.get h.nx=some (gQ t r (.slice yT Q2.length yU) w):=by rw[e3];exact T.ay _ _ _
 have n3:h3.nx=h2.nx:=by rw[e3]
 have l3:h3.lo=h2.lo:=by rw[e3]
 have hq3:QV h3 (.slice yT Q2.length yU) Q2:=by rw[e3];exact DB.put (λvs op=>by rw[g1];exact bJ X7) _
 have tM:C_ h h3 v2 I2:=by
  rw[e3];exact Own.put (Own.base nJ X1) (by rw[g1];exact bI) _
 rw[<-e3];clear e3;have s3:=s.le dM;have gb:=s3.jj;have gm:=s3.g_;refine⟨λl h'=>V v2 h',?_,λl h' hk'=>hk'⟩;by_cases h0:Q2=[]
 .subst h0;simp(disch:=try exact QQ)only[Wz,Bx,g3,IU,aN,gb];refine afg s3.ok gm (by have:=s3.Yr;omega) t r _ ?_;intro h4 hc;have lV:fS M (M.filter λx=>!jO t r x) t r w []:=⟨λ_=>rfl,λhn=>absurd rfl hn⟩
  rcases hc with rfl|⟨rfl,hM⟩
  .exact hk _ clock v2 _ (s3.put (s3.ok.filter _) (λe he=>s3.bh e (List.mem_filter.1 he).1) λe he=>s3.good e (List.mem_filter.1 he).1) lV (Own.put tM (by rw[gm];exact bY) _) ((tP.of_le dM).trans (tP.of_map _))
  .rw[hM]at lV;exact hk _ clock v2 _ s3 lV tM (tP.of_le dM)
 ·have hpos:0<Q2.length:=List.length_pos_iff.2 h0;simp(disch:=try exact QQ)only[Wz,Bx,g3,bf (show ¬(Q2.length:Int)=0 by omega),IV,aN,gb];refine aff s3.ok gm (by have:=s3.Yr;omega) t r h.nx (.slice yT Q2.length yU) w Q2 _ ?_;intro M' clock' born o' hp;have hsub:∀x∈M',x∈M\/x=⟨t,r,h.nx,born,.slice yT Q2.length yU,w,Q2⟩:=λx hx=>by
   rcases List.mem_append.1 (hp.mem_iff.1 hx)with hx|hx
   .exact .inl (List.mem_filter.1 hx).1
   .exact .inr (List.mem_singleton.1 hx)
  refine hk M' clock' v2 _ (s3.put o' (λe he=>?_) λe he=>?_) ⟨λhn=>absurd hn h0,λ_=>⟨_,rfl,rfl,rfl,rfl,hp⟩⟩ (Own.put tM (by rw[gm];exact bY) _) ((tP.of_le dM).trans (tP.of_map _))
  .rcases hsub e he with h1|rfl
   .exact s3.bh e h1
   .exact⟨by show h.nx<h3.nx;omega,g3,hq3⟩
  .rcases hsub e he with h1|rfl
   .exact s3.good e h1
   .exact⟨h0,vq2,ar5,by show Q2.length<=128;omega⟩
theorem Yu(x:Int)(r:R5)(b:Nat)(h:af)(V:KQ)(hlo:h.lo<=h.nx)(hb:b<h.nx)(hg:h.bl.get b=some (aj [X8 x] 3 false))(hk:∀h',Le h h'->V (.bool (decide (r.x=x))) h'):av prog 394 [nP r,ax b] h V:=by
 have hk:=hk _ ((Le.refl h).new (mV r));apply X9;rw[aeE];simp(disch:=try exact Y)only[Wz,bT,hg];exact hk
theorem Jw{h:af}{bb bm bp bl most:Nat}{M:List HE}{clock:Nat}{F:List Int}{B:List Bool}(s:bC h bb bm bp bl most M clock F B)(hlo:h.lo<=h.nx)(t r x:Int)(V:KQ)(qn:∀h',(∀e∈M,t=e.t->r=e.r->∀p∈e.Q,p.x≠x)->Le h h'->V (.tuple ⟨[X8 0,.bool false]⟩) h')(dZ:∀h' e p,e∈M->t=e.t->r=e.r->p∈e.Q->p.x=x->Le h h'->V (.tuple ⟨[X8 p.id,.bool true]⟩) h'):av prog 350 [UV bb,dg t r,X8 x] h V:=by
 apply X9;rw[aeq];simp(disch:=try exact Y)only[Wz,dg];obtain⟨hA,aY,aU,g1,g3,dI,dJ⟩:=AY h (aj [X8 t,X8 r] 28 false) (aj [X8 x] 3 false);rw[<-aY];clear aY;have sA:=s.le aU;have gb:=sA.jj;have gm:=sA.g_;by_cases hc:∃e∈M,t=e.t/\r=e.r
 case neg=>
  have hn:∀e∈M,¬(t=e.t/\r=e.r):=λe he h=>hc ⟨e,he,h⟩;have eL:=D4 (β:=Option Value) (fl:=none) gm t r hn;unfold dg at eL;simp(disch:=try exact Y)only[Wz,jk,By,aN,gb,g1,eL];exact qn _ (λe he h1 h2=>absurd ⟨h1,h2⟩ (hn e he)) aU
 obtain⟨e,he,rfl,rfl⟩:=hc;have eL:=Jv (β:=Option Value) (fl:=none) sA.ok gm he;unfold dg at eL;have H:=sA.bh e he;have hlt:=H.lt;have gd:=sA.good e he;have uZ:=gd.small;obtain⟨qx,qc,eq,_⟩:=(show Sl bT hA e.q e.Q from H.qv.1)
 have gh:=H.get;rw[eq]at gh;simp(disch:=try exact Y)only[Wz,jk,By,aN,gb,g1,eL,IX,gh];rw[<-eq];refine BJ e.Q (λp=>decide (p.x=x)) hA _ _ _ H.qv.1 X1 ?_ ?_
 .intro p _ h1 κ1 l1 dZ;simp(disch:=try exact Y)only[Wz,List.nil_append,List.cons_append];refine Yu x p (h.nx+1) h1 κ1 (by have:=l1.lo;have:=l1.nx;omega) (by have:=l1.nx;omega) ((l1.get _ X1).trans g3) dZ
 intro h2 bD;have gh2:=(bD.get _ hlt).trans gh;have mD:=aU.trans bD;rcases nN e.Q (λp=>decide (p.x=x))with⟨ei,hf⟩|⟨i,p,ei,hp,h1,h2⟩
 .rw[ei];simp(disch:=try exact Y)only[Wz,gY];exact qn h2 (λe' he' h1 h2 p hp=>by rw[sA.ok.uniq he' he h1.symm h2.symm]at hp;have:=hf p hp;simpa using this) mD
 .rw[ei];obtain⟨b,o,hb,WN,_,hid,_⟩:=WJ (H.qv.1.le bD) i hp;rw[eq]at WN;simp(disch:=try exact Y)only[Wz,gY,d_ (show(0:Int)<=(i:Int)by omega),IW,aN,gh2,WN,hid];exact dZ _ e p he rfl rfl (List.mem_of_getElem? hp) (by simpa using h1) mD
def iu(M:List HE):List Int:=M.flatMap λe=>e.Q.map (·.id)
def mK(B:List Bool):List Int:=((List.range B.length).filter λn=>(B[n]?).getD false).map λn:Nat=>(n:Int)
theorem lZ{B:List Bool}{x:Int}:x∈mK B<->∃n:Nat,x=(n:Int)/\B[n]? = some true:=by
 unfold mK;rw[List.mem_map];constructor
 .rintro⟨n,hn,rfl⟩;rw[List.mem_filter,List.mem_range]at hn;refine⟨n,rfl,?_⟩;have h2:=hn.2;rw[List.getElem?_eq_getElem hn.1]at h2 ⊢;simpa using h2
 .rintro⟨n,rfl,h⟩;refine⟨n,List.mem_filter.2 ⟨List.mem_range.2 (List.getElem?_eq_some_iff.1 h).1,by rw[h];rfl⟩,rfl⟩
theorem B1{L:List Nat}(h:L.Nodup):(L.map λn:Nat=>(n:Int)).Nodup:=by
 rw[List.Nodup,List.pairwise_map];exact h.imp λhne e=>hne (Int.ofNat.inj e)
theorem uS(B:List Bool):(mK B).Nodup:=B1 (List.nodup_range.filter _)
theorem B2{L:List Int}{x:Int}(h:L.Nodup)(hx:x∉L):(L++[x]).Nodup:=by
 rw[List.nodup_append];refine⟨h,by simp,λa ha b hb=>?_⟩;rw[List.mem_singleton]at hb;subst hb;rintro rfl;exact hx ha
theorem D6{B:List Bool}{n:Nat}(h:B[n]? = some false):(mK (B.set n true)).Perm (mK B++[(n:Int)]):=by
 have hn:n<B.length:=(List.getElem?_eq_some_iff.1 h).1;refine(List.perm_ext_iff_of_nodup (uS _) (B2 (uS _) λhm=>?_)).2 λx=>?_
 .obtain⟨k,e,hk⟩:=lZ.1 hm;have:k=n:=(Int.ofNat.inj e).symm;subst this;rw[h]at hk;cases hk
 .rw[List.mem_append,List.mem_singleton,lZ,lZ];constructor
  .rintro⟨k,rfl,hk⟩;by_cases hkn:k=n
   .exact .inr (by rw[hkn])
   .rw[List.getElem?_set,if_neg (λe=>hkn e.symm)]at hk;exact .inl ⟨k,rfl,hk⟩
  .rintro(⟨k,rfl,hk⟩|rfl)
   .refine⟨k,rfl,?_⟩;rw[List.getElem?_set];split
    .rename_i e;exact absurd (by rw[<-e,h]at hk;exact hk:some false=some true) (by simp)
    .exact hk
   .exact⟨n,rfl,by rw[List.getElem?_set,if_pos rfl,if_pos hn]⟩
theorem Qd{B:List Bool}{n:Nat}(h:B[n]? = some true):(mK B).Perm (mK (B.set n false)++[(n:Int)]):=by
 have hn:n<B.length:=(List.getElem?_eq_some_iff.1 h).1;have:=D6 (B:=B.set n false) (n:=n) (by rw[List.getElem?_set,if_pos rfl,if_pos hn]);rw[List.set_set]at this;have e:B.set n true=B:=by
  refine List.ext_getElem? λk=>?_;rw[List.getElem?_set];split
  .rename_i e;rw[<-e,h]
  .rfl
 rwa [e]at this
theorem wz{F:List Int}{B:List Bool}(o:mC F B):(mK B).length+F.length=B.length:=by
 have hp:F.Perm (((List.range B.length).filter λn=>!(B[n]?).getD false).map λn:Nat=>(n:Int)):=by
  refine(List.perm_ext_iff_of_nodup o.nodup (B1 (List.nodup_range.filter _))).2 λx=>?_;rw[List.mem_map];constructor
  .intro hx;obtain⟨n,rfl⟩:∃n:Nat,x=(n:Int):=⟨x.toNat,by have:=o.pos x hx;omega⟩
   have hb:=(o.mem n).1 hx;exact⟨n,List.mem_filter.2 ⟨List.mem_range.2 (List.getElem?_eq_some_iff.1 hb).1,by rw[hb];rfl⟩,rfl⟩
  .rintro⟨n,hn,rfl⟩;rw[List.mem_filter,List.mem_range]at hn;refine(o.mem n).2 ?_;have h2:=hn.2;rw[List.getElem?_eq_getElem hn.1]at h2 ⊢;simpa using h2
 rw[hp.length_eq];unfold mK;rw[List.length_map,List.length_map,<-List.countP_eq_length_filter,<-List.countP_eq_length_filter];have:=List.length_eq_countP_add_countP (λn=>(B[n]?).getD false) (l:=List.range B.length);rw[List.length_range]at this;have e2:List.countP (λn=>!(B[n]?).getD false) (List.range B.length)=List.countP (λa=>decide ¬(B[a]?).getD false=true) (List.range B.length):=List.countP_congr λx _=>by simp
 omega
theorem oQ(M N:List HE):iu (M++N)=iu M++iu N:=List.flatMap_append
theorem tC{M N:List HE}(h:M.Perm N):(iu M).Perm (iu N):=h.flatMap_right _
theorem wA(e:HE):iu [e]=e.Q.map (·.id):=by simp[iu]
theorem tD{M:List HE}{clock:Nat}(o:cO M clock){e:HE}(he:e∈M):M.Perm (M.filter (λx=>!jO e.t e.r x)++[e]):=by
 obtain⟨j,hj,rfl⟩:=List.mem_iff_getElem.1 he;rw[<-erase_filter o.nm (List.getElem?_eq_getElem hj)];have:M=M.set j M[j]:=by simp
 refine(List.Perm.of_eq this).trans ?_;rw[List.set_eq_take_append_cons_drop,if_pos hj,List.eraseIdx_eq_take_drop_succ];exact(List.perm_middle).trans (List.perm_append_singleton _ _).symm
theorem D7{M:List HE}{t r:Int}(hn:∀e∈M,¬(t=e.t/\r=e.r)):M.filter (λx=>!jO t r x)=M:=List.filter_eq_self.2 λx hx=>lY.2 (hn x hx)
theorem fS.ids{M M':List HE}{t r w:Int}{Q:List R5}(s:fS M M' t r w Q):(iu M').Perm (iu (M.filter λx=>!jO t r x)++Q.map (·.id)):=by
 by_cases h0:Q=[]
 .rw[s.gone h0,h0];simp
 .obtain⟨e,_,_,_,eq,hp⟩:=s.put h0;have:=tC hp;rw[oQ,wA,eq]at this;exact this
theorem B3{Q:List R5}{W:Int}(v:VQ Q W)(n:Nat):(e_ n Q).1.map (·.id)=Q.map (·.id):=by
 have:=congrArg (List.map Prod.fst) (E5 n v).2.1;simpa[List.map_map,Function.comp_def,LF]using this
def uj(M:List HE)(B:List Bool):Prop:=∃X,(iu M++X).Perm (mK B)
theorem uj.find{M:List HE}{B:List Bool}(i:uj M B){e:HE}(he:e∈M){p:R5}(hp:p∈e.Q):∃n:Nat,p.id=(n:Int)/\B[n]? = some true:=by
 obtain⟨X,hX⟩:=i;exact lZ.1 (hX.mem_iff.1 (List.mem_append.2 (.inl (List.mem_flatMap.2 ⟨e,he,List.mem_map.2 ⟨p,hp,rfl⟩⟩))))
theorem QV.frame{h h':af}{q:Value}{Q:List R5}(v:QV h q Q)(hn:h.nx<=h'.nx)(hg:∀c vs op,c<h.nx->h.bl.get c=some (aj vs 57 op)->h'.bl.get c=h.bl.get c):QV h' q Q:=by
 obtain⟨hs,ht⟩:=v;constructor
 .obtain⟨x,cap,rfl,h2⟩:=hs;refine⟨x,cap,rfl,λhne=>?_⟩;obtain⟨b,o,rfl,h3,h4⟩:=h2 hne;obtain⟨h1,vs,op,h5⟩:=ht b o _ cap rfl (by intro h0;exact hne (List.eq_nil_of_length_eq_zero h0));refine⟨b,o,rfl,Nat.lt_of_lt_of_le h3 hn,?_⟩;rw[hg b vs op h1 h5];exact h4
 .intro b o n c hv hn0;obtain⟨h1,vs,op,h2⟩:=ht b o n c hv hn0;exact⟨Nat.lt_of_lt_of_le h1 hn,vs,op,(hg b vs op h1 h2).trans h2⟩
theorem pF.sD{h h':af}{bp bl:Nat}{F:List Int}{B:List Bool}{e:HE}(a:pF h e)(p:fo h bp bl F B)(f:OG bp bl h h'):pF h' e:=by
 have fn:=f.nx;obtain⟨fs,B0,hpt⟩:=p.fr.cell;have gl:=p.cell;have key:∀c vs ty,c<h.nx->h.bl.get c=some (aj vs ty false)->ty≠286->ty≠4->h'.bl.get c=h.bl.get c:=λc vs ty hc hg h1 h2=>
  f.get c hc (by rintro rfl;rw[hg]at B0;exact bJ h1 B0) (by rintro rfl;rw[hg]at gl;exact bJ h2 gl) λws=>by rw[hg];exact bI
 have al:=a.lt;refine⟨X1,(key _ _ _ al a.get X7 X7).trans a.get,a.qv.frame fn λc vs op hc hg=>?_⟩;exact f.get c hc (by rintro rfl;rw[hg]at B0;exact bJ X7 B0) (by rintro rfl;rw[hg]at gl;exact bJ X7 gl) λws=>by rw[hg];exact bJ X7
theorem bC.sD{h h':af}{bb bm bp bl most:Nat}{M:List HE}{clock:Nat}{F F':List Int}{B B':List Bool}(s:bC h bb bm bp bl most M clock F B)(p:fo h' bp bl F' B')(f:OG bp bl h h'):bC h' bb bm bp bl most M clock F' B':=by
 have fn:=f.nx;have fl:=f.lo;have sb:=s.rH;have sm:=s.jV;obtain⟨fs,B0,hpt⟩:=s.bu.fr.cell;have gl:=s.bu.cell;have key:∀c vs ty,c<h.nx->h.bl.get c=some (aj vs ty false)->ty≠286->ty≠4->h'.bl.get c=h.bl.get c:=λc vs ty hc hg h1 h2=>
  f.get c hc (by rintro rfl;rw[hg]at B0;exact bJ h1 B0) (by rintro rfl;rw[hg]at gl;exact bJ h2 gl) λws=>by rw[hg];exact bI
 have gm:=s.g_;have km:h'.bl.get bm=h.bl.get bm:=f.get bm sm (by rintro rfl;rw[B0]at gm;exact bY gm.symm) (by rintro rfl;rw[gl]at gm;exact bY gm.symm) λws=>by rw[gm];exact bY
 refine⟨X1,X1,by rw[fl];exact s.Yr,(key bb _ _ sb s.jj X7 X7).trans s.jj,km.trans gm,s.ok,λe he=>?_,s.good,p,s.ne⟩;exact(s.bh e he).sD s.bu f
theorem Yv(Q:List R5)(W id x m:Int):(mz Q W id x m).1.id=id:=by unfold mz;split<;>rfl
structure qs(h h':af)(bb bm bp bl most:Nat)(M M':List HE)(clock':Nat)(F F':List Int)(B:List Bool)(t r x m:Int)(n:Nat)(g:Bool):Prop where
 is:bC h' bb bm bp bl most M' clock' F' (B.set n true)
 free:((n:Int)::F').Perm F
 old:B[n]? = some false
 least:∀k,k<n->B[k]? = some true
 fr:tP bm bp bl h h'
 set:∃Q w,((∃e∈M,e.t=t/\e.r=r/\e.Q=Q/\e.w=w)\/((∀e∈M,¬(t=e.t/\r=e.r))/\M.length<most/\Q=[]/\w=0))/\VQ Q w/\VQ (Q++[(mz Q w n x m).1]) (mz Q w n x m).2.1/\g=(mz Q w n x m).2.2/\
  fS M M' t r (mz Q w n x m).2.1 (e_ (jB (Q++[(mz Q w n x m).1])+1) (Q++[(mz Q w n x m).1])).1
theorem D8{h h0:af}{bb bm bp bl most:Nat}{M:List HE}{clock:Nat}{F:List Int}{B:List Bool}(s:bC h bb bm bp bl most M clock F B)(hlo:h.lo<=h.nx)(l0:Le h0 h)(ids:uj M B)(hF:F.length<=1000)(N:Nat)(hN:N<=100000)(hw:∀e∈M,e.w<=N)(t r x m:Int)(am:cE m=true)(l:List Value)(ph:Nat)(Q:List R5)(q:Value)(w:Int)(hl:ah l 18=UV ph)(hp:ph<h.nx)(gp:h.bl.get ph=some (gQ t r q w))(hq:QV h q Q)(vq:VQ Q w)(uZ:F≠[]->Q.length<=127)(hwN:w<=N)(hx:∀p∈Q,p.x≠x)(Dc:∀p∈Q,∃k:Nat,p.id=(k:Int)/\B[k]? = some true)(hold:((∃e∈M,e.t=t/\e.r=r/\e.Q=Q/\e.w=w)\/((∀e∈M,¬(t=e.t/\r=e.r))/\M.length<most/\Q=[]/\w=0)))(V:KQ)(hkF:∀h',F=[]->Le h0 h'->V (.tuple ⟨[X8 0,.bool false,X8 8]⟩) h')(WO:∀M' clock' F' h' n g,qs h0 h' bb bm bp bl most M M' clock' F F' B t r x m n g->V (.tuple ⟨[X8 (n:Int),.bool g,X8 0]⟩) h'):BA (UV bb) l (X8 x) (X8 m) h V:=by
 have gb:=s.jj;simp(disch:=try exact Y)only[Wz,BA,aN,gb];refine afb bp bl F B h _ s.bu hF hlo s.ne ?_ ?_
 .intro h0';simp(disch:=try exact Y)only[Wz];exact hkF h h0' l0
 intro h2 F' n p2 hp2 hb afc Da;have s2:=s.sD p2 Da;have n2:=Da.nx;have l2:=Da.lo;have hF0:F≠[]:=by rintro rfl;have:=hp2.length_eq;simp at this
 have uZ:=uZ hF0;have H2:=pF.sD (e:=⟨t,r,ph,0,q,w,Q⟩) ⟨hp,gp,hq⟩ s.bu Da;have g2:h2.bl.get ph=some (gQ t r q w):=H2.get;have DB:QV h2 q Q:=H2.qv;obtain⟨qx,qc,rfl,_⟩:=(show Sl bT h2 q Q from DB.1)
 simp(disch:=try exact Y)only[Wz,IY,hl,aN,g2];have hn:∀p∈Q,p.id≠(n:Int)/\p.x≠x:=λp hp'=>⟨λe=>by
  obtain⟨k,e1,e2⟩:=Dc p hp';have:k=n:=by omega
  rw[this,hb]at e2;exact absurd e2 (by simp),hx p hp'⟩
 refine ak8 t r _ w (n:Int) x m Q h2 _ DB.1 X1 X1 ⟨vq.w0,X1⟩ X1 am hn ?_;intro q3 h3 tM dM;have n3:=dM.nx;have l3:=dM.lo;have v3:=vq.ask (id:=(n:Int)) (x:=x) (m:=m) X1 am hn;obtain⟨Jq,Jr,rfl,_⟩:=(show Sl bT h3 q3 _ from tM.sl)
 simp(disch:=try exact Y)only[Wz,lF];have jP:Le h2 ⟨h3.nx+1,h3.bl.a_ h3.nx (gQ t r (.slice Jq (Q++[(mz Q w n x m).1]).length Jr) (mz Q w n x m).2.1),h3.lo⟩:=dM.new _;have lh4:Le h3 ⟨h3.nx+1,h3.bl.a_ h3.nx (gQ t r (.slice Jq (Q++[(mz Q w n x m).1]).length Jr) (mz Q w n x m).2.1),h3.lo⟩:=(Le.refl h3).new _;have s4:=s2.le jP;refine wu s4 (by show h3.lo<=h3.nx+1;omega) t r _ _ _ _ ((tM.sl).le lh4) v3 (by simp;omega) ?_;intro M' clock' v' h' s5 lV uQ Qe;exact WO M' clock' F' h' n _ ⟨s5,hp2,hb,afc,(tP.of_le l0).trans ((tP.alo Da).trans ((tP.of_le jP).trans Qe)),Q,w,hold,vq,v3,rfl,lV⟩
theorem uj.len{M:List HE}{F:List Int}{B:List Bool}(i:uj M B)(o:mC F B){e:HE}(he:e∈M):e.Q.length+F.length<=B.length:=by
 have h1:=wz o;obtain⟨X,hX⟩:=i;have h2:=hX.length_eq;rw[List.length_append]at h2;have:e.Q.length<=(iu M).length:=by
  have hs:=List.append_of_mem he;obtain⟨s,t,rfl⟩:=hs;simp[iu];omega
 omega
theorem Yw{h:af}{bb bm bp bl most:Nat}{M:List HE}{clock:Nat}{F:List Int}{B:List Bool}(s:bC h bb bm bp bl most M clock F B)(hlo:h.lo<=h.nx)(ids:uj M B)(N:Nat)(hN:N<=100000)(hw:∀e∈M,e.w<=N)(t r x m:Int)(V:KQ)(hk2:∀h',cE m=false->Le h h'->V (.tuple ⟨[X8 0,.bool false,X8 2]⟩) h')(wZ:∀h' e p,cE m=true->e∈M->t=e.t->r=e.r->p∈e.Q->p.x=x->Le h h'->V (.tuple ⟨[X8 0,.bool false,X8 4]⟩) h')(Yx:∀h',cE m=true->(∀e∈M,t=e.t->r=e.r->∀p∈e.Q,p.x≠x)->(F=[]\/((∀e∈M,¬(t=e.t/\r=e.r))/\most<=M.length))->Le h h'->V (.tuple ⟨[X8 0,.bool false,X8 8]⟩) h')(WO:∀M' clock' F' h' n g,cE m=true->(∀e∈M,t=e.t->r=e.r->∀p∈e.Q,p.x≠x)->qs h h' bb bm bp bl most M M' clock' F F' B t r x m n g->V (.tuple ⟨[X8 (n:Int),.bool g,X8 0]⟩) h'):av prog 353 [UV bb,dg t r,X8 x,X8 m] h V:=by
 apply X9;rw[aes];have hFl:F.length<=1000:=by have:=wz s.bu.ok;have:=s.bu.small;omega
 simp(disch:=try exact Y)only[Wz,dg];obtain⟨hA,aY,aU,g1,dI,dJ⟩:=kG h (aj [X8 t,X8 r] 28 false);rw[<-aY];clear aY;have sA:=s.le aU;simp(disch:=try exact Y)only[Wz,jk,I1];by_cases h0:m=0
 .simp(disch:=try exact Y)only[Wz,bz h0];exact hk2 _ (by simp[cE,h0]) aU
 simp(disch:=try exact Y)only[Wz,bf h0];refine qW m ?_;cases hkn:kn m with
 |false=>
  simp(disch:=try exact Y)only[Wz];exact hk2 _ (by simp[cE,hkn]) aU
 |true=>
 have am:cE m=true:=by simp[cE,hkn,h0]
 simp(disch:=try exact Y)only[Wz,IZ,g1];refine Jw sA X1 t r x _ ?_ ?_
 case _=>
  intro h2 hno bD;have mD:=aU.trans bD;have s2:=sA.le bD;have n2:=bD.nx;have l2:=bD.lo;have gb:=s2.jj;have gm:=s2.g_;have g1:=(bD.get _ X1).trans g1;by_cases hc:∃e∈M,t=e.t/\r=e.r
  .obtain⟨e,he,rfl,rfl⟩:=hc;have eL:=Jv (β:=Option Value) (fl:=none) s2.ok gm he;unfold dg at eL;have H:=s2.bh e he;have hgd:=s2.good e he;simp(disch:=try exact Y)only[Wz,BB,aN,gb,g1,eL];refine⟨λl h'=>ah l 18=UV e.hb/\HQ h2 h',⟨rfl,rfl⟩,?_⟩;rintro l h' ⟨hl,hq⟩;cases(show h2=h' from hq);refine D8 s2 X1 mD ids hFl N hN hw e.t e.r x m am l e.hb e.Q e.q e.w hl H.lt H.get H.qv hgd.vq (λhF0=>?_) (hw e he) (hno e he rfl rfl) (λp hp=>ids.find he hp) (.inl ⟨e,he,rfl,rfl,rfl,rfl⟩) V (λh' h1 h3=>Yx h' am hno (.inl h1) h3) λM' clock' F' h' n g hA=>WO M' clock' F' h' n g am hno hA;have:=ids.len s.bu.ok he;have:=s.bu.small;have:=List.length_pos_iff.2 hF0;omega
  .have hn:∀e∈M,¬(t=e.t/\r=e.r):=λe he h=>hc ⟨e,he,h⟩;have eL:=D4 (β:=Option Value) (fl:=none) gm t r hn;unfold dg at eL;simp(disch:=try exact Y)only[Wz,BB,aN,gb,g1,eL];by_cases hfull:M.length<most
   .obtain⟨hB,eB⟩:∃hB:af,hB=⟨h2.nx+1,h2.bl.a_ h2.nx (gQ t r (.slice none 0 0) 0),h2.lo⟩:=⟨_,rfl⟩
    have OI:Le h2 hB:=by rw[eB];exact(Le.refl h2).new _
    have gB:hB.bl.get h2.nx=some (gQ t r (.slice none 0 0) 0):=by rw[eB];exact T.ay _ _ _
    have nB:hB.nx=h2.nx+1:=by rw[eB]
    have lB:hB.lo=h2.lo:=by rw[eB]
    refine⟨λl h'=>ah l 18=UV h2.nx/\HQ hB h',?_,?_⟩
    .simp(disch:=try exact Y)only[Wz,Bz,aN,gb,g1,qK,gm,cC,List.length_map,bz (show Int.ofNat M.length<(most:Int)from by show(M.length:Int)<_;omega),Bool.not_true];exact⟨trivial,eB⟩
    .rintro l h' ⟨hl,hq⟩;cases(show hB=h' from hq);have sB:=s2.le OI;exact D8 sB X1 (mD.trans OI) ids hFl N hN hw t r x m am l h2.nx [] (.slice none 0 0) 0 hl X1 gB ⟨Sl.nil _ _ _,λb o n c hv _=>nomatch hv⟩ VQ.nil (λ_=>by simp) X1 (λp hp=>nomatch hp) (λp hp=>nomatch hp) (.inr ⟨hn,hfull,rfl,rfl⟩) V (λh' h1 h3=>Yx h' am hno (.inl h1) h3) λM' clock' F' h' n g hA=>WO M' clock' F' h' n g am hno hA
   .refine⟨λl h'=>False,?_,λ_ _ h=>h.elim⟩;simp(disch:=try exact Y)only[Wz,Bz,aN,gb,g1,qK,gm,cC,List.length_map,bf (show ¬Int.ofNat M.length<(most:Int)from by show ¬(M.length:Int)<_;omega),Bool.not_false];exact Yx h2 am hno (.inr ⟨hn,X1⟩) mD
 case _=>
  intro h2 e p he ht hr hp hx bD;simp(disch:=try exact Y)only[Wz];exact wZ h2 e p am he ht hr hp hx (aU.trans bD)
structure l_(h h':af)(bb bm bp bl most:Nat)(M M':List HE)(clock':Nat)(F':List Int)(B':List Bool)(e:HE)(Q1:List R5)(w1:Int):Prop where
 is:bC h' bb bm bp bl most M' clock' F' B'
 fr:tP bm bp bl h h'
 vq:VQ Q1 w1
 set:fS M M' e.t e.r w1 (e_ (jB Q1+1) Q1).1
theorem sE{Q:List R5}{W:Int}(v:VQ Q W){id:Int}{p:R5}(hf:cL Q id=some p):∃i:Nat,Q[i]? = some p/\p.id=id:=by
 obtain⟨h1,h2⟩:=kS hf;obtain⟨i,hi⟩:=List.mem_iff_getElem?.1 h1;exact⟨i,hi,h2⟩
theorem Jx{h:af}{bb bm bp bl most:Nat}{M:List HE}{clock:Nat}{F:List Int}{B:List Bool}(s:bC h bb bm bp bl most M clock F B)(hlo:h.lo<=h.nx)(N:Nat)(hN:N<=100000)(hw:∀e∈M,e.w<=N)(id m:Int)(V:KQ)(hk2:∀h',cE m=false->Le h h'->V (.tuple ⟨[.bool false,X8 2]⟩) h')(Fx:∀h',cE m=true->(∀e∈M,cL e.Q id=none)->Le h h'->V (.tuple ⟨[.bool false,X8 5]⟩) h')(Uq:∀h' e p,cE m=true->e∈M->cL e.Q id=some p->0<p.s->Le h h'->V (.tuple ⟨[.bool false,X8 7]⟩) h')(qn:∀h' M' clock' e p i,cE m=true->e∈M->e.Q[i]? = some p->cL e.Q id=some p->¬0<p.s->l_ h h' bb bm bp bl most M M' clock' F B e (e.Q.set i (kH e.Q e.w p m).1) (kH e.Q e.w p m).2.1->V (.tuple ⟨[.bool (kH e.Q e.w p m).2.2,X8 0]⟩) h'):av prog 354 [UV bb,X8 id,X8 m] h V:=by
 apply X9;rw[aet];simp(disch:=try exact Y)only[Wz,jk,I3];refine Ys s hlo id _ ?_ ?_
 .intro h1 hno bN;have n1:=bN.nx;have l1:=bN.lo;simp(disch:=try exact Y)only[Wz,sC];obtain⟨hA,aY,aU,g7,dI,dJ⟩:=kG h1 (gQ 0 0 (.slice none 0 0) 0);rw[<-aY];clear aY;refine⟨λl h'=>ah l 4=UV h1.nx/\HQ hA h',⟨rfl,rfl⟩,?_⟩;rintro l h' ⟨hl,hq⟩;cases(show hA=h' from hq);simp(disch:=try exact Y)only[Wz,BC,hl,aN,g7];refine BS 0 0 _ 0 id m [] hA _ (Sl.nil _ _ _) (by simp) X1 X1 ?_ ?_ ?_ ?_
  .intro ha h2 bD;have:=bD.nx;have:=bD.lo;simp(disch:=try exact Y)only[Wz,lF];exact hk2 _ ha (((bN.trans aU).trans bD).new _)
  .intro ha _ h2 bD;have:=bD.nx;have:=bD.lo;simp(disch:=try exact Y)only[Wz,lF];exact Fx _ ha hno (((bN.trans aU).trans bD).new _)
  .intro ha p hf;cases hf
  .intro ha i p hi;simp at hi
 .intro h1 e p0 he hf0 bN;have n1:=bN.nx;have l1:=bN.lo;have s1:=s.le bN;have H:=s1.bh e he;have hlt:=H.lt;have gd:=s1.good e he;have uZ:=gd.small;obtain⟨qx,qc,eq,_⟩:=(show Sl bT h1 e.q e.Q from H.qv.1)
  have gh:=H.get;rw[eq]at gh;have we:=hw e he;simp(disch:=try exact Y)only[Wz,wq];refine⟨λl h'=>ah l 4=UV e.hb/\HQ h1 h',⟨rfl,rfl⟩,?_⟩;rintro l h' ⟨hl,hq⟩;cases(show h1=h' from hq);simp(disch:=try exact Y)only[Wz,BC,hl,aN,gh];refine BS e.t e.r _ e.w id m e.Q h1 _ (by rw[<-eq];exact H.qv.1) X1 X1 ⟨gd.vq.w0,X1⟩ ?_ ?_ ?_ ?_
  .intro ha h2 bD;have:=bD.nx;have:=bD.lo;simp(disch:=try exact Y)only[Wz,lF];exact hk2 _ ha ((bN.trans bD).new _)
  .intro ha hf;rw[hf]at hf0;cases hf0
  .intro ha p hf hs h2 bD;have:=bD.nx;have:=bD.lo;simp(disch:=try exact Y)only[Wz,lF];exact Uq _ e p ha he hf hs ((bN.trans bD).new _)
  .intro ha i p hi hf hs q' h2 DB bD;have n2:=bD.nx;have l2:=bD.lo;obtain⟨yT,yU,rfl,_⟩:=(show Sl bT h2 q' _ from DB.1)
   have vu:=gd.vq.upg hi hs ha;simp(disch:=try exact Y)only[Wz,lF];have dM:Le h1 ⟨h2.nx+1,h2.bl.a_ h2.nx (gQ e.t e.r (.slice yT (e.Q.set i (kH e.Q e.w p m).1).length yU) (kH e.Q e.w p m).2.1),h2.lo⟩:=bD.new _;have lh3:Le h2 ⟨h2.nx+1,h2.bl.a_ h2.nx (gQ e.t e.r (.slice yT (e.Q.set i (kH e.Q e.w p m).1).length yU) (kH e.Q e.w p m).2.1),h2.lo⟩:=(Le.refl h2).new _;refine wu (s1.le dM) (by show h2.lo<=h2.nx+1;omega) e.t e.r _ _ _ _ (DB.1.le lh3) vu (by rw[List.length_set];omega) ?_;intro M' clock' v' h' s5 lV _ Qe;exact qn h' M' clock' e p i ha he hi hf hs ⟨s5,(tP.of_le (bN.trans dM)).trans Qe,vu,lV⟩
theorem Qf{h:af}{bb bm bp bl most:Nat}{M:List HE}{clock:Nat}{F:List Int}{B:List Bool}(s:bC h bb bm bp bl most M clock F B)(hlo:h.lo<=h.nx)(ids:uj M B)(id:Int)(V:KQ)(Fx:∀h',(∀e∈M,cL e.Q id=none)->Le h h'->V (.tuple ⟨[.slice none 0 0,X8 5]⟩) h')(qn:∀h' M' clock' F' v' e p (n:Nat),e∈M->cL e.Q id=some p->id=(n:Int)->B[n]? = some true->F'.Perm (F++[(n:Int)])->l_ h h' bb bm bp bl most M M' clock' F' (B.set n false) e (e.Q.filter λr=>!cZ id r) e.w->C_ h h' v' (e_ (jB (e.Q.filter λr=>!cZ id r)+1) (e.Q.filter λr=>!cZ id r)).2->V (.tuple ⟨[v',X8 0]⟩) h'):av prog 395 [UV bb,X8 id] h V:=by
 apply X9;rw[aeF];refine Ys s hlo id _ ?_ ?_
 .intro h1 hno bN;simp(disch:=try exact Y)only[Wz,sC];refine Un bb h1 _ ?_;exact Fx h1 hno bN
 .intro h1 e p he hf bN;have n1:=bN.nx;have l1:=bN.lo;have s1:=s.le bN;have H:=s1.bh e he;have hlt:=H.lt;have gd:=s1.good e he;have uZ:=gd.small;obtain⟨qx,qc,eq,_⟩:=(show Sl bT h1 e.q e.Q from H.qv.1)
  have gh:=H.get;rw[eq]at gh;obtain⟨n,en,zI⟩:=ids.find he (kS hf).1;have eid:id=(n:Int):=by rw[<-en];exact(kS hf).2.symm
  have hFl:F.length<=1000:=by have:=wz s.bu.ok;have:=s.bu.small;omega
  simp(disch:=try exact Y)only[Wz,wq,I_,aN,gh];refine Yh e.t e.r _ e.w id e.Q h1 _ (by rw[<-eq];exact H.qv.1) X1 X1 (by rw[hf];simp) ?_;intro q' h2 DB bD;have n2:=bD.nx;have l2:=bD.lo;obtain⟨yT,yU,rfl,_⟩:=(show Sl bT h2 q' _ from DB.1)
  have s2:=s1.le bD;have gb:=s2.jj;have hlb:=s2.rH;simp(disch:=try exact Y)only[Wz,lF];obtain⟨h3,e3⟩:∃h3:af,h3=⟨h2.nx+1,h2.bl.a_ h2.nx (gQ e.t e.r (.slice yT (e.Q.filter λr=>!cZ id r).length yU) e.w),h2.lo⟩:=⟨_,rfl⟩
  have dM:Le h2 h3:=by rw[e3];exact(Le.refl h2).new _
  have g3:h3.bl.get h2.nx=some (gQ e.t e.r (.slice yT (e.Q.filter λr=>!cZ id r).length yU) e.w):=by rw[e3];exact T.ay _ _ _
  have n3:h3.nx=h2.nx+1:=by rw[e3]
  have l3:h3.lo=h2.lo:=by rw[e3]
  rw[<-e3];clear e3;have s3:=s2.le dM;have hl:=gd.vq.filter λr=>!cZ id r;simp(disch:=try exact Y)only[Wz,gb,eid];refine afd bp bl F B n h3 _ s3.bu hFl X1 s3.ne zI ?_;intro h4 F' p4 WQ fr4;have n4:=fr4.nx;have l4:=fr4.lo;have H4:=pF.sD (e:=⟨e.t,e.r,h2.nx,0,_,e.w,_⟩) ⟨by show h2.nx<h3.nx;omega,g3,DB.le dM⟩ s3.bu fr4;have g4:=H4.get;simp(disch:=try exact Y)only[Wz,g4];have lf:(e.Q.filter λr=>!cZ id r).length<=e.Q.length:=List.length_filter_le _ _;refine wu (s3.sD p4 fr4) X1 e.t e.r _ _ _ _ H4.qv.1 hl (by show(e.Q.filter λr=>!cZ id r).length<=128;omega) ?_;intro M' clock' v' h' s5 lV uQ Qe;have Ug:C_ h h' v' _:=Own.base uQ (by have:=bN.nx;omega);exact qn h' M' clock' F' v' e p n he hf eid zI WQ ⟨s5,(tP.of_le ((bN.trans bD).trans dM)).trans ((tP.alo fr4).trans Qe),hl,lV⟩ Ug
end Go.Proofs
