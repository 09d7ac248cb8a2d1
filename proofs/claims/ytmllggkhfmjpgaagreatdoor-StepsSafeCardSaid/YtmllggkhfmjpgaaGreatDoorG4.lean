/-
  PROVED HERE: a part of the proof (K0, K1, K2, VaiA, K3, VaiF, K4, K5, K6, K7, K8, K9, K10, K11, K12, K13, K14, K15, K16, K17, K18, K19, K20, K21, K22).
-/
import Derived.Test.YtmllggkhfmjpgaaGreatDoorG3
import Derived.Test.YtmllggkhfmjpgaaGreatDoorRZ
set_option linter.unusedVariables false
set_option linter.unusedSimpArgs false
set_option maxRecDepth 100000
namespace Go.Proofs
open Go.Vai Go.Clashes
open Tryz (prog)
theorem mixed:prog.follows .mixedOrders=true:=by kernel_rfl
theorem X2{f args h Y}(g : aO prog f args h Y):aj prog f args h Y := ay mixed g
theorem noSideHere:x7 prog=true:=by kernel_rfl
def iF(t r:Int):Value:=.agg ⟨[X1 t,X1 r]⟩
theorem adR:∀i,i<7->∀j,j<7->bW prog 200 299 [X1 (.ofNat i),X1 (.ofNat j)] (.bool (cmp (.ofNat i) (.ofNat j)))=true:=by decide +kernel
theorem adS(n:Nat)(b:Int):bW prog 200 299 [X1 (.negSucc n),X1 b] (.bool false)=true:=by kernel_rfl
theorem adT(n:Nat)(b:Int):bW prog 200 299 [X1 (.ofNat (n+7)),X1 b] (.bool false)=true:=by kernel_rfl
theorem adU:∀i,i<7->∀n:Nat,bW prog 200 299 [X1 (.ofNat i),X1 (.negSucc n)] (.bool false)=true:=by
 refine seven ?_ ?_ ?_ ?_ ?_ ?_ ?_<;>intro n<;>kernel_rfl
theorem adV:∀i,i<7->∀n:Nat,bW prog 200 299 [X1 (.ofNat i),X1 (.ofNat (n+7))] (.bool false)=true:=by
 refine seven ?_ ?_ ?_ ?_ ?_ ?_ ?_<;>intro n<;>kernel_rfl
theorem zl(a b:Int){h:ah}{Y:KQ}(hk:Y (.bool (cmp a b)) h):aj prog 299 [X1 a,X1 b] h Y:=
 r6 mixed (F:=λa b=>.bool (cmp a b)) adR (λn b=>by rw[EV (qQ n)];exact adS n b) (λn b=>by rw[EV (qR n)];exact adT n b) (λi hi n=>by rw[Lc (qQ n)];exact adU i hi n) (λi hi n=>by rw[Lc (qR n)];exact adV i hi n) a b hk
theorem adW:∀i,i<7->∀j,j<7->bW prog 200 178 [X1 (.ofNat i),X1 (.ofNat j)] (.bool (qP (.ofNat i) (.ofNat j)))=true:=by decide +kernel
theorem adX(n:Nat)(b:Int):bW prog 200 178 [X1 (.negSucc n),X1 b] (.bool false)=true:=by kernel_rfl
theorem adY(n:Nat)(b:Int):bW prog 200 178 [X1 (.ofNat (n+7)),X1 b] (.bool false)=true:=by kernel_rfl
theorem adZ:∀i,i<7->∀n:Nat,bW prog 200 178 [X1 (.ofNat i),X1 (.negSucc n)] (.bool false)=true:=by
 refine seven ?_ ?_ ?_ ?_ ?_ ?_ ?_<;>intro n<;>kernel_rfl
theorem ad0:∀i,i<7->∀n:Nat,bW prog 200 178 [X1 (.ofNat i),X1 (.ofNat (n+7))] (.bool false)=true:=by
 refine seven ?_ ?_ ?_ ?_ ?_ ?_ ?_<;>intro n<;>kernel_rfl
theorem Qq(a b:Int){h:ah}{Y:KQ}(hk:Y (.bool (qP a b)) h):aj prog 178 [X1 a,X1 b] h Y:=
 r6 mixed (F:=λa b=>.bool (qP a b)) adW (λn b=>by rw[Wc (qQ n)];exact adX n b) (λn b=>by rw[Wc (qR n)];exact adY n b) (λi hi n=>by rw[We (qQ n)];exact adZ i hi n) (λi hi n=>by rw[We (qR n)];exact ad0 i hi n) a b hk
theorem ad1:∀i,i<7->∀j,j<7->bW prog 200 129 [X1 (.ofNat i),X1 (.ofNat j)] (X1 (jC (.ofNat i) (.ofNat j)))=true:=by decide +kernel
theorem ad2(n:Nat)(b:Int):bW prog 200 129 [X1 (.negSucc n),X1 b] (X1 0)=true:=by kernel_rfl
theorem ad3(n:Nat)(b:Int):bW prog 200 129 [X1 (.ofNat (n+7)),X1 b] (X1 0)=true:=by kernel_rfl
theorem ad4:∀i,i<7->∀n:Nat,bW prog 200 129 [X1 (.ofNat i),X1 (.negSucc n)] (X1 0)=true:=by
 refine seven ?_ ?_ ?_ ?_ ?_ ?_ ?_<;>intro n<;>kernel_rfl
theorem ad5:∀i,i<7->∀n:Nat,bW prog 200 129 [X1 (.ofNat i),X1 (.ofNat (n+7))] (X1 0)=true:=by
 refine seven ?_ ?_ ?_ ?_ ?_ ?_ ?_<;>intro n<;>kernel_rfl
theorem Wn(a b:Int){h:ah}{Y:KQ}(hk:Y (X1 (jC a b)) h):aj prog 129 [X1 a,X1 b] h Y:=
 r6 mixed (F:=λa b=>X1 (jC a b)) ad1 (λn b=>by rw[Pw (qQ n)];exact ad2 n b) (λn b=>by rw[Pw (qR n)];exact ad3 n b) (λi hi n=>by rw[Px (qQ n)];exact ad4 i hi n) (λi hi n=>by rw[Px (qR n)];exact ad5 i hi n) a b hk
theorem uu(a:Int){h:ah}{Y:KQ}(hk:Y (.bool (kn a)) h):aj prog 103 [X1 a] h Y:=by
 refine iX (v:=.bool (kn a)) rfl rfl (ay mixed ?_) hk;rw[X7];by_cases h1:a<0
 .simp(disch:=try exact QQ)only[Wz];simp[kn];omega
 .by_cases h2:6<a
  .simp(disch:=try exact QQ)only[Wz];simp[kn];omega
  .simp(disch:=try exact QQ)only[Wz];simp[kn];omega
abbrev j0(r:R5):Value:=.agg ⟨bA r⟩
noncomputable abbrev jM(r:R5):bT:=ai [X1 r.id,X1 r.x,X1 r.m,X1 r.w,X1 r.s] 57 false
def zR:List Value:=[X1 0,X1 0,X1 0,X1 0,X1 0]
theorem aiz:BG prog 53:=⟨λh n c n' c'=>by kernel_rfl,λh a n c n' c'=>by kernel_rfl⟩
theorem Qr(a0 a1:Value)(h:ah)(Y:KQ):aO prog 363 [a0,a1] h Y=eu prog 3 5 a0 a1 h Y:=by kernel_rfl
theorem ad6(a0 a1:Value)(h:ah)(Y:KQ):aO prog 421 [a0,a1] h Y=mh prog 3 363 a0 a1 h Y:=by kernel_rfl
theorem ad7(a0:Value)(h:ah)(Y:KQ):aO prog 165 [a0] h Y=r5 prog 53 57 5 zR a0 h Y:=by kernel_rfl
theorem ad8(a0 a1:Value)(h:ah)(Y:KQ):aO prog 415 [a0,a1] h Y=iT prog 3 363 57 5 zR a0 a1 h Y:=by kernel_rfl
theorem zm(L:List R5)(F:R5->Bool)(h:ah)(v fv:Value)(Y:KQ)(hv:Sl bA h v L)(hlen:L.length<=1000000)(hF:∀p,p∈L->∀(h1:ah)(κ1:Value->ah->Prop),Le h h1->(∀h2,Le h1 h2->κ1 (.bool (F p)) h2)->jL prog fv [j0 p] h1 κ1)(hk:∀h',Le h h'->Y (X1 (gQ (L.findIdx? F))) h'):aj prog 363 [v,fv] h Y:=
 mj mixed cq Qr L F h v fv Y hv hlen hF hk
theorem nh(L:List R5)(F:R5->Bool)(h:ah)(v fv:Value)(Y:KQ)(hv:Sl bA h v L)(hlen:L.length<=1000000)(hF:∀p,p∈L->∀(h1:ah)(κ1:Value->ah->Prop),Le h h1->(∀h2,Le h1 h2->κ1 (.bool (F p)) h2)->jL prog fv [j0 p] h1 κ1)(hk:∀h',Le h h'->Y (.bool (L.any F)) h'):aj prog 421 [v,fv] h Y:=
 AU mixed cq Qr ad6 L F h v fv Y hv hlen hF hk
abbrev w5(a h:ah)(v:Value)(L:List R5):Prop:=eG bA a 57 h v L
theorem GQ(L:List R5)(h:ah)(v:Value)(Y:KQ)(hv:Sl bA h v L)(hlen:L.length<=1000000)(hlo:h.lo<=h.nx)(hk:∀v' h',w5 h h' v' L->Le h h'->Y v' h'):aj prog 165 [v] h Y:=
 XG mixed cq yI X0 X0 aiz ad7 L h v Y hv hlen hlo hk
theorem MV(a h:ah)(L:List R5)(F:R5->Bool)(v fv:Value)(Y:KQ)(hle:Le a h)(ho:w5 a h v L)(hlen:L.length<=100000)(hlo:a.lo<=a.nx)(hF:∀p,∀(h1:ah)(κ1:Value->ah->Prop),Le a h1->(h.nx<=h1.nx/\∀c,c<h.nx->h.bl.get c≠some (ai (L.flatMap bA) 57 true)->h1.bl.get c=h.bl.get c)->(∀h2,Le h1 h2->κ1 (.bool (F p)) h2)->jL prog fv [j0 p] h1 κ1)(hk:∀v' h',Sl bA h' v' (L.filter λp=>!F p)->Cut 57 5 h' v' (L.filter λp=>!F p).length->Le a h'->(h.nx<=h'.nx/\∀c,c<h.nx->h.bl.get c≠some (ai (L.flatMap bA) 57 true)->h'.bl.get c=h.bl.get c)->mQ 57 h' v'->Y v' h'):aj prog 415 [v,fv] h Y:=
 Jd mixed cq yI X0 rfl rfl X0 Qr ad8 a h L F v fv Y hle ho hlen hlo hF hk
theorem Jn{h:ah}{v:Value}{L:List R5}(hs:Sl bA h v L)(i:Nat){p:R5}(hp:L[i]? = some p):∃b o,b<h.nx/\(∀(β:Type)(fl:β)(h':ah)(Y:XW β),az fl 5 v (X1 (i:Int)) h' Y=Y (.pointer (some ⟨b,o,none⟩)) h')/\
   ((∀(β:Type)(fl:β)(Y:List Value->β),Aq fl (h.bl.get b) o 5 Y=Y (bA p))/\
   (∀(β:Type)(fl:β)(Y:Value->β),qn fl (h.bl.get b) o Y=Y (X1 p.id))/\
   (∀(β:Type)(fl:β)(Y:Value->β),qn fl (h.bl.get b) (o+1) Y=Y (X1 p.x))/\
   (∀(β:Type)(fl:β)(Y:Value->β),qn fl (h.bl.get b) (o+2) Y=Y (X1 p.m))/\
   (∀(β:Type)(fl:β)(Y:Value->β),qn fl (h.bl.get b) (o+3) Y=Y (X1 p.w))/\
   (∀(β:Type)(fl:β)(Y:Value->β),qn fl (h.bl.get b) (o+4) Y=Y (X1 p.s))):=by
 obtain⟨b,o,h1,h2,h3,hh⟩:=hs.ld cq i hp;have h5:(bA p).length=5:=rfl;exact⟨b,o,h1,h2,h3,λβ fl Y=>cO (fl:=fl) hh 0 Y XV,λβ fl Y=>cO (fl:=fl) hh 1 Y XV,λβ fl Y=>cO (fl:=fl) hh 2 Y XV,λβ fl Y=>cO (fl:=fl) hh 3 Y XV,λβ fl Y=>cO (fl:=fl) hh 4 Y XV⟩
theorem jN(r:R5){h:ah}{Y:KQ}(hk:Y (.bool (decide (r.m≠0))) h):aj prog 319 [j0 r] h Y:=by
 refine iX (v:=.bool (decide (r.m≠0))) rfl rfl (ay mixed ?_) hk;rw[Zl];simp(disch:=try exact QQ)only[Wz,bA];simp
theorem uv(r:R5){h:ah}{Y:KQ}(hk:Y (.bool (decide (0<r.s))) h):aj prog 238 [j0 r] h Y:=by
 refine iX (v:=.bool (decide (0<r.s))) rfl rfl (ay mixed ?_) hk;rw[YY];simp(disch:=try exact QQ)only[Wz,bA]
theorem pK(r:R5){h:ah}{Y:KQ}(hk:Y (.bool (wA r)) h):aj prog 320 [j0 r] h Y:=by
 refine iX (v:=.bool (wA r)) rfl rfl (ay mixed ?_) hk;rw[Zm];simp(disch:=try exact QQ)only[Wz,bA];refine jN r ?_;by_cases h1:r.m=0
 .simp(disch:=try exact QQ)only[Wz,a_ (show ¬r.m≠0 by omega)];simp[wA,h1]
 .simp(disch:=try exact QQ)only[Wz,bq (show r.m≠0 from h1)];refine uv r ?_;simp[wA,h1]
theorem GR(m:Int){h:ah}{Y:KQ}(hk:Y (.bool (cL m)) h):aj prog 420 [X1 m] h Y:=by
 refine iX (v:=.bool (cL m)) rfl rfl (ay mixed ?_) hk;rw[ZT];by_cases h0:m=0
 .simp(disch:=try exact QQ)only[Wz,bq h0];simp[cL,h0]
 .simp(disch:=try exact QQ)only[Wz,a_ h0];refine uu m ?_;simp[cL,h0]
def jd(t r:Int)(q:Value)(w:Int):Value:=.agg ⟨[X1 t,X1 r,q,X1 w]⟩
theorem zn{h:ah}{q:Value}{Q:List R5}(hq:Sl bA h q Q):q.cells.toList=[q]/\eO q=true:=by
 obtain⟨x,cap,rfl,_⟩:=hq;exact⟨rfl,rfl⟩
theorem Qs(id:Int)(r:R5)(b:Nat)(h:ah)(Y:KQ)(hlo:h.lo<=h.nx)(hb:b<h.nx)(hg:h.bl.get b=some (ai [X1 id] 3 false))(hk:∀h',Le h h'->Y (.bool (bE id r)) h'):aj prog 364 [j0 r,av b] h Y:=by
 have hk:=hk _ ((Le.refl h).new (jM r));apply X2;rw[ZE];simp(disch:=try exact QQ)only[Wz,bA,hg];exact hk
theorem q7(t r:Int)(q:Value)(w id:Int)(Q:List R5)(h:ah)(Y:KQ)(hq:Sl bA h q Q)(hlen:Q.length<=1000000)(hlo:h.lo<=h.nx)(hk:∀h',Le h h'->Y (X1 (gQ (Q.findIdx? (bE id)))) h'):aj prog 318 [jd t r q w,X1 id] h Y:=by
 obtain⟨hc,ho⟩:=zn hq;apply X2;rw[Zk];simp(disch:=try exact QQ)only[Wz,jd];obtain⟨hA,eA⟩:∃hA:ah,hA=⟨h.nx+1+1,(h.bl.bx h.nx (ai [X1 t,X1 r,q,X1 w] 401 false)).bx (h.nx+1) (ai [X1 id] 3 false),h.lo⟩:=⟨_,rfl⟩
 have sC:Le h hA:=by subst eA;exact((Le.refl h).new _).new _
 have g3:hA.bl.get (h.nx+1)=some (ai [X1 id] 3 false):=by subst eA;exact T.an _ _ _
 have nA:hA.nx=h.nx+1+1:=by subst eA;rfl
 have lA:hA.lo=h.lo:=by subst eA;rfl
 rw[<-eA];clear eA;refine zm Q (bE id) hA q _ _ (hq.le sC) hlen ?_ λh' hl=>hk h' (sC.trans hl);intro p hp h1 κ1 tK gP;have n1:=tK.nx;have l1:=tK.lo;simp(disch:=try exact QQ)only[Wz,List.nil_append,List.cons_append];exact Qs id p (h.nx+1) h1 κ1 XV XV ((tK.get _ XV).trans g3) gP
def wD(r o:R5):Bool:=decide (o.id≠r.id) && decide (o.m≠0) && !cmp o.m r.w
theorem TW(r o:R5)(b:Nat)(h:ah)(Y:KQ)(hlo:h.lo<=h.nx)(hb:b<h.nx)(hg:h.bl.get b=some (jM r))(hk:∀h',Le h h'->Y (.bool (wD r o)) h'):aj prog 433 [j0 o,av b] h Y:=by
 have hk:=hk _ ((Le.refl h).new (jM o));apply X2;rw[ZX];by_cases h1:o.id=r.id
 .simp(disch:=try exact QQ)only[Wz,bA,hg,bq h1];have e:wD r o=false:=by simp[wD,h1]
  rw[e]at hk;exact hk
 .simp(disch:=try exact QQ)only[Wz,bA,hg,a_ h1];refine jN o ?_;by_cases h2:o.m=0
  .simp(disch:=try exact QQ)only[Wz,a_ (show ¬o.m≠0 by omega)];have e:wD r o=false:=by simp[wD,h2]
   rw[e]at hk;exact hk
  .simp(disch:=try exact QQ)only[Wz,bq (show o.m≠0 from h2),hg];refine zl _ _ ?_;simp(disch:=try exact QQ)only[Wz];have e:wD r o=!cmp o.m r.w:=by simp[wD,h1,h2]
   rw[e]at hk;exact hk
theorem C8(t r':Int)(q:Value)(w:Int)(r:R5)(Q:List R5)(h:ah)(Y:KQ)(hq:Sl bA h q Q)(hlen:Q.length<=1000000)(hlo:h.lo<=h.nx)(hk:∀h',Le h h'->Y (.bool (iY Q r)) h'):aj prog 417 [jd t r' q w,j0 r] h Y:=by
 obtain⟨hc,ho⟩:=zn hq;apply X2;rw[ZQ];simp(disch:=try exact QQ)only[Wz,jd,bA];obtain⟨hA,eA⟩:∃hA:ah,hA=⟨h.nx+1+1,(h.bl.bx h.nx (ai [X1 t,X1 r',q,X1 w] 401 false)).bx (h.nx+1) (jM r),h.lo⟩:=⟨_,rfl⟩
 have sC:Le h hA:=by subst eA;exact((Le.refl h).new _).new _
 have g3:hA.bl.get (h.nx+1)=some (jM r):=by subst eA;exact T.an _ _ _
 have nA:hA.nx=h.nx+1+1:=by subst eA;rfl
 have lA:hA.lo=h.lo:=by subst eA;rfl
 rw[<-eA];clear eA;refine nh Q (wD r) hA q _ _ (hq.le sC) hlen ?_ ?_
 .intro p hp h1 κ1 tK gP;have n1:=tK.nx;have l1:=tK.lo;simp(disch:=try exact QQ)only[Wz,List.nil_append,List.cons_append];exact TW r p (h.nx+1) h1 κ1 XV XV ((tK.get _ XV).trans g3) gP
 .intro h' hl;simp(disch:=try exact QQ)only[Wz];exact hk h' (sC.trans hl)
theorem Qt(r:R5){h:ah}{Y:KQ}(hk:Y (.bool (decide (r.m=0))) h):aj prog 434 [j0 r] h Y:=by
 refine iX (v:=.bool (decide (r.m=0))) rfl rfl (ay mixed ?_) hk;rw[ZY];simp(disch:=try exact QQ)only[Wz,bA];refine jN r ?_;simp(disch:=try exact QQ)only[Wz];simp
theorem GU(t r':Int)(q:Value)(w:Int)(Q:List R5)(h:ah)(Y:KQ)(hq:Sl bA h q Q)(hlen:Q.length<=1000000)(hlo:h.lo<=h.nx)(hk:∀h',Le h h'->Y (X1 (gQ (fq Q))) h'):aj prog 418 [jd t r' q w] h Y:=by
 obtain⟨hc,ho⟩:=zn hq;apply X2;rw[ZR];simp(disch:=try exact QQ)only[Wz,jd];obtain⟨hA,eA⟩:∃hA:ah,hA=⟨h.nx+1,h.bl.bx h.nx (ai [X1 t,X1 r',q,X1 w] 401 false),h.lo⟩:=⟨_,rfl⟩
 have sC:Le h hA:=by subst eA;exact(Le.refl h).new _
 have gA:hA.bl.get h.nx=some (ai [X1 t,X1 r',q,X1 w] 401 false):=by subst eA;exact T.an _ _ _
 have nA:hA.nx=h.nx+1:=by subst eA;rfl
 have lA:hA.lo=h.lo:=by subst eA;rfl
 rw[<-eA];clear eA;simp(disch:=try exact QQ)only[Wz,hq.len];refine⟨λn l h1=>∃i:Nat,aa l 27=X1 (i:Int)/\aa l 25=X1 (gQ (best Q i))/\i<=Q.length/\n=Q.length-i/\Le hA h1,⟨_,0,rfl,rfl,Nat.zero_le _,rfl,Le.refl _⟩,?_⟩;rintro n l h1 ⟨i,s1,s2,hi,rfl,hle⟩;have n1:=hle.nx;have l1:=hle.lo;have g1:=(hle.get h.nx XV).trans gA;have hq1:=hq.le (sC.trans hle);by_cases hlt:i<Q.length
 .obtain⟨p,hp⟩:∃p,Q[i]? = some p:=⟨_,List.getElem?_eq_getElem hlt⟩
  obtain⟨b,o,hb,oQ,mO⟩:=Jn hq1 i hp;have LL:best Q (i+1)=if(wA p && EW Q p (best Q i))=true then some i else best Q i:=by
   show(match Q[i]? with|some r=>_|none=>_)=_
   rw[hp]
  simp(disch:=try exact QQ)only[Wz,s1,zk];refine⟨λl' h'=>aa l' 24=X1 (gQ (best Q (i+1)))/\Le hA h',?_,?_⟩
  .simp(disch:=try exact QQ)only[Wz,GM,s1,s2,oQ,mO,bA];obtain⟨hB,eB⟩:∃hB:ah,hB=⟨h1.nx+1,h1.bl.bx h1.nx (jM p),h1.lo⟩:=⟨_,rfl⟩
   have zo:Le h1 hB:=by subst eB;exact(Le.refl h1).new _
   have gB:hB.bl.get h1.nx=some (jM p):=by subst eB;exact T.an _ _ _
   have gB1:=(zo.get h.nx XV).trans g1;have nB:hB.nx=h1.nx+1:=by subst eB;rfl
   have lB:hB.lo=h1.lo:=by subst eB;rfl
   rw[<-eB];clear eB;refine pK p ?_;cases hu:wA p with
   |false=>
    simp(disch:=try exact QQ)only[Wz,s2];refine⟨?_,hle.trans zo⟩;rw[LL,hu];simp[s2]
   |true=>
    cases w6:best Q i with
    |none=>
     simp(disch:=try exact QQ)only[Wz,s2,gQ,dw (show(-1:Int)<0 by decide),w6];refine⟨?_,hle.trans zo⟩;rw[LL,hu,w6];rfl
    |some k=>
     obtain⟨MM,pk,hpk,_⟩:=Ld Q i k w6;obtain⟨b',o',hb',aiA,aiB⟩:=Jn (hq1.le zo) k hpk;have Wo:EW Q p (some k)=decide (p.s<pk.s):=by simp only[EW,hpk]
     simp(disch:=try exact QQ)only[Wz,s2,gQ,b_ (show(0:Int)<=(k:Int)by omega),w6,gB,gB1,aiA,aiB];by_cases hs:p.s<pk.s
     .simp(disch:=try exact QQ)only[Wz,bq hs];refine⟨?_,hle.trans zo⟩;rw[LL,hu,w6,Wo,bq hs];rfl
     .simp(disch:=try exact QQ)only[Wz,a_ hs];refine⟨?_,hle.trans zo⟩;rw[LL,hu,w6,Wo,a_ hs]
      first|rfl|(rw[s2,w6];rfl)
  .rintro l' h' ⟨k1,k2⟩;exact⟨_,XV,i+1,rfl,k1,XV,rfl,k2⟩
 .have hil:i=Q.length:=by omega
  subst hil;simp(disch:=try exact QQ)only[Wz,s1,zk];refine⟨λl' h'=>aa l' 6=X1 (gQ (fq Q))/\Le hA h',?_,?_⟩
  rotate_left
  .rintro l' h' ⟨k1,k2⟩
   show Y (aa l' 6) h'
   rw[k1];exact hk h' (sC.trans k2)
  cases w6:best Q Q.length with
  |some k=>
   have e:fq Q=some k:=by simp only[fq,w6]
   simp(disch:=try exact QQ)only[Wz,zj,s2,w6,gQ,b_ (show(0:Int)<=(k:Int)by omega)];refine⟨?_,hle⟩;rw[e]
  |none=>
   have e:fq Q=Q.findIdx? (λr=>decide (r.m=0)):=by simp only[fq,w6]
   simp(disch:=try exact QQ)only[Wz,zj,s2,w6,gQ,dw (show(-1:Int)<0 by decide),g1];refine zm Q (λr=>decide (r.m=0)) h1 q _ _ hq1 hlen ?_ ?_
   .intro p hp h2 κ2 AT hk2;simp(disch:=try exact QQ)only[Wz,List.nil_append,List.append_nil];exact Qt p (hk2 h2 (Le.refl _))
   .intro h' hl;refine⟨?_,hle.trans hl⟩;rw[e];rfl
end Go.Proofs

namespace Go.Vai
open Go
section
variable {α:Type}{s:Nat}{enc:α->List Value}
set_option maxRecDepth 20000 in
theorem eN{a h:ah}{e:TypeId}{z:List Value}{v x:Value}{L M:List α}(he:∀a:α,(enc a).length=s)(hone:∀a:α,(enc a).all eO=true)(hs0:0<s)(hs1:s<=100)(ho:eG enc a e h v L)(hx:Sl enc h x M)(hle:Le a h)(hb:L.length+M.length<=1000000)(hal:h.lo<=h.nx)(Y:KQ)(hk:∀v' h',eG enc a e h' v' (L++M)->Le a h'->h'.nx<=h.nx+1->h.nx<=h'.nx->h'.lo=h.lo->(∀b,b<h.nx->h.bl.get b≠some (ai (L.flatMap enc) e true)->h'.bl.get b=h.bl.get b)->Y v' h'):bt False And e s z false v x h Y:=by
 by_cases hM:M=[]
 .subst hM;rw[append_nil hx (by rcases ho with⟨rfl,rfl|⟨b,o,rfl⟩⟩|⟨b,rfl,_⟩<;>exact⟨_,_,_,rfl⟩)];exact hk v h (by simpa using ho) hle (Nat.le_succ _) (Nat.le_refl _) rfl (λ_ _ _=>rfl)
 .obtain⟨m,hm⟩:∃m,M.length=m+1:=⟨M.length-1,by have:=List.length_pos_iff.2 hM;omega⟩
  have hfl:=bg (enc:=enc) he;have fh:=hx.first (β:=Prop) (fl:=False) he;obtain⟨y,cap,rfl,h2⟩:=hx;have hml:∀K:List α,K.length<=1000000->(K.flatMap enc).length<=1000000000000:=λK hK=>by
   rw[hfl];have:=Nat.mul_le_mul hK hs1;omega
  have fresh:∀(hh:ah)(ws:List Value),ws=(L++M).flatMap enc->Le a hh->hh.nx=h.nx->hh.lo=h.lo->(∀b,b<h.nx->h.bl.get b≠some (ai (L.flatMap enc) e true)->hh.bl.get b=h.bl.get b)->cG False ws e true hh λb h'=>Y (.slice (some ⟨b,0,none⟩) (L.length+M.length) aS) h':=by
   intro hh ws hw O7 hnx hlo hgt;subst hw;unfold cG;rw[iS _ _ _ _ (hml _ (by simp;omega)),dJ];refine hk _ _ (.inr ⟨hh.nx,by simp,O7.nx,Nat.lt_succ_self _,by show hh.lo<=_;omega,T.an _ _ _⟩) (O7.new _) (by show hh.nx+1<=_;omega) (by show h.nx<=hh.nx+1;omega) hlo (λb hb hn=>(T.au _ _ XV).trans (hgt b hb hn))
  rcases ho with⟨rfl,hv⟩|⟨b,rfl,h3,h4,h5,h6⟩
  .have hF:=fresh h (M.flatMap enc) (by simp) hle rfl rfl (λ_ _ _=>rfl);simp only[List.length_nil,Nat.zero_add]at hF;rcases hv with rfl|⟨b,o,rfl⟩
   .unfold bt jf;simp only;rw[fh];simp only[hm,bR];rw[show Nat.ble (Nat.add 0 (m+1)) 1000000000=true from Nat.ble_eq_true_of_le (by show 0+(m+1)<=_;omega)];rw[hm]at hF;have e1:Nat.add 0 (m+1)=m+1:=by show 0+(m+1)=_;omega
    rw[e1];exact hF
   .unfold bt jf;simp only;rw[fh];simp only[hm,bR];have e1:Nat.add 0 (m+1)=m+1:=by show 0+(m+1)=_;omega
    rw[e1,show Nat.ble (m+1) 1000000000=true from Nat.ble_eq_true_of_le XV];rw[hm]at hF
    show fo False h s 0 _ _
    rw[jy _ _ _ _ _ (by simp)];exact hF
  .unfold bt jf;simp only;rw[fh];simp only[hm,bR];have e1:Nat.add L.length (m+1)=L.length+(m+1):=rfl;rw[e1,show Nat.ble (L.length+(m+1)) 1000000000=true from Nat.ble_eq_true_of_le XV];have e2:Nat.beq aS fT=false:=by decide
   have e3:Nat.beq aS aS=true:=Nat.beq_refl _;simp only[e2,e3,h6];have e4:Nat.ble (Nat.add 0 (Nat.mul (L.length+(m+1)) s)) (L.flatMap enc).length=false:=by
    rw[hfl];cases Iu:Nat.ble (Nat.add 0 (Nat.mul (L.length+(m+1)) s)) (L.length*s)with
    |false=>rfl
    |true=>
     have h7:0+(L.length+(m+1))*s<=L.length*s:=Nat.le_of_ble_eq_true Iu;rw[Nat.add_mul,Nat.succ_mul]at h7;omega
   have e5:(M.flatMap enc).all eO=true:=by
    rw[List.all_flatMap];simp only[List.all_eq_true];intro x _;exact List.all_eq_true.1 (hone x)
   simp only[ai,Nat.beq_refl,e4,e5,Bool.and_self];have hh:Has (h.bl.get b) 0 (L.flatMap enc):=by rw[h6];exact Has.all
   rw[jX hh s L.length _ _ _ (hfl L).symm,bI _ _ _ _ h5];have hF:=fresh ⟨h.nx,h.bl.bx b (.dead (L.flatMap enc).length e),h.lo⟩ (L.flatMap enc++M.flatMap enc) (by simp) (hle.set h3 _) rfl rfl (λb' _ hn=>T.au _ _ (λe=>hn (by rw[<-e];exact h6)));rw[hm]at hF;exact hF
end
theorem br{vs ws:List Value}{e e':TypeId}:(some (ai vs e false):Option bT)≠some (ai ws e' true):=by
 intro h;unfold ai at h;simp only[Option.some.injEq,bT.cells.injEq]at h;exact absurd h.2.2.2 X0
theorem bz{vs ws:List Value}{e e':TypeId}{p p':Bool}(hn:e≠e'):(some (ai vs e p):Option bT)≠some (ai ws e' p'):=by
 intro h;unfold ai at h;simp only[Option.some.injEq,bT.cells.injEq]at h;exact hn h.2.2.1
theorem bL{es:List MapEntry}{c:Nat}{ws:List Value}{e:TypeId}{p:Bool}:(some (.map es c):Option bT)≠some (ai ws e p):=by
 intro h;unfold ai at h;cases h
end Go.Vai

namespace Go.Proofs
open Go.Vai Go.Clashes
open Tryz (prog)
theorem eG.base{α:Type}{enc:α->List Value}{a a' h:ah}{e:TypeId}{v:Value}{L:List α}(ho:eG enc a e h v L)(hn:a'.nx<=a.nx):eG enc a' e h v L:=by
 rcases ho with ho|⟨b,h0,h1,h2⟩
 .exact .inl ho
 .exact .inr ⟨b,h0,Nat.le_trans hn h1,h2⟩
theorem eG.same{α:Type}{enc:α->List Value}{a h h':ah}{e:TypeId}{v:Value}{L:List α}(ho:eG enc a e h v L)(hn:h.nx<=h'.nx)(hl:h'.lo=h.lo)(hs:∀b,a.nx<=b->b<h.nx->h'.bl.get b=h.bl.get b):eG enc a e h' v L:=by
 rcases ho with ho|⟨b,h0,h1,h2,h3,h4⟩
 .exact .inl ho
 .exact .inr ⟨b,h0,h1,Nat.lt_of_lt_of_le h2 hn,by rw[hl];exact h3,by rw[hs b h1 h2];exact h4⟩
theorem BK(t r:Int)(q:Value)(w:Int)(Q:List R5)(h:ah)(Y:KQ)(hq:Sl bA h q Q)(hlen:Q.length<=1000000)(hlo:h.lo<=h.nx)(hk:∀q' h',w5 h h' q' Q->Le h h'->Y (jd t r q' w) h'):aj prog 391 [jd t r q w] h Y:=by
 obtain⟨qx,qc,rfl,_⟩:=id hq;apply X2;rw[ZF];simp(disch:=try exact QQ)only[Wz,jd];obtain⟨hA,eA⟩:∃hA:ah,hA=⟨h.nx+1+1,(h.bl.bx h.nx (ai [X1 t,X1 r,.slice qx Q.length qc,X1 w] 55 false)).bx (h.nx+1) (ai [X1 0,X1 0,.slice none 0 0,X1 0] 401 false),h.lo⟩:=⟨_,rfl⟩
 have sC:Le h hA:=by subst eA;exact((Le.refl h).new _).new _
 have g1:hA.bl.get h.nx=some (ai [X1 t,X1 r,.slice qx Q.length qc,X1 w] 55 false):=by subst eA;exact(T.au _ _ XV).trans (T.an _ _ _)
 have g3:hA.bl.get (h.nx+1)=some (ai [X1 0,X1 0,.slice none 0 0,X1 0] 401 false):=by subst eA;exact T.an _ _ _
 have nA:hA.nx=h.nx+1+1:=by subst eA;rfl
 have lA:hA.lo=h.lo:=by subst eA;rfl
 rw[<-eA];clear eA;refine GQ Q hA _ _ (hq.le sC) hlen XV ?_;intro q' h2 uS hle2;have n2:=hle2.nx;have l2:=hle2.lo;have g12:=(hle2.get h.nx XV).trans g1;have g32:=(hle2.get (h.nx+1) XV).trans g3;have hle:=(sC.trans hle2)
 obtain⟨qx',qc',rfl,_⟩:=id uS.sl;simp(disch:=try exact QQ)only[Wz,g12,g32];refine hk _ _ ?_ ?_
 .refine eG.base (eG.same uS (Nat.le_refl _) rfl λb h1 _=>?_) XV;exact(T.au _ _ XV).trans (T.au _ _ XV)
 .exact(hle.set (b:=h.nx) (Nat.le_refl _) _).set (b:=h.nx+1) (Nat.le_succ _) _
def q8(id x:Int)(r:R5):Bool:=decide (r.id=id) || decide (r.x=x)
theorem aac(id x:Int)(r:R5)(b3 b5:Nat)(h:ah)(Y:KQ)(hlo:h.lo<=h.nx)(Ed:b3<h.nx)(hb5:b5<h.nx)(hg3:h.bl.get b3=some (ai [X1 id] 3 false))(hg5:h.bl.get b5=some (ai [X1 x] 3 false))(hk:∀h',Le h h'->Y (.bool (q8 id x r)) h'):aj prog 422 [j0 r,av b3,av b5] h Y:=by
 have hk:=hk _ ((Le.refl h).new (jM r));apply X2;rw[ZU];by_cases h1:r.id=id
 .simp(disch:=try exact QQ)only[Wz,bA,hg3,hg5,bq h1];have e:q8 id x r=true:=by simp[q8,h1]
  rw[e]at hk;exact hk
 .simp(disch:=try exact QQ)only[Wz,bA,hg3,hg5,a_ h1];have e:q8 id x r=decide (r.x=x):=by simp[q8,h1]
  rw[e]at hk;exact hk
theorem eG.put{α:Type}{enc:α->List Value}{a h:ah}{e:TypeId}{v:Value}{L:List α}(ho:eG enc a e h v L){c:Nat}(hc:h.bl.get c≠some (ai (L.flatMap enc) e true))(o:bT):eG enc a e ⟨h.nx,h.bl.bx c o,h.lo⟩ v L:=by
 rcases ho with ho|⟨b,h0,h1,h2,h3,h4⟩
 .exact .inl ho
 .refine .inr ⟨b,h0,h1,h2,h3,(T.au _ _ ?_).trans h4⟩;rintro rfl;exact hc h4
theorem Qu(t r:Int)(qx:Option Addr)(qc:Nat)(w:Int)(p:R5)(g:Bool)(Aw MU b7:Nat)(Q:List R5)(a h:ah)(Y:KQ)(ho:w5 a h (.slice qx Q.length qc) Q)(hle:Le a h)(hlen:Q.length<=100000)(hlo:h.lo<=h.nx)(aiD:Aw<h.nx)(aor:MU<h.nx)(hb7:b7<h.nx)(hd:Aw≠b7)(aos:h.lo<=Aw)(hl7:h.lo<=b7)(g29:h.bl.get Aw=some (ai [X1 t,X1 r,.slice qx Q.length qc,X1 w] 401 false))(g35:h.bl.get MU=some (jM p))(g7:h.bl.get b7=some (ai [X1 0,X1 0,.slice none 0 0,X1 0] 55 false))(hk:∀q' h',w5 a h' q' (Q++[p])->(h.nx<=h'.nx/\h'.lo=h.lo/\∀b,b<a.nx->b≠Aw->b≠b7->h'.bl.get b=a.bl.get b)->Y (.tuple ⟨[jd t r q' w,.bool g,X1 0]⟩) h'):ur Aw MU b7 (.bool g) h Y:=by
 simp(disch:=try exact QQ)only[Wz,ur,g29,g35];have hle1:=(Le.refl h).new (jM p);refine eN (enc:=bA) (a:=a) (L:=Q) (M:=[p]) cq yI X0 X0 (ho.le hle1) (Sl.new (L:=[p]) (e:=57) (op:=false) (Nat.lt_succ_self _) (T.an _ _ _) _) (hle.new _) (by simp;omega) (by show h.lo<=h.nx+1;omega) _ ?_;intro v' h' ho' hle' Ap hn2 hl' hsame;obtain⟨qx',qc',rfl,_⟩:=(show Sl bA h' v' (Q++[p])from ho'.sl)
 have n1:h.nx+1<=h'.nx:=hn2;have k1:∀b,b<h.nx->h.bl.get b≠some (ai (Q.flatMap bA) 57 true)->h'.bl.get b=h.bl.get b:=by
  intro b hb hne;have e:(h.bl.bx h.nx (jM p)).get b=h.bl.get b:=T.au _ _ XV;exact(hsame b (Nat.lt_succ_of_lt hb) (λk=>hne (by rw[<-e];exact k))).trans e
 have aec:=(k1 Aw aiD (by rw[g29];exact br)).trans g29;have g7':=(k1 b7 hb7 (by rw[g7];exact br)).trans g7;have AT:h'.lo=h.lo:=hl';simp(disch:=try exact QQ)only[Wz,aec,g7'];refine hk _ _ ?_ ⟨by show h.nx<=h'.nx;omega,AT,?_⟩
 .refine eG.put (eG.put ho' (by rw[aec];exact br) _) ?_ _
  show(h'.bl.bx Aw _).get b7≠_
  rw[T.au _ _ hd,g7'];exact br
 .intro b hb h1 h2;exact(T.au _ _ (λe=>h2 e.symm)).trans ((T.au _ _ (λe=>h1 e.symm)).trans (hle'.get b hb))
theorem aed(t r:Int)(q:Value)(w id x m:Int)(Q:List R5)(h:ah)(Y:KQ)(hq:Sl bA h q Q)(hlen:Q.length<=100000)(hlo:h.lo<=h.nx)(hw:0<=w/\w<=1000000)(hid:0<=id)(hm:cL m=true)(hn:∀p∈Q,p.id≠id/\p.x≠x)(hk:∀q' h',w5 h h' q' (Q++[(kS Q w id x m).1])->Le h h'->Y (.tuple ⟨[jd t r q' (kS Q w id x m).2.1,.bool (kS Q w id x m).2.2,X1 0]⟩) h'):aj prog 397 [jd t r q w,X1 id,X1 x,X1 m] h Y:=by
 obtain⟨qx,qc,rfl,_⟩:=(show Sl bA h q Q from hq)
 apply X2;rw[ZL];simp(disch:=try exact QQ)only[Wz,jd];obtain⟨hA,eA⟩:∃hA:ah,hA=⟨h.nx+1+1+1+1,(((h.bl.bx h.nx (ai [X1 t,X1 r,.slice qx Q.length qc,X1 w] 55 false)).bx (h.nx+1) (ai [X1 id] 3 false)).bx (h.nx+1+1) (ai [X1 x] 3 false)).bx (h.nx+1+1+1) (ai [X1 0,X1 0,.slice none 0 0,X1 0] 55 false),h.lo⟩:=⟨_,rfl⟩
 have sC:Le h hA:=by subst eA;exact((((Le.refl h).new _).new _).new _).new _
 have g1:hA.bl.get h.nx=some (ai [X1 t,X1 r,.slice qx Q.length qc,X1 w] 55 false):=by subst eA;exact(T.au _ _ XV).trans ((T.au _ _ XV).trans ((T.au _ _ XV).trans (T.an _ _ _)))
 have g3:hA.bl.get (h.nx+1)=some (ai [X1 id] 3 false):=by subst eA;exact(T.au _ _ XV).trans ((T.au _ _ XV).trans (T.an _ _ _))
 have g5:hA.bl.get (h.nx+1+1)=some (ai [X1 x] 3 false):=by subst eA;exact(T.au _ _ XV).trans (T.an _ _ _)
 have g7:hA.bl.get (h.nx+1+1+1)=some (ai [X1 0,X1 0,.slice none 0 0,X1 0] 55 false):=by subst eA;exact T.an _ _ _
 have nA:hA.nx=h.nx+1+1+1+1:=by subst eA;rfl
 have lA:hA.lo=h.lo:=by subst eA;rfl
 rw[<-eA];clear eA;refine GR m ?_;rw[hm];simp(disch:=try exact QQ)only[Wz,GD,g1,g3,g5];refine nh Q (q8 id x) hA _ _ _ (hq.le sC) XV ?_ ?_
 .intro p hp h1 κ1 tK gP;have n1:=tK.nx;have l1:=tK.lo;simp(disch:=try exact QQ)only[Wz,List.nil_append,List.cons_append];exact aac id x p (h.nx+1) (h.nx+1+1) h1 κ1 XV XV XV ((tK.get _ XV).trans g3) ((tK.get _ XV).trans g5) gP
 intro h2 hle2;have n2:=hle2.nx;have l2:=hle2.lo;have hno:Q.any (q8 id x)=false:=by
  rw[List.any_eq_false];intro p hp;simp[q8,(hn p hp).1,(hn p hp).2]
 rw[hno];have g12:=(hle2.get h.nx XV).trans g1;have g32:=(hle2.get (h.nx+1) XV).trans g3;have g52:=(hle2.get (h.nx+1+1) XV).trans g5;have g72:=(hle2.get (h.nx+1+1+1) XV).trans g7;simp(disch:=try exact QQ)only[Wz,GC,g12];refine BK t r _ w Q h2 _ (hq.le (sC.trans hle2)) XV XV ?_;intro q3 h3 rR dn;have n3:=dn.nx;have l3:=dn.lo;obtain⟨GV,GX,rfl,_⟩:=(show Sl bA h3 q3 Q from rR.sl)
 have g33:=(dn.get (h.nx+1) XV).trans g32;have g53:=(dn.get (h.nx+1+1) XV).trans g52;have g73:=(dn.get (h.nx+1+1+1) XV).trans g72;simp(disch:=try exact QQ)only[Wz,jd,g33,g53];obtain⟨hB,eB⟩:∃hB:ah,hB=⟨h3.nx+1+1,(h3.bl.bx h3.nx (ai [X1 t,X1 r,.slice GV Q.length GX,X1 w] 401 false)).bx (h3.nx+1) (jM ⟨id,x,0,m,0⟩),h3.lo⟩:=⟨_,rfl⟩
 have zo:Le h3 hB:=by subst eB;exact((Le.refl h3).new _).new _
 have g29:hB.bl.get h3.nx=some (ai [X1 t,X1 r,.slice GV Q.length GX,X1 w] 401 false):=by subst eB;exact(T.au _ _ XV).trans (T.an _ _ _)
 have g35:hB.bl.get (h3.nx+1)=some (jM ⟨id,x,0,m,0⟩):=by subst eB;exact T.an _ _ _
 have g7B:=(zo.get (h.nx+1+1+1) XV).trans g73;have nB:hB.nx=h3.nx+1+1:=by subst eB;rfl
 have lB:hB.lo=h3.lo:=by subst eB;rfl
 rw[<-eB];clear eB;have Iw:=rR.le zo;refine GU t r _ w Q hB _ Iw.sl XV XV ?_;intro h4 gz;have n4:=gz.nx;have l4:=gz.lo;have hall:Le h h4:=(((sC.trans hle2).trans dn).trans zo).trans gz;have Wp:Le h2 h4:=(dn.trans zo).trans gz;have TX:=(gz.get h3.nx XV).trans g29;have TY:=(gz.get (h3.nx+1) XV).trans g35;have g74:=(gz.get (h.nx+1+1+1) XV).trans g7B;have SM:=Iw.le gz
 have fin:∀(p:R5)(w':Int)(g:Bool)(h5:ah),kS Q w id x m=(p,w',g)->w5 h2 h5 (.slice GV Q.length GX) Q->Le h h5->Le h2 h5->h4.nx<=h5.nx->
   h5.bl.get h3.nx=some (ai [X1 t,X1 r,.slice GV Q.length GX,X1 w'] 401 false)->h5.bl.get (h3.nx+1)=some (jM p)->h5.bl.get (h.nx+1+1+1)=some (ai [X1 0,X1 0,.slice none 0 0,X1 0] 55 false)->
   ur h3.nx (h3.nx+1) (h.nx+1+1+1) (.bool g) h5 Y:=by
  intro p w' g h5 he A0 hl5 aiE n5 k1 k2 k3;have l5:=hl5.lo;refine Qu t r GV GX w' p g _ _ _ Q h2 h5 Y A0 aiE XV XV XV XV XV XV XV XV k1 k2 k3 ?_;intro q' h' ho' hfr;obtain⟨e1,e2,e3⟩:=hfr;rw[he]at hk;have nn:=hl5.nx;refine hk q' h' (eG.base ho' XV) ⟨XV,by rw[e2];exact hl5.lo,λb hb=>?_⟩;exact(e3 b XV XV XV).trans ((sC.trans hle2).get b hb)
 have wE:=hall;cases hf:fq Q with
 |some i=>
  simp(disch:=try exact QQ)only[Wz,gQ,b_ (show(0:Int)<=(i:Int)by omega)];obtain⟨hC,eC⟩:∃hC:ah,hC=⟨h4.nx,(h4.bl.bx h3.nx (ai [X1 t,X1 r,.slice GV Q.length GX,X1 (w+1)] 401 false)).bx (h3.nx+1) (jM ⟨id,x,0,m,w+1⟩),h4.lo⟩:=⟨_,rfl⟩
  refine⟨λl h'=>HQ hC h',?_,?_⟩
  .simp(disch:=try exact QQ)only[Wz,zg,TX,TY];exact eC
  .intro l h' Kq;cases(show hC=h' from Kq);have nC:hC.nx=h4.nx:=by rw[eC]
   refine fin ⟨id,x,0,m,w+1⟩ (w+1) false hC ?_ ?_ ?_ ?_ XV ?_ ?_ ?_
   .unfold kS;rw[if_neg];simp[hf]
   .rw[eC];exact eG.put (eG.put SM (by rw[TX];exact br) _) (by show(h4.bl.bx h3.nx _).get (h3.nx+1)≠_;rw[T.au _ _ XV,TY];exact br) _
   .rw[eC];exact(wE.set (b:=h3.nx) XV _).set (b:=h3.nx+1) XV _
   .rw[eC];exact(Wp.set (b:=h3.nx) XV _).set (b:=h3.nx+1) XV _
   .rw[eC];exact(T.au _ _ XV).trans (T.an _ _ _)
   .rw[eC];exact T.an _ _ _
   .rw[eC];exact((T.au _ _ XV).trans (T.au _ _ XV)).trans g74
 |none=>
  simp(disch:=try exact QQ)only[Wz,gQ,dw (show(-1:Int)<0 by decide),TX,TY];refine C8 t r _ w ⟨id,x,0,m,0⟩ Q h4 _ SM.sl XV XV ?_;intro h5 lF;have n5:=lF.nx;have l5:=lF.lo;have aaf:=(lF.get h3.nx XV).trans TX;have TZ:=(lF.get (h3.nx+1) XV).trans TY;have g75:=(lF.get (h.nx+1+1+1) XV).trans g74;have A0:=SM.le lF;have GY:=hall.trans lF;have Wq:=Wp.trans lF;cases hfit:iY Q ⟨id,x,0,m,0⟩with
  |false=>
   simp(disch:=try exact QQ)only[Wz];obtain⟨hC,eC⟩:∃hC:ah,hC=⟨h5.nx,(h5.bl.bx h3.nx (ai [X1 t,X1 r,.slice GV Q.length GX,X1 (w+1)] 401 false)).bx (h3.nx+1) (jM ⟨id,x,0,m,w+1⟩),h5.lo⟩:=⟨_,rfl⟩
   refine⟨λl h'=>HQ hC h',?_,?_⟩
   .simp(disch:=try exact QQ)only[Wz,zg,aaf,TZ];exact eC
   .intro l h' Kq;cases(show hC=h' from Kq);have nC:hC.nx=h5.nx:=by rw[eC]
    refine fin ⟨id,x,0,m,w+1⟩ (w+1) false hC ?_ ?_ ?_ ?_ XV ?_ ?_ ?_
    .unfold kS;rw[if_neg];simp[hf,hfit]
    .rw[eC];exact eG.put (eG.put A0 (by rw[aaf];exact br) _) (by show(h5.bl.bx h3.nx _).get (h3.nx+1)≠_;rw[T.au _ _ XV,TZ];exact br) _
    .rw[eC];exact(GY.set (b:=h3.nx) XV _).set (b:=h3.nx+1) XV _
    .rw[eC];exact(Wq.set (b:=h3.nx) XV _).set (b:=h3.nx+1) XV _
    .rw[eC];exact(T.au _ _ XV).trans (T.an _ _ _)
    .rw[eC];exact T.an _ _ _
    .rw[eC];exact((T.au _ _ XV).trans (T.au _ _ XV)).trans g75
  |true=>
   simp(disch:=try exact QQ)only[Wz];obtain⟨hC,eC⟩:∃hC:ah,hC=⟨h5.nx,h5.bl.bx (h3.nx+1) (jM ⟨id,x,m,m,0⟩),h5.lo⟩:=⟨_,rfl⟩
   refine⟨λl h'=>HQ hC h',?_,?_⟩
   .simp(disch:=try exact QQ)only[Wz,TZ];exact eC
   .intro l h' Kq;cases(show hC=h' from Kq);have nC:hC.nx=h5.nx:=by rw[eC]
    refine fin ⟨id,x,m,m,0⟩ w true hC ?_ ?_ ?_ ?_ XV ?_ ?_ ?_
    .unfold kS;rw[if_pos];simp[hf,hfit]
    .rw[eC];exact eG.put A0 (by rw[TZ];exact br) _
    .rw[eC];exact GY.set (b:=h3.nx+1) XV _
    .rw[eC];exact Wq.set (b:=h3.nx+1) XV _
    .rw[eC];exact(T.au _ _ XV).trans aaf
    .rw[eC];exact T.an _ _ _
    .rw[eC];exact(T.au _ _ XV).trans g75
end Go.Proofs

namespace Go.Vai
open Go
section
variable {α:Type}{s:Nat}{enc:α->List Value}
theorem Qv(A E C ws:List Value)(j:Nat)(h:j+ws.length<=E.length):over (A++E++C) (A.length+j) ws=A++over E j ws++C:=by
 unfold over;have e1:(A++E++C).take (A.length+j)=A++E.take j:=by
  rw[List.append_assoc,List.take_append,List.take_of_length_le XV,show A.length+j-A.length=j by omega,List.take_append_of_le_length XV]
 have e2:(A++E++C).drop (A.length+j+ws.length)=E.drop (j+ws.length)++C:=by
  rw[List.append_assoc,List.drop_append,List.drop_of_length_le XV,List.nil_append,show A.length+j+ws.length-A.length=j+ws.length by omega,List.drop_append_of_le_length h]
 rw[e1,e2];simp only[List.append_assoc]
theorem gK(he:∀a:α,(enc a).length=s){K:List α}{i j:Nat}{p p':α}{ws:List Value}(hp:K[i]? = some p)(hj:j+ws.length<=s)(hw:over (enc p) j ws=enc p'):over (K.flatMap enc) (i*s+j) ws=(K.set i p').flatMap enc:=by
 obtain⟨hi,rfl⟩:=List.getElem?_eq_some_iff.1 hp;have e1:K.flatMap enc=(K.take i).flatMap enc++enc K[i]++(K.drop (i+1)).flatMap enc:=by
  have e0:K=K.take i++(K[i]::K.drop (i+1)):=by rw[List.getElem_cons_drop,List.take_append_drop]
  have:=congrArg (List.flatMap enc) e0;rw[List.flatMap_append,List.flatMap_cons]at this;rw[List.append_assoc];exact this
 have e2:(K.set i p').flatMap enc=(K.take i).flatMap enc++enc p'++(K.drop (i+1)).flatMap enc:=by
  rw[List.set_eq_take_append_cons_drop,if_pos hi];simp[List.flatMap_append]
 have hl:((K.take i).flatMap enc).length=i*s:=by rw[bg he,List.length_take,Nat.min_eq_left XV]
 rw[e1,e2,<-hl,Qv _ _ _ _ _ (by rw[he];exact hj),hw]
theorem gZ(he:∀a:α,(enc a).length=s){K:List α}{i j:Nat}{p:α}(hp:K[i]? = some p)(hj:j<s):(K.flatMap enc)[i*s+j]? = (enc p)[j]?:=by
 obtain⟨hi,rfl⟩:=List.getElem?_eq_some_iff.1 hp;have:=uc he K i hi;have e:((((K.flatMap enc).drop (i*s)).take s)[j]?)=(enc K[i])[j]?:=by rw[this]
 rw[List.getElem?_take_of_lt hj,List.getElem?_drop]at e;exact e
end
end Go.Vai

namespace Go.Proofs
open Go.Vai Go.Clashes
open Tryz (prog)
noncomputable abbrev k_(t r:Int)(q:Value)(w:Int):bT:=ai [X1 t,X1 r,q,X1 w] 401 false
noncomputable abbrev eV(t r:Int)(q:Value)(w:Int):bT:=ai [X1 t,X1 r,q,X1 w] 55 false
noncomputable abbrev ni:bT:=ai [X1 0,X1 0,.slice none 0 0,X1 0] 55 false
theorem Jo(id:Int)(r:R5)(b:Nat)(h:ah)(Y:KQ)(hlo:h.lo<=h.nx)(hb:b<h.nx)(hg:h.bl.get b=some (ai [X1 id] 3 false))(hk:∀h',Le h h'->Y (.bool (bE id r)) h'):aj prog 416 [j0 r,av b] h Y:=by
 have hk:=hk _ ((Le.refl h).new (jM r));apply X2;rw[ZP];simp(disch:=try exact QQ)only[Wz,bA,hg];exact hk
theorem BL(t r:Int)(q:Value)(w id:Int)(Q:List R5)(a h:ah)(Y:KQ)(ho:w5 a h q Q)(hle:Le a h)(hlen:Q.length<=100000)(hlo:a.lo<=a.nx)(hk:∀q' h',Sl bA h' q' (Q.filter λr=>!bE id r)->mQ 57 h' q'->Le a h'->Y (jd t r q' w) h'):aj prog 392 [jd t r q w,X1 id] h Y:=by
 obtain⟨qx,qc,rfl,_⟩:=(show Sl bA h q Q from ho.sl)
 have n_0:=hle.nx;have l_0:=hle.lo;apply X2;rw[ZG];simp(disch:=try exact QQ)only[Wz,jd];obtain⟨hA,bH⟩:∃hA:ah,hA=⟨h.nx+1+1+1,(((h.bl.bx (h.nx) (k_ t r (.slice qx Q.length qc) w)).bx (h.nx+1) (ai [X1 id] 3 false)).bx (h.nx+1+1) (ni)),h.lo⟩:=⟨_,rfl⟩
 have aY:Le h hA:=by subst bH;exact((((Le.refl h).new _).new _).new _)
 have g1:hA.bl.get (h.nx)=some (k_ t r (.slice qx Q.length qc) w):=by subst bH;exact(T.au _ _ XV).trans ((T.au _ _ XV).trans (T.an _ _ _))
 have g3:hA.bl.get (h.nx+1)=some (ai [X1 id] 3 false):=by subst bH;exact(T.au _ _ XV).trans (T.an _ _ _)
 have g5:hA.bl.get (h.nx+1+1)=some (ni):=by subst bH;exact T.an _ _ _
 have ia:hA.nx=h.nx+1+1+1:=by subst bH;rfl
 have ic:hA.lo=h.lo:=by subst bH;rfl
 rw[<-bH];clear bH;refine MV a hA Q (bE id) _ _ _ (hle.trans aY) (ho.le aY) hlen hlo ?_ ?_
 .intro p h1 κ1 tK hfr gP;have n1:=hfr.1;have l1:=tK.lo;have g3:=(hfr.2 (h.nx+1) XV (by rw[g3];exact br)).trans g3;simp(disch:=try exact QQ)only[Wz,List.nil_append,List.cons_append];exact Jo id p (h.nx+1) h1 κ1 XV XV g3 gP
 .intro q' h2 hs2 _ hle2 hfr ht;have n2:=hfr.1;have l2:=hle2.lo;have g1:=(hfr.2 h.nx XV (by rw[g1];exact br)).trans g1;have g5:=(hfr.2 (h.nx+1+1) XV (by rw[g5];exact br)).trans g5;obtain⟨qx',qc',rfl,_⟩:=(show Sl bA h2 q' _ from hs2)
  simp(disch:=try exact QQ)only[Wz,g1,g5];have hd1:∀vs op,h2.bl.get h.nx≠some (ai vs 57 op):=λvs op=>by rw[g1];exact bz X0
  have hs3:=hs2.put ht hd1 (k_ t r (.slice qx' (Q.filter λr=>!bE id r).length qc') w);have ht3:=ht.put hd1 (k_ t r (.slice qx' (Q.filter λr=>!bE id r).length qc') w);have hd2:∀vs op,(h2.bl.bx h.nx (k_ t r (.slice qx' (Q.filter λr=>!bE id r).length qc') w)).get (h.nx+1+1)≠some (ai vs 57 op):=λvs op=>by rw[T.au _ _ XV,g5];exact bz X0
  refine hk _ _ (hs3.put ht3 hd2 _) (ht3.put hd2 _) ((hle2.set (b:=h.nx) XV _).set (b:=h.nx+1+1) XV _)
def QV(h:ah)(q:Value)(Q:List R5):Prop:=Sl bA h q Q/\mQ 57 h q
theorem QV.le{h h':ah}{q:Value}{Q:List R5}(v:QV h q Q)(l:Le h h'):QV h' q Q:=⟨v.1.le l,v.2.le l⟩
theorem QV.put{h:ah}{q:Value}{Q:List R5}(v:QV h q Q){d:Nat}(hd:∀vs op,h.bl.get d≠some (ai vs 57 op))(o:bT):QV ⟨h.nx,h.bl.bx d o,h.lo⟩ q Q:=⟨v.1.put v.2 hd o,v.2.put hd o⟩
theorem QV.own{a h:ah}{q:Value}{Q:List R5}(ho:w5 a h q Q):QV h q Q:=⟨ho.sl,mQ.own ho⟩
theorem kM(Q:List R5)(id:Int):(Q.findIdx? (bE id)=none/\bU Q id=none)\/∃(i:Nat)(r:R5),Q.findIdx? (bE id)=some i/\Q[i]? = some r/\r.id=id/\bU Q id=some r:=by
 rcases jZ Q (bE id)with⟨e,h⟩|⟨i,p,e,hp,h1,h2⟩
 .refine .inl ⟨e,?_⟩;unfold bU;rw[List.find?_eq_none];intro x hx;rw[h x hx];simp
 .refine .inr ⟨i,p,e,hp,by simpa[bE]using h1,?_⟩;unfold bU;rw[List.find?_eq_some_iff_getElem];obtain⟨hi,rfl⟩:=List.getElem?_eq_some_iff.1 hp;exact⟨h1,i,hi,rfl,λj hj=>by rw[h2 j _ hj (List.getElem?_eq_getElem XV)];rfl⟩
theorem T0(t r:Int)(q:Value)(w id:Int)(Q:List R5)(h:ah)(Y:KQ)(hq:Sl bA h q Q)(hlen:Q.length<=100000)(hlo:h.lo<=h.nx)(hf:bU Q id≠none)(hk:∀q' h',QV h' q' (Q.filter λr=>!bE id r)->Le h h'->Y (.tuple ⟨[jd t r q' w,X1 0]⟩) h'):aj prog 419 [jd t r q w,X1 id] h Y:=by
 obtain⟨qx,qc,rfl,_⟩:=(show Sl bA h q Q from hq)
 apply X2;rw[ZS];simp(disch:=try exact QQ)only[Wz,jd];obtain⟨hA,bH,aY,g1,g3,ia,ic⟩:=DK h (eV t r (.slice qx Q.length qc) w) (ni);rw[<-bH];clear bH;have g3A:=g3;refine BK t r _ w Q hA _ (hq.le aY) XV XV ?_;intro q2 h2 uS hle2;have vB:=hle2.nx;have vC:=hle2.lo;have g1:=(hle2.get _ XV).trans g1;have g3:=(hle2.get _ XV).trans g3;obtain⟨qo,qp,rfl,_⟩:=(show Sl bA h2 q2 Q from uS.sl)
 simp(disch:=try exact QQ)only[Wz,jd];obtain⟨hB,ji,cC,g7,A1,A2⟩:=oR h2 (k_ t r (.slice qo Q.length qp) w);rw[<-ji];clear ji;have uw:=cC.nx;have ux:=cC.lo;have g1:=(cC.get _ XV).trans g1;have g3:=(cC.get _ XV).trans g3;have Iw:=uS.le cC;refine q7 t r _ w id Q hB _ Iw.sl XV XV ?_;intro h3 dn;have Jp:=dn.nx;have Jq:=dn.lo;have g1:=(dn.get _ XV).trans g1;have g3:=(dn.get _ XV).trans g3;have g7:=(dn.get _ XV).trans g7;have rR:=Iw.le dn;rcases kM Q id with⟨_,e⟩|⟨i,p,e,hp,MW,_⟩
 .exact absurd e hf
 rw[e];simp(disch:=try exact QQ)only[Wz,gQ,b_ (show(0:Int)<=(i:Int)by omega),g7];have Qw:Le hA h3:=(hle2.trans cC).trans dn;refine BL t r _ w id Q hA h3 _ rR Qw hlen XV ?_;intro q4 h4 hs4 ht4 gz;have C9:=gz.nx;have C_:=gz.lo;have g3:=(gz.get _ XV).trans g3A;obtain⟨qx4,qc4,rfl,_⟩:=(show Sl bA h4 q4 _ from hs4)
 simp(disch:=try exact QQ)only[Wz,jd,g3];exact hk _ _ (QV.put ⟨hs4,ht4⟩ (λvs op=>by rw[g3];exact bz X0) _) ((aY.trans gz).set (b:=h.nx+1) XV _)
theorem T1(id x:Int)(r:R5)(b3 b5:Nat)(h:ah)(Y:KQ)(hlo:h.lo<=h.nx)(Ed:b3<h.nx)(hb5:b5<h.nx)(hg3:h.bl.get b3=some (ai [X1 id] 3 false))(hg5:h.bl.get b5=some (ai [X1 x] 3 false))(hk:∀h',Le h h'->Y (.bool (decide (r.id≠id) && decide (r.x=x))) h'):aj prog 423 [j0 r,av b3,av b5] h Y:=by
 have hk:=hk _ ((Le.refl h).new (jM r));apply X2;rw[ZV];by_cases h1:r.id=id
 .simp(disch:=try exact QQ)only[Wz,bA,hg3,hg5,bq h1];rw[a_ (show ¬r.id≠id by simp[h1])]at hk;exact hk
 .simp(disch:=try exact QQ)only[Wz,bA,hg3,hg5,a_ h1];rw[bq (show r.id≠id from h1)]at hk;exact hk
theorem QV.blk{h:ah}{b n:Nat}{L:List R5}(hb:b<h.nx)(hg:h.bl.get b=some (ai (L.flatMap bA) 57 true))(hn:n=L.length):QV h (X9 b n aS) L:=by
 subst hn;refine⟨Sl.new hb hg _,λb' o' n' c' hv _=>?_⟩;cases hv;exact⟨hb,_,_,hg⟩
theorem aag(t r:Int)(q:Value)(w id x:Int)(Q:List R5)(h:ah)(Y:KQ)(hq:Sl bA h q Q)(hlen:Q.length<=100000)(hlo:h.lo<=h.nx)(hp:Q.Pairwise mo){i:Nat}{p:R5}(hi:Q[i]? = some p)(hid:p.id=id)(gP:(∃o∈Q,o.id≠id/\o.x=x)->∀h',Le h h'->Y (.tuple ⟨[jd 0 0 (.slice none 0 0) 0,X1 4]⟩) h')(hk2:(∀o∈Q,o.id≠id->o.x≠x)->0<p.s->∀h',Le h h'->Y (.tuple ⟨[jd 0 0 (.slice none 0 0) 0,X1 7]⟩) h')(Ob:(∀o∈Q,o.id≠id->o.x≠x)->¬0<p.s->∀q' h',QV h' q' (Q.set i (yL p x))->Le h h'->Y (.tuple ⟨[jd t r q' w,X1 0]⟩) h'):aj prog 399 [jd t r q w,X1 id,X1 x] h Y:=by
 obtain⟨qx,qc,rfl,_⟩:=(show Sl bA h q Q from hq)
 apply X2;rw[ZN];simp(disch:=try exact QQ)only[Wz,jd];obtain⟨hA,bH⟩:∃hA:ah,hA=⟨h.nx+1+1+1+1,((((h.bl.bx (h.nx) (eV t r (.slice qx Q.length qc) w)).bx (h.nx+1) (ai [X1 id] 3 false)).bx (h.nx+1+1) (ai [X1 x] 3 false)).bx (h.nx+1+1+1) (ni)),h.lo⟩:=⟨_,rfl⟩
 have aY:Le h hA:=by subst bH;exact(((((Le.refl h).new _).new _).new _).new _)
 have g1:hA.bl.get (h.nx)=some (eV t r (.slice qx Q.length qc) w):=by subst bH;exact(T.au _ _ XV).trans ((T.au _ _ XV).trans ((T.au _ _ XV).trans (T.an _ _ _)))
 have g3:hA.bl.get (h.nx+1)=some (ai [X1 id] 3 false):=by subst bH;exact(T.au _ _ XV).trans ((T.au _ _ XV).trans (T.an _ _ _))
 have g5:hA.bl.get (h.nx+1+1)=some (ai [X1 x] 3 false):=by subst bH;exact(T.au _ _ XV).trans (T.an _ _ _)
 have g7:hA.bl.get (h.nx+1+1+1)=some (ni):=by subst bH;exact T.an _ _ _
 have ia:hA.nx=h.nx+1+1+1+1:=by subst bH;rfl
 have ic:hA.lo=h.lo:=by subst bH;rfl
 rw[<-bH];clear bH;refine BK t r _ w Q hA _ (hq.le aY) XV XV ?_;intro q2 h2 uS hle2;have vB:=hle2.nx;have vC:=hle2.lo;have g3:=(hle2.get _ XV).trans g3;have g5:=(hle2.get _ XV).trans g5;have g7:=(hle2.get _ XV).trans g7;obtain⟨qo,qp,rfl,_⟩:=(show Sl bA h2 q2 Q from uS.sl)
 simp(disch:=try exact QQ)only[Wz,jd,g3];obtain⟨hB,ji,cC,g11,A1,A2⟩:=oR h2 (k_ t r (.slice qo Q.length qp) w);rw[<-ji];clear ji;have uw:=cC.nx;have ux:=cC.lo;have g3:=(cC.get _ XV).trans g3;have g5:=(cC.get _ XV).trans g5;have g7:=(cC.get _ XV).trans g7;have Iw:=uS.le cC;refine q7 t r _ w id Q hB _ Iw.sl XV XV ?_;intro h3 dn;have Jp:=dn.nx;have Jq:=dn.lo;have g3:=(dn.get _ XV).trans g3;have g5:=(dn.get _ XV).trans g5;have g7:=(dn.get _ XV).trans g7;have g11:=(dn.get _ XV).trans g11;have rR:=Iw.le dn;have m_:Le h h3:=((aY.trans hle2).trans cC).trans dn;rcases kM Q id with⟨_,e⟩|⟨j,p',e,hj,hjd,_⟩
 .exact absurd hid (mq e p (List.mem_of_getElem? hi))
 have hij:j=i:=Jf hp hj hi (by rw[hjd,hid]);subst hij;rw[hi]at hj;cases hj;rw[e];simp(disch:=try exact QQ)only[Wz,gQ,b_ (show(0:Int)<=(j:Int)by omega),GK,g11];refine nh Q (λo=>decide (o.id≠id) && decide (o.x=x)) h3 _ _ _ rR.sl XV ?_ ?_
 .intro o ho h4 κ4 gz Mz;have C9:=gz.nx;have C_:=gz.lo;have g3:=(gz.get _ XV).trans g3;have g5:=(gz.get _ XV).trans g5;simp(disch:=try exact QQ)only[Wz,List.nil_append,List.cons_append];exact T1 id x o (h.nx+1) (h.nx+1+1) h4 κ4 XV XV XV g3 g5 Mz
 intro h4 gz;have C9:=gz.nx;have C_:=gz.lo;have g3:=(gz.get _ XV).trans g3;have g5:=(gz.get _ XV).trans g5;have g7:=(gz.get _ XV).trans g7;have g11:=(gz.get _ XV).trans g11;have SM:=rR.le gz;have wE:=m_.trans gz;cases D6:Q.any (λo=>decide (o.id≠id) && decide (o.x=x))with
 |true=>
  simp(disch:=try exact QQ)only[Wz,g7];rw[List.any_eq_true]at D6;obtain⟨o,ho,h1⟩:=D6;simp only[Bool.and_eq_true,decide_eq_true_eq]at h1;exact gP ⟨o,ho,h1⟩ _ (wE.set (b:=h.nx+1+1+1) XV _)
 |false=>
  have hno:∀o∈Q,o.id≠id->o.x≠x:=by
   intro o ho h1 h2;rw[List.any_eq_false]at D6;have:=D6 o ho;simp[h1,h2]at this
  obtain⟨b,o,hb,oQ,mO⟩:=Jn SM.sl j hi;simp(disch:=try exact QQ)only[Wz,GJ,g11,oQ,mO];refine uv p ?_;by_cases hs:0<p.s
  .simp(disch:=try exact QQ)only[Wz,bq hs,g7];exact hk2 hno hs _ (wE.set (b:=h.nx+1+1+1) XV _)
  .rcases SM with⟨rfl,_⟩|⟨bo,e1,k1,k2,k3,k4⟩
   .simp at hi
   cases e1;have hjl:j<Q.length:=(List.getElem?_eq_some_iff.1 hi).1;have hfl:=bg (enc:=bA) cq Q;have Ar:=gK (p':=yL p x) (ws:=[X1 x]) (j:=1) cq hi (by show 1+1<=5;omega) rfl;have Qx:bo≠h2.nx:=by rintro rfl;rw[g11]at k4;exact br k4
   have Da:bo≠h.nx+1+1+1:=by rintro rfl;rw[g7]at k4;exact br k4
   simp(disch:=try exact QQ)only[Wz,a_ hs,GI,g11,g5,g7,aX,k4,Ar];have k0:hA.nx<=bo:=k1;refine Ob hno hs _ _ (QV.blk (by show bo<h4.nx;omega) ((T.au _ _ (λe=>Da e.symm)).trans (T.an _ _ _)) (by simp)) ((wE.set (b:=bo) XV _).set (b:=h.nx+1+1+1) XV _)
def aU(n:Int):List Value:=[X1 n]
theorem aZ(n:Int):(aU n).length=1:=rfl
theorem dF(n:Int):(aU n).all eO=true:=rfl
abbrev vD(a h:ah)(v:Value)(L:List Int):Prop:=eG aU a 3 h v L
theorem T2{α:Type}{enc:α->List Value}{a h:ah}{e:TypeId}{v:Value}{L:List α}(ho:eG enc a e h v L):je 8 v v=true:=by
 rcases ho with⟨rfl,rfl|⟨b,o,rfl⟩⟩|⟨b,rfl,_⟩
 .exact CL _ _
 .exact xy _ _ _ _
 .exact xy _ _ _ _
theorem GZ{Q:List R5}{W:Int}(v:VQ Q W){i:Nat}{r:R5}(hf:fq Q=some i)(hr:Q[i]? = some r)(hfit:iY Q r=true):dx (fO Q+1) Q=((dx (fO (Q.set i (eD r))+1) (Q.set i (eD r))).1,r.id::(dx (fO (Q.set i (eD r))+1) (Q.set i (eD r))).2):=by
 have hc:=tq hr (kI v hf hr)
 conv=>lhs;unfold dx
 simp only[hf,hr,hfit,if_true];rw[hc]
theorem Qy{Q:List R5}(h:tr Q):dx (fO Q+1) Q=(Q,[]):=Jh h _
theorem Jr{Q:List R5}(h:fq Q=none):tr Q:=λi r e=>by rw[h]at e;cases e
theorem Js{Q:List R5}{i:Nat}{r:R5}(h:fq Q=some i)(hr:Q[i]? = some r)(hf:iY Q r=false):tr Q:=λj q e hq=>by
 rw[h]at e;cases e;rw[hr]at hq;cases hq;exact hf
set_option maxHeartbeats 2000000 in
theorem aah(t r:Int)(q:Value)(w:Int)(Q:List R5)(h:ah)(Y:KQ)(hq:Sl bA h q Q)(hlen:Q.length<=100000)(hlo:h.lo<=h.nx)(vq:VQ Q w)(hk:∀q' v' h',QV h' q' (dx (fO Q+1) Q).1->vD h h' v' (dx (fO Q+1) Q).2->Le h h'->Y (.tuple ⟨[jd t r q' w,v']⟩) h'):aj prog 393 [jd t r q w] h Y:=by
 obtain⟨qx,qc,rfl,_⟩:=(show Sl bA h q Q from hq)
 apply X2;rw[ZH];simp(disch:=try exact QQ)only[Wz,jd];obtain⟨hA,bH,aY,g1,g3,ia,ic⟩:=DK h (eV t r (.slice qx Q.length qc) w) (ni);rw[<-bH];clear bH;refine BK t r _ w Q hA _ (hq.le aY) XV XV ?_;intro q2 h2 uS hle2;have vB:=hle2.nx;have vC:=hle2.lo;have g3:=(hle2.get _ XV).trans g3;obtain⟨qo,qp,rfl,_⟩:=(show Sl bA h2 q2 Q from uS.sl)
 simp(disch:=try exact QQ)only[Wz,jd];obtain⟨hB,ji,cC,g7,A1,A2⟩:=oR h2 (k_ t r (.slice qo Q.length qp) w);rw[<-ji];clear ji;have uw:=cC.nx;have ux:=cC.lo;have g3:=(cC.get _ XV).trans g3;have Iw:=uS.le cC;have aeg:Le h hB:=(aY.trans hle2).trans cC
 refine ⟨λn l h1=>∃(K:List R5)(ids:List Int),VQ K w/\n=fO K+1/\dx (fO Q+1) Q=((dx (fO K+1) K).1,ids++(dx (fO K+1) K).2)/\K.length=Q.length/\ids.length+fO K<=fO Q/\
   vD h h1 (aa l 49) ids/\(w5 hA h1 (.slice qo K.length qp) K)/\h1.bl.get (h.nx+1)=some ni/\h1.bl.get h2.nx=some (k_ t r (.slice qo Q.length qp) w)/\Le h h1/\hB.nx<=h1.nx,
  ⟨_,Q,[],vq,rfl,by simp,rfl,by simp,.inl ⟨rfl,.inl rfl⟩,Iw,g3,g7,aeg,Nat.le_refl _⟩,?_⟩
 rintro n l h3 ⟨K,ids,vk,rfl,hsc,G0,hcn,hoI,hoK,g3,g7,dn,n3⟩;have l3:=dn.lo;obtain⟨vi,ei⟩:∃vi,aa l 49=vi:=⟨_,rfl⟩
 rw[ei]at hoI;rw[G0]at hoK;have hcK:fO K<=K.length:=List.length_filter_le _ _;have hcQ:fO Q<=Q.length:=List.length_filter_le _ _;simp(disch:=try exact QQ)only[Wz,Gw,g7];refine GU t r _ w K h3 _ hoK.sl XV XV ?_;intro h4 gz;have C9:=gz.nx;have C_:=gz.lo;have g3:=(gz.get _ XV).trans g3;have g7:=(gz.get _ XV).trans g7;have T3:=hoK.le gz;have aeh:=hoI.le gz;have wE:=dn.trans gz;have finish:∀h',h4.nx<=h'.nx->Le h h'->vD h h' vi ids->w5 hA h' (.slice qo Q.length qp) K->h'.bl.get (h.nx+1)=some ni->tr K->Y (.tuple ⟨[.agg ⟨[X1 t,X1 r,.slice qo Q.length qp,X1 w]⟩,vi]⟩) ⟨h'.nx,h'.bl.bx (h.nx+1) (eV t r (.slice qo Q.length qp) w),h'.lo⟩:=by
  intro h' hn hl hi hr hg hst;rw[Qy hst]at hsc;rw[hsc,List.append_nil]at hk;exact hk _ _ _ (QV.put (QV.own hr) (λvs op=>by rw[hg];exact bz X0) _) (eG.put hi (by rw[hg];exact br) _) (hl.set (b:=h.nx+1) XV _)
 cases hf:fq K with
 |none=>
  simp(disch:=try exact QQ)only[Wz,gQ,dw (show(-1:Int)<0 by decide),g7,g3,ei];exact finish h4 (Nat.le_refl _) wE aeh T3 g3 (Jr hf)
 |some i=>
  obtain⟨p,hp,_⟩:=tj hf;obtain⟨b,o,hb,oQ,mO⟩:=Jn T3.sl i hp;simp(disch:=try exact QQ)only[Wz,gQ,b_ (show(0:Int)<=(i:Int)by omega),g7,oQ,mO,List.append_nil,List.cons_append,List.nil_append];refine C8 t r _ w p K h4 _ T3.sl XV XV ?_;intro h5 lF;have aiI:=lF.nx;have aiJ:=lF.lo;have g3:=(lF.get _ XV).trans g3;have g7:=(lF.get _ XV).trans g7;have aei:=T3.le lF;have aej:=aeh.le lF;have GY:=wE.trans lF;cases hfit:iY K p with
  |false=>
   simp(disch:=try exact QQ)only[Wz,g7,g3,ei];exact finish h5 XV GY aej aei g3 (Js hf hp hfit)
  |true=>
   rcases aei with⟨rfl,_⟩|⟨bo,e1,k1,k2,k3,k4⟩
   .simp at hp
   rw[G0]at e1;cases e1;have hil:i<K.length:=(List.getElem?_eq_some_iff.1 hp).1;have hfl:=bg (enc:=bA) cq K;have aek:((K.set i ⟨p.id,p.x,p.w,p.w,p.s⟩).flatMap bA).length=K.length*5:=by rw[bg cq,List.length_set]
   have Ar:=gK (p':=⟨p.id,p.x,p.w,p.w,p.s⟩) (ws:=[X1 p.w]) (j:=2) cq hp (by show 2+1<=5;omega) rfl;have hp2:(K.set i ⟨p.id,p.x,p.w,p.w,p.s⟩)[i]? = some ⟨p.id,p.x,p.w,p.w,p.s⟩:=by rw[List.getElem?_set,if_pos rfl,if_pos hil]
   have vE:=gK (p':=eD p) (ws:=[X1 0]) (j:=4) cq hp2 (by show 4+1<=5;omega) rfl;rw[List.set_set]at vE;have Qx:bo≠h2.nx:=by rintro rfl;rw[g7]at k4;exact br k4
   have Da:bo≠h.nx+1:=by rintro rfl;rw[g3]at k4;exact br k4
   have IN:(K.set i (eD p)).length=K.length:=List.length_set;rw[G0]at IN;have ye:(K.set i (eD p))[i]? = some (eD p):=by rw[List.getElem?_set,if_pos rfl,if_pos hil]
   have r3:=gZ (j:=3) cq hp X0;have r0:=gZ (j:=0) cq ye X0;have r3:(K.flatMap bA)[i*5+3]? = some (X1 p.w):=r3;have r0:((K.set i (eD p)).flatMap bA)[i*5]? = some (X1 p.id):=r0;simp(disch:=try exact QQ)only[Wz,Gv,g7,aX,k4,Ar,vE,ei,r3,r0];obtain⟨hC,eC⟩:∃hC:ah,hC=⟨h5.nx,h5.bl.bx bo (ai ((K.set i (eD p)).flatMap bA) 57 true),h5.lo⟩:=⟨_,rfl⟩
   have T4:Le h hC:=by subst eC;exact GY.set (b:=bo) XV _
   have nC:hC.nx=h5.nx:=by rw[eC]
   have lC:hC.lo=h5.lo:=by rw[eC]
   have gC:hC.bl.get bo=some (ai ((K.set i (eD p)).flatMap bA) 57 true):=by subst eC;exact T.an _ _ _
   have g3C:hC.bl.get (h.nx+1)=some ni:=by subst eC;exact(T.au _ _ Da).trans g3
   have g7C:hC.bl.get h2.nx=some (k_ t r (X9 bo Q.length aS) w):=by subst eC;exact(T.au _ _ Qx).trans g7
   have hoC:vD h hC vi ids:=by subst eC;exact eG.put aej (by rw[k4];exact bz X0) _
   have e2:(⟨h5.nx+1,(h5.bl.bx bo (ai ((K.set i (eD p)).flatMap bA) 57 true)).bx h5.nx (ai [X1 p.id] 3 false),h5.lo⟩:ah)=⟨hC.nx+1,hC.bl.bx hC.nx (ai [X1 p.id] 3 false),hC.lo⟩:=by rw[eC]
   rw[e2,show h5.nx=hC.nx from nC.symm];have hle1:=(Le.refl hC).new (ai [X1 p.id] 3 false);have vk2:=vk.PC hf hp hfit;have hcg:=tq hp (kI vk hf hp);refine eN (enc:=aU) (a:=h) (L:=ids) (M:=[p.id]) aZ dF X0 X0 (hoC.le hle1) (Sl.new (L:=[p.id]) (e:=3) (op:=false) (Nat.lt_succ_self _) (T.an _ _ _) _) (T4.new _) (by simp;omega) (by show hC.lo<=hC.nx+1;omega) _ ?_;intro v' h6 Qz G1 Ap hn2 hl6 hsame;have n6:hC.nx+1<=h6.nx:=hn2;have keep:∀c o',c<hC.nx->hC.bl.get c=some o'->some o'≠some (ai (ids.flatMap aU) 3 true)->h6.bl.get c=some o':=by
    intro c o' hc hg hne;have e:(hC.bl.bx hC.nx (ai [X1 p.id] 3 false)).get c=hC.bl.get c:=T.au _ _ XV;exact(hsame c (Nat.lt_succ_of_lt hc) (λk=>hne (by rw[<-hg,<-e];exact k))).trans (e.trans hg)
   have aoB:h6.lo=hC.lo:=hl6;refine⟨_,XV,K.set i (eD p),ids++[p.id],vk2,rfl,?_,by simpa using G0,by simp;omega,Qz,?_,?_,?_,G1,XV⟩
   .rw[hsc,GZ vk hf hp hfit];simp
   .refine .inr ⟨bo,rfl,XV,XV,XV,keep bo _ XV gC (bz X0)⟩
   .exact keep _ _ XV g3C (bz X0)
   .exact keep _ _ XV g7C (bz X0)
theorem MX(t r:Int)(q:Value)(w id:Int)(Q:List R5)(h:ah)(Y:KQ)(hq:Sl bA h q Q)(hlen:Q.length<=100000)(hlo:h.lo<=h.nx)(hp:Q.Pairwise mo){i:Nat}{p:R5}(hi:Q[i]? = some p)(hid:p.id=id)(gP:¬0<p.s->∀h',Le h h'->Y (.tuple ⟨[jd 0 0 (.slice none 0 0) 0,X1 7]⟩) h')(hk2:0<p.s->p.m=0->∀q' h',QV h' q' (Q.filter λr=>!bE id r)->Le h h'->Y (.tuple ⟨[jd t r q' w,X1 0]⟩) h')(Ob:0<p.s->p.m≠0->∀q' h',QV h' q' (Q.set i (kJ p))->Le h h'->Y (.tuple ⟨[jd t r q' w,X1 0]⟩) h'):aj prog 345 [jd t r q w,X1 id] h Y:=by
 obtain⟨qx,qc,rfl,_⟩:=(show Sl bA h q Q from hq)
 apply X2;rw[Zp];simp(disch:=try exact QQ)only[Wz,jd];obtain⟨hA,bH,aY,g1,g3,ia,ic⟩:=DK h (eV t r (.slice qx Q.length qc) w) (ni);rw[<-bH];clear bH;have g3A:=g3;refine BK t r _ w Q hA _ (hq.le aY) XV XV ?_;intro q2 h2 uS hle2;have vB:=hle2.nx;have vC:=hle2.lo;have g3:=(hle2.get _ XV).trans g3;obtain⟨qo,qp,rfl,_⟩:=(show Sl bA h2 q2 Q from uS.sl)
 simp(disch:=try exact QQ)only[Wz,jd];obtain⟨hB,ji,cC,g7,A1,A2⟩:=oR h2 (k_ t r (.slice qo Q.length qp) w);rw[<-ji];clear ji;have uw:=cC.nx;have ux:=cC.lo;have g3:=(cC.get _ XV).trans g3;have Iw:=uS.le cC;refine q7 t r _ w id Q hB _ Iw.sl XV XV ?_;intro h3 dn;have Jp:=dn.nx;have Jq:=dn.lo;have g3:=(dn.get _ XV).trans g3;have g7:=(dn.get _ XV).trans g7;have rR:=Iw.le dn;have m_:Le h h3:=((aY.trans hle2).trans cC).trans dn;rcases kM Q id with⟨_,e⟩|⟨j,p',e,hj,hjd,_⟩
 .exact absurd hid (mq e p (List.mem_of_getElem? hi))
 have hij:j=i:=Jf hp hj hi (by rw[hjd,hid]);subst hij;rw[hi]at hj;cases hj;rw[e];obtain⟨b,o,hb,oQ,mO⟩:=Jn rR.sl j hi;simp(disch:=try exact QQ)only[Wz,gQ,b_ (show(0:Int)<=(j:Int)by omega),Gf,g7,oQ,mO];refine uv p ?_;by_cases hs:0<p.s
 case neg=>
  simp(disch:=try exact QQ)only[Wz,a_ hs,g3];exact gP hs _ (m_.set (b:=h.nx+1) XV _)
 simp(disch:=try exact QQ)only[Wz,bq hs,Ge,g7,oQ,mO];refine jN p ?_;by_cases hm:p.m=0
 .simp(disch:=try exact QQ)only[Wz,a_ (show ¬p.m≠0 by omega),g7];have Qw:Le hA h3:=(hle2.trans cC).trans dn;refine BL t r _ w id Q hA h3 _ rR Qw hlen XV ?_;intro q4 h4 hs4 ht4 gz;have C9:=gz.nx;have C_:=gz.lo;have g3:=(gz.get _ XV).trans g3A;obtain⟨qx4,qc4,rfl,_⟩:=(show Sl bA h4 q4 _ from hs4)
  simp(disch:=try exact QQ)only[Wz,jd,g3];exact hk2 hs hm _ _ (QV.put ⟨hs4,ht4⟩ (λvs op=>by rw[g3];exact bz X0) _) ((aY.trans gz).set (b:=h.nx+1) XV _)
 .rcases rR with⟨rfl,_⟩|⟨bo,e1,k1,k2,k3,k4⟩
  .simp at hi
  cases e1;have hjl:j<Q.length:=(List.getElem?_eq_some_iff.1 hi).1;have hfl:=bg (enc:=bA) cq Q;have aek:((Q.set j ⟨p.id,p.x,p.m,p.m,p.s⟩).flatMap bA).length=Q.length*5:=by rw[bg cq,List.length_set]
  have Ar:=gK (p':=⟨p.id,p.x,p.m,p.m,p.s⟩) (ws:=[X1 p.m]) (j:=3) cq hi (by show 3+1<=5;omega) rfl;have hp2:(Q.set j ⟨p.id,p.x,p.m,p.m,p.s⟩)[j]? = some ⟨p.id,p.x,p.m,p.m,p.s⟩:=by rw[List.getElem?_set,if_pos rfl,if_pos hjl]
  have vE:=gK (p':=kJ p) (ws:=[X1 0]) (j:=4) cq hp2 (by show 4+1<=5;omega) rfl;rw[List.set_set]at vE;have Qx:bo≠h2.nx:=by rintro rfl;rw[g7]at k4;exact br k4
  have Da:bo≠h.nx+1:=by rintro rfl;rw[g3]at k4;exact br k4
  have r2:=gZ (j:=2) cq hi X0;have r2:(Q.flatMap bA)[j*5+2]? = some (X1 p.m):=r2;simp(disch:=try exact QQ)only[Wz,bq (show p.m≠0 from hm),Gd,g7,g3,aX,k4,Ar,vE,r2];refine Ob hs hm _ _ (QV.blk (by show bo<h3.nx;omega) ((T.au _ _ (λe=>Da e.symm)).trans (T.an _ _ _)) (by simp)) ((m_.set (b:=bo) XV _).set (b:=h.nx+1) XV _)
theorem uy(t r:Int)(q:Value)(w id:Int)(Q:List R5)(h:ah)(Y:KQ)(hq:Sl bA h q Q)(hlen:Q.length<=100000)(hlo:h.lo<=h.nx)(hk:∀h',Le h h'->Y (match bU Q id with|some p=>.tuple ⟨[j0 p,.bool true]⟩|none=>.tuple ⟨[j0 ⟨0,0,0,0,0⟩,.bool false]⟩) h'):aj prog 237 [jd t r q w,X1 id] h Y:=by
 obtain⟨qx,qc,rfl,_⟩:=(show Sl bA h q Q from hq)
 apply X2;rw[YX];simp(disch:=try exact QQ)only[Wz,jd];obtain⟨hA,bH,aY,g1,g3,ia,ic⟩:=DK h (eV t r (.slice qx Q.length qc) w) (jM ⟨0,0,0,0,0⟩);rw[<-bH];clear bH;refine q7 t r _ w id Q hA _ (hq.le aY) XV XV ?_;intro h2 hle2;have vB:=hle2.nx;have vC:=hle2.lo;have g1:=(hle2.get _ XV).trans g1;have g3:=(hle2.get _ XV).trans g3;rcases kM Q id with⟨e,e2⟩|⟨i,p,e,hi,hjd,e2⟩
 .rw[e];simp(disch:=try exact QQ)only[Wz,gQ,dw (show(-1:Int)<0 by decide),g3];rw[e2]at hk;exact hk _ ((aY.trans hle2).set (b:=h.nx+1) XV _)
 .rw[e];obtain⟨b,o,hb,oQ,mO⟩:=Jn (hq.le (aY.trans hle2)) i hi;simp(disch:=try exact QQ)only[Wz,gQ,b_ (show(0:Int)<=(i:Int)by omega),g1,g3,oQ,mO,bA];rw[e2]at hk;exact hk _ ((aY.trans hle2).set (b:=h.nx+1) XV _)
theorem QA{Q:List R5}{i:Nat}{p p1:R5}(hi:Q[i]? = some p)(hid:p.id=p1.id):iY (Q.set i p1) p1=iY Q p1:=by
 rw[Bool.eq_iff_iff,oF,oF];constructor
 .intro h o ho h1 h2;obtain⟨k,hk⟩:=List.getElem?_of_mem ho;have hki:i≠k:=by rintro rfl;rw[hi]at hk;cases hk;exact h1 hid
  exact h o (List.mem_of_getElem? (i:=k) (by rw[List.getElem?_set,if_neg hki];exact hk)) h1 h2
 .intro h o ho h1 h2;rcases mem_set ho with rfl|ho
  .exact absurd rfl h1
  .exact h o ho h1 h2
theorem T5{Q:List R5}{i:Nat}{p p1:R5}(hi:Q[i]? = some p)(hu:wA p1=wA p):(Q.set i p1).any wA=Q.any wA:=by
 rw[Bool.eq_iff_iff,List.any_eq_true,List.any_eq_true];have hil:=(List.getElem?_eq_some_iff.1 hi).1;constructor
 .rintro⟨o,ho,h⟩;rcases mem_set ho with rfl|ho
  .exact⟨p,List.mem_of_getElem? hi,by rw[<-hu];exact h⟩
  .exact⟨o,ho,h⟩
 .rintro⟨o,ho,h⟩;obtain⟨k,hk⟩:=List.getElem?_of_mem ho;by_cases hki:i=k
  .subst hki;rw[hi]at hk;cases hk;exact⟨p1,List.mem_of_getElem? (i:=i) (by rw[List.getElem?_set,if_pos rfl,if_pos hil]),by rw[hu];exact h⟩
  .exact⟨o,List.mem_of_getElem? (i:=k) (by rw[List.getElem?_set,if_neg hki];exact hk),h⟩
theorem aL{β:Type}{fl:β}(b o:Nat)(h:ah)(Y:XW β):aT fl (.pointer (some ⟨b,o,none⟩)) h Y=Y (.pointer (some ⟨b,o,none⟩)) h:=id rfl
set_option maxHeartbeats 2000000 in
theorem zp(t r:Int)(q:Value)(w id m:Int)(Q:List R5)(h:ah)(Y:KQ)(hq:Sl bA h q Q)(hlen:Q.length<=100000)(hlo:h.lo<=h.nx)(hw:0<=w/\w<=1000000)(nj:cL m=false->∀h',Le h h'->Y (.tuple ⟨[jd 0 0 (.slice none 0 0) 0,.bool false,X1 2]⟩) h')(gP:cL m=true->bU Q id=none->∀h',Le h h'->Y (.tuple ⟨[jd 0 0 (.slice none 0 0) 0,.bool false,X1 5]⟩) h')(hk2:cL m=true->∀p,bU Q id=some p->0<p.s->∀h',Le h h'->Y (.tuple ⟨[jd 0 0 (.slice none 0 0) 0,.bool false,X1 7]⟩) h')(Ob:cL m=true->∀i p,Q[i]? = some p->bU Q id=some p->¬0<p.s->∀q' h',QV h' q' (Q.set i (jg Q w p m).1)->Le h h'->Y (.tuple ⟨[jd t r q' (jg Q w p m).2.1,.bool (jg Q w p m).2.2,X1 0]⟩) h'):aj prog 398 [jd t r q w,X1 id,X1 m] h Y:=by
 obtain⟨qx,qc,rfl,_⟩:=(show Sl bA h q Q from hq)
 apply X2;rw[ZM];simp(disch:=try exact QQ)only[Wz,jd];obtain⟨hA,bH,aY,g1,g3,ia,ic⟩:=DK h (eV t r (.slice qx Q.length qc) w) (ni);rw[<-bH];clear bH;refine GR m ?_;cases ha:cL m with
 |false=>
  simp(disch:=try exact QQ)only[Wz,g3];exact nj ha _ (aY.set (b:=h.nx+1) XV _)
 |true=>
 simp(disch:=try exact QQ)only[Wz,GH,g1];refine BK t r _ w Q hA _ (hq.le aY) XV XV ?_;intro q2 h2 uS hle2;have vB:=hle2.nx;have vC:=hle2.lo;have g3:=(hle2.get _ XV).trans g3;obtain⟨qo,qp,rfl,_⟩:=(show Sl bA h2 q2 Q from uS.sl)
 simp(disch:=try exact QQ)only[Wz,jd];obtain⟨hB,ji,cC,g12,A1,A2⟩:=oR h2 (k_ t r (.slice qo Q.length qp) w);rw[<-ji];clear ji;have uw:=cC.nx;have ux:=cC.lo;have g3:=(cC.get _ XV).trans g3;have Iw:=uS.le cC;refine q7 t r _ w id Q hB _ Iw.sl XV XV ?_;intro h3 dn;have Jp:=dn.nx;have Jq:=dn.lo;have g3:=(dn.get _ XV).trans g3;have g12:=(dn.get _ XV).trans g12;have rR:=Iw.le dn;have m_:Le h h3:=((aY.trans hle2).trans cC).trans dn;rcases kM Q id with⟨e,e2⟩|⟨i,p,e,hi,hjd,e2⟩
 .rw[e];simp(disch:=try exact QQ)only[Wz,gQ,dw (show(-1:Int)<0 by decide),g3];exact gP ha e2 _ (m_.set (b:=h.nx+1) XV _)
 rw[e];obtain⟨b,o,hb,oQ,mO⟩:=Jn rR.sl i hi;simp(disch:=try exact QQ)only[Wz,gQ,b_ (show(0:Int)<=(i:Int)by omega),GG,g12,oQ,mO];refine uv p ?_;by_cases hs:0<p.s
 .simp(disch:=try exact QQ)only[Wz,bq hs,g3];exact hk2 ha p e2 hs _ (m_.set (b:=h.nx+1) XV _)
 rcases rR with⟨rfl,_⟩|⟨bo,e1,k1,k2,k3,k4⟩
 .simp at hi
 cases e1;have hil:i<Q.length:=(List.getElem?_eq_some_iff.1 hi).1;obtain⟨wt,G2⟩:∃wt,jC p.m m=wt:=⟨_,rfl⟩
 have hfl:=bg (enc:=bA) cq Q;have r2:(Q.flatMap bA)[i*5+2]? = some (X1 p.m):=gZ (j:=2) cq hi X0;have Ar:=gK (p':=⟨p.id,p.x,p.m,wt,p.s⟩) (ws:=[X1 wt]) (j:=3) cq hi (by show 3+1<=5;omega) rfl;obtain⟨p1,Wr⟩:∃p1:R5,p1=⟨p.id,p.x,p.m,wt,p.s⟩:=⟨_,rfl⟩
 rw[<-Wr]at Ar;have hp2:(Q.set i p1)[i]? = some p1:=by rw[List.getElem?_set,if_pos rfl,if_pos hil]
 have aek:((Q.set i p1).flatMap bA).length=Q.length*5:=by rw[bg cq,List.length_set]
 have s2:((Q.set i p1).flatMap bA)[i*5+2]? = some (X1 p.m):=by rw[gZ (j:=2) cq hp2 X0,Wr];rfl
 have s3:((Q.set i p1).flatMap bA)[i*5+3]? = some (X1 wt):=by rw[gZ (j:=3) cq hp2 X0,Wr];rfl
 have Qx:bo≠h2.nx:=by rintro rfl;rw[g12]at k4;exact br k4
 have Da:bo≠h.nx+1:=by rintro rfl;rw[g3]at k4;exact br k4
 simp(disch:=try exact QQ)only[Wz,a_ hs,GF,g12,aX,aL,k4,r2];refine Wn _ _ ?_;rw[G2];simp(disch:=try exact QQ)only[Wz,aL,k4,Ar,s2,s3];obtain⟨hC,eC⟩:∃hC:ah,hC=⟨h3.nx,h3.bl.bx bo (ai ((Q.set i p1).flatMap bA) 57 true),h3.lo⟩:=⟨_,rfl⟩
 have T4:Le h hC:=by subst eC;exact m_.set (b:=bo) XV _
 have nC:hC.nx=h3.nx:=by rw[eC]
 have lC:hC.lo=h3.lo:=by rw[eC]
 have gC:hC.bl.get bo=some (ai ((Q.set i p1).flatMap bA) 57 true):=by subst eC;exact T.an _ _ _
 have g3C:hC.bl.get (h.nx+1)=some ni:=by subst eC;exact(T.au _ _ Da).trans g3
 have aaj:hC.bl.get h2.nx=some (k_ t r (X9 bo Q.length aS) w):=by subst eC;exact(T.au _ _ Qx).trans g12
 rw[<-eC];have hoC:w5 hA hC (X9 bo Q.length aS) (Q.set i p1):=.inr ⟨bo,by rw[List.length_set],k1,XV,XV,gC⟩;have Jt:p.id=p1.id:=by rw[Wr]
 have eup:wA p1=wA p:=by rw[Wr];rfl
 have aiL:=QA hi Jt;have aiM:=T5 hi eup
 have ael:∀(g:Bool)(hD:ah),hD.bl.get bo=some (ai ((Q.set i p1).flatMap bA) 57 true)->hD.bl.get (h.nx+1)=some ni->hD.bl.get h2.nx=some (k_ t r (X9 bo Q.length aS) w)->Le h hD->hC.nx<=hD.nx->
   jg Q w p m=(⟨p.id,p.x,wt,wt,p.s⟩,w,true)->
   dz (λSL=>zh (.pointer (some ⟨bo,i*5,none⟩)) SL (.bool true) hD) λl76 h_14=>
    Aq False (h_14.bl.get h2.nx) 0 4 λl=>DJ False (h_14.bl.get (h.nx+1)) 4 (h.nx+1) 0 l h_14 λh_15=>Aq False (h_15.bl.get (h.nx+1)) 0 4 λl=>Y (.tuple ⟨[.agg ⟨l⟩,.bool true,X1 0]⟩) h_15:=by
  intro g hD d1 d2 d3 hl hn he;have ll:=hl.lo;have vE:=gK (p':=⟨p.id,p.x,wt,wt,p.s⟩) (ws:=[X1 wt]) (j:=2) cq hp2 (by show 2+1<=5;omega) (by rw[Wr];rfl);rw[List.set_set]at vE;refine⟨λl h'=>HQ ⟨hD.nx,hD.bl.bx bo (ai ((Q.set i ⟨p.id,p.x,wt,wt,p.s⟩).flatMap bA) 57 true),hD.lo⟩ h',?_,?_⟩
  .simp(disch:=try exact QQ)only[Wz,zh,aL,d1,s3,vE];rfl
  .intro l h' Kq;cases(show _=h' from Kq);simp(disch:=try exact QQ)only[Wz,d3,d2];have key:=Ob ha i p hi e2 hs;rw[he]at key;exact key _ _ (QV.blk (by show bo<hD.nx;omega) ((T.au _ _ (λe=>Da e.symm)).trans (T.an _ _ _)) (by simp)) ((hl.set (b:=bo) XV _).set (b:=h.nx+1) XV _)
 have aem:∀(hD:ah),hD.bl.get bo=some (ai ((Q.set i p1).flatMap bA) 57 true)->hD.bl.get (h.nx+1)=some ni->hD.bl.get h2.nx=some (k_ t r (X9 bo Q.length aS) w)->Le h hD->hC.nx<=hD.nx->
   jg Q w p m=(⟨p.id,p.x,p.m,wt,w+1⟩,w+1,false)->
   dz (λSL=>zi h2.nx (.pointer (some ⟨bo,i*5,none⟩)) SL (.bool false) hD) λl76 h_14=>
    Aq False (h_14.bl.get h2.nx) 0 4 λl=>DJ False (h_14.bl.get (h.nx+1)) 4 (h.nx+1) 0 l h_14 λh_15=>Aq False (h_15.bl.get (h.nx+1)) 0 4 λl=>Y (.tuple ⟨[.agg ⟨l⟩,.bool false,X1 0]⟩) h_15:=by
  intro hD d1 d2 d3 hl hn he;have ll:=hl.lo;have vE:=gK (p':=⟨p.id,p.x,p.m,wt,w+1⟩) (ws:=[X1 (w+1)]) (j:=4) cq hp2 (by show 4+1<=5;omega) (by rw[Wr];rfl);rw[List.set_set]at vE;refine⟨λl h'=>HQ ⟨hD.nx,(hD.bl.bx h2.nx (k_ t r (X9 bo Q.length aS) (w+1))).bx bo (ai ((Q.set i ⟨p.id,p.x,p.m,wt,w+1⟩).flatMap bA) 57 true),hD.lo⟩ h',?_,?_⟩
  .simp(disch:=try exact QQ)only[Wz,zi,aL,d1,d3,vE];rfl
  .intro l h' Kq;cases(show _=h' from Kq);simp(disch:=try exact QQ)only[Wz,d3,d2];have key:=Ob ha i p hi e2 hs;rw[he]at key;exact key _ _ (QV.blk (by show bo<hD.nx;omega) ((T.au _ _ (λe=>Da e.symm)).trans (T.an _ _ _)) (by simp)) (((hl.set (b:=h2.nx) XV _).set (b:=bo) XV _).set (b:=h.nx+1) XV _)
 by_cases hq1:wt=p.m
 .simp(disch:=try exact QQ)only[Wz,bq hq1];exact ael true hC gC g3C aaj T4 (Nat.le_refl _) (by unfold jg;rw[G2,if_pos (by simp[hq1])])
 ·have fa:(((Q.set i p1).flatMap bA).drop (i*5)).take 5=bA p1:=by
   have:=uc (enc:=bA) cq (Q.set i p1) i (by simpa using hil);rw[this,(List.getElem?_eq_some_iff.1 hp2).2]
  simp(disch:=try exact QQ)only[Wz,a_ hq1,g12,aaj,gC,fa];refine C8 t r _ w p1 (Q.set i p1) hC _ hoC.sl (by simp;omega) XV ?_;intro h5 lF;have n5:=lF.nx;have l5:=lF.lo;have d1:=(lF.get bo XV).trans gC;have d2:=(lF.get (h.nx+1) XV).trans g3C;have d3:=(lF.get h2.nx XV).trans aaj;have hl5:=T4.trans lF;rw[aiL];have aen:iY Q p1=iY Q ⟨p.id,p.x,p.m,jC p.m m,p.s⟩:=by rw[Wr,G2]
  cases hft:iY Q p1 with
  |false=>
   simp(disch:=try exact QQ)only[Wz];refine aem h5 d1 d2 d3 hl5 n5 ?_;unfold jg;rw[G2,if_neg];rw[<-G2,<-aen,hft,G2];simp[hq1]
  |true=>
   simp(disch:=try exact QQ)only[Wz,d3];refine nh (Q.set i p1) wA h5 _ _ _ (hoC.sl.le lF) (by simp;omega) ?_ ?_
   .intro o ho h6 κ6 hl6 hk6;simp(disch:=try exact QQ)only[Wz,List.nil_append,List.append_nil];exact pK o (hk6 h6 (Le.refl _))
   .intro h6 G1;have n6:=G1.nx;have l6:=G1.lo;have d1:=(G1.get bo XV).trans d1;have d2:=(G1.get (h.nx+1) XV).trans d2;have d3:=(G1.get h2.nx XV).trans d3;have hl6:=hl5.trans G1;rw[aiM];cases han:Q.any wA with
    |true=>
     simp(disch:=try exact QQ)only[Wz];refine aem h6 d1 d2 d3 hl6 XV ?_;unfold jg;rw[G2,if_neg];rw[han];simp[hq1]
    |false=>
     simp(disch:=try exact QQ)only[Wz];refine ael true h6 d1 d2 d3 hl6 XV ?_;unfold jg;rw[G2,if_pos];rw[<-G2,<-aen,hft,han];simp
end Go.Proofs

namespace Go.Vai
section
variable {α:Type}{s:Nat}{enc:α->List Value}
set_option maxRecDepth 20000 in
theorem Ju{a h:ah}{e:TypeId}{z:List Value}{v x:Value}{L M:List α}(he:∀a:α,(enc a).length=s)(hone:∀a:α,(enc a).all eO=true)(hs0:0<s)(hs1:s<=100)(ho:eG enc a e h v L)(hx:Sl enc h x M)(hle:Le a h)(hb:L.length+M.length<=1000000)(hal:h.lo<=h.nx)(Y:KQ)(hk:∀v' h',eG enc a e h' v' (L++M)->Le a h'->h'.nx<=h.nx+1->h.nx<=h'.nx->h'.lo=h.lo->(∀b,b<h.nx->h.bl.get b≠some (ai (L.flatMap enc) e true)->h'.bl.get b=h.bl.get b)->(∀b,b<h.nx->(∀n cap,v≠X9 b n cap)->h'.bl.get b=h.bl.get b)->(v'=v\/∃b n cap,h.nx<=b/\v'=X9 b n cap)->Y v' h'):bt False And e s z false v x h Y:=by
 by_cases hM:M=[]
 .subst hM;rw[append_nil hx (by rcases ho with⟨rfl,rfl|⟨b,o,rfl⟩⟩|⟨b,rfl,_⟩<;>exact⟨_,_,_,rfl⟩)];exact hk v h (by simpa using ho) hle (Nat.le_succ _) (Nat.le_refl _) rfl (λ_ _ _=>rfl) (λ_ _ _=>rfl) (.inl rfl)
 .obtain⟨m,hm⟩:∃m,M.length=m+1:=⟨M.length-1,by have:=List.length_pos_iff.2 hM;omega⟩
  have hfl:=bg (enc:=enc) he;have fh:=hx.first (β:=Prop) (fl:=False) he;obtain⟨y,cap,rfl,h2⟩:=hx;have hml:∀K:List α,K.length<=1000000->(K.flatMap enc).length<=1000000000000:=λK hK=>by
   rw[hfl];have:=Nat.mul_le_mul hK hs1;omega
  have fresh:∀(hh:ah)(ws:List Value),ws=(L++M).flatMap enc->Le a hh->hh.nx=h.nx->hh.lo=h.lo->(∀b,b<h.nx->h.bl.get b≠some (ai (L.flatMap enc) e true)->hh.bl.get b=h.bl.get b)->(∀b,b<h.nx->(∀n cap,v≠X9 b n cap)->hh.bl.get b=h.bl.get b)->cG False ws e true hh λb h'=>Y (X9 b (L.length+M.length) aS) h':=by
   intro hh ws hw O7 hnx hlo hgt aiN;subst hw;unfold cG;rw[iS _ _ _ _ (hml _ (by simp;omega)),dJ];refine hk _ _ (.inr ⟨hh.nx,by simp,O7.nx,Nat.lt_succ_self _,by show hh.lo<=_;omega,T.an _ _ _⟩) (O7.new _) (by show hh.nx+1<=_;omega) (by show h.nx<=hh.nx+1;omega) hlo (λb hb hn=>(T.au _ _ XV).trans (hgt b hb hn)) (λb hb hn=>(T.au _ _ XV).trans (aiN b hb hn)) (.inr ⟨hh.nx,_,_,XV,rfl⟩)
  rcases ho with⟨rfl,hv⟩|⟨b,rfl,h3,h4,h5,h6⟩
  .have hF:=fresh h (M.flatMap enc) (by simp) hle rfl rfl (λ_ _ _=>rfl) (λ_ _ _=>rfl);simp only[List.length_nil,Nat.zero_add]at hF;rcases hv with rfl|⟨b,o,rfl⟩
   .unfold bt jf;simp only;rw[fh];simp only[hm,bR];rw[show Nat.ble (Nat.add 0 (m+1)) 1000000000=true from Nat.ble_eq_true_of_le (by show 0+(m+1)<=_;omega)];rw[hm]at hF;have e1:Nat.add 0 (m+1)=m+1:=by show 0+(m+1)=_;omega
    rw[e1];exact hF
   .unfold bt jf;simp only;rw[fh];simp only[hm,bR];have e1:Nat.add 0 (m+1)=m+1:=by show 0+(m+1)=_;omega
    rw[e1,show Nat.ble (m+1) 1000000000=true from Nat.ble_eq_true_of_le XV];rw[hm]at hF
    show fo False h s 0 _ _
    rw[jy _ _ _ _ _ (by simp)];exact hF
  .unfold bt jf;simp only;rw[fh];simp only[hm,bR];have e1:Nat.add L.length (m+1)=L.length+(m+1):=rfl;rw[e1,show Nat.ble (L.length+(m+1)) 1000000000=true from Nat.ble_eq_true_of_le XV];have e2:Nat.beq aS fT=false:=by decide
   have e3:Nat.beq aS aS=true:=Nat.beq_refl _;simp only[e2,e3,h6];have e4:Nat.ble (Nat.add 0 (Nat.mul (L.length+(m+1)) s)) (L.flatMap enc).length=false:=by
    rw[hfl];cases Iu:Nat.ble (Nat.add 0 (Nat.mul (L.length+(m+1)) s)) (L.length*s)with
    |false=>rfl
    |true=>
     have h7:0+(L.length+(m+1))*s<=L.length*s:=Nat.le_of_ble_eq_true Iu;rw[Nat.add_mul,Nat.succ_mul]at h7;omega
   have e5:(M.flatMap enc).all eO=true:=by
    rw[List.all_flatMap];simp only[List.all_eq_true];intro x _;exact List.all_eq_true.1 (hone x)
   simp only[ai,Nat.beq_refl,e4,e5,Bool.and_self];have hh:Has (h.bl.get b) 0 (L.flatMap enc):=by rw[h6];exact Has.all
   rw[jX hh s L.length _ _ _ (hfl L).symm,bI _ _ _ _ h5];have hF:=fresh ⟨h.nx,h.bl.bx b (.dead (L.flatMap enc).length e),h.lo⟩ (L.flatMap enc++M.flatMap enc) (by simp) (hle.set h3 _) rfl rfl (λb' _ hn=>T.au _ _ (λe=>hn (by rw[<-e];exact h6))) (λb' _ hn=>T.au _ _ (by rintro rfl;exact hn _ _ rfl));rw[hm]at hF;exact hF
end
theorem nq{v v':Value}{vs vs':List Value}{e e':TypeId}{p p':Bool}(h:(some (ai (v::vs) e p):Option bT)=some (ai (v'::vs') e' p')):v=v':=by
 have h1:=congrArg (λob=>qn (none:Option Value) ob 0 some) h;simp only[rV]at h1;exact Option.some.inj h1
end Go.Vai
namespace Go.Proofs
open Go.Vai Go.Clashes
open Tryz (prog)
def T6(b:Nat):Value:=.iface 306 (X3 b)
theorem QB(b : Nat)(h : ah)(Y : Value → ah → Prop):gG prog "Len" (T6 b) [] h Y = (af False 0 (.pointer (some ⟨b, 0, none⟩)) h fun a h => ax False a h fun v h => aj prog 175 [v] h Y) := by kernel_rfl
theorem Db(b : Nat)(i j : Value)(h : ah)(Y : Value → ah → Prop):gG prog "Less" (T6 b) [i, j] h Y = (af False 0 (.pointer (some ⟨b, 0, none⟩)) h fun a h => ax False a h fun v h => aj prog 465 [v, i, j] h Y) := by kernel_rfl
theorem Dc(b : Nat)(i j : Value)(h : ah)(Y : Value → ah → Prop):gG prog "Swap" (T6 b) [i, j] h Y = (af False 0 (.pointer (some ⟨b, 0, none⟩)) h fun a h => ax False a h fun v h => aj prog 467 [v, i, j] h Y) := by kernel_rfl
theorem T7(b : Nat)(x : Value)(h : ah)(Y : Value → ah → Prop):gG prog "Push" (T6 b) [x] h Y = aj prog 469 [.pointer (some ⟨b, 0, none⟩), x] h Y := by kernel_rfl
theorem aak(b : Nat)(h : ah)(Y : Value → ah → Prop):gG prog "Pop" (T6 b) [] h Y = aj prog 468 [.pointer (some ⟨b, 0, none⟩)] h Y := by kernel_rfl
def qa(h:ah)(v:Value)(F:List Int):Prop:=(F=[]/\v=.slice none 0 0)\/∃b G,v=X9 b F.length aS/\b<h.nx/\h.lo<=b/\h.bl.get b=some (ai ((F++G).flatMap aU) 3 true)/\0<(F++G).length
structure gL(h:ah)(bp:Nat)(F:List Int)(ls:Value):Prop where
 lt:bp<h.nx
 lo:h.lo<=bp
 cell:∃fs,h.bl.get bp=some (ai [fs,ls] 286 false)/\qa h fs F
def FB(h:ah)(bp c:Nat):Prop:=∃n cap ls,h.bl.get bp=some (ai [X9 c n cap,ls] 286 false)
theorem FB.congr{h h':ah}{bp c:Nat}(e:h'.bl.get bp=h.bl.get bp):FB h' bp c<->FB h bp c:=by unfold FB;rw[e]
structure zq(bp:Nat)(h h':ah):Prop where
 nx:h.nx<=h'.nx
 lo:h'.lo=h.lo
 get:∀c,c<h.nx->c≠bp->(∀vs,h.bl.get c≠some (ai vs 3 true))->h'.bl.get c=h.bl.get c
 g2:bp<h.nx->∀c,c<h.nx->c≠bp->¬FB h bp c->h'.bl.get c=h.bl.get c
 mv:bp<h.nx->∀c,c<h.nx->FB h' bp c->FB h bp c
theorem zq.refl(bp:Nat)(h:ah):zq bp h h:=⟨Nat.le_refl _,rfl,λ_ _ _ _=>rfl,λ_ _ _ _ _=>rfl,λ_ _ _ x=>x⟩
theorem zq.trans{bp:Nat}{h h' h'':ah}(a:zq bp h h')(b:zq bp h' h''):zq bp h h'':=
 ⟨Nat.le_trans a.nx b.nx,b.lo.trans a.lo,λc hc hn hi=>(b.get c (Nat.lt_of_lt_of_le hc a.nx) hn (λvs=>by rw[a.get c hc hn hi];exact hi vs)).trans (a.get c hc hn hi),
  λhb c hc hn hi=>(b.g2 (Nat.lt_of_lt_of_le hb a.nx) c (Nat.lt_of_lt_of_le hc a.nx) hn λx=>hi (a.mv hb c hc x)).trans (a.g2 hb c hc hn hi),
  λhb c hc x=>a.mv hb c hc (b.mv (Nat.lt_of_lt_of_le hb a.nx) c (Nat.lt_of_lt_of_le hc a.nx) x)⟩
theorem zq.swap{bp:Nat}{h h':ah}{fs ls:Value}(hg:h.bl.get bp=some (ai [fs,ls] 286 false))(q1:h'.nx=h.nx)(q2:h'.lo=h.lo)(q4:∀c,(∀vs,h.bl.get c≠some (ai vs 3 true))->h'.bl.get c=h.bl.get c)(q5:∀c,(∀n cap,fs≠X9 c n cap)->h'.bl.get c=h.bl.get c):zq bp h h':=
 ⟨XV,q2,λc _ _ hi=>q4 c hi,λ_ c _ _ hn=>q5 c λn cap e=>hn ⟨n,cap,ls,e▸hg⟩,λ_ c _ x=>(FB.congr (q4 bp λvs=>by rw[hg];exact br)).1 x⟩
theorem q9(F:List Int)(h:ah)(v:Value)(Y:KQ)(hp:qa h v F)(hk:Y (X1 (F.length:Int)) h):aj prog 175 [v] h Y:=by
 apply X2;rw[YD];rcases hp with⟨rfl,rfl⟩|⟨b,G,rfl,_⟩
 .simp(disch:=try exact QQ)only[Wz];exact hk
 .simp(disch:=try exact QQ)only[Wz];exact hk
theorem q_{F G:List Int}{i:Nat}{x:Int}(hx:F[i]? = some x):((F++G).flatMap aU)[i]? = some (X1 x):=by
 have h1:(F++G)[i]? = some x:=by rw[List.getElem?_append_left (List.getElem?_eq_some_iff.1 hx).1];exact hx
 have:=gZ (j:=0) aZ h1 X0;simpa[aU]using this
theorem zu{F G:List Int}{i:Nat}{y:Int}(hi:i<F.length):over ((F++G).flatMap aU) i [X1 y]=((F.set i y)++G).flatMap aU:=by
 have h1:(F++G)[i]? = some F[i]:=by rw[List.getElem?_append_left hi];exact List.getElem?_eq_getElem hi
 have:=gK (p':=y) (ws:=[X1 y]) (j:=0) aZ h1 (by show 0+1<=1;omega) rfl;rw[Nat.mul_one,Nat.add_zero]at this;rw[this,List.set_append,if_pos hi]
theorem vF(F:List Int)(i j:Nat)(h:ah)(v:Value)(Y:KQ)(hp:qa h v F)(hi:i<F.length)(hj:j<F.length)(hk:Y (.bool (decide (F[i]<F[j]))) h):aj prog 465 [v,X1 (i:Int),X1 (j:Int)] h Y:=by
 apply X2;rw[Z9];rcases hp with⟨rfl,rfl⟩|⟨b,G,rfl,h1,h2,h3,h4⟩
 .simp at hi
 .have r1:=q_ (G:=G) (List.getElem?_eq_getElem hi);have r2:=q_ (G:=G) (List.getElem?_eq_getElem hj);simp(disch:=try exact QQ)only[Wz,aX,h3,r1,r2,Nat.mul_one];exact hk
def oH(F:List Int)(i j:Nat):List Int:=match F[i]?,F[j]? with|some x,some y=>(F.set i y).set j x|_,_=>F
theorem uz{F:List Int}{i j:Nat}(hi:i<F.length)(hj:j<F.length):oH F i j=(F.set i F[j]).set j F[i]:=by
 simp only[oH,List.getElem?_eq_getElem hi,List.getElem?_eq_getElem hj]
theorem vG(F:List Int)(i j:Nat):(oH F i j).length=F.length:=by
 unfold oH;split<;>simp
theorem vH(F:List Int)(i j:Nat)(h:ah)(v:Value)(Y:KQ)(hp:qa h v F)(hi:i<F.length)(hj:j<F.length)(hk:∀h',h'.nx=h.nx->h'.lo=h.lo->qa h' v (oH F i j)->(∀c,(∀vs,h.bl.get c≠some (ai vs 3 true))->h'.bl.get c=h.bl.get c)->(∀c,(∀n cap,v≠X9 c n cap)->h'.bl.get c=h.bl.get c)->Y (.tuple ⟨[]⟩) h'):aj prog 467 [v,X1 (i:Int),X1 (j:Int)] h Y:=by
 apply X2;rw[Z_];rcases hp with⟨rfl,rfl⟩|⟨b,G,rfl,h1,h2,h3,h4⟩
 .simp at hi
 .have r1:=q_ (G:=G) (List.getElem?_eq_getElem hi);have r2:=q_ (G:=G) (List.getElem?_eq_getElem hj);have hl:=bg (enc:=aU) aZ (F++G);have AT:=bg (enc:=aU) aZ ((F.set i F[j])++G);have ov1:=zu (G:=G) (y:=F[j]) hi;have ov2:=zu (G:=G) (F:=F.set i F[j]) (y:=F[i]) (i:=j) (by simpa using hj);have hlen:(F++G).length=F.length+G.length:=List.length_append;have alK:((F.set i F[j])++G).length=F.length+G.length:=by simp
  simp(disch:=try exact QQ)only[Wz,aX,h3,r1,r2,Nat.mul_one,ov1,ov2];refine hk _ rfl rfl (.inr ⟨b,G,by rw[vG],h1,h2,?_,?_⟩) ?_ λc hc=>T.au _ _ (by rintro rfl;exact hc _ _ rfl)
  .rw[uz hi hj];exact T.an _ _ _
  .rw[List.length_append,vG];simpa using h4
  .intro c hc;refine T.au _ _ ?_;rintro rfl;exact hc _ h3
theorem tA{F:List Int}{i j:Nat}(hi:i<F.length)(hj:j<F.length):(oH F i j).Perm F:=by
 rw[uz hi hj];exact List.set_set_perm hi hj
theorem gD{F:List Int}{i:Nat}(h:i<F.length):F.getD i 0=F[i]:=by
 rw[List.getD_eq_getElem?_getD,List.getElem?_eq_getElem h];rfl
theorem uA{F:List Int}{i j:Nat}(hi:i<F.length)(hj:j<F.length)(k:Nat):(oH F i j).getD k 0=if k=j then F.getD i 0 else if k=i then F.getD j 0 else F.getD k 0:=by
 rw[uz hi hj,gD hi,gD hj];simp only[List.getD_eq_getElem?_getD,List.getElem?_set,List.length_set];by_cases h1:j=k
 .subst h1;rw[if_pos rfl,if_pos hj,if_pos rfl];rfl
 .have h1':¬k=j:=λe=>h1 e.symm;rw[if_neg h1,if_neg h1'];by_cases h2:i=k
  .subst h2;rw[if_pos rfl,if_pos hi,if_pos rfl];rfl
  .have SN:¬k=i:=λe=>h2 e.symm;rw[if_neg h2,if_neg SN]
def HN(F:List Int)(n:Nat):Prop:=∀i,0<i->i<n->F.getD ((i-1) / 2) 0<=F.getD i 0
abbrev HP(F:List Int):Prop:=HN F F.length
structure zw(F:List Int)(j:Nat):Prop where
 a:∀i,0<i->i<F.length->i≠j->F.getD ((i-1) / 2) 0<=F.getD i 0
 b:0<j->∀i,0<i->i<F.length->(i-1) / 2=j->F.getD ((j-1) / 2) 0<=F.getD i 0
structure w8(F:List Int)(i n:Nat):Prop where
 a:∀k,0<k->k<n->(k-1) / 2≠i->F.getD ((k-1) / 2) 0<=F.getD k 0
 b:0<i->∀k,0<k->k<n->(k-1) / 2=i->F.getD ((i-1) / 2) 0<=F.getD k 0
theorem zw.step{F:List Int}{j:Nat}(u:zw F j)(h0:0<j)(hj:j<F.length)(hlt:F.getD j 0<F.getD ((j-1) / 2) 0):zw (oH F ((j-1) / 2) j) ((j-1) / 2):=by
 have hp:(j-1) / 2<F.length:=by omega
 have G:=uA (F:=F) hp hj;have L:=vG F ((j-1) / 2) j;refine⟨λi h1 h2 h3=>?_,λhp0 i h1 h2 h3=>?_⟩
 .rw[L]at h2;rw[G,G];by_cases e1:i=j
  .subst e1;rw[if_neg XV,if_pos rfl,if_pos rfl];omega
  .rw[if_neg e1,if_neg h3];have A:=u.a i h1 h2 e1;by_cases e2:(i-1) / 2=j
   .rw[if_pos e2];exact u.b h0 i h1 h2 e2
   .rw[if_neg e2];by_cases e3:(i-1) / 2=(j-1) / 2
    .rw[if_pos e3];rw[e3]at A;omega
    .rw[if_neg e3];exact A
 .rw[L]at h2;rw[G,G,if_neg XV,if_neg XV];have A:=u.a ((j-1) / 2) hp0 hp XV;by_cases e1:i=j
  .rw[if_pos e1];exact A
  .rw[if_neg e1,if_neg XV];have B:=u.a i h1 h2 e1;rw[h3]at B;omega
theorem zw.MY{F:List Int}(u:zw F 0):HP F:=λi h1 h2=>u.a i h1 h2 XV
theorem zw.aal{F:List Int}{j:Nat}(u:zw F j)(hge:F.getD ((j-1) / 2) 0<=F.getD j 0):HP F:=λi h1 h2=>by
 by_cases e:i=j
 .subst e;exact hge
 .exact u.a i h1 h2 e
theorem HP.push{F:List Int}(u:HP F)(x:Int):zw (F++[x]) F.length:=by
 have G:∀k,k<F.length->(F++[x]).getD k 0=F.getD k 0:=λk hk=>by
  rw[List.getD_eq_getElem?_getD,List.getElem?_append_left hk,List.getD_eq_getElem?_getD]
 refine⟨λi h1 h2 h3=>?_,λ_ i h1 h2 h3=>?_⟩
 .rw[List.length_append,List.length_singleton]at h2;rw[G _ XV,G _ XV];exact u i h1 XV
 .rw[List.length_append,List.length_singleton]at h2;omega
theorem w8.step{F:List Int}{i n c:Nat}(d:w8 F i n)(hn:n<=F.length)(hc:c<n)(hi:(c-1) / 2=i)(hc0:0<c)(hlt:F.getD c 0<F.getD i 0)(hmin:∀k,0<k->k<n->(k-1) / 2=i->F.getD c 0<=F.getD k 0):w8 (oH F i c) c n:=by
 have G:=uA (F:=F) (i:=i) (j:=c) XV XV;refine⟨λk h1 h2 h3=>?_,λ_ k h1 h2 h3=>?_⟩
 .rw[G,G];by_cases e1:(k-1) / 2=i
  .rw[if_neg h3,if_pos e1];by_cases e2:k=c
   .rw[if_pos e2];omega
   .rw[if_neg e2,if_neg XV];exact hmin k h1 h2 e1
  .rw[if_neg h3,if_neg e1];have A:=d.a k h1 h2 e1;by_cases e2:k=c
   .subst e2;omega
   .rw[if_neg e2];by_cases e3:k=i
    .subst e3;rw[if_pos rfl];exact d.b h1 c hc0 hc hi
    .rw[if_neg e3];exact A
 .rw[G,G,hi,if_neg XV,if_pos rfl,if_neg XV,if_neg XV];have A:=d.a k h1 h2 XV;rw[h3]at A;exact A
theorem w8.MY{F:List Int}{i n:Nat}(d:w8 F i n)(h:n<=2*i+1):HN F n:=λk h1 h2=>d.a k h1 h2 XV
theorem w8.aal{F:List Int}{i n c:Nat}(d:w8 F i n)(hge:F.getD i 0<=F.getD c 0)(hmin:∀k,0<k->k<n->(k-1) / 2=i->F.getD c 0<=F.getD k 0):HN F n:=λk h1 h2=>by
 by_cases e:(k-1) / 2=i
 .have:=hmin k h1 h2 e;rw[e];omega
 .exact d.a k h1 h2 e
theorem HP.pop{F:List Int}(u:HP F)(h0:0<F.length):w8 (oH F 0 (F.length-1)) 0 (F.length-1):=by
 have G:=uA (F:=F) (i:=0) (j:=F.length-1) h0 XV;refine⟨λk h1 h2 h3=>?_,λh=>by omega⟩;rw[G,G,if_neg XV,if_neg h3,if_neg XV,if_neg XV];exact u k h1 XV
theorem HP.least{F:List Int}(u:HP F):∀n k,k<n->k<F.length->F.getD 0 0<=F.getD k 0:=by
 intro n
 induction n with
 |zero=>intro k h;omega
 |succ n ih=>
  intro k h1 h2;by_cases e:k=0
  .subst e;exact Int.le_refl _
  .have:=ih ((k-1) / 2) XV XV;have:=u k XV h2;omega
theorem HN.take{F:List Int}{n:Nat}(u:HN F n)(hn:n<=F.length):HP (F.take n):=by
 have G:∀k,k<n->(F.take n).getD k 0=F.getD k 0:=λk hk=>by
  rw[List.getD_eq_getElem?_getD,List.getElem?_take,if_pos hk,List.getD_eq_getElem?_getD]
 intro i h1 h2;rw[List.length_take]at h2;rw[G _ XV,G _ XV];exact u i h1 XV
theorem gL.same{h h':ah}{bp:Nat}{F F':List Int}{ls fs:Value}(f:gL h bp F ls)(hn:h'.nx=h.nx)(hl:h'.lo=h.lo)(hg:h.bl.get bp=some (ai [fs,ls] 286 false))(hp:qa h' fs F')(hfr:∀c,(∀vs,h.bl.get c≠some (ai vs 3 true))->h'.bl.get c=h.bl.get c):gL h' bp F' ls:=
 ⟨by rw[hn];exact f.lt,by rw[hl];exact f.lo,fs,by rw[hfr bp (λvs=>by rw[hg];exact br)];exact hg,hp⟩
theorem G3(j:Nat):Int.tdiv ((j:Int)-1) 2=(((j-1) / 2:Nat):Int):=by
 cases j with
 |zero=>rfl
 |succ j=>rw[Int.tdiv_eq_ediv_of_nonneg XV];omega
theorem aiQ(bp:Nat)(F:List Int)(ls:Value)(j:Nat)(h:ah)(Y:KQ)(f:gL h bp F ls)(hj:j<F.length)(hlen:F.length<=100000)(hk:∀h' F',gL h' bp F' ls->F'.Perm F->(zw F j->HP F')->zq bp h h'->Y (.tuple ⟨[]⟩) h'):aj prog 289 [T6 bp,X1 (j:Int)] h Y:=by
 apply X2;rw[Ql];refine⟨λn l h1=>∃(k:Nat)(F1:List Int),aa l 19=X1 (k:Int)/\n=k/\k<F.length/\F1.Perm F/\(zw F j->zw F1 k)/\gL h1 bp F1 ls/\zq bp h h1,⟨_,j,F,rfl,rfl,hj,List.Perm.refl _,id,f,zq.refl _ _⟩,?_⟩;rintro n l h1 ⟨k,F1,s1,rfl,gP,hp1,OA,f1,oT⟩;have tK:=hp1.length_eq;have e1:=G3 n;by_cases h0:n=0
 .subst h0;simp(disch:=try exact QQ)only[Wz,qY,s1,xu,e1];exact hk h1 F1 f1 hp1 (λu=>(OA u).MY) oT
 .obtain⟨fs,hg,hpt⟩:=f1.cell;simp(disch:=try exact QQ)only[Wz,qY,s1,xu,e1,KN,Db,hg];refine vF F1 n ((n-1) / 2) h1 _ _ hpt XV XV ?_;by_cases hls:F1[n]'XV<F1[(n-1) / 2]'XV
  .simp(disch:=try exact QQ)only[Wz,bq hls,Dc,hg];refine vH F1 ((n-1) / 2) n h1 _ _ hpt XV XV ?_;intro h2 q1 q2 q3 q4 q5;refine⟨_,?_,(n-1) / 2,oH F1 ((n-1) / 2) n,rfl,rfl,XV,(tA XV XV).trans hp1,λu=>(OA u).step XV XV (by rw[gD XV,gD XV];exact hls),f1.same q1 q2 hg q3 q4,oT.trans (.swap hg q1 q2 q4 q5)⟩;omega
  .simp(disch:=try exact QQ)only[Wz,a_ hls];exact hk h1 F1 f1 hp1 (λu=>(OA u).aal (by rw[gD XV,gD XV];omega)) oT
set_option maxHeartbeats 1000000 in
theorem aam(bp:Nat)(F:List Int)(ls:Value)(i0 n:Nat)(h:ah)(Y:KQ)(f:gL h bp F ls)(hn:n<=F.length)(hlen:F.length<=100000)(XJ:i0<=100000)(hk:∀r h' F',gL h' bp F' ls->F'.Perm F->(∀k,n<=k->F'[k]? = F[k]?)->(w8 F i0 n->HN F' n)->zq bp h h'->Y (.bool r) h'):aj prog 217 [T6 bp,X1 (i0:Int),X1 (n:Int)] h Y:=by
 apply X2;rw[Qi];refine⟨λl h'=>∃(k:Nat)(F':List Int),aa l 36=X1 (k:Int)/\gL h' bp F' ls/\F'.Perm F/\(∀k,n<=k->F'[k]? = F[k]?)/\(w8 F i0 n->HN F' n)/\zq bp h h',?_,?_⟩
 rotate_left
 .rintro l h' ⟨k,F',s1,q1,q2,q3,q4,q5⟩;simp(disch:=try exact QQ)only[Wz,s1];exact hk _ h' F' q1 q2 q3 q4 q5
 refine⟨λm l h1=>∃(i:Nat)(F1:List Int),aa l 36=X1 (i:Int)/\m=200002-i/\i<=200000/\(i<n\/i=i0)/\F1.Perm F/\(∀k,n<=k->F1[k]? = F[k]?)/\(w8 F i0 n->w8 F1 i n)/\gL h1 bp F1 ls/\zq bp h h1,⟨_,i0,F,rfl,rfl,XV,.inr rfl,List.Perm.refl _,λ_ _=>rfl,id,f,zq.refl _ _⟩,?_⟩;rintro m l h1 ⟨i,F1,s1,rfl,hi,hin,hp1,ht1,hd1,f1,oT⟩;have tK:=hp1.length_eq;obtain⟨fs,hg,hpt⟩:=f1.cell;by_cases hst:2*i+1<n
 case neg=>
  simp(disch:=try exact QQ)only[Wz,qX,s1,b_ (show(n:Int)<=2*(i:Int)+1 by omega)];exact⟨i,F1,rfl,f1,hp1,ht1,λd=>(hd1 d).MY XV,oT⟩
 have c1:(2*(i:Int)+1)=((2*i+1:Nat):Int):=by omega
 simp(disch:=try exact QQ)only[Wz,qX,s1,c1,dw (show((2*i+1:Nat):Int)<(n:Int)by omega),b_ (show(0:Int)<=((2*i+1:Nat):Int)by omega),yZ];refine⟨λfk h'=>∃j:Nat,aa fk 13=X1 (j:Int)/\i<j/\j<n/\(j-1) / 2=i/\(∀k,0<k->k<n->(k-1) / 2=i->F1.getD j 0<=F1.getD k 0)/\HQ h1 h',?_,?_⟩
 .have c2:((2*i+1:Nat):Int)+1=((2*i+2:Nat):Int):=by omega
  by_cases h2:2*i+2<n
  .simp(disch:=try exact QQ)only[Wz,qW,c2,dw (show((2*i+2:Nat):Int)<(n:Int)by omega),Db,hg];refine vF F1 (2*i+2) (2*i+1) h1 _ _ hpt XV XV ?_;by_cases hls:F1[2*i+2]'XV<F1[2*i+1]'XV
   ·simp(disch:=try exact QQ)only[Wz,bq hls];exact⟨2*i+2,rfl,XV,h2,XV,λk k0 k1 k2=>by
     have ek:k=2*i+1\/k=2*i+2:=by omega
     rcases ek with rfl|rfl
     .rw[gD XV,gD XV];omega
     .exact Int.le_refl _,rfl⟩
   ·simp(disch:=try exact QQ)only[Wz,a_ hls];exact⟨2*i+1,rfl,XV,hst,XV,λk k0 k1 k2=>by
     have ek:k=2*i+1\/k=2*i+2:=by omega
     rcases ek with rfl|rfl
     .exact Int.le_refl _
     .rw[gD XV,gD XV];omega,rfl⟩
  ·simp(disch:=try exact QQ)only[Wz,qW,c2,b_ (show(n:Int)<=((2*i+2:Nat):Int)by omega)];exact⟨2*i+1,rfl,XV,hst,XV,λk k0 k1 k2=>by
    have ek:k=2*i+1:=by omega
    rw[ek];exact Int.le_refl _,rfl⟩
 .rintro fk h' ⟨j,s2,hij,hjn,hjp,hmin,hq⟩;cases(show h1=h' from hq);simp(disch:=try exact QQ)only[Wz,s1,s2,Db,hg];refine vF F1 j i h1 _ _ hpt XV XV ?_;by_cases hls:F1[j]'XV<F1[i]'XV
  .simp(disch:=try exact QQ)only[Wz,bq hls,Dc,hg,s1,s2];refine vH F1 i j h1 _ _ hpt XV XV ?_;intro h2 q1 q2 q3 q4 q5;refine⟨_,?_,j,oH F1 i j,rfl,rfl,XV,.inl hjn,(tA XV XV).trans hp1,?_,λd=>(hd1 d).step XV hjn hjp XV (by rw[gD XV,gD XV];exact hls) hmin,f1.same q1 q2 hg q3 q4,oT.trans (.swap hg q1 q2 q4 q5)⟩
   .omega
   .intro k gP;rw[<-ht1 k gP,uz XV XV,List.getElem?_set,if_neg XV,List.getElem?_set,if_neg XV]
  .simp(disch:=try exact QQ)only[Wz,a_ hls,s1];exact⟨i,F1,rfl,f1,hp1,ht1,λd=>(hd1 d).aal (by rw[gD XV,gD XV];omega) hmin,oT⟩
theorem G4{h:ah}{v:Value}{F:List Int}{x:Int}{b7 c7:Nat}(hp:qa h v F)(hb7:b7<h.nx)(hg7:h.bl.get b7=some (ai [X1 x] 3 false))(hlen:F.length<=100000)(hal:h.lo<=h.nx)(Y:KQ)(hk:∀v' h',qa h' v' (F++[x])->h.nx<=h'.nx->h'.lo=h.lo->(∀c,c<h.nx->(∀vs,h.bl.get c≠some (ai vs 3 true))->h'.bl.get c=h.bl.get c)->(∀c,c<h.nx->(∀n cap,v≠X9 c n cap)->h'.bl.get c=h.bl.get c)->(∀c n cap,c<h.nx->v'=X9 c n cap->∃n cap,v=X9 c n cap)->Y v' h'):bt False And 3 1 [X1 0] false v (X9 b7 1 c7) h Y:=by
 have hx:Sl aU h (X9 b7 1 c7) [x]:=Sl.new (L:=[x]) (e:=3) (op:=false) hb7 (by simpa[aU]using hg7) _;have full:eG aU ⟨0,.nil,h.lo⟩ 3 h v F->(∀v' h',eG aU ⟨0,.nil,h.lo⟩ 3 h' v' (F++[x])->qa h' v' (F++[x]))->bt False And 3 1 [X1 0] false v (X9 b7 1 c7) h Y:=by
  intro ho aeo;refine Ju (enc:=aU) (a:=⟨0,.nil,h.lo⟩) (L:=F) (M:=[x]) aZ dF X0 X0 ho hx ⟨Nat.zero_le _,rfl,λb hb=>absurd hb (Nat.not_lt_zero _)⟩ (by simp;omega) hal Y ?_;intro v' h' ho' _ _ hn hl hs hs2 hv;refine hk v' h' (aeo v' h' ho') hn hl (λc hc hne=>hs c hc (hne _)) hs2 λc n cap hc e=>?_;rcases hv with rfl|⟨b,n',cap',hb,rfl⟩
  .exact⟨n,cap,e⟩
  .injection e with e;injection e with e;injection e with e;omega
 have conv:∀v' h',eG aU ⟨0,.nil,h.lo⟩ 3 h' v' (F++[x])->qa h' v' (F++[x]):=by
  intro v' h' ho;rcases ho with⟨e,_⟩|⟨b,e,_,h2,h3,h4⟩
  .simp at e
  .exact .inr ⟨b,[],e,h2,h3,by rw[List.append_nil];exact h4,by simp⟩
 rcases hp with⟨rfl,rfl⟩|⟨b,G,rfl,h1,h2,h3,h4⟩
 .exact full (.inl ⟨rfl,.inl rfl⟩) conv
 .cases G with
  |nil=>
   rw[List.append_nil]at h3;exact full (.inr ⟨b,rfl,Nat.zero_le _,h1,h2,h3⟩) conv
  |cons g G=>
   have fh:∀κ':List Value->Prop,fo False h 1 1 (X9 b7 1 c7) κ'=κ' [X1 x]:=λκ'=>hx.first (β:=Prop) (fl:=False) aZ κ';have hl:=bg (enc:=aU) aZ (F++g::G);have hl':(F++g::G).length=F.length+(G.length+1):=by simp
   have Ar:=zu (G:=G) (F:=F++[g]) (y:=x) (i:=F.length) (by simp);have e0:F++[g]++G=F++g::G:=by simp
   have e00:(F++[g]).set F.length x=F++[x]:=by simp
   rw[e0,e00]at Ar;unfold bt jf;simp only;rw[fh];simp only[bR];have e2:Nat.beq aS fT=false:=by decide
   have e3:Nat.beq aS aS=true:=Nat.beq_refl _;have e5:Nat.ble (Nat.add F.length (0+1)) 1000000000=true:=Nat.ble_eq_true_of_le (by show F.length+(0+1)<=_;omega);have e4:Nat.ble (Nat.add 0 (Nat.mul (Nat.add F.length (0+1)) 1)) ((F++g::G).flatMap aU).length=true:=Nat.ble_eq_true_of_le (by rw[hl];show 0+(F.length+(0+1))*1<=_;omega);simp only[e2,e3,e5,h3,ai,Nat.beq_refl,e4];rw[rW _ _ _ _ _ (by show 0+F.length*1+1<=_;omega) rfl,bI _ _ _ _ h2];have e6:(Nat.add 0 (Nat.mul F.length 1))=F.length:=by show 0+F.length*1=_;omega
   rw[e6,xq _ _ _ (by show F.length+1<=_;omega),Ar];have e7:((F++g::G).flatMap aU).length=((F++[x]++G).flatMap aU).length:=by rw[hl,bg aZ];simp
   rw[e7];refine hk _ _ (.inr ⟨b,G,by simp,h1,h2,T.an _ _ _,by simp;omega⟩) (Nat.le_refl _) rfl ?_ ?_ ?_
   .intro c hc hne;refine T.au _ _ ?_;rintro rfl;exact hne _ h3
   .intro c hc hne;refine T.au _ _ ?_;rintro rfl;exact hne _ _ rfl
   .intro c n cap hc e;injection e with e;injection e with e;injection e with e
    subst e;exact⟨_,_,rfl⟩
theorem QC(bp:Nat)(F:List Int)(ls:Value)(x:Int)(h:ah)(Y:KQ)(f:gL h bp F ls)(hlen:F.length<=10000)(hlo:h.lo<=h.nx)(hls:∃a n c,ls=.slice a n c)(hk:∀h' F',gL h' bp F' ls->F'.Perm (F++[x])->(HP F->HP F')->zq bp h h'->Y (.tuple ⟨[]⟩) h'):aj prog 206 [T6 bp,.iface 3 (X1 x)] h Y:=by
 obtain⟨la,ln,lc,rfl⟩:=hls;apply X2;rw[Qg];simp(disch:=try exact QQ)only[Wz,T7];apply X2;rw[aab];obtain⟨fs,hg,hpt⟩:=f.cell;have hfs:∃a n c,fs=.slice a n c:=by
  rcases hpt with⟨_,rfl⟩|⟨b,G,rfl,_⟩<;>exact⟨_,_,_,rfl⟩
 have hbp:=f.lt;have aoF:=f.lo;simp(disch:=try exact QQ)only[Wz,dH,GO,aL,hg];have hle1:=(Le.refl h).new (ai [X1 x] 3 false);obtain⟨hA,eA⟩:∃hA:ah,hA=⟨h.nx+1,h.bl.bx h.nx (ai [X1 x] 3 false),h.lo⟩:=⟨_,rfl⟩
 rw[<-eA]at hle1 ⊢;have nA:hA.nx=h.nx+1:=by rw[eA]
 have lA:hA.lo=h.lo:=by rw[eA]
 have gA:hA.bl.get h.nx=some (ai [X1 x] 3 false):=by rw[eA];exact T.an _ _ _
 have gbp:=(hle1.get bp hbp).trans hg;have aiU:qa hA fs F:=by
  rcases hpt with e|⟨b,G,e,h1,h2,h3,h4⟩
  .exact .inl e
  .exact .inr ⟨b,G,e,XV,XV,(hle1.get b h1).trans h3,h4⟩
 refine G4 aiU XV gA XV XV _ ?_;intro v' h2 hp2 n2 l2 hs2 hs3 hv3;have g2:=(hs2 bp XV (λvs=>by rw[gbp];exact br)).trans gbp;have vT:∃a n c,v'=.slice a n c:=by
  rcases hp2 with⟨_,rfl⟩|⟨b,G,rfl,_⟩<;>exact⟨_,_,_,rfl⟩
 obtain⟨va,vn,vc,rfl⟩:=vT;simp(disch:=try exact QQ)only[Wz,g2];obtain⟨hB,eB⟩:∃hB:ah,hB=⟨h2.nx,h2.bl.bx bp (ai [.slice va vn vc,.slice la ln lc] 286 false),h2.lo⟩:=⟨_,rfl⟩
 rw[<-eB];have nB:hB.nx=h2.nx:=by rw[eB]
 have lB:hB.lo=h2.lo:=by rw[eB]
 have gB:hB.bl.get bp=some (ai [.slice va vn vc,.slice la ln lc] 286 false):=by rw[eB];exact T.an _ _ _
 have hpB:qa hB (.slice va vn vc) (F++[x]):=by
  rcases hp2 with e|⟨b,G,e,h1,SN,h3,h4⟩
  .exact .inl e
  .refine .inr ⟨b,G,e,XV,XV,?_,h4⟩;rw[eB];exact(T.au _ _ (by rintro rfl;rw[g2]at h3;exact br h3)).trans h3
 have fB:gL hB bp (F++[x]) (.slice la ln lc):=⟨XV,XV,_,gB,hpB⟩
 have frB:zq bp h hB:=by
  refine⟨XV,XV,λc hc hn hi=>?_,λ_ c hc hn hi=>?_,λ_ c hc hx=>?_⟩
  .have e1:hA.bl.get c=h.bl.get c:=hle1.get c hc;rw[eB];exact(T.au _ _ (λe=>hn e.symm)).trans ((hs2 c XV (λvs=>by rw[e1];exact hi vs)).trans e1)
  .have e1:hA.bl.get c=h.bl.get c:=hle1.get c hc;rw[eB];exact(T.au _ _ (λe=>hn e.symm)).trans ((hs3 c XV (λn cap e=>hi ⟨n,cap,_,e▸hg⟩)).trans e1)
  .obtain⟨n,cap,ls',hx⟩:=hx;rw[gB]at hx;obtain⟨n',cap',e⟩:=hv3 c n cap XV (nq hx);exact⟨n',cap',_,e▸hg⟩
 simp(disch:=try exact QQ)only[Wz,QB,gB];refine q9 (F++[x]) hB _ _ hpB ?_;have el:(((F++[x]).length:Nat):Int)-1=(F.length:Int):=by simp
 have el2:(F++[x]).length=F.length+1:=by simp
 simp(disch:=try exact QQ)only[Wz,el];refine aiQ bp (F++[x]) _ F.length hB _ fB XV XV ?_;intro h3 F' f3 ye hu3 zx;exact hk h3 F' f3 ye (λu=>hu3 (HP.push u x)) (frB.trans zx)
theorem aep(bp:Nat)(F:List Int)(ls:Value)(h:ah)(Y:KQ)(f:gL h bp F ls)(h0:F≠[])(hlen:F.length<=10000)(hlo:h.lo<=h.nx)(hls:∃a n c,ls=.slice a n c)(hk:∀h' F' x,gL h' bp F' ls->(x::F').Perm F->(HP F->HP F'/\∀y∈F',x<=y)->zq bp h h'->Y (.iface 3 (X1 x)) h'):aj prog 161 [T6 bp] h Y:=by
 obtain⟨la,ln,lc,rfl⟩:=hls;have hpos:0<F.length:=List.length_pos_iff.2 h0;apply X2;rw[P7];obtain⟨fs,hg,hpt⟩:=f.cell;simp(disch:=try exact QQ)only[Wz,QB,hg];refine q9 F h _ _ hpt ?_;have el:((F.length:Nat):Int)-1=((F.length-1:Nat):Int):=by omega
 simp(disch:=try exact QQ)only[Wz,el,Dc,hg];refine vH F 0 (F.length-1) h _ _ hpt hpos XV ?_;intro h1 q1 q2 q3 q4 q5;have f1:=f.same q1 q2 hg q3 q4;have wR:=tA (F:=F) (i:=0) (j:=F.length-1) hpos XV;have tK:=wR.length_eq;refine aam bp (oH F 0 (F.length-1)) _ 0 (F.length-1) h1 _ f1 XV XV XV ?_;intro r h2 F2 f2 hp2 ht2 hd2 oI;have AT:=hp2.length_eq;obtain⟨fs2,hg2,T8⟩:=f2.cell;have hbp:=f2.lt;have hlb:=f2.lo;simp(disch:=try exact QQ)only[Wz,aak];apply X2;rw[aaa];simp(disch:=try exact QQ)only[Wz,aL,hg2];refine q9 F2 h2 _ _ T8 ?_;have el2:((F2.length:Nat):Int)-1=((F2.length-1:Nat):Int):=by omega
 rcases T8 with⟨e,_⟩|⟨b,G,rfl,k1,k2,k3,k4⟩
 .rw[e]at AT;simp at AT;omega
 obtain⟨x,hx⟩:∃x,F2[F2.length-1]? = some x:=⟨_,List.getElem?_eq_getElem XV⟩
 have hr:=q_ (G:=G) hx;have hfl:=bg (enc:=aU) aZ (F2++G);have hl3:(F2++G).length=F2.length+G.length:=List.length_append;simp(disch:=try exact QQ)only[Wz,el2,hg2,aX,k3,hr,Nat.mul_one,oA (n:=(F2++G).length) (i:=F2.length-1) (Nat.succ_pos 0) k3 (by rw[hfl]) XV XV];have hne:b≠bp:=by rintro rfl;rw[hg2]at k3;exact br k3
 have eF:F2=F2.take (F2.length-1)++[x]:=by
  conv=>lhs;rw[<-List.take_append_drop (F2.length-1) F2]
  congr 1
  have hlt:F2.length-1<F2.length:=by omega
  rw[List.drop_eq_getElem_cons hlt,List.drop_of_length_le XV];rw[List.getElem?_eq_getElem hlt]at hx;cases hx;rfl
 refine hk ⟨h2.nx,h2.bl.bx bp (ai [X9 b (F2.length-1) aS,.slice la ln lc] 286 false),h2.lo⟩ (F2.take (F2.length-1)) x ⟨hbp,hlb,_,T.an _ _ _,.inr ⟨b,x::G,by simp,k1,k2,?_,by simp;omega⟩⟩ ?_ ?_ ?_
 .rw[show F2.take (F2.length-1)++x::G=F2++G by conv=>rhs;rw[eF];simp];exact(T.au _ _ (λe=>hne e.symm)).trans k3
 .refine List.Perm.trans ?_ (hp2.trans wR)
  conv=>rhs;rw[eF]
  exact(List.perm_append_singleton x _).symm
 ·intro u;refine⟨HN.take (by rw[AT,tK];exact hd2 (HP.pop u hpos)) XV,λy hy=>?_⟩;have hyF:y∈F:=by
   refine(hp2.trans wR).mem_iff.1 ?_;rw[eF];exact List.mem_append_left _ hy
  obtain⟨k,gP,rfl⟩:=List.getElem_of_mem hyF;have Xh:x=F.getD 0 0:=by
   have e1:=ht2 (F.length-1) (Nat.le_refl _);rw[AT,tK,e1,List.getElem?_eq_getElem XV]at hx;have e2:=uA (F:=F) (i:=0) (j:=F.length-1) hpos XV (F.length-1);rw[if_pos rfl,gD XV]at e2;rw[<-e2];exact(Option.some.inj hx).symm
  rw[Xh,<-gD gP];exact HP.least u _ k (Nat.lt_succ_self _) gP
 .refine zq.trans (zq.trans (.swap hg q1 q2 q4 q5) oI) ⟨Nat.le_refl _,rfl,λc _ hn _=>T.au _ _ (λe=>hn e.symm),λ_ c _ hn _=>T.au _ _ (λe=>hn e.symm),λ_ c _ hx=>?_⟩;obtain⟨n,cap,ls',hx⟩:=hx;have e:=nq ((T.an _ _ _).symm.trans hx);injection e with e;injection e with e;injection e with e
  subst e;exact⟨_,_,_,hg2⟩
structure kU(F:List Int)(B:List Bool):Prop where
 nodup:F.Nodup
 mem:∀n:Nat,(n:Int)∈F<->B[n]? = some false
 pos:∀x∈F,0<=x
 hp:HP F
structure eP(h:ah)(bp bl:Nat)(F:List Int)(B:List Bool):Prop where
 fr:gL h bp F (X9 bl B.length B.length)
 lt:bl<h.nx
 lo:h.lo<=bl
 cell:h.bl.get bl=some (ai (B.map Value.bool) 4 false)
 ok:kU F B
 small:B.length<=128
theorem kU.take{F F':List Int}{B:List Bool}{x:Int}(o:kU F B)(hp:(x::F').Perm F)(hu:HP F->HP F'/\∀y∈F',x<=y):∃n:Nat,x=(n:Int)/\n<B.length/\B[n]? = some false/\(∀k,k<n->B[k]? = some true)/\kU F' (B.set n true):=by
 have hx:x∈F:=hp.mem_iff.1 (.head _);obtain⟨n,rfl⟩:∃n:Nat,x=(n:Int):=⟨x.toNat,by have:=o.pos x hx;omega⟩
 have hb:=(o.mem n).1 hx;have hn:n<B.length:=(List.getElem?_eq_some_iff.1 hb).1;have hnd:((n:Int)::F').Nodup:=(hp.nodup_iff).2 o.nodup;rw[List.nodup_cons]at hnd;obtain⟨OA,Xb⟩:=hu o.hp;have aan:∀k,k<n->B[k]? = some true:=by
  intro k hk;have MM:k<B.length:=by omega
  rw[List.getElem?_eq_getElem MM];cases hbk:B[k]with
  |true=>rfl
  |false=>
   have hkF:(k:Int)∈F:=(o.mem k).2 (by rw[List.getElem?_eq_getElem MM,hbk]);rcases List.mem_cons.1 (hp.mem_iff.2 hkF)with h|h
   .omega
   .have:=Xb _ h;omega
 refine⟨n,rfl,hn,hb,aan,hnd.2,λk=>?_,λy hy=>o.pos y (hp.mem_iff.1 (.tail _ hy)),OA⟩;rw[List.getElem?_set];by_cases hk:n=k
 .subst hk;rw[if_pos rfl,if_pos hn];simp[hnd.1]
 .rw[if_neg hk,<-o.mem k,<-hp.mem_iff,List.mem_cons];constructor
  .exact λh=>.inr h
  .rintro(h|h)
   .omega
   .exact h
theorem kU.Jv{F F':List Int}{B:List Bool}{n:Nat}(o:kU F B)(hb:B[n]? = some true)(hp:F'.Perm (F++[(n:Int)]))(hu:HP F->HP F'):kU F' (B.set n false):=by
 have hn:n<B.length:=(List.getElem?_eq_some_iff.1 hb).1;have hno:(n:Int)∉F:=λh=>by have:=(o.mem n).1 h;rw[hb]at this;cases this
 refine⟨(hp.nodup_iff).2 ?_,λk=>?_,λy hy=>?_,hu o.hp⟩
 .rw[List.nodup_append];refine⟨o.nodup,by simp,λa ha b hb'=>?_⟩;rw[List.mem_singleton]at hb';subst hb';rintro rfl;exact hno ha
 .rw[hp.mem_iff,List.mem_append,List.mem_singleton,List.getElem?_set];by_cases hk:n=k
  .subst hk;rw[if_pos rfl,if_pos hn];simp
  .rw[if_neg hk,<-o.mem k];constructor
   .rintro(h|h)
    .exact h
    .omega
   .exact λh=>.inl h
 .rcases List.mem_append.1 (hp.mem_iff.1 hy)with h|h
  .exact o.pos y h
  .rw[List.mem_singleton]at h;omega
theorem Ws(h:ah)(b o:Nat):nH prog h 100 191 (.pointer (some ⟨b,o,none⟩)) (.pointer none)=some false:=by kernel_rfl
theorem xE{β:Type}{fl:β}(cn:Bool)(b o:Nat)(h:ah)(Y:XW β):aG fl prog .eql 191 cn false (.pointer (some ⟨b,o,none⟩)) (.pointer none) h Y=Y (.bool false) h:=by simp only[aG,Ws,cF]
theorem Dd{β:Type}{fl:β}(cn:Bool)(b o:Nat)(h:ah)(Y:XW β):aG fl prog .neq 191 cn false (.pointer (some ⟨b,o,none⟩)) (.pointer none) h Y=Y (.bool true) h:=by simp only[aG,Ws,cF,Bool.not_false]
theorem aao(bp bl:Nat)(F:List Int)(B:List Bool)(h:ah)(Y:KQ)(p:eP h bp bl F B)(hF:F.length<=1000)(hk:Y (X1 ((B.length:Int)-F.length)) h):aj prog 121 [X3 bp] h Y:=by
 apply X2;rw[Yj];obtain⟨fs,hg,hpt⟩:=p.fr.cell;have hs:=p.small;have hfs:∃a n c,fs=.slice a n c:=by
  rcases hpt with⟨_,rfl⟩|⟨b,G,rfl,_⟩<;>exact⟨_,_,_,rfl⟩
 obtain⟨va,vn,vc,rfl⟩:=hfs;simp(disch:=try exact QQ)only[Wz,xE,Fl,aL,hg];refine q9 F h _ _ hpt ?_;simp(disch:=try exact QQ)only[Wz,aL,hg];exact hk
theorem Wt(bp bl:Nat)(F:List Int)(B:List Bool)(i:Int)(h:ah)(Y:KQ)(p:eP h bp bl F B)(hk:Y (.bool (decide (0<=i) && (B[i.toNat]?).getD false)) h):aj prog 342 [X3 bp,X1 i] h Y:=by
 apply X2;rw[Zn];obtain⟨fs,hg,hpt⟩:=p.fr.cell;by_cases h0:0<=i
 .obtain⟨n,rfl⟩:∃n:Nat,i=(n:Int):=⟨i.toNat,XV⟩
  rw[bq h0,Bool.true_and,Int.toNat_natCast]at hk;by_cases h1:n<B.length
  .have hr:(B.map Value.bool)[n]? = some (.bool B[n]):=by rw[List.getElem?_map,List.getElem?_eq_getElem h1];rfl
   rw[List.getElem?_eq_getElem h1]at hk;simp(disch:=try exact QQ)only[Wz,Dd,aL,hg,b_ h0,dw (show(n:Int)<(B.length:Int)by omega),aX,p.cell,hr,Nat.mul_one];exact hk
  .rw[List.getElem?_eq_none XV]at hk;simp(disch:=try exact QQ)only[Wz,Dd,aL,hg,b_ h0,b_ (show(B.length:Int)<=(n:Int)by omega)];exact hk
 .rw[a_ h0,Bool.false_and]at hk;simp(disch:=try exact QQ)only[Wz,Dd,aL,hg,dw (show i<0 by omega)];exact hk
structure LM(bp bl:Nat)(h h':ah):Prop where
 nx:h.nx<=h'.nx
 lo:h'.lo=h.lo
 get:∀c,c<h.nx->c≠bp->c≠bl->(∀vs,h.bl.get c≠some (ai vs 3 true))->h'.bl.get c=h.bl.get c
 g2:bp<h.nx->∀c,c<h.nx->c≠bp->c≠bl->¬FB h bp c->h'.bl.get c=h.bl.get c
 mv:bp<h.nx->∀c,c<h.nx->FB h' bp c->FB h bp c
theorem LM.trans{bp bl:Nat}{h h' h'':ah}(a:LM bp bl h h')(b:LM bp bl h' h''):LM bp bl h h'':=
 ⟨Nat.le_trans a.nx b.nx,b.lo.trans a.lo,λc hc hn hl hi=>(b.get c (Nat.lt_of_lt_of_le hc a.nx) hn hl (λvs=>by rw[a.get c hc hn hl hi];exact hi vs)).trans (a.get c hc hn hl hi),
  λhb c hc hn hl hi=>(b.g2 (Nat.lt_of_lt_of_le hb a.nx) c (Nat.lt_of_lt_of_le hc a.nx) hn hl λx=>hi (a.mv hb c hc x)).trans (a.g2 hb c hc hn hl hi),
  λhb c hc x=>a.mv hb c hc (b.mv (Nat.lt_of_lt_of_le hb a.nx) c (Nat.lt_of_lt_of_le hc a.nx) x)⟩
theorem LM.aeq{bp bl:Nat}{h h':ah}(f:zq bp h h'):LM bp bl h h':=⟨f.nx,f.lo,λc hc hn _ hi=>f.get c hc hn hi,λhb c hc hn _ hi=>f.g2 hb c hc hn hi,f.mv⟩
theorem zy(B:List Bool)(n:Nat)(b:Bool):over (B.map Value.bool) n [.bool b]=(if n<B.length then(B.set n b).map Value.bool else over (B.map Value.bool) n [.bool b]):=by
 split
 .rename_i h;rw[List.map_set];unfold over;rw[List.set_eq_take_append_cons_drop,if_pos (by simpa using h)];simp
 .rfl
theorem BM{B:List Bool}{n:Nat}{b:Bool}(h:n<B.length):over (B.map Value.bool) n [.bool b]=(B.set n b).map Value.bool:=by
 rw[zy,if_pos h]
theorem aap(bp bl:Nat)(F:List Int)(B:List Bool)(h:ah)(Y:KQ)(p:eP h bp bl F B)(hF:F.length<=1000)(hlo:h.lo<=h.nx)(hne:bp≠bl)(nj:F=[]->Y (.tuple ⟨[X1 0,X1 8]⟩) h)(gP:∀h' F' (n:Nat),eP h' bp bl F' (B.set n true)->((n:Int)::F').Perm F->B[n]? = some false->(∀k,k<n->B[k]? = some true)->LM bp bl h h'->Y (.tuple ⟨[X1 (n:Int),X1 0]⟩) h'):aj prog 396 [X3 bp] h Y:=by
 apply X2;rw[ZK];obtain⟨fs,hg,hpt⟩:=p.fr.cell;simp(disch:=try exact QQ)only[Wz,xE,Gz,aL,hg];refine q9 F h _ _ hpt ?_;by_cases h0:F=[]
 .simp(disch:=try exact QQ)only[Wz,bq (show(F.length:Int)=0 by simp[h0])];exact nj h0
 have hpos:0<F.length:=List.length_pos_iff.2 h0;simp(disch:=try exact QQ)only[Wz,a_ (show ¬(F.length:Int)=0 by omega),Gy,aL];refine aep bp F _ h _ p.fr h0 XV hlo ⟨_,_,_,rfl⟩ ?_;intro h2 F' x f2 hp2 Xb oI;obtain⟨n,rfl,hn,hb,aaq,ho⟩:=p.ok.take hp2 Xb;obtain⟨fs2,hg2,T8⟩:=f2.cell;have hbl:=p.lt;have aiY:=p.lo;have n2:=oI.nx;have l2:=oI.lo;have hlm:(B.map Value.bool).length=B.length:=by simp
 have gl:=(oI.get bl hbl (λe=>hne e.symm) (λvs=>by rw[p.cell];exact br)).trans p.cell;simp(disch:=try exact QQ)only[Wz,dH,aL,hg2,aX,gl,Nat.mul_one,BM hn];refine gP ⟨h2.nx,h2.bl.bx bl (ai ((B.set n true).map Value.bool) 4 false),h2.lo⟩ F' n ⟨⟨f2.lt,f2.lo,fs2,?_,?_⟩,by show bl<h2.nx;omega,by show h2.lo<=bl;omega,T.an _ _ _,ho,by rw[List.length_set];exact p.small⟩ hp2 hb aaq ?_
 .rw[List.length_set];exact(T.au _ _ (λe=>hne e.symm)).trans hg2
 .rcases T8 with e|⟨b,G,e,k1,k2,k3,k4⟩
  .exact .inl e
  .exact .inr ⟨b,G,e,k1,k2,(T.au _ _ (by rintro rfl;rw[gl]at k3;exact br k3)).trans k3,k4⟩
 .exact(LM.aeq oI).trans ⟨Nat.le_refl _,rfl,λc _ _ hn _=>T.au _ _ (λe=>hn e.symm),λ_ c _ _ hn _=>T.au _ _ (λe=>hn e.symm),λ_ c _ hx=>(FB.congr (T.au _ _ (λe=>hne e.symm))).1 hx⟩
theorem QD(bp bl:Nat)(F:List Int)(B:List Bool)(n:Nat)(h:ah)(Y:KQ)(p:eP h bp bl F B)(hF:F.length<=1000)(hlo:h.lo<=h.nx)(hne:bp≠bl)(hb:B[n]? = some true)(hk:∀h' F',eP h' bp bl F' (B.set n false)->F'.Perm (F++[(n:Int)])->LM bp bl h h'->Y (X1 0) h'):aj prog 346 [X3 bp,X1 (n:Int)] h Y:=by
 apply X2;rw[Zr];have hn:n<B.length:=(List.getElem?_eq_some_iff.1 hb).1;have hlm:(B.map Value.bool).length=B.length:=by simp
 obtain⟨fs,hg,hpt⟩:=p.fr.cell;simp(disch:=try exact QQ)only[Wz,xE];refine Wt bp bl F B (n:Int) h _ p ?_;have eh:(decide ((0:Int)<=(n:Int)) && (B[((n:Int)).toNat]?).getD false)=true:=by
  rw[bq XV,Int.toNat_natCast,hb];rfl
 rw[eh];have hbl:=p.lt;have aiY:=p.lo;simp(disch:=try exact QQ)only[Wz,Gg,aL,hg,aX,p.cell,Nat.mul_one,BM hn];obtain⟨hA,eA⟩:∃hA:ah,hA=⟨h.nx,h.bl.bx bl (ai ((B.set n false).map Value.bool) 4 false),h.lo⟩:=⟨_,rfl⟩
 rw[<-eA];have nA:hA.nx=h.nx:=by rw[eA]
 have lA:hA.lo=h.lo:=by rw[eA]
 have gbl:hA.bl.get bl=some (ai ((B.set n false).map Value.bool) 4 false):=by rw[eA];exact T.an _ _ _
 have fA:gL hA bp F (X9 bl B.length B.length):=by
  refine⟨by rw[nA];exact p.fr.lt,by rw[lA];exact p.fr.lo,fs,by rw[eA];exact(T.au _ _ (λe=>hne e.symm)).trans hg,?_⟩;rcases hpt with e|⟨b,G,e,k1,k2,k3,k4⟩
  .exact .inl e
  .refine .inr ⟨b,G,e,XV,XV,?_,k4⟩;rw[eA];exact(T.au _ _ (by rintro rfl;rw[p.cell]at k3;exact br k3)).trans k3
 have Io:LM bp bl h hA:=⟨XV,lA,λc _ _ hn _=>by rw[eA];exact T.au _ _ (λe=>hn e.symm),λ_ c _ _ hn _=>by rw[eA];exact T.au _ _ (λe=>hn e.symm),λ_ c _ hx=>(FB.congr (by rw[eA];exact T.au _ _ (λe=>hne e.symm))).1 hx⟩
 refine QC bp F _ (n:Int) hA _ fA XV XV ⟨_,_,_,rfl⟩ ?_;intro h3 F' f3 ye hu3 zx;have n3:=zx.nx;have l3:=zx.lo;refine hk h3 F' ⟨by rw[List.length_set];exact f3,XV,XV,?_,p.ok.Jv hb ye hu3,by rw[List.length_set];exact p.small⟩ ye (Io.trans (LM.aeq zx));exact(zx.get bl XV (λe=>hne e.symm) (λvs=>by rw[gbl];exact br)).trans gbl
theorem wF(n:Nat):aV [Value.bool false] n=(List.replicate n false).map Value.bool:=by
 induction n with
 |zero=>rfl
 |succ n ih=>rw[List.replicate_succ,List.map_cons,<-ih];rfl
theorem kU.new(most:Nat){F:List Int}(hp:F.Perm ((List.range most).map λn:Nat=>(n:Int)))(hu:HP F):kU F (List.replicate most false):=by
 refine⟨(hp.nodup_iff).2 ?_,λn=>?_,λx hx=>?_,hu⟩
 .rw[List.Nodup,List.pairwise_map];exact List.nodup_range.imp λhne e=>hne (Int.ofNat.inj e)
 .rw[hp.mem_iff,List.mem_map,List.getElem?_replicate];constructor
  .rintro⟨a,ha,e⟩;have:a=n:=Int.ofNat.inj e;subst this;rw[if_pos (List.mem_range.1 ha)]
  .intro h;by_cases hn:n<most
   .exact⟨n,List.mem_range.2 hn,rfl⟩
   .rw[if_neg hn]at h;cases h
 .obtain⟨a,_,rfl⟩:=List.mem_map.1 (hp.mem_iff.1 hx);omega
theorem MZ(most:Nat)(h:ah)(Y:KQ)(hm:most<=128)(hlo:h.lo<=h.nx)(hk:∀bp bl h' F,eP h' bp bl F (List.replicate most false)->bp≠bl->h.nx<=bp->h.nx<=bl->F.length=most->Le h h'->(∀x,FB h' bp x->h.nx<=x)->Y (.tuple ⟨[X3 bp,X1 0]⟩) h'):aj prog 152 [X1 (most:Int)] h Y:=by
 apply X2;rw[P4];simp(disch:=try exact QQ)only[Wz,b_ (show(0:Int)<=(most:Int)by omega),b_ (show(most:Int)<=128 by omega)];have hrl:(aV [Value.bool false] most).length=most:=by rw[wF];simp
 rw[CQ _ _ _ _ _ XV XV,wF];simp(disch:=try exact QQ)only[Wz];obtain⟨hA,bH,aY,gl,gp,ia,ic⟩:=DK h (ai ((List.replicate most false).map Value.bool) 4 false) (ai [.slice none 0 0,X9 h.nx most most] 286 false);rw[<-bH];clear bH;refine⟨λm l h1=>∃(i:Nat)(F:List Int),aa l 11=X1 (i:Int)/\m=most-i/\i<=most/\gL h1 (h.nx+1) F (X9 h.nx most most)/\F.Perm ((List.range i).map λn:Nat=>(n:Int))/\HP F/\zq (h.nx+1) hA h1,⟨_,0,[],rfl,rfl,XV,⟨XV,XV,_,gp,.inl ⟨rfl,rfl⟩⟩,List.Perm.refl _,λi h1 h2=>absurd h2 (Nat.not_lt_zero _),zq.refl _ _⟩,?_⟩;rintro m l h1 ⟨i,F1,s1,rfl,hi,f1,hp1,OA,oT⟩;have n1:=oT.nx;have l1:=oT.lo;have tK:F1.length=i:=by rw[hp1.length_eq];simp
 by_cases hst:i<most
 .simp(disch:=try exact QQ)only[Wz,yR,s1,dw (show(i:Int)<(most:Int)by omega),aL];refine QC (h.nx+1) F1 _ (i:Int) h1 _ f1 XV XV ⟨_,_,_,rfl⟩ ?_;intro h2 F2 f2 hp2 Xb oI;refine⟨_,?_,i+1,F2,rfl,rfl,XV,f2,?_,Xb OA,oT.trans oI⟩
  .omega
  .rw[List.range_succ,List.map_append];exact hp2.trans (hp1.append_right _)
 .have hie:i=most:=by omega
  subst hie;simp(disch:=try exact QQ)only[Wz,yR,s1,b_ (show(i:Int)<=(i:Int)by omega)];refine hk (h.nx+1) h.nx h1 F1 ⟨by rw[List.length_replicate];exact f1,XV,XV,?_,kU.new _ hp1 OA,by rw[List.length_replicate];exact hm⟩ XV XV XV tK ⟨XV,XV,λc hc=>?_⟩ λx hx=>?_
  .exact(oT.get h.nx XV XV (λvs=>by rw[gl];exact br)).trans gl
  .refine(oT.g2 XV c XV XV ?_).trans (aY.get c hc);rintro⟨n,cap,ls,hx⟩;have:=nq (gp.symm.trans hx);cases this
  .rcases Nat.lt_or_ge x h.nx with hlt|hge
   .obtain⟨n,cap,ls,hx⟩:=oT.mv XV x XV hx;have:=nq (gp.symm.trans hx);cases this
   .exact hge
structure HE where
 t:Int
 r:Int
 hb:Nat
 born:Nat
 q:Value
 w:Int
 Q:List R5
def mz(e:HE):MapEntry:={ key:=iF e.t e.r,val:=X3 e.hb,born:=e.born }
def uB(t r:Int)(e:HE):Bool:=decide (t=e.t/\r=e.r)
theorem BN{t r:Int}{x:HE}:(!uB t r x)=true<->¬(t=x.t/\r=x.r):=by unfold uB;rw[Bool.not_eq_true',decide_eq_false_iff_not]
structure iB(M:List HE)(clock:Nat):Prop where
 nm:M.Pairwise λa b=>¬(a.t=b.t/\a.r=b.r)
 bn:M.Pairwise λa b=>a.born≠b.born
 lt:∀e∈M,e.born<clock
theorem ai0(h:ah)(a b c d:Int):nH prog h 100 28 (.agg ⟨[X1 a,X1 b]⟩) (.agg ⟨[X1 c,X1 d]⟩) =
  (match(some (nY a c))with|some true=>(match some (nY b d)with|some true=>some true|r=>r)|r=>r):=by kernel_rfl
theorem eqN(h:ah)(a b c d:Int):nH prog h 100 28 (iF a b) (iF c d)=some (decide (a=c/\b=d)):=by
 unfold iF;rw[ai0,fS,fS];by_cases h1:a=c<;>by_cases h2:b=d<;>simp[h1,h2]
theorem QE(t r:Int):kj prog 20 28 (iF t r)=true:=by kernel_rfl
theorem ai2(t r:Int):je 3 (iF t r) (iF t r)=true:=by unfold je;exact vm 1 [t,r]
theorem lW(x:MapEntry):∀(l:List MapEntry)(Y:List MapEntry->Prop),A9 x l Y=Y (l++[x]):=by
 intro l
 induction l with
 |nil=>intro Y;rfl
 |cons a l ih=>intro Y;exact ih _
theorem lY(f:MapEntry->MapEntry):∀(l:List MapEntry)(j:Nat)(e:MapEntry)(Y:List MapEntry->Prop),l[j]? = some e->setAt f j l Y=Y (l.set j (f e)):=by
 intro l
 induction l with
 |nil=>intro j e Y h;simp at h
 |cons a l ih=>
  intro j e Y h;cases j with
  |zero=>rw[List.getElem?_cons_zero]at h;cases h;rfl
  |succ j=>rw[List.getElem?_cons_succ]at h;exact ih j e _ h
theorem yb:∀(l:List MapEntry)(j:Nat)(Y:List MapEntry->Prop),A_ j l Y=Y (l.eraseIdx j):=by
 intro l
 induction l with
 |nil=>intro j Y;cases j<;>rfl
 |cons a l ih=>
  intro j Y;cases j with
  |zero=>rfl
  |succ j=>exact ih j _
theorem G5(h:ah)(t r:Int):∀(M:List HE)(i:Nat),(fN prog h 28 (iF t r) (M.map mz) i=some none/\∀e∈M,¬(t=e.t/\r=e.r))\/
  ∃(j:Nat)(e:HE),fN prog h 28 (iF t r) (M.map mz) i=some (some (i+j,mz e))/\M[j]? = some e/\t=e.t/\r=e.r:=by
 intro M
 induction M with
 |nil=>intro i;exact .inl ⟨rfl,λe he=>nomatch he⟩
 |cons e M ih=>
  intro i;have hf:fN prog h 28 (iF t r) ((e::M).map mz) i=(match(some (decide (t=e.t/\r=e.r)):Option Bool)with|some true=>some (some (i,mz e))|some false=>fN prog h 28 (iF t r) (M.map mz) (Nat.succ i)|none=>none):=by
   rw[<-eqN h];rfl
  rw[hf];by_cases h1:t=e.t/\r=e.r
  .rw[bq h1];exact .inr ⟨0,e,rfl,rfl,h1.1,h1.2⟩
  .rw[a_ h1];rcases ih (Nat.succ i)with⟨g1,g2⟩|⟨j,e',g1,g2,g3,g4⟩
   .exact .inl ⟨g1,λx hx=>by rcases List.mem_cons.1 hx with rfl|hx;exact h1;exact g2 x hx⟩
   .exact .inr ⟨j+1,e',by rw[show i+(j+1)=Nat.succ i+j by omega];exact g1,g2,g3,g4⟩
theorem BO{β:Type}{fl:β}{M:List HE}{clock:Nat}{h:ah}{bm:Nat}(g:h.bl.get bm=some (.map (M.map mz) clock))(t r:Int)(hn:∀e∈M,¬(t=e.t/\r=e.r))(Y:XW β):ct fl prog 28 (.pointer none) true (.map (some bm)) (iF t r) h Y=Y (.tuple ⟨[.pointer none,.bool false]⟩) h:=by
 unfold ct jF;rw[QE];simp only[g];rcases G5 h t r M 0 with⟨g1,_⟩|⟨j,e,_,g2,g3,g4⟩
 .rw[g1]
 .exact absurd (And.intro g3 g4) (hn e (List.mem_of_getElem? g2))
theorem iB.uniq{M:List HE}{clock:Nat}(o:iB M clock){e e':HE}(h:e∈M)(h':e'∈M)(ht:e.t=e'.t)(hr:e.r=e'.r):e=e':=by
 have:∀(L:List HE),(L.Pairwise λa b=>¬(a.t=b.t/\a.r=b.r))->e∈L->e'∈L->e=e':=by
  intro L
  induction L with
  |nil=>intro _ h;nomatch h
  |cons a L ih=>
   intro hp h1 h2;rw[List.pairwise_cons]at hp;rcases List.mem_cons.1 h1 with rfl|k1<;>rcases List.mem_cons.1 h2 with rfl|k2
   .rfl
   .exact absurd ⟨ht,hr⟩ (hp.1 _ k2)
   .exact absurd ⟨ht.symm,hr.symm⟩ (hp.1 _ k1)
   .exact ih hp.2 k1 k2
 exact this M o.nm h h'
theorem G7{β:Type}{fl:β}{M:List HE}{clock:Nat}{h:ah}{bm:Nat}(o:iB M clock)(g:h.bl.get bm=some (.map (M.map mz) clock)){e:HE}(he:e∈M)(Y:XW β):ct fl prog 28 (.pointer none) true (.map (some bm)) (iF e.t e.r) h Y=Y (.tuple ⟨[X3 e.hb,.bool true]⟩) h:=by
 unfold ct jF;rw[QE];simp only[g];rcases G5 h e.t e.r M 0 with⟨g1,g2⟩|⟨j,e',g1,g2,g3,g4⟩
 .exact absurd ⟨rfl,rfl⟩ (g2 e he)
 .rw[g1];rw[o.uniq he (List.mem_of_getElem? g2) g3 g4];rfl
theorem erase_filter{M:List HE}(hn:M.Pairwise λa b=>¬(a.t=b.t/\a.r=b.r)){j:Nat}{e:HE}(hj:M[j]? = some e):M.eraseIdx j=M.filter λx=>!uB e.t e.r x:=by
 induction M generalizing j with
 |nil=>simp at hj
 |cons a M ih=>
  rw[List.pairwise_cons]at hn;cases j with
  |zero=>
   rw[List.getElem?_cons_zero]at hj;cases hj;rw[List.eraseIdx_cons_zero,List.filter_cons_of_neg (by simp[uB])];exact(List.filter_eq_self.2 λx hx=>BN.2 (hn.1 x hx)).symm
  |succ j=>
   rw[List.getElem?_cons_succ]at hj;have:=hn.1 e (List.mem_of_getElem? hj);rw[List.eraseIdx_cons_succ,List.filter_cons_of_pos (p:=λx=>!uB e.t e.r x) (BN.2 λ⟨h1,h2⟩=>this ⟨h1.symm,h2.symm⟩),ih hn.2 hj]
theorem LN{α:Type}{R:α->α->Prop}(hs:∀{a b},R a b->R b a){L L':List α}(hp:L.Perm L')(h:L.Pairwise R):L'.Pairwise R:=(hp.pairwise_iff hs).1 h
theorem iB.put{M M':List HE}{clock clock':Nat}(o:iB M clock)(hc:clock<=clock'){e:HE}(hp:M'.Perm (M.filter (λx=>!uB e.t e.r x)++[e]))(hb:∀x∈M,¬(e.t=x.t/\e.r=x.r)->x.born≠e.born)(hlt:e.born<clock'):iB M' clock':=by
 have hm:∀x∈M.filter (λx=>!uB e.t e.r x),x∈M/\¬(e.t=x.t/\e.r=x.r):=λx hx=>by
  rw[List.mem_filter]at hx;exact⟨hx.1,BN.1 hx.2⟩
 refine⟨LN (λh=>λ⟨a,b⟩=>h ⟨a.symm,b.symm⟩) hp.symm (uf (o.nm.filter _) λx hx=>λ⟨a,b⟩=>(hm x hx).2 ⟨a.symm,b.symm⟩),LN (λh=>h.symm) hp.symm (uf (o.bn.filter _) λx hx=>hb x (hm x hx).1 (hm x hx).2),λx hx=>?_⟩;rcases List.mem_append.1 (hp.mem_iff.1 hx)with h|h
 .exact Nat.lt_of_lt_of_le (o.lt x (hm x h).1) hc
 .rw[List.mem_singleton]at h;subst h;exact hlt
theorem aar{M:List HE}{clock:Nat}{h:ah}{bm:Nat}(o:iB M clock)(g:h.bl.get bm=some (.map (M.map mz) clock))(hlo:h.lo<=bm)(t r:Int)(hb:Nat)(q:Value)(w:Int)(Q:List R5)(Y:KQ)(hk:∀M' clock' born,iB M' clock'->M'.Perm (M.filter (λx=>!uB t r x)++[⟨t,r,hb,born,q,w,Q⟩])->Y undef ⟨h.nx,h.bl.bx bm (.map (M'.map mz) clock'),h.lo⟩):bY False prog 28 (.map (some bm)) (iF t r) (X3 hb) h Y:=by
 unfold bY;rw[QE];simp only[g];rcases G5 h t r M 0 with⟨g1,g2⟩|⟨j,e,g1,g2,g3,g4⟩
 ·rw[g1];simp only;rw[lW];simp only[bR];rw[bI _ _ _ _ hlo];have wR:(M++[(⟨t,r,hb,clock,q,w,Q⟩:HE)]).Perm (M.filter (λx=>!uB t r x)++[⟨t,r,hb,clock,q,w,Q⟩]):=by
   rw[List.filter_eq_self.2 λx hx=>BN.2 (g2 x hx)]
  have:=hk (M++[⟨t,r,hb,clock,q,w,Q⟩]) (clock+1) clock (o.put (e:=⟨t,r,hb,clock,q,w,Q⟩) (Nat.le_succ _) wR (λx hx _=>Nat.ne_of_lt (o.lt x hx)) (Nat.lt_succ_self _)) wR;rw[List.map_append]at this;exact this
 ·rw[g1];simp only[mz,g3,g4,ai2];rw[Nat.zero_add,lY _ _ j (mz e) _ (by rw[List.getElem?_map,g2];rfl),bI _ _ _ _ hlo];subst g3 g4;have wR:(M.set j (⟨e.t,e.r,hb,e.born,q,w,Q⟩:HE)).Perm (M.filter (λx=>!uB e.t e.r x)++[⟨e.t,e.r,hb,e.born,q,w,Q⟩]):=by
   rw[<-erase_filter o.nm g2];obtain⟨hj,_⟩:=List.getElem?_eq_some_iff.1 g2;rw[List.set_eq_take_append_cons_drop,if_pos hj,List.eraseIdx_eq_take_drop_succ];exact(List.perm_middle).trans (List.perm_append_singleton _ _).symm
  have hne:∀x∈M,¬(e.t=x.t/\e.r=x.r)->x.born≠e.born:=λx hx hn sN=>by
   have:∀(L:List HE),(L.Pairwise λa b=>a.born≠b.born)->e∈L->x∈L->e=x:=by
    intro L
    induction L with
    |nil=>intro _ h;nomatch h
    |cons a L ih=>
     intro hp h1 h2;rw[List.pairwise_cons]at hp;rcases List.mem_cons.1 h1 with rfl|k1<;>rcases List.mem_cons.1 h2 with rfl|k2
     .rfl
     .exact absurd sN.symm (hp.1 _ k2)
     .exact absurd sN (hp.1 _ k1)
     .exact ih hp.2 k1 k2
   have:=this M o.bn (List.mem_of_getElem? g2) hx;subst this;exact hn ⟨rfl,rfl⟩
  have:=hk (M.set j ⟨e.t,e.r,hb,e.born,q,w,Q⟩) clock e.born (o.put (e:=⟨e.t,e.r,hb,e.born,q,w,Q⟩) (Nat.le_refl _) wR hne (o.lt e (List.mem_of_getElem? g2))) wR;rw[List.map_set]at this;exact this
theorem M0{α β:Type}(f:α->β):∀(l:List α)(j:Nat),(l.eraseIdx j).map f=(l.map f).eraseIdx j:=by
 intro l
 induction l with
 |nil=>intro j;rfl
 |cons a l ih=>
  intro j;cases j with
  |zero=>rfl
  |succ j=>simp[ih j]
theorem aas{M:List HE}{clock:Nat}{h:ah}{bm:Nat}(o:iB M clock)(g:h.bl.get bm=some (.map (M.map mz) clock))(hlo:h.lo<=bm)(t r:Int)(Y:KQ)(hk:∀h',h'=⟨h.nx,h.bl.bx bm (.map ((M.filter (λx=>!uB t r x)).map mz) clock),h.lo⟩\/(h'=h/\M.filter (λx=>!uB t r x)=M)->Y (.tuple ⟨[]⟩) h'):mT False prog 28 (.map (some bm)) (iF t r) h Y:=by
 unfold mT;rw[QE];simp only[g];rcases G5 h t r M 0 with⟨g1,g2⟩|⟨j,e,g1,g2,g3,g4⟩
 .rw[g1];exact hk h (.inr ⟨rfl,List.filter_eq_self.2 λx hx=>BN.2 (g2 x hx)⟩)
 .rw[g1];simp only;rw[Nat.zero_add,yb,bI _ _ _ _ hlo];subst g3 g4;refine hk _ (.inl ?_);rw[<-erase_filter o.nm g2,M0]
theorem iB.filter{M:List HE}{clock:Nat}(o:iB M clock)(p:HE->Bool):iB (M.filter p) clock:=⟨o.nm.filter _,o.bn.filter _,λe he=>o.lt e (List.mem_filter.1 he).1⟩
def De(M:List HE)(seen:List Nat):Nat:=M.countP λe=>!seen.any (Nat.beq e.born)
theorem M1{α:Type}{p q:α->Bool}:∀(L:List α),(∀x∈L,q x=true->p x=true)->(∃x∈L,p x=true/\q x=false)->L.countP q<L.countP p:=by
 intro L
 induction L with
 |nil=>rintro _ ⟨x,hx,_⟩;nomatch hx
 |cons a L ih=>
  intro h hx;have hle:L.countP q<=L.countP p:=List.countP_mono_left λx hx=>h x (.tail _ hx);rw[List.countP_cons,List.countP_cons];by_cases ha:p a=true/\q a=false
  .rw[ha.1,ha.2];simp;omega
  ·have ht:∃x∈L,p x=true/\q x=false:=by
    obtain⟨x,hx,h1⟩:=hx;rcases List.mem_cons.1 hx with rfl|hx
    .exact absurd h1 ha
    .exact⟨x,hx,h1⟩
   have:=ih (λx hx=>h x (.tail _ hx)) ht;have ha2:=h a (.head _);cases hq:q a with
   |false=>simp;omega
   |true=>rw[ha2 hq];simp;omega
theorem vI{M:List HE}{seen:List Nat}{e:HE}(he:e∈M)(hn:seen.any (Nat.beq e.born)=false):De M (e.born::seen)<De M seen:=by
 refine M1 M (λx _ h=>?_) ⟨e,he,by rw[hn];rfl,by simp⟩;rw[List.any_cons,Bool.not_or,Bool.and_eq_true]at h;exact h.2
theorem Jw{b m since:Nat}{seen:List Nat}{clock:Nat}{h:ah}{Y:KQ}(hlo:h.lo<=b):∀(es:List MapEntry)(e:MapEntry),(∀x∈e::es,x.born<since)->(∀x∈e::es,Y (.tuple ⟨[.bool true,x.key,x.val]⟩) ⟨h.nx,h.bl.bx b (.fc (some m) since (x.born::seen) clock),h.lo⟩)->mU False And b m since seen clock h Y e es:=by
 intro es
 induction es with
 |nil=>
  intro e hb hk;unfold mU;rw[Nat.ble_eq_true_of_le (show Nat.succ e.born<=since from hb e (.head _))];simp only;rw[bI _ _ _ _ hlo];exact hk e (.head _)
 |cons a es ih=>
  intro e hb hk;unfold mU;rw[Nat.ble_eq_true_of_le (show Nat.succ e.born<=since from hb e (.head _))];simp only;rw[bI _ _ _ _ hlo];exact⟨hk e (.head _),ih a (λx hx=>hb x (.tail _ hx)) λx hx=>hk x (.tail _ hx)⟩
theorem QF{M:List HE}{clock b bm:Nat}{seen:List Nat}{h:ah}(o:iB M clock)(hb:h.bl.get b=some (.fc (some bm) clock seen clock))(g:h.bl.get bm=some (.map (M.map mz) clock))(hlo:h.lo<=b)(Y:KQ)(nj:(∀e∈M,seen.any (Nat.beq e.born)=true)->Y (.tuple ⟨[.bool false]⟩) h)(gP:∀e∈M,seen.any (Nat.beq e.born)=false->Y (.tuple ⟨[.bool true,iF e.t e.r,X3 e.hb]⟩) ⟨h.nx,h.bl.bx b (.fc (some bm) clock (e.born::seen) clock),h.lo⟩):sG False And (X3 b) h Y:=by
 unfold sG;simp only[hb,g];have e1:(!seen.isEmpty && !(M.map mz).isEmpty && (M.map mz).all (λe=>Nat.ble clock e.born))=false:=by
  cases M with
  |nil=>simp
  |cons e M=>
   have:Nat.ble clock (mz e).born=false:=by
    have:=o.lt e (.head _);cases hc:Nat.ble clock (mz e).born with
    |false=>rfl
    |true=>have:=Nat.le_of_ble_eq_true hc;simp only[mz]at this;omega
   rw[List.map_cons,List.all_cons,this];simp
 rw[e1];simp only;rw[List.filter_map];have hmem:∀x,x∈(M.filter ((λe:MapEntry=>!seen.any (Nat.beq e.born)) ∘ mz)).map mz->∃e∈M,seen.any (Nat.beq e.born)=false/\x=mz e:=by
  intro x hx;obtain⟨e,he,rfl⟩:=List.mem_map.1 hx;rw[List.mem_filter]at he;exact⟨e,he.1,by have:=he.2;simpa[mz]using this,rfl⟩
 split
 .rename_i AI;refine nj λe he=>?_;cases hs:seen.any (Nat.beq e.born)with
  |true=>rfl
  |false=>
   have:mz e∈(M.filter ((λe:MapEntry=>!seen.any (Nat.beq e.born)) ∘ mz)).map mz:=List.mem_map.2 ⟨e,List.mem_filter.2 ⟨he,by simp only[Function.comp,mz,hs];rfl⟩,rfl⟩;rw[AI]at this
   nomatch this
 .rename_i e es heq;rw[heq]at hmem;refine Jw hlo es e (λx hx=>?_) λx hx=>?_
  .obtain⟨y,hy,_,rfl⟩:=hmem x hx;exact o.lt y hy
  .obtain⟨y,hy,h1,rfl⟩:=hmem x hx;exact gP y hy h1
theorem LO{β:Type}{fl:β}{M:List HE}{clock b bm:Nat}{seen:List Nat}{h:ah}(o:iB M clock){e:HE}(he:e∈M)(hb:h.bl.get b=some (.fc (some bm) clock (e.born::seen) clock))(g:h.bl.get bm=some (.map (M.map mz) clock))(Y:XW β):oW fl (X3 b) h Y=Y (.tuple ⟨[iF e.t e.r,X3 e.hb]⟩) h:=by
 unfold oW;simp only[hb,g];have e1:Nat.beq clock clock=true:=Nat.beq_refl _;rw[e1];simp only;have:(M.map mz).find? (λx=>Nat.beq x.born e.born)=some (mz e):=by
  have key:∀(L:List HE),(L.Pairwise λa b=>a.born≠b.born)->e∈L->(L.map mz).find? (λx=>Nat.beq x.born e.born)=some (mz e):=by
   intro L
   induction L with
   |nil=>intro _ h;nomatch h
   |cons a L ih=>
    intro hp h1;rw[List.pairwise_cons]at hp;rw[List.map_cons,List.find?_cons];rcases List.mem_cons.1 h1 with rfl|k1
    .have:Nat.beq (mz e).born e.born=true:=Nat.beq_refl _;rw[this]
    ·have:Nat.beq (mz a).born e.born=false:=by
      cases hc:Nat.beq (mz a).born e.born with
      |false=>rfl
      |true=>exact absurd (Nat.eq_of_beq_eq_true hc) (hp.1 e k1)
     rw[this];exact ih hp.2 k1
  exact key M o.bn he
 rw[this];rfl
theorem G8{β:Type}{fl:β}{bm clock:Nat}{es:List MapEntry}{h:ah}(g:h.bl.get bm=some (.map es clock))(Y:XW β):oU fl (.map (some bm)) h Y=Y (X3 h.nx) ⟨h.nx+1,h.bl.bx h.nx (.fc (some bm) clock [] clock),h.lo⟩:=by
 unfold oU;simp only[g,dJ]
structure kV(h:ah)(e:HE):Prop where
 lt:e.hb<h.nx
 get:h.bl.get e.hb=some (eV e.t e.r e.q e.w)
 qv:QV h e.q e.Q
structure QG(e:HE):Prop where
 ne:e.Q≠[]
 vq:VQ e.Q e.w
 stuck:tr e.Q
 small:e.Q.length<=128
structure bu(h:ah)(bb bm bp bl:Nat)(most:Nat)(M:List HE)(clock:Nat)(F:List Int)(B:List Bool):Prop where
 Of:bb<h.nx
 r7:bm<h.nx
 T9:h.lo<=bm
 iC:h.bl.get bb=some (ai [X1 (most:Int),X3 bp,.map (some bm)] 267 false)
 gf:h.bl.get bm=some (.map (M.map mz) clock)
 ok:iB M clock
 bf:∀e∈M,kV h e
 good:∀e∈M,QG e
 di:eP h bp bl F B
 ne:bp≠bl
theorem kV.le{h h':ah}{e:HE}(a:kV h e)(l:Le h h'):kV h' e:=⟨Nat.lt_of_lt_of_le a.lt l.nx,(l.get _ a.lt).trans a.get,a.qv.le l⟩
theorem eP.le{h h':ah}{bp bl:Nat}{F:List Int}{B:List Bool}(p:eP h bp bl F B)(l:Le h h'):eP h' bp bl F B:=by
 have ln:=l.nx;have ll:=l.lo;have pl:=p.lt;have fl:=p.fr.lt;obtain⟨fs,hg,hpt⟩:=p.fr.cell;refine⟨⟨XV,by rw[ll];exact p.fr.lo,fs,(l.get _ fl).trans hg,?_⟩,XV,by rw[ll];exact p.lo,(l.get _ pl).trans p.cell,p.ok,p.small⟩;rcases hpt with e|⟨b,G,e,k1,k2,k3,k4⟩
 .exact .inl e
 .exact .inr ⟨b,G,e,XV,XV,(l.get _ k1).trans k3,k4⟩
theorem bu.le{h h':ah}{bb bm bp bl most:Nat}{M:List HE}{clock:Nat}{F:List Int}{B:List Bool}(s:bu h bb bm bp bl most M clock F B)(l:Le h h'):bu h' bb bm bp bl most M clock F B:=
 ⟨Nat.lt_of_lt_of_le s.Of l.nx,Nat.lt_of_lt_of_le s.r7 l.nx,by rw[l.lo];exact s.T9,(l.get _ s.Of).trans s.iC,(l.get _ s.r7).trans s.gf,s.ok,λe he=>(s.bf e he).le l,s.good,s.di.le l,s.ne⟩
theorem ai3(h:ah)(b o:Nat):nH prog h 100 205 (.pointer (some ⟨b,o,none⟩)) (.pointer none)=some false:=by kernel_rfl
theorem gT{β:Type}{fl:β}(cn:Bool)(b o:Nat)(h:ah)(Y:XW β):aG fl prog .eql 205 cn false (.pointer (some ⟨b,o,none⟩)) (.pointer none) h Y=Y (.bool false) h:=by simp only[aG,ai3,cF]
theorem ai4(h:ah)(b o:Nat):nH prog h 100 264 (.pointer (some ⟨b,o,none⟩)) (.pointer none)=some false:=by kernel_rfl
theorem ri{β:Type}{fl:β}(cn:Bool)(b o:Nat)(h:ah)(Y:XW β):aG fl prog .eql 264 cn false (.pointer (some ⟨b,o,none⟩)) (.pointer none) h Y=Y (.bool false) h:=by simp only[aG,ai4,cF]
theorem ai5(h:ah):nH prog h 100 264 (.pointer none) (.pointer none)=some true:=by kernel_rfl
theorem oJ{β:Type}{fl:β}(cn:Bool)(h:ah)(Y:XW β):aG fl prog .eql 264 cn false (.pointer none) (.pointer none) h Y=Y (.bool true) h:=by simp only[aG,ai5,cF]
theorem Jx(bb:Nat)(h:ah)(Y:KQ)(hk:Y (X1 5) h):aj prog 344 [X3 bb] h Y:=by
 apply X2;rw[Zo];simp(disch:=try exact QQ)only[Wz,gT];exact hk
theorem T_{h:ah}{bb bm bp bl most:Nat}{M:List HE}{clock:Nat}{F:List Int}{B:List Bool}(s:bu h bb bm bp bl most M clock F B)(Y:KQ)(hk:Y (X1 (M.length:Int)) h):aj prog 120 [X3 bb] h Y:=by
 apply X2;rw[Yi];have g:=s.iC;have gm:=s.gf;simp(disch:=try exact QQ)only[Wz,gT,aL,g,lR,gm,bR,List.length_map];exact hk
theorem iB.Wu{M:List HE}{clock:Nat}(o:iB M clock){e e':HE}(h:e∈M)(h':e'∈M)(hb:e.born=e'.born):e=e':=by
 have:∀(L:List HE),(L.Pairwise λa b=>a.born≠b.born)->e∈L->e'∈L->e=e':=by
  intro L
  induction L with
  |nil=>intro _ h;nomatch h
  |cons a L ih=>
   intro hp h1 h2;rw[List.pairwise_cons]at hp;rcases List.mem_cons.1 h1 with rfl|k1<;>rcases List.mem_cons.1 h2 with rfl|k2
   .rfl
   .exact absurd hb (hp.1 _ k2)
   .exact absurd hb.symm (hp.1 _ k1)
   .exact ih hp.2 k1 k2
 exact this M o.bn h h'
theorem QH{h:ah}{bb bm bp bl most:Nat}{M:List HE}{clock:Nat}{F:List Int}{B:List Bool}(s:bu h bb bm bp bl most M clock F B)(hlo:h.lo<=h.nx)(id:Int)(Y:KQ)(nj:∀h',(∀e∈M,bU e.Q id=none)->Le h h'->Y (.pointer none) h')(gP:∀h' e p,e∈M->bU e.Q id=some p->Le h h'->Y (X3 e.hb) h'):aj prog 343 [X3 bb,X1 id] h Y:=by
 apply X2;rw[Qn];have g:=s.iC;have gm:=s.gf;simp(disch:=try exact QQ)only[Wz,gT,Gc,aL,g,G8 gm];obtain⟨hA,eA⟩:∃hA:ah,hA=⟨h.nx+1,h.bl.bx h.nx (.fc (some bm) clock [] clock),h.lo⟩:=⟨_,rfl⟩
 rw[<-eA];have Ww:Le h hA:=by rw[eA];exact(Le.refl h).new _
 have nA:hA.nx=h.nx+1:=by rw[eA]
 have lA:hA.lo=h.lo:=by rw[eA]
 have gA:hA.bl.get h.nx=some (.fc (some bm) clock [] clock):=by rw[eA];exact T.an _ _ _
 refine⟨λm l h1=>∃seen,m=De M seen/\h.nx<h1.nx/\Le h h1/\h1.bl.get h.nx=some (.fc (some bm) clock seen clock)/\∀e∈M,seen.any (Nat.beq e.born)=true->bU e.Q id=none,⟨_,[],rfl,XV,Ww,gA,λe _ he=>by simp at he⟩,?_⟩;rintro m l h1 ⟨seen,rfl,n1,bF,g1,hs⟩;have gm1:=(bF.get _ s.r7).trans gm;have l1:=bF.lo;have n1':=bF.nx;refine QF s.ok g1 gm1 XV _ ?_ ?_
 .intro hall;simp(disch:=try exact QQ)only[Wz];exact nj h1 (λe he=>hs e he (hall e he)) bF
 .intro e he Ip;have H:=s.bf e he;have hlt:=H.lt;have bK:Le h ⟨h1.nx,h1.bl.bx h.nx (.fc (some bm) clock (e.born::seen) clock),h1.lo⟩:=bF.set XV _;obtain⟨h2,e2⟩:∃h2:ah,h2=⟨h1.nx,h1.bl.bx h.nx (.fc (some bm) clock (e.born::seen) clock),h1.lo⟩:=⟨_,rfl⟩
  rw[<-e2]at bK ⊢;have n2:h2.nx=h1.nx:=by rw[e2]
  have g2:h2.bl.get h.nx=some (.fc (some bm) clock (e.born::seen) clock):=by rw[e2];exact T.an _ _ _
  have gm2:=(bK.get _ s.r7).trans gm;have l2:=bK.lo;obtain⟨qx,qc,eq,_⟩:=(show Sl bA h e.q e.Q from H.qv.1)
  have gh:=(bK.get _ hlt).trans H.get;rw[eq]at gh;simp(disch:=try exact QQ)only[Wz,Gb,LO s.ok he g2 gm2,aL,gh];refine uy e.t e.r _ e.w id e.Q h2 _ (by rw[<-eq];exact H.qv.1.le bK) (by have:=(s.good e he).small;omega) XV ?_;intro h3 d_;have n3:=d_.nx;have l3:=d_.lo;have g3:=(d_.get h.nx XV).trans g2;have aes:=bK.trans d_;cases hf:bU e.Q id with
  |none=>
   simp(disch:=try exact QQ)only[Wz,bA];refine⟨_,?_,e.born::seen,rfl,?_,aes.new _,?_,?_⟩
   .exact vI he Ip
   .show h.nx<h3.nx+1;omega
   .exact g3
   .intro x hx hxs;rw[List.any_cons,Bool.or_eq_true]at hxs;rcases hxs with hb|hb
    .rw[s.ok.Wu hx he (Nat.eq_of_beq_eq_true hb)];exact hf
    .exact hs x hx hb
  |some p=>
   simp(disch:=try exact QQ)only[Wz,bA];exact gP _ e p he hf (aes.new _)
structure qj(bm bp bl:Nat)(h h':ah):Prop where
 nx:h.nx<=h'.nx
 lo:h'.lo=h.lo
 get:∀c,c<h.nx->c≠bm->c≠bp->c≠bl->(∀vs,h.bl.get c≠some (ai vs 3 true))->h'.bl.get c=h.bl.get c
 g2:bp<h.nx->∀c,c<h.nx->c≠bm->c≠bp->c≠bl->¬FB h bp c->h'.bl.get c=h.bl.get c
 mv:bp<h.nx->∀c,c<h.nx->FB h' bp c->FB h bp c
theorem qj.trans{bm bp bl:Nat}{h h' h'':ah}(a:qj bm bp bl h h')(b:qj bm bp bl h' h''):qj bm bp bl h h'':=
 ⟨Nat.le_trans a.nx b.nx,b.lo.trans a.lo,λc hc hm hn hl hi=>(b.get c (Nat.lt_of_lt_of_le hc a.nx) hm hn hl (λvs=>by rw[a.get c hc hm hn hl hi];exact hi vs)).trans (a.get c hc hm hn hl hi),
  λhb c hc hm hn hl hi=>(b.g2 (Nat.lt_of_lt_of_le hb a.nx) c (Nat.lt_of_lt_of_le hc a.nx) hm hn hl λx=>hi (a.mv hb c hc x)).trans (a.g2 hb c hc hm hn hl hi),
  λhb c hc x=>a.mv hb c hc (b.mv (Nat.lt_of_lt_of_le hb a.nx) c (Nat.lt_of_lt_of_le hc a.nx) x)⟩
theorem qj.of_le{bm bp bl:Nat}{h h':ah}(l:Le h h'):qj bm bp bl h h':=⟨l.nx,l.lo,λc hc _ _ _ _=>l.get c hc,λ_ c hc _ _ _ _=>l.get c hc,λhb c _ x=>(FB.congr (l.get bp hb)).1 x⟩
theorem qj.aat{bm bp bl:Nat}{h h':ah}(f:LM bp bl h h'):qj bm bp bl h h':=⟨f.nx,f.lo,λc hc _ hn hl hi=>f.get c hc hn hl hi,λhb c hc _ hn hl hi=>f.g2 hb c hc hn hl hi,f.mv⟩
theorem qj.of_map{bm bp bl:Nat}(h:ah){es:List MapEntry}{cl:Nat}:qj bm bp bl h ⟨h.nx,h.bl.bx bm (.map es cl),h.lo⟩:=by
 refine⟨Nat.le_refl _,rfl,λc _ hm _ _ _=>T.au _ _ (λe=>hm e.symm),λ_ c _ hm _ _ _=>T.au _ _ (λe=>hm e.symm),λ_ c _ hx=>?_⟩;by_cases e:bm=bp
 .subst e;obtain⟨n,cap,ls,hx⟩:=hx;exact absurd ((T.an _ _ _).symm.trans hx) bL
 .exact(FB.congr (T.au _ _ e)).1 hx
theorem bu.put{h:ah}{bb bm bp bl most:Nat}{M M':List HE}{clock clock':Nat}{F:List Int}{B:List Bool}(s:bu h bb bm bp bl most M clock F B)(o:iB M' clock')(hh:∀e∈M',kV h e)(hg:∀e∈M',QG e):bu ⟨h.nx,h.bl.bx bm (.map (M'.map mz) clock'),h.lo⟩ bb bm bp bl most M' clock' F B:=by
 have gm:=s.gf;have ne:∀c,(h.bl.get c≠some (.map (M.map mz) clock))->(h.bl.bx bm (.map (M'.map mz) clock')).get c=h.bl.get c:=λc hc=>T.au _ _ (by rintro rfl;exact hc gm);have nc:∀{vs ty op},(some (ai vs ty op):Option bT)≠some (.map (M.map mz) clock):=λh=>bL h.symm;obtain⟨fs,zz,hpt⟩:=s.di.fr.cell;have k1:(h.bl.bx bm (.map (M'.map mz) clock')).get bb=h.bl.get bb:=ne bb (by rw[s.iC];exact nc);have k2:(h.bl.bx bm (.map (M'.map mz) clock')).get bp=h.bl.get bp:=ne bp (by rw[zz];exact nc);have k3:(h.bl.bx bm (.map (M'.map mz) clock')).get bl=h.bl.get bl:=ne bl (by rw[s.di.cell];exact nc);refine⟨s.Of,s.r7,s.T9,k1.trans s.iC,T.an _ _ _,o,λe he=>?_,hg,⟨⟨s.di.fr.lt,s.di.fr.lo,fs,k2.trans zz,?_⟩,s.di.lt,s.di.lo,k3.trans s.di.cell,s.di.ok,s.di.small⟩,s.ne⟩
 .have a:=hh e he;exact⟨a.lt,(ne _ (by rw[a.get];exact nc)).trans a.get,a.qv.put (λvs op=>by rw[gm];exact bL) _⟩
 .rcases hpt with e|⟨b,G,e,h1,h2,h3,h4⟩
  .exact .inl e
  .exact .inr ⟨b,G,e,h1,h2,(ne b (by rw[h3];exact nc)).trans h3,h4⟩
theorem QI{Q:List R5}{W:Int}(v:VQ Q W)(n:Nat):(dx n Q).1.length=Q.length:=by
 have:=congrArg List.length (xC n v).2.1;simpa using this
structure iD(M M':List HE)(t r w:Int)(Q:List R5):Prop where
 gone:Q=[]->M'=M.filter λx=>!uB t r x
 put:Q≠[]->∃e,e.t=t/\e.r=r/\e.w=w/\e.Q=Q/\M'.Perm (M.filter (λx=>!uB t r x)++[e])
theorem oK{h:ah}{bb bm bp bl most:Nat}{M:List HE}{clock:Nat}{F:List Int}{B:List Bool}(s:bu h bb bm bp bl most M clock F B)(hlo:h.lo<=h.nx)(t r:Int)(q:Value)(w:Int)(Q:List R5)(Y:KQ)(hq:Sl bA h q Q)(vq:VQ Q w)(hlen:Q.length<=128)(hk:∀M' clock' v' h',bu h' bb bm bp bl most M' clock' F B->iD M M' t r w (dx (fO Q+1) Q).1->vD h h' v' (dx (fO Q+1) Q).2->qj bm bp bl h h'->Y v' h'):aj prog 347 [X3 bb,jd t r q w] h Y:=by
 obtain⟨qx,qc,rfl,_⟩:=(show Sl bA h q Q from hq)
 apply X2;rw[Zs];simp(disch:=try exact XY)only[Wz,jd];obtain⟨hA,bH,aY,g1,ia,ic⟩:=oR h (eV t r (.slice qx Q.length qc) w);rw[<-bH];clear bH;refine aah t r _ w Q hA _ (hq.le aY) XV XV vq ?_;intro q2 v2 h2 rQ uS bK;obtain⟨vq2,hkey,hst,hgr⟩:=xC (fO Q+1) vq;have AT:=QI vq (fO Q+1);generalize hQ2:(dx (fO Q+1) Q).1=Q2 at *
 generalize hI2:(dx (fO Q+1) Q).2=I2 at *
 obtain⟨qo,qp,rfl,_⟩:=(show Sl bA h2 q2 Q2 from rQ.1)
 have n2:=bK.nx;have l2:=bK.lo;have g1:=(bK.get _ XV).trans g1;have ai7:=hst (Nat.lt_succ_self _);simp(disch:=try exact XY)only[Wz,jd,g1];obtain⟨h3,e3⟩:∃h3:ah,h3=⟨h2.nx,h2.bl.bx h.nx (eV t r (.slice qo Q2.length qp) w),h2.lo⟩:=⟨_,rfl⟩
 have d_:Le h h3:=by rw[e3];exact(aY.trans bK).set XV _
 have g3:h3.bl.get h.nx=some (eV t r (.slice qo Q2.length qp) w):=by rw[e3];exact T.an _ _ _
 have n3:h3.nx=h2.nx:=by rw[e3]
 have l3:h3.lo=h2.lo:=by rw[e3]
 have hq3:QV h3 (.slice qo Q2.length qp) Q2:=by rw[e3];exact rQ.put (λvs op=>by rw[g1];exact bz X0) _
 have rR:vD h h3 v2 I2:=by
  rw[e3];exact eG.put (eG.base uS XV) (by rw[g1];exact br) _
 rw[<-e3];clear e3;have s3:=s.le d_;have gb:=s3.iC;have gm:=s3.gf;refine⟨λl h'=>Y v2 h',?_,λl h' hk'=>hk'⟩;by_cases h0:Q2=[]
 .subst h0;simp(disch:=try exact XY)only[Wz,za,g3,Gh,aL,gb];refine aas s3.ok gm (by have:=s3.T9;omega) t r _ ?_;intro h4 hc;have jR:iD M (M.filter λx=>!uB t r x) t r w []:=⟨λ_=>rfl,λhn=>absurd rfl hn⟩
  rcases hc with rfl|⟨rfl,hM⟩
  .exact hk _ clock v2 _ (s3.put (s3.ok.filter _) (λe he=>s3.bf e (List.mem_filter.1 he).1) λe he=>s3.good e (List.mem_filter.1 he).1) jR (eG.put rR (by rw[gm];exact bL) _) ((qj.of_le d_).trans (qj.of_map _))
  .rw[hM]at jR;exact hk _ clock v2 _ s3 jR rR (qj.of_le d_)
 ·have hpos:0<Q2.length:=List.length_pos_iff.2 h0;simp(disch:=try exact XY)only[Wz,za,g3,a_ (show ¬(Q2.length:Int)=0 by omega),Gi,aL,gb];refine aar s3.ok gm (by have:=s3.T9;omega) t r h.nx (.slice qo Q2.length qp) w Q2 _ ?_;intro M' clock' born o' hp;have hsub:∀x∈M',x∈M\/x=⟨t,r,h.nx,born,.slice qo Q2.length qp,w,Q2⟩:=λx hx=>by
   rcases List.mem_append.1 (hp.mem_iff.1 hx)with hx|hx
   .exact .inl (List.mem_filter.1 hx).1
   .exact .inr (List.mem_singleton.1 hx)
  refine hk M' clock' v2 _ (s3.put o' (λe he=>?_) λe he=>?_) ⟨λhn=>absurd hn h0,λ_=>⟨_,rfl,rfl,rfl,rfl,hp⟩⟩ (eG.put rR (by rw[gm];exact bL) _) ((qj.of_le d_).trans (qj.of_map _))
  .rcases hsub e he with h1|rfl
   .exact s3.bf e h1
   .exact⟨by show h.nx<h3.nx;omega,g3,hq3⟩
  .rcases hsub e he with h1|rfl
   .exact s3.good e h1
   .exact⟨h0,vq2,ai7,by show Q2.length<=128;omega⟩
theorem Ua(x:Int)(r:R5)(b:Nat)(h:ah)(Y:KQ)(hlo:h.lo<=h.nx)(hb:b<h.nx)(hg:h.bl.get b=some (ai [X1 x] 3 false))(hk:∀h',Le h h'->Y (.bool (decide (r.x=x))) h'):aj prog 394 [j0 r,av b] h Y:=by
 have hk:=hk _ ((Le.refl h).new (jM r));apply X2;rw[ZI];simp(disch:=try exact QQ)only[Wz,bA,hg];exact hk
theorem G9{h:ah}{bb bm bp bl most:Nat}{M:List HE}{clock:Nat}{F:List Int}{B:List Bool}(s:bu h bb bm bp bl most M clock F B)(hlo:h.lo<=h.nx)(t r x:Int)(Y:KQ)(nj:∀h',(∀e∈M,t=e.t->r=e.r->∀p∈e.Q,p.x≠x)->Le h h'->Y (.tuple ⟨[X1 0,.bool false]⟩) h')(gP:∀h' e p,e∈M->t=e.t->r=e.r->p∈e.Q->p.x=x->Le h h'->Y (.tuple ⟨[X1 p.id,.bool true]⟩) h'):aj prog 350 [X3 bb,iF t r,X1 x] h Y:=by
 apply X2;rw[Zu];simp(disch:=try exact QQ)only[Wz,iF];obtain⟨hA,bH,aY,g1,g3,ia,ic⟩:=DK h (ai [X1 t,X1 r] 28 false) (ai [X1 x] 3 false);rw[<-bH];clear bH;have sA:=s.le aY;have gb:=sA.iC;have gm:=sA.gf;by_cases hc:∃e∈M,t=e.t/\r=e.r
 case neg=>
  have hn:∀e∈M,¬(t=e.t/\r=e.r):=λe he h=>hc ⟨e,he,h⟩;have eL:=BO (β:=Option Value) (fl:=none) gm t r hn;unfold iF at eL;simp(disch:=try exact QQ)only[Wz,gT,zb,aL,gb,g1,eL];exact nj _ (λe he h1 h2=>absurd ⟨h1,h2⟩ (hn e he)) aY
 obtain⟨e,he,rfl,rfl⟩:=hc;have eL:=G7 (β:=Option Value) (fl:=none) sA.ok gm he;unfold iF at eL;have H:=sA.bf e he;have hlt:=H.lt;have gd:=sA.good e he;have Is:=gd.small;obtain⟨qx,qc,eq,_⟩:=(show Sl bA hA e.q e.Q from H.qv.1)
 have gh:=H.get;rw[eq]at gh;simp(disch:=try exact QQ)only[Wz,gT,zb,aL,gb,g1,eL,Gk,gh];rw[<-eq];refine zm e.Q (λp=>decide (p.x=x)) hA _ _ _ H.qv.1 XV ?_ ?_
 .intro p _ h1 κ1 l1 gP;simp(disch:=try exact QQ)only[Wz,List.nil_append,List.cons_append];refine Ua x p (h.nx+1) h1 κ1 (by have:=l1.lo;have:=l1.nx;omega) (by have:=l1.nx;omega) ((l1.get _ XV).trans g3) gP
 intro h2 bK;have gh2:=(bK.get _ hlt).trans gh;have qk:=aY.trans bK;rcases jZ e.Q (λp=>decide (p.x=x))with⟨ei,hf⟩|⟨i,p,ei,hp,h1,h2⟩
 .rw[ei];simp(disch:=try exact QQ)only[Wz,gQ];exact nj h2 (λe' he' h1 h2 p hp=>by rw[sA.ok.uniq he' he h1.symm h2.symm]at hp;have:=hf p hp;simpa using this) qk
 .rw[ei];obtain⟨b,o,hb,LP,_,hid,_⟩:=Jn (H.qv.1.le bK) i hp;rw[eq]at LP;simp(disch:=try exact QQ)only[Wz,gQ,b_ (show(0:Int)<=(i:Int)by omega),Gj,aL,gh2,LP,hid];exact gP _ e p he rfl rfl (List.mem_of_getElem? hp) (by simpa using h1) qk
def ig(M:List HE):List Int:=M.flatMap λe=>e.Q.map (·.id)
def lg(B:List Bool):List Int:=((List.range B.length).filter λn=>(B[n]?).getD false).map λn:Nat=>(n:Int)
theorem kN{B:List Bool}{x:Int}:x∈lg B<->∃n:Nat,x=(n:Int)/\B[n]? = some true:=by
 unfold lg;rw[List.mem_map];constructor
 .rintro⟨n,hn,rfl⟩;rw[List.mem_filter,List.mem_range]at hn;refine⟨n,rfl,?_⟩;have h2:=hn.2;rw[List.getElem?_eq_getElem hn.1]at h2 ⊢;simpa using h2
 .rintro⟨n,rfl,h⟩;refine⟨n,List.mem_filter.2 ⟨List.mem_range.2 (List.getElem?_eq_some_iff.1 h).1,by rw[h];rfl⟩,rfl⟩
theorem zA{L:List Nat}(h:L.Nodup):(L.map λn:Nat=>(n:Int)).Nodup:=by
 rw[List.Nodup,List.pairwise_map];exact h.imp λhne e=>hne (Int.ofNat.inj e)
theorem tB(B:List Bool):(lg B).Nodup:=zA (List.nodup_range.filter _)
theorem zB{L:List Int}{x:Int}(h:L.Nodup)(hx:x∉L):(L++[x]).Nodup:=by
 rw[List.nodup_append];refine⟨h,by simp,λa ha b hb=>?_⟩;rw[List.mem_singleton]at hb;subst hb;rintro rfl;exact hx ha
theorem BP{B:List Bool}{n:Nat}(h:B[n]? = some false):(lg (B.set n true)).Perm (lg B++[(n:Int)]):=by
 have hn:n<B.length:=(List.getElem?_eq_some_iff.1 h).1;refine(List.perm_ext_iff_of_nodup (tB _) (zB (tB _) λhm=>?_)).2 λx=>?_
 .obtain⟨k,e,hk⟩:=kN.1 hm;have:k=n:=(Int.ofNat.inj e).symm;subst this;rw[h]at hk;cases hk
 .rw[List.mem_append,List.mem_singleton,kN,kN];constructor
  .rintro⟨k,rfl,hk⟩;by_cases hkn:k=n
   .exact .inr (by rw[hkn])
   .rw[List.getElem?_set,if_neg (λe=>hkn e.symm)]at hk;exact .inl ⟨k,rfl,hk⟩
  .rintro(⟨k,rfl,hk⟩|rfl)
   .refine⟨k,rfl,?_⟩;rw[List.getElem?_set];split
    .rename_i e;exact absurd (by rw[<-e,h]at hk;exact hk:some false=some true) (by simp)
    .exact hk
   .exact⟨n,rfl,by rw[List.getElem?_set,if_pos rfl,if_pos hn]⟩
theorem M3{B:List Bool}{n:Nat}(h:B[n]? = some true):(lg B).Perm (lg (B.set n false)++[(n:Int)]):=by
 have hn:n<B.length:=(List.getElem?_eq_some_iff.1 h).1;have:=BP (B:=B.set n false) (n:=n) (by rw[List.getElem?_set,if_pos rfl,if_pos hn]);rw[List.set_set]at this;have e:B.set n true=B:=by
  refine List.ext_getElem? λk=>?_;rw[List.getElem?_set];split
  .rename_i e;rw[<-e,h]
  .rfl
 rwa [e]at this
theorem oL{F:List Int}{B:List Bool}(o:kU F B):(lg B).length+F.length=B.length:=by
 have hp:F.Perm (((List.range B.length).filter λn=>!(B[n]?).getD false).map λn:Nat=>(n:Int)):=by
  refine(List.perm_ext_iff_of_nodup o.nodup (zA (List.nodup_range.filter _))).2 λx=>?_;rw[List.mem_map];constructor
  .intro hx;obtain⟨n,rfl⟩:∃n:Nat,x=(n:Int):=⟨x.toNat,by have:=o.pos x hx;omega⟩
   have hb:=(o.mem n).1 hx;exact⟨n,List.mem_filter.2 ⟨List.mem_range.2 (List.getElem?_eq_some_iff.1 hb).1,by rw[hb];rfl⟩,rfl⟩
  .rintro⟨n,hn,rfl⟩;rw[List.mem_filter,List.mem_range]at hn;refine(o.mem n).2 ?_;have h2:=hn.2;rw[List.getElem?_eq_getElem hn.1]at h2 ⊢;simpa using h2
 rw[hp.length_eq];unfold lg;rw[List.length_map,List.length_map,<-List.countP_eq_length_filter,<-List.countP_eq_length_filter];have:=List.length_eq_countP_add_countP (λn=>(B[n]?).getD false) (l:=List.range B.length);rw[List.length_range]at this;have e2:List.countP (λn=>!(B[n]?).getD false) (List.range B.length)=List.countP (λa=>decide ¬(B[a]?).getD false=true) (List.range B.length):=List.countP_congr λx _=>by simp
 omega
theorem nr(M N:List HE):ig (M++N)=ig M++ig N:=List.flatMap_append
theorem r8{M N:List HE}(h:M.Perm N):(ig M).Perm (ig N):=h.flatMap_right _
theorem uC(e:HE):ig [e]=e.Q.map (·.id):=by simp[ig]
theorem r9{M:List HE}{clock:Nat}(o:iB M clock){e:HE}(he:e∈M):M.Perm (M.filter (λx=>!uB e.t e.r x)++[e]):=by
 obtain⟨j,hj,rfl⟩:=List.mem_iff_getElem.1 he;rw[<-erase_filter o.nm (List.getElem?_eq_getElem hj)];have:M=M.set j M[j]:=by simp
 refine(List.Perm.of_eq this).trans ?_;rw[List.set_eq_take_append_cons_drop,if_pos hj,List.eraseIdx_eq_take_drop_succ];exact(List.perm_middle).trans (List.perm_append_singleton _ _).symm
theorem BQ{M:List HE}{t r:Int}(hn:∀e∈M,¬(t=e.t/\r=e.r)):M.filter (λx=>!uB t r x)=M:=List.filter_eq_self.2 λx hx=>BN.2 (hn x hx)
theorem iD.ids{M M':List HE}{t r w:Int}{Q:List R5}(s:iD M M' t r w Q):(ig M').Perm (ig (M.filter λx=>!uB t r x)++Q.map (·.id)):=by
 by_cases h0:Q=[]
 .rw[s.gone h0,h0];simp
 .obtain⟨e,_,_,_,eq,hp⟩:=s.put h0;have:=r8 hp;rw[nr,uC,eq]at this;exact this
theorem zC{Q:List R5}{W:Int}(v:VQ Q W)(n:Nat):(dx n Q).1.map (·.id)=Q.map (·.id):=by
 have:=congrArg (List.map Prod.fst) (xC n v).2.1;simpa[List.map_map,Function.comp_def,Jg]using this
def rj(M:List HE)(B:List Bool):Prop:=∃X,(ig M++X).Perm (lg B)
theorem rj.find{M:List HE}{B:List Bool}(i:rj M B){e:HE}(he:e∈M){p:R5}(hp:p∈e.Q):∃n:Nat,p.id=(n:Int)/\B[n]? = some true:=by
 obtain⟨X,hX⟩:=i;exact kN.1 (hX.mem_iff.1 (List.mem_append.2 (.inl (List.mem_flatMap.2 ⟨e,he,List.mem_map.2 ⟨p,hp,rfl⟩⟩))))
theorem QV.frame{h h':ah}{q:Value}{Q:List R5}(v:QV h q Q)(hn:h.nx<=h'.nx)(hg:∀c vs op,c<h.nx->h.bl.get c=some (ai vs 57 op)->h'.bl.get c=h.bl.get c):QV h' q Q:=by
 obtain⟨hs,ht⟩:=v;constructor
 .obtain⟨x,cap,rfl,h2⟩:=hs;refine⟨x,cap,rfl,λhne=>?_⟩;obtain⟨b,o,rfl,h3,h4⟩:=h2 hne;obtain⟨h1,vs,op,h5⟩:=ht b o _ cap rfl (by intro h0;exact hne (List.eq_nil_of_length_eq_zero h0));refine⟨b,o,rfl,Nat.lt_of_lt_of_le h3 hn,?_⟩;rw[hg b vs op h1 h5];exact h4
 .intro b o n c hv hn0;obtain⟨h1,vs,op,h2⟩:=ht b o n c hv hn0;exact⟨Nat.lt_of_lt_of_le h1 hn,vs,op,(hg b vs op h1 h2).trans h2⟩
theorem kV.rm{h h':ah}{bp bl:Nat}{F:List Int}{B:List Bool}{e:HE}(a:kV h e)(p:eP h bp bl F B)(f:LM bp bl h h'):kV h' e:=by
 have fn:=f.nx;obtain⟨fs,zz,hpt⟩:=p.fr.cell;have gl:=p.cell;have key:∀c vs ty,c<h.nx->h.bl.get c=some (ai vs ty false)->ty≠286->ty≠4->h'.bl.get c=h.bl.get c:=λc vs ty hc hg h1 h2=>
  f.get c hc (by rintro rfl;rw[hg]at zz;exact bz h1 zz) (by rintro rfl;rw[hg]at gl;exact bz h2 gl) λws=>by rw[hg];exact br
 have al:=a.lt;refine⟨XV,(key _ _ _ al a.get X0 X0).trans a.get,a.qv.frame fn λc vs op hc hg=>?_⟩;exact f.get c hc (by rintro rfl;rw[hg]at zz;exact bz X0 zz) (by rintro rfl;rw[hg]at gl;exact bz X0 gl) λws=>by rw[hg];exact bz X0
theorem bu.rm{h h':ah}{bb bm bp bl most:Nat}{M:List HE}{clock:Nat}{F F':List Int}{B B':List Bool}(s:bu h bb bm bp bl most M clock F B)(p:eP h' bp bl F' B')(f:LM bp bl h h'):bu h' bb bm bp bl most M clock F' B':=by
 have fn:=f.nx;have fl:=f.lo;have sb:=s.Of;have sm:=s.r7;obtain⟨fs,zz,hpt⟩:=s.di.fr.cell;have gl:=s.di.cell;have key:∀c vs ty,c<h.nx->h.bl.get c=some (ai vs ty false)->ty≠286->ty≠4->h'.bl.get c=h.bl.get c:=λc vs ty hc hg h1 h2=>
  f.get c hc (by rintro rfl;rw[hg]at zz;exact bz h1 zz) (by rintro rfl;rw[hg]at gl;exact bz h2 gl) λws=>by rw[hg];exact br
 have gm:=s.gf;have km:h'.bl.get bm=h.bl.get bm:=f.get bm sm (by rintro rfl;rw[zz]at gm;exact bL gm.symm) (by rintro rfl;rw[gl]at gm;exact bL gm.symm) λws=>by rw[gm];exact bL
 refine⟨XV,XV,by rw[fl];exact s.T9,(key bb _ _ sb s.iC X0 X0).trans s.iC,km.trans gm,s.ok,λe he=>?_,s.good,p,s.ne⟩;exact(s.bf e he).rm s.di f
theorem Ub(Q:List R5)(W id x m:Int):(kS Q W id x m).1.id=id:=by unfold kS;split<;>rfl
structure lp(h h':ah)(bb bm bp bl most:Nat)(M M':List HE)(clock':Nat)(F F':List Int)(B:List Bool)(t r x m:Int)(n:Nat)(g:Bool):Prop where
 is:bu h' bb bm bp bl most M' clock' F' (B.set n true)
 free:((n:Int)::F').Perm F
 old:B[n]? = some false
 least:∀k,k<n->B[k]? = some true
 fr:qj bm bp bl h h'
 set:∃Q w,((∃e∈M,e.t=t/\e.r=r/\e.Q=Q/\e.w=w)\/((∀e∈M,¬(t=e.t/\r=e.r))/\M.length<most/\Q=[]/\w=0))/\VQ Q w/\VQ (Q++[(kS Q w n x m).1]) (kS Q w n x m).2.1/\g=(kS Q w n x m).2.2/\
  iD M M' t r (kS Q w n x m).2.1 (dx (fO (Q++[(kS Q w n x m).1])+1) (Q++[(kS Q w n x m).1])).1
theorem BR{h h0:ah}{bb bm bp bl most:Nat}{M:List HE}{clock:Nat}{F:List Int}{B:List Bool}(s:bu h bb bm bp bl most M clock F B)(hlo:h.lo<=h.nx)(l0:Le h0 h)(ids:rj M B)(hF:F.length<=1000)(N:Nat)(hN:N<=100000)(hw:∀e∈M,e.w<=N)(t r x m:Int)(am:cL m=true)(l:List Value)(ph:Nat)(Q:List R5)(q:Value)(w:Int)(hl:aa l 18=X3 ph)(hp:ph<h.nx)(gp:h.bl.get ph=some (eV t r q w))(hq:QV h q Q)(vq:VQ Q w)(Is:F≠[]->Q.length<=127)(hwN:w<=N)(hx:∀p∈Q,p.x≠x)(A3:∀p∈Q,∃k:Nat,p.id=(k:Int)/\B[k]? = some true)(hold:((∃e∈M,e.t=t/\e.r=r/\e.Q=Q/\e.w=w)\/((∀e∈M,¬(t=e.t/\r=e.r))/\M.length<most/\Q=[]/\w=0)))(Y:KQ)(hkF:∀h',F=[]->Le h0 h'->Y (.tuple ⟨[X1 0,.bool false,X1 8]⟩) h')(QJ:∀M' clock' F' h' n g,lp h0 h' bb bm bp bl most M M' clock' F F' B t r x m n g->Y (.tuple ⟨[X1 (n:Int),.bool g,X1 0]⟩) h'):zd (X3 bb) l (X1 x) (X1 m) h Y:=by
 have gb:=s.iC;simp(disch:=try exact QQ)only[Wz,zd,aL,gb];refine aap bp bl F B h _ s.di hF hlo s.ne ?_ ?_
 .intro h0';simp(disch:=try exact QQ)only[Wz];exact hkF h h0' l0
 intro h2 F' n p2 hp2 hb aaq oI;have s2:=s.rm p2 oI;have n2:=oI.nx;have l2:=oI.lo;have hF0:F≠[]:=by rintro rfl;have:=hp2.length_eq;simp at this
 have Is:=Is hF0;have H2:=kV.rm (e:=⟨t,r,ph,0,q,w,Q⟩) ⟨hp,gp,hq⟩ s.di oI;have g2:h2.bl.get ph=some (eV t r q w):=H2.get;have rQ:QV h2 q Q:=H2.qv;obtain⟨qx,qc,rfl,_⟩:=(show Sl bA h2 q Q from rQ.1)
 simp(disch:=try exact QQ)only[Wz,Gl,hl,aL,g2];have hn:∀p∈Q,p.id≠(n:Int)/\p.x≠x:=λp hp'=>⟨λe=>by
  obtain⟨k,e1,e2⟩:=A3 p hp';have:k=n:=by omega
  rw[this,hb]at e2;exact absurd e2 (by simp),hx p hp'⟩
 refine aed t r _ w (n:Int) x m Q h2 _ rQ.1 XV XV ⟨vq.w0,XV⟩ XV am hn ?_;intro q3 h3 rR d_;have n3:=d_.nx;have l3:=d_.lo;have v3:=vq.ask (id:=(n:Int)) (x:=x) (m:=m) XV am hn;obtain⟨GV,GX,rfl,_⟩:=(show Sl bA h3 q3 _ from rR.sl)
 simp(disch:=try exact QQ)only[Wz,jd];have mE:Le h2 ⟨h3.nx+1,h3.bl.bx h3.nx (eV t r (.slice GV (Q++[(kS Q w n x m).1]).length GX) (kS Q w n x m).2.1),h3.lo⟩:=d_.new _;have lh4:Le h3 ⟨h3.nx+1,h3.bl.bx h3.nx (eV t r (.slice GV (Q++[(kS Q w n x m).1]).length GX) (kS Q w n x m).2.1),h3.lo⟩:=(Le.refl h3).new _;have s4:=s2.le mE;refine oK s4 (by show h3.lo<=h3.nx+1;omega) t r _ _ _ _ ((rR.sl).le lh4) v3 (by simp;omega) ?_;intro M' clock' v' h' s5 jR A0 M4;exact QJ M' clock' F' h' n _ ⟨s5,hp2,hb,aaq,(qj.of_le l0).trans ((qj.aat oI).trans ((qj.of_le mE).trans M4)),Q,w,hold,vq,v3,rfl,jR⟩
end Go.Proofs
