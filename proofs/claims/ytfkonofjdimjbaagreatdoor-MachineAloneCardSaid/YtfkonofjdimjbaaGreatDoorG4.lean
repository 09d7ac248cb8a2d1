/-
  PROVED HERE: a part of the proof (K0, K1, K2, K3, K4, K5, K6, K7, K8, K9, K10, K11, K12, K13, K14, K15, K16, K17, K18, K19, K20, K21, K22, K23, K24, K25).
-/
import Derived.Test.YtfkonofjdimjbaaGreatDoorG3
import Derived.Test.YtfkonofjdimjbaaGreatDoorRZ
set_option linter.unusedVariables false
set_option linter.unusedSimpArgs false
set_option maxRecDepth 100000
namespace Go.Proofs
open Go.Vai Go.Clashes
open Tryz (prog)
theorem mixed:prog.follows .mixedOrders=true:=by kernel_rfl
theorem YYW{f args h V}(g : aW prog f args h V):aq prog f args h V := aF mixed g
def dJ(t r:Int):Value:=.agg ⟨[YYX t,YYX r]⟩
theorem ahU:∀i,i<7->∀j,j<7->bA prog 200 198 [YYX (.ofNat i),YYX (.ofNat j)] (.bool (cmp (.ofNat i) (.ofNat j)))=true:=by decide +kernel
theorem ahV(n:Nat)(b:Int):bA prog 200 198 [YYX (.negSucc n),YYX b] (.bool false)=true:=by kernel_rfl
theorem ahW(n:Nat)(b:Int):bA prog 200 198 [YYX (.ofNat (n+7)),YYX b] (.bool false)=true:=by kernel_rfl
theorem ahX:∀i,i<7->∀n:Nat,bA prog 200 198 [YYX (.ofNat i),YYX (.negSucc n)] (.bool false)=true:=by
 refine seven ?_ ?_ ?_ ?_ ?_ ?_ ?_<;>intro n<;>kernel_rfl
theorem ahY:∀i,i<7->∀n:Nat,bA prog 200 198 [YYX (.ofNat i),YYX (.ofNat (n+7))] (.bool false)=true:=by
 refine seven ?_ ?_ ?_ ?_ ?_ ?_ ?_<;>intro n<;>kernel_rfl
theorem Ig(a b:Int){h:af}{V:KQ}(hk:V (.bool (cmp a b)) h):aq prog 198 [YYX a,YYX b] h V:=
 rR mixed (F:=λa b=>.bool (cmp a b)) ahU (λn b=>by rw[RI (wQ n)];exact ahV n b) (λn b=>by rw[RI (wR n)];exact ahW n b) (λi hi n=>by rw[Zd (wQ n)];exact ahX i hi n) (λi hi n=>by rw[Zd (wR n)];exact ahY i hi n) a b hk
theorem ahZ:∀i,i<7->∀j,j<7->bA prog 200 166 [YYX (.ofNat i),YYX (.ofNat j)] (.bool (kG (.ofNat i) (.ofNat j)))=true:=by decide +kernel
theorem ah0(n:Nat)(b:Int):bA prog 200 166 [YYX (.negSucc n),YYX b] (.bool false)=true:=by kernel_rfl
theorem ah1(n:Nat)(b:Int):bA prog 200 166 [YYX (.ofNat (n+7)),YYX b] (.bool false)=true:=by kernel_rfl
theorem ah2:∀i,i<7->∀n:Nat,bA prog 200 166 [YYX (.ofNat i),YYX (.negSucc n)] (.bool false)=true:=by
 refine seven ?_ ?_ ?_ ?_ ?_ ?_ ?_<;>intro n<;>kernel_rfl
theorem ah3:∀i,i<7->∀n:Nat,bA prog 200 166 [YYX (.ofNat i),YYX (.ofNat (n+7))] (.bool false)=true:=by
 refine seven ?_ ?_ ?_ ?_ ?_ ?_ ?_<;>intro n<;>kernel_rfl
theorem oW(a b:Int){h:af}{V:KQ}(hk:V (.bool (kG a b)) h):aq prog 166 [YYX a,YYX b] h V:=
 rR mixed (F:=λa b=>.bool (kG a b)) ahZ (λn b=>by rw[Zb (wQ n)];exact ah0 n b) (λn b=>by rw[Zb (wR n)];exact ah1 n b) (λi hi n=>by rw[Zc (wQ n)];exact ah2 i hi n) (λi hi n=>by rw[Zc (wR n)];exact ah3 i hi n) a b hk
theorem ah4:∀i,i<7->∀j,j<7->bA prog 200 124 [YYX (.ofNat i),YYX (.ofNat j)] (YYX (bM (.ofNat i) (.ofNat j)))=true:=by decide +kernel
theorem ah5(n:Nat)(b:Int):bA prog 200 124 [YYX (.negSucc n),YYX b] (YYX 0)=true:=by kernel_rfl
theorem ah6(n:Nat)(b:Int):bA prog 200 124 [YYX (.ofNat (n+7)),YYX b] (YYX 0)=true:=by kernel_rfl
theorem ah7:∀i,i<7->∀n:Nat,bA prog 200 124 [YYX (.ofNat i),YYX (.negSucc n)] (YYX 0)=true:=by
 refine seven ?_ ?_ ?_ ?_ ?_ ?_ ?_<;>intro n<;>kernel_rfl
theorem ah8:∀i,i<7->∀n:Nat,bA prog 200 124 [YYX (.ofNat i),YYX (.ofNat (n+7))] (YYX 0)=true:=by
 refine seven ?_ ?_ ?_ ?_ ?_ ?_ ?_<;>intro n<;>kernel_rfl
theorem Ay(a b:Int){h:af}{V:KQ}(hk:V (YYX (bM a b)) h):aq prog 124 [YYX a,YYX b] h V:=
 rR mixed (F:=λa b=>YYX (bM a b)) ah4 (λn b=>by rw[RG (wQ n)];exact ah5 n b) (λn b=>by rw[RG (wR n)];exact ah6 n b) (λi hi n=>by rw[RH (wQ n)];exact ah7 i hi n) (λi hi n=>by rw[RH (wR n)];exact ah8 i hi n) a b hk
theorem p9(a:Int){h:af}{V:KQ}(hk:V (.bool (kn a)) h):aq prog 163 [YYX a] h V:=by
 refine jB (v:=.bool (kn a)) rfl rfl (aF mixed ?_) hk;rw[abr];by_cases h1:a<0
 .simp(disch:=try exact Y)only[Wz];simp[kn];omega
 .by_cases h2:6<a
  .simp(disch:=try exact Y)only[Wz];simp[kn];omega
  .simp(disch:=try exact Y)only[Wz];simp[kn];omega
abbrev mN(r:R5):Value:=.agg ⟨bL r⟩
noncomputable abbrev lV(r:R5):bO:=ah [YYX r.id,YYX r.x,YYX r.m,YYX r.w,YYX r.s] 164 false
def zR:List Value:=[YYX 0,YYX 0,YYX 0,YYX 0,YYX 0]
theorem am4:F_ prog 160:=⟨λh n c n' c'=>by kernel_rfl,λh a n c n' c'=>by kernel_rfl⟩
theorem SF(a0 a1:Value)(h:af)(V:KQ):aW prog 235 [a0,a1] h V=ez prog 3 5 a0 a1 h V:=by kernel_rfl
theorem ah9(a0 a1:Value)(h:af)(V:KQ):aW prog 363 [a0,a1] h V=fu prog 3 235 a0 a1 h V:=by kernel_rfl
theorem ah_(a0:Value)(h:af)(V:KQ):aW prog 108 [a0] h V=yK prog 160 164 5 zR a0 h V:=by kernel_rfl
theorem aia(a0 a1:Value)(h:af)(V:KQ):aW prog 356 [a0,a1] h V=fN prog 3 235 164 5 zR a0 a1 h V:=by kernel_rfl
theorem Az(L:List R5)(F:R5->Bool)(h:af)(v fv:Value)(V:KQ)(hv:Sl bL h v L)(hlen:L.length<=1000000)(hF:∀p,p∈L->∀(h1:af)(κ1:Value->af->Prop),Le h h1->(∀h2,Le h1 h2->κ1 (.bool (F p)) h2)->fq prog fv [mN p] h1 κ1)(hk:∀h',Le h h'->V (YYX (gG (L.findIdx? F))) h'):aq prog 235 [v,fv] h V:=
 mJ mixed cV SF L F h v fv V hv hlen hF hk
theorem nO(L:List R5)(F:R5->Bool)(h:af)(v fv:Value)(V:KQ)(hv:Sl bL h v L)(hlen:L.length<=1000000)(hF:∀p,p∈L->∀(h1:af)(κ1:Value->af->Prop),Le h h1->(∀h2,Le h1 h2->κ1 (.bool (F p)) h2)->fq prog fv [mN p] h1 κ1)(hk:∀h',Le h h'->V (.bool (L.any F)) h'):aq prog 363 [v,fv] h V:=
 i_ mixed cV SF ah9 L F h v fv V hv hlen hF hk
abbrev yp(a h:af)(v:Value)(L:List R5):Prop:=iJ bL a 164 h v L
theorem Ih(L:List R5)(h:af)(v:Value)(V:KQ)(hv:Sl bL h v L)(hlen:L.length<=1000000)(hlo:h.lo<=h.nx)(hk:∀v' h',yp h h' v' L->Le h h'->V v' h'):aq prog 108 [v] h V:=
 Rz mixed cV zT YYQ YYQ am4 ah_ L h v V hv hlen hlo hk
theorem OB(a h:af)(L:List R5)(F:R5->Bool)(v fv:Value)(V:KQ)(hle:Le a h)(ho:yp a h v L)(hlen:L.length<=100000)(hlo:a.lo<=a.nx)(hF:∀p,∀(h1:af)(κ1:Value->af->Prop),Le a h1->(h.nx<=h1.nx/\∀c,c<h.nx->h.bl.get c≠some (ah (L.flatMap bL) 164 true)->h1.bl.get c=h.bl.get c)->(∀h2,Le h1 h2->κ1 (.bool (F p)) h2)->fq prog fv [mN p] h1 κ1)(hk:∀v' h',Sl bL h' v' (L.filter λp=>!F p)->Cut 164 5 h' v' (L.filter λp=>!F p).length->Le a h'->(h.nx<=h'.nx/\∀c,c<h.nx->h.bl.get c≠some (ah (L.flatMap bL) 164 true)->h'.bl.get c=h.bl.get c)->yL 164 h' v'->V v' h'):aq prog 356 [v,fv] h V:=
 zQ mixed cV zT YYQ rfl rfl YYQ SF aia a h L F v fv V hle ho hlen hlo hF hk
theorem WD{h:af}{v:Value}{L:List R5}(hs:Sl bL h v L)(i:Nat){p:R5}(hp:L[i]? = some p):∃b o,b<h.nx/\(∀(β:Type)(fl:β)(h':af)(V:YYY β),aK fl 5 v (YYX (i:Int)) h' V=V (.pointer (some ⟨b,o,none⟩)) h')/\
   ((∀(β:Type)(fl:β)(V:List Value->β),yh fl (h.bl.get b) o 5 V=V (bL p))/\
   (∀(β:Type)(fl:β)(V:Value->β),uy fl (h.bl.get b) o V=V (YYX p.id))/\
   (∀(β:Type)(fl:β)(V:Value->β),uy fl (h.bl.get b) (o+1) V=V (YYX p.x))/\
   (∀(β:Type)(fl:β)(V:Value->β),uy fl (h.bl.get b) (o+2) V=V (YYX p.m))/\
   (∀(β:Type)(fl:β)(V:Value->β),uy fl (h.bl.get b) (o+3) V=V (YYX p.w))/\
   (∀(β:Type)(fl:β)(V:Value->β),uy fl (h.bl.get b) (o+4) V=V (YYX p.s))):=by
 obtain⟨b,o,h1,h2,h3,hh⟩:=hs.ld cV i hp;have h5:(bL p).length=5:=rfl;exact⟨b,o,h1,h2,h3,λβ fl V=>dH (fl:=fl) hh 0 V YYZ,λβ fl V=>dH (fl:=fl) hh 1 V YYZ,λβ fl V=>dH (fl:=fl) hh 2 V YYZ,λβ fl V=>dH (fl:=fl) hh 3 V YYZ,λβ fl V=>dH (fl:=fl) hh 4 V YYZ⟩
theorem Eb(r:R5){h:af}{V:KQ}(hk:V (.bool (decide (r.m≠0))) h):aq prog 197 [mN r] h V:=by
 refine jB (v:=.bool (decide (r.m≠0))) rfl rfl (aF mixed ?_) hk;rw[abM];simp(disch:=try exact Y)only[Wz,bL];simp
theorem Ec(r:R5){h:af}{V:KQ}(hk:V (.bool (decide (0<r.s))) h):aq prog 155 [mN r] h V:=by
 refine jB (v:=.bool (decide (0<r.s))) rfl rfl (aF mixed ?_) hk;rw[abp];simp(disch:=try exact Y)only[Wz,bL]
theorem AB(r:R5){h:af}{V:KQ}(hk:V (.bool (yM r)) h):aq prog 199 [mN r] h V:=by
 refine jB (v:=.bool (yM r)) rfl rfl (aF mixed ?_) hk;rw[abN];simp(disch:=try exact Y)only[Wz,bL];refine Eb r ?_;by_cases h1:r.m=0
 .simp(disch:=try exact Y)only[Wz,aZ (show ¬r.m≠0 by omega)];simp[yM,h1]
 .simp(disch:=try exact Y)only[Wz,bf (show r.m≠0 from h1)];refine Ec r ?_;simp[yM,h1]
theorem Ii(m:Int){h:af}{V:KQ}(hk:V (.bool (cu m)) h):aq prog 362 [YYX m] h V:=by
 refine jB (v:=.bool (cu m)) rfl rfl (aF mixed ?_) hk;rw[ac5];by_cases h0:m=0
 .simp(disch:=try exact Y)only[Wz,bf h0];simp[cu,h0]
 .simp(disch:=try exact Y)only[Wz,aZ h0];refine p9 m ?_;simp[cu,h0]
def kH(t r:Int)(q:Value)(w:Int):Value:=.agg ⟨[YYX t,YYX r,q,YYX w]⟩
theorem AE{h:af}{q:Value}{Q:List R5}(hq:Sl bL h q Q):q.cells.toList=[q]/\dK q=true:=by
 obtain⟨x,cap,rfl,_⟩:=hq;exact⟨rfl,rfl⟩
theorem SG(id:Int)(r:R5)(b:Nat)(h:af)(V:KQ)(hlo:h.lo<=h.nx)(hb:b<h.nx)(hg:h.bl.get b=some (ah [YYX id] 3 false))(hk:∀h',Le h h'->V (.bool (cw id r)) h'):aq prog 236 [mN r,av b] h V:=by
 have hk:=hk _ ((Le.refl h).new (lV r));apply YYW;rw[ab6];simp(disch:=try exact Y)only[Wz,bL,hg];exact hk
theorem uU(t r:Int)(q:Value)(w id:Int)(Q:List R5)(h:af)(V:KQ)(hq:Sl bL h q Q)(hlen:Q.length<=1000000)(hlo:h.lo<=h.nx)(hk:∀h',Le h h'->V (YYX (gG (Q.findIdx? (cw id)))) h'):aq prog 196 [kH t r q w,YYX id] h V:=by
 obtain⟨hc,ho⟩:=AE hq;apply YYW;rw[abL];simp(disch:=try exact Y)only[Wz,kH];obtain⟨hA,eA⟩:∃hA:af,hA=⟨h.nx+1+1,(h.bl.bt h.nx (ah [YYX t,YYX r,q,YYX w] 308 false)).bt (h.nx+1) (ah [YYX id] 3 false),h.lo⟩:=⟨_,rfl⟩
 have jE:Le h hA:=by subst eA;exact((Le.refl h).new _).new _
 have g3:hA.bl.get (h.nx+1)=some (ah [YYX id] 3 false):=by subst eA;exact T.az _ _ _
 have nA:hA.nx=h.nx+1+1:=by subst eA;rfl
 have lA:hA.lo=h.lo:=by subst eA;rfl
 rw[<-eA];clear eA;refine Az Q (cw id) hA q _ _ (hq.le jE) hlen ?_ λh' hl=>hk h' (jE.trans hl);intro p hp h1 κ1 qy cZ;have n1:=qy.nx;have l1:=qy.lo;simp(disch:=try exact Y)only[Wz,List.nil_append,List.cons_append];exact SG id p (h.nx+1) h1 κ1 YYZ YYZ ((qy.get _ YYZ).trans g3) cZ
def xU(r o:R5):Bool:=decide (o.id≠r.id) && decide (o.m≠0) && !cmp o.m r.w
theorem WE(r o:R5)(b:Nat)(h:af)(V:KQ)(hlo:h.lo<=h.nx)(hb:b<h.nx)(hg:h.bl.get b=some (lV r))(hk:∀h',Le h h'->V (.bool (xU r o)) h'):aq prog 371 [mN o,av b] h V:=by
 have hk:=hk _ ((Le.refl h).new (lV o));apply YYW;rw[ac8];by_cases h1:o.id=r.id
 .simp(disch:=try exact Y)only[Wz,bL,hg,bf h1];have e:xU r o=false:=by simp[xU,h1]
  rw[e]at hk;exact hk
 .simp(disch:=try exact Y)only[Wz,bL,hg,aZ h1];refine Eb o ?_;by_cases h2:o.m=0
  .simp(disch:=try exact Y)only[Wz,aZ (show ¬o.m≠0 by omega)];have e:xU r o=false:=by simp[xU,h2]
   rw[e]at hk;exact hk
  .simp(disch:=try exact Y)only[Wz,bf (show o.m≠0 from h2),hg];refine Ig _ _ ?_;simp(disch:=try exact Y)only[Wz];have e:xU r o=!cmp o.m r.w:=by simp[xU,h1,h2]
   rw[e]at hk;exact hk
theorem Ed(t r':Int)(q:Value)(w:Int)(r:R5)(Q:List R5)(h:af)(V:KQ)(hq:Sl bL h q Q)(hlen:Q.length<=1000000)(hlo:h.lo<=h.nx)(hk:∀h',Le h h'->V (.bool (ja Q r)) h'):aq prog 358 [kH t r' q w,mN r] h V:=by
 obtain⟨hc,ho⟩:=AE hq;apply YYW;rw[ac1];simp(disch:=try exact Y)only[Wz,kH,bL];obtain⟨hA,eA⟩:∃hA:af,hA=⟨h.nx+1+1,(h.bl.bt h.nx (ah [YYX t,YYX r',q,YYX w] 308 false)).bt (h.nx+1) (lV r),h.lo⟩:=⟨_,rfl⟩
 have jE:Le h hA:=by subst eA;exact((Le.refl h).new _).new _
 have g3:hA.bl.get (h.nx+1)=some (lV r):=by subst eA;exact T.az _ _ _
 have nA:hA.nx=h.nx+1+1:=by subst eA;rfl
 have lA:hA.lo=h.lo:=by subst eA;rfl
 rw[<-eA];clear eA;refine nO Q (xU r) hA q _ _ (hq.le jE) hlen ?_ ?_
 .intro p hp h1 κ1 qy cZ;have n1:=qy.nx;have l1:=qy.lo;simp(disch:=try exact Y)only[Wz,List.nil_append,List.cons_append];exact WE r p (h.nx+1) h1 κ1 YYZ YYZ ((qy.get _ YYZ).trans g3) cZ
 .intro h' hl;simp(disch:=try exact Y)only[Wz];exact hk h' (jE.trans hl)
theorem SH(r:R5){h:af}{V:KQ}(hk:V (.bool (decide (r.m=0))) h):aq prog 372 [mN r] h V:=by
 refine jB (v:=.bool (decide (r.m=0))) rfl rfl (aF mixed ?_) hk;rw[ac9];simp(disch:=try exact Y)only[Wz,bL];refine Eb r ?_;simp(disch:=try exact Y)only[Wz];simp
theorem Ij(t r':Int)(q:Value)(w:Int)(Q:List R5)(h:af)(V:KQ)(hq:Sl bL h q Q)(hlen:Q.length<=1000000)(hlo:h.lo<=h.nx)(hk:∀h',Le h h'->V (YYX (gG (fC Q))) h'):aq prog 359 [kH t r' q w] h V:=by
 obtain⟨hc,ho⟩:=AE hq;apply YYW;rw[ac2];simp(disch:=try exact Y)only[Wz,kH];obtain⟨hA,eA⟩:∃hA:af,hA=⟨h.nx+1,h.bl.bt h.nx (ah [YYX t,YYX r',q,YYX w] 308 false),h.lo⟩:=⟨_,rfl⟩
 have jE:Le h hA:=by subst eA;exact(Le.refl h).new _
 have gA:hA.bl.get h.nx=some (ah [YYX t,YYX r',q,YYX w] 308 false):=by subst eA;exact T.az _ _ _
 have nA:hA.nx=h.nx+1:=by subst eA;rfl
 have lA:hA.lo=h.lo:=by subst eA;rfl
 rw[<-eA];clear eA;simp(disch:=try exact Y)only[Wz,hq.len];refine⟨λn l h1=>∃i:Nat,an l 27=YYX (i:Int)/\an l 25=YYX (gG (best Q i))/\i<=Q.length/\n=Q.length-i/\Le hA h1,⟨_,0,rfl,rfl,Nat.zero_le _,rfl,Le.refl _⟩,?_⟩;rintro n l h1 ⟨i,s1,s2,hi,rfl,hle⟩;have n1:=hle.nx;have l1:=hle.lo;have g1:=(hle.get h.nx YYZ).trans gA;have hq1:=hq.le (jE.trans hle);by_cases hlt:i<Q.length
 .obtain⟨p,hp⟩:∃p,Q[i]? = some p:=⟨_,List.getElem?_eq_getElem hlt⟩
  obtain⟨b,o,hb,om,mK⟩:=WD hq1 i hp;have M6:best Q (i+1)=if(yM p && Gd Q p (best Q i))=true then some i else best Q i:=by
   show(match Q[i]? with|some r=>_|none=>_)=_
   rw[hp]
  simp(disch:=try exact Y)only[Wz,s1,Ax];refine⟨λl' h'=>an l' 24=YYX (gG (best Q (i+1)))/\Le hA h',?_,?_⟩
  .simp(disch:=try exact Y)only[Wz,Ic,s1,s2,om,mK,bL];obtain⟨hB,eB⟩:∃hB:af,hB=⟨h1.nx+1,h1.bl.bt h1.nx (lV p),h1.lo⟩:=⟨_,rfl⟩
   have tF:Le h1 hB:=by subst eB;exact(Le.refl h1).new _
   have gB:hB.bl.get h1.nx=some (lV p):=by subst eB;exact T.az _ _ _
   have gB1:=(tF.get h.nx YYZ).trans g1;have nB:hB.nx=h1.nx+1:=by subst eB;rfl
   have lB:hB.lo=h1.lo:=by subst eB;rfl
   rw[<-eB];clear eB;refine AB p ?_;cases hu:yM p with
   |false=>
    simp(disch:=try exact Y)only[Wz,s2];refine⟨?_,hle.trans tF⟩;rw[M6,hu];simp[s2]
   |true=>
    cases yq:best Q i with
    |none=>
     simp(disch:=try exact Y)only[Wz,s2,gG,dZ (show(-1:Int)<0 by decide),yq];refine⟨?_,hle.trans tF⟩;rw[M6,hu,yq];rfl
    |some k=>
     obtain⟨hkl,pk,hpk,_⟩:=DM Q i k yq;obtain⟨b',o',hb',am5,am6⟩:=WD (hq1.le tF) k hpk;have Zr:Gd Q p (some k)=decide (p.s<pk.s):=by simp only[Gd,hpk]
     simp(disch:=try exact Y)only[Wz,s2,gG,cG (show(0:Int)<=(k:Int)by omega),yq,gB,gB1,am5,am6];by_cases hs:p.s<pk.s
     .simp(disch:=try exact Y)only[Wz,bf hs];refine⟨?_,hle.trans tF⟩;rw[M6,hu,yq,Zr,bf hs];rfl
     .simp(disch:=try exact Y)only[Wz,aZ hs];refine⟨?_,hle.trans tF⟩;rw[M6,hu,yq,Zr,aZ hs]
      first|rfl|(rw[s2,yq];rfl)
  .rintro l' h' ⟨k1,k2⟩;exact⟨_,YYZ,i+1,rfl,k1,YYZ,rfl,k2⟩
 .have hil:i=Q.length:=by omega
  subst hil;simp(disch:=try exact Y)only[Wz,s1,Ax];refine⟨λl' h'=>an l' 6=YYX (gG (fC Q))/\Le hA h',?_,?_⟩
  rotate_left
  .rintro l' h' ⟨k1,k2⟩
   show V (an l' 6) h'
   rw[k1];exact hk h' (jE.trans k2)
  cases yq:best Q Q.length with
  |some k=>
   have e:fC Q=some k:=by simp only[fC,yq]
   simp(disch:=try exact Y)only[Wz,Aw,s2,yq,gG,cG (show(0:Int)<=(k:Int)by omega)];refine⟨?_,hle⟩;rw[e]
  |none=>
   have e:fC Q=Q.findIdx? (λr=>decide (r.m=0)):=by simp only[fC,yq]
   simp(disch:=try exact Y)only[Wz,Aw,s2,yq,gG,dZ (show(-1:Int)<0 by decide),g1];refine Az Q (λr=>decide (r.m=0)) h1 q _ _ hq1 hlen ?_ ?_
   .intro p hp h2 κ2 ot hk2;simp(disch:=try exact Y)only[Wz,List.nil_append,List.append_nil];exact SH p (hk2 h2 (Le.refl _))
   .intro h' hl;refine⟨?_,hle.trans hl⟩;rw[e];rfl
theorem iJ.base{α:Type}{enc:α->List Value}{a a' h:af}{e:TypeId}{v:Value}{L:List α}(ho:iJ enc a e h v L)(hn:a'.nx<=a.nx):iJ enc a' e h v L:=by
 rcases ho with ho|⟨b,h0,h1,h2⟩
 .exact .inl ho
 .exact .inr ⟨b,h0,Nat.le_trans hn h1,h2⟩
theorem iJ.same{α:Type}{enc:α->List Value}{a h h':af}{e:TypeId}{v:Value}{L:List α}(ho:iJ enc a e h v L)(hn:h.nx<=h'.nx)(hl:h'.lo=h.lo)(hs:∀b,a.nx<=b->b<h.nx->h'.bl.get b=h.bl.get b):iJ enc a e h' v L:=by
 rcases ho with ho|⟨b,h0,h1,h2,h3,h4⟩
 .exact .inl ho
 .exact .inr ⟨b,h0,h1,Nat.lt_of_lt_of_le h2 hn,by rw[hl];exact h3,by rw[hs b h1 h2];exact h4⟩
theorem Ik(t r:Int)(q:Value)(w:Int)(Q:List R5)(h:af)(V:KQ)(hq:Sl bL h q Q)(hlen:Q.length<=1000000)(hlo:h.lo<=h.nx)(hk:∀q' h',yp h h' q' Q->Le h h'->V (kH t r q' w) h'):aq prog 342 [kH t r q w] h V:=by
 obtain⟨qx,qc,rfl,_⟩:=id hq;apply YYW;rw[acQ];simp(disch:=try exact Y)only[Wz,kH];obtain⟨hA,eA⟩:∃hA:af,hA=⟨h.nx+1+1,(h.bl.bt h.nx (ah [YYX t,YYX r,.slice qx Q.length qc,YYX w] 162 false)).bt (h.nx+1) (ah [YYX 0,YYX 0,.slice none 0 0,YYX 0] 308 false),h.lo⟩:=⟨_,rfl⟩
 have jE:Le h hA:=by subst eA;exact((Le.refl h).new _).new _
 have g1:hA.bl.get h.nx=some (ah [YYX t,YYX r,.slice qx Q.length qc,YYX w] 162 false):=by subst eA;exact(T.aD _ _ YYZ).trans (T.az _ _ _)
 have g3:hA.bl.get (h.nx+1)=some (ah [YYX 0,YYX 0,.slice none 0 0,YYX 0] 308 false):=by subst eA;exact T.az _ _ _
 have nA:hA.nx=h.nx+1+1:=by subst eA;rfl
 have lA:hA.lo=h.lo:=by subst eA;rfl
 rw[<-eA];clear eA;refine Ih Q hA _ _ (hq.le jE) hlen YYZ ?_;intro q' h2 mE hle2;have n2:=hle2.nx;have l2:=hle2.lo;have g12:=(hle2.get h.nx YYZ).trans g1;have g32:=(hle2.get (h.nx+1) YYZ).trans g3;have hle:=(jE.trans hle2)
 obtain⟨qx',qc',rfl,_⟩:=id mE.sl;simp(disch:=try exact Y)only[Wz,g12,g32];refine hk _ _ ?_ ?_
 .refine iJ.base (iJ.same mE (Nat.le_refl _) rfl λb h1 _=>?_) YYZ;exact(T.aD _ _ YYZ).trans (T.aD _ _ YYZ)
 .exact(hle.set (b:=h.nx) (Nat.le_refl _) _).set (b:=h.nx+1) (Nat.le_succ _) _
def qW(id x:Int)(r:R5):Bool:=decide (r.id=id) || decide (r.x=x)
theorem adf(id x:Int)(r:R5)(b3 b5:Nat)(h:af)(V:KQ)(hlo:h.lo<=h.nx)(hb3:b3<h.nx)(hb5:b5<h.nx)(hg3:h.bl.get b3=some (ah [YYX id] 3 false))(hg5:h.bl.get b5=some (ah [YYX x] 3 false))(hk:∀h',Le h h'->V (.bool (qW id x r)) h'):aq prog 364 [mN r,av b3,av b5] h V:=by
 have hk:=hk _ ((Le.refl h).new (lV r));apply YYW;rw[ac6];by_cases h1:r.id=id
 .simp(disch:=try exact Y)only[Wz,bL,hg3,hg5,bf h1];have e:qW id x r=true:=by simp[qW,h1]
  rw[e]at hk;exact hk
 .simp(disch:=try exact Y)only[Wz,bL,hg3,hg5,aZ h1];have e:qW id x r=decide (r.x=x):=by simp[qW,h1]
  rw[e]at hk;exact hk
theorem iJ.put{α:Type}{enc:α->List Value}{a h:af}{e:TypeId}{v:Value}{L:List α}(ho:iJ enc a e h v L){c:Nat}(hc:h.bl.get c≠some (ah (L.flatMap enc) e true))(o:bO):iJ enc a e ⟨h.nx,h.bl.bt c o,h.lo⟩ v L:=by
 rcases ho with ho|⟨b,h0,h1,h2,h3,h4⟩
 .exact .inl ho
 .refine .inr ⟨b,h0,h1,h2,h3,(T.aD _ _ ?_).trans h4⟩;rintro rfl;exact hc h4
theorem SJ(t r:Int)(qx:Option Addr)(qc:Nat)(w:Int)(p:R5)(g:Bool)(Bv OA b7:Nat)(Q:List R5)(a h:af)(V:KQ)(ho:yp a h (.slice qx Q.length qc) Q)(hle:Le a h)(hlen:Q.length<=100000)(hlo:h.lo<=h.nx)(am8:Bv<h.nx)(asm:OA<h.nx)(hb7:b7<h.nx)(hd:Bv≠b7)(asn:h.lo<=Bv)(hl7:h.lo<=b7)(g29:h.bl.get Bv=some (ah [YYX t,YYX r,.slice qx Q.length qc,YYX w] 308 false))(g35:h.bl.get OA=some (lV p))(g7:h.bl.get b7=some (ah [YYX 0,YYX 0,.slice none 0 0,YYX 0] 162 false))(hk:∀q' h',yp a h' q' (Q++[p])->(h.nx<=h'.nx/\h'.lo=h.lo/\∀b,b<a.nx->b≠Bv->b≠b7->h'.bl.get b=a.bl.get b)->V (.tuple ⟨[kH t r q' w,.bool g,YYX 0]⟩) h'):uT Bv OA b7 (.bool g) h V:=by
 simp(disch:=try exact Y)only[Wz,uT,g29,g35];have hle1:=(Le.refl h).new (lV p);refine l_ (enc:=bL) (a:=a) (L:=Q) (M:=[p]) cV zT YYQ YYQ (ho.le hle1) (Sl.new (L:=[p]) (e:=164) (op:=false) (Nat.lt_succ_self _) (T.az _ _ _) _) (hle.new _) (by simp;omega) (by show h.lo<=h.nx+1;omega) _ ?_;intro v' h' ho' hle' ye hn2 hl' hsame;obtain⟨qx',qc',rfl,_⟩:=(show Sl bL h' v' (Q++[p])from ho'.sl)
 have n1:h.nx+1<=h'.nx:=hn2;have k1:∀b,b<h.nx->h.bl.get b≠some (ah (Q.flatMap bL) 164 true)->h'.bl.get b=h.bl.get b:=by
  intro b hb hne;have e:(h.bl.bt h.nx (lV p)).get b=h.bl.get b:=T.aD _ _ YYZ;exact(hsame b (Nat.lt_succ_of_lt hb) (λk=>hne (by rw[<-e];exact k))).trans e
 have aif:=(k1 Bv am8 (by rw[g29];exact bI)).trans g29;have g7':=(k1 b7 hb7 (by rw[g7];exact bI)).trans g7;have ot:h'.lo=h.lo:=hl';simp(disch:=try exact Y)only[Wz,aif,g7'];refine hk _ _ ?_ ⟨by show h.nx<=h'.nx;omega,ot,?_⟩
 .refine iJ.put (iJ.put ho' (by rw[aif];exact bI) _) ?_ _
  show(h'.bl.bt Bv _).get b7≠_
  rw[T.aD _ _ hd,g7'];exact bI
 .intro b hb h1 h2;exact(T.aD _ _ (λe=>h2 e.symm)).trans ((T.aD _ _ (λe=>h1 e.symm)).trans (hle'.get b hb))
theorem aih(t r:Int)(q:Value)(w id x m:Int)(Q:List R5)(h:af)(V:KQ)(hq:Sl bL h q Q)(hlen:Q.length<=100000)(hlo:h.lo<=h.nx)(hw:0<=w/\w<=1000000)(hid:0<=id)(hm:cu m=true)(hn:∀p∈Q,p.id≠id/\p.x≠x)(hk:∀q' h',yp h h' q' (Q++[(kY Q w id x m).1])->Le h h'->V (.tuple ⟨[kH t r q' (kY Q w id x m).2.1,.bool (kY Q w id x m).2.2,YYX 0]⟩) h'):aq prog 348 [kH t r q w,YYX id,YYX x,YYX m] h V:=by
 obtain⟨qx,qc,rfl,_⟩:=(show Sl bL h q Q from hq)
 apply YYW;rw[acX];simp(disch:=try exact Y)only[Wz,kH];obtain⟨hA,eA⟩:∃hA:af,hA=⟨h.nx+1+1+1+1,(((h.bl.bt h.nx (ah [YYX t,YYX r,.slice qx Q.length qc,YYX w] 162 false)).bt (h.nx+1) (ah [YYX id] 3 false)).bt (h.nx+1+1) (ah [YYX x] 3 false)).bt (h.nx+1+1+1) (ah [YYX 0,YYX 0,.slice none 0 0,YYX 0] 162 false),h.lo⟩:=⟨_,rfl⟩
 have jE:Le h hA:=by subst eA;exact((((Le.refl h).new _).new _).new _).new _
 have g1:hA.bl.get h.nx=some (ah [YYX t,YYX r,.slice qx Q.length qc,YYX w] 162 false):=by subst eA;exact(T.aD _ _ YYZ).trans ((T.aD _ _ YYZ).trans ((T.aD _ _ YYZ).trans (T.az _ _ _)))
 have g3:hA.bl.get (h.nx+1)=some (ah [YYX id] 3 false):=by subst eA;exact(T.aD _ _ YYZ).trans ((T.aD _ _ YYZ).trans (T.az _ _ _))
 have g5:hA.bl.get (h.nx+1+1)=some (ah [YYX x] 3 false):=by subst eA;exact(T.aD _ _ YYZ).trans (T.az _ _ _)
 have g7:hA.bl.get (h.nx+1+1+1)=some (ah [YYX 0,YYX 0,.slice none 0 0,YYX 0] 162 false):=by subst eA;exact T.az _ _ _
 have nA:hA.nx=h.nx+1+1+1+1:=by subst eA;rfl
 have lA:hA.lo=h.lo:=by subst eA;rfl
 rw[<-eA];clear eA;refine Ii m ?_;rw[hm];simp(disch:=try exact Y)only[Wz,H6,g1,g3,g5];refine nO Q (qW id x) hA _ _ _ (hq.le jE) YYZ ?_ ?_
 .intro p hp h1 κ1 qy cZ;have n1:=qy.nx;have l1:=qy.lo;simp(disch:=try exact Y)only[Wz,List.nil_append,List.cons_append];exact adf id x p (h.nx+1) (h.nx+1+1) h1 κ1 YYZ YYZ YYZ ((qy.get _ YYZ).trans g3) ((qy.get _ YYZ).trans g5) cZ
 intro h2 hle2;have n2:=hle2.nx;have l2:=hle2.lo;have hno:Q.any (qW id x)=false:=by
  rw[List.any_eq_false];intro p hp;simp[qW,(hn p hp).1,(hn p hp).2]
 rw[hno];have g12:=(hle2.get h.nx YYZ).trans g1;have g32:=(hle2.get (h.nx+1) YYZ).trans g3;have g52:=(hle2.get (h.nx+1+1) YYZ).trans g5;have g72:=(hle2.get (h.nx+1+1+1) YYZ).trans g7;simp(disch:=try exact Y)only[Wz,HZ,g12];refine Ik t r _ w Q h2 _ (hq.le (jE.trans hle2)) YYZ YYZ ?_;intro q3 h3 ta bP;have n3:=bP.nx;have l3:=bP.lo;obtain⟨Il,Im,rfl,_⟩:=(show Sl bL h3 q3 Q from ta.sl)
 have g33:=(bP.get (h.nx+1) YYZ).trans g32;have g53:=(bP.get (h.nx+1+1) YYZ).trans g52;have g73:=(bP.get (h.nx+1+1+1) YYZ).trans g72;simp(disch:=try exact Y)only[Wz,kH,g33,g53];obtain⟨hB,eB⟩:∃hB:af,hB=⟨h3.nx+1+1,(h3.bl.bt h3.nx (ah [YYX t,YYX r,.slice Il Q.length Im,YYX w] 308 false)).bt (h3.nx+1) (lV ⟨id,x,0,m,0⟩),h3.lo⟩:=⟨_,rfl⟩
 have tF:Le h3 hB:=by subst eB;exact((Le.refl h3).new _).new _
 have g29:hB.bl.get h3.nx=some (ah [YYX t,YYX r,.slice Il Q.length Im,YYX w] 308 false):=by subst eB;exact(T.aD _ _ YYZ).trans (T.az _ _ _)
 have g35:hB.bl.get (h3.nx+1)=some (lV ⟨id,x,0,m,0⟩):=by subst eB;exact T.az _ _ _
 have g7B:=(tF.get (h.nx+1+1+1) YYZ).trans g73;have nB:hB.nx=h3.nx+1+1:=by subst eB;rfl
 have lB:hB.lo=h3.lo:=by subst eB;rfl
 rw[<-eB];clear eB;have OC:=ta.le tF;refine Ij t r _ w Q hB _ OC.sl YYZ YYZ ?_;intro h4 cI;have n4:=cI.nx;have l4:=cI.lo;have hall:Le h h4:=(((jE.trans hle2).trans bP).trans tF).trans cI;have Zs:Le h2 h4:=(bP.trans tF).trans cI;have WG:=(cI.get h3.nx YYZ).trans g29;have WH:=(cI.get (h3.nx+1) YYZ).trans g35;have g74:=(cI.get (h.nx+1+1+1) YYZ).trans g7B;have Qa:=OC.le cI
 have fin:∀(p:R5)(w':Int)(g:Bool)(h5:af),kY Q w id x m=(p,w',g)->yp h2 h5 (.slice Il Q.length Im) Q->Le h h5->Le h2 h5->h4.nx<=h5.nx->
   h5.bl.get h3.nx=some (ah [YYX t,YYX r,.slice Il Q.length Im,YYX w'] 308 false)->h5.bl.get (h3.nx+1)=some (lV p)->h5.bl.get (h.nx+1+1+1)=some (ah [YYX 0,YYX 0,.slice none 0 0,YYX 0] 162 false)->
   uT h3.nx (h3.nx+1) (h.nx+1+1+1) (.bool g) h5 V:=by
  intro p w' g h5 he uV Zt ana n5 k1 k2 k3;have l5:=Zt.lo;refine SJ t r Il Im w' p g _ _ _ Q h2 h5 V uV ana YYZ YYZ YYZ YYZ YYZ YYZ YYZ YYZ k1 k2 k3 ?_;intro q' h' ho' hfr;obtain⟨e1,e2,e3⟩:=hfr;rw[he]at hk;have nn:=Zt.nx;refine hk q' h' (iJ.base ho' YYZ) ⟨YYZ,by rw[e2];exact Zt.lo,λb hb=>?_⟩;exact(e3 b YYZ YYZ YYZ).trans ((jE.trans hle2).get b hb)
 have oZ:=hall;cases hf:fC Q with
 |some i=>
  simp(disch:=try exact Y)only[Wz,gG,cG (show(0:Int)<=(i:Int)by omega)];obtain⟨hC,eC⟩:∃hC:af,hC=⟨h4.nx,(h4.bl.bt h3.nx (ah [YYX t,YYX r,.slice Il Q.length Im,YYX (w+1)] 308 false)).bt (h3.nx+1) (lV ⟨id,x,0,m,w+1⟩),h4.lo⟩:=⟨_,rfl⟩
  refine⟨λl h'=>HQ hC h',?_,?_⟩
  .simp(disch:=try exact Y)only[Wz,As,WG,WH];exact eC
  .intro l h' Dn;cases(show hC=h' from Dn);have nC:hC.nx=h4.nx:=by rw[eC]
   refine fin ⟨id,x,0,m,w+1⟩ (w+1) false hC ?_ ?_ ?_ ?_ YYZ ?_ ?_ ?_
   .unfold kY;rw[if_neg];simp[hf]
   .rw[eC];exact iJ.put (iJ.put Qa (by rw[WG];exact bI) _) (by show(h4.bl.bt h3.nx _).get (h3.nx+1)≠_;rw[T.aD _ _ YYZ,WH];exact bI) _
   .rw[eC];exact(oZ.set (b:=h3.nx) YYZ _).set (b:=h3.nx+1) YYZ _
   .rw[eC];exact(Zs.set (b:=h3.nx) YYZ _).set (b:=h3.nx+1) YYZ _
   .rw[eC];exact(T.aD _ _ YYZ).trans (T.az _ _ _)
   .rw[eC];exact T.az _ _ _
   .rw[eC];exact((T.aD _ _ YYZ).trans (T.aD _ _ YYZ)).trans g74
 |none=>
  simp(disch:=try exact Y)only[Wz,gG,dZ (show(-1:Int)<0 by decide),WG,WH];refine Ed t r _ w ⟨id,x,0,m,0⟩ Q h4 _ Qa.sl YYZ YYZ ?_;intro h5 fQ;have n5:=fQ.nx;have l5:=fQ.lo;have adg:=(fQ.get h3.nx YYZ).trans WG;have WI:=(fQ.get (h3.nx+1) YYZ).trans WH;have g75:=(fQ.get (h.nx+1+1+1) YYZ).trans g74;have uV:=Qa.le fQ;have sL:=hall.trans fQ;have Zu:=Zs.trans fQ;cases hfit:ja Q ⟨id,x,0,m,0⟩with
  |false=>
   simp(disch:=try exact Y)only[Wz];obtain⟨hC,eC⟩:∃hC:af,hC=⟨h5.nx,(h5.bl.bt h3.nx (ah [YYX t,YYX r,.slice Il Q.length Im,YYX (w+1)] 308 false)).bt (h3.nx+1) (lV ⟨id,x,0,m,w+1⟩),h5.lo⟩:=⟨_,rfl⟩
   refine⟨λl h'=>HQ hC h',?_,?_⟩
   .simp(disch:=try exact Y)only[Wz,As,adg,WI];exact eC
   .intro l h' Dn;cases(show hC=h' from Dn);have nC:hC.nx=h5.nx:=by rw[eC]
    refine fin ⟨id,x,0,m,w+1⟩ (w+1) false hC ?_ ?_ ?_ ?_ YYZ ?_ ?_ ?_
    .unfold kY;rw[if_neg];simp[hf,hfit]
    .rw[eC];exact iJ.put (iJ.put uV (by rw[adg];exact bI) _) (by show(h5.bl.bt h3.nx _).get (h3.nx+1)≠_;rw[T.aD _ _ YYZ,WI];exact bI) _
    .rw[eC];exact(sL.set (b:=h3.nx) YYZ _).set (b:=h3.nx+1) YYZ _
    .rw[eC];exact(Zu.set (b:=h3.nx) YYZ _).set (b:=h3.nx+1) YYZ _
    .rw[eC];exact(T.aD _ _ YYZ).trans (T.az _ _ _)
    .rw[eC];exact T.az _ _ _
    .rw[eC];exact((T.aD _ _ YYZ).trans (T.aD _ _ YYZ)).trans g75
  |true=>
   simp(disch:=try exact Y)only[Wz];obtain⟨hC,eC⟩:∃hC:af,hC=⟨h5.nx,h5.bl.bt (h3.nx+1) (lV ⟨id,x,m,m,0⟩),h5.lo⟩:=⟨_,rfl⟩
   refine⟨λl h'=>HQ hC h',?_,?_⟩
   .simp(disch:=try exact Y)only[Wz,WI];exact eC
   .intro l h' Dn;cases(show hC=h' from Dn);have nC:hC.nx=h5.nx:=by rw[eC]
    refine fin ⟨id,x,m,m,0⟩ w true hC ?_ ?_ ?_ ?_ YYZ ?_ ?_ ?_
    .unfold kY;rw[if_pos];simp[hf,hfit]
    .rw[eC];exact iJ.put uV (by rw[WI];exact bI) _
    .rw[eC];exact sL.set (b:=h3.nx+1) YYZ _
    .rw[eC];exact Zu.set (b:=h3.nx+1) YYZ _
    .rw[eC];exact(T.aD _ _ YYZ).trans adg
    .rw[eC];exact T.az _ _ _
    .rw[eC];exact(T.aD _ _ YYZ).trans g75
noncomputable abbrev mO(t r:Int)(q:Value)(w:Int):bO:=ah [YYX t,YYX r,q,YYX w] 308 false
noncomputable abbrev gJ(t r:Int)(q:Value)(w:Int):bO:=ah [YYX t,YYX r,q,YYX w] 162 false
noncomputable abbrev o_:bO:=ah [YYX 0,YYX 0,.slice none 0 0,YYX 0] 162 false
theorem KF(id:Int)(r:R5)(b:Nat)(h:af)(V:KQ)(hlo:h.lo<=h.nx)(hb:b<h.nx)(hg:h.bl.get b=some (ah [YYX id] 3 false))(hk:∀h',Le h h'->V (.bool (cw id r)) h'):aq prog 357 [mN r,av b] h V:=by
 have hk:=hk _ ((Le.refl h).new (lV r));apply YYW;rw[ac0];simp(disch:=try exact Y)only[Wz,bL,hg];exact hk
theorem OD(t r:Int)(q:Value)(w id:Int)(Q:List R5)(a h:af)(V:KQ)(ho:yp a h q Q)(hle:Le a h)(hlen:Q.length<=100000)(hlo:a.lo<=a.nx)(hk:∀q' h',Sl bL h' q' (Q.filter λr=>!cw id r)->yL 164 h' q'->Le a h'->V (kH t r q' w) h'):aq prog 343 [kH t r q w,YYX id] h V:=by
 obtain⟨qx,qc,rfl,_⟩:=(show Sl bL h q Q from ho.sl)
 have n_0:=hle.nx;have l_0:=hle.lo;apply YYW;rw[acR];simp(disch:=try exact Y)only[Wz,kH];obtain⟨hA,bg⟩:∃hA:af,hA=⟨h.nx+1+1+1,(((h.bl.bt (h.nx) (mO t r (.slice qx Q.length qc) w)).bt (h.nx+1) (ah [YYX id] 3 false)).bt (h.nx+1+1) (o_)),h.lo⟩:=⟨_,rfl⟩
 have aS:Le h hA:=by subst bg;exact((((Le.refl h).new _).new _).new _)
 have g1:hA.bl.get (h.nx)=some (mO t r (.slice qx Q.length qc) w):=by subst bg;exact(T.aD _ _ YYZ).trans ((T.aD _ _ YYZ).trans (T.az _ _ _))
 have g3:hA.bl.get (h.nx+1)=some (ah [YYX id] 3 false):=by subst bg;exact(T.aD _ _ YYZ).trans (T.az _ _ _)
 have g5:hA.bl.get (h.nx+1+1)=some (o_):=by subst bg;exact T.az _ _ _
 have dP:hA.nx=h.nx+1+1+1:=by subst bg;rfl
 have dQ:hA.lo=h.lo:=by subst bg;rfl
 rw[<-bg];clear bg;refine OB a hA Q (cw id) _ _ _ (hle.trans aS) (ho.le aS) hlen hlo ?_ ?_
 .intro p h1 κ1 qy hfr cZ;have n1:=hfr.1;have l1:=qy.lo;have g3:=(hfr.2 (h.nx+1) YYZ (by rw[g3];exact bI)).trans g3;simp(disch:=try exact Y)only[Wz,List.nil_append,List.cons_append];exact KF id p (h.nx+1) h1 κ1 YYZ YYZ g3 cZ
 .intro q' h2 hs2 _ hle2 hfr ht;have n2:=hfr.1;have l2:=hle2.lo;have g1:=(hfr.2 h.nx YYZ (by rw[g1];exact bI)).trans g1;have g5:=(hfr.2 (h.nx+1+1) YYZ (by rw[g5];exact bI)).trans g5;obtain⟨qx',qc',rfl,_⟩:=(show Sl bL h2 q' _ from hs2)
  simp(disch:=try exact Y)only[Wz,g1,g5];have Zv:∀vs op,h2.bl.get h.nx≠some (ah vs 164 op):=λvs op=>by rw[g1];exact bG YYQ
  have JQ:=hs2.put ht Zv (mO t r (.slice qx' (Q.filter λr=>!cw id r).length qc') w);have ht3:=ht.put Zv (mO t r (.slice qx' (Q.filter λr=>!cw id r).length qc') w);have hd2:∀vs op,(h2.bl.bt h.nx (mO t r (.slice qx' (Q.filter λr=>!cw id r).length qc') w)).get (h.nx+1+1)≠some (ah vs 164 op):=λvs op=>by rw[T.aD _ _ YYZ,g5];exact bG YYQ
  refine hk _ _ (JQ.put ht3 hd2 _) (ht3.put hd2 _) ((hle2.set (b:=h.nx) YYZ _).set (b:=h.nx+1+1) YYZ _)
def QV(h:af)(q:Value)(Q:List R5):Prop:=Sl bL h q Q/\yL 164 h q
theorem QV.le{h h':af}{q:Value}{Q:List R5}(v:QV h q Q)(l:Le h h'):QV h' q Q:=⟨v.1.le l,v.2.le l⟩
theorem QV.put{h:af}{q:Value}{Q:List R5}(v:QV h q Q){d:Nat}(hd:∀vs op,h.bl.get d≠some (ah vs 164 op))(o:bO):QV ⟨h.nx,h.bl.bt d o,h.lo⟩ q Q:=⟨v.1.put v.2 hd o,v.2.put hd o⟩
theorem QV.own{a h:af}{q:Value}{Q:List R5}(ho:yp a h q Q):QV h q Q:=⟨ho.sl,yL.own ho⟩
theorem nQ(Q:List R5)(id:Int):(Q.findIdx? (cw id)=none/\cB Q id=none)\/∃(i:Nat)(r:R5),Q.findIdx? (cw id)=some i/\Q[i]? = some r/\r.id=id/\cB Q id=some r:=by
 rcases mI Q (cw id)with⟨e,h⟩|⟨i,p,e,hp,h1,h2⟩
 .refine .inl ⟨e,?_⟩;unfold cB;rw[List.find?_eq_none];intro x hx;rw[h x hx];simp
 .refine .inr ⟨i,p,e,hp,by simpa[cw]using h1,?_⟩;unfold cB;rw[List.find?_eq_some_iff_getElem];obtain⟨hi,rfl⟩:=List.getElem?_eq_some_iff.1 hp;exact⟨h1,i,hi,rfl,λj hj=>by rw[h2 j _ hj (List.getElem?_eq_getElem YYZ)];rfl⟩
theorem WL(t r:Int)(q:Value)(w id:Int)(Q:List R5)(h:af)(V:KQ)(hq:Sl bL h q Q)(hlen:Q.length<=100000)(hlo:h.lo<=h.nx)(hf:cB Q id≠none)(hk:∀q' h',QV h' q' (Q.filter λr=>!cw id r)->Le h h'->V (.tuple ⟨[kH t r q' w,YYX 0]⟩) h'):aq prog 360 [kH t r q w,YYX id] h V:=by
 obtain⟨qx,qc,rfl,_⟩:=(show Sl bL h q Q from hq)
 apply YYW;rw[ac3];simp(disch:=try exact Y)only[Wz,kH];obtain⟨hA,bg,aS,g1,g3,dP,dQ⟩:=Km h (gJ t r (.slice qx Q.length qc) w) (o_);rw[<-bg];clear bg;have g3A:=g3;refine Ik t r _ w Q hA _ (hq.le aS) YYZ YYZ ?_;intro q2 h2 mE hle2;have wY:=hle2.nx;have wZ:=hle2.lo;have g1:=(hle2.get _ YYZ).trans g1;have g3:=(hle2.get _ YYZ).trans g3;obtain⟨xV,xW,rfl,_⟩:=(show Sl bL h2 q2 Q from mE.sl)
 simp(disch:=try exact Y)only[Wz,kH];obtain⟨hB,ig,ct,g7,BX,BZ⟩:=jH h2 (mO t r (.slice xV Q.length xW) w);rw[<-ig];clear ig;have uW:=ct.nx;have uX:=ct.lo;have g1:=(ct.get _ YYZ).trans g1;have g3:=(ct.get _ YYZ).trans g3;have OC:=mE.le ct;refine uU t r _ w id Q hB _ OC.sl YYZ YYZ ?_;intro h3 bP;have KG:=bP.nx;have KH:=bP.lo;have g1:=(bP.get _ YYZ).trans g1;have g3:=(bP.get _ YYZ).trans g3;have g7:=(bP.get _ YYZ).trans g7;have ta:=OC.le bP;rcases nQ Q id with⟨_,e⟩|⟨i,p,e,hp,adh,_⟩
 .exact absurd e hf
 rw[e];simp(disch:=try exact Y)only[Wz,gG,cG (show(0:Int)<=(i:Int)by omega),g7];have aii:Le hA h3:=(hle2.trans ct).trans bP;refine OD t r _ w id Q hA h3 _ ta aii hlen YYZ ?_;intro q4 h4 hs4 ht4 cI;have KI:=cI.nx;have KJ:=cI.lo;have g3:=(cI.get _ YYZ).trans g3A;obtain⟨qx4,qc4,rfl,_⟩:=(show Sl bL h4 q4 _ from hs4)
 simp(disch:=try exact Y)only[Wz,kH,g3];exact hk _ _ (QV.put ⟨hs4,ht4⟩ (λvs op=>by rw[g3];exact bG YYQ) _) ((aS.trans cI).set (b:=h.nx+1) YYZ _)
theorem WM(id x:Int)(r:R5)(b3 b5:Nat)(h:af)(V:KQ)(hlo:h.lo<=h.nx)(hb3:b3<h.nx)(hb5:b5<h.nx)(hg3:h.bl.get b3=some (ah [YYX id] 3 false))(hg5:h.bl.get b5=some (ah [YYX x] 3 false))(hk:∀h',Le h h'->V (.bool (decide (r.id≠id) && decide (r.x=x))) h'):aq prog 365 [mN r,av b3,av b5] h V:=by
 have hk:=hk _ ((Le.refl h).new (lV r));apply YYW;rw[ac7];by_cases h1:r.id=id
 .simp(disch:=try exact Y)only[Wz,bL,hg3,hg5,bf h1];rw[aZ (show ¬r.id≠id by simp[h1])]at hk;exact hk
 .simp(disch:=try exact Y)only[Wz,bL,hg3,hg5,aZ h1];rw[bf (show r.id≠id from h1)]at hk;exact hk
theorem QV.blk{h:af}{b n:Nat}{L:List R5}(hb:b<h.nx)(hg:h.bl.get b=some (ah (L.flatMap bL) 164 true))(hn:n=L.length):QV h (YYU b n aX) L:=by
 subst hn;refine⟨Sl.new hb hg _,λb' o' n' c' hv _=>?_⟩;cases hv;exact⟨hb,_,_,hg⟩
theorem adi(t r:Int)(q:Value)(w id x:Int)(Q:List R5)(h:af)(V:KQ)(hq:Sl bL h q Q)(hlen:Q.length<=100000)(hlo:h.lo<=h.nx)(hp:Q.Pairwise zU){i:Nat}{p:R5}(hi:Q[i]? = some p)(hid:p.id=id)(cZ:(∃o∈Q,o.id≠id/\o.x=x)->∀h',Le h h'->V (.tuple ⟨[kH 0 0 (.slice none 0 0) 0,YYX 4]⟩) h')(hk2:(∀o∈Q,o.id≠id->o.x≠x)->0<p.s->∀h',Le h h'->V (.tuple ⟨[kH 0 0 (.slice none 0 0) 0,YYX 7]⟩) h')(uv:(∀o∈Q,o.id≠id->o.x≠x)->¬0<p.s->∀q' h',QV h' q' (Q.set i (sJ p x))->Le h h'->V (.tuple ⟨[kH t r q' w,YYX 0]⟩) h'):aq prog 350 [kH t r q w,YYX id,YYX x] h V:=by
 obtain⟨qx,qc,rfl,_⟩:=(show Sl bL h q Q from hq)
 apply YYW;rw[acZ];simp(disch:=try exact Y)only[Wz,kH];obtain⟨hA,bg⟩:∃hA:af,hA=⟨h.nx+1+1+1+1,((((h.bl.bt (h.nx) (gJ t r (.slice qx Q.length qc) w)).bt (h.nx+1) (ah [YYX id] 3 false)).bt (h.nx+1+1) (ah [YYX x] 3 false)).bt (h.nx+1+1+1) (o_)),h.lo⟩:=⟨_,rfl⟩
 have aS:Le h hA:=by subst bg;exact(((((Le.refl h).new _).new _).new _).new _)
 have g1:hA.bl.get (h.nx)=some (gJ t r (.slice qx Q.length qc) w):=by subst bg;exact(T.aD _ _ YYZ).trans ((T.aD _ _ YYZ).trans ((T.aD _ _ YYZ).trans (T.az _ _ _)))
 have g3:hA.bl.get (h.nx+1)=some (ah [YYX id] 3 false):=by subst bg;exact(T.aD _ _ YYZ).trans ((T.aD _ _ YYZ).trans (T.az _ _ _))
 have g5:hA.bl.get (h.nx+1+1)=some (ah [YYX x] 3 false):=by subst bg;exact(T.aD _ _ YYZ).trans (T.az _ _ _)
 have g7:hA.bl.get (h.nx+1+1+1)=some (o_):=by subst bg;exact T.az _ _ _
 have dP:hA.nx=h.nx+1+1+1+1:=by subst bg;rfl
 have dQ:hA.lo=h.lo:=by subst bg;rfl
 rw[<-bg];clear bg;refine Ik t r _ w Q hA _ (hq.le aS) YYZ YYZ ?_;intro q2 h2 mE hle2;have wY:=hle2.nx;have wZ:=hle2.lo;have g3:=(hle2.get _ YYZ).trans g3;have g5:=(hle2.get _ YYZ).trans g5;have g7:=(hle2.get _ YYZ).trans g7;obtain⟨xV,xW,rfl,_⟩:=(show Sl bL h2 q2 Q from mE.sl)
 simp(disch:=try exact Y)only[Wz,kH,g3];obtain⟨hB,ig,ct,g11,BX,BZ⟩:=jH h2 (mO t r (.slice xV Q.length xW) w);rw[<-ig];clear ig;have uW:=ct.nx;have uX:=ct.lo;have g3:=(ct.get _ YYZ).trans g3;have g5:=(ct.get _ YYZ).trans g5;have g7:=(ct.get _ YYZ).trans g7;have OC:=mE.le ct;refine uU t r _ w id Q hB _ OC.sl YYZ YYZ ?_;intro h3 bP;have KG:=bP.nx;have KH:=bP.lo;have g3:=(bP.get _ YYZ).trans g3;have g5:=(bP.get _ YYZ).trans g5;have g7:=(bP.get _ YYZ).trans g7;have g11:=(bP.get _ YYZ).trans g11;have ta:=OC.le bP;have nN:Le h h3:=((aS.trans hle2).trans ct).trans bP;rcases nQ Q id with⟨_,e⟩|⟨j,p',e,hj,hjd,_⟩
 .exact absurd hid (tE e p (List.mem_of_getElem? hi))
 have hij:j=i:=RM hp hj hi (by rw[hjd,hid]);subst hij;rw[hi]at hj;cases hj;rw[e];simp(disch:=try exact Y)only[Wz,gG,cG (show(0:Int)<=(j:Int)by omega),Ib,g11];refine nO Q (λo=>decide (o.id≠id) && decide (o.x=x)) h3 _ _ _ ta.sl YYZ ?_ ?_
 .intro o ho h4 κ4 cI Cp;have KI:=cI.nx;have KJ:=cI.lo;have g3:=(cI.get _ YYZ).trans g3;have g5:=(cI.get _ YYZ).trans g5;simp(disch:=try exact Y)only[Wz,List.nil_append,List.cons_append];exact WM id x o (h.nx+1) (h.nx+1+1) h4 κ4 YYZ YYZ YYZ g3 g5 Cp
 intro h4 cI;have KI:=cI.nx;have KJ:=cI.lo;have g3:=(cI.get _ YYZ).trans g3;have g5:=(cI.get _ YYZ).trans g5;have g7:=(cI.get _ YYZ).trans g7;have g11:=(cI.get _ YYZ).trans g11;have Qa:=ta.le cI;have oZ:=nN.trans cI;cases Fp:Q.any (λo=>decide (o.id≠id) && decide (o.x=x))with
 |true=>
  simp(disch:=try exact Y)only[Wz,g7];rw[List.any_eq_true]at Fp;obtain⟨o,ho,h1⟩:=Fp;simp only[Bool.and_eq_true,decide_eq_true_eq]at h1;exact cZ ⟨o,ho,h1⟩ _ (oZ.set (b:=h.nx+1+1+1) YYZ _)
 |false=>
  have hno:∀o∈Q,o.id≠id->o.x≠x:=by
   intro o ho h1 h2;rw[List.any_eq_false]at Fp;have:=Fp o ho;simp[h1,h2]at this
  obtain⟨b,o,hb,om,mK⟩:=WD Qa.sl j hi;simp(disch:=try exact Y)only[Wz,Ia,g11,om,mK];refine Ec p ?_;by_cases hs:0<p.s
  .simp(disch:=try exact Y)only[Wz,bf hs,g7];exact hk2 hno hs _ (oZ.set (b:=h.nx+1+1+1) YYZ _)
  .rcases Qa with⟨rfl,_⟩|⟨bo,e1,k1,k2,k3,k4⟩
   .simp at hi
   cases e1;have hjl:j<Q.length:=(List.getElem?_eq_some_iff.1 hi).1;have hfl:=bB (enc:=bL) cV Q;have DJ:=iL (p':=sJ p x) (ws:=[YYX x]) (j:=1) cV hi (by show 1+1<=5;omega) rfl;have WN:bo≠h2.nx:=by rintro rfl;rw[g11]at k4;exact bI k4
   have Ee:bo≠h.nx+1+1+1:=by rintro rfl;rw[g7]at k4;exact bI k4
   simp(disch:=try exact Y)only[Wz,aZ hs,H_,g11,g5,g7,br,k4,DJ];have k0:hA.nx<=bo:=k1;refine uv hno hs _ _ (QV.blk (by show bo<h4.nx;omega) ((T.aD _ _ (λe=>Ee e.symm)).trans (T.az _ _ _)) (by simp)) ((oZ.set (b:=bo) YYZ _).set (b:=h.nx+1+1+1) YYZ _)
def cQ(n:Int):List Value:=[YYX n]
theorem dA(n:Int):(cQ n).length=1:=rfl
theorem kr(n:Int):(cQ n).all dK=true:=rfl
abbrev B0(a h:af)(v:Value)(L:List Int):Prop:=iJ cQ a 3 h v L
theorem Io{Q:List R5}{W:Int}(v:VQ Q W){i:Nat}{r:R5}(hf:fC Q=some i)(hr:Q[i]? = some r)(hfit:ja Q r=true):eU (jD Q+1) Q=((eU (jD (Q.set i (eP r))+1) (Q.set i (eP r))).1,r.id::(eU (jD (Q.set i (eP r))+1) (Q.set i (eP r))).2):=by
 have hc:=tC hr (kX v hf hr)
 conv=>lhs;unfold eU
 simp only[hf,hr,hfit,if_true];rw[hc]
theorem SK{Q:List R5}(h:tD Q):eU (jD Q+1) Q=(Q,[]):=zW h _
theorem AF{Q:List R5}(h:fC Q=none):tD Q:=λi r e=>by rw[h]at e;cases e
theorem KK{Q:List R5}{i:Nat}{r:R5}(h:fC Q=some i)(hr:Q[i]? = some r)(hf:ja Q r=false):tD Q:=λj q e hq=>by
 rw[h]at e;cases e;rw[hr]at hq;cases hq;exact hf
set_option maxHeartbeats 2000000 in
theorem adj(t r:Int)(q:Value)(w:Int)(Q:List R5)(h:af)(V:KQ)(hq:Sl bL h q Q)(hlen:Q.length<=100000)(hlo:h.lo<=h.nx)(vq:VQ Q w)(hk:∀q' v' h',QV h' q' (eU (jD Q+1) Q).1->B0 h h' v' (eU (jD Q+1) Q).2->Le h h'->V (.tuple ⟨[kH t r q' w,v']⟩) h'):aq prog 344 [kH t r q w] h V:=by
 obtain⟨qx,qc,rfl,_⟩:=(show Sl bL h q Q from hq)
 apply YYW;rw[acS];simp(disch:=try exact Y)only[Wz,kH];obtain⟨hA,bg,aS,g1,g3,dP,dQ⟩:=Km h (gJ t r (.slice qx Q.length qc) w) (o_);rw[<-bg];clear bg;refine Ik t r _ w Q hA _ (hq.le aS) YYZ YYZ ?_;intro q2 h2 mE hle2;have wY:=hle2.nx;have wZ:=hle2.lo;have g3:=(hle2.get _ YYZ).trans g3;obtain⟨xV,xW,rfl,_⟩:=(show Sl bL h2 q2 Q from mE.sl)
 simp(disch:=try exact Y)only[Wz,kH];obtain⟨hB,ig,ct,g7,BX,BZ⟩:=jH h2 (mO t r (.slice xV Q.length xW) w);rw[<-ig];clear ig;have uW:=ct.nx;have uX:=ct.lo;have g3:=(ct.get _ YYZ).trans g3;have OC:=mE.le ct;have aij:Le h hB:=(aS.trans hle2).trans ct
 refine ⟨λn l h1=>∃(K:List R5)(ids:List Int),VQ K w/\n=jD K+1/\eU (jD Q+1) Q=((eU (jD K+1) K).1,ids++(eU (jD K+1) K).2)/\K.length=Q.length/\ids.length+jD K<=jD Q/\
   B0 h h1 (an l 49) ids/\(yp hA h1 (.slice xV K.length xW) K)/\h1.bl.get (h.nx+1)=some o_/\h1.bl.get h2.nx=some (mO t r (.slice xV Q.length xW) w)/\Le h h1/\hB.nx<=h1.nx,
  ⟨_,Q,[],vq,rfl,by simp,rfl,by simp,.inl ⟨rfl,.inl rfl⟩,OC,g3,g7,aij,Nat.le_refl _⟩,?_⟩
 rintro n l h3 ⟨K,ids,vk,rfl,hsc,hKl,Z9,hoI,hoK,g3,g7,bP,n3⟩;have l3:=bP.lo;obtain⟨vi,ei⟩:∃vi,an l 49=vi:=⟨_,rfl⟩
 rw[ei]at hoI;rw[hKl]at hoK;have hcK:jD K<=K.length:=List.length_filter_le _ _;have hcQ:jD Q<=Q.length:=List.length_filter_le _ _;simp(disch:=try exact Y)only[Wz,HV,g7];refine Ij t r _ w K h3 _ hoK.sl YYZ YYZ ?_;intro h4 cI;have KI:=cI.nx;have KJ:=cI.lo;have g3:=(cI.get _ YYZ).trans g3;have g7:=(cI.get _ YYZ).trans g7;have WO:=hoK.le cI;have aik:=hoI.le cI;have oZ:=bP.trans cI;have finish:∀h',h4.nx<=h'.nx->Le h h'->B0 h h' vi ids->yp hA h' (.slice xV Q.length xW) K->h'.bl.get (h.nx+1)=some o_->tD K->V (.tuple ⟨[.agg ⟨[YYX t,YYX r,.slice xV Q.length xW,YYX w]⟩,vi]⟩) ⟨h'.nx,h'.bl.bt (h.nx+1) (gJ t r (.slice xV Q.length xW) w),h'.lo⟩:=by
  intro h' hn hl hi hr hg hst;rw[SK hst]at hsc;rw[hsc,List.append_nil]at hk;exact hk _ _ _ (QV.put (QV.own hr) (λvs op=>by rw[hg];exact bG YYQ) _) (iJ.put hi (by rw[hg];exact bI) _) (hl.set (b:=h.nx+1) YYZ _)
 cases hf:fC K with
 |none=>
  simp(disch:=try exact Y)only[Wz,gG,dZ (show(-1:Int)<0 by decide),g7,g3,ei];exact finish h4 (Nat.le_refl _) oZ aik WO g3 (AF hf)
 |some i=>
  obtain⟨p,hp,_⟩:=tu hf;obtain⟨b,o,hb,om,mK⟩:=WD WO.sl i hp;simp(disch:=try exact Y)only[Wz,gG,cG (show(0:Int)<=(i:Int)by omega),g7,om,mK,List.append_nil,List.cons_append,List.nil_append];refine Ed t r _ w p K h4 _ WO.sl YYZ YYZ ?_;intro h5 fQ;have ane:=fQ.nx;have anf:=fQ.lo;have g3:=(fQ.get _ YYZ).trans g3;have g7:=(fQ.get _ YYZ).trans g7;have ail:=WO.le fQ;have aim:=aik.le fQ;have sL:=oZ.trans fQ;cases hfit:ja K p with
  |false=>
   simp(disch:=try exact Y)only[Wz,g7,g3,ei];exact finish h5 YYZ sL aim ail g3 (KK hf hp hfit)
  |true=>
   rcases ail with⟨rfl,_⟩|⟨bo,e1,k1,k2,k3,k4⟩
   .simp at hp
   rw[hKl]at e1;cases e1;have hil:i<K.length:=(List.getElem?_eq_some_iff.1 hp).1;have hfl:=bB (enc:=bL) cV K;have ang:((K.set i ⟨p.id,p.x,p.w,p.w,p.s⟩).flatMap bL).length=K.length*5:=by rw[bB cV,List.length_set]
   have DJ:=iL (p':=⟨p.id,p.x,p.w,p.w,p.s⟩) (ws:=[YYX p.w]) (j:=2) cV hp (by show 2+1<=5;omega) rfl;have hp2:(K.set i ⟨p.id,p.x,p.w,p.w,p.s⟩)[i]? = some ⟨p.id,p.x,p.w,p.w,p.s⟩:=by rw[List.getElem?_set,if_pos rfl,if_pos hil]
   have BS:=iL (p':=eP p) (ws:=[YYX 0]) (j:=4) cV hp2 (by show 4+1<=5;omega) rfl;rw[List.set_set]at BS;have WN:bo≠h2.nx:=by rintro rfl;rw[g7]at k4;exact bI k4
   have Ee:bo≠h.nx+1:=by rintro rfl;rw[g3]at k4;exact bI k4
   have hsl:(K.set i (eP p)).length=K.length:=List.length_set;rw[hKl]at hsl;have QJ:(K.set i (eP p))[i]? = some (eP p):=by rw[List.getElem?_set,if_pos rfl,if_pos hil]
   have r3:=ki (j:=3) cV hp YYQ;have r0:=ki (j:=0) cV QJ YYQ;have r3:(K.flatMap bL)[i*5+3]? = some (YYX p.w):=r3;have r0:((K.set i (eP p)).flatMap bL)[i*5]? = some (YYX p.id):=r0;simp(disch:=try exact Y)only[Wz,HU,g7,br,k4,DJ,BS,ei,r3,r0];obtain⟨hC,eC⟩:∃hC:af,hC=⟨h5.nx,h5.bl.bt bo (ah ((K.set i (eP p)).flatMap bL) 164 true),h5.lo⟩:=⟨_,rfl⟩
   have WQ:Le h hC:=by subst eC;exact sL.set (b:=bo) YYZ _
   have nC:hC.nx=h5.nx:=by rw[eC]
   have lC:hC.lo=h5.lo:=by rw[eC]
   have gC:hC.bl.get bo=some (ah ((K.set i (eP p)).flatMap bL) 164 true):=by subst eC;exact T.az _ _ _
   have g3C:hC.bl.get (h.nx+1)=some o_:=by subst eC;exact(T.aD _ _ Ee).trans g3
   have g7C:hC.bl.get h2.nx=some (mO t r (YYU bo Q.length aX) w):=by subst eC;exact(T.aD _ _ WN).trans g7
   have hoC:B0 h hC vi ids:=by subst eC;exact iJ.put aim (by rw[k4];exact bG YYQ) _
   have e2:(⟨h5.nx+1,(h5.bl.bt bo (ah ((K.set i (eP p)).flatMap bL) 164 true)).bt h5.nx (ah [YYX p.id] 3 false),h5.lo⟩:af)=⟨hC.nx+1,hC.bl.bt hC.nx (ah [YYX p.id] 3 false),hC.lo⟩:=by rw[eC]
   rw[e2,show h5.nx=hC.nx from nC.symm];have hle1:=(Le.refl hC).new (ah [YYX p.id] 3 false);have vk2:=vk.RO hf hp hfit;have hcg:=tC hp (kX vk hf hp);refine l_ (enc:=cQ) (a:=h) (L:=ids) (M:=[p.id]) dA kr YYQ YYQ (hoC.le hle1) (Sl.new (L:=[p.id]) (e:=3) (op:=false) (Nat.lt_succ_self _) (T.az _ _ _) _) (WQ.new _) (by simp;omega) (by show hC.lo<=hC.nx+1;omega) _ ?_;intro v' h6 Zw p_ ye hn2 hl6 hsame;have n6:hC.nx+1<=h6.nx:=hn2;have keep:∀c o',c<hC.nx->hC.bl.get c=some o'->some o'≠some (ah (ids.flatMap cQ) 3 true)->h6.bl.get c=some o':=by
    intro c o' hc hg hne;have e:(hC.bl.bt hC.nx (ah [YYX p.id] 3 false)).get c=hC.bl.get c:=T.aD _ _ YYZ;exact(hsame c (Nat.lt_succ_of_lt hc) (λk=>hne (by rw[<-hg,<-e];exact k))).trans (e.trans hg)
   have asy:h6.lo=hC.lo:=hl6;refine⟨_,YYZ,K.set i (eP p),ids++[p.id],vk2,rfl,?_,by simpa using hKl,by simp;omega,Zw,?_,?_,?_,p_,YYZ⟩
   .rw[hsc,Io vk hf hp hfit];simp
   .refine .inr ⟨bo,rfl,YYZ,YYZ,YYZ,keep bo _ YYZ gC (bG YYQ)⟩
   .exact keep _ _ YYZ g3C (bG YYQ)
   .exact keep _ _ YYZ g7C (bG YYQ)
theorem M7(t r:Int)(q:Value)(w id:Int)(Q:List R5)(h:af)(V:KQ)(hq:Sl bL h q Q)(hlen:Q.length<=100000)(hlo:h.lo<=h.nx)(hk:∀h',Le h h'->V (match cB Q id with|some p=>.tuple ⟨[mN p,.bool true]⟩|none=>.tuple ⟨[mN ⟨0,0,0,0,0⟩,.bool false]⟩) h'):aq prog 154 [kH t r q w,YYX id] h V:=by
 obtain⟨qx,qc,rfl,_⟩:=(show Sl bL h q Q from hq)
 apply YYW;rw[abo];simp(disch:=try exact Y)only[Wz,kH];obtain⟨hA,bg,aS,g1,g3,dP,dQ⟩:=Km h (gJ t r (.slice qx Q.length qc) w) (lV ⟨0,0,0,0,0⟩);rw[<-bg];clear bg;refine uU t r _ w id Q hA _ (hq.le aS) YYZ YYZ ?_;intro h2 hle2;have wY:=hle2.nx;have wZ:=hle2.lo;have g1:=(hle2.get _ YYZ).trans g1;have g3:=(hle2.get _ YYZ).trans g3;rcases nQ Q id with⟨e,e2⟩|⟨i,p,e,hi,hjd,e2⟩
 .rw[e];simp(disch:=try exact Y)only[Wz,gG,dZ (show(-1:Int)<0 by decide),g3];rw[e2]at hk;exact hk _ ((aS.trans hle2).set (b:=h.nx+1) YYZ _)
 .rw[e];obtain⟨b,o,hb,om,mK⟩:=WD (hq.le (aS.trans hle2)) i hi;simp(disch:=try exact Y)only[Wz,gG,cG (show(0:Int)<=(i:Int)by omega),g1,g3,om,mK,bL];rw[e2]at hk;exact hk _ ((aS.trans hle2).set (b:=h.nx+1) YYZ _)
theorem SM{Q:List R5}{i:Nat}{p p1:R5}(hi:Q[i]? = some p)(hid:p.id=p1.id):ja (Q.set i p1) p1=ja Q p1:=by
 rw[Bool.eq_iff_iff,kj,kj];constructor
 .intro h o ho h1 h2;obtain⟨k,hk⟩:=List.getElem?_of_mem ho;have hki:i≠k:=by rintro rfl;rw[hi]at hk;cases hk;exact h1 hid
  exact h o (List.mem_of_getElem? (i:=k) (by rw[List.getElem?_set,if_neg hki];exact hk)) h1 h2
 .intro h o ho h1 h2;rcases mem_set ho with rfl|ho
  .exact absurd rfl h1
  .exact h o ho h1 h2
theorem WR{Q:List R5}{i:Nat}{p p1:R5}(hi:Q[i]? = some p)(hu:yM p1=yM p):(Q.set i p1).any yM=Q.any yM:=by
 rw[Bool.eq_iff_iff,List.any_eq_true,List.any_eq_true];have hil:=(List.getElem?_eq_some_iff.1 hi).1;constructor
 .rintro⟨o,ho,h⟩;rcases mem_set ho with rfl|ho
  .exact⟨p,List.mem_of_getElem? hi,by rw[<-hu];exact h⟩
  .exact⟨o,ho,h⟩
 .rintro⟨o,ho,h⟩;obtain⟨k,hk⟩:=List.getElem?_of_mem ho;by_cases hki:i=k
  .subst hki;rw[hi]at hk;cases hk;exact⟨p1,List.mem_of_getElem? (i:=i) (by rw[List.getElem?_set,if_pos rfl,if_pos hil]),by rw[hu];exact h⟩
  .exact⟨o,List.mem_of_getElem? (i:=k) (by rw[List.getElem?_set,if_neg hki];exact hk),h⟩
theorem aJ{β:Type}{fl:β}(b o:Nat)(h:af)(V:YYY β):aT fl (.pointer (some ⟨b,o,none⟩)) h V=V (.pointer (some ⟨b,o,none⟩)) h:=id rfl
set_option maxHeartbeats 2000000 in
theorem AG(t r:Int)(q:Value)(w id m:Int)(Q:List R5)(h:af)(V:KQ)(hq:Sl bL h q Q)(hlen:Q.length<=100000)(hlo:h.lo<=h.nx)(hw:0<=w/\w<=1000000)(iE:cu m=false->∀h',Le h h'->V (.tuple ⟨[kH 0 0 (.slice none 0 0) 0,.bool false,YYX 2]⟩) h')(cZ:cu m=true->cB Q id=none->∀h',Le h h'->V (.tuple ⟨[kH 0 0 (.slice none 0 0) 0,.bool false,YYX 5]⟩) h')(hk2:cu m=true->∀p,cB Q id=some p->0<p.s->∀h',Le h h'->V (.tuple ⟨[kH 0 0 (.slice none 0 0) 0,.bool false,YYX 7]⟩) h')(uv:cu m=true->∀i p,Q[i]? = some p->cB Q id=some p->¬0<p.s->∀q' h',QV h' q' (Q.set i (jW Q w p m).1)->Le h h'->V (.tuple ⟨[kH t r q' (jW Q w p m).2.1,.bool (jW Q w p m).2.2,YYX 0]⟩) h'):aq prog 349 [kH t r q w,YYX id,YYX m] h V:=by
 obtain⟨qx,qc,rfl,_⟩:=(show Sl bL h q Q from hq)
 apply YYW;rw[acY];simp(disch:=try exact Y)only[Wz,kH];obtain⟨hA,bg,aS,g1,g3,dP,dQ⟩:=Km h (gJ t r (.slice qx Q.length qc) w) (o_);rw[<-bg];clear bg;refine Ii m ?_;cases ha:cu m with
 |false=>
  simp(disch:=try exact Y)only[Wz,g3];exact iE ha _ (aS.set (b:=h.nx+1) YYZ _)
 |true=>
 simp(disch:=try exact Y)only[Wz,H9,g1];refine Ik t r _ w Q hA _ (hq.le aS) YYZ YYZ ?_;intro q2 h2 mE hle2;have wY:=hle2.nx;have wZ:=hle2.lo;have g3:=(hle2.get _ YYZ).trans g3;obtain⟨xV,xW,rfl,_⟩:=(show Sl bL h2 q2 Q from mE.sl)
 simp(disch:=try exact Y)only[Wz,kH];obtain⟨hB,ig,ct,g12,BX,BZ⟩:=jH h2 (mO t r (.slice xV Q.length xW) w);rw[<-ig];clear ig;have uW:=ct.nx;have uX:=ct.lo;have g3:=(ct.get _ YYZ).trans g3;have OC:=mE.le ct;refine uU t r _ w id Q hB _ OC.sl YYZ YYZ ?_;intro h3 bP;have KG:=bP.nx;have KH:=bP.lo;have g3:=(bP.get _ YYZ).trans g3;have g12:=(bP.get _ YYZ).trans g12;have ta:=OC.le bP;have nN:Le h h3:=((aS.trans hle2).trans ct).trans bP;rcases nQ Q id with⟨e,e2⟩|⟨i,p,e,hi,hjd,e2⟩
 .rw[e];simp(disch:=try exact Y)only[Wz,gG,dZ (show(-1:Int)<0 by decide),g3];exact cZ ha e2 _ (nN.set (b:=h.nx+1) YYZ _)
 rw[e];obtain⟨b,o,hb,om,mK⟩:=WD ta.sl i hi;simp(disch:=try exact Y)only[Wz,gG,cG (show(0:Int)<=(i:Int)by omega),H8,g12,om,mK];refine Ec p ?_;by_cases hs:0<p.s
 .simp(disch:=try exact Y)only[Wz,bf hs,g3];exact hk2 ha p e2 hs _ (nN.set (b:=h.nx+1) YYZ _)
 rcases ta with⟨rfl,_⟩|⟨bo,e1,k1,k2,k3,k4⟩
 .simp at hi
 cases e1;have hil:i<Q.length:=(List.getElem?_eq_some_iff.1 hi).1;obtain⟨wt,WT⟩:∃wt,bM p.m m=wt:=⟨_,rfl⟩
 have hfl:=bB (enc:=bL) cV Q;have r2:(Q.flatMap bL)[i*5+2]? = some (YYX p.m):=ki (j:=2) cV hi YYQ;have DJ:=iL (p':=⟨p.id,p.x,p.m,wt,p.s⟩) (ws:=[YYX wt]) (j:=3) cV hi (by show 3+1<=5;omega) rfl;obtain⟨p1,Zx⟩:∃p1:R5,p1=⟨p.id,p.x,p.m,wt,p.s⟩:=⟨_,rfl⟩
 rw[<-Zx]at DJ;have hp2:(Q.set i p1)[i]? = some p1:=by rw[List.getElem?_set,if_pos rfl,if_pos hil]
 have ang:((Q.set i p1).flatMap bL).length=Q.length*5:=by rw[bB cV,List.length_set]
 have s2:((Q.set i p1).flatMap bL)[i*5+2]? = some (YYX p.m):=by rw[ki (j:=2) cV hp2 YYQ,Zx];rfl
 have s3:((Q.set i p1).flatMap bL)[i*5+3]? = some (YYX wt):=by rw[ki (j:=3) cV hp2 YYQ,Zx];rfl
 have WN:bo≠h2.nx:=by rintro rfl;rw[g12]at k4;exact bI k4
 have Ee:bo≠h.nx+1:=by rintro rfl;rw[g3]at k4;exact bI k4
 simp(disch:=try exact Y)only[Wz,aZ hs,H7,g12,br,aJ,k4,r2];refine Ay _ _ ?_;rw[WT];simp(disch:=try exact Y)only[Wz,aJ,k4,DJ,s2,s3];obtain⟨hC,eC⟩:∃hC:af,hC=⟨h3.nx,h3.bl.bt bo (ah ((Q.set i p1).flatMap bL) 164 true),h3.lo⟩:=⟨_,rfl⟩
 have WQ:Le h hC:=by subst eC;exact nN.set (b:=bo) YYZ _
 have nC:hC.nx=h3.nx:=by rw[eC]
 have lC:hC.lo=h3.lo:=by rw[eC]
 have gC:hC.bl.get bo=some (ah ((Q.set i p1).flatMap bL) 164 true):=by subst eC;exact T.az _ _ _
 have g3C:hC.bl.get (h.nx+1)=some o_:=by subst eC;exact(T.aD _ _ Ee).trans g3
 have adl:hC.bl.get h2.nx=some (mO t r (YYU bo Q.length aX) w):=by subst eC;exact(T.aD _ _ WN).trans g12
 rw[<-eC];have hoC:yp hA hC (YYU bo Q.length aX) (Q.set i p1):=.inr ⟨bo,by rw[List.length_set],k1,YYZ,YYZ,gC⟩;have eid:p.id=p1.id:=by rw[Zx]
 have eup:yM p1=yM p:=by rw[Zx];rfl
 have anh:=SM hi eid;have ani:=WR hi eup
 have OE:∀(g:Bool)(hD:af),hD.bl.get bo=some (ah ((Q.set i p1).flatMap bL) 164 true)->hD.bl.get (h.nx+1)=some o_->hD.bl.get h2.nx=some (mO t r (YYU bo Q.length aX) w)->Le h hD->hC.nx<=hD.nx->
   jW Q w p m=(⟨p.id,p.x,wt,wt,p.s⟩,w,true)->
   dO (λVb=>Au (.pointer (some ⟨bo,i*5,none⟩)) Vb (.bool true) hD) λl76 h_14=>
    yh False (h_14.bl.get h2.nx) 0 4 λl=>U0 False (h_14.bl.get (h.nx+1)) 4 (h.nx+1) 0 l h_14 λh_15=>yh False (h_15.bl.get (h.nx+1)) 0 4 λl=>V (.tuple ⟨[.agg ⟨l⟩,.bool true,YYX 0]⟩) h_15:=by
  intro g hD d1 d2 d3 hl hn he;have ll:=hl.lo;have BS:=iL (p':=⟨p.id,p.x,wt,wt,p.s⟩) (ws:=[YYX wt]) (j:=2) cV hp2 (by show 2+1<=5;omega) (by rw[Zx];rfl);rw[List.set_set]at BS;refine⟨λl h'=>HQ ⟨hD.nx,hD.bl.bt bo (ah ((Q.set i ⟨p.id,p.x,wt,wt,p.s⟩).flatMap bL) 164 true),hD.lo⟩ h',?_,?_⟩
  .simp(disch:=try exact Y)only[Wz,Au,aJ,d1,s3,BS];rfl
  .intro l h' Dn;cases(show _=h' from Dn);simp(disch:=try exact Y)only[Wz,d3,d2];have key:=uv ha i p hi e2 hs;rw[he]at key;exact key _ _ (QV.blk (by show bo<hD.nx;omega) ((T.aD _ _ (λe=>Ee e.symm)).trans (T.az _ _ _)) (by simp)) ((hl.set (b:=bo) YYZ _).set (b:=h.nx+1) YYZ _)
 have aio:∀(hD:af),hD.bl.get bo=some (ah ((Q.set i p1).flatMap bL) 164 true)->hD.bl.get (h.nx+1)=some o_->hD.bl.get h2.nx=some (mO t r (YYU bo Q.length aX) w)->Le h hD->hC.nx<=hD.nx->
   jW Q w p m=(⟨p.id,p.x,p.m,wt,w+1⟩,w+1,false)->
   dO (λVb=>Av h2.nx (.pointer (some ⟨bo,i*5,none⟩)) Vb (.bool false) hD) λl76 h_14=>
    yh False (h_14.bl.get h2.nx) 0 4 λl=>U0 False (h_14.bl.get (h.nx+1)) 4 (h.nx+1) 0 l h_14 λh_15=>yh False (h_15.bl.get (h.nx+1)) 0 4 λl=>V (.tuple ⟨[.agg ⟨l⟩,.bool false,YYX 0]⟩) h_15:=by
  intro hD d1 d2 d3 hl hn he;have ll:=hl.lo;have BS:=iL (p':=⟨p.id,p.x,p.m,wt,w+1⟩) (ws:=[YYX (w+1)]) (j:=4) cV hp2 (by show 4+1<=5;omega) (by rw[Zx];rfl);rw[List.set_set]at BS;refine⟨λl h'=>HQ ⟨hD.nx,(hD.bl.bt h2.nx (mO t r (YYU bo Q.length aX) (w+1))).bt bo (ah ((Q.set i ⟨p.id,p.x,p.m,wt,w+1⟩).flatMap bL) 164 true),hD.lo⟩ h',?_,?_⟩
  .simp(disch:=try exact Y)only[Wz,Av,aJ,d1,d3,BS];rfl
  .intro l h' Dn;cases(show _=h' from Dn);simp(disch:=try exact Y)only[Wz,d3,d2];have key:=uv ha i p hi e2 hs;rw[he]at key;exact key _ _ (QV.blk (by show bo<hD.nx;omega) ((T.aD _ _ (λe=>Ee e.symm)).trans (T.az _ _ _)) (by simp)) (((hl.set (b:=h2.nx) YYZ _).set (b:=bo) YYZ _).set (b:=h.nx+1) YYZ _)
 by_cases hq1:wt=p.m
 .simp(disch:=try exact Y)only[Wz,bf hq1];exact OE true hC gC g3C adl WQ (Nat.le_refl _) (by unfold jW;rw[WT,if_pos (by simp[hq1])])
 ·have fa:(((Q.set i p1).flatMap bL).drop (i*5)).take 5=bL p1:=by
   have:=yJ (enc:=bL) cV (Q.set i p1) i (by simpa using hil);rw[this,(List.getElem?_eq_some_iff.1 hp2).2]
  simp(disch:=try exact Y)only[Wz,aZ hq1,g12,adl,gC,fa];refine Ed t r _ w p1 (Q.set i p1) hC _ hoC.sl (by simp;omega) YYZ ?_;intro h5 fQ;have n5:=fQ.nx;have l5:=fQ.lo;have d1:=(fQ.get bo YYZ).trans gC;have d2:=(fQ.get (h.nx+1) YYZ).trans g3C;have d3:=(fQ.get h2.nx YYZ).trans adl;have Zt:=WQ.trans fQ;rw[anh];have aip:ja Q p1=ja Q ⟨p.id,p.x,p.m,bM p.m m,p.s⟩:=by rw[Zx,WT]
  cases hft:ja Q p1 with
  |false=>
   simp(disch:=try exact Y)only[Wz];refine aio h5 d1 d2 d3 Zt n5 ?_;unfold jW;rw[WT,if_neg];rw[<-WT,<-aip,hft,WT];simp[hq1]
  |true=>
   simp(disch:=try exact Y)only[Wz,d3];refine nO (Q.set i p1) yM h5 _ _ _ (hoC.sl.le fQ) (by simp;omega) ?_ ?_
   .intro o ho h6 κ6 hl6 yu;simp(disch:=try exact Y)only[Wz,List.nil_append,List.append_nil];exact AB o (yu h6 (Le.refl _))
   .intro h6 p_;have n6:=p_.nx;have l6:=p_.lo;have d1:=(p_.get bo YYZ).trans d1;have d2:=(p_.get (h.nx+1) YYZ).trans d2;have d3:=(p_.get h2.nx YYZ).trans d3;have hl6:=Zt.trans p_;rw[ani];cases han:Q.any yM with
    |true=>
     simp(disch:=try exact Y)only[Wz];refine aio h6 d1 d2 d3 hl6 YYZ ?_;unfold jW;rw[WT,if_neg];rw[han];simp[hq1]
    |false=>
     simp(disch:=try exact Y)only[Wz];refine OE true h6 d1 d2 d3 hl6 YYZ ?_;unfold jW;rw[WT,if_pos];rw[<-WT,<-aip,hft,han];simp
end Go.Proofs

namespace Go.Vai
section
variable {α:Type}{s:Nat}{enc:α->List Value}
set_option maxRecDepth 20000 in
theorem KL{a h:af}{e:TypeId}{z:List Value}{v x:Value}{L M:List α}(he:∀a:α,(enc a).length=s)(hone:∀a:α,(enc a).all dK=true)(hs0:0<s)(hs1:s<=100)(ho:iJ enc a e h v L)(hx:Sl enc h x M)(hle:Le a h)(hb:L.length+M.length<=1000000)(hal:h.lo<=h.nx)(V:KQ)(hk:∀v' h',iJ enc a e h' v' (L++M)->Le a h'->h'.nx<=h.nx+1->h.nx<=h'.nx->h'.lo=h.lo->(∀b,b<h.nx->h.bl.get b≠some (ah (L.flatMap enc) e true)->h'.bl.get b=h.bl.get b)->(∀b,b<h.nx->(∀n cap,v≠YYU b n cap)->h'.bl.get b=h.bl.get b)->(v'=v\/∃b n cap,h.nx<=b/\v'=YYU b n cap)->V v' h'):bD False e s z false v x h V:=by
 by_cases hM:M=[]
 .subst hM;rw[append_nil hx (by rcases ho with⟨rfl,rfl|⟨b,o,rfl⟩⟩|⟨b,rfl,_⟩<;>exact⟨_,_,_,rfl⟩)];exact hk v h (by simpa using ho) hle (Nat.le_succ _) (Nat.le_refl _) rfl (λ_ _ _=>rfl) (λ_ _ _=>rfl) (.inl rfl)
 .obtain⟨m,hm⟩:∃m,M.length=m+1:=⟨M.length-1,by have:=List.length_pos_iff.2 hM;omega⟩
  have hfl:=bB (enc:=enc) he;have iK:=hx.first (β:=Prop) (fl:=False) he;obtain⟨y,cap,rfl,h2⟩:=hx;have hml:∀K:List α,K.length<=1000000->(K.flatMap enc).length<=1000000000000:=λK hK=>by
   rw[hfl];have:=Nat.mul_le_mul hK hs1;omega
  have fresh:∀(hh:af)(ws:List Value),ws=(L++M).flatMap enc->Le a hh->hh.nx=h.nx->hh.lo=h.lo->(∀b,b<h.nx->h.bl.get b≠some (ah (L.flatMap enc) e true)->hh.bl.get b=h.bl.get b)->(∀b,b<h.nx->(∀n cap,v≠YYU b n cap)->hh.bl.get b=h.bl.get b)->dh False ws e true hh λb h'=>V (YYU b (L.length+M.length) aX) h':=by
   intro hh ws hw Rb hnx hlo hgt anj;subst hw;unfold dh;rw[iQ _ _ _ _ (hml _ (by simp;omega)),dS];refine hk _ _ (.inr ⟨hh.nx,by simp,Rb.nx,Nat.lt_succ_self _,by show hh.lo<=_;omega,T.az _ _ _⟩) (Rb.new _) (by show hh.nx+1<=_;omega) (by show h.nx<=hh.nx+1;omega) hlo (λb hb hn=>(T.aD _ _ YYZ).trans (hgt b hb hn)) (λb hb hn=>(T.aD _ _ YYZ).trans (anj b hb hn)) (.inr ⟨hh.nx,_,_,YYZ,rfl⟩)
  rcases ho with⟨rfl,hv⟩|⟨b,rfl,h3,h4,h5,h6⟩
  .have hF:=fresh h (M.flatMap enc) (by simp) hle rfl rfl (λ_ _ _=>rfl) (λ_ _ _=>rfl);simp only[List.length_nil,Nat.zero_add]at hF;rcases hv with rfl|⟨b,o,rfl⟩
   .unfold bD kP;simp only;rw[iK];simp only[hm,bY];rw[show Nat.ble (Nat.add 0 (m+1)) 1000000000=true from Nat.ble_eq_true_of_le (by show 0+(m+1)<=_;omega)];rw[hm]at hF;have e1:Nat.add 0 (m+1)=m+1:=by show 0+(m+1)=_;omega
    rw[e1];exact hF
   .unfold bD kP;simp only;rw[iK];simp only[hm,bY];have e1:Nat.add 0 (m+1)=m+1:=by show 0+(m+1)=_;omega
    rw[e1,show Nat.ble (m+1) 1000000000=true from Nat.ble_eq_true_of_le YYZ];rw[hm]at hF
    show eN False h s 0 _ _
    rw[jA _ _ _ _ _ (by simp)];exact hF
  .unfold bD kP;simp only;rw[iK];simp only[hm,bY];have e1:Nat.add L.length (m+1)=L.length+(m+1):=rfl;rw[e1,show Nat.ble (L.length+(m+1)) 1000000000=true from Nat.ble_eq_true_of_le YYZ];have e2:Nat.beq aX gK=false:=by decide
   have e3:Nat.beq aX aX=true:=Nat.beq_refl _;simp only[e2,e3,h6];have e4:Nat.ble (Nat.add 0 (Nat.mul (L.length+(m+1)) s)) (L.flatMap enc).length=false:=by
    rw[hfl];cases Rc:Nat.ble (Nat.add 0 (Nat.mul (L.length+(m+1)) s)) (L.length*s)with
    |false=>rfl
    |true=>
     have h7:0+(L.length+(m+1))*s<=L.length*s:=Nat.le_of_ble_eq_true Rc;rw[Nat.add_mul,Nat.succ_mul]at h7;omega
   have e5:(M.flatMap enc).all dK=true:=by
    rw[List.all_flatMap];simp only[List.all_eq_true];intro x _;exact List.all_eq_true.1 (hone x)
   simp only[ah,Nat.beq_refl,e4,e5,Bool.and_self];have hh:Has (h.bl.get b) 0 (L.flatMap enc):=by rw[h6];exact Has.all
   rw[jl hh s L.length _ _ _ (hfl L).symm,cq _ _ _ _ h5];have hF:=fresh ⟨h.nx,h.bl.bt b (.dead (L.flatMap enc).length e),h.lo⟩ (L.flatMap enc++M.flatMap enc) (by simp) (hle.set h3 _) rfl rfl (λb' _ hn=>T.aD _ _ (λe=>hn (by rw[<-e];exact h6))) (λb' _ hn=>T.aD _ _ (by rintro rfl;exact hn _ _ rfl));rw[hm]at hF;exact hF
end
theorem nR{v v':Value}{vs vs':List Value}{e e':TypeId}{p p':Bool}(h:(some (ah (v::vs) e p):Option bO)=some (ah (v'::vs') e' p')):v=v':=by
 have h1:=congrArg (λob=>uy (none:Option Value) ob 0 some) h;simp only[rM]at h1;exact Option.some.inj h1
end Go.Vai
namespace Go.Proofs
open Go.Vai Go.Clashes
open Tryz (prog)
def WU(b:Nat):Value:=.iface 175 (YYV b)
theorem SN(b : Nat)(h : af)(V : Value → af → Prop):jZ prog "Len" (WU b) [] h V = (aa False 0 (.pointer (some ⟨b, 0, none⟩)) h fun a h => ay False a h fun v h => aq prog 361 [v] h V) := by kernel_rfl
theorem Ef(b : Nat)(i j : Value)(h : af)(V : Value → af → Prop):jZ prog "Less" (WU b) [i, j] h V = (aa False 0 (.pointer (some ⟨b, 0, none⟩)) h fun a h => ay False a h fun v h => aq prog 404 [v, i, j] h V) := by kernel_rfl
theorem Eg(b : Nat)(i j : Value)(h : af)(V : Value → af → Prop):jZ prog "Swap" (WU b) [i, j] h V = (aa False 0 (.pointer (some ⟨b, 0, none⟩)) h fun a h => ay False a h fun v h => aq prog 406 [v, i, j] h V) := by kernel_rfl
theorem WV(b : Nat)(x : Value)(h : af)(V : Value → af → Prop):jZ prog "Push" (WU b) [x] h V = aq prog 408 [.pointer (some ⟨b, 0, none⟩), x] h V := by kernel_rfl
theorem adm(b : Nat)(h : af)(V : Value → af → Prop):jZ prog "Pop" (WU b) [] h V = aq prog 407 [.pointer (some ⟨b, 0, none⟩)] h V := by kernel_rfl
def qm(h:af)(v:Value)(F:List Int):Prop:=(F=[]/\v=.slice none 0 0)\/∃b G,v=YYU b F.length aX/\b<h.nx/\h.lo<=b/\h.bl.get b=some (ah ((F++G).flatMap cQ) 3 true)/\0<(F++G).length
structure ij(h:af)(bp:Nat)(F:List Int)(ls:Value):Prop where
 lt:bp<h.nx
 lo:h.lo<=bp
 cell:∃fs,h.bl.get bp=some (ah [fs,ls] 173 false)/\qm h fs F
def FB(h:af)(bp c:Nat):Prop:=∃n cap ls,h.bl.get bp=some (ah [YYU c n cap,ls] 173 false)
theorem FB.congr{h h':af}{bp c:Nat}(e:h'.bl.get bp=h.bl.get bp):FB h' bp c<->FB h bp c:=by unfold FB;rw[e]
structure AH(bp:Nat)(h h':af):Prop where
 nx:h.nx<=h'.nx
 lo:h'.lo=h.lo
 get:∀c,c<h.nx->c≠bp->(∀vs,h.bl.get c≠some (ah vs 3 true))->h'.bl.get c=h.bl.get c
 g2:bp<h.nx->∀c,c<h.nx->c≠bp->¬FB h bp c->h'.bl.get c=h.bl.get c
 mv:bp<h.nx->∀c,c<h.nx->FB h' bp c->FB h bp c
theorem AH.refl(bp:Nat)(h:af):AH bp h h:=⟨Nat.le_refl _,rfl,λ_ _ _ _=>rfl,λ_ _ _ _ _=>rfl,λ_ _ _ x=>x⟩
theorem AH.trans{bp:Nat}{h h' h'':af}(a:AH bp h h')(b:AH bp h' h''):AH bp h h'':=
 ⟨Nat.le_trans a.nx b.nx,b.lo.trans a.lo,λc hc hn hi=>(b.get c (Nat.lt_of_lt_of_le hc a.nx) hn (λvs=>by rw[a.get c hc hn hi];exact hi vs)).trans (a.get c hc hn hi),
  λhb c hc hn hi=>(b.g2 (Nat.lt_of_lt_of_le hb a.nx) c (Nat.lt_of_lt_of_le hc a.nx) hn λx=>hi (a.mv hb c hc x)).trans (a.g2 hb c hc hn hi),
  λhb c hc x=>a.mv hb c hc (b.mv (Nat.lt_of_lt_of_le hb a.nx) c (Nat.lt_of_lt_of_le hc a.nx) x)⟩
theorem AH.swap{bp:Nat}{h h':af}{fs ls:Value}(hg:h.bl.get bp=some (ah [fs,ls] 173 false))(q1:h'.nx=h.nx)(q2:h'.lo=h.lo)(q4:∀c,(∀vs,h.bl.get c≠some (ah vs 3 true))->h'.bl.get c=h.bl.get c)(q5:∀c,(∀n cap,fs≠YYU c n cap)->h'.bl.get c=h.bl.get c):AH bp h h':=
 ⟨YYZ,q2,λc _ _ hi=>q4 c hi,λ_ c _ _ hn=>q5 c λn cap e=>hn ⟨n,cap,ls,e▸hg⟩,λ_ c _ x=>(FB.congr (q4 bp λvs=>by rw[hg];exact bI)).1 x⟩
theorem uY(F:List Int)(h:af)(v:Value)(V:KQ)(hp:qm h v F)(hk:V (YYX (F.length:Int)) h):aq prog 361 [v] h V:=by
 apply YYW;rw[ac4];rcases hp with⟨rfl,rfl⟩|⟨b,G,rfl,_⟩
 .simp(disch:=try exact Y)only[Wz];exact hk
 .simp(disch:=try exact Y)only[Wz];exact hk
theorem qX{F G:List Int}{i:Nat}{x:Int}(hx:F[i]? = some x):((F++G).flatMap cQ)[i]? = some (YYX x):=by
 have h1:(F++G)[i]? = some x:=by rw[List.getElem?_append_left (List.getElem?_eq_some_iff.1 hx).1];exact hx
 have:=ki (j:=0) dA h1 YYQ;simpa[cQ]using this
theorem AJ{F G:List Int}{i:Nat}{y:Int}(hi:i<F.length):over ((F++G).flatMap cQ) i [YYX y]=((F.set i y)++G).flatMap cQ:=by
 have h1:(F++G)[i]? = some F[i]:=by rw[List.getElem?_append_left hi];exact List.getElem?_eq_getElem hi
 have:=iL (p':=y) (ws:=[YYX y]) (j:=0) dA h1 (by show 0+1<=1;omega) rfl;rw[Nat.mul_one,Nat.add_zero]at this;rw[this,List.set_append,if_pos hi]
theorem w_(F:List Int)(i j:Nat)(h:af)(v:Value)(V:KQ)(hp:qm h v F)(hi:i<F.length)(hj:j<F.length)(hk:V (.bool (decide (F[i]<F[j]))) h):aq prog 404 [v,YYX (i:Int),YYX (j:Int)] h V:=by
 apply YYW;rw[ac_];rcases hp with⟨rfl,rfl⟩|⟨b,G,rfl,h1,h2,h3,h4⟩
 .simp at hi
 .have r1:=qX (G:=G) (List.getElem?_eq_getElem hi);have r2:=qX (G:=G) (List.getElem?_eq_getElem hj);simp(disch:=try exact Y)only[Wz,br,h3,r1,r2,Nat.mul_one];exact hk
def pq(F:List Int)(i j:Nat):List Int:=match F[i]?,F[j]? with|some x,some y=>(F.set i y).set j x|_,_=>F
theorem uZ{F:List Int}{i j:Nat}(hi:i<F.length)(hj:j<F.length):pq F i j=(F.set i F[j]).set j F[i]:=by
 simp only[pq,List.getElem?_eq_getElem hi,List.getElem?_eq_getElem hj]
theorem xb(F:List Int)(i j:Nat):(pq F i j).length=F.length:=by
 unfold pq;split<;>simp
theorem xe(F:List Int)(i j:Nat)(h:af)(v:Value)(V:KQ)(hp:qm h v F)(hi:i<F.length)(hj:j<F.length)(hk:∀h',h'.nx=h.nx->h'.lo=h.lo->qm h' v (pq F i j)->(∀c,(∀vs,h.bl.get c≠some (ah vs 3 true))->h'.bl.get c=h.bl.get c)->(∀c,(∀n cap,v≠YYU c n cap)->h'.bl.get c=h.bl.get c)->V (.tuple ⟨[]⟩) h'):aq prog 406 [v,YYX (i:Int),YYX (j:Int)] h V:=by
 apply YYW;rw[ada];rcases hp with⟨rfl,rfl⟩|⟨b,G,rfl,h1,h2,h3,h4⟩
 .simp at hi
 .have r1:=qX (G:=G) (List.getElem?_eq_getElem hi);have r2:=qX (G:=G) (List.getElem?_eq_getElem hj);have hl:=bB (enc:=cQ) dA (F++G);have ot:=bB (enc:=cQ) dA ((F.set i F[j])++G);have ov1:=AJ (G:=G) (y:=F[j]) hi;have ov2:=AJ (G:=G) (F:=F.set i F[j]) (y:=F[i]) (i:=j) (by simpa using hj);have hlen:(F++G).length=F.length+G.length:=List.length_append;have apY:((F.set i F[j])++G).length=F.length+G.length:=by simp
  simp(disch:=try exact Y)only[Wz,br,h3,r1,r2,Nat.mul_one,ov1,ov2];refine hk _ rfl rfl (.inr ⟨b,G,by rw[xb],h1,h2,?_,?_⟩) ?_ λc hc=>T.aD _ _ (by rintro rfl;exact hc _ _ rfl)
  .rw[uZ hi hj];exact T.az _ _ _
  .rw[List.length_append,xb];simpa using h4
  .intro c hc;refine T.aD _ _ ?_;rintro rfl;exact hc _ h3
theorem tG{F:List Int}{i j:Nat}(hi:i<F.length)(hj:j<F.length):(pq F i j).Perm F:=by
 rw[uZ hi hj];exact List.set_set_perm hi hj
theorem gD{F:List Int}{i:Nat}(h:i<F.length):F.getD i 0=F[i]:=by
 rw[List.getD_eq_getElem?_getD,List.getElem?_eq_getElem h];rfl
theorem u5{F:List Int}{i j:Nat}(hi:i<F.length)(hj:j<F.length)(k:Nat):(pq F i j).getD k 0=if k=j then F.getD i 0 else if k=i then F.getD j 0 else F.getD k 0:=by
 rw[uZ hi hj,gD hi,gD hj];simp only[List.getD_eq_getElem?_getD,List.getElem?_set,List.length_set];by_cases h1:j=k
 .subst h1;rw[if_pos rfl,if_pos hj,if_pos rfl];rfl
 .have WW:¬k=j:=λe=>h1 e.symm;rw[if_neg h1,if_neg WW];by_cases h2:i=k
  .subst h2;rw[if_pos rfl,if_pos hi,if_pos rfl];rfl
  .have h2':¬k=i:=λe=>h2 e.symm;rw[if_neg h2,if_neg h2']
def HN(F:List Int)(n:Nat):Prop:=∀i,0<i->i<n->F.getD ((i-1) / 2) 0<=F.getD i 0
abbrev HP(F:List Int):Prop:=HN F F.length
structure AK(F:List Int)(j:Nat):Prop where
 a:∀i,0<i->i<F.length->i≠j->F.getD ((i-1) / 2) 0<=F.getD i 0
 b:0<j->∀i,0<i->i<F.length->(i-1) / 2=j->F.getD ((j-1) / 2) 0<=F.getD i 0
structure yw(F:List Int)(i n:Nat):Prop where
 a:∀k,0<k->k<n->(k-1) / 2≠i->F.getD ((k-1) / 2) 0<=F.getD k 0
 b:0<i->∀k,0<k->k<n->(k-1) / 2=i->F.getD ((i-1) / 2) 0<=F.getD k 0
theorem AK.step{F:List Int}{j:Nat}(u:AK F j)(h0:0<j)(hj:j<F.length)(hlt:F.getD j 0<F.getD ((j-1) / 2) 0):AK (pq F ((j-1) / 2) j) ((j-1) / 2):=by
 have hp:(j-1) / 2<F.length:=by omega
 have G:=u5 (F:=F) hp hj;have L:=xb F ((j-1) / 2) j;refine⟨λi h1 h2 h3=>?_,λhp0 i h1 h2 h3=>?_⟩
 .rw[L]at h2;rw[G,G];by_cases e1:i=j
  .subst e1;rw[if_neg YYZ,if_pos rfl,if_pos rfl];omega
  .rw[if_neg e1,if_neg h3];have A:=u.a i h1 h2 e1;by_cases e2:(i-1) / 2=j
   .rw[if_pos e2];exact u.b h0 i h1 h2 e2
   .rw[if_neg e2];by_cases e3:(i-1) / 2=(j-1) / 2
    .rw[if_pos e3];rw[e3]at A;omega
    .rw[if_neg e3];exact A
 .rw[L]at h2;rw[G,G,if_neg YYZ,if_neg YYZ];have A:=u.a ((j-1) / 2) hp0 hp YYZ;by_cases e1:i=j
  .rw[if_pos e1];exact A
  .rw[if_neg e1,if_neg YYZ];have B:=u.a i h1 h2 e1;rw[h3]at B;omega
theorem AK.SO{F:List Int}(u:AK F 0):HP F:=λi h1 h2=>u.a i h1 h2 YYZ
theorem AK.ado{F:List Int}{j:Nat}(u:AK F j)(hge:F.getD ((j-1) / 2) 0<=F.getD j 0):HP F:=λi h1 h2=>by
 by_cases e:i=j
 .subst e;exact hge
 .exact u.a i h1 h2 e
theorem HP.push{F:List Int}(u:HP F)(x:Int):AK (F++[x]) F.length:=by
 have G:∀k,k<F.length->(F++[x]).getD k 0=F.getD k 0:=λk hk=>by
  rw[List.getD_eq_getElem?_getD,List.getElem?_append_left hk,List.getD_eq_getElem?_getD]
 refine⟨λi h1 h2 h3=>?_,λ_ i h1 h2 h3=>?_⟩
 .rw[List.length_append,List.length_singleton]at h2;rw[G _ YYZ,G _ YYZ];exact u i h1 YYZ
 .rw[List.length_append,List.length_singleton]at h2;omega
theorem yw.step{F:List Int}{i n c:Nat}(d:yw F i n)(hn:n<=F.length)(hc:c<n)(hi:(c-1) / 2=i)(hc0:0<c)(hlt:F.getD c 0<F.getD i 0)(hmin:∀k,0<k->k<n->(k-1) / 2=i->F.getD c 0<=F.getD k 0):yw (pq F i c) c n:=by
 have G:=u5 (F:=F) (i:=i) (j:=c) YYZ YYZ;refine⟨λk h1 h2 h3=>?_,λ_ k h1 h2 h3=>?_⟩
 .rw[G,G];by_cases e1:(k-1) / 2=i
  .rw[if_neg h3,if_pos e1];by_cases e2:k=c
   .rw[if_pos e2];omega
   .rw[if_neg e2,if_neg YYZ];exact hmin k h1 h2 e1
  .rw[if_neg h3,if_neg e1];have A:=d.a k h1 h2 e1;by_cases e2:k=c
   .subst e2;omega
   .rw[if_neg e2];by_cases e3:k=i
    .subst e3;rw[if_pos rfl];exact d.b h1 c hc0 hc hi
    .rw[if_neg e3];exact A
 .rw[G,G,hi,if_neg YYZ,if_pos rfl,if_neg YYZ,if_neg YYZ];have A:=d.a k h1 h2 YYZ;rw[h3]at A;exact A
theorem yw.SO{F:List Int}{i n:Nat}(d:yw F i n)(h:n<=2*i+1):HN F n:=λk h1 h2=>d.a k h1 h2 YYZ
theorem yw.ado{F:List Int}{i n c:Nat}(d:yw F i n)(hge:F.getD i 0<=F.getD c 0)(hmin:∀k,0<k->k<n->(k-1) / 2=i->F.getD c 0<=F.getD k 0):HN F n:=λk h1 h2=>by
 by_cases e:(k-1) / 2=i
 .have:=hmin k h1 h2 e;rw[e];omega
 .exact d.a k h1 h2 e
theorem HP.pop{F:List Int}(u:HP F)(h0:0<F.length):yw (pq F 0 (F.length-1)) 0 (F.length-1):=by
 have G:=u5 (F:=F) (i:=0) (j:=F.length-1) h0 YYZ;refine⟨λk h1 h2 h3=>?_,λh=>by omega⟩;rw[G,G,if_neg YYZ,if_neg h3,if_neg YYZ,if_neg YYZ];exact u k h1 YYZ
theorem HP.least{F:List Int}(u:HP F):∀n k,k<n->k<F.length->F.getD 0 0<=F.getD k 0:=by
 intro n
 induction n with
 |zero=>intro k h;omega
 |succ n ih=>
  intro k h1 h2;by_cases e:k=0
  .subst e;exact Int.le_refl _
  .have:=ih ((k-1) / 2) YYZ YYZ;have:=u k YYZ h2;omega
theorem HN.take{F:List Int}{n:Nat}(u:HN F n)(hn:n<=F.length):HP (F.take n):=by
 have G:∀k,k<n->(F.take n).getD k 0=F.getD k 0:=λk hk=>by
  rw[List.getD_eq_getElem?_getD,List.getElem?_take,if_pos hk,List.getD_eq_getElem?_getD]
 intro i h1 h2;rw[List.length_take]at h2;rw[G _ YYZ,G _ YYZ];exact u i h1 YYZ
theorem ij.same{h h':af}{bp:Nat}{F F':List Int}{ls fs:Value}(f:ij h bp F ls)(hn:h'.nx=h.nx)(hl:h'.lo=h.lo)(hg:h.bl.get bp=some (ah [fs,ls] 173 false))(hp:qm h' fs F')(hfr:∀c,(∀vs,h.bl.get c≠some (ah vs 3 true))->h'.bl.get c=h.bl.get c):ij h' bp F' ls:=
 ⟨by rw[hn];exact f.lt,by rw[hl];exact f.lo,fs,by rw[hfr bp (λvs=>by rw[hg];exact bI)];exact hg,hp⟩
theorem SP(j:Nat):Int.tdiv ((j:Int)-1) 2=(((j-1) / 2:Nat):Int):=by
 cases j with
 |zero=>rfl
 |succ j=>rw[Int.tdiv_eq_ediv_of_nonneg YYZ];omega
theorem ank(bp:Nat)(F:List Int)(ls:Value)(j:Nat)(h:af)(V:KQ)(f:ij h bp F ls)(hj:j<F.length)(hlen:F.length<=100000)(hk:∀h' F',ij h' bp F' ls->F'.Perm F->(AK F j->HP F')->AH bp h h'->V (.tuple ⟨[]⟩) h'):aq prog 97 [WU bp,YYX (j:Int)] h V:=by
 apply YYW;rw[ahz];refine⟨λn l h1=>∃(k:Nat)(F1:List Int),an l 19=YYX (k:Int)/\n=k/\k<F.length/\F1.Perm F/\(AK F j->AK F1 k)/\ij h1 bp F1 ls/\AH bp h h1,⟨_,j,F,rfl,rfl,hj,List.Perm.refl _,id,f,AH.refl _ _⟩,?_⟩;rintro n l h1 ⟨k,F1,s1,rfl,cZ,hp1,Qx,f1,M8⟩;have qy:=hp1.length_eq;have e1:=SP n;by_cases h0:n=0
 .subst h0;simp(disch:=try exact Y)only[Wz,D_,s1,Mb,e1];exact hk h1 F1 f1 hp1 (λu=>(Qx u).SO) M8
 .obtain⟨fs,hg,hpt⟩:=f1.cell;simp(disch:=try exact Y)only[Wz,D_,s1,Mb,e1,Q_,Ef,hg];refine w_ F1 n ((n-1) / 2) h1 _ _ hpt YYZ YYZ ?_;by_cases hls:F1[n]'YYZ<F1[(n-1) / 2]'YYZ
  .simp(disch:=try exact Y)only[Wz,bf hls,Eg,hg];refine xe F1 ((n-1) / 2) n h1 _ _ hpt YYZ YYZ ?_;intro h2 q1 q2 q3 q4 q5;refine⟨_,?_,(n-1) / 2,pq F1 ((n-1) / 2) n,rfl,rfl,YYZ,(tG YYZ YYZ).trans hp1,λu=>(Qx u).step YYZ YYZ (by rw[gD YYZ,gD YYZ];exact hls),f1.same q1 q2 hg q3 q4,M8.trans (.swap hg q1 q2 q4 q5)⟩;omega
  .simp(disch:=try exact Y)only[Wz,aZ hls];exact hk h1 F1 f1 hp1 (λu=>(Qx u).ado (by rw[gD YYZ,gD YYZ];omega)) M8
set_option maxHeartbeats 1000000 in
theorem adp(bp:Nat)(F:List Int)(ls:Value)(i0 n:Nat)(h:af)(V:KQ)(f:ij h bp F ls)(hn:n<=F.length)(hlen:F.length<=100000)(yl:i0<=100000)(hk:∀r h' F',ij h' bp F' ls->F'.Perm F->(∀k,n<=k->F'[k]? = F[k]?)->(yw F i0 n->HN F' n)->AH bp h h'->V (.bool r) h'):aq prog 132 [WU bp,YYX (i0:Int),YYX (n:Int)] h V:=by
 apply YYW;rw[abk];refine⟨λl h'=>∃(k:Nat)(F':List Int),an l 36=YYX (k:Int)/\ij h' bp F' ls/\F'.Perm F/\(∀k,n<=k->F'[k]? = F[k]?)/\(yw F i0 n->HN F' n)/\AH bp h h',?_,?_⟩
 rotate_left
 .rintro l h' ⟨k,F',s1,q1,q2,q3,q4,q5⟩;simp(disch:=try exact Y)only[Wz,s1];exact hk _ h' F' q1 q2 q3 q4 q5
 refine⟨λm l h1=>∃(i:Nat)(F1:List Int),an l 36=YYX (i:Int)/\m=200002-i/\i<=200000/\(i<n\/i=i0)/\F1.Perm F/\(∀k,n<=k->F1[k]? = F[k]?)/\(yw F i0 n->yw F1 i n)/\ij h1 bp F1 ls/\AH bp h h1,⟨_,i0,F,rfl,rfl,YYZ,.inr rfl,List.Perm.refl _,λ_ _=>rfl,id,f,AH.refl _ _⟩,?_⟩;rintro m l h1 ⟨i,F1,s1,rfl,hi,hin,hp1,ht1,Zv,f1,M8⟩;have qy:=hp1.length_eq;obtain⟨fs,hg,hpt⟩:=f1.cell;by_cases hst:2*i+1<n
 case neg=>
  simp(disch:=try exact Y)only[Wz,Ae,s1,cG (show(n:Int)<=2*(i:Int)+1 by omega)];exact⟨i,F1,rfl,f1,hp1,ht1,λd=>(Zv d).SO YYZ,M8⟩
 have c1:(2*(i:Int)+1)=((2*i+1:Nat):Int):=by omega
 simp(disch:=try exact Y)only[Wz,Ae,s1,c1,dZ (show((2*i+1:Nat):Int)<(n:Int)by omega),cG (show(0:Int)<=((2*i+1:Nat):Int)by omega),GF];refine⟨λmg h'=>∃j:Nat,an mg 13=YYX (j:Int)/\i<j/\j<n/\(j-1) / 2=i/\(∀k,0<k->k<n->(k-1) / 2=i->F1.getD j 0<=F1.getD k 0)/\HQ h1 h',?_,?_⟩
 .have c2:((2*i+1:Nat):Int)+1=((2*i+2:Nat):Int):=by omega
  by_cases h2:2*i+2<n
  .simp(disch:=try exact Y)only[Wz,Ad,c2,dZ (show((2*i+2:Nat):Int)<(n:Int)by omega),Ef,hg];refine w_ F1 (2*i+2) (2*i+1) h1 _ _ hpt YYZ YYZ ?_;by_cases hls:F1[2*i+2]'YYZ<F1[2*i+1]'YYZ
   ·simp(disch:=try exact Y)only[Wz,bf hls];exact⟨2*i+2,rfl,YYZ,h2,YYZ,λk k0 k1 k2=>by
     have ek:k=2*i+1\/k=2*i+2:=by omega
     rcases ek with rfl|rfl
     .rw[gD YYZ,gD YYZ];omega
     .exact Int.le_refl _,rfl⟩
   ·simp(disch:=try exact Y)only[Wz,aZ hls];exact⟨2*i+1,rfl,YYZ,hst,YYZ,λk k0 k1 k2=>by
     have ek:k=2*i+1\/k=2*i+2:=by omega
     rcases ek with rfl|rfl
     .exact Int.le_refl _
     .rw[gD YYZ,gD YYZ];omega,rfl⟩
  ·simp(disch:=try exact Y)only[Wz,Ad,c2,cG (show(n:Int)<=((2*i+2:Nat):Int)by omega)];exact⟨2*i+1,rfl,YYZ,hst,YYZ,λk k0 k1 k2=>by
    have ek:k=2*i+1:=by omega
    rw[ek];exact Int.le_refl _,rfl⟩
 .rintro mg h' ⟨j,s2,hij,hjn,hjp,hmin,hq⟩;cases(show h1=h' from hq);simp(disch:=try exact Y)only[Wz,s1,s2,Ef,hg];refine w_ F1 j i h1 _ _ hpt YYZ YYZ ?_;by_cases hls:F1[j]'YYZ<F1[i]'YYZ
  .simp(disch:=try exact Y)only[Wz,bf hls,Eg,hg,s1,s2];refine xe F1 i j h1 _ _ hpt YYZ YYZ ?_;intro h2 q1 q2 q3 q4 q5;refine⟨_,?_,j,pq F1 i j,rfl,rfl,YYZ,.inl hjn,(tG YYZ YYZ).trans hp1,?_,λd=>(Zv d).step YYZ hjn hjp YYZ (by rw[gD YYZ,gD YYZ];exact hls) hmin,f1.same q1 q2 hg q3 q4,M8.trans (.swap hg q1 q2 q4 q5)⟩
   .omega
   .intro k cZ;rw[<-ht1 k cZ,uZ YYZ YYZ,List.getElem?_set,if_neg YYZ,List.getElem?_set,if_neg YYZ]
  .simp(disch:=try exact Y)only[Wz,aZ hls,s1];exact⟨i,F1,rfl,f1,hp1,ht1,λd=>(Zv d).ado (by rw[gD YYZ,gD YYZ];omega) hmin,M8⟩
theorem Ip{h:af}{v:Value}{F:List Int}{x:Int}{b7 c7:Nat}(hp:qm h v F)(hb7:b7<h.nx)(hg7:h.bl.get b7=some (ah [YYX x] 3 false))(hlen:F.length<=100000)(hal:h.lo<=h.nx)(V:KQ)(hk:∀v' h',qm h' v' (F++[x])->h.nx<=h'.nx->h'.lo=h.lo->(∀c,c<h.nx->(∀vs,h.bl.get c≠some (ah vs 3 true))->h'.bl.get c=h.bl.get c)->(∀c,c<h.nx->(∀n cap,v≠YYU c n cap)->h'.bl.get c=h.bl.get c)->(∀c n cap,c<h.nx->v'=YYU c n cap->∃n cap,v=YYU c n cap)->V v' h'):bD False 3 1 [YYX 0] false v (YYU b7 1 c7) h V:=by
 have hx:Sl cQ h (YYU b7 1 c7) [x]:=Sl.new (L:=[x]) (e:=3) (op:=false) hb7 (by simpa[cQ]using hg7) _;have full:iJ cQ ⟨0,.nil,h.lo⟩ 3 h v F->(∀v' h',iJ cQ ⟨0,.nil,h.lo⟩ 3 h' v' (F++[x])->qm h' v' (F++[x]))->bD False 3 1 [YYX 0] false v (YYU b7 1 c7) h V:=by
  intro ho aiq;refine KL (enc:=cQ) (a:=⟨0,.nil,h.lo⟩) (L:=F) (M:=[x]) dA kr YYQ YYQ ho hx ⟨Nat.zero_le _,rfl,λb hb=>absurd hb (Nat.not_lt_zero _)⟩ (by simp;omega) hal V ?_;intro v' h' ho' _ _ hn hl hs hs2 hv;refine hk v' h' (aiq v' h' ho') hn hl (λc hc hne=>hs c hc (hne _)) hs2 λc n cap hc e=>?_;rcases hv with rfl|⟨b,n',cap',hb,rfl⟩
  .exact⟨n,cap,e⟩
  .injection e with e;injection e with e;injection e with e;omega
 have conv:∀v' h',iJ cQ ⟨0,.nil,h.lo⟩ 3 h' v' (F++[x])->qm h' v' (F++[x]):=by
  intro v' h' ho;rcases ho with⟨e,_⟩|⟨b,e,_,h2,h3,h4⟩
  .simp at e
  .exact .inr ⟨b,[],e,h2,h3,by rw[List.append_nil];exact h4,by simp⟩
 rcases hp with⟨rfl,rfl⟩|⟨b,G,rfl,h1,h2,h3,h4⟩
 .exact full (.inl ⟨rfl,.inl rfl⟩) conv
 .cases G with
  |nil=>
   rw[List.append_nil]at h3;exact full (.inr ⟨b,rfl,Nat.zero_le _,h1,h2,h3⟩) conv
  |cons g G=>
   have iK:∀κ':List Value->Prop,eN False h 1 1 (YYU b7 1 c7) κ'=κ' [YYX x]:=λκ'=>hx.first (β:=Prop) (fl:=False) dA κ';have hl:=bB (enc:=cQ) dA (F++g::G);have hl':(F++g::G).length=F.length+(G.length+1):=by simp
   have DJ:=AJ (G:=G) (F:=F++[g]) (y:=x) (i:=F.length) (by simp);have e0:F++[g]++G=F++g::G:=by simp
   have e00:(F++[g]).set F.length x=F++[x]:=by simp
   rw[e0,e00]at DJ;unfold bD kP;simp only;rw[iK];simp only[bY];have e2:Nat.beq aX gK=false:=by decide
   have e3:Nat.beq aX aX=true:=Nat.beq_refl _;have e5:Nat.ble (Nat.add F.length (0+1)) 1000000000=true:=Nat.ble_eq_true_of_le (by show F.length+(0+1)<=_;omega);have e4:Nat.ble (Nat.add 0 (Nat.mul (Nat.add F.length (0+1)) 1)) ((F++g::G).flatMap cQ).length=true:=Nat.ble_eq_true_of_le (by rw[hl];show 0+(F.length+(0+1))*1<=_;omega);simp only[e2,e3,e5,h3,ah,Nat.beq_refl,e4];rw[wK _ _ _ _ _ (by show 0+F.length*1+1<=_;omega) rfl,cq _ _ _ _ h2];have e6:(Nat.add 0 (Nat.mul F.length 1))=F.length:=by show 0+F.length*1=_;omega
   rw[e6,DC _ _ _ (by show F.length+1<=_;omega),DJ];have e7:((F++g::G).flatMap cQ).length=((F++[x]++G).flatMap cQ).length:=by rw[hl,bB dA];simp
   rw[e7];refine hk _ _ (.inr ⟨b,G,by simp,h1,h2,T.az _ _ _,by simp;omega⟩) (Nat.le_refl _) rfl ?_ ?_ ?_
   .intro c hc hne;refine T.aD _ _ ?_;rintro rfl;exact hne _ h3
   .intro c hc hne;refine T.aD _ _ ?_;rintro rfl;exact hne _ _ rfl
   .intro c n cap hc e;injection e with e;injection e with e;injection e with e
    subst e;exact⟨_,_,rfl⟩
theorem SQ(bp:Nat)(F:List Int)(ls:Value)(x:Int)(h:af)(V:KQ)(f:ij h bp F ls)(hlen:F.length<=10000)(hlo:h.lo<=h.nx)(hls:∃a n c,ls=.slice a n c)(hk:∀h' F',ij h' bp F' ls->F'.Perm (F++[x])->(HP F->HP F')->AH bp h h'->V (.tuple ⟨[]⟩) h'):aq prog 80 [WU bp,.iface 3 (YYX x)] h V:=by
 obtain⟨la,ln,lc,rfl⟩:=hls;apply YYW;rw[ahp];simp(disch:=try exact Y)only[Wz,WV];apply YYW;rw[ade];obtain⟨fs,hg,hpt⟩:=f.cell;have hfs:∃a n c,fs=.slice a n c:=by
  rcases hpt with⟨_,rfl⟩|⟨b,G,rfl,_⟩<;>exact⟨_,_,_,rfl⟩
 have hbp:=f.lt;have asE:=f.lo;simp(disch:=try exact Y)only[Wz,fJ,Ie,aJ,hg];have hle1:=(Le.refl h).new (ah [YYX x] 3 false);obtain⟨hA,eA⟩:∃hA:af,hA=⟨h.nx+1,h.bl.bt h.nx (ah [YYX x] 3 false),h.lo⟩:=⟨_,rfl⟩
 rw[<-eA]at hle1 ⊢;have nA:hA.nx=h.nx+1:=by rw[eA]
 have lA:hA.lo=h.lo:=by rw[eA]
 have gA:hA.bl.get h.nx=some (ah [YYX x] 3 false):=by rw[eA];exact T.az _ _ _
 have gbp:=(hle1.get bp hbp).trans hg;have anm:qm hA fs F:=by
  rcases hpt with e|⟨b,G,e,h1,h2,h3,h4⟩
  .exact .inl e
  .exact .inr ⟨b,G,e,YYZ,YYZ,(hle1.get b h1).trans h3,h4⟩
 refine Ip anm YYZ gA YYZ YYZ _ ?_;intro v' h2 hp2 n2 l2 hs2 JQ hv3;have g2:=(hs2 bp YYZ (λvs=>by rw[gbp];exact bI)).trans gbp;have xE:∃a n c,v'=.slice a n c:=by
  rcases hp2 with⟨_,rfl⟩|⟨b,G,rfl,_⟩<;>exact⟨_,_,_,rfl⟩
 obtain⟨va,vn,vc,rfl⟩:=xE;simp(disch:=try exact Y)only[Wz,g2];obtain⟨hB,eB⟩:∃hB:af,hB=⟨h2.nx,h2.bl.bt bp (ah [.slice va vn vc,.slice la ln lc] 173 false),h2.lo⟩:=⟨_,rfl⟩
 rw[<-eB];have nB:hB.nx=h2.nx:=by rw[eB]
 have lB:hB.lo=h2.lo:=by rw[eB]
 have gB:hB.bl.get bp=some (ah [.slice va vn vc,.slice la ln lc] 173 false):=by rw[eB];exact T.az _ _ _
 have hpB:qm hB (.slice va vn vc) (F++[x]):=by
  rcases hp2 with e|⟨b,G,e,h1,h2',h3,h4⟩
  .exact .inl e
  .refine .inr ⟨b,G,e,YYZ,YYZ,?_,h4⟩;rw[eB];exact(T.aD _ _ (by rintro rfl;rw[g2]at h3;exact bI h3)).trans h3
 have fB:ij hB bp (F++[x]) (.slice la ln lc):=⟨YYZ,YYZ,_,gB,hpB⟩
 have frB:AH bp h hB:=by
  refine⟨YYZ,YYZ,λc hc hn hi=>?_,λ_ c hc hn hi=>?_,λ_ c hc hx=>?_⟩
  .have e1:hA.bl.get c=h.bl.get c:=hle1.get c hc;rw[eB];exact(T.aD _ _ (λe=>hn e.symm)).trans ((hs2 c YYZ (λvs=>by rw[e1];exact hi vs)).trans e1)
  .have e1:hA.bl.get c=h.bl.get c:=hle1.get c hc;rw[eB];exact(T.aD _ _ (λe=>hn e.symm)).trans ((JQ c YYZ (λn cap e=>hi ⟨n,cap,_,e▸hg⟩)).trans e1)
  .obtain⟨n,cap,ls',hx⟩:=hx;rw[gB]at hx;obtain⟨n',cap',e⟩:=hv3 c n cap YYZ (nR hx);exact⟨n',cap',_,e▸hg⟩
 simp(disch:=try exact Y)only[Wz,SN,gB];refine uY (F++[x]) hB _ _ hpB ?_;have el:(((F++[x]).length:Nat):Int)-1=(F.length:Int):=by simp
 have el2:(F++[x]).length=F.length+1:=by simp
 simp(disch:=try exact Y)only[Wz,el];refine ank bp (F++[x]) _ F.length hB _ fB YYZ YYZ ?_;intro h3 F' f3 QJ hu3 fr3;exact hk h3 F' f3 QJ (λu=>hu3 (HP.push u x)) (frB.trans fr3)
theorem air(bp:Nat)(F:List Int)(ls:Value)(h:af)(V:KQ)(f:ij h bp F ls)(h0:F≠[])(hlen:F.length<=10000)(hlo:h.lo<=h.nx)(hls:∃a n c,ls=.slice a n c)(hk:∀h' F' x,ij h' bp F' ls->(x::F').Perm F->(HP F->HP F'/\∀y∈F',x<=y)->AH bp h h'->V (.iface 3 (YYX x)) h'):aq prog 104 [WU bp] h V:=by
 obtain⟨la,ln,lc,rfl⟩:=hls;have hpos:0<F.length:=List.length_pos_iff.2 h0;apply YYW;rw[aa4];obtain⟨fs,hg,hpt⟩:=f.cell;simp(disch:=try exact Y)only[Wz,SN,hg];refine uY F h _ _ hpt ?_;have el:((F.length:Nat):Int)-1=((F.length-1:Nat):Int):=by omega
 simp(disch:=try exact Y)only[Wz,el,Eg,hg];refine xe F 0 (F.length-1) h _ _ hpt hpos YYZ ?_;intro h1 q1 q2 q3 q4 q5;have f1:=f.same q1 q2 hg q3 q4;have EU:=tG (F:=F) (i:=0) (j:=F.length-1) hpos YYZ;have qy:=EU.length_eq;refine adp bp (pq F 0 (F.length-1)) _ 0 (F.length-1) h1 _ f1 YYZ YYZ YYZ ?_;intro r h2 F2 f2 hp2 ht2 hd2 B1;have ot:=hp2.length_eq;obtain⟨fs2,hg2,WX⟩:=f2.cell;have hbp:=f2.lt;have hlb:=f2.lo;simp(disch:=try exact Y)only[Wz,adm];apply YYW;rw[adb];simp(disch:=try exact Y)only[Wz,aJ,hg2];refine uY F2 h2 _ _ WX ?_;have el2:((F2.length:Nat):Int)-1=((F2.length-1:Nat):Int):=by omega
 rcases WX with⟨e,_⟩|⟨b,G,rfl,k1,k2,k3,k4⟩
 .rw[e]at ot;simp at ot;omega
 obtain⟨x,hx⟩:∃x,F2[F2.length-1]? = some x:=⟨_,List.getElem?_eq_getElem YYZ⟩
 have hr:=qX (G:=G) hx;have hfl:=bB (enc:=cQ) dA (F2++G);have hl3:(F2++G).length=F2.length+G.length:=List.length_append;simp(disch:=try exact Y)only[Wz,el2,hg2,br,k3,hr,Nat.mul_one,zO (n:=(F2++G).length) (i:=F2.length-1) (Nat.succ_pos 0) k3 (by rw[hfl]) YYZ YYZ];have hne:b≠bp:=by rintro rfl;rw[hg2]at k3;exact bI k3
 have eF:F2=F2.take (F2.length-1)++[x]:=by
  conv=>lhs;rw[<-List.take_append_drop (F2.length-1) F2]
  congr 1
  have hlt:F2.length-1<F2.length:=by omega
  rw[List.drop_eq_getElem_cons hlt,List.drop_of_length_le YYZ];rw[List.getElem?_eq_getElem hlt]at hx;cases hx;rfl
 refine hk ⟨h2.nx,h2.bl.bt bp (ah [YYU b (F2.length-1) aX,.slice la ln lc] 173 false),h2.lo⟩ (F2.take (F2.length-1)) x ⟨hbp,hlb,_,T.az _ _ _,.inr ⟨b,x::G,by simp,k1,k2,?_,by simp;omega⟩⟩ ?_ ?_ ?_
 .rw[show F2.take (F2.length-1)++x::G=F2++G by conv=>rhs;rw[eF];simp];exact(T.aD _ _ (λe=>hne e.symm)).trans k3
 .refine List.Perm.trans ?_ (hp2.trans EU)
  conv=>rhs;rw[eF]
  exact(List.perm_append_singleton x _).symm
 ·intro u;refine⟨HN.take (by rw[ot,qy];exact hd2 (HP.pop u hpos)) YYZ,λy hy=>?_⟩;have hyF:y∈F:=by
   refine(hp2.trans EU).mem_iff.1 ?_;rw[eF];exact List.mem_append_left _ hy
  obtain⟨k,cZ,rfl⟩:=List.getElem_of_mem hyF;have hxx:x=F.getD 0 0:=by
   have e1:=ht2 (F.length-1) (Nat.le_refl _);rw[ot,qy,e1,List.getElem?_eq_getElem YYZ]at hx;have e2:=u5 (F:=F) (i:=0) (j:=F.length-1) hpos YYZ (F.length-1);rw[if_pos rfl,gD YYZ]at e2;rw[<-e2];exact(Option.some.inj hx).symm
  rw[hxx,<-gD cZ];exact HP.least u _ k (Nat.lt_succ_self _) cZ
 .refine AH.trans (AH.trans (.swap hg q1 q2 q4 q5) B1) ⟨Nat.le_refl _,rfl,λc _ hn _=>T.aD _ _ (λe=>hn e.symm),λ_ c _ hn _=>T.aD _ _ (λe=>hn e.symm),λ_ c _ hx=>?_⟩;obtain⟨n,cap,ls',hx⟩:=hx;have e:=nR ((T.az _ _ _).symm.trans hx);injection e with e;injection e with e;injection e with e
  subst e;exact⟨_,_,_,hg2⟩
structure lD(F:List Int)(B:List Bool):Prop where
 nodup:F.Nodup
 mem:∀n:Nat,(n:Int)∈F<->B[n]? = some false
 pos:∀x∈F,0<=x
 hp:HP F
structure e_(h:af)(bp bl:Nat)(F:List Int)(B:List Bool):Prop where
 fr:ij h bp F (YYU bl B.length B.length)
 lt:bl<h.nx
 lo:h.lo<=bl
 cell:h.bl.get bl=some (ah (B.map Value.bool) 4 false)
 ok:lD F B
 small:B.length<=128
theorem lD.take{F F':List Int}{B:List Bool}{x:Int}(o:lD F B)(hp:(x::F').Perm F)(hu:HP F->HP F'/\∀y∈F',x<=y):∃n:Nat,x=(n:Int)/\n<B.length/\B[n]? = some false/\(∀k,k<n->B[k]? = some true)/\lD F' (B.set n true):=by
 have hx:x∈F:=hp.mem_iff.1 (.head _);obtain⟨n,rfl⟩:∃n:Nat,x=(n:Int):=⟨x.toNat,by have:=o.pos x hx;omega⟩
 have hb:=(o.mem n).1 hx;have hn:n<B.length:=(List.getElem?_eq_some_iff.1 hb).1;have hnd:((n:Int)::F').Nodup:=(hp.nodup_iff).2 o.nodup;rw[List.nodup_cons]at hnd;obtain⟨Qx,hu2⟩:=hu o.hp;have adr:∀k,k<n->B[k]? = some true:=by
  intro k hk;have hkl:k<B.length:=by omega
  rw[List.getElem?_eq_getElem hkl];cases hbk:B[k]with
  |true=>rfl
  |false=>
   have WY:(k:Int)∈F:=(o.mem k).2 (by rw[List.getElem?_eq_getElem hkl,hbk]);rcases List.mem_cons.1 (hp.mem_iff.2 WY)with h|h
   .omega
   .have:=hu2 _ h;omega
 refine⟨n,rfl,hn,hb,adr,hnd.2,λk=>?_,λy hy=>o.pos y (hp.mem_iff.1 (.tail _ hy)),Qx⟩;rw[List.getElem?_set];by_cases hk:n=k
 .subst hk;rw[if_pos rfl,if_pos hn];simp[hnd.1]
 .rw[if_neg hk,<-o.mem k,<-hp.mem_iff,List.mem_cons];constructor
  .exact λh=>.inr h
  .rintro(h|h)
   .omega
   .exact h
theorem lD.ano{F F':List Int}{B:List Bool}{n:Nat}(o:lD F B)(hb:B[n]? = some true)(hp:F'.Perm (F++[(n:Int)]))(hu:HP F->HP F'):lD F' (B.set n false):=by
 have hn:n<B.length:=(List.getElem?_eq_some_iff.1 hb).1;have hno:(n:Int)∉F:=λh=>by have:=(o.mem n).1 h;rw[hb]at this;cases this
 refine⟨(hp.nodup_iff).2 ?_,λk=>?_,λy hy=>?_,hu o.hp⟩
 .rw[List.nodup_append];refine⟨o.nodup,by simp,λa ha b hb'=>?_⟩;rw[List.mem_singleton]at hb';subst hb';rintro rfl;exact hno ha
 .rw[hp.mem_iff,List.mem_append,List.mem_singleton,List.getElem?_set];by_cases hk:n=k
  .subst hk;rw[if_pos rfl,if_pos hn];simp
  .rw[if_neg hk,<-o.mem k];constructor
   .rintro(h|h)
    .exact h
    .omega
   .exact λh=>.inl h
 .rcases List.mem_append.1 (hp.mem_iff.1 hy)with h|h
  .exact o.pos y h
  .rw[List.mem_singleton]at h;omega
theorem Zy(h:af)(b o:Nat):nk prog h 100 116 (.pointer (some ⟨b,o,none⟩)) (.pointer none)=some false:=by kernel_rfl
theorem Eh{β:Type}{fl:β}(cn:Bool)(b o:Nat)(h:af)(V:YYY β):aI fl prog .eql 116 cn false (.pointer (some ⟨b,o,none⟩)) (.pointer none) h V=V (.bool false) h:=by simp only[aI,Zy,bZ]
theorem Ei{β:Type}{fl:β}(cn:Bool)(b o:Nat)(h:af)(V:YYY β):aI fl prog .neq 116 cn false (.pointer (some ⟨b,o,none⟩)) (.pointer none) h V=V (.bool true) h:=by simp only[aI,Zy,bZ,Bool.not_false]
theorem Zz(bp bl:Nat)(F:List Int)(B:List Bool)(i:Int)(h:af)(V:KQ)(p:e_ h bp bl F B)(hk:V (.bool (decide (0<=i) && (B[i.toNat]?).getD false)) h):aq prog 325 [YYV bp,YYX i] h V:=by
 apply YYW;rw[acH];obtain⟨fs,hg,hpt⟩:=p.fr.cell;by_cases h0:0<=i
 .obtain⟨n,rfl⟩:∃n:Nat,i=(n:Int):=⟨i.toNat,YYZ⟩
  rw[bf h0,Bool.true_and,Int.toNat_natCast]at hk;by_cases h1:n<B.length
  .have hr:(B.map Value.bool)[n]? = some (.bool B[n]):=by rw[List.getElem?_map,List.getElem?_eq_getElem h1];rfl
   rw[List.getElem?_eq_getElem h1]at hk;simp(disch:=try exact Y)only[Wz,Ei,aJ,hg,cG h0,dZ (show(n:Int)<(B.length:Int)by omega),br,p.cell,hr,Nat.mul_one];exact hk
  .rw[List.getElem?_eq_none YYZ]at hk;simp(disch:=try exact Y)only[Wz,Ei,aJ,hg,cG h0,cG (show(B.length:Int)<=(n:Int)by omega)];exact hk
 .rw[aZ h0,Bool.false_and]at hk;simp(disch:=try exact Y)only[Wz,Ei,aJ,hg,dZ (show i<0 by omega)];exact hk
structure M9(bp bl:Nat)(h h':af):Prop where
 nx:h.nx<=h'.nx
 lo:h'.lo=h.lo
 get:∀c,c<h.nx->c≠bp->c≠bl->(∀vs,h.bl.get c≠some (ah vs 3 true))->h'.bl.get c=h.bl.get c
 g2:bp<h.nx->∀c,c<h.nx->c≠bp->c≠bl->¬FB h bp c->h'.bl.get c=h.bl.get c
 mv:bp<h.nx->∀c,c<h.nx->FB h' bp c->FB h bp c
theorem M9.trans{bp bl:Nat}{h h' h'':af}(a:M9 bp bl h h')(b:M9 bp bl h' h''):M9 bp bl h h'':=
 ⟨Nat.le_trans a.nx b.nx,b.lo.trans a.lo,λc hc hn hl hi=>(b.get c (Nat.lt_of_lt_of_le hc a.nx) hn hl (λvs=>by rw[a.get c hc hn hl hi];exact hi vs)).trans (a.get c hc hn hl hi),
  λhb c hc hn hl hi=>(b.g2 (Nat.lt_of_lt_of_le hb a.nx) c (Nat.lt_of_lt_of_le hc a.nx) hn hl λx=>hi (a.mv hb c hc x)).trans (a.g2 hb c hc hn hl hi),
  λhb c hc x=>a.mv hb c hc (b.mv (Nat.lt_of_lt_of_le hb a.nx) c (Nat.lt_of_lt_of_le hc a.nx) x)⟩
theorem M9.ais{bp bl:Nat}{h h':af}(f:AH bp h h'):M9 bp bl h h':=⟨f.nx,f.lo,λc hc hn _ hi=>f.get c hc hn hi,λhb c hc hn _ hi=>f.g2 hb c hc hn hi,f.mv⟩
theorem AL(B:List Bool)(n:Nat)(b:Bool):over (B.map Value.bool) n [.bool b]=(if n<B.length then(B.set n b).map Value.bool else over (B.map Value.bool) n [.bool b]):=by
 split
 .rename_i h;rw[List.map_set];unfold over;rw[List.set_eq_take_append_cons_drop,if_pos (by simpa using h)];simp
 .rfl
theorem CI{B:List Bool}{n:Nat}{b:Bool}(h:n<B.length):over (B.map Value.bool) n [.bool b]=(B.set n b).map Value.bool:=by
 rw[AL,if_pos h]
theorem ads(bp bl:Nat)(F:List Int)(B:List Bool)(h:af)(V:KQ)(p:e_ h bp bl F B)(hF:F.length<=1000)(hlo:h.lo<=h.nx)(hne:bp≠bl)(iE:F=[]->V (.tuple ⟨[YYX 0,YYX 8]⟩) h)(cZ:∀h' F' (n:Nat),e_ h' bp bl F' (B.set n true)->((n:Int)::F').Perm F->B[n]? = some false->(∀k,k<n->B[k]? = some true)->M9 bp bl h h'->V (.tuple ⟨[YYX (n:Int),YYX 0]⟩) h'):aq prog 347 [YYV bp] h V:=by
 apply YYW;rw[acV];obtain⟨fs,hg,hpt⟩:=p.fr.cell;simp(disch:=try exact Y)only[Wz,Eh,HY,aJ,hg];refine uY F h _ _ hpt ?_;by_cases h0:F=[]
 .simp(disch:=try exact Y)only[Wz,bf (show(F.length:Int)=0 by simp[h0])];exact iE h0
 have hpos:0<F.length:=List.length_pos_iff.2 h0;simp(disch:=try exact Y)only[Wz,aZ (show ¬(F.length:Int)=0 by omega),HX,aJ];refine air bp F _ h _ p.fr h0 YYZ hlo ⟨_,_,_,rfl⟩ ?_;intro h2 F' x f2 hp2 hu2 B1;obtain⟨n,rfl,hn,hb,adt,ho⟩:=p.ok.take hp2 hu2;obtain⟨fs2,hg2,WX⟩:=f2.cell;have hbl:=p.lt;have anp:=p.lo;have n2:=B1.nx;have l2:=B1.lo;have hlm:(B.map Value.bool).length=B.length:=by simp
 have gl:=(B1.get bl hbl (λe=>hne e.symm) (λvs=>by rw[p.cell];exact bI)).trans p.cell;simp(disch:=try exact Y)only[Wz,fJ,aJ,hg2,br,gl,Nat.mul_one,CI hn];refine cZ ⟨h2.nx,h2.bl.bt bl (ah ((B.set n true).map Value.bool) 4 false),h2.lo⟩ F' n ⟨⟨f2.lt,f2.lo,fs2,?_,?_⟩,by show bl<h2.nx;omega,by show h2.lo<=bl;omega,T.az _ _ _,ho,by rw[List.length_set];exact p.small⟩ hp2 hb adt ?_
 .rw[List.length_set];exact(T.aD _ _ (λe=>hne e.symm)).trans hg2
 .rcases WX with e|⟨b,G,e,k1,k2,k3,k4⟩
  .exact .inl e
  .exact .inr ⟨b,G,e,k1,k2,(T.aD _ _ (by rintro rfl;rw[gl]at k3;exact bI k3)).trans k3,k4⟩
 .exact(M9.ais B1).trans ⟨Nat.le_refl _,rfl,λc _ _ hn _=>T.aD _ _ (λe=>hn e.symm),λ_ c _ _ hn _=>T.aD _ _ (λe=>hn e.symm),λ_ c _ hx=>(FB.congr (T.aD _ _ (λe=>hne e.symm))).1 hx⟩
theorem adu(bp bl:Nat)(F:List Int)(B:List Bool)(n:Nat)(h:af)(V:KQ)(p:e_ h bp bl F B)(hF:F.length<=1000)(hlo:h.lo<=h.nx)(hne:bp≠bl)(hb:B[n]? = some true)(hk:∀h' F',e_ h' bp bl F' (B.set n false)->F'.Perm (F++[(n:Int)])->M9 bp bl h h'->V (YYX 0) h'):aq prog 329 [YYV bp,YYX (n:Int)] h V:=by
 apply YYW;rw[acJ];have hn:n<B.length:=(List.getElem?_eq_some_iff.1 hb).1;have hlm:(B.map Value.bool).length=B.length:=by simp
 obtain⟨fs,hg,hpt⟩:=p.fr.cell;simp(disch:=try exact Y)only[Wz,Eh];refine Zz bp bl F B (n:Int) h _ p ?_;have eh:(decide ((0:Int)<=(n:Int)) && (B[((n:Int)).toNat]?).getD false)=true:=by
  rw[bf YYZ,Int.toNat_natCast,hb];rfl
 rw[eh];have hbl:=p.lt;have anp:=p.lo;simp(disch:=try exact Y)only[Wz,HG,aJ,hg,br,p.cell,Nat.mul_one,CI hn];obtain⟨hA,eA⟩:∃hA:af,hA=⟨h.nx,h.bl.bt bl (ah ((B.set n false).map Value.bool) 4 false),h.lo⟩:=⟨_,rfl⟩
 rw[<-eA];have nA:hA.nx=h.nx:=by rw[eA]
 have lA:hA.lo=h.lo:=by rw[eA]
 have gbl:hA.bl.get bl=some (ah ((B.set n false).map Value.bool) 4 false):=by rw[eA];exact T.az _ _ _
 have fA:ij hA bp F (YYU bl B.length B.length):=by
  refine⟨by rw[nA];exact p.fr.lt,by rw[lA];exact p.fr.lo,fs,by rw[eA];exact(T.aD _ _ (λe=>hne e.symm)).trans hg,?_⟩;rcases hpt with e|⟨b,G,e,k1,k2,k3,k4⟩
  .exact .inl e
  .refine .inr ⟨b,G,e,YYZ,YYZ,?_,k4⟩;rw[eA];exact(T.aD _ _ (by rintro rfl;rw[p.cell]at k3;exact bI k3)).trans k3
 have ET:M9 bp bl h hA:=⟨YYZ,lA,λc _ _ hn _=>by rw[eA];exact T.aD _ _ (λe=>hn e.symm),λ_ c _ _ hn _=>by rw[eA];exact T.aD _ _ (λe=>hn e.symm),λ_ c _ hx=>(FB.congr (by rw[eA];exact T.aD _ _ (λe=>hne e.symm))).1 hx⟩
 refine SQ bp F _ (n:Int) hA _ fA YYZ YYZ ⟨_,_,_,rfl⟩ ?_;intro h3 F' f3 QJ hu3 fr3;have n3:=fr3.nx;have l3:=fr3.lo;refine hk h3 F' ⟨by rw[List.length_set];exact f3,YYZ,YYZ,?_,p.ok.ano hb QJ hu3,by rw[List.length_set];exact p.small⟩ QJ (ET.trans (M9.ais fr3));exact(fr3.get bl YYZ (λe=>hne e.symm) (λvs=>by rw[gbl];exact bI)).trans gbl
theorem xX(n:Nat):bq [Value.bool false] n=(List.replicate n false).map Value.bool:=by
 induction n with
 |zero=>rfl
 |succ n ih=>rw[List.replicate_succ,List.map_cons,<-ih];rfl
theorem lD.new(most:Nat){F:List Int}(hp:F.Perm ((List.range most).map λn:Nat=>(n:Int)))(hu:HP F):lD F (List.replicate most false):=by
 refine⟨(hp.nodup_iff).2 ?_,λn=>?_,λx hx=>?_,hu⟩
 .rw[List.Nodup,List.pairwise_map];exact List.nodup_range.imp λhne e=>hne (Int.ofNat.inj e)
 .rw[hp.mem_iff,List.mem_map,List.getElem?_replicate];constructor
  .rintro⟨a,ha,e⟩;have:a=n:=Int.ofNat.inj e;subst this;rw[if_pos (List.mem_range.1 ha)]
  .intro h;by_cases hn:n<most
   .exact⟨n,List.mem_range.2 hn,rfl⟩
   .rw[if_neg hn]at h;cases h
 .obtain⟨a,_,rfl⟩:=List.mem_map.1 (hp.mem_iff.1 hx);omega
theorem OG(most:Nat)(h:af)(V:KQ)(hm:most<=128)(hlo:h.lo<=h.nx)(hk:∀bp bl h' F,e_ h' bp bl F (List.replicate most false)->bp≠bl->h.nx<=bp->h.nx<=bl->F.length=most->Le h h'->(∀x,FB h' bp x->h.nx<=x)->V (.tuple ⟨[YYV bp,YYX 0]⟩) h'):aq prog 64 [YYX (most:Int)] h V:=by
 apply YYW;rw[Zn];simp(disch:=try exact Y)only[Wz,cG (show(0:Int)<=(most:Int)by omega),cG (show(most:Int)<=128 by omega)];have hrl:(bq [Value.bool false] most).length=most:=by rw[xX];simp
 rw[DO _ _ _ _ _ YYZ YYZ,xX];simp(disch:=try exact Y)only[Wz];obtain⟨hA,bg,aS,gl,gp,dP,dQ⟩:=Km h (ah ((List.replicate most false).map Value.bool) 4 false) (ah [.slice none 0 0,YYU h.nx most most] 173 false);rw[<-bg];clear bg;refine⟨λm l h1=>∃(i:Nat)(F:List Int),an l 11=YYX (i:Int)/\m=most-i/\i<=most/\ij h1 (h.nx+1) F (YYU h.nx most most)/\F.Perm ((List.range i).map λn:Nat=>(n:Int))/\HP F/\AH (h.nx+1) hA h1,⟨_,0,[],rfl,rfl,YYZ,⟨YYZ,YYZ,_,gp,.inl ⟨rfl,rfl⟩⟩,List.Perm.refl _,λi h1 h2=>absurd h2 (Nat.not_lt_zero _),AH.refl _ _⟩,?_⟩;rintro m l h1 ⟨i,F1,s1,rfl,hi,f1,hp1,Qx,M8⟩;have n1:=M8.nx;have l1:=M8.lo;have qy:F1.length=i:=by rw[hp1.length_eq];simp
 by_cases hst:i<most
 .simp(disch:=try exact Y)only[Wz,D5,s1,dZ (show(i:Int)<(most:Int)by omega),aJ];refine SQ (h.nx+1) F1 _ (i:Int) h1 _ f1 YYZ YYZ ⟨_,_,_,rfl⟩ ?_;intro h2 F2 f2 hp2 hu2 B1;refine⟨_,?_,i+1,F2,rfl,rfl,YYZ,f2,?_,hu2 Qx,M8.trans B1⟩
  .omega
  .rw[List.range_succ,List.map_append];exact hp2.trans (hp1.append_right _)
 .have hie:i=most:=by omega
  subst hie;simp(disch:=try exact Y)only[Wz,D5,s1,cG (show(i:Int)<=(i:Int)by omega)];refine hk (h.nx+1) h.nx h1 F1 ⟨by rw[List.length_replicate];exact f1,YYZ,YYZ,?_,lD.new _ hp1 Qx,by rw[List.length_replicate];exact hm⟩ YYZ YYZ YYZ qy ⟨YYZ,YYZ,λc hc=>?_⟩ λx hx=>?_
  .exact(M8.get h.nx YYZ YYZ (λvs=>by rw[gl];exact bI)).trans gl
  .refine(M8.g2 YYZ c YYZ YYZ ?_).trans (aS.get c hc);rintro⟨n,cap,ls,hx⟩;have:=nR (gp.symm.trans hx);cases this
  .rcases Nat.lt_or_ge x h.nx with hlt|hge
   .obtain⟨n,cap,ls,hx⟩:=M8.mv YYZ x YYZ hx;have:=nR (gp.symm.trans hx);cases this
   .exact hge
structure HE where
 t:Int
 r:Int
 hb:Nat
 born:Nat
 q:Value
 w:Int
 Q:List R5
def mP(e:HE):MapEntry:={ key:=dJ e.t e.r,val:=YYV e.hb,born:=e.born }
def xg(t r:Int)(e:HE):Bool:=decide (t=e.t/\r=e.r)
theorem sM{t r:Int}{x:HE}:(!xg t r x)=true<->¬(t=x.t/\r=x.r):=by unfold xg;rw[Bool.not_eq_true',decide_eq_false_iff_not]
structure gV(M:List HE)(clock:Nat):Prop where
 nm:M.Pairwise λa b=>¬(a.t=b.t/\a.r=b.r)
 bn:M.Pairwise λa b=>a.born≠b.born
 lt:∀e∈M,e.born<clock
theorem anr(h:af)(a b c d:Int):nk prog h 100 26 (.agg ⟨[YYX a,YYX b]⟩) (.agg ⟨[YYX c,YYX d]⟩) =
  (match(some (tY a c))with|some true=>(match some (tY b d)with|some true=>some true|r=>r)|r=>r):=by kernel_rfl
theorem eqN(h:af)(a b c d:Int):nk prog h 100 26 (dJ a b) (dJ c d)=some (decide (a=c/\b=d)):=by
 unfold dJ;rw[anr,iO,iO];by_cases h1:a=c<;>by_cases h2:b=d<;>simp[h1,h2]
theorem SS(t r:Int):kQ prog 20 26 (dJ t r)=true:=by kernel_rfl
theorem ans(t r:Int):lE 3 (dJ t r) (dJ t r)=true:=by unfold lE;exact wM 1 [t,r]
theorem oL(x:MapEntry):∀(l:List MapEntry)(V:List MapEntry->Prop),B_ x l V=V (l++[x]):=by
 intro l
 induction l with
 |nil=>intro V;rfl
 |cons a l ih=>intro V;exact ih _
theorem oM(f:MapEntry->MapEntry):∀(l:List MapEntry)(j:Nat)(e:MapEntry)(V:List MapEntry->Prop),l[j]? = some e->setAt f j l V=V (l.set j (f e)):=by
 intro l
 induction l with
 |nil=>intro j e V h;simp at h
 |cons a l ih=>
  intro j e V h;cases j with
  |zero=>rw[List.getElem?_cons_zero]at h;cases h;rfl
  |succ j=>rw[List.getElem?_cons_succ]at h;exact ih j e _ h
theorem zo:∀(l:List MapEntry)(j:Nat)(V:List MapEntry->Prop),Ca j l V=V (l.eraseIdx j):=by
 intro l
 induction l with
 |nil=>intro j V;cases j<;>rfl
 |cons a l ih=>
  intro j V;cases j with
  |zero=>rfl
  |succ j=>exact ih j _
theorem Iq(h:af)(t r:Int):∀(M:List HE)(i:Nat),(gH prog h 26 (dJ t r) (M.map mP) i=some none/\∀e∈M,¬(t=e.t/\r=e.r))\/
  ∃(j:Nat)(e:HE),gH prog h 26 (dJ t r) (M.map mP) i=some (some (i+j,mP e))/\M[j]? = some e/\t=e.t/\r=e.r:=by
 intro M
 induction M with
 |nil=>intro i;exact .inl ⟨rfl,λe he=>nomatch he⟩
 |cons e M ih=>
  intro i;have hf:gH prog h 26 (dJ t r) ((e::M).map mP) i=(match(some (decide (t=e.t/\r=e.r)):Option Bool)with|some true=>some (some (i,mP e))|some false=>gH prog h 26 (dJ t r) (M.map mP) (Nat.succ i)|none=>none):=by
   rw[<-eqN h];rfl
  rw[hf];by_cases h1:t=e.t/\r=e.r
  .rw[bf h1];exact .inr ⟨0,e,rfl,rfl,h1.1,h1.2⟩
  .rw[aZ h1];rcases ih (Nat.succ i)with⟨g1,g2⟩|⟨j,e',g1,g2,g3,g4⟩
   .exact .inl ⟨g1,λx hx=>by rcases List.mem_cons.1 hx with rfl|hx;exact h1;exact g2 x hx⟩
   .exact .inr ⟨j+1,e',by rw[show i+(j+1)=Nat.succ i+j by omega];exact g1,g2,g3,g4⟩
theorem CJ{β:Type}{fl:β}{M:List HE}{clock:Nat}{h:af}{bm:Nat}(g:h.bl.get bm=some (.map (M.map mP) clock))(t r:Int)(hn:∀e∈M,¬(t=e.t/\r=e.r))(V:YYY β):dw fl prog 26 (.pointer none) true (.map (some bm)) (dJ t r) h V=V (.tuple ⟨[.pointer none,.bool false]⟩) h:=by
 unfold dw jJ;rw[SS];simp only[g];rcases Iq h t r M 0 with⟨g1,_⟩|⟨j,e,_,g2,g3,g4⟩
 .rw[g1]
 .exact absurd (And.intro g3 g4) (hn e (List.mem_of_getElem? g2))
theorem gV.uniq{M:List HE}{clock:Nat}(o:gV M clock){e e':HE}(h:e∈M)(h':e'∈M)(ht:e.t=e'.t)(hr:e.r=e'.r):e=e':=by
 have:∀(L:List HE),(L.Pairwise λa b=>¬(a.t=b.t/\a.r=b.r))->e∈L->e'∈L->e=e':=by
  intro L
  induction L with
  |nil=>intro _ h;nomatch h
  |cons a L ih=>
   intro hp h1 h2;rw[List.pairwise_cons]at hp;rcases List.mem_cons.1 h1 with rfl|k1<;>rcases List.mem_cons.1 h2 with rfl|k2
   .rfl
   .exact absurd ⟨ht,hr⟩ (hp.1 _ k2)
   .exact absurd ⟨ht.symm,hr.symm⟩ (hp.1 _ k1)
   .exact ih hp.2 k1 k2
 exact this M o.nm h h'
theorem Ir{β:Type}{fl:β}{M:List HE}{clock:Nat}{h:af}{bm:Nat}(o:gV M clock)(g:h.bl.get bm=some (.map (M.map mP) clock)){e:HE}(he:e∈M)(V:YYY β):dw fl prog 26 (.pointer none) true (.map (some bm)) (dJ e.t e.r) h V=V (.tuple ⟨[YYV e.hb,.bool true]⟩) h:=by
 unfold dw jJ;rw[SS];simp only[g];rcases Iq h e.t e.r M 0 with⟨g1,g2⟩|⟨j,e',g1,g2,g3,g4⟩
 .exact absurd ⟨rfl,rfl⟩ (g2 e he)
 .rw[g1];rw[o.uniq he (List.mem_of_getElem? g2) g3 g4];rfl
theorem erase_filter{M:List HE}(hn:M.Pairwise λa b=>¬(a.t=b.t/\a.r=b.r)){j:Nat}{e:HE}(hj:M[j]? = some e):M.eraseIdx j=M.filter λx=>!xg e.t e.r x:=by
 induction M generalizing j with
 |nil=>simp at hj
 |cons a M ih=>
  rw[List.pairwise_cons]at hn;cases j with
  |zero=>
   rw[List.getElem?_cons_zero]at hj;cases hj;rw[List.eraseIdx_cons_zero,List.filter_cons_of_neg (by simp[xg])];exact(List.filter_eq_self.2 λx hx=>sM.2 (hn.1 x hx)).symm
  |succ j=>
   rw[List.getElem?_cons_succ]at hj;have:=hn.1 e (List.mem_of_getElem? hj);rw[List.eraseIdx_cons_succ,List.filter_cons_of_pos (p:=λx=>!xg e.t e.r x) (sM.2 λ⟨h1,h2⟩=>this ⟨h1.symm,h2.symm⟩),ih hn.2 hj]
theorem M_{α:Type}{R:α->α->Prop}(hs:∀{a b},R a b->R b a){L L':List α}(hp:L.Perm L')(h:L.Pairwise R):L'.Pairwise R:=(hp.pairwise_iff hs).1 h
theorem gV.put{M M':List HE}{clock clock':Nat}(o:gV M clock)(hc:clock<=clock'){e:HE}(hp:M'.Perm (M.filter (λx=>!xg e.t e.r x)++[e]))(hb:∀x∈M,¬(e.t=x.t/\e.r=x.r)->x.born≠e.born)(hlt:e.born<clock'):gV M' clock':=by
 have hm:∀x∈M.filter (λx=>!xg e.t e.r x),x∈M/\¬(e.t=x.t/\e.r=x.r):=λx hx=>by
  rw[List.mem_filter]at hx;exact⟨hx.1,sM.1 hx.2⟩
 refine⟨M_ (λh=>λ⟨a,b⟩=>h ⟨a.symm,b.symm⟩) hp.symm (uE (o.nm.filter _) λx hx=>λ⟨a,b⟩=>(hm x hx).2 ⟨a.symm,b.symm⟩),M_ (λh=>h.symm) hp.symm (uE (o.bn.filter _) λx hx=>hb x (hm x hx).1 (hm x hx).2),λx hx=>?_⟩;rcases List.mem_append.1 (hp.mem_iff.1 hx)with h|h
 .exact Nat.lt_of_lt_of_le (o.lt x (hm x h).1) hc
 .rw[List.mem_singleton]at h;subst h;exact hlt
theorem adv{M:List HE}{clock:Nat}{h:af}{bm:Nat}(o:gV M clock)(g:h.bl.get bm=some (.map (M.map mP) clock))(hlo:h.lo<=bm)(t r:Int)(hb:Nat)(q:Value)(w:Int)(Q:List R5)(V:KQ)(hk:∀M' clock' born,gV M' clock'->M'.Perm (M.filter (λx=>!xg t r x)++[⟨t,r,hb,born,q,w,Q⟩])->V undef ⟨h.nx,h.bl.bt bm (.map (M'.map mP) clock'),h.lo⟩):cz False prog 26 (.map (some bm)) (dJ t r) (YYV hb) h V:=by
 unfold cz;rw[SS];simp only[g];rcases Iq h t r M 0 with⟨g1,g2⟩|⟨j,e,g1,g2,g3,g4⟩
 ·rw[g1];simp only;rw[oL];simp only[bY];rw[cq _ _ _ _ hlo];have EU:(M++[(⟨t,r,hb,clock,q,w,Q⟩:HE)]).Perm (M.filter (λx=>!xg t r x)++[⟨t,r,hb,clock,q,w,Q⟩]):=by
   rw[List.filter_eq_self.2 λx hx=>sM.2 (g2 x hx)]
  have:=hk (M++[⟨t,r,hb,clock,q,w,Q⟩]) (clock+1) clock (o.put (e:=⟨t,r,hb,clock,q,w,Q⟩) (Nat.le_succ _) EU (λx hx _=>Nat.ne_of_lt (o.lt x hx)) (Nat.lt_succ_self _)) EU;rw[List.map_append]at this;exact this
 ·rw[g1];simp only[mP,g3,g4,ans];rw[Nat.zero_add,oM _ _ j (mP e) _ (by rw[List.getElem?_map,g2];rfl),cq _ _ _ _ hlo];subst g3 g4;have EU:(M.set j (⟨e.t,e.r,hb,e.born,q,w,Q⟩:HE)).Perm (M.filter (λx=>!xg e.t e.r x)++[⟨e.t,e.r,hb,e.born,q,w,Q⟩]):=by
   rw[<-erase_filter o.nm g2];obtain⟨hj,_⟩:=List.getElem?_eq_some_iff.1 g2;rw[List.set_eq_take_append_cons_drop,if_pos hj,List.eraseIdx_eq_take_drop_succ];exact(List.perm_middle).trans (List.perm_append_singleton _ _).symm
  have hne:∀x∈M,¬(e.t=x.t/\e.r=x.r)->x.born≠e.born:=λx hx hn EV=>by
   have:∀(L:List HE),(L.Pairwise λa b=>a.born≠b.born)->e∈L->x∈L->e=x:=by
    intro L
    induction L with
    |nil=>intro _ h;nomatch h
    |cons a L ih=>
     intro hp h1 h2;rw[List.pairwise_cons]at hp;rcases List.mem_cons.1 h1 with rfl|k1<;>rcases List.mem_cons.1 h2 with rfl|k2
     .rfl
     .exact absurd EV.symm (hp.1 _ k2)
     .exact absurd EV (hp.1 _ k1)
     .exact ih hp.2 k1 k2
   have:=this M o.bn (List.mem_of_getElem? g2) hx;subst this;exact hn ⟨rfl,rfl⟩
  have:=hk (M.set j ⟨e.t,e.r,hb,e.born,q,w,Q⟩) clock e.born (o.put (e:=⟨e.t,e.r,hb,e.born,q,w,Q⟩) (Nat.le_refl _) EU hne (o.lt e (List.mem_of_getElem? g2))) EU;rw[List.map_set]at this;exact this
theorem OH{α β:Type}(f:α->β):∀(l:List α)(j:Nat),(l.eraseIdx j).map f=(l.map f).eraseIdx j:=by
 intro l
 induction l with
 |nil=>intro j;rfl
 |cons a l ih=>
  intro j;cases j with
  |zero=>rfl
  |succ j=>simp[ih j]
theorem adw{M:List HE}{clock:Nat}{h:af}{bm:Nat}(o:gV M clock)(g:h.bl.get bm=some (.map (M.map mP) clock))(hlo:h.lo<=bm)(t r:Int)(V:KQ)(hk:∀h',h'=⟨h.nx,h.bl.bt bm (.map ((M.filter (λx=>!xg t r x)).map mP) clock),h.lo⟩\/(h'=h/\M.filter (λx=>!xg t r x)=M)->V (.tuple ⟨[]⟩) h'):nD False prog 26 (.map (some bm)) (dJ t r) h V:=by
 unfold nD;rw[SS];simp only[g];rcases Iq h t r M 0 with⟨g1,g2⟩|⟨j,e,g1,g2,g3,g4⟩
 .rw[g1];exact hk h (.inr ⟨rfl,List.filter_eq_self.2 λx hx=>sM.2 (g2 x hx)⟩)
 .rw[g1];simp only;rw[Nat.zero_add,zo,cq _ _ _ _ hlo];subst g3 g4;refine hk _ (.inl ?_);rw[<-erase_filter o.nm g2,OH]
theorem gV.filter{M:List HE}{clock:Nat}(o:gV M clock)(p:HE->Bool):gV (M.filter p) clock:=⟨o.nm.filter _,o.bn.filter _,λe he=>o.lt e (List.mem_filter.1 he).1⟩
def Ej(M:List HE)(seen:List Nat):Nat:=M.countP λe=>!seen.any (Nat.beq e.born)
theorem OI{α:Type}{p q:α->Bool}:∀(L:List α),(∀x∈L,q x=true->p x=true)->(∃x∈L,p x=true/\q x=false)->L.countP q<L.countP p:=by
 intro L
 induction L with
 |nil=>rintro _ ⟨x,hx,_⟩;nomatch hx
 |cons a L ih=>
  intro h hx;have hle:L.countP q<=L.countP p:=List.countP_mono_left λx hx=>h x (.tail _ hx);rw[List.countP_cons,List.countP_cons];by_cases ha:p a=true/\q a=false
  .rw[ha.1,ha.2];simp;omega
  ·have ht:∃x∈L,p x=true/\q x=false:=by
    obtain⟨x,hx,h1⟩:=hx;rcases List.mem_cons.1 hx with rfl|hx
    .exact absurd h1 ha
    .exact⟨x,hx,h1⟩
   have:=ih (λx hx=>h x (.tail _ hx)) ht;have ha2:=h a (.head _);cases hq:q a with
   |false=>simp;omega
   |true=>rw[ha2 hq];simp;omega
theorem xh{M:List HE}{seen:List Nat}{e:HE}(he:e∈M)(hn:seen.any (Nat.beq e.born)=false):Ej M (e.born::seen)<Ej M seen:=by
 refine OI M (λx _ h=>?_) ⟨e,he,by rw[hn];rfl,by simp⟩;rw[List.any_cons,Bool.not_or,Bool.and_eq_true]at h;exact h.2
theorem KM{b m since:Nat}{seen:List Nat}{clock:Nat}{h:af}{V:KQ}(hlo:h.lo<=b):∀(es:List MapEntry)(e:MapEntry),(∀x∈e::es,x.born<since)->(∀x∈e::es,V (.tuple ⟨[.bool true,x.key,x.val]⟩) ⟨h.nx,h.bl.bt b (.fh (some m) since (x.born::seen) clock),h.lo⟩)->nF False And b m since seen clock h V e es:=by
 intro es
 induction es with
 |nil=>
  intro e hb hk;unfold nF;rw[Nat.ble_eq_true_of_le (show Nat.succ e.born<=since from hb e (.head _))];simp only;rw[cq _ _ _ _ hlo];exact hk e (.head _)
 |cons a es ih=>
  intro e hb hk;unfold nF;rw[Nat.ble_eq_true_of_le (show Nat.succ e.born<=since from hb e (.head _))];simp only;rw[cq _ _ _ _ hlo];exact⟨hk e (.head _),ih a (λx hx=>hb x (.tail _ hx)) λx hx=>hk x (.tail _ hx)⟩
theorem SU{M:List HE}{clock b bm:Nat}{seen:List Nat}{h:af}(o:gV M clock)(hb:h.bl.get b=some (.fh (some bm) clock seen clock))(g:h.bl.get bm=some (.map (M.map mP) clock))(hlo:h.lo<=b)(V:KQ)(iE:(∀e∈M,seen.any (Nat.beq e.born)=true)->V (.tuple ⟨[.bool false]⟩) h)(cZ:∀e∈M,seen.any (Nat.beq e.born)=false->V (.tuple ⟨[.bool true,dJ e.t e.r,YYV e.hb]⟩) ⟨h.nx,h.bl.bt b (.fh (some bm) clock (e.born::seen) clock),h.lo⟩):sk False And (YYV b) h V:=by
 unfold sk;simp only[hb,g];have e1:(!seen.isEmpty && !(M.map mP).isEmpty && (M.map mP).all (λe=>Nat.ble clock e.born))=false:=by
  cases M with
  |nil=>simp
  |cons e M=>
   have:Nat.ble clock (mP e).born=false:=by
    have:=o.lt e (.head _);cases hc:Nat.ble clock (mP e).born with
    |false=>rfl
    |true=>have:=Nat.le_of_ble_eq_true hc;simp only[mP]at this;omega
   rw[List.map_cons,List.all_cons,this];simp
 rw[e1];simp only;rw[List.filter_map];have hmem:∀x,x∈(M.filter ((λe:MapEntry=>!seen.any (Nat.beq e.born)) ∘ mP)).map mP->∃e∈M,seen.any (Nat.beq e.born)=false/\x=mP e:=by
  intro x hx;obtain⟨e,he,rfl⟩:=List.mem_map.1 hx;rw[List.mem_filter]at he;exact⟨e,he.1,by have:=he.2;simpa[mP]using this,rfl⟩
 split
 .rename_i hnil;refine iE λe he=>?_;cases hs:seen.any (Nat.beq e.born)with
  |true=>rfl
  |false=>
   have:mP e∈(M.filter ((λe:MapEntry=>!seen.any (Nat.beq e.born)) ∘ mP)).map mP:=List.mem_map.2 ⟨e,List.mem_filter.2 ⟨he,by simp only[Function.comp,mP,hs];rfl⟩,rfl⟩;rw[hnil]at this
   nomatch this
 .rename_i e es heq;rw[heq]at hmem;refine KM hlo es e (λx hx=>?_) λx hx=>?_
  .obtain⟨y,hy,_,rfl⟩:=hmem x hx;exact o.lt y hy
  .obtain⟨y,hy,h1,rfl⟩:=hmem x hx;exact cZ y hy h1
theorem Na{β:Type}{fl:β}{M:List HE}{clock b bm:Nat}{seen:List Nat}{h:af}(o:gV M clock){e:HE}(he:e∈M)(hb:h.bl.get b=some (.fh (some bm) clock (e.born::seen) clock))(g:h.bl.get bm=some (.map (M.map mP) clock))(V:YYY β):pQ fl (YYV b) h V=V (.tuple ⟨[dJ e.t e.r,YYV e.hb]⟩) h:=by
 unfold pQ;simp only[hb,g];have e1:Nat.beq clock clock=true:=Nat.beq_refl _;rw[e1];simp only;have:(M.map mP).find? (λx=>Nat.beq x.born e.born)=some (mP e):=by
  have key:∀(L:List HE),(L.Pairwise λa b=>a.born≠b.born)->e∈L->(L.map mP).find? (λx=>Nat.beq x.born e.born)=some (mP e):=by
   intro L
   induction L with
   |nil=>intro _ h;nomatch h
   |cons a L ih=>
    intro hp h1;rw[List.pairwise_cons]at hp;rw[List.map_cons,List.find?_cons];rcases List.mem_cons.1 h1 with rfl|k1
    .have:Nat.beq (mP e).born e.born=true:=Nat.beq_refl _;rw[this]
    ·have:Nat.beq (mP a).born e.born=false:=by
      cases hc:Nat.beq (mP a).born e.born with
      |false=>rfl
      |true=>exact absurd (Nat.eq_of_beq_eq_true hc) (hp.1 e k1)
     rw[this];exact ih hp.2 k1
  exact key M o.bn he
 rw[this];rfl
theorem Is{β:Type}{fl:β}{bm clock:Nat}{es:List MapEntry}{h:af}(g:h.bl.get bm=some (.map es clock))(V:YYY β):pP fl (.map (some bm)) h V=V (YYV h.nx) ⟨h.nx+1,h.bl.bt h.nx (.fh (some bm) clock [] clock),h.lo⟩:=by
 unfold pP;simp only[g,dS]
structure og(h:af)(e:HE):Prop where
 lt:e.hb<h.nx
 get:h.bl.get e.hb=some (gJ e.t e.r e.q e.w)
 qv:QV h e.q e.Q
structure SV(e:HE):Prop where
 ne:e.Q≠[]
 vq:VQ e.Q e.w
 stuck:tD e.Q
 small:e.Q.length<=128
structure bz(h:af)(bb bm bp bl:Nat)(most:Nat)(M:List HE)(clock:Nat)(F:List Int)(B:List Bool):Prop where
 Vc:bb<h.nx
 iN:bm<h.nx
 OJ:h.lo<=bm
 jb:h.bl.get bb=some (ah [YYX (most:Int),YYV bp,.map (some bm)] 178 false)
 gW:h.bl.get bm=some (.map (M.map mP) clock)
 ok:gV M clock
 bu:∀e∈M,og h e
 good:∀e∈M,SV e
 aL:e_ h bp bl F B
 ne:bp≠bl
theorem og.le{h h':af}{e:HE}(a:og h e)(l:Le h h'):og h' e:=⟨Nat.lt_of_lt_of_le a.lt l.nx,(l.get _ a.lt).trans a.get,a.qv.le l⟩
theorem e_.le{h h':af}{bp bl:Nat}{F:List Int}{B:List Bool}(p:e_ h bp bl F B)(l:Le h h'):e_ h' bp bl F B:=by
 have ln:=l.nx;have ll:=l.lo;have pl:=p.lt;have fl:=p.fr.lt;obtain⟨fs,hg,hpt⟩:=p.fr.cell;refine⟨⟨YYZ,by rw[ll];exact p.fr.lo,fs,(l.get _ fl).trans hg,?_⟩,YYZ,by rw[ll];exact p.lo,(l.get _ pl).trans p.cell,p.ok,p.small⟩;rcases hpt with e|⟨b,G,e,k1,k2,k3,k4⟩
 .exact .inl e
 .exact .inr ⟨b,G,e,YYZ,YYZ,(l.get _ k1).trans k3,k4⟩
theorem bz.le{h h':af}{bb bm bp bl most:Nat}{M:List HE}{clock:Nat}{F:List Int}{B:List Bool}(s:bz h bb bm bp bl most M clock F B)(l:Le h h'):bz h' bb bm bp bl most M clock F B:=
 ⟨Nat.lt_of_lt_of_le s.Vc l.nx,Nat.lt_of_lt_of_le s.iN l.nx,by rw[l.lo];exact s.OJ,(l.get _ s.Vc).trans s.jb,(l.get _ s.iN).trans s.gW,s.ok,λe he=>(s.bu e he).le l,s.good,s.aL.le l,s.ne⟩
theorem ant(h:af)(b o:Nat):nk prog h 100 122 (.pointer (some ⟨b,o,none⟩)) (.pointer none)=some false:=by kernel_rfl
theorem jc{β:Type}{fl:β}(cn:Bool)(b o:Nat)(h:af)(V:YYY β):aI fl prog .eql 122 cn false (.pointer (some ⟨b,o,none⟩)) (.pointer none) h V=V (.bool false) h:=by simp only[aI,ant,bZ]
theorem anu(h:af)(b o:Nat):nk prog h 100 214 (.pointer (some ⟨b,o,none⟩)) (.pointer none)=some false:=by kernel_rfl
theorem u6{β:Type}{fl:β}(cn:Bool)(b o:Nat)(h:af)(V:YYY β):aI fl prog .eql 214 cn false (.pointer (some ⟨b,o,none⟩)) (.pointer none) h V=V (.bool false) h:=by simp only[aI,anu,bZ]
theorem anv(h:af):nk prog h 100 214 (.pointer none) (.pointer none)=some true:=by kernel_rfl
theorem qY{β:Type}{fl:β}(cn:Bool)(h:af)(V:YYY β):aI fl prog .eql 214 cn false (.pointer none) (.pointer none) h V=V (.bool true) h:=by simp only[aI,anv,bZ]
theorem SX(bb:Nat)(h:af)(V:KQ)(hk:V (YYX 5) h):aq prog 327 [YYV bb] h V:=by
 apply YYW;rw[acI];simp(disch:=try exact Y)only[Wz,jc];exact hk
theorem gV.Nb{M:List HE}{clock:Nat}(o:gV M clock){e e':HE}(h:e∈M)(h':e'∈M)(hb:e.born=e'.born):e=e':=by
 have:∀(L:List HE),(L.Pairwise λa b=>a.born≠b.born)->e∈L->e'∈L->e=e':=by
  intro L
  induction L with
  |nil=>intro _ h;nomatch h
  |cons a L ih=>
   intro hp h1 h2;rw[List.pairwise_cons]at hp;rcases List.mem_cons.1 h1 with rfl|k1<;>rcases List.mem_cons.1 h2 with rfl|k2
   .rfl
   .exact absurd hb (hp.1 _ k2)
   .exact absurd hb.symm (hp.1 _ k1)
   .exact ih hp.2 k1 k2
 exact this M o.bn h h'
theorem WZ{h:af}{bb bm bp bl most:Nat}{M:List HE}{clock:Nat}{F:List Int}{B:List Bool}(s:bz h bb bm bp bl most M clock F B)(hlo:h.lo<=h.nx)(id:Int)(V:KQ)(iE:∀h',(∀e∈M,cB e.Q id=none)->Le h h'->V (.pointer none) h')(cZ:∀h' e p,e∈M->cB e.Q id=some p->Le h h'->V (YYV e.hb) h'):aq prog 326 [YYV bb,YYX id] h V:=by
 apply YYW;rw[SE];have g:=s.jb;have gm:=s.gW;simp(disch:=try exact Y)only[Wz,jc,HF,aJ,g,Is gm];obtain⟨hA,eA⟩:∃hA:af,hA=⟨h.nx+1,h.bl.bt h.nx (.fh (some bm) clock [] clock),h.lo⟩:=⟨_,rfl⟩
 rw[<-eA];have leA:Le h hA:=by rw[eA];exact(Le.refl h).new _
 have nA:hA.nx=h.nx+1:=by rw[eA]
 have lA:hA.lo=h.lo:=by rw[eA]
 have gA:hA.bl.get h.nx=some (.fh (some bm) clock [] clock):=by rw[eA];exact T.az _ _ _
 refine⟨λm l h1=>∃seen,m=Ej M seen/\h.nx<h1.nx/\Le h h1/\h1.bl.get h.nx=some (.fh (some bm) clock seen clock)/\∀e∈M,seen.any (Nat.beq e.born)=true->cB e.Q id=none,⟨_,[],rfl,YYZ,leA,gA,λe _ he=>by simp at he⟩,?_⟩;rintro m l h1 ⟨seen,rfl,n1,bT,g1,hs⟩;have gm1:=(bT.get _ s.iN).trans gm;have l1:=bT.lo;have n1':=bT.nx;refine SU s.ok g1 gm1 YYZ _ ?_ ?_
 .intro hall;simp(disch:=try exact Y)only[Wz];exact iE h1 (λe he=>hs e he (hall e he)) bT
 .intro e he LR;have H:=s.bu e he;have hlt:=H.lt;have bE:Le h ⟨h1.nx,h1.bl.bt h.nx (.fh (some bm) clock (e.born::seen) clock),h1.lo⟩:=bT.set YYZ _;obtain⟨h2,e2⟩:∃h2:af,h2=⟨h1.nx,h1.bl.bt h.nx (.fh (some bm) clock (e.born::seen) clock),h1.lo⟩:=⟨_,rfl⟩
  rw[<-e2]at bE ⊢;have n2:h2.nx=h1.nx:=by rw[e2]
  have g2:h2.bl.get h.nx=some (.fh (some bm) clock (e.born::seen) clock):=by rw[e2];exact T.az _ _ _
  have SY:=(bE.get _ s.iN).trans gm;have l2:=bE.lo;obtain⟨qx,qc,eq,_⟩:=(show Sl bL h e.q e.Q from H.qv.1)
  have gh:=(bE.get _ hlt).trans H.get;rw[eq]at gh;simp(disch:=try exact Y)only[Wz,HD,Na s.ok he g2 SY,aJ,gh];refine M7 e.t e.r _ e.w id e.Q h2 _ (by rw[<-eq];exact H.qv.1.le bE) (by have:=(s.good e he).small;omega) YYZ ?_;intro h3 cL;have n3:=cL.nx;have l3:=cL.lo;have g3:=(cL.get h.nx YYZ).trans g2;have yx:=bE.trans cL;cases hf:cB e.Q id with
  |none=>
   simp(disch:=try exact Y)only[Wz,bL];refine⟨_,?_,e.born::seen,rfl,?_,yx.new _,?_,?_⟩
   .exact xh he LR
   .show h.nx<h3.nx+1;omega
   .exact g3
   .intro x hx hxs;rw[List.any_cons,Bool.or_eq_true]at hxs;rcases hxs with hb|hb
    .rw[s.ok.Nb hx he (Nat.eq_of_beq_eq_true hb)];exact hf
    .exact hs x hx hb
  |some p=>
   simp(disch:=try exact Y)only[Wz,bL];exact cZ _ e p he hf (yx.new _)
structure si(bm bp bl:Nat)(h h':af):Prop where
 nx:h.nx<=h'.nx
 lo:h'.lo=h.lo
 get:∀c,c<h.nx->c≠bm->c≠bp->c≠bl->(∀vs,h.bl.get c≠some (ah vs 3 true))->h'.bl.get c=h.bl.get c
 g2:bp<h.nx->∀c,c<h.nx->c≠bm->c≠bp->c≠bl->¬FB h bp c->h'.bl.get c=h.bl.get c
 mv:bp<h.nx->∀c,c<h.nx->FB h' bp c->FB h bp c
theorem si.trans{bm bp bl:Nat}{h h' h'':af}(a:si bm bp bl h h')(b:si bm bp bl h' h''):si bm bp bl h h'':=
 ⟨Nat.le_trans a.nx b.nx,b.lo.trans a.lo,λc hc hm hn hl hi=>(b.get c (Nat.lt_of_lt_of_le hc a.nx) hm hn hl (λvs=>by rw[a.get c hc hm hn hl hi];exact hi vs)).trans (a.get c hc hm hn hl hi),
  λhb c hc hm hn hl hi=>(b.g2 (Nat.lt_of_lt_of_le hb a.nx) c (Nat.lt_of_lt_of_le hc a.nx) hm hn hl λx=>hi (a.mv hb c hc x)).trans (a.g2 hb c hc hm hn hl hi),
  λhb c hc x=>a.mv hb c hc (b.mv (Nat.lt_of_lt_of_le hb a.nx) c (Nat.lt_of_lt_of_le hc a.nx) x)⟩
theorem si.of_le{bm bp bl:Nat}{h h':af}(l:Le h h'):si bm bp bl h h':=⟨l.nx,l.lo,λc hc _ _ _ _=>l.get c hc,λ_ c hc _ _ _ _=>l.get c hc,λhb c _ x=>(FB.congr (l.get bp hb)).1 x⟩
theorem si.ait{bm bp bl:Nat}{h h':af}(f:M9 bp bl h h'):si bm bp bl h h':=⟨f.nx,f.lo,λc hc _ hn hl hi=>f.get c hc hn hl hi,λhb c hc _ hn hl hi=>f.g2 hb c hc hn hl hi,f.mv⟩
theorem si.of_map{bm bp bl:Nat}(h:af){es:List MapEntry}{cl:Nat}:si bm bp bl h ⟨h.nx,h.bl.bt bm (.map es cl),h.lo⟩:=by
 refine⟨Nat.le_refl _,rfl,λc _ hm _ _ _=>T.aD _ _ (λe=>hm e.symm),λ_ c _ hm _ _ _=>T.aD _ _ (λe=>hm e.symm),λ_ c _ hx=>?_⟩;by_cases e:bm=bp
 .subst e;obtain⟨n,cap,ls,hx⟩:=hx;exact absurd ((T.az _ _ _).symm.trans hx) bX
 .exact(FB.congr (T.aD _ _ e)).1 hx
theorem bz.put{h:af}{bb bm bp bl most:Nat}{M M':List HE}{clock clock':Nat}{F:List Int}{B:List Bool}(s:bz h bb bm bp bl most M clock F B)(o:gV M' clock')(hh:∀e∈M',og h e)(hg:∀e∈M',SV e):bz ⟨h.nx,h.bl.bt bm (.map (M'.map mP) clock'),h.lo⟩ bb bm bp bl most M' clock' F B:=by
 have gm:=s.gW;have ne:∀c,(h.bl.get c≠some (.map (M.map mP) clock))->(h.bl.bt bm (.map (M'.map mP) clock')).get c=h.bl.get c:=λc hc=>T.aD _ _ (by rintro rfl;exact hc gm);have nc:∀{vs ty op},(some (ah vs ty op):Option bO)≠some (.map (M.map mP) clock):=λh=>bX h.symm;obtain⟨fs,AM,hpt⟩:=s.aL.fr.cell;have k1:(h.bl.bt bm (.map (M'.map mP) clock')).get bb=h.bl.get bb:=ne bb (by rw[s.jb];exact nc);have k2:(h.bl.bt bm (.map (M'.map mP) clock')).get bp=h.bl.get bp:=ne bp (by rw[AM];exact nc);have k3:(h.bl.bt bm (.map (M'.map mP) clock')).get bl=h.bl.get bl:=ne bl (by rw[s.aL.cell];exact nc);refine⟨s.Vc,s.iN,s.OJ,k1.trans s.jb,T.az _ _ _,o,λe he=>?_,hg,⟨⟨s.aL.fr.lt,s.aL.fr.lo,fs,k2.trans AM,?_⟩,s.aL.lt,s.aL.lo,k3.trans s.aL.cell,s.aL.ok,s.aL.small⟩,s.ne⟩
 .have a:=hh e he;exact⟨a.lt,(ne _ (by rw[a.get];exact nc)).trans a.get,a.qv.put (λvs op=>by rw[gm];exact bX) _⟩
 .rcases hpt with e|⟨b,G,e,h1,h2,h3,h4⟩
  .exact .inl e
  .exact .inr ⟨b,G,e,h1,h2,(ne b (by rw[h3];exact nc)).trans h3,h4⟩
theorem SZ{Q:List R5}{W:Int}(v:VQ Q W)(n:Nat):(eU n Q).1.length=Q.length:=by
 have:=congrArg List.length (DN n v).2.1;simpa using this
structure gP(M M':List HE)(t r w:Int)(Q:List R5):Prop where
 gone:Q=[]->M'=M.filter λx=>!xg t r x
 put:Q≠[]->∃e,e.t=t/\e.r=r/\e.w=w/\e.Q=Q/\M'.Perm (M.filter (λx=>!xg t r x)++[e])
theorem u7{h:af}{bb bm bp bl most:Nat}{M:List HE}{clock:Nat}{F:List Int}{B:List Bool}(s:bz h bb bm bp bl most M clock F B)(hlo:h.lo<=h.nx)(t r:Int)(q:Value)(w:Int)(Q:List R5)(V:KQ)(hq:Sl bL h q Q)(vq:VQ Q w)(hlen:Q.length<=128)(hk:∀M' clock' v' h',bz h' bb bm bp bl most M' clock' F B->gP M M' t r w (eU (jD Q+1) Q).1->B0 h h' v' (eU (jD Q+1) Q).2->si bm bp bl h h'->V v' h'):aq prog 330 [YYV bb,kH t r q w] h V:=by
 obtain⟨qx,qc,rfl,_⟩:=(show Sl bL h q Q from hq)
 apply YYW;rw[acK];simp(disch:=try exact QQ)only[Wz,kH];obtain⟨hA,bg,aS,g1,dP,dQ⟩:=jH h (gJ t r (.slice qx Q.length qc) w);rw[<-bg];clear bg;refine adj t r _ w Q hA _ (hq.le aS) YYZ YYZ vq ?_;intro q2 v2 h2 EW mE bE;obtain⟨vq2,hkey,hst,hgr⟩:=DN (jD Q+1) vq;have ot:=SZ vq (jD Q+1);generalize hQ2:(eU (jD Q+1) Q).1=Q2 at *
 generalize hI2:(eU (jD Q+1) Q).2=I2 at *
 obtain⟨xV,xW,rfl,_⟩:=(show Sl bL h2 q2 Q2 from EW.1)
 have n2:=bE.nx;have l2:=bE.lo;have g1:=(bE.get _ YYZ).trans g1;have anw:=hst (Nat.lt_succ_self _);simp(disch:=try exact QQ)only[Wz,kH,g1];obtain⟨h3,e3⟩:∃h3:af,h3=⟨h2.nx,h2.bl.bt h.nx (gJ t r (.slice xV Q2.length xW) w),h2.lo⟩:=⟨_,rfl⟩
 have cL:Le h h3:=by rw[e3];exact(aS.trans bE).set YYZ _
 have g3:h3.bl.get h.nx=some (gJ t r (.slice xV Q2.length xW) w):=by rw[e3];exact T.az _ _ _
 have n3:h3.nx=h2.nx:=by rw[e3]
 have l3:h3.lo=h2.lo:=by rw[e3]
 have hq3:QV h3 (.slice xV Q2.length xW) Q2:=by rw[e3];exact EW.put (λvs op=>by rw[g1];exact bG YYQ) _
 have ta:B0 h h3 v2 I2:=by
  rw[e3];exact iJ.put (iJ.base mE YYZ) (by rw[g1];exact bI) _
 rw[<-e3];clear e3;have s3:=s.le cL;have gb:=s3.jb;have gm:=s3.gW;refine⟨λl h'=>V v2 h',?_,λl h' hk'=>hk'⟩;by_cases h0:Q2=[]
 .subst h0;simp(disch:=try exact QQ)only[Wz,Am,g3,HH,aJ,gb];refine adw s3.ok gm (by have:=s3.OJ;omega) t r _ ?_;intro h4 hc;have lS:gP M (M.filter λx=>!xg t r x) t r w []:=⟨λ_=>rfl,λhn=>absurd rfl hn⟩
  rcases hc with rfl|⟨rfl,hM⟩
  .exact hk _ clock v2 _ (s3.put (s3.ok.filter _) (λe he=>s3.bu e (List.mem_filter.1 he).1) λe he=>s3.good e (List.mem_filter.1 he).1) lS (iJ.put ta (by rw[gm];exact bX) _) ((si.of_le cL).trans (si.of_map _))
  .rw[hM]at lS;exact hk _ clock v2 _ s3 lS ta (si.of_le cL)
 ·have hpos:0<Q2.length:=List.length_pos_iff.2 h0;simp(disch:=try exact QQ)only[Wz,Am,g3,aZ (show ¬(Q2.length:Int)=0 by omega),HI,aJ,gb];refine adv s3.ok gm (by have:=s3.OJ;omega) t r h.nx (.slice xV Q2.length xW) w Q2 _ ?_;intro M' clock' born o' hp;have hsub:∀x∈M',x∈M\/x=⟨t,r,h.nx,born,.slice xV Q2.length xW,w,Q2⟩:=λx hx=>by
   rcases List.mem_append.1 (hp.mem_iff.1 hx)with hx|hx
   .exact .inl (List.mem_filter.1 hx).1
   .exact .inr (List.mem_singleton.1 hx)
  refine hk M' clock' v2 _ (s3.put o' (λe he=>?_) λe he=>?_) ⟨λhn=>absurd hn h0,λ_=>⟨_,rfl,rfl,rfl,rfl,hp⟩⟩ (iJ.put ta (by rw[gm];exact bX) _) ((si.of_le cL).trans (si.of_map _))
  .rcases hsub e he with h1|rfl
   .exact s3.bu e h1
   .exact⟨by show h.nx<h3.nx;omega,g3,hq3⟩
  .rcases hsub e he with h1|rfl
   .exact s3.good e h1
   .exact⟨h0,vq2,anw,by show Q2.length<=128;omega⟩
theorem W2(x:Int)(r:R5)(b:Nat)(h:af)(V:KQ)(hlo:h.lo<=h.nx)(hb:b<h.nx)(hg:h.bl.get b=some (ah [YYX x] 3 false))(hk:∀h',Le h h'->V (.bool (decide (r.x=x))) h'):aq prog 345 [mN r,av b] h V:=by
 have hk:=hk _ ((Le.refl h).new (lV r));apply YYW;rw[acT];simp(disch:=try exact Y)only[Wz,bL,hg];exact hk
theorem Iu{h:af}{bb bm bp bl most:Nat}{M:List HE}{clock:Nat}{F:List Int}{B:List Bool}(s:bz h bb bm bp bl most M clock F B)(hlo:h.lo<=h.nx)(t r x:Int)(V:KQ)(iE:∀h',(∀e∈M,t=e.t->r=e.r->∀p∈e.Q,p.x≠x)->Le h h'->V (.tuple ⟨[YYX 0,.bool false]⟩) h')(cZ:∀h' e p,e∈M->t=e.t->r=e.r->p∈e.Q->p.x=x->Le h h'->V (.tuple ⟨[YYX p.id,.bool true]⟩) h'):aq prog 333 [YYV bb,dJ t r,YYX x] h V:=by
 apply YYW;rw[acL];simp(disch:=try exact Y)only[Wz,dJ];obtain⟨hA,bg,aS,g1,g3,dP,dQ⟩:=Km h (ah [YYX t,YYX r] 26 false) (ah [YYX x] 3 false);rw[<-bg];clear bg;have sA:=s.le aS;have gb:=sA.jb;have gm:=sA.gW;by_cases hc:∃e∈M,t=e.t/\r=e.r
 case neg=>
  have hn:∀e∈M,¬(t=e.t/\r=e.r):=λe he h=>hc ⟨e,he,h⟩;have eL:=CJ (β:=Option Value) (fl:=none) gm t r hn;unfold dJ at eL;simp(disch:=try exact Y)only[Wz,jc,An,aJ,gb,g1,eL];exact iE _ (λe he h1 h2=>absurd ⟨h1,h2⟩ (hn e he)) aS
 obtain⟨e,he,rfl,rfl⟩:=hc;have eL:=Ir (β:=Option Value) (fl:=none) sA.ok gm he;unfold dJ at eL;have H:=sA.bu e he;have hlt:=H.lt;have gd:=sA.good e he;have vV:=gd.small;obtain⟨qx,qc,eq,_⟩:=(show Sl bL hA e.q e.Q from H.qv.1)
 have gh:=H.get;rw[eq]at gh;simp(disch:=try exact Y)only[Wz,jc,An,aJ,gb,g1,eL,HK,gh];rw[<-eq];refine Az e.Q (λp=>decide (p.x=x)) hA _ _ _ H.qv.1 YYZ ?_ ?_
 .intro p _ h1 κ1 l1 cZ;simp(disch:=try exact Y)only[Wz,List.nil_append,List.cons_append];refine W2 x p (h.nx+1) h1 κ1 (by have:=l1.lo;have:=l1.nx;omega) (by have:=l1.nx;omega) ((l1.get _ YYZ).trans g3) cZ
 intro h2 bE;have gh2:=(bE.get _ hlt).trans gh;have qZ:=aS.trans bE;rcases mI e.Q (λp=>decide (p.x=x))with⟨ei,hf⟩|⟨i,p,ei,hp,h1,h2⟩
 .rw[ei];simp(disch:=try exact Y)only[Wz,gG];exact iE h2 (λe' he' h1 h2 p hp=>by rw[sA.ok.uniq he' he h1.symm h2.symm]at hp;have:=hf p hp;simpa using this) qZ
 .rw[ei];obtain⟨b,o,hb,JR,_,hid,_⟩:=WD (H.qv.1.le bE) i hp;rw[eq]at JR;simp(disch:=try exact Y)only[Wz,gG,cG (show(0:Int)<=(i:Int)by omega),HJ,aJ,gh2,JR,hid];exact cZ _ e p he rfl rfl (List.mem_of_getElem? hp) (by simpa using h1) qZ
def iq(M:List HE):List Int:=M.flatMap λe=>e.Q.map (·.id)
def lI(B:List Bool):List Int:=((List.range B.length).filter λn=>(B[n]?).getD false).map λn:Nat=>(n:Int)
theorem kZ{B:List Bool}{x:Int}:x∈lI B<->∃n:Nat,x=(n:Int)/\B[n]? = some true:=by
 unfold lI;rw[List.mem_map];constructor
 .rintro⟨n,hn,rfl⟩;rw[List.mem_filter,List.mem_range]at hn;refine⟨n,rfl,?_⟩;have h2:=hn.2;rw[List.getElem?_eq_getElem hn.1]at h2 ⊢;simpa using h2
 .rintro⟨n,rfl,h⟩;refine⟨n,List.mem_filter.2 ⟨List.mem_range.2 (List.getElem?_eq_some_iff.1 h).1,by rw[h];rfl⟩,rfl⟩
theorem AN{L:List Nat}(h:L.Nodup):(L.map λn:Nat=>(n:Int)).Nodup:=by
 rw[List.Nodup,List.pairwise_map];exact h.imp λhne e=>hne (Int.ofNat.inj e)
theorem tH(B:List Bool):(lI B).Nodup:=AN (List.nodup_range.filter _)
theorem AO{L:List Int}{x:Int}(h:L.Nodup)(hx:x∉L):(L++[x]).Nodup:=by
 rw[List.nodup_append];refine⟨h,by simp,λa ha b hb=>?_⟩;rw[List.mem_singleton]at hb;subst hb;rintro rfl;exact hx ha
theorem CL{B:List Bool}{n:Nat}(h:B[n]? = some false):(lI (B.set n true)).Perm (lI B++[(n:Int)]):=by
 have hn:n<B.length:=(List.getElem?_eq_some_iff.1 h).1;refine(List.perm_ext_iff_of_nodup (tH _) (AO (tH _) λhm=>?_)).2 λx=>?_
 .obtain⟨k,e,hk⟩:=kZ.1 hm;have:k=n:=(Int.ofNat.inj e).symm;subst this;rw[h]at hk;cases hk
 .rw[List.mem_append,List.mem_singleton,kZ,kZ];constructor
  .rintro⟨k,rfl,hk⟩;by_cases hkn:k=n
   .exact .inr (by rw[hkn])
   .rw[List.getElem?_set,if_neg (λe=>hkn e.symm)]at hk;exact .inl ⟨k,rfl,hk⟩
  .rintro(⟨k,rfl,hk⟩|rfl)
   .refine⟨k,rfl,?_⟩;rw[List.getElem?_set];split
    .rename_i e;exact absurd (by rw[<-e,h]at hk;exact hk:some false=some true) (by simp)
    .exact hk
   .exact⟨n,rfl,by rw[List.getElem?_set,if_pos rfl,if_pos hn]⟩
theorem OK{B:List Bool}{n:Nat}(h:B[n]? = some true):(lI B).Perm (lI (B.set n false)++[(n:Int)]):=by
 have hn:n<B.length:=(List.getElem?_eq_some_iff.1 h).1;have:=CL (B:=B.set n false) (n:=n) (by rw[List.getElem?_set,if_pos rfl,if_pos hn]);rw[List.set_set]at this;have e:B.set n true=B:=by
  refine List.ext_getElem? λk=>?_;rw[List.getElem?_set];split
  .rename_i e;rw[<-e,h]
  .rfl
 rwa [e]at this
theorem u9{F:List Int}{B:List Bool}(o:lD F B):(lI B).length+F.length=B.length:=by
 have hp:F.Perm (((List.range B.length).filter λn=>!(B[n]?).getD false).map λn:Nat=>(n:Int)):=by
  refine(List.perm_ext_iff_of_nodup o.nodup (AN (List.nodup_range.filter _))).2 λx=>?_;rw[List.mem_map];constructor
  .intro hx;obtain⟨n,rfl⟩:∃n:Nat,x=(n:Int):=⟨x.toNat,by have:=o.pos x hx;omega⟩
   have hb:=(o.mem n).1 hx;exact⟨n,List.mem_filter.2 ⟨List.mem_range.2 (List.getElem?_eq_some_iff.1 hb).1,by rw[hb];rfl⟩,rfl⟩
  .rintro⟨n,hn,rfl⟩;rw[List.mem_filter,List.mem_range]at hn;refine(o.mem n).2 ?_;have h2:=hn.2;rw[List.getElem?_eq_getElem hn.1]at h2 ⊢;simpa using h2
 rw[hp.length_eq];unfold lI;rw[List.length_map,List.length_map,<-List.countP_eq_length_filter,<-List.countP_eq_length_filter];have:=List.length_eq_countP_add_countP (λn=>(B[n]?).getD false) (l:=List.range B.length);rw[List.length_range]at this;have e2:List.countP (λn=>!(B[n]?).getD false) (List.range B.length)=List.countP (λa=>decide ¬(B[a]?).getD false=true) (List.range B.length):=List.countP_congr λx _=>by simp
 omega
theorem nS(M N:List HE):iq (M++N)=iq M++iq N:=List.flatMap_append
theorem rU{M N:List HE}(h:M.Perm N):(iq M).Perm (iq N):=h.flatMap_right _
theorem u_(e:HE):iq [e]=e.Q.map (·.id):=by simp[iq]
theorem rV{M:List HE}{clock:Nat}(o:gV M clock){e:HE}(he:e∈M):M.Perm (M.filter (λx=>!xg e.t e.r x)++[e]):=by
 obtain⟨j,hj,rfl⟩:=List.mem_iff_getElem.1 he;rw[<-erase_filter o.nm (List.getElem?_eq_getElem hj)];have:M=M.set j M[j]:=by simp
 refine(List.Perm.of_eq this).trans ?_;rw[List.set_eq_take_append_cons_drop,if_pos hj,List.eraseIdx_eq_take_drop_succ];exact(List.perm_middle).trans (List.perm_append_singleton _ _).symm
theorem CM{M:List HE}{t r:Int}(hn:∀e∈M,¬(t=e.t/\r=e.r)):M.filter (λx=>!xg t r x)=M:=List.filter_eq_self.2 λx hx=>sM.2 (hn x hx)
theorem gP.ids{M M':List HE}{t r w:Int}{Q:List R5}(s:gP M M' t r w Q):(iq M').Perm (iq (M.filter λx=>!xg t r x)++Q.map (·.id)):=by
 by_cases h0:Q=[]
 .rw[s.gone h0,h0];simp
 .obtain⟨e,_,_,_,eq,hp⟩:=s.put h0;have:=rU hp;rw[nS,u_,eq]at this;exact this
theorem AP{Q:List R5}{W:Int}(v:VQ Q W)(n:Nat):(eU n Q).1.map (·.id)=Q.map (·.id):=by
 have:=congrArg (List.map Prod.fst) (DN n v).2.1;simpa[List.map_map,Function.comp_def,Kt]using this
def sN(M:List HE)(B:List Bool):Prop:=∃X,(iq M++X).Perm (lI B)
theorem sN.find{M:List HE}{B:List Bool}(i:sN M B){e:HE}(he:e∈M){p:R5}(hp:p∈e.Q):∃n:Nat,p.id=(n:Int)/\B[n]? = some true:=by
 obtain⟨X,hX⟩:=i;exact kZ.1 (hX.mem_iff.1 (List.mem_append.2 (.inl (List.mem_flatMap.2 ⟨e,he,List.mem_map.2 ⟨p,hp,rfl⟩⟩))))
theorem QV.frame{h h':af}{q:Value}{Q:List R5}(v:QV h q Q)(hn:h.nx<=h'.nx)(hg:∀c vs op,c<h.nx->h.bl.get c=some (ah vs 164 op)->h'.bl.get c=h.bl.get c):QV h' q Q:=by
 obtain⟨hs,ht⟩:=v;constructor
 .obtain⟨x,cap,rfl,h2⟩:=hs;refine⟨x,cap,rfl,λhne=>?_⟩;obtain⟨b,o,rfl,h3,h4⟩:=h2 hne;obtain⟨h1,vs,op,h5⟩:=ht b o _ cap rfl (by intro h0;exact hne (List.eq_nil_of_length_eq_zero h0));refine⟨b,o,rfl,Nat.lt_of_lt_of_le h3 hn,?_⟩;rw[hg b vs op h1 h5];exact h4
 .intro b o n c hv hn0;obtain⟨h1,vs,op,h2⟩:=ht b o n c hv hn0;exact⟨Nat.lt_of_lt_of_le h1 hn,vs,op,(hg b vs op h1 h2).trans h2⟩
theorem og.fe{h h':af}{bp bl:Nat}{F:List Int}{B:List Bool}{e:HE}(a:og h e)(p:e_ h bp bl F B)(f:M9 bp bl h h'):og h' e:=by
 have fn:=f.nx;obtain⟨fs,AM,hpt⟩:=p.fr.cell;have gl:=p.cell;have key:∀c vs ty,c<h.nx->h.bl.get c=some (ah vs ty false)->ty≠173->ty≠4->h'.bl.get c=h.bl.get c:=λc vs ty hc hg h1 h2=>
  f.get c hc (by rintro rfl;rw[hg]at AM;exact bG h1 AM) (by rintro rfl;rw[hg]at gl;exact bG h2 gl) λws=>by rw[hg];exact bI
 have al:=a.lt;refine⟨YYZ,(key _ _ _ al a.get YYQ YYQ).trans a.get,a.qv.frame fn λc vs op hc hg=>?_⟩;exact f.get c hc (by rintro rfl;rw[hg]at AM;exact bG YYQ AM) (by rintro rfl;rw[hg]at gl;exact bG YYQ gl) λws=>by rw[hg];exact bG YYQ
theorem bz.fe{h h':af}{bb bm bp bl most:Nat}{M:List HE}{clock:Nat}{F F':List Int}{B B':List Bool}(s:bz h bb bm bp bl most M clock F B)(p:e_ h' bp bl F' B')(f:M9 bp bl h h'):bz h' bb bm bp bl most M clock F' B':=by
 have fn:=f.nx;have fl:=f.lo;have sb:=s.Vc;have sm:=s.iN;obtain⟨fs,AM,hpt⟩:=s.aL.fr.cell;have gl:=s.aL.cell;have key:∀c vs ty,c<h.nx->h.bl.get c=some (ah vs ty false)->ty≠173->ty≠4->h'.bl.get c=h.bl.get c:=λc vs ty hc hg h1 h2=>
  f.get c hc (by rintro rfl;rw[hg]at AM;exact bG h1 AM) (by rintro rfl;rw[hg]at gl;exact bG h2 gl) λws=>by rw[hg];exact bI
 have gm:=s.gW;have km:h'.bl.get bm=h.bl.get bm:=f.get bm sm (by rintro rfl;rw[AM]at gm;exact bX gm.symm) (by rintro rfl;rw[gl]at gm;exact bX gm.symm) λws=>by rw[gm];exact bX
 refine⟨YYZ,YYZ,by rw[fl];exact s.OJ,(key bb _ _ sb s.jb YYQ YYQ).trans s.jb,km.trans gm,s.ok,λe he=>?_,s.good,p,s.ne⟩;exact(s.bu e he).fe s.aL f
theorem W3(Q:List R5)(W id x m:Int):(kY Q W id x m).1.id=id:=by unfold kY;split<;>rfl
structure pz(h h':af)(bb bm bp bl most:Nat)(M M':List HE)(clock':Nat)(F F':List Int)(B:List Bool)(t r x m:Int)(n:Nat)(g:Bool):Prop where
 is:bz h' bb bm bp bl most M' clock' F' (B.set n true)
 free:((n:Int)::F').Perm F
 old:B[n]? = some false
 least:∀k,k<n->B[k]? = some true
 fr:si bm bp bl h h'
 set:∃Q w,((∃e∈M,e.t=t/\e.r=r/\e.Q=Q/\e.w=w)\/((∀e∈M,¬(t=e.t/\r=e.r))/\M.length<most/\Q=[]/\w=0))/\VQ Q w/\VQ (Q++[(kY Q w n x m).1]) (kY Q w n x m).2.1/\g=(kY Q w n x m).2.2/\
  gP M M' t r (kY Q w n x m).2.1 (eU (jD (Q++[(kY Q w n x m).1])+1) (Q++[(kY Q w n x m).1])).1
theorem CN{h h0:af}{bb bm bp bl most:Nat}{M:List HE}{clock:Nat}{F:List Int}{B:List Bool}(s:bz h bb bm bp bl most M clock F B)(hlo:h.lo<=h.nx)(l0:Le h0 h)(ids:sN M B)(hF:F.length<=1000)(N:Nat)(hN:N<=100000)(hw:∀e∈M,e.w<=N)(t r x m:Int)(am:cu m=true)(l:List Value)(ph:Nat)(Q:List R5)(q:Value)(w:Int)(hl:an l 18=YYV ph)(hp:ph<h.nx)(gp:h.bl.get ph=some (gJ t r q w))(hq:QV h q Q)(vq:VQ Q w)(vV:F≠[]->Q.length<=127)(hwN:w<=N)(hx:∀p∈Q,p.x≠x)(B2:∀p∈Q,∃k:Nat,p.id=(k:Int)/\B[k]? = some true)(hold:((∃e∈M,e.t=t/\e.r=r/\e.Q=Q/\e.w=w)\/((∀e∈M,¬(t=e.t/\r=e.r))/\M.length<most/\Q=[]/\w=0)))(V:KQ)(WY:∀h',F=[]->Le h0 h'->V (.tuple ⟨[YYX 0,.bool false,YYX 8]⟩) h')(ZA:∀M' clock' F' h' n g,pz h0 h' bb bm bp bl most M M' clock' F F' B t r x m n g->V (.tuple ⟨[YYX (n:Int),.bool g,YYX 0]⟩) h'):Ap (YYV bb) l (YYX x) (YYX m) h V:=by
 have gb:=s.jb;simp(disch:=try exact Y)only[Wz,Ap,aJ,gb];refine ads bp bl F B h _ s.aL hF hlo s.ne ?_ ?_
 .intro h0';simp(disch:=try exact Y)only[Wz];exact WY h h0' l0
 intro h2 F' n p2 hp2 hb adt B1;have s2:=s.fe p2 B1;have n2:=B1.nx;have l2:=B1.lo;have hF0:F≠[]:=by rintro rfl;have:=hp2.length_eq;simp at this
 have vV:=vV hF0;have H2:=og.fe (e:=⟨t,r,ph,0,q,w,Q⟩) ⟨hp,gp,hq⟩ s.aL B1;have g2:h2.bl.get ph=some (gJ t r q w):=H2.get;have EW:QV h2 q Q:=H2.qv;obtain⟨qx,qc,rfl,_⟩:=(show Sl bL h2 q Q from EW.1)
 simp(disch:=try exact Y)only[Wz,HL,hl,aJ,g2];have hn:∀p∈Q,p.id≠(n:Int)/\p.x≠x:=λp hp'=>⟨λe=>by
  obtain⟨k,e1,e2⟩:=B2 p hp';have:k=n:=by omega
  rw[this,hb]at e2;exact absurd e2 (by simp),hx p hp'⟩
 refine aih t r _ w (n:Int) x m Q h2 _ EW.1 YYZ YYZ ⟨vq.w0,YYZ⟩ YYZ am hn ?_;intro q3 h3 ta cL;have n3:=cL.nx;have l3:=cL.lo;have v3:=vq.ask (id:=(n:Int)) (x:=x) (m:=m) YYZ am hn;obtain⟨Il,Im,rfl,_⟩:=(show Sl bL h3 q3 _ from ta.sl)
 simp(disch:=try exact Y)only[Wz,kH];have jU:Le h2 ⟨h3.nx+1,h3.bl.bt h3.nx (gJ t r (.slice Il (Q++[(kY Q w n x m).1]).length Im) (kY Q w n x m).2.1),h3.lo⟩:=cL.new _;have lh4:Le h3 ⟨h3.nx+1,h3.bl.bt h3.nx (gJ t r (.slice Il (Q++[(kY Q w n x m).1]).length Im) (kY Q w n x m).2.1),h3.lo⟩:=(Le.refl h3).new _;have s4:=s2.le jU;refine u7 s4 (by show h3.lo<=h3.nx+1;omega) t r _ _ _ _ ((ta.sl).le lh4) v3 (by simp;omega) ?_;intro M' clock' v' h' s5 lS uV OL;exact ZA M' clock' F' h' n _ ⟨s5,hp2,hb,adt,(si.of_le l0).trans ((si.ait B1).trans ((si.of_le jU).trans OL)),Q,w,hold,vq,v3,rfl,lS⟩
theorem sN.len{M:List HE}{F:List Int}{B:List Bool}(i:sN M B)(o:lD F B){e:HE}(he:e∈M):e.Q.length+F.length<=B.length:=by
 have h1:=u9 o;obtain⟨X,hX⟩:=i;have h2:=hX.length_eq;rw[List.length_append]at h2;have:e.Q.length<=(iq M).length:=by
  have hs:=List.append_of_mem he;obtain⟨s,t,rfl⟩:=hs;simp[iq];omega
 omega
theorem W4{h:af}{bb bm bp bl most:Nat}{M:List HE}{clock:Nat}{F:List Int}{B:List Bool}(s:bz h bb bm bp bl most M clock F B)(hlo:h.lo<=h.nx)(ids:sN M B)(N:Nat)(hN:N<=100000)(hw:∀e∈M,e.w<=N)(t r x m:Int)(V:KQ)(hk2:∀h',cu m=false->Le h h'->V (.tuple ⟨[YYX 0,.bool false,YYX 2]⟩) h')(Cp:∀h' e p,cu m=true->e∈M->t=e.t->r=e.r->p∈e.Q->p.x=x->Le h h'->V (.tuple ⟨[YYX 0,.bool false,YYX 4]⟩) h')(hk8:∀h',cu m=true->(∀e∈M,t=e.t->r=e.r->∀p∈e.Q,p.x≠x)->(F=[]\/((∀e∈M,¬(t=e.t/\r=e.r))/\most<=M.length))->Le h h'->V (.tuple ⟨[YYX 0,.bool false,YYX 8]⟩) h')(ZA:∀M' clock' F' h' n g,cu m=true->(∀e∈M,t=e.t->r=e.r->∀p∈e.Q,p.x≠x)->pz h h' bb bm bp bl most M M' clock' F F' B t r x m n g->V (.tuple ⟨[YYX (n:Int),.bool g,YYX 0]⟩) h'):aq prog 335 [YYV bb,dJ t r,YYX x,YYX m] h V:=by
 apply YYW;rw[acN];have hFl:F.length<=1000:=by have:=u9 s.aL.ok;have:=s.aL.small;omega
 simp(disch:=try exact Y)only[Wz,dJ];obtain⟨hA,bg,aS,g1,dP,dQ⟩:=jH h (ah [YYX t,YYX r] 26 false);rw[<-bg];clear bg;have sA:=s.le aS;simp(disch:=try exact Y)only[Wz,jc,HO];by_cases h0:m=0
 .simp(disch:=try exact Y)only[Wz,bf h0];exact hk2 _ (by simp[cu,h0]) aS
 simp(disch:=try exact Y)only[Wz,aZ h0];refine p9 m ?_;cases hkn:kn m with
 |false=>
  simp(disch:=try exact Y)only[Wz];exact hk2 _ (by simp[cu,hkn]) aS
 |true=>
 have am:cu m=true:=by simp[cu,hkn,h0]
 simp(disch:=try exact Y)only[Wz,HM,g1];refine Iu sA YYZ t r x _ ?_ ?_
 case _=>
  intro h2 hno bE;have qZ:=aS.trans bE;have s2:=sA.le bE;have n2:=bE.nx;have l2:=bE.lo;have gb:=s2.jb;have gm:=s2.gW;have g1:=(bE.get _ YYZ).trans g1;by_cases hc:∃e∈M,t=e.t/\r=e.r
  .obtain⟨e,he,rfl,rfl⟩:=hc;have eL:=Ir (β:=Option Value) (fl:=none) s2.ok gm he;unfold dJ at eL;have H:=s2.bu e he;have hgd:=s2.good e he;simp(disch:=try exact Y)only[Wz,Aq,aJ,gb,g1,eL];refine⟨λl h'=>an l 18=YYV e.hb/\HQ h2 h',⟨rfl,rfl⟩,?_⟩;rintro l h' ⟨hl,hq⟩;cases(show h2=h' from hq);refine CN s2 YYZ qZ ids hFl N hN hw e.t e.r x m am l e.hb e.Q e.q e.w hl H.lt H.get H.qv hgd.vq (λhF0=>?_) (hw e he) (hno e he rfl rfl) (λp hp=>ids.find he hp) (.inl ⟨e,he,rfl,rfl,rfl,rfl⟩) V (λh' h1 h3=>hk8 h' am hno (.inl h1) h3) λM' clock' F' h' n g hA=>ZA M' clock' F' h' n g am hno hA;have:=ids.len s.aL.ok he;have:=s.aL.small;have:=List.length_pos_iff.2 hF0;omega
  .have hn:∀e∈M,¬(t=e.t/\r=e.r):=λe he h=>hc ⟨e,he,h⟩;have eL:=CJ (β:=Option Value) (fl:=none) gm t r hn;unfold dJ at eL;simp(disch:=try exact Y)only[Wz,Aq,aJ,gb,g1,eL];by_cases hfull:M.length<most
   .obtain⟨hB,eB⟩:∃hB:af,hB=⟨h2.nx+1,h2.bl.bt h2.nx (gJ t r (.slice none 0 0) 0),h2.lo⟩:=⟨_,rfl⟩
    have CO:Le h2 hB:=by rw[eB];exact(Le.refl h2).new _
    have gB:hB.bl.get h2.nx=some (gJ t r (.slice none 0 0) 0):=by rw[eB];exact T.az _ _ _
    have nB:hB.nx=h2.nx+1:=by rw[eB]
    have lB:hB.lo=h2.lo:=by rw[eB]
    refine⟨λl h'=>an l 18=YYV h2.nx/\HQ hB h',?_,?_⟩
    .simp(disch:=try exact Y)only[Wz,Ao,aJ,gb,g1,pO,gm,bY,List.length_map,bf (show Int.ofNat M.length<(most:Int)from by show(M.length:Int)<_;omega),Bool.not_true];exact⟨trivial,eB⟩
    .rintro l h' ⟨hl,hq⟩;cases(show hB=h' from hq);have sB:=s2.le CO;exact CN sB YYZ (qZ.trans CO) ids hFl N hN hw t r x m am l h2.nx [] (.slice none 0 0) 0 hl YYZ gB ⟨Sl.nil _ _ _,λb o n c hv _=>nomatch hv⟩ VQ.nil (λ_=>by simp) YYZ (λp hp=>nomatch hp) (λp hp=>nomatch hp) (.inr ⟨hn,hfull,rfl,rfl⟩) V (λh' h1 h3=>hk8 h' am hno (.inl h1) h3) λM' clock' F' h' n g hA=>ZA M' clock' F' h' n g am hno hA
   .refine⟨λl h'=>False,?_,λ_ _ h=>h.elim⟩;simp(disch:=try exact Y)only[Wz,Ao,aJ,gb,g1,pO,gm,bY,List.length_map,aZ (show ¬Int.ofNat M.length<(most:Int)from by show ¬(M.length:Int)<_;omega),Bool.not_false];exact hk8 h2 am hno (.inr ⟨hn,YYZ⟩) qZ
 case _=>
  intro h2 e p he ht hr hp hx bE;simp(disch:=try exact Y)only[Wz];exact Cp h2 e p am he ht hr hp hx (aS.trans bE)
structure k9(h h':af)(bb bm bp bl most:Nat)(M M':List HE)(clock':Nat)(F':List Int)(B':List Bool)(e:HE)(Q1:List R5)(w1:Int):Prop where
 is:bz h' bb bm bp bl most M' clock' F' B'
 fr:si bm bp bl h h'
 vq:VQ Q1 w1
 set:gP M M' e.t e.r w1 (eU (jD Q1+1) Q1).1
theorem Iv{Q:List R5}{W:Int}(v:VQ Q W){id:Int}{p:R5}(hf:cB Q id=some p):∃i:Nat,Q[i]? = some p/\p.id=id:=by
 obtain⟨h1,h2⟩:=jo hf;obtain⟨i,hi⟩:=List.mem_iff_getElem?.1 h1;exact⟨i,hi,h2⟩
theorem Iw{h:af}{bb bm bp bl most:Nat}{M:List HE}{clock:Nat}{F:List Int}{B:List Bool}(s:bz h bb bm bp bl most M clock F B)(hlo:h.lo<=h.nx)(N:Nat)(hN:N<=100000)(hw:∀e∈M,e.w<=N)(id m:Int)(V:KQ)(hk2:∀h',cu m=false->Le h h'->V (.tuple ⟨[.bool false,YYX 2]⟩) h')(Bw:∀h',cu m=true->(∀e∈M,cB e.Q id=none)->Le h h'->V (.tuple ⟨[.bool false,YYX 5]⟩) h')(S0:∀h' e p,cu m=true->e∈M->cB e.Q id=some p->0<p.s->Le h h'->V (.tuple ⟨[.bool false,YYX 7]⟩) h')(iE:∀h' M' clock' e p i,cu m=true->e∈M->e.Q[i]? = some p->cB e.Q id=some p->¬0<p.s->k9 h h' bb bm bp bl most M M' clock' F B e (e.Q.set i (jW e.Q e.w p m).1) (jW e.Q e.w p m).2.1->V (.tuple ⟨[.bool (jW e.Q e.w p m).2.2,YYX 0]⟩) h'):aq prog 336 [YYV bb,YYX id,YYX m] h V:=by
 apply YYW;rw[acO];simp(disch:=try exact Y)only[Wz,jc,HS];refine WZ s hlo id _ ?_ ?_
 .intro h1 hno bT;have n1:=bT.nx;have l1:=bT.lo;simp(disch:=try exact Y)only[Wz,qY];obtain⟨hA,bg,aS,g7,dP,dQ⟩:=jH h1 (gJ 0 0 (.slice none 0 0) 0);rw[<-bg];clear bg;refine⟨λl h'=>an l 4=YYV h1.nx/\HQ hA h',⟨rfl,rfl⟩,?_⟩;rintro l h' ⟨hl,hq⟩;cases(show hA=h' from hq);simp(disch:=try exact Y)only[Wz,Ar,hl,aJ,g7];refine AG 0 0 _ 0 id m [] hA _ (Sl.nil _ _ _) (by simp) YYZ YYZ ?_ ?_ ?_ ?_
  .intro ha h2 bE;have:=bE.nx;have:=bE.lo;simp(disch:=try exact Y)only[Wz,kH];exact hk2 _ ha (((bT.trans aS).trans bE).new _)
  .intro ha _ h2 bE;have:=bE.nx;have:=bE.lo;simp(disch:=try exact Y)only[Wz,kH];exact Bw _ ha hno (((bT.trans aS).trans bE).new _)
  .intro ha p hf;cases hf
  .intro ha i p hi;simp at hi
 .intro h1 e p0 he hf0 bT;have n1:=bT.nx;have l1:=bT.lo;have s1:=s.le bT;have H:=s1.bu e he;have hlt:=H.lt;have gd:=s1.good e he;have vV:=gd.small;obtain⟨qx,qc,eq,_⟩:=(show Sl bL h1 e.q e.Q from H.qv.1)
  have gh:=H.get;rw[eq]at gh;have we:=hw e he;simp(disch:=try exact Y)only[Wz,u6];refine⟨λl h'=>an l 4=YYV e.hb/\HQ h1 h',⟨rfl,rfl⟩,?_⟩;rintro l h' ⟨hl,hq⟩;cases(show h1=h' from hq);simp(disch:=try exact Y)only[Wz,Ar,hl,aJ,gh];refine AG e.t e.r _ e.w id m e.Q h1 _ (by rw[<-eq];exact H.qv.1) YYZ YYZ ⟨gd.vq.w0,YYZ⟩ ?_ ?_ ?_ ?_
  .intro ha h2 bE;have:=bE.nx;have:=bE.lo;simp(disch:=try exact Y)only[Wz,kH];exact hk2 _ ha ((bT.trans bE).new _)
  .intro ha hf;rw[hf]at hf0;cases hf0
  .intro ha p hf hs h2 bE;have:=bE.nx;have:=bE.lo;simp(disch:=try exact Y)only[Wz,kH];exact S0 _ e p ha he hf hs ((bT.trans bE).new _)
  .intro ha i p hi hf hs q' h2 EW bE;have n2:=bE.nx;have l2:=bE.lo;obtain⟨xV,xW,rfl,_⟩:=(show Sl bL h2 q' _ from EW.1)
   have vu:=gd.vq.upg hi hs ha;simp(disch:=try exact Y)only[Wz,kH];have cL:Le h1 ⟨h2.nx+1,h2.bl.bt h2.nx (gJ e.t e.r (.slice xV (e.Q.set i (jW e.Q e.w p m).1).length xW) (jW e.Q e.w p m).2.1),h2.lo⟩:=bE.new _;have lh3:Le h2 ⟨h2.nx+1,h2.bl.bt h2.nx (gJ e.t e.r (.slice xV (e.Q.set i (jW e.Q e.w p m).1).length xW) (jW e.Q e.w p m).2.1),h2.lo⟩:=(Le.refl h2).new _;refine u7 (s1.le cL) (by show h2.lo<=h2.nx+1;omega) e.t e.r _ _ _ _ (EW.1.le lh3) vu (by rw[List.length_set];omega) ?_;intro M' clock' v' h' s5 lS _ OL;exact iE h' M' clock' e p i ha he hi hf hs ⟨s5,(si.of_le (bT.trans cL)).trans OL,vu,lS⟩
theorem OM{h:af}{bb bm bp bl most:Nat}{M:List HE}{clock:Nat}{F:List Int}{B:List Bool}(s:bz h bb bm bp bl most M clock F B)(hlo:h.lo<=h.nx)(ids:sN M B)(id:Int)(V:KQ)(Bw:∀h',(∀e∈M,cB e.Q id=none)->Le h h'->V (.tuple ⟨[.slice none 0 0,YYX 5]⟩) h')(iE:∀h' M' clock' F' v' e p (n:Nat),e∈M->cB e.Q id=some p->id=(n:Int)->B[n]? = some true->F'.Perm (F++[(n:Int)])->k9 h h' bb bm bp bl most M M' clock' F' (B.set n false) e (e.Q.filter λr=>!cw id r) e.w->B0 h h' v' (eU (jD (e.Q.filter λr=>!cw id r)+1) (e.Q.filter λr=>!cw id r)).2->V (.tuple ⟨[v',YYX 0]⟩) h'):aq prog 346 [YYV bb,YYX id] h V:=by
 apply YYW;rw[acU];refine WZ s hlo id _ ?_ ?_
 .intro h1 hno bT;simp(disch:=try exact Y)only[Wz,qY];refine SX bb h1 _ ?_;exact Bw h1 hno bT
 .intro h1 e p he hf bT;have n1:=bT.nx;have l1:=bT.lo;have s1:=s.le bT;have H:=s1.bu e he;have hlt:=H.lt;have gd:=s1.good e he;have vV:=gd.small;obtain⟨qx,qc,eq,_⟩:=(show Sl bL h1 e.q e.Q from H.qv.1)
  have gh:=H.get;rw[eq]at gh;obtain⟨n,en,EV⟩:=ids.find he (jo hf).1;have eid:id=(n:Int):=by rw[<-en];exact(jo hf).2.symm
  have hFl:F.length<=1000:=by have:=u9 s.aL.ok;have:=s.aL.small;omega
  simp(disch:=try exact Y)only[Wz,u6,HW,aJ,gh];refine WL e.t e.r _ e.w id e.Q h1 _ (by rw[<-eq];exact H.qv.1) YYZ YYZ (by rw[hf];simp) ?_;intro q' h2 EW bE;have n2:=bE.nx;have l2:=bE.lo;obtain⟨xV,xW,rfl,_⟩:=(show Sl bL h2 q' _ from EW.1)
  have s2:=s1.le bE;have gb:=s2.jb;have hlb:=s2.Vc;simp(disch:=try exact Y)only[Wz,kH];obtain⟨h3,e3⟩:∃h3:af,h3=⟨h2.nx+1,h2.bl.bt h2.nx (gJ e.t e.r (.slice xV (e.Q.filter λr=>!cw id r).length xW) e.w),h2.lo⟩:=⟨_,rfl⟩
  have cL:Le h2 h3:=by rw[e3];exact(Le.refl h2).new _
  have g3:h3.bl.get h2.nx=some (gJ e.t e.r (.slice xV (e.Q.filter λr=>!cw id r).length xW) e.w):=by rw[e3];exact T.az _ _ _
  have n3:h3.nx=h2.nx+1:=by rw[e3]
  have l3:h3.lo=h2.lo:=by rw[e3]
  rw[<-e3];clear e3;have s3:=s2.le cL;have hl:=gd.vq.filter λr=>!cw id r;simp(disch:=try exact Y)only[Wz,gb,eid];refine adu bp bl F B n h3 _ s3.aL hFl YYZ s3.ne EV ?_;intro h4 F' p4 hp4 fr4;have n4:=fr4.nx;have l4:=fr4.lo;have H4:=og.fe (e:=⟨e.t,e.r,h2.nx,0,_,e.w,_⟩) ⟨by show h2.nx<h3.nx;omega,g3,EW.le cL⟩ s3.aL fr4;have g4:=H4.get;simp(disch:=try exact Y)only[Wz,g4];have lf:(e.Q.filter λr=>!cw id r).length<=e.Q.length:=List.length_filter_le _ _;refine u7 (s3.fe p4 fr4) YYZ e.t e.r _ _ _ _ H4.qv.1 hl (by show(e.Q.filter λr=>!cw id r).length<=128;omega) ?_;intro M' clock' v' h' s5 lS uV OL;have Zw:B0 h h' v' _:=iJ.base uV (by have:=bT.nx;omega);exact iE h' M' clock' F' v' e p n he hf eid EV hp4 ⟨s5,(si.of_le ((bT.trans bE).trans cL)).trans ((si.ait fr4).trans OL),hl,lS⟩ Zw
end Go.Proofs
