/-
  PROVED HERE: a part of the proof (K0, K1, K2, K3, K4, K5, K6, K7, K8, K9, K10, K11, K12, K13, K14, K15, K16, K17, K18, K19, K20, K21, K22, K23, K24, K25).
-/
import Derived.Test.YtmllggkhfmjpgaaGreatDoorG3
import Derived.Test.YtmllggkhfmjpgaaGreatDoorRZ
set_option linter.unusedVariables false
set_option linter.unusedSimpArgs false
set_option maxRecDepth 100000
namespace Go.Proofs
open Go.Vai Go.Clashes
open Tryz (prog)
theorem mixed:prog.follows .mixedOrders=true:=by kernel_rfl
theorem YYZ{f args h V}(g : aT prog f args h V):aj prog f args h V := ay mixed g
def cQ(t r:Int):Value:=.agg ⟨[YYY t,YYY r]⟩
theorem aen:∀i,i<7->∀j,j<7->br prog 200 299 [YYY (.ofNat i),YYY (.ofNat j)] (.bool (cmp (.ofNat i) (.ofNat j)))=true:=by decide +kernel
theorem aeo(n:Nat)(b:Int):br prog 200 299 [YYY (.negSucc n),YYY b] (.bool false)=true:=by kernel_rfl
theorem aep(n:Nat)(b:Int):br prog 200 299 [YYY (.ofNat (n+7)),YYY b] (.bool false)=true:=by kernel_rfl
theorem aeq:∀i,i<7->∀n:Nat,br prog 200 299 [YYY (.ofNat i),YYY (.negSucc n)] (.bool false)=true:=by
 refine seven ?_ ?_ ?_ ?_ ?_ ?_ ?_<;>intro n<;>kernel_rfl
theorem aer:∀i,i<7->∀n:Nat,br prog 200 299 [YYY (.ofNat i),YYY (.ofNat (n+7))] (.bool false)=true:=by
 refine seven ?_ ?_ ?_ ?_ ?_ ?_ ?_<;>intro n<;>kernel_rfl
theorem Gi(a b:Int){h:af}{V:KQ}(hk:V (.bool (cmp a b)) h):aj prog 299 [YYY a,YYY b] h V:=
 kZ mixed (F:=λa b=>.bool (cmp a b)) aen (λn b=>by rw[Pg (mY n)];exact aeo n b) (λn b=>by rw[Pg (mZ n)];exact aep n b) (λi hi n=>by rw[V7 (mY n)];exact aeq i hi n) (λi hi n=>by rw[V7 (mZ n)];exact aer i hi n) a b hk
theorem aes:∀i,i<7->∀j,j<7->br prog 200 178 [YYY (.ofNat i),YYY (.ofNat j)] (.bool (iK (.ofNat i) (.ofNat j)))=true:=by decide +kernel
theorem aet(n:Nat)(b:Int):br prog 200 178 [YYY (.negSucc n),YYY b] (.bool false)=true:=by kernel_rfl
theorem aeu(n:Nat)(b:Int):br prog 200 178 [YYY (.ofNat (n+7)),YYY b] (.bool false)=true:=by kernel_rfl
theorem aev:∀i,i<7->∀n:Nat,br prog 200 178 [YYY (.ofNat i),YYY (.negSucc n)] (.bool false)=true:=by
 refine seven ?_ ?_ ?_ ?_ ?_ ?_ ?_<;>intro n<;>kernel_rfl
theorem aew:∀i,i<7->∀n:Nat,br prog 200 178 [YYY (.ofNat i),YYY (.ofNat (n+7))] (.bool false)=true:=by
 refine seven ?_ ?_ ?_ ?_ ?_ ?_ ?_<;>intro n<;>kernel_rfl
theorem p8(a b:Int){h:af}{V:KQ}(hk:V (.bool (iK a b)) h):aj prog 178 [YYY a,YYY b] h V:=
 kZ mixed (F:=λa b=>.bool (iK a b)) aes (λn b=>by rw[Ko (mY n)];exact aet n b) (λn b=>by rw[Ko (mZ n)];exact aeu n b) (λi hi n=>by rw[EH (mY n)];exact aev i hi n) (λi hi n=>by rw[EH (mZ n)];exact aew i hi n) a b hk
theorem aex:∀i,i<7->∀j,j<7->br prog 200 129 [YYY (.ofNat i),YYY (.ofNat j)] (YYY (bA (.ofNat i) (.ofNat j)))=true:=by decide +kernel
theorem aey(n:Nat)(b:Int):br prog 200 129 [YYY (.negSucc n),YYY b] (YYY 0)=true:=by kernel_rfl
theorem aez(n:Nat)(b:Int):br prog 200 129 [YYY (.ofNat (n+7)),YYY b] (YYY 0)=true:=by kernel_rfl
theorem aeA:∀i,i<7->∀n:Nat,br prog 200 129 [YYY (.ofNat i),YYY (.negSucc n)] (YYY 0)=true:=by
 refine seven ?_ ?_ ?_ ?_ ?_ ?_ ?_<;>intro n<;>kernel_rfl
theorem aeB:∀i,i<7->∀n:Nat,br prog 200 129 [YYY (.ofNat i),YYY (.ofNat (n+7))] (YYY 0)=true:=by
 refine seven ?_ ?_ ?_ ?_ ?_ ?_ ?_<;>intro n<;>kernel_rfl
theorem zd(a b:Int){h:af}{V:KQ}(hk:V (YYY (bA a b)) h):aj prog 129 [YYY a,YYY b] h V:=
 kZ mixed (F:=λa b=>YYY (bA a b)) aex (λn b=>by rw[CC (mY n)];exact aey n b) (λn b=>by rw[CC (mZ n)];exact aez n b) (λi hi n=>by rw[CE (mY n)];exact aeA i hi n) (λi hi n=>by rw[CE (mZ n)];exact aeB i hi n) a b hk
theorem oH(a:Int){h:af}{V:KQ}(hk:V (.bool (kn a)) h):aj prog 103 [YYY a] h V:=by
 refine gN (v:=.bool (kn a)) rfl rfl (ay mixed ?_) hk;rw[XW];by_cases h1:a<0
 .simp(disch:=try exact Y)only[Wz];simp[kn];omega
 .by_cases h2:6<a
  .simp(disch:=try exact Y)only[Wz];simp[kn];omega
  .simp(disch:=try exact Y)only[Wz];simp[kn];omega
theorem Qc(a:Int){h:af}{V:KQ}(hk:V (.bool (kn a)) h):aj prog 66 [YYY a] h V:=by
 refine gN (v:=.bool (kn a)) rfl rfl (ay mixed ?_) hk;rw[adO];by_cases h1:a<0
 .simp(disch:=try exact Y)only[Wz];simp[kn];omega
 .by_cases h2:6<a
  .simp(disch:=try exact Y)only[Wz];simp[kn];omega
  .simp(disch:=try exact Y)only[Wz];simp[kn];omega
abbrev lT(r:R5):Value:=.agg ⟨bH r⟩
noncomputable abbrev j8(r:R5):bL:=ai [YYY r.id,YYY r.x,YYY r.m,YYY r.w,YYY r.s] 57 false
def zR:List Value:=[YYY 0,YYY 0,YYY 0,YYY 0,YYY 0]
theorem ajn:ED prog 53:=⟨λh n c n' c'=>by kernel_rfl,λh a n c n' c'=>by kernel_rfl⟩
theorem Qd(a0 a1:Value)(h:af)(V:KQ):aT prog 363 [a0,a1] h V=eW prog 3 5 a0 a1 h V:=by kernel_rfl
theorem aeC(a0 a1:Value)(h:af)(V:KQ):aT prog 421 [a0,a1] h V=jj prog 3 363 a0 a1 h V:=by kernel_rfl
theorem aeD(a0:Value)(h:af)(V:KQ):aT prog 165 [a0] h V=wY prog 53 57 5 zR a0 h V:=by kernel_rfl
theorem aeE(a0 a1:Value)(h:af)(V:KQ):aT prog 415 [a0,a1] h V=eX prog 3 363 57 5 zR a0 a1 h V:=by kernel_rfl
theorem ze(L:List R5)(F:R5->Bool)(h:af)(v fv:Value)(V:KQ)(hv:Sl bH h v L)(hlen:L.length<=1000000)(hF:∀p,p∈L->∀(h1:af)(κ1:Value->af->Prop),Le h h1->(∀h2,Le h1 h2->κ1 (.bool (F p)) h2)->fL prog fv [lT p] h1 κ1)(hk:∀h',Le h h'->V (YYY (fS (L.findIdx? F))) h'):aj prog 363 [v,fv] h V:=
 lR mixed cI Qd L F h v fv V hv hlen hF hk
theorem mJ(L:List R5)(F:R5->Bool)(h:af)(v fv:Value)(V:KQ)(hv:Sl bH h v L)(hlen:L.length<=1000000)(hF:∀p,p∈L->∀(h1:af)(κ1:Value->af->Prop),Le h h1->(∀h2,Le h1 h2->κ1 (.bool (F p)) h2)->fL prog fv [lT p] h1 κ1)(hk:∀h',Le h h'->V (.bool (L.any F)) h'):aj prog 421 [v,fv] h V:=
 rz mixed cI Qd aeC L F h v fv V hv hlen hF hk
abbrev wJ(a h:af)(v:Value)(L:List R5):Prop:=ia bH a 57 h v L
theorem Gj(L:List R5)(h:af)(v:Value)(V:KQ)(hv:Sl bH h v L)(hlen:L.length<=1000000)(hlo:h.lo<=h.nx)(hk:∀v' h',wJ h h' v' L->Le h h'->V v' h'):aj prog 165 [v] h V:=
 Pb mixed cI yw J0 J0 ajn aeD L h v V hv hlen hlo hk
theorem Mp(a h:af)(L:List R5)(F:R5->Bool)(v fv:Value)(V:KQ)(hle:Le a h)(ho:wJ a h v L)(hlen:L.length<=100000)(hlo:a.lo<=a.nx)(hF:∀p,∀(h1:af)(κ1:Value->af->Prop),Le a h1->(h.nx<=h1.nx/\∀c,c<h.nx->h.bl.get c≠some (ai (L.flatMap bH) 57 true)->h1.bl.get c=h.bl.get c)->(∀h2,Le h1 h2->κ1 (.bool (F p)) h2)->fL prog fv [lT p] h1 κ1)(hk:∀v' h',Sl bH h' v' (L.filter λp=>!F p)->Cut 57 5 h' v' (L.filter λp=>!F p).length->Le a h'->(h.nx<=h'.nx/\∀c,c<h.nx->h.bl.get c≠some (ai (L.flatMap bH) 57 true)->h'.bl.get c=h.bl.get c)->vS 57 h' v'->V v' h'):aj prog 415 [v,fv] h V:=
 yo mixed cI yw J0 rfl rfl J0 Qd aeE a h L F v fv V hle ho hlen hlo hF hk
theorem SA{h:af}{v:Value}{L:List R5}(hs:Sl bH h v L)(i:Nat){p:R5}(hp:L[i]? = some p):∃b o,b<h.nx/\(∀(β:Type)(fl:β)(h':af)(V:UV β),aI fl 5 v (YYY (i:Int)) h' V=V (.pointer (some ⟨b,o,none⟩)) h')/\
   ((∀(β:Type)(fl:β)(V:List Value->β),wW fl (h.bl.get b) o 5 V=V (bH p))/\
   (∀(β:Type)(fl:β)(V:Value->β),uv fl (h.bl.get b) o V=V (YYY p.id))/\
   (∀(β:Type)(fl:β)(V:Value->β),uv fl (h.bl.get b) (o+1) V=V (YYY p.x))/\
   (∀(β:Type)(fl:β)(V:Value->β),uv fl (h.bl.get b) (o+2) V=V (YYY p.m))/\
   (∀(β:Type)(fl:β)(V:Value->β),uv fl (h.bl.get b) (o+3) V=V (YYY p.w))/\
   (∀(β:Type)(fl:β)(V:Value->β),uv fl (h.bl.get b) (o+4) V=V (YYY p.s))):=by
 obtain⟨b,o,h1,h2,h3,hh⟩:=hs.ld cI i hp;have h5:(bH p).length=5:=rfl;exact⟨b,o,h1,h2,h3,λβ fl V=>eO (fl:=fl) hh 0 V XQ,λβ fl V=>eO (fl:=fl) hh 1 V XQ,λβ fl V=>eO (fl:=fl) hh 2 V XQ,λβ fl V=>eO (fl:=fl) hh 3 V XQ,λβ fl V=>eO (fl:=fl) hh 4 V XQ⟩
theorem CZ(r:R5){h:af}{V:KQ}(hk:V (.bool (decide (r.m≠0))) h):aj prog 319 [lT r] h V:=by
 refine gN (v:=.bool (decide (r.m≠0))) rfl rfl (ay mixed ?_) hk;rw[Zo];simp(disch:=try exact Y)only[Wz,bH];simp
theorem C0(r:R5){h:af}{V:KQ}(hk:V (.bool (decide (0<r.s))) h):aj prog 238 [lT r] h V:=by
 refine gN (v:=.bool (decide (0<r.s))) rfl rfl (ay mixed ?_) hk;rw[Y0];simp(disch:=try exact Y)only[Wz,bH]
theorem zf(r:R5){h:af}{V:KQ}(hk:V (.bool (w8 r)) h):aj prog 320 [lT r] h V:=by
 refine gN (v:=.bool (w8 r)) rfl rfl (ay mixed ?_) hk;rw[Zp];simp(disch:=try exact Y)only[Wz,bH];refine CZ r ?_;by_cases h1:r.m=0
 .simp(disch:=try exact Y)only[Wz,aZ (show ¬r.m≠0 by omega)];simp[w8,h1]
 .simp(disch:=try exact Y)only[Wz,bx (show r.m≠0 from h1)];refine C0 r ?_;simp[w8,h1]
theorem Gk(m:Int){h:af}{V:KQ}(hk:V (.bool (bZ m)) h):aj prog 420 [YYY m] h V:=by
 refine gN (v:=.bool (bZ m)) rfl rfl (ay mixed ?_) hk;rw[ZQ];by_cases h0:m=0
 .simp(disch:=try exact Y)only[Wz,bx h0];simp[bZ,h0]
 .simp(disch:=try exact Y)only[Wz,aZ h0];refine oH m ?_;simp[bZ,h0]
def jM(t r:Int)(q:Value)(w:Int):Value:=.agg ⟨[YYY t,YYY r,q,YYY w]⟩
theorem zg{h:af}{q:Value}{Q:List R5}(hq:Sl bH h q Q):q.cells.toList=[q]/\dI q=true:=by
 obtain⟨x,cap,rfl,_⟩:=hq;exact⟨rfl,rfl⟩
theorem Qe(id:Int)(r:R5)(b:Nat)(h:af)(V:KQ)(hlo:h.lo<=h.nx)(hb:b<h.nx)(hg:h.bl.get b=some (ai [YYY id] 3 false))(hk:∀h',Le h h'->V (.bool (b_ id r)) h'):aj prog 364 [lT r,aq b] h V:=by
 have hk:=hk _ ((Le.refl h).new (j8 r));apply YYZ;rw[ZB];simp(disch:=try exact Y)only[Wz,bH,hg];exact hk
theorem tI(t r:Int)(q:Value)(w id:Int)(Q:List R5)(h:af)(V:KQ)(hq:Sl bH h q Q)(hlen:Q.length<=1000000)(hlo:h.lo<=h.nx)(hk:∀h',Le h h'->V (YYY (fS (Q.findIdx? (b_ id)))) h'):aj prog 318 [jM t r q w,YYY id] h V:=by
 obtain⟨hc,ho⟩:=zg hq;apply YYZ;rw[Zn];simp(disch:=try exact Y)only[Wz,jM];obtain⟨hA,eA⟩:∃hA:af,hA=⟨h.nx+1+1,(h.bl.bq h.nx (ai [YYY t,YYY r,q,YYY w] 401 false)).bq (h.nx+1) (ai [YYY id] 3 false),h.lo⟩:=⟨_,rfl⟩
 have iD:Le h hA:=by subst eA;exact((Le.refl h).new _).new _
 have g3:hA.bl.get (h.nx+1)=some (ai [YYY id] 3 false):=by subst eA;exact T.au _ _ _
 have nA:hA.nx=h.nx+1+1:=by subst eA;rfl
 have lA:hA.lo=h.lo:=by subst eA;rfl
 rw[<-eA];clear eA;refine ze Q (b_ id) hA q _ _ (hq.le iD) hlen ?_ λh' hl=>hk h' (iD.trans hl);intro p hp h1 κ1 pE dB;have n1:=pE.nx;have l1:=pE.lo;simp(disch:=try exact Y)only[Wz,List.nil_append,List.cons_append];exact Qe id p (h.nx+1) h1 κ1 XQ XQ ((pE.get _ XQ).trans g3) dB
def vU(r o:R5):Bool:=decide (o.id≠r.id) && decide (o.m≠0) && !cmp o.m r.w
theorem TO(r o:R5)(b:Nat)(h:af)(V:KQ)(hlo:h.lo<=h.nx)(hb:b<h.nx)(hg:h.bl.get b=some (j8 r))(hk:∀h',Le h h'->V (.bool (vU r o)) h'):aj prog 433 [lT o,aq b] h V:=by
 have hk:=hk _ ((Le.refl h).new (j8 o));apply YYZ;rw[ZT];by_cases h1:o.id=r.id
 .simp(disch:=try exact Y)only[Wz,bH,hg,bx h1];have e:vU r o=false:=by simp[vU,h1]
  rw[e]at hk;exact hk
 .simp(disch:=try exact Y)only[Wz,bH,hg,aZ h1];refine CZ o ?_;by_cases h2:o.m=0
  .simp(disch:=try exact Y)only[Wz,aZ (show ¬o.m≠0 by omega)];have e:vU r o=false:=by simp[vU,h2]
   rw[e]at hk;exact hk
  .simp(disch:=try exact Y)only[Wz,bx (show o.m≠0 from h2),hg];refine Gi _ _ ?_;simp(disch:=try exact Y)only[Wz];have e:vU r o=!cmp o.m r.w:=by simp[vU,h1,h2]
   rw[e]at hk;exact hk
theorem C1(t r':Int)(q:Value)(w:Int)(r:R5)(Q:List R5)(h:af)(V:KQ)(hq:Sl bH h q Q)(hlen:Q.length<=1000000)(hlo:h.lo<=h.nx)(hk:∀h',Le h h'->V (.bool (iC Q r)) h'):aj prog 417 [jM t r' q w,lT r] h V:=by
 obtain⟨hc,ho⟩:=zg hq;apply YYZ;rw[ZN];simp(disch:=try exact Y)only[Wz,jM,bH];obtain⟨hA,eA⟩:∃hA:af,hA=⟨h.nx+1+1,(h.bl.bq h.nx (ai [YYY t,YYY r',q,YYY w] 401 false)).bq (h.nx+1) (j8 r),h.lo⟩:=⟨_,rfl⟩
 have iD:Le h hA:=by subst eA;exact((Le.refl h).new _).new _
 have g3:hA.bl.get (h.nx+1)=some (j8 r):=by subst eA;exact T.au _ _ _
 have nA:hA.nx=h.nx+1+1:=by subst eA;rfl
 have lA:hA.lo=h.lo:=by subst eA;rfl
 rw[<-eA];clear eA;refine mJ Q (vU r) hA q _ _ (hq.le iD) hlen ?_ ?_
 .intro p hp h1 κ1 pE dB;have n1:=pE.nx;have l1:=pE.lo;simp(disch:=try exact Y)only[Wz,List.nil_append,List.cons_append];exact TO r p (h.nx+1) h1 κ1 XQ XQ ((pE.get _ XQ).trans g3) dB
 .intro h' hl;simp(disch:=try exact Y)only[Wz];exact hk h' (iD.trans hl)
theorem Qf(r:R5){h:af}{V:KQ}(hk:V (.bool (decide (r.m=0))) h):aj prog 434 [lT r] h V:=by
 refine gN (v:=.bool (decide (r.m=0))) rfl rfl (ay mixed ?_) hk;rw[ZU];simp(disch:=try exact Y)only[Wz,bH];refine CZ r ?_;simp(disch:=try exact Y)only[Wz];simp
theorem Gl(t r':Int)(q:Value)(w:Int)(Q:List R5)(h:af)(V:KQ)(hq:Sl bH h q Q)(hlen:Q.length<=1000000)(hlo:h.lo<=h.nx)(hk:∀h',Le h h'->V (YYY (fS (ew Q))) h'):aj prog 418 [jM t r' q w] h V:=by
 obtain⟨hc,ho⟩:=zg hq;apply YYZ;rw[ZO];simp(disch:=try exact Y)only[Wz,jM];obtain⟨hA,eA⟩:∃hA:af,hA=⟨h.nx+1,h.bl.bq h.nx (ai [YYY t,YYY r',q,YYY w] 401 false),h.lo⟩:=⟨_,rfl⟩
 have iD:Le h hA:=by subst eA;exact(Le.refl h).new _
 have gA:hA.bl.get h.nx=some (ai [YYY t,YYY r',q,YYY w] 401 false):=by subst eA;exact T.au _ _ _
 have nA:hA.nx=h.nx+1:=by subst eA;rfl
 have lA:hA.lo=h.lo:=by subst eA;rfl
 rw[<-eA];clear eA;simp(disch:=try exact Y)only[Wz,hq.len];refine⟨λn l h1=>∃i:Nat,ah l 27=YYY (i:Int)/\ah l 25=YYY (fS (best Q i))/\i<=Q.length/\n=Q.length-i/\Le hA h1,⟨_,0,rfl,rfl,Nat.zero_le _,rfl,Le.refl _⟩,?_⟩;rintro n l h1 ⟨i,s1,s2,hi,rfl,hle⟩;have n1:=hle.nx;have l1:=hle.lo;have g1:=(hle.get h.nx XQ).trans gA;have hq1:=hq.le (iD.trans hle);by_cases hlt:i<Q.length
 .obtain⟨p,hp⟩:∃p,Q[i]? = some p:=⟨_,List.getElem?_eq_getElem hlt⟩
  obtain⟨b,o,hb,mD,mh⟩:=SA hq1 i hp;have La:best Q (i+1)=if(w8 p && EI Q p (best Q i))=true then some i else best Q i:=by
   show(match Q[i]? with|some r=>_|none=>_)=_
   rw[hp]
  simp(disch:=try exact Y)only[Wz,s1,zc];refine⟨λl' h'=>ah l' 24=YYY (fS (best Q (i+1)))/\Le hA h',?_,?_⟩
  .simp(disch:=try exact Y)only[Wz,Gg,s1,s2,mD,mh,bH];obtain⟨hB,eB⟩:∃hB:af,hB=⟨h1.nx+1,h1.bl.bq h1.nx (j8 p),h1.lo⟩:=⟨_,rfl⟩
   have r8:Le h1 hB:=by subst eB;exact(Le.refl h1).new _
   have gB:hB.bl.get h1.nx=some (j8 p):=by subst eB;exact T.au _ _ _
   have gB1:=(r8.get h.nx XQ).trans g1;have nB:hB.nx=h1.nx+1:=by subst eB;rfl
   have lB:hB.lo=h1.lo:=by subst eB;rfl
   rw[<-eB];clear eB;refine zf p ?_;cases hu:w8 p with
   |false=>
    simp(disch:=try exact Y)only[Wz,s2];refine⟨?_,hle.trans r8⟩;rw[La,hu];simp[s2]
   |true=>
    cases wK:best Q i with
    |none=>
     simp(disch:=try exact Y)only[Wz,s2,fS,fm (show(-1:Int)<0 by decide),wK];refine⟨?_,hle.trans r8⟩;rw[La,hu,wK];rfl
    |some k=>
     obtain⟨hkl,pk,hpk,_⟩:=CF Q i k wK;obtain⟨b',o',hb',ajo,ajp⟩:=SA (hq1.le r8) k hpk;have Wg:EI Q p (some k)=decide (p.s<pk.s):=by simp only[EI,hpk]
     simp(disch:=try exact Y)only[Wz,s2,fS,dF (show(0:Int)<=(k:Int)by omega),wK,gB,gB1,ajo,ajp];by_cases hs:p.s<pk.s
     .simp(disch:=try exact Y)only[Wz,bx hs];refine⟨?_,hle.trans r8⟩;rw[La,hu,wK,Wg,bx hs];rfl
     .simp(disch:=try exact Y)only[Wz,aZ hs];refine⟨?_,hle.trans r8⟩;rw[La,hu,wK,Wg,aZ hs]
      first|rfl|(rw[s2,wK];rfl)
  .rintro l' h' ⟨k1,k2⟩;exact⟨_,XQ,i+1,rfl,k1,XQ,rfl,k2⟩
 .have hil:i=Q.length:=by omega
  subst hil;simp(disch:=try exact Y)only[Wz,s1,zc];refine⟨λl' h'=>ah l' 6=YYY (fS (ew Q))/\Le hA h',?_,?_⟩
  rotate_left
  .rintro l' h' ⟨k1,k2⟩
   show V (ah l' 6) h'
   rw[k1];exact hk h' (iD.trans k2)
  cases wK:best Q Q.length with
  |some k=>
   have e:ew Q=some k:=by simp only[ew,wK]
   simp(disch:=try exact Y)only[Wz,zb,s2,wK,fS,dF (show(0:Int)<=(k:Int)by omega)];refine⟨?_,hle⟩;rw[e]
  |none=>
   have e:ew Q=Q.findIdx? (λr=>decide (r.m=0)):=by simp only[ew,wK]
   simp(disch:=try exact Y)only[Wz,zb,s2,wK,fS,fm (show(-1:Int)<0 by decide),g1];refine ze Q (λr=>decide (r.m=0)) h1 q _ _ hq1 hlen ?_ ?_
   .intro p hp h2 κ2 oS hk2;simp(disch:=try exact Y)only[Wz,List.nil_append,List.append_nil];exact Qf p (hk2 h2 (Le.refl _))
   .intro h' hl;refine⟨?_,hle.trans hl⟩;rw[e];rfl
theorem ia.base{α:Type}{enc:α->List Value}{a a' h:af}{e:TypeId}{v:Value}{L:List α}(ho:ia enc a e h v L)(hn:a'.nx<=a.nx):ia enc a' e h v L:=by
 rcases ho with ho|⟨b,h0,h1,h2⟩
 .exact .inl ho
 .exact .inr ⟨b,h0,Nat.le_trans hn h1,h2⟩
theorem ia.same{α:Type}{enc:α->List Value}{a h h':af}{e:TypeId}{v:Value}{L:List α}(ho:ia enc a e h v L)(hn:h.nx<=h'.nx)(hl:h'.lo=h.lo)(hs:∀b,a.nx<=b->b<h.nx->h'.bl.get b=h.bl.get b):ia enc a e h' v L:=by
 rcases ho with ho|⟨b,h0,h1,h2,h3,h4⟩
 .exact .inl ho
 .exact .inr ⟨b,h0,h1,Nat.lt_of_lt_of_le h2 hn,by rw[hl];exact h3,by rw[hs b h1 h2];exact h4⟩
theorem Gm(t r:Int)(q:Value)(w:Int)(Q:List R5)(h:af)(V:KQ)(hq:Sl bH h q Q)(hlen:Q.length<=1000000)(hlo:h.lo<=h.nx)(hk:∀q' h',wJ h h' q' Q->Le h h'->V (jM t r q' w) h'):aj prog 391 [jM t r q w] h V:=by
 obtain⟨qx,qc,rfl,_⟩:=id hq;apply YYZ;rw[ZC];simp(disch:=try exact Y)only[Wz,jM];obtain⟨hA,eA⟩:∃hA:af,hA=⟨h.nx+1+1,(h.bl.bq h.nx (ai [YYY t,YYY r,.slice qx Q.length qc,YYY w] 55 false)).bq (h.nx+1) (ai [YYY 0,YYY 0,.slice none 0 0,YYY 0] 401 false),h.lo⟩:=⟨_,rfl⟩
 have iD:Le h hA:=by subst eA;exact((Le.refl h).new _).new _
 have g1:hA.bl.get h.nx=some (ai [YYY t,YYY r,.slice qx Q.length qc,YYY w] 55 false):=by subst eA;exact(T.ax _ _ XQ).trans (T.au _ _ _)
 have g3:hA.bl.get (h.nx+1)=some (ai [YYY 0,YYY 0,.slice none 0 0,YYY 0] 401 false):=by subst eA;exact T.au _ _ _
 have nA:hA.nx=h.nx+1+1:=by subst eA;rfl
 have lA:hA.lo=h.lo:=by subst eA;rfl
 rw[<-eA];clear eA;refine Gj Q hA _ _ (hq.le iD) hlen XQ ?_;intro q' h2 mj hle2;have n2:=hle2.nx;have l2:=hle2.lo;have g12:=(hle2.get h.nx XQ).trans g1;have g32:=(hle2.get (h.nx+1) XQ).trans g3;have hle:=(iD.trans hle2)
 obtain⟨qx',qc',rfl,_⟩:=id mj.sl;simp(disch:=try exact Y)only[Wz,g12,g32];refine hk _ _ ?_ ?_
 .refine ia.base (ia.same mj (Nat.le_refl _) rfl λb h1 _=>?_) XQ;exact(T.ax _ _ XQ).trans (T.ax _ _ XQ)
 .exact(hle.set (b:=h.nx) (Nat.le_refl _) _).set (b:=h.nx+1) (Nat.le_succ _) _
def p9(id x:Int)(r:R5):Bool:=decide (r.id=id) || decide (r.x=x)
theorem ZZ(id x:Int)(r:R5)(b3 b5:Nat)(h:af)(V:KQ)(hlo:h.lo<=h.nx)(hb3:b3<h.nx)(hb5:b5<h.nx)(hg3:h.bl.get b3=some (ai [YYY id] 3 false))(hg5:h.bl.get b5=some (ai [YYY x] 3 false))(hk:∀h',Le h h'->V (.bool (p9 id x r)) h'):aj prog 422 [lT r,aq b3,aq b5] h V:=by
 have hk:=hk _ ((Le.refl h).new (j8 r));apply YYZ;rw[ZR];by_cases h1:r.id=id
 .simp(disch:=try exact Y)only[Wz,bH,hg3,hg5,bx h1];have e:p9 id x r=true:=by simp[p9,h1]
  rw[e]at hk;exact hk
 .simp(disch:=try exact Y)only[Wz,bH,hg3,hg5,aZ h1];have e:p9 id x r=decide (r.x=x):=by simp[p9,h1]
  rw[e]at hk;exact hk
theorem ia.put{α:Type}{enc:α->List Value}{a h:af}{e:TypeId}{v:Value}{L:List α}(ho:ia enc a e h v L){c:Nat}(hc:h.bl.get c≠some (ai (L.flatMap enc) e true))(o:bL):ia enc a e ⟨h.nx,h.bl.bq c o,h.lo⟩ v L:=by
 rcases ho with ho|⟨b,h0,h1,h2,h3,h4⟩
 .exact .inl ho
 .refine .inr ⟨b,h0,h1,h2,h3,(T.ax _ _ ?_).trans h4⟩;rintro rfl;exact hc h4
theorem Qg(t r:Int)(qx:Option Addr)(qc:Nat)(w:Int)(p:R5)(g:Bool)(Ag Mo b7:Nat)(Q:List R5)(a h:af)(V:KQ)(ho:wJ a h (.slice qx Q.length qc) Q)(hle:Le a h)(hlen:Q.length<=100000)(hlo:h.lo<=h.nx)(ajq:Ag<h.nx)(aoh:Mo<h.nx)(hb7:b7<h.nx)(hd:Ag≠b7)(aoi:h.lo<=Ag)(hl7:h.lo<=b7)(g29:h.bl.get Ag=some (ai [YYY t,YYY r,.slice qx Q.length qc,YYY w] 401 false))(Z0:h.bl.get Mo=some (j8 p))(g7:h.bl.get b7=some (ai [YYY 0,YYY 0,.slice none 0 0,YYY 0] 55 false))(hk:∀q' h',wJ a h' q' (Q++[p])->(h.nx<=h'.nx/\h'.lo=h.lo/\∀b,b<a.nx->b≠Ag->b≠b7->h'.bl.get b=a.bl.get b)->V (.tuple ⟨[jM t r q' w,.bool g,YYY 0]⟩) h'):tH Ag Mo b7 (.bool g) h V:=by
 simp(disch:=try exact Y)only[Wz,tH,g29,Z0];have hle1:=(Le.refl h).new (j8 p);refine jC (enc:=bH) (a:=a) (L:=Q) (M:=[p]) cI yw J0 J0 (ho.le hle1) (Sl.new (L:=[p]) (e:=57) (op:=false) (Nat.lt_succ_self _) (T.au _ _ _) _) (hle.new _) (by simp;omega) (by show h.lo<=h.nx+1;omega) _ ?_;intro v' h' ho' hle' wC hn2 hl' hsame;obtain⟨qx',qc',rfl,_⟩:=(show Sl bH h' v' (Q++[p])from ho'.sl)
 have n1:h.nx+1<=h'.nx:=hn2;have k1:∀b,b<h.nx->h.bl.get b≠some (ai (Q.flatMap bH) 57 true)->h'.bl.get b=h.bl.get b:=by
  intro b hb hne;have e:(h.bl.bq h.nx (j8 p)).get b=h.bl.get b:=T.ax _ _ XQ;exact(hsame b (Nat.lt_succ_of_lt hb) (λk=>hne (by rw[<-e];exact k))).trans e
 have aeK:=(k1 Ag ajq (by rw[g29];exact bC)).trans g29;have g7':=(k1 b7 hb7 (by rw[g7];exact bC)).trans g7;have oS:h'.lo=h.lo:=hl';simp(disch:=try exact Y)only[Wz,aeK,g7'];refine hk _ _ ?_ ⟨by show h.nx<=h'.nx;omega,oS,?_⟩
 .refine ia.put (ia.put ho' (by rw[aeK];exact bC) _) ?_ _
  show(h'.bl.bq Ag _).get b7≠_
  rw[T.ax _ _ hd,g7'];exact bC
 .intro b hb h1 h2;exact(T.ax _ _ (λe=>h2 e.symm)).trans ((T.ax _ _ (λe=>h1 e.symm)).trans (hle'.get b hb))
theorem aeL(t r:Int)(q:Value)(w id x m:Int)(Q:List R5)(h:af)(V:KQ)(hq:Sl bH h q Q)(hlen:Q.length<=100000)(hlo:h.lo<=h.nx)(hw:0<=w/\w<=1000000)(hid:0<=id)(hm:bZ m=true)(hn:∀p∈Q,p.id≠id/\p.x≠x)(hk:∀q' h',wJ h h' q' (Q++[(j0 Q w id x m).1])->Le h h'->V (.tuple ⟨[jM t r q' (j0 Q w id x m).2.1,.bool (j0 Q w id x m).2.2,YYY 0]⟩) h'):aj prog 397 [jM t r q w,YYY id,YYY x,YYY m] h V:=by
 obtain⟨qx,qc,rfl,_⟩:=(show Sl bH h q Q from hq)
 apply YYZ;rw[ZJ];simp(disch:=try exact Y)only[Wz,jM];obtain⟨hA,eA⟩:∃hA:af,hA=⟨h.nx+1+1+1+1,(((h.bl.bq h.nx (ai [YYY t,YYY r,.slice qx Q.length qc,YYY w] 55 false)).bq (h.nx+1) (ai [YYY id] 3 false)).bq (h.nx+1+1) (ai [YYY x] 3 false)).bq (h.nx+1+1+1) (ai [YYY 0,YYY 0,.slice none 0 0,YYY 0] 55 false),h.lo⟩:=⟨_,rfl⟩
 have iD:Le h hA:=by subst eA;exact((((Le.refl h).new _).new _).new _).new _
 have g1:hA.bl.get h.nx=some (ai [YYY t,YYY r,.slice qx Q.length qc,YYY w] 55 false):=by subst eA;exact(T.ax _ _ XQ).trans ((T.ax _ _ XQ).trans ((T.ax _ _ XQ).trans (T.au _ _ _)))
 have g3:hA.bl.get (h.nx+1)=some (ai [YYY id] 3 false):=by subst eA;exact(T.ax _ _ XQ).trans ((T.ax _ _ XQ).trans (T.au _ _ _))
 have g5:hA.bl.get (h.nx+1+1)=some (ai [YYY x] 3 false):=by subst eA;exact(T.ax _ _ XQ).trans (T.au _ _ _)
 have g7:hA.bl.get (h.nx+1+1+1)=some (ai [YYY 0,YYY 0,.slice none 0 0,YYY 0] 55 false):=by subst eA;exact T.au _ _ _
 have nA:hA.nx=h.nx+1+1+1+1:=by subst eA;rfl
 have lA:hA.lo=h.lo:=by subst eA;rfl
 rw[<-eA];clear eA;refine Gk m ?_;rw[hm];simp(disch:=try exact Y)only[Wz,F_,g1,g3,g5];refine mJ Q (p9 id x) hA _ _ _ (hq.le iD) XQ ?_ ?_
 .intro p hp h1 κ1 pE dB;have n1:=pE.nx;have l1:=pE.lo;simp(disch:=try exact Y)only[Wz,List.nil_append,List.cons_append];exact ZZ id x p (h.nx+1) (h.nx+1+1) h1 κ1 XQ XQ XQ ((pE.get _ XQ).trans g3) ((pE.get _ XQ).trans g5) dB
 intro h2 hle2;have n2:=hle2.nx;have l2:=hle2.lo;have hno:Q.any (p9 id x)=false:=by
  rw[List.any_eq_false];intro p hp;simp[p9,(hn p hp).1,(hn p hp).2]
 rw[hno];have g12:=(hle2.get h.nx XQ).trans g1;have g32:=(hle2.get (h.nx+1) XQ).trans g3;have g52:=(hle2.get (h.nx+1+1) XQ).trans g5;have g72:=(hle2.get (h.nx+1+1+1) XQ).trans g7;simp(disch:=try exact Y)only[Wz,F9,g12];refine Gm t r _ w Q h2 _ (hq.le (iD.trans hle2)) XQ XQ ?_;intro q3 h3 pz bJ;have n3:=bJ.nx;have l3:=bJ.lo;obtain⟨Gp,Gq,rfl,_⟩:=(show Sl bH h3 q3 Q from pz.sl)
 have g33:=(bJ.get (h.nx+1) XQ).trans g32;have g53:=(bJ.get (h.nx+1+1) XQ).trans g52;have g73:=(bJ.get (h.nx+1+1+1) XQ).trans g72;simp(disch:=try exact Y)only[Wz,jM,g33,g53];obtain⟨hB,eB⟩:∃hB:af,hB=⟨h3.nx+1+1,(h3.bl.bq h3.nx (ai [YYY t,YYY r,.slice Gp Q.length Gq,YYY w] 401 false)).bq (h3.nx+1) (j8 ⟨id,x,0,m,0⟩),h3.lo⟩:=⟨_,rfl⟩
 have r8:Le h3 hB:=by subst eB;exact((Le.refl h3).new _).new _
 have g29:hB.bl.get h3.nx=some (ai [YYY t,YYY r,.slice Gp Q.length Gq,YYY w] 401 false):=by subst eB;exact(T.ax _ _ XQ).trans (T.au _ _ _)
 have Z0:hB.bl.get (h3.nx+1)=some (j8 ⟨id,x,0,m,0⟩):=by subst eB;exact T.au _ _ _
 have g7B:=(r8.get (h.nx+1+1+1) XQ).trans g73;have nB:hB.nx=h3.nx+1+1:=by subst eB;rfl
 have lB:hB.lo=h3.lo:=by subst eB;rfl
 rw[<-eB];clear eB;have Mq:=pz.le r8;refine Gl t r _ w Q hB _ Mq.sl XQ XQ ?_;intro h4 bW;have n4:=bW.nx;have l4:=bW.lo;have hall:Le h h4:=(((iD.trans hle2).trans bJ).trans r8).trans bW;have Wh:Le h2 h4:=(bJ.trans r8).trans bW;have TP:=(bW.get h3.nx XQ).trans g29;have TQ:=(bW.get (h3.nx+1) XQ).trans Z0;have g74:=(bW.get (h.nx+1+1+1) XQ).trans g7B;have HL:=Mq.le bW
 have fin:∀(p:R5)(w':Int)(g:Bool)(h5:af),j0 Q w id x m=(p,w',g)->wJ h2 h5 (.slice Gp Q.length Gq) Q->Le h h5->Le h2 h5->h4.nx<=h5.nx->
   h5.bl.get h3.nx=some (ai [YYY t,YYY r,.slice Gp Q.length Gq,YYY w'] 401 false)->h5.bl.get (h3.nx+1)=some (j8 p)->h5.bl.get (h.nx+1+1+1)=some (ai [YYY 0,YYY 0,.slice none 0 0,YYY 0] 55 false)->
   tH h3.nx (h3.nx+1) (h.nx+1+1+1) (.bool g) h5 V:=by
  intro p w' g h5 he oI SB ajs n5 k1 k2 k3;have l5:=SB.lo;refine Qg t r Gp Gq w' p g _ _ _ Q h2 h5 V oI ajs XQ XQ XQ XQ XQ XQ XQ XQ k1 k2 k3 ?_;intro q' h' ho' hfr;obtain⟨e1,e2,e3⟩:=hfr;rw[he]at hk;have nn:=SB.nx;refine hk q' h' (ia.base ho' XQ) ⟨XQ,by rw[e2];exact SB.lo,λb hb=>?_⟩;exact(e3 b XQ XQ XQ).trans ((iD.trans hle2).get b hb)
 have iY:=hall;cases hf:ew Q with
 |some i=>
  simp(disch:=try exact Y)only[Wz,fS,dF (show(0:Int)<=(i:Int)by omega)];obtain⟨hC,eC⟩:∃hC:af,hC=⟨h4.nx,(h4.bl.bq h3.nx (ai [YYY t,YYY r,.slice Gp Q.length Gq,YYY (w+1)] 401 false)).bq (h3.nx+1) (j8 ⟨id,x,0,m,w+1⟩),h4.lo⟩:=⟨_,rfl⟩
  refine⟨λl h'=>HQ hC h',?_,?_⟩
  .simp(disch:=try exact Y)only[Wz,y8,TP,TQ];exact eC
  .intro l h' Cd;cases(show hC=h' from Cd);have nC:hC.nx=h4.nx:=by rw[eC]
   refine fin ⟨id,x,0,m,w+1⟩ (w+1) false hC ?_ ?_ ?_ ?_ XQ ?_ ?_ ?_
   .unfold j0;rw[if_neg];simp[hf]
   .rw[eC];exact ia.put (ia.put HL (by rw[TP];exact bC) _) (by show(h4.bl.bq h3.nx _).get (h3.nx+1)≠_;rw[T.ax _ _ XQ,TQ];exact bC) _
   .rw[eC];exact(iY.set (b:=h3.nx) XQ _).set (b:=h3.nx+1) XQ _
   .rw[eC];exact(Wh.set (b:=h3.nx) XQ _).set (b:=h3.nx+1) XQ _
   .rw[eC];exact(T.ax _ _ XQ).trans (T.au _ _ _)
   .rw[eC];exact T.au _ _ _
   .rw[eC];exact((T.ax _ _ XQ).trans (T.ax _ _ XQ)).trans g74
 |none=>
  simp(disch:=try exact Y)only[Wz,fS,fm (show(-1:Int)<0 by decide),TP,TQ];refine C1 t r _ w ⟨id,x,0,m,0⟩ Q h4 _ HL.sl XQ XQ ?_;intro h5 dA;have n5:=dA.nx;have l5:=dA.lo;have Z1:=(dA.get h3.nx XQ).trans TP;have TS:=(dA.get (h3.nx+1) XQ).trans TQ;have g75:=(dA.get (h.nx+1+1+1) XQ).trans g74;have oI:=HL.le dA;have lU:=hall.trans dA;have Wi:=Wh.trans dA;cases hfit:iC Q ⟨id,x,0,m,0⟩with
  |false=>
   simp(disch:=try exact Y)only[Wz];obtain⟨hC,eC⟩:∃hC:af,hC=⟨h5.nx,(h5.bl.bq h3.nx (ai [YYY t,YYY r,.slice Gp Q.length Gq,YYY (w+1)] 401 false)).bq (h3.nx+1) (j8 ⟨id,x,0,m,w+1⟩),h5.lo⟩:=⟨_,rfl⟩
   refine⟨λl h'=>HQ hC h',?_,?_⟩
   .simp(disch:=try exact Y)only[Wz,y8,Z1,TS];exact eC
   .intro l h' Cd;cases(show hC=h' from Cd);have nC:hC.nx=h5.nx:=by rw[eC]
    refine fin ⟨id,x,0,m,w+1⟩ (w+1) false hC ?_ ?_ ?_ ?_ XQ ?_ ?_ ?_
    .unfold j0;rw[if_neg];simp[hf,hfit]
    .rw[eC];exact ia.put (ia.put oI (by rw[Z1];exact bC) _) (by show(h5.bl.bq h3.nx _).get (h3.nx+1)≠_;rw[T.ax _ _ XQ,TS];exact bC) _
    .rw[eC];exact(lU.set (b:=h3.nx) XQ _).set (b:=h3.nx+1) XQ _
    .rw[eC];exact(Wi.set (b:=h3.nx) XQ _).set (b:=h3.nx+1) XQ _
    .rw[eC];exact(T.ax _ _ XQ).trans (T.au _ _ _)
    .rw[eC];exact T.au _ _ _
    .rw[eC];exact((T.ax _ _ XQ).trans (T.ax _ _ XQ)).trans g75
  |true=>
   simp(disch:=try exact Y)only[Wz];obtain⟨hC,eC⟩:∃hC:af,hC=⟨h5.nx,h5.bl.bq (h3.nx+1) (j8 ⟨id,x,m,m,0⟩),h5.lo⟩:=⟨_,rfl⟩
   refine⟨λl h'=>HQ hC h',?_,?_⟩
   .simp(disch:=try exact Y)only[Wz,TS];exact eC
   .intro l h' Cd;cases(show hC=h' from Cd);have nC:hC.nx=h5.nx:=by rw[eC]
    refine fin ⟨id,x,m,m,0⟩ w true hC ?_ ?_ ?_ ?_ XQ ?_ ?_ ?_
    .unfold j0;rw[if_pos];simp[hf,hfit]
    .rw[eC];exact ia.put oI (by rw[TS];exact bC) _
    .rw[eC];exact lU.set (b:=h3.nx+1) XQ _
    .rw[eC];exact Wi.set (b:=h3.nx+1) XQ _
    .rw[eC];exact(T.ax _ _ XQ).trans Z1
    .rw[eC];exact T.au _ _ _
    .rw[eC];exact(T.ax _ _ XQ).trans g75
noncomputable abbrev lV(t r:Int)(q:Value)(w:Int):bL:=ai [YYY t,YYY r,q,YYY w] 401 false
noncomputable abbrev fM(t r:Int)(q:Value)(w:Int):bL:=ai [YYY t,YYY r,q,YYY w] 55 false
noncomputable abbrev nU:bL:=ai [YYY 0,YYY 0,.slice none 0 0,YYY 0] 55 false
theorem II(id:Int)(r:R5)(b:Nat)(h:af)(V:KQ)(hlo:h.lo<=h.nx)(hb:b<h.nx)(hg:h.bl.get b=some (ai [YYY id] 3 false))(hk:∀h',Le h h'->V (.bool (b_ id r)) h'):aj prog 416 [lT r,aq b] h V:=by
 have hk:=hk _ ((Le.refl h).new (j8 r));apply YYZ;rw[ZM];simp(disch:=try exact Y)only[Wz,bH,hg];exact hk
theorem Mr(t r:Int)(q:Value)(w id:Int)(Q:List R5)(a h:af)(V:KQ)(ho:wJ a h q Q)(hle:Le a h)(hlen:Q.length<=100000)(hlo:a.lo<=a.nx)(hk:∀q' h',Sl bH h' q' (Q.filter λr=>!b_ id r)->vS 57 h' q'->Le a h'->V (jM t r q' w) h'):aj prog 392 [jM t r q w,YYY id] h V:=by
 obtain⟨qx,qc,rfl,_⟩:=(show Sl bH h q Q from ho.sl)
 have n_0:=hle.nx;have l_0:=hle.lo;apply YYZ;rw[ZD];simp(disch:=try exact Y)only[Wz,jM];obtain⟨hA,bh⟩:∃hA:af,hA=⟨h.nx+1+1+1,(((h.bl.bq (h.nx) (lV t r (.slice qx Q.length qc) w)).bq (h.nx+1) (ai [YYY id] 3 false)).bq (h.nx+1+1) (nU)),h.lo⟩:=⟨_,rfl⟩
 have aU:Le h hA:=by subst bh;exact((((Le.refl h).new _).new _).new _)
 have g1:hA.bl.get (h.nx)=some (lV t r (.slice qx Q.length qc) w):=by subst bh;exact(T.ax _ _ XQ).trans ((T.ax _ _ XQ).trans (T.au _ _ _))
 have g3:hA.bl.get (h.nx+1)=some (ai [YYY id] 3 false):=by subst bh;exact(T.ax _ _ XQ).trans (T.au _ _ _)
 have g5:hA.bl.get (h.nx+1+1)=some (nU):=by subst bh;exact T.au _ _ _
 have eE:hA.nx=h.nx+1+1+1:=by subst bh;rfl
 have eG:hA.lo=h.lo:=by subst bh;rfl
 rw[<-bh];clear bh;refine Mp a hA Q (b_ id) _ _ _ (hle.trans aU) (ho.le aU) hlen hlo ?_ ?_
 .intro p h1 κ1 pE hfr dB;have n1:=hfr.1;have l1:=pE.lo;have g3:=(hfr.2 (h.nx+1) XQ (by rw[g3];exact bC)).trans g3;simp(disch:=try exact Y)only[Wz,List.nil_append,List.cons_append];exact II id p (h.nx+1) h1 κ1 XQ XQ g3 dB
 .intro q' h2 hs2 _ hle2 hfr ht;have n2:=hfr.1;have l2:=hle2.lo;have g1:=(hfr.2 h.nx XQ (by rw[g1];exact bC)).trans g1;have g5:=(hfr.2 (h.nx+1+1) XQ (by rw[g5];exact bC)).trans g5;obtain⟨qx',qc',rfl,_⟩:=(show Sl bH h2 q' _ from hs2)
  simp(disch:=try exact Y)only[Wz,g1,g5];have hd1:∀vs op,h2.bl.get h.nx≠some (ai vs 57 op):=λvs op=>by rw[g1];exact bE J0
  have TT:=hs2.put ht hd1 (lV t r (.slice qx' (Q.filter λr=>!b_ id r).length qc') w);have ht3:=ht.put hd1 (lV t r (.slice qx' (Q.filter λr=>!b_ id r).length qc') w);have hd2:∀vs op,(h2.bl.bq h.nx (lV t r (.slice qx' (Q.filter λr=>!b_ id r).length qc') w)).get (h.nx+1+1)≠some (ai vs 57 op):=λvs op=>by rw[T.ax _ _ XQ,g5];exact bE J0
  refine hk _ _ (TT.put ht3 hd2 _) (ht3.put hd2 _) ((hle2.set (b:=h.nx) XQ _).set (b:=h.nx+1+1) XQ _)
def QV(h:af)(q:Value)(Q:List R5):Prop:=Sl bH h q Q/\vS 57 h q
theorem QV.le{h h':af}{q:Value}{Q:List R5}(v:QV h q Q)(l:Le h h'):QV h' q Q:=⟨v.1.le l,v.2.le l⟩
theorem QV.put{h:af}{q:Value}{Q:List R5}(v:QV h q Q){d:Nat}(hd:∀vs op,h.bl.get d≠some (ai vs 57 op))(o:bL):QV ⟨h.nx,h.bl.bq d o,h.lo⟩ q Q:=⟨v.1.put v.2 hd o,v.2.put hd o⟩
theorem QV.own{a h:af}{q:Value}{Q:List R5}(ho:wJ a h q Q):QV h q Q:=⟨ho.sl,vS.own ho⟩
theorem mK(Q:List R5)(id:Int):(Q.findIdx? (b_ id)=none/\ct Q id=none)\/∃(i:Nat)(r:R5),Q.findIdx? (b_ id)=some i/\Q[i]? = some r/\r.id=id/\ct Q id=some r:=by
 rcases lQ Q (b_ id)with⟨e,h⟩|⟨i,p,e,hp,h1,h2⟩
 .refine .inl ⟨e,?_⟩;unfold ct;rw[List.find?_eq_none];intro x hx;rw[h x hx];simp
 .refine .inr ⟨i,p,e,hp,by simpa[b_]using h1,?_⟩;unfold ct;rw[List.find?_eq_some_iff_getElem];obtain⟨hi,rfl⟩:=List.getElem?_eq_some_iff.1 hp;exact⟨h1,i,hi,rfl,λj hj=>by rw[h2 j _ hj (List.getElem?_eq_getElem XQ)];rfl⟩
theorem TU(t r:Int)(q:Value)(w id:Int)(Q:List R5)(h:af)(V:KQ)(hq:Sl bH h q Q)(hlen:Q.length<=100000)(hlo:h.lo<=h.nx)(hf:ct Q id≠none)(hk:∀q' h',QV h' q' (Q.filter λr=>!b_ id r)->Le h h'->V (.tuple ⟨[jM t r q' w,YYY 0]⟩) h'):aj prog 419 [jM t r q w,YYY id] h V:=by
 obtain⟨qx,qc,rfl,_⟩:=(show Sl bH h q Q from hq)
 apply YYZ;rw[ZP];simp(disch:=try exact Y)only[Wz,jM];obtain⟨hA,bh,aU,g1,g3,eE,eG⟩:=L8 h (fM t r (.slice qx Q.length qc) w) (nU);rw[<-bh];clear bh;have g3A:=g3;refine Gm t r _ w Q hA _ (hq.le aU) XQ XQ ?_;intro q2 h2 mj hle2;have u0:=hle2.nx;have u5:=hle2.lo;have g1:=(hle2.get _ XQ).trans g1;have g3:=(hle2.get _ XQ).trans g3;obtain⟨vV,vW,rfl,_⟩:=(show Sl bH h2 q2 Q from mj.sl)
 simp(disch:=try exact Y)only[Wz,jM];obtain⟨hB,ng,dm,g7,Ms,Mt⟩:=nP h2 (lV t r (.slice vV Q.length vW) w);rw[<-ng];clear ng;have xm:=dm.nx;have xo:=dm.lo;have g1:=(dm.get _ XQ).trans g1;have g3:=(dm.get _ XQ).trans g3;have Mq:=mj.le dm;refine tI t r _ w id Q hB _ Mq.sl XQ XQ ?_;intro h3 bJ;have IJ:=bJ.nx;have IK:=bJ.lo;have g1:=(bJ.get _ XQ).trans g1;have g3:=(bJ.get _ XQ).trans g3;have g7:=(bJ.get _ XQ).trans g7;have pz:=Mq.le bJ;rcases mK Q id with⟨_,e⟩|⟨i,p,e,hp,Z2,_⟩
 .exact absurd e hf
 rw[e];simp(disch:=try exact Y)only[Wz,fS,dF (show(0:Int)<=(i:Int)by omega),g7];have aeM:Le hA h3:=(hle2.trans dm).trans bJ;refine Mr t r _ w id Q hA h3 _ pz aeM hlen XQ ?_;intro q4 h4 hs4 ht4 bW;have IL:=bW.nx;have IM:=bW.lo;have g3:=(bW.get _ XQ).trans g3A;obtain⟨qx4,qc4,rfl,_⟩:=(show Sl bH h4 q4 _ from hs4)
 simp(disch:=try exact Y)only[Wz,jM,g3];exact hk _ _ (QV.put ⟨hs4,ht4⟩ (λvs op=>by rw[g3];exact bE J0) _) ((aU.trans bW).set (b:=h.nx+1) XQ _)
theorem TV(id x:Int)(r:R5)(b3 b5:Nat)(h:af)(V:KQ)(hlo:h.lo<=h.nx)(hb3:b3<h.nx)(hb5:b5<h.nx)(hg3:h.bl.get b3=some (ai [YYY id] 3 false))(hg5:h.bl.get b5=some (ai [YYY x] 3 false))(hk:∀h',Le h h'->V (.bool (decide (r.id≠id) && decide (r.x=x))) h'):aj prog 423 [lT r,aq b3,aq b5] h V:=by
 have hk:=hk _ ((Le.refl h).new (j8 r));apply YYZ;rw[ZS];by_cases h1:r.id=id
 .simp(disch:=try exact Y)only[Wz,bH,hg3,hg5,bx h1];rw[aZ (show ¬r.id≠id by simp[h1])]at hk;exact hk
 .simp(disch:=try exact Y)only[Wz,bH,hg3,hg5,aZ h1];rw[bx (show r.id≠id from h1)]at hk;exact hk
theorem QV.blk{h:af}{b n:Nat}{L:List R5}(hb:b<h.nx)(hg:h.bl.get b=some (ai (L.flatMap bH) 57 true))(hn:n=L.length):QV h (YYX b n aW) L:=by
 subst hn;refine⟨Sl.new hb hg _,λb' o' n' c' hv _=>?_⟩;cases hv;exact⟨hb,_,_,hg⟩
theorem Z3(t r:Int)(q:Value)(w id x:Int)(Q:List R5)(h:af)(V:KQ)(hq:Sl bH h q Q)(hlen:Q.length<=100000)(hlo:h.lo<=h.nx)(hp:Q.Pairwise yx){i:Nat}{p:R5}(hi:Q[i]? = some p)(hid:p.id=id)(dB:(∃o∈Q,o.id≠id/\o.x=x)->∀h',Le h h'->V (.tuple ⟨[jM 0 0 (.slice none 0 0) 0,YYY 4]⟩) h')(hk2:(∀o∈Q,o.id≠id->o.x≠x)->0<p.s->∀h',Le h h'->V (.tuple ⟨[jM 0 0 (.slice none 0 0) 0,YYY 7]⟩) h')(uO:(∀o∈Q,o.id≠id->o.x≠x)->¬0<p.s->∀q' h',QV h' q' (Q.set i (rA p x))->Le h h'->V (.tuple ⟨[jM t r q' w,YYY 0]⟩) h'):aj prog 399 [jM t r q w,YYY id,YYY x] h V:=by
 obtain⟨qx,qc,rfl,_⟩:=(show Sl bH h q Q from hq)
 apply YYZ;rw[ZL];simp(disch:=try exact Y)only[Wz,jM];obtain⟨hA,bh⟩:∃hA:af,hA=⟨h.nx+1+1+1+1,((((h.bl.bq (h.nx) (fM t r (.slice qx Q.length qc) w)).bq (h.nx+1) (ai [YYY id] 3 false)).bq (h.nx+1+1) (ai [YYY x] 3 false)).bq (h.nx+1+1+1) (nU)),h.lo⟩:=⟨_,rfl⟩
 have aU:Le h hA:=by subst bh;exact(((((Le.refl h).new _).new _).new _).new _)
 have g1:hA.bl.get (h.nx)=some (fM t r (.slice qx Q.length qc) w):=by subst bh;exact(T.ax _ _ XQ).trans ((T.ax _ _ XQ).trans ((T.ax _ _ XQ).trans (T.au _ _ _)))
 have g3:hA.bl.get (h.nx+1)=some (ai [YYY id] 3 false):=by subst bh;exact(T.ax _ _ XQ).trans ((T.ax _ _ XQ).trans (T.au _ _ _))
 have g5:hA.bl.get (h.nx+1+1)=some (ai [YYY x] 3 false):=by subst bh;exact(T.ax _ _ XQ).trans (T.au _ _ _)
 have g7:hA.bl.get (h.nx+1+1+1)=some (nU):=by subst bh;exact T.au _ _ _
 have eE:hA.nx=h.nx+1+1+1+1:=by subst bh;rfl
 have eG:hA.lo=h.lo:=by subst bh;rfl
 rw[<-bh];clear bh;refine Gm t r _ w Q hA _ (hq.le aU) XQ XQ ?_;intro q2 h2 mj hle2;have u0:=hle2.nx;have u5:=hle2.lo;have g3:=(hle2.get _ XQ).trans g3;have g5:=(hle2.get _ XQ).trans g5;have g7:=(hle2.get _ XQ).trans g7;obtain⟨vV,vW,rfl,_⟩:=(show Sl bH h2 q2 Q from mj.sl)
 simp(disch:=try exact Y)only[Wz,jM,g3];obtain⟨hB,ng,dm,g11,Ms,Mt⟩:=nP h2 (lV t r (.slice vV Q.length vW) w);rw[<-ng];clear ng;have xm:=dm.nx;have xo:=dm.lo;have g3:=(dm.get _ XQ).trans g3;have g5:=(dm.get _ XQ).trans g5;have g7:=(dm.get _ XQ).trans g7;have Mq:=mj.le dm;refine tI t r _ w id Q hB _ Mq.sl XQ XQ ?_;intro h3 bJ;have IJ:=bJ.nx;have IK:=bJ.lo;have g3:=(bJ.get _ XQ).trans g3;have g5:=(bJ.get _ XQ).trans g5;have g7:=(bJ.get _ XQ).trans g7;have g11:=(bJ.get _ XQ).trans g11;have pz:=Mq.le bJ;have jY:Le h h3:=((aU.trans hle2).trans dm).trans bJ;rcases mK Q id with⟨_,e⟩|⟨j,p',e,hj,hjd,_⟩
 .exact absurd hid (r6 e p (List.mem_of_getElem? hi))
 have hij:j=i:=Pn hp hj hi (by rw[hjd,hid]);subst hij;rw[hi]at hj;cases hj;rw[e];simp(disch:=try exact Y)only[Wz,fS,dF (show(0:Int)<=(j:Int)by omega),Gf,g11];refine mJ Q (λo=>decide (o.id≠id) && decide (o.x=x)) h3 _ _ _ pz.sl XQ ?_ ?_
 .intro o ho h4 κ4 bW Ac;have IL:=bW.nx;have IM:=bW.lo;have g3:=(bW.get _ XQ).trans g3;have g5:=(bW.get _ XQ).trans g5;simp(disch:=try exact Y)only[Wz,List.nil_append,List.cons_append];exact TV id x o (h.nx+1) (h.nx+1+1) h4 κ4 XQ XQ XQ g3 g5 Ac
 intro h4 bW;have IL:=bW.nx;have IM:=bW.lo;have g3:=(bW.get _ XQ).trans g3;have g5:=(bW.get _ XQ).trans g5;have g7:=(bW.get _ XQ).trans g7;have g11:=(bW.get _ XQ).trans g11;have HL:=pz.le bW;have iY:=jY.trans bW;cases DX:Q.any (λo=>decide (o.id≠id) && decide (o.x=x))with
 |true=>
  simp(disch:=try exact Y)only[Wz,g7];rw[List.any_eq_true]at DX;obtain⟨o,ho,h1⟩:=DX;simp only[Bool.and_eq_true,decide_eq_true_eq]at h1;exact dB ⟨o,ho,h1⟩ _ (iY.set (b:=h.nx+1+1+1) XQ _)
 |false=>
  have hno:∀o∈Q,o.id≠id->o.x≠x:=by
   intro o ho h1 h2;rw[List.any_eq_false]at DX;have:=DX o ho;simp[h1,h2]at this
  obtain⟨b,o,hb,mD,mh⟩:=SA HL.sl j hi;simp(disch:=try exact Y)only[Wz,Ge,g11,mD,mh];refine C0 p ?_;by_cases hs:0<p.s
  .simp(disch:=try exact Y)only[Wz,bx hs,g7];exact hk2 hno hs _ (iY.set (b:=h.nx+1+1+1) XQ _)
  .rcases HL with⟨rfl,_⟩|⟨bo,e1,k1,k2,k3,k4⟩
   .simp at hi
   cases e1;have hjl:j<Q.length:=(List.getElem?_eq_some_iff.1 hi).1;have hfl:=bz (enc:=bH) cI Q;have CB:=gX (p':=rA p x) (ws:=[YYY x]) (j:=1) cI hi (by show 1+1<=5;omega) rfl;have TW:bo≠h2.nx:=by rintro rfl;rw[g11]at k4;exact bC k4
   have C2:bo≠h.nx+1+1+1:=by rintro rfl;rw[g7]at k4;exact bC k4
   simp(disch:=try exact Y)only[Wz,aZ hs,Gd,g11,g5,g7,bt,k4,CB];have k0:hA.nx<=bo:=k1;refine uO hno hs _ _ (QV.blk (by show bo<h4.nx;omega) ((T.ax _ _ (λe=>C2 e.symm)).trans (T.au _ _ _)) (by simp)) ((iY.set (b:=bo) XQ _).set (b:=h.nx+1+1+1) XQ _)
def eN(n:Int):List Value:=[YYY n]
theorem ff(n:Int):(eN n).length=1:=rfl
theorem zh(n:Int):(eN n).all dI=true:=rfl
abbrev AM(a h:af)(v:Value)(L:List Int):Prop:=ia eN a 3 h v L
theorem Gr{Q:List R5}{W:Int}(v:VQ Q W){i:Nat}{r:R5}(hf:ew Q=some i)(hr:Q[i]? = some r)(hfit:iC Q r=true):dS (i_ Q+1) Q=((dS (i_ (Q.set i (dQ r))+1) (Q.set i (dQ r))).1,r.id::(dS (i_ (Q.set i (dQ r))+1) (Q.set i (dQ r))).2):=by
 have hc:=rZ hr (jZ v hf hr)
 conv=>lhs;unfold dS
 simp only[hf,hr,hfit,if_true];rw[hc]
theorem Qh{Q:List R5}(h:r5 Q):dS (i_ Q+1) Q=(Q,[]):=yz h _
theorem zi{Q:List R5}(h:ew Q=none):r5 Q:=λi r e=>by rw[h]at e;cases e
theorem IN{Q:List R5}{i:Nat}{r:R5}(h:ew Q=some i)(hr:Q[i]? = some r)(hf:iC Q r=false):r5 Q:=λj q e hq=>by
 rw[h]at e;cases e;rw[hr]at hq;cases hq;exact hf
set_option maxHeartbeats 2000000 in
theorem Z4(t r:Int)(q:Value)(w:Int)(Q:List R5)(h:af)(V:KQ)(hq:Sl bH h q Q)(hlen:Q.length<=100000)(hlo:h.lo<=h.nx)(vq:VQ Q w)(hk:∀q' v' h',QV h' q' (dS (i_ Q+1) Q).1->AM h h' v' (dS (i_ Q+1) Q).2->Le h h'->V (.tuple ⟨[jM t r q' w,v']⟩) h'):aj prog 393 [jM t r q w] h V:=by
 obtain⟨qx,qc,rfl,_⟩:=(show Sl bH h q Q from hq)
 apply YYZ;rw[ZE];simp(disch:=try exact Y)only[Wz,jM];obtain⟨hA,bh,aU,g1,g3,eE,eG⟩:=L8 h (fM t r (.slice qx Q.length qc) w) (nU);rw[<-bh];clear bh;refine Gm t r _ w Q hA _ (hq.le aU) XQ XQ ?_;intro q2 h2 mj hle2;have u0:=hle2.nx;have u5:=hle2.lo;have g3:=(hle2.get _ XQ).trans g3;obtain⟨vV,vW,rfl,_⟩:=(show Sl bH h2 q2 Q from mj.sl)
 simp(disch:=try exact Y)only[Wz,jM];obtain⟨hB,ng,dm,g7,Ms,Mt⟩:=nP h2 (lV t r (.slice vV Q.length vW) w);rw[<-ng];clear ng;have xm:=dm.nx;have xo:=dm.lo;have g3:=(dm.get _ XQ).trans g3;have Mq:=mj.le dm;have aeN:Le h hB:=(aU.trans hle2).trans dm
 refine ⟨λn l h1=>∃(K:List R5)(ids:List Int),VQ K w/\n=i_ K+1/\dS (i_ Q+1) Q=((dS (i_ K+1) K).1,ids++(dS (i_ K+1) K).2)/\K.length=Q.length/\ids.length+i_ K<=i_ Q/\
   AM h h1 (ah l 49) ids/\(wJ hA h1 (.slice vV K.length vW) K)/\h1.bl.get (h.nx+1)=some nU/\h1.bl.get h2.nx=some (lV t r (.slice vV Q.length vW) w)/\Le h h1/\hB.nx<=h1.nx,
  ⟨_,Q,[],vq,rfl,by simp,rfl,by simp,.inl ⟨rfl,.inl rfl⟩,Mq,g3,g7,aeN,Nat.le_refl _⟩,?_⟩
 rintro n l h3 ⟨K,ids,vk,rfl,hsc,Wj,hcn,hoI,hoK,g3,g7,bJ,n3⟩;have l3:=bJ.lo;obtain⟨vi,ei⟩:∃vi,ah l 49=vi:=⟨_,rfl⟩
 rw[ei]at hoI;rw[Wj]at hoK;have hcK:i_ K<=K.length:=List.length_filter_le _ _;have hcQ:i_ Q<=Q.length:=List.length_filter_le _ _;simp(disch:=try exact Y)only[Wz,F5,g7];refine Gl t r _ w K h3 _ hoK.sl XQ XQ ?_;intro h4 bW;have IL:=bW.nx;have IM:=bW.lo;have g3:=(bW.get _ XQ).trans g3;have g7:=(bW.get _ XQ).trans g7;have TX:=hoK.le bW;have aeO:=hoI.le bW;have iY:=bJ.trans bW;have finish:∀h',h4.nx<=h'.nx->Le h h'->AM h h' vi ids->wJ hA h' (.slice vV Q.length vW) K->h'.bl.get (h.nx+1)=some nU->r5 K->V (.tuple ⟨[.agg ⟨[YYY t,YYY r,.slice vV Q.length vW,YYY w]⟩,vi]⟩) ⟨h'.nx,h'.bl.bq (h.nx+1) (fM t r (.slice vV Q.length vW) w),h'.lo⟩:=by
  intro h' hn hl hi hr hg hst;rw[Qh hst]at hsc;rw[hsc,List.append_nil]at hk;exact hk _ _ _ (QV.put (QV.own hr) (λvs op=>by rw[hg];exact bE J0) _) (ia.put hi (by rw[hg];exact bC) _) (hl.set (b:=h.nx+1) XQ _)
 cases hf:ew K with
 |none=>
  simp(disch:=try exact Y)only[Wz,fS,fm (show(-1:Int)<0 by decide),g7,g3,ei];exact finish h4 (Nat.le_refl _) iY aeO TX g3 (zi hf)
 |some i=>
  obtain⟨p,hp,_⟩:=rX hf;obtain⟨b,o,hb,mD,mh⟩:=SA TX.sl i hp;simp(disch:=try exact Y)only[Wz,fS,dF (show(0:Int)<=(i:Int)by omega),g7,mD,mh,List.append_nil,List.cons_append,List.nil_append];refine C1 t r _ w p K h4 _ TX.sl XQ XQ ?_;intro h5 dA;have aju:=dA.nx;have ajv:=dA.lo;have g3:=(dA.get _ XQ).trans g3;have g7:=(dA.get _ XQ).trans g7;have aeP:=TX.le dA;have aeQ:=aeO.le dA;have lU:=iY.trans dA;cases hfit:iC K p with
  |false=>
   simp(disch:=try exact Y)only[Wz,g7,g3,ei];exact finish h5 XQ lU aeQ aeP g3 (IN hf hp hfit)
  |true=>
   rcases aeP with⟨rfl,_⟩|⟨bo,e1,k1,k2,k3,k4⟩
   .simp at hp
   rw[Wj]at e1;cases e1;have hil:i<K.length:=(List.getElem?_eq_some_iff.1 hp).1;have hfl:=bz (enc:=bH) cI K;have ajw:((K.set i ⟨p.id,p.x,p.w,p.w,p.s⟩).flatMap bH).length=K.length*5:=by rw[bz cI,List.length_set]
   have CB:=gX (p':=⟨p.id,p.x,p.w,p.w,p.s⟩) (ws:=[YYY p.w]) (j:=2) cI hp (by show 2+1<=5;omega) rfl;have hp2:(K.set i ⟨p.id,p.x,p.w,p.w,p.s⟩)[i]? = some ⟨p.id,p.x,p.w,p.w,p.s⟩:=by rw[List.getElem?_set,if_pos rfl,if_pos hil]
   have AH:=gX (p':=dQ p) (ws:=[YYY 0]) (j:=4) cI hp2 (by show 4+1<=5;omega) rfl;rw[List.set_set]at AH;have TW:bo≠h2.nx:=by rintro rfl;rw[g7]at k4;exact bC k4
   have C2:bo≠h.nx+1:=by rintro rfl;rw[g3]at k4;exact bC k4
   have hsl:(K.set i (dQ p)).length=K.length:=List.length_set;rw[Wj]at hsl;have On:(K.set i (dQ p))[i]? = some (dQ p):=by rw[List.getElem?_set,if_pos rfl,if_pos hil]
   have r3:=jD (j:=3) cI hp J0;have r0:=jD (j:=0) cI On J0;have r3:(K.flatMap bH)[i*5+3]? = some (YYY p.w):=r3;have r0:((K.set i (dQ p)).flatMap bH)[i*5]? = some (YYY p.id):=r0;simp(disch:=try exact Y)only[Wz,F4,g7,bt,k4,CB,AH,ei,r3,r0];obtain⟨hC,eC⟩:∃hC:af,hC=⟨h5.nx,h5.bl.bq bo (ai ((K.set i (dQ p)).flatMap bH) 57 true),h5.lo⟩:=⟨_,rfl⟩
   have TY:Le h hC:=by subst eC;exact lU.set (b:=bo) XQ _
   have nC:hC.nx=h5.nx:=by rw[eC]
   have lC:hC.lo=h5.lo:=by rw[eC]
   have gC:hC.bl.get bo=some (ai ((K.set i (dQ p)).flatMap bH) 57 true):=by subst eC;exact T.au _ _ _
   have g3C:hC.bl.get (h.nx+1)=some nU:=by subst eC;exact(T.ax _ _ C2).trans g3
   have g7C:hC.bl.get h2.nx=some (lV t r (YYX bo Q.length aW) w):=by subst eC;exact(T.ax _ _ TW).trans g7
   have hoC:AM h hC vi ids:=by subst eC;exact ia.put aeQ (by rw[k4];exact bE J0) _
   have e2:(⟨h5.nx+1,(h5.bl.bq bo (ai ((K.set i (dQ p)).flatMap bH) 57 true)).bq h5.nx (ai [YYY p.id] 3 false),h5.lo⟩:af)=⟨hC.nx+1,hC.bl.bq hC.nx (ai [YYY p.id] 3 false),hC.lo⟩:=by rw[eC]
   rw[e2,show h5.nx=hC.nx from nC.symm];have hle1:=(Le.refl hC).new (ai [YYY p.id] 3 false);have vk2:=vk.Po hf hp hfit;have hcg:=rZ hp (jZ vk hf hp);refine jC (enc:=eN) (a:=h) (L:=ids) (M:=[p.id]) ff zh J0 J0 (hoC.le hle1) (Sl.new (L:=[p.id]) (e:=3) (op:=false) (Nat.lt_succ_self _) (T.au _ _ _) _) (TY.new _) (by simp;omega) (by show hC.lo<=hC.nx+1;omega) _ ?_;intro v' h6 Wk ku wC hn2 hl6 hsame;have n6:hC.nx+1<=h6.nx:=hn2;have keep:∀c o',c<hC.nx->hC.bl.get c=some o'->some o'≠some (ai (ids.flatMap eN) 3 true)->h6.bl.get c=some o':=by
    intro c o' hc hg hne;have e:(hC.bl.bq hC.nx (ai [YYY p.id] 3 false)).get c=hC.bl.get c:=T.ax _ _ XQ;exact(hsame c (Nat.lt_succ_of_lt hc) (λk=>hne (by rw[<-hg,<-e];exact k))).trans (e.trans hg)
   have aot:h6.lo=hC.lo:=hl6;refine⟨_,XQ,K.set i (dQ p),ids++[p.id],vk2,rfl,?_,by simpa using Wj,by simp;omega,Wk,?_,?_,?_,ku,XQ⟩
   .rw[hsc,Gr vk hf hp hfit];simp
   .refine .inr ⟨bo,rfl,XQ,XQ,XQ,keep bo _ XQ gC (bE J0)⟩
   .exact keep _ _ XQ g3C (bE J0)
   .exact keep _ _ XQ g7C (bE J0)
theorem Lb(t r:Int)(q:Value)(w id:Int)(Q:List R5)(h:af)(V:KQ)(hq:Sl bH h q Q)(hlen:Q.length<=100000)(hlo:h.lo<=h.nx)(hk:∀h',Le h h'->V (match ct Q id with|some p=>.tuple ⟨[lT p,.bool true]⟩|none=>.tuple ⟨[lT ⟨0,0,0,0,0⟩,.bool false]⟩) h'):aj prog 237 [jM t r q w,YYY id] h V:=by
 obtain⟨qx,qc,rfl,_⟩:=(show Sl bH h q Q from hq)
 apply YYZ;rw[YZ];simp(disch:=try exact Y)only[Wz,jM];obtain⟨hA,bh,aU,g1,g3,eE,eG⟩:=L8 h (fM t r (.slice qx Q.length qc) w) (j8 ⟨0,0,0,0,0⟩);rw[<-bh];clear bh;refine tI t r _ w id Q hA _ (hq.le aU) XQ XQ ?_;intro h2 hle2;have u0:=hle2.nx;have u5:=hle2.lo;have g1:=(hle2.get _ XQ).trans g1;have g3:=(hle2.get _ XQ).trans g3;rcases mK Q id with⟨e,e2⟩|⟨i,p,e,hi,hjd,e2⟩
 .rw[e];simp(disch:=try exact Y)only[Wz,fS,fm (show(-1:Int)<0 by decide),g3];rw[e2]at hk;exact hk _ ((aU.trans hle2).set (b:=h.nx+1) XQ _)
 .rw[e];obtain⟨b,o,hb,mD,mh⟩:=SA (hq.le (aU.trans hle2)) i hi;simp(disch:=try exact Y)only[Wz,fS,dF (show(0:Int)<=(i:Int)by omega),g1,g3,mD,mh,bH];rw[e2]at hk;exact hk _ ((aU.trans hle2).set (b:=h.nx+1) XQ _)
theorem Qi{Q:List R5}{i:Nat}{p p1:R5}(hi:Q[i]? = some p)(hid:p.id=p1.id):iC (Q.set i p1) p1=iC Q p1:=by
 rw[Bool.eq_iff_iff,jE,jE];constructor
 .intro h o ho h1 h2;obtain⟨k,hk⟩:=List.getElem?_of_mem ho;have hki:i≠k:=by rintro rfl;rw[hi]at hk;cases hk;exact h1 hid
  exact h o (List.mem_of_getElem? (i:=k) (by rw[List.getElem?_set,if_neg hki];exact hk)) h1 h2
 .intro h o ho h1 h2;rcases mem_set ho with rfl|ho
  .exact absurd rfl h1
  .exact h o ho h1 h2
theorem TZ{Q:List R5}{i:Nat}{p p1:R5}(hi:Q[i]? = some p)(hu:w8 p1=w8 p):(Q.set i p1).any w8=Q.any w8:=by
 rw[Bool.eq_iff_iff,List.any_eq_true,List.any_eq_true];have hil:=(List.getElem?_eq_some_iff.1 hi).1;constructor
 .rintro⟨o,ho,h⟩;rcases mem_set ho with rfl|ho
  .exact⟨p,List.mem_of_getElem? hi,by rw[<-hu];exact h⟩
  .exact⟨o,ho,h⟩
 .rintro⟨o,ho,h⟩;obtain⟨k,hk⟩:=List.getElem?_of_mem ho;by_cases hki:i=k
  .subst hki;rw[hi]at hk;cases hk;exact⟨p1,List.mem_of_getElem? (i:=i) (by rw[List.getElem?_set,if_pos rfl,if_pos hil]),by rw[hu];exact h⟩
  .exact⟨o,List.mem_of_getElem? (i:=k) (by rw[List.getElem?_set,if_neg hki];exact hk),h⟩
theorem aN{β:Type}{fl:β}(b o:Nat)(h:af)(V:UV β):aV fl (.pointer (some ⟨b,o,none⟩)) h V=V (.pointer (some ⟨b,o,none⟩)) h:=id rfl
set_option maxHeartbeats 2000000 in
theorem zj(t r:Int)(q:Value)(w id m:Int)(Q:List R5)(h:af)(V:KQ)(hq:Sl bH h q Q)(hlen:Q.length<=100000)(hlo:h.lo<=h.nx)(hw:0<=w/\w<=1000000)(k_:bZ m=false->∀h',Le h h'->V (.tuple ⟨[jM 0 0 (.slice none 0 0) 0,.bool false,YYY 2]⟩) h')(dB:bZ m=true->ct Q id=none->∀h',Le h h'->V (.tuple ⟨[jM 0 0 (.slice none 0 0) 0,.bool false,YYY 5]⟩) h')(hk2:bZ m=true->∀p,ct Q id=some p->0<p.s->∀h',Le h h'->V (.tuple ⟨[jM 0 0 (.slice none 0 0) 0,.bool false,YYY 7]⟩) h')(uO:bZ m=true->∀i p,Q[i]? = some p->ct Q id=some p->¬0<p.s->∀q' h',QV h' q' (Q.set i (jq Q w p m).1)->Le h h'->V (.tuple ⟨[jM t r q' (jq Q w p m).2.1,.bool (jq Q w p m).2.2,YYY 0]⟩) h'):aj prog 398 [jM t r q w,YYY id,YYY m] h V:=by
 obtain⟨qx,qc,rfl,_⟩:=(show Sl bH h q Q from hq)
 apply YYZ;rw[ZK];simp(disch:=try exact Y)only[Wz,jM];obtain⟨hA,bh,aU,g1,g3,eE,eG⟩:=L8 h (fM t r (.slice qx Q.length qc) w) (nU);rw[<-bh];clear bh;refine Gk m ?_;cases ha:bZ m with
 |false=>
  simp(disch:=try exact Y)only[Wz,g3];exact k_ ha _ (aU.set (b:=h.nx+1) XQ _)
 |true=>
 simp(disch:=try exact Y)only[Wz,Gc,g1];refine Gm t r _ w Q hA _ (hq.le aU) XQ XQ ?_;intro q2 h2 mj hle2;have u0:=hle2.nx;have u5:=hle2.lo;have g3:=(hle2.get _ XQ).trans g3;obtain⟨vV,vW,rfl,_⟩:=(show Sl bH h2 q2 Q from mj.sl)
 simp(disch:=try exact Y)only[Wz,jM];obtain⟨hB,ng,dm,g12,Ms,Mt⟩:=nP h2 (lV t r (.slice vV Q.length vW) w);rw[<-ng];clear ng;have xm:=dm.nx;have xo:=dm.lo;have g3:=(dm.get _ XQ).trans g3;have Mq:=mj.le dm;refine tI t r _ w id Q hB _ Mq.sl XQ XQ ?_;intro h3 bJ;have IJ:=bJ.nx;have IK:=bJ.lo;have g3:=(bJ.get _ XQ).trans g3;have g12:=(bJ.get _ XQ).trans g12;have pz:=Mq.le bJ;have jY:Le h h3:=((aU.trans hle2).trans dm).trans bJ;rcases mK Q id with⟨e,e2⟩|⟨i,p,e,hi,hjd,e2⟩
 .rw[e];simp(disch:=try exact Y)only[Wz,fS,fm (show(-1:Int)<0 by decide),g3];exact dB ha e2 _ (jY.set (b:=h.nx+1) XQ _)
 rw[e];obtain⟨b,o,hb,mD,mh⟩:=SA pz.sl i hi;simp(disch:=try exact Y)only[Wz,fS,dF (show(0:Int)<=(i:Int)by omega),Gb,g12,mD,mh];refine C0 p ?_;by_cases hs:0<p.s
 .simp(disch:=try exact Y)only[Wz,bx hs,g3];exact hk2 ha p e2 hs _ (jY.set (b:=h.nx+1) XQ _)
 rcases pz with⟨rfl,_⟩|⟨bo,e1,k1,k2,k3,k4⟩
 .simp at hi
 cases e1;have hil:i<Q.length:=(List.getElem?_eq_some_iff.1 hi).1;obtain⟨wt,T0⟩:∃wt,bA p.m m=wt:=⟨_,rfl⟩
 have hfl:=bz (enc:=bH) cI Q;have r2:(Q.flatMap bH)[i*5+2]? = some (YYY p.m):=jD (j:=2) cI hi J0;have CB:=gX (p':=⟨p.id,p.x,p.m,wt,p.s⟩) (ws:=[YYY wt]) (j:=3) cI hi (by show 3+1<=5;omega) rfl;obtain⟨p1,Wl⟩:∃p1:R5,p1=⟨p.id,p.x,p.m,wt,p.s⟩:=⟨_,rfl⟩
 rw[<-Wl]at CB;have hp2:(Q.set i p1)[i]? = some p1:=by rw[List.getElem?_set,if_pos rfl,if_pos hil]
 have ajw:((Q.set i p1).flatMap bH).length=Q.length*5:=by rw[bz cI,List.length_set]
 have s2:((Q.set i p1).flatMap bH)[i*5+2]? = some (YYY p.m):=by rw[jD (j:=2) cI hp2 J0,Wl];rfl
 have s3:((Q.set i p1).flatMap bH)[i*5+3]? = some (YYY wt):=by rw[jD (j:=3) cI hp2 J0,Wl];rfl
 have TW:bo≠h2.nx:=by rintro rfl;rw[g12]at k4;exact bC k4
 have C2:bo≠h.nx+1:=by rintro rfl;rw[g3]at k4;exact bC k4
 simp(disch:=try exact Y)only[Wz,aZ hs,Ga,g12,bt,aN,k4,r2];refine zd _ _ ?_;rw[T0];simp(disch:=try exact Y)only[Wz,aN,k4,CB,s2,s3];obtain⟨hC,eC⟩:∃hC:af,hC=⟨h3.nx,h3.bl.bq bo (ai ((Q.set i p1).flatMap bH) 57 true),h3.lo⟩:=⟨_,rfl⟩
 have TY:Le h hC:=by subst eC;exact jY.set (b:=bo) XQ _
 have nC:hC.nx=h3.nx:=by rw[eC]
 have lC:hC.lo=h3.lo:=by rw[eC]
 have gC:hC.bl.get bo=some (ai ((Q.set i p1).flatMap bH) 57 true):=by subst eC;exact T.au _ _ _
 have g3C:hC.bl.get (h.nx+1)=some nU:=by subst eC;exact(T.ax _ _ C2).trans g3
 have Z5:hC.bl.get h2.nx=some (lV t r (YYX bo Q.length aW) w):=by subst eC;exact(T.ax _ _ TW).trans g12
 rw[<-eC];have hoC:wJ hA hC (YYX bo Q.length aW) (Q.set i p1):=.inr ⟨bo,by rw[List.length_set],k1,XQ,XQ,gC⟩;have eid:p.id=p1.id:=by rw[Wl]
 have eup:w8 p1=w8 p:=by rw[Wl];rfl
 have ajy:=Qi hi eid;have ajz:=TZ hi eup
 have aeS:∀(g:Bool)(hD:af),hD.bl.get bo=some (ai ((Q.set i p1).flatMap bH) 57 true)->hD.bl.get (h.nx+1)=some nU->hD.bl.get h2.nx=some (lV t r (YYX bo Q.length aW) w)->Le h hD->hC.nx<=hD.nx->
   jq Q w p m=(⟨p.id,p.x,wt,wt,p.s⟩,w,true)->
   dz (λSz=>y9 (.pointer (some ⟨bo,i*5,none⟩)) Sz (.bool true) hD) λl76 h_14=>
    wW False (h_14.bl.get h2.nx) 0 4 λl=>S_ False (h_14.bl.get (h.nx+1)) 4 (h.nx+1) 0 l h_14 λh_15=>wW False (h_15.bl.get (h.nx+1)) 0 4 λl=>V (.tuple ⟨[.agg ⟨l⟩,.bool true,YYY 0]⟩) h_15:=by
  intro g hD d1 d2 d3 hl hn he;have ll:=hl.lo;have AH:=gX (p':=⟨p.id,p.x,wt,wt,p.s⟩) (ws:=[YYY wt]) (j:=2) cI hp2 (by show 2+1<=5;omega) (by rw[Wl];rfl);rw[List.set_set]at AH;refine⟨λl h'=>HQ ⟨hD.nx,hD.bl.bq bo (ai ((Q.set i ⟨p.id,p.x,wt,wt,p.s⟩).flatMap bH) 57 true),hD.lo⟩ h',?_,?_⟩
  .simp(disch:=try exact Y)only[Wz,y9,aN,d1,s3,AH];rfl
  .intro l h' Cd;cases(show _=h' from Cd);simp(disch:=try exact Y)only[Wz,d3,d2];have key:=uO ha i p hi e2 hs;rw[he]at key;exact key _ _ (QV.blk (by show bo<hD.nx;omega) ((T.ax _ _ (λe=>C2 e.symm)).trans (T.au _ _ _)) (by simp)) ((hl.set (b:=bo) XQ _).set (b:=h.nx+1) XQ _)
 have aeT:∀(hD:af),hD.bl.get bo=some (ai ((Q.set i p1).flatMap bH) 57 true)->hD.bl.get (h.nx+1)=some nU->hD.bl.get h2.nx=some (lV t r (YYX bo Q.length aW) w)->Le h hD->hC.nx<=hD.nx->
   jq Q w p m=(⟨p.id,p.x,p.m,wt,w+1⟩,w+1,false)->
   dz (λSz=>y_ h2.nx (.pointer (some ⟨bo,i*5,none⟩)) Sz (.bool false) hD) λl76 h_14=>
    wW False (h_14.bl.get h2.nx) 0 4 λl=>S_ False (h_14.bl.get (h.nx+1)) 4 (h.nx+1) 0 l h_14 λh_15=>wW False (h_15.bl.get (h.nx+1)) 0 4 λl=>V (.tuple ⟨[.agg ⟨l⟩,.bool false,YYY 0]⟩) h_15:=by
  intro hD d1 d2 d3 hl hn he;have ll:=hl.lo;have AH:=gX (p':=⟨p.id,p.x,p.m,wt,w+1⟩) (ws:=[YYY (w+1)]) (j:=4) cI hp2 (by show 4+1<=5;omega) (by rw[Wl];rfl);rw[List.set_set]at AH;refine⟨λl h'=>HQ ⟨hD.nx,(hD.bl.bq h2.nx (lV t r (YYX bo Q.length aW) (w+1))).bq bo (ai ((Q.set i ⟨p.id,p.x,p.m,wt,w+1⟩).flatMap bH) 57 true),hD.lo⟩ h',?_,?_⟩
  .simp(disch:=try exact Y)only[Wz,y_,aN,d1,d3,AH];rfl
  .intro l h' Cd;cases(show _=h' from Cd);simp(disch:=try exact Y)only[Wz,d3,d2];have key:=uO ha i p hi e2 hs;rw[he]at key;exact key _ _ (QV.blk (by show bo<hD.nx;omega) ((T.ax _ _ (λe=>C2 e.symm)).trans (T.au _ _ _)) (by simp)) (((hl.set (b:=h2.nx) XQ _).set (b:=bo) XQ _).set (b:=h.nx+1) XQ _)
 by_cases hq1:wt=p.m
 .simp(disch:=try exact Y)only[Wz,bx hq1];exact aeS true hC gC g3C Z5 TY (Nat.le_refl _) (by unfold jq;rw[T0,if_pos (by simp[hq1])])
 ·have fa:(((Q.set i p1).flatMap bH).drop (i*5)).take 5=bH p1:=by
   have:=wX (enc:=bH) cI (Q.set i p1) i (by simpa using hil);rw[this,(List.getElem?_eq_some_iff.1 hp2).2]
  simp(disch:=try exact Y)only[Wz,aZ hq1,g12,Z5,gC,fa];refine C1 t r _ w p1 (Q.set i p1) hC _ hoC.sl (by simp;omega) XQ ?_;intro h5 dA;have n5:=dA.nx;have l5:=dA.lo;have d1:=(dA.get bo XQ).trans gC;have d2:=(dA.get (h.nx+1) XQ).trans g3C;have d3:=(dA.get h2.nx XQ).trans Z5;have SB:=TY.trans dA;rw[ajy];have aeU:iC Q p1=iC Q ⟨p.id,p.x,p.m,bA p.m m,p.s⟩:=by rw[Wl,T0]
  cases hft:iC Q p1 with
  |false=>
   simp(disch:=try exact Y)only[Wz];refine aeT h5 d1 d2 d3 SB n5 ?_;unfold jq;rw[T0,if_neg];rw[<-T0,<-aeU,hft,T0];simp[hq1]
  |true=>
   simp(disch:=try exact Y)only[Wz,d3];refine mJ (Q.set i p1) w8 h5 _ _ _ (hoC.sl.le dA) (by simp;omega) ?_ ?_
   .intro o ho h6 κ6 hl6 hk6;simp(disch:=try exact Y)only[Wz,List.nil_append,List.append_nil];exact zf o (hk6 h6 (Le.refl _))
   .intro h6 ku;have n6:=ku.nx;have l6:=ku.lo;have d1:=(ku.get bo XQ).trans d1;have d2:=(ku.get (h.nx+1) XQ).trans d2;have d3:=(ku.get h2.nx XQ).trans d3;have hl6:=SB.trans ku;rw[ajz];cases han:Q.any w8 with
    |true=>
     simp(disch:=try exact Y)only[Wz];refine aeT h6 d1 d2 d3 hl6 XQ ?_;unfold jq;rw[T0,if_neg];rw[han];simp[hq1]
    |false=>
     simp(disch:=try exact Y)only[Wz];refine aeS true h6 d1 d2 d3 hl6 XQ ?_;unfold jq;rw[T0,if_pos];rw[<-T0,<-aeU,hft,han];simp
end Go.Proofs

namespace Go.Vai
section
variable {α:Type}{s:Nat}{enc:α->List Value}
set_option maxRecDepth 20000 in
theorem IP{a h:af}{e:TypeId}{z:List Value}{v x:Value}{L M:List α}(he:∀a:α,(enc a).length=s)(hone:∀a:α,(enc a).all dI=true)(hs0:0<s)(hs1:s<=100)(ho:ia enc a e h v L)(hx:Sl enc h x M)(hle:Le a h)(hb:L.length+M.length<=1000000)(hal:h.lo<=h.nx)(V:KQ)(hk:∀v' h',ia enc a e h' v' (L++M)->Le a h'->h'.nx<=h.nx+1->h.nx<=h'.nx->h'.lo=h.lo->(∀b,b<h.nx->h.bl.get b≠some (ai (L.flatMap enc) e true)->h'.bl.get b=h.bl.get b)->(∀b,b<h.nx->(∀n cap,v≠YYX b n cap)->h'.bl.get b=h.bl.get b)->(v'=v\/∃b n cap,h.nx<=b/\v'=YYX b n cap)->V v' h'):bO False e s z false v x h V:=by
 by_cases hM:M=[]
 .subst hM;rw[append_nil hx (by rcases ho with⟨rfl,rfl|⟨b,o,rfl⟩⟩|⟨b,rfl,_⟩<;>exact⟨_,_,_,rfl⟩)];exact hk v h (by simpa using ho) hle (Nat.le_succ _) (Nat.le_refl _) rfl (λ_ _ _=>rfl) (λ_ _ _=>rfl) (.inl rfl)
 .obtain⟨m,hm⟩:∃m,M.length=m+1:=⟨M.length-1,by have:=List.length_pos_iff.2 hM;omega⟩
  have hfl:=bz (enc:=enc) he;have jB:=hx.first (β:=Prop) (fl:=False) he;obtain⟨y,cap,rfl,h2⟩:=hx;have hml:∀K:List α,K.length<=1000000->(K.flatMap enc).length<=1000000000000:=λK hK=>by
   rw[hfl];have:=Nat.mul_le_mul hK hs1;omega
  have fresh:∀(hh:af)(ws:List Value),ws=(L++M).flatMap enc->Le a hh->hh.nx=h.nx->hh.lo=h.lo->(∀b,b<h.nx->h.bl.get b≠some (ai (L.flatMap enc) e true)->hh.bl.get b=h.bl.get b)->(∀b,b<h.nx->(∀n cap,v≠YYX b n cap)->hh.bl.get b=h.bl.get b)->dw False ws e true hh λb h'=>V (YYX b (L.length+M.length) aW) h':=by
   intro hh ws hw VH hnx hlo hgt ajA;subst hw;unfold dw;rw[iX _ _ _ _ (hml _ (by simp;omega)),dN];refine hk _ _ (.inr ⟨hh.nx,by simp,VH.nx,Nat.lt_succ_self _,by show hh.lo<=_;omega,T.au _ _ _⟩) (VH.new _) (by show hh.nx+1<=_;omega) (by show h.nx<=hh.nx+1;omega) hlo (λb hb hn=>(T.ax _ _ XQ).trans (hgt b hb hn)) (λb hb hn=>(T.ax _ _ XQ).trans (ajA b hb hn)) (.inr ⟨hh.nx,_,_,XQ,rfl⟩)
  rcases ho with⟨rfl,hv⟩|⟨b,rfl,h3,h4,h5,h6⟩
  .have hF:=fresh h (M.flatMap enc) (by simp) hle rfl rfl (λ_ _ _=>rfl) (λ_ _ _=>rfl);simp only[List.length_nil,Nat.zero_add]at hF;rcases hv with rfl|⟨b,o,rfl⟩
   .unfold bO mq;simp only;rw[jB];simp only[hm,bY];rw[show Nat.ble (Nat.add 0 (m+1)) 1000000000=true from Nat.ble_eq_true_of_le (by show 0+(m+1)<=_;omega)];rw[hm]at hF;have e1:Nat.add 0 (m+1)=m+1:=by show 0+(m+1)=_;omega
    rw[e1];exact hF
   .unfold bO mq;simp only;rw[jB];simp only[hm,bY];have e1:Nat.add 0 (m+1)=m+1:=by show 0+(m+1)=_;omega
    rw[e1,show Nat.ble (m+1) 1000000000=true from Nat.ble_eq_true_of_le XQ];rw[hm]at hF
    show dW False h s 0 _ _
    rw[jX _ _ _ _ _ (by simp)];exact hF
  .unfold bO mq;simp only;rw[jB];simp only[hm,bY];have e1:Nat.add L.length (m+1)=L.length+(m+1):=rfl;rw[e1,show Nat.ble (L.length+(m+1)) 1000000000=true from Nat.ble_eq_true_of_le XQ];have e2:Nat.beq aW fZ=false:=by decide
   have e3:Nat.beq aW aW=true:=Nat.beq_refl _;simp only[e2,e3,h6];have e4:Nat.ble (Nat.add 0 (Nat.mul (L.length+(m+1)) s)) (L.flatMap enc).length=false:=by
    rw[hfl];cases Ta:Nat.ble (Nat.add 0 (Nat.mul (L.length+(m+1)) s)) (L.length*s)with
    |false=>rfl
    |true=>
     have h7:0+(L.length+(m+1))*s<=L.length*s:=Nat.le_of_ble_eq_true Ta;rw[Nat.add_mul,Nat.succ_mul]at h7;omega
   have e5:(M.flatMap enc).all dI=true:=by
    rw[List.all_flatMap];simp only[List.all_eq_true];intro x _;exact List.all_eq_true.1 (hone x)
   simp only[ai,Nat.beq_refl,e4,e5,Bool.and_self];have hh:Has (h.bl.get b) 0 (L.flatMap enc):=by rw[h6];exact Has.all
   rw[jA hh s L.length _ _ _ (hfl L).symm,cg _ _ _ _ h5];have hF:=fresh ⟨h.nx,h.bl.bq b (.dead (L.flatMap enc).length e),h.lo⟩ (L.flatMap enc++M.flatMap enc) (by simp) (hle.set h3 _) rfl rfl (λb' _ hn=>T.ax _ _ (λe=>hn (by rw[<-e];exact h6))) (λb' _ hn=>T.ax _ _ (by rintro rfl;exact hn _ _ rfl));rw[hm]at hF;exact hF
end
theorem mL{v v':Value}{vs vs':List Value}{e e':TypeId}{p p':Bool}(h:(some (ai (v::vs) e p):Option bL)=some (ai (v'::vs') e' p')):v=v':=by
 have h1:=congrArg (λob=>uv (none:Option Value) ob 0 some) h;simp only[qD]at h1;exact Option.some.inj h1
end Go.Vai
namespace Go.Proofs
open Go.Vai Go.Clashes
open Tryz (prog)
def T1(b:Nat):Value:=.iface 306 (YYQ b)
theorem Qj(b : Nat)(h : af)(V : Value → af → Prop):jr prog "Len" (T1 b) [] h V = (aa False 0 (.pointer (some ⟨b, 0, none⟩)) h fun a h => az False a h fun v h => aj prog 175 [v] h V) := by kernel_rfl
theorem C3(b : Nat)(i j : Value)(h : af)(V : Value → af → Prop):jr prog "Less" (T1 b) [i, j] h V = (aa False 0 (.pointer (some ⟨b, 0, none⟩)) h fun a h => az False a h fun v h => aj prog 465 [v, i, j] h V) := by kernel_rfl
theorem C4(b : Nat)(i j : Value)(h : af)(V : Value → af → Prop):jr prog "Swap" (T1 b) [i, j] h V = (aa False 0 (.pointer (some ⟨b, 0, none⟩)) h fun a h => az False a h fun v h => aj prog 467 [v, i, j] h V) := by kernel_rfl
theorem T2(b : Nat)(x : Value)(h : af)(V : Value → af → Prop):jr prog "Push" (T1 b) [x] h V = aj prog 469 [.pointer (some ⟨b, 0, none⟩), x] h V := by kernel_rfl
theorem Z6(b : Nat)(h : af)(V : Value → af → Prop):jr prog "Pop" (T1 b) [] h V = aj prog 468 [.pointer (some ⟨b, 0, none⟩)] h V := by kernel_rfl
def oU(h:af)(v:Value)(F:List Int):Prop:=(F=[]/\v=.slice none 0 0)\/∃b G,v=YYX b F.length aW/\b<h.nx/\h.lo<=b/\h.bl.get b=some (ai ((F++G).flatMap eN) 3 true)/\0<(F++G).length
structure gj(h:af)(bp:Nat)(F:List Int)(ls:Value):Prop where
 lt:bp<h.nx
 lo:h.lo<=bp
 cell:∃fs,h.bl.get bp=some (ai [fs,ls] 286 false)/\oU h fs F
def FB(h:af)(bp c:Nat):Prop:=∃n cap ls,h.bl.get bp=some (ai [YYX c n cap,ls] 286 false)
theorem FB.congr{h h':af}{bp c:Nat}(e:h'.bl.get bp=h.bl.get bp):FB h' bp c<->FB h bp c:=by unfold FB;rw[e]
structure zk(bp:Nat)(h h':af):Prop where
 nx:h.nx<=h'.nx
 lo:h'.lo=h.lo
 get:∀c,c<h.nx->c≠bp->(∀vs,h.bl.get c≠some (ai vs 3 true))->h'.bl.get c=h.bl.get c
 g2:bp<h.nx->∀c,c<h.nx->c≠bp->¬FB h bp c->h'.bl.get c=h.bl.get c
 mv:bp<h.nx->∀c,c<h.nx->FB h' bp c->FB h bp c
theorem zk.refl(bp:Nat)(h:af):zk bp h h:=⟨Nat.le_refl _,rfl,λ_ _ _ _=>rfl,λ_ _ _ _ _=>rfl,λ_ _ _ x=>x⟩
theorem zk.trans{bp:Nat}{h h' h'':af}(a:zk bp h h')(b:zk bp h' h''):zk bp h h'':=
 ⟨Nat.le_trans a.nx b.nx,b.lo.trans a.lo,λc hc hn hi=>(b.get c (Nat.lt_of_lt_of_le hc a.nx) hn (λvs=>by rw[a.get c hc hn hi];exact hi vs)).trans (a.get c hc hn hi),
  λhb c hc hn hi=>(b.g2 (Nat.lt_of_lt_of_le hb a.nx) c (Nat.lt_of_lt_of_le hc a.nx) hn λx=>hi (a.mv hb c hc x)).trans (a.g2 hb c hc hn hi),
  λhb c hc x=>a.mv hb c hc (b.mv (Nat.lt_of_lt_of_le hb a.nx) c (Nat.lt_of_lt_of_le hc a.nx) x)⟩
theorem zk.swap{bp:Nat}{h h':af}{fs ls:Value}(hg:h.bl.get bp=some (ai [fs,ls] 286 false))(q1:h'.nx=h.nx)(q2:h'.lo=h.lo)(q4:∀c,(∀vs,h.bl.get c≠some (ai vs 3 true))->h'.bl.get c=h.bl.get c)(q5:∀c,(∀n cap,fs≠YYX c n cap)->h'.bl.get c=h.bl.get c):zk bp h h':=
 ⟨XQ,q2,λc _ _ hi=>q4 c hi,λ_ c _ _ hn=>q5 c λn cap e=>hn ⟨n,cap,ls,e▸hg⟩,λ_ c _ x=>(FB.congr (q4 bp λvs=>by rw[hg];exact bC)).1 x⟩
theorem tJ(F:List Int)(h:af)(v:Value)(V:KQ)(hp:oU h v F)(hk:V (YYY (F.length:Int)) h):aj prog 175 [v] h V:=by
 apply YYZ;rw[Yv];rcases hp with⟨rfl,rfl⟩|⟨b,G,rfl,_⟩
 .simp(disch:=try exact Y)only[Wz];exact hk
 .simp(disch:=try exact Y)only[Wz];exact hk
theorem p_{F G:List Int}{i:Nat}{x:Int}(hx:F[i]? = some x):((F++G).flatMap eN)[i]? = some (YYY x):=by
 have h1:(F++G)[i]? = some x:=by rw[List.getElem?_append_left (List.getElem?_eq_some_iff.1 hx).1];exact hx
 have:=jD (j:=0) ff h1 J0;simpa[eN]using this
theorem zl{F G:List Int}{i:Nat}{y:Int}(hi:i<F.length):over ((F++G).flatMap eN) i [YYY y]=((F.set i y)++G).flatMap eN:=by
 have h1:(F++G)[i]? = some F[i]:=by rw[List.getElem?_append_left hi];exact List.getElem?_eq_getElem hi
 have:=gX (p':=y) (ws:=[YYY y]) (j:=0) ff h1 (by show 0+1<=1;omega) rfl;rw[Nat.mul_one,Nat.add_zero]at this;rw[this,List.set_append,if_pos hi]
theorem u6(F:List Int)(i j:Nat)(h:af)(v:Value)(V:KQ)(hp:oU h v F)(hi:i<F.length)(hj:j<F.length)(hk:V (.bool (decide (F[i]<F[j]))) h):aj prog 465 [v,YYY (i:Int),YYY (j:Int)] h V:=by
 apply YYZ;rw[ZV];rcases hp with⟨rfl,rfl⟩|⟨b,G,rfl,h1,h2,h3,h4⟩
 .simp at hi
 .have r1:=p_ (G:=G) (List.getElem?_eq_getElem hi);have r2:=p_ (G:=G) (List.getElem?_eq_getElem hj);simp(disch:=try exact Y)only[Wz,bt,h3,r1,r2,Nat.mul_one];exact hk
def nV(F:List Int)(i j:Nat):List Int:=match F[i]?,F[j]? with|some x,some y=>(F.set i y).set j x|_,_=>F
theorem tK{F:List Int}{i j:Nat}(hi:i<F.length)(hj:j<F.length):nV F i j=(F.set i F[j]).set j F[i]:=by
 simp only[nV,List.getElem?_eq_getElem hi,List.getElem?_eq_getElem hj]
theorem u7(F:List Int)(i j:Nat):(nV F i j).length=F.length:=by
 unfold nV;split<;>simp
theorem u9(F:List Int)(i j:Nat)(h:af)(v:Value)(V:KQ)(hp:oU h v F)(hi:i<F.length)(hj:j<F.length)(hk:∀h',h'.nx=h.nx->h'.lo=h.lo->oU h' v (nV F i j)->(∀c,(∀vs,h.bl.get c≠some (ai vs 3 true))->h'.bl.get c=h.bl.get c)->(∀c,(∀n cap,v≠YYX c n cap)->h'.bl.get c=h.bl.get c)->V (.tuple ⟨[]⟩) h'):aj prog 467 [v,YYY (i:Int),YYY (j:Int)] h V:=by
 apply YYZ;rw[ZW];rcases hp with⟨rfl,rfl⟩|⟨b,G,rfl,h1,h2,h3,h4⟩
 .simp at hi
 .have r1:=p_ (G:=G) (List.getElem?_eq_getElem hi);have r2:=p_ (G:=G) (List.getElem?_eq_getElem hj);have hl:=bz (enc:=eN) ff (F++G);have oS:=bz (enc:=eN) ff ((F.set i F[j])++G);have ov1:=zl (G:=G) (y:=F[j]) hi;have ov2:=zl (G:=G) (F:=F.set i F[j]) (y:=F[i]) (i:=j) (by simpa using hj);have hlen:(F++G).length=F.length+G.length:=List.length_append;have Qk:((F.set i F[j])++G).length=F.length+G.length:=by simp
  simp(disch:=try exact Y)only[Wz,bt,h3,r1,r2,Nat.mul_one,ov1,ov2];refine hk _ rfl rfl (.inr ⟨b,G,by rw[u7],h1,h2,?_,?_⟩) ?_ λc hc=>T.ax _ _ (by rintro rfl;exact hc _ _ rfl)
  .rw[tK hi hj];exact T.au _ _ _
  .rw[List.length_append,u7];simpa using h4
  .intro c hc;refine T.ax _ _ ?_;rintro rfl;exact hc _ h3
theorem r9{F:List Int}{i j:Nat}(hi:i<F.length)(hj:j<F.length):(nV F i j).Perm F:=by
 rw[tK hi hj];exact List.set_set_perm hi hj
theorem gD{F:List Int}{i:Nat}(h:i<F.length):F.getD i 0=F[i]:=by
 rw[List.getD_eq_getElem?_getD,List.getElem?_eq_getElem h];rfl
theorem tL{F:List Int}{i j:Nat}(hi:i<F.length)(hj:j<F.length)(k:Nat):(nV F i j).getD k 0=if k=j then F.getD i 0 else if k=i then F.getD j 0 else F.getD k 0:=by
 rw[tK hi hj,gD hi,gD hj];simp only[List.getD_eq_getElem?_getD,List.getElem?_set,List.length_set];by_cases h1:j=k
 .subst h1;rw[if_pos rfl,if_pos hj,if_pos rfl];rfl
 .have Ql:¬k=j:=λe=>h1 e.symm;rw[if_neg h1,if_neg Ql];by_cases h2:i=k
  .subst h2;rw[if_pos rfl,if_pos hi,if_pos rfl];rfl
  .have h2':¬k=i:=λe=>h2 e.symm;rw[if_neg h2,if_neg h2']
def HN(F:List Int)(n:Nat):Prop:=∀i,0<i->i<n->F.getD ((i-1) / 2) 0<=F.getD i 0
abbrev HP(F:List Int):Prop:=HN F F.length
structure zm(F:List Int)(j:Nat):Prop where
 a:∀i,0<i->i<F.length->i≠j->F.getD ((i-1) / 2) 0<=F.getD i 0
 b:0<j->∀i,0<i->i<F.length->(i-1) / 2=j->F.getD ((j-1) / 2) 0<=F.getD i 0
structure wL(F:List Int)(i n:Nat):Prop where
 a:∀k,0<k->k<n->(k-1) / 2≠i->F.getD ((k-1) / 2) 0<=F.getD k 0
 b:0<i->∀k,0<k->k<n->(k-1) / 2=i->F.getD ((i-1) / 2) 0<=F.getD k 0
theorem zm.step{F:List Int}{j:Nat}(u:zm F j)(h0:0<j)(hj:j<F.length)(hlt:F.getD j 0<F.getD ((j-1) / 2) 0):zm (nV F ((j-1) / 2) j) ((j-1) / 2):=by
 have hp:(j-1) / 2<F.length:=by omega
 have G:=tL (F:=F) hp hj;have L:=u7 F ((j-1) / 2) j;refine⟨λi h1 h2 h3=>?_,λT3 i h1 h2 h3=>?_⟩
 .rw[L]at h2;rw[G,G];by_cases e1:i=j
  .subst e1;rw[if_neg XQ,if_pos rfl,if_pos rfl];omega
  .rw[if_neg e1,if_neg h3];have A:=u.a i h1 h2 e1;by_cases e2:(i-1) / 2=j
   .rw[if_pos e2];exact u.b h0 i h1 h2 e2
   .rw[if_neg e2];by_cases e3:(i-1) / 2=(j-1) / 2
    .rw[if_pos e3];rw[e3]at A;omega
    .rw[if_neg e3];exact A
 .rw[L]at h2;rw[G,G,if_neg XQ,if_neg XQ];have A:=u.a ((j-1) / 2) T3 hp XQ;by_cases e1:i=j
  .rw[if_pos e1];exact A
  .rw[if_neg e1,if_neg XQ];have B:=u.a i h1 h2 e1;rw[h3]at B;omega
theorem zm.Qm{F:List Int}(u:zm F 0):HP F:=λi h1 h2=>u.a i h1 h2 XQ
theorem zm.Z7{F:List Int}{j:Nat}(u:zm F j)(hge:F.getD ((j-1) / 2) 0<=F.getD j 0):HP F:=λi h1 h2=>by
 by_cases e:i=j
 .subst e;exact hge
 .exact u.a i h1 h2 e
theorem HP.push{F:List Int}(u:HP F)(x:Int):zm (F++[x]) F.length:=by
 have G:∀k,k<F.length->(F++[x]).getD k 0=F.getD k 0:=λk hk=>by
  rw[List.getD_eq_getElem?_getD,List.getElem?_append_left hk,List.getD_eq_getElem?_getD]
 refine⟨λi h1 h2 h3=>?_,λ_ i h1 h2 h3=>?_⟩
 .rw[List.length_append,List.length_singleton]at h2;rw[G _ XQ,G _ XQ];exact u i h1 XQ
 .rw[List.length_append,List.length_singleton]at h2;omega
theorem wL.step{F:List Int}{i n c:Nat}(d:wL F i n)(hn:n<=F.length)(hc:c<n)(hi:(c-1) / 2=i)(hc0:0<c)(hlt:F.getD c 0<F.getD i 0)(hmin:∀k,0<k->k<n->(k-1) / 2=i->F.getD c 0<=F.getD k 0):wL (nV F i c) c n:=by
 have G:=tL (F:=F) (i:=i) (j:=c) XQ XQ;refine⟨λk h1 h2 h3=>?_,λ_ k h1 h2 h3=>?_⟩
 .rw[G,G];by_cases e1:(k-1) / 2=i
  .rw[if_neg h3,if_pos e1];by_cases e2:k=c
   .rw[if_pos e2];omega
   .rw[if_neg e2,if_neg XQ];exact hmin k h1 h2 e1
  .rw[if_neg h3,if_neg e1];have A:=d.a k h1 h2 e1;by_cases e2:k=c
   .subst e2;omega
   .rw[if_neg e2];by_cases e3:k=i
    .subst e3;rw[if_pos rfl];exact d.b h1 c hc0 hc hi
    .rw[if_neg e3];exact A
 .rw[G,G,hi,if_neg XQ,if_pos rfl,if_neg XQ,if_neg XQ];have A:=d.a k h1 h2 XQ;rw[h3]at A;exact A
theorem wL.Qm{F:List Int}{i n:Nat}(d:wL F i n)(h:n<=2*i+1):HN F n:=λk h1 h2=>d.a k h1 h2 XQ
theorem wL.Z7{F:List Int}{i n c:Nat}(d:wL F i n)(hge:F.getD i 0<=F.getD c 0)(hmin:∀k,0<k->k<n->(k-1) / 2=i->F.getD c 0<=F.getD k 0):HN F n:=λk h1 h2=>by
 by_cases e:(k-1) / 2=i
 .have:=hmin k h1 h2 e;rw[e];omega
 .exact d.a k h1 h2 e
theorem HP.pop{F:List Int}(u:HP F)(h0:0<F.length):wL (nV F 0 (F.length-1)) 0 (F.length-1):=by
 have G:=tL (F:=F) (i:=0) (j:=F.length-1) h0 XQ;refine⟨λk h1 h2 h3=>?_,λh=>by omega⟩;rw[G,G,if_neg XQ,if_neg h3,if_neg XQ,if_neg XQ];exact u k h1 XQ
theorem HP.least{F:List Int}(u:HP F):∀n k,k<n->k<F.length->F.getD 0 0<=F.getD k 0:=by
 intro n
 induction n with
 |zero=>intro k h;omega
 |succ n ih=>
  intro k h1 h2;by_cases e:k=0
  .subst e;exact Int.le_refl _
  .have:=ih ((k-1) / 2) XQ XQ;have:=u k XQ h2;omega
theorem HN.take{F:List Int}{n:Nat}(u:HN F n)(hn:n<=F.length):HP (F.take n):=by
 have G:∀k,k<n->(F.take n).getD k 0=F.getD k 0:=λk hk=>by
  rw[List.getD_eq_getElem?_getD,List.getElem?_take,if_pos hk,List.getD_eq_getElem?_getD]
 intro i h1 h2;rw[List.length_take]at h2;rw[G _ XQ,G _ XQ];exact u i h1 XQ
theorem gj.same{h h':af}{bp:Nat}{F F':List Int}{ls fs:Value}(f:gj h bp F ls)(hn:h'.nx=h.nx)(hl:h'.lo=h.lo)(hg:h.bl.get bp=some (ai [fs,ls] 286 false))(hp:oU h' fs F')(hfr:∀c,(∀vs,h.bl.get c≠some (ai vs 3 true))->h'.bl.get c=h.bl.get c):gj h' bp F' ls:=
 ⟨by rw[hn];exact f.lt,by rw[hl];exact f.lo,fs,by rw[hfr bp (λvs=>by rw[hg];exact bC)];exact hg,hp⟩
theorem Qn(j:Nat):Int.tdiv ((j:Int)-1) 2=(((j-1) / 2:Nat):Int):=by
 cases j with
 |zero=>rfl
 |succ j=>rw[Int.tdiv_eq_ediv_of_nonneg XQ];omega
theorem ajB(bp:Nat)(F:List Int)(ls:Value)(j:Nat)(h:af)(V:KQ)(f:gj h bp F ls)(hj:j<F.length)(hlen:F.length<=100000)(hk:∀h' F',gj h' bp F' ls->F'.Perm F->(zm F j->HP F')->zk bp h h'->V (.tuple ⟨[]⟩) h'):aj prog 289 [T1 bp,YYY (j:Int)] h V:=by
 apply YYZ;rw[Ze];refine⟨λn l h1=>∃(k:Nat)(F1:List Int),ah l 19=YYY (k:Int)/\n=k/\k<F.length/\F1.Perm F/\(zm F j->zm F1 k)/\gj h1 bp F1 ls/\zk bp h h1,⟨_,j,F,rfl,rfl,hj,List.Perm.refl _,id,f,zk.refl _ _⟩,?_⟩;rintro n l h1 ⟨k,F1,s1,rfl,dB,hp1,Oc,f1,Lc⟩;have pE:=hp1.length_eq;have e1:=Qn n;by_cases h0:n=0
 .subst h0;simp(disch:=try exact Y)only[Wz,yW,s1,Ct,e1];exact hk h1 F1 f1 hp1 (λu=>(Oc u).Qm) Lc
 .obtain⟨fs,hg,hpt⟩:=f1.cell;simp(disch:=try exact Y)only[Wz,yW,s1,Ct,e1,OL,C3,hg];refine u6 F1 n ((n-1) / 2) h1 _ _ hpt XQ XQ ?_;by_cases hls:F1[n]'XQ<F1[(n-1) / 2]'XQ
  .simp(disch:=try exact Y)only[Wz,bx hls,C4,hg];refine u9 F1 ((n-1) / 2) n h1 _ _ hpt XQ XQ ?_;intro h2 q1 q2 q3 q4 q5;refine⟨_,?_,(n-1) / 2,nV F1 ((n-1) / 2) n,rfl,rfl,XQ,(r9 XQ XQ).trans hp1,λu=>(Oc u).step XQ XQ (by rw[gD XQ,gD XQ];exact hls),f1.same q1 q2 hg q3 q4,Lc.trans (.swap hg q1 q2 q4 q5)⟩;omega
  .simp(disch:=try exact Y)only[Wz,aZ hls];exact hk h1 F1 f1 hp1 (λu=>(Oc u).Z7 (by rw[gD XQ,gD XQ];omega)) Lc
set_option maxHeartbeats 1000000 in
theorem Z8(bp:Nat)(F:List Int)(ls:Value)(i0 n:Nat)(h:af)(V:KQ)(f:gj h bp F ls)(hn:n<=F.length)(hlen:F.length<=100000)(yp:i0<=100000)(hk:∀r h' F',gj h' bp F' ls->F'.Perm F->(∀k,n<=k->F'[k]? = F[k]?)->(wL F i0 n->HN F' n)->zk bp h h'->V (.bool r) h'):aj prog 217 [T1 bp,YYY (i0:Int),YYY (n:Int)] h V:=by
 apply YYZ;rw[YX];refine⟨λl h'=>∃(k:Nat)(F':List Int),ah l 36=YYY (k:Int)/\gj h' bp F' ls/\F'.Perm F/\(∀k,n<=k->F'[k]? = F[k]?)/\(wL F i0 n->HN F' n)/\zk bp h h',?_,?_⟩
 rotate_left
 .rintro l h' ⟨k,F',s1,q1,q2,q3,q4,q5⟩;simp(disch:=try exact Y)only[Wz,s1];exact hk _ h' F' q1 q2 q3 q4 q5
 refine⟨λm l h1=>∃(i:Nat)(F1:List Int),ah l 36=YYY (i:Int)/\m=200002-i/\i<=200000/\(i<n\/i=i0)/\F1.Perm F/\(∀k,n<=k->F1[k]? = F[k]?)/\(wL F i0 n->wL F1 i n)/\gj h1 bp F1 ls/\zk bp h h1,⟨_,i0,F,rfl,rfl,XQ,.inr rfl,List.Perm.refl _,λ_ _=>rfl,id,f,zk.refl _ _⟩,?_⟩;rintro m l h1 ⟨i,F1,s1,rfl,hi,hin,hp1,ht1,hd1,f1,Lc⟩;have pE:=hp1.length_eq;obtain⟨fs,hg,hpt⟩:=f1.cell;by_cases hst:2*i+1<n
 case neg=>
  simp(disch:=try exact Y)only[Wz,yU,s1,dF (show(n:Int)<=2*(i:Int)+1 by omega)];exact⟨i,F1,rfl,f1,hp1,ht1,λd=>(hd1 d).Qm XQ,Lc⟩
 have c1:(2*(i:Int)+1)=((2*i+1:Nat):Int):=by omega
 simp(disch:=try exact Y)only[Wz,yU,s1,c1,fm (show((2*i+1:Nat):Int)<(n:Int)by omega),dF (show(0:Int)<=((2*i+1:Nat):Int)by omega),FC];refine⟨λk9 h'=>∃j:Nat,ah k9 13=YYY (j:Int)/\i<j/\j<n/\(j-1) / 2=i/\(∀k,0<k->k<n->(k-1) / 2=i->F1.getD j 0<=F1.getD k 0)/\HQ h1 h',?_,?_⟩
 .have c2:((2*i+1:Nat):Int)+1=((2*i+2:Nat):Int):=by omega
  by_cases h2:2*i+2<n
  .simp(disch:=try exact Y)only[Wz,yT,c2,fm (show((2*i+2:Nat):Int)<(n:Int)by omega),C3,hg];refine u6 F1 (2*i+2) (2*i+1) h1 _ _ hpt XQ XQ ?_;by_cases hls:F1[2*i+2]'XQ<F1[2*i+1]'XQ
   ·simp(disch:=try exact Y)only[Wz,bx hls];exact⟨2*i+2,rfl,XQ,h2,XQ,λk k0 k1 k2=>by
     have ek:k=2*i+1\/k=2*i+2:=by omega
     rcases ek with rfl|rfl
     .rw[gD XQ,gD XQ];omega
     .exact Int.le_refl _,rfl⟩
   ·simp(disch:=try exact Y)only[Wz,aZ hls];exact⟨2*i+1,rfl,XQ,hst,XQ,λk k0 k1 k2=>by
     have ek:k=2*i+1\/k=2*i+2:=by omega
     rcases ek with rfl|rfl
     .exact Int.le_refl _
     .rw[gD XQ,gD XQ];omega,rfl⟩
  ·simp(disch:=try exact Y)only[Wz,yT,c2,dF (show(n:Int)<=((2*i+2:Nat):Int)by omega)];exact⟨2*i+1,rfl,XQ,hst,XQ,λk k0 k1 k2=>by
    have ek:k=2*i+1:=by omega
    rw[ek];exact Int.le_refl _,rfl⟩
 .rintro k9 h' ⟨j,s2,hij,hjn,hjp,hmin,hq⟩;cases(show h1=h' from hq);simp(disch:=try exact Y)only[Wz,s1,s2,C3,hg];refine u6 F1 j i h1 _ _ hpt XQ XQ ?_;by_cases hls:F1[j]'XQ<F1[i]'XQ
  .simp(disch:=try exact Y)only[Wz,bx hls,C4,hg,s1,s2];refine u9 F1 i j h1 _ _ hpt XQ XQ ?_;intro h2 q1 q2 q3 q4 q5;refine⟨_,?_,j,nV F1 i j,rfl,rfl,XQ,.inl hjn,(r9 XQ XQ).trans hp1,?_,λd=>(hd1 d).step XQ hjn hjp XQ (by rw[gD XQ,gD XQ];exact hls) hmin,f1.same q1 q2 hg q3 q4,Lc.trans (.swap hg q1 q2 q4 q5)⟩
   .omega
   .intro k dB;rw[<-ht1 k dB,tK XQ XQ,List.getElem?_set,if_neg XQ,List.getElem?_set,if_neg XQ]
  .simp(disch:=try exact Y)only[Wz,aZ hls,s1];exact⟨i,F1,rfl,f1,hp1,ht1,λd=>(hd1 d).Z7 (by rw[gD XQ,gD XQ];omega) hmin,Lc⟩
theorem Gs{h:af}{v:Value}{F:List Int}{x:Int}{b7 c7:Nat}(hp:oU h v F)(hb7:b7<h.nx)(hg7:h.bl.get b7=some (ai [YYY x] 3 false))(hlen:F.length<=100000)(hal:h.lo<=h.nx)(V:KQ)(hk:∀v' h',oU h' v' (F++[x])->h.nx<=h'.nx->h'.lo=h.lo->(∀c,c<h.nx->(∀vs,h.bl.get c≠some (ai vs 3 true))->h'.bl.get c=h.bl.get c)->(∀c,c<h.nx->(∀n cap,v≠YYX c n cap)->h'.bl.get c=h.bl.get c)->(∀c n cap,c<h.nx->v'=YYX c n cap->∃n cap,v=YYX c n cap)->V v' h'):bO False 3 1 [YYY 0] false v (YYX b7 1 c7) h V:=by
 have hx:Sl eN h (YYX b7 1 c7) [x]:=Sl.new (L:=[x]) (e:=3) (op:=false) hb7 (by simpa[eN]using hg7) _;have full:ia eN ⟨0,.nil,h.lo⟩ 3 h v F->(∀v' h',ia eN ⟨0,.nil,h.lo⟩ 3 h' v' (F++[x])->oU h' v' (F++[x]))->bO False 3 1 [YYY 0] false v (YYX b7 1 c7) h V:=by
  intro ho aeV;refine IP (enc:=eN) (a:=⟨0,.nil,h.lo⟩) (L:=F) (M:=[x]) ff zh J0 J0 ho hx ⟨Nat.zero_le _,rfl,λb hb=>absurd hb (Nat.not_lt_zero _)⟩ (by simp;omega) hal V ?_;intro v' h' ho' _ _ hn hl hs hs2 hv;refine hk v' h' (aeV v' h' ho') hn hl (λc hc hne=>hs c hc (hne _)) hs2 λc n cap hc e=>?_;rcases hv with rfl|⟨b,n',cap',hb,rfl⟩
  .exact⟨n,cap,e⟩
  .injection e with e;injection e with e;injection e with e;omega
 have conv:∀v' h',ia eN ⟨0,.nil,h.lo⟩ 3 h' v' (F++[x])->oU h' v' (F++[x]):=by
  intro v' h' ho;rcases ho with⟨e,_⟩|⟨b,e,_,h2,h3,h4⟩
  .simp at e
  .exact .inr ⟨b,[],e,h2,h3,by rw[List.append_nil];exact h4,by simp⟩
 rcases hp with⟨rfl,rfl⟩|⟨b,G,rfl,h1,h2,h3,h4⟩
 .exact full (.inl ⟨rfl,.inl rfl⟩) conv
 .cases G with
  |nil=>
   rw[List.append_nil]at h3;exact full (.inr ⟨b,rfl,Nat.zero_le _,h1,h2,h3⟩) conv
  |cons g G=>
   have jB:∀κ':List Value->Prop,dW False h 1 1 (YYX b7 1 c7) κ'=κ' [YYY x]:=λκ'=>hx.first (β:=Prop) (fl:=False) ff κ';have hl:=bz (enc:=eN) ff (F++g::G);have hl':(F++g::G).length=F.length+(G.length+1):=by simp
   have CB:=zl (G:=G) (F:=F++[g]) (y:=x) (i:=F.length) (by simp);have e0:F++[g]++G=F++g::G:=by simp
   have e00:(F++[g]).set F.length x=F++[x]:=by simp
   rw[e0,e00]at CB;unfold bO mq;simp only;rw[jB];simp only[bY];have e2:Nat.beq aW fZ=false:=by decide
   have e3:Nat.beq aW aW=true:=Nat.beq_refl _;have e5:Nat.ble (Nat.add F.length (0+1)) 1000000000=true:=Nat.ble_eq_true_of_le (by show F.length+(0+1)<=_;omega);have e4:Nat.ble (Nat.add 0 (Nat.mul (Nat.add F.length (0+1)) 1)) ((F++g::G).flatMap eN).length=true:=Nat.ble_eq_true_of_le (by rw[hl];show 0+(F.length+(0+1))*1<=_;omega);simp only[e2,e3,e5,h3,ai,Nat.beq_refl,e4];rw[uR _ _ _ _ _ (by show 0+F.length*1+1<=_;omega) rfl,cg _ _ _ _ h2];have e6:(Nat.add 0 (Nat.mul F.length 1))=F.length:=by show 0+F.length*1=_;omega
   rw[e6,Cs _ _ _ (by show F.length+1<=_;omega),CB];have e7:((F++g::G).flatMap eN).length=((F++[x]++G).flatMap eN).length:=by rw[hl,bz ff];simp
   rw[e7];refine hk _ _ (.inr ⟨b,G,by simp,h1,h2,T.au _ _ _,by simp;omega⟩) (Nat.le_refl _) rfl ?_ ?_ ?_
   .intro c hc hne;refine T.ax _ _ ?_;rintro rfl;exact hne _ h3
   .intro c hc hne;refine T.ax _ _ ?_;rintro rfl;exact hne _ _ rfl
   .intro c n cap hc e;injection e with e;injection e with e;injection e with e
    subst e;exact⟨_,_,rfl⟩
theorem Qo(bp:Nat)(F:List Int)(ls:Value)(x:Int)(h:af)(V:KQ)(f:gj h bp F ls)(hlen:F.length<=10000)(hlo:h.lo<=h.nx)(hls:∃a n c,ls=.slice a n c)(hk:∀h' F',gj h' bp F' ls->F'.Perm (F++[x])->(HP F->HP F')->zk bp h h'->V (.tuple ⟨[]⟩) h'):aj prog 206 [T1 bp,.iface 3 (YYY x)] h V:=by
 obtain⟨la,ln,lc,rfl⟩:=hls;apply YYZ;rw[YO];simp(disch:=try exact Y)only[Wz,T2];apply YYZ;rw[ZY];obtain⟨fs,hg,hpt⟩:=f.cell;have hfs:∃a n c,fs=.slice a n c:=by
  rcases hpt with⟨_,rfl⟩|⟨b,G,rfl,_⟩<;>exact⟨_,_,_,rfl⟩
 have hbp:=f.lt;have aoy:=f.lo;simp(disch:=try exact Y)only[Wz,eT,Gh,aN,hg];have hle1:=(Le.refl h).new (ai [YYY x] 3 false);obtain⟨hA,eA⟩:∃hA:af,hA=⟨h.nx+1,h.bl.bq h.nx (ai [YYY x] 3 false),h.lo⟩:=⟨_,rfl⟩
 rw[<-eA]at hle1 ⊢;have nA:hA.nx=h.nx+1:=by rw[eA]
 have lA:hA.lo=h.lo:=by rw[eA]
 have gA:hA.bl.get h.nx=some (ai [YYY x] 3 false):=by rw[eA];exact T.au _ _ _
 have gbp:=(hle1.get bp hbp).trans hg;have ajF:oU hA fs F:=by
  rcases hpt with e|⟨b,G,e,h1,h2,h3,h4⟩
  .exact .inl e
  .exact .inr ⟨b,G,e,XQ,XQ,(hle1.get b h1).trans h3,h4⟩
 refine Gs ajF XQ gA XQ XQ _ ?_;intro v' h2 hp2 n2 l2 hs2 TT hv3;have g2:=(hs2 bp XQ (λvs=>by rw[gbp];exact bC)).trans gbp;have vD:∃a n c,v'=.slice a n c:=by
  rcases hp2 with⟨_,rfl⟩|⟨b,G,rfl,_⟩<;>exact⟨_,_,_,rfl⟩
 obtain⟨va,vn,vc,rfl⟩:=vD;simp(disch:=try exact Y)only[Wz,g2];obtain⟨hB,eB⟩:∃hB:af,hB=⟨h2.nx,h2.bl.bq bp (ai [.slice va vn vc,.slice la ln lc] 286 false),h2.lo⟩:=⟨_,rfl⟩
 rw[<-eB];have nB:hB.nx=h2.nx:=by rw[eB]
 have lB:hB.lo=h2.lo:=by rw[eB]
 have gB:hB.bl.get bp=some (ai [.slice va vn vc,.slice la ln lc] 286 false):=by rw[eB];exact T.au _ _ _
 have hpB:oU hB (.slice va vn vc) (F++[x]):=by
  rcases hp2 with e|⟨b,G,e,h1,h2',h3,h4⟩
  .exact .inl e
  .refine .inr ⟨b,G,e,XQ,XQ,?_,h4⟩;rw[eB];exact(T.ax _ _ (by rintro rfl;rw[g2]at h3;exact bC h3)).trans h3
 have fB:gj hB bp (F++[x]) (.slice la ln lc):=⟨XQ,XQ,_,gB,hpB⟩
 have frB:zk bp h hB:=by
  refine⟨XQ,XQ,λc hc hn hi=>?_,λ_ c hc hn hi=>?_,λ_ c hc hx=>?_⟩
  .have e1:hA.bl.get c=h.bl.get c:=hle1.get c hc;rw[eB];exact(T.ax _ _ (λe=>hn e.symm)).trans ((hs2 c XQ (λvs=>by rw[e1];exact hi vs)).trans e1)
  .have e1:hA.bl.get c=h.bl.get c:=hle1.get c hc;rw[eB];exact(T.ax _ _ (λe=>hn e.symm)).trans ((TT c XQ (λn cap e=>hi ⟨n,cap,_,e▸hg⟩)).trans e1)
  .obtain⟨n,cap,ls',hx⟩:=hx;rw[gB]at hx;obtain⟨n',cap',e⟩:=hv3 c n cap XQ (mL hx);exact⟨n',cap',_,e▸hg⟩
 simp(disch:=try exact Y)only[Wz,Qj,gB];refine tJ (F++[x]) hB _ _ hpB ?_;have el:(((F++[x]).length:Nat):Int)-1=(F.length:Int):=by simp
 have el2:(F++[x]).length=F.length+1:=by simp
 simp(disch:=try exact Y)only[Wz,el];refine ajB bp (F++[x]) _ F.length hB _ fB XQ XQ ?_;intro h3 F' f3 On hu3 fr3;exact hk h3 F' f3 On (λu=>hu3 (HP.push u x)) (frB.trans fr3)
theorem aeW(bp:Nat)(F:List Int)(ls:Value)(h:af)(V:KQ)(f:gj h bp F ls)(h0:F≠[])(hlen:F.length<=10000)(hlo:h.lo<=h.nx)(hls:∃a n c,ls=.slice a n c)(hk:∀h' F' x,gj h' bp F' ls->(x::F').Perm F->(HP F->HP F'/\∀y∈F',x<=y)->zk bp h h'->V (.iface 3 (YYY x)) h'):aj prog 161 [T1 bp] h V:=by
 obtain⟨la,ln,lc,rfl⟩:=hls;have hpos:0<F.length:=List.length_pos_iff.2 h0;apply YYZ;rw[Yq];obtain⟨fs,hg,hpt⟩:=f.cell;simp(disch:=try exact Y)only[Wz,Qj,hg];refine tJ F h _ _ hpt ?_;have el:((F.length:Nat):Int)-1=((F.length-1:Nat):Int):=by omega
 simp(disch:=try exact Y)only[Wz,el,C4,hg];refine u9 F 0 (F.length-1) h _ _ hpt hpos XQ ?_;intro h1 q1 q2 q3 q4 q5;have f1:=f.same q1 q2 hg q3 q4;have Dx:=r9 (F:=F) (i:=0) (j:=F.length-1) hpos XQ;have pE:=Dx.length_eq;refine Z8 bp (nV F 0 (F.length-1)) _ 0 (F.length-1) h1 _ f1 XQ XQ XQ ?_;intro r h2 F2 f2 hp2 ht2 hd2 AN;have oS:=hp2.length_eq;obtain⟨fs2,hg2,T4⟩:=f2.cell;have hbp:=f2.lt;have hlb:=f2.lo;simp(disch:=try exact Y)only[Wz,Z6];apply YYZ;rw[ZX];simp(disch:=try exact Y)only[Wz,aN,hg2];refine tJ F2 h2 _ _ T4 ?_;have el2:((F2.length:Nat):Int)-1=((F2.length-1:Nat):Int):=by omega
 rcases T4 with⟨e,_⟩|⟨b,G,rfl,k1,k2,k3,k4⟩
 .rw[e]at oS;simp at oS;omega
 obtain⟨x,hx⟩:∃x,F2[F2.length-1]? = some x:=⟨_,List.getElem?_eq_getElem XQ⟩
 have hr:=p_ (G:=G) hx;have hfl:=bz (enc:=eN) ff (F2++G);have hl3:(F2++G).length=F2.length+G.length:=List.length_append;simp(disch:=try exact Y)only[Wz,el2,hg2,bt,k3,hr,Nat.mul_one,yl (n:=(F2++G).length) (i:=F2.length-1) (Nat.succ_pos 0) k3 (by rw[hfl]) XQ XQ];have hne:b≠bp:=by rintro rfl;rw[hg2]at k3;exact bC k3
 have eF:F2=F2.take (F2.length-1)++[x]:=by
  conv=>lhs;rw[<-List.take_append_drop (F2.length-1) F2]
  congr 1
  have hlt:F2.length-1<F2.length:=by omega
  rw[List.drop_eq_getElem_cons hlt,List.drop_of_length_le XQ];rw[List.getElem?_eq_getElem hlt]at hx;cases hx;rfl
 refine hk ⟨h2.nx,h2.bl.bq bp (ai [YYX b (F2.length-1) aW,.slice la ln lc] 286 false),h2.lo⟩ (F2.take (F2.length-1)) x ⟨hbp,hlb,_,T.au _ _ _,.inr ⟨b,x::G,by simp,k1,k2,?_,by simp;omega⟩⟩ ?_ ?_ ?_
 .rw[show F2.take (F2.length-1)++x::G=F2++G by conv=>rhs;rw[eF];simp];exact(T.ax _ _ (λe=>hne e.symm)).trans k3
 .refine List.Perm.trans ?_ (hp2.trans Dx)
  conv=>rhs;rw[eF]
  exact(List.perm_append_singleton x _).symm
 ·intro u;refine⟨HN.take (by rw[oS,pE];exact hd2 (HP.pop u hpos)) XQ,λy hy=>?_⟩;have hyF:y∈F:=by
   refine(hp2.trans Dx).mem_iff.1 ?_;rw[eF];exact List.mem_append_left _ hy
  obtain⟨k,dB,rfl⟩:=List.getElem_of_mem hyF;have Xe:x=F.getD 0 0:=by
   have e1:=ht2 (F.length-1) (Nat.le_refl _);rw[oS,pE,e1,List.getElem?_eq_getElem XQ]at hx;have e2:=tL (F:=F) (i:=0) (j:=F.length-1) hpos XQ (F.length-1);rw[if_pos rfl,gD XQ]at e2;rw[<-e2];exact(Option.some.inj hx).symm
  rw[Xe,<-gD dB];exact HP.least u _ k (Nat.lt_succ_self _) dB
 .refine zk.trans (zk.trans (.swap hg q1 q2 q4 q5) AN) ⟨Nat.le_refl _,rfl,λc _ hn _=>T.ax _ _ (λe=>hn e.symm),λ_ c _ hn _=>T.ax _ _ (λe=>hn e.symm),λ_ c _ hx=>?_⟩;obtain⟨n,cap,ls',hx⟩:=hx;have e:=mL ((T.au _ _ _).symm.trans hx);injection e with e;injection e with e;injection e with e
  subst e;exact⟨_,_,_,hg2⟩
structure kz(F:List Int)(B:List Bool):Prop where
 nodup:F.Nodup
 mem:∀n:Nat,(n:Int)∈F<->B[n]? = some false
 pos:∀x∈F,0<=x
 hp:HP F
structure dZ(h:af)(bp bl:Nat)(F:List Int)(B:List Bool):Prop where
 fr:gj h bp F (YYX bl B.length B.length)
 lt:bl<h.nx
 lo:h.lo<=bl
 cell:h.bl.get bl=some (ai (B.map Value.bool) 4 false)
 ok:kz F B
 small:B.length<=128
theorem kz.take{F F':List Int}{B:List Bool}{x:Int}(o:kz F B)(hp:(x::F').Perm F)(hu:HP F->HP F'/\∀y∈F',x<=y):∃n:Nat,x=(n:Int)/\n<B.length/\B[n]? = some false/\(∀k,k<n->B[k]? = some true)/\kz F' (B.set n true):=by
 have hx:x∈F:=hp.mem_iff.1 (.head _);obtain⟨n,rfl⟩:∃n:Nat,x=(n:Int):=⟨x.toNat,by have:=o.pos x hx;omega⟩
 have hb:=(o.mem n).1 hx;have hn:n<B.length:=(List.getElem?_eq_some_iff.1 hb).1;have hnd:((n:Int)::F').Nodup:=(hp.nodup_iff).2 o.nodup;rw[List.nodup_cons]at hnd;obtain⟨Oc,W9⟩:=hu o.hp;have Z9:∀k,k<n->B[k]? = some true:=by
  intro k hk;have hkl:k<B.length:=by omega
  rw[List.getElem?_eq_getElem hkl];cases hbk:B[k]with
  |true=>rfl
  |false=>
   have T6:(k:Int)∈F:=(o.mem k).2 (by rw[List.getElem?_eq_getElem hkl,hbk]);rcases List.mem_cons.1 (hp.mem_iff.2 T6)with h|h
   .omega
   .have:=W9 _ h;omega
 refine⟨n,rfl,hn,hb,Z9,hnd.2,λk=>?_,λy hy=>o.pos y (hp.mem_iff.1 (.tail _ hy)),Oc⟩;rw[List.getElem?_set];by_cases hk:n=k
 .subst hk;rw[if_pos rfl,if_pos hn];simp[hnd.1]
 .rw[if_neg hk,<-o.mem k,<-hp.mem_iff,List.mem_cons];constructor
  .exact λh=>.inr h
  .rintro(h|h)
   .omega
   .exact h
theorem kz.ajH{F F':List Int}{B:List Bool}{n:Nat}(o:kz F B)(hb:B[n]? = some true)(hp:F'.Perm (F++[(n:Int)]))(hu:HP F->HP F'):kz F' (B.set n false):=by
 have hn:n<B.length:=(List.getElem?_eq_some_iff.1 hb).1;have hno:(n:Int)∉F:=λh=>by have:=(o.mem n).1 h;rw[hb]at this;cases this
 refine⟨(hp.nodup_iff).2 ?_,λk=>?_,λy hy=>?_,hu o.hp⟩
 .rw[List.nodup_append];refine⟨o.nodup,by simp,λa ha b hb'=>?_⟩;rw[List.mem_singleton]at hb';subst hb';rintro rfl;exact hno ha
 .rw[hp.mem_iff,List.mem_append,List.mem_singleton,List.getElem?_set];by_cases hk:n=k
  .subst hk;rw[if_pos rfl,if_pos hn];simp
  .rw[if_neg hk,<-o.mem k];constructor
   .rintro(h|h)
    .exact h
    .omega
   .exact λh=>.inl h
 .rcases List.mem_append.1 (hp.mem_iff.1 hy)with h|h
  .exact o.pos y h
  .rw[List.mem_singleton]at h;omega
theorem Wm(h:af)(b o:Nat):mQ prog h 100 191 (.pointer (some ⟨b,o,none⟩)) (.pointer none)=some false:=by kernel_rfl
theorem C5{β:Type}{fl:β}(cn:Bool)(b o:Nat)(h:af)(V:UV β):aF fl prog .eql 191 cn false (.pointer (some ⟨b,o,none⟩)) (.pointer none) h V=V (.bool false) h:=by simp only[aF,Wm,bX]
theorem C6{β:Type}{fl:β}(cn:Bool)(b o:Nat)(h:af)(V:UV β):aF fl prog .neq 191 cn false (.pointer (some ⟨b,o,none⟩)) (.pointer none) h V=V (.bool true) h:=by simp only[aF,Wm,bX,Bool.not_false]
theorem Wn(bp bl:Nat)(F:List Int)(B:List Bool)(i:Int)(h:af)(V:KQ)(p:dZ h bp bl F B)(hk:V (.bool (decide (0<=i) && (B[i.toNat]?).getD false)) h):aj prog 342 [YYQ bp,YYY i] h V:=by
 apply YYZ;rw[Zs];obtain⟨fs,hg,hpt⟩:=p.fr.cell;by_cases h0:0<=i
 .obtain⟨n,rfl⟩:∃n:Nat,i=(n:Int):=⟨i.toNat,XQ⟩
  rw[bx h0,Bool.true_and,Int.toNat_natCast]at hk;by_cases h1:n<B.length
  .have hr:(B.map Value.bool)[n]? = some (.bool B[n]):=by rw[List.getElem?_map,List.getElem?_eq_getElem h1];rfl
   rw[List.getElem?_eq_getElem h1]at hk;simp(disch:=try exact Y)only[Wz,C6,aN,hg,dF h0,fm (show(n:Int)<(B.length:Int)by omega),bt,p.cell,hr,Nat.mul_one];exact hk
  .rw[List.getElem?_eq_none XQ]at hk;simp(disch:=try exact Y)only[Wz,C6,aN,hg,dF h0,dF (show(B.length:Int)<=(n:Int)by omega)];exact hk
 .rw[aZ h0,Bool.false_and]at hk;simp(disch:=try exact Y)only[Wz,C6,aN,hg,fm (show i<0 by omega)];exact hk
structure Ld(bp bl:Nat)(h h':af):Prop where
 nx:h.nx<=h'.nx
 lo:h'.lo=h.lo
 get:∀c,c<h.nx->c≠bp->c≠bl->(∀vs,h.bl.get c≠some (ai vs 3 true))->h'.bl.get c=h.bl.get c
 g2:bp<h.nx->∀c,c<h.nx->c≠bp->c≠bl->¬FB h bp c->h'.bl.get c=h.bl.get c
 mv:bp<h.nx->∀c,c<h.nx->FB h' bp c->FB h bp c
theorem Ld.trans{bp bl:Nat}{h h' h'':af}(a:Ld bp bl h h')(b:Ld bp bl h' h''):Ld bp bl h h'':=
 ⟨Nat.le_trans a.nx b.nx,b.lo.trans a.lo,λc hc hn hl hi=>(b.get c (Nat.lt_of_lt_of_le hc a.nx) hn hl (λvs=>by rw[a.get c hc hn hl hi];exact hi vs)).trans (a.get c hc hn hl hi),
  λhb c hc hn hl hi=>(b.g2 (Nat.lt_of_lt_of_le hb a.nx) c (Nat.lt_of_lt_of_le hc a.nx) hn hl λx=>hi (a.mv hb c hc x)).trans (a.g2 hb c hc hn hl hi),
  λhb c hc x=>a.mv hb c hc (b.mv (Nat.lt_of_lt_of_le hb a.nx) c (Nat.lt_of_lt_of_le hc a.nx) x)⟩
theorem Ld.aeX{bp bl:Nat}{h h':af}(f:zk bp h h'):Ld bp bl h h':=⟨f.nx,f.lo,λc hc hn _ hi=>f.get c hc hn hi,λhb c hc hn _ hi=>f.g2 hb c hc hn hi,f.mv⟩
theorem zn(B:List Bool)(n:Nat)(b:Bool):over (B.map Value.bool) n [.bool b]=(if n<B.length then(B.set n b).map Value.bool else over (B.map Value.bool) n [.bool b]):=by
 split
 .rename_i h;rw[List.map_set];unfold over;rw[List.set_eq_take_append_cons_drop,if_pos (by simpa using h)];simp
 .rfl
theorem Bx{B:List Bool}{n:Nat}{b:Bool}(h:n<B.length):over (B.map Value.bool) n [.bool b]=(B.set n b).map Value.bool:=by
 rw[zn,if_pos h]
theorem Z_(bp bl:Nat)(F:List Int)(B:List Bool)(h:af)(V:KQ)(p:dZ h bp bl F B)(hF:F.length<=1000)(hlo:h.lo<=h.nx)(hne:bp≠bl)(k_:F=[]->V (.tuple ⟨[YYY 0,YYY 8]⟩) h)(dB:∀h' F' (n:Nat),dZ h' bp bl F' (B.set n true)->((n:Int)::F').Perm F->B[n]? = some false->(∀k,k<n->B[k]? = some true)->Ld bp bl h h'->V (.tuple ⟨[YYY (n:Int),YYY 0]⟩) h'):aj prog 396 [YYQ bp] h V:=by
 apply YYZ;rw[ZH];obtain⟨fs,hg,hpt⟩:=p.fr.cell;simp(disch:=try exact Y)only[Wz,C5,F8,aN,hg];refine tJ F h _ _ hpt ?_;by_cases h0:F=[]
 .simp(disch:=try exact Y)only[Wz,bx (show(F.length:Int)=0 by simp[h0])];exact k_ h0
 have hpos:0<F.length:=List.length_pos_iff.2 h0;simp(disch:=try exact Y)only[Wz,aZ (show ¬(F.length:Int)=0 by omega),F7,aN];refine aeW bp F _ h _ p.fr h0 XQ hlo ⟨_,_,_,rfl⟩ ?_;intro h2 F' x f2 hp2 W9 AN;obtain⟨n,rfl,hn,hb,aaa,ho⟩:=p.ok.take hp2 W9;obtain⟨fs2,hg2,T4⟩:=f2.cell;have hbl:=p.lt;have ajI:=p.lo;have n2:=AN.nx;have l2:=AN.lo;have hlm:(B.map Value.bool).length=B.length:=by simp
 have gl:=(AN.get bl hbl (λe=>hne e.symm) (λvs=>by rw[p.cell];exact bC)).trans p.cell;simp(disch:=try exact Y)only[Wz,eT,aN,hg2,bt,gl,Nat.mul_one,Bx hn];refine dB ⟨h2.nx,h2.bl.bq bl (ai ((B.set n true).map Value.bool) 4 false),h2.lo⟩ F' n ⟨⟨f2.lt,f2.lo,fs2,?_,?_⟩,by show bl<h2.nx;omega,by show h2.lo<=bl;omega,T.au _ _ _,ho,by rw[List.length_set];exact p.small⟩ hp2 hb aaa ?_
 .rw[List.length_set];exact(T.ax _ _ (λe=>hne e.symm)).trans hg2
 .rcases T4 with e|⟨b,G,e,k1,k2,k3,k4⟩
  .exact .inl e
  .exact .inr ⟨b,G,e,k1,k2,(T.ax _ _ (by rintro rfl;rw[gl]at k3;exact bC k3)).trans k3,k4⟩
 .exact(Ld.aeX AN).trans ⟨Nat.le_refl _,rfl,λc _ _ hn _=>T.ax _ _ (λe=>hn e.symm),λ_ c _ _ hn _=>T.ax _ _ (λe=>hn e.symm),λ_ c _ hx=>(FB.congr (T.ax _ _ (λe=>hne e.symm))).1 hx⟩
theorem aab(bp bl:Nat)(F:List Int)(B:List Bool)(n:Nat)(h:af)(V:KQ)(p:dZ h bp bl F B)(hF:F.length<=1000)(hlo:h.lo<=h.nx)(hne:bp≠bl)(hb:B[n]? = some true)(hk:∀h' F',dZ h' bp bl F' (B.set n false)->F'.Perm (F++[(n:Int)])->Ld bp bl h h'->V (YYY 0) h'):aj prog 346 [YYQ bp,YYY (n:Int)] h V:=by
 apply YYZ;rw[Zu];have hn:n<B.length:=(List.getElem?_eq_some_iff.1 hb).1;have hlm:(B.map Value.bool).length=B.length:=by simp
 obtain⟨fs,hg,hpt⟩:=p.fr.cell;simp(disch:=try exact Y)only[Wz,C5];refine Wn bp bl F B (n:Int) h _ p ?_;have eh:(decide ((0:Int)<=(n:Int)) && (B[((n:Int)).toNat]?).getD false)=true:=by
  rw[bx XQ,Int.toNat_natCast,hb];rfl
 rw[eh];have hbl:=p.lt;have ajI:=p.lo;simp(disch:=try exact Y)only[Wz,FQ,aN,hg,bt,p.cell,Nat.mul_one,Bx hn];obtain⟨hA,eA⟩:∃hA:af,hA=⟨h.nx,h.bl.bq bl (ai ((B.set n false).map Value.bool) 4 false),h.lo⟩:=⟨_,rfl⟩
 rw[<-eA];have nA:hA.nx=h.nx:=by rw[eA]
 have lA:hA.lo=h.lo:=by rw[eA]
 have gbl:hA.bl.get bl=some (ai ((B.set n false).map Value.bool) 4 false):=by rw[eA];exact T.au _ _ _
 have fA:gj hA bp F (YYX bl B.length B.length):=by
  refine⟨by rw[nA];exact p.fr.lt,by rw[lA];exact p.fr.lo,fs,by rw[eA];exact(T.ax _ _ (λe=>hne e.symm)).trans hg,?_⟩;rcases hpt with e|⟨b,G,e,k1,k2,k3,k4⟩
  .exact .inl e
  .refine .inr ⟨b,G,e,XQ,XQ,?_,k4⟩;rw[eA];exact(T.ax _ _ (by rintro rfl;rw[p.cell]at k3;exact bC k3)).trans k3
 have Dw:Ld bp bl h hA:=⟨XQ,lA,λc _ _ hn _=>by rw[eA];exact T.ax _ _ (λe=>hn e.symm),λ_ c _ _ hn _=>by rw[eA];exact T.ax _ _ (λe=>hn e.symm),λ_ c _ hx=>(FB.congr (by rw[eA];exact T.ax _ _ (λe=>hne e.symm))).1 hx⟩
 refine Qo bp F _ (n:Int) hA _ fA XQ XQ ⟨_,_,_,rfl⟩ ?_;intro h3 F' f3 On hu3 fr3;have n3:=fr3.nx;have l3:=fr3.lo;refine hk h3 F' ⟨by rw[List.length_set];exact f3,XQ,XQ,?_,p.ok.ajH hb On hu3,by rw[List.length_set];exact p.small⟩ On (Dw.trans (Ld.aeX fr3));exact(fr3.get bl XQ (λe=>hne e.symm) (λvs=>by rw[gbl];exact bC)).trans gbl
theorem vX(n:Nat):a_ [Value.bool false] n=(List.replicate n false).map Value.bool:=by
 induction n with
 |zero=>rfl
 |succ n ih=>rw[List.replicate_succ,List.map_cons,<-ih];rfl
theorem kz.new(most:Nat){F:List Int}(hp:F.Perm ((List.range most).map λn:Nat=>(n:Int)))(hu:HP F):kz F (List.replicate most false):=by
 refine⟨(hp.nodup_iff).2 ?_,λn=>?_,λx hx=>?_,hu⟩
 .rw[List.Nodup,List.pairwise_map];exact List.nodup_range.imp λhne e=>hne (Int.ofNat.inj e)
 .rw[hp.mem_iff,List.mem_map,List.getElem?_replicate];constructor
  .rintro⟨a,ha,e⟩;have:a=n:=Int.ofNat.inj e;subst this;rw[if_pos (List.mem_range.1 ha)]
  .intro h;by_cases hn:n<most
   .exact⟨n,List.mem_range.2 hn,rfl⟩
   .rw[if_neg hn]at h;cases h
 .obtain⟨a,_,rfl⟩:=List.mem_map.1 (hp.mem_iff.1 hx);omega
theorem Mu(most:Nat)(h:af)(V:KQ)(hm:most<=128)(hlo:h.lo<=h.nx)(hk:∀bp bl h' F,dZ h' bp bl F (List.replicate most false)->bp≠bl->h.nx<=bp->h.nx<=bl->F.length=most->Le h h'->(∀x,FB h' bp x->h.nx<=x)->V (.tuple ⟨[YYQ bp,YYY 0]⟩) h'):aj prog 152 [YYY (most:Int)] h V:=by
 apply YYZ;rw[PT];simp(disch:=try exact Y)only[Wz,dF (show(0:Int)<=(most:Int)by omega),dF (show(most:Int)<=128 by omega)];have hrl:(a_ [Value.bool false] most).length=most:=by rw[vX];simp
 rw[CH _ _ _ _ _ XQ XQ,vX];simp(disch:=try exact Y)only[Wz];obtain⟨hA,bh,aU,gl,gp,eE,eG⟩:=L8 h (ai ((List.replicate most false).map Value.bool) 4 false) (ai [.slice none 0 0,YYX h.nx most most] 286 false);rw[<-bh];clear bh;refine⟨λm l h1=>∃(i:Nat)(F:List Int),ah l 11=YYY (i:Int)/\m=most-i/\i<=most/\gj h1 (h.nx+1) F (YYX h.nx most most)/\F.Perm ((List.range i).map λn:Nat=>(n:Int))/\HP F/\zk (h.nx+1) hA h1,⟨_,0,[],rfl,rfl,XQ,⟨XQ,XQ,_,gp,.inl ⟨rfl,rfl⟩⟩,List.Perm.refl _,λi h1 h2=>absurd h2 (Nat.not_lt_zero _),zk.refl _ _⟩,?_⟩;rintro m l h1 ⟨i,F1,s1,rfl,hi,f1,hp1,Oc,Lc⟩;have n1:=Lc.nx;have l1:=Lc.lo;have pE:F1.length=i:=by rw[hp1.length_eq];simp
 by_cases hst:i<most
 .simp(disch:=try exact Y)only[Wz,yO,s1,fm (show(i:Int)<(most:Int)by omega),aN];refine Qo (h.nx+1) F1 _ (i:Int) h1 _ f1 XQ XQ ⟨_,_,_,rfl⟩ ?_;intro h2 F2 f2 hp2 W9 AN;refine⟨_,?_,i+1,F2,rfl,rfl,XQ,f2,?_,W9 Oc,Lc.trans AN⟩
  .omega
  .rw[List.range_succ,List.map_append];exact hp2.trans (hp1.append_right _)
 .have hie:i=most:=by omega
  subst hie;simp(disch:=try exact Y)only[Wz,yO,s1,dF (show(i:Int)<=(i:Int)by omega)];refine hk (h.nx+1) h.nx h1 F1 ⟨by rw[List.length_replicate];exact f1,XQ,XQ,?_,kz.new _ hp1 Oc,by rw[List.length_replicate];exact hm⟩ XQ XQ XQ pE ⟨XQ,XQ,λc hc=>?_⟩ λx hx=>?_
  .exact(Lc.get h.nx XQ XQ (λvs=>by rw[gl];exact bC)).trans gl
  .refine(Lc.g2 XQ c XQ XQ ?_).trans (aU.get c hc);rintro⟨n,cap,ls,hx⟩;have:=mL (gp.symm.trans hx);cases this
  .rcases Nat.lt_or_ge x h.nx with hlt|hge
   .obtain⟨n,cap,ls,hx⟩:=Lc.mv XQ x XQ hx;have:=mL (gp.symm.trans hx);cases this
   .exact hge
structure HE where
 t:Int
 r:Int
 hb:Nat
 born:Nat
 q:Value
 w:Int
 Q:List R5
def lW(e:HE):MapEntry:={ key:=cQ e.t e.r,val:=YYQ e.hb,born:=e.born }
def u_(t r:Int)(e:HE):Bool:=decide (t=e.t/\r=e.r)
theorem rC{t r:Int}{x:HE}:(!u_ t r x)=true<->¬(t=x.t/\r=x.r):=by unfold u_;rw[Bool.not_eq_true',decide_eq_false_iff_not]
structure fU(M:List HE)(clock:Nat):Prop where
 nm:M.Pairwise λa b=>¬(a.t=b.t/\a.r=b.r)
 bn:M.Pairwise λa b=>a.born≠b.born
 lt:∀e∈M,e.born<clock
theorem ajK(h:af)(a b c d:Int):mQ prog h 100 28 (.agg ⟨[YYY a,YYY b]⟩) (.agg ⟨[YYY c,YYY d]⟩) =
  (match(some (sE a c))with|some true=>(match some (sE b d)with|some true=>some true|r=>r)|r=>r):=by kernel_rfl
theorem eqN(h:af)(a b c d:Int):mQ prog h 100 28 (cQ a b) (cQ c d)=some (decide (a=c/\b=d)):=by
 unfold cQ;rw[ajK,gH,gH];by_cases h1:a=c<;>by_cases h2:b=d<;>simp[h1,h2]
theorem Qp(t r:Int):jQ prog 20 28 (cQ t r)=true:=by kernel_rfl
theorem ajL(t r:Int):ki 3 (cQ t r) (cQ t r)=true:=by unfold ki;exact uT 1 [t,r]
theorem nJ(x:MapEntry):∀(l:List MapEntry)(V:List MapEntry->Prop),AY x l V=V (l++[x]):=by
 intro l
 induction l with
 |nil=>intro V;rfl
 |cons a l ih=>intro V;exact ih _
theorem nK(f:MapEntry->MapEntry):∀(l:List MapEntry)(j:Nat)(e:MapEntry)(V:List MapEntry->Prop),l[j]? = some e->setAt f j l V=V (l.set j (f e)):=by
 intro l
 induction l with
 |nil=>intro j e V h;simp at h
 |cons a l ih=>
  intro j e V h;cases j with
  |zero=>rw[List.getElem?_cons_zero]at h;cases h;rfl
  |succ j=>rw[List.getElem?_cons_succ]at h;exact ih j e _ h
theorem xV:∀(l:List MapEntry)(j:Nat)(V:List MapEntry->Prop),AZ j l V=V (l.eraseIdx j):=by
 intro l
 induction l with
 |nil=>intro j V;cases j<;>rfl
 |cons a l ih=>
  intro j V;cases j with
  |zero=>rfl
  |succ j=>exact ih j _
theorem Gt(h:af)(t r:Int):∀(M:List HE)(i:Nat),(gF prog h 28 (cQ t r) (M.map lW) i=some none/\∀e∈M,¬(t=e.t/\r=e.r))\/
  ∃(j:Nat)(e:HE),gF prog h 28 (cQ t r) (M.map lW) i=some (some (i+j,lW e))/\M[j]? = some e/\t=e.t/\r=e.r:=by
 intro M
 induction M with
 |nil=>intro i;exact .inl ⟨rfl,λe he=>nomatch he⟩
 |cons e M ih=>
  intro i;have hf:gF prog h 28 (cQ t r) ((e::M).map lW) i=(match(some (decide (t=e.t/\r=e.r)):Option Bool)with|some true=>some (some (i,lW e))|some false=>gF prog h 28 (cQ t r) (M.map lW) (Nat.succ i)|none=>none):=by
   rw[<-eqN h];rfl
  rw[hf];by_cases h1:t=e.t/\r=e.r
  .rw[bx h1];exact .inr ⟨0,e,rfl,rfl,h1.1,h1.2⟩
  .rw[aZ h1];rcases ih (Nat.succ i)with⟨g1,g2⟩|⟨j,e',g1,g2,g3,g4⟩
   .exact .inl ⟨g1,λx hx=>by rcases List.mem_cons.1 hx with rfl|hx;exact h1;exact g2 x hx⟩
   .exact .inr ⟨j+1,e',by rw[show i+(j+1)=Nat.succ i+j by omega];exact g1,g2,g3,g4⟩
theorem By{β:Type}{fl:β}{M:List HE}{clock:Nat}{h:af}{bm:Nat}(g:h.bl.get bm=some (.map (M.map lW) clock))(t r:Int)(hn:∀e∈M,¬(t=e.t/\r=e.r))(V:UV β):dG fl prog 28 (.pointer none) true (.map (some bm)) (cQ t r) h V=V (.tuple ⟨[.pointer none,.bool false]⟩) h:=by
 unfold dG jJ;rw[Qp];simp only[g];rcases Gt h t r M 0 with⟨g1,_⟩|⟨j,e,_,g2,g3,g4⟩
 .rw[g1]
 .exact absurd (And.intro g3 g4) (hn e (List.mem_of_getElem? g2))
theorem fU.uniq{M:List HE}{clock:Nat}(o:fU M clock){e e':HE}(h:e∈M)(h':e'∈M)(ht:e.t=e'.t)(hr:e.r=e'.r):e=e':=by
 have:∀(L:List HE),(L.Pairwise λa b=>¬(a.t=b.t/\a.r=b.r))->e∈L->e'∈L->e=e':=by
  intro L
  induction L with
  |nil=>intro _ h;nomatch h
  |cons a L ih=>
   intro hp h1 h2;rw[List.pairwise_cons]at hp;rcases List.mem_cons.1 h1 with rfl|k1<;>rcases List.mem_cons.1 h2 with rfl|k2
   .rfl
   .exact absurd ⟨ht,hr⟩ (hp.1 _ k2)
   .exact absurd ⟨ht.symm,hr.symm⟩ (hp.1 _ k1)
   .exact ih hp.2 k1 k2
 exact this M o.nm h h'
theorem Gu{β:Type}{fl:β}{M:List HE}{clock:Nat}{h:af}{bm:Nat}(o:fU M clock)(g:h.bl.get bm=some (.map (M.map lW) clock)){e:HE}(he:e∈M)(V:UV β):dG fl prog 28 (.pointer none) true (.map (some bm)) (cQ e.t e.r) h V=V (.tuple ⟨[YYQ e.hb,.bool true]⟩) h:=by
 unfold dG jJ;rw[Qp];simp only[g];rcases Gt h e.t e.r M 0 with⟨g1,g2⟩|⟨j,e',g1,g2,g3,g4⟩
 .exact absurd ⟨rfl,rfl⟩ (g2 e he)
 .rw[g1];rw[o.uniq he (List.mem_of_getElem? g2) g3 g4];rfl
theorem erase_filter{M:List HE}(hn:M.Pairwise λa b=>¬(a.t=b.t/\a.r=b.r)){j:Nat}{e:HE}(hj:M[j]? = some e):M.eraseIdx j=M.filter λx=>!u_ e.t e.r x:=by
 induction M generalizing j with
 |nil=>simp at hj
 |cons a M ih=>
  rw[List.pairwise_cons]at hn;cases j with
  |zero=>
   rw[List.getElem?_cons_zero]at hj;cases hj;rw[List.eraseIdx_cons_zero,List.filter_cons_of_neg (by simp[u_])];exact(List.filter_eq_self.2 λx hx=>rC.2 (hn.1 x hx)).symm
  |succ j=>
   rw[List.getElem?_cons_succ]at hj;have:=hn.1 e (List.mem_of_getElem? hj);rw[List.eraseIdx_cons_succ,List.filter_cons_of_pos (p:=λx=>!u_ e.t e.r x) (rC.2 λ⟨h1,h2⟩=>this ⟨h1.symm,h2.symm⟩),ih hn.2 hj]
theorem Lf{α:Type}{R:α->α->Prop}(hs:∀{a b},R a b->R b a){L L':List α}(hp:L.Perm L')(h:L.Pairwise R):L'.Pairwise R:=(hp.pairwise_iff hs).1 h
theorem fU.put{M M':List HE}{clock clock':Nat}(o:fU M clock)(hc:clock<=clock'){e:HE}(hp:M'.Perm (M.filter (λx=>!u_ e.t e.r x)++[e]))(hb:∀x∈M,¬(e.t=x.t/\e.r=x.r)->x.born≠e.born)(hlt:e.born<clock'):fU M' clock':=by
 have hm:∀x∈M.filter (λx=>!u_ e.t e.r x),x∈M/\¬(e.t=x.t/\e.r=x.r):=λx hx=>by
  rw[List.mem_filter]at hx;exact⟨hx.1,rC.1 hx.2⟩
 refine⟨Lf (λh=>λ⟨a,b⟩=>h ⟨a.symm,b.symm⟩) hp.symm (tj (o.nm.filter _) λx hx=>λ⟨a,b⟩=>(hm x hx).2 ⟨a.symm,b.symm⟩),Lf (λh=>h.symm) hp.symm (tj (o.bn.filter _) λx hx=>hb x (hm x hx).1 (hm x hx).2),λx hx=>?_⟩;rcases List.mem_append.1 (hp.mem_iff.1 hx)with h|h
 .exact Nat.lt_of_lt_of_le (o.lt x (hm x h).1) hc
 .rw[List.mem_singleton]at h;subst h;exact hlt
theorem aac{M:List HE}{clock:Nat}{h:af}{bm:Nat}(o:fU M clock)(g:h.bl.get bm=some (.map (M.map lW) clock))(hlo:h.lo<=bm)(t r:Int)(hb:Nat)(q:Value)(w:Int)(Q:List R5)(V:KQ)(hk:∀M' clock' born,fU M' clock'->M'.Perm (M.filter (λx=>!u_ t r x)++[⟨t,r,hb,born,q,w,Q⟩])->V undef ⟨h.nx,h.bl.bq bm (.map (M'.map lW) clock'),h.lo⟩):cM False prog 28 (.map (some bm)) (cQ t r) (YYQ hb) h V:=by
 unfold cM;rw[Qp];simp only[g];rcases Gt h t r M 0 with⟨g1,g2⟩|⟨j,e,g1,g2,g3,g4⟩
 ·rw[g1];simp only;rw[nJ];simp only[bY];rw[cg _ _ _ _ hlo];have Dx:(M++[(⟨t,r,hb,clock,q,w,Q⟩:HE)]).Perm (M.filter (λx=>!u_ t r x)++[⟨t,r,hb,clock,q,w,Q⟩]):=by
   rw[List.filter_eq_self.2 λx hx=>rC.2 (g2 x hx)]
  have:=hk (M++[⟨t,r,hb,clock,q,w,Q⟩]) (clock+1) clock (o.put (e:=⟨t,r,hb,clock,q,w,Q⟩) (Nat.le_succ _) Dx (λx hx _=>Nat.ne_of_lt (o.lt x hx)) (Nat.lt_succ_self _)) Dx;rw[List.map_append]at this;exact this
 ·rw[g1];simp only[lW,g3,g4,ajL];rw[Nat.zero_add,nK _ _ j (lW e) _ (by rw[List.getElem?_map,g2];rfl),cg _ _ _ _ hlo];subst g3 g4;have Dx:(M.set j (⟨e.t,e.r,hb,e.born,q,w,Q⟩:HE)).Perm (M.filter (λx=>!u_ e.t e.r x)++[⟨e.t,e.r,hb,e.born,q,w,Q⟩]):=by
   rw[<-erase_filter o.nm g2];obtain⟨hj,_⟩:=List.getElem?_eq_some_iff.1 g2;rw[List.set_eq_take_append_cons_drop,if_pos hj,List.eraseIdx_eq_take_drop_succ];exact(List.perm_middle).trans (List.perm_append_singleton _ _).symm
  have hne:∀x∈M,¬(e.t=x.t/\e.r=x.r)->x.born≠e.born:=λx hx hn Dy=>by
   have:∀(L:List HE),(L.Pairwise λa b=>a.born≠b.born)->e∈L->x∈L->e=x:=by
    intro L
    induction L with
    |nil=>intro _ h;nomatch h
    |cons a L ih=>
     intro hp h1 h2;rw[List.pairwise_cons]at hp;rcases List.mem_cons.1 h1 with rfl|k1<;>rcases List.mem_cons.1 h2 with rfl|k2
     .rfl
     .exact absurd Dy.symm (hp.1 _ k2)
     .exact absurd Dy (hp.1 _ k1)
     .exact ih hp.2 k1 k2
   have:=this M o.bn (List.mem_of_getElem? g2) hx;subst this;exact hn ⟨rfl,rfl⟩
  have:=hk (M.set j ⟨e.t,e.r,hb,e.born,q,w,Q⟩) clock e.born (o.put (e:=⟨e.t,e.r,hb,e.born,q,w,Q⟩) (Nat.le_refl _) Dx hne (o.lt e (List.mem_of_getElem? g2))) Dx;rw[List.map_set]at this;exact this
theorem Mv{α β:Type}(f:α->β):∀(l:List α)(j:Nat),(l.eraseIdx j).map f=(l.map f).eraseIdx j:=by
 intro l
 induction l with
 |nil=>intro j;rfl
 |cons a l ih=>
  intro j;cases j with
  |zero=>rfl
  |succ j=>simp[ih j]
theorem aad{M:List HE}{clock:Nat}{h:af}{bm:Nat}(o:fU M clock)(g:h.bl.get bm=some (.map (M.map lW) clock))(hlo:h.lo<=bm)(t r:Int)(V:KQ)(hk:∀h',h'=⟨h.nx,h.bl.bq bm (.map ((M.filter (λx=>!u_ t r x)).map lW) clock),h.lo⟩\/(h'=h/\M.filter (λx=>!u_ t r x)=M)->V (.tuple ⟨[]⟩) h'):mu False prog 28 (.map (some bm)) (cQ t r) h V:=by
 unfold mu;rw[Qp];simp only[g];rcases Gt h t r M 0 with⟨g1,g2⟩|⟨j,e,g1,g2,g3,g4⟩
 .rw[g1];exact hk h (.inr ⟨rfl,List.filter_eq_self.2 λx hx=>rC.2 (g2 x hx)⟩)
 .rw[g1];simp only;rw[Nat.zero_add,xV,cg _ _ _ _ hlo];subst g3 g4;refine hk _ (.inl ?_);rw[<-erase_filter o.nm g2,Mv]
theorem fU.filter{M:List HE}{clock:Nat}(o:fU M clock)(p:HE->Bool):fU (M.filter p) clock:=⟨o.nm.filter _,o.bn.filter _,λe he=>o.lt e (List.mem_filter.1 he).1⟩
def C7(M:List HE)(seen:List Nat):Nat:=M.countP λe=>!seen.any (Nat.beq e.born)
theorem Mw{α:Type}{p q:α->Bool}:∀(L:List α),(∀x∈L,q x=true->p x=true)->(∃x∈L,p x=true/\q x=false)->L.countP q<L.countP p:=by
 intro L
 induction L with
 |nil=>rintro _ ⟨x,hx,_⟩;nomatch hx
 |cons a L ih=>
  intro h hx;have hle:L.countP q<=L.countP p:=List.countP_mono_left λx hx=>h x (.tail _ hx);rw[List.countP_cons,List.countP_cons];by_cases ha:p a=true/\q a=false
  .rw[ha.1,ha.2];simp;omega
  ·have ht:∃x∈L,p x=true/\q x=false:=by
    obtain⟨x,hx,h1⟩:=hx;rcases List.mem_cons.1 hx with rfl|hx
    .exact absurd h1 ha
    .exact⟨x,hx,h1⟩
   have:=ih (λx hx=>h x (.tail _ hx)) ht;have ha2:=h a (.head _);cases hq:q a with
   |false=>simp;omega
   |true=>rw[ha2 hq];simp;omega
theorem ve{M:List HE}{seen:List Nat}{e:HE}(he:e∈M)(hn:seen.any (Nat.beq e.born)=false):C7 M (e.born::seen)<C7 M seen:=by
 refine Mw M (λx _ h=>?_) ⟨e,he,by rw[hn];rfl,by simp⟩;rw[List.any_cons,Bool.not_or,Bool.and_eq_true]at h;exact h.2
theorem IQ{b m since:Nat}{seen:List Nat}{clock:Nat}{h:af}{V:KQ}(hlo:h.lo<=b):∀(es:List MapEntry)(e:MapEntry),(∀x∈e::es,x.born<since)->(∀x∈e::es,V (.tuple ⟨[.bool true,x.key,x.val]⟩) ⟨h.nx,h.bl.bq b (.eo (some m) since (x.born::seen) clock),h.lo⟩)->mz False And b m since seen clock h V e es:=by
 intro es
 induction es with
 |nil=>
  intro e hb hk;unfold mz;rw[Nat.ble_eq_true_of_le (show Nat.succ e.born<=since from hb e (.head _))];simp only;rw[cg _ _ _ _ hlo];exact hk e (.head _)
 |cons a es ih=>
  intro e hb hk;unfold mz;rw[Nat.ble_eq_true_of_le (show Nat.succ e.born<=since from hb e (.head _))];simp only;rw[cg _ _ _ _ hlo];exact⟨hk e (.head _),ih a (λx hx=>hb x (.tail _ hx)) λx hx=>hk x (.tail _ hx)⟩
theorem Qq{M:List HE}{clock b bm:Nat}{seen:List Nat}{h:af}(o:fU M clock)(hb:h.bl.get b=some (.eo (some bm) clock seen clock))(g:h.bl.get bm=some (.map (M.map lW) clock))(hlo:h.lo<=b)(V:KQ)(k_:(∀e∈M,seen.any (Nat.beq e.born)=true)->V (.tuple ⟨[.bool false]⟩) h)(dB:∀e∈M,seen.any (Nat.beq e.born)=false->V (.tuple ⟨[.bool true,cQ e.t e.r,YYQ e.hb]⟩) ⟨h.nx,h.bl.bq b (.eo (some bm) clock (e.born::seen) clock),h.lo⟩):q7 False And (YYQ b) h V:=by
 unfold q7;simp only[hb,g];have e1:(!seen.isEmpty && !(M.map lW).isEmpty && (M.map lW).all (λe=>Nat.ble clock e.born))=false:=by
  cases M with
  |nil=>simp
  |cons e M=>
   have:Nat.ble clock (lW e).born=false:=by
    have:=o.lt e (.head _);cases hc:Nat.ble clock (lW e).born with
    |false=>rfl
    |true=>have:=Nat.le_of_ble_eq_true hc;simp only[lW]at this;omega
   rw[List.map_cons,List.all_cons,this];simp
 rw[e1];simp only;rw[List.filter_map];have hmem:∀x,x∈(M.filter ((λe:MapEntry=>!seen.any (Nat.beq e.born)) ∘ lW)).map lW->∃e∈M,seen.any (Nat.beq e.born)=false/\x=lW e:=by
  intro x hx;obtain⟨e,he,rfl⟩:=List.mem_map.1 hx;rw[List.mem_filter]at he;exact⟨e,he.1,by have:=he.2;simpa[lW]using this,rfl⟩
 split
 .rename_i hnil;refine k_ λe he=>?_;cases hs:seen.any (Nat.beq e.born)with
  |true=>rfl
  |false=>
   have:lW e∈(M.filter ((λe:MapEntry=>!seen.any (Nat.beq e.born)) ∘ lW)).map lW:=List.mem_map.2 ⟨e,List.mem_filter.2 ⟨he,by simp only[Function.comp,lW,hs];rfl⟩,rfl⟩;rw[hnil]at this
   nomatch this
 .rename_i e es heq;rw[heq]at hmem;refine IQ hlo es e (λx hx=>?_) λx hx=>?_
  .obtain⟨y,hy,_,rfl⟩:=hmem x hx;exact o.lt y hy
  .obtain⟨y,hy,h1,rfl⟩:=hmem x hx;exact dB y hy h1
theorem Lg{β:Type}{fl:β}{M:List HE}{clock b bm:Nat}{seen:List Nat}{h:af}(o:fU M clock){e:HE}(he:e∈M)(hb:h.bl.get b=some (.eo (some bm) clock (e.born::seen) clock))(g:h.bl.get bm=some (.map (M.map lW) clock))(V:UV β):ox fl (YYQ b) h V=V (.tuple ⟨[cQ e.t e.r,YYQ e.hb]⟩) h:=by
 unfold ox;simp only[hb,g];have e1:Nat.beq clock clock=true:=Nat.beq_refl _;rw[e1];simp only;have:(M.map lW).find? (λx=>Nat.beq x.born e.born)=some (lW e):=by
  have key:∀(L:List HE),(L.Pairwise λa b=>a.born≠b.born)->e∈L->(L.map lW).find? (λx=>Nat.beq x.born e.born)=some (lW e):=by
   intro L
   induction L with
   |nil=>intro _ h;nomatch h
   |cons a L ih=>
    intro hp h1;rw[List.pairwise_cons]at hp;rw[List.map_cons,List.find?_cons];rcases List.mem_cons.1 h1 with rfl|k1
    .have:Nat.beq (lW e).born e.born=true:=Nat.beq_refl _;rw[this]
    ·have:Nat.beq (lW a).born e.born=false:=by
      cases hc:Nat.beq (lW a).born e.born with
      |false=>rfl
      |true=>exact absurd (Nat.eq_of_beq_eq_true hc) (hp.1 e k1)
     rw[this];exact ih hp.2 k1
  exact key M o.bn he
 rw[this];rfl
theorem Gv{β:Type}{fl:β}{bm clock:Nat}{es:List MapEntry}{h:af}(g:h.bl.get bm=some (.map es clock))(V:UV β):ow fl (.map (some bm)) h V=V (YYQ h.nx) ⟨h.nx+1,h.bl.bq h.nx (.eo (some bm) clock [] clock),h.lo⟩:=by
 unfold ow;simp only[g,dN]
structure nh(h:af)(e:HE):Prop where
 lt:e.hb<h.nx
 get:h.bl.get e.hb=some (fM e.t e.r e.q e.w)
 qv:QV h e.q e.Q
structure Qr(e:HE):Prop where
 ne:e.Q≠[]
 vq:VQ e.Q e.w
 stuck:r5 e.Q
 small:e.Q.length<=128
structure bu(h:af)(bb bm bp bl:Nat)(most:Nat)(M:List HE)(clock:Nat)(F:List Int)(B:List Bool):Prop where
 SC:bb<h.nx
 xq:bm<h.nx
 T7:h.lo<=bm
 iE:h.bl.get bb=some (ai [YYY (most:Int),YYQ bp,.map (some bm)] 267 false)
 gP:h.bl.get bm=some (.map (M.map lW) clock)
 ok:fU M clock
 aY:∀e∈M,nh h e
 good:∀e∈M,Qr e
 aL:dZ h bp bl F B
 ne:bp≠bl
theorem nh.le{h h':af}{e:HE}(a:nh h e)(l:Le h h'):nh h' e:=⟨Nat.lt_of_lt_of_le a.lt l.nx,(l.get _ a.lt).trans a.get,a.qv.le l⟩
theorem dZ.le{h h':af}{bp bl:Nat}{F:List Int}{B:List Bool}(p:dZ h bp bl F B)(l:Le h h'):dZ h' bp bl F B:=by
 have ln:=l.nx;have ll:=l.lo;have pl:=p.lt;have fl:=p.fr.lt;obtain⟨fs,hg,hpt⟩:=p.fr.cell;refine⟨⟨XQ,by rw[ll];exact p.fr.lo,fs,(l.get _ fl).trans hg,?_⟩,XQ,by rw[ll];exact p.lo,(l.get _ pl).trans p.cell,p.ok,p.small⟩;rcases hpt with e|⟨b,G,e,k1,k2,k3,k4⟩
 .exact .inl e
 .exact .inr ⟨b,G,e,XQ,XQ,(l.get _ k1).trans k3,k4⟩
theorem bu.le{h h':af}{bb bm bp bl most:Nat}{M:List HE}{clock:Nat}{F:List Int}{B:List Bool}(s:bu h bb bm bp bl most M clock F B)(l:Le h h'):bu h' bb bm bp bl most M clock F B:=
 ⟨Nat.lt_of_lt_of_le s.SC l.nx,Nat.lt_of_lt_of_le s.xq l.nx,by rw[l.lo];exact s.T7,(l.get _ s.SC).trans s.iE,(l.get _ s.xq).trans s.gP,s.ok,λe he=>(s.aY e he).le l,s.good,s.aL.le l,s.ne⟩
theorem ajM(h:af)(b o:Nat):mQ prog h 100 205 (.pointer (some ⟨b,o,none⟩)) (.pointer none)=some false:=by kernel_rfl
theorem iF{β:Type}{fl:β}(cn:Bool)(b o:Nat)(h:af)(V:UV β):aF fl prog .eql 205 cn false (.pointer (some ⟨b,o,none⟩)) (.pointer none) h V=V (.bool false) h:=by simp only[aF,ajM,bX]
theorem ajN(h:af)(b o:Nat):mQ prog h 100 264 (.pointer (some ⟨b,o,none⟩)) (.pointer none)=some false:=by kernel_rfl
theorem tM{β:Type}{fl:β}(cn:Bool)(b o:Nat)(h:af)(V:UV β):aF fl prog .eql 264 cn false (.pointer (some ⟨b,o,none⟩)) (.pointer none) h V=V (.bool false) h:=by simp only[aF,ajN,bX]
theorem ajO(h:af):mQ prog h 100 264 (.pointer none) (.pointer none)=some true:=by kernel_rfl
theorem qa{β:Type}{fl:β}(cn:Bool)(h:af)(V:UV β):aF fl prog .eql 264 cn false (.pointer none) (.pointer none) h V=V (.bool true) h:=by simp only[aF,ajO,bX]
theorem Qs(bb:Nat)(h:af)(V:KQ)(hk:V (YYY 5) h):aj prog 344 [YYQ bb] h V:=by
 apply YYZ;rw[Zt];simp(disch:=try exact Y)only[Wz,iF];exact hk
theorem fU.Lh{M:List HE}{clock:Nat}(o:fU M clock){e e':HE}(h:e∈M)(h':e'∈M)(hb:e.born=e'.born):e=e':=by
 have:∀(L:List HE),(L.Pairwise λa b=>a.born≠b.born)->e∈L->e'∈L->e=e':=by
  intro L
  induction L with
  |nil=>intro _ h;nomatch h
  |cons a L ih=>
   intro hp h1 h2;rw[List.pairwise_cons]at hp;rcases List.mem_cons.1 h1 with rfl|k1<;>rcases List.mem_cons.1 h2 with rfl|k2
   .rfl
   .exact absurd hb (hp.1 _ k2)
   .exact absurd hb.symm (hp.1 _ k1)
   .exact ih hp.2 k1 k2
 exact this M o.bn h h'
theorem T8{h:af}{bb bm bp bl most:Nat}{M:List HE}{clock:Nat}{F:List Int}{B:List Bool}(s:bu h bb bm bp bl most M clock F B)(hlo:h.lo<=h.nx)(id:Int)(V:KQ)(k_:∀h',(∀e∈M,ct e.Q id=none)->Le h h'->V (.pointer none) h')(dB:∀h' e p,e∈M->ct e.Q id=some p->Le h h'->V (YYQ e.hb) h'):aj prog 343 [YYQ bb,YYY id] h V:=by
 apply YYZ;rw[Qb];have g:=s.iE;have gm:=s.gP;simp(disch:=try exact Y)only[Wz,iF,FP,aN,g,Gv gm];obtain⟨hA,eA⟩:∃hA:af,hA=⟨h.nx+1,h.bl.bq h.nx (.eo (some bm) clock [] clock),h.lo⟩:=⟨_,rfl⟩
 rw[<-eA];have leA:Le h hA:=by rw[eA];exact(Le.refl h).new _
 have nA:hA.nx=h.nx+1:=by rw[eA]
 have lA:hA.lo=h.lo:=by rw[eA]
 have gA:hA.bl.get h.nx=some (.eo (some bm) clock [] clock):=by rw[eA];exact T.au _ _ _
 refine⟨λm l h1=>∃seen,m=C7 M seen/\h.nx<h1.nx/\Le h h1/\h1.bl.get h.nx=some (.eo (some bm) clock seen clock)/\∀e∈M,seen.any (Nat.beq e.born)=true->ct e.Q id=none,⟨_,[],rfl,XQ,leA,gA,λe _ he=>by simp at he⟩,?_⟩;rintro m l h1 ⟨seen,rfl,n1,bN,g1,hs⟩;have gm1:=(bN.get _ s.xq).trans gm;have l1:=bN.lo;have n1':=bN.nx;refine Qq s.ok g1 gm1 XQ _ ?_ ?_
 .intro hall;simp(disch:=try exact Y)only[Wz];exact k_ h1 (λe he=>hs e he (hall e he)) bN
 .intro e he JN;have H:=s.aY e he;have hlt:=H.lt;have bF:Le h ⟨h1.nx,h1.bl.bq h.nx (.eo (some bm) clock (e.born::seen) clock),h1.lo⟩:=bN.set XQ _;obtain⟨h2,e2⟩:∃h2:af,h2=⟨h1.nx,h1.bl.bq h.nx (.eo (some bm) clock (e.born::seen) clock),h1.lo⟩:=⟨_,rfl⟩
  rw[<-e2]at bF ⊢;have n2:h2.nx=h1.nx:=by rw[e2]
  have g2:h2.bl.get h.nx=some (.eo (some bm) clock (e.born::seen) clock):=by rw[e2];exact T.au _ _ _
  have gm2:=(bF.get _ s.xq).trans gm;have l2:=bF.lo;obtain⟨qx,qc,eq,_⟩:=(show Sl bH h e.q e.Q from H.qv.1)
  have gh:=(bF.get _ hlt).trans H.get;rw[eq]at gh;simp(disch:=try exact Y)only[Wz,FO,Lg s.ok he g2 gm2,aN,gh];refine Lb e.t e.r _ e.w id e.Q h2 _ (by rw[<-eq];exact H.qv.1.le bF) (by have:=(s.good e he).small;omega) XQ ?_;intro h3 cT;have n3:=cT.nx;have l3:=cT.lo;have g3:=(cT.get h.nx XQ).trans g2;have Gw:=bF.trans cT;cases hf:ct e.Q id with
  |none=>
   simp(disch:=try exact Y)only[Wz,bH];refine⟨_,?_,e.born::seen,rfl,?_,Gw.new _,?_,?_⟩
   .exact ve he JN
   .show h.nx<h3.nx+1;omega
   .exact g3
   .intro x hx hxs;rw[List.any_cons,Bool.or_eq_true]at hxs;rcases hxs with hb|hb
    .rw[s.ok.Lh hx he (Nat.eq_of_beq_eq_true hb)];exact hf
    .exact hs x hx hb
  |some p=>
   simp(disch:=try exact Y)only[Wz,bH];exact dB _ e p he hf (Gw.new _)
structure qW(bm bp bl:Nat)(h h':af):Prop where
 nx:h.nx<=h'.nx
 lo:h'.lo=h.lo
 get:∀c,c<h.nx->c≠bm->c≠bp->c≠bl->(∀vs,h.bl.get c≠some (ai vs 3 true))->h'.bl.get c=h.bl.get c
 g2:bp<h.nx->∀c,c<h.nx->c≠bm->c≠bp->c≠bl->¬FB h bp c->h'.bl.get c=h.bl.get c
 mv:bp<h.nx->∀c,c<h.nx->FB h' bp c->FB h bp c
theorem qW.trans{bm bp bl:Nat}{h h' h'':af}(a:qW bm bp bl h h')(b:qW bm bp bl h' h''):qW bm bp bl h h'':=
 ⟨Nat.le_trans a.nx b.nx,b.lo.trans a.lo,λc hc hm hn hl hi=>(b.get c (Nat.lt_of_lt_of_le hc a.nx) hm hn hl (λvs=>by rw[a.get c hc hm hn hl hi];exact hi vs)).trans (a.get c hc hm hn hl hi),
  λhb c hc hm hn hl hi=>(b.g2 (Nat.lt_of_lt_of_le hb a.nx) c (Nat.lt_of_lt_of_le hc a.nx) hm hn hl λx=>hi (a.mv hb c hc x)).trans (a.g2 hb c hc hm hn hl hi),
  λhb c hc x=>a.mv hb c hc (b.mv (Nat.lt_of_lt_of_le hb a.nx) c (Nat.lt_of_lt_of_le hc a.nx) x)⟩
theorem qW.of_le{bm bp bl:Nat}{h h':af}(l:Le h h'):qW bm bp bl h h':=⟨l.nx,l.lo,λc hc _ _ _ _=>l.get c hc,λ_ c hc _ _ _ _=>l.get c hc,λhb c _ x=>(FB.congr (l.get bp hb)).1 x⟩
theorem qW.aeZ{bm bp bl:Nat}{h h':af}(f:Ld bp bl h h'):qW bm bp bl h h':=⟨f.nx,f.lo,λc hc _ hn hl hi=>f.get c hc hn hl hi,λhb c hc _ hn hl hi=>f.g2 hb c hc hn hl hi,f.mv⟩
theorem qW.of_map{bm bp bl:Nat}(h:af){es:List MapEntry}{cl:Nat}:qW bm bp bl h ⟨h.nx,h.bl.bq bm (.map es cl),h.lo⟩:=by
 refine⟨Nat.le_refl _,rfl,λc _ hm _ _ _=>T.ax _ _ (λe=>hm e.symm),λ_ c _ hm _ _ _=>T.ax _ _ (λe=>hm e.symm),λ_ c _ hx=>?_⟩;by_cases e:bm=bp
 .subst e;obtain⟨n,cap,ls,hx⟩:=hx;exact absurd ((T.au _ _ _).symm.trans hx) bV
 .exact(FB.congr (T.ax _ _ e)).1 hx
theorem bu.put{h:af}{bb bm bp bl most:Nat}{M M':List HE}{clock clock':Nat}{F:List Int}{B:List Bool}(s:bu h bb bm bp bl most M clock F B)(o:fU M' clock')(hh:∀e∈M',nh h e)(hg:∀e∈M',Qr e):bu ⟨h.nx,h.bl.bq bm (.map (M'.map lW) clock'),h.lo⟩ bb bm bp bl most M' clock' F B:=by
 have gm:=s.gP;have ne:∀c,(h.bl.get c≠some (.map (M.map lW) clock))->(h.bl.bq bm (.map (M'.map lW) clock')).get c=h.bl.get c:=λc hc=>T.ax _ _ (by rintro rfl;exact hc gm);have nc:∀{vs ty op},(some (ai vs ty op):Option bL)≠some (.map (M.map lW) clock):=λh=>bV h.symm;obtain⟨fs,zo,hpt⟩:=s.aL.fr.cell;have k1:(h.bl.bq bm (.map (M'.map lW) clock')).get bb=h.bl.get bb:=ne bb (by rw[s.iE];exact nc);have k2:(h.bl.bq bm (.map (M'.map lW) clock')).get bp=h.bl.get bp:=ne bp (by rw[zo];exact nc);have k3:(h.bl.bq bm (.map (M'.map lW) clock')).get bl=h.bl.get bl:=ne bl (by rw[s.aL.cell];exact nc);refine⟨s.SC,s.xq,s.T7,k1.trans s.iE,T.au _ _ _,o,λe he=>?_,hg,⟨⟨s.aL.fr.lt,s.aL.fr.lo,fs,k2.trans zo,?_⟩,s.aL.lt,s.aL.lo,k3.trans s.aL.cell,s.aL.ok,s.aL.small⟩,s.ne⟩
 .have a:=hh e he;exact⟨a.lt,(ne _ (by rw[a.get];exact nc)).trans a.get,a.qv.put (λvs op=>by rw[gm];exact bV) _⟩
 .rcases hpt with e|⟨b,G,e,h1,h2,h3,h4⟩
  .exact .inl e
  .exact .inr ⟨b,G,e,h1,h2,(ne b (by rw[h3];exact nc)).trans h3,h4⟩
theorem Qt{Q:List R5}{W:Int}(v:VQ Q W)(n:Nat):(dS n Q).1.length=Q.length:=by
 have:=congrArg List.length (CG n v).2.1;simpa using this
structure fP(M M':List HE)(t r w:Int)(Q:List R5):Prop where
 gone:Q=[]->M'=M.filter λx=>!u_ t r x
 put:Q≠[]->∃e,e.t=t/\e.r=r/\e.w=w/\e.Q=Q/\M'.Perm (M.filter (λx=>!u_ t r x)++[e])
theorem tN{h:af}{bb bm bp bl most:Nat}{M:List HE}{clock:Nat}{F:List Int}{B:List Bool}(s:bu h bb bm bp bl most M clock F B)(hlo:h.lo<=h.nx)(t r:Int)(q:Value)(w:Int)(Q:List R5)(V:KQ)(hq:Sl bH h q Q)(vq:VQ Q w)(hlen:Q.length<=128)(hk:∀M' clock' v' h',bu h' bb bm bp bl most M' clock' F B->fP M M' t r w (dS (i_ Q+1) Q).1->AM h h' v' (dS (i_ Q+1) Q).2->qW bm bp bl h h'->V v' h'):aj prog 347 [YYQ bb,jM t r q w] h V:=by
 obtain⟨qx,qc,rfl,_⟩:=(show Sl bH h q Q from hq)
 apply YYZ;rw[Zv];simp(disch:=try exact QQ)only[Wz,jM];obtain⟨hA,bh,aU,g1,eE,eG⟩:=nP h (fM t r (.slice qx Q.length qc) w);rw[<-bh];clear bh;refine Z4 t r _ w Q hA _ (hq.le aU) XQ XQ vq ?_;intro q2 v2 h2 Dz mj bF;obtain⟨vq2,hkey,hst,hgr⟩:=CG (i_ Q+1) vq;have oS:=Qt vq (i_ Q+1);generalize hQ2:(dS (i_ Q+1) Q).1=Q2 at *
 generalize hI2:(dS (i_ Q+1) Q).2=I2 at *
 obtain⟨vV,vW,rfl,_⟩:=(show Sl bH h2 q2 Q2 from Dz.1)
 have n2:=bF.nx;have l2:=bF.lo;have g1:=(bF.get _ XQ).trans g1;have ajP:=hst (Nat.lt_succ_self _);simp(disch:=try exact QQ)only[Wz,jM,g1];obtain⟨h3,e3⟩:∃h3:af,h3=⟨h2.nx,h2.bl.bq h.nx (fM t r (.slice vV Q2.length vW) w),h2.lo⟩:=⟨_,rfl⟩
 have cT:Le h h3:=by rw[e3];exact(aU.trans bF).set XQ _
 have g3:h3.bl.get h.nx=some (fM t r (.slice vV Q2.length vW) w):=by rw[e3];exact T.au _ _ _
 have n3:h3.nx=h2.nx:=by rw[e3]
 have l3:h3.lo=h2.lo:=by rw[e3]
 have hq3:QV h3 (.slice vV Q2.length vW) Q2:=by rw[e3];exact Dz.put (λvs op=>by rw[g1];exact bE J0) _
 have pz:AM h h3 v2 I2:=by
  rw[e3];exact ia.put (ia.base mj XQ) (by rw[g1];exact bC) _
 rw[<-e3];clear e3;have s3:=s.le cT;have gb:=s3.iE;have gm:=s3.gP;refine⟨λl h'=>V v2 h',?_,λl h' hk'=>hk'⟩;by_cases h0:Q2=[]
 .subst h0;simp(disch:=try exact QQ)only[Wz,yY,g3,FT,aN,gb];refine aad s3.ok gm (by have:=s3.T7;omega) t r _ ?_;intro h4 hc;have kR:fP M (M.filter λx=>!u_ t r x) t r w []:=⟨λ_=>rfl,λhn=>absurd rfl hn⟩
  rcases hc with rfl|⟨rfl,hM⟩
  .exact hk _ clock v2 _ (s3.put (s3.ok.filter _) (λe he=>s3.aY e (List.mem_filter.1 he).1) λe he=>s3.good e (List.mem_filter.1 he).1) kR (ia.put pz (by rw[gm];exact bV) _) ((qW.of_le cT).trans (qW.of_map _))
  .rw[hM]at kR;exact hk _ clock v2 _ s3 kR pz (qW.of_le cT)
 ·have hpos:0<Q2.length:=List.length_pos_iff.2 h0;simp(disch:=try exact QQ)only[Wz,yY,g3,aZ (show ¬(Q2.length:Int)=0 by omega),FU,aN,gb];refine aac s3.ok gm (by have:=s3.T7;omega) t r h.nx (.slice vV Q2.length vW) w Q2 _ ?_;intro M' clock' born o' hp;have hsub:∀x∈M',x∈M\/x=⟨t,r,h.nx,born,.slice vV Q2.length vW,w,Q2⟩:=λx hx=>by
   rcases List.mem_append.1 (hp.mem_iff.1 hx)with hx|hx
   .exact .inl (List.mem_filter.1 hx).1
   .exact .inr (List.mem_singleton.1 hx)
  refine hk M' clock' v2 _ (s3.put o' (λe he=>?_) λe he=>?_) ⟨λhn=>absurd hn h0,λ_=>⟨_,rfl,rfl,rfl,rfl,hp⟩⟩ (ia.put pz (by rw[gm];exact bV) _) ((qW.of_le cT).trans (qW.of_map _))
  .rcases hsub e he with h1|rfl
   .exact s3.aY e h1
   .exact⟨by show h.nx<h3.nx;omega,g3,hq3⟩
  .rcases hsub e he with h1|rfl
   .exact s3.good e h1
   .exact⟨h0,vq2,ajP,by show Q2.length<=128;omega⟩
theorem T9(x:Int)(r:R5)(b:Nat)(h:af)(V:KQ)(hlo:h.lo<=h.nx)(hb:b<h.nx)(hg:h.bl.get b=some (ai [YYY x] 3 false))(hk:∀h',Le h h'->V (.bool (decide (r.x=x))) h'):aj prog 394 [lT r,aq b] h V:=by
 have hk:=hk _ ((Le.refl h).new (j8 r));apply YYZ;rw[ZF];simp(disch:=try exact Y)only[Wz,bH,hg];exact hk
theorem Gx{h:af}{bb bm bp bl most:Nat}{M:List HE}{clock:Nat}{F:List Int}{B:List Bool}(s:bu h bb bm bp bl most M clock F B)(hlo:h.lo<=h.nx)(t r x:Int)(V:KQ)(k_:∀h',(∀e∈M,t=e.t->r=e.r->∀p∈e.Q,p.x≠x)->Le h h'->V (.tuple ⟨[YYY 0,.bool false]⟩) h')(dB:∀h' e p,e∈M->t=e.t->r=e.r->p∈e.Q->p.x=x->Le h h'->V (.tuple ⟨[YYY p.id,.bool true]⟩) h'):aj prog 350 [YYQ bb,cQ t r,YYY x] h V:=by
 apply YYZ;rw[Zw];simp(disch:=try exact Y)only[Wz,cQ];obtain⟨hA,bh,aU,g1,g3,eE,eG⟩:=L8 h (ai [YYY t,YYY r] 28 false) (ai [YYY x] 3 false);rw[<-bh];clear bh;have sA:=s.le aU;have gb:=sA.iE;have gm:=sA.gP;by_cases hc:∃e∈M,t=e.t/\r=e.r
 case neg=>
  have hn:∀e∈M,¬(t=e.t/\r=e.r):=λe he h=>hc ⟨e,he,h⟩;have eL:=By (β:=Option Value) (fl:=none) gm t r hn;unfold cQ at eL;simp(disch:=try exact Y)only[Wz,iF,yZ,aN,gb,g1,eL];exact k_ _ (λe he h1 h2=>absurd ⟨h1,h2⟩ (hn e he)) aU
 obtain⟨e,he,rfl,rfl⟩:=hc;have eL:=Gu (β:=Option Value) (fl:=none) sA.ok gm he;unfold cQ at eL;have H:=sA.aY e he;have hlt:=H.lt;have gd:=sA.good e he;have sY:=gd.small;obtain⟨qx,qc,eq,_⟩:=(show Sl bH hA e.q e.Q from H.qv.1)
 have gh:=H.get;rw[eq]at gh;simp(disch:=try exact Y)only[Wz,iF,yZ,aN,gb,g1,eL,FW,gh];rw[<-eq];refine ze e.Q (λp=>decide (p.x=x)) hA _ _ _ H.qv.1 XQ ?_ ?_
 .intro p _ h1 κ1 l1 dB;simp(disch:=try exact Y)only[Wz,List.nil_append,List.cons_append];refine T9 x p (h.nx+1) h1 κ1 (by have:=l1.lo;have:=l1.nx;omega) (by have:=l1.nx;omega) ((l1.get _ XQ).trans g3) dB
 intro h2 bF;have gh2:=(bF.get _ hlt).trans gh;have qb:=aU.trans bF;rcases lQ e.Q (λp=>decide (p.x=x))with⟨ei,hf⟩|⟨i,p,ei,hp,h1,h2⟩
 .rw[ei];simp(disch:=try exact Y)only[Wz,fS];exact k_ h2 (λe' he' h1 h2 p hp=>by rw[sA.ok.uniq he' he h1.symm h2.symm]at hp;have:=hf p hp;simpa using this) qb
 .rw[ei];obtain⟨b,o,hb,Mx,_,hid,_⟩:=SA (H.qv.1.le bF) i hp;rw[eq]at Mx;simp(disch:=try exact Y)only[Wz,fS,dF (show(0:Int)<=(i:Int)by omega),FV,aN,gh2,Mx,hid];exact dB _ e p he rfl rfl (List.mem_of_getElem? hp) (by simpa using h1) qb
def gq(M:List HE):List Int:=M.flatMap λe=>e.Q.map (·.id)
def kK(B:List Bool):List Int:=((List.range B.length).filter λn=>(B[n]?).getD false).map λn:Nat=>(n:Int)
theorem j9{B:List Bool}{x:Int}:x∈kK B<->∃n:Nat,x=(n:Int)/\B[n]? = some true:=by
 unfold kK;rw[List.mem_map];constructor
 .rintro⟨n,hn,rfl⟩;rw[List.mem_filter,List.mem_range]at hn;refine⟨n,rfl,?_⟩;have h2:=hn.2;rw[List.getElem?_eq_getElem hn.1]at h2 ⊢;simpa using h2
 .rintro⟨n,rfl,h⟩;refine⟨n,List.mem_filter.2 ⟨List.mem_range.2 (List.getElem?_eq_some_iff.1 h).1,by rw[h];rfl⟩,rfl⟩
theorem zp{L:List Nat}(h:L.Nodup):(L.map λn:Nat=>(n:Int)).Nodup:=by
 rw[List.Nodup,List.pairwise_map];exact h.imp λhne e=>hne (Int.ofNat.inj e)
theorem r_(B:List Bool):(kK B).Nodup:=zp (List.nodup_range.filter _)
theorem zq{L:List Int}{x:Int}(h:L.Nodup)(hx:x∉L):(L++[x]).Nodup:=by
 rw[List.nodup_append];refine⟨h,by simp,λa ha b hb=>?_⟩;rw[List.mem_singleton]at hb;subst hb;rintro rfl;exact hx ha
theorem Bz{B:List Bool}{n:Nat}(h:B[n]? = some false):(kK (B.set n true)).Perm (kK B++[(n:Int)]):=by
 have hn:n<B.length:=(List.getElem?_eq_some_iff.1 h).1;refine(List.perm_ext_iff_of_nodup (r_ _) (zq (r_ _) λhm=>?_)).2 λx=>?_
 .obtain⟨k,e,hk⟩:=j9.1 hm;have:k=n:=(Int.ofNat.inj e).symm;subst this;rw[h]at hk;cases hk
 .rw[List.mem_append,List.mem_singleton,j9,j9];constructor
  .rintro⟨k,rfl,hk⟩;by_cases hkn:k=n
   .exact .inr (by rw[hkn])
   .rw[List.getElem?_set,if_neg (λe=>hkn e.symm)]at hk;exact .inl ⟨k,rfl,hk⟩
  .rintro(⟨k,rfl,hk⟩|rfl)
   .refine⟨k,rfl,?_⟩;rw[List.getElem?_set];split
    .rename_i e;exact absurd (by rw[<-e,h]at hk;exact hk:some false=some true) (by simp)
    .exact hk
   .exact⟨n,rfl,by rw[List.getElem?_set,if_pos rfl,if_pos hn]⟩
theorem My{B:List Bool}{n:Nat}(h:B[n]? = some true):(kK B).Perm (kK (B.set n false)++[(n:Int)]):=by
 have hn:n<B.length:=(List.getElem?_eq_some_iff.1 h).1;have:=Bz (B:=B.set n false) (n:=n) (by rw[List.getElem?_set,if_pos rfl,if_pos hn]);rw[List.set_set]at this;have e:B.set n true=B:=by
  refine List.ext_getElem? λk=>?_;rw[List.getElem?_set];split
  .rename_i e;rw[<-e,h]
  .rfl
 rwa [e]at this
theorem tO{F:List Int}{B:List Bool}(o:kz F B):(kK B).length+F.length=B.length:=by
 have hp:F.Perm (((List.range B.length).filter λn=>!(B[n]?).getD false).map λn:Nat=>(n:Int)):=by
  refine(List.perm_ext_iff_of_nodup o.nodup (zp (List.nodup_range.filter _))).2 λx=>?_;rw[List.mem_map];constructor
  .intro hx;obtain⟨n,rfl⟩:∃n:Nat,x=(n:Int):=⟨x.toNat,by have:=o.pos x hx;omega⟩
   have hb:=(o.mem n).1 hx;exact⟨n,List.mem_filter.2 ⟨List.mem_range.2 (List.getElem?_eq_some_iff.1 hb).1,by rw[hb];rfl⟩,rfl⟩
  .rintro⟨n,hn,rfl⟩;rw[List.mem_filter,List.mem_range]at hn;refine(o.mem n).2 ?_;have h2:=hn.2;rw[List.getElem?_eq_getElem hn.1]at h2 ⊢;simpa using h2
 rw[hp.length_eq];unfold kK;rw[List.length_map,List.length_map,<-List.countP_eq_length_filter,<-List.countP_eq_length_filter];have:=List.length_eq_countP_add_countP (λn=>(B[n]?).getD false) (l:=List.range B.length);rw[List.length_range]at this;have e2:List.countP (λn=>!(B[n]?).getD false) (List.range B.length)=List.countP (λa=>decide ¬(B[a]?).getD false=true) (List.range B.length):=List.countP_congr λx _=>by simp
 omega
theorem mM(M N:List HE):gq (M++N)=gq M++gq N:=List.flatMap_append
theorem qM{M N:List HE}(h:M.Perm N):(gq M).Perm (gq N):=h.flatMap_right _
theorem tP(e:HE):gq [e]=e.Q.map (·.id):=by simp[gq]
theorem qN{M:List HE}{clock:Nat}(o:fU M clock){e:HE}(he:e∈M):M.Perm (M.filter (λx=>!u_ e.t e.r x)++[e]):=by
 obtain⟨j,hj,rfl⟩:=List.mem_iff_getElem.1 he;rw[<-erase_filter o.nm (List.getElem?_eq_getElem hj)];have:M=M.set j M[j]:=by simp
 refine(List.Perm.of_eq this).trans ?_;rw[List.set_eq_take_append_cons_drop,if_pos hj,List.eraseIdx_eq_take_drop_succ];exact(List.perm_middle).trans (List.perm_append_singleton _ _).symm
theorem BA{M:List HE}{t r:Int}(hn:∀e∈M,¬(t=e.t/\r=e.r)):M.filter (λx=>!u_ t r x)=M:=List.filter_eq_self.2 λx hx=>rC.2 (hn x hx)
theorem fP.ids{M M':List HE}{t r w:Int}{Q:List R5}(s:fP M M' t r w Q):(gq M').Perm (gq (M.filter λx=>!u_ t r x)++Q.map (·.id)):=by
 by_cases h0:Q=[]
 .rw[s.gone h0,h0];simp
 .obtain⟨e,_,_,_,eq,hp⟩:=s.put h0;have:=qM hp;rw[mM,tP,eq]at this;exact this
theorem zu{Q:List R5}{W:Int}(v:VQ Q W)(n:Nat):(dS n Q).1.map (·.id)=Q.map (·.id):=by
 have:=congrArg (List.map Prod.fst) (CG n v).2.1;simpa[List.map_map,Function.comp_def,Iw]using this
def rD(M:List HE)(B:List Bool):Prop:=∃X,(gq M++X).Perm (kK B)
theorem rD.find{M:List HE}{B:List Bool}(i:rD M B){e:HE}(he:e∈M){p:R5}(hp:p∈e.Q):∃n:Nat,p.id=(n:Int)/\B[n]? = some true:=by
 obtain⟨X,hX⟩:=i;exact j9.1 (hX.mem_iff.1 (List.mem_append.2 (.inl (List.mem_flatMap.2 ⟨e,he,List.mem_map.2 ⟨p,hp,rfl⟩⟩))))
theorem QV.frame{h h':af}{q:Value}{Q:List R5}(v:QV h q Q)(hn:h.nx<=h'.nx)(hg:∀c vs op,c<h.nx->h.bl.get c=some (ai vs 57 op)->h'.bl.get c=h.bl.get c):QV h' q Q:=by
 obtain⟨hs,ht⟩:=v;constructor
 .obtain⟨x,cap,rfl,h2⟩:=hs;refine⟨x,cap,rfl,λhne=>?_⟩;obtain⟨b,o,rfl,h3,h4⟩:=h2 hne;obtain⟨h1,vs,op,h5⟩:=ht b o _ cap rfl (by intro h0;exact hne (List.eq_nil_of_length_eq_zero h0));refine⟨b,o,rfl,Nat.lt_of_lt_of_le h3 hn,?_⟩;rw[hg b vs op h1 h5];exact h4
 .intro b o n c hv hn0;obtain⟨h1,vs,op,h2⟩:=ht b o n c hv hn0;exact⟨Nat.lt_of_lt_of_le h1 hn,vs,op,(hg b vs op h1 h2).trans h2⟩
theorem nh.fQ{h h':af}{bp bl:Nat}{F:List Int}{B:List Bool}{e:HE}(a:nh h e)(p:dZ h bp bl F B)(f:Ld bp bl h h'):nh h' e:=by
 have fn:=f.nx;obtain⟨fs,zo,hpt⟩:=p.fr.cell;have gl:=p.cell;have key:∀c vs ty,c<h.nx->h.bl.get c=some (ai vs ty false)->ty≠286->ty≠4->h'.bl.get c=h.bl.get c:=λc vs ty hc hg h1 h2=>
  f.get c hc (by rintro rfl;rw[hg]at zo;exact bE h1 zo) (by rintro rfl;rw[hg]at gl;exact bE h2 gl) λws=>by rw[hg];exact bC
 have al:=a.lt;refine⟨XQ,(key _ _ _ al a.get J0 J0).trans a.get,a.qv.frame fn λc vs op hc hg=>?_⟩;exact f.get c hc (by rintro rfl;rw[hg]at zo;exact bE J0 zo) (by rintro rfl;rw[hg]at gl;exact bE J0 gl) λws=>by rw[hg];exact bE J0
theorem bu.fQ{h h':af}{bb bm bp bl most:Nat}{M:List HE}{clock:Nat}{F F':List Int}{B B':List Bool}(s:bu h bb bm bp bl most M clock F B)(p:dZ h' bp bl F' B')(f:Ld bp bl h h'):bu h' bb bm bp bl most M clock F' B':=by
 have fn:=f.nx;have fl:=f.lo;have sb:=s.SC;have sm:=s.xq;obtain⟨fs,zo,hpt⟩:=s.aL.fr.cell;have gl:=s.aL.cell;have key:∀c vs ty,c<h.nx->h.bl.get c=some (ai vs ty false)->ty≠286->ty≠4->h'.bl.get c=h.bl.get c:=λc vs ty hc hg h1 h2=>
  f.get c hc (by rintro rfl;rw[hg]at zo;exact bE h1 zo) (by rintro rfl;rw[hg]at gl;exact bE h2 gl) λws=>by rw[hg];exact bC
 have gm:=s.gP;have km:h'.bl.get bm=h.bl.get bm:=f.get bm sm (by rintro rfl;rw[zo]at gm;exact bV gm.symm) (by rintro rfl;rw[gl]at gm;exact bV gm.symm) λws=>by rw[gm];exact bV
 refine⟨XQ,XQ,by rw[fl];exact s.T7,(key bb _ _ sb s.iE J0 J0).trans s.iE,km.trans gm,s.ok,λe he=>?_,s.good,p,s.ne⟩;exact(s.aY e he).fQ s.aL f
theorem T_(Q:List R5)(W id x m:Int):(j0 Q W id x m).1.id=id:=by unfold j0;split<;>rfl
structure nW(h h':af)(bb bm bp bl most:Nat)(M M':List HE)(clock':Nat)(F F':List Int)(B:List Bool)(t r x m:Int)(n:Nat)(g:Bool):Prop where
 is:bu h' bb bm bp bl most M' clock' F' (B.set n true)
 free:((n:Int)::F').Perm F
 old:B[n]? = some false
 least:∀k,k<n->B[k]? = some true
 fr:qW bm bp bl h h'
 set:∃Q w,((∃e∈M,e.t=t/\e.r=r/\e.Q=Q/\e.w=w)\/((∀e∈M,¬(t=e.t/\r=e.r))/\M.length<most/\Q=[]/\w=0))/\VQ Q w/\VQ (Q++[(j0 Q w n x m).1]) (j0 Q w n x m).2.1/\g=(j0 Q w n x m).2.2/\
  fP M M' t r (j0 Q w n x m).2.1 (dS (i_ (Q++[(j0 Q w n x m).1])+1) (Q++[(j0 Q w n x m).1])).1
theorem BB{h h0:af}{bb bm bp bl most:Nat}{M:List HE}{clock:Nat}{F:List Int}{B:List Bool}(s:bu h bb bm bp bl most M clock F B)(hlo:h.lo<=h.nx)(l0:Le h0 h)(ids:rD M B)(hF:F.length<=1000)(N:Nat)(hN:N<=100000)(hw:∀e∈M,e.w<=N)(t r x m:Int)(am:bZ m=true)(l:List Value)(ph:Nat)(Q:List R5)(q:Value)(w:Int)(hl:ah l 18=YYQ ph)(hp:ph<h.nx)(gp:h.bl.get ph=some (fM t r q w))(hq:QV h q Q)(vq:VQ Q w)(sY:F≠[]->Q.length<=127)(hwN:w<=N)(hx:∀p∈Q,p.x≠x)(AO:∀p∈Q,∃k:Nat,p.id=(k:Int)/\B[k]? = some true)(hold:((∃e∈M,e.t=t/\e.r=r/\e.Q=Q/\e.w=w)\/((∀e∈M,¬(t=e.t/\r=e.r))/\M.length<most/\Q=[]/\w=0)))(V:KQ)(T6:∀h',F=[]->Le h0 h'->V (.tuple ⟨[YYY 0,.bool false,YYY 8]⟩) h')(Wo:∀M' clock' F' h' n g,nW h0 h' bb bm bp bl most M M' clock' F F' B t r x m n g->V (.tuple ⟨[YYY (n:Int),.bool g,YYY 0]⟩) h'):y5 (YYQ bb) l (YYY x) (YYY m) h V:=by
 have gb:=s.iE;simp(disch:=try exact Y)only[Wz,y5,aN,gb];refine Z_ bp bl F B h _ s.aL hF hlo s.ne ?_ ?_
 .intro h0';simp(disch:=try exact Y)only[Wz];exact T6 h h0' l0
 intro h2 F' n p2 hp2 hb aaa AN;have s2:=s.fQ p2 AN;have n2:=AN.nx;have l2:=AN.lo;have hF0:F≠[]:=by rintro rfl;have:=hp2.length_eq;simp at this
 have sY:=sY hF0;have H2:=nh.fQ (e:=⟨t,r,ph,0,q,w,Q⟩) ⟨hp,gp,hq⟩ s.aL AN;have g2:h2.bl.get ph=some (fM t r q w):=H2.get;have Dz:QV h2 q Q:=H2.qv;obtain⟨qx,qc,rfl,_⟩:=(show Sl bH h2 q Q from Dz.1)
 simp(disch:=try exact Y)only[Wz,FX,hl,aN,g2];have hn:∀p∈Q,p.id≠(n:Int)/\p.x≠x:=λp hp'=>⟨λe=>by
  obtain⟨k,e1,e2⟩:=AO p hp';have:k=n:=by omega
  rw[this,hb]at e2;exact absurd e2 (by simp),hx p hp'⟩
 refine aeL t r _ w (n:Int) x m Q h2 _ Dz.1 XQ XQ ⟨vq.w0,XQ⟩ XQ am hn ?_;intro q3 h3 pz cT;have n3:=cT.nx;have l3:=cT.lo;have v3:=vq.ask (id:=(n:Int)) (x:=x) (m:=m) XQ am hn;obtain⟨Gp,Gq,rfl,_⟩:=(show Sl bH h3 q3 _ from pz.sl)
 simp(disch:=try exact Y)only[Wz,jM];have kU:Le h2 ⟨h3.nx+1,h3.bl.bq h3.nx (fM t r (.slice Gp (Q++[(j0 Q w n x m).1]).length Gq) (j0 Q w n x m).2.1),h3.lo⟩:=cT.new _;have lh4:Le h3 ⟨h3.nx+1,h3.bl.bq h3.nx (fM t r (.slice Gp (Q++[(j0 Q w n x m).1]).length Gq) (j0 Q w n x m).2.1),h3.lo⟩:=(Le.refl h3).new _;have s4:=s2.le kU;refine tN s4 (by show h3.lo<=h3.nx+1;omega) t r _ _ _ _ ((pz.sl).le lh4) v3 (by simp;omega) ?_;intro M' clock' v' h' s5 kR oI Mz;exact Wo M' clock' F' h' n _ ⟨s5,hp2,hb,aaa,(qW.of_le l0).trans ((qW.aeZ AN).trans ((qW.of_le kU).trans Mz)),Q,w,hold,vq,v3,rfl,kR⟩
theorem rD.len{M:List HE}{F:List Int}{B:List Bool}(i:rD M B)(o:kz F B){e:HE}(he:e∈M):e.Q.length+F.length<=B.length:=by
 have h1:=tO o;obtain⟨X,hX⟩:=i;have h2:=hX.length_eq;rw[List.length_append]at h2;have:e.Q.length<=(gq M).length:=by
  have hs:=List.append_of_mem he;obtain⟨s,t,rfl⟩:=hs;simp[gq];omega
 omega
theorem Ua{h:af}{bb bm bp bl most:Nat}{M:List HE}{clock:Nat}{F:List Int}{B:List Bool}(s:bu h bb bm bp bl most M clock F B)(hlo:h.lo<=h.nx)(ids:rD M B)(N:Nat)(hN:N<=100000)(hw:∀e∈M,e.w<=N)(t r x m:Int)(V:KQ)(hk2:∀h',bZ m=false->Le h h'->V (.tuple ⟨[YYY 0,.bool false,YYY 2]⟩) h')(Ac:∀h' e p,bZ m=true->e∈M->t=e.t->r=e.r->p∈e.Q->p.x=x->Le h h'->V (.tuple ⟨[YYY 0,.bool false,YYY 4]⟩) h')(hk8:∀h',bZ m=true->(∀e∈M,t=e.t->r=e.r->∀p∈e.Q,p.x≠x)->(F=[]\/((∀e∈M,¬(t=e.t/\r=e.r))/\most<=M.length))->Le h h'->V (.tuple ⟨[YYY 0,.bool false,YYY 8]⟩) h')(Wo:∀M' clock' F' h' n g,bZ m=true->(∀e∈M,t=e.t->r=e.r->∀p∈e.Q,p.x≠x)->nW h h' bb bm bp bl most M M' clock' F F' B t r x m n g->V (.tuple ⟨[YYY (n:Int),.bool g,YYY 0]⟩) h'):aj prog 353 [YYQ bb,cQ t r,YYY x,YYY m] h V:=by
 apply YYZ;rw[Zy];have hFl:F.length<=1000:=by have:=tO s.aL.ok;have:=s.aL.small;omega
 simp(disch:=try exact Y)only[Wz,cQ];obtain⟨hA,bh,aU,g1,eE,eG⟩:=nP h (ai [YYY t,YYY r] 28 false);rw[<-bh];clear bh;have sA:=s.le aU;simp(disch:=try exact Y)only[Wz,iF,FZ];by_cases h0:m=0
 .simp(disch:=try exact Y)only[Wz,bx h0];exact hk2 _ (by simp[bZ,h0]) aU
 simp(disch:=try exact Y)only[Wz,aZ h0];refine oH m ?_;cases hkn:kn m with
 |false=>
  simp(disch:=try exact Y)only[Wz];exact hk2 _ (by simp[bZ,hkn]) aU
 |true=>
 have am:bZ m=true:=by simp[bZ,hkn,h0]
 simp(disch:=try exact Y)only[Wz,FY,g1];refine Gx sA XQ t r x _ ?_ ?_
 case _=>
  intro h2 hno bF;have qb:=aU.trans bF;have s2:=sA.le bF;have n2:=bF.nx;have l2:=bF.lo;have gb:=s2.iE;have gm:=s2.gP;have g1:=(bF.get _ XQ).trans g1;by_cases hc:∃e∈M,t=e.t/\r=e.r
  .obtain⟨e,he,rfl,rfl⟩:=hc;have eL:=Gu (β:=Option Value) (fl:=none) s2.ok gm he;unfold cQ at eL;have H:=s2.aY e he;have hgd:=s2.good e he;simp(disch:=try exact Y)only[Wz,y6,aN,gb,g1,eL];refine⟨λl h'=>ah l 18=YYQ e.hb/\HQ h2 h',⟨rfl,rfl⟩,?_⟩;rintro l h' ⟨hl,hq⟩;cases(show h2=h' from hq);refine BB s2 XQ qb ids hFl N hN hw e.t e.r x m am l e.hb e.Q e.q e.w hl H.lt H.get H.qv hgd.vq (λhF0=>?_) (hw e he) (hno e he rfl rfl) (λp hp=>ids.find he hp) (.inl ⟨e,he,rfl,rfl,rfl,rfl⟩) V (λh' h1 h3=>hk8 h' am hno (.inl h1) h3) λM' clock' F' h' n g hA=>Wo M' clock' F' h' n g am hno hA;have:=ids.len s.aL.ok he;have:=s.aL.small;have:=List.length_pos_iff.2 hF0;omega
  .have hn:∀e∈M,¬(t=e.t/\r=e.r):=λe he h=>hc ⟨e,he,h⟩;have eL:=By (β:=Option Value) (fl:=none) gm t r hn;unfold cQ at eL;simp(disch:=try exact Y)only[Wz,y6,aN,gb,g1,eL];by_cases hfull:M.length<most
   .obtain⟨hB,eB⟩:∃hB:af,hB=⟨h2.nx+1,h2.bl.bq h2.nx (fM t r (.slice none 0 0) 0),h2.lo⟩:=⟨_,rfl⟩
    have Li:Le h2 hB:=by rw[eB];exact(Le.refl h2).new _
    have gB:hB.bl.get h2.nx=some (fM t r (.slice none 0 0) 0):=by rw[eB];exact T.au _ _ _
    have nB:hB.nx=h2.nx+1:=by rw[eB]
    have lB:hB.lo=h2.lo:=by rw[eB]
    refine⟨λl h'=>ah l 18=YYQ h2.nx/\HQ hB h',?_,?_⟩
    .simp(disch:=try exact Y)only[Wz,y3,aN,gb,g1,ou,gm,bY,List.length_map,bx (show Int.ofNat M.length<(most:Int)from by show(M.length:Int)<_;omega),Bool.not_true];exact⟨trivial,eB⟩
    .rintro l h' ⟨hl,hq⟩;cases(show hB=h' from hq);have sB:=s2.le Li;exact BB sB XQ (qb.trans Li) ids hFl N hN hw t r x m am l h2.nx [] (.slice none 0 0) 0 hl XQ gB ⟨Sl.nil _ _ _,λb o n c hv _=>nomatch hv⟩ VQ.nil (λ_=>by simp) XQ (λp hp=>nomatch hp) (λp hp=>nomatch hp) (.inr ⟨hn,hfull,rfl,rfl⟩) V (λh' h1 h3=>hk8 h' am hno (.inl h1) h3) λM' clock' F' h' n g hA=>Wo M' clock' F' h' n g am hno hA
   .refine⟨λl h'=>False,?_,λ_ _ h=>h.elim⟩;simp(disch:=try exact Y)only[Wz,y3,aN,gb,g1,ou,gm,bY,List.length_map,aZ (show ¬Int.ofNat M.length<(most:Int)from by show ¬(M.length:Int)<_;omega),Bool.not_false];exact hk8 h2 am hno (.inr ⟨hn,XQ⟩) qb
 case _=>
  intro h2 e p he ht hr hp hx bF;simp(disch:=try exact Y)only[Wz];exact Ac h2 e p am he ht hr hp hx (aU.trans bF)
structure j_(h h':af)(bb bm bp bl most:Nat)(M M':List HE)(clock':Nat)(F':List Int)(B':List Bool)(e:HE)(Q1:List R5)(w1:Int):Prop where
 is:bu h' bb bm bp bl most M' clock' F' B'
 fr:qW bm bp bl h h'
 vq:VQ Q1 w1
 set:fP M M' e.t e.r w1 (dS (i_ Q1+1) Q1).1
theorem Gy{Q:List R5}{W:Int}(v:VQ Q W){id:Int}{p:R5}(hf:ct Q id=some p):∃i:Nat,Q[i]? = some p/\p.id=id:=by
 obtain⟨h1,h2⟩:=iQ hf;obtain⟨i,hi⟩:=List.mem_iff_getElem?.1 h1;exact⟨i,hi,h2⟩
theorem Gz{h:af}{bb bm bp bl most:Nat}{M:List HE}{clock:Nat}{F:List Int}{B:List Bool}(s:bu h bb bm bp bl most M clock F B)(hlo:h.lo<=h.nx)(N:Nat)(hN:N<=100000)(hw:∀e∈M,e.w<=N)(id m:Int)(V:KQ)(hk2:∀h',bZ m=false->Le h h'->V (.tuple ⟨[.bool false,YYY 2]⟩) h')(Ah:∀h',bZ m=true->(∀e∈M,ct e.Q id=none)->Le h h'->V (.tuple ⟨[.bool false,YYY 5]⟩) h')(Qu:∀h' e p,bZ m=true->e∈M->ct e.Q id=some p->0<p.s->Le h h'->V (.tuple ⟨[.bool false,YYY 7]⟩) h')(k_:∀h' M' clock' e p i,bZ m=true->e∈M->e.Q[i]? = some p->ct e.Q id=some p->¬0<p.s->j_ h h' bb bm bp bl most M M' clock' F B e (e.Q.set i (jq e.Q e.w p m).1) (jq e.Q e.w p m).2.1->V (.tuple ⟨[.bool (jq e.Q e.w p m).2.2,YYY 0]⟩) h'):aj prog 354 [YYQ bb,YYY id,YYY m] h V:=by
 apply YYZ;rw[Zz];simp(disch:=try exact Y)only[Wz,iF,F0];refine T8 s hlo id _ ?_ ?_
 .intro h1 hno bN;have n1:=bN.nx;have l1:=bN.lo;simp(disch:=try exact Y)only[Wz,qa];obtain⟨hA,bh,aU,g7,eE,eG⟩:=nP h1 (fM 0 0 (.slice none 0 0) 0);rw[<-bh];clear bh;refine⟨λl h'=>ah l 4=YYQ h1.nx/\HQ hA h',⟨rfl,rfl⟩,?_⟩;rintro l h' ⟨hl,hq⟩;cases(show hA=h' from hq);simp(disch:=try exact Y)only[Wz,y7,hl,aN,g7];refine zj 0 0 _ 0 id m [] hA _ (Sl.nil _ _ _) (by simp) XQ XQ ?_ ?_ ?_ ?_
  .intro ha h2 bF;have:=bF.nx;have:=bF.lo;simp(disch:=try exact Y)only[Wz,jM];exact hk2 _ ha (((bN.trans aU).trans bF).new _)
  .intro ha _ h2 bF;have:=bF.nx;have:=bF.lo;simp(disch:=try exact Y)only[Wz,jM];exact Ah _ ha hno (((bN.trans aU).trans bF).new _)
  .intro ha p hf;cases hf
  .intro ha i p hi;simp at hi
 .intro h1 e p0 he hf0 bN;have n1:=bN.nx;have l1:=bN.lo;have s1:=s.le bN;have H:=s1.aY e he;have hlt:=H.lt;have gd:=s1.good e he;have sY:=gd.small;obtain⟨qx,qc,eq,_⟩:=(show Sl bH h1 e.q e.Q from H.qv.1)
  have gh:=H.get;rw[eq]at gh;have we:=hw e he;simp(disch:=try exact Y)only[Wz,tM];refine⟨λl h'=>ah l 4=YYQ e.hb/\HQ h1 h',⟨rfl,rfl⟩,?_⟩;rintro l h' ⟨hl,hq⟩;cases(show h1=h' from hq);simp(disch:=try exact Y)only[Wz,y7,hl,aN,gh];refine zj e.t e.r _ e.w id m e.Q h1 _ (by rw[<-eq];exact H.qv.1) XQ XQ ⟨gd.vq.w0,XQ⟩ ?_ ?_ ?_ ?_
  .intro ha h2 bF;have:=bF.nx;have:=bF.lo;simp(disch:=try exact Y)only[Wz,jM];exact hk2 _ ha ((bN.trans bF).new _)
  .intro ha hf;rw[hf]at hf0;cases hf0
  .intro ha p hf hs h2 bF;have:=bF.nx;have:=bF.lo;simp(disch:=try exact Y)only[Wz,jM];exact Qu _ e p ha he hf hs ((bN.trans bF).new _)
  .intro ha i p hi hf hs q' h2 Dz bF;have n2:=bF.nx;have l2:=bF.lo;obtain⟨vV,vW,rfl,_⟩:=(show Sl bH h2 q' _ from Dz.1)
   have vu:=gd.vq.upg hi hs ha;simp(disch:=try exact Y)only[Wz,jM];have cT:Le h1 ⟨h2.nx+1,h2.bl.bq h2.nx (fM e.t e.r (.slice vV (e.Q.set i (jq e.Q e.w p m).1).length vW) (jq e.Q e.w p m).2.1),h2.lo⟩:=bF.new _;have lh3:Le h2 ⟨h2.nx+1,h2.bl.bq h2.nx (fM e.t e.r (.slice vV (e.Q.set i (jq e.Q e.w p m).1).length vW) (jq e.Q e.w p m).2.1),h2.lo⟩:=(Le.refl h2).new _;refine tN (s1.le cT) (by show h2.lo<=h2.nx+1;omega) e.t e.r _ _ _ _ (Dz.1.le lh3) vu (by rw[List.length_set];omega) ?_;intro M' clock' v' h' s5 kR _ Mz;exact k_ h' M' clock' e p i ha he hi hf hs ⟨s5,(qW.of_le (bN.trans cT)).trans Mz,vu,kR⟩
theorem MA{h:af}{bb bm bp bl most:Nat}{M:List HE}{clock:Nat}{F:List Int}{B:List Bool}(s:bu h bb bm bp bl most M clock F B)(hlo:h.lo<=h.nx)(ids:rD M B)(id:Int)(V:KQ)(Ah:∀h',(∀e∈M,ct e.Q id=none)->Le h h'->V (.tuple ⟨[.slice none 0 0,YYY 5]⟩) h')(k_:∀h' M' clock' F' v' e p (n:Nat),e∈M->ct e.Q id=some p->id=(n:Int)->B[n]? = some true->F'.Perm (F++[(n:Int)])->j_ h h' bb bm bp bl most M M' clock' F' (B.set n false) e (e.Q.filter λr=>!b_ id r) e.w->AM h h' v' (dS (i_ (e.Q.filter λr=>!b_ id r)+1) (e.Q.filter λr=>!b_ id r)).2->V (.tuple ⟨[v',YYY 0]⟩) h'):aj prog 395 [YYQ bb,YYY id] h V:=by
 apply YYZ;rw[ZG];refine T8 s hlo id _ ?_ ?_
 .intro h1 hno bN;simp(disch:=try exact Y)only[Wz,qa];refine Qs bb h1 _ ?_;exact Ah h1 hno bN
 .intro h1 e p he hf bN;have n1:=bN.nx;have l1:=bN.lo;have s1:=s.le bN;have H:=s1.aY e he;have hlt:=H.lt;have gd:=s1.good e he;have sY:=gd.small;obtain⟨qx,qc,eq,_⟩:=(show Sl bH h1 e.q e.Q from H.qv.1)
  have gh:=H.get;rw[eq]at gh;obtain⟨n,en,Dy⟩:=ids.find he (iQ hf).1;have eid:id=(n:Int):=by rw[<-en];exact(iQ hf).2.symm
  have hFl:F.length<=1000:=by have:=tO s.aL.ok;have:=s.aL.small;omega
  simp(disch:=try exact Y)only[Wz,tM,F6,aN,gh];refine TU e.t e.r _ e.w id e.Q h1 _ (by rw[<-eq];exact H.qv.1) XQ XQ (by rw[hf];simp) ?_;intro q' h2 Dz bF;have n2:=bF.nx;have l2:=bF.lo;obtain⟨vV,vW,rfl,_⟩:=(show Sl bH h2 q' _ from Dz.1)
  have s2:=s1.le bF;have gb:=s2.iE;have hlb:=s2.SC;simp(disch:=try exact Y)only[Wz,jM];obtain⟨h3,e3⟩:∃h3:af,h3=⟨h2.nx+1,h2.bl.bq h2.nx (fM e.t e.r (.slice vV (e.Q.filter λr=>!b_ id r).length vW) e.w),h2.lo⟩:=⟨_,rfl⟩
  have cT:Le h2 h3:=by rw[e3];exact(Le.refl h2).new _
  have g3:h3.bl.get h2.nx=some (fM e.t e.r (.slice vV (e.Q.filter λr=>!b_ id r).length vW) e.w):=by rw[e3];exact T.au _ _ _
  have n3:h3.nx=h2.nx+1:=by rw[e3]
  have l3:h3.lo=h2.lo:=by rw[e3]
  rw[<-e3];clear e3;have s3:=s2.le cT;have hl:=gd.vq.filter λr=>!b_ id r;simp(disch:=try exact Y)only[Wz,gb,eid];refine aab bp bl F B n h3 _ s3.aL hFl XQ s3.ne Dy ?_;intro h4 F' p4 Ub fr4;have n4:=fr4.nx;have l4:=fr4.lo;have H4:=nh.fQ (e:=⟨e.t,e.r,h2.nx,0,_,e.w,_⟩) ⟨by show h2.nx<h3.nx;omega,g3,Dz.le cT⟩ s3.aL fr4;have g4:=H4.get;simp(disch:=try exact Y)only[Wz,g4];have lf:(e.Q.filter λr=>!b_ id r).length<=e.Q.length:=List.length_filter_le _ _;refine tN (s3.fQ p4 fr4) XQ e.t e.r _ _ _ _ H4.qv.1 hl (by show(e.Q.filter λr=>!b_ id r).length<=128;omega) ?_;intro M' clock' v' h' s5 kR oI Mz;have Wk:AM h h' v' _:=ia.base oI (by have:=bN.nx;omega);exact k_ h' M' clock' F' v' e p n he hf eid Dy Ub ⟨s5,(qW.of_le ((bN.trans bF).trans cT)).trans ((qW.aeZ fr4).trans Mz),hl,kR⟩ Wk
end Go.Proofs
