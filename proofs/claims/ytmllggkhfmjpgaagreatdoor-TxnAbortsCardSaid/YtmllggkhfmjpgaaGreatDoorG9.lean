/-
  PROVED HERE: a part of the proof (TX5, TX6, TX7, TX8, TX9, TX10, TX11, TX12, TX13, TX14, TX15, TX16, TX17, TX18, TX19, TX20, TX21, TX22, TX23, TX24, TX25, TX26, TY1, TY2).
-/
import Derived.Test.YtmllggkhfmjpgaaGreatDoorG8
import Derived.Test.YtmllggkhfmjpgaaGreatDoorG7
import Derived.Test.YtmllggkhfmjpgaaGreatDoorRZ
set_option linter.unusedVariables false
set_option linter.unusedSimpArgs false
set_option maxRecDepth 100000
set_option maxHeartbeats 4000000
noncomputable section
namespace Go.Proofs
open Go.Vai Go.Clashes
open Tryz (prog)
def sO(t:TypeId):Prop:=t=169\/t=233\/t=99
theorem sO.nt{t:TypeId}{o:Bool}(h:sO t):¬mE t o/\¬ki t o/\¬Kg t/\t≠175:=by
 rcases h with rfl|rfl|rfl<;>refine⟨?_,?_,by unfold Kg KI;decide,X7⟩<;>(first|unfold mE|unfold ki)<;>cases o<;>decide
structure KR(sm:Nat)(h h':af):Prop where
 nx:h.nx<=h'.nx
 lo:h'.lo=h.lo
 get:∀d,d<h.nx->d≠sm->(∀vs t o,sO t->h.bl.get d≠some (aj vs t o))->h'.bl.get d=h.bl.get d
theorem KR.le{sm:Nat}{h h':af}(l:Le h h'):KR sm h h':=⟨l.nx,l.lo,λd hd _ _=>l.get d hd⟩
theorem KR.trans{sm:Nat}{h h1 h2:af}(x:KR sm h h1)(y:KR sm h1 h2):KR sm h h2:=
 ⟨Nat.le_trans x.nx y.nx,y.lo.trans x.lo,λd hd hn ht=>(y.get d (Nat.lt_of_lt_of_le hd x.nx) hn λvs t o hu=>by rw[x.get d hd hn ht];exact ht vs t o hu).trans (x.get d hd hn ht)⟩
theorem MK.kr{sm:Nat}{h h':af}(k:MK sm h h'):KR sm h h':=⟨k.nx,k.lo,λd hd hn _=>k.get d hd hn⟩
theorem KR.put{sm:Nat}{h:af}{x:Nat}{v:List Value}{t:TypeId}{o:Bool}(hg:h.bl.get x=some (aj v t o))(ht:sO t)(ob:bP):KR sm h ⟨h.nx,h.bl.a_ x ob,h.lo⟩:=
 ⟨Nat.le_refl _,rfl,λd _ _ hn=>T.aD _ _ (by rintro rfl;exact hn _ _ _ ht hg)⟩
theorem KR.cell{sm:Nat}{h h':af}(k:KR sm h h'){es:List MapEntry}{c:Nat}(gm:h.bl.get sm=some (.map es c)){d:Nat}{v:List Value}{t:TypeId}{o:Bool}(hd:d<h.nx)(hg:h.bl.get d=some (aj v t o))(ht:¬sO t):h'.bl.get d=some (aj v t o):=by
 refine(k.get d hd (dL hg gm) λvs t' o' hu e=>?_).trans hg;rw[hg]at e;obtain⟨rfl,rfl⟩:=gV e;exact ht hu
section
variable {h h':af}{A:WA}{a:TA}{N n:Nat}{d:TD}{R:RD}{H X:Int->Int->Int}{x:iT}{out:Int}{E:EN}{D:AD}{kb:Nat}{c:CD}{sm:Nat}{es:List MapEntry}{cl:Nat}
theorem WS.kr(s:WS h A a N d R)(k:KR sm h h')(gm:h.bl.get sm=some (.map es cl))(hn:sm∉a.ms):WS h' A a N d R:=by
 have gw:=s.t.is.qw;have gb:=s.r.gm;have hlo:=s.lo;have knx:=k.nx;have klo:=k.lo;have mp:∀y es' c',y<h.nx->y∈a.ms->h.bl.get y=some (.map es' c')->h'.bl.get y=h.bl.get y:=λy es' c' hy hm hg=>k.get y hy (λe=>hn (e▸hm)) λvs t o _ e=>by rw[hg]at e;exact bY e
 refine⟨s.t.only knx klo (λc vs ty op hc ht hf hg=>k.get c hc (dL hg gm) λvs' t o hu e=>?_) (mp _ _ _ s.t.is.De s.mi.2.1 gw) (λb hb=>mp _ _ _ (s.t.is.bk b hb).jV (s.mi.2.2 b hb) (s.t.is.bk b hb).g_),s.r.keep knx klo (λc vs ty op hc hr hg=>k.get c hc (dL hg gm) λvs' t o hu e=>?_) (mp _ _ _ s.r.jV.1 s.mi.1 gb),s.mw,s.mm,s.mi,X1⟩
 .rw[hg]at e;obtain⟨rfl,rfl⟩:=gV e;exact hu.nt.1 ht
 .rw[hg]at e;obtain⟨rfl,rfl⟩:=gV e;exact hu.nt.2.1 hr
theorem WI.kr(s:WI h A a H X N n x out)(k:KR sm h h')(gm:h.bl.get sm=some (.map es cl))(hn:sm∉a.ms):WI h' A a H X N n x out:=by
 obtain⟨⟨d,R,N0,s1,s2⟩,s3,s4⟩:=s;exact⟨⟨d,R,N0,s1.kr k gm hn,s2⟩,s3,s4⟩
theorem KR.ka(k:KR sm h h')(gm:h.bl.get sm=some (.map es cl)):KA h h':=⟨k.nx,k.lo,λd vs t o hd hg ht=>(k.cell gm hd hg λhu=>hu.nt (o:=o).2.2.1 ht).trans hg.symm⟩
theorem AI.kr(s:AI h E H X N D)(k:KR sm h h')(gm:h.bl.get sm=some (.map es cl))(hn:sm∉E.a.ms):AI h' E H X N D:=⟨λy o=>(s.w y o).kr k gm hn,s.g.ka (k.ka gm),s.wb,s.th⟩
theorem AW.kr(s:AW h E H X N n x out D kb c)(k:KR sm h h')(gm:h.bl.get sm=some (.map es cl))(hn:sm∉E.a.ms):AW h' E H X N n x out D kb c:=⟨s.w.kr k gm hn,s.g.ka (k.ka gm),s.c.ka (k.ka gm),s.wb,s.th⟩
end
def RKp(h h':af):Prop:=∀d vs o,d<h.nx->h.bl.get d=some (aj vs 169 o)->h'.bl.get d=some (aj vs 169 o)
structure W4 where
 t:Int
 r:Int
 v:Int
 is:Bool
def qD(p:W4):List Value:=[X8 p.t,X8 p.r,X8 p.v,.bool p.is]
theorem yo(p:W4):(qD p).length=4:=rfl
theorem Eh(p:W4):(qD p).all ef=true:=rfl
structure mF(h0 h:af)(lb:Nat)(L:List W4):Prop where
 lt:lb<h.nx/\h.lo<=lb
 b0:h0.nx<=lb
 g:∃v,h.bl.get lb=some (aj [v] 233 false)/\Own qD h0 99 h v L
 lv:∀p∈L,br p.t p.r=2
theorem Own.keep{α:Type}{enc:α->List Value}{a h h':af}{e:TypeId}{v:Value}{L:List α}(o:Own enc a e h v L)(hn:h.nx<=h'.nx)(hl:h'.lo=h.lo)(hg:∀b vs,b<h.nx->h.bl.get b=some (aj vs e true)->h'.bl.get b=h.bl.get b):Own enc a e h' v L:=by
 rcases o with o|⟨b,e1,h1,h2,h3,h4⟩
 .exact .inl o
 .exact .inr ⟨b,e1,h1,X1,X1,(hg b _ h2 h4).trans h4⟩
section
variable {h0 h h':af}{lb sm:Nat}{L:List W4}{es:List MapEntry}{cl:Nat}
theorem mF.le(s:mF h0 h lb L)(l:Le h h'):mF h0 h' lb L:=by
 obtain⟨v,g,o⟩:=s.g;exact⟨⟨Nat.lt_of_lt_of_le s.lt.1 l.nx,by rw[l.lo];exact s.lt.2⟩,s.b0,⟨v,(l.get _ s.lt.1).trans g,o.le l⟩,s.lv⟩
theorem mF.fk{a:TA}(s:mF h0 h lb L)(k:FK a h h'):mF h0 h' lb L:=by
 obtain⟨v,g,o⟩:=s.g;exact⟨⟨Nat.lt_of_lt_of_le s.lt.1 k.nx,by rw[k.lo];exact s.lt.2⟩,s.b0,⟨v,(k.ty _ _ _ _ s.lt.1 g (by unfold mE;decide) (by unfold ki;decide) (by unfold KI;decide)).trans g,o.keep k.nx k.lo λb vs hb hg=>k.ty _ _ _ _ hb hg (by unfold mE;decide) (by unfold ki;decide) (by unfold KI;decide)⟩,s.lv⟩
theorem mF.mks(s:mF h0 h lb L)(k:MK sm h h')(gm:h.bl.get sm=some (.map es cl)):mF h0 h' lb L:=by
 obtain⟨v,g,o⟩:=s.g;exact⟨⟨Nat.lt_of_lt_of_le s.lt.1 k.nx,by rw[k.lo];exact s.lt.2⟩,s.b0,⟨v,k.cell gm s.lt.1 g,o.keep k.nx k.lo λb vs hb hg=>(k.cell gm hb hg).trans hg.symm⟩,s.lv⟩
theorem mF.put(s:mF h0 h lb L){x:Nat}{v:List Value}{t:TypeId}{o:Bool}(hg:h.bl.get x=some (aj v t o))(h1:t≠233)(h2:t≠99)(ob:bP):mF h0 ⟨h.nx,h.bl.a_ x ob,h.lo⟩ lb L:=by
 obtain⟨v,g,o⟩:=s.g;exact⟨s.lt,s.b0,⟨v,(T.aD _ _ (dK hg g h1)).trans g,o.keep (Nat.le_refl _) rfl λb vs hb hgb=>T.aD _ _ (dK hg hgb h2)⟩,s.lv⟩
theorem abg(h:af)(b o:Nat):mR prog h 100 165 (.pointer (some ⟨b,o,none⟩)) (.pointer none)=some false:=by kernel_rfl
theorem CA{β:Type}{fl:β}(cn:Bool)(b o:Nat)(h:af)(V:X3 β):aI fl prog .eql 165 cn false (.pointer (some ⟨b,o,none⟩)) (.pointer none) h V=V (.bool false) h:=by simp only[aI,abg,bX]
theorem VP{β:Type}{fl:β}(cn:Bool)(b o:Nat)(h:af)(V:X3 β):aI fl prog .neq 165 cn false (.pointer (some ⟨b,o,none⟩)) (.pointer none) h V=V (.bool true) h:=by simp only[aI,abg,bX,Bool.not_false]
theorem VS(s:mF h0 h lb L)(qJ:Le h0 h)(hlo:h.lo<=h.nx)(hL:L.length<=1000)(p:W4)(lv:br p.t p.r=2)(V:KQ)(hk:∀h',mF h0 h' lb (L++[p])->(∀sm,KR sm h h')->RKp h h'->Le h0 h'->V (X8 0) h'):av prog 387 [pt lb,.agg ⟨qD p⟩] h V:=by
 apply X9;rw[aez];simp(disch:=try exact Y)only[Wz,qD];obtain⟨hA,aY,aU,g1,dI,dJ⟩:=kG h (aj [X8 p.t,X8 p.r,X8 p.v,.bool p.is] 99 false);rw[<-aY]
 try rw[show(h.bl.a_ (h.nx) (aj [X8 p.t,X8 p.r,X8 p.v,.bool p.is] 99 false))=hA.bl by rw[aY]]
 clear aY;have sA:=s.le aU;obtain⟨v,gl,o⟩:=sA.g;have hlt:=sA.lt;simp(disch:=try exact Y)only[Wz,CA,I7,g1];refine lH p.t p.r ?_;rw[lv];simp(disch:=try exact Y)only[Wz,I6,aN,gl,g1];have mB:=(Le.refl hA).new (aj [X8 p.t,X8 p.r,X8 p.v,.bool p.is] 99 false);refine jM (enc:=qD) (a:=h0) (L:=L) (M:=[p]) yo Eh X7 X7 (o.le mB) ⟨_,1,rfl,λ_=>⟨hA.nx,0,rfl,Nat.lt_succ_self _,by show Has ((T.a_ _ _ _).get _) 0 _;rw[T.ay];exact Has.all⟩⟩ ((qJ.trans aU).trans mB) (by simp;omega) (by show hA.lo<=hA.nx+1;omega) _ ?_;intro v' h3 o3 dM _ n3 l3 abh;have n3:hA.nx+1<=h3.nx:=n3;have l3:h3.lo=hA.lo:=l3;obtain⟨x',c',e',_⟩:=(show Sl qD h3 v' _ from o3.sl)
 have fr:∀d,d<h.nx->(∀vs o,h.bl.get d≠some (aj vs 99 o))->h3.bl.get d=h.bl.get d:=λd hd ht=>by
  have e1:((hA.bl.a_ hA.nx (aj [X8 p.t,X8 p.r,X8 p.v,.bool p.is] 99 false))).get d=h.bl.get d:=(T.aD _ _ X1).trans (aU.get d hd);exact(abh d (by show d<hA.nx+1;omega) (by show(T.a_ _ _ _).get d≠_;rw[e1];exact ht _ _)).trans e1
 have WR:h3.bl.get lb=some (aj [v] 233 false):=by
  have e1:((hA.bl.a_ hA.nx (aj [X8 p.t,X8 p.r,X8 p.v,.bool p.is] 99 false))).get lb=_:=(T.aD _ _ X1).trans gl;exact(abh lb (by show lb<hA.nx+1;omega) (by show(T.a_ _ _ _).get lb≠_;rw[e1];exact bJ X7)).trans e1
 have azr:=s.lt;have hb0:=s.b0;subst e';simp(disch:=try exact Y)only[Wz,aN,WR];refine hk _ ⟨⟨by show lb<h3.nx;omega,by show h3.lo<=lb;omega⟩,s.b0,⟨_,T.ay _ _ _,Own.put o3 (by rw[WR];exact bJ X7) _⟩,λq hq=>?_⟩ (λsm=>⟨by show h.nx<=h3.nx;omega,by show h3.lo=h.lo;omega,λd hd _ ht=>?_⟩) (λd vs o hd hg=>?_) (dM.set hb0 _)
 .rcases List.mem_append.1 hq with hq|hq
  .exact s.lv q hq
  .rw[List.mem_singleton]at hq;subst hq;exact lv
 .refine(T.aD _ _ ?_).trans (fr d hd λvs o=>ht vs _ o (.inr (.inr rfl)));rintro rfl;obtain⟨v0,g0,_⟩:=s.g;exact ht _ _ _ (.inr (.inl rfl)) g0
 .refine((T.aD _ _ ?_).trans (fr d hd λvs' o' e=>?_)).trans hg
  .rintro rfl;obtain⟨v0,g0,_⟩:=s.g;exact dK hg g0 X7 rfl
  .rw[hg]at e;exact bJ X7 e
theorem amW:DX prog 93:=⟨λh n c n' c'=>by kernel_rfl,λh a n c n' c'=>by kernel_rfl⟩
def zW:List Value:=[X8 0,X8 0,X8 0,.bool false]
theorem agK(a0:Value)(h:af)(V:KQ):aV prog 146 [a0] h V=vK prog 93 99 4 zW a0 h V:=by kernel_rfl
theorem VT(s:mF h0 h lb L)(hlo:h.lo<=h.nx)(hL:L.length<=1000)(V:KQ)(hk:∀v h',Own qD h 99 h' v L->Le h h'->V v h'):av prog 90 [pt lb] h V:=by
 obtain⟨v,gl,o⟩:=s.g;apply X9;rw[akp];simp(disch:=try exact Y)only[Wz,CA,aN,gl];refine LB mixed yo Eh X7 X7 amW agK L h v _ o.sl X1 hlo ?_;intro v' h' o' le';exact hk v' h' o' le'
theorem ZE(s:mF h0 h lb L)(hlo:h.lo<=h.nx)(hL:L.length<=1000)(V:KQ)(hk:∀h',Le h h'->V (X8 (L.length:Int)) h'):av prog 277 [pt lb] h V:=by
 apply X9;rw[adZ];refine VT s hlo hL _ ?_;intro v h' o le;have hlen:=o.sl.len (β:=Prop) (fl:=False);simp(disch:=try exact Y)only[Wz,hlen];exact hk h' le
theorem Pc(s:mF h0 h lb L)(qJ:Le h0 h)(hlo:h.lo<=h.nx)(hL:L.length<=1000)(V:KQ)(hk:∀h',mF h0 h' lb []->(∀sm,KR sm h h')->RKp h h'->Le h0 h'->V (X8 (L.length:Int)) h'):av prog 197 [pt lb] h V:=by
 apply X9;rw[ads];refine ZE s hlo hL _ ?_;intro h1 bN;have s1:=s.le bN;obtain⟨v,gl,o⟩:=s1.g;have hlt:=s1.lt;have hb0:=s.b0;refine⟨λl' h'=>h'=⟨h1.nx,h1.bl.a_ lb (aj [.slice none 0 0] 233 false),h1.lo⟩,?_,?_⟩
 .simp(disch:=try exact Y)only[Wz,Ii,VP,aN,gl]
 .rintro l' h' rfl;exact hk _ ⟨hlt,s.b0,⟨_,T.ay _ _ _,.inl ⟨rfl,.inl rfl⟩⟩,λp hp=>by cases hp⟩ (λsm=>(KR.le bN).trans (KR.put gl (.inr (.inl rfl)) _)) (λd vs o hd hg=>(T.aD _ _ (dK gl ((bN.get d hd).trans hg) X7)).trans ((bN.get d hd).trans hg)) ((qJ.trans bN).set hb0 _)
end
structure pI where
 k:Int
 t:Int
 r:Int
 m:Int
 v:Int
 w:Int
def jo(o:pI):List Value:=[X8 o.k,X8 o.t,X8 o.r,X8 o.m,X8 o.v,X8 o.w]
theorem encO_len(o:pI):(jo o).length=6:=rfl
def jq(k:Int):Int:=if k=2\/k=3\/k=4\/k=5 then 2 else if k=6 then 1 else 0
theorem agL:∀i:Nat,i<9->bR prog 200 195 [X8 (i:Nat)] (X8 (jq (i:Nat)))=true:=by decide +kernel
theorem agM(k:Int)(hk:2<=k/\k<=8){h:af}{V:KQ}(hκ:V (X8 (jq k)) h):av prog 195 [X8 k] h V:=by
 obtain⟨i,rfl⟩:=Int.eq_ofNat_of_zero_le (show 0<=k by omega);exact s9 mixed (agL i X1) hκ
theorem MF(n lo hi:Int)(th:Bool){h:af}{V:KQ}(hκ:V (.bool (if th=true then decide (lo<=n) && decide (n<=hi)else decide (n=0))) h):av prog 196 [X8 n,X8 lo,X8 hi,.bool th] h V:=by
 apply X9;rw[adr];cases th with
 |false=>
  rw[if_neg X7]at hκ;simp(disch:=try exact Y)only[Wz];exact hκ
 |true=>
  rw[if_pos rfl]at hκ;by_cases h1:lo<=n
  .rw[bz h1,Bool.true_and]at hκ;simp(disch:=try exact Y)only[Wz,Bm,d_ h1,U7];exact hκ
  .rw[bf h1,Bool.false_and]at hκ;simp(disch:=try exact Y)only[Wz,Bm,f_ (show n<lo by omega)];exact hκ
def tU(o:pI):Prop:=0<=o.w/\br o.t o.r=jq o.k
def OpG(o:pI):Prop:=br o.t o.r=jq o.k/\o.m=0/\(if o.k=3\/o.k=4 then 0<=o.v/\o.v<=255 else o.v=0)/\(if 0<jq o.k then 0<=o.w/\o.w<=255 else o.w=0)
def OpH(o:pI)(nb vb wb:Bool):Prop:=nb=true/\o.m=0/\(if vb=true then 0<=o.v/\o.v<=255 else o.v=0)/\(if wb=true then 0<=o.w/\o.w<=255 else o.w=0)
theorem amX(o:pI)(Yx:2<=o.k/\o.k<=8){hA:af}{b1:Nat}(g1:hA.bl.get b1=some (aj (jo o) 92 false))(nb vb wb:Bool)(hnb:nb=true->br o.t o.r=jq o.k)(D1:List Value->af->Prop)(hN:∀l bad,ah l 27=.bool bad->(bad=false->tU o)->(OpH o nb vb wb->bad=false)->D1 l hA):Bh b1 D1 (.bool nb) (.bool vb) (.bool wb) hA:=by
 unfold jo at g1;have h9:¬o.k=9:=by omega
 simp(disch:=try exact Y)only[Wz,Bh,g1,d_ (show(1:Int)<=o.k by omega),d_ (show o.k<=11 by omega)];cases nb with
 |false=>
  simp(disch:=try exact Y)only[Wz];exact hN _ true rfl (λe=>by cases e) λg=>absurd g.1 X7
 |true=>
  simp(disch:=try exact Y)only[Wz,HU,g1,bf h9];refine MF _ _ _ false ?_;rw[if_neg X7];by_cases hm:o.m=0
  .simp(disch:=try exact Y)only[Wz,bz hm,HT,g1];refine MF _ _ _ vb ?_;generalize hb:(if vb=true then decide ((0:Int)<=o.v) && decide (o.v<=255)else decide (o.v=0))=b;cases b with
   |false=>
    simp(disch:=try exact Y)only[Wz];exact hN _ true rfl (λe=>by cases e) λg=>by
     obtain⟨_,_,g3,_⟩:=g;cases vb with
     |true=>rw[if_pos rfl,Bool.and_eq_false_iff,decide_eq_false_iff_not,decide_eq_false_iff_not]at hb;rw[if_pos rfl]at g3;omega
     |false=>rw[if_neg X7,decide_eq_false_iff_not]at hb;rw[if_neg X7]at g3;omega
   |true=>
    simp(disch:=try exact Y)only[Wz,g1];refine MF _ _ _ wb ?_;generalize hc:(if wb=true then decide ((0:Int)<=o.w) && decide (o.w<=255)else decide (o.w=0))=c;cases c with
    |false=>
     simp(disch:=try exact Y)only[Wz];exact hN _ true rfl (λe=>by cases e) λg=>by
      obtain⟨_,_,_,g4⟩:=g;cases wb with
      |true=>rw[if_pos rfl,Bool.and_eq_false_iff,decide_eq_false_iff_not,decide_eq_false_iff_not]at hc;rw[if_pos rfl]at g4;omega
      |false=>rw[if_neg X7,decide_eq_false_iff_not]at hc;rw[if_neg X7]at g4;omega
    |true=>
     simp(disch:=try exact Y)only[Wz];refine hN _ false rfl (λ_=>⟨?_,hnb rfl⟩) λ_=>rfl;cases wb with
     |true=>rw[if_pos rfl,Bool.and_eq_true,decide_eq_true_eq]at hc;exact hc.1
     |false=>rw[if_neg X7,decide_eq_true_eq]at hc;omega
  .simp(disch:=try exact Y)only[Wz,bf hm];exact hN _ true rfl (λe=>by cases e) λg=>absurd g.2.1 hm
theorem atJ(o:pI)(Yx:2<=o.k/\o.k<=8)(h:af)(hlo:h.lo<=h.nx)(V:KQ)(hk:∀e h',Le h h'->(e=0->tU o)->(OpG o->e=0)->V (X8 e) h'):av prog 141 [.agg ⟨jo o⟩] h V:=by
 apply X9;rw[acS];simp(disch:=try exact Y)only[Wz,jo];obtain⟨hA,aY,aU,g1,dI,dJ⟩:=kG h (aj [X8 o.k,X8 o.t,X8 o.r,X8 o.m,X8 o.v,X8 o.w] 92 false);rw[<-aY]
 try rw[show(h.bl.a_ (h.nx) (aj [X8 o.k,X8 o.t,X8 o.r,X8 o.m,X8 o.v,X8 o.w] 92 false))=hA.bl by rw[aY]]
 clear aY;refine agM o.k Yx ?_;simp(disch:=try exact Y)only[Wz,g1];refine lH o.t o.r ?_;have hwk:jq o.k=0\/jq o.k=1\/jq o.k=2:=by unfold jq;split<;>(try split)<;>simp
 obtain⟨d3,e3⟩:∃d,decide (o.k=3)=d:=⟨_,rfl⟩
 obtain⟨d4,e4⟩:∃d,decide (o.k=4)=d:=⟨_,rfl⟩
 have h10:decide (o.k=10)=false:=bf X1;have inn:=λ(nb vb wb:Bool)(hnb:nb=true->br o.t o.r=jq o.k)(D1:List Value->af->Prop)=>amX o Yx (b1:=h.nx) g1 nb vb wb hnb D1;have gg:∀(nb vb wb:Bool),(br o.t o.r=jq o.k->nb=true)->(vb=(d3 || d4))->(wb=decide (0<jq o.k))->OpG o->OpH o nb vb wb:=λnb vb wb n1 n2 n3 g=>by
  obtain⟨a1,a2,a3,a4⟩:=g;refine⟨n1 a1,a2,?_,?_⟩
  .rw[n2,<-e3,<-e4];by_cases c3:o.k=3
   .rw[if_pos (.inl c3)]at a3;rw[if_pos (by simp[c3])];exact a3
   .by_cases c4:o.k=4
    .rw[if_pos (.inr c4)]at a3;rw[if_pos (by simp[c4])];exact a3
    .rw[if_neg (λe=>e.elim c3 c4)]at a3;rw[if_neg (by simp[c3,c4])];exact a3
  .rw[n3];by_cases c:0<jq o.k
   .rw[if_pos c]at a4;rw[if_pos (decide_eq_true c)];exact a4
   .rw[if_neg c]at a4;rw[if_neg (by simp[c])];exact a4
 generalize hwv:jq o.k=want at hwk inn gg;rcases hwk with rfl|rfl|rfl<;>rcases qz o.t o.r with h1|h1|h1|h1<;>rw[h1]at inn gg ⊢<;>cases d3<;>cases d4
 all_goals simp(disch:=try exact Y)only[Wz,g1,e3,e4,h10]
 all_goals refine⟨λl' h'=>Le hA h'/\tU o,?_,λl' h' q=>hk 0 h' (aU.trans q.1) (λ_=>q.2) λ_=>rfl⟩
 all_goals refine⟨λl' h'=>∃bad,ah l' 27=.bool bad/\Le hA h'/\(bad=false->tU o)/\(OpG o->bad=false),?_,?_⟩
 all_goals first|(refine inn _ _ _ X7 _ λl bad e f g=>⟨bad,e,Le.refl _,f,λq=>g (gg _ _ _ X7 rfl rfl q)⟩)|skip
 all_goals (rintro l' h' ⟨bad,e27,le',f,g⟩;cases bad)
 all_goals simp(disch:=try exact Y)only[Wz,e27]
 all_goals first|exact⟨le',f rfl⟩|exact hk 2 h' (aU.trans le') (λe=>by cases e) λq=>absurd (g q) X7
abbrev fBk:FuncId:=198
abbrev fBw:FuncId:=332
def abi(f:FuncId):Bool:=Nat.beq f fBk || Nat.beq f fBw
noncomputable abbrev tJ:lN Prop:=prK prog abi
noncomputable abbrev oq(n:Nat):Rec Prop:=run False tJ prog n
def cBk:Code:=x7 prog fBk
def cBw:Code:=x7 prog fBw
def q0:Code:=jC cBk
def qA:Code:=jC (jU cBk)
def q1:Code:=jC qA
def cnA:Code->Code | .cond _ a _=>a|c=>c
def cnB:Code->Code | .cond _ _ b=>b|c=>c
def qE:Code:=cnA (jU qA)
def qB:Code:=jU (jU cBk)
def q3:Code:=jC (jC qB)
def qF:Code:=L6 (jU (jC qB))
def q4:Code:=rfA qF
def qG:Code:=L6 (rfB qF)
def q5:Code:=jC qG
def q6:Code:=cnA (jU qG)
def q7:Code:=cnB (jU qG)
def q8:Code:=jC (jU qB)
theorem agP:cBk=.seq q0 (.seq (.seq q1 (.cond (.tmp 13) qE .skip)) (.seq (.seq q3 (.block 0 (.rangeFunc (.tmp 18) #[19,20] q4 (.block 1 (.seq q5 (.cond (.tmp 22) q6 q7)))))) (.seq q8 .ret))):=by kernel_rfl
def b0:Code:=jC cBw
def bL:Code:=L6 (L6 (jU cBw))
def b1:Code:=jC (jC bL)
def bM:Code:=L6 (jC (jU bL))
def b2:Code:=jC bM
def b3:Code:=jU (jU bL)
theorem agQ:cBw=.seq b0 (.block 0 (.loop (.seq (.seq b1 (.cond (.tmp 8) .skip (.exit 0))) (.seq (.block 1 (.seq b2 (.cond (.tmp 18) .ret .skip))) b3)))):=by kernel_rfl
variable (rec:Rec Prop)(tm:T Value)(h:af)
theorem rq0(V:Ex->T Value->af->Prop):body False tJ prog rec q0 tm h V=ev tm (.tmp 1) λs=>aM False (Value.cells s).toList 83 false λo=>aH False o h λb h=>T.set tm 3 (ax b) λtm=>T.set tm 4 (X8 0) λtm=>T.set tm 5 (X8 0) λtm=>V .normal tm h:=by kernel_rfl
theorem rq4(V:Ex->T Value->af->Prop):body False tJ prog rec q4 tm h V=aH False (aj [X8 0,X8 0,X8 0,.bool false] 99 false) h λb h=>T.set tm 7 (ax b) λtm=>ev tm (.tmp 7) λa=>ev tm (.tmp 20) λv=>aT False 4 a v h λv h=>V .normal tm h:=by kernel_rfl
theorem rq5(V:Ex->T Value->af->Prop):body False tJ prog rec q5 tm h V=ev tm (.tmp 7) λx=>aa False 3 x h λv h=>T.set tm 21 v λtm=>ev tm (.tmp 21) λx=>aF False x h λv h=>T.set tm 22 v λtm=>V .normal tm h:=by kernel_rfl
theorem rb0(V:Ex->T Value->af->Prop):body False tJ prog rec b0 tm h V=ev tm (.tmp 1) λx=>aF False x h λv h=>T.set tm 4 v λtm=>ev tm (.tmp 4) λx=>bU False x h λv h=>T.set tm 5 v λtm=>ev tm (.tmp 5) λx=>aI False prog .sub 3 true false x (X8 1) h λv h=>T.set tm 6 v λtm=>ev tm (.tmp 6) λv=>T.set tm 3 v λtm=>V .normal tm h:=by kernel_rfl
theorem rb1(V:Ex->T Value->af->Prop):body False tJ prog rec b1 tm h V=ev tm (.tmp 3) λx=>T.set tm 7 x λtm=>ev tm (.tmp 7) λx=>aI False prog .geq 3 true false x (X8 0) h λv h=>T.set tm 8 v λtm=>V .normal tm h:=by kernel_rfl
theorem rb2(V:Ex->T Value->af->Prop):body False tJ prog rec b2 tm h V=ev tm (.tmp 0) λf=>T.set tm 11 f λtm=>ev tm (.tmp 3) λx=>T.set tm 12 x λtm=>ev tm (.tmp 1) λx=>aF False x h λv h=>T.set tm 13 v λtm=>ev tm (.tmp 3) λx=>T.set tm 14 x λtm=>
  ev tm (.tmp 13) λs=>ev tm (.tmp 14) λi=>aO False 4 s i h λv h=>T.set tm 15 v λtm=>ev tm (.tmp 15) λx=>aL False 4 x h λv h=>T.set tm 16 v λtm=>ev tm (.tmp 12) λx=>ev tm (.tmp 16) λy=>ev tm (.tmp 11) λf=>tW False tJ prog rec f [x,y] h λv h=>T.set tm 17 v λtm=>ev tm (.tmp 17) λx=>jh False .not x h λv h=>T.set tm 18 v λtm=>V .normal tm h:=by kernel_rfl
theorem rb3(V:Ex->T Value->af->Prop):body False tJ prog rec b3 tm h V=ev tm (.tmp 3) λx=>T.set tm 9 x λtm=>ev tm (.tmp 9) λx=>aI False prog .sub 3 true false x (X8 1) h λv h=>T.set tm 10 v λtm=>ev tm (.tmp 10) λv=>T.set tm 3 v λtm=>V .normal tm h:=by kernel_rfl
theorem rq3(V:Ex->T Value->af->Prop):body False tJ prog rec q3 tm h V=ev tm (.tmp 0) λx=>T.set tm 14 x λtm=>ev tm (.tmp 14) λx=>aW False x h λv h=>T.set tm 15 v λtm=>ev tm (.tmp 15) λx=>aa False 0 x h λv h=>T.set tm 16 v λtm=>ev tm (.tmp 16) λx=>aF False x h λv h=>T.set tm 17 v λtm=>ev tm (.tmp 17) λx=>av prog 278 [x] h λv h=>T.set tm 18 v λtm=>V .normal tm h:=by kernel_rfl
theorem rq8(V:Ex->T Value->af->Prop):body False tJ prog rec q8 tm h V=ev tm (.tmp 0) λx=>T.set tm 33 x λtm=>ev tm (.tmp 33) λx=>av prog 197 [x] h λv h=>T.set tm 34 v λtm=>ev tm (.tmp 34) λv=>T.set tm 4 v λtm=>T.set tm 5 (X8 0) λtm=>V .normal tm h:=by kernel_rfl
theorem agR(x y:Value)(V:KQ):iU False tJ prog rec fBk [x,y] h V=rec cBk (lay [x,y] .nil 0) h (tK False [.tmp 4,.tmp 5] V):=by kernel_rfl
theorem agS(y m:Value)(V:KQ):iU False tJ prog rec fBw [y,m] h V=rec cBw (lay [y,m] .nil 0) h (tK False [] V):=by kernel_rfl
def gBb(b:Bool)(x y:Prop):Prop:=Bool.rec (motive:=λ_=>Prop) x y b
def gOb(g:Option (Nat × Bool))(d:Nat)(tm:T Value)(h:af)(f:(Value->af->Prop)->Prop)(K:T Value->af->Prop):Prop:=gBb (iV tm g) (T.set tm d undef λtm=>K tm h) (f λv h=>T.set tm d v λtm=>K tm h)
theorem rq1(V:Ex->T Value->af->Prop):body False tJ prog rec q1 tm h V=ev tm (.tmp 0) λx=>T.set tm 8 x λtm=>ev tm (.tmp 8) λx=>aI False prog .eql 165 true false x (.pointer none) h λv h=>T.set tm 9 v λtm=>ev tm (.tmp 9) λx=>T.set tm 10 x λtm=>
  gOb (some (10,false)) 11 tm h (λk=>ev tm (.tmp 3) λx=>aF False x h k) λtm h=>gOb (some (10,false)) 12 tm h (λk=>ev tm (.tmp 11) λx=>aI False prog .eql 83 true false x (.pointer none) h k) λtm h=>
  ev tm (.tmp 10) λa=>ev tm (.tmp 12) λb=>bq False a (.bool true) b h λv h=>T.set tm 13 v λtm=>V .normal tm h:=by kernel_rfl
theorem rq6(V:Ex->T Value->af->Prop):body False tJ prog rec q6 tm h V =
  ev tm (.tmp 3) λx=>aF False x h λv h=>T.set tm 23 v λtm=>ev tm (.tmp 7) λx=>aa False 0 x h λv h=>T.set tm 24 v λtm=>ev tm (.tmp 24) λx=>aL False 2 x h λv h=>T.set tm 25 v λtm=>ev tm (.tmp 7) λx=>aa False 2 x h λv h=>T.set tm 26 v λtm=>ev tm (.tmp 26) λx=>aF False x h λv h=>T.set tm 27 v λtm=>
  ev tm (.tmp 25) λy=>ev tm (.tmp 27) λz=>ev tm (.tmp 23) λx=>av prog 43 [x,y,z] h λv h=>T.set tm 28 v λtm=>V .normal tm h:=by kernel_rfl
theorem rq7(V:Ex->T Value->af->Prop):body False tJ prog rec q7 tm h V =
  ev tm (.tmp 3) λx=>aF False x h λv h=>T.set tm 29 v λtm=>ev tm (.tmp 7) λx=>aa False 0 x h λv h=>T.set tm 30 v λtm=>ev tm (.tmp 30) λx=>aL False 2 x h λv h=>T.set tm 31 v λtm=>
  ev tm (.tmp 29) λx=>ev tm (.tmp 31) λy=>av prog 279 [x,y] h λv h=>T.set tm 32 v λtm=>V .normal tm h:=by kernel_rfl
theorem jw{M:List HE}{ck:Nat}(o:cO M ck)(t r v:Int):cM M t r=some v<->∃e∈M,e.t=t/\e.r=r/\e.w=v:=by
 unfold cM;constructor
 .intro h;cases hf:M.find? (jO t r)with
  |none=>rw[hf]at h;cases h
  |some e=>
   rw[hf]at h;have h1:jO t r e=true:=List.find?_some hf;unfold jO at h1;rw[decide_eq_true_eq]at h1;exact⟨e,List.mem_of_find?_eq_some hf,h1.1.symm,h1.2.symm,Option.some.inj h⟩
 .rintro⟨e,he,rfl,rfl,rfl⟩;cases hf:M.find? (jO e.t e.r)with
  |none=>
   have:=List.find?_eq_none.1 hf e he;unfold jO at this;simp at this
  |some e'=>
   have h1:jO e.t e.r e'=true:=List.find?_some hf;unfold jO at h1;rw[decide_eq_true_eq]at h1;have:=o.uniq he (List.mem_of_find?_eq_some hf) h1.1 h1.2;rw[<-this];rfl
def iO(f:Int->Int->Option Int)(t r:Int)(v:Option Int):Int->Int->Option Int:=λa b=>if a=t/\b=r then v else f a b
theorem Pd{a b:Option Int}(h:∀v,a=some v<->b=some v):a=b:=by
 cases a with
 |none=>
  cases b with
  |none=>rfl
  |some x=>exact absurd ((h x).2 rfl) (by simp)
 |some x=>exact((h x).1 rfl).symm
theorem wT{M M':List HE}{ck eY b:Nat}{t r v:Int}(o:cO M ck)(o':cO M' eY)(hp:M'.Perm (M.filter (λx=>!jO t r x)++[zE t r v b])):cM M'=iO (cM M) t r (some v):=by
 funext x y;refine Pd λu=>?_;rw[jw o'];unfold iO;constructor
 .rintro⟨e,he,rfl,rfl,rfl⟩;rcases List.mem_append.1 (hp.mem_iff.1 he)with h|h
  .rw[List.mem_filter]at h;have:=lY.1 h.2;rw[if_neg (λe=>this ⟨e.1.symm,e.2.symm⟩),jw o];exact⟨e,h.1,rfl,rfl,rfl⟩
  .rw[List.mem_singleton]at h;subst h;rw[if_pos ⟨rfl,rfl⟩];rfl
 .intro h;by_cases e:x=t/\y=r
  .rw[if_pos e]at h;cases h;exact⟨_,hp.mem_iff.2 (List.mem_append_right _ (List.mem_singleton.2 rfl)),e.1.symm,e.2.symm,rfl⟩
  .rw[if_neg e,jw o]at h;obtain⟨e',he,rfl,rfl,rfl⟩:=h;exact⟨e',hp.mem_iff.2 (List.mem_append_left _ (List.mem_filter.2 ⟨he,lY.2 λh=>e ⟨h.1.symm,h.2.symm⟩⟩)),rfl,rfl,rfl⟩
theorem Pe{M:List HE}{ck:Nat}{t r:Int}(o:cO M ck):cM (M.filter λx=>!jO t r x)=iO (cM M) t r none:=by
 funext x y;refine Pd λu=>?_;rw[jw (o.filter _)];unfold iO;constructor
 .rintro⟨e,he,rfl,rfl,rfl⟩;rw[List.mem_filter]at he;have:=lY.1 he.2;rw[if_neg (λe=>this ⟨e.1.symm,e.2.symm⟩),jw o];exact⟨e,he.1,rfl,rfl,rfl⟩
 .intro h;by_cases e:x=t/\y=r
  .rw[if_pos e]at h;cases h
  .rw[if_neg e,jw o]at h;obtain⟨e',he,rfl,rfl,rfl⟩:=h;exact⟨e',List.mem_filter.2 ⟨he,lY.2 λh=>e ⟨h.1.symm,h.2.symm⟩⟩,rfl,rfl,rfl⟩
def oe(L:List W4)(f:Int->Int->Option Int):Int->Int->Option Int:=L.foldr (λp g=>iO g p.t p.r (if p.is=true then some p.v else none)) f
theorem MG{L:List W4}{k:Nat}{p:W4}(hp:L[k]? = some p)(f:Int->Int->Option Int):oe (L.drop k) f=iO (oe (L.drop (k+1)) f) p.t p.r (if p.is=true then some p.v else none):=by
 obtain⟨hl,rfl⟩:=List.getElem?_eq_some_iff.1 hp;rw[List.drop_eq_getElem_cons hl];rfl
section
variable (n:Nat)(a b:Code)(tm:T Value)(h:af)(V:Ex->T Value->af->Prop)
theorem CB:oq (n+1) (.seq a b) tm h V=oq n a tm h (pS (oq n) b V):=id rfl
theorem FW(t:Nat):oq (n+1) (.cond (.tmp t) a b) tm h V=pT False (oq n) a b tm h V (dw tm t):=fL tm (.tmp t) (pT False (oq n) a b tm h V)
theorem Af(i:Nat):oq (n+1) (.block i a) tm h V=oq n a tm h (jy i V):=id rfl
theorem VU:oq (n+1) (.loop a) tm h V=oq n a tm h (pS (oq n) (.loop a) V):=id rfl
theorem agT(i:Nat):oq (n+1) (.exit i) tm h V=V (.exit i) tm h:=id rfl
theorem am3:oq (n+1) .ret tm h V=V .ret tm h:=id rfl
theorem FX:oq (n+1) .skip tm h V=V .normal tm h:=id rfl
theorem atM(t:Nat)(ps:Array Tmp):oq (n+1) (.rangeFunc (.tmp t) ps a b) tm h V=ep False tJ prog (oq n) ps.toList a b tm h V (dw tm t):=fL tm (.tmp t) (ep False tJ prog (oq n) ps.toList a b tm h V)
theorem atN:oq (n+1) q0 tm h V=body False tJ prog (oq n) q0 tm h V:=id rfl
theorem atO:oq (n+1) q1 tm h V=body False tJ prog (oq n) q1 tm h V:=id rfl
theorem atP:oq (n+1) q3 tm h V=body False tJ prog (oq n) q3 tm h V:=id rfl
theorem atQ:oq (n+1) q4 tm h V=body False tJ prog (oq n) q4 tm h V:=id rfl
theorem atS:oq (n+1) q5 tm h V=body False tJ prog (oq n) q5 tm h V:=id rfl
theorem atT:oq (n+1) q6 tm h V=body False tJ prog (oq n) q6 tm h V:=id rfl
theorem atU:oq (n+1) q7 tm h V=body False tJ prog (oq n) q7 tm h V:=id rfl
theorem atV:oq (n+1) q8 tm h V=body False tJ prog (oq n) q8 tm h V:=id rfl
theorem atW:oq (n+1) b0 tm h V=body False tJ prog (oq n) b0 tm h V:=id rfl
theorem am4:oq (n+1) b1 tm h V=body False tJ prog (oq n) b1 tm h V:=id rfl
theorem atX:oq (n+1) b2 tm h V=body False tJ prog (oq n) b2 tm h V:=id rfl
theorem am5:oq (n+1) b3 tm h V=body False tJ prog (oq n) b3 tm h V:=id rfl
end
noncomputable abbrev Pf:Code:=.block 1 (.seq q5 (.cond (.tmp 22) q6 q7))
noncomputable abbrev abj:Code:=.seq (.seq b1 (.cond (.tmp 8) .skip (.exit 0))) (.seq (.block 1 (.seq b2 (.cond (.tmp 18) .ret .skip))) b3)
noncomputable abbrev rD(st:LoopState)(fI:T Value):bP:=.loop st none fI [19,20] q4 Pf
theorem ZF(rec:Rec Prop)(l:Nat)(x y:Value)(h:af)(V:KQ):tW False tJ prog rec (.func (.yield l) #[] #[]) [x,y] h V=mq False rec l [x,y] h V:=id rfl
theorem Rb{rec:Rec Prop}{l:Nat}{x y:Value}{h:af}{V:KQ}{st:LoopState}{fI:T Value}(hl:h.bl.get l=some (rD st fI)):mq False rec l [x,y] h V=rec q4 ((fI.a_ 19 x).a_ 20 y) h (ee False rec l Pf V):=by
 unfold mq;simp only[hl,List.length_cons,List.length_nil]
 show oB [19,20] [x,y] fI _=_
 unfold oB;rw[T.cI];unfold oB;rw[T.cI];unfold oB;rfl
theorem Rc{rec:Rec Prop}{l:Nat}{bd:Code}{tm:T Value}{h:af}{V:KQ}{fI:T Value}(hl:h.bl.get l=some (rD .ready fI))(hlo:h.lo<=l):ee False rec l bd V .normal tm h=rec bd tm ⟨h.nx,h.bl.a_ l (rD .busy fI),h.lo⟩ (gG False l V):=by
 unfold ee;simp only[hl,bG _ _ _ _ hlo]
theorem Pg{l:Nat}{tm:T Value}{h:af}{V:KQ}{st:LoopState}{fI:T Value}(hl:h.bl.get l=some (rD st fI))(hlo:h.lo<=l):gG False l V .normal tm h=V (.bool true) ⟨h.nx,h.bl.a_ l (rD .ready fI),h.lo⟩:=by
 unfold gG;simp only[hl,bG _ _ _ _ hlo]
theorem Re{l:Nat}{tm fI:T Value}{v:Value}{h:af}{V:Ex->T Value->af->Prop}(hl:h.bl.get l=some (rD .ready fI))(hlo:h.lo<=l):∃o,dW False l tm V v h=V .normal tm ⟨h.nx,h.bl.a_ l o,h.lo⟩:=by
 refine⟨.loop .exhausted none fI [19,20] q4 Pf,?_⟩;unfold dW;simp only[hl,bG _ _ _ _ hlo]
theorem rfB(rec:Rec Prop)(ps:List Nat)(x y:Code)(tm:T Value)(h:af)(V:Ex->T Value->af->Prop)(c:Value):ep False tJ prog rec ps x y tm h V (.func (.func fBw) #[] #[c])=iU False tJ prog rec fBw [.func (.yield h.nx) #[] #[],c] ⟨h.nx+1,h.bl.a_ h.nx (.loop .ready none tm ps x y),h.lo⟩ (dW False h.nx tm V):=dO (fl:=False) (.loop .ready none tm ps x y) h (λl h=>iU False tJ prog rec fBw [.func (.yield l) #[] #[],c] h (dW False l tm V))
theorem agU(tm:T Value)(h:af)(V:KQ):tK False [.tmp 4,.tmp 5] V .ret tm h=V (.tuple ⟨[dw tm 4,dw tm 5]⟩) h:=by
 show Rs tm [.tmp 4,.tmp 5] _=_
 unfold Rs;rw[gM];unfold Rs;rw[gM];rfl
structure BI(a:af)(sb sm c:Nat)(L:List W4)(M:List HE)(fI:T Value)(k:Nat)(tm:T Value)(h1:af):Prop where
 nx:a.nx+1<=h1.nx
 lo:h1.lo=a.lo
 fr:∀d,d<a.nx->d≠sm->h1.bl.get d=a.bl.get d
 gl:h1.bl.get a.nx=some (rD .ready fI)
 st:∃M' eY,dG h1 sb sm M' eY/\cM M'=oe (L.drop k) (cM M)/\M'.length<=M.length+(L.length-k)
 t0:dw tm 0=.func (.yield a.nx) #[] #[]
 t1:dw tm 1=UV c
 t3:dw tm 3=X8 ((k:Int)-1)
theorem Rf(j:Nat){h0 a:af}{sb sm c x3:Nat}{v:Value}{L:List W4}{M:List HE}{fI:T Value}{es:List MapEntry}{cl:Nat}(gm:a.bl.get sm=some (.map es cl))(uZ:sm<a.nx)(hsb:sb<a.nx)(gc:a.bl.get c=some (aj [v] 93 false))(hc:c<a.nx)(ov:Own qD h0 99 a v L)(gx:a.bl.get x3=some (aj [pt sb] 83 false))(hx3:x3<a.nx)(h3:dw fI 3=ax x3)(lv:∀p∈L,br p.t p.r=2)(hL:L.length<=1000)(hlo:a.lo<=a.nx)(V:Ex->T Value->af->Prop)(hk:∀tm h1,BI a sb sm c L M fI 0 tm h1->∀dz,V (.exit 0) dz h1):∀(k:Nat)(tm:T Value)(h1:af),k<=L.length->BI a sb sm c L M fI k tm h1->oq (k+j+13) (.loop abj) tm h1 V:=by
 intro k
 induction k with
 |zero=>
  intro tm h1 qn I;have e3:=I.t3;have e3:dw tm 3=X8 (-1):=e3;rw[show 0+j+13=j+12+1 from by omega,VU];simp(disch:=try exact Y)only[Wz,CB,am4,rb1,gM,T.cI,cQ,eT,tQ,Yz,e3,FW,L7,agT];exact hk tm h1 I _
 |succ k ih=>
  intro tm h1 dZ I;have e3:dw tm 3=X8 (k:Int):=by rw[I.t3];congr 1;omega
  obtain⟨p,hp⟩:∃p,L[k]? = some p:=⟨_,List.getElem?_eq_getElem X1⟩
  have hpL:=List.mem_of_getElem? hp;have n1:=I.nx;have l1:=I.lo;have o1:=ov.keep (h':=h1) X1 l1 λb vs hb hg=>I.fr b hb (dL hg gm);obtain⟨b,o,hb,hx,hr,hh⟩:=o1.sl.ld yo k hp;have Ad:=(I.fr c hc (dL gc gm)).trans gc;have gx1:=(I.fr x3 hx3 (dL gx gm)).trans gx;have gl1:=I.gl;rw[show k+1+j+13=k+j+13+1 from by omega,VU];simp(disch:=try exact Y)only[Wz,CB,am4,rb1,gM,T.cI,cQ,eT,tQ,Yz,YA,Dd,e3,FW,afj,FX,Af,atX,rb2,I.t0,I.t1,Ad,hx,hr,qD,ZF,Rb gl1,atQ,rq4];obtain⟨hA,aY,aU,gw,dI,dJ⟩:=kG h1 (aj [X8 p.t,X8 p.r,X8 p.v,.bool p.is] 99 false);rw[<-aY]
  try rw[show(h1.bl.a_ (h1.nx) (aj [X8 p.t,X8 p.r,X8 p.v,.bool p.is] 99 false))=hA.bl by rw[aY]]
  clear aY;have glA:=(aU.get a.nx X1).trans gl1;rw[Rc glA X1];obtain⟨M1,WY,st1,lk1,ln1⟩:=I.st;obtain⟨hB,eB⟩:∃hB:af,hB=⟨hA.nx,hA.bl.a_ a.nx (rD .busy fI),hA.lo⟩:=⟨_,rfl⟩
  have nB:hB.nx=hA.nx:=by rw[eB]
  have lB:hB.lo=hA.lo:=by rw[eB]
  have glB:hB.bl.get a.nx=some (rD .busy fI):=by rw[eB];exact T.ay _ _ _
  have frB:∀d,d≠a.nx->hB.bl.get d=hA.bl.get d:=λd hd=>by rw[eB];exact T.aD _ _ λe=>hd e.symm
  rw[<-eB];clear eB;have gwB:=(frB h1.nx X1).trans gw;have gxB:=(frB x3 X1).trans ((aU.get x3 X1).trans gx1);have sA:=st1.le aU;have stB:dG hB sb sm M1 WY:=⟨by rw[nB,lB];exact sA.rH,(frB sb X1).trans sA.gb,by rw[nB,lB];exact sA.jV,(frB sm X1).trans sA.gm,sA.ok⟩
  have Dz:∀d,d<a.nx->d≠sm->hB.bl.get d=a.bl.get d:=λd hd hn=>(frB d X1).trans ((aU.get d X1).trans (I.fr d hd hn));have VV:hB.lo<=hB.nx:=by omega
  have fin:∀h2 M2 VW,dG h2 sb sm M2 VW->cM M2=iO (cM M1) p.t p.r (if p.is=true then some p.v else none)->M2.length<=M1.length+1->MK sm hB h2->∀dz,dw dz 0=dw tm 0->dw dz 1=dw tm 1->dw dz 3=X8 ((k:Int)-1)->oq (k+j+13) (.loop abj) dz ⟨h2.nx,h2.bl.a_ a.nx (rD .ready fI),h2.lo⟩ V:=λh2 M2 VW s2 l2 m2 k2 dz t0 t1 t3=>by
   have n2:=k2.nx;have Vz:=k2.lo;refine ih _ _ X1 ⟨by show a.nx+1<=h2.nx;omega,by show h2.lo=a.lo;omega,λd hd hn=>(T.aD _ _ X1).trans ((k2.get d X1 hn).trans (Dz d hd hn)),T.ay _ _ _,⟨M2,VW,⟨s2.rH,(T.aD _ _ X1).trans s2.gb,s2.jV,(T.aD _ _ X1).trans s2.gm,s2.ok⟩,?_,X1⟩,t0.trans I.t0,t1.trans I.t1,t3⟩;rw[l2,lk1,<-MG hp]
  have hlen:=λ(q:HE->Bool)=>List.length_filter_le q M1;simp(disch:=try exact Y)only[Wz,Af,CB,atS,rq5,gM,T.cI,cQ,eT,gwB,tQ,FW];cases KK:p.is with
  |true=>
   rw[KK]at fin gwB;simp(disch:=try exact Y)only[Wz,afj,atT,rq6,gM,T.cI,cQ,eT,h3,gxB,gwB];refine FU stB VV (lv p hpL) p.v _ ?_;intro h2 M2 VW born s2 hp2 k2;have gl2:=(k2.get a.nx X1 X1).trans glB;have Vz:=k2.lo;simp(disch:=try exact Y)only[Wz,Dd,T.cI];rw[Pg gl2 X1];simp(disch:=try exact Y)only[Wz,L7,FX,Dd,tQ,am5,rb3,gM,T.cI,cQ,eT,e3];refine fin h2 M2 VW s2 (wT stB.ok s2.ok hp2) ?_ k2 _ ?_ ?_ ?_
   .have:=hp2.length_eq;rw[List.length_append,List.length_singleton]at this;have:=hlen (λx=>!jO p.t p.r x);omega
   .simp (disch:=decide) only [eT]
   .simp (disch:=decide) only [eT]
   .simp (disch:=decide) only [eT,cQ]
  |false=>
   rw[KK]at fin gwB;simp(disch:=try exact Y)only[Wz,L7,atU,rq7,gM,T.cI,cQ,eT,h3,gxB,gwB];refine O7 stB VV (lv p hpL) _ ?_;intro h2 s2 k2;have gl2:=(k2.get a.nx X1 X1).trans glB;have Vz:=k2.lo;simp(disch:=try exact Y)only[Wz,Dd,T.cI];rw[Pg gl2 X1];simp(disch:=try exact Y)only[Wz,L7,FX,Dd,tQ,am5,rb3,gM,T.cI,cQ,eT,e3];refine fin h2 _ _ s2 (Pe stB.ok) ?_ k2 _ ?_ ?_ ?_
   .have:=hlen (λx=>!jO p.t p.r x);omega
   .simp (disch:=decide) only [eT]
   .simp (disch:=decide) only [eT]
   .simp (disch:=decide) only [eT,cQ]
def wBb(v:Value)(w:Bool):Bool:=match v,w with | .bool true,true=>true | .bool false,false=>true|_,_=>false
theorem agW(tm:T Value)(s:Nat)(w:Bool):iV tm (some (s,w))=wBb (dw tm s) w:=by kernel_rfl
theorem am8(x y:Prop):gBb true x y=y:=id rfl
theorem agX:wBb (.bool false) false=true:=id rfl
@[congr] theorem ah3{b b':Bool}{x y:Prop}(e:b=b'):gBb b x y=gBb b' x y:=by rw[e]
@[congr] theorem ah4{g:Option (Nat × Bool)}{d:Nat}{tm:T Value}{h:af}{f:(Value→af→Prop)→Prop}{K:T Value→af→Prop}:gOb g d tm h f K=gOb g d tm h f K:=rfl
theorem agY(s:Nat)(w:Bool)(d:Nat)(tm:T Value)(h:af)(f:(Value->af->Prop)->Prop)(K:T Value->af->Prop):gOb (some (s,w)) d tm h f K=gBb (wBb (dw tm s) w) (T.set tm d undef λtm=>K tm h) (f λv h=>T.set tm d v λtm=>K tm h):=by
 unfold gOb;rw[agW]
theorem VX{h0 a:af}{lb sb sm c x3 ck:Nat}{L:List W4}{M:List HE}{v:Value}(s:mF h0 a lb L)(st:dG a sb sm M ck)(qJ:Le h0 a)(hs0:h0.nx<=sm)(gc:a.bl.get c=some (aj [v] 93 false))(hc:c<a.nx)(ov:Own qD h0 99 a v L)(gx:a.bl.get x3=some (aj [pt sb] 83 false))(hx3:x3<a.nx)(hlo:a.lo<=a.nx)(hL:L.length<=1000)(tm:T Value)(t0:dw tm 0=pt lb)(t3:dw tm 3=ax x3)(t18:dw tm 18=.func (.func fBw) #[] #[UV c])(V:KQ)(hk:∀h' M' eY,mF h0 h' lb []->dG h' sb sm M' eY->cM M'=oe L (cM M)->M'.length<=M.length+L.length->KR sm a h'->RKp a h'->Le h0 h'->V (.tuple ⟨[X8 (L.length:Int),X8 0]⟩) h'):oq (L.length+56) (.block 0 (.rangeFunc (.tmp 18) #[19,20] q4 Pf)) tm a (pS (oq (L.length+57)) (q8.seq .ret) (tK False [uw.tmp 4,uw.tmp 5] V)):=by
 simp(disch:=try exact Y)only[Wz,Af,atM,t18,rfB];rw[agS,agQ,YB];obtain⟨hL1,VY,MH,gl,av2,av3⟩:=kG a (rD .ready tm);rw[<-VY]
 try rw[show(a.bl.a_ (a.nx) (rD .ready tm))=hL1.bl by rw[VY]]
 clear VY;have gcL:=(MH.get c hc).trans gc;have hlen:=ov.sl.len (β:=Prop) (fl:=False);simp(disch:=try exact Y)only[Wz,CB,atW,rb0,T.cI,gM,cQ,eT,tQ,gcL,hlen,Af];refine Rf 39 st.gm st.jV.1 st.rH.1 gc hc ov gx hx3 t3 s.lv hL hlo _ ?_ L.length _ _ (Nat.le_refl _) ⟨X1,X1,λd hd _=>MH.get d hd,gl,⟨M,ck,st.le MH,by rw[List.drop_length];rfl,X1⟩,?_,?_,?_⟩
 .intro tm1 h1 I dz;obtain⟨M',eY,s1,lk1,ln1⟩:=I.st;have n1:=I.nx;have l1:=I.lo;obtain⟨ob,ea⟩:=Re (tm:=tm) (v:=.tuple ⟨[]⟩) (V:=jy 0 (pS (oq (L.length+57)) (q8.seq Code.ret) (tK False [uw.tmp 4,uw.tmp 5] V))) I.gl X1;rw[Uv,Qa,ea];obtain⟨h2,e2⟩:∃h2:af,h2=⟨h1.nx,h1.bl.a_ a.nx ob,h1.lo⟩:=⟨_,rfl⟩
  have n2:h2.nx=h1.nx:=by rw[e2]
  have l2:h2.lo=h1.lo:=by rw[e2]
  have f2:∀d,d≠a.nx->h2.bl.get d=h1.bl.get d:=λd hd=>by rw[e2];exact T.aD _ _ λe=>hd e.symm
  rw[<-e2];clear e2;have rH:=st.rH;have jV:=st.jV;have mk2:MK sm a h2:=⟨X1,X1,λd hd hn=>(f2 d X1).trans (I.fr d hd hn)⟩
  have s2:=s.mks mk2 st.gm;have st2:dG h2 sb sm M' eY:=⟨by rw[n2,l2];exact s1.rH,(f2 sb X1).trans s1.gb,by rw[n2,l2];exact s1.jV,(f2 sm X1).trans s1.gm,s1.ok⟩
  have bD:Le h0 h2:=⟨by have:=qJ.nx;omega,by have:=qJ.lo;omega,λd hd=>(mk2.get d (by have:=qJ.nx;omega) X1).trans (qJ.get d hd)⟩
  simp(disch:=try exact Y)only[Wz,Dd,tQ,CB,atV,rq8,T.cI,gM,cQ,eT,t0];refine Pc s2 bD X1 hL _ ?_;intro h3 s3 k3 rk3 dM;simp(disch:=try exact Y)only[Wz,tQ,am3,YA,agU,cQ,eT];refine hk h3 M' eY s3 ⟨⟨Nat.lt_of_lt_of_le st2.rH.1 (k3 sm).nx,by rw[(k3 sm).lo];exact st2.rH.2⟩,?_,⟨Nat.lt_of_lt_of_le st2.jV.1 (k3 sm).nx,by rw[(k3 sm).lo];exact st2.jV.2⟩,?_,st2.ok⟩ lk1 X1 (mk2.kr.trans (k3 sm)) (λd vs o hd hg=>rk3 d vs o X1 (mk2.cell st.gm hd hg)) dM
  .exact(k3 sm).cell st2.gm st2.rH.1 st2.gb (by unfold sO;decide)
  .refine((k3 sb).get sm st2.jV.1 (λe=>dL st2.gb st2.gm e.symm) λvs t o _ e=>?_).trans st2.gm;rw[st2.gm]at e;exact bY e
 .simp (disch:=decide) only [eT,cQ]
 .simp (disch:=decide) only [eT,cQ]
 .simp (disch:=decide) only [eT,cQ]
theorem agZ{h0 h:af}{lb sb sm ck:Nat}{L:List W4}{M:List HE}(s:mF h0 h lb L)(st:dG h sb sm M ck)(qJ:Le h0 h)(hs0:h0.nx<=sm)(hlo:h.lo<=h.nx)(hL:L.length<=1000)(V:KQ)(hk:∀h' M' eY,mF h0 h' lb []->dG h' sb sm M' eY->cM M'=oe L (cM M)->M'.length<=M.length+L.length->KR sm h h'->RKp h h'->Le h0 h'->V (.tuple ⟨[X8 (L.length:Int),X8 0]⟩) h'):av prog 198 [pt lb,pt sb] h V:=by
 obtain⟨v,gl,ov⟩:=s.g;have hlt:=s.lt;obtain⟨vx,vc,ev,_⟩:=(show Sl qD h v L from ov.sl)
 subst ev;refine x5 mixed (skip:=abi) (L.length+60) ?_;rw[agR,agP,YB];simp(disch:=try exact Y)only[Wz,CB,atN,rq0,T.cI,gM,cQ,eT,tQ];obtain⟨hX,ag0,abk,gx,azJ,azK⟩:=kG h (aj [UV sb] 83 false);rw[<-ag0]
 try rw[show(h.bl.a_ (h.nx) (aj [UV sb] 83 false))=hX.bl by rw[ag0]]
 clear ag0;have glX:=(abk.get _ hlt.1).trans gl;simp(disch:=try exact Y)only[Wz,CB,atO,rq1,T.cI,gM,cQ,eT,tQ,CA,↓agY,agX,am8,gx,n_,FW,L7,FX,atP,rq3,aN,glX];apply X9;rw[ad0];simp(disch:=try exact Y)only[Wz];obtain⟨hC,ag1,Ph,gc,azM,azN⟩:=kG hX (aj [.slice vx L.length vc] 93 false);rw[<-ag1]
 try rw[show(hX.bl.a_ (hX.nx) (aj [.slice vx L.length vc] 93 false))=hC.bl by rw[ag1]]
 clear ag1;have aoO:=Ph.nx;have aoP:=Ph.lo;have gx:=(Ph.get _ X1).trans gx;have LZ:=abk.trans Ph;refine VX (s.le LZ) (st.le LZ) (qJ.trans LZ) hs0 gc X1 (ov.le LZ) gx X1 X1 hL _ ?_ ?_ ?_ V λh' M' eY a1 a2 a3 a4 a5 rk a6=>hk h' M' eY a1 a2 a3 a4 ((KR.le LZ).trans a5) (λd vs o hd hg=>rk d vs o (Nat.lt_of_lt_of_le hd LZ.nx) ((LZ.get d hd).trans hg)) a6
 .simp (disch:=decide) only [eT,cQ]
 .simp (disch:=decide) only [eT,cQ];rfl
 .simp (disch:=decide) only [eT,cQ]
structure Rg(E:EN)(sm:Nat)(Q:(af->Prop)->Nat->af->Prop)(P:(af->Prop)->Nat->Int->af->Prop):Prop where
 ready:∀Z i h (V:KQ),Q Z i h->V (.bool true) h->av prog 137 [pt E.z.ab] h V
 step:∀(Z:af->Prop),(∀{h h':af},Z h->FK E.a h h'->Z h')->∀i h (V:KQ),Q Z i h->(∀h',Q Z (i+1) h'->V (.tuple ⟨[.bool false,X8 0,X8 0]⟩) h')->(∀code h',P Z i code h'->V (.tuple ⟨[.bool true,X8 code,X8 0]⟩) h')->av prog 74 [pt E.z.ab] h V
 kr:∀Z Z' i h h' es cl,Q Z i h->KR sm h h'->h.bl.get sm=some (.map es cl)->sm∉E.a.ms->Z' h'->Q Z' i h'
 z:∀Z i h,Q Z i h->Z h
 lo:∀Z i h,Q Z i h->h.lo<=h.nx
 le:∀Z i h,Q Z i h->1<=i
 pu:∀Z Z' i h x vs t o ob,Q Z i h->h.bl.get x=some (aj vs t o)->¬mE t o->¬ki t o->¬Kg t->Z' ⟨h.nx,h.bl.a_ x ob,h.lo⟩->Q Z' i ⟨h.nx,h.bl.a_ x ob,h.lo⟩
 pz:∀Z i c h,P Z i c h->Z h
 pkr:∀Z Z' i c h h' es cl,P Z i c h->KR sm h h'->h.bl.get sm=some (.map es cl)->sm∉E.a.ms->Z' h'->P Z' i c h'
 ppu:∀Z Z' i c h x vs t o ob,P Z i c h->h.bl.get x=some (aj vs t o)->¬mE t o->¬ki t o->¬Kg t->Z' ⟨h.nx,h.bl.a_ x ob,h.lo⟩->P Z' i c ⟨h.nx,h.bl.a_ x ob,h.lo⟩
theorem jF.wU{z:AA}{D:AD}{cp:Option Nat}{h:af}(s:jF h z D cp){x:Nat}{vs:List Value}{t:TypeId}{o:Bool}(hg:h.bl.get x=some (aj vs t o))(ha:¬Kg t)(ob:bP):jF ⟨h.nx,h.bl.a_ x ob,h.lo⟩ z D cp:=
 s.ka ⟨Nat.le_refl _,rfl,λd vs' t' o' _ hgd ht=>T.aD _ _ (by rintro rfl;rw[hg]at hgd;obtain⟨rfl,rfl⟩:=gV hgd;exact ha ht)⟩
theorem AI.wU{E:EN}{H X:Int->Int->Int}{N:Nat}{D:AD}{h:af}(s:AI h E H X N D){x:Nat}{vs:List Value}{t:TypeId}{o:Bool}(hg:h.bl.get x=some (aj vs t o))(ht:¬mE t o)(hr:¬ki t o)(ha:¬Kg t)(ob:bP):AI ⟨h.nx,h.bl.a_ x ob,h.lo⟩ E H X N D:=
 ⟨λy out=>(s.w y out).put hg ht hr ob,s.g.wU hg ha ob,s.wb,s.th⟩
theorem AW.wU{E:EN}{H X:Int->Int->Int}{N n:Nat}{y:iT}{out:Int}{D:AD}{kb:Nat}{c:CD}{h:af}(s:AW h E H X N n y out D kb c){x:Nat}{vs:List Value}{t:TypeId}{o:Bool}(hg:h.bl.get x=some (aj vs t o))(ht:¬mE t o)(hr:¬ki t o)(ha:¬Kg t)(ob:bP):AW ⟨h.nx,h.bl.a_ x ob,h.lo⟩ E H X N n y out D kb c:=
 ⟨s.w.put hg ht hr ob,s.g.wU hg ha ob,s.c.ka ⟨Nat.le_refl _,rfl,λd vs' t' o' _ hgd ht=>T.aD _ _ (by rintro rfl;rw[hg]at hgd;obtain⟨rfl,rfl⟩:=gV hgd;exact ha ht)⟩,s.wb,s.th⟩
section
variable {E:EN}{sm:Nat}{x:Int}{N:Nat}{asked has:List L4}{t r m w:Int}{J:Nat->List L4->List N3->Prop}{F:Nat->List L4->Prop}
structure at1(E:EN)(Z:af->Prop)(x:Int)(asked:List L4)(t r m:Int)(N0:Nat)(F:Nat->List L4->Prop)(h:af):Prop where
 ex:∃(has:List L4)(N kb:Nat)(y:iT)(out:Int)(c:CD),AW h E (aX has) (λ_ _=>x) N 0 y out ⟨x,dx asked ⟨x,t,r,bZ (aX asked t r) m⟩,has,[]⟩ kb c/\c.ask.k=0/\c.code=1/\F 1 has/\3*N<=3*N0+3/\Z h
def Rh(E:EN)(x:Int)(asked:List L4)(t r m w:Int)(N0:Nat)(J:Nat->List L4->List N3->Prop)(F:Nat->List L4->Prop)(Z:af->Prop)(i:Nat)(h:af):Prop:=
 1<=i/\((∃n,agy E Z x asked t r m w N0 J i n h)\/(i=1/\at1 E Z x asked t r m N0 F h))
theorem abl(hx:1<=x)(C:Kr x J F)(hN:N<=800)(la:asked.length<=1000)(hw:0<=w)(hm:kn m=true):Rg E sm (Rh E x asked t r m w N J F) λZ i code h=>agz E Z x asked t r m N J F i code h:=by
 refine⟨λZ i h V q hk=>?_,λZ hZ i h V q dZ hk2=>?_,λZ Z' i h h' es cl q k gm hn hz=>?_,λZ i h q=>?_,λZ i h q=>?_,λZ i h q=>q.1,λZ Z' i h x' vs t' o ob q hg ht hr ha hz=>?_,λZ i c h q=>?_,λZ Z' i c h h' es cl q k gm hn hz=>?_,λZ Z' i c h x' vs t' o ob q hg ht hr ha hz=>?_⟩
 .rcases q.2 with⟨n,⟨i0,has,p,P,N1,kb,H,out,c,e1,hJ,s,_⟩,n3⟩|⟨_,q⟩
  .exact nY s (.inr X1) V hk
  .obtain⟨has,N1,kb,y,out,c,s,h0,_⟩:=q;exact nY s (.inl h0) V hk
 .have R:=Zu (E:=E) (Z:=Z) hZ (asked:=asked) (t:=t) (r:=r) (m:=m) (w:=w) (N0:=N) (by omega:0<=x) C hN la hw hm;have h1i:=q.1;rcases q.2 with⟨n,q⟩|⟨ei,q'⟩
  .rcases(R.le i n h q).1 with rfl|rfl|rfl
   .exact R.s32 i 2 h V q X7 λh' s=>dZ h' ⟨X1,.inl ⟨_,s⟩⟩
   .exact R.s32 i 1 h V q X7 λh' s=>dZ h' ⟨X1,.inl ⟨_,s⟩⟩
   .exact R.s1 i h V q (λh' s=>dZ h' ⟨X1,.inl ⟨_,s⟩⟩) hk2
  .subst ei;obtain⟨has,N1,kb,y,out,c,s,h0,hc,hF,hN1,z⟩:=q';refine Kn s h0 V λh' a f=>?_;rw[hc];exact hk2 1 h' ⟨has,_,N1,a,hZ z f,X1,.inl ⟨rfl,rfl,hF⟩⟩
 .refine⟨q.1,?_⟩;rcases q.2 with⟨n,⟨i0,has,p,P,N1,kb,H,out,c,e1,hJ,s,c1,c2,c3,c4,c5,c6,c7,c8,c9,f,hH⟩,n3⟩|⟨rfl,has,N1,kb,y,out,c,s,h0,hc,hF,hN1,z⟩
  .exact .inl ⟨n,⟨i0,has,p,P,N1,kb,H,out,c,e1,hJ,s.kr k gm hn,c1,c2,c3,c4,c5,c6,c7,c8,c9,hz,hH⟩,n3⟩
  .exact .inr ⟨rfl,has,N1,kb,y,out,c,s.kr k gm hn,h0,hc,hF,hN1,hz⟩
 .rcases q.2 with⟨n,⟨i0,has,p,P,N1,kb,H,out,c,e1,hJ,s,c1,c2,c3,c4,c5,c6,c7,c8,c9,f,hH⟩,n3⟩|⟨rfl,has,N1,kb,y,out,c,s,h0,hc,hF,hN1,z⟩
  .exact f
  .exact z
 .rcases q.2 with⟨n,⟨i0,has,p,P,N1,kb,H,out,c,e1,hJ,s,_⟩,n3⟩|⟨rfl,has,N1,kb,y,out,c,s,_⟩
  .exact s.lo
  .exact s.lo
 .refine⟨q.1,?_⟩;rcases q.2 with⟨n,⟨i0,has,p,P,N1,kb,H,out,c,e1,hJ,s,c1,c2,c3,c4,c5,c6,c7,c8,c9,f,hH⟩,n3⟩|⟨ei,q'⟩
  .exact .inl ⟨n,⟨i0,has,p,P,N1,kb,H,out,c,e1,hJ,s.wU hg ht hr ha ob,c1,c2,c3,c4,c5,c6,c7,c8,c9,hz,hH⟩,n3⟩
  .obtain⟨has,N1,kb,y,out,c,s,h0,hc,hF,hN1,z⟩:=q';exact .inr ⟨ei,has,N1,kb,y,out,c,s.wU hg ht hr ha ob,h0,hc,hF,hN1,hz⟩
 .obtain⟨has,asked',N1,a,z,r⟩:=q;exact z
 .obtain⟨has,asked',N1,a,z,r⟩:=q;exact⟨has,asked',N1,a.kr k gm hn,hz,r⟩
 .obtain⟨has,asked',N1,a,z,r⟩:=q;exact⟨has,asked',N1,a.wU hg ht hr ha ob,hz,r⟩
theorem Ri{h:af}{Z:af->Prop}(hZ:∀{h h':af},Z h->FK E.a h h'->Z h')(z:Z h)(s:AI h E (aX has) (λ_ _=>x) N ⟨x,asked,has,[]⟩)(hx:1<=x)(hN:N<=800)(lh:has.length<=1000)(la:asked.length<=1000)(hw:0<=w)(hm:kn m=true)(h0:m≠0)(lv:br t r≠-1)(kh:∀t r,kn (aX has t r)=true)(ka:kn (aX asked t r)=true)(RC:fc has (iG (aX has) t r (bZ (aX asked t r) m))=[]->F 1 has)(st1:∀p P,fc has (iG (aX has) t r (bZ (aX asked t r) m))=p::P->J 1 has (p::P))(V:KQ)(hκ:∀h',Rh E x asked t r m w N J F Z 1 h'->V (X8 0) h'):av prog 73 [pt E.z.ab,.agg ⟨[X8 1,X8 0,X8 t,X8 r,X8 m,X8 0]⟩,X8 w] h V:=by
 have eJ:jR E.z ⟨x,asked,has,[]⟩ 1 t r m w=⟨1,t,r,m,w,tT,0,126,.func (.func 127) ⟨[pt E.z.ab]⟩ ⟨[]⟩,false,0,iG (aX has) t r (bZ (aX asked t r) m),[]⟩:=by unfold jR;rw[if_pos rfl]
 obtain⟨q0,q1,_⟩:=lI ka hm h0;obtain⟨pk1,pk2,_⟩:=Kq (f:=aX has) kh lv q1 q0;refine O4 s (by show x≠0;omega) lh la 1 t r m w ?_ V ?_
 .unfold Zr;rw[if_pos rfl,hm];simp[h0,lv,hw]
 .intro h1 kb s1 f1;rw[eJ]at s1
  show av prog 131 [pt E.z.ab] h1 _
  refine O2 s1 X1 rfl lh la (by show(iG _ _ _ _).length<=100;omega) hw hm pk1 kh 0 _ ?_ ?_
  .intro hL h2 s2 f2;exact hκ h2 ⟨Nat.le_refl _,.inr ⟨rfl,has,N,kb,_,_,_,s2,rfl,rfl,RC hL,X1,hZ (hZ z f1) f2⟩⟩
  .intro p P hL h2 s2 f2;exact hκ h2 ⟨Nat.le_refl _,.inl ⟨3,⟨1,has,p,P,N+1,kb,_,0,⟨1,t,r,m,w,rC ⟨x,asked,has,[]⟩ ⟨1,t,r,m,w,tT,0,126,.func (.func 127) ⟨[pt E.z.ab]⟩ ⟨[]⟩,false,0,iG (aX has) t r (bZ (aX asked t r) m),[]⟩ p,0,126,.func (.func 127) ⟨[pt E.z.ab]⟩ ⟨[]⟩,false,0,p::P,[]⟩,rfl,st1 p P hL,s2,rfl,rfl,rfl,rfl,rfl,rfl,rfl,rfl,X1,hZ (hZ z f1) f2,.inl ⟨X7,rfl⟩⟩,.inl rfl⟩⟩
structure IGo(E:EN)(Z:af->Prop)(h:af):Prop where
 ex:∃(H X:Int->Int->Int)(N kb:Nat)(y:iT)(out:Int)(c:CD),AW h E H X N 0 y out ⟨0,[],[],[]⟩ kb c/\c.ask.k=0/\c.code=1/\(∀t r,H t r=0)/\Z h
def QGo(E:EN)(x:Int)(M:List (Int × Int))(asked:List L4)(N0 L0:Nat)(Z:af->Prop)(i:Nat)(h:af):Prop:=
 1<=i/\((∃n,SGo E Z x M asked N0 L0 i n h)\/(i=1/\IGo E Z h))
def am_(E:EN)(Z:af->Prop)(h:af):Prop:=∃bu X N,AI h E (aX bu) X N ⟨0,[],[],bu⟩/\Z h
theorem go_q(hx:1<=x){M:List (Int × Int)}(hM:M.length<=19){L0:Nat}(hL0:L0<=19)(hN:N<=800)(uq:0<=E.z.most/\E.z.most<=8)(Di:E.z.th=0):Rg E sm (QGo E x M asked N L0) λZ i code h=>am_ E Z h:=by
 refine⟨λZ i h V q hk=>?_,λZ hZ i h V q dZ hk2=>?_,λZ Z' i h h' es cl q k gm hn hz=>?_,λZ i h q=>?_,λZ i h q=>?_,λZ i h q=>q.1,λZ Z' i h x' vs t' o ob q hg ht hr ha hz=>?_,λZ i c h q=>?_,λZ Z' i c h h' es cl q k gm hn hz=>?_,λZ Z' i c h x' vs t' o ob q hg ht hr ha hz=>?_⟩
 .rcases q.2 with⟨n,⟨i0,g,G,has,bu,N1,kb,H,X,H0,X0,out,c,e1,e2,s,_⟩,n3⟩|⟨_,q⟩
  .exact nY s (.inr X1) V hk
  .obtain⟨H,X,N1,kb,y,out,c,s,h0,_⟩:=q;exact nY s (.inl h0) V hk
 .have R:=go_run (E:=E) (Z:=Z) hZ (asked:=asked) (N0:=N) hx hM hL0 hN uq Di;have h1i:=q.1;rcases q.2 with⟨n,q⟩|⟨ei,q'⟩
  .rcases(R.le i n h q).1 with rfl|rfl|rfl
   .exact R.s32 i 2 h V q X7 λh' s=>dZ h' ⟨X1,.inl ⟨_,s⟩⟩
   .exact R.s32 i 1 h V q X7 λh' s=>dZ h' ⟨X1,.inl ⟨_,s⟩⟩
   ·exact R.s1 i h V q (λh' s=>dZ h' ⟨X1,.inl ⟨_,s⟩⟩) λcode h' p=>by
     obtain⟨_,bu,X,N1,a,_,_,z⟩:=p;exact hk2 code h' ⟨bu,X,N1,a,z⟩
  .subst ei;obtain⟨H,X,N1,kb,y,out,c,s,h0,hc,hH,z⟩:=q';refine Kn s h0 V λh' a f=>?_;have eH:H=aX []:=by funext t r;exact hH t r
   exact hk2 _ h' ⟨[],X,N1,by rw[<-eH];exact a,hZ z f⟩
 .refine⟨q.1,?_⟩;rcases q.2 with⟨n,⟨i0,g,G,has,bu,N1,kb,H,X,H0,X0,out,c,e1,e2,s,c1,hp,c2,c3,c4,c5,f,r⟩,n3⟩|⟨rfl,H,X,N1,kb,y,out,c,s,h0,hc,hH,z⟩
  .exact .inl ⟨n,⟨i0,g,G,has,bu,N1,kb,H,X,H0,X0,out,c,e1,e2,s.kr k gm hn,c1,hp,c2,c3,c4,c5,hz,r⟩,n3⟩
  .exact .inr ⟨rfl,H,X,N1,kb,y,out,c,s.kr k gm hn,h0,hc,hH,hz⟩
 .rcases q.2 with⟨n,⟨i0,g,G,has,bu,N1,kb,H,X,H0,X0,out,c,e1,e2,s,c1,hp,c2,c3,c4,c5,f,r⟩,n3⟩|⟨rfl,H,X,N1,kb,y,out,c,s,h0,hc,hH,z⟩
  .exact f
  .exact z
 .rcases q.2 with⟨n,⟨i0,g,G,has,bu,N1,kb,H,X,H0,X0,out,c,e1,e2,s,_⟩,n3⟩|⟨rfl,H,X,N1,kb,y,out,c,s,_⟩
  .exact s.lo
  .exact s.lo
 .refine⟨q.1,?_⟩;rcases q.2 with⟨n,⟨i0,g,G,has,bu,N1,kb,H,X,H0,X0,out,c,e1,e2,s,c1,hp,c2,c3,c4,c5,f,r⟩,n3⟩|⟨ei,q'⟩
  .exact .inl ⟨n,⟨i0,g,G,has,bu,N1,kb,H,X,H0,X0,out,c,e1,e2,s.wU hg ht hr ha ob,c1,hp,c2,c3,c4,c5,hz,r⟩,n3⟩
  .obtain⟨H,X,N1,kb,y,out,c,s,h0,hc,hH,z⟩:=q';exact .inr ⟨ei,H,X,N1,kb,y,out,c,s.wU hg ht hr ha ob,h0,hc,hH,hz⟩
 .obtain⟨bu,X,N1,a,z⟩:=q;exact z
 .obtain⟨bu,X,N1,a,z⟩:=q;exact⟨bu,X,N1,a.kr k gm hn,hz⟩
 .obtain⟨bu,X,N1,a,z⟩:=q;exact⟨bu,X,N1,a.wU hg ht hr ha ob,hz⟩
theorem VZ{h:af}{M:List (Int × Int)}(hM:M.length<=19){Z:af->Prop}(hZ:∀{h h':af},Z h->FK E.a h h'->Z h')(z:Z h)(s:AI h E (aX has) (λ_ _=>x) N ⟨x,asked,has,[]⟩)(hx:1<=x)(hN:N<=800)(oh:kY M has)(la:asked.length<=1000)(uq:0<=E.z.most/\E.z.most<=8)(V:KQ)(hκ:∀h',QGo E x M asked N has.length Z 1 h'->V (X8 0) h'):av prog 73 [pt E.z.ab,.agg ⟨[X8 3,X8 0,X8 0,X8 0,X8 0,X8 0]⟩,X8 0] h V:=by
 have eJ:jR E.z ⟨x,asked,has,[]⟩ 3 0 0 0 0=⟨3,0,0,0,0,tT,0,135,.func (.func 133) ⟨[]⟩ ⟨[]⟩,false,0,[],[]⟩:=by unfold jR;rw[if_neg X7,if_neg X7]
 have ll:=oh.len;have Di:=s.th;have yE:x≠-1-E.z.th:=by omega
 refine O4 s (by show x≠0;omega) (by show has.length<=1000;omega) la 3 0 0 0 0 X7 V ?_;intro h1 kb s1 f1;rw[eJ]at s1
 show av prog 136 [pt E.z.ab] h1 _
 refine VA s1 rfl (by show has.length<20;omega) (λg hg=>(oh.ok g hg).1) _ ?_;intro O h2 hO s2 f2;have hOl:=hO.length_eq;have hOl:O.length=has.length:=hOl;refine O3 s2 X1 uq (Nat.zero_le _) (by show O.length<=1000;omega) (λg hg=>(oh.ok g (hO.mem_iff.1 hg)).1) yE 0 _ ?_ ?_
 .intro e h3 s3 f3;have e:O=[]:=e;have eh:has=[]:=by rw[e]at hO;exact List.Perm.eq_nil hO.symm
  subst eh;exact hκ h3 ⟨Nat.le_refl _,.inr ⟨rfl,_,_,N,kb,_,_,_,s3,rfl,rfl,λ_ _=>rfl,hZ (hZ (hZ z f1) f2) f3⟩⟩
 .intro g G e h3 s3 f3;have e:O=g::G:=e;have eG:O.length=G.length+1:=by rw[e];rfl
  refine hκ h3 ⟨Nat.le_refl _,.inl ⟨3,⟨1,g,G,has,[],N+1,kb,_,_,aX has,λ_ _=>x,0,_,rfl,X1,s3,e,by rw[<-e];exact hO,rfl,rfl,rfl,X1,hZ (hZ (hZ z f1) f2) f3,⟨oh,kY.nil M,λ_ _ _=>rfl,uq.1,λt r=>?_,λ_ _ _=>rfl⟩,λ_=>⟨rfl,rfl⟩,λe=>absurd e X7⟩,.inl rfl⟩⟩;by_cases hz:aX has t r=0
  .rw[if_neg (λe=>e hz),hz];rfl
  .rw[if_pos hz]
end
structure RA where
 rb:Nat
 ab:Nat
 lb:Nat
 sb:Nat
 sm:Nat
structure RV where
 op:pI
 nx:Option FuncId
 kind:Int
 code:Int
 note:Option Nat
def WZ(rb:Nat)(o:Option FuncId):Value:=match o with|some f=>.func (.func f) ⟨[pt rb]⟩ ⟨[]⟩|none=>Value.nilFunc
def ox(A:RA)(v:RV):bP:=aj [pt A.ab,X8 0,pt A.lb,pt A.sb,X8 v.op.k,X8 v.op.t,X8 v.op.r,X8 v.op.m,X8 v.op.v,X8 v.op.w,WZ A.rb v.nx,X8 v.kind,X8 v.code,dF v.note] 169 false
structure TC(h0:af)(ms:List Nat)(A:RA)(M:List HE)(ck:Nat)(L:List W4)(v:RV)(h:af):Prop where
 lt:A.rb<h.nx/\h.lo<=A.rb
 g:h.bl.get A.rb=some (ox A v)
 st:dG h A.sb A.sm M ck
 lg:mF h0 h A.lb L
 sm:A.sm∉ms
 le:Le h0 h
 hr:h0.nx<=A.rb
 hs:h0.nx<=A.sm
section
variable {h0 h h':af}{ms:List Nat}{A:RA}{M:List HE}{ck:Nat}{L:List W4}{v:RV}
theorem TC.keep(s:TC h0 ms A M ck L v h)(l:Le h h'):TC h0 ms A M ck L v h':=
 ⟨⟨Nat.lt_of_lt_of_le s.lt.1 l.nx,by rw[l.lo];exact s.lt.2⟩,(l.get _ s.lt.1).trans s.g,s.st.le l,s.lg.le l,s.sm,s.le.trans l,s.hr,s.hs⟩
theorem TC.fk(ro:kK h0){a:TA}(s:TC h0 a.ms A M ck L v h)(k:FK a h h'):TC h0 a.ms A M ck L v h':=
 ⟨⟨Nat.lt_of_lt_of_le s.lt.1 k.nx,by rw[k.lo];exact s.lt.2⟩,(k.ty _ _ _ _ s.lt.1 s.g (by unfold mE;decide) (by unfold ki;decide) (by unfold KI;decide)).trans s.g,s.st.fk k s.sm,s.lg.fk k,s.sm,ro.fk s.le k,s.hr,s.hs⟩
theorem TC.Dn(s:TC h0 ms A M ck L v h)(v':RV):TC h0 ms A M ck L v' ⟨h.nx,h.bl.a_ A.rb (ox A v'),h.lo⟩:=
 ⟨s.lt,T.ay _ _ _,s.st.put s.g X7 _,s.lg.put s.g X7 X7 _,s.sm,s.le.set s.hr _,s.hr,s.hs⟩
theorem TC.krV(s:TC h0 ms A M ck L v h)(v':RV):KR A.sm h ⟨h.nx,h.bl.a_ A.rb (ox A v'),h.lo⟩:=KR.put s.g (.inl rfl) _
theorem TC.lo(s:TC h0 ms A M ck L v h):h.lo<=h.nx:=by have:=s.lt;omega
theorem abm(h:af)(b o:Nat):mR prog h 100 82 (.pointer (some ⟨b,o,none⟩)) (.pointer none)=some false:=by kernel_rfl
theorem ku{β:Type}{fl:β}(cn:Bool)(b o:Nat)(h:af)(V:X3 β):aI fl prog .eql 82 cn false (.pointer (some ⟨b,o,none⟩)) (.pointer none) h V=V (.bool false) h:=by simp only[aI,abm,bX]
theorem V0{β:Type}{fl:β}(cn:Bool)(b o:Nat)(h:af)(V:X3 β):aI fl prog .neq 82 cn false (.pointer (some ⟨b,o,none⟩)) (.pointer none) h V=V (.bool true) h:=by simp only[aI,abm,bX,Bool.not_false]
theorem ana(h:af)(f:FuncId)(a b:Array Value):mR prog h 100 166 (.func (.func f) a b) Value.nilFunc=some false:=by kernel_rfl
theorem anb(h:af):mR prog h 100 166 Value.nilFunc Value.nilFunc=some true:=by kernel_rfl
theorem Kv{β:Type}{fl:β}(cn:Bool)(rb:Nat)(o:Option FuncId)(h:af)(V:X3 β):aI fl prog .neq 166 cn false (WZ rb o) Value.nilFunc h V=V (.bool o.isSome) h:=by
 cases o with
 |none=>simp only[WZ,aI,anb,bX,Bool.not_true];rfl
 |some f=>simp only[WZ,aI,ana,bX,Bool.not_false];rfl
theorem MI(s:TC h0 ms A M ck L v h)(V:KQ)(hk:V (.bool v.nx.isSome) h):av prog 40 [pt A.rb] h V:=by
 have g:=s.g;unfold ox at g;apply X9;rw[ajV];simp(disch:=try exact Y)only[Wz,V0,aN,g,Kv];exact hk
theorem MJ{E:EN}{H X:Int->Int->Int}{N:Nat}{D:AD}(s:TC h0 ms A M ck L v h)(a:AI h E H X N D)(ea:A.ab=E.z.ab)(V:KQ)(hk:V (X8 D.ni) h):av prog 41 [pt A.rb] h V:=by
 have g:=s.g;unfold ox at g;apply X9;rw[ajW];simp(disch:=try exact Y)only[Wz,ku,aN,g];rw[ea];exact MB a _ hk
theorem ag4{E:EN}{H X:Int->Int->Int}{N:Nat}{D:AD}(s:TC h0 ms A M ck L v h)(a:AI h E H X N D)(ea:A.ab=E.z.ab)(l2:D.has.length<=1000)(V:KQ)(hk:∀v h',FF h h' v D.has->Le h h'->V v h'):av prog 38 [pt A.rb] h V:=by
 have g:=s.g;unfold ox at g;apply X9;rw[ajT];simp(disch:=try exact Y)only[Wz,ku,aN,g];rw[ea];exact agx a l2 _ hk
theorem V1(s:TC h0 ms A M ck L v h)(hL:L.length<=1000)(V:KQ)(hk:∀v h',Own qD h 99 h' v L->Le h h'->V v h'):av prog 42 [pt A.rb] h V:=by
 have g:=s.g;unfold ox at g;apply X9;rw[ajX];simp(disch:=try exact Y)only[Wz,ku,aN,g];exact VT s.lg s.lo hL _ hk
theorem wV(s:TC h0 ms A M ck L v h)(k:Int)(f:FuncId)(V:KQ)(hk:∀h',TC h0 ms A M ck L { v with nx:=some f,kind:=k } h'->KR A.sm h h'->V (.tuple ⟨[]⟩) h'):av prog 142 [pt A.rb,X8 k,.func (.func f) ⟨[pt A.rb]⟩ ⟨[]⟩] h V:=by
 have g:=s.g;have hlt:=s.lt;have q:=s.Dn { v with nx:=some f,kind:=k };have k1:=s.krV { v with nx:=some f,kind:=k };unfold ox at g;unfold ox WZ at q k1;apply X9;rw[acT];simp(disch:=try exact Y)only[Wz,aN,g,ye];exact hk _ q k1
end
theorem ane(a b c d e f:Int):k_ 8 (.agg ⟨[X8 a,X8 b,X8 c,X8 d,X8 e,X8 f]⟩) (.agg ⟨[X8 a,X8 b,X8 c,X8 d,X8 e,X8 f]⟩)=true:=AZ [a,b,c,d,e,f]
theorem Ag{u:Value}(hu:jm u)(a b:Int):k_ 8 (.agg ⟨[X8 a,X8 b,u]⟩) (.agg ⟨[X8 a,X8 b,u]⟩)=true:=by
 obtain⟨n,c,rfl|⟨x,o,rfl⟩⟩:=hu<;>simp[k_,ze,yL,DT,gU]
theorem jm.nil:jm (.slice none 0 0):=⟨0,0,.inl rfl⟩
theorem Ei{u:Value}(hu:jm u)(a b:Int):(Value.cells (.agg ⟨[X8 a,X8 b,u]⟩)).toList=[X8 a,X8 b,u]:=by
 obtain⟨n,c,rfl|⟨x,o,rfl⟩⟩:=hu<;>rfl
section
variable {h0 h h':af}{ms:List Nat}{A:RA}{M:List HE}{ck:Nat}{L:List W4}{v:RV}
theorem TC.mst(s:TC h0 ms A M ck L v h){M':List HE}{eY:Nat}(st:dG h' A.sb A.sm M' eY)(k:MK A.sm h h'):TC h0 ms A M' eY L v h':=by
 have hs:=s.hs;have n0:=s.le.nx;exact⟨⟨Nat.lt_of_lt_of_le s.lt.1 k.nx,by rw[k.lo];exact s.lt.2⟩,k.cell s.st.gm s.lt.1 s.g,st,s.lg.mks k s.st.gm,s.sm,⟨Nat.le_trans n0 k.nx,k.lo.trans s.le.lo,λd hd=>(k.get d X1 X1).trans (s.le.get d hd)⟩,s.hr,s.hs⟩
theorem TC.lgs(s:TC h0 ms A M ck L v h){L':List W4}(lg:mF h0 h' A.lb L')(k:∀sm,KR sm h h')(rk:RKp h h')(le:Le h0 h'):TC h0 ms A M ck L' v h':=
 ⟨⟨Nat.lt_of_lt_of_le s.lt.1 (k 0).nx,by rw[(k 0).lo];exact s.lt.2⟩,rk _ _ _ s.lt.1 s.g,⟨⟨Nat.lt_of_lt_of_le s.st.rH.1 (k 0).nx,by rw[(k 0).lo];exact s.st.rH.2⟩,(k A.sm).cell s.st.gm s.st.rH.1 s.st.gb (by unfold sO;decide),⟨Nat.lt_of_lt_of_le s.st.jV.1 (k 0).nx,by rw[(k 0).lo];exact s.st.jV.2⟩,((k A.sb).get A.sm s.st.jV.1 (λe=>dL s.st.gb s.st.gm e.symm) λvs t o _ e=>by rw[s.st.gm]at e;exact bY e).trans s.st.gm,s.st.ok⟩,lg,s.sm,le,s.hr,s.hs⟩
theorem TC.put(s:TC h0 ms A M ck L v h){x:Nat}{vs:List Value}{t:TypeId}{o:Bool}(hg:h.bl.get x=some (aj vs t o))(h1:¬sO t)(h2:t≠175)(hx:h0.nx<=x)(ob:bP):TC h0 ms A M ck L v ⟨h.nx,h.bl.a_ x ob,h.lo⟩:=
 ⟨s.lt,(T.aD _ _ (dK hg s.g λe=>h1 (.inl e))).trans s.g,s.st.put hg h2 _,s.lg.put hg (λe=>h1 (.inr (.inl e))) (λe=>h1 (.inr (.inr e))) _,s.sm,s.le.set hx _,s.hr,s.hs⟩
theorem KR.set{sm:Nat}{h h':af}(k:KR sm h h'){b:Nat}(hb:h.nx<=b)(ob:bP):KR sm h ⟨h'.nx,h'.bl.a_ b ob,h'.lo⟩:=⟨k.nx,k.lo,λd hd hn ht=>(T.aD _ _ X1).trans (k.get d hd hn ht)⟩
theorem V2{E:EN}{H X:Int->Int->Int}{N:Nat}{D:AD}(s:TC h0 ms A M ck L v h)(a:AI h E H X N D)(ea:A.ab=E.z.ab)(o:pI)(c vv:Int){u:Value}(hu:jm u)(V:KQ)(hk:∀h' b,TC h0 ms A M ck L { v with note:=some b } h'->KR A.sm h h'->V (.tuple ⟨[]⟩) h'):av prog 199 [pt A.rb,.agg ⟨jo o⟩,.agg ⟨[X8 c,X8 vv,u]⟩] h V:=by
 have ca:=Ei hu c vv;have qa:=Ag hu c vv;have qo:=ane o.k o.t o.r o.m o.v o.w;have hlo:=s.lo;have cu:u.cells.toList=[u]:=by obtain⟨n,c,rfl|⟨x,o,rfl⟩⟩:=hu<;>rfl
 have ou:ef u=true:=by obtain⟨n,c,rfl|⟨x,o,rfl⟩⟩:=hu<;>rfl
 apply X9;rw[adt];simp(disch:=try exact Y)only[Wz,jo,ca];obtain⟨hA,aY,aU,g1,g3,dI,dJ⟩:=AY h (aj [X8 o.k,X8 o.t,X8 o.r,X8 o.m,X8 o.v,X8 o.w] 92 false) (aj [X8 c,X8 vv,u] 88 false);rw[<-aY]
 try rw[show((h.bl.a_ (h.nx) (aj [X8 o.k,X8 o.t,X8 o.r,X8 o.m,X8 o.v,X8 o.w] 92 false)).a_ (h.nx+1) (aj [X8 c,X8 vv,u] 88 false))=hA.bl by rw[aY]]
 clear aY;have sA:=s.keep aU;have gA:=sA.g;unfold ox at gA;simp(disch:=try exact Y)only[Wz,aN,gA,g1,g3];rw[ea];refine MB (a.le aU) _ ?_;simp(disch:=try exact Y)only[Wz,aN,gA,g1,g3,qa,qo];have ZG:=(Le.refl hA).new (aj [X8 D.ni,X8 0,X8 o.k,X8 o.t,X8 o.r,X8 o.m,X8 o.v,X8 o.w,X8 c,X8 vv,u] 369 false);have sN:=sA.keep ZG;have q:=sN.Dn { v with note:=some hA.nx };have k1:=sN.krV { v with note:=some hA.nx };unfold ox dF at q k1;have ltA:=sA.lt;simp(disch:=try exact Y)only[Wz,aN,gA];exact hk _ hA.nx q ((KR.le (aU.trans ZG)).trans k1)
def ag5:bP:=.map [wO 2 333 0,wO 3 334 1,wO 4 335 2,wO 5 336 3,wO 6 337 4] 5
theorem anf(h:af)(V:KQ)(hlo:h.lo<=h.nx)(hk:∀b h',Le h h'->h'.bl.get b=some ag5->V (.map (some b)) h'):av prog 280 [] h V:=by
 apply X9;rw[ad2];simp(disch:=try exact Y)only[Wz,cT];have nf:∀(h:af)(k k':Int)(f:FuncId)(n:Nat)(es:List MapEntry)(i:Nat),k≠k'->fJ prog h 3 (X8 k) (wO k' f n::es) i=fJ prog h 3 (X8 k) es (Nat.succ i):=λh k k' f n es i e=>by rw[findF,if_neg e]
 refine sH (es:=[]) (T.ay _ _ _) (by exact hlo) 2 333 (λh=>rfl) _ ?_;refine sH (T.ay _ _ _) (by exact hlo) 3 334 (λh=>by simp only[List.nil_append,List.cons_append];rw[nf _ _ _ _ _ _ _ X7];rfl) _ ?_;refine sH (T.ay _ _ _) (by exact hlo) 4 335 (λh=>by simp only[List.nil_append,List.cons_append];rw[nf _ _ _ _ _ _ _ X7,nf _ _ _ _ _ _ _ X7];rfl) _ ?_;refine sH (T.ay _ _ _) (by exact hlo) 5 336 (λh=>by simp only[List.nil_append,List.cons_append];rw[nf _ _ _ _ _ _ _ X7,nf _ _ _ _ _ _ _ X7,nf _ _ _ _ _ _ _ X7];rfl) _ ?_;refine sH (T.ay _ _ _) (by exact hlo) 6 337 (λh=>by simp only[List.nil_append,List.cons_append];rw[nf _ _ _ _ _ _ _ X7,nf _ _ _ _ _ _ _ X7,nf _ _ _ _ _ _ _ X7,nf _ _ _ _ _ _ _ X7];rfl) _ ?_;exact hk h.nx _ (((((((Le.refl h).new _).set (Nat.le_refl _) _).set (Nat.le_refl _) _).set (Nat.le_refl _) _).set (Nat.le_refl _) _).set (Nat.le_refl _) _) (T.ay _ _ _)
def opF(k:Int):FuncId:=if k=2 then 333 else if k=3 then 334 else if k=4 then 335 else if k=5 then 336 else 337
theorem ang{β:Type}{fl:β}{h:af}{b:Nat}(g:h.bl.get b=some ag5)(k:Int)(hk:2<=k/\k<=6)(V:X3 β):cq fl prog 3 Value.nilFunc false (.map (some b)) (X8 k) h V=V (.func (.func (opF k)) ⟨[]⟩ ⟨[]⟩) h:=by
 unfold cq iP;rw[Qs];simp only[g,ag5];have:k=2\/k=3\/k=4\/k=5\/k=6:=by omega
 rcases this with rfl|rfl|rfl|rfl|rfl
 .rw[findF,if_pos rfl];rfl
 .rw[findF,if_neg X7,findF,if_pos rfl];rfl
 .rw[findF,if_neg X7,findF,if_neg X7,findF,if_pos rfl];rfl
 .rw[findF,if_neg X7,findF,if_neg X7,findF,if_neg X7,findF,if_pos rfl];rfl
 .rw[findF,if_neg X7,findF,if_neg X7,findF,if_neg X7,findF,if_neg X7,findF,if_pos rfl];rfl
theorem FY(s:TC h0 ms A M ck L v h)(V:KQ)(hk:∀h',Le h h'->V (.bool (cM M v.op.t v.op.r).isSome) h'):av prog 385 [pt A.rb] h V:=by
 have g:=s.g;unfold ox at g;apply X9;rw[aex];simp(disch:=try exact Y)only[Wz,aN,g];refine O6 s.st s.lo v.op.t v.op.r _ ?_;intro h' le;simp(disch:=try exact Y)only[Wz];exact hk h' le
def V3(o:pI)(f:Int->Int->Option Int):W4:=⟨o.t,o.r,(f o.t o.r).getD 0,(f o.t o.r).isSome⟩
theorem V4(s:TC h0 ms A M ck L v h)(lv:br v.op.t v.op.r=2)(hL:L.length<=1000)(V:KQ)(hk:∀h' M' eY,TC h0 ms A M' eY (L++[V3 v.op (cM M)]) v h'->cM M'=iO (cM M) v.op.t v.op.r (some v.op.v)->M'.length<=M.length+1->KR A.sm h h'->V (.agg ⟨[X8 1,X8 0,.slice none 0 0]⟩) h'):av prog 386 [pt A.rb] h V:=by
 have ZH:=s.lt;have g:=s.g;have n0:=s.le.nx;have hlo:=s.lo;unfold ox at g;apply X9;rw[aey];simp(disch:=try exact Y)only[Wz,aN,g];obtain⟨hA,aY,aU,g1,g2,dI,dJ⟩:=AY h (aj [X8 0,X8 0,.slice none 0 0] 88 false) (aj [X8 0,X8 0,X8 0,.bool false] 99 false);rw[<-aY]
 try rw[show((h.bl.a_ (h.nx) (aj [X8 0,X8 0,.slice none 0 0] 88 false)).a_ (h.nx+1) (aj [X8 0,X8 0,X8 0,.bool false] 99 false))=hA.bl by rw[aY]]
 clear aY;refine FU (s.st.le aU) X1 lv v.op.v _ ?_;intro h2 M2 VW born s2 hp2 k2;have n2:=k2.nx;have l2:=k2.lo;have gmA:=(s.st.le aU).gm;have q1:=k2.cell gmA X1 g1;have q2:=k2.cell gmA X1 g2;have gA:=(s.keep aU).g;unfold ox at gA;have ZI:=k2.cell gmA X1 gA;obtain⟨h3,e3⟩:∃h3:af,h3=⟨h2.nx,h2.bl.a_ (h.nx+1) (aj [X8 v.op.t,X8 v.op.r,X8 ((cM M v.op.t v.op.r).getD 0),.bool (cM M v.op.t v.op.r).isSome] 99 false),h2.lo⟩:=⟨_,rfl⟩
 have T3:TC h0 ms A M2 VW L v h3:=by rw[e3];exact s.mst (s2.put q2 X7 _) (((MK.le aU).trans k2).set X1 _)
 have k3:KR A.sm h h3:=by rw[e3];exact(((MK.le aU).trans k2).set (b:=h.nx+1) X1 _).kr
 have n3:h3.nx=h2.nx:=by rw[e3]
 have l3:h3.lo=h2.lo:=by rw[e3]
 have q13:h3.bl.get h.nx=some (aj [X8 0,X8 0,.slice none 0 0] 88 false):=by rw[e3];exact(T.aD _ _ X1).trans q1
 simp(disch:=try exact Y)only[Wz,Kt,q2,ZI];rw[<-e3];clear e3;refine VS T3.lg T3.le T3.lo hL (V3 v.op (cM M)) lv _ ?_;intro h4 lg4 k4 rk4 jP;have n4:=(k4 0).nx;have l4:=(k4 0).lo;have T4:=T3.lgs lg4 k4 rk4 jP;have q14:=(k4 A.sm).cell T3.st.gm X1 q13 (by unfold sO;decide);simp(disch:=try exact Y)only[Wz,q14];exact hk _ M2 VW (T4.put q14 (by unfold sO;decide) X7 X1 _) (wT s.st.ok s2.ok hp2) (by
  have:=hp2.length_eq;rw[List.length_append,List.length_singleton]at this;have:=List.length_filter_le (λx=>!jO v.op.t v.op.r x) M;omega) ((k3.trans (k4 A.sm)).set X1 _)
end
def ur(o:pI)(f:Int->Int->Option Int):Int:=if o.k=6 then 1 else if o.k=4 then(if(f o.t o.r).isSome=true then 8 else 1)else if(f o.t o.r).isSome=true then 1 else 7
def CH(o:pI)(f:Int->Int->Option Int):Prop:=(o.k=3\/o.k=4\/o.k=5)/\ur o f=1
instance (o:pI)(f:Int->Int->Option Int):Decidable (CH o f):=by unfold CH;exact inferInstance
def ML(o:pI)(f:Int->Int->Option Int):Int->Int->Option Int:=if CH o f then iO f o.t o.r (if o.k=5 then none else some o.v)else f
def W0(o:pI)(f:Int->Int->Option Int)(L:List W4):List W4:=if CH o f then L++[V3 o f]else L
structure DoR(o:pI)(M M':List HE)(L L':List W4)(c vv:Int):Prop where
 ln:M'.length<=M.length+1
 lk:cM M'=ML o (cM M)
 lg:L'=W0 o (cM M) L
 co:c=ur o (cM M)
 va:o.k=2->c=1->vv=(cM M o.t o.r).getD 0
theorem DoR.stay{o:pI}{M:List HE}{L:List W4}{c vv:Int}(hp:¬CH o (cM M))(co:c=ur o (cM M))(va:o.k=2->c=1->vv=(cM M o.t o.r).getD 0):DoR o M M L L c vv:=
 ⟨Nat.le_succ _,by unfold ML;rw[if_neg hp],by unfold W0;rw[if_neg hp],co,va⟩
section
variable {h0 h h':af}{ms:List Nat}{A:RA}{M:List HE}{ck:Nat}{L:List W4}{v:RV}
def Kon(h0:af)(ms:List Nat)(A:RA)(M:List HE)(L:List W4)(v:RV)(h:af)(V:KQ):Prop:=
 ∀h' M' eY L' c vv u,TC h0 ms A M' eY L' v h'->KR A.sm h h'->jm u->DoR v.op M M' L L' c vv->V (.agg ⟨[X8 c,X8 vv,u]⟩) h'
theorem ZJ(s:TC h0 ms A M ck L v h)(hk2:v.op.k=2)(V:KQ)(hk:Kon h0 ms A M L v h V):av prog 333 [pt A.rb] h V:=by
 have ZH:=s.lt;have g:=s.g;have n0:=s.le.nx;have hlo:=s.lo;unfold ox at g;apply X9;rw[aeh];simp(disch:=try exact Y)only[Wz,aN,g];obtain⟨hA,aY,aU,g1,dI,dJ⟩:=kG h (aj [X8 0,X8 0,.slice none 0 0] 88 false);rw[<-aY]
 try rw[show(h.bl.a_ (h.nx) (aj [X8 0,X8 0,.slice none 0 0] 88 false))=hA.bl by rw[aY]]
 clear aY;have gA:=(s.keep aU).g;unfold ox at gA;refine O6 (s.st.le aU) X1 v.op.t v.op.r _ ?_;intro h2 bD;have mM:=bD.nx;have mN:=bD.lo;have g1:=(bD.get _ X1).trans g1;have T2:=(s.keep aU).keep bD;have np:¬CH v.op (cM M):=by unfold CH;rw[hk2];rintro⟨e|e|e,_⟩<;>revert e<;>decide
 cases KK:(cM M v.op.t v.op.r).isSome with
 |false=>
  simp(disch:=try exact Y)only[Wz,KK,g1];exact hk _ M ck L 7 0 _ (T2.put g1 (by unfold sO;decide) X7 X1 _) ((KR.le (aU.trans bD)).set (Nat.le_refl _) _) jm.nil (.stay np (by unfold ur;rw[hk2,KK];decide) λ_ e=>absurd e X7)
 |true=>
  simp(disch:=try exact Y)only[Wz,KK,g1];exact hk _ M ck L 1 _ _ (T2.put g1 (by unfold sO;decide) X7 X1 _) ((KR.le (aU.trans bD)).set (Nat.le_refl _) _) jm.nil (.stay np (by unfold ur;rw[hk2,KK];decide) λ_ _=>rfl)
theorem V5(s:TC h0 ms A M ck L v h)(xG:v.op.k=3)(lv:br v.op.t v.op.r=2)(hL:L.length<=1000)(V:KQ)(hk:Kon h0 ms A M L v h V):av prog 334 [pt A.rb] h V:=by
 have ZH:=s.lt;have n0:=s.le.nx;have hlo:=s.lo;apply X9;rw[aei];simp(disch:=try exact Y)only[Wz];obtain⟨hA,aY,aU,g1,dI,dJ⟩:=kG h (aj [X8 0,X8 0,.slice none 0 0] 88 false);rw[<-aY]
 try rw[show(h.bl.a_ (h.nx) (aj [X8 0,X8 0,.slice none 0 0] 88 false))=hA.bl by rw[aY]]
 clear aY;refine FY (s.keep aU) _ ?_;intro h2 bD;have mM:=bD.nx;have mN:=bD.lo;have g1:=(bD.get _ X1).trans g1;have T2:=(s.keep aU).keep bD;cases KK:(cM M v.op.t v.op.r).isSome with
 |false=>
  have co:ur v.op (cM M)=7:=by unfold ur;rw[xG,KK];decide
  simp(disch:=try exact Y)only[Wz,g1];exact hk _ M ck L 7 0 _ (T2.put g1 (by unfold sO;decide) X7 X1 _) ((KR.le (aU.trans bD)).set (Nat.le_refl _) _) jm.nil (.stay (by unfold CH;rw[co];rintro⟨_,e⟩;revert e;decide) co.symm λe=>absurd (xG.symm.trans e) X7)
 |true=>
  have co:ur v.op (cM M)=1:=by unfold ur;rw[xG,KK];decide
  have hp:CH v.op (cM M):=⟨.inl xG,co⟩
  simp(disch:=try exact Y)only[Wz];refine V4 T2 lv hL _ ?_;intro h3 M3 ck3 T3 lk3 ln3 k3;have n3:=k3.nx;have l3:=k3.lo;have q1:=k3.cell T2.st.gm X1 g1 (by unfold sO;decide);simp(disch:=try exact Y)only[Wz,q1];exact hk _ M3 ck3 _ 1 0 _ (T3.put q1 (by unfold sO;decide) X7 X1 _) (((KR.le (aU.trans bD)).trans k3).set (Nat.le_refl _) _) jm.nil ⟨ln3,by unfold ML;rw[if_pos hp,if_neg (by rw[xG];decide)];exact lk3,by unfold W0;rw[if_pos hp],co.symm,λe=>absurd (xG.symm.trans e) X7⟩
theorem Rj(s:TC h0 ms A M ck L v h)(wZ:v.op.k=4)(lv:br v.op.t v.op.r=2)(hL:L.length<=1000)(V:KQ)(hk:Kon h0 ms A M L v h V):av prog 335 [pt A.rb] h V:=by
 have ZH:=s.lt;have n0:=s.le.nx;have hlo:=s.lo;apply X9;rw[aej];simp(disch:=try exact Y)only[Wz];obtain⟨hA,aY,aU,g1,dI,dJ⟩:=kG h (aj [X8 0,X8 0,.slice none 0 0] 88 false);rw[<-aY]
 try rw[show(h.bl.a_ (h.nx) (aj [X8 0,X8 0,.slice none 0 0] 88 false))=hA.bl by rw[aY]]
 clear aY;refine FY (s.keep aU) _ ?_;intro h2 bD;have mM:=bD.nx;have mN:=bD.lo;have g1:=(bD.get _ X1).trans g1;have T2:=(s.keep aU).keep bD;cases KK:(cM M v.op.t v.op.r).isSome with
 |true=>
  have co:ur v.op (cM M)=8:=by unfold ur;rw[wZ,KK];decide
  simp(disch:=try exact Y)only[Wz,g1];exact hk _ M ck L 8 0 _ (T2.put g1 (by unfold sO;decide) X7 X1 _) ((KR.le (aU.trans bD)).set (Nat.le_refl _) _) jm.nil (.stay (by unfold CH;rw[co];rintro⟨_,e⟩;revert e;decide) co.symm λe=>absurd (wZ.symm.trans e) X7)
 |false=>
  have co:ur v.op (cM M)=1:=by unfold ur;rw[wZ,KK];decide
  have hp:CH v.op (cM M):=⟨.inr (.inl wZ),co⟩
  simp(disch:=try exact Y)only[Wz];refine V4 T2 lv hL _ ?_;intro h3 M3 ck3 T3 lk3 ln3 k3;have n3:=k3.nx;have l3:=k3.lo;have q1:=k3.cell T2.st.gm X1 g1 (by unfold sO;decide);simp(disch:=try exact Y)only[Wz,q1];exact hk _ M3 ck3 _ 1 0 _ (T3.put q1 (by unfold sO;decide) X7 X1 _) (((KR.le (aU.trans bD)).trans k3).set (Nat.le_refl _) _) jm.nil ⟨ln3,by unfold ML;rw[if_pos hp,if_neg (by rw[wZ];decide)];exact lk3,by unfold W0;rw[if_pos hp],co.symm,λe=>absurd (wZ.symm.trans e) X7⟩
theorem Rk(s:TC h0 ms A M ck L v h)(Fx:v.op.k=5)(lv:br v.op.t v.op.r=2)(hL:L.length<=1000)(V:KQ)(hk:Kon h0 ms A M L v h V):av prog 336 [pt A.rb] h V:=by
 have ZH:=s.lt;have n0:=s.le.nx;have hlo:=s.lo;apply X9;rw[aek];simp(disch:=try exact Y)only[Wz];obtain⟨hA,aY,aU,g1,dI,dJ⟩:=kG h (aj [X8 0,X8 0,.slice none 0 0] 88 false);rw[<-aY]
 try rw[show(h.bl.a_ (h.nx) (aj [X8 0,X8 0,.slice none 0 0] 88 false))=hA.bl by rw[aY]]
 clear aY;refine FY (s.keep aU) _ ?_;intro h1 bN;have n1:=bN.nx;have l1:=bN.lo;have Cq:=bN.nx;have Cr:=bN.lo;have g1:=(bN.get _ X1).trans g1;have T1:=(s.keep aU).keep bN;cases KK:(cM M v.op.t v.op.r).isSome with
 |false=>
  have co:ur v.op (cM M)=7:=by unfold ur;rw[Fx,KK];decide
  simp(disch:=try exact Y)only[Wz,g1];exact hk _ M ck L 7 0 _ (T1.put g1 (by unfold sO;decide) X7 X1 _) ((KR.le (aU.trans bN)).set (Nat.le_refl _) _) jm.nil (.stay (by unfold CH;rw[co];rintro⟨_,e⟩;revert e;decide) co.symm λe=>absurd (Fx.symm.trans e) X7)
 |true=>
  have co:ur v.op (cM M)=1:=by unfold ur;rw[Fx,KK];decide
  have hp:CH v.op (cM M):=⟨.inr (.inr Fx),co⟩
  have gR:=T1.g;unfold ox at gR;simp(disch:=try exact Y)only[Wz,IP,aN,gR];obtain⟨hB,gL,bW,g2,BO,BP⟩:=kG h1 (aj [X8 0,X8 0,X8 0,.bool false] 99 false);rw[<-gL]
  try rw[show(h1.bl.a_ (h1.nx) (aj [X8 0,X8 0,X8 0,.bool false] 99 false))=hB.bl by rw[gL]]
  clear gL;have oN:=bW.nx;have oO:=bW.lo;have g1:=(bW.get _ X1).trans g1;refine O7 (T1.st.le bW) X1 lv _ ?_;intro h2 s2 k2;have n2:=k2.nx;have l2:=k2.lo;have gmB:=(T1.st.le bW).gm;have q1:=k2.cell gmB X1 g1;have q2:=k2.cell gmB X1 g2;have gB:=(T1.keep bW).g;unfold ox at gB;have ZI:=k2.cell gmB X1 gB;have qJ:=(aU.trans bN).trans bW;obtain⟨h3,e3⟩:∃h3:af,h3=⟨h2.nx,h2.bl.a_ h1.nx (aj [X8 v.op.t,X8 v.op.r,X8 ((cM M v.op.t v.op.r).getD 0),.bool (cM M v.op.t v.op.r).isSome] 99 false),h2.lo⟩:=⟨_,rfl⟩
  have T3:TC h0 ms A (M.filter λx=>!jO v.op.t v.op.r x) ck L v h3:=by rw[e3];exact s.mst (s2.put q2 X7 _) (((MK.le qJ).trans k2).set X1 _)
  have k3:KR A.sm h h3:=by rw[e3];exact(((MK.le qJ).trans k2).set (b:=h1.nx) X1 _).kr
  have n3:h3.nx=h2.nx:=by rw[e3]
  have l3:h3.lo=h2.lo:=by rw[e3]
  have q13:h3.bl.get h.nx=some (aj [X8 0,X8 0,.slice none 0 0] 88 false):=by rw[e3];exact(T.aD _ _ X1).trans q1
  simp(disch:=try exact Y)only[Wz,Kt,q2,ZI];rw[<-e3];clear e3;refine VS T3.lg T3.le T3.lo hL (V3 v.op (cM M)) lv _ ?_;intro h4 lg4 k4 rk4 jP;have n4:=(k4 0).nx;have l4:=(k4 0).lo;have T4:=T3.lgs lg4 k4 rk4 jP;have q14:=(k4 A.sm).cell T3.st.gm X1 q13 (by unfold sO;decide);simp(disch:=try exact Y)only[Wz,q14];exact hk _ _ ck _ 1 0 _ (T4.put q14 (by unfold sO;decide) X7 X1 _) ((k3.trans (k4 A.sm)).set (Nat.le_refl _) _) jm.nil ⟨by
   have:=List.length_filter_le (λx=>!jO v.op.t v.op.r x) M;omega,by unfold ML;rw[if_pos hp,if_pos Fx];exact Pe s.st.ok,by unfold W0;rw[if_pos hp],co.symm,λe=>absurd (Fx.symm.trans e) X7⟩
theorem ZK(s:TC h0 ms A M ck L v h)(Yn:v.op.k=6)(hM:M.length<=1000)(V:KQ)(hk:Kon h0 ms A M L v h V):av prog 337 [pt A.rb] h V:=by
 have ZH:=s.lt;have g:=s.g;have n0:=s.le.nx;have hlo:=s.lo;unfold ox at g;apply X9;rw[ael];simp(disch:=try exact Y)only[Wz,aN,g];obtain⟨hA,aY,aU,g1,dI,dJ⟩:=kG h (aj [X8 0,X8 0,.slice none 0 0] 88 false);rw[<-aY]
 try rw[show(h.bl.a_ (h.nx) (aj [X8 0,X8 0,.slice none 0 0] 88 false))=hA.bl by rw[aY]]
 clear aY;have gA:=(s.keep aU).g;unfold ox at gA;refine VO (s.st.le aU) X1 hM v.op.t _ ?_;intro u h2 bD hu;have n2:=bD.nx;have l2:=bD.lo;have mM:=bD.nx;have mN:=bD.lo;have g1:=(bD.get _ X1).trans g1;have T2:=(s.keep aU).keep bD;have hu0:=hu;obtain⟨n,c,hu'|⟨x,o,hu'⟩⟩:=hu<;>subst hu'
 all_goals simp(disch:=try exact Y)only[Wz,g1]
 all_goals exact hk _ M ck L 1 0 _ (T2.put g1 (by unfold sO;decide) X7 X1 _) ((KR.le (aU.trans bD)).set (Nat.le_refl _) _) hu0 (.stay (by unfold CH;rw[Yn];rintro⟨e|e|e,_⟩<;>revert e<;>decide) (by unfold ur;rw[if_pos Yn]) λe=>absurd (Yn.symm.trans e) X7)
end
section
variable {h0 h h':af}{ms:List Nat}{A:RA}{M:List HE}{ck:Nat}{L:List W4}{v:RV}{E:EN}{H X:Int->Int->Int}{N:Nat}{D:AD}
theorem ag7(s:TC h0 ms A M ck L v h)(V6:2<=v.op.k/\v.op.k<=6)(ok:tU v.op)(hL:L.length<=1000)(hM:M.length<=1000)(V:KQ)(hk:Kon h0 ms A M L v h V):av prog (opF v.op.k) [pt A.rb] h V:=by
 have hl:=ok.2;have:v.op.k=2\/v.op.k=3\/v.op.k=4\/v.op.k=5\/v.op.k=6:=by omega
 rcases this with e|e|e|e|e<;>rw[e]at hl ⊢
 .exact ZJ s e V hk
 .exact V5 s e hl hL V hk
 .exact Rj s e hl hL V hk
 .exact Rk s e hl hL V hk
 .exact ZK s e hM V hk
theorem aud(s:TC h0 E.a.ms A M ck L v h)(a:AI h E H X N D)(ea:A.ab=E.z.ab)(V6:2<=v.op.k/\v.op.k<=6)(ok:tU v.op)(hL:L.length<=1000)(hM:M.length<=1000)(V:KQ)(hk:∀h' M' eY L' c vv u b,TC h0 E.a.ms A M' eY L' { v with note:=some b,nx:=none } h'->AI h' E H X N D->KR A.sm h h'->jm u->DoR v.op M M' L L' c vv->V (.tuple ⟨[.bool true,.agg ⟨[X8 c,X8 vv,u]⟩]⟩) h'):av prog 201 [pt A.rb] h V:=by
 have ZH:=s.lt;have n0:=s.le.nx;have hlo:=s.lo;have g:=s.g;unfold ox at g;apply X9;rw[adw];simp(disch:=try exact Y)only[Wz,aN,g];obtain⟨hA,aY,aU,g1,g8,dI,dJ⟩:=AY h (aj [X8 0,X8 0,.slice none 0 0] 88 false) (aj [X8 0,X8 0,.slice none 0 0] 88 false);rw[<-aY]
 try rw[show((h.bl.a_ (h.nx) (aj [X8 0,X8 0,.slice none 0 0] 88 false)).a_ (h.nx+1) (aj [X8 0,X8 0,.slice none 0 0] 88 false))=hA.bl by rw[aY]]
 clear aY;refine anf hA _ X1 ?_;intro b h1 bN gb;have n1:=bN.nx;have l1:=bN.lo;have Cq:=bN.nx;have Cr:=bN.lo;have g1:=(bN.get _ X1).trans g1;have g8:=(bN.get _ X1).trans g8;have T1:=(s.keep aU).keep bN;have gR:=T1.g;unfold ox at gR;have lk:=λ(β:Type)(fl:β)(V:X3 β)=>ang (fl:=fl) gb v.op.k V6 V;simp(disch:=try exact Y)only[Wz,aN,gR,lk];refine ag7 T1 V6 ok hL hM _ ?_;intro h2 M' eY L' c vv u T2 k2 hu dr;have n2:=k2.nx;have l2:=k2.lo;have q1:=k2.cell T1.st.gm X1 g1 (by unfold sO;decide);have q8:=k2.cell T1.st.gm X1 g8 (by unfold sO;decide);have k02:KR A.sm h h2:=(KR.le (aU.trans bN)).trans k2;have gm:=s.st.gm;obtain⟨ux,un,uc,rfl⟩:∃x n c,u=.slice x n c:=by obtain⟨n,c,rfl|⟨x,o,rfl⟩⟩:=hu<;>exact⟨_,_,_,rfl⟩
 have ca:=Ei hu c vv;have qa:=Ag hu c vv;have ZI:=T2.g;unfold ox at ZI;obtain⟨h3,e3⟩:∃h3:af,h3=⟨h2.nx,h2.bl.a_ (h.nx+1) (aj [X8 c,X8 vv,.slice ux un uc] 88 false),h2.lo⟩:=⟨_,rfl⟩
 have T3:TC h0 E.a.ms A M' eY L' v h3:=by rw[e3];exact T2.put q8 (by unfold sO;decide) X7 X1 _
 have k03:KR A.sm h h3:=by rw[e3];exact k02.set X1 _
 have n3:h3.nx=h2.nx:=by rw[e3]
 have l3:h3.lo=h2.lo:=by rw[e3]
 have g83:h3.bl.get (h.nx+1)=some (aj [X8 c,X8 vv,.slice ux un uc] 88 false):=by rw[e3];exact T.ay _ _ _
 have g13:h3.bl.get h.nx=some (aj [X8 0,X8 0,.slice none 0 0] 88 false):=by rw[e3];exact(T.aD _ _ X1).trans q1
 have a3:AI h3 E H X N D:=a.kr k03 gm s.sm;simp(disch:=try exact Y)only[Wz,ca,q8,aN,ZI];rw[<-e3];clear e3;refine V2 T3 a3 ea v.op c vv hu _ ?_;intro h4 bn T4 k4;have n4:=k4.nx;have l4:=k4.lo;have g84:=k4.cell T3.st.gm X1 g83 (by unfold sO;decide);have g14:=k4.cell T3.st.gm X1 g13 (by unfold sO;decide);have gR4:=T4.g;have lt4:=T4.lt;have T5:=T4.Dn { v with note:=some bn,nx:=none };have k5:=T4.krV { v with note:=some bn,nx:=none };unfold ox at gR4;unfold ox WZ at T5 k5;have hne:A.rb≠h.nx+1:=by omega
 have P_:A.rb≠h.nx:=by omega
 have cnF:(Value.cells Value.nilFunc).toList=[Value.nilFunc]:=rfl;simp(disch:=try exact Y)only[Wz,aN,gR4,cnF];rw[qb _ _ _ 1 _ _ [Value.nilFunc] _ _ rfl rfl (by simp) lt4.2];simp(disch:=try exact Y)only[Wz,dF,g84,g14,qa,ca];have g15:(h4.bl.a_ A.rb (aj [pt A.ab,X8 0,pt A.lb,pt A.sb,X8 v.op.k,X8 v.op.t,X8 v.op.r,X8 v.op.m,X8 v.op.v,X8 v.op.w,Value.nilFunc,X8 v.kind,X8 v.code,dF (some bn)] 169 false)).get h.nx=_:=(T.aD _ _ P_).trans g14;have T6:=T5.put g15 (by unfold sO;decide) X7 X1 (aj [X8 c,X8 vv,.slice ux un uc] 88 false);have k06:=(((k03.trans k4).trans k5).set (b:=h.nx) (Nat.le_refl _) (aj [X8 c,X8 vv,.slice ux un uc] 88 false))
 exact hk _ M' eY L' c vv _ bn T6 (a.kr k06 gm s.sm) k06 hu dr
end
def fq:List Value:=[X8 0,X8 0,.slice none 0 0]
def fu(vs:List Value):bP:=aj vs 88 false
theorem cG:¬mE 88 false/\¬ki 88 false/\¬Kg 88/\¬KI 88/\¬sO 88:=by
 refine⟨?_,?_,?_,?_,?_⟩
 .unfold mE;decide
 .unfold ki;decide
 .unfold Kg KI;decide
 .unfold KI;decide
 .unfold sO;decide
section
variable {h0 h h':af}{ms:List Nat}{A:RA}{M:List HE}{ck:Nat}{L:List W4}{v:RV}{E:EN}
theorem V7(s:TC h0 ms A M ck L v h)(yE:v.nx.isSome=true)(V:KQ)(hk:V (.bool true) h)(hr:v.kind≠6->∀κ':Value->af->Prop,κ' (.bool true) h->av prog 137 [pt A.ab] h κ'):av prog 145 [pt A.rb] h V:=by
 have g:=s.g;unfold ox at g;apply X9;rw[acW];refine MI s _ ?_;rw[yE];by_cases e:v.kind=6
 .simp(disch:=try exact Y)only[Wz,aN,g,bz e];exact hk
 .simp(disch:=try exact Y)only[Wz,aN,g,bf e];refine hr e _ ?_;exact hk
theorem wW(s:TC h0 ms A M ck L v h){f:FuncId}(yE:v.nx=some f)(hr:v.kind≠6->∀κ':Value->af->Prop,κ' (.bool true) ⟨h.nx+1,h.bl.a_ h.nx (fu fq),h.lo⟩->av prog 137 [pt A.ab] ⟨h.nx+1,h.bl.a_ h.nx (fu fq),h.lo⟩ κ')(V:KQ)(hb:∀hB,TC h0 ms A M ck L { v with note:=none } hB->KR A.sm h hB->hB.bl.get h.nx=some (fu fq)->h.nx<hB.nx->av prog f [pt A.rb] hB λw h'=>∃done c vv u,w=.tuple ⟨[.bool done,.agg ⟨[X8 c,X8 vv,u]⟩]⟩/\jm u/\h'.bl.get h.nx=some (fu fq)/\h'.lo=h.lo/\V (.tuple ⟨[.bool done,.agg ⟨[X8 c,X8 vv,u]⟩,X8 0]⟩) ⟨h'.nx,h'.bl.a_ h.nx (fu [X8 c,X8 vv,u]),h'.lo⟩):av prog 89 [pt A.rb] h V:=by
 have hlo:=s.lo;have ZH:=s.lt;unfold fu fq at hr hb;apply X9;rw[ako];simp(disch:=try exact Y)only[Wz,ku,Ox];have LZ:=(Le.refl h).new (aj [X8 0,X8 0,.slice none 0 0] 88 false);have sA:=s.keep LZ;refine V7 sA (by rw[yE];rfl) _ ?_ hr;have gA:=sA.g;have ltA:=sA.lt;have sB:=sA.Dn { v with note:=none };have kB:=(KR.le LZ).trans (sA.krV { v with note:=none });have gB:((h.bl.a_ h.nx (aj [X8 0,X8 0,.slice none 0 0] 88 false)).a_ A.rb (ox A { v with note:=none })).get h.nx=_:=(T.aD _ _ X1).trans (T.ay _ _ _);have hb:=hb _ sB kB gB (Nat.lt_succ_self _);unfold ox at gA;unfold ox dF at hb;rw[yE]at gA hb;unfold WZ at gA hb;have gA0:h.bl.get A.rb=_:=(LZ.get _ ZH.1).symm.trans gA;simp(disch:=try exact Y)only[Wz,Ow,aN,gA0,List.cons_append,List.nil_append,List.append_nil];refine av.mono hb ?_;rintro w h' ⟨done,c,vv,u,rfl,hu,g',l',k⟩;have qa:=Ag hu c vv;obtain⟨ux,un,uc,rfl⟩:∃x n c,u=.slice x n c:=by obtain⟨n,c,rfl|⟨x,o,rfl⟩⟩:=hu<;>exact⟨_,_,_,rfl⟩
 simp(disch:=try exact Y)only[Wz,g',qa];exact k
end
section
variable {h0 h h':af}{A:RA}{M:List HE}{ck:Nat}{L:List W4}{v:RV}{E:EN}{Q:(af->Prop)->Nat->af->Prop}{P:(af->Prop)->Nat->Int->af->Prop}
structure AN(X:List Nat)(h h':af):Prop where
 nx:h.nx<=h'.nx
 lo:h'.lo=h.lo
 an:∀d vs,d<h.nx->h.bl.get d=some (fu vs)->h'.bl.get d=some (fu vs)
 ty:∀d vs t o,d<h.nx->h.bl.get d=some (aj vs t o)->¬mE t o->¬ki t o->¬KI t->¬sO t->h'.bl.get d=some (aj vs t o)
 mp:∀d es c,d<h.nx->h.bl.get d=some (.map es c)->d∉X->h'.bl.get d=some (.map es c)
theorem AN.refl{X:List Nat}(h:af):AN X h h:=⟨Nat.le_refl _,rfl,λ_ _ _ g=>g,λ_ _ _ _ _ g _ _ _ _=>g,λ_ _ _ _ g _=>g⟩
theorem ag8{h:af}{d:Nat}{es:List MapEntry}{c:Nat}(g:h.bl.get d=some (.map es c))(vs:List Value)(t:TypeId)(o:Bool):h.bl.get d≠some (aj vs t o):=by rw[g];exact bY
theorem AN.kr{X:List Nat}{ha:af}{sm:Nat}{es:List MapEntry}{cl:Nat}(a:AN X ha h)(n:ha.nx<=h.nx)(k:KR sm h h')(gm:h.bl.get sm=some (.map es cl))(hX:sm∈X:=by exact List.Mem.head _):AN X ha h':=
 ⟨Nat.le_trans n k.nx,k.lo.trans a.lo,λd vs hd g=>k.cell gm X1 (a.an d vs hd g) cG.2.2.2.2,λd vs t o hd g h1 h2 h3 h4=>k.cell gm X1 (a.ty d vs t o hd g h1 h2 h3 h4) h4,
  λd es c hd g hn=>(k.get d X1 (λe=>hn (e▸hX)) λvs t o _=>ag8 (a.mp d es c hd g hn) vs t o).trans (a.mp d es c hd g hn)⟩
theorem AN.a_{X:List Nat}{ha:af}(a:AN X ha h){b:Nat}(hb:ha.nx<=b)(ob:bP):AN X ha ⟨h.nx,h.bl.a_ b ob,h.lo⟩:=⟨a.nx,a.lo,λd vs hd g=>(T.aD _ _ X1).trans (a.an d vs hd g),λd vs t o hd g h1 h2 h3 h4=>(T.aD _ _ X1).trans (a.ty d vs t o hd g h1 h2 h3 h4),λd es c hd g hn=>(T.aD _ _ X1).trans (a.mp d es c hd g hn)⟩
theorem AN.le{X:List Nat}(l:Le h h'):AN X h h':=⟨l.nx,l.lo,λd vs hd g=>(l.get d hd).trans g,λd vs t o hd g _ _ _ _=>(l.get d hd).trans g,λd es c hd g _=>(l.get d hd).trans g⟩
theorem AN.tr{X:List Nat}{h1 h2:af}(x:AN X h h1)(y:AN X h1 h2):AN X h h2:=⟨Nat.le_trans x.nx y.nx,y.lo.trans x.lo,λd vs hd g=>y.an d vs (Nat.lt_of_lt_of_le hd x.nx) (x.an d vs hd g),λd vs t o hd g h1 h2 h3 h4=>y.ty d vs t o (Nat.lt_of_lt_of_le hd x.nx) (x.ty d vs t o hd g h1 h2 h3 h4) h1 h2 h3 h4,λd es c hd g hn=>y.mp d es c (Nat.lt_of_lt_of_le hd x.nx) (x.mp d es c hd g hn) hn⟩
theorem AN.fk{X:List Nat}{ha:af}{a':TA}(a:AN X ha h)(k:FK a' h h')(hX:∀y∈a'.ms,y∈X:=by exact λ_ h=>List.Mem.tail _ h):AN X ha h':=
 ⟨Nat.le_trans a.nx k.nx,k.lo.trans a.lo,λd vs hd g=>(k.ty _ _ _ _ (Nat.lt_of_lt_of_le hd a.nx) (a.an d vs hd g) cG.1 cG.2.1 cG.2.2.2.1).trans (a.an d vs hd g),λd vs t o hd g h1 h2 h3 h4=>(k.ty _ _ _ _ (Nat.lt_of_lt_of_le hd a.nx) (a.ty d vs t o hd g h1 h2 h3 h4) h1 h2 h3).trans (a.ty d vs t o hd g h1 h2 h3 h4),
  λd es c hd g hn=>(k.mp _ _ _ (Nat.lt_of_lt_of_le hd a.nx) (a.mp d es c hd g hn) λhm=>hn (hX _ hm)).trans (a.mp d es c hd g hn)⟩
abbrev xm(A:RA)(ms:List Nat):List Nat:=A.sm::ms
theorem abn(A:RA)(ms:List Nat):∀y∈ms,y∈xm A ms:=λ_ h=>.tail _ h
theorem ani(A:RA)(ms:List Nat):A.sm∈xm A ms:=.head _
def Z2(h0:af)(ms:List Nat)(A:RA)(M:List HE)(ck:Nat)(L:List W4)(v:RV)(b b' lo:Nat)(ha:af)(h:af):Prop:=
 TC h0 ms A M ck L v h/\h.bl.get b=some (fu fq)/\h.bl.get b'=some (fu fq)/\b<h.nx/\b'<h.nx/\b≠b'/\h.lo=lo/\h0.nx<=b/\h0.nx<=b'/\lo<=b/\lo<=b'/\AN (xm A ms) ha h/\ha.nx<=b/\ha.nx<=b'/\ha.nx<=h.nx
theorem Z2.fk(ro:kK h0){a:TA}{b b' lo:Nat}{ha:af}(z:Z2 h0 a.ms A M ck L v b b' lo ha h)(k:FK a h h'):Z2 h0 a.ms A M ck L v b b' lo ha h':=by
 obtain⟨z1,z2,z3,z4,z5,z6,z7,z8,z9,z10,z11,z12,V8,V9,z15⟩:=z;have n:=k.nx;exact⟨z1.fk ro k,(k.ty _ _ _ _ z4 z2 cG.1 cG.2.1 cG.2.2.2.1).trans z2,(k.ty _ _ _ _ z5 z3 cG.1 cG.2.1 cG.2.2.2.1).trans z3,X1,X1,z6,k.lo.trans z7,z8,z9,z10,z11,z12.fk k (abn A a.ms),V8,V9,X1⟩
theorem Z2.kr{ms:List Nat}{b b' lo:Nat}{ha:af}{v':RV}(z:Z2 h0 ms A M ck L v b b' lo ha h)(k:KR A.sm h h')(t:TC h0 ms A M ck L v' h'):Z2 h0 ms A M ck L v' b b' lo ha h':=by
 obtain⟨z1,z2,z3,z4,z5,z6,z7,z8,z9,z10,z11,z12,V8,V9,z15⟩:=z;have n:=k.nx;exact⟨t,k.cell z1.st.gm z4 z2 cG.2.2.2.2,k.cell z1.st.gm z5 z3 cG.2.2.2.2,X1,X1,z6,k.lo.trans z7,z8,z9,z10,z11,z12.kr z15 k z1.st.gm (ani A ms),V8,V9,X1⟩
theorem TC.MM{ms:List Nat}(s:TC h0 ms A M ck L v h){b:Nat}{vs:List Value}(hg:h.bl.get b=some (fu vs))(hb:h0.nx<=b)(ws:List Value):TC h0 ms A M ck L v ⟨h.nx,h.bl.a_ b (fu ws),h.lo⟩:=s.put hg cG.2.2.2.2 X7 hb _
def Ej(v:RV)(code:Int):RV:=if code=1 then{ v with note:=none,nx:=some 201,kind:=6 }else{ v with note:=none,code:=code,nx:=some 143,kind:=6 }
theorem MN(ro:kK h0)(R:Rg E A.sm Q P){i:Nat}(q:Q (TC h0 E.a.ms A M ck L v) i h)(yE:v.nx=some 144)(ea:A.ab=E.z.ab)(V:KQ)(dZ:∀h',Q (TC h0 E.a.ms A M ck L { v with note:=none }) (i+1) h'->AN (xm A E.a.ms) h h'->V (.tuple ⟨[.bool false,.agg ⟨fq⟩,X8 0]⟩) h')(hk2:∀code h',P (TC h0 E.a.ms A M ck L (Ej v code)) i code h'->AN (xm A E.a.ms) h h'->V (.tuple ⟨[.bool false,.agg ⟨fq⟩,X8 0]⟩) h'):av prog 89 [pt A.rb] h V:=by
 have s:=R.z _ _ _ q;have hlo:=s.lo;have n0:=s.le.nx;refine wW s yE (λ_ κ' hk'=>?_) V λhB sB kB gB nB=>?_
 .rw[ea];exact R.ready (TC h0 E.a.ms A M ck L v) i _ κ' (R.kr _ _ i _ _ _ _ q (KR.le ((Le.refl h).new _)) s.st.gm s.sm (s.keep ((Le.refl h).new _))) hk'
 .have loB:=kB.lo;have gR:=sB.g;unfold ox at gR;have ltB:=sB.lt;have VV:=sB.lo;apply X9;rw[acV];simp(disch:=try exact Y)only[Wz,aN,gR];obtain⟨hC,eC⟩:∃hC:af,hC=⟨hB.nx+1,hB.bl.a_ hB.nx (fu fq),hB.lo⟩:=⟨_,rfl⟩
  have ZL:Le hB hC:=by rw[eC];exact(Le.refl hB).new _
  have gC:hC.bl.get hB.nx=some (fu fq):=by rw[eC];exact T.ay _ _ _
  have nC:hC.nx=hB.nx+1:=by rw[eC]
  have loC:hC.lo=hB.lo:=by rw[eC]
  unfold fu fq at eC;rw[<-eC];clear eC;have zC:Z2 h0 E.a.ms A M ck L { v with note:=none } h.nx hB.nx h.lo h hC:=⟨sB.keep ZL,(ZL.get _ nB).trans gB,gC,X1,X1,X1,X1,X1,by have:=sB.le.nx;omega,X1,X1,((AN.refl h).kr (Nat.le_refl _) kB s.st.gm).tr (AN.le ZL),Nat.le_refl _,X1,X1⟩
  have qC:=R.kr _ (Z2 h0 E.a.ms A M ck L { v with note:=none } h.nx hB.nx h.lo h) i _ _ _ _ q (kB.trans (KR.le ZL)) s.st.gm s.sm zC;rw[ea]
  have fin:∀(R':(af->Prop)->af->Prop),(∀Z Z' h x vs t o ob,R' Z h->h.bl.get x=some (aj vs t o)->¬mE t o->¬ki t o->¬Kg t->Z' ⟨h.nx,h.bl.a_ x ob,h.lo⟩->R' Z' ⟨h.nx,h.bl.a_ x ob,h.lo⟩)->∀v' h1,Z2 h0 E.a.ms A M ck L v' h.nx hB.nx h.lo h h1->R' (Z2 h0 E.a.ms A M ck L v' h.nx hB.nx h.lo h) h1->
    R' (TC h0 E.a.ms A M ck L v') ⟨h1.nx,(h1.bl.a_ hB.nx (fu fq)).a_ h.nx (fu fq),h1.lo⟩/\(h1.bl.a_ hB.nx (fu fq)).get h.nx=some (fu fq):=by
   intro R' pu v' h1 z r;obtain⟨z1,z2,z3,z4,z5,z6,z7,z8,z9,_⟩:=z;have g2:(h1.bl.a_ hB.nx (fu fq)).get h.nx=some (fu fq):=(T.aD _ _ (λe=>z6 e.symm)).trans z2;have t1:=z1.MM z3 z9 fq;have r1:=pu _ (TC h0 E.a.ms A M ck L v') h1 hB.nx _ _ _ (fu fq) r z3 cG.1 cG.2.1 cG.2.2.1 t1;exact⟨pu _ _ _ h.nx _ _ _ (fu fq) r1 g2 cG.1 cG.2.1 cG.2.2.1 (t1.MM g2 z8 fq),g2⟩
  refine R.step (Z2 h0 E.a.ms A M ck L { v with note:=none } h.nx hB.nx h.lo h) (λz k=>z.fk ro k) i hC _ qC ?_ ?_
  .intro h1 q1;have z1:=R.z _ _ _ q1;obtain⟨f1,f2⟩:=fin (λZ=>Q Z (i+1)) (λZ Z' h x vs t o ob=>R.pu Z Z' (i+1) h x vs t o ob) _ h1 z1 q1;obtain⟨_,z2,z3,z4,z5,z6,z7,z8,z9,z10,z11,z12,V8,V9,z15⟩:=z1;refine⟨λl' h'=>h'=h1,?_,?_⟩
   .simp(disch:=try exact Y)only[Wz,vW,Bj]
   .rintro l' h' rfl;unfold fu fq at z3;simp(disch:=try exact Y)only[Wz,z3];exact⟨false,0,0,_,rfl,jm.nil,z2,z7,dZ _ f1 ((z12.a_ V9 _).a_ V8 _)⟩
  .intro code h1 p1;have z1:=R.pz _ _ _ _ p1;have T1:=z1.1;refine⟨λl' h'=>P (Z2 h0 E.a.ms A M ck L (Ej v code) h.nx hB.nx h.lo h) i code h',?_,?_⟩
   .by_cases hc:code=1
    .have ev:Ej v code={ v with note:=none,nx:=some 201,kind:=6 }:=by unfold Ej;rw[if_pos hc]
     simp(disch:=try exact Y)only[Wz,vW,bz hc];refine wV T1 6 201 _ ?_;intro h3 T3 k3;exact R.pkr _ _ i code _ _ _ _ p1 k3 T1.st.gm T1.sm (z1.kr k3 (by rw[ev];exact T3))
    .have ev:Ej v code={ v with note:=none,code:=code,nx:=some 143,kind:=6 }:=by unfold Ej;rw[if_neg hc]
     have gR1:=T1.g;have lt1:=T1.lt;have T2:=T1.Dn { v with note:=none,code:=code };have k2:=T1.krV { v with note:=none,code:=code };unfold ox at gR1;unfold ox at T2 k2;simp(disch:=try exact Y)only[Wz,vW,bf hc,Bj,aN,gR1];refine wV T2 6 143 _ ?_;intro h3 T3 k3;exact R.pkr _ _ i code _ _ _ _ p1 (k2.trans k3) T1.st.gm T1.sm (z1.kr (k2.trans k3) (by rw[ev];exact T3))
   .rintro l' h3 p3;have z3:=R.pz _ _ _ _ p3;obtain⟨f1,f2⟩:=fin (λZ h=>P Z i code h) (λZ Z' h x vs t o ob=>R.ppu Z Z' i code h x vs t o ob) _ h3 z3 p3;obtain⟨_,z2,z3,z4,z5,z6,z7,z8,z9,z10,z11,z12,V8,V9,z15⟩:=z3;unfold fu fq at z3;simp(disch:=try exact Y)only[Wz,z3];exact⟨false,0,0,_,rfl,jm.nil,z2,z7,hk2 code _ f1 ((z12.a_ V9 _).a_ V8 _)⟩
end
section
variable {h0 h h':af}{A:RA}{M:List HE}{ck:Nat}{L:List W4}{v:RV}{E:EN}{Q:(af->Prop)->Nat->af->Prop}{P:(af->Prop)->Nat->Int->af->Prop}
theorem Z2.fin{ms:List Nat}{b b' lo:Nat}{ha:af}{v':RV}{h1:af}(R':(af->Prop)->af->Prop)(pu:∀Z Z' h x vs t o ob,R' Z h->h.bl.get x=some (aj vs t o)->¬mE t o->¬ki t o->¬Kg t->Z' ⟨h.nx,h.bl.a_ x ob,h.lo⟩->R' Z' ⟨h.nx,h.bl.a_ x ob,h.lo⟩)(z:Z2 h0 ms A M ck L v' b b' lo ha h1)(r:R' (Z2 h0 ms A M ck L v' b b' lo ha) h1)(ws Ru:List Value):R' (TC h0 ms A M ck L v') ⟨h1.nx,(h1.bl.a_ b' (fu ws)).a_ b (fu Ru),h1.lo⟩:=by
 obtain⟨z1,z2,z3,z4,z5,z6,z7,z8,z9,_⟩:=z;have g2:(h1.bl.a_ b' (fu ws)).get b=some (fu fq):=(T.aD _ _ (λe=>z6 e.symm)).trans z2;have t1:=z1.MM z3 z9 ws;have r1:=pu _ (TC h0 ms A M ck L v') h1 b' _ _ _ (fu ws) r z3 cG.1 cG.2.1 cG.2.2.1 t1;exact pu _ _ _ b _ _ _ (fu Ru) r1 g2 cG.1 cG.2.1 cG.2.2.1 (t1.MM g2 z8 Ru)
theorem MO(ro:kK h0)(R:Rg E A.sm Q P){i:Nat}(q:Q (TC h0 E.a.ms A M ck L v) i h)(yE:v.nx=some 200)(ea:A.ab=E.z.ab)(V:KQ)(dZ:∀h',Q (TC h0 E.a.ms A M ck L { v with note:=none }) (i+1) h'->AN (xm A E.a.ms) h h'->V (.tuple ⟨[.bool false,.agg ⟨fq⟩,X8 0]⟩) h')(hk2:∀code h',P (TC h0 E.a.ms A M ck L { v with note:=none,nx:=none }) i code h'->AN (xm A E.a.ms) h h'->V (.tuple ⟨[.bool true,.agg ⟨[X8 v.code,X8 0,.slice none 0 0]⟩,X8 0]⟩) h'):av prog 89 [pt A.rb] h V:=by
 have s:=R.z _ _ _ q;have hlo:=s.lo;have n0:=s.le.nx;refine wW s yE (λ_ κ' hk'=>?_) V λhB sB kB gB nB=>?_
 .rw[ea];exact R.ready (TC h0 E.a.ms A M ck L v) i _ κ' (R.kr _ _ i _ _ _ _ q (KR.le ((Le.refl h).new _)) s.st.gm s.sm (s.keep ((Le.refl h).new _))) hk'
 .have loB:=kB.lo;have gR:=sB.g;unfold ox at gR;have ltB:=sB.lt;have VV:=sB.lo;apply X9;rw[adu];simp(disch:=try exact Y)only[Wz,aN,gR];obtain⟨hC,eC⟩:∃hC:af,hC=⟨hB.nx+1,hB.bl.a_ hB.nx (fu fq),hB.lo⟩:=⟨_,rfl⟩
  have ZL:Le hB hC:=by rw[eC];exact(Le.refl hB).new _
  have gC:hC.bl.get hB.nx=some (fu fq):=by rw[eC];exact T.ay _ _ _
  have nC:hC.nx=hB.nx+1:=by rw[eC]
  have loC:hC.lo=hB.lo:=by rw[eC]
  unfold fu fq at eC;rw[<-eC];clear eC;have zC:Z2 h0 E.a.ms A M ck L { v with note:=none } h.nx hB.nx h.lo h hC:=⟨sB.keep ZL,(ZL.get _ nB).trans gB,gC,X1,X1,X1,X1,X1,by have:=sB.le.nx;omega,X1,X1,((AN.refl h).kr (Nat.le_refl _) kB s.st.gm).tr (AN.le ZL),Nat.le_refl _,X1,X1⟩
  have qC:=R.kr _ (Z2 h0 E.a.ms A M ck L { v with note:=none } h.nx hB.nx h.lo h) i _ _ _ _ q (kB.trans (KR.le ZL)) s.st.gm s.sm zC;rw[ea];refine R.step (Z2 h0 E.a.ms A M ck L { v with note:=none } h.nx hB.nx h.lo h) (λz k=>z.fk ro k) i hC _ qC ?_ ?_
  .intro h1 q1;have z1:=R.z _ _ _ q1;have f1:=z1.fin (λZ=>Q Z (i+1)) (λZ Z' h x vs t o ob=>R.pu Z Z' (i+1) h x vs t o ob) q1 fq fq;obtain⟨_,z2,z3,z4,z5,z6,z7,z8,z9,z10,z11,z12,V8,V9,z15⟩:=z1;unfold fu fq at z3;simp(disch:=try exact Y)only[Wz,z3];exact⟨false,0,0,_,rfl,jm.nil,z2,z7,dZ _ f1 ((z12.a_ V9 _).a_ V8 _)⟩
  .intro code h1 p1;have z1:=R.pz _ _ _ _ p1;have T1:=z1.1;have gR1:=T1.g;have lt1:=T1.lt;have T2:=T1.Dn { v with note:=none,nx:=none };have k2:=T1.krV { v with note:=none,nx:=none };have p2:=R.pkr _ _ i code _ _ _ _ p1 k2 T1.st.gm T1.sm (z1.kr k2 T2);have zz:=z1.kr k2 T2;have f1:=zz.fin (λZ h=>P Z i code h) (λZ Z' h x vs t o ob=>R.ppu Z Z' i code h x vs t o ob) p2 [X8 v.code,X8 0,.slice none 0 0] [X8 v.code,X8 0,.slice none 0 0];obtain⟨_,z2,z3,z4,z5,z6,z7,z8,z9,z10,z11,z12,V8,V9,z15⟩:=zz;have cnF:(Value.cells Value.nilFunc).toList=[Value.nilFunc]:=rfl;have qa:=Ag jm.nil v.code 0;have hk2:=hk2 code _ f1 ((z12.a_ V9 _).a_ V8 _);unfold ox at gR1;unfold ox WZ at z2 z3 hk2;simp(disch:=try exact Y)only[Wz,Ij,aN,gR1,cnF];rw[qb _ _ _ 1 _ _ [Value.nilFunc] _ _ rfl rfl (by simp) lt1.2];unfold fu fq at z3;simp(disch:=try exact Y)only[Wz,qa,z3];exact⟨true,v.code,0,_,rfl,jm.nil,z2,z7,hk2⟩
theorem V_{H X:Int->Int->Int}{N:Nat}{D:AD}(s:TC h0 E.a.ms A M ck L v h)(a:AI h E H X N D)(yE:v.nx=some 201)(Yn:v.kind=6)(ea:A.ab=E.z.ab)(V6:2<=v.op.k/\v.op.k<=6)(ok:tU v.op)(hL:L.length<=1000)(hM:M.length<=1000)(V:KQ)(hk:∀h' M' eY L' c vv u b,TC h0 E.a.ms A M' eY L' { v with note:=some b,nx:=none } h'->AI h' E H X N D->jm u->DoR v.op M M' L L' c vv->AN (xm A E.a.ms) h h'->V (.tuple ⟨[.bool true,.agg ⟨[X8 c,X8 vv,u]⟩,X8 0]⟩) h'):av prog 89 [pt A.rb] h V:=by
 have n0:=s.le.nx;refine wW s yE (λe=>absurd Yn e) V λhB sB kB gB nB=>?_;refine aud sB (a.kr kB s.st.gm s.sm) ea V6 ok hL hM _ ?_;intro h1 M' eY L' c vv u b T1 a1 k1 hu dr;have g1:=k1.cell sB.st.gm nB gB cG.2.2.2.2;exact⟨true,c,vv,u,rfl,hu,g1,by have:=k1.lo;have:=kB.lo;omega,hk _ M' eY L' c vv u b (T1.MM g1 n0 _) (a1.wU g1 cG.1 cG.2.1 cG.2.2.1 _) hu dr ((((AN.refl h).kr (Nat.le_refl _) kB s.st.gm).kr kB.nx k1 sB.st.gm).a_ (Nat.le_refl _) _)⟩
end
section
variable {h0 h h':af}{A:RA}{M:List HE}{ck:Nat}{L:List W4}{v:RV}{E:EN}{x:Int}{N:Nat}{asked has:List L4}{Mn:List (Int × Int)}
theorem TC.bk{ms:List Nat}(s:TC h0 ms A M ck L v h){M':List HE}{eY:Nat}{L':List W4}(lg:mF h0 h' A.lb L')(st:dG h' A.sb A.sm M' eY)(k:KR A.sm h h')(rk:RKp h h')(le:Le h0 h'):TC h0 ms A M' eY L' v h':=
 ⟨⟨Nat.lt_of_lt_of_le s.lt.1 k.nx,by rw[k.lo];exact s.lt.2⟩,rk _ _ _ s.lt.1 s.g,st,lg,s.sm,le,s.hr,s.hs⟩
theorem Wa:¬sO 92:=by unfold sO;decide
theorem Rl(ro:kK h0)(s:TC h0 E.a.ms A M ck L v h)(a:AI h E (aX has) (λ_ _=>x) N ⟨x,asked,has,[]⟩)(yE:v.nx=some 143)(Yn:v.kind=6)(ea:A.ab=E.z.ab)(hx:1<=x)(hN:N<=800)(oh:kY Mn has)(hM:Mn.length<=19)(la:asked.length<=1000)(uq:0<=E.z.most/\E.z.most<=8)(hL:L.length<=1000)(V:KQ)(hk:∀h' M' eY b,QGo E x Mn asked N has.length (TC h0 E.a.ms A M' eY [] { v with note:=some b,nx:=some 200,kind:=1 }) 1 h'->AN (xm A E.a.ms) h h'->cM M'=(if v.op.k=7 then cM M else oe L (cM M))->M'.length<=M.length+L.length->V (.tuple ⟨[.bool false,.agg ⟨fq⟩,X8 0]⟩) h'):av prog 89 [pt A.rb] h V:=by
 have n0:=s.le.nx;have hlo:=s.lo;have lh:=oh.len;have R:=go_q (E:=E) (sm:=A.sm) (x:=x) (asked:=asked) (N:=N) hx hM (L0:=has.length) X1 hN uq a.th;refine wW s yE (λe=>absurd Yn e) V λhB sB kB gB nB=>?_;have loB:=kB.lo;have VV:=sB.lo;have ltB:=sB.lt;have n0B:=sB.le.nx;apply X9;rw[acU];simp(disch:=try exact Y)only[Wz];obtain⟨hD,eD⟩:∃hD:af,hD=⟨hB.nx+1+1,(hB.bl.a_ hB.nx (aj [X8 0,X8 0,.slice none 0 0] 88 false)).a_ (hB.nx+1) (aj [X8 8,X8 (-1),X8 (-1),X8 0,X8 0,X8 0] 92 false),hB.lo⟩:=⟨_,rfl⟩
 have leD:Le hB hD:=by rw[eD];exact((Le.refl hB).new _).new _
 have g1D:hD.bl.get hB.nx=some (fu fq):=by rw[eD];exact(T.aD _ _ X1).trans (T.ay _ _ _)
 have g5D:hD.bl.get (hB.nx+1)=some (aj [X8 8,X8 (-1),X8 (-1),X8 0,X8 0,X8 0] 92 false):=by rw[eD];exact T.ay _ _ _
 have nD:hD.nx=hB.nx+1+1:=by rw[eD]
 have loD:hD.lo=hB.lo:=by rw[eD]
 rw[<-eD];clear eD;have TD:=sB.keep leD;have gRD:=TD.g;have gmD:=TD.st.gm;have ltD:=TD.lt;unfold ox at gRD;refine⟨λl' h'=>∃M' eY o,TC h0 E.a.ms A M' eY [] { v with note:=none } h'/\KR A.sm hB h'/\(h'.bl.get hB.nx=some (fu fq)/\hB.nx+1<h'.nx)/\h'.bl.get (hB.nx+1)=some (aj (jo o) 92 false)/\cM M'=(if v.op.k=7 then cM M else oe L (cM M))/\M'.length<=M.length+L.length,?_,?_⟩
 .by_cases h7:v.op.k=7
  .simp(disch:=try exact Y)only[Wz,Bi,aN,gRD,bz h7,HV,g5D];have TE:=TD.put g5D Wa X7 X1 (aj [X8 v.op.k,X8 v.op.t,X8 v.op.r,X8 v.op.m,X8 v.op.v,X8 v.op.w] 92 false);refine Pc TE.lg TE.le TE.lo hL _ ?_;intro h1 lg1 k1 rk1 bN;have n1:hD.nx<=h1.nx:=(k1 A.sm).nx;have g5:=(k1 A.sm).cell TE.st.gm (by show hB.nx+1<hD.nx;omega) (T.ay _ _ _) Wa;have g1:=(k1 A.sm).cell TE.st.gm (by show hB.nx<hD.nx;omega) ((T.aD _ _ X1).trans g1D) cG.2.2.2.2;exact⟨M,ck,v.op,TE.lgs lg1 k1 rk1 bN,((KR.le leD).set (b:=hB.nx+1) X1 _).trans (k1 A.sm),⟨g1,X1⟩,g5,by rw[if_pos h7],X1⟩
  .simp(disch:=try exact Y)only[Wz,Bi,aN,gRD,bf h7,HW];refine agZ TD.lg TD.st TD.le TD.hs TD.lo hL _ ?_;intro h1 M1 WY lg1 st1 lk1 ln1 k1 rk1 bN;exact⟨M1,WY,⟨8,-1,-1,0,0,0⟩,TD.bk lg1 st1 k1 rk1 bN,(KR.le leD).trans k1,⟨k1.cell gmD X1 g1D cG.2.2.2.2,by have:=k1.nx;omega⟩,k1.cell gmD X1 g5D Wa,by rw[if_neg h7];exact lk1,ln1⟩
 .rintro l' h1 ⟨M1,WY,o,T1,k1,⟨g11,ng⟩,g5,lk1,ln1⟩;have n1:=k1.nx;have l1:=k1.lo;unfold jo at g5;have a1:=a.kr (kB.trans k1) s.st.gm s.sm;simp(disch:=try exact Y)only[Wz,HX,g5];refine V2 T1 a1 ea o 1 0 jm.nil _ ?_;intro h2 bn T2 k2;have n2:=k2.nx;have l2:=k2.lo;have a2:=a1.kr k2 T1.st.gm T1.sm;have ZI:=T2.g;unfold ox at ZI;have gB1:=k1.cell sB.st.gm nB gB cG.2.2.2.2;have z2:Z2 h0 E.a.ms A M1 WY [] { v with note:=some bn } h.nx hB.nx h.lo h h2:=⟨T2,k2.cell T1.st.gm X1 gB1 cG.2.2.2.2,k2.cell T1.st.gm X1 g11 cG.2.2.2.2,X1,X1,X1,X1,X1,X1,X1,X1,((((AN.refl h).kr (Nat.le_refl _) kB s.st.gm).kr kB.nx k1 sB.st.gm).kr (by have:=kB.nx;omega) k2 T1.st.gm),Nat.le_refl _,X1,by have:=kB.nx;omega⟩
  simp(disch:=try exact Y)only[Wz,aN,ZI];rw[ea];refine VZ (M:=Mn) hM (Z:=Z2 h0 E.a.ms A M1 WY [] { v with note:=some bn } h.nx hB.nx h.lo h) (λz k=>z.fk ro k) z2 a2 hx hN oh la uq _ ?_;intro h3 q3;have z3:=R.z _ _ _ q3;refine wV z3.1 1 200 _ ?_;intro h4 T4 k4;have z4:=z3.kr k4 T4;have q4:=R.kr _ _ 1 _ _ _ _ q3 k4 z3.1.st.gm z3.1.sm z4;have f4:=z4.fin (λZ=>QGo E x Mn asked N has.length Z 1) (λZ Z' h x vs t o ob=>R.pu Z Z' 1 h x vs t o ob) q4 fq fq;obtain⟨_,y2,y3,y4,y5,y6,y7,_,_,_,_,y12,y13,y14,_⟩:=z4;unfold fu fq at y3;simp(disch:=try exact Y)only[Wz,y3];exact⟨false,0,0,_,rfl,jm.nil,y2,y7,hk _ M1 WY bn f4 ((y12.a_ y14 _).a_ y13 _) lk1 ln1⟩
end
def ZM(o:pI):Prop:=(2<=o.k/\o.k<=8)/\OpG o
def fH(o:pI):Int:=if o.k=2\/o.k=6 then 3 else 6
section
variable {h0 h h':af}{A:RA}{M:List HE}{ck:Nat}{L:List W4}{v:RV}{E:EN}{x:Int}{N:Nat}{asked has:List L4}{J:Nat->List L4->List N3->Prop}{F:Nat->List L4->Prop}
theorem ZN(ro:kK h0)(s:TC h0 E.a.ms A M ck L v h)(a:AI h E (aX has) (λ_ _=>x) N ⟨x,asked,has,[]⟩)(ea:A.ab=E.z.ab)(yE:v.nx=none)(o:pI)(hx:1<=x)(hN:N<=800)(lh:has.length<=1000)(la:asked.length<=1000)(C:Kr x J F)(kh:∀t r,kn (aX has t r)=true)(ka:∀t r,kn (aX asked t r)=true)(RC:tU o->2<=o.k/\o.k<=6->fc has (iG (aX has) o.t o.r (bZ (aX asked o.t o.r) (fH o)))=[]->F 1 has)(st1:tU o->2<=o.k/\o.k<=6->∀p P,fc has (iG (aX has) o.t o.r (bZ (aX asked o.t o.r) (fH o)))=p::P->J 1 has (p::P))(V:KQ)(JQ:¬ZM o->∀h',Le h h'->V (X8 2) h')(hkC:(o.k=7\/o.k=8)->∀h',TC h0 E.a.ms A M ck L { v with op:=o,code:=1,nx:=some 143,kind:=6 } h'->AI h' E (aX has) (λ_ _=>x) N ⟨x,asked,has,[]⟩->AN (xm A E.a.ms) h h'->V (X8 0) h')(hkL:2<=o.k/\o.k<=6->tU o->∀h',Rh E x asked o.t o.r (fH o) o.w N J F (TC h0 E.a.ms A M ck L { v with op:=o,code:=1,nx:=some 144,kind:=1 }) 1 h'->AN (xm A E.a.ms) h h'->V (X8 0) h'):av prog 88 [pt A.rb,.agg ⟨jo o⟩] h V:=by
 have hlo:=s.lo;have ZH:=s.lt;have n0:=s.le.nx;apply X9;rw[akm];simp(disch:=try exact Y)only[Wz,jo];obtain⟨hA,aY,aU,g1,dI,dJ⟩:=kG h (aj [X8 o.k,X8 o.t,X8 o.r,X8 o.m,X8 o.v,X8 o.w] 92 false);rw[<-aY]
 try rw[show(h.bl.a_ (h.nx) (aj [X8 o.k,X8 o.t,X8 o.r,X8 o.m,X8 o.v,X8 o.w] 92 false))=hA.bl by rw[aY]]
 clear aY;have sA:=s.keep aU;have aA:=a.le aU;have gR:=sA.g;have ltA:=sA.lt;unfold ox at gR;simp(disch:=try exact Y)only[Wz,ku,Ov,aN,gR];rw[ea];refine MB aA _ ?_;simp(disch:=try exact Y)only[Wz,bf (show ¬x=0 by omega),aN,gR,Kv,yE,Option.isSome_none,Ou,g1];by_cases k1:o.k<=1
 .simp(disch:=try exact Y)only[Wz,bf (show ¬1<o.k by omega)];exact JQ (λq=>by have:=q.1;omega) hA aU
 by_cases k8:8<o.k
 .simp(disch:=try exact Y)only[Wz,bz (show 1<o.k by omega),g1,bz k8];exact JQ (λq=>by have:=q.1;omega) hA aU
 simp(disch:=try exact Y)only[Wz,bz (show 1<o.k by omega),g1,bf k8];refine atJ o X1 hA X1 _ ?_;intro e h1 bN he hg;by_cases e0:¬e=0
 .simp(disch:=try exact Y)only[Wz,bf e0];exact JQ (λq=>e0 (hg q.2)) h1 (aU.trans bN)
 have e0:e=0:=Classical.byContradiction e0;have ok:=he e0;have n1:=bN.nx;have l1:=bN.lo;have Cq:=bN.nx;have Cr:=bN.lo;have g1:=(bN.get _ X1).trans g1;have T1:=sA.keep bN;have a1:=aA.le bN;have gR1:=T1.g;have lt1:=T1.lt;have TE:=T1.Dn { v with op:=o,code:=1 };have kE:=T1.krV { v with op:=o,code:=1 };have aE:=a1.kr kE T1.st.gm T1.sm;have gE1:(h1.bl.a_ A.rb (ox A { v with op:=o,code:=1 })).get h.nx=_:=(T.aD _ _ X1).trans g1;unfold ox at gR1 TE aE gE1 kE;simp(disch:=try exact Y)only[Wz,bz e0,Ot,g1,aN,gR1];obtain⟨hE,eE⟩:∃hE:af,hE=⟨h1.nx,h1.bl.a_ A.rb (aj [pt A.ab,X8 0,pt A.lb,pt A.sb,X8 o.k,X8 o.t,X8 o.r,X8 o.m,X8 o.v,X8 o.w,WZ A.rb v.nx,X8 v.kind,X8 1,dF v.note] 169 false),h1.lo⟩:=⟨_,rfl⟩
 have TE:TC h0 E.a.ms A M ck L { v with op:=o,code:=1 } hE:=by rw[eE];exact TE
 have aE:AI hE E (aX has) (λ_ _=>x) N ⟨x,asked,has,[]⟩:=by rw[eE];exact aE
 have gE1:hE.bl.get h.nx=some (aj [X8 o.k,X8 o.t,X8 o.r,X8 o.m,X8 o.v,X8 o.w] 92 false):=by rw[eE];exact gE1
 have kE:KR A.sm h1 hE:=by rw[eE];exact kE
 have gRE:=TE.g;unfold ox at gRE;have nE:hE.nx=h1.nx:=by rw[eE]
 have lE:hE.lo=h1.lo:=by rw[eE]
 have anE:AN (xm A E.a.ms) h hE:=(AN.le (aU.trans bN)).kr (aU.trans bN).nx kE T1.st.gm;rw[<-eE];clear eE;refine⟨λl' h'=>HQ hE h'/\2<=o.k/\o.k<=6,?_,?_⟩
 .simp(disch:=try exact Y)only[Wz,Oq,gE1];refine⟨λl' h'=>HQ hE h'/\∃b,ah l' 2=.bool b/\(b=true<->o.k=7\/o.k=8),?_,?_⟩
  .by_cases e7:o.k=7
   .simp(disch:=try exact Y)only[Wz,bz e7];exact⟨rfl,true,rfl,⟨λ_=>.inl e7,λ_=>rfl⟩⟩
   .simp(disch:=try exact Y)only[Wz,bf e7];exact⟨rfl,decide (o.k=8),rfl,⟨λe=>.inr (of_decide_eq_true e),λe=>decide_eq_true (e.resolve_left e7)⟩⟩
  .rintro l' h' ⟨hq,bb,e2,eb⟩;cases(show hE=h' from hq);by_cases e78:o.k=7\/o.k=8
   .rw[eb.2 e78]at e2;simp(disch:=try exact Y)only[Wz,e2];refine wV TE 6 143 _ ?_;intro h2 T2 k2;exact hkC e78 h2 T2 (aE.kr k2 TE.st.gm TE.sm) (anE.kr anE.nx k2 TE.st.gm)
   .have eb:bb=false:=by cases bb;rfl;exact absurd (eb.1 rfl) e78
    rw[eb]at e2;simp(disch:=try exact Y)only[Wz,e2];exact⟨rfl,X1,X1⟩
 .rintro l' h' ⟨hq,k2,k6⟩;cases(show hE=h' from hq);refine⟨λl' h2=>HQ hE h2/\ah l' 8=X8 (fH o),?_,?_⟩
  .by_cases e2:o.k=2
   .have em:fH o=3:=by unfold fH;rw[if_pos (.inl e2)]
    simp(disch:=try exact Y)only[Wz,Aa,gE1,bz e2];exact⟨rfl,by rw[em]⟩
   .by_cases e6:o.k=6
    .have em:fH o=3:=by unfold fH;rw[if_pos (.inr e6)]
     simp(disch:=try exact Y)only[Wz,Aa,gE1,bf e2,bz e6];exact⟨rfl,by rw[em]⟩
    .have em:fH o=6:=by unfold fH;rw[if_neg (λe=>e.elim e2 e6)]
     simp(disch:=try exact Y)only[Wz,Aa,gE1,bf e2,bf e6];exact⟨rfl,by rw[em]⟩
  .rintro l2 h2 ⟨DB,e8⟩;cases(show hE=h2 from DB);have gab:E.z.ab=A.ab:=ea.symm;simp(disch:=try exact Y)only[Wz,Oo,aN,gRE,gE1,e8];rw[ea];refine Ri (Z:=λh'=>TC h0 E.a.ms A M ck L { v with op:=o,code:=1 } h'/\AN (xm A E.a.ms) h h') (J:=J) (F:=F) (λz k=>⟨z.1.fk ro k,z.2.fk k (abn A E.a.ms)⟩) ⟨TE,anE⟩ aE hx hN lh la ok.1 ?_ ?_ ?_ kh (ka _ _) (RC ok ⟨k2,k6⟩) (st1 ok ⟨k2,k6⟩) _ ?_
   .unfold fH;split<;>decide
   .unfold fH;split<;>decide
   .rw[ok.2];unfold jq;split<;>(try split)<;>decide
   .intro h3 q3;have R:=abl (E:=E) (sm:=A.sm) (t:=o.t) (r:=o.r) hx C hN la ok.1 (m:=fH o) (by unfold fH;split<;>decide);obtain⟨T3,an3⟩:=R.z _ _ _ q3;refine wV T3 1 144 _ ?_;intro h4 T4 k4;exact hkL ⟨k2,k6⟩ ok h4 (R.kr _ _ 1 _ _ _ _ q3 k4 T3.st.gm T3.sm T4) (an3.kr an3.nx k4 T3.st.gm)
end
structure RS(X:List Nat)(h0:af)(A:RA)(S:Nat->af->Prop)(Post:Nat->Int->Int->af->Prop):Prop where
 step:∀j h (V:KQ),S j h->(∀h',S (j+1) h'->AN X h h'->V (.tuple ⟨[.bool false,.agg ⟨fq⟩,X8 0]⟩) h')->(∀c vv u h',jm u->Post j c vv h'->AN X h h'->V (.tuple ⟨[.bool true,.agg ⟨[X8 c,X8 vv,u]⟩,X8 0]⟩) h')->av prog 89 [pt A.rb] h V
 le:∀j h,S j h->j<=79
 lo:∀j h,S j h->h.lo<=h.nx
 sle:∀j h h',S j h->Le h h'->S j h'
 ple:∀j c vv h h',Post j c vv h->Le h h'->Post j c vv h'
 ppu:∀j c vv h b vs ws,Post j c vv h->h.bl.get b=some (fu vs)->h0.nx<=b->Post j c vv ⟨h.nx,h.bl.a_ b (fu ws),h.lo⟩
section
variable {X:List Nat}{h0 h:af}{A:RA}{S:Nat->af->Prop}{Post:Nat->Int->Int->af->Prop}
theorem MP(R:RS X h0 A S Post){b3:Nat}{ha:af}(an0:AN X ha h)(ha3:ha.nx<=b3)(hb3:b3<h.nx/\h0.nx<=b3/\h.lo<=b3)(g3:h.bl.get b3=some (fu fq))(s:S 1 h)(V:KQ)(hκ:∀j c vv u h',1<=j->jm u->Post j c vv h'->AN X ha h'->V (.tuple ⟨[.agg ⟨[X8 c,X8 vv,u]⟩,X8 (j:Int),.bool true]⟩) h'):zX (pt A.rb) b3 h V:=by
 unfold zX;refine⟨λm l h1=>∃j:Nat,ah l 21=X8 (j:Int)/\m=80-j/\1<=j/\S j h1/\h1.bl.get b3=some (fu fq)/\b3<h1.nx/\h1.lo<=b3/\AN X ha h1,⟨_,1,rfl,rfl,Nat.le_refl _,s,g3,hb3.1,hb3.2.2,an0⟩,?_⟩;rintro m l h1 ⟨j,e21,rfl,j1,s1,g31,n31,l31,an1⟩;have j79:=R.le j h1 s1;simp(disch:=try exact Y)only[Wz,e21,f_ (show(j:Int)<80 by omega),NS];refine R.step j h1 _ s1 ?_ ?_
 .intro h2 s2 an;have n2:=an.nx;have l2:=an.lo;have Vz:=R.lo _ _ s2;have WL:=an.an b3 _ n31 g31;unfold fq at WL ⊢;simp(disch:=try exact Y)only[Wz,e21];have ZG:=(Le.refl h2).new (aj [X8 0,X8 0,.slice none 0 0] 88 false);exact⟨_,X1,j+1,by rfl,rfl,X1,R.sle _ _ _ s2 ZG,WL,by show b3<h2.nx+1;omega,by show h2.lo<=b3;omega,(an1.tr an).tr (AN.le ZG)⟩
 .intro c vv u h2 hu p2 an;have n2:=an.nx;have l2:=an.lo;have WL:=an.an b3 _ n31 g31;have hu0:=hu;obtain⟨ux,un,uc,rfl⟩:∃x n c,u=.slice x n c:=by obtain⟨n,c,rfl|⟨x,o,rfl⟩⟩:=hu<;>exact⟨_,_,_,rfl⟩
  have ZG:=(Le.refl h2).new (aj [X8 c,X8 vv,.slice ux un uc] 88 false);have g33:(h2.bl.a_ h2.nx (aj [X8 c,X8 vv,.slice ux un uc] 88 false)).get b3=some (fu fq):=(ZG.get b3 X1).trans WL;have p3:=R.ppu j c vv _ b3 _ [X8 c,X8 vv,.slice ux un uc] (R.ple _ _ _ _ _ p2 ZG) g33 hb3.2.1;have Vz:h2.lo<=h2.nx:=by omega
  unfold fu fq at WL;unfold fu at p3;simp(disch:=try exact Y)only[Wz,e21,WL];exact hκ j c vv _ _ j1 hu0 p3 (((an1.tr an).tr (AN.le ZG)).a_ ha3 _)
end
structure CX where
 h0:af
 E:EN
 A:RA
 x:Int
 M:List HE
 ck:Nat
 L:List W4
 o:pI
 N:Nat
 asked:List L4
 J:Nat->List L4->List N3->Prop
 F:Nat->List L4->Prop
 Hs:List L4->Prop
 Mn:List (Int × Int)
structure FZ(c:CX):Prop where
 ro:kK c.h0
 ea:c.A.ab=c.E.z.ab
 hx:1<=c.x
 most:0<=c.E.z.most/\c.E.z.most<=8
 hN:c.N<=700
 la:c.asked.length<=900
 C:Kr c.x c.J c.F
 hJ:∀i has p P,c.J i has (p::P)->i<=7/\c.Hs has
 hF:∀i has,c.F i has->c.Hs has
 hH:∀has,c.Hs has->kY c.Mn has
 hMn:c.Mn.length<=19
 hL:c.L.length<=900
 hM:c.M.length<=900
def Wb(c:CX)(cd:Int):Prop:=((2<=c.o.k/\c.o.k<=6)/\cd=5/\5<=c.N)\/((c.o.k=7\/c.o.k=8)/\cd=1)
def CX.tc(c:CX)(M:List HE)(ck:Nat)(L:List W4)(v:RV):af->Prop:=TC c.h0 c.E.a.ms c.A M ck L v
def CX.as'(c:CX):List L4:=dx c.asked ⟨c.x,c.o.t,c.o.r,bZ (aX c.asked c.o.t c.o.r) (fH c.o)⟩
def CX.ai(c:CX)(h:af)(has asked:List L4)(N:Nat):Prop:=AI h c.E (aX has) (λ_ _=>c.x) N ⟨c.x,asked,has,[]⟩
def CX.lk(c:CX)(M':List HE):Prop:=cM M'=if c.o.k=7 then cM c.M else oe c.L (cM c.M)
def CX.SL(c:CX)(j:Nat)(h:af):Prop:=tU c.o/\(2<=c.o.k/\c.o.k<=6)/\j<=9/\∃nt,Rh c.E c.x c.asked c.o.t c.o.r (fH c.o) c.o.w c.N c.J c.F (c.tc c.M c.ck c.L ⟨c.o,some 144,1,1,nt⟩) j h
def CX.SD(c:CX)(j:Nat)(h:af):Prop:=tU c.o/\(2<=c.o.k/\c.o.k<=6)/\j<=10/\∃has N nt,c.ai h has c.as' N/\c.tc c.M c.ck c.L ⟨c.o,some 201,6,1,nt⟩ h/\c.Hs has/\N<=c.N+3/\∃i,c.F i has/\j=i+1
def CX.SE(c:CX)(j:Nat)(h:af):Prop:=j<=10/\∃has asked N nt cd,c.ai h has asked N/\c.tc c.M c.ck c.L ⟨c.o,some 143,6,cd,nt⟩ h/\c.Hs has/\asked.length<=1000/\N<=c.N+3/\Wb c cd
def CX.SG(c:CX)(j:Nat)(h:af):Prop:=∃g L0 asked N M' eY nt cd,QGo c.E c.x c.Mn asked N L0 (c.tc M' eY [] ⟨c.o,some 200,1,cd,nt⟩) g h/\j<=10+g/\L0<=19/\N<=c.N+3/\c.lk M'/\M'.length<=1800/\Wb c cd/\c.E.z.th=0
def CX.S(c:CX)(j:Nat)(h:af):Prop:=c.SL j h\/c.SD j h\/c.SE j h\/c.SG j h
def CX.aun(c:CX)(j:Nat)(co vv:Int)(h:af):Prop:=(2<=c.o.k/\c.o.k<=6)/\∃M' eY L' has N nt,c.tc M' eY L' ⟨c.o,none,6,1,nt⟩ h/\c.ai h has c.as' N/\c.Hs has/\N<=c.N+3/\DoR c.o c.M M' c.L L' co vv/\tU c.o/\∃i,c.F i has/\j=i+1
def CX.Over(c:CX)(co:Int)(h:af):Prop:=∃M' eY nt bu X N,c.tc M' eY [] ⟨c.o,none,1,co,nt⟩ h/\AI h c.E (aX bu) X N ⟨0,[],[],bu⟩/\c.lk M'/\M'.length<=1800/\Wb c co
def CX.P(c:CX)(j:Nat)(co vv:Int)(h:af):Prop:=c.aun j co vv h\/c.Over co h
section
variable {c:CX}
theorem CX.aq(c:CX)(k:FZ c)(hw:0<=c.o.w):Rg c.E c.A.sm (Rh c.E c.x c.asked c.o.t c.o.r (fH c.o) c.o.w c.N c.J c.F) λZ i code h=>agz c.E Z c.x c.asked c.o.t c.o.r (fH c.o) c.N c.J c.F i code h:=
 abl k.hx k.C (by have:=k.hN;omega) (by have:=k.la;omega) hw (by unfold fH;split<;>decide)
theorem CX.gq(c:CX)(k:FZ c){asked:List L4}{N L0:Nat}(h1:N<=c.N+3)(h2:L0<=19)(h3:c.E.z.th=0):Rg c.E c.A.sm (QGo c.E c.x c.Mn asked N L0) λZ i code h=>am_ c.E Z h:=
 go_q k.hx k.hMn h2 (by have:=k.hN;omega) k.most h3
theorem ank(k:FZ c){Z:af->Prop}{i:Nat}{h:af}(q:Rh c.E c.x c.asked c.o.t c.o.r (fH c.o) c.o.w c.N c.J c.F Z i h):i<=9:=by
 rcases q.2 with⟨n,⟨i0,has,p,P,_,_,_,_,_,e1,hJ,_⟩,n3⟩|⟨e,_⟩
 .have:=(k.hJ i0 has p P hJ).1;omega
 .omega
theorem go_j{Z:af->Prop}{asked:List L4}{N L0 g:Nat}{h:af}(q:QGo c.E c.x c.Mn asked N L0 Z g h):g<=3*L0+1:=by
 rcases q.2 with⟨n,⟨i0,g',G,_,_,_,_,_,_,_,_,_,_,e1,e2,_⟩,n3⟩|⟨e,_⟩<;>omega
theorem CX.rs(k:FZ c):RS (xm c.A c.E.a.ms) c.h0 c.A c.S c.P:=by
 have hN:=k.hN;have la:=k.la;have hL:=k.hL;have hM:=k.hM;refine⟨λj h V s dZ hk2=>?_,λj h s=>?_,λj h s=>?_,λj h h' s l=>?_,λj co vv h h' p l=>?_,λj co vv h b vs ws p g hb=>?_⟩
 .rcases s with⟨ok,zy,j9,nt,q⟩|⟨ok,zy,ZO,has,N,nt,a,t,hs,n4,fj⟩|⟨ZO,has,asked,N,nt,cd,a,t,hs,l1,n4,eo⟩|⟨g,L0,asked,N,M',eY,nt,cd,q,jg,ZP,n4,lk,ml,eo,th⟩
  .refine MN k.ro (c.aq k ok.1) q rfl k.ea V (λh' q' an=>dZ h' (.inl ⟨ok,zy,ank k q',_,q'⟩) an) λcode h' p an=>dZ h' ?_ an;obtain⟨has,asked',N',a,z,hN',⟨e1,e2,hF⟩|⟨e1,e2,h8,i0,p,P,_,hJ⟩⟩:=p
   .subst e1;exact .inr (.inl ⟨ok,zy,X1,has,N',_,by rw[e2]at a;exact a,z,k.hF _ _ hF,X1,j,hF,rfl⟩)
   .subst e1 e2;exact .inr (.inr (.inl ⟨X1,has,c.asked,N',_,5,a,z,(k.hJ _ _ _ _ hJ).2,X1,X1,.inl ⟨zy,rfl,X1⟩⟩))
  .refine V_ t a rfl rfl k.ea zy ok X1 X1 V λh' M' eY L' co vv u b t' a' hu dr an=>hk2 co vv u h' hu ?_ an;exact .inl ⟨zy,M',eY,L',has,N,_,t',a',hs,n4,dr,ok,fj⟩
  .have th:=AI.th (show AI h c.E (aX has) (λ_ _=>c.x) N ⟨c.x,asked,has,[]⟩from a);have oh:=k.hH has hs;have ol:=oh.len;have hMn:=k.hMn;refine Rl k.ro t a rfl rfl k.ea k.hx X1 oh k.hMn l1 k.most X1 V λh' M' eY b q an lk ml=>dZ h' (.inr (.inr (.inr ?_))) an;exact⟨1,has.length,asked,N,M',eY,_,cd,q,X1,X1,n4,lk,X1,eo,th⟩
  .refine MO k.ro (c.gq k n4 ZP th) q rfl k.ea V (λh' q' an=>dZ h' (.inr (.inr (.inr ⟨g+1,L0,asked,N,M',eY,_,cd,q',X1,ZP,n4,lk,ml,eo,th⟩))) an) λcode h' p an=>hk2 cd 0 _ h' jm.nil ?_ an;obtain⟨bu,X,N',a,t⟩:=p;exact .inr ⟨M',eY,_,bu,X,N',t,a,lk,ml,eo⟩
 .rcases s with⟨_,_,j9,_⟩|⟨_,_,ZO,_⟩|⟨ZO,_⟩|⟨g,L0,asked,N,M',eY,nt,cd,q,jg,ZP,_⟩
  .omega
  .omega
  .omega
  .have:=go_j q;omega
 .rcases s with⟨ok,_,j9,nt,q⟩|⟨_,_,ZO,has,N,nt,a,t,_⟩|⟨ZO,has,asked,N,nt,cd,a,t,_⟩|⟨g,L0,asked,N,M',eY,nt,cd,q,jg,ZP,n4,lk,ml,eo,th⟩
  .exact(c.aq k ok.1).lo _ _ _ q
  .exact TC.lo t
  .exact TC.lo t
  .exact(c.gq k n4 ZP th).lo _ _ _ q
 .rcases s with⟨ok,zy,j9,nt,q⟩|⟨ok,zy,ZO,has,N,nt,a,t,hs,n4,fj⟩|⟨ZO,has,asked,N,nt,cd,a,t,hs,l1,n4,eo⟩|⟨g,L0,asked,N,M',eY,nt,cd,q,jg,ZP,n4,lk,ml,eo,th⟩
  .have t:=(c.aq k ok.1).z _ _ _ q;exact .inl ⟨ok,zy,j9,nt,(c.aq k ok.1).kr _ _ _ _ _ _ _ q (KR.le l) t.st.gm t.sm (t.keep l)⟩
  .exact .inr (.inl ⟨ok,zy,ZO,has,N,nt,AI.le a l,t.keep l,hs,n4,fj⟩)
  .exact .inr (.inr (.inl ⟨ZO,has,asked,N,nt,cd,AI.le a l,t.keep l,hs,l1,n4,eo⟩))
  .have t:=(c.gq k n4 ZP th).z _ _ _ q;exact .inr (.inr (.inr ⟨g,L0,asked,N,M',eY,nt,cd,(c.gq k n4 ZP th).kr _ _ _ _ _ _ _ q (KR.le l) t.st.gm t.sm (t.keep l),jg,ZP,n4,lk,ml,eo,th⟩))
 .rcases p with⟨zy,M',eY,L',has,N,nt,t,a,r⟩|⟨M',eY,nt,bu,X,N,t,a,r⟩
  .exact .inl ⟨zy,M',eY,L',has,N,nt,t.keep l,AI.le a l,r⟩
  .exact .inr ⟨M',eY,nt,bu,X,N,t.keep l,AI.le a l,r⟩
 .rcases p with⟨zy,M',eY,L',has,N,nt,t,a,r⟩|⟨M',eY,nt,bu,X,N,t,a,r⟩
  .exact .inl ⟨zy,M',eY,L',has,N,nt,t.MM g hb ws,AI.wU a g cG.1 cG.2.1 cG.2.2.1 _,r⟩
  .exact .inr ⟨M',eY,nt,bu,X,N,t.MM g hb ws,AI.wU a g cG.1 cG.2.1 cG.2.2.1 _,r⟩
end
section
variable {c:CX}{h:af}{v:RV}{has:List L4}
theorem wY(k:FZ c)(s:c.tc c.M c.ck c.L v h)(a:c.ai h has c.asked c.N)(yE:v.nx=none)(hs:c.Hs has)(kh:∀t r,kn (aX has t r)=true)(ka:∀t r,kn (aX c.asked t r)=true)(lh:has.length<=1000)(RC:tU c.o->2<=c.o.k/\c.o.k<=6->fc has (iG (aX has) c.o.t c.o.r (bZ (aX c.asked c.o.t c.o.r) (fH c.o)))=[]->c.F 1 has)(st1:tU c.o->2<=c.o.k/\c.o.k<=6->∀p P,fc has (iG (aX has) c.o.t c.o.r (bZ (aX c.asked c.o.t c.o.r) (fH c.o)))=p::P->c.J 1 has (p::P))(V:KQ)(JQ:¬ZM c.o->∀h',c.tc c.M c.ck c.L v h'->c.ai h' has c.asked c.N->AN (xm c.A c.E.a.ms) h h'->V (.tuple ⟨[.agg ⟨fq⟩,X8 0,.bool false]⟩) h')(hkP:∀j co vv u h',1<=j->jm u->c.P j co vv h'->AN (xm c.A c.E.a.ms) h h'->V (.tuple ⟨[.agg ⟨[X8 co,X8 vv,u]⟩,X8 (j:Int),.bool true]⟩) h'):av prog 39 [pt c.A.rb,.agg ⟨jo c.o⟩] h V:=by
 have hlo:=TC.lo s;have n0:=(show TC _ _ _ _ _ _ _ _ from s).le.nx;have hN:=k.hN;have la:=k.la;apply X9;rw[ajU];simp(disch:=try exact Y)only[Wz,jo];obtain⟨hA,aY,aU,g1,g3,dI,dJ⟩:=AY h (aj [X8 c.o.k,X8 c.o.t,X8 c.o.r,X8 c.o.m,X8 c.o.v,X8 c.o.w] 92 false) (aj [X8 0,X8 0,.slice none 0 0] 88 false);rw[<-aY]
 try rw[show((h.bl.a_ (h.nx) (aj [X8 c.o.k,X8 c.o.t,X8 c.o.r,X8 c.o.m,X8 c.o.v,X8 c.o.w] 92 false)).a_ (h.nx+1) (aj [X8 0,X8 0,.slice none 0 0] 88 false))=hA.bl by rw[aY]]
 clear aY;have sA:=TC.keep s aU;have aA:=AI.le a aU;have Lc:∀h1,AN (xm c.A c.E.a.ms) hA h1->c.S 1 h1->zX (pt c.A.rb) (h.nx+1) h1 V:=λh1 an s1=>by
  have n1:=an.nx;have l1:=an.lo;exact MP (CX.rs k) ((AN.le aU).tr an) (Nat.le_succ _) ⟨X1,X1,X1⟩ (an.an _ _ X1 g3) s1 V hkP
 refine ZN k.ro sA aA k.ea yE c.o k.hx X1 lh X1 k.C kh ka RC st1 _ ?_ ?_ ?_
 .intro nA h1 bN;have n1:=bN.nx;have l1:=bN.lo;have Cq:=bN.nx;have Cr:=bN.lo;have g3:=(bN.get _ X1).trans g3;simp(disch:=try exact Y)only[Wz,g3];exact JQ nA _ (TC.MM (sA.keep bN) g3 X1 fq) ((aA.le bN).wU g3 cG.1 cG.2.1 cG.2.2.1 _) ((AN.le (aU.trans bN)).a_ (Nat.le_succ _) _)
 .intro e78 h1 t1 a1 an;simp(disch:=try exact Y)only[Wz];exact Lc h1 an (.inr (.inr (.inl ⟨X7,has,c.asked,c.N,v.note,1,a1,t1,hs,X1,X1,.inr ⟨e78,rfl⟩⟩)))
 .intro zy ok h1 q1 an;simp(disch:=try exact Y)only[Wz];exact Lc h1 an (.inl ⟨ok,zy,X7,v.note,q1⟩)
end
def ZQ:RV:=⟨⟨0,0,0,0,0,0⟩,none,0,0,none⟩
theorem Ek{h0:af}(ro:kK h0)(h:af)(qJ:Le h0 h)(hlo:h.lo<=h.nx)(V:KQ)(hk:∀h' E A,TC h0 E.a.ms A [] 0 [] ZQ h'->AI h' E (λ_ _=>0) (λ_ _=>1) 0 ⟨1,[],[],[]⟩->A.ab=E.z.ab->E.z.most=2->(∀y∈E.a.ms,y<h'.nx)->V (.tuple ⟨[pt A.rb,pt A.sb]⟩) h'):av prog 37 [] h V:=by
 have n0:=qJ.nx;apply X9;rw[ajS];refine QD h _ hlo ?_;intro h1 bN;have n1:=bN.nx;have l1:=bN.lo;refine afM Ms Y4 2 ⟨X7,X7⟩ h1 X1 _ ?_;intro h2 A a d R nw s2 bD fb;have n2:=bD.nx;have l2:=bD.lo;have Vz:=s2.lo;have W:∀y out,WI h2 A a (λ_ _=>0) (λ_ _=>1) 0 0 y out:=λy out=>
  ⟨⟨d,R,0,s2,nw.lone _,nw.bit X7,by rw[nw.begun];decide,by rw[nw.begun];decide,X7,⟨λb hb=>by rw[nw.em b hb];exact Nat.le_refl _,by have:=nw.f;have e:Ms.R=24:=rfl;omega⟩,.inl ⟨rfl,by rw[nw.cs];rfl,λk hk=>by rw[nw.eO,List.getElem?_replicate,if_pos (show k<(Ms.S).toNat from hk)]⟩⟩,by rw[nw.ec];rfl,by have:=nw.hd;have e:Ms.H=8:=rfl;omega⟩
 have Gx:∀y,y∈a.ms->y<h2.nx:=by
  intro y hy;rw[nw.ms]at hy;rcases List.mem_cons.1 hy with rfl|hy
  .exact s2.r.jV.1
  .rcases List.mem_cons.1 hy with rfl|hy
   .exact s2.t.is.De
   .obtain⟨b,hb,rfl⟩:=List.mem_map.1 hy;exact(s2.t.is.bk b hb).jV
 simp(disch:=try exact Y)only[Wz,NR];apply X9;rw[aki];simp(disch:=try exact Y)only[Wz,cT];rw[m_ _ _ _ _ _ _ _ (by rw[qY];rfl) (Nat.le_of_ble_eq_true rfl),qd];simp(disch:=try exact Y)only[Wz,qY];obtain⟨h3,e3⟩:∃h3:af,h3=⟨h2.nx+1+1,(h2.bl.a_ h2.nx (.map [] 0)).a_ (h2.nx+1) (aj [.map (some h2.nx)] 175 false),h2.lo⟩:=⟨_,rfl⟩
 have dM:Le h2 h3:=by rw[e3];exact((Le.refl h2).new _).new _
 have gm:h3.bl.get h2.nx=some (.map ([].map jf) 0):=by rw[e3];exact(T.aD _ _ X1).trans (T.ay _ _ _)
 have gb:h3.bl.get (h2.nx+1)=some (aj [.map (some h2.nx)] 175 false):=by rw[e3];exact T.ay _ _ _
 have n3:h3.nx=h2.nx+1+1:=by rw[e3]
 have l3:h3.lo=h2.lo:=by rw[e3]
 rw[<-e3];clear e3;apply X9;rw[akk];have e0:(0:Int)=((0:Nat):Int):=rfl;simp(disch:=try exact Y)only[Wz,n_,On];refine agw (λy o=>(W y o).le dM) (by rw[nw.en];decide) (by rw[nw.ec];decide) _ ?_;intro h4 z s4 em jP;have n4:=jP.nx;have l4:=jP.lo;simp(disch:=try exact Y)only[Wz];apply X9;rw[acR];have lo4:h4.lo<=h4.nx:=by omega
 simp(disch:=try exact Y)only[Wz,Cw,ku];obtain⟨h5,e5⟩:∃h5:af,h5=⟨h4.nx+1+1,(h4.bl.a_ h4.nx (aj [.slice none 0 0] 233 false)).a_ (h4.nx+1) (ox ⟨h4.nx+1,z.ab,h4.nx,h2.nx+1,h2.nx⟩ ZQ),h4.lo⟩:=⟨_,rfl⟩
 have uk:Le h4 h5:=by rw[e5];exact((Le.refl h4).new _).new _
 have gl:h5.bl.get h4.nx=some (aj [.slice none 0 0] 233 false):=by rw[e5];exact(T.aD _ _ X1).trans (T.ay _ _ _)
 have gr:h5.bl.get (h4.nx+1)=some (ox ⟨h4.nx+1,z.ab,h4.nx,h2.nx+1,h2.nx⟩ ZQ):=by rw[e5];exact T.ay _ _ _
 have n5:h5.nx=h4.nx+1+1:=by rw[e5]
 have l5:h5.lo=h4.lo:=by rw[e5]
 unfold ox WZ ZQ dF at e5;rw[<-e5];clear e5;have aha:=jP.trans uk;have t5:TC h0 a.ms ⟨h4.nx+1,z.ab,h4.nx,h2.nx+1,h2.nx⟩ [] 0 [] ZQ h5:=
  ⟨⟨by show h4.nx+1<h5.nx;omega,by show h5.lo<=h4.nx+1;omega⟩,gr,⟨⟨by show h2.nx+1<h5.nx;omega,by show h5.lo<=h2.nx+1;omega⟩,(aha.get _ (by show h2.nx+1<h3.nx;omega)).trans gb,⟨by show h2.nx<h5.nx;omega,by show h5.lo<=h2.nx;omega⟩,(aha.get _ (by show h2.nx<h3.nx;omega)).trans gm,⟨List.Pairwise.nil,List.Pairwise.nil,λe he=>by cases he⟩⟩,
   ⟨⟨by show h4.nx<h5.nx;omega,by show h5.lo<=h4.nx;omega⟩,by show h0.nx<=h4.nx;omega,⟨_,gl,.inl ⟨rfl,.inl rfl⟩⟩,λp hp=>by cases hp⟩,λhm=>Nat.lt_irrefl _ (Gx _ hm),qJ.trans (bN.trans (bD.trans (dM.trans aha))),by show h0.nx<=h4.nx+1;omega,by show h0.nx<=h2.nx;omega⟩
 apply X9;rw[akl];have gR:=t5.g;unfold ox at gR;simp(disch:=try exact Y)only[Wz,ku,aN,gR];refine Q6 (s4.le uk) rfl 1 X7 _ ?_;intro h6 s6 f6;simp(disch:=try exact Y)only[Wz];exact hk h6 ⟨A,a,z⟩ ⟨h4.nx+1,z.ab,h4.nx,h2.nx+1,h2.nx⟩ (t5.fk ro f6) s6 rfl (by rw[em,nw.ec];rfl) (λy hy=>by have:=Gx y hy;have:=dM.nx;have:=uk.nx;have:=f6.nx;omega)
theorem ZR{M:List HE}{ck:Nat}(o:cO M ck){LL:List N2}(nd:LL.Nodup)(h:∀t r,(cM M t r).isSome=true<->(t,r)∈LL):M.length=LL.length:=by
 have nd1:(M.map c_).Nodup:=by
  rw[List.Nodup,List.pairwise_map];exact o.nm.imp λhn e=>hn ⟨congrArg Prod.fst e,congrArg Prod.snd e⟩
 have:=((List.perm_ext_iff_of_nodup nd1 nd).2 λp=>by
  rw[<-h p.1 p.2,List.mem_map];constructor
  .rintro⟨e,he,rfl⟩
   show(cM M e.t e.r).isSome=true
   rw[(jw o e.t e.r e.w).2 ⟨e,he,rfl,rfl,rfl⟩];rfl
  .intro hs;obtain⟨w,hw⟩:=Option.isSome_iff_exists.1 hs;obtain⟨e,he,e1,e2,_⟩:=(jw o p.1 p.2 w).1 hw;exact⟨e,he,Prod.ext e1 e2⟩).length_eq
 rwa [List.length_map]at this
def P3:List N3:=iG (aX []) 0 1 (bZ (aX [] 0 1) 6)
def Ah(i:Nat):N3:=P3.getD i (0,0,0)
def G1:List L4:=dx [] (kZ 1 [] (Ah 0))
def G2:List L4:=dx G1 (kZ 1 G1 (Ah 1))
def G3:List L4:=dx G2 (kZ 1 G2 (Ah 2))
def M3:List (Int × Int):=[(-1,-1),(0,-1),(0,1)]
theorem zA:kY M3 G1/\kY M3 G2/\kY M3 G3:=by
 refine⟨⟨by decide +kernel,by decide +kernel,by decide +kernel⟩,⟨by decide +kernel,by decide +kernel,by decide +kernel⟩,⟨by decide +kernel,by decide +kernel,by decide +kernel⟩⟩
def J3(i:Nat)(has:List L4)(P:List N3):Prop:=(i=1/\has=[]/\P=[Ah 0,Ah 1,Ah 2])\/(i=4/\has=G1/\P=[Ah 1,Ah 2])\/(i=7/\has=G2/\P=[Ah 2])
def F3(i:Nat)(has:List L4):Prop:=i=9/\has=G3
theorem abq:fc (dx [] (kZ 1 [] (Ah 0))) [Ah 0,Ah 1,Ah 2]=[Ah 1,Ah 2]:=by decide +kernel
theorem abr:fc (dx G1 (kZ 1 G1 (Ah 1))) [Ah 1,Ah 2]=[Ah 2]:=by decide +kernel
theorem anl:fc (dx G2 (kZ 1 G2 (Ah 2))) [Ah 2]=[]:=by decide +kernel
theorem abt:fc [] P3=[Ah 0,Ah 1,Ah 2]:=by decide +kernel
theorem auo:Kr 1 J3 F3:=by
 refine⟨λi has p P s=>?_,λi has p P s hL=>?_,λi has p P q Q s hL=>?_,λi has p P s t r=>?_⟩
 .rcases s with⟨rfl,rfl,e⟩|⟨rfl,rfl,e⟩|⟨rfl,rfl,e⟩<;>(rw[e];refine⟨X7,by decide +kernel,by decide +kernel,by unfold tI;decide +kernel,?_⟩)
  .exact(kY.nil M3).CG
  .exact zA.1.CG
  .exact zA.2.1.CG
 .rcases s with⟨rfl,rfl,e⟩|⟨rfl,rfl,e⟩|⟨rfl,rfl,e⟩
  .rw[e]at hL;cases e;rw[abq]at hL;cases hL
  .rw[e]at hL;cases e;rw[abr]at hL;cases hL
  .cases e;exact⟨rfl,rfl⟩
 .rcases s with⟨rfl,rfl,e⟩|⟨rfl,rfl,e⟩|⟨rfl,rfl,e⟩
  .rw[e]at hL;cases e;rw[abq]at hL;exact .inr (.inl ⟨rfl,rfl,hL.symm⟩)
  .rw[e]at hL;cases e;rw[abr]at hL;exact .inr (.inr ⟨rfl,rfl,hL.symm⟩)
  .rw[e]at hL;cases e;rw[anl]at hL;cases hL
 .rcases s with⟨rfl,rfl,e⟩|⟨rfl,rfl,e⟩|⟨rfl,rfl,e⟩<;>cases e
  .exact zA.1.CG t r
  .exact zA.2.1.CG t r
  .exact zA.2.2.CG t r
def J0(i:Nat)(has:List L4)(P:List N3):Prop:=False
theorem anm(x:Int)(F:Nat->List L4->Prop):Kr x J0 F:=⟨λ_ _ _ _ s=>s.elim,λ_ _ _ _ s=>s.elim,λ_ _ _ _ _ _ s=>s.elim,λ_ _ _ _ s=>s.elim⟩
def as3:List L4:=dx [] ⟨1,0,1,bZ (aX [] 0 1) 6⟩
theorem ahb:kY M3 as3:=⟨by decide +kernel,by decide +kernel,by decide +kernel⟩
theorem ann:iG (aX G3) 0 1 (bZ (aX as3 0 1) 3)=[]:=by decide +kernel
theorem Wc(k t r v:Int)(h:af)(V:KQ)(hlo:h.lo<=h.nx)(hk:∀h',Le h h'->V (.agg ⟨jo ⟨k,t,r,0,v,0⟩⟩) h'):av prog 83 [X8 k,X8 t,X8 r,X8 v] h V:=by
 apply X9;rw[akg];simp(disch:=try exact Y)only[Wz];obtain⟨hA,aY,aU,g1,dI,dJ⟩:=kG h (aj [X8 0,X8 0,X8 0,X8 0,X8 0,X8 0] 92 false);rw[<-aY]
 try rw[show(h.bl.a_ (h.nx) (aj [X8 0,X8 0,X8 0,X8 0,X8 0,X8 0] 92 false))=hA.bl by rw[aY]]
 clear aY;refine agA t r hA _ X1 ?_;intro h1 bN;have n1:=bN.nx;have l1:=bN.lo;have Cq:=bN.nx;have Cr:=bN.lo;have g1:=(bN.get _ X1).trans g1;simp(disch:=try exact Y)only[Wz,dg,g1];exact hk _ ((aU.trans bN).set (Nat.le_refl _) _)
theorem We(k:Int)(h:af)(V:KQ)(hlo:h.lo<=h.nx)(hk:∀h',Le h h'->V (.agg ⟨jo ⟨k,-1,-1,0,0,0⟩⟩) h'):av prog 46 [X8 k] h V:=by
 apply X9;rw[aj0];simp(disch:=try exact Y)only[Wz];obtain⟨hA,aY,aU,g1,dI,dJ⟩:=kG h (aj [X8 0,X8 0,X8 0,X8 0,X8 0,X8 0] 92 false);rw[<-aY]
 try rw[show(h.bl.a_ (h.nx) (aj [X8 0,X8 0,X8 0,X8 0,X8 0,X8 0] 92 false))=hA.bl by rw[aY]]
 clear aY;refine amw hA _ X1 ?_;intro h1 bN;have n1:=bN.nx;have l1:=bN.lo;have Cq:=bN.nx;have Cr:=bN.lo;have g1:=(bN.get _ X1).trans g1;simp(disch:=try exact Y)only[Wz,dg,g1];exact hk _ ((aU.trans bN).set (Nat.le_refl _) _)
theorem F0(o:pI)(f:Int->Int->Option Int)(L:List W4):(W0 o f L).length<=L.length+1:=by
 unfold W0;split
 .simp
 .omega
def o1:pI:=⟨4,0,1,0,5,0⟩
def o2:pI:=⟨2,0,1,0,0,0⟩
def o3:pI:=⟨7,-1,-1,0,0,0⟩
def as4:List L4:=dx as3 ⟨1,0,1,bZ (aX as3 0 1) 3⟩
theorem ahc:kY M3 as4:=⟨by decide +kernel,by decide +kernel,by decide +kernel⟩
theorem MQ:ZM o1/\ZM o2/\ZM o3:=by unfold ZM OpG;decide +kernel
theorem Rm{h0:af}(ro:kK h0)(h:af)(qJ:Le h0 h)(hlo:h.lo<=h.nx)(V:KQ)(hk:∀h',Le h0 h'->V (.bool true) h'):av prog 36 [] h V:=by
 apply X9;rw[ajR];refine Ek ro h qJ hlo _ ?_;intro h1 E A t1 a1 ea em _;have Rz:=t1.lo;simp(disch:=try exact Y)only[Wz,ku,NQ];refine Wc 4 0 1 5 h1 _ Rz ?_;intro h2 bD;have t2:=t1.keep bD;have a2:=a1.le bD;have k1:FZ ⟨h0,E,A,1,[],0,[],o1,0,[],J3,F3,kY M3,M3⟩:=
  ⟨ro,ea,Int.le_refl 1,by show 0<=E.z.most/\E.z.most<=8;omega,Nat.zero_le _,Nat.zero_le _,auo,λi has p P s=>by
   rcases s with⟨rfl,rfl,_⟩|⟨rfl,rfl,_⟩|⟨rfl,rfl,_⟩
   .exact⟨X7,kY.nil M3⟩
   .exact⟨X7,zA.1⟩
   .exact⟨X7,zA.2.1⟩,λi has s=>by rw[s.2];exact zA.2.2,λhas s=>s,by show M3.length<=19;decide,Nat.zero_le _,Nat.zero_le _⟩
 refine wY k1 (v:=ZQ) (has:=[]) t2 a2 rfl (kY.nil M3) (kY.nil M3).CG (kY.nil M3).CG X7 ?_ ?_ _ ?_ ?_
 .intro _ _ e;have e:fc [] P3=[]:=e;rw[abt]at e;cases e
 .intro _ _ p P e;have e:fc [] P3=p::P:=e;rw[abt]at e;exact .inl ⟨rfl,rfl,e.symm⟩
 .intro nA;exact absurd MQ.1 nA
 intro j co vv u h3 j1 hu p3 an3;obtain⟨_,M1,WY,L1,has,N1,nt1,t3,a3,WM,n3,dr3,_,i,⟨rfl,rfl⟩,rfl⟩|⟨_,_,_,_,_,_,_,_,_,_,eo⟩:=p3
 rotate_left
 .rcases eo with⟨_,_,e⟩|⟨e|e,_⟩
  .exact absurd e (Nat.not_succ_le_zero _)
  .exact absurd (show(4:Int)=7 from e) X7
  .exact absurd (show(4:Int)=8 from e) X7
 have co1:co=1:=dr3.co;subst co1;have t3:TC h0 E.a.ms A M1 WY L1 ⟨o1,none,6,1,nt1⟩ h3:=t3;have a3:AI h3 E (aX G3) (λ_ _=>1) N1 ⟨1,as3,G3,[]⟩:=a3;have n3:N1<=3:=by have:N1<=0+3:=n3;omega
 have lk3:cM M1=iO (cM []) 0 1 (some 5):=dr3.lk;have ln3:M1.length<=1:=dr3.ln;have ll3:L1.length<=1:=by rw[dr3.lg];exact F0 o1 _ []
 have e10:((9+1:Nat):Int)=10:=rfl;rw[e10];have lo3:=t3.lo;obtain⟨ux,un,uc,rfl⟩:∃x n c,u=.slice x n c:=by obtain⟨n,c,rfl|⟨x,o,rfl⟩⟩:=hu<;>exact⟨_,_,_,rfl⟩
 simp(disch:=try exact Y)only[Wz];obtain⟨h4,e4⟩:∃h4:af,h4=⟨h3.nx+1,h3.bl.a_ h3.nx (aj [X8 1,X8 vv,.slice ux un uc] 88 false),h3.lo⟩:=⟨_,rfl⟩
 have jP:Le h3 h4:=by rw[e4];exact(Le.refl h3).new _
 have g4:h4.bl.get h3.nx=some (fu [X8 1,X8 vv,.slice ux un uc]):=by rw[e4];exact T.ay _ _ _
 have n4:h4.nx=h3.nx+1:=by rw[e4]
 rw[<-e4];clear e4;refine Wc 2 0 1 0 h4 _ (t3.keep jP).lo ?_;intro h5 uk;have az6:=AN.le (X:=[]) uk;have k2:FZ ⟨h0,E,A,1,M1,WY,L1,o2,N1,as3,J0,λi has=>i=1/\has=G3,λhas=>has=G3,M3⟩:=
  ⟨ro,ea,Int.le_refl 1,by show 0<=E.z.most/\E.z.most<=8;omega,by show N1<=700;omega,by show as3.length<=900;decide +kernel,anm _ _,(λi has p P s=>s.elim),λi has s=>s.2,λhas s=>by rw[s];exact zA.2.2,by show M3.length<=19;decide,by show L1.length<=900;omega,by show M1.length<=900;omega⟩
 refine wY k2 (v:=⟨o1,none,6,1,nt1⟩) (has:=G3) ((t3.keep jP).keep uk) ((a3.le jP).le uk) rfl rfl zA.2.2.CG ahb.CG (by decide +kernel) (λ_ _ _=>⟨rfl,rfl⟩) ?_ _ ?_ ?_
 .intro _ _ p P e;have e:fc G3 (iG (aX G3) 0 1 (bZ (aX as3 0 1) 3))=p::P:=e;rw[ann]at e;cases e
 .intro nA;exact absurd MQ.2.1 nA
 intro j co vv2 u2 h6 j1' Xa p6 an6;obtain⟨_,M2,VW,L2,has,N2,nt2,t6,a6,hs6,n6,dr6,_,i,⟨rfl,rfl⟩,rfl⟩|⟨_,_,_,_,_,_,_,_,_,_,eo⟩:=p6
 rotate_left
 .rcases eo with⟨_,_,e⟩|⟨e|e,_⟩
  .exact absurd (show 5<=N1 from e) X1
  .exact absurd (show(2:Int)=7 from e) X7
  .exact absurd (show(2:Int)=8 from e) X7
 have f1:cM M1 0 1=some 5:=by rw[lk3];rfl
 have co1:co=1:=by rw[dr6.co];show ur o2 (cM M1)=1;unfold ur;rw[if_neg X7,if_neg X7];show(if(cM M1 0 1).isSome=true then(1:Int)else 7)=1;rw[f1];rfl
 have v1:vv2=5:=by rw[dr6.va rfl co1];show(cM M1 0 1).getD 0=5;rw[f1];rfl
 subst co1 v1;have t6:TC h0 E.a.ms A M2 VW L2 ⟨o2,none,6,1,nt2⟩ h6:=t6;have a6:AI h6 E (aX G3) (λ_ _=>1) N2 ⟨1,as4,G3,[]⟩:=a6;have n6:N2<=N1+3:=n6;have lk6:cM M2=cM M1:=dr6.lk;have ln6:M2.length<=M1.length+1:=dr6.ln;have ll6:L2.length<=L1.length+1:=by rw[dr6.lg];exact F0 o2 _ L1
 have e2:((1+1:Nat):Int)=2:=rfl;rw[e2];have lo6:=t6.lo;have n5:=uk.nx;have n6':=an6.nx;have g6:=an6.an _ _ X1 ((uk.get _ X1).trans g4);obtain⟨wx,wn,wc,rfl⟩:∃x n c,u2=.slice x n c:=by obtain⟨n,c,rfl|⟨x,o,rfl⟩⟩:=Xa<;>exact⟨_,_,_,rfl⟩
 simp(disch:=try exact Y)only[Wz];obtain⟨h7,e7⟩:∃h7:af,h7=⟨h6.nx+1,h6.bl.a_ h6.nx (aj [X8 1,X8 5,.slice wx wn wc] 88 false),h6.lo⟩:=⟨_,rfl⟩
 have WT:Le h6 h7:=by rw[e7];exact(Le.refl h6).new _
 have g7:h7.bl.get h6.nx=some (fu [X8 1,X8 5,.slice wx wn wc]):=by rw[e7];exact T.ay _ _ _
 have n7:h7.nx=h6.nx+1:=by rw[e7]
 rw[<-e7];clear e7;refine We 7 h7 _ (t6.keep WT).lo ?_;intro h8 le8;have k3:FZ ⟨h0,E,A,1,M2,VW,L2,o3,N2,as4,J0,λ_ _=>False,λhas=>has=G3,M3⟩:=
  ⟨ro,ea,Int.le_refl 1,by show 0<=E.z.most/\E.z.most<=8;omega,by show N2<=700;omega,by show as4.length<=900;decide +kernel,anm _ _,(λi has p P s=>s.elim),λi has s=>s.elim,λhas s=>by rw[s];exact zA.2.2,by show M3.length<=19;decide,by show L2.length<=900;omega,by show M2.length<=900;omega⟩
 refine wY k3 (v:=⟨o2,none,6,1,nt2⟩) (has:=G3) ((t6.keep WT).keep le8) ((a6.le WT).le le8) rfl rfl zA.2.2.CG ahc.CG (by decide +kernel) (λ_ e _=>absurd e.2 (by show ¬(7:Int)<=6;decide)) (λ_ e=>absurd e.2 (by show ¬(7:Int)<=6;decide)) _ ?_ ?_
 .intro nA;exact absurd MQ.2.2 nA
 intro j co vv3 u3 h9 az_ hu3 p9 an9;obtain⟨e,_⟩|⟨M4,ck4,nt4,bu,X,N4,t9,a9,lk9,_,eo⟩:=p9
 .exact absurd e.2 (by show ¬(7:Int)<=6;decide)
 have co1:co=1:=by
  rcases eo with⟨e,_⟩|⟨_,e⟩
  .exact absurd e.2 (by show ¬(7:Int)<=6;decide)
  .exact e
 subst co1;have t9:TC h0 E.a.ms A M4 ck4 [] ⟨o3,none,1,1,nt4⟩ h9:=t9;have a9:AI h9 E (aX bu) X N4 ⟨0,[],[],bu⟩:=a9;have lk9:cM M4=cM M2:=lk9;have l1:M4.length=1:=ZR t9.st.ok (LL:=[(0,1)]) X7 λt r=>by
  rw[lk9,lk6,lk3];unfold iO;by_cases e:t=0/\r=1
  .rw[if_pos e,e.1,e.2];simp
  .rw[if_neg e];constructor
   .intro hh;exact absurd hh (by show ¬(none:Option Int).isSome=true;decide)
   .intro hh;rw[List.mem_singleton]at hh;exact absurd ⟨congrArg Prod.fst hh,congrArg Prod.snd hh⟩ e
 have n8:=le8.nx;have n9:=an9.nx;have lo9:=t9.lo;have q10:=an9.an _ _ X1 ((le8.get _ X1).trans ((WT.get _ X1).trans g6));have q18:=an9.an _ _ X1 ((le8.get _ X1).trans g7);obtain⟨yx,yn,yc,rfl⟩:∃x n c,u3=.slice x n c:=by obtain⟨n,c,rfl|⟨x,o,rfl⟩⟩:=hu3<;>exact⟨_,_,_,rfl⟩
 simp(disch:=try exact Y)only[Wz];have leE:=(Le.refl h9).new (aj [X8 1,X8 vv3,.slice yx yn yc] 88 false);unfold fu at q10 q18;simp(disch:=try exact Y)only[Wz,q10,q18];refine MJ (t9.keep leE) (a9.le leE) ea _ ?_;simp(disch:=try exact Y)only[Wz];refine ZB (t9.keep leE).st (t9.keep leE).lo X1 _ ?_;intro hF leF;rw[l1];simp(disch:=try exact Y)only[Wz];exact hk _ ((t9.keep leE).le.trans leF)
theorem Rn{n:Nat}:∀(L:List MapEntry)(i j:Nat)(e:MapEntry),L[j]? = some e->e.born=n->(∀k,k<j->∀e',L[k]? = some e'->e'.born≠n)->qL n L i=some (i+j):=by
 intro L
 induction L with
 |nil=>intro i j e h;simp at h
 |cons a L ih=>
  intro i j e h hb hl;cases j with
  |zero=>
   simp at h;subst h;unfold qL;rw[show Nat.beq a.born n=true from by rw[hb];exact Nat.beq_refl n];rfl
  |succ j=>
   have h0:=hl 0 (Nat.succ_pos _) a rfl;unfold qL;rw[show Nat.beq a.born n=false from by cases hq:Nat.beq a.born n with|false=>rfl|true=>exact absurd (Nat.eq_of_beq_eq_true hq) h0]
   show qL n L (Nat.succ i)=_
   rw[ih (Nat.succ i) j e (by simpa using h) hb λk hk e' he'=>hl (k+1) X1 e' (by simpa using he')]
   congr 1;omega
theorem Kw{M:List HE}{clock:Nat}{h:af}{bm:Nat}(o:cO M clock)(g:h.bl.get bm=some (.map (M.map jf) clock))(hlo:h.lo<=bm){j:Nat}{e:HE}(he:M[j]? = some e)(v:Int)(V:KQ)(hk:V undef ⟨h.nx,h.bl.a_ bm (.map ((M.set j (zE e.t e.r v e.born)).map jf) clock),h.lo⟩):eP False (.map (some bm)) (X8 (.ofNat e.born)) (X8 v) h V:=by
 unfold eP;simp only[g];obtain⟨hj,hje⟩:=List.getElem?_eq_some_iff.1 he;rw[Rn (n:=e.born) (M.map jf) 0 j (jf e) (by rw[List.getElem?_map,he];rfl) rfl λk hk e' he'=>by
  rw[List.getElem?_map]at he';obtain⟨x,hx,rfl⟩:=Option.map_eq_some_iff.1 he';obtain⟨hk',hxe⟩:=List.getElem?_eq_some_iff.1 hx;have:=List.pairwise_iff_getElem.1 o.bn k j hk' hj hk;rw[hxe,hje]at this;exact this]
 simp only[Nat.zero_add];rw[j0 _ _ j (jf e) _ (by rw[List.getElem?_map,he];rfl),bG _ _ _ _ hlo];rw[List.map_set]at hk;exact hk
theorem cO.Dn{M:List HE}{clock:Nat}(o:cO M clock){j:Nat}{e:HE}(he:M[j]? = some e)(v:Int):cO (M.set j (zE e.t e.r v e.born)) clock/\(M.set j (zE e.t e.r v e.born)).Perm (M.filter (λx=>!jO e.t e.r x)++[zE e.t e.r v e.born]):=by
 have vf:(M.set j (zE e.t e.r v e.born)).Perm (M.filter (λx=>!jO e.t e.r x)++[zE e.t e.r v e.born]):=by
  rw[<-erase_filter o.nm he];obtain⟨hj,_⟩:=List.getElem?_eq_some_iff.1 he;rw[List.set_eq_take_append_cons_drop,if_pos hj,List.eraseIdx_eq_take_drop_succ];exact(List.perm_middle).trans (List.perm_append_singleton _ _).symm
 have hne:∀x∈M,¬(e.t=x.t/\e.r=x.r)->x.born≠e.born:=λx hx hn zI=>by
  have:∀(L:List HE),(L.Pairwise λa b=>a.born≠b.born)->e∈L->x∈L->e=x:=by
   intro L
   induction L with
   |nil=>intro _ h;nomatch h
   |cons a L ih=>
    intro hp h1 h2;rw[List.pairwise_cons]at hp;rcases List.mem_cons.1 h1 with rfl|k1<;>rcases List.mem_cons.1 h2 with rfl|k2
    .rfl
    .exact absurd zI.symm (hp.1 _ k2)
    .exact absurd zI (hp.1 _ k1)
    .exact ih hp.2 k1 k2
  have:=this M o.bn (List.mem_of_getElem? he) hx;subst this;exact hn ⟨rfl,rfl⟩
 exact⟨o.put (e:=zE e.t e.r v e.born) (Nat.le_refl _) vf hne (o.lt e (List.mem_of_getElem? he)),vf⟩
theorem Wf{M:List HE}{clock:Nat}{h:af}{bm:Nat}(o:cO M clock)(g:h.bl.get bm=some (.map (M.map jf) clock))(hlo:h.lo<=bm)(t r v:Int)(K:Value->af->Prop)(hk:∀x b h1,MK bm h h1->h1.nx=h.nx->(∀κ':Value->af->Prop,(∀h' M' clock' born,MK bm h1 h'->h'.nx=h1.nx->h'.bl.get bm=some (.map (M'.map jf) clock')->cO M' clock'->M'.Perm (M.filter (λx=>!jO t r x)++[zE t r v born])->κ' undef h')->eP False (.map (some bm)) b (X8 v) h1 κ')->K (.tuple ⟨[x,b]⟩) h1):h_ False prog 28 (X8 0) (.map (some bm)) (dg t r) h K:=by
 unfold h_;rw[Db];simp only[g];rcases Ks h t r M 0 with⟨g1,g2,_⟩|⟨j,e,g1,g2,g3,g4,_⟩
 ·rw[g1];simp only;rw[lU];simp only[cC];rw[bG _ _ _ _ hlo];have vf:(M++[zE t r 0 clock]).Perm (M.filter (λx=>!jO t r x)++[zE t r 0 clock]):=by
   rw[List.filter_eq_self.2 λx hx=>lY.2 (g2 x hx)]
  have o1:=o.put (e:=zE t r 0 clock) (Nat.le_succ clock) vf (λx hx _=>Nat.ne_of_lt (o.lt x hx)) (Nat.lt_succ_self _);have he:(M++[zE t r 0 clock])[M.length]? = some (zE t r 0 clock):=by simp
  have g':(h.bl.a_ bm (.map ((M++[zE t r 0 clock]).map jf) (Nat.succ clock))).get bm=some (.map ((M++[zE t r 0 clock]).map jf) (Nat.succ clock)):=T.ay _ _ _;have hk:=hk (X8 0) (X8 (.ofNat clock)) ⟨h.nx,h.bl.a_ bm (.map ((M++[zE t r 0 clock]).map jf) (Nat.succ clock)),h.lo⟩ (MK.a_ _) rfl λκ' hk'=>by
   refine Kw (h:=⟨h.nx,h.bl.a_ bm (.map ((M++[zE t r 0 clock]).map jf) (Nat.succ clock)),h.lo⟩) o1 g' hlo he v κ' ?_;obtain⟨q1,q2⟩:=o1.Dn he v;refine hk' _ _ _ clock (MK.a_ _) rfl (T.ay _ _ _) q1 ?_;refine q2.trans ?_;rw[List.filter_append,show List.filter (λx=>!jO (zE t r 0 clock).t (zE t r 0 clock).r x) [zE t r 0 clock]=[]from by simp[jO,zE],List.append_nil];exact List.Perm.refl _
  rw[List.map_append]at hk;exact hk
 .rw[g1];simp only[jf,g3,g4,afe];have hje:(M.map jf)[j]? = some (jf e):=by rw[List.getElem?_map,g2];rfl
  rw[Nat.zero_add,j0 _ _ j (jf e) _ hje,bG _ _ _ _ hlo];have lV:(M.map jf).set j { jf e with key:=dg e.t e.r }=M.map jf:=by
   obtain⟨hj,hx⟩:=List.getElem?_eq_some_iff.1 hje
   show(M.map jf).set j (jf e)=M.map jf
   rw[<-hx,List.set_getElem_self]
  subst g3 g4;have hk:=hk (X8 e.w) (X8 (.ofNat e.born)) ⟨h.nx,h.bl.a_ bm (.map (M.map jf) clock),h.lo⟩ (MK.a_ _) rfl λκ' hk'=>by
   refine Kw (h:=⟨h.nx,h.bl.a_ bm (.map (M.map jf) clock),h.lo⟩) o (T.ay _ _ _) hlo g2 v κ' ?_;obtain⟨q1,q2⟩:=o.Dn g2 v;exact hk' _ _ _ e.born (MK.a_ _) rfl (T.ay _ _ _) q1 q2
  rw[<-lV]at hk;exact hk
structure NM(h:af)(b:Nat)(f:Int->Int->Option Int):Prop where
 ex:∃M ck,(b<h.nx/\h.lo<=b)/\h.bl.get b=some (.map (M.map jf) ck)/\cO M ck/\cM M=f
section
variable {h h':af}{b:Nat}{f:Int->Int->Option Int}
theorem NM.gm(s:NM h b f):∃es ck,h.bl.get b=some (.map es ck):=by obtain⟨M,ck,_,g,_⟩:=s;exact⟨_,_,g⟩
theorem NM.of(s:NM h b f)(h1:h.nx<=h'.nx)(h2:h'.lo=h.lo)(h3:h'.bl.get b=h.bl.get b):NM h' b f:=by
 obtain⟨M,ck,l,g,o,e⟩:=s;exact⟨M,ck,⟨X1,X1⟩,h3.trans g,o,e⟩
theorem NM.lt(s:NM h b f):b<h.nx/\h.lo<=b:=by obtain⟨M,ck,l,_⟩:=s;exact l
theorem NM.le(s:NM h b f)(l:Le h h'):NM h' b f:=s.of l.nx l.lo (l.get _ s.lt.1)
theorem NM.mo{d:Nat}(s:NM h b f)(k:MK d h h')(hn:b≠d):NM h' b f:=s.of k.nx k.lo (k.get _ s.lt.1 hn)
theorem NM.an{X:List Nat}(s:NM h b f)(a:AN X h h')(hn:b∉X):NM h' b f:=by
 obtain⟨M,ck,l,g,o,e⟩:=s;exact⟨M,ck,⟨by have:=a.nx;omega,by have:=a.lo;omega⟩,a.mp _ _ _ l.1 g hn,o,e⟩
theorem NM.look{β:Type}{fl:β}(s:NM h b f)(t r:Int)(V:X3 β):cq fl prog 28 (X8 0) false (.map (some b)) (dg t r) h V=V (X8 ((f t r).getD 0)) h:=by
 obtain⟨M,ck,l,g,o,rfl⟩:=s;exact VH g t r V
theorem NM.y9(s:NM h b f)(t r v:Int)(V:KQ)(hk:∀h',NM h' b (iO f t r (some v))->MK b h h'->h'.nx=h.nx->V undef h'):bQ False prog 28 (.map (some b)) (dg t r) (X8 v) h V:=by
 obtain⟨M,ck,l,g,o,rfl⟩:=s;refine VI o g l.2 t r v V ?_;intro M' eY born o' hp;exact hk _ ⟨M',eY,l,T.ay _ _ _,o',wT o o' hp⟩ (MK.a_ _) rfl
theorem NM.wo(s:NM h b f)(t r v:Int)(K:Value->af->Prop)(hk:∀x bo h1,MK b h h1->h1.nx=h.nx->(∀κ':Value->af->Prop,(∀h',NM h' b (iO f t r (some v))->MK b h1 h'->h'.nx=h1.nx->κ' undef h')->eP False (.map (some b)) bo (X8 v) h1 κ')->K (.tuple ⟨[x,bo]⟩) h1):h_ False prog 28 (X8 0) (.map (some b)) (dg t r) h K:=by
 obtain⟨M,ck,l,g,o,rfl⟩:=s;refine Wf o g l.2 t r v K ?_;intro x bo h1 k1 n1 hs;refine hk x bo h1 k1 n1 ?_;intro κ' hk';refine hs κ' ?_;intro h' M' eY born k' n' g' o' hp;exact hk' h' ⟨M',eY,⟨X1,by have:=k1.lo;have:=k'.lo;omega⟩,g',o',wT o o' hp⟩ k' n'
theorem NM.new(hlo:h.lo<=h.nx):NM ⟨h.nx+1,h.bl.a_ h.nx (.map [] 0),h.lo⟩ h.nx (λ_ _=>none):=
 ⟨[],0,⟨Nat.lt_succ_self _,hlo⟩,T.ay _ _ _,⟨List.Pairwise.nil,List.Pairwise.nil,λe he=>by cases he⟩,rfl⟩
end
section
variable {h0 h h':af}{ms:List Nat}{A:RA}{M:List HE}{ck:Nat}{L:List W4}{v:RV}{b sb sm:Nat}{es:List MapEntry}{c:Nat}
theorem dG.mo(s:dG h sb sm M ck)(g:h.bl.get b=some (.map es c))(hn:b≠sm)(k:MK b h h'):dG h' sb sm M ck:=
 ⟨⟨Nat.lt_of_lt_of_le s.rH.1 k.nx,by rw[k.lo];exact s.rH.2⟩,k.cell g s.rH.1 s.gb,⟨Nat.lt_of_lt_of_le s.jV.1 k.nx,by rw[k.lo];exact s.jV.2⟩,(k.get _ s.jV.1 hn.symm).trans s.gm,s.ok⟩
theorem dG.an{X:List Nat}(s:dG h sb sm M ck)(a:AN X h h')(hn:sm∉X):dG h' sb sm M ck:=
 ⟨⟨Nat.lt_of_lt_of_le s.rH.1 a.nx,by rw[a.lo];exact s.rH.2⟩,a.ty _ _ _ _ s.rH.1 s.gb (by unfold mE;decide) (by unfold ki;decide) (by unfold KI;decide) (by unfold sO;decide),⟨Nat.lt_of_lt_of_le s.jV.1 a.nx,by rw[a.lo];exact s.jV.2⟩,a.mp _ _ _ s.jV.1 s.gm hn,s.ok⟩
theorem TC.mo(s:TC h0 ms A M ck L v h)(g:h.bl.get b=some (.map es c))(hn:b≠A.sm)(hb:h0.nx<=b)(k:MK b h h'):TC h0 ms A M ck L v h':=by
 have n0:=s.le.nx;exact⟨⟨Nat.lt_of_lt_of_le s.lt.1 k.nx,by rw[k.lo];exact s.lt.2⟩,k.cell g s.lt.1 s.g,s.st.mo g hn k,s.lg.mks k g,s.sm,⟨Nat.le_trans n0 k.nx,k.lo.trans s.le.lo,λd hd=>(k.get d X1 X1).trans (s.le.get d hd)⟩,s.hr,s.hs⟩
end
structure PT(p t s:Int->Int->Option Int):Prop where
 on:∀a b,t a b=some 1->s a b=p a b/\(s a b).isSome=true/\br a b=2
 off:∀a b,t a b≠some 1->s a b=none
theorem PT.nil:PT (λ_ _=>none) (λ_ _=>none) (λ_ _=>none):=⟨λ_ _ h=>(by cases h),λ_ _ _=>rfl⟩
theorem PT.put{p t s:Int->Int->Option Int}(q:PT p t s){x y:Int}(lv:br x y=2)(v:Int):PT (iO p x y (some v)) (iO t x y (some 1)) (iO s x y (some v)):=by
 refine⟨λa b h=>?_,λa b h=>?_⟩<;>unfold iO at h ⊢
 .by_cases e:a=x/\b=y
  .obtain⟨rfl,rfl⟩:=e;simp[lv]
  .rw[if_neg e]at h ⊢;rw[if_neg e];exact q.on a b h
 .by_cases e:a=x/\b=y
  .rw[if_pos e]at h;exact absurd rfl h
  .rw[if_neg e]at h ⊢;exact q.off a b h
theorem PT.del{p t s:Int->Int->Option Int}(q:PT p t s)(x y:Int):PT p (iO t x y (some 0)) (iO s x y none):=by
 refine⟨λa b h=>?_,λa b h=>?_⟩<;>unfold iO at h ⊢
 .by_cases e:a=x/\b=y
  .rw[if_pos e]at h;exact absurd h X7
  .rw[if_neg e]at h ⊢;exact q.on a b h
 .by_cases e:a=x/\b=y
  .rw[if_pos e]
  .rw[if_neg e]at h ⊢;exact q.off a b h
theorem PT.is{p t s:Int->Int->Option Int}(q:PT p t s)(x y:Int):(s x y).isSome=decide ((t x y).getD 0=1):=by
 by_cases h:t x y=some 1
 .rw[(q.on x y h).2.1,h];rfl
 ·rw[q.off x y h];have:(t x y).getD 0≠1:=by
   cases e:t x y with
   |none=>decide
   |some z=>rw[e]at h;exact λh'=>h (congrArg some h')
  simp[this]
end Go.Proofs
end
