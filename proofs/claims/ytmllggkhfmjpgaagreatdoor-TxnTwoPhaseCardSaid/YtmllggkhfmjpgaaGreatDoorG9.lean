/-
  PROVED HERE: a part of the proof (TX4, TX5, TX6, TX7, TX8, TX9, TX10, TX11, TX12, TX13, TX14, TX15, TX16, TX17, TX18, TX19, TX20, TX21, TX22, TX23, TX24, TX25, TX26, TX27).
-/
import Derived.Test.YtmllggkhfmjpgaaGreatDoorG8
import Derived.Test.YtmllggkhfmjpgaaGreatDoorG7
set_option linter.unusedVariables false
set_option linter.unusedSimpArgs false
set_option maxRecDepth 100000
set_option maxHeartbeats 4000000
noncomputable section
namespace Go.Proofs
open Go.Vai Go.Clashes
open Tryz (prog)
def rowsOf(M:List HE)(D:List N2):List N3:=D.map λp=>(p.1,p.2,(eM M p.1 p.2).getD 0)
theorem Iz{M:List HE}{D:List N2}{k:Nat}{p:N2}(hp:D[k]? = some p):rowsOf M (D.take (k+1))=rowsOf M (D.take k)++[(p.1,p.2,(eM M p.1 p.2).getD 0)]:=by
 unfold rowsOf;rw[List.take_add_one,hp,List.map_append];rfl
def jv(u:Value):Prop:=∃n c,u=.slice none n c\/∃b o,u=.slice (some ⟨b,o,none⟩) n c
theorem Cut.ok{e s:Nat}{h:Heap}{v:Value}{k:Nat}(c:Cut e s h v k):jv v:=by
 rcases c with⟨_,rfl⟩|⟨_,b,o,rfl⟩|⟨b,o,cap,rfl,_⟩|⟨b,vs,n,rfl,_⟩
 .exact⟨_,_,.inl rfl⟩
 .exact⟨_,_,.inr ⟨_,_,rfl⟩⟩
 .exact⟨_,_,.inr ⟨_,_,rfl⟩⟩
 .exact⟨_,_,.inr ⟨_,_,rfl⟩⟩
section
variable {h h':Heap}{sb sm:Nat}{M:List HE}{ck:Nat}
theorem OH(s:ic h sb sm M ck)(hlo:h.lo<=h.nx)(hM:M.length<=1000)(V:KQ)(hk:∀v h' (D:List N2),D.Perm (M.map cT)->D.Pairwise Bp->pY h h' v D->Le h h'->V v h'):CallW prog 95 [.map (some sm)] h λv h=>CallW prog 94 [v,.func (.func 96) ⟨[]⟩ ⟨[]⟩] h V:=by
 refine av mixed ?_;rw[agX];simp(disch:=try exact Y)only[Wz,HF];obtain⟨hA,aT,aL,gc,dy,dz⟩:=kf h (aa [.map (some sm)] 96 false);rw[<-aT]
 try rw[show(h.bl.aV (h.nx) (aa [.map (some sm)] 96 false))=hA.bl by rw[aT]]
 clear aT;have sA:=s.le aL;refine av mixed ?_;rw[X9];refine av mixed ?_;rw[Q4];have hlm:=s.kO.1;refine D8 M ck sm h.nx hA s.ok sA.gm (by omega) gc (by omega) (by omega) hM _ ?_;intro v h2 L hp ho bt;have n2:=bt.nx;have l2:=bt.lo;have hnd:(L.map cT).Nodup:=by
  refine((hp.map cT).nodup_iff).2 ?_;rw[List.Nodup,List.pairwise_map];exact s.ok.nm.imp λhn e=>hn ⟨congrArg Prod.fst e,congrArg Prod.snd e⟩
 have hll:=hp.length_eq;refine Mg hA h2 (L.map cT) v _ ho bt (by omega) (by rw[List.length_map];omega) hnd ?_;intro D h3 Ym hs r7 dg;exact hk v h3 D (Ym.trans (hp.map cT)) hs (fC.base r7 (by omega)) (aL.trans dg)
theorem MH(s:ic h sb sm M ck)(hlo:h.lo<=h.nx)(hM:M.length<=1000)(V:KQ)(hk:∀v h' (D:List N2),D.Perm (M.map cT)->D.Pairwise Bp->fC mZ h 107 h' v (rowsOf M D)->Le h h'->V v h'):CallW prog 47 [pt sb] h V:=by
 refine av mixed ?_;rw[agw];have gb:=s.gb;simp(disch:=try exact Y)only[Wz,rz,Lt,aG,gb];refine OH s hlo hM _ ?_;intro v h3 D Ym hs ho dg;have n3:=dg.nx;have l3:=dg.lo;have hlen:=ho.sl.len (β:=Prop) (fl:=False);have hDl:=Ym.length_eq;rw[List.length_map]at hDl;simp(disch:=try exact Y)only[Wz,hlen];refine⟨λn l h4=>Le h3 h4/\∃k:Nat,slot l 17=.int .i64 (k:Int)/\k<=D.length/\n=D.length-k/\fC mZ h3 107 h4 (slot l 15) (rowsOf M (D.take k)),⟨_,Le.refl _,0,rfl,Nat.zero_le _,rfl,.inl ⟨rfl,.inl rfl⟩⟩,?_⟩;rintro n l h4 ⟨iS,k,s4,vm,rfl,DL⟩;have n4:=iS.nx;have l4:=iS.lo;by_cases hlt:k<D.length
 .obtain⟨p,hp⟩:∃p,D[k]? = some p:=⟨_,List.getElem?_eq_getElem hlt⟩
  obtain⟨b,o,hb,qm,oP⟩:=ldN (ho.sl.le iS) k hp;have hlk:(rowsOf M (D.take k)).length=k:=by unfold rowsOf;rw[List.length_map,List.length_take];omega
  simp(disch:=try exact Y)only[Wz,s4,fV (show(k:Int)<(D.length:Int)by omega),Lr,qm,oP,iI];obtain⟨hB,gI,bV,gB,BN,BO⟩:=kf h4 (aa [.int .i64 p.1,.int .i64 p.2] 28 false);rw[<-gI]
  try rw[show(h4.bl.aV (h4.nx) (aa [.int .i64 p.1,.int .i64 p.2] 28 false))=hB.bl by rw[gI]]
  clear gI;have sB:=s.le ((dg.trans iS).trans bV);have gbB:=sB.gb;have lk:=λ(β:Type)(fl:β)(V:Z7 β)=>ad5 (fl:=fl) sB.gm p.1 p.2 V;unfold cV at lk;simp(disch:=try exact Y)only[Wz,gB,aG,gbB,lk,DL.same];have kU:=(Le.refl hB).new (aa [.int .i64 p.1,.int .i64 p.2,.int .i64 ((eM M p.1 p.2).getD 0)] 107 false);refine jR (enc:=mZ) (a:=h3) (L:=rowsOf M (D.take k)) (M:=[(p.1,p.2,(eM M p.1 p.2).getD 0)]) pG rj (by omega) (by omega) ((DL.le bV).le kU) ⟨_,1,rfl,λ_=>⟨hB.nx,0,rfl,Nat.lt_succ_self _,by show Has ((T.aV _ _ _).get _) 0 _;rw[T.ah];exact Has.all⟩⟩ ((iS.trans bV).trans kU)
   (by rw[hlk];simp;omega) (by show hB.lo<=hB.nx+1;omega) _ ?_
  intro v' h' ho' hl' _ _;refine⟨_,?_,hl',k+1,rfl,by omega,rfl,?_⟩
  .omega
  .rw[Iz hp];exact ho'
 .have hkk:k=D.length:=by omega
  subst hkk;rw[List.take_length]at DL;simp(disch:=try exact Y)only[Wz,s4];exact hk _ _ D Ym hs (fC.base DL (by omega)) (dg.trans iS)
theorem W0(s:ic h sb sm M ck)(hlo:h.lo<=h.nx)(hM:M.length<=1000)(V:KQ)(hk:∀h',Le h h'->V (.int .i64 (M.length:Int)) h'):CallW prog 84 [pt sb] h V:=by
 refine av mixed ?_;rw[agM];refine MH s hlo hM _ ?_;intro v h' D hp _ ho le;have hlen:=ho.sl.len (β:=Prop) (fl:=False);have:(rowsOf M D).length=M.length:=by unfold rowsOf;rw[List.length_map,hp.length_eq,List.length_map]
 simp(disch:=try exact Y)only[Wz,hlen,this];exact hk h' le
theorem W2(a0 a1:Value)(h:Heap)(V:KQ):aM prog 428 [a0,a1] h V=ew prog 3 3 a0 a1 h V:=by kernel_rfl
theorem W3(a0 a1:Value)(h:Heap)(V:KQ):aM prog 409 [a0,a1] h V=ej prog 3 428 107 3 z3 a0 a1 h V:=by kernel_rfl
theorem Tf(s:ic h sb sm M ck)(hlo:h.lo<=h.nx)(hM:M.length<=1000)(t:Int)(V:KQ)(hk:∀u h',Le h h'->jv u->V u h'):CallW prog 388 [pt sb,.int .i64 t] h V:=by
 refine av mixed ?_;rw[abY];simp(disch:=try exact Y)only[Wz];obtain⟨hA,aT,aL,g1,dy,dz⟩:=kf h (aa [.int .i64 t] 3 false);rw[<-aT]
 try rw[show(h.bl.aV (h.nx) (aa [.int .i64 t] 3 false))=hA.bl by rw[aT]]
 clear aT;refine MH (s.le aL) (by omega) hM _ ?_;intro v h2 D hp _ ho bt;have hDl:=hp.length_eq;rw[List.length_map]at hDl;have hl:(rowsOf M D).length=D.length:=by unfold rowsOf;rw[List.length_map]
 refine tf mixed pG rj (by decide) (by decide) (by decide) (by decide) W2 W3 hA h2 (rowsOf M D) (λp=>!decide (p.1=t)) v _ _ bt ho (by omega) (by omega) ?_ ?_
 .intro p h3 κ1 dg _ dB;have n3:=dg.nx;have l3:=dg.lo;have g3:=(dg.get h.nx (by omega)).trans g1;refine av mixed ?_
  show aM prog 410 [.agg ⟨[.int .i64 p.1,.int .i64 p.2.1,.int .i64 p.2.2]⟩,pt h.nx] h3 κ1
  rw[ab9];simp(disch:=try exact Y)only[Wz,mZ,g3];exact dB _ ((Le.refl h3).new _)
 .intro v' h' hs ct le' _ ty;exact hk v' h' (aL.trans le') (Cut.ok (e:=107) (s:=3) (h:=h') ct)
end
def rY(t:TypeId):Prop:=t=169\/t=233\/t=99
theorem rY.nt{t:TypeId}{o:Bool}(h:rY t):¬lZ t o/\¬jO t o/\¬D4 t/\t≠175:=by
 rcases h with rfl|rfl|rfl<;>refine⟨?_,?_,by unfold D4 Ms;decide,by decide⟩<;>(first|unfold lZ|unfold jO)<;>cases o<;>decide
structure KR(sm:Nat)(h h':Heap):Prop where
 nx:h.nx<=h'.nx
 lo:h'.lo=h.lo
 get:∀d,d<h.nx->d≠sm->(∀vs t o,rY t->h.bl.get d≠some (aa vs t o))->h'.bl.get d=h.bl.get d
theorem KR.le{sm:Nat}{h h':Heap}(l:Le h h'):KR sm h h':=⟨l.nx,l.lo,λd hd _ _=>l.get d hd⟩
theorem KR.trans{sm:Nat}{h h1 h2:Heap}(x:KR sm h h1)(y:KR sm h1 h2):KR sm h h2:=
 ⟨Nat.le_trans x.nx y.nx,y.lo.trans x.lo,λd hd hn ht=>(y.get d (Nat.lt_of_lt_of_le hd x.nx) hn λvs t o hu=>by rw[x.get d hd hn ht];exact ht vs t o hu).trans (x.get d hd hn ht)⟩
theorem MK.kr{sm:Nat}{h h':Heap}(k:MK sm h h'):KR sm h h':=⟨k.nx,k.lo,λd hd hn _=>k.get d hd hn⟩
theorem KR.put{sm:Nat}{h:Heap}{x:Nat}{v:List Value}{t:TypeId}{o:Bool}(hg:h.bl.get x=some (aa v t o))(ht:rY t)(ob:bD):KR sm h ⟨h.nx,h.bl.aV x ob,h.lo⟩:=
 ⟨Nat.le_refl _,rfl,λd _ _ hn=>T.aj _ _ (by rintro rfl;exact hn _ _ _ ht hg)⟩
theorem KR.cell{sm:Nat}{h h':Heap}(k:KR sm h h'){es:List MapEntry}{c:Nat}(gm:h.bl.get sm=some (.map es c)){d:Nat}{v:List Value}{t:TypeId}{o:Bool}(hd:d<h.nx)(hg:h.bl.get d=some (aa v t o))(ht:¬rY t):h'.bl.get d=some (aa v t o):=by
 refine(k.get d hd (dh hg gm) λvs t' o' hu e=>?_).trans hg;rw[hg]at e;obtain⟨rfl,rfl⟩:=gf e;exact ht hu
section
variable {h h':Heap}{A:WA}{a:TA}{N n:Nat}{d:TD}{R:RD}{H X:Int->Int->Int}{x:iz}{out:Int}{E:EN}{D:AD}{kb:Nat}{c:CD}{sm:Nat}{es:List MapEntry}{cl:Nat}
theorem WS.kr(s:WS h A a N d R)(k:KR sm h h')(gm:h.bl.get sm=some (.map es cl))(hn:sm∉a.ms):WS h' A a N d R:=by
 have gw:=s.t.is.pq;have gb:=s.r.gm;have hlo:=s.lo;have knx:=k.nx;have klo:=k.lo;have mp:∀y es' c',y<h.nx->y∈a.ms->h.bl.get y=some (.map es' c')->h'.bl.get y=h.bl.get y:=λy es' c' hy hm hg=>k.get y hy (λe=>hn (e▸hm)) λvs t o _ e=>by rw[hg]at e;exact bQ e
 refine⟨s.t.only knx klo (λc vs ty op hc ht hf hg=>k.get c hc (dh hg gm) λvs' t o hu e=>?_) (mp _ _ _ s.t.is.BT s.mi.2.1 gw) (λb hb=>mp _ _ _ (s.t.is.bk b hb).kO (s.mi.2.2 b hb) (s.t.is.bk b hb).gu),s.r.keep knx klo (λc vs ty op hc hr hg=>k.get c hc (dh hg gm) λvs' t o hu e=>?_) (mp _ _ _ s.r.kO.1 s.mi.1 gb),s.mw,s.mm,s.mi,by omega⟩
 .rw[hg]at e;obtain⟨rfl,rfl⟩:=gf e;exact hu.nt.1 ht
 .rw[hg]at e;obtain⟨rfl,rfl⟩:=gf e;exact hu.nt.2.1 hr
theorem WI.kr(s:WI h A a H X N n x out)(k:KR sm h h')(gm:h.bl.get sm=some (.map es cl))(hn:sm∉a.ms):WI h' A a H X N n x out:=by
 obtain⟨⟨d,R,N0,s1,s2⟩,s3,s4⟩:=s;exact⟨⟨d,R,N0,s1.kr k gm hn,s2⟩,s3,s4⟩
theorem KR.ka(k:KR sm h h')(gm:h.bl.get sm=some (.map es cl)):KA h h':=⟨k.nx,k.lo,λd vs t o hd hg ht=>(k.cell gm hd hg λhu=>hu.nt (o:=o).2.2.1 ht).trans hg.symm⟩
theorem AI.kr(s:AI h E H X N D)(k:KR sm h h')(gm:h.bl.get sm=some (.map es cl))(hn:sm∉E.a.ms):AI h' E H X N D:=⟨λy o=>(s.w y o).kr k gm hn,s.g.ka (k.ka gm),s.wb,s.th⟩
theorem AW.kr(s:AW h E H X N n x out D kb c)(k:KR sm h h')(gm:h.bl.get sm=some (.map es cl))(hn:sm∉E.a.ms):AW h' E H X N n x out D kb c:=⟨s.w.kr k gm hn,s.g.ka (k.ka gm),s.c.ka (k.ka gm),s.wb,s.th⟩
end
def RKp(h h':Heap):Prop:=∀d vs o,d<h.nx->h.bl.get d=some (aa vs 169 o)->h'.bl.get d=some (aa vs 169 o)
structure W4 where
 t:Int
 r:Int
 v:Int
 is:Bool
def pI(p:W4):List Value:=[.int .i64 p.t,.int .i64 p.r,.int .i64 p.v,.bool p.is]
theorem wP(p:W4):(pI p).length=4:=rfl
theorem CQ(p:W4):(pI p).all dJ=true:=rfl
structure kX(h0 h:Heap)(lb:Nat)(L:List W4):Prop where
 lt:lb<h.nx/\h.lo<=lb
 b0:h0.nx<=lb
 g:∃v,h.bl.get lb=some (aa [v] 233 false)/\fC pI h0 99 h v L
 lv:∀p∈L,bf p.t p.r=2
theorem fC.keep{α:Type}{enc:α->List Value}{a h h':Heap}{e:TypeId}{v:Value}{L:List α}(o:fC enc a e h v L)(hn:h.nx<=h'.nx)(hl:h'.lo=h.lo)(hg:∀b vs,b<h.nx->h.bl.get b=some (aa vs e true)->h'.bl.get b=h.bl.get b):fC enc a e h' v L:=by
 rcases o with o|⟨b,e1,h1,h2,h3,h4⟩
 .exact .inl o
 .exact .inr ⟨b,e1,h1,by omega,by omega,(hg b _ h2 h4).trans h4⟩
section
variable {h0 h h':Heap}{lb sm:Nat}{L:List W4}{es:List MapEntry}{cl:Nat}
theorem kX.le(s:kX h0 h lb L)(l:Le h h'):kX h0 h' lb L:=by
 obtain⟨v,g,o⟩:=s.g;exact⟨⟨Nat.lt_of_lt_of_le s.lt.1 l.nx,by rw[l.lo];exact s.lt.2⟩,s.b0,⟨v,(l.get _ s.lt.1).trans g,o.le l⟩,s.lv⟩
theorem kX.fk{a:TA}(s:kX h0 h lb L)(k:FK a h h'):kX h0 h' lb L:=by
 obtain⟨v,g,o⟩:=s.g;exact⟨⟨Nat.lt_of_lt_of_le s.lt.1 k.nx,by rw[k.lo];exact s.lt.2⟩,s.b0,⟨v,(k.ty _ _ _ _ s.lt.1 g (by unfold lZ;decide) (by unfold jO;decide) (by unfold Ms;decide)).trans g,o.keep k.nx k.lo λb vs hb hg=>k.ty _ _ _ _ hb hg (by unfold lZ;decide) (by unfold jO;decide) (by unfold Ms;decide)⟩,s.lv⟩
theorem kX.mks(s:kX h0 h lb L)(k:MK sm h h')(gm:h.bl.get sm=some (.map es cl)):kX h0 h' lb L:=by
 obtain⟨v,g,o⟩:=s.g;exact⟨⟨Nat.lt_of_lt_of_le s.lt.1 k.nx,by rw[k.lo];exact s.lt.2⟩,s.b0,⟨v,k.cell gm s.lt.1 g,o.keep k.nx k.lo λb vs hb hg=>(k.cell gm hb hg).trans hg.symm⟩,s.lv⟩
theorem kX.put(s:kX h0 h lb L){x:Nat}{v:List Value}{t:TypeId}{o:Bool}(hg:h.bl.get x=some (aa v t o))(h1:t≠233)(h2:t≠99)(ob:bD):kX h0 ⟨h.nx,h.bl.aV x ob,h.lo⟩ lb L:=by
 obtain⟨v,g,o⟩:=s.g;exact⟨s.lt,s.b0,⟨v,(T.aj _ _ (de hg g h1)).trans g,o.keep (Nat.le_refl _) rfl λb vs hb hgb=>T.aj _ _ (de hg hgb h2)⟩,s.lv⟩
theorem YN(h:Heap)(b o:Nat):lT prog h 100 165 (.pointer (some ⟨b,o,none⟩)) (.pointer none)=some false:=by kernel_rfl
theorem Bg{β:Type}{fl:β}(cn:Bool)(b o:Nat)(h:Heap)(V:Z7 β):ay fl prog .eql 165 cn false (.pointer (some ⟨b,o,none⟩)) (.pointer none) h V=V (.bool false) h:=by simp only[ay,YN,bK]
theorem Tg{β:Type}{fl:β}(cn:Bool)(b o:Nat)(h:Heap)(V:Z7 β):ay fl prog .neq 165 cn false (.pointer (some ⟨b,o,none⟩)) (.pointer none) h V=V (.bool true) h:=by simp only[ay,YN,bK,Bool.not_false]
theorem Th(s:kX h0 h lb L)(tQ:Le h0 h)(hlo:h.lo<=h.nx)(hL:L.length<=1000)(p:W4)(lv:bf p.t p.r=2)(V:KQ)(hk:∀h',kX h0 h' lb (L++[p])->(∀sm,KR sm h h')->RKp h h'->Le h0 h'->V (.int .i64 0) h'):CallW prog 387 [pt lb,.agg ⟨pI p⟩] h V:=by
 refine av mixed ?_;rw[abX];simp(disch:=try exact Y)only[Wz,pI];obtain⟨hA,aT,aL,g1,dy,dz⟩:=kf h (aa [.int .i64 p.t,.int .i64 p.r,.int .i64 p.v,.bool p.is] 99 false);rw[<-aT]
 try rw[show(h.bl.aV (h.nx) (aa [.int .i64 p.t,.int .i64 p.r,.int .i64 p.v,.bool p.is] 99 false))=hA.bl by rw[aT]]
 clear aT;have sA:=s.le aL;obtain⟨v,gl,o⟩:=sA.g;have hlt:=sA.lt;simp(disch:=try exact Y)only[Wz,Bg,GU,g1];refine lR p.t p.r ?_;rw[lv];simp(disch:=try exact Y)only[Wz,GR,aG,gl,g1];have kU:=(Le.refl hA).new (aa [.int .i64 p.t,.int .i64 p.r,.int .i64 p.v,.bool p.is] 99 false);refine jk (enc:=pI) (a:=h0) (L:=L) (M:=[p]) wP CQ (by decide) (by decide) (o.le kU) ⟨_,1,rfl,λ_=>⟨hA.nx,0,rfl,Nat.lt_succ_self _,by show Has ((T.aV _ _ _).get _) 0 _;rw[T.ah];exact Has.all⟩⟩ ((tQ.trans aL).trans kU) (by simp;omega) (by show hA.lo<=hA.nx+1;omega) _ ?_;intro v' h3 o3 dg _ n3 l3 YO;have n3:hA.nx+1<=h3.nx:=n3;have l3:h3.lo=hA.lo:=l3;obtain⟨x',c',e',_⟩:=(show Sl pI h3 v' _ from o3.sl)
 have fr:∀d,d<h.nx->(∀vs o,h.bl.get d≠some (aa vs 99 o))->h3.bl.get d=h.bl.get d:=λd hd ht=>by
  have e1:((hA.bl.aV hA.nx (aa [.int .i64 p.t,.int .i64 p.r,.int .i64 p.v,.bool p.is] 99 false))).get d=h.bl.get d:=(T.aj _ _ (by omega)).trans (aL.get d hd);exact(YO d (by show d<hA.nx+1;omega) (by show(T.aV _ _ _).get d≠_;rw[e1];exact ht _ _)).trans e1
 have T7:h3.bl.get lb=some (aa [v] 233 false):=by
  have e1:((hA.bl.aV hA.nx (aa [.int .i64 p.t,.int .i64 p.r,.int .i64 p.v,.bool p.is] 99 false))).get lb=_:=(T.aj _ _ (by omega)).trans gl;exact(YO lb (by show lb<hA.nx+1;omega) (by show(T.aV _ _ _).get lb≠_;rw[e1];exact bz (by decide))).trans e1
 have auS:=s.lt;have hb0:=s.b0;subst e';simp(disch:=try exact Y)only[Wz,aG,T7];refine hk _ ⟨⟨by show lb<h3.nx;omega,by show h3.lo<=lb;omega⟩,s.b0,⟨_,T.ah _ _ _,fC.put o3 (by rw[T7];exact bz (by decide)) _⟩,λq hq=>?_⟩ (λsm=>⟨by show h.nx<=h3.nx;omega,by show h3.lo=h.lo;omega,λd hd _ ht=>?_⟩) (λd vs o hd hg=>?_) (dg.set hb0 _)
 .rcases List.mem_append.1 hq with hq|hq
  .exact s.lv q hq
  .rw[List.mem_singleton]at hq;subst hq;exact lv
 .refine(T.aj _ _ ?_).trans (fr d hd λvs o=>ht vs _ o (.inr (.inr rfl)));rintro rfl;obtain⟨v0,g0,_⟩:=s.g;exact ht _ _ _ (.inr (.inl rfl)) g0
 .refine((T.aj _ _ ?_).trans (fr d hd λvs' o' e=>?_)).trans hg
  .rintro rfl;obtain⟨v0,g0,_⟩:=s.g;exact de hg g0 (by decide) rfl
  .rw[hg]at e;exact bz (by decide) e
theorem ajA:Cw prog 93:=⟨λh n c n' c'=>by kernel_rfl,λh a n c n' c'=>by kernel_rfl⟩
def zW:List Value:=[.int .i64 0,.int .i64 0,.int .i64 0,.bool false]
theorem aef(a0:Value)(h:Heap)(V:KQ):aM prog 146 [a0] h V=uv prog 93 99 4 zW a0 h V:=by kernel_rfl
theorem Ti(s:kX h0 h lb L)(hlo:h.lo<=h.nx)(hL:L.length<=1000)(V:KQ)(hk:∀v h',fC pI h 99 h' v L->Le h h'->V v h'):CallW prog 90 [pt lb] h V:=by
 obtain⟨v,gl,o⟩:=s.g;refine av mixed ?_;rw[agV];simp(disch:=try exact Y)only[Wz,Bg,aG,gl];refine Jj mixed wP CQ (by decide) (by decide) ajA aef L h v _ o.sl (by omega) hlo ?_;intro v' h' o' le';exact hk v' h' o' le'
theorem W5(s:kX h0 h lb L)(hlo:h.lo<=h.nx)(hL:L.length<=1000)(V:KQ)(hk:∀h',Le h h'->V (.int .i64 (L.length:Int)) h'):CallW prog 277 [pt lb] h V:=by
 refine av mixed ?_;rw[abl];refine Ti s hlo hL _ ?_;intro v h' o le;have hlen:=o.sl.len (β:=Prop) (fl:=False);simp(disch:=try exact Y)only[Wz,hlen];exact hk h' le
theorem MI(s:kX h0 h lb L)(tQ:Le h0 h)(hlo:h.lo<=h.nx)(hL:L.length<=1000)(V:KQ)(hk:∀h',kX h0 h' lb []->(∀sm,KR sm h h')->RKp h h'->Le h0 h'->V (.int .i64 (L.length:Int)) h'):CallW prog 197 [pt lb] h V:=by
 refine av mixed ?_;rw[aaO];refine W5 s hlo hL _ ?_;intro h1 bG;have s1:=s.le bG;obtain⟨v,gl,o⟩:=s1.g;have hlt:=s1.lt;have hb0:=s.b0;refine⟨λl' h'=>h'=⟨h1.nx,h1.bl.aV lb (aa [.slice none 0 0] 233 false),h1.lo⟩,?_,?_⟩
 .simp(disch:=try exact Y)only[Wz,F6,Tg,aG,gl]
 .rintro l' h' rfl;exact hk _ ⟨hlt,s.b0,⟨_,T.ah _ _ _,.inl ⟨rfl,.inl rfl⟩⟩,λp hp=>by cases hp⟩ (λsm=>(KR.le bG).trans (KR.put gl (.inr (.inl rfl)) _)) (λd vs o hd hg=>(T.aj _ _ (de gl ((bG.get d hd).trans hg) (by decide))).trans ((bG.get d hd).trans hg)) ((tQ.trans bG).set hb0 _)
end
structure sK where
 k:Int
 t:Int
 r:Int
 m:Int
 v:Int
 w:Int
def pJ(o:sK):List Value:=[.int .i64 o.k,.int .i64 o.t,.int .i64 o.r,.int .i64 o.m,.int .i64 o.v,.int .i64 o.w]
theorem encO_len(o:sK):(pJ o).length=6:=rfl
def jq(k:Int):Int:=if k=2\/k=3\/k=4\/k=5 then 2 else if k=6 then 1 else 0
theorem aeg:∀i:Nat,i<9->bE prog 200 195 [.int .i64 (i:Nat)] (.int .i64 (jq (i:Nat)))=true:=by decide +kernel
theorem aeh(k:Int)(hk:2<=k/\k<=8){h:Heap}{V:KQ}(hκ:V (.int .i64 (jq k)) h):CallW prog 195 [.int .i64 k] h V:=by
 obtain⟨i,rfl⟩:=Int.eq_ofNat_of_zero_le (show 0<=k by omega);exact rH mixed (aeg i (by omega)) hκ
theorem Kd(n lo hi:Int)(th:Bool){h:Heap}{V:KQ}(hκ:V (.bool (if th=true then decide (lo<=n) && decide (n<=hi)else decide (n=0))) h):CallW prog 196 [.int .i64 n,.int .i64 lo,.int .i64 hi,.bool th] h V:=by
 refine av mixed ?_;rw[aaN];cases th with
 |false=>
  rw[if_neg (by decide)]at hκ;simp(disch:=try exact Y)only[Wz];exact hκ
 |true=>
  rw[if_pos rfl]at hκ;by_cases h1:lo<=n
  .rw[br h1,Bool.true_and]at hκ;simp(disch:=try exact Y)only[Wz,zN,dL h1,JU];exact hκ
  .rw[aZ h1,Bool.false_and]at hκ;simp(disch:=try exact Y)only[Wz,zN,fV (show n<lo by omega)];exact hκ
def tM(o:sK):Prop:=0<=o.w/\bf o.t o.r=jq o.k
def OpG(o:sK):Prop:=bf o.t o.r=jq o.k/\o.m=0/\(if o.k=3\/o.k=4 then 0<=o.v/\o.v<=255 else o.v=0)/\(if 0<jq o.k then 0<=o.w/\o.w<=255 else o.w=0)
def OpH(o:sK)(nb vb wb:Bool):Prop:=nb=true/\o.m=0/\(if vb=true then 0<=o.v/\o.v<=255 else o.v=0)/\(if wb=true then 0<=o.w/\o.w<=255 else o.w=0)
theorem ajC(o:sK)(VI:2<=o.k/\o.k<=8){hA:Heap}{b1:Nat}(g1:hA.bl.get b1=some (aa (pJ o) 92 false))(nb vb wb:Bool)(hnb:nb=true->bf o.t o.r=jq o.k)(CA:List Value->Heap->Prop)(hN:∀l bad,slot l 27=.bool bad->(bad=false->tM o)->(OpH o nb vb wb->bad=false)->CA l hA):zH b1 CA (.bool nb) (.bool vb) (.bool wb) hA:=by
 unfold pJ at g1;have h9:¬o.k=9:=by omega
 simp(disch:=try exact Y)only[Wz,zH,g1,dL (show(1:Int)<=o.k by omega),dL (show o.k<=11 by omega)];cases nb with
 |false=>
  simp(disch:=try exact Y)only[Wz];exact hN _ true rfl (λe=>by cases e) λg=>absurd g.1 (by decide)
 |true=>
  simp(disch:=try exact Y)only[Wz,FH,g1,aZ h9];refine Kd _ _ _ false ?_;rw[if_neg (by decide)];by_cases hm:o.m=0
  .simp(disch:=try exact Y)only[Wz,br hm,FG,g1];refine Kd _ _ _ vb ?_;generalize hb:(if vb=true then decide ((0:Int)<=o.v) && decide (o.v<=255)else decide (o.v=0))=b;cases b with
   |false=>
    simp(disch:=try exact Y)only[Wz];exact hN _ true rfl (λe=>by cases e) λg=>by
     obtain⟨_,_,g3,_⟩:=g;cases vb with
     |true=>rw[if_pos rfl,Bool.and_eq_false_iff,decide_eq_false_iff_not,decide_eq_false_iff_not]at hb;rw[if_pos rfl]at g3;omega
     |false=>rw[if_neg (by decide),decide_eq_false_iff_not]at hb;rw[if_neg (by decide)]at g3;omega
   |true=>
    simp(disch:=try exact Y)only[Wz,g1];refine Kd _ _ _ wb ?_;generalize hc:(if wb=true then decide ((0:Int)<=o.w) && decide (o.w<=255)else decide (o.w=0))=c;cases c with
    |false=>
     simp(disch:=try exact Y)only[Wz];exact hN _ true rfl (λe=>by cases e) λg=>by
      obtain⟨_,_,_,g4⟩:=g;cases wb with
      |true=>rw[if_pos rfl,Bool.and_eq_false_iff,decide_eq_false_iff_not,decide_eq_false_iff_not]at hc;rw[if_pos rfl]at g4;omega
      |false=>rw[if_neg (by decide),decide_eq_false_iff_not]at hc;rw[if_neg (by decide)]at g4;omega
    |true=>
     simp(disch:=try exact Y)only[Wz];refine hN _ false rfl (λ_=>⟨?_,hnb rfl⟩) λ_=>rfl;cases wb with
     |true=>rw[if_pos rfl,Bool.and_eq_true,decide_eq_true_eq]at hc;exact hc.1
     |false=>rw[if_neg (by decide),decide_eq_true_eq]at hc;omega
  .simp(disch:=try exact Y)only[Wz,aZ hm];exact hN _ true rfl (λe=>by cases e) λg=>absurd g.2.1 hm
theorem ao9(o:sK)(VI:2<=o.k/\o.k<=8)(h:Heap)(hlo:h.lo<=h.nx)(V:KQ)(hk:∀e h',Le h h'->(e=0->tM o)->(OpG o->e=0)->V (.int .i64 e) h'):CallW prog 141 [.agg ⟨pJ o⟩] h V:=by
 refine av mixed ?_;rw[aaf];simp(disch:=try exact Y)only[Wz,pJ];obtain⟨hA,aT,aL,g1,dy,dz⟩:=kf h (aa [.int .i64 o.k,.int .i64 o.t,.int .i64 o.r,.int .i64 o.m,.int .i64 o.v,.int .i64 o.w] 92 false);rw[<-aT]
 try rw[show(h.bl.aV (h.nx) (aa [.int .i64 o.k,.int .i64 o.t,.int .i64 o.r,.int .i64 o.m,.int .i64 o.v,.int .i64 o.w] 92 false))=hA.bl by rw[aT]]
 clear aT;refine aeh o.k VI ?_;simp(disch:=try exact Y)only[Wz,g1];refine lR o.t o.r ?_;have hwk:jq o.k=0\/jq o.k=1\/jq o.k=2:=by unfold jq;split<;>(try split)<;>simp
 obtain⟨d3,e3⟩:∃d,decide (o.k=3)=d:=⟨_,rfl⟩
 obtain⟨d4,e4⟩:∃d,decide (o.k=4)=d:=⟨_,rfl⟩
 have h10:decide (o.k=10)=false:=aZ (by omega);have inn:=λ(nb vb wb:Bool)(hnb:nb=true->bf o.t o.r=jq o.k)(CA:List Value->Heap->Prop)=>ajC o VI (b1:=h.nx) g1 nb vb wb hnb CA;have gg:∀(nb vb wb:Bool),(bf o.t o.r=jq o.k->nb=true)->(vb=(d3 || d4))->(wb=decide (0<jq o.k))->OpG o->OpH o nb vb wb:=λnb vb wb n1 n2 n3 g=>by
  obtain⟨a1,a2,a3,a4⟩:=g;refine⟨n1 a1,a2,?_,?_⟩
  .rw[n2,<-e3,<-e4];by_cases c3:o.k=3
   .rw[if_pos (.inl c3)]at a3;rw[if_pos (by simp[c3])];exact a3
   .by_cases c4:o.k=4
    .rw[if_pos (.inr c4)]at a3;rw[if_pos (by simp[c4])];exact a3
    .rw[if_neg (λe=>e.elim c3 c4)]at a3;rw[if_neg (by simp[c3,c4])];exact a3
  .rw[n3];by_cases c:0<jq o.k
   .rw[if_pos c]at a4;rw[if_pos (decide_eq_true c)];exact a4
   .rw[if_neg c]at a4;rw[if_neg (by simp[c])];exact a4
 generalize hwv:jq o.k=want at hwk inn gg;rcases hwk with rfl|rfl|rfl<;>rcases pF o.t o.r with h1|h1|h1|h1<;>rw[h1]at inn gg ⊢<;>cases d3<;>cases d4
 all_goals simp(disch:=try exact Y)only[Wz,g1,e3,e4,h10]
 all_goals refine⟨λl' h'=>Le hA h'/\tM o,?_,λl' h' q=>hk 0 h' (aL.trans q.1) (λ_=>q.2) λ_=>rfl⟩
 all_goals refine⟨λl' h'=>∃bad,slot l' 27=.bool bad/\Le hA h'/\(bad=false->tM o)/\(OpG o->bad=false),?_,?_⟩
 all_goals first|(refine inn _ _ _ (by decide) _ λl bad e f g=>⟨bad,e,Le.refl _,f,λq=>g (gg _ _ _ (by decide) rfl rfl q)⟩)|skip
 all_goals (rintro l' h' ⟨bad,e27,le',f,g⟩;cases bad)
 all_goals simp(disch:=try exact Y)only[Wz,e27]
 all_goals first|exact⟨le',f rfl⟩|exact hk 2 h' (aL.trans le') (λe=>by cases e) λq=>absurd (g q) (by decide)
abbrev fBk:FuncId:=198
abbrev fBw:FuncId:=332
def YP(f:FuncId):Bool:=Nat.beq f fBk || Nat.beq f fBw
noncomputable abbrev rZ:ko Prop:=prK prog YP
noncomputable abbrev mY(n:Nat):Rec Prop:=run False rZ prog n
def cBk:Code:=wB prog fBk
def cBw:Code:=wB prog fBw
def q0:Code:=ja cBk
def qA:Code:=ja (jr cBk)
def q1:Code:=ja qA
def cnA:Code->Code | .cond _ a _=>a|c=>c
def cnB:Code->Code | .cond _ _ b=>b|c=>c
def qE:Code:=cnA (jr qA)
def qB:Code:=jr (jr cBk)
def q3:Code:=ja (ja qB)
def qF:Code:=JA (jr (ja qB))
def q4:Code:=rfA qF
def qG:Code:=JA (rfB qF)
def q5:Code:=ja qG
def q6:Code:=cnA (jr qG)
def q7:Code:=cnB (jr qG)
def q8:Code:=ja (jr qB)
theorem aej:cBk=.seq q0 (.seq (.seq q1 (.cond (.tmp 13) qE .skip)) (.seq (.seq q3 (.block 0 (.rangeFunc (.tmp 18) #[19,20] q4 (.block 1 (.seq q5 (.cond (.tmp 22) q6 q7)))))) (.seq q8 .ret))):=by kernel_rfl
def b0:Code:=ja cBw
def bL:Code:=JA (JA (jr cBw))
def b1:Code:=ja (ja bL)
def bM:Code:=JA (ja (jr bL))
def b2:Code:=ja bM
def b3:Code:=jr (jr bL)
theorem aek:cBw=.seq b0 (.block 0 (.loop (.seq (.seq b1 (.cond (.tmp 8) .skip (.exit 0))) (.seq (.block 1 (.seq b2 (.cond (.tmp 18) .ret .skip))) b3)))):=by kernel_rfl
variable (rec:Rec Prop)(tm:T Value)(h:Heap)
theorem rq0(V:Ex->T Value->Heap->Prop):body False rZ prog rec q0 tm h V=ev tm (.tmp 1) λs=>aH False (Value.cells s).toList 83 false λo=>ax False o h λb h=>T.set tm 3 (ptrTo b) λtm=>T.set tm 4 (.int .i64 0) λtm=>T.set tm 5 (.int .i64 0) λtm=>V .normal tm h:=by kernel_rfl
theorem rq4(V:Ex->T Value->Heap->Prop):body False rZ prog rec q4 tm h V=ax False (aa [.int .i64 0,.int .i64 0,.int .i64 0,.bool false] 99 false) h λb h=>T.set tm 7 (ptrTo b) λtm=>ev tm (.tmp 7) λa=>ev tm (.tmp 20) λv=>aI False 4 a v h λv h=>V .normal tm h:=by kernel_rfl
theorem rq5(V:Ex->T Value->Heap->Prop):body False rZ prog rec q5 tm h V=ev tm (.tmp 7) λx=>fieldAddrB False 3 x h λv h=>T.set tm 21 v λtm=>ev tm (.tmp 21) λx=>load1 False x h λv h=>T.set tm 22 v λtm=>V .normal tm h:=by kernel_rfl
theorem rb0(V:Ex->T Value->Heap->Prop):body False rZ prog rec b0 tm h V=ev tm (.tmp 1) λx=>load1 False x h λv h=>T.set tm 4 v λtm=>ev tm (.tmp 4) λx=>bJ False x h λv h=>T.set tm 5 v λtm=>ev tm (.tmp 5) λx=>ay False prog .sub 3 true false x (.int .i64 1) h λv h=>T.set tm 6 v λtm=>ev tm (.tmp 6) λv=>T.set tm 3 v λtm=>V .normal tm h:=by kernel_rfl
theorem rb1(V:Ex->T Value->Heap->Prop):body False rZ prog rec b1 tm h V=ev tm (.tmp 3) λx=>T.set tm 7 x λtm=>ev tm (.tmp 7) λx=>ay False prog .geq 3 true false x (.int .i64 0) h λv h=>T.set tm 8 v λtm=>V .normal tm h:=by kernel_rfl
theorem rb2(V:Ex->T Value->Heap->Prop):body False rZ prog rec b2 tm h V=ev tm (.tmp 0) λf=>T.set tm 11 f λtm=>ev tm (.tmp 3) λx=>T.set tm 12 x λtm=>ev tm (.tmp 1) λx=>load1 False x h λv h=>T.set tm 13 v λtm=>ev tm (.tmp 3) λx=>T.set tm 14 x λtm=>
  ev tm (.tmp 13) λs=>ev tm (.tmp 14) λi=>aK False 4 s i h λv h=>T.set tm 15 v λtm=>ev tm (.tmp 15) λx=>aF False 4 x h λv h=>T.set tm 16 v λtm=>ev tm (.tmp 12) λx=>ev tm (.tmp 16) λy=>ev tm (.tmp 11) λf=>sk False rZ prog rec f [x,y] h λv h=>T.set tm 17 v λtm=>ev tm (.tmp 17) λx=>jf False .not x h λv h=>T.set tm 18 v λtm=>V .normal tm h:=by kernel_rfl
theorem rb3(V:Ex->T Value->Heap->Prop):body False rZ prog rec b3 tm h V=ev tm (.tmp 3) λx=>T.set tm 9 x λtm=>ev tm (.tmp 9) λx=>ay False prog .sub 3 true false x (.int .i64 1) h λv h=>T.set tm 10 v λtm=>ev tm (.tmp 10) λv=>T.set tm 3 v λtm=>V .normal tm h:=by kernel_rfl
theorem rq3(V:Ex->T Value->Heap->Prop):body False rZ prog rec q3 tm h V=ev tm (.tmp 0) λx=>T.set tm 14 x λtm=>ev tm (.tmp 14) λx=>aN False x h λv h=>T.set tm 15 v λtm=>ev tm (.tmp 15) λx=>fieldAddrB False 0 x h λv h=>T.set tm 16 v λtm=>ev tm (.tmp 16) λx=>load1 False x h λv h=>T.set tm 17 v λtm=>ev tm (.tmp 17) λx=>CallW prog 278 [x] h λv h=>T.set tm 18 v λtm=>V .normal tm h:=by kernel_rfl
theorem rq8(V:Ex->T Value->Heap->Prop):body False rZ prog rec q8 tm h V=ev tm (.tmp 0) λx=>T.set tm 33 x λtm=>ev tm (.tmp 33) λx=>CallW prog 197 [x] h λv h=>T.set tm 34 v λtm=>ev tm (.tmp 34) λv=>T.set tm 4 v λtm=>T.set tm 5 (.int .i64 0) λtm=>V .normal tm h:=by kernel_rfl
theorem ael(x y:Value)(V:KQ):iA False rZ prog rec fBk [x,y] h V=rec cBk (lay [x,y] .nil 0) h (r5 False [.tmp 4,.tmp 5] V):=by kernel_rfl
theorem aem(y m:Value)(V:KQ):iA False rZ prog rec fBw [y,m] h V=rec cBw (lay [y,m] .nil 0) h (r5 False [] V):=by kernel_rfl
def gBb(b:Bool)(x y:Prop):Prop:=Bool.rec (motive:=λ_=>Prop) x y b
def gOb(g:Option (Nat × Bool))(d:Nat)(tm:T Value)(h:Heap)(f:(Value->Heap->Prop)->Prop)(K:T Value->Heap->Prop):Prop:=gBb (iB tm g) (T.set tm d undef λtm=>K tm h) (f λv h=>T.set tm d v λtm=>K tm h)
theorem rq1(V:Ex->T Value->Heap->Prop):body False rZ prog rec q1 tm h V=ev tm (.tmp 0) λx=>T.set tm 8 x λtm=>ev tm (.tmp 8) λx=>ay False prog .eql 165 true false x (.pointer none) h λv h=>T.set tm 9 v λtm=>ev tm (.tmp 9) λx=>T.set tm 10 x λtm=>
  gOb (some (10,false)) 11 tm h (λk=>ev tm (.tmp 3) λx=>load1 False x h k) λtm h=>gOb (some (10,false)) 12 tm h (λk=>ev tm (.tmp 11) λx=>ay False prog .eql 83 true false x (.pointer none) h k) λtm h=>
  ev tm (.tmp 10) λa=>ev tm (.tmp 12) λb=>aY False a (.bool true) b h λv h=>T.set tm 13 v λtm=>V .normal tm h:=by kernel_rfl
theorem rq6(V:Ex->T Value->Heap->Prop):body False rZ prog rec q6 tm h V =
  ev tm (.tmp 3) λx=>load1 False x h λv h=>T.set tm 23 v λtm=>ev tm (.tmp 7) λx=>fieldAddrB False 0 x h λv h=>T.set tm 24 v λtm=>ev tm (.tmp 24) λx=>aF False 2 x h λv h=>T.set tm 25 v λtm=>ev tm (.tmp 7) λx=>fieldAddrB False 2 x h λv h=>T.set tm 26 v λtm=>ev tm (.tmp 26) λx=>load1 False x h λv h=>T.set tm 27 v λtm=>
  ev tm (.tmp 25) λy=>ev tm (.tmp 27) λz=>ev tm (.tmp 23) λx=>CallW prog 43 [x,y,z] h λv h=>T.set tm 28 v λtm=>V .normal tm h:=by kernel_rfl
theorem rq7(V:Ex->T Value->Heap->Prop):body False rZ prog rec q7 tm h V =
  ev tm (.tmp 3) λx=>load1 False x h λv h=>T.set tm 29 v λtm=>ev tm (.tmp 7) λx=>fieldAddrB False 0 x h λv h=>T.set tm 30 v λtm=>ev tm (.tmp 30) λx=>aF False 2 x h λv h=>T.set tm 31 v λtm=>
  ev tm (.tmp 29) λx=>ev tm (.tmp 31) λy=>CallW prog 279 [x,y] h λv h=>T.set tm 32 v λtm=>V .normal tm h:=by kernel_rfl
theorem nQ{M:List HE}{ck:Nat}(o:dw M ck)(t r v:Int):eM M t r=some v<->∃e∈M,e.t=t/\e.r=r/\e.w=v:=by
 unfold eM;constructor
 .intro h;cases hf:M.find? (jX t r)with
  |none=>rw[hf]at h;cases h
  |some e=>
   rw[hf]at h;have h1:jX t r e=true:=List.find?_some hf;unfold jX at h1;rw[decide_eq_true_eq]at h1;exact⟨e,List.mem_of_find?_eq_some hf,h1.1.symm,h1.2.symm,Option.some.inj h⟩
 .rintro⟨e,he,rfl,rfl,rfl⟩;cases hf:M.find? (jX e.t e.r)with
  |none=>
   have:=List.find?_eq_none.1 hf e he;unfold jX at this;simp at this
  |some e'=>
   have h1:jX e.t e.r e'=true:=List.find?_some hf;unfold jX at h1;rw[decide_eq_true_eq]at h1;have:=o.uniq he (List.mem_of_find?_eq_some hf) h1.1 h1.2;rw[<-this];rfl
def Bh(f:Int->Int->Option Int)(t r:Int)(v:Option Int):Int->Int->Option Int:=λa b=>if a=t/\b=r then v else f a b
theorem MJ{a b:Option Int}(h:∀v,a=some v<->b=some v):a=b:=by
 cases a with
 |none=>
  cases b with
  |none=>rfl
  |some x=>exact absurd ((h x).2 rfl) (by simp)
 |some x=>exact((h x).1 rfl).symm
theorem ML{M M':List HE}{ck gF b:Nat}{t r v:Int}(o:dw M ck)(o':dw M' gF)(hp:M'.Perm (M.filter (λx=>!jX t r x)++[zE t r v b])):eM M'=Bh (eM M) t r (some v):=by
 funext x y;refine MJ λu=>?_;rw[nQ o'];unfold Bh;constructor
 .rintro⟨e,he,rfl,rfl,rfl⟩;rcases List.mem_append.1 (hp.mem_iff.1 he)with h|h
  .rw[List.mem_filter]at h;have:=lu.1 h.2;rw[if_neg (λe=>this ⟨e.1.symm,e.2.symm⟩),nQ o];exact⟨e,h.1,rfl,rfl,rfl⟩
  .rw[List.mem_singleton]at h;subst h;rw[if_pos ⟨rfl,rfl⟩];rfl
 .intro h;by_cases e:x=t/\y=r
  .rw[if_pos e]at h;cases h;exact⟨_,hp.mem_iff.2 (List.mem_append_right _ (List.mem_singleton.2 rfl)),e.1.symm,e.2.symm,rfl⟩
  .rw[if_neg e,nQ o]at h;obtain⟨e',he,rfl,rfl,rfl⟩:=h;exact⟨e',hp.mem_iff.2 (List.mem_append_left _ (List.mem_filter.2 ⟨he,lu.2 λh=>e ⟨h.1.symm,h.2.symm⟩⟩)),rfl,rfl,rfl⟩
theorem MM{M:List HE}{ck:Nat}{t r:Int}(o:dw M ck):eM (M.filter λx=>!jX t r x)=Bh (eM M) t r none:=by
 funext x y;refine MJ λu=>?_;rw[nQ (o.filter _)];unfold Bh;constructor
 .rintro⟨e,he,rfl,rfl,rfl⟩;rw[List.mem_filter]at he;have:=lu.1 he.2;rw[if_neg (λe=>this ⟨e.1.symm,e.2.symm⟩),nQ o];exact⟨e,he.1,rfl,rfl,rfl⟩
 .intro h;by_cases e:x=t/\y=r
  .rw[if_pos e]at h;cases h
  .rw[if_neg e,nQ o]at h;obtain⟨e',he,rfl,rfl,rfl⟩:=h;exact⟨e',List.mem_filter.2 ⟨he,lu.2 λh=>e ⟨h.1.symm,h.2.symm⟩⟩,rfl,rfl,rfl⟩
def xF(L:List W4)(f:Int->Int->Option Int):Int->Int->Option Int:=L.foldr (λp g=>Bh g p.t p.r (if p.is=true then some p.v else none)) f
theorem Ke{L:List W4}{k:Nat}{p:W4}(hp:L[k]? = some p)(f:Int->Int->Option Int):xF (L.drop k) f=Bh (xF (L.drop (k+1)) f) p.t p.r (if p.is=true then some p.v else none):=by
 obtain⟨hl,rfl⟩:=List.getElem?_eq_some_iff.1 hp;rw[List.drop_eq_getElem_cons hl];rfl
section
variable (n:Nat)(a b:Code)(tm:T Value)(h:Heap)(V:Ex->T Value->Heap->Prop)
theorem Bi:mY (n+1) (.seq a b) tm h V=mY n a tm h (oC (mY n) b V):=id rfl
theorem D9(t:Nat):mY (n+1) (.cond (.tmp t) a b) tm h V=oD False (mY n) a b tm h V (cL tm t):=e_ tm (.tmp t) (oD False (mY n) a b tm h V)
theorem yu(i:Nat):mY (n+1) (.block i a) tm h V=mY n a tm h (iW i V):=id rfl
theorem Tj:mY (n+1) (.loop a) tm h V=mY n a tm h (oC (mY n) (.loop a) V):=id rfl
theorem aen(i:Nat):mY (n+1) (.exit i) tm h V=V (.exit i) tm h:=id rfl
theorem ajF:mY (n+1) .ret tm h V=V .ret tm h:=id rfl
theorem D_:mY (n+1) .skip tm h V=V .normal tm h:=id rfl
theorem apb(t:Nat)(ps:Array Tmp):mY (n+1) (.rangeFunc (.tmp t) ps a b) tm h V=dN False rZ prog (mY n) ps.toList a b tm h V (cL tm t):=e_ tm (.tmp t) (dN False rZ prog (mY n) ps.toList a b tm h V)
theorem apc:mY (n+1) q0 tm h V=body False rZ prog (mY n) q0 tm h V:=id rfl
theorem apd:mY (n+1) q1 tm h V=body False rZ prog (mY n) q1 tm h V:=id rfl
theorem ape:mY (n+1) q3 tm h V=body False rZ prog (mY n) q3 tm h V:=id rfl
theorem apf:mY (n+1) q4 tm h V=body False rZ prog (mY n) q4 tm h V:=id rfl
theorem apg:mY (n+1) q5 tm h V=body False rZ prog (mY n) q5 tm h V:=id rfl
theorem aph:mY (n+1) q6 tm h V=body False rZ prog (mY n) q6 tm h V:=id rfl
theorem api:mY (n+1) q7 tm h V=body False rZ prog (mY n) q7 tm h V:=id rfl
theorem apj:mY (n+1) q8 tm h V=body False rZ prog (mY n) q8 tm h V:=id rfl
theorem apk:mY (n+1) b0 tm h V=body False rZ prog (mY n) b0 tm h V:=id rfl
theorem ajG:mY (n+1) b1 tm h V=body False rZ prog (mY n) b1 tm h V:=id rfl
theorem apl:mY (n+1) b2 tm h V=body False rZ prog (mY n) b2 tm h V:=id rfl
theorem ajH:mY (n+1) b3 tm h V=body False rZ prog (mY n) b3 tm h V:=id rfl
end
noncomputable abbrev MN:Code:=.block 1 (.seq q5 (.cond (.tmp 22) q6 q7))
noncomputable abbrev YQ:Code:=.seq (.seq b1 (.cond (.tmp 8) .skip (.exit 0))) (.seq (.block 1 (.seq b2 (.cond (.tmp 18) .ret .skip))) b3)
noncomputable abbrev qh(st:LoopState)(eZ:T Value):bD:=.loop st none eZ [19,20] q4 MN
theorem W6(rec:Rec Prop)(l:Nat)(x y:Value)(h:Heap)(V:KQ):sk False rZ prog rec (.func (.yield l) #[] #[]) [x,y] h V=kR False rec l [x,y] h V:=id rfl
theorem OI{rec:Rec Prop}{l:Nat}{x y:Value}{h:Heap}{V:KQ}{st:LoopState}{eZ:T Value}(hl:h.bl.get l=some (qh st eZ)):kR False rec l [x,y] h V=rec q4 ((eZ.aV 19 x).aV 20 y) h (dI False rec l MN V):=by
 unfold kR;simp only[hl,List.length_cons,List.length_nil]
 show nj [19,20] [x,y] eZ _=_
 unfold nj;rw[T.cg];unfold nj;rw[T.cg];unfold nj;rfl
theorem OJ{rec:Rec Prop}{l:Nat}{bd:Code}{tm:T Value}{h:Heap}{V:KQ}{eZ:T Value}(hl:h.bl.get l=some (qh .ready eZ))(hlo:h.lo<=l):dI False rec l bd V .normal tm h=rec bd tm ⟨h.nx,h.bl.aV l (qh .busy eZ),h.lo⟩ (fO False l V):=by
 unfold dI;simp only[hl,bB _ _ _ _ hlo]
theorem MO{l:Nat}{tm:T Value}{h:Heap}{V:KQ}{st:LoopState}{eZ:T Value}(hl:h.bl.get l=some (qh st eZ))(hlo:h.lo<=l):fO False l V .normal tm h=V (.bool true) ⟨h.nx,h.bl.aV l (qh .ready eZ),h.lo⟩:=by
 unfold fO;simp only[hl,bB _ _ _ _ hlo]
theorem OK{l:Nat}{tm eZ:T Value}{v:Value}{h:Heap}{V:Ex->T Value->Heap->Prop}(hl:h.bl.get l=some (qh .ready eZ))(hlo:h.lo<=l):∃o,dG False l tm V v h=V .normal tm ⟨h.nx,h.bl.aV l o,h.lo⟩:=by
 refine⟨.loop .exhausted none eZ [19,20] q4 MN,?_⟩;unfold dG;simp only[hl,bB _ _ _ _ hlo]
theorem rfB(rec:Rec Prop)(ps:List Nat)(x y:Code)(tm:T Value)(h:Heap)(V:Ex->T Value->Heap->Prop)(c:Value):dN False rZ prog rec ps x y tm h V (.func (.func fBw) #[] #[c])=iA False rZ prog rec fBw [.func (.yield h.nx) #[] #[],c] ⟨h.nx+1,h.bl.aV h.nx (.loop .ready none tm ps x y),h.lo⟩ (dG False h.nx tm V):=di (fl:=False) (.loop .ready none tm ps x y) h (λl h=>iA False rZ prog rec fBw [.func (.yield l) #[] #[],c] h (dG False l tm V))
theorem aeo(tm:T Value)(h:Heap)(V:KQ):r5 False [.tmp 4,.tmp 5] V .ret tm h=V (.tuple ⟨[cL tm 4,cL tm 5]⟩) h:=by
 show OY tm [.tmp 4,.tmp 5] _=_
 unfold OY;rw[fT];unfold OY;rw[fT];rfl
structure BI(a:Heap)(sb sm c:Nat)(L:List W4)(M:List HE)(eZ:T Value)(k:Nat)(tm:T Value)(h1:Heap):Prop where
 nx:a.nx+1<=h1.nx
 lo:h1.lo=a.lo
 fr:∀d,d<a.nx->d≠sm->h1.bl.get d=a.bl.get d
 gl:h1.bl.get a.nx=some (qh .ready eZ)
 st:∃M' gF,ic h1 sb sm M' gF/\eM M'=xF (L.drop k) (eM M)/\M'.length<=M.length+(L.length-k)
 t0:cL tm 0=.func (.yield a.nx) #[] #[]
 t1:cL tm 1=.pointer (some ⟨c,0,none⟩)
 t3:cL tm 3=.int .i64 ((k:Int)-1)
theorem OL(j:Nat){h0 a:Heap}{sb sm c x3:Nat}{v:Value}{L:List W4}{M:List HE}{eZ:T Value}{es:List MapEntry}{cl:Nat}(gm:a.bl.get sm=some (.map es cl))(um:sm<a.nx)(hsb:sb<a.nx)(gc:a.bl.get c=some (aa [v] 93 false))(hc:c<a.nx)(ov:fC pI h0 99 a v L)(gx:a.bl.get x3=some (aa [pt sb] 83 false))(hx3:x3<a.nx)(h3:cL eZ 3=ptrTo x3)(lv:∀p∈L,bf p.t p.r=2)(hL:L.length<=1000)(hlo:a.lo<=a.nx)(V:Ex->T Value->Heap->Prop)(hk:∀tm h1,BI a sb sm c L M eZ 0 tm h1->∀cQ,V (.exit 0) cQ h1):∀(k:Nat)(tm:T Value)(h1:Heap),k<=L.length->BI a sb sm c L M eZ k tm h1->mY (k+j+13) (.loop YQ) tm h1 V:=by
 intro k
 induction k with
 |zero=>
  intro tm h1 nZ I;have e3:=I.t3;have e3:cL tm 3=.int .i64 (-1):=e3;rw[show 0+j+13=j+12+1 from by omega,Tj];simp(disch:=try exact Y)only[Wz,Bi,ajG,rb1,fT,T.cg,cw,dV,r9,VK,e3,D9,JB,aen];exact hk tm h1 I _
 |succ k ih=>
  intro tm h1 dB I;have e3:cL tm 3=.int .i64 (k:Int):=by rw[I.t3];congr 1;omega
  obtain⟨p,hp⟩:∃p,L[k]? = some p:=⟨_,List.getElem?_eq_getElem (by omega)⟩
  have hpL:=List.mem_of_getElem? hp;have n1:=I.nx;have l1:=I.lo;have o1:=ov.keep (h':=h1) (by omega) l1 λb vs hb hg=>I.fr b hb (dh hg gm);obtain⟨b,o,hb,hx,hr,hh⟩:=o1.sl.ld wP k hp;have yp:=(I.fr c hc (dh gc gm)).trans gc;have gx1:=(I.fr x3 hx3 (dh gx gm)).trans gx;have Yl:=I.gl;rw[show k+1+j+13=k+j+13+1 from by omega,Tj];simp(disch:=try exact Y)only[Wz,Bi,ajG,rb1,fT,T.cg,cw,dV,r9,VK,VL,BS,e3,D9,acL,D_,yu,apl,rb2,I.t0,I.t1,yp,hx,hr,pI,W6,OI Yl,apf,rq4];obtain⟨hA,aT,aL,gw,dy,dz⟩:=kf h1 (aa [.int .i64 p.t,.int .i64 p.r,.int .i64 p.v,.bool p.is] 99 false);rw[<-aT]
  try rw[show(h1.bl.aV (h1.nx) (aa [.int .i64 p.t,.int .i64 p.r,.int .i64 p.v,.bool p.is] 99 false))=hA.bl by rw[aT]]
  clear aT;have glA:=(aL.get a.nx (by omega)).trans Yl;rw[OJ glA (by omega)];obtain⟨M1,Uc,st1,lk1,ln1⟩:=I.st;obtain⟨hB,eB⟩:∃hB:Heap,hB=⟨hA.nx,hA.bl.aV a.nx (qh .busy eZ),hA.lo⟩:=⟨_,rfl⟩
  have nB:hB.nx=hA.nx:=by rw[eB]
  have lB:hB.lo=hA.lo:=by rw[eB]
  have glB:hB.bl.get a.nx=some (qh .busy eZ):=by rw[eB];exact T.ah _ _ _
  have frB:∀d,d≠a.nx->hB.bl.get d=hA.bl.get d:=λd hd=>by rw[eB];exact T.aj _ _ λe=>hd e.symm
  rw[<-eB];clear eB;have gwB:=(frB h1.nx (by omega)).trans gw;have gxB:=(frB x3 (by omega)).trans ((aL.get x3 (by omega)).trans gx1);have sA:=st1.le aL;have stB:ic hB sb sm M1 Uc:=⟨by rw[nB,lB];exact sA.tE,(frB sb (by omega)).trans sA.gb,by rw[nB,lB];exact sA.kO,(frB sm (by omega)).trans sA.gm,sA.ok⟩
  have B9:∀d,d<a.nx->d≠sm->hB.bl.get d=a.bl.get d:=λd hd hn=>(frB d (by omega)).trans ((aL.get d (by omega)).trans (I.fr d hd hn));have Tk:hB.lo<=hB.nx:=by omega
  have fin:∀h2 M2 Tl,ic h2 sb sm M2 Tl->eM M2=Bh (eM M1) p.t p.r (if p.is=true then some p.v else none)->M2.length<=M1.length+1->MK sm hB h2->∀cQ,cL cQ 0=cL tm 0->cL cQ 1=cL tm 1->cL cQ 3=.int .i64 ((k:Int)-1)->mY (k+j+13) (.loop YQ) cQ ⟨h2.nx,h2.bl.aV a.nx (qh .ready eZ),h2.lo⟩ V:=λh2 M2 Tl s2 l2 m2 k2 cQ t0 t1 t3=>by
   have n2:=k2.nx;have YC:=k2.lo;refine ih _ _ (by omega) ⟨by show a.nx+1<=h2.nx;omega,by show h2.lo=a.lo;omega,λd hd hn=>(T.aj _ _ (by omega)).trans ((k2.get d (by omega) hn).trans (B9 d hd hn)),T.ah _ _ _,⟨M2,Tl,⟨s2.tE,(T.aj _ _ (by omega)).trans s2.gb,s2.kO,(T.aj _ _ (by omega)).trans s2.gm,s2.ok⟩,?_,by omega⟩,t0.trans I.t0,t1.trans I.t1,t3⟩;rw[l2,lk1,<-Ke hp]
  have hlen:=λ(q:HE->Bool)=>List.length_filter_le q M1;simp(disch:=try exact Y)only[Wz,yu,Bi,apg,rq5,fT,T.cg,cw,dV,gwB,r9,D9];cases IG:p.is with
  |true=>
   rw[IG]at fin gwB;simp(disch:=try exact Y)only[Wz,acL,aph,rq6,fT,T.cg,cw,dV,h3,gxB,gwB];refine MB stB Tk (lv p hpL) p.v _ ?_;intro h2 M2 Tl born s2 hp2 k2;have gl2:=(k2.get a.nx (by omega) (by omega)).trans glB;have YC:=k2.lo;simp(disch:=try exact Y)only[Wz,BS,T.cg];rw[MO gl2 (by omega)];simp(disch:=try exact Y)only[Wz,JB,D_,BS,r9,ajH,rb3,fT,T.cg,cw,dV,e3];refine fin h2 M2 Tl s2 (ML stB.ok s2.ok hp2) ?_ k2 _ ?_ ?_ ?_
   .have:=hp2.length_eq;rw[List.length_append,List.length_singleton]at this;have:=hlen (λx=>!jX p.t p.r x);omega
   .simp (disch:=decide) only [dV]
   .simp (disch:=decide) only [dV]
   .simp (disch:=decide) only [dV,cw]
  |false=>
   rw[IG]at fin gwB;simp(disch:=try exact Y)only[Wz,JB,api,rq7,fT,T.cg,cw,dV,h3,gxB,gwB];refine MC stB Tk (lv p hpL) _ ?_;intro h2 s2 k2;have gl2:=(k2.get a.nx (by omega) (by omega)).trans glB;have YC:=k2.lo;simp(disch:=try exact Y)only[Wz,BS,T.cg];rw[MO gl2 (by omega)];simp(disch:=try exact Y)only[Wz,JB,D_,BS,r9,ajH,rb3,fT,T.cg,cw,dV,e3];refine fin h2 _ _ s2 (MM stB.ok) ?_ k2 _ ?_ ?_ ?_
   .have:=hlen (λx=>!jX p.t p.r x);omega
   .simp (disch:=decide) only [dV]
   .simp (disch:=decide) only [dV]
   .simp (disch:=decide) only [dV,cw]
def wBb(v:Value)(w:Bool):Bool:=match v,w with | .bool true,true=>true | .bool false,false=>true|_,_=>false
theorem aeq(tm:T Value)(s:Nat)(w:Bool):iB tm (some (s,w))=wBb (cL tm s) w:=by kernel_rfl
theorem ajK(x y:Prop):gBb true x y=y:=id rfl
theorem aer:wBb (.bool false) false=true:=id rfl
@[congr] theorem afl{b b':Bool}{x y:Prop}(e:b=b'):gBb b x y=gBb b' x y:=by rw[e]
@[congr] theorem afm{g:Option (Nat × Bool)}{d:Nat}{tm:T Value}{h:Heap}{f:(Value→Heap→Prop)→Prop}{K:T Value→Heap→Prop}:gOb g d tm h f K=gOb g d tm h f K:=rfl
theorem aes(s:Nat)(w:Bool)(d:Nat)(tm:T Value)(h:Heap)(f:(Value->Heap->Prop)->Prop)(K:T Value->Heap->Prop):gOb (some (s,w)) d tm h f K=gBb (wBb (cL tm s) w) (T.set tm d undef λtm=>K tm h) (f λv h=>T.set tm d v λtm=>K tm h):=by
 unfold gOb;rw[aeq]
theorem Tm{h0 a:Heap}{lb sb sm c x3 ck:Nat}{L:List W4}{M:List HE}{v:Value}(s:kX h0 a lb L)(st:ic a sb sm M ck)(tQ:Le h0 a)(hs0:h0.nx<=sm)(gc:a.bl.get c=some (aa [v] 93 false))(hc:c<a.nx)(ov:fC pI h0 99 a v L)(gx:a.bl.get x3=some (aa [pt sb] 83 false))(hx3:x3<a.nx)(hlo:a.lo<=a.nx)(hL:L.length<=1000)(tm:T Value)(t0:cL tm 0=pt lb)(t3:cL tm 3=ptrTo x3)(t18:cL tm 18=.func (.func fBw) #[] #[.pointer (some ⟨c,0,none⟩)])(V:KQ)(hk:∀h' M' gF,kX h0 h' lb []->ic h' sb sm M' gF->eM M'=xF L (eM M)->M'.length<=M.length+L.length->KR sm a h'->RKp a h'->Le h0 h'->V (.tuple ⟨[.int .i64 (L.length:Int),.int .i64 0]⟩) h'):mY (L.length+56) (.block 0 (.rangeFunc (.tmp 18) #[19,20] q4 MN)) tm a (oC (mY (L.length+57)) (q8.seq .ret) (r5 False [sO.tmp 4,sO.tmp 5] V)):=by
 simp(disch:=try exact Y)only[Wz,yu,apb,t18,rfB];rw[aem,aek,VM];obtain⟨hL1,Tn,Kf,gl,ari,arj⟩:=kf a (qh .ready tm);rw[<-Tn]
 try rw[show(a.bl.aV (a.nx) (qh .ready tm))=hL1.bl by rw[Tn]]
 clear Tn;have gcL:=(Kf.get c hc).trans gc;have hlen:=ov.sl.len (β:=Prop) (fl:=False);simp(disch:=try exact Y)only[Wz,Bi,apk,rb0,T.cg,fT,cw,dV,r9,gcL,hlen,yu];refine OL 39 st.gm st.kO.1 st.tE.1 gc hc ov gx hx3 t3 s.lv hL hlo _ ?_ L.length _ _ (Nat.le_refl _) ⟨by omega,by omega,λd hd _=>Kf.get d hd,gl,⟨M,ck,st.le Kf,by rw[List.drop_length];rfl,by omega⟩,?_,?_,?_⟩
 .intro tm1 h1 I cQ;obtain⟨M',gF,s1,lk1,ln1⟩:=I.st;have n1:=I.nx;have l1:=I.lo;obtain⟨ob,ea⟩:=OK (tm:=tm) (v:=.tuple ⟨[]⟩) (V:=iW 0 (oC (mY (L.length+57)) (q8.seq Code.ret) (r5 False [sO.tmp 4,sO.tmp 5] V))) I.gl (by omega);rw[RM,NA,ea];obtain⟨h2,e2⟩:∃h2:Heap,h2=⟨h1.nx,h1.bl.aV a.nx ob,h1.lo⟩:=⟨_,rfl⟩
  have n2:h2.nx=h1.nx:=by rw[e2]
  have l2:h2.lo=h1.lo:=by rw[e2]
  have f2:∀d,d≠a.nx->h2.bl.get d=h1.bl.get d:=λd hd=>by rw[e2];exact T.aj _ _ λe=>hd e.symm
  rw[<-e2];clear e2;have tE:=st.tE;have kO:=st.kO;have mk2:MK sm a h2:=⟨by omega,by omega,λd hd hn=>(f2 d (by omega)).trans (I.fr d hd hn)⟩
  have s2:=s.mks mk2 st.gm;have st2:ic h2 sb sm M' gF:=⟨by rw[n2,l2];exact s1.tE,(f2 sb (by omega)).trans s1.gb,by rw[n2,l2];exact s1.kO,(f2 sm (by omega)).trans s1.gm,s1.ok⟩
  have bt:Le h0 h2:=⟨by have:=tQ.nx;omega,by have:=tQ.lo;omega,λd hd=>(mk2.get d (by have:=tQ.nx;omega) (by omega)).trans (tQ.get d hd)⟩
  simp(disch:=try exact Y)only[Wz,BS,r9,Bi,apj,rq8,T.cg,fT,cw,dV,t0];refine MI s2 bt (by omega) hL _ ?_;intro h3 s3 k3 rk3 dg;simp(disch:=try exact Y)only[Wz,r9,ajF,VL,aeo,cw,dV];refine hk h3 M' gF s3 ⟨⟨Nat.lt_of_lt_of_le st2.tE.1 (k3 sm).nx,by rw[(k3 sm).lo];exact st2.tE.2⟩,?_,⟨Nat.lt_of_lt_of_le st2.kO.1 (k3 sm).nx,by rw[(k3 sm).lo];exact st2.kO.2⟩,?_,st2.ok⟩ lk1 (by omega) (mk2.kr.trans (k3 sm)) (λd vs o hd hg=>rk3 d vs o (by omega) (mk2.cell st.gm hd hg)) dg
  .exact(k3 sm).cell st2.gm st2.tE.1 st2.gb (by unfold rY;decide)
  .refine((k3 sb).get sm st2.kO.1 (λe=>dh st2.gb st2.gm e.symm) λvs t o _ e=>?_).trans st2.gm;rw[st2.gm]at e;exact bQ e
 .simp (disch:=decide) only [dV,cw]
 .simp (disch:=decide) only [dV,cw]
 .simp (disch:=decide) only [dV,cw]
theorem aet{h0 h:Heap}{lb sb sm ck:Nat}{L:List W4}{M:List HE}(s:kX h0 h lb L)(st:ic h sb sm M ck)(tQ:Le h0 h)(hs0:h0.nx<=sm)(hlo:h.lo<=h.nx)(hL:L.length<=1000)(V:KQ)(hk:∀h' M' gF,kX h0 h' lb []->ic h' sb sm M' gF->eM M'=xF L (eM M)->M'.length<=M.length+L.length->KR sm h h'->RKp h h'->Le h0 h'->V (.tuple ⟨[.int .i64 (L.length:Int),.int .i64 0]⟩) h'):CallW prog 198 [pt lb,pt sb] h V:=by
 obtain⟨v,gl,ov⟩:=s.g;have hlt:=s.lt;obtain⟨vx,vc,ev,_⟩:=(show Sl pI h v L from ov.sl)
 subst ev;refine wA mixed (skip:=YP) (L.length+60) ?_;rw[ael,aej,VM];simp(disch:=try exact Y)only[Wz,Bi,apc,rq0,T.cg,fT,cw,dV,r9];obtain⟨hX,aeu,YR,gx,au_,ava⟩:=kf h (aa [.pointer (some ⟨sb,0,none⟩)] 83 false);rw[<-aeu]
 try rw[show(h.bl.aV (h.nx) (aa [.pointer (some ⟨sb,0,none⟩)] 83 false))=hX.bl by rw[aeu]]
 clear aeu;have glX:=(YR.get _ hlt.1).trans gl;simp(disch:=try exact Y)only[Wz,Bi,apd,rq1,T.cg,fT,cw,dV,r9,Bg,↓aes,aer,ajK,gx,rz,D9,JB,D_,ape,rq3,aG,glX];refine av mixed ?_;rw[abm];simp(disch:=try exact Y)only[Wz];obtain⟨hC,aev,MP,gc,avc,avd⟩:=kf hX (aa [.slice vx L.length vc] 93 false);rw[<-aev]
 try rw[show(hX.bl.aV (hX.nx) (aa [.slice vx L.length vc] 93 false))=hC.bl by rw[aev]]
 clear aev;have alc:=MP.nx;have ald:=MP.lo;have gx:=MP.up gx;have ND:=YR.trans MP;refine Tm (s.le ND) (st.le ND) (tQ.trans ND) hs0 gc (by omega) (ov.le ND) gx (by omega) (by omega) hL _ ?_ ?_ ?_ V λh' M' gF a1 a2 a3 a4 a5 rk a6=>hk h' M' gF a1 a2 a3 a4 ((KR.le ND).trans a5) (λd vs o hd hg=>rk d vs o (Nat.lt_of_lt_of_le hd ND.nx) ((ND.get d hd).trans hg)) a6
 .simp (disch:=decide) only [dV,cw]
 .simp (disch:=decide) only [dV,cw];rfl
 .simp (disch:=decide) only [dV,cw]
structure OM(E:EN)(sm:Nat)(Q:(Heap->Prop)->Nat->Heap->Prop)(P:(Heap->Prop)->Nat->Int->Heap->Prop):Prop where
 ready:∀Z i h (V:KQ),Q Z i h->V (.bool true) h->CallW prog 137 [pt E.z.ab] h V
 step:∀(Z:Heap->Prop),(∀{h h':Heap},Z h->FK E.a h h'->Z h')->∀i h (V:KQ),Q Z i h->(∀h',Q Z (i+1) h'->V (.tuple ⟨[.bool false,.int .i64 0,.int .i64 0]⟩) h')->(∀code h',P Z i code h'->V (.tuple ⟨[.bool true,.int .i64 code,.int .i64 0]⟩) h')->CallW prog 74 [pt E.z.ab] h V
 kr:∀Z Z' i h h' es cl,Q Z i h->KR sm h h'->h.bl.get sm=some (.map es cl)->sm∉E.a.ms->Z' h'->Q Z' i h'
 z:∀Z i h,Q Z i h->Z h
 lo:∀Z i h,Q Z i h->h.lo<=h.nx
 le:∀Z i h,Q Z i h->1<=i
 pu:∀Z Z' i h x vs t o ob,Q Z i h->h.bl.get x=some (aa vs t o)->¬lZ t o->¬jO t o->¬D4 t->Z' ⟨h.nx,h.bl.aV x ob,h.lo⟩->Q Z' i ⟨h.nx,h.bl.aV x ob,h.lo⟩
 pz:∀Z i c h,P Z i c h->Z h
 pkr:∀Z Z' i c h h' es cl,P Z i c h->KR sm h h'->h.bl.get sm=some (.map es cl)->sm∉E.a.ms->Z' h'->P Z' i c h'
 ppu:∀Z Z' i c h x vs t o ob,P Z i c h->h.bl.get x=some (aa vs t o)->¬lZ t o->¬jO t o->¬D4 t->Z' ⟨h.nx,h.bl.aV x ob,h.lo⟩->P Z' i c ⟨h.nx,h.bl.aV x ob,h.lo⟩
theorem jd.ve{z:AA}{D:AD}{cp:Option Nat}{h:Heap}(s:jd h z D cp){x:Nat}{vs:List Value}{t:TypeId}{o:Bool}(hg:h.bl.get x=some (aa vs t o))(ha:¬D4 t)(ob:bD):jd ⟨h.nx,h.bl.aV x ob,h.lo⟩ z D cp:=
 s.ka ⟨Nat.le_refl _,rfl,λd vs' t' o' _ hgd ht=>T.aj _ _ (by rintro rfl;rw[hg]at hgd;obtain⟨rfl,rfl⟩:=gf hgd;exact ha ht)⟩
theorem AI.ve{E:EN}{H X:Int->Int->Int}{N:Nat}{D:AD}{h:Heap}(s:AI h E H X N D){x:Nat}{vs:List Value}{t:TypeId}{o:Bool}(hg:h.bl.get x=some (aa vs t o))(ht:¬lZ t o)(hr:¬jO t o)(ha:¬D4 t)(ob:bD):AI ⟨h.nx,h.bl.aV x ob,h.lo⟩ E H X N D:=
 ⟨λy out=>(s.w y out).put hg ht hr ob,s.g.ve hg ha ob,s.wb,s.th⟩
theorem AW.ve{E:EN}{H X:Int->Int->Int}{N n:Nat}{y:iz}{out:Int}{D:AD}{kb:Nat}{c:CD}{h:Heap}(s:AW h E H X N n y out D kb c){x:Nat}{vs:List Value}{t:TypeId}{o:Bool}(hg:h.bl.get x=some (aa vs t o))(ht:¬lZ t o)(hr:¬jO t o)(ha:¬D4 t)(ob:bD):AW ⟨h.nx,h.bl.aV x ob,h.lo⟩ E H X N n y out D kb c:=
 ⟨s.w.put hg ht hr ob,s.g.ve hg ha ob,s.c.ka ⟨Nat.le_refl _,rfl,λd vs' t' o' _ hgd ht=>T.aj _ _ (by rintro rfl;rw[hg]at hgd;obtain⟨rfl,rfl⟩:=gf hgd;exact ha ht)⟩,s.wb,s.th⟩
section
variable {E:EN}{sm:Nat}{x:Int}{N:Nat}{asked has:List L4}{t r m w:Int}{J:Nat->List L4->List N3->Prop}{F:Nat->List L4->Prop}
structure apq(E:EN)(Z:Heap->Prop)(x:Int)(asked:List L4)(t r m:Int)(N0:Nat)(F:Nat->List L4->Prop)(h:Heap):Prop where
 ex:∃(has:List L4)(N kb:Nat)(y:iz)(out:Int)(c:CD),AW h E (aO has) (λ_ _=>x) N 0 y out ⟨x,cM asked ⟨x,t,r,bN (aO asked t r) m⟩,has,[]⟩ kb c/\c.ask.k=0/\c.code=1/\F 1 has/\3*N<=3*N0+3/\Z h
def ON(E:EN)(x:Int)(asked:List L4)(t r m w:Int)(N0:Nat)(J:Nat->List L4->List N3->Prop)(F:Nat->List L4->Prop)(Z:Heap->Prop)(i:Nat)(h:Heap):Prop:=
 1<=i/\((∃n,ad2 E Z x asked t r m w N0 J i n h)\/(i=1/\apq E Z x asked t r m N0 F h))
theorem YS(hx:1<=x)(C:Iy x J F)(hN:N<=800)(la:asked.length<=1000)(hw:0<=w)(hm:kn m=true):OM E sm (ON E x asked t r m w N J F) λZ i code h=>ad3 E Z x asked t r m N J F i code h:=by
 refine⟨λZ i h V q hk=>?_,λZ hZ i h V q dB hk2=>?_,λZ Z' i h h' es cl q k gm hn hz=>?_,λZ i h q=>?_,λZ i h q=>?_,λZ i h q=>q.1,λZ Z' i h x' vs t' o ob q hg ht hr ha hz=>?_,λZ i c h q=>?_,λZ Z' i c h h' es cl q k gm hn hz=>?_,λZ Z' i c h x' vs t' o ob q hg ht hr ha hz=>?_⟩
 .rcases q.2 with⟨n,⟨i0,has,p,P,N1,kb,H,out,c,e1,hJ,s,_⟩,n3⟩|⟨_,q⟩
  .exact mU s (.inr (by omega)) V hk
  .obtain⟨has,N1,kb,y,out,c,s,h0,_⟩:=q;exact mU s (.inl h0) V hk
 .have R:=WT (E:=E) (Z:=Z) hZ (asked:=asked) (t:=t) (r:=r) (m:=m) (w:=w) (N0:=N) (by omega:0<=x) C hN la hw hm;have h1i:=q.1;rcases q.2 with⟨n,q⟩|⟨ei,q'⟩
  .rcases(R.le i n h q).1 with rfl|rfl|rfl
   .exact R.s32 i 2 h V q (by decide) λh' s=>dB h' ⟨by omega,.inl ⟨_,s⟩⟩
   .exact R.s32 i 1 h V q (by decide) λh' s=>dB h' ⟨by omega,.inl ⟨_,s⟩⟩
   .exact R.s1 i h V q (λh' s=>dB h' ⟨by omega,.inl ⟨_,s⟩⟩) hk2
  .subst ei;obtain⟨has,N1,kb,y,out,c,s,h0,hc,hF,hN1,z⟩:=q';refine Iu s h0 V λh' a f=>?_;rw[hc];exact hk2 1 h' ⟨has,_,N1,a,hZ z f,by omega,.inl ⟨rfl,rfl,hF⟩⟩
 .refine⟨q.1,?_⟩;rcases q.2 with⟨n,⟨i0,has,p,P,N1,kb,H,out,c,e1,hJ,s,c1,c2,c3,c4,c5,c6,c7,c8,c9,f,hH⟩,n3⟩|⟨rfl,has,N1,kb,y,out,c,s,h0,hc,hF,hN1,z⟩
  .exact .inl ⟨n,⟨i0,has,p,P,N1,kb,H,out,c,e1,hJ,s.kr k gm hn,c1,c2,c3,c4,c5,c6,c7,c8,c9,hz,hH⟩,n3⟩
  .exact .inr ⟨rfl,has,N1,kb,y,out,c,s.kr k gm hn,h0,hc,hF,hN1,hz⟩
 .rcases q.2 with⟨n,⟨i0,has,p,P,N1,kb,H,out,c,e1,hJ,s,c1,c2,c3,c4,c5,c6,c7,c8,c9,f,hH⟩,n3⟩|⟨rfl,has,N1,kb,y,out,c,s,h0,hc,hF,hN1,z⟩
  .exact f
  .exact z
 .rcases q.2 with⟨n,⟨i0,has,p,P,N1,kb,H,out,c,e1,hJ,s,_⟩,n3⟩|⟨rfl,has,N1,kb,y,out,c,s,_⟩
  .exact s.lo
  .exact s.lo
 .refine⟨q.1,?_⟩;rcases q.2 with⟨n,⟨i0,has,p,P,N1,kb,H,out,c,e1,hJ,s,c1,c2,c3,c4,c5,c6,c7,c8,c9,f,hH⟩,n3⟩|⟨ei,q'⟩
  .exact .inl ⟨n,⟨i0,has,p,P,N1,kb,H,out,c,e1,hJ,s.ve hg ht hr ha ob,c1,c2,c3,c4,c5,c6,c7,c8,c9,hz,hH⟩,n3⟩
  .obtain⟨has,N1,kb,y,out,c,s,h0,hc,hF,hN1,z⟩:=q';exact .inr ⟨ei,has,N1,kb,y,out,c,s.ve hg ht hr ha ob,h0,hc,hF,hN1,hz⟩
 .obtain⟨has,asked',N1,a,z,r⟩:=q;exact z
 .obtain⟨has,asked',N1,a,z,r⟩:=q;exact⟨has,asked',N1,a.kr k gm hn,hz,r⟩
 .obtain⟨has,asked',N1,a,z,r⟩:=q;exact⟨has,asked',N1,a.ve hg ht hr ha ob,hz,r⟩
theorem OO{h:Heap}{Z:Heap->Prop}(hZ:∀{h h':Heap},Z h->FK E.a h h'->Z h')(z:Z h)(s:AI h E (aO has) (λ_ _=>x) N ⟨x,asked,has,[]⟩)(hx:1<=x)(hN:N<=800)(lh:has.length<=1000)(la:asked.length<=1000)(hw:0<=w)(hm:kn m=true)(h0:m≠0)(lv:bf t r≠-1)(kh:∀t r,kn (aO has t r)=true)(ka:kn (aO asked t r)=true)(st0:dZ has (gU (aO has) t r (bN (aO asked t r) m))=[]->F 1 has)(st1:∀p P,dZ has (gU (aO has) t r (bN (aO asked t r) m))=p::P->J 1 has (p::P))(V:KQ)(hκ:∀h',ON E x asked t r m w N J F Z 1 h'->V (.int .i64 0) h'):CallW prog 73 [pt E.z.ab,.agg ⟨[.int .i64 1,.int .i64 0,.int .i64 t,.int .i64 r,.int .i64 m,.int .i64 0]⟩,.int .i64 w] h V:=by
 have eJ:jo E.z ⟨x,asked,has,[]⟩ 1 t r m w=⟨1,t,r,m,w,r_,0,126,.func (.func 127) ⟨[pt E.z.ab]⟩ ⟨[]⟩,false,0,gU (aO has) t r (bN (aO asked t r) m),[]⟩:=by unfold jo;rw[if_pos rfl]
 obtain⟨q0,q1,_⟩:=ki ka hm h0;obtain⟨pk1,pk2,_⟩:=Ix (f:=aO has) kh lv q1 q0;refine Mx s (by show x≠0;omega) lh la 1 t r m w ?_ V ?_
 .unfold WO;rw[if_pos rfl,hm];simp[h0,lv,hw]
 .intro h1 kb s1 f1;rw[eJ]at s1
  show CallW prog 131 [pt E.z.ab] h1 _
  refine Mv s1 (by omega) rfl lh la (by show(gU _ _ _ _).length<=100;omega) hw hm pk1 kh 0 _ ?_ ?_
  .intro hL h2 s2 f2;exact hκ h2 ⟨Nat.le_refl _,.inr ⟨rfl,has,N,kb,_,_,_,s2,rfl,rfl,st0 hL,by omega,hZ (hZ z f1) f2⟩⟩
  .intro p P hL h2 s2 f2;exact hκ h2 ⟨Nat.le_refl _,.inl ⟨3,⟨1,has,p,P,N+1,kb,_,0,⟨1,t,r,m,w,qg ⟨x,asked,has,[]⟩ ⟨1,t,r,m,w,r_,0,126,.func (.func 127) ⟨[pt E.z.ab]⟩ ⟨[]⟩,false,0,gU (aO has) t r (bN (aO asked t r) m),[]⟩ p,0,126,.func (.func 127) ⟨[pt E.z.ab]⟩ ⟨[]⟩,false,0,p::P,[]⟩,rfl,st1 p P hL,s2,rfl,rfl,rfl,rfl,rfl,rfl,rfl,rfl,by omega,hZ (hZ z f1) f2,.inl ⟨by decide,rfl⟩⟩,.inl rfl⟩⟩
structure IGo(E:EN)(Z:Heap->Prop)(h:Heap):Prop where
 ex:∃(H X:Int->Int->Int)(N kb:Nat)(y:iz)(out:Int)(c:CD),AW h E H X N 0 y out ⟨0,[],[],[]⟩ kb c/\c.ask.k=0/\c.code=1/\(∀t r,H t r=0)/\Z h
def QGo(E:EN)(x:Int)(M:List (Int × Int))(asked:List L4)(N0 L0:Nat)(Z:Heap->Prop)(i:Nat)(h:Heap):Prop:=
 1<=i/\((∃n,SGo E Z x M asked N0 L0 i n h)\/(i=1/\IGo E Z h))
def ajN(E:EN)(Z:Heap->Prop)(h:Heap):Prop:=∃aX X N,AI h E (aO aX) X N ⟨0,[],[],aX⟩/\Z h
theorem go_q(hx:1<=x){M:List (Int × Int)}(hM:M.length<=19){L0:Nat}(hL0:L0<=19)(hN:N<=800)(sJ:0<=E.z.most/\E.z.most<=8)(BW:E.z.th=0):OM E sm (QGo E x M asked N L0) λZ i code h=>ajN E Z h:=by
 refine⟨λZ i h V q hk=>?_,λZ hZ i h V q dB hk2=>?_,λZ Z' i h h' es cl q k gm hn hz=>?_,λZ i h q=>?_,λZ i h q=>?_,λZ i h q=>q.1,λZ Z' i h x' vs t' o ob q hg ht hr ha hz=>?_,λZ i c h q=>?_,λZ Z' i c h h' es cl q k gm hn hz=>?_,λZ Z' i c h x' vs t' o ob q hg ht hr ha hz=>?_⟩
 .rcases q.2 with⟨n,⟨i0,g,G,has,aX,N1,kb,H,X,H0,X0,out,c,e1,e2,s,_⟩,n3⟩|⟨_,q⟩
  .exact mU s (.inr (by omega)) V hk
  .obtain⟨H,X,N1,kb,y,out,c,s,h0,_⟩:=q;exact mU s (.inl h0) V hk
 .have R:=go_run (E:=E) (Z:=Z) hZ (asked:=asked) (N0:=N) hx hM hL0 hN sJ BW;have h1i:=q.1;rcases q.2 with⟨n,q⟩|⟨ei,q'⟩
  .rcases(R.le i n h q).1 with rfl|rfl|rfl
   .exact R.s32 i 2 h V q (by decide) λh' s=>dB h' ⟨by omega,.inl ⟨_,s⟩⟩
   .exact R.s32 i 1 h V q (by decide) λh' s=>dB h' ⟨by omega,.inl ⟨_,s⟩⟩
   ·exact R.s1 i h V q (λh' s=>dB h' ⟨by omega,.inl ⟨_,s⟩⟩) λcode h' p=>by
     obtain⟨_,aX,X,N1,a,_,_,z⟩:=p;exact hk2 code h' ⟨aX,X,N1,a,z⟩
  .subst ei;obtain⟨H,X,N1,kb,y,out,c,s,h0,hc,hH,z⟩:=q';refine Iu s h0 V λh' a f=>?_;have eH:H=aO []:=by funext t r;exact hH t r
   exact hk2 _ h' ⟨[],X,N1,by rw[<-eH];exact a,hZ z f⟩
 .refine⟨q.1,?_⟩;rcases q.2 with⟨n,⟨i0,g,G,has,aX,N1,kb,H,X,H0,X0,out,c,e1,e2,s,c1,hp,c2,c3,c4,c5,f,r⟩,n3⟩|⟨rfl,H,X,N1,kb,y,out,c,s,h0,hc,hH,z⟩
  .exact .inl ⟨n,⟨i0,g,G,has,aX,N1,kb,H,X,H0,X0,out,c,e1,e2,s.kr k gm hn,c1,hp,c2,c3,c4,c5,hz,r⟩,n3⟩
  .exact .inr ⟨rfl,H,X,N1,kb,y,out,c,s.kr k gm hn,h0,hc,hH,hz⟩
 .rcases q.2 with⟨n,⟨i0,g,G,has,aX,N1,kb,H,X,H0,X0,out,c,e1,e2,s,c1,hp,c2,c3,c4,c5,f,r⟩,n3⟩|⟨rfl,H,X,N1,kb,y,out,c,s,h0,hc,hH,z⟩
  .exact f
  .exact z
 .rcases q.2 with⟨n,⟨i0,g,G,has,aX,N1,kb,H,X,H0,X0,out,c,e1,e2,s,_⟩,n3⟩|⟨rfl,H,X,N1,kb,y,out,c,s,_⟩
  .exact s.lo
  .exact s.lo
 .refine⟨q.1,?_⟩;rcases q.2 with⟨n,⟨i0,g,G,has,aX,N1,kb,H,X,H0,X0,out,c,e1,e2,s,c1,hp,c2,c3,c4,c5,f,r⟩,n3⟩|⟨ei,q'⟩
  .exact .inl ⟨n,⟨i0,g,G,has,aX,N1,kb,H,X,H0,X0,out,c,e1,e2,s.ve hg ht hr ha ob,c1,hp,c2,c3,c4,c5,hz,r⟩,n3⟩
  .obtain⟨H,X,N1,kb,y,out,c,s,h0,hc,hH,z⟩:=q';exact .inr ⟨ei,H,X,N1,kb,y,out,c,s.ve hg ht hr ha ob,h0,hc,hH,hz⟩
 .obtain⟨aX,X,N1,a,z⟩:=q;exact z
 .obtain⟨aX,X,N1,a,z⟩:=q;exact⟨aX,X,N1,a.kr k gm hn,hz⟩
 .obtain⟨aX,X,N1,a,z⟩:=q;exact⟨aX,X,N1,a.ve hg ht hr ha ob,hz⟩
theorem To{h:Heap}{M:List (Int × Int)}(hM:M.length<=19){Z:Heap->Prop}(hZ:∀{h h':Heap},Z h->FK E.a h h'->Z h')(z:Z h)(s:AI h E (aO has) (λ_ _=>x) N ⟨x,asked,has,[]⟩)(hx:1<=x)(hN:N<=800)(oh:jJ M has)(la:asked.length<=1000)(sJ:0<=E.z.most/\E.z.most<=8)(V:KQ)(hκ:∀h',QGo E x M asked N has.length Z 1 h'->V (.int .i64 0) h'):CallW prog 73 [pt E.z.ab,.agg ⟨[.int .i64 3,.int .i64 0,.int .i64 0,.int .i64 0,.int .i64 0,.int .i64 0]⟩,.int .i64 0] h V:=by
 have eJ:jo E.z ⟨x,asked,has,[]⟩ 3 0 0 0 0=⟨3,0,0,0,0,r_,0,135,.func (.func 133) ⟨[]⟩ ⟨[]⟩,false,0,[],[]⟩:=by unfold jo;rw[if_neg (by decide),if_neg (by decide)]
 have ll:=oh.len;have BW:=s.th;have sZ:x≠-1-E.z.th:=by omega
 refine Mx s (by show x≠0;omega) (by show has.length<=1000;omega) la 3 0 0 0 0 (by decide) V ?_;intro h1 kb s1 f1;rw[eJ]at s1
 show CallW prog 136 [pt E.z.ab] h1 _
 refine S6 s1 rfl (by show has.length<20;omega) (λg hg=>(oh.ok g hg).1) _ ?_;intro O h2 hO s2 f2;have hOl:=hO.length_eq;have hOl:O.length=has.length:=hOl;refine Mw s2 (by omega) sJ (Nat.zero_le _) (by show O.length<=1000;omega) (λg hg=>(oh.ok g (hO.mem_iff.1 hg)).1) sZ 0 _ ?_ ?_
 .intro e h3 s3 f3;have e:O=[]:=e;have eh:has=[]:=by rw[e]at hO;exact List.Perm.eq_nil hO.symm
  subst eh;exact hκ h3 ⟨Nat.le_refl _,.inr ⟨rfl,_,_,N,kb,_,_,_,s3,rfl,rfl,λ_ _=>rfl,hZ (hZ (hZ z f1) f2) f3⟩⟩
 .intro g G e h3 s3 f3;have e:O=g::G:=e;have eG:O.length=G.length+1:=by rw[e];rfl
  refine hκ h3 ⟨Nat.le_refl _,.inl ⟨3,⟨1,g,G,has,[],N+1,kb,_,_,aO has,λ_ _=>x,0,_,rfl,by omega,s3,e,by rw[<-e];exact hO,rfl,rfl,rfl,by omega,hZ (hZ (hZ z f1) f2) f3,⟨oh,jJ.nil M,λ_ _ _=>rfl,sJ.1,λt r=>?_,λ_ _ _=>rfl⟩,λ_=>⟨rfl,rfl⟩,λe=>absurd e (by decide)⟩,.inl rfl⟩⟩;by_cases hz:aO has t r=0
  .rw[if_neg (λe=>e hz),hz];rfl
  .rw[if_pos hz]
end
structure RA where
 rb:Nat
 ab:Nat
 lb:Nat
 sb:Nat
 sm:Nat
structure RV where
 op:sK
 nx:Option FuncId
 kind:Int
 code:Int
 note:Option Nat
def Ud(rb:Nat)(o:Option FuncId):Value:=match o with|some f=>.func (.func f) ⟨[pt rb]⟩ ⟨[]⟩|none=>Value.nilFunc
def m_(A:RA)(v:RV):bD:=aa [pt A.ab,.int .i64 0,pt A.lb,pt A.sb,.int .i64 v.op.k,.int .i64 v.op.t,.int .i64 v.op.r,.int .i64 v.op.m,.int .i64 v.op.v,.int .i64 v.op.w,Ud A.rb v.nx,.int .i64 v.kind,.int .i64 v.code,cZ v.note] 169 false
structure TC(h0:Heap)(ms:List Nat)(A:RA)(M:List HE)(ck:Nat)(L:List W4)(v:RV)(h:Heap):Prop where
 lt:A.rb<h.nx/\h.lo<=A.rb
 g:h.bl.get A.rb=some (m_ A v)
 st:ic h A.sb A.sm M ck
 lg:kX h0 h A.lb L
 sm:A.sm∉ms
 le:Le h0 h
 hr:h0.nx<=A.rb
 hs:h0.nx<=A.sm
section
variable {h0 h h':Heap}{ms:List Nat}{A:RA}{M:List HE}{ck:Nat}{L:List W4}{v:RV}
theorem TC.keep(s:TC h0 ms A M ck L v h)(l:Le h h'):TC h0 ms A M ck L v h':=
 ⟨⟨Nat.lt_of_lt_of_le s.lt.1 l.nx,by rw[l.lo];exact s.lt.2⟩,(l.get _ s.lt.1).trans s.g,s.st.le l,s.lg.le l,s.sm,s.le.trans l,s.hr,s.hs⟩
theorem TC.fk(ro:lI h0){a:TA}(s:TC h0 a.ms A M ck L v h)(k:FK a h h'):TC h0 a.ms A M ck L v h':=
 ⟨⟨Nat.lt_of_lt_of_le s.lt.1 k.nx,by rw[k.lo];exact s.lt.2⟩,(k.ty _ _ _ _ s.lt.1 s.g (by unfold lZ;decide) (by unfold jO;decide) (by unfold Ms;decide)).trans s.g,s.st.fk k s.sm,s.lg.fk k,s.sm,ro.fk s.le k,s.hr,s.hs⟩
theorem TC.Kg(s:TC h0 ms A M ck L v h)(v':RV):TC h0 ms A M ck L v' ⟨h.nx,h.bl.aV A.rb (m_ A v'),h.lo⟩:=
 ⟨s.lt,T.ah _ _ _,s.st.put s.g (by decide) _,s.lg.put s.g (by decide) (by decide) _,s.sm,s.le.set s.hr _,s.hr,s.hs⟩
theorem TC.krV(s:TC h0 ms A M ck L v h)(v':RV):KR A.sm h ⟨h.nx,h.bl.aV A.rb (m_ A v'),h.lo⟩:=KR.put s.g (.inl rfl) _
theorem TC.lo(s:TC h0 ms A M ck L v h):h.lo<=h.nx:=by have:=s.lt;omega
theorem YT(h:Heap)(b o:Nat):lT prog h 100 82 (.pointer (some ⟨b,o,none⟩)) (.pointer none)=some false:=by kernel_rfl
theorem jG{β:Type}{fl:β}(cn:Bool)(b o:Nat)(h:Heap)(V:Z7 β):ay fl prog .eql 82 cn false (.pointer (some ⟨b,o,none⟩)) (.pointer none) h V=V (.bool false) h:=by simp only[ay,YT,bK]
theorem Tp{β:Type}{fl:β}(cn:Bool)(b o:Nat)(h:Heap)(V:Z7 β):ay fl prog .neq 82 cn false (.pointer (some ⟨b,o,none⟩)) (.pointer none) h V=V (.bool true) h:=by simp only[ay,YT,bK,Bool.not_false]
theorem ajO(h:Heap)(f:FuncId)(a b:Array Value):lT prog h 100 166 (.func (.func f) a b) Value.nilFunc=some false:=by kernel_rfl
theorem ajP(h:Heap):lT prog h 100 166 Value.nilFunc Value.nilFunc=some true:=by kernel_rfl
theorem IA{β:Type}{fl:β}(cn:Bool)(rb:Nat)(o:Option FuncId)(h:Heap)(V:Z7 β):ay fl prog .neq 166 cn false (Ud rb o) Value.nilFunc h V=V (.bool o.isSome) h:=by
 cases o with
 |none=>simp only[Ud,ay,ajP,bK,Bool.not_true];rfl
 |some f=>simp only[Ud,ay,ajO,bK,Bool.not_false];rfl
theorem tN(s:TC h0 ms A M ck L v h)(V:KQ)(hk:V (.bool v.nx.isSome) h):CallW prog 40 [pt A.rb] h V:=by
 have g:=s.g;unfold m_ at g;refine av mixed ?_;rw[agr];simp(disch:=try exact Y)only[Wz,Tp,aG,g,IA];exact hk
theorem Kh{E:EN}{H X:Int->Int->Int}{N:Nat}{D:AD}(s:TC h0 ms A M ck L v h)(a:AI h E H X N D)(ea:A.ab=E.z.ab)(V:KQ)(hk:V (.int .i64 D.l_) h):CallW prog 41 [pt A.rb] h V:=by
 have g:=s.g;unfold m_ at g;refine av mixed ?_;rw[ags];simp(disch:=try exact Y)only[Wz,jG,aG,g];rw[ea];exact J9 a _ hk
theorem Ki{E:EN}{H X:Int->Int->Int}{N:Nat}{D:AD}(s:TC h0 ms A M ck L v h)(a:AI h E H X N D)(ea:A.ab=E.z.ab)(l2:D.has.length<=1000)(V:KQ)(hk:∀v h',DX h h' v D.has->Le h h'->V v h'):CallW prog 38 [pt A.rb] h V:=by
 have g:=s.g;unfold m_ at g;refine av mixed ?_;rw[agp];simp(disch:=try exact Y)only[Wz,jG,aG,g];rw[ea];exact ad1 a l2 _ hk
theorem Bj(s:TC h0 ms A M ck L v h)(hL:L.length<=1000)(V:KQ)(hk:∀v h',fC pI h 99 h' v L->Le h h'->V v h'):CallW prog 42 [pt A.rb] h V:=by
 have g:=s.g;unfold m_ at g;refine av mixed ?_;rw[agt];simp(disch:=try exact Y)only[Wz,jG,aG,g];exact Ti s.lg s.lo hL _ hk
theorem vf(s:TC h0 ms A M ck L v h)(k:Int)(f:FuncId)(V:KQ)(hk:∀h',TC h0 ms A M ck L { v with nx:=some f,kind:=k } h'->KR A.sm h h'->V (.tuple ⟨[]⟩) h'):CallW prog 142 [pt A.rb,.int .i64 k,.func (.func f) ⟨[pt A.rb]⟩ ⟨[]⟩] h V:=by
 have g:=s.g;have hlt:=s.lt;have q:=s.Kg { v with nx:=some f,kind:=k };have k1:=s.krV { v with nx:=some f,kind:=k };unfold m_ at g;unfold m_ Ud at q k1;refine av mixed ?_;rw[aag];simp(disch:=try exact Y)only[Wz,aG,g,wH];exact hk _ q k1
end
theorem ajQ(a b c d e f:Int):kY 8 (.agg ⟨[.int .i64 a,.int .i64 b,.int .i64 c,.int .i64 d,.int .i64 e,.int .i64 f]⟩) (.agg ⟨[.int .i64 a,.int .i64 b,.int .i64 c,.int .i64 d,.int .i64 e,.int .i64 f]⟩)=true:=zj [a,b,c,d,e,f]
theorem yw{u:Value}(hu:jv u)(a b:Int):kY 8 (.agg ⟨[.int .i64 a,.int .i64 b,u]⟩) (.agg ⟨[.int .i64 a,.int .i64 b,u]⟩)=true:=by
 obtain⟨n,c,rfl|⟨x,o,rfl⟩⟩:=hu<;>simp[kY,xH,xh,Cs,gY]
theorem jv.nil:jv (.slice none 0 0):=⟨0,0,.inl rfl⟩
theorem CS{u:Value}(hu:jv u)(a b:Int):(Value.cells (.agg ⟨[.int .i64 a,.int .i64 b,u]⟩)).toList=[.int .i64 a,.int .i64 b,u]:=by
 obtain⟨n,c,rfl|⟨x,o,rfl⟩⟩:=hu<;>rfl
section
variable {h0 h h':Heap}{ms:List Nat}{A:RA}{M:List HE}{ck:Nat}{L:List W4}{v:RV}
theorem TC.mst(s:TC h0 ms A M ck L v h){M':List HE}{gF:Nat}(st:ic h' A.sb A.sm M' gF)(k:MK A.sm h h'):TC h0 ms A M' gF L v h':=by
 have hs:=s.hs;have n0:=s.le.nx;exact⟨⟨Nat.lt_of_lt_of_le s.lt.1 k.nx,by rw[k.lo];exact s.lt.2⟩,k.cell s.st.gm s.lt.1 s.g,st,s.lg.mks k s.st.gm,s.sm,⟨Nat.le_trans n0 k.nx,k.lo.trans s.le.lo,λd hd=>(k.get d (by omega) (by omega)).trans (s.le.get d hd)⟩,s.hr,s.hs⟩
theorem TC.lgs(s:TC h0 ms A M ck L v h){L':List W4}(lg:kX h0 h' A.lb L')(k:∀sm,KR sm h h')(rk:RKp h h')(le:Le h0 h'):TC h0 ms A M ck L' v h':=
 ⟨⟨Nat.lt_of_lt_of_le s.lt.1 (k 0).nx,by rw[(k 0).lo];exact s.lt.2⟩,rk _ _ _ s.lt.1 s.g,⟨⟨Nat.lt_of_lt_of_le s.st.tE.1 (k 0).nx,by rw[(k 0).lo];exact s.st.tE.2⟩,(k A.sm).cell s.st.gm s.st.tE.1 s.st.gb (by unfold rY;decide),⟨Nat.lt_of_lt_of_le s.st.kO.1 (k 0).nx,by rw[(k 0).lo];exact s.st.kO.2⟩,((k A.sb).get A.sm s.st.kO.1 (λe=>dh s.st.gb s.st.gm e.symm) λvs t o _ e=>by rw[s.st.gm]at e;exact bQ e).trans s.st.gm,s.st.ok⟩,lg,s.sm,le,s.hr,s.hs⟩
theorem TC.put(s:TC h0 ms A M ck L v h){x:Nat}{vs:List Value}{t:TypeId}{o:Bool}(hg:h.bl.get x=some (aa vs t o))(h1:¬rY t)(h2:t≠175)(hx:h0.nx<=x)(ob:bD):TC h0 ms A M ck L v ⟨h.nx,h.bl.aV x ob,h.lo⟩:=
 ⟨s.lt,(T.aj _ _ (de hg s.g λe=>h1 (.inl e))).trans s.g,s.st.put hg h2 _,s.lg.put hg (λe=>h1 (.inr (.inl e))) (λe=>h1 (.inr (.inr e))) _,s.sm,s.le.set hx _,s.hr,s.hs⟩
theorem KR.set{sm:Nat}{h h':Heap}(k:KR sm h h'){b:Nat}(hb:h.nx<=b)(ob:bD):KR sm h ⟨h'.nx,h'.bl.aV b ob,h'.lo⟩:=⟨k.nx,k.lo,λd hd hn ht=>(T.aj _ _ (by omega)).trans (k.get d hd hn ht)⟩
theorem Tq{E:EN}{H X:Int->Int->Int}{N:Nat}{D:AD}(s:TC h0 ms A M ck L v h)(a:AI h E H X N D)(ea:A.ab=E.z.ab)(o:sK)(c vv:Int){u:Value}(hu:jv u)(V:KQ)(hk:∀h' b,TC h0 ms A M ck L { v with note:=some b } h'->KR A.sm h h'->V (.tuple ⟨[]⟩) h'):CallW prog 199 [pt A.rb,.agg ⟨pJ o⟩,.agg ⟨[.int .i64 c,.int .i64 vv,u]⟩] h V:=by
 have ca:=CS hu c vv;have qa:=yw hu c vv;have qo:=ajQ o.k o.t o.r o.m o.v o.w;have hlo:=s.lo;have cu:u.cells.toList=[u]:=by obtain⟨n,c,rfl|⟨x,o,rfl⟩⟩:=hu<;>rfl
 have ou:dJ u=true:=by obtain⟨n,c,rfl|⟨x,o,rfl⟩⟩:=hu<;>rfl
 refine av mixed ?_;rw[aaP];simp(disch:=try exact Y)only[Wz,pJ,ca];obtain⟨hA,aT,aL,g1,g3,dy,dz⟩:=BF h (aa [.int .i64 o.k,.int .i64 o.t,.int .i64 o.r,.int .i64 o.m,.int .i64 o.v,.int .i64 o.w] 92 false) (aa [.int .i64 c,.int .i64 vv,u] 88 false);rw[<-aT]
 try rw[show((h.bl.aV (h.nx) (aa [.int .i64 o.k,.int .i64 o.t,.int .i64 o.r,.int .i64 o.m,.int .i64 o.v,.int .i64 o.w] 92 false)).aV (h.nx+1) (aa [.int .i64 c,.int .i64 vv,u] 88 false))=hA.bl by rw[aT]]
 clear aT;have sA:=s.keep aL;have gA:=sA.g;unfold m_ at gA;simp(disch:=try exact Y)only[Wz,aG,gA,g1,g3];rw[ea];refine J9 (a.le aL) _ ?_;simp(disch:=try exact Y)only[Wz,aG,gA,g1,g3,qa,qo];have W7:=(Le.refl hA).new (aa [.int .i64 D.l_,.int .i64 0,.int .i64 o.k,.int .i64 o.t,.int .i64 o.r,.int .i64 o.m,.int .i64 o.v,.int .i64 o.w,.int .i64 c,.int .i64 vv,u] 369 false);have sN:=sA.keep W7;have q:=sN.Kg { v with note:=some hA.nx };have k1:=sN.krV { v with note:=some hA.nx };unfold m_ cZ at q k1;have ltA:=sA.lt;simp(disch:=try exact Y)only[Wz,aG,gA];exact hk _ hA.nx q ((KR.le (aL.trans W7)).trans k1)
def aey:bD:=.map [u6 2 333 0,u6 3 334 1,u6 4 335 2,u6 5 336 3,u6 6 337 4] 5
theorem ajR(h:Heap)(V:KQ)(hlo:h.lo<=h.nx)(hk:∀b h',Le h h'->h'.bl.get b=some aey->V (.map (some b)) h'):CallW prog 280 [] h V:=by
 refine av mixed ?_;rw[abo];simp(disch:=try exact Y)only[Wz,fI];have nf:∀(h:Heap)(k k':Int)(f:FuncId)(n:Nat)(es:List MapEntry)(i:Nat),k≠k'->ff prog h 3 (.int .i64 k) (u6 k' f n::es) i=ff prog h 3 (.int .i64 k) es (Nat.succ i):=λh k k' f n es i e=>by rw[findF,if_neg e]
 refine ri (es:=[]) (T.ah _ _ _) (by exact hlo) 2 333 (λh=>rfl) _ ?_;refine ri (T.ah _ _ _) (by exact hlo) 3 334 (λh=>by simp only[List.nil_append,List.cons_append];rw[nf _ _ _ _ _ _ _ (by decide)];rfl) _ ?_;refine ri (T.ah _ _ _) (by exact hlo) 4 335 (λh=>by simp only[List.nil_append,List.cons_append];rw[nf _ _ _ _ _ _ _ (by decide),nf _ _ _ _ _ _ _ (by decide)];rfl) _ ?_;refine ri (T.ah _ _ _) (by exact hlo) 5 336 (λh=>by simp only[List.nil_append,List.cons_append];rw[nf _ _ _ _ _ _ _ (by decide),nf _ _ _ _ _ _ _ (by decide),nf _ _ _ _ _ _ _ (by decide)];rfl) _ ?_;refine ri (T.ah _ _ _) (by exact hlo) 6 337 (λh=>by simp only[List.nil_append,List.cons_append];rw[nf _ _ _ _ _ _ _ (by decide),nf _ _ _ _ _ _ _ (by decide),nf _ _ _ _ _ _ _ (by decide),nf _ _ _ _ _ _ _ (by decide)];rfl) _ ?_;exact hk h.nx _ (((((((Le.refl h).new _).set (Nat.le_refl _) _).set (Nat.le_refl _) _).set (Nat.le_refl _) _).set (Nat.le_refl _) _).set (Nat.le_refl _) _) (T.ah _ _ _)
def opF(k:Int):FuncId:=if k=2 then 333 else if k=3 then 334 else if k=4 then 335 else if k=5 then 336 else 337
theorem ajS{β:Type}{fl:β}{h:Heap}{b:Nat}(g:h.bl.get b=some aey)(k:Int)(hk:2<=k/\k<=6)(V:Z7 β):cr fl prog 3 Value.nilFunc false (.map (some b)) (.int .i64 k) h V=V (.func (.func (opF k)) ⟨[]⟩ ⟨[]⟩) h:=by
 unfold cr ij;rw[NU];simp only[g,aey];have:k=2\/k=3\/k=4\/k=5\/k=6:=by omega
 rcases this with rfl|rfl|rfl|rfl|rfl
 .rw[findF,if_pos rfl];rfl
 .rw[findF,if_neg (by decide),findF,if_pos rfl];rfl
 .rw[findF,if_neg (by decide),findF,if_neg (by decide),findF,if_pos rfl];rfl
 .rw[findF,if_neg (by decide),findF,if_neg (by decide),findF,if_neg (by decide),findF,if_pos rfl];rfl
 .rw[findF,if_neg (by decide),findF,if_neg (by decide),findF,if_neg (by decide),findF,if_neg (by decide),findF,if_pos rfl];rfl
theorem Ea(s:TC h0 ms A M ck L v h)(V:KQ)(hk:∀h',Le h h'->V (.bool (eM M v.op.t v.op.r).isSome) h'):CallW prog 385 [pt A.rb] h V:=by
 have g:=s.g;unfold m_ at g;refine av mixed ?_;rw[abV];simp(disch:=try exact Y)only[Wz,aG,g];refine MA s.st s.lo v.op.t v.op.r _ ?_;intro h' le;simp(disch:=try exact Y)only[Wz];exact hk h' le
def wOf(o:sK)(f:Int->Int->Option Int):W4:=⟨o.t,o.r,(f o.t o.r).getD 0,(f o.t o.r).isSome⟩
theorem Tr(s:TC h0 ms A M ck L v h)(lv:bf v.op.t v.op.r=2)(hL:L.length<=1000)(V:KQ)(hk:∀h' M' gF,TC h0 ms A M' gF (L++[wOf v.op (eM M)]) v h'->eM M'=Bh (eM M) v.op.t v.op.r (some v.op.v)->M'.length<=M.length+1->KR A.sm h h'->V (.agg ⟨[.int .i64 1,.int .i64 0,.slice none 0 0]⟩) h'):CallW prog 386 [pt A.rb] h V:=by
 have W8:=s.lt;have g:=s.g;have n0:=s.le.nx;have hlo:=s.lo;unfold m_ at g;refine av mixed ?_;rw[abW];simp(disch:=try exact Y)only[Wz,aG,g];obtain⟨hA,aT,aL,g1,g2,dy,dz⟩:=BF h (aa [.int .i64 0,.int .i64 0,.slice none 0 0] 88 false) (aa [.int .i64 0,.int .i64 0,.int .i64 0,.bool false] 99 false);rw[<-aT]
 try rw[show((h.bl.aV (h.nx) (aa [.int .i64 0,.int .i64 0,.slice none 0 0] 88 false)).aV (h.nx+1) (aa [.int .i64 0,.int .i64 0,.int .i64 0,.bool false] 99 false))=hA.bl by rw[aT]]
 clear aT;refine MB (s.st.le aL) (by omega) lv v.op.v _ ?_;intro h2 M2 Tl born s2 hp2 k2;have n2:=k2.nx;have l2:=k2.lo;have gmA:=(s.st.le aL).gm;have q1:=k2.cell gmA (by omega) g1;have q2:=k2.cell gmA (by omega) g2;have gA:=(s.keep aL).g;unfold m_ at gA;have W9:=k2.cell gmA (by omega) gA;obtain⟨h3,e3⟩:∃h3:Heap,h3=⟨h2.nx,h2.bl.aV (h.nx+1) (aa [.int .i64 v.op.t,.int .i64 v.op.r,.int .i64 ((eM M v.op.t v.op.r).getD 0),.bool (eM M v.op.t v.op.r).isSome] 99 false),h2.lo⟩:=⟨_,rfl⟩
 have T3:TC h0 ms A M2 Tl L v h3:=by rw[e3];exact s.mst (s2.put q2 (by decide) _) (((MK.le aL).trans k2).set (by omega) _)
 have k3:KR A.sm h h3:=by rw[e3];exact(((MK.le aL).trans k2).set (b:=h.nx+1) (by omega) _).kr
 have n3:h3.nx=h2.nx:=by rw[e3]
 have l3:h3.lo=h2.lo:=by rw[e3]
 have q13:h3.bl.get h.nx=some (aa [.int .i64 0,.int .i64 0,.slice none 0 0] 88 false):=by rw[e3];exact(T.aj _ _ (by omega)).trans q1
 simp(disch:=try exact Y)only[Wz,J_,q2,W9];rw[<-e3];clear e3;refine Th T3.lg T3.le T3.lo hL (wOf v.op (eM M)) lv _ ?_;intro h4 lg4 k4 rk4 iS;have n4:=(k4 0).nx;have l4:=(k4 0).lo;have T4:=T3.lgs lg4 k4 rk4 iS;have q14:=(k4 A.sm).cell T3.st.gm (by omega) q13 (by unfold rY;decide);simp(disch:=try exact Y)only[Wz,q14];exact hk _ M2 Tl (T4.put q14 (by unfold rY;decide) (by decide) (by omega) _) (ML s.st.ok s2.ok hp2) (by
  have:=hp2.length_eq;rw[List.length_append,List.length_singleton]at this;have:=List.length_filter_le (λx=>!jX v.op.t v.op.r x) M;omega) ((k3.trans (k4 A.sm)).set (by omega) _)
end
def CT(o:sK)(f:Int->Int->Option Int):Int:=if o.k=6 then 1 else if o.k=4 then(if(f o.t o.r).isSome=true then 8 else 1)else if(f o.t o.r).isSome=true then 1 else 7
def MQ(o:sK)(f:Int->Int->Option Int):Prop:=(o.k=3\/o.k=4\/o.k=5)/\CT o f=1
instance (o:sK)(f:Int->Int->Option Int):Decidable (MQ o f):=by unfold MQ;exact inferInstance
def doM(o:sK)(f:Int->Int->Option Int):Int->Int->Option Int:=if MQ o f then Bh f o.t o.r (if o.k=5 then none else some o.v)else f
def Ue(o:sK)(f:Int->Int->Option Int)(L:List W4):List W4:=if MQ o f then L++[wOf o f]else L
structure DoR(o:sK)(M M':List HE)(L L':List W4)(c vv:Int):Prop where
 ln:M'.length<=M.length+1
 lk:eM M'=doM o (eM M)
 lg:L'=Ue o (eM M) L
 co:c=CT o (eM M)
 va:o.k=2->c=1->vv=(eM M o.t o.r).getD 0
theorem DoR.stay{o:sK}{M:List HE}{L:List W4}{c vv:Int}(hp:¬MQ o (eM M))(co:c=CT o (eM M))(va:o.k=2->c=1->vv=(eM M o.t o.r).getD 0):DoR o M M L L c vv:=
 ⟨Nat.le_succ _,by unfold doM;rw[if_neg hp],by unfold Ue;rw[if_neg hp],co,va⟩
section
variable {h0 h h':Heap}{ms:List Nat}{A:RA}{M:List HE}{ck:Nat}{L:List W4}{v:RV}
def Kon(h0:Heap)(ms:List Nat)(A:RA)(M:List HE)(L:List W4)(v:RV)(h:Heap)(V:KQ):Prop:=
 ∀h' M' gF L' c vv u,TC h0 ms A M' gF L' v h'->KR A.sm h h'->jv u->DoR v.op M M' L L' c vv->V (.agg ⟨[.int .i64 c,.int .i64 vv,u]⟩) h'
theorem W_(s:TC h0 ms A M ck L v h)(hk2:v.op.k=2)(V:KQ)(hk:Kon h0 ms A M L v h V):CallW prog 333 [pt A.rb] h V:=by
 have W8:=s.lt;have g:=s.g;have n0:=s.le.nx;have hlo:=s.lo;unfold m_ at g;refine av mixed ?_;rw[abF];simp(disch:=try exact Y)only[Wz,aG,g];obtain⟨hA,aT,aL,g1,dy,dz⟩:=kf h (aa [.int .i64 0,.int .i64 0,.slice none 0 0] 88 false);rw[<-aT]
 try rw[show(h.bl.aV (h.nx) (aa [.int .i64 0,.int .i64 0,.slice none 0 0] 88 false))=hA.bl by rw[aT]]
 clear aT;have gA:=(s.keep aL).g;unfold m_ at gA;refine MA (s.st.le aL) (by omega) v.op.t v.op.r _ ?_;intro h2 bt;have o5:=bt.nx;have o_:=bt.lo;have g1:=bt.up g1;have T2:=(s.keep aL).keep bt;have np:¬MQ v.op (eM M):=by unfold MQ;rw[hk2];rintro⟨e|e|e,_⟩<;>revert e<;>decide
 cases IG:(eM M v.op.t v.op.r).isSome with
 |false=>
  simp(disch:=try exact Y)only[Wz,IG,g1];exact hk _ M ck L 7 0 _ (T2.put g1 (by unfold rY;decide) (by decide) (by omega) _) ((KR.le (aL.trans bt)).set (Nat.le_refl _) _) jv.nil (.stay np (by unfold CT;rw[hk2,IG];decide) λ_ e=>absurd e (by decide))
 |true=>
  simp(disch:=try exact Y)only[Wz,IG,g1];exact hk _ M ck L 1 _ _ (T2.put g1 (by unfold rY;decide) (by decide) (by omega) _) ((KR.le (aL.trans bt)).set (Nat.le_refl _) _) jv.nil (.stay np (by unfold CT;rw[hk2,IG];decide) λ_ _=>rfl)
theorem Tt(s:TC h0 ms A M ck L v h)(vT:v.op.k=3)(lv:bf v.op.t v.op.r=2)(hL:L.length<=1000)(V:KQ)(hk:Kon h0 ms A M L v h V):CallW prog 334 [pt A.rb] h V:=by
 have W8:=s.lt;have n0:=s.le.nx;have hlo:=s.lo;refine av mixed ?_;rw[abG];simp(disch:=try exact Y)only[Wz];obtain⟨hA,aT,aL,g1,dy,dz⟩:=kf h (aa [.int .i64 0,.int .i64 0,.slice none 0 0] 88 false);rw[<-aT]
 try rw[show(h.bl.aV (h.nx) (aa [.int .i64 0,.int .i64 0,.slice none 0 0] 88 false))=hA.bl by rw[aT]]
 clear aT;refine Ea (s.keep aL) _ ?_;intro h2 bt;have o5:=bt.nx;have o_:=bt.lo;have g1:=bt.up g1;have T2:=(s.keep aL).keep bt;cases IG:(eM M v.op.t v.op.r).isSome with
 |false=>
  have co:CT v.op (eM M)=7:=by unfold CT;rw[vT,IG];decide
  simp(disch:=try exact Y)only[Wz,g1];exact hk _ M ck L 7 0 _ (T2.put g1 (by unfold rY;decide) (by decide) (by omega) _) ((KR.le (aL.trans bt)).set (Nat.le_refl _) _) jv.nil (.stay (by unfold MQ;rw[co];rintro⟨_,e⟩;revert e;decide) co.symm λe=>absurd (vT.symm.trans e) (by decide))
 |true=>
  have co:CT v.op (eM M)=1:=by unfold CT;rw[vT,IG];decide
  have hp:MQ v.op (eM M):=⟨.inl vT,co⟩
  simp(disch:=try exact Y)only[Wz];refine Tr T2 lv hL _ ?_;intro h3 M3 ck3 T3 lk3 ln3 k3;have n3:=k3.nx;have l3:=k3.lo;have q1:=k3.cell T2.st.gm (by omega) g1 (by unfold rY;decide);simp(disch:=try exact Y)only[Wz,q1];exact hk _ M3 ck3 _ 1 0 _ (T3.put q1 (by unfold rY;decide) (by decide) (by omega) _) (((KR.le (aL.trans bt)).trans k3).set (Nat.le_refl _) _) jv.nil ⟨ln3,by unfold doM;rw[if_pos hp,if_neg (by rw[vT];decide)];exact lk3,by unfold Ue;rw[if_pos hp],co.symm,λe=>absurd (vT.symm.trans e) (by decide)⟩
theorem OP(s:TC h0 ms A M ck L v h)(vm:v.op.k=4)(lv:bf v.op.t v.op.r=2)(hL:L.length<=1000)(V:KQ)(hk:Kon h0 ms A M L v h V):CallW prog 335 [pt A.rb] h V:=by
 have W8:=s.lt;have n0:=s.le.nx;have hlo:=s.lo;refine av mixed ?_;rw[abH];simp(disch:=try exact Y)only[Wz];obtain⟨hA,aT,aL,g1,dy,dz⟩:=kf h (aa [.int .i64 0,.int .i64 0,.slice none 0 0] 88 false);rw[<-aT]
 try rw[show(h.bl.aV (h.nx) (aa [.int .i64 0,.int .i64 0,.slice none 0 0] 88 false))=hA.bl by rw[aT]]
 clear aT;refine Ea (s.keep aL) _ ?_;intro h2 bt;have o5:=bt.nx;have o_:=bt.lo;have g1:=bt.up g1;have T2:=(s.keep aL).keep bt;cases IG:(eM M v.op.t v.op.r).isSome with
 |true=>
  have co:CT v.op (eM M)=8:=by unfold CT;rw[vm,IG];decide
  simp(disch:=try exact Y)only[Wz,g1];exact hk _ M ck L 8 0 _ (T2.put g1 (by unfold rY;decide) (by decide) (by omega) _) ((KR.le (aL.trans bt)).set (Nat.le_refl _) _) jv.nil (.stay (by unfold MQ;rw[co];rintro⟨_,e⟩;revert e;decide) co.symm λe=>absurd (vm.symm.trans e) (by decide))
 |false=>
  have co:CT v.op (eM M)=1:=by unfold CT;rw[vm,IG];decide
  have hp:MQ v.op (eM M):=⟨.inr (.inl vm),co⟩
  simp(disch:=try exact Y)only[Wz];refine Tr T2 lv hL _ ?_;intro h3 M3 ck3 T3 lk3 ln3 k3;have n3:=k3.nx;have l3:=k3.lo;have q1:=k3.cell T2.st.gm (by omega) g1 (by unfold rY;decide);simp(disch:=try exact Y)only[Wz,q1];exact hk _ M3 ck3 _ 1 0 _ (T3.put q1 (by unfold rY;decide) (by decide) (by omega) _) (((KR.le (aL.trans bt)).trans k3).set (Nat.le_refl _) _) jv.nil ⟨ln3,by unfold doM;rw[if_pos hp,if_neg (by rw[vm];decide)];exact lk3,by unfold Ue;rw[if_pos hp],co.symm,λe=>absurd (vm.symm.trans e) (by decide)⟩
theorem OQ(s:TC h0 ms A M ck L v h)(DQ:v.op.k=5)(lv:bf v.op.t v.op.r=2)(hL:L.length<=1000)(V:KQ)(hk:Kon h0 ms A M L v h V):CallW prog 336 [pt A.rb] h V:=by
 have W8:=s.lt;have n0:=s.le.nx;have hlo:=s.lo;refine av mixed ?_;rw[abI];simp(disch:=try exact Y)only[Wz];obtain⟨hA,aT,aL,g1,dy,dz⟩:=kf h (aa [.int .i64 0,.int .i64 0,.slice none 0 0] 88 false);rw[<-aT]
 try rw[show(h.bl.aV (h.nx) (aa [.int .i64 0,.int .i64 0,.slice none 0 0] 88 false))=hA.bl by rw[aT]]
 clear aT;refine Ea (s.keep aL) _ ?_;intro h1 bG;have n1:=bG.nx;have l1:=bG.lo;have A7:=bG.nx;have A8:=bG.lo;have g1:=bG.up g1;have T1:=(s.keep aL).keep bG;cases IG:(eM M v.op.t v.op.r).isSome with
 |false=>
  have co:CT v.op (eM M)=7:=by unfold CT;rw[DQ,IG];decide
  simp(disch:=try exact Y)only[Wz,g1];exact hk _ M ck L 7 0 _ (T1.put g1 (by unfold rY;decide) (by decide) (by omega) _) ((KR.le (aL.trans bG)).set (Nat.le_refl _) _) jv.nil (.stay (by unfold MQ;rw[co];rintro⟨_,e⟩;revert e;decide) co.symm λe=>absurd (DQ.symm.trans e) (by decide))
 |true=>
  have co:CT v.op (eM M)=1:=by unfold CT;rw[DQ,IG];decide
  have hp:MQ v.op (eM M):=⟨.inr (.inr DQ),co⟩
  have gR:=T1.g;unfold m_ at gR;simp(disch:=try exact Y)only[Wz,Gz,aG,gR];obtain⟨hB,gI,bV,g2,BN,BO⟩:=kf h1 (aa [.int .i64 0,.int .i64 0,.int .i64 0,.bool false] 99 false);rw[<-gI]
  try rw[show(h1.bl.aV (h1.nx) (aa [.int .i64 0,.int .i64 0,.int .i64 0,.bool false] 99 false))=hB.bl by rw[gI]]
  clear gI;have pW:=bV.nx;have pX:=bV.lo;have g1:=bV.up g1;refine MC (T1.st.le bV) (by omega) lv _ ?_;intro h2 s2 k2;have n2:=k2.nx;have l2:=k2.lo;have gmB:=(T1.st.le bV).gm;have q1:=k2.cell gmB (by omega) g1;have q2:=k2.cell gmB (by omega) g2;have gB:=(T1.keep bV).g;unfold m_ at gB;have W9:=k2.cell gmB (by omega) gB;have tQ:=(aL.trans bG).trans bV;obtain⟨h3,e3⟩:∃h3:Heap,h3=⟨h2.nx,h2.bl.aV h1.nx (aa [.int .i64 v.op.t,.int .i64 v.op.r,.int .i64 ((eM M v.op.t v.op.r).getD 0),.bool (eM M v.op.t v.op.r).isSome] 99 false),h2.lo⟩:=⟨_,rfl⟩
  have T3:TC h0 ms A (M.filter λx=>!jX v.op.t v.op.r x) ck L v h3:=by rw[e3];exact s.mst (s2.put q2 (by decide) _) (((MK.le tQ).trans k2).set (by omega) _)
  have k3:KR A.sm h h3:=by rw[e3];exact(((MK.le tQ).trans k2).set (b:=h1.nx) (by omega) _).kr
  have n3:h3.nx=h2.nx:=by rw[e3]
  have l3:h3.lo=h2.lo:=by rw[e3]
  have q13:h3.bl.get h.nx=some (aa [.int .i64 0,.int .i64 0,.slice none 0 0] 88 false):=by rw[e3];exact(T.aj _ _ (by omega)).trans q1
  simp(disch:=try exact Y)only[Wz,J_,q2,W9];rw[<-e3];clear e3;refine Th T3.lg T3.le T3.lo hL (wOf v.op (eM M)) lv _ ?_;intro h4 lg4 k4 rk4 iS;have n4:=(k4 0).nx;have l4:=(k4 0).lo;have T4:=T3.lgs lg4 k4 rk4 iS;have q14:=(k4 A.sm).cell T3.st.gm (by omega) q13 (by unfold rY;decide);simp(disch:=try exact Y)only[Wz,q14];exact hk _ _ ck _ 1 0 _ (T4.put q14 (by unfold rY;decide) (by decide) (by omega) _) ((k3.trans (k4 A.sm)).set (Nat.le_refl _) _) jv.nil ⟨by
   have:=List.length_filter_le (λx=>!jX v.op.t v.op.r x) M;omega,by unfold doM;rw[if_pos hp,if_pos DQ];exact MM s.st.ok,by unfold Ue;rw[if_pos hp],co.symm,λe=>absurd (DQ.symm.trans e) (by decide)⟩
theorem Xa(s:TC h0 ms A M ck L v h)(Vy:v.op.k=6)(hM:M.length<=1000)(V:KQ)(hk:Kon h0 ms A M L v h V):CallW prog 337 [pt A.rb] h V:=by
 have W8:=s.lt;have g:=s.g;have n0:=s.le.nx;have hlo:=s.lo;unfold m_ at g;refine av mixed ?_;rw[abJ];simp(disch:=try exact Y)only[Wz,aG,g];obtain⟨hA,aT,aL,g1,dy,dz⟩:=kf h (aa [.int .i64 0,.int .i64 0,.slice none 0 0] 88 false);rw[<-aT]
 try rw[show(h.bl.aV (h.nx) (aa [.int .i64 0,.int .i64 0,.slice none 0 0] 88 false))=hA.bl by rw[aT]]
 clear aT;have gA:=(s.keep aL).g;unfold m_ at gA;refine Tf (s.st.le aL) (by omega) hM v.op.t _ ?_;intro u h2 bt hu;have n2:=bt.nx;have l2:=bt.lo;have o5:=bt.nx;have o_:=bt.lo;have g1:=bt.up g1;have T2:=(s.keep aL).keep bt;have hu0:=hu;obtain⟨n,c,hu'|⟨x,o,hu'⟩⟩:=hu<;>subst hu'
 all_goals simp(disch:=try exact Y)only[Wz,g1]
 all_goals exact hk _ M ck L 1 0 _ (T2.put g1 (by unfold rY;decide) (by decide) (by omega) _) ((KR.le (aL.trans bt)).set (Nat.le_refl _) _) hu0 (.stay (by unfold MQ;rw[Vy];rintro⟨e|e|e,_⟩<;>revert e<;>decide) (by unfold CT;rw[if_pos Vy]) λe=>absurd (Vy.symm.trans e) (by decide))
end
section
variable {h0 h h':Heap}{ms:List Nat}{A:RA}{M:List HE}{ck:Nat}{L:List W4}{v:RV}{E:EN}{H X:Int->Int->Int}{N:Nat}{D:AD}
theorem aez(s:TC h0 ms A M ck L v h)(Tu:2<=v.op.k/\v.op.k<=6)(ok:tM v.op)(hL:L.length<=1000)(hM:M.length<=1000)(V:KQ)(hk:Kon h0 ms A M L v h V):CallW prog (opF v.op.k) [pt A.rb] h V:=by
 have hl:=ok.2;have:v.op.k=2\/v.op.k=3\/v.op.k=4\/v.op.k=5\/v.op.k=6:=by omega
 rcases this with e|e|e|e|e<;>rw[e]at hl ⊢
 .exact W_ s e V hk
 .exact Tt s e hl hL V hk
 .exact OP s e hl hL V hk
 .exact OQ s e hl hL V hk
 .exact Xa s e hM V hk
theorem apz(s:TC h0 E.a.ms A M ck L v h)(a:AI h E H X N D)(ea:A.ab=E.z.ab)(Tu:2<=v.op.k/\v.op.k<=6)(ok:tM v.op)(hL:L.length<=1000)(hM:M.length<=1000)(V:KQ)(hk:∀h' M' gF L' c vv u b,TC h0 E.a.ms A M' gF L' { v with note:=some b,nx:=none } h'->AI h' E H X N D->KR A.sm h h'->jv u->DoR v.op M M' L L' c vv->V (.tuple ⟨[.bool true,.agg ⟨[.int .i64 c,.int .i64 vv,u]⟩]⟩) h'):CallW prog 201 [pt A.rb] h V:=by
 have W8:=s.lt;have n0:=s.le.nx;have hlo:=s.lo;have g:=s.g;unfold m_ at g;refine av mixed ?_;rw[aaS];simp(disch:=try exact Y)only[Wz,aG,g];obtain⟨hA,aT,aL,g1,g8,dy,dz⟩:=BF h (aa [.int .i64 0,.int .i64 0,.slice none 0 0] 88 false) (aa [.int .i64 0,.int .i64 0,.slice none 0 0] 88 false);rw[<-aT]
 try rw[show((h.bl.aV (h.nx) (aa [.int .i64 0,.int .i64 0,.slice none 0 0] 88 false)).aV (h.nx+1) (aa [.int .i64 0,.int .i64 0,.slice none 0 0] 88 false))=hA.bl by rw[aT]]
 clear aT;refine ajR hA _ (by omega) ?_;intro b h1 bG gb;have n1:=bG.nx;have l1:=bG.lo;have A7:=bG.nx;have A8:=bG.lo;have g1:=bG.up g1;have g8:=bG.up g8;have T1:=(s.keep aL).keep bG;have gR:=T1.g;unfold m_ at gR;have lk:=λ(β:Type)(fl:β)(V:Z7 β)=>ajS (fl:=fl) gb v.op.k Tu V;simp(disch:=try exact Y)only[Wz,aG,gR,lk];refine aez T1 Tu ok hL hM _ ?_;intro h2 M' gF L' c vv u T2 k2 hu dr;have n2:=k2.nx;have l2:=k2.lo;have q1:=k2.cell T1.st.gm (by omega) g1 (by unfold rY;decide);have q8:=k2.cell T1.st.gm (by omega) g8 (by unfold rY;decide);have k02:KR A.sm h h2:=(KR.le (aL.trans bG)).trans k2;have gm:=s.st.gm;obtain⟨ux,un,uc,rfl⟩:∃x n c,u=.slice x n c:=by obtain⟨n,c,rfl|⟨x,o,rfl⟩⟩:=hu<;>exact⟨_,_,_,rfl⟩
 have ca:=CS hu c vv;have qa:=yw hu c vv;have W9:=T2.g;unfold m_ at W9;obtain⟨h3,e3⟩:∃h3:Heap,h3=⟨h2.nx,h2.bl.aV (h.nx+1) (aa [.int .i64 c,.int .i64 vv,.slice ux un uc] 88 false),h2.lo⟩:=⟨_,rfl⟩
 have T3:TC h0 E.a.ms A M' gF L' v h3:=by rw[e3];exact T2.put q8 (by unfold rY;decide) (by decide) (by omega) _
 have k03:KR A.sm h h3:=by rw[e3];exact k02.set (by omega) _
 have n3:h3.nx=h2.nx:=by rw[e3]
 have l3:h3.lo=h2.lo:=by rw[e3]
 have g83:h3.bl.get (h.nx+1)=some (aa [.int .i64 c,.int .i64 vv,.slice ux un uc] 88 false):=by rw[e3];exact T.ah _ _ _
 have g13:h3.bl.get h.nx=some (aa [.int .i64 0,.int .i64 0,.slice none 0 0] 88 false):=by rw[e3];exact(T.aj _ _ (by omega)).trans q1
 have a3:AI h3 E H X N D:=a.kr k03 gm s.sm;simp(disch:=try exact Y)only[Wz,ca,q8,aG,W9];rw[<-e3];clear e3;refine Tq T3 a3 ea v.op c vv hu _ ?_;intro h4 bn T4 k4;have n4:=k4.nx;have l4:=k4.lo;have g84:=k4.cell T3.st.gm (by omega) g83 (by unfold rY;decide);have g14:=k4.cell T3.st.gm (by omega) g13 (by unfold rY;decide);have gR4:=T4.g;have lt4:=T4.lt;have T5:=T4.Kg { v with note:=some bn,nx:=none };have k5:=T4.krV { v with note:=some bn,nx:=none };unfold m_ at gR4;unfold m_ Ud at T5 k5;have hne:A.rb≠h.nx+1:=by omega
 have Nz:A.rb≠h.nx:=by omega
 have cnF:(Value.cells Value.nilFunc).toList=[Value.nilFunc]:=rfl;simp(disch:=try exact Y)only[Wz,aG,gR4,cnF];rw[oL _ _ _ 1 _ _ [Value.nilFunc] _ _ rfl rfl (by simp) lt4.2];simp(disch:=try exact Y)only[Wz,cZ,g84,g14,qa,ca];have g15:(h4.bl.aV A.rb (aa [pt A.ab,.int .i64 0,pt A.lb,pt A.sb,.int .i64 v.op.k,.int .i64 v.op.t,.int .i64 v.op.r,.int .i64 v.op.m,.int .i64 v.op.v,.int .i64 v.op.w,Value.nilFunc,.int .i64 v.kind,.int .i64 v.code,cZ (some bn)] 169 false)).get h.nx=_:=(T.aj _ _ Nz).trans g14;have T6:=T5.put g15 (by unfold rY;decide) (by decide) (by omega) (aa [.int .i64 c,.int .i64 vv,.slice ux un uc] 88 false);have k06:=(((k03.trans k4).trans k5).set (b:=h.nx) (Nat.le_refl _) (aa [.int .i64 c,.int .i64 vv,.slice ux un uc] 88 false))
 exact hk _ M' gF L' c vv _ bn T6 (a.kr k06 gm s.sm) k06 hu dr
end
def eW:List Value:=[.int .i64 0,.int .i64 0,.slice none 0 0]
def er(vs:List Value):bD:=aa vs 88 false
theorem b_:¬lZ 88 false/\¬jO 88 false/\¬D4 88/\¬Ms 88/\¬rY 88:=by
 refine⟨?_,?_,?_,?_,?_⟩
 .unfold lZ;decide
 .unfold jO;decide
 .unfold D4 Ms;decide
 .unfold Ms;decide
 .unfold rY;decide
section
variable {h0 h h':Heap}{ms:List Nat}{A:RA}{M:List HE}{ck:Nat}{L:List W4}{v:RV}{E:EN}
theorem Tv(s:TC h0 ms A M ck L v h)(sZ:v.nx.isSome=true)(V:KQ)(hk:V (.bool true) h)(hr:v.kind≠6->∀κ':Value->Heap->Prop,κ' (.bool true) h->CallW prog 137 [pt A.ab] h κ'):CallW prog 145 [pt A.rb] h V:=by
 have g:=s.g;unfold m_ at g;refine av mixed ?_;rw[aaj];refine tN s _ ?_;rw[sZ];by_cases e:v.kind=6
 .simp(disch:=try exact Y)only[Wz,aG,g,br e];exact hk
 .simp(disch:=try exact Y)only[Wz,aG,g,aZ e];refine hr e _ ?_;exact hk
theorem vj(s:TC h0 ms A M ck L v h){f:FuncId}(sZ:v.nx=some f)(hr:v.kind≠6->∀κ':Value->Heap->Prop,κ' (.bool true) ⟨h.nx+1,h.bl.aV h.nx (er eW),h.lo⟩->CallW prog 137 [pt A.ab] ⟨h.nx+1,h.bl.aV h.nx (er eW),h.lo⟩ κ')(V:KQ)(hb:∀hB,TC h0 ms A M ck L { v with note:=none } hB->KR A.sm h hB->hB.bl.get h.nx=some (er eW)->h.nx<hB.nx->CallW prog f [pt A.rb] hB λw h'=>∃done c vv u,w=.tuple ⟨[.bool done,.agg ⟨[.int .i64 c,.int .i64 vv,u]⟩]⟩/\jv u/\h'.bl.get h.nx=some (er eW)/\h'.lo=h.lo/\V (.tuple ⟨[.bool done,.agg ⟨[.int .i64 c,.int .i64 vv,u]⟩,.int .i64 0]⟩) ⟨h'.nx,h'.bl.aV h.nx (er [.int .i64 c,.int .i64 vv,u]),h'.lo⟩):CallW prog 89 [pt A.rb] h V:=by
 have hlo:=s.lo;have W8:=s.lt;unfold er eW at hr hb;refine av mixed ?_;rw[agU];simp(disch:=try exact Y)only[Wz,jG,LU];have ND:=(Le.refl h).new (aa [.int .i64 0,.int .i64 0,.slice none 0 0] 88 false);have sA:=s.keep ND;refine Tv sA (by rw[sZ];rfl) _ ?_ hr;have gA:=sA.g;have ltA:=sA.lt;have sB:=sA.Kg { v with note:=none };have kB:=(KR.le ND).trans (sA.krV { v with note:=none });have gB:((h.bl.aV h.nx (aa [.int .i64 0,.int .i64 0,.slice none 0 0] 88 false)).aV A.rb (m_ A { v with note:=none })).get h.nx=_:=(T.aj _ _ (by omega)).trans (T.ah _ _ _);have hb:=hb _ sB kB gB (Nat.lt_succ_self _);unfold m_ at gA;unfold m_ cZ at hb;rw[sZ]at gA hb;unfold Ud at gA hb;have gA0:h.bl.get A.rb=_:=(ND.get _ W8.1).symm.trans gA;simp(disch:=try exact Y)only[Wz,LS,aG,gA0,List.cons_append,List.nil_append,List.append_nil];refine CallW.mono hb ?_;rintro w h' ⟨done,c,vv,u,rfl,hu,g',l',k⟩;have qa:=yw hu c vv;obtain⟨ux,un,uc,rfl⟩:∃x n c,u=.slice x n c:=by obtain⟨n,c,rfl|⟨x,o,rfl⟩⟩:=hu<;>exact⟨_,_,_,rfl⟩
 simp(disch:=try exact Y)only[Wz,g',qa];exact k
end
section
variable {h0 h h':Heap}{A:RA}{M:List HE}{ck:Nat}{L:List W4}{v:RV}{E:EN}{Q:(Heap->Prop)->Nat->Heap->Prop}{P:(Heap->Prop)->Nat->Int->Heap->Prop}
structure AN(h h':Heap):Prop where
 nx:h.nx<=h'.nx
 lo:h'.lo=h.lo
 an:∀d vs,d<h.nx->h.bl.get d=some (er vs)->h'.bl.get d=some (er vs)
 hd:∀d vs o,d<h.nx->h.bl.get d=some (aa vs 46 o)->h'.bl.get d=some (aa vs 46 o)
theorem Xb:¬rY 46:=by unfold rY;decide
theorem AN.refl(h:Heap):AN h h:=⟨Nat.le_refl _,rfl,λ_ _ _ g=>g,λ_ _ _ _ g=>g⟩
theorem AN.kr{ha:Heap}{sm:Nat}{es:List MapEntry}{cl:Nat}(a:AN ha h)(n:ha.nx<=h.nx)(k:KR sm h h')(gm:h.bl.get sm=some (.map es cl)):AN ha h':=⟨Nat.le_trans n k.nx,k.lo.trans a.lo,λd vs hd g=>k.cell gm (by omega) (a.an d vs hd g) b_.2.2.2.2,λd vs o hd g=>k.cell gm (by omega) (a.hd d vs o hd g) Xb⟩
theorem AN.aV{ha:Heap}(a:AN ha h){b:Nat}(hb:ha.nx<=b)(ob:bD):AN ha ⟨h.nx,h.bl.aV b ob,h.lo⟩:=⟨a.nx,a.lo,λd vs hd g=>(T.aj _ _ (by omega)).trans (a.an d vs hd g),λd vs o hd g=>(T.aj _ _ (by omega)).trans (a.hd d vs o hd g)⟩
theorem AN.le(l:Le h h'):AN h h':=⟨l.nx,l.lo,λd vs hd g=>(l.get d hd).trans g,λd vs o hd g=>(l.get d hd).trans g⟩
theorem AN.tr{h1 h2:Heap}(x:AN h h1)(y:AN h1 h2):AN h h2:=⟨Nat.le_trans x.nx y.nx,y.lo.trans x.lo,λd vs hd g=>y.an d vs (Nat.lt_of_lt_of_le hd x.nx) (x.an d vs hd g),λd vs o hd g=>y.hd d vs o (Nat.lt_of_lt_of_le hd x.nx) (x.hd d vs o hd g)⟩
theorem AN.fk{ha:Heap}{a':TA}(a:AN ha h)(k:FK a' h h'):AN ha h':=⟨Nat.le_trans a.nx k.nx,k.lo.trans a.lo,λd vs hd g=>(k.ty _ _ _ _ (Nat.lt_of_lt_of_le hd a.nx) (a.an d vs hd g) b_.1 b_.2.1 b_.2.2.2.1).trans (a.an d vs hd g),λd vs o hd g=>(k.ty _ _ _ _ (Nat.lt_of_lt_of_le hd a.nx) (a.hd d vs o hd g) (D4.nt (.inr (.inr rfl))).1 (D4.nt (.inr (.inr rfl))).2 (by unfold Ms;decide)).trans (a.hd d vs o hd g)⟩
def Z2(h0:Heap)(ms:List Nat)(A:RA)(M:List HE)(ck:Nat)(L:List W4)(v:RV)(b b' lo:Nat)(ha:Heap)(h:Heap):Prop:=
 TC h0 ms A M ck L v h/\h.bl.get b=some (er eW)/\h.bl.get b'=some (er eW)/\b<h.nx/\b'<h.nx/\b≠b'/\h.lo=lo/\h0.nx<=b/\h0.nx<=b'/\lo<=b/\lo<=b'/\AN ha h/\ha.nx<=b/\ha.nx<=b'/\ha.nx<=h.nx
theorem Z2.fk(ro:lI h0){a:TA}{b b' lo:Nat}{ha:Heap}(z:Z2 h0 a.ms A M ck L v b b' lo ha h)(k:FK a h h'):Z2 h0 a.ms A M ck L v b b' lo ha h':=by
 obtain⟨z1,z2,z3,z4,z5,z6,z7,z8,z9,z10,z11,z12,Tw,Tx,z15⟩:=z;have n:=k.nx;exact⟨z1.fk ro k,(k.ty _ _ _ _ z4 z2 b_.1 b_.2.1 b_.2.2.2.1).trans z2,(k.ty _ _ _ _ z5 z3 b_.1 b_.2.1 b_.2.2.2.1).trans z3,by omega,by omega,z6,k.lo.trans z7,z8,z9,z10,z11,z12.fk k,Tw,Tx,by omega⟩
theorem Z2.kr{ms:List Nat}{b b' lo:Nat}{ha:Heap}{v':RV}(z:Z2 h0 ms A M ck L v b b' lo ha h)(k:KR A.sm h h')(t:TC h0 ms A M ck L v' h'):Z2 h0 ms A M ck L v' b b' lo ha h':=by
 obtain⟨z1,z2,z3,z4,z5,z6,z7,z8,z9,z10,z11,z12,Tw,Tx,z15⟩:=z;have n:=k.nx;exact⟨t,k.cell z1.st.gm z4 z2 b_.2.2.2.2,k.cell z1.st.gm z5 z3 b_.2.2.2.2,by omega,by omega,z6,k.lo.trans z7,z8,z9,z10,z11,z12.kr z15 k z1.st.gm,Tw,Tx,by omega⟩
theorem TC.YU{ms:List Nat}(s:TC h0 ms A M ck L v h){b:Nat}{vs:List Value}(hg:h.bl.get b=some (er vs))(hb:h0.nx<=b)(ws:List Value):TC h0 ms A M ck L v ⟨h.nx,h.bl.aV b (er ws),h.lo⟩:=s.put hg b_.2.2.2.2 (by decide) hb _
def CU(v:RV)(code:Int):RV:=if code=1 then{ v with note:=none,nx:=some 201,kind:=6 }else{ v with note:=none,code:=code,nx:=some 143,kind:=6 }
theorem Kj(ro:lI h0)(R:OM E A.sm Q P){i:Nat}(q:Q (TC h0 E.a.ms A M ck L v) i h)(sZ:v.nx=some 144)(ea:A.ab=E.z.ab)(V:KQ)(dB:∀h',Q (TC h0 E.a.ms A M ck L { v with note:=none }) (i+1) h'->AN h h'->V (.tuple ⟨[.bool false,.agg ⟨eW⟩,.int .i64 0]⟩) h')(hk2:∀code h',P (TC h0 E.a.ms A M ck L (CU v code)) i code h'->AN h h'->V (.tuple ⟨[.bool false,.agg ⟨eW⟩,.int .i64 0]⟩) h'):CallW prog 89 [pt A.rb] h V:=by
 have s:=R.z _ _ _ q;have hlo:=s.lo;have n0:=s.le.nx;refine vj s sZ (λ_ κ' hk'=>?_) V λhB sB kB gB nB=>?_
 .rw[ea];exact R.ready (TC h0 E.a.ms A M ck L v) i _ κ' (R.kr _ _ i _ _ _ _ q (KR.le ((Le.refl h).new _)) s.st.gm s.sm (s.keep ((Le.refl h).new _))) hk'
 .have loB:=kB.lo;have gR:=sB.g;unfold m_ at gR;have ltB:=sB.lt;have Tk:=sB.lo;refine av mixed ?_;rw[aai];simp(disch:=try exact Y)only[Wz,aG,gR];obtain⟨hC,eC⟩:∃hC:Heap,hC=⟨hB.nx+1,hB.bl.aV hB.nx (er eW),hB.lo⟩:=⟨_,rfl⟩
  have Xc:Le hB hC:=by rw[eC];exact(Le.refl hB).new _
  have gC:hC.bl.get hB.nx=some (er eW):=by rw[eC];exact T.ah _ _ _
  have nC:hC.nx=hB.nx+1:=by rw[eC]
  have loC:hC.lo=hB.lo:=by rw[eC]
  unfold er eW at eC;rw[<-eC];clear eC;have zC:Z2 h0 E.a.ms A M ck L { v with note:=none } h.nx hB.nx h.lo h hC:=⟨sB.keep Xc,(Xc.get _ nB).trans gB,gC,by omega,by omega,by omega,by omega,by omega,by have:=sB.le.nx;omega,by omega,by omega,((AN.refl h).kr (Nat.le_refl _) kB s.st.gm).tr (AN.le Xc),Nat.le_refl _,by omega,by omega⟩
  have qC:=R.kr _ (Z2 h0 E.a.ms A M ck L { v with note:=none } h.nx hB.nx h.lo h) i _ _ _ _ q (kB.trans (KR.le Xc)) s.st.gm s.sm zC;rw[ea]
  have fin:∀(R':(Heap->Prop)->Heap->Prop),(∀Z Z' h x vs t o ob,R' Z h->h.bl.get x=some (aa vs t o)->¬lZ t o->¬jO t o->¬D4 t->Z' ⟨h.nx,h.bl.aV x ob,h.lo⟩->R' Z' ⟨h.nx,h.bl.aV x ob,h.lo⟩)->∀v' h1,Z2 h0 E.a.ms A M ck L v' h.nx hB.nx h.lo h h1->R' (Z2 h0 E.a.ms A M ck L v' h.nx hB.nx h.lo h) h1->
    R' (TC h0 E.a.ms A M ck L v') ⟨h1.nx,(h1.bl.aV hB.nx (er eW)).aV h.nx (er eW),h1.lo⟩/\(h1.bl.aV hB.nx (er eW)).get h.nx=some (er eW):=by
   intro R' pu v' h1 z r;obtain⟨z1,z2,z3,z4,z5,z6,z7,z8,z9,_⟩:=z;have g2:(h1.bl.aV hB.nx (er eW)).get h.nx=some (er eW):=(T.aj _ _ (λe=>z6 e.symm)).trans z2;have t1:=z1.YU z3 z9 eW;have r1:=pu _ (TC h0 E.a.ms A M ck L v') h1 hB.nx _ _ _ (er eW) r z3 b_.1 b_.2.1 b_.2.2.1 t1;exact⟨pu _ _ _ h.nx _ _ _ (er eW) r1 g2 b_.1 b_.2.1 b_.2.2.1 (t1.YU g2 z8 eW),g2⟩
  refine R.step (Z2 h0 E.a.ms A M ck L { v with note:=none } h.nx hB.nx h.lo h) (λz k=>z.fk ro k) i hC _ qC ?_ ?_
  .intro h1 q1;have z1:=R.z _ _ _ q1;obtain⟨f1,f2⟩:=fin (λZ=>Q Z (i+1)) (λZ Z' h x vs t o ob=>R.pu Z Z' (i+1) h x vs t o ob) _ h1 z1 q1;obtain⟨_,z2,z3,z4,z5,z6,z7,z8,z9,z10,z11,z12,Tw,Tx,z15⟩:=z1;refine⟨λl' h'=>h'=h1,?_,?_⟩
   .simp(disch:=try exact Y)only[Wz,uF,zJ]
   .rintro l' h' rfl;unfold er eW at z3;simp(disch:=try exact Y)only[Wz,z3];exact⟨false,0,0,_,rfl,jv.nil,z2,z7,dB _ f1 ((z12.aV Tx _).aV Tw _)⟩
  .intro code h1 p1;have z1:=R.pz _ _ _ _ p1;have T1:=z1.1;refine⟨λl' h'=>P (Z2 h0 E.a.ms A M ck L (CU v code) h.nx hB.nx h.lo h) i code h',?_,?_⟩
   .by_cases hc:code=1
    .have ev:CU v code={ v with note:=none,nx:=some 201,kind:=6 }:=by unfold CU;rw[if_pos hc]
     simp(disch:=try exact Y)only[Wz,uF,br hc];refine vf T1 6 201 _ ?_;intro h3 T3 k3;exact R.pkr _ _ i code _ _ _ _ p1 k3 T1.st.gm T1.sm (z1.kr k3 (by rw[ev];exact T3))
    .have ev:CU v code={ v with note:=none,code:=code,nx:=some 143,kind:=6 }:=by unfold CU;rw[if_neg hc]
     have YV:=T1.g;have lt1:=T1.lt;have T2:=T1.Kg { v with note:=none,code:=code };have k2:=T1.krV { v with note:=none,code:=code };unfold m_ at YV;unfold m_ at T2 k2;simp(disch:=try exact Y)only[Wz,uF,aZ hc,zJ,aG,YV];refine vf T2 6 143 _ ?_;intro h3 T3 k3;exact R.pkr _ _ i code _ _ _ _ p1 (k2.trans k3) T1.st.gm T1.sm (z1.kr (k2.trans k3) (by rw[ev];exact T3))
   .rintro l' h3 p3;have z3:=R.pz _ _ _ _ p3;obtain⟨f1,f2⟩:=fin (λZ h=>P Z i code h) (λZ Z' h x vs t o ob=>R.ppu Z Z' i code h x vs t o ob) _ h3 z3 p3;obtain⟨_,z2,z3,z4,z5,z6,z7,z8,z9,z10,z11,z12,Tw,Tx,z15⟩:=z3;unfold er eW at z3;simp(disch:=try exact Y)only[Wz,z3];exact⟨false,0,0,_,rfl,jv.nil,z2,z7,hk2 code _ f1 ((z12.aV Tx _).aV Tw _)⟩
end
section
variable {h0 h h':Heap}{A:RA}{M:List HE}{ck:Nat}{L:List W4}{v:RV}{E:EN}{Q:(Heap->Prop)->Nat->Heap->Prop}{P:(Heap->Prop)->Nat->Int->Heap->Prop}
theorem Z2.fin{ms:List Nat}{b b' lo:Nat}{ha:Heap}{v':RV}{h1:Heap}(R':(Heap->Prop)->Heap->Prop)(pu:∀Z Z' h x vs t o ob,R' Z h->h.bl.get x=some (aa vs t o)->¬lZ t o->¬jO t o->¬D4 t->Z' ⟨h.nx,h.bl.aV x ob,h.lo⟩->R' Z' ⟨h.nx,h.bl.aV x ob,h.lo⟩)(z:Z2 h0 ms A M ck L v' b b' lo ha h1)(r:R' (Z2 h0 ms A M ck L v' b b' lo ha) h1)(ws O0:List Value):R' (TC h0 ms A M ck L v') ⟨h1.nx,(h1.bl.aV b' (er ws)).aV b (er O0),h1.lo⟩:=by
 obtain⟨z1,z2,z3,z4,z5,z6,z7,z8,z9,_⟩:=z;have g2:(h1.bl.aV b' (er ws)).get b=some (er eW):=(T.aj _ _ (λe=>z6 e.symm)).trans z2;have t1:=z1.YU z3 z9 ws;have r1:=pu _ (TC h0 ms A M ck L v') h1 b' _ _ _ (er ws) r z3 b_.1 b_.2.1 b_.2.2.1 t1;exact pu _ _ _ b _ _ _ (er O0) r1 g2 b_.1 b_.2.1 b_.2.2.1 (t1.YU g2 z8 O0)
theorem Kk(ro:lI h0)(R:OM E A.sm Q P){i:Nat}(q:Q (TC h0 E.a.ms A M ck L v) i h)(sZ:v.nx=some 200)(ea:A.ab=E.z.ab)(V:KQ)(dB:∀h',Q (TC h0 E.a.ms A M ck L { v with note:=none }) (i+1) h'->AN h h'->V (.tuple ⟨[.bool false,.agg ⟨eW⟩,.int .i64 0]⟩) h')(hk2:∀code h',P (TC h0 E.a.ms A M ck L { v with note:=none,nx:=none }) i code h'->AN h h'->V (.tuple ⟨[.bool true,.agg ⟨[.int .i64 v.code,.int .i64 0,.slice none 0 0]⟩,.int .i64 0]⟩) h'):CallW prog 89 [pt A.rb] h V:=by
 have s:=R.z _ _ _ q;have hlo:=s.lo;have n0:=s.le.nx;refine vj s sZ (λ_ κ' hk'=>?_) V λhB sB kB gB nB=>?_
 .rw[ea];exact R.ready (TC h0 E.a.ms A M ck L v) i _ κ' (R.kr _ _ i _ _ _ _ q (KR.le ((Le.refl h).new _)) s.st.gm s.sm (s.keep ((Le.refl h).new _))) hk'
 .have loB:=kB.lo;have gR:=sB.g;unfold m_ at gR;have ltB:=sB.lt;have Tk:=sB.lo;refine av mixed ?_;rw[aaQ];simp(disch:=try exact Y)only[Wz,aG,gR];obtain⟨hC,eC⟩:∃hC:Heap,hC=⟨hB.nx+1,hB.bl.aV hB.nx (er eW),hB.lo⟩:=⟨_,rfl⟩
  have Xc:Le hB hC:=by rw[eC];exact(Le.refl hB).new _
  have gC:hC.bl.get hB.nx=some (er eW):=by rw[eC];exact T.ah _ _ _
  have nC:hC.nx=hB.nx+1:=by rw[eC]
  have loC:hC.lo=hB.lo:=by rw[eC]
  unfold er eW at eC;rw[<-eC];clear eC;have zC:Z2 h0 E.a.ms A M ck L { v with note:=none } h.nx hB.nx h.lo h hC:=⟨sB.keep Xc,(Xc.get _ nB).trans gB,gC,by omega,by omega,by omega,by omega,by omega,by have:=sB.le.nx;omega,by omega,by omega,((AN.refl h).kr (Nat.le_refl _) kB s.st.gm).tr (AN.le Xc),Nat.le_refl _,by omega,by omega⟩
  have qC:=R.kr _ (Z2 h0 E.a.ms A M ck L { v with note:=none } h.nx hB.nx h.lo h) i _ _ _ _ q (kB.trans (KR.le Xc)) s.st.gm s.sm zC;rw[ea];refine R.step (Z2 h0 E.a.ms A M ck L { v with note:=none } h.nx hB.nx h.lo h) (λz k=>z.fk ro k) i hC _ qC ?_ ?_
  .intro h1 q1;have z1:=R.z _ _ _ q1;have f1:=z1.fin (λZ=>Q Z (i+1)) (λZ Z' h x vs t o ob=>R.pu Z Z' (i+1) h x vs t o ob) q1 eW eW;obtain⟨_,z2,z3,z4,z5,z6,z7,z8,z9,z10,z11,z12,Tw,Tx,z15⟩:=z1;unfold er eW at z3;simp(disch:=try exact Y)only[Wz,z3];exact⟨false,0,0,_,rfl,jv.nil,z2,z7,dB _ f1 ((z12.aV Tx _).aV Tw _)⟩
  .intro code h1 p1;have z1:=R.pz _ _ _ _ p1;have T1:=z1.1;have YV:=T1.g;have lt1:=T1.lt;have T2:=T1.Kg { v with note:=none,nx:=none };have k2:=T1.krV { v with note:=none,nx:=none };have p2:=R.pkr _ _ i code _ _ _ _ p1 k2 T1.st.gm T1.sm (z1.kr k2 T2);have zz:=z1.kr k2 T2;have f1:=zz.fin (λZ h=>P Z i code h) (λZ Z' h x vs t o ob=>R.ppu Z Z' i code h x vs t o ob) p2 [.int .i64 v.code,.int .i64 0,.slice none 0 0] [.int .i64 v.code,.int .i64 0,.slice none 0 0];obtain⟨_,z2,z3,z4,z5,z6,z7,z8,z9,z10,z11,z12,Tw,Tx,z15⟩:=zz;have cnF:(Value.cells Value.nilFunc).toList=[Value.nilFunc]:=rfl;have qa:=yw jv.nil v.code 0;have hk2:=hk2 code _ f1 ((z12.aV Tx _).aV Tw _);unfold m_ at YV;unfold m_ Ud at z2 z3 hk2;simp(disch:=try exact Y)only[Wz,F7,aG,YV,cnF];rw[oL _ _ _ 1 _ _ [Value.nilFunc] _ _ rfl rfl (by simp) lt1.2];unfold er eW at z3;simp(disch:=try exact Y)only[Wz,qa,z3];exact⟨true,v.code,0,_,rfl,jv.nil,z2,z7,hk2⟩
theorem Ty{H X:Int->Int->Int}{N:Nat}{D:AD}(s:TC h0 E.a.ms A M ck L v h)(a:AI h E H X N D)(sZ:v.nx=some 201)(Vy:v.kind=6)(ea:A.ab=E.z.ab)(Tu:2<=v.op.k/\v.op.k<=6)(ok:tM v.op)(hL:L.length<=1000)(hM:M.length<=1000)(V:KQ)(hk:∀h' M' gF L' c vv u b,TC h0 E.a.ms A M' gF L' { v with note:=some b,nx:=none } h'->AI h' E H X N D->jv u->DoR v.op M M' L L' c vv->AN h h'->V (.tuple ⟨[.bool true,.agg ⟨[.int .i64 c,.int .i64 vv,u]⟩,.int .i64 0]⟩) h'):CallW prog 89 [pt A.rb] h V:=by
 have n0:=s.le.nx;refine vj s sZ (λe=>absurd Vy e) V λhB sB kB gB nB=>?_;refine apz sB (a.kr kB s.st.gm s.sm) ea Tu ok hL hM _ ?_;intro h1 M' gF L' c vv u b T1 a1 k1 hu dr;have g1:=k1.cell sB.st.gm nB gB b_.2.2.2.2;exact⟨true,c,vv,u,rfl,hu,g1,by have:=k1.lo;have:=kB.lo;omega,hk _ M' gF L' c vv u b (T1.YU g1 n0 _) (a1.ve g1 b_.1 b_.2.1 b_.2.2.1 _) hu dr ((((AN.refl h).kr (Nat.le_refl _) kB s.st.gm).kr kB.nx k1 sB.st.gm).aV (Nat.le_refl _) _)⟩
end
section
variable {h0 h h':Heap}{A:RA}{M:List HE}{ck:Nat}{L:List W4}{v:RV}{E:EN}{x:Int}{N:Nat}{asked has:List L4}{Mn:List (Int × Int)}
theorem TC.bk{ms:List Nat}(s:TC h0 ms A M ck L v h){M':List HE}{gF:Nat}{L':List W4}(lg:kX h0 h' A.lb L')(st:ic h' A.sb A.sm M' gF)(k:KR A.sm h h')(rk:RKp h h')(le:Le h0 h'):TC h0 ms A M' gF L' v h':=
 ⟨⟨Nat.lt_of_lt_of_le s.lt.1 k.nx,by rw[k.lo];exact s.lt.2⟩,rk _ _ _ s.lt.1 s.g,st,lg,s.sm,le,s.hr,s.hs⟩
theorem Tz:¬rY 92:=by unfold rY;decide
theorem OS(ro:lI h0)(s:TC h0 E.a.ms A M ck L v h)(a:AI h E (aO has) (λ_ _=>x) N ⟨x,asked,has,[]⟩)(sZ:v.nx=some 143)(Vy:v.kind=6)(ea:A.ab=E.z.ab)(hx:1<=x)(hN:N<=800)(oh:jJ Mn has)(hM:Mn.length<=19)(la:asked.length<=1000)(sJ:0<=E.z.most/\E.z.most<=8)(hL:L.length<=1000)(V:KQ)(hk:∀h' M' gF b,QGo E x Mn asked N has.length (TC h0 E.a.ms A M' gF [] { v with note:=some b,nx:=some 200,kind:=1 }) 1 h'->AN h h'->eM M'=(if v.op.k=7 then eM M else xF L (eM M))->M'.length<=M.length+L.length->V (.tuple ⟨[.bool false,.agg ⟨eW⟩,.int .i64 0]⟩) h'):CallW prog 89 [pt A.rb] h V:=by
 have n0:=s.le.nx;have hlo:=s.lo;have lh:=oh.len;have R:=go_q (E:=E) (sm:=A.sm) (x:=x) (asked:=asked) (N:=N) hx hM (L0:=has.length) (by omega) hN sJ a.th;refine vj s sZ (λe=>absurd Vy e) V λhB sB kB gB nB=>?_;have loB:=kB.lo;have Tk:=sB.lo;have ltB:=sB.lt;have n0B:=sB.le.nx;refine av mixed ?_;rw[aah];simp(disch:=try exact Y)only[Wz];obtain⟨hD,eD⟩:∃hD:Heap,hD=⟨hB.nx+1+1,(hB.bl.aV hB.nx (aa [.int .i64 0,.int .i64 0,.slice none 0 0] 88 false)).aV (hB.nx+1) (aa [.int .i64 8,.int .i64 (-1),.int .i64 (-1),.int .i64 0,.int .i64 0,.int .i64 0] 92 false),hB.lo⟩:=⟨_,rfl⟩
 have leD:Le hB hD:=by rw[eD];exact((Le.refl hB).new _).new _
 have g1D:hD.bl.get hB.nx=some (er eW):=by rw[eD];exact(T.aj _ _ (by omega)).trans (T.ah _ _ _)
 have g5D:hD.bl.get (hB.nx+1)=some (aa [.int .i64 8,.int .i64 (-1),.int .i64 (-1),.int .i64 0,.int .i64 0,.int .i64 0] 92 false):=by rw[eD];exact T.ah _ _ _
 have nD:hD.nx=hB.nx+1+1:=by rw[eD]
 have loD:hD.lo=hB.lo:=by rw[eD]
 rw[<-eD];clear eD;have TD:=sB.keep leD;have gRD:=TD.g;have gmD:=TD.st.gm;have ltD:=TD.lt;unfold m_ at gRD;refine⟨λl' h'=>∃M' gF o,TC h0 E.a.ms A M' gF [] { v with note:=none } h'/\KR A.sm hB h'/\(h'.bl.get hB.nx=some (er eW)/\hB.nx+1<h'.nx)/\h'.bl.get (hB.nx+1)=some (aa (pJ o) 92 false)/\eM M'=(if v.op.k=7 then eM M else xF L (eM M))/\M'.length<=M.length+L.length,?_,?_⟩
 .by_cases h7:v.op.k=7
  .simp(disch:=try exact Y)only[Wz,zI,aG,gRD,br h7,FI,g5D];have TE:=TD.put g5D Tz (by decide) (by omega) (aa [.int .i64 v.op.k,.int .i64 v.op.t,.int .i64 v.op.r,.int .i64 v.op.m,.int .i64 v.op.v,.int .i64 v.op.w] 92 false);refine MI TE.lg TE.le TE.lo hL _ ?_;intro h1 lg1 k1 rk1 bG;have n1:hD.nx<=h1.nx:=(k1 A.sm).nx;have g5:=(k1 A.sm).cell TE.st.gm (by show hB.nx+1<hD.nx;omega) (T.ah _ _ _) Tz;have g1:=(k1 A.sm).cell TE.st.gm (by show hB.nx<hD.nx;omega) ((T.aj _ _ (by omega)).trans g1D) b_.2.2.2.2;exact⟨M,ck,v.op,TE.lgs lg1 k1 rk1 bG,((KR.le leD).set (b:=hB.nx+1) (by omega) _).trans (k1 A.sm),⟨g1,by omega⟩,g5,by rw[if_pos h7],by omega⟩
  .simp(disch:=try exact Y)only[Wz,zI,aG,gRD,aZ h7,FJ];refine aet TD.lg TD.st TD.le TD.hs TD.lo hL _ ?_;intro h1 M1 Uc lg1 st1 lk1 ln1 k1 rk1 bG;exact⟨M1,Uc,⟨8,-1,-1,0,0,0⟩,TD.bk lg1 st1 k1 rk1 bG,(KR.le leD).trans k1,⟨k1.cell gmD (by omega) g1D b_.2.2.2.2,by have:=k1.nx;omega⟩,k1.cell gmD (by omega) g5D Tz,by rw[if_neg h7];exact lk1,ln1⟩
 .rintro l' h1 ⟨M1,Uc,o,T1,k1,⟨g11,ng⟩,g5,lk1,ln1⟩;have n1:=k1.nx;have l1:=k1.lo;unfold pJ at g5;have a1:=a.kr (kB.trans k1) s.st.gm s.sm;simp(disch:=try exact Y)only[Wz,FM,g5];refine Tq T1 a1 ea o 1 0 jv.nil _ ?_;intro h2 bn T2 k2;have n2:=k2.nx;have l2:=k2.lo;have a2:=a1.kr k2 T1.st.gm T1.sm;have W9:=T2.g;unfold m_ at W9;have gB1:=k1.cell sB.st.gm nB gB b_.2.2.2.2;have z2:Z2 h0 E.a.ms A M1 Uc [] { v with note:=some bn } h.nx hB.nx h.lo h h2:=⟨T2,k2.cell T1.st.gm (by omega) gB1 b_.2.2.2.2,k2.cell T1.st.gm (by omega) g11 b_.2.2.2.2,by omega,by omega,by omega,by omega,by omega,by omega,by omega,by omega,((((AN.refl h).kr (Nat.le_refl _) kB s.st.gm).kr kB.nx k1 sB.st.gm).kr (by have:=kB.nx;omega) k2 T1.st.gm),Nat.le_refl _,by omega,by have:=kB.nx;omega⟩
  simp(disch:=try exact Y)only[Wz,aG,W9];rw[ea];refine To (M:=Mn) hM (Z:=Z2 h0 E.a.ms A M1 Uc [] { v with note:=some bn } h.nx hB.nx h.lo h) (λz k=>z.fk ro k) z2 a2 hx hN oh la sJ _ ?_;intro h3 q3;have z3:=R.z _ _ _ q3;refine vf z3.1 1 200 _ ?_;intro h4 T4 k4;have z4:=z3.kr k4 T4;have q4:=R.kr _ _ 1 _ _ _ _ q3 k4 z3.1.st.gm z3.1.sm z4;have f4:=z4.fin (λZ=>QGo E x Mn asked N has.length Z 1) (λZ Z' h x vs t o ob=>R.pu Z Z' 1 h x vs t o ob) q4 eW eW;obtain⟨_,y2,y3,y4,y5,y6,y7,_,_,_,_,y12,y13,y14,_⟩:=z4;unfold er eW at y3;simp(disch:=try exact Y)only[Wz,y3];exact⟨false,0,0,_,rfl,jv.nil,y2,y7,hk _ M1 Uc bn f4 ((y12.aV y14 _).aV y13 _) lk1 ln1⟩
end
def OpA(o:sK):Prop:=(2<=o.k/\o.k<=8)/\OpG o
def eX(o:sK):Int:=if o.k=2\/o.k=6 then 3 else 6
section
variable {h0 h h':Heap}{A:RA}{M:List HE}{ck:Nat}{L:List W4}{v:RV}{E:EN}{x:Int}{N:Nat}{asked has:List L4}{J:Nat->List L4->List N3->Prop}{F:Nat->List L4->Prop}
theorem Xd(ro:lI h0)(s:TC h0 E.a.ms A M ck L v h)(a:AI h E (aO has) (λ_ _=>x) N ⟨x,asked,has,[]⟩)(ea:A.ab=E.z.ab)(sZ:v.nx=none)(o:sK)(hx:1<=x)(hN:N<=800)(lh:has.length<=1000)(la:asked.length<=1000)(C:Iy x J F)(kh:∀t r,kn (aO has t r)=true)(ka:∀t r,kn (aO asked t r)=true)(st0:tM o->2<=o.k/\o.k<=6->dZ has (gU (aO has) o.t o.r (bN (aO asked o.t o.r) (eX o)))=[]->F 1 has)(st1:tM o->2<=o.k/\o.k<=6->∀p P,dZ has (gU (aO has) o.t o.r (bN (aO asked o.t o.r) (eX o)))=p::P->J 1 has (p::P))(V:KQ)(JN:¬OpA o->∀h',Le h h'->V (.int .i64 2) h')(hkC:(o.k=7\/o.k=8)->∀h',TC h0 E.a.ms A M ck L { v with op:=o,code:=1,nx:=some 143,kind:=6 } h'->AI h' E (aO has) (λ_ _=>x) N ⟨x,asked,has,[]⟩->AN h h'->V (.int .i64 0) h')(hkL:2<=o.k/\o.k<=6->tM o->∀h',ON E x asked o.t o.r (eX o) o.w N J F (TC h0 E.a.ms A M ck L { v with op:=o,code:=1,nx:=some 144,kind:=1 }) 1 h'->AN h h'->V (.int .i64 0) h'):CallW prog 88 [pt A.rb,.agg ⟨pJ o⟩] h V:=by
 have hlo:=s.lo;have W8:=s.lt;have n0:=s.le.nx;refine av mixed ?_;rw[agS];simp(disch:=try exact Y)only[Wz,pJ];obtain⟨hA,aT,aL,g1,dy,dz⟩:=kf h (aa [.int .i64 o.k,.int .i64 o.t,.int .i64 o.r,.int .i64 o.m,.int .i64 o.v,.int .i64 o.w] 92 false);rw[<-aT]
 try rw[show(h.bl.aV (h.nx) (aa [.int .i64 o.k,.int .i64 o.t,.int .i64 o.r,.int .i64 o.m,.int .i64 o.v,.int .i64 o.w] 92 false))=hA.bl by rw[aT]]
 clear aT;have sA:=s.keep aL;have aA:=a.le aL;have gR:=sA.g;have ltA:=sA.lt;unfold m_ at gR;simp(disch:=try exact Y)only[Wz,jG,LR,aG,gR];rw[ea];refine J9 aA _ ?_;simp(disch:=try exact Y)only[Wz,aZ (show ¬x=0 by omega),aG,gR,IA,sZ,Option.isSome_none,LQ,g1];by_cases k1:o.k<=1
 .simp(disch:=try exact Y)only[Wz,aZ (show ¬1<o.k by omega)];exact JN (λq=>by have:=q.1;omega) hA aL
 by_cases k8:8<o.k
 .simp(disch:=try exact Y)only[Wz,br (show 1<o.k by omega),g1,br k8];exact JN (λq=>by have:=q.1;omega) hA aL
 simp(disch:=try exact Y)only[Wz,br (show 1<o.k by omega),g1,aZ k8];refine ao9 o (by omega) hA (by omega) _ ?_;intro e h1 bG he hg;by_cases e0:¬e=0
 .simp(disch:=try exact Y)only[Wz,aZ e0];exact JN (λq=>e0 (hg q.2)) h1 (aL.trans bG)
 have e0:e=0:=Classical.byContradiction e0;have ok:=he e0;have n1:=bG.nx;have l1:=bG.lo;have A7:=bG.nx;have A8:=bG.lo;have g1:=bG.up g1;have T1:=sA.keep bG;have a1:=aA.le bG;have YV:=T1.g;have lt1:=T1.lt;have TE:=T1.Kg { v with op:=o,code:=1 };have kE:=T1.krV { v with op:=o,code:=1 };have aE:=a1.kr kE T1.st.gm T1.sm;have YW:(h1.bl.aV A.rb (m_ A { v with op:=o,code:=1 })).get h.nx=_:=(T.aj _ _ (by omega)).trans g1;unfold m_ at YV TE aE YW kE;simp(disch:=try exact Y)only[Wz,br e0,LP,g1,aG,YV];obtain⟨hE,eE⟩:∃hE:Heap,hE=⟨h1.nx,h1.bl.aV A.rb (aa [pt A.ab,.int .i64 0,pt A.lb,pt A.sb,.int .i64 o.k,.int .i64 o.t,.int .i64 o.r,.int .i64 o.m,.int .i64 o.v,.int .i64 o.w,Ud A.rb v.nx,.int .i64 v.kind,.int .i64 1,cZ v.note] 169 false),h1.lo⟩:=⟨_,rfl⟩
 have TE:TC h0 E.a.ms A M ck L { v with op:=o,code:=1 } hE:=by rw[eE];exact TE
 have aE:AI hE E (aO has) (λ_ _=>x) N ⟨x,asked,has,[]⟩:=by rw[eE];exact aE
 have YW:hE.bl.get h.nx=some (aa [.int .i64 o.k,.int .i64 o.t,.int .i64 o.r,.int .i64 o.m,.int .i64 o.v,.int .i64 o.w] 92 false):=by rw[eE];exact YW
 have kE:KR A.sm h1 hE:=by rw[eE];exact kE
 have gRE:=TE.g;unfold m_ at gRE;have nE:hE.nx=h1.nx:=by rw[eE]
 have lE:hE.lo=h1.lo:=by rw[eE]
 have anE:AN h hE:=(AN.le (aL.trans bG)).kr (aL.trans bG).nx kE T1.st.gm;rw[<-eE];clear eE;refine⟨λl' h'=>HQ hE h'/\2<=o.k/\o.k<=6,?_,?_⟩
 .simp(disch:=try exact Y)only[Wz,LO,YW];refine⟨λl' h'=>HQ hE h'/\∃b,slot l' 2=.bool b/\(b=true<->o.k=7\/o.k=8),?_,?_⟩
  .by_cases e7:o.k=7
   .simp(disch:=try exact Y)only[Wz,br e7];exact⟨rfl,true,rfl,⟨λ_=>.inl e7,λ_=>rfl⟩⟩
   .simp(disch:=try exact Y)only[Wz,aZ e7];exact⟨rfl,decide (o.k=8),rfl,⟨λe=>.inr (of_decide_eq_true e),λe=>decide_eq_true (e.resolve_left e7)⟩⟩
  .rintro l' h' ⟨hq,bb,e2,eb⟩;cases(show hE=h' from hq);by_cases e78:o.k=7\/o.k=8
   .rw[eb.2 e78]at e2;simp(disch:=try exact Y)only[Wz,e2];refine vf TE 6 143 _ ?_;intro h2 T2 k2;exact hkC e78 h2 T2 (aE.kr k2 TE.st.gm TE.sm) (anE.kr anE.nx k2 TE.st.gm)
   .have eb:bb=false:=by cases bb;rfl;exact absurd (eb.1 rfl) e78
    rw[eb]at e2;simp(disch:=try exact Y)only[Wz,e2];exact⟨rfl,by omega,by omega⟩
 .rintro l' h' ⟨hq,k2,k6⟩;cases(show hE=h' from hq);refine⟨λl' h2=>HQ hE h2/\slot l' 8=.int .i64 (eX o),?_,?_⟩
  .by_cases e2:o.k=2
   .have em:eX o=3:=by unfold eX;rw[if_pos (.inl e2)]
    simp(disch:=try exact Y)only[Wz,yl,YW,br e2];exact⟨rfl,by rw[em]⟩
   .by_cases e6:o.k=6
    .have em:eX o=3:=by unfold eX;rw[if_pos (.inr e6)]
     simp(disch:=try exact Y)only[Wz,yl,YW,aZ e2,br e6];exact⟨rfl,by rw[em]⟩
    .have em:eX o=6:=by unfold eX;rw[if_neg (λe=>e.elim e2 e6)]
     simp(disch:=try exact Y)only[Wz,yl,YW,aZ e2,aZ e6];exact⟨rfl,by rw[em]⟩
  .rintro l2 h2 ⟨Ca,e8⟩;cases(show hE=h2 from Ca);have gab:E.z.ab=A.ab:=ea.symm;simp(disch:=try exact Y)only[Wz,LN,aG,gRE,YW,e8];rw[ea];refine OO (Z:=λh'=>TC h0 E.a.ms A M ck L { v with op:=o,code:=1 } h'/\AN h h') (J:=J) (F:=F) (λz k=>⟨z.1.fk ro k,z.2.fk k⟩) ⟨TE,anE⟩ aE hx hN lh la ok.1 ?_ ?_ ?_ kh (ka _ _) (st0 ok ⟨k2,k6⟩) (st1 ok ⟨k2,k6⟩) _ ?_
   .unfold eX;split<;>decide
   .unfold eX;split<;>decide
   .rw[ok.2];unfold jq;split<;>(try split)<;>decide
   .intro h3 q3;have R:=YS (E:=E) (sm:=A.sm) (t:=o.t) (r:=o.r) hx C hN la ok.1 (m:=eX o) (by unfold eX;split<;>decide);obtain⟨T3,an3⟩:=R.z _ _ _ q3;refine vf T3 1 144 _ ?_;intro h4 T4 k4;exact hkL ⟨k2,k6⟩ ok h4 (R.kr _ _ 1 _ _ _ _ q3 k4 T3.st.gm T3.sm T4) (an3.kr an3.nx k4 T3.st.gm)
end
structure RS(h0:Heap)(A:RA)(S:Nat->Heap->Prop)(Post:Nat->Int->Int->Heap->Prop):Prop where
 step:∀j h (V:KQ),S j h->(∀h',S (j+1) h'->AN h h'->V (.tuple ⟨[.bool false,.agg ⟨eW⟩,.int .i64 0]⟩) h')->(∀c vv u h',jv u->Post j c vv h'->AN h h'->V (.tuple ⟨[.bool true,.agg ⟨[.int .i64 c,.int .i64 vv,u]⟩,.int .i64 0]⟩) h')->CallW prog 89 [pt A.rb] h V
 le:∀j h,S j h->j<=79
 lo:∀j h,S j h->h.lo<=h.nx
 sle:∀j h h',S j h->Le h h'->S j h'
 ple:∀j c vv h h',Post j c vv h->Le h h'->Post j c vv h'
 ppu:∀j c vv h b vs ws,Post j c vv h->h.bl.get b=some (er vs)->h0.nx<=b->Post j c vv ⟨h.nx,h.bl.aV b (er ws),h.lo⟩
section
variable {h0 h:Heap}{A:RA}{S:Nat->Heap->Prop}{Post:Nat->Int->Int->Heap->Prop}
theorem Kl(R:RS h0 A S Post){b3:Nat}{ha:Heap}(an0:AN ha h)(ha3:ha.nx<=b3)(hb3:b3<h.nx/\h0.nx<=b3/\h.lo<=b3)(g3:h.bl.get b3=some (er eW))(s:S 1 h)(V:KQ)(hκ:∀j c vv u h',1<=j->jv u->Post j c vv h'->AN ha h'->V (.tuple ⟨[.agg ⟨[.int .i64 c,.int .i64 vv,u]⟩,.int .i64 (j:Int),.bool true]⟩) h'):yf (pt A.rb) b3 h V:=by
 unfold yf;refine⟨λm l h1=>∃j:Nat,slot l 21=.int .i64 (j:Int)/\m=80-j/\1<=j/\S j h1/\h1.bl.get b3=some (er eW)/\b3<h1.nx/\h1.lo<=b3/\AN ha h1,⟨_,1,rfl,rfl,Nat.le_refl _,s,g3,hb3.1,hb3.2.2,an0⟩,?_⟩;rintro m l h1 ⟨j,e21,rfl,j1,s1,g31,n31,l31,an1⟩;have j79:=R.le j h1 s1;simp(disch:=try exact Y)only[Wz,e21,fV (show(j:Int)<80 by omega),Lp];refine R.step j h1 _ s1 ?_ ?_
 .intro h2 s2 an;have n2:=an.nx;have l2:=an.lo;have YC:=R.lo _ _ s2;have TX:=an.an b3 _ n31 g31;unfold eW at TX ⊢;simp(disch:=try exact Y)only[Wz,e21];have W7:=(Le.refl h2).new (aa [.int .i64 0,.int .i64 0,.slice none 0 0] 88 false);exact⟨_,by omega,j+1,by rfl,rfl,by omega,R.sle _ _ _ s2 W7,TX,by show b3<h2.nx+1;omega,by show h2.lo<=b3;omega,(an1.tr an).tr (AN.le W7)⟩
 .intro c vv u h2 hu p2 an;have n2:=an.nx;have l2:=an.lo;have TX:=an.an b3 _ n31 g31;have hu0:=hu;obtain⟨ux,un,uc,rfl⟩:∃x n c,u=.slice x n c:=by obtain⟨n,c,rfl|⟨x,o,rfl⟩⟩:=hu<;>exact⟨_,_,_,rfl⟩
  have W7:=(Le.refl h2).new (aa [.int .i64 c,.int .i64 vv,.slice ux un uc] 88 false);have g33:(h2.bl.aV h2.nx (aa [.int .i64 c,.int .i64 vv,.slice ux un uc] 88 false)).get b3=some (er eW):=(W7.get b3 (by omega)).trans TX;have p3:=R.ppu j c vv _ b3 _ [.int .i64 c,.int .i64 vv,.slice ux un uc] (R.ple _ _ _ _ _ p2 W7) g33 hb3.2.1;have YC:h2.lo<=h2.nx:=by omega
  unfold er eW at TX;unfold er at p3;simp(disch:=try exact Y)only[Wz,e21,TX];exact hκ j c vv _ _ j1 hu0 p3 (((an1.tr an).tr (AN.le W7)).aV ha3 _)
end
structure CX where
 h0:Heap
 E:EN
 A:RA
 x:Int
 M:List HE
 ck:Nat
 L:List W4
 o:sK
 N:Nat
 asked:List L4
 J:Nat->List L4->List N3->Prop
 F:Nat->List L4->Prop
 Hs:List L4->Prop
 Mn:List (Int × Int)
structure Eb(c:CX):Prop where
 ro:lI c.h0
 ea:c.A.ab=c.E.z.ab
 hx:1<=c.x
 most:0<=c.E.z.most/\c.E.z.most<=8
 hN:c.N<=700
 la:c.asked.length<=900
 C:Iy c.x c.J c.F
 hJ:∀i has p P,c.J i has (p::P)->i<=7/\c.Hs has
 hF:∀i has,c.F i has->c.Hs has
 hH:∀has,c.Hs has->jJ c.Mn has
 hMn:c.Mn.length<=19
 hL:c.L.length<=900
 hM:c.M.length<=900
def TF(c:CX)(cd:Int):Prop:=((2<=c.o.k/\c.o.k<=6)/\cd=5/\5<=c.N)\/((c.o.k=7\/c.o.k=8)/\cd=1)
def CX.tc(c:CX)(M:List HE)(ck:Nat)(L:List W4)(v:RV):Heap->Prop:=TC c.h0 c.E.a.ms c.A M ck L v
def CX.as'(c:CX):List L4:=cM c.asked ⟨c.x,c.o.t,c.o.r,bN (aO c.asked c.o.t c.o.r) (eX c.o)⟩
def CX.ai(c:CX)(h:Heap)(has asked:List L4)(N:Nat):Prop:=AI h c.E (aO has) (λ_ _=>c.x) N ⟨c.x,asked,has,[]⟩
def CX.lk(c:CX)(M':List HE):Prop:=eM M'=if c.o.k=7 then eM c.M else xF c.L (eM c.M)
def CX.SL(c:CX)(j:Nat)(h:Heap):Prop:=tM c.o/\(2<=c.o.k/\c.o.k<=6)/\j<=9/\∃nt,ON c.E c.x c.asked c.o.t c.o.r (eX c.o) c.o.w c.N c.J c.F (c.tc c.M c.ck c.L ⟨c.o,some 144,1,1,nt⟩) j h
def CX.SD(c:CX)(j:Nat)(h:Heap):Prop:=tM c.o/\(2<=c.o.k/\c.o.k<=6)/\j<=10/\∃has N nt,c.ai h has c.as' N/\c.tc c.M c.ck c.L ⟨c.o,some 201,6,1,nt⟩ h/\c.Hs has/\N<=c.N+3/\∃i,c.F i has/\j=i+1
def CX.SE(c:CX)(j:Nat)(h:Heap):Prop:=j<=10/\∃has asked N nt cd,c.ai h has asked N/\c.tc c.M c.ck c.L ⟨c.o,some 143,6,cd,nt⟩ h/\c.Hs has/\asked.length<=1000/\N<=c.N+3/\TF c cd
def CX.SG(c:CX)(j:Nat)(h:Heap):Prop:=∃g L0 asked N M' gF nt cd,QGo c.E c.x c.Mn asked N L0 (c.tc M' gF [] ⟨c.o,some 200,1,cd,nt⟩) g h/\j<=10+g/\L0<=19/\N<=c.N+3/\c.lk M'/\M'.length<=1800/\TF c cd/\c.E.z.th=0
def CX.S(c:CX)(j:Nat)(h:Heap):Prop:=c.SL j h\/c.SD j h\/c.SE j h\/c.SG j h
def CX.apJ(c:CX)(j:Nat)(co vv:Int)(h:Heap):Prop:=(2<=c.o.k/\c.o.k<=6)/\∃M' gF L' has N nt,c.tc M' gF L' ⟨c.o,none,6,1,nt⟩ h/\c.ai h has c.as' N/\c.Hs has/\N<=c.N+3/\DoR c.o c.M M' c.L L' co vv/\tM c.o/\∃i,c.F i has/\j=i+1
def CX.Over(c:CX)(co:Int)(h:Heap):Prop:=∃M' gF nt aX X N,c.tc M' gF [] ⟨c.o,none,1,co,nt⟩ h/\AI h c.E (aO aX) X N ⟨0,[],[],aX⟩/\c.lk M'/\M'.length<=1800/\TF c co
def CX.P(c:CX)(j:Nat)(co vv:Int)(h:Heap):Prop:=c.apJ j co vv h\/c.Over co h
section
variable {c:CX}
theorem CX.aq(c:CX)(k:Eb c)(hw:0<=c.o.w):OM c.E c.A.sm (ON c.E c.x c.asked c.o.t c.o.r (eX c.o) c.o.w c.N c.J c.F) λZ i code h=>ad3 c.E Z c.x c.asked c.o.t c.o.r (eX c.o) c.N c.J c.F i code h:=
 YS k.hx k.C (by have:=k.hN;omega) (by have:=k.la;omega) hw (by unfold eX;split<;>decide)
theorem CX.gq(c:CX)(k:Eb c){asked:List L4}{N L0:Nat}(h1:N<=c.N+3)(h2:L0<=19)(h3:c.E.z.th=0):OM c.E c.A.sm (QGo c.E c.x c.Mn asked N L0) λZ i code h=>ajN c.E Z h:=
 go_q k.hx k.hMn h2 (by have:=k.hN;omega) k.most h3
theorem ajW(k:Eb c){Z:Heap->Prop}{i:Nat}{h:Heap}(q:ON c.E c.x c.asked c.o.t c.o.r (eX c.o) c.o.w c.N c.J c.F Z i h):i<=9:=by
 rcases q.2 with⟨n,⟨i0,has,p,P,_,_,_,_,_,e1,hJ,_⟩,n3⟩|⟨e,_⟩
 .have:=(k.hJ i0 has p P hJ).1;omega
 .omega
theorem go_j{Z:Heap->Prop}{asked:List L4}{N L0 g:Nat}{h:Heap}(q:QGo c.E c.x c.Mn asked N L0 Z g h):g<=3*L0+1:=by
 rcases q.2 with⟨n,⟨i0,g',G,_,_,_,_,_,_,_,_,_,_,e1,e2,_⟩,n3⟩|⟨e,_⟩<;>omega
theorem CX.rs(k:Eb c):RS c.h0 c.A c.S c.P:=by
 have hN:=k.hN;have la:=k.la;have hL:=k.hL;have hM:=k.hM;refine⟨λj h V s dB hk2=>?_,λj h s=>?_,λj h s=>?_,λj h h' s l=>?_,λj co vv h h' p l=>?_,λj co vv h b vs ws p g hb=>?_⟩
 .rcases s with⟨ok,Ec,j9,nt,q⟩|⟨ok,Ec,Xe,has,N,nt,a,t,hs,n4,fj⟩|⟨Xe,has,asked,N,nt,cd,a,t,hs,l1,n4,eo⟩|⟨g,L0,asked,N,M',gF,nt,cd,q,jg,Xf,n4,lk,ml,eo,th⟩
  .refine Kj k.ro (c.aq k ok.1) q rfl k.ea V (λh' q' an=>dB h' (.inl ⟨ok,Ec,ajW k q',_,q'⟩) an) λcode h' p an=>dB h' ?_ an;obtain⟨has,asked',N',a,z,hN',⟨e1,e2,hF⟩|⟨e1,e2,h8,i0,p,P,_,hJ⟩⟩:=p
   .subst e1;exact .inr (.inl ⟨ok,Ec,by omega,has,N',_,by rw[e2]at a;exact a,z,k.hF _ _ hF,by omega,j,hF,rfl⟩)
   .subst e1 e2;exact .inr (.inr (.inl ⟨by omega,has,c.asked,N',_,5,a,z,(k.hJ _ _ _ _ hJ).2,by omega,by omega,.inl ⟨Ec,rfl,by omega⟩⟩))
  .refine Ty t a rfl rfl k.ea Ec ok (by omega) (by omega) V λh' M' gF L' co vv u b t' a' hu dr an=>hk2 co vv u h' hu ?_ an;exact .inl ⟨Ec,M',gF,L',has,N,_,t',a',hs,n4,dr,ok,fj⟩
  .have th:=AI.th (show AI h c.E (aO has) (λ_ _=>c.x) N ⟨c.x,asked,has,[]⟩from a);have oh:=k.hH has hs;have ol:=oh.len;have hMn:=k.hMn;refine OS k.ro t a rfl rfl k.ea k.hx (by omega) oh k.hMn l1 k.most (by omega) V λh' M' gF b q an lk ml=>dB h' (.inr (.inr (.inr ?_))) an;exact⟨1,has.length,asked,N,M',gF,_,cd,q,by omega,by omega,n4,lk,by omega,eo,th⟩
  .refine Kk k.ro (c.gq k n4 Xf th) q rfl k.ea V (λh' q' an=>dB h' (.inr (.inr (.inr ⟨g+1,L0,asked,N,M',gF,_,cd,q',by omega,Xf,n4,lk,ml,eo,th⟩))) an) λcode h' p an=>hk2 cd 0 _ h' jv.nil ?_ an;obtain⟨aX,X,N',a,t⟩:=p;exact .inr ⟨M',gF,_,aX,X,N',t,a,lk,ml,eo⟩
 .rcases s with⟨_,_,j9,_⟩|⟨_,_,Xe,_⟩|⟨Xe,_⟩|⟨g,L0,asked,N,M',gF,nt,cd,q,jg,Xf,_⟩
  .omega
  .omega
  .omega
  .have:=go_j q;omega
 .rcases s with⟨ok,_,j9,nt,q⟩|⟨_,_,Xe,has,N,nt,a,t,_⟩|⟨Xe,has,asked,N,nt,cd,a,t,_⟩|⟨g,L0,asked,N,M',gF,nt,cd,q,jg,Xf,n4,lk,ml,eo,th⟩
  .exact(c.aq k ok.1).lo _ _ _ q
  .exact TC.lo t
  .exact TC.lo t
  .exact(c.gq k n4 Xf th).lo _ _ _ q
 .rcases s with⟨ok,Ec,j9,nt,q⟩|⟨ok,Ec,Xe,has,N,nt,a,t,hs,n4,fj⟩|⟨Xe,has,asked,N,nt,cd,a,t,hs,l1,n4,eo⟩|⟨g,L0,asked,N,M',gF,nt,cd,q,jg,Xf,n4,lk,ml,eo,th⟩
  .have t:=(c.aq k ok.1).z _ _ _ q;exact .inl ⟨ok,Ec,j9,nt,(c.aq k ok.1).kr _ _ _ _ _ _ _ q (KR.le l) t.st.gm t.sm (t.keep l)⟩
  .exact .inr (.inl ⟨ok,Ec,Xe,has,N,nt,AI.le a l,t.keep l,hs,n4,fj⟩)
  .exact .inr (.inr (.inl ⟨Xe,has,asked,N,nt,cd,AI.le a l,t.keep l,hs,l1,n4,eo⟩))
  .have t:=(c.gq k n4 Xf th).z _ _ _ q;exact .inr (.inr (.inr ⟨g,L0,asked,N,M',gF,nt,cd,(c.gq k n4 Xf th).kr _ _ _ _ _ _ _ q (KR.le l) t.st.gm t.sm (t.keep l),jg,Xf,n4,lk,ml,eo,th⟩))
 .rcases p with⟨Ec,M',gF,L',has,N,nt,t,a,r⟩|⟨M',gF,nt,aX,X,N,t,a,r⟩
  .exact .inl ⟨Ec,M',gF,L',has,N,nt,t.keep l,AI.le a l,r⟩
  .exact .inr ⟨M',gF,nt,aX,X,N,t.keep l,AI.le a l,r⟩
 .rcases p with⟨Ec,M',gF,L',has,N,nt,t,a,r⟩|⟨M',gF,nt,aX,X,N,t,a,r⟩
  .exact .inl ⟨Ec,M',gF,L',has,N,nt,t.YU g hb ws,AI.ve a g b_.1 b_.2.1 b_.2.2.1 _,r⟩
  .exact .inr ⟨M',gF,nt,aX,X,N,t.YU g hb ws,AI.ve a g b_.1 b_.2.1 b_.2.2.1 _,r⟩
end
section
variable {c:CX}{h:Heap}{v:RV}{has:List L4}
theorem vl(k:Eb c)(s:c.tc c.M c.ck c.L v h)(a:c.ai h has c.asked c.N)(sZ:v.nx=none)(hs:c.Hs has)(kh:∀t r,kn (aO has t r)=true)(ka:∀t r,kn (aO c.asked t r)=true)(lh:has.length<=1000)(st0:tM c.o->2<=c.o.k/\c.o.k<=6->dZ has (gU (aO has) c.o.t c.o.r (bN (aO c.asked c.o.t c.o.r) (eX c.o)))=[]->c.F 1 has)(st1:tM c.o->2<=c.o.k/\c.o.k<=6->∀p P,dZ has (gU (aO has) c.o.t c.o.r (bN (aO c.asked c.o.t c.o.r) (eX c.o)))=p::P->c.J 1 has (p::P))(V:KQ)(JN:¬OpA c.o->∀h',c.tc c.M c.ck c.L v h'->c.ai h' has c.asked c.N->AN h h'->V (.tuple ⟨[.agg ⟨eW⟩,.int .i64 0,.bool false]⟩) h')(hkP:∀j co vv u h',1<=j->jv u->c.P j co vv h'->AN h h'->V (.tuple ⟨[.agg ⟨[.int .i64 co,.int .i64 vv,u]⟩,.int .i64 (j:Int),.bool true]⟩) h'):CallW prog 39 [pt c.A.rb,.agg ⟨pJ c.o⟩] h V:=by
 have hlo:=TC.lo s;have n0:=(show TC _ _ _ _ _ _ _ _ from s).le.nx;have hN:=k.hN;have la:=k.la;refine av mixed ?_;rw[agq];simp(disch:=try exact Y)only[Wz,pJ];obtain⟨hA,aT,aL,g1,g3,dy,dz⟩:=BF h (aa [.int .i64 c.o.k,.int .i64 c.o.t,.int .i64 c.o.r,.int .i64 c.o.m,.int .i64 c.o.v,.int .i64 c.o.w] 92 false) (aa [.int .i64 0,.int .i64 0,.slice none 0 0] 88 false);rw[<-aT]
 try rw[show((h.bl.aV (h.nx) (aa [.int .i64 c.o.k,.int .i64 c.o.t,.int .i64 c.o.r,.int .i64 c.o.m,.int .i64 c.o.v,.int .i64 c.o.w] 92 false)).aV (h.nx+1) (aa [.int .i64 0,.int .i64 0,.slice none 0 0] 88 false))=hA.bl by rw[aT]]
 clear aT;have sA:=TC.keep s aL;have aA:=AI.le a aL;have IY:∀h1,AN hA h1->c.S 1 h1->yf (pt c.A.rb) (h.nx+1) h1 V:=λh1 an s1=>by
  have n1:=an.nx;have l1:=an.lo;exact Kl (CX.rs k) ((AN.le aL).tr an) (Nat.le_succ _) ⟨by omega,by omega,by omega⟩ (an.an _ _ (by omega) g3) s1 V hkP
 refine Xd k.ro sA aA k.ea sZ c.o k.hx (by omega) lh (by omega) k.C kh ka st0 st1 _ ?_ ?_ ?_
 .intro nA h1 bG;have n1:=bG.nx;have l1:=bG.lo;have A7:=bG.nx;have A8:=bG.lo;have g3:=bG.up g3;simp(disch:=try exact Y)only[Wz,g3];exact JN nA _ (TC.YU (sA.keep bG) g3 (by omega) eW) ((aA.le bG).ve g3 b_.1 b_.2.1 b_.2.2.1 _) ((AN.le (aL.trans bG)).aV (Nat.le_succ _) _)
 .intro e78 h1 t1 a1 an;simp(disch:=try exact Y)only[Wz];exact IY h1 an (.inr (.inr (.inl ⟨by decide,has,c.asked,c.N,v.note,1,a1,t1,hs,by omega,by omega,.inr ⟨e78,rfl⟩⟩)))
 .intro Ec ok h1 q1 an;simp(disch:=try exact Y)only[Wz];exact IY h1 an (.inl ⟨ok,Ec,by decide,v.note,q1⟩)
end
def rv0:RV:=⟨⟨0,0,0,0,0,0⟩,none,0,0,none⟩
theorem CV{h0:Heap}(ro:lI h0)(h:Heap)(tQ:Le h0 h)(hlo:h.lo<=h.nx)(V:KQ)(hk:∀h' E A,TC h0 E.a.ms A [] 0 [] rv0 h'->AI h' E (λ_ _=>0) (λ_ _=>1) 0 ⟨1,[],[],[]⟩->A.ab=E.z.ab->E.z.most=2->V (.tuple ⟨[pt A.rb,pt A.sb]⟩) h'):CallW prog 37 [] h V:=by
 have n0:=tQ.nx;refine av mixed ?_;rw[ago];refine Od h _ hlo ?_;intro h1 bG;have n1:=bG.nx;have l1:=bG.lo;refine adg JZ Wh 2 ⟨by decide,by decide⟩ h1 (by omega) _ ?_;intro h2 A a d R nw s2 bt fb;have n2:=bt.nx;have l2:=bt.lo;have YC:=s2.lo;have W:∀y out,WI h2 A a (λ_ _=>0) (λ_ _=>1) 0 0 y out:=λy out=>
  ⟨⟨d,R,0,s2,nw.lone _,nw.bit (by decide),by rw[nw.begun];decide,by rw[nw.begun];decide,by decide,⟨λb hb=>by rw[nw.em b hb];exact Nat.le_refl _,by have:=nw.f;have e:JZ.R=24:=rfl;omega⟩,.inl ⟨rfl,by rw[nw.cs];rfl,λk hk=>by rw[nw.dS,List.getElem?_replicate,if_pos (show k<(JZ.S).toNat from hk)]⟩⟩,by rw[nw.ec];rfl,by have:=nw.hd;have e:JZ.H=8:=rfl;omega⟩
 have OZ:∀y,y∈a.ms->y<h2.nx:=by
  intro y hy;rw[nw.ms]at hy;rcases List.mem_cons.1 hy with rfl|hy
  .exact s2.r.kO.1
  .rcases List.mem_cons.1 hy with rfl|hy
   .exact s2.t.is.BT
   .obtain⟨b,hb,rfl⟩:=List.mem_map.1 hy;exact(s2.t.is.bk b hb).kO
 simp(disch:=try exact Y)only[Wz,Lo];refine av mixed ?_;rw[agN];simp(disch:=try exact Y)only[Wz,fI];rw[oM _ _ _ _ _ _ _ (by rw[pZ];rfl) (Nat.le_of_ble_eq_true rfl),qP];simp(disch:=try exact Y)only[Wz,pZ];obtain⟨h3,e3⟩:∃h3:Heap,h3=⟨h2.nx+1+1,(h2.bl.aV h2.nx (.map [] 0)).aV (h2.nx+1) (aa [.map (some h2.nx)] 175 false),h2.lo⟩:=⟨_,rfl⟩
 have dg:Le h2 h3:=by rw[e3];exact((Le.refl h2).new _).new _
 have gm:h3.bl.get h2.nx=some (.map ([].map pH) 0):=by rw[e3];exact(T.aj _ _ (by omega)).trans (T.ah _ _ _)
 have gb:h3.bl.get (h2.nx+1)=some (aa [.map (some h2.nx)] 175 false):=by rw[e3];exact T.ah _ _ _
 have n3:h3.nx=h2.nx+1+1:=by rw[e3]
 have l3:h3.lo=h2.lo:=by rw[e3]
 rw[<-e3];clear e3;refine av mixed ?_;rw[agQ];have e0:(0:Int)=((0:Nat):Int):=rfl;simp(disch:=try exact Y)only[Wz,rz,LM];refine ad0 (λy o=>(W y o).le dg) (by rw[nw.en];decide) (by rw[nw.ec];decide) _ ?_;intro h4 z s4 em iS;have n4:=iS.nx;have l4:=iS.lo;simp(disch:=try exact Y)only[Wz];refine av mixed ?_;rw[aae];have lo4:h4.lo<=h4.nx:=by omega
 simp(disch:=try exact Y)only[Wz,Bc,jG];obtain⟨h5,e5⟩:∃h5:Heap,h5=⟨h4.nx+1+1,(h4.bl.aV h4.nx (aa [.slice none 0 0] 233 false)).aV (h4.nx+1) (m_ ⟨h4.nx+1,z.ab,h4.nx,h2.nx+1,h2.nx⟩ rv0),h4.lo⟩:=⟨_,rfl⟩
 have vw:Le h4 h5:=by rw[e5];exact((Le.refl h4).new _).new _
 have gl:h5.bl.get h4.nx=some (aa [.slice none 0 0] 233 false):=by rw[e5];exact(T.aj _ _ (by omega)).trans (T.ah _ _ _)
 have gr:h5.bl.get (h4.nx+1)=some (m_ ⟨h4.nx+1,z.ab,h4.nx,h2.nx+1,h2.nx⟩ rv0):=by rw[e5];exact T.ah _ _ _
 have n5:h5.nx=h4.nx+1+1:=by rw[e5]
 have l5:h5.lo=h4.lo:=by rw[e5]
 unfold m_ Ud rv0 cZ at e5;rw[<-e5];clear e5;have aeD:=iS.trans vw;have t5:TC h0 a.ms ⟨h4.nx+1,z.ab,h4.nx,h2.nx+1,h2.nx⟩ [] 0 [] rv0 h5:=
  ⟨⟨by show h4.nx+1<h5.nx;omega,by show h5.lo<=h4.nx+1;omega⟩,gr,⟨⟨by show h2.nx+1<h5.nx;omega,by show h5.lo<=h2.nx+1;omega⟩,(aeD.get _ (by show h2.nx+1<h3.nx;omega)).trans gb,⟨by show h2.nx<h5.nx;omega,by show h5.lo<=h2.nx;omega⟩,(aeD.get _ (by show h2.nx<h3.nx;omega)).trans gm,⟨List.Pairwise.nil,List.Pairwise.nil,λe he=>by cases he⟩⟩,
   ⟨⟨by show h4.nx<h5.nx;omega,by show h5.lo<=h4.nx;omega⟩,by show h0.nx<=h4.nx;omega,⟨_,gl,.inl ⟨rfl,.inl rfl⟩⟩,λp hp=>by cases hp⟩,λhm=>Nat.lt_irrefl _ (OZ _ hm),tQ.trans (bG.trans (bt.trans (dg.trans aeD))),by show h0.nx<=h4.nx+1;omega,by show h0.nx<=h2.nx;omega⟩
 refine av mixed ?_;rw[agR];have gR:=t5.g;unfold m_ at gR;simp(disch:=try exact Y)only[Wz,jG,aG,gR];refine OC (s4.le vw) rfl 1 (by decide) _ ?_;intro h6 s6 f6;simp(disch:=try exact Y)only[Wz];exact hk h6 ⟨A,a,z⟩ ⟨h4.nx+1,z.ab,h4.nx,h2.nx+1,h2.nx⟩ (t5.fk ro f6) s6 rfl (by rw[em,nw.ec];rfl)
theorem Xg{M:List HE}{ck:Nat}(o:dw M ck){LL:List N2}(nd:LL.Nodup)(h:∀t r,(eM M t r).isSome=true<->(t,r)∈LL):M.length=LL.length:=by
 have nd1:(M.map cT).Nodup:=by
  rw[List.Nodup,List.pairwise_map];exact o.nm.imp λhn e=>hn ⟨congrArg Prod.fst e,congrArg Prod.snd e⟩
 have:=((List.perm_ext_iff_of_nodup nd1 nd).2 λp=>by
  rw[<-h p.1 p.2,List.mem_map];constructor
  .rintro⟨e,he,rfl⟩
   show(eM M e.t e.r).isSome=true
   rw[(nQ o e.t e.r e.w).2 ⟨e,he,rfl,rfl,rfl⟩];rfl
  .intro hs;obtain⟨w,hw⟩:=Option.isSome_iff_exists.1 hs;obtain⟨e,he,e1,e2,_⟩:=(nQ o p.1 p.2 w).1 hw;exact⟨e,he,Prod.ext e1 e2⟩).length_eq
 rwa [List.length_map]at this
def P3:List N3:=gU (aO []) 0 1 (bN (aO [] 0 1) 6)
def yy(i:Nat):N3:=P3.getD i (0,0,0)
def G1:List L4:=cM [] (j7 1 [] (yy 0))
def G2:List L4:=cM G1 (j7 1 G1 (yy 1))
def G3:List L4:=cM G2 (j7 1 G2 (yy 2))
def M3:List (Int × Int):=[(-1,-1),(0,-1),(0,1)]
theorem xT:jJ M3 G1/\jJ M3 G2/\jJ M3 G3:=by
 refine⟨⟨by decide +kernel,by decide +kernel,by decide +kernel⟩,⟨by decide +kernel,by decide +kernel,by decide +kernel⟩,⟨by decide +kernel,by decide +kernel,by decide +kernel⟩⟩
def J3(i:Nat)(has:List L4)(P:List N3):Prop:=(i=1/\has=[]/\P=[yy 0,yy 1,yy 2])\/(i=4/\has=G1/\P=[yy 1,yy 2])\/(i=7/\has=G2/\P=[yy 2])
def F3(i:Nat)(has:List L4):Prop:=i=9/\has=G3
theorem YX:dZ (cM [] (j7 1 [] (yy 0))) [yy 0,yy 1,yy 2]=[yy 1,yy 2]:=by decide +kernel
theorem YY:dZ (cM G1 (j7 1 G1 (yy 1))) [yy 1,yy 2]=[yy 2]:=by decide +kernel
theorem ajX:dZ (cM G2 (j7 1 G2 (yy 2))) [yy 2]=[]:=by decide +kernel
theorem YZ:dZ [] P3=[yy 0,yy 1,yy 2]:=by decide +kernel
theorem apK:Iy 1 J3 F3:=by
 refine⟨λi has p P s=>?_,λi has p P s hL=>?_,λi has p P q Q s hL=>?_,λi has p P s t r=>?_⟩
 .rcases s with⟨rfl,rfl,e⟩|⟨rfl,rfl,e⟩|⟨rfl,rfl,e⟩<;>(rw[e];refine⟨by decide,by decide +kernel,by decide +kernel,by unfold rX;decide +kernel,?_⟩)
  .exact(jJ.nil M3).Bq
  .exact xT.1.Bq
  .exact xT.2.1.Bq
 .rcases s with⟨rfl,rfl,e⟩|⟨rfl,rfl,e⟩|⟨rfl,rfl,e⟩
  .rw[e]at hL;cases e;rw[YX]at hL;cases hL
  .rw[e]at hL;cases e;rw[YY]at hL;cases hL
  .cases e;exact⟨rfl,rfl⟩
 .rcases s with⟨rfl,rfl,e⟩|⟨rfl,rfl,e⟩|⟨rfl,rfl,e⟩
  .rw[e]at hL;cases e;rw[YX]at hL;exact .inr (.inl ⟨rfl,rfl,hL.symm⟩)
  .rw[e]at hL;cases e;rw[YY]at hL;exact .inr (.inr ⟨rfl,rfl,hL.symm⟩)
  .rw[e]at hL;cases e;rw[ajX]at hL;cases hL
 .rcases s with⟨rfl,rfl,e⟩|⟨rfl,rfl,e⟩|⟨rfl,rfl,e⟩<;>cases e
  .exact xT.1.Bq t r
  .exact xT.2.1.Bq t r
  .exact xT.2.2.Bq t r
def J0(i:Nat)(has:List L4)(P:List N3):Prop:=False
theorem ajY(x:Int)(F:Nat->List L4->Prop):Iy x J0 F:=⟨λ_ _ _ _ s=>s.elim,λ_ _ _ _ s=>s.elim,λ_ _ _ _ _ _ s=>s.elim,λ_ _ _ _ s=>s.elim⟩
def Y0:List L4:=cM [] ⟨1,0,1,bN (aO [] 0 1) 6⟩
theorem aeE:jJ M3 Y0:=⟨by decide +kernel,by decide +kernel,by decide +kernel⟩
theorem ajZ:gU (aO G3) 0 1 (bN (aO Y0 0 1) 3)=[]:=by decide +kernel
theorem TG(k t r v:Int)(h:Heap)(V:KQ)(hlo:h.lo<=h.nx)(hk:∀h',Le h h'->V (.agg ⟨pJ ⟨k,t,r,0,v,0⟩⟩) h'):CallW prog 83 [.int .i64 k,.int .i64 t,.int .i64 r,.int .i64 v] h V:=by
 refine av mixed ?_;rw[agL];simp(disch:=try exact Y)only[Wz];obtain⟨hA,aT,aL,g1,dy,dz⟩:=kf h (aa [.int .i64 0,.int .i64 0,.int .i64 0,.int .i64 0,.int .i64 0,.int .i64 0] 92 false);rw[<-aT]
 try rw[show(h.bl.aV (h.nx) (aa [.int .i64 0,.int .i64 0,.int .i64 0,.int .i64 0,.int .i64 0,.int .i64 0] 92 false))=hA.bl by rw[aT]]
 clear aT;refine ad4 t r hA _ (by omega) ?_;intro h1 bG;have n1:=bG.nx;have l1:=bG.lo;have A7:=bG.nx;have A8:=bG.lo;have g1:=bG.up g1;simp(disch:=try exact Y)only[Wz,cV,g1];exact hk _ ((aL.trans bG).set (Nat.le_refl _) _)
theorem aeF(k:Int)(h:Heap)(V:KQ)(hlo:h.lo<=h.nx)(hk:∀h',Le h h'->V (.agg ⟨pJ ⟨k,-1,-1,0,0,0⟩⟩) h'):CallW prog 46 [.int .i64 k] h V:=by
 refine av mixed ?_;rw[agv];simp(disch:=try exact Y)only[Wz];obtain⟨hA,aT,aL,g1,dy,dz⟩:=kf h (aa [.int .i64 0,.int .i64 0,.int .i64 0,.int .i64 0,.int .i64 0,.int .i64 0] 92 false);rw[<-aT]
 try rw[show(h.bl.aV (h.nx) (aa [.int .i64 0,.int .i64 0,.int .i64 0,.int .i64 0,.int .i64 0,.int .i64 0] 92 false))=hA.bl by rw[aT]]
 clear aT;refine ajb hA _ (by omega) ?_;intro h1 bG;have n1:=bG.nx;have l1:=bG.lo;have A7:=bG.nx;have A8:=bG.lo;have g1:=bG.up g1;simp(disch:=try exact Y)only[Wz,cV,g1];exact hk _ ((aL.trans bG).set (Nat.le_refl _) _)
theorem Ed(o:sK)(f:Int->Int->Option Int)(L:List W4):(Ue o f L).length<=L.length+1:=by
 unfold Ue;split
 .simp
 .omega
def o1:sK:=⟨4,0,1,0,5,0⟩
def o2:sK:=⟨2,0,1,0,0,0⟩
def o3:sK:=⟨7,-1,-1,0,0,0⟩
def as4:List L4:=cM Y0 ⟨1,0,1,bN (aO Y0 0 1) 3⟩
theorem aeG:jJ M3 as4:=⟨by decide +kernel,by decide +kernel,by decide +kernel⟩
theorem Km:OpA o1/\OpA o2/\OpA o3:=by unfold OpA OpG;decide +kernel
theorem OT{h0:Heap}(ro:lI h0)(h:Heap)(tQ:Le h0 h)(hlo:h.lo<=h.nx)(V:KQ)(hk:∀h',Le h0 h'->V (.bool true) h'):CallW prog 36 [] h V:=by
 refine av mixed ?_;rw[agn];refine CV ro h tQ hlo _ ?_;intro h1 E A t1 a1 ea em;have YD:=t1.lo;simp(disch:=try exact Y)only[Wz,jG,Ln];refine TG 4 0 1 5 h1 _ YD ?_;intro h2 bt;have t2:=t1.keep bt;have a2:=a1.le bt;have k1:Eb ⟨h0,E,A,1,[],0,[],o1,0,[],J3,F3,jJ M3,M3⟩:=
  ⟨ro,ea,Int.le_refl 1,by show 0<=E.z.most/\E.z.most<=8;omega,Nat.zero_le _,Nat.zero_le _,apK,λi has p P s=>by
   rcases s with⟨rfl,rfl,_⟩|⟨rfl,rfl,_⟩|⟨rfl,rfl,_⟩
   .exact⟨by decide,jJ.nil M3⟩
   .exact⟨by decide,xT.1⟩
   .exact⟨by decide,xT.2.1⟩,λi has s=>by rw[s.2];exact xT.2.2,λhas s=>s,by show M3.length<=19;decide,Nat.zero_le _,Nat.zero_le _⟩
 refine vl k1 (v:=rv0) (has:=[]) t2 a2 rfl (jJ.nil M3) (jJ.nil M3).Bq (jJ.nil M3).Bq (by decide) ?_ ?_ _ ?_ ?_
 .intro _ _ e;have e:dZ [] P3=[]:=e;rw[YZ]at e;cases e
 .intro _ _ p P e;have e:dZ [] P3=p::P:=e;rw[YZ]at e;exact .inl ⟨rfl,rfl,e.symm⟩
 .intro nA;exact absurd Km.1 nA
 intro j co vv u h3 j1 hu p3 an3;obtain⟨_,M1,Uc,L1,has,N1,nt1,t3,a3,TY,n3,dr3,_,i,⟨rfl,rfl⟩,rfl⟩|⟨_,_,_,_,_,_,_,_,_,_,eo⟩:=p3
 rotate_left
 .rcases eo with⟨_,_,e⟩|⟨e|e,_⟩
  .exact absurd e (Nat.not_succ_le_zero _)
  .exact absurd (show(4:Int)=7 from e) (by decide)
  .exact absurd (show(4:Int)=8 from e) (by decide)
 have co1:co=1:=dr3.co;subst co1;have t3:TC h0 E.a.ms A M1 Uc L1 ⟨o1,none,6,1,nt1⟩ h3:=t3;have a3:AI h3 E (aO G3) (λ_ _=>1) N1 ⟨1,Y0,G3,[]⟩:=a3;have n3:N1<=3:=by have:N1<=0+3:=n3;omega
 have lk3:eM M1=Bh (eM []) 0 1 (some 5):=dr3.lk;have ln3:M1.length<=1:=dr3.ln;have ll3:L1.length<=1:=by rw[dr3.lg];exact Ed o1 _ []
 have e10:((9+1:Nat):Int)=10:=rfl;rw[e10];have lo3:=t3.lo;obtain⟨ux,un,uc,rfl⟩:∃x n c,u=.slice x n c:=by obtain⟨n,c,rfl|⟨x,o,rfl⟩⟩:=hu<;>exact⟨_,_,_,rfl⟩
 simp(disch:=try exact Y)only[Wz];obtain⟨h4,e4⟩:∃h4:Heap,h4=⟨h3.nx+1,h3.bl.aV h3.nx (aa [.int .i64 1,.int .i64 vv,.slice ux un uc] 88 false),h3.lo⟩:=⟨_,rfl⟩
 have iS:Le h3 h4:=by rw[e4];exact(Le.refl h3).new _
 have g4:h4.bl.get h3.nx=some (er [.int .i64 1,.int .i64 vv,.slice ux un uc]):=by rw[e4];exact T.ah _ _ _
 have n4:h4.nx=h3.nx+1:=by rw[e4]
 rw[<-e4];clear e4;refine TG 2 0 1 0 h4 _ (t3.keep iS).lo ?_;intro h5 vw;have avw:=AN.le vw;have k2:Eb ⟨h0,E,A,1,M1,Uc,L1,o2,N1,Y0,J0,λi has=>i=1/\has=G3,λhas=>has=G3,M3⟩:=
  ⟨ro,ea,Int.le_refl 1,by show 0<=E.z.most/\E.z.most<=8;omega,by show N1<=700;omega,by show Y0.length<=900;decide +kernel,ajY _ _,(λi has p P s=>s.elim),λi has s=>s.2,λhas s=>by rw[s];exact xT.2.2,by show M3.length<=19;decide,by show L1.length<=900;omega,by show M1.length<=900;omega⟩
 refine vl k2 (v:=⟨o1,none,6,1,nt1⟩) (has:=G3) ((t3.keep iS).keep vw) ((a3.le iS).le vw) rfl rfl xT.2.2.Bq aeE.Bq (by decide +kernel) (λ_ _ _=>⟨rfl,rfl⟩) ?_ _ ?_ ?_
 .intro _ _ p P e;have e:dZ G3 (gU (aO G3) 0 1 (bN (aO Y0 0 1) 3))=p::P:=e;rw[ajZ]at e;cases e
 .intro nA;exact absurd Km.2.1 nA
 intro j co vv2 u2 h6 j1' Uo p6 an6;obtain⟨_,M2,Tl,L2,has,N2,nt2,t6,a6,hs6,n6,dr6,_,i,⟨rfl,rfl⟩,rfl⟩|⟨_,_,_,_,_,_,_,_,_,_,eo⟩:=p6
 rotate_left
 .rcases eo with⟨_,_,e⟩|⟨e|e,_⟩
  .exact absurd (show 5<=N1 from e) (by omega)
  .exact absurd (show(2:Int)=7 from e) (by decide)
  .exact absurd (show(2:Int)=8 from e) (by decide)
 have f1:eM M1 0 1=some 5:=by rw[lk3];rfl
 have co1:co=1:=by rw[dr6.co];show CT o2 (eM M1)=1;unfold CT;rw[if_neg (by decide),if_neg (by decide)];show(if(eM M1 0 1).isSome=true then(1:Int)else 7)=1;rw[f1];rfl
 have v1:vv2=5:=by rw[dr6.va rfl co1];show(eM M1 0 1).getD 0=5;rw[f1];rfl
 subst co1 v1;have t6:TC h0 E.a.ms A M2 Tl L2 ⟨o2,none,6,1,nt2⟩ h6:=t6;have a6:AI h6 E (aO G3) (λ_ _=>1) N2 ⟨1,as4,G3,[]⟩:=a6;have n6:N2<=N1+3:=n6;have lk6:eM M2=eM M1:=dr6.lk;have ln6:M2.length<=M1.length+1:=dr6.ln;have ll6:L2.length<=L1.length+1:=by rw[dr6.lg];exact Ed o2 _ L1
 have e2:((1+1:Nat):Int)=2:=rfl;rw[e2];have lo6:=t6.lo;have n5:=vw.nx;have n6':=an6.nx;have g6:=an6.an _ _ (by omega) (vw.up g4);obtain⟨wx,wn,wc,rfl⟩:∃x n c,u2=.slice x n c:=by obtain⟨n,c,rfl|⟨x,o,rfl⟩⟩:=Uo<;>exact⟨_,_,_,rfl⟩
 simp(disch:=try exact Y)only[Wz];obtain⟨h7,e7⟩:∃h7:Heap,h7=⟨h6.nx+1,h6.bl.aV h6.nx (aa [.int .i64 1,.int .i64 5,.slice wx wn wc] 88 false),h6.lo⟩:=⟨_,rfl⟩
 have T8:Le h6 h7:=by rw[e7];exact(Le.refl h6).new _
 have g7:h7.bl.get h6.nx=some (er [.int .i64 1,.int .i64 5,.slice wx wn wc]):=by rw[e7];exact T.ah _ _ _
 have n7:h7.nx=h6.nx+1:=by rw[e7]
 rw[<-e7];clear e7;refine aeF 7 h7 _ (t6.keep T8).lo ?_;intro h8 le8;have k3:Eb ⟨h0,E,A,1,M2,Tl,L2,o3,N2,as4,J0,λ_ _=>False,λhas=>has=G3,M3⟩:=
  ⟨ro,ea,Int.le_refl 1,by show 0<=E.z.most/\E.z.most<=8;omega,by show N2<=700;omega,by show as4.length<=900;decide +kernel,ajY _ _,(λi has p P s=>s.elim),λi has s=>s.elim,λhas s=>by rw[s];exact xT.2.2,by show M3.length<=19;decide,by show L2.length<=900;omega,by show M2.length<=900;omega⟩
 refine vl k3 (v:=⟨o2,none,6,1,nt2⟩) (has:=G3) ((t6.keep T8).keep le8) ((a6.le T8).le le8) rfl rfl xT.2.2.Bq aeG.Bq (by decide +kernel) (λ_ e _=>absurd e.2 (by show ¬(7:Int)<=6;decide)) (λ_ e=>absurd e.2 (by show ¬(7:Int)<=6;decide)) _ ?_ ?_
 .intro nA;exact absurd Km.2.2 nA
 intro j co vv3 u3 h9 avA hu3 p9 an9;obtain⟨e,_⟩|⟨M4,ck4,nt4,aX,X,N4,t9,a9,lk9,_,eo⟩:=p9
 .exact absurd e.2 (by show ¬(7:Int)<=6;decide)
 have co1:co=1:=by
  rcases eo with⟨e,_⟩|⟨_,e⟩
  .exact absurd e.2 (by show ¬(7:Int)<=6;decide)
  .exact e
 subst co1;have t9:TC h0 E.a.ms A M4 ck4 [] ⟨o3,none,1,1,nt4⟩ h9:=t9;have a9:AI h9 E (aO aX) X N4 ⟨0,[],[],aX⟩:=a9;have lk9:eM M4=eM M2:=lk9;have l1:M4.length=1:=Xg t9.st.ok (LL:=[(0,1)]) (by decide) λt r=>by
  rw[lk9,lk6,lk3];unfold Bh;by_cases e:t=0/\r=1
  .rw[if_pos e,e.1,e.2];simp
  .rw[if_neg e];constructor
   .intro hh;exact absurd hh (by show ¬(none:Option Int).isSome=true;decide)
   .intro hh;rw[List.mem_singleton]at hh;exact absurd ⟨congrArg Prod.fst hh,congrArg Prod.snd hh⟩ e
 have n8:=le8.nx;have n9:=an9.nx;have lo9:=t9.lo;have q10:=an9.an _ _ (by omega) (le8.up (T8.up g6));have q18:=an9.an _ _ (by omega) (le8.up g7);obtain⟨yx,yn,yc,rfl⟩:∃x n c,u3=.slice x n c:=by obtain⟨n,c,rfl|⟨x,o,rfl⟩⟩:=hu3<;>exact⟨_,_,_,rfl⟩
 simp(disch:=try exact Y)only[Wz];have leE:=(Le.refl h9).new (aa [.int .i64 1,.int .i64 vv3,.slice yx yn yc] 88 false);unfold er at q10 q18;simp(disch:=try exact Y)only[Wz,q10,q18];refine Kh (t9.keep leE) (a9.le leE) ea _ ?_;simp(disch:=try exact Y)only[Wz];refine W0 (t9.keep leE).st (t9.keep leE).lo (by omega) _ ?_;intro hF leF;rw[l1];simp(disch:=try exact Y)only[Wz];exact hk _ ((t9.keep leE).le.trans leF)
structure JL(M:List (Int × Int))(i:Nat)(has:List L4)(P:List N3):Prop where
 i1:1<=i
 le:i+3*P.length<=10
 ok:jJ M has
 nd:rX P
 sub:∀p∈P,(p.1,p.2.1)∈M
def FL(M:List (Int × Int))(i:Nat)(has:List L4):Prop:=jJ M has
theorem TI{a b:Int}(ha:kn a=true)(hb:kn b=true):lN (bN a b) b=true:=by
 have key:∀i:Nat,i<7->∀j:Nat,j<7->lN (bN (i:Nat) (j:Nat)) (j:Nat)=true:=by decide +kernel
 obtain⟨i,hi,rfl⟩:=iY ha;obtain⟨j,hj,rfl⟩:=iY hb;exact key i hi j hj
section
variable {M:List (Int × Int)}{has:List L4}{x:Int}{p:N3}{P:List N3}
theorem Kn(s:jJ M has)(ok:bf p.1 p.2.1≠-1/\kn p.2.2=true/\p.2.2≠0)(hm:(p.1,p.2.1)∈M):jJ M (cM has (j7 x has p)):=by
 obtain⟨q1,q2,_⟩:=ki (s.Bq p.1 p.2.1) ok.2.1 ok.2.2;exact s.put ⟨ok.1,q2,q1⟩ hm
theorem Xh(s:jJ M has)(ok:bf p.1 p.2.1≠-1/\kn p.2.2=true/\p.2.2≠0):mT (cM has (j7 x has p)) p=true:=by
 obtain⟨q1,q2,_⟩:=ki (s.Bq p.1 p.2.1) ok.2.1 ok.2.2;have e:aO (cM has (j7 x has p)) p.1 p.2.1=bN (aO has p.1 p.2.1) p.2.2:=by
  rw[me,if_pos ⟨rfl,rfl⟩];rfl
 unfold mT;rw[e,TI (s.Bq _ _) ok.2.1,decide_eq_true q1];rfl
theorem Xi(s:jJ M has)(ok:bf p.1 p.2.1≠-1/\kn p.2.2=true/\p.2.2≠0):dZ (cM has (j7 x has p)) (p::P)=dZ (cM has (j7 x has p)) P:=by
 unfold dZ;rw[List.filter_cons,Xh s ok];rfl
theorem apN(hM:M.length<=19):Iy x (JL M) (FL M):=by
 refine⟨λi has p P s=>?_,λi has p P s _=>?_,λi has p P q Q s hL=>?_,λi has p P s t r=>?_⟩
 .have h1:=s.ok.len;have h2:=s.le;exact⟨by omega,by omega,by omega,s.nd,s.ok.Bq⟩
 .exact Kn s.ok (s.nd p (.head _)) (s.sub p (.head _))
 .rw[Xi s.ok (s.nd p (.head _))]at hL;have h3:(dZ (cM has (j7 x has p)) P).length<=P.length:=wL _ _;rw[hL]at h3;have h2:=s.le;have hs:∀y∈q::Q,y∈P:=λy hy=>(List.mem_filter.1 (by rw[<-hL]at hy;exact hy)).1;refine⟨by omega,?_,Kn s.ok (s.nd p (.head _)) (s.sub p (.head _)),λy hy=>s.nd y (.tail _ (hs y hy)),λy hy=>s.sub y (.tail _ (hs y hy))⟩;simp only[List.length_cons]at *
  omega
 .exact(Kn s.ok (s.nd p (.head _)) (s.sub p (.head _))).Bq t r
theorem TJ(s:jJ M has)(t r:Int):aO has t r≠0<->(t,r)∈has.map iK:=by
 constructor
 .intro h;obtain⟨p,hp,rfl,rfl,_⟩:=wN h;exact List.mem_map.2 ⟨p,hp,rfl⟩
 .intro h;obtain⟨p,hp,e⟩:=List.mem_map.1 h;have e1:p.t=t:=congrArg Prod.fst e;have e2:p.r=r:=congrArg Prod.snd e;rw[<-e1,<-e2,s.mode hp];exact(s.ok p hp).2.2
end
theorem Xj{a b:Int}(ha:kn a=true)(hb:kn b=true):a<=bN a b:=by
 have key:∀i:Nat,i<7->∀j:Nat,j<7->(i:Int)<=bN (i:Nat) (j:Nat):=by decide +kernel
 obtain⟨i,hi,rfl⟩:=iY ha;obtain⟨j,hj,rfl⟩:=iY hb;exact key i hi j hj
def sg(Bk has:List L4):Prop:=∀t r,aO Bk t r<=aO has t r
theorem sg.put{Mn:List (Int × Int)}{Bk has:List L4}{x:Int}{p:N3}(m:sg Bk has)(s:jJ Mn has)(hp:kn p.2.2=true):sg Bk (cM has (j7 x has p)):=by
 intro t r;rw[me];split
 .rename_i e;have h1:=m t r;have e1:p.1=t:=e.1;have e2:p.2.1=r:=e.2
  show _<=bN (aO has p.1 p.2.1) p.2.2
  have:=Xj (s.Bq p.1 p.2.1) hp;rw[e1,e2]at this ⊢;omega
 .exact m t r
def JT(Mn:List (Int × Int))(Bk:List L4)(i:Nat)(has:List L4)(P:List N3):Prop:=JL Mn i has P/\sg Bk has
def FT(Mn:List (Int × Int))(Bk:List L4)(i:Nat)(has:List L4):Prop:=jJ Mn has/\sg Bk has
theorem apO{Mn:List (Int × Int)}{Bk:List L4}{x:Int}(hM:Mn.length<=19):Iy x (JT Mn Bk) (FT Mn Bk):=by
 have C:=apN (x:=x) hM;exact⟨λi has p P s=>C.bnd i has p P s.1,λi has p P s h=>⟨C.fin i has p P s.1 h,s.2.put s.1.ok (s.1.nd p (.head _)).2.1⟩,λi has p P q Q s h=>⟨C.nxt i has p P q Q s.1 h,s.2.put s.1.ok (s.1.nd p (.head _)).2.1⟩,λi has p P s=>C.kn i has p P s.1⟩
theorem Ko{h:Heap}{A:WA}{a:TA}{X:Int->Int->Int}{N n:Nat}{y:iz}{out:Int}{has:List L4}{Mn:List (Int × Int)}(s:WI h A a (aO has) X N n y out)(oh:jJ Mn has):has.length<=16:=by
 obtain⟨⟨d,R,N0,s1,L,_⟩,cS,hd⟩:=s;have h3:((d.Ts.flatMap λb=>b.M.map cT)).Perm (has.map iK):=by
  refine(List.perm_ext_iff_of_nodup s1.t.nodup oh.nd).2 λp=>?_;rw[<-TJ oh p.1 p.2,List.mem_flatMap];constructor
  .rintro⟨b,hb,hp⟩;obtain⟨e,he,rfl⟩:=List.mem_map.1 hp;exact(L.one b hb e he).choose_spec.2
  .intro hn;obtain⟨b,hb,e,he,e1,e2⟩:=L.all p.1 p.2 hn;exact⟨b,hb,List.mem_map.2 ⟨e,he,Prod.ext e1 e2⟩⟩
 have h4:=h3.length_eq;rw[List.length_map]at h4;have h5:∀T:List TB,(∀b∈T,b.M.length<=8)->(T.flatMap λb=>b.M.map cT).length<=8*T.length:=by
  intro T
  induction T with
  |nil=>intro _;simp
  |cons b T ih=>
   intro hT;have h1:=ih λx hx=>hT x (.tail _ hx);have h2:=hT b (.head _);rw[List.flatMap_cons,List.length_append,List.length_map,List.length_cons];omega
 have h6:=h5 d.Ts λb hb=>by have:=s1.t.len b hb;omega
 have h7:=s1.t.is.cS;omega
end Go.Proofs
end
