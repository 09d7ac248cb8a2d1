/-
  PROVED HERE: a part of the proof (SCl, TY3, TY4, TX27, TY5, TY6, TY7, TY8, TY9, A23).
-/
import Derived.Test.YtmllggkhfmjpgaaGreatDoorG3
import Derived.Shelf.SlMaps.Clone
import Derived.Test.YtmllggkhfmjpgaaGreatDoorG9
import Derived.Test.YtmllggkhfmjpgaaGreatDoorSRC
import Derived.Test.YtmllggkhfmjpgaaGreatDoorG2
import Derived.Test.YtmllggkhfmjpgaaGreatDoorRows
set_option linter.unusedVariables false
set_option linter.unusedSimpArgs false
set_option maxRecDepth 100000
set_option maxHeartbeats 4000000
namespace Go.Vai
open Go
theorem Kx{P:Program}{f:FuncId}(enters:∀args w,(callFunc f args).run P w=.ok (.enter f args) w)(law:∀(b:Nat)(es:Array MapEntry)(clock:Nat)(w:World),w.heap[b]? = some (.map es clock)->Calls P f #[.map (some b)] w λe w'=>e=.returned (.map (some w.heap.size))/\w'=w.alloc (.map es clock)){h:af}{b:Nat}{es:List MapEntry}{clock:Nat}(hb:h.bl.get b=some (.map es clock)){V:KQ}(hk:V (.map (some h.nx)) ⟨h.nx+1,h.bl.a_ h.nx (.map es clock),h.lo⟩):av P f [.map (some b)] h V:=by
 intro φ w args' ha hr;cases ha with|cons hs ha=>
 cases ha;cases hs with|map hp=>
 obtain⟨es',hO,h2⟩:=hr.pV hb hp;refine⟨enters _ _,(law _ es' clock w hO).mono ?_⟩;rintro e w' ⟨rfl,rfl⟩;obtain⟨g1,g2⟩:=hr.fresh (Nat.le_refl _) (o:=.map es clock) (O:=.map es' clock) 0 0 ⟨rfl,h2⟩ trivial;exact⟨_,.map (some h.nx),_,_,rfl,hk,VR.map (eW _ _ _),g1,g2⟩
end Go.Vai

namespace Go.Proofs
open Go.Vai Go.Clashes
open Tryz (prog)
theorem Wg{h:af}{b:Nat}{es:List MapEntry}{clock:Nat}(hb:h.bl.get b=some (.map es clock)){V:KQ}(hk:V (.map (some h.nx)) ⟨h.nx+1,h.bl.a_ h.nx (.map es clock),h.lo⟩):av prog 92 [.map (some b)] h V:=
 Kx (f:=92) (enters_of Tryz.func92 (by kernel_rfl) rfl) (λb es clock w hb=>AnyW.maps_Clone Tryz.ahd b es clock w hb) hb hk
section
variable {h h':af}{sb sm:Nat}{M:List HE}{ck:Nat}
theorem El(b:Nat):(Value.cells (.map (some b))).toList=[.map (some b)]:=rfl
theorem Ro(s:dG h sb sm M ck)(hlo:h.lo<=h.nx)(V:KQ)(hk:∀h' s2 m2,dG h' s2 m2 M ck->Le h h'->h.nx<=s2->h.nx<=m2->V (pt s2) h'):av prog 44 [pt sb] h V:=by
 apply X9;rw[ajY];have gb:=s.gb;simp(disch:=try exact Y)only[Wz,n_,NU,aN,gb];refine Wg s.gm ?_;have bN:=(Le.refl h).new (.map (M.map jf) ck);rw[m_ _ _ _ _ _ _ _ (by rw[El];rfl) (Nat.le_of_ble_eq_true rfl),qd];simp(disch:=try exact Y)only[Wz,El];have bD:=bN.new (aj [.map (some h.nx)] 175 false);refine hk _ (h.nx+1) h.nx ⟨⟨Nat.lt_succ_self _,by show h.lo<=h.nx+1;omega⟩,T.ay _ _ _,⟨by show h.nx<h.nx+1+1;omega,hlo⟩,(T.aD _ _ X1).trans (T.ay _ _ _),s.ok⟩ bD (Nat.le_succ _) (Nat.le_refl _)
theorem anr(h:af)(a b c d e f:Int):mR prog h 100 107 (.agg ⟨[X8 a,X8 b,X8 c]⟩) (.agg ⟨[X8 d,X8 e,X8 f]⟩) =
  (match(match some (rK a d)with|some true=>(match some (rK b e)with|some true=>some true|r=>r)|r=>r)with|some true=>(match some (rK c f)with|some true=>some true|r=>r)|r=>r):=by kernel_rfl
theorem Wh{β:Type}{fl:β}(cn:Bool)(a b c:Int)(h:af)(V:X3 β):aI fl prog .neq 107 cn false (.agg ⟨[X8 a,X8 b,X8 c]⟩) (.agg ⟨[X8 a,X8 b,X8 c]⟩) h V=V (.bool false) h:=by
 have e:=anr h a b c a b c;simp only[iA,decide_true]at e;simp only[aI,e,bX,Bool.not_true]
theorem ant{h:af}{u v:Value}{R:List N3}(su:Sl kX h u R)(sv:Sl kX h v R)(hR:R.length<=1000)(V:KQ)(hk:V (.bool true) h):av prog 93 [u,v] h V:=by
 have lu:=λ(β:Type)(fl:β)=>su.len (β:=β) (fl:=fl);have lv:=λ(β:Type)(fl:β)=>sv.len (β:=β) (fl:=fl);apply X9;rw[akq];have hz:∀(β:Type)(fl:β)(V:X3 β),aI fl prog .neq 3 false false (X8 (R.length:Int)) (X8 (R.length:Int)) h V=V (.bool false) h:=by
  intro β fl V;rw[EV];simp
 simp(disch:=try exact Y)only[Wz,lu,lv,hz];refine⟨λn l h1=>HQ h h1/\∃k:Nat,ah l 14=X8 (k:Int)/\k<=R.length/\n=R.length-k,⟨_,rfl,0,rfl,Nat.zero_le _,rfl⟩,?_⟩;rintro n l h1 ⟨hq,k,e14,hkk,rfl⟩;cases(show h=h1 from hq);by_cases hlt:k<R.length
 .obtain⟨p,hp⟩:∃p,R[k]? = some p:=⟨_,List.getElem?_eq_getElem hlt⟩
  obtain⟨b1,o1,hb1,hx1,M6,_⟩:=su.ld kq k hp;obtain⟨b2,o2,hb2,hx2,Gy,_⟩:=sv.ld kq k hp;simp(disch:=try exact Y)only[Wz,e14,f_ (show(k:Int)<(R.length:Int)by omega),Oz,hx1,M6,hx2,Gy,kX,Wh];exact⟨_,X1,rfl,k+1,rfl,X1,rfl⟩
 .have hk':k=R.length:=by omega
  subst hk';simp(disch:=try exact Y)only[Wz,e14];exact hk
theorem rj{M M':List HE}{ck eY:Nat}(o:cO M ck)(o':cO M' eY)(e:cM M=cM M'):(M.map c_).Perm (M'.map c_):=by
 have nd:∀{M:List HE}{ck:Nat},cO M ck->(M.map c_).Nodup:=λo=>by
  rw[List.Nodup,List.pairwise_map];exact o.nm.imp λhn e=>hn ⟨congrArg Prod.fst e,congrArg Prod.snd e⟩
 have key:∀{M M':List HE}{ck eY:Nat},cO M ck->cO M' eY->cM M=cM M'->∀p,p∈M.map c_->p∈M'.map c_:=by
  intro M M' ck eY o o' e p hp;obtain⟨x,hx,rfl⟩:=List.mem_map.1 hp;have h1:=(jw o x.t x.r x.w).2 ⟨x,hx,rfl,rfl,rfl⟩;rw[e]at h1;obtain⟨y,hy,e1,e2,_⟩:=(jw o' x.t x.r x.w).1 h1;exact List.mem_map.2 ⟨y,hy,Prod.ext e1 e2⟩
 exact(List.perm_ext_iff_of_nodup (nd o) (nd o')).2 λp=>⟨key o o' e p,key o' o e.symm p⟩
theorem Ky{s2 m2:Nat}{M2:List HE}{c2:Nat}(s:dG h sb sm M ck)(s':dG h s2 m2 M2 c2)(hlo:h.lo<=h.nx)(hM:M.length<=1000)(e:cM M=cM M2)(V:KQ)(hk:∀h',Le h h'->V (.bool true) h'):av prog 45 [pt sb,pt s2] h V:=by
 have hp:=rj s.ok s'.ok e;have hM2:M2.length<=1000:=by have:=hp.length_eq;rw[List.length_map,List.length_map]at this;omega
 apply X9;rw[ajZ];refine wS s hlo hM _ ?_;intro u h1 D Ma hs ho bN;have n1:=bN.nx;have l1:=bN.lo;refine wS (s'.le bN) X1 hM2 _ ?_;intro v h2 D2 aus hs2 nJ bD;have eD:D=D2:=Qm (Ma.trans (hp.trans aus.symm)) hs hs2;subst eD;have eR:rowsOf M2 D=rowsOf M D:=by unfold rowsOf;rw[e]
 rw[eR]at nJ;exact ant (ho.sl.le bD) nJ.sl (by have:=Ma.length_eq;unfold rowsOf;rw[List.length_map]at this ⊢;omega) _ (hk h2 (bN.trans bD))
theorem ahe(s:dG h sb sm M ck)(hlo:h.lo<=h.nx){t r:Int}(lv:br t r≠2)(V:KQ)(hk:∀h',Le h h'->V (.tuple ⟨[.agg ⟨[X8 0,X8 0,X8 0,.bool false]⟩,X8 2]⟩) h'):av prog 91 [pt sb,dg t r] h V:=by
 apply X9;rw[aaF];simp(disch:=try exact Y)only[Wz,dg];obtain⟨hA,aY,aU,g1,g3,dI,dJ⟩:=AY h (aj [X8 t,X8 r] 28 false) (aj [X8 0,X8 0,X8 0,.bool false] 99 false);rw[<-aY]
 try rw[show((h.bl.a_ (h.nx) (aj [X8 t,X8 r] 28 false)).a_ (h.nx+1) (aj [X8 0,X8 0,X8 0,.bool false] 99 false))=hA.bl by rw[aY]]
 clear aY;have sA:=s.le aU;simp(disch:=try exact Y)only[Wz,n_,Fj,g1];refine lH t r ?_;simp(disch:=try exact Y)only[Wz,bf lv,g3];exact hk _ (aU.set X1 _)
theorem Wi(s:dG h sb sm M ck)(hlo:h.lo<=h.nx){t r:Int}(lv:br t r≠2)(v:Int)(V:KQ)(hk:∀h',Le h h'->V (.tuple ⟨[.agg ⟨[X8 0,X8 0,X8 0,.bool false]⟩,X8 2]⟩) h'):av prog 43 [pt sb,dg t r,X8 v] h V:=by
 apply X9;rw[aaD];simp(disch:=try exact Y)only[Wz,dg];obtain⟨hA,aY,aU,g1,g3,dI,dJ⟩:=AY h (aj [X8 t,X8 r] 28 false) (aj [X8 0,X8 0,X8 0,.bool false] 99 false);rw[<-aY]
 try rw[show((h.bl.a_ (h.nx) (aj [X8 t,X8 r] 28 false)).a_ (h.nx+1) (aj [X8 0,X8 0,X8 0,.bool false] 99 false))=hA.bl by rw[aY]]
 clear aY;refine ahe (s.le aU) X1 lv _ ?_;intro h2 bD;have mM:=bD.nx;have mN:=bD.lo;have g1:=(bD.get _ X1).trans g1;have g3:=(bD.get _ X1).trans g3;simp(disch:=try exact Y)only[Wz];obtain⟨hB,gL,bW,g9,BO,BP⟩:=kG h2 (aj [X8 0,X8 0,X8 0,.bool false] 99 false);rw[<-gL]
 try rw[show(h2.bl.a_ (h2.nx) (aj [X8 0,X8 0,X8 0,.bool false] 99 false))=hB.bl by rw[gL]]
 clear gL;have oN:=bW.nx;have oO:=bW.lo;have g1:=(bW.get _ X1).trans g1;have g3:=(bW.get _ X1).trans g3;have qJ:=(aU.trans bD).trans bW;refine⟨λl' h'=>h'=hB,?_,?_⟩
 .simp(disch:=try exact Y)only[Wz]
 .rintro l' h' rfl;simp(disch:=try exact Y)only[Wz,g9,g3];exact hk _ (qJ.set X1 _)
end
theorem Wj(b:Nat):k_ 8 (cT b) (cT b)=true:=by unfold cT k_;simp[gU]
theorem ahf{α:Type}{enc:α->List Value}{h:af}{v:Value}{L:List α}(s:Sl enc h v L)(hn:L≠[]):k_ 8 v v=true:=by
 obtain⟨x,c,rfl,hx⟩:=s;obtain⟨b,o,rfl,_⟩:=hx hn;exact iS _ _ _ _
theorem ahg{h:af}{v:Value}{L:List pI}(hs:Sl jo h v L)(i:Nat){p:pI}(hp:L[i]? = some p):∃b o,b<h.nx/\(∀(β:Type)(fl:β)(h':af)(V:X3 β),aO fl 6 v (X8 (i:Int)) h' V=V (.pointer (some ⟨b,o,none⟩)) h')/\
   ∀h',Le h h'->((∀(β:Type)(fl:β)(V:List Value->β),xI fl (h'.bl.get b) o 6 V=V (jo p))/\
   (∀(β:Type)(fl:β)(V:List Value->β),xI fl (h'.bl.get b) (o+1) 2 V=V [X8 p.t,X8 p.r])/\
   (∀(β:Type)(fl:β)(V:Value->β),w8 fl (h'.bl.get b) (o+4) V=V (X8 p.v))):=by
 obtain⟨b,o,h1,h2,h3,hh⟩:=hs.ld encO_len i hp;refine⟨b,o,h1,h2,λh' l=>?_⟩;rw[l.get b h1];refine⟨λβ fl V=>lD hh 6 V rfl,λβ fl V=>?_,λβ fl V=>?_⟩
 .exact lD (hh.sub 1 2 (by show 1+2<=6;omega)) 2 V rfl
 .exact eU (fl:=fl) hh 4 V (by show 4<6;omega)
structure LM(h0:af)(E:EN)(A:RA)(bp bt:Nat):Prop where
 ne:bp≠bt
 pX:bp∉xm A E.a.ms
 tX:bt∉xm A E.a.ms
 p0:h0.nx<=bp
 t0:h0.nx<=bt
section
variable {h0 h h':af}{E:EN}{A:RA}{bp bt:Nat}{M:List HE}{ck:Nat}{L:List W4}{v:RV}{p t:Int->Int->Option Int}{H X:Int->Int->Int}{N:Nat}{D:AD}
structure LW(h0:af)(E:EN)(A:RA)(bp bt:Nat)(M:List HE)(ck:Nat)(L:List W4)(v:RV)(p t:Int->Int->Option Int)(H X:Int->Int->Int)(N:Nat)(D:AD)(h:af):Prop where
 tc:TC h0 E.a.ms A M ck L v h
 ai:AI h E H X N D
 p:NM h bp p
 t:NM h bt t
theorem LW.le(s:LW h0 E A bp bt M ck L v p t H X N D h)(l:Le h h'):LW h0 E A bp bt M ck L v p t H X N D h':=⟨s.tc.keep l,s.ai.le l,s.p.le l,s.t.le l⟩
theorem y_{b:Nat}(h:b∉xm A E.a.ms):b≠A.sm/\b∉E.a.ms:=⟨λe=>h (e▸.head _),λe=>h (.tail _ e)⟩
theorem LW.mkp(s:LW h0 E A bp bt M ck L v p t H X N D h)(k:LM h0 E A bp bt)(m:MK bp h h'){p':Int->Int->Option Int}(n:NM h' bp p'):LW h0 E A bp bt M ck L v p' t H X N D h':=by
 obtain⟨es,c,g⟩:=s.p.gm;exact⟨s.tc.mo g (y_ k.pX).1 k.p0 m,s.ai.kr m.kr g (y_ k.pX).2,n,s.t.mo m k.ne.symm⟩
theorem LW.mkt(s:LW h0 E A bp bt M ck L v p t H X N D h)(k:LM h0 E A bp bt)(m:MK bt h h'){t':Int->Int->Option Int}(n:NM h' bt t'):LW h0 E A bp bt M ck L v p t' H X N D h':=by
 obtain⟨es,c,g⟩:=s.t.gm;exact⟨s.tc.mo g (y_ k.tX).1 k.t0 m,s.ai.kr m.kr g (y_ k.tX).2,s.p.mo m k.ne,n⟩
theorem LW.mks(s:LW h0 E A bp bt M ck L v p t H X N D h)(k:LM h0 E A bp bt)(m:MK A.sm h h'){M':List HE}{eY:Nat}(st:dG h' A.sb A.sm M' eY):LW h0 E A bp bt M' eY L v p t H X N D h':=
 ⟨s.tc.mst st m,s.ai.kr m.kr s.tc.st.gm s.tc.sm,s.p.mo m (y_ k.pX).1,s.t.mo m (y_ k.tX).1⟩
end
theorem ZS{h0 h:af}{E:EN}{A:RA}{bp bt:Nat}{M:List HE}{ck:Nat}{v:RV}{p t:Int->Int->Option Int}{H X:Int->Int->Int}{N:Nat}{D:AD}(k:LM h0 E A bp bt)(s:LW h0 E A bp bt M ck [] v p t H X N D h)(q:PT p t (cM M)){va:Value}{La:List pI}(Eu:Sl jo h0 va La){i:Nat}{o:pI}(ho:La[i]? = some o)(qH:List Value)(e46:ah qH 46=X8 (i:Int))(XY:List Value->af->Prop)(hN:∀l' h' M' eY p' t',LW h0 E A bp bt M' eY [] v p' t' H X N D h'->PT p' t' (cM M')->M'.length<=M.length+1->XY l' h'):LG (pt A.sb) va qH bp bt XY h:=by
 obtain⟨b,c,hb,hx,hr⟩:=ahg Eu i ho;have qJ:=s.tc.le;have n0:=qJ.nx;have hlo:=s.tc.lo;have Ww:=ahf Eu (by rintro rfl;simp at ho);obtain⟨r6,r2,r1⟩:=hr h qJ;simp(disch:=try exact Y)only[Wz,LG,e46,hx,r2,r1];obtain⟨hA,aY,aU,gW,dI,dJ⟩:=kG h (aj [X8 0,X8 0,X8 0,.bool false] 99 false);rw[<-aY]
 try rw[show(h.bl.a_ (h.nx) (aj [X8 0,X8 0,X8 0,.bool false] 99 false))=hA.bl by rw[aY]]
 clear aY;have sA:=s.le aU;have loA:=sA.tc.lo;by_cases lv:br o.t o.r=2
 ·refine FU sA.tc.st loA lv o.v _ ?_;intro h2 M' eY born st hp mk;have n2:=mk.nx;have l2:=mk.lo;have g2:=mk.cell sA.tc.st.gm X1 gW;have lk2:cM M'=iO (cM M) o.t o.r (some o.v):=wT s.tc.st.ok st.ok hp;have ln2:M'.length<=M.length+1:=by
   have e1:=hp.length_eq;rw[List.length_append,List.length_singleton]at e1;have e2:=List.length_filter_le (λx=>!jO o.t o.r x) M;omega
  simp(disch:=try exact Y)only[Wz,Kt,g2];obtain⟨h3,e3⟩:∃h3:af,h3=⟨h2.nx,h2.bl.a_ h.nx (aj [X8 o.t,X8 o.r,X8 ((cM M o.t o.r).getD 0),.bool (cM M o.t o.r).isSome] 99 false),h2.lo⟩:=⟨_,rfl⟩
  have m3:MK A.sm h h3:=by rw[e3];exact((MK.le aU).trans mk).set (Nat.le_refl _) _
  have s3:=s.mks k m3 (show dG h3 A.sb A.sm M' eY by rw[e3];exact st.put g2 X7 _);rw[<-e3];clear e3;have lo3:=s3.tc.lo;obtain⟨q6,q2,q1⟩:=hr h3 s3.tc.le;unfold Tg;simp(disch:=try exact Y)only[Wz,e46,hx,q2,q1];refine s3.p.wo o.t o.r o.v _ ?_;intro x bo h4 m4 n4 hst;obtain⟨es4,c4,g4⟩:=s3.p.gm;have QY:Le h0 h4:=⟨by have:=s3.tc.le.nx;have:=m4.nx;omega,m4.lo.trans s3.tc.le.lo,λd hd=>(m4.get d (by have:=s3.tc.le.nx;omega) (by have:=k.p0;omega)).trans (s3.tc.le.get d hd)⟩
  obtain⟨u6,u2,u1⟩:=hr h4 QY;simp(disch:=try exact Y)only[Wz,Wj,Ww,e46,hx,u2,u1];refine hst _ ?_;intro h5 p5 m5 n5;have s5:=s3.mkp k (m4.trans m5) p5;refine s5.t.wo o.t o.r 1 _ ?_;intro x6 bo6 h6 m6 n6 auu;simp(disch:=try exact Y)only[Wz];refine auu _ ?_;intro h7 p7 m7 n7;have s7:=s5.mkt k (m6.trans m7) p7;exact hN _ _ _ _ _ _ s7 (by rw[lk2];exact q.put lv o.v) ln2
 .refine Wi sA.tc.st loA lv o.v _ ?_;intro h2 bD;have mM:=bD.nx;have mN:=bD.lo;have gW:=(bD.get _ X1).trans gW;simp(disch:=try exact Y)only[Wz,gW];exact hN _ _ _ _ _ _ (s.le ((aU.trans bD).set (Nat.le_refl _) _)) q (Nat.le_succ _)
structure JL(M:List (Int × Int))(i:Nat)(has:List L4)(P:List N3):Prop where
 i1:1<=i
 le:i+3*P.length<=10
 ok:kY M has
 nd:tI P
 sub:∀p∈P,(p.1,p.2.1)∈M
def FL(M:List (Int × Int))(i:Nat)(has:List L4):Prop:=kY M has
theorem Wk{a b:Int}(ha:kn a=true)(hb:kn b=true):mU (bZ a b) b=true:=by
 have key:∀i:Nat,i<7->∀j:Nat,j<7->mU (bZ (i:Nat) (j:Nat)) (j:Nat)=true:=by decide +kernel
 obtain⟨i,hi,rfl⟩:=kg ha;obtain⟨j,hj,rfl⟩:=kg hb;exact key i hi j hj
section
variable {M:List (Int × Int)}{has:List L4}{x:Int}{p:N3}{P:List N3}
theorem MS(s:kY M has)(ok:br p.1 p.2.1≠-1/\kn p.2.2=true/\p.2.2≠0)(hm:(p.1,p.2.1)∈M):kY M (dx has (kZ x has p)):=by
 obtain⟨q1,q2,_⟩:=lI (s.CG p.1 p.2.1) ok.2.1 ok.2.2;exact s.put ⟨ok.1,q2,q1⟩ hm
theorem ZT(s:kY M has)(ok:br p.1 p.2.1≠-1/\kn p.2.2=true/\p.2.2≠0):nX (dx has (kZ x has p)) p=true:=by
 obtain⟨q1,q2,_⟩:=lI (s.CG p.1 p.2.1) ok.2.1 ok.2.2;have e:aX (dx has (kZ x has p)) p.1 p.2.1=bZ (aX has p.1 p.2.1) p.2.2:=by
  rw[nj,if_pos ⟨rfl,rfl⟩];rfl
 unfold nX;rw[e,Wk (s.CG _ _) ok.2.1,decide_eq_true q1];rfl
theorem ZU(s:kY M has)(ok:br p.1 p.2.1≠-1/\kn p.2.2=true/\p.2.2≠0):fc (dx has (kZ x has p)) (p::P)=fc (dx has (kZ x has p)) P:=by
 unfold fc;rw[List.filter_cons,ZT s ok];rfl
theorem auv(hM:M.length<=19):Kr x (JL M) (FL M):=by
 refine⟨λi has p P s=>?_,λi has p P s _=>?_,λi has p P q Q s hL=>?_,λi has p P s t r=>?_⟩
 .have h1:=s.ok.len;have h2:=s.le;exact⟨X1,X1,X1,s.nd,s.ok.CG⟩
 .exact MS s.ok (s.nd p (.head _)) (s.sub p (.head _))
 .rw[ZU s.ok (s.nd p (.head _))]at hL;have h3:(fc (dx has (kZ x has p)) P).length<=P.length:=yj _ _;rw[hL]at h3;have h2:=s.le;have hs:∀y∈q::Q,y∈P:=λy hy=>(List.mem_filter.1 (by rw[<-hL]at hy;exact hy)).1;refine⟨X1,?_,MS s.ok (s.nd p (.head _)) (s.sub p (.head _)),λy hy=>s.nd y (.tail _ (hs y hy)),λy hy=>s.sub y (.tail _ (hs y hy))⟩;simp only[List.length_cons]at *
  omega
 .exact(MS s.ok (s.nd p (.head _)) (s.sub p (.head _))).CG t r
theorem Wl(s:kY M has)(t r:Int):aX has t r≠0<->(t,r)∈has.map jl:=by
 constructor
 .intro h;obtain⟨p,hp,rfl,rfl,_⟩:=Ef h;exact List.mem_map.2 ⟨p,hp,rfl⟩
 .intro h;obtain⟨p,hp,e⟩:=List.mem_map.1 h;have e1:p.t=t:=congrArg Prod.fst e;have e2:p.r=r:=congrArg Prod.snd e;rw[<-e1,<-e2,s.mode hp];exact(s.ok p hp).2.2
end
theorem ZV{a b:Int}(ha:kn a=true)(hb:kn b=true):a<=bZ a b:=by
 have key:∀i:Nat,i<7->∀j:Nat,j<7->(i:Int)<=bZ (i:Nat) (j:Nat):=by decide +kernel
 obtain⟨i,hi,rfl⟩:=kg ha;obtain⟨j,hj,rfl⟩:=kg hb;exact key i hi j hj
def Kz(zB has:List L4):Prop:=∀t r,aX zB t r<=aX has t r
theorem Kz.put{Mn:List (Int × Int)}{zB has:List L4}{x:Int}{p:N3}(m:Kz zB has)(s:kY Mn has)(hp:kn p.2.2=true):Kz zB (dx has (kZ x has p)):=by
 intro t r;rw[nj];split
 .rename_i e;have h1:=m t r;have e1:p.1=t:=e.1;have e2:p.2.1=r:=e.2
  show _<=bZ (aX has p.1 p.2.1) p.2.2
  have:=ZV (s.CG p.1 p.2.1) hp;rw[e1,e2]at this ⊢;omega
 .exact m t r
def JT(Mn:List (Int × Int))(zB:List L4)(i:Nat)(has:List L4)(P:List N3):Prop:=JL Mn i has P/\Kz zB has
def FT(Mn:List (Int × Int))(zB:List L4)(i:Nat)(has:List L4):Prop:=kY Mn has/\Kz zB has
theorem auw{Mn:List (Int × Int)}{zB:List L4}{x:Int}(hM:Mn.length<=19):Kr x (JT Mn zB) (FT Mn zB):=by
 have C:=auv (x:=x) hM;exact⟨λi has p P s=>C.bnd i has p P s.1,λi has p P s h=>⟨C.fin i has p P s.1 h,s.2.put s.1.ok (s.1.nd p (.head _)).2.1⟩,λi has p P q Q s h=>⟨C.nxt i has p P q Q s.1 h,s.2.put s.1.ok (s.1.nd p (.head _)).2.1⟩,λi has p P s=>C.kn i has p P s.1⟩
theorem ahi{h:af}{A:WA}{a:TA}{X:Int->Int->Int}{N n:Nat}{y:iT}{out:Int}{has:List L4}{Mn:List (Int × Int)}(s:WI h A a (aX has) X N n y out)(oh:kY Mn has):has.length<=16:=by
 obtain⟨⟨d,R,N0,s1,L,_⟩,cS,hd⟩:=s;have h3:((d.Ts.flatMap λb=>b.M.map c_)).Perm (has.map jl):=by
  refine(List.perm_ext_iff_of_nodup s1.t.nodup oh.nd).2 λp=>?_;rw[<-Wl oh p.1 p.2,List.mem_flatMap];constructor
  .rintro⟨b,hb,hp⟩;obtain⟨e,he,rfl⟩:=List.mem_map.1 hp;exact(L.one b hb e he).choose_spec.2
  .intro hn;obtain⟨b,hb,e,he,e1,e2⟩:=L.all p.1 p.2 hn;exact⟨b,hb,List.mem_map.2 ⟨e,he,Prod.ext e1 e2⟩⟩
 have h4:=h3.length_eq;rw[List.length_map]at h4;have h5:∀T:List TB,(∀b∈T,b.M.length<=8)->(T.flatMap λb=>b.M.map c_).length<=8*T.length:=by
  intro T
  induction T with
  |nil=>intro _;simp
  |cons b T ih=>
   intro hT;have h1:=ih λx hx=>hT x (.tail _ hx);have h2:=hT b (.head _);rw[List.flatMap_cons,List.length_append,List.length_map,List.length_cons];omega
 have h6:=h5 d.Ts λb hb=>by have:=s1.t.len b hb;omega
 have h7:=s1.t.is.cS;omega
theorem Rp(f:Int->Int->Option Int)(t r:Int)(x:Option Int):iO (iO f t r x) t r (f t r)=f:=by
 funext a b;unfold iO;by_cases e:a=t/\b=r
 .rw[if_pos e,e.1,e.2]
 .rw[if_neg e,if_neg e]
theorem ZW(o:pI)(f:Int->Int->Option Int)(L:List W4):oe (W0 o f L) (ML o f)=oe L f:=by
 unfold W0 ML;by_cases h:CH o f
 ·rw[if_pos h,if_pos h];unfold oe;rw[List.foldr_append];have e:(if(V3 o f).is=true then some (V3 o f).v else none)=f o.t o.r:=by
   unfold V3;cases hf:f o.t o.r with
   |none=>rfl
   |some x=>rfl
  show List.foldr _ (iO (iO f o.t o.r _) (V3 o f).t (V3 o f).r (if(V3 o f).is=true then some (V3 o f).v else none)) L=_
  rw[e]
  show List.foldr _ (iO (iO f o.t o.r _) o.t o.r (f o.t o.r)) L=_
  rw[Rp]
 .rw[if_neg h,if_neg h]
theorem kY.abw{M M':List (Int × Int)}{L:List L4}(s:kY M L)(h:∀p∈M,p∈M'):kY M' L:=⟨s.nd,s.ok,λp hp=>h _ (s.sub p hp)⟩
theorem kY.anu{M:List (Int × Int)}{L:List L4}(s:kY M L):kY (L.map jl) L:=⟨s.nd,s.ok,λp hp=>List.mem_map.2 ⟨p,hp,rfl⟩⟩
structure SJ(h0:af)(E:EN)(A:RA)(M:List HE)(L:List W4)(i:Nat)(h:af):Prop where
 ex:∃ck v has asked N,TC h0 E.a.ms A M ck L v h/\v.nx=none/\AI h E (aX has) (λ_ _=>1) N ⟨1,asked,has,[]⟩/\kY (has.map jl) has/\kY (asked.map jl) asked/\asked.length<=i/\L.length<=i/\M.length<=i+12/\N<=3*i
theorem SJ.le{h0 h h':af}{E:EN}{A:RA}{M:List HE}{L:List W4}{i:Nat}(s:SJ h0 E A M L i h)(l:Le h h'):SJ h0 E A M L i h':=by
 obtain⟨ck,v,has,asked,N,t,a,b,r⟩:=s;exact⟨ck,v,has,asked,N,t.keep l,a,b.le l,r⟩
theorem Pj{h0:af}(ro:kK h0){E:EN}{A:RA}(ea:A.ab=E.z.ab)(em:E.z.most=2){M:List HE}{L:List W4}{i:Nat}{h:af}(s:SJ h0 E A M L i h)(hi:i<=13)(o:pI)(V:KQ)(JQ:¬ZM o->∀h',SJ h0 E A M L i h'->AN (xm A E.a.ms) h h'->V (.tuple ⟨[.agg ⟨fq⟩,X8 0,.bool false]⟩) h')(hkD:∀co vv u (j:Nat) h' M' L',2<=o.k/\o.k<=6->tU o->DoR o M M' L L' co vv->jm u->SJ h0 E A M' L' (i+1) h'->AN (xm A E.a.ms) h h'->V (.tuple ⟨[.agg ⟨[X8 co,X8 vv,u]⟩,X8 (j:Int),.bool true]⟩) h')(WO:∀co vv u (j:Nat) h' M' eY v' bu X N',TC h0 E.a.ms A M' eY [] v' h'->AI h' E (aX bu) X N' ⟨0,[],[],bu⟩->cM M'=(if o.k=7 then cM M else oe L (cM M))->M'.length<=1800->((2<=o.k/\o.k<=6)/\co=5)\/((o.k=7\/o.k=8)/\co=1)->jm u->AN (xm A E.a.ms) h h'->V (.tuple ⟨[.agg ⟨[X8 co,X8 vv,u]⟩,X8 (j:Int),.bool true]⟩) h'):av prog 39 [pt A.rb,.agg ⟨jo o⟩] h V:=by
 obtain⟨ck,v,has,asked,N,t,yE,a,oh,oa,l1,l2,l3,hN⟩:=s;have cap:has.length<=16:=ahi (a.w ⟨0,0,0,0,0,0,0⟩ 0) oh;have hal:=Ae o.t o.r;have ohM:kY (has.map jl++(o.t,o.r)::oU o.t o.r) has:=oh.abw λp hp=>List.mem_append_left _ hp;have lM:(has.map jl++(o.t,o.r)::oU o.t o.r).length<=19:=by rw[List.length_append,List.length_map,List.length_cons];omega
 have k:FZ ⟨h0,E,A,1,M,ck,L,o,N,asked,JT (has.map jl++(o.t,o.r)::oU o.t o.r) has,FT (has.map jl++(o.t,o.r)::oU o.t o.r) has,λKB=>kY (has.map jl++(o.t,o.r)::oU o.t o.r) KB/\Kz has KB,has.map jl++(o.t,o.r)::oU o.t o.r⟩:=
  ⟨ro,ea,Int.le_refl 1,by show 0<=E.z.most/\E.z.most<=8;omega,by show N<=700;omega,by show asked.length<=900;omega,auw lM,λi KB p P s=>⟨by have:=s.1.le;simp only[List.length_cons]at this;omega,s.1.ok,s.2⟩,λi KB s=>s,λKB s=>s.1,lM,by show L.length<=900;omega,by show M.length<=900;omega⟩
 have Wm:Kz has has:=λ_ _=>Int.le_refl _;have hmo:kn (fH o)=true/\fH o≠0:=by unfold fH;split<;>decide
 obtain⟨q0,q1,_⟩:=lI (oa.CG o.t o.r) hmo.1 hmo.2;refine wY k (v:=v) (has:=has) t a yE ⟨ohM,Wm⟩ oh.CG oa.CG X1 (λ_ _ _=>⟨ohM,Wm⟩) ?_ _ ?_ ?_
 .intro ok zy p P e;have lv:br o.t o.r≠-1:=by rw[ok.2];show jq o.k≠-1;unfold jq;split<;>(try split)<;>decide
  obtain⟨pk1,pk2,pk3⟩:=Kq (f:=aX has) oh.CG lv q1 q0;have h3:(fc has (iG (aX has) o.t o.r (bZ (aX asked o.t o.r) (fH o)))).length<=_:=yj _ _;have hs:∀y∈p::P,y∈iG (aX has) o.t o.r (bZ (aX asked o.t o.r) (fH o)):=λy hy=>(List.mem_filter.1 (by rw[<-e]at hy;exact hy)).1;have e':fc has (iG (aX has) o.t o.r (bZ (aX asked o.t o.r) (fH o)))=p::P:=e;rw[e']at h3;refine⟨⟨X7,X1,ohM,λy hy=>pk1 y (hs y hy),λy hy=>?_⟩,Wm⟩;rcases pk3 y (hs y hy)with e|e
  .rw[e];exact List.mem_append_right _ (.head _)
  .exact List.mem_append_right _ (.tail _ e)
 .intro nA h' t' a' an;exact JQ nA h' ⟨ck,v,has,asked,N,t',yE,a',oh,oa,l1,l2,l3,hN⟩ an
 .intro j co vv u h' _ hu p an;rcases p with⟨zy,M',eY,L',KB,N',nt,t',a',hs,n',dr,ok,_⟩|⟨M',eY,nt,bu,X,N',t',a',lk,ml,eo⟩
  ·have n':N'<=N+3:=n';have ln:M'.length<=M.length+1:=dr.ln;have lg:L'=W0 o (cM M) L:=dr.lg;have g1:=F0 o (cM M) L;rw[<-lg]at g1;have RU:=Cy asked ⟨1,o.t,o.r,bZ (aX asked o.t o.r) (fH o)⟩;have key:∀(lv:br o.t o.r≠-1),kY ((o.t,o.r)::asked.map jl) (dx asked ⟨1,o.t,o.r,bZ (aX asked o.t o.r) (fH o)⟩):=λlv=>(oa.abw λp hp=>.tail _ hp).put ⟨lv,q1,q0⟩ (.head _);have lv:br o.t o.r≠-1:=by
    have:=ok.2;have k2:2<=o.k/\o.k<=6:=zy;rw[show br o.t o.r=jq o.k from this];unfold jq;split<;>(try split)<;>decide
   have hs:kY (has.map jl++(o.t,o.r)::oU o.t o.r) KB/\Kz has KB:=hs;refine hkD co vv u j h' M' L' zy ok dr hu ⟨eY,_,_,_,N',t',rfl,a',hs.1.anu,(key lv).anu,?_,X1,X1,X1⟩ an
   show(dx asked ⟨1,o.t,o.r,bZ (aX asked o.t o.r) (fH o)⟩).length<=i+1
   omega
  .refine WO co vv u j h' M' eY _ bu X N' t' a' lk ml ?_ hu an;rcases eo with⟨e1,e2,_⟩|e
   .exact .inl ⟨e1,e2⟩
   .exact .inr e
theorem NM.KC{β:Type}{fl:β}{h:af}{b:Nat}{f:Int->Int->Option Int}(s:NM h b f)(t r:Int)(V:X3 β):cq fl prog 28 (X8 0) false (cT b) (.agg ⟨[X8 t,X8 r]⟩) h V=V (X8 ((f t r).getD 0)) h:=s.look t r V
theorem SJ.up{h0 h:af}{E:EN}{A:RA}{M:List HE}{L:List W4}{i j:Nat}(s:SJ h0 E A M L i h)(hij:i<=j):SJ h0 E A M L j h:=by
 obtain⟨ck,v,has,asked,N,t,hn,a,oh,oa,l1,l2,l3,l4⟩:=s;exact⟨ck,v,has,asked,N,t,hn,a,oh,oa,X1,X1,X1,X1⟩
theorem SJ.mo{h0 h h':af}{E:EN}{A:RA}{M:List HE}{L:List W4}{i b:Nat}{es:List MapEntry}{c:Nat}(s:SJ h0 E A M L i h)(g:h.bl.get b=some (.map es c))(hX:b∉xm A E.a.ms)(hb:h0.nx<=b)(m:MK b h h'):SJ h0 E A M L i h':=by
 obtain⟨ck,v,has,asked,N,t,hn,a,r⟩:=s;exact⟨ck,v,has,asked,N,t.mo g (y_ hX).1 hb m,hn,a.kr m.kr g (y_ hX).2,r⟩
structure LX(h0:af)(E:EN)(A:RA)(bp bt s2 m2:Nat):Prop where
 lm:LM h0 E A bp bt
 wX:m2∉xm A E.a.ms
 wp:m2≠bp
 wt:m2≠bt
structure KJ(h0:af)(E:EN)(A:RA)(bp bt s2 m2:Nat)(f0 p t:Int->Int->Option Int)(M:List HE)(L:List W4)(i:Nat)(h:af):Prop where
 sj:SJ h0 E A M L i h
 np:NM h bp p
 nt:NM h bt t
 pt:PT p t (cM M)
 bk:oe L (cM M)=f0
 was:∃Mw rm,dG h s2 m2 Mw rm/\cM Mw=f0/\Mw.length<=1000
section
variable {h0 h h':af}{E:EN}{A:RA}{bp bt s2 m2:Nat}{f0 p t:Int->Int->Option Int}{M:List HE}{L:List W4}{i j:Nat}
theorem KJ.le(s:KJ h0 E A bp bt s2 m2 f0 p t M L i h)(l:Le h h'):KJ h0 E A bp bt s2 m2 f0 p t M L i h':=by
 obtain⟨Mw,rm,w,e,lw⟩:=s.was;exact⟨s.sj.le l,s.np.le l,s.nt.le l,s.pt,s.bk,Mw,rm,w.le l,e,lw⟩
theorem KJ.up(s:KJ h0 E A bp bt s2 m2 f0 p t M L i h)(hij:i<=j):KJ h0 E A bp bt s2 m2 f0 p t M L j h:=⟨s.sj.up hij,s.np,s.nt,s.pt,s.bk,s.was⟩
theorem F4(x:LX h0 E A bp bt s2 m2)(s:∃Mw rm,dG h s2 m2 Mw rm/\cM Mw=f0/\Mw.length<=1000)(a:AN (xm A E.a.ms) h h'):∃Mw rm,dG h' s2 m2 Mw rm/\cM Mw=f0/\Mw.length<=1000:=by
 obtain⟨Mw,rm,w,r⟩:=s;exact⟨Mw,rm,w.an a x.wX,r⟩
theorem Wn{b:Nat}{es:List MapEntry}{c:Nat}(s:∃Mw rm,dG h s2 m2 Mw rm/\cM Mw=f0/\Mw.length<=1000)(g:h.bl.get b=some (.map es c))(hn:b≠m2)(m:MK b h h'):∃Mw rm,dG h' s2 m2 Mw rm/\cM Mw=f0/\Mw.length<=1000:=by
 obtain⟨Mw,rm,w,r⟩:=s;exact⟨Mw,rm,w.mo g hn m,r⟩
end
structure QJ(h0:af)(E:EN)(A:RA)(bp bt s2 m2:Nat)(f0:Int->Int->Option Int)(f:Int->Int->Option Int)(o:pI)(M:List HE)(L:List W4)(i bo ba:Nat)(MM:List Value)(l:List Value)(h:af):Prop where
 want:ah l 15=X8 (ur o f)
 gO:h.bl.get bo=some (aj [X8 o.k,X8 o.t,X8 o.r,X8 o.m,X8 o.v,X8 o.w] 92 false)
 gA:h.bl.get ba=some (aj MM 88 false)
 lt:bo<h.nx/\ba<h.nx
 ex:∃p t,KJ h0 E A bp bt s2 m2 f0 p t M L i h/\(o.k=2->(f o.t o.r).isSome=true->(p o.t o.r).getD 0=(f o.t o.r).getD 0)
theorem KJ.mkp{h0 h h':af}{E:EN}{A:RA}{bp bt s2 m2:Nat}{f0 p t p':Int->Int->Option Int}{M:List HE}{L:List W4}{i:Nat}(x:LX h0 E A bp bt s2 m2)(s:SJ h0 E A M L i h/\NM h bp p/\NM h bt t/\∃Mw rm,dG h s2 m2 Mw rm/\cM Mw=f0/\Mw.length<=1000)(m:MK bp h h')(n:NM h' bp p'):SJ h0 E A M L i h'/\NM h' bp p'/\NM h' bt t/\∃Mw rm,dG h' s2 m2 Mw rm/\cM Mw=f0/\Mw.length<=1000:=by
 obtain⟨s1,s2,s3,s4⟩:=s;obtain⟨es,c,g⟩:=s2.gm;exact⟨s1.mo g x.lm.pX x.lm.p0 m,n,s3.mo m x.lm.ne.symm,Wn s4 g x.wp.symm m⟩
theorem KJ.mkt{h0 h h':af}{E:EN}{A:RA}{bp bt s2 m2:Nat}{f0 p t t':Int->Int->Option Int}{M:List HE}{L:List W4}{i:Nat}(x:LX h0 E A bp bt s2 m2)(s:SJ h0 E A M L i h/\NM h bp p/\NM h bt t/\∃Mw rm,dG h s2 m2 Mw rm/\cM Mw=f0/\Mw.length<=1000)(m:MK bt h h')(n:NM h' bt t'):SJ h0 E A M L i h'/\NM h' bp p/\NM h' bt t'/\∃Mw rm,dG h' s2 m2 Mw rm/\cM Mw=f0/\Mw.length<=1000:=by
 obtain⟨s1,s2,s3,s4⟩:=s;obtain⟨es,c,g⟩:=s3.gm;exact⟨s1.mo g x.lm.tX x.lm.t0 m,s2.mo m x.lm.ne,n,Wn s4 g x.wt.symm m⟩
theorem Wo{h0 h:af}{E:EN}{A:RA}{bp bt s2 m2:Nat}(x:LX h0 E A bp bt s2 m2){f0 p t:Int->Int->Option Int}{M':List HE}{L':List W4}{i:Nat}(st:SJ h0 E A M' L' i h/\NM h bp p/\NM h bt t/\∃Mw rm,dG h s2 m2 Mw rm/\cM Mw=f0/\Mw.length<=1000){o:pI}{bo ba:Nat}{MM:List Value}(gO:h.bl.get bo=some (aj [X8 o.k,X8 o.t,X8 o.r,X8 o.m,X8 o.v,X8 o.w] 92 false))(gA:h.bl.get ba=some (aj MM 88 false))(hlt:bo<h.nx/\ba<h.nx)(N:List Value->af->Prop)(a1 a2 a3 a4 a5 a6 a7 a8 a9 a10 a11 a12 a13 a14:Value)(bE:List Value)(a15 a16 a17:Value)(hN:∀l h',ah l 15=X8 1->(SJ h0 E A M' L' i h'/\NM h' bp (iO p o.t o.r (some o.v))/\NM h' bt (iO t o.t o.r (some 1))/\∃Mw rm,dG h' s2 m2 Mw rm/\cM Mw=f0/\Mw.length<=1000)->h'.bl.get bo=h.bl.get bo->h'.bl.get ba=h.bl.get ba->h.nx<=h'.nx->N l h'):LH bt bo bp N a1 a2 a3 a4 a5 a6 a7 a8 a9 a10 a11 a12 a13 a14 bE a15 a16 a17 h:=by
 unfold LH;simp(disch:=try exact Y)only[Wz,gO];refine st.2.2.1.y9 o.t o.r 1 _ ?_;intro h1 n1 m1 e1;obtain⟨es1,c1,g1⟩:=st.2.2.1.gm;have st1:=KJ.mkt x st m1 n1;have gO1:=m1.cell g1 hlt.1 gO;have gA1:=m1.cell g1 hlt.2 gA;simp(disch:=try exact Y)only[Wz,Wj,gO1];refine st1.2.1.y9 o.t o.r o.v _ ?_;intro h2 n2 m2' e2;obtain⟨es2,c2,g2⟩:=st1.2.1.gm;have st2:=KJ.mkp x st1 m2' n2;exact hN _ h2 rfl st2 ((m2'.cell g2 X1 gO1).trans gO.symm) ((m2'.cell g2 X1 gA1).trans gA.symm) X1
theorem Rq{h0 h:af}{E:EN}{A:RA}{bp bt s2 m2:Nat}(x:LX h0 E A bp bt s2 m2){f0 p t:Int->Int->Option Int}{M M':List HE}{L':List W4}{i:Nat}(s:SJ h0 E A M' L' i h)(np:NM h bp p)(nt:NM h bt t)(was:∃Mw rm,dG h s2 m2 Mw rm/\cM Mw=f0/\Mw.length<=1000)(pt:PT p t (cM M))(bk:oe L' (cM M')=f0){o:pI}(zy:2<=o.k/\o.k<=6)(k6:o.k≠6)(lv:br o.t o.r=2)(lk:cM M'=ML o (cM M)){bo ba:Nat}{MM:List Value}(gO:h.bl.get bo=some (aj [X8 o.k,X8 o.t,X8 o.r,X8 o.m,X8 o.v,X8 o.w] 92 false))(gA:h.bl.get ba=some (aj MM 88 false))(hlt:bo<h.nx/\ba<h.nx)(bE:List Value)(N:List Value->af->Prop)(hN:∀l h',QJ h0 E A bp bt s2 m2 f0 (cM M) o M' L' i bo ba MM l h'->N l h'):r_ bo (.bool (cM M o.t o.r).isSome) N bE bt bp h:=by
 have fin:∀l h' p' t',SJ h0 E A M' L' i h'/\NM h' bp p'/\NM h' bt t'/\(∃Mw rm,dG h' s2 m2 Mw rm/\cM Mw=f0/\Mw.length<=1000)->PT p' t' (cM M')->ah l 15=X8 (ur o (cM M))->(o.k=2->(cM M o.t o.r).isSome=true->(p' o.t o.r).getD 0=(cM M o.t o.r).getD 0)->h'.bl.get bo=h.bl.get bo->h'.bl.get ba=h.bl.get ba->h.nx<=h'.nx->N l h':=λl h' p' t' q pt' KL rd e1 e2 n1=>
  hN l h' ⟨KL,e1.trans gO,e2.trans gA,X1,p',t',⟨q.1,q.2.1,q.2.2.1,pt',bk,q.2.2.2⟩,rd⟩
 have RC:SJ h0 E A M' L' i h/\NM h bp p/\NM h bt t/\(∃Mw rm,dG h s2 m2 Mw rm/\cM Mw=f0/\Mw.length<=1000):=⟨s,np,nt,was⟩
 have rd0:o.k=2->(cM M o.t o.r).isSome=true->(p o.t o.r).getD 0=(cM M o.t o.r).getD 0:=λ_ hs=>by
  rw[pt.is,decide_eq_true_eq]at hs;have ht:t o.t o.r=some 1:=by
   cases e:t o.t o.r with
   |none=>rw[e]at hs;exact absurd hs X7
   |some z=>rw[e]at hs;exact congrArg some hs
  rw[(pt.on _ _ ht).1]
 have hlo:h.lo<=h.nx:=by obtain⟨_,_,_,_,_,t1,_⟩:=s;exact t1.lo
 by_cases e4:o.k=4
 .cases hv:(cM M o.t o.r).isSome with
  |true=>
   simp(disch:=try exact Y)only[Wz,r_,gO,bz e4];refine fin _ _ p t RC ?_ ?_ rd0 rfl rfl (Nat.le_refl _)
   .rw[lk];unfold ML CH ur;simp[e4,hv];exact pt
   .unfold ur;rw[if_neg k6,if_pos e4,if_pos hv];rfl
  |false=>
   have hdo:cM M'=iO (cM M) o.t o.r (some o.v):=by rw[lk];unfold ML CH ur;simp[e4,hv]
   simp(disch:=try exact Y)only[Wz,r_,gO,bz e4,xS,A9,bf (show o.k≠5 by omega),bf (show o.k≠2 by omega)];refine Wo x RC gO gA hlt _ _ _ _ _ _ _ _ _ _ _ _ _ _ _ _ _ _ _ ?_;intro l h' KL st' q1 q2 q3;refine fin l h' _ _ st' (by rw[hdo];exact pt.put lv o.v) ?_ (λe=>absurd e X1) q1 q2 q3;rw[KL];unfold ur;rw[if_neg k6,if_pos e4,hv];rfl
 .cases hv:(cM M o.t o.r).isSome with
  |false=>
   simp(disch:=try exact Y)only[Wz,r_,gO,bf e4,xS];refine fin _ _ p t RC ?_ ?_ rd0 rfl rfl (Nat.le_refl _)
   .rw[lk];unfold ML CH ur;simp[e4,k6,hv];exact pt
   .unfold ur;rw[if_neg k6,if_neg e4,hv];rfl
  |true=>
   have KL:ur o (cM M)=1:=by unfold ur;rw[if_neg k6,if_neg e4,if_pos hv]
   by_cases e5:o.k=5
   .have hdo:cM M'=iO (cM M) o.t o.r none:=by rw[lk];unfold ML;rw[if_pos (show CH o (cM M)from⟨.inr (.inr e5),KL⟩),if_pos e5]
    simp(disch:=try exact Y)only[Wz,r_,gO,bf e4,xS,A9,bz e5];refine nt.y9 o.t o.r 0 _ ?_;intro h1 n1 m1 e1;obtain⟨es1,c1,g1⟩:=nt.gm;refine fin _ h1 _ _ (KJ.mkt x RC m1 n1) (by rw[hdo];exact pt.del o.t o.r) (by rw[KL];rfl) (λe=>absurd e X1) ((m1.cell g1 hlt.1 gO).trans gO.symm) ((m1.cell g1 hlt.2 gA).trans gA.symm) X1
   .by_cases e2:o.k=2
    .simp(disch:=try exact Y)only[Wz,r_,gO,bf e4,xS,A9,bf e5,bz e2];refine fin _ _ p t RC ?_ (by rw[KL];rfl) rd0 rfl rfl (Nat.le_refl _);rw[lk];unfold ML CH;simp[e2];exact pt
    .have e3:o.k=3:=by omega
     have hdo:cM M'=iO (cM M) o.t o.r (some o.v):=by rw[lk];unfold ML;rw[if_pos (show CH o (cM M)from⟨.inl e3,KL⟩),if_neg e5]
     simp(disch:=try exact Y)only[Wz,r_,gO,bf e4,xS,A9,bf e5,bf e2];refine Wo x RC gO gA hlt _ _ _ _ _ _ _ _ _ _ _ _ _ _ _ _ _ _ _ ?_;intro l h' auB st' q1 q2 q3;exact fin l h' _ _ st' (by rw[hdo];exact pt.put lv o.v) (by rw[KL,auB]) (λe=>absurd e X1) q1 q2 q3
theorem Wp{h0:af}(ro:kK h0){E:EN}{A:RA}(ea:A.ab=E.z.ab)(em:E.z.most=2){bp bt s2 m2:Nat}(x:LX h0 E A bp bt s2 m2){f0 p t:Int->Int->Option Int}{M:List HE}{L:List W4}{i:Nat}{h:af}(s:KJ h0 E A bp bt s2 m2 f0 p t M L i h)(hi:i<12){vl:Value}{Ls:List pI}(hvl:Sl jo h0 vl Ls){o:pI}(ho:Ls[i]? = some o)(bE:List Value)(MT:ah bE 110=X8 (i:Int))(KH:List Value->af->Prop)(V:KQ)(hN:∀l' h' p' t' M' L',KJ h0 E A bp bt s2 m2 f0 p' t' M' L' (i+1) h'->KH l' h')(hκ:∀h',V (.bool true) h'):vO vl bE KH (pt A.rb) (pt A.sb) (pt s2) bt bp h V:=by
 obtain⟨b,c,hb,hx,hr⟩:=ahg hvl i ho;obtain⟨ck0,v0,zB,auC,N0,t0,_⟩:=s.sj;have qJ:=t0.le;have n0:=qJ.nx;have hlo:=t0.lo;obtain⟨r6,r2,r1⟩:=hr h qJ;obtain⟨hA,eA⟩:∃hA:af,hA=⟨h.nx+1,h.bl.a_ h.nx (aj [X8 o.k,X8 o.t,X8 o.r,X8 o.m,X8 o.v,X8 o.w] 92 false),h.lo⟩:=⟨_,rfl⟩
 have LZ:Le h hA:=by rw[eA];exact(Le.refl h).new _
 have gO:hA.bl.get h.nx=some (aj [X8 o.k,X8 o.t,X8 o.r,X8 o.m,X8 o.v,X8 o.w] 92 false):=by rw[eA];exact T.ay _ _ _
 have nA:hA.nx=h.nx+1:=by rw[eA]
 have lA:hA.lo=h.lo:=by rw[eA]
 have sA:=s.le LZ;by_cases e7:o.k=7
 .simp(disch:=try exact Y)only[Wz,vO,MT,hx,r6,jo,bz e7];rw[<-eA];exact hN _ _ _ _ _ _ (sA.up (Nat.le_succ _))
 by_cases e8:o.k=8
 .simp(disch:=try exact Y)only[Wz,vO,MT,hx,r6,jo,bf e7,bz e8];rw[<-eA];exact hN _ _ _ _ _ _ (sA.up (Nat.le_succ _))
 simp(disch:=try exact Y)only[Wz,vO,MT,hx,r6,jo,bf e7,bf e8];unfold NH;simp(disch:=try exact Y)only[Wz];rw[<-eA];clear eA;refine Pj ro ea em sA.sj X1 o _ ?_ ?_ ?_
 .intro nA h' s' an;have n1:=an.nx;have k1:KJ h0 E A bp bt s2 m2 f0 p t M L i h':=⟨s',sA.np.an an x.lm.pX,sA.nt.an an x.lm.tX,s.pt,s.bk,F4 x sA.was an⟩
  have Rz:h'.lo<=h'.nx:=by obtain⟨_,_,_,_,_,t1,_⟩:=s';exact t1.lo
  unfold fq;simp(disch:=try exact Y)only[Wz,bf (show(0:Int)≠5 by decide)];unfold LN;simp(disch:=try exact Y)only[Wz];exact hN _ _ _ _ _ _ ((k1.le ((Le.refl h').new _)).up (Nat.le_succ _))
 .intro co vv u j h' M' L' zy ok dr hu s' an;have n1:=an.nx;have Rz:h'.lo<=h'.nx:=by obtain⟨_,_,_,_,_,t1,_⟩:=s';exact t1.lo
  have hco:co≠5:=by
   rw[dr.co];unfold ur;split
   .decide
   .split
    .split<;>decide
    .split<;>decide
  obtain⟨ux,un,uc,rfl⟩:∃x n c,u=.slice x n c:=by obtain⟨n,c,rfl|⟨x,o,rfl⟩⟩:=hu<;>exact⟨_,_,_,rfl⟩
  have g1:=an.ty _ _ _ _ X1 gO (by unfold mE;decide) (by unfold ki;decide) (by unfold KI;decide) (by unfold sO;decide);simp(disch:=try exact Y)only[Wz,bf hco];unfold LN;obtain⟨h1,e1⟩:∃h1:af,h1=⟨h'.nx+1,h'.bl.a_ h'.nx (aj [X8 co,X8 vv,.slice ux un uc] 88 false),h'.lo⟩:=⟨_,rfl⟩
  have bN:Le h' h1:=by rw[e1];exact(Le.refl h').new _
  have gA1:h1.bl.get h'.nx=some (aj [X8 co,X8 vv,.slice ux un uc] 88 false):=by rw[e1];exact T.ay _ _ _
  have n1':h1.nx=h'.nx+1:=by rw[e1]
  have gO1:=(bN.get _ X1).trans g1;have bk:oe L' (cM M')=f0:=by rw[dr.lg,dr.lk,ZW,s.bk]
  have np1:=(sA.np.an an x.lm.pX).le bN;have nt1:=(sA.nt.an an x.lm.tX).le bN;have anx:∃Mw rm,dG h1 s2 m2 Mw rm/\cM Mw=f0/\Mw.length<=1000:=by
   obtain⟨Mw,rm,w,r⟩:=F4 x sA.was an;exact⟨Mw,rm,w.le bN,r⟩
  by_cases e6:o.k=6
  .rw[<-e1];simp(disch:=try exact Y)only[Wz,gO1,bz e6];refine hN _ _ _ _ _ _ ⟨s'.le bN,np1,nt1,?_,bk,anx⟩;rw[dr.lk];unfold ML CH;simp[e6];exact s.pt
  ·rw[<-e1];clear e1;have lv:br o.t o.r=2:=by
    rw[ok.2];unfold jq;have:o.k=2\/o.k=3\/o.k=4\/o.k=5:=by omega
    rcases this with e|e|e|e<;>rw[e]<;>decide
   have lk:=λ(β:Type)(fl:β)(V:X3 β)=>nt1.KC (fl:=fl) o.t o.r V;simp(disch:=try exact Y)only[Wz,gO1,bf e6,Tm,lk];rw[<-s.pt.is];refine⟨λl2 h2=>QJ h0 E A bp bt s2 m2 f0 (cM M) o M' L' (i+1) h.nx h'.nx [X8 co,X8 vv,.slice ux un uc] l2 h2,?_,?_⟩
   .exact Rq x (s'.le bN) np1 nt1 anx s.pt bk zy e6 lv dr.lk gO1 gA1 ⟨X1,X1⟩ _ _ λl h2 q=>q
   .rintro l2 h2 ⟨KL,qO,qA,qlt,p',t',kj,rd⟩;unfold Tl;have ZX:=dr.co;by_cases e2:o.k=2
    .cases hv:(cM M o.t o.r).isSome with
     |true=>
      have c1:co=1:=by rw[ZX];unfold ur;rw[if_neg e6,if_neg X1,if_pos hv]
      have vv1:vv=(p' o.t o.r).getD 0:=by rw[rd e2 hv];exact dr.va e2 c1
      have lkp:=λ(β:Type)(fl:β)(V:X3 β)=>kj.np.KC (fl:=fl) o.t o.r V;simp(disch:=try exact Y)only[Wz,qA,qO,KL,bz ZX,bz e2,lkp,bz vv1];exact hN _ _ _ _ _ _ kj
     |false=>
      simp(disch:=try exact Y)only[Wz,qA,qO,KL,bz ZX,bz e2];exact hN _ _ _ _ _ _ kj
    .simp(disch:=try exact Y)only[Wz,qA,qO,KL,bz ZX,bf e2];exact hN _ _ _ _ _ _ kj
 ·intro co vv u j h' M' eY v' bu X N' t' a' lk ml eo hu an;have n1:=an.nx;have Rz:h'.lo<=h'.nx:=t'.lo;have hco:co=5:=by
   rcases eo with⟨_,e⟩|⟨e|e,_⟩
   .exact e
   .exact absurd e e7
   .exact absurd e e8
  subst hco;obtain⟨ux,un,uc,rfl⟩:∃x n c,u=.slice x n c:=by obtain⟨n,c,rfl|⟨x,o,rfl⟩⟩:=hu<;>exact⟨_,_,_,rfl⟩
  simp(disch:=try exact Y)only[Wz];unfold Tn;obtain⟨h1,e1⟩:∃h1:af,h1=⟨h'.nx+1,h'.bl.a_ h'.nx (aj [X8 5,X8 vv,.slice ux un uc] 88 false),h'.lo⟩:=⟨_,rfl⟩
  have bN:Le h' h1:=by rw[e1];exact(Le.refl h').new _
  rw[<-e1];clear e1;refine MJ (t'.keep bN) (a'.le bN) ea _ ?_;simp(disch:=try exact Y)only[Wz];obtain⟨Mw,rm,w,ew,lw⟩:=F4 x sA.was an;refine Ky (t'.keep bN).st (w.le bN) (t'.keep bN).lo ?_ ?_ _ ?_
  .have:=(rj t'.st.ok w.ok (by rw[lk,if_neg e7,ew,s.bk])).length_eq;rw[List.length_map,List.length_map]at this;omega
  .rw[lk,if_neg e7,ew,s.bk]
  .intro h2 bD;exact hκ h2
theorem anz{h:af}{v:Value}{K:List N3}(hs:Sl kX h v K)(i:Nat){p:N3}(hp:K[i]? = some p):∃b o,b<h.nx/\(∀(β:Type)(fl:β)(h':af)(V:X3 β),aO fl 3 v (X8 (i:Int)) h' V=V (.pointer (some ⟨b,o,none⟩)) h')/\
   (∀(β:Type)(fl:β)(V:List Value->β),xI fl (h.bl.get b) o 2 V=V [X8 p.1,X8 p.2.1])/\
   (∀(β:Type)(fl:β)(V:Value->β),w8 fl (h.bl.get b) (o+2) V=V (X8 p.2.2)):=by
 obtain⟨b,o,h1,h2,h3,hh⟩:=hs.ld kq i hp;refine⟨b,o,h1,h2,λβ fl V=>?_,λβ fl V=>?_⟩
 .have:=hh.sub 0 2 (by show 0+2<=3;omega);rw[Nat.add_zero]at this;exact lD this 2 V rfl
 .exact eU (fl:=fl) hh 2 V (by show 2<3;omega)
theorem anA{α:Type}{enc:α->List Value}{h h':af}{v:Value}{L:List α}{b:Nat}{es:List MapEntry}{c:Nat}(s:Sl enc h v L)(m:MK b h h')(g:h.bl.get b=some (.map es c)):Sl enc h' v L:=by
 obtain⟨x,cap,rfl,hx⟩:=s;refine⟨x,cap,rfl,λhn=>?_⟩;obtain⟨b1,o1,rfl,hb,hh⟩:=hx hn;refine⟨b1,o1,rfl,Nat.lt_of_lt_of_le hb m.nx,?_⟩;have hne:b1≠b:=by
  rintro rfl;obtain⟨n,c',e,h1|⟨op,h1⟩,_⟩:=hh<;>rw[g]at h1<;>cases h1
 rw[m.get _ hb hne];exact hh
def Dp(t:Int->Int->Option Int)(D:List N2):Int->Int->Option Int:=λa b=>if(a,b)∈D then some 0 else t a b
theorem Wq(t:Int->Int->Option Int):Dp t []=t:=by funext a b;unfold Dp;rw[if_neg (by simp)]
theorem Rr(t:Int->Int->Option Int){D:List N2}{k:Nat}{q:N2}(hq:D[k]? = some q):iO (Dp t (D.take k)) q.1 q.2 (some 0)=Dp t (D.take (k+1)):=by
 funext a b;unfold iO Dp;rw[List.take_add_one,hq];by_cases e:a=q.1/\b=q.2
 .rw[if_pos e,if_pos (by simp[e.1,e.2])]
 ·rw[if_neg e];have:((a,b)∈D.take k++(some q).toList)<->(a,b)∈D.take k:=by
   simp only[Option.toList_some,List.mem_append,List.mem_singleton];constructor
   .rintro(h|h)
    .exact h
    .exact absurd ⟨congrArg Prod.fst h,congrArg Prod.snd h⟩ e
   .exact .inl
  by_cases h:(a,b)∈D.take k
  .rw[if_pos h,if_pos (this.2 h)]
  .rw[if_neg h,if_neg (λh'=>h (this.1 h'))]
theorem Wr{D:List N2}(hs:D.Pairwise x8){k:Nat}{q:N2}(hq:D[k]? = some q):q∉D.take k:=by
 intro hm;obtain⟨j,hj,e⟩:=List.getElem_of_mem hm;obtain⟨hk,rfl⟩:=List.getElem?_eq_some_iff.1 hq;rw[List.length_take]at hj;have h1:=List.pairwise_iff_getElem.1 hs j k X1 hk X1;rw[List.getElem_take]at e;rw[e]at h1;unfold x8 at h1;omega
theorem Pk{p t:Int->Int->Option Int}{M:List HE}{ck:Nat}(o:cO M ck)(q:PT p t (cM M)){D:List N2}(hp:D.Perm (M.map c_))(x:N2):x∈D<->t x.1 x.2=some 1:=by
 have h1:x∈D<->(cM M x.1 x.2).isSome=true:=by
  rw[hp.mem_iff,List.mem_map];constructor
  .rintro⟨e,he,rfl⟩
   show(cM M e.t e.r).isSome=true
   rw[(jw o e.t e.r e.w).2 ⟨e,he,rfl,rfl,rfl⟩];rfl
  .intro hs;obtain⟨w,hw⟩:=Option.isSome_iff_exists.1 hs;obtain⟨e,he,e1,e2,_⟩:=(jw o x.1 x.2 w).1 hw;exact⟨e,he,Prod.ext e1 e2⟩
 rw[h1];constructor
 .intro hs;cases ht:decide (t x.1 x.2=some 1)with
  |true=>exact of_decide_eq_true ht
  |false=>rw[q.off _ _ (of_decide_eq_false ht)]at hs;exact absurd hs X7
 .intro ht;exact(q.on _ _ ht).2.1
theorem ZY{h0 h:af}{bp bt sb sm:Nat}{M:List HE}{ck:Nat}{p t:Int->Int->Option Int}(hpt:bp≠bt)(ht0:h0.nx<=bt)(qJ:Le h0 h)(st:dG h sb sm M ck)(hM:M.length<=1000)(hlo:h.lo<=h.nx)(np:NM h bp p)(nt:NM h bt t)(q:PT p t (cM M)){vl:Value}{Ls:List pI}(hvl:Sl jo h0 vl Ls)(hLs:Ls.length<=12)(v67:Value)(bE:List Value)(V:KQ)(hκ:∀h',V (.bool true) h'):zT (.bool true) (pt sb) v67 bE bt bp vl h V:=by
 simp(disch:=try exact Y)only[Wz,zT];refine wS st hlo hM _ ?_;intro vP h1 D Ma hs ho bN;have n1:=bN.nx;have l1:=bN.lo;have hDl:D.length<=1000:=by have:=Ma.length_eq;rw[List.length_map]at this;omega
 have hrl:(rowsOf M D).length=D.length:=by unfold rowsOf;rw[List.length_map]
 refine⟨λm l h2=>∃k:Nat,ah l 45=X8 (k:Int)/\m=D.length-k/\k<=D.length/\Le h0 h2/\NM h2 bp p/\NM h2 bt (Dp t (D.take k))/\Sl kX h2 vP (rowsOf M D)/\h2.lo<=h2.nx,⟨_,0,rfl,rfl,Nat.zero_le _,qJ.trans bN,np.le bN,by rw[List.take_zero,Wq];exact nt.le bN,ho.sl,X1⟩,?_⟩;rintro m l h2 ⟨k,e45,rfl,hk,bD,np2,nt2,su,Vz⟩;have hlen:=λ(β:Type)(fl:β)=>su.len (β:=β) (fl:=fl);rw[hrl]at hlen;by_cases hlt:k<D.length
 .obtain⟨x,hx⟩:∃x,D[k]? = some x:=⟨_,List.getElem?_eq_getElem hlt⟩
  have hrow:(rowsOf M D)[k]? = some (x.1,x.2,(cM M x.1 x.2).getD 0):=by unfold rowsOf;rw[List.getElem?_map,hx];rfl
  obtain⟨b,c,hb,pg,Gy,M6⟩:=anz su k hrow;have hxD:x∈D:=List.mem_of_getElem? hx;have ht:=(Pk st.ok q Ma x).1 hxD;have htk:Dp t (D.take k) x.1 x.2=some 1:=by unfold Dp;rw[if_neg (Wr hs hx)];exact ht
  obtain⟨q1,q2,q3⟩:=q.on _ _ ht;have lkt:=λ(β:Type)(fl:β)(V:X3 β)=>nt2.KC (fl:=fl) x.1 x.2 V;rw[htk]at lkt;have lkp:=λ(β:Type)(fl:β)(V:X3 β)=>np2.KC (fl:=fl) x.1 x.2 V;rw[<-q1]at lkp;have z1:((some 1:Option Int).getD 0)=1:=rfl;simp(disch:=try exact Y)only[Wz,E_,hlen,e45,f_ (show(k:Int)<(D.length:Int)by omega),NJ,pg,Gy,M6,lkt,lkp,z1];refine Qy x.1 x.2 ?_;rw[q3];simp(disch:=try exact Y)only[Wz,Gy];refine nt2.y9 x.1 x.2 0 _ ?_;intro h3 n3 m3 e3;obtain⟨es,cc,g⟩:=nt2.gm;rw[Rr t hx]at n3;have lm:=m3.lo;refine⟨_,X1,k+1,rfl,rfl,X1,⟨by have:=bD.nx;omega,lm.trans bD.lo,λd hd=>(m3.get d (by have:=bD.nx;omega) X1).trans (bD.get d hd)⟩,np2.mo m3 hpt,n3,anA su m3 g,X1⟩
 .have hk':k=D.length:=by omega
  subst hk';rw[List.take_length]at nt2;simp(disch:=try exact Y)only[Wz,E_,hlen,e45];refine⟨λm l h3=>HQ h2 h3/\∃i:Nat,ah l 15=X8 (i:Int)/\m=Ls.length-i/\i<=Ls.length,⟨_,rfl,0,rfl,rfl,Nat.zero_le _⟩,?_⟩;rintro m l3 h3 ⟨hq,i,KL,rfl,hi⟩;cases(show h2=h3 from hq);by_cases hli:i<Ls.length
  .obtain⟨o,ho⟩:∃o,Ls[i]? = some o:=⟨_,List.getElem?_eq_getElem hli⟩
   obtain⟨b,c,hb,pg,hr⟩:=ahg hvl i ho;obtain⟨r6,r2,r1⟩:=hr h2 bD;have hne:(Dp t D o.t o.r).getD 0≠1:=by
    unfold Dp;by_cases hm:(o.t,o.r)∈D
    .rw[if_pos hm];decide
    .rw[if_neg hm];have:=λh=>hm ((Pk st.ok q Ma (o.t,o.r)).2 h);cases e:t o.t o.r with
     |none=>decide
     |some z=>exact λh=>this (by show t o.t o.r=some 1;rw[e];exact congrArg some h)
   have lkt:=λ(β:Type)(fl:β)(V:X3 β)=>nt2.KC (fl:=fl) o.t o.r V;simp(disch:=try exact Y)only[Wz,hvl.len,KL,f_ (show(i:Int)<(Ls.length:Int)by omega),NI,pg,r2,lkt,bf hne];exact⟨_,X1,rfl,i+1,rfl,rfl,X1⟩
  .have hi':i=Ls.length:=by omega
   subst hi';simp(disch:=try exact Y)only[Wz,hvl.len,KL];exact hκ h2
def oE(cm:Bool):pI:=⟨if cm=true then 7 else 8,-1,-1,0,0,0⟩
theorem auD(cm:Bool):ZM (oE cm):=by cases cm<;>(unfold ZM OpG oE;decide +kernel)
theorem ahj{h0:af}(ro:kK h0){E:EN}{A:RA}(ea:A.ab=E.z.ab)(em:E.z.most=2){bp bt s2 m2:Nat}(x:LX h0 E A bp bt s2 m2){f0 p t:Int->Int->Option Int}{M:List HE}{L:List W4}{i:Nat}{h:af}(s:KJ h0 E A bp bt s2 m2 f0 p t M L i h)(hi:i<=12){vl:Value}{Ls:List pI}(hvl:Sl jo h0 vl Ls)(hLs:Ls.length<=12)(cm:Bool)(PR bE:List Value)(e1:ah PR 1=X8 (oE cm).k)(V:KQ)(hκ:∀h',V (.bool true) h'):Fa PR (pt A.rb) (.bool cm) (pt A.sb) (pt s2) bE bt bp vl h V:=by
 have hlo:h.lo<=h.nx:=by obtain⟨_,_,_,_,_,t1,_⟩:=s.sj;exact t1.lo
 have lM:M.length<=i+12:=by obtain⟨_,_,_,_,_,_,_,_,_,_,_,_,l,_⟩:=s.sj;exact l
 unfold Fa;rw[e1];refine We _ h _ hlo ?_;intro h1 bN;have s1:=s.le bN
 show av prog 39 [pt A.rb,.agg ⟨jo (oE cm)⟩] h1 _
 refine Pj ro ea em s1.sj X1 (oE cm) _ ?_ ?_ ?_
 .intro nA;exact absurd (auD cm) nA
 .intro co vv u j h' M' L' zy;exact absurd zy.2 (by unfold oE;cases cm<;>decide)
 ·intro co vv u j h' M' eY v' bu X N' t' a' lk ml eo hu an;have Rz:h'.lo<=h'.nx:=t'.lo;have hco:co=1:=by
   rcases eo with⟨e,_⟩|⟨_,e⟩
   .exact absurd e.2 (by unfold oE;cases cm<;>decide)
   .exact e
  subst hco;obtain⟨ux,un,uc,rfl⟩:∃x n c,u=.slice x n c:=by obtain⟨n,c,rfl|⟨x,o,rfl⟩⟩:=hu<;>exact⟨_,_,_,rfl⟩
  simp(disch:=try exact Y)only[Wz];obtain⟨h2,e2⟩:∃h2:af,h2=⟨h'.nx+1,h'.bl.a_ h'.nx (aj [X8 1,X8 vv,.slice ux un uc] 88 false),h'.lo⟩:=⟨_,rfl⟩
  have bD:Le h' h2:=by rw[e2];exact(Le.refl h').new _
  rw[<-e2];clear e2;have t2:=t'.keep bD;have a2:=a'.le bD;refine MJ t2 a2 ea _ ?_;simp(disch:=try exact Y)only[Wz];refine V1 t2 (Nat.zero_le _) _ ?_;intro v3 h3 o3 dM;have anC:=λ(β:Type)(fl:β)=>o3.sl.len (β:=β) (fl:=fl);simp(disch:=try exact Y)only[Wz,anC,List.length_nil];refine ag4 (t2.keep dM) (a2.le dM) ea (Nat.zero_le _) _ ?_;intro v4 h4 o4 jP;have anD:=λ(β:Type)(fl:β)=>o4.sl.len (β:=β) (fl:=fl);simp(disch:=try exact Y)only[Wz,anD,List.length_nil];have Df:Le h' h4:=(bD.trans dM).trans jP;have t4:=t'.keep Df;have np4:=(s1.np.an an x.lm.pX).le Df;have nt4:=(s1.nt.an an x.lm.tX).le Df;obtain⟨Mw,rm,w,ew,lw⟩:=F4 x s1.was an;cases cm with
  |false=>
   have eM:cM M'=cM Mw:=by rw[lk,if_neg (by unfold oE;decide),ew,s.bk]
   simp(disch:=try exact Y)only[Wz,zT];refine Ky t4.st (w.le Df) t4.lo ?_ eM _ ?_
   .have:=(rj t'.st.ok w.ok eM).length_eq;rw[List.length_map,List.length_map]at this;omega
   .intro h5 uk;exact hκ h5
  |true=>
   have eM:cM M'=cM M:=by rw[lk,if_pos (by unfold oE;decide)]
   obtain⟨ck0,v0,_,_,_,t0,_⟩:=s.sj;have hM:M'.length<=1000:=by
    have:=(rj t'.st.ok t0.st.ok eM).length_eq;rw[List.length_map,List.length_map]at this;omega
   exact ZY x.lm.ne x.lm.t0 t4.le t4.st hM t4.lo np4 nt4 (by rw[eM];exact s.pt) hvl hLs _ _ V hκ
theorem ahk{h0:af}(ro:kK h0){E:EN}{A:RA}(ea:A.ab=E.z.ab)(em:E.z.most=2){bp bt s2 m2:Nat}(x:LX h0 E A bp bt s2 m2){f0 p t:Int->Int->Option Int}{M:List HE}{L:List W4}{h:af}(s:KJ h0 E A bp bt s2 m2 f0 p t M L 0 h){vl:Value}{Ls:List pI}(hvl:Sl jo h0 vl Ls)(hLs:Ls.length<=12)(cm:Bool)(l0:List Value)(e0:ah l0 110=X8 0)(V:KQ)(hκ:∀h',V (.bool true) h'):ej l0 h λbE h N68=>zU vl bE (pt A.rb) (pt A.sb) (pt s2) bt bp N68 (.bool cm) h V:=by
 refine⟨λm l h'=>∃(i:Nat)(p t:Int->Int->Option Int)(M:List HE)(L:List W4),ah l 110=X8 (i:Int)/\m=Ls.length-i/\i<=Ls.length/\KJ h0 E A bp bt s2 m2 f0 p t M L i h',⟨_,0,p,t,M,L,e0,rfl,Nat.zero_le _,s⟩,?_⟩;rintro m l h1 ⟨i,p1,t1,M1,L1,MT,rfl,hi,s1⟩;by_cases hlt:i<Ls.length
 .obtain⟨o,ho⟩:∃o,Ls[i]? = some o:=⟨_,List.getElem?_eq_getElem hlt⟩
  simp(disch:=try exact Y)only[Wz,zU,hvl.len,MT,f_ (show(i:Int)<(Ls.length:Int)by omega)];refine⟨λl' h'=>∃p t M L,KJ h0 E A bp bt s2 m2 f0 p t M L (i+1) h',?_,?_⟩
  .exact Wp ro ea em x s1 X1 hvl ho l MT _ V (λl' h' p' t' M' L' k=>⟨p',t',M',L',k⟩) hκ
  .rintro l' h' ⟨p',t',M',L',k⟩;exact⟨_,X1,i+1,p',t',M',L',rfl,rfl,X1,k⟩
 .have hi':i=Ls.length:=by omega
  subst hi';simp(disch:=try exact Y)only[Wz,zU,hvl.len,MT];refine⟨λl' h'=>ah l' 1=X8 (oE cm).k/\HQ h1 h',?_,?_⟩
  .cases cm<;>(simp(disch:=try exact Y)only[Wz];exact⟨rfl,rfl⟩)
  .rintro l' h' ⟨e1,hq⟩;cases(show h1=h' from hq);exact ahj ro ea em x s1 hLs hvl hLs cm l' l e1 V hκ
theorem KD(Lx Ls:List pI)(cm:Bool)(h:af)(vx vl:Value)(hvx:Sl jo h vx Lx)(hvl:Sl jo h vl Ls)(hlo:h.lo<=h.nx)(ro:kK h)(V:KQ)(hk:∀h',V (.bool true) h'):av prog 7 [vx,vl,.bool cm] h V:=by
 apply X9;rw[aqT];refine Rm ro h (Le.refl h) hlo _ ?_;intro h1 bN;have Rz:h1.lo<=h1.nx:=by have:=bN.lo;have:=bN.nx;omega
 by_cases hx:12<Lx.length
 .simp(disch:=try exact Y)only[Wz,zV,hvx.len,f_ (show(12:Int)<(Lx.length:Int)by omega)];exact hk h1
 by_cases hl:12<Ls.length
 .simp(disch:=try exact Y)only[Wz,zV,hvx.len,hvl.len,d_ (show(Lx.length:Int)<=12 by omega),f_ (show(12:Int)<(Ls.length:Int)by omega)];exact hk h1
 simp(disch:=try exact Y)only[Wz,zV,hvx.len,hvl.len,d_ (show(Lx.length:Int)<=12 by omega),d_ (show(Ls.length:Int)<=12 by omega),NK];refine Ek ro h1 bN Rz _ ?_;intro h2 E A tc ai ea em Gx;have Vz:=tc.lo;have uZ:=tc.st.jV.1;have n0:=tc.le.nx;simp(disch:=try exact Y)only[Wz,ku];obtain⟨h3,e3⟩:∃h3:af,h3=⟨h2.nx+1+1,(h2.bl.a_ h2.nx (.map [] 0)).a_ (h2.nx+1) (.map [] 0),h2.lo⟩:=⟨_,rfl⟩
 have dM:Le h2 h3:=by rw[e3];exact((Le.refl h2).new _).new _
 have np3:NM h3 h2.nx (λ_ _=>none):=by rw[e3];exact(NM.new Vz).le ((Le.refl _).new _)
 have nt3:NM h3 (h2.nx+1) (λ_ _=>none):=by rw[e3];exact NM.new (h:=⟨h2.nx+1,h2.bl.a_ h2.nx (.map [] 0),h2.lo⟩) (by show h2.lo<=h2.nx+1;omega)
 rw[<-e3];clear e3;have lm:LM h E A h2.nx (h2.nx+1):=⟨X1,λhm=>by
  rcases List.mem_cons.1 hm with e|e
  .omega
  .have:=Gx _ e;omega,λhm=>by
  rcases List.mem_cons.1 hm with e|e
  .omega
  .have:=Gx _ e;omega,n0,X1⟩
 refine⟨λm l h'=>∃(i:Nat)(M:List HE)(ck:Nat)(p t:Int->Int->Option Int),ah l 46=X8 (i:Int)/\m=Lx.length-i/\i<=Lx.length/\LW h E A h2.nx (h2.nx+1) M ck [] ZQ p t (λ_ _=>0) (λ_ _=>1) 0 ⟨1,[],[],[]⟩ h'/\PT p t (cM M)/\M.length<=i,⟨_,0,[],0,_,_,rfl,rfl,Nat.zero_le _,⟨tc.keep dM,ai.le dM,np3,nt3⟩,PT.nil,Nat.le_refl _⟩,?_⟩;rintro m l h4 ⟨i,M,ck,p,t,e46,rfl,hi,w,q,lM⟩;by_cases hlt:i<Lx.length
 .obtain⟨o,ho⟩:∃o,Lx[i]? = some o:=⟨_,List.getElem?_eq_getElem hlt⟩
  simp(disch:=try exact Y)only[Wz,Fb,hvx.len,e46,f_ (show(i:Int)<(Lx.length:Int)by omega)];refine⟨λl' h'=>∃M' eY p' t',LW h E A h2.nx (h2.nx+1) M' eY [] ZQ p' t' (λ_ _=>0) (λ_ _=>1) 0 ⟨1,[],[],[]⟩ h'/\PT p' t' (cM M')/\M'.length<=i+1,?_,?_⟩
  .exact ZS lm w q hvx ho l e46 _ λl' h' M' eY p' t' w' q' ln=>⟨M',eY,p',t',w',q',X1⟩
  .rintro l' h' ⟨M',eY,p',t',w',q',ln⟩;exact⟨_,X1,i+1,M',eY,p',t',rfl,rfl,X1,w',q',ln⟩
 .have hi':i=Lx.length:=by omega
  subst hi';simp(disch:=try exact Y)only[Wz,Fb,hvx.len,e46];refine Ro w.tc.st w.tc.lo _ ?_;intro h5 s2 m2 st5 uk ns nm;have b1:=w.p.lt;have b2:=w.t.lt;have b3:=w.tc.st.jV.1;have x:LX h E A h2.nx (h2.nx+1) s2 m2:=⟨lm,λhm=>by
   rcases List.mem_cons.1 hm with e|e
   .omega
   .have:=Gx _ e;omega,X1,X1⟩
  have w5:=w.le uk;refine ahk ro ea em x (f0:=cM M) ⟨⟨ck,ZQ,[],[],0,w5.tc,rfl,w5.ai,⟨by simp,by simp,by simp⟩,⟨by simp,by simp,by simp⟩,by simp,by simp,X1,by simp⟩,w5.p,w5.t,q,rfl,M,ck,st5,rfl,X1⟩ hvl X1 cm _ rfl V hk
end Go.Proofs

namespace Go.Proofs
open Go.Vai Go.Clashes Go.ChangeShapes Go.WideShapes
open Tryz (prog)
theorem laidOut:laidOutB prog=true:=by kernel_rfl
theorem decO{H:Type}{enc:TypeId × Value->H}{w:World}(n:Nat)(cs:List Value)(d:DataW H × List MemPlace)(hl:cs.length=6)(h:DataW.trod enc prog w 0 (λ_=>true) true n 92 cs=some d):∃p:pI,cs=jo p:=by
 have k0:=SY (P:=prog) 10 92 [.i .i64,.i .i64,.i .i64,.i .i64,.i .i64,.i .i64] (by kernel_rfl) _ _ _ h;clear h;obtain⟨_,_,rfl,⟨n0,rfl,_⟩,k1⟩:=k0.xN;obtain⟨_,_,rfl,⟨n1,rfl,_⟩,k2⟩:=k1.xN;obtain⟨_,_,rfl,⟨n2,rfl,_⟩,k3⟩:=k2.xN;obtain⟨_,_,rfl,⟨n3,rfl,_⟩,k4⟩:=k3.xN;obtain⟨_,_,rfl,⟨n4,rfl,_⟩,k5⟩:=k4.xN;obtain⟨_,_,rfl,⟨n5,rfl,_⟩,k6⟩:=k5.xN;cases k6.aiM;exact⟨⟨_,_,_,_,_,_⟩,rfl⟩
theorem memRo(w:World):kK (memH w):=by
 intro d;refine⟨λvs t o e=>?_,λes c e=>?_⟩
 .obtain⟨C,e',fz,_,h⟩:=tf e;cases h
 .obtain⟨C,e',fz,_,h⟩:=tf e;cases h
theorem lawAborts_row(L0 L1:List pI)(b:Bool)(h:af)(v0 v1:Value)(s0:Sl jo h v0 L0)(c0:Cut 92 6 h v0 L0.length)(s1:Sl jo h v1 L1)(c1:Cut 92 6 h v1 L1.length)(hlo:h.lo<=h.nx)(ro:kK h):av prog 7 [v0,v1,.bool b] h EX:=KD L0 L1 b h v0 v1 s0 s1 hlo ro EX λ_=>rfl
end Go.Proofs
