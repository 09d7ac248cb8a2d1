/-
  PROVED HERE: a part of the proof (K23, K24, K25, K26, VaiY, K27, K28, K29, Srt, K30, K31).
-/
import Derived.Test.YtmllggkhfmjpgaaGreatDoorG4
set_option linter.unusedVariables false
set_option linter.unusedSimpArgs false
set_option maxRecDepth 100000
noncomputable section
namespace Go.Proofs
open Go.Vai Go.Clashes
open Tryz (prog)
theorem rj.len{M:List HE}{F:List Int}{B:List Bool}(i:rj M B)(o:kU F B){e:HE}(he:e∈M):e.Q.length+F.length<=B.length:=by
 have h1:=oL o;obtain⟨X,hX⟩:=i;have h2:=hX.length_eq;rw[List.length_append]at h2;have:e.Q.length<=(ig M).length:=by
  have hs:=List.append_of_mem he;obtain⟨s,t,rfl⟩:=hs;simp[ig];omega
 omega
theorem Uc{h:ah}{bb bm bp bl most:Nat}{M:List HE}{clock:Nat}{F:List Int}{B:List Bool}(s:bu h bb bm bp bl most M clock F B)(hlo:h.lo<=h.nx)(ids:rj M B)(N:Nat)(hN:N<=100000)(hw:∀e∈M,e.w<=N)(t r x m:Int)(Y:KQ)(hk2:∀h',cL m=false->Le h h'->Y (.tuple ⟨[X1 0,.bool false,X1 2]⟩) h')(Mz:∀h' e p,cL m=true->e∈M->t=e.t->r=e.r->p∈e.Q->p.x=x->Le h h'->Y (.tuple ⟨[X1 0,.bool false,X1 4]⟩) h')(hk8:∀h',cL m=true->(∀e∈M,t=e.t->r=e.r->∀p∈e.Q,p.x≠x)->(F=[]\/((∀e∈M,¬(t=e.t/\r=e.r))/\most<=M.length))->Le h h'->Y (.tuple ⟨[X1 0,.bool false,X1 8]⟩) h')(QJ:∀M' clock' F' h' n g,cL m=true->(∀e∈M,t=e.t->r=e.r->∀p∈e.Q,p.x≠x)->lp h h' bb bm bp bl most M M' clock' F F' B t r x m n g->Y (.tuple ⟨[X1 (n:Int),.bool g,X1 0]⟩) h'):aj prog 353 [X3 bb,iF t r,X1 x,X1 m] h Y:=by
 apply X2;rw[Zw];have hFl:F.length<=1000:=by have:=oL s.di.ok;have:=s.di.small;omega
 simp(disch:=try exact QQ)only[Wz,iF];obtain⟨hA,bH,aY,g1,ia,ic⟩:=oR h (ai [X1 t,X1 r] 28 false);rw[<-bH];clear bH;have sA:=s.le aY;simp(disch:=try exact QQ)only[Wz,gT,Gn];by_cases h0:m=0
 .simp(disch:=try exact QQ)only[Wz,bq h0];exact hk2 _ (by simp[cL,h0]) aY
 simp(disch:=try exact QQ)only[Wz,a_ h0];refine uu m ?_;cases hkn:kn m with
 |false=>
  simp(disch:=try exact QQ)only[Wz];exact hk2 _ (by simp[cL,hkn]) aY
 |true=>
 have am:cL m=true:=by simp[cL,hkn,h0]
 simp(disch:=try exact QQ)only[Wz,Gm,g1];refine G9 sA XV t r x _ ?_ ?_
 case _=>
  intro h2 hno bK;have qk:=aY.trans bK;have s2:=sA.le bK;have n2:=bK.nx;have l2:=bK.lo;have gb:=s2.iC;have gm:=s2.gf;have g1:=(bK.get _ XV).trans g1;by_cases hc:∃e∈M,t=e.t/\r=e.r
  .obtain⟨e,he,rfl,rfl⟩:=hc;have eL:=G7 (β:=Option Value) (fl:=none) s2.ok gm he;unfold iF at eL;have H:=s2.bf e he;have hgd:=s2.good e he;simp(disch:=try exact QQ)only[Wz,ze,aL,gb,g1,eL];refine⟨λl h'=>aa l 18=X3 e.hb/\HQ h2 h',⟨rfl,rfl⟩,?_⟩;rintro l h' ⟨hl,hq⟩;cases(show h2=h' from hq);refine BR s2 XV qk ids hFl N hN hw e.t e.r x m am l e.hb e.Q e.q e.w hl H.lt H.get H.qv hgd.vq (λhF0=>?_) (hw e he) (hno e he rfl rfl) (λp hp=>ids.find he hp) (.inl ⟨e,he,rfl,rfl,rfl,rfl⟩) Y (λh' h1 h3=>hk8 h' am hno (.inl h1) h3) λM' clock' F' h' n g hA=>QJ M' clock' F' h' n g am hno hA;have:=ids.len s.di.ok he;have:=s.di.small;have:=List.length_pos_iff.2 hF0;omega
  .have hn:∀e∈M,¬(t=e.t/\r=e.r):=λe he h=>hc ⟨e,he,h⟩;have eL:=BO (β:=Option Value) (fl:=none) gm t r hn;unfold iF at eL;simp(disch:=try exact QQ)only[Wz,ze,aL,gb,g1,eL];by_cases hfull:M.length<most
   .obtain⟨hB,eB⟩:∃hB:ah,hB=⟨h2.nx+1,h2.bl.bx h2.nx (eV t r (.slice none 0 0) 0),h2.lo⟩:=⟨_,rfl⟩
    have Ud:Le h2 hB:=by rw[eB];exact(Le.refl h2).new _
    have gB:hB.bl.get h2.nx=some (eV t r (.slice none 0 0) 0):=by rw[eB];exact T.an _ _ _
    have nB:hB.nx=h2.nx+1:=by rw[eB]
    have lB:hB.lo=h2.lo:=by rw[eB]
    refine⟨λl h'=>aa l 18=X3 h2.nx/\HQ hB h',?_,?_⟩
    .simp(disch:=try exact QQ)only[Wz,zc,aL,gb,g1,lR,gm,bR,List.length_map,bq (show Int.ofNat M.length<(most:Int)from by show(M.length:Int)<_;omega),Bool.not_true];exact⟨trivial,eB⟩
    .rintro l h' ⟨hl,hq⟩;cases(show hB=h' from hq);have sB:=s2.le Ud;exact BR sB XV (qk.trans Ud) ids hFl N hN hw t r x m am l h2.nx [] (.slice none 0 0) 0 hl XV gB ⟨Sl.nil _ _ _,λb o n c hv _=>nomatch hv⟩ VQ.nil (λ_=>by simp) XV (λp hp=>nomatch hp) (λp hp=>nomatch hp) (.inr ⟨hn,hfull,rfl,rfl⟩) Y (λh' h1 h3=>hk8 h' am hno (.inl h1) h3) λM' clock' F' h' n g hA=>QJ M' clock' F' h' n g am hno hA
   .refine⟨λl h'=>False,?_,λ_ _ h=>h.elim⟩;simp(disch:=try exact QQ)only[Wz,zc,aL,gb,g1,lR,gm,bR,List.length_map,a_ (show ¬Int.ofNat M.length<(most:Int)from by show ¬(M.length:Int)<_;omega),Bool.not_false];exact hk8 h2 am hno (.inr ⟨hn,XV⟩) qk
 case _=>
  intro h2 e p he ht hr hp hx bK;simp(disch:=try exact QQ)only[Wz];exact Mz h2 e p am he ht hr hp hx (aY.trans bK)
structure eE(h h':ah)(bb bm bp bl most:Nat)(M M':List HE)(clock':Nat)(F':List Int)(B':List Bool)(e:HE)(Q1:List R5)(w1:Int):Prop where
 is:bu h' bb bm bp bl most M' clock' F' B'
 fr:qj bm bp bl h h'
 vq:VQ Q1 w1
 set:iD M M' e.t e.r w1 (dx (fO Q1+1) Q1).1
theorem G_{Q:List R5}{W:Int}(v:VQ Q W){id:Int}{p:R5}(hf:bU Q id=some p):∃i:Nat,Q[i]? = some p/\p.id=id:=by
 obtain⟨h1,h2⟩:=dQ hf;obtain⟨i,hi⟩:=List.mem_iff_getElem?.1 h1;exact⟨i,hi,h2⟩
theorem He{h:ah}{bb bm bp bl most:Nat}{M:List HE}{clock:Nat}{F:List Int}{B:List Bool}(s:bu h bb bm bp bl most M clock F B)(hlo:h.lo<=h.nx)(N:Nat)(hN:N<=100000)(hw:∀e∈M,e.w<=N)(id m:Int)(Y:KQ)(hk2:∀h',cL m=false->Le h h'->Y (.tuple ⟨[.bool false,X1 2]⟩) h')(Jy:∀h',cL m=true->(∀e∈M,bU e.Q id=none)->Le h h'->Y (.tuple ⟨[.bool false,X1 5]⟩) h')(QK:∀h' e p,cL m=true->e∈M->bU e.Q id=some p->0<p.s->Le h h'->Y (.tuple ⟨[.bool false,X1 7]⟩) h')(nj:∀h' M' clock' e p i,cL m=true->e∈M->e.Q[i]? = some p->bU e.Q id=some p->¬0<p.s->eE h h' bb bm bp bl most M M' clock' F B e (e.Q.set i (jg e.Q e.w p m).1) (jg e.Q e.w p m).2.1->Y (.tuple ⟨[.bool (jg e.Q e.w p m).2.2,X1 0]⟩) h'):aj prog 354 [X3 bb,X1 id,X1 m] h Y:=by
 apply X2;rw[Zx];simp(disch:=try exact QQ)only[Wz,gT,Gp];refine QH s hlo id _ ?_ ?_
 .intro h1 hno bF;have n1:=bF.nx;have l1:=bF.lo;simp(disch:=try exact QQ)only[Wz,oJ];obtain⟨hA,bH,aY,g7,ia,ic⟩:=oR h1 (eV 0 0 (.slice none 0 0) 0);rw[<-bH];clear bH;refine⟨λl h'=>aa l 4=X3 h1.nx/\HQ hA h',⟨rfl,rfl⟩,?_⟩;rintro l h' ⟨hl,hq⟩;cases(show hA=h' from hq);simp(disch:=try exact QQ)only[Wz,zf,hl,aL,g7];refine zp 0 0 _ 0 id m [] hA _ (Sl.nil _ _ _) (by simp) XV XV ?_ ?_ ?_ ?_
  .intro ha h2 bK;have:=bK.nx;have:=bK.lo;simp(disch:=try exact QQ)only[Wz,jd];exact hk2 _ ha (((bF.trans aY).trans bK).new _)
  .intro ha _ h2 bK;have:=bK.nx;have:=bK.lo;simp(disch:=try exact QQ)only[Wz,jd];exact Jy _ ha hno (((bF.trans aY).trans bK).new _)
  .intro ha p hf;cases hf
  .intro ha i p hi;simp at hi
 .intro h1 e p0 he hf0 bF;have n1:=bF.nx;have l1:=bF.lo;have s1:=s.le bF;have H:=s1.bf e he;have hlt:=H.lt;have gd:=s1.good e he;have Is:=gd.small;obtain⟨qx,qc,eq,_⟩:=(show Sl bA h1 e.q e.Q from H.qv.1)
  have gh:=H.get;rw[eq]at gh;have we:=hw e he;simp(disch:=try exact QQ)only[Wz,ri];refine⟨λl h'=>aa l 4=X3 e.hb/\HQ h1 h',⟨rfl,rfl⟩,?_⟩;rintro l h' ⟨hl,hq⟩;cases(show h1=h' from hq);simp(disch:=try exact QQ)only[Wz,zf,hl,aL,gh];refine zp e.t e.r _ e.w id m e.Q h1 _ (by rw[<-eq];exact H.qv.1) XV XV ⟨gd.vq.w0,XV⟩ ?_ ?_ ?_ ?_
  .intro ha h2 bK;have:=bK.nx;have:=bK.lo;simp(disch:=try exact QQ)only[Wz,jd];exact hk2 _ ha ((bF.trans bK).new _)
  .intro ha hf;rw[hf]at hf0;cases hf0
  .intro ha p hf hs h2 bK;have:=bK.nx;have:=bK.lo;simp(disch:=try exact QQ)only[Wz,jd];exact QK _ e p ha he hf hs ((bF.trans bK).new _)
  .intro ha i p hi hf hs q' h2 rQ bK;have n2:=bK.nx;have l2:=bK.lo;obtain⟨qo,qp,rfl,_⟩:=(show Sl bA h2 q' _ from rQ.1)
   have vu:=gd.vq.upg hi hs ha;simp(disch:=try exact QQ)only[Wz,jd];have d_:Le h1 ⟨h2.nx+1,h2.bl.bx h2.nx (eV e.t e.r (.slice qo (e.Q.set i (jg e.Q e.w p m).1).length qp) (jg e.Q e.w p m).2.1),h2.lo⟩:=bK.new _;have lh3:Le h2 ⟨h2.nx+1,h2.bl.bx h2.nx (eV e.t e.r (.slice qo (e.Q.set i (jg e.Q e.w p m).1).length qp) (jg e.Q e.w p m).2.1),h2.lo⟩:=(Le.refl h2).new _;refine oK (s1.le d_) (by show h2.lo<=h2.nx+1;omega) e.t e.r _ _ _ _ (rQ.1.le lh3) vu (by rw[List.length_set];omega) ?_;intro M' clock' v' h' s5 jR _ M4;exact nj h' M' clock' e p i ha he hi hf hs ⟨s5,(qj.of_le (bF.trans d_)).trans M4,vu,jR⟩
theorem M5{h:ah}{bb bm bp bl most:Nat}{M:List HE}{clock:Nat}{F:List Int}{B:List Bool}(s:bu h bb bm bp bl most M clock F B)(hlo:h.lo<=h.nx)(ids:rj M B)(id:Int)(Y:KQ)(Jy:∀h',(∀e∈M,bU e.Q id=none)->Le h h'->Y (.tuple ⟨[.slice none 0 0,X1 5]⟩) h')(nj:∀h' M' clock' F' v' e p (n:Nat),e∈M->bU e.Q id=some p->id=(n:Int)->B[n]? = some true->F'.Perm (F++[(n:Int)])->eE h h' bb bm bp bl most M M' clock' F' (B.set n false) e (e.Q.filter λr=>!bE id r) e.w->vD h h' v' (dx (fO (e.Q.filter λr=>!bE id r)+1) (e.Q.filter λr=>!bE id r)).2->Y (.tuple ⟨[v',X1 0]⟩) h'):aj prog 395 [X3 bb,X1 id] h Y:=by
 apply X2;rw[ZJ];refine QH s hlo id _ ?_ ?_
 .intro h1 hno bF;simp(disch:=try exact QQ)only[Wz,oJ];refine Jx bb h1 _ ?_;exact Jy h1 hno bF
 .intro h1 e p he hf bF;have n1:=bF.nx;have l1:=bF.lo;have s1:=s.le bF;have H:=s1.bf e he;have hlt:=H.lt;have gd:=s1.good e he;have Is:=gd.small;obtain⟨qx,qc,eq,_⟩:=(show Sl bA h1 e.q e.Q from H.qv.1)
  have gh:=H.get;rw[eq]at gh;obtain⟨n,en,sN⟩:=ids.find he (dQ hf).1;have Jt:id=(n:Int):=by rw[<-en];exact(dQ hf).2.symm
  have hFl:F.length<=1000:=by have:=oL s.di.ok;have:=s.di.small;omega
  simp(disch:=try exact QQ)only[Wz,ri,Gx,aL,gh];refine T0 e.t e.r _ e.w id e.Q h1 _ (by rw[<-eq];exact H.qv.1) XV XV (by rw[hf];simp) ?_;intro q' h2 rQ bK;have n2:=bK.nx;have l2:=bK.lo;obtain⟨qo,qp,rfl,_⟩:=(show Sl bA h2 q' _ from rQ.1)
  have s2:=s1.le bK;have gb:=s2.iC;have hlb:=s2.Of;simp(disch:=try exact QQ)only[Wz,jd];obtain⟨h3,e3⟩:∃h3:ah,h3=⟨h2.nx+1,h2.bl.bx h2.nx (eV e.t e.r (.slice qo (e.Q.filter λr=>!bE id r).length qp) e.w),h2.lo⟩:=⟨_,rfl⟩
  have d_:Le h2 h3:=by rw[e3];exact(Le.refl h2).new _
  have g3:h3.bl.get h2.nx=some (eV e.t e.r (.slice qo (e.Q.filter λr=>!bE id r).length qp) e.w):=by rw[e3];exact T.an _ _ _
  have n3:h3.nx=h2.nx+1:=by rw[e3]
  have l3:h3.lo=h2.lo:=by rw[e3]
  rw[<-e3];clear e3;have s3:=s2.le d_;have hl:=gd.vq.filter λr=>!bE id r;simp(disch:=try exact QQ)only[Wz,gb,Jt];refine QD bp bl F B n h3 _ s3.di hFl XV s3.ne sN ?_;intro h4 F' p4 BS Ue;have n4:=Ue.nx;have l4:=Ue.lo;have H4:=kV.rm (e:=⟨e.t,e.r,h2.nx,0,_,e.w,_⟩) ⟨by show h2.nx<h3.nx;omega,g3,rQ.le d_⟩ s3.di Ue;have g4:=H4.get;simp(disch:=try exact QQ)only[Wz,g4];have lf:(e.Q.filter λr=>!bE id r).length<=e.Q.length:=List.length_filter_le _ _;refine oK (s3.rm p4 Ue) XV e.t e.r _ _ _ _ H4.qv.1 hl (by show(e.Q.filter λr=>!bE id r).length<=128;omega) ?_;intro M' clock' v' h' s5 jR A0 M4;have Qz:vD h h' v' _:=eG.base A0 (by have:=bF.nx;omega);exact nj h' M' clock' F' v' e p n he hf Jt sN BS ⟨s5,(qj.of_le ((bF.trans bK).trans d_)).trans ((qj.aat Ue).trans M4),hl,jR⟩ Qz
theorem Hf(Q:List R5)(id:Int):bU (Q.filter λr=>!bE id r) id=none:=by
 unfold bU;rw[List.find?_eq_none];intro x hx;rw[List.mem_filter]at hx;have:=hx.2;cases h:bE id x with
 |false=>simp
 |true=>rw[h]at this;cases this
theorem QL{Q:List R5}{W:Int}(v:VQ Q W){i:Nat}{p p':R5}{id:Int}(hi:Q[i]? = some p)(hid:p.id=id)(hp:p'.id=p.id):∃o,bU (Q.set i p') id=some o:=by
 cases h:bU (Q.set i p') id with
 |some o=>exact⟨o,rfl⟩
 |none=>
  obtain⟨hl,_⟩:=List.getElem?_eq_some_iff.1 hi;exact absurd (hp.trans hid) (mq h p' (List.mem_of_getElem? (i:=i) (by rw[List.getElem?_set,if_pos rfl,if_pos hl])))
theorem Hg{h:ah}{bb bm bp bl most:Nat}{M:List HE}{clock:Nat}{F:List Int}{B:List Bool}(s:bu h bb bm bp bl most M clock F B)(hlo:h.lo<=h.nx)(ids:rj M B)(id:Int)(Y:KQ)(Jy:∀h',(∀e∈M,bU e.Q id=none)->Le h h'->Y (.tuple ⟨[.slice none 0 0,X1 5]⟩) h')(QK:∀h' e p,e∈M->bU e.Q id=some p->¬0<p.s->Le h h'->Y (.tuple ⟨[.slice none 0 0,X1 7]⟩) h')(nj:∀h' M' clock' F' v' e p (n:Nat),e∈M->bU e.Q id=some p->0<p.s->p.m=0->id=(n:Int)->B[n]? = some true->F'.Perm (F++[(n:Int)])->eE h h' bb bm bp bl most M M' clock' F' (B.set n false) e (e.Q.filter λr=>!bE id r) e.w->vD h h' v' (dx (fO (e.Q.filter λr=>!bE id r)+1) (e.Q.filter λr=>!bE id r)).2->Y (.tuple ⟨[v',X1 0]⟩) h')(gP:∀h' M' clock' v' e p i,e∈M->e.Q[i]? = some p->bU e.Q id=some p->0<p.s->p.m≠0->eE h h' bb bm bp bl most M M' clock' F B e (e.Q.set i (kJ p)) e.w->vD h h' v' (dx (fO (e.Q.set i (kJ p))+1) (e.Q.set i (kJ p))).2->Y (.tuple ⟨[v',X1 0]⟩) h'):aj prog 294 [X3 bb,X1 id] h Y:=by
 apply X2;rw[Y6];refine QH s hlo id _ ?_ ?_
 .intro h1 hno bF;simp(disch:=try exact QQ)only[Wz,oJ];refine Jx bb h1 _ ?_;exact Jy h1 hno bF
 .intro h1 e p he hf bF;have n1:=bF.nx;have l1:=bF.lo;have s1:=s.le bF;have H:=s1.bf e he;have hlt:=H.lt;have gd:=s1.good e he;have Is:=gd.small;obtain⟨qx,qc,eq,_⟩:=(show Sl bA h1 e.q e.Q from H.qv.1)
  have gh:=H.get;rw[eq]at gh;obtain⟨n,en,sN⟩:=ids.find he (dQ hf).1;have Jt:id=(n:Int):=by rw[<-en];exact(dQ hf).2.symm
  have hFl:F.length<=1000:=by have:=oL s.di.ok;have:=s.di.small;omega
  obtain⟨i,hi,MW⟩:=G_ gd.vq hf;simp(disch:=try exact QQ)only[Wz,ri,F3,aL,gh];refine MX e.t e.r _ e.w id e.Q h1 _ (by rw[<-eq];exact H.qv.1) XV XV gd.vq.pair hi MW ?_ ?_ ?_
  .intro hs h2 bK;have:=bK.nx;have:=bK.lo;simp(disch:=try exact QQ)only[Wz,jd];exact QK _ e p he hf hs ((bF.trans bK).new _)
  .intro hs hm0 q' h2 rQ bK;have n2:=bK.nx;have l2:=bK.lo;obtain⟨qo,qp,rfl,_⟩:=(show Sl bA h2 q' _ from rQ.1)
   have s2:=s1.le bK;have gb:=s2.iC;have hlb:=s2.Of;simp(disch:=try exact QQ)only[Wz,jd];obtain⟨h3,e3⟩:∃h3:ah,h3=⟨h2.nx+1,h2.bl.bx h2.nx (eV e.t e.r (.slice qo (e.Q.filter λr=>!bE id r).length qp) e.w),h2.lo⟩:=⟨_,rfl⟩
   have d_:Le h2 h3:=by rw[e3];exact(Le.refl h2).new _
   have g3:h3.bl.get h2.nx=some (eV e.t e.r (.slice qo (e.Q.filter λr=>!bE id r).length qp) e.w):=by rw[e3];exact T.an _ _ _
   have n3:h3.nx=h2.nx+1:=by rw[e3]
   have l3:h3.lo=h2.lo:=by rw[e3]
   rw[<-e3];clear e3;have hlv:=gd.vq.filter λr=>!bE id r;have lf:(e.Q.filter λr=>!bE id r).length<=e.Q.length:=List.length_filter_le _ _;refine⟨λl h'=>∃F',F'.Perm (F++[(n:Int)])/\bu h' bb bm bp bl most M clock F' (B.set n false)/\h'.bl.get h2.nx=some (eV e.t e.r (.slice qo (e.Q.filter λr=>!bE id r).length qp) e.w)/\QV h' (.slice qo (e.Q.filter λr=>!bE id r).length qp) (e.Q.filter λr=>!bE id r)/\qj bm bp bl h h'/\h3.nx<=h'.nx,?_,?_⟩
   .simp(disch:=try exact QQ)only[Wz,y9,g3];refine uy e.t e.r _ e.w id _ h3 _ (rQ.1.le d_) XV XV ?_;intro h4 mE;have n4:=mE.nx;have l4:=mE.lo;rw[Hf];have s4:=(s2.le d_).le mE;have gb4:=s4.iC;have aoO:=s4.Of;have s5:=s4.le ((Le.refl h4).new (jM ⟨0,0,0,0,0⟩));simp(disch:=try exact QQ)only[Wz,bA,aL,gb4,Jt];refine QD bp bl F B n _ _ s5.di hFl (by show h4.lo<=h4.nx+1;omega) s5.ne sN ?_;intro h6 F' p6 hp6 fr6;have n6:h4.nx+1<=h6.nx:=fr6.nx;have H6:=kV.rm (e:=⟨e.t,e.r,h2.nx,0,_,e.w,_⟩) (kV.le ⟨by show h2.nx<h3.nx;omega,g3,rQ.le d_⟩ (mE.new _)) s5.di fr6;have G6:=H6.get;have Q6:=H6.qv;simp only[Jt]at G6 Q6;exact⟨F',hp6,s5.rm p6 fr6,G6,Q6,(qj.of_le (((bF.trans bK).trans d_).trans (mE.new _))).trans (qj.aat fr6),XV⟩
   .rintro l h6 ⟨F',hp6,s6,g6,hq6,fr6,n6⟩;have l6:=fr6.lo;simp(disch:=try exact QQ)only[Wz,g6];refine oK s6 XV e.t e.r _ _ _ _ hq6.1 hlv XV ?_;intro M' clock' v' h' s7 jR SO fr7;exact nj h' M' clock' F' v' e p n he hf hs hm0 Jt sN hp6 ⟨s7,fr6.trans fr7,hlv,jR⟩ (eG.base SO XV)
  .intro hs hm0 q' h2 rQ bK;have n2:=bK.nx;have l2:=bK.lo;obtain⟨qo,qp,rfl,_⟩:=(show Sl bA h2 q' _ from rQ.1)
   have s2:=s1.le bK;simp(disch:=try exact QQ)only[Wz,jd];obtain⟨h3,e3⟩:∃h3:ah,h3=⟨h2.nx+1,h2.bl.bx h2.nx (eV e.t e.r (.slice qo (e.Q.set i (kJ p)).length qp) e.w),h2.lo⟩:=⟨_,rfl⟩
   have d_:Le h2 h3:=by rw[e3];exact(Le.refl h2).new _
   have g3:h3.bl.get h2.nx=some (eV e.t e.r (.slice qo (e.Q.set i (kJ p)).length qp) e.w):=by rw[e3];exact T.an _ _ _
   have n3:h3.nx=h2.nx+1:=by rw[e3]
   have l3:h3.lo=h2.lo:=by rw[e3]
   rw[<-e3];clear e3;have hlv:=gd.vq.back hi hm0;obtain⟨o,ho⟩:=QL gd.vq hi MW (p':=kJ p) rfl;refine⟨λl h'=>Le h3 h',?_,?_⟩
   .simp(disch:=try exact QQ)only[Wz,y9,g3];refine uy e.t e.r _ e.w id _ h3 _ (rQ.1.le d_) (by rw[List.length_set];omega) XV ?_;intro h4 mE;have n4:=mE.nx;have l4:=mE.lo;rw[ho];simp(disch:=try exact QQ)only[Wz,bA];exact mE.new _
   .intro l h6 mR;have n6:=mR.nx;have l6:=mR.lo;have g6:=(mR.get _ XV).trans g3;simp(disch:=try exact QQ)only[Wz,g6];have zD:=d_.trans mR;refine oK (s2.le zD) XV e.t e.r _ _ _ _ (rQ.1.le zD) hlv (by rw[List.length_set];omega) ?_;intro M' clock' v' h' s7 jR SO fr7;exact gP h' M' clock' v' e p i he hi hf hs hm0 ⟨s7,(qj.of_le ((bF.trans bK).trans zD)).trans fr7,hlv,jR⟩ (eG.base SO XV)
theorem QM{h:ah}{bb bm bp bl most:Nat}{M:List HE}{clock:Nat}{F:List Int}{B:List Bool}(s:bu h bb bm bp bl most M clock F B)(hlo:h.lo<=h.nx)(id x:Int)(Y:KQ)(Jy:∀h',(∀e∈M,bU e.Q id=none)->Le h h'->Y (X1 5) h')(Mz:∀h' e p,e∈M->bU e.Q id=some p->(∃o∈e.Q,o.id≠id/\o.x=x)->Le h h'->Y (X1 4) h')(QK:∀h' e p,e∈M->bU e.Q id=some p->(∀o∈e.Q,o.id≠id->o.x≠x)->0<p.s->Le h h'->Y (X1 7) h')(nj:∀h' M' clock' e p i,e∈M->e.Q[i]? = some p->bU e.Q id=some p->(∀o∈e.Q,o.id≠id->o.x≠x)->¬0<p.s->eE h h' bb bm bp bl most M M' clock' F B e (e.Q.set i (yL p x)) e.w->Y (X1 0) h'):aj prog 357 [X3 bb,X1 id,X1 x] h Y:=by
 apply X2;rw[ZA];refine QH s hlo id _ ?_ ?_
 .intro h1 hno bF;simp(disch:=try exact QQ)only[Wz,oJ];refine Jx bb h1 _ ?_;exact Jy h1 hno bF
 .intro h1 e p he hf bF;have n1:=bF.nx;have l1:=bF.lo;have s1:=s.le bF;have H:=s1.bf e he;have hlt:=H.lt;have gd:=s1.good e he;have Is:=gd.small;obtain⟨qx,qc,eq,_⟩:=(show Sl bA h1 e.q e.Q from H.qv.1)
  have gh:=H.get;rw[eq]at gh;obtain⟨i,hi,MW⟩:=G_ gd.vq hf;simp(disch:=try exact QQ)only[Wz,ri,Gs,aL,gh];refine aag e.t e.r _ e.w id x e.Q h1 _ (by rw[<-eq];exact H.qv.1) XV XV gd.vq.pair hi MW ?_ ?_ ?_
  .intro hx h2 bK;have:=bK.nx;have:=bK.lo;simp(disch:=try exact QQ)only[Wz,jd];refine⟨λl h'=>Le h h',?_,?_⟩
   .exact(bF.trans bK).new _
   .intro l h' le';exact Mz _ e p he hf hx le'
  .intro hx hs h2 bK;have:=bK.nx;have:=bK.lo;simp(disch:=try exact QQ)only[Wz,jd];refine⟨λl h'=>Le h h',?_,?_⟩
   .exact(bF.trans bK).new _
   .intro l h' le';exact QK _ e p he hf hx hs le'
  .intro hx hs q' h2 rQ bK;have n2:=bK.nx;have l2:=bK.lo;obtain⟨qo,qp,rfl,_⟩:=(show Sl bA h2 q' _ from rQ.1)
   have s2:=s1.le bK;simp(disch:=try exact QQ)only[Wz,jd];have d_:Le h2 ⟨h2.nx+1,h2.bl.bx h2.nx (eV e.t e.r (.slice qo (e.Q.set i (yL p x)).length qp) e.w),h2.lo⟩:=(Le.refl h2).new _;have hlv:=gd.vq.hand (x:=x) hi (by rw[MW];exact hx);refine⟨λl h'=>∃M' clock',eE h h' bb bm bp bl most M M' clock' F B e (e.Q.set i (yL p x)) e.w,?_,?_⟩
   .refine oK (s2.le d_) (by show h2.lo<=h2.nx+1;omega) e.t e.r _ _ _ _ (rQ.1.le d_) hlv (by rw[List.length_set];omega) ?_;intro M' clock' v' h' s7 jR SO fr7;exact⟨M',clock',s7,(qj.of_le ((bF.trans bK).trans d_)).trans fr7,hlv,jR⟩
   .rintro l h' ⟨M',clock',hm⟩;exact nj h' M' clock' e p i he hi hf hx hs hm
theorem aja(a b c d e:Int):je 8 (.agg ⟨[X1 a,X1 b,X1 c,X1 d,X1 e]⟩) (.agg ⟨[X1 a,X1 b,X1 c,X1 d,X1 e]⟩)=true:=by unfold je;exact vm 6 [a,b,c,d,e]
theorem Uf{h:ah}{bb bm bp bl most:Nat}{M:List HE}{clock:Nat}{F:List Int}{B:List Bool}(s:bu h bb bm bp bl most M clock F B)(hlo:h.lo<=h.nx)(id:Int)(Y:KQ)(nj:∀h',(∀e∈M,bU e.Q id=none)->Le h h'->Y (.tuple ⟨[iF 0 0,j0 ⟨0,0,0,0,0⟩,.bool false]⟩) h')(gP:∀h' e p,e∈M->bU e.Q id=some p->Le h h'->Y (.tuple ⟨[iF e.t e.r,j0 p,.bool true]⟩) h'):aj prog 292 [X3 bb,X1 id] h Y:=by
 apply X2;rw[Qm];simp(disch:=try exact QQ)only[Wz];obtain⟨hA,bH,aY,g1,g3,ia,ic⟩:=DK h (ai [X1 0,X1 0] 28 false) (jM ⟨0,0,0,0,0⟩);rw[<-bH];clear bH;refine QH (s.le aY) XV id _ ?_ ?_
 .intro h1 hno bF;have n1:=bF.nx;have l1:=bF.lo;have g1:=(bF.get _ XV).trans g1;have g3:=(bF.get _ XV).trans g3;simp(disch:=try exact QQ)only[Wz,oJ,g1,g3,bA];exact nj _ hno ((((aY.trans bF).set XV _)).set XV _)
 .intro h1 e p he hf bF;have n1:=bF.nx;have l1:=bF.lo;have g1:=(bF.get _ XV).trans g1;have g3:=(bF.get _ XV).trans g3;have s1:=(s.le aY).le bF;have H:=s1.bf e he;have hlt:=H.lt;have gd:=s1.good e he;have Is:=gd.small;obtain⟨qx,qc,eq,_⟩:=(show Sl bA h1 e.q e.Q from H.qv.1)
  have gh:=H.get;rw[eq]at gh;simp(disch:=try exact QQ)only[Wz,ri,F0,aL,gh];refine uy e.t e.r _ e.w id _ h1 _ (by rw[<-eq];exact H.qv.1) XV XV ?_;intro h2 bK;have n2:=bK.nx;have l2:=bK.lo;have g1:=(bK.get _ XV).trans g1;have g3:=(bK.get _ XV).trans g3;have gh2:=(bK.get _ hlt).trans gh;rw[hf];simp(disch:=try exact QQ)only[Wz,bA,g1,g3,gh2,aL,aja];exact gP _ e p he hf (((((aY.trans bF).trans bK).new _).set XV _).set XV _)
end Go.Proofs

namespace Go.Vai
open Go
def prK(P:Program)(skip:FuncId->Bool):ku Prop:=⟨λf=>match skip f with|true=>none|false=>some (aj P f),And⟩
theorem Jz(P:Program)(skip:FuncId->Bool):iy (λp:Prop=>p) (prK P skip) P:=by
 refine⟨λx y h=>h,λf g hg args args' h φ w Y ha hr hgood=>?_⟩;unfold prK at hg;simp only at hg;split at hg
 .cases hg
 .cases hg;exact hgood φ w args' ha hr
theorem vJ{P:Program}(hm:P.follows .mixedOrders=true){skip:FuncId->Bool}{f:FuncId}{args:List Value}{h:ah}{Y:KQ}(n:Nat)(hg:jG False (prK P skip) P (run False (prK P skip) P n) f args h Y):aj P f args h Y:=by
 intro φ w args' ha hr;exact gF (good:=λp:Prop=>p) (fl:=False) (λh=>h) (Jz P skip) (Bo (λh=>h) (Jz P skip) (s_ (λh=>h) (Jz P skip) hm) n).1 ha hr hg
def zF(P:Program)(f:FuncId):Code:=match xT P f with | .mk c _ _=>c | .none=>.skip
def iG:Code->Code | .seq a _=>a|c=>c
def iV:Code->Code | .seq _ b=>b|c=>c
def LQ:Code->Code | .block _ c=>c | .loop c=>c | .scope c=>c|c=>c
def rfA:Code->Code | .rangeFunc _ _ a _=>a|c=>c
def rfB:Code->Code | .rangeFunc _ _ _ b=>b|c=>c
end Go.Vai

namespace Go.Proofs
open Go.Vai Go.Clashes
open Tryz (prog)
abbrev fK:FuncId:=307
abbrev fA:FuncId:=204
def WB(f:FuncId):Bool:=Nat.beq f fK || Nat.beq f fA
noncomputable abbrev pN:ku Prop:=prK prog WB
noncomputable abbrev RN(n:Nat):Rec Prop:=run False pN prog n
def cK:Code:=zF prog fK
def cA:Code:=zF prog fA
def kA:Code:=iG cK
def kL:Code:=LQ (LQ (iV cK))
def kB:Code:=iG kL
def WC:Code:=LQ (iV (iV kL))
def kC:Code:=iG WC
def kD:Code:=iG (iV WC)
theorem aev:cK=.seq kA (.block 0 (.loop (.seq kB (.seq (.cond (.tmp 7) .skip (.exit 0)) (.block 1 (.seq kC (.seq kD (.cond (.tmp 13) .ret .skip)))))))):=by kernel_rfl
def aA:Code:=iG cA
def aB:Code:=iG (iG (iV cA))
def aR:Code:=LQ (iV (iG (iV cA)))
def aP:Code:=rfA aR
def aQ:Code:=LQ (rfB aR)
def aC:Code:=iG (iV (iV cA))
theorem aew:cA=.seq aA (.seq (.seq aB (.block 0 (.rangeFunc (.tmp 6) #[7] aP (.block 1 aQ)))) (.seq aC .ret)):=by kernel_rfl
variable (rec:Rec Prop)(tm:T Value)(h:ah)
theorem rkA(Y:Ex->T Value->ah->Prop):body False pN prog rec kA tm h Y =
  ev tm (.tmp 1) λx=>ax False x h λv h=>T.set tm 4 v λtm=>ev tm (.tmp 4) λx=>oU False x h λv h=>T.set tm 5 v λtm=>Y .normal tm h:=by kernel_rfl
theorem rkB(Y:Ex->T Value->ah->Prop):body False pN prog rec kB tm h Y =
  ev tm (.tmp 5) λx=>sG False And x h λv h=>T.set tm 6 v λtm=>ev tm (.tmp 6) λx=>aH False 0 x h λv h=>T.set tm 7 v λtm=>Y .normal tm h:=by kernel_rfl
theorem rkC(Y:Ex->T Value->ah->Prop):body False pN prog rec kC tm h Y =
  ev tm (.tmp 5) λx=>oW False x h λv h=>T.set tm 8 v λtm=>ev tm (.tmp 8) λx=>aH False 0 x h λv h=>T.set tm 9 v λtm=>
   aF False (ai [X1 0,X1 0] 28 false) h λb h=>T.set tm 3 (av b) λtm=>ev tm (.tmp 3) λa=>ev tm (.tmp 9) λv=>aM False 2 a v h λv h=>Y .normal tm h:=by kernel_rfl
theorem rkD(Y:Ex->T Value->ah->Prop):body False pN prog rec kD tm h Y =
  ev tm (.tmp 0) λfv=>T.set tm 10 fv λtm=>ev tm (.tmp 3) λx=>aN False 2 x h λv h=>T.set tm 11 v λtm=>
   ev tm (.tmp 11) λx=>ev tm (.tmp 10) λfv=>sJ False pN prog rec fv [x] h λv h=>T.set tm 12 v λtm=>ev tm (.tmp 12) λx=>jB False .not x h λv h=>T.set tm 13 v λtm=>Y .normal tm h:=by kernel_rfl
theorem ajb(Y:Ex->T Value->ah->Prop):body False pN prog rec aA tm h Y =
  ev tm (.tmp 0) λs=>aK False (Value.cells s).toList 156 false λo=>aF False o h λb h=>T.set tm 2 (av b) λtm=>T.set tm 4 (.slice none 0 0) λtm=>Y .normal tm h:=by kernel_rfl
theorem ajc(Y:Ex->T Value->ah->Prop):body False pN prog rec aB tm h Y=ev tm (.tmp 1) λg=>T.set tm 6 g λtm=>Y .normal tm h:=by kernel_rfl
theorem ajd(Y:Ex->T Value->ah->Prop):body False pN prog rec aP tm h Y =
  aF False (ai [X1 0,X1 0] 28 false) h λb h=>T.set tm 5 (av b) λtm=>ev tm (.tmp 5) λa=>ev tm (.tmp 7) λv=>aM False 2 a v h λv h=>Y .normal tm h:=by kernel_rfl
theorem aje(Y:Ex->T Value->ah->Prop):body False pN prog rec aQ tm h Y =
  ev tm (.tmp 2) λx=>ax False x h λv h=>T.set tm 8 v λtm=>ev tm (.tmp 5) λx=>aN False 2 x h λv h=>T.set tm 9 v λtm=>
   ev tm (.tmp 9) λv=>bM False [(0,2)] [v] [X1 0,X1 0] λcs=>aK False cs 28 false λo=>aF False o h λb h=>T.set tm 10 (bB 1 1 b) λtm=>
   ev tm (.tmp 8) λs=>ev tm (.tmp 10) λx=>bt False And 28 2 [X1 0,X1 0] false s x h λv h=>T.set tm 11 v λtm=>ev tm (.tmp 2) λa=>ev tm (.tmp 11) λv=>aM False 1 a v h λv h=>Y .normal tm h:=by kernel_rfl
theorem ajf(Y:Ex->T Value->ah->Prop):body False pN prog rec aC tm h Y =
  ev tm (.tmp 2) λx=>ax False x h λv h=>T.set tm 12 v λtm=>ev tm (.tmp 12) λv=>T.set tm 4 v λtm=>Y .normal tm h:=by kernel_rfl
theorem aex(s g:Value)(Y:KQ):jG False pN prog rec fA [s,g] h Y=rec cA (lay [s,g] .nil 0) h (wN False [.tmp 4] Y):=by kernel_rfl
theorem aey(y m:Value)(Y:KQ):jG False pN prog rec fK [y,m] h Y=rec cK (lay [y,m] .nil 0) h (wN False [] Y):=by kernel_rfl
theorem bG(t:T Value)(n:Nat)(v:Value):cZ (t.bx n v) n=v:=by unfold cZ;rw[T.an]
theorem cE(t:T Value){n m:Nat}(v:Value)(h:n≠m):cZ (t.bx n v) m=cZ t m:=by unfold cZ;rw[T.au _ _ h]
theorem dY{β:Type}(tm:T Value)(t:Nat)(Y:Value->β):ev tm (.tmp t) Y=Y (cZ tm t):=fZ _ _ _
section
variable (n:Nat)(a b:Code)(tm:T Value)(h:ah)(Y:Ex->T Value->ah->Prop)
theorem Hh:RN (n+1) (.seq a b) tm h Y=RN n a tm h (sq (RN n) b Y):=id rfl
theorem QN(t:Nat):RN (n+1) (.cond (.tmp t) a b) tm h Y=qz False (RN n) a b tm h Y (cZ tm t):=fZ tm (.tmp t) (qz False (RN n) a b tm h Y)
theorem xF(i:Nat):RN (n+1) (.block i a) tm h Y=RN n a tm h (kQ i Y):=id rfl
theorem aaw:RN (n+1) (.loop a) tm h Y=RN n a tm h (sq (RN n) (.loop a) Y):=id rfl
theorem QO(i:Nat):RN (n+1) (.exit i) tm h Y=Y (.exit i) tm h:=id rfl
theorem aez:RN (n+1) .ret tm h Y=Y .ret tm h:=id rfl
theorem QS:RN (n+1) .skip tm h Y=Y .normal tm h:=id rfl
theorem ajg(t:Nat)(ps:Array Tmp):RN (n+1) (.rangeFunc (.tmp t) ps a b) tm h Y=fe False pN prog (RN n) ps.toList a b tm h Y (cZ tm t):=fZ tm (.tmp t) (fe False pN prog (RN n) ps.toList a b tm h Y)
theorem ajh:RN (n+1) kA tm h Y=body False pN prog (RN n) kA tm h Y:=id rfl
theorem aji:RN (n+1) kB tm h Y=body False pN prog (RN n) kB tm h Y:=id rfl
theorem ajj:RN (n+1) kC tm h Y=body False pN prog (RN n) kC tm h Y:=id rfl
theorem ajk:RN (n+1) kD tm h Y=body False pN prog (RN n) kD tm h Y:=id rfl
theorem ajl:RN (n+1) aA tm h Y=body False pN prog (RN n) aA tm h Y:=id rfl
theorem ajm:RN (n+1) aB tm h Y=body False pN prog (RN n) aB tm h Y:=id rfl
theorem ajn:RN (n+1) aP tm h Y=body False pN prog (RN n) aP tm h Y:=id rfl
theorem ajo:RN (n+1) aQ tm h Y=body False pN prog (RN n) aQ tm h Y:=id rfl
theorem ajp:RN (n+1) aC tm h Y=body False pN prog (RN n) aC tm h Y:=id rfl
theorem nR(rec:Rec Prop):sq rec b Y .normal tm h=rec b tm h Y:=id rfl
theorem M6(rec:Rec Prop)(i:Nat):sq rec b Y (.exit i) tm h=Y (.exit i) tm h:=id rfl
theorem Ug(rec:Rec Prop):sq rec b Y .ret tm h=Y .ret tm h:=id rfl
theorem A4(i:Nat):kQ i Y .normal tm h=Y .normal tm h:=id rfl
theorem ajq(i:Nat):kQ i Y .ret tm h=Y .ret tm h:=id rfl
theorem LR:kQ 0 Y (.exit 0) tm h=Y .normal tm h:=id rfl
theorem Uh(rec:Rec Prop):qz False rec a b tm h Y (.bool true)=rec a tm h Y:=id rfl
theorem A5(rec:Rec Prop):qz False rec a b tm h Y (.bool false)=rec b tm h Y:=id rfl
end
noncomputable abbrev QT:Code:=.seq kB (.seq (.cond (.tmp 7) .skip (.exit 0)) (.block 1 (.seq kC (.seq kD (.cond (.tmp 13) .ret .skip)))))
noncomputable abbrev lq(st:LoopState)(iO:T Value):bT:=.loop st none iO [7] aP (.block 1 aQ)
def bV(p:Int × Int):List Value:=[X1 p.1,X1 p.2]
theorem dA(p:Int × Int):(bV p).length=2:=rfl
theorem ru(p:Int × Int):(bV p).all eO=true:=rfl
def dR(e:HE):Int × Int:=(e.t,e.r)
abbrev zG(a h:ah)(v:Value)(L:List (Int × Int)):Prop:=eG bV a 28 h v L
structure aax(a:ah)(bm:Nat)(clock:Nat)(M:List HE)(iO:T Value)(seen:List Nat)(tm:T Value)(h1:ah)(v:Value)(L:List HE):Prop where
 le:Le a h1
 nx:a.nx+3<=h1.nx
 gs:h1.bl.get a.nx=some (ai [v] 156 false)
 gl:h1.bl.get (a.nx+1)=some (lq .ready iO)
 gi:h1.bl.get (a.nx+2)=some (.fc (some bm) clock seen clock)
 own:zG a h1 v (L.map dR)
 perm:L.Perm (M.filter λe=>seen.any (Nat.beq e.born))
 t0:cZ tm 0=.func (.yield (a.nx+1)) #[] #[]
 t5:cZ tm 5=av (a.nx+2)
theorem aay(rec:Rec Prop)(l:Nat)(x:Value)(h:ah)(Y:KQ):sJ False pN prog rec (.func (.yield l) #[] #[]) [x] h Y=oZ False rec l [x] h Y:=id rfl
theorem round_eq{rec:Rec Prop}{l:Nat}{x:Value}{h:ah}{Y:KQ}{st:LoopState}{iO:T Value}(hl:h.bl.get l=some (lq st iO)):oZ False rec l [x] h Y=rec aP (iO.bx 7 x) h (fu False rec l (.block 1 aQ) Y):=by
 unfold oZ;simp only[hl,List.length_cons,List.length_nil]
 show sI [7] [x] iO _=_
 unfold sI;rw[T.cQ];unfold sI;rfl
theorem QU{rec:Rec Prop}{l:Nat}{bd:Code}{tm:T Value}{h:ah}{Y:KQ}{iO:T Value}(hl:h.bl.get l=some (lq .ready iO))(hlo:h.lo<=l):fu False rec l bd Y .normal tm h=rec bd tm ⟨h.nx,h.bl.bx l (lq .busy iO),h.lo⟩ (jr False l Y):=by
 unfold fu;simp only[hl,bI _ _ _ _ hlo]
theorem aaz{l:Nat}{tm:T Value}{h:ah}{Y:KQ}{st:LoopState}{iO:T Value}(hl:h.bl.get l=some (lq st iO))(hlo:h.lo<=l):jr False l Y .normal tm h=Y (.bool true) ⟨h.nx,h.bl.bx l (lq .ready iO),h.lo⟩:=by
 unfold jr;simp only[hl,bI _ _ _ _ hlo]
theorem M7{M:List HE}{clock:Nat}(o:iB M clock){e:HE}(he:e∈M){seen:List Nat}(hn:seen.any (Nat.beq e.born)=false):(M.filter λx=>(e.born::seen).any (Nat.beq x.born)).Perm (M.filter (λx=>seen.any (Nat.beq x.born))++[e]):=by
 have hnd:M.Nodup:=o.bn.imp λh e=>h (by rw[e]);refine(List.perm_ext_iff_of_nodup (hnd.filter _) ?_).2 λx=>?_
 .rw[List.nodup_append];refine⟨hnd.filter _,by simp,λx hx y hy=>?_⟩;rw[List.mem_singleton]at hy;subst hy;rintro rfl;rw[List.mem_filter,hn]at hx;exact absurd hx.2 (by simp)
 .rw[List.mem_filter,List.mem_append,List.mem_filter,List.mem_singleton,List.any_cons,Bool.or_eq_true];constructor
  .rintro⟨h1,h2|h2⟩
   .exact .inr (o.Wu h1 he (Nat.eq_of_beq_eq_true h2))
   .exact .inl ⟨h1,h2⟩
  .rintro(⟨h1,h2⟩|rfl)
   .exact⟨h1,.inr h2⟩
   .exact⟨he,.inl (Nat.beq_refl _)⟩
theorem M8(a:ah)(bm clock:Nat)(M:List HE)(iO:T Value)(o:iB M clock)(g:a.bl.get bm=some (.map (M.map mz) clock))(SP:bm<a.nx)(hlo:a.lo<=a.nx)(hM:M.length<=1000)(hA:cZ iO 2=av a.nx)(Y:Ex->T Value->ah->Prop)(hk:∀(tm:T Value)(h1:ah)(v:Value)(L:List HE),L.Perm M->zG a h1 v (L.map dR)->Le a h1->a.nx+3<=h1.nx->h1.bl.get a.nx=some (ai [v] 156 false)->h1.bl.get (a.nx+1)=some (lq .ready iO)->Y (.exit 0) tm h1):∀(k:Nat)(seen:List Nat)(tm:T Value)(h1:ah)(v:Value)(L:List HE),De M seen<=k->aax a bm clock M iO seen tm h1 v L->RN (k+12) (.loop QT) tm h1 Y:=by
 have step:∀(k:Nat)(seen:List Nat)(tm:T Value)(h1:ah)(v:Value)(L:List HE),aax a bm clock M iO seen tm h1 v L->
   (∀e∈M,seen.any (Nat.beq e.born)=false->∀(tm:T Value)(h1:ah)(v:Value)(L:List HE),aax a bm clock M iO (e.born::seen) tm h1 v L->RN (k+11) (.loop QT) tm h1 Y)->RN (k+12) (.loop QT) tm h1 Y:=by
  intro k seen tm h1 v L I hnext;have n1:=I.nx;have l1:=I.le.lo;have gm:=(I.le.get bm SP).trans g;rw[show k+12=k+11+1 from by omega,aaw];simp(disch:=try exact QQ)only[Wz,Hh,aji,rkB,dY,T.cQ,bG,cE,nR,M6,Ug,A4,ajq,LR,I.t5];refine QF o I.gi gm XV _ ?_ ?_
  .intro hall;simp(disch:=try exact QQ)only[Wz,QN,bG,A5,QO,M6];have hf:M.filter (λe=>seen.any (Nat.beq e.born))=M:=List.filter_eq_self.2 hall;exact hk _ h1 v L (hf▸I.perm) I.own I.le n1 I.gs I.gl
  .intro e he Ip;obtain⟨h2,e2⟩:∃h2:ah,h2=⟨h1.nx,h1.bl.bx (a.nx+2) (.fc (some bm) clock (e.born::seen) clock),h1.lo⟩:=⟨_,rfl⟩
   have bK:Le a h2:=by rw[e2];exact I.le.set XV _
   have n2:h2.nx=h1.nx:=by rw[e2]
   have l2:h2.lo=h1.lo:=by rw[e2]
   have gi2:h2.bl.get (a.nx+2)=some (.fc (some bm) clock (e.born::seen) clock):=by rw[e2];exact T.an _ _ _
   have gs2:h2.bl.get a.nx=some (ai [v] 156 false):=by rw[e2];exact(T.au _ _ XV).trans I.gs
   have gl2:h2.bl.get (a.nx+1)=some (lq .ready iO):=by rw[e2];exact(T.au _ _ XV).trans I.gl
   have uS:zG a h2 v (L.map dR):=by rw[e2];exact eG.put I.own (by rw[I.gi];intro hc;unfold ai at hc;cases hc) _
   rw[<-e2];clear e2;have gm2:=(bK.get bm SP).trans g;simp(disch:=try exact QQ)only[Wz,QN,QS,Hh,xF,bG,cE,Uh,QO,nR,ajj,rkC,dY,T.cQ,I.t5,LO o he gi2 gm2,iF,ajk,rkD,I.t0];have n3:a.nx+3<=h2.nx:=by omega
   obtain⟨h3,e3⟩:∃h3:ah,h3=⟨h2.nx+1,h2.bl.bx h2.nx (ai [X1 e.t,X1 e.r] 28 false),h2.lo⟩:=⟨_,rfl⟩
   have QW:Le h2 h3:=by rw[e3];exact(Le.refl h2).new _
   have nx3:h3.nx=h2.nx+1:=by rw[e3]
   have l3:h3.lo=h2.lo:=by rw[e3]
   have gl3:=(QW.get _ XV).trans gl2;rw[<-e3,aay,round_eq gl3];clear e3;simp(disch:=try exact QQ)only[Wz,ajn,ajd,T.cQ,dY,bG,cE];obtain⟨h4,e4⟩:∃h4:ah,h4=⟨h3.nx+1,h3.bl.bx h3.nx (ai [X1 e.t,X1 e.r] 28 false),h3.lo⟩:=⟨_,rfl⟩
   have QX:Le h3 h4:=by rw[e4];exact(Le.refl h3).new _
   have nx4:h4.nx=h3.nx+1:=by rw[e4]
   have l4:h4.lo=h3.lo:=by rw[e4]
   have gn4:h4.bl.get h3.nx=some (ai [X1 e.t,X1 e.r] 28 false):=by rw[e4];exact T.an _ _ _
   have gl4:=(QX.get _ XV).trans gl3;have gs4:=((QW.trans QX).get _ XV).trans gs2;have gi4:=((QW.trans QX).get _ XV).trans gi2;have SM:zG a h4 v (L.map dR):=uS.le (QW.trans QX);rw[<-e4,QU gl4 XV];clear e4;have gs5:(h4.bl.bx (a.nx+1) (lq .busy iO)).get a.nx=_:=(T.au _ _ XV).trans gs4;have gn5:(h4.bl.bx (a.nx+1) (lq .busy iO)).get h3.nx=_:=(T.au _ _ XV).trans gn4;simp(disch:=try exact QQ)only[Wz,xF,ajo,aje,T.cQ,dY,bG,cE,hA,gs5,gn5];obtain⟨h5,e5⟩:∃h5:ah,h5=⟨h4.nx+1,(h4.bl.bx (a.nx+1) (lq .busy iO)).bx h4.nx (ai [X1 e.t,X1 e.r] 28 false),h4.lo⟩:=⟨_,rfl⟩
   have ajr:Le a h5:=by rw[e5];exact(((bK.trans QW).trans QX).set (b:=a.nx+1) XV _).new _
   have nx5:h5.nx=h4.nx+1:=by rw[e5]
   have l5:h5.lo=h4.lo:=by rw[e5]
   have gs5:h5.bl.get a.nx=some (ai [v] 156 false):=by rw[e5];exact(T.au _ _ XV).trans gs5
   have gl5:h5.bl.get (a.nx+1)=some (lq .busy iO):=by rw[e5];exact(T.au _ _ XV).trans (T.an _ _ _)
   have gi5:h5.bl.get (a.nx+2)=some (.fc (some bm) clock (e.born::seen) clock):=by rw[e5];exact(T.au _ _ XV).trans ((T.au _ _ XV).trans gi4)
   have gx5:h5.bl.get h4.nx=some (ai ([dR e].flatMap bV) 28 false):=by rw[e5];exact T.an _ _ _
   have A0:zG a h5 v (L.map dR):=by
    rw[e5];exact eG.le (eG.put SM (by rw[gl4];intro hc;unfold ai at hc;cases hc) _) ((Le.refl _).new _)
   have hLl:L.length<=1000:=by
    rw[I.perm.length_eq];exact Nat.le_trans (List.length_filter_le _ _) hM
   rw[<-e5];clear e5;refine eN (enc:=bV) (a:=a) (L:=L.map dR) (M:=[dR e]) dA ru X0 X0 A0 (Sl.new XV gx5 _) ajr (by simp;omega) XV _ ?_;intro v' h6 Qz mR _ n6 l6 QY;have gs6:=(QY a.nx XV (by rw[gs5];exact br)).trans gs5;have gl6:=(QY (a.nx+1) XV (by rw[gl5];intro hc;unfold ai at hc;cases hc)).trans gl5;have gi6:=(QY (a.nx+2) XV (by rw[gi5];intro hc;unfold ai at hc;cases hc)).trans gi5;obtain⟨x',c',rfl,_⟩:=(show Sl bV h6 v' _ from Qz.sl)
   simp(disch:=try exact QQ)only[Wz,gs6];obtain⟨h7,e7⟩:∃h7:ah,h7=⟨h6.nx,h6.bl.bx a.nx (ai [.slice x' (L.map dR++[dR e]).length c'] 156 false),h6.lo⟩:=⟨_,rfl⟩
   have gl7:h7.bl.get (a.nx+1)=some (lq .busy iO):=by rw[e7];exact(T.au _ _ XV).trans gl6
   have nx7:h7.nx=h6.nx:=by rw[e7]
   have l7:h7.lo=h6.lo:=by rw[e7]
   have gs7:h7.bl.get a.nx=some (ai [.slice x' (L.map dR++[dR e]).length c'] 156 false):=by rw[e7];exact T.an _ _ _
   have gi7:h7.bl.get (a.nx+2)=some (.fc (some bm) clock (e.born::seen) clock):=by rw[e7];exact(T.au _ _ XV).trans gi6
   have SQ:Le a h7:=by rw[e7];exact mR.set XV _
   have SO:zG a h7 (.slice x' (L.map dR++[dR e]).length c') (L.map dR++[dR e]):=by rw[e7];exact eG.put Qz (by rw[gs6];exact br) _
   rw[<-e7,A4,aaz gl7 XV];clear e7;simp(disch:=try exact QQ)only[Wz,A5,QS,A4,nR];have fr:∀c,c≠a.nx+1->(h7.bl.bx (a.nx+1) (lq .ready iO)).get c=h7.bl.get c:=λc hc=>T.au _ _ (λe=>hc e.symm);refine hnext e he Ip _ _ (.slice x' (L.map dR++[dR e]).length c') (L++[e]) ⟨SQ.set XV _,by show a.nx+3<=h7.nx;omega,(fr _ XV).trans gs7,T.an _ _ _,(fr _ XV).trans gi7,?_,(I.perm.append_right _).trans (M7 o he Ip).symm,?_,?_⟩
   .rw[List.map_append];exact eG.put SO (by rw[gl7];intro hc;unfold ai at hc;cases hc) _
   .simp (disch:=decide) only [cE];exact I.t0
   .simp (disch:=decide) only [cE];exact I.t5
 intro k
 induction k with
 |zero=>
  intro seen tm h1 v L hu I;refine step 0 seen tm h1 v L I λe he Ip=>?_;have:=vI he Ip;omega
 |succ k ih=>
  intro seen tm h1 v L hu I;refine step (k+1) seen tm h1 v L I λe he Ip cN h1' v' L' I'=>ih (e.born::seen) cN h1' v' L' ?_ I';have:=vI he Ip;omega
theorem aeD(rec:Rec Prop)(ps:List Nat)(x y:Code)(tm:T Value)(h:ah)(Y:Ex->T Value->ah->Prop)(c:Value):fe False pN prog rec ps x y tm h Y (.func (.func fK) #[] #[c])=jG False pN prog rec fK [.func (.yield h.nx) #[] #[],c] ⟨h.nx+1,h.bl.bx h.nx (.loop .ready none tm ps x y),h.lo⟩ (fH False h.nx tm Y):=dJ (fl:=False) (.loop .ready none tm ps x y) h (λl h=>jG False pN prog rec fK [.func (.yield l) #[] #[],c] h (fH False l tm Y))
theorem MY(tm:T Value)(h:ah)(Y:KQ):wN False [] Y .normal tm h=Y (.tuple ⟨[]⟩) h:=id rfl
theorem aeE(tm:T Value)(h:ah)(Y:KQ):wN False [.tmp 4] Y .ret tm h=Y (cZ tm 4) h:=fZ tm (.tmp 4) λv=>Y v h
theorem QZ{l:Nat}{tm iO:T Value}{v:Value}{h:ah}{Y:Ex->T Value->ah->Prop}(hl:h.bl.get l=some (lq .ready iO))(hlo:h.lo<=l):∃o,fH False l tm Y v h=Y .normal tm ⟨h.nx,h.bl.bx l o,h.lo⟩:=by
 refine⟨.loop .exhausted none iO [7] aP (.block 1 aQ),?_⟩;unfold fH;simp only[hl,bI _ _ _ _ hlo]
theorem Q0(s g:Value):lay [s,g] .nil 0=((T.nil:T Value).bx 0 s).bx 1 g:=by kernel_rfl
theorem Hi(M:List HE)(clock bm mc:Nat)(a:ah)(o:iB M clock)(g:a.bl.get bm=some (.map (M.map mz) clock))(SP:bm<a.nx)(gc:a.bl.get mc=some (ai [.map (some bm)] 265 false))(hmc:mc<a.nx)(hlo:a.lo<=a.nx)(hM:M.length<=1000)(Y:KQ)(hk:∀v h' (L:List HE),L.Perm M->zG a h' v (L.map dR)->Le a h'->Y v h'):aj prog fA [.slice none 0 0,.func (.func fK) #[] #[X3 mc]] a Y:=by
 refine vJ mixed (skip:=WB) (M.length+60) ?_;rw[aex,aew,Q0];simp(disch:=try exact QQ)only[Wz,Hh,ajl,ajb,T.cQ,dY,bG,cE,nR,ajm,ajc,xF,ajg,aeD];generalize htm:(((((T.nil:T Value).bx 0 (Value.slice none 0 0)).bx 1 (Value.func (Fn.func fK) #[] #[X3 mc])).bx 2 (X3 a.nx)).bx 4 (Value.slice none 0 0)).bx 6 (Value.func (Fn.func fK) #[] #[X3 mc])=iO;have hA:cZ iO 2=av a.nx:=by rw[<-htm];simp (disch:=decide) only [cE,bG];rfl
 obtain⟨hA2,WD,JA,gs,gl,alX,alY⟩:=DK a (ai [.slice none 0 0] 156 false) (lq .ready iO);rw[<-WD];clear WD;have DL:=(JA.get _ hmc).trans gc;have gm2:=(JA.get _ SP).trans g;rw[aey,aev,Q0];simp(disch:=try exact QQ)only[Wz,Hh,ajh,rkA,T.cQ,dY,bG,cE,nR,DL,G8 gm2,xF];refine M8 a bm clock M iO o g SP hlo hM hA _ ?_ (M.length+41) [] _ _ (.slice none 0 0) [] ?_ ?_
 .intro tm h1 v L hp ho bF n1 g1 gl1;have l1:=bF.lo;obtain⟨ob,ea⟩:=QZ (tm:=iO) (v:=.tuple ⟨[]⟩) (Y:=kQ 0 (sq (RN (M.length+58)) (aC.seq Code.ret) (wN False [AB.tmp 4] Y))) gl1 XV;rw[LR,MY,ea];have gs1:(h1.bl.bx (a.nx+1) ob).get a.nx=some (ai [v] 156 false):=(T.au _ _ XV).trans g1;simp(disch:=try exact QQ)only[Wz,A4,nR,Hh,ajp,ajf,T.cQ,dY,bG,cE,hA,gs1,aez,Ug,aeE];exact hk v _ L hp (eG.put ho (by rw[gl1];intro hc;unfold ai at hc;cases hc) _) (bF.set XV _)
 .exact Nat.le_trans (List.countP_le_length) XV
 .have e2:hA2.nx=a.nx+2:=by omega
  refine⟨JA.new _,by show a.nx+3<=hA2.nx+1;omega,(T.au _ _ XV).trans gs,(T.au _ _ XV).trans gl,by rw[<-e2];exact T.an _ _ _,.inl ⟨rfl,.inl rfl⟩,?_,?_,?_⟩
  .rw[List.filter_eq_nil_iff.2 (λx _=>by simp)]
  .simp (disch:=decide) only [cE,bG]
  .rw[bG,e2];rfl
end Go.Proofs

namespace Go.Vai
open Go
section
variable {α:Type}{s:Nat}{enc:α->List Value}
variable (lt:α->α->Prop)
variable {lt}
end
end Go.Vai

namespace Go.Proofs
open Go.Vai Go.Clashes
open Tryz (prog)
def eX(a b:Int):Int:=if a<b then -1 else if b<a then 1 else 0
def ry(t r t' r':Int):Int:=if eX t t'=0 then eX r r' else eX t t'
theorem LS(a:Int){h:ah}{Y:KQ}(hk:Y (.bool false) h):aj prog 174 [X1 a] h Y:=by
 refine iX (v:=.bool false) rfl rfl (ay mixed ?_) hk;rw[YC];simp(disch:=try exact QQ)only[Wz]
theorem gM(a b:Int){h:ah}{Y:KQ}(hk:Y (X1 (eX a b)) h):aj prog 119 [X1 a,X1 b] h Y:=by
 refine iX (v:=X1 (eX a b)) rfl rfl (ay mixed ?_) hk;rw[Yh];refine LS _ (LS _ ?_);rcases Int.lt_trichotomy a b with h1|h1|h1
 .simp(disch:=try exact QQ)only[Wz,uj];simp[eX,h1]
 .simp(disch:=try exact QQ)only[Wz,uj];simp[eX,h1]
 .simp(disch:=try exact QQ)only[Wz,uj];simp[eX,h1];omega
theorem Ui(a b:Int)(h:ah)(v:Value)(hv:Sl (λn=>[X1 n]) h v [a,b])(Y:KQ)(hk:Y (X1 (if a=0 then b else a)) h):aj prog 118 [v] h Y:=by
 apply X2;rw[PZ];simp only[hv.len];have he:∀n:Int,((λn=>[X1 n]) n).length=1:=λ_=>rfl;have f0:=hv.ld he 0 (p:=a) rfl;have f1:=hv.ld he 1 (p:=b) rfl;obtain⟨b0,o0,hb0,Df,_,hh0⟩:=f0;obtain⟨b1,o1,Ec,zH,_,S6⟩:=f1;have hx0:=λ(β:Type)(fl:β) Y=>cO (fl:=fl) hh0 0 Y (Nat.lt_succ_self _);have hx1:=λ(β:Type)(fl:β) Y=>cO (fl:=fl) S6 0 Y (Nat.lt_succ_self _);simp only[Nat.add_zero]at hx0 hx1;refine⟨λn l h1=>h1=h/\∃k:Nat,aa l 10=X1 (k:Int)/\k<=2/\n=2-k/\(0<k->a=0)/\(1<k->b=0),⟨2,rfl,0,rfl,XV,XV,XV,XV⟩,?_⟩;rintro n l h1 ⟨rfl,k,hs,hk2,rfl,ha,hb⟩;have:k=0\/k=1\/k=2:=by omega
 rcases this with rfl|rfl|rfl
 .by_cases h1:a=0
  .simp(disch:=try exact QQ)only[Wz,hv.len,hs,mu,Df,hx0,h1,List.length_cons,List.length_nil];exact⟨1,XV,trivial,1,rfl,XV,XV,λ_=>trivial,λh=>by omega⟩
  .simp(disch:=try exact QQ)only[Wz,hv.len,hs,mu,Df,hx0,a_ h1,List.length_cons,List.length_nil];simpa[h1]using hk
 .have ha:=ha XV;by_cases h1:b=0
  .simp(disch:=try exact QQ)only[Wz,hv.len,hs,mu,zH,hx1,h1,List.length_cons,List.length_nil];exact⟨0,XV,trivial,2,rfl,XV,XV,λ_=>ha,λh=>trivial⟩
  .simp(disch:=try exact QQ)only[Wz,hv.len,hs,mu,zH,hx1,a_ h1,List.length_cons,List.length_nil];simpa[ha]using hk
 .simp(disch:=try exact QQ)only[Wz,hv.len,hs,List.length_cons,List.length_nil];have ha:=ha XV;have hb:=hb XV;simpa[ha,hb]using hk
theorem rz(t r t' r':Int){h:ah}{Y:KQ}(hk:Y (X1 (ry t r t' r')) h):aj prog 96 [iF t r,iF t' r'] h Y:=by
 refine iX (v:=X1 (ry t r t' r')) rfl rfl (ay mixed ?_) hk;rw[adz];simp(disch:=try exact QQ)only[Wz,iF];refine gM _ _ ?_;simp(disch:=try exact QQ)only[Wz];refine gM _ _ ?_;simp(disch:=try exact QQ)only[Wz];refine Ui _ _ _ _ (Sl.new (L:=[eX t t',eX r r']) (e:=3) (op:=false) (Nat.lt_succ_self _) (T.an _ _ _) _) _ ?_;rfl
def rA(p q:Int × Int):Prop:=p.1<q.1\/(p.1=q.1/\p.2<q.2)
theorem M9{a b c:Int × Int}(h1:rA a b)(h2:rA b c):rA a c:=by unfold rA at *;omega
theorem Hj(p q:Int × Int):ry p.1 p.2 q.1 q.2<0<->rA p q:=by
 unfold ry eX rA;split<;>split<;>(try split)<;>(try split)<;>omega
theorem LU{p q:Int × Int}(h:p≠q)(hn:¬rA p q):rA q p:=by
 unfold rA at *
 have:¬(p.1=q.1/\p.2=q.2):=λ⟨a,b⟩=>h (Prod.ext a b);omega
end Go.Proofs
end
