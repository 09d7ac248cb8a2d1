/-
  PROVED HERE: a part of the proof (BR2, BR3, BR4, BH1, RE, BH2, BH3, BH4, A24).
-/
import Derived.Test.YtmllggkhfmjpgaaGreatDoorG8
import Derived.Test.YtmllggkhfmjpgaaGreatDoorRZ
import Derived.Test.YtmllggkhfmjpgaaGreatDoorG6
import Derived.Test.YtmllggkhfmjpgaaGreatDoorG2
import Derived.Test.YtmllggkhfmjpgaaGreatDoorRows
set_option linter.unusedVariables false
set_option linter.unusedSimpArgs false
set_option maxRecDepth 100000
set_option maxHeartbeats 4000000
namespace Go.Proofs
open Go.Vai Go.Clashes
open Tryz (prog)
theorem JA.i0{q:QA}{i:Nat}{has aL:List L4}{p:N3}{P:List N3}(s:JA q i has aL (p::P)):i+3+3*aL.length<=q.B:=by
 have:=s.le;simp only[List.length_cons]at this;omega
theorem Vf{E:EN}{Z:af->Prop}(hZ:∀{h h':af},Z h->FK E.a h h'->Z h'){q:QA}(hx:1<=q.x)(hB:q.B<=60)(Hv:q.N0<=400)(i n:Nat)(h:af)(V:KQ)(s:JE E Z q i (n+1) h)(hn:n≠0)(hk:∀h',JE E Z q (i+1) n h'->V (.tuple ⟨[.bool false,YYY 0,YYY 0]⟩) h'):aj prog 74 [pt E.z.ab] h V:=by
 obtain⟨⟨b,i0,has,aL,p,P,N,kb,G,out,c,e1,J,s,c1,c2,c3,c4,c5,c6,c7,c8,hN,z,hb,hA,_⟩,n3⟩:=s;have A:=hA XQ;have uz:=s.th;have yp:=J.i0;have hxy:q.x≠yE E:=by show q.x≠-1-E.z.th;omega
 have ok:=J.nd p (.head _);have Jy:c.ask.k≠0:=by
  rw[c2];cases b with
  |false=>show(1:Int)≠0;decide
  |true=>show(3:Int)≠0;decide
 refine zZ s XQ Jy (JE E Z q (i+1) n) ?_ V hk;intro κ1 dB;have n2:n=2\/n=1:=by omega
 rcases n2 with rfl|rfl
 .refine vm s.w κ1 λh' w' k'=>dB h' ⟨⟨b,i0,has,aL,p,P,N,kb,G,out,c,XQ,J,s.wk w' k',c1,c2,c3,c4,c5,c6,c7,c8,hN,hZ z k'.fk,hb,λ_=>A,λe=>by omega⟩,.inr (.inl rfl)⟩
 .have D:=s.w.BS p.1 p.2.1;have fN:=A.get D;cases b with
  |false=>
   refine uh s.w XQ (y:=yE E) (by show -1-E.z.th<0;omega) (λ_=>by show 0<=q.x;omega) (λ_ p' hp'=>A.only _ _ p' hp') (λe=>absurd e (by show ¬(1:Int)=3;decide)) κ1 ?_;intro h' G' o w' r' ho k';have r':(o=1/\G'=dH G p.1 p.2.1 (qo (G p.1 p.2.1) q.x (yE E) (bA (aO has p.1 p.2.1) p.2.2)))\/(o=5/\cZ (G p.1 p.2.1) q.x=0/\G'=dH G p.1 p.2.1 (jw (G p.1 p.2.1) (yE E) (bA 0 (bA (aO has p.1 p.2.1) p.2.2)))):=by
    unfold l_ at r';rw[if_pos (show(Nv false E ⟨q.x,q.asked,has,z8 false aL p⟩ c p).k=1 from rfl)]at r';exact r'
   refine dB h' ⟨⟨false,i0,has,aL,p,P,N,kb,G',o,c,XQ,J,s.wk w' k',c1,c2,c3,c4,c5,c6,c7,c8,hN,hZ z k'.fk,hb,λe=>absurd rfl e,λ_=>?_⟩,.inr (.inr rfl)⟩;rw[if_neg J0];obtain⟨m0,m1,m2,_⟩:=jm (J.ok.Hs p.1 p.2.1) ok.2.1 ok.2.2;rcases r' with⟨rfl,rfl⟩|⟨rfl,_,rfl⟩
   .exact .inl ⟨rfl,A.lock hxy D q.x m0 (by rw[fN,m2])⟩
   .exact .inr ⟨rfl,A.full hxy,ho rfl⟩
  |true=>
   obtain⟨hp1,hH,hP⟩:=hb rfl;refine uh s.w XQ (y:=yE E) (by show -1-E.z.th<0;omega) (λe=>absurd e (by show ¬(3:Int)=1;decide)) (λe=>absurd e (by show ¬(3:Int)=1;decide)) (λ_ _ p' hp' _ e=>?_) κ1 ?_
   .have e:p'.1=q.x:=e;have hm:(q.x,p'.2)∈G p.1 p.2.1:=by rw[<-e];exact hp'
    have:=A.hx _ _ _ hm;rw[hH]at this;exact(D.1 _ hm).1 this.symm
   intro h' G' o w' r' ho k';have r':(cZ (G p.1 p.2.1) (yE E)=0/\o=6/\G'=G)\/(cZ (G p.1 p.2.1) (yE E)≠0/\o=1/\G'=dH G p.1 p.2.1 (ue (G p.1 p.2.1) (yE E) q.x)):=by
    unfold l_ at r';rw[if_neg (show ¬(Nv true E ⟨q.x,q.asked,has,z8 true aL p⟩ c p).k=1 by show ¬(3:Int)=1;decide)]at r';have r':if cZ (G p.1 p.2.1) (yE E)=0 then o=6/\G'=G else o=1/\G'=dH G p.1 p.2.1 (ue (G p.1 p.2.1) (yE E) q.x):=r'
    split at r'
    .exact .inl ⟨by assumption,r'⟩
    .exact .inr ⟨by assumption,r'⟩
   refine dB h' ⟨⟨true,i0,has,aL,p,P,N,kb,G',o,c,XQ,J,s.wk w' k',c1,c2,c3,c4,c5,c6,c7,c8,hN,hZ z k'.fk,hb,λe=>absurd rfl e,λ_=>?_⟩,.inr (.inr rfl)⟩;rw[if_pos rfl];rcases r' with⟨h0,rfl,rfl⟩|⟨h0,rfl,rfl⟩
   .exact .inr ⟨rfl,A.gone D h0⟩
   .exact .inl ⟨rfl,A.inh hxy D q.x hH h0⟩
theorem abA{E:EN}{Z:af->Prop}(hZ:∀{h h':af},Z h->FK E.a h h'->Z h'){q:QA}(hx:1<=q.x)(hB:q.B<=60)(hM:q.M.length<=19)(la:q.asked.length<=1000)(hm:kn q.m=true)(Hv:q.N0<=400)(i:Nat)(h:af)(V:KQ)(s:JE E Z q i 1 h)(dB:∀h',JE E Z q (i+1) 3 h'->V (.tuple ⟨[.bool false,YYY 0,YYY 0]⟩) h')(hk2:∀code h',Vd E Z q i code h'->V (.tuple ⟨[.bool true,YYY code,YYY 0]⟩) h'):aj prog 74 [pt E.z.ab] h V:=by
 obtain⟨⟨b,i0,has,aL,p,P,N,kb,G,out,c,e1,J,s,c1,c2,c3,c4,c5,c6,c7,c8,hN,z,hb,_,hA⟩,n3⟩:=s;have hA:=hA rfl;have uz:=s.th;have yp:=J.i0;have ok:=J.nd p (.head _);have lh:=J.ok.len;have lp:=J.op.len;have lP:(p::P).length<=100:=by have:=J.le;omega
 obtain rfl:i=i0+2:=by omega
 have go:∀(iI gZ:List L4)(h1 h2:af)(c':CD),AW h2 E G N 0 (Nv b E ⟨q.x,q.asked,has,z8 b aL p⟩ c p) out ⟨q.x,q.asked,iI,gZ⟩ kb c'->FK E.a h1 h2->Z h2->mg q.x (yE E) iI gZ G->c'.dP=p::P->c'.RJ=126->c'.code=0->c'.t=q.t->c'.r=q.r->c'.m=q.m->c'.w=0->JA q (i0+3) iI gZ (d_ iI (p::P))->
   aj prog 131 [pt E.z.ab] h2 λ_ h3=>∃G' N' n' y' out' D' c'',AW h3 E G' N' n' y' out' D' kb c''/\FK E.a h1 h3/\
   (c''.code=0->V (.tuple ⟨[.bool false,YYY 0,YYY 0]⟩) h3)/\(c''.code≠0->n'=0/\∀h4,AI h4 E G' N' D'->FK E.a h3 h4->V (.tuple ⟨[.bool true,YYY c''.code,YYY 0]⟩) h4):=by
  intro iI gZ h1 h2 c' s2 f2 z2 A2 d1 d3 d4 d5 d6 d7 d8 J2;refine LB (i:=i0+3) hZ hx hB hM la hm Hv s2 z2 A2 d1 d3 d4 d5 d6 d7 d8 lP J.nd J2 XQ (i0+2) XQ ?_ _ ?_ ?_
  .intro hL;have h1:=J2.ge;have h2:=J2.le;rw[hL]at h1 h2;simp only[List.length_nil]at h1 h2;exact⟨XQ,.inl XQ⟩
  .intro h3 G' N' y' o' D' c'' s3 hc f3 S3;exact⟨G',N',3,y',o',D',c'',s3,f2.trans f3,λ_=>dB h3 S3,λe=>absurd hc e⟩
  .intro h3 G' N' y' o' D' c'' s3 hc _ f3 hP;refine⟨G',N',0,y',o',D',c'',s3,f2.trans f3,λe=>?_,λ_=>⟨rfl,λh4 a4 f4=>?_⟩⟩
   .rw[hc]at e;exact absurd e J0
   .rw[hc];exact hk2 1 h4 (hP h4 a4 f4)
 have Jy:c.ask.k≠0:=by
  rw[c2];cases b with
  |false=>show(1:Int)≠0;decide
  |true=>show(3:Int)≠0;decide
 refine z1 s Jy V ?_;intro h1 s1 f1;rw[c3];cases b with
 |false=>
  rw[if_neg J0]at hA;have ald:c.ask.k=1:=by rw[c2];rfl
  have ham:c.ask.m=bA (aO has p.1 p.2.1) p.2.2:=by rw[c2];rfl
  refine Nr s1 (p:=p) (P:=P) c1 ald (by show has.length<=1000;omega) out _ ?_ ?_
  ·intro ho h2 s2 f2;obtain⟨e5,A,h8⟩:out=5/\mg q.x (yE E) has aL G/\8<=2*N:=by
    rcases hA with⟨e,_⟩|e
    .exact absurd e ho
    .exact e
   refine⟨G,N,0,_,_,_,_,s2,f2,λe=>?_,λ_=>⟨rfl,λh3 a3 f3=>?_⟩⟩
   .exact absurd (show out=0 from e) XQ
   .exact hk2 out h3 ⟨has,aL,q.asked,N,G,a3,A,hZ (hZ (hZ z f1) f2) f3,XQ,J.ok,J.op,J.pl,.inl XQ,.inr ⟨e5,rfl,h8⟩⟩
  ·intro ho h2 s2 f2;have A:mg q.x (yE E) (cV has (Ht q.x has p)) aL G:=by
    rcases hA with⟨_,e⟩|⟨e,_⟩
    .exact e
    .omega
   rw[ham]at s2;have okg:=aby (x:=q.x) J.ok ok (J.sub p (.head _));have cp:=Ve (x:=q.x) J.ok ok;refine go (cV has (Ht q.x has p)) aL h1 h2 _ s2 f2 (hZ (hZ z f1) f2) A c1 c3 c4 c5 c6 c7 c8 ?_;rcases Hu (g:=Ht q.x has p) ⟨rfl,rfl⟩ J.nn J.nc with⟨_,e⟩|e
   .rw[e];exact J.grow ⟨rfl,rfl⟩ okg cp J.op (Nat.le_refl _)
   .have:=congrArg (λL=>p∈L) e;have hin:p∈d_ (cV has (Ht q.x has p)) (p::P):=by rw[e];exact .head _
    have:=(List.mem_filter.1 hin).2;rw[cp]at this;cases this
 |true=>
  rw[if_pos rfl]at hA;obtain⟨hp1,hH,hP⟩:=hb rfl;have ale:c.ask.k=3:=by rw[c2];rfl
  refine Jv s1 (p:=p) (P:=P) c1 ale (by show has.length<=1000;omega) out _ ?_ ?_
  ·intro ho h2 s2 f2;have A:mg q.x (yE E) has (cE aL p.1 p.2.1) G:=by
    rcases hA with⟨e,_⟩|⟨_,e⟩
    .exact absurd e ho
    .exact e
   refine go has (cE aL p.1 p.2.1) h1 h2 _ s2 f2 (hZ (hZ z f1) f2) A c1 c3 c4 c5 c6 c7 c8 ?_;rw[J.nc];exact J.same (.inl rfl) J.ok J.nc hP
  ·intro ho h2 s2 f2;have A:mg q.x (yE E) (cV has ⟨q.x,p.1,p.2.1,aO aL p.1 p.2.1⟩) (cE aL p.1 p.2.1) G:=by
    rcases hA with⟨_,e⟩|⟨e,_⟩
    .exact e
    .omega
   have s2:AW h2 E G N 0 (Nv true E ⟨q.x,q.asked,has,z8 true aL p⟩ c p) out ⟨q.x,q.asked,cV has ⟨q.x,p.1,p.2.1,c.fQ⟩,cE aL p.1 p.2.1⟩ kb { c with seen:=true }:=s2;rw[hp1]at s2;have okg:iZ q.M (cV has ⟨q.x,p.1,p.2.1,aO aL p.1 p.2.1⟩):=J.ok.put ⟨ok.1,J.op.Hs _ _,hP⟩ (J.sub p (.head _));refine go (cV has ⟨q.x,p.1,p.2.1,aO aL p.1 p.2.1⟩) (cE aL p.1 p.2.1) h1 h2 _ s2 f2 (hZ (hZ z f1) f2) A c1 c3 c4 c5 c6 c7 c8 ?_;have hle:(cE aL p.1 p.2.1).length<=aL.length:=by have:=J.op.uo hP;omega
   rcases Hu (g:=⟨q.x,p.1,p.2.1,aO aL p.1 p.2.1⟩) ⟨rfl,rfl⟩ J.nn J.nc with⟨cp,e⟩|e
   .rw[e];exact J.grow ⟨rfl,rfl⟩ okg cp (J.op.drop _ _) hle
   .rw[e];exact J.same (.inr ⟨_,⟨rfl,rfl⟩,rfl⟩) okg e hP
theorem Vg{E:EN}{Z:af->Prop}(hZ:∀{h h':af},Z h->FK E.a h h'->Z h'){q:QA}(hx:1<=q.x)(hB:q.B<=60)(hM:q.M.length<=19)(la:q.asked.length<=1000)(hm:kn q.m=true)(Hv:q.N0<=400):abx E (JE E Z q) (Vd E Z q):=by
 refine⟨λi n h s=>?_,Vf hZ hx hB Hv,abA hZ hx hB hM la hm Hv⟩;obtain⟨⟨b,i0,has,aL,p,P,N,kb,G,out,c,e1,J,_⟩,n3⟩:=s;have:=J.i0;exact⟨n3,XQ⟩
def ur(E:EN)(aL:List L4)(g:L4):List L4:=if vl g.t g.r g.m=true/\0<E.z.most-aL.length then cV aL ⟨-1-E.z.th,g.t,g.r,g.m⟩else aL
structure LC(E:EN)(x:Int)(M:List (Int × Int))(has aL:List L4)(G:GT):Prop where
 h:iZ M has
 p:iZ M aL
 BS:∀t r,aO has t r≠0->aO aL t r=0
 le:(aL.length:Int)<=E.z.most
 A:mg x (yE E) has aL G
 py:∀t r,aO aL t r≠0->(yE E,aO aL t r)∈G t r
section
variable {E:EN}{x:Int}{M:List (Int × Int)}{has aL:List L4}{G:GT}
theorem Hw{t r t' r':Int}(h:aO (cE has t r) t' r'≠0):¬(t=t'/\r=r')/\aO has t' r'≠0:=by
 rw[gY]at h;by_cases e:t=t'/\r=r'
 .rw[if_pos e]at h;exact absurd rfl h
 .rw[if_neg e]at h;exact⟨e,h⟩
theorem LC.nz(s:LC E x M has aL G){g:L4}(hg:g∈has):aO has g.t g.r≠0:=by rw[s.h.mode hg];exact(s.h.ok g hg).2.2
theorem LC.drop(s:LC E x M has aL G)(hxy:x≠yE E){g:L4}(hg:g∈has)(hn:¬(vl g.t g.r g.m=true/\0<E.z.most-aL.length)):LC E x M (cE has g.t g.r) (ur E aL g) (dH G g.t g.r (qm (G g.t g.r) x)):=by
 have e0:ur E aL g=aL:=if_neg hn;rw[e0];refine⟨s.h.drop _ _,s.p,λt r h=>s.BS t r (Hw h).2,s.le,s.A.drop hxy,λt r h=>?_⟩;refine iH ?_;by_cases e:g.t=t/\g.r=r
 .obtain⟨rfl,rfl⟩:=e;refine .inl ⟨rfl,rfl,List.mem_filter.2 ⟨s.py _ _ h,?_⟩⟩;rw[decide_eq_true_eq];exact λe=>hxy e.symm
 .exact .inr ⟨e,s.py _ _ h⟩
theorem LC.hand(s:LC E x M has aL G)(hxy:x≠yE E){g:L4}(hg:g∈has)(D:sy (G g.t g.r))(hn:vl g.t g.r g.m=true/\0<E.z.most-aL.length):LC E x M (cE has g.t g.r) (ur E aL g) (dH G g.t g.r (ue (G g.t g.r) x (yE E))):=by
 have e0:ur E aL g=cV aL ⟨-1-E.z.th,g.t,g.r,g.m⟩:=if_pos hn;rw[e0];have WX:=s.nz hg;have hm:=s.h.mode hg;obtain⟨A',hin⟩:=s.A.hand hxy D WX (s.BS _ _ WX) (-1-E.z.th);rw[hm]at A' hin;refine⟨s.h.drop _ _,s.p.put (s.h.ok g hg) (s.h.sub g hg),λt r h=>?_,?_,A',λt r h=>?_⟩
 .obtain⟨h1,h2⟩:=Hw h;rw[ig,if_neg h1];exact s.BS t r h2
 .have:=R9 aL ⟨-1-E.z.th,g.t,g.r,g.m⟩;omega
 .rw[ig]at h ⊢;refine iH ?_;by_cases e:g.t=t/\g.r=r
  .rw[if_pos e];exact .inl ⟨e.1,e.2,hin⟩
  .rw[if_neg e]at h ⊢;exact .inr ⟨e,s.py _ _ h⟩
theorem Nw{g:L4}{Q:List L4}(s:iZ M has)(hp:(g::Q).Perm has):Q.Perm (cE has g.t g.r):=by
 have h1:cE (g::Q) g.t g.r=Q:=by
  have nd:((g::Q).map kG).Nodup:=((hp.map kG).nodup_iff).2 s.nd;rw[List.map_cons,List.nodup_cons]at nd;unfold cE;rw[List.filter_cons,fR.2 ⟨rfl,rfl⟩,if_neg J0,List.filter_eq_self.2];intro y hy;rw[Bool.not_eq_true',me];rintro⟨e1,e2⟩;exact nd.1 (List.mem_map.2 ⟨y,hy,by unfold kG;rw[e1,e2]⟩)
 have h2:(cE (g::Q) g.t g.r).Perm (cE has g.t g.r):=hp.filter _
 rwa [h1]at h2
end
theorem Hy{E:EN}{D:AD}{g:L4}:(wo E D g).k≠0/\(wo E D g).k≠1:=by
 unfold wo;split
 .exact⟨show(3:Int)≠0 by decide,show(3:Int)≠1 by decide⟩
 .exact⟨show(2:Int)≠0 by decide,show(2:Int)≠1 by decide⟩
structure QG where
 x:Int
 M:List (Int × Int)
 asked:List L4
 N0:Nat
 L0:Nat
structure Vh(E:EN)(Z:af->Prop)(q:QG)(i n:Nat)(h:af):Prop where
 ex:∃(i0:Nat)(g:L4)(Q has aL:List L4)(N kb:Nat)(G:GT)(out:Int)(c:CD),i+n=i0+3/\1<=i0/\i0+3*(Q.length+1)<=1+3*q.L0/\AW h E G N n (wo E ⟨q.x,q.asked,has,aL⟩ g) out ⟨q.x,q.asked,has,aL⟩ kb c/\c.goes=g::Q/\(g::Q).Perm has/\c.ask=wo E ⟨q.x,q.asked,has,aL⟩ g/\
  c.RJ=191/\c.code=0/\3*N<=3*q.N0+i0+2/\Z h/\(∃G0,LC E q.x q.M has aL G0)/\(n≠1->LC E q.x q.M has aL G)/\(n=1->out=1/\LC E q.x q.M (cE has g.t g.r) (ur E aL g) G)
 n3:n=3\/n=2\/n=1
structure SEm(E:EN)(Z:af->Prop)(q:QG)(i n:Nat)(h:af):Prop where
 ex:∃(i0:Nat)(g:L4)(has aL:List L4)(N kb:Nat)(G:GT)(out:Int)(c:CD),i+n=i0+3/\1<=i0/\i0+3*(has.length+aL.length)<=1+3*q.L0/\AW h E G N n (oN E g) out ⟨q.x,q.asked,has,cE aL g.t g.r⟩ kb c/\c.ask=oN E g/\g∈aL/\iZ q.M has/\iZ q.M aL/\
  c.RJ=135/\c.code=0/\3*N<=3*q.N0+i0+2/\Z h/\(n≠1->mg q.x (yE E) has aL G)/\(n=1->mg q.x (yE E) has (cE aL g.t g.r) G)
 n3:n=3\/n=2\/n=1
structure agd(E:EN)(M:List (Int × Int))(aL:List L4)(G:GT):Prop where
 p:iZ M aL
 le:(aL.length:Int)<=E.z.most
 all:∀t r p,p∈G t r->p=(yE E,aO aL t r)
 py:∀t r,aO aL t r≠0->(yE E,aO aL t r)∈G t r
def PGo(E:EN)(Z:af->Prop)(q:QG)(i:Nat)(code:Int)(h:af):Prop:=
 code=1/\∃aL G N,AI h E G N ⟨0,[],[],aL⟩/\agd E q.M aL G/\3*N<=3*q.N0+i+2/\Z h
section
variable {E:EN}{Z:af->Prop}(hZ:∀{h h':af},Z h->FK E.a h h'->Z h'){q:QG}(hx:1<=q.x)(hM:q.M.length<=19)(Nx:q.L0<=19)(Hv:q.N0<=400)(gQ:0<=E.z.most/\E.z.most<=8)
include hZ hx hM Nx Hv gQ
theorem LD{i:Nat}(hi1:1<=i){has aL O:List L4}{h:af}{G:GT}{N kb:Nat}{y0:iz}{o0:Int}{c:CD}(s:AW h E G N 0 y0 o0 ⟨q.x,q.asked,has,aL⟩ kb c)(z:Z h)(g:LC E q.x q.M has aL G)(hO:O.Perm has)(c1:c.goes=O)(c3:c.RJ=191)(c4:c.code=0)(hN:3*N+1<=3*q.N0+i)(hi:i+3*has.length<=1+3*q.L0)(i':Nat)(hi':i<=i'+1)(V:KQ)(hS:∀h' G' N' y' o' D' c',AW h' E G' N' 3 y' o' D' kb c'->c'.code=0->FK E.a h h'->Vh E Z q i 3 h'->V (.tuple ⟨[]⟩) h')(hE:∀h' G' N' y' o' D' c',AW h' E G' N' 0 y' o' D' kb c'->c'.code=1->c'.ask=c.ask->FK E.a h h'->(∀h4,AI h4 E G' N' D'->FK E.a h' h4->PGo E Z q i' 1 h4)->V (.tuple ⟨[]⟩) h'):aj prog 193 [pt E.z.ab] h V:=by
 have uz:=s.th;have lh:=g.h.len;have lp:=g.p.len;have hOl:=hO.length_eq;refine U8 s XQ gQ (by show aL.length<=1000;omega) (by rw[c1];omega) (λu hu=>?_) (by show q.x≠-1-E.z.th;omega) 0 _ ?_ ?_
 .rw[c1]at hu;exact(g.h.ok u (hO.mem_iff.1 hu)).1
 .intro e h2 s2 f2;rw[c1]at e;have eh:has=[]:=by rw[e]at hO;exact List.Perm.eq_nil hO.symm
  subst eh;refine hE h2 G N _ _ _ _ s2 rfl rfl f2 λh4 a4 f4=>⟨rfl,aL,G,N,a4,⟨g.p,g.le,λt r p hp=>?_,g.py⟩,XQ,hZ (hZ z f2) f4⟩
  have D:=a4.w ⟨0,0,0,0,0,0,0⟩ 0 |>.BS t r
  obtain⟨p1,p2⟩:=p;rcases g.A.only t r _ hp with e|e
  .have e:p1=q.x:=e;subst e;have h0:=g.A.hx t r p2 hp;exact absurd h0.symm (D.1 _ hp).1
  .have e:p1=yE E:=e;subst e;rw[g.A.py t r p2 hp]
 .intro u Q e h2 s2 f2;rw[c1]at e;have eQ:O.length=Q.length+1:=by rw[e];rfl
  exact hS h2 _ _ _ _ _ _ s2 c4 f2 ⟨⟨i,u,Q,has,aL,N+1,kb,G,0,_,rfl,hi1,XQ,s2,by rw[<-e];exact c1,by rw[<-e];exact hO,rfl,c3,c4,XQ,hZ z f2,⟨G,g⟩,λ_=>g,λe=>by omega⟩,.inl rfl⟩
theorem Hz{i:Nat}(hi1:1<=i){has aL:List L4}{h:af}{G:GT}{N kb:Nat}{y0:iz}{o0:Int}{c:CD}(s:AW h E G N 0 y0 o0 ⟨q.x,q.asked,has,aL⟩ kb c)(z:Z h)(A:mg q.x (yE E) has aL G)(oh:iZ q.M has)(op:iZ q.M aL)(c3:c.RJ=135)(c4:c.code=0)(hN:3*N+1<=3*q.N0+i)(hi:i+3*(has.length+aL.length)<=1+3*q.L0)(i':Nat)(hi':i<=i'+1)(V:KQ)(hS:∀h' G' N' y' o' D' c',AW h' E G' N' 3 y' o' D' kb c'->c'.code=0->FK E.a h h'->(SEm E Z q i 3 h'\/Vh E Z q i 3 h')->V (.tuple ⟨[]⟩) h')(hE:∀h' G' N' y' o' D' c',AW h' E G' N' 0 y' o' D' kb c'->c'.code=1->c'.ask=c.ask->FK E.a h h'->(∀h4,AI h4 E G' N' D'->FK E.a h' h4->PGo E Z q i' 1 h4)->V (.tuple ⟨[]⟩) h'):aj prog 136 [pt E.z.ab] h V:=by
 have lh:=oh.len;have lp:=op.len;cases hp:aL with
 |nil=>
  subst hp;refine RZ s rfl (by show has.length<20;omega) (λu hu=>(oh.ok u hu).1) V ?_;intro O h2 hO s2 f2;have g:LC E q.x q.M has [] G:=⟨oh,op,λ_ _ _=>rfl,gQ.1,A,λt r h=>absurd rfl h⟩
  refine LD hZ hx hM Nx Hv gQ hi1 s2 (hZ z f2) g hO rfl rfl c4 hN (by simp only[List.length_nil]at hi;omega) i' hi' _ ?_ ?_
  .intro h' G' N' y' o' D' c' s' e' f' S';exact hS h' G' N' y' o' D' c' s' e' (f2.trans f') (.inr S')
  .intro h' G' N' y' o' D' c' s' e' e2' f' P';exact hE h' G' N' y' o' D' c' s' e' e2' (f2.trans f') P'
 |cons u Q=>
  have hu:u∈aL:=by rw[hp];exact .head _
  have hm:=op.mode hu;refine Nt s XQ (by show aL.length<=1000;omega) hp (by show aO aL u.t u.r≠0;rw[hm];exact(op.ok u hu).2.2) (op.ok u hu).1 0 V ?_;intro h2 s2 f2;exact hS h2 _ _ _ _ _ _ s2 c4 f2 (.inl ⟨⟨i,u,has,aL,N+1,kb,G,0,_,rfl,hi1,hi,s2,rfl,hu,oh,op,c3,c4,XQ,hZ z f2,λ_=>A,λe=>by omega⟩,.inl rfl⟩)
end
section
variable {E:EN}{Z:af->Prop}(hZ:∀{h h':af},Z h->FK E.a h h'->Z h'){q:QG}(hx:1<=q.x)(hM:q.M.length<=19)(Nx:q.L0<=19)(Hv:q.N0<=400)(gQ:0<=E.z.most/\E.z.most<=8)
include hZ hx hM Nx Hv gQ
omit hM gQ in
theorem abC(i n:Nat)(h:af)(V:KQ)(s:SEm E Z q i (n+1) h)(hn:n≠0)(hk:∀h',SEm E Z q (i+1) n h'->V (.tuple ⟨[.bool false,YYY 0,YYY 0]⟩) h'):aj prog 74 [pt E.z.ab] h V:=by
 obtain⟨⟨i0,g,has,aL,N,kb,G,out,c,e1,hi1,yp,s,c2,hg,oh,op,c3,c4,hN,z,hA,_⟩,n3⟩:=s;have A:=hA XQ;have uz:=s.th;have Jy:c.ask.k≠0:=by rw[c2];show(2:Int)≠0;decide
 refine zZ s XQ Jy (SEm E Z q (i+1) n) ?_ V hk;intro κ1 dB;have n2:n=2\/n=1:=by omega
 rcases n2 with rfl|rfl
 .refine vm s.w κ1 λh' w' k'=>dB h' ⟨⟨i0,g,has,aL,N,kb,G,out,c,XQ,hi1,yp,s.wk w' k',c2,hg,oh,op,c3,c4,hN,hZ z k'.fk,λ_=>A,λe=>by omega⟩,.inr (.inl rfl)⟩
 ·have D:=s.w.BS g.t g.r;refine uh s.w XQ (y:=yE E) (by show -1-E.z.th<0;omega) (λe=>absurd e (by show ¬(2:Int)=1;decide)) (λe=>absurd e (by show ¬(2:Int)=1;decide)) (λe=>absurd e (by show ¬(2:Int)=3;decide)) κ1 ?_;intro h' G' o w' r' ho k';have r':(cZ (G g.t g.r) (yE E)=0/\G'=G)\/(cZ (G g.t g.r) (yE E)≠0/\G'=dH G g.t g.r (qm (G g.t g.r) (yE E))):=by
   unfold l_ at r';rw[if_neg (show ¬(oN E g).k=1 by show ¬(2:Int)=1;decide),if_neg (show ¬(oN E g).k=3 by show ¬(2:Int)=3;decide)]at r';have r':if cZ (G g.t g.r) (yE E)=0 then o=6/\G'=G else o=1/\G'=dH G g.t g.r (qm (G g.t g.r) (yE E)):=r'
   split at r'
   .exact .inl ⟨by assumption,r'.2⟩
   .exact .inr ⟨by assumption,r'.2⟩
  refine dB h' ⟨⟨i0,g,has,aL,N,kb,G',o,c,XQ,hi1,yp,s.wk w' k',c2,hg,oh,op,c3,c4,hN,hZ z k'.fk,λe=>absurd rfl e,λ_=>?_⟩,.inr (.inr rfl)⟩;rcases r' with⟨h0,rfl⟩|⟨h0,rfl⟩
  .exact A.gone D h0
  .exact A.del (by show q.x≠-1-E.z.th;omega)
theorem age(i:Nat)(h:af)(V:KQ)(s:SEm E Z q i 1 h)(dB:∀h',(SEm E Z q (i+1) 3 h'\/Vh E Z q (i+1) 3 h')->V (.tuple ⟨[.bool false,YYY 0,YYY 0]⟩) h')(hk2:∀code h',PGo E Z q i code h'->V (.tuple ⟨[.bool true,YYY code,YYY 0]⟩) h'):aj prog 74 [pt E.z.ab] h V:=by
 obtain⟨⟨i0,g,has,aL,N,kb,G,out,c,e1,hi1,yp,s,c2,hg,oh,op,c3,c4,hN,z,_,hA⟩,n3⟩:=s;have A:=hA rfl;have uz:=s.th;have Jy:c.ask.k≠0:=by rw[c2];show(2:Int)≠0;decide
 obtain rfl:i=i0+2:=by omega
 have hm:=op.mode hg;have hl:=op.uo (t:=g.t) (r:=g.r) (by rw[hm];exact(op.ok g hg).2.2);refine z1 s Jy V ?_;intro h1 s1 f1;rw[c3];refine U9 out _ ?_;refine Hz (i:=i0+3) hZ hx hM Nx Hv gQ XQ s1 (hZ z f1) A oh (op.drop _ _) c3 c4 XQ XQ (i0+2) XQ _ ?_ ?_
 .intro h3 G' N' y' o' D' c'' s3 hc f3 S3;exact⟨G',N',3,y',o',D',c'',s3,f3,λ_=>dB h3 S3,λe=>absurd hc e⟩
 .intro h3 G' N' y' o' D' c'' s3 hc _ f3 hP;refine⟨G',N',0,y',o',D',c'',s3,f3,λe=>?_,λ_=>⟨rfl,λh4 a4 f4=>?_⟩⟩
  .rw[hc]at e;exact absurd e J0
  .rw[hc];exact hk2 1 h4 (hP h4 a4 f4)
omit hM gQ in
theorem go_s32(i n:Nat)(h:af)(V:KQ)(s:Vh E Z q i (n+1) h)(hn:n≠0)(hk:∀h',Vh E Z q (i+1) n h'->V (.tuple ⟨[.bool false,YYY 0,YYY 0]⟩) h'):aj prog 74 [pt E.z.ab] h V:=by
 obtain⟨⟨i0,g,Q,has,aL,N,kb,G,out,c,e1,hi1,yp,s,c1,hp,c2,c3,c4,hN,z,hG0,hA,_⟩,n3⟩:=s;have A:=hA XQ;have uz:=s.th;have hg:g∈has:=hp.mem_iff.1 (.head _);have WX:=A.nz hg;have Jy:c.ask.k≠0:=by rw[c2];exact Hy.1
 have hxy:q.x≠yE E:=by show q.x≠-1-E.z.th;omega
 have hgx:(wo E ⟨q.x,q.asked,has,aL⟩ g).t=g.t/\(wo E ⟨q.x,q.asked,has,aL⟩ g).r=g.r/\(wo E ⟨q.x,q.asked,has,aL⟩ g).x=q.x:=by
  unfold wo;split<;>exact⟨rfl,rfl,rfl⟩
 have uO:(vl g.t g.r g.m=true/\0<E.z.most-aL.length/\(wo E ⟨q.x,q.asked,has,aL⟩ g).k=3/\(wo E ⟨q.x,q.asked,has,aL⟩ g).to=yE E)\/(¬(vl g.t g.r g.m=true/\0<E.z.most-aL.length)/\(wo E ⟨q.x,q.asked,has,aL⟩ g).k=2):=by
  unfold wo;split
  .rename_i hc;exact .inl ⟨hc.1,hc.2,rfl,rfl⟩
  .rename_i hc;exact .inr ⟨hc,rfl⟩
 refine zZ s XQ Jy (Vh E Z q (i+1) n) ?_ V hk;intro κ1 dB;have n2:n=2\/n=1:=by omega
 have hle:=yp;rcases n2 with rfl|rfl
 .refine vm s.w κ1 λh' w' k'=>dB h' ⟨⟨i0,g,Q,has,aL,N,kb,G,out,c,XQ,hi1,yp,s.wk w' k',c1,hp,c2,c3,c4,hN,hZ z k'.fk,hG0,λ_=>A,λe=>by omega⟩,.inr (.inl rfl)⟩
 .have D:=s.w.BS g.t g.r;have fN:=A.A.get D;refine uh s.w XQ (y:=yE E) (by show -1-E.z.th<0;omega) (λe=>absurd e Hy.2) (λe=>absurd e Hy.2) (λe _ p' hp' _ e'=>?_) κ1 ?_
  .rcases uO with⟨_,_,_,ht⟩|⟨_,e2⟩
   .rw[ht]at e';rw[hgx.1,hgx.2.1]at hp';have hm:(yE E,p'.2)∈G g.t g.r:=by rw[<-e'];exact hp'
    have:=A.A.py _ _ _ hm;rw[A.BS _ _ WX]at this;exact(D.1 _ hm).1 this.symm
   .omega
  intro h' G' o w' r' ho k';have r':o=1/\LC E q.x q.M (cE has g.t g.r) (ur E aL g) G':=by
   unfold l_ at r';rw[if_neg Hy.2,hgx.1,hgx.2.1,hgx.2.2,fN,if_neg WX]at r';obtain⟨ro,rG⟩:=r';refine⟨ro,?_⟩;rcases uO with⟨h1,h2,h3,ht⟩|⟨hn,e2⟩
   .rw[if_pos h3,ht]at rG;rw[rG];exact A.hand hxy hg D ⟨h1,h2⟩
   .rw[if_neg XQ]at rG;rw[rG];exact A.drop hxy hg hn
  exact dB h' ⟨⟨i0,g,Q,has,aL,N,kb,G',o,c,XQ,hi1,yp,s.wk w' k',c1,hp,c2,c3,c4,hN,hZ z k'.fk,hG0,λe=>absurd rfl e,λ_=>r'⟩,.inr (.inr rfl)⟩
theorem go_s1(i:Nat)(h:af)(V:KQ)(s:Vh E Z q i 1 h)(dB:∀h',Vh E Z q (i+1) 3 h'->V (.tuple ⟨[.bool false,YYY 0,YYY 0]⟩) h')(hk2:∀code h',PGo E Z q i code h'->V (.tuple ⟨[.bool true,YYY code,YYY 0]⟩) h'):aj prog 74 [pt E.z.ab] h V:=by
 obtain⟨⟨i0,g,Q,has,aL,N,kb,G,out,c,e1,hi1,yp,s,c1,hp,c2,c3,c4,hN,z,⟨G0,g0⟩,_,hA⟩,n3⟩:=s;obtain⟨rfl,A⟩:=hA rfl;have uz:=s.th;have hg:g∈has:=hp.mem_iff.1 (.head _);have WX:=g0.nz hg;have Jy:c.ask.k≠0:=by rw[c2];exact Hy.1
 obtain rfl:i=i0+2:=by omega
 have lh:=g0.h.len;have lp:=g0.p.len;have hpG:=Nw g0.h hp;have hl:=g0.h.uo WX;have N_:=hp.length_eq;rw[List.length_cons]at N_;have agh:(if c.ask.k=3/\(1:Int)=1 then Dr E.z.most (-1-E.z.th) aL g.t g.r g.m else aL)=ur E aL g:=by
  rw[c2];unfold wo ur;by_cases hn:vl g.t g.r g.m=true/\0<E.z.most-aL.length
  .rw[if_pos hn,if_pos hn,if_pos ⟨rfl,rfl⟩];unfold Dr;rw[if_neg (by rw[hn.1];decide),if_neg (λh=>h (g0.BS _ _ WX)),if_neg XQ]
  .rw[if_neg hn,if_neg hn,if_neg (λe=>absurd e.1 (by show ¬(2:Int)=3;decide))]
 refine z1 s Jy V ?_;intro h1 s1 f1;rw[c3];refine Ns s1 gQ (by show has.length<=1000;omega) (by show aL.length<=1000;omega) (g:=g) (Q:=Q) c1 1 _ ?_;intro h2 s2 f2;have eD:rI E ⟨q.x,q.asked,has,aL⟩ { c with seen:=true } g 1=⟨q.x,q.asked,cE has g.t g.r,ur E aL g⟩:=by
  unfold rI;rw[agh]
 rw[eD]at s2;refine LD (i:=i0+3) hZ hx hM Nx Hv gQ XQ s2 (hZ (hZ z f1) f2) A hpG rfl c3 c4 XQ XQ (i0+2) XQ _ ?_ ?_
 .intro h3 G' N' y' o' D' c'' s3 hc f3 S3;exact⟨G',N',3,y',o',D',c'',s3,f2.trans f3,λ_=>dB h3 S3,λe=>absurd hc e⟩
 .intro h3 G' N' y' o' D' c'' s3 hc _ f3 hP;refine⟨G',N',0,y',o',D',c'',s3,f2.trans f3,λe=>?_,λ_=>⟨rfl,λh4 a4 f4=>?_⟩⟩
  .rw[hc]at e;exact absurd e J0
  .rw[hc];exact hk2 1 h4 (hP h4 a4 f4)
theorem Vi:abx E (λi n h=>SEm E Z q i n h\/Vh E Z q i n h) (PGo E Z q):=by
 refine⟨λi n h s=>?_,λi n h V s hn hk=>?_,λi h V s dB hk2=>?_⟩
 .rcases s with s|s
  .obtain⟨⟨i0,g,has,aL,N,kb,G,out,c,e1,hi1,yp,_⟩,n3⟩:=s;exact⟨n3,XQ⟩
  .obtain⟨⟨i0,g,Q,has,aL,N,kb,G,out,c,e1,hi1,yp,_⟩,n3⟩:=s;exact⟨n3,XQ⟩
 .rcases s with s|s
  .exact abC hZ hx Nx Hv i n h V s hn λh' s'=>hk h' (.inl s')
  .exact go_s32 hZ hx Nx Hv i n h V s hn λh' s'=>hk h' (.inr s')
 .rcases s with s|s
  .exact age hZ hx hM Nx Hv gQ i h V s dB hk2
  .exact go_s1 hZ hx hM Nx Hv gQ i h V s (λh' s'=>dB h' (.inr s')) hk2
end
theorem qq(n:Int){m:Int}(hm:1<=m):0<=jt n m/\jt n m<m:=by
 have h2:=Int.tmod_lt_of_pos n (show 0<m by omega);have h3:=Int.lt_tmod_of_pos n (show 0<m by omega);unfold jt;rw[if_neg XQ];split<;>omega
theorem Vj(n:Int){h:af}{V:KQ}(hk:V (YYY (1+jt n 6)) h):aj prog 26 [YYY n] h V:=by
 have:=qq n (show(1:Int)<=6 by decide);apply YYZ;rw[adr];refine IZ n 6 J0 ?_;simp(disch:=try exact Y)only[Wz];exact hk
theorem Sb(t r:Int)(h:af)(V:KQ)(hlo:h.lo<=h.nx)(hk:∀h',Le h h'->V (cQ t r) h'):aj prog 71 [YYY t,YYY r] h V:=by
 apply YYZ;rw[adQ];simp(disch:=try exact Y)only[Wz];exact hk _ ((Le.refl h).new _)
theorem agi(h:af)(V:KQ)(hlo:h.lo<=h.nx)(hk:∀h',Le h h'->V (cQ (-1) (-1)) h'):aj prog 75 [] h V:=by
 apply YYZ;rw[adT];simp(disch:=try exact Y)only[Wz];exact hk _ ((Le.refl h).new _)
def WY(p:Int):N2:=if p=0 then(-1,-1)else if p<4 then(p-1,-1)else(Int.tdiv (p-4) 3,Int.tmod (p-4) 3)
def Ak:List (Int × Int):=[(-1,-1),(0,-1),(1,-1),(2,-1),(0,0),(0,1),(0,2),(1,0),(1,1),(1,2),(2,0),(2,1),(2,2)]
theorem abD{p:Int}(h0:0<=p)(h1:p<13):WY p∈Ak:=by
 have key:∀i:Nat,i<13->WY (i:Int)∈Ak:=by decide +kernel
 obtain⟨i,rfl⟩:=Int.eq_ofNat_of_zero_le h0;exact key i XQ
theorem JF:∀p∈Ak,bf p.1 p.2≠-1/\∀a∈gu p.1 p.2,a∈Ak:=by decide +kernel
theorem Vk(n:Int)(h:af)(V:KQ)(hlo:h.lo<=h.nx)(hk:∀h',Le h h'->V (cQ (WY (jt n 13)).1 (WY (jt n 13)).2) h'):aj prog 25 [YYY n] h V:=by
 have hp:=qq n (show(1:Int)<=13 by decide);apply YYZ;rw[adq];simp(disch:=try exact Y)only[Wz];obtain⟨hA,bh,aU,g1,eE,eG⟩:=nP h (ai [YYY 0,YYY 0] 28 false);rw[<-bh]
 try rw[show(h.bl.bq (h.nx) (ai [YYY 0,YYY 0] 28 false))=hA.bl by rw[bh]]
 clear bh;refine IZ n 13 J0 ?_;generalize jt n 13=p at *
 by_cases e0:p=0
 .simp(disch:=try exact Y)only[Wz,bx e0];refine agi hA _ XQ ?_;intro h1 bN;have n1:=bN.nx;have l1:=bN.lo;have Lr:=bN.nx;have Ls:=bN.lo;have g1:=(bN.get _ XQ).trans g1;simp(disch:=try exact Y)only[Wz,cQ,g1];unfold WY at hk;rw[if_pos e0]at hk;exact hk _ ((aU.trans bN).set (Nat.le_refl _) _)
 .by_cases e4:p<4
  .simp(disch:=try exact Y)only[Wz,aZ e0,CN,fm e4];refine aaK (p-1) hA _ XQ ?_;intro h1 bN;have n1:=bN.nx;have l1:=bN.lo;have Lr:=bN.nx;have Ls:=bN.lo;have g1:=(bN.get _ XQ).trans g1;simp(disch:=try exact Y)only[Wz,cQ,g1];unfold WY at hk;rw[if_neg e0,if_pos e4]at hk;exact hk _ ((aU.trans bN).set (Nat.le_refl _) _)
  ·have q1:0<=Int.tdiv (p-4) 3/\Int.tdiv (p-4) 3<=p-4:=by
    rw[Int.tdiv_eq_ediv_of_nonneg XQ];omega
   simp(disch:=try exact Y)only[Wz,aZ e0,CN,dF (show 4<=p by omega),Kx,Ct,J1];refine Sb (Int.tdiv (p-4) 3) (Int.tmod (p-4) 3) hA _ XQ ?_;intro h1 bN;have n1:=bN.nx;have l1:=bN.lo;have Lr:=bN.nx;have Ls:=bN.lo;have g1:=(bN.get _ XQ).trans g1;simp(disch:=try exact Y)only[Wz,cQ,g1];unfold WY at hk;rw[if_neg e0,if_neg e4]at hk;exact hk _ ((aU.trans bN).set (Nat.le_refl _) _)
theorem z_(t r m:Int)(h:af)(V:KQ)(hlo:h.lo<=h.nx)(hk:∀h',Le h h'->V (.agg ⟨[YYY 1,YYY 0,YYY t,YYY r,YYY m,YYY 0]⟩) h'):aj prog 24 [cQ t r,YYY m] h V:=by
 apply YYZ;rw[adp];simp(disch:=try exact Y)only[Wz,cQ];exact hk _ (((Le.refl h).new _).new _)
theorem v_.fk{h0 h1 h2:af}(ro:v_ h0)(l:Le h0 h1){a:TA}(k:FK a h1 h2):Le h0 h2:=
 ⟨Nat.le_trans l.nx k.nx,k.lo.trans l.lo,λd hd=>by
  have e:=l.get d hd;exact(k.ro d (Nat.lt_of_lt_of_le hd l.nx) (λvs t o=>by rw[e];exact(ro d).1 vs t o) (λes c=>by rw[e];exact(ro d).2 es c)).trans e⟩
structure Imm(E:EN)(Post:Nat->Int->af->Prop)(h2:af):Prop where
 ex:∃(kb:Nat)(G:GT)(N:Nat)(y:iz)(out:Int)(D:AD)(c:CD),AW h2 E G N 0 y out D kb c/\c.ask.k=0/\∀h3,AI h3 E G N D->FK E.a h2 h3->Post 1 c.code h3
theorem vA{E:EN}{S:Nat->Nat->af->Prop}{Post:Nat->Int->af->Prop}(R:abx E S Post)(hi:∀i n h,S i n h->i<=59){h:af}{G:GT}{N:Nat}{D:AD}(s:AI h E G N D)(ht:D.jG≠0)(l1:D.has.length<=1000)(l2:D.asked.length<=1000)(k t r m:Int)(hm:Jz k t r m 0=true)(V:KQ)(hk:∀h' kb,AW h' E G N 0 qp 0 D kb (iG E.z D k t r m 0)->FK E.a h h'->aj prog (z6 k) [pt E.z.ab] h' λ_ h2=>S 1 3 h2\/Imm E Post h2)(hκ:∀i code h',1<=i->i<=59->Post i code h'->V (.tuple ⟨[YYY code,YYY (i:Int),.bool true]⟩) h'):aj prog 23 [pt E.z.ab,.agg ⟨[YYY k,YYY 0,YYY t,YYY r,YYY m,YYY 0]⟩] h V:=by
 have hlo:=s.lo;apply YYZ;rw[ado];simp(disch:=try exact Y)only[Wz];obtain⟨hA,bh,aU,gA,eE,eG⟩:=nP h (ai [YYY k,YYY 0,YYY t,YYY r,YYY m,YYY 0] 66 false);rw[<-bh]
 try rw[show(h.bl.bq (h.nx) (ai [YYY k,YYY 0,YYY t,YYY r,YYY m,YYY 0] 66 false))=hA.bl by rw[bh]]
 clear bh;refine Va (s.le aU) ht l1 l2 k t r m 0 hm _ ?_;intro h1 kb s1 f1;refine aj.mono (hk h1 kb s1 ((FK.le aU).trans f1)) ?_;rintro u h2 q;simp(disch:=try exact Y)only[Wz];refine⟨λj l h3=>∃i:Nat,ah l 21=YYY (i:Int)/\j=60-i/\1<=i/\((i<=59/\∃n,S i n h3)\/(i=1/\Imm E Post h3)),⟨_,1,rfl,rfl,Nat.le_refl _,q.elim (λq=>.inl ⟨J0,3,q⟩) λq=>.inr ⟨rfl,q⟩⟩,?_⟩;rintro j l h3 ⟨i,e21,rfl,i1,q⟩;have i59:i<=59:=by
  rcases q with⟨q,_⟩|⟨q,_⟩<;>omega
 simp(disch:=try exact Y)only[Wz,e21,fm (show(i:Int)<60 by omega),Kw];have go:∀h4 n,S (i+1) n h4->∃i':Nat,((i:Int)+1=(i':Int))/\60-i'<60-i/\1<=i'/\((i'<=59/\∃n,S i' n h4)\/(i'=1/\Imm E Post h4)):=λh4 n s4=>⟨i+1,XQ,XQ,XQ,.inl ⟨hi _ _ _ s4,n,s4⟩⟩
 rcases q with⟨_,n,q⟩|⟨rfl,q⟩
 .rcases(R.le i n h3 q).1 with rfl|rfl|rfl
  .refine R.s32 i 2 h3 _ q J0 λh4 s4=>?_;simp(disch:=try exact Y)only[Wz,e21];obtain⟨i',a1,a2,a3,a4⟩:=go h4 2 s4;exact⟨_,a2,i',by rw[<-a1],rfl,a3,a4⟩
  .refine R.s32 i 1 h3 _ q J0 λh4 s4=>?_;simp(disch:=try exact Y)only[Wz,e21];obtain⟨i',a1,a2,a3,a4⟩:=go h4 1 s4;exact⟨_,a2,i',by rw[<-a1],rfl,a3,a4⟩
  .refine R.s1 i h3 _ q (λh4 s4=>?_) λcode h4 p4=>?_
   .simp(disch:=try exact Y)only[Wz,e21];obtain⟨i',a1,a2,a3,a4⟩:=go h4 3 s4;exact⟨_,a2,i',by rw[<-a1],rfl,a3,a4⟩
   .simp(disch:=try exact Y)only[Wz,e21];exact hκ i code h4 i1 i59 p4
 .obtain⟨kb',G',N',y',o',D',c',s3,hc,hP⟩:=q;refine R4 s3 hc _ ?_;intro h4 s4 f4;simp(disch:=try exact Y)only[Wz,e21];exact hκ 1 c'.code h4 i1 i59 (hP h4 s4 f4)
def Ny(aL:Int):gr:=⟨2,8,24,aL⟩
theorem Vl{aL:Int}(h0:0<=aL)(h1:aL<=8):jF (Ny aL):=by unfold jF Ny;simp;omega
theorem HA(aL:Int)(p0:0<=aL)(p1:aL<=8)(h:af)(hlo:h.lo<=h.nx)(V:KQ)(hk:∀h' E,AI h' E (λ_ _=>[]) 0 ⟨1,[],[],[]⟩->E.z.most=aL->FK E.a h h'->V (.tuple ⟨[YYQ E.A.wb,pt E.z.ab]⟩) h'):aj prog 22 [YYY aL] h V:=by
 apply YYZ;rw[adn];refine MZ h _ hlo ?_;intro h1 bN;have n1:=bN.nx;have l1:=bN.lo;simp(disch:=try exact Y)only[Wz,rE];obtain⟨hA,bh,aU,g1,eE,eG⟩:=nP h1 (ai [YYY Jg.S,YYY Jg.H,YYY Jg.R,YYY aL] 115 false);rw[<-bh]
 try rw[show(h1.bl.bq (h1.nx) (ai [YYY Jg.S,YYY Jg.H,YYY Jg.R,YYY aL] 115 false))=hA.bl by rw[bh]]
 clear bh;refine aaJ (Ny aL) (Vl p0 p1) 2 ⟨J0,J0⟩ hA XQ _ ?_;intro h2 A a d R nw s2 bF fb;have n2:=bF.nx;have l2:=bF.lo;simp(disch:=try exact Y)only[Wz,Kv];have mul:Mul d.Ts (λ_ _=>[]):=⟨λb hb e he=>by{ rw[nw.em b hb]at he;cases he },λt r h=>absurd rfl h⟩
 have W:∀y out,WJ h2 A a (λ_ _=>[]) 0 0 y out:=λy out=>
  ⟨⟨d,R,0,s2,mul,nw.bit J0,by rw[nw.begun];decide,by rw[nw.begun];decide,J0,⟨λb hb=>by rw[nw.em b hb];exact Nat.le_refl _,by have:=nw.f;have e:(Ny aL).R=24:=rfl;omega⟩,.inl ⟨rfl,by rw[nw.cs];rfl,λk hk=>by rw[nw.dO,List.getElem?_replicate,if_pos (show k<((Ny aL).S).toNat from hk)]⟩⟩,by rw[nw.ec];rfl,by have:=nw.hd;have e:(Ny aL).H=8:=rfl;omega⟩
 refine abu W (by rw[nw.en];decide) (by rw[nw.ec];exact⟨p0,p1⟩) _ ?_;intro h3 z s3 em cT;simp(disch:=try exact Y)only[Wz,jO];refine BT s3 rfl 1 J0 _ ?_;intro h4 s4 f4;simp(disch:=try exact Y)only[Wz];exact hk h4 ⟨A,a,z⟩ s4 (by rw[em,nw.ec];rfl) (((((FK.le bN).trans (FK.le aU)).trans (FK.le bF)).trans (FK.le cT)).trans f4)
theorem alg:∀i,i<7->∀j,j<7->br prog 200 78 [YYY (.ofNat i),YYY (.ofNat j)] (.bool (iK (.ofNat i) (.ofNat j)))=true:=by decide +kernel
theorem alh(n:Nat)(b:Int):br prog 200 78 [YYY (.negSucc n),YYY b] (.bool false)=true:=by kernel_rfl
theorem ali(n:Nat)(b:Int):br prog 200 78 [YYY (.ofNat (n+7)),YYY b] (.bool false)=true:=by kernel_rfl
theorem alj:∀i,i<7->∀n:Nat,br prog 200 78 [YYY (.ofNat i),YYY (.negSucc n)] (.bool false)=true:=by
 refine seven ?_ ?_ ?_ ?_ ?_ ?_ ?_<;>intro n<;>kernel_rfl
theorem alk:∀i,i<7->∀n:Nat,br prog 200 78 [YYY (.ofNat i),YYY (.ofNat (n+7))] (.bool false)=true:=by
 refine seven ?_ ?_ ?_ ?_ ?_ ?_ ?_<;>intro n<;>kernel_rfl
theorem BW(a b:Int){h:af}{V:KQ}(hk:V (.bool (iK a b)) h):aj prog 78 [YYY a,YYY b] h V:=
 kZ mixed (F:=λa b=>.bool (iK a b)) alg (λn b=>by rw[Ko (mY n)];exact alh n b) (λn b=>by rw[Ko (mZ n)];exact ali n b) (λi hi n=>by rw[EH (mY n)];exact alj i hi n) (λi hi n=>by rw[EH (mZ n)];exact alk i hi n) a b hk
theorem abE:∀i,i<7->br prog 200 80 [YYY (.ofNat i)] (YYY (ja (.ofNat i)))=true:=by decide +kernel
theorem abF(n:Nat):br prog 200 80 [YYY (.negSucc n)] (YYY 0)=true:=by kernel_rfl
theorem abG(n:Nat):br prog 200 80 [YYY (.ofNat (n+7))] (YYY 0)=true:=by kernel_rfl
theorem Nz(a:Int){h:af}{V:KQ}(hk:V (YYY (ja a)) h):aj prog 80 [YYY a] h V:=
 G_ (F:=λa=>YYY (ja a)) abE (λn=>by rw[He];exact abF n) (λn=>by rw[Hf];exact abG n) a hk
theorem Sc{α:Type}{enc:α->List Value}{h:af}{v:Value}{L:List α}(hs:Sl enc h v L)(hn:L≠[]):ki 8 v v=true:=by
 obtain⟨vx',Jl,ev',hx'⟩:=hs;obtain⟨b',o',e',_⟩:=hx' hn;rw[ev',e'];exact gO _ _ _ _
theorem NA{α:Type}{L:List α}{i:Nat}{p:α}(h:L[i]? = some p):L≠[]:=by rintro rfl;simp at h
def MIr(L:List L4)(t r:Int)(i:Nat):Prop:=aO L t r=aO (L.drop i) t r
theorem uu(L:List L4)(t r:Int)(h:af)(v:Value)(V:KQ)(hv:Sl bS h v L)(hlen:L.length<=1000000)(hlo:h.lo<=h.nx)(hk:∀h',Le h h'->V (YYY (aO L t r)) h'):aj prog 31 [v,cQ t r] h V:=by
 apply YYZ;rw[adv];simp(disch:=try exact Y)only[Wz,cQ];have hle:=(Le.refl h).new (ai [YYY t,YYY r] 28 false);have hg:(⟨h.nx+1,h.bl.bq h.nx (ai [YYY t,YYY r] 28 false),h.lo⟩:af).bl.get h.nx=some (ai [YYY t,YYY r] 28 false):=T.au _ _ _;generalize (⟨h.nx+1,h.bl.bq h.nx (ai [YYY t,YYY r] 28 false),h.lo⟩:af)=hh at hle hg ⊢;refine⟨λn l h1=>∃i:Nat,ah l 19=YYY (i:Int)/\i<=L.length/\n=L.length-i/\MIr L t r i/\HQ hh h1,⟨_,0,rfl,Nat.zero_le _,rfl,rfl,rfl⟩,?_⟩;rintro n l h1 ⟨i,s1,hi,rfl,hm,Sp⟩;cases(show hh=h1 from Sp);clear Sp;by_cases hlt:i<L.length
 .obtain⟨p,hp⟩:∃p,L[i]? = some p:=⟨_,List.getElem?_eq_getElem hlt⟩
  have DS:L.drop i=p::L.drop (i+1):=by
   rw[List.drop_eq_getElem_cons hlt];rw[List.getElem?_eq_getElem hlt]at hp;cases hp;rfl
  obtain⟨b,o,hb,mD,mh⟩:=ldP hv i hp;by_cases he:p.t=t/\p.r=r
  .simp(disch:=try exact Y)only[Wz,hv.len,s1,CO,mD,hle.get,hg,mh,oJ,bx he];have:=hk _ hle;rw[show aO L t r=_ from hm,DS]at this;simpa[aO,gx,he]using this
  .simp(disch:=try exact Y)only[Wz,hv.len,s1,CO,mD,hle.get,hg,mh,oJ,aZ he];refine⟨_,XQ,i+1,rfl,XQ,rfl,?_,rfl⟩
   show _=_
   rw[show aO L t r=_ from hm,DS];simp[aO,gx,he]
 .simp(disch:=try exact Y)only[Wz,hv.len,s1];have:=hk _ hle;rw[show aO L t r=_ from hm,List.drop_of_length_le XQ]at this;simpa[aO]using this
theorem Sd(t r:Int)(h:af)(V:KQ)(hlo:h.lo<=h.nx)(hk:∀v h',Sl eP h' v (gu t r)->Le h h'->V v h'):aj prog 79 [cQ t r] h V:=by
 apply YYZ;rw[adV];simp(disch:=try exact Y)only[Wz,cQ];obtain⟨hA,bh,aU,g1,eE,eG⟩:=nP h (ai [YYY t,YYY r] 28 false);rw[<-bh]
 try rw[show(h.bl.bq (h.nx) (ai [YYY t,YYY r] 28 false))=hA.bl by rw[bh]]
 clear bh;refine BI t r ?_;rcases og t r with h1|h1|h1|h1
 .simp(disch:=try exact Y)only[Wz,h1,xk];exact hk _ _ ⟨none,0,by simp[gu,h1],λhn=>by simp[gu,h1]at hn⟩ aU
 .simp(disch:=try exact Y)only[Wz,h1,xk];exact hk _ _ ⟨none,0,by simp[gu,h1],λhn=>by simp[gu,h1]at hn⟩ aU
 .simp(disch:=try exact Y)only[Wz,h1];refine qg hA _ XQ ?_;intro h2 bF;simp(disch:=try exact Y)only[Wz,cQ];refine hk _ _ ⟨some ⟨h2.nx,0,none⟩,1,by simp[gu,h1],λ_=>⟨_,0,rfl,Nat.lt_succ_self _,?_⟩⟩ ((aU.trans bF).new _)
  show Has ((T.bq _ _ _).get _) 0 _
  rw[T.au];have:(gu t r).flatMap eP=[YYY (-1),YYY (-1)]:=by simp[gu,h1,eP]
  rw[this];exact Has.all
 .simp(disch:=try exact Y)only[Wz,h1,xk,g1];refine qg hA _ XQ ?_;intro h2 bF;have tV:=bF.nx;have tW:=bF.lo;have g1:=(bF.get _ XQ).trans g1;simp(disch:=try exact Y)only[Wz,cQ,g1,kS,BO,List.cons_append,List.nil_append];refine hk _ _ ⟨some ⟨h2.nx,0,none⟩,2,by simp[gu,h1],λ_=>⟨_,0,rfl,Nat.lt_succ_self _,?_⟩⟩ ((aU.trans bF).new _)
  show Has ((T.bq _ _ _).get _) 0 _
  rw[T.au];have:(gu t r).flatMap eP=[YYY (-1),YYY (-1),YYY t,YYY (-1)]:=by simp[gu,h1,eP]
  rw[this];exact Has.all
theorem agj:∀i,i<7->i≠0->iK 0 (i:Nat)=false:=by decide +kernel
theorem WZ{m:Int}(h0:m≠0):iK 0 m=false:=by
 cases hm:kn m with
 |false=>exact EH hm
 |true=>
  obtain⟨i,hi,rfl⟩:=iy hm;exact agj i hi (by intro e;exact h0 (by rw[e];rfl))
theorem Vm(a b:Int){h:af}{V:KQ}(h0:b≠0)(hk:V (.bool (iK a b)) h):aj prog 81 [YYY a,YYY b] h V:=by
 apply YYZ;rw[adX];by_cases ha:a=0
 .simp(disch:=try exact Y)only[Wz,bx ha];rw[ha,WZ h0]at hk;exact hk
 .simp(disch:=try exact Y)only[Wz,aZ ha];exact BW _ _ hk
theorem Se(a m:Int):kP a m=true<->(a=6\/((a=3\/a=4\/a=5)/\(m=1\/m=3))):=by
 unfold kP;simp only[Bool.or_eq_true,Bool.and_eq_true,decide_eq_true_eq,or_assoc]
theorem sC(L:List L4)(t r m:Int)(h:af)(v:Value)(V:KQ)(hv:Sl bS h v L)(hlen:L.length<=100000)(hlo:h.lo<=h.nx)(hk:∀h',Le h h'->V (.bool (lY (aO L) t r m)) h'):aj prog 34 [v,cQ t r,YYY m] h V:=by
 apply YYZ;rw[adz];simp(disch:=try exact Y)only[Wz,cQ];obtain⟨hA,eA⟩:∃hA:af,hA=⟨h.nx+1,h.bl.bq h.nx (ai [YYY t,YYY r] 28 false),h.lo⟩:=⟨_,rfl⟩
 have iD:Le h hA:=by subst eA;exact(Le.refl h).new _
 have gA:hA.bl.get h.nx=some (ai [YYY t,YYY r] 28 false):=by subst eA;exact T.au _ _ _
 have nA:hA.nx=h.nx+1:=by subst eA;rfl
 have lA:hA.lo=h.lo:=by subst eA;rfl
 rw[<-eA];clear eA;refine MU t r ?_;by_cases hok:bf t r = -1
 .rw[if_pos hok];simp(disch:=try exact Y)only[Wz,aZ (show ¬(2:Int)=0 by decide)];have:=hk hA iD;simpa[lY,ua,hok]using this
 .rw[if_neg hok];by_cases h0:m=0
  .simp(disch:=try exact Y)only[Wz,bx h0];have:=hk hA iD;simpa[lY,ua,hok,h0]using this
  .simp(disch:=try exact Y)only[Wz,aZ h0];refine Qc m ?_;cases hkn:kn m with
   |false=>
    simp(disch:=try exact Y)only[Wz];have:=hk hA iD;simpa[lY,ua,hok,hkn]using this
   |true=>
    have ha:ua t r m=true:=by simp[ua,hok,hkn,h0]
    simp(disch:=try exact Y)only[Wz,KD,gA];refine uu L t r hA v _ (hv.le iD) XQ XQ ?_;intro h2 hle2;have n2:=hle2.nx;have l2:=hle2.lo;have g2:=(hle2.get h.nx XQ).trans gA;have qj:=iD.trans hle2;have rest:iK (aO L t r) m=false->CS h.nx v (YYY m) h2 V:=by
     intro hc;simp(disch:=try exact Y)only[Wz,CS,g2];refine Sd t r h2 _ XQ ?_;intro u h3 hu bJ;have n3:=bJ.nx;have l3:=bJ.lo;have hlA:=t_ t r;refine⟨λn l h4=>Le h3 h4/\∃k:Nat,ah l 36=YYY (k:Int)/\k<=(gu t r).length/\n=(gu t r).length-k/\((gu t r).take k).any (λa=>kP (aO L a.1 a.2) m)=false,⟨_,Le.refl _,0,rfl,Nat.zero_le _,rfl,rfl⟩,?_⟩;rintro n l h4 ⟨bW,k,s4,Ac,rfl,hw4⟩;have n4:=bW.nx;have l4:=bW.lo;have iY:=(qj.trans bJ).trans bW;by_cases hlt:k<(gu t r).length
     .obtain⟨a,ha'⟩:∃a,(gu t r)[k]? = some a:=⟨_,List.getElem?_eq_getElem hlt⟩
      obtain⟨b,o,hb,mD,mh⟩:=ldN (hu.le bW) k ha';simp(disch:=try exact Y)only[Wz,hu.len,s4,KC,mD,mh,eP];refine uu L a.1 a.2 h4 v _ (hv.le iY) XQ XQ ?_;intro h5 dA;have hT:kP (aO L a.1 a.2) m=true->V (.bool true) h5:=by
       intro e;have:=hk h5 (iY.trans dA);have e2:lY (aO L) t r m=true:=by
        simp only[lY,Bool.or_eq_true];exact .inr (List.any_eq_true.2 ⟨a,List.mem_of_getElem? ha',e⟩)
       rwa [e2]at this
      have Su:kP (aO L a.1 a.2) m=false->((gu t r).take (k+1)).any (λa=>kP (aO L a.1 a.2) m)=false:=by
       intro e;have e2:(gu t r)[k]=a:=by rw[List.getElem?_eq_getElem hlt]at ha';exact Option.some.inj ha'
       rw[List.take_succ_eq_append_getElem hlt,List.any_append,hw4,e2];simp[e]
      have hL:=Se (aO L a.1 a.2) m;obtain⟨up,eup⟩:∃up,aO L a.1 a.2=up:=⟨_,rfl⟩
      rw[eup]at hT Su hL ⊢;rcases(show up<3\/up=3\/up=4\/up=5\/up=6\/up > 6 by omega)with h6|h6|h6|h6|h6|h6<;>rcases(show m<1\/m=1\/m=2\/m=3\/m > 3 by omega)with m6|m6|m6|m6|m6<;>simp(disch:=try exact Y)only[Wz,s4]<;>
       first
       |exact hT (hL.2 XQ)
       |exact⟨_,XQ,bW.trans dA,k+1,rfl,XQ,rfl,Su (by rw[<-Bool.not_eq_true,hL];omega)⟩
     .simp(disch:=try exact Y)only[Wz,hu.len,s4];have e:(gu t r).take k=gu t r:=List.take_of_length_le XQ;rw[e]at hw4;have:=hk h4 iY;have e2:lY (aO L) t r m=false:=by simp only[lY,ha,hc,hw4];rfl
      rwa [e2]at this
    by_cases hz:aO L t r=0
    .simp(disch:=try exact Y)only[Wz,bx hz];exact rest (by rw[hz];exact WZ h0)
    .simp(disch:=try exact Y)only[Wz,aZ hz];refine BW _ _ ?_;cases hc:iK (aO L t r) m with
     |true=>
      simp(disch:=try exact Y)only[Wz];have:=hk h2 qj;simpa[lY,ha,hc]using this
     |false=>
      simp(disch:=try exact Y)only[Wz];exact rest hc
theorem Vn(L:List L4)(t r m:Int)(h:af)(v:Value)(V:KQ)(hv:Sl bS h v L)(hlen:L.length<=100000)(hlo:h.lo<=h.nx)(hk:∀v' h',Sl lZ h' v' (ck (aO L) t r m)->ki 8 v' v'=true->Le h h'->V v' h'):aj prog 32 [v,cQ t r,YYY m] h V:=by
 apply YYZ;rw[adw];simp(disch:=try exact Y)only[Wz,cQ];obtain⟨hA,eA⟩:∃hA:af,hA=⟨h.nx+1,h.bl.bq h.nx (ai [YYY t,YYY r] 28 false),h.lo⟩:=⟨_,rfl⟩
 have iD:Le h hA:=by subst eA;exact(Le.refl h).new _
 have gA:hA.bl.get h.nx=some (ai [YYY t,YYY r] 28 false):=by subst eA;exact T.au _ _ _
 have nA:hA.nx=h.nx+1:=by subst eA;rfl
 have lA:hA.lo=h.lo:=by subst eA;rfl
 rw[<-eA];clear eA;refine sC L t r m hA v _ (hv.le iD) hlen XQ ?_;intro h2 hle2;have n2:=hle2.nx;have l2:=hle2.lo;have g2:=(hle2.get h.nx XQ).trans gA;have qj:=iD.trans hle2;cases himp:lY (aO L) t r m with
 |true=>
  simp(disch:=try exact Y)only[Wz];exact hk _ _ ⟨none,0,by simp[ck,himp],λhn=>by simp[ck,himp]at hn⟩ (qI _ _) qj
 |false=>
  have hm0:ja m≠0:=by
   have hi:=himp;simp only[lY,Bool.or_eq_false_iff,Bool.not_eq_false']at hi;have abH:=hi.1.1;simp only[ua,Bool.and_eq_true,decide_eq_true_eq]at abH;exact(Dv abH.1.2 abH.2).2
  simp(disch:=try exact Y)only[Wz,g2];refine Sd t r h2 _ XQ ?_;intro u h3 hu bJ;have n3:=bJ.nx;have l3:=bJ.lo;have hlA:=t_ t r;have jY:=qj.trans bJ;refine Nz m ?_;refine⟨λn l h4=>Le h3 h4/\∃k:Nat,ah l 29=YYY (k:Int)/\k<=(gu t r).length/\n=(gu t r).length-k/\ia lZ h3 160 h4 (ah l 26) (BQ (aO L) m ((gu t r).take k)),⟨_,Le.refl _,0,rfl,Nat.zero_le _,rfl,.inl ⟨rfl,.inl rfl⟩⟩,?_⟩;rintro n l h4 ⟨bW,k,s4,Ac,rfl,HL⟩;have n4:=bW.nx;have l4:=bW.lo;have iY:=jY.trans bW;have hu4:=Dp (aO L) m ((gu t r).take k);rw[List.length_take]at hu4;by_cases hlt:k<(gu t r).length
  .obtain⟨a,ha⟩:∃a,(gu t r)[k]? = some a:=⟨_,List.getElem?_eq_getElem hlt⟩
   obtain⟨b,o,hb,mD,mh⟩:=ldN (hu.le bW) k ha;simp(disch:=try exact Y)only[Wz,CQ,hu.len,s4];refine⟨λj7 h5=>Le h3 h5/\ia lZ h3 160 h5 (ah j7 22) (BQ (aO L) m ((gu t r).take (k+1))),?_,?_⟩
   .simp(disch:=try exact Y)only[Wz,Kz,s4,mD,mh,eP];refine uu L a.1 a.2 h4 v _ (hv.le iY) XQ XQ ?_;intro h5 dA;have n5:=dA.nx;have l5:=dA.lo;have lU:=bW.trans dA;refine Vm _ _ hm0 ?_;have oI:=HL.le dA;cases hc:iK (aO L a.1 a.2) (ja m)with
    |true=>
     simp(disch:=try exact Y)only[Wz];refine⟨lU,?_⟩;rw[ud ha,if_pos hc,List.append_nil];exact oI
    |false=>
     obtain⟨b5,o5,hb5,agk,agl⟩:=ldN ((hu.le bW).le dA) k ha;have qu:=Sc hu (NA ha);simp(disch:=try exact Y)only[Wz,Ky,s4,agk,agl,eP];refine IU _ _ ?_;simp(disch:=try exact Y)only[Wz,s4,oI.same,qu,agk,agl,eP];have ku:=(Le.refl h5).new (ai [YYY a.1,YYY a.2,YYY (bA (aO L a.1 a.2) (ja m))] 160 false);refine iO (enc:=lZ) (a:=h3) (L:=BQ (aO L) m ((gu t r).take k)) (M:=[(a.1,a.2,bA (aO L a.1 a.2) (ja m))]) om qk XQ XQ (oI.le ku) ⟨_,1,rfl,λ_=>⟨h5.nx,0,rfl,Nat.lt_succ_self _,by show Has ((T.bq _ _ _).get _) 0 _;rw[T.au];exact Has.all⟩⟩ (lU.trans ku)
      (by simp;omega) (by show h5.lo<=h5.nx+1;omega) _ ?_
     intro v' h' ho' hl' _ _;refine⟨hl',?_⟩;rw[ud ha,hc,if_neg (by simp)];exact ho'
   .rintro j7 h5 ⟨SB,oI⟩;exact⟨_,XQ,SB,k+1,rfl,XQ,rfl,oI⟩
  .have hkk:k=(gu t r).length:=by omega
   subst hkk;rw[List.take_length]at HL hu4;have g4:=(bW.get h.nx XQ).trans ((bJ.get h.nx XQ).trans g2);simp(disch:=try exact Y)only[Wz,CQ,hu.len,s4,KB,g4];refine uu L t r h4 v _ (hv.le iY) XQ XQ ?_;intro h5 dA;have n5:=dA.nx;have l5:=dA.lo;have g5:=(dA.get h.nx XQ).trans g4;have oI:=HL.le dA;have lU:=bW.trans dA;simp(disch:=try exact Y)only[Wz,g5,oI.same];refine IU _ _ ?_;simp(disch:=try exact Y)only[Wz,g5,oI.same];have ku:=(Le.refl h5).new (ai [YYY t,YYY r,YYY (bA (aO L t r) m)] 160 false);refine iO (enc:=lZ) (a:=h3) (L:=BQ (aO L) m (gu t r)) (M:=[(t,r,bA (aO L t r) m)]) om qk XQ XQ (oI.le ku) ⟨_,1,rfl,λ_=>⟨h5.nx,0,rfl,Nat.lt_succ_self _,by show Has ((T.bq _ _ _).get _) 0 _;rw[T.au];exact Has.all⟩⟩ (lU.trans ku)
    (by simp;omega) (by show h5.lo<=h5.nx+1;omega) _ ?_
   intro v' h' ho' hl' _ _;have e:ck (aO L) t r m=BQ (aO L) m (gu t r)++[(t,r,bA (aO L t r) m)]:=by rw[ck,himp];simp
   rw[<-e]at ho';exact hk v' h' ho'.sl ho'.same (jY.trans hl')
theorem abI(t r:Int)(lv:bf t r≠-1):(gu t r++[(t,r)]).Nodup:=by
 unfold gu;by_cases h1:bf t r=1
 ·rw[if_pos h1];have:¬(t = -1/\r = -1):=by
   rintro⟨rfl,rfl⟩;revert h1;decide
  simp only[List.singleton_append,List.nodup_cons,List.mem_singleton,Prod.mk.injEq,List.not_mem_nil,not_false_eq_true,List.nodup_nil,and_true];omega
 .rw[if_neg h1];by_cases h2:bf t r=2
  ·rw[if_pos h2];have h3:t≠-1/\r≠-1:=by
    unfold bf DD at h2;split at h2
    .omega
    .split at h2
     .omega
     .split at h2
      .rename_i h3;simp at h3;omega
      .omega
   simp only[List.cons_append,List.nil_append,List.nodup_cons,List.mem_cons,List.mem_singleton,Prod.mk.injEq,List.not_mem_nil,not_false_eq_true,List.nodup_nil,and_true,or_false];omega
  .rw[if_neg h2];simp
theorem JG(f:Int->Int->Int)(t r m:Int):((ck f t r m).map λp=>(p.1,p.2.1)).Sublist (gu t r++[(t,r)]):=by
 unfold ck;split
 .exact List.nil_sublist _
 .rw[List.map_append];refine List.Sublist.append ?_ (List.Sublist.refl _);unfold BQ;rw[List.map_map];have:((λp:N3=>(p.1,p.2.1)) ∘ λa:N2=>(a.1,a.2,bA (f a.1 a.2) (ja m)))=id:=rfl;rw[this,List.map_id];exact List.filter_sublist
section
variable {M:List (Int × Int)}{has aL:List L4}{t r m:Int}
theorem LF(oh:iZ M has)(hm:kn m=true)(h0:m≠0):d_ has (ck (aO has) t r m)=ck (aO has) t r m:=by
 obtain⟨pk,p0⟩:=Dv hm h0;unfold d_;rw[List.filter_eq_self];intro p hp;rw[Bool.not_eq_true'];unfold ck at hp;split at hp
 .cases hp
 .rename_i himp;rcases List.mem_append.1 hp with hp|hp
  .unfold BQ at hp;obtain⟨a,ha,rfl⟩:=List.mem_map.1 hp;have hc:=(List.mem_filter.1 ha).2;rw[Bool.not_eq_true']at hc;unfold cL;cases hq:iK (aO has a.1 a.2) (bA (aO has a.1 a.2) (ja m))with
   |false=>rw[Bool.and_false]
   |true=>rw[(yu (oh.Hs _ _) pk).1 hq]at hc;cases hc
  .rw[List.mem_singleton]at hp;subst hp;have himp:lY (aO has) t r m=false:=by simpa using himp
   unfold lY at himp;simp only[Bool.or_eq_false_iff]at himp;unfold cL;cases hq:iK (aO has t r) (bA (aO has t r) m)with
   |false=>rw[Bool.and_false]
   |true=>rw[(yu (oh.Hs _ _) hm).1 hq]at himp;cases himp.1.2
theorem HB{iI:List L4}(oh:iZ M has)(lv:bf t r≠-1)(hm:kn m=true)(h0:m≠0)(hc:ck (aO has) t r m=[]->iI=has)(cv:∀p∈ck (aO has) t r m,cL iI p=true):lY (aO iI) t r m=true:=by
 cases himp:lY (aO has) t r m with
 |true=>
  have:ck (aO has) t r m=[]:=by unfold ck;rw[if_pos himp]
  rw[hc this];exact himp
 |false=>
  have hin:(t,r,bA (aO has t r) m)∈ck (aO has) t r m:=by
   unfold ck;rw[if_neg (by rw[himp];decide)];exact List.mem_append_right _ (.head _)
  have:=cv _ hin;unfold cL at this;rw[Bool.and_eq_true]at this;have Hp:=Md this.2 (yu (oh.Hs t r) hm).2.2.1;unfold lY;rw[Hp];simp
theorem abJ{most:Int}{asked:List L4}{x m0:Int}{N:Nat}(oh:iZ M has)(op:iZ M aL)(pl:(aL.length:Int)<=most)(lv:bf t r≠-1)(hm:kn m=true)(h0:m≠0)(hin:(t,r)∈M)(abK:∀a∈gu t r,a∈M):JA ⟨x,M,ck (aO has) t r m,1+3*(ck (aO has) t r m).length+3*aL.length,most,asked,t,r,m0,N⟩ 1 has aL (ck (aO has) t r m):=by
 obtain⟨k1,k2,k3⟩:=uq (f:=aO has) oh.Hs lv hm h0;have nn:((ck (aO has) t r m).map λp=>(p.1,p.2.1)).Nodup:=(abI t r lv).sublist (JG _ _ _ _);refine⟨Nat.le_refl _,Nat.le_refl _,by show 1+3*_+3*_<=1+3*_+3*_;omega,oh,op,pl,k1,λp hp=>?_,nn,LF oh hm h0,λp hp=>.inl hp,λp hp=>hp,nn⟩;rcases k3 p hp with e|e
 .rw[e];exact hin
 .exact abK _ e
end
section
variable {E:EN}{h:af}{x:Int}{N:Nat}{asked has aL:List L4}{t r m:Int}{G:GT}{M:List (Int × Int)}
theorem HD(s:AI h E G N ⟨x,asked,has,aL⟩)(A:mg x (yE E) has aL G)(hx:1<=x)(hN:N<=380)(hM:M.length<=19)(oh:iZ M has)(op:iZ M aL)(pl:(aL.length:Int)<=E.z.most)(gQ:E.z.most<=8)(la:asked.length<=1000)(hm:kn m=true)(h0:m≠0)(lv:bf t r≠-1)(hin:(t,r)∈M)(abK:∀a∈gu t r,a∈M)(ka:kn (aO asked t r)=true)(V:KQ)(hκ0:ck (aO has) t r (bA (aO asked t r) m)=[]->∀h',AI h' E G N ⟨x,cV asked ⟨x,t,r,bA (aO asked t r) m⟩,has,aL⟩->FK E.a h h'->V (.tuple ⟨[YYY 1,YYY 1,.bool true]⟩) h')(hκ1:ck (aO has) t r (bA (aO asked t r) m)≠[]->∀(i:Nat) code h',1<=i->i<=59->Vd E (FK E.a h) ⟨x,M,ck (aO has) t r (bA (aO asked t r) m),1+3*(ck (aO has) t r (bA (aO asked t r) m)).length+3*aL.length,E.z.most,asked,t,r,m,N⟩ i code h'->V (.tuple ⟨[YYY code,YYY (i:Int),.bool true]⟩) h'):aj prog 23 [pt E.z.ab,.agg ⟨[YYY 1,YYY 0,YYY t,YYY r,YYY m,YYY 0]⟩] h V:=by
 have eJ:iG E.z ⟨x,asked,has,aL⟩ 1 t r m 0=⟨1,t,r,m,0,qp,0,126,.func (.func 127) ⟨[pt E.z.ab]⟩ ⟨[]⟩,false,0,ck (aO has) t r (bA (aO asked t r) m),[]⟩:=by unfold iG;rw[if_pos rfl]
 obtain⟨q0,q1,_⟩:=jm ka hm h0;obtain⟨pk1,pk2,_⟩:=uq (f:=aO has) oh.Hs lv q1 q0;have lh:=oh.len;have lp:=op.len;have uz:=s.th;have hmay:Jz 1 t r m 0=true:=by
  unfold Jz;rw[if_pos rfl,hm];simp[h0,lv]
 have J:=abJ (x:=x) (asked:=asked) (m0:=m) (N:=N) (most:=E.z.most) oh op pl lv q1 q0 hin abK;have nc:=LF (t:=t) (r:=r) oh q1 q0;by_cases hP:ck (aO has) t r (bA (aO asked t r) m)=[]
 .refine vA (S:=λ_ _ _=>False) (Post:=λi code h'=>i=1/\code=1/\AI h' E G N ⟨x,cV asked ⟨x,t,r,bA (aO asked t r) m⟩,has,aL⟩/\FK E.a h h') ⟨λ_ _ _ hf=>hf.elim,λ_ _ _ _ hf=>hf.elim,λ_ _ _ hf=>hf.elim⟩ (λ_ _ _ hf=>hf.elim) s (by show x≠0;omega) (by show has.length<=1000;omega) la 1 t r m hmay V ?_ ?_
  .intro h1 kb s1 f1;rw[eJ]at s1
   show aj prog 131 [pt E.z.ab] h1 _
   refine Ly s1 XQ (by show aL.length<=1000;omega) (by show x≠-1-E.z.th;omega) (by show has.length<=1000;omega) la (by show(ck _ _ _ _).length<=100;omega) (Int.le_refl 0) hm pk1 oh.Hs 0 _ ?_ ?_ ?_
   .intro hL h2 s2 f2;exact .inr ⟨kb,_,N,_,_,_,_,s2,rfl,λh3 a3 f3=>⟨rfl,rfl,a3,(f1.trans f2).trans f3⟩⟩
   .intro p P hL;have hL:d_ has (ck (aO has) t r (bA (aO asked t r) m))=p::P:=hL;rw[hP]at hL;cases hL
   .intro p P hL;have hL:d_ has (ck (aO has) t r (bA (aO asked t r) m))=p::P:=hL;rw[hP]at hL;cases hL
  .rintro i code h' _ _ ⟨rfl,rfl,a3,f3⟩;exact hκ0 hP h' a3 f3
 .have hB:1+3*(ck (aO has) t r (bA (aO asked t r) m)).length+3*aL.length<=60:=by omega
  refine vA (Vg (Z:=FK E.a h) (λz f=>z.trans f) (q:=⟨x,M,ck (aO has) t r (bA (aO asked t r) m),1+3*(ck (aO has) t r (bA (aO asked t r) m)).length+3*aL.length,E.z.most,asked,t,r,m,N⟩) hx hB hM la hm (by show N<=400;omega)) ?_ s (by show x≠0;omega) (by show has.length<=1000;omega) la 1 t r m hmay V ?_ (hκ1 hP)
  .rintro i n h1 ⟨⟨b,i0,iI,gZ,p,P,N',kb,G',out,c,e1,J',_⟩,n3⟩;have:=J'.i0;have:i0+3+3*gZ.length<=1+3*(ck (aO has) t r (bA (aO asked t r) m)).length+3*aL.length:=this;omega
  .intro h1 kb s1 f1;rw[eJ]at s1
   show aj prog 131 [pt E.z.ab] h1 _
   refine LB (Z:=FK E.a h) (i:=1) (λz f=>z.trans f) (q:=⟨x,M,ck (aO has) t r (bA (aO asked t r) m),1+3*(ck (aO has) t r (bA (aO asked t r) m)).length+3*aL.length,E.z.most,asked,t,r,m,N⟩) hx hB hM la hm (by show N<=400;omega) s1 f1 A rfl rfl rfl rfl rfl rfl rfl (by show(ck _ _ _ _).length<=100;omega) pk1 (by rw[nc];exact J) (by show 3*N+1<=3*N+1;omega) 1 XQ ?_ _ ?_ ?_
   .intro hL;rw[nc]at hL;exact absurd hL hP
   .intro h' G' N' y' o' D' c' _ _ _ S';exact .inl S'
   .intro h' G' N' y' o' D' c' s' hc hk f' hP';refine .inr ⟨kb,G',N',y',o',D',c',s',by rw[hk];rfl,λh3 a3 f3=>?_⟩;rw[hc];exact hP' h3 a3 f3
theorem Sf(s:AI h E G N ⟨x,asked,has,aL⟩)(A:mg x (yE E) has aL G)(hx:1<=x)(hN:N<=380)(hM:M.length<=19)(oh:iZ M has)(op:iZ M aL)(pl:(aL.length:Int)<=E.z.most)(gQ:0<=E.z.most/\E.z.most<=3)(la:asked.length<=1000)(t r m:Int)(V:KQ)(hκ:∀(i:Nat) code h',1<=i->i<=59->PGo E (FK E.a h) ⟨x,M,asked,N,has.length+aL.length⟩ i code h'->V (.tuple ⟨[YYY code,YYY (i:Int),.bool true]⟩) h'):aj prog 23 [pt E.z.ab,.agg ⟨[YYY 3,YYY 0,YYY t,YYY r,YYY m,YYY 0]⟩] h V:=by
 have eJ:iG E.z ⟨x,asked,has,aL⟩ 3 t r m 0=⟨3,t,r,m,0,qp,0,135,.func (.func 133) ⟨[]⟩ ⟨[]⟩,false,0,[],[]⟩:=by unfold iG;rw[if_neg J0,if_neg J0]
 have hcap:(has.map kG).length<=16:=abl (s.w qp 0) oh.nd λp hp e=>by
  obtain⟨u,hu,rfl⟩:=List.mem_map.1 hp;have hm:=oh.mode hu;have:=A.hy u.t u.r (by rw[hm];exact(oh.ok u hu).2.2);have e:G u.t u.r=[]:=e;rw[e]at this;cases this
 rw[List.length_map]at hcap;have lh:=oh.len;have uz:=s.th;have Nx:has.length+aL.length<=19:=by omega
 have hm8:0<=E.z.most/\E.z.most<=8:=by omega
 refine vA (Vi (Z:=FK E.a h) (λz f=>z.trans f) (q:=⟨x,M,asked,N,has.length+aL.length⟩) hx hM Nx (by show N<=400;omega) hm8) ?_ s (by show x≠0;omega) (by show has.length<=1000;omega) la 3 t r m ?_ V ?_ hκ
 .rintro i n h1 (⟨⟨i0,g,iI,gZ,N',kb,G',out,c,e1,hi1,yp,_,_,hg,_⟩,n3⟩|⟨⟨i0,g,Q,iI,gZ,N',kb,G',out,c,e1,hi1,yp,_⟩,n3⟩)
  .have:=List.length_pos_of_mem hg;have yp:i0+3*(iI.length+gZ.length)<=1+3*(has.length+aL.length):=yp;omega
  .have yp:i0+3*(Q.length+1)<=1+3*(has.length+aL.length):=yp;omega
 .unfold Jz;rw[if_neg J0,if_neg J0];simp
 .intro h1 kb s1 f1;rw[eJ]at s1
  show aj prog 136 [pt E.z.ab] h1 _
  refine Hz (Z:=FK E.a h) (i:=1) (λz f=>z.trans f) (q:=⟨x,M,asked,N,has.length+aL.length⟩) hx hM Nx (by show N<=400;omega) hm8 (Nat.le_refl _) s1 f1 A oh op rfl rfl (by show 3*N+1<=3*N+1;omega) (Nat.le_refl _) 1 XQ _ ?_ ?_
  .intro h' G' N' y' o' D' c' _ _ _ S';exact .inl S'
  .intro h' G' N' y' o' D' c' s' hc hk f' hP';refine .inr ⟨kb,G',N',y',o',D',c',s',by rw[hk];rfl,λh3 a3 f3=>?_⟩;rw[hc];exact hP' h3 a3 f3
end
theorem HF{M:List (Int × Int)}{has:List L4}(s:iZ M has)(t r:Int):aO has t r≠0<->(t,r)∈has.map kG:=by
 constructor
 .intro h;obtain⟨p,hp,rfl,rfl,_⟩:=vv h;exact List.mem_map.2 ⟨p,hp,rfl⟩
 .intro h;obtain⟨p,hp,e⟩:=List.mem_map.1 h;have e1:p.t=t:=congrArg Prod.fst e;have e2:p.r=r:=congrArg Prod.snd e;rw[<-e1,<-e2,s.mode hp];exact(s.ok p hp).2.2
theorem HG{h:af}{E:EN}{N:Nat}{G:GT}{D:AD}(s:AI h E G N D){M:List (Int × Int)}{L:List L4}{z:Int}(ok:iZ M L)(ha:∀t r p,p∈G t r->p=(z,aO L t r))(hb:∀t r,aO L t r≠0->(z,aO L t r)∈G t r)(V:KQ)(hk:∀x cap h',Le h h'->V (.slice x L.length cap) h'):aj prog 16 [YYQ E.A.wb] h V:=by
 have w:=s.w ⟨0,0,0,0,0,0,0⟩ 0;refine U0 w (LL:=L.map kG) ok.nd (λt r=>UY (w.BS t r) (x:=z) λp hp=>by rw[ha t r p hp]) (λt r=>?_) V ?_
 .rw[<-HF ok];constructor
  .intro hn h0;cases hG:G t r with
   |nil=>exact hn hG
   |cons p Q=>
    have hp:p∈G t r:=by rw[hG];exact .head _
    have:=((w.BS t r).1 p hp).1;rw[ha t r p hp]at this;exact this h0
  .intro hn e;have:=hb t r hn;rw[e]at this;cases this
 .intro x cap h' le;rw[List.length_map];exact hk x cap h' le
def M3:List (Int × Int):=[(-1,-1),(3,-1),(3,7)]
def P3:List N3:=ck (aO []) 3 7 (bA (aO [] 3 7) 6)
theorem Aa:P3.length=3/\M3.Nodup/\∀p∈M3,∃q∈P3,q.1=p.1/\q.2.1=p.2:=by decide +kernel
theorem Sg(h:af)(hlo:h.lo<=h.nx)(ro:v_ h)(V:KQ)(hk:∀h',Le h h'->V (.bool true) h'):aj prog 21 [] h V:=by
 apply YYZ;rw[adm];refine HA 2 J0 J0 h hlo _ ?_;intro h1 E s1 em f1;simp(disch:=try exact Y)only[Wz,jl,Ku];refine Sb 3 7 h1 _ s1.lo ?_;intro h2 bF;refine z_ 3 7 6 h2 _ (s1.le bF).lo ?_;intro h3 cT;have s3:=s1.le (bF.trans cT);have A0:mg 1 (yE E) [] [] (λ_ _=>[]):=⟨λt r p hp=>(by cases hp),λt r m hp=>(by cases hp),λt r hp=>absurd rfl hp,λt r m hp=>(by cases hp)⟩
 have hP:ck (aO []) 3 7 (bA (aO [] 3 7) 6)=P3:=rfl;refine HD (x:=1) (has:=[]) (asked:=[]) (aL:=[]) (M:=M3) s3 A0 J0 J0 J0 (iZ.nil M3) (iZ.nil M3) (by rw[em];decide) (by rw[em];decide) J0 J0 J0 J0 J0 J0 J0 _ ?_ ?_
 .intro e;rw[hP]at e;have:=Aa.1;rw[e]at this;cases this
 ·intro _;rw[hP];rintro i code h4 i1 i59 ⟨has,aL,asked',N',G,a4,A,f4,hN,oh,op,pl,hb,hc⟩;have hN:3*N'<=3*0+i+2:=hN;have hb:i+1+3*aL.length<=1+3*P3.length+3*0\/P3.length=0:=hb;rw[Aa.1]at hb;obtain⟨rfl,h9,cv⟩:code=1/\9<=i/\∀p∈P3,cL has p=true:=by
   rcases hc with⟨h1,_,h2,h3⟩|⟨_,_,h8⟩
   .have h2:3*P3.length<=i:=h2;rw[Aa.1]at h2;exact⟨h1,h2,h3⟩
   .omega
  obtain rfl:i=9:=by omega
  have e9:((9:Nat):Int)=9:=rfl;rw[e9];have kU:=ro.fk ((Le.refl h)) (f1.trans ((FK.le (bF.trans cT)).trans f4));have hl:has.length=3:=by
   have h1:=oh.len;have e3:M3.length=3:=rfl;have h2:=BU M3 (has.map kG) Aa.2.1 λp hp=>by
    obtain⟨q,hq,e1,e2⟩:=Aa.2.2 p hp;have:=cv q hq;unfold cL at this;rw[Bool.and_eq_true,decide_eq_true_eq]at this;have:=(HF oh q.1 q.2.1).1 this.1;rw[e1,e2]at this;exact this
   rw[List.length_map]at h2;have h1:has.length<=M3.length:=h1;omega
  have T3:aL=[]:=List.length_eq_zero_iff.1 XQ;subst T3;have w:=a4.w ⟨0,0,0,0,0,0,0⟩ 0;simp(disch:=try exact Y)only[Wz];refine HG a4 (z:=1) oh (λt r p hp=>?_) (λt r hn=>A.hy t r hn) _ ?_
  .obtain⟨p1,p2⟩:=p;rcases A.only t r _ hp with e|e
   .have e:p1=1:=e;subst e;rw[A.hx t r p2 hp]
   .have e:p1=yE E:=e;subst e;have h0:=A.py t r p2 hp;exact absurd h0.symm ((w.BS t r).1 _ hp).1
  intro y cap h5 qe;rw[hl];simp(disch:=try exact Y)only[Wz];exact hk _ (kU.trans qe)
theorem FK.nm{a:TA}{h h':af}(f:FK a h h'){b:Nat}{vs:List Value}{o:Bool}(hb:b<h.nx)(g:h.bl.get b=some (ai vs 28 o)):h'.bl.get b=some (ai vs 28 o):=
 (f.ty b vs _ o hb g (by unfold o_;cases o<;>decide) (by unfold nj;cases o<;>decide) (by unfold CTy;decide)).trans g
section
variable {E:EN}{h:af}{x:Int}{N:Nat}{asked has aL:List L4}{t r m:Int}{G:GT}
theorem abL(s:AI h E G N ⟨x,asked,has,aL⟩)(A:mg x (yE E) has aL G)(hx:1<=x)(hN:N<=380)(oh:iZ Ak has)(oa:iZ Ak asked)(op:iZ Ak aL)(pl:(aL.length:Int)<=E.z.most)(gQ:E.z.most<=3)(hin:(t,r)∈Ak)(hm:kn m=true)(h0:m≠0)(V:KQ)(h5:∀j h',V (.tuple ⟨[YYY 5,YYY j,.bool true]⟩) h')(h1:∀(j:Nat) h' G' N' asked' iI gZ,AI h' E G' N' ⟨x,asked',iI,gZ⟩->mg x (yE E) iI gZ G'->FK E.a h h'->iZ Ak iI->iZ Ak asked'->iZ Ak gZ->(gZ.length:Int)<=E.z.most->N'<=N+7->(ck (aO has) t r (bA (aO asked t r) m)=[]->j=1)->3*(ck (aO has) t r (bA (aO asked t r) m)).length<=j->
   lY (aO iI) t r (bA (aO asked t r) m)=true->V (.tuple ⟨[YYY 1,YYY (j:Int),.bool true]⟩) h'):aj prog 23 [pt E.z.ab,.agg ⟨[YYY 1,YYY 0,YYY t,YYY r,YYY m,YYY 0]⟩] h V:=by
 have lv:bf t r≠-1:=(JF _ hin).1;have ha:∀a∈gu t r,a∈Ak:=(JF _ hin).2;have agm:Ak.length=13:=rfl;have lh:=oh.len;have la:=oa.len;have lp:=op.len;obtain⟨q0,q1,_⟩:=jm (oa.Hs t r) hm h0;obtain⟨pk1,pk2,_⟩:=uq (f:=aO has) oh.Hs lv q1 q0;have oa':iZ Ak (cV asked ⟨x,t,r,bA (aO asked t r) m⟩):=oa.put ⟨lv,q1,q0⟩ hin;refine HD (M:=Ak) s A hx hN J0 oh op pl XQ XQ hm h0 lv hin ha (oa.Hs _ _) V ?_ ?_
 .intro hP h' a' f';have e1:((1:Nat):Int)=1:=rfl;refine h1 1 h' G N _ _ _ a' A f' oh oa' op pl XQ (λ_=>rfl) (by rw[hP];exact Nat.zero_le _) ?_;exact HB oh lv q1 q0 (λ_=>rfl) (λp hp=>by rw[hP]at hp;cases hp)
 .intro hP;rintro i code h' i1 i59 ⟨iI,gZ,asked',N',G',a',A',f',hN',oh',op',kW,hb,hc⟩;have hb:i+1+3*gZ.length<=1+3*(ck (aO has) t r (bA (aO asked t r) m)).length+3*aL.length\/(ck (aO has) t r (bA (aO asked t r) m)).length=0:=hb;have hP0:(ck (aO has) t r (bA (aO asked t r) m)).length≠0:=λe=>hP (List.length_eq_zero_iff.1 e);have hN':3*N'<=3*N+i+2:=hN';rcases hc with⟨rfl,rfl,h3,cv⟩|⟨rfl,_⟩
  .exact h1 i h' G' N' _ _ _ a' A' f' oh' oa' op' kW XQ (λe=>absurd e hP) h3 (HB oh lv q1 q0 (λe=>absurd e hP) cv)
  .exact h5 _ _
end
structure NB(h0:af)(E:EN)(x:Int)(B:Nat)(h1:af):Prop where
 ex:∃has asked aL G N,AI h1 E G N ⟨x,asked,has,aL⟩/\mg x (yE E) has aL G/\Le h0 h1/\iZ Ak has/\iZ Ak asked/\iZ Ak aL/\(aL.length:Int)<=E.z.most/\N<=B
theorem abM{h0:af}(ro:v_ h0){E:EN}(gQ:E.z.most<=3){L:List N2}{va:Value}(B5:Sl eP h0 va L){i:Nat}{w:N2}(hw:L[i]? = some w)(hi:i<10){x:Int}(hx:1<=x){B:Nat}(hB:B<=380){cr ee:List Value}(JH:ah cr 120=va)(W2:ah ee 79=YYY (i:Int)){h:af}(s:NB h0 E x B h)(V8:List Value->af->Prop)(v20 v21:Value)(V:KQ)(ht:∀h',V (.bool true) h')(hk:∀l h',ah l 79=YYY (((i+1:Nat):Nat):Int)->NB h0 E x (B+7) h'->V8 l h'):Iz cr ee (pt E.z.ab) V8 v20 v21 h V:=by
 obtain⟨has,asked,aL,G,N,s,A,le,oh,oa,op,pl,hN⟩:=s;obtain⟨b,o,hb,Mx,hr⟩:=ldN B5 i hw;have sva:ki 8 va va=true:=by
  obtain⟨vx',Jl,ev',hx'⟩:=(show Sl eP h0 va L from B5)
  obtain⟨b',o',e',_⟩:=hx' (by intro e;rw[e]at hw;cases hw);rw[ev',e'];exact gO _ _ _ _
 have rd:∀h',Le h0 h'->(∀(β:Type)(fl:β)(V:Value->β),uv fl (h'.bl.get b) o V=V (YYY w.1))/\(∀(β:Type)(fl:β)(V:Value->β),uv fl (h'.bl.get b) (o+1) V=V (YYY w.2)):=λh' le=>by
  rw[le.get b hb];exact⟨λβ fl V=>hr.2.1 β fl V,λβ fl V=>hr.2.2 β fl V⟩
 have ln:=qq w.1 (show(1:Int)<=13 by decide);have lm:=qq w.2 (show(1:Int)<=6 by decide);have hin:=abD ln.1 ln.2;have hkn:kn (1+jt w.2 6)=true/\1+jt w.2 6≠0:=by
  refine⟨?_,XQ⟩;unfold kn;simp;omega
 have hlo:=s.lo;have agm:Ak.length=13:=rfl;have lh:=oh.len;have la:=oa.len;obtain⟨r1,r2⟩:=rd h le;simp(disch:=try exact Y)only[Wz,Iz,JH,W2,Mx,r1,r2];obtain⟨hA,bh,aU,g32,eE,eG⟩:=nP h (ai [YYY 0,YYY 0] 28 false);rw[<-bh]
 try rw[show(h.bl.bq (h.nx) (ai [YYY 0,YYY 0] 28 false))=hA.bl by rw[bh]]
 clear bh;refine Vk w.1 hA _ XQ ?_;intro h2 bF;have n2:=bF.nx;have l2:=bF.lo;obtain⟨r3,r4⟩:=rd h2 (le.trans (aU.trans bF));have g2:=(bF.get _ (show h.nx<hA.nx by omega)).trans g32;generalize htr:WY (jt w.1 13)=tr at hin ⊢;obtain⟨t,r⟩:=tr;generalize VA:1+jt w.2 6=m at hkn;simp(disch:=try exact Y)only[Wz,JH,W2,Mx,r3,r4,sva];refine Vj w.2 ?_;rw[VA];have cT:Le h ⟨h2.nx,h2.bl.bq h.nx (ai [YYY t,YYY r] 28 false),h2.lo⟩:=(aU.trans bF).set (Nat.le_refl _) _;have g3:(h2.bl.bq h.nx (ai [YYY t,YYY r] 28 false)).get h.nx=some (ai [YYY t,YYY r] 28 false):=T.au _ _ _;simp(disch:=try exact Y)only[Wz,cQ,g2];obtain⟨h3,e3⟩:∃h3:af,h3=⟨h2.nx,h2.bl.bq h.nx (ai [YYY t,YYY r] 28 false),h2.lo⟩:=⟨_,rfl⟩
 have g3:h3.bl.get h.nx=some (ai [YYY t,YYY r] 28 false):=by rw[e3];exact g3
 have n3:h.nx<h3.nx:=by rw[e3];show h.nx<h2.nx;omega
 rw[<-e3]at cT ⊢;clear e3;have l3:=cT.lo;have s3:=s.le cT;have lv:bf t r≠-1:=(JF _ hin).1;obtain⟨q0,q1,_⟩:=jm (oa.Hs t r) hkn.1 hkn.2;obtain⟨pk1,pk2,_⟩:=uq (f:=aO has) oh.Hs lv q1 q0;refine R7 s3 (by show asked.length<=1000;omega) _ ?_;intro v39 h4 o4 kU;have amO:=kU.nx;have amP:=kU.lo;have g3:=(kU.get _ XQ).trans g3;simp(disch:=try exact Y)only[Wz,g3];refine uu asked t r h4 v39 _ o4.sl XQ XQ ?_;intro h5 qe;have amQ:=qe.nx;have amR:=qe.lo;have g3:=(qe.get _ XQ).trans g3;refine IU _ _ ?_;simp(disch:=try exact Y)only[Wz,g3];refine JD (s3.le (kU.trans qe)) (by show has.length<=1000;omega) _ ?_;intro v45 h6 o6 zy;have amS:=zy.nx;have amT:=zy.lo;have g3:=(zy.get _ XQ).trans g3;simp(disch:=try exact Y)only[Wz,g3];refine Vn has t r (bA (aO asked t r) m) h6 v45 _ o6.sl XQ XQ ?_;intro v46 h7 sp _ SD;have amU:=SD.nx;have amV:=SD.lo;have g3:=(SD.get _ XQ).trans g3;simp(disch:=try exact Y)only[Wz,g3];refine z_ t r m h7 _ XQ ?_;intro h8 le8;have amW:=le8.nx;have amX:=le8.lo;have g3:=(le8.get _ XQ).trans g3;have agn:=(((kU.trans qe).trans zy).trans SD).trans le8;refine abL (s3.le agn) A hx XQ oh oa op pl gQ hin hkn.1 hkn.2 _ ?_ ?_
 .intro j h';simp(disch:=try exact Y)only[Wz];exact ht h'
 ·intro j h9 G' N' asked' iI gZ a9 A9 f9 oh9 oa9 op9 pl9 hN9 hj1 hj3 himp;have g9:=f9.nm XQ g3;have n9:=f9.nx;have l9:=f9.lo;have lh9:=oh9.len;have ago:Le h0 h9:=ro.fk (le.trans (cT.trans agn)) f9;have hj:((ck (aO has) t r (bA (aO asked t r) m)).length=0/\j=1)\/(ck (aO has) t r (bA (aO asked t r) m)).length≠0:=by
   by_cases e:ck (aO has) t r (bA (aO asked t r) m)=[]
   .exact .inl ⟨by rw[e];rfl,hj1 e⟩
   .exact .inr λe'=>e (List.length_eq_zero_iff.1 e')
  generalize hPl:(ck (aO has) t r (bA (aO asked t r) m)).length=P at hj hj3 pk2;have W3:∀(β:Type)(fl:β)(h':af)(V:UV β),bG fl v46 h' V=V (YYY (P:Int)) h':=λβ fl h' V=>by rw[<-hPl];exact sp.len V h'
  have agp:∀(β:Type)(fl:β)(h':af)(V:UV β),aF fl prog .mul 3 true false (YYY 3) (YYY (P:Int)) h' V=V (YYY (3*(P:Int))) h':=λβ fl h' V=>by
   simp(disch:=try exact Y)only[Wz]
  rcases hj with⟨hP0,rfl⟩|hP0
  .subst hP0;have e11:((1:Nat):Int)=1:=rfl;have e00:((0:Nat):Int)=0:=rfl;simp(disch:=try exact Y)only[Wz,e11,Ix,W3,agp,e00,g9];refine JD a9 (by show iI.length<=1000;omega) _ ?_;intro Kq h10 Mk Ab;have abN:=Ab.nx;have abO:=Ab.lo;have g9:=(Ab.get _ XQ).trans g9;simp(disch:=try exact Y)only[Wz,g9];refine sC iI t r (bA (aO asked t r) m) h10 Kq _ Mk.sl XQ XQ ?_;intro h11 Sh;rw[himp];simp(disch:=try exact Y)only[Wz,W2];exact hk _ _ (by rfl) ⟨iI,asked',gZ,G',N',(a9.le Ab).le Sh,A9,(ago.trans Ab).trans Sh,oh9,oa9,op9,pl9,XQ⟩
  .have hPi:¬(P:Int)=0:=by omega
   simp(disch:=try exact Y)only[Wz,Ix,W3,agp,g9,aZ hPi,dF (show 3*(P:Int)<=(j:Int)by omega)];refine JD a9 (by show iI.length<=1000;omega) _ ?_;intro Kq h10 Mk Ab;have abN:=Ab.nx;have abO:=Ab.lo;have g9:=(Ab.get _ XQ).trans g9;simp(disch:=try exact Y)only[Wz,g9];refine sC iI t r (bA (aO asked t r) m) h10 Kq _ Mk.sl XQ XQ ?_;intro h11 Sh;rw[himp];simp(disch:=try exact Y)only[Wz,W2];exact hk _ _ (by rfl) ⟨iI,asked',gZ,G',N',(a9.le Ab).le Sh,A9,(ago.trans Ab).trans Sh,oh9,oa9,op9,pl9,XQ⟩
theorem abP{h0:af}(ro:v_ h0){E:EN}(gQ:0<=E.z.most/\E.z.most<=3){k:Nat}{B:Nat}(hB:B<=380){cr ee:List Value}(Si:ah cr 123=YYY (k:Int))(hk2:k<2){h:af}(s:NB h0 E ((k+1:Nat):Int) B h)(Mg:List Value->af->Prop)(v17 v20 v21 a2:Value)(V:KQ)(hk:∀l h',ah l 123=YYY (((k+1:Nat):Nat):Int)->ah l 120=a2->NB h0 E ((k+1+1:Nat):Int) (B+20) h'->Mg l h'):IA (pt E.z.ab) (YYQ E.A.wb) cr Mg v17 ee v20 v21 a2 h V:=by
 obtain⟨has,asked,aL,G,N,s,A,le,oh,oa,op,pl,hN⟩:=s;have agm:Ak.length=13:=rfl;have la:=oa.len;simp(disch:=try exact Y)only[Wz,IA];refine Sf (M:=Ak) s A XQ XQ J0 oh op pl gQ XQ 0 0 0 _ ?_;rintro i code h1 i1 i59 ⟨rfl,LG,G1,N1,a1,pg,hN1,f1⟩;have hN1:3*N1<=3*N+i+2:=hN1;have lp:LG.length<=Ak.length:=pg.p.len;have uz:=a1.th;simp(disch:=try exact Y)only[Wz];refine abv a1 _ ?_;simp(disch:=try exact Y)only[Wz];refine HG a1 pg.p pg.all pg.py _ ?_;intro y cap h2 bF;have a2':=a1.le bF;simp(disch:=try exact Y)only[Wz];refine Vc a2' (by show LG.length<=1000;omega) _ ?_;intro v3 h3 o3 cT;have agq:=o3.sl.len (β:=Prop) (fl:=False);have a3:=a2'.le cT;simp(disch:=try exact Y)only[Wz,agq,Si];have ex:(((k+1+1:Nat):Nat):Int)=(k:Int)+2:=by omega
 refine BT a3 rfl ((k:Int)+2) XQ _ ?_;intro h4 a4 f4;have A4:mg ((k:Int)+2) (yE E) [] LG G1:=by
  refine⟨λt r p hp=>.inr (by rw[pg.all t r p hp]),λt r m' hp=>?_,λt r h=>absurd rfl h,λt r m' hp=>?_⟩
  .have:=congrArg Prod.fst (pg.all t r _ hp);have:(k:Int)+2 = -1-E.z.th:=this;omega
  .exact(congrArg Prod.snd (pg.all t r _ hp)).symm
 simp(disch:=try exact Y)only[Wz];refine hk _ h4 (by rfl) (by rfl) ?_;rw[ex];exact⟨[],[],LG,G1,N1,a4,A4,ro.fk ((ro.fk le f1).trans (bF.trans cT)) f4,iZ.nil _,iZ.nil _,pg.p,pg.le,XQ⟩
theorem JI(aL:Int)(L1 L2:List N2)(h:af)(v1 v2:Value)(Sn:Sl eP h v1 L1)(ND:Sl eP h v2 L2)(hlo:h.lo<=h.nx)(ro:v_ h)(V:KQ)(hk:∀h',V (.bool true) h'):aj prog 5 [YYY aL,v1,v2] h V:=by
 have LA:∀(β:Type)(fl:β)(h':af)(V:UV β),bG fl v1 h' V=V (YYY (L1.length:Int)) h':=λβ fl h' V=>Sn.len V h';have Qk:∀(β:Type)(fl:β)(h':af)(V:UV β),bG fl v2 h' V=V (YYY (L2.length:Int)) h':=λβ fl h' V=>ND.len V h';apply YYZ;rw[aiE];refine Sg h hlo ro _ ?_;intro h1 bN;have n1:=bN.nx;have l1:=bN.lo;by_cases hL1:10<L1.length
 .simp(disch:=try exact Y)only[Wz,CM,LA,fm (show(10:Int)<(L1.length:Int)by omega)];exact hk _
 by_cases hL2:10<L2.length
 .simp(disch:=try exact Y)only[Wz,CM,LA,Qk,dF (show(L1.length:Int)<=10 by omega),fm (show(10:Int)<(L2.length:Int)by omega)];exact hk _
 simp(disch:=try exact Y)only[Wz,CM,LA,Qk,dF (show(L1.length:Int)<=10 by omega),dF (show(L2.length:Int)<=10 by omega)];have hp:=qq aL (show(1:Int)<=4 by decide);refine IZ aL 4 J0 ?_;generalize jt aL 4=pl at hp;refine HA pl hp.1 XQ h1 XQ _ ?_;intro h2 E s2 em f2;have gQ:0<=E.z.most/\E.z.most<=3:=by omega
 simp(disch:=try exact Y)only[Wz];have A0:mg 1 (yE E) [] [] (λ_ _=>[]):=⟨λt r p hp=>(by cases hp),λt r m hp=>(by cases hp),λt r hp=>absurd rfl hp,λt r m hp=>(by cases hp)⟩
 refine⟨λm l h3=>∃k:Nat,ah l 123=YYY (k:Int)/\m=2-k/\k<=2/\ah l 120=(if k=0 then v1 else v2)/\NB h E ((k+1:Nat):Int) (100*k) h3,⟨_,0,rfl,rfl,Nat.zero_le _,rfl,[],[],[],_,0,s2,A0,ro.fk bN f2,iZ.nil _,iZ.nil _,iZ.nil _,gQ.1,Nat.le_refl _⟩,?_⟩;rintro m l h3 ⟨k,Si,rfl,hk2,JH,s3⟩;by_cases hlt:k<2
 ·obtain ⟨L,v,ev,hv,hL⟩:∃(L:List N2)(v:Value),(if k=0 then v1 else v2)=v/\Sl eP h v L/\L.length<=10:=by
   by_cases e:k=0
   .exact⟨L1,v1,if_pos e,Sn,XQ⟩
   .exact⟨L2,v2,if_neg e,ND,XQ⟩
  rw[ev]at JH;have W4:∀(β:Type)(fl:β)(h':af)(V:UV β),bG fl v h' V=V (YYY (L.length:Int)) h':=λβ fl h' V=>hv.len V h';simp(disch:=try exact Y)only[Wz,IC,Si,fm (show(k:Int)<2 by omega)];refine⟨λm l' h4=>∃i:Nat,ah l' 79=YYY (i:Int)/\m=L.length-i/\i<=L.length/\NB h E ((k+1:Nat):Int) (100*k+7*i) h4,⟨_,0,rfl,rfl,Nat.zero_le _,s3⟩,?_⟩;rintro m l' h4 ⟨i,W2,rfl,hi,s4⟩;by_cases hli:i<L.length
  .obtain⟨w,hw⟩:∃w,L[i]? = some w:=⟨_,List.getElem?_eq_getElem hli⟩
   simp(disch:=try exact Y)only[Wz,JH,W4,W2,fm (show(i:Int)<(L.length:Int)by omega)];refine abM ro gQ.2 hv hw XQ XQ XQ JH W2 s4 _ _ _ V hk ?_;intro l6 h6 e6 s6;exact⟨_,XQ,i+1,e6,rfl,XQ,s6⟩
  .have hi':i=L.length:=by omega
   subst hi';simp(disch:=try exact Y)only[Wz,JH,W4,W2];refine abP ro gQ XQ Si hlt s4 _ _ _ _ _ V ?_;intro l6 h6 e6 e6' s6;refine⟨_,XQ,k+1,e6,rfl,XQ,by rw[e6',if_neg (Nat.succ_ne_zero k)],?_⟩;obtain⟨a1,a2,a3,a4,a5,b1,b2,b3,b4,b5,b6,b7,b8⟩:=s6;exact⟨a1,a2,a3,a4,a5,b1,b2,b3,b4,b5,b6,b7,XQ⟩
 .have hk':k=2:=by omega
  subst hk';simp(disch:=try exact Y)only[Wz,IC,Si];exact hk _
end Go.Proofs

namespace Go.Proofs
open Go.Vai Go.Clashes Go.ChangeShapes Go.WideShapes
open Tryz (prog)
theorem laidOut:laidOutB prog=true:=by kernel_rfl
theorem decW{H:Type}{enc:TypeId × Value->H}{w:World}(n:Nat)(cs:List Value)(d:DataW H × List MemPlace)(hl:cs.length=2)(h:DataW.trod enc prog w 0 (λ_=>true) true n 70 cs=some d):∃p:N2,cs=eP p:=by
 have k0:=O4 (P:=prog) 10 70 [.i .i64,.i .i64] (by kernel_rfl) _ _ _ h;clear h;obtain⟨_,_,rfl,⟨n0,rfl,_⟩,k1⟩:=k0.O5;obtain⟨_,_,rfl,⟨n1,rfl,_⟩,k2⟩:=k1.O5;cases k2.ade;exact⟨(_,_),rfl⟩
theorem memRo(w:World):v_ (memH w):=by
 intro d;refine⟨λvs t o e=>?_,λes c e=>?_⟩
 .obtain⟨C,e',fz,_,h⟩:=qJ e;cases h
 .obtain⟨C,e',fz,_,h⟩:=qJ e;cases h
theorem lawAlone_row(x:Int)(L1 L2:List N2)(h:af)(v1 v2:Value)(s1:Sl eP h v1 L1)(c1:Cut 70 2 h v1 L1.length)(s2:Sl eP h v2 L2)(c2:Cut 70 2 h v2 L2.length)(hlo:h.lo<=h.nx)(ro:v_ h):aj prog 5 [YYY x,v1,v2] h Cv:=JI x L1 L2 h v1 v2 s1 s2 hlo ro Cv λ_=>rfl
end Go.Proofs
