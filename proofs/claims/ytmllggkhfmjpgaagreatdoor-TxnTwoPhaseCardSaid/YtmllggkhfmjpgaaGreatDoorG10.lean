/-
  PROVED HERE: a part of the proof (TX28, TX29, TX30, TX31, A22).
-/
import Derived.Test.YtmllggkhfmjpgaaGreatDoorG9
import Derived.Test.YtmllggkhfmjpgaaGreatDoorG6
import Derived.Test.YtmllggkhfmjpgaaGreatDoorG2
import Derived.Test.YtmllggkhfmjpgaaGreatDoorRows
set_option linter.unusedVariables false
set_option linter.unusedSimpArgs false
set_option maxRecDepth 100000
set_option maxHeartbeats 4000000
namespace Go.Proofs
open Go.Vai Go.Clashes
open Tryz (prog)
theorem jJ.wide{M M':List (Int × Int)}{L:List L4}(s:jJ M L)(h:∀p∈M,p∈M'):jJ M' L:=⟨s.nd,s.ok,λp hp=>h _ (s.sub p hp)⟩
theorem jJ.own{M:List (Int × Int)}{L:List L4}(s:jJ M L):jJ (L.map iK) L:=⟨s.nd,s.ok,λp hp=>List.mem_map.2 ⟨p,hp,rfl⟩⟩
theorem sg.refl(L:List L4):sg L L:=λ_ _=>Int.le_refl _
theorem aeH(o:sK)(f:Int->Int->Option Int)(L:List W4):L.length<=(Ue o f L).length:=by
 unfold Ue;split
 .simp
 .omega
structure SI(h0:Heap)(E:EN)(A:RA)(has:List L4)(L:List W4)(i:Nat)(h:Heap):Prop where
 ex:∃M ck v asked N,TC h0 E.a.ms A M ck L v h/\v.nx=none/\AI h E (aO has) (λ_ _=>1) N ⟨1,asked,has,[]⟩/\jJ (has.map iK) has/\jJ (asked.map iK) asked/\asked.length<=i/\L.length<=i/\M.length<=i/\N<=3*i
structure SO(h0:Heap)(E:EN)(A:RA)(h:Heap):Prop where
 ex:∃M ck v aX X N,TC h0 E.a.ms A M ck [] v h/\v.nx=none/\AI h E (aO aX) X N ⟨0,[],[],aX⟩
theorem OU{h0:Heap}(ro:lI h0){E:EN}{A:RA}(ea:A.ab=E.z.ab)(em:E.z.most=2){has:List L4}{L:List W4}{i:Nat}{h:Heap}(s:SI h0 E A has L i h)(hi:i<=12)(o:sK)(V:Heap->Prop)(dB:∀h' jM L',SI h0 E A jM L' (i+1) h'->sg has jM->L.length<=L'.length->AN h h'->V h')(nZ:∀h',SO h0 E A h'->AN h h'->V h'):CallW prog 39 [pt A.rb,.agg ⟨pJ o⟩] h λ_ h'=>V h':=by
 obtain⟨M,ck,v,asked,N,t,sZ,a,oh,oa,l1,l2,l3,hN⟩:=s;have cap:has.length<=16:=Ko (a.w ⟨0,0,0,0,0,0,0⟩ 0) oh;have hal:=yq o.t o.r;have ohM:jJ (has.map iK++(o.t,o.r)::nP o.t o.r) has:=oh.wide λp hp=>List.mem_append_left _ hp;have lM:(has.map iK++(o.t,o.r)::nP o.t o.r).length<=19:=by rw[List.length_append,List.length_map,List.length_cons];omega
 have k:Eb ⟨h0,E,A,1,M,ck,L,o,N,asked,JT (has.map iK++(o.t,o.r)::nP o.t o.r) has,FT (has.map iK++(o.t,o.r)::nP o.t o.r) has,λjM=>jJ (has.map iK++(o.t,o.r)::nP o.t o.r) jM/\sg has jM,has.map iK++(o.t,o.r)::nP o.t o.r⟩:=
  ⟨ro,ea,Int.le_refl 1,by show 0<=E.z.most/\E.z.most<=8;omega,by show N<=700;omega,by show asked.length<=900;omega,apO lM,λi jM p P s=>⟨by have:=s.1.le;simp only[List.length_cons]at this;omega,s.1.ok,s.2⟩,λi jM s=>s,λjM s=>s.1,lM,by show L.length<=900;omega,by show M.length<=900;omega⟩
 have hmo:kn (eX o)=true/\eX o≠0:=by unfold eX;split<;>decide
 obtain⟨q0,q1,_⟩:=ki (oa.Bq o.t o.r) hmo.1 hmo.2;refine vl k (v:=v) (has:=has) t a sZ ⟨ohM,sg.refl _⟩ oh.Bq oa.Bq (by omega) (λ_ _ _=>⟨ohM,sg.refl _⟩) ?_ _ ?_ ?_
 .intro ok Ec p P e;have lv:bf o.t o.r≠-1:=by rw[ok.2];show jq o.k≠-1;unfold jq;split<;>(try split)<;>decide
  obtain⟨pk1,pk2,pk3⟩:=Ix (f:=aO has) oh.Bq lv q1 q0;have h3:(dZ has (gU (aO has) o.t o.r (bN (aO asked o.t o.r) (eX o)))).length<=_:=wL _ _;have hs:∀y∈p::P,y∈gU (aO has) o.t o.r (bN (aO asked o.t o.r) (eX o)):=λy hy=>(List.mem_filter.1 (by rw[<-e]at hy;exact hy)).1;have e':dZ has (gU (aO has) o.t o.r (bN (aO asked o.t o.r) (eX o)))=p::P:=e;rw[e']at h3;refine⟨⟨by decide,by omega,ohM,λy hy=>pk1 y (hs y hy),λy hy=>?_⟩,sg.refl _⟩;rcases pk3 y (hs y hy)with e|e
  .rw[e];exact List.mem_append_right _ (.head _)
  .exact List.mem_append_right _ (.tail _ e)
 .intro _ h' t' a' an;exact dB h' has L ⟨M,ck,v,asked,N,t',sZ,a',oh,oa,by omega,by omega,by omega,by omega⟩ (sg.refl _) (Nat.le_refl _) an
 .intro j co vv u h' _ _ p an;rcases p with⟨Ec,M',gF,L',jM,N',nt,t',a',hs,n',dr,ok,_⟩|⟨M',gF,nt,aX,X,N',t',a',_⟩
  ·have n':N'<=N+3:=n';have ln:M'.length<=M.length+1:=dr.ln;have lg:L'=Ue o (eM M) L:=dr.lg;have g1:=Ed o (eM M) L;have g2:=aeH o (eM M) L;rw[<-lg]at g1 g2;have Ph:=Be asked ⟨1,o.t,o.r,bN (aO asked o.t o.r) (eX o)⟩;have key:∀(lv:bf o.t o.r≠-1),jJ ((o.t,o.r)::asked.map iK) (cM asked ⟨1,o.t,o.r,bN (aO asked o.t o.r) (eX o)⟩):=λlv=>(oa.wide λp hp=>.tail _ hp).put ⟨lv,q1,q0⟩ (.head _);have lv:bf o.t o.r≠-1:=by
    have:=ok.2;have k2:2<=o.k/\o.k<=6:=Ec;rw[show bf o.t o.r=jq o.k from this];unfold jq;split<;>(try split)<;>decide
   have hs:jJ (has.map iK++(o.t,o.r)::nP o.t o.r) jM/\sg has jM:=hs;refine dB h' jM L' ⟨M',gF,_,_,N',t',rfl,a',hs.1.own,(key lv).own,?_,by omega,by omega,by omega⟩ hs.2 (by omega) an
   show(cM asked ⟨1,o.t,o.r,bN (aO asked o.t o.r) (eX o)⟩).length<=i+1
   omega
  .exact nZ h' ⟨M',gF,_,aX,X,N',t',rfl,a'⟩ an
def Xk(p:L4)(L:List L4):Bool:=L.any λq=>decide (q.t=p.t/\q.r=p.r) && decide (p.m<=q.m)
theorem Bl(p:L4)(L:List L4){k:Nat}{q:L4}(hq:L[k]? = some q):Xk p (L.take (k+1))=(Xk p (L.take k) || (decide (q.t=p.t/\q.r=p.r) && decide (p.m<=q.m))):=by
 unfold Xk;rw[List.take_add_one,hq,List.any_append];simp
theorem aeI{M M':List (Int × Int)}{has jM:List L4}(oh:jJ M has)(oh':jJ M' jM)(m:sg has jM){p:L4}(hp:p∈has):Xk p jM=true:=by
 have h1:=m p.t p.r;rw[oh.mode hp]at h1;have hk:=(oh.ok p hp).2;have hpos:1<=p.m:=by
  obtain⟨i,hi,e⟩:=iY hk.1;have:=hk.2;omega
 obtain⟨q,hq,e1,e2,e3⟩:=wN (L:=jM) (t:=p.t) (r:=p.r) (by omega);unfold Xk;rw[List.any_eq_true];refine⟨q,hq,?_⟩;rw[decide_eq_true (And.intro e1 e2),decide_eq_true (by omega)];rfl
theorem OV{h:Heap}{hv v17:Value}{had has:List L4}(s1:jt h hv had)(s2:jt h v17 has){k:Nat}{p:L4}(hp:had[k]? = some p)(dM eT:List Value)(e81:slot dM 81=hv)(e44:slot eT 44=.int .i64 (k:Int))(hk:k<1000)(hl:has.length<=1000)(hin:Xk p has=true)(QB:List Value->Heap->Prop)(v33 eU:Value)(V:KQ)(init:List Value)(i31:slot init 31=.bool false)(i34:slot init 34=.int .i64 0)(hN:∀l',slot l' 44=.int .i64 ((k:Int)+1)->QB l' h):dU init h λmJ h ZG=>Dz v17 mJ dM eT ZG QB v33 eU h V:=by
 have hlen:=λ(β:Type)(fl:β)=>s2.1.len (β:=β) (fl:=fl);refine⟨λm l h1=>∃n:Nat,slot l 34=.int .i64 (n:Int)/\slot l 31=.bool (Xk p (has.take n))/\m=has.length-n/\n<=has.length/\HQ h h1,⟨_,0,i34,i31,rfl,Nat.zero_le _,rfl⟩,?_⟩;rintro m l h1 ⟨n,e34,e31,rfl,hn,hq⟩;cases(show h=h1 from hq);by_cases hlt:n<has.length
 .obtain⟨q,hqn⟩:∃q,has[n]? = some q:=⟨_,List.getElem?_eq_getElem hlt⟩
  obtain⟨b1,o1,_,hx1,Pp,aj4,_,_,_,apQ⟩:=ldP s1.1 k hp;obtain⟨b2,o2,_,hx2,M5,aj5,_,_,_,apR⟩:=ldP s2.1 n hqn;simp(disch:=try exact Y)only[Wz,Dz,hlen,e34,fV (show(n:Int)<(has.length:Int)by omega),Qz,e31];cases hb:Xk p (has.take n)with
  |true=>
   simp(disch:=try exact Y)only[Wz,e34];exact⟨_,by omega,n+1,by rfl,by rw[Bl p has hqn,hb];rfl,rfl,by omega,rfl⟩
  |false=>
   by_cases hnm:q.t=p.t/\q.r=p.r
   .simp(disch:=try exact Y)only[Wz,e34,e81,e44,hx1,hx2,aj4,aj5,apQ,apR,rS,decide_eq_true hnm];exact⟨_,by omega,n+1,by rfl,by rw[Bl p has hqn,hb,decide_eq_true hnm,<-JU];rfl,rfl,by omega,rfl⟩
   .simp(disch:=try exact Y)only[Wz,e34,e81,e44,hx1,hx2,aj4,aj5,rS,decide_eq_false hnm];exact⟨_,by omega,n+1,by rfl,by rw[Bl p has hqn,hb,decide_eq_false hnm];rfl,rfl,by omega,rfl⟩
 .have hn':n=has.length:=by omega
  subst hn';rw[List.take_length]at e31;rw[hin]at e31;simp(disch:=try exact Y)only[Wz,Dz,hlen,e34,e31,e44];exact hN _ rfl
theorem OW{h:Heap}{hv v17:Value}{had has:List L4}(s1:jt h hv had)(s2:jt h v17 has)(hl0:had.length<=900)(hl:has.length<=900)(hin:∀p∈had,Xk p has=true)(dM:List Value)(e81:slot dM 81=hv)(v5 a0 v11 v12 bA bC bF v16 bU v19:Value)(N9:List Value->Heap->Prop)(V:KQ)(hend:∀eT v33 eU,Jn v5 dM N9 a0 v11 v12 bA bC bF v16 v17 bU v19 eT v33 eU h V):Jo dM v17 v5 N9 a0 v11 v12 bA bC bF v16 bU v19 h V:=by
 have hlen:=λ(β:Type)(fl:β)=>s1.1.len (β:=β) (fl:=fl);unfold Jo;refine⟨λm l h1=>∃k:Nat,slot l 44=.int .i64 (k:Int)/\m=had.length-k/\k<=had.length/\HQ h h1,⟨_,0,rfl,rfl,Nat.zero_le _,rfl⟩,?_⟩;rintro m l h1 ⟨k,e44,rfl,hk,hq⟩;cases(show h=h1 from hq);by_cases hlt:k<had.length
 .obtain⟨p,hp⟩:∃p,had[k]? = some p:=⟨_,List.getElem?_eq_getElem hlt⟩
  simp(disch:=try exact Y)only[Wz,e81,hlen,e44,fV (show(k:Int)<(had.length:Int)by omega)];refine OV s1 s2 hp dM l e81 e44 (by omega) (by omega) (hin p (List.mem_of_getElem? hp)) _ _ _ V _ rfl rfl ?_;intro l' e;exact⟨_,by omega,k+1,e,rfl,by omega,rfl⟩
 .have hk':k=had.length:=by omega
  subst hk';simp(disch:=try exact Y)only[Wz,e81,hlen,e44];exact hend _ _ _
structure LI(h0:Heap)(E:EN)(A:RA)(i:Nat)(l:List Value)(h:Heap):Prop where
 e85:slot l 85=.int .i64 (i:Int)
 ex:∃has L,SI h0 E A has L i h/\jt h (slot l 81) has/\slot l 82=.int .i64 (L.length:Int)
theorem OX{h0:Heap}(ro:lI h0){E:EN}{A:RA}(ea:A.ab=E.z.ab)(em:E.z.most=2){va:Value}{Ls:List sK}(vE:Sl pJ h0 va Ls){i:Nat}{o:sK}(ho:Ls[i]? = some o)(hi:i<12){dM:List Value}{h:Heap}(s:LI h0 E A i dM h)(N9:List Value->Heap->Prop)(v11 v12:Value)(V:KQ)(hk:∀h',V (.bool true) h')(hN:∀l' h',LI h0 E A (i+1) l' h'->N9 l' h'):Jp va dM (pt A.rb) N9 v11 v12 h V:=by
 obtain⟨e85,has,L,si,sh,e82⟩:=s;obtain⟨b,oo,hb,hx,hr,_⟩:=vE.ld encO_len i ho;have leh:Le h0 h:=by obtain⟨M,ck,v,asked,N,t,_⟩:=si;exact t.le
 rw[<-leh.get b hb]at hr;simp(disch:=try exact Y)only[Wz,Jp,e85,hx,hr];refine CallW.mono (OU ro ea em si (by omega) o (λh'=>(∃jM L',SI h0 E A jM L' (i+1) h'/\sg has jM/\L.length<=L'.length/\AN h h')\/SO h0 E A h') (λh' jM L' a b c d=>.inl ⟨jM,L',a,b,c,d⟩) λh' a _=>.inr a) ?_;rintro w h1 (⟨jM,L',si1,mo,lg,an⟩|so)
 .obtain⟨M,ck,v,asked,N,t,sZ,a,oh,oa,l1,l2,l3,hN'⟩:=si1;refine tN t _ ?_;rw[sZ];have cap:jM.length<=16:=Ko (a.w ⟨0,0,0,0,0,0,0⟩ 0) oh;simp(disch:=try exact Y)only[Wz,Option.isSome_none];have oh0:jJ (has.map iK) has:=by obtain⟨_,_,_,_,_,_,_,_,oh0,_⟩:=si;exact oh0
  have avI:has.length<=16:=by obtain⟨_,_,_,_,_,_,_,a0,oh0,_⟩:=si;exact Ko (a0.w ⟨0,0,0,0,0,0,0⟩ 0) oh0
  refine Ki t a ea (show jM.length<=1000 by omega) _ ?_;intro v17 h2 o2 bt;refine Kh (t.keep bt) (a.le bt) ea _ ?_;have YE:jt h1 (slot dM 81) has:=sh.keep an.nx λc vs op hc hg=>(an.hd c vs op hc hg).trans hg.symm;simp(disch:=try exact Y)only[Wz,aZ (show(1:Int)≠0 by decide)];refine OW (YE.le bt) (show jt h2 v17 jM from jt.own o2) (by omega) (by omega) (λp hp=>aeI oh0 oh mo hp) _ rfl _ _ _ _ _ _ _ _ _ _ _ _ ?_;intro eT v33 eU;have t2:=t.keep bt;have a2:=a.le bt;simp(disch:=try exact Y)only[Wz,Jn];refine Bj t2 (by omega) _ ?_;intro v3 h3 o3 dg;have TK:=λ(β:Type)(fl:β)=>o3.sl.len (β:=β) (fl:=fl);simp(disch:=try exact Y)only[Wz,TK,e82,dL (show(L.length:Int)<=(L'.length:Int)by omega)];refine Bj (t2.keep dg) (by omega) _ ?_;intro v4 h4 o4 iS;have aj8:=λ(β:Type)(fl:β)=>o4.sl.len (β:=β) (fl:=fl);simp(disch:=try exact Y)only[Wz,aj8,e85];exact hN _ _ ⟨rfl,jM,L',⟨M,ck,v,asked,N,(t2.keep dg).keep iS,sZ,(a2.le dg).le iS,oh,oa,l1,l2,l3,hN'⟩,((show jt h2 v17 jM from jt.own o2).le dg).le iS,rfl⟩
 .obtain⟨M,ck,v,aX,X,N,t,sZ,a⟩:=so;refine tN t _ ?_;rw[sZ];simp(disch:=try exact Y)only[Wz,Option.isSome_none];refine Ki t a ea (Nat.zero_le _) _ ?_;intro v17 h2 o2 bt;have hlen:=o2.sl.len (β:=Prop) (fl:=False);refine Kh (t.keep bt) (a.le bt) ea _ ?_;simp(disch:=try exact Y)only[Wz,QE,hlen,List.length_nil];refine Bj (t.keep bt) (Nat.zero_le _) _ ?_;intro v3 h3 o3 dg;have TK:=o3.sl.len (β:=Prop) (fl:=False);simp(disch:=try exact Y)only[Wz,TK,List.length_nil];exact hk h3
theorem TL(L:List sK)(h:Heap)(va:Value)(vE:Sl pJ h va L)(hlo:h.lo<=h.nx)(ro:lI h)(V:KQ)(hk:∀h',V (.bool true) h'):CallW prog 6 [va] h V:=by
 have hlen:=λ(h':Heap)(β:Type)(fl:β)=>vE.len (β:=β) (fl:=fl);refine av mixed ?_;rw[amc];refine OT ro h (Le.refl h) hlo _ ?_;intro h1 bG;have YD:h1.lo<=h1.nx:=by have:=bG.lo;have:=bG.nx;omega
 by_cases h12:12<L.length
 .simp(disch:=try exact Y)only[Wz,vE.len,fV (show(12:Int)<(L.length:Int)by omega)];exact hk h1
 .simp(disch:=try exact Y)only[Wz,vE.len,dL (show(L.length:Int)<=12 by omega),QI];refine CV ro h1 bG YD _ ?_;intro h2 E A t a ea em;simp(disch:=try exact Y)only[Wz,jG,QH];refine Ki t a ea (Nat.zero_le _) _ ?_;intro v8 h3 o3 dg;have t3:=t.keep dg;have a3:=a.le dg;refine⟨λm l h'=>∃i:Nat,m=L.length-i/\i<=L.length/\LI h E A i l h',⟨_,0,rfl,Nat.zero_le _,rfl,[],[],⟨[],0,rv0,[],0,t3,rfl,a3,⟨by simp,by simp,by simp⟩,⟨by simp,by simp,by simp⟩,by simp,by simp,by simp,by simp⟩,jt.own o3,rfl⟩,?_⟩;rintro m l h4 ⟨i,rfl,hi,s⟩;by_cases hlt:i<L.length
  .obtain⟨o,ho⟩:∃o,L[i]? = some o:=⟨_,List.getElem?_eq_getElem hlt⟩
   simp(disch:=try exact Y)only[Wz,vE.len,s.e85,fV (show(i:Int)<(L.length:Int)by omega)];refine OX ro ea em vE ho (by omega) s _ _ _ V hk ?_;intro l' h' s';exact⟨_,by omega,i+1,rfl,by omega,s'⟩
  .have hi':i=L.length:=by omega
   subst hi';simp(disch:=try exact Y)only[Wz,vE.len,s.e85];exact hk h4
end Go.Proofs

namespace Go.Proofs
open Go.Vai Go.Clashes Go.ChangeShapes Go.WideShapes
open Tryz (prog)
theorem laidOut:laidOutB prog=true:=by kernel_rfl
theorem decO{H:Type}{enc:TypeId × Value->H}{w:World}(n:Nat)(cs:List Value)(d:DataW H × List MemPlace)(hl:cs.length=6)(h:DataW.trod enc prog w 0 (λ_=>true) true n 92 cs=some d):∃p:sK,cs=pJ p:=by
 have k0:=Qg (P:=prog) 10 92 [.i .i64,.i .i64,.i .i64,.i .i64,.i .i64,.i .i64] (by kernel_rfl) _ _ _ h;clear h;obtain⟨_,_,rfl,⟨n0,rfl,_⟩,k1⟩:=k0.vZ;obtain⟨_,_,rfl,⟨n1,rfl,_⟩,k2⟩:=k1.vZ;obtain⟨_,_,rfl,⟨n2,rfl,_⟩,k3⟩:=k2.vZ;obtain⟨_,_,rfl,⟨n3,rfl,_⟩,k4⟩:=k3.vZ;obtain⟨_,_,rfl,⟨n4,rfl,_⟩,k5⟩:=k4.vZ;obtain⟨_,_,rfl,⟨n5,rfl,_⟩,k6⟩:=k5.vZ;cases k6.af5;exact⟨⟨_,_,_,_,_,_⟩,rfl⟩
theorem memRo(w:World):lI (memH w):=by
 intro d;refine⟨λvs t o e=>?_,λes c e=>?_⟩
 .obtain⟨C,e',fz,_,h⟩:=rL e;cases h
 .obtain⟨C,e',fz,_,h⟩:=rL e;cases h
theorem lawTwo_row(L:List sK)(h:Heap)(va:Value)(vE:Sl pJ h va L)(ca:Cut 92 6 h va L.length)(hlo:h.lo<=h.nx)(ro:lI h):CallW prog 6 [va] h Dp:=TL L h va vE hlo ro Dp λ_=>rfl
end Go.Proofs
