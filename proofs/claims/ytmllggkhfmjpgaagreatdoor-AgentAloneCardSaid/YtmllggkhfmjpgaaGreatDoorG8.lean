/-
  PROVED HERE: a part of the proof (M3, M4, M5, M6, M7, M8, MW, BG3, BG4, BG5, BG6, BG7, BG8, BP1, BP2, BR1).
-/
import Derived.Test.YtmllggkhfmjpgaaGreatDoorG7
import Derived.Test.YtmllggkhfmjpgaaGreatDoorRZ
set_option linter.unusedVariables false
set_option linter.unusedSimpArgs false
set_option maxRecDepth 100000
set_option maxHeartbeats 4000000
namespace Go.Proofs
open Go.Vai Go.Clashes
open Tryz (prog)
section
variable {h:af}{tb bw bp bl:Nat}{c:gr}{vb:Value}{aY N:Nat}{Ts:List TB}{W:List IE}{wc:Nat}{F:List Int}{B:List Bool}{G:Int->Int->List (Int × Int)}
theorem zV(s:kg h tb bw bp bl c vb aY N Ts W wc F B)(L:Mul Ts G)(hlo:h.lo<=h.nx)(t r x:Int)(V:KQ)(k_:(∀p∈G t r,p.1≠x)->∀h',Le h h'->V (.tuple ⟨[YYY 0,.bool false]⟩) h')(dB:∀h' (k:Nat) (b:TB) (e:HE) (i:Nat) (q:R5),Ts[k]? = some b->ef t r c.S=(k:Int)->e∈b.M->e.t=t->e.r=r->e.Q[i]? = some q->q.x=x->Le h h'->V (.tuple ⟨[YYY q.id,.bool true]⟩) h'):aj prog 297 [YYQ tb,cQ t r,YYY x] h V:=by
 refine Ru s hlo t r x _ ?_;intro h' id b fi le;by_cases hx:∀p∈G t r,p.1≠x
 .rcases fi with⟨_,rfl,rfl⟩|⟨k,M,hM,hst,⟨rfl,e,he,ht,hr,p,hp,hpx,_⟩|⟨rfl,rfl,_⟩⟩
  .exact k_ hx h' le
  .rw[List.getElem?_map]at hM;cases hb:Ts[k]? with
   |none=>rw[hb]at hM;cases hM
   |some b0=>
    rw[hb]at hM;cases hM;obtain⟨_,h2⟩:=L.NK s hb he ht.symm hr.symm;exact absurd hpx (hx (nq p) (by rw[<-h2];exact List.mem_map.2 ⟨p,hp,rfl⟩))
  .exact k_ hx h' le
 ·obtain ⟨p,hp,hpx⟩:∃p∈G t r,p.1=x:=by
   refine Classical.byContradiction λhn=>hx λp hp e=>hn ⟨p,hp,e⟩
  obtain⟨k0,b0,e0,hb0,akY,Um,ht0,D6,_,hQ0⟩:=L.at s (t:=t) (r:=r) (by intro e;rw[e]at hp;cases hp);rw[<-hQ0]at hp;obtain⟨q0,hq0,rfl⟩:=List.mem_map.1 hp;rcases fi with⟨h1,_⟩|⟨k,M,hM,hst,fi⟩
  .omega
  .obtain rfl:k=k0:=by omega
   rw[List.getElem?_map,hb0]at hM;cases hM;rcases fi with⟨rfl,e,he,ht,hr,p,hp',akZ,rfl⟩|⟨_,_,hn⟩
   .obtain⟨i,hi⟩:=List.mem_iff_getElem?.1 hp';exact dB h' k b0 e i p hb0 akY he ht.symm hr.symm hi akZ le
   .exact absurd hpx (hn e0 Um ht0.symm D6.symm q0 hq0)
theorem WT(s:kg h tb bw bp bl c vb aY N Ts W wc F B){b:TB}(hb:b∈Ts){e:HE}(he:e∈b.M):VQ e.Q e.w:=((s.is.bk b hb).good e he).vq
theorem Jp(s:kg h tb bw bp bl c vb aY N Ts W wc F B){k:Nat}{b:TB}(hb:Ts[k]? = some b){e:HE}(he:e∈b.M){i:Nat}{q:R5}(hq:e.Q[i]? = some q){k':Nat}{b':TB}{e':HE}{p:R5}(hb':Ts[k']? = some b')(he':e'∈b'.M)(hf:ct e'.Q q.id=some p):k'=k/\b'=b/\e'=e/\p=q:=by
 have zx:=List.mem_of_getElem? hb;obtain⟨i',hi',hid⟩:=Gy (WT s (List.mem_of_getElem? hb') he') hf;obtain⟨rfl,rfl⟩:=s.Lh (List.mem_of_getElem? hb') zx he' he (List.mem_of_getElem? hi') (List.mem_of_getElem? hq) hid;rw[uf (WT s zx he) hq]at hf;have h1:=s.nm k' b' hb' e' he';have h2:=s.nm k b' hb e' he;exact⟨XQ,rfl,rfl,(Option.some.inj hf).symm⟩
theorem UO(s:kg h tb bw bp bl c vb aY N Ts W wc F B)(hlo:h.lo<=h.nx){k:Nat}{b:TB}(hb:Ts[k]? = some b){e:HE}(he:e∈b.M){i:Nat}{q:R5}(hq:e.Q[i]? = some q)(V:KQ)(hk:∀h',Le h h'->V (.tuple ⟨[cQ e.t e.r,lT q,.bool true]⟩) h'):aj prog 209 [YYQ tb,YYY q.id] h V:=by
 refine aaz s hlo q.id _ ?_ ?_
 .intro h' hn le;have:=hn b (List.mem_of_getElem? hb) e he;rw[uf (WT s (List.mem_of_getElem? hb) he) hq]at this;cases this
 .intro h' b' e' p hb' he' hf le;obtain⟨k',hk'⟩:=List.getElem?_of_mem hb';obtain⟨_,rfl,rfl,rfl⟩:=Jp s hb he hq hk' he' hf;exact hk h' le
end
section
variable {h:af}{a:TA}{N:Nat}{d:TD}{G:Int->Int->List (Int × Int)}
theorem UP(s:AR h a N d)(L:Mul d.Ts G)(hlo:h.lo<=h.nx)(hN:N<=1000){k:Nat}{b:TB}(hb:d.Ts[k]? = some b){t r x m:Int}(hst:ef t r a.c.S=(k:Int))(hx:∀p∈G t r,p.1≠x)(am:bZ m=true)(fit:Lw (G t r) x m)(V:KQ)(T6:(d.F=[]\/(G t r=[]/\a.aY<=b.M.length))->∀h',Le h h'->V (.tuple ⟨[YYY 0,.bool false,YYY 8]⟩) h')(hk:∀h' d' id,AR h' a (N+1) d'->Mul d'.Ts (dH G t r (G t r++[(x,m)]))->Dm d d' k->uy d.Ts a.bw a.bp a.bl h h'->d'.Ts.map (·.bm)=d.Ts.map (·.bm)->V (.tuple ⟨[YYY id,.bool true,YYY 0]⟩) h'):aj prog 301 [YYQ a.tb,cQ t r,YYY x,YYY m] h V:=by
 obtain⟨hm,km⟩:=(lS m).1 am;refine Ux s hlo hN t r x m _ ?_ ?_ ?_ ?_ ?_
 .intro h' hn;omega
 .intro k' b' h' _ _ hf;rw[am]at hf;cases hf
 .intro k' b' h' e p hb' _ _ he ht hr hp hpx;obtain⟨_,h2⟩:=L.NK s hb' he ht.symm hr.symm;exact absurd hpx (hx (nq p) (by rw[<-h2];exact List.mem_map.2 ⟨p,hp,rfl⟩))
 .intro k' b' h' hb' Nc _ _ hor le;obtain rfl:k'=k:=by omega
  rw[hb]at hb';cases hb';refine T6 ?_ h' le;rcases hor with h1|⟨h0,h1⟩
  .exact .inl h1
  .refine .inr ⟨?_,h1⟩;refine Classical.byContradiction λhG=>?_;obtain⟨k1,b1,e1,hb1,ak0,pq,ht1,Cl,_⟩:=L.at s hG;obtain rfl:k1=k':=by omega
   rw[hb]at hb1;cases hb1;exact h0 e1 pq ⟨ht1.symm,Cl.symm⟩
 .intro k' b' M' clock' F' W' Ai h0 h1 h' n g hb' Nc _ _ _ ak s' fr;obtain rfl:k'=k:=by omega
  rw[hb]at hb';cases hb';obtain⟨Q,w,hold,_,_,hg,st⟩:=ak.set;have hQ:fI Q/\Q.map nq=G t r:=by
   rcases hold with⟨e,he,h1,h2,h3,_⟩|⟨hno,_,rfl,_⟩
   .have:=L.NK s hb he h1 h2;rw[h3]at this;exact this
   .refine⟨λq hq=>(by cases hq),?_⟩;refine Classical.byContradiction λhG=>?_;obtain⟨k1,b1,e1,hb1,ak0,pq,ht1,Cl,_⟩:=L.at s (t:=t) (r:=r) (λe=>hG e.symm);obtain rfl:k1=k':=by omega
    rw[hb]at hb1;cases hb1;exact hno e1 pq ⟨ht1.symm,Cl.symm⟩
  have hxQ:∀q∈Q,q.x≠x:=λq hq=>hx (nq q) (by rw[<-hQ.2];exact List.mem_map.2 ⟨q,hq,rfl⟩);rw[Na hQ.1 hm hxQ (by rw[hQ.2];exact fit)]at hg st;have Jq:fI (Q++[⟨(n:Int),x,m,m,0⟩]):=Jo hQ.1 ⟨rfl,rfl,hm⟩;rw[oM Jq]at st;subst hg;have L':=L.settle s hb hst Jq clock' st;rw[List.map_append,hQ.2]at L';have o:=(s.is.bk b (List.mem_of_getElem? hb)).ok;refine hk h' ⟨_,W',Ai,F',d.B.set n true⟩ n s' L' (tZ hb (st.cnt o) W' Ai ?_ _) fr (Dg hb _ _);have:=ak.free.length_eq;rw[List.length_cons]at this;omega
theorem UQ(s:AR h a N d)(L:Mul d.Ts G)(hlo:h.lo<=h.nx)(hN:N<=1000){k:Nat}{b:TB}(hb:d.Ts[k]? = some b){t r m:Int}(hst:ef t r a.c.S=(k:Int)){e:HE}(he:e∈b.M)(ht:e.t=t)(hr:e.r=r){i:Nat}{q:R5}(hq:e.Q[i]? = some q)(km:kn m=true)(hm:m≠0)(fit:Lw (G t r) q.x (bA q.m m))(V:KQ)(hk:∀h' d',AR h' a (N+1) d'->Mul d'.Ts (dH G t r (sG (G t r) q.x (bA q.m m)))->Dm d d' k->uy d.Ts a.bw a.bp a.bl h h'->d'.Ts.map (·.bm)=d.Ts.map (·.bm)->V (.tuple ⟨[.bool true,YYY 0]⟩) h'):aj prog 302 [YYQ a.tb,YYY q.id,YYY (bA q.m m)] h V:=by
 have zx:=List.mem_of_getElem? hb;have vq:=WT s zx he;have kq:kn q.m=true:=(vq.right q (List.mem_of_getElem? hq)).km;obtain⟨n0,kns,idem,_⟩:=jm kq km hm;have am:bZ (bA q.m m)=true:=(lS _).2 ⟨n0,kns⟩;obtain⟨hQ,hG⟩:=L.NK s hb he ht hr;refine GX s hlo hN q.id _ _ ?_ ?_ ?_ ?_
 .intro h' hf;rw[am]at hf;cases hf
 .intro _ hn;have:=hn b zx e he;rw[uf vq hq]at this;cases this
 .intro k' b' h' e' p _ hb' he' hf hp;obtain⟨_,_,_,rfl⟩:=Jp s hb he hq hb' he' hf;have:=(hQ p (List.mem_of_getElem? hq)).2.1;omega
 .intro k' b' h' M' clock' e' p i' _ hb' he' hpi hf _ mv s';obtain⟨rfl,rfl,rfl,rfl⟩:=Jp s hb he hq hb' he' hf;have ii:i'=i:=Classical.byContradiction λhn=>(qn vq hpi hq hn).2 rfl;subst ii;have st:=mv.set;have eu:=Nb hQ (W:=e'.w) vq hq (m:=bA p.m m) (by rw[hG,idem];exact fit);rw[idem]at eu;have Jq:fI (e'.Q.set i' ⟨p.id,p.x,bA p.m m,bA p.m m,0⟩):=BR hQ i' ⟨rfl,rfl,n0⟩;rw[eu,oM Jq,ht,hr]at st;rw[eu];have L':=L.settle s hb hst Jq clock' st;rw[abh vq hq,hG]at L';have o:=(s.is.bk b' zx).ok;exact hk h' ⟨_,d.W,d.wc,d.F,d.B⟩ s' L' (tZ hb (st.cnt o) _ _ (Nat.le_succ _) _) (uy.Un zx mv.fr) (Dg hb _ _)
def mP(d:TD)(k:Nat)(t r:Int)(q:R5):Prop:=∃(b:TB)(e:HE)(j:Nat),d.Ts[k]? = some b/\e∈b.M/\e.t=t/\e.r=r/\e.Q[j]? = some q
theorem Nd(s:AR h a N d)(L:Mul d.Ts G)(hlo:h.lo<=h.nx){k:Nat}{b:TB}(hb:d.Ts[k]? = some b){t r:Int}(hst:ef t r a.c.S=(k:Int)){e:HE}(he:e∈b.M)(ht:e.t=t)(hr:e.r=r){i:Nat}{q:R5}(hq:e.Q[i]? = some q)(V:KQ)(hk:∀h' d' v',AM h h' v' []->AR h' a (N+1) d'->Mul d'.Ts (dH G t r (qm (G t r) q.x))->(∀q'∈e.Q,q'.id≠q.id->mP d' k t r q')->Dm d d' k->uy d.Ts a.bw a.bp a.bl h h'->d'.Ts.map (·.bm)=d.Ts.map (·.bm)->V (.tuple ⟨[v',YYY 0]⟩) h'):aj prog 352 [YYQ a.tb,YYY q.id] h V:=by
 have zx:=List.mem_of_getElem? hb;have vq:=WT s zx he;obtain⟨hQ,hG⟩:=L.NK s hb he ht hr;refine Q7 s hlo q.id _ ?_ ?_
 .intro hn;have:=hn b zx e he;rw[uf vq hq]at this;cases this
 ·intro k' b' h' M' clock' F' v' e' p n hb' he' hf hid Dy hpF mv ho s';obtain⟨rfl,rfl,rfl,rfl⟩:=Jp s hb he hq hb' he' hf;have Jq:fI (e'.Q.filter λr=>!b_ p.id r):=Ds hQ _;have st:=mv.set;rw[oM Jq]at st ho;rw[ht,hr]at st;have L':=L.settle s hb hst Jq clock' st;rw[RQ vq hq,hG]at L';have o:=(s.is.bk b' zx).ok;have still:∀q'∈e'.Q,q'.id≠p.id->mP ⟨d.Ts.set k' ⟨b'.bb,b'.bm,M',clock'⟩,d.W,d.wc,F',d.B.set n false⟩ k' t r q':=λq' Cd hn=>by
   have hm:q'∈e'.Q.filter λr=>!b_ p.id r:=List.mem_filter.2 ⟨Cd,by simp[b_,hn]⟩;obtain⟨e0,h1,h2,h3,h4,hp⟩:=st.put (λe=>by have e:(e'.Q.filter λr=>!b_ p.id r)=[]:=e;rw[e]at hm;cases hm);obtain⟨j,hj⟩:=List.mem_iff_getElem?.1 hm;exact⟨⟨b'.bb,b'.bm,M',clock'⟩,e0,j,by show(d.Ts.set k' _)[k']? = _;rw[List.getElem?_set,if_pos rfl,if_pos (List.getElem?_eq_some_iff.1 hb).1],hp.mem_iff.2 (List.mem_append_right _ (.head _)),h1,h2,by rw[h4];exact hj⟩
  refine hk h' ⟨_,d.W,d.wc,F',d.B.set n false⟩ v' ho s' L' still (tZ hb (st.cnt o) _ _ ?_ _) (uy.Un zx mv.fr) (Dg hb _ _);have:=hpF.length_eq;rw[List.length_append,List.length_singleton]at this;omega
theorem RR(s:AR h a N d)(L:Mul d.Ts G)(hlo:h.lo<=h.nx){k:Nat}{b:TB}(hb:d.Ts[k]? = some b){t r y:Int}(hst:ef t r a.c.S=(k:Int)){e:HE}(he:e∈b.M)(ht:e.t=t)(hr:e.r=r){i:Nat}{q:R5}(hq:e.Q[i]? = some q)(hy:∀p∈G t r,p.1≠q.x->p.1≠y)(V:KQ)(hk:∀h' d',AR h' a (N+1) d'->Mul d'.Ts (dH G t r (ue (G t r) q.x y))->Dm d d' k->uy d.Ts a.bw a.bp a.bl h h'->d'.Ts.map (·.bm)=d.Ts.map (·.bm)->V (YYY 0) h'):aj prog 304 [YYQ a.tb,YYY q.id,YYY y] h V:=by
 have zx:=List.mem_of_getElem? hb;have vq:=WT s zx he;obtain⟨hQ,hG⟩:=L.NK s hb he ht hr;refine Rj s hlo q.id y _ ?_ ?_ ?_ ?_
 .intro hn;have:=hn b zx e he;rw[uf vq hq]at this;cases this
 .intro k' b' h' e' p hb' he' hf hex;obtain⟨rfl,rfl,rfl,rfl⟩:=Jp s hb he hq hb' he' hf;obtain⟨o,ho,hid,hox⟩:=hex;obtain⟨j,hj⟩:=List.mem_iff_getElem?.1 ho;have hji:j≠i:=by rintro rfl;rw[hj]at hq;cases hq;exact hid rfl
  exact absurd hox (hy (nq o) (by rw[<-hG];exact List.mem_map.2 ⟨o,ho,rfl⟩) (qn vq hj hq hji).1)
 .intro k' b' h' e' p hb' he' hf _ hp;obtain⟨_,_,_,rfl⟩:=Jp s hb he hq hb' he' hf;have:=(hQ p (List.mem_of_getElem? hq)).2.1;omega
 .intro k' b' h' M' clock' e' p i' hb' he' hpi hf _ _ mv s';obtain⟨rfl,rfl,rfl,rfl⟩:=Jp s hb he hq hb' he' hf;have ii:i'=i:=Classical.byContradiction λhn=>(qn vq hpi hq hn).2 rfl;subst ii;have h0:=hQ p (List.mem_of_getElem? hq);have Jq:fI (e'.Q.set i' (rA p y)):=BR hQ i' ⟨h0.1,h0.2.1,h0.2.2⟩;have st:=mv.set;rw[oM Jq,ht,hr]at st;have L':=L.settle s hb hst Jq clock' st;rw[RP vq hq,hG]at L';have o:=(s.is.bk b' zx).ok;exact hk h' ⟨_,d.W,d.wc,d.F,d.B⟩ s' L' (tZ hb (st.cnt o) _ _ (Nat.le_succ _) _) (uy.Un zx mv.fr) (Dg hb _ _)
end
section
variable {h:af}{A:WA}{a:TA}{N:Nat}{d:TD}{R:RD}{G:Int->Int->List (Int × Int)}
theorem Hj(s:WS h A a N d R)(L:Mul d.Ts G)(t r:Int)(V:KQ)(hk:∀v Q h',(Q=[]/\G t r=[]\/∃(k:Nat)(b:TB)(e:HE),d.Ts[k]? = some b/\ef t r a.c.S=(k:Int)/\e∈b.M/\e.t=t/\e.r=r/\e.Q=Q)->QV h' v Q->Le h h'->V v h'):aj prog 298 [YYQ A.wb,cQ t r] h V:=by
 have gw0:=s.r.gw;have hlo:=s.lo;apply YYZ;rw[Zi];have De:=s.r.De;simp(disch:=try exact Y)only[Wz,cQ,aN,gw0];obtain⟨hA,bh,aU,g1,eE,eG⟩:=nP h (ai [YYY t,YYY r] 28 false);rw[<-bh];clear bh;have sA:=s.le aU;refine Lq sA.t XQ _ ?_;intro v0 h0 K t0 Uv;have n0:=Uv.nx;have l0:=Uv.lo;obtain⟨x0,c0,ev0,_⟩:=(show Sl qY h0 v0 K from t0.sl)
 have Rh:∀(β:Type)(fl:β)(h':af)(V:UV β),bG fl v0 h' V=V (YYY (K.length:Int)) h':=λβ fl h' V=>by rw[ev0];exact h_ _ _ _ _ _
 have Wj:K.length<=1024:=by
  have h1:=t0.perm.length_eq;rw[List.length_map]at h1;rw[h1];have h2:=s.t.is.s1.2;have h3:=s.t.is.hd;have:∀L:List TB,(∀b∈L,b.M.length<=64)->(L.flatMap λb=>b.M.map dU).length<=64*L.length:=by
   intro L
   induction L with
   |nil=>intro _;simp
   |cons b L ih=>
    intro hL;rw[List.flatMap_cons,List.length_append,List.length_map,List.length_cons];have h1:=ih λx hx=>hL x (.tail _ hx);have h2:=hL b (.head _);omega
  have:=this d.Ts λb hb=>by have:=s.t.len b hb;omega
  omega
 have g10:=(Uv.get _ XQ).trans g1;simp(disch:=try exact Y)only[Wz,Rh];refine⟨λn l h1=>∃i:Nat,ah l 12=YYY (i:Int)/\n=K.length-i/\i<=K.length/\Le h0 h1/\∀e∈K.take i,¬(e.t=t/\e.r=r),
  ⟨_,0,rfl,rfl,XQ,Le.refl _,by simp⟩,?_⟩
 rintro n l h1 ⟨i,s1,rfl,hi,bN,hnone⟩;have n1:=bN.nx;have l1:=bN.lo;by_cases hlt:i<K.length
 .obtain⟨e,he⟩:∃e,K[i]? = some e:=⟨_,List.getElem?_eq_getElem hlt⟩
  have heK:=List.mem_of_getElem? he;obtain⟨⟨b',hb',e',he',se⟩,qv⟩:=t0.each e heK;obtain⟨b0,o0,hb0,hx0,D6⟩:=afl t0.sl i he (QO qv.1);have R1:=D6 h1 bN;have qv1:=qv.le bN;obtain⟨qx,qc,eq,_⟩:=(show Sl bH h1 e.q e.Q from qv1.1)
  have g11:=(bN.get _ XQ).trans g10;rw[eq]at R1;simp(disch:=try exact Y)only[Wz,s1,fm (show(i:Int)<(K.length:Int)by omega),FL,hx0,R1,g11];rw[oJ];by_cases hn:e.t=t/\e.r=r
  .rw[bx hn];simp(disch:=try exact Y)only[Wz];obtain⟨k',hk'⟩:=List.getElem?_of_mem hb';have hs:=s.t.nm k' b' hk' e' he';refine hk _ e.Q _ (.inr ⟨k',b',e',hk',?_,he',se.1.symm.trans hn.1,se.2.1.symm.trans hn.2,se.2.2.2.symm⟩) ?_ ((aU.trans (Uv.trans bN)).trans ((Le.refl h1).new _))
   .rw[<-hn.1,<-hn.2,se.1,se.2.1];exact hs
   .rw[<-eq];exact qv1.le ((Le.refl h1).new _)
  .rw[aZ hn];simp(disch:=try exact Y)only[Wz,s1];refine⟨_,XQ,i+1,rfl,rfl,XQ,bN.trans ((Le.refl h1).new _),λx hx=>?_⟩;rw[List.take_add_one,he]at hx;rcases List.mem_append.1 hx with hx|hx
   .exact hnone x hx
   .simp at hx;subst hx;exact hn
 .have hi':i=K.length:=by omega
  subst hi';rw[List.take_length]at hnone;simp(disch:=try exact Y)only[Wz,s1,dF (show(K.length:Int)<=(K.length:Int)by omega)];refine hk _ [] _ (.inl ⟨rfl,?_⟩) ⟨Sl.nil _ _ _,λb o n c hv=>by cases hv⟩ (aU.trans (Uv.trans bN));refine Classical.byContradiction λhG=>?_;obtain⟨k1,b1,e1,hb1,_,pq,ht1,Cl,_⟩:=L.at s.t hG;have hm:dU e1∈K.map dU:=t0.perm.mem_iff.2 (List.mem_flatMap.2 ⟨b1,List.mem_of_getElem? hb1,List.mem_map.2 ⟨e1,pq,rfl⟩⟩);obtain⟨x,hx,hxe⟩:=List.mem_map.1 hm;exact hnone x hx ⟨(congrArg Prod.fst hxe).trans ht1,(congrArg Prod.snd hxe).trans Cl⟩
theorem RS{α:Type}{L:List α}{i:Nat}{x:α}(hi:L[i]? = some x):L.set i x=L:=by
 refine List.ext_getElem? λj=>?_;rw[List.getElem?_set];split
 .rename_i e;subst e;rw[hi,if_pos (List.getElem?_eq_some_iff.1 hi).1]
 .rfl
theorem Hl(s:WS h A a N d R)(L:Mul d.Ts G){i k:Nat}{c:CR}(hi:R.cs[i]? = some (some c)){b:TB}(hb:d.Ts[k]? = some b){t r:Int}(hst:ef t r a.c.S=(k:Int)){e:HE}(he:e∈b.M)(ht:e.t=t)(hr:e.r=r){j:Nat}{q:R5}(hq:e.Q[j]? = some q)(V:KQ)(hk:∀h' d',WS h' A a (N+1) d' R->Mul d'.Ts (dH G t r (qm (G t r) q.x))->(∀q'∈e.Q,q'.id≠q.id->mP d' k t r q')->(∀y vs op,y<h.nx->h.bl.get y=some (ai vs 57 op)->h'.bl.get y=h.bl.get y)->Dm d d' k->WK a h h'->V (.tuple ⟨[]⟩) h'):aj prog 300 [YYQ c.ca,YYY q.id] h V:=by
 obtain⟨gc,c1,c2⟩:=cD s hi;have gc':=gc;unfold cO at gc';have gw:=s.r.gw;have hlo:=s.lo;apply YYZ;rw[Zj];simp(disch:=try exact Y)only[Wz,aN,gc',gw];refine Nd s.t L hlo hb hst he ht hr hq _ ?_;intro h1 d1 v1 ho t1 L1 st1 g1 f1 b1;have s1:=s.table t1 f1 b1;obtain⟨AS,k1,k2⟩:=cD s1 hi;have gcx:=AS;unfold cO at gcx;simp(disch:=try exact Y)only[Wz,aN,gcx];rw[append_nil ho.sl ⟨_,_,_,rfl⟩];simp(disch:=try exact Y)only[Wz,aN,gcx];have s2:=WS.jN s1 hi (c':=c) rfl;rw[RS hi]at s2;have hk:=hk _ d1 s2 L1 st1 (λy vs op hy hg=>(T.ax _ _ (λe=>by subst e;rw[gc]at hg;exact bE J0 hg)).trans (uy.keep s.t.is f1 hy hg J0 J0 J0)) g1 ((s.kfr f1).trans (WS.wN s1 AS (by simp[nj]) J0 _));unfold cO at hk;exact hk
theorem UR(s:WS h A a N d R)(L:Mul d.Ts G){i k:Nat}{c:CR}(hi:R.cs[i]? = some (some c)){b:TB}(hb:d.Ts[k]? = some b)(hst:ef c.a.t c.a.r a.c.S=(k:Int))(V:KQ)(k_:(∀p∈G c.a.t c.a.r,p.1≠c.a.x)->∀h',WS h' A a (N+1) d { R with cs:=R.cs.set i (some { c with out:=6 }) }->WK a h h'->V (.tuple ⟨[]⟩) h')(hk:(∃p∈G c.a.t c.a.r,p.1=c.a.x)->∀h' d',WS h' A a (N+1) d' { R with cs:=R.cs.set i (some { c with out:=1 }) }->Mul d'.Ts (dH G c.a.t c.a.r (qm (G c.a.t c.a.r) c.a.x))->Dm d d' k->WK a h h'->V (.tuple ⟨[]⟩) h'):aj prog 213 [YYQ c.ca] h V:=by
 obtain⟨gc,c1,c2⟩:=cD s hi;have gc':=gc;unfold cO at gc';have gw:=s.r.gw;have hlo:=s.lo;apply YYZ;rw[YT];simp(disch:=try exact Y)only[Wz,aN,gc',gw];refine zV s.t L hlo c.a.t c.a.r c.a.x _ ?_ ?_
 .intro hH h1 bN;have s1:=s.le bN;obtain⟨AS,_,_⟩:=cD s1 hi;have k_:=k_ hH _ (WS.jN (s1.up (Nat.le_succ _)) hi (c':={ c with out:=6 }) rfl) ((s.Jb bN).trans (WS.wN s1 AS (by simp[nj]) J0 _));unfold cO at AS k_;simp(disch:=try exact Y)only[Wz,aN,AS];exact k_
 .intro h1 k' b' e j q hb' Nc he ht hr hq Jr bN;obtain rfl:k'=k:=by omega
  rw[hb]at hb';cases hb';have s1:=s.le bN;obtain⟨_,hG⟩:=L.NK s.t hb he ht hr;simp(disch:=try exact Y)only[Wz];refine Hl s1 L hi hb hst he ht hr hq _ ?_;intro h2 d2 s2 L2 _ _ g2 k2;obtain⟨DC,_,_⟩:=cD s2 hi;rw[Jr]at L2;have hk:=hk ⟨nq q,by rw[<-hG];exact List.mem_map.2 ⟨q,List.mem_of_getElem? hq,rfl⟩,Jr⟩ _ d2 (WS.jN s2 hi (c':={ c with out:=1 }) rfl) L2 g2 (((s.Jb bN).trans k2).trans (WS.wN s2 DC (by simp[nj]) J0 _));unfold cO at DC hk;simp(disch:=try exact Y)only[Wz,aN,DC];exact hk
end
def wj(y m:Int)(p:Int × Int):Bool:=!(decide (p.1=y) && !cmp p.2 m)
def jw(l:List (Int × Int))(y m:Int):List (Int × Int):=l.filter (wj y m)
theorem Nf(G:Int->Int->List (Int × Int))(t r:Int):dH G t r (G t r)=G:=by
 funext a b;unfold dH;split
 .rename_i e;rw[e.1,e.2]
 .rfl
theorem RT{l:List (Int × Int)}{y m:Int}(h:∀p∈l,p.1=y->cmp p.2 m=false):jw l y m=qm l y:=by
 unfold jw qm;refine List.filter_congr λp hp=>?_;unfold wj;by_cases e:p.1=y
 .rw[h p hp e];simp[e]
 .simp[e]
theorem RU{l:List (Int × Int)}{y m:Int}(h:∀p∈l,p.1=y->cmp p.2 m=true):jw l y m=l:=by
 unfold jw;refine List.filter_eq_self.2 λp hp=>?_;unfold wj;by_cases e:p.1=y
 .rw[h p hp e];simp
 .simp[e]
def abj(d:TD)(N:Nat):Prop:=(∀b∈d.Ts,b.M.length<=N)/\24<=d.F.length+N
def rF(n:Nat)(d d':TD):Prop:=∀N,abj d N->abj d' (N+n)
theorem rF.refl(n:Nat)(d:TD):rF n d d:=λN c=>⟨λb hb=>Nat.le_trans (c.1 b hb) XQ,by have:=c.2;omega⟩
theorem rF.trans{n m:Nat}{d d1 d2:TD}(g:rF n d d1)(g':rF m d1 d2):rF (n+m) d d2:=λN c=>by have:=g' _ (g N c);rwa [Nat.add_assoc]at this
theorem Dm.n{d d':TD}{k:Nat}(g:Dm d d' k):rF 1 d d':=λN c=>by
 refine⟨λb' hb'=>?_,by have:=c.2;have:=g.f;omega⟩;obtain⟨j,hj⟩:=List.getElem?_of_mem hb';obtain⟨b,hb,hl⟩:=g.m j b' hj;have:=c.1 b (List.mem_of_getElem? hb);split at hl<;>omega
def Js(a:TA)(d:TD):Prop:=d.F=[]\/∃b∈d.Ts,a.aY<=b.M.length
section
variable {h:af}{A:WA}{a:TA}{N:Nat}{d:TD}{R:RD}{G:Int->Int->List (Int × Int)}
def Kept(A:WA)(a:TA)(N:Nat)(d:TD)(R:RD)(G:Int->Int->List (Int × Int))(t r y m:Int)(k:Nat)(Q:List R5)(h0 h:af):Prop:=
 ∃d',WS h A a (N+1) d' R/\Mul d'.Ts (dH G t r (jw (G t r) y m))/\WK a h0 h/\rF 1 d d'/\((d'=d/\Le h0 h)\/∀q'∈Q,q'.x≠y->mP d' k t r q')
theorem Jt(s:WS h A a N d R)(L:Mul d.Ts G){i k:Nat}{c:CR}(hi:R.cs[i]? = some (some c))(hst:ef c.a.t c.a.r a.c.S=(k:Int)){y want:Int}(hy:y<0)(hx0:0<=c.a.x)(only:∀p∈G c.a.t c.a.r,p.1<0->p.1=y)(bR:Value)(uY:List Value)(V:KQ)(hend:∀h' Q,(Q=[]/\G c.a.t c.a.r=[]\/∃(b:TB)(e:HE),d.Ts[k]? = some b/\e∈b.M/\e.t=c.a.t/\e.r=c.a.r/\e.Q=Q)->Kept A a N d R G c.a.t c.a.r y want k Q h h'->tF (YYQ c.ca) uY (YYY want) bR h' V):aj prog 298 [YYQ A.wb,cQ c.a.t c.a.r] h λtq h=>
   aG (bG none tq h λv _=>some v) h λnS h=>
    dD [undef,undef,undef,undef,undef,undef,undef,undef,undef,undef,undef,undef,undef,undef,undef,undef,undef,undef,undef,undef,undef,undef,undef,undef,undef,undef,undef,undef,undef,YYY 0] h λMm h N58=>
     tG Mm nS tq (YYQ c.ca) (YYY want) N58 uY bR h V:=by
 refine Hj s L c.a.t c.a.r _ ?_;intro v Q h1 hQ hv bN;have Jq:Q=[]/\G c.a.t c.a.r=[]\/∃(b:TB)(e:HE),d.Ts[k]? = some b/\e∈b.M/\e.t=c.a.t/\e.r=c.a.r/\e.Q=Q:=by
  rcases hQ with h|⟨k',b,e,h1,h2,r⟩
  .exact .inl h
  .obtain rfl:k'=k:=by omega
   exact .inr ⟨b,e,h1,r⟩
 have hG:Q.map nq=G c.a.t c.a.r/\Q.length<=1000/\(∀(j j':Nat)(p q:R5),Q[j]? = some p->Q[j']? = some q->j≠j'->p.x≠q.x/\p.id≠q.id):=by
  rcases Jq with⟨rfl,e⟩|⟨b,e,hb,he,ht,hr,rfl⟩
  .exact⟨e.symm,by simp,λj j' p q h=>by simp at h⟩
  .have vq:=WT s.t (List.mem_of_getElem? hb) he;refine⟨(L.NK s.t hb he ht hr).2,?_,λj j' p q h1 h2 hn=>qn vq h1 h2 hn⟩;have:=((s.t.is.bk b (List.mem_of_getElem? hb)).good e he).small;omega
 obtain⟨hG,hQl,hne⟩:=hG;obtain⟨vx,vc,ev,_⟩:=(show Sl bH h1 v Q from hv.1)
 have hlen:∀(β:Type)(fl:β)(h':af)(V:UV β),bG fl v h' V=V (YYY (Q.length:Int)) h':=λβ fl h' V=>by rw[ev];exact h_ _ _ _ _ _
 have n1:=bN.nx;have l1:=bN.lo;have hlo:=s.lo;simp(disch:=try exact Y)only[Wz,hlen];refine⟨λn l h2=>∃j:Nat,ah l 29=YYY (j:Int)/\n=Q.length-j/\j<=Q.length/\QV h2 v Q/\((Le h1 h2/\∀q∈Q.take j,q.x=y->cmp q.m want=true)\/((∀q∈Q.drop j,q.x≠y)/\(∀q∈Q,q.x=y->cmp q.m want=false)/\∃d',WS h2 A a (N+1) d' R/\Mul d'.Ts (dH G c.a.t c.a.r (qm (G c.a.t c.a.r) y))/\WK a h h2/\rF 1 d d'/\∀q'∈Q,q'.x≠y->mP d' k c.a.t c.a.r q')),⟨_,0,rfl,rfl,XQ,hv,.inl ⟨Le.refl _,by simp⟩⟩,?_⟩;rintro n l h2 ⟨j,s1,rfl,hj,qv,US⟩;have s2:∃d2,WS h2 A a (N+1) d2 R:=by
  rcases US with⟨bF,_⟩|⟨_,_,d2,s2,_⟩
  .exact⟨d,(s.le (bN.trans bF)).up (Nat.le_succ _)⟩
  .exact⟨d2,s2⟩
 obtain⟨d2,s2⟩:=s2;obtain⟨gc,c1,c2⟩:=cD s2 hi;have gc':=gc;unfold cO at gc';have lo2:=s2.lo;by_cases hlt:j<Q.length
 .obtain⟨p,hp⟩:∃p,Q[j]? = some p:=⟨_,List.getElem?_eq_getElem hlt⟩
  have hpQ:=List.mem_of_getElem? hp;have hpG:nq p∈G c.a.t c.a.r:=by rw[<-hG];exact List.mem_map.2 ⟨p,hpQ,rfl⟩
  obtain⟨b4,o4,hb4,hx4,Ub,_⟩:=SA qv.1 j hp;have WU:∀(P:R5->Prop),(∀q∈Q.take j,P q)->P p->∀q∈Q.take (j+1),P q:=λP h1 h2 q hq=>by
   rw[List.take_add_one,hp]at hq;rcases List.mem_append.1 hq with hq|hq
   .exact h1 q hq
   .simp at hq;subst hq;exact h2
  have WV:∀q∈Q.drop (j+1),q∈Q.drop j/\q.x≠p.x:=λq hq=>by
   refine⟨?_,?_⟩
   .rw[show Q.drop j=p::Q.drop (j+1)by obtain⟨hl,rfl⟩:=List.getElem?_eq_some_iff.1 hp;exact List.drop_eq_getElem_cons hl];exact .tail _ hq
   .obtain⟨j',hj'⟩:=List.mem_iff_getElem?.1 hq;rw[List.getElem?_drop]at hj';exact(hne _ _ _ _ hj' hp XQ).1
  simp(disch:=try exact Y)only[Wz,tG,s1,fm (show(j:Int)<(Q.length:Int)by omega)];by_cases hpx:p.x<0
  .have hpy:p.x=y:=only _ hpG hpx;rcases US with⟨bF,hA⟩|⟨hB,_⟩
   .refine⟨λl' h'=>QV h' v Q/\((Le h1 h'/\∀q∈Q.take (j+1),q.x=y->cmp q.m want=true)\/((∀q∈Q.drop (j+1),q.x≠y)/\(∀q∈Q,q.x=y->cmp q.m want=false)/\∃d',WS h' A a (N+1) d' R/\Mul d'.Ts (dH G c.a.t c.a.r (qm (G c.a.t c.a.r) y))/\WK a h h'/\rF 1 d d'/\∀q'∈Q,q'.x≠y->mP d' k c.a.t c.a.r q')),?_,?_⟩
    .simp(disch:=try exact Y)only[Wz,yQ,s1,hx4,Ub,bH,fm hpx,aN,gc',aZ (show p.x≠c.a.x by omega)];refine Gi p.m want ?_;have leN:=(Le.refl h2).new (ai [YYY p.id,YYY p.x,YYY p.m,YYY p.w,YYY p.s] 57 false);cases hc:cmp p.m want with
     |true=>
      simp(disch:=try exact Y)only[Wz];exact⟨qv.le leN,.inl ⟨bF.trans leN,WU _ hA λ_=>hc⟩⟩
     |false=>
      simp(disch:=try exact Y)only[Wz];rcases Jq with⟨e0,_⟩|⟨b,e,hb,he,ht,hr,rfl⟩
      .rw[e0]at hp;simp at hp
      refine Hl (s.le ((bN.trans bF).trans leN)) L hi hb hst he ht hr hp _ ?_;intro h3 d3 s3 L3 still rq g3 k3;refine⟨(qv.le leN).frame k3.nx λc vs op hc hg=>rq c vs op hc hg,.inr ⟨λq hq=>by have:=(WV q hq).2;omega,λq hq hqy=>?_,d3,s3,by rw[<-hpy];exact L3,(s.Jb ((bN.trans bF).trans leN)).trans k3,g3.n,λq' Cd hn=>still q' Cd ?_⟩⟩
      .obtain⟨j',hj'⟩:=List.mem_iff_getElem?.1 hq;by_cases ej:j'=j
       .subst ej;rw[hp]at hj';cases hj';exact hc
       .exact absurd (hqy.trans hpy.symm) (hne _ _ _ _ hj' hp ej).1
      .obtain⟨j',hj'⟩:=List.mem_iff_getElem?.1 Cd;have ej:j'≠j:=by rintro rfl;rw[hp]at hj';cases hj';exact hn hpy
       exact(hne _ _ _ _ hj' hp ej).2
    .rintro l' h' ⟨q1,q2⟩;exact⟨_,XQ,j+1,rfl,rfl,XQ,q1,q2⟩
   .refine absurd hpy (hB p ?_);rw[show Q.drop j=p::Q.drop (j+1)by obtain⟨hl,rfl⟩:=List.getElem?_eq_some_iff.1 hp;exact List.drop_eq_getElem_cons hl];exact .head _
  .refine⟨λl' h'=>Le h2 h',?_,?_⟩
   .simp(disch:=try exact Y)only[Wz,yQ,s1,hx4,Ub,bH,dF (show(0:Int)<=p.x by omega)];exact(Le.refl h2).new _
   .intro l' h' le';refine⟨_,XQ,j+1,rfl,rfl,XQ,qv.le le',?_⟩;rcases US with⟨bF,hA⟩|⟨hB,hF,d3,s3,L3,k3,gn,st3⟩
    .exact .inl ⟨bF.trans le',WU _ hA λe=>absurd e XQ⟩
    .exact .inr ⟨λq hq=>hB q (WV q hq).1,hF,d3,s3.le le',L3,k3.trans (s3.Jb le'),gn,st3⟩
 .have hj':j=Q.length:=by omega
  subst hj';simp(disch:=try exact Y)only[Wz,tG,s1,dF (show(Q.length:Int)<=(Q.length:Int)by omega)];refine hend h2 Q Jq ?_;rcases US with⟨bF,hA⟩|⟨hB,hF,d3,s3,L3,k3,gn,st3⟩
  .rw[List.take_length]at hA;refine⟨d,(s.le (bN.trans bF)).up (Nat.le_succ _),?_,s.Jb (bN.trans bF),rF.refl 1 d,.inl ⟨rfl,bN.trans bF⟩⟩;rw[RU,Nf]
   .exact L
   .intro q hq hqy;rw[<-hG]at hq;obtain⟨q0,hq0,rfl⟩:=List.mem_map.1 hq;exact hA q0 hq0 hqy
  .refine⟨d3,s3,?_,k3,gn,.inr st3⟩;rw[RT]
   .exact L3
   .intro q hq hqy;rw[<-hG]at hq;obtain⟨q0,hq0,rfl⟩:=List.mem_map.1 hq;exact hF q0 hq0 hqy
end
theorem Ho(G:Int->Int->List (Int × Int))(t r:Int)(l l':List (Int × Int)):dH (dH G t r l) t r l'=dH G t r l':=by
 funext a b;unfold dH;split<;>rfl
def qo(l:List (Int × Int))(x y m:Int):List (Int × Int):=
 if cZ l x=0 then jw l y (bA 0 m)++[(x,bA 0 m)]else sG (jw l y (bA (cZ l x) m)) x (bA (cZ l x) m)
def sy(l:List (Int × Int)):Prop:=(∀p∈l,p.2≠0/\kn p.2=true)/\l.Pairwise λp q=>p.1≠q.1/\cmp p.2 q.2=true
theorem UT{l:List (Int × Int)}(h:sy l){p q:Int × Int}(hp:p∈l)(hq:q∈l)(e:p.1=q.1):p=q:=by
 have key:∀l:List (Int × Int),(l.Pairwise λp q=>p.1≠q.1/\cmp p.2 q.2=true)->p∈l->q∈l->p=q:=by
  intro l
  induction l with
  |nil=>intro _ hp;cases hp
  |cons a l ih=>
   intro h hp hq;rw[List.pairwise_cons]at h;rcases List.mem_cons.1 hp with e1|h1<;>rcases List.mem_cons.1 hq with e2|h2
   .rw[e1,e2]
   .rw[<-e1]at h;exact absurd e (h.1 q h2).1
   .rw[<-e2]at h;exact absurd e.symm (h.1 p h1).1
   .exact ih h.2 h1 h2
 exact key l h.2 hp hq
theorem ug{l:List (Int × Int)}(h:sy l){p:Int × Int}(hp:p∈l):cZ l p.1=p.2:=by
 unfold cZ;cases hf:l.find? λq=>decide (q.1=p.1)with
 |none=>exact absurd hp (λhp=>by have:=List.find?_eq_none.1 hf p hp;simp at this)
 |some q=>
  have h1:=List.find?_some hf;rw[decide_eq_true_eq]at h1;rw[UT h (List.mem_of_find?_eq_some hf) hp h1];rfl
theorem xy{l:List (Int × Int)}(h:sy l){x:Int}(e:cZ l x=0):∀p∈l,p.1≠x:=λp hp ex=>by
 subst ex;rw[ug h hp]at e;exact(h.1 p hp).1 e
theorem ot{l:List (Int × Int)}(h:sy l){x:Int}(e:cZ l x≠0):(x,cZ l x)∈l:=by
 unfold cZ at e ⊢;cases hf:l.find? λq=>decide (q.1=x)with
 |none=>rw[hf]at e;exact absurd rfl e
 |some q=>
  have h1:=List.find?_some hf;rw[decide_eq_true_eq]at h1;subst h1;exact List.mem_of_find?_eq_some hf
section
variable {h:af}{A:WA}{a:TA}{N:Nat}{d:TD}{R:RD}{G:Int->Int->List (Int × Int)}
theorem Mul.BS(L:Mul d.Ts G)(s:WS h A a N d R)(t r:Int):sy (G t r):=by
 by_cases hG:G t r=[]
 .rw[hG];exact⟨λp hp=>(by cases hp),List.Pairwise.nil⟩
 .obtain⟨k,b,e,hb,_,he,_,_,hQ,hm⟩:=L.at s.t hG;have vq:=WT s.t (List.mem_of_getElem? hb) he;rw[<-hm];refine⟨λp hp=>?_,?_⟩
  .obtain⟨q,hq,rfl⟩:=List.mem_map.1 hp;exact⟨(hQ q hq).2.2,(vq.right q hq).km⟩
  .rw[List.pairwise_map];refine vq.pair.imp_of_mem λ{p q} hp hq b=>⟨b.x,b.cm (hQ p hp).2.2 (hQ q hq).2.2⟩
theorem Ng(s:WS h A a N d R)(L:Mul d.Ts G)(hN:N<=900){i k:Nat}{c:CR}(hi:R.cs[i]? = some (some c))(hst:ef c.a.t c.a.r a.c.S=(k:Int)){y:Int}(hxy:c.a.x≠y)(km:kn c.a.m=true)(hm:c.a.m≠0)(only:∀p∈G c.a.t c.a.r,p.1=c.a.x\/p.1=y)(uY:List Value)(hl:ah uY 19=YYY (cZ (G c.a.t c.a.r) c.a.x))(id:Int){d0:TD}{G0:Int->Int->List (Int × Int)}(L0:Mul d0.Ts G0)(D0:sy (G0 c.a.t c.a.r))(hG:G=dH G0 c.a.t c.a.r (jw (G0 c.a.t c.a.r) y (bA (cZ (G0 c.a.t c.a.r) c.a.x) c.a.m)))(fN:cZ (G c.a.t c.a.r) c.a.x=cZ (G0 c.a.t c.a.r) c.a.x)(hid:cZ (G c.a.t c.a.r) c.a.x≠0->∃q,mP d k c.a.t c.a.r q/\q.id=id/\q.x=c.a.x)(V:KQ)(dB:∀h' d',WS h' A a (N+1) d' { R with cs:=R.cs.set i (some { c with out:=1 }) }->Mul d'.Ts (dH G0 c.a.t c.a.r (qo (G0 c.a.t c.a.r) c.a.x y c.a.m))->rF 1 d d'->WK a h h'->V (.tuple ⟨[]⟩) h')(Ah:∀h',WS h' A a (N+1) d { R with cs:=R.cs.set i (some { c with out:=5 }) }->cZ (G0 c.a.t c.a.r) c.a.x=0->Js a d->WK a h h'->V (.tuple ⟨[]⟩) h'):tF (YYQ c.ca) uY (YYY (bA (cZ (G0 c.a.t c.a.r) c.a.x) c.a.m)) (YYY id) h V:=by
 obtain⟨gc,c1,c2⟩:=cD s hi;have gc':=gc;unfold cO at gc';have gw:=s.r.gw;have hlo:=s.lo;have cS:=s.t.is.cS;have s1:=s.t.is.s1;obtain⟨_,slt,_⟩:=sn (t:=c.a.t) (r:=c.a.r) (s:=a.c.S) XQ;obtain⟨b,hb⟩:∃b,d.Ts[k]? = some b:=⟨_,List.getElem?_eq_getElem XQ⟩
 have D:=L.BS s c.a.t c.a.r;have hGt:G c.a.t c.a.r=jw (G0 c.a.t c.a.r) y (bA (cZ (G0 c.a.t c.a.r) c.a.x) c.a.m):=by rw[hG,jH]
 simp(disch:=try exact Y)only[Wz,tF,aN,gc',hl];refine p8 _ _ ?_;have fin:∀o h' d',WS h' A a (N+1) d' R->WK a h h'->WS ⟨h'.nx,h'.bl.bq c.ca (cO A.wb { c with out:=o }),h'.lo⟩ A a (N+1) d' { R with cs:=R.cs.set i (some { c with out:=o }) }/\WK a h ⟨h'.nx,h'.bl.bq c.ca (cO A.wb { c with out:=o }),h'.lo⟩:=λo h' d' s' w'=>by
  obtain⟨G4,_,_⟩:=cD s' hi;exact⟨WS.jN s' hi rfl,w'.trans (WS.wN s' G4 (by simp[nj]) J0 _)⟩
 have BX:∀p∈G c.a.t c.a.r,p.1≠c.a.x->cmp p.2 (bA (cZ (G0 c.a.t c.a.r) c.a.x) c.a.m)=true:=λp hp hpx=>by
  have hy:p.1=y:=(only p hp).resolve_left hpx;rw[hGt]at hp;have:=(List.mem_filter.1 hp).2;unfold wj at this;simpa[hy]using this
 by_cases Hp:iK (cZ (G c.a.t c.a.r) c.a.x) c.a.m=true
 .have hH:cZ (G c.a.t c.a.r) c.a.x≠0:=λh0=>by rw[h0]at Hp;exact hm (adh Hp)
  have hmem:=ot D hH;have hs:=(jm (D.1 _ hmem).2 km hm).2.2.2 Hp;rw[Hp];simp(disch:=try exact Y)only[Wz,aN,gc'];obtain⟨s9,w9⟩:=fin 1 h d (s.up (Nat.le_succ _)) (s.Jb (Le.refl h));have dB:=dB _ d s9 (by
   have:qo (G0 c.a.t c.a.r) c.a.x y c.a.m=G c.a.t c.a.r:=by
    unfold qo;rw[<-fN,if_neg hH,hs];rw[fN]at hs ⊢;rw[hs]at hGt;rw[<-hGt];unfold sG;rw[show(λp:Int × Int=>if p.1=c.a.x then(c.a.x,cZ (G0 c.a.t c.a.r) c.a.x)else p)=λp=>if p.1=c.a.x then(c.a.x,cZ (G0 c.a.t c.a.r) c.a.x)else p from rfl];refine(List.map_congr_left λp hp=>?_).trans (List.map_id _);split
    .rename_i e;have:=ug D hp;rw[e,fN]at this;exact Prod.ext e.symm this
    .rfl
   rw[this];have:dH G0 c.a.t c.a.r (G c.a.t c.a.r)=G:=by rw[hGt,<-hG]
   rw[this];exact L) (rF.refl 1 d) w9
  unfold cO at dB;exact dB
 .rw[Bool.not_eq_true]at Hp;rw[Hp];simp(disch:=try exact Y)only[Wz];refine⟨λl' h'=>(ah l' 39=.bool true/\ah l' 40=YYY 0/\∃d',WS h' A a (N+1) d' R/\Mul d'.Ts (dH G0 c.a.t c.a.r (qo (G0 c.a.t c.a.r) c.a.x y c.a.m))/\rF 1 d d'/\WK a h h')\/(ah l' 40=YYY 8/\cZ (G0 c.a.t c.a.r) c.a.x=0/\Js a d/\Le h h'),?_,?_⟩
  .by_cases hH:cZ (G c.a.t c.a.r) c.a.x=0
   .have am:bZ c.a.m=true:=(lS _).2 ⟨hm,km⟩;have hH0:=fN.symm.trans hH;have e0:bA (cZ (G0 c.a.t c.a.r) c.a.x) c.a.m=c.a.m:=by rw[hH0];exact Rv km
    rw[e0]at BX ⊢;simp(disch:=try exact Y)only[Wz,hl,hH,Fp,aN,gc',gw];refine UP s.t L hlo XQ hb hst (xy D hH) am BX _ ?_ ?_
    .intro hor h3 cT;simp(disch:=try exact Y)only[Wz];exact .inr ⟨trivial,hH0,hor.imp (λe=>e) λe=>⟨b,List.mem_of_getElem? hb,e.2⟩,cT⟩
    ·intro h3 d3 id3 t3 L3 g3 f3 b3;simp(disch:=try exact Y)only[Wz];refine .inl ⟨trivial,trivial,d3,s.table t3 f3 b3,?_,g3.n,s.kfr f3⟩;have:dH G0 c.a.t c.a.r (qo (G0 c.a.t c.a.r) c.a.x y c.a.m)=dH G c.a.t c.a.r (G c.a.t c.a.r++[(c.a.x,c.a.m)]):=by
      unfold qo;rw[if_pos hH0,Rv km,hGt,e0]
      conv=>rhs;rw[hG]
      rw[Ho]
     rw[this];exact L3
   ·simp(disch:=try exact Y)only[Wz,hl,aZ hH,Fq,aN,gc',gw];obtain⟨q,⟨b1,e1,j1,hb1,pq,ht1,Cl,hq1⟩,rfl,Jr⟩:=hid hH;obtain⟨hQ1,Xl⟩:=L.NK s.t hb1 pq ht1 Cl;have VE:q.m=cZ (G0 c.a.t c.a.r) c.a.x:=by
     have:=ug D (p:=nq q) (by rw[<-Xl];exact List.mem_map.2 ⟨q,List.mem_of_getElem? hq1,rfl⟩);rw[<-fN,<-Jr];exact this.symm
    rw[<-VE]at BX ⊢;refine UQ s.t L hlo XQ hb1 hst pq ht1 Cl hq1 km hm (by rw[Jr];exact BX) _ ?_;intro h3 d3 t3 L3 g3 f3 b3;simp(disch:=try exact Y)only[Wz];refine .inl ⟨trivial,trivial,d3,s.table t3 f3 b3,?_,g3.n,s.kfr f3⟩;have:dH G0 c.a.t c.a.r (qo (G0 c.a.t c.a.r) c.a.x y c.a.m)=dH G c.a.t c.a.r (sG (G c.a.t c.a.r) q.x (bA q.m c.a.m)):=by
     unfold qo;rw[<-fN,if_neg hH,fN,<-VE,hGt,<-VE,Jr]
     conv=>rhs;rw[hG]
     rw[Ho]
    rw[this];exact L3
  .rintro l' h3 (⟨e1,e2,d3,s3,L3,gn,k3⟩|⟨e2,hH0,ho,cT⟩)
   .obtain⟨G4,_,_⟩:=cD s3 hi;obtain⟨s9,w9⟩:=fin 1 h3 d3 s3 k3;have dB:=dB _ d3 s9 L3 gn w9;unfold cO at G4 dB;simp(disch:=try exact Y)only[Wz,yR,e2,Ft,Fs,e1,aN,G4];exact dB
   .have s3:=(s.le cT).up (Nat.le_succ N);obtain⟨G4,_,_⟩:=cD s3 hi;obtain⟨s9,w9⟩:=fin 5 h3 d s3 (s.Jb cT);have Ah:=Ah _ s9 hH0 ho w9;unfold cO at G4 Ah;simp(disch:=try exact Y)only[Wz,yR,e2,aN,G4];exact Ah
end
theorem Nh{l:List (Int × Int)}{x y m:Int}(h:x≠y):cZ (jw l y m) x=cZ l x:=by
 unfold cZ jw;rw[List.find?_filter]
 congr 2
 have:(λa:Int × Int=>decide (wj y m a=true/\decide (a.1=x)=true))=λa=>decide (a.1=x):=by
  funext a;by_cases e:a.1=x
  .have:a.1≠y:=by omega
   simp[wj,e,h]
  .simp[e]
 rw[this]
section
variable {h:af}{A:WA}{a:TA}{N:Nat}{d:TD}{R:RD}{G:Int->Int->List (Int × Int)}
theorem zW(s:WS h A a N d R)(L:Mul d.Ts G)(hN:N<=890){i k:Nat}{c:CR}(hi:R.cs[i]? = some (some c))(hst:ef c.a.t c.a.r a.c.S=(k:Int)){y:Int}(hy:y<0)(hx0:0<=c.a.x)(km:kn c.a.m=true)(hm:c.a.m≠0)(only:∀p∈G c.a.t c.a.r,p.1=c.a.x\/p.1=y)(uY:List Value)(hl:ah uY 19=YYY (cZ (G c.a.t c.a.r) c.a.x))(id:Int)(hid:cZ (G c.a.t c.a.r) c.a.x≠0->∃q,mP d k c.a.t c.a.r q/\q.id=id/\q.x=c.a.x)(V:KQ)(dB:∀h' d',WS h' A a (N+2) d' { R with cs:=R.cs.set i (some { c with out:=1 }) }->Mul d'.Ts (dH G c.a.t c.a.r (qo (G c.a.t c.a.r) c.a.x y c.a.m))->rF 2 d d'->WK a h h'->V (.tuple ⟨[]⟩) h')(Ah:∀h' d',WS h' A a (N+2) d' { R with cs:=R.cs.set i (some { c with out:=5 }) }->Mul d'.Ts (dH G c.a.t c.a.r (jw (G c.a.t c.a.r) y (bA 0 c.a.m)))->cZ (G c.a.t c.a.r) c.a.x=0->rF 2 d d'->rF 1 d d'->Js a d'->WK a h h'->V (.tuple ⟨[]⟩) h'):yS (YYQ c.ca) uY (YYY id) h V:=by
 obtain⟨gc,c1,c2⟩:=cD s hi;have gc':=gc;unfold cO at gc';have gw:=s.r.gw;unfold yS;simp(disch:=try exact Y)only[Wz,hl,aN,gc',gw];refine zd _ _ ?_;simp(disch:=try exact Y)only[Wz,aN,gc',gw];refine Jt s L hi hst hy hx0 (λp hp hn=>(only p hp).resolve_left XQ) (YYY id) uY V ?_;intro h' Q hQ kept;obtain⟨d1,s1,L1,k1,gn,hor⟩:=kept;have hxy:c.a.x≠y:=by omega
 have fN:cZ (dH G c.a.t c.a.r (jw (G c.a.t c.a.r) y (bA (cZ (G c.a.t c.a.r) c.a.x) c.a.m)) c.a.t c.a.r) c.a.x=cZ (G c.a.t c.a.r) c.a.x:=by
  rw[jH,Nh hxy]
 refine Ng s1 L1 XQ hi hst hxy km hm (λp hp=>?_) uY (by rw[fN];exact hl) id L (L.BS s _ _) rfl fN (λhne=>?_) V ?_ ?_
 .rw[jH]at hp;exact only p (List.mem_filter.1 hp).1
 .rw[fN]at hne;obtain⟨q,hq,hqi,Jr⟩:=hid hne;refine⟨q,?_,hqi,Jr⟩;rcases hor with⟨rfl,_⟩|st
  .exact hq
  .refine st q ?_ XQ;obtain⟨b,e,j,hb,he,ht,hr,hqj⟩:=hq;rcases hQ with⟨_,hG⟩|⟨b',e',hb',he',ht',hr',rfl⟩
   .exact absurd ⟨ht.symm,hr.symm⟩ (L.no hG b (List.mem_of_getElem? hb) e he)
   .rw[hb]at hb';cases hb';have:=(s.t.is.bk b (List.mem_of_getElem? hb)).ok.uniq he he' (by rw[ht,ht']) (by rw[hr,hr']);subst this;exact List.mem_of_getElem? hqj
 .intro h'' d' s' L' gn' w';exact dB h'' d' s' L' (gn.trans gn') (k1.trans w')
 .intro h'' s' h0 ho w';refine Ah h'' d1 s' ?_ h0 (gn.trans (rF.refl 1 d1)) gn ho (k1.trans w');rw[h0]at L1;exact L1
theorem UU(s:WS h A a N d R)(L:Mul d.Ts G)(hN:N<=890){i k:Nat}{c:CR}(hi:R.cs[i]? = some (some c))(hst:ef c.a.t c.a.r a.c.S=(k:Int)){y:Int}(hy:y<0)(hx0:0<=c.a.x)(km:kn c.a.m=true)(hm:c.a.m≠0)(only:∀p∈G c.a.t c.a.r,p.1=c.a.x\/p.1=y)(V:KQ)(dB:∀h' d',WS h' A a (N+2) d' { R with cs:=R.cs.set i (some { c with out:=1 }) }->Mul d'.Ts (dH G c.a.t c.a.r (qo (G c.a.t c.a.r) c.a.x y c.a.m))->rF 2 d d'->WK a h h'->V (.tuple ⟨[]⟩) h')(Ah:∀h' d',WS h' A a (N+2) d' { R with cs:=R.cs.set i (some { c with out:=5 }) }->Mul d'.Ts (dH G c.a.t c.a.r (jw (G c.a.t c.a.r) y (bA 0 c.a.m)))->cZ (G c.a.t c.a.r) c.a.x=0->rF 2 d d'->rF 1 d d'->Js a d'->WK a h h'->V (.tuple ⟨[]⟩) h'):aj prog 212 [YYQ c.ca] h V:=by
 obtain⟨gc,c1,c2⟩:=cD s hi;have gc':=gc;unfold cO at gc';have gw:=s.r.gw;have hlo:=s.lo;have D:=L.BS s c.a.t c.a.r;apply YYZ;rw[YS];simp(disch:=try exact Y)only[Wz,aN,gc',gw];refine zV s.t L hlo c.a.t c.a.r c.a.x _ ?_ ?_
 .intro hno h1 bN;have s1:=s.le bN;have hH:cZ (G c.a.t c.a.r) c.a.x=0:=Classical.byContradiction λh=>hno _ (ot D h) rfl;simp(disch:=try exact Y)only[Wz];refine⟨λl' h'=>ah l' 19=YYY (cZ (G c.a.t c.a.r) c.a.x)/\Le h1 h',⟨by rw[hH];rfl,Le.refl _⟩,?_⟩;rintro l' h2 ⟨sl,bF⟩;exact zW (s1.le bF) L hN hi hst hy hx0 km hm only l' sl 0 (λh0=>absurd hH h0) V (λh' d' s' L' gn k'=>dB h' d' s' L' gn ((s.Jb (bN.trans bF)).trans k')) λh' d' s' L' h0 g2 g1 ho k'=>Ah h' d' s' L' h0 g2 g1 ho ((s.Jb (bN.trans bF)).trans k')
 .intro h1 k' b e j q hb Nc he ht hr hq Jr bN;obtain rfl:k'=k:=by omega
  have s1:=s.le bN;obtain⟨AS,_,_⟩:=cD s1 hi;unfold cO at AS;have WD:=s1.r.gw;have n1:=bN.nx;have l1:=bN.lo;obtain⟨hQ,hG⟩:=L.NK s.t hb he ht hr;have VE:q.m=cZ (G c.a.t c.a.r) c.a.x:=by
   have:=ug D (p:=nq q) (by rw[<-hG];exact List.mem_map.2 ⟨q,List.mem_of_getElem? hq,rfl⟩);rw[<-Jr];exact this.symm
  simp(disch:=try exact Y)only[Wz];refine⟨λl' h'=>ah l' 19=YYY (cZ (G c.a.t c.a.r) c.a.x)/\Le h1 h',?_,?_⟩
  .simp(disch:=try exact Y)only[Wz,Fo,aN,AS,WD];refine UO s1.t XQ hb he hq _ ?_;intro h2 bF;have n2:=bF.nx;have l2:=bF.lo;simp(disch:=try exact Y)only[Wz,cQ,lT,bH];exact⟨by rw[<-VE],(((bF.new _).new _).set XQ _).set (by show h1.nx<=h2.nx+1;omega) _⟩
  .rintro l' h2 ⟨sl,bF⟩;exact zW (s1.le bF) L hN hi hst hy hx0 km hm only l' sl q.id (λ_=>⟨q,⟨b,e,j,hb,he,ht,hr,hq⟩,rfl,Jr⟩) V (λh' d' s' L' gn k'=>dB h' d' s' L' gn ((s.Jb (bN.trans bF)).trans k')) λh' d' s' L' h0 g2 g1 ho k'=>Ah h' d' s' L' h0 g2 g1 ho ((s.Jb (bN.trans bF)).trans k')
end
def l_(c:iz)(y:Int)(G:Int->Int->List (Int × Int))(G':Int->Int->List (Int × Int))(out:Int):Prop:=
 if c.k=1 then(out=1/\G'=dH G c.t c.r (qo (G c.t c.r) c.x y c.m))\/(out=5/\cZ (G c.t c.r) c.x=0/\G'=dH G c.t c.r (jw (G c.t c.r) y (bA 0 c.m)))
 else if cZ (G c.t c.r) c.x=0 then out=6/\G'=G
 else out=1/\G'=dH G c.t c.r (if c.k=3 then ue (G c.t c.r) c.x c.to else qm (G c.t c.r) c.x)
section
variable {h:af}{A:WA}{a:TA}{N:Nat}{d:TD}{R:RD}{G:Int->Int->List (Int × Int)}
theorem Dt{l:List (Int × Int)}(h:sy l){x:Int}:(∀p∈l,p.1≠x)<->cZ l x=0:=by
 refine⟨λhn=>Classical.byContradiction λhg=>hn _ (ot h hg) rfl,λhg=>xy h hg⟩
theorem UW(s:WS h A a N d R)(L:Mul d.Ts G){i k:Nat}{c:CR}(hi:R.cs[i]? = some (some c))(hst:ef c.a.t c.a.r a.c.S=(k:Int))(twin:cZ (G c.a.t c.a.r) c.a.x≠0->∀p∈G c.a.t c.a.r,p.1≠c.a.x->p.1≠c.a.to)(V:KQ)(k_:cZ (G c.a.t c.a.r) c.a.x=0->∀h',WS h' A a (N+1) d { R with cs:=R.cs.set i (some { c with out:=6 }) }->WK a h h'->V (.tuple ⟨[]⟩) h')(hk:cZ (G c.a.t c.a.r) c.a.x≠0->∀h' d',WS h' A a (N+1) d' { R with cs:=R.cs.set i (some { c with out:=1 }) }->Mul d'.Ts (dH G c.a.t c.a.r (ue (G c.a.t c.a.r) c.a.x c.a.to))->rF 1 d d'->WK a h h'->V (.tuple ⟨[]⟩) h'):aj prog 214 [YYQ c.ca] h V:=by
 obtain⟨gc,c1,c2⟩:=cD s hi;have gc':=gc;unfold cO at gc';have gw:=s.r.gw;have hlo:=s.lo;have D:=L.BS s c.a.t c.a.r;apply YYZ;rw[YU];simp(disch:=try exact Y)only[Wz,aN,gc',gw];refine zV s.t L hlo c.a.t c.a.r c.a.x _ ?_ ?_
 .intro hno h1 bN;have s1:=s.le bN;obtain⟨AS,_,_⟩:=cD s1 hi;have k_:=k_ ((Dt D).1 hno) _ (WS.jN (s1.up (Nat.le_succ _)) hi (c':={ c with out:=6 }) rfl) ((s.Jb bN).trans (WS.wN s1 AS (by simp[nj]) J0 _));unfold cO at AS k_;simp(disch:=try exact Y)only[Wz,aN,AS];exact k_
 .intro h1 k' b e j q hb Nc he ht hr hq Jr bN;obtain rfl:k'=k:=by omega
  have s1:=s.le bN;have n1:=bN.nx;have l1:=bN.lo;obtain⟨AS,c11,_⟩:=cD s1 hi;have abk:=AS;unfold cO at abk;have WD:=s1.r.gw;obtain⟨hQ,hG⟩:=L.NK s.t hb he ht hr;have hH:cZ (G c.a.t c.a.r) c.a.x≠0:=λh0=>(Dt D).2 h0 (nq q) (by rw[<-hG];exact List.mem_map.2 ⟨q,List.mem_of_getElem? hq,rfl⟩) Jr;simp(disch:=try exact Y)only[Wz];refine⟨λl' h'=>Le h1 h',?_,?_⟩
  .simp(disch:=try exact Y)only[Wz,Fw,aN,abk];by_cases hto:c.a.to<0
   .simp(disch:=try exact Y)only[Wz,fm hto,Fv,aN,abk,WD];refine Hj s1 L c.a.t c.a.r _ ?_;intro v Q h2 hQ2 hv bF;obtain⟨vx,vc,ev,_⟩:=(show Sl bH h2 v Q from hv.1)
    have hlen:∀(β:Type)(fl:β)(h':af)(V:UV β),bG fl v h' V=V (YYY (Q.length:Int)) h':=λβ fl h' V=>by rw[ev];exact h_ _ _ _ _ _
    have hQl:Q.length<=1000/\fI Q:=by
     rcases hQ2 with⟨rfl,_⟩|⟨k2,b2,e2,hb2,_,SP,ht2,HK,rfl⟩
     .exact⟨by simp,λq hq=>by cases hq⟩
     .have:=((s1.t.is.bk b2 (List.mem_of_getElem? hb2)).good e2 SP).small;exact⟨XQ,(L.NK s1.t hb2 SP ht2 HK).1⟩
    have n2:=bF.nx;have l2:=bF.lo;obtain⟨hQl,hQh⟩:=hQl;simp(disch:=try exact Y)only[Wz,hlen];refine⟨λn l h3=>∃j:Nat,ah l 14=YYY (j:Int)/\n=Q.length-j/\j<=Q.length/\Le h2 h3,⟨_,0,rfl,rfl,XQ,Le.refl _⟩,?_⟩;rintro n l h3 ⟨j,e1,rfl,hj,cT⟩;have n3:=cT.nx;have l3:=cT.lo;by_cases hlt:j<Q.length
    .obtain⟨p,hp⟩:∃p,Q[j]? = some p:=⟨_,List.getElem?_eq_getElem hlt⟩
     obtain⟨b4,o4,hb4,hx4,Ub,_⟩:=SA hv.1 j hp;have hps:p.s=0:=(hQh p (List.mem_of_getElem? hp)).2.1;rw[<-cT.get _ hb4]at Ub;simp(disch:=try exact Y)only[Wz,e1,fm (show(j:Int)<(Q.length:Int)by omega),Fu,hx4,Ub,bH,hps];exact⟨_,XQ,j+1,rfl,rfl,XQ,cT.trans ((Le.refl h3).new _)⟩
    .simp(disch:=try exact Y)only[Wz,e1,dF (show(Q.length:Int)<=(j:Int)by omega)];exact bF.trans cT
   .simp(disch:=try exact Y)only[Wz,dF (show 0<=c.a.to by omega)];exact Le.refl _
  .rintro l' h3 cT;have s3:=s1.le cT;obtain⟨G4,c31,_⟩:=cD s3 hi;have gw3:=s3.r.gw;have hne:c.ca≠A.wb:=dh G4 gw3 J0;have k3:=(s.Jb (bN.trans cT)).trans (WS.wN s3 G4 (by simp[nj]) J0 (cO A.wb { c with out:=1 }));have s3':=WS.jN s3 hi (c':={ c with out:=1 }) rfl;have lo3:=s3.lo;have af5:=G4;unfold cO at af5 s3' k3;simp(disch:=try exact Y)only[Wz,Fx,aN,af5,gw3];refine RR s3'.t L (by exact lo3) hb hst he ht hr hq (y:=c.a.to) (by rw[Jr];exact twin hH) _ ?_;intro h4 d4 t4 L4' g4 f4 b4;simp(disch:=try exact Y)only[Wz];have s4:=s3'.table t4 f4 b4;rw[Jr]at L4';exact hk hH h4 d4 s4 L4' g4.n (k3.trans (s3'.kfr f4))
theorem UX(s:WS h A a N d R)(L:Mul d.Ts G)(hN:N<=890){i k:Nat}{c:CR}(hi:R.cs[i]? = some (some c))(AB:c.wt=false)(hst:ef c.a.t c.a.r a.c.S=(k:Int)){y:Int}(hy:y<0)(hm:ni c.a=true)(hx0:c.a.k=1->0<=c.a.x)(only:c.a.k=1->∀p∈G c.a.t c.a.r,p.1=c.a.x\/p.1=y)(uO:c.a.k=1\/c.a.k=2\/c.a.k=3)(twin:c.a.k=3->cZ (G c.a.t c.a.r) c.a.x≠0->∀p∈G c.a.t c.a.r,p.1≠c.a.x->p.1≠c.a.to)(V:KQ)(hk:∀h' d' G' out,WS h' A a (N+2) d' { R with cs:=R.cs.set i (some { c with ph:=3,out:=out }) }->Mul d'.Ts G'->l_ c.a y G G' out->rF 2 d d'->(out=5->rF 1 d d'/\Js a d')->WK a h h'->V (.tuple ⟨[]⟩) h'):aj prog 106 [YYQ c.ca] h V:=by
 obtain⟨gc,c1,c2⟩:=cD s hi;have gc':=gc;unfold cO at gc';have hlo:=s.lo;have hil:=(List.getElem?_eq_some_iff.1 hi).1;unfold ni at hm;rw[Bool.and_eq_true]at hm;have hm:=hm.2;apply YYZ;rw[X0];refine⟨λl' h'=>∃d' G' out,WS h' A a (N+2) d' { R with cs:=R.cs.set i (some { c with out:=out }) }/\Mul d'.Ts G'/\l_ c.a y G G' out/\rF 2 d d'/\(out=5->rF 1 d d'/\Js a d')/\WK a h h',?_,?_⟩
 .simp(disch:=try exact Y)only[Wz,EU,aN,gc',AB,ET];refine aaH h _ hlo ?_;intro b0 h1 bN g0;have s1:=s.le bN;have k1:=s.Jb bN;have AS:=(bN.get _ c1).trans gc';have D:=L.BS s c.a.t c.a.r;rcases uO with ha|ha|ha
  .rw[if_pos ha]at hm;rw[Bool.and_eq_true,Bool.and_eq_true,decide_eq_true_eq]at hm;simp(disch:=try exact Y)only[Wz,WL g0 _ _ (.inl ⟨ha,rfl⟩),aN,AS,List.nil_append,List.append_nil];refine UU s1 L hN hi hst hy (hx0 ha) hm.1.1 hm.1.2 (only ha) _ ?_ ?_
   .intro h2 d2 s2 L2 gn k2;rw[AB]at s2;exact⟨d2,_,1,s2,L2,by unfold l_;rw[if_pos ha];exact .inl ⟨rfl,rfl⟩,gn,(λe=>by omega),k1.trans k2⟩
   .intro h2 d2 s2 L2 h0 gn2 gn1 ho k2;rw[AB]at s2;exact⟨d2,_,5,s2,L2,by unfold l_;rw[if_pos ha];exact .inr ⟨rfl,h0,rfl⟩,gn2,(λ_=>⟨gn1,ho⟩),k1.trans k2⟩
  .have Ql:c.a.k≠1:=by omega
   have h3':c.a.k≠3:=by omega
   simp(disch:=try exact Y)only[Wz,WL g0 _ _ (.inr ⟨ha,rfl⟩),aN,AS,List.nil_append,List.append_nil];obtain⟨_,slt,_⟩:=sn (t:=c.a.t) (r:=c.a.r) (s:=a.c.S) XQ;have cS:=s.t.is.cS;obtain⟨b,hb⟩:∃b,d.Ts[k]? = some b:=⟨_,List.getElem?_eq_getElem XQ⟩
   refine UR s1 L hi hb hst _ ?_ ?_
   .intro hno h2 s2 k2;rw[AB]at s2;exact⟨d,G,6,s2.up (Nat.le_succ _),L,by unfold l_;rw[if_neg Ql,if_pos ((Dt D).1 hno)];exact⟨rfl,rfl⟩,rF.refl 2 d,(λe=>by omega),k1.trans k2⟩
   .intro hex h2 d2 s2 L2 g2 k2;rw[AB]at s2;refine⟨d2,_,1,s2.up (Nat.le_succ _),L2,?_,g2.n.trans (rF.refl 1 d2),(λe=>by omega),k1.trans k2⟩;unfold l_;obtain⟨p,hp,hpx⟩:=hex;rw[if_neg Ql,if_neg (λh0=>(Dt D).2 h0 p hp hpx),if_neg h3'];exact⟨rfl,rfl⟩
  .have Ql:c.a.k≠1:=by omega
   simp(disch:=try exact Y)only[Wz,abe g0 _ ha,aN,AS,List.nil_append,List.append_nil];refine UW s1 L hi hst (twin ha) _ ?_ ?_
   .intro h0 h2 s2 k2;rw[AB]at s2;exact⟨d,G,6,s2.up (Nat.le_succ _),L,by unfold l_;rw[if_neg Ql,if_pos h0];exact⟨rfl,rfl⟩,rF.refl 2 d,(λe=>by omega),k1.trans k2⟩
   .intro h0 h2 d2 s2 L2 gn k2;rw[AB]at s2;exact⟨d2,_,1,s2.up (Nat.le_succ _),L2,by unfold l_;rw[if_neg Ql,if_neg h0,if_pos ha];exact⟨rfl,rfl⟩,gn.trans (rF.refl 1 d2),(λe=>by omega),k1.trans k2⟩
 .rintro l' h' ⟨d',G',out,s',L',r',gn,ho,k'⟩;have hi':(R.cs.set i (some { c with out:=out }))[i]? = some (some { c with out:=out }):=by rw[List.getElem?_set,if_pos rfl,if_pos hil]
  obtain⟨G4,_,c3⟩:=cD s' hi';refine Rq { c with out:=out } G4 c3 3 _ rfl _ ?_;have s4:=WS.jN s' hi' (c':={ c with ph:=3,out:=out }) rfl;simp only[List.set_set]at s4;exact hk _ d' G' out s4 L' r' gn ho (k'.trans (WS.wN s' G4 (by simp[nj]) J0 _))
theorem Hq(s:WS h A a N d R)(L:Mul d.Ts G)(hN:N<=890){i k:Nat}{c:CR}(hi:R.cs[i]? = some (some c))(BM:c.ph=2)(hbi:R.bits[i]? = some 0)(AB:c.wt=false)(hst:ef c.a.t c.a.r a.c.S=(k:Int))(hsk:c.st=(k:Int)){o:Option (Nat × Int)}(hl:R.dO[k]? = some o){y:Int}(hy:y<0)(hm:ni c.a=true)(hx0:c.a.k=1->0<=c.a.x)(only:c.a.k=1->∀p∈G c.a.t c.a.r,p.1=c.a.x\/p.1=y)(uO:c.a.k=1\/c.a.k=2\/c.a.k=3)(twin:c.a.k=3->cZ (G c.a.t c.a.r) c.a.x≠0->∀p∈G c.a.t c.a.r,p.1≠c.a.x->p.1≠c.a.to)(V:KQ)(hk:∀h' d' G' out,WS h' A a (N+2) d' { R with cs:=R.cs.set i (some { c with ph:=3,out:=out }) }->Mul d'.Ts G'->l_ c.a y G G' out->rF 2 d d'->(out=5->rF 1 d d'/\Js a d')->WK a h h'->V (.tuple ⟨[.bool false,YYY 0,YYY 0]⟩) h'):aj prog 15 [YYQ A.wb,YYY (i:Int)] h V:=by
 have gw:=s.r.gw;have gcs:=s.r.gc;have hil:=BK s hi;have r:(R.cs.map λo=>dM (o.map (·.ca)))[i]? = some (YYQ c.ca):=oe s hi;obtain⟨gc,c1,c2⟩:=cD s hi;have hlc:(R.cs.map λo=>dM (o.map (·.ca))).length=A.n:=by rw[List.length_map];exact s.r.lc
 have gc':=gc;unfold cO BJ at gc';rw[BM]at gc';have h2:decide (((2:Nat):Int)=1)=false:=by decide
 apply YYZ;rw[PC];simp(disch:=try exact Y)only[Wz,jl,xb];refine qh s hil _ ?_;simp(disch:=try exact Y)only[Wz];refine qR s hi hbi hsk hl _ ?_;rw[BM,h2];simp(disch:=try exact Y)only[Wz,Bool.not_false,Bool.true_or,w_,aN,gw,bt,gcs,r,gc',Nat.mul_one,tc];refine UX s L hN hi AB hst hy hm hx0 only uO twin _ ?_;intro h' d' G' out s' L' r' gn ho k';have hi':(R.cs.set i (some { c with ph:=3,out:=out }))[i]? = some (some { c with ph:=3,out:=out }):=by rw[List.getElem?_set,if_pos rfl,if_pos (by have:=s.r.lc;omega)]
 obtain⟨DC,_,_⟩:=cD s' hi';unfold cO at DC;simp(disch:=try exact Y)only[Wz,aN,DC];exact hk h' d' G' out s' L' r' gn ho k'
end
abbrev GT:=Int->Int->List (Int × Int)
structure WJ(h:af)(A:WA)(a:TA)(G:GT)(N n:Nat)(x:iz)(out:Int):Prop where
 w:∃(d:TD)(R:RD)(N0:Nat),WS h A a N0 d R/\Mul d.Ts G/\R.bits[0]? = some 0/\0<=R.begun/\R.begun<=N/\N0+2*(n / 2)<=2*N/\abj d N0/\TH R n x out
 cS:a.c.S=2
 hd:a.aY=8
section
variable {h h':af}{A:WA}{a:TA}{G:GT}{N n:Nat}{x:iz}{out:Int}
theorem WJ.le(s:WJ h A a G N n x out)(l:Le h h'):WJ h' A a G N n x out:=by
 obtain⟨⟨d,R,N0,s1,s2⟩,s3,s4⟩:=s;exact⟨⟨d,R,N0,s1.le l,s2⟩,s3,s4⟩
theorem WJ.lo(s:WJ h A a G N n x out):h.lo<=h.nx:=by
 obtain⟨⟨d,R,N0,s1,s2⟩,s3,s4⟩:=s;exact s1.lo
theorem WJ.BS(s:WJ h A a G N n x out)(t r:Int):sy (G t r):=by
 obtain⟨⟨d,R,N0,s1,s2,_⟩,s3,s4⟩:=s;exact s2.BS s1 t r
theorem WJ.put(s:WJ h A a G N n x out){b:Nat}{v:List Value}{t:TypeId}{o:Bool}(hg:h.bl.get b=some (ai v t o))(ht:¬o_ t o)(hr:¬nj t o)(ob:bL):WJ ⟨h.nx,h.bl.bq b ob,h.lo⟩ A a G N n x out:=by
 obtain⟨⟨d,R,N0,s1,s2⟩,s3,s4⟩:=s;exact⟨⟨d,R,N0,s1.UE hg ht hr ob,s2⟩,s3,s4⟩
theorem WJ.rest(s:WJ h A a G N 0 x out)(x':iz)(out':Int):WJ h A a G N 0 x' out':=by
 obtain⟨⟨d,R,N0,s1,s2,s3,s4,s5,s6,sc,t⟩,s7,s8⟩:=s;refine⟨⟨d,R,N0,s1,s2,s3,s4,s5,s6,sc,?_⟩,s7,s8⟩;rcases t with t|⟨c,k,_,_,_,_,_,_,_,_,_,t⟩
 .exact .inl t
 .rcases t with⟨e,_⟩|⟨e,_⟩|⟨e,_⟩<;>omega
theorem WJ.leV(s:WJ h A a G N n x out){v:Value}(l:Tw v h h')(hv:∀d,vT v d->d<h.nx/\∃vs o,h.bl.get d=some (ai vs 160 o))(one:∀d d',vT v d->vT v d'->d=d')(hs:∀d,vT v d->∃ob,h'.bl.get d=some ob):WJ h' A a G N n x out:=by
 by_cases hb:∃d,vT v d
 .obtain⟨d,hd⟩:=hb;obtain⟨h1,vs,o,h2⟩:=hv d hd;obtain⟨ob,h3⟩:=hs d hd;have s1:=s.put h2 (by unfold o_;cases o<;>decide) (by unfold nj;cases o<;>decide) ob;refine s1.le ⟨l.nx,l.lo,λc hc=>?_⟩;by_cases e:c=d
  .subst e;rw[h3];exact(T.au _ _ _).symm
  .exact(l.get c hc λhb=>e (one c d hb hd)).trans (T.ax _ _ (λe'=>e e'.symm)).symm
 .exact s.le ⟨l.nx,l.lo,λc hc=>l.get c hc λhb'=>hb ⟨c,hb'⟩⟩
theorem Ni(s:WJ h A a G N 0 x out)(hN:N<=440)(y:iz)(hm:ni y=true)(o:Int)(V:KQ)(hk:∀h',WJ h' A a G (N+1) 3 y o->WK a h h'->V (YYY 0) h'):aj prog 11 [YYQ A.wb,YYY ((0:Nat):Int),.agg ⟨Dk y⟩] h V:=by
 obtain⟨⟨d,R,N0,s1,s2,s3,s4,s5,s6,sc,t⟩,s7,s8⟩:=s;obtain⟨t1,t2⟩:R.cs[0]? = some none/\∀k,k<2->R.dO[k]? = some none:=by
  rcases t with⟨_,t⟩|⟨c,k,_,_,_,_,_,_,_,_,_,t⟩
  .exact t
  .rcases t with⟨e,_⟩|⟨e,_⟩|⟨e,_⟩<;>omega
 refine UC s1 t1 y ⟨s4,XQ⟩ _ ?_ ?_
 .intro e;rw[hm]at e;cases e
 ·intro _ h' ca s' k';have hl:bf y.t y.r≠-1:=by
   unfold ni at hm;rw[Bool.and_eq_true,decide_eq_true_eq]at hm;exact hm.1
  obtain⟨k,hk2,hst⟩:=UG hl;refine hk h' ⟨⟨d,_,N0,s',s2,s3,by show 0<=R.begun+1;omega,by show R.begun+1<=((N+1:Nat):Int);omega,XQ,sc,.inr ⟨_,k,hk2,qS t1,rfl,rfl,rfl,by rw[s7];exact hst,hst,hm,λj hj _=>t2 j hj,.inl ⟨rfl,rfl,t2 k hk2⟩⟩⟩,s7,s8⟩ k'
theorem Nj(s:WJ h A a G N n x out)(hn:n≠0)(V:KQ)(hk:V (.bool true) h):aj prog 64 [YYQ A.wb,YYY ((0:Nat):Int)] h V:=by
 obtain⟨⟨d,R,N0,s1,s2,s3,s4,s5,s6,sc,t⟩,s7,s8⟩:=s;rcases t with⟨e,_⟩|⟨c,k,k2,hi,ha,hw,uz,hst,hs2,hm,ho,t⟩
 .exact absurd e hn
 .rcases t with⟨_,BM,hl⟩|⟨_,BM,p,hl⟩|⟨_,BM,⟨p,hl⟩,_⟩
  .refine qR s1 hi s3 hst hl _ ?_;rw[BM];exact hk
  .refine qR s1 hi s3 hst hl _ ?_;rw[BM];exact hk
  .refine qR s1 hi s3 hst hl _ ?_;rw[BM];exact hk
theorem vm(s:WJ h A a G N 3 x out)(V:KQ)(hk:∀h',WJ h' A a G N 2 x out->WK a h h'->V (.tuple ⟨[.bool false,YYY 0,YYY 0]⟩) h'):aj prog 15 [YYQ A.wb,YYY ((0:Nat):Int)] h V:=by
 obtain⟨⟨d,R,N0,s1,s2,s3,s4,s5,s6,sc,t⟩,s7,s8⟩:=s;rcases t with⟨e,_⟩|⟨c,k,k2,hi,ha,hw,uz,hst,hs2,hm,ho,t⟩
 .omega
 .rcases t with⟨_,BM,hl⟩|⟨e,_⟩|⟨e,_⟩
  .refine G5 s1 hi BM s3 hst ⟨by rw[uz];omega,by rw[uz];omega⟩ hl _ ?_;intro h' s' k';exact hk h' ⟨⟨d,_,N0,s',s2,s3,s4,s5,XQ,sc,.inr ⟨_,k,k2,qS hi,ha,hw,uz,hst,hs2,hm,λj hj hne=>(BN hne).trans (ho j hj hne),.inr (.inl ⟨rfl,rfl,_,qS hl⟩)⟩⟩,s7,s8⟩ k'
  .omega
  .omega
theorem RV(s:WJ h A a G N 1 x out)(V:KQ)(hk:∀h',WJ h' A a G N 0 x out->WK a h h'->V (.tuple ⟨[.bool true,YYY out,YYY 0]⟩) h'):aj prog 15 [YYQ A.wb,YYY ((0:Nat):Int)] h V:=by
 obtain⟨⟨d,R,N0,s1,s2,s3,s4,s5,s6,sc,t⟩,s7,s8⟩:=s;rcases t with⟨e,_⟩|⟨c,k,k2,hi,ha,hw,uz,hst,hs2,hm,ho,t⟩
 .omega
 .rcases t with⟨e,_⟩|⟨e,_⟩|⟨_,BM,⟨p,hl⟩,hout,hnz⟩
  .omega
  .omega
  .subst hout;refine Jc s1 hi BM s3 hst uz hnz hl _ ?_;intro h' s' k';refine hk h' ⟨⟨d,_,N0,s',s2,s3,s4,s5,XQ,sc,.inl ⟨rfl,qS hi,λj hj=>?_⟩⟩,s7,s8⟩ k';by_cases e:j=k
   .subst e;exact qS hl
   .exact(BN e).trans (ho j hj e)
theorem uh(s:WJ h A a G N 2 x out)(hN:N<=440){y:Int}(hy:y<0)(hx0:x.k=1->0<=x.x)(only:x.k=1->∀p∈G x.t x.r,p.1=x.x\/p.1=y)(twin:x.k=3->cZ (G x.t x.r) x.x≠0->∀p∈G x.t x.r,p.1≠x.x->p.1≠x.to)(V:KQ)(hk:∀h' G' o,WJ h' A a G' N 1 x o->l_ x y G G' o->(o=5->8<=2*N)->WK a h h'->V (.tuple ⟨[.bool false,YYY 0,YYY 0]⟩) h'):aj prog 15 [YYQ A.wb,YYY ((0:Nat):Int)] h V:=by
 obtain⟨⟨d,R,N0,s1,s2,s3,s4,s5,s6,sc,t⟩,s7,s8⟩:=s;rcases t with⟨e,_⟩|⟨c,k,k2,hi,ha,hw,uz,hst,hs2,hm,ho,t⟩
 .omega
 .rcases t with⟨e,_⟩|⟨_,BM,p,hl⟩|⟨e,_⟩
  .omega
  .subst ha;have Nc:ef c.a.t c.a.r a.c.S=(k:Int):=by rw[s7];exact hs2
   have ak5:c.a.k=1\/c.a.k=2\/c.a.k=3:=by
    have hm2:=hm;unfold ni at hm2;rw[Bool.and_eq_true]at hm2;have hm2:=hm2.2;split at hm2
    .exact .inl (by assumption)
    .split at hm2
     .exact .inr (.inr (by assumption))
     .rw[decide_eq_true_eq]at hm2;exact .inr (.inl hm2)
   refine Hq s1 s2 XQ hi BM s3 hw Nc hst hl hy hm hx0 only ak5 twin V ?_;intro h' d' G' o' s' L' r' gn hO k';have hz:o'≠0:=by
    unfold l_ at r';split at r'
    .rcases r' with⟨e,_⟩|⟨e,_⟩<;>omega
    .split at r'<;>(have:=r'.1;omega)
   exact hk h' G' o' ⟨⟨d',_,N0+2,s',L',s3,s4,s5,XQ,gn _ sc,.inr ⟨_,k,k2,qS hi,rfl,hw,uz,hst,hs2,hm,ho,.inr (.inr ⟨rfl,rfl,⟨p,hl⟩,rfl,hz⟩)⟩⟩,s7,s8⟩ r' (λe=>by
    obtain⟨g1,h1⟩:=hO e;have q:=g1 _ sc;rcases h1 with e0|⟨b,hb,e0⟩
    .have:=q.2;rw[e0]at this;simp at this;omega
    .have:=q.1 b hb;rw[s8]at e0;omega) k'
  .omega
theorem UY{l:List (Int × Int)}(D:sy l){x:Int}(hx:∀p∈l,p.1=x):l.length<=1:=by
 match l,D,hx with
 | [],_,_=>exact Nat.zero_le _
 | [_],_,_=>exact Nat.le_refl _
 |p::q::l,D,hx=>
  have:=D.2;rw[List.pairwise_cons]at this;exact absurd ((hx p (.head _)).trans (hx q (.tail _ (.head _))).symm) (this.1 q (.head _)).1
theorem UZ{h h':af}{a:TA}{N:Nat}{d:TD}(s:AR h a N d)(L:Mul d.Ts G){v:Value}{D:List L4}{K:List HE}(t:Rg h' d.Ts v D K){LL:List (Int × Int)}(nd:LL.Nodup)(h1:∀t r,(G t r).length<=1)(hH:∀t r,G t r≠[]<->(t,r)∈LL):D.length=LL.length:=by
 have Ql:∀K':List HE,(∀k∈K',(kO k).length=1)->(K'.flatMap kO).length=K'.length:=by
  intro K' hk
  induction K' with
  |nil=>rfl
  |cons k K' ih=>
   rw[List.flatMap_cons,List.length_append,hk k (.head _),ih λx hx=>hk x (.tail _ hx),List.length_cons];omega
 have hne:∀b∈d.Ts,∀e∈b.M,G e.t e.r≠[]:=λb hb e he e0=>by
  obtain⟨_,q2,q3⟩:=L.one b hb e he;rw[e0,List.map_eq_nil_iff]at q2;exact q3 q2
 have h2:(K.flatMap kO).length=K.length:=Ql K λk hk=>by
  obtain⟨b,hb,e,he,se⟩:=t.each k hk;obtain⟨q1,q2,q3⟩:=L.one b hb e he;have hl:=congrArg List.length q2;rw[List.length_map]at hl;have:=h1 e.t e.r;have hp:=List.length_pos_iff.2 q3;unfold kO qf;rw[se.2.2.2,List.length_map,List.filter_eq_self.2 λq hq=>by simp[(q1 q hq).2.2]];omega
 have h3:((d.Ts.flatMap λb=>b.M.map dU)).Perm LL:=by
  refine(List.perm_ext_iff_of_nodup s.nodup nd).2 λp=>?_;rw[<-hH p.1 p.2,List.mem_flatMap];constructor
  .rintro⟨b,hb,hp⟩;obtain⟨e,he,rfl⟩:=List.mem_map.1 hp;exact hne b hb e he
  .intro hn;obtain⟨b,hb,e,he,e1,e2⟩:=L.all p.1 p.2 hn;exact⟨b,hb,List.mem_map.2 ⟨e,he,Prod.ext e1 e2⟩⟩
 have h4:=(t.names.trans h3).length_eq;rw[List.length_map]at h4;rw[t.perm.length_eq,h2,h4]
theorem U0(s:WJ h A a G N n x out){LL:List (Int × Int)}(nd:LL.Nodup)(h1:∀t r,(G t r).length<=1)(hH:∀t r,G t r≠[]<->(t,r)∈LL)(V:KQ)(hk:∀x cap h',Le h h'->V (.slice x LL.length cap) h'):aj prog 16 [YYQ A.wb] h V:=by
 obtain⟨⟨d,R,N0,s1,s2,_⟩,_,_⟩:=s;have gw:=s1.r.gw;apply YYZ;rw[adl];simp(disch:=try exact Y)only[Wz,jl,aN,gw];refine aay s1.t s1.lo _ ?_;intro v h' D K t le;obtain⟨x,cap,ev,_⟩:=(show Sl bS h' v D from t.sl)
 have hl:=UZ s1.t s2 t nd h1 hH;rw[ev,hl];exact hk x cap h' le
theorem abl(s:WJ h A a G N n x out){L:List (Int × Int)}(nd:L.Nodup)(hL:∀p∈L,G p.1 p.2≠[]):L.length<=16:=by
 obtain⟨⟨d,R,N0,s1,M,_⟩,cS,hd⟩:=s;have key:∀(L M:List (Int × Int)),L.Nodup->(∀x∈L,x∈M)->L.length<=M.length:=by
  intro L
  induction L with
  |nil=>intro M _ _;exact Nat.zero_le _
  |cons x L ih=>
   intro M h1 h2;rw[List.nodup_cons]at h1;have hx:=h2 x (.head _);have:=ih (M.erase x) h1.2 λy hy=>(List.mem_erase_of_ne (by rintro rfl;exact h1.1 hy)).2 (h2 y (.tail _ hy));rw[List.length_erase_of_mem hx]at this;have hp:=List.length_pos_of_mem hx;rw[List.length_cons];omega
 have h4:=key L (d.Ts.flatMap λb=>b.M.map dU) nd λp hp=>by
  obtain⟨b,hb,e,he,e1,e2⟩:=M.all p.1 p.2 (hL p hp);exact List.mem_flatMap.2 ⟨b,hb,List.mem_map.2 ⟨e,he,Prod.ext e1 e2⟩⟩
 have h5:∀T:List TB,(∀b∈T,b.M.length<=8)->(T.flatMap λb=>b.M.map dU).length<=8*T.length:=by
  intro T
  induction T with
  |nil=>intro _;simp
  |cons b T ih=>
   intro hT;have h1:=ih λx hx=>hT x (.tail _ hx);have h2:=hT b (.head _);rw[List.flatMap_cons,List.length_append,List.length_map,List.length_cons];omega
 have h6:=h5 d.Ts λb hb=>by have:=s1.t.len b hb;omega
 have h7:=s1.t.is.cS;omega
end
structure EN where
 A:WA
 a:TA
 z:AA
structure AW(h:af)(E:EN)(G:GT)(N n:Nat)(y:iz)(out:Int)(D:AD)(kb:Nat)(c:CD):Prop where
 w:WJ h E.A E.a G N n y out
 g:jb h E.z D (some kb)
 c:iA h E.z kb c
 wb:E.z.wb=E.A.wb
 th:E.z.th=0
section
variable {h h':af}{E:EN}{G:GT}{N n:Nat}{y:iz}{out:Int}{D:AD}{kb:Nat}{c:CD}
theorem AW.le(s:AW h E G N n y out D kb c)(l:Le h h'):AW h' E G N n y out D kb c:=⟨s.w.le l,s.g.le l,s.c.le l,s.wb,s.th⟩
theorem AW.lo(s:AW h E G N n y out D kb c):h.lo<=h.nx:=s.w.lo
theorem AW.wk(s:AW h E G N n y out D kb c){G':GT}{N' n':Nat}{y':iz}{out':Int}(w:WJ h' E.A E.a G' N' n' y' out')(k:WK E.a h h'):AW h' E G' N' n' y' out' D kb c:=⟨w,s.g.ka k.ka,s.c.ka k.ka,s.wb,s.th⟩
theorem AW.rest(s:AW h E G N 0 y out D kb c)(y':iz)(out':Int):AW h E G N 0 y' out' D kb c:=⟨s.w.rest y' out',s.g,s.c,s.wb,s.th⟩
theorem AW.ag(s:AW h E G N n y out D kb c):∃va vh,h.bl.get E.z.ab=some (ai [pt E.A.wb,YYY 0,YYY D.jG,va,vh,pt E.z.pb,pt kb] 155 false)/\kF h va D.asked/\kF h vh D.has:=by
 obtain⟨va,vh,g1,g2,g3⟩:=s.g.ga;rw[s.wb,s.th]at g1;exact⟨va,vh,g1,g2,g3⟩
theorem AW.Du(s:AW h E G N n y out D kb c){c':CD}{vn vg:Value}(h1:fF lZ 160 h vn c'.dP)(h2:fE bS 4 46 h vg c'.goes)(h3:dI c'.DE=true):AW ⟨h.nx,h.bl.bq kb (c_ E.z c' vn vg),h.lo⟩ E G N n y out D kb c'/\FK E.a h ⟨h.nx,h.bl.bq kb (c_ E.z c' vn vg),h.lo⟩:=by
 obtain⟨vn0,vg0,g1,_,_⟩:=s.c.g;exact⟨⟨s.w.put g1 (by unfold o_;decide) (by unfold nj;decide) _,s.g.put g1 (.inl rfl) _,s.c.set h1 h2 h3,s.wb,s.th⟩,FK.put g1 (.inr (.inl rfl)) _⟩
theorem AW.RX(s:AW h E G N n y out D kb c){D':AD}{va vh:Value}(h1:kF h va D'.asked)(h2:kF h vh D'.has)(h3:D'.aL=D.aL):AW ⟨h.nx,h.bl.bq E.z.ab (ai [pt E.A.wb,YYY 0,YYY D'.jG,va,vh,pt E.z.pb,pt kb] 155 false),h.lo⟩ E G N n y out D' kb c/\FK E.a h ⟨h.nx,h.bl.bq E.z.ab (ai [pt E.A.wb,YYY 0,YYY D'.jG,va,vh,pt E.z.pb,pt kb] 155 false),h.lo⟩:=by
 obtain⟨va0,vh0,g1,_,_⟩:=s.g.ga;have q:=s.g.set (cp':=some kb) h1 h2 h3;have hp:=λob=>s.w.put g1 (by unfold o_;decide) (by unfold nj;decide) ob;have cp:=λob=>s.c.put g1 (.inl rfl) ob;have fp:=λob=>FK.put (a:=E.a) g1 (.inl rfl) ob;unfold agO at q;rw[s.wb,s.th]at q;exact⟨⟨hp _,q,cp _,s.wb,s.th⟩,fp _⟩
theorem uj(s:AW h E G N 0 y out D kb c)(hN:N<=440)(x:iz)(hm:ni x=true)(o:Int)(V:KQ)(hk:∀h',AW h' E G (N+1) 3 x o D kb { c with ask:=x }->FK E.a h h'->V (.tuple ⟨[]⟩) h'):aj prog 186 [pt E.z.ab,.agg ⟨Dk x⟩] h V:=by
 have hlo:=s.lo;apply YYZ;rw[YE];simp(disch:=try exact Y)only[Wz,Dk];obtain⟨hA,bh,aU,g1,eE,eG⟩:=nP h (ai [YYY x.k,YYY x.x,YYY x.t,YYY x.r,YYY x.m,YYY x.w,YYY x.to] 31 false);rw[<-bh]
 try rw[show(h.bl.bq (h.nx) (ai [YYY x.k,YYY x.x,YYY x.t,YYY x.r,YYY x.m,YYY x.w,YYY x.to] 31 false))=hA.bl by rw[bh]]
 clear bh;have sA:=s.le aU;obtain⟨va,vh,ga,_,_⟩:=sA.ag;obtain⟨vn,vg,gk,p1,p2⟩:=sA.c.g;have hlt:=sA.c.lt;have oS:=sA.g.Aj;have hne:kb≠E.z.ab:=dh gk ga J0;obtain⟨s2,f2⟩:=sA.Du (c':={ c with ask:=x }) p1 p2 sA.c.DE;have hkh:kb≠h.nx:=dh gk g1 J0;unfold c_ at gk s2 f2;simp(disch:=try exact Y)only[Wz,aN,ga,gk,g1];refine Ni s2.w hN x hm o _ ?_;intro h3 w3 k3;exact hk h3 (s2.wk w3 k3) (((FK.le aU).trans f2).trans k3.fk)
theorem Lx{z:AA}{cp:Option Nat}(s:jb h z D cp)(hlen:D.aL.length<=100000)(hlo:h.lo<=h.nx)(t r:Int)(h0:aO D.aL t r≠0)(V:KQ)(hk:∀h1 vp,Le h h1->jb ⟨h1.nx,h1.bl.bq z.lb (ai [vp] 288 false),h1.lo⟩ z { D with aL:=cE D.aL t r } cp->V (.tuple ⟨[YYY (aO D.aL t r),.bool true]⟩) ⟨h1.nx,h1.bl.bq z.lb (ai [vp] 288 false),h1.lo⟩):aj prog 190 [pt z.pb,cQ t r] h V:=by
 apply YYZ;rw[PV];simp(disch:=try exact Y)only[Wz,cQ,oq];obtain⟨hA,bh,aU,gA,eE,eG⟩:=nP h (ai [YYY t,YYY r] 28 false);rw[<-bh]
 try rw[show(h.bl.bq (h.nx) (ai [YYY t,YYY r] 28 false))=hA.bl by rw[bh]]
 clear bh;refine Jn (s.le aU) hlen XQ t r _ ?_;intro h2 hle2;have n2:=hle2.nx;have l2:=hle2.lo;have u0:=hle2.nx;have u5:=hle2.lo;have gA:=(hle2.get _ XQ).trans gA;have s2:=(s.le aU).le hle2;have gp:=s2.gp;have q2:=s2.GY;obtain⟨vp,gl,sl⟩:=s2.gl;simp(disch:=try exact Y)only[Wz,bx h0,Fe,aN,gp,gl,gA];refine kE D.aL t r h2 vp _ sl.1 XQ XQ ?_;intro h3 bJ;have n3:=bJ.nx;have l3:=bJ.lo;have IJ:=bJ.nx;have IK:=bJ.lo;have gA:=(bJ.get _ XQ).trans gA;have s3:=s2.le bJ;have gp3:=(bJ.get _ s2.MV.1).trans gp;have gl3:=(bJ.get _ q2.1).trans gl;simp(disch:=try exact Y)only[Wz,aN,gp3,gl3,gA];refine RG D.aL t r h3 vp _ (sl.le bJ).1 hlen XQ ?_;intro v' h4 hs4 bW;have s4:=s3.le bW;have gp4:=(bW.get _ s3.MV.1).trans gp3;have gl4:=(bW.get _ s3.GY.1).trans gl3;have q4:=s4.GY;obtain⟨x',c',e'⟩:=hs4.cell;subst e';simp(disch:=try exact Y)only[Wz,aN,gp4,gl4];exact hk h4 _ (((aU.trans hle2).trans bJ).trans bW) (s4.afZ hs4)
theorem Nk(s:AW h E G N n y out D kb c)(t r had:Int)(lp:D.aL.length<=100000)(hlen:D.has.length<=100000)(V:KQ)(hk:∀h',Le h h'->V (.tuple ⟨[YYY 0,.bool false]⟩) h')(dB:had=0->aO D.aL t r≠0->∀h1 vp,Le h h1->AW ⟨h1.nx,h1.bl.bq E.z.lb (ai [vp] 288 false),h1.lo⟩ E G N n y out { D with aL:=cE D.aL t r } kb c->V (.tuple ⟨[YYY (aO D.aL t r),.bool true]⟩) ⟨h1.nx,h1.bl.bq E.z.lb (ai [vp] 288 false),h1.lo⟩):aj prog 185 [pt E.z.ab,cQ t r,YYY had] h V:=by
 have hlo:=s.lo;apply YYZ;rw[YD];simp(disch:=try exact Y)only[Wz,cQ];obtain⟨hA,bh,aU,g1,eE,eG⟩:=nP h (ai [YYY t,YYY r] 28 false);rw[<-bh]
 try rw[show(h.bl.bq (h.nx) (ai [YYY t,YYY r] 28 false))=hA.bl by rw[bh]]
 clear bh;by_cases hh:had=0
 .have sA:=s.le aU;obtain⟨va,vh,ga,_,shA⟩:=sA.ag;simp(disch:=try exact Y)only[Wz,aZ (show ¬¬had=0 by omega),Fc,aN,ga,g1];refine xx sA.g lp XQ _ ?_;intro v2 h2 mj bF;have n2:=bF.nx;have l2:=bF.lo;have g2:=(bF.get _ XQ).trans g1;simp(disch:=try exact Y)only[Wz,g2];refine kE D.aL t r h2 v2 _ mj.sl XQ XQ ?_;intro h3 cT;have n3:=cT.nx;have l3:=cT.lo;have g3:=(cT.get _ XQ).trans g2;refine Hg _ ?_;simp(disch:=try exact Y)only[Wz,g3];refine Ry t r h3 _ XQ ?_;intro u h4 hu _ kU;have n4:=kU.nx;have l4:=kU.lo;have hal:=t_ t r;have RY:=aU.trans (bF.trans (cT.trans kU));simp(disch:=try exact Y)only[Wz,hu.len];refine⟨λn l h5=>Le h4 h5/\∃k:Nat,ah l 22=YYY (k:Int)/\k<=(gu t r).length/\n=(gu t r).length-k,⟨_,Le.refl _,0,rfl,Nat.zero_le _,rfl⟩,?_⟩;rintro n l h5 ⟨qe,k,e1,Ah,rfl⟩;have n5:=qe.nx;have l5:=qe.lo;have s5:=s.le (RY.trans qe);obtain⟨va5,vh5,ga5,_,sh5⟩:=s5.ag;by_cases hlt:k<(gu t r).length
  .obtain⟨p,hp5⟩:∃p,(gu t r)[k]? = some p:=⟨_,List.getElem?_eq_getElem hlt⟩
   obtain⟨b,o,hb,mD,mh⟩:=ldN (hu.le qe) k hp5;simp(disch:=try exact Y)only[Wz,e1,Fa,mD,mh,eP];obtain⟨hB,ng,dm,g6,Ms,Mt⟩:=nP h5 (ai [YYY p.1,YYY p.2] 28 false);rw[<-ng]
   try rw[show(h5.bl.bq (h5.nx) (ai [YYY p.1,YYY p.2] 28 false))=hB.bl by rw[ng]]
   clear ng;have gaB:=(dm.get _ s5.g.Aj.1).trans ga5;simp(disch:=try exact Y)only[Wz,aN,gaB,g6];refine kE D.has p.1 p.2 hB vh5 _ (sh5.1.le dm) XQ XQ ?_;intro h7 SD;have abn:=qe.trans (dm.trans SD);by_cases hm:aO D.has p.1 p.2=0
   .simp(disch:=try exact Y)only[Wz,bx hm];exact hk h7 (RY.trans abn)
   .simp(disch:=try exact Y)only[Wz,aZ hm];refine p8 _ _ ?_;cases hc:iK (aO D.has p.1 p.2) (ja (aO D.aL t r))with
    |false=>
     simp(disch:=try exact Y)only[Wz];exact hk h7 (RY.trans abn)
    |true=>
     simp(disch:=try exact Y)only[Wz,e1];exact⟨_,XQ,abn,k+1,rfl,XQ,rfl⟩
  .have g5:=(qe.get _ XQ).trans ((kU.get _ XQ).trans g3);simp(disch:=try exact Y)only[Wz,e1,Fb,aN,ga5,g5];by_cases hp:aO D.aL t r=0
   .refine RO s5.g lp XQ t r hp _ ?_;intro h6 zy;simp(disch:=try exact Y)only[Wz];exact hk h6 ((RY.trans qe).trans zy)
   .refine Lx s5.g lp XQ t r hp _ ?_;intro h6 vp zy g6;have s6:=s5.le zy;obtain⟨vq,gl,_⟩:=s6.g.gl;simp(disch:=try exact Y)only[Wz];exact dB hh hp h6 vp ((RY.trans qe).trans zy) ⟨s6.w.put gl (by unfold o_;decide) (by unfold nj;decide) _,g6,s6.c.put gl (.inr rfl) _,s6.wb,s6.th⟩
 .simp(disch:=try exact Y)only[Wz,aZ hh];exact hk hA aU
def z3:List Value:=[YYY 0,YYY 0,YYY 0]
theorem abo(a0 a1:Value)(h:af)(V:KQ):aT prog 263 [a0,a1] h V=eW prog 3 3 a0 a1 h V:=by kernel_rfl
theorem abp(a0 a1:Value)(h:af)(V:KQ):aT prog 183 [a0,a1] h V=eX prog 3 263 160 3 z3 a0 a1 h V:=by kernel_rfl
def cL(L:List L4)(p:N3):Bool:=decide (aO L p.1 p.2.1≠0) && iK (aO L p.1 p.2.1) p.2.2
theorem U2(p:N3)(L:List L4)(b1 ab:Nat)(h:af)(va vh w0 w1 w2 w5 w6:Value)(V:KQ)(hlo:h.lo<=h.nx)(g1:h.bl.get b1=some (ai [pt ab] 60 false))(hb1:b1<h.nx)(ga:h.bl.get ab=some (ai [w0,w1,w2,va,vh,w5,w6] 155 false))(hab:ab<h.nx)(hv:Sl bS h vh L)(hlen:L.length<=100000)(hk:∀h',Le h h'->V (.bool (cL L p)) h'):aj prog 184 [Cz lZ p,aq b1] h V:=by
 apply YYZ;rw[YB];simp(disch:=try exact Y)only[Wz,Cz,lZ];obtain⟨hA,bh,aU,gA,eE,eG⟩:=nP h (ai [YYY p.1,YYY p.2.1,YYY p.2.2] 160 false);rw[<-bh]
 try rw[show(h.bl.bq (h.nx) (ai [YYY p.1,YYY p.2.1,YYY p.2.2] 160 false))=hA.bl by rw[bh]]
 clear bh;have Sm:=(aU.get _ hb1).trans g1;have ga':=(aU.get _ hab).trans ga;simp(disch:=try exact Y)only[Wz,aN,g1,ga,Sm,ga',gA];refine kE L p.1 p.2.1 hA vh _ (hv.le aU) XQ XQ ?_;intro h2 bF;have tV:=bF.nx;have tW:=bF.lo;have gA:=(bF.get _ XQ).trans gA;have hk:=hk h2 (aU.trans bF);unfold cL at hk;by_cases hm:aO L p.1 p.2.1=0
 .rw[aZ (λh=>h hm)]at hk;simp(disch:=try exact Y)only[Wz,bx hm];exact hk
 .rw[bx hm,Bool.true_and]at hk;simp(disch:=try exact Y)only[Wz,aZ hm,gA];refine p8 _ _ ?_;exact hk
end
def uk(D:AD)(c:CD)(p:N3):iz:=⟨1,D.jG,p.1,p.2.1,bA (aO D.has p.1 p.2.1) p.2.2,c.w,0⟩
def d_(L:List L4)(P:List N3):List N3:=P.filter λp=>!cL L p
theorem Nl(L:List L4)(P:List N3):(d_ L P).length<=P.length:=List.length_filter_le _ _
def xz(P:List N3):Prop:=∀p∈P,bf p.1 p.2.1≠-1/\kn p.2.2=true/\p.2.2≠0
section
variable {h h':af}{E:EN}{G:GT}{N n:Nat}{y:iz}{out:Int}{D:AD}{kb:Nat}{c:CD}
theorem hdN{v:Value}{p:N3}{P:List N3}(s:fF lZ 160 h v (p::P)):∃b o,b<h.nx/\(∀(β:Type)(fl:β)(h':af)(V:UV β),aI fl 3 v (YYY 0) h' V=V (.pointer (some ⟨b,o,none⟩)) h')/\
  (∀(β:Type)(fl:β)(V:List Value->β),wW fl (h.bl.get b) o 3 V=V (lZ p))/\(∀(β:Type)(fl:β)(V:List Value->β),wW fl (h.bl.get b) o 2 V=V [YYY p.1,YYY p.2.1]):=by
 obtain⟨b,o,h1,h2,h3,hh⟩:=s.sl.ld om 0 (p:=p) rfl;have hs:=hh.sub 0 2 (by show 0+2<=3;omega);rw[Nat.add_zero]at hs;exact⟨b,o,h1,h2,h3,λβ fl V=>oD hs 2 V rfl⟩
theorem hdG{v:Value}{g:L4}{G:List L4}(s:fE bS 4 46 h v (g::G)):∃b o,b<h.nx/\(∀(β:Type)(fl:β)(h':af)(V:UV β),aI fl 4 v (YYY 0) h' V=V (.pointer (some ⟨b,o,none⟩)) h')/\
  (∀(β:Type)(fl:β)(V:List Value->β),wW fl (h.bl.get b) o 4 V=V (bS g)):=by
 obtain⟨b,o,h1,h2,h3,_⟩:=(s.head cC).ld cC 0 (p:=g) rfl;exact⟨b,o,h1,h2,h3⟩
theorem upE{v:Value}{L:List N3}(p:fF lZ 160 h v L){b:Nat}{ws:List Value}{t:TypeId}{o:Bool}(ga:h.bl.get b=some (ai ws t o))(ht:t≠160)(ob:bL):fF lZ 160 ⟨h.nx,h.bl.bq b ob,h.lo⟩ v L:=
 p.keep (Nat.le_refl _) rfl λc vs hc hg=>T.ax _ _ (dh ga hg ht)
theorem upX{v:Value}{L:List L4}(p:fE bS 4 46 h v L){b:Nat}{ws:List Value}{t:TypeId}{o:Bool}(ga:h.bl.get b=some (ai ws t o))(ht:t≠46)(ob:bL):fE bS 4 46 ⟨h.nx,h.bl.bq b ob,h.lo⟩ v L:=
 p.keep (Nat.le_refl _) rfl λc vs hc hg=>T.ax _ _ (dh ga hg ht)
theorem kF.up{v:Value}{L:List L4}(s:kF h v L){b:Nat}{ws:List Value}{t:TypeId}{o:Bool}(ga:h.bl.get b=some (ai ws t o))(ht:t≠46)(ob:bL):kF ⟨h.nx,h.bl.bq b ob,h.lo⟩ v L:=
 s.keep (Nat.le_refl _) λc vs op hc hg=>T.ax _ _ (dh ga hg ht)
theorem Nn(hw:0<=c.w){p:N3}(ok:bf p.1 p.2.1≠-1/\kn p.2.2=true/\p.2.2≠0)(hk:kn (aO D.has p.1 p.2.1)=true):ni (uk D c p)=true:=by
 obtain⟨o1,o2,o3⟩:=ok;obtain⟨m1,m2,_⟩:=jm hk o2 o3;unfold ni uk;simp only[o1,m1,m2,hw,if_pos,ne_eq,not_false_eq_true,decide_true,Bool.and_true]
theorem U3(s:AW h E G N 0 y out D kb c)(l2:D.asked.length<=1000){b1:Nat}(hb1:b1<h.nx)(g1:h.bl.get b1=some (ai [pt E.z.ab] 60 false))(V:KQ)(k_:∀h',AW h' E G N 0 y out { D with asked:=cV D.asked ⟨D.jG,c.t,c.r,bA (aO D.asked c.t c.r) c.m⟩ } kb { c with code:=1 }->FK E.a h h'->V (.tuple ⟨[]⟩) h'):yL b1 (pt kb) h V:=by
 have hlo:=s.lo;obtain⟨va,vh,ga,sa,sh⟩:=s.ag;obtain⟨vn,vg,gk,p1,p2⟩:=s.c.g;have hlt:=s.c.lt;have oS:=s.g.Aj;have gk0:=gk;unfold c_ at gk;unfold yL;simp(disch:=try exact Y)only[Wz,aN,g1,ga,gk];obtain⟨hA,bh,aU,gA,eE,eG⟩:=nP h (ai [YYY 0,YYY 0,YYY 0,YYY 0] 46 false);rw[<-bh]
 try rw[show(h.bl.bq (h.nx) (ai [YYY 0,YYY 0,YYY 0,YYY 0] 46 false))=hA.bl by rw[bh]]
 clear bh;have No:=(aU.get _ hb1).trans g1;have zX:=(aU.get _ oS.1).trans ga;have AX:=(aU.get _ hlt.1).trans gk;refine kE D.asked c.t c.r hA va _ (sa.1.le aU) XQ XQ ?_;intro h2 bF;have n2:=bF.nx;have lo2:=bF.lo;have g12:=(bF.get _ XQ).trans No;have Np:=(bF.get _ XQ).trans zX;have U4:=(bF.get _ XQ).trans AX;have gA2:=(bF.get _ XQ).trans gA;simp(disch:=try exact Y)only[Wz,aN,g12,Np,U4,gA2];refine zd _ _ ?_;simp(disch:=try exact Y)only[Wz,aN,g12,Np,U4,gA2];have Li:=(aU.trans bF).set (Nat.le_refl h.nx) (ai [YYY D.jG,YYY c.t,YYY c.r,YYY (bA (aO D.asked c.t c.r) c.m)] 46 false);refine Lu D.asked ⟨D.jG,c.t,c.r,bA (aO D.asked c.t c.r) c.m⟩ _ va _ (sa.1.le Li) XQ (by show h2.lo<=h2.nx;omega) ?_;intro v' h3 TT cT;have kU:=Li.trans cT;have s4:=s.le kU;have lo4:=kU.lo;have n4:=kU.nx;obtain⟨x',c',rfl⟩:=TT.cell;have g14:=(kU.get _ hb1).trans g1;have ga4:=(kU.get _ oS.1).trans ga;have gk4:=(kU.get _ hlt.1).trans gk;have hkb:E.z.ab≠kb:=dh ga gk J0;simp(disch:=try exact Y)only[Wz,aN,g14,ga4,gk4];have q:=s4.RX (D':={ D with asked:=cV D.asked ⟨D.jG,c.t,c.r,bA (aO D.asked c.t c.r) c.m⟩ }) TT (sh.le kU) rfl;have q2:=q.1.Du (c':={ c with code:=1 }) (upE (p1.le kU) ga4 J0 _) (upX (p2.le kU) ga4 J0 _) s.c.DE;unfold c_ at q2;exact k_ _ q2.1 ((FK.le kU).trans (q.2.trans q2.2))
def um(E:EN)(D:AD)(p:N3):iz:=⟨3,-1-E.z.th,p.1,p.2.1,0,0,D.jG⟩
theorem Nq{p:N3}(ok:bf p.1 p.2.1≠-1)(hx:D.jG≠-1-E.z.th):ni (um E D p)=true:=by
 unfold ni um;simp[ok,hx]
theorem U5(s:AW h E G N 0 y out D kb c)(hN:N<=440)(lp:D.aL.length<=1000)(hx:D.jG≠-1-E.z.th)(l1:D.has.length<=1000)(hw:0<=c.w){p:N3}{P:List N3}(hc:c.dP=p::P)(ok:bf p.1 p.2.1≠-1/\kn p.2.2=true/\p.2.2≠0)(Qu:∀t r,kn (aO D.has t r)=true)(o:Int){b1:Nat}(hb1:b1<h.nx)(g1:h.bl.get b1=some (ai [pt E.z.ab] 60 false))(V:KQ)(dB:∀h',AW h' E G (N+1) 3 (uk D c p) o D kb { c with ask:=uk D c p }->FK E.a h h'->V (.tuple ⟨[]⟩) h')(hk2:aO D.has p.1 p.2.1=0->aO D.aL p.1 p.2.1≠0->∀h',AW h' E G (N+1) 3 (um E D p) o { D with aL:=cE D.aL p.1 p.2.1 } kb { c with ask:=um E D p,fQ:=aO D.aL p.1 p.2.1 }->FK E.a h h'->V (.tuple ⟨[]⟩) h'):yM (pt kb) b1 h V:=by
 have hlo:=s.lo;obtain⟨va,vh,ga,sa,sh⟩:=s.ag;obtain⟨vn,vg,gk,p1,p2⟩:=s.c.g;have hlt:=s.c.lt;have oS:=s.g.Aj;rw[hc]at p1;obtain⟨b0,o0,hb0,hx0,D6,_⟩:=hdN p1;have gk0:=gk;unfold c_ at gk;unfold yM;simp(disch:=try exact Y)only[Wz,aN,gk,hx0,D6,lZ,g1,ga];obtain⟨hA,bh,aU,gA,eE,eG⟩:=nP h (ai [YYY p.1,YYY p.2.1,YYY p.2.2] 160 false);rw[<-bh]
 try rw[show(h.bl.bq (h.nx) (ai [YYY p.1,YYY p.2.1,YYY p.2.2] 160 false))=hA.bl by rw[bh]]
 clear bh;have No:=(aU.get _ hb1).trans g1;have zX:=(aU.get _ oS.1).trans ga;have AX:=(aU.get _ hlt.1).trans gk;refine kE D.has p.1 p.2.1 hA vh _ (sh.1.le aU) XQ XQ ?_;intro h2 bF;have tV:=bF.nx;have tW:=bF.lo;have No:=(bF.get _ XQ).trans No;have zX:=(bF.get _ XQ).trans zX;have AX:=(bF.get _ XQ).trans AX;have gA:=(bF.get _ XQ).trans gA;simp(disch:=try exact Y)only[Wz,aN,No,gA];refine Nk (s.le (aU.trans bF)) p.1 p.2.1 (aO D.has p.1 p.2.1) XQ XQ _ ?_ ?_
 .intro h3 cT;have af7:=cT.nx;have af8:=cT.lo;have No:=(cT.get _ XQ).trans No;have zX:=(cT.get _ XQ).trans zX;have AX:=(cT.get _ XQ).trans AX;have gA:=(cT.get _ XQ).trans gA;have Gw:=(aU.trans bF).trans cT;simp(disch:=try exact Y)only[Wz,E4,aN,No,zX,AX,gA];refine zd _ _ ?_;simp(disch:=try exact Y)only[Wz,aN,No,zX,AX,gA];refine uj (s.le Gw) hN (uk D c p) (Nn hw ok (Qu _ _)) o _ ?_;intro h4 s4 f4;exact dB h4 s4 ((FK.le Gw).trans f4)
 .intro hH hP h3 vp cT s3;have af7:=cT.nx;have af8:=cT.lo;have No:=(cT.get _ XQ).trans No;have zX:=(cT.get _ XQ).trans zX;have AX:=(cT.get _ XQ).trans AX;have gA:=(cT.get _ XQ).trans gA;have Gw:=(aU.trans bF).trans cT;have sX:=s.le Gw;obtain⟨vq,gl,_⟩:=sX.g.gl;have fX:=(FK.le (a:=E.a) Gw).trans (FK.put (a:=E.a) gl (.inr (.inr (.inl rfl))) (ai [vp] 288 false));have g1B:(h3.bl.bq E.z.lb (ai [vp] 288 false)).get b1=_:=(T.ax _ _ (dh gl No J0)).trans No;have gAB:(h3.bl.bq E.z.lb (ai [vp] 288 false)).get h.nx=_:=(T.ax _ _ (dh gl gA J0)).trans gA;obtain⟨hB,eB⟩:∃hB:af,hB=⟨h3.nx,h3.bl.bq E.z.lb (ai [vp] 288 false),h3.lo⟩:=⟨_,rfl⟩
  have g1B:hB.bl.get b1=some (ai [pt E.z.ab] 60 false):=by rw[eB];exact g1B
  have gAB:hB.bl.get h.nx=some (ai [YYY p.1,YYY p.2.1,YYY p.2.2] 160 false):=by rw[eB];exact gAB
  rw[<-eB]at s3 fX ⊢;clear eB;obtain⟨va3,vh3,WW,sa3,sh3⟩:=s3.ag;obtain⟨vn3,vg3,Ju,p13,p23⟩:=s3.c.g;have aqh:=s3.c.lt;have hlB:=s3.g.Aj;have loB:=s3.lo;have kb1:kb≠b1:=dh Ju g1B J0;have kbA:kb≠h.nx:=dh Ju gAB J0;have kba:kb≠E.z.ab:=dh Ju WW J0;obtain⟨s4,f4⟩:=s3.Du (c':={ c with fQ:=aO D.aL p.1 p.2.1 }) p13 p23 s.c.DE;unfold c_ at Ju s4 f4;simp(disch:=try exact Y)only[Wz,E3,aN,Ju,g1B,WW,gAB];refine Jm s4.g _ ?_;simp(disch:=try exact Y)only[Wz,aN,Ju,g1B,WW,gAB];refine uj s4 hN (um E D p) (Nq ok.1 hx) o _ ?_;intro h5 s5 f5;exact hk2 hH hP h5 s5 ((fX.trans f4).trans f5)
theorem Ly(s:AW h E G N 0 y out D kb c)(hN:N<=440)(lp:D.aL.length<=1000)(hx:D.jG≠-1-E.z.th)(l1:D.has.length<=1000)(l2:D.asked.length<=1000)(l3:c.dP.length<=100)(hw:0<=c.w)(hm:kn c.m=true)(ok:xz c.dP)(Qu:∀t r,kn (aO D.has t r)=true)(o:Int)(V:KQ)(k_:d_ D.has c.dP=[]->∀h',AW h' E G N 0 y out { D with asked:=cV D.asked ⟨D.jG,c.t,c.r,bA (aO D.asked c.t c.r) c.m⟩ } kb { c with dP:=[],code:=1 }->FK E.a h h'->V (.tuple ⟨[]⟩) h')(dB:∀p P,d_ D.has c.dP=p::P->∀h',AW h' E G (N+1) 3 (uk D c p) o D kb { c with dP:=p::P,ask:=uk D c p }->FK E.a h h'->V (.tuple ⟨[]⟩) h')(hk2:∀p P,d_ D.has c.dP=p::P->aO D.has p.1 p.2.1=0->aO D.aL p.1 p.2.1≠0->∀h',AW h' E G (N+1) 3 (um E D p) o { D with aL:=cE D.aL p.1 p.2.1 } kb { c with dP:=p::P,ask:=um E D p,fQ:=aO D.aL p.1 p.2.1 }->FK E.a h h'->V (.tuple ⟨[]⟩) h'):aj prog 131 [pt E.z.ab] h V:=by
 have hlo:=s.lo;apply YYZ;rw[Ye];simp(disch:=try exact Y)only[Wz];obtain⟨hA,bh,aU,g1,eE,eG⟩:=nP h (ai [pt E.z.ab] 60 false);rw[<-bh]
 try rw[show(h.bl.bq (h.nx) (ai [pt E.z.ab] 60 false))=hA.bl by rw[bh]]
 clear bh;have sA:=s.le aU;obtain⟨va,vh,ga,sa,sh⟩:=sA.ag;obtain⟨vn,vg,gk,p1,p2⟩:=sA.c.g;have hlt:=sA.c.lt;have oS:=sA.g.Aj;unfold c_ at gk;simp(disch:=try exact Y)only[Wz,aN,g1,ga,gk];refine EG mixed om qk J0 (za:=(0,0,0)) rfl J0 abo abp hA c.dP (cL D.has) vn _ _ p1 XQ XQ ?_ ?_
 .intro p h1 κ1 lv dB;have n1:=lv.nx;have lo1:=lv.lo;have kt:=ktV lv p1;simp(disch:=try exact Y)only[Wz,List.nil_append];exact U2 p D.has h.nx E.z.ab h1 _ _ _ _ _ _ _ κ1 XQ ((kt.ty _ _ _ _ XQ g1 J0).trans g1) XQ ((kt.ty _ _ _ _ oS.1 ga J0).trans ga) XQ (sh.ka (kt.mono λt ht=>by rintro rfl;revert ht;unfold M_;decide)).1 XQ dB
 ·intro v' h1 pe lv shp;have n1:=lv.nx;have lo1:=lv.lo;have kt:=ktV lv p1;have w1:WJ h1 E.A E.a G N 0 y out:=by
   refine sA.w.leV lv (λd hd=>?_) (λd d' hd hd'=>?_) (λd hd=>?_)
   .obtain⟨q1,vs,q2⟩:=p1.blk hd;exact⟨q1,vs,true,q2⟩
   .obtain⟨o1,n1,c1,e1⟩:=hd;obtain⟨o2,n2,c2,e2⟩:=hd';rw[e1]at e2;cases e2;rfl
   .rcases shp with e|⟨b,m,m',e1,e2⟩
    .rw[e]at pe;exact⟨_,(pe.blk hd).2.choose_spec⟩
    .obtain⟨o1,n1,c1,e3⟩:=hd;rw[e1]at e3;cases e3;exact⟨_,(pe.blk ⟨0,m',aW,e2⟩).2.choose_spec⟩
  have f1:FK E.a hA h1:=FK.leV lv λd hd=>by
   obtain⟨_,vs,q2⟩:=p1.blk hd;exact⟨vs,true,q2⟩
  have a1:=sA.g.kt (kt.mono λt ht=>by rintro rfl;revert ht;unfold M_;decide);have SG:=(kt.ty _ _ _ _ hlt.1 gk J0).trans gk;have U6:=(kt.ty _ _ _ _ oS.1 ga J0).trans ga;have g11:=(kt.ty _ _ _ _ XQ g1 J0).trans g1;have p21:fE bS 4 46 h1 vg c.goes:=p2.keep n1 lo1 λd vs hd hg=>kt.ty d vs _ _ hd hg J0;have kl1:kb<h1.nx/\h1.lo<=kb:=⟨XQ,XQ⟩
  have hkb:kb≠h.nx:=dh gk g1 J0;have hab:E.z.ab≠kb:=λe=>dh gk ga J0 e.symm;have e7:(d_ D.has c.dP).length<=100:=by have:=Nl D.has c.dP;omega
  have s2:AW ⟨h1.nx,h1.bl.bq kb (c_ E.z { c with dP:=d_ D.has c.dP } v' vg),h1.lo⟩ E G N 0 y out D kb { c with dP:=d_ D.has c.dP }:=
   ⟨w1.put SG (by unfold o_;decide) (by unfold nj;decide) _,a1.put SG (.inl rfl) _,.mk' kl1 SG pe p21 s.c.DE,s.wb,s.th⟩
  have f2:=(((FK.le aU).trans f1).trans (FK.put (a:=E.a) SG (.inr (.inl rfl)) (c_ E.z { c with dP:=d_ D.has c.dP } v' vg)))
  obtain⟨x',c',e'⟩:=pe.cell;have e9:(List.filter (λp=>!cL D.has p) c.dP)=d_ D.has c.dP:=rfl;rw[e9]at e' pe;subst e';unfold c_ at s2 f2;cases hL:d_ D.has c.dP with
  |nil=>
   rw[hL]at s2 f2;simp(disch:=try exact Y)only[Wz,aN,SG,hL,List.length_nil];refine U3 s2 l2 (by show h.nx<h1.nx;omega) ((T.ax _ _ hkb).trans g11) _ ?_;intro h3 s3 f3;exact k_ hL h3 s3 (f2.trans f3)
  |cons p P=>
   rw[hL]at s2 f2;have okp:=ok p (by
    have:p∈d_ D.has c.dP:=by rw[hL];exact .head _
    exact(List.mem_filter.1 this).1)
   simp(disch:=try exact Y)only[Wz,aN,SG,hL,List.length_cons];refine U5 s2 hN lp hx l1 hw rfl okp Qu o (by show h.nx<h1.nx;omega) ((T.ax _ _ hkb).trans g11) _ ?_ ?_
   .intro h3 s3 f3;exact dB p P hL h3 s3 (f2.trans f3)
   .intro hH hP h3 s3 f3;exact hk2 p P hL hH hP h3 s3 (f2.trans f3)
end
section
variable {h h':af}{E:EN}{G:GT}{N n:Nat}{y:iz}{out:Int}{D:AD}{kb:Nat}{c:CD}
theorem Nr(s:AW h E G N 0 y out D kb c){p:N3}{P:List N3}(hc:c.dP=p::P)(h3:c.ask.k=1)(l1:D.has.length<=1000)(code:Int)(V:KQ)(T6:code≠1->∀h',AW h' E G N 0 y out D kb { c with code:=code }->FK E.a h h'->V (.tuple ⟨[]⟩) h')(hkG:code=1->∀h',AW h' E G N 0 y out { D with has:=cV D.has ⟨D.jG,p.1,p.2.1,c.ask.m⟩ } kb c->FK E.a h h'->aj prog 131 [pt E.z.ab] h' λ_ h=>V (.tuple ⟨[]⟩) h):aj prog 126 [pt E.z.ab,YYY code] h V:=by
 have hlo:=s.lo;obtain⟨va,vh,ga,sa,sh⟩:=s.ag;obtain⟨vn,vg,gk,p1,p2⟩:=s.c.g;have hlt:=s.c.lt;have oS:=s.g.Aj;have p1':=p1;rw[hc]at p1';obtain⟨b0,o0,hb0,hx0,_,D6⟩:=hdN p1';have gk0:=gk;unfold c_ at gk;apply YYZ;rw[PN];simp(disch:=try exact Y)only[Wz,aN,ga,gk,hx0,D6];obtain⟨hA,bh,aU,gA,eE,eG⟩:=nP h (ai [YYY p.1,YYY p.2.1] 28 false);rw[<-bh]
 try rw[show(h.bl.bq (h.nx) (ai [YYY p.1,YYY p.2.1] 28 false))=hA.bl by rw[bh]]
 clear bh;have sA:=s.le aU;have zX:=(aU.get _ oS.1).trans ga;have AX:=(aU.get _ hlt.1).trans gk;by_cases rH:code=1
 .refine⟨λl' h'=>ah l' 10=YYY c.ask.m/\HQ hA h',?_,?_⟩
  .simp(disch:=try exact Y)only[Wz,tD,aN,AX,aZ (show ¬c.ask.k=3 by omega),yH,bx rH];exact⟨by first|rfl|trivial,rfl⟩
  .rintro l' h' ⟨e1,hE⟩;cases(show hA=h' from hE);simp(disch:=try exact Y)only[Wz,yJ];refine⟨λl2 h2=>AW h2 E G N 0 y out { D with has:=cV D.has ⟨D.jG,p.1,p.2.1,c.ask.m⟩ } kb c/\FK E.a h h2,?_,?_⟩
   .simp(disch:=try exact Y)only[Wz,bx rH,yI,aN,zX,gA,e1];refine Lu D.has ⟨D.jG,p.1,p.2.1,c.ask.m⟩ hA vh _ (sh.1.le aU) XQ XQ ?_;intro v' h2 hs2 bF;have n2:=bF.nx;have lo2:=bF.lo;have s2:=sA.le bF;have Np:=(bF.get _ XQ).trans zX;obtain⟨x',c',rfl⟩:=hs2.cell;simp(disch:=try exact Y)only[Wz,aN,Np];have q:=s2.RX (D':={ D with has:=cV D.has ⟨D.jG,p.1,p.2.1,c.ask.m⟩ }) ((sa.le aU).le bF) hs2 rfl;exact⟨q.1,((FK.le aU).trans (FK.le bF)).trans q.2⟩
   .rintro l2 h2 ⟨s2,f2⟩;exact hkG rH h2 s2 f2
 .refine⟨λ_ _=>False,?_,λ_ _ hf=>hf.elim⟩;simp(disch:=try exact Y)only[Wz,tD,aN,AX,aZ (show ¬c.ask.k=3 by omega),yH,aZ rH];have q:=sA.Du (c':={ c with code:=code }) (p1.keep aU.nx aU.lo λd _ hd _=>aU.get d hd) (p2.keep aU.nx aU.lo λd _ hd _=>aU.get d hd) s.c.DE;unfold c_ at q;exact T6 rH _ q.1 ((FK.le aU).trans q.2)
theorem Jv(s:AW h E G N 0 y out D kb c){p:N3}{P:List N3}(hc:c.dP=p::P)(h3:c.ask.k=3)(l1:D.has.length<=1000)(code:Int)(V:KQ)(T6:code≠1->∀h',AW h' E G N 0 y out D kb c->FK E.a h h'->aj prog 131 [pt E.z.ab] h' λ_ h=>V (.tuple ⟨[]⟩) h)(hkG:code=1->∀h',AW h' E G N 0 y out { D with has:=cV D.has ⟨D.jG,p.1,p.2.1,c.fQ⟩ } kb c->FK E.a h h'->aj prog 131 [pt E.z.ab] h' λ_ h=>V (.tuple ⟨[]⟩) h):aj prog 126 [pt E.z.ab,YYY code] h V:=by
 have hlo:=s.lo;obtain⟨va,vh,ga,sa,sh⟩:=s.ag;obtain⟨vn,vg,gk,p1,p2⟩:=s.c.g;have hlt:=s.c.lt;have oS:=s.g.Aj;have p1':=p1;rw[hc]at p1';obtain⟨b0,o0,hb0,hx0,_,D6⟩:=hdN p1';have gk0:=gk;unfold c_ at gk;apply YYZ;rw[PN];simp(disch:=try exact Y)only[Wz,aN,ga,gk,hx0,D6];obtain⟨hA,bh,aU,gA,eE,eG⟩:=nP h (ai [YYY p.1,YYY p.2.1] 28 false);rw[<-bh]
 try rw[show(h.bl.bq (h.nx) (ai [YYY p.1,YYY p.2.1] 28 false))=hA.bl by rw[bh]]
 clear bh;have sA:=s.le aU;have zX:=(aU.get _ oS.1).trans ga;have AX:=(aU.get _ hlt.1).trans gk;refine⟨λl' h'=>ah l' 10=YYY c.fQ/\HQ hA h',?_,?_⟩
 .simp(disch:=try exact Y)only[Wz,tD,aN,AX,bx h3];exact⟨by first|rfl|trivial,rfl⟩
 .rintro l' h' ⟨e1,hE⟩;cases(show hA=h' from hE);simp(disch:=try exact Y)only[Wz,yJ];by_cases rH:code=1
  .refine⟨λl2 h2=>AW h2 E G N 0 y out { D with has:=cV D.has ⟨D.jG,p.1,p.2.1,c.fQ⟩ } kb c/\FK E.a h h2,?_,?_⟩
   .simp(disch:=try exact Y)only[Wz,bx rH,yI,aN,zX,gA,e1];refine Lu D.has ⟨D.jG,p.1,p.2.1,c.fQ⟩ hA vh _ (sh.1.le aU) XQ XQ ?_;intro v' h2 hs2 bF;have n2:=bF.nx;have lo2:=bF.lo;have s2:=sA.le bF;have Np:=(bF.get _ XQ).trans zX;obtain⟨x',c',rfl⟩:=hs2.cell;simp(disch:=try exact Y)only[Wz,aN,Np];have q:=s2.RX (D':={ D with has:=cV D.has ⟨D.jG,p.1,p.2.1,c.fQ⟩ }) ((sa.le aU).le bF) hs2 rfl;exact⟨q.1,((FK.le aU).trans (FK.le bF)).trans q.2⟩
   .rintro l2 h2 ⟨s2,f2⟩;exact hkG rH h2 s2 f2
  .refine⟨λl2 h2=>HQ hA h2,?_,?_⟩
   .simp(disch:=try exact Y)only[Wz,aZ rH];exact rfl
   .rintro l2 h2 hE2;cases(show hA=h2 from hE2);exact T6 rH hA sA (FK.le aU)
end
def wo(E:EN)(D:AD)(g:L4):iz:=if vl g.t g.r g.m=true/\0<E.z.most-D.aL.length then⟨3,D.jG,g.t,g.r,0,0,-1-E.z.th⟩else⟨2,D.jG,g.t,g.r,0,0,0⟩
section
variable {h h':af}{E:EN}{G:GT}{N n:Nat}{y:iz}{out:Int}{D:AD}{kb:Nat}{c:CD}
theorem U7{g:L4}(ok:bf g.t g.r≠-1)(hx:D.jG≠-1-E.z.th):ni (wo E D g)=true:=by
 unfold ni wo;split
 .simp[ok,hx.symm]
 .simp[ok]
theorem U8(s:AW h E G N 0 y out D kb c)(hN:N<=440)(hm:0<=E.z.most/\E.z.most<=8)(lp:D.aL.length<=1000)(lg:c.goes.length<=1000)(okG:∀g∈c.goes,bf g.t g.r≠-1)(hx:D.jG≠-1-E.z.th)(o:Int)(V:KQ)(k_:c.goes=[]->∀h',AW h' E G N 0 y out { D with jG:=0,asked:=[],has:=[] } kb { c with code:=1 }->FK E.a h h'->V (.tuple ⟨[]⟩) h')(dB:∀g Q,c.goes=g::Q->∀h',AW h' E G (N+1) 3 (wo E D g) o D kb { c with ask:=wo E D g }->FK E.a h h'->V (.tuple ⟨[]⟩) h'):aj prog 193 [pt E.z.ab] h V:=by
 have hlo:=s.lo;obtain⟨va,vh,ga,sa,sh⟩:=s.ag;obtain⟨vn,vg,gk,p1,p2⟩:=s.c.g;have hlt:=s.c.lt;have oS:=s.g.Aj;have hkb:E.z.ab≠kb:=dh ga gk J0;obtain⟨vx,vc,ev⟩:=p2.cell;have hlen:=p2.len (β:=Prop) (fl:=False);unfold c_ at gk;apply YYZ;rw[YJ];simp(disch:=try exact Y)only[Wz,aN,ga,gk,hlen];cases hc:c.goes with
 |nil=>
  simp(disch:=try exact Y)only[Wz,List.length_nil,Fi,aN,ga,gk];have q:=s.RX (D':={ D with jG:=0,asked:=[],has:=[] }) (kF.nil h) (kF.nil h) rfl;have q2:=q.1.Du (c':={ c with code:=1 }) (upE p1 ga J0 _) (upX p2 ga J0 _) s.c.DE;unfold c_ at q2;exact k_ hc _ q2.1 (q.2.trans q2.2)
 |cons g Q=>
  have p2':=p2;rw[hc]at p2';obtain⟨b0,o0,hb0,hx0,D6⟩:=hdG p2';have okg:=okG g (by rw[hc];exact .head _);have lG:(g::Q).length<=1000:=by rw[<-hc];exact lg
  have lG':Q.length+1<=1000:=by simpa using lG
  simp(disch:=try exact Y)only[Wz,List.length_cons,Fj,aN,ga,gk,hx0,D6,bS];obtain⟨hA,bh,aU,gA,gB,eE,eG⟩:=L8 h (ai [YYY g.x,YYY g.t,YYY g.r,YYY g.m] 46 false) (ai [YYY 2,YYY D.jG,YYY g.t,YYY g.r,YYY 0,YYY 0,YYY 0] 31 false);rw[<-bh]
  try rw[show((h.bl.bq (h.nx) (ai [YYY g.x,YYY g.t,YYY g.r,YYY g.m] 46 false)).bq (h.nx+1) (ai [YYY 2,YYY D.jG,YYY g.t,YYY g.r,YYY 0,YYY 0,YYY 0] 31 false))=hA.bl by rw[bh]]
  clear bh;have sA:=s.le aU;have zX:=(aU.get _ oS.1).trans ga;refine⟨λl' h1=>Le h h1/\h.nx+1<h1.nx/\h1.bl.get (h.nx+1)=some (ai (Dk (wo E D g)) 31 false),?_,?_⟩
  .simp(disch:=try exact Y)only[Wz,Fh,gA];refine zU g.t g.r g.m ?_;cases he:vl g.t g.r g.m with
   |false=>
    have e9:wo E D g=⟨2,D.jG,g.t,g.r,0,0,0⟩:=by unfold wo;rw[if_neg (by rw[he];simp)]
    simp(disch:=try exact Y)only[Wz];rw[e9];exact⟨aU,XQ,gB⟩
   |true=>
    simp(disch:=try exact Y)only[Wz,aN,zX];refine Lv sA.g XQ hm _ ?_;by_cases hr:0<E.z.most-D.aL.length
    .have e9:wo E D g=⟨3,D.jG,g.t,g.r,0,0,-1-E.z.th⟩:=by unfold wo;rw[if_pos ⟨he,hr⟩]
     simp(disch:=try exact Y)only[Wz,fm hr,Fg,aN,zX];refine Jm sA.g _ ?_;simp(disch:=try exact Y)only[Wz,gB];rw[e9];exact⟨aU.set XQ _,XQ,rfl⟩
    .have e9:wo E D g=⟨2,D.jG,g.t,g.r,0,0,0⟩:=by unfold wo;rw[if_neg (λe=>hr e.2)]
     simp(disch:=try exact Y)only[Wz,dF (show E.z.most-D.aL.length<=0 by omega)];rw[e9];exact⟨aU,XQ,gB⟩
  .rintro l' h1 ⟨bN,lt1,g1⟩;unfold Dk at g1;simp(disch:=try exact Y)only[Wz,g1];refine uj (s.le bN) hN (wo E D g) (U7 okg hx) o _ ?_;intro h8 s8 f8;exact dB g Q hc h8 s8 ((FK.le bN).trans f8)
def rI(E:EN)(D:AD)(c:CD)(g:L4)(code:Int):AD:={ D with has:=cE D.has g.t g.r,aL:=if c.ask.k=3/\code=1 then Dr E.z.most (-1-E.z.th) D.aL g.t g.r g.m else D.aL }
theorem Ns(s:AW h E G N 0 y out D kb c)(hm:0<=E.z.most/\E.z.most<=8)(l1:D.has.length<=1000)(lp:D.aL.length<=1000){g:L4}{Q:List L4}(hc:c.goes=g::Q)(code:Int)(V:KQ)(hk:∀h',AW h' E G N 0 y out (rI E D c g code) kb { c with goes:=Q }->FK E.a h h'->aj prog 193 [pt E.z.ab] h' λ_ h=>V (.tuple ⟨[]⟩) h):aj prog 191 [pt E.z.ab,YYY code] h V:=by
 have hlo:=s.lo;obtain⟨va,vh,ga,sa,sh⟩:=s.ag;obtain⟨vn,vg,gk,p1,p2⟩:=s.c.g;have hlt:=s.c.lt;have oS:=s.g.Aj;have p2':=p2;rw[hc]at p2';obtain⟨b0,o0,hb0,hx0,D6⟩:=hdG p2';have gk0:=gk;unfold c_ at gk;apply YYZ;rw[YH];simp(disch:=try exact Y)only[Wz,aN,ga,gk,hx0,D6,bS];obtain⟨hA,bh,aU,gA,eE,eG⟩:=nP h (ai [YYY g.x,YYY g.t,YYY g.r,YYY g.m] 46 false);rw[<-bh]
 try rw[show(h.bl.bq (h.nx) (ai [YYY g.x,YYY g.t,YYY g.r,YYY g.m] 46 false))=hA.bl by rw[bh]]
 clear bh;have sA:=s.le aU;have zX:=(aU.get _ oS.1).trans ga;have AX:=(aU.get _ hlt.1).trans gk;obtain⟨u,pu,hu⟩:=(p2'.le aU).tail cC J0;obtain⟨ux,uc,eu⟩:=pu.cell;subst eu;have q1:=sA.Du (c':={ c with goes:=Q }) (p1.le aU) pu s.c.DE;have hne:kb≠h.nx:=dh AX gA J0;have hab:E.z.ab≠kb:=dh zX AX J0;have f1:=(FK.le (a:=E.a) aU).trans q1.2;obtain⟨h1,e1⟩:∃h1:af,h1=⟨hA.nx,hA.bl.bq kb (c_ E.z { c with goes:=Q } vn (.slice ux Q.length uc)),hA.lo⟩:=⟨_,rfl⟩
 have s1:AW h1 E G N 0 y out D kb { c with goes:=Q }:=by rw[e1];exact q1.1
 have f1:FK E.a h h1:=by rw[e1];exact f1
 have gA1:h1.bl.get h.nx=some (ai [YYY g.x,YYY g.t,YYY g.r,YYY g.m] 46 false):=by rw[e1];exact(T.ax _ _ hne).trans gA
 have n1:h.nx<h1.nx:=by rw[e1];show h.nx<hA.nx;omega
 have U6:h1.bl.get E.z.ab=some (ai [pt E.A.wb,YYY 0,YYY D.jG,va,vh,pt E.z.pb,pt kb] 155 false):=by rw[e1];exact(T.ax _ _ (λe=>hab e.symm)).trans zX
 have sa1:kF h1 va D.asked:=by rw[e1];exact(sa.le aU).up AX J0 _
 have sh1:kF h1 vh D.has:=by rw[e1];exact(sh.le aU).up AX J0 _
 unfold c_ at e1;simp(disch:=try exact Y)only[Wz,aN,AX,hu];rw[<-e1];clear e1;obtain⟨vn1,vg1,SG,p11,p21⟩:=s1.c.g;have ak_:=s1.c.lt;have ala:=s1.g.Aj;have lo1:=s1.lo;simp(disch:=try exact Y)only[Wz,aN,zX,U6,gA1];refine RG D.has g.t g.r h1 vh _ sh1.1 XQ XQ ?_;intro v' h2 hs2 bF;have s2:=s1.le bF;obtain⟨x',c',rfl⟩:=hs2.cell;have Np:=(bF.get _ ala.1).trans U6;have gA2:=(bF.get _ n1).trans gA1;have n2:=bF.nx;have lo2:=bF.lo;have C2:E.z.ab≠h.nx:=dh Np gA2 J0;have q3:=s2.RX (D':={ D with has:=cE D.has g.t g.r }) (sa1.le bF) hs2 rfl;have f3:=(f1.trans (FK.le bF)).trans q3.2;obtain⟨h3,e3⟩:∃h3:af,h3=⟨h2.nx,h2.bl.bq E.z.ab (ai [pt E.A.wb,YYY 0,YYY D.jG,va,.slice x' (cE D.has g.t g.r).length c',pt E.z.pb,pt kb] 155 false),h2.lo⟩:=⟨_,rfl⟩
 have s3:AW h3 E G N 0 y out { D with has:=cE D.has g.t g.r } kb { c with goes:=Q }:=by rw[e3];exact q3.1
 have f3:FK E.a h h3:=by rw[e3];exact f3
 have gA3:h3.bl.get h.nx=some (ai [YYY g.x,YYY g.t,YYY g.r,YYY g.m] 46 false):=by rw[e3];exact(T.ax _ _ C2).trans gA2
 have n3:h.nx<h3.nx:=by rw[e3];show h.nx<h2.nx;omega
 simp(disch:=try exact Y)only[Wz,aN,Np];rw[<-e3];clear e3;obtain⟨va3,vh3,WW,sa3,sh3⟩:=s3.ag;obtain⟨vn3,vg3,Ju,p13,p23⟩:=s3.c.g;have lo3:=s3.lo;unfold c_ at Ju;refine⟨λl' h'=>AW h' E G N 0 y out (rI E D c g code) kb { c with goes:=Q }/\FK E.a h h',?_,?_⟩
 .by_cases uO:c.ask.k=3
  .by_cases hcd:code=1
   .simp(disch:=try exact Y)only[Wz,tE,aN,Ju,bx uO,bx hcd,Ff,WW,gA3];refine abg s3.g (by show D.aL.length<=100000;omega) XQ hm g.t g.r g.m _ ?_;intro u4 h4 h5 kU hor g5;have s4:=s3.le kU;obtain⟨vp,gl,_⟩:=s4.g.gl;have e5:rI E D c g code={ ({ D with has:=cE D.has g.t g.r }:AD)with aL:=Dr E.z.most (-1-E.z.th) D.aL g.t g.r g.m }:=by unfold rI;rw[if_pos ⟨uO,hcd⟩]
    rcases hor with rfl|⟨vp',rfl⟩
    .refine⟨⟨s4.w,?_,s4.c,s4.wb,s4.th⟩,f3.trans (FK.le kU)⟩;rw[e5];exact g5
    .refine⟨⟨s4.w.put gl (by unfold o_;decide) (by unfold nj;decide) _,?_,s4.c.put gl (.inr rfl) _,s4.wb,s4.th⟩,(f3.trans (FK.le kU)).trans (FK.put gl (.inr (.inr (.inl rfl))) _)⟩;rw[e5];exact g5
   .have e5:rI E D c g code={ D with has:=cE D.has g.t g.r }:=by unfold rI;rw[if_neg (λe=>hcd e.2)]
    simp(disch:=try exact Y)only[Wz,tE,aN,Ju,bx uO,aZ hcd];rw[e5];exact⟨s3,f3⟩
  .have e5:rI E D c g code={ D with has:=cE D.has g.t g.r }:=by unfold rI;rw[if_neg (λe=>uO e.1)]
   simp(disch:=try exact Y)only[Wz,tE,aN,Ju,aZ uO];rw[e5];exact⟨s3,f3⟩
 .rintro l' h' ⟨s',f'⟩;exact hk h' s' f'
theorem RZ(s:AW h E G N 0 y out D kb c)(hp:D.aL=[])(l1:D.has.length<20)(okH:∀g∈D.has,bf g.t g.r≠-1)(V:KQ)(hk:∀O h',O.Perm D.has->AW h' E G N 0 y out D kb { c with RJ:=191,goes:=O }->FK E.a h h'->aj prog 193 [pt E.z.ab] h' λ_ h=>V (.tuple ⟨[]⟩) h):aj prog 136 [pt E.z.ab] h V:=by
 have hlo:=s.lo;obtain⟨va,vh,ga,sa,sh⟩:=s.ag;have oS:=s.g.Aj;apply YYZ;rw[PS];simp(disch:=try exact Y)only[Wz,aN,ga];refine xx s.g (by rw[hp];exact Nat.zero_le _) hlo _ ?_;intro v2 h2 mj bF;have n2:=bF.nx;have l2:=bF.lo;rw[hp]at mj;have hlen:=mj.sl.len (β:=Prop) (fl:=False);have s2:=s.le bF;have Np:=(bF.get _ oS.1).trans ga;obtain⟨vn2,vg2,U4,p12,p22⟩:=s2.c.g;have alb:=s2.c.lt;unfold c_ at U4;simp(disch:=try exact Y)only[Wz,hlen,List.length_nil,E6,aN,Np];refine UN D.has h2 vh _ (sh.1.le bF) l1 XQ okH ?_;intro O v3 h3 hO po cT;have n3:=cT.nx;have lo3:=cT.lo;have s3:=s2.le cT;have Ju:=(cT.get _ alb.1).trans U4;obtain⟨x3,c3,e3⟩:=po.cell;subst e3;have q:=s3.Du (c':={ c with RJ:=191,goes:=O }) (p12.le cT) po s.c.DE;unfold c_ at q;simp(disch:=try exact Y)only[Wz,aN,Ju,ql];exact hk O _ hO q.1 ((FK.le (bF.trans cT)).trans q.2)
def oN(E:EN)(g:L4):iz:=⟨2,-1-E.z.th,g.t,g.r,0,0,0⟩
theorem Jw{g:L4}(h:bf g.t g.r≠-1):ni (oN E g)=true:=by
 unfold ni oN;simp[h]
theorem Nt(s:AW h E G N 0 y out D kb c)(hN:N<=440)(lp:D.aL.length<=1000){g:L4}{Q:List L4}(hp:D.aL=g::Q)(hg:aO D.aL g.t g.r≠0)(ok:bf g.t g.r≠-1)(o:Int)(V:KQ)(hk:∀h',AW h' E G (N+1) 3 (oN E g) o { D with aL:=cE D.aL g.t g.r } kb { c with ask:=oN E g }->FK E.a h h'->V (.tuple ⟨[]⟩) h'):aj prog 136 [pt E.z.ab] h V:=by
 have hlo:=s.lo;obtain⟨va,vh,ga,sa,sh⟩:=s.ag;have oS:=s.g.Aj;have LA:0<D.aL.length:=by rw[hp];exact Nat.succ_pos _
 apply YYZ;rw[PS];simp(disch:=try exact Y)only[Wz,aN,ga];refine xx s.g XQ hlo _ ?_;intro v2 h2 mj bF;have n2:=bF.nx;have l2:=bF.lo;have hlen:=mj.sl.len (β:=Prop) (fl:=False);have s2:=s.le bF;have Np:=(bF.get _ oS.1).trans ga;have sv2:=kF.own mj;obtain⟨b,ob,hb,hx,hr4,HK,_⟩:=ldP sv2.1 0 (p:=g) (by rw[hp];rfl);have hx:∀(β:Type)(fl:β)(h':af)(V:UV β),aI fl 4 v2 (YYY 0) h' V=V (.pointer (some ⟨b,ob,none⟩)) h':=hx;simp(disch:=try exact Y)only[Wz,hlen,fm (show(0:Int)<(D.aL.length:Int)by omega),E5,aN,Np,hx,HK];refine Lx s2.g XQ XQ g.t g.r hg _ ?_;intro h3 vp cT g3;have s3:=s2.le cT;obtain⟨vq,gl,_⟩:=s3.g.gl;have sv3:=(sv2.le cT).up gl J0 (ai [vp] 288 false);have sB:AW ⟨h3.nx,h3.bl.bq E.z.lb (ai [vp] 288 false),h3.lo⟩ E G N 0 y out { D with aL:=cE D.aL g.t g.r } kb c:=⟨s3.w.put gl (by unfold o_;decide) (by unfold nj;decide) _,g3,s3.c.put gl (.inr rfl) _,s3.wb,s3.th⟩
 have fB:=((FK.le (a:=E.a) bF).trans (FK.le cT)).trans (FK.put (a:=E.a) gl (.inr (.inr (.inl rfl))) (ai [vp] 288 false));obtain⟨hB,eB⟩:∃hB:af,hB=⟨h3.nx,h3.bl.bq E.z.lb (ai [vp] 288 false),h3.lo⟩:=⟨_,rfl⟩
 rw[<-eB]at sB fB sv3 ⊢;clear eB;obtain⟨b',ob',hb',hx',aqs,aga,_⟩:=ldP sv3.1 0 (p:=g) (by rw[hp];rfl);have eb:=(hx Value undef h λv _=>v).symm.trans (hx' Value undef h λv _=>v);cases eb;obtain⟨vaB,vhB,gaB,_,_⟩:=sB.ag;simp(disch:=try exact Y)only[Wz,aN,gaB,hx,aga,sv2.2.2];refine Jm sB.g _ ?_;simp(disch:=try exact Y)only[Wz,aN,gaB,hx,aga,sv2.2.2];refine uj sB hN (oN E g) (Jw ok) o _ ?_;intro h5 s5 f5;exact hk h5 s5 (fB.trans f5)
theorem U9(code:Int)(V:KQ)(hk:aj prog 136 [pt E.z.ab] h λ_ h=>V (.tuple ⟨[]⟩) h):aj prog 135 [pt E.z.ab,YYY code] h V:=by
 apply YYZ;rw[Yf];exact hk
end
theorem agb(h:af)(b o:Nat):mQ prog h 100 60 (.pointer (some ⟨b,o,none⟩)) (.pointer none)=some false:=by kernel_rfl
theorem jO{β:Type}{fl:β}(cn:Bool)(b o:Nat)(h:af)(V:UV β):aF fl prog .eql 60 cn false (.pointer (some ⟨b,o,none⟩)) (.pointer none) h V=V (.bool false) h:=by simp only[aF,agb,bX]
theorem U_{β:Type}{fl:β}(cn:Bool)(b o:Nat)(h:af)(V:UV β):aF fl prog .neq 60 cn false (.pointer (some ⟨b,o,none⟩)) (.pointer none) h V=V (.bool true) h:=by simp only[aF,agb,bX,Bool.not_false]
theorem alc(h:af)(b o:Nat):mQ prog h 100 153 (.pointer (some ⟨b,o,none⟩)) (.pointer none)=some false:=by kernel_rfl
theorem agc(h:af):mQ prog h 100 153 (.pointer none) (.pointer none)=some true:=by kernel_rfl
theorem Hr{β:Type}{fl:β}(cn:Bool)(o:Option Nat)(h:af)(V:UV β):aF fl prog .neq 153 cn false (dM o) (.pointer none) h V=V (.bool o.isSome) h:=by
 cases o with
 |none=>simp only[dM,aF,agc,bX,Bool.not_true];rfl
 |some b=>simp only[dM,aF,alc,bX,Bool.not_false];rfl
structure AI(h:af)(E:EN)(G:GT)(N:Nat)(D:AD):Prop where
 w:∀y out,WJ h E.A E.a G N 0 y out
 g:jb h E.z D none
 wb:E.z.wb=E.A.wb
 th:E.z.th=0
section
variable {h h':af}{E:EN}{G:GT}{N n:Nat}{y:iz}{out:Int}{D:AD}{kb:Nat}{c:CD}
theorem AI.le(s:AI h E G N D)(l:Le h h'):AI h' E G N D:=⟨λy o=>(s.w y o).le l,s.g.le l,s.wb,s.th⟩
theorem AI.lo(s:AI h E G N D):h.lo<=h.nx:=(s.w ⟨0,0,0,0,0,0,0⟩ 0).lo
theorem AI.ag(s:AI h E G N D):∃va vh,h.bl.get E.z.ab=some (ai [pt E.A.wb,YYY 0,YYY D.jG,va,vh,pt E.z.pb,.pointer none] 155 false)/\kF h va D.asked/\kF h vh D.has:=by
 obtain⟨va,vh,g1,g2,g3⟩:=s.g.ga;rw[s.wb,s.th]at g1;exact⟨va,vh,g1,g2,g3⟩
theorem Jx(s:AW h E G N n y out D kb c)(V:KQ)(hk:V (.bool true) h):aj prog 194 [pt E.z.ab] h V:=by
 obtain⟨va,vh,ga,_,_⟩:=s.ag;have bn:=λ(β:Type)(fl:β)(cn:Bool)(h:af)(V:UV β)=>Hr (fl:=fl) cn (some kb) h V;simp only[dM,Option.isSome]at bn;apply YYZ;rw[YK];simp(disch:=try exact Y)only[Wz,U_,aN,ga,bn];exact hk
theorem zY(s:AW h E G N n y out D kb c)(hn:c.ask.k=0\/n≠0)(V:KQ)(hk:V (.bool true) h):aj prog 137 [pt E.z.ab] h V:=by
 obtain⟨va,vh,ga,_,_⟩:=s.ag;obtain⟨vn,vg,gk,_,_⟩:=s.c.g;unfold c_ at gk;apply YYZ;rw[Yg];simp(disch:=try exact Y)only[Wz];refine Jx s _ ?_;by_cases h0:c.ask.k=0
 .simp(disch:=try exact Y)only[Wz,aN,ga,gk,bx h0];exact hk
 .simp(disch:=try exact Y)only[Wz,aN,ga,gk,aZ h0];refine Nj s.w (hn.resolve_left h0) _ ?_;exact hk
theorem R3(s:AW h E G N 0 y out D kb c)(V:KQ)(hk:∀h',AI h' E G N D->FK E.a h h'->V (.tuple ⟨[.bool true,YYY c.code,YYY 0]⟩) h'):CW (pt E.z.ab) (pt kb) h V:=by
 obtain⟨va,vh,ga,sa,sh⟩:=s.ag;obtain⟨vn,vg,gk,p1,p2⟩:=s.c.g;have hkb:E.z.ab≠kb:=dh ga gk J0;have oS:=s.g.Aj;obtain⟨va0,vh0,g1,_,_⟩:=s.g.ga;have q:=s.g.set (D':=D) (cp':=none) sa sh rfl;have hp:=λob y' o'=>(s.w.rest y' o').put g1 (by unfold o_;decide) (by unfold nj;decide) ob;have fp:=λob=>FK.put (a:=E.a) g1 (.inl rfl) ob;unfold agO at q;rw[s.wb,s.th]at q;unfold c_ at gk;simp(disch:=try exact Y)only[Wz,CW,aN,ga,gk];exact hk _ ⟨hp _,q,s.wb,s.th⟩ (fp _)
theorem R4(s:AW h E G N 0 y out D kb c)(h0:c.ask.k=0)(V:KQ)(hk:∀h',AI h' E G N D->FK E.a h h'->V (.tuple ⟨[.bool true,YYY c.code,YYY 0]⟩) h'):aj prog 74 [pt E.z.ab] h V:=by
 obtain⟨va,vh,ga,sa,sh⟩:=s.ag;obtain⟨vn,vg,gk,p1,p2⟩:=s.c.g;unfold c_ at gk;apply YYZ;rw[PK];simp(disch:=try exact Y)only[Wz,jO,xh];refine zY s (.inl h0) _ ?_;simp(disch:=try exact Y)only[Wz,aN,ga];refine⟨λl' h'=>HQ h h',?_,?_⟩
 .simp(disch:=try exact Y)only[Wz,xg,aN,gk,bx h0];exact rfl
 .rintro l' h' hE;cases(show h=h' from hE);exact R3 s V hk
theorem zZ(s:AW h E G N n y out D kb c)(hn:n≠0)(Jy:c.ask.k≠0)(Q:af->Prop)(hW:∀κ1:Value->af->Prop,(∀h1,Q h1->κ1 (.tuple ⟨[.bool false,YYY 0,YYY 0]⟩) h1)->aj prog 15 [YYQ E.A.wb,YYY ((0:Nat):Int)] h κ1)(V:KQ)(hk:∀h1,Q h1->V (.tuple ⟨[.bool false,YYY 0,YYY 0]⟩) h1):aj prog 74 [pt E.z.ab] h V:=by
 obtain⟨va,vh,ga,sa,sh⟩:=s.ag;obtain⟨vn,vg,gk,p1,p2⟩:=s.c.g;unfold c_ at gk;apply YYZ;rw[PK];simp(disch:=try exact Y)only[Wz,jO,xh];refine zY s (.inr hn) _ ?_;simp(disch:=try exact Y)only[Wz,aN,ga];refine⟨λ_ _=>False,?_,λ_ _ hf=>hf.elim⟩;simp(disch:=try exact Y)only[Wz,xg,aN,gk,aZ Jy,CV,ga];refine hW _ ?_;intro h1 q1;simp(disch:=try exact Y)only[Wz];exact hk h1 q1
theorem z1(s:AW h E G N 1 y out D kb c)(Jy:c.ask.k≠0)(V:KQ)(hB:∀h1,AW h1 E G N 0 y out D kb { c with seen:=true }->FK E.a h h1->aj prog c.RJ [pt E.z.ab,YYY out] h1 λ_ h2=>∃G' N' n' y' out' D' c',AW h2 E G' N' n' y' out' D' kb c'/\FK E.a h1 h2/\
   (c'.code=0->V (.tuple ⟨[.bool false,YYY 0,YYY 0]⟩) h2)/\(c'.code≠0->n'=0/\∀h3,AI h3 E G' N' D'->FK E.a h2 h3->V (.tuple ⟨[.bool true,YYY c'.code,YYY 0]⟩) h3)):aj prog 74 [pt E.z.ab] h V:=by
 obtain⟨va,vh,ga,sa,sh⟩:=s.ag;obtain⟨vn,vg,gk,p1,p2⟩:=s.c.g;have gk0:=gk;unfold c_ at gk;apply YYZ;rw[PK];simp(disch:=try exact Y)only[Wz,jO,xh];refine zY s (.inr J0) _ ?_;simp(disch:=try exact Y)only[Wz,aN,ga];refine⟨λl' h'=>∃G' N' n' y' out' D' c',AW h' E G' N' n' y' out' D' kb c'/\c'.code≠0/\n'=0/\∀h3,AI h3 E G' N' D'->FK E.a h' h3->V (.tuple ⟨[.bool true,YYY c'.code,YYY 0]⟩) h3,?_,?_⟩
 .simp(disch:=try exact Y)only[Wz,xg,aN,gk,aZ Jy,CV,ga];refine RV s.w _ ?_;intro h1 w1 k1;have s1:=s.wk w1 k1;have ak_:=s1.c.lt;obtain⟨vn1,vg1,SG,p11,p21⟩:=s1.c.g;have q:=s1.Du (c':={ c with seen:=true }) p11 p21 s.c.DE;unfold c_ at SG q;simp(disch:=try exact Y)only[Wz,KY,aN,SG,List.cons_append,List.nil_append,List.append_nil];refine aj.mono (hB _ q.1 (k1.fk.trans q.2)) ?_;rintro u h2 ⟨G',N',n',y',out',D',c',s2,f2,dB,hk2⟩;obtain⟨vn2,vg2,U4,_,_⟩:=s2.c.g;unfold c_ at U4;by_cases h0:c'.code=0
  .simp(disch:=try exact Y)only[Wz,aN,U4,bx h0];exact dB h0
  .simp(disch:=try exact Y)only[Wz,aN,U4,aZ h0];obtain⟨e1,e2⟩:=hk2 h0;exact⟨G',N',n',y',out',D',c',s2,h0,e1,e2⟩
 .rintro l' h' ⟨G',N',n',y',out',D',c',s2,h0,rfl,hk2⟩;exact R3 s2 V hk2
def Jz(k t r m w:Int):Bool:=decide (0<=w) && (if k=1 then kn m && decide (m≠0) && decide (bf t r≠-1)else if k=2 then decide (bf t r≠-1)else decide (k=3))
theorem abr(k t r m w:Int)(hm:Jz k t r m w=true)(h:af)(V:KQ)(hlo:h.lo<=h.nx)(hk:∀h',Le h h'->V (.bool true) h'):aj prog 125 [.agg ⟨[YYY k,YYY 0,YYY t,YYY r,YYY m,YYY 0]⟩,YYY w] h V:=by
 unfold Jz at hm;rw[Bool.and_eq_true,decide_eq_true_eq]at hm;obtain⟨hw,hm⟩:=hm;apply YYZ;rw[X_];simp(disch:=try exact Y)only[Wz];obtain⟨hA,bh,aU,gA,eE,eG⟩:=nP h (ai [YYY k,YYY 0,YYY t,YYY r,YYY m,YYY 0] 66 false);rw[<-bh]
 try rw[show(h.bl.bq (h.nx) (ai [YYY k,YYY 0,YYY t,YYY r,YYY m,YYY 0] 66 false))=hA.bl by rw[bh]]
 clear bh;by_cases h1:k=1
 .rw[if_pos h1,Bool.and_eq_true,Bool.and_eq_true,decide_eq_true_eq,decide_eq_true_eq]at hm;obtain⟨⟨Xl,hm2⟩,hm3⟩:=hm;refine⟨λ_ _=>False,?_,λ_ _ hf=>hf.elim⟩;simp(disch:=try exact Y)only[Wz,gA];refine⟨λl' h'=>ah l' 15=.bool true/\HQ hA h',?_,?_⟩
  .simp(disch:=try exact Y)only[Wz,tC,bx h1,EY,gA];refine oH m ?_;rw[Xl];simp(disch:=try exact Y)only[Wz,gA,aZ hm2];exact⟨by first|rfl|trivial,rfl⟩
  .rintro l' h' ⟨e1,hE⟩;cases(show hA=h' from hE);simp(disch:=try exact Y)only[Wz,yG,e1,gA];refine nY t r ?_;rw[if_neg hm3];simp(disch:=try exact Y)only[Wz];exact hk hA aU
 .rw[if_neg h1]at hm;by_cases h2:k=2
  .rw[if_pos h2,decide_eq_true_eq]at hm;refine⟨λ_ _=>False,?_,λ_ _ hf=>hf.elim⟩;simp(disch:=try exact Y)only[Wz,gA];refine⟨λl' h'=>ah l' 15=.bool true/\HQ hA h',?_,?_⟩
   .simp(disch:=try exact Y)only[Wz,tC,aZ h1,bx h2];exact⟨by first|rfl|trivial,rfl⟩
   .rintro l' h' ⟨e1,hE⟩;cases(show hA=h' from hE);simp(disch:=try exact Y)only[Wz,yG,e1,gA];refine nY t r ?_;rw[if_neg hm];simp(disch:=try exact Y)only[Wz];exact hk hA aU
  .rw[if_neg h2,decide_eq_true_eq]at hm;refine⟨λl' h'=>ah l' 17=.bool true/\HQ hA h',?_,?_⟩
   .simp(disch:=try exact Y)only[Wz,gA];refine⟨λ_ _=>False,?_,λ_ _ hf=>hf.elim⟩;simp(disch:=try exact Y)only[Wz,tC,aZ h1,aZ h2];exact⟨by first|rfl|trivial,rfl⟩
   .rintro l' h' ⟨e1,hE⟩;cases(show hA=h' from hE);simp(disch:=try exact Y)only[Wz,EZ,e1,gA,bx hm];exact hk hA aU
def qp:iz:=⟨0,0,0,0,0,0,0⟩
def iG(z:AA)(D:AD)(k t r m w:Int):CD:=
 if k=1 then⟨k,t,r,m,w,qp,0,126,.func (.func 127) ⟨[pt z.ab]⟩ ⟨[]⟩,false,0,ck (aO D.has) t r (bA (aO D.asked t r) m),[]⟩
 else if k=2 then⟨k,t,r,m,w,qp,0,132,.func (.func 133) ⟨[]⟩ ⟨[]⟩,false,0,[],[]⟩
 else⟨k,t,r,m,w,qp,0,135,.func (.func 133) ⟨[]⟩ ⟨[]⟩,false,0,[],[]⟩
def z6(k:Int):FuncId:=if k=1 then 131 else if k=2 then 134 else 136
theorem JB:(Value.cells Value.nilFunc).toList=[Value.nilFunc]:=id rfl
theorem AI.call(s:AI h E G N D){va vh:Value}(ga:h.bl.get E.z.ab=some (ai [pt E.A.wb,YYY 0,YYY D.jG,va,vh,pt E.z.pb,.pointer none] 155 false))(sa:kF h va D.asked)(sh:kF h vh D.has)(vs:List Value){c':CD}(h1:c'.dP=[])(h2:c'.goes=[])(h3:dI c'.DE=true)(y:iz)(out:Int):AW ⟨h.nx+1,((h.bl.bq h.nx (ai vs 224 false)).bq E.z.ab (ai [pt E.A.wb,YYY 0,YYY D.jG,va,vh,pt E.z.pb,pt h.nx] 155 false)).bq h.nx (c_ E.z c' (.slice none 0 0) (.slice none 0 0)),h.lo⟩ E G N 0 y out D h.nx c'/\
  FK E.a h ⟨h.nx+1,((h.bl.bq h.nx (ai vs 224 false)).bq E.z.ab (ai [pt E.A.wb,YYY 0,YYY D.jG,va,vh,pt E.z.pb,pt h.nx] 155 false)).bq h.nx (c_ E.z c' (.slice none 0 0) (.slice none 0 0)),h.lo⟩:=by
 have Li:=(Le.refl h).new (ai vs 224 false);have sB:=s.le Li;have hl:=s.g.Aj;have lo:=s.lo;have gaB:=(Li.get _ hl.1).trans ga;have q:=sB.g.set (D':=D) (cp':=some h.nx) (sa.le Li) (sh.le Li) rfl;have w1:=λob=>(sB.w y out).put gaB (by unfold o_;decide) (by unfold nj;decide) ob;have f1:=λob=>FK.put (a:=E.a) gaB (.inl rfl) ob;unfold agO at q;rw[s.wb,s.th]at q;have gk:((h.bl.bq h.nx (ai vs 224 false)).bq E.z.ab (ai [pt E.A.wb,YYY 0,YYY D.jG,va,vh,pt E.z.pb,pt h.nx] 155 false)).get h.nx=some (ai vs 224 false):=(T.ax _ _ XQ).trans (T.au _ _ _);have w2:=(w1 (ai [pt E.A.wb,YYY 0,YYY D.jG,va,vh,pt E.z.pb,pt h.nx] 155 false)).put gk (by unfold o_;decide) (by unfold nj;decide) (c_ E.z c' (.slice none 0 0) (.slice none 0 0));have g2:=jb.put q gk (.inl rfl) (c_ E.z c' (.slice none 0 0) (.slice none 0 0));have f2:=FK.put (a:=E.a) (h:=⟨h.nx+1,(h.bl.bq h.nx (ai vs 224 false)).bq E.z.ab (ai [pt E.A.wb,YYY 0,YYY D.jG,va,vh,pt E.z.pb,pt h.nx] 155 false),h.lo⟩) gk (.inr (.inl rfl)) (c_ E.z c' (.slice none 0 0) (.slice none 0 0));have c2:=iA.mk' (h:=⟨h.nx+1,(h.bl.bq h.nx (ai vs 224 false)).bq E.z.ab (ai [pt E.A.wb,YYY 0,YYY D.jG,va,vh,pt E.z.pb,pt h.nx] 155 false),h.lo⟩) (z:=E.z) (c':=c') (vn:=.slice none 0 0) (vg:=.slice none 0 0) ⟨Nat.lt_succ_self _,lo⟩ gk (.inl ⟨h1,rfl⟩) (.inl ⟨h2,_,_,rfl⟩) h3;exact⟨⟨w2,g2,c2,s.wb,s.th⟩,((FK.le Li).trans (f1 _)).trans f2⟩
theorem Va(s:AI h E G N D)(ht:D.jG≠0)(l1:D.has.length<=1000)(l2:D.asked.length<=1000)(k t r m w:Int)(hm:Jz k t r m w=true)(V:KQ)(hk:∀h' kb,AW h' E G N 0 qp 0 D kb (iG E.z D k t r m w)->FK E.a h h'->aj prog (z6 k) [pt E.z.ab] h' λ_ h=>V (YYY 0) h):aj prog 73 [pt E.z.ab,.agg ⟨[YYY k,YYY 0,YYY t,YYY r,YYY m,YYY 0]⟩,YYY w] h V:=by
 have hlo:=s.lo;have bn:=λ(β:Type)(fl:β)(cn:Bool)(h:af)(V:UV β)=>Hr (fl:=fl) cn none h V;simp only[dM,Option.isSome]at bn;apply YYZ;rw[adS];simp(disch:=try exact Y)only[Wz,jO];obtain⟨hA,bh,aU,gA,eE,eG⟩:=nP h (ai [YYY k,YYY 0,YYY t,YYY r,YYY m,YYY 0] 66 false);rw[<-bh]
 try rw[show(h.bl.bq (h.nx) (ai [YYY k,YYY 0,YYY t,YYY r,YYY m,YYY 0] 66 false))=hA.bl by rw[bh]]
 clear bh;have sA:=s.le aU;obtain⟨va,vh,ga,sa,sh⟩:=sA.ag;have oS:=sA.g.Aj;simp(disch:=try exact Y)only[Wz,KX,aN,ga,aZ ht,bn,gA];refine abr k t r m w hm hA _ XQ ?_;intro h1 bN;have s1:=sA.le bN;have U6:=(bN.get _ oS.1).trans ga;have Lr:=bN.nx;have Ls:=bN.lo;have gA:=(bN.get _ XQ).trans gA;have pE:=s1.g.Aj;have lo1:=s1.lo;have sa1:=sa.le bN;have sh1:=sh.le bN;have hab:E.z.ab≠h1.nx:=by omega
 have hA1:h.nx≠E.z.ab:=λe=>dh gA U6 J0 e;have hA2:h.nx<h1.nx:=by omega
 have f1:=FK.le (a:=E.a) (aU.trans bN);simp(disch:=try exact Y)only[Wz,aN,U6,gA,KW,JB];refine⟨λl' h'=>V (YYY 0) h',?_,λl' h' hk=>hk⟩;by_cases dB:k=1
 .simp(disch:=try exact Y)only[Wz,xe,gA,bx dB,KV,ql,aN];have q:=s1.call U6 sa1 sh1 [.slice none 0 0,.slice none 0 0,YYY k,YYY 0,YYY t,YYY r,YYY m,YYY 0,YYY w,YYY 0,YYY 0,YYY 0,YYY 0,YYY 0,YYY 0,YYY 0,YYY 0,Value.nilFunc,Value.nilFunc,.bool false,YYY 0] (c':=⟨k,t,r,m,w,qp,0,126,.func (.func 127) ⟨[pt E.z.ab]⟩ ⟨[]⟩,false,0,[],[]⟩) rfl rfl rfl qp 0;unfold c_ qp at q;have sa2:=sa1.fk q.2;have sh2:=sh1.fk q.2;have gA2:=(q.2.ty _ _ _ _ hA2 gA (by unfold o_;decide) (by unfold nj;decide) (by unfold CTy;decide)).trans gA;refine kE D.asked t r _ va _ sa2.1 XQ (by show h1.lo<=h1.nx+1;omega) ?_;intro h3 cT;have n3:h1.nx+1<=h3.nx:=cT.nx;have l3:h3.lo=h1.lo:=cT.lo;have WW:h3.bl.get E.z.ab=some (ai [pt E.A.wb,YYY 0,YYY D.jG,va,vh,pt E.z.pb,pt h1.nx] 155 false):=(cT.get _ (by show E.z.ab<h1.nx+1;omega)).trans ((T.ax _ _ XQ).trans (T.au _ _ _));have Ju:=(cT.get h1.nx (Nat.lt_succ_self _)).trans (T.au _ _ _);have gA3:=(cT.get h.nx (by show h.nx<h1.nx+1;omega)).trans gA2;have qv:=sh.2.2;simp(disch:=try exact Y)only[Wz,aN,WW,gA3,qv];refine zd _ _ ?_;simp(disch:=try exact Y)only[Wz,aN,WW,gA3,qv];refine aa_ D.has t r _ h3 vh _ (sh2.le cT).1 XQ XQ ?_;intro v' h4 pe kU;have n4:=kU.nx;have l4:=kU.lo;have gk4:=(kU.get h1.nx XQ).trans Ju;have s4:=q.1.le (cT.trans kU);obtain⟨x',c',e'⟩:=pe.cell;subst e';have q4:=s4.Du (c':=iG E.z D k t r m w) (vg:=.slice none 0 0) (by unfold iG;rw[if_pos dB];exact pe) (by unfold iG;rw[if_pos dB];exact .inl ⟨rfl,_,_,rfl⟩) (by unfold iG;rw[if_pos dB];rfl);have hk:=hk _ _ (q4.1.rest qp 0) ((f1.trans (q.2.trans (FK.le (cT.trans kU)))).trans q4.2);unfold z6 iG at hk;rw[if_pos dB,if_pos dB]at hk;unfold c_ qp at hk;simp(disch:=try exact Y)only[Wz,aN,gk4];exact hk
 .by_cases hk2:k=2
  .have q:=s1.call U6 sa1 sh1 [.slice none 0 0,.slice none 0 0,YYY k,YYY 0,YYY t,YYY r,YYY m,YYY 0,YYY w,YYY 0,YYY 0,YYY 0,YYY 0,YYY 0,YYY 0,YYY 0,YYY 0,Value.nilFunc,Value.nilFunc,.bool false,YYY 0] (c':=iG E.z D k t r m w) (by unfold iG;rw[if_neg dB,if_pos hk2]) (by unfold iG;rw[if_neg dB,if_pos hk2]) (by unfold iG;rw[if_neg dB,if_pos hk2];rfl) qp 0;have hk:=hk _ _ q.1 (f1.trans q.2);unfold z6 iG at hk;rw[if_neg dB,if_pos hk2,if_neg dB,if_pos hk2]at hk;unfold c_ qp at hk;simp(disch:=try exact Y)only[Wz,xe,gA,aZ dB,bx hk2,KS,ql,aN];exact hk
  .have q:=s1.call U6 sa1 sh1 [.slice none 0 0,.slice none 0 0,YYY k,YYY 0,YYY t,YYY r,YYY m,YYY 0,YYY w,YYY 0,YYY 0,YYY 0,YYY 0,YYY 0,YYY 0,YYY 0,YYY 0,Value.nilFunc,Value.nilFunc,.bool false,YYY 0] (c':=iG E.z D k t r m w) (by unfold iG;rw[if_neg dB,if_neg hk2]) (by unfold iG;rw[if_neg dB,if_neg hk2]) (by unfold iG;rw[if_neg dB,if_neg hk2];rfl) qp 0;have hk:=hk _ _ q.1 (f1.trans q.2);unfold z6 iG at hk;rw[if_neg dB,if_neg hk2,if_neg dB,if_neg hk2]at hk;unfold c_ qp at hk;simp(disch:=try exact Y)only[Wz,xe,gA,aZ dB,aZ hk2,KU,ql,aN];exact hk
end
theorem Nu{β:Type}{fl:β}(a b c d:Int)(h:af)(V:UV β):rK fl false 1 3 (.agg ⟨[YYY a,YYY b,YYY c,YYY d]⟩) h V=V (YYY d) h:=id rfl
section
variable {h h':af}{A:WA}{a:TA}{N:Nat}{d:TD}{R:RD}{G:GT}{E:EN}{D:AD}
theorem JC(s:WS h A a N d R)(V:KQ)(hk:V (YYY (A.n:Int)) h):aj prog 122 [YYQ A.wb] h V:=by
 have gw:=s.r.gw;apply YYZ;rw[X7];simp(disch:=try exact Y)only[Wz,jl,aN,gw];exact hk
theorem R6(s:AR h a N d)(hlo:h.lo<=h.nx)(V:KQ)(hk:∀h',Le h h'->V (rE a.c) h'):aj prog 176 [YYQ a.tb] h V:=by
 apply YYZ;rw[Yw];have gt:=s.is.mN;have ht:=s.is.ltt;simp(disch:=try exact Y)only[Wz,n_,aN,gt];exact hk _ ((Le.refl h).new _)
theorem Vb(s:WS h A a N d R)(V:KQ)(hk:∀h',Le h h'->V (rE a.c) h'):aj prog 124 [YYQ A.wb] h V:=by
 have gw:=s.r.gw;have De:=s.r.De;have hlo:=s.lo;apply YYZ;rw[X9];simp(disch:=try exact Y)only[Wz,jl,aN,gw];have Li:=(Le.refl h).new (ai [YYY 0,YYY 0,YYY 0,YYY 0] 115 false);have sB:=s.le Li;refine R6 sB.t (by show h.lo<=h.nx+1;omega) _ ?_;intro h1 bN;have n1:h.nx+1<=h1.nx:=bN.nx;have l1:h1.lo=h.lo:=bN.lo;have g:=(bN.get h.nx (Nat.lt_succ_self _)).trans (T.au _ _ _);simp(disch:=try exact Y)only[Wz,rE,g];exact hk _ ((Li.trans bN).set (Nat.le_refl _) _)
theorem abt(jG most:Int)(h1:jG<0)(h2:0<=most)(h3:most<=8)(h:af)(V:KQ)(hlo:h.lo<=h.nx)(hk:∀pb lb h',Le h h'->h.nx<=lb->h.nx<=pb->pb<h'.nx->lb<h'.nx->h'.bl.get pb=some (ai [pt lb,YYY jG,YYY most] 227 false)->h'.bl.get lb=some (ai [.slice none 0 0] 288 false)->V (.tuple ⟨[pt pb,YYY 0]⟩) h'):aj prog 123 [YYY jG,YYY most] h V:=by
 apply YYZ;rw[X8];simp(disch:=try exact Y)only[Wz];exact hk (h.nx+1) h.nx _ (((Le.refl h).new _).new _) (Nat.le_refl _) (Nat.le_succ _) (by show h.nx+1<h.nx+1+1;omega) (by show h.nx<h.nx+1+1;omega) (T.au _ _ _) ((T.ax _ _ XQ).trans (T.au _ _ _))
theorem abu(W:∀y out,WJ h A a G N 0 y out)(hn:1<=A.n)(hc:0<=a.c.P/\a.c.P<=8)(V:KQ)(hk:∀h' z,AI h' ⟨A,a,z⟩ G N ⟨0,[],[],[]⟩->z.most=a.c.P->Le h h'->V (.tuple ⟨[pt z.ab,YYY 0]⟩) h'):aj prog 72 [YYQ A.wb,YYY ((0:Nat):Int)] h V:=by
 obtain⟨⟨d,R,N0,s1,s2,s3,s4,s5,s6,sc,t⟩,s7,s8⟩:=W ⟨0,0,0,0,0,0,0⟩ 0;have hlo:=s1.lo;apply YYZ;rw[adR];have e0:((0:Nat):Int)=0:=rfl;simp(disch:=try exact Y)only[Wz,jl,KR,e0];refine JC s1 _ ?_;simp(disch:=try exact Y)only[Wz,aZ (show ¬(A.n:Int)<=0 by omega),fm (show(0:Int)<(A.n:Int)by omega),KP];refine Vb s1 _ ?_;intro h1 bN;have n1:=bN.nx;have l1:=bN.lo;simp(disch:=try exact Y)only[Wz,rE,Nu];refine abt (-1) a.c.P J0 hc.1 hc.2 h1 _ XQ ?_;intro pb lb h2 bF q1 q2 q3 q4 g1 g2;have n2:=bF.nx;have l2:=bF.lo;simp(disch:=try exact Y)only[Wz];have cT:=(Le.refl h2).new (ai [pt A.wb,YYY 0,YYY 0,.slice none 0 0,.slice none 0 0,pt pb,.pointer none] 155 false);refine hk _ ⟨h2.nx,pb,lb,A.wb,0,a.c.P⟩ ⟨λy o=>(W y o).le ((bN.trans bF).trans cT),⟨⟨Nat.lt_succ_self _,by show h2.lo<=h2.nx;omega⟩,⟨.slice none 0 0,.slice none 0 0,T.au _ _ _,kF.nil _,kF.nil _⟩,⟨by show pb<h2.nx+1;omega,by show h2.lo<=pb;omega⟩,(cT.get _ q3).trans g1,⟨by show lb<h2.nx+1;omega,by show h2.lo<=lb;omega⟩,.slice none 0 0,(cT.get _ q4).trans g2,kF.nil _⟩,rfl,rfl⟩ rfl ((bN.trans bF).trans cT)
theorem abv(s:AI h E G N D)(V:KQ)(hk:V (YYY D.jG) h):aj prog 28 [pt E.z.ab] h V:=by
 obtain⟨va,vh,ga,_,_⟩:=s.ag;apply YYZ;rw[adt];simp(disch:=try exact Y)only[Wz,jO,aN,ga];exact hk
theorem R7(s:AI h E G N D)(l2:D.asked.length<=1000)(V:KQ)(hk:∀v h',qZ h h' v D.asked->Le h h'->V v h'):aj prog 27 [pt E.z.ab] h V:=by
 obtain⟨va,vh,ga,sa,_⟩:=s.ag;apply YYZ;rw[ads];simp(disch:=try exact Y)only[Wz,jO,aN,ga];refine qi D.asked h va _ sa.1 XQ s.lo ?_;intro v h1 o1 bN;exact hk v h1 o1 bN
theorem JD(s:AI h E G N D)(l2:D.has.length<=1000)(V:KQ)(hk:∀v h',qZ h h' v D.has->Le h h'->V v h'):aj prog 33 [pt E.z.ab] h V:=by
 obtain⟨va,vh,ga,_,sh⟩:=s.ag;apply YYZ;rw[adx];simp(disch:=try exact Y)only[Wz,jO,aN,ga];refine qi D.has h vh _ sh.1 XQ s.lo ?_;intro v h1 o1 bN;exact hk v h1 o1 bN
theorem Vc(s:AI h E G N D)(l2:D.aL.length<=1000)(V:KQ)(hk:∀v h',qZ h h' v D.aL->Le h h'->V v h'):aj prog 29 [pt E.z.ab] h V:=by
 obtain⟨va,vh,ga,_,_⟩:=s.ag;apply YYZ;rw[adu];simp(disch:=try exact Y)only[Wz,jO,aN,ga];refine xx s.g XQ s.lo _ ?_;intro v h1 o1 bN;exact hk v h1 o1 bN
theorem BT(s:AI h E G N D)(h0:D.jG=0)(x:Int)(hx:1<=x)(V:KQ)(hk:∀h',AI h' E G N { D with jG:=x }->FK E.a h h'->V (YYY 0) h'):aj prog 35 [pt E.z.ab,YYY x] h V:=by
 obtain⟨va,vh,ga,sa,sh⟩:=s.ag;have oS:=s.g.Aj;obtain⟨va0,vh0,g1,_,_⟩:=s.g.ga;have q:=s.g.set (D':={ D with jG:=x }) (cp':=none) sa sh rfl;have hp:=λob y' o'=>(s.w y' o').put g1 (by unfold o_;decide) (by unfold nj;decide) ob;have fp:=λob=>FK.put (a:=E.a) g1 (.inl rfl) ob;unfold agO at q;rw[s.wb,s.th]at q;apply YYZ;rw[adA];simp(disch:=try exact Y)only[Wz,jO,dF (show 1<=x from hx),aN,ga,bx h0,KE];exact hk _ ⟨hp _,q,s.wb,s.th⟩ (fp _)
end
def kG(p:L4):Int × Int:=(p.t,p.r)
theorem fR{t r:Int}{p:L4}:gx t r p=true<->p.t=t/\p.r=r:=by simp[gx]
theorem me{t r:Int}{p:L4}:gx t r p=false<->¬(p.t=t/\p.r=r):=by rw[<-fR,Bool.not_eq_true]
theorem iR(p:L4)(L:List L4)(t r:Int):aO (p::L) t r=if p.t=t/\p.r=r then p.m else aO L t r:=by
 unfold aO;rw[List.find?_cons];by_cases h:p.t=t/\p.r=r
 .rw[if_pos h,fR.2 h]
 .rw[if_neg h,me.2 h]
theorem vt(A B:List L4)(p:L4)(t r:Int)(hn:∀q∈A,¬(q.t=p.t/\q.r=p.r)):aO (A++p::B) t r=if p.t=t/\p.r=r then p.m else aO (A++B) t r:=by
 induction A with
 |nil=>rw[List.nil_append,List.nil_append,iR]
 |cons q A ih=>
  have h1:=hn q (.head _);have ih:=ih λx hx=>hn x (.tail _ hx);rw[List.cons_append,List.cons_append,iR,iR,ih];by_cases h:q.t=t/\q.r=r
  .rw[if_pos h,if_pos h,if_neg (λe=>h1 ⟨h.1.trans e.1.symm,h.2.trans e.2.symm⟩)]
  .rw[if_neg h,if_neg h]
theorem z7(L:List L4)(p:L4):(∃A q B,L=A++q::B/\q.t=p.t/\q.r=p.r/\(∀x∈A,¬(x.t=p.t/\x.r=p.r))/\cV L p=A++p::B)\/(∃A B,L=A++B/\(∀x∈L,¬(x.t=p.t/\x.r=p.r))/\cV L p=A++p::B):=by
 unfold cV;cases hf:L.findIdx? (gx p.t p.r)with
 |some i=>
  rw[List.findIdx?_eq_some_iff_getElem]at hf;obtain⟨hi,h1,h2⟩:=hf;refine .inl ⟨L.take i,L[i],L.drop (i+1),?_,(fR.1 h1).1,(fR.1 h1).2,λx hx=>?_,?_⟩
  .rw[<-List.drop_eq_getElem_cons hi,List.take_append_drop]
  .obtain⟨j,hj⟩:=List.getElem?_of_mem hx;have hj':j<i:=by have:=(List.getElem?_eq_some_iff.1 hj).1;simp at this;omega
   have:=h2 j hj';rw[List.getElem?_take_of_lt hj',List.getElem?_eq_getElem XQ]at hj;rw[Option.some.inj hj]at this;exact me.1 (by simpa using this)
  .show L.set i p=_
   rw[List.set_eq_take_append_cons_drop,if_pos hi]
 |none=>
  rw[List.findIdx?_eq_none_iff]at hf;have hno:∀x∈L,¬(x.t=p.t/\x.r=p.r):=λx hx=>me.1 (hf x hx);cases hg:L.findIdx? (sx p)with
  |some i=>exact .inr ⟨L.take i,L.drop i,(List.take_append_drop _ _).symm,hno,by simp⟩
  |none=>exact .inr ⟨L,[],by simp,hno,by simp⟩
theorem ig(L:List L4)(p:L4)(t r:Int):aO (cV L p) t r=if p.t=t/\p.r=r then p.m else aO L t r:=by
 rcases z7 L p with⟨A,q,B,rfl,h1,h2,h3,e⟩|⟨A,B,rfl,h3,e⟩
 .rw[e,vt A B p t r h3,vt A B q t r (by rw[h1,h2];exact h3),h1,h2];split<;>rfl
 .rw[e,vt A B p t r λx hx=>h3 x (List.mem_append_left _ hx)]
theorem gY(L:List L4)(t r t' r':Int):aO (cE L t r) t' r'=if t=t'/\r=r' then 0 else aO L t' r':=by
 induction L with
 |nil=>unfold cE;simp[aO]
 |cons p L ih=>
  unfold cE at ih ⊢;rw[List.filter_cons];by_cases h:p.t=t/\p.r=r
  .rw[fR.2 h,if_neg J0,ih,iR];by_cases h2:t=t'/\r=r'
   .rw[if_pos h2,if_pos h2]
   .rw[if_neg h2,if_neg h2,if_neg (λe=>h2 ⟨h.1.symm.trans e.1,h.2.symm.trans e.2⟩)]
  .rw[me.2 h,if_pos J0,iR,iR,ih];by_cases h2:t=t'/\r=r'
   .rw[if_pos h2,if_pos h2,if_neg (λe=>h ⟨e.1.trans h2.1.symm,e.2.trans h2.2.symm⟩)]
   .rw[if_neg h2,if_neg h2]
structure iZ(M:List (Int × Int))(L:List L4):Prop where
 nd:(L.map kG).Nodup
 ok:∀p∈L,bf p.t p.r≠-1/\kn p.m=true/\p.m≠0
 sub:∀p∈L,kG p∈M
theorem iZ.nil(M:List (Int × Int)):iZ M []:=⟨List.nodup_nil,(λp hp=>by cases hp),(λp hp=>by cases hp)⟩
theorem iZ.mode{M:List (Int × Int)}{L:List L4}(s:iZ M L){p:L4}(hp:p∈L):aO L p.t p.r=p.m:=by
 have nd:=s.nd;clear s
 induction L with
 |nil=>cases hp
 |cons q L ih=>
  rw[List.map_cons,List.nodup_cons]at nd;rw[iR];rcases List.mem_cons.1 hp with rfl|hp'
  .rw[if_pos ⟨rfl,rfl⟩]
  .rw[if_neg]
   .exact ih hp' nd.2
   .rintro⟨e1,e2⟩;exact nd.1 (List.mem_map.2 ⟨p,hp',by unfold kG;rw[e1,e2]⟩)
theorem vv{L:List L4}{t r:Int}(h:aO L t r≠0):∃p∈L,p.t=t/\p.r=r/\p.m=aO L t r:=by
 unfold aO at *
 cases hf:L.find? (gx t r)with
 |none=>rw[hf]at h;exact absurd rfl h
 |some p=>exact⟨p,List.mem_of_find?_eq_some hf,(fR.1 (List.find?_some hf)).1,(fR.1 (List.find?_some hf)).2,rfl⟩
theorem iZ.Hs{M:List (Int × Int)}{L:List L4}(s:iZ M L)(t r:Int):kn (aO L t r)=true:=by
 by_cases h:aO L t r=0
 .rw[h];rfl
 .obtain⟨p,hp,rfl,rfl,e⟩:=vv h;rw[<-e];exact(s.ok p hp).2.1
theorem iZ.put{M:List (Int × Int)}{L:List L4}(s:iZ M L){p:L4}(ok:bf p.t p.r≠-1/\kn p.m=true/\p.m≠0)(hm:kG p∈M):iZ M (cV L p):=by
 have key:∀(A B:List L4),((A++B).map kG).Nodup->(∀x∈A++B,¬(x.t=p.t/\x.r=p.r))->((A++p::B).map kG).Nodup:=by
  intro A B h1 h2;have hp:((A++p::B).map kG).Perm (kG p::(A++B).map kG):=by
   rw[<-List.map_cons];exact List.perm_middle.map kG
  rw[hp.nodup_iff,List.nodup_cons];refine⟨λhx=>?_,h1⟩;obtain⟨x,hx,e⟩:=List.mem_map.1 hx;unfold kG at e;exact h2 x hx ⟨congrArg Prod.fst e,congrArg Prod.snd e⟩
 rcases z7 L p with⟨A,q,B,rfl,h1,h2,h3,e⟩|⟨A,B,rfl,h3,e⟩
 .have hk:kG q=kG p:=by unfold kG;rw[h1,h2]
  rw[e];refine⟨?_,λx hx=>?_,λx hx=>?_⟩
  .have:=s.nd;rw[List.map_append,List.map_cons]at this ⊢
   rwa [hk]at this
  .rcases List.mem_append.1 hx with hx|hx
   .exact s.ok x (List.mem_append_left _ hx)
   .rcases List.mem_cons.1 hx with rfl|hx
    .exact ok
    .exact s.ok x (List.mem_append_right _ (.tail _ hx))
  .rcases List.mem_append.1 hx with hx|hx
   .exact s.sub x (List.mem_append_left _ hx)
   .rcases List.mem_cons.1 hx with rfl|hx
    .exact hm
    .exact s.sub x (List.mem_append_right _ (.tail _ hx))
 ·rw[e];have mem:∀x,x∈A++p::B->x=p\/x∈A++B:=λx hx=>by
   rcases List.mem_append.1 hx with hx|hx
   .exact .inr (List.mem_append_left _ hx)
   .rcases List.mem_cons.1 hx with rfl|hx
    .exact .inl rfl
    .exact .inr (List.mem_append_right _ hx)
  refine⟨key A B s.nd h3,λx hx=>?_,λx hx=>?_⟩
  .rcases mem x hx with rfl|hx
   .exact ok
   .exact s.ok x hx
  .rcases mem x hx with rfl|hx
   .exact hm
   .exact s.sub x hx
theorem vw(L:List L4)(t r:Int):(cE L t r).Sublist L:=List.filter_sublist
theorem iZ.drop{M:List (Int × Int)}{L:List L4}(s:iZ M L)(t r:Int):iZ M (cE L t r):=
 ⟨s.nd.sublist ((vw L t r).map kG),λp hp=>s.ok p ((vw L t r).subset hp),λp hp=>s.sub p ((vw L t r).subset hp)⟩
theorem BU{α:Type}[DecidableEq α]:∀(L M:List α),L.Nodup->(∀x∈L,x∈M)->L.length<=M.length:=by
 intro L
 induction L with
 |nil=>intro M _ _;exact Nat.zero_le _
 |cons x L ih=>
  intro M h1 h2;rw[List.nodup_cons]at h1;have hx:=h2 x (.head _);have:=ih (M.erase x) h1.2 λy hy=>(List.mem_erase_of_ne (by rintro rfl;exact h1.1 hy)).2 (h2 y (.tail _ hy));rw[List.length_erase_of_mem hx]at this;have hp:=List.length_pos_of_mem hx;rw[List.length_cons];omega
theorem iZ.len{M:List (Int × Int)}{L:List L4}(s:iZ M L):L.length<=M.length:=by
 have:=BU (L.map kG) M s.nd λx hx=>by
  obtain⟨p,hp,rfl⟩:=List.mem_map.1 hx;exact s.sub p hp
 rwa [List.length_map]at this
theorem iZ.uo{M:List (Int × Int)}{L:List L4}(s:iZ M L){t r:Int}(h:aO L t r≠0):(cE L t r).length+1=L.length:=by
 obtain⟨p,hp,rfl,rfl,he⟩:=vv h;have nd:=s.nd;clear he h s;unfold cE
 induction L with
 |nil=>cases hp
 |cons q L ih=>
  rw[List.map_cons,List.nodup_cons]at nd;rw[List.filter_cons];rcases List.mem_cons.1 hp with rfl|hp'
  .rw[fR.2 ⟨rfl,rfl⟩,if_neg J0,List.length_cons]
   congr 1
   rw[List.filter_eq_self.2];intro x hx;rw[Bool.not_eq_true',me];rintro⟨e1,e2⟩;exact nd.1 (List.mem_map.2 ⟨x,hx,by unfold kG;rw[e1,e2]⟩)
  .have hn:gx p.t p.r q=false:=me.2 λe=>nd.1 (List.mem_map.2 ⟨p,hp',by unfold kG;rw[e.1,e.2]⟩);rw[hn,if_pos J0,List.length_cons,List.length_cons,ih hp' nd.2]
theorem abw{t r:Int}:∀a∈gu t r,bf a.1 a.2≠-1:=by
 intro a ha;unfold gu at ha;split at ha
 .rw[List.mem_singleton]at ha;subst ha;decide
 .split at ha
  .rename_i h2;rcases List.mem_cons.1 ha with rfl|ha
   .decide
   .rw[List.mem_singleton]at ha;subst ha
    show bf t (-1)≠-1
    unfold bf at h2 ⊢;split at h2
    .cases h2
    .split at h2
     .cases h2
     .split at h2
      .rename_i h3;rw[if_neg (by rintro⟨rfl,_⟩;revert h3;unfold DD;simp),if_pos ⟨h3.1,rfl⟩];decide
      .cases h2
  .cases ha
theorem Dv{m:Int}(h:kn m=true)(h0:m≠0):kn (ja m)=true/\ja m≠0:=by
 have key:∀i:Nat,i<7->(i:Int)≠0->kn (ja (i:Nat))=true/\ja (i:Nat)≠0:=by decide +kernel
 obtain⟨i,hi,rfl⟩:=iy h;exact key i hi h0
theorem uq{f:Int->Int->Int}(hf:∀t r,kn (f t r)=true){t r m:Int}(ok:bf t r≠-1)(hm:kn m=true)(h0:m≠0):xz (ck f t r m)/\(ck f t r m).length<=3/\∀p∈ck f t r m,(p.1,p.2.1)=(t,r)\/(p.1,p.2.1)∈gu t r:=by
 obtain⟨pk,p0⟩:=Dv hm h0;unfold ck;split
 .exact⟨λp hp=>(by cases hp),Nat.zero_le _,λp hp=>by cases hp⟩
 ·have hu:=Dp f m (gu t r);have hal:=t_ t r;have mem:∀p∈BQ f m (gu t r),∃a∈gu t r,p=(a.1,a.2,bA (f a.1 a.2) (ja m)):=by
   intro p hp;unfold BQ at hp;obtain⟨a,ha,rfl⟩:=List.mem_map.1 hp;exact⟨a,(List.mem_filter.1 ha).1,rfl⟩
  refine⟨λp hp=>?_,by rw[List.length_append,List.length_singleton];omega,λp hp=>?_⟩
  .rcases List.mem_append.1 hp with hp|hp
   .obtain⟨a,ha,rfl⟩:=mem p hp;obtain⟨q1,q2,_⟩:=jm (hf a.1 a.2) pk p0;exact⟨abw a ha,q2,q1⟩
   .rw[List.mem_singleton]at hp;subst hp;obtain⟨q1,q2,_⟩:=jm (hf t r) hm h0;exact⟨ok,q2,q1⟩
  .rcases List.mem_append.1 hp with hp|hp
   .obtain⟨a,ha,rfl⟩:=mem p hp;exact .inr ha
   .rw[List.mem_singleton]at hp;subst hp;exact .inl rfl
structure mg(x y:Int)(has aL:List L4)(G:GT):Prop where
 only:∀t r p,p∈G t r->p.1=x\/p.1=y
 hx:∀t r m,(x,m)∈G t r->aO has t r=m
 hy:∀t r,aO has t r≠0->(x,aO has t r)∈G t r
 py:∀t r m,(y,m)∈G t r->aO aL t r=m
section
variable {x y:Int}{has aL:List L4}{G G':GT}{t r m:Int}
theorem mg.get(s:mg x y has aL G)(D:sy (G t r)):cZ (G t r) x=aO has t r:=by
 by_cases h:aO has t r=0
 .rw[h];refine Classical.byContradiction λhn=>?_;have:=ot D hn;rw[s.hx t r _ this]at h;exact hn h
 .exact ug D (s.hy t r h)
theorem e8{l:List (Int × Int)}{t' r':Int}{p:Int × Int}(h:p∈dH G t r l t' r'):(t=t'/\r=r'/\p∈l)\/(¬(t=t'/\r=r')/\p∈G t' r'):=by
 by_cases e:t'=t/\r'=r
 .obtain⟨rfl,rfl⟩:=e;rw[jH]at h;exact .inl ⟨rfl,rfl,h⟩
 .rw[mO G e]at h;exact .inr ⟨λe'=>e ⟨e'.1.symm,e'.2.symm⟩,h⟩
theorem iH{l:List (Int × Int)}{t' r':Int}{p:Int × Int}(h:(t=t'/\r=r'/\p∈l)\/(¬(t=t'/\r=r')/\p∈G t' r')):p∈dH G t r l t' r':=by
 rcases h with⟨rfl,rfl,h⟩|⟨hn,h⟩
 .rw[jH];exact h
 .rw[mO G λe=>hn ⟨e.1.symm,e.2.symm⟩];exact h
theorem mg.lock(s:mg x y has aL G)(hxy:x≠y)(D:sy (G t r))(w:Int){M:Int}(hM:M≠0)(eM:M=bA (cZ (G t r) x) m):mg x y (cV has ⟨w,t,r,M⟩) aL (dH G t r (qo (G t r) x y m)):=by
 have key:∀p,p∈qo (G t r) x y m->p=(x,M)\/(p∈G t r/\p.1≠x):=by
  intro p hp;unfold qo at hp;by_cases h0:cZ (G t r) x=0
  .rw[if_pos h0]at hp;rw[h0]at eM;rcases List.mem_append.1 hp with hp|hp
   .have:=(List.mem_filter.1 hp).1;exact .inr ⟨this,xy D h0 p this⟩
   .rw[List.mem_singleton]at hp;exact .inl (by rw[hp,eM])
  .rw[if_neg h0,<-eM]at hp;obtain⟨q,hq,rfl⟩:=List.mem_map.1 hp;by_cases e:q.1=x
   .rw[if_pos e];exact .inl rfl
   .rw[if_neg e];exact .inr ⟨(List.mem_filter.1 hq).1,e⟩
 have R8:(x,M)∈qo (G t r) x y m:=by
  unfold qo;by_cases h0:cZ (G t r) x=0
  .rw[if_pos h0];rw[h0]at eM;rw[eM];exact List.mem_append_right _ (.head _)
  .rw[if_neg h0,<-eM];refine List.mem_map.2 ⟨(x,cZ (G t r) x),List.mem_filter.2 ⟨ot D h0,?_⟩,if_pos rfl⟩;unfold wj;simp[hxy]
 refine⟨λt' r' p hp=>?_,λt' r' m' hp=>?_,λt' r' hm'=>?_,λt' r' m' hp=>?_⟩
 .replace hp:=e8 hp;rcases hp with⟨rfl,rfl,hp⟩|⟨hn,hp⟩
  .rcases key p hp with rfl|⟨hp,_⟩
   .exact .inl rfl
   .exact s.only _ _ p hp
  .exact s.only _ _ p hp
 .rw[ig];replace hp:=e8 hp;rcases hp with⟨rfl,rfl,hp⟩|⟨hn,hp⟩
  .rw[if_pos ⟨rfl,rfl⟩];rcases key _ hp with e|⟨_,hp⟩
   .exact(congrArg Prod.snd e).symm
   .exact absurd rfl hp
  .rw[if_neg hn];exact s.hx _ _ _ hp
 .rw[ig]at hm' ⊢;by_cases e:t=t'/\r=r'
  .rw[if_pos e];exact iH (.inl ⟨e.1,e.2,R8⟩)
  .rw[if_neg e]at hm' ⊢;exact iH (.inr ⟨e,s.hy _ _ hm'⟩)
 .replace hp:=e8 hp;rcases hp with⟨rfl,rfl,hp⟩|⟨hn,hp⟩
  .rcases key _ hp with e|⟨hp,_⟩
   .exact absurd (congrArg Prod.fst e).symm hxy
   .exact s.py _ _ _ hp
  .exact s.py _ _ _ hp
theorem mg.full(s:mg x y has aL G)(hxy:x≠y):mg x y has aL (dH G t r (jw (G t r) y m)):=by
 have key:∀t' r' p,p∈dH G t r (jw (G t r) y m) t' r'->p∈G t' r':=by
  intro t' r' p hp;replace hp:=e8 hp;rcases hp with⟨rfl,rfl,hp⟩|⟨hn,hp⟩
  .exact(List.mem_filter.1 hp).1
  .exact hp
 refine⟨λt' r' p hp=>s.only _ _ p (key _ _ _ hp),λt' r' m' hp=>s.hx _ _ _ (key _ _ _ hp),λt' r' hm'=>?_,λt' r' m' hp=>s.py _ _ _ (key _ _ _ hp)⟩;refine iH ?_;by_cases e:t=t'/\r=r'
 .obtain⟨rfl,rfl⟩:=e;refine .inl ⟨rfl,rfl,List.mem_filter.2 ⟨s.hy _ _ hm',?_⟩⟩;unfold wj;simp[hxy]
 .exact .inr ⟨e,s.hy _ _ hm'⟩
theorem mg.inh(s:mg x y has aL G)(hxy:x≠y)(D:sy (G t r))(w:Int)(h0:aO has t r=0)(hg:cZ (G t r) y≠0):mg x y (cV has ⟨w,t,r,aO aL t r⟩) (cE aL t r) (dH G t r (ue (G t r) y x)):=by
 have hmem:=ot D hg;have eM:=s.py _ _ _ hmem;have hno:∀v,(x,v)∉G t r:=λv hv=>by
  have:=s.hx _ _ _ hv;rw[h0]at this;exact(D.1 _ hv).1 this.symm
 have key:∀p,p∈ue (G t r) y x->p=(x,aO aL t r):=by
  intro p hp;obtain⟨q,hq,rfl⟩:=List.mem_map.1 hp;rcases s.only _ _ q hq with e|e
  .exact absurd (show(x,q.2)∈G t r by rw[<-e];exact hq) (hno _)
  .rw[if_pos e,s.py t r q.2 (by rw[<-e];exact hq)]
 have R8:(x,aO aL t r)∈ue (G t r) y x:=List.mem_map.2 ⟨_,hmem,by rw[if_pos rfl,eM]⟩;refine⟨λt' r' p hp=>?_,λt' r' m' hp=>?_,λt' r' hm'=>?_,λt' r' m' hp=>?_⟩
 .replace hp:=e8 hp;rcases hp with⟨rfl,rfl,hp⟩|⟨hn,hp⟩
  .rw[key p hp];exact .inl rfl
  .exact s.only _ _ p hp
 .rw[ig];replace hp:=e8 hp;rcases hp with⟨rfl,rfl,hp⟩|⟨hn,hp⟩
  .rw[if_pos ⟨rfl,rfl⟩];exact(congrArg Prod.snd (key _ hp)).symm
  .rw[if_neg hn];exact s.hx _ _ _ hp
 .rw[ig]at hm' ⊢;by_cases e:t=t'/\r=r'
  .rw[if_pos e];exact iH (.inl ⟨e.1,e.2,R8⟩)
  .rw[if_neg e]at hm' ⊢;exact iH (.inr ⟨e,s.hy _ _ hm'⟩)
 .rw[gY];replace hp:=e8 hp;rcases hp with⟨rfl,rfl,hp⟩|⟨hn,hp⟩
  .exact absurd (congrArg Prod.fst (key _ hp)).symm hxy
  .rw[if_neg hn];exact s.py _ _ _ hp
theorem mg.gone(s:mg x y has aL G)(D:sy (G t r))(hg:cZ (G t r) y=0):mg x y has (cE aL t r) G:=by
 refine⟨s.only,s.hx,s.hy,λt' r' m' hp=>?_⟩;rw[gY];by_cases e:t=t'/\r=r'
 .obtain⟨rfl,rfl⟩:=e;exact absurd rfl (xy D hg _ hp)
 .rw[if_neg e];exact s.py _ _ _ hp
theorem mg.del(s:mg x y has aL G)(hxy:x≠y):mg x y has (cE aL t r) (dH G t r (qm (G t r) y)):=by
 have key:∀t' r' p,p∈dH G t r (qm (G t r) y) t' r'->p∈G t' r':=by
  intro t' r' p hp;replace hp:=e8 hp;rcases hp with⟨rfl,rfl,hp⟩|⟨hn,hp⟩
  .exact(List.mem_filter.1 hp).1
  .exact hp
 refine⟨λt' r' p hp=>s.only _ _ p (key _ _ _ hp),λt' r' m' hp=>s.hx _ _ _ (key _ _ _ hp),λt' r' hm'=>?_,λt' r' m' hp=>?_⟩
 .refine iH ?_;by_cases e:t=t'/\r=r'
  .obtain⟨rfl,rfl⟩:=e;exact .inl ⟨rfl,rfl,List.mem_filter.2 ⟨s.hy _ _ hm',by simp[hxy]⟩⟩
  .exact .inr ⟨e,s.hy _ _ hm'⟩
 .rw[gY];replace hp:=e8 hp;rcases hp with⟨rfl,rfl,hp⟩|⟨hn,hp⟩
  .have:=(List.mem_filter.1 hp).2;simp at this
  .rw[if_neg hn];exact s.py _ _ _ hp
theorem mg.drop(s:mg x y has aL G)(hxy:x≠y):mg x y (cE has t r) aL (dH G t r (qm (G t r) x)):=by
 have key:∀t' r' p,p∈dH G t r (qm (G t r) x) t' r'->p∈G t' r':=by
  intro t' r' p hp;replace hp:=e8 hp;rcases hp with⟨rfl,rfl,hp⟩|⟨hn,hp⟩
  .exact(List.mem_filter.1 hp).1
  .exact hp
 refine⟨λt' r' p hp=>s.only _ _ p (key _ _ _ hp),λt' r' m' hp=>?_,λt' r' hm'=>?_,λt' r' m' hp=>s.py _ _ _ (key _ _ _ hp)⟩
 .rw[gY];replace hp:=e8 hp;rcases hp with⟨rfl,rfl,hp⟩|⟨hn,hp⟩
  .have:=(List.mem_filter.1 hp).2;simp at this
  .rw[if_neg hn];exact s.hx _ _ _ hp
 .rw[gY]at hm' ⊢;by_cases e:t=t'/\r=r'
  .rw[if_pos e]at hm';exact absurd rfl hm'
  .rw[if_neg e]at hm' ⊢;exact iH (.inr ⟨e,s.hy _ _ hm'⟩)
theorem mg.hand(s:mg x y has aL G)(hxy:x≠y)(D:sy (G t r))(h0:aO has t r≠0)(T3:aO aL t r=0)(w:Int):mg x y (cE has t r) (cV aL ⟨w,t,r,aO has t r⟩) (dH G t r (ue (G t r) x y))/\(y,aO has t r)∈ue (G t r) x y:=by
 have hno:∀v,(y,v)∉G t r:=λv hv=>by
  have:=s.py _ _ _ hv;rw[T3]at this;exact(D.1 _ hv).1 this.symm
 have key:∀p,p∈ue (G t r) x y->p=(y,aO has t r):=by
  intro p hp;obtain⟨q,hq,rfl⟩:=List.mem_map.1 hp;rcases s.only _ _ q hq with e|e
  .rw[if_pos e,s.hx t r q.2 (by rw[<-e];exact hq)]
  .exact absurd (show(y,q.2)∈G t r by rw[<-e];exact hq) (hno _)
 have R8:(y,aO has t r)∈ue (G t r) x y:=List.mem_map.2 ⟨_,s.hy _ _ h0,by rw[if_pos rfl]⟩;refine⟨⟨λt' r' p hp=>?_,λt' r' m' hp=>?_,λt' r' hm'=>?_,λt' r' m' hp=>?_⟩,R8⟩
 .replace hp:=e8 hp;rcases hp with⟨rfl,rfl,hp⟩|⟨hn,hp⟩
  .rw[key p hp];exact .inr rfl
  .exact s.only _ _ p hp
 .rw[gY];replace hp:=e8 hp;rcases hp with⟨rfl,rfl,hp⟩|⟨hn,hp⟩
  .exact absurd (congrArg Prod.fst (key _ hp)) hxy
  .rw[if_neg hn];exact s.hx _ _ _ hp
 .rw[gY]at hm' ⊢;by_cases e:t=t'/\r=r'
  .rw[if_pos e]at hm';exact absurd rfl hm'
  .rw[if_neg e]at hm' ⊢;exact iH (.inr ⟨e,s.hy _ _ hm'⟩)
 .rw[ig];replace hp:=e8 hp;rcases hp with⟨rfl,rfl,hp⟩|⟨hn,hp⟩
  .rw[if_pos ⟨rfl,rfl⟩];exact(congrArg Prod.snd (key _ hp)).symm
  .rw[if_neg hn];exact s.py _ _ _ hp
end
structure abx(E:EN)(S:Nat->Nat->af->Prop)(Post:Nat->Int->af->Prop):Prop where
 le:∀i n h,S i n h->(n=3\/n=2\/n=1)/\i<=62
 s32:∀i n h (V:KQ),S i (n+1) h->n≠0->(∀h',S (i+1) n h'->V (.tuple ⟨[.bool false,YYY 0,YYY 0]⟩) h')->aj prog 74 [pt E.z.ab] h V
 s1:∀i h (V:KQ),S i 1 h->(∀h',S (i+1) 3 h'->V (.tuple ⟨[.bool false,YYY 0,YYY 0]⟩) h')->(∀code h',Post i code h'->V (.tuple ⟨[.bool true,YYY code,YYY 0]⟩) h')->aj prog 74 [pt E.z.ab] h V
theorem R9(L:List L4)(p:L4):(cV L p).length<=L.length+1:=by
 rcases z7 L p with⟨A,q,B,rfl,_,_,_,e⟩|⟨A,B,rfl,_,e⟩
 .rw[e];simp
 .rw[e];simp;omega
def Ht(x:Int)(has:List L4)(p:N3):L4:=⟨x,p.1,p.2.1,bA (aO has p.1 p.2.1) p.2.2⟩
abbrev yE(E:EN):Int:=-1-E.z.th
structure QA where
 x:Int
 M:List (Int × Int)
 P0:List N3
 B:Nat
 most:Int
 asked:List L4
 t:Int
 r:Int
 m:Int
 N0:Nat
structure JA(q:QA)(i:Nat)(has aL:List L4)(P:List N3):Prop where
 i1:1<=i
 ge:1+3*q.P0.length<=i+3*P.length
 le:i+3*P.length+3*aL.length<=q.B
 ok:iZ q.M has
 op:iZ q.M aL
 pl:(aL.length:Int)<=q.most
 nd:xz P
 sub:∀p∈P,(p.1,p.2.1)∈q.M
 nn:(P.map λp=>(p.1,p.2.1)).Nodup
 nc:d_ has P=P
 cv:∀p∈q.P0,p∈P\/cL has p=true
 su:∀p∈P,p∈q.P0
 n0:(q.P0.map λp=>(p.1,p.2.1)).Nodup
def Nv(b:Bool)(E:EN)(D:AD)(c:CD)(p:N3):iz:=if b then um E D p else uk D c p
def z8(b:Bool)(aL:List L4)(p:N3):List L4:=if b then cE aL p.1 p.2.1 else aL
structure JE(E:EN)(Z:af->Prop)(q:QA)(i n:Nat)(h:af):Prop where
 ex:∃(b:Bool)(i0:Nat)(has aL:List L4)(p:N3)(P:List N3)(N kb:Nat)(G:GT)(out:Int)(c:CD),i+n=i0+3/\JA q i0 has aL (p::P)/\AW h E G N n (Nv b E ⟨q.x,q.asked,has,z8 b aL p⟩ c p) out ⟨q.x,q.asked,has,z8 b aL p⟩ kb c/\c.dP=p::P/\c.ask=Nv b E ⟨q.x,q.asked,has,z8 b aL p⟩ c p/\
  c.RJ=126/\c.code=0/\c.t=q.t/\c.r=q.r/\c.m=q.m/\c.w=0/\3*N<=3*q.N0+i0+2/\Z h/\
  (b=true->c.fQ=aO aL p.1 p.2.1/\aO has p.1 p.2.1=0/\aO aL p.1 p.2.1≠0)/\
  (n≠1->mg q.x (yE E) has aL G)/\
  (n=1->if b then(out=1/\mg q.x (yE E) (cV has ⟨q.x,p.1,p.2.1,aO aL p.1 p.2.1⟩) (cE aL p.1 p.2.1) G)\/(out=6/\mg q.x (yE E) has (cE aL p.1 p.2.1) G)
   else(out=1/\mg q.x (yE E) (cV has (Ht q.x has p)) aL G)\/(out=5/\mg q.x (yE E) has aL G/\8<=2*N))
 n3:n=3\/n=2\/n=1
def Vd(E:EN)(Z:af->Prop)(q:QA)(i:Nat)(code:Int)(h:af):Prop:=
 ∃has aL asked' N G,AI h E G N ⟨q.x,asked',has,aL⟩/\mg q.x (yE E) has aL G/\Z h/\3*N<=3*q.N0+i+2/\iZ q.M has/\iZ q.M aL/\(aL.length:Int)<=q.most/\(i+1+3*aL.length<=q.B\/q.P0.length=0)/\
  ((code=1/\asked'=cV q.asked ⟨q.x,q.t,q.r,bA (aO q.asked q.t q.r) q.m⟩/\3*q.P0.length<=i/\∀p∈q.P0,cL has p=true)\/(code=5/\asked'=q.asked/\8<=2*N))
theorem R_{a b:Int}(ha:kn a=true)(hb:kn b=true):iK (bA a b) b=true:=by
 have key:∀i:Nat,i<7->∀j:Nat,j<7->iK (bA (i:Nat) (j:Nat)) (j:Nat)=true:=by decide +kernel
 obtain⟨i,hi,rfl⟩:=iy ha;obtain⟨j,hj,rfl⟩:=iy hb;exact key i hi j hj
section
variable {M:List (Int × Int)}{has:List L4}{x:Int}{p:N3}{P:List N3}
theorem aby(s:iZ M has)(ok:bf p.1 p.2.1≠-1/\kn p.2.2=true/\p.2.2≠0)(hm:(p.1,p.2.1)∈M):iZ M (cV has (Ht x has p)):=by
 obtain⟨q1,q2,_⟩:=jm (s.Hs p.1 p.2.1) ok.2.1 ok.2.2;exact s.put ⟨ok.1,q2,q1⟩ hm
theorem Ve(s:iZ M has)(ok:bf p.1 p.2.1≠-1/\kn p.2.2=true/\p.2.2≠0):cL (cV has (Ht x has p)) p=true:=by
 obtain⟨q1,q2,_⟩:=jm (s.Hs p.1 p.2.1) ok.2.1 ok.2.2;have e:aO (cV has (Ht x has p)) p.1 p.2.1=bA (aO has p.1 p.2.1) p.2.2:=by
  rw[ig,if_pos ⟨rfl,rfl⟩];rfl
 unfold cL;rw[e,R_ (s.Hs _ _) ok.2.1,decide_eq_true q1];rfl
theorem vz{g:L4}{q:N3}(hn:¬(g.t=q.1/\g.r=q.2.1)):cL (cV has g) q=cL has q:=by
 unfold cL;rw[ig,if_neg hn]
theorem Sa(nn:((p::P).map λp=>(p.1,p.2.1)).Nodup){q:N3}(hq:q∈P):¬(p.1=q.1/\p.2.1=q.2.1):=by
 rintro⟨e1,e2⟩;rw[List.map_cons,List.nodup_cons]at nn;exact nn.1 (List.mem_map.2 ⟨q,hq,Prod.ext e1.symm e2.symm⟩)
theorem BV{g:L4}(hg:g.t=p.1/\g.r=p.2.1)(nn:((p::P).map λp=>(p.1,p.2.1)).Nodup)(nc:d_ has (p::P)=p::P):d_ (cV has g) P=P:=by
 unfold d_ at nc ⊢;rw[List.filter_eq_self]at nc ⊢;intro q hq;rw[vz (by rw[hg.1,hg.2];exact Sa nn hq)];exact nc q (.tail _ hq)
theorem Hu{g:L4}(hg:g.t=p.1/\g.r=p.2.1)(nn:((p::P).map λp=>(p.1,p.2.1)).Nodup)(nc:d_ has (p::P)=p::P):(cL (cV has g) p=true/\d_ (cV has g) (p::P)=P)\/(d_ (cV has g) (p::P)=p::P):=by
 have h1:=BV hg nn nc;unfold d_ at h1 ⊢;rw[List.filter_cons,h1];cases hc:cL (cV has g) p with
 |true=>exact .inl ⟨rfl,rfl⟩
 |false=>exact .inr rfl
end
theorem abz{α β:Type}{f:α->β}:∀{L:List α},(L.map f).Nodup->∀{a b:α},a∈L->b∈L->f a=f b->a=b:=by
 intro L
 induction L with
 |nil=>intro _ a b ha;cases ha
 |cons c L ih=>
  intro h a b ha hb e;rw[List.map_cons,List.nodup_cons]at h;rcases List.mem_cons.1 ha with e1|h1<;>rcases List.mem_cons.1 hb with e2|h2
  .rw[e1,e2]
  .rw[e1]at e;exact absurd (List.mem_map.2 ⟨b,h2,e.symm⟩) h.1
  .rw[e2]at e;exact absurd (List.mem_map.2 ⟨a,h1,e⟩) h.1
  .exact ih h.2 h1 h2 e
theorem JA.other{q:QA}{i:Nat}{has aL:List L4}{p:N3}{P:List N3}(s:JA q i has aL (p::P)){y:N3}(hy:y∈q.P0)(hc:cL has y=true):¬(p.1=y.1/\p.2.1=y.2.1):=by
 rintro⟨e1,e2⟩;have:=abz s.n0 (s.su p (.head _)) hy (Prod.ext e1 e2);subst this;have h:=s.nc;unfold d_ at h;rw[List.filter_eq_self]at h;have:=h p (.head _);rw[hc]at this;cases this
theorem JA.grow{q:QA}{i:Nat}{has aL gZ:List L4}{p:N3}{P:List N3}(s:JA q i has aL (p::P)){g:L4}(hg:g.t=p.1/\g.r=p.2.1)(ok:iZ q.M (cV has g))(cp:cL (cV has g) p=true)(op:iZ q.M gZ)(pl:gZ.length<=aL.length):JA q (i+3) (cV has g) gZ P:=by
 have nn:=s.nn;rw[List.map_cons,List.nodup_cons]at nn;have h1:=s.ge;have h2:=s.le;have h3:=s.pl;simp only[List.length_cons]at h1 h2;refine⟨XQ,XQ,XQ,ok,op,XQ,λy hy=>s.nd y (.tail _ hy),λy hy=>s.sub y (.tail _ hy),nn.2,BV hg s.nn s.nc,λy hy=>?_,λy hy=>s.su y (.tail _ hy),s.n0⟩;rcases s.cv y hy with h|h
 .rcases List.mem_cons.1 h with rfl|h
  .exact .inr cp
  .exact .inl h
 .exact .inr (by rw[vz (by rw[hg.1,hg.2];exact s.other hy h)];exact h)
theorem JA.same{q:QA}{i:Nat}{has aL:List L4}{p:N3}{P:List N3}(s:JA q i has aL (p::P)){iI:List L4}(hh:iI=has\/∃g:L4,(g.t=p.1/\g.r=p.2.1)/\iI=cV has g)(ok:iZ q.M iI)(nc:d_ iI (p::P)=p::P)(hp:aO aL p.1 p.2.1≠0):JA q (i+3) iI (cE aL p.1 p.2.1) (p::P):=by
 have h1:=s.ge;have h2:=s.le;have h3:=s.pl;have h4:=s.op.uo hp;refine⟨XQ,XQ,XQ,ok,s.op.drop _ _,XQ,s.nd,s.sub,s.nn,nc,λy hy=>?_,s.su,s.n0⟩;rcases s.cv y hy with h|h
 .exact .inl h
 .rcases hh with rfl|⟨g,hg,rfl⟩
  .exact .inr h
  .exact .inr (by rw[vz (by rw[hg.1,hg.2];exact s.other hy h)];exact h)
theorem LB{E:EN}{Z:af->Prop}(hZ:∀{h h':af},Z h->FK E.a h h'->Z h'){q:QA}(hx:1<=q.x)(hB:q.B<=60)(hM:q.M.length<=19)(la:q.asked.length<=1000)(hm:kn q.m=true)(Hv:q.N0<=400){i:Nat}{has aL:List L4}{P1:List N3}{h:af}{G:GT}{N kb:Nat}{y0:iz}{o0:Int}{c:CD}(s:AW h E G N 0 y0 o0 ⟨q.x,q.asked,has,aL⟩ kb c)(z:Z h)(A:mg q.x (yE E) has aL G)(c1:c.dP=P1)(c3:c.RJ=126)(c4:c.code=0)(c5:c.t=q.t)(c6:c.r=q.r)(c7:c.m=q.m)(c8:c.w=0)(l3:P1.length<=100)(okP:xz P1)(J:JA q i has aL (d_ has P1))(hN:3*N+1<=3*q.N0+i)(i':Nat)(hi':i<=i'+1)(aaW:d_ has P1=[]->3*q.P0.length<=i'/\(i'+1+3*aL.length<=q.B\/q.P0.length=0))(V:KQ)(hS:∀h' G' N' y' o' D' c',AW h' E G' N' 3 y' o' D' kb c'->c'.code=0->FK E.a h h'->JE E Z q i 3 h'->V (.tuple ⟨[]⟩) h')(hE:∀h' G' N' y' o' D' c',AW h' E G' N' 0 y' o' D' kb c'->c'.code=1->c'.ask=c.ask->FK E.a h h'->(∀h4,AI h4 E G' N' D'->FK E.a h' h4->Vd E Z q i' 1 h4)->V (.tuple ⟨[]⟩) h'):aj prog 131 [pt E.z.ab] h V:=by
 have uz:=s.th;have lh:=J.ok.len;have lp:=J.op.len;have hle:=J.le;refine Ly s XQ (by show aL.length<=1000;omega) (by show q.x≠-1-E.z.th;omega) (by show has.length<=1000;omega) la (by rw[c1];exact l3) XQ (by rw[c7];exact hm) (by rw[c1];exact okP) J.ok.Hs 0 _ ?_ ?_ ?_
 .intro hL h2 s2 f2;have hL:d_ has P1=[]:=by rw[<-c1];exact hL
  obtain⟨q1,q2⟩:=aaW hL;refine hE h2 G N _ _ _ _ s2 rfl rfl f2 λh4 a4 f4=>?_;refine⟨has,aL,_,N,G,a4,A,hZ (hZ z f2) f4,XQ,J.ok,J.op,J.pl,q2,.inl ⟨rfl,?_,q1,λy hy=>?_⟩⟩
  .rw[c5,c6,c7]
  .rcases J.cv y hy with h|h
   .rw[hL]at h;cases h
   .exact h
 .intro p P hL h2 s2 f2;have hL:d_ has P1=p::P:=by rw[<-c1];exact hL
  refine hS h2 _ _ _ _ _ _ s2 c4 f2 ⟨⟨false,i,has,aL,p,P,N+1,kb,G,0,{ c with dP:=p::P,ask:=uk ⟨q.x,q.asked,has,aL⟩ c p },rfl,by rw[<-hL];exact J,s2,rfl,rfl,c3,c4,c5,c6,c7,c8,XQ,hZ z f2,(λe=>by cases e),λ_=>A,λe=>by omega⟩,.inl rfl⟩
 .intro p P hL hH hP h2 s2 f2;have hL:d_ has P1=p::P:=by rw[<-c1];exact hL
  refine hS h2 _ _ _ _ _ _ s2 c4 f2 ⟨⟨true,i,has,aL,p,P,N+1,kb,G,0,{ c with dP:=p::P,ask:=um E ⟨q.x,q.asked,has,aL⟩ p,fQ:=aO aL p.1 p.2.1 },rfl,by rw[<-hL];exact J,s2,rfl,rfl,c3,c4,c5,c6,c7,c8,XQ,hZ z f2,λ_=>⟨rfl,hH,hP⟩,λ_=>A,λe=>by omega⟩,.inl rfl⟩
end Go.Proofs
