/-
  PROVED HERE: a part of the proof (S14, S15, S16, S17).
-/
import Derived.Test.YtmjghbjpdoeemaaGreatDoorTC
import Derived.Test.YtmjghbjpdoeemaaGreatDoorLD
import Derived.Test.YtmjghbjpdoeemaaGreatDoorRZ
set_option linter.unusedVariables false
set_option linter.unusedSimpArgs false
set_option maxRecDepth 100000
set_option maxHeartbeats 2000000
namespace Go.Proofs
open Go.Vai Go.Clashes
def Ws (Ts:List (List HE)) (s t r x id:Int) (b:Bool):Prop:=(ck t r s<0∧id=0∧b=false)∨∃(k:Nat) (M:List HE),Ts[k]? = some M∧ck t r s=(k:Int)∧Dm M t r x id b
section
variable {h:Heap} {tb bw bp bl:Nat} {c:fW} {vb:Value} {aH N:Nat} {Ts:List TB} {W:List IE} {wc:Nat} {F:List Int} {B:List Bool} {H X:Int→Int→Int}
theorem J7 (s:jx h tb bw bp bl c vb aH N Ts W wc F B) (hlo:h.lo≤h.nx) (t r x:Int) (κ:KQ)
  (hk:∀h' id b,Ws (Ts.map (·.M)) c.S t r x id b→Le h h'→κ (.tuple ⟨[.int .i64 id,.bool b]⟩) h') :
  CallW Tryz.prog 207 [.pointer (some ⟨tb,0,none⟩),dK t r,.int .i64 x] h κ:=by
 refine aq mixed ?_
 rw[Qa]
 simp(disch:=first|omega|simp only[Wd]<;>omega|with_unfolding_all rfl)only[Wz,dK]
 obtain ⟨hA,aJ⟩:∃hA:Heap,hA=⟨h.nx+1,(h.bl.aW (h.nx) (aa [.int .i64 t,.int .i64 r] 36 false)),h.lo⟩:=⟨_,rfl⟩
 have aU:Le h hA:=by subst aJ; exact ((Le.refl h).new _)
 have g1:hA.bl.get (h.nx)=some (aa [.int .i64 t,.int .i64 r] 36 false):=by subst aJ; exact T.af _ _ _
 have ig:hA.nx=h.nx+1:=by subst aJ; rfl
 have ij:hA.lo=h.lo:=by subst aJ; rfl
 rw[←aJ]
 clear aJ
 refine qP (s.le aU).is (by omega) t r _ ?_
 intro h2 bF
 have xD:=bF.nx
 have xE:=bF.lo
 have g1:=(bF.get _ (by omega)).trans g1
 have ki:=aU.trans bF
 have s2:=s.le ki
 by_cases hneg:ck t r c.S<0
 ·simp(disch:=first|omega|simp only[Wd]<;>omega|with_unfolding_all rfl)only[Wz,aZ hneg]
  exact hk h2 0 false (.inl ⟨hneg,rfl,rfl⟩) ki
 obtain ⟨k,b,hst,hb⟩:=V6 s.is hneg
 have gt:=s2.is.kR
 obtain ⟨cc,oo,_,EY,nu⟩:=Mu s2.is.sl k hb
 have nu:=nu h2 (Le.refl _)
 rw[hst]
 simp(disch:=first|omega|simp only[Wd]<;>omega|with_unfolding_all rfl)only[Wz,c6 (show (0:Int)≤(k:Int) by omega),A7,aN,gt,EY,nu,g1]
 refine Ms (s2.is.bk b (List.mem_of_getElem? hb)) (by omega) t r x _ ?_
 intro h3 id bb fi f_
 simp(disch:=first|omega|simp only[Wd]<;>omega|with_unfolding_all rfl)only[Wz]
 exact hk h3 id bb (.inr ⟨k,b.M,by rw[List.getElem?_map,hb]; rfl,hst,fi⟩) (ki.trans f_)
theorem B9 (s:jx h tb bw bp bl c vb aH N Ts W wc F B) (L:Lone Ts H X) (hlo:h.lo≤h.nx) (t r:Int) (κ:KQ)
  (lF:H t r=0→∀h',Le h h'→κ (.tuple ⟨[.int .i64 0,.bool false]⟩) h')
  (jc:H t r≠0→∀h' (k:Nat) (b:TB) (e:HE) (id:Int),Ts[k]? = some b→ck t r c.S=(k:Int)→e∈b.M→e.t=t→e.r=r→e.Q=[⟨id,X t r,H t r,H t r,0⟩]→Le h h'→κ (.tuple ⟨[.int .i64 id,.bool true]⟩) h') :
  CallW Tryz.prog 207 [.pointer (some ⟨tb,0,none⟩),dK t r,.int .i64 (X t r)] h κ:=by
 refine J7 s hlo t r (X t r) _ ?_
 intro h' id b fi le
 by_cases hH:H t r=0
 ·have hno:=L.no hH
  rcases fi with ⟨_,rfl,rfl⟩ | ⟨k,M,hM,hst,⟨rfl,e,he,ht,hr,_⟩ | ⟨rfl,rfl,_⟩⟩
  ·exact lF hH h' le
  ·rw[List.getElem?_map] at hM
   cases hb:Ts[k]? with
   | none=>rw[hb] at hM; cases hM
   | some b0=>
    rw[hb] at hM; cases hM
    exact absurd ⟨ht,hr⟩ (hno b0 (List.mem_of_getElem? hb) e he)
  ·exact lF hH h' le
 ·obtain ⟨k0,b0,e0,id0,hb0,aaU,JM,ht0,OT,hQ0⟩:=L.at s hH
  have fin:∀(id:Int) (b:Bool),Dm b0.M t r (X t r) id b→id=id0∧b=true:=by
   rintro id b (⟨rfl,e,he,ht,hr,p,hp,hx,rfl⟩ | ⟨_,_,hn⟩)
   ·have:=(s.is.bk b0 (List.mem_of_getElem? hb0)).ok.uniq he JM (by rw[←ht,ht0]) (by rw[←hr,OT])
    subst this
    rw[hQ0,List.mem_singleton] at hp
    subst hp
    exact ⟨rfl,rfl⟩
   ·exact absurd rfl (hn e0 JM ht0.symm OT.symm ⟨id0,X t r,H t r,H t r,0⟩ (by rw[hQ0]; exact .head _))
  rcases fi with ⟨h1,_⟩ | ⟨k,M,hM,hst,fi⟩
  ·omega
  ·obtain rfl:k=k0:=by omega
   rw[List.getElem?_map,hb0] at hM; cases hM
   obtain ⟨rfl,rfl⟩:=fin id b fi
   exact jc hH h' k b0 e0 id hb0 aaU JM ht0 OT hQ0 le
theorem MI (s:jx h tb bw bp bl c vb aH N Ts W wc F B) (hlo:h.lo≤h.nx) {b:TB} (hb:b∈Ts) {e:HE} (he:e∈b.M) {id x m:Int} (hQ:e.Q=[⟨id,x,m,m,0⟩]) (κ:KQ)
  (hk:∀h',Le h h'→κ (.tuple ⟨[dK e.t e.r,jF ⟨id,x,m,m,0⟩,.bool true]⟩) h') :
  CallW Tryz.prog 152 [.pointer (some ⟨tb,0,none⟩),.int .i64 id] h κ:=by
 refine RG s hlo id _ ?_ ?_
 ·intro h' hn le
  have:=hn b hb e he
  rw[hQ,je,if_pos rfl] at this
  cases this
 ·intro h' b' e' p hb' he' hf le
  obtain ⟨i,hi,hid⟩:=uQ ((s.is.bk b' hb').good e' he').vq hf
  obtain ⟨rfl,rfl⟩:=s.uniq hb' hb he' he (List.mem_of_getElem? hi) (by rw[hQ]; exact .head _) hid
  rw[hQ,je,if_pos rfl] at hf
  cases hf
  exact hk h' le
end
section
variable {h:Heap} {A:WA} {a:TA} {N:Nat} {d:TD} {R:RD} {H X:Int→Int→Int}
theorem J8 (s:WS h A a N d R) (L:Lone d.Ts H X) (t r:Int) (κ:KQ)
  (hk:∀v Q h',(Q=[]∨∃id m,Q=[⟨id,X t r,m,m,0⟩])→Sl bu h' v Q→Le h h'→κ v h') :
  CallW Tryz.prog 209 [.pointer (some ⟨A.wb,0,none⟩),dK t r] h κ:=by
 have gw0:=s.r.gw
 have hlo:=s.lo
 refine aq mixed ?_
 rw[Qb]
 have zp:=s.r.zp
 simp(disch:=first|omega|simp only[Wd]<;>omega|with_unfolding_all rfl)only[Wz,dK,aN,gw0]
 obtain ⟨hA,aJ⟩:∃hA:Heap,hA=⟨h.nx+1,(h.bl.aW (h.nx) (aa [.int .i64 t,.int .i64 r] 36 false)),h.lo⟩:=⟨_,rfl⟩
 have aU:Le h hA:=by subst aJ; exact ((Le.refl h).new _)
 have g1:hA.bl.get (h.nx)=some (aa [.int .i64 t,.int .i64 r] 36 false):=by subst aJ; exact T.af _ _ _
 have ig:hA.nx=h.nx+1:=by subst aJ; rfl
 have ij:hA.lo=h.lo:=by subst aJ; rfl
 rw[←aJ]
 clear aJ
 have sA:=s.le aU
 refine My sA.t (by omega) _ ?_
 intro v0 h0 K t0 Wt
 have n0:=Wt.nx
 have l0:=Wt.lo
 obtain ⟨x0,c0,ev0,_⟩:=(show Sl oH h0 v0 K from t0.sl)
 have Wu:∀(β:Type) (fl:β) (h':Heap) (κ:Value→Heap→β),bA fl v0 h' κ=κ (.int .i64 (K.length:Int)) h':=fun β fl h' κ=>by rw[ev0]; exact dx _ _ _ _ _
 have Q6:K.length≤1024:=by
  have h1:=t0.perm.length_eq
  rw[List.length_map] at h1
  rw[h1]
  have h2:=s.t.is.s1.2
  have h3:=s.t.is.hd
  have:∀L:List TB,(∀b∈L,b.M.length≤64)→(L.flatMap fun b=>b.M.map ef).length≤64*L.length:=by
   intro L
   induction L with
   | nil=>intro _; simp
   | cons b L ih=>
    intro hL
    rw[List.flatMap_cons,List.length_append,List.length_map,List.length_cons]
    have h1:=ih fun x hx=>hL x (.tail _ hx)
    have h2:=hL b (.head _)
    omega
  have:=this d.Ts fun b hb=>by have:=s.t.len b hb; omega
  omega
 have g10:=(Wt.get _ (by omega)).trans g1
 simp(disch:=first|omega|simp only[Wd]<;>omega|with_unfolding_all rfl)only[Wz,Wu]
 refine ⟨fun n l h1=>∃i:Nat,slot l 12=.int .i64 (i:Int)∧n=K.length-i∧i≤K.length∧Le h0 h1,
  ⟨_,0,rfl,rfl,by omega,Le.refl _⟩,?_⟩
 rintro n l h1 ⟨i,s1,rfl,hi,b_⟩
 have n1:=b_.nx
 have l1:=b_.lo
 by_cases hlt:i<K.length
 ·obtain ⟨e,he⟩:∃e,K[i]? = some e:=⟨_,List.getElem?_eq_getElem hlt⟩
  have heK:=List.mem_of_getElem? he
  obtain ⟨⟨b',hb',e',he',se⟩,qv⟩:=t0.each e heK
  obtain ⟨b0,o0,hb0,hx0,OT⟩:=aaA t0.sl i he (Rt qv.1)
  have R1:=OT h1 b_
  have qv1:=qv.le b_
  obtain ⟨qx,qc,eq,_⟩:=(show Sl bu h1 e.q e.Q from qv1.1)
  have g11:=(b_.get _ (by omega)).trans g10
  rw[eq] at R1
  simp(disch:=first|omega|simp only[Wd]<;>omega|with_unfolding_all rfl)only[Wz,s1,fI (show (i:Int)<(K.length:Int) by omega),A8,hx0,R1,g11]
  rw[y8]
  by_cases hn:e.t=t∧e.r=r
  ·rw[aZ hn]
   simp(disch:=first|omega|simp only[Wd]<;>omega|with_unfolding_all rfl)only[Wz]
   obtain ⟨id,hQ,hm⟩:=L.one b' hb' e' he'
   refine hk _ e.Q _ ?_ ?_ ((aU.trans (Wt.trans b_)).trans ((Le.refl h1).new _))
   ·refine .inr ⟨id,H e'.t e'.r,?_⟩
    rw[se.2.2.2,hQ,←se.1,←se.2.1,hn.1,hn.2]
   ·rw[←eq]; exact (qv1.le ((Le.refl h1).new _)).1
  ·rw[aG hn]
   simp(disch:=first|omega|simp only[Wd]<;>omega|with_unfolding_all rfl)only[Wz,s1]
   exact ⟨_,by omega,i+1,rfl,rfl,by omega,b_.trans ((Le.refl h1).new _)⟩
 ·simp(disch:=first|omega|simp only[Wd]<;>omega|with_unfolding_all rfl)only[Wz,s1,c6 (show (K.length:Int)≤(i:Int) by omega)]
  exact hk _ [] _ (.inl rfl) (Sl.nil _ _ _) (aU.trans (Wt.trans b_))
end
theorem RR {m:Int} (h:kn m=true):cV 0 m=m:=by
 have key:∀j,j<7→cV 0 (j:Nat)=(j:Nat):=by decide +kernel
 obtain ⟨j,hj,rfl⟩:=lD h
 exact key j hj
theorem E9 {a b:Int} (ha:kn a=true) (hb:kn b=true) (h0:b≠0):cV a b≠0∧kn (cV a b)=true∧cV a (cV a b)=cV a b∧(lR a b=true→cV a b=a):=by
 have key:∀i:Nat,i<7→∀j:Nat,j<7→(j:Int)≠0→cV (i:Nat) (j:Nat)≠0∧kn (cV (i:Nat) (j:Nat))=true∧cV (i:Nat) (cV (i:Nat) (j:Nat))=cV (i:Nat) (j:Nat)∧(lR (i:Nat) (j:Nat)=true→cV (i:Nat) (j:Nat)=(i:Nat)):=by decide +kernel
 obtain ⟨i,hi,rfl⟩:=lD ha
 obtain ⟨j,hj,rfl⟩:=lD hb
 exact key i hi j hj h0
structure jA (d d':TD) (k:Nat):Prop where
 f:d.F.length≤d'.F.length+1
 m:∀(j:Nat) (b':TB),d'.Ts[j]? = some b'→∃b,d.Ts[j]? = some b∧b'.M.length≤b.M.length+if j=k then 1 else 0
theorem vm {d:TD} {k:Nat} {b:TB} (hk:d.Ts[k]? = some b) {M':List HE} {cl:Nat} (hl:M'.length≤b.M.length+1) (W':List IE) (vG:Nat) {F':List Int} (hF:d.F.length≤F'.length+1) (B':List Bool):jA d ⟨d.Ts.set k ⟨b.bb,b.bm,M',cl⟩,W',vG,F',B'⟩ k:=by
 refine ⟨hF,fun j b' hj=>?_⟩
 rcases ew hj with ⟨rfl,rfl⟩ | ⟨hne,hj⟩
 ·exact ⟨b,hk,by rw[if_pos rfl]; exact hl⟩
 ·exact ⟨b',hj,by omega⟩
section
variable {h:Heap} {a:TA} {N:Nat} {d:TD} {H X:Int→Int→Int}
theorem MJ (s:B6 h a N d) (L:Lone d.Ts H X) (hlo:h.lo≤h.nx) (hN:N≤1000) {k:Nat} {b:TB} (hb:d.Ts[k]? = some b) {t r m:Int} (hst:ck t r a.c.S=(k:Int)) (hH:H t r=0) (am:bK m=true) (hF:d.F≠[]) (hh:b.M.length<a.aH) (κ:KQ)
  (hk:∀h' d' id,B6 h' a (N+1) d'→Lone d'.Ts (gF H t r m) X→jA d d' k→rR d.Ts a.bw a.bp a.bl h h'→d'.Ts.map (·.bm)=d.Ts.map (·.bm)→κ (.tuple ⟨[.int .i64 id,.bool true,.int .i64 0]⟩) h') :
  CallW Tryz.prog 213 [.pointer (some ⟨a.tb,0,none⟩),dK t r,.int .i64 (X t r),.int .i64 m] h κ:=by
 have hno:=L.no hH
 obtain ⟨hm,km⟩:=(jt m).1 am
 refine MC s hlo hN t r (X t r) m _ ?_ ?_ ?_ ?_ ?_
 ·intro h' hn; omega
 ·intro k' b' h' _ _ hf; rw[am] at hf; cases hf
 ·intro k' b' h' e p hb' _ _ he ht hr; exact absurd ⟨ht,hr⟩ (hno b' (List.mem_of_getElem? hb') e he)
 ·intro k' b' h' hb' RS _ _ hor
  obtain rfl:k'=k:=by omega
  rw[hb] at hb'; cases hb'
  rcases hor with h1 | ⟨_,h1⟩
  ·exact absurd h1 hF
  ·omega
 ·intro k' b' M' clock' F' W' vG h0 h1 h' n g hb' RS _ _ _ ak s' fr
  obtain rfl:k'=k:=by omega
  rw[hb] at hb'; cases hb'
  obtain ⟨Q,w,hold,_,_,hg,st⟩:=ak.set
  rcases hold with ⟨e,he,h1,h2,_⟩ | ⟨_,_,rfl,rfl⟩
  ·exact absurd ⟨h1.symm,h2.symm⟩ (hno b (List.mem_of_getElem? hb) e he)
  ·rw[JV] at hg st
   rw[List.nil_append,xL hm] at st
   subst hg
   have L':=L.settle s hb hst hm clock' st
   have o:=(s.is.bk b (List.mem_of_getElem? hb)).ok
   refine hk h' ⟨_,W',vG,F',d.B.set n true⟩ n s' L' (vm hb (st.cnt o) W' vG ?_ _) fr (Ds hb _ _)
   have:=ak.free.length_eq
   rw[List.length_cons] at this
   omega
theorem MK (s:B6 h a N d) (L:Lone d.Ts H X) (hlo:h.lo≤h.nx) (hN:N≤1000) {k:Nat} {b:TB} (hb:d.Ts[k]? = some b) {t r m id:Int} (hst:ck t r a.c.S=(k:Int)) {e:HE} (he:e∈b.M) (ht:e.t=t) (hr:e.r=r) (hQ:e.Q=[⟨id,X t r,H t r,H t r,0⟩]) (hH:H t r≠0) (km:kn m=true) (hm:m≠0) (κ:KQ)
  (hk:∀h' d',B6 h' a (N+1) d'→Lone d'.Ts (gF H t r (cV (H t r) m)) X→jA d d' k→rR d.Ts a.bw a.bp a.bl h h'→d'.Ts.map (·.bm)=d.Ts.map (·.bm)→κ (.tuple ⟨[.bool true,.int .i64 0]⟩) h') :
  CallW Tryz.prog 214 [.pointer (some ⟨a.tb,0,none⟩),.int .i64 id,.int .i64 (cV (H t r) m)] h κ:=by
 have Df:=List.mem_of_getElem? hb
 obtain ⟨n0,kns,idem,_⟩:=E9 (L.km s hH) km hm
 have am:bK (cV (H t r) m)=true:=(jt _).2 ⟨n0,kns⟩
 have XD:∀(k':Nat) (b':TB) (e':HE) (p:R5),d.Ts[k']? = some b'→e'∈b'.M→bT e'.Q id=some p→k'=k∧b'=b∧e'=e∧p=⟨id,X t r,H t r,H t r,0⟩:=by
  intro k' b' e' p hb' he' hf
  obtain ⟨i,hi,hid⟩:=uQ ((s.is.bk b' (List.mem_of_getElem? hb')).good e' he').vq hf
  obtain ⟨rfl,rfl⟩:=s.uniq (List.mem_of_getElem? hb') Df he' he (List.mem_of_getElem? hi) (by rw[hQ]; exact .head _) hid
  rw[hQ,je,if_pos rfl] at hf
  have h1:=s.nm k' b' hb' e' he'
  rw[ht,hr] at h1
  exact ⟨by omega,rfl,rfl,(Option.some.inj hf).symm⟩
 refine B1 s hlo hN id _ _ ?_ ?_ ?_ ?_
 ·intro h' hf; rw[am] at hf; cases hf
 ·intro _ hn
  have:=hn b Df e he
  rw[hQ,je,if_pos rfl] at this
  cases this
 ·intro k' b' h' e' p _ hb' he' hf hp
  obtain ⟨_,_,_,rfl⟩:=XD k' b' e' p hb' he' hf
  simp at hp
 ·intro k' b' h' M' clock' e' p i _ hb' he' hpi hf _ mv s'
  obtain ⟨rfl,rfl,rfl,rfl⟩:=XD k' b' e' p hb' he' hf
  have i0:i=0:=by
   have:=(List.getElem?_eq_some_iff.1 hpi).1
   rw[hQ] at this
   simpa using this
  subst i0
  have st:=mv.set
  rw[hQ,B2,idem,List.set_cons_zero,xL n0,ht,hr] at st
  rw[hQ,B2]
  have L':=L.settle s hb hst n0 clock' st
  have o:=(s.is.bk b' Df).ok
  exact hk h' ⟨_,d.W,d.wc,d.F,d.B⟩ s' L' (vm hb (st.cnt o) _ _ (Nat.le_succ _) _) (rR.RC Df mv.fr) (Ds hb _ _)
theorem Gt (s:B6 h a N d) (L:Lone d.Ts H X) (hlo:h.lo≤h.nx) {k:Nat} {b:TB} (hb:d.Ts[k]? = some b) {t r id:Int} (hst:ck t r a.c.S=(k:Int)) {e:HE} (he:e∈b.M) (ht:e.t=t) (hr:e.r=r) (hQ:e.Q=[⟨id,X t r,H t r,H t r,0⟩]) (κ:KQ)
  (hk:∀h' d' v',wq h h' v' []→B6 h' a (N+1) d'→Lone d'.Ts (gF H t r 0) X→jA d d' k→rR d.Ts a.bw a.bp a.bl h h'→d'.Ts.map (·.bm)=d.Ts.map (·.bm)→κ (.tuple ⟨[v',.int .i64 0]⟩) h') :
  CallW Tryz.prog 253 [.pointer (some ⟨a.tb,0,none⟩),.int .i64 id] h κ:=by
 have Df:=List.mem_of_getElem? hb
 have XD:∀(k':Nat) (b':TB) (e':HE) (p:R5),d.Ts[k']? = some b'→e'∈b'.M→bT e'.Q id=some p→k'=k∧b'=b∧e'=e∧p=⟨id,X t r,H t r,H t r,0⟩:=by
  intro k' b' e' p hb' he' hf
  obtain ⟨i,hi,hid⟩:=uQ ((s.is.bk b' (List.mem_of_getElem? hb')).good e' he').vq hf
  obtain ⟨rfl,rfl⟩:=s.uniq (List.mem_of_getElem? hb') Df he' he (List.mem_of_getElem? hi) (by rw[hQ]; exact .head _) hid
  rw[hQ,je,if_pos rfl] at hf
  have h1:=s.nm k' b' hb' e' he'
  rw[ht,hr] at h1
  exact ⟨by omega,rfl,rfl,(Option.some.inj hf).symm⟩
 refine JO s hlo id _ ?_ ?_
 ·intro hn
  have:=hn b Df e he
  rw[hQ,je,if_pos rfl] at this
  cases this
 ·intro k' b' h' M' clock' F' v' e' p n hb' he' hf hid zG hpF mv ho s'
  obtain ⟨rfl,rfl,rfl,rfl⟩:=XD k' b' e' p hb' he' hf
  have aaX:(e'.Q.filter fun r=>!bP id r)=[]:=by rw[hQ]; simp[bP]
  have st:=mv.set
  rw[aaX] at st ho
  rw[ht,hr] at st
  have L':=L.gone s hb hst clock' st
  have o:=(s.is.bk b' Df).ok
  refine hk h' ⟨_,d.W,d.wc,F',d.B.set n false⟩ v' ho s' L' (vm hb (st.cnt o) _ _ ?_ _) (rR.RC Df mv.fr) (Ds hb _ _)
  have:=hpF.length_eq
  rw[List.length_append,List.length_singleton] at this
  omega
end
theorem xP (H:Int→Int→Int) (t r:Int):gF H t r (H t r)=H:=by
 funext t' r'
 unfold gF
 split
 ·rename_i e; rw[e.1,e.2]
 ·rfl
theorem jA.refl (d:TD) (k:Nat):jA d d k:=⟨Nat.le_succ _,fun j b' hj=>⟨b',hj,Nat.le_add_right _ _⟩⟩
section
variable {h:Heap} {A:WA} {a:TA} {N:Nat} {d:TD} {R:RD} {H X:Int→Int→Int}
theorem vo (s:WS h A a N d R) (L:Lone d.Ts H X) (hN:N≤1000) {i k:Nat} {c:CR} (hi:R.cs[i]? = some (some c)) {b:TB} (hb:d.Ts[k]? = some b) (hst:ck c.a.t c.a.r a.c.S=(k:Int)) (hx:c.a.x=X c.a.t c.a.r) (hx0:0≤c.a.x) (km:kn c.a.m=true) (hm:c.a.m≠0) (hF:d.F≠[]) (hh:b.M.length<a.aH)
  (yP:List Value) (hl:slot yP 19=.int .i64 (H c.a.t c.a.r)) (id:Int) (hid:H c.a.t c.a.r≠0→∃e∈b.M,e.t=c.a.t∧e.r=c.a.r∧e.Q=[⟨id,X c.a.t c.a.r,H c.a.t c.a.r,H c.a.t c.a.r,0⟩]) (κ:KQ)
  (hk:∀h' d',WS h' A a (N+1) d' { R with cs:=R.cs.set i (some { c with out:=1 }) }→Lone d'.Ts (gF H c.a.t c.a.r (cV (H c.a.t c.a.r) c.a.m)) X→jA d d' k→WK a h h'→κ (.tuple ⟨[]⟩) h') :
  tZ (.pointer (some ⟨c.ca,0,none⟩)) yP (.int .i64 id) h κ:=by
 obtain ⟨gc,c1,c2⟩:=cD s hi
 have gc':=gc
 unfold cw at gc'
 have gw:=s.r.gw
 unfold tZ
 simp(disch:=first|omega|simp only[Wd]<;>omega|with_unfolding_all rfl)only[Wz,hl,aN,gc',gw]
 refine NR _ _ ?_
 simp(disch:=first|omega|simp only[Wd]<;>omega|with_unfolding_all rfl)only[Wz,aN,gc',gw]
 refine J8 s L c.a.t c.a.r _ ?_
 intro v Q h1 hQ hv b_
 obtain ⟨vx,vc,ev,_⟩:=(show Sl bu h1 v Q from hv)
 have hlen:∀(β:Type) (fl:β) (h':Heap) (κ:Value→Heap→β),bA fl v h' κ=κ (.int .i64 (Q.length:Int)) h':=fun β fl h' κ=>by rw[ev]; exact dx _ _ _ _ _
 have hQl:Q.length≤1:=by rcases hQ with rfl | ⟨_,_,rfl⟩<;>simp
 simp(disch:=first|omega|simp only[Wd]<;>omega|with_unfolding_all rfl)only[Wz,hlen]
 refine ⟨fun n l h2=>∃j:Nat,slot l 29=.int .i64 (j:Int)∧n=Q.length-j∧j≤Q.length∧Le h1 h2,⟨_,0,rfl,rfl,by omega,Le.refl _⟩,?_⟩
 rintro n l h2 ⟨j,s1,rfl,hj,bF⟩
 have n2:=bF.nx
 have l2:=bF.lo
 have n1:=b_.nx
 have l1:=b_.lo
 have hlo:=s.lo
 by_cases hlt:j<Q.length
 ·obtain ⟨p,hp⟩:∃p,Q[j]? = some p:=⟨_,List.getElem?_eq_getElem hlt⟩
  obtain ⟨b4,o4,hb4,hx4,Xs,_⟩:=QW hv j hp
  have hpx:0≤p.x:=by
   have hm:=List.mem_of_getElem? hp
   rcases hQ with rfl | ⟨i',m',rfl⟩
   ·nomatch hm
   ·rw[List.mem_singleton] at hm; subst hm; show 0≤X c.a.t c.a.r; omega
  rw[←bF.get _ hb4] at Xs
  simp(disch:=first|omega|simp only[Wd]<;>omega|with_unfolding_all rfl)only[Wz,tY,s1,fI (show (j:Int)<(Q.length:Int) by omega)]
  refine ⟨fun l' h'=>Le h1 h',?_,?_⟩
  ·simp(disch:=first|omega|simp only[Wd]<;>omega|with_unfolding_all rfl)only[Wz,AR,s1,hx4,Xs,bu,c6 (show (0:Int)≤p.x by omega)]
   exact bF.trans ((Le.refl h2).new _)
  ·intro l' h' le'
   exact ⟨_,by omega,j+1,rfl,rfl,by omega,le'⟩
 ·have ki:=b_.trans bF
  have s2:=s.le ki
  have y3:=(ki.get _ c1).trans gc
  have zf:=y3
  unfold cw at zf
  have On:=s2.r.gw
  have k02:=s.KB ki
  simp(disch:=first|omega|simp only[Wd]<;>omega|with_unfolding_all rfl)only[Wz,tY,s1,c6 (show (Q.length:Int)≤(j:Int) by omega),AX,aN,zf,hl]
  refine I1 _ _ ?_
  have fin:∀h' d',WS h' A a (N+1) d' R→Lone d'.Ts (gF H c.a.t c.a.r (cV (H c.a.t c.a.r) c.a.m)) X→jA d d' k→WK a h h'→κ (.tuple ⟨[]⟩) ⟨h'.nx,h'.bl.aW c.ca (cw A.wb { c with out:=1 }),h'.lo⟩:=fun h' d' s' L' g' w'=>by
   obtain ⟨GG,_,_⟩:=cD s' hi
   exact hk _ d' (WS.lJ s' hi rfl) L' g' (w'.trans (WS.ze s' GG (by simp[nK]) (by decide) _))
  unfold cw at fin
  by_cases Gu:lR (H c.a.t c.a.r) c.a.m=true
  ·have hH:H c.a.t c.a.r≠0:=fun h0=>by rw[h0] at Gu; exact hm (TC Gu)
   have hs:=(E9 (L.km s.t hH) km hm).2.2.2 Gu
   rw[Gu]
   simp(disch:=first|omega|simp only[Wd]<;>omega|with_unfolding_all rfl)only[Wz,aN,zf]
   refine fin h2 d (s2.up (Nat.le_succ _)) (by rw[hs,xP]; exact L) (jA.refl _ _) k02
  ·rw[Bool.not_eq_true] at Gu
   rw[Gu]
   simp(disch:=first|omega|simp only[Wd]<;>omega|with_unfolding_all rfl)only[Wz]
   refine ⟨fun l' h'=>∃d',slot l' 39=.bool true∧slot l' 40=.int .i64 0∧WS h' A a (N+1) d' R∧Lone d'.Ts (gF H c.a.t c.a.r (cV (H c.a.t c.a.r) c.a.m)) X∧jA d d' k∧WK a h h',?_,?_⟩
   ·by_cases hH:H c.a.t c.a.r=0
    ·have am:bK c.a.m=true:=(jt _).2 ⟨hm,km⟩
     rw[hH,RR km]
     simp(disch:=first|omega|simp only[Wd]<;>omega|with_unfolding_all rfl)only[Wz,hl,hH,AS,aN,zf,On]
     rw[hx]
     refine MJ s2.t L (by omega) hN hb hst hH am hF hh _ ?_
     intro h3 d3 id3 t3 L3 g3 f3 b3
     simp(disch:=first|omega|simp only[Wd]<;>omega|with_unfolding_all rfl)only[Wz]
     exact ⟨d3,trivial,trivial,s2.table t3 f3 b3,L3,g3,k02.trans (s2.kfr f3)⟩
    ·simp(disch:=first|omega|simp only[Wd]<;>omega|with_unfolding_all rfl)only[Wz,hl,aG hH,AT,aN,zf,On]
     obtain ⟨e,he,het,her,heQ⟩:=hid hH
     refine MK s2.t L (by omega) hN hb hst he het her heQ hH km hm _ ?_
     intro h3 d3 t3 L3 g3 f3 b3
     simp(disch:=first|omega|simp only[Wd]<;>omega|with_unfolding_all rfl)only[Wz]
     exact ⟨d3,trivial,trivial,s2.table t3 f3 b3,L3,g3,k02.trans (s2.kfr f3)⟩
   ·rintro l' h3 ⟨d3,e1,e2,s3,L3,g3,k3⟩
    obtain ⟨GG,_,_⟩:=cD s3 hi
    unfold cw at GG
    simp(disch:=first|omega|simp only[Wd]<;>omega|with_unfolding_all rfl)only[Wz,AW,e2,AV,AU,e1,aN,GG]
    exact fin h3 d3 s3 L3 g3 k3
end
end Go.Proofs
