/-
  PROVED HERE: a part of the proof.
-/
import Derived.Test.YtmjghbjpdoeemaaGreatDoorG7
import Derived.Test.YtmjghbjpdoeemaaGreatDoorRZ
import Derived.Test.YtmjghbjpdoeemaaGreatDoorG6
set_option linter.unusedVariables false
set_option linter.unusedSimpArgs false
set_option maxRecDepth 100000
set_option maxHeartbeats 4000000
namespace Go.Proofs
open Go.Vai Go.Clashes
theorem aho (h:Heap) (a b c d a' b' c' d':Int):lT Tryz.prog h 100 60 (.agg ⟨[.int .i64 a,.int .i64 b,.int .i64 c,.int .i64 d]⟩) (.agg ⟨[.int .i64 a',.int .i64 b',.int .i64 c',.int .i64 d']⟩) =
  (match (some (nX a a')) with | some true=>(match (match (some (nX b b')) with | some true=>(match (some (nX c c')) with | some true=>some true | r=>r) | r=>r) with | some true=>(match (some (nX d d')) with | some true=>some true | r=>r) | r=>r) | r=>r):=by kernel_rfl
theorem RV {β:Type} {fl:β} (cn:Bool) (a b c d:Int) (h:Heap) (κ:Value→Heap→β):au fl Tryz.prog .neq 60 cn false (.agg ⟨[.int .i64 a,.int .i64 b,.int .i64 c,.int .i64 d]⟩) (.agg ⟨[.int .i64 a,.int .i64 b,.int .i64 c,.int .i64 d]⟩) h κ=κ (.bool false) h:=by
 have:lT Tryz.prog h 100 60 (.agg ⟨[.int .i64 a,.int .i64 b,.int .i64 c,.int .i64 d]⟩) (.agg ⟨[.int .i64 a,.int .i64 b,.int .i64 c,.int .i64 d]⟩)=some true:=by
  rw[aho]; simp only[ga,decide_true]
 simp only[au,this,bV,Bool.not_true]
theorem ldL {h:Heap} {v:Value} {L:List L4} (hs:Sl gV h v L) (i:Nat) {p:L4} (hp:L[i]? = some p) :
  ∃b o,b<h.nx∧(∀(β:Type) (fl:β) (h':Heap) (κ:Value→Heap→β),aq fl 4 v (.int .i64 (i:Int)) h' κ=κ (.pointer (some ⟨b,o,none⟩)) h')∧
   ((∀(β:Type) (fl:β) (κ:List Value→β),zi fl (h.bl.get b) o 4 κ=κ (gV p))∧
   (∀(β:Type) (fl:β) (κ:Value→β),sV fl (h.bl.get b) o κ=κ (.int .i64 p.x))∧
   (∀(β:Type) (fl:β) (κ:List Value→β),zi fl (h.bl.get b) (o+1) 2 κ=κ [.int .i64 p.t,.int .i64 p.r])∧
   (∀(β:Type) (fl:β) (κ:Value→β),sV fl (h.bl.get b) (o+3) κ=κ (.int .i64 p.m))):=by
 obtain ⟨b,o,h1,h2,h3,hh⟩:=hs.ld mV i hp
 refine ⟨b,o,h1,h2,fun β fl κ=>pY hh 4 κ rfl,fun β fl κ=>e8 (fl:=fl) hh 0 κ (by show 0<4; omega),fun β fl κ=>?_,fun β fl κ=>e8 (fl:=fl) hh 3 κ (by show 3<4; omega)⟩
 have:=hh.sub 1 2 (by show 1+2≤4; omega)
 exact pY this 2 κ rfl
theorem RX (L:List L4) (v1 v2:Value) (h:Heap) (κ:KQ) (h1:Sl gV h v1 L) (h2:Sl gV h v2 L) (hl:L.length≤1000000) (hk:κ (.bool true) h):CallW Tryz.prog 22 [v1,v2] h κ:=by
 obtain ⟨x1,c1,e1,_⟩:=(show Sl gV h v1 L from h1)
 obtain ⟨x2,c2,e2,_⟩:=(show Sl gV h v2 L from h2)
 refine an mixed ?_
 rw[Zz]
 rw[e1,e2]
 simp(disch:=first|omega|simp only[Wd]<;>omega|rfl)only[Wz]
 refine ⟨fun m l h'=>∃i:Nat,slot l 16=.int .i64 (i:Int)∧m=L.length-i∧i≤L.length∧HQ h h',⟨_,0,rfl,rfl,by omega,rfl⟩,?_⟩
 rintro m l h' ⟨i,s1,rfl,hi,hq⟩
 cases (show h=h' from hq)
 by_cases hlt:i<L.length
 ·obtain ⟨p,hp⟩:∃p,L[i]? = some p:=⟨_,List.getElem?_eq_getElem hlt⟩
  obtain ⟨b1,o1,_,hx1,Hz,_⟩:=ldL h1 i hp
  obtain ⟨b2,o2,_,hx2,HB,_⟩:=ldL h2 i hp
  rw[e1] at hx1
  rw[e2] at hx2
  simp(disch:=first|omega|simp only[Wd]<;>omega|rfl)only[Wz,s1,cq (show (i:Int)<(L.length:Int) by omega),Iw,hx1,Hz,hx2,HB,gV,RV]
  exact ⟨_,by omega,i+1,rfl,rfl,by omega,rfl⟩
 ·simp(disch:=first|omega|simp only[Wd]<;>omega|rfl)only[Wz,s1,bP (show (L.length:Int)≤(i:Int) by omega)]
  exact hk
section
variable {h h':Heap} {bb bm bp bl most:Nat} {M M':List HE} {clock clock':Nat} {F F':List Int} {B:List Bool}
end
section
variable {h:Heap} {tb bw bp bl:Nat} {c:dF} {vb:Value} {aF N:Nat} {Ts:List TB} {W:List IE} {wc:Nat} {F:List Int} {B:List Bool}
end
section
variable {h:Heap} {tb bw bp bl:Nat} {c:dF} {vb:Value} {aF N:Nat} {Ts:List TB} {W:List IE} {wc:Nat} {F:List Int} {B:List Bool}
end
section
variable {a0 h:Heap} {tb bw bp bl:Nat} {c:dF} {vb:Value} {aF N:Nat} {Ts:List TB} {W:List IE} {wc:Nat} {F:List Int} {B:List Bool} {rt rp rl:Nat} {vr:Value} {R:List RB}
end
def T2 (Ts:List (List HE)) (s t r x id:Int) (b:Bool):Prop:=(bT t r s<0∧id=0∧b=false)∨∃(k:Nat) (M:List HE),Ts[k]? = some M∧bT t r s=(k:Int)∧Ch M t r x id b
section
variable {a0 h:Heap} {tb bw bp bl:Nat} {c:dF} {vb:Value} {aF N:Nat} {Ts:List TB} {W:List IE} {wc:Nat} {F:List Int} {B:List Bool} {rt rp rl:Nat} {vr:Value} {R:List RB}
theorem Pd (s:kj h tb bw bp bl c vb aF N Ts W wc F B) (hlo:h.lo≤h.nx) (t r x:Int) (κ:KQ)
  (hk:∀h' id b,T2 (Ts.map (·.M)) c.S t r x id b→Le h h'→κ (.tuple ⟨[.int .i64 id,.bool b]⟩) h') :
  CallW Tryz.prog 207 [.pointer (some ⟨tb,0,none⟩),dn t r,.int .i64 x] h κ:=by
 refine an mixed ?_
 rw[V2]
 simp(disch:=first|omega|simp only[Wd]<;>omega|rfl)only[Wz,dn]
 obtain ⟨hA,az⟩:∃hA:Heap,hA=⟨h.nx+1,(h.bl.aY (h.nx) (aa [.int .i64 t,.int .i64 r] 36 false)),h.lo⟩:=⟨_,rfl⟩
 have aK:Le h hA:=by subst az; exact ((Le.refl h).new _)
 have g1:hA.bl.get (h.nx)=some (aa [.int .i64 t,.int .i64 r] 36 false):=by subst az; exact T.af _ _ _
 have d_:hA.nx=h.nx+1:=by subst az; rfl
 have ee:hA.lo=h.lo:=by subst az; rfl
 rw[←az]
 clear az
 refine t_ (s.le aK).is (by omega) t r _ ?_
 intro h2 bt
 have kT:=bt.nx
 have kU:=bt.lo
 have g1:=(bt.get _ (by omega)).trans g1
 have eN:=aK.trans bt
 have s2:=s.le eN
 by_cases hneg:bT t r c.S<0
 ·simp(disch:=first|omega|simp only[Wd]<;>omega|rfl)only[Wz,a_ hneg]
  exact hk h2 0 false (.inl ⟨hneg,rfl,rfl⟩) eN
 obtain ⟨k,b,hst,hb⟩:=acz s.is hneg
 have gt:=s2.is.kV
 obtain ⟨cc,oo,_,Jr,eX⟩:=Rw s2.is.sl k hb
 have eX:=eX h2 (Le.refl _)
 rw[hst]
 simp(disch:=first|omega|simp only[Wd]<;>omega|rfl)only[Wz,bP (show (0:Int)≤(k:Int) by omega),D6,aJ,gt,Jr,eX,g1]
 refine Ru (s2.is.bk b (List.mem_of_getElem? hb)) (by omega) t r x _ ?_
 intro h3 id bb fi c9
 simp(disch:=first|omega|simp only[Wd]<;>omega|rfl)only[Wz]
 exact hk h3 id bb (.inr ⟨k,b.M,by rw[List.getElem?_map,hb]; rfl,hst,fi⟩) (eN.trans c9)
theorem Lc (t':fI a0 h rt rp rl c vr aF R B) (g:pM R) (hlo:h.lo≤h.nx) (t r x:Int) (κ:KQ)
  (hk:∀h' id b,T2 (R.map (·.K)) c.S t r x id b→Le h h'→κ (.tuple ⟨[.int .i64 id,.bool b]⟩) h') :
  CallW Tryz.prog 18 [.pointer (some ⟨rt,0,none⟩),dn t r,.int .i64 x] h κ:=by
 refine an mixed ?_
 rw[Zv]
 simp(disch:=first|omega|simp only[Wd]<;>omega|rfl)only[Wz,dn]
 obtain ⟨hA,az⟩:∃hA:Heap,hA=⟨h.nx+1,(h.bl.aY (h.nx) (aa [.int .i64 t,.int .i64 r] 36 false)),h.lo⟩:=⟨_,rfl⟩
 have aK:Le h hA:=by subst az; exact ((Le.refl h).new _)
 have g1:hA.bl.get (h.nx)=some (aa [.int .i64 t,.int .i64 r] 36 false):=by subst az; exact T.af _ _ _
 have d_:hA.nx=h.nx+1:=by subst az; rfl
 have ee:hA.lo=h.lo:=by subst az; rfl
 rw[←az]
 clear az
 refine yL (t'.le aK) (by omega) t r _ ?_
 intro h2 bt
 have kT:=bt.nx
 have kU:=bt.lo
 have g1:=(bt.get _ (by omega)).trans g1
 have eN:=aK.trans bt
 have t2:=t'.le eN
 by_cases hneg:bT t r c.S<0
 ·simp(disch:=first|omega|simp only[Wd]<;>omega|rfl)only[Wz,a_ hneg]
  exact hk h2 0 false (.inl ⟨hneg,rfl,rfl⟩) eN
 obtain ⟨k,b,hst,hb⟩:=acZ t' hneg
 have ya:=List.mem_of_getElem? hb
 have hl:=g.len b ya
 have gt:=t2.cell
 obtain ⟨cc,oo,_,Jr,eX⟩:=RQ t2.sl k hb
 have eX:=eX h2 (Le.refl _)
 rw[hst]
 simp(disch:=first|omega|simp only[Wd]<;>omega|rfl)only[Wz,bP (show (0:Int)≤(k:Int) by omega),Is,aJ,gt,Jr,eX,g1]
 refine OK (t2.bk b ya) (by omega) (by omega) (g.good b ya) (g.qN b ya) t r x _ ?_
 intro h3 id bb fi c9
 simp(disch:=first|omega|simp only[Wd]<;>omega|rfl)only[Wz]
 exact hk h3 id bb (.inr ⟨k,b.K,by rw[List.getElem?_map,hb]; rfl,hst,fi⟩) (eN.trans c9)
end
section
variable {h:Heap} {tb bw bp bl:Nat} {c:dF} {vb:Value} {aF N:Nat} {Ts:List TB} {W:List IE} {wc:Nat} {F:List Int} {B:List Bool} {H X:Int→Int→Int}
theorem yM (s:kj h tb bw bp bl c vb aF N Ts W wc F B) (L:Lone Ts H X) (hlo:h.lo≤h.nx) (t r:Int) (κ:KQ)
  (ig:H t r=0→∀h',Le h h'→κ (.tuple ⟨[.int .i64 0,.bool false]⟩) h')
  (iJ:H t r≠0→∀h' (k:Nat) (b:TB) (e:HE) (id:Int),Ts[k]? = some b→bT t r c.S=(k:Int)→e∈b.M→e.t=t→e.r=r→e.Q=[⟨id,X t r,H t r,H t r,0⟩]→Le h h'→κ (.tuple ⟨[.int .i64 id,.bool true]⟩) h') :
  CallW Tryz.prog 207 [.pointer (some ⟨tb,0,none⟩),dn t r,.int .i64 (X t r)] h κ:=by
 refine Pd s hlo t r (X t r) _ ?_
 intro h' id b fi le
 by_cases hH:H t r=0
 ·have hno:=L.no hH
  rcases fi with ⟨_,rfl,rfl⟩ | ⟨k,M,hM,hst,⟨rfl,e,he,ht,hr,_⟩ | ⟨rfl,rfl,_⟩⟩
  ·exact ig hH h' le
  ·rw[List.getElem?_map] at hM
   cases hb:Ts[k]? with
   | none=>rw[hb] at hM; cases hM
   | some b0=>
    rw[hb] at hM; cases hM
    exact absurd ⟨ht,hr⟩ (hno b0 (List.mem_of_getElem? hb) e he)
  ·exact ig hH h' le
 ·obtain ⟨k0,b0,e0,id0,hb0,ac0,JG,ht0,Ma,hQ0⟩:=L.at s hH
  have fin:∀(id:Int) (b:Bool),Ch b0.M t r (X t r) id b→id=id0∧b=true:=by
   rintro id b (⟨rfl,e,he,ht,hr,p,hp,hx,rfl⟩ | ⟨_,_,hn⟩)
   ·have:=(s.is.bk b0 (List.mem_of_getElem? hb0)).ok.uniq he JG (by rw[←ht,ht0]) (by rw[←hr,Ma])
    subst this
    rw[hQ0,List.mem_singleton] at hp
    subst hp
    exact ⟨rfl,rfl⟩
   ·exact absurd rfl (hn e0 JG ht0.symm Ma.symm ⟨id0,X t r,H t r,H t r,0⟩ (by rw[hQ0]; exact .head _))
  rcases fi with ⟨h1,_⟩ | ⟨k,M,hM,hst,fi⟩
  ·omega
  ·obtain rfl:k=k0:=by omega
   rw[List.getElem?_map,hb0] at hM; cases hM
   obtain ⟨rfl,rfl⟩:=fin id b fi
   exact iJ hH h' k b0 e0 id hb0 ac0 JG ht0 Ma hQ0 le
theorem RY (s:kj h tb bw bp bl c vb aF N Ts W wc F B) (hlo:h.lo≤h.nx) {b:TB} (hb:b∈Ts) {e:HE} (he:e∈b.M) {id x m:Int} (hQ:e.Q=[⟨id,x,m,m,0⟩]) (κ:KQ)
  (hk:∀h',Le h h'→κ (.tuple ⟨[dn e.t e.r,jI ⟨id,x,m,m,0⟩,.bool true]⟩) h') :
  CallW Tryz.prog 152 [.pointer (some ⟨tb,0,none⟩),.int .i64 id] h κ:=by
 refine XD s hlo id _ ?_ ?_
 ·intro h' hn le
  have:=hn b hb e he
  rw[hQ,iN,if_pos rfl] at this
  cases this
 ·intro h' b' e' p hb' he' hf le
  obtain ⟨i,hi,hid⟩:=sF ((s.is.bk b' hb').good e' he').vq hf
  obtain ⟨rfl,rfl⟩:=s.Ak hb' hb he' he (List.mem_of_getElem? hi) (by rw[hQ]; exact .head _) hid
  rw[hQ,iN,if_pos rfl] at hf
  cases hf
  exact hk h' le
end
section
variable {h:Heap} {A:WA} {a:TA} {N:Nat} {d:TD} {R:RD} {H X:Int→Int→Int}
theorem Fm (s:WS h A a N d R) (L:Lone d.Ts H X) (t r:Int) (κ:KQ)
  (hk:∀v Q h',(Q=[]∨∃id m,Q=[⟨id,X t r,m,m,0⟩])→Sl bq h' v Q→Le h h'→κ v h') :
  CallW Tryz.prog 209 [.pointer (some ⟨A.wb,0,none⟩),dn t r] h κ:=by
 have gw0:=s.r.gw
 have hlo:=s.lo
 refine an mixed ?_
 rw[V3]
 have Cj:=s.r.Cj
 simp(disch:=first|omega|simp only[Wd]<;>omega|rfl)only[Wz,dn,aJ,gw0]
 obtain ⟨hA,az⟩:∃hA:Heap,hA=⟨h.nx+1,(h.bl.aY (h.nx) (aa [.int .i64 t,.int .i64 r] 36 false)),h.lo⟩:=⟨_,rfl⟩
 have aK:Le h hA:=by subst az; exact ((Le.refl h).new _)
 have g1:hA.bl.get (h.nx)=some (aa [.int .i64 t,.int .i64 r] 36 false):=by subst az; exact T.af _ _ _
 have d_:hA.nx=h.nx+1:=by subst az; rfl
 have ee:hA.lo=h.lo:=by subst az; rfl
 rw[←az]
 clear az
 have sA:=s.le aK
 refine JI sA.t (by omega) _ ?_
 intro v0 h0 K t0 CB
 have n0:=CB.nx
 have l0:=CB.lo
 obtain ⟨x0,c0,ev0,_⟩:=(show Sl fH h0 v0 K from t0.sl)
 have sN:∀(β:Type) (fl:β) (h':Heap) (κ:Value→Heap→β),br fl v0 h' κ=κ (.int .i64 (K.length:Int)) h':=fun β fl h' κ=>by rw[ev0]; exact iK _ _ _ _ _
 have Jk:K.length≤1024:=by
  have h1:=t0.perm.length_eq
  rw[List.length_map] at h1
  rw[h1]
  have h2:=s.t.is.s1.2
  have h3:=s.t.is.hd
  have:∀L:List TB,(∀b∈L,b.M.length≤64)→(L.flatMap fun b=>b.M.map bB).length≤64*L.length:=by
   intro L
   induction L with
   | nil=>intro _; simp
   | cons b L ih=>
    intro hL
    rw[List.flatMap_cons,List.length_append,List.length_map,List.length_cons]
    have h1:=ih fun x hx=>hL x (.tail _ hx)
    have h2:=hL b (.head _)
    omega
  have:=this d.Ts fun b hb=>by have:=s.t.len b hb; omega
  omega
 have g10:=(CB.get _ (by omega)).trans g1
 simp(disch:=first|omega|simp only[Wd]<;>omega|rfl)only[Wz,sN]
 refine ⟨fun n l h1=>∃i:Nat,slot l 12=.int .i64 (i:Int)∧n=K.length-i∧i≤K.length∧Le h0 h1,
  ⟨_,0,rfl,rfl,by omega,Le.refl _⟩,?_⟩
 rintro n l h1 ⟨i,s1,rfl,hi,bA⟩
 have n1:=bA.nx
 have l1:=bA.lo
 by_cases hlt:i<K.length
 ·obtain ⟨e,he⟩:∃e,K[i]? = some e:=⟨_,List.getElem?_eq_getElem hlt⟩
  have heK:=List.mem_of_getElem? he
  obtain ⟨⟨b',hb',e',he',se⟩,qv⟩:=t0.each e heK
  obtain ⟨b0,o0,hb0,hx0,Ma⟩:=GV t0.sl i he (pF qv.1)
  have R1:=Ma h1 bA
  have qv1:=qv.le bA
  obtain ⟨qx,qc,eq,_⟩:=(show Sl bq h1 e.q e.Q from qv1.1)
  have g11:=(bA.get _ (by omega)).trans g10
  rw[eq] at R1
  simp(disch:=first|omega|simp only[Wd]<;>omega|rfl)only[Wz,s1,cq (show (i:Int)<(K.length:Int) by omega),D7,hx0,R1,g11]
  rw[ql]
  by_cases hn:e.t=t∧e.r=r
  ·rw[a_ hn]
   simp(disch:=first|omega|simp only[Wd]<;>omega|rfl)only[Wz]
   obtain ⟨id,hQ,hm⟩:=L.one b' hb' e' he'
   refine hk _ e.Q _ ?_ ?_ ((aK.trans (CB.trans bA)).trans ((Le.refl h1).new _))
   ·refine .inr ⟨id,H e'.t e'.r,?_⟩
    rw[se.2.2.2,hQ,←se.1,←se.2.1,hn.1,hn.2]
   ·rw[←eq]; exact (qv1.le ((Le.refl h1).new _)).1
  ·rw[aN hn]
   simp(disch:=first|omega|simp only[Wd]<;>omega|rfl)only[Wz,s1]
   exact ⟨_,by omega,i+1,rfl,rfl,by omega,bA.trans ((Le.refl h1).new _)⟩
 ·simp(disch:=first|omega|simp only[Wd]<;>omega|rfl)only[Wz,s1,bP (show (K.length:Int)≤(i:Int) by omega)]
  exact hk _ [] _ (.inl rfl) (Sl.nil _ _ _) (aK.trans (CB.trans bA))
end
theorem Hf {m:Int} (h:kn m=true):cU 0 m=m:=by
 have key:∀j,j<7→cU 0 (j:Nat)=(j:Nat):=by decide +kernel
 obtain ⟨j,hj,rfl⟩:=nD h
 exact key j hj
theorem Co {a b:Int} (ha:kn a=true) (hb:kn b=true) (h0:b≠0):cU a b≠0∧kn (cU a b)=true∧cU a (cU a b)=cU a b∧(ny a b=true→cU a b=a):=by
 have key:∀i:Nat,i<7→∀j:Nat,j<7→(j:Int)≠0→cU (i:Nat) (j:Nat)≠0∧kn (cU (i:Nat) (j:Nat))=true∧cU (i:Nat) (cU (i:Nat) (j:Nat))=cU (i:Nat) (j:Nat)∧(ny (i:Nat) (j:Nat)=true→cU (i:Nat) (j:Nat)=(i:Nat)):=by decide +kernel
 obtain ⟨i,hi,rfl⟩:=nD ha
 obtain ⟨j,hj,rfl⟩:=nD hb
 exact key i hi j hj h0
structure lp (d d':TD) (k:Nat):Prop where
 f:d.F.length≤d'.F.length+1
 m:∀(j:Nat) (b':TB),d'.Ts[j]? = some b'→∃b,d.Ts[j]? = some b∧b'.M.length≤b.M.length+if j=k then 1 else 0
theorem yN {d:TD} {k:Nat} {b:TB} (hk:d.Ts[k]? = some b) {M':List HE} {cl:Nat} (hl:M'.length≤b.M.length+1) (W':List IE) (yo:Nat) {F':List Int} (hF:d.F.length≤F'.length+1) (B':List Bool):lp d ⟨d.Ts.set k ⟨b.bb,b.bm,M',cl⟩,W',yo,F',B'⟩ k:=by
 refine ⟨hF,fun j b' hj=>?_⟩
 rcases fq hj with ⟨rfl,rfl⟩ | ⟨hne,hj⟩
 ·exact ⟨b,hk,by rw[if_pos rfl]; exact hl⟩
 ·exact ⟨b',hj,by omega⟩
section
variable {h:Heap} {a:TA} {N:Nat} {d:TD} {H X:Int→Int→Int}
theorem RZ (s:yH h a N d) (L:Lone d.Ts H X) (hlo:h.lo≤h.nx) (hN:N≤1000) {k:Nat} {b:TB} (hb:d.Ts[k]? = some b) {t r m:Int} (hst:bT t r a.c.S=(k:Int)) (hH:H t r=0) (am:aZ m=true) (hF:d.F≠[]) (hh:b.M.length<a.aF) (κ:KQ)
  (hk:∀h' d' id,yH h' a (N+1) d'→Lone d'.Ts (gQ H t r m) X→lp d d' k→uG d.Ts a.bw a.bp a.bl h h'→d'.Ts.map (·.bm)=d.Ts.map (·.bm)→κ (.tuple ⟨[.int .i64 id,.bool true,.int .i64 0]⟩) h') :
  CallW Tryz.prog 213 [.pointer (some ⟨a.tb,0,none⟩),dn t r,.int .i64 (X t r),.int .i64 m] h κ:=by
 have hno:=L.no hH
 obtain ⟨hm,km⟩:=(cu m).1 am
 refine JJ s hlo hN t r (X t r) m _ ?_ ?_ ?_ ?_ ?_
 ·intro h' hn; omega
 ·intro k' b' h' _ _ hf; rw[am] at hf; cases hf
 ·intro k' b' h' e p hb' _ _ he ht hr; exact absurd ⟨ht,hr⟩ (hno b' (List.mem_of_getElem? hb') e he)
 ·intro k' b' h' hb' R9 _ _ hor
  obtain rfl:k'=k:=by omega
  rw[hb] at hb'; cases hb'
  rcases hor with h1 | ⟨_,h1⟩
  ·exact absurd h1 hF
  ·omega
 ·intro k' b' M' clock' F' W' yo h0 h1 h' n g hb' R9 _ _ _ ak s' fr
  obtain rfl:k'=k:=by omega
  rw[hb] at hb'; cases hb'
  obtain ⟨Q,w,hold,_,_,hg,st⟩:=ak.set
  rcases hold with ⟨e,he,h1,h2,_⟩ | ⟨_,_,rfl,rfl⟩
  ·exact absurd ⟨h1.symm,h2.symm⟩ (hno b (List.mem_of_getElem? hb) e he)
  ·rw[sO] at hg st
   rw[List.nil_append,AJ hm] at st
   subst hg
   have L':=L.settle s hb hst hm clock' st
   have o:=(s.is.bk b (List.mem_of_getElem? hb)).ok
   refine hk h' ⟨_,W',yo,F',d.B.set n true⟩ n s' L' (yN hb (st.cnt o) W' yo ?_ _) fr (G2 hb _ _)
   have:=ak.free.length_eq
   rw[List.length_cons] at this
   omega
theorem R_ (s:yH h a N d) (L:Lone d.Ts H X) (hlo:h.lo≤h.nx) (hN:N≤1000) {k:Nat} {b:TB} (hb:d.Ts[k]? = some b) {t r m id:Int} (hst:bT t r a.c.S=(k:Int)) {e:HE} (he:e∈b.M) (ht:e.t=t) (hr:e.r=r) (hQ:e.Q=[⟨id,X t r,H t r,H t r,0⟩]) (hH:H t r≠0) (km:kn m=true) (hm:m≠0) (κ:KQ)
  (hk:∀h' d',yH h' a (N+1) d'→Lone d'.Ts (gQ H t r (cU (H t r) m)) X→lp d d' k→uG d.Ts a.bw a.bp a.bl h h'→d'.Ts.map (·.bm)=d.Ts.map (·.bm)→κ (.tuple ⟨[.bool true,.int .i64 0]⟩) h') :
  CallW Tryz.prog 214 [.pointer (some ⟨a.tb,0,none⟩),.int .i64 id,.int .i64 (cU (H t r) m)] h κ:=by
 have ya:=List.mem_of_getElem? hb
 obtain ⟨n0,kns,idem,_⟩:=Co (L.km s hH) km hm
 have am:aZ (cU (H t r) m)=true:=(cu _).2 ⟨n0,kns⟩
 have uni:∀(k':Nat) (b':TB) (e':HE) (p:R5),d.Ts[k']? = some b'→e'∈b'.M→bJ e'.Q id=some p→k'=k∧b'=b∧e'=e∧p=⟨id,X t r,H t r,H t r,0⟩:=by
  intro k' b' e' p hb' he' hf
  obtain ⟨i,hi,hid⟩:=sF ((s.is.bk b' (List.mem_of_getElem? hb')).good e' he').vq hf
  obtain ⟨rfl,rfl⟩:=s.Ak (List.mem_of_getElem? hb') ya he' he (List.mem_of_getElem? hi) (by rw[hQ]; exact .head _) hid
  rw[hQ,iN,if_pos rfl] at hf
  have h1:=s.nm k' b' hb' e' he'
  rw[ht,hr] at h1
  exact ⟨by omega,rfl,rfl,(Option.some.inj hf).symm⟩
 refine Ff s hlo hN id _ _ ?_ ?_ ?_ ?_
 ·intro h' hf; rw[am] at hf; cases hf
 ·intro _ hn
  have:=hn b ya e he
  rw[hQ,iN,if_pos rfl] at this
  cases this
 ·intro k' b' h' e' p _ hb' he' hf hp
  obtain ⟨_,_,_,rfl⟩:=uni k' b' e' p hb' he' hf
  simp at hp
 ·intro k' b' h' M' clock' e' p i _ hb' he' hpi hf _ mv s'
  obtain ⟨rfl,rfl,rfl,rfl⟩:=uni k' b' e' p hb' he' hf
  have i0:i=0:=by
   have:=(List.getElem?_eq_some_iff.1 hpi).1
   rw[hQ] at this
   simpa using this
  subst i0
  have st:=mv.set
  rw[hQ,sP,idem,List.set_cons_zero,AJ n0,ht,hr] at st
  rw[hQ,sP]
  have L':=L.settle s hb hst n0 clock' st
  have o:=(s.is.bk b' ya).ok
  exact hk h' ⟨_,d.W,d.wc,d.F,d.B⟩ s' L' (yN hb (st.cnt o) _ _ (Nat.le_succ _) _) (uG.Xw ya mv.fr) (G2 hb _ _)
theorem Ld (s:yH h a N d) (L:Lone d.Ts H X) (hlo:h.lo≤h.nx) {k:Nat} {b:TB} (hb:d.Ts[k]? = some b) {t r id:Int} (hst:bT t r a.c.S=(k:Int)) {e:HE} (he:e∈b.M) (ht:e.t=t) (hr:e.r=r) (hQ:e.Q=[⟨id,X t r,H t r,H t r,0⟩]) (κ:KQ)
  (hk:∀h' d' v',jM h h' v' []→yH h' a (N+1) d'→Lone d'.Ts (gQ H t r 0) X→lp d d' k→uG d.Ts a.bw a.bp a.bl h h'→d'.Ts.map (·.bm)=d.Ts.map (·.bm)→κ (.tuple ⟨[v',.int .i64 0]⟩) h') :
  CallW Tryz.prog 253 [.pointer (some ⟨a.tb,0,none⟩),.int .i64 id] h κ:=by
 have ya:=List.mem_of_getElem? hb
 have uni:∀(k':Nat) (b':TB) (e':HE) (p:R5),d.Ts[k']? = some b'→e'∈b'.M→bJ e'.Q id=some p→k'=k∧b'=b∧e'=e∧p=⟨id,X t r,H t r,H t r,0⟩:=by
  intro k' b' e' p hb' he' hf
  obtain ⟨i,hi,hid⟩:=sF ((s.is.bk b' (List.mem_of_getElem? hb')).good e' he').vq hf
  obtain ⟨rfl,rfl⟩:=s.Ak (List.mem_of_getElem? hb') ya he' he (List.mem_of_getElem? hi) (by rw[hQ]; exact .head _) hid
  rw[hQ,iN,if_pos rfl] at hf
  have h1:=s.nm k' b' hb' e' he'
  rw[ht,hr] at h1
  exact ⟨by omega,rfl,rfl,(Option.some.inj hf).symm⟩
 refine OU s hlo id _ ?_ ?_
 ·intro hn
  have:=hn b ya e he
  rw[hQ,iN,if_pos rfl] at this
  cases this
 ·intro k' b' h' M' clock' F' v' e' p n hb' he' hf hid zL hpF mv ho s'
  obtain ⟨rfl,rfl,rfl,rfl⟩:=uni k' b' e' p hb' he' hf
  have XR:(e'.Q.filter fun r=>!bD id r)=[]:=by rw[hQ]; simp[bD]
  have st:=mv.set
  rw[XR] at st ho
  rw[ht,hr] at st
  have L':=L.gone s hb hst clock' st
  have o:=(s.is.bk b' ya).ok
  refine hk h' ⟨_,d.W,d.wc,F',d.B.set n false⟩ v' ho s' L' (yN hb (st.cnt o) _ _ ?_ _) (uG.Xw ya mv.fr) (G2 hb _ _)
  have:=hpF.length_eq
  rw[List.length_append,List.length_singleton] at this
  omega
end
theorem ud (H:Int→Int→Int) (t r:Int):gQ H t r (H t r)=H:=by
 funext t' r'
 unfold gQ
 split
 ·rename_i e; rw[e.1,e.2]
 ·rfl
theorem lp.refl (d:TD) (k:Nat):lp d d k:=⟨Nat.le_succ _,fun j b' hj=>⟨b',hj,Nat.le_add_right _ _⟩⟩
section
variable {h:Heap} {A:WA} {a:TA} {N:Nat} {d:TD} {R:RD} {H X:Int→Int→Int}
theorem yO (s:WS h A a N d R) (L:Lone d.Ts H X) (hN:N≤1000) {i k:Nat} {c:CR} (hi:R.cs[i]? = some (some c)) {b:TB} (hb:d.Ts[k]? = some b) (hst:bT c.a.t c.a.r a.c.S=(k:Int)) (hx:c.a.x=X c.a.t c.a.r) (hx0:0≤c.a.x) (km:kn c.a.m=true) (hm:c.a.m≠0) (hF:H c.a.t c.a.r=0→d.F≠[]) (hh:H c.a.t c.a.r=0→b.M.length<a.aF)
  (qb:List Value) (hl:slot qb 19=.int .i64 (H c.a.t c.a.r)) (id:Int) (hid:H c.a.t c.a.r≠0→∃e∈b.M,e.t=c.a.t∧e.r=c.a.r∧e.Q=[⟨id,X c.a.t c.a.r,H c.a.t c.a.r,H c.a.t c.a.r,0⟩]) (κ:KQ)
  (hk:∀h' d',WS h' A a (N+1) d' { R with cs:=R.cs.set i (some { c with out:=1 }) }→Lone d'.Ts (gQ H c.a.t c.a.r (cU (H c.a.t c.a.r) c.a.m)) X→lp d d' k→WK a h h'→κ (.tuple ⟨[]⟩) h') :
  oU (.pointer (some ⟨c.ca,0,none⟩)) qb (.int .i64 id) h κ:=by
 obtain ⟨gc,c1,c2⟩:=bY s hi
 have gc':=gc
 unfold ck at gc'
 have gw:=s.r.gw
 unfold oU
 simp(disch:=first|omega|simp only[Wd]<;>omega|rfl)only[Wz,hl,aJ,gc',gw]
 refine Nu _ _ ?_
 simp(disch:=first|omega|simp only[Wd]<;>omega|rfl)only[Wz,aJ,gc',gw]
 refine Fm s L c.a.t c.a.r _ ?_
 intro v Q h1 hQ hv bA
 obtain ⟨vx,vc,ev,_⟩:=(show Sl bq h1 v Q from hv)
 have hlen:∀(β:Type) (fl:β) (h':Heap) (κ:Value→Heap→β),br fl v h' κ=κ (.int .i64 (Q.length:Int)) h':=fun β fl h' κ=>by rw[ev]; exact iK _ _ _ _ _
 have hQl:Q.length≤1:=by rcases hQ with rfl | ⟨_,_,rfl⟩<;>simp
 simp(disch:=first|omega|simp only[Wd]<;>omega|rfl)only[Wz,hlen]
 refine ⟨fun n l h2=>∃j:Nat,slot l 29=.int .i64 (j:Int)∧n=Q.length-j∧j≤Q.length∧Le h1 h2,⟨_,0,rfl,rfl,by omega,Le.refl _⟩,?_⟩
 rintro n l h2 ⟨j,s1,rfl,hj,bt⟩
 have n2:=bt.nx
 have l2:=bt.lo
 have n1:=bA.nx
 have l1:=bA.lo
 have hlo:=s.lo
 by_cases hlt:j<Q.length
 ·obtain ⟨p,hp⟩:∃p,Q[j]? = some p:=⟨_,List.getElem?_eq_getElem hlt⟩
  obtain ⟨b4,o4,hb4,YG,Rc,_⟩:=xM hv j hp
  have hpx:0≤p.x:=by
   have hm:=List.mem_of_getElem? hp
   rcases hQ with rfl | ⟨i',m',rfl⟩
   ·nomatch hm
   ·rw[List.mem_singleton] at hm; subst hm; show 0≤X c.a.t c.a.r; omega
  rw[←bt.get _ hb4] at Rc
  simp(disch:=first|omega|simp only[Wd]<;>omega|rfl)only[Wz,oT,s1,cq (show (j:Int)<(Q.length:Int) by omega)]
  refine ⟨fun l' h'=>Le h1 h',?_,?_⟩
  ·simp(disch:=first|omega|simp only[Wd]<;>omega|rfl)only[Wz,xk,s1,YG,Rc,bq,bP (show (0:Int)≤p.x by omega)]
   exact bt.trans ((Le.refl h2).new _)
  ·intro l' h' le'
   exact ⟨_,by omega,j+1,rfl,rfl,by omega,le'⟩
 ·have eN:=bA.trans bt
  have s2:=s.le eN
  have vE:=(eN.get _ c1).trans gc
  have uc:=vE
  unfold ck at uc
  have PR:=s2.r.gw
  have k02:=s.Ly eN
  simp(disch:=first|omega|simp only[Wd]<;>omega|rfl)only[Wz,oT,s1,bP (show (Q.length:Int)≤(j:Int) by omega),xu,aJ,uc,hl]
  refine Ey _ _ ?_
  have fin:∀h' d',WS h' A a (N+1) d' R→Lone d'.Ts (gQ H c.a.t c.a.r (cU (H c.a.t c.a.r) c.a.m)) X→lp d d' k→WK a h h'→κ (.tuple ⟨[]⟩) ⟨h'.nx,h'.bl.aY c.ca (ck A.wb { c with out:=1 }),h'.lo⟩:=fun h' d' s' L' g' w'=>by
   obtain ⟨AL,_,_⟩:=bY s' hi
   exact hk _ d' (WS.j7 s' hi rfl) L' g' (w'.trans (WS.yJ s' AL (by simp[qu]) (by decide) _))
  unfold ck at fin
  by_cases zA:ny (H c.a.t c.a.r) c.a.m=true
  ·have hH:H c.a.t c.a.r≠0:=fun h0=>by rw[h0] at zA; exact hm (UU zA)
   have hs:=(Co (L.km s.t hH) km hm).2.2.2 zA
   rw[zA]
   simp(disch:=first|omega|simp only[Wd]<;>omega|rfl)only[Wz,aJ,uc]
   refine fin h2 d (s2.up (Nat.le_succ _)) (by rw[hs,ud]; exact L) (lp.refl _ _) k02
  ·rw[Bool.not_eq_true] at zA
   rw[zA]
   simp(disch:=first|omega|simp only[Wd]<;>omega|rfl)only[Wz]
   refine ⟨fun l' h'=>∃d',slot l' 39=.bool true∧slot l' 40=.int .i64 0∧WS h' A a (N+1) d' R∧Lone d'.Ts (gQ H c.a.t c.a.r (cU (H c.a.t c.a.r) c.a.m)) X∧lp d d' k∧WK a h h',?_,?_⟩
   ·by_cases hH:H c.a.t c.a.r=0
    ·have am:aZ c.a.m=true:=(cu _).2 ⟨hm,km⟩
     rw[hH,Hf km]
     simp(disch:=first|omega|simp only[Wd]<;>omega|rfl)only[Wz,hl,hH,xm,aJ,uc,PR]
     rw[hx]
     refine RZ s2.t L (by omega) hN hb hst hH am (hF hH) (hh hH) _ ?_
     intro h3 d3 id3 t3 L3 g3 f3 b3
     simp(disch:=first|omega|simp only[Wd]<;>omega|rfl)only[Wz]
     exact ⟨d3,trivial,trivial,s2.table t3 f3 b3,L3,g3,k02.trans (s2.kfr f3)⟩
    ·simp(disch:=first|omega|simp only[Wd]<;>omega|rfl)only[Wz,hl,aN hH,DX,aJ,uc,PR]
     obtain ⟨e,he,het,her,heQ⟩:=hid hH
     refine R_ s2.t L (by omega) hN hb hst he het her heQ hH km hm _ ?_
     intro h3 d3 t3 L3 g3 f3 b3
     simp(disch:=first|omega|simp only[Wd]<;>omega|rfl)only[Wz]
     exact ⟨d3,trivial,trivial,s2.table t3 f3 b3,L3,g3,k02.trans (s2.kfr f3)⟩
   ·rintro l' h3 ⟨d3,e1,e2,s3,L3,g3,k3⟩
    obtain ⟨AL,_,_⟩:=bY s3 hi
    unfold ck at AL
    simp(disch:=first|omega|simp only[Wd]<;>omega|rfl)only[Wz,xo,e2,DZ,DY,e1,aJ,AL]
    exact fin h3 d3 s3 L3 g3 k3
theorem Sa (s:WS h A a N d R) (L:Lone d.Ts H X) (hN:N≤1000) {i k:Nat} {c:CR} (hi:R.cs[i]? = some (some c)) {b:TB} (hb:d.Ts[k]? = some b) (hst:bT c.a.t c.a.r a.c.S=(k:Int)) (hx:c.a.x=X c.a.t c.a.r) (hx0:0≤c.a.x) (km:kn c.a.m=true) (hm:c.a.m≠0) (hF:H c.a.t c.a.r=0→d.F≠[]) (hh:H c.a.t c.a.r=0→b.M.length<a.aF) (κ:KQ)
  (hk:∀h' d',WS h' A a (N+1) d' { R with cs:=R.cs.set i (some { c with out:=1 }) }→Lone d'.Ts (gQ H c.a.t c.a.r (cU (H c.a.t c.a.r) c.a.m)) X→lp d d' k→WK a h h'→κ (.tuple ⟨[]⟩) h') :
  CallW Tryz.prog 155 [.pointer (some ⟨c.ca,0,none⟩)] h κ:=by
 obtain ⟨gc,c1,c2⟩:=bY s hi
 have gc':=gc
 unfold ck at gc'
 have gw:=s.r.gw
 have hlo:=s.lo
 refine an mixed ?_
 rw[Nh]
 simp(disch:=first|omega|simp only[Wd]<;>omega|rfl)only[Wz,aJ,gc',gw]
 rw[hx]
 refine yM s.t L hlo c.a.t c.a.r _ ?_ ?_
 ·intro hH h1 bA
  have s1:=s.le bA
  simp(disch:=first|omega|simp only[Wd]<;>omega|rfl)only[Wz]
  refine ⟨fun l' h'=>slot l' 19=.int .i64 (H c.a.t c.a.r)∧Le h1 h',⟨by rw[hH]; rfl,Le.refl _⟩,?_⟩
  rintro l' h2 ⟨sl,bt⟩
  exact yO (s1.le bt) L hN hi hb hst hx hx0 km hm hF hh l' sl 0 (fun h0=>absurd hH h0) κ fun h' d' s' L' g' k'=>hk h' d' s' L' g' ((s.Ly (bA.trans bt)).trans k')
 ·intro hH h1 k' b' e id hb' R9 he ht hr hQ bA
  obtain rfl:k'=k:=by omega
  rw[hb] at hb'; cases hb'
  have s1:=s.le bA
  obtain ⟨He,_,_⟩:=bY s1 hi
  unfold ck at He
  have YE:=s1.r.gw
  have n1:=bA.nx
  have l1:=bA.lo
  simp(disch:=first|omega|simp only[Wd]<;>omega|rfl)only[Wz]
  refine ⟨fun l' h'=>slot l' 19=.int .i64 (H c.a.t c.a.r)∧Le h1 h',?_,?_⟩
  ·simp(disch:=first|omega|simp only[Wd]<;>omega|rfl)only[Wz,DW,aJ,He,YE]
   refine RY s1.t (by omega) (List.mem_of_getElem? hb) he hQ _ ?_
   intro h2 bt
   have n2:=bt.nx
   have l2:=bt.lo
   simp(disch:=first|omega|simp only[Wd]<;>omega|rfl)only[Wz,dn,jI,bq]
   exact ⟨trivial,(((bt.new _).new _).set (by omega) _).set (by show h1.nx≤h2.nx+1; omega) _⟩
  ·rintro l' h2 ⟨sl,bt⟩
   exact yO (s1.le bt) L hN hi hb hst hx hx0 km hm hF hh l' sl id (fun _=>⟨e,he,ht,hr,hQ⟩) κ fun h' d' s' L' g' k'=>hk h' d' s' L' g' ((s.Ly (bA.trans bt)).trans k')
theorem Pe (s:WS h A a N d R) (L:Lone d.Ts H X) {i k:Nat} {c:CR} (hi:R.cs[i]? = some (some c)) {b:TB} (hb:d.Ts[k]? = some b) (hst:bT c.a.t c.a.r a.c.S=(k:Int)) {id:Int} {e:HE} (he:e∈b.M) (ht:e.t=c.a.t) (hr:e.r=c.a.r) (hQ:e.Q=[⟨id,X c.a.t c.a.r,H c.a.t c.a.r,H c.a.t c.a.r,0⟩]) (κ:KQ)
  (hk:∀h' d',WS h' A a (N+1) d' R→Lone d'.Ts (gQ H c.a.t c.a.r 0) X→lp d d' k→WK a h h'→κ (.tuple ⟨[]⟩) h') :
  CallW Tryz.prog 211 [.pointer (some ⟨c.ca,0,none⟩),.int .i64 id] h κ:=by
 obtain ⟨gc,c1,c2⟩:=bY s hi
 have gc':=gc
 unfold ck at gc'
 have gw:=s.r.gw
 have hlo:=s.lo
 refine an mixed ?_
 rw[V4]
 simp(disch:=first|omega|simp only[Wd]<;>omega|rfl)only[Wz,aJ,gc',gw]
 refine Ld s.t L hlo hb hst he ht hr hQ _ ?_
 intro h1 d1 v1 ho t1 L1 g1 f1 b1
 have s1:=s.table t1 f1 b1
 obtain ⟨He,k1,k2⟩:=bY s1 hi
 have gcx:=He
 unfold ck at gcx
 have e1:(h1.bl.aY c.ca (ck A.wb c))=h1.bl.aY c.ca (ck A.wb c):=rfl
 simp(disch:=first|omega|simp only[Wd]<;>omega|rfl)only[Wz,aJ,gcx]
 rw[append_nil ho.sl ⟨_,_,_,rfl⟩]
 simp(disch:=first|omega|simp only[Wd]<;>omega|rfl)only[Wz,aJ,gcx]
 have s2:=WS.j7 s1 hi (c':=c) rfl
 have hcs:R.cs.set i (some c)=R.cs:=by
  refine List.ext_getElem? fun j=>?_
  rw[List.getElem?_set]
  split
  ·rename_i e; subst e
   rw[hi,if_pos (List.getElem?_eq_some_iff.1 hi).1]
  ·rfl
 rw[hcs] at s2
 have hk:=hk _ d1 s2 L1 g1 ((s.kfr f1).trans (WS.yJ s1 He (by simp[qu]) (by decide) _))
 unfold ck at hk
 exact hk
theorem Sb (s:WS h A a N d R) (L:Lone d.Ts H X) {i k:Nat} {c:CR} (hi:R.cs[i]? = some (some c)) {b:TB} (hb:d.Ts[k]? = some b) (hst:bT c.a.t c.a.r a.c.S=(k:Int)) (hx:c.a.x=X c.a.t c.a.r) (κ:KQ)
  (hk:∀h' d',WS h' A a (N+1) d' { R with cs:=R.cs.set i (some { c with out:=if H c.a.t c.a.r=0 then 6 else 1 }) }→Lone d'.Ts (gQ H c.a.t c.a.r 0) X→lp d d' k→WK a h h'→κ (.tuple ⟨[]⟩) h') :
  CallW Tryz.prog 156 [.pointer (some ⟨c.ca,0,none⟩)] h κ:=by
 obtain ⟨gc,c1,c2⟩:=bY s hi
 have gc':=gc
 unfold ck at gc'
 have gw:=s.r.gw
 have hlo:=s.lo
 have fin:∀h' d',WS h' A a (N+1) d' R→Lone d'.Ts (gQ H c.a.t c.a.r 0) X→lp d d' k→WK a h h'→κ (.tuple ⟨[]⟩) ⟨h'.nx,h'.bl.aY c.ca (ck A.wb { c with out:=if H c.a.t c.a.r=0 then 6 else 1 }),h'.lo⟩:=fun h' d' s' L' g' w'=>by
  obtain ⟨AL,_,_⟩:=bY s' hi
  exact hk _ d' (WS.j7 s' hi rfl) L' g' (w'.trans (WS.yJ s' AL (by simp[qu]) (by decide) _))
 unfold ck at fin
 refine an mixed ?_
 rw[VO]
 simp(disch:=first|omega|simp only[Wd]<;>omega|rfl)only[Wz,aJ,gc',gw]
 rw[hx]
 refine yM s.t L hlo c.a.t c.a.r _ ?_ ?_
 ·intro hH h1 bA
  have s1:=s.le bA
  obtain ⟨He,_,_⟩:=bY s1 hi
  unfold ck at He
  simp(disch:=first|omega|simp only[Wd]<;>omega|rfl)only[Wz,aJ,He]
  have:=fin h1 d (s1.up (Nat.le_succ _)) (by have:=ud H c.a.t c.a.r; rw[hH] at this; rw[this]; exact L) (lp.refl _ _) (s.Ly bA)
  rw[if_pos hH] at this
  exact this
 ·intro hH h1 k' b' e id hb' R9 he ht hr hQ bA
  obtain rfl:k'=k:=by omega
  rw[hb] at hb'; cases hb'
  have s1:=s.le bA
  simp(disch:=first|omega|simp only[Wd]<;>omega|rfl)only[Wz]
  refine Pe s1 L hi hb hst he ht hr hQ _ ?_
  intro h2 d2 s2 L2 g2 k2
  obtain ⟨vE,_,_⟩:=bY s2 hi
  unfold ck at vE
  simp(disch:=first|omega|simp only[Wd]<;>omega|rfl)only[Wz,aJ,vE]
  have:=fin h2 d2 s2 L2 g2 ((s.Ly bA).trans k2)
  rw[if_neg hH] at this
  exact this
end
def Fo (k:Int) (f:FuncId) (n:Nat):MapEntry:={ key:=.int .i64 k,val:=.func (.func f) ⟨[]⟩ ⟨[]⟩,born:=n }
noncomputable def Pf:bQ:=.map [Fo 1 155 0,Fo 2 156 1,Fo 3 157 2] 3
theorem findF (h:Heap) (k k':Int) (f:FuncId) (n:Nat) (es:List MapEntry) (i:Nat):gG Tryz.prog h 3 (.int .i64 k) (Fo k' f n::es) i=if k=k' then some (some (i,Fo k' f n)) else gG Tryz.prog h 3 (.int .i64 k) es (Nat.succ i):=by
 have hf:gG Tryz.prog h 3 (.int .i64 k) (Fo k' f n::es) i=(match (some (decide (k=k')):Option Bool) with | some true=>some (some (i,Fo k' f n)) | some false=>gG Tryz.prog h 3 (.int .i64 k) es (Nat.succ i) | none=>none):=by
  rw[←eqI h]; rfl
 rw[hf]
 by_cases e:k=k'
 ·rw[a_ e,if_pos e]
 ·rw[aN e,if_neg e]
theorem Hg {es:List MapEntry} {clock:Nat} {h:Heap} {b:Nat} (g:h.bl.get b=some (.map es clock)) (hlo:h.lo≤b) (k:Int) (f:FuncId) (hf:∀h:Heap,gG Tryz.prog h 3 (.int .i64 k) es 0=some none) (κ:KQ)
  (hk:κ undef ⟨h.nx,h.bl.aY b (.map (es++[Fo k f clock]) (clock+1)),h.lo⟩) :
  cI False Tryz.prog 3 (.map (some b)) (.int .i64 k) (.func (.func f) ⟨[]⟩ ⟨[]⟩) h κ:=by
 unfold cI
 rw[Rv]
 simp only[g,hf]
 rw[oG]
 simp only[bS]
 rw[bU _ _ _ _ hlo]
 exact hk
theorem Pg (h:Heap) (κ:KQ) (hlo:h.lo≤h.nx) (hk:∀b h',Le h h'→h'.bl.get b=some Pf→κ (.map (some b)) h'):CallW Tryz.prog 116 [] h κ:=by
 refine an mixed ?_
 rw[Vo]
 simp(disch:=first|omega|simp only[Wd]<;>omega|rfl)only[Wz,iQ]
 refine Hg (es:=[]) (T.af _ _ _) (by exact hlo) 1 155 (fun h=>rfl) _ ?_
 refine Hg (T.af _ _ _) (by exact hlo) 2 156 (fun h=>by rw[List.nil_append,findF,if_neg (by decide)]; rfl) _ ?_
 refine Hg (T.af _ _ _) (by exact hlo) 3 157 (fun h=>by rw[List.nil_append,List.singleton_append,findF,if_neg (by decide),findF,if_neg (by decide)]; rfl) _ ?_
 exact hk h.nx _ ((((Le.refl h).new _).set (Nat.le_refl _) _).set (Nat.le_refl _) _ |>.set (Nat.le_refl _) _) (T.af _ _ _)
theorem Ph {β:Type} {fl:β} {h:Heap} {b:Nat} (g:h.bl.get b=some Pf) (k:Int) (f:FuncId) (hk:(k=1∧f=155)∨(k=2∧f=156)) (κ:Value→Heap→β) :
  dG fl Tryz.prog 3 Value.nilFunc false (.map (some b)) (.int .i64 k) h κ=κ (.func (.func f) ⟨[]⟩ ⟨[]⟩) h:=by
 unfold dG jY
 rw[Rv]
 simp only[g,Pf]
 rcases hk with ⟨rfl,rfl⟩ | ⟨rfl,rfl⟩
 ·rw[findF,if_pos rfl]; rfl
 ·rw[findF,if_neg (by decide),findF,if_pos rfl]; rfl
section
variable {h:Heap} {A:WA} {a:TA} {N:Nat} {d:TD} {R:RD} {H X:Int→Int→Int}
theorem Sc (s:WS h A a N d R) (L:Lone d.Ts H X) (hN:N≤1000) {i k:Nat} {c:CR} (hi:R.cs[i]? = some (some c)) (yV:c.wt=false) {b:TB} (hb:d.Ts[k]? = some b) (hst:bT c.a.t c.a.r a.c.S=(k:Int)) (hx:c.a.x=X c.a.t c.a.r) (hx0:0≤c.a.x) (hm:pK c.a=true) (h3:c.a.k≠3) (hF:c.a.k=1→H c.a.t c.a.r=0→d.F≠[]) (hh:c.a.k=1→H c.a.t c.a.r=0→b.M.length<a.aF) (κ:KQ)
  (hk:∀h' d',WS h' A a (N+1) d' { R with cs:=R.cs.set i (some { c with ph:=3,out:=gF H c.a }) }→Lone d'.Ts (mj H c.a) X→lp d d' k→WK a h h'→κ (.tuple ⟨[]⟩) h') :
  CallW Tryz.prog 76 [.pointer (some ⟨c.ca,0,none⟩)] h κ:=by
 obtain ⟨gc,c1,c2⟩:=bY s hi
 have gc':=gc
 unfold ck at gc'
 have hlo:=s.lo
 have hil:=(List.getElem?_eq_some_iff.1 hi).1
 unfold pK at hm
 rw[Bool.and_eq_true] at hm
 have hm:=hm.2
 have fin:∀h' d',WS h' A a (N+1) d' { R with cs:=R.cs.set i (some { c with out:=gF H c.a }) }→Lone d'.Ts (mj H c.a) X→lp d d' k→WK a h h'→
   CallW Tryz.prog 45 [.pointer (some ⟨c.ca,0,none⟩),.int .i64 3,.func (.func 117) ⟨[.pointer (some ⟨c.ca,0,none⟩)]⟩ ⟨[]⟩] h' (fun _ h=>κ (.tuple ⟨[]⟩) h):=by
  intro h' d' s' L' g' k'
  have hi':(R.cs.set i (some { c with out:=gF H c.a }))[i]? = some (some { c with out:=gF H c.a }):=by rw[List.getElem?_set,if_pos rfl,if_pos hil]
  obtain ⟨AL,_,c3⟩:=bY s' hi'
  refine G_ { c with out:=gF H c.a } AL c3 3 _ rfl _ ?_
  have s4:=WS.j7 s' hi' (c':={ c with ph:=3,out:=gF H c.a }) rfl
  simp only[List.set_set] at s4
  exact hk _ d' s4 L' g' (k'.trans (WS.yJ s' AL (by simp[qu]) (by decide) _))
 refine an mixed ?_
 rw[Tr]
 refine ⟨fun l' h'=>∃d',WS h' A a (N+1) d' { R with cs:=R.cs.set i (some { c with out:=gF H c.a }) }∧Lone d'.Ts (mj H c.a) X∧lp d d' k∧WK a h h',?_,?_⟩
 ·simp(disch:=first|omega|simp only[Wd]<;>omega|rfl)only[Wz,BM,aJ,gc',yV,BL]
  refine Pg h _ hlo ?_
  intro b0 h1 bA g0
  have s1:=s.le bA
  have k1:=s.Ly bA
  have He:=(bA.get _ c1).trans gc'
  unfold gF mj
  by_cases ha:c.a.k=1
  ·rw[if_pos ha] at hm ⊢
   rw[if_pos ha]
   rw[Bool.and_eq_true,Bool.and_eq_true,decide_eq_true_eq] at hm
   simp(disch:=first|omega|simp only[Wd]<;>omega|rfl)only[Wz,Ph g0 _ _ (.inl ⟨ha,rfl⟩),aJ,He,List.nil_append,List.append_nil]
   refine Sa s1 L hN hi hb hst hx hx0 hm.1.1 hm.1.2 (hF ha) (hh ha) _ ?_
   intro h2 d2 s2 L2 g2 k2
   rw[yV] at s2
   exact ⟨d2,s2,L2,g2,k1.trans k2⟩
  ·rw[if_neg ha,if_neg h3,decide_eq_true_eq] at hm
   rw[if_neg ha,if_neg ha]
   simp(disch:=first|omega|simp only[Wd]<;>omega|rfl)only[Wz,Ph g0 _ _ (.inr ⟨hm,rfl⟩),aJ,He,List.nil_append,List.append_nil]
   refine Sb s1 L hi hb hst hx _ ?_
   intro h2 d2 s2 L2 g2 k2
   rw[yV] at s2
   exact ⟨d2,s2,L2,g2,k1.trans k2⟩
 ·rintro l' h' ⟨d',s',L',g',k'⟩
  exact fin h' d' s' L' g' k'
theorem yP (s:WS h A a N d R) (L:Lone d.Ts H X) (hN:N≤1000) {i k:Nat} {c:CR} (hi:R.cs[i]? = some (some c)) (sR:c.ph=2) (hbi:R.bits[i]? = some 0) (yV:c.wt=false) {b:TB} (hb:d.Ts[k]? = some b) (hst:bT c.a.t c.a.r a.c.S=(k:Int)) (hsk:c.st=(k:Int)) {o:Option (Nat × Int)} (hl:R.cG[k]? = some o) (hx:c.a.x=X c.a.t c.a.r) (hx0:0≤c.a.x) (hm:pK c.a=true) (h3:c.a.k≠3) (hF:c.a.k=1→H c.a.t c.a.r=0→d.F≠[]) (hh:c.a.k=1→H c.a.t c.a.r=0→b.M.length<a.aF) (κ:KQ)
  (hk:∀h' d',WS h' A a (N+1) d' { R with cs:=R.cs.set i (some { c with ph:=3,out:=gF H c.a }) }→Lone d'.Ts (mj H c.a) X→lp d d' k→WK a h h'→κ (.tuple ⟨[.bool false,.int .i64 0,.int .i64 0]⟩) h') :
  CallW Tryz.prog 14 [.pointer (some ⟨A.wb,0,none⟩),.int .i64 (i:Int)] h κ:=by
 have gw:=s.r.gw
 have XP:=s.r.gc
 have hil:=yI s hi
 have r:(R.cs.map fun o=>dS (o.map (·.ca)))[i]? = some (.pointer (some ⟨c.ca,0,none⟩)):=kq s hi
 obtain ⟨gc,c1,c2⟩:=bY s hi
 have hlc:(R.cs.map fun o=>dS (o.map (·.ca))).length=A.n:=by rw[List.length_map]; exact s.r.lc
 have gc':=gc
 unfold ck yB at gc'
 rw[sR] at gc'
 have h1:decide (((2:Nat):Int)=1)=false:=by decide
 refine an mixed ?_
 rw[Io]
 simp(disch:=first|omega|simp only[Wd]<;>omega|rfl)only[Wz,kY,sj]
 refine mW s hil _ ?_
 simp(disch:=first|omega|simp only[Wd]<;>omega|rfl)only[Wz]
 refine vF s hi hbi hsk hl _ ?_
 rw[sR,h1]
 simp(disch:=first|omega|simp only[Wd]<;>omega|rfl)only[Wz,Bool.not_false,Bool.true_or,si,aJ,gw,aW,XP,r,gc',Nat.mul_one,pX]
 refine Sc s L hN hi yV hb hst hx hx0 hm h3 hF hh _ ?_
 intro h' d' s' L' g' k'
 have hi':(R.cs.set i (some { c with ph:=3,out:=gF H c.a }))[i]? = some (some { c with ph:=3,out:=gF H c.a }):=by rw[List.getElem?_set,if_pos rfl,if_pos (by have:=s.r.lc; omega)]
 obtain ⟨vE,_,_⟩:=bY s' hi'
 unfold ck at vE
 simp(disch:=first|omega|simp only[Wd]<;>omega|rfl)only[Wz,aJ,vE]
 exact hk h' d' s' L' g' k'
theorem Sd (s:yH h a N d) (L:Lone d.Ts H X) (hlo:h.lo≤h.nx) (hN:N≤1000) {k:Nat} {b:TB} (hb:d.Ts[k]? = some b) {t r m:Int} (hst:bT t r a.c.S=(k:Int)) (hH:H t r=0) (am:aZ m=true) (hf:d.F=[]∨a.aF≤b.M.length) (κ:KQ)
  (hk:∀h',Le h h'→κ (.tuple ⟨[.int .i64 0,.bool false,.int .i64 8]⟩) h') :
  CallW Tryz.prog 213 [.pointer (some ⟨a.tb,0,none⟩),dn t r,.int .i64 (X t r),.int .i64 m] h κ:=by
 have hno:=L.no hH
 refine JJ s hlo hN t r (X t r) m _ ?_ ?_ ?_ ?_ ?_
 ·intro h' hn; omega
 ·intro k' b' h' _ _ hf; rw[am] at hf; cases hf
 ·intro k' b' h' e p hb' _ _ he ht hr; exact absurd ⟨ht,hr⟩ (hno b' (List.mem_of_getElem? hb') e he)
 ·intro k' b' h' _ _ _ _ _ le; exact hk h' le
 ·intro k' b' M' clock' F' W' yo h0 h1 h' n g hb' R9 _ _ _ ak s' fr
  obtain rfl:k'=k:=by omega
  rw[hb] at hb'; cases hb'
  exfalso
  rcases hf with e | e
  ·have:=ak.free.length_eq
   rw[e] at this
   simp at this
  ·obtain ⟨Q,w,hold,_⟩:=ak.set
   rcases hold with ⟨e',he,h1,h2,_⟩ | ⟨_,h2,_⟩
   ·exact hno b (List.mem_of_getElem? hb) e' he ⟨h1.symm,h2.symm⟩
   ·omega
theorem Fp (s:WS h A a N d R) (L:Lone d.Ts H X) (hN:N≤1000) {i k:Nat} {c:CR} (hi:R.cs[i]? = some (some c)) {b:TB} (hb:d.Ts[k]? = some b) (hst:bT c.a.t c.a.r a.c.S=(k:Int)) (hx:c.a.x=X c.a.t c.a.r) (hx0:0≤c.a.x) (km:kn c.a.m=true) (hm:c.a.m≠0) (hH:H c.a.t c.a.r=0) (hf:d.F=[]∨a.aF≤b.M.length)
  (qb:List Value) (hl:slot qb 19=.int .i64 (H c.a.t c.a.r)) (id:Int) (κ:KQ)
  (hk:∀h',WS h' A a N d { R with cs:=R.cs.set i (some { c with out:=5 }) }→WK a h h'→κ (.tuple ⟨[]⟩) h') :
  oU (.pointer (some ⟨c.ca,0,none⟩)) qb (.int .i64 id) h κ:=by
 obtain ⟨gc,c1,c2⟩:=bY s hi
 have gc':=gc
 unfold ck at gc'
 have gw:=s.r.gw
 unfold oU
 simp(disch:=first|omega|simp only[Wd]<;>omega|rfl)only[Wz,hl,aJ,gc',gw]
 refine Nu _ _ ?_
 simp(disch:=first|omega|simp only[Wd]<;>omega|rfl)only[Wz,aJ,gc',gw]
 refine Fm s L c.a.t c.a.r _ ?_
 intro v Q h1 hQ hv bA
 obtain ⟨vx,vc,ev,_⟩:=(show Sl bq h1 v Q from hv)
 have hlen:∀(β:Type) (fl:β) (h':Heap) (κ:Value→Heap→β),br fl v h' κ=κ (.int .i64 (Q.length:Int)) h':=fun β fl h' κ=>by rw[ev]; exact iK _ _ _ _ _
 have hQl:Q.length≤1:=by rcases hQ with rfl | ⟨_,_,rfl⟩<;>simp
 simp(disch:=first|omega|simp only[Wd]<;>omega|rfl)only[Wz,hlen]
 refine ⟨fun n l h2=>∃j:Nat,slot l 29=.int .i64 (j:Int)∧n=Q.length-j∧j≤Q.length∧Le h1 h2,⟨_,0,rfl,rfl,by omega,Le.refl _⟩,?_⟩
 rintro n l h2 ⟨j,s1,rfl,hj,bt⟩
 have n2:=bt.nx
 have l2:=bt.lo
 have n1:=bA.nx
 have l1:=bA.lo
 have hlo:=s.lo
 by_cases hlt:j<Q.length
 ·obtain ⟨p,hp⟩:∃p,Q[j]? = some p:=⟨_,List.getElem?_eq_getElem hlt⟩
  obtain ⟨b4,o4,hb4,YG,Rc,_⟩:=xM hv j hp
  have hpx:0≤p.x:=by
   have hm:=List.mem_of_getElem? hp
   rcases hQ with rfl | ⟨i',m',rfl⟩
   ·nomatch hm
   ·rw[List.mem_singleton] at hm; subst hm; show 0≤X c.a.t c.a.r; omega
  rw[←bt.get _ hb4] at Rc
  simp(disch:=first|omega|simp only[Wd]<;>omega|rfl)only[Wz,oT,s1,cq (show (j:Int)<(Q.length:Int) by omega)]
  refine ⟨fun l' h'=>Le h1 h',?_,?_⟩
  ·simp(disch:=first|omega|simp only[Wd]<;>omega|rfl)only[Wz,xk,s1,YG,Rc,bq,bP (show (0:Int)≤p.x by omega)]
   exact bt.trans ((Le.refl h2).new _)
  ·intro l' h' le'
   exact ⟨_,by omega,j+1,rfl,rfl,by omega,le'⟩
 ·have eN:=bA.trans bt
  have s2:=s.le eN
  have vE:=(eN.get _ c1).trans gc
  have uc:=vE
  unfold ck at uc
  have PR:=s2.r.gw
  have k02:=s.Ly eN
  simp(disch:=first|omega|simp only[Wd]<;>omega|rfl)only[Wz,oT,s1,bP (show (Q.length:Int)≤(j:Int) by omega),xu,aJ,uc,hl]
  refine Ey _ _ ?_
  have fin:∀h',WS h' A a N d R→WK a h h'→κ (.tuple ⟨[]⟩) ⟨h'.nx,h'.bl.aY c.ca (ck A.wb { c with out:=5 }),h'.lo⟩:=fun h' s' w'=>by
   obtain ⟨AL,_,_⟩:=bY s' hi
   exact hk _ (WS.j7 s' hi rfl) (w'.trans (WS.yJ s' AL (by simp[qu]) (by decide) _))
  unfold ck at fin
  have zA:ny (H c.a.t c.a.r) c.a.m=false:=by
   cases hc:ny (H c.a.t c.a.r) c.a.m with
   | false=>rfl
   | true=>rw[hH] at hc; exact absurd (UU hc) hm
  rw[zA]
  simp(disch:=first|omega|simp only[Wd]<;>omega|rfl)only[Wz]
  refine ⟨fun l' h'=>slot l' 39=.bool false∧slot l' 40=.int .i64 8∧WS h' A a N d R∧WK a h h',?_,?_⟩
  ·have am:aZ c.a.m=true:=(cu _).2 ⟨hm,km⟩
   rw[hH,Hf km]
   simp(disch:=first|omega|simp only[Wd]<;>omega|rfl)only[Wz,hl,hH,xm,aJ,uc,PR]
   rw[hx]
   refine Sd s2.t L (by omega) hN hb hst hH am hf _ ?_
   intro h3 c9
   simp(disch:=first|omega|simp only[Wd]<;>omega|rfl)only[Wz]
   exact ⟨trivial,trivial,s2.le c9,k02.trans (s2.Ly c9)⟩
  ·rintro l' h3 ⟨e1,e2,s3,k3⟩
   obtain ⟨AL,_,_⟩:=bY s3 hi
   unfold ck at AL
   simp(disch:=first|omega|simp only[Wd]<;>omega|rfl)only[Wz,xo,e2,aJ,AL]
   exact fin h3 s3 k3
theorem Se (s:WS h A a N d R) (L:Lone d.Ts H X) (hN:N≤1000) {i k:Nat} {c:CR} (hi:R.cs[i]? = some (some c)) {b:TB} (hb:d.Ts[k]? = some b) (hst:bT c.a.t c.a.r a.c.S=(k:Int)) (hx:c.a.x=X c.a.t c.a.r) (hx0:0≤c.a.x) (km:kn c.a.m=true) (hm:c.a.m≠0) (hH:H c.a.t c.a.r=0) (hf:d.F=[]∨a.aF≤b.M.length) (κ:KQ)
  (hk:∀h',WS h' A a N d { R with cs:=R.cs.set i (some { c with out:=5 }) }→WK a h h'→κ (.tuple ⟨[]⟩) h') :
  CallW Tryz.prog 155 [.pointer (some ⟨c.ca,0,none⟩)] h κ:=by
 obtain ⟨gc,c1,c2⟩:=bY s hi
 have gc':=gc
 unfold ck at gc'
 have gw:=s.r.gw
 have hlo:=s.lo
 refine an mixed ?_
 rw[Nh]
 simp(disch:=first|omega|simp only[Wd]<;>omega|rfl)only[Wz,aJ,gc',gw]
 rw[hx]
 refine yM s.t L hlo c.a.t c.a.r _ ?_ (fun h=>absurd hH h)
 intro _ h1 bA
 have s1:=s.le bA
 simp(disch:=first|omega|simp only[Wd]<;>omega|rfl)only[Wz]
 refine ⟨fun l' h'=>slot l' 19=.int .i64 (H c.a.t c.a.r)∧Le h1 h',⟨by rw[hH]; rfl,Le.refl _⟩,?_⟩
 rintro l' h2 ⟨sl,bt⟩
 exact Fp (s1.le bt) L hN hi hb hst hx hx0 km hm hH hf l' sl 0 κ fun h' s' k'=>hk h' s' ((s.Ly (bA.trans bt)).trans k')
theorem Sf (s:WS h A a N d R) (L:Lone d.Ts H X) (hN:N≤1000) {i k:Nat} {c:CR} (hi:R.cs[i]? = some (some c)) (yV:c.wt=false) {b:TB} (hb:d.Ts[k]? = some b) (hst:bT c.a.t c.a.r a.c.S=(k:Int)) (hx:c.a.x=X c.a.t c.a.r) (hx0:0≤c.a.x) (hm:pK c.a=true) (h1:c.a.k=1) (hH:H c.a.t c.a.r=0) (hf:d.F=[]∨a.aF≤b.M.length) (κ:KQ)
  (hk:∀h',WS h' A a N d { R with cs:=R.cs.set i (some { c with ph:=3,out:=5 }) }→WK a h h'→κ (.tuple ⟨[]⟩) h') :
  CallW Tryz.prog 76 [.pointer (some ⟨c.ca,0,none⟩)] h κ:=by
 obtain ⟨gc,c1,c2⟩:=bY s hi
 have gc':=gc
 unfold ck at gc'
 have hlo:=s.lo
 have hil:=(List.getElem?_eq_some_iff.1 hi).1
 unfold pK at hm
 rw[Bool.and_eq_true] at hm
 have hm:=hm.2
 have fin:∀h',WS h' A a N d { R with cs:=R.cs.set i (some { c with out:=5 }) }→WK a h h'→
   CallW Tryz.prog 45 [.pointer (some ⟨c.ca,0,none⟩),.int .i64 3,.func (.func 117) ⟨[.pointer (some ⟨c.ca,0,none⟩)]⟩ ⟨[]⟩] h' (fun _ h=>κ (.tuple ⟨[]⟩) h):=by
  intro h' s' k'
  have hi':(R.cs.set i (some { c with out:=5 }))[i]? = some (some { c with out:=5 }):=by rw[List.getElem?_set,if_pos rfl,if_pos hil]
  obtain ⟨AL,_,c3⟩:=bY s' hi'
  refine G_ { c with out:=5 } AL c3 3 _ rfl _ ?_
  have s4:=WS.j7 s' hi' (c':={ c with ph:=3,out:=5 }) rfl
  simp only[List.set_set] at s4
  exact hk _ s4 (k'.trans (WS.yJ s' AL (by simp[qu]) (by decide) _))
 refine an mixed ?_
 rw[Tr]
 refine ⟨fun l' h'=>WS h' A a N d { R with cs:=R.cs.set i (some { c with out:=5 }) }∧WK a h h',?_,?_⟩
 ·simp(disch:=first|omega|simp only[Wd]<;>omega|rfl)only[Wz,BM,aJ,gc',yV,BL]
  refine Pg h _ hlo ?_
  intro b0 hz lez g0
  have s1:=s.le lez
  have k1:=s.Ly lez
  have He:=(lez.get _ c1).trans gc'
  rw[if_pos h1] at hm
  rw[Bool.and_eq_true,Bool.and_eq_true,decide_eq_true_eq] at hm
  simp(disch:=first|omega|simp only[Wd]<;>omega|rfl)only[Wz,Ph g0 _ _ (.inl ⟨h1,rfl⟩),aJ,He,List.nil_append,List.append_nil]
  refine Se s1 L hN hi hb hst hx hx0 hm.1.1 hm.1.2 hH hf _ ?_
  intro h3 s2 k2
  rw[yV] at s2
  exact ⟨s2,k1.trans k2⟩
 ·rintro l' h' ⟨s',k'⟩
  exact fin h' s' k'
theorem Fq (s:WS h A a N d R) (L:Lone d.Ts H X) (hN:N≤1000) {i k:Nat} {c:CR} (hi:R.cs[i]? = some (some c)) (sR:c.ph=2) (hbi:R.bits[i]? = some 0) (yV:c.wt=false) {b:TB} (hb:d.Ts[k]? = some b) (hst:bT c.a.t c.a.r a.c.S=(k:Int)) (hsk:c.st=(k:Int)) {o:Option (Nat × Int)} (hl:R.cG[k]? = some o) (hx:c.a.x=X c.a.t c.a.r) (hx0:0≤c.a.x) (hm:pK c.a=true) (h1:c.a.k=1) (hH:H c.a.t c.a.r=0) (hf:d.F=[]∨a.aF≤b.M.length) (κ:KQ)
  (hk:∀h',WS h' A a N d { R with cs:=R.cs.set i (some { c with ph:=3,out:=5 }) }→WK a h h'→κ (.tuple ⟨[.bool false,.int .i64 0,.int .i64 0]⟩) h') :
  CallW Tryz.prog 14 [.pointer (some ⟨A.wb,0,none⟩),.int .i64 (i:Int)] h κ:=by
 have gw:=s.r.gw
 have XP:=s.r.gc
 have hil:=yI s hi
 have r:(R.cs.map fun o=>dS (o.map (·.ca)))[i]? = some (.pointer (some ⟨c.ca,0,none⟩)):=kq s hi
 obtain ⟨gc,c1,c2⟩:=bY s hi
 have hlc:(R.cs.map fun o=>dS (o.map (·.ca))).length=A.n:=by rw[List.length_map]; exact s.r.lc
 have gc':=gc
 unfold ck yB at gc'
 rw[sR] at gc'
 have h2:decide (((2:Nat):Int)=1)=false:=by decide
 refine an mixed ?_
 rw[Io]
 simp(disch:=first|omega|simp only[Wd]<;>omega|rfl)only[Wz,kY,sj]
 refine mW s hil _ ?_
 simp(disch:=first|omega|simp only[Wd]<;>omega|rfl)only[Wz]
 refine vF s hi hbi hsk hl _ ?_
 rw[sR,h2]
 simp(disch:=first|omega|simp only[Wd]<;>omega|rfl)only[Wz,Bool.not_false,Bool.true_or,si,aJ,gw,aW,XP,r,gc',Nat.mul_one,pX]
 refine Sf s L hN hi yV hb hst hx hx0 hm h1 hH hf _ ?_
 intro h' s' k'
 have hi':(R.cs.set i (some { c with ph:=3,out:=5 }))[i]? = some (some { c with ph:=3,out:=5 }):=by rw[List.getElem?_set,if_pos rfl,if_pos (by have:=s.r.lc; omega)]
 obtain ⟨vE,_,_⟩:=bY s' hi'
 unfold ck at vE
 simp(disch:=first|omega|simp only[Wd]<;>omega|rfl)only[Wz,aJ,vE]
 exact hk h' s' k'
end
theorem Fs (n:Nat):aU [Value.int .i64 0] n=G9 (List.replicate n 0):=by
 unfold G9
 induction n with
 | zero=>rfl
 | succ n ih=>rw[List.replicate_succ,List.map_cons,←ih]; rfl
theorem yQ (n:Nat):aU [Value.pointer none] n=List.replicate n (.pointer none):=by
 induction n with
 | zero=>rfl
 | succ n ih=>rw[List.replicate_succ,←ih]; rfl
theorem rL (v:Value) (n:Nat):(aU [v] n).length=n:=by
 induction n with
 | zero=>rfl
 | succ n ih=>show (v::aU [v] n).length=_; rw[List.length_cons,ih]
theorem Ft (n:Nat) (hn:1≤n∧n≤8) (h:Heap) (κ:KQ)
  (hk:∀h' pb ib,Le h h'→h.nx≤ib→ib<h'.nx→pb<h'.nx→h'.bl.get pb=some (aa [.slice (some ⟨ib,0,none⟩) n n] 193 false)→h'.bl.get ib=some (aa (G9 (List.replicate n 0)) 3 false)→κ (.tuple ⟨[.pointer (some ⟨pb,0,none⟩),.int .i64 0]⟩) h') :
  CallW Tryz.prog 68 [.int .i64 (n:Int)] h κ:=by
 refine an mixed ?_
 rw[aae]
 have hrl:=rL (.int .i64 0) n
 simp(disch:=first|omega|simp only[Wd]<;>omega|rfl)only[Wz,bP (show (1:Int)≤(n:Int) by omega),bP (show (n:Int)≤8 by omega)]
 rw[vp _ _ _ _ _ (by omega) (by omega),Fs]
 simp(disch:=first|omega|simp only[Wd]<;>omega|rfl)only[Wz]
 exact hk _ _ _ (((Le.refl h).new _).new _) (Nat.le_refl _) (by show h.nx<h.nx+1+1; omega) (by show h.nx+1<h.nx+1+1; omega) (T.af _ _ _) ((T.ai _ _ (by omega)).trans (T.af _ _ _))
theorem Hh (n:Nat) (hn:1≤n∧n≤16) (h:Heap) (κ:KQ)
  (hk:∀h' lb hb,Le h h'→h.nx≤hb→hb<h'.nx→lb<h'.nx→h'.bl.get lb=some (aa [.slice (some ⟨hb,0,none⟩) n n] 179 false)→h'.bl.get hb=some (aa (List.replicate n (.pointer none)) 176 false)→κ (.tuple ⟨[.pointer (some ⟨lb,0,none⟩),.int .i64 0]⟩) h') :
  CallW Tryz.prog 69 [.int .i64 (n:Int)] h κ:=by
 refine an mixed ?_
 rw[aaf]
 have hrl:=rL (.pointer none) n
 simp(disch:=first|omega|simp only[Wd]<;>omega|rfl)only[Wz,bP (show (1:Int)≤(n:Int) by omega),bP (show (n:Int)≤16 by omega)]
 rw[vp _ _ _ _ _ (by omega) (by omega),yQ]
 simp(disch:=first|omega|simp only[Wd]<;>omega|rfl)only[Wz]
 exact hk _ _ _ (((Le.refl h).new _).new _) (Nat.le_refl _) (by show h.nx<h.nx+1+1; omega) (by show h.nx+1<h.nx+1+1; omega) (T.af _ _ _) ((T.ai _ _ (by omega)).trans (T.af _ _ _))
theorem Hi (h:Heap) (κ:KQ)
  (hk:κ (.pointer (some ⟨h.nx,0,none⟩)) ⟨h.nx+1,h.bl.aY h.nx (aa [.int .i64 0,.slice none 0 0] 169 false),h.lo⟩) :
  CallW Tryz.prog 70 [] h κ:=by
 refine an mixed ?_
 rw[aag]
 simp(disch:=first|omega|simp only[Wd]<;>omega|rfl)only[Wz]
 exact hk
theorem Pj {h:Heap} {a:TA} {N:Nat} {d:TD} (s:yH h a N d) (hB:di d.B=[]):(∀b∈d.Ts,b.M=[])∧d.F.length=d.B.length:=by
 constructor
 ·intro b hb
  cases hM:b.M with
  | nil=>rfl
  | cons e M=>
   exfalso
   have he:e∈b.M:=by rw[hM]; exact .head _
   have ids:=s.ids
   rw[hB] at ids
   have uW:=ids.eq_nil
   have g:=((s.is.bk b hb).good e he)
   cases hQ:e.Q with
   | nil=>exact g.ne hQ
   | cons p Q=>
    have:p.id∈d.Ts.flatMap fun b=>fN b.M:=List.mem_flatMap.2 ⟨b,hb,by
     unfold fN
     exact List.mem_flatMap.2 ⟨e,he,List.mem_map.2 ⟨p,by rw[hQ]; exact .head _,rfl⟩⟩⟩
    rw[uW] at this
    cases this
 ·have:=pg s.is.bX.ok
  rw[hB] at this
  simpa using this
structure Fu (A:WA) (a:TA) (d:TD) (R:RD) (c:dF) (n:Nat):Prop where
 ec:a.c=c
 en:A.n=n
 hd:(a.aF:Int)=c.H
 em:∀b∈d.Ts,b.M=[]
 f:(d.F.length:Int)=c.R
 cs:R.cs=List.replicate n none
 cG:R.cG=List.replicate c.S.toNat none
 bits:R.bits=List.replicate n 0
 begun:R.begun=0
theorem yR (a:Option Nat):(Value.cells (.map a)).toList=[.map a]:=id rfl
theorem ahs (n:Nat) (hn:n≤8) (h:Heap) (κ:KQ) (hk:κ (.slice (some ⟨h.nx,0,none⟩) n n) ⟨h.nx+1,h.bl.aY h.nx (aa (List.replicate n (.pointer none)) 96 false),h.lo⟩) :
  J7 (match Value.int .i64 (n:Int),Value.int .i64 (n:Int) with | .int _ (.ofNat l),.int _ (.ofNat c)=>(match Nat.ble l c,Nat.ble c 1000000 with | true,true=>(ax none (aU [(Value.pointer none)] c) 96 false fun o=>some (o,sliceTo l c)) | _,_=>none) | _,_=>none) h κ:=by
 have e1:Nat.ble n n=true:=by rw[Nat.ble_eq]; exact Nat.le_refl _
 have e2:Nat.ble n 1000000=true:=by rw[Nat.ble_eq]; omega
 have hl:=rL (.pointer none) n
 show J7 (match Nat.ble n n,Nat.ble n 1000000 with | true,true=>(ax none (aU [(Value.pointer none)] n) 96 false fun o=>some (o,sliceTo n n)) | _,_=>none) h κ
 rw[e1,e2]
 simp only
 rw[jf,wI,yQ]
 ·exact hk
 ·omega
theorem XS (c:dF) (hc:dK c) (n:Nat) (hn:1≤n∧n≤8) (h:Heap) (hlo:h.lo≤h.nx) (κ:KQ)
  (hk:∀h' A a d R,Fu A a d R c n→WS h' A a 0 d R→Le h h'→(∀x,FB h' a.bp x→h.nx≤x)→κ (.tuple ⟨[.pointer (some ⟨A.wb,0,none⟩),.int .i64 0]⟩) h') :
  CallW Tryz.prog 39 [yu c,.int .i64 (n:Int)] h κ:=by
 obtain ⟨S,hS⟩:∃S:Nat,c.S=(S:Int):=⟨c.S.toNat,by have:=hc.1; omega⟩
 refine an mixed ?_
 rw[ZI]
 simp(disch:=first|omega|simp only[Wd]<;>omega|rfl)only[Wz,yu]
 obtain ⟨hA,az⟩:∃hA:Heap,hA=⟨h.nx+1,(h.bl.aY (h.nx) (aa [.int .i64 c.S,.int .i64 c.H,.int .i64 c.R,.int .i64 c.P] 30 false)),h.lo⟩:=⟨_,rfl⟩
 have aK:Le h hA:=by subst az; exact ((Le.refl h).new _)
 have g1:hA.bl.get (h.nx)=some (aa [.int .i64 c.S,.int .i64 c.H,.int .i64 c.R,.int .i64 c.P] 30 false):=by subst az; exact T.af _ _ _
 have d_:hA.nx=h.nx+1:=by subst az; rfl
 have ee:hA.lo=h.lo:=by subst az; rfl
 rw[←az]
 clear az
 refine Ry c hA _ (by omega) ?_ ?_
 ·intro h1 e _ hno _; exact absurd hc hno
 intro h1 tb bw bp bl vb aF Ts F _ t1 gbm gbw gbp gbl bA fb1
 have n1:=bA.nx
 have l1:=bA.lo
 have hcS:1≤S∧S≤16:=by have:=hc.1; have:=hc.2.1; omega
 have Aq:=bA.nx
 have Ar:=bA.lo
 have g1:=(bA.get _ (by omega)).trans g1
 simp(disch:=first|omega|simp only[Wd]<;>omega|rfl)only[Wz,IC]
 refine Ft n hn h1 _ ?_
 intro h2 pb ib bt i1 i2 p2 gp gi
 have n2:=bt.nx
 have l2:=bt.lo
 have kT:=bt.nx
 have kU:=bt.lo
 have g1:=(bt.get _ (by omega)).trans g1
 simp(disch:=first|omega|simp only[Wd]<;>omega|rfl)only[Wz,IB,aJ,g1,hS]
 refine Hh S hcS h2 _ ?_
 intro h3 lb hb c9 j1 j2 q2 gl gh
 have n3:=c9.nx
 have l3:=c9.lo
 simp(disch:=first|omega|simp only[Wd]<;>omega|rfl)only[Wz]
 refine ahs n hn.2 h3 _ ?_
 simp(disch:=first|omega|simp only[Wd]<;>omega|rfl)only[Wz,ptrTo,sliceTo,iQ]
 obtain ⟨h4,e4⟩:∃h4:Heap,h4=⟨h3.nx+1+1,(h3.bl.aY h3.nx (aa (List.replicate n (Value.pointer none)) 96 false)).aY (h3.nx+1) (bQ.map [] 0),h3.lo⟩:=⟨_,rfl⟩
 have iw:Le h3 h4:=by rw[e4]; exact ((Le.refl h3).new _).new _
 have gc4:h4.bl.get h3.nx=some (aa (List.replicate n (Value.pointer none)) 96 false):=by rw[e4]; exact (T.ai _ _ (by omega)).trans (T.af _ _ _)
 have gm4:h4.bl.get (h3.nx+1)=some (bQ.map [] 0):=by rw[e4]; exact T.af _ _ _
 have n4:h4.nx=h3.nx+1+1:=by rw[e4]
 have l4:=iw.lo
 rw[←e4]
 clear e4
 refine Hi h4 _ ?_
 obtain ⟨h5,e5⟩:∃h5:Heap,h5=⟨h4.nx+1,h4.bl.aY h4.nx (aa [.int .i64 0,.slice none 0 0] 169 false),h4.lo⟩:=⟨_,rfl⟩
 have ji:Le h4 h5:=by rw[e5]; exact (Le.refl h4).new _
 have gk5:h5.bl.get h4.nx=some (aa [.int .i64 0,.slice none 0 0] 169 false):=by rw[e5]; exact T.af _ _ _
 have n5:h5.nx=h4.nx+1:=by rw[e5]
 have l5:=ji.lo
 rw[←e5]
 clear e5
 simp(disch:=first|omega|simp only[Wd]<;>omega|rfl)only[Wz]
 rw[p9 _ _ _ _ _ _ _ (by rw[yR]; rfl) (Nat.le_of_ble_eq_true rfl),r6]
 simp(disch:=first|omega|simp only[Wd]<;>omega|rfl)only[Wz,yR]
 obtain ⟨h6,e6⟩:∃h6:Heap,h6=⟨h5.nx+1,h5.bl.aY h5.nx (aa [.pointer (some ⟨tb,0,none⟩),.pointer (some ⟨lb,0,none⟩),.pointer (some ⟨pb,0,none⟩),.pointer (some ⟨h4.nx,0,none⟩),.slice (some ⟨h3.nx,0,none⟩) n n,.map (some (h3.nx+1)),.int .i64 0] 107 false),h5.lo⟩:=⟨_,rfl⟩
 have qs:Le h5 h6:=by rw[e6]; exact (Le.refl h5).new _
 have gw6:h6.bl.get h5.nx=some (aa [.pointer (some ⟨tb,0,none⟩),.pointer (some ⟨lb,0,none⟩),.pointer (some ⟨pb,0,none⟩),.pointer (some ⟨h4.nx,0,none⟩),.slice (some ⟨h3.nx,0,none⟩) n n,.map (some (h3.nx+1)),.int .i64 0] 107 false):=by rw[e6]; exact T.af _ _ _
 have n6:h6.nx=h5.nx+1:=by rw[e6]
 have l6:=qs.lo
 have hk:=hk h6 ⟨h5.nx,lb,hb,pb,ib,h4.nx,h3.nx,h3.nx+1,n⟩ ⟨tb,bw,bp,bl,c,vb,aF⟩ ⟨Ts,[],0,F,List.replicate c.R.toNat false⟩ ⟨List.replicate S none,List.replicate n 0,0,.slice none 0 0,List.replicate n none,[],0,0⟩
 have t6:=t1.le (bt.trans (c9.trans (iw.trans (ji.trans qs))))
 have G7:=iw.trans (ji.trans qs)
 have Sg:=c9.trans G7
 have nl:=Pj (a:=⟨tb,bw,bp,bl,c,vb,aF⟩) (d:=⟨Ts,[],0,F,List.replicate c.R.toNat false⟩) t6 (yq _)
 have hR:=hc.2.2.2.2.1
 have amJ:=t1.is.Cj
 rw[e6] at hk
 refine hk ⟨rfl,rfl,t1.cH,nl.1,?_,rfl,?_,rfl,rfl⟩ ?_ (aK.trans (bA.trans (bt.trans (Sg.trans (by rw[e6]; exact Le.refl _))))) ?_
 ·have:=nl.2
  simp only[List.length_replicate] at this
  show (F.length:Int)=c.R
  omega
 ·show List.replicate S none=List.replicate c.S.toNat none
  rw[hS]; rfl
 ·rw[←e6]
  have hm1:∀(m:Nat) (f:Option CR→Value),f none=.pointer none→(List.replicate m (none:Option CR)).map f=List.replicate m (.pointer none):=fun m f hf=>by rw[List.map_replicate,hf]
  have hm2:∀(m:Nat) (f:Option (Nat × Int)→Value),f none=.pointer none→(List.replicate m (none:Option (Nat × Int))).map f=List.replicate m (.pointer none):=fun m f hf=>by rw[List.map_replicate,hf]
  refine ⟨t6,⟨⟨by show h5.nx<h6.nx; omega,by show h6.lo≤h5.nx; omega⟩,gw6,by show lb<h6.nx; omega,?_,⟨by show hb<h6.nx; omega,by show h6.lo≤hb; omega⟩,?_,?_,by show pb<h6.nx; omega,?_,⟨by show ib<h6.nx; omega,by show h6.lo≤ib; omega⟩,?_,List.length_replicate ..,⟨by show h4.nx<h6.nx; omega,by show h6.lo≤h4.nx; omega⟩,?_,⟨by show h3.nx<h6.nx; omega,by show h6.lo≤h3.nx; omega⟩,?_,List.length_replicate ..,?_,⟨by show h3.nx+1<h6.nx; omega,by show h6.lo≤h3.nx+1; omega⟩,?_,hn,?_⟩,?_,?_,by omega⟩
  ·simp only[List.length_replicate]
   exact (G7.get _ q2).trans gl
  ·rw[hm2 S _ rfl]; exact (G7.get _ j2).trans gh
  ·intro p hp; rw[List.mem_replicate] at hp; nomatch hp.2
  ·exact (Sg.get _ p2).trans gp
  ·exact (Sg.get _ i2).trans gi
  ·exact (qs.get h4.nx (by omega)).trans gk5
  ·show h6.bl.get h3.nx=_
   rw[hm1 n _ rfl]; exact ((ji.trans qs).get h3.nx (by omega)).trans gc4
  ·intro p hp; rw[List.mem_replicate] at hp; nomatch hp.2
  ·exact ((ji.trans qs).get (h3.nx+1) (by omega)).trans gm4
  ·rw[List.pairwise_replicate]
   exact .inr fun c c' e=>nomatch e
  ·show h3.nx+1≠bw; omega
  ·intro b hb'
   have:=(t1.is.bk b hb').tU
   show h3.nx+1≠b.bm; omega
 ·intro x hx
  rw[←e6] at hx
  obtain ⟨_,_,hb1,_⟩:∃fs ls,bp<h1.nx∧h1.bl.get bp=some (aa [fs,ls] 225 false):=by
   obtain ⟨fs,hg,_⟩:=t1.is.bX.fr.cell
   exact ⟨fs,_,t1.is.bX.fr.lt,hg⟩
  have:=fb1 x ((FB.congr ((bt.trans Sg).get bp hb1)).1 hx)
  omega
structure KL (x:Nat) (h h':Heap):Prop where
 nx:h.nx≤h'.nx
 lo:h'.lo=h.lo
 ty:∀d vs t o,d<h.nx→d≠x→h.bl.get d=some (aa vs t o)→¬zz t o→¬qu t o→h'.bl.get d=h.bl.get d
 ro:∀d,d<h.nx→(∀vs t o,h.bl.get d≠some (aa vs t o))→(∀es c,h.bl.get d≠some (.map es c))→h'.bl.get d=h.bl.get d
theorem WK.kl {a:TA} {h h':Heap} (k:WK a h h') (x:Nat):KL x h h':=⟨k.nx,k.lo,fun d vs t o hd _=>k.ty d vs t o hd,k.ro⟩
theorem KL.le {h h':Heap} (l:Le h h') (x:Nat):KL x h h':=⟨l.nx,l.lo,fun d _ _ _ hd _ _ _ _=>l.get d hd,fun d hd _ _=>l.get d hd⟩
theorem KL.trans {b:Nat} {h h1 h2:Heap} (x:KL b h h1) (y:KL b h1 h2):KL b h h2 where
 nx:=Nat.le_trans x.nx y.nx
 lo:=y.lo.trans x.lo
 ty d vs t o hd hb hg ht hr:=by
  have e:=x.ty d vs t o hd hb hg ht hr
  exact (y.ty d vs t o (Nat.lt_of_lt_of_le hd x.nx) hb (e.trans hg) ht hr).trans e
 ro d hd h1 h2:=by
  have e:=x.ro d hd h1 h2
  exact (y.ro d (Nat.lt_of_lt_of_le hd x.nx) (fun vs t o=>by rw[e]; exact h1 vs t o) (fun es c=>by rw[e]; exact h2 es c)).trans e
def qP (h:Heap):Prop:=∀d,(∀vs t o,h.bl.get d≠some (aa vs t o))∧∀es c,h.bl.get d≠some (.map es c)
theorem KL.entry {x:Nat} {h0 h h':Heap} (r:qP h0) (l:Le h0 h) (k:KL x h h'):Le h0 h':=by
 refine ⟨Nat.le_trans l.nx k.nx,k.lo.trans l.lo,fun d hd=>?_⟩
 have e:=l.get d hd
 exact (k.ro d (Nat.lt_of_lt_of_le hd l.nx) (fun vs t o=>by rw[e]; exact (r d).1 vs t o) (fun es c=>by rw[e]; exact (r d).2 es c)).trans e
section
variable {h:Heap} {A:WA} {a:TA} {N:Nat} {d:TD} {R:RD}
end
structure OkC (i k:Nat) (x0:Int) (c:CR):Prop where
 wt:c.wt=false
 th:c.th=(i:Int)
 st:c.st=(k:Int)
 nm:bT c.a.t c.a.r 2=(k:Int)
 may:pK c.a=true
 nh:c.a.k≠3
 x:c.a.x=x0
def TS (R:RD) (i k:Nat) (x0:Int) (G Gn:Int→Int→Int) (fc:List Int) (n:Nat):Prop:=
 (n=0∧R.cs[i]? = some none∧R.cG[k]? = some none∧fc=[]∧Gn=G)∨
 ∃c,R.cs[i]? = some (some c)∧OkC i k x0 c∧((n=3∧c.ph=1∧R.cG[k]? = some none∧fc=[gF G c.a]∧Gn=mj G c.a)∨
  (n=2∧c.ph=2∧(∃p,R.cG[k]? = some (some (p,c.th)))∧fc=[gF G c.a]∧Gn=mj G c.a)∨
  (n=1∧c.ph=3∧(∃p,R.cG[k]? = some (some (p,c.th)))∧fc=[c.out]∧c.out≠0∧Gn=G))
theorem TS.idle {R:RD} {i k:Nat} {x0:Int} {G Gn:Int→Int→Int} {fc:List Int} (t:TS R i k x0 G Gn fc 0):R.cs[i]? = some none∧R.cG[k]? = some none∧fc=[]∧Gn=G:=by
 rcases t with ⟨_,h⟩ | ⟨c,h,_,⟨e,_⟩ | ⟨e,_⟩ | ⟨e,_⟩⟩
 ·exact h
 ·omega
 ·omega
 ·omega
structure Aside (R R':RD) (i k:Nat):Prop where
 bits:R'.bits=R.bits
 begun:R'.begun=R.begun
 cs:∀j,j≠i→R'.cs[j]? = R.cs[j]?
 cG:∀j,j≠k→R'.cG[j]? = R.cG[j]?
theorem JL (H:Int→Int→Int) (a:jP):gF H a≠0:=by
 unfold gF; split
 ·decide
 ·split<;>decide
def iY (k:Nat) (H G:Int→Int→Int):Prop:=∀t r,bT t r 2=(k:Int)→H t r=G t r
theorem iY.out {k:Nat} {H G:Int→Int→Int} (a:iY k H G) {x:jP} (hx:bT x.t x.r 2=(k:Int)):gF H x=gF G x:=by unfold gF; rw[a _ _ hx]
theorem iY.aY {k:Nat} {H G:Int→Int→Int} (a:iY k H G) (t r m:Int):iY k (gQ H t r m) (gQ G t r m):=by
 intro t' r' h
 unfold gQ
 split
 ·rfl
 ·exact a _ _ h
theorem dH {α:Type} {l:List α} {i:Nat} {x y:α} (h:l[i]? = some y):(l.set i x)[i]? = some x:=by rw[List.getElem?_set,if_pos rfl,if_pos (List.getElem?_eq_some_iff.1 h).1]
theorem dg {α:Type} {l:List α} {i j:Nat} {x:α} (h:j≠i):(l.set i x)[j]? = l[j]?:=by rw[List.getElem?_set,if_neg (fun e=>h e.symm)]
section
variable {h:Heap} {A:WA} {a:TA} {N:Nat} {d:TD} {R:RD} {H X Hk Gn:Int→Int→Int}
theorem Sh (s:WS h A a N d R) (L:Lone d.Ts H X) {i k n:Nat} {x0:Int} {fc:List Int} (t:TS R i k x0 Hk Gn fc (n+1)) (hS:a.c.S=2) (YI:i<8) (hb:R.bits[i]? = some 0) (hX:∀t r,bT t r 2=(k:Int)→X t r=x0) (hx0:0≤x0) (hA:iY k H Hk) (hN:N≤1000) (hF:n=1→d.F≠[]) (hh:n=1→∀b,d.Ts[k]? = some b→b.M.length<a.aF) (κ:KQ)
  (hk:∀h' d' R' N' H' Hk' done code nO,WS h' A a N' d' R'→Lone d'.Ts H' X→TS R' i k x0 Hk' Gn nO n→((done=false∧nO=fc∧n≠0)∨(done=true∧fc=[code]∧nO=[]∧n=0))→
   ((N'=N∧d'=d∧H'=H∧Hk'=Hk∧n≠1)∨(n=1∧N'=N+1∧lp d d' k∧∃t r m,bT t r 2=(k:Int)∧H'=gQ H t r m∧Hk'=gQ Hk t r m))→iY k H' Hk'→Aside R R' i k→WK a h h'→κ (.tuple ⟨[.bool done,.int .i64 code,.int .i64 0]⟩) h') :
  CallW Tryz.prog 14 [.pointer (some ⟨A.wb,0,none⟩),.int .i64 (i:Int)] h κ:=by
 rcases t with ⟨e,_⟩ | ⟨c,hi,ok,⟨e,sR,hl,hp,hn⟩ | ⟨e,sR,⟨p,hl⟩,hp,hn⟩ | ⟨e,sR,⟨p,hl⟩,hp,hout,hn⟩⟩
 ·omega
 ·obtain rfl:n=2:=by omega
  refine pL s hi sR hb ok.st ⟨by rw[ok.th]; omega,by rw[ok.th]; omega⟩ hl _ ?_
  intro h' s' k'
  refine hk h' d _ N H Hk false 0 fc s' L (.inr ⟨{ c with ph:=2 },dH hi,⟨ok.wt,ok.th,ok.st,ok.nm,ok.may,ok.nh,ok.x⟩,.inr (.inl ⟨rfl,rfl,⟨_,dH hl⟩,hp,hn⟩)⟩) (.inl ⟨rfl,rfl,by decide⟩) (.inl ⟨rfl,rfl,rfl,rfl,by decide⟩) hA ⟨rfl,rfl,fun j hj=>dg hj,fun j hj=>dg hj⟩ k'
 ·obtain rfl:n=1:=by omega
  obtain ⟨b,hbk⟩:∃b,d.Ts[k]? = some b:=by
   have h1:=rI (t:=c.a.t) (r:=c.a.r) (s:=2) (by rw[ok.nm]; omega)
   have h2:=s.t.is.cS
   rw[hS] at h2
   rw[ok.nm] at h1
   exact ⟨_,List.getElem?_eq_getElem (by omega)⟩
  refine yP s L hN hi sR hb ok.wt hbk (by rw[hS]; exact ok.nm) ok.st hl (by rw[ok.x,hX _ _ ok.nm]) (by rw[ok.x]; exact hx0) ok.may ok.nh (fun _ _=>hF rfl) (fun _ _=>hh rfl b hbk) _ ?_
  intro h' d' s' L' g' k'
  have hHk:=hA _ _ ok.nm
  have fin:∀H',H'=mj H c.a→iY k H' Gn→(∃t r m,bT t r 2=(k:Int)∧H'=gQ H t r m∧Gn=gQ Hk t r m)→κ (.tuple ⟨[.bool false,.int .i64 0,.int .i64 0]⟩) h':=fun H' e1 e2 e3=>by
   subst e1
   exact hk h' d' _ (N+1) _ Gn false 0 fc s' L' (.inr ⟨{ c with ph:=3,out:=gF H c.a },dH hi,⟨ok.wt,ok.th,ok.st,ok.nm,ok.may,ok.nh,ok.x⟩,.inr (.inr ⟨rfl,rfl,⟨p,hl⟩,by rw[hp,hA.out ok.nm],JL _ _,rfl⟩)⟩) (.inl ⟨rfl,rfl,by decide⟩) (.inr ⟨rfl,rfl,g',e3⟩) e2 ⟨rfl,rfl,fun j hj=>dg hj,fun j hj=>rfl⟩ k'
  unfold mj at hn fin
  by_cases h1:c.a.k=1
  ·rw[if_pos h1] at hn fin
   subst hn
   rw[←hHk] at fin
   exact fin _ rfl (hA.aY _ _ _) ⟨_,_,_,ok.nm,rfl,rfl⟩
  ·rw[if_neg h1] at hn fin
   subst hn
   exact fin _ rfl (hA.aY _ _ _) ⟨_,_,_,ok.nm,rfl,rfl⟩
 ·obtain rfl:n=0:=by omega
  refine rK s hi sR hb ok.st ok.th hout hl _ ?_
  intro h' s' k'
  exact hk h' d _ N H Hk true c.out [] s' L (.inl ⟨rfl,dH hi,dH hl,rfl,hn⟩) (.inr ⟨rfl,hp,rfl,rfl⟩) (.inl ⟨rfl,rfl,rfl,rfl,by decide⟩) hA ⟨rfl,rfl,fun j hj=>dg hj,fun j hj=>dg hj⟩ k'
theorem Pk (s:WS h A a N d R) {i k:Nat} {x0:Int} (t:TS R i k x0 Hk Hk [] 0) (hS:a.c.S=2) (x:jP) (Un:x.x=x0) (h3:x.k≠3) (hst:bT x.t x.r 2=(k:Int)) (hbg:0≤R.begun∧R.begun≤1000000) (κ:KQ)
  (AE:pK x=false→∀h',Le h h'→κ (.int .i64 2) h')
  (hk:pK x=true→∀h' R',WS h' A a N d R'→TS R' i k x0 Hk (mj Hk x) [gF Hk x] 3→R'.bits=R.bits→R'.begun=R.begun+1→(∀j,j≠i→R'.cs[j]? = R.cs[j]?)→R'.cG=R.cG→WK a h h'→κ (.int .i64 0) h') :
  CallW Tryz.prog 16 [.pointer (some ⟨A.wb,0,none⟩),.int .i64 (i:Int),.agg ⟨ua x⟩] h κ:=by
 obtain ⟨hi,hl,_,_⟩:=t.idle
 refine JK s hi x hbg κ AE ?_
 intro hm h' ca s' k'
 refine hk hm h' _ s' (.inr ⟨_,dH hi,⟨rfl,rfl,by rw[hS]; exact hst,hst,hm,h3,Un⟩,.inl ⟨rfl,rfl,hl,rfl,rfl⟩⟩) rfl rfl (fun j hj=>dg hj) rfl k'
end
theorem iY.refl (k:Nat) (H:Int→Int→Int):iY k H H:=fun _ _ _=>rfl
theorem Aside.refl (R:RD) (i k:Nat):Aside R R i k:=⟨rfl,rfl,fun _ _=>rfl,fun _ _=>rfl⟩
theorem Aside.trans {R R1 R2:RD} {i k:Nat} (x:Aside R R1 i k) (y:Aside R1 R2 i k):Aside R R2 i k:=
 ⟨y.bits.trans x.bits,y.begun.trans x.begun,fun j hj=>(y.cs j hj).trans (x.cs j hj),fun j hj=>(y.cG j hj).trans (x.cG j hj)⟩
section
variable {h:Heap} {A:WA} {a:TA} {N:Nat} {d:TD} {R:RD} {H X Hk Gn:Int→Int→Int}
theorem WS.Pm (s:WS h A a N d R):WK a h h:=s.Ly (Le.refl h)
theorem XT (s:WS h A a N d R) (L:Lone d.Ts H X) {i k:Nat} {x0 code:Int} (t:TS R i k x0 Hk Gn [code] 3) (hS:a.c.S=2) (YI:i<8) (hb:R.bits[i]? = some 0) (hX:∀t r,bT t r 2=(k:Int)→X t r=x0) (hx0:0≤x0) (hA:iY k H Hk) (hN:N≤999) (hF:d.F≠[]) (hh:∀b,d.Ts[k]? = some b→b.M.length<a.aF) (κ:KQ)
  (hk:∀h' d' R' H',WS h' A a (N+1) d' R'→Lone d'.Ts H' X→TS R' i k x0 Gn Gn [] 0→iY k H' Gn→lp d d' k→Aside R R' i k→WK a h h'→κ (.tuple ⟨[.bool true,.int .i64 code,.int .i64 0]⟩) h') :
  CallW Tryz.prog 17 [.pointer (some ⟨A.wb,0,none⟩),.int .i64 (i:Int),.int .i64 3] h κ:=by
 refine an mixed ?_
 rw[Na]
 refine ⟨fun m l h1=>∃(j n:Nat) (d1:TD) (R1:RD) (N1:Nat) (H1 Hk1:Int→Int→Int) (fc:List Int),slot l 15=.int .i64 (j:Int)∧m=n∧j+n=3∧WS h1 A a N1 d1 R1∧Lone d1.Ts H1 X∧TS R1 i k x0 Hk1 Gn fc n∧iY k H1 Hk1∧Aside R R1 i k∧WK a h h1∧
   (n=0→slot l 10=.bool true∧slot l 11=.int .i64 code∧slot l 12=.int .i64 0)∧(n≠0→fc=[code])∧(n≤1→N1=N+1∧lp d d1 k)∧(1<n→N1=N∧d1=d),
  ⟨_,0,3,d,R,N,H,Hk,[code],rfl,rfl,rfl,s,L,t,hA,Aside.refl _ _ _,s.Pm,by omega,fun _=>rfl,by omega,fun _=>⟨rfl,rfl⟩⟩,?_⟩
 rintro m l h1 ⟨j,n,d1,R1,N1,H1,Hk1,fc,e1,rfl,hjn,s1,L1,t1,A1,Lf,k1,f0,f1,f2,f3⟩
 cases m with
 | zero=>
  obtain ⟨g1,g2,g3⟩:=f0 rfl
  obtain ⟨h2,g4⟩:=f2 (by omega)
  subst h2
  obtain ⟨_,_,rfl,e2⟩:=t1.idle
  subst e2
  obtain rfl:j=3:=by omega
  simp(disch:=first|omega|simp only[Wd]<;>omega|rfl)only[Wz,nG,e1,bP (show (3:Int)≤((3:Nat):Int) by omega),g1,g2,g3]
  exact hk h1 d1 R1 H1 s1 L1 t1 A1 g4 Lf k1
 | succ m=>
  have ep:=f1 (by omega)
  subst ep
  simp(disch:=first|omega|simp only[Wd]<;>omega|rfl)only[Wz,nG,e1,cq (show (j:Int)<3 by omega)]
  refine Sh s1 L1 t1 hS YI (by rw[Lf.bits]; exact hb) hX hx0 A1 ?_ ?_ ?_ _ ?_
  ·by_cases hm:1<m+1
   ·have:=(f3 hm).1; omega
   ·have:=(f2 (by omega)).1; omega
  ·intro e; subst e; rw[(f3 (by omega)).2]; exact hF
  ·intro e; subst e; rw[(f3 (by omega)).2]; exact hh
  ·intro h2 d2 R2 N2 H2 Hk2 done ajo ac5 s2 L2 t2 hd hg A2 as2 k2
   simp(disch:=first|omega|simp only[Wd]<;>omega|rfl)only[Wz,e1]
   refine ⟨_,by omega,j+1,m,d2,R2,N2,H2,Hk2,ac5,rfl,rfl,by omega,s2,L2,t2,A2,Lf.trans as2,k1.trans k2,?_,?_,?_,?_⟩
   ·intro e; subst e
    rcases hd with ⟨_,_,e⟩ | ⟨e1,e2,e3,_⟩
    ·exact absurd rfl e
    ·cases e2
     subst e1
     refine ⟨?_,?_,?_⟩<;>first | rfl | trivial
   ·intro e
    rcases hd with ⟨_,e2,_⟩ | ⟨_,_,_,e2⟩
    ·exact e2
    ·exact absurd e2 e
   ·intro e
    rcases hg with ⟨e1,e2,_,_,e5⟩ | ⟨e1,e2,e3,_⟩
    ·obtain rfl:m=0:=by omega
     obtain ⟨g1,g2⟩:=f2 (by omega)
     rw[e1,e2]; exact ⟨g1,g2⟩
    ·obtain ⟨g1,g2⟩:=f3 (by omega)
     subst g2
     exact ⟨by omega,e3⟩
   ·intro e
    rcases hg with ⟨e1,e2,_⟩ | ⟨e1,_⟩
    ·obtain ⟨g1,g2⟩:=f3 (by omega)
     rw[e1,e2]; exact ⟨g1,g2⟩
    ·omega
end
def iZ:dF:=⟨2,8,24,2⟩
theorem JM:dK iZ:=by unfold dK iZ; decide
theorem AM (h:Heap) (κ:KQ) (hlo:h.lo≤h.nx) (hk:∀h',Le h h'→κ (yu iZ) h'):CallW Tryz.prog 9 [] h κ:=by
 refine an mixed ?_
 rw[aeV]
 simp(disch:=first|omega|simp only[Wd]<;>omega|rfl)only[Wz]
 exact hk _ ((Le.refl h).new _)
theorem JN (n:Nat) (hn:1≤n∧n≤8) (h:Heap) (κ:KQ) (hlo:h.lo≤h.nx)
  (hk:∀h' A a d R,Fu A a d R iZ n→WS h' A a 0 d R→Le h h'→(∀x,FB h' a.bp x→h.nx≤x)→κ (.pointer (some ⟨A.wb,0,none⟩)) h') :
  CallW Tryz.prog 10 [.int .i64 (n:Int)] h κ:=by
 refine an mixed ?_
 rw[Zs]
 refine AM h _ hlo ?_
 intro h1 bA
 have n1:=bA.nx
 have l1:=bA.lo
 refine XS iZ JM n hn h1 (by omega) _ ?_
 intro h2 A a d R nw s bt fb
 simp(disch:=first|omega|simp only[Wd]<;>omega|rfl)only[Wz]
 exact hk h2 A a d R nw s (bA.trans bt) fun x hx=>Nat.le_trans n1 (fb x hx)
theorem Fu.lone {A:WA} {a:TA} {d:TD} {R:RD} {c:dF} {n:Nat} (nw:Fu A a d R c n) (X:Int→Int→Int):Lone d.Ts (fun _ _=>0) X:=
 ⟨fun b hb e he=>(by rw[nw.em b hb] at he; cases he),fun t r hH=>absurd rfl hH⟩
theorem Fu.ts {A:WA} {a:TA} {d:TD} {R:RD} {n i k:Nat} (nw:Fu A a d R iZ n) (hi:i<n) (hk:k<2) (x0:Int):TS R i k x0 (fun _ _=>0) (fun _ _=>0) [] 0:=by
 refine .inl ⟨rfl,?_,?_,rfl,rfl⟩
 ·rw[nw.cs,List.getElem?_replicate,if_pos hi]
 ·rw[nw.cG,List.getElem?_replicate,if_pos (show k<(iZ.S).toNat from hk)]
theorem Fu.bit {A:WA} {a:TA} {d:TD} {R:RD} {c:dF} {n i:Nat} (nw:Fu A a d R c n) (hi:i<n):R.bits[i]? = some 0:=by
 rw[nw.bits,List.getElem?_replicate,if_pos hi]
theorem JO {t r:Int} (h:bM t r≠-1):∃k:Nat,k<2∧bT t r 2=(k:Int):=by
 unfold bT
 rw[if_neg (by rintro (h1 | h1 | h1)<;>first | omega | exact h h1)]
 have h1:=Int.tmod_nonneg (a:=pH (fo t r)) 2 (nM _).1
 have h2:=Int.tmod_lt_of_pos (pH (fo t r)) (show (0:Int)<2 by decide)
 exact ⟨((pH (fo t r)).tmod 2).toNat,by omega,by omega⟩
theorem XU (t:Int) (h:Heap) (κ:KQ) (hlo:h.lo≤h.nx) (hk:∀h',Le h h'→κ (dn t (-1)) h'):CallW Tryz.prog 27 [.int .i64 t] h κ:=by
 refine an mixed ?_
 rw[ZD]
 simp(disch:=first|omega|simp only[Wd]<;>omega|rfl)only[Wz]
 exact hk _ ((Le.refl h).new _)
theorem Si (x t r m:Int) (h:Heap) (κ:KQ) (hlo:h.lo≤h.nx) (hk:∀h',Le h h'→κ (.agg ⟨ua ⟨1,x,t,r,m,0,0⟩⟩) h'):CallW Tryz.prog 28 [.int .i64 x,dn t r,.int .i64 m] h κ:=by
 refine an mixed ?_
 rw[ZE]
 simp(disch:=first|omega|simp only[Wd]<;>omega|rfl)only[Wz,dn]
 exact hk _ (((Le.refl h).new _).new _)
theorem Sj (h:Heap) (κ:KQ) (hlo:h.lo≤h.nx) (ro:qP h) (hk:∀h',Le h h'→κ (.bool true) h'):CallW Tryz.prog 7 [] h κ:=by
 refine an mixed ?_
 rw[aeQ]
 refine JN 2 ⟨by decide,by decide⟩ h _ hlo ?_
 intro h1 A a d R nw s bA _
 have n1:=bA.nx
 have l1:=bA.lo
 have hlv:bM 0 (-1)≠-1:=by decide
 obtain ⟨k,hk2,hst⟩:=JO hlv
 simp(disch:=first|omega|simp only[Wd]<;>omega|rfl)only[Wz,kY]
 refine XU 0 h1 _ (by omega) ?_
 intro h2 bt
 have n2:=bt.nx
 have l2:=bt.lo
 refine Si 1 0 (-1) 6 h2 _ (by omega) ?_
 intro h3 c9
 have n3:=c9.nx
 have l3:=c9.lo
 have s3:=s.le (bt.trans c9)
 have hS:a.c.S=2:=by rw[nw.ec]; rfl
 refine Pk (Hk:=fun _ _=>0) s3 (nw.ts (i:=0) (by decide) hk2 1) hS ⟨1,1,0,-1,6,0,0⟩ rfl (by decide) hst (by rw[nw.begun]; decide) _ ?_ ?_
 ·intro hm; exact absurd hm (by decide)
 ·intro _ h4 R4 s4 t4 hb4 _ _ _ k4
  simp(disch:=first|omega|simp only[Wd]<;>omega|rfl)only[Wz,M7]
  have ahv:R4.bits[0]? = some 0:=by rw[hb4]; exact nw.bit (by decide)
  refine XT s4 (nw.lone (fun _ _=>1)) t4 hS (by decide) ahv (fun _ _ _=>rfl) (by decide) (iY.refl _ _) (by decide) ?_ ?_ _ ?_
  ·intro e
   have:=nw.f
   rw[e] at this
   exact absurd this (by decide)
  ·intro b hb
   rw[nw.em b (List.mem_of_getElem? hb)]
   have:=nw.hd
   show 0<a.aF
   have h8:iZ.H=8:=rfl
   omega
  ·intro h5 d5 R5 H5 s5 L5 t5 A5 g5 as5 k5
   simp(disch:=first|omega|simp only[Wd]<;>omega|rfl)only[Wz,gF]
   exact hk h5 (KL.entry ro bA (((KL.le (bt.trans c9) 0).trans (k4.kl 0)).trans (k5.kl 0)))
def FS (R:RD) (i k:Nat) (x0:Int) (x:jP) (n:Nat):Prop:=
 (n=0∧R.cs[i]? = some none∧R.cG[k]? = some none)∨
 ∃c,R.cs[i]? = some (some c)∧OkC i k x0 c∧c.a=x∧((n=3∧c.ph=1∧R.cG[k]? = some none)∨(n=2∧c.ph=2∧∃p,R.cG[k]? = some (some (p,c.th)))∨(n=1∧c.ph=3∧(∃p,R.cG[k]? = some (some (p,c.th)))∧c.out=5))
section
variable {h:Heap} {A:WA} {a:TA} {N:Nat} {d:TD} {R:RD} {H X:Int→Int→Int}
theorem Pn (s:WS h A a N d R) (L:Lone d.Ts H X) {i k n:Nat} {x0:Int} {x:jP} (t:FS R i k x0 x (n+1)) (hS:a.c.S=2) (YI:i<8) (hb:R.bits[i]? = some 0) (hX:∀t r,bT t r 2=(k:Int)→X t r=x0) (hx0:0≤x0) (hN:N≤999) {b:TB} (hbk:d.Ts[k]? = some b) (h1:x.k=1) (hH:H x.t x.r=0) (hf:d.F=[]∨a.aF≤b.M.length) (κ:KQ)
  (hk:∀h' R' done code,WS h' A a N d R'→FS R' i k x0 x n→(n≠0→done=false)→(n=0→done=true∧code=5)→Aside R R' i k→WK a h h'→κ (.tuple ⟨[.bool done,.int .i64 code,.int .i64 0]⟩) h') :
  CallW Tryz.prog 14 [.pointer (some ⟨A.wb,0,none⟩),.int .i64 (i:Int)] h κ:=by
 rcases t with ⟨e,_⟩ | ⟨c,hi,ok,rfl,⟨e,sR,hl⟩ | ⟨e,sR,p,hl⟩ | ⟨e,sR,⟨p,hl⟩,hout⟩⟩
 ·omega
 ·obtain rfl:n=2:=by omega
  refine pL s hi sR hb ok.st ⟨by rw[ok.th]; omega,by rw[ok.th]; omega⟩ hl _ ?_
  intro h' s' k'
  exact hk h' _ false 0 s' (.inr ⟨{ c with ph:=2 },dH hi,⟨ok.wt,ok.th,ok.st,ok.nm,ok.may,ok.nh,ok.x⟩,rfl,.inr (.inl ⟨rfl,rfl,_,dH hl⟩)⟩) (fun _=>rfl) (fun e=>absurd e (by decide)) ⟨rfl,rfl,fun j hj=>dg hj,fun j hj=>dg hj⟩ k'
 ·obtain rfl:n=1:=by omega
  refine Fq s L (by omega) hi sR hb ok.wt hbk (by rw[hS]; exact ok.nm) ok.st hl (by rw[ok.x,hX _ _ ok.nm]) (by rw[ok.x]; exact hx0) ok.may h1 hH hf _ ?_
  intro h' s' k'
  exact hk h' _ false 0 s' (.inr ⟨{ c with ph:=3,out:=5 },dH hi,⟨ok.wt,ok.th,ok.st,ok.nm,ok.may,ok.nh,ok.x⟩,rfl,.inr (.inr ⟨rfl,rfl,⟨p,hl⟩,rfl⟩)⟩) (fun _=>rfl) (fun e=>absurd e (by decide)) ⟨rfl,rfl,fun j hj=>dg hj,fun j hj=>rfl⟩ k'
 ·obtain rfl:n=0:=by omega
  refine rK s hi sR hb ok.st ok.th (by rw[hout]; decide) hl _ ?_
  intro h' s' k'
  exact hk h' _ true c.out s' (.inl ⟨rfl,dH hi,dH hl⟩) (fun e=>absurd rfl e) (fun _=>⟨rfl,hout⟩) ⟨rfl,rfl,fun j hj=>dg hj,fun j hj=>dg hj⟩ k'
theorem Sk (s:WS h A a N d R) (L:Lone d.Ts H X) {i k:Nat} {x0:Int} {x:jP} (t:FS R i k x0 x 3) (hS:a.c.S=2) (YI:i<8) (hb:R.bits[i]? = some 0) (hX:∀t r,bT t r 2=(k:Int)→X t r=x0) (hx0:0≤x0) (hN:N≤999) {b:TB} (hbk:d.Ts[k]? = some b) (iJ:x.k=1) (hH:H x.t x.r=0) (hf:d.F=[]∨a.aF≤b.M.length) (κ:KQ)
  (hk:∀h' R',WS h' A a N d R'→R'.cs[i]? = some none→R'.cG[k]? = some none→Aside R R' i k→WK a h h'→κ (.tuple ⟨[.bool true,.int .i64 5,.int .i64 0]⟩) h') :
  CallW Tryz.prog 17 [.pointer (some ⟨A.wb,0,none⟩),.int .i64 (i:Int),.int .i64 3] h κ:=by
 refine an mixed ?_
 rw[Na]
 refine ⟨fun m l h1=>∃(j n:Nat) (R1:RD),slot l 15=.int .i64 (j:Int)∧m=n∧j+n=3∧WS h1 A a N d R1∧FS R1 i k x0 x n∧Aside R R1 i k∧WK a h h1∧(n=0→slot l 10=.bool true∧slot l 11=.int .i64 5∧slot l 12=.int .i64 0),
  ⟨_,0,3,R,rfl,rfl,rfl,s,t,Aside.refl _ _ _,s.Pm,by omega⟩,?_⟩
 rintro m l h1 ⟨j,n,R1,e1,rfl,hjn,s1,t1,Lf,k1,f0⟩
 cases m with
 | zero=>
  obtain ⟨g1,g2,g3⟩:=f0 rfl
  obtain rfl:j=3:=by omega
  simp(disch:=first|omega|simp only[Wd]<;>omega|rfl)only[Wz,nG,e1,bP (show (3:Int)≤((3:Nat):Int) by omega),g1,g2,g3]
  rcases t1 with ⟨_,q1,q2⟩ | ⟨c,_,_,_,⟨e,_⟩ | ⟨e,_⟩ | ⟨e,_⟩⟩
  ·exact hk h1 R1 s1 q1 q2 Lf k1
  ·omega
  ·omega
  ·omega
 | succ m=>
  simp(disch:=first|omega|simp only[Wd]<;>omega|rfl)only[Wz,nG,e1,cq (show (j:Int)<3 by omega)]
  refine Pn s1 L t1 hS YI (by rw[Lf.bits]; exact hb) hX hx0 hN hbk iJ hH hf _ ?_
  intro h2 R2 done code s2 t2 d0 d1 as2 k2
  simp(disch:=first|omega|simp only[Wd]<;>omega|rfl)only[Wz,e1]
  refine ⟨_,by omega,j+1,m,R2,rfl,rfl,by omega,s2,t2,Lf.trans as2,k1.trans k2,?_⟩
  intro e
  obtain ⟨q1,q2⟩:=d1 e
  subst q1 q2
  refine ⟨?_,?_,?_⟩<;>first | rfl | trivial
end
theorem yS {O:List HE} {x:HE} {n:Nat} (hs:(O.map bB).Pairwise fO) (h1:∀(j:Nat) (e:HE),j<n→O[j]? = some e→fO (bB e) (bB x)) (h2:∀e,O[n]? = some e→fO (bB x) (bB e)):((O.take n++x::O.drop n).map bB).Pairwise fO:=by
 have hall:∀(j:Nat) (e:HE),n≤j→O[j]? = some e→fO (bB x) (bB e):=by
  intro j e hj he
  have hil:n<O.length:=by have:=(List.getElem?_eq_some_iff.1 he).1; omega
  obtain ⟨e0,JG⟩:∃e0,O[n]? = some e0:=⟨_,List.getElem?_eq_getElem hil⟩
  by_cases e1:n=j
  ·subst e1; exact h2 e he
  ·have G:=cZ.1 hs
   exact mR (h2 e0 JG) (G n j _ _ (by omega) (by rw[List.getElem?_map,JG]; rfl) (by rw[List.getElem?_map,he]; rfl))
 have hs':=hs
 rw[←List.take_append_drop n O,List.map_append,List.pairwise_append] at hs'
 obtain ⟨s1,s2,s3⟩:=hs'
 have up:∀b∈(O.drop n).map bB,fO (bB x) b:=by
  intro b hb
  obtain ⟨a,ha,rfl⟩:=List.mem_map.1 hb
  obtain ⟨j,hj⟩:=List.getElem?_of_mem ha
  rw[List.getElem?_drop] at hj
  exact hall (n+j) a (by omega) hj
 rw[List.map_append,List.map_cons,List.pairwise_append,List.pairwise_cons]
 refine ⟨s1,⟨up,s2⟩,fun a ha b hb=>?_⟩
 obtain ⟨a',ha',rfl⟩:=List.mem_map.1 ha
 obtain ⟨j,hj⟩:=List.getElem?_of_mem ha'
 rw[List.getElem?_take] at hj
 split at hj
 ·rename_i hji
  have h3:=h1 j a' hji hj
  rcases List.mem_cons.1 hb with rfl | hb
  ·exact h3
  ·exact mR h3 (up b hb)
 ·cases hj
theorem Po {O:List HE} {x:HE} {n:Nat}:((O.take n++x::O.drop n).map gE).Perm (O.map gE++[gE x]):=by
 rw[List.map_append,List.map_cons]
 refine List.perm_middle.trans ?_
 rw[←List.map_append,List.take_append_drop]
 exact (List.perm_append_singleton _ _).symm
section
variable {a0 h:Heap} {c:dF} {aF:Nat} {B:List Bool} {rt rp rl:Nat} {vr:Value} {R:List RB}
theorem Pp (t:fI a0 h rt rp rl c vr aF R B) (g:pM R) (hlo:h.lo≤h.nx) (dj:(R.flatMap fun r=>r.K.map bB).Nodup) (κ:KQ)
  (hk:∀v h' O,(O.map gE).Perm (R.flatMap fun r=>r.K.map gE)→(O.map bB).Pairwise fO→(∀k∈O,QV h' k.q k.Q)→sI h h' v O→Le h h'→κ v h') :
  CallW Tryz.prog 54 [.pointer (some ⟨rt,0,none⟩)] h κ:=by
 refine an mixed ?_
 rw[Z5]
 have hs1:=t.s1
 refine ⟨fun n l h1=>∃(i:Nat) (O:List HE),slot l 65=.int .i64 (i:Int)∧n=R.length-i∧i≤R.length∧(O.map gE).Perm ((R.take i).flatMap fun r=>r.K.map gE)∧(O.map bB).Pairwise fO∧(∀k∈O,QV h1 k.q k.Q)∧O.length≤64*i∧sI h h1 (slot l 59) O∧uX O (slot l 59)∧Le h h1,
  ⟨_,0,[],rfl,rfl,by omega,by simp,List.Pairwise.nil,fun k hk=>(nomatch hk),by simp,.inl ⟨rfl,.inl rfl⟩,fun _=>.inl rfl,Le.refl _⟩,?_⟩
 rintro n l h1 ⟨i,O,s1,rfl,hi,hp,hsO,hQ,hOl,ho,em,bA⟩
 have n1:=bA.nx
 have l1:=bA.lo
 have t1:=t.le bA
 have c1:=t1.cell
 have hlen:∀(β:Type) (fl:β) (h':Heap) (κ:Value→Heap→β),br fl vr h' κ=κ (.int .i64 (R.length:Int)) h':=fun β fl h' κ=>t1.sl.len κ h'
 by_cases hlt:i<R.length
 case neg=>
  have hil:i=R.length:=by omega
  subst hil
  rw[List.take_length] at hp
  simp(disch:=first|omega|simp only[Wd]<;>omega|rfl)only[Wz,BG,aJ,c1,hlen,s1,bP (show (R.length:Int)≤(R.length:Int) by omega)]
  exact hk _ h1 O hp hsO hQ ho bA
 obtain ⟨r,hr⟩:∃r,R[i]? = some r:=⟨_,List.getElem?_eq_getElem hlt⟩
 have uZ:=List.mem_of_getElem? hr
 obtain ⟨bb,oo,SV,fJ,eX⟩:=RQ t.sl i hr
 have L1:=eX h1 bA
 have hrl:=g.len r uZ
 simp(disch:=first|omega|simp only[Wd]<;>omega|rfl)only[Wz,BG,aJ,c1,hlen,s1,cq (show (i:Int)<(R.length:Int) by omega),IX,fJ,L1]
 refine OJ (t1.bk r uZ) (by omega) (by omega) (fun k hk'=>by have:=(g.good r uZ k hk').small; omega) _ ?_
 intro v2 h2 K2 Tj hQ2 mo bt
 have n2:=bt.nx
 have l2:=bt.lo
 have amN:K2.length=r.K.length:=by have:=congrArg List.length Tj; simpa using this
 have NM:∀(β:Type) (fl:β) (h':Heap) (κ:Value→Heap→β),br fl v2 h' κ=κ (.int .i64 (K2.length:Int)) h':=fun β fl h' κ=>mo.sl.len κ h'
 refine ⟨fun m l3 h3=>∃(k:Nat) (P:List HE),slot l3 46=.int .i64 (k:Int)∧m=K2.length-k∧k≤K2.length∧(P.map gE).Perm (((R.take i).flatMap fun r=>r.K.map gE)++(K2.take k).map gE)∧(P.map bB).Pairwise fO∧(∀k∈P,QV h3 k.q k.Q)∧P.length≤64*i+k∧sI h h3 (slot l3 43) P∧uX P (slot l3 43)∧Le h2 h3,
  ⟨_,0,O,rfl,rfl,by omega,by simpa using hp,hsO,fun k hk'=>(hQ k hk').le bt,by omega,ho.le bt,em,Le.refl _⟩,?_⟩
 rintro m l3 h3 ⟨k,P,s3,rfl,hki,hpP,hsP,hQP,hPl,hoP,emP,c9⟩
 have n3:=c9.nx
 have l3':=c9.lo
 by_cases Ti:k<K2.length
 case neg=>
  have uE:k=K2.length:=by omega
  subst uE
  rw[List.take_length,Tj] at hpP
  simp(disch:=first|omega|simp only[Wd]<;>omega|rfl)only[Wz,BF,NM,s3,s1,bP (show (K2.length:Int)≤(K2.length:Int) by omega)]
  refine ⟨_,by omega,i+1,P,rfl,rfl,by omega,?_,hsP,hQP,by omega,hoP,emP,(bA.trans bt).trans c9⟩
  rw[ko _ hr]
  exact hpP
 obtain ⟨x,hx⟩:∃x,K2[k]? = some x:=⟨_,List.getElem?_eq_getElem Ti⟩
 have hxK:=List.mem_of_getElem? hx
 have qx:=hQ2 x hxK
 obtain ⟨bx,ox,hbx,ac6,ac7⟩:=GV mo.sl k hx (pF qx.1)
 have amP:P.length≤1100:=by omega
 simp(disch:=first|omega|simp only[Wd]<;>omega|rfl)only[Wz,BF,NM,s3,cq (show (k:Int)<(K2.length:Int) by omega)]
 refine ⟨fun mm l4 h4=>∃q:Nat,slot l4 20=.int .i64 (q:Int)∧mm=P.length-q∧q≤P.length∧(∀(j:Nat) (e:HE),j<q→P[j]? = some e→fO (bB e) (bB x))∧Le h3 h4,⟨_,0,rfl,rfl,by omega,fun j e hj=>(by omega),Le.refl _⟩,?_⟩
 rintro mm l4 h4 ⟨q,s4,rfl,hq,hall,iw⟩
 have n4:=iw.nx
 have l4':=iw.lo
 have ac8:=c9.trans iw
 have oP4:=hoP.le iw
 have T3:∀(β:Type) (fl:β) (h':Heap) (κ:Value→Heap→β),br fl (slot l3 43) h' κ=κ (.int .i64 (P.length:Int)) h':=fun β fl h' κ=>oP4.sl.len κ h'
 have Lx:=ac7 h4 ac8
 have done:(∀e,P[q]? = some e→fO (bB x) (bB e))→∀(h5:Heap),Le h4 h5→∀(Cy:List Value→Heap→Prop) (bN v16 v19 v20 v21 v22 v23 v25 v27 fG v31 v33 v35 v37 v39 v41 gM v45 jQ jH:Value),
   (∀l h',slot l 46=.int .i64 ((k+1:Nat):Int)→(∃P',(P'.map gE).Perm (((R.take i).flatMap fun r=>r.K.map gE)++(K2.take (k+1)).map gE)∧(P'.map bB).Pairwise fO∧(∀k∈P',QV h' k.q k.Q)∧P'.length≤64*i+(k+1)∧sI h h' (slot l 43) P'∧uX P' (slot l 43)∧Le h2 h')→Cy l h')→
   BD l3 l4 v2 Cy bN v16 v19 v20 v21 v22 v23 v25 v27 fG v31 v33 v35 v37 v39 v41 gM v45 jQ jH h5:=by
  intro XV h5 ji Cy bN v16 v19 v20 v21 v22 v23 v25 v27 fG v31 v33 v35 v37 v39 v41 gM v45 jQ jH hN
  have n5:=ji.nx
  have l5:=ji.lo
  have ahx:=ac8.trans ji
  have ac9:=iw.trans ji
  obtain ⟨vP,eP⟩:∃vP,slot l3 43=vP:=⟨_,rfl⟩
  rw[eP] at hoP emP
  obtain ⟨xq,xc,exq,_⟩:=(show Sl bq h2 x.q x.Q from qx.1)
  simp(disch:=first|omega|simp only[Wd]<;>omega|rfl)only[Wz,BD,qh,eP,s4]
  obtain ⟨hA,az⟩:∃hA:Heap,hA=⟨h5.nx+1,(h5.bl.aY (h5.nx) (aa [] 81 false)),h5.lo⟩:=⟨_,rfl⟩
  have aK:Le h5 hA:=by subst az; exact ((Le.refl h5).new _)
  have ge:hA.bl.get (h5.nx)=some (aa [] 81 false):=by subst az; exact T.af _ _ _
  have d_:hA.nx=h5.nx+1:=by subst az; rfl
  have ee:hA.lo=h5.lo:=by subst az; rfl
  rw[←az]
  clear az
  have oPA:=(hoP.le ac9).le aK
  rw[qj cg (by decide) oPA emP q (by omega)]
  have hf:=sH cg oPA q (by omega)
  refine fP (enc:=fH) (a:=hA) (L:=[]) (M:=P.take q) cg gO (by decide) (by decide) (.inl ⟨rfl,.inr ⟨_,_,rfl⟩⟩) (fun _=>.inr ⟨_,_,rfl⟩) hf (Le.refl _) (by simp; omega) (by omega) _ ?_
  intro v6 h6 tM Xq qs _
  rw[List.nil_append] at tM Xq
  have n6:=qs.nx
  have l6:=qs.lo
  have L6:=ac7 h6 ((ahx.trans aK).trans qs)
  simp only[exq] at L6
  simp(disch:=first|omega|simp only[Wd]<;>omega|rfl)only[Wz,s3,ac6,L6]
  obtain ⟨hB,bK⟩:∃hB:Heap,hB=⟨h6.nx+1,(h6.bl.aY (h6.nx) (aa [.int .i64 x.t,.int .i64 x.r,.slice xq x.Q.length xc,.int .i64 x.w] 81 false)),h6.lo⟩:=⟨_,rfl⟩
  have bG:Le h6 hB:=by subst bK; exact ((Le.refl h6).new _)
  have gB:hB.bl.get (h6.nx)=some (aa [.int .i64 x.t,.int .i64 x.r,.slice xq x.Q.length xc,.int .i64 x.w] 81 false):=by subst bK; exact T.af _ _ _
  have rz:hB.nx=h6.nx+1:=by subst bK; rfl
  have rA:hB.lo=h6.lo:=by subst bK; rfl
  rw[←bK]
  clear bK
  have hone:Sl fH hB (.slice (some ⟨h6.nx,0,none⟩) 1 1) [x]:=Sl.new (L:=[x]) (e:=81) (op:=false) (by omega) (by
   show _=some (aa (fH x++[]) 81 false)
   rw[gB]; unfold fH; rw[exq]; rfl) _
  refine fP (enc:=fH) (a:=hA) (L:=P.take q) (M:=[x]) cg gO (by decide) (by decide) (tM.le bG) Xq hone (qs.trans bG) (by simp; omega) (by omega) _ ?_
  intro v7 h7 Oe em7 Ao _
  have n7:=Ao.nx
  have l7:=Ao.lo
  obtain ⟨u,hu,eu⟩:=(oPA.le Ao).tail cg (by decide) q (by omega)
  simp(disch:=first|omega|simp only[Wd]<;>omega|rfl)only[Wz,s3,eu]
  refine fP (enc:=fH) (a:=hA) (L:=P.take q++[x]) (M:=P.drop q) cg gO (by decide) (by decide) Oe em7 hu Ao (by simp; omega) (by omega) _ ?_
  intro v8 h8 PO TT OF _
  have n8:=OF.nx
  have l8:=OF.lo
  have GX:=(ac9.trans aK).trans OF
  have eL:P.take q++[x]++P.drop q=P.take q++x::P.drop q:=by simp
  rw[eL] at PO TT
  refine hN _ _ rfl ⟨P.take q++x::P.drop q,?_,yS hsP hall XV,?_,?_,dh.base PO (by omega),TT,c9.trans GX⟩
  ·refine Po.trans ?_
   refine (hpP.append_right _).trans ?_
   rw[List.append_assoc]
   rw[List.take_add_one,hx,List.map_append]
   exact List.Perm.refl _
  ·intro e he
   rcases List.mem_append.1 he with he | he
   ·exact (hQP e (List.mem_of_mem_take he)).le GX
   ·rcases List.mem_cons.1 he with rfl | he
    ·exact qx.le (c9.trans GX)
    ·exact (hQP e (List.mem_of_mem_drop he)).le GX
  ·simp; omega
 by_cases hql:q<P.length
 case neg=>
  simp(disch:=first|omega|simp only[Wd]<;>omega|rfl)only[Wz,BE,s4,T3,bP (show (P.length:Int)≤(q:Int) by omega)]
  refine done (fun e he=>?_) h4 (Le.refl _) _ _ _ _ _ _ _ _ _ _ _ _ _ _ _ _ _ _ _ _ _ ?_
  ·have:=(List.getElem?_eq_some_iff.1 he).1; omega
  ·rintro l h' e1 ⟨P',q1,q2,q3,q4,q5,q6,q7⟩
   exact ⟨_,by omega,k+1,P',e1,rfl,by omega,q1,q2,q3,q4,q5,q6,q7⟩
 obtain ⟨e,he⟩:∃e,P[q]? = some e:=⟨_,List.getElem?_eq_getElem hql⟩
 have heP:=List.mem_of_getElem? he
 obtain ⟨be,oe,hbe,ahz,ahA⟩:=GV oP4.sl q he (pF ((hQP e heP).le iw).1)
 have Le4:=ahA h4 (Le.refl _)
 simp(disch:=first|omega|simp only[Wd]<;>omega|rfl)only[Wz,BE,s4,T3,cq (show (q:Int)<(P.length:Int) by omega),ahz,Le4,s3,ac6,Lx]
 refine OA e.t e.r x.t x.r h4 _ ?_ ?_ ?_
 ·intro Xo h5 ji
  simp(disch:=first|omega|simp only[Wd]<;>omega|rfl)only[Wz,s4]
  refine ⟨_,by omega,q+1,rfl,rfl,by omega,fun j f hj hf=>?_,iw.trans ji⟩
  by_cases e1:j=q
  ·subst e1; rw[he] at hf; cases hf; exact Xo
  ·exact hall j f (by omega) hf
 ·intro e1 e2 h5 ji
  exfalso
  have hin:bB e∈((R.take i).flatMap fun r=>r.K.map bB)++(K2.take k).map bB:=by
   have h0:gE e∈P.map gE:=List.mem_map.2 ⟨e,heP,rfl⟩
   have h1:=hpP.mem_iff.1 h0
   rcases List.mem_append.1 h1 with h1 | h1
   ·obtain ⟨r1,Hz,h2⟩:=List.mem_flatMap.1 h1
    obtain ⟨y,hy,h3⟩:=List.mem_map.1 h2
    have sm:=Aw h3
    exact List.mem_append.2 (.inl (List.mem_flatMap.2 ⟨r1,Hz,List.mem_map.2 ⟨y,hy,Prod.ext sm.1 sm.2.1⟩⟩))
   ·obtain ⟨y,hy,h3⟩:=List.mem_map.1 h1
    have sm:=Aw h3
    exact List.mem_append.2 (.inr (List.mem_map.2 ⟨y,hy,Prod.ext sm.1 sm.2.1⟩))
  have hnm:K2.map bB=r.K.map bB:=by
   have:=congrArg (List.map fun x:Int × Int × Int × List Vai.R5=>(x.1,x.2.1)) Tj
   rw[List.map_map,List.map_map] at this
   exact this
  have hnd:(((R.take (i+1)).flatMap fun r=>r.K.map bB)).Nodup:=by
   rw[←List.take_append_drop (i+1) R,List.flatMap_append] at dj
   exact (List.nodup_append.1 dj).1
  rw[ko _ hr,←hnm] at hnd
  have hsp:K2.map bB=(K2.take k).map bB++(bB x::(K2.drop (k+1)).map bB):=by
   have hd:K2.drop k=x::K2.drop (k+1):=by
    rw[List.drop_eq_getElem_cons Ti]
    obtain ⟨_,h2⟩:=List.getElem?_eq_some_iff.1 hx
    rw[h2]
   rw[←List.map_cons,←hd,←List.map_append,List.take_append_drop]
  rw[hsp,←List.append_assoc] at hnd
  have:=(List.nodup_append.1 hnd).2.2 (bB e) hin (bB x) (.head _)
  exact this (Prod.ext e1 e2)
 ·intro hgt h5 ji
  simp(disch:=first|omega|simp only[Wd]<;>omega|rfl)only[Wz,s4]
  refine done (fun f hf=>?_) h5 ji _ _ _ _ _ _ _ _ _ _ _ _ _ _ _ _ _ _ _ _ _ ?_
  ·rw[he] at hf; cases hf; exact hgt
  ·rintro l h' e1 ⟨P',q1,q2,q3,q4,q5,q6,q7⟩
   exact ⟨_,by omega,k+1,P',e1,rfl,by omega,q1,q2,q3,q4,q5,q6,q7⟩
end
abbrev qw:=Int × Int × Int × List Vai.R5
def oc (k:qw):Int × Int:=(k.1,k.2.1)
def dw (k:qw):List L4:=fQ k.1 k.2.1 k.2.2.2
theorem JP (O:List HE):(O.map gE).map oc=O.map bB:=by
 rw[List.map_map]; rfl
def iO (Q:List R5) (x:Int):Int:=match Q.find? fun p=>decide (p.x=x) with | some p=>p.m | none=>0
theorem Lg (t r x:Int):∀{Q:List R5},Q.Pairwise iC→(fQ t r Q).filter (fun p=>decide (p.x=x))=if iO Q x≠0 then [⟨x,t,r,iO Q x⟩] else []:=by
 intro Q
 induction Q with
 | nil=>intro _; rfl
 | cons p Q ih=>
  intro hp
  rw[List.pairwise_cons] at hp
  have lF:p.x=x→(fQ t r Q).filter (fun p=>decide (p.x=x))=[]:=by
   intro hx
   rw[List.filter_eq_nil_iff]
   intro a ha
   unfold fQ at ha
   obtain ⟨q,hq,rfl⟩:=List.mem_map.1 ha
   have:=(hp.1 q (List.mem_filter.1 hq).1).x
   simp only[decide_eq_true_eq]
   exact fun e=>this (hx.trans e.symm)
  have hstep:fQ t r (p::Q)=(if p.m≠0 then [⟨p.x,t,r,p.m⟩] else [])++fQ t r Q:=by
   unfold fQ
   by_cases hm:p.m≠0
   ·rw[if_pos hm,List.filter_cons_of_pos (by simpa using hm)]; rfl
   ·rw[if_neg hm,List.filter_cons_of_neg (by simpa using hm)]; rfl
  rw[hstep,List.filter_append]
  by_cases hx:p.x=x
  ·have hmq:iO (p::Q) x=p.m:=by unfold iO; rw[List.find?_cons_of_pos (by simpa using hx)]
   rw[hmq,lF hx,List.append_nil]
   by_cases hm:p.m≠0
   ·rw[if_pos hm,if_pos hm,List.filter_cons_of_pos (by simpa using hx),hx]; rfl
   ·rw[if_neg hm,if_neg hm]; rfl
  ·have hmq:iO (p::Q) x=iO Q x:=by unfold iO; rw[List.find?_cons_of_neg (by simpa using hx)]
   rw[hmq,ih hp.2]
   by_cases hm:p.m≠0
   ·rw[if_pos hm,List.filter_cons_of_neg (by simpa using hx)]; rfl
   ·rw[if_neg hm]; rfl
theorem JQ {S:List qw} (hs:(S.map oc).Pairwise fO) (hb:∀k∈S,k.2.2.2.Pairwise iC):(S.flatMap dw).Pairwise fun a b=>a.x=b.x→qO a b:=by
 rw[List.pairwise_flatMap]
 constructor
 ·intro k hk
  unfold dw fQ
  rw[List.pairwise_map]
  exact ((hb k hk).sublist List.filter_sublist).imp fun hbe e=>absurd e hbe.x
 ·rw[List.pairwise_map] at hs
  refine hs.imp fun {k k'} hlt a ha b hb' e=>?_
  unfold dw fQ at ha hb'
  obtain ⟨p,_,rfl⟩:=List.mem_map.1 ha
  obtain ⟨q,_,rfl⟩:=List.mem_map.1 hb'
  exact .inr ⟨e,hlt⟩
theorem Lh {a b:L4} (h:qO a b):¬qO b a:=by unfold qO fO at *; simp only at *; omega
theorem Fv {L:List L4} (h:L.Pairwise fun a b=>a.x=b.x→qO a b) (x:Int):(L.filter fun p=>decide (p.x=x)).Pairwise qO:=by
 have h1:=h.sublist (List.filter_sublist (p:=fun p=>decide (p.x=x)))
 rw[cZ] at h1 ⊢
 intro i j p q hij hp hq
 refine h1 i j p q hij hp hq ?_
 have e1:=(List.mem_filter.1 (List.mem_of_getElem? hp)).2
 have e2:=(List.mem_filter.1 (List.mem_of_getElem? hq)).2
 simp only[decide_eq_true_eq] at e1 e2
 rw[e1,e2]
theorem Pq (L:List L4):∀{T:List Int},T.Nodup→(L.filter fun a=>decide (a.x∈T)).Perm (T.flatMap fun x=>L.filter fun a=>decide (a.x=x)):=by
 intro T
 induction T with
 | nil=>intro _; simp
 | cons x T ih=>
  intro hn
  rw[List.nodup_cons] at hn
  rw[List.flatMap_cons]
  refine (List.filter_append_perm (fun a=>decide (a.x=x)) _).symm.trans ?_
  rw[List.filter_filter,List.filter_filter]
  refine List.Perm.append ?_ ?_
  ·refine List.Perm.of_eq (List.filter_congr fun a _=>?_)
   rw[Bool.eq_iff_iff]
   simp only[List.mem_cons,Bool.and_eq_true,decide_eq_true_eq]
   exact ⟨fun h=>h.1,fun h=>⟨h,.inl h⟩⟩
  ·refine List.Perm.trans (List.Perm.of_eq (List.filter_congr fun a _=>?_)) (ih hn.2)
   rw[Bool.eq_iff_iff]
   simp only[List.mem_cons,Bool.and_eq_true,decide_eq_true_eq,Bool.not_eq_true',decide_eq_false_iff_not]
   constructor
   ·rintro ⟨h1,h2 | h2⟩
    ·exact absurd h2 h1
    ·exact h2
   ·intro h
    exact ⟨fun e=>hn.1 (e▸h),.inr h⟩
theorem XW {L:List L4} (h:L.Pairwise fun a b=>a.x=b.x→qO a b) {T:List Int} (hT:T.Pairwise (·<·)):(T.flatMap fun x=>L.filter fun a=>decide (a.x=x)).Pairwise qO:=by
 rw[List.pairwise_flatMap]
 constructor
 ·intro x _; exact Fv h x
 ·refine hT.imp fun {x y} hlt a ha b hb=>?_
  have e1:=(List.mem_filter.1 ha).2
  have e2:=(List.mem_filter.1 hb).2
  simp only[decide_eq_true_eq] at e1 e2
  exact .inl (by omega)
theorem Li {L D:List L4} (hp:D.Perm L) (h1:D.Pairwise qO) (h2:L.Pairwise qO):D=L:=
 uK hp h1 h2 fun a _ b _ k1 k2=>absurd k2 (Lh k1)
theorem Fw {L D:List L4} (h:L.Pairwise fun a b=>a.x=b.x→qO a b) (hp:D.Perm L) (hs:D.Pairwise fun x y=>¬qO y x):D.Pairwise qO:=by
 have hne:L.Pairwise fun a b=>a.x=b.x→¬(a.t=b.t∧a.r=b.r):=h.imp fun {a b} hab e hn=>by
  have:=hab e
  unfold qO fO at this
  simp only at this
  omega
 have n_:D.Pairwise fun a b=>a.x=b.x→¬(a.t=b.t∧a.r=b.r):=by
  refine hp.symm.pairwise hne ?_
  intro a b hab e hn
  exact hab e.symm ⟨hn.1.symm,hn.2.symm⟩
 refine (hs.and n_).imp fun {a b} ⟨h1,h2⟩=>?_
 refine Classical.byContradiction fun h3=>?_
 obtain ⟨k1,k2,k3⟩:=RU h3 h1
 exact h2 k1 ⟨k2,k3⟩
section
variable {a0 h:Heap} {tb bw bp bl:Nat} {c:dF} {vb:Value} {aF N:Nat} {Ts:List TB} {W:List IE} {wc:Nat} {F:List Int} {B:List Bool} {rt rp rl:Nat} {vr:Value} {R:List RB}
end
theorem Pr (t r:Int) (q:Value) (w x:Int) (Q:List R5) (h:Heap) (κ:KQ) (hq:Sl bq h q Q) (hlen:Q.length≤100000) (hlo:h.lo≤h.nx) (hk:∀h',Le h h'→κ (.int .i64 (iO Q x)) h') :
  CallW Tryz.prog 95 [ef t r q w,.int .i64 x] h κ:=by
 obtain ⟨qx,qc,rfl,_⟩:=(show Sl bq h q Q from hq)
 refine an mixed ?_
 rw[aaH]
 simp(disch:=first|omega|simp only[Wd]<;>omega|rfl)only[Wz,ef]
 obtain ⟨hA,az⟩:∃hA:Heap,hA=⟨h.nx+1,(h.bl.aY (h.nx) (aa [.int .i64 t,.int .i64 r,.slice qx Q.length qc,.int .i64 w] 81 false)),h.lo⟩:=⟨_,rfl⟩
 have aK:Le h hA:=by subst az; exact ((Le.refl h).new _)
 have g1:hA.bl.get (h.nx)=some (aa [.int .i64 t,.int .i64 r,.slice qx Q.length qc,.int .i64 w] 81 false):=by subst az; exact T.af _ _ _
 have d_:hA.nx=h.nx+1:=by subst az; rfl
 have ee:hA.lo=h.lo:=by subst az; rfl
 rw[←az]
 clear az
 have s6:=hq.le aK
 refine ⟨fun n l h1=>∃i:Nat,slot l 22=.int .i64 (i:Int)∧i≤Q.length∧n=Q.length-i∧(∀(j:Nat) (p:R5),j<i→Q[j]? = some p→p.x≠x)∧HQ hA h1,⟨_,0,rfl,Nat.zero_le _,rfl,fun j p hj=>(by omega),rfl⟩,?_⟩
 rintro n l h1 ⟨i,s1,hi,rfl,hall,hQ⟩
 cases (show hA=h1 from hQ)
 by_cases hlt:i<Q.length
 ·obtain ⟨p,hp⟩:∃p,Q[i]? = some p:=⟨_,List.getElem?_eq_getElem hlt⟩
  obtain ⟨b,o,hb,fJ,eX⟩:=xM s6 i hp
  by_cases hx:p.x=x
  ·simp(disch:=first|omega|simp only[Wd]<;>omega|rfl)only[Wz,vA,g1,s1,cq (show (i:Int)<(Q.length:Int) by omega),BX,fJ,eX,a_ hx]
   have:iO Q x=p.m:=by
    unfold iO
    have:Q.find? (fun p=>decide (p.x=x))=some p:=by
     rw[List.find?_eq_some_iff_getElem]
     refine ⟨by simpa using hx,i,hlt,(List.getElem?_eq_some_iff.1 hp).2,fun j hj=>?_⟩
     have:=hall j _ hj (List.getElem?_eq_getElem (by omega))
     simpa using this
    rw[this]
   rw[this] at hk
   exact hk hA aK
  ·simp(disch:=first|omega|simp only[Wd]<;>omega|rfl)only[Wz,vA,g1,s1,cq (show (i:Int)<(Q.length:Int) by omega),BX,fJ,eX,aN hx]
   refine ⟨_,by omega,i+1,rfl,by omega,rfl,fun j p' hj hp'=>?_,rfl⟩
   by_cases e:j=i
   ·subst e; rw[hp] at hp'; cases hp'; exact hx
   ·exact hall j p' (by omega) hp'
 ·have hil:i=Q.length:=by omega
  subst hil
  simp(disch:=first|omega|simp only[Wd]<;>omega|rfl)only[Wz,vA,g1,s1,bP (show (Q.length:Int)≤(Q.length:Int) by omega)]
  have:iO Q x=0:=by
   unfold iO
   have:Q.find? (fun p=>decide (p.x=x))=none:=by
    rw[List.find?_eq_none]
    intro p hp
    obtain ⟨j,hj⟩:=List.getElem?_of_mem hp
    have:=hall j p (List.getElem?_eq_some_iff.1 hj).1 hj
    simpa using this
   rw[this]
  rw[this] at hk
  exact hk hA aK
def uY (T:List Int) (x:Int) (i:Nat):List Int:=T.take i++x::T.drop i
theorem Sm {T:List Int} {x:Int} {i:Nat} (hT:T.Pairwise (·<·)) (h1:∀(j:Nat) (y:Int),j<i→T[j]? = some y→y<x) (h2:∀y,T[i]? = some y→x<y):(uY T x i).Pairwise (·<·)∧∀y,y∈uY T x i↔y∈T∨y=x:=by
 unfold uY
 constructor
 ·have hs:=hT
  rw[←List.take_append_drop i T,List.pairwise_append] at hs
  obtain ⟨s1,s2,s3⟩:=hs
  have up:∀y∈T.drop i,x<y:=by
   intro y hy
   obtain ⟨j,hj⟩:=List.getElem?_of_mem hy
   rw[List.getElem?_drop] at hj
   have hil:i<T.length:=by have:=(List.getElem?_eq_some_iff.1 hj).1; omega
   obtain ⟨z,hz⟩:∃z,T[i]? = some z:=⟨_,List.getElem?_eq_getElem hil⟩
   have:=h2 z hz
   by_cases e:j=0
   ·subst e; rw[Nat.add_zero] at hj; rw[hz] at hj; cases hj; exact this
   ·have:=cZ.1 hT i (i+j) z y (by omega) hz hj
    omega
  rw[List.pairwise_append,List.pairwise_cons]
  refine ⟨s1,⟨up,s2⟩,fun a ha b hb=>?_⟩
  obtain ⟨j,hj⟩:=List.getElem?_of_mem ha
  rw[List.getElem?_take] at hj
  split at hj
  ·rename_i hji
   have h3:=h1 j a hji hj
   rcases List.mem_cons.1 hb with rfl | hb
   ·exact h3
   ·have:=up b hb; omega
  ·cases hj
 ·intro y
  rw[List.mem_append,List.mem_cons]
  have:y∈T↔y∈T.take i∨y∈T.drop i:=by rw[←List.mem_append,List.take_append_drop]
  rw[this]
  constructor
  ·rintro (h | h | h)
   ·exact .inl (.inl h)
   ·exact .inr h
   ·exact .inl (.inr h)
  ·rintro ((h | h) | h)
   ·exact .inl h
   ·exact .inr (.inr h)
   ·exact .inr (.inl h)
theorem XX (a h:Heap) (U:List Int) (v:Value) (x:Int) (κ:KQ) (ho:jM a h v U) (em:uX U v) (hT:U.Pairwise (·<·)) (hle:Le a h) (hlo:h.lo≤h.nx) (hl:U.length≤500000)
  (hk:∀v' h' U',U'.Pairwise (·<·)→(∀y,y∈U'↔y∈U∨y=x)→U'.length≤U.length+1→jM a h' v' U'→uX U' v'→Le h h'→κ v' h') :
  CallW Tryz.prog 55 [v,.int .i64 x] h κ:=by
 have hlen:∀(β:Type) (fl:β) (h':Heap) (κ:Value→Heap→β),br fl v h' κ=κ (.int .i64 (U.length:Int)) h':=fun β fl h' κ=>ho.sl.len κ h'
 have ann:=hle.nx
 refine an mixed ?_
 rw[Z6]
 refine ⟨fun n l h1=>∃i:Nat,slot l 14=.int .i64 (i:Int)∧i≤U.length∧n=U.length-i∧(∀(j:Nat) (y:Int),j<i→U[j]? = some y→y<x)∧HQ h h1,⟨_,0,rfl,Nat.zero_le _,rfl,fun j p hj=>(by omega),rfl⟩,?_⟩
 rintro n l h1 ⟨i,s1,hi,rfl,hall,hQ⟩
 cases (show h=h1 from hQ)
 have done:(∀y,U[i]? = some y→x<y)→BH v l (.int .i64 x) h κ:=by
  intro LP
  simp(disch:=first|omega|simp only[Wd]<;>omega|rfl)only[Wz,BH,qh,s1]
  obtain ⟨hA,az⟩:∃hA:Heap,hA=⟨h.nx+1,(h.bl.aY (h.nx) (aa [] 3 false)),h.lo⟩:=⟨_,rfl⟩
  have aK:Le h hA:=by subst az; exact ((Le.refl h).new _)
  have ge:hA.bl.get (h.nx)=some (aa [] 3 false):=by subst az; exact T.af _ _ _
  have d_:hA.nx=h.nx+1:=by subst az; rfl
  have ee:hA.lo=h.lo:=by subst az; rfl
  rw[←az]
  clear az
  have oA:=ho.le aK
  rw[qj bW (by decide) oA em i hi]
  have hf:=sH bW oA i hi
  refine fP (enc:=cO) (a:=hA) (L:=[]) (M:=U.take i) bW iE (by decide) (by decide) (.inl ⟨rfl,.inr ⟨_,_,rfl⟩⟩) (fun _=>.inr ⟨_,_,rfl⟩) hf (Le.refl _) (by simp; omega) (by omega) _ ?_
  intro v6 h6 tM Xq qs _
  rw[List.nil_append] at tM Xq
  have n6:=qs.nx
  have l6:=qs.lo
  try simp(disch:=first|omega|simp only[Wd]<;>omega|rfl)only[Wz]
  obtain ⟨hB,bK⟩:∃hB:Heap,hB=⟨h6.nx+1,(h6.bl.aY (h6.nx) (aa [.int .i64 x] 3 false)),h6.lo⟩:=⟨_,rfl⟩
  have bG:Le h6 hB:=by subst bK; exact ((Le.refl h6).new _)
  have gB:hB.bl.get (h6.nx)=some (aa [.int .i64 x] 3 false):=by subst bK; exact T.af _ _ _
  have rz:hB.nx=h6.nx+1:=by subst bK; rfl
  have rA:hB.lo=h6.lo:=by subst bK; rfl
  rw[←bK]
  clear bK
  have hone:Sl cO hB (.slice (some ⟨h6.nx,0,none⟩) 1 1) [x]:=Sl.new (L:=[x]) (e:=3) (op:=false) (by omega) gB _
  refine fP (enc:=cO) (a:=hA) (L:=U.take i) (M:=[x]) bW iE (by decide) (by decide) (tM.le bG) Xq hone (qs.trans bG) (by simp; omega) (by omega) _ ?_
  intro v7 h7 Oe em7 Ao _
  have n7:=Ao.nx
  have l7:=Ao.lo
  obtain ⟨u,hu,eu⟩:=(oA.le Ao).tail bW (by decide) i hi
  simp(disch:=first|omega|simp only[Wd]<;>omega|rfl)only[Wz,s1,eu]
  refine fP (enc:=cO) (a:=hA) (L:=U.take i++[x]) (M:=U.drop i) bW iE (by decide) (by decide) Oe em7 hu Ao (by simp; omega) (by omega) _ ?_
  intro v8 h8 PO TT OF _
  have eL:U.take i++[x]++U.drop i=uY U x i:=by simp[uY]
  rw[eL] at PO TT
  obtain ⟨p1,p2⟩:=Sm hT hall LP
  exact hk v8 h8 _ p1 p2 (by simp[uY]; omega) (dh.base PO (by omega)) TT (aK.trans OF)
 by_cases hlt:i<U.length
 case neg=>
  simp(disch:=first|omega|simp only[Wd]<;>omega|rfl)only[Wz,sk,hlen,s1,bP (show (U.length:Int)≤(i:Int) by omega),vv]
  exact done fun y hy=>by have:=(List.getElem?_eq_some_iff.1 hy).1; omega
 obtain ⟨y,hy⟩:∃y,U[i]? = some y:=⟨_,List.getElem?_eq_getElem hlt⟩
 obtain ⟨b,o,hb,fJ,eX⟩:=ldI ho.sl i hy
 by_cases h1:y<x
 ·simp(disch:=first|omega|simp only[Wd]<;>omega|rfl)only[Wz,sk,hlen,s1,cq (show (i:Int)<(U.length:Int) by omega),fJ,eX,a_ h1]
  refine ⟨_,by omega,i+1,rfl,by omega,rfl,fun j z hj hz=>?_,rfl⟩
  by_cases e:j=i
  ·subst e; rw[hy] at hz; cases hz; exact h1
  ·exact hall j z (by omega) hz
 ·by_cases h2:y=x
  ·simp(disch:=first|omega|simp only[Wd]<;>omega|rfl)only[Wz,sk,hlen,s1,cq (show (i:Int)<(U.length:Int) by omega),fJ,eX,aN h1,vv,a_ h2]
   refine hk v h U hT (fun z=>⟨.inl,?_⟩) (by omega) ho em (Le.refl _)
   rintro (hz | rfl)
   ·exact hz
   ·exact h2▸List.mem_of_getElem? hy
  ·simp(disch:=first|omega|simp only[Wd]<;>omega|rfl)only[Wz,sk,hlen,s1,cq (show (i:Int)<(U.length:Int) by omega),fJ,eX,aN h1,vv,aN h2]
   exact done fun z hz=>by rw[hy] at hz; cases hz; omega
section
variable {a0 h:Heap} {c:dF} {aF:Nat} {B:List Bool} {rt rp rl:Nat} {vr:Value} {R:List RB}
theorem JR:∀{L:List Nat} {n:Nat},n∈L→n≤L.sum:=by
 intro L
 induction L with
 | nil=>intro n h; nomatch h
 | cons a L ih=>
  intro n h
  rw[List.sum_cons]
  rcases List.mem_cons.1 h with rfl | h
  ·omega
  ·have:=ih h; omega
theorem yT (t:fI a0 h rt rp rl c vr aF R B) (g:pM R) {S:List qw} (hp:S.Perm (R.flatMap fun r=>r.K.map gE)):S.length≤1024:=by
 have h1:∀L:List RB,(∀r∈L,r.K.length≤64)→(L.flatMap fun r=>r.K.map gE).length≤64*L.length:=by
  intro L
  induction L with
  | nil=>intro _; simp
  | cons r L ih=>
   intro hL
   have h1:=ih fun x hx=>hL x (.tail _ hx)
   have h2:=hL r (.head _)
   rw[List.flatMap_cons,List.length_append,List.length_map,List.length_cons]
   omega
 have:=h1 R g.len
 have:=hp.length_eq
 have:=t.s1.2
 omega
structure ue (R:List RB) (S:List qw):Prop where
 perm:S.Perm (R.flatMap fun r=>r.K.map gE)
 qN:(S.map oc).Pairwise fO
 few:(S.map fun k=>k.2.2.2.length).sum≤128
 bes:∀k∈S,k.2.2.2.Pairwise iC
theorem AN (t:fI a0 h rt rp rl c vr aF R B) (g:pM R) (hlo:h.lo≤h.nx) {S:List qw} (hS:ue R S) (κ:KQ)
  (hk:∀v h' O,O.map gE=S→(∀k∈O,QV h' k.q k.Q)→sI h h' v O→Le h h'→κ v h') :
  CallW Tryz.prog 54 [.pointer (some ⟨rt,0,none⟩)] h κ:=by
 have dj:(R.flatMap fun r=>r.K.map bB).Nodup:=by
  have h1:(S.map oc).Nodup:=hS.qN.imp fun {a b} hlt e=>by subst e; unfold fO at hlt; omega
  have h2:=(hS.perm.map oc).nodup_iff.1 h1
  rw[List.map_flatMap] at h2
  simp only[JP] at h2
  exact h2
 refine Pp t g hlo dj _ ?_
 intro v h' O hp hs hQ ho le
 refine hk v h' O ?_ hQ ho le
 have hs2:(O.map gE).Pairwise fun a b=>fO (oc a) (oc b):=by
  have:=hs
  rw[←JP,List.pairwise_map] at this
  exact this
 have hs3:S.Pairwise fun a b=>fO (oc a) (oc b):=List.pairwise_map.1 hS.qN
 refine uK (hp.trans hS.perm.symm) hs2 hs3 fun a _ b _ k1 k2=>?_
 exfalso
 unfold fO at k1 k2
 omega
theorem JS {O:List HE} {S:List qw} (e:O.map gE=S) {i:Nat} {k:HE} (hi:O[i]? = some k):S[i]? = some (gE k):=by
 rw[←e,List.getElem?_map,hi]; rfl
theorem Lj (t:fI a0 h rt rp rl c vr aF R B) (g:pM R) (hlo:h.lo≤h.nx) {S:List qw} (hS:ue R S) (x:Int) (κ:KQ)
  (hk:∀v h',zy h h' v ((S.flatMap dw).filter fun p=>decide (p.x=x))→Le h h'→κ v h') :
  CallW Tryz.prog 56 [.pointer (some ⟨rt,0,none⟩),.int .i64 x] h κ:=by
 refine an mixed ?_
 rw[Z9]
 refine AN t g hlo hS _ ?_
 intro v0 h0 O eO hQ ho CB
 have n0:=CB.nx
 have l0:=CB.lo
 have hOS:O.length=S.length:=by rw[←eO]; simp
 have hSl:=yT t g hS.perm
 have sN:∀(β:Type) (fl:β) (h':Heap) (κ:Value→Heap→β),br fl v0 h' κ=κ (.int .i64 (O.length:Int)) h':=fun β fl h' κ=>ho.sl.len κ h'
 have Pt:∀k∈S,k.2.2.2.length≤128:=fun k hk'=>by
  have:k.2.2.2.length≤(S.map fun k=>k.2.2.2.length).sum:=JR (List.mem_map.2 ⟨k,hk',rfl⟩)
  have:=hS.few
  omega
 have Cp:∀S':List qw,(S'.flatMap dw).length≤(S'.map fun k=>k.2.2.2.length).sum:=by
  intro S'
  induction S' with
  | nil=>exact Nat.le_refl _
  | cons k S' ih=>
   have:=qm (t:=k.1) (r:=k.2.1) k.2.2.2
   rw[List.flatMap_cons,List.length_append,List.map_cons,List.sum_cons]
   show (fQ k.1 k.2.1 k.2.2.2).length+_≤_
   omega
 have ahD:∀i,(((S.take i).flatMap dw).filter fun p=>decide (p.x=x)).length≤128:=by
  intro i
  have h1:=List.length_filter_le (fun p:L4=>decide (p.x=x)) ((S.take i).flatMap dw)
  have h2:=Cp (S.take i)
  have h3:((S.take i).map fun k=>k.2.2.2.length).sum≤(S.map fun k=>k.2.2.2.length).sum:=by
   conv=>rhs; rw[←List.take_append_drop i S,List.map_append,List.sum_append]
   omega
  have:=hS.few
  omega
 refine ⟨fun n l h1=>∃i:Nat,slot l 27=.int .i64 (i:Int)∧n=O.length-i∧i≤O.length∧zy h0 h1 (slot l 24) (((S.take i).flatMap dw).filter fun p=>decide (p.x=x))∧Le h0 h1,
  ⟨_,0,rfl,rfl,by omega,.inl ⟨by simp,.inl rfl⟩,Le.refl _⟩,?_⟩
 rintro n l h1 ⟨i,s1,rfl,hi,hoL,bA⟩
 have n1:=bA.nx
 have l1:=bA.lo
 by_cases hlt:i<O.length
 case neg=>
  have hil:i=S.length:=by omega
  subst hil
  rw[List.take_length] at hoL
  simp(disch:=first|omega|simp only[Wd]<;>omega|rfl)only[Wz,BI,sN,s1,bP (show (O.length:Int)≤(S.length:Int) by omega)]
  exact hk _ h1 (dh.base hoL n0) (CB.trans bA)
 obtain ⟨k,hki⟩:∃k,O[i]? = some k:=⟨_,List.getElem?_eq_getElem hlt⟩
 have Cz:=List.mem_of_getElem? hki
 have nZ:=JS eO hki
 have qk:=hQ k Cz
 obtain ⟨b,o,hb,fJ,eX⟩:=GV ho.sl i hki (pF qk.1)
 have L1:=eX h1 bA
 have hlg:k.Q.length≤128:=Pt _ (List.mem_of_getElem? nZ)
 have ahE:k.Q.Pairwise iC:=hS.bes _ (List.mem_of_getElem? nZ)
 have hstep:((S.take (i+1)).flatMap dw).filter (fun p=>decide (p.x=x))=(((S.take i).flatMap dw).filter fun p=>decide (p.x=x))++(if iO k.Q x≠0 then [⟨x,k.t,k.r,iO k.Q x⟩] else []):=by
  rw[ko dw nZ,List.filter_append]
  congr 1
  exact Lg k.t k.r x ahE
 have Xy:=ahD i
 simp(disch:=first|omega|simp only[Wd]<;>omega|rfl)only[Wz,BI,sN,s1,cq (show (i:Int)<(O.length:Int) by omega),IZ,fJ,L1]
 refine ⟨fun l' h'=>zy h0 h' (slot l' 20) (((S.take (i+1)).flatMap dw).filter fun p=>decide (p.x=x))∧Le h0 h',?_,?_⟩
 rotate_left
 ·rintro l' h' ⟨e1,e2⟩
  exact ⟨_,by omega,i+1,rfl,rfl,by omega,e1,e2⟩
 refine Pr k.t k.r k.q k.w x k.Q h1 _ (qk.le bA).1 (by omega) (by omega) ?_
 intro h2 bt
 have n2:=bt.nx
 have l2:=bt.lo
 have eN:=bA.trans bt
 by_cases hm:iO k.Q x=0
 ·rw[if_neg (by omega),List.append_nil] at hstep
  simp(disch:=first|omega|simp only[Wd]<;>omega|rfl)only[Wz,a_ hm]
  refine ⟨?_,eN⟩
  rw[hstep]
  exact hoL.le bt
 ·rw[if_pos hm] at hstep
  have L2:=eX h2 eN
  simp(disch:=first|omega|simp only[Wd]<;>omega|rfl)only[Wz,aN hm,IY,s1,fJ,L2]
  obtain ⟨hB,bK⟩:∃hB:Heap,hB=⟨h2.nx+1,(h2.bl.aY (h2.nx) (aa [.int .i64 x,.int .i64 k.t,.int .i64 k.r,.int .i64 (iO k.Q x)] 60 false)),h2.lo⟩:=⟨_,rfl⟩
  have bG:Le h2 hB:=by subst bK; exact ((Le.refl h2).new _)
  have gB:hB.bl.get (h2.nx)=some (aa [.int .i64 x,.int .i64 k.t,.int .i64 k.r,.int .i64 (iO k.Q x)] 60 false):=by subst bK; exact T.af _ _ _
  have rz:hB.nx=h2.nx+1:=by subst bK; rfl
  have rA:hB.lo=h2.lo:=by subst bK; rfl
  rw[←bK]
  clear bK
  have hone:Sl gV hB (.slice (some ⟨h2.nx,0,none⟩) 1 1) [(⟨x,k.t,k.r,iO k.Q x⟩:L4)]:=Sl.new (L:=[(⟨x,k.t,k.r,iO k.Q x⟩:L4)]) (e:=60) (op:=false) (by omega) gB _
  refine cV (enc:=gV) (a:=h0) (L:=((S.take i).flatMap dw).filter fun p=>decide (p.x=x)) (M:=[(⟨x,k.t,k.r,iO k.Q x⟩:L4)]) mV yx (by decide) (by decide) ((hoL.le bt).le bG) hone (eN.trans bG) (by simp only[List.length_cons,List.length_nil]; omega) (by omega) _ ?_
  intro v' h' ho' le' _ _ _ _
  refine ⟨?_,le'⟩
  rw[hstep]
  exact ho'
theorem Sn (t:fI a0 h rt rp rl c vr aF R B) (g:pM R) (hlo:h.lo≤h.nx) {S:List qw} (hS:ue R S) (κ:KQ)
  (hk:∀v h' A,A.Perm (S.flatMap dw)→A.Pairwise qO→Sl gV h' v A→Le h h'→κ v h') :
  CallW Tryz.prog 24 [.pointer (some ⟨rt,0,none⟩)] h κ:=by
 refine an mixed ?_
 rw[ZB]
 refine AN t g hlo hS _ ?_
 intro v0 h0 O eO hQ ho CB
 have n0:=CB.nx
 have l0:=CB.lo
 have hOS:O.length=S.length:=by rw[←eO]; simp
 have hSl:=yT t g hS.perm
 have sN:∀(β:Type) (fl:β) (h':Heap) (κ:Value→Heap→β),br fl v0 h' κ=κ (.int .i64 (O.length:Int)) h':=fun β fl h' κ=>ho.sl.len κ h'
 have Pt:∀k∈S,k.2.2.2.length≤128:=fun k hk'=>by
  have:k.2.2.2.length≤(S.map fun k=>k.2.2.2.length).sum:=JR (List.mem_map.2 ⟨k,hk',rfl⟩)
  have:=hS.few
  omega
 refine ⟨fun n l h1=>∃(i:Nat) (U:List Int),slot l 29=.int .i64 (i:Int)∧n=O.length-i∧i≤O.length∧U.Pairwise (·<·)∧(∀y,y∈U↔∃k∈S.take i,∃p∈k.2.2.2,p.x=y)∧U.length≤128*i∧jM h0 h1 (slot l 23) U∧uX U (slot l 23)∧Le h0 h1,
  ⟨_,0,[],rfl,rfl,by omega,List.Pairwise.nil,by simp,by simp,.inl ⟨rfl,.inl rfl⟩,fun _=>.inl rfl,Le.refl _⟩,?_⟩
 rintro n l h1 ⟨i,U,s1,rfl,hi,hU,hmU,hlU,hoU,emU,bA⟩
 have n1:=bA.nx
 have l1:=bA.lo
 by_cases hlt:i<O.length
 ·obtain ⟨k,hki⟩:∃k,O[i]? = some k:=⟨_,List.getElem?_eq_getElem hlt⟩
  have Cz:=List.mem_of_getElem? hki
  have nZ:=JS eO hki
  have qk:=hQ k Cz
  obtain ⟨b,o,hb,fJ,eX⟩:=GV ho.sl i hki (pF qk.1)
  have hlg:k.Q.length≤128:=Pt _ (List.mem_of_getElem? nZ)
  obtain ⟨qx,qc,eq,_⟩:=(show Sl bq h0 k.q k.Q from qk.1)
  simp(disch:=first|omega|simp only[Wd]<;>omega|rfl)only[Wz,Bw,sN,s1,cq (show (i:Int)<(O.length:Int) by omega)]
  refine ⟨fun m l3 h3=>∃(j:Nat) (V:List Int),slot l3 22=.int .i64 (j:Int)∧m=k.Q.length-j∧j≤k.Q.length∧V.Pairwise (·<·)∧(∀y,y∈V↔y∈U∨∃p∈k.Q.take j,p.x=y)∧V.length≤128*i+j∧jM h0 h3 (slot l3 19) V∧uX V (slot l3 19)∧Le h0 h3,
   ⟨_,0,U,rfl,rfl,by omega,hU,by simp,by omega,hoU,emU,bA⟩,?_⟩
  rintro m l3 h3 ⟨j,V,s3,rfl,hj,hV,hmV,hlV,hoV,emV,c9⟩
  have n3:=c9.nx
  have l3':=c9.lo
  have L3:=eX h3 c9
  have q3:=qk.le c9
  have T4:∀(β:Type) (fl:β) (h':Heap) (κ:Value→Heap→β),br fl k.q h' κ=κ (.int .i64 (k.Q.length:Int)) h':=fun β fl h' κ=>q3.1.len κ h'
  by_cases hjl:j<k.Q.length
  ·obtain ⟨p,hp⟩:∃p,k.Q[j]? = some p:=⟨_,List.getElem?_eq_getElem hjl⟩
   obtain ⟨b5,o5,hb5,ahG,ahH⟩:=xM q3.1 j hp
   simp(disch:=first|omega|simp only[Wd]<;>omega|rfl)only[Wz,Bu,s1,fJ,L3,T4,s3,cq (show (j:Int)<(k.Q.length:Int) by omega),Ix,ahG,ahH]
   refine XX h0 h3 V _ p.x _ hoV emV hV c9 (by omega) (by omega) ?_
   intro v' h4 V' hV' ahI amW ahJ ahK iw
   refine ⟨_,by omega,j+1,V',rfl,rfl,by omega,hV',fun y=>?_,by omega,ahJ,ahK,c9.trans iw⟩
   rw[ahI,hmV,List.take_add_one,hp]
   simp only[Option.toList_some,List.mem_append,List.mem_singleton]
   constructor
   ·rintro ((h | ⟨q,hq,e⟩) | rfl)
    ·exact .inl h
    ·exact .inr ⟨q,.inl hq,e⟩
    ·exact .inr ⟨p,.inr rfl,rfl⟩
   ·rintro (h | ⟨q,hq | rfl,e⟩)
    ·exact .inl (.inl h)
    ·exact .inl (.inr ⟨q,hq,e⟩)
    ·exact .inr e.symm
  ·have hjQ:j=k.Q.length:=by omega
   subst hjQ
   simp(disch:=first|omega|simp only[Wd]<;>omega|rfl)only[Wz,Bu,s1,fJ,L3,T4,s3,bP (show (k.Q.length:Int)≤(k.Q.length:Int) by omega)]
   refine ⟨_,by omega,i+1,V,rfl,rfl,by omega,hV,fun y=>?_,by omega,hoV,emV,c9⟩
   rw[hmV,hmU,List.take_length,List.take_add_one,nZ]
   simp only[Option.toList_some,List.mem_append,List.mem_singleton]
   constructor
   ·rintro (⟨k',hk',h⟩ | h)
    ·exact ⟨k',.inl hk',h⟩
    ·exact ⟨_,.inr rfl,h⟩
   ·rintro ⟨k',hk' | rfl,h⟩
    ·exact .inl ⟨k',hk',h⟩
    ·exact .inr h
 have hil:i=S.length:=by omega
 subst hil
 rw[List.take_length] at hmU
 have zA:∀a∈S.flatMap dw,a.x∈U:=by
  intro a ha
  obtain ⟨k,nZ,h2⟩:=List.mem_flatMap.1 ha
  unfold dw fQ at h2
  obtain ⟨p,hp,rfl⟩:=List.mem_map.1 h2
  exact (hmU _).2 ⟨k,nZ,p,(List.mem_filter.1 hp).1,rfl⟩
 have Xj:=JQ hS.qN hS.bes
 have hnd:U.Nodup:=hU.imp fun {a b} hlt e=>by omega
 have ac_:(U.flatMap fun x=>(S.flatMap dw).filter fun p=>decide (p.x=x)).Perm (S.flatMap dw):=by
  refine (Pq (S.flatMap dw) hnd).symm.trans (List.Perm.of_eq (List.filter_eq_self.2 fun a ha=>?_))
  simpa using zA a ha
 have Cp:∀S':List qw,(S'.flatMap dw).length≤(S'.map fun k=>k.2.2.2.length).sum:=by
  intro S'
  induction S' with
  | nil=>exact Nat.le_refl _
  | cons k S' ih=>
   have:=qm (t:=k.1) (r:=k.2.1) k.2.2.2
   rw[List.flatMap_cons,List.length_append,List.map_cons,List.sum_cons]
   show (fQ k.1 k.2.1 k.2.2.2).length+_≤_
   omega
 have hcl:(U.flatMap fun x=>(S.flatMap dw).filter fun p=>decide (p.x=x)).length≤128:=by
  have h1:=ac_.length_eq
  have h2:=Cp S
  have h3:=hS.few
  omega
 have ahL:∀j,((U.take j).flatMap fun x=>(S.flatMap dw).filter fun p=>decide (p.x=x)).length≤128:=by
  intro j
  have h1:(U.flatMap fun x=>(S.flatMap dw).filter fun p=>decide (p.x=x)).length=((U.take j).flatMap fun x=>(S.flatMap dw).filter fun p=>decide (p.x=x)).length+((U.drop j).flatMap fun x=>(S.flatMap dw).filter fun p=>decide (p.x=x)).length:=by
   rw[←List.length_append,←List.flatMap_append,List.take_append_drop]
  omega
 obtain ⟨vU,eU⟩:∃vU,slot l 23=vU:=⟨_,rfl⟩
 rw[eU] at hoU
 have T6:∀(β:Type) (fl:β) (h':Heap) (κ:Value→Heap→β),br fl vU h' κ=κ (.int .i64 (U.length:Int)) h':=fun β fl h' κ=>hoU.sl.len κ h'
 have hUl:U.length≤200000:=by omega
 simp(disch:=first|omega|simp only[Wd]<;>omega|rfl)only[Wz,Bw,sN,s1,bP (show (O.length:Int)≤(S.length:Int) by omega)]
 refine ⟨fun n l5 h5=>∃j:Nat,slot l5 15=.int .i64 (j:Int)∧n=U.length-j∧j≤U.length∧zy h1 h5 (slot l5 12) ((U.take j).flatMap fun x=>(S.flatMap dw).filter fun p=>decide (p.x=x))∧Le h1 h5,
  ⟨_,0,rfl,rfl,by omega,.inl ⟨by simp,.inl rfl⟩,Le.refl _⟩,?_⟩
 rintro n l5 h5 ⟨j,s5,rfl,hj,hoA,ji⟩
 have n5:=ji.nx
 have l5':=ji.lo
 have ahN:=hoU.le ji
 by_cases hjl:j<U.length
 ·obtain ⟨y,hy⟩:∃y,U[j]? = some y:=⟨_,List.getElem?_eq_getElem hjl⟩
  obtain ⟨b,o,hb,fJ,eX⟩:=ldI ahN.sl j hy
  have t5:=((t.le CB).le bA).le ji
  have hstep:=ko (fun x=>(S.flatMap dw).filter fun p=>decide (p.x=x)) hy
  have hc1:=ahL (j+1)
  rw[hstep,List.length_append] at hc1
  simp(disch:=first|omega|simp only[Wd]<;>omega|rfl)only[Wz,Bv,eU,T6,s5,cq (show (j:Int)<(U.length:Int) by omega),fJ,eX]
  refine Lj t5 g (by omega) hS y _ ?_
  intro v6 h6 tM qs
  have n6:=qs.nx
  have l6:=qs.lo
  refine cV (enc:=gV) (a:=h1) (L:=(U.take j).flatMap fun x=>(S.flatMap dw).filter fun p=>decide (p.x=x)) (M:=(S.flatMap dw).filter fun p=>decide (p.x=y)) mV yx (by decide) (by decide) (hoA.le qs) tM.sl (ji.trans qs) (by omega) (by omega) _ ?_
  intro v7 h7 Oe Ao _ _ _ _
  refine ⟨_,by omega,j+1,rfl,rfl,by omega,?_,Ao⟩
  rw[hstep]
  exact Oe
 ·have hjU:j=U.length:=by omega
  subst hjU
  rw[List.take_length] at hoA
  simp(disch:=first|omega|simp only[Wd]<;>omega|rfl)only[Wz,Bv,eU,T6,s5,bP (show (U.length:Int)≤(U.length:Int) by omega)]
  exact hk _ h5 _ ac_ (XW Xj hU) hoA.sl ((CB.trans bA).trans ji)
end
theorem WS.frK {a0 h h':Heap} {A:WA} {a:TA} {N:Nat} {d:TD} {R:RD} (s:WS h A a N d R) {rb rp rl most:Nat} {v:Value} {K:List HE} {B2:List Bool} (k:jl a0 h rb rp most v K) (p:cF h rp rl B2) (hne:rl≠a.bl) (f:jk (SK rb rl v) h h'):WS h' A a N d R:=by
 have c1:=k.cell
 have cl:=p.gP
 have gm:=s.r.gm
 have fn:=f.nx
 have fl:=f.lo
 have hlo:=s.lo
 refine ⟨⟨s.t.is.frK k p hne f,s.t.ids,s.t.wh,s.t.nm,s.t.wb,s.t.len,s.t.cR,s.t.cH⟩,s.r.keep f.nx f.lo (fun x vs ty op hx hr hg=>f.get x hx ?_) (f.get _ s.r.tU.1 ?_),s.mw,s.mm,by omega⟩
 ·rintro (rfl | rfl | e)
  ·rw[hg] at c1
   obtain ⟨rfl,rfl⟩:=jm c1
   revert hr; unfold qu; decide
  ·rw[hg] at cl
   obtain ⟨rfl,rfl⟩:=jm cl
   revert hr; unfold qu; decide
  ·have:=(k.own.blk e).2.2
   rw[hg] at this
   obtain ⟨rfl,rfl⟩:=jm this
   revert hr; unfold qu; decide
 ·rintro (e | e | e)
  ·rw[←e,gm] at c1; exact bE c1
  ·rw[←e,gm] at cl; exact bE cl
  ·have:=(k.own.blk e).2.2
   rw[gm] at this; exact bE this
structure PS (rl:Nat) (h h':Heap):Prop where
 ws:∀A a N d Rd,rl≠a.bl→WS h A a N d Rd→WS h' A a N d Rd
 ent:∀h0,qP h0→Le h0 h→Le h0 h'
 nx:h.nx≤h'.nx
 ask:∀d vs,d<h.nx→h.bl.get d=some (aa vs 39 false)→h'.bl.get d=h.bl.get d
theorem PS.of {a0 h h':Heap} {rb rp rl most:Nat} {v:Value} {K:List HE} {B2:List Bool} (k:jl a0 h rb rp most v K) (p:cF h rp rl B2) (f:jk (SK rb rl v) h h'):PS rl h h':=by
 refine ⟨fun A a N d Rd hne s=>s.frK k p hne f,fun h0 ro l=>⟨Nat.le_trans l.nx f.nx,f.lo.trans l.lo,fun c hc=>?_⟩,f.nx,fun c vs hc g=>f.get c hc ?_⟩
 rotate_left
 ·rintro (rfl | rfl | b)
  ·exact absurd (g.symm.trans k.cell) (aL (by decide))
  ·exact absurd (g.symm.trans p.gP) (aL (by decide))
  ·exact absurd (g.symm.trans (k.own.blk b).2.2) (aL (by decide))
 have e:=l.get c hc
 refine (f.get c (Nat.lt_of_lt_of_le hc l.nx) ?_).trans e
 rintro (rfl | rfl | b)
 ·exact (ro _).1 _ _ _ (e.symm.trans k.cell)
 ·exact (ro _).1 _ _ _ (e.symm.trans p.gP)
 ·exact (ro _).1 _ _ _ (e.symm.trans (k.own.blk b).2.2)
structure eT (R:List RB) (H:Int→Int→Int) (s:Int) (B:List Bool):Prop where
 one:∀r∈R,∀k∈r.K,k.w=0∧aZ (H k.t k.r)=true∧∃n:Nat,k.Q=[⟨(n:Int),1,H k.t k.r,H k.t k.r,0⟩]∧B[n]? = some true
 all:∀t r,H t r≠0→∃b∈R,∃k∈b.K,k.t=t∧k.r=r
 nm:∀(j:Nat) (b:RB),R[j]? = some b→∀k∈b.K,bT k.t k.r s=(j:Int)
 qN:∀r∈R,(r.K.map bB).Pairwise fO
 len:∀r∈R,r.K.length≤64
 uq:∀b∈R,∀k∈b.K,∀b'∈R,∀k'∈b'.K,∀p∈k.Q,∀p'∈k'.Q,p.id=p'.id→k.t=k'.t∧k.r=k'.r
theorem Sp {id x m:Int} (h0:0≤id) (am:aZ m=true):VQ [⟨id,x,m,m,0⟩] 0:=by
 have:=VQ.nil.ask (x:=x) h0 am (fun q hq=>nomatch hq)
 rw[sO] at this
 exact this
theorem Fx {k:HE} {id x m:Int} (hw:k.w=0) (h0:0≤id) (am:aZ m=true) (hQ:k.Q=[⟨id,x,m,m,0⟩]):kR k:=by
 refine ⟨by rw[hQ]; simp,by rw[hQ,hw]; exact Sp h0 am,by rw[hQ]; exact nK (yA ((cu _).1 am).1),by rw[hQ]; simp⟩
section
variable {a0 h:Heap} {rt rp rl:Nat} {c:dF} {vr:Value} {aF:Nat} {R:List RB} {B:List Bool} {H:Int→Int→Int}
theorem eT.good (L:eT R H c.S B):pM R:=⟨fun r hr k hk=>by
 obtain ⟨hw,am,n,hQ,_⟩:=L.one r hr k hk
 exact Fx hw (by omega) am hQ,L.len,L.qN⟩
theorem eT.ids (L:eT R H c.S B):∀(j:Nat) (r:RB),R[j]? = some r→∀k∈r.K,∀p∈k.Q,∃n:Nat,p.id=(n:Int)∧B[n]? = some true:=fun j r hj k hk p hp=>by
 obtain ⟨_,_,n,hQ,hB⟩:=L.one r (List.mem_of_getElem? hj) k hk
 rw[hQ,List.mem_singleton] at hp
 subst hp
 exact ⟨n,rfl,hB⟩
theorem eT.no (L:eT R H c.S B) {t r:Int} (hH:H t r=0):∀b∈R,∀k∈b.K,¬(t=k.t∧r=k.r):=by
 rintro b hb k hk ⟨rfl,rfl⟩
 obtain ⟨_,am,_⟩:=L.one b hb k hk
 exact ((cu _).1 am).1 hH
theorem eT.at (L:eT R H c.S B) {t r:Int} (hH:H t r≠0):∃(j:Nat) (b:RB) (k:HE) (n:Nat),R[j]? = some b∧bT t r c.S=(j:Int)∧k∈b.K∧k.t=t∧k.r=r∧k.Q=[⟨(n:Int),1,H t r,H t r,0⟩]∧B[n]? = some true:=by
 obtain ⟨b,hb,k,hk,rfl,rfl⟩:=L.all t r hH
 obtain ⟨j,hj⟩:=List.getElem?_of_mem hb
 obtain ⟨_,_,n,hQ,hB⟩:=L.one b hb k hk
 exact ⟨j,b,k,n,hj,L.nm j b hj k hk,hk,rfl,rfl,hQ,hB⟩
theorem Ll (t':fI a0 h rt rp rl c vr aF R B) (L:eT R H c.S B) (hlo:h.lo≤h.nx) (t r:Int) (κ:KQ)
  (ig:H t r=0→∀h',Le h h'→κ (.tuple ⟨[.int .i64 0,.bool false]⟩) h')
  (iJ:H t r≠0→∀h' (j:Nat) (b:RB) (k:HE) (n:Nat),R[j]? = some b→k∈b.K→k.t=t→k.r=r→k.Q=[⟨(n:Int),1,H t r,H t r,0⟩]→Le h h'→κ (.tuple ⟨[.int .i64 (n:Int),.bool true]⟩) h') :
  CallW Tryz.prog 18 [.pointer (some ⟨rt,0,none⟩),dn t r,.int .i64 1] h κ:=by
 refine Lc t' L.good hlo t r 1 _ ?_
 intro h' id b fi le
 by_cases hH:H t r=0
 ·have hno:=L.no hH
  rcases fi with ⟨_,rfl,rfl⟩ | ⟨k,M,hM,hst,⟨rfl,e,he,ht,hr,_⟩ | ⟨rfl,rfl,_⟩⟩
  ·exact ig hH h' le
  ·rw[List.getElem?_map] at hM
   cases hb:R[k]? with
   | none=>rw[hb] at hM; cases hM
   | some b0=>
    rw[hb] at hM; cases hM
    exact absurd ⟨ht,hr⟩ (hno b0 (List.mem_of_getElem? hb) e he)
  ·exact ig hH h' le
 ·obtain ⟨j0,b0,k0,n0,hj0,ac0,Rr,ht0,Ma,hQ0,hB0⟩:=L.at hH
  rcases fi with ⟨h1,_⟩ | ⟨k,M,hM,hst,fi⟩
  ·omega
  ·obtain rfl:k=j0:=by omega
   rw[List.getElem?_map,hj0] at hM; cases hM
   rcases fi with ⟨rfl,e,he,ht,hr,p,hp,hx,rfl⟩ | ⟨_,_,hn⟩
   ·obtain ⟨_,_,n,hQ,hB⟩:=L.one b0 (List.mem_of_getElem? hj0) e he
    rw[hQ,List.mem_singleton] at hp
    subst hp
    rw[←ht,←hr] at hQ
    exact iJ hH h' k b0 e n hj0 he ht.symm hr.symm hQ le
   ·exact absurd rfl (hn k0 Rr ht0.symm Ma.symm ⟨(n0:Int),1,H t r,H t r,0⟩ (by rw[hQ0]; exact .head _))
end
def Lm (R:List RB) (B:List Bool):Prop:=(di B).length=(R.map fun r=>r.K.length).sum
theorem Cq {R:List RB} {j:Nat} {b:RB} (hj:R[j]? = some b) (x:RB):((R.set j x).map fun r=>r.K.length).sum+b.K.length=(R.map fun r=>r.K.length).sum+x.K.length:=by
 induction R generalizing j with
 | nil=>cases hj
 | cons r R ih=>
  cases j with
  | zero=>cases hj; simp only[List.set_cons_zero,List.map_cons,List.sum_cons]; omega
  | succ j=>
   have:=ih (j:=j) hj
   simp only[List.set_cons_succ,List.map_cons,List.sum_cons]
   omega
section
variable {a0 h:Heap} {rt rp rl:Nat} {c:dF} {vr:Value} {aF:Nat} {R:List RB} {B:List Bool} {H:Int→Int→Int}
theorem eT.set (L:eT R H c.S B) {j:Nat} {b:RB} (hj:R[j]? = some b) {t r m:Int} (hst:bT t r c.S=(j:Int)) {v':Value} {K':List HE} {B':List Bool} {n:Nat}
  (hnew:∀k∈K',(k∈b.K∧¬(k.t=t∧k.r=r))∨(m≠0∧k.t=t∧k.r=r∧k.w=0∧k.Q=[⟨(n:Int),1,m,m,0⟩]))
  (hold:∀k∈b.K,¬(k.t=t∧k.r=r)→k∈K') (hex:m≠0→∃k∈K',k.t=t∧k.r=r) (am:m≠0→aZ m=true) (hn:m≠0→B'[n]? = some true)
  (hB:∀b∈R,∀k∈b.K,¬(k.t=t∧k.r=r)→∀q:Nat,k.Q=[⟨(q:Int),1,H k.t k.r,H k.t k.r,0⟩]→B[q]? = some true→B'[q]? = some true∧(m≠0→q≠n))
  (qN:(K'.map bB).Pairwise fO) (len:K'.length≤64):eT (R.set j ⟨b.rb,v',K'⟩) (gQ H t r m) c.S B':=by
 have hjl:=(List.getElem?_eq_some_iff.1 hj).1
 have hb:=List.mem_of_getElem? hj
 have key:∀(i:Nat) (x:RB),(R.set j ⟨b.rb,v',K'⟩)[i]? = some x→∀k∈x.K,bT k.t k.r c.S=(i:Int)∧((∃y∈R,k∈y.K∧¬(k.t=t∧k.r=r))∨(m≠0∧k.t=t∧k.r=r∧k.w=0∧k.Q=[⟨(n:Int),1,m,m,0⟩])):=by
  intro i x hx k hk
  by_cases e:j=i
  ·subst e
   rw[List.getElem?_set,if_pos rfl,if_pos hjl] at hx
   cases hx
   rcases hnew k hk with ⟨q1,q2⟩ | q
   ·exact ⟨L.nm j b hj k q1,.inl ⟨b,hb,q1,q2⟩⟩
   ·exact ⟨by rw[q.2.1,q.2.2.1]; exact hst,.inr q⟩
  ·rw[List.getElem?_set,if_neg e] at hx
   have hnm:=L.nm i x hx k hk
   exact ⟨hnm,.inl ⟨x,List.mem_of_getElem? hx,hk,by rintro ⟨rfl,rfl⟩; rw[hst] at hnm; omega⟩⟩
 have key':∀x∈R.set j ⟨b.rb,v',K'⟩,∀k∈x.K,(∃y∈R,k∈y.K∧¬(k.t=t∧k.r=r))∨(m≠0∧k.t=t∧k.r=r∧k.w=0∧k.Q=[⟨(n:Int),1,m,m,0⟩]):=by
  intro x hx k hk
  obtain ⟨i,hi⟩:=List.getElem?_of_mem hx
  exact (key i x hi k hk).2
 refine ⟨fun x hx k hk=>?_,fun t' r' hH=>?_,fun i x hi k hk=>(key i x hi k hk).1,fun x hx=>?_,fun x hx=>?_,fun x hx k hk x' hx' k' hk' p hp p' hp' hid=>?_⟩
 ·rcases key' x hx k hk with ⟨y,hy,YJ,hne⟩ | ⟨m0,e1,e2,e3,e4⟩
  ·obtain ⟨q1,q2,n',q3,q4⟩:=L.one y hy k YJ
   rw[lS H hne]
   exact ⟨q1,q2,n',q3,(hB y hy k YJ hne n' q3 q4).1⟩
  ·rw[e1,e2,qn]
   exact ⟨e3,am m0,n,e4,hn m0⟩
 ·by_cases hnm:t'=t∧r'=r
  ·obtain ⟨rfl,rfl⟩:=hnm
   rw[qn] at hH
   obtain ⟨k,hk,e⟩:=hex hH
   exact ⟨_,List.mem_of_getElem? (i:=j) (by rw[List.getElem?_set,if_pos rfl,if_pos hjl]),k,hk,e⟩
  ·rw[lS H hnm] at hH
   obtain ⟨y,hy,k,hk,rfl,rfl⟩:=L.all t' r' hH
   obtain ⟨i,hi⟩:=List.getElem?_of_mem hy
   by_cases e:j=i
   ·subst e
    rw[hj] at hi; cases hi
    exact ⟨_,List.mem_of_getElem? (i:=j) (by rw[List.getElem?_set,if_pos rfl,if_pos hjl]),k,hold k hk hnm,rfl,rfl⟩
   ·exact ⟨y,List.mem_of_getElem? (i:=i) (by rw[List.getElem?_set,if_neg e]; exact hi),k,hk,rfl,rfl⟩
 ·rcases List.mem_or_eq_of_mem_set hx with hx | rfl
  ·exact L.qN x hx
  ·exact qN
 ·rcases List.mem_or_eq_of_mem_set hx with hx | rfl
  ·exact L.len x hx
  ·exact len
 ·rcases key' x hx k hk with ⟨y,hy,YJ,hne⟩ | ⟨m0,e1,e2,e3,e4⟩<;>rcases key' x' hx' k' hk' with ⟨y',hy',XY,ahO⟩ | ⟨m0',e1',e2',e3',e4'⟩
  ·exact L.uq y hy k YJ y' hy' k' XY p hp p' hp' hid
  ·exfalso
   obtain ⟨_,_,q,q3,q4⟩:=L.one y hy k YJ
   have:=(hB y hy k YJ hne q q3 q4).2 m0'
   rw[q3,List.mem_singleton] at hp
   rw[e4',List.mem_singleton] at hp'
   subst hp hp'
   exact this (Int.ofNat.inj hid)
  ·exfalso
   obtain ⟨_,_,q,q3,q4⟩:=L.one y' hy' k' XY
   have:=(hB y' hy' k' XY ahO q q3 q4).2 m0
   rw[q3,List.mem_singleton] at hp'
   rw[e4,List.mem_singleton] at hp
   subst hp hp'
   exact this (Int.ofNat.inj hid.symm)
  ·exact ⟨e1.trans e1'.symm,e2.trans e2'.symm⟩
end
theorem T7 {K:List HE} (hs:(K.map bB).Pairwise fO) {i l:Nat} {k y:HE} (hi:K[i]? = some k) (hl:K[l]? = some y) (hne:l≠i):¬(y.t=k.t∧y.r=k.r):=by
 have G:=cZ.1 hs
 have h1:(K.map bB)[i]? = some (bB k):=by rw[List.getElem?_map,hi]; rfl
 have h2:(K.map bB)[l]? = some (bB y):=by rw[List.getElem?_map,hl]; rfl
 rintro ⟨e1,e2⟩
 have e:bB y=bB k:=Prod.ext e1 e2
 rcases Nat.lt_or_gt_of_ne hne with h | h
 ·have:=G l i _ _ h h2 h1
  rw[e] at this
  unfold fO at this; omega
 ·have:=G i l _ _ h h1 h2
  rw[e] at this
  unfold fO at this; omega
section
variable {a0 h:Heap} {rt rp rl:Nat} {c:dF} {vr:Value} {aF:Nat} {R:List RB} {B:List Bool} {H:Int→Int→Int}
theorem eT.found (L:eT R H c.S B) {b b':RB} (hb:b∈R) (hb':b'∈R) {k k':HE} (hk:k∈b.K) (hk':k'∈b'.K) {n:Nat} {x m:Int} (hQ:k.Q=[⟨(n:Int),x,m,m,0⟩]) {p:R5} (hf:bJ k'.Q (n:Int)=some p):k'.t=k.t∧k'.r=k.r∧k'.Q=[⟨(n:Int),1,H k.t k.r,H k.t k.r,0⟩]∧p=⟨(n:Int),1,H k.t k.r,H k.t k.r,0⟩:=by
 obtain ⟨hp,hid⟩:=gK hf
 obtain ⟨e1,e2⟩:=L.uq b' hb' k' hk' b hb k hk p hp _ (by rw[hQ]; exact .head _) hid
 obtain ⟨_,_,n',Sq,_⟩:=L.one b' hb' k' hk'
 rw[Sq,List.mem_singleton] at hp
 subst hp
 have:(n':Int)=(n:Int):=hid
 rw[e1,e2,this] at Sq
 refine ⟨e1,e2,Sq,?_⟩
 rw[e1,e2,this]
theorem Pu (t':fI a0 h rt rp rl c vr aF R B) (L:eT R H c.S B) (hlo:h.lo≤h.nx) (la:a0.nx≤h.nx) {b:RB} (hb:b∈R) {k:HE} (hk:k∈b.K) {t r m:Int} {n:Nat} (ht:k.t=t) (hr:k.r=r) (hQ:k.Q=[⟨(n:Int),1,H t r,H t r,0⟩]) (hH:H t r≠0) (kH:kn (H t r)=true) (am:aZ m=true) (κ:KQ)
  (hk':∀h' R',fI a0 h' rt rp rl c vr aF R' B→eT R' (gQ H t r (cU (H t r) m)) c.S B→(Lm R B→Lm R' B)→PS rl h h'→κ (.tuple ⟨[.bool true,.int .i64 0]⟩) h') :
  CallW Tryz.prog 20 [.pointer (some ⟨rt,0,none⟩),.int .i64 (n:Int),.int .i64 m] h κ:=by
 subst ht hr
 obtain ⟨m0,km⟩:=(cu m).1 am
 obtain ⟨n0,kns,_,_⟩:=Co kH km m0
 refine Fl t' L.good hlo la (fun b hb k hk=>by rw[(L.one b hb k hk).1]; omega) _ m _ ?_ ?_ ?_ ?_
 ·intro h' hf; rw[am] at hf; cases hf
 ·intro h' _ hn _
  have:=hn b hb k hk
  rw[hQ,iN,if_pos rfl] at this
  cases this
 ·intro h' j' b' k' p _ hj' hk2 hf hp _
  obtain ⟨_,_,_,rfl⟩:=L.found hb (List.mem_of_getElem? hj') hk hk2 hQ hf
  simp at hp
 ·intro j' b' q' h' i k' p jj _ hj' hki hkj hf _ rb rp' fr
  have hb':=List.mem_of_getElem? hj'
  have hk2:=List.mem_of_getElem? hki
  obtain ⟨e1,e2,Sq,rfl⟩:=L.found hb hb' hk hk2 hQ hf
  have hw:=(L.one b' hb' k' hk2).1
  have j0:jj=0:=by
   have:=(List.getElem?_eq_some_iff.1 hkj).1
   rw[Sq] at this
   simpa using this
  subst j0
  rw[Sq,sP] at rb
  rw[Sq,sP]
  refine hk' h' _ (t'.change hj' rb rp' fr (mh.refl _ _)) (L.set hj' (n:=n) (by rw[←e1,←e2]; exact L.nm j' b' hj' k' hk2) (fun y hy=>?_) (fun y hy hne=>?_) (fun _=>⟨_,List.mem_of_getElem? (i:=i) (dH hki),e1,e2⟩) (fun _=>(cu _).2 ⟨n0,kns⟩) (fun _=>?_) (fun b2 hb2 k2 XZ hne q hq hB=>⟨hB,fun _ e=>?_⟩) ?_ ?_) (fun hc=>?_) ?_
  ·obtain ⟨l,hl⟩:=List.getElem?_of_mem hy
   by_cases e:i=l
   ·subst e
    rw[dH hki] at hl
    cases hl
    exact .inr ⟨n0,e1,e2,hw,rfl⟩
   ·rw[List.getElem?_set,if_neg e] at hl
    have:=T7 (L.qN b' hb') hki hl (fun x=>e x.symm)
    rw[e1,e2] at this
    exact .inl ⟨List.mem_of_getElem? hl,this⟩
  ·obtain ⟨l,hl⟩:=List.getElem?_of_mem hy
   have:i≠l:=by rintro rfl; rw[hki] at hl; cases hl; exact hne ⟨e1,e2⟩
   exact List.mem_of_getElem? (i:=l) (by rw[List.getElem?_set,if_neg this]; exact hl)
  ·obtain ⟨_,_,n',hq,hB⟩:=L.one b hb k hk
   rw[hQ] at hq
   have:(n:Int)=(n':Int):=by injection hq with q1 _; injection q1
   have:=Int.ofNat.inj this
   rw[this]; exact hB
  ·subst e
   obtain ⟨z1,z2⟩:=L.uq b2 hb2 k2 XZ b hb k hk ⟨(q:Int),1,H k2.t k2.r,H k2.t k2.r,0⟩ (by rw[hq]; exact .head _) ⟨(q:Int),1,H k.t k.r,H k.t k.r,0⟩ (by rw[hQ]; exact .head _) rfl
   exact hne ⟨z1,z2⟩
  ·rw[List.map_set]
   show List.Pairwise fO ((b'.K.map bB).set i (bB k'))
   have:(b'.K.map bB).set i (bB k')=b'.K.map bB:=by
    refine List.ext_getElem? fun l=>?_
    rw[List.getElem?_set]
    split
    ·rename_i e; subst e
     rw[if_pos (by rw[List.length_map]; exact (List.getElem?_eq_some_iff.1 hki).1),List.getElem?_map,hki]; rfl
    ·rfl
   rw[this]; exact L.qN b' hb'
  ·rw[List.length_set]; exact L.len b' hb'
  ·have h1:=Cq hj' (⟨b'.rb,b'.v,b'.K.set i ⟨k'.t,k'.r,0,0,q',k'.w,[⟨(n:Int),1,cU (H k.t k.r) m,cU (H k.t k.r) m,0⟩]⟩⟩:RB)
   simp only[List.length_set] at h1
   unfold Lm at hc ⊢
   rw[hc]
   exact (Nat.add_right_cancel h1).symm
  ·exact PS.of (t'.bk b' hb') t'.bX fr
theorem Hj (t':fI a0 h rt rp rl c vr aF R B) (L:eT R H c.S B) (hlo:h.lo≤h.nx) (la:a0.nx≤h.nx) {b:RB} (hb:b∈R) {k:HE} (hk:k∈b.K) {t r:Int} {n:Nat} (ht:k.t=t) (hr:k.r=r) (hQ:k.Q=[⟨(n:Int),1,H t r,H t r,0⟩]) (κ:KQ)
  (hk':∀h' R' v,fI a0 h' rt rp rl c vr aF R' (B.set n false)→eT R' (gQ H t r 0) c.S (B.set n false)→(Lm R B→Lm R' (B.set n false))→PS rl h h'→κ (.tuple ⟨[v,.int .i64 0]⟩) h') :
  CallW Tryz.prog 19 [.pointer (some ⟨rt,0,none⟩),.int .i64 (n:Int)] h κ:=by
 subst ht hr
 refine Lb t' L.good hlo la L.ids _ _ ?_ ?_
 ·intro h' hn _
  have:=hn b hb k hk
  rw[hQ,iN,if_pos rfl] at this
  cases this
 ·intro j' b' vi v' K' h' i k' p n' hj' hki hf hid hBn en rb rp' fr nb _
  have hn':n=n':=Int.ofNat.inj hid
  subst hn'
  have hb':=List.mem_of_getElem? hj'
  have hk2:=List.mem_of_getElem? hki
  obtain ⟨e1,e2,Sq,rfl⟩:=L.found hb hb' hk hk2 hQ hf
  have XR:(k'.Q.filter fun r=>!bD (n:Int) r)=[]:=by rw[Sq]; simp[bD]
  rw[XR] at en
  have hK:K'=b'.K.take i++b'.K.drop (i+1):=by
   rcases en with ⟨_,e⟩ | ⟨e,_⟩
   ·exact e
   ·exact absurd rfl e
  have hil:=(List.getElem?_eq_some_iff.1 hki).1
  have sub:K'.Sublist b'.K:=by
   rw[hK]
   conv=>rhs; rw[←List.take_append_drop i b'.K]
   refine List.Sublist.append_left ?_ _
   rw[show b'.K.drop (i+1)=(b'.K.drop i).drop 1 by rw[List.drop_drop]]
   exact List.drop_sublist _ _
  have idx:∀y,y∈K'↔∃l,l≠i∧b'.K[l]? = some y:=by
   intro y
   rw[hK,List.mem_append]
   constructor
   ·rintro (h1 | h1)
    ·obtain ⟨l,hl⟩:=List.getElem?_of_mem h1
     have:=(List.getElem?_eq_some_iff.1 hl).1
     rw[List.length_take] at this
     rw[List.getElem?_take,if_pos (by omega)] at hl
     exact ⟨l,by omega,hl⟩
    ·obtain ⟨l,hl⟩:=List.getElem?_of_mem h1
     rw[List.getElem?_drop] at hl
     exact ⟨i+1+l,by omega,hl⟩
   ·rintro ⟨l,h1,h2⟩
    by_cases hli:l<i
    ·exact .inl (List.mem_of_getElem? (i:=l) (by rw[List.getElem?_take,if_pos hli]; exact h2))
    ·exact .inr (List.mem_of_getElem? (i:=l-(i+1)) (by rw[List.getElem?_drop,show i+1+(l-(i+1))=l by omega]; exact h2))
  refine hk' h' _ vi (t'.change hj' rb rp' fr nb) (L.set hj' (n:=n) (by rw[←e1,←e2]; exact L.nm j' b' hj' k' hk2) (fun y hy=>?_) (fun y hy hne=>?_) (fun e=>absurd rfl e) (fun e=>absurd rfl e) (fun e=>absurd rfl e) (fun b2 hb2 k2 XZ hne q hq hB=>⟨?_,fun e=>absurd rfl e⟩) ((L.qN b' hb').sublist (sub.map _)) (Nat.le_trans sub.length_le (L.len b' hb'))) (fun hc=>?_) ?_
  ·obtain ⟨l,h1,h2⟩:=(idx y).1 hy
   have:=T7 (L.qN b' hb') hki h2 h1
   rw[e1,e2] at this
   exact .inl ⟨List.mem_of_getElem? h2,this⟩
  ·obtain ⟨l,hl⟩:=List.getElem?_of_mem hy
   exact (idx y).2 ⟨l,by rintro rfl; rw[hki] at hl; cases hl; exact hne ⟨e1,e2⟩,hl⟩
  ·have hqn:q≠n:=by
    rintro rfl
    obtain ⟨z1,z2⟩:=L.uq b2 hb2 k2 XZ b hb k hk ⟨(q:Int),1,H k2.t k2.r,H k2.t k2.r,0⟩ (by rw[hq]; exact .head _) ⟨(q:Int),1,H k.t k.r,H k.t k.r,0⟩ (by rw[hQ]; exact .head _) rfl
    exact hne ⟨z1,z2⟩
   rw[List.getElem?_set,if_neg (fun e=>hqn e.symm)]
   exact hB
  ·have h1:=Cq hj' (⟨b'.rb,v',K'⟩:RB)
   have h2:=(Al hBn).length_eq
   rw[List.length_append,List.length_singleton] at h2
   have h3:K'.length+1=b'.K.length:=by rw[hK,List.length_append,List.length_take,List.length_drop]; omega
   unfold Lm at hc ⊢
   simp only at h1
   omega
  ·exact PS.of (t'.bk b' hb') t'.bX fr
theorem Pv (t':fI a0 h rt rp rl c vr aF R B) (L:eT R H c.S B) (hlo:h.lo≤h.nx) (la:a0.nx≤h.nx) (hd:aF≤64) {t r m:Int} (hs:0≤bT t r c.S) (hH:H t r=0) (am:aZ m=true) (κ:KQ)
  (GK:∀h' (j:Nat) (b:RB),R[j]? = some b→bT t r c.S=(j:Int)→(B.length≤(di B).length∨aF≤b.K.length)→Le h h'→κ (.tuple ⟨[.int .i64 0,.bool false,.int .i64 8]⟩) h')
  (hk:∀h' R' (j:Nat) (b:RB) (n:Nat),R[j]? = some b→bT t r c.S=(j:Int)→b.K.length<aF→B[n]? = some false→fI a0 h' rt rp rl c vr aF R' (B.set n true)→eT R' (gQ H t r m) c.S (B.set n true)→(Lm R B→Lm R' (B.set n true))→PS rl h h'→κ (.tuple ⟨[.int .i64 (n:Int),.bool true,.int .i64 0]⟩) h') :
  CallW Tryz.prog 21 [.pointer (some ⟨rt,0,none⟩),dn t r,.int .i64 1,.int .i64 m] h κ:=by
 have hno:=L.no hH
 obtain ⟨m0,km⟩:=(cu m).1 am
 refine RT t' L.good hlo la (fun b hb k hk=>by rw[(L.one b hb k hk).1]; omega) L.ids t r 1 m _ ?_ ?_ ?_ ?_ ?_ ?_
 ·intro h' hneg; omega
 ·intro h' hf; rw[am] at hf; cases hf
 ·intro h' j b k p hj _ _ hk2 e1 e2; exact absurd ⟨e1,e2⟩ (hno b (List.mem_of_getElem? hj) k hk2)
 ·intro h' j b hj hst _ _ hor le
  exact GK h' j b hj hst (hor.imp id fun x=>x.2) le
 ·intro j b n i k q' v' h' hj _ _ _ _ _ hi e1 e2
  exact absurd ⟨e1.symm,e2.symm⟩ (hno b (List.mem_of_getElem? hj) k (List.mem_of_getElem? hi))
 ·intro j b n i q' v' h' hj hst _ hnm hlen hB _ lt1 lt2 rb rp' fr nb
  have hb:=List.mem_of_getElem? hj
  rw[sO] at rb
  rw[sO]
  have hnl:n<B.length:=(List.getElem?_eq_some_iff.1 hB).1
  have ahQ:=yS (O:=b.K) (x:=⟨t,r,0,0,q',0,[⟨(n:Int),1,m,m,0⟩]⟩) (n:=i) (L.qN b hb) (fun j e h1 h2=>lt1 j e h1 h2) (fun e h1=>lt2 i e (Nat.le_refl _) h1)
  refine hk h' _ j b n hj hst hlen hB (t'.change hj rb rp' fr nb) (L.set hj (n:=n) hst (fun y hy=>?_) (fun y hy hne=>?_) (fun _=>⟨⟨t,r,0,0,q',0,[⟨(n:Int),1,m,m,0⟩]⟩,List.mem_append_right _ (.head _),rfl,rfl⟩) (fun _=>am) (fun _=>?_) (fun b2 hb2 k2 hk2 hne q hq hBq=>⟨?_,fun _ e=>?_⟩) ahQ ?_) (fun hc=>?_) ?_
  ·rcases List.mem_append.1 hy with hy | hy
   ·have hy:=List.mem_of_mem_take hy
    exact .inl ⟨hy,fun e=>hnm y hy ⟨e.1.symm,e.2.symm⟩⟩
   ·rcases List.mem_cons.1 hy with rfl | hy
    ·exact .inr ⟨m0,rfl,rfl,rfl,rfl⟩
    ·have hy:=List.mem_of_mem_drop hy
     exact .inl ⟨hy,fun e=>hnm y hy ⟨e.1.symm,e.2.symm⟩⟩
  ·rw[←List.take_append_drop i b.K] at hy
   rcases List.mem_append.1 hy with hy | hy
   ·exact List.mem_append_left _ hy
   ·exact List.mem_append_right _ (.tail _ hy)
  ·rw[List.getElem?_set,if_pos rfl,if_pos hnl]
  ·by_cases e:n=q
   ·subst e; rw[List.getElem?_set,if_pos rfl,if_pos hnl]
   ·rw[List.getElem?_set,if_neg e]; exact hBq
  ·subst e; rw[hB] at hBq; cases hBq
  ·rw[List.length_append,List.length_cons,List.length_take,List.length_drop]
   omega
  ·have h1:=Cq hj (⟨b.rb,v',b.K.take i++⟨t,r,0,0,q',0,[⟨(n:Int),1,m,m,0⟩]⟩::b.K.drop i⟩:RB)
   have h2:=(qe hB).length_eq
   rw[List.length_append,List.length_singleton] at h2
   have h3:(b.K.take i++(⟨t,r,0,0,q',0,[⟨(n:Int),1,m,m,0⟩]⟩:HE)::b.K.drop i).length=b.K.length+1:=by rw[List.length_append,List.length_cons,List.length_take,List.length_drop]; omega
   unfold Lm at hc ⊢
   simp only at h1
   show (di (B.set n true)).length=((R.set j _).map fun r=>r.K.length).sum
   rw[h3] at h1
   refine Nat.add_right_cancel (m:=b.K.length) ?_
   refine Eq.trans ?_ h1.symm
   omega
  ·exact PS.of (t'.bk b hb) t'.bX fr
end
theorem sS {L:List (Int × Int)} (h:L.Pairwise fO):L.Nodup:=h.imp fun {a b} hab e=>by subst e; unfold fO at hab; omega
theorem Hl {Ts:List TB} {b:TB} (hb:b∈Ts) (h:(Ts.flatMap fun b=>b.M.map bB).Nodup):(b.M.map bB).Nodup:=by
 obtain ⟨i,hi⟩:=List.getElem?_of_mem hb
 obtain ⟨hl,rfl⟩:=List.getElem?_eq_some_iff.1 hi
 refine h.sublist ?_
 have:=List.sublist_flatten_of_mem (L:=Ts.map fun b=>b.M.map bB) (l:=Ts[i].M.map bB) (List.mem_map.2 ⟨_,List.getElem_mem hl,rfl⟩)
 rw[List.flatMap]
 exact this
theorem Fy {α:Type} (L:List α):(L.map fun _=>1).sum=L.length:=by
 induction L with
 | nil=>rfl
 | cons x L ih=>rw[List.map_cons,List.sum_cons,ih,List.length_cons]; omega
section
variable {h:Heap} {a:TA} {N:Nat} {d:TD} {c:dF} {R:List RB} {B:List Bool} {H X:Int→Int→Int}
theorem Ln (s:yH h a N d) (L:Lone d.Ts H X) (RL:eT R H c.S B) (hS:a.c.S=c.S) {j:Nat} {b:TB} {r:RB} (hb:d.Ts[j]? = some b) (hr:R[j]? = some r):(b.M.map bB).Perm (r.K.map bB):=by
 have ya:=List.mem_of_getElem? hb
 have uZ:=List.mem_of_getElem? hr
 refine (List.perm_ext_iff_of_nodup (Hl ya s.nodup) (sS (RL.qN r uZ))).2 fun y=>?_
 rw[List.mem_map,List.mem_map]
 constructor
 ·rintro ⟨e,he,rfl⟩
  obtain ⟨_,_,hn⟩:=L.one b ya e he
  obtain ⟨j',b',k,n,hj',hst,hk,e1,e2,_⟩:=RL.at hn
  have:=s.nm j b hb e he
  rw[hS,hst] at this
  obtain rfl:j'=j:=by omega
  rw[hr] at hj'; cases hj'
  exact ⟨k,hk,Prod.ext e1 e2⟩
 ·rintro ⟨k,hk,rfl⟩
  obtain ⟨_,am,_⟩:=RL.one r uZ k hk
  obtain ⟨j',b',e,id,hj',hst,he,e1,e2,_⟩:=L.at s ((cu _).1 am).1
  have:=RL.nm j r hr k hk
  rw[←hS,hst] at this
  obtain rfl:j'=j:=by omega
  rw[hb] at hj'; cases hj'
  exact ⟨e,he,Prod.ext e1 e2⟩
theorem Fz (s:yH h a N d) (L:Lone d.Ts H X) (RL:eT R H c.S B) (hS:a.c.S=c.S) {j:Nat} {b:TB} {r:RB} (hb:d.Ts[j]? = some b) (hr:R[j]? = some r):b.M.length=r.K.length:=by
 have:=(Ln s L RL hS hb hr).length_eq
 simpa using this
theorem Lo (s:yH h a N d) (L:Lone d.Ts H X):(di d.B).length=(d.Ts.map fun b=>b.M.length).sum:=by
 have:=s.ids.length_eq
 rw[←this,List.length_flatMap]
 congr 1
 refine List.map_congr_left fun b hb=>?_
 unfold fN
 rw[List.length_flatMap]
 have:b.M.map (fun e=>(e.Q.map (·.id)).length)=b.M.map fun _=>1:=List.map_congr_left fun e he=>by
  obtain ⟨id,hQ,_⟩:=L.one b hb e he
  rw[hQ]; rfl
 rw[this,Fy]
end
def T8 (x y:qw):Bool:=decide (¬((oc y).1<(oc x).1∨((oc y).1=(oc x).1∧(oc y).2<(oc x).2)))
theorem FA {L:List qw} (hn:(L.map oc).Nodup):∃S:List qw,S.Perm L∧(S.map oc).Pairwise fO:=by
 have hp:=List.mergeSort_perm L T8
 refine ⟨L.mergeSort T8,hp,?_⟩
 have hs:(L.mergeSort T8).Pairwise fun a b=>T8 a b=true:=List.pairwise_mergeSort (fun a b c h1 h2=>by
  unfold T8 at *; simp only[decide_eq_true_eq] at *; omega) (fun a b=>by
  unfold T8; simp only[Bool.or_eq_true,decide_eq_true_eq]; omega) L
 have hd:((L.mergeSort T8).map oc).Nodup:=(hp.map oc).nodup_iff.2 hn
 rw[List.Nodup,List.pairwise_map] at hd
 rw[List.pairwise_map]
 refine (hs.and hd).imp fun {a b} h=>?_
 obtain ⟨h1,h2⟩:=h
 unfold T8 at h1
 simp only[decide_eq_true_eq] at h1
 have h3:¬((oc a).1=(oc b).1∧(oc a).2=(oc b).2):=fun e=>h2 (Prod.ext e.1 e.2)
 unfold fO at *
 omega
end Go.Proofs
