/-
  PROVED HERE: a part of the proof (L10, L11, L12, L13, L14).
-/
import Derived.Test.YtijmemedhkgplaaGreatDoorLB
set_option linter.unusedVariables false
set_option linter.unusedSimpArgs false
set_option maxRecDepth 100000
namespace Go.Proofs
open Go.Vai Go.Clashes
def jB (h:Heap) (v v':Value):Prop:=∀c,c<h.nx→qR v' c→qR v c
theorem jB.refl (h:Heap) (v:Value):jB h v v:=fun _ _ x=>x
theorem jB.up {h h1:Heap} {v v':Value} (n:jB h1 v v') (hn:h.nx≤h1.nx):jB h v v':=fun c hc x=>n c (by omega) x
theorem jB.own {α:Type} {enc:α→List Value} {a h h':Heap} {e:TypeId} {v v':Value} {L:List α} (ho:cU enc a e h' v' L) (hn:h.nx≤a.nx):jB h v v':=fun c hc x=>absurd (ho.blk x).1 (by omega)
def SB (rb:Nat) (v:Value) (c:Nat):Prop:=c=rb∨qR v c
section
variable {a h:Heap} {rb rp rl most:Nat} {v:Value} {K:List HE}
theorem iz.setAt (R:iz a h rb rp most v K) {i:Nat} {k:HE} (hk:K[i]? = some k) {t r w:Int} {q:Value} {Q:List R5} (hq:iK a h q Q):∃bo,v=.slice (some ⟨bo,0,none⟩) K.length aN∧h.bl.get bo=some (af (K.flatMap eX) 51 true)∧bo<h.nx∧h.lo≤bo∧a.nx≤bo∧
  over (K.flatMap eX) (i*4) [.int .i64 t,.int .i64 r,q,.int .i64 w]=(K.set i ⟨t,r,0,0,q,w,Q⟩).flatMap eX∧
  ((K.flatMap eX).length=K.length*4∧i<K.length)∧
  iz a ⟨h.nx,h.bl.bf bo (af ((K.set i ⟨t,r,0,0,q,w,Q⟩).flatMap eX) 51 true),h.lo⟩ rb rp most v (K.set i ⟨t,r,0,0,q,w,Q⟩)∧
  gH (SB rb v) h ⟨h.nx,h.bl.bf bo (af ((K.set i ⟨t,r,0,0,q,w,Q⟩).flatMap eX) 51 true),h.lo⟩:=by
 have hil:=(List.getElem?_eq_some_iff.1 hk).1
 have c1:=R.cell
 rcases R.own with ⟨rfl,_⟩ | ⟨bo,rfl,k1,k2,k3,k4⟩
 ·simp at hil
 have hne:bo≠rb:=by rintro rfl; rw[k4] at c1; exact aO c1.symm
 have wN:PI q=q:=nV hq.sl
 have rL:=ck (enc:=eX) (p':=⟨t,r,0,0,q,w,Q⟩) (ws:=[.int .i64 t,.int .i64 r,q,.int .i64 w]) (j:=0) b6 hk (by show 0+4≤4; omega) (by
  rw[oU (eX k) [.int .i64 t,.int .i64 r,q,.int .i64 w] rfl]
  show _=[.int .i64 t,.int .i64 r,PI q,.int .i64 w]
  rw[wN])
 rw[Nat.add_zero] at rL
 refine ⟨bo,rfl,k4,k2,k3,k1,rL,⟨aT b6 K,hil⟩,⟨R.lt,R.lo,(T.aj _ _ hne).trans R.cell,.inr ⟨bo,by rw[List.length_set],k1,k2,k3,T.aa _ _ _⟩,fun h=>?_,fun k' hk'=>?_⟩,gH.one (.inr ⟨_,rfl⟩) _⟩
 ·have:=congrArg List.length h
  rw[List.length_set] at this
  simp at this; subst this; simp at hil
 ·have nty:∀vs,h.bl.get bo≠some (af vs 54 true):=fun vs=>by rw[k4]; exact aL (by decide)
  rcases mem_set hk' with rfl | hk'
  ·exact cU.put hq (nty _) _
  ·exact cU.put (R.qv k' hk') (nty _) _
theorem iz.abM (R:iz a h rb rp most v K) {v':Value} {K':List HE} (ho:rG a h v' K') (em:vw K' v') (hq:∀k∈K',iK a h k.q k.Q):iz a ⟨h.nx,h.bl.bf rb (af [.int .i64 (most:Int),.pointer (some ⟨rp,0,none⟩),v'] 165 false),h.lo⟩ rb rp most v' K':=by
 have c1:=R.cell
 refine ⟨R.lt,R.lo,T.aa _ _ _,cU.put ho (by rw[c1]; exact aO) _,em,fun k hk=>cU.put (hq k hk) (by rw[c1]; exact aO) _⟩
theorem bT.WA {B:List Bool} (p:bT h rp rl B) (R:iz a h rb rp most v K) {h':Heap} (f:gH (SB rb v) h h'):bT h' rp rl B:=by
 have c1:=p.oh
 have c2:=p.iq
 have c3:=R.cell
 refine p.keep f.nx f.lo (f.get rp p.X2 ?_) (f.get rl p.PJ ?_)
 ·rintro (rfl | hb)
  ·rw[c1] at c3; exact aL (by decide) c3
  ·have:=(R.own.blk hb).2.2; rw[c1] at this; exact aO this
 ·rintro (rfl | hb)
  ·rw[c2] at c3; exact aL (by decide) c3
  ·have:=(R.own.blk hb).2.2; rw[c2] at this; exact aO this
theorem iz.frP (R:iz a h rb rp most v K) {B:List Bool} (p:bT h rp rl B) {h':Heap} (f:gH (fun c=>c=rl) h h'):iz a h' rb rp most v K:=by
 have c2:=p.iq
 refine R.keep f.nx f.lo fun c vs ty op hc hg ht=>f.get c hc ?_
 rintro rfl
 rw[hg] at c2
 rcases ht with rfl | ⟨rfl,rfl⟩ | rfl<;>exact aL (by decide) c2
theorem ES {v:Value}:∀c,SB rb v c→SK rb rl v c:=by
 rintro c (h | h)
 ·exact .inl h
 ·exact .inr (.inr h)
def sR (K K':List HE) (i:Nat) (k:HE) (w:Int) (Q2:List R5):Prop:=(Q2=[]∧K'=K.take i++K.drop (i+1))∨(Q2≠[]∧∃k':HE,k'.t=k.t∧k'.r=k.r∧k'.w=w∧k'.Q=Q2∧K'=K.set i k')
theorem OG {K:List HE} (i:Nat) (k':HE):(K.set i k').take i=K.take i∧(K.set i k').drop (i+1)=K.drop (i+1):=
 ⟨List.take_set_of_le (Nat.le_refl _),List.drop_set_of_lt (Nat.lt_succ_self _)⟩
theorem Gq (R:iz a h rb rp most v K) (hlo:h.lo≤h.nx) (la:a.nx≤h.nx) (hl:K.length≤1000) {i:Nat} {k:HE} (hk:K[i]? = some k) {q:Value} {w:Int} {Q1:List R5} (hq:Sl aW h q Q1) (hQl:Q1.length≤1000) (vq:VQ Q1 w) (κ:KQ)
  (hκ:∀vi v' K' h',sR K K' i k w (bP (cF Q1+1) Q1).1→iz a h' rb rp most v' K'→gH (SB rb v) h h'→jB h v v'→gV h h' vi (bP (cF Q1+1) Q1).2→κ vi h') :
  CallW Tryz.prog 175 [.pointer (some ⟨rb,0,none⟩),.int .i64 (i:Int),cG k.t k.r q w] h κ:=by
 have tc:=hq
 obtain ⟨qx,qc,rfl,_⟩:=tc
 have hrb:=R.lt
 refine aq mixed ?_
 rw[VO]
 simp(disch:=first|omega|simp only[Wd]<;>omega|with_unfolding_all rfl)only[Wz,cG]
 obtain ⟨hA,az⟩:∃hA:Heap,hA=⟨h.nx+1,(h.bl.bf (h.nx) (af [.int .i64 k.t,.int .i64 k.r,.slice qx Q1.length qc,.int .i64 w] 51 false)),h.lo⟩:=⟨_,rfl⟩
 have aH:Le h hA:=by subst az; exact ((Le.refl h).new _)
 have g1:hA.bl.get (h.nx)=some (af [.int .i64 k.t,.int .i64 k.r,.slice qx Q1.length qc,.int .i64 w] 51 false):=by subst az; exact T.aa _ _ _
 have dF:hA.nx=h.nx+1:=by subst az; rfl
 have dG:hA.lo=h.lo:=by subst az; rfl
 rw[←az]
 clear az
 refine Ov k.t k.r _ w Q1 hA _ (hq.le aH) (by omega) (by omega) vq ?_
 intro q2 vi h2 jv agE aZ
 have iU:=aZ.nx
 have iV:=aZ.lo
 have g1:=(aZ.get _ (by omega)).trans g1
 obtain ⟨vq2,hkey,hst,hgr⟩:=vK (cF Q1+1) vq
 generalize hQ2:(bP (cF Q1+1) Q1).1=Q2 at *
 generalize hI2:(bP (cF Q1+1) Q1).2=I2 at *
 obtain ⟨dn,dw,rfl,_⟩:=jv.sl
 have R2:=(R.le aH).le aZ
 have c2:=R2.cell
 have n2:=aZ.nx
 have lan:=la
 obtain ⟨hB,eB⟩:∃hB:Heap,hB=⟨h2.nx,h2.bl.bf h.nx (af [.int .i64 k.t,.int .i64 k.r,.slice dn Q2.length dw,.int .i64 w] 51 false),h2.lo⟩:=⟨_,rfl⟩
 have NW:Le h hB:=by rw[eB]; exact (aH.trans aZ).set (b:=h.nx) (by omega) _
 have nB:hB.nx=h2.nx:=by rw[eB]
 have lB:hB.lo=h2.lo:=by rw[eB]
 have RB:=R.le NW
 have yX:iK h hB (.slice dn Q2.length dw) Q2:=by rw[eB]; exact cU.base (cU.put jv (by rw[g1]; exact aO) _) (by omega)
 have agF:gV h hB vi I2:=by rw[eB]; exact cU.base (cU.put agE (by rw[g1]; exact aO) _) (by omega)
 have gB:hB.bl.get h.nx=some (af [.int .i64 k.t,.int .i64 k.r,.slice dn Q2.length dw,.int .i64 w] 51 false):=by rw[eB]; exact T.aa _ _ _
 have cB:=RB.cell
 obtain ⟨bo,ev,k4,k2,k3,k1,rL,⟨hfl,hil⟩,RS,fS⟩:=RB.setAt hk (t:=k.t) (r:=k.r) (w:=w) (q:=.slice dn Q2.length dw) (Q:=Q2) (cU.base yX (by omega))
 subst ev
 simp(disch:=first|omega|simp only[Wd]<;>omega|with_unfolding_all rfl)only[Wz,cG,g1]
 rw[←eB]
 simp(disch:=first|omega|simp only[Wd]<;>omega|with_unfolding_all rfl)only[Wz,c2,gB,bA,k4,rL]
 obtain ⟨hC,eC⟩:∃hC:Heap,hC=⟨hB.nx,hB.bl.bf bo (af ((K.set i ⟨k.t,k.r,0,0,.slice dn Q2.length dw,w,Q2⟩).flatMap eX) 51 true),hB.lo⟩:=⟨_,rfl⟩
 have hne:bo≠h.nx:=by rintro rfl; rw[gB] at k4; exact aO k4
 have gC:hC.bl.get h.nx=some (af [.int .i64 k.t,.int .i64 k.r,.slice dn Q2.length dw,.int .i64 w] 51 false):=by rw[eC]; exact (T.aj _ _ hne).trans gB
 have nC:hC.nx=hB.nx:=by rw[eC]
 have lC:hC.lo=hB.lo:=by rw[eC]
 have abN:gV h hC vi I2:=by rw[eC]; exact cU.put agF (by rw[k4]; exact aL (by decide)) _
 rw[←eC] at RS fS ⊢
 clear eC
 have fC:gH (SB rb (.slice (some ⟨bo,0,none⟩) K.length aN)) h hC:=(gH.of_le NW).trans fS fun c _ x=>x
 refine ⟨fun l h'=>∃v' K',sR K K' i k w Q2∧iz a h' rb rp most v' K'∧gH (SB rb (.slice (some ⟨bo,0,none⟩) K.length aN)) h h'∧jB h (.slice (some ⟨bo,0,none⟩) K.length aN) v'∧gV h h' vi I2,?_,?_⟩
 rotate_left
 ·rintro l h' ⟨v',K',e1,e2,e3,e5,e4⟩
  exact hκ vi v' K' h' e1 e2 e3 e5 e4
 by_cases h0:Q2=[]
 case neg=>
  have hpos:0<Q2.length:=List.length_pos_iff.2 h0
  simp(disch:=first|omega|simp only[Wd]<;>omega|with_unfolding_all rfl)only[Wz,xS,gC,aK (show ¬(Q2.length:Int)=0 by omega)]
  exact ⟨_,_,.inr ⟨h0,⟨k.t,k.r,0,0,.slice dn Q2.length dw,w,Q2⟩,rfl,rfl,rfl,rfl,rfl⟩,RS,fC,jB.refl _ _,abN⟩
 subst h0
 have cC:=RS.cell
 have wN:=RS.own
 obtain ⟨Tt,Tu⟩:=OG (K:=K) i ⟨k.t,k.r,0,0,.slice dn ([]:List R5).length dw,w,[]⟩
 have hlen:(K.set i ⟨k.t,k.r,0,0,.slice dn ([]:List R5).length dw,w,[]⟩).length=K.length:=List.length_set
 simp(disch:=first|omega|simp only[Wd]<;>omega|with_unfolding_all rfl)only[Wz,xS,gC,D4,qs,cC]
 obtain ⟨hD,KY⟩:∃hD:Heap,hD=⟨hC.nx+1,(hC.bl.bf (hC.nx) (af [] 51 false)),hC.lo⟩:=⟨_,rfl⟩
 have OH:Le hC hD:=by subst KY; exact ((Le.refl hC).new _)
 have gD:hD.bl.get (hC.nx)=some (af [] 51 false):=by subst KY; exact T.aa _ _ _
 have alO:hD.nx=hC.nx+1:=by subst KY; rfl
 have alP:hD.lo=hC.lo:=by subst KY; rfl
 rw[←KY]
 clear KY
 have RD:=RS.le OH
 have cD:=RD.cell
 have alQ:rb<hC.nx:=by omega
 have lrb:=R.lo
 rw[qt b6 (by decide) RD.own RD.emp i (by omega)]
 have hf:=sN b6 RD.own i (by omega)
 rw[Tt] at hf
 refine fN (enc:=eX) (a:=hD) (L:=[]) (M:=K.take i) b6 gW (by decide) (by decide) (.inl ⟨rfl,.inr ⟨_,_,rfl⟩⟩) (fun _=>.inr ⟨_,_,rfl⟩) hf (Le.refl _) (by simp; omega) (by omega) _ ?_
 intro v5 h5 tV em5 iY _
 rw[List.nil_append] at tV em5
 have n5:=iY.nx
 have l5:=iY.lo
 have R5:=RD.le iY
 have c5:=R5.cell
 obtain ⟨u,hu,eu⟩:=R5.own.tail b6 (by decide) (i+1) (by omega)
 rw[Tu] at hu
 have ei:(i:Int)+1=((i+1:Nat):Int):=by omega
 simp(disch:=first|omega|simp only[Wd]<;>omega|with_unfolding_all rfl)only[Wz,c5,ei,eu]
 refine fN (enc:=eX) (a:=hD) (L:=K.take i) (M:=K.drop (i+1)) b6 gW (by decide) (by decide) tV em5 hu iY (by simp; omega) (by omega) _ ?_
 intro v6 h6 tY W0 oz _
 have n6:=oz.nx
 have l6:=oz.lo
 have R6:=RD.le oz
 have c6:=R6.cell
 obtain ⟨x6,y6,z6,rfl⟩:∃x y z,v6=.slice x y z:=by obtain ⟨x,z,e,_⟩:=tY.sl; exact ⟨_,_,_,e⟩
 simp(disch:=first|omega|simp only[Wd]<;>omega|with_unfolding_all rfl)only[Wz,c6]
 have hsub:∀k'∈K.take i++K.drop (i+1),k'∈K:=fun k' hk'=>(List.mem_append.1 hk').elim List.mem_of_mem_take List.mem_of_mem_drop
 have hqs:∀k'∈K.take i++K.drop (i+1),iK a h6 k'.q k'.Q:=by
  intro k' hk'
  have:k'∈(K.set i ⟨k.t,k.r,0,0,.slice dn ([]:List Vai.R5).length dw,w,[]⟩).take i++(K.set i ⟨k.t,k.r,0,0,.slice dn ([]:List Vai.R5).length dw,w,[]⟩).drop (i+1):=by rw[Tt,Tu]; exact hk'
  exact R6.qv k' ((List.mem_append.1 this).elim List.mem_of_mem_take List.mem_of_mem_drop)
 refine ⟨_,_,.inl ⟨rfl,rfl⟩,R6.abM (cU.base tY (by omega)) W0 hqs,?_,jB.own tY (by omega),?_⟩
 ·refine (fC.trans (gH.of_le (S:=SB rb (.slice (some ⟨bo,0,none⟩) K.length aN)) (OH.trans oz)) fun c _ x=>x).trans (gH.one (.inl rfl) _) fun c _ x=>x
 ·exact cU.put ((abN.le OH).le oz) (by rw[c6]; exact aO) _
end
section
variable {a h:Heap} {rb rp rl most:Nat} {v:Value} {K:List HE} {B:List Bool}
theorem KZ (R:iz a h rb rp most v K) (p:bT h rp rl B) (hlo:h.lo≤h.nx) (la:a.nx≤h.nx) (hl:K.length≤1000) (gd:∀k∈K,iM k) (ids:∀k∈K,∀p∈k.Q,∃n:Nat,p.id=(n:Int)∧B[n]? = some true) (d:Int) (κ:KQ)
  (qz:∀h',(∀k∈K,bq k.Q d=none)→Le h h'→κ (.tuple ⟨[.slice none 0 0,.int .i64 5]⟩) h')
  (dK:∀vi v' K' h' (i:Nat) (k:HE) (p:R5) (n:Nat),K[i]? = some k→bq k.Q d=some p→d=(n:Int)→B[n]? = some true→sR K K' i k k.w (bP (cF (k.Q.filter fun r=>!aV d r)+1) (k.Q.filter fun r=>!aV d r)).1→iz a h' rb rp most v' K'→bT h' rp rl (B.set n false)→gH (SK rb rl v) h h'→jB h v v'→
   gV h h' vi (bP (cF (k.Q.filter fun r=>!aV d r)+1) (k.Q.filter fun r=>!aV d r)).2→κ (.tuple ⟨[vi,.int .i64 0]⟩) h') :
  CallW Tryz.prog 121 [.pointer (some ⟨rb,0,none⟩),.int .i64 d] h κ:=by
 refine aq mixed ?_
 rw[Vf]
 refine An R hlo hl gd d _ ?_ ?_
 ·intro h1 hno bu
  simp(disch:=first|omega|simp only[Wd]<;>omega|with_unfolding_all rfl)only[Wz,bZ (show (-1:Int)<0 by decide)]
  exact qz h1 hno bu
 ·intro i k p0 h1 hk hf bu
  have n1:=bu.nx
  have l1:=bu.lo
  have R1:=R.le bu
  have c1:=R1.cell
  have gI:=List.mem_of_getElem? hk
  have gk:=gd k gI
  have vl:=gk.small
  obtain ⟨j,hj,Ff⟩:=pL gk.vq hf
  obtain ⟨n,en,oa⟩:=ids k gI p0 (c9 hf).1
  have I4:d=(n:Int):=by rw[←en]; exact Ff.symm
  obtain ⟨b,o,hb,dM,dg⟩:=R1.ld i hk
  have L1:=dg h1 (Le.refl _)
  simp(disch:=first|omega|simp only[Wd]<;>omega|with_unfolding_all rfl)only[Wz,bL (show (0:Int)≤(i:Int) by omega),DC,aU,c1,dM,L1]
  refine Ou k.t k.r k.q k.w d k.Q a h1 _ (R1.qv k gI) (by omega) (by omega) gk.vq.pair hj Ff ?_
  intro q2 h2 i_ aZ
  have n2:=aZ.nx
  have l2:=aZ.lo
  have wN:=i_.1
  obtain ⟨dn,dw,rfl,_⟩:=wN
  have R2:=R1.le aZ
  have c2:=R2.cell
  have hrb:=R2.lt
  simp(disch:=first|omega|simp only[Wd]<;>omega|with_unfolding_all rfl)only[Wz,cG,aU,c2]
  obtain ⟨h3,e3⟩:∃h3:Heap,h3=⟨h2.nx+1,h2.bl.bf h2.nx (af [.int .i64 k.t,.int .i64 k.r,.slice dn (k.Q.filter fun r=>!aV d r).length dw,.int .i64 k.w] 51 false),h2.lo⟩:=⟨_,rfl⟩
  have cL:Le h2 h3:=by rw[e3]; exact (Le.refl h2).new _
  have g3:h3.bl.get h2.nx=some (af [.int .i64 k.t,.int .i64 k.r,.slice dn (k.Q.filter fun r=>!aV d r).length dw,.int .i64 k.w] 51 false):=by rw[e3]; exact T.aa _ _ _
  have n3:h3.nx=h2.nx+1:=by rw[e3]
  have l3:h3.lo=h2.lo:=by rw[e3]
  rw[←e3]
  clear e3
  have iN:=(bu.trans aZ).trans cL
  have p3:=p.le iN
  have R3:=R.le iN
  rw[show (Value.int IntKind.i64 d)=.int .i64 (n:Int) by rw[I4]]
  refine Jg p3 n oa _ ?_
  intro p4
  have prl:=p.PJ
  obtain ⟨h4,e4⟩:∃h4:Heap,h4=⟨h3.nx,h3.bl.bf rl (af ((B.set n false).map Value.bool) 4 false),h3.lo⟩:=⟨_,rfl⟩
  have f4:gH (fun c=>c=rl) h3 h4:=by rw[e4]; exact gH.one (S:=fun c=>c=rl) rfl _
  have g4:h4.bl.get h2.nx=some (af [.int .i64 k.t,.int .i64 k.r,.slice dn (k.Q.filter fun r=>!aV d r).length dw,.int .i64 k.w] 51 false):=(f4.get _ (by omega) (by omega)).trans g3
  have q4:QV h4 (.slice dn (k.Q.filter fun r=>!aV d r).length dw) (k.Q.filter fun r=>!aV d r):=by rw[e4]; exact (i_.le cL).put (fun vs op=>by rw[p3.iq]; exact aL (by decide)) _
  rw[←e4] at p4 ⊢
  have n4:h4.nx=h3.nx:=by rw[e4]
  have l4:h4.lo=h3.lo:=by rw[e4]
  clear e4
  have R4:=R3.frP p3 f4
  have lf:(k.Q.filter fun r=>!aV d r).length≤k.Q.length:=List.length_filter_le _ _
  have W1:gH (SK rb rl v) h h4:=(gH.of_le iN).trans f4 fun c _ x=>.inr (.inl x)
  simp(disch:=first|omega|simp only[Wd]<;>omega|with_unfolding_all rfl)only[Wz,g4]
  refine Gq R4 (by omega) (by omega) hl hk q4.1 (by omega) (gk.vq.filter _) _ ?_
  ·intro vi v' K' h5 he R5 f5 nb5 o5
   exact dK vi v' K' h5 i k p0 n hk hf I4 oa he R5 (p4.WA R4 f5) (W1.trans f5 fun c _ x=>ES c x) (nb5.up (by omega)) (cU.base o5 (by omega))
end
section
variable {a h:Heap} {rb rp rl most:Nat} {v:Value} {K:List HE} {B:List Bool}
theorem ET (R:iz a h rb rp most v K) (p:bT h rp rl B) (hlo:h.lo≤h.nx) (la:a.nx≤h.nx) (hl:K.length≤1000) (gd:∀k∈K,iM k) (ids:∀k∈K,∀p∈k.Q,∃n:Nat,p.id=(n:Int)∧B[n]? = some true) (d:Int) (κ:KQ)
  (qz:∀h',(∀k∈K,bq k.Q d=none)→Le h h'→κ (.tuple ⟨[.slice none 0 0,.int .i64 5]⟩) h')
  (sI:∀h' k p,k∈K→bq k.Q d=some p→¬0<p.s→Le h h'→κ (.tuple ⟨[.slice none 0 0,.int .i64 7]⟩) h')
  (dK:∀vi v' K' h' (i:Nat) (k:HE) (p:R5) (n:Nat),K[i]? = some k→bq k.Q d=some p→0<p.s→p.m=0→d=(n:Int)→B[n]? = some true→sR K K' i k k.w (bP (cF (k.Q.filter fun r=>!aV d r)+1) (k.Q.filter fun r=>!aV d r)).1→iz a h' rb rp most v' K'→bT h' rp rl (B.set n false)→gH (SK rb rl v) h h'→jB h v v'→
   gV h h' vi (bP (cF (k.Q.filter fun r=>!aV d r)+1) (k.Q.filter fun r=>!aV d r)).2→κ (.tuple ⟨[vi,.int .i64 0]⟩) h')
  (fF:∀vi v' K' h' (i:Nat) (k:HE) (p:R5) (j:Nat),K[i]? = some k→k.Q[j]? = some p→bq k.Q d=some p→0<p.s→p.m≠0→sR K K' i k k.w (bP (cF (k.Q.set j (dZ p))+1) (k.Q.set j (dZ p))).1→iz a h' rb rp most v' K'→bT h' rp rl B→gH (SK rb rl v) h h'→jB h v v'→
   gV h h' vi (bP (cF (k.Q.set j (dZ p))+1) (k.Q.set j (dZ p))).2→κ (.tuple ⟨[vi,.int .i64 0]⟩) h') :
  CallW Tryz.prog 122 [.pointer (some ⟨rb,0,none⟩),.int .i64 d] h κ:=by
 refine aq mixed ?_
 rw[Vg]
 refine An R hlo hl gd d _ ?_ ?_
 ·intro h1 hno bu
  simp(disch:=first|omega|simp only[Wd]<;>omega|with_unfolding_all rfl)only[Wz,bZ (show (-1:Int)<0 by decide)]
  exact qz h1 hno bu
 ·intro i k p0 h1 hk hf bu
  have n1:=bu.nx
  have l1:=bu.lo
  have R1:=R.le bu
  have c1:=R1.cell
  have gI:=List.mem_of_getElem? hk
  have gk:=gd k gI
  have vl:=gk.small
  obtain ⟨j,hj,Ff⟩:=pL gk.vq hf
  obtain ⟨n,en,oa⟩:=ids k gI p0 (c9 hf).1
  have I4:d=(n:Int):=by rw[←en]; exact Ff.symm
  obtain ⟨b,o,hb,dM,dg⟩:=R1.ld i hk
  have L1:=dg h1 (Le.refl _)
  simp(disch:=first|omega|simp only[Wd]<;>omega|with_unfolding_all rfl)only[Wz,bL (show (0:Int)≤(i:Int) by omega),DD,aU,c1,dM,L1]
  refine Gk k.t k.r k.q k.w d k.Q a h1 _ (R1.qv k gI) (by omega) (by omega) gk.vq.pair hj Ff ?_ ?_ ?_
  ·intro hs h2 aZ
   have n2:=aZ.nx
   have l2:=aZ.lo
   simp(disch:=first|omega|simp only[Wd]<;>omega|with_unfolding_all rfl)only[Wz,cG]
   exact sI _ k p0 gI hf hs ((bu.trans aZ).new _)
  ·intro hs hm q2 h2 i_ aZ
   have n2:=aZ.nx
   have l2:=aZ.lo
   have wN:=i_.1
   obtain ⟨dn,dw,rfl,_⟩:=wN
   have lf:(k.Q.filter fun r=>!aV d r).length≤k.Q.length:=List.length_filter_le _ _
   have hrb:=(R1.le aZ).lt
   simp(disch:=first|omega|simp only[Wd]<;>omega|with_unfolding_all rfl)only[Wz,cG]
   obtain ⟨h3,e3⟩:∃h3:Heap,h3=⟨h2.nx+1,h2.bl.bf h2.nx (af [.int .i64 k.t,.int .i64 k.r,.slice dn (k.Q.filter fun r=>!aV d r).length dw,.int .i64 k.w] 51 false),h2.lo⟩:=⟨_,rfl⟩
   have cL:Le h2 h3:=by rw[e3]; exact (Le.refl h2).new _
   have g3:h3.bl.get h2.nx=some (af [.int .i64 k.t,.int .i64 k.r,.slice dn (k.Q.filter fun r=>!aV d r).length dw,.int .i64 k.w] 51 false):=by rw[e3]; exact T.aa _ _ _
   have n3:h3.nx=h2.nx+1:=by rw[e3]
   have l3:h3.lo=h2.lo:=by rw[e3]
   rw[←e3]
   clear e3
   have iN:=(bu.trans aZ).trans cL
   simp(disch:=first|omega|simp only[Wd]<;>omega|with_unfolding_all rfl)only[Wz,xC,g3]
   refine sO k.t k.r _ k.w d _ h3 _ (i_.1.le cL) (by omega) (by omega) ?_
   intro h4 gK
   have n4:=gK.nx
   have l4:=gK.lo
   rw[uQ]
   have iY:Le h3 ⟨h4.nx+1,h4.bl.bf h4.nx (fq ⟨0,0,0,0,0⟩),h4.lo⟩:=gK.new _
   have g4:=(gK.get _ (by omega)).trans g3
   have R4:=(R.le iN).le gK
   have c4:=R4.cell
   simp(disch:=first|omega|simp only[Wd]<;>omega|with_unfolding_all rfl)only[Wz,aW]
   obtain ⟨h5,e5⟩:∃h5:Heap,h5=⟨h4.nx+1,h4.bl.bf h4.nx (fq ⟨0,0,0,0,0⟩),h4.lo⟩:=⟨_,rfl⟩
   have n5:h5.nx=h4.nx+1:=by rw[e5]
   have l5:h5.lo=h4.lo:=by rw[e5]
   rw[←e5] at iY ⊢
   clear e5
   have Gr:=iN.trans iY
   have p5:=p.le Gr
   have R5:=R.le Gr
   have c5:=R5.cell
   have q5:=(i_.le cL).le iY
   have g5:=(iY.get _ (by omega)).trans g3
   refine ⟨fun l h'=>gH (fun c=>c=rl) h5 h'∧bT h' rp rl (B.set n false)∧QV h' (.slice dn (k.Q.filter fun r=>!aV d r).length dw) (k.Q.filter fun r=>!aV d r),?_,?_⟩
   ·simp(disch:=first|omega|simp only[Wd]<;>omega|with_unfolding_all rfl)only[Wz,xB,aU,c5]
    rw[show (Value.int IntKind.i64 d)=.int .i64 (n:Int) by rw[I4]]
    refine Jg p5 n oa _ ?_
    intro p6
    exact ⟨gH.one (S:=fun c=>c=rl) rfl _,p6,q5.put (fun vs op=>by rw[p5.iq]; exact aL (by decide)) _⟩
   ·rintro l h6 ⟨f6,p6,q6⟩
    have n6:=f6.nx
    have l6:=f6.lo
    have prl:=p.PJ
    have g6:=(f6.get _ (by omega) (by omega)).trans g5
    have R6:=R5.frP p5 f6
    have W1:gH (SK rb rl v) h h6:=(gH.of_le Gr).trans f6 fun c _ x=>.inr (.inl x)
    simp(disch:=first|omega|simp only[Wd]<;>omega|with_unfolding_all rfl)only[Wz,g6]
    refine Gq R6 (by omega) (by omega) hl hk q6.1 (by omega) (gk.vq.filter _) _ ?_
    intro vi v' K' h7 he R7 f7 nb7 o7
    exact dK vi v' K' h7 i k p0 n hk hf hs hm I4 oa he R7 (p6.WA R6 f7) (W1.trans f7 fun c _ x=>ES c x) (nb7.up (by omega)) (cU.base o7 (by omega))
  ·intro hs hm q2 h2 i_ aZ
   have n2:=aZ.nx
   have l2:=aZ.lo
   have wN:=i_.1
   obtain ⟨dn,dw,rfl,_⟩:=wN
   have hrb:=(R1.le aZ).lt
   simp(disch:=first|omega|simp only[Wd]<;>omega|with_unfolding_all rfl)only[Wz,cG]
   obtain ⟨h3,e3⟩:∃h3:Heap,h3=⟨h2.nx+1,h2.bl.bf h2.nx (af [.int .i64 k.t,.int .i64 k.r,.slice dn (k.Q.set j (dZ p0)).length dw,.int .i64 k.w] 51 false),h2.lo⟩:=⟨_,rfl⟩
   have cL:Le h2 h3:=by rw[e3]; exact (Le.refl h2).new _
   have g3:h3.bl.get h2.nx=some (af [.int .i64 k.t,.int .i64 k.r,.slice dn (k.Q.set j (dZ p0)).length dw,.int .i64 k.w] 51 false):=by rw[e3]; exact T.aa _ _ _
   have n3:h3.nx=h2.nx+1:=by rw[e3]
   have l3:h3.lo=h2.lo:=by rw[e3]
   rw[←e3]
   clear e3
   have iN:=(bu.trans aZ).trans cL
   have hlb:(k.Q.set j (dZ p0)).length≤128:=by rw[List.length_set]; exact vl
   simp(disch:=first|omega|simp only[Wd]<;>omega|with_unfolding_all rfl)only[Wz,xC,g3]
   refine sO k.t k.r _ k.w d _ h3 _ (i_.1.le cL) (by omega) (by omega) ?_
   intro h4 gK
   have n4:=gK.nx
   have l4:=gK.lo
   obtain ⟨o',ho'⟩:=Es gk.vq hj Ff (p':=dZ p0) rfl
   rw[ho']
   simp(disch:=first|omega|simp only[Wd]<;>omega|with_unfolding_all rfl)only[Wz,aW]
   have iY:Le h3 ⟨h4.nx+1,h4.bl.bf h4.nx (fq o'),h4.lo⟩:=gK.new _
   obtain ⟨h5,e5⟩:∃h5:Heap,h5=⟨h4.nx+1,h4.bl.bf h4.nx (fq o'),h4.lo⟩:=⟨_,rfl⟩
   have n5:h5.nx=h4.nx+1:=by rw[e5]
   have l5:h5.lo=h4.lo:=by rw[e5]
   rw[←e5] at iY ⊢
   clear e5
   have Gr:=iN.trans iY
   have g5:=(iY.get _ (by omega)).trans g3
   refine ⟨fun l h'=>HQ h5 h',?_,?_⟩
   ·simp(disch:=first|omega|simp only[Wd]<;>omega|with_unfolding_all rfl)only[Wz,xB]
    rfl
   ·intro l h6 hQ
    cases (show h5=h6 from hQ)
    have R5:=R.le Gr
    have p5:=p.le Gr
    simp(disch:=first|omega|simp only[Wd]<;>omega|with_unfolding_all rfl)only[Wz,g5]
    refine Gq R5 (by omega) (by omega) hl hk ((i_.le cL).le iY).1 (by omega) (gk.vq.back hj hm) _ ?_
    intro vi v' K' h7 he R7 f7 nb7 o7
    exact fF vi v' K' h7 i k p0 j hk hj hf hs hm he R7 (p5.WA R5 f7) ((gH.of_le Gr).trans f7 fun c _ x=>ES c x) (nb7.up (by omega)) (cU.base o7 (by omega))
theorem EU (R:iz a h rb rp most v K) (p:bT h rp rl B) (hlo:h.lo≤h.nx) (la:a.nx≤h.nx) (hl:K.length≤1000) (gd:∀k∈K,iM k) (hw:∀k∈K,k.w≤100000) (d m:Int) (κ:KQ)
  (hk2:∀h',br m=false→Le h h'→κ (.tuple ⟨[.bool false,.int .i64 2]⟩) h')
  (qz:∀h',br m=true→(∀k∈K,bq k.Q d=none)→Le h h'→κ (.tuple ⟨[.bool false,.int .i64 5]⟩) h')
  (sI:∀h' k p,br m=true→k∈K→bq k.Q d=some p→0<p.s→Le h h'→κ (.tuple ⟨[.bool false,.int .i64 7]⟩) h')
  (dK:∀q' h' (i:Nat) (k:HE) (p:R5) (j:Nat),br m=true→K[i]? = some k→k.Q[j]? = some p→bq k.Q d=some p→¬0<p.s→iz a h' rb rp most v (K.set i ⟨k.t,k.r,0,0,q',(dB k.Q k.w p m).2.1,k.Q.set j (dB k.Q k.w p m).1⟩)→bT h' rp rl B→gH (SK rb rl v) h h'→κ (.tuple ⟨[.bool (dB k.Q k.w p m).2.2,.int .i64 0]⟩) h') :
  CallW Tryz.prog 120 [.pointer (some ⟨rb,0,none⟩),.int .i64 d,.int .i64 m] h κ:=by
 have bM:=p
 refine aq mixed ?_
 rw[Ve]
 refine An R hlo hl gd d _ ?_ ?_
 ·intro h1 hno bu
  have n1:=bu.nx
  have l1:=bu.lo
  simp(disch:=first|omega|simp only[Wd]<;>omega|with_unfolding_all rfl)only[Wz,bZ (show (-1:Int)<0 by decide),DA]
  refine yy 0 0 (.slice none 0 0) 0 d m [] h1 _ (Sl.nil _ _ _) (by simp) (by omega) ⟨by omega,by omega⟩ List.Pairwise.nil ?_ ?_ ?_ ?_
  ·intro ha h2 aZ
   have n2:=aZ.nx
   have l2:=aZ.lo
   simp(disch:=first|omega|simp only[Wd]<;>omega|with_unfolding_all rfl)only[Wz,cG]
   exact hk2 _ ha ((bu.trans aZ).new _)
  ·intro ha _ h2 aZ
   have n2:=aZ.nx
   have l2:=aZ.lo
   simp(disch:=first|omega|simp only[Wd]<;>omega|with_unfolding_all rfl)only[Wz,cG]
   exact qz _ ha hno ((bu.trans aZ).new _)
  ·intro _ p hp; simp[bq] at hp
  ·intro _ i p hi; simp at hi
 ·intro i k p0 h1 hk hf bu
  have n1:=bu.nx
  have l1:=bu.lo
  have R1:=R.le bu
  have c1:=R1.cell
  have gI:=List.mem_of_getElem? hk
  have gk:=gd k gI
  have vl:=gk.small
  have hwk:=hw k gI
  have hw0:=gk.vq.w0
  obtain ⟨b,o,hb,dM,dg⟩:=R1.ld i hk
  have L1:=dg h1 (Le.refl _)
  simp(disch:=first|omega|simp only[Wd]<;>omega|with_unfolding_all rfl)only[Wz,bL (show (0:Int)≤(i:Int) by omega),DB,aU,c1,dM,L1]
  refine yy k.t k.r k.q k.w d m k.Q h1 _ (R1.qv k gI).sl (by omega) (by omega) ⟨by omega,by omega⟩ gk.vq.pair ?_ ?_ ?_ ?_
  ·intro ha h2 aZ
   have n2:=aZ.nx
   have l2:=aZ.lo
   simp(disch:=first|omega|simp only[Wd]<;>omega|with_unfolding_all rfl)only[Wz,cG]
   exact hk2 _ ha ((bu.trans aZ).new _)
  ·intro ha hno h2 aZ
   rw[hf] at hno; cases hno
  ·intro ha p hp hs h2 aZ
   have n2:=aZ.nx
   have l2:=aZ.lo
   simp(disch:=first|omega|simp only[Wd]<;>omega|with_unfolding_all rfl)only[Wz,cG]
   exact sI _ k p ha gI hp hs ((bu.trans aZ).new _)
  ·intro ha j p hj hp hs q2 h2 jv aZ
   have n2:=aZ.nx
   have l2:=aZ.lo
   obtain ⟨dn,dw,rfl,_⟩:=jv.sl
   have fM:=bu.trans aZ
   have hrb:=R.lt
   simp(disch:=first|omega|simp only[Wd]<;>omega|with_unfolding_all rfl)only[Wz,cG]
   obtain ⟨h3,e3⟩:∃h3:Heap,h3=⟨h2.nx+1,h2.bl.bf h2.nx (af [.int .i64 k.t,.int .i64 k.r,.slice dn (k.Q.set j (dB k.Q k.w p m).1).length dw,.int .i64 (dB k.Q k.w p m).2.1] 51 false),h2.lo⟩:=⟨_,rfl⟩
   have cL:Le h2 h3:=by rw[e3]; exact (Le.refl h2).new _
   have g3:h3.bl.get h2.nx=some (af [.int .i64 k.t,.int .i64 k.r,.slice dn (k.Q.set j (dB k.Q k.w p m).1).length dw,.int .i64 (dB k.Q k.w p m).2.1] 51 false):=by rw[e3]; exact T.aa _ _ _
   have n3:h3.nx=h2.nx+1:=by rw[e3]
   have l3:h3.lo=h2.lo:=by rw[e3]
   rw[←e3]
   clear e3
   have iN:=fM.trans cL
   have R3:=R.le iN
   have c3:=R3.cell
   obtain ⟨bo,ev,k4,k2,k3,k1,rL,⟨hfl,hil⟩,RS,fS⟩:=R3.setAt hk (t:=k.t) (r:=k.r) (w:=(dB k.Q k.w p m).2.1) (q:=.slice dn (k.Q.set j (dB k.Q k.w p m).1).length dw) (Q:=k.Q.set j (dB k.Q k.w p m).1) (cU.base (jv.le cL) (by omega))
   subst ev
   simp(disch:=first|omega|simp only[Wd]<;>omega|with_unfolding_all rfl)only[Wz,Dz,aU,c3,g3,bA,k4,rL]
   exact dK _ _ i k p j ha hk hj hp hs RS ((bT.le bM iN).WA R3 fS) ((gH.of_le iN).trans fS fun c _ x=>ES c x)
theorem OI (R:iz a h rb rp most v K) (p:bT h rp rl B) (hlo:h.lo≤h.nx) (la:a.nx≤h.nx) (hl:K.length≤1000) (gd:∀k∈K,iM k) (d x:Int) (κ:KQ)
  (qz:∀h',(∀k∈K,bq k.Q d=none)→Le h h'→κ (.int .i64 5) h')
  (wY:∀h' k p,k∈K→bq k.Q d=some p→(∃o∈k.Q,o.id≠d∧o.x=x)→Le h h'→κ (.int .i64 4) h')
  (sI:∀h' k p,k∈K→bq k.Q d=some p→(∀o∈k.Q,o.id≠d→o.x≠x)→0<p.s→Le h h'→κ (.int .i64 7) h')
  (dK:∀q' h' (i:Nat) (k:HE) (p:R5) (j:Nat),K[i]? = some k→k.Q[j]? = some p→bq k.Q d=some p→(∀o∈k.Q,o.id≠d→o.x≠x)→¬0<p.s→iz a h' rb rp most v (K.set i ⟨k.t,k.r,0,0,q',k.w,k.Q.set j (jh p x)⟩)→bT h' rp rl B→gH (SK rb rl v) h h'→κ (.int .i64 0) h') :
  CallW Tryz.prog 123 [.pointer (some ⟨rb,0,none⟩),.int .i64 d,.int .i64 x] h κ:=by
 have bM:=p
 refine aq mixed ?_
 rw[Vh]
 refine An R hlo hl gd d _ ?_ ?_
 ·intro h1 hno bu
  simp(disch:=first|omega|simp only[Wd]<;>omega|with_unfolding_all rfl)only[Wz,bZ (show (-1:Int)<0 by decide)]
  exact qz h1 hno bu
 ·intro i k p0 h1 hk hf bu
  have n1:=bu.nx
  have l1:=bu.lo
  have R1:=R.le bu
  have c1:=R1.cell
  have gI:=List.mem_of_getElem? hk
  have gk:=gd k gI
  have vl:=gk.small
  obtain ⟨j,hj,Ff⟩:=pL gk.vq hf
  obtain ⟨b,o,hb,dM,dg⟩:=R1.ld i hk
  have L1:=dg h1 (Le.refl _)
  simp(disch:=first|omega|simp only[Wd]<;>omega|with_unfolding_all rfl)only[Wz,bL (show (0:Int)≤(i:Int) by omega),DF,aU,c1,dM,L1]
  refine Rl k.t k.r k.q k.w d x k.Q h1 _ (R1.qv k gI).sl (by omega) (by omega) gk.vq.pair hj Ff ?_ ?_ ?_
  ·intro hx h2 aZ
   have n2:=aZ.nx
   have l2:=aZ.lo
   simp(disch:=first|omega|simp only[Wd]<;>omega|with_unfolding_all rfl)only[Wz,cG]
   refine ⟨fun l h'=>Le h h',(bu.trans aZ).new _,fun l h' le'=>wY _ k p0 gI hf hx le'⟩
  ·intro hx hs h2 aZ
   have n2:=aZ.nx
   have l2:=aZ.lo
   simp(disch:=first|omega|simp only[Wd]<;>omega|with_unfolding_all rfl)only[Wz,cG]
   refine ⟨fun l h'=>Le h h',(bu.trans aZ).new _,fun l h' le'=>sI _ k p0 gI hf hx hs le'⟩
  ·intro hx hs q2 h2 jv aZ
   have n2:=aZ.nx
   have l2:=aZ.lo
   obtain ⟨dn,dw,rfl,_⟩:=jv.sl
   have fM:=bu.trans aZ
   have hrb:=R.lt
   simp(disch:=first|omega|simp only[Wd]<;>omega|with_unfolding_all rfl)only[Wz,cG]
   obtain ⟨h3,e3⟩:∃h3:Heap,h3=⟨h2.nx+1,h2.bl.bf h2.nx (af [.int .i64 k.t,.int .i64 k.r,.slice dn (k.Q.set j (jh p0 x)).length dw,.int .i64 k.w] 51 false),h2.lo⟩:=⟨_,rfl⟩
   have cL:Le h2 h3:=by rw[e3]; exact (Le.refl h2).new _
   have g3:h3.bl.get h2.nx=some (af [.int .i64 k.t,.int .i64 k.r,.slice dn (k.Q.set j (jh p0 x)).length dw,.int .i64 k.w] 51 false):=by rw[e3]; exact T.aa _ _ _
   have n3:h3.nx=h2.nx+1:=by rw[e3]
   have l3:h3.lo=h2.lo:=by rw[e3]
   rw[←e3]
   clear e3
   have iN:=fM.trans cL
   have R3:=R.le iN
   have c3:=R3.cell
   obtain ⟨bo,ev,k4,k2,k3,k1,rL,⟨hfl,hil⟩,RS,fS⟩:=R3.setAt hk (t:=k.t) (r:=k.r) (w:=k.w) (q:=.slice dn (k.Q.set j (jh p0 x)).length dw) (Q:=k.Q.set j (jh p0 x)) (cU.base (jv.le cL) (by omega))
   subst ev
   refine ⟨fun l h'=>iz a h' rb rp most (.slice (some ⟨bo,0,none⟩) K.length aN) (K.set i ⟨k.t,k.r,0,0,.slice dn (k.Q.set j (jh p0 x)).length dw,k.w,k.Q.set j (jh p0 x)⟩)∧bT h' rp rl B∧gH (SK rb rl (.slice (some ⟨bo,0,none⟩) K.length aN)) h h',?_,?_⟩
   ·simp(disch:=first|omega|simp only[Wd]<;>omega|with_unfolding_all rfl)only[Wz,DE,aU,c3,g3,bA,k4,rL]
    exact ⟨RS,(bT.le bM iN).WA R3 fS,(gH.of_le iN).trans fS fun c _ x=>ES c x⟩
   ·rintro l h' ⟨r1,r2,r3⟩
    exact dK _ _ i k p0 j hk hj hf hx hs r1 r2 r3
end
theorem OJ {B:List Bool} (h:∀k,k<B.length→B[k]? = some true):(eW B).length=B.length:=by
 unfold eW
 rw[List.length_map,List.filter_eq_self.2,List.length_range]
 intro k hk
 rw[h k (List.mem_range.1 hk)]; rfl
section
variable {a h:Heap} {rb rp rl most:Nat} {v:Value} {K:List HE} {B:List Bool}
theorem Jh (R:iz a h rb rp most v K) (p:bT h rp rl B) (hlo:h.lo≤h.nx) (la:a.nx≤h.nx) (hl:K.length≤1000) (t r x m:Int) (hm:br m=true) {q:Value} {w:Int} {Q:List R5} (hq:QV h q Q) (hQl:Q.length≤1000) (hw:0≤w∧w≤100000)
  (hn:∀n:Nat,B[n]? = some false→∀o∈Q,o.id≠(n:Int)∧o.x≠x) {pb:Nat} (hpb:pb<h.nx) (lpb:h.lo≤pb) (gpb:h.bl.get pb=some (af [.int .i64 t,.int .i64 r,q,.int .i64 w] 51 false)) (hroom:(eW B).length<B.length)
  (i i':Nat) (th:Bool) (hi':(th=true∧i'=i+1)∨(th=false∧i'=i)) (hil:i'≤K.length) (κ:KQ)
  (hk:∀(n:Nat) q' v' h',B[n]? = some false→(∀k,k<n→B[k]? = some true)→iz a h' rb rp most v' (K.take i++⟨t,r,0,0,q',(cv Q w n x m).2.1,Q++[(cv Q w n x m).1]⟩::K.drop i')→bT h' rp rl (B.set n true)→gH (fun c=>c=rb∨c=rl∨c=pb) h h'→jB h v v'→κ (.tuple ⟨[.int .i64 (n:Int),.bool (cv Q w n x m).2.2,.int .i64 0]⟩) h') :
  xD (.pointer (some ⟨rb,0,none⟩)) pb (.int .i64 x) (.int .i64 m) (.int .i64 (i:Int)) (.bool th) h κ:=by
 have c0:=R.cell
 have hrb:=R.lt
 have lrb:=R.lo
 have prl:=p.PJ
 have abQ:i≤K.length:=by rcases hi' with ⟨_,e⟩ | ⟨_,e⟩<;>omega
 simp(disch:=first|omega|simp only[Wd]<;>omega|with_unfolding_all rfl)only[Wz,xD,aU,c0]
 refine Rv p _ ?_ ?_
 ·intro hall
  have:=OJ hall
  omega
 intro n hb Gd p1
 obtain ⟨h1,e1⟩:∃h1:Heap,h1=⟨h.nx,h.bl.bf rl (af ((B.set n true).map Value.bool) 4 false),h.lo⟩:=⟨_,rfl⟩
 have f1:gH (fun c=>c=rl) h h1:=by rw[e1]; exact gH.one (S:=fun c=>c=rl) rfl _
 have hne:pb≠rl:=by rintro rfl; exact aL (by decide) (gpb.symm.trans p.iq)
 have hnb:pb≠rb:=by rintro rfl; exact aL (by decide) (gpb.symm.trans c0)
 have hnr:rb≠rl:=by rintro rfl; exact aL (by decide) (c0.symm.trans p.iq)
 have g1:h1.bl.get pb=some (af [.int .i64 t,.int .i64 r,q,.int .i64 w] 51 false):=(f1.get pb hpb hne).trans gpb
 have n1:h1.nx=h.nx:=by rw[e1]
 have l1:h1.lo=h.lo:=by rw[e1]
 have q1:QV h1 q Q:=by rw[e1]; exact hq.put (fun vs op=>by rw[p.iq]; exact aL (by decide)) _
 rw[←e1] at p1 ⊢
 clear e1
 have R1:=R.frP p f1
 have Xp:=hn n hb
 simp(disch:=first|omega|simp only[Wd]<;>omega|with_unfolding_all rfl)only[Wz,g1]
 refine WN t r q w (n:Int) x m Q h1 _ q1.1 (by omega) (by omega) ⟨by omega,by omega⟩ (by omega) hm Xp ?_
 intro q2 h2 jv aZ
 have n2:=aZ.nx
 have l2:=aZ.lo
 have g2:=(aZ.get pb (by omega)).trans g1
 obtain ⟨dn,dw,rfl,_⟩:=jv.sl
 have R2:=R1.le aZ
 have c2:=R2.cell
 have hkn:=hk n
 clear hk
 generalize hP:(cv Q w n x m).1=P at *
 generalize hW2:(cv Q w n x m).2.1=W2 at *
 generalize hG:(cv Q w n x m).2.2=G at *
 obtain ⟨h3,e3⟩:∃h3:Heap,h3=⟨h2.nx,h2.bl.bf pb (af [.int .i64 t,.int .i64 r,.slice dn (Q++[P]).length dw,.int .i64 W2] 51 false),h2.lo⟩:=⟨_,rfl⟩
 have f3:gH (fun c=>c=pb) h2 h3:=by rw[e3]; exact gH.one (S:=fun c=>c=pb) rfl _
 have g3:h3.bl.get pb=some (af [.int .i64 t,.int .i64 r,.slice dn (Q++[P]).length dw,.int .i64 W2] 51 false):=by rw[e3]; exact T.aa _ _ _
 have n3:h3.nx=h2.nx:=by rw[e3]
 have l3:h3.lo=h2.lo:=by rw[e3]
 have R3:iz a h3 rb rp most v K:=R2.keep f3.nx f3.lo fun c vs ty op hc hg ht=>f3.get c hc (by
  rintro rfl
  rw[hg] at g2
  rcases ht with rfl | ⟨rfl,rfl⟩ | rfl
  ·exact aL (by decide) g2
  ·exact aO g2.symm
  ·exact aL (by decide) g2)
 have p2:=p1.le aZ
 have p3:bT h3 rp rl (B.set n true):=p2.keep f3.nx f3.lo (f3.get _ p2.X2 (by rintro rfl; exact aL (by decide) (g2.symm.trans p2.oh))) (f3.get _ p2.PJ (by rintro rfl; exact aL (by decide) (g2.symm.trans p2.iq)))
 have mH:iK h1 h3 (.slice dn (Q++[P]).length dw) (Q++[P]):=by rw[e3]; exact cU.put jv (by rw[g2]; exact aO) _
 have c3:=R3.cell
 simp(disch:=first|omega|simp only[Wd]<;>omega|with_unfolding_all rfl)only[Wz,cG,g2,qs,c2]
 obtain ⟨h4,e4⟩:∃h4:Heap,h4=⟨h2.nx+1,(h2.bl.bf pb (af [.int .i64 t,.int .i64 r,.slice dn (Q++[P]).length dw,.int .i64 W2] 51 false)).bf h2.nx (af [] 51 false),h2.lo⟩:=⟨_,rfl⟩
 have gK:Le h3 h4:=by
  have:h4=⟨h3.nx+1,h3.bl.bf h3.nx (af [] 51 false),h3.lo⟩:=by rw[e4,e3]
  rw[this]; exact (Le.refl h3).new _
 have n4:h4.nx=h2.nx+1:=by rw[e4]
 have l4:h4.lo=h2.lo:=by rw[e4]
 rw[←e4]
 clear e4 e3
 have abR:gH (fun c=>c=rb∨c=rl∨c=pb) h h3:=((f1.trans (gH.of_le (S:=fun c=>c=rl) aZ) fun c _ x=>x).mono fun c _ x=>.inr (.inl x)).trans f3 fun c _ x=>.inr (.inr x)
 have R4:=R3.le gK
 rw[qt b6 (by decide) R4.own R4.emp i abQ]
 have hf:=sN b6 R4.own i abQ
 refine fN (enc:=eX) (a:=h4) (L:=[]) (M:=K.take i) b6 gW (by decide) (by decide) (.inl ⟨rfl,.inr ⟨_,_,rfl⟩⟩) (fun _=>.inr ⟨_,_,rfl⟩) hf (Le.refl _) (by simp; omega) (by omega) _ ?_
 intro v5 h5 tV em5 iY _
 rw[List.nil_append] at tV em5
 have n5:=iY.nx
 have l5:=iY.lo
 have g5:=((gK.trans iY).get pb (by omega)).trans g3
 simp(disch:=first|omega|simp only[Wd]<;>omega|with_unfolding_all rfl)only[Wz,g5]
 obtain ⟨h6,K0⟩:∃h6:Heap,h6=⟨h5.nx+1,(h5.bl.bf (h5.nx) (af [.int .i64 t,.int .i64 r,.slice dn (Q++[P]).length dw,.int .i64 W2] 51 false)),h5.lo⟩:=⟨_,rfl⟩
 have Tv:Le h5 h6:=by subst K0; exact ((Le.refl h5).new _)
 have g6:h6.bl.get (h5.nx)=some (af [.int .i64 t,.int .i64 r,.slice dn (Q++[P]).length dw,.int .i64 W2] 51 false):=by subst K0; exact T.aa _ _ _
 have alU:h6.nx=h5.nx+1:=by subst K0; rfl
 have alV:h6.lo=h5.lo:=by subst K0; rfl
 rw[←K0]
 clear K0
 have hone:Sl eX h6 (.slice (some ⟨h5.nx,0,none⟩) 1 1) [⟨t,r,0,0,.slice dn (Q++[P]).length dw,W2,Q++[P]⟩]:=Sl.new (L:=[(⟨t,r,0,0,.slice dn (Q++[P]).length dw,W2,Q++[P]⟩:HE)]) (e:=51) (op:=false) (by omega) g6 _
 refine fN (enc:=eX) (a:=h4) (L:=K.take i) (M:=[⟨t,r,0,0,.slice dn (Q++[P]).length dw,W2,Q++[P]⟩]) b6 gW (by decide) (by decide) (tV.le Tv) em5 hone (iY.trans Tv) (by simp; omega) (by omega) _ ?_
 intro v7 h7 Fj em7 uR _
 have n7:=uR.nx
 have l7:=uR.lo
 have R7:=R4.le uR
 have c7:=R7.cell
 obtain ⟨u,hu,eu⟩:=R7.own.tail b6 (by decide) i' hil
 have ei:(i:Int)+1=((i+1:Nat):Int):=by omega
 refine ⟨fun l h'=>slot l 3=.int .i64 (i':Int)∧HQ h7 h',?_,?_⟩
 ·rcases hi' with ⟨rfl,rfl⟩ | ⟨rfl,rfl⟩
  ·simp(disch:=first|omega|simp only[Wd]<;>omega|with_unfolding_all rfl)only[Wz,ei]
   exact ⟨trivial,rfl⟩
  ·simp(disch:=first|omega|simp only[Wd]<;>omega|with_unfolding_all rfl)only[Wz]
   exact ⟨trivial,rfl⟩
 rintro l h' ⟨s3,hQ⟩
 cases (show h7=h' from hQ)
 simp(disch:=first|omega|simp only[Wd]<;>omega|with_unfolding_all rfl)only[Wz,DH,aU,c7,s3,eu]
 refine fN (enc:=eX) (a:=h4) (L:=K.take i++[⟨t,r,0,0,.slice dn (Q++[P]).length dw,W2,Q++[P]⟩]) (M:=K.drop i') b6 gW (by decide) (by decide) Fj em7 hu uR (by simp; omega) (by omega) _ ?_
 intro v8 h8 PK Tw Fl _
 have n8:=Fl.nx
 have l8:=Fl.lo
 have R8:=R4.le Fl
 have c8:=R8.cell
 obtain ⟨x8,y8,z8,rfl⟩:∃x y z,v8=.slice x y z:=by obtain ⟨x,z,e,_⟩:=PK.sl; exact ⟨_,_,_,e⟩
 simp(disch:=first|omega|simp only[Wd]<;>omega|with_unfolding_all rfl)only[Wz,aU,c8]
 have eL:K.take i++[⟨t,r,0,0,.slice dn (Q++[P]).length dw,W2,Q++[P]⟩]++K.drop i'=K.take i++⟨t,r,0,0,.slice dn (Q++[P]).length dw,W2,Q++[P]⟩::K.drop i':=by simp
 rw[eL] at PK Tw
 have hqs:∀k'∈K.take i++⟨t,r,0,0,.slice dn (Q++[P]).length dw,W2,Q++[P]⟩::K.drop i',iK a h8 k'.q k'.Q:=by
  intro k' hk'
  rcases List.mem_append.1 hk' with hk' | hk'
  ·exact R8.qv k' (List.mem_of_mem_take hk')
  ·rcases List.mem_cons.1 hk' with rfl | hk'
   ·exact cU.base ((mH.le gK).le Fl) (by omega)
   ·exact R8.qv k' (List.mem_of_mem_drop hk')
 have Gs:=gK.trans Fl
 have p8:=p3.le Gs
 refine hkn _ _ _ hb Gd (R8.abM (cU.base PK (by omega)) Tw hqs) (p8.keep (Nat.le_refl _) rfl (T.aj _ _ ?_) (T.aj _ _ ?_)) ((abR.trans (gH.of_le (S:=fun c=>c=rb∨c=rl∨c=pb) Gs) fun c _ x=>x).trans (gH.one (S:=fun c=>c=rb∨c=rl∨c=pb) (.inl rfl) _) fun c _ x=>x) (jB.own PK (by omega))
 ·rintro rfl; exact aL (by decide) (c8.symm.trans p8.oh)
 ·exact hnr
end
def jC (r:R5):R5:=⟨r.id,0,r.m,r.w,r.s⟩
theorem Gt (Q:List R5) (r:R5) (o:Option Nat):iC (Q.map jC) (jC r) o=iC Q r o:=by
 cases o with
 | none=>rfl
 | some b=>
  unfold iC
  simp only[List.getElem?_map]
  cases Q[b]?<;>rfl
theorem Gu (Q:List R5):∀k,best (Q.map jC) k=best Q k:=by
 intro k
 induction k with
 | zero=>rfl
 | succ k ih=>
  unfold best
  rw[List.getElem?_map,ih]
  cases Q[k]? with
  | none=>rfl
  | some r=>
   show (if (ku (jC r) && iC (Q.map jC) (jC r) (best Q k))=true then _ else _)=_
   rw[Gt]; rfl
theorem uT (Q:List R5):bX (Q.map jC)=bX Q:=by
 unfold bX
 rw[List.length_map,Gu,List.findIdx?_map]
 rfl
theorem yE (Q:List R5) (r:R5):cI (Q.map jC) (jC r)=cI Q r:=by
 unfold cI
 rw[List.any_map]
 rfl
theorem uU {Q:List R5}:fG (Q.map jC)↔fG Q:=by
 constructor
 ·intro h i r hf hr
  have:=h i (jC r) (by rw[uT]; exact hf) (by rw[List.getElem?_map,hr]; rfl)
  rwa [yE] at this
 ·intro h i r hf hr
  rw[uT] at hf
  rw[List.getElem?_map] at hr
  cases hq:Q[i]? with
  | none=>rw[hq] at hr; cases hr
  | some p=>
   rw[hq] at hr
   cases hr
   rw[yE]
   exact h i p hf hq
theorem Gv {Q:List R5} {i:Nat} {p:R5} (hp:Q[i]? = some p) (x:Int):(Q.set i (jh p x)).map jC=Q.map jC:=by
 refine List.ext_getElem? fun k=>?_
 rw[List.getElem?_map,List.getElem?_map,List.getElem?_set]
 split
 ·rename_i e; subst e
  rw[hp,if_pos (List.getElem?_eq_some_iff.1 hp).1]; rfl
 ·rfl
theorem Gw {Q:List R5} {i:Nat} {p:R5} (hp:Q[i]? = some p) (x:Int) (h:fG Q):fG (Q.set i (jh p x)):=by
 rw[←uU,Gv hp,uU]; exact h
theorem OK {Q:List R5} {W:Int} (v:VQ Q W) {i j:Nat} {p q:R5} (hi:Q[i]? = some p) (hj:Q[j]? = some q) (h:p.id=q.id):i=j:=by
 have G:=cr.1 v.pair
 rcases Nat.lt_trichotomy i j with hl | hl | hl
 ·exact absurd h (G i j p q hl hi hj).id
 ·exact hl
 ·exact absurd h.symm (G j i q p hl hj hi).id
structure Ry (h:Heap) (bb bm bp bl most:Nat) (M:List HE) (clock:Nat) (F:List Int) (B:List Bool):Prop where
 is:bg h bb bm bp bl most M clock F B
 ids:qP M B
section
variable {h h':Heap} {bb bm bp bl most cap N:Nat} {M M' K:List HE} {clock clock':Nat} {F F':List Int} {B B':List Bool}
theorem gL.names (s:Ry h bb bm bp bl most M clock F B) (l:gL M K) {t r:Int}:(∀e∈M,¬(t=e.t∧r=e.r))↔∀k∈K,¬(t=k.t∧r=k.r):=by
 constructor
 ·intro hn k hk
  obtain ⟨e2,td,h1,h2,h3,h4⟩:=l.each k hk
  rw[h1,h2]; exact hn e2 td
 ·intro hn e he
  obtain ⟨k,hk,h1,h2,h3,h4⟩:=l.yC s.is.ok he
  rw[←h1,←h2]; exact hn k hk
theorem gL.ended (s:Ry h bb bm bp bl most M clock F B) (l:gL M K) {K':List HE} {i:Nat} {e k:HE} {w w':Int} {Q Q':List R5} (st:eN M M' e.t e.r w Q) (hi:K[i]? = some k) (ht:k.t=e.t) (hr:k.r=e.r) (hw:w'=w) (hQ:Q'=Q) (en:sR K K' i k w' Q'):gL M' K':=by
 subst hw hQ
 rcases en with ⟨h0,rfl⟩ | ⟨h0,k',g1,g2,g3,g4,rfl⟩
 ·subst h0
  exact l.erase s.is.ok st hi ht hr
 ·exact l.set s.is.ok st h0 hi ht hr ⟨g1.trans ht,g2.trans hr,g3,g4⟩
theorem gL.putAt (s:Ry h bb bm bp bl most M clock F B) (l:gL M K) {i:Nat} {e k k':HE} {w:Int} {Q:List R5} (st:eN M M' e.t e.r w (bP (cF Q+1) Q).1) (hs:fG Q) (h0:Q≠[]) (hi:K[i]? = some k) (ht:k.t=e.t) (hr:k.r=e.r) (hk:k'.t=k.t∧k'.r=k.r∧k'.w=w∧k'.Q=Q):gL M' (K.set i k'):=by
 rw[pG hs] at st
 exact l.set s.is.ok st h0 hi ht hr ⟨hk.1.trans ht,hk.2.1.trans hr,hk.2.2.1,hk.2.2.2⟩
theorem set_nil {α:Type} {Q:List α} {i:Nat} {p q:α} (h:Q[i]? = some p):Q.set i q≠[]:=by
 intro e
 have:=congrArg List.length e
 rw[List.length_set,List.length_nil] at this
 have:=(List.getElem?_eq_some_iff.1 h).1
 omega
theorem uV (s:Ry h bb bm bp bl most M clock F B) {t r w:Int} {Q:List R5} (hold:(∃e∈M,e.t=t∧e.r=r∧e.Q=Q∧e.w=w)∨((∀e∈M,¬(t=e.t∧r=e.r))∧M.length<most∧Q=[]∧w=0)):fG Q:=by
 rcases hold with ⟨e,he,_,_,rfl,_⟩ | ⟨_,_,rfl,_⟩
 ·exact (s.is.good e he).stuck
 ·intro i r hf hr; simp at hr
theorem gL.asked (s:Ry h bb bm bp bl most M clock F B) (l:gL M K) {t r x m:Int} {n:Nat} {g:Bool} (am:br m=true) (a:lF h h' bb bm bp bl most M M' clock' F F' B t r x m n g) {i:Nat} {k:HE} (hi:K[i]? = some k) (ht:k.t=t) (hr:k.r=r) :
  g=(cv k.Q k.w n x m).2.2∧∀k':HE,k'.t=t∧k'.r=r∧k'.w=(cv k.Q k.w n x m).2.1∧k'.Q=k.Q++[(cv k.Q k.w n x m).1]→gL M' (K.set i k'):=by
 obtain ⟨Q,w,hold,vq,vq',hg,g_⟩:=a.set
 rw[pG (Ak vq (uV s hold) am)] at g_
 obtain ⟨e2,td,h1,h2,h3,h4⟩:=l.each k (List.mem_of_getElem? hi)
 rcases hold with ⟨e,he,e1,e3,e4,e5⟩ | ⟨hn,_,_,_⟩
 ·have:=s.is.ok.uniq he td (by rw[e1,←h1,ht]) (by rw[e3,←h2,hr])
  subst this
  rw[e4] at h4
  rw[e5] at h3
  subst h3 h4
  exact ⟨hg,fun k' hk'=>l.set s.is.ok g_ (by simp) hi ht hr hk'⟩
 ·exact absurd ⟨by rw[←h1,ht],by rw[←h2,hr]⟩ (hn e2 td)
theorem gL.W3 (s:Ry h bb bm bp bl most M clock F B) (l:gL M K) {t r x m:Int} {n:Nat} {g:Bool} (am:br m=true) (a:lF h h' bb bm bp bl most M M' clock' F F' B t r x m n g) (hno:∀k∈K,¬(t=k.t∧r=k.r)) {i:Nat}
  (h1:∀(j:Nat) (a:HE),j<i→K[j]? = some a→fH (a_ a) (t,r)) (h2:∀(j:Nat) (a:HE),i≤j→K[j]? = some a→fH (t,r) (a_ a)) :
  g=(cv [] 0 n x m).2.2∧∀k':HE,k'.t=t∧k'.r=r∧k'.w=(cv [] 0 n x m).2.1∧k'.Q=[]++[(cv [] 0 n x m).1]→gL M' (K.take i++k'::K.drop i):=by
 obtain ⟨Q,w,hold,vq,vq',hg,g_⟩:=a.set
 rw[pG (Ak vq (uV s hold) am)] at g_
 have abU:=(l.names s).2 hno
 rcases hold with ⟨e,he,e1,e3,e4,e5⟩ | ⟨hn,_,e4,e5⟩
 ·exact absurd ⟨e1.symm,e3.symm⟩ (abU e he)
 ·subst e4 e5
  exact ⟨hg,fun k' hk'=>l.ins g_ (by simp) abU hk' h1 h2⟩
end
end Go.Proofs
