/-
  PROVED HERE: a part of the proof (L7, L5, L6, L8, L9).
-/
import Derived.Test.YtijmemedhkgplaaGreatDoorLA
import Derived.Test.YtijmemedhkgplaaGreatDoorKF
import Derived.Test.YtijmemedhkgplaaGreatDoorKG
set_option linter.unusedVariables false
set_option linter.unusedSimpArgs false
set_option maxRecDepth 100000
namespace Go.Proofs
open Go.Vai Go.Clashes
theorem Ov (t r:Int) (q:Value) (w:Int) (Q:List R5) (h:Heap) (κ:KQ) (hq:Sl aW h q Q) (hlen:Q.length≤10000) (hlo:h.lo≤h.nx) (vq:VQ Q w)
  (hk:∀q' v' h',iK h h' q' (bP (cF Q+1) Q).1→gV h h' v' (bP (cF Q+1) Q).2→Le h h'→κ (.tuple ⟨[cG t r q' w,v']⟩) h') :
  CallW Tryz.prog 21 [cG t r q w] h κ:=by
 have tc:=hq
 obtain ⟨qx,qc,rfl,_⟩:=tc
 refine aq mixed ?_
 rw[Zr]
 simp(disch:=first|omega|simp only[Wd]<;>omega|with_unfolding_all rfl)only[Wz,cG]
 obtain ⟨hA,az⟩:∃hA:Heap,hA=⟨h.nx+1+1,((h.bl.bf (h.nx) (af [.int .i64 t,.int .i64 r,.slice qx Q.length qc,.int .i64 w] 51 false)).bf (h.nx+1) (af [.int .i64 0,.int .i64 0,.slice none 0 0,.int .i64 0] 51 false)),h.lo⟩:=⟨_,rfl⟩
 have aH:Le h hA:=by subst az; exact (((Le.refl h).new _).new _)
 have g1:hA.bl.get (h.nx)=some (af [.int .i64 t,.int .i64 r,.slice qx Q.length qc,.int .i64 w] 51 false):=by subst az; exact (T.aj _ _ (by omega)).trans (T.aa _ _ _)
 have g3:hA.bl.get (h.nx+1)=some (af [.int .i64 0,.int .i64 0,.slice none 0 0,.int .i64 0] 51 false):=by subst az; exact T.aa _ _ _
 have dF:hA.nx=h.nx+1+1:=by subst az; rfl
 have dG:hA.lo=h.lo:=by subst az; rfl
 rw[←az]
 clear az
 refine kK t r _ w Q hA _ (hq.le aH) (by omega) (by omega) ?_
 intro q2 h2 jv hle2
 have tW:=hle2.nx
 have tX:=hle2.lo
 have g3:=(hle2.get _ (by omega)).trans g3
 obtain ⟨dn,dw,rfl,_⟩:=jv.sl
 simp(disch:=first|omega|simp only[Wd]<;>omega|with_unfolding_all rfl)only[Wz,cG]
 obtain ⟨hB,bF⟩:∃hB:Heap,hB=⟨h2.nx+1,(h2.bl.bf (h2.nx) (af [.int .i64 t,.int .i64 r,.slice dn Q.length dw,.int .i64 w] 51 false)),h2.lo⟩:=⟨_,rfl⟩
 have bD:Le h2 hB:=by subst bF; exact ((Le.refl h2).new _)
 have g7:hB.bl.get (h2.nx)=some (af [.int .i64 t,.int .i64 r,.slice dn Q.length dw,.int .i64 w] 51 false):=by subst bF; exact T.aa _ _ _
 have pE:hB.nx=h2.nx+1:=by subst bF; rfl
 have pF:hB.lo=h2.lo:=by subst bF; rfl
 rw[←bF]
 clear bF
 have kz:=bD.nx
 have kE:=bD.lo
 have g3:=(bD.get _ (by omega)).trans g3
 have yX:=jv.le bD
 have NF:Le h hB:=(aH.trans hle2).trans bD
 refine ⟨fun n l h1=>∃(K:List R5) (ids:List Int),VQ K w∧n=cF K+1∧bP (cF Q+1) Q=((bP (cF K+1) K).1,ids++(bP (cF K+1) K).2)∧K.length=Q.length∧ids.length+cF K≤cF Q∧
   gV h h1 (slot l 49) ids∧(iK hA h1 (.slice dn K.length dw) K)∧h1.bl.get (h.nx+1)=some (af [.int .i64 0,.int .i64 0,.slice none 0 0,.int .i64 0] 51 false)∧h1.bl.get h2.nx=some (af [.int .i64 t,.int .i64 r,.slice dn Q.length dw,.int .i64 w] 51 false)∧Le h h1∧hB.nx≤h1.nx,
  ⟨_,Q,[],vq,rfl,by simp,rfl,by simp,.inl ⟨rfl,.inl rfl⟩,yX,g3,g7,NF,Nat.le_refl _⟩,?_⟩
 rintro n l h3 ⟨K,ids,vk,rfl,hsc,Ku,Ye,hoI,Kv,g3,g7,c_,n3⟩
 have l3:=c_.lo
 obtain ⟨vi,ei⟩:∃vi,slot l 49=vi:=⟨_,rfl⟩
 rw[ei] at hoI
 rw[Ku] at Kv
 have hcK:cF K≤K.length:=List.length_filter_le _ _
 have hcQ:cF Q≤Q.length:=List.length_filter_le _ _
 simp(disch:=first|omega|simp only[Wd]<;>omega|with_unfolding_all rfl)only[Wz,H_,g7]
 refine Oj t r _ w K h3 _ Kv.sl (by omega) (by omega) ?_
 intro hx3 X1
 have aiE:=X1.nx
 have aiF:=X1.lo
 have g3:=(X1.get _ (by omega)).trans g3
 have g7:=(X1.get _ (by omega)).trans g7
 have abA:=Kv.le X1
 refine ⟨fun l' h'=>slot l' 4=.int .i64 (dy (bX K))∧Le hx3 h',?_,?_⟩
 ·cases hb:best K K.length with
  | some b=>
   simp(disch:=first|omega|simp only[Wd]<;>omega|with_unfolding_all rfl)only[Wz,dy,bL (show (0:Int)≤(b:Int) by omega)]
   refine ⟨?_,Le.refl _⟩
   rw[ic,hb]
  | none=>
   simp(disch:=first|omega|simp only[Wd]<;>omega|with_unfolding_all rfl)only[Wz,dy,bZ (show (-1:Int)<0 by decide),g7]
   refine yw t r _ w K hx3 _ abA.sl (by omega) (by omega) ?_
   intro h4 gK
   refine ⟨?_,gK⟩
   rw[ic,hb]; rfl
 rintro l4 h4 ⟨s4,dV⟩
 have yb:=dV.nx
 have yc:=dV.lo
 have g3:=(dV.get _ (by omega)).trans g3
 have g7:=(dV.get _ (by omega)).trans g7
 have BP:=abA.le dV
 have Tq:=X1.trans dV
 have NG:=hoI.le Tq
 have pz:=c_.trans Tq
 have finish:∀h',h4.nx≤h'.nx→Le h h'→gV h h' vi ids→iK hA h' (.slice dn Q.length dw) K→h'.bl.get (h.nx+1)=some (af [.int .i64 0,.int .i64 0,.slice none 0 0,.int .i64 0] 51 false)→fG K→κ (.tuple ⟨[cG t r (.slice dn Q.length dw) w,vi]⟩) ⟨h'.nx,h'.bl.bf (h.nx+1) (af [.int .i64 t,.int .i64 r,.slice dn Q.length dw,.int .i64 w] 51 false),h'.lo⟩:=by
  intro h' hn hl hi hr hg hst
  rw[pG hst] at hsc
  rw[hsc,List.append_nil] at hk
  exact hk _ _ _ (cU.put (cU.base hr (by omega)) (by rw[hg]; exact aO) _) (cU.put hi (by rw[hg]; exact aO) _) (hl.set (b:=h.nx+1) (by omega) _)
 cases hf:bX K with
 | none=>
  rw[hf] at s4
  simp(disch:=first|omega|simp only[Wd]<;>omega|with_unfolding_all rfl)only[Wz,Bl,s4,dy,bZ (show (-1:Int)<0 by decide),g7,g3,ei]
  exact finish h4 (Nat.le_refl _) pz NG BP g3 (yd hf)
 | some i=>
  rw[hf] at s4
  obtain ⟨p,hp,_⟩:=nQ hf
  obtain ⟨b,o,hb,dM,dg⟩:=tf BP.sl i hp
  simp(disch:=first|omega|simp only[Wd]<;>omega|with_unfolding_all rfl)only[Wz,Bl,s4,dy,bL (show (0:Int)≤(i:Int) by omega),g7,dM,dg]
  refine BU t r _ w p.w i K h4 _ BP.sl (by omega) (by omega) ?_
  intro h5 iD
  have Wq:=iD.nx
  have Wr:=iD.lo
  have g3:=(iD.get _ (by omega)).trans g3
  have g7:=(iD.get _ (by omega)).trans g7
  have NH:=BP.le iD
  have NI:=NG.le iD
  have uN:=pz.trans iD
  rw[Ol vk.pair hp]
  cases hfit:cI K p with
  | false=>
   simp(disch:=first|omega|simp only[Wd]<;>omega|with_unfolding_all rfl)only[Wz,g7,g3,ei]
   exact finish h5 (by omega) uN NI NH g3 (ye hf hp hfit)
  | true=>
   rcases NH with ⟨rfl,_⟩ | ⟨bo,e1,k1,k2,k3,k4⟩
   ·simp at hp
   rw[Ku] at e1
   cases e1
   have hil:i<K.length:=(List.getElem?_eq_some_iff.1 hp).1
   have hfl:=aT (enc:=aW) aX K
   have NJ:((K.set i ⟨p.id,p.x,p.w,p.w,p.s⟩).flatMap aW).length=K.length*5:=by rw[aT aX,List.length_set]
   have rL:=ck (p':=⟨p.id,p.x,p.w,p.w,p.s⟩) (ws:=[.int .i64 p.w]) (j:=2) aX hp (by show 2+1≤5; omega) rfl
   have hp2:(K.set i ⟨p.id,p.x,p.w,p.w,p.s⟩)[i]? = some ⟨p.id,p.x,p.w,p.w,p.s⟩:=by rw[List.getElem?_set,if_pos rfl,if_pos hil]
   have lu:=ck (p':=cz p) (ws:=[.int .i64 0]) (j:=4) aX hp2 (by show 4+1≤5; omega) rfl
   rw[List.set_set] at lu
   have sE:bo≠h2.nx:=by rintro rfl; rw[g7] at k4; exact aO k4
   have jT:bo≠h.nx+1:=by rintro rfl; rw[g3] at k4; exact aO k4
   have wN:(K.set i (cz p)).length=K.length:=List.length_set
   rw[Ku] at wN
   have Fc:(K.set i (cz p))[i]? = some (cz p):=by rw[List.getElem?_set,if_pos rfl,if_pos hil]
   have r3:=fu (j:=3) aX hp (by decide)
   have r0:=fu (j:=0) aX Fc (by decide)
   have r3:(K.flatMap aW)[i*5+3]? = some (.int .i64 p.w):=r3
   have r0:((K.set i (cz p)).flatMap aW)[i*5]? = some (.int .i64 p.id):=r0
   simp (maxSteps:=3000000) (disch:=first|omega|simp only[Wd]<;>omega|with_unfolding_all rfl)only[Wz,H9,s4,dy,g7,bA,k4,rL,lu,ei,r3,r0]
   obtain ⟨hC,eC⟩:∃hC:Heap,hC=⟨h5.nx,h5.bl.bf bo (af ((K.set i (cz p)).flatMap aW) 54 true),h5.lo⟩:=⟨_,rfl⟩
   have Kw:Le h hC:=by subst eC; exact uN.set (b:=bo) (by omega) _
   have nC:hC.nx=h5.nx:=by rw[eC]
   have lC:hC.lo=h5.lo:=by rw[eC]
   have gC:hC.bl.get bo=some (af ((K.set i (cz p)).flatMap aW) 54 true):=by subst eC; exact T.aa _ _ _
   have XT:hC.bl.get (h.nx+1)=some (af [.int .i64 0,.int .i64 0,.slice none 0 0,.int .i64 0] 51 false):=by subst eC; exact (T.aj _ _ jT).trans g3
   have g7C:hC.bl.get h2.nx=some (af [.int .i64 t,.int .i64 r,.slice (some ⟨bo,0,none⟩) Q.length aN,.int .i64 w] 51 false):=by subst eC; exact (T.aj _ _ sE).trans g7
   have PF:gV h hC vi ids:=by subst eC; exact cU.put NI (by rw[k4]; exact aL (by decide)) _
   have e2:(⟨h5.nx+1,(h5.bl.bf bo (af ((K.set i (cz p)).flatMap aW) 54 true)).bf h5.nx (af [.int .i64 p.id] 3 false),h5.lo⟩:Heap)=⟨hC.nx+1,hC.bl.bf hC.nx (af [.int .i64 p.id] 3 false),hC.lo⟩:=by rw[eC]
   rw[e2,show h5.nx=hC.nx from nC.symm]
   have hle1:=(Le.refl hC).new (af [.int .i64 p.id] 3 false)
   have vk2:=vk.HK hf hp hfit
   have hcg:=nR hp (gT vk hf hp)
   refine cT (enc:=cw) (a:=h) (L:=ids) (M:=[p.id]) bY iL (by decide) (by decide) (PF.le hle1) (Sl.new (L:=[p.id]) (e:=3) (op:=false) (Nat.lt_succ_self _) (T.aa _ _ _) _) (Kw.new _) (by simp; omega) (by show hC.lo≤hC.nx+1; omega) _ ?_
   intro v' h6 tY vp wK hn2 Th hsame
   have n6:hC.nx+1≤h6.nx:=hn2
   have keep:∀c o',c<hC.nx→hC.bl.get c=some o'→some o'≠some (af (ids.flatMap cw) 3 true)→h6.bl.get c=some o':=by
    intro c o' hc hg hne
    have e:(hC.bl.bf hC.nx (af [.int .i64 p.id] 3 false)).get c=hC.bl.get c:=T.aj _ _ (by omega)
    exact (hsame c (Nat.lt_succ_of_lt hc) (fun k=>hne (by rw[←hg,←e]; exact k))).trans (e.trans hg)
   have afz:h6.lo=hC.lo:=Th
   refine ⟨_,by omega,K.set i (cz p),ids++[p.id],vk2,rfl,?_,by simpa using Ku,by simp; omega,tY,?_,?_,?_,vp,by omega⟩
   ·rw[hsc,uO vk hf hp hfit]
    simp
   ·refine .inr ⟨bo,rfl,by omega,by omega,by omega,keep bo _ (by omega) gC (aL (by decide))⟩
   ·exact keep _ _ (by omega) XT (aL (by decide))
   ·exact keep _ _ (by omega) g7C (aL (by decide))
structure gL (M K:List HE):Prop where
 len:K.length=M.length
 perm:(K.map a_).Perm (M.map a_)
 qB:(K.map a_).Pairwise fH
 each:∀k∈K,∃e∈M,nw k e
theorem nw.nm {a b:HE} (s:nw a b):a_ a=a_ b:=by unfold a_; rw[s.1,s.2.1]
theorem gL.nil:gL [] []:=⟨rfl,List.Perm.refl _,List.Pairwise.nil,fun k hk=>(nomatch hk)⟩
section
variable {M M' K:List HE} {clock:Nat}
theorem gL.yC (o:e_ M clock) (l:gL M K) {e:HE} (he:e∈M):∃k∈K,nw k e:=by
 obtain ⟨k,hk,hn⟩:=List.mem_map.1 (l.perm.mem_iff.2 (List.mem_map.2 ⟨e,he,rfl⟩))
 obtain ⟨e',he',s⟩:=l.each k hk
 have hn2:=s.nm.symm.trans hn
 have:e'=e:=o.uniq he' he (congrArg Prod.fst hn2) (congrArg Prod.snd hn2)
 subst this
 exact ⟨k,hk,s⟩
theorem gL.Tr (l:gL M K) {i j:Nat} {a b:HE} (hi:K[i]? = some a) (hj:K[j]? = some b) (hn:a_ a=a_ b):i=j:=by
 have G:=cr.1 l.qB
 have ha:(K.map a_)[i]? = some (a_ a):=by rw[List.getElem?_map,hi]; rfl
 have hb:(K.map a_)[j]? = some (a_ b):=by rw[List.getElem?_map,hj]; rfl
 rcases Nat.lt_trichotomy i j with h | h | h
 ·have:=G i j _ _ h ha hb
  rw[hn] at this; unfold fH at this; omega
 ·exact h
 ·have:=G j i _ _ h hb ha
  rw[hn] at this; unfold fH at this; omega
theorem uS (o:e_ M clock) {e:HE} (he:e∈M):(M.map a_).Perm ((M.filter fun x=>!uc e.t e.r x).map a_++[a_ e]):=by
 have:=(nu o he).map a_
 rw[List.map_append] at this
 exact this
theorem gL.set (o:e_ M clock) (l:gL M K) {t r w:Int} {Q:List R5} (s:eN M M' t r w Q) (hQ:Q≠[]) {i:Nat} {k k':HE} (hi:K[i]? = some k) (ht:k.t=t) (hr:k.r=r) (hk:k'.t=t∧k'.r=r∧k'.w=w∧k'.Q=Q):gL M' (K.set i k'):=by
 obtain ⟨e,h1,h2,h3,h4,hp⟩:=s.put hQ
 obtain ⟨e0,Je,s0⟩:=l.each k (List.mem_of_getElem? hi)
 have t0:e0.t=t:=s0.1.symm.trans ht
 have r0:e0.r=r:=s0.2.1.symm.trans hr
 have hil:=(List.getElem?_eq_some_iff.1 hi).1
 have hnm:a_ k'=a_ k:=by unfold a_; rw[hk.1,hk.2.1,ht,hr]
 have hmap:(K.set i k').map a_=K.map a_:=by
  rw[List.map_set,hnm]
  apply List.ext_getElem?
  intro j
  rw[List.getElem?_set]
  by_cases e:i=j
  ·subst e; rw[if_pos rfl,if_pos (by simpa using hil),List.getElem?_map,hi]; rfl
  ·rw[if_neg e]
 have hsp:=uS o Je
 rw[t0,r0] at hsp
 have hne:a_ e=a_ e0:=by unfold a_; rw[h1,h2,t0,r0]
 have hM':(M'.map a_).Perm (M.map a_):=by
  have:=hp.map a_
  rw[List.map_append,List.map_singleton,hne] at this
  exact this.trans hsp.symm
 refine ⟨?_,?_,by rw[hmap]; exact l.qB,?_⟩
 ·rw[List.length_set,l.len]
  have:=hM'.length_eq
  simpa using this.symm
 ·rw[hmap]; exact l.perm.trans hM'.symm
 ·intro k2 hk2
  obtain ⟨j,hj⟩:=List.getElem?_of_mem hk2
  rw[List.getElem?_set] at hj
  by_cases e1:i=j
  ·subst e1
   rw[if_pos rfl,if_pos hil] at hj; cases hj
   exact ⟨e,hp.mem_iff.2 (List.mem_append_right _ (.head _)),hk.1.trans h1.symm,hk.2.1.trans h2.symm,hk.2.2.1.trans h3.symm,hk.2.2.2.trans h4.symm⟩
  ·rw[if_neg e1] at hj
   obtain ⟨e2,td,s2⟩:=l.each k2 (List.mem_of_getElem? hj)
   refine ⟨e2,hp.mem_iff.2 (List.mem_append_left _ (List.mem_filter.2 ⟨td,uP.2 ?_⟩)),s2⟩
   rintro ⟨h5,h6⟩
   exact e1 (l.Tr hi hj (by unfold a_; rw[ht,hr,s2.1,s2.2.1,h5,h6]))
theorem gL.erase (o:e_ M clock) (l:gL M K) {t r w:Int} (s:eN M M' t r w []) {i:Nat} {k:HE} (hi:K[i]? = some k) (ht:k.t=t) (hr:k.r=r):gL M' (K.take i++K.drop (i+1)):=by
 have hM':=s.gone rfl
 obtain ⟨e0,Je,s0⟩:=l.each k (List.mem_of_getElem? hi)
 have t0:e0.t=t:=s0.1.symm.trans ht
 have r0:e0.r=r:=s0.2.1.symm.trans hr
 have hil:=(List.getElem?_eq_some_iff.1 hi).1
 have eK:K=K.take i++k::K.drop (i+1):=by
  conv=>lhs; rw[←List.take_append_drop i K]
  rw[List.drop_eq_getElem_cons hil]
  rw[List.getElem?_eq_getElem hil] at hi
  cases hi; rfl
 have hsp:=uS o Je
 rw[t0,r0,←hM'] at hsp
 have hp2:((K.take i++K.drop (i+1)).map a_++[a_ e0]).Perm (M'.map a_++[a_ e0]):=by
  refine List.Perm.trans ?_ (l.perm.trans hsp)
  conv=>rhs; rw[eK]
  rw[←s0.nm,List.map_append,List.map_append,List.map_cons]
  exact ((List.perm_append_singleton _ _).trans List.perm_middle.symm)
 have Fc:=(List.perm_append_right_iff _).1 hp2
 refine ⟨by simpa using Fc.length_eq,Fc,?_,?_⟩
 ·refine l.qB.sublist (List.Sublist.map _ ?_)
  conv=>rhs; rw[eK]
  exact List.Sublist.append_left (List.sublist_cons_self _ _) _
 ·intro k2 hk2
  have XY:∃j,K[j]? = some k2∧j≠i:=by
   rcases List.mem_append.1 hk2 with h | h
   ·obtain ⟨j,hj⟩:=List.getElem?_of_mem h
    rw[List.getElem?_take] at hj
    split at hj
    ·exact ⟨j,hj,by omega⟩
    ·cases hj
   ·obtain ⟨j,hj⟩:=List.getElem?_of_mem h
    rw[List.getElem?_drop] at hj
    exact ⟨i+1+j,hj,by omega⟩
  obtain ⟨j,hj,hne⟩:=XY
  obtain ⟨e2,td,s2⟩:=l.each k2 (List.mem_of_getElem? hj)
  refine ⟨e2,?_,s2⟩
  rw[hM']
  refine List.mem_filter.2 ⟨td,uP.2 ?_⟩
  rintro ⟨h5,h6⟩
  exact hne (l.Tr hj hi (by unfold a_; rw[ht,hr,s2.1,s2.2.1,h5,h6]))
theorem gL.ins (l:gL M K) {t r w:Int} {Q:List R5} (s:eN M M' t r w Q) (hQ:Q≠[]) (hno:∀e∈M,¬(t=e.t∧r=e.r)) {i:Nat} {k':HE} (hk:k'.t=t∧k'.r=r∧k'.w=w∧k'.Q=Q)
  (h1:∀(j:Nat) (a:HE),j<i→K[j]? = some a→fH (a_ a) (t,r)) (h2:∀(j:Nat) (a:HE),i≤j→K[j]? = some a→fH (t,r) (a_ a)):gL M' (K.take i++k'::K.drop i):=by
 obtain ⟨e,g1,g2,g3,g4,hp⟩:=s.put hQ
 rw[ue hno] at hp
 have hnk:a_ k'=(t,r):=by unfold a_; rw[hk.1,hk.2.1]
 have hne:a_ e=(t,r):=by unfold a_; rw[g1,g2]
 have hp2:((K.take i++k'::K.drop i).map a_).Perm (M'.map a_):=by
  refine List.Perm.trans ?_ (hp.map a_).symm
  rw[List.map_append,List.map_append,List.map_cons,List.map_singleton,hnk,hne]
  refine List.perm_middle.trans ?_
  rw[←List.map_append,List.take_append_drop]
  exact ((List.perm_append_singleton _ _).symm.trans ((l.perm.append_right _)))
 refine ⟨by simpa using hp2.length_eq,hp2,?_,?_⟩
 ·have hs:=l.qB
  rw[←List.take_append_drop i K,List.map_append,List.pairwise_append] at hs
  rw[List.map_append,List.map_cons,List.pairwise_append,List.pairwise_cons,hnk]
  obtain ⟨s1,s2,s3⟩:=hs
  have up:∀b∈(K.drop i).map a_,fH (t,r) b:=by
   intro b hb
   obtain ⟨a,ha,rfl⟩:=List.mem_map.1 hb
   obtain ⟨j,hj⟩:=List.getElem?_of_mem ha
   rw[List.getElem?_drop] at hj
   exact h2 (i+j) a (by omega) hj
  refine ⟨s1,⟨up,s2⟩,?_⟩
  intro a ha b hb
  obtain ⟨a',ha',rfl⟩:=List.mem_map.1 ha
  obtain ⟨j,hj⟩:=List.getElem?_of_mem ha'
  rw[List.getElem?_take] at hj
  split at hj
  ·rename_i hji
   have h3:=h1 j a' hji hj
   rcases List.mem_cons.1 hb with rfl | hb
   ·exact h3
   ·exact jy h3 (up b hb)
  ·cases hj
 ·intro k2 hk2
  rcases List.mem_append.1 hk2 with h | h
  ·obtain ⟨e2,td,s2⟩:=l.each k2 (List.mem_of_mem_take h)
   exact ⟨e2,hp.mem_iff.2 (List.mem_append_left _ td),s2⟩
  ·rcases List.mem_cons.1 h with rfl | h
   ·exact ⟨e,hp.mem_iff.2 (List.mem_append_right _ (.head _)),hk.1.trans g1.symm,hk.2.1.trans g2.symm,hk.2.2.1.trans g3.symm,hk.2.2.2.trans g4.symm⟩
   ·obtain ⟨e2,td,s2⟩:=l.each k2 (List.mem_of_mem_drop h)
    exact ⟨e2,hp.mem_iff.2 (List.mem_append_left _ td),s2⟩
end
end Go.Proofs

namespace Go.Vai
def qR (v:Value) (c:Nat):Prop:=∃n,v=.slice (some ⟨c,0,none⟩) n aN
theorem cU.keep {α:Type} {enc:α→List Value} {a h h':Heap} {e:TypeId} {v:Value} {L:List α} (ho:cU enc a e h v L) (hn:h.nx≤h'.nx) (hl:h'.lo=h.lo) (hg:∀b vs,b<h.nx→h.bl.get b=some (af vs e true)→h'.bl.get b=h.bl.get b):cU enc a e h' v L:=by
 rcases ho with h0 | ⟨b,h1,h2,h3,h4,h5⟩
 ·exact .inl h0
 ·exact .inr ⟨b,h1,h2,Nat.lt_of_lt_of_le h3 hn,by rw[hl]; exact h4,(hg b _ h3 h5).trans h5⟩
theorem cU.blk {α:Type} {enc:α→List Value} {a h:Heap} {e:TypeId} {v:Value} {L:List α} (ho:cU enc a e h v L) {c:Nat} (hb:qR v c):a.nx≤c∧c<h.nx∧h.bl.get c=some (af (L.flatMap enc) e true):=by
 obtain ⟨n,hn⟩:=hb
 rcases ho with ⟨_,rfl | ⟨b,o,rfl⟩⟩ | ⟨b,rfl,h1,h2,h3,h4⟩
 ·cases hn
 ·have:(0:Nat)=aN:=by injection hn
  exact absurd this (by decide)
 ·injection hn with e1; injection e1 with e1; injection e1 with e1
  subst e1
  exact ⟨h1,h2,h4⟩
end Go.Vai
namespace Go.Proofs
open Go.Vai Go.Clashes
structure gH (S:Nat→Prop) (h h':Heap):Prop where
 nx:h.nx≤h'.nx
 lo:h'.lo=h.lo
 get:∀c,c<h.nx→¬S c→h'.bl.get c=h.bl.get c
theorem gH.of_le {S:Nat→Prop} {h h':Heap} (l:Le h h'):gH S h h':=⟨l.nx,l.lo,fun c hc _=>l.get c hc⟩
theorem gH.trans {S S':Nat→Prop} {h h' h'':Heap} (a:gH S h h') (b:gH S' h' h'') (hs:∀c,c<h.nx→S' c→S c):gH S h h'':=
 ⟨Nat.le_trans a.nx b.nx,b.lo.trans a.lo,fun c hc hn=>(b.get c (Nat.lt_of_lt_of_le hc a.nx) (fun x=>hn (hs c hc x))).trans (a.get c hc hn)⟩
theorem gH.mono {S S':Nat→Prop} {h h':Heap} (a:gH S h h') (hs:∀c,c<h.nx→S c→S' c):gH S' h h':=⟨a.nx,a.lo,fun c hc hn=>a.get c hc fun x=>hn (hs c hc x)⟩
theorem gH.le {S:Nat→Prop} {a h h':Heap} (f:gH S h h') (l:Le a h) (hs:∀c,S c→a.nx≤c):Le a h':=
 ⟨Nat.le_trans l.nx f.nx,f.lo.trans l.lo,fun c hc=>(f.get c (Nat.lt_of_lt_of_le hc l.nx) (fun x=>absurd (hs c x) (by omega))).trans (l.get c hc)⟩
theorem gH.one {S:Nat→Prop} {h:Heap} {b:Nat} (hb:S b) (o:bU):gH S h ⟨h.nx,h.bl.bf b o,h.lo⟩:=
 ⟨Nat.le_refl _,rfl,fun c _ hn=>T.aj _ _ (by rintro rfl; exact hn hb)⟩
structure bT (h:Heap) (rp rl:Nat) (B:List Bool):Prop where
 X2:rp<h.nx
 lop:h.lo≤rp
 PJ:rl<h.nx
 lol:h.lo≤rl
 oh:h.bl.get rp=some (af [.slice (some ⟨rl,0,none⟩) B.length B.length] 163 false)
 iq:h.bl.get rl=some (af (B.map Value.bool) 4 false)
 small:B.length≤128
structure iz (a h:Heap) (rb rp most:Nat) (v:Value) (K:List HE):Prop where
 lt:rb<h.nx
 lo:h.lo≤rb
 cell:h.bl.get rb=some (af [.int .i64 (most:Int),.pointer (some ⟨rp,0,none⟩),v] 165 false)
 own:rG a h v K
 emp:vw K v
 qv:∀k∈K,iK a h k.q k.Q
theorem bT.keep {h h':Heap} {rp rl:Nat} {B:List Bool} (p:bT h rp rl B) (hn:h.nx≤h'.nx) (hl:h'.lo=h.lo) (g1:h'.bl.get rp=h.bl.get rp) (g2:h'.bl.get rl=h.bl.get rl):bT h' rp rl B:=
 ⟨Nat.lt_of_lt_of_le p.X2 hn,by rw[hl]; exact p.lop,Nat.lt_of_lt_of_le p.PJ hn,by rw[hl]; exact p.lol,g1.trans p.oh,g2.trans p.iq,p.small⟩
theorem bT.le {h h':Heap} {rp rl:Nat} {B:List Bool} (p:bT h rp rl B) (l:Le h h'):bT h' rp rl B:=p.keep l.nx l.lo (l.get _ p.X2) (l.get _ p.PJ)
theorem iz.keep {a h h':Heap} {rb rp most:Nat} {v:Value} {K:List HE} (R:iz a h rb rp most v K) (hn:h.nx≤h'.nx) (hl:h'.lo=h.lo)
  (hg:∀c vs ty op,c<h.nx→h.bl.get c=some (af vs ty op)→(ty=165∨(ty=51∧op=true)∨ty=54)→h'.bl.get c=h.bl.get c):iz a h' rb rp most v K:=
 ⟨Nat.lt_of_lt_of_le R.lt hn,by rw[hl]; exact R.lo,(hg _ _ _ _ R.lt R.cell (.inl rfl)).trans R.cell,R.own.keep hn hl fun b vs hb g=>hg b vs _ _ hb g (.inr (.inl ⟨rfl,rfl⟩)),R.emp,fun k hk=>(R.qv k hk).keep hn hl fun c vs hc g=>hg c vs _ _ hc g (.inr (.inr rfl))⟩
theorem iz.le {a h h':Heap} {rb rp most:Nat} {v:Value} {K:List HE} (R:iz a h rb rp most v K) (l:Le h h'):iz a h' rb rp most v K:=R.keep l.nx l.lo fun c _ _ _ hc _ _=>l.get c hc
theorem bg.abI {h h':Heap} {bb bm bp bl most:Nat} {M:List HE} {clock:Nat} {F:List Int} {B:List Bool} (s:bg h bb bm bp bl most M clock F B) (hn:h.nx≤h'.nx) (hl:h'.lo=h.lo)
  (hg:∀c,c<h.nx→(∀vs op,h.bl.get c≠some (af vs 165 op))→(∀vs,h.bl.get c≠some (af vs 51 true))→(∀vs,c≠bl→h.bl.get c≠some (af vs 4 false))→h'.bl.get c=h.bl.get c):bg h' bb bm bp bl most M clock F B:=by
 have kc:∀{c:Nat} {vs:List Value} {ty:TypeId} {op:Bool},c<h.nx→h.bl.get c=some (af vs ty op)→ty≠165→ty≠4→(ty=51→op=false)→h'.bl.get c=h.bl.get c:=by
  intro c vs ty op hc g h1 h2 h3
  refine hg c hc (fun ws op'=>?_) (fun ws=>?_) fun ws _=>?_
  ·rw[g]; exact aL h1
  ·rw[g]
   by_cases e:ty=51
   ·rw[h3 e]; exact aO
   ·exact aL e
  ·rw[g]; exact aL h2
 obtain ⟨fs,v_,hpt⟩:=s.bM.fr.cell
 have gl:=s.bM.cell
 have gm:=s.iT
 refine ⟨Nat.lt_of_lt_of_le s.KB hn,Nat.lt_of_lt_of_le s.Fg hn,by rw[hl]; exact s.Rb,(kc s.KB s.gG (by decide) (by decide) (fun e=>absurd e (by decide))).trans s.gG,?_,s.ok,fun e he=>?_,s.good,⟨⟨Nat.lt_of_lt_of_le s.bM.fr.lt hn,by rw[hl]; exact s.bM.fr.lo,fs,(kc s.bM.fr.lt v_ (by decide) (by decide) (fun e=>absurd e (by decide))).trans v_,?_⟩,Nat.lt_of_lt_of_le s.bM.lt hn,by rw[hl]; exact s.bM.lo,?_,s.bM.ok,s.bM.small⟩,s.ne⟩
 ·exact (hg bm s.Fg (fun ws op=>by rw[gm]; exact bN) (fun ws=>by rw[gm]; exact bN) fun ws _=>by rw[gm]; exact bN).trans gm
 ·have H:=s.aG e he
  exact ⟨Nat.lt_of_lt_of_le H.lt hn,(kc H.lt H.get (by decide) (by decide) (fun _=>rfl)).trans H.get,H.qv.frame hn fun c vs op hc g=>kc hc g (by decide) (by decide) (fun e=>absurd e (by decide))⟩
 ·rcases hpt with e | ⟨b,G,e,k1,k2,k3,k4⟩
  ·exact .inl e
  ·exact .inr ⟨b,G,e,Nat.lt_of_lt_of_le k1 hn,by rw[hl]; exact k2,(kc k1 k3 (by decide) (by decide) (fun e=>absurd e (by decide))).trans k3,k4⟩
 ·exact (hg bl s.bM.lt (fun ws op=>by rw[gl]; exact aL (by decide)) (fun ws=>by rw[gl]; exact aO) fun ws e=>absurd rfl e).trans gl
def SK (rb rl:Nat) (v:Value) (c:Nat):Prop:=c=rb∨c=rl∨qR v c
theorem bg.frK {a h h':Heap} {bb bm bp bl most Am:Nat} {M:List HE} {clock:Nat} {F:List Int} {B B2:List Bool} (s:bg h bb bm bp bl most M clock F B) {rb rp rl:Nat} {v:Value} {K:List HE} (R:iz a h rb rp Am v K) (p:bT h rp rl B2) (hne:rl≠bl) (f:gH (SK rb rl v) h h'):bg h' bb bm bp bl most M clock F B:=by
 refine s.abI f.nx f.lo fun c hc h1 h2 h3=>f.get c hc ?_
 rintro (rfl | rfl | hb)
 ·exact h1 _ _ R.cell
 ·exact h3 _ hne p.iq
 ·exact h2 _ (R.own.blk hb).2.2
section
variable {a h:Heap} {bb bm bp bl most cap N:Nat} {M:List HE} {clock:Nat} {F:List Int} {B:List Bool} {rb rp rl:Nat} {v:Value} {K:List HE}
end
theorem EM {B:List Bool} {n n':Nat} (h:B[n]? = some false) (hl:∀k,k<n→B[k]? = some true) (h':B[n']? = some false) (hl':∀k,k<n'→B[k]? = some true):n=n':=by
 rcases Nat.lt_trichotomy n n' with e | e | e
 ·rw[hl' n e] at h; cases h
 ·exact e
 ·rw[hl n' e] at h'; cases h'
theorem uj {B:List Bool} {n:Nat} {b:Bool} (h:B[n]? = some b):(B.map Value.bool)[n]? = some (.bool b):=by rw[List.getElem?_map,h]; rfl
def pT (B:List Bool) (n:Nat):List Int:=((List.range n).filter fun n=>(B[n]?).getD false).map fun n:Nat=>(n:Int)
theorem EN (B:List Bool) (n:Nat):pT B (n+1)=if (B[n]?).getD false=true then pT B n++[(n:Int)] else pT B n:=by
 unfold pT
 rw[List.range_succ,List.filter_append,List.map_append]
 by_cases h:(B[n]?).getD false=true
 ·rw[if_pos h,List.filter_cons,if_pos h]; rfl
 ·rw[if_neg h,List.filter_cons,if_neg h]; simp
theorem B1 {h:Heap} {rp rl:Nat} {B:List Bool} (p:bT h rp rl B) (hlo:h.lo≤h.nx) (κ:KQ) (hk:∀h',Le h h'→κ (.int .i64 ((eW B).length:Int)) h') :
  CallW Tryz.prog 93 [.pointer (some ⟨rp,0,none⟩)] h κ:=by
 refine aq mixed ?_
 rw[aas]
 refine aq mixed ?_
 rw[Vs]
 have vl:=p.small
 have XW:(B.map Value.bool).length=B.length:=by simp
 refine ⟨fun n l h1=>∃i:Nat,slot l 21=.int .i64 (i:Int)∧i≤B.length∧n=B.length-i∧gV h h1 (slot l 18) (pT B i)∧(pT B i).length≤i∧Le h h1,⟨_,0,rfl,Nat.zero_le _,rfl,.inl ⟨rfl,.inl rfl⟩,Nat.le_refl _,Le.refl _⟩,?_⟩
 rintro n l h1 ⟨i,s1,hi,rfl,ho,hln,bu⟩
 have n1:=bu.nx
 have l1:=bu.lo
 have p1:=p.le bu
 have c1:=p1.oh
 have c2:=p1.iq
 obtain ⟨vi,ei⟩:∃vi,slot l 18=vi:=⟨_,rfl⟩
 rw[ei] at ho
 by_cases hlt:i<B.length
 ·obtain ⟨b,hb⟩:∃b,B[i]? = some b:=⟨_,List.getElem?_eq_getElem hlt⟩
  have hr:=uj hb
  have yD:=EN B i
  rw[hb] at yD
  simp(disch:=first|omega|simp only[Wd]<;>omega|with_unfolding_all rfl)only[Wz,xI,aU,c1,s1,bZ (show (i:Int)<(B.length:Int) by omega)]
  cases b with
  | false=>
   rw[if_neg (by simp)] at yD
   refine ⟨fun l' h'=>slot l' 11=vi∧HQ h1 h',?_,?_⟩
   ·simp(disch:=first|omega|simp only[Wd]<;>omega|with_unfolding_all rfl)only[Wz,xH,aU,c1,s1,bA,c2,hr,Nat.mul_one,ei]
    exact ⟨trivial,rfl⟩
   ·rintro l' h' ⟨k1,k2⟩
    cases (show h1=h' from k2)
    simp(disch:=first|omega|simp only[Wd]<;>omega|with_unfolding_all rfl)only[Wz,s1,k1]
    exact ⟨_,by omega,i+1,rfl,by omega,rfl,by rw[yD]; exact ho,by rw[yD]; omega,bu⟩
  | true=>
   rw[if_pos (by simp)] at yD
   refine ⟨fun l' h'=>gV h h' (slot l' 11) (pT B i++[(i:Int)])∧Le h h'∧h1.nx≤h'.nx,?_,?_⟩
   ·simp(disch:=first|omega|simp only[Wd]<;>omega|with_unfolding_all rfl)only[Wz,xH,aU,c1,s1,bA,c2,hr,Nat.mul_one,ei]
    have hle1:=(Le.refl h1).new (af [.int .i64 (i:Int)] 3 false)
    refine cT (enc:=cw) (a:=h) (L:=pT B i) (M:=[(i:Int)]) bY iL (by decide) (by decide) (ho.le hle1) (Sl.new (L:=[(i:Int)]) (e:=3) (op:=false) (Nat.lt_succ_self _) (T.aa _ _ _) _) (bu.new _) (by simp; omega) (by show h1.lo≤h1.nx+1; omega) _ ?_
    intro v' h6 tY vp wK hn2 Th hsame
    have:h1.nx+1≤h6.nx:=hn2
    exact ⟨tY,vp,by omega⟩
   ·rintro l' h' ⟨k1,k2,k3⟩
    exact ⟨_,by omega,i+1,rfl,by omega,rfl,by rw[yD]; exact k1,by rw[yD]; simp; omega,k2⟩
 ·have hil:i=B.length:=by omega
  subst hil
  simp(disch:=first|omega|simp only[Wd]<;>omega|with_unfolding_all rfl)only[Wz,xI,aU,c1,s1,bL (show (B.length:Int)≤(B.length:Int) by omega),ei]
  obtain ⟨x,c,rfl,_⟩:=ho.sl
  simp(disch:=first|omega|simp only[Wd]<;>omega|with_unfolding_all rfl)only[Wz]
  exact hk h1 bu
theorem Jf {h:Heap} {rp rl:Nat} {B:List Bool} (p:bT h rp rl B) (κ:KQ) (hk:κ (.int .i64 (B.length:Int)) h) :
  CallW Tryz.prog 178 [.pointer (some ⟨rp,0,none⟩)] h κ:=by
 refine aq mixed ?_
 rw[VT]
 have c1:=p.oh
 simp(disch:=first|omega|simp only[Wd]<;>omega|with_unfolding_all rfl)only[Wz,aU,c1]
 exact hk
theorem WY {h:Heap} {rp rl:Nat} {B:List Bool} (p:bT h rp rl B) (i:Int) (κ:KQ) (hk:κ (.bool (decide (0≤i) && (B[i.toNat]?).getD false)) h) :
  CallW Tryz.prog 213 [.pointer (some ⟨rp,0,none⟩),.int .i64 i] h κ:=by
 refine aq mixed ?_
 rw[We]
 have c1:=p.oh
 have c2:=p.iq
 have XW:(B.map Value.bool).length=B.length:=by simp
 by_cases h0:0≤i
 ·obtain ⟨n,rfl⟩:∃n:Nat,i=(n:Int):=⟨i.toNat,by omega⟩
  rw[aM h0,Bool.true_and,Int.toNat_natCast] at hk
  by_cases h1:n<B.length
  ·have hr:=uj (List.getElem?_eq_getElem h1)
   rw[List.getElem?_eq_getElem h1] at hk
   simp(disch:=first|omega|simp only[Wd]<;>omega|with_unfolding_all rfl)only[Wz,aU,c1,bL h0,bZ (show (n:Int)<(B.length:Int) by omega),bA,c2,hr,Nat.mul_one]
   exact hk
  ·rw[List.getElem?_eq_none (by omega)] at hk
   simp(disch:=first|omega|simp only[Wd]<;>omega|with_unfolding_all rfl)only[Wz,aU,c1,bL h0,bL (show (B.length:Int)≤(n:Int) by omega)]
   exact hk
 ·rw[aK h0,Bool.false_and] at hk
  simp(disch:=first|omega|simp only[Wd]<;>omega|with_unfolding_all rfl)only[Wz,aU,bZ (show i<0 by omega)]
  exact hk
theorem bT.put {h:Heap} {rp rl:Nat} {B:List Bool} (p:bT h rp rl B) (hne:rp≠rl) (n:Nat) (b:Bool):bT ⟨h.nx,h.bl.bf rl (af ((B.set n b).map Value.bool) 4 false),h.lo⟩ rp rl (B.set n b):=
 ⟨p.X2,p.lop,p.PJ,p.lol,by rw[List.length_set]; exact (T.aj _ _ (fun e=>hne e.symm)).trans p.oh,T.aa _ _ _,by rw[List.length_set]; exact p.small⟩
theorem bT.ne {h:Heap} {rp rl:Nat} {B:List Bool} (p:bT h rp rl B):rp≠rl:=by
 rintro rfl
 exact aL (by decide) (p.oh.symm.trans p.iq)
theorem Jg {h:Heap} {rp rl:Nat} {B:List Bool} (p:bT h rp rl B) (n:Nat) (hb:B[n]? = some true) (κ:KQ)
  (hk:bT ⟨h.nx,h.bl.bf rl (af ((B.set n false).map Value.bool) 4 false),h.lo⟩ rp rl (B.set n false)→κ (.int .i64 0) ⟨h.nx,h.bl.bf rl (af ((B.set n false).map Value.bool) 4 false),h.lo⟩) :
  CallW Tryz.prog 174 [.pointer (some ⟨rp,0,none⟩),.int .i64 (n:Int)] h κ:=by
 refine aq mixed ?_
 rw[VN]
 have c1:=p.oh
 have c2:=p.iq
 have agC:=p.lol
 have hn:n<B.length:=(List.getElem?_eq_some_iff.1 hb).1
 have XW:(B.map Value.bool).length=B.length:=by simp
 refine WY p n _ ?_
 have eh:(decide ((0:Int)≤(n:Int)) && (B[((n:Int)).toNat]?).getD false)=true:=by
  rw[aM (by omega),Int.toNat_natCast,hb]; rfl
 rw[eh]
 simp(disch:=first|omega|simp only[Wd]<;>omega|with_unfolding_all rfl)only[Wz,aU,c1,bA,c2,Nat.mul_one,qp hn]
 exact hk (p.put p.ne n false)
theorem Rv {h:Heap} {rp rl:Nat} {B:List Bool} (p:bT h rp rl B) (κ:KQ)
  (KD:(∀k,k<B.length→B[k]? = some true)→κ (.tuple ⟨[.int .i64 0,.int .i64 8]⟩) h)
  (dK:∀n:Nat,B[n]? = some false→(∀k,k<n→B[k]? = some true)→bT ⟨h.nx,h.bl.bf rl (af ((B.set n true).map Value.bool) 4 false),h.lo⟩ rp rl (B.set n true)→κ (.tuple ⟨[.int .i64 (n:Int),.int .i64 0]⟩) ⟨h.nx,h.bl.bf rl (af ((B.set n true).map Value.bool) 4 false),h.lo⟩) :
  CallW Tryz.prog 179 [.pointer (some ⟨rp,0,none⟩)] h κ:=by
 refine aq mixed ?_
 rw[VU]
 have c1:=p.oh
 have c2:=p.iq
 have agC:=p.lol
 have vl:=p.small
 have XW:(B.map Value.bool).length=B.length:=by simp
 refine ⟨fun n l h1=>∃i:Nat,slot l 26=.int .i64 (i:Int)∧i≤B.length∧n=B.length-i∧(∀k,k<i→B[k]? = some true)∧HQ h h1,⟨_,0,rfl,Nat.zero_le _,rfl,fun k hk=>(by omega),rfl⟩,?_⟩
 rintro n l h1 ⟨i,s1,hi,rfl,hall,hq⟩
 cases (show h=h1 from hq)
 by_cases hlt:i<B.length
 ·obtain ⟨b,hb⟩:∃b,B[i]? = some b:=⟨_,List.getElem?_eq_getElem hlt⟩
  have hr:=uj hb
  cases b with
  | false=>
   simp(disch:=first|omega|simp only[Wd]<;>omega|with_unfolding_all rfl)only[Wz,sC,aU,c1,s1,bZ (show (i:Int)<(B.length:Int) by omega),xT,bA,c2,hr,Nat.mul_one,qp hlt]
   exact dK i hb hall (p.put p.ne i true)
  | true=>
   simp(disch:=first|omega|simp only[Wd]<;>omega|with_unfolding_all rfl)only[Wz,sC,aU,c1,s1,bZ (show (i:Int)<(B.length:Int) by omega),xT,bA,c2,hr,Nat.mul_one]
   refine ⟨_,by omega,i+1,rfl,by omega,rfl,fun k hk=>?_,rfl⟩
   by_cases e:k=i
   ·subst e; exact hb
   ·exact hall k (by omega)
 ·have hil:i=B.length:=by omega
  subst hil
  simp(disch:=first|omega|simp only[Wd]<;>omega|with_unfolding_all rfl)only[Wz,sC,aU,c1,s1,bL (show (B.length:Int)≤(B.length:Int) by omega)]
  exact KD hall
theorem OF (t r t' r':Int) (h:Heap) (κ:KQ) (h1:fH (t,r) (t',r')→∀h',Le h h'→κ (.int .i64 (-1)) h') (h2:t=t'→r=r'→∀h',Le h h'→κ (.int .i64 0) h') (h3:fH (t',r') (t,r)→∀h',Le h h'→κ (.int .i64 1) h') :
  CallW Tryz.prog 23 [dz t r,dz t' r'] h κ:=by
 refine aq mixed ?_
 rw[Zs]
 have hl:Le h _:=((Le.refl h).new (af [.int .i64 t,.int .i64 r] 24 false)).new (af [.int .i64 t',.int .i64 r'] 24 false)
 by_cases c1:t<t'
 ·simp(disch:=first|omega|simp only[Wd]<;>omega|with_unfolding_all rfl)only[Wz,dz,bZ c1]
  exact h1 (.inl c1) _ hl
 ·by_cases c2:t=t'
  ·subst c2
   by_cases c3:r<r'
   ·simp(disch:=first|omega|simp only[Wd]<;>omega|with_unfolding_all rfl)only[Wz,dz,bL (Int.le_refl t),aM (rfl:t=t),bZ c3]
    exact h1 (.inr ⟨rfl,c3⟩) _ hl
   ·by_cases c4:r=r'
    ·subst c4
     simp(disch:=first|omega|simp only[Wd]<;>omega|with_unfolding_all rfl)only[Wz,dz,bL (Int.le_refl t),aM (rfl:t=t),bL (Int.le_refl r),OD]
     exact h2 rfl rfl _ hl
    ·simp(disch:=first|omega|simp only[Wd]<;>omega|with_unfolding_all rfl)only[Wz,dz,bL (Int.le_refl t),aM (rfl:t=t),bL (show r'≤r by omega),sP,aK (show ¬(t=t∧r=r') from fun e=>c4 e.2),aK (show ¬(True∧r=r') from fun e=>c4 e.2)]
     exact h3 (.inr ⟨rfl,by show r'<r; omega⟩) _ hl
  ·simp(disch:=first|omega|simp only[Wd]<;>omega|with_unfolding_all rfl)only[Wz,dz,bL (show t'≤t by omega),aK c2,sP,aK (show ¬(t=t'∧r=r') from fun e=>c2 e.1)]
   exact h3 (.inl (by show t'<t; omega)) _ hl
section
variable {a h:Heap} {rb rp most:Nat} {v:Value} {K:List HE}
theorem iz.ld (R:iz a h rb rp most v K) (i:Nat) {k:HE} (hk:K[i]? = some k) :
  ∃b o,b<h.nx∧(∀(β:Type) (fl:β) (h':Heap) (κ:Value→Heap→β),an fl 4 v (.int .i64 (i:Int)) h' κ=κ (.pointer (some ⟨b,o,none⟩)) h')∧
   ∀h',Le h h'→((∀(β:Type) (fl:β) (κ:List Value→β),vm fl (h'.bl.get b) o 2 κ=κ [.int .i64 k.t,.int .i64 k.r])∧
   (∀(β:Type) (fl:β) (κ:List Value→β),vm fl (h'.bl.get b) o 4 κ=κ [.int .i64 k.t,.int .i64 k.r,k.q,.int .i64 k.w])∧
   (∀(β:Type) (fl:β) (κ:Value→β),qM fl (h'.bl.get b) o κ=κ (.int .i64 k.t))∧
   (∀(β:Type) (fl:β) (κ:Value→β),qM fl (h'.bl.get b) (o+1) κ=κ (.int .i64 k.r))∧
   (∀(β:Type) (fl:β) (κ:Value→β),qM fl (h'.bl.get b) (o+2) κ=κ k.q)∧
   (∀(β:Type) (fl:β) (κ:Value→β),qM fl (h'.bl.get b) (o+3) κ=κ (.int .i64 k.w))):=
 KX R.own.sl i hk (nV (R.qv k (List.mem_of_getElem? hk)).sl)
theorem EO (R:iz a h rb rp most v K) (hlo:h.lo≤h.nx) (hl:K.length≤1000) (t r:Int) (κ:KQ)
  (dK:∀(i:Nat) h',i≤K.length→(∀(j:Nat) (k:HE),j<i→K[j]? = some k→fH (a_ k) (t,r))→(∀k,K[i]? = some k→fH (t,r) (a_ k))→Le h h'→κ (.tuple ⟨[.int .i64 (i:Int),.bool false]⟩) h')
  (fF:∀(i:Nat) (k:HE) h',K[i]? = some k→k.t=t→k.r=r→Le h h'→κ (.tuple ⟨[.int .i64 (i:Int),.bool true]⟩) h') :
  CallW Tryz.prog 132 [.pointer (some ⟨rb,0,none⟩),dz t r] h κ:=by
 refine aq mixed ?_
 rw[Vq]
 simp(disch:=first|omega|simp only[Wd]<;>omega|with_unfolding_all rfl)only[Wz,dz]
 obtain ⟨hA,az⟩:∃hA:Heap,hA=⟨h.nx+1,(h.bl.bf (h.nx) (af [.int .i64 t,.int .i64 r] 24 false)),h.lo⟩:=⟨_,rfl⟩
 have aH:Le h hA:=by subst az; exact ((Le.refl h).new _)
 have g1:hA.bl.get (h.nx)=some (af [.int .i64 t,.int .i64 r] 24 false):=by subst az; exact T.aa _ _ _
 have dF:hA.nx=h.nx+1:=by subst az; rfl
 have dG:hA.lo=h.lo:=by subst az; rfl
 rw[←az]
 clear az
 refine ⟨fun n l h1=>∃i:Nat,slot l 27=.int .i64 (i:Int)∧i≤K.length∧n=K.length-i∧(∀(j:Nat) (k:HE),j<i→K[j]? = some k→fH (a_ k) (t,r))∧Le hA h1,⟨_,0,rfl,Nat.zero_le _,rfl,fun j k hj=>(by omega),Le.refl _⟩,?_⟩
 rintro n l h1 ⟨i,s1,hi,rfl,hall,bu⟩
 have pR:=bu.nx
 have pS:=bu.lo
 have g1:=(bu.get _ (by omega)).trans g1
 have sQ:=aH.trans bu
 have R1:=R.le sQ
 have c1:=R1.cell
 have hlen:∀(β:Type) (fl:β) (h':Heap) (κ:Value→Heap→β),bh fl v h' κ=κ (.int .i64 (K.length:Int)) h':=fun β fl h' κ=>R1.own.sl.len κ h'
 by_cases hlt:i<K.length
 ·obtain ⟨k,hk⟩:∃k,K[i]? = some k:=⟨_,List.getElem?_eq_getElem hlt⟩
  obtain ⟨b,o,hb,dM,dg⟩:=R1.ld i hk
  have L1:=dg h1 (Le.refl _)
  simp(disch:=first|omega|simp only[Wd]<;>omega|with_unfolding_all rfl)only[Wz,xG,aU,c1,hlen,s1,bZ (show (i:Int)<(K.length:Int) by omega),DL,dM,L1,g1]
  refine OF k.t k.r t r h1 _ ?_ ?_ ?_
  ·intro WZ h2 aZ
   simp(disch:=first|omega|simp only[Wd]<;>omega|with_unfolding_all rfl)only[Wz,s1]
   refine ⟨_,by omega,i+1,rfl,by omega,rfl,fun j k' hj hk'=>?_,bu.trans aZ⟩
   by_cases e:j=i
   ·subst e; rw[hk] at hk'; cases hk'; exact WZ
   ·exact hall j k' (by omega) hk'
  ·intro e1 e2 h2 aZ
   simp(disch:=first|omega|simp only[Wd]<;>omega|with_unfolding_all rfl)only[Wz,s1]
   exact fF i k h2 hk e1 e2 (sQ.trans aZ)
  ·intro hgt h2 aZ
   simp(disch:=first|omega|simp only[Wd]<;>omega|with_unfolding_all rfl)only[Wz,s1]
   refine dK i h2 hi hall (fun k' hk'=>?_) (sQ.trans aZ)
   rw[hk] at hk'; cases hk'; exact hgt
 ·have hil:i=K.length:=by omega
  subst hil
  simp(disch:=first|omega|simp only[Wd]<;>omega|with_unfolding_all rfl)only[Wz,xG,aU,c1,hlen,s1,bL (show (K.length:Int)≤(K.length:Int) by omega)]
  refine dK K.length h1 (Nat.le_refl _) hall (fun k' hk'=>?_) sQ
  rw[List.getElem?_eq_none (Nat.le_refl _)] at hk'; cases hk'
theorem An (R:iz a h rb rp most v K) (hlo:h.lo≤h.nx) (hl:K.length≤1000) (gd:∀k∈K,iM k) (d:Int) (κ:KQ)
  (dK:∀h',(∀k∈K,bq k.Q d=none)→Le h h'→κ (.int .i64 (-1)) h')
  (fF:∀(i:Nat) (k:HE) (p:R5) h',K[i]? = some k→bq k.Q d=some p→Le h h'→κ (.int .i64 (i:Int)) h') :
  CallW Tryz.prog 128 [.pointer (some ⟨rb,0,none⟩),.int .i64 d] h κ:=by
 refine aq mixed ?_
 rw[Vn]
 refine ⟨fun n l h1=>∃i:Nat,slot l 26=.int .i64 (i:Int)∧i≤K.length∧n=K.length-i∧(∀(j:Nat) (k:HE),j<i→K[j]? = some k→bq k.Q d=none)∧Le h h1,⟨_,0,rfl,Nat.zero_le _,rfl,fun j k hj=>(by omega),Le.refl _⟩,?_⟩
 rintro n l h1 ⟨i,s1,hi,rfl,hall,bu⟩
 have n1:=bu.nx
 have l1:=bu.lo
 have R1:=R.le bu
 have c1:=R1.cell
 have hlen:∀(β:Type) (fl:β) (h':Heap) (κ:Value→Heap→β),bh fl v h' κ=κ (.int .i64 (K.length:Int)) h':=fun β fl h' κ=>R1.own.sl.len κ h'
 by_cases hlt:i<K.length
 ·obtain ⟨k,hk⟩:∃k,K[i]? = some k:=⟨_,List.getElem?_eq_getElem hlt⟩
  obtain ⟨b,o,hb,dM,dg⟩:=R1.ld i hk
  have L1:=dg h1 (Le.refl _)
  have gI:=List.mem_of_getElem? hk
  have vl:=(gd k gI).small
  simp(disch:=first|omega|simp only[Wd]<;>omega|with_unfolding_all rfl)only[Wz,xF,aU,c1,hlen,s1,bZ (show (i:Int)<(K.length:Int) by omega),DK,dM,L1]
  refine sO k.t k.r k.q k.w d k.Q h1 _ (R1.qv k gI).sl (by omega) (by omega) ?_
  intro h2 aZ
  have n2:=aZ.nx
  have l2:=aZ.lo
  cases hf:bq k.Q d with
  | some p=>
   simp(disch:=first|omega|simp only[Wd]<;>omega|with_unfolding_all rfl)only[Wz,s1,aW]
   exact fF i k p _ hk hf ((bu.trans aZ).new _)
  | none=>
   simp(disch:=first|omega|simp only[Wd]<;>omega|with_unfolding_all rfl)only[Wz,s1,aW]
   refine ⟨_,by omega,i+1,rfl,by omega,rfl,fun j k' hj hk'=>?_,(bu.trans aZ).new _⟩
   by_cases e:j=i
   ·subst e; rw[hk] at hk'; cases hk'; exact hf
   ·exact hall j k' (by omega) hk'
 ·have hil:i=K.length:=by omega
  subst hil
  simp(disch:=first|omega|simp only[Wd]<;>omega|with_unfolding_all rfl)only[Wz,xF,aU,c1,hlen,s1,bL (show (K.length:Int)≤(K.length:Int) by omega)]
  refine dK h1 (fun k hk=>?_) bu
  obtain ⟨j,hj⟩:=List.getElem?_of_mem hk
  exact hall j k (List.getElem?_eq_some_iff.1 hj).1 hj
theorem Rw (R:iz a h rb rp most v K) (κ:KQ) (hk:κ (.int .i64 (K.length:Int)) h):CallW Tryz.prog 92 [.pointer (some ⟨rb,0,none⟩)] h κ:=by
 refine aq mixed ?_
 rw[aar]
 have c1:=R.cell
 have hlen:∀(β:Type) (fl:β) (h':Heap) (κ:Value→Heap→β),bh fl v h' κ=κ (.int .i64 (K.length:Int)) h':=fun β fl h' κ=>R.own.sl.len κ h'
 simp(disch:=first|omega|simp only[Wd]<;>omega|with_unfolding_all rfl)only[Wz,aU,c1,hlen]
 exact hk
theorem EP (R:iz a h rb rp most v K) (hlo:h.lo≤h.nx) (hl:K.length≤1000) (gd:∀k∈K,iM k) (qB:(K.map a_).Pairwise fH) (t r x:Int) (κ:KQ)
  (dK:∀h',(∀k∈K,t=k.t→r=k.r→∀p∈k.Q,p.x≠x)→Le h h'→κ (.tuple ⟨[.int .i64 0,.bool false]⟩) h')
  (fF:∀h' k p,k∈K→t=k.t→r=k.r→p∈k.Q→p.x=x→Le h h'→κ (.tuple ⟨[.int .i64 p.id,.bool true]⟩) h') :
  CallW Tryz.prog 91 [.pointer (some ⟨rb,0,none⟩),dz t r,.int .i64 x] h κ:=by
 refine aq mixed ?_
 rw[aaq]
 simp(disch:=first|omega|simp only[Wd]<;>omega|with_unfolding_all rfl)only[Wz,dz]
 obtain ⟨hA,az⟩:∃hA:Heap,hA=⟨h.nx+1,(h.bl.bf (h.nx) (af [.int .i64 t,.int .i64 r] 24 false)),h.lo⟩:=⟨_,rfl⟩
 have aH:Le h hA:=by subst az; exact ((Le.refl h).new _)
 have g1:hA.bl.get (h.nx)=some (af [.int .i64 t,.int .i64 r] 24 false):=by subst az; exact T.aa _ _ _
 have dF:hA.nx=h.nx+1:=by subst az; rfl
 have dG:hA.lo=h.lo:=by subst az; rfl
 rw[←az]
 clear az
 have XY:∀(i:Nat) (k0 k:HE),K[i]? = some k0→k∈K→t=k0.t→r=k0.r→t=k.t→r=k.r→k=k0:=by
  intro i k0 k abJ hk e1 e2 e3 e4
  obtain ⟨j,hj⟩:=List.getElem?_of_mem hk
  have G:=cr.1 qB
  have ha:(K.map a_)[i]? = some (a_ k0):=by rw[List.getElem?_map,abJ]; rfl
  have hb:(K.map a_)[j]? = some (a_ k):=by rw[List.getElem?_map,hj]; rfl
  have hn:a_ k0=a_ k:=by unfold a_; rw[←e1,←e2,←e3,←e4]
  rcases Nat.lt_trichotomy i j with h | h | h
  ·have:=G i j _ _ h ha hb; rw[hn] at this; unfold fH at this; omega
  ·subst h; rw[abJ] at hj; cases hj; rfl
  ·have:=G j i _ _ h hb ha; rw[hn] at this; unfold fH at this; omega
 refine EO (R.le aH) (by omega) hl t r _ ?_ ?_
 ·intro i h1 hi h2 h3 bu
  simp(disch:=first|omega|simp only[Wd]<;>omega|with_unfolding_all rfl)only[Wz]
  refine dK h1 (fun k hk e1 e2=>?_) (aH.trans bu)
  obtain ⟨j,hj⟩:=List.getElem?_of_mem hk
  have hnm:a_ k=(t,r):=by unfold a_; rw[←e1,←e2]
  rcases Nat.lt_trichotomy j i with h | h | h
  ·have:=h2 j k h hj; rw[hnm] at this; unfold fH at this; omega
  ·subst h; have:=h3 k hj; rw[hnm] at this; unfold fH at this; omega
  ·exfalso
   have hlt:i<K.length:=by have:=(List.getElem?_eq_some_iff.1 hj).1; omega
   obtain ⟨ki,hki⟩:∃k,K[i]? = some k:=⟨_,List.getElem?_eq_getElem hlt⟩
   have g1:=h3 ki hki
   have g2:=cr.1 qB i j (a_ ki) (a_ k) h (by rw[List.getElem?_map,hki]; rfl) (by rw[List.getElem?_map,hj]; rfl)
   have:=jy g1 g2
   rw[hnm] at this; unfold fH at this; omega
 ·intro i k h1 hk e1 e2 bu
  have n1:=bu.nx
  have l1:=bu.lo
  have R1:=(R.le aH).le bu
  have c1:=R1.cell
  have gI:=List.mem_of_getElem? hk
  have vl:=(gd k gI).small
  obtain ⟨b,o,hb,dM,dg⟩:=R1.ld i hk
  have L1:=dg h1 (Le.refl _)
  have hq:=(R1.qv k gI).sl
  simp(disch:=first|omega|simp only[Wd]<;>omega|with_unfolding_all rfl)only[Wz]
  refine ⟨fun n l h'=>∃j:Nat,slot l 41=.int .i64 (j:Int)∧j≤k.Q.length∧n=k.Q.length-j∧(∀(m:Nat) (p:R5),m<j→k.Q[m]? = some p→p.x≠x)∧HQ h1 h',⟨_,0,rfl,Nat.zero_le _,rfl,fun j k hj=>(by omega),rfl⟩,?_⟩
  rintro n l h' ⟨j,s1,hj,rfl,hall,hQ⟩
  cases (show h1=h' from hQ)
  by_cases hlt:j<k.Q.length
  ·obtain ⟨p,hp⟩:∃p,k.Q[j]? = some p:=⟨_,List.getElem?_eq_getElem hlt⟩
   obtain ⟨b2,o2,zP,abK,abL⟩:=tf hq j hp
   by_cases hx:p.x=x
   ·simp (maxSteps:=3000000) (disch:=first|omega|simp only[Wd]<;>omega|with_unfolding_all rfl)only[Wz,vQ,aU,c1,dM,L1,hq.len,s1,bZ (show (j:Int)<(k.Q.length:Int) by omega),BL,abK,abL,aM hx,IU]
    exact fF h1 k p gI e1.symm e2.symm (List.mem_of_getElem? hp) hx (aH.trans bu)
   ·simp (maxSteps:=3000000) (disch:=first|omega|simp only[Wd]<;>omega|with_unfolding_all rfl)only[Wz,vQ,aU,c1,dM,L1,hq.len,s1,bZ (show (j:Int)<(k.Q.length:Int) by omega),BL,abK,abL,aK hx]
    refine ⟨_,by omega,j+1,rfl,by omega,rfl,fun m q hm tc=>?_,rfl⟩
    by_cases e:m=j
    ·subst e; rw[hp] at tc; cases tc; exact hx
    ·exact hall m q (by omega) tc
  ·have hjl:j=k.Q.length:=by omega
   subst hjl
   simp (maxSteps:=3000000) (disch:=first|omega|simp only[Wd]<;>omega|with_unfolding_all rfl)only[Wz,vQ,aU,c1,dM,L1,hq.len,s1,bL (show (k.Q.length:Int)≤(k.Q.length:Int) by omega)]
   refine dK h1 (fun k' hk' e3 e4 p hp=>?_) (aH.trans bu)
   have:=XY i k k' hk hk' e1.symm e2.symm e3 e4
   subst this
   obtain ⟨m,hm⟩:=List.getElem?_of_mem hp
   exact hall m p (List.getElem?_eq_some_iff.1 hm).1 hm
theorem Rx (R:iz a h rb rp most v K) (hlo:h.lo≤h.nx) (hl:K.length≤1000) (gd:∀k∈K,iM k) (d:Int) (κ:KQ)
  (dK:∀h',(∀k∈K,bq k.Q d=none)→Le h h'→κ (.tuple ⟨[dz 0 0,ji ⟨0,0,0,0,0⟩,.bool false]⟩) h')
  (fF:∀h' k p,k∈K→bq k.Q d=some p→Le h h'→κ (.tuple ⟨[dz k.t k.r,ji p,.bool true]⟩) h') :
  CallW Tryz.prog 89 [.pointer (some ⟨rb,0,none⟩),.int .i64 d] h κ:=by
 refine aq mixed ?_
 rw[aao]
 simp(disch:=first|omega|simp only[Wd]<;>omega|with_unfolding_all rfl)only[Wz]
 obtain ⟨hA,az⟩:∃hA:Heap,hA=⟨h.nx+1+1,((h.bl.bf (h.nx) (af [.int .i64 0,.int .i64 0] 24 false)).bf (h.nx+1) (fq ⟨0,0,0,0,0⟩)),h.lo⟩:=⟨_,rfl⟩
 have aH:Le h hA:=by subst az; exact (((Le.refl h).new _).new _)
 have g1:hA.bl.get (h.nx)=some (af [.int .i64 0,.int .i64 0] 24 false):=by subst az; exact (T.aj _ _ (by omega)).trans (T.aa _ _ _)
 have g3:hA.bl.get (h.nx+1)=some (fq ⟨0,0,0,0,0⟩):=by subst az; exact T.aa _ _ _
 have dF:hA.nx=h.nx+1+1:=by subst az; rfl
 have dG:hA.lo=h.lo:=by subst az; rfl
 rw[←az]
 clear az
 refine An (R.le aH) (by omega) hl gd d _ ?_ ?_
 ·intro h1 hno bu
  have pR:=bu.nx
  have pS:=bu.lo
  have g1:=(bu.get _ (by omega)).trans g1
  have g3:=(bu.get _ (by omega)).trans g3
  simp(disch:=first|omega|simp only[Wd]<;>omega|with_unfolding_all rfl)only[Wz,bZ (show (-1:Int)<0 by decide),g1,g3,aW]
  exact dK _ hno ((((aH.trans bu).set (b:=h.nx) (by omega) _)).set (b:=h.nx+1) (by omega) _)
 ·intro i k p h1 hk hf bu
  have pR:=bu.nx
  have pS:=bu.lo
  have g1:=(bu.get _ (by omega)).trans g1
  have g3:=(bu.get _ (by omega)).trans g3
  have R1:=(R.le aH).le bu
  have c1:=R1.cell
  have gI:=List.mem_of_getElem? hk
  have vl:=(gd k gI).small
  obtain ⟨b,o,hb,dM,dg⟩:=R1.ld i hk
  have L1:=dg h1 (Le.refl _)
  simp(disch:=first|omega|simp only[Wd]<;>omega|with_unfolding_all rfl)only[Wz,bL (show (0:Int)≤(i:Int) by omega),IQ,aU,c1,dM,L1]
  refine sO k.t k.r k.q k.w d k.Q h1 _ (R1.qv k gI).sl (by omega) (by omega) ?_
  intro h2 aZ
  have iU:=aZ.nx
  have iV:=aZ.lo
  have g1:=(aZ.get _ (by omega)).trans g1
  have g3:=(aZ.get _ (by omega)).trans g3
  rw[hf]
  have c2:=(R1.le aZ).cell
  have hrb:=R.lt
  have L2:=dg h2 aZ
  simp (maxSteps:=3000000) (disch:=first|omega|simp only[Wd]<;>omega|with_unfolding_all rfl)only[Wz,aW,aU,c2,dM,L2,g1,g3,aa4]
  exact fF _ k p gI hf (((((aH.trans bu).trans aZ).new _).set (b:=h.nx) (by omega) _).set (b:=h.nx+1) (by omega) _)
end
end Go.Proofs
