/-
  PROVED HERE: a part of the proof (N11, N12).
-/
import Derived.Test.YtijmemedhkgplaaGreatDoorNC
set_option linter.unusedVariables false
set_option linter.unusedSimpArgs false
set_option maxRecDepth 100000
set_option maxHeartbeats 16000000
namespace Go.Proofs
open Go.Vai Go.Clashes
theorem GM {α β γ:Type} {f:α→List γ} {g:β→List γ}:∀(A:List α) (C:List β),A.length=C.length→(∀(k:Nat) (a:α) (b:β),A[k]? = some a→C[k]? = some b→(f a).Perm (g b))→(A.flatMap f).Perm (C.flatMap g):=by
 intro A
 induction A with
 | nil=>
  intro C hl _
  have:C=[]:=List.eq_nil_of_length_eq_zero hl.symm
  subst this
  exact List.Perm.refl _
 | cons a A ih=>
  intro C hl h
  cases C with
  | nil=>cases hl
  | cons b C=>
   rw[List.flatMap_cons,List.flatMap_cons]
   exact (h 0 a b rfl rfl).append (ih C (by simpa using hl) fun k x y hx hy=>h (k+1) x y hx hy)
theorem yS {L:List vz} (h:(L.map Ls).Nodup):L.Nodup:=by
 rw[List.Nodup,List.pairwise_map] at h
 exact h.imp fun hne e=>hne (congrArg Ls e)
section
variable {a0 h:Heap} {tb bw bp bl:Nat} {c:fI} {vb:Value} {aG N:Nat} {Ts:List TB} {W:List IE} {wc:Nat} {F:List Int} {B:List Bool} {rt rp rl:Nat} {vr:Value} {R:List RB}
theorem bS.snap (J:bS a0 h tb bw bp bl c vb aG N Ts W wc F B rt rp rl vr R) {h':Heap} {v:Value} {K:List HE} (t:ny h' Ts v K):Ca R (K.map dX):=by
 have hnm:(R.flatMap fun r=>r.K.map a_).Perm (Ts.flatMap fun b=>b.M.map a_):=
  GM R Ts J.len fun k r b hr hb=>(J.like k b r hb hr).perm
 have ahs:((R.flatMap fun r=>r.K.map dX).map Ls).Nodup:=by
  rw[List.map_flatMap]
  simp only[kF]
  exact (hnm.nodup_iff).2 J.st.nodup
 have aht:((K.map dX).map Ls).Nodup:=by
  rw[kF]
  exact (t.perm.nodup_iff).2 J.st.nodup
 refine ⟨?_,by rw[kF]; exact t.qB,?_,?_⟩
 ·refine (List.perm_ext_iff_of_nodup (yS aht) (yS ahs)).2 fun x=>?_
  constructor
  ·intro hx
   obtain ⟨k,hk,rfl⟩:=List.mem_map.1 hx
   obtain ⟨⟨b,hb,e,he,s1,s2,s3,s4⟩,_⟩:=t.each k hk
   obtain ⟨j,hj⟩:=List.getElem?_of_mem hb
   obtain ⟨r,hr,l⟩:=J.at hj
   obtain ⟨k2,hk2,q1,q2,q3,q4⟩:=l.yC (J.lk hj).is.ok he
   refine List.mem_flatMap.2 ⟨r,List.mem_of_getElem? hr,List.mem_map.2 ⟨k2,hk2,?_⟩⟩
   unfold dX
   rw[q1,q2,q3,q4,s1,s2,s3,s4]
  ·intro hx
   obtain ⟨r,hr,hx⟩:=List.mem_flatMap.1 hx
   obtain ⟨k2,hk2,rfl⟩:=List.mem_map.1 hx
   obtain ⟨j,hj⟩:=List.getElem?_of_mem hr
   obtain ⟨b,hb,l⟩:=J.atR hj
   obtain ⟨e,he,q1,q2,q3,q4⟩:=l.each k2 hk2
   have KJ:=List.mem_of_getElem? hb
   have:a_ e∈K.map a_:=t.perm.mem_iff.2 (List.mem_flatMap.2 ⟨b,KJ,List.mem_map.2 ⟨e,he,rfl⟩⟩)
   obtain ⟨k,hk,hn⟩:=List.mem_map.1 this
   obtain ⟨⟨b',hb',e',he',s1,s2,s3,s4⟩,_⟩:=t.each k hk
   have e1:e'.t=e.t:=s1.symm.trans (congrArg Prod.fst hn)
   have e2:e'.r=e.r:=s2.symm.trans (congrArg Prod.snd hn)
   have:=J.st.uniq hb' KJ he' he e1 e2
   subst this
   refine List.mem_map.2 ⟨k,hk,?_⟩
   unfold dX
   rw[q1,q2,q3,q4,s1,s2,s3,s4]
 ·have h1:=J.st.sum t.of
  have h2:=J.st.is.bM.small
  have h3:((K.map dX).map fun k=>k.2.2.2.length).sum=zq K:=by
   rw[List.map_map]; rfl
  have h4:zq K≤128:=by omega
  exact Nat.le_trans (Nat.le_of_eq h3) h4
 ·intro k hk
  obtain ⟨k0,dK,rfl⟩:=List.mem_map.1 hk
  exact t.of.pair J.st k0 dK
theorem Ly {h' h2:Heap} {v v2:Value} {K O:List HE} (t:ny h' Ts v K) (e:O.map dX=K.map dX) (hQ:∀k∈O,QV h2 k.q k.Q) (ho:rG h h2 v2 O):ny h2 Ts v2 O:=by
 have hn:O.map a_=K.map a_:=by rw[←kF,←kF,e]
 refine ⟨by rw[hn]; exact t.perm,by rw[hn]; exact t.qB,fun k hk=>⟨?_,hQ k hk⟩,ho.sl,uK.own ho⟩
 have:dX k∈K.map dX:=by rw[←e]; exact List.mem_map.2 ⟨k,hk,rfl⟩
 obtain ⟨k2,hk2,e2⟩:=List.mem_map.1 this
 obtain ⟨b,hb,x,hx,s1,s2,s3,s4⟩:=(t.each k2 hk2).1
 obtain ⟨g1,g2,g3,g4⟩:=uk e2
 exact ⟨b,hb,x,hx,g1.symm.trans s1,g2.symm.trans s2,g3.symm.trans s3,g4.symm.trans s4⟩
theorem all_keys (s:iW h tb bw bp bl c vb aG N Ts W wc F B) {h1 h2:Heap} {v1 v2:Value} {K K2:List HE} {D:List L4} (t:ny h1 Ts v1 K) (ta:uZ h2 Ts v2 D K2):D.Perm ((K.map dX).flatMap dA)∧D.Pairwise qS:=by
 have e:=Lp s (Alike.refl Ts) t.of ta.of
 have hp:D.Perm ((K.map dX).flatMap dA):=by
  rw[←Lt,←e]; exact ta.perm
 have Ow:((K.map dX).flatMap dA).Pairwise fun a b=>a.x=b.x→qS a b:=by
  refine B9 (by rw[kF]; exact t.qB) fun k hk=>?_
  obtain ⟨k0,dK,rfl⟩:=List.mem_map.1 hk
  exact t.of.pair s k0 dK
 exact ⟨hp,E8 Ow hp ta.qB⟩
theorem GN (s:iW h tb bw bp bl c vb aG N Ts W wc F B) {h1 h2:Heap} {v1 v2:Value} {K K2:List HE} {D:List L4} (t:ny h1 Ts v1 K) (ta:uZ h2 Ts v2 D K2) (x:Int):(D.filter fun p=>decide (p.x=x))=((K.map dX).flatMap dA).filter fun p=>decide (p.x=x):=by
 obtain ⟨hp,hs⟩:=all_keys s t ta
 have Ow:((K.map dX).flatMap dA).Pairwise fun a b=>a.x=b.x→qS a b:=by
  refine B9 (by rw[kF]; exact t.qB) fun k hk=>?_
  obtain ⟨k0,dK,rfl⟩:=List.mem_map.1 hk
  exact t.of.pair s k0 dK
 exact AA (hp.filter _) (hs.sublist List.filter_sublist) (u7 Ow x)
theorem Sa (s:iW h tb bw bp bl c vb aG N Ts W wc F B) (hlo:h.lo≤h.nx) (κ:KQ) (hk:∀h',Le h h'→κ (sY c) h'):CallW Tryz.prog 39 [.pointer (some ⟨tb,0,none⟩)] h κ:=by
 refine aq mixed ?_
 rw[ZL]
 have gt:=s.is.lH
 have ht:=s.is.Ty
 simp(disch:=first|omega|simp only[Wd]<;>omega|with_unfolding_all rfl)only[Wz,lI,aU,gt]
 exact hk _ ((Le.refl h).new _)
end
theorem Sb (h:Heap) (a b c d a' b' c' d':Int):lP Tryz.prog h 100 29 (.agg ⟨[.int .i64 a,.int .i64 b,.int .i64 c,.int .i64 d]⟩) (.agg ⟨[.int .i64 a',.int .i64 b',.int .i64 c',.int .i64 d']⟩) =
  (match (some (jI a a')) with | some true=>(match some (jI b b') with | some true=>(match some (jI c c') with | some true=>(match some (jI d d') with | some true=>some true | r=>r) | r=>r) | r=>r) | r=>r):=by kernel_rfl
theorem GO {β:Type} {fl:β} (cn:Bool) (a b c d:Int) (h:Heap) (κ:Value→Heap→β):av fl Tryz.prog .eql 29 cn false (.agg ⟨[.int .i64 a,.int .i64 b,.int .i64 c,.int .i64 d]⟩) (.agg ⟨[.int .i64 a,.int .i64 b,.int .i64 c,.int .i64 d]⟩) h κ=κ (.bool true) h:=by
 have:lP Tryz.prog h 100 29 (.agg ⟨[.int .i64 a,.int .i64 b,.int .i64 c,.int .i64 d]⟩) (.agg ⟨[.int .i64 a,.int .i64 b,.int .i64 c,.int .i64 d]⟩)=some true:=by
  rw[Sb]; simp only[ff,decide_true]
 simp only[av,this,cq]
theorem Cd (c:fI) (L:List Act) (h:Heap) (v:Value) (hv:Sl dc h v L) (hlo:h.lo≤h.nx) (hno:∀c vs t,h.bl.get c≠some (af vs t true)) (κ:KQ) (hk:∀h',κ (.bool true) h') :
  CallW Tryz.prog 7 [sY c,v] h κ:=by
 obtain ⟨x,cc,ev,_⟩:=(show Sl dc h v L from hv)
 refine aq mixed ?_
 rw[aeB,ev]
 have ahu:=Xf hno [.int .i64 c.S,.int .i64 c.H,.int .i64 c.R,.int .i64 c.P] 29 h.nx
 simp(disch:=first|omega|simp only[Wd]<;>omega|with_unfolding_all rfl)only[Wz,sY]
 obtain ⟨hA,az⟩:∃hA:Heap,hA=⟨h.nx+1,h.bl.bf h.nx (af [.int .i64 c.S,.int .i64 c.H,.int .i64 c.R,.int .i64 c.P] 29 false),h.lo⟩:=⟨_,rfl⟩
 have aH:Le h hA:=by rw[az]; exact (Le.refl h).new _
 have dF:hA.nx=h.nx+1:=by rw[az]
 have dG:hA.lo=h.lo:=by rw[az]
 have gA:hA.bl.get h.nx=some (af [.int .i64 c.S,.int .i64 c.H,.int .i64 c.R,.int .i64 c.P] 29 false):=by rw[az]; exact T.aa _ _ _
 have gA0:=gA
 have ahv:∀c ws t',hA.bl.get c≠some (af ws t' true):=by rw[az]; exact ahu
 rw[←az]
 clear az
 refine r7 mixed Pd ?_
 by_cases h50:L.length≤50
 case neg=>
  simp(disch:=first|omega|simp only[Wd]<;>omega|with_unfolding_all rfl)only[Wz,aM (show (50:Int)<(L.length:Int) by omega)]
  exact hk hA
 simp(disch:=first|omega|simp only[Wd]<;>omega|with_unfolding_all rfl)only[Wz,bL (show (L.length:Int)≤50 by omega),M9,gA]
 have eV:(Value.agg ⟨[.int .i64 c.S,.int .i64 c.H,.int .i64 c.R,.int .i64 c.P]⟩)=sY c:=rfl
 rw[eV]
 refine RG c hA _ (by omega) ?_ ?_
 ·intro h1 e he Xl bu
  subst he
  have pR:=bu.nx
  have pS:=bu.lo
  have gA:=(bu.get _ (by omega)).trans gA
  simp(disch:=first|omega|simp only[Wd]<;>omega|with_unfolding_all rfl)only[Wz,gA]
  rw[eV]
  refine Jt c hA h1 _ (by omega) ?_ ?_
  ·intro _ h2 aZ
   simp(disch:=first|omega|simp only[Wd]<;>omega|with_unfolding_all rfl)only[Wz,aM (show (2:Int)=2 from rfl),aK (show ¬(2:Int)=0 by decide),M8,Pe]
   exact hk h2
  ·intro h2 rt rp rl vr R aG cok; exact absurd cok Xl
 intro h1 tb bw bp bl vb aG Ts F ahw sT gbm gbw gbp gbl bu _
 have pR:=bu.nx
 have pS:=bu.lo
 have gA:=(bu.get _ (by omega)).trans gA
 simp(disch:=first|omega|simp only[Wd]<;>omega|with_unfolding_all rfl)only[Wz,gA]
 rw[eV]
 have agQ:=sT.is.bM.lt
 refine Jt c hA h1 _ (by omega) ?_ ?_
 ·intro Xl; exact absurd ahw Xl
 intro h2 rt rp rl vr R GQ cok eH tR hR grl aZ
 obtain rfl:GQ=aG:=by have:=sT.cH; omega
 have acr:∀b∈Ts,b.M=[]:=by
  intro b hb
  rw[List.eq_nil_iff_forall_not_mem]
  intro e he
  obtain ⟨p,hp⟩:=List.exists_mem_of_ne_nil _ ((sT.is.bk b hb).good e he).ne
  have h1:p.id∈Ts.flatMap fun b=>eT b.M:=List.mem_flatMap.2 ⟨b,hb,jX.2 ⟨e,he,p,hp,rfl⟩⟩
  have h2:=sT.ids.mem_iff.1 h1
  rw[E1] at h2
  nomatch h2
 have n2:=aZ.nx
 have l2:=aZ.lo
 have J2:bS hA h2 tb bw bp bl c vb GQ 0 Ts [] 0 F (List.replicate c.R.toNat false) rt rp rl vr R:=by
  refine ⟨sT.le aZ,tR,fun k b r hb hr=>?_,by omega,bu.trans aZ,ahv,gbm,gbw,gbp,gbl,fun r hr=>by have:=(hR r hr).2; omega,by omega⟩
  rw[acr b (List.mem_of_getElem? hb),(hR r (List.mem_of_getElem? hr)).1]
  exact gL.nil
 simp(disch:=first|omega|simp only[Wd]<;>omega|with_unfolding_all rfl)only[Wz,aM (show (0:Int)=0 from rfl)]
 refine ⟨fun m l h'=>∃(i:Nat) (Ts:List TB) (W:List IE) (wc:Nat) (F:List Int) (B:List Bool) (R:List RB),slot l 147=.int .i64 (i:Int)∧m=L.length-i∧i≤L.length∧bS hA h' tb bw bp bl c vb GQ i Ts W wc F B rt rp rl vr R,
  ⟨_,0,Ts,[],0,F,_,R,rfl,rfl,by omega,J2⟩,?_⟩
 rintro m l h4 ⟨i,Ts,W,wc,F,B,R,s1,rfl,hi,J⟩
 have gK:=J.le
 have n4:=gK.nx
 have l4:=gK.lo
 by_cases hst:i<L.length
 case neg=>
  have gA4:=(gK.get _ (by omega)).trans gA0
  simp(disch:=first|omega|simp only[Wd]<;>omega|with_unfolding_all rfl)only[Wz,F5,s1,bL (show (L.length:Int)≤(i:Int) by omega),gA4]
  refine Sa J.st (by omega) _ ?_
  intro h5 iY
  have gA5:=(iY.get _ (by omega)).trans gA4
  simp(disch:=first|omega|simp only[Wd]<;>omega|with_unfolding_all rfl)only[Wz,gA5,jg,sY,GO]
  exact hk h5
 obtain ⟨q,hq⟩:∃q,L[i]? = some q:=⟨_,List.getElem?_eq_getElem hst⟩
 obtain ⟨b1,o1,Fb,Gj,ahx⟩:=abX hv i hq
 have S4:=ahx h4 (aH.trans gK)
 rw[ev] at Gj
 simp (maxSteps:=3000000) (disch:=first|omega|simp only[Wd]<;>omega|with_unfolding_all rfl)only[Wz,F5,s1,bZ (show (i:Int)<(L.length:Int) by omega),M7,Gj,S4,dc]
 obtain ⟨hC,nv⟩:∃hC:Heap,hC=⟨h4.nx+1,(h4.bl.bf (h4.nx) (af [.int .i64 q.k,.int .i64 q.t,.int .i64 q.r,.int .i64 q.id,.int .i64 q.x,.int .i64 q.m] 35 false)),h4.lo⟩:=⟨_,rfl⟩
 have mw:Le h4 hC:=by subst nv; exact ((Le.refl h4).new _)
 have gq:hC.bl.get (h4.nx)=some (af [.int .i64 q.k,.int .i64 q.t,.int .i64 q.r,.int .i64 q.id,.int .i64 q.x,.int .i64 q.m] 35 false):=by subst nv; exact T.aa _ _ _
 have abm:hC.nx=h4.nx+1:=by subst nv; rfl
 have abn:hC.lo=h4.lo:=by subst nv; rfl
 rw[←nv]
 clear nv
 refine RV (J.Cm mw) (by omega) (by omega) q _ ?_
 intro h5 Ts' W' uu F' B' R' J5 ak
 have gq:=ak.2 h4.nx _ (by omega) gq
 have nq:h4.nx<h5.nx:=by have:=ak.1; omega
 have n5:=J5.le.nx
 have l5:=J5.le.lo
 try simp (maxSteps:=3000000) (disch:=first|omega|simp only[Wd]<;>omega|with_unfolding_all rfl)only[Wz,nO]
 refine Jn J5.st (by omega) _ ?_
 intro v6 h6 K6 t6 oz
 have J6:=J5.Cm oz
 have n6:=oz.nx
 have l6:=oz.lo
 have gq:=(oz.get _ nq).trans gq
 have hS:=J6.snap t6
 try simp (maxSteps:=3000000) (disch:=first|omega|simp only[Wd]<;>omega|with_unfolding_all rfl)only[Wz,nO]
 refine uv J6.rt J6.rg (by omega) hS _ ?_
 intro v7 h7 O7 eO hQ ho uR
 have J7:=J6.Cm uR
 have n7:=uR.nx
 have l7:=uR.lo
 have gq:=(uR.get _ (by omega)).trans gq
 have t7:=Ly t6 eO hQ ho
 try simp (maxSteps:=3000000) (disch:=first|omega|simp only[Wd]<;>omega|with_unfolding_all rfl)only[Wz]
 refine GJ J7.st (t6.le uR) t7 _ ?_
 try simp (maxSteps:=3000000) (disch:=first|omega|simp only[Wd]<;>omega|with_unfolding_all rfl)only[Wz,gq]
 refine Po J7.st (by omega) q.x _ ?_
 intro v8 h8 hh8 vv8 D8 K8 ta8 sl8 Fl
 have J8:=J7.Cm Fl
 have n8:=Fl.nx
 have l8:=Fl.lo
 have gq:=(Fl.get _ (by omega)).trans gq
 have acs:(D8.filter fun p=>decide (p.x=q.x)).length≤128:=Nat.le_trans (List.length_filter_le _ _) (J7.st.B_ ta8)
 rw[GN J7.st t6 ta8 q.x] at sl8 acs
 try simp (maxSteps:=3000000) (disch:=first|omega|simp only[Wd]<;>omega|with_unfolding_all rfl)only[Wz,nO,jg,gq]
 refine AB J8.rt J8.rg (by omega) hS q.x _ ?_
 intro v9 h9 ho9 le9
 have J9:=J8.Cm le9
 have n9:=le9.nx
 have l9:=le9.lo
 have gq:=(le9.get _ (by omega)).trans gq
 try simp (maxSteps:=3000000) (disch:=first|omega|simp only[Wd]<;>omega|with_unfolding_all rfl)only[Wz]
 refine Jp _ v8 v9 h9 _ (sl8.le le9) ho9.sl (by omega) ?_
 try simp (maxSteps:=3000000) (disch:=first|omega|simp only[Wd]<;>omega|with_unfolding_all rfl)only[Wz]
 refine Xa J9.st (by omega) _ ?_
 intro v10 h10 D10 yV Xm Sc
 have J10:=J9.Cm Sc
 have n10:=Sc.nx
 have nh:=Sc.lo
 have gq:=(Sc.get _ (by omega)).trans gq
 try simp (maxSteps:=3000000) (disch:=first|omega|simp only[Wd]<;>omega|with_unfolding_all rfl)only[Wz,nO]
 refine R9 J10.rt J10.rg (by omega) hS _ ?_
 intro v11 h11 A hpA hsA slA Pr
 have J11:=J10.Cm Pr
 have n11:=Pr.nx
 have uL:=Pr.lo
 have gq:=(Pr.get _ (by omega)).trans gq
 obtain ⟨hpD,hsD⟩:=all_keys J9.st t6 Xm
 have eDA:=AA (hpA.trans hpD.symm) hsA hsD
 subst eDA
 try simp (maxSteps:=3000000) (disch:=first|omega|simp only[Wd]<;>omega|with_unfolding_all rfl)only[Wz]
 refine Jp A v10 v11 h11 _ (Xm.sl.le Pr) slA (by have:=J9.st.B_ Xm; omega) ?_
 try simp (maxSteps:=3000000) (disch:=first|omega|simp only[Wd]<;>omega|with_unfolding_all rfl)only[Wz,gq]
 refine ur J11.st.is (by omega) q.t q.r _ ?_
 intro h12 Sd
 have J12:=J11.Cm Sd
 have n12:=Sd.nx
 have l12:=Sd.lo
 have gq:=(Sd.get _ (by omega)).trans gq
 try simp (maxSteps:=3000000) (disch:=first|omega|simp only[Wd]<;>omega|with_unfolding_all rfl)only[Wz,nO,jg,gq]
 refine rI J12.rt (by omega) q.t q.r _ ?_
 intro h13 Se
 have J13:=J12.Cm Se
 have n13:=Se.nx
 have l13:=Se.lo
 have gq:=(Se.get _ (by omega)).trans gq
 try simp (maxSteps:=3000000) (disch:=first|omega|simp only[Wd]<;>omega|with_unfolding_all rfl)only[Wz,aM (show dY q.t q.r c.S=dY q.t q.r c.S from rfl),MZ,gq]
 refine RX J13.st (by omega) q.id _ ?_
 intro GR t9 r9 p9 b9 g9 zu
 have J14:=J13.Cm zu
 have n14:=zu.nx
 have ct:=zu.lo
 have gq:=(zu.get _ (by omega)).trans gq
 simp (maxSteps:=3000000) (disch:=first|omega|simp only[Wd]<;>omega|with_unfolding_all rfl)only[Wz,dz,aW,gq]
 obtain ⟨hD,eD⟩:∃hD:Heap,hD=⟨GR.nx+1+1,(((GR.bl.bf GR.nx (af [.int .i64 0,.int .i64 0] 24 false)).bf (GR.nx+1) (af [.int .i64 0,.int .i64 0,.int .i64 0,.int .i64 0,.int .i64 0] 54 false)).bf GR.nx (af [.int .i64 t9,.int .i64 r9] 24 false)).bf (GR.nx+1) (af [.int .i64 p9.id,.int .i64 p9.x,.int .i64 p9.m,.int .i64 p9.w,.int .i64 p9.s] 54 false),GR.lo⟩:=⟨_,rfl⟩
 have Fk:Le GR hD:=by rw[eD]; exact ((((Le.refl GR).new _).new _).set (b:=GR.nx) (Nat.le_refl _) _).set (b:=GR.nx+1) (by omega) _
 have gn:hD.bl.get GR.nx=some (af [.int .i64 t9,.int .i64 r9] 24 false):=by rw[eD]; exact (T.aj _ _ (by omega)).trans (T.aa _ _ _)
 have gr:hD.bl.get (GR.nx+1)=some (af [.int .i64 p9.id,.int .i64 p9.x,.int .i64 p9.m,.int .i64 p9.w,.int .i64 p9.s] 54 false):=by rw[eD]; exact T.aa _ _ _
 have nD:hD.nx=GR.nx+2:=by rw[eD]
 have lD:hD.lo=GR.lo:=by rw[eD]
 try rw[←eD]
 clear eD
 have JD:=J14.Cm Fk
 have gq:=(Fk.get _ (by omega)).trans gq
 refine Ph JD.rt JD.rg (by omega) q.id _ ?_
 intro GU t10 r10 PL b10 g10 Cc
 obtain ⟨rfl,rfl,rfl,rfl⟩:=JD.get g9 g10
 have J15:=JD.Cm Cc
 have n15:=Cc.nx
 have l15:=Cc.lo
 have gq:=(Cc.get _ (by omega)).trans gq
 have gn:=(Cc.get _ (by omega)).trans gn
 have gr:=(Cc.get _ (by omega)).trans gr
 simp (maxSteps:=3000000) (disch:=first|omega|simp only[Wd]<;>omega|with_unfolding_all rfl)only[Wz,dz,aW,gq]
 obtain ⟨hE,eE⟩:∃hE:Heap,hE=⟨GU.nx+1+1,(((GU.bl.bf GU.nx (af [.int .i64 0,.int .i64 0] 24 false)).bf (GU.nx+1) (af [.int .i64 0,.int .i64 0,.int .i64 0,.int .i64 0,.int .i64 0] 54 false)).bf GU.nx (af [.int .i64 t10,.int .i64 r10] 24 false)).bf (GU.nx+1) (af [.int .i64 PL.id,.int .i64 PL.x,.int .i64 PL.m,.int .i64 PL.w,.int .i64 PL.s] 54 false),GU.lo⟩:=⟨_,rfl⟩
 have leE:Le GU hE:=by rw[eE]; exact ((((Le.refl GU).new _).new _).set (b:=GU.nx) (Nat.le_refl _) _).set (b:=GU.nx+1) (by omega) _
 have gn2:hE.bl.get GU.nx=some (af [.int .i64 t10,.int .i64 r10] 24 false):=by rw[eE]; exact (T.aj _ _ (by omega)).trans (T.aa _ _ _)
 have gr2:hE.bl.get (GU.nx+1)=some (af [.int .i64 PL.id,.int .i64 PL.x,.int .i64 PL.m,.int .i64 PL.w,.int .i64 PL.s] 54 false):=by rw[eE]; exact T.aa _ _ _
 have nE:hE.nx=GU.nx+2:=by rw[eE]
 have lE:hE.lo=GU.lo:=by rw[eE]
 have gn:=(leE.get _ (by omega)).trans gn
 have gr:=(leE.get _ (by omega)).trans gr
 try rw[←eE]
 clear eE
 have JE:=J15.Cm leE
 have gqE:=(leE.get _ (by omega)).trans gq
 try simp (maxSteps:=3000000) (disch:=first|omega|simp only[Wd]<;>omega|with_unfolding_all rfl)only[Wz,gq,gqE]
 refine Pj JE.st (by omega) q.t q.r q.x _ ?_
 intro h16 amH o_ g11 Pt
 have J16:=JE.Cm Pt
 have n16:=Pt.nx
 have fW:=Pt.lo
 have gq:=(Pt.get _ (by omega)).trans gqE
 simp (maxSteps:=3000000) (disch:=first|omega|simp only[Wd]<;>omega|with_unfolding_all rfl)only[Wz,gq]
 refine Lq J16.rt J16.rg (by omega) q.t q.r q.x _ ?_
 intro h17 acv tQ g12 Sf
 obtain ⟨rfl,rfl⟩:=J16.find g11 g12
 have X9:=J16.Cm Sf
 have n17:=Sf.nx
 have Cj:=Sf.lo
 simp (maxSteps:=3000000) (disch:=first|omega|simp only[Wd]<;>omega|with_unfolding_all rfl)only[Wz]
 refine Lg X9.st _ ?_
 simp (maxSteps:=3000000) (disch:=first|omega|simp only[Wd]<;>omega|with_unfolding_all rfl)only[Wz]
 refine GK X9.rt X9.rg (by omega) _ ?_
 intro h18 Sg
 have n18:=Sg.nx
 have Fe:=Sg.lo
 have hsum:=X9.ag9
 have P8:=jV X9.st.is.bM.ok
 have Sh:=(Pt.trans Sf).trans Sg
 have gn:=(Sh.get _ (by omega)).trans gn
 have gr:=(Sh.get _ (by omega)).trans gr
 have gn2:=(Sh.get _ (by omega)).trans gn2
 have gr2:=(Sh.get _ (by omega)).trans gr2
 simp (maxSteps:=3000000) (disch:=first|omega|simp only[Wd]<;>omega|with_unfolding_all rfl)only[Wz,s1,gn,gn2,gr,gr2,EL,Jd,abW,aM (show b10=b10 from rfl),aM (show tQ=tQ from rfl),aM (show acv=acv from rfl),aM (show ((yO Ts':Nat):Int)=((yR R':Nat):Int) by omega),aM (show (B'.length:Int)-F'.length=((eW B').length:Int) by omega)]
 exact ⟨_,by omega,i+1,Ts',W',uu,F',B',R',rfl,rfl,by omega,X9.Cm Sg⟩
end Go.Proofs
