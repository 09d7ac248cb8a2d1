/-
  PROVED HERE: a part of the proof (L15, L16, L17, L18).
-/
import Derived.Test.YtijmemedhkgplaaGreatDoorLC
set_option linter.unusedVariables false
set_option linter.unusedSimpArgs false
set_option maxRecDepth 100000
set_option maxHeartbeats 1000000
namespace Go.Proofs
open Go.Vai Go.Clashes
section
variable {a h:Heap} {rb rp rl most:Nat} {v:Value} {K:List HE} {B:List Bool}
theorem Ji {β:Type} {fl:β} (t r:Int) (κ:List Value→β):bC fl [(0,2)] [.agg ⟨[.int .i64 t,.int .i64 r]⟩] [.int .i64 0,.int .i64 0,.slice none 0 0,.int .i64 0] κ=κ [.int .i64 t,.int .i64 r,.slice none 0 0,.int .i64 0]:=id rfl
theorem Rz (R:iz a h rb rp most v K) (p:bT h rp rl B) (hlo:h.lo≤h.nx) (la:a.nx≤h.nx) (hl:K.length≤1000) (gd:∀k∈K,iM k) (qB:(K.map a_).Pairwise fH) (hw:∀k∈K,k.w≤100000)
  (ids:∀k∈K,∀p∈k.Q,∃n:Nat,p.id=(n:Int)∧B[n]? = some true) (t r x m:Int) (κ:KQ)
  (hk2:∀h',br m=false→Le h h'→κ (.tuple ⟨[.int .i64 0,.bool false,.int .i64 2]⟩) h')
  (wY:∀h' k p,br m=true→k∈K→t=k.t→r=k.r→p∈k.Q→p.x=x→Le h h'→κ (.tuple ⟨[.int .i64 0,.bool false,.int .i64 4]⟩) h')
  (KD:∀h',br m=true→(∀k∈K,t=k.t→r=k.r→∀p∈k.Q,p.x≠x)→(B.length≤(eW B).length∨((∀k∈K,¬(t=k.t∧r=k.r))∧most≤K.length))→Le h h'→κ (.tuple ⟨[.int .i64 0,.bool false,.int .i64 8]⟩) h')
  (Ck:∀(n i:Nat) k q' v' h',br m=true→(∀k∈K,t=k.t→r=k.r→∀p∈k.Q,p.x≠x)→B[n]? = some false→(∀k,k<n→B[k]? = some true)→K[i]? = some k→k.t=t→k.r=r→
   iz a h' rb rp most v' (K.set i ⟨t,r,0,0,q',(cv k.Q k.w n x m).2.1,k.Q++[(cv k.Q k.w n x m).1]⟩)→bT h' rp rl (B.set n true)→gH (SK rb rl v) h h'→jB h v v'→κ (.tuple ⟨[.int .i64 (n:Int),.bool (cv k.Q k.w n x m).2.2,.int .i64 0]⟩) h')
  (hkN:∀(n i:Nat) q' v' h',br m=true→(∀k∈K,¬(t=k.t∧r=k.r))→K.length<most→B[n]? = some false→(∀k,k<n→B[k]? = some true)→(∀(j:Nat) (k:HE),j<i→K[j]? = some k→fH (a_ k) (t,r))→(∀(j:Nat) (k:HE),i≤j→K[j]? = some k→fH (t,r) (a_ k))→
   iz a h' rb rp most v' (K.take i++⟨t,r,0,0,q',(cv [] 0 n x m).2.1,[]++[(cv [] 0 n x m).1]⟩::K.drop i)→bT h' rp rl (B.set n true)→gH (SK rb rl v) h h'→jB h v v'→κ (.tuple ⟨[.int .i64 (n:Int),.bool (cv [] 0 n x m).2.2,.int .i64 0]⟩) h') :
  CallW Tryz.prog 124 [.pointer (some ⟨rb,0,none⟩),dz t r,.int .i64 x,.int .i64 m] h κ:=by
 have hrb:=R.lt
 have alW:=p.PJ
 refine aq mixed ?_
 rw[Vk]
 simp(disch:=first|omega|simp only[Wd]<;>omega|with_unfolding_all rfl)only[Wz,dz]
 obtain ⟨hA,az⟩:∃hA:Heap,hA=⟨h.nx+1,(h.bl.bf (h.nx) (af [.int .i64 t,.int .i64 r] 24 false)),h.lo⟩:=⟨_,rfl⟩
 have aH:Le h hA:=by subst az; exact ((Le.refl h).new _)
 have g1:hA.bl.get (h.nx)=some (af [.int .i64 t,.int .i64 r] 24 false):=by subst az; exact T.aa _ _ _
 have dF:hA.nx=h.nx+1:=by subst az; rfl
 have dG:hA.lo=h.lo:=by subst az; rfl
 rw[←az]
 clear az
 have RA:=R.le aH
 have pA:=p.le aH
 by_cases am:br m=true
 case neg=>
  have Gx:br m=false:=by simpa using am
  by_cases h0:m=0
  ·simp(disch:=first|omega|simp only[Wd]<;>omega|with_unfolding_all rfl)only[Wz,aM h0]
   exact hk2 _ Gx aH
  ·simp(disch:=first|omega|simp only[Wd]<;>omega|with_unfolding_all rfl)only[Wz,aK h0]
   refine pg m ?_
   have:kn m=false:=by
    have:br m=kn m:=by unfold br; simp[h0]
    rw[←this]; exact Gx
   rw[this]
   simp(disch:=first|omega|simp only[Wd]<;>omega|with_unfolding_all rfl)only[Wz]
   exact hk2 _ Gx aH
 obtain ⟨m0,km⟩:=(jx m).1 am
 simp(disch:=first|omega|simp only[Wd]<;>omega|with_unfolding_all rfl)only[Wz,aK m0]
 refine pg m ?_
 rw[km]
 simp(disch:=first|omega|simp only[Wd]<;>omega|with_unfolding_all rfl)only[Wz,DJ,g1]
 refine EP RA (by omega) hl gd qB t r x _ ?_ ?_
 case refine_2=>
  intro h1 k p0 hk ht hr Wt hx bu
  simp(disch:=first|omega|simp only[Wd]<;>omega|with_unfolding_all rfl)only[Wz]
  exact wY h1 k p0 am hk ht hr Wt hx (aH.trans bu)
 intro h1 hno bu
 have pR:=bu.nx
 have pS:=bu.lo
 have g1:=(bu.get _ (by omega)).trans g1
 have R1:=RA.le bu
 simp(disch:=first|omega|simp only[Wd]<;>omega|with_unfolding_all rfl)only[Wz,DI,g1]
 refine EO R1 (by omega) hl t r _ ?_ ?_
 ·intro i h2 hi Fb zP aZ
  have iU:=aZ.nx
  have iV:=aZ.lo
  have g1:=(aZ.get _ (by omega)).trans g1
  have fM:=(aH.trans bu).trans aZ
  have R2:=R.le fM
  have p2:=p.le fM
  have c2:=R2.cell
  have hlen:∀(β:Type) (fl:β) (h':Heap) (κ:Value→Heap→β),bh fl v h' κ=κ (.int .i64 (K.length:Int)) h':=fun β fl h' κ=>R2.own.sl.len κ h'
  have hall:∀(j:Nat) (k:HE),i≤j→K[j]? = some k→fH (t,r) (a_ k):=by
   intro j k hj hkj
   have hil:i<K.length:=by have:=(List.getElem?_eq_some_iff.1 hkj).1; omega
   obtain ⟨k0,dK⟩:∃k0,K[i]? = some k0:=⟨_,List.getElem?_eq_getElem hil⟩
   have h0:=zP k0 dK
   by_cases e:i=j
   ·subst e; rw[dK] at hkj; cases hkj; exact h0
   ·have G:=cr.1 qB
    exact jy h0 (G i j _ _ (by omega) (by rw[List.getElem?_map,dK]; rfl) (by rw[List.getElem?_map,hkj]; rfl))
  have Xp:∀k∈K,¬(t=k.t∧r=k.r):=by
   rintro k hk ⟨e1,e2⟩
   obtain ⟨j,hj⟩:=List.getElem?_of_mem hk
   by_cases hji:j<i
   ·have:=Fb j k hji hj
    unfold fH a_ at this
    simp only at this
    omega
   ·have:=hall j k (by omega) hj
    unfold fH a_ at this
    simp only at this
    omega
  by_cases hfull:most≤K.length
  ·simp(disch:=first|omega|simp only[Wd]<;>omega|with_unfolding_all rfl)only[Wz,aU,c2,hlen,aM (show (most:Int)≤(K.length:Int) by omega)]
   exact KD h2 am hno (.inr ⟨Xp,hfull⟩) fM
  simp(disch:=first|omega|simp only[Wd]<;>omega|with_unfolding_all rfl)only[Wz,aU,c2,hlen,aK (show ¬(most:Int)≤(K.length:Int) by omega)]
  refine B1 p2 (by omega) _ ?_
  intro h3 cL
  have Oq:=cL.nx
  have Ot:=cL.lo
  have g1:=(cL.get _ (by omega)).trans g1
  have iN:=fM.trans cL
  have R3:=R.le iN
  have p3:=p.le iN
  have c3:=R3.cell
  simp(disch:=first|omega|simp only[Wd]<;>omega|with_unfolding_all rfl)only[Wz,aU,c3]
  refine Jf p3 _ ?_
  by_cases hroom:B.length≤(eW B).length
  ·simp(disch:=first|omega|simp only[Wd]<;>omega|with_unfolding_all rfl)only[Wz,aM (show (B.length:Int)≤((eW B).length:Int) by omega)]
   exact KD h3 am hno (.inl hroom) iN
  simp(disch:=first|omega|simp only[Wd]<;>omega|with_unfolding_all rfl)only[Wz,aK (show ¬(B.length:Int)≤((eW B).length:Int) by omega),xE,g1,Ji]
  obtain ⟨hB,bF⟩:∃hB:Heap,hB=⟨h3.nx+1,(h3.bl.bf (h3.nx) (af [.int .i64 t,.int .i64 r,.slice none 0 0,.int .i64 0] 51 false)),h3.lo⟩:=⟨_,rfl⟩
  have bD:Le h3 hB:=by subst bF; exact ((Le.refl h3).new _)
  have gp:hB.bl.get (h3.nx)=some (af [.int .i64 t,.int .i64 r,.slice none 0 0,.int .i64 0] 51 false):=by subst bF; exact T.aa _ _ _
  have pE:hB.nx=h3.nx+1:=by subst bF; rfl
  have pF:hB.lo=h3.lo:=by subst bF; rfl
  rw[←bF]
  clear bF
  have EH:=iN.trans bD
  have RB:=R.le EH
  have pB:=p.le EH
  refine ⟨fun l h'=>HQ hB h',rfl,?_⟩
  rintro l h' hQ
  cases (show hB=h' from hQ)
  refine Jh RB pB (by omega) (by omega) hl t r x m am (q:=.slice none 0 0) (w:=0) (Q:=[]) ⟨⟨none,0,rfl,fun e=>absurd rfl e⟩,fun b o n c hv=>by cases hv⟩ (by simp) (by omega) (fun n _ o ho=>(nomatch ho)) (pb:=h3.nx) (by omega) (by omega) gp (by omega) i i false (.inr ⟨rfl,rfl⟩) hi κ ?_
  intro n q' v' h' hb rA R' p' f' nb'
  refine hkN n i q' v' h' am Xp (by omega) hb rA Fb hall R' p' ((gH.of_le EH).trans f' ?_) (nb'.up (by omega))
  rintro c hc (e | e | e)
  ·exact .inl e
  ·exact .inr (.inl e)
  ·omega
 ·intro i k h2 hk ht hr aZ
  have iU:=aZ.nx
  have iV:=aZ.lo
  have g1:=(aZ.get _ (by omega)).trans g1
  have fM:=(aH.trans bu).trans aZ
  have R2:=R.le fM
  have p2:=p.le fM
  have c2:=R2.cell
  have gI:=List.mem_of_getElem? hk
  have hil:=(List.getElem?_eq_some_iff.1 hk).1
  simp(disch:=first|omega|simp only[Wd]<;>omega|with_unfolding_all rfl)only[Wz,aU,c2]
  refine B1 p2 (by omega) _ ?_
  intro h3 cL
  have Oq:=cL.nx
  have Ot:=cL.lo
  have g1:=(cL.get _ (by omega)).trans g1
  have iN:=fM.trans cL
  have R3:=R.le iN
  have p3:=p.le iN
  have c3:=R3.cell
  simp(disch:=first|omega|simp only[Wd]<;>omega|with_unfolding_all rfl)only[Wz,aU,c3]
  refine Jf p3 _ ?_
  by_cases hroom:B.length≤(eW B).length
  ·simp(disch:=first|omega|simp only[Wd]<;>omega|with_unfolding_all rfl)only[Wz,aM (show (B.length:Int)≤((eW B).length:Int) by omega)]
   exact KD h3 am hno (.inl hroom) iN
  simp(disch:=first|omega|simp only[Wd]<;>omega|with_unfolding_all rfl)only[Wz,aK (show ¬(B.length:Int)≤((eW B).length:Int) by omega),xE,g1,Ji]
  obtain ⟨hB,bF⟩:∃hB:Heap,hB=⟨h3.nx+1,(h3.bl.bf (h3.nx) (af [.int .i64 t,.int .i64 r,.slice none 0 0,.int .i64 0] 51 false)),h3.lo⟩:=⟨_,rfl⟩
  have bD:Le h3 hB:=by subst bF; exact ((Le.refl h3).new _)
  have gp:hB.bl.get (h3.nx)=some (af [.int .i64 t,.int .i64 r,.slice none 0 0,.int .i64 0] 51 false):=by subst bF; exact T.aa _ _ _
  have pE:hB.nx=h3.nx+1:=by subst bF; rfl
  have pF:hB.lo=h3.lo:=by subst bF; rfl
  rw[←bF]
  clear bF
  have EH:=iN.trans bD
  have RB:=R.le EH
  have cB:=RB.cell
  obtain ⟨b,o,hb,dM,dg⟩:=RB.ld i hk
  have L1:=dg hB (Le.refl _)
  obtain ⟨hC,eC⟩:∃hC:Heap,hC=⟨hB.nx,hB.bl.bf h3.nx (af [.int .i64 k.t,.int .i64 k.r,k.q,.int .i64 k.w] 51 false),hB.lo⟩:=⟨_,rfl⟩
  have agJ:Le h3 hC:=by rw[eC]; exact bD.set (b:=h3.nx) (Nat.le_refl _) _
  have KP:=iN.trans agJ
  have gC:hC.bl.get h3.nx=some (af [.int .i64 t,.int .i64 r,k.q,.int .i64 k.w] 51 false):=by rw[eC,ht,hr]; exact T.aa _ _ _
  have nC:hC.nx=h3.nx+1:=by rw[eC]; exact pE
  have lC:hC.lo=h3.lo:=by rw[eC]; exact pF
  have RC:=R.le KP
  have pC:=p.le KP
  have gdk:=gd k gI
  have X0:=RC.qv k gI
  refine ⟨fun l h'=>HQ hC h',?_,?_⟩
  ·obtain ⟨qx,qc,eq,_⟩:=X0.sl
   simp only[eq] at L1
   simp(disch:=first|omega|simp only[Wd]<;>omega|with_unfolding_all rfl)only[Wz,DG,aU,cB,dM,L1,gp]
   rw[eC,eq]; exact rfl
  rintro l h' hQ
  cases (show hC=h' from hQ)
  have vl:=gdk.small
  have hwk:=hw k gI
  refine Jh RC pC (by omega) (by omega) hl t r x m am (q:=k.q) (w:=k.w) (Q:=k.Q) (QV.own X0) (by omega) ⟨gdk.vq.w0,hwk⟩ (fun n hb o ho=>⟨fun e=>?_,hno k gI ht.symm hr.symm o ho⟩) (pb:=h3.nx) (by omega) (by omega) gC (by omega) i (i+1) true (.inl ⟨rfl,rfl⟩) hil κ ?_
  ·obtain ⟨n',e1,e2⟩:=ids k gI o ho
   have:n'=n:=by omega
   subst this
   rw[hb] at e2; cases e2
  intro n q' v' h' hb rA R' p' f' nb'
  refine Ck n i k q' v' h' am hno hb rA hk ht hr ?_ p' ((gH.of_le KP).trans f' ?_) (nb'.up (by omega))
  ·rw[List.set_eq_take_append_cons_drop,if_pos hil]
   exact R'
  ·rintro c hc (e | e | e)
   ·exact .inl e
   ·exact .inr (.inl e)
   ·omega
end
theorem OL (most:Nat) (h:Heap) (κ:KQ) (hm:most≤128) (hlo:h.lo≤h.nx)
  (hk:∀rp rl h',bT h' rp rl (List.replicate most false)→h.nx≤rp→h.nx≤rl→Le h h'→κ (.tuple ⟨[.pointer (some ⟨rp,0,none⟩),.int .i64 0]⟩) h') :
  CallW Tryz.prog 74 [.int .i64 (most:Int)] h κ:=by
 refine aq mixed ?_
 rw[aaa]
 simp(disch:=first|omega|simp only[Wd]<;>omega|with_unfolding_all rfl)only[Wz,bL (show (0:Int)≤(most:Int) by omega),bL (show (most:Int)≤128 by omega)]
 have hrl:(aY [Value.bool false] most).length=most:=by rw[mq]; simp
 rw[HM _ _ _ _ _ (by omega) (by omega),mq]
 simp(disch:=first|omega|simp only[Wd]<;>omega|with_unfolding_all rfl)only[Wz]
 obtain ⟨hA,az⟩:∃hA:Heap,hA=⟨h.nx+1+1,((h.bl.bf (h.nx) (af ((List.replicate most false).map Value.bool) 4 false)).bf (h.nx+1) (af [.slice (some ⟨h.nx,0,none⟩) most most] 163 false)),h.lo⟩:=⟨_,rfl⟩
 have aH:Le h hA:=by subst az; exact (((Le.refl h).new _).new _)
 have gl:hA.bl.get (h.nx)=some (af ((List.replicate most false).map Value.bool) 4 false):=by subst az; exact (T.aj _ _ (by omega)).trans (T.aa _ _ _)
 have gp:hA.bl.get (h.nx+1)=some (af [.slice (some ⟨h.nx,0,none⟩) most most] 163 false):=by subst az; exact T.aa _ _ _
 have dF:hA.nx=h.nx+1+1:=by subst az; rfl
 have dG:hA.lo=h.lo:=by subst az; rfl
 rw[←az]
 clear az
 exact hk (h.nx+1) h.nx hA ⟨by omega,by omega,by omega,by omega,by rw[List.length_replicate]; exact gp,gl,by rw[List.length_replicate]; exact hm⟩ (by omega) (by omega) aH
theorem abV (h:Heap) (b o:Nat):lP Tryz.prog h 100 112 (.pointer (some ⟨b,o,none⟩)) (.pointer none)=some false:=by kernel_rfl
theorem OM {β:Type} {fl:β} (cn:Bool) (b o:Nat) (h:Heap) (κ:Value→Heap→β):av fl Tryz.prog .eql 112 cn false (.pointer (some ⟨b,o,none⟩)) (.pointer none) h κ=κ (.bool false) h:=by simp only[av,abV,cq]
theorem ON (aG:Int) (rp:Nat) (a h:Heap) (κ:KQ) (hlo:h.lo≤h.nx)
  (dK:(aG<1∨64<aG)→κ (.tuple ⟨[.pointer none,.int .i64 2]⟩) h)
  (hk:∀rb h' (n:Nat),aG=(n:Int)→1≤n∧n≤64→iz a h' rb rp n (.slice none 0 0) []→h.nx≤rb→Le h h'→κ (.tuple ⟨[.pointer (some ⟨rb,0,none⟩),.int .i64 0]⟩) h') :
  CallW Tryz.prog 75 [.int .i64 aG,.pointer (some ⟨rp,0,none⟩)] h κ:=by
 refine aq mixed ?_
 rw[aab]
 by_cases h1:aG<1
 ·simp(disch:=first|omega|simp only[Wd]<;>omega|with_unfolding_all rfl)only[Wz,aM h1]
  exact dK (.inl h1)
 by_cases h2:64<aG
 ·simp(disch:=first|omega|simp only[Wd]<;>omega|with_unfolding_all rfl)only[Wz,aK h1,aM h2]
  exact dK (.inr h2)
 obtain ⟨n,rfl⟩:∃n:Nat,aG=(n:Int):=⟨aG.toNat,by omega⟩
 simp(disch:=first|omega|simp only[Wd]<;>omega|with_unfolding_all rfl)only[Wz,aK h1,aK h2,OM]
 obtain ⟨hA,az⟩:∃hA:Heap,hA=⟨h.nx+1,(h.bl.bf (h.nx) (af [.int .i64 (n:Int),.pointer (some ⟨rp,0,none⟩),.slice none 0 0] 165 false)),h.lo⟩:=⟨_,rfl⟩
 have aH:Le h hA:=by subst az; exact ((Le.refl h).new _)
 have gb:hA.bl.get (h.nx)=some (af [.int .i64 (n:Int),.pointer (some ⟨rp,0,none⟩),.slice none 0 0] 165 false):=by subst az; exact T.aa _ _ _
 have dF:hA.nx=h.nx+1:=by subst az; rfl
 have dG:hA.lo=h.lo:=by subst az; rfl
 rw[←az]
 clear az
 exact hk h.nx hA n rfl (by omega) ⟨by omega,by omega,gb,.inl ⟨rfl,.inl rfl⟩,fun _=>.inl rfl,fun k hk=>(nomatch hk)⟩ (Nat.le_refl _) aH
def dX (e:HE):Int × Int × Int × List R5:=(e.t,e.r,e.w,e.Q)
theorem uk {a b:HE} (h:dX a=dX b):nw a b:=by
 unfold dX at h
 obtain ⟨h1,h2,h3,h4⟩:a.t=b.t∧a.r=b.r∧a.w=b.w∧a.Q=b.Q:=by simpa using h
 exact ⟨h1,h2,h3,h4⟩
section
variable {a h:Heap} {rb rp rl most:Nat} {v:Value} {K:List HE} {B:List Bool}
theorem OO (R:iz a h rb rp most v K) (hlo:h.lo≤h.nx) (hl:K.length≤1000) (hqs:∀k∈K,k.Q.length≤1000) (κ:KQ)
  (hk:∀v1 h' K',K'.map dX=K.map dX→(∀k∈K',QV h' k.q k.Q)→rG h h' v1 K'→Le h h'→κ v1 h') :
  CallW Tryz.prog 82 [.pointer (some ⟨rb,0,none⟩)] h κ:=by
 refine aq mixed ?_
 rw[aai]
 refine ⟨fun m l h2=>∃(i:Nat) (K1:List HE),slot l 27=.int .i64 (i:Int)∧m=K.length-i∧i≤K.length∧K1.map dX=(K.take i).map dX∧(∀k∈K1,QV h2 k.q k.Q)∧rG h h2 (slot l 24) K1∧Le h h2,
  ⟨_,0,[],rfl,rfl,by omega,rfl,fun k hk=>(nomatch hk),.inl ⟨rfl,.inl rfl⟩,Le.refl _⟩,?_⟩
 rintro m l h2 ⟨i,K1,s1,rfl,hi,hK,hQ,Kv,aZ⟩
 have n2:=aZ.nx
 have l2:=aZ.lo
 have R2:=R.le aZ
 have c2:=R2.cell
 have hlen:∀(β:Type) (fl:β) (h':Heap) (κ:Value→Heap→β),bh fl v h' κ=κ (.int .i64 (K.length:Int)) h':=fun β fl h' κ=>R2.own.sl.len κ h'
 have Ku:K1.length=i:=by have:=congrArg List.length hK; simp at this; omega
 by_cases hst:i<K.length
 ·obtain ⟨k,dK⟩:∃k,K[i]? = some k:=⟨_,List.getElem?_eq_getElem hst⟩
  have gI:=List.mem_of_getElem? dK
  obtain ⟨b,o,hb,dM,dg⟩:=R2.ld i dK
  have L1:=dg h2 (Le.refl _)
  have hqk:=(R2.qv k gI).sl
  have hql:=hqs k gI
  obtain ⟨qx,qc,eq,_⟩:=(show Sl aW h2 k.q k.Q from hqk)
  simp only[eq] at L1
  rw[eq] at hqk
  simp(disch:=first|omega|simp only[Wd]<;>omega|with_unfolding_all rfl)only[Wz,BG,aU,c2,hlen,s1,bZ (show (i:Int)<(K.length:Int) by omega),IN,dM,L1,qs]
  obtain ⟨hB,bF⟩:∃hB:Heap,hB=⟨h2.nx+1+1,((h2.bl.bf (h2.nx) (af [.int .i64 k.t,.int .i64 k.r,.slice qx k.Q.length qc,.int .i64 k.w] 51 false)).bf (h2.nx+1) (af [] 54 false)),h2.lo⟩:=⟨_,rfl⟩
  have bD:Le h2 hB:=by subst bF; exact (((Le.refl h2).new _).new _)
  have gd:hB.bl.get (h2.nx)=some (af [.int .i64 k.t,.int .i64 k.r,.slice qx k.Q.length qc,.int .i64 k.w] 51 false):=by subst bF; exact (T.aj _ _ (by omega)).trans (T.aa _ _ _)
  have ge:hB.bl.get (h2.nx+1)=some (af [] 54 false):=by subst bF; exact T.aa _ _ _
  have pE:hB.nx=h2.nx+1+1:=by subst bF; rfl
  have pF:hB.lo=h2.lo:=by subst bF; rfl
  rw[←bF]
  clear bF
  refine fN (enc:=aW) (a:=hB) (L:=[]) (M:=k.Q) aX jR (by decide) (by decide) (.inl ⟨rfl,.inr ⟨_,_,rfl⟩⟩) (fun _=>.inr ⟨_,_,rfl⟩) (hqk.le bD) (Le.refl _) (by simp; omega) (by omega) _ ?_
  intro q3 h3 mH em3 cL _
  rw[List.nil_append] at mH
  have n3:=cL.nx
  have l3:=cL.lo
  have gd:=(cL.get _ (by omega)).trans gd
  obtain ⟨vW,vX,rfl,_⟩:=(show Sl aW h3 q3 k.Q from mH.sl)
  simp(disch:=first|omega|simp only[Wd]<;>omega|with_unfolding_all rfl)only[Wz,gd]
  obtain ⟨h4,e4⟩:∃h4:Heap,h4=⟨h3.nx+1,(h3.bl.bf h2.nx (af [.int .i64 k.t,.int .i64 k.r,.slice vW k.Q.length vX,.int .i64 k.w] 51 false)).bf h3.nx (af [.int .i64 k.t,.int .i64 k.r,.slice vW k.Q.length vX,.int .i64 k.w] 51 false),h3.lo⟩:=⟨_,rfl⟩
  have gK:Le h2 h4:=by rw[e4]; exact ((bD.trans cL).set (b:=h2.nx) (by omega) _).new _
  have g4:h4.bl.get h3.nx=some (af ([(⟨k.t,k.r,0,0,.slice vW k.Q.length vX,k.w,k.Q⟩:HE)].flatMap eX) 51 false):=by rw[e4]; exact T.aa _ _ _
  have n4:h4.nx=h3.nx+1:=by rw[e4]
  have l4:h4.lo=h3.lo:=by rw[e4]
  have hq4:QV h4 (.slice vW k.Q.length vX) k.Q:=by
   rw[e4]
   exact ((QV.own mH).put (fun vs op=>by rw[gd]; exact aL (by decide)) _).le ((Le.refl _).new _)
  try rw[←e4]
  clear e4
  refine cT (enc:=eX) (a:=h) (L:=K1) (M:=[(⟨k.t,k.r,0,0,.slice vW k.Q.length vX,k.w,k.Q⟩:HE)]) b6 gW (by decide) (by decide) (Kv.le gK) (Sl.new (by omega) g4 _) (aZ.trans gK) (by simp; omega) (by omega) _ ?_
  intro v5 h5 tV iY _ n5 l5 og
  have Fi:∀c vs op,c<h4.nx→h4.bl.get c=some (af vs 54 op)→h5.bl.get c=h4.bl.get c:=fun c vs op hc hg=>og c hc (by rw[hg]; exact aL (by decide))
  refine ⟨_,by omega,i+1,K1++[⟨k.t,k.r,0,0,.slice vW k.Q.length vX,k.w,k.Q⟩],rfl,rfl,by omega,?_,?_,tV,iY⟩
  ·rw[List.map_append,hK,List.take_add_one,dK,List.map_append]
   rfl
  ·intro k' hk'
   rcases List.mem_append.1 hk' with hk' | hk'
   ·exact ((hQ k' hk').le gK).frame n5 Fi
   ·rw[List.mem_singleton] at hk'; subst hk'
    exact hq4.frame n5 Fi
 ·simp(disch:=first|omega|simp only[Wd]<;>omega|with_unfolding_all rfl)only[Wz,BG,aU,c2,hlen,s1,bL (show (K.length:Int)≤(i:Int) by omega)]
  have hiD:i=K.length:=by omega
  subst hiD
  rw[List.take_length] at hK
  exact hk _ h2 K1 hK hQ Kv aZ
end
theorem nX:∀(n:Nat) (Q:List R5),(bP n Q).2.length≤n:=by
 intro n
 induction n with
 | zero=>intro Q; exact Nat.le_refl 0
 | succ n ih=>
  intro Q
  unfold bP
  split
  ·exact Nat.zero_le _
  ·split
   ·exact Nat.zero_le _
   ·split
    ·exact Nat.succ_le_succ (ih _)
    ·exact Nat.zero_le _
theorem B3 (Q:List R5):cF Q≤Q.length:=List.length_filter_le _ _
theorem ldI {h:Heap} {v:Value} {L:List Int} (hs:Sl cw h v L) (i:Nat) {p:Int} (hp:L[i]? = some p) :
  ∃b o,b<h.nx∧(∀(β:Type) (fl:β) (h':Heap) (κ:Value→Heap→β),an fl 1 v (.int .i64 (i:Int)) h' κ=κ (.pointer (some ⟨b,o,none⟩)) h')∧
   (∀(β:Type) (fl:β) (κ:Value→β),qM fl (h.bl.get b) o κ=κ (.int .i64 p)):=by
 obtain ⟨b,o,h1,h2,h3,hh⟩:=hs.ld bY i hp
 exact ⟨b,o,h1,h2,fun β fl κ=>dD (fl:=fl) hh 0 κ (by show 0<1; omega)⟩
theorem qu (L:List Int) (v1 v2:Value) (h:Heap) (κ:KQ) (h1:Sl cw h v1 L) (h2:Sl cw h v2 L) (hl:L.length≤1000000) (hk:κ (.bool true) h):CallW Tryz.prog 78 [v1,v2] h κ:=by
 obtain ⟨x1,c1,e1,_⟩:=(show Sl cw h v1 L from h1)
 obtain ⟨x2,c2,e2,_⟩:=(show Sl cw h v2 L from h2)
 refine aq mixed ?_
 rw[aae]
 rw[e1,e2]
 simp(disch:=first|omega|simp only[Wd]<;>omega|with_unfolding_all rfl)only[Wz]
 refine ⟨fun m l h'=>∃i:Nat,slot l 16=.int .i64 (i:Int)∧m=L.length-i∧i≤L.length∧HQ h h',⟨_,0,rfl,rfl,by omega,rfl⟩,?_⟩
 rintro m l h' ⟨i,s1,rfl,hi,hq⟩
 cases (show h=h' from hq)
 by_cases hlt:i<L.length
 ·obtain ⟨p,hp⟩:∃p,L[i]? = some p:=⟨_,List.getElem?_eq_getElem hlt⟩
  obtain ⟨b1,o1,_,hx1,Cf⟩:=ldI h1 i hp
  obtain ⟨b2,o2,_,hx2,Cg⟩:=ldI h2 i hp
  rw[e1] at hx1
  rw[e2] at hx2
  simp(disch:=first|omega|simp only[Wd]<;>omega|with_unfolding_all rfl)only[Wz,s1,bZ (show (i:Int)<(L.length:Int) by omega),IL,hx1,Cf,hx2,Cg,aM (show p=p from rfl)]
  exact ⟨_,by omega,i+1,rfl,rfl,by omega,rfl⟩
 ·simp(disch:=first|omega|simp only[Wd]<;>omega|with_unfolding_all rfl)only[Wz,s1,bL (show (L.length:Int)≤(i:Int) by omega)]
  exact hk
theorem um {a h h':Heap} {rb rp rl most:Nat} {v:Value} {K:List HE} {B:List Bool} {b0:Heap} {vi:Value} {I:List Int} (R:iz a h rb rp most v K) (p:bT h rp rl B) (o:gV b0 h vi I) (f:gH (SK rb rl v) h h'):gV b0 h' vi I:=by
 refine o.keep f.nx f.lo fun c vs hc hg=>f.get c hc ?_
 rintro (rfl | rfl | hb)
 ·exact aL (by decide) (hg.symm.trans R.cell)
 ·exact aL (by decide) (hg.symm.trans p.iq)
 ·exact aL (by decide) (hg.symm.trans (R.own.blk hb).2.2)
section
variable {a0 h:Heap} {bb bm bp bl most cap N:Nat} {M:List HE} {clock:Nat} {F:List Int} {B:List Bool} {rb rp rl:Nat} {v:Value} {K:List HE}
end
def Jj (M:List HE) (d t r:Int) (p:R5) (b:Bool):Prop:=(b=true∧∃e∈M,bq e.Q d=some p∧e.t=t∧e.r=r)∨(b=false∧(∀e∈M,bq e.Q d=none)∧t=0∧r=0∧p=⟨0,0,0,0,0⟩)
def yF (M:List HE) (t r x id:Int) (b:Bool):Prop:=(b=true∧∃e∈M,t=e.t∧r=e.r∧∃p∈e.Q,p.x=x∧p.id=id)∨(b=false∧id=0∧∀e∈M,t=e.t→r=e.r→∀p∈e.Q,p.x≠x)
theorem RE {h:Heap} {bb bm bp bl most:Nat} {M:List HE} {clock:Nat} {F:List Int} {B:List Bool} (s:bg h bb bm bp bl most M clock F B) (hlo:h.lo≤h.nx) (t r x:Int) (κ:KQ)
  (hk:∀h' id b,yF M t r x id b→Le h h'→κ (.tuple ⟨[.int .i64 id,.bool b]⟩) h') :
  CallW Tryz.prog 90 [.pointer (some ⟨bb,0,none⟩),dz t r,.int .i64 x] h κ:=by
 refine Ep s hlo t r x _ ?_ ?_
 ·intro h' hn l; exact hk h' 0 false (.inr ⟨rfl,rfl,hn⟩) l
 ·intro h' e p he ht hr hp hx l; exact hk h' _ true (.inl ⟨rfl,e,he,ht,hr,p,hp,hx,rfl⟩) l
section
variable {a0 h:Heap} {bb bm bp bl most cap N:Nat} {M:List HE} {clock:Nat} {F:List Int} {B:List Bool} {rb rp rl:Nat} {v:Value} {K:List HE}
theorem OP {most:Nat} (R:iz a0 h rb rp most v K) (hlo:h.lo≤h.nx) (hl:K.length≤1000) (gd:∀k∈K,iM k) (qB:(K.map a_).Pairwise fH) (t r x:Int) (κ:KQ)
  (hk:∀h' id b,yF K t r x id b→Le h h'→κ (.tuple ⟨[.int .i64 id,.bool b]⟩) h') :
  CallW Tryz.prog 91 [.pointer (some ⟨rb,0,none⟩),dz t r,.int .i64 x] h κ:=by
 refine EP R hlo hl gd qB t r x _ ?_ ?_
 ·intro h' hn l; exact hk h' 0 false (.inr ⟨rfl,rfl,hn⟩) l
 ·intro h' e p he ht hr hp hx l; exact hk h' _ true (.inl ⟨rfl,e,he,ht,hr,p,hp,hx,rfl⟩) l
theorem agL {Q:List R5} {W:Int} (v:VQ Q W) {p q:R5} (hp:p∈Q) (hq:q∈Q) (h:p.x=q.x):p=q:=by
 obtain ⟨i,hi⟩:=List.getElem?_of_mem hp
 obtain ⟨j,hj⟩:=List.getElem?_of_mem hq
 have G:=cr.1 v.pair
 rcases Nat.lt_trichotomy i j with hl | hl | hl
 ·exact absurd h (G i j p q hl hi hj).x
 ·subst hl; rw[hi] at hj; exact Option.some.inj hj
 ·exact absurd h.symm (G j i q p hl hj hi).x
theorem gL.find (s:Ry h bb bm bp bl most M clock F B) (l:gL M K) {t r x id id':Int} {b b':Bool} (g:yF M t r x id b) (g':yF K t r x id' b'):id'=id∧b'=b:=by
 rcases g with ⟨rfl,e,he,ht,hr,p,hp,hx,rfl⟩ | ⟨rfl,rfl,hn⟩
 ·rcases g' with ⟨rfl,k,hk,ht',hr',p',hp',hx',rfl⟩ | ⟨rfl,rfl,hn⟩
  ·obtain ⟨e2,td,h1,h2,h3,h4⟩:=l.each k hk
   have:=s.is.ok.uniq td he (by rw[←h1,←ht',ht]) (by rw[←h2,←hr',hr])
   subst this
   rw[h4] at hp'
   exact ⟨by rw[agL (s.is.good _ he).vq hp' hp (hx'.trans hx.symm)],rfl⟩
  ·obtain ⟨k,hk,h1,h2,h3,h4⟩:=l.yC s.is.ok he
   exact absurd hx (hn k hk (ht.trans h1.symm) (hr.trans h2.symm) p (by rw[h4]; exact hp))
 ·rcases g' with ⟨rfl,k,hk,ht',hr',p',hp',hx',rfl⟩ | ⟨rfl,rfl,hn'⟩
  ·obtain ⟨e2,td,h1,h2,h3,h4⟩:=l.each k hk
   rw[h4] at hp'
   exact absurd hx' (hn e2 td (ht'.trans h1) (hr'.trans h2) p' hp')
  ·exact ⟨rfl,rfl⟩
end
theorem abW {β:Type} {fl:β} (cn:Bool) (a b:Bool) (h:Heap) (κ:Value→Heap→β):av fl Tryz.prog .neq 4 cn false (.bool a) (.bool b) h κ=κ (.bool (!decide (a=b))) h:=by
 have und:Tryz.prog.underlying 4=some .bool:=by kernel_rfl
 have e1:lP Tryz.prog h 100 4 (.bool a) (.bool b)=some (decide (a=b)):=by
  unfold lP
  simp only[und]
  cases a<;>cases b<;>exact id rfl
 simp only[av,e1,cq]
theorem abX {h:Heap} {v:Value} {L:List Act} (hs:Sl dc h v L) (i:Nat) {q:Act} (hq:L[i]? = some q) :
  ∃b o,b<h.nx∧(∀(β:Type) (fl:β) (h':Heap) (κ:Value→Heap→β),an fl 6 v (.int .i64 (i:Int)) h' κ=κ (.pointer (some ⟨b,o,none⟩)) h')∧
   ∀h',Le h h'→((∀(β:Type) (fl:β) (κ:List Value→β),vm fl (h'.bl.get b) o 6 κ=κ (dc q))∧
   (∀(β:Type) (fl:β) (κ:Value→β),qM fl (h'.bl.get b) (o+3) κ=κ (.int .i64 q.id))∧
   (∀(β:Type) (fl:β) (κ:List Value→β),vm fl (h'.bl.get b) (o+1) 2 κ=κ [.int .i64 q.t,.int .i64 q.r])∧
   (∀(β:Type) (fl:β) (κ:Value→β),qM fl (h'.bl.get b) (o+4) κ=κ (.int .i64 q.x))):=by
 obtain ⟨b,o,h1,h2,h3,hh⟩:=hs.ld encA_len i hq
 refine ⟨b,o,h1,h2,fun h' le=>?_⟩
 rw[←le.get b h1] at hh
 refine ⟨fun β fl κ=>jG hh 6 κ rfl,fun β fl κ=>dD (fl:=fl) hh 3 κ (by show 3<6; omega),fun β fl κ=>?_,fun β fl κ=>dD (fl:=fl) hh 4 κ (by show 4<6; omega)⟩
 have:=hh.sub 1 2 (by show 1+2≤6; omega)
 exact jG this 2 κ rfl
end Go.Proofs
