/-
  PROVED HERE: a part of the proof (N8, N9, N10).
-/
import Derived.Test.YtijmemedhkgplaaGreatDoorNB
set_option linter.unusedVariables false
set_option linter.unusedSimpArgs false
set_option maxRecDepth 100000
set_option maxHeartbeats 4000000
namespace Go.Proofs
open Go.Vai Go.Clashes
abbrev vz:=Int × Int × Int × List Vai.R5
def Ls (k:vz):Int × Int:=(k.1,k.2.1)
def dA (k:vz):List L4:=gX k.1 k.2.1 k.2.2.2
theorem Lt (O:List HE):O.flatMap jY=(O.map dX).flatMap dA:=by
 rw[List.flatMap_map]; rfl
theorem kF (O:List HE):(O.map dX).map Ls=O.map a_:=by
 rw[List.map_map]; rfl
def iX (Q:List R5) (x:Int):Int:=match Q.find? fun p=>decide (p.x=x) with | some p=>p.m | none=>0
theorem Lu (t r x:Int):∀{Q:List R5},Q.Pairwise fV→(gX t r Q).filter (fun p=>decide (p.x=x))=if iX Q x≠0 then [⟨x,t,r,iX Q x⟩] else []:=by
 intro Q
 induction Q with
 | nil=>intro _; rfl
 | cons p Q ih=>
  intro hp
  rw[List.pairwise_cons] at hp
  have lZ:p.x=x→(gX t r Q).filter (fun p=>decide (p.x=x))=[]:=by
   intro hx
   rw[List.filter_eq_nil_iff]
   intro a ha
   unfold gX at ha
   obtain ⟨q,hq,rfl⟩:=List.mem_map.1 ha
   have:=(hp.1 q (List.mem_filter.1 hq).1).x
   simp only[decide_eq_true_eq]
   exact fun e=>this (hx.trans e.symm)
  have hstep:gX t r (p::Q)=(if p.m≠0 then [⟨p.x,t,r,p.m⟩] else [])++gX t r Q:=by
   unfold gX
   by_cases hm:p.m≠0
   ·rw[if_pos hm,List.filter_cons_of_pos (by simpa using hm)]; rfl
   ·rw[if_neg hm,List.filter_cons_of_neg (by simpa using hm)]; rfl
  rw[hstep,List.filter_append]
  by_cases hx:p.x=x
  ·have hmq:iX (p::Q) x=p.m:=by unfold iX; rw[List.find?_cons_of_pos (by simpa using hx)]
   rw[hmq,lZ hx,List.append_nil]
   by_cases hm:p.m≠0
   ·rw[if_pos hm,if_pos hm,List.filter_cons_of_pos (by simpa using hx),hx]; rfl
   ·rw[if_neg hm,if_neg hm]; rfl
  ·have hmq:iX (p::Q) x=iX Q x:=by unfold iX; rw[List.find?_cons_of_neg (by simpa using hx)]
   rw[hmq,ih hp.2]
   by_cases hm:p.m≠0
   ·rw[if_pos hm,List.filter_cons_of_neg (by simpa using hx)]; rfl
   ·rw[if_neg hm]; rfl
theorem B9 {S:List vz} (hs:(S.map Ls).Pairwise fH) (hb:∀k∈S,k.2.2.2.Pairwise fV):(S.flatMap dA).Pairwise fun a b=>a.x=b.x→qS a b:=by
 rw[List.pairwise_flatMap]
 constructor
 ·intro k hk
  unfold dA gX
  rw[List.pairwise_map]
  exact ((hb k hk).sublist List.filter_sublist).imp fun hbe e=>absurd e hbe.x
 ·rw[List.pairwise_map] at hs
  refine hs.imp fun {k k'} hlt a ha b hb' e=>?_
  unfold dA gX at ha hb'
  obtain ⟨p,_,rfl⟩:=List.mem_map.1 ha
  obtain ⟨q,_,rfl⟩:=List.mem_map.1 hb'
  exact .inr ⟨e,hlt⟩
theorem Lv {a b:L4} (h:qS a b):¬qS b a:=by unfold qS fH at *; simp only at *; omega
theorem u7 {L:List L4} (h:L.Pairwise fun a b=>a.x=b.x→qS a b) (x:Int):(L.filter fun p=>decide (p.x=x)).Pairwise qS:=by
 have h1:=h.sublist (List.filter_sublist (p:=fun p=>decide (p.x=x)))
 rw[cr] at h1 ⊢
 intro i j p q hij hp hq
 refine h1 i j p q hij hp hq ?_
 have e1:=(List.mem_filter.1 (List.mem_of_getElem? hp)).2
 have e2:=(List.mem_filter.1 (List.mem_of_getElem? hq)).2
 simp only[decide_eq_true_eq] at e1 e2
 rw[e1,e2]
theorem Pn (L:List L4):∀{T:List Int},T.Nodup→(L.filter fun a=>decide (a.x∈T)).Perm (T.flatMap fun x=>L.filter fun a=>decide (a.x=x)):=by
 intro T
 induction T with
 | nil=>intro _; simp
 | cons x T ih=>
  intro hn
  rw[List.nodup_cons] at hn
  rw[List.flatMap_cons]
  refine (List.filter_append_perm (fun a=>decide (a.x=x)) _).symm.trans ?_
  rw[List.filter_filter,List.filter_filter]
  refine List.Perm.append ?_ ?_
  ·refine List.Perm.of_eq (List.filter_congr fun a _=>?_)
   rw[Bool.eq_iff_iff]
   simp only[List.mem_cons,Bool.and_eq_true,decide_eq_true_eq]
   exact ⟨fun h=>h.1,fun h=>⟨h,.inl h⟩⟩
  ·refine List.Perm.trans (List.Perm.of_eq (List.filter_congr fun a _=>?_)) (ih hn.2)
   rw[Bool.eq_iff_iff]
   simp only[List.mem_cons,Bool.and_eq_true,decide_eq_true_eq,Bool.not_eq_true',decide_eq_false_iff_not]
   constructor
   ·rintro ⟨h1,h2 | h2⟩
    ·exact absurd h2 h1
    ·exact h2
   ·intro h
    exact ⟨fun e=>hn.1 (e▸h),.inr h⟩
theorem Xh {L:List L4} (h:L.Pairwise fun a b=>a.x=b.x→qS a b) {T:List Int} (hT:T.Pairwise (·<·)):(T.flatMap fun x=>L.filter fun a=>decide (a.x=x)).Pairwise qS:=by
 rw[List.pairwise_flatMap]
 constructor
 ·intro x _; exact u7 h x
 ·refine hT.imp fun {x y} hlt a ha b hb=>?_
  have e1:=(List.mem_filter.1 ha).2
  have e2:=(List.mem_filter.1 hb).2
  simp only[decide_eq_true_eq] at e1 e2
  exact .inl (by omega)
theorem AA {L D:List L4} (hp:D.Perm L) (h1:D.Pairwise qS) (h2:L.Pairwise qS):D=L:=
 u5 hp h1 h2 fun a _ b _ k1 k2=>absurd k2 (Lv k1)
theorem E8 {L D:List L4} (h:L.Pairwise fun a b=>a.x=b.x→qS a b) (hp:D.Perm L) (hs:D.Pairwise fun x y=>¬qS y x):D.Pairwise qS:=by
 have hne:L.Pairwise fun a b=>a.x=b.x→¬(a.t=b.t∧a.r=b.r):=h.imp fun {a b} hab e hn=>by
  have:=hab e
  unfold qS fH at this
  simp only at this
  omega
 have jT:D.Pairwise fun a b=>a.x=b.x→¬(a.t=b.t∧a.r=b.r):=by
  refine hp.symm.pairwise hne ?_
  intro a b hab e hn
  exact hab e.symm ⟨hn.1.symm,hn.2.symm⟩
 refine (hs.and jT).imp fun {a b} ⟨h1,h2⟩=>?_
 refine Classical.byContradiction fun h3=>?_
 obtain ⟨k1,k2,k3⟩:=RQ h3 h1
 exact h2 k1 ⟨k2,k3⟩
def zL:List Value:=[.int .i64 0,.int .i64 0,.int .i64 0,.int .i64 0]
theorem Xi (a0 a1:Value) (h:Heap) (κ:KQ):aJ Tryz.prog 125 [a0,a1] h κ=iS Tryz.prog 3 4 a0 a1 h κ:=by kernel_rfl
theorem Xj (a0 a1:Value) (h:Heap) (κ:KQ):aJ Tryz.prog 83 [a0,a1] h κ=kq Tryz.prog 3 125 57 4 zL a0 a1 h κ:=by kernel_rfl
section
variable {a0 h:Heap} {tb bw bp bl:Nat} {c:fI} {vb:Value} {aG N:Nat} {Ts:List TB} {W:List IE} {wc:Nat} {F:List Int} {B:List Bool} {rt rp rl:Nat} {vr:Value} {R:List RB}
theorem iW.B_ (s:iW h tb bw bp bl c vb aG N Ts W wc F B) {v:Value} {D:List L4} {K:List HE} {h':Heap} (t:uZ h' Ts v D K):D.length≤128:=by
 have h1:=s.sum t.of
 have h2:=s.is.bM.small
 have h3:∀K:List HE,(K.flatMap jY).length≤zq K:=by
  intro K
  induction K with
  | nil=>exact Nat.le_refl _
  | cons k K ih=>
   have:=nF (t:=k.t) (r:=k.r) k.Q
   rw[List.flatMap_cons,List.length_append]
   show (gX k.t k.r k.Q).length+_≤_
   unfold zq at ih ⊢
   simp only[List.map_cons,List.sum_cons]
   omega
 have h4:=h3 K
 have h5:=t.perm.length_eq
 omega
theorem Po (s:iW h tb bw bp bl c vb aG N Ts W wc F B) (hlo:h.lo≤h.nx) (x:Int) (κ:KQ)
  (hk:∀v h' h1 v1 D K,uZ h1 Ts v1 D K→Sl gf h' v (D.filter fun p=>decide (p.x=x))→Le h h'→κ v h') :
  CallW Tryz.prog 31 [.pointer (some ⟨tb,0,none⟩),.int .i64 x] h κ:=by
 refine aq mixed ?_
 rw[ZB]
 simp(disch:=first|omega|simp only[Wd]<;>omega|with_unfolding_all rfl)only[Wz]
 obtain ⟨hA,az⟩:∃hA:Heap,hA=⟨h.nx+1,(h.bl.bf (h.nx) (af [.int .i64 x] 3 false)),h.lo⟩:=⟨_,rfl⟩
 have aH:Le h hA:=by subst az; exact ((Le.refl h).new _)
 have g1:hA.bl.get (h.nx)=some (af [.int .i64 x] 3 false):=by subst az; exact T.aa _ _ _
 have dF:hA.nx=h.nx+1:=by subst az; rfl
 have dG:hA.lo=h.lo:=by subst az; rfl
 rw[←az]
 clear az
 refine Jo (s.le aH) (by omega) _ ?_
 intro v1 h1 D K ta ho bu
 have n1:=bu.nx
 have l1:=bu.lo
 have hDl:=(s.le aH).B_ ta
 refine xm mixed lJ sZ (by decide) (z:=zL) rfl rfl (by decide) Xi Xj hA h1 D (fun p=>decide (p.x≠x)) v1 _ _ bu ho (by omega) (by omega) ?_ ?_
 ·intro p h2 κ1 aZ _ fF
  have g2:=(aZ.get _ (by omega)).trans g1
  unfold QF
  show CallW Tryz.prog 84 [.agg ⟨gf p⟩,.pointer (some ⟨h.nx,0,none⟩)] h2 κ1
  refine aq mixed ?_
  rw[aaj]
  have n2:=aZ.nx
  simp(disch:=first|omega|simp only[Wd]<;>omega|with_unfolding_all rfl)only[Wz,gf,g2]
  have e:(!decide (p.x=x))=decide (p.x≠x):=by simp
  first | (rw[e]; exact fF _ ((Le.refl h2).new _)) | exact fF _ ((Le.refl h2).new _)
 ·intro v' h' wN _ le' _ _
  have e:(D.filter fun p=>!decide (p.x≠x))=D.filter fun p=>decide (p.x=x):=by simp
  rw[e] at wN
  exact hk v' h' h1 v1 D K ta wN (aH.trans le')
end
theorem Pp (t r:Int) (q:Value) (w x:Int) (Q:List R5) (h:Heap) (κ:KQ) (hq:Sl aW h q Q) (hlen:Q.length≤100000) (hlo:h.lo≤h.nx) (hk:∀h',Le h h'→κ (.int .i64 (iX Q x)) h') :
  CallW Tryz.prog 85 [cG t r q w,.int .i64 x] h κ:=by
 obtain ⟨qx,qc,rfl,_⟩:=(show Sl aW h q Q from hq)
 refine aq mixed ?_
 rw[aak]
 simp(disch:=first|omega|simp only[Wd]<;>omega|with_unfolding_all rfl)only[Wz,cG]
 obtain ⟨hA,az⟩:∃hA:Heap,hA=⟨h.nx+1,(h.bl.bf (h.nx) (af [.int .i64 t,.int .i64 r,.slice qx Q.length qc,.int .i64 w] 51 false)),h.lo⟩:=⟨_,rfl⟩
 have aH:Le h hA:=by subst az; exact ((Le.refl h).new _)
 have g1:hA.bl.get (h.nx)=some (af [.int .i64 t,.int .i64 r,.slice qx Q.length qc,.int .i64 w] 51 false):=by subst az; exact T.aa _ _ _
 have dF:hA.nx=h.nx+1:=by subst az; rfl
 have dG:hA.lo=h.lo:=by subst az; rfl
 rw[←az]
 clear az
 have oB:=hq.le aH
 refine ⟨fun n l h1=>∃i:Nat,slot l 22=.int .i64 (i:Int)∧i≤Q.length∧n=Q.length-i∧(∀(j:Nat) (p:R5),j<i→Q[j]? = some p→p.x≠x)∧HQ hA h1,⟨_,0,rfl,Nat.zero_le _,rfl,fun j p hj=>(by omega),rfl⟩,?_⟩
 rintro n l h1 ⟨i,s1,hi,rfl,hall,hQ⟩
 cases (show hA=h1 from hQ)
 by_cases hlt:i<Q.length
 ·obtain ⟨p,hp⟩:∃p,Q[i]? = some p:=⟨_,List.getElem?_eq_getElem hlt⟩
  obtain ⟨b,o,hb,dM,dg⟩:=tf oB i hp
  by_cases hx:p.x=x
  ·simp(disch:=first|omega|simp only[Wd]<;>omega|with_unfolding_all rfl)only[Wz,vN,g1,s1,bZ (show (i:Int)<(Q.length:Int) by omega),BH,dM,dg,aM hx]
   have:iX Q x=p.m:=by
    unfold iX
    have:Q.find? (fun p=>decide (p.x=x))=some p:=by
     rw[List.find?_eq_some_iff_getElem]
     refine ⟨by simpa using hx,i,hlt,(List.getElem?_eq_some_iff.1 hp).2,fun j hj=>?_⟩
     have:=hall j _ hj (List.getElem?_eq_getElem (by omega))
     simpa using this
    rw[this]
   rw[this] at hk
   exact hk hA aH
  ·simp(disch:=first|omega|simp only[Wd]<;>omega|with_unfolding_all rfl)only[Wz,vN,g1,s1,bZ (show (i:Int)<(Q.length:Int) by omega),BH,dM,dg,aK hx]
   refine ⟨_,by omega,i+1,rfl,by omega,rfl,fun j p' hj hp'=>?_,rfl⟩
   by_cases e:j=i
   ·subst e; rw[hp] at hp'; cases hp'; exact hx
   ·exact hall j p' (by omega) hp'
 ·have hil:i=Q.length:=by omega
  subst hil
  simp(disch:=first|omega|simp only[Wd]<;>omega|with_unfolding_all rfl)only[Wz,vN,g1,s1,bL (show (Q.length:Int)≤(Q.length:Int) by omega)]
  have:iX Q x=0:=by
   unfold iX
   have:Q.find? (fun p=>decide (p.x=x))=none:=by
    rw[List.find?_eq_none]
    intro p hp
    obtain ⟨j,hj⟩:=List.getElem?_of_mem hp
    have:=hall j p (List.getElem?_eq_some_iff.1 hj).1 hj
    simpa using this
   rw[this]
  rw[this] at hk
  exact hk hA aH
def Lw (T:List Int) (x:Int) (i:Nat):List Int:=T.take i++x::T.drop i
theorem RZ {T:List Int} {x:Int} {i:Nat} (hT:T.Pairwise (·<·)) (h1:∀(j:Nat) (y:Int),j<i→T[j]? = some y→y<x) (h2:∀y,T[i]? = some y→x<y):(Lw T x i).Pairwise (·<·)∧∀y,y∈Lw T x i↔y∈T∨y=x:=by
 unfold Lw
 constructor
 ·have hs:=hT
  rw[←List.take_append_drop i T,List.pairwise_append] at hs
  obtain ⟨s1,s2,s3⟩:=hs
  have up:∀y∈T.drop i,x<y:=by
   intro y hy
   obtain ⟨j,hj⟩:=List.getElem?_of_mem hy
   rw[List.getElem?_drop] at hj
   have hil:i<T.length:=by have:=(List.getElem?_eq_some_iff.1 hj).1; omega
   obtain ⟨z,hz⟩:∃z,T[i]? = some z:=⟨_,List.getElem?_eq_getElem hil⟩
   have:=h2 z hz
   by_cases e:j=0
   ·subst e; rw[Nat.add_zero] at hj; rw[hz] at hj; cases hj; exact this
   ·have:=cr.1 hT i (i+j) z y (by omega) hz hj
    omega
  rw[List.pairwise_append,List.pairwise_cons]
  refine ⟨s1,⟨up,s2⟩,fun a ha b hb=>?_⟩
  obtain ⟨j,hj⟩:=List.getElem?_of_mem ha
  rw[List.getElem?_take] at hj
  split at hj
  ·rename_i hji
   have h3:=h1 j a hji hj
   rcases List.mem_cons.1 hb with rfl | hb
   ·exact h3
   ·have:=up b hb; omega
  ·cases hj
 ·intro y
  rw[List.mem_append,List.mem_cons]
  have:y∈T↔y∈T.take i∨y∈T.drop i:=by rw[←List.mem_append,List.take_append_drop]
  rw[this]
  constructor
  ·rintro (h | h | h)
   ·exact .inl (.inl h)
   ·exact .inr h
   ·exact .inl (.inr h)
  ·rintro ((h | h) | h)
   ·exact .inl h
   ·exact .inr (.inr h)
   ·exact .inr (.inl h)
theorem Xk (a h:Heap) (U:List Int) (v:Value) (x:Int) (κ:KQ) (ho:gV a h v U) (em:vw U v) (hT:U.Pairwise (·<·)) (hle:Le a h) (hlo:h.lo≤h.nx) (hl:U.length≤500000)
  (hk:∀v' h' U',U'.Pairwise (·<·)→(∀y,y∈U'↔y∈U∨y=x)→U'.length≤U.length+1→gV a h' v' U'→vw U' v'→Le h h'→κ v' h') :
  CallW Tryz.prog 86 [v,.int .i64 x] h κ:=by
 have hlen:∀(β:Type) (fl:β) (h':Heap) (κ:Value→Heap→β),bh fl v h' κ=κ (.int .i64 (U.length:Int)) h':=fun β fl h' κ=>ho.sl.len κ h'
 have ann:=hle.nx
 refine aq mixed ?_
 rw[aal]
 refine ⟨fun n l h1=>∃i:Nat,slot l 14=.int .i64 (i:Int)∧i≤U.length∧n=U.length-i∧(∀(j:Nat) (y:Int),j<i→U[j]? = some y→y<x)∧HQ h h1,⟨_,0,rfl,Nat.zero_le _,rfl,fun j p hj=>(by omega),rfl⟩,?_⟩
 rintro n l h1 ⟨i,s1,hi,rfl,hall,hQ⟩
 cases (show h=h1 from hQ)
 have done:(∀y,U[i]? = some y→x<y)→BI v l (.int .i64 x) h κ:=by
  intro LV
  simp(disch:=first|omega|simp only[Wd]<;>omega|with_unfolding_all rfl)only[Wz,BI,qs,s1]
  obtain ⟨hA,az⟩:∃hA:Heap,hA=⟨h.nx+1,(h.bl.bf (h.nx) (af [] 3 false)),h.lo⟩:=⟨_,rfl⟩
  have aH:Le h hA:=by subst az; exact ((Le.refl h).new _)
  have ge:hA.bl.get (h.nx)=some (af [] 3 false):=by subst az; exact T.aa _ _ _
  have dF:hA.nx=h.nx+1:=by subst az; rfl
  have dG:hA.lo=h.lo:=by subst az; rfl
  rw[←az]
  clear az
  have oA:=ho.le aH
  rw[qt bY (by decide) oA em i hi]
  have hf:=sN bY oA i hi
  refine fN (enc:=cw) (a:=hA) (L:=[]) (M:=U.take i) bY iL (by decide) (by decide) (.inl ⟨rfl,.inr ⟨_,_,rfl⟩⟩) (fun _=>.inr ⟨_,_,rfl⟩) hf (Le.refl _) (by simp; omega) (by omega) _ ?_
  intro v6 h6 tY W0 oz _
  rw[List.nil_append] at tY W0
  have n6:=oz.nx
  have l6:=oz.lo
  try simp(disch:=first|omega|simp only[Wd]<;>omega|with_unfolding_all rfl)only[Wz]
  obtain ⟨hB,bF⟩:∃hB:Heap,hB=⟨h6.nx+1,(h6.bl.bf (h6.nx) (af [.int .i64 x] 3 false)),h6.lo⟩:=⟨_,rfl⟩
  have bD:Le h6 hB:=by subst bF; exact ((Le.refl h6).new _)
  have gB:hB.bl.get (h6.nx)=some (af [.int .i64 x] 3 false):=by subst bF; exact T.aa _ _ _
  have pE:hB.nx=h6.nx+1:=by subst bF; rfl
  have pF:hB.lo=h6.lo:=by subst bF; rfl
  rw[←bF]
  clear bF
  have hone:Sl cw hB (.slice (some ⟨h6.nx,0,none⟩) 1 1) [x]:=Sl.new (L:=[x]) (e:=3) (op:=false) (by omega) gB _
  refine fN (enc:=cw) (a:=hA) (L:=U.take i) (M:=[x]) bY iL (by decide) (by decide) (tY.le bD) W0 hone (oz.trans bD) (by simp; omega) (by omega) _ ?_
  intro v7 h7 Fj em7 uR _
  have n7:=uR.nx
  have l7:=uR.lo
  obtain ⟨u,hu,eu⟩:=(oA.le uR).tail bY (by decide) i hi
  simp(disch:=first|omega|simp only[Wd]<;>omega|with_unfolding_all rfl)only[Wz,s1,eu]
  refine fN (enc:=cw) (a:=hA) (L:=U.take i++[x]) (M:=U.drop i) bY iL (by decide) (by decide) Fj em7 hu uR (by simp; omega) (by omega) _ ?_
  intro v8 h8 PK Tw Fl _
  have eL:U.take i++[x]++U.drop i=Lw U x i:=by simp[Lw]
  rw[eL] at PK Tw
  obtain ⟨p1,p2⟩:=RZ hT hall LV
  exact hk v8 h8 _ p1 p2 (by simp[Lw]; omega) (cU.base PK (by omega)) Tw (aH.trans Fl)
 by_cases hlt:i<U.length
 case neg=>
  simp(disch:=first|omega|simp only[Wd]<;>omega|with_unfolding_all rfl)only[Wz,sv,hlen,s1,bL (show (U.length:Int)≤(i:Int) by omega),vO]
  exact done fun y hy=>by have:=(List.getElem?_eq_some_iff.1 hy).1; omega
 obtain ⟨y,hy⟩:∃y,U[i]? = some y:=⟨_,List.getElem?_eq_getElem hlt⟩
 obtain ⟨b,o,hb,dM,dg⟩:=ldI ho.sl i hy
 by_cases h1:y<x
 ·simp(disch:=first|omega|simp only[Wd]<;>omega|with_unfolding_all rfl)only[Wz,sv,hlen,s1,bZ (show (i:Int)<(U.length:Int) by omega),dM,dg,aM h1]
  refine ⟨_,by omega,i+1,rfl,by omega,rfl,fun j z hj hz=>?_,rfl⟩
  by_cases e:j=i
  ·subst e; rw[hy] at hz; cases hz; exact h1
  ·exact hall j z (by omega) hz
 ·by_cases h2:y=x
  ·simp(disch:=first|omega|simp only[Wd]<;>omega|with_unfolding_all rfl)only[Wz,sv,hlen,s1,bZ (show (i:Int)<(U.length:Int) by omega),dM,dg,aK h1,vO,aM h2]
   refine hk v h U hT (fun z=>⟨.inl,?_⟩) (by omega) ho em (Le.refl _)
   rintro (hz | rfl)
   ·exact hz
   ·exact h2▸List.mem_of_getElem? hy
  ·simp(disch:=first|omega|simp only[Wd]<;>omega|with_unfolding_all rfl)only[Wz,sv,hlen,s1,bZ (show (i:Int)<(U.length:Int) by omega),dM,dg,aK h1,vO,aK h2]
   exact done fun z hz=>by rw[hy] at hz; cases hz; omega
section
variable {a0 h:Heap} {c:fI} {aG:Nat} {B:List Bool} {rt rp rl:Nat} {vr:Value} {R:List RB}
theorem Jr:∀{L:List Nat} {n:Nat},n∈L→n≤L.sum:=by
 intro L
 induction L with
 | nil=>intro n h; nomatch h
 | cons a L ih=>
  intro n h
  rw[List.sum_cons]
  rcases List.mem_cons.1 h with rfl | h
  ·omega
  ·have:=ih h; omega
theorem E9 (t:iZ a0 h rt rp rl c vr aG R B) (g:lK R) {S:List vz} (hp:S.Perm (R.flatMap fun r=>r.K.map dX)):S.length≤1024:=by
 have h1:∀L:List RB,(∀r∈L,r.K.length≤64)→(L.flatMap fun r=>r.K.map dX).length≤64*L.length:=by
  intro L
  induction L with
  | nil=>intro _; simp
  | cons r L ih=>
   intro hL
   have h1:=ih fun x hx=>hL x (.tail _ hx)
   have h2:=hL r (.head _)
   rw[List.flatMap_cons,List.length_append,List.length_map,List.length_cons]
   omega
 have:=h1 R g.len
 have:=hp.length_eq
 have:=t.s1.2
 omega
structure Ca (R:List RB) (S:List vz):Prop where
 perm:S.Perm (R.flatMap fun r=>r.K.map dX)
 qB:(S.map Ls).Pairwise fH
 few:(S.map fun k=>k.2.2.2.length).sum≤128
 bes:∀k∈S,k.2.2.2.Pairwise fV
theorem uv (t:iZ a0 h rt rp rl c vr aG R B) (g:lK R) (hlo:h.lo≤h.nx) {S:List vz} (hS:Ca R S) (κ:KQ)
  (hk:∀v h' O,O.map dX=S→(∀k∈O,QV h' k.q k.Q)→rG h h' v O→Le h h'→κ v h') :
  CallW Tryz.prog 30 [.pointer (some ⟨rt,0,none⟩)] h κ:=by
 have dj:(R.flatMap fun r=>r.K.map a_).Nodup:=by
  have h1:(S.map Ls).Nodup:=hS.qB.imp fun {a b} hlt e=>by subst e; unfold fH at hlt; omega
  have h2:=(hS.perm.map Ls).nodup_iff.1 h1
  rw[List.map_flatMap] at h2
  simp only[kF] at h2
  exact h2
 refine Pm t g hlo dj _ ?_
 intro v h' O hp hs hQ ho le
 refine hk v h' O ?_ hQ ho le
 have hs2:(O.map dX).Pairwise fun a b=>fH (Ls a) (Ls b):=by
  have:=hs
  rw[←kF,List.pairwise_map] at this
  exact this
 have hs3:S.Pairwise fun a b=>fH (Ls a) (Ls b):=List.pairwise_map.1 hS.qB
 refine u5 (hp.trans hS.perm.symm) hs2 hs3 fun a _ b _ k1 k2=>?_
 exfalso
 unfold fH at k1 k2
 omega
theorem Js {O:List HE} {S:List vz} (e:O.map dX=S) {i:Nat} {k:HE} (hi:O[i]? = some k):S[i]? = some (dX k):=by
 rw[←e,List.getElem?_map,hi]; rfl
theorem AB (t:iZ a0 h rt rp rl c vr aG R B) (g:lK R) (hlo:h.lo≤h.nx) {S:List vz} (hS:Ca R S) (x:Int) (κ:KQ)
  (hk:∀v h',zy h h' v ((S.flatMap dA).filter fun p=>decide (p.x=x))→Le h h'→κ v h') :
  CallW Tryz.prog 32 [.pointer (some ⟨rt,0,none⟩),.int .i64 x] h κ:=by
 refine aq mixed ?_
 rw[ZE]
 refine uv t g hlo hS _ ?_
 intro v0 h0 O eO hQ ho GH
 have n0:=GH.nx
 have l0:=GH.lo
 have hOS:O.length=S.length:=by rw[←eO]; simp
 have hSl:=E9 t g hS.perm
 have yN:∀(β:Type) (fl:β) (h':Heap) (κ:Value→Heap→β),bh fl v0 h' κ=κ (.int .i64 (O.length:Int)) h':=fun β fl h' κ=>ho.sl.len κ h'
 have Pq:∀k∈S,k.2.2.2.length≤128:=fun k hk'=>by
  have:k.2.2.2.length≤(S.map fun k=>k.2.2.2.length).sum:=Jr (List.mem_map.2 ⟨k,hk',rfl⟩)
  have:=hS.few
  omega
 have Cb:∀S':List vz,(S'.flatMap dA).length≤(S'.map fun k=>k.2.2.2.length).sum:=by
  intro S'
  induction S' with
  | nil=>exact Nat.le_refl _
  | cons k S' ih=>
   have:=nF (t:=k.1) (r:=k.2.1) k.2.2.2
   rw[List.flatMap_cons,List.length_append,List.map_cons,List.sum_cons]
   show (gX k.1 k.2.1 k.2.2.2).length+_≤_
   omega
 have ahf:∀i,(((S.take i).flatMap dA).filter fun p=>decide (p.x=x)).length≤128:=by
  intro i
  have h1:=List.length_filter_le (fun p:L4=>decide (p.x=x)) ((S.take i).flatMap dA)
  have h2:=Cb (S.take i)
  have h3:((S.take i).map fun k=>k.2.2.2.length).sum≤(S.map fun k=>k.2.2.2.length).sum:=by
   conv=>rhs; rw[←List.take_append_drop i S,List.map_append,List.sum_append]
   omega
  have:=hS.few
  omega
 refine ⟨fun n l h1=>∃i:Nat,slot l 27=.int .i64 (i:Int)∧n=O.length-i∧i≤O.length∧zy h0 h1 (slot l 24) (((S.take i).flatMap dA).filter fun p=>decide (p.x=x))∧Le h0 h1,
  ⟨_,0,rfl,rfl,by omega,.inl ⟨by simp,.inl rfl⟩,Le.refl _⟩,?_⟩
 rintro n l h1 ⟨i,s1,rfl,hi,hoL,bu⟩
 have n1:=bu.nx
 have l1:=bu.lo
 by_cases hlt:i<O.length
 case neg=>
  have hil:i=S.length:=by omega
  subst hil
  rw[List.take_length] at hoL
  simp(disch:=first|omega|simp only[Wd]<;>omega|with_unfolding_all rfl)only[Wz,Bs,yN,s1,bL (show (O.length:Int)≤(S.length:Int) by omega)]
  exact hk _ h1 (cU.base hoL n0) (GH.trans bu)
 obtain ⟨k,hki⟩:∃k,O[i]? = some k:=⟨_,List.getElem?_eq_getElem hlt⟩
 have Ck:=List.mem_of_getElem? hki
 have ou:=Js eO hki
 have qk:=hQ k Ck
 obtain ⟨b,o,hb,dM,dg⟩:=KX ho.sl i hki (nV qk.1)
 have L1:=dg h1 bu
 have hlg:k.Q.length≤128:=Pq _ (List.mem_of_getElem? ou)
 have ahg:k.Q.Pairwise fV:=hS.bes _ (List.mem_of_getElem? ou)
 have hstep:((S.take (i+1)).flatMap dA).filter (fun p=>decide (p.x=x))=(((S.take i).flatMap dA).filter fun p=>decide (p.x=x))++(if iX k.Q x≠0 then [⟨x,k.t,k.r,iX k.Q x⟩] else []):=by
  rw[kN dA ou,List.filter_append]
  congr 1
  exact Lu k.t k.r x ahg
 have Av:=ahf i
 simp(disch:=first|omega|simp only[Wd]<;>omega|with_unfolding_all rfl)only[Wz,Bs,yN,s1,bZ (show (i:Int)<(O.length:Int) by omega),Io,dM,L1]
 refine ⟨fun l' h'=>zy h0 h' (slot l' 20) (((S.take (i+1)).flatMap dA).filter fun p=>decide (p.x=x))∧Le h0 h',?_,?_⟩
 rotate_left
 ·rintro l' h' ⟨e1,e2⟩
  exact ⟨_,by omega,i+1,rfl,rfl,by omega,e1,e2⟩
 refine Pp k.t k.r k.q k.w x k.Q h1 _ (qk.le bu).1 (by omega) (by omega) ?_
 intro h2 aZ
 have n2:=aZ.nx
 have l2:=aZ.lo
 have fM:=bu.trans aZ
 by_cases hm:iX k.Q x=0
 ·rw[if_neg (by omega),List.append_nil] at hstep
  simp(disch:=first|omega|simp only[Wd]<;>omega|with_unfolding_all rfl)only[Wz,aM hm]
  refine ⟨?_,fM⟩
  rw[hstep]
  exact hoL.le aZ
 ·rw[if_pos hm] at hstep
  have L2:=dg h2 fM
  simp(disch:=first|omega|simp only[Wd]<;>omega|with_unfolding_all rfl)only[Wz,aK hm,Im,s1,dM,L2]
  obtain ⟨hB,bF⟩:∃hB:Heap,hB=⟨h2.nx+1,(h2.bl.bf (h2.nx) (af [.int .i64 x,.int .i64 k.t,.int .i64 k.r,.int .i64 (iX k.Q x)] 57 false)),h2.lo⟩:=⟨_,rfl⟩
  have bD:Le h2 hB:=by subst bF; exact ((Le.refl h2).new _)
  have gB:hB.bl.get (h2.nx)=some (af [.int .i64 x,.int .i64 k.t,.int .i64 k.r,.int .i64 (iX k.Q x)] 57 false):=by subst bF; exact T.aa _ _ _
  have pE:hB.nx=h2.nx+1:=by subst bF; rfl
  have pF:hB.lo=h2.lo:=by subst bF; rfl
  rw[←bF]
  clear bF
  have hone:Sl gf hB (.slice (some ⟨h2.nx,0,none⟩) 1 1) [(⟨x,k.t,k.r,iX k.Q x⟩:L4)]:=Sl.new (L:=[(⟨x,k.t,k.r,iX k.Q x⟩:L4)]) (e:=57) (op:=false) (by omega) gB _
  refine cT (enc:=gf) (a:=h0) (L:=((S.take i).flatMap dA).filter fun p=>decide (p.x=x)) (M:=[(⟨x,k.t,k.r,iX k.Q x⟩:L4)]) lJ sZ (by decide) (by decide) ((hoL.le aZ).le bD) hone (fM.trans bD) (by simp only[List.length_cons,List.length_nil]; omega) (by omega) _ ?_
  intro v' h' ho' le' _ _ _ _
  refine ⟨?_,le'⟩
  rw[hstep]
  exact ho'
theorem R9 (t:iZ a0 h rt rp rl c vr aG R B) (g:lK R) (hlo:h.lo≤h.nx) {S:List vz} (hS:Ca R S) (κ:KQ)
  (hk:∀v h' A,A.Perm (S.flatMap dA)→A.Pairwise qS→Sl gf h' v A→Le h h'→κ v h') :
  CallW Tryz.prog 33 [.pointer (some ⟨rt,0,none⟩)] h κ:=by
 refine aq mixed ?_
 rw[ZF]
 refine uv t g hlo hS _ ?_
 intro v0 h0 O eO hQ ho GH
 have n0:=GH.nx
 have l0:=GH.lo
 have hOS:O.length=S.length:=by rw[←eO]; simp
 have hSl:=E9 t g hS.perm
 have yN:∀(β:Type) (fl:β) (h':Heap) (κ:Value→Heap→β),bh fl v0 h' κ=κ (.int .i64 (O.length:Int)) h':=fun β fl h' κ=>ho.sl.len κ h'
 have Pq:∀k∈S,k.2.2.2.length≤128:=fun k hk'=>by
  have:k.2.2.2.length≤(S.map fun k=>k.2.2.2.length).sum:=Jr (List.mem_map.2 ⟨k,hk',rfl⟩)
  have:=hS.few
  omega
 refine ⟨fun n l h1=>∃(i:Nat) (U:List Int),slot l 29=.int .i64 (i:Int)∧n=O.length-i∧i≤O.length∧U.Pairwise (·<·)∧(∀y,y∈U↔∃k∈S.take i,∃p∈k.2.2.2,p.x=y)∧U.length≤128*i∧gV h0 h1 (slot l 23) U∧vw U (slot l 23)∧Le h0 h1,
  ⟨_,0,[],rfl,rfl,by omega,List.Pairwise.nil,by simp,by simp,.inl ⟨rfl,.inl rfl⟩,fun _=>.inl rfl,Le.refl _⟩,?_⟩
 rintro n l h1 ⟨i,U,s1,rfl,hi,hU,hmU,hlU,hoU,emU,bu⟩
 have n1:=bu.nx
 have l1:=bu.lo
 by_cases hlt:i<O.length
 ·obtain ⟨k,hki⟩:∃k,O[i]? = some k:=⟨_,List.getElem?_eq_getElem hlt⟩
  have Ck:=List.mem_of_getElem? hki
  have ou:=Js eO hki
  have qk:=hQ k Ck
  obtain ⟨b,o,hb,dM,dg⟩:=KX ho.sl i hki (nV qk.1)
  have hlg:k.Q.length≤128:=Pq _ (List.mem_of_getElem? ou)
  obtain ⟨qx,qc,eq,_⟩:=(show Sl aW h0 k.q k.Q from qk.1)
  simp(disch:=first|omega|simp only[Wd]<;>omega|with_unfolding_all rfl)only[Wz,Bv,yN,s1,bZ (show (i:Int)<(O.length:Int) by omega)]
  refine ⟨fun m l3 h3=>∃(j:Nat) (V:List Int),slot l3 22=.int .i64 (j:Int)∧m=k.Q.length-j∧j≤k.Q.length∧V.Pairwise (·<·)∧(∀y,y∈V↔y∈U∨∃p∈k.Q.take j,p.x=y)∧V.length≤128*i+j∧gV h0 h3 (slot l3 19) V∧vw V (slot l3 19)∧Le h0 h3,
   ⟨_,0,U,rfl,rfl,by omega,hU,by simp,by omega,hoU,emU,bu⟩,?_⟩
  rintro m l3 h3 ⟨j,V,s3,rfl,hj,hV,hmV,hlV,hoV,emV,cL⟩
  have n3:=cL.nx
  have l3':=cL.lo
  have L3:=dg h3 cL
  have q3:=qk.le cL
  have TD:∀(β:Type) (fl:β) (h':Heap) (κ:Value→Heap→β),bh fl k.q h' κ=κ (.int .i64 (k.Q.length:Int)) h':=fun β fl h' κ=>q3.1.len κ h'
  by_cases hjl:j<k.Q.length
  ·obtain ⟨p,hp⟩:∃p,k.Q[j]? = some p:=⟨_,List.getElem?_eq_getElem hjl⟩
   obtain ⟨b5,o5,hb5,ahi,ahj⟩:=tf q3.1 j hp
   simp(disch:=first|omega|simp only[Wd]<;>omega|with_unfolding_all rfl)only[Wz,Bt,s1,dM,L3,TD,s3,bZ (show (j:Int)<(k.Q.length:Int) by omega),Ip,ahi,ahj]
   refine Xk h0 h3 V _ p.x _ hoV emV hV cL (by omega) (by omega) ?_
   intro v' h4 V' hV' ahk amr ahl ahm gK
   refine ⟨_,by omega,j+1,V',rfl,rfl,by omega,hV',fun y=>?_,by omega,ahl,ahm,cL.trans gK⟩
   rw[ahk,hmV,List.take_add_one,hp]
   simp only[Option.toList_some,List.mem_append,List.mem_singleton]
   constructor
   ·rintro ((h | ⟨q,hq,e⟩) | rfl)
    ·exact .inl h
    ·exact .inr ⟨q,.inl hq,e⟩
    ·exact .inr ⟨p,.inr rfl,rfl⟩
   ·rintro (h | ⟨q,hq | rfl,e⟩)
    ·exact .inl (.inl h)
    ·exact .inl (.inr ⟨q,hq,e⟩)
    ·exact .inr e.symm
  ·have hjQ:j=k.Q.length:=by omega
   subst hjQ
   simp(disch:=first|omega|simp only[Wd]<;>omega|with_unfolding_all rfl)only[Wz,Bt,s1,dM,L3,TD,s3,bL (show (k.Q.length:Int)≤(k.Q.length:Int) by omega)]
   refine ⟨_,by omega,i+1,V,rfl,rfl,by omega,hV,fun y=>?_,by omega,hoV,emV,cL⟩
   rw[hmV,hmU,List.take_length,List.take_add_one,ou]
   simp only[Option.toList_some,List.mem_append,List.mem_singleton]
   constructor
   ·rintro (⟨k',hk',h⟩ | h)
    ·exact ⟨k',.inl hk',h⟩
    ·exact ⟨_,.inr rfl,h⟩
   ·rintro ⟨k',hk' | rfl,h⟩
    ·exact .inl ⟨k',hk',h⟩
    ·exact .inr h
 have hil:i=S.length:=by omega
 subst hil
 rw[List.take_length] at hmU
 have ahn:∀a∈S.flatMap dA,a.x∈U:=by
  intro a ha
  obtain ⟨k,ou,h2⟩:=List.mem_flatMap.1 ha
  unfold dA gX at h2
  obtain ⟨p,hp,rfl⟩:=List.mem_map.1 h2
  exact (hmU _).2 ⟨k,ou,p,(List.mem_filter.1 hp).1,rfl⟩
 have Ow:=B9 hS.qB hS.bes
 have hnd:U.Nodup:=hU.imp fun {a b} hlt e=>by omega
 have aco:(U.flatMap fun x=>(S.flatMap dA).filter fun p=>decide (p.x=x)).Perm (S.flatMap dA):=by
  refine (Pn (S.flatMap dA) hnd).symm.trans (List.Perm.of_eq (List.filter_eq_self.2 fun a ha=>?_))
  simpa using ahn a ha
 have Cb:∀S':List vz,(S'.flatMap dA).length≤(S'.map fun k=>k.2.2.2.length).sum:=by
  intro S'
  induction S' with
  | nil=>exact Nat.le_refl _
  | cons k S' ih=>
   have:=nF (t:=k.1) (r:=k.2.1) k.2.2.2
   rw[List.flatMap_cons,List.length_append,List.map_cons,List.sum_cons]
   show (gX k.1 k.2.1 k.2.2.2).length+_≤_
   omega
 have PV:(U.flatMap fun x=>(S.flatMap dA).filter fun p=>decide (p.x=x)).length≤128:=by
  have h1:=aco.length_eq
  have h2:=Cb S
  have h3:=hS.few
  omega
 have aho:∀j,((U.take j).flatMap fun x=>(S.flatMap dA).filter fun p=>decide (p.x=x)).length≤128:=by
  intro j
  have h1:(U.flatMap fun x=>(S.flatMap dA).filter fun p=>decide (p.x=x)).length=((U.take j).flatMap fun x=>(S.flatMap dA).filter fun p=>decide (p.x=x)).length+((U.drop j).flatMap fun x=>(S.flatMap dA).filter fun p=>decide (p.x=x)).length:=by
   rw[←List.length_append,←List.flatMap_append,List.take_append_drop]
  omega
 obtain ⟨vU,eU⟩:∃vU,slot l 23=vU:=⟨_,rfl⟩
 rw[eU] at hoU
 have TE:∀(β:Type) (fl:β) (h':Heap) (κ:Value→Heap→β),bh fl vU h' κ=κ (.int .i64 (U.length:Int)) h':=fun β fl h' κ=>hoU.sl.len κ h'
 have hUl:U.length≤200000:=by omega
 simp(disch:=first|omega|simp only[Wd]<;>omega|with_unfolding_all rfl)only[Wz,Bv,yN,s1,bL (show (O.length:Int)≤(S.length:Int) by omega)]
 refine ⟨fun n l5 h5=>∃j:Nat,slot l5 15=.int .i64 (j:Int)∧n=U.length-j∧j≤U.length∧zy h1 h5 (slot l5 12) ((U.take j).flatMap fun x=>(S.flatMap dA).filter fun p=>decide (p.x=x))∧Le h1 h5,
  ⟨_,0,rfl,rfl,by omega,.inl ⟨by simp,.inl rfl⟩,Le.refl _⟩,?_⟩
 rintro n l5 h5 ⟨j,s5,rfl,hj,hoA,iY⟩
 have n5:=iY.nx
 have l5':=iY.lo
 have ahq:=hoU.le iY
 by_cases hjl:j<U.length
 ·obtain ⟨y,hy⟩:∃y,U[j]? = some y:=⟨_,List.getElem?_eq_getElem hjl⟩
  obtain ⟨b,o,hb,dM,dg⟩:=ldI ahq.sl j hy
  have t5:=((t.le GH).le bu).le iY
  have hstep:=kN (fun x=>(S.flatMap dA).filter fun p=>decide (p.x=x)) hy
  have hc1:=aho (j+1)
  rw[hstep,List.length_append] at hc1
  simp(disch:=first|omega|simp only[Wd]<;>omega|with_unfolding_all rfl)only[Wz,Bu,eU,TE,s5,bZ (show (j:Int)<(U.length:Int) by omega),dM,dg]
  refine AB t5 g (by omega) hS y _ ?_
  intro v6 h6 tY oz
  have n6:=oz.nx
  have l6:=oz.lo
  refine cT (enc:=gf) (a:=h1) (L:=(U.take j).flatMap fun x=>(S.flatMap dA).filter fun p=>decide (p.x=x)) (M:=(S.flatMap dA).filter fun p=>decide (p.x=y)) lJ sZ (by decide) (by decide) (hoA.le oz) tY.sl (iY.trans oz) (by omega) (by omega) _ ?_
  intro v7 h7 Fj uR _ _ _ _
  refine ⟨_,by omega,j+1,rfl,rfl,by omega,?_,uR⟩
  rw[hstep]
  exact Fj
 ·have hjU:j=U.length:=by omega
  subst hjU
  rw[List.take_length] at hoA
  simp(disch:=first|omega|simp only[Wd]<;>omega|with_unfolding_all rfl)only[Wz,Bu,eU,TE,s5,bL (show (U.length:Int)≤(U.length:Int) by omega)]
  exact hk _ h5 _ aco (Xh Ow hU) hoA.sl ((GH.trans bu).trans iY)
end
abbrev acp (a h:Heap) (v:Value) (L:List RB):Prop:=cU pV a 118 h v L
theorem R_ (S H R P:Int) (p:Addr) (κ:List Value→Prop):bC False [(0,4),(5,1)] [.agg ⟨[.int .i64 S,.int .i64 H,.int .i64 R,.int .i64 P]⟩,.pointer (some p)] [.int .i64 0,.int .i64 0,.int .i64 0,.int .i64 0,.slice none 0 0,.pointer none] κ=κ [.int .i64 S,.int .i64 H,.int .i64 R,.int .i64 P,.slice none 0 0,.pointer (some p)]:=by kernel_rfl
theorem Jt (c:fI) (a h:Heap) (κ:KQ) (hlo:h.lo≤h.nx)
  (Fm:¬ee c→∀h',Le h h'→κ (.tuple ⟨[.pointer none,.int .i64 2]⟩) h')
  (Ck:∀h' rt rp rl vr R (aG:Nat),ee c→(aG:Int)=c.H→iZ a h' rt rp rl c vr aG R (List.replicate c.R.toNat false)→(∀r∈R,r.K=[]∧h.nx≤r.rb)→h.nx≤rl→Le h h'→κ (.tuple ⟨[.pointer (some ⟨rt,0,none⟩),.int .i64 0]⟩) h') :
  CallW Tryz.prog 28 [sY c] h κ:=by
 refine aq mixed ?_
 rw[Zw]
 simp(disch:=first|omega|simp only[Wd]<;>omega|with_unfolding_all rfl)only[Wz,sY]
 obtain ⟨hA,az⟩:∃hA:Heap,hA=⟨h.nx+1,(h.bl.bf (h.nx) (af [.int .i64 c.S,.int .i64 c.H,.int .i64 c.R,.int .i64 c.P] 29 false)),h.lo⟩:=⟨_,rfl⟩
 have aH:Le h hA:=by subst az; exact ((Le.refl h).new _)
 have g1:hA.bl.get (h.nx)=some (af [.int .i64 c.S,.int .i64 c.H,.int .i64 c.R,.int .i64 c.P] 29 false):=by subst az; exact T.aa _ _ _
 have dF:hA.nx=h.nx+1:=by subst az; rfl
 have dG:hA.lo=h.lo:=by subst az; rfl
 rw[←az]
 clear az
 by_cases a1:c.S<1
 ·simp(disch:=first|omega|simp only[Wd]<;>omega|with_unfolding_all rfl)only[Wz,aM a1]
  exact Fm (by unfold ee; omega) _ aH
 by_cases a2:16<c.S
 ·simp(disch:=first|omega|simp only[Wd]<;>omega|with_unfolding_all rfl)only[Wz,aK a1,g1,aM a2]
  exact Fm (by unfold ee; omega) _ aH
 by_cases a3:c.H<1
 ·simp(disch:=first|omega|simp only[Wd]<;>omega|with_unfolding_all rfl)only[Wz,aK a1,g1,aK a2,aM a3]
  exact Fm (by unfold ee; omega) _ aH
 by_cases a4:64<c.H
 ·simp(disch:=first|omega|simp only[Wd]<;>omega|with_unfolding_all rfl)only[Wz,aK a1,g1,aK a2,aK a3,aM a4]
  exact Fm (by unfold ee; omega) _ aH
 by_cases a5:c.R<1
 ·simp(disch:=first|omega|simp only[Wd]<;>omega|with_unfolding_all rfl)only[Wz,aK a1,g1,aK a2,aK a3,aK a4,aM a5]
  exact Fm (by unfold ee; omega) _ aH
 by_cases a6:128<c.R
 ·simp(disch:=first|omega|simp only[Wd]<;>omega|with_unfolding_all rfl)only[Wz,aK a1,g1,aK a2,aK a3,aK a4,aK a5,aM a6]
  exact Fm (by unfold ee; omega) _ aH
 by_cases a7:c.P<0
 ·simp(disch:=first|omega|simp only[Wd]<;>omega|with_unfolding_all rfl)only[Wz,aK a1,g1,aK a2,aK a3,aK a4,aK a5,aK a6,aM a7]
  exact Fm (by unfold ee; omega) _ aH
 by_cases a8:8<c.P
 ·simp(disch:=first|omega|simp only[Wd]<;>omega|with_unfolding_all rfl)only[Wz,aK a1,g1,aK a2,aK a3,aK a4,aK a5,aK a6,aK a7,aM a8]
  exact Fm (by unfold ee; omega) _ aH
 have cok:ee c:=by unfold ee; omega
 obtain ⟨n,eS⟩:∃n:Nat,c.S=(n:Int):=⟨c.S.toNat,by omega⟩
 obtain ⟨H,eH⟩:∃n:Nat,c.H=(n:Int):=⟨c.H.toNat,by omega⟩
 obtain ⟨Rn,eR⟩:∃n:Nat,c.R=(n:Int):=⟨c.R.toNat,by omega⟩
 have eRn:c.R.toNat=Rn:=by omega
 simp(disch:=first|omega|simp only[Wd]<;>omega|with_unfolding_all rfl)only[Wz,aK a1,g1,aK a2,aK a3,aK a4,aK a5,aK a6,aK a7,aK a8,Ie]
 rw[eR]
 refine OL Rn hA _ (by omega) (by omega) ?_
 intro rp rl h1 p1 grp grl bu
 have pR:=bu.nx
 have pS:=bu.lo
 have g1:=(bu.get _ (by omega)).trans g1
 rw[eR] at g1
 simp(disch:=first|omega|simp only[Wd]<;>omega|with_unfolding_all rfl)only[Wz,g1,R_]
 obtain ⟨hB,bF⟩:∃hB:Heap,hB=⟨h1.nx+1,(h1.bl.bf (h1.nx) (af [.int .i64 c.S,.int .i64 c.H,.int .i64 (Rn:Int),.int .i64 c.P,.slice none 0 0,.pointer (some ⟨rp,0,none⟩)] 117 false)),h1.lo⟩:=⟨_,rfl⟩
 have bD:Le h1 hB:=by subst bF; exact ((Le.refl h1).new _)
 have gB:hB.bl.get (h1.nx)=some (af [.int .i64 c.S,.int .i64 c.H,.int .i64 (Rn:Int),.int .i64 c.P,.slice none 0 0,.pointer (some ⟨rp,0,none⟩)] 117 false):=by subst bF; exact T.aa _ _ _
 have pE:hB.nx=h1.nx+1:=by subst bF; rfl
 have pF:hB.lo=h1.lo:=by subst bF; rfl
 rw[←bF]
 clear bF
 have kz:=bD.nx
 have kE:=bD.lo
 have g1:=(bD.get _ (by omega)).trans g1
 have pB:=p1.le bD
 have l1:=bu.lo
 refine ⟨fun m l h2=>∃(i:Nat) (v:Value) (L:List RB),slot l 25=.int .i64 (i:Int)∧m=n-i∧i≤n∧L.length=i∧acp h1 h2 v L∧Le h1 h2∧h1.nx<h2.nx∧
   h2.bl.get h1.nx=some (af [.int .i64 c.S,.int .i64 c.H,.int .i64 (Rn:Int),.int .i64 c.P,v,.pointer (some ⟨rp,0,none⟩)] 117 false)∧(∀r∈L,iz a h2 r.rb rp H r.v r.K∧r.K=[]∧r.v=.slice none 0 0∧h1.nx≤r.rb)∧L.Pairwise u0,
  ⟨_,0,.slice none 0 0,[],rfl,rfl,by omega,rfl,.inl ⟨rfl,.inl rfl⟩,bD,by omega,gB,fun r hr=>(nomatch hr),List.Pairwise.nil⟩,?_⟩
 rintro m l h2 ⟨i,v,L,s1,rfl,hi,hL,ho,aZ,hn2,hg,hbk,hd⟩
 have n2:=aZ.nx
 have l2:=aZ.lo
 have acq:h.nx<h1.nx:=by have:=bu.nx; omega
 have g12:=(aZ.get h.nx acq).trans ((bD.get h.nx acq).symm.trans g1)
 by_cases hlt:i<n
 case neg=>
  have hin:i=n:=by omega
  simp(disch:=first|omega|simp only[Wd]<;>omega|with_unfolding_all rfl)only[Wz,g12,s1,eS,bL (show (n:Int)≤(i:Int) by omega)]
  rw[←eR] at hg
  refine Ck h2 h1.nx rp rl v L H cok eH.symm ⟨hn2,hg,ho.sl,uK.own ho,fun r hr=>(hbk r hr).1,hd,?_,by omega,by omega⟩ (fun r hr=>⟨(hbk r hr).2.1,by have:=(hbk r hr).2.2.2; omega⟩) (by omega) ((aH.trans bu).trans aZ)
  rw[eRn]
  exact p1.le aZ
 obtain ⟨vx,vc,ev,_⟩:=(show Sl pV h2 v L from ho.sl)
 simp(disch:=first|omega|simp only[Wd]<;>omega|with_unfolding_all rfl)only[Wz,g12,s1,eS,bZ (show (i:Int)<(n:Int) by omega),Ib]
 rw[eH]
 refine ON (H:Int) rp a h2 _ (by omega) (fun amu=>by omega) ?_
 intro rb h3 H2 eH2 _ R3 grb cL
 obtain rfl:H2=H:=by omega
 have n3:=cL.nx
 have l3:=cL.lo
 have hg3:=(cL.get _ hn2).trans hg
 rw[ev] at hg3
 simp(disch:=first|omega|simp only[Wd]<;>omega|with_unfolding_all rfl)only[Wz,aU,hg3]
 obtain ⟨hC,nv⟩:∃hC:Heap,hC=⟨h3.nx+1,(h3.bl.bf (h3.nx) (af [.pointer (some ⟨rb,0,none⟩)] 118 false)),h3.lo⟩:=⟨_,rfl⟩
 have mw:Le h3 hC:=by subst nv; exact ((Le.refl h3).new _)
 have gC:hC.bl.get (h3.nx)=some (af [.pointer (some ⟨rb,0,none⟩)] 118 false):=by subst nv; exact T.aa _ _ _
 have abm:hC.nx=h3.nx+1:=by subst nv; rfl
 have abn:hC.lo=h3.lo:=by subst nv; rfl
 rw[←nv]
 clear nv
 have hone:Sl pV hC (.slice (some ⟨h3.nx,0,none⟩) 1 1) [(⟨rb,.slice none 0 0,[]⟩:RB)]:=Sl.new (L:=[(⟨rb,.slice none 0 0,[]⟩:RB)]) (e:=118) (op:=false) (by omega) gC _
 rw[←ev] at hg3 ⊢
 refine cT (enc:=pV) (a:=h1) (L:=L) (M:=[(⟨rb,.slice none 0 0,[]⟩:RB)]) Aw Lh (by decide) (by decide) ((ho.le cL).le mw) hone ((aZ.trans cL).trans mw) (by simp only[List.length_cons,List.length_nil]; omega) (by omega) _ ?_
 intro v5 h5 tV iY _ n5 l5 og
 have hgC:=(mw.get _ (by omega)).trans hg3
 have Q3:h5.bl.get h1.nx=some (af [.int .i64 c.S,.int .i64 c.H,.int .i64 (Rn:Int),.int .i64 c.P,v,.pointer (some ⟨rp,0,none⟩)] 117 false):=(og _ (by omega) (by rw[hgC]; exact aL (by decide))).trans hgC
 obtain ⟨x5,c5,ev5,_⟩:=(show Sl pV h5 v5 _ from tV.sl)
 rw[ev] at Q3
 rw[ev5]
 simp(disch:=first|omega|simp only[Wd]<;>omega|with_unfolding_all rfl)only[Wz,aU,Q3]
 have tY:=cU.put tV (c:=h1.nx) (by rw[Q3]; exact aO) (af [.int .i64 c.S,.int .i64 c.H,.int .i64 (Rn:Int),.int .i64 c.P,v5,.pointer (some ⟨rp,0,none⟩)] 117 false)
 have Cc:Le h1 ⟨h5.nx,h5.bl.bf h1.nx (af [.int .i64 c.S,.int .i64 c.H,.int .i64 (Rn:Int),.int .i64 c.P,v5,.pointer (some ⟨rp,0,none⟩)] 117 false),h5.lo⟩:=iY.set (b:=h1.nx) (Nat.le_refl _) _
 have keep:∀(r:RB),iz a hC r.rb rp H2 r.v r.K→iz a ⟨h5.nx,h5.bl.bf h1.nx (af [.int .i64 c.S,.int .i64 c.H,.int .i64 (Rn:Int),.int .i64 c.P,v5,.pointer (some ⟨rp,0,none⟩)] 117 false),h5.lo⟩ r.rb rp H2 r.v r.K:=by
  intro r hr
  refine hr.keep n5 l5 fun d vs ty op hd hgd ht=>?_
  have hne:h1.nx≠d:=by
   rintro rfl
   rcases ht with e | ⟨e,_⟩ | e<;>subst e<;>exact aL (by decide) (hgd.symm.trans hgC)
  refine (T.aj _ _ hne).trans (og d hd ?_)
  rw[hgd]
  rcases ht with e | ⟨e,_⟩ | e<;>subst e<;>exact aL (by decide)
 rw[ev5] at tY Cc keep
 refine ⟨_,by omega,i+1,_,L++[(⟨rb,.slice none 0 0,[]⟩:RB)],rfl,rfl,by omega,by simp; omega,tY,Cc,by show h1.nx<h5.nx; omega,by rw[eS,eH],?_,?_⟩
 ·intro r hr
  rcases List.mem_append.1 hr with hr | hr
  ·obtain ⟨q1,q2,q3,q4⟩:=hbk r hr
   exact ⟨keep r ((q1.le cL).le mw),q2,q3,q4⟩
  ·rw[List.mem_singleton] at hr
   subst hr
   exact ⟨keep _ (R3.le mw),rfl,rfl,by show h1.nx≤rb; omega⟩
 ·rw[List.pairwise_append]
  refine ⟨hd,List.pairwise_singleton _ _,fun r hr r' hr'=>?_⟩
  rw[List.mem_singleton] at hr'
  subst hr'
  obtain ⟨q1,q2,q3,q4⟩:=hbk r hr
  have:=q1.lt
  refine ⟨by show r.rb≠rb; omega,fun d h1 h2=>?_⟩
  obtain ⟨k,hk⟩:=h2
  cases hk
end Go.Proofs
