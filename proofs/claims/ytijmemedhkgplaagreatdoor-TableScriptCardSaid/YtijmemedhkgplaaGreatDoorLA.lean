/-
  PROVED HERE: a part of the proof (L1, L2, L3, L4).
-/
import Derived.Test.YtijmemedhkgplaaGreatDoorKG
import Derived.Test.YtijmemedhkgplaaGreatDoorV5
set_option linter.unusedVariables false
set_option linter.unusedSimpArgs false
set_option maxRecDepth 100000
namespace Go.Proofs
open Go.Vai Go.Clashes
theorem yx {Q:List R5}:∀n b,best Q n=some b→∀(j:Nat) (p q:R5),j<n→Q[j]? = some p→ku p=true→Q[b]? = some q→q.s≤p.s:=by
 intro n
 induction n with
 | zero=>intro b h; cases h
 | succ n ih=>
  intro b h j p q hj hp hu hq
  unfold best at h
  split at h
  ·rename_i r hr
   split at h
   ·rename_i hc
    cases h
    rw[hr] at hq; cases hq
    rw[Bool.and_eq_true] at hc
    by_cases e:j=n
    ·subst e; rw[hr] at hp; cases hp; exact Int.le_refl _
    ·cases hb:best Q n with
     | none=>
      have:=qn Q n hb j p (by omega) hp
      rw[hu] at this; cases this
     | some b'=>
      obtain ⟨_,r',hr',_⟩:=jH Q n b' hb
      have h1:=ih b' hb j p r' (by omega) hp hu hr'
      have h2:=hc.2
      rw[hb] at h2
      unfold iC at h2
      simp only[hr'] at h2
      have:=of_decide_eq_true h2
      omega
   ·rename_i hc
    by_cases e:j=n
    ·subst e
     rw[hr] at hp; cases hp
     have h2:¬(iC Q p (best Q j)=true):=fun h=>hc (by rw[hu,h]; rfl)
     rw[h] at h2
     unfold iC at h2
     simp only[hq] at h2
     have:¬p.s<q.s:=fun h=>h2 (aM h)
     omega
    ·exact ih b h j p q (by omega) hp hu hq
  ·rename_i hr
   by_cases e:j=n
   ·subst e; rw[hp] at hr; cases hr
   ·exact ih b h j p q (by omega) hp hu hq
theorem ug {Q:List R5} {n j:Nat} {p:R5} (hj:j<n) (hp:Q[j]? = some p) (hu:ku p=true):∃b,best Q n=some b:=by
 cases hb:best Q n with
 | some b=>exact ⟨b,rfl⟩
 | none=>
  have:=qn Q n hb j p hj hp
  rw[hu] at this; cases this
theorem Ez {Q:List R5}:Q.any ku=true↔∃b,best Q Q.length=some b:=by
 rw[List.any_eq_true]
 constructor
 ·rintro ⟨p,hp,hu⟩
  obtain ⟨j,hj⟩:=List.getElem?_of_mem hp
  exact ug (List.getElem?_eq_some_iff.1 hj).1 hj hu
 ·rintro ⟨b,hb⟩
  obtain ⟨_,p,hp,hu⟩:=jH Q _ b hb
  exact ⟨p,List.mem_of_getElem? hp,hu⟩
theorem f_ {Q:List R5} {i:Nat} {p p':R5} (hp:Q[i]? = some p) (k:Nat):(Q.set i p')[k]? = if i=k then some p' else Q[k]?:=by
 rw[List.getElem?_set]
 by_cases e:i=k
 ·subst e; rw[if_pos rfl,if_pos rfl,if_pos (List.getElem?_eq_some_iff.1 hp).1]
 ·rw[if_neg e,if_neg e]
theorem KL {Q:List R5} {i:Nat} {p p':R5} (hp:Q[i]? = some p) (h0:ku p=false) (h1:ku p'=false):∀n,best (Q.set i p') n=best Q n:=by
 intro n
 induction n with
 | zero=>rfl
 | succ n ih=>
  unfold best
  rw[f_ hp,ih]
  by_cases e:i=n
  ·subst e
   rw[if_pos rfl,hp]
   simp only[h0,h1,Bool.false_and]
  ·rw[if_neg e]
   split
   ·rename_i r hr
    have hl:iC (Q.set i p') r (best Q n)=iC Q r (best Q n):=by
     unfold iC
     split
     ·rfl
     ·rename_i b hb
      obtain ⟨_,r',hr',XX⟩:=jH Q n b hb
      have hne:i≠b:=by rintro rfl; rw[hp] at hr'; cases hr'; rw[h0] at XX; cases XX
      rw[f_ hp,if_neg hne]
    rw[hl]
   ·rfl
theorem EA {Q:List R5} {i:Nat} {p p':R5} (hp:Q[i]? = some p) (h0:p.m≠0) (h1:p'.m≠0):(Q.set i p').findIdx? (fun r=>decide (r.m=0))=Q.findIdx? (fun r=>decide (r.m=0)):=by
 cases hf:Q.findIdx? (fun r=>decide (r.m=0)) with
 | none=>
  rw[List.findIdx?_eq_none_iff] at hf ⊢
  intro q hq
  rcases mem_set hq with rfl | hq
  ·exact aK h1
  ·exact hf q hq
 | some k=>
  rcases iJ Q (fun r=>decide (r.m=0)) with ⟨e,_⟩ | ⟨k',q,e,hq,fF,hk2⟩
  ·rw[e] at hf; cases hf
  rw[e] at hf; cases hf
  have hqm:q.m=0:=of_decide_eq_true fF
  have hik:i≠k:=by rintro rfl; rw[hp] at hq; cases hq; exact h0 hqm
  refine jA (p:=q) (by rw[f_ hp,if_neg hik]; exact hq) fF fun j r hj hr=>?_
  rw[f_ hp] at hr
  by_cases e:i=j
  ·rw[if_pos e] at hr; cases hr; exact aK h1
  ·rw[if_neg e] at hr; exact hk2 j r hj hr
theorem KM {Q:List R5} {W:Int} (v:VQ Q W) (hs:fG Q) {i:Nat} {p:R5} {m:Int} (hi:Q[i]? = some p) (hps:¬0<p.s) (hm:br m=true):fG (Q.set i (dB Q W p m).1):=by
 obtain ⟨m0,km⟩:=(jx m).1 hm
 have hpQ:=List.mem_of_getElem? hi
 have hil:=(List.getElem?_eq_some_iff.1 hi).1
 have R:=v.right p hpQ
 have hs0:p.s=0:=by have:=R.s0; omega
 obtain ⟨Uo,rw⟩:=R.hold hs0
 obtain ⟨_,c1,c2,c3,_⟩:=FY R.km km
 have up0:ku p=false:=by unfold ku; rw[aK hps,Bool.and_false]
 unfold dB
 by_cases hc:(decide (e8 p.m m=p.m) || (cI Q ⟨p.id,p.x,p.m,e8 p.m m,p.s⟩ && !Q.any ku))=true
 ·rw[if_pos hc]
  have hf:bX (Q.set i ⟨p.id,p.x,e8 p.m m,e8 p.m m,p.s⟩)=bX Q:=by
   rw[ic,ic,List.length_set,KL hi up0 (by unfold ku; rw[aK hps,Bool.and_false]),EA hi Uo (c3 m0)]
  intro k r hk hr
  rw[hf] at hk
  rw[f_ hi] at hr
  have hik:i≠k:=by
   rintro rfl
   have:=gT v hk hi
   omega
  rw[if_neg hik] at hr
  have hfit:=hs k r hk hr
  cases Om:cI (Q.set i ⟨p.id,p.x,e8 p.m m,e8 p.m m,p.s⟩) r with
  | false=>rfl
  | true=>
   rw[dQ] at Om
   have:cI Q r=true:=by
    rw[dQ]
    intro o ho h1 h2
    obtain ⟨j,hj⟩:=List.getElem?_of_mem ho
    by_cases e:i=j
    ·subst e
     rw[hi] at hj; cases hj
     have h3:=Om ⟨p.id,p.x,e8 p.m m,e8 p.m m,p.s⟩ (List.mem_of_getElem? (i:=i) (by rw[f_ hi,if_pos rfl])) h1 (c3 m0)
     exact MX (v.right r (List.mem_of_getElem? hr)).kw c1 h3
    ·exact Om o (List.mem_of_getElem? (i:=j) (by rw[f_ hi,if_neg e]; exact hj)) h1 h2
   rw[this] at hfit; cases hfit
 ·rw[if_neg hc]
  rw[Bool.or_eq_true,decide_eq_true_eq,Bool.and_eq_true] at hc
  have w0:=v.w0
  generalize hp':(⟨p.id,p.x,p.m,e8 p.m m,W+1⟩:R5)=p'
  have i1:p'.id=p.id:=by rw[←hp']
  have i2:p'.m=p.m:=by rw[←hp']
  have i3:p'.s=W+1:=by rw[←hp']
  have i4:p'.w=e8 p.m m:=by rw[←hp']
  show fG (Q.set i p')
  have up1:ku p'=true:=(mg _).2 ⟨by rw[i2]; exact Uo,by rw[i3]; omega⟩
  have abj:∀r,cI (Q.set i p') r=cI Q r:=by
   intro r
   rw[Bool.eq_iff_iff,dQ,dQ]
   constructor
   ·intro h o ho h1 h2
    obtain ⟨j,hj⟩:=List.getElem?_of_mem ho
    by_cases e:i=j
    ·subst e
     rw[hi] at hj; cases hj
     have:=h p' (List.mem_of_getElem? (i:=i) (by rw[f_ hi,if_pos rfl])) (by rw[i1]; exact h1) (by rw[i2]; exact h2)
     rw[i2] at this; exact this
    ·exact h o (List.mem_of_getElem? (i:=j) (by rw[f_ hi,if_neg e]; exact hj)) h1 h2
   ·intro h o ho h1 h2
    obtain ⟨j,hj⟩:=List.getElem?_of_mem ho
    rw[f_ hi] at hj
    by_cases e:i=j
    ·rw[if_pos e] at hj; cases hj
     rw[i1] at h1; rw[i2] at h2 ⊢
     exact h p hpQ h1 h2
    ·rw[if_neg e] at hj
     exact h o (List.mem_of_getElem? hj) h1 h2
  intro k r hk hr
  rw[abj]
  obtain ⟨b,hb⟩:=ug (Q:=Q.set i p') (n:=(Q.set i p').length) (j:=i) (by rw[List.length_set]; exact hil) (by rw[f_ hi,if_pos rfl]) up1
  have hkb:k=b:=by rw[ic,hb] at hk; exact (Option.some.inj hk).symm
  subst hkb
  by_cases e:i=k
  ·subst e
   rw[f_ hi,if_pos rfl] at hr; cases hr
   have hno:Q.any ku=false:=by
    cases ha:Q.any ku with
    | false=>rfl
    | true=>
     obtain ⟨q,hq,hu⟩:=List.any_eq_true.1 ha
     obtain ⟨j,hj⟩:=List.getElem?_of_mem hq
     have hij:i≠j:=by rintro rfl; rw[hi] at hj; cases hj; rw[up0] at hu; cases hu
     have h1:=yx (Q:=Q.set i p') _ i hb j q p' (by rw[List.length_set]; exact (List.getElem?_eq_some_iff.1 hj).1) (by rw[f_ hi,if_neg hij]; exact hj) hu (by rw[f_ hi,if_pos rfl])
     have h2:=(v.right q hq).sW
     omega
   cases hfit:cI Q p' with
   | false=>rfl
   | true=>
    refine absurd (.inr ⟨?_,by rw[hno]; rfl⟩) hc
    rw[dQ] at hfit ⊢
    intro o ho h1 h2
    have:=hfit o ho (by rw[i1]; exact h1) h2
    rw[i4] at this; exact this
  ·rw[f_ hi,if_neg e] at hr
   obtain ⟨_,r',hr',XX⟩:=jH _ _ k hb
   rw[f_ hi,if_neg e,hr] at hr'; cases hr'
   obtain ⟨b2,zP⟩:=ug (Q:=Q) (n:=Q.length) (List.getElem?_eq_some_iff.1 hr).1 hr XX
   obtain ⟨_,q2,i_,Lz⟩:=jH _ _ b2 zP
   have agn:i≠b2:=by rintro rfl; rw[hi] at i_; cases i_; rw[up0] at Lz; cases Lz
   have h1:=yx Q.length b2 zP k r q2 (List.getElem?_eq_some_iff.1 hr).1 hr XX i_
   have h2:=yx (Q:=Q.set i p') _ k hb b2 q2 r (by rw[List.length_set]; exact (List.getElem?_eq_some_iff.1 i_).1) (by rw[f_ hi,if_neg agn]; exact i_) Lz (by rw[f_ hi,if_neg e]; exact hr)
   have ago:k=b2:=by
    rcases Nat.lt_trichotomy k b2 with h3 | h3 | h3
    ·exact absurd (by omega) ((cr.1 v.pair k b2 r q2 h3 hr i_).s ((mg r).1 XX).2)
    ·exact h3
    ·exact absurd (by omega) ((cr.1 v.pair b2 k q2 r h3 i_ hr).s ((mg q2).1 Lz).2)
   subst ago
   exact hs k r (by rw[ic,zP]) hr
theorem On {Q:List R5} (hp:Q.Pairwise fV) {i:Nat} {r:R5} (hr:Q[i]? = some r) (m:Int):lG Q m i Q.length=cI Q ⟨r.id,r.x,r.m,m,r.s⟩:=by
 rw[Bool.eq_iff_iff,uf,dQ]
 constructor
 ·intro h o ho h1 h2
  obtain ⟨j,hj⟩:=List.getElem?_of_mem ho
  refine h j o (List.getElem?_eq_some_iff.1 hj).1 hj (fun e=>h1 ?_) h2
  have:j=i:=by omega
  subst this; rw[hr] at hj; cases hj; rfl
 ·intro h j p hj To hb hm
  exact h p (List.mem_of_getElem? To) (fun e=>hb (by rw[mK hp To hr e])) hm
theorem Oo {Q:List R5} {id x m:Int} (hn:∀q∈Q,q.id≠id):lG Q m (-1) Q.length=cI Q ⟨id,x,0,m,0⟩:=by
 rw[Bool.eq_iff_iff,uf,dQ]
 constructor
 ·intro h o ho h1 h2
  obtain ⟨j,hj⟩:=List.getElem?_of_mem ho
  exact h j o (List.getElem?_eq_some_iff.1 hj).1 hj (by omega) h2
 ·intro h j p hj To hb hm
  exact h p (List.mem_of_getElem? To) (hn p (List.mem_of_getElem? To)) hm
theorem sM {Q:List R5} (hp:Q.Pairwise fV) {i:Nat} {p:R5} (hi:Q[i]? = some p):Q.filter (fun r=>!aV p.id r)=Q.take i++Q.drop (i+1):=by
 have hil:=(List.getElem?_eq_some_iff.1 hi).1
 have e0:Q=Q.take i++p::Q.drop (i+1):=by
  conv=>lhs; rw[←List.take_append_drop i Q]
  rw[List.drop_eq_getElem_cons hil]
  rw[List.getElem?_eq_getElem hil] at hi
  cases hi; rfl
 have XY:∀(j:Nat) (q:R5),Q[j]? = some q→j≠i→aV p.id q=false:=by
  intro j q hj hne
  unfold aV
  exact aK fun e=>hne (mK hp hj hi e)
 conv=>lhs; rw[e0]
 rw[List.filter_append,List.filter_cons]
 have e1:(!aV p.id p)=false:=by unfold aV; rw[aM rfl]; rfl
 rw[e1,if_neg (by simp)]
 congr 1
 ·rw[List.filter_eq_self]
  intro q hq
  obtain ⟨j,hj⟩:=List.getElem?_of_mem hq
  rw[List.getElem?_take] at hj
  split at hj
  ·rw[XY j q hj (by omega)]; rfl
  ·cases hj
 ·rw[List.filter_eq_self]
  intro q hq
  obtain ⟨j,hj⟩:=List.getElem?_of_mem hq
  rw[List.getElem?_drop] at hj
  rw[XY (i+1+j) q hj (by omega)]; rfl
theorem EF (t r':Int) (q:Value) (w id:Int) (Q:List R5) (h:Heap) (κ:KQ) (hq:Sl aW h q Q) (hlen:Q.length≤1000000) (hlo:h.lo≤h.nx) (hk:∀h',Le h h'→κ (.int .i64 (dy (Q.findIdx? (aV id)))) h') :
  CallW Tryz.prog 183 [cG t r' q w,.int .i64 id] h κ:=by
 obtain ⟨hc,ho⟩:=jS hq
 refine aq mixed ?_
 rw[VY]
 simp(disch:=first|omega|simp only[Wd]<;>omega|with_unfolding_all rfl)only[Wz,cG]
 obtain ⟨hA,az⟩:∃hA:Heap,hA=⟨h.nx+1,(h.bl.bf (h.nx) (af [.int .i64 t,.int .i64 r',q,.int .i64 w] 51 false)),h.lo⟩:=⟨_,rfl⟩
 have aH:Le h hA:=by subst az; exact ((Le.refl h).new _)
 have gA:hA.bl.get (h.nx)=some (af [.int .i64 t,.int .i64 r',q,.int .i64 w] 51 false):=by subst az; exact T.aa _ _ _
 have dF:hA.nx=h.nx+1:=by subst az; rfl
 have dG:hA.lo=h.lo:=by subst az; rfl
 rw[←az]
 clear az
 have oB:=hq.le aH
 refine ⟨fun n l h1=>∃i:Nat,slot l 17=.int .i64 (i:Int)∧(∀(j:Nat) (p:R5),j<i→Q[j]? = some p→aV id p=false)∧i≤Q.length∧n=Q.length-i∧HQ hA h1,⟨_,0,rfl,fun j p h=>(by omega),Nat.zero_le _,rfl,rfl⟩,?_⟩
 rintro n l h1 ⟨i,s1,hn,hi,rfl,hle⟩
 cases (show hA=h1 from hle)
 by_cases hlt:i<Q.length
 ·obtain ⟨p,hp⟩:∃p,Q[i]? = some p:=⟨_,List.getElem?_eq_getElem hlt⟩
  obtain ⟨b,o,hb,dM,dg⟩:=tf oB i hp
  by_cases hm:p.id=id
  ·simp(disch:=first|omega|simp only[Wd]<;>omega|with_unfolding_all rfl)only[Wz,sD,s1,gA,oB.len,xZ,dM,dg,aM hm]
   have:=hk hA aH
   rw[jA hp (show aV id p=true from aM hm) hn] at this
   exact this
  ·simp(disch:=first|omega|simp only[Wd]<;>omega|with_unfolding_all rfl)only[Wz,sD,s1,gA,oB.len,xZ,dM,dg,aK hm]
   refine ⟨_,by omega,i+1,rfl,fun j q hj hq=>?_,by omega,rfl,rfl⟩
   by_cases hji:j=i
   ·subst hji; rw[hp] at hq; cases hq; exact aK hm
   ·exact hn j q (by omega) hq
 ·have hil:i=Q.length:=by omega
  subst hil
  simp(disch:=first|omega|simp only[Wd]<;>omega|with_unfolding_all rfl)only[Wz,sD,s1,gA,oB.len]
  have:=hk hA aH
  rw[Ja hn] at this
  exact this
theorem sO (t r:Int) (q:Value) (w id:Int) (Q:List R5) (h:Heap) (κ:KQ) (hq:Sl aW h q Q) (hlen:Q.length≤100000) (hlo:h.lo≤h.nx)
  (hk:∀h',Le h h'→κ (match bq Q id with | some p=>.tuple ⟨[ji p,.bool true]⟩ | none=>.tuple ⟨[ji ⟨0,0,0,0,0⟩,.bool false]⟩) h') :
  CallW Tryz.prog 129 [cG t r q w,.int .i64 id] h κ:=by
 obtain ⟨hc,ho⟩:=jS hq
 refine aq mixed ?_
 rw[Vo]
 simp(disch:=first|omega|simp only[Wd]<;>omega|with_unfolding_all rfl)only[Wz,cG]
 obtain ⟨hA,az⟩:∃hA:Heap,hA=⟨h.nx+1+1,((h.bl.bf (h.nx) (af [.int .i64 t,.int .i64 r,q,.int .i64 w] 51 false)).bf (h.nx+1) (fq ⟨0,0,0,0,0⟩)),h.lo⟩:=⟨_,rfl⟩
 have aH:Le h hA:=by subst az; exact (((Le.refl h).new _).new _)
 have g1:hA.bl.get (h.nx)=some (af [.int .i64 t,.int .i64 r,q,.int .i64 w] 51 false):=by subst az; exact (T.aj _ _ (by omega)).trans (T.aa _ _ _)
 have g3:hA.bl.get (h.nx+1)=some (fq ⟨0,0,0,0,0⟩):=by subst az; exact T.aa _ _ _
 have dF:hA.nx=h.nx+1+1:=by subst az; rfl
 have dG:hA.lo=h.lo:=by subst az; rfl
 rw[←az]
 clear az
 refine EF t r q w id Q hA _ (hq.le aH) (by omega) (by omega) ?_
 intro h2 aZ
 have iU:=aZ.nx
 have iV:=aZ.lo
 have g1:=(aZ.get _ (by omega)).trans g1
 have g3:=(aZ.get _ (by omega)).trans g3
 have i_:=(hq.le aH).le aZ
 rcases gU Q id with ⟨e,e2⟩ | ⟨i,p,e,hi,Ff,e2⟩
 ·rw[e]
  rw[e2] at hk
  simp(disch:=first|omega|simp only[Wd]<;>omega|with_unfolding_all rfl)only[Wz,dy,bZ (show (-1:Int)<0 by decide),g3]
  exact hk _ ((aH.trans aZ).set (b:=h.nx+1) (by omega) _)
 ·rw[e]
  rw[e2] at hk
  obtain ⟨b,o,hb,dM,dg⟩:=tf i_ i hi
  simp(disch:=first|omega|simp only[Wd]<;>omega|with_unfolding_all rfl)only[Wz,dy,bL (show (0:Int)≤(i:Int) by omega),g1,dM,dg,aW,g3]
  exact hk _ ((aH.trans aZ).set (b:=h.nx+1) (by omega) _)
theorem Ai (m:Int) {h:Heap} {κ:Value→Heap→Prop} (hk:κ (.bool (br m)) h):CallW Tryz.prog 210 [.int .i64 m] h κ:=by
 refine aq mixed ?_
 rw[Wb]
 by_cases h0:m=0
 ·have:br m=false:=by unfold br; simp[h0]
  rw[this] at hk
  simp(disch:=first|omega|simp only[Wd]<;>omega|with_unfolding_all rfl)only[Wz,aM h0]
  exact hk
 ·simp(disch:=first|omega|simp only[Wd]<;>omega|with_unfolding_all rfl)only[Wz,aK h0]
  refine pg m ?_
  have:br m=kn m:=by unfold br; simp[h0]
  rw[this] at hk
  exact hk
theorem WN (t r:Int) (q:Value) (w id x m:Int) (Q:List R5) (h:Heap) (κ:KQ) (hq:Sl aW h q Q) (hlen:Q.length≤10000) (hlo:h.lo≤h.nx) (hw:0≤w∧w≤1000000) (hid:0≤id) (hm:br m=true) (hn:∀p∈Q,p.id≠id∧p.x≠x)
  (hk:∀q' h',iK h h' q' (Q++[(cv Q w id x m).1])→Le h h'→κ (.tuple ⟨[cG t r q' (cv Q w id x m).2.1,.bool (cv Q w id x m).2.2,.int .i64 0]⟩) h') :
  CallW Tryz.prog 180 [cG t r q w,.int .i64 id,.int .i64 x,.int .i64 m] h κ:=by
 have tc:=hq
 obtain ⟨qx,qc,rfl,_⟩:=tc
 refine aq mixed ?_
 rw[VV]
 simp(disch:=first|omega|simp only[Wd]<;>omega|with_unfolding_all rfl)only[Wz,cG]
 obtain ⟨hA,az⟩:∃hA:Heap,hA=⟨h.nx+1+1,((h.bl.bf (h.nx) (af [.int .i64 t,.int .i64 r,.slice qx Q.length qc,.int .i64 w] 51 false)).bf (h.nx+1) (af [.int .i64 0,.int .i64 0,.slice none 0 0,.int .i64 0] 51 false)),h.lo⟩:=⟨_,rfl⟩
 have aH:Le h hA:=by subst az; exact (((Le.refl h).new _).new _)
 have g1:hA.bl.get (h.nx)=some (af [.int .i64 t,.int .i64 r,.slice qx Q.length qc,.int .i64 w] 51 false):=by subst az; exact (T.aj _ _ (by omega)).trans (T.aa _ _ _)
 have g3:hA.bl.get (h.nx+1)=some (af [.int .i64 0,.int .i64 0,.slice none 0 0,.int .i64 0] 51 false):=by subst az; exact T.aa _ _ _
 have dF:hA.nx=h.nx+1+1:=by subst az; rfl
 have dG:hA.lo=h.lo:=by subst az; rfl
 rw[←az]
 clear az
 have oB:=hq.le aH
 refine Ai m ?_
 rw[hm]
 simp(disch:=first|omega|simp only[Wd]<;>omega|with_unfolding_all rfl)only[Wz]
 refine ⟨fun n l h1=>∃i:Nat,slot l 28=.int .i64 (i:Int)∧i≤Q.length∧n=Q.length-i∧HQ hA h1,⟨_,0,rfl,Nat.zero_le _,rfl,rfl⟩,?_⟩
 rintro n l h1 ⟨i,s1,hi,rfl,hle⟩
 cases (show hA=h1 from hle)
 by_cases hlt:i<Q.length
 ·obtain ⟨p,hp⟩:∃p,Q[i]? = some p:=⟨_,List.getElem?_eq_getElem hlt⟩
  obtain ⟨b,o,hb,dM,dg⟩:=tf oB i hp
  have hnp:=hn p (List.mem_of_getElem? hp)
  simp(disch:=first|omega|simp only[Wd]<;>omega|with_unfolding_all rfl)only[Wz,xW,s1,g1,bZ (show (i:Int)<(Q.length:Int) by omega),Eb,dM,dg,aK hnp.1,aK hnp.2]
  exact ⟨_,by omega,i+1,rfl,by omega,rfl,rfl⟩
 have hil:i=Q.length:=by omega
 subst hil
 simp(disch:=first|omega|simp only[Wd]<;>omega|with_unfolding_all rfl)only[Wz,xW,s1,g1,bL (show (Q.length:Int)≤(Q.length:Int) by omega),Ec]
 refine kK t r _ w Q hA _ oB (by omega) (by omega) ?_
 intro q2 h2 jv aZ
 have iU:=aZ.nx
 have iV:=aZ.lo
 have g1:=(aZ.get _ (by omega)).trans g1
 have g3:=(aZ.get _ (by omega)).trans g3
 obtain ⟨dn,dw,rfl,_⟩:=jv.sl
 simp(disch:=first|omega|simp only[Wd]<;>omega|with_unfolding_all rfl)only[Wz,cG,g1]
 obtain ⟨hB,bF⟩:∃hB:Heap,hB=⟨h2.nx+1,(h2.bl.bf (h2.nx) (af [.int .i64 t,.int .i64 r,.slice dn Q.length dw,.int .i64 w] 51 false)),h2.lo⟩:=⟨_,rfl⟩
 have bD:Le h2 hB:=by subst bF; exact ((Le.refl h2).new _)
 have g5:hB.bl.get (h2.nx)=some (af [.int .i64 t,.int .i64 r,.slice dn Q.length dw,.int .i64 w] 51 false):=by subst bF; exact T.aa _ _ _
 have pE:hB.nx=h2.nx+1:=by subst bF; rfl
 have pF:hB.lo=h2.lo:=by subst bF; rfl
 rw[←bF]
 clear bF
 have kz:=bD.nx
 have kE:=bD.lo
 have g1:=(bD.get _ (by omega)).trans g1
 have g3:=(bD.get _ (by omega)).trans g3
 refine Oj t r _ w Q hB _ ((oB.le aZ).le bD) (by omega) (by omega) ?_
 intro h3 cL
 have Oq:=cL.nx
 have Ot:=cL.lo
 have g1:=(cL.get _ (by omega)).trans g1
 have g3:=(cL.get _ (by omega)).trans g3
 have g5:=(cL.get _ (by omega)).trans g5
 have hq3:=((oB.le aZ).le bD).le cL
 have mH:=(jv.le bD).le cL
 have iN:=((aH.trans aZ).trans bD).trans cL
 have agp:∀hh,Le h3 hh→cv Q w id x m=(⟨id,x,m,m,0⟩,w,true)→xU h2.nx (.int .i64 id) (.int .i64 x) (.int .i64 m) (h.nx+1) hh κ:=by
  intro hh KO ea
  rw[ea] at hk
  have abk:=KO.nx
  have abl:=KO.lo
  have g3:=(KO.get _ (by omega)).trans g3
  have g5:=(KO.get _ (by omega)).trans g5
  simp(disch:=first|omega|simp only[Wd]<;>omega|with_unfolding_all rfl)only[Wz,xU,g5]
  obtain ⟨hC,nv⟩:∃hC:Heap,hC=⟨hh.nx+1,(hh.bl.bf (hh.nx) (af [.int .i64 id,.int .i64 x,.int .i64 m,.int .i64 m,.int .i64 0] 54 false)),hh.lo⟩:=⟨_,rfl⟩
  have mw:Le hh hC:=by subst nv; exact ((Le.refl hh).new _)
  have gC:hC.bl.get (hh.nx)=some (af [.int .i64 id,.int .i64 x,.int .i64 m,.int .i64 m,.int .i64 0] 54 false):=by subst nv; exact T.aa _ _ _
  have abm:hC.nx=hh.nx+1:=by subst nv; rfl
  have abn:hC.lo=hh.lo:=by subst nv; rfl
  rw[←nv]
  clear nv
  have ac1:=mw.nx
  have ac2:=mw.lo
  have g3:=(mw.get _ (by omega)).trans g3
  have g5:=(mw.get _ (by omega)).trans g5
  have PF:=(mH.le KO).le mw
  refine cT (enc:=aW) (a:=hA) (L:=Q) (M:=[(⟨id,x,m,m,0⟩:R5)]) aX jR (by decide) (by decide) PF (Sl.new (L:=[(⟨id,x,m,m,0⟩:R5)]) (e:=54) (op:=false) (by omega) gC _) (((((aZ.trans bD).trans cL).trans KO).trans mw)) (by simp; omega) (by omega) _ ?_
  intro v' h' ho' hle' _ hn2 hl' hsame
  have g5:=(hsame h2.nx (by omega) (by rw[g5]; exact aO)).trans g5
  have g3:=(hsame (h.nx+1) (by omega) (by rw[g3]; exact aO)).trans g3
  obtain ⟨Tc,Td,rfl,_⟩:=ho'.sl
  simp(disch:=first|omega|simp only[Wd]<;>omega|with_unfolding_all rfl)only[Wz,g5,g3]
  refine hk _ _ ?_ ?_
  ·refine cU.base (cU.put (cU.put ho' (by rw[g5]; exact aO) _) ?_ _) (by omega)
   show (h'.bl.bf h2.nx _).get (h.nx+1)≠_
   rw[T.aj _ _ (by omega),g3]; exact aO
  ·exact ((aH.trans hle').set (b:=h2.nx) (by omega) _).set (b:=h.nx+1) (by omega) _
 have WO:∀hh,Le h3 hh→cv Q w id x m=(⟨id,x,0,m,w+1⟩,w+1,false)→xV h2.nx (.int .i64 id) (.int .i64 x) (.int .i64 m) (h.nx+1) hh κ:=by
  intro hh KO ea
  rw[ea] at hk
  have abk:=KO.nx
  have abl:=KO.lo
  have g3:=(KO.get _ (by omega)).trans g3
  have g5:=(KO.get _ (by omega)).trans g5
  simp(disch:=first|omega|simp only[Wd]<;>omega|with_unfolding_all rfl)only[Wz,xV,g5]
  have bu:Le hA ⟨hh.nx,hh.bl.bf h2.nx (af [.int .i64 t,.int .i64 r,.slice dn Q.length dw,.int .i64 (w+1)] 51 false),hh.lo⟩:=(((aZ.trans bD).trans cL).trans KO).set (b:=h2.nx) (by omega) _
  have G4:iK hA ⟨hh.nx,hh.bl.bf h2.nx (af [.int .i64 t,.int .i64 r,.slice dn Q.length dw,.int .i64 (w+1)] 51 false),hh.lo⟩ (.slice dn Q.length dw) Q:=cU.put (mH.le KO) (by rw[g5]; exact aO) _
  obtain ⟨hC,eC⟩:∃hC:Heap,hC=⟨hh.nx+1,(hh.bl.bf h2.nx (af [.int .i64 t,.int .i64 r,.slice dn Q.length dw,.int .i64 (w+1)] 51 false)).bf hh.nx (af [.int .i64 id,.int .i64 x,.int .i64 0,.int .i64 m,.int .i64 (w+1)] 54 false),hh.lo⟩:=⟨_,rfl⟩
  have leC:Le hA hC:=by rw[eC]; exact bu.new _
  have PF:iK hA hC (.slice dn Q.length dw) Q:=by rw[eC]; exact G4.le ((Le.refl _).new _)
  have gC:hC.bl.get hh.nx=some (af [.int .i64 id,.int .i64 x,.int .i64 0,.int .i64 m,.int .i64 (w+1)] 54 false):=by rw[eC]; exact T.aa _ _ _
  have g5:hC.bl.get h2.nx=some (af [.int .i64 t,.int .i64 r,.slice dn Q.length dw,.int .i64 (w+1)] 51 false):=by rw[eC]; exact (T.aj _ _ (by omega)).trans (T.aa _ _ _)
  have g3:hC.bl.get (h.nx+1)=some (af [.int .i64 0,.int .i64 0,.slice none 0 0,.int .i64 0] 51 false):=by rw[eC]; exact (T.aj _ _ (by omega)).trans ((T.aj _ _ (by omega)).trans g3)
  have nC:hC.nx=hh.nx+1:=by rw[eC]
  have lC:hC.lo=hh.lo:=by rw[eC]
  rw[←eC]
  clear eC
  refine cT (enc:=aW) (a:=hA) (L:=Q) (M:=[(⟨id,x,0,m,w+1⟩:R5)]) aX jR (by decide) (by decide) PF (Sl.new (L:=[(⟨id,x,0,m,w+1⟩:R5)]) (e:=54) (op:=false) (by omega) gC _) leC (by simp; omega) (by omega) _ ?_
  intro v' h' ho' hle' _ hn2 hl' hsame
  have g5:=(hsame h2.nx (by omega) (by rw[g5]; exact aO)).trans g5
  have g3:=(hsame (h.nx+1) (by omega) (by rw[g3]; exact aO)).trans g3
  obtain ⟨Tc,Td,rfl,_⟩:=ho'.sl
  simp(disch:=first|omega|simp only[Wd]<;>omega|with_unfolding_all rfl)only[Wz,g5,g3]
  refine hk _ _ ?_ ?_
  ·refine cU.base (cU.put (cU.put ho' (by rw[g5]; exact aO) _) ?_ _) (by omega)
   show (h'.bl.bf h2.nx _).get (h.nx+1)≠_
   rw[T.aj _ _ (by omega),g3]; exact aO
  ·exact ((aH.trans hle').set (b:=h2.nx) (by omega) _).set (b:=h.nx+1) (by omega) _
 have lR:∀p∈Q,p.id≠id:=fun p hp=>(hn p hp).1
 have XZ:¬(bX Q=none∧cI Q ⟨id,x,0,m,0⟩=true)→cv Q w id x m=(⟨id,x,0,m,w+1⟩,w+1,false):=by
  intro hc
  unfold cv
  rw[if_neg (by rw[Bool.and_eq_true,decide_eq_true_eq]; exact hc)]
 cases hb:best Q Q.length with
 | some b=>
  have hf:bX Q≠none:=by rw[ic,hb]; simp
  simp(disch:=first|omega|simp only[Wd]<;>omega|with_unfolding_all rfl)only[Wz,dy,bL (show (0:Int)≤(b:Int) by omega)]
  exact WO h3 (Le.refl _) (XZ fun h=>hf h.1)
 | none=>
  simp(disch:=first|omega|simp only[Wd]<;>omega|with_unfolding_all rfl)only[Wz,dy,bZ (show (-1:Int)<0 by decide),g1]
  refine yw t r _ w Q h3 _ hq3 (by omega) (by omega) ?_
  intro h4 gK
  have abo:=gK.nx
  have abp:=gK.lo
  have g1:=(gK.get _ (by omega)).trans g1
  cases hw0:Q.findIdx? (fun r=>decide (r.m=0)) with
  | some b=>
   have hf:bX Q≠none:=by rw[ic,hb]; simp only; rw[hw0]; simp
   simp(disch:=first|omega|simp only[Wd]<;>omega|with_unfolding_all rfl)only[Wz,dy,bL (show (0:Int)≤(b:Int) by omega)]
   exact WO h4 gK (XZ fun h=>hf h.1)
  | none=>
   have hf:bX Q=none:=by rw[ic,hb]; exact hw0
   simp(disch:=first|omega|simp only[Wd]<;>omega|with_unfolding_all rfl)only[Wz,dy,bZ (show (-1:Int)<0 by decide),g1]
   refine BU t r _ w m (-1) Q h4 _ (hq3.le gK) (by omega) (by omega) ?_
   intro h5 iY
   rw[Oo (x:=x) lR]
   cases hfit:cI Q ⟨id,x,0,m,0⟩ with
   | true=>
    simp(disch:=first|omega|simp only[Wd]<;>omega|with_unfolding_all rfl)only[Wz]
    refine agp h5 (gK.trans iY) ?_
    unfold cv
    rw[if_pos (by rw[hf,hfit]; rfl)]
   | false=>
    simp(disch:=first|omega|simp only[Wd]<;>omega|with_unfolding_all rfl)only[Wz]
    exact WO h5 (gK.trans iY) (XZ fun h=>by rw[hfit] at h; exact absurd h.2 (by decide))
theorem abq:∀i,i<7→∀j,j<7→bK Tryz.prog 200 211 [.int .i64 (.ofNat i),.int .i64 (.ofNat j)] (.int .i64 (e8 (.ofNat i) (.ofNat j)))=true:=by decide +kernel
theorem abr (n:Nat) (b:Int):bK Tryz.prog 200 211 [.int .i64 (.negSucc n),.int .i64 b] (.int .i64 0)=true:=by kernel_rfl
theorem abt (n:Nat) (b:Int):bK Tryz.prog 200 211 [.int .i64 (.ofNat (n+7)),.int .i64 b] (.int .i64 0)=true:=by kernel_rfl
theorem abu:∀i,i<7→∀n:Nat,bK Tryz.prog 200 211 [.int .i64 (.ofNat i),.int .i64 (.negSucc n)] (.int .i64 0)=true:=by
 refine seven ?_ ?_ ?_ ?_ ?_ ?_ ?_<;>intro n<;>kernel_rfl
theorem abv:∀i,i<7→∀n:Nat,bK Tryz.prog 200 211 [.int .i64 (.ofNat i),.int .i64 (.ofNat (n+7))] (.int .i64 0)=true:=by
 refine seven ?_ ?_ ?_ ?_ ?_ ?_ ?_<;>intro n<;>kernel_rfl
theorem WQ (a b:Int) {h:Heap} {κ:Value→Heap→Prop} (hk:κ (.int .i64 (e8 a b)) h):CallW Tryz.prog 211 [.int .i64 a,.int .i64 b] h κ:=
 qm mixed (F:=fun a b=>.int .i64 (e8 a b)) abq (fun n b=>by rw[Be (oZ n)]; exact abr n b) (fun n b=>by rw[Be (o9 n)]; exact abt n b) (fun i hi n=>by rw[Bf (oZ n)]; exact abu i hi n) (fun i hi n=>by rw[Bf (o9 n)]; exact abv i hi n) a b hk
set_option maxHeartbeats 1000000 in
theorem yy (t r:Int) (q:Value) (w d m:Int) (Q:List R5) (h:Heap) (κ:KQ) (hq:Sl aW h q Q) (hlen:Q.length≤10000) (hlo:h.lo≤h.nx) (hw:0≤w∧w≤1000000) (hp:Q.Pairwise fV)
  (hk2:br m=false→∀h',Le h h'→κ (.tuple ⟨[cG 0 0 (.slice none 0 0) 0,.bool false,.int .i64 2]⟩) h')
  (qz:br m=true→bq Q d=none→∀h',Le h h'→κ (.tuple ⟨[cG 0 0 (.slice none 0 0) 0,.bool false,.int .i64 5]⟩) h')
  (sI:br m=true→∀p,bq Q d=some p→0<p.s→∀h',Le h h'→κ (.tuple ⟨[cG 0 0 (.slice none 0 0) 0,.bool false,.int .i64 7]⟩) h')
  (dK:br m=true→∀i p,Q[i]? = some p→bq Q d=some p→¬0<p.s→∀q' h',iK h h' q' (Q.set i (dB Q w p m).1)→Le h h'→κ (.tuple ⟨[cG t r q' (dB Q w p m).2.1,.bool (dB Q w p m).2.2,.int .i64 0]⟩) h') :
  CallW Tryz.prog 172 [cG t r q w,.int .i64 d,.int .i64 m] h κ:=by
 have tc:=hq
 obtain ⟨qx,qc,rfl,_⟩:=tc
 refine aq mixed ?_
 rw[VL]
 simp(disch:=first|omega|simp only[Wd]<;>omega|with_unfolding_all rfl)only[Wz,cG]
 obtain ⟨hA,az⟩:∃hA:Heap,hA=⟨h.nx+1+1,((h.bl.bf (h.nx) (af [.int .i64 t,.int .i64 r,.slice qx Q.length qc,.int .i64 w] 51 false)).bf (h.nx+1) (af [.int .i64 0,.int .i64 0,.slice none 0 0,.int .i64 0] 51 false)),h.lo⟩:=⟨_,rfl⟩
 have aH:Le h hA:=by subst az; exact (((Le.refl h).new _).new _)
 have g1:hA.bl.get (h.nx)=some (af [.int .i64 t,.int .i64 r,.slice qx Q.length qc,.int .i64 w] 51 false):=by subst az; exact (T.aj _ _ (by omega)).trans (T.aa _ _ _)
 have g3:hA.bl.get (h.nx+1)=some (af [.int .i64 0,.int .i64 0,.slice none 0 0,.int .i64 0] 51 false):=by subst az; exact T.aa _ _ _
 have dF:hA.nx=h.nx+1+1:=by subst az; rfl
 have dG:hA.lo=h.lo:=by subst az; rfl
 rw[←az]
 clear az
 have oB:=hq.le aH
 refine Ai m ?_
 cases ha:br m with
 | false=>
  simp(disch:=first|omega|simp only[Wd]<;>omega|with_unfolding_all rfl)only[Wz,g3]
  exact hk2 ha _ (aH.set (b:=h.nx+1) (by omega) _)
 | true=>
 simp(disch:=first|omega|simp only[Wd]<;>omega|with_unfolding_all rfl)only[Wz,D3,g1]
 refine EF t r _ w d Q hA _ oB (by omega) (by omega) ?_
 intro h1 bu
 have pR:=bu.nx
 have pS:=bu.lo
 have g1:=(bu.get _ (by omega)).trans g1
 have g3:=(bu.get _ (by omega)).trans g3
 have hq1:=oB.le bu
 rcases gU Q d with ⟨e,e2⟩ | ⟨i,p,e,hi,Ff,e2⟩
 ·rw[e]
  simp(disch:=first|omega|simp only[Wd]<;>omega|with_unfolding_all rfl)only[Wz,dy,bZ (show (-1:Int)<0 by decide),g3]
  exact qz ha e2 _ ((aH.trans bu).set (b:=h.nx+1) (by omega) _)
 rw[e]
 obtain ⟨b,o,hb,dM,dg⟩:=tf hq1 i hi
 simp(disch:=first|omega|simp only[Wd]<;>omega|with_unfolding_all rfl)only[Wz,dy,bL (show (0:Int)≤(i:Int) by omega),D2,g1,dM,dg]
 refine sL p ?_
 by_cases hs:0<p.s
 ·simp(disch:=first|omega|simp only[Wd]<;>omega|with_unfolding_all rfl)only[Wz,aM hs,g3]
  exact sI ha p e2 hs _ ((aH.trans bu).set (b:=h.nx+1) (by omega) _)
 simp(disch:=first|omega|simp only[Wd]<;>omega|with_unfolding_all rfl)only[Wz,aK hs,D1,g1]
 refine kK t r _ w Q h1 _ hq1 (by omega) (by omega) ?_
 intro q2 h2 jv aZ
 have iU:=aZ.nx
 have iV:=aZ.lo
 have g1:=(aZ.get _ (by omega)).trans g1
 have g3:=(aZ.get _ (by omega)).trans g3
 obtain ⟨dn,dw,rfl,_⟩:=jv.sl
 obtain ⟨b',o',hb',Nz,NA⟩:=tf (hq1.le aZ) i hi
 simp(disch:=first|omega|simp only[Wd]<;>omega|with_unfolding_all rfl)only[Wz,cG,g1,Nz,NA]
 obtain ⟨hB,bF⟩:∃hB:Heap,hB=⟨h2.nx+1,(h2.bl.bf (h2.nx) (af [.int .i64 t,.int .i64 r,.slice dn Q.length dw,.int .i64 w] 51 false)),h2.lo⟩:=⟨_,rfl⟩
 have bD:Le h2 hB:=by subst bF; exact ((Le.refl h2).new _)
 have g5:hB.bl.get (h2.nx)=some (af [.int .i64 t,.int .i64 r,.slice dn Q.length dw,.int .i64 w] 51 false):=by subst bF; exact T.aa _ _ _
 have pE:hB.nx=h2.nx+1:=by subst bF; rfl
 have pF:hB.lo=h2.lo:=by subst bF; rfl
 rw[←bF]
 clear bF
 have kz:=bD.nx
 have kE:=bD.lo
 have g1:=(bD.get _ (by omega)).trans g1
 have g3:=(bD.get _ (by omega)).trans g3
 obtain ⟨wt,I3⟩:∃wt,e8 p.m m=wt:=⟨_,rfl⟩
 have yX:=jv.le bD
 have hqB:=(hq1.le aZ).le bD
 refine WQ _ _ ?_
 rw[I3]
 rcases yX with ⟨rfl,_⟩ | ⟨bo,e1,k1,k2,k3,k4⟩
 ·simp at hi
 cases e1
 have hil:i<Q.length:=(List.getElem?_eq_some_iff.1 hi).1
 have hfl:=aT (enc:=aW) aX Q
 obtain ⟨p1,LF⟩:∃p1:R5,p1=⟨p.id,p.x,p.m,wt,p.s⟩:=⟨_,rfl⟩
 have rL:=ck (p':=p1) (ws:=[.int .i64 wt]) (j:=3) aX hi (by show 3+1≤5; omega) (by rw[LF]; rfl)
 have hp2:(Q.set i p1)[i]? = some p1:=by rw[List.getElem?_set,if_pos rfl,if_pos hil]
 have NJ:((Q.set i p1).flatMap aW).length=Q.length*5:=by rw[aT aX,List.length_set]
 have sE:bo≠h2.nx:=by rintro rfl; rw[g5] at k4; exact aO k4
 have jT:bo≠h.nx+1:=by rintro rfl; rw[g3] at k4; exact aO k4
 have agq:bo≠h.nx:=by rintro rfl; rw[g1] at k4; exact aO k4
 simp(disch:=first|omega|simp only[Wd]<;>omega|with_unfolding_all rfl)only[Wz,g5,bA,k4,rL,g1]
 obtain ⟨hC,eC⟩:∃hC:Heap,hC=⟨hB.nx,hB.bl.bf bo (af ((Q.set i p1).flatMap aW) 54 true),hB.lo⟩:=⟨_,rfl⟩
 have leC:Le h1 hC:=by rw[eC]; exact (aZ.trans bD).set k1 _
 have nC:hC.nx=hB.nx:=by rw[eC]
 have lC:hC.lo=hB.lo:=by rw[eC]
 have gC:hC.bl.get bo=some (af ((Q.set i p1).flatMap aW) 54 true):=by rw[eC]; exact T.aa _ _ _
 have g1:hC.bl.get h.nx=some (af [.int .i64 t,.int .i64 r,.slice qx Q.length qc,.int .i64 w] 51 false):=by rw[eC]; exact (T.aj _ _ agq).trans g1
 have g3:hC.bl.get (h.nx+1)=some (af [.int .i64 0,.int .i64 0,.slice none 0 0,.int .i64 0] 51 false):=by rw[eC]; exact (T.aj _ _ jT).trans g3
 have g5:hC.bl.get h2.nx=some (af [.int .i64 t,.int .i64 r,.slice (some ⟨bo,0,none⟩) Q.length aN,.int .i64 w] 51 false):=by rw[eC]; exact (T.aj _ _ sE).trans g5
 rw[←eC]
 clear eC
 have X0:=hq1.le leC
 have KP:=(aH.trans bu).trans leC
 have NL:∀(hD:Heap),Le hC hD→dB Q w p m=(⟨p.id,p.x,wt,wt,p.s⟩,w,true)→xQ h2.nx (.int .i64 (i:Int)) (.int .i64 wt) (h.nx+1) hD κ:=by
  intro hD Fk he
  have abw:=Fk.nx
  have abx:=Fk.lo
  have gC:=(Fk.get _ (by omega)).trans gC
  have g3:=(Fk.get _ (by omega)).trans g3
  have g5:=(Fk.get _ (by omega)).trans g5
  have key:=dK ha i p hi e2 hs
  rw[he] at key
  have lu:=ck (p':=⟨p.id,p.x,wt,wt,p.s⟩) (ws:=[.int .i64 wt]) (j:=2) aX hp2 (by show 2+1≤5; omega) (by rw[LF]; rfl)
  rw[List.set_set] at lu
  simp(disch:=first|omega|simp only[Wd]<;>omega|with_unfolding_all rfl)only[Wz,xQ,g5,bA,gC,lu,g3]
  refine key _ _ (.inr ⟨bo,by rw[List.length_set],by omega,by show bo<hD.nx; omega,by show hD.lo≤bo; omega,?_⟩) ?_
  ·exact (T.aj _ _ (fun e=>jT e.symm)).trans (T.aa _ _ _)
  ·exact ((KP.trans Fk).set (b:=bo) (by omega) _).set (b:=h.nx+1) (by omega) _
 have NM:∀(hD:Heap),Le hC hD→dB Q w p m=(⟨p.id,p.x,p.m,wt,w+1⟩,w+1,false)→xR h2.nx (.int .i64 (i:Int)) (h.nx+1) hD κ:=by
  intro hD Fk he
  have abw:=Fk.nx
  have abx:=Fk.lo
  have gC:=(Fk.get _ (by omega)).trans gC
  have g3:=(Fk.get _ (by omega)).trans g3
  have g5:=(Fk.get _ (by omega)).trans g5
  have key:=dK ha i p hi e2 hs
  rw[he] at key
  have lu:=ck (p':=⟨p.id,p.x,p.m,wt,w+1⟩) (ws:=[.int .i64 (w+1)]) (j:=4) aX hp2 (by show 4+1≤5; omega) (by rw[LF]; rfl)
  rw[List.set_set] at lu
  simp(disch:=first|omega|simp only[Wd]<;>omega|with_unfolding_all rfl)only[Wz,xR,g5,bA,gC,lu,g3]
  refine key _ _ (.inr ⟨bo,by rw[List.length_set],by omega,by show bo<hD.nx; omega,by show hD.lo≤bo; omega,?_⟩) ?_
  ·exact (T.aj _ _ (fun e=>jT e.symm)).trans (T.aa _ _ _)
  ·exact (((KP.trans Fk).set (b:=h2.nx) (by omega) _).set (b:=bo) (by omega) _).set (b:=h.nx+1) (by omega) _
 obtain ⟨b3,o3,P6,aby,abz⟩:=tf X0 i hi
 have XZ:¬(cI Q ⟨p.id,p.x,p.m,wt,p.s⟩=true∧Q.any ku=false)→wt≠p.m→dB Q w p m=(⟨p.id,p.x,p.m,wt,w+1⟩,w+1,false):=by
  intro hc hne
  unfold dB
  rw[I3,if_neg]
  rw[Bool.or_eq_true,decide_eq_true_eq,Bool.and_eq_true,Bool.not_eq_true']
  rintro (h | h)
  ·exact hne h
  ·exact hc h
 by_cases hq1:wt=p.m
 ·simp(disch:=first|omega|simp only[Wd]<;>omega|with_unfolding_all rfl)only[Wz,aby,abz,aM hq1]
  exact NL hC (Le.refl _) (by unfold dB; rw[I3,if_pos (by simp[hq1])])
 simp(disch:=first|omega|simp only[Wd]<;>omega|with_unfolding_all rfl)only[Wz,aby,abz,aK hq1,g1]
 refine BU t r _ w wt i Q hC _ X0 (by omega) (by omega) ?_
 intro h4 gK
 have abo:=gK.nx
 have abp:=gK.lo
 have g1:=(gK.get _ (by omega)).trans g1
 rw[On hp hi]
 cases hft:cI Q ⟨p.id,p.x,p.m,wt,p.s⟩ with
 | false=>
  simp(disch:=first|omega|simp only[Wd]<;>omega|with_unfolding_all rfl)only[Wz]
  exact NM h4 gK (XZ (fun h=>by rw[hft] at h; exact absurd h.1 (by decide)) hq1)
 | true=>
  simp(disch:=first|omega|simp only[Wd]<;>omega|with_unfolding_all rfl)only[Wz,g1]
  refine Oj t r _ w Q h4 _ (X0.le gK) (by omega) (by omega) ?_
  intro h5 iY
  cases hb:best Q Q.length with
  | some b9=>
   have vj:Q.any ku=true:=Ez.2 ⟨b9,hb⟩
   simp(disch:=first|omega|simp only[Wd]<;>omega|with_unfolding_all rfl)only[Wz,dy,bL (show (0:Int)≤(b9:Int) by omega)]
   exact NM h5 (gK.trans iY) (XZ (fun h=>by rw[vj] at h; exact absurd h.2 (by decide)) hq1)
  | none=>
   have vj:Q.any ku=false:=by
    cases ha:Q.any ku with
    | false=>rfl
    | true=>obtain ⟨b,hb'⟩:=Ez.1 ha; rw[hb] at hb'; cases hb'
   simp(disch:=first|omega|simp only[Wd]<;>omega|with_unfolding_all rfl)only[Wz,dy,bZ (show (-1:Int)<0 by decide)]
   refine NL h5 (gK.trans iY) ?_
   unfold dB
   rw[I3,if_pos]
   rw[hft,vj]; simp
theorem Rl (t r:Int) (q:Value) (w d x:Int) (Q:List R5) (h:Heap) (κ:KQ) (hq:Sl aW h q Q) (hlen:Q.length≤10000) (hlo:h.lo≤h.nx) (hp:Q.Pairwise fV) {i:Nat} {p:R5} (hi:Q[i]? = some p) (hid:p.id=d)
  (wY:(∃o∈Q,o.id≠d∧o.x=x)→∀h',Le h h'→κ (.tuple ⟨[cG 0 0 (.slice none 0 0) 0,.int .i64 4]⟩) h')
  (sI:(∀o∈Q,o.id≠d→o.x≠x)→0<p.s→∀h',Le h h'→κ (.tuple ⟨[cG 0 0 (.slice none 0 0) 0,.int .i64 7]⟩) h')
  (dK:(∀o∈Q,o.id≠d→o.x≠x)→¬0<p.s→∀q' h',iK h h' q' (Q.set i (jh p x))→Le h h'→κ (.tuple ⟨[cG t r q' w,.int .i64 0]⟩) h') :
  CallW Tryz.prog 177 [cG t r q w,.int .i64 d,.int .i64 x] h κ:=by
 have tc:=hq
 obtain ⟨qx,qc,rfl,_⟩:=tc
 have hil:i<Q.length:=(List.getElem?_eq_some_iff.1 hi).1
 refine aq mixed ?_
 rw[VS]
 simp(disch:=first|omega|simp only[Wd]<;>omega|with_unfolding_all rfl)only[Wz,cG]
 obtain ⟨hA,az⟩:∃hA:Heap,hA=⟨h.nx+1+1,((h.bl.bf (h.nx) (af [.int .i64 t,.int .i64 r,.slice qx Q.length qc,.int .i64 w] 51 false)).bf (h.nx+1) (af [.int .i64 0,.int .i64 0,.slice none 0 0,.int .i64 0] 51 false)),h.lo⟩:=⟨_,rfl⟩
 have aH:Le h hA:=by subst az; exact (((Le.refl h).new _).new _)
 have g1:hA.bl.get (h.nx)=some (af [.int .i64 t,.int .i64 r,.slice qx Q.length qc,.int .i64 w] 51 false):=by subst az; exact (T.aj _ _ (by omega)).trans (T.aa _ _ _)
 have g3:hA.bl.get (h.nx+1)=some (af [.int .i64 0,.int .i64 0,.slice none 0 0,.int .i64 0] 51 false):=by subst az; exact T.aa _ _ _
 have dF:hA.nx=h.nx+1+1:=by subst az; rfl
 have dG:hA.lo=h.lo:=by subst az; rfl
 rw[←az]
 clear az
 have oB:=hq.le aH
 refine EF t r _ w d Q hA _ oB (by omega) (by omega) ?_
 intro h1 bu
 have pR:=bu.nx
 have pS:=bu.lo
 have g1:=(bu.get _ (by omega)).trans g1
 have g3:=(bu.get _ (by omega)).trans g3
 have hq1:=oB.le bu
 have EG:Q.findIdx? (aV d)=some i:=by
  refine jA hi (show aV d p=true from aM hid) fun j o hj ho=>?_
  exact aK fun e=>by have:=mK hp ho hi (e.trans hid.symm); omega
 rw[EG]
 simp(disch:=first|omega|simp only[Wd]<;>omega|with_unfolding_all rfl)only[Wz,dy,bL (show (0:Int)≤(i:Int) by omega)]
 refine ⟨fun n l h'=>∃k:Nat,slot l 22=.int .i64 (k:Int)∧(∀(j:Nat) (o:R5),j<k→Q[j]? = some o→o.id≠d→o.x≠x)∧k≤Q.length∧n=Q.length-k∧HQ h1 h',⟨_,0,rfl,fun j o h=>(by omega),Nat.zero_le _,rfl,rfl⟩,?_⟩
 rintro n l h' ⟨k,s1,hn,hk,rfl,hle⟩
 cases (show h1=h' from hle)
 by_cases hlt:k<Q.length
 ·obtain ⟨o,ho⟩:∃o,Q[k]? = some o:=⟨_,List.getElem?_eq_getElem hlt⟩
  obtain ⟨b,o',hb,dM,dg⟩:=tf hq1 k ho
  by_cases hki:(k:Int)=(i:Int)
  ·simp(disch:=first|omega|simp only[Wd]<;>omega|with_unfolding_all rfl)only[Wz,pe,s1,g1,bZ (show (k:Int)<(Q.length:Int) by omega),sy,aM hki]
   refine ⟨_,by omega,k+1,rfl,fun j o1 hj G4 hd=>?_,by omega,rfl,rfl⟩
   by_cases hjk:j=k
   ·subst hjk
    have:j=i:=by omega
    subst this
    rw[hi] at G4; cases G4; exact absurd hid hd
   ·exact hn j o1 (by omega) G4 hd
  ·have hod:o.id≠d:=fun e=>hki (by have:=mK hp ho hi (e.trans hid.symm); omega)
   by_cases hox:o.x=x
   ·simp(disch:=first|omega|simp only[Wd]<;>omega|with_unfolding_all rfl)only[Wz,pe,s1,g1,bZ (show (k:Int)<(Q.length:Int) by omega),sy,aK hki,dM,dg,aM hox,g3]
    exact wY ⟨o,List.mem_of_getElem? ho,hod,hox⟩ _ ((aH.trans bu).set (b:=h.nx+1) (by omega) _)
   ·simp(disch:=first|omega|simp only[Wd]<;>omega|with_unfolding_all rfl)only[Wz,pe,s1,g1,bZ (show (k:Int)<(Q.length:Int) by omega),sy,aK hki,dM,dg,aK hox]
    refine ⟨_,by omega,k+1,rfl,fun j o1 hj G4 hd=>?_,by omega,rfl,rfl⟩
    by_cases hjk:j=k
    ·subst hjk; rw[ho] at G4; cases G4; exact hox
    ·exact hn j o1 (by omega) G4 hd
 have PB:k=Q.length:=by omega
 subst PB
 have hno:∀o∈Q,o.id≠d→o.x≠x:=by
  intro o ho hd
  obtain ⟨j,hj⟩:=List.getElem?_of_mem ho
  exact hn j o (List.getElem?_eq_some_iff.1 hj).1 hj hd
 obtain ⟨b,o',hb,dM,dg⟩:=tf hq1 i hi
 simp(disch:=first|omega|simp only[Wd]<;>omega|with_unfolding_all rfl)only[Wz,pe,s1,g1,bL (show (Q.length:Int)≤(Q.length:Int) by omega),Ea,dM,dg]
 refine sL p ?_
 by_cases hs:0<p.s
 ·simp(disch:=first|omega|simp only[Wd]<;>omega|with_unfolding_all rfl)only[Wz,aM hs,g3]
  exact sI hno hs _ ((aH.trans bu).set (b:=h.nx+1) (by omega) _)
 simp(disch:=first|omega|simp only[Wd]<;>omega|with_unfolding_all rfl)only[Wz,aK hs,D_,g1]
 refine kK t r _ w Q h1 _ hq1 (by omega) (by omega) ?_
 intro q2 h2 jv aZ
 have iU:=aZ.nx
 have iV:=aZ.lo
 have g1:=(aZ.get _ (by omega)).trans g1
 have g3:=(aZ.get _ (by omega)).trans g3
 rcases jv with ⟨rfl,_⟩ | ⟨bo,rfl,k1,k2,k3,k4⟩
 ·simp at hi
 have hfl:=aT (enc:=aW) aX Q
 have rL:=ck (p':=jh p x) (ws:=[.int .i64 x]) (j:=1) aX hi (by show 1+1≤5; omega) rfl
 have jT:bo≠h.nx+1:=by rintro rfl; rw[g3] at k4; exact aO k4
 simp(disch:=first|omega|simp only[Wd]<;>omega|with_unfolding_all rfl)only[Wz,cG,bA,k4,rL,g3]
 refine dK hno hs _ _ (.inr ⟨bo,by rw[List.length_set],by omega,by show bo<h2.nx+1; omega,by show h2.lo≤bo; omega,?_⟩) ?_
 ·exact (T.aj _ _ (fun e=>jT e.symm)).trans (T.aa _ _ _)
 ·exact ((((aH.trans bu).trans aZ).new _).set (b:=bo) (by omega) _).set (b:=h.nx+1) (by omega) _
theorem yz (t r:Int) (q:Value) (w:Int) (i:Nat) (Q:List R5) (a h:Heap) (κ:KQ) (hq:iK a h q Q) (hlen:Q.length≤10000) (hlo:h.lo≤h.nx) (hil:i<Q.length)
  (hk:∀q' h',QV h' q' (Q.take i++Q.drop (i+1))→Le h h'→κ (cG t r q' w) h') :
  CallW Tryz.prog 212 [cG t r q w,.int .i64 (i:Int)] h κ:=by
 obtain ⟨qx,qc,rfl,_⟩:=hq.sl
 refine aq mixed ?_
 rw[Wc]
 simp(disch:=first|omega|simp only[Wd]<;>omega|with_unfolding_all rfl)only[Wz,cG]
 obtain ⟨hA,az⟩:∃hA:Heap,hA=⟨h.nx+1+1,((h.bl.bf (h.nx) (af [.int .i64 t,.int .i64 r,.slice qx Q.length qc,.int .i64 w] 51 false)).bf (h.nx+1) (af [.int .i64 0,.int .i64 0,.slice none 0 0,.int .i64 0] 51 false)),h.lo⟩:=⟨_,rfl⟩
 have aH:Le h hA:=by subst az; exact (((Le.refl h).new _).new _)
 have g1:hA.bl.get (h.nx)=some (af [.int .i64 t,.int .i64 r,.slice qx Q.length qc,.int .i64 w] 51 false):=by subst az; exact (T.aj _ _ (by omega)).trans (T.aa _ _ _)
 have g3:hA.bl.get (h.nx+1)=some (af [.int .i64 0,.int .i64 0,.slice none 0 0,.int .i64 0] 51 false):=by subst az; exact T.aa _ _ _
 have dF:hA.nx=h.nx+1+1:=by subst az; rfl
 have dG:hA.lo=h.lo:=by subst az; rfl
 rw[←az]
 clear az
 have oB:=hq.le aH
 refine kK t r _ w Q hA _ oB.sl (by omega) (by omega) ?_
 intro q2 h2 jv aZ
 have iU:=aZ.nx
 have iV:=aZ.lo
 have g1:=(aZ.get _ (by omega)).trans g1
 have g3:=(aZ.get _ (by omega)).trans g3
 have i_:=oB.le aZ
 rcases jv with ⟨rfl,_⟩ | ⟨bo,rfl,k1,k2,k3,k4⟩
 ·simp at hil
 have hfl:=aT (enc:=aW) aX Q
 obtain ⟨hB,eB⟩:∃hB:Heap,hB=⟨h2.nx+1,h2.bl.bf h2.nx (af [.int .i64 t,.int .i64 r,.slice (some ⟨bo,0,none⟩) Q.length aN,.int .i64 w] 51 false),h2.lo⟩:=⟨_,rfl⟩
 have NW:Le h2 hB:=by rw[eB]; exact (Le.refl h2).new _
 have g5:hB.bl.get h2.nx=some (af [.int .i64 t,.int .i64 r,.slice (some ⟨bo,0,none⟩) Q.length aN,.int .i64 w] 51 false):=by rw[eB]; exact T.aa _ _ _
 have nB:hB.nx=h2.nx+1:=by rw[eB]
 have lB:hB.lo=h2.lo:=by rw[eB]
 have k4:=(NW.get _ k2).trans k4
 have g1:=(NW.get _ (by omega)).trans g1
 have g3:=(NW.get _ (by omega)).trans g3
 have e0:∀{β:Type} {fl:β} (κ:Value→Heap→β),sliceB fl 54 5 (.slice (some ⟨bo,0,none⟩) Q.length aN) none (some (.int .i64 (i:Int))) none hB κ=κ (.slice (some ⟨bo,0,none⟩) i aN) hB:=fun κ=>r8 (by decide) k4 hfl (by omega) (by omega) κ
 obtain ⟨u,hu,eu⟩:=(i_.le NW).tail aX (by decide) (i+1) (by omega)
 have ei:(i:Int)+1=((i+1:Nat):Int):=by omega
 simp(disch:=first|omega|simp only[Wd]<;>omega|with_unfolding_all rfl)only[Wz,cG]
 rw[←eB]
 simp(disch:=first|omega|simp only[Wd]<;>omega|with_unfolding_all rfl)only[Wz,g5,g1,e0,ei,eu]
 clear eB
 have hML:(Q.drop (i+1)).length=Q.length-(i+1):=List.length_drop
 have hT:(Q.take i).length=i:=by rw[List.length_take]; omega
 obtain ⟨M,eM⟩:∃M,Q.drop (i+1)=M:=⟨_,rfl⟩
 rw[eM] at hu hML hk
 have sE:bo≠h2.nx:=by omega
 have jT:bo≠h.nx+1:=by omega
 have EH:=(aH.trans aZ).trans NW
 by_cases hM:M=[]
 ·rw[append_nil (α:=R5) (enc:=aW) (by rw[hM] at hu; exact hu) ⟨_,_,_,rfl⟩]
  simp(disch:=first|omega|simp only[Wd]<;>omega|with_unfolding_all rfl)only[Wz,g5,g3]
  refine hk _ _ ?_ ((EH.set (b:=h2.nx) (by omega) _).set (b:=h.nx+1) (by omega) _)
  have ty:((hB.bl.bf h2.nx (af [.int .i64 t,.int .i64 r,.slice (some ⟨bo,0,none⟩) i aN,.int .i64 w] 51 false)).bf (h.nx+1) (af [.int .i64 t,.int .i64 r,.slice (some ⟨bo,0,none⟩) i aN,.int .i64 w] 51 false)).get bo=some (af (Q.flatMap aW) 54 true):=
   (T.aj _ _ (fun e=>jT e.symm)).trans ((T.aj _ _ (fun e=>sE e.symm)).trans k4)
  refine ⟨?_,fun b' o' n' c' hv _=>by cases hv; exact ⟨by show bo<hB.nx; omega,_,_,ty⟩⟩
  refine ⟨_,aN,by rw[hM,List.append_nil,hT],fun _=>⟨bo,0,rfl,by show bo<hB.nx; omega,?_⟩⟩
  show Has (((hB.bl.bf h2.nx _).bf (h.nx+1) _).get bo) 0 _
  rw[T.aj _ _ (fun e=>jT e.symm),T.aj _ _ (fun e=>sE e.symm),k4,hM,List.append_nil,←rE aX]
  have:=Has.cells (vs:=Q.flatMap aW) (e:=54) (op:=true) (o:=0) (k:=i*5) (by omega)
  rw[List.drop_zero] at this
  exact this
 ·refine BV (enc:=aW) (vs:=Q.flatMap aW) aX jR hu hM k4 (by omega) (by rw[hfl,hML]; omega) (by omega) _ ?_
  simp(disch:=first|omega|simp only[Wd]<;>omega|with_unfolding_all rfl)only[Wz,g5,g3]
  refine hk _ _ ?_ (((EH.set (b:=bo) (by omega) _).set (b:=h2.nx) (by omega) _).set (b:=h.nx+1) (by omega) _)
  have ty:∀o1 o2,(((hB.bl.bf bo (af (over (Q.flatMap aW) (i*5) (M.flatMap aW)) 54 true)).bf h2.nx o1).bf (h.nx+1) o2).get bo=some (af (over (Q.flatMap aW) (i*5) (M.flatMap aW)) 54 true):=
   fun o1 o2=>(T.aj _ _ (fun e=>jT e.symm)).trans ((T.aj _ _ (fun e=>sE e.symm)).trans (T.aa _ _ _))
  refine ⟨?_,fun b' o' n' c' hv _=>by cases hv; exact ⟨by show bo<hB.nx; omega,_,_,ty _ _⟩⟩
  refine ⟨_,aN,by rw[List.length_append,hT],fun _=>⟨bo,0,rfl,by show bo<hB.nx; omega,?_⟩⟩
  show Has ((((hB.bl.bf bo _).bf h2.nx _).bf (h.nx+1) _).get bo) 0 _
  rw[T.aj _ _ (fun e=>jT e.symm),T.aj _ _ (fun e=>sE e.symm),T.aa]
  have hfm:=aT (enc:=aW) aX M
  have hol:(over (Q.flatMap aW) (i*5) (M.flatMap aW)).length=Q.length*5:=by rw[jP (by rw[hfm,hfl]; omega),hfl]
  have:=Has.cells (vs:=over (Q.flatMap aW) (i*5) (M.flatMap aW)) (e:=54) (op:=true) (o:=0) (k:=(i+M.length)*5) (by rw[hol,hML]; omega)
  rw[List.drop_zero] at this
  have e9:(over (Q.flatMap aW) (i*5) (M.flatMap aW)).take ((i+M.length)*5)=(Q.take i++M).flatMap aW:=by
   unfold over
   rw[rE aX,List.take_append_of_le_length (by rw[List.length_append,aT aX,aT aX,hT]; omega),List.take_of_length_le (by rw[List.length_append,aT aX,aT aX,hT]; omega),List.flatMap_append]
  rw[e9] at this
  exact this
theorem Ou (t r:Int) (q:Value) (w d:Int) (Q:List R5) (a h:Heap) (κ:KQ) (hq:iK a h q Q) (hlen:Q.length≤10000) (hlo:h.lo≤h.nx) (hp:Q.Pairwise fV) {i:Nat} {p:R5} (hi:Q[i]? = some p) (hid:p.id=d)
  (hk:∀q' h',QV h' q' (Q.filter fun r=>!aV d r)→Le h h'→κ (.tuple ⟨[cG t r q' w,.int .i64 0]⟩) h') :
  CallW Tryz.prog 173 [cG t r q w,.int .i64 d] h κ:=by
 obtain ⟨qx,qc,rfl,_⟩:=hq.sl
 have hil:i<Q.length:=(List.getElem?_eq_some_iff.1 hi).1
 refine aq mixed ?_
 rw[VM]
 simp(disch:=first|omega|simp only[Wd]<;>omega|with_unfolding_all rfl)only[Wz,cG]
 obtain ⟨hA,az⟩:∃hA:Heap,hA=⟨h.nx+1+1,((h.bl.bf (h.nx) (af [.int .i64 t,.int .i64 r,.slice qx Q.length qc,.int .i64 w] 51 false)).bf (h.nx+1) (af [.int .i64 0,.int .i64 0,.slice none 0 0,.int .i64 0] 51 false)),h.lo⟩:=⟨_,rfl⟩
 have aH:Le h hA:=by subst az; exact (((Le.refl h).new _).new _)
 have g1:hA.bl.get (h.nx)=some (af [.int .i64 t,.int .i64 r,.slice qx Q.length qc,.int .i64 w] 51 false):=by subst az; exact (T.aj _ _ (by omega)).trans (T.aa _ _ _)
 have g3:hA.bl.get (h.nx+1)=some (af [.int .i64 0,.int .i64 0,.slice none 0 0,.int .i64 0] 51 false):=by subst az; exact T.aa _ _ _
 have dF:hA.nx=h.nx+1+1:=by subst az; rfl
 have dG:hA.lo=h.lo:=by subst az; rfl
 rw[←az]
 clear az
 have oB:=hq.le aH
 refine EF t r _ w d Q hA _ oB.sl (by omega) (by omega) ?_
 intro h1 bu
 have pR:=bu.nx
 have pS:=bu.lo
 have g1:=(bu.get _ (by omega)).trans g1
 have g3:=(bu.get _ (by omega)).trans g3
 have EG:Q.findIdx? (aV d)=some i:=by
  refine jA hi (show aV d p=true from aM hid) fun j o hj ho=>?_
  exact aK fun e=>by have:=mK hp ho hi (e.trans hid.symm); omega
 rw[EG]
 simp(disch:=first|omega|simp only[Wd]<;>omega|with_unfolding_all rfl)only[Wz,dy,bL (show (0:Int)≤(i:Int) by omega),g1]
 refine yz t r _ w i Q a h1 _ (oB.le bu) hlen (by omega) hil ?_
 intro q2 h2 i_ aZ
 have iU:=aZ.nx
 have iV:=aZ.lo
 have g3:=(aZ.get _ (by omega)).trans g3
 have wN:=i_.1
 obtain ⟨dn,dw,rfl,_⟩:=wN
 rw[←sM hp hi,hid] at i_
 simp(disch:=first|omega|simp only[Wd]<;>omega|with_unfolding_all rfl)only[Wz,cG,g3]
 have el:(List.take i Q++List.drop (i+1) Q).length=(Q.filter fun r=>!aV d r).length:=by rw[←hid,sM hp hi]
 rw[el]
 exact hk _ _ (i_.put (fun vs op=>by rw[g3]; exact aL (by decide)) _) (((aH.trans bu).trans aZ).set (b:=h.nx+1) (by omega) _)
theorem Gk (t r:Int) (q:Value) (w d:Int) (Q:List R5) (a h:Heap) (κ:KQ) (hq:iK a h q Q) (hlen:Q.length≤10000) (hlo:h.lo≤h.nx) (hp:Q.Pairwise fV) {i:Nat} {p:R5} (hi:Q[i]? = some p) (hid:p.id=d)
  (sI:¬0<p.s→∀h',Le h h'→κ (.tuple ⟨[cG 0 0 (.slice none 0 0) 0,.int .i64 7]⟩) h')
  (dK:0<p.s→p.m=0→∀q' h',QV h' q' (Q.filter fun r=>!aV d r)→Le h h'→κ (.tuple ⟨[cG t r q' w,.int .i64 0]⟩) h')
  (fF:0<p.s→p.m≠0→∀q' h',QV h' q' (Q.set i (dZ p))→Le h h'→κ (.tuple ⟨[cG t r q' w,.int .i64 0]⟩) h') :
  CallW Tryz.prog 176 [cG t r q w,.int .i64 d] h κ:=by
 obtain ⟨qx,qc,rfl,_⟩:=hq.sl
 have hil:i<Q.length:=(List.getElem?_eq_some_iff.1 hi).1
 refine aq mixed ?_
 rw[VP]
 simp(disch:=first|omega|simp only[Wd]<;>omega|with_unfolding_all rfl)only[Wz,cG]
 obtain ⟨hA,az⟩:∃hA:Heap,hA=⟨h.nx+1+1,((h.bl.bf (h.nx) (af [.int .i64 t,.int .i64 r,.slice qx Q.length qc,.int .i64 w] 51 false)).bf (h.nx+1) (af [.int .i64 0,.int .i64 0,.slice none 0 0,.int .i64 0] 51 false)),h.lo⟩:=⟨_,rfl⟩
 have aH:Le h hA:=by subst az; exact (((Le.refl h).new _).new _)
 have g1:hA.bl.get (h.nx)=some (af [.int .i64 t,.int .i64 r,.slice qx Q.length qc,.int .i64 w] 51 false):=by subst az; exact (T.aj _ _ (by omega)).trans (T.aa _ _ _)
 have g3:hA.bl.get (h.nx+1)=some (af [.int .i64 0,.int .i64 0,.slice none 0 0,.int .i64 0] 51 false):=by subst az; exact T.aa _ _ _
 have dF:hA.nx=h.nx+1+1:=by subst az; rfl
 have dG:hA.lo=h.lo:=by subst az; rfl
 rw[←az]
 clear az
 have oB:=hq.le aH
 refine EF t r _ w d Q hA _ oB.sl (by omega) (by omega) ?_
 intro h1 bu
 have pR:=bu.nx
 have pS:=bu.lo
 have g1:=(bu.get _ (by omega)).trans g1
 have g3:=(bu.get _ (by omega)).trans g3
 have EG:Q.findIdx? (aV d)=some i:=by
  refine jA hi (show aV d p=true from aM hid) fun j o hj ho=>?_
  exact aK fun e=>by have:=mK hp ho hi (e.trans hid.symm); omega
 rw[EG]
 obtain ⟨b,o',hb,dM,dg⟩:=tf (oB.le bu).sl i hi
 simp(disch:=first|omega|simp only[Wd]<;>omega|with_unfolding_all rfl)only[Wz,dy,bL (show (0:Int)≤(i:Int) by omega),D9,g1,dM,dg]
 refine sL p ?_
 by_cases hs:0<p.s
 case neg=>
  simp(disch:=first|omega|simp only[Wd]<;>omega|with_unfolding_all rfl)only[Wz,aK hs,g3]
  exact sI hs _ ((aH.trans bu).set (b:=h.nx+1) (by omega) _)
 simp(disch:=first|omega|simp only[Wd]<;>omega|with_unfolding_all rfl)only[Wz,aM hs,D7,g1,dM,dg]
 refine sK p ?_
 by_cases hm:p.m=0
 ·simp(disch:=first|omega|simp only[Wd]<;>omega|with_unfolding_all rfl)only[Wz,aK (show ¬p.m≠0 by omega),g1]
  refine yz t r _ w i Q a h1 _ (oB.le bu) hlen (by omega) hil ?_
  intro q2 h2 i_ aZ
  have iU:=aZ.nx
  have iV:=aZ.lo
  have g3:=(aZ.get _ (by omega)).trans g3
  have wN:=i_.1
  obtain ⟨dn,dw,rfl,_⟩:=wN
  rw[←sM hp hi,hid] at i_
  simp(disch:=first|omega|simp only[Wd]<;>omega|with_unfolding_all rfl)only[Wz,cG,g3]
  have el:(List.take i Q++List.drop (i+1) Q).length=(Q.filter fun r=>!aV d r).length:=by rw[←hid,sM hp hi]
  rw[el]
  exact dK hs hm _ _ (i_.put (fun vs op=>by rw[g3]; exact aL (by decide)) _) (((aH.trans bu).trans aZ).set (b:=h.nx+1) (by omega) _)
 simp(disch:=first|omega|simp only[Wd]<;>omega|with_unfolding_all rfl)only[Wz,aM (show p.m≠0 from hm),D6,g1]
 refine kK t r _ w Q h1 _ (oB.le bu).sl (by omega) (by omega) ?_
 intro q2 h2 jv aZ
 have iU:=aZ.nx
 have iV:=aZ.lo
 have g1:=(aZ.get _ (by omega)).trans g1
 have g3:=(aZ.get _ (by omega)).trans g3
 rcases jv with ⟨rfl,_⟩ | ⟨bo,rfl,k1,k2,k3,k4⟩
 ·simp at hi
 have hfl:=aT (enc:=aW) aX Q
 have r2:(Q.flatMap aW)[i*5+2]? = some (.int .i64 p.m):=fu (j:=2) aX hi (by decide)
 have rL:=ck (p':=⟨p.id,p.x,p.m,p.m,p.s⟩) (ws:=[.int .i64 p.m]) (j:=3) aX hi (by show 3+1≤5; omega) rfl
 have hp2:(Q.set i ⟨p.id,p.x,p.m,p.m,p.s⟩)[i]? = some ⟨p.id,p.x,p.m,p.m,p.s⟩:=by rw[List.getElem?_set,if_pos rfl,if_pos hil]
 have NJ:((Q.set i ⟨p.id,p.x,p.m,p.m,p.s⟩).flatMap aW).length=Q.length*5:=by rw[aT aX,List.length_set]
 have lu:=ck (p':=dZ p) (ws:=[.int .i64 0]) (j:=4) aX hp2 (by show 4+1≤5; omega) rfl
 rw[List.set_set] at lu
 have jT:bo≠h.nx+1:=by rintro rfl; rw[g3] at k4; exact aO k4
 simp(disch:=first|omega|simp only[Wd]<;>omega|with_unfolding_all rfl)only[Wz,cG,bA,k4,r2,rL,lu,g3]
 refine fF hs hm _ _ (QV.blk (by show bo<h2.nx+1; omega) ((T.aj _ _ (fun e=>jT e.symm)).trans (T.aa _ _ _)) (by rw[List.length_set])) ?_
 exact ((((aH.trans bu).trans aZ).new _).set (b:=bo) (by omega) _).set (b:=h.nx+1) (by omega) _
end Go.Proofs
