/-
  PROVED HERE: a part of the proof (K42, K43, K44).
-/
import Derived.Test.YtijmemedhkgplaaGreatDoorKE
import Derived.Test.YtijmemedhkgplaaGreatDoorKF
set_option linter.unusedVariables false
set_option linter.unusedSimpArgs false
set_option maxRecDepth 100000
namespace Go.Proofs
open Go.Vai Go.Clashes
theorem agh:∀i,i<7→∀j,j<7→bK Tryz.prog 200 24 [.int .i64 (.ofNat i),.int .i64 (.ofNat j)] (.bool (cmp (.ofNat i) (.ofNat j)))=true:=by decide +kernel
theorem agi (n:Nat) (b:Int):bK Tryz.prog 200 24 [.int .i64 (.negSucc n),.int .i64 b] (.bool false)=true:=by kernel_rfl
theorem agj (n:Nat) (b:Int):bK Tryz.prog 200 24 [.int .i64 (.ofNat (n+7)),.int .i64 b] (.bool false)=true:=by kernel_rfl
theorem agk:∀i,i<7→∀n:Nat,bK Tryz.prog 200 24 [.int .i64 (.ofNat i),.int .i64 (.negSucc n)] (.bool false)=true:=by
 refine seven ?_ ?_ ?_ ?_ ?_ ?_ ?_<;>intro n<;>kernel_rfl
theorem agl:∀i,i<7→∀n:Nat,bK Tryz.prog 200 24 [.int .i64 (.ofNat i),.int .i64 (.ofNat (n+7))] (.bool false)=true:=by
 refine seven ?_ ?_ ?_ ?_ ?_ ?_ ?_<;>intro n<;>kernel_rfl
theorem KK (a b:Int) {h:Heap} {κ:Value→Heap→Prop} (hk:κ (.bool (cmp a b)) h):CallW Tryz.prog 24 [.int .i64 a,.int .i64 b] h κ:=
 qm mixed (F:=fun a b=>.bool (cmp a b)) agh (fun n b=>by rw[Di (oZ n)]; exact agi n b) (fun n b=>by rw[Di (o9 n)]; exact agj n b) (fun i hi n=>by rw[HJ (oZ n)]; exact agk i hi n) (fun i hi n=>by rw[HJ (o9 n)]; exact agl i hi n) a b hk
theorem sK (r:R5) {h:Heap} {κ:Value→Heap→Prop} (hk:κ (.bool (decide (r.m≠0))) h):CallW Tryz.prog 68 [ji r] h κ:=by
 refine fo (v:=.bool (decide (r.m≠0))) rfl rfl (aq mixed ?_) hk
 rw[Z7]
 simp(disch:=first|omega|simp only[Wd]<;>omega|with_unfolding_all rfl)only[Wz,aW]
 simp
theorem sL (r:R5) {h:Heap} {κ:Value→Heap→Prop} (hk:κ (.bool (decide (0<r.s))) h):CallW Tryz.prog 67 [ji r] h κ:=by
 refine fo (v:=.bool (decide (0<r.s))) rfl rfl (aq mixed ?_) hk
 rw[Z6]
 simp(disch:=first|omega|simp only[Wd]<;>omega|with_unfolding_all rfl)only[Wz,aW]
theorem Oj (t r':Int) (q:Value) (w:Int) (Q:List R5) (h:Heap) (κ:KQ) (hq:Sl aW h q Q) (hlen:Q.length≤1000000) (hlo:h.lo≤h.nx) (hk:∀h',Le h h'→κ (.int .i64 (dy (best Q Q.length))) h') :
  CallW Tryz.prog 63 [cG t r' q w] h κ:=by
 obtain ⟨hc,ho⟩:=jS hq
 refine aq mixed ?_
 rw[Z3]
 simp(disch:=first|omega|simp only[Wd]<;>omega|with_unfolding_all rfl)only[Wz,cG]
 obtain ⟨hA,az⟩:∃hA:Heap,hA=⟨h.nx+1,(h.bl.bf (h.nx) (af [.int .i64 t,.int .i64 r',q,.int .i64 w] 51 false)),h.lo⟩:=⟨_,rfl⟩
 have aH:Le h hA:=by subst az; exact ((Le.refl h).new _)
 have gA:hA.bl.get (h.nx)=some (af [.int .i64 t,.int .i64 r',q,.int .i64 w] 51 false):=by subst az; exact T.aa _ _ _
 have dF:hA.nx=h.nx+1:=by subst az; rfl
 have dG:hA.lo=h.lo:=by subst az; rfl
 rw[←az]
 clear az
 refine ⟨fun n l h1=>∃i:Nat,slot l 36=.int .i64 (i:Int)∧slot l 33=.int .i64 (dy (best Q i))∧i≤Q.length∧n=Q.length-i∧Le hA h1,⟨_,0,rfl,rfl,Nat.zero_le _,rfl,Le.refl _⟩,?_⟩
 rintro n l h1 ⟨i,s1,s2,hi,rfl,hle⟩
 have n1:=hle.nx
 have l1:=hle.lo
 have g1:=(hle.get h.nx (by omega)).trans gA
 have hq1:=hq.le (aH.trans hle)
 by_cases hlt:i<Q.length
 ·obtain ⟨p,hp⟩:∃p,Q[i]? = some p:=⟨_,List.getElem?_eq_getElem hlt⟩
  obtain ⟨b,o,hb,dM,dg⟩:=tf hq1 i hp
  have qO:best Q (i+1)=if (ku p && iC Q p (best Q i))=true then some i else best Q i:=by
   show (match Q[i]? with | some r=>_ | none=>_)=_
   rw[hp]
  simp(disch:=first|omega|simp only[Wd]<;>omega|with_unfolding_all rfl)only[Wz,BC,s1,g1,hq1.len]
  refine ⟨fun l' h'=>slot l' 28=.int .i64 (dy (best Q (i+1)))∧Le hA h',?_,?_⟩
  ·simp(disch:=first|omega|simp only[Wd]<;>omega|with_unfolding_all rfl)only[Wz,IF,s1,s2,g1,dM,dg,aW]
   obtain ⟨hB,eB⟩:∃hB:Heap,hB=⟨h1.nx+1,h1.bl.bf h1.nx (fq p),h1.lo⟩:=⟨_,rfl⟩
   have nT:Le h1 hB:=by subst eB; exact (Le.refl h1).new _
   have gB:hB.bl.get h1.nx=some (fq p):=by subst eB; exact T.aa _ _ _
   have gB1:=(nT.get h.nx (by omega)).trans g1
   have nB:hB.nx=h1.nx+1:=by subst eB; rfl
   have lB:hB.lo=h1.lo:=by subst eB; rfl
   rw[←eB]
   clear eB
   refine sK p ?_
   by_cases hm:p.m=0
   ·simp(disch:=first|omega|simp only[Wd]<;>omega|with_unfolding_all rfl)only[Wz,aK (show ¬p.m≠0 by omega),s2]
    refine ⟨?_,hle.trans nT⟩
    rw[qO,show ku p=false by simp[ku,hm]]; simp
   ·simp(disch:=first|omega|simp only[Wd]<;>omega|with_unfolding_all rfl)only[Wz,aM (show p.m≠0 from hm),gB]
    refine sL p ?_
    by_cases hs0:0<p.s
    ·have hu:ku p=true:=(mg p).2 ⟨hm,hs0⟩
     cases ni:best Q i with
     | none=>
      simp(disch:=first|omega|simp only[Wd]<;>omega|with_unfolding_all rfl)only[Wz,aM hs0,s2,dy,bZ (show (-1:Int)<0 by decide),ni]
      refine ⟨?_,hle.trans nT⟩
      rw[qO,hu,ni]; rfl
     | some k=>
      obtain ⟨PB,pk,hpk,_⟩:=jH Q i k ni
      obtain ⟨b',o',hb',Nz,NA⟩:=tf (hq1.le nT) k hpk
      have Ek:iC Q p (some k)=decide (p.s<pk.s):=by simp only[iC,hpk]
      simp(disch:=first|omega|simp only[Wd]<;>omega|with_unfolding_all rfl)only[Wz,aM hs0,s2,dy,bL (show (0:Int)≤(k:Int) by omega),ni,gB,gB1,Nz,NA]
      by_cases hs:p.s<pk.s
      ·simp(disch:=first|omega|simp only[Wd]<;>omega|with_unfolding_all rfl)only[Wz,aM hs]
       refine ⟨?_,hle.trans nT⟩
       rw[qO,hu,ni,Ek,aM hs]; rfl
      ·simp(disch:=first|omega|simp only[Wd]<;>omega|with_unfolding_all rfl)only[Wz,aK hs]
       refine ⟨?_,hle.trans nT⟩
       rw[qO,hu,ni,Ek,aK hs]
       first | rfl | (rw[s2,ni]; rfl)
    ·simp(disch:=first|omega|simp only[Wd]<;>omega|with_unfolding_all rfl)only[Wz,aK hs0,s2]
     refine ⟨?_,hle.trans nT⟩
     rw[qO,show ku p=false by simp[ku,hs0]]; simp
  ·rintro l' h' ⟨k1,k2⟩
   exact ⟨_,by omega,i+1,rfl,k1,by omega,rfl,k2⟩
 ·have hil:i=Q.length:=by omega
  subst hil
  simp(disch:=first|omega|simp only[Wd]<;>omega|with_unfolding_all rfl)only[Wz,BC,s1,s2,g1,hq1.len]
  exact hk h1 (aH.trans hle)
theorem jA {Q:List R5} {F:R5→Bool} {i:Nat} {p:R5} (hp:Q[i]? = some p) (hF:F p=true) (hn:∀(j:Nat) (q:R5),j<i→Q[j]? = some q→F q=false):Q.findIdx? F=some i:=by
 rcases iJ Q F with ⟨e,h⟩ | ⟨k,q,e,hq,h1,h2⟩
 ·have:=h p (List.mem_of_getElem? hp)
  rw[hF] at this; cases this
 ·rw[e]
  rcases Nat.lt_trichotomy k i with h3 | h3 | h3
  ·have:=hn k q h3 hq; rw[h1] at this; cases this
  ·rw[h3]
  ·have:=h2 i p h3 hp; rw[hF] at this; cases this
theorem Ja {Q:List R5} {F:R5→Bool} (hn:∀(j:Nat) (q:R5),j<Q.length→Q[j]? = some q→F q=false):Q.findIdx? F=none:=by
 rcases iJ Q F with ⟨e,h⟩ | ⟨k,q,e,hq,h1,h2⟩
 ·exact e
 ·have:=hn k q (List.getElem?_eq_some_iff.1 hq).1 hq
  rw[h1] at this; cases this
theorem yw (t r':Int) (q:Value) (w:Int) (Q:List R5) (h:Heap) (κ:KQ) (hq:Sl aW h q Q) (hlen:Q.length≤1000000) (hlo:h.lo≤h.nx) (hk:∀h',Le h h'→κ (.int .i64 (dy (Q.findIdx? fun r=>decide (r.m=0)))) h') :
  CallW Tryz.prog 64 [cG t r' q w] h κ:=by
 obtain ⟨hc,ho⟩:=jS hq
 refine aq mixed ?_
 rw[Z4]
 simp(disch:=first|omega|simp only[Wd]<;>omega|with_unfolding_all rfl)only[Wz,cG]
 obtain ⟨hA,az⟩:∃hA:Heap,hA=⟨h.nx+1,(h.bl.bf (h.nx) (af [.int .i64 t,.int .i64 r',q,.int .i64 w] 51 false)),h.lo⟩:=⟨_,rfl⟩
 have aH:Le h hA:=by subst az; exact ((Le.refl h).new _)
 have gA:hA.bl.get (h.nx)=some (af [.int .i64 t,.int .i64 r',q,.int .i64 w] 51 false):=by subst az; exact T.aa _ _ _
 have dF:hA.nx=h.nx+1:=by subst az; rfl
 have dG:hA.lo=h.lo:=by subst az; rfl
 rw[←az]
 clear az
 have oB:=hq.le aH
 refine ⟨fun n l h1=>∃i:Nat,slot l 16=.int .i64 (i:Int)∧(∀(j:Nat) (p:R5),j<i→Q[j]? = some p→decide (p.m=0)=false)∧i≤Q.length∧n=Q.length-i∧HQ hA h1,⟨_,0,rfl,fun j p h=>(by omega),Nat.zero_le _,rfl,rfl⟩,?_⟩
 rintro n l h1 ⟨i,s1,hn,hi,rfl,hle⟩
 cases (show hA=h1 from hle)
 by_cases hlt:i<Q.length
 ·obtain ⟨p,hp⟩:∃p,Q[i]? = some p:=⟨_,List.getElem?_eq_getElem hlt⟩
  obtain ⟨b,o,hb,dM,dg⟩:=tf oB i hp
  simp(disch:=first|omega|simp only[Wd]<;>omega|with_unfolding_all rfl)only[Wz,BD,s1,gA,oB.len,IG,dM,dg,aW]
  refine sK p ?_
  by_cases hm:p.m=0
  ·simp(disch:=first|omega|simp only[Wd]<;>omega|with_unfolding_all rfl)only[Wz,aK (show ¬p.m≠0 by omega)]
   have:=hk hA aH
   rw[jA hp (by simp[hm]) hn] at this
   exact this
  ·simp(disch:=first|omega|simp only[Wd]<;>omega|with_unfolding_all rfl)only[Wz,aM (show p.m≠0 from hm)]
   refine ⟨_,by omega,i+1,rfl,fun j q hj hq=>?_,by omega,rfl,rfl⟩
   by_cases hji:j=i
   ·subst hji; rw[hp] at hq; cases hq; simp[hm]
   ·exact hn j q (by omega) hq
 ·have hil:i=Q.length:=by omega
  subst hil
  simp(disch:=first|omega|simp only[Wd]<;>omega|with_unfolding_all rfl)only[Wz,BD,s1,gA,oB.len]
  have:=hk hA aH
  rw[Ja hn] at this
  exact this
def lG (Q:List R5) (m but:Int):Nat→Bool
 | 0=>true
 | n+1=>lG Q m but n && (match Q[n]? with | some p=>decide ((n:Int)=but) || decide (p.m=0) || cmp p.m m | none=>true)
theorem Ey {Q:List R5} {m but:Int} {n:Nat} (h:lG Q m but n=false):∀k,n≤k→lG Q m but k=false:=by
 intro k hk
 induction k with
 | zero=>have:n=0:=by omega
         subst this; exact h
 | succ k ih=>
  by_cases e:n=k+1
  ·subst e; exact h
  ·unfold lG; rw[ih (by omega)]; rfl
theorem uf {Q:List R5} {m but:Int}:∀n,lG Q m but n=true↔∀(j:Nat) (p:R5),j<n→Q[j]? = some p→(j:Int)≠but→p.m≠0→cmp p.m m=true:=by
 intro n
 induction n with
 | zero=>exact ⟨fun _ j p h=>(by omega),fun _=>rfl⟩
 | succ n ih=>
  unfold lG
  rw[Bool.and_eq_true,ih]
  constructor
  ·rintro ⟨h1,h2⟩ j p hj hp hb hm
   by_cases e:j=n
   ·subst e; rw[hp] at h2; simpa[hb,hm] using h2
   ·exact h1 j p (by omega) hp hb hm
  ·intro h
   refine ⟨fun j p hj hp hb hm=>h j p (by omega) hp hb hm,?_⟩
   split
   ·rename_i p hp
    by_cases hb:(n:Int)=but
    ·simp[hb]
    ·by_cases hm:p.m=0
     ·simp[hm]
     ·simp[h n p (by omega) hp hb hm]
   ·rfl
theorem Ol {Q:List R5} (hp:Q.Pairwise fV) {i:Nat} {r:R5} (hr:Q[i]? = some r):lG Q r.w i Q.length=cI Q r:=by
 rw[Bool.eq_iff_iff,uf,dQ]
 constructor
 ·intro h o ho h1 h2
  obtain ⟨j,hj⟩:=List.getElem?_of_mem ho
  refine h j o (List.getElem?_eq_some_iff.1 hj).1 hj (fun e=>h1 ?_) h2
  have:j=i:=by omega
  subst this; rw[hr] at hj; cases hj; rfl
 ·intro h j p hj To hb hm
  exact h p (List.mem_of_getElem? To) (fun e=>hb (by rw[mK hp To hr e])) hm
theorem BU (t r':Int) (q:Value) (w m but:Int) (Q:List R5) (h:Heap) (κ:KQ) (hq:Sl aW h q Q) (hlen:Q.length≤1000000) (hlo:h.lo≤h.nx) (hk:∀h',Le h h'→κ (.bool (lG Q m but Q.length)) h') :
  CallW Tryz.prog 65 [cG t r' q w,.int .i64 m,.int .i64 but] h κ:=by
 obtain ⟨hc,ho⟩:=jS hq
 refine aq mixed ?_
 rw[Z5]
 simp(disch:=first|omega|simp only[Wd]<;>omega|with_unfolding_all rfl)only[Wz,cG]
 obtain ⟨hA,az⟩:∃hA:Heap,hA=⟨h.nx+1,(h.bl.bf (h.nx) (af [.int .i64 t,.int .i64 r',q,.int .i64 w] 51 false)),h.lo⟩:=⟨_,rfl⟩
 have aH:Le h hA:=by subst az; exact ((Le.refl h).new _)
 have gA:hA.bl.get (h.nx)=some (af [.int .i64 t,.int .i64 r',q,.int .i64 w] 51 false):=by subst az; exact T.aa _ _ _
 have dF:hA.nx=h.nx+1:=by subst az; rfl
 have dG:hA.lo=h.lo:=by subst az; rfl
 rw[←az]
 clear az
 have oB:=hq.le aH
 have hk:=hk hA aH
 refine ⟨fun n l h1=>∃i:Nat,slot l 30=.int .i64 (i:Int)∧lG Q m but i=true∧i≤Q.length∧n=Q.length-i∧HQ hA h1,⟨_,0,rfl,rfl,Nat.zero_le _,rfl,rfl⟩,?_⟩
 rintro n l h1 ⟨i,s1,hn,hi,rfl,hle⟩
 cases (show hA=h1 from hle)
 by_cases hlt:i<Q.length
 ·obtain ⟨p,hp⟩:∃p,Q[i]? = some p:=⟨_,List.getElem?_eq_getElem hlt⟩
  obtain ⟨b,o,hb,dM,dg⟩:=tf oB i hp
  have Tp:lG Q m but (i+1)=(lG Q m but i && (decide ((i:Int)=but) || decide (p.m=0) || cmp p.m m)):=by
   show (lG Q m but i && (match Q[i]? with | some p=>_ | none=>_))=_
   rw[hp]
  have next:(decide ((i:Int)=but) || decide (p.m=0) || cmp p.m m)=true→lG Q m but (i+1)=true:=fun h=>by rw[Tp,hn,h]; rfl
  simp(disch:=first|omega|simp only[Wd]<;>omega|with_unfolding_all rfl)only[Wz,BF,s1,gA,oB.len]
  by_cases Rk:(i:Int)=but
  ·simp(disch:=first|omega|simp only[Wd]<;>omega|with_unfolding_all rfl)only[Wz,BE,s1,aM Rk]
   exact ⟨_,by omega,i+1,rfl,next (by simp[Rk]),by omega,rfl,rfl⟩
  ·simp(disch:=first|omega|simp only[Wd]<;>omega|with_unfolding_all rfl)only[Wz,BE,s1,aK Rk,gA,dM,dg,aW]
   refine sK p ?_
   by_cases hm:p.m=0
   ·simp(disch:=first|omega|simp only[Wd]<;>omega|with_unfolding_all rfl)only[Wz,aK (show ¬p.m≠0 by omega),s1]
    exact ⟨_,by omega,i+1,rfl,next (by simp[hm]),by omega,rfl,rfl⟩
   ·simp(disch:=first|omega|simp only[Wd]<;>omega|with_unfolding_all rfl)only[Wz,aM (show p.m≠0 from hm),gA,s1,dM,dg]
    refine KK _ _ ?_
    cases hcm:cmp p.m m with
    | true=>
     simp(disch:=first|omega|simp only[Wd]<;>omega|with_unfolding_all rfl)only[Wz,s1]
     exact ⟨_,by omega,i+1,rfl,next (by simp[hcm]),by omega,rfl,rfl⟩
    | false=>
     simp(disch:=first|omega|simp only[Wd]<;>omega|with_unfolding_all rfl)only[Wz]
     rw[Ey (n:=i+1) (by rw[Tp,hcm]; simp[Rk,hm]) Q.length (by omega)] at hk
     exact hk
 ·have hil:i=Q.length:=by omega
  subst hil
  simp(disch:=first|omega|simp only[Wd]<;>omega|with_unfolding_all rfl)only[Wz,BF,s1,gA,oB.len]
  rw[hn] at hk
  exact hk
theorem qs {zs:List Value} (κ:List Value→Prop):bC False [] [] (aY zs 0) κ=κ []:=id rfl
theorem kK (t r:Int) (q:Value) (w:Int) (Q:List R5) (h:Heap) (κ:KQ) (hq:Sl aW h q Q) (hlen:Q.length≤100000) (hlo:h.lo≤h.nx) (hk:∀q' h',iK h h' q' Q→Le h h'→κ (cG t r q' w) h') :
  CallW Tryz.prog 62 [cG t r q w] h κ:=by
 obtain ⟨qx,qc,rfl,_⟩:=id hq
 refine aq mixed ?_
 rw[Z2]
 simp(disch:=first|omega|simp only[Wd]<;>omega|with_unfolding_all rfl)only[Wz,cG,qs]
 obtain ⟨hA,az⟩:∃hA:Heap,hA=⟨h.nx+1+1+1,(((h.bl.bf (h.nx) (af [.int .i64 t,.int .i64 r,.slice qx Q.length qc,.int .i64 w] 51 false)).bf (h.nx+1) (af [.int .i64 0,.int .i64 0,.slice none 0 0,.int .i64 0] 51 false)).bf (h.nx+1+1) (af [] 54 false)),h.lo⟩:=⟨_,rfl⟩
 have aH:Le h hA:=by subst az; exact ((((Le.refl h).new _).new _).new _)
 have g1:hA.bl.get (h.nx)=some (af [.int .i64 t,.int .i64 r,.slice qx Q.length qc,.int .i64 w] 51 false):=by subst az; exact (T.aj _ _ (by omega)).trans ((T.aj _ _ (by omega)).trans (T.aa _ _ _))
 have g3:hA.bl.get (h.nx+1)=some (af [.int .i64 0,.int .i64 0,.slice none 0 0,.int .i64 0] 51 false):=by subst az; exact (T.aj _ _ (by omega)).trans (T.aa _ _ _)
 have g5:hA.bl.get (h.nx+1+1)=some (af [] 54 false):=by subst az; exact T.aa _ _ _
 have dF:hA.nx=h.nx+1+1+1:=by subst az; rfl
 have dG:hA.lo=h.lo:=by subst az; rfl
 rw[←az]
 clear az
 refine cT (enc:=aW) (a:=h) (L:=[]) (M:=Q) aX jR (by decide) (by decide) (.inl ⟨rfl,.inr ⟨_,_,rfl⟩⟩) (hq.le aH) aH (by simp; omega) (by omega) _ ?_
 intro v' h' ho' hle' _ hn2 hl' hsame
 have g1:=(hsame h.nx (by omega) (by rw[g1]; exact aO)).trans g1
 have g3:=(hsame (h.nx+1) (by omega) (by rw[g3]; exact aO)).trans g3
 rw[List.nil_append] at ho'
 obtain ⟨Tc,Td,rfl,_⟩:=id ho'.sl
 simp(disch:=first|omega|simp only[Wd]<;>omega|with_unfolding_all rfl)only[Wz,g1]
 simp(disch:=first|omega|simp only[Wd]<;>omega|with_unfolding_all rfl)only[Wz,g3]
 refine hk _ _ ?_ ?_
 ·refine cU.put (cU.put ho' (by rw[g1]; exact aO) _) ?_ _
  show (h'.bl.bf h.nx _).get (h.nx+1)≠_
  rw[T.aj _ _ (by omega),g3]; exact aO
 ·exact (hle'.set (b:=h.nx) (by omega) _).set (b:=h.nx+1) (by omega) _
theorem ic {Q:List R5}:bX Q=(match best Q Q.length with | some b=>some b | none=>Q.findIdx? (fun r=>decide (r.m=0))):=rfl
def zq (K:List HE):Nat:=(K.map fun e=>e.Q.length).sum
theorem OE (M:List HE):(eT M).length=zq M:=by
 unfold eT zq
 rw[List.length_flatMap]
 congr 1
 exact List.map_congr_left fun e _=>by simp
theorem KX {h:Heap} {v:Value} {K:List HE} (hs:Sl eX h v K) (i:Nat) {e:HE} (hp:K[i]? = some e) (hq:PI e.q=e.q) :
  ∃b o,b<h.nx∧(∀(β:Type) (fl:β) (h':Heap) (κ:Value→Heap→β),an fl 4 v (.int .i64 (i:Int)) h' κ=κ (.pointer (some ⟨b,o,none⟩)) h')∧
   ∀h',Le h h'→((∀(β:Type) (fl:β) (κ:List Value→β),vm fl (h'.bl.get b) o 2 κ=κ [.int .i64 e.t,.int .i64 e.r])∧
   (∀(β:Type) (fl:β) (κ:List Value→β),vm fl (h'.bl.get b) o 4 κ=κ [.int .i64 e.t,.int .i64 e.r,e.q,.int .i64 e.w])∧
   (∀(β:Type) (fl:β) (κ:Value→β),qM fl (h'.bl.get b) o κ=κ (.int .i64 e.t))∧
   (∀(β:Type) (fl:β) (κ:Value→β),qM fl (h'.bl.get b) (o+1) κ=κ (.int .i64 e.r))∧
   (∀(β:Type) (fl:β) (κ:Value→β),qM fl (h'.bl.get b) (o+2) κ=κ e.q)∧
   (∀(β:Type) (fl:β) (κ:Value→β),qM fl (h'.bl.get b) (o+3) κ=κ (.int .i64 e.w))):=by
 obtain ⟨b,o,h1,h2,h3,hh⟩:=hs.ld b6 i hp
 refine ⟨b,o,h1,h2,fun h' l=>?_⟩
 rw[l.get b h1]
 refine ⟨fun β fl κ=>?_,fun β fl κ=>?_,fun β fl κ=>?_,fun β fl κ=>?_,fun β fl κ=>?_,fun β fl κ=>?_⟩
 ·have:=hh.sub 0 2 (by show 0+2≤4; omega)
  rw[Nat.add_zero] at this
  exact jG this 2 κ rfl
 ·rw[jG hh 4 κ rfl]; unfold eX; rw[hq]
 ·exact dD (fl:=fl) hh 0 κ (by show 0<4; omega)
 ·exact dD (fl:=fl) hh 1 κ (by show 1<4; omega)
 ·rw[dD (fl:=fl) hh 2 κ (by show 2<4; omega)]; show κ (PI e.q)=_; rw[hq]
 ·exact dD (fl:=fl) hh 3 κ (by show 3<4; omega)
end Go.Proofs
