/-
  PROVED HERE: a part of the proof (K37, K38, K39, K40).
-/
import Derived.Test.YtijmemedhkgplaaGreatDoorKE
import Derived.Test.YtijmemedhkgplaaGreatDoorV3
set_option linter.unusedVariables false
set_option linter.unusedSimpArgs false
set_option maxRecDepth 100000
namespace Go.Proofs
open Go.Vai Go.Clashes
theorem agy (h:Heap) (a b c d e a' b' c' d' e':Int):lP Tryz.prog h 100 54 (.agg ⟨[.int .i64 a,.int .i64 b,.int .i64 c,.int .i64 d,.int .i64 e]⟩) (.agg ⟨[.int .i64 a',.int .i64 b',.int .i64 c',.int .i64 d',.int .i64 e']⟩) =
  (match (some (jI a a')) with | some true=>(match some (jI b b') with | some true=>(match some (jI c c') with | some true=>(match some (jI d d') with | some true=>(match some (jI e e') with | some true=>some true | r=>r) | r=>r) | r=>r) | r=>r) | r=>r):=by kernel_rfl
theorem eqR (h:Heap) (a b c d e:Int):lP Tryz.prog h 100 54 (.agg ⟨[.int .i64 a,.int .i64 b,.int .i64 c,.int .i64 d,.int .i64 e]⟩) (.agg ⟨[.int .i64 a,.int .i64 b,.int .i64 c,.int .i64 d,.int .i64 e]⟩)=some true:=by
 rw[agy]; simp only[ff,decide_true]
theorem Jd {β:Type} {fl:β} (cn:Bool) (a b c d e:Int) (h:Heap) (κ:Value→Heap→β):av fl Tryz.prog .neq 54 cn false (.agg ⟨[.int .i64 a,.int .i64 b,.int .i64 c,.int .i64 d,.int .i64 e]⟩) (.agg ⟨[.int .i64 a,.int .i64 b,.int .i64 c,.int .i64 d,.int .i64 e]⟩) h κ=κ (.bool false) h:=by
 simp only[av,eqR,cq,Bool.not_true]
theorem Rs {β:Type} {fl:β} (cn:Bool) (a b c d:Int) (h:Heap) (κ:Value→Heap→β):av fl Tryz.prog .neq 24 cn false (.agg ⟨[.int .i64 a,.int .i64 b]⟩) (.agg ⟨[.int .i64 c,.int .i64 d]⟩) h κ=κ (.bool (!decide (a=c∧b=d))) h:=by
 have:=eqN h a b c d
 unfold dz at this
 simp only[av,this,cq]
theorem EL {β:Type} {fl:β} (cn:Bool) (a b:Int) (h:Heap) (κ:Value→Heap→β):av fl Tryz.prog .neq 24 cn false (.agg ⟨[.int .i64 a,.int .i64 b]⟩) (.agg ⟨[.int .i64 a,.int .i64 b]⟩) h κ=κ (.bool false) h:=by
 rw[Rs]; simp
theorem sP {β:Type} {fl:β} (cn:Bool) (a b c d:Int) (h:Heap) (κ:Value→Heap→β):av fl Tryz.prog .eql 24 cn false (.agg ⟨[.int .i64 a,.int .i64 b]⟩) (.agg ⟨[.int .i64 c,.int .i64 d]⟩) h κ=κ (.bool (decide (a=c∧b=d))) h:=by
 have:=eqN h a b c d
 unfold dz at this
 simp only[av,this,cq]
theorem Rt (Q:List R5) (v1 v2:Value) (h:Heap) (κ:KQ) (h1:Sl aW h v1 Q) (h2:Sl aW h v2 Q) (hl:Q.length≤1000) (hk:κ (.bool true) h):CallW Tryz.prog 18 [v1,v2] h κ:=by
 obtain ⟨x1,c1,e1,_⟩:=(show Sl aW h v1 Q from h1)
 obtain ⟨x2,c2,e2,_⟩:=(show Sl aW h v2 Q from h2)
 refine aq mixed ?_
 rw[Zj]
 rw[e1,e2]
 simp(disch:=first|omega|simp only[Wd]<;>omega|with_unfolding_all rfl)only[Wz]
 refine ⟨fun m l h'=>∃i:Nat,slot l 16=.int .i64 (i:Int)∧m=Q.length-i∧i≤Q.length∧HQ h h',⟨_,0,rfl,rfl,by omega,rfl⟩,?_⟩
 rintro m l h' ⟨i,s1,rfl,hi,hq⟩
 cases (show h=h' from hq)
 by_cases hlt:i<Q.length
 ·obtain ⟨p,hp⟩:∃p,Q[i]? = some p:=⟨_,List.getElem?_eq_getElem hlt⟩
  obtain ⟨b1,o1,_,hx1,Cf,_⟩:=tf h1 i hp
  obtain ⟨b2,o2,_,hx2,Cg,_⟩:=tf h2 i hp
  rw[e1] at hx1
  rw[e2] at hx2
  simp(disch:=first|omega|simp only[Wd]<;>omega|with_unfolding_all rfl)only[Wz,s1,bZ (show (i:Int)<(Q.length:Int) by omega),HZ,hx1,Cf,hx2,Cg,aW,Jd]
  exact ⟨_,by omega,i+1,rfl,rfl,by omega,rfl⟩
 ·simp(disch:=first|omega|simp only[Wd]<;>omega|with_unfolding_all rfl)only[Wz,s1,bL (show (Q.length:Int)≤(i:Int) by omega)]
  exact hk
theorem ldH {h:Heap} {v:Value} {K:List HE} (hs:Sl eX h v K) (i:Nat) {e:HE} (hp:K[i]? = some e) :
  ∃b o,b<h.nx∧(∀(β:Type) (fl:β) (h':Heap) (κ:Value→Heap→β),an fl 4 v (.int .i64 (i:Int)) h' κ=κ (.pointer (some ⟨b,o,none⟩)) h')∧
   ((∀(β:Type) (fl:β) (κ:List Value→β),vm fl (h.bl.get b) o 2 κ=κ [.int .i64 e.t,.int .i64 e.r])∧
   (∀(β:Type) (fl:β) (κ:List Value→β),vm fl (h.bl.get b) o 4 κ=κ (eX e))∧
   (∀(β:Type) (fl:β) (κ:Value→β),qM fl (h.bl.get b) (o+2) κ=κ (PI e.q))∧
   (∀(β:Type) (fl:β) (κ:Value→β),qM fl (h.bl.get b) (o+3) κ=κ (.int .i64 e.w))):=by
 obtain ⟨b,o,h1,h2,h3,hh⟩:=hs.ld b6 i hp
 refine ⟨b,o,h1,h2,?_,?_,?_,?_⟩
 ·intro β fl κ
  have:=hh.sub 0 2 (by show 0+2≤4; omega)
  rw[Nat.add_zero] at this
  exact jG this 2 κ rfl
 ·intro β fl κ; exact jG hh 4 κ rfl
 ·intro β fl κ; exact dD (fl:=fl) hh 2 κ (by show 2<4; omega)
 ·intro β fl κ; exact dD (fl:=fl) hh 3 κ (by show 3<4; omega)
theorem Ru (K1 K2:List HE) (v1 v2:Value) (h:Heap) (κ:KQ) (h1:Sl eX h v1 K1) (h2:Sl eX h v2 K2) (hl:K1.length≤1000000) (P8:K2.length=K1.length)
  (hs:∀(i:Nat) (a b:HE),K1[i]? = some a→K2[i]? = some b→nw a b∧Sl aW h a.q a.Q∧Sl aW h b.q b.Q∧a.Q.length≤1000) (hk:κ (.bool true) h):CallW Tryz.prog 20 [v1,v2] h κ:=by
 obtain ⟨x1,c1,e1,_⟩:=(show Sl eX h v1 K1 from h1)
 obtain ⟨x2,c2,e2,_⟩:=(show Sl eX h v2 K2 from h2)
 refine aq mixed ?_
 rw[Zq]
 rw[e1,e2]
 simp(disch:=first|omega|simp only[Wd]<;>omega|with_unfolding_all rfl)only[Wz,P8]
 refine ⟨fun m l h'=>∃i:Nat,slot l 45=.int .i64 (i:Int)∧m=K1.length-i∧i≤K1.length∧HQ h h',⟨_,0,rfl,rfl,by omega,rfl⟩,?_⟩
 rintro m l h' ⟨i,s1,rfl,hi,hq⟩
 cases (show h=h' from hq)
 by_cases hlt:i<K1.length
 ·obtain ⟨p,hp⟩:∃p,K1[i]? = some p:=⟨_,List.getElem?_eq_getElem hlt⟩
  obtain ⟨q,hq⟩:∃p,K2[i]? = some p:=⟨_,List.getElem?_eq_getElem (by omega)⟩
  obtain ⟨⟨ht,hr,hw,hQ⟩,hs1,hs2,vo⟩:=hs i p q hp hq
  obtain ⟨b1,o1,_,hx1,wK,_,hq1,hw1⟩:=ldH h1 i hp
  obtain ⟨b2,o2,_,hx2,hn2,_,i_,hw2⟩:=ldH h2 i hq
  rw[e1] at hx1
  rw[e2,P8] at hx2
  rw[nV hs1] at hq1
  rw[nV hs2] at i_
  rw[←ht,←hr] at hn2
  rw[←hw] at hw2
  simp(disch:=first|omega|simp only[Wd]<;>omega|with_unfolding_all rfl)only[Wz,s1,bZ (show (i:Int)<(K1.length:Int) by omega),H8,hx1,wK,hx2,hn2,EL,hw1,hw2,hq1,i_]
  refine Rt p.Q p.q q.q h _ hs1 (by rw[hQ]; exact hs2) vo ?_
  simp(disch:=first|omega|simp only[Wd]<;>omega|with_unfolding_all rfl)only[Wz,s1]
  exact ⟨_,by omega,i+1,rfl,rfl,by omega,rfl⟩
 ·simp(disch:=first|omega|simp only[Wd]<;>omega|with_unfolding_all rfl)only[Wz,s1,bL (show (K1.length:Int)≤(i:Int) by omega)]
  exact hk
theorem memNo (W:World):∀c vs t,(memH W).bl.get c≠some (af vs t true):=by
 intro c vs t h
 obtain ⟨C,e,fz,_,h2⟩:=tP h
 unfold af at h2
 cases h2
theorem KV (Q:List R5) (a:R5):∀i,i≤Q.length→best (Q++[a]) i=best Q i:=by
 intro i
 induction i with
 | zero=>intro _; rfl
 | succ i ih=>
  intro hi
  have e1:(Q++[a])[i]? = Q[i]?:=List.getElem?_append_left (by omega)
  unfold best
  rw[e1,ih (by omega)]
  split
  ·rename_i r hr
   have e2:iC (Q++[a]) r (best Q i)=iC Q r (best Q i):=by
    unfold iC
    split
    ·rfl
    ·rename_i b hb
     have:=(jH Q i b hb).1
     rw[List.getElem?_append_left (by omega)]
   rw[e2]
  ·rfl
theorem uh {Q:List R5} {a r:R5} (h:cI Q r=false):cI (Q++[a]) r=false:=by
 unfold cI at *
 rw[List.any_append]
 simp only[Bool.not_eq_false'] at h ⊢
 rw[h]; rfl
theorem Ak {Q:List R5} {W:Int} (v:VQ Q W) (hs:fG Q) {id x m:Int} (hm:br m=true):fG (Q++[(cv Q W id x m).1]):=by
 obtain ⟨m0,_⟩:=(jx m).1 hm
 have hup:ku (cv Q W id x m).1=false:=by
  unfold cv ku
  split<;>simp
 have hb:best (Q++[(cv Q W id x m).1]) (Q++[(cv Q W id x m).1]).length=best Q Q.length:=by
  rw[List.length_append,List.length_singleton,←KV Q (cv Q W id x m).1 _ (Nat.le_refl _)]
  generalize hA:best (Q++[(cv Q W id x m).1]) Q.length=B
  unfold best
  rw[List.getElem?_append_right (Nat.le_refl _),Nat.sub_self,List.getElem?_cons_zero]
  simp only[hup,Bool.false_and,hA]
  rfl
 intro i r hf hr
 unfold bX at hf
 rw[hb] at hf
 cases Al:best Q Q.length with
 | some b=>
  rw[Al] at hf
  have hbi:b=i:=Option.some.inj hf
  subst hbi
  have hlt:=(jH Q _ b Al).1
  rw[List.getElem?_append_left hlt] at hr
  exact uh (hs b r (by unfold bX; rw[Al]) hr)
 | none=>
  rw[Al] at hf
  simp only at hf
  rw[List.findIdx?_append] at hf
  cases T4:Q.findIdx? (fun r=>decide (r.m=0)) with
  | some j=>
   rw[T4] at hf
   simp at hf
   subst hf
   have hlt:j<Q.length:=by
    have:=List.findIdx?_eq_some_iff_getElem.1 T4
    exact this.1
   rw[List.getElem?_append_left hlt] at hr
   exact uh (hs j r (by unfold bX; rw[Al]; exact T4) hr)
  | none=>
   rw[T4] at hf
   have gR:bX Q=none:=by unfold bX; rw[Al]; exact T4
   by_cases hg:(decide (bX Q=none) && cI Q ⟨id,x,0,m,0⟩)=true
   ·have ha:(cv Q W id x m).1=⟨id,x,m,m,0⟩:=by unfold cv; rw[if_pos hg]
    rw[ha] at hf
    simp[m0] at hf
   ·have ha:(cv Q W id x m).1=⟨id,x,0,m,W+1⟩:=by unfold cv; rw[if_neg hg]
    rw[ha] at hf hr ⊢
    simp at hf
    subst hf
    rw[List.getElem?_append_right (Nat.le_refl _),Nat.sub_self,List.getElem?_cons_zero] at hr
    cases hr
    refine uh ?_
    rw[gR] at hg
    have:cI Q ⟨id,x,0,m,0⟩=false:=by simpa using hg
    exact this
theorem OD {β:Type} {fl:β} (cn:Bool) (a b:Int) (h:Heap) (κ:Value→Heap→β):av fl Tryz.prog .eql 24 cn false (.agg ⟨[.int .i64 a,.int .i64 b]⟩) (.agg ⟨[.int .i64 a,.int .i64 b]⟩) h κ=κ (.bool true) h:=by
 rw[sP]; simp
theorem yB {β:Type} {fl:β} (cn:Bool) (a b:Bool) (h:Heap) (κ:Value→Heap→β):av fl Tryz.prog .eql 4 cn false (.bool a) (.bool b) h κ=κ (.bool (decide (a=b))) h:=by
 have und:Tryz.prog.underlying 4=some .bool:=by kernel_rfl
 have e1:lP Tryz.prog h 100 4 (.bool a) (.bool b)=some (decide (a=b)):=by
  unfold lP
  simp only[und]
  cases a<;>cases b<;>exact id rfl
 simp only[av,e1,cq]
theorem KW:∀{L1 L2:List (Int × Int)},L1.Perm L2→L1.Pairwise fH→L2.Pairwise fH→L1=L2:=by
 intro L1
 induction L1 with
 | nil=>intro L2 h _ _; exact (List.nil_perm.1 h).symm
 | cons a L1 ih=>
  intro L2 h h1 h2
  cases L2 with
  | nil=>exact absurd h.length_eq (by simp)
  | cons b L2=>
   rw[List.pairwise_cons] at h1 h2
   by_cases hab:a=b
   ·subst hab
    rw[ih (List.Perm.cons_inv h) h1.2 h2.2]
   ·exfalso
    have ha:a∈L2:=by
     rcases List.mem_cons.1 (h.mem_iff.1 (.head _)) with e | e
     ·exact absurd e hab
     ·exact e
    have hb:b∈L1:=by
     rcases List.mem_cons.1 (h.mem_iff.2 (.head _)) with e | e
     ·exact absurd e.symm hab
     ·exact e
    have:=jy (h2.1 a ha) (h1.1 b hb)
    unfold fH at this
    omega
end Go.Proofs
