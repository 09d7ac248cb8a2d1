/-
  PROVED HERE: a part of the proof (K15, K16, K17, K18, K19, K20, K21, K22, K23, K24, K25, K26).
-/
import Derived.Test.YtmjghbjpdoeemaaGreatDoorKB
set_option linter.unusedVariables false
set_option linter.unusedSimpArgs false
set_option maxRecDepth 100000
namespace Go.Proofs
open Go.Vai Go.Clashes
structure HE where
 t:Int
 r:Int
 hb:Nat
 born:Nat
 q:Value
 w:Int
 Q:List R5
def jw (e:HE):MapEntry:={ key:=dK e.t e.r,val:=.pointer (some ⟨e.hb,0,none⟩),born:=e.born }
def qM (t r:Int) (e:HE):Bool:=decide (t=e.t∧r=e.r)
theorem nV {t r:Int} {x:HE}:(!qM t r x)=true↔¬(t=x.t∧r=x.r):=by unfold qM; rw[Bool.not_eq_true',decide_eq_false_iff_not]
structure eE (M:List HE) (clock:Nat):Prop where
 nm:M.Pairwise fun a b=>¬(a.t=b.t∧a.r=b.r)
 bn:M.Pairwise fun a b=>a.born≠b.born
 lt:∀e∈M,e.born<clock
theorem ZY (h:Heap) (a b c d:Int):kV Tryz.prog h 100 36 (.agg ⟨[.int .i64 a,.int .i64 b]⟩) (.agg ⟨[.int .i64 c,.int .i64 d]⟩) =
  (match (some (oN a c)) with | some true=>(match some (oN b d) with | some true=>some true | r=>r) | r=>r):=by kernel_rfl
theorem eqN (h:Heap) (a b c d:Int):kV Tryz.prog h 100 36 (dK a b) (dK c d)=some (decide (a=c∧b=d)):=by
 unfold dK
 rw[ZY,eX,eX]
 by_cases h1:a=c<;>by_cases h2:b=d<;>simp[h1,h2]
theorem Jf (t r:Int):iS Tryz.prog 20 36 (dK t r)=true:=by kernel_rfl
theorem ZZ (t r:Int):jD 3 (dK t r) (dK t r)=true:=by unfold jD; exact qz 1 [t,r]
theorem mh (x:MapEntry):∀(l:List MapEntry) (κ:List MapEntry→Prop),zu x l κ=κ (l++[x]):=by
 intro l
 induction l with
 | nil=>intro κ; rfl
 | cons a l ih=>intro κ; exact ih _
theorem oV (f:MapEntry→MapEntry):∀(l:List MapEntry) (j:Nat) (e:MapEntry) (κ:List MapEntry→Prop),l[j]? = some e→setAt f j l κ=κ (l.set j (f e)):=by
 intro l
 induction l with
 | nil=>intro j e κ h; simp at h
 | cons a l ih=>
  intro j e κ h
  cases j with
  | zero=>rw[List.getElem?_cons_zero] at h; cases h; rfl
  | succ j=>rw[List.getElem?_cons_succ] at h; exact ih j e _ h
theorem sX:∀(l:List MapEntry) (j:Nat) (κ:List MapEntry→Prop),wB j l κ=κ (l.eraseIdx j):=by
 intro l
 induction l with
 | nil=>intro j κ; cases j<;>rfl
 | cons a l ih=>
  intro j κ
  cases j with
  | zero=>rfl
  | succ j=>exact ih j _
theorem BI (h:Heap) (t r:Int):∀(M:List HE) (i:Nat),(fm Tryz.prog h 36 (dK t r) (M.map jw) i=some none∧∀e∈M,¬(t=e.t∧r=e.r))∨
  ∃(j:Nat) (e:HE),fm Tryz.prog h 36 (dK t r) (M.map jw) i=some (some (i+j,jw e))∧M[j]? = some e∧t=e.t∧r=e.r:=by
 intro M
 induction M with
 | nil=>intro i; exact .inl ⟨rfl,fun e he=>nomatch he⟩
 | cons e M ih=>
  intro i
  have hf:fm Tryz.prog h 36 (dK t r) ((e::M).map jw) i=(match (some (decide (t=e.t∧r=e.r)):Option Bool) with | some true=>some (some (i,jw e)) | some false=>fm Tryz.prog h 36 (dK t r) (M.map jw) (Nat.succ i) | none=>none):=by
   rw[←eqN h]; rfl
  rw[hf]
  by_cases h1:t=e.t∧r=e.r
  ·rw[aZ h1]
   exact .inr ⟨0,e,rfl,rfl,h1.1,h1.2⟩
  ·rw[aG h1]
   rcases ih (Nat.succ i) with ⟨g1,g2⟩ | ⟨j,e',g1,g2,g3,g4⟩
   ·exact .inl ⟨g1,fun x hx=>by rcases List.mem_cons.1 hx with rfl | hx; exact h1; exact g2 x hx⟩
   ·exact .inr ⟨j+1,e',by rw[show i+(j+1)=Nat.succ i+j by omega]; exact g1,g2,g3,g4⟩
theorem xo {β:Type} {fl:β} {M:List HE} {clock:Nat} {h:Heap} {bm:Nat} (g:h.bl.get bm=some (.map (M.map jw) clock)) (t r:Int) (hn:∀e∈M,¬(t=e.t∧r=e.r)) (κ:Value→Heap→β) :
  cZ fl Tryz.prog 36 (.pointer none) true (.map (some bm)) (dK t r) h κ=κ (.tuple ⟨[.pointer none,.bool false]⟩) h:=by
 unfold cZ iX
 rw[Jf]
 simp only[g]
 rcases BI h t r M 0 with ⟨g1,_⟩ | ⟨j,e,_,g2,g3,g4⟩
 ·rw[g1]
 ·exact absurd (And.intro g3 g4) (hn e (List.mem_of_getElem? g2))
theorem eE.uniq {M:List HE} {clock:Nat} (o:eE M clock) {e e':HE} (h:e∈M) (h':e'∈M) (ht:e.t=e'.t) (hr:e.r=e'.r):e=e':=by
 have:∀(L:List HE),(L.Pairwise fun a b=>¬(a.t=b.t∧a.r=b.r))→e∈L→e'∈L→e=e':=by
  intro L
  induction L with
  | nil=>intro _ h; nomatch h
  | cons a L ih=>
   intro hp h1 h2
   rw[List.pairwise_cons] at hp
   rcases List.mem_cons.1 h1 with rfl | k1<;>rcases List.mem_cons.1 h2 with rfl | k2
   ·rfl
   ·exact absurd ⟨ht,hr⟩ (hp.1 _ k2)
   ·exact absurd ⟨ht.symm,hr.symm⟩ (hp.1 _ k1)
   ·exact ih hp.2 k1 k2
 exact this M o.nm h h'
theorem BJ {β:Type} {fl:β} {M:List HE} {clock:Nat} {h:Heap} {bm:Nat} (o:eE M clock) (g:h.bl.get bm=some (.map (M.map jw) clock)) {e:HE} (he:e∈M) (κ:Value→Heap→β) :
  cZ fl Tryz.prog 36 (.pointer none) true (.map (some bm)) (dK e.t e.r) h κ=κ (.tuple ⟨[.pointer (some ⟨e.hb,0,none⟩),.bool true]⟩) h:=by
 unfold cZ iX
 rw[Jf]
 simp only[g]
 rcases BI h e.t e.r M 0 with ⟨g1,g2⟩ | ⟨j,e',g1,g2,g3,g4⟩
 ·exact absurd ⟨rfl,rfl⟩ (g2 e he)
 ·rw[g1]
  rw[o.uniq he (List.mem_of_getElem? g2) g3 g4]; rfl
theorem erase_filter {M:List HE} (hn:M.Pairwise fun a b=>¬(a.t=b.t∧a.r=b.r)) {j:Nat} {e:HE} (hj:M[j]? = some e):M.eraseIdx j=M.filter fun x=>!qM e.t e.r x:=by
 induction M generalizing j with
 | nil=>simp at hj
 | cons a M ih=>
  rw[List.pairwise_cons] at hn
  cases j with
  | zero=>
   rw[List.getElem?_cons_zero] at hj; cases hj
   rw[List.eraseIdx_cons_zero,List.filter_cons_of_neg (by simp[qM])]
   exact (List.filter_eq_self.2 fun x hx=>nV.2 (hn.1 x hx)).symm
  | succ j=>
   rw[List.getElem?_cons_succ] at hj
   have:=hn.1 e (List.mem_of_getElem? hj)
   rw[List.eraseIdx_cons_succ,List.filter_cons_of_pos (p:=fun x=>!qM e.t e.r x) (nV.2 fun ⟨h1,h2⟩=>this ⟨h1.symm,h2.symm⟩),ih hn.2 hj]
theorem EW {α:Type} {R:α→α→Prop} (hs:∀{a b},R a b→R b a) {L L':List α} (hp:L.Perm L') (h:L.Pairwise R):L'.Pairwise R:=(hp.pairwise_iff hs).1 h
theorem eE.put {M M':List HE} {clock clock':Nat} (o:eE M clock) (hc:clock≤clock') {e:HE} (hp:M'.Perm (M.filter (fun x=>!qM e.t e.r x)++[e])) (hb:∀x∈M,¬(e.t=x.t∧e.r=x.r)→x.born≠e.born) (hlt:e.born<clock'):eE M' clock':=by
 have hm:∀x∈M.filter (fun x=>!qM e.t e.r x),x∈M∧¬(e.t=x.t∧e.r=x.r):=fun x hx=>by
  rw[List.mem_filter] at hx
  exact ⟨hx.1,nV.1 hx.2⟩
 refine ⟨EW (fun h=>fun ⟨a,b⟩=>h ⟨a.symm,b.symm⟩) hp.symm (pG (o.nm.filter _) fun x hx=>fun ⟨a,b⟩=>(hm x hx).2 ⟨a.symm,b.symm⟩),EW (fun h=>h.symm) hp.symm (pG (o.bn.filter _) fun x hx=>hb x (hm x hx).1 (hm x hx).2),fun x hx=>?_⟩
 rcases List.mem_append.1 (hp.mem_iff.1 hx) with h | h
 ·exact Nat.lt_of_lt_of_le (o.lt x (hm x h).1) hc
 ·rw[List.mem_singleton] at h; subst h; exact hlt
theorem Rf {M:List HE} {clock:Nat} {h:Heap} {bm:Nat} (o:eE M clock) (g:h.bl.get bm=some (.map (M.map jw) clock)) (hlo:h.lo≤bm) (t r:Int) (hb:Nat) (q:Value) (w:Int) (Q:List R5) (κ:KQ)
  (hk:∀M' clock' born,eE M' clock'→M'.Perm (M.filter (fun x=>!qM t r x)++[⟨t,r,hb,born,q,w,Q⟩])→κ undef ⟨h.nx,h.bl.aW bm (.map (M'.map jw) clock'),h.lo⟩) :
  bX False Tryz.prog 36 (.map (some bm)) (dK t r) (.pointer (some ⟨hb,0,none⟩)) h κ:=by
 unfold bX
 rw[Jf]
 simp only[g]
 rcases BI h t r M 0 with ⟨g1,g2⟩ | ⟨j,e,g1,g2,g3,g4⟩
 ·rw[g1]
  simp only
  rw[mh]
  simp only[bG]
  rw[bL _ _ _ _ hlo]
  have zi:(M++[(⟨t,r,hb,clock,q,w,Q⟩:HE)]).Perm (M.filter (fun x=>!qM t r x)++[⟨t,r,hb,clock,q,w,Q⟩]):=by
   rw[List.filter_eq_self.2 fun x hx=>nV.2 (g2 x hx)]
  have:=hk (M++[⟨t,r,hb,clock,q,w,Q⟩]) (clock+1) clock (o.put (e:=⟨t,r,hb,clock,q,w,Q⟩) (Nat.le_succ _) zi (fun x hx _=>Nat.ne_of_lt (o.lt x hx)) (Nat.lt_succ_self _)) zi
  rw[List.map_append] at this
  exact this
 ·rw[g1]
  simp only[jw,g3,g4,ZZ]
  rw[Nat.zero_add,oV _ _ j (jw e) _ (by rw[List.getElem?_map,g2]; rfl),bL _ _ _ _ hlo]
  subst g3 g4
  have zi:(M.set j (⟨e.t,e.r,hb,e.born,q,w,Q⟩:HE)).Perm (M.filter (fun x=>!qM e.t e.r x)++[⟨e.t,e.r,hb,e.born,q,w,Q⟩]):=by
   rw[←erase_filter o.nm g2]
   obtain ⟨hj,_⟩:=List.getElem?_eq_some_iff.1 g2
   rw[List.set_eq_take_append_cons_drop,if_pos hj,List.eraseIdx_eq_take_drop_succ]
   exact (List.perm_middle).trans (List.perm_append_singleton _ _).symm
  have hne:∀x∈M,¬(e.t=x.t∧e.r=x.r)→x.born≠e.born:=fun x hx hn zG=>by
   have:∀(L:List HE),(L.Pairwise fun a b=>a.born≠b.born)→e∈L→x∈L→e=x:=by
    intro L
    induction L with
    | nil=>intro _ h; nomatch h
    | cons a L ih=>
     intro hp h1 h2
     rw[List.pairwise_cons] at hp
     rcases List.mem_cons.1 h1 with rfl | k1<;>rcases List.mem_cons.1 h2 with rfl | k2
     ·rfl
     ·exact absurd zG.symm (hp.1 _ k2)
     ·exact absurd zG (hp.1 _ k1)
     ·exact ih hp.2 k1 k2
   have:=this M o.bn (List.mem_of_getElem? g2) hx
   subst this
   exact hn ⟨rfl,rfl⟩
  have:=hk (M.set j ⟨e.t,e.r,hb,e.born,q,w,Q⟩) clock e.born (o.put (e:=⟨e.t,e.r,hb,e.born,q,w,Q⟩) (Nat.le_refl _) zi hne (o.lt e (List.mem_of_getElem? g2))) zi
  rw[List.map_set] at this
  exact this
theorem FW {α β:Type} (f:α→β):∀(l:List α) (j:Nat),(l.eraseIdx j).map f=(l.map f).eraseIdx j:=by
 intro l
 induction l with
 | nil=>intro j; rfl
 | cons a l ih=>
  intro j
  cases j with
  | zero=>rfl
  | succ j=>simp[ih j]
theorem Rg {M:List HE} {clock:Nat} {h:Heap} {bm:Nat} (o:eE M clock) (g:h.bl.get bm=some (.map (M.map jw) clock)) (hlo:h.lo≤bm) (t r:Int) (κ:KQ)
  (hk:∀h',h'=⟨h.nx,h.bl.aW bm (.map ((M.filter (fun x=>!qM t r x)).map jw) clock),h.lo⟩∨(h'=h∧M.filter (fun x=>!qM t r x)=M)→κ (.tuple ⟨[]⟩) h') :
  jI False Tryz.prog 36 (.map (some bm)) (dK t r) h κ:=by
 unfold jI
 rw[Jf]
 simp only[g]
 rcases BI h t r M 0 with ⟨g1,g2⟩ | ⟨j,e,g1,g2,g3,g4⟩
 ·rw[g1]
  exact hk h (.inr ⟨rfl,List.filter_eq_self.2 fun x hx=>nV.2 (g2 x hx)⟩)
 ·rw[g1]
  simp only
  rw[Nat.zero_add,sX,bL _ _ _ _ hlo]
  subst g3 g4
  refine hk _ (.inl ?_)
  rw[←erase_filter o.nm g2,FW]
theorem eE.filter {M:List HE} {clock:Nat} (o:eE M clock) (p:HE→Bool):eE (M.filter p) clock:=⟨o.nm.filter _,o.bn.filter _,fun e he=>o.lt e (List.mem_filter.1 he).1⟩
def yW (M:List HE) (seen:List Nat):Nat:=M.countP fun e=>!seen.any (Nat.beq e.born)
theorem FX {α:Type} {p q:α→Bool}:∀(L:List α),(∀x∈L,q x=true→p x=true)→(∃x∈L,p x=true∧q x=false)→L.countP q<L.countP p:=by
 intro L
 induction L with
 | nil=>rintro _ ⟨x,hx,_⟩; nomatch hx
 | cons a L ih=>
  intro h hx
  have hle:L.countP q≤L.countP p:=List.countP_mono_left fun x hx=>h x (.tail _ hx)
  rw[List.countP_cons,List.countP_cons]
  by_cases ha:p a=true∧q a=false
  ·rw[ha.1,ha.2]; simp; omega
  ·have ht:∃x∈L,p x=true∧q x=false:=by
    obtain ⟨x,hx,h1⟩:=hx
    rcases List.mem_cons.1 hx with rfl | hx
    ·exact absurd h1 ha
    ·exact ⟨x,hx,h1⟩
   have:=ih (fun x hx=>h x (.tail _ hx)) ht
   have ha2:=h a (.head _)
   cases hq:q a with
   | false=>simp; omega
   | true=>rw[ha2 hq]; simp; omega
theorem qN {M:List HE} {seen:List Nat} {e:HE} (he:e∈M) (hn:seen.any (Nat.beq e.born)=false):yW M (e.born::seen)<yW M seen:=by
 refine FX M (fun x _ h=>?_) ⟨e,he,by rw[hn]; rfl,by simp⟩
 rw[List.any_cons,Bool.not_or,Bool.and_eq_true] at h
 exact h.2
theorem Dd {b m since:Nat} {seen:List Nat} {clock:Nat} {h:Heap} {κ:Value→Heap→Prop} (hlo:h.lo≤b):∀(es:List MapEntry) (e:MapEntry),(∀x∈e::es,x.born<since)→(∀x∈e::es,κ (.tuple ⟨[.bool true,x.key,x.val]⟩) ⟨h.nx,h.bl.aW b (.dz (some m) since (x.born::seen) clock),h.lo⟩)→jJ False And b m since seen clock h κ e es:=by
 intro es
 induction es with
 | nil=>
  intro e hb hk
  unfold jJ
  rw[Nat.ble_eq_true_of_le (show Nat.succ e.born≤since from hb e (.head _))]
  simp only
  rw[bL _ _ _ _ hlo]
  exact hk e (.head _)
 | cons a es ih=>
  intro e hb hk
  unfold jJ
  rw[Nat.ble_eq_true_of_le (show Nat.succ e.born≤since from hb e (.head _))]
  simp only
  rw[bL _ _ _ _ hlo]
  exact ⟨hk e (.head _),ih a (fun x hx=>hb x (.tail _ hx)) fun x hx=>hk x (.tail _ hx)⟩
theorem Jg {M:List HE} {clock b bm:Nat} {seen:List Nat} {h:Heap} (o:eE M clock) (hb:h.bl.get b=some (.dz (some bm) clock seen clock)) (g:h.bl.get bm=some (.map (M.map jw) clock)) (hlo:h.lo≤b) (κ:KQ)
  (lF:(∀e∈M,seen.any (Nat.beq e.born)=true)→κ (.tuple ⟨[.bool false]⟩) h)
  (jc:∀e∈M,seen.any (Nat.beq e.born)=false→κ (.tuple ⟨[.bool true,dK e.t e.r,.pointer (some ⟨e.hb,0,none⟩)]⟩) ⟨h.nx,h.bl.aW b (.dz (some bm) clock (e.born::seen) clock),h.lo⟩) :
  nM False And (.pointer (some ⟨b,0,none⟩)) h κ:=by
 unfold nM
 simp only[hb,g]
 have e1:(!seen.isEmpty && !(M.map jw).isEmpty && (M.map jw).all (fun e=>Nat.ble clock e.born))=false:=by
  cases M with
  | nil=>simp
  | cons e M=>
   have:Nat.ble clock (jw e).born=false:=by
    have:=o.lt e (.head _)
    cases hc:Nat.ble clock (jw e).born with
    | false=>rfl
    | true=>have:=Nat.le_of_ble_eq_true hc; simp only[jw] at this; omega
   rw[List.map_cons,List.all_cons,this]; simp
 rw[e1]
 simp only
 rw[List.filter_map]
 have hmem:∀x,x∈(M.filter ((fun e:MapEntry=>!seen.any (Nat.beq e.born)) ∘ jw)).map jw→∃e∈M,seen.any (Nat.beq e.born)=false∧x=jw e:=by
  intro x hx
  obtain ⟨e,he,rfl⟩:=List.mem_map.1 hx
  rw[List.mem_filter] at he
  exact ⟨e,he.1,by have:=he.2; simpa[jw] using this,rfl⟩
 split
 ·rename_i vS
  refine lF fun e he=>?_
  cases hs:seen.any (Nat.beq e.born) with
  | true=>rfl
  | false=>
   have:jw e∈(M.filter ((fun e:MapEntry=>!seen.any (Nat.beq e.born)) ∘ jw)).map jw:=List.mem_map.2 ⟨e,List.mem_filter.2 ⟨he,by simp only[Function.comp,jw,hs]; rfl⟩,rfl⟩
   rw[vS] at this
   nomatch this
 ·rename_i e es heq
  rw[heq] at hmem
  refine Dd hlo es e (fun x hx=>?_) fun x hx=>?_
  ·obtain ⟨y,hy,_,rfl⟩:=hmem x hx
   exact o.lt y hy
  ·obtain ⟨y,hy,h1,rfl⟩:=hmem x hx
   exact jc y hy h1
theorem EX {β:Type} {fl:β} {M:List HE} {clock b bm:Nat} {seen:List Nat} {h:Heap} (o:eE M clock) {e:HE} (he:e∈M) (hb:h.bl.get b=some (.dz (some bm) clock (e.born::seen) clock)) (g:h.bl.get bm=some (.map (M.map jw) clock)) (κ:Value→Heap→β) :
  kY fl (.pointer (some ⟨b,0,none⟩)) h κ=κ (.tuple ⟨[dK e.t e.r,.pointer (some ⟨e.hb,0,none⟩)]⟩) h:=by
 unfold kY
 simp only[hb,g]
 have e1:Nat.beq clock clock=true:=Nat.beq_refl _
 rw[e1]
 simp only
 have:(M.map jw).find? (fun x=>Nat.beq x.born e.born)=some (jw e):=by
  have key:∀(L:List HE),(L.Pairwise fun a b=>a.born≠b.born)→e∈L→(L.map jw).find? (fun x=>Nat.beq x.born e.born)=some (jw e):=by
   intro L
   induction L with
   | nil=>intro _ h; nomatch h
   | cons a L ih=>
    intro hp h1
    rw[List.pairwise_cons] at hp
    rw[List.map_cons,List.find?_cons]
    rcases List.mem_cons.1 h1 with rfl | k1
    ·have:Nat.beq (jw e).born e.born=true:=Nat.beq_refl _
     rw[this]
    ·have:Nat.beq (jw a).born e.born=false:=by
      cases hc:Nat.beq (jw a).born e.born with
      | false=>rfl
      | true=>exact absurd (Nat.eq_of_beq_eq_true hc) (hp.1 e k1)
     rw[this]
     exact ih hp.2 k1
  exact key M o.bn he
 rw[this]
 rfl
theorem BK {β:Type} {fl:β} {bm clock:Nat} {es:List MapEntry} {h:Heap} (g:h.bl.get bm=some (.map es clock)) (κ:Value→Heap→β) :
  kX fl (.map (some bm)) h κ=κ (.pointer (some ⟨h.nx,0,none⟩)) ⟨h.nx+1,h.bl.aW h.nx (.dz (some bm) clock [] clock),h.lo⟩:=by
 unfold kX
 simp only[g,dn]
structure kg (h:Heap) (e:HE):Prop where
 lt:e.hb<h.nx
 get:h.bl.get e.hb=some (dI e.t e.r e.q e.w)
 qv:QV h e.q e.Q
structure Jh (e:HE):Prop where
 ne:e.Q≠[]
 vq:VQ e.Q e.w
 stuck:oD e.Q
 small:e.Q.length≤128
structure aV (h:Heap) (bb bm bp bl:Nat) (most:Nat) (M:List HE) (clock:Nat) (F:List Int) (B:List Bool):Prop where
 Ky:bb<h.nx
 rz:bm<h.nx
 Me:h.lo≤bm
 fV:h.bl.get bb=some (aa [.int .i64 (most:Int),.pointer (some ⟨bp,0,none⟩),.map (some bm)] 220 false)
 eG:h.bl.get bm=some (.map (M.map jw) clock)
 ok:eE M clock
 aH:∀e∈M,kg h e
 good:∀e∈M,Jh e
 dh:dg h bp bl F B
 ne:bp≠bl
theorem kg.le {h h':Heap} {e:HE} (a:kg h e) (l:Le h h'):kg h' e:=⟨Nat.lt_of_lt_of_le a.lt l.nx,(l.get _ a.lt).trans a.get,a.qv.le l⟩
theorem dg.le {h h':Heap} {bp bl:Nat} {F:List Int} {B:List Bool} (p:dg h bp bl F B) (l:Le h h'):dg h' bp bl F B:=by
 have ln:=l.nx
 have ll:=l.lo
 have pl:=p.lt
 have fl:=p.fr.lt
 obtain ⟨fs,hg,hpt⟩:=p.fr.cell
 refine ⟨⟨by omega,by rw[ll]; exact p.fr.lo,fs,(l.get _ fl).trans hg,?_⟩,by omega,by rw[ll]; exact p.lo,(l.get _ pl).trans p.cell,p.ok,p.small⟩
 rcases hpt with e | ⟨b,G,e,k1,k2,k3,k4⟩
 ·exact .inl e
 ·exact .inr ⟨b,G,e,by omega,by omega,(l.get _ k1).trans k3,k4⟩
theorem aV.le {h h':Heap} {bb bm bp bl most:Nat} {M:List HE} {clock:Nat} {F:List Int} {B:List Bool} (s:aV h bb bm bp bl most M clock F B) (l:Le h h'):aV h' bb bm bp bl most M clock F B:=
 ⟨Nat.lt_of_lt_of_le s.Ky l.nx,Nat.lt_of_lt_of_le s.rz l.nx,by rw[l.lo]; exact s.Me,(l.get _ s.Ky).trans s.fV,(l.get _ s.rz).trans s.eG,s.ok,fun e he=>(s.aH e he).le l,s.good,s.dh.le l,s.ne⟩
theorem Z0 (h:Heap) (b o:Nat):kV Tryz.prog h 100 182 (.pointer (some ⟨b,o,none⟩)) (.pointer none)=some false:=by kernel_rfl
theorem gM {β:Type} {fl:β} (cn:Bool) (b o:Nat) (h:Heap) (κ:Value→Heap→β):au fl Tryz.prog .eql 182 cn false (.pointer (some ⟨b,o,none⟩)) (.pointer none) h κ=κ (.bool false) h:=by simp only[au,Z0,bN]
theorem Z1 (h:Heap) (b o:Nat):kV Tryz.prog h 100 228 (.pointer (some ⟨b,o,none⟩)) (.pointer none)=some false:=by kernel_rfl
theorem uK {β:Type} {fl:β} (cn:Bool) (b o:Nat) (h:Heap) (κ:Value→Heap→β):au fl Tryz.prog .eql 228 cn false (.pointer (some ⟨b,o,none⟩)) (.pointer none) h κ=κ (.bool false) h:=by simp only[au,Z1,bN]
theorem Z2 (h:Heap):kV Tryz.prog h 100 228 (.pointer none) (.pointer none)=some true:=by kernel_rfl
theorem pT {β:Type} {fl:β} (cn:Bool) (h:Heap) (κ:Value→Heap→β):au fl Tryz.prog .eql 228 cn false (.pointer none) (.pointer none) h κ=κ (.bool true) h:=by simp only[au,Z2,bN]
theorem Rh (bb:Nat) (h:Heap) (κ:KQ) (hk:κ (.int .i64 5) h):CallW Tryz.prog 244 [.pointer (some ⟨bb,0,none⟩)] h κ:=by
 refine aq mixed ?_
 rw[Qn]
 simp(disch:=first|omega|simp only[Wd]<;>omega|with_unfolding_all rfl)only[Wz,gM]
 exact hk
theorem eE.NZ {M:List HE} {clock:Nat} (o:eE M clock) {e e':HE} (h:e∈M) (h':e'∈M) (hb:e.born=e'.born):e=e':=by
 have:∀(L:List HE),(L.Pairwise fun a b=>a.born≠b.born)→e∈L→e'∈L→e=e':=by
  intro L
  induction L with
  | nil=>intro _ h; nomatch h
  | cons a L ih=>
   intro hp h1 h2
   rw[List.pairwise_cons] at hp
   rcases List.mem_cons.1 h1 with rfl | k1<;>rcases List.mem_cons.1 h2 with rfl | k2
   ·rfl
   ·exact absurd hb (hp.1 _ k2)
   ·exact absurd hb.symm (hp.1 _ k1)
   ·exact ih hp.2 k1 k2
 exact this M o.bn h h'
theorem Ri {h:Heap} {bb bm bp bl most:Nat} {M:List HE} {clock:Nat} {F:List Int} {B:List Bool} (s:aV h bb bm bp bl most M clock F B) (hlo:h.lo≤h.nx) (id:Int) (κ:KQ)
  (lF:∀h',(∀e∈M,bT e.Q id=none)→Le h h'→κ (.pointer none) h')
  (jc:∀h' e p,e∈M→bT e.Q id=some p→Le h h'→κ (.pointer (some ⟨e.hb,0,none⟩)) h') :
  CallW Tryz.prog 243 [.pointer (some ⟨bb,0,none⟩),.int .i64 id] h κ:=by
 refine aq mixed ?_
 rw[IN]
 have g:=s.fV
 have gm:=s.eG
 simp(disch:=first|omega|simp only[Wd]<;>omega|with_unfolding_all rfl)only[Wz,gM,Ba,aN,g,BK gm]
 obtain ⟨hA,eA⟩:∃hA:Heap,hA=⟨h.nx+1,h.bl.aW h.nx (.dz (some bm) clock [] clock),h.lo⟩:=⟨_,rfl⟩
 rw[←eA]
 have leA:Le h hA:=by rw[eA]; exact (Le.refl h).new _
 have nA:hA.nx=h.nx+1:=by rw[eA]
 have lA:hA.lo=h.lo:=by rw[eA]
 have gA:hA.bl.get h.nx=some (.dz (some bm) clock [] clock):=by rw[eA]; exact T.af _ _ _
 refine ⟨fun m l h1=>∃seen,m=yW M seen∧h.nx<h1.nx∧Le h h1∧h1.bl.get h.nx=some (.dz (some bm) clock seen clock)∧∀e∈M,seen.any (Nat.beq e.born)=true→bT e.Q id=none,⟨_,[],rfl,by omega,leA,gA,fun e _ he=>by simp at he⟩,?_⟩
 rintro m l h1 ⟨seen,rfl,n1,b_,g1,hs⟩
 have gm1:=(b_.get _ s.rz).trans gm
 have l1:=b_.lo
 have n1':=b_.nx
 refine Jg s.ok g1 gm1 (by omega) _ ?_ ?_
 ·intro hall
  simp(disch:=first|omega|simp only[Wd]<;>omega|with_unfolding_all rfl)only[Wz]
  exact lF h1 (fun e he=>hs e he (hall e he)) b_
 ·intro e he Kj
  have H:=s.aH e he
  have hlt:=H.lt
  have bF:Le h ⟨h1.nx,h1.bl.aW h.nx (.dz (some bm) clock (e.born::seen) clock),h1.lo⟩:=b_.set (by omega) _
  obtain ⟨h2,e2⟩:∃h2:Heap,h2=⟨h1.nx,h1.bl.aW h.nx (.dz (some bm) clock (e.born::seen) clock),h1.lo⟩:=⟨_,rfl⟩
  rw[←e2] at bF ⊢
  have n2:h2.nx=h1.nx:=by rw[e2]
  have g2:h2.bl.get h.nx=some (.dz (some bm) clock (e.born::seen) clock):=by rw[e2]; exact T.af _ _ _
  have Vy:=(bF.get _ s.rz).trans gm
  have l2:=bF.lo
  obtain ⟨qx,qc,eq,_⟩:=(show Sl bu h e.q e.Q from H.qv.1)
  have gh:=(bF.get _ hlt).trans H.get
  rw[eq] at gh
  simp(disch:=first|omega|simp only[Wd]<;>omega|with_unfolding_all rfl)only[Wz,A_,EX s.ok he g2 Vy,aN,gh]
  refine ET e.t e.r _ e.w id e.Q h2 _ (by rw[←eq]; exact H.qv.1.le bF) (by have:=(s.good e he).small; omega) (by omega) ?_
  intro h3 f_
  have n3:=f_.nx
  have l3:=f_.lo
  have g3:=(f_.get h.nx (by omega)).trans g2
  have Vz:=bF.trans f_
  cases hf:bT e.Q id with
  | none=>
   simp(disch:=first|omega|simp only[Wd]<;>omega|with_unfolding_all rfl)only[Wz,bu]
   refine ⟨_,?_,e.born::seen,rfl,?_,Vz.new _,?_,?_⟩
   ·exact qN he Kj
   ·show h.nx<h3.nx+1; omega
   ·exact g3
   ·intro x hx hxs
    rw[List.any_cons,Bool.or_eq_true] at hxs
    rcases hxs with hb | hb
    ·rw[s.ok.NZ hx he (Nat.eq_of_beq_eq_true hb)]; exact hf
    ·exact hs x hx hb
  | some p=>
   simp(disch:=first|omega|simp only[Wd]<;>omega|with_unfolding_all rfl)only[Wz,bu]
   exact jc _ e p he hf (Vz.new _)
structure nW (bm bp bl:Nat) (h h':Heap):Prop where
 nx:h.nx≤h'.nx
 lo:h'.lo=h.lo
 get:∀c,c<h.nx→c≠bm→c≠bp→c≠bl→(∀vs,h.bl.get c≠some (aa vs 3 true))→h'.bl.get c=h.bl.get c
 g2:bp<h.nx→∀c,c<h.nx→c≠bm→c≠bp→c≠bl→¬FB h bp c→h'.bl.get c=h.bl.get c
 mv:bp<h.nx→∀c,c<h.nx→FB h' bp c→FB h bp c
theorem nW.trans {bm bp bl:Nat} {h h' h'':Heap} (a:nW bm bp bl h h') (b:nW bm bp bl h' h''):nW bm bp bl h h'':=
 ⟨Nat.le_trans a.nx b.nx,b.lo.trans a.lo,fun c hc hm hn hl hi=>(b.get c (Nat.lt_of_lt_of_le hc a.nx) hm hn hl (fun vs=>by rw[a.get c hc hm hn hl hi]; exact hi vs)).trans (a.get c hc hm hn hl hi),
  fun hb c hc hm hn hl hi=>(b.g2 (Nat.lt_of_lt_of_le hb a.nx) c (Nat.lt_of_lt_of_le hc a.nx) hm hn hl fun x=>hi (a.mv hb c hc x)).trans (a.g2 hb c hc hm hn hl hi),
  fun hb c hc x=>a.mv hb c hc (b.mv (Nat.lt_of_lt_of_le hb a.nx) c (Nat.lt_of_lt_of_le hc a.nx) x)⟩
theorem nW.of_le {bm bp bl:Nat} {h h':Heap} (l:Le h h'):nW bm bp bl h h':=⟨l.nx,l.lo,fun c hc _ _ _ _=>l.get c hc,fun _ c hc _ _ _ _=>l.get c hc,fun hb c _ x=>(FB.congr (l.get bp hb)).1 x⟩
theorem nW.VA {bm bp bl:Nat} {h h':Heap} (f:EV bp bl h h'):nW bm bp bl h h':=⟨f.nx,f.lo,fun c hc _ hn hl hi=>f.get c hc hn hl hi,fun hb c hc _ hn hl hi=>f.g2 hb c hc hn hl hi,f.mv⟩
theorem nW.of_map {bm bp bl:Nat} (h:Heap) {es:List MapEntry} {cl:Nat}:nW bm bp bl h ⟨h.nx,h.bl.aW bm (.map es cl),h.lo⟩:=by
 refine ⟨Nat.le_refl _,rfl,fun c _ hm _ _ _=>T.ai _ _ (fun e=>hm e.symm),fun _ c _ hm _ _ _=>T.ai _ _ (fun e=>hm e.symm),fun _ c _ hx=>?_⟩
 by_cases e:bm=bp
 ·subst e
  obtain ⟨n,cap,ls,hx⟩:=hx
  exact absurd ((T.af _ _ _).symm.trans hx) bB
 ·exact (FB.congr (T.ai _ _ e)).1 hx
theorem aV.put {h:Heap} {bb bm bp bl most:Nat} {M M':List HE} {clock clock':Nat} {F:List Int} {B:List Bool} (s:aV h bb bm bp bl most M clock F B) (o:eE M' clock')
  (hh:∀e∈M',kg h e) (hg:∀e∈M',Jh e):aV ⟨h.nx,h.bl.aW bm (.map (M'.map jw) clock'),h.lo⟩ bb bm bp bl most M' clock' F B:=by
 have gm:=s.eG
 have ne:∀c,(h.bl.get c≠some (.map (M.map jw) clock))→(h.bl.aW bm (.map (M'.map jw) clock')).get c=h.bl.get c:=fun c hc=>T.ai _ _ (by rintro rfl; exact hc gm)
 have nc:∀{vs ty op},(some (aa vs ty op):Option bC)≠some (.map (M.map jw) clock):=fun h=>bB h.symm
 obtain ⟨fs,uL,hpt⟩:=s.dh.fr.cell
 have k1:(h.bl.aW bm (.map (M'.map jw) clock')).get bb=h.bl.get bb:=ne bb (by rw[s.fV]; exact nc)
 have k2:(h.bl.aW bm (.map (M'.map jw) clock')).get bp=h.bl.get bp:=ne bp (by rw[uL]; exact nc)
 have k3:(h.bl.aW bm (.map (M'.map jw) clock')).get bl=h.bl.get bl:=ne bl (by rw[s.dh.cell]; exact nc)
 refine ⟨s.Ky,s.rz,s.Me,k1.trans s.fV,T.af _ _ _,o,fun e he=>?_,hg,⟨⟨s.dh.fr.lt,s.dh.fr.lo,fs,k2.trans uL,?_⟩,s.dh.lt,s.dh.lo,k3.trans s.dh.cell,s.dh.ok,s.dh.small⟩,s.ne⟩
 ·have a:=hh e he
  exact ⟨a.lt,(ne _ (by rw[a.get]; exact nc)).trans a.get,a.qv.put (fun vs op=>by rw[gm]; exact bB) _⟩
 ·rcases hpt with e | ⟨b,G,e,h1,h2,h3,h4⟩
  ·exact .inl e
  ·exact .inr ⟨b,G,e,h1,h2,(ne b (by rw[h3]; exact nc)).trans h3,h4⟩
theorem Ji {Q:List R5} {W:Int} (v:VQ Q W) (n:Nat):(de n Q).1.length=Q.length:=by
 have:=congrArg List.length (yH n v).2.1
 simpa using this
structure dX (M M':List HE) (t r w:Int) (Q:List R5):Prop where
 gone:Q=[]→M'=M.filter fun x=>!qM t r x
 put:Q≠[]→∃e,e.t=t∧e.r=r∧e.w=w∧e.Q=Q∧M'.Perm (M.filter (fun x=>!qM t r x)++[e])
theorem uM {h:Heap} {bb bm bp bl most:Nat} {M:List HE} {clock:Nat} {F:List Int} {B:List Bool} (s:aV h bb bm bp bl most M clock F B) (hlo:h.lo≤h.nx) (t r:Int) (q:Value) (w:Int) (Q:List R5) (κ:KQ)
  (hq:Sl bu h q Q) (vq:VQ Q w) (hlen:Q.length≤128)
  (hk:∀M' clock' v' h',aV h' bb bm bp bl most M' clock' F B→dX M M' t r w (de (gj Q+1) Q).1→wq h h' v' (de (gj Q+1) Q).2→nW bm bp bl h h'→κ v' h') :
  CallW Tryz.prog 247 [.pointer (some ⟨bb,0,none⟩),jG t r q w] h κ:=by
 obtain ⟨qx,qc,rfl,_⟩:=(show Sl bu h q Q from hq)
 refine aq mixed ?_
 rw[Qp]
 simp(disch:=first|omega|simp only[Wd]<;>omega|with_unfolding_all rfl)only[Wz,jG]
 obtain ⟨hA,aJ⟩:∃hA:Heap,hA=⟨h.nx+1,(h.bl.aW (h.nx) (dI t r (.slice qx Q.length qc) w)),h.lo⟩:=⟨_,rfl⟩
 have aU:Le h hA:=by subst aJ; exact ((Le.refl h).new _)
 have g1:hA.bl.get (h.nx)=some (dI t r (.slice qx Q.length qc) w):=by subst aJ; exact T.af _ _ _
 have ig:hA.nx=h.nx+1:=by subst aJ; rfl
 have ij:hA.lo=h.lo:=by subst aJ; rfl
 rw[←aJ]
 clear aJ
 refine Q5 t r _ w Q hA _ (hq.le aU) (by omega) (by omega) vq ?_
 intro q2 v2 h2 zL yj bF
 obtain ⟨vq2,hkey,hst,hgr⟩:=yH (gj Q+1) vq
 have FG:=Ji vq (gj Q+1)
 generalize hQ2:(de (gj Q+1) Q).1=Q2 at *
 generalize hI2:(de (gj Q+1) Q).2=I2 at *
 obtain ⟨rO,rP,rfl,_⟩:=(show Sl bu h2 q2 Q2 from zL.1)
 have n2:=bF.nx
 have l2:=bF.lo
 have g1:=(bF.get _ (by omega)).trans g1
 have Z3:=hst (Nat.lt_succ_self _)
 simp(disch:=first|omega|simp only[Wd]<;>omega|with_unfolding_all rfl)only[Wz,jG,g1]
 obtain ⟨h3,e3⟩:∃h3:Heap,h3=⟨h2.nx,h2.bl.aW h.nx (dI t r (.slice rO Q2.length rP) w),h2.lo⟩:=⟨_,rfl⟩
 have f_:Le h h3:=by rw[e3]; exact (aU.trans bF).set (by omega) _
 have g3:h3.bl.get h.nx=some (dI t r (.slice rO Q2.length rP) w):=by rw[e3]; exact T.af _ _ _
 have n3:h3.nx=h2.nx:=by rw[e3]
 have l3:h3.lo=h2.lo:=by rw[e3]
 have hq3:QV h3 (.slice rO Q2.length rP) Q2:=by rw[e3]; exact zL.put (fun vs op=>by rw[g1]; exact aT (by decide)) _
 have vz:wq h h3 v2 I2:=by
  rw[e3]
  exact fS.put (fS.base yj (by omega)) (by rw[g1]; exact bf) _
 rw[←e3]
 clear e3
 have s3:=s.le f_
 have gb:=s3.fV
 have gm:=s3.eG
 refine ⟨fun l h'=>κ v2 h',?_,fun l h' hk'=>hk'⟩
 by_cases h0:Q2=[]
 ·subst h0
  simp(disch:=first|omega|simp only[Wd]<;>omega|with_unfolding_all rfl)only[Wz,ug,g3,Bc,aN,gb]
  refine Rg s3.ok gm (by have:=s3.Me; omega) t r _ ?_
  intro h4 hc
  have jE:dX M (M.filter fun x=>!qM t r x) t r w []:=⟨fun _=>rfl,fun hn=>absurd rfl hn⟩
  rcases hc with rfl | ⟨rfl,hM⟩
  ·exact hk _ clock v2 _ (s3.put (s3.ok.filter _) (fun e he=>s3.aH e (List.mem_filter.1 he).1) fun e he=>s3.good e (List.mem_filter.1 he).1) jE (fS.put vz (by rw[gm]; exact bB) _) ((nW.of_le f_).trans (nW.of_map _))
  ·rw[hM] at jE
   exact hk _ clock v2 _ s3 jE vz (nW.of_le f_)
 ·have hpos:0<Q2.length:=List.length_pos_iff.2 h0
  simp(disch:=first|omega|simp only[Wd]<;>omega|with_unfolding_all rfl)only[Wz,ug,g3,aG (show ¬(Q2.length:Int)=0 by omega),Bd,aN,gb]
  refine Rf s3.ok gm (by have:=s3.Me; omega) t r h.nx (.slice rO Q2.length rP) w Q2 _ ?_
  intro M' clock' born o' hp
  have hsub:∀x∈M',x∈M∨x=⟨t,r,h.nx,born,.slice rO Q2.length rP,w,Q2⟩:=fun x hx=>by
   rcases List.mem_append.1 (hp.mem_iff.1 hx) with hx | hx
   ·exact .inl (List.mem_filter.1 hx).1
   ·exact .inr (List.mem_singleton.1 hx)
  refine hk M' clock' v2 _ (s3.put o' (fun e he=>?_) fun e he=>?_) ⟨fun hn=>absurd hn h0,fun _=>⟨_,rfl,rfl,rfl,rfl,hp⟩⟩ (fS.put vz (by rw[gm]; exact bB) _) ((nW.of_le f_).trans (nW.of_map _))
  ·rcases hsub e he with h1 | rfl
   ·exact s3.aH e h1
   ·exact ⟨by show h.nx<h3.nx; omega,g3,hq3⟩
  ·rcases hsub e he with h1 | rfl
   ·exact s3.good e h1
   ·exact ⟨h0,vq2,Z3,by show Q2.length≤128; omega⟩
theorem Mf (x:Int) (r:R5) (b:Nat) (h:Heap) (κ:KQ) (hlo:h.lo≤h.nx) (hb:b<h.nx) (hg:h.bl.get b=some (aa [.int .i64 x] 3 false)) (hk:∀h',Le h h'→κ (.bool (decide (r.x=x))) h') :
  CallW Tryz.prog 290 [jF r,ptrTo b] h κ:=by
 have hk:=hk _ ((Le.refl h).new (hG r))
 refine aq mixed ?_
 rw[Qz]
 simp(disch:=first|omega|simp only[Wd]<;>omega|with_unfolding_all rfl)only[Wz,bu,hg]
 exact hk
theorem BL {h:Heap} {bb bm bp bl most:Nat} {M:List HE} {clock:Nat} {F:List Int} {B:List Bool} (s:aV h bb bm bp bl most M clock F B) (hlo:h.lo≤h.nx) (t r x:Int) (κ:KQ)
  (lF:∀h',(∀e∈M,t=e.t→r=e.r→∀p∈e.Q,p.x≠x)→Le h h'→κ (.tuple ⟨[.int .i64 0,.bool false]⟩) h')
  (jc:∀h' e p,e∈M→t=e.t→r=e.r→p∈e.Q→p.x=x→Le h h'→κ (.tuple ⟨[.int .i64 p.id,.bool true]⟩) h') :
  CallW Tryz.prog 250 [.pointer (some ⟨bb,0,none⟩),dK t r,.int .i64 x] h κ:=by
 refine aq mixed ?_
 rw[Qq]
 simp(disch:=first|omega|simp only[Wd]<;>omega|with_unfolding_all rfl)only[Wz,dK]
 obtain ⟨hA,aJ⟩:∃hA:Heap,hA=⟨h.nx+1+1,((h.bl.aW (h.nx) (aa [.int .i64 t,.int .i64 r] 36 false)).aW (h.nx+1) (aa [.int .i64 x] 3 false)),h.lo⟩:=⟨_,rfl⟩
 have aU:Le h hA:=by subst aJ; exact (((Le.refl h).new _).new _)
 have g1:hA.bl.get (h.nx)=some (aa [.int .i64 t,.int .i64 r] 36 false):=by subst aJ; exact (T.ai _ _ (by omega)).trans (T.af _ _ _)
 have g3:hA.bl.get (h.nx+1)=some (aa [.int .i64 x] 3 false):=by subst aJ; exact T.af _ _ _
 have ig:hA.nx=h.nx+1+1:=by subst aJ; rfl
 have ij:hA.lo=h.lo:=by subst aJ; rfl
 rw[←aJ]
 clear aJ
 have sA:=s.le aU
 have gb:=sA.fV
 have gm:=sA.eG
 by_cases hc:∃e∈M,t=e.t∧r=e.r
 case neg=>
  have hn:∀e∈M,¬(t=e.t∧r=e.r):=fun e he h=>hc ⟨e,he,h⟩
  have eL:=xo (β:=Option Value) (fl:=none) gm t r hn
  unfold dK at eL
  simp(disch:=first|omega|simp only[Wd]<;>omega|with_unfolding_all rfl)only[Wz,gM,uh,aN,gb,g1,eL]
  exact lF _ (fun e he h1 h2=>absurd ⟨h1,h2⟩ (hn e he)) aU
 obtain ⟨e,he,rfl,rfl⟩:=hc
 have eL:=BJ (β:=Option Value) (fl:=none) sA.ok gm he
 unfold dK at eL
 have H:=sA.aH e he
 have hlt:=H.lt
 have gd:=sA.good e he
 have Ko:=gd.small
 obtain ⟨qx,qc,eq,_⟩:=(show Sl bu hA e.q e.Q from H.qv.1)
 have gh:=H.get
 rw[eq] at gh
 simp(disch:=first|omega|simp only[Wd]<;>omega|with_unfolding_all rfl)only[Wz,gM,uh,aN,gb,g1,eL,Bf,gh]
 rw[←eq]
 refine uy e.Q (fun p=>decide (p.x=x)) hA _ _ _ H.qv.1 (by omega) ?_ ?_
 ·intro p _ h1 κ1 l1 jc
  simp(disch:=first|omega|simp only[Wd]<;>omega|with_unfolding_all rfl)only[Wz,List.nil_append,List.cons_append]
  refine Mf x p (h.nx+1) h1 κ1 (by have:=l1.lo; have:=l1.nx; omega) (by have:=l1.nx; omega) ((l1.get _ (by omega)).trans g3) jc
 intro h2 bF
 have Z4:=(bF.get _ hlt).trans gh
 have ki:=aU.trans bF
 rcases lu e.Q (fun p=>decide (p.x=x)) with ⟨ei,hf⟩ | ⟨i,p,ei,hp,h1,h2⟩
 ·rw[ei]
  simp(disch:=first|omega|simp only[Wd]<;>omega|with_unfolding_all rfl)only[Wz,iG]
  exact lF h2 (fun e' he' h1 h2 p hp=>by rw[sA.ok.uniq he' he h1.symm h2.symm] at hp; have:=hf p hp; simpa using this) ki
 ·rw[ei]
  obtain ⟨b,o,hb,EY,_,hid,_⟩:=QW (H.qv.1.le bF) i hp
  rw[eq] at EY
  simp(disch:=first|omega|simp only[Wd]<;>omega|with_unfolding_all rfl)only[Wz,iG,c6 (show (0:Int)≤(i:Int) by omega),Be,aN,Z4,EY,hid]
  exact jc _ e p he rfl rfl (List.mem_of_getElem? hp) (by simpa using h1) ki
def eV (M:List HE):List Int:=M.flatMap fun e=>e.Q.map (·.id)
def iV (B:List Bool):List Int:=((List.range B.length).filter fun n=>(B[n]?).getD false).map fun n:Nat=>(n:Int)
theorem iK {B:List Bool} {x:Int}:x∈iV B↔∃n:Nat,x=(n:Int)∧B[n]? = some true:=by
 unfold iV
 rw[List.mem_map]
 constructor
 ·rintro ⟨n,hn,rfl⟩
  rw[List.mem_filter,List.mem_range] at hn
  refine ⟨n,rfl,?_⟩
  have h2:=hn.2
  rw[List.getElem?_eq_getElem hn.1] at h2 ⊢
  simpa using h2
 ·rintro ⟨n,rfl,h⟩
  refine ⟨n,List.mem_filter.2 ⟨List.mem_range.2 (List.getElem?_eq_some_iff.1 h).1,by rw[h]; rfl⟩,rfl⟩
theorem uN {L:List Nat} (h:L.Nodup):(L.map fun n:Nat=>(n:Int)).Nodup:=by
 rw[List.Nodup,List.pairwise_map]
 exact h.imp fun hne e=>hne (Int.ofNat.inj e)
theorem oF (B:List Bool):(iV B).Nodup:=uN (List.nodup_range.filter _)
theorem uO {L:List Int} {x:Int} (h:L.Nodup) (hx:x∉L):(L++[x]).Nodup:=by
 rw[List.nodup_append]
 refine ⟨h,by simp,fun a ha b hb=>?_⟩
 rw[List.mem_singleton] at hb; subst hb
 rintro rfl; exact hx ha
theorem xq {B:List Bool} {n:Nat} (h:B[n]? = some false):(iV (B.set n true)).Perm (iV B++[(n:Int)]):=by
 have hn:n<B.length:=(List.getElem?_eq_some_iff.1 h).1
 refine (List.perm_ext_iff_of_nodup (oF _) (uO (oF _) fun hm=>?_)).2 fun x=>?_
 ·obtain ⟨k,e,hk⟩:=iK.1 hm
  have:k=n:=(Int.ofNat.inj e).symm
  subst this; rw[h] at hk; cases hk
 ·rw[List.mem_append,List.mem_singleton,iK,iK]
  constructor
  ·rintro ⟨k,rfl,hk⟩
   by_cases hkn:k=n
   ·exact .inr (by rw[hkn])
   ·rw[List.getElem?_set,if_neg (fun e=>hkn e.symm)] at hk
    exact .inl ⟨k,rfl,hk⟩
  ·rintro (⟨k,rfl,hk⟩ | rfl)
   ·refine ⟨k,rfl,?_⟩
    rw[List.getElem?_set]
    split
    ·rename_i e; exact absurd (by rw[←e,h] at hk; exact hk:some false=some true) (by simp)
    ·exact hk
   ·exact ⟨n,rfl,by rw[List.getElem?_set,if_pos rfl,if_pos hn]⟩
theorem FY {B:List Bool} {n:Nat} (h:B[n]? = some true):(iV B).Perm (iV (B.set n false)++[(n:Int)]):=by
 have hn:n<B.length:=(List.getElem?_eq_some_iff.1 h).1
 have:=xq (B:=B.set n false) (n:=n) (by rw[List.getElem?_set,if_pos rfl,if_pos hn])
 rw[List.set_set] at this
 have e:B.set n true=B:=by
  refine List.ext_getElem? fun k=>?_
  rw[List.getElem?_set]
  split
  ·rename_i e; rw[←e,h]
  ·rfl
 rwa [e] at this
theorem pU {F:List Int} {B:List Bool} (o:iR F B):(iV B).length+F.length=B.length:=by
 have hp:F.Perm (((List.range B.length).filter fun n=>!(B[n]?).getD false).map fun n:Nat=>(n:Int)):=by
  refine (List.perm_ext_iff_of_nodup o.nodup (uN (List.nodup_range.filter _))).2 fun x=>?_
  rw[List.mem_map]
  constructor
  ·intro hx
   obtain ⟨n,rfl⟩:∃n:Nat,x=(n:Int):=⟨x.toNat,by have:=o.pos x hx; omega⟩
   have hb:=(o.mem n).1 hx
   exact ⟨n,List.mem_filter.2 ⟨List.mem_range.2 (List.getElem?_eq_some_iff.1 hb).1,by rw[hb]; rfl⟩,rfl⟩
  ·rintro ⟨n,hn,rfl⟩
   rw[List.mem_filter,List.mem_range] at hn
   refine (o.mem n).2 ?_
   have h2:=hn.2
   rw[List.getElem?_eq_getElem hn.1] at h2 ⊢
   simpa using h2
 rw[hp.length_eq]
 unfold iV
 rw[List.length_map,List.length_map,←List.countP_eq_length_filter,←List.countP_eq_length_filter]
 have:=List.length_eq_countP_add_countP (fun n=>(B[n]?).getD false) (l:=List.range B.length)
 rw[List.length_range] at this
 have e2:List.countP (fun n=>!(B[n]?).getD false) (List.range B.length)=List.countP (fun a=>decide ¬(B[a]?).getD false=true) (List.range B.length):=List.countP_congr fun x _=>by simp
 omega
theorem jV (M N:List HE):eV (M++N)=eV M++eV N:=List.flatMap_append
theorem ny {M N:List HE} (h:M.Perm N):(eV M).Perm (eV N):=h.flatMap_right _
theorem pV (e:HE):eV [e]=e.Q.map (·.id):=by simp[eV]
theorem nD {M:List HE} {clock:Nat} (o:eE M clock) {e:HE} (he:e∈M):M.Perm (M.filter (fun x=>!qM e.t e.r x)++[e]):=by
 obtain ⟨j,hj,rfl⟩:=List.mem_iff_getElem.1 he
 rw[←erase_filter o.nm (List.getElem?_eq_getElem hj)]
 have:M=M.set j M[j]:=by simp
 refine (List.Perm.of_eq this).trans ?_
 rw[List.set_eq_take_append_cons_drop,if_pos hj,List.eraseIdx_eq_take_drop_succ]
 exact (List.perm_middle).trans (List.perm_append_singleton _ _).symm
theorem xu {M:List HE} {t r:Int} (hn:∀e∈M,¬(t=e.t∧r=e.r)):M.filter (fun x=>!qM t r x)=M:=List.filter_eq_self.2 fun x hx=>nV.2 (hn x hx)
theorem dX.ids {M M':List HE} {t r w:Int} {Q:List R5} (s:dX M M' t r w Q):(eV M').Perm (eV (M.filter fun x=>!qM t r x)++Q.map (·.id)):=by
 by_cases h0:Q=[]
 ·rw[s.gone h0,h0]; simp
 ·obtain ⟨e,_,_,_,eq,hp⟩:=s.put h0
  have:=ny hp
  rw[jV,pV,eq] at this
  exact this
theorem uP {Q:List R5} {W:Int} (v:VQ Q W) (n:Nat):(de n Q).1.map (·.id)=Q.map (·.id):=by
 have:=congrArg (List.map Prod.fst) (yH n v).2.1
 simpa[List.map_map,Function.comp_def,CV] using this
def nX (M:List HE) (B:List Bool):Prop:=∃X,(eV M++X).Perm (iV B)
theorem nX.find {M:List HE} {B:List Bool} (i:nX M B) {e:HE} (he:e∈M) {p:R5} (hp:p∈e.Q):∃n:Nat,p.id=(n:Int)∧B[n]? = some true:=by
 obtain ⟨X,hX⟩:=i
 exact iK.1 (hX.mem_iff.1 (List.mem_append.2 (.inl (List.mem_flatMap.2 ⟨e,he,List.mem_map.2 ⟨p,hp,rfl⟩⟩))))
theorem QV.frame {h h':Heap} {q:Value} {Q:List R5} (v:QV h q Q) (hn:h.nx≤h'.nx) (hg:∀c vs op,c<h.nx→h.bl.get c=some (aa vs 83 op)→h'.bl.get c=h.bl.get c):QV h' q Q:=by
 obtain ⟨hs,ht⟩:=v
 constructor
 ·obtain ⟨x,cap,rfl,h2⟩:=hs
  refine ⟨x,cap,rfl,fun hne=>?_⟩
  obtain ⟨b,o,rfl,h3,h4⟩:=h2 hne
  obtain ⟨h1,vs,op,h5⟩:=ht b o _ cap rfl (by intro h0; exact hne (List.eq_nil_of_length_eq_zero h0))
  refine ⟨b,o,rfl,Nat.lt_of_lt_of_le h3 hn,?_⟩
  rw[hg b vs op h1 h5]; exact h4
 ·intro b o n c hv hn0
  obtain ⟨h1,vs,op,h2⟩:=ht b o n c hv hn0
  exact ⟨Nat.lt_of_lt_of_le h1 hn,vs,op,(hg b vs op h1 h2).trans h2⟩
theorem kg.qO {h h':Heap} {bp bl:Nat} {F:List Int} {B:List Bool} {e:HE} (a:kg h e) (p:dg h bp bl F B) (f:EV bp bl h h'):kg h' e:=by
 have fn:=f.nx
 obtain ⟨fs,uL,hpt⟩:=p.fr.cell
 have gl:=p.cell
 have key:∀c vs ty,c<h.nx→h.bl.get c=some (aa vs ty false)→ty≠225→ty≠4→h'.bl.get c=h.bl.get c:=fun c vs ty hc hg h1 h2=>
  f.get c hc (by rintro rfl; rw[hg] at uL; exact aT h1 uL) (by rintro rfl; rw[hg] at gl; exact aT h2 gl) fun ws=>by rw[hg]; exact bf
 have al:=a.lt
 refine ⟨by omega,(key _ _ _ al a.get (by decide) (by decide)).trans a.get,a.qv.frame fn fun c vs op hc hg=>?_⟩
 exact f.get c hc (by rintro rfl; rw[hg] at uL; exact aT (by decide) uL) (by rintro rfl; rw[hg] at gl; exact aT (by decide) gl) fun ws=>by rw[hg]; exact aT (by decide)
theorem aV.qO {h h':Heap} {bb bm bp bl most:Nat} {M:List HE} {clock:Nat} {F F':List Int} {B B':List Bool} (s:aV h bb bm bp bl most M clock F B) (p:dg h' bp bl F' B') (f:EV bp bl h h'):aV h' bb bm bp bl most M clock F' B':=by
 have fn:=f.nx
 have fl:=f.lo
 have sb:=s.Ky
 have sm:=s.rz
 obtain ⟨fs,uL,hpt⟩:=s.dh.fr.cell
 have gl:=s.dh.cell
 have key:∀c vs ty,c<h.nx→h.bl.get c=some (aa vs ty false)→ty≠225→ty≠4→h'.bl.get c=h.bl.get c:=fun c vs ty hc hg h1 h2=>
  f.get c hc (by rintro rfl; rw[hg] at uL; exact aT h1 uL) (by rintro rfl; rw[hg] at gl; exact aT h2 gl) fun ws=>by rw[hg]; exact bf
 have gm:=s.eG
 have km:h'.bl.get bm=h.bl.get bm:=f.get bm sm (by rintro rfl; rw[uL] at gm; exact bB gm.symm) (by rintro rfl; rw[gl] at gm; exact bB gm.symm) fun ws=>by rw[gm]; exact bB
 refine ⟨by omega,by omega,by rw[fl]; exact s.Me,(key bb _ _ sb s.fV (by decide) (by decide)).trans s.fV,km.trans gm,s.ok,fun e he=>?_,s.good,p,s.ne⟩
 exact (s.aH e he).qO s.dh f
theorem Mg (Q:List R5) (W id x m:Int):(iQ Q W id x m).1.id=id:=by unfold iQ; split<;>rfl
structure kP (h h':Heap) (bb bm bp bl most:Nat) (M M':List HE) (clock':Nat) (F F':List Int) (B:List Bool) (t r x m:Int) (n:Nat) (g:Bool):Prop where
 is:aV h' bb bm bp bl most M' clock' F' (B.set n true)
 free:((n:Int)::F').Perm F
 old:B[n]? = some false
 least:∀k,k<n→B[k]? = some true
 fr:nW bm bp bl h h'
 set:∃Q w,((∃e∈M,e.t=t∧e.r=r∧e.Q=Q∧e.w=w)∨((∀e∈M,¬(t=e.t∧r=e.r))∧M.length<most∧Q=[]∧w=0))∧VQ Q w∧VQ (Q++[(iQ Q w n x m).1]) (iQ Q w n x m).2.1∧g=(iQ Q w n x m).2.2∧
  dX M M' t r (iQ Q w n x m).2.1 (de (gj (Q++[(iQ Q w n x m).1])+1) (Q++[(iQ Q w n x m).1])).1
theorem xw {h h0:Heap} {bb bm bp bl most:Nat} {M:List HE} {clock:Nat} {F:List Int} {B:List Bool} (s:aV h bb bm bp bl most M clock F B) (hlo:h.lo≤h.nx) (l0:Le h0 h) (ids:nX M B) (hF:F.length≤1000) (N:Nat) (hN:N≤100000) (hw:∀e∈M,e.w≤N) (t r x m:Int) (am:bK m=true) (l:List Value) (ph:Nat) (Q:List R5) (q:Value) (w:Int)
  (hl:slot l 18=.pointer (some ⟨ph,0,none⟩)) (hp:ph<h.nx) (gp:h.bl.get ph=some (dI t r q w)) (hq:QV h q Q) (vq:VQ Q w) (Ko:F≠[]→Q.length≤127) (hwN:w≤N) (hx:∀p∈Q,p.x≠x) (wv:∀p∈Q,∃k:Nat,p.id=(k:Int)∧B[k]? = some true)
  (hold:((∃e∈M,e.t=t∧e.r=r∧e.Q=Q∧e.w=w)∨((∀e∈M,¬(t=e.t∧r=e.r))∧M.length<most∧Q=[]∧w=0)))
  (κ:KQ)
  (ZU:∀h',F=[]→Le h0 h'→κ (.tuple ⟨[.int .i64 0,.bool false,.int .i64 8]⟩) h')
  (Kz:∀M' clock' F' h' n g,kP h0 h' bb bm bp bl most M M' clock' F F' B t r x m n g→κ (.tuple ⟨[.int .i64 (n:Int),.bool g,.int .i64 0]⟩) h') :
  uk (.pointer (some ⟨bb,0,none⟩)) l (.int .i64 x) (.int .i64 m) h κ:=by
 have gb:=s.fV
 simp(disch:=first|omega|simp only[Wd]<;>omega|with_unfolding_all rfl)only[Wz,uk,aN,gb]
 refine Rb bp bl F B h _ s.dh hF hlo s.ne ?_ ?_
 ·intro X2
  simp(disch:=first|omega|simp only[Wd]<;>omega|with_unfolding_all rfl)only[Wz]
  exact ZU h X2 l0
 intro h2 F' n p2 hp2 hb Rc wu
 have s2:=s.qO p2 wu
 have n2:=wu.nx
 have l2:=wu.lo
 have Z5:F≠[]:=by rintro rfl; have:=hp2.length_eq; simp at this
 have Ko:=Ko Z5
 have H2:=kg.qO (e:=⟨t,r,ph,0,q,w,Q⟩) ⟨hp,gp,hq⟩ s.dh wu
 have g2:h2.bl.get ph=some (dI t r q w):=H2.get
 have zL:QV h2 q Q:=H2.qv
 obtain ⟨qx,qc,rfl,_⟩:=(show Sl bu h2 q Q from zL.1)
 simp(disch:=first|omega|simp only[Wd]<;>omega|with_unfolding_all rfl)only[Wz,Bg,hl,aN,g2]
 have hn:∀p∈Q,p.id≠(n:Int)∧p.x≠x:=fun p hp'=>⟨fun e=>by
  obtain ⟨k,e1,e2⟩:=wv p hp'
  have:k=n:=by omega
  rw[this,hb] at e2
  exact absurd e2 (by simp),hx p hp'⟩
 refine Vi t r _ w (n:Int) x m Q h2 _ zL.1 (by omega) (by omega) ⟨vq.w0,by omega⟩ (by omega) am hn ?_
 intro q3 h3 vz f_
 have n3:=f_.nx
 have l3:=f_.lo
 have v3:=vq.ask (id:=(n:Int)) (x:=x) (m:=m) (by omega) am hn
 obtain ⟨BA,BB,rfl,_⟩:=(show Sl bu h3 q3 _ from vz.sl)
 simp(disch:=first|omega|simp only[Wd]<;>omega|with_unfolding_all rfl)only[Wz,jG]
 have su:Le h2 ⟨h3.nx+1,h3.bl.aW h3.nx (dI t r (.slice BA (Q++[(iQ Q w n x m).1]).length BB) (iQ Q w n x m).2.1),h3.lo⟩:=f_.new _
 have lh4:Le h3 ⟨h3.nx+1,h3.bl.aW h3.nx (dI t r (.slice BA (Q++[(iQ Q w n x m).1]).length BB) (iQ Q w n x m).2.1),h3.lo⟩:=(Le.refl h3).new _
 have s4:=s2.le su
 refine uM s4 (by show h3.lo≤h3.nx+1; omega) t r _ _ _ _ ((vz.sl).le lh4) v3 (by simp; omega) ?_
 intro M' clock' v' h' s5 jE yT FZ
 exact Kz M' clock' F' h' n _ ⟨s5,hp2,hb,Rc,(nW.of_le l0).trans ((nW.VA wu).trans ((nW.of_le su).trans FZ)),Q,w,hold,vq,v3,rfl,jE⟩
theorem nX.len {M:List HE} {F:List Int} {B:List Bool} (i:nX M B) (o:iR F B) {e:HE} (he:e∈M):e.Q.length+F.length≤B.length:=by
 have h1:=pU o
 obtain ⟨X,hX⟩:=i
 have h2:=hX.length_eq
 rw[List.length_append] at h2
 have:e.Q.length≤(eV M).length:=by
  have hs:=List.append_of_mem he
  obtain ⟨s,t,rfl⟩:=hs
  simp[eV]; omega
 omega
theorem Mh {h:Heap} {bb bm bp bl most:Nat} {M:List HE} {clock:Nat} {F:List Int} {B:List Bool} (s:aV h bb bm bp bl most M clock F B) (hlo:h.lo≤h.nx) (ids:nX M B) (N:Nat) (hN:N≤100000) (hw:∀e∈M,e.w≤N) (t r x m:Int) (κ:KQ)
  (hk2:∀h',bK m=false→Le h h'→κ (.tuple ⟨[.int .i64 0,.bool false,.int .i64 2]⟩) h')
  (OX:∀h' e p,bK m=true→e∈M→t=e.t→r=e.r→p∈e.Q→p.x=x→Le h h'→κ (.tuple ⟨[.int .i64 0,.bool false,.int .i64 4]⟩) h')
  (VB:∀h',bK m=true→(∀e∈M,t=e.t→r=e.r→∀p∈e.Q,p.x≠x)→(F=[]∨((∀e∈M,¬(t=e.t∧r=e.r))∧most≤M.length))→Le h h'→κ (.tuple ⟨[.int .i64 0,.bool false,.int .i64 8]⟩) h')
  (Kz:∀M' clock' F' h' n g,bK m=true→(∀e∈M,t=e.t→r=e.r→∀p∈e.Q,p.x≠x)→kP h h' bb bm bp bl most M M' clock' F F' B t r x m n g→κ (.tuple ⟨[.int .i64 (n:Int),.bool g,.int .i64 0]⟩) h') :
  CallW Tryz.prog 255 [.pointer (some ⟨bb,0,none⟩),dK t r,.int .i64 x,.int .i64 m] h κ:=by
 refine aq mixed ?_
 rw[Qs]
 have SE:F.length≤1000:=by have:=pU s.dh.ok; have:=s.dh.small; omega
 simp(disch:=first|omega|simp only[Wd]<;>omega|with_unfolding_all rfl)only[Wz,dK]
 obtain ⟨hA,aJ⟩:∃hA:Heap,hA=⟨h.nx+1,(h.bl.aW (h.nx) (aa [.int .i64 t,.int .i64 r] 36 false)),h.lo⟩:=⟨_,rfl⟩
 have aU:Le h hA:=by subst aJ; exact ((Le.refl h).new _)
 have g1:hA.bl.get (h.nx)=some (aa [.int .i64 t,.int .i64 r] 36 false):=by subst aJ; exact T.af _ _ _
 have ig:hA.nx=h.nx+1:=by subst aJ; rfl
 have ij:hA.lo=h.lo:=by subst aJ; rfl
 rw[←aJ]
 clear aJ
 have sA:=s.le aU
 simp(disch:=first|omega|simp only[Wd]<;>omega|with_unfolding_all rfl)only[Wz,gM,Bi]
 by_cases h0:m=0
 ·simp(disch:=first|omega|simp only[Wd]<;>omega|with_unfolding_all rfl)only[Wz,aZ h0]
  exact hk2 _ (by simp[bK,h0]) aU
 simp(disch:=first|omega|simp only[Wd]<;>omega|with_unfolding_all rfl)only[Wz,aG h0]
 refine pP m ?_
 cases hkn:kn m with
 | false=>
  simp(disch:=first|omega|simp only[Wd]<;>omega|with_unfolding_all rfl)only[Wz]
  exact hk2 _ (by simp[bK,hkn]) aU
 | true=>
 have am:bK m=true:=by simp[bK,hkn,h0]
 simp(disch:=first|omega|simp only[Wd]<;>omega|with_unfolding_all rfl)only[Wz,Bh,g1]
 refine BL sA (by omega) t r x _ ?_ ?_
 case _=>
  intro h2 hno bF
  have ki:=aU.trans bF
  have s2:=sA.le bF
  have n2:=bF.nx
  have l2:=bF.lo
  have gb:=s2.fV
  have gm:=s2.eG
  have g1:=(bF.get _ (by omega)).trans g1
  by_cases hc:∃e∈M,t=e.t∧r=e.r
  ·obtain ⟨e,he,rfl,rfl⟩:=hc
   have eL:=BJ (β:=Option Value) (fl:=none) s2.ok gm he
   unfold dK at eL
   have H:=s2.aH e he
   have hgd:=s2.good e he
   simp(disch:=first|omega|simp only[Wd]<;>omega|with_unfolding_all rfl)only[Wz,um,aN,gb,g1,eL]
   refine ⟨fun l h'=>slot l 18=.pointer (some ⟨e.hb,0,none⟩)∧HQ h2 h',⟨rfl,rfl⟩,?_⟩
   rintro l h' ⟨hl,hq⟩
   cases (show h2=h' from hq)
   refine xw s2 (by omega) ki ids SE N hN hw e.t e.r x m am l e.hb e.Q e.q e.w hl H.lt H.get H.qv hgd.vq (fun Z5=>?_) (hw e he) (hno e he rfl rfl) (fun p hp=>ids.find he hp) (.inl ⟨e,he,rfl,rfl,rfl,rfl⟩) κ (fun h' h1 h3=>VB h' am hno (.inl h1) h3) fun M' clock' F' h' n g hA=>Kz M' clock' F' h' n g am hno hA
   have:=ids.len s.dh.ok he
   have:=s.dh.small
   have:=List.length_pos_iff.2 Z5
   omega
  ·have hn:∀e∈M,¬(t=e.t∧r=e.r):=fun e he h=>hc ⟨e,he,h⟩
   have eL:=xo (β:=Option Value) (fl:=none) gm t r hn
   unfold dK at eL
   simp(disch:=first|omega|simp only[Wd]<;>omega|with_unfolding_all rfl)only[Wz,um,aN,gb,g1,eL]
   by_cases hfull:M.length<most
   ·obtain ⟨hB,eB⟩:∃hB:Heap,hB=⟨h2.nx+1,h2.bl.aW h2.nx (dI t r (.slice none 0 0) 0),h2.lo⟩:=⟨_,rfl⟩
    have leB:Le h2 hB:=by rw[eB]; exact (Le.refl h2).new _
    have gB:hB.bl.get h2.nx=some (dI t r (.slice none 0 0) 0):=by rw[eB]; exact T.af _ _ _
    have nB:hB.nx=h2.nx+1:=by rw[eB]
    have lB:hB.lo=h2.lo:=by rw[eB]
    refine ⟨fun l h'=>slot l 18=.pointer (some ⟨h2.nx,0,none⟩)∧HQ hB h',?_,?_⟩
    ·simp(disch:=first|omega|simp only[Wd]<;>omega|with_unfolding_all rfl)only[Wz,uj,aN,gb,g1,kW,gm,bG,List.length_map,aZ (show Int.ofNat M.length<(most:Int) from by show (M.length:Int)<_; omega),Bool.not_true]
     exact ⟨trivial,eB⟩
    ·rintro l h' ⟨hl,hq⟩
     cases (show hB=h' from hq)
     have sB:=s2.le leB
     exact xw sB (by omega) (ki.trans leB) ids SE N hN hw t r x m am l h2.nx [] (.slice none 0 0) 0 hl (by omega) gB ⟨Sl.nil _ _ _,fun b o n c hv _=>nomatch hv⟩ VQ.nil (fun _=>by simp) (by omega) (fun p hp=>nomatch hp) (fun p hp=>nomatch hp) (.inr ⟨hn,hfull,rfl,rfl⟩) κ (fun h' h1 h3=>VB h' am hno (.inl h1) h3) fun M' clock' F' h' n g hA=>Kz M' clock' F' h' n g am hno hA
   ·refine ⟨fun l h'=>False,?_,fun _ _ h=>h.elim⟩
    simp(disch:=first|omega|simp only[Wd]<;>omega|with_unfolding_all rfl)only[Wz,uj,aN,gb,g1,kW,gm,bG,List.length_map,aG (show ¬Int.ofNat M.length<(most:Int) from by show ¬(M.length:Int)<_; omega),Bool.not_false]
    exact VB h2 am hno (.inr ⟨hn,by omega⟩) ki
 case _=>
  intro h2 e p he ht hr hp hx bF
  simp(disch:=first|omega|simp only[Wd]<;>omega|with_unfolding_all rfl)only[Wz]
  exact OX h2 e p am he ht hr hp hx (aU.trans bF)
structure jW (h h':Heap) (bb bm bp bl most:Nat) (M M':List HE) (clock':Nat) (F':List Int) (B':List Bool) (e:HE) (Q1:List R5) (w1:Int):Prop where
 is:aV h' bb bm bp bl most M' clock' F' B'
 fr:nW bm bp bl h h'
 vq:VQ Q1 w1
 set:dX M M' e.t e.r w1 (de (gj Q1+1) Q1).1
theorem uQ {Q:List R5} {W:Int} (v:VQ Q W) {id:Int} {p:R5} (hf:bT Q id=some p):∃i:Nat,Q[i]? = some p∧p.id=id:=by
 obtain ⟨h1,h2⟩:=g_ hf
 obtain ⟨i,hi⟩:=List.mem_iff_getElem?.1 h1
 exact ⟨i,hi,h2⟩
theorem BM {h:Heap} {bb bm bp bl most:Nat} {M:List HE} {clock:Nat} {F:List Int} {B:List Bool} (s:aV h bb bm bp bl most M clock F B) (hlo:h.lo≤h.nx) (N:Nat) (hN:N≤100000) (hw:∀e∈M,e.w≤N) (id m:Int) (κ:KQ)
  (hk2:∀h',bK m=false→Le h h'→κ (.tuple ⟨[.bool false,.int .i64 2]⟩) h')
  (Rj:∀h',bK m=true→(∀e∈M,bT e.Q id=none)→Le h h'→κ (.tuple ⟨[.bool false,.int .i64 5]⟩) h')
  (Z6:∀h' e p,bK m=true→e∈M→bT e.Q id=some p→0<p.s→Le h h'→κ (.tuple ⟨[.bool false,.int .i64 7]⟩) h')
  (lF:∀h' M' clock' e p i,bK m=true→e∈M→e.Q[i]? = some p→bT e.Q id=some p→¬0<p.s→jW h h' bb bm bp bl most M M' clock' F B e (e.Q.set i (gR e.Q e.w p m).1) (gR e.Q e.w p m).2.1→κ (.tuple ⟨[.bool (gR e.Q e.w p m).2.2,.int .i64 0]⟩) h') :
  CallW Tryz.prog 256 [.pointer (some ⟨bb,0,none⟩),.int .i64 id,.int .i64 m] h κ:=by
 refine aq mixed ?_
 rw[Qt]
 simp(disch:=first|omega|simp only[Wd]<;>omega|with_unfolding_all rfl)only[Wz,gM,Bj]
 refine Ri s hlo id _ ?_ ?_
 ·intro h1 hno b_
  have n1:=b_.nx
  have l1:=b_.lo
  simp(disch:=first|omega|simp only[Wd]<;>omega|with_unfolding_all rfl)only[Wz,pT]
  obtain ⟨hA,aJ⟩:∃hA:Heap,hA=⟨h1.nx+1,(h1.bl.aW (h1.nx) (dI 0 0 (.slice none 0 0) 0)),h1.lo⟩:=⟨_,rfl⟩
  have aU:Le h1 hA:=by subst aJ; exact ((Le.refl h1).new _)
  have g7:hA.bl.get (h1.nx)=some (dI 0 0 (.slice none 0 0) 0):=by subst aJ; exact T.af _ _ _
  have ig:hA.nx=h1.nx+1:=by subst aJ; rfl
  have ij:hA.lo=h1.lo:=by subst aJ; rfl
  rw[←aJ]
  clear aJ
  refine ⟨fun l h'=>slot l 4=.pointer (some ⟨h1.nx,0,none⟩)∧HQ hA h',⟨rfl,rfl⟩,?_⟩
  rintro l h' ⟨hl,hq⟩
  cases (show hA=h' from hq)
  simp(disch:=first|omega|simp only[Wd]<;>omega|with_unfolding_all rfl)only[Wz,uo,hl,aN,g7]
  refine uF 0 0 _ 0 id m [] hA _ (Sl.nil _ _ _) (by simp) (by omega) (by omega) ?_ ?_ ?_ ?_
  ·intro ha h2 bF
   have:=bF.nx
   have:=bF.lo
   simp(disch:=first|omega|simp only[Wd]<;>omega|with_unfolding_all rfl)only[Wz,jG]
   exact hk2 _ ha (((b_.trans aU).trans bF).new _)
  ·intro ha _ h2 bF
   have:=bF.nx
   have:=bF.lo
   simp(disch:=first|omega|simp only[Wd]<;>omega|with_unfolding_all rfl)only[Wz,jG]
   exact Rj _ ha hno (((b_.trans aU).trans bF).new _)
  ·intro ha p hf; cases hf
  ·intro ha i p hi; simp at hi
 ·intro h1 e p0 he hf0 b_
  have n1:=b_.nx
  have l1:=b_.lo
  have s1:=s.le b_
  have H:=s1.aH e he
  have hlt:=H.lt
  have gd:=s1.good e he
  have Ko:=gd.small
  obtain ⟨qx,qc,eq,_⟩:=(show Sl bu h1 e.q e.Q from H.qv.1)
  have gh:=H.get
  rw[eq] at gh
  have we:=hw e he
  simp(disch:=first|omega|simp only[Wd]<;>omega|with_unfolding_all rfl)only[Wz,uK]
  refine ⟨fun l h'=>slot l 4=.pointer (some ⟨e.hb,0,none⟩)∧HQ h1 h',⟨rfl,rfl⟩,?_⟩
  rintro l h' ⟨hl,hq⟩
  cases (show h1=h' from hq)
  simp(disch:=first|omega|simp only[Wd]<;>omega|with_unfolding_all rfl)only[Wz,uo,hl,aN,gh]
  refine uF e.t e.r _ e.w id m e.Q h1 _ (by rw[←eq]; exact H.qv.1) (by omega) (by omega) ⟨gd.vq.w0,by omega⟩ ?_ ?_ ?_ ?_
  ·intro ha h2 bF
   have:=bF.nx
   have:=bF.lo
   simp(disch:=first|omega|simp only[Wd]<;>omega|with_unfolding_all rfl)only[Wz,jG]
   exact hk2 _ ha ((b_.trans bF).new _)
  ·intro ha hf; rw[hf] at hf0; cases hf0
  ·intro ha p hf hs h2 bF
   have:=bF.nx
   have:=bF.lo
   simp(disch:=first|omega|simp only[Wd]<;>omega|with_unfolding_all rfl)only[Wz,jG]
   exact Z6 _ e p ha he hf hs ((b_.trans bF).new _)
  ·intro ha i p hi hf hs q' h2 zL bF
   have n2:=bF.nx
   have l2:=bF.lo
   obtain ⟨rO,rP,rfl,_⟩:=(show Sl bu h2 q' _ from zL.1)
   have vu:=gd.vq.upg hi hs ha
   simp(disch:=first|omega|simp only[Wd]<;>omega|with_unfolding_all rfl)only[Wz,jG]
   have f_:Le h1 ⟨h2.nx+1,h2.bl.aW h2.nx (dI e.t e.r (.slice rO (e.Q.set i (gR e.Q e.w p m).1).length rP) (gR e.Q e.w p m).2.1),h2.lo⟩:=bF.new _
   have lh3:Le h2 ⟨h2.nx+1,h2.bl.aW h2.nx (dI e.t e.r (.slice rO (e.Q.set i (gR e.Q e.w p m).1).length rP) (gR e.Q e.w p m).2.1),h2.lo⟩:=(Le.refl h2).new _
   refine uM (s1.le f_) (by show h2.lo≤h2.nx+1; omega) e.t e.r _ _ _ _ (zL.1.le lh3) vu (by rw[List.length_set]; omega) ?_
   intro M' clock' v' h' s5 jE _ FZ
   exact lF h' M' clock' e p i ha he hi hf hs ⟨s5,(nW.of_le (b_.trans f_)).trans FZ,vu,jE⟩
theorem F0 {h:Heap} {bb bm bp bl most:Nat} {M:List HE} {clock:Nat} {F:List Int} {B:List Bool} (s:aV h bb bm bp bl most M clock F B) (hlo:h.lo≤h.nx) (ids:nX M B) (id:Int) (κ:KQ)
  (Rj:∀h',(∀e∈M,bT e.Q id=none)→Le h h'→κ (.tuple ⟨[.slice none 0 0,.int .i64 5]⟩) h')
  (lF:∀h' M' clock' F' v' e p (n:Nat),e∈M→bT e.Q id=some p→id=(n:Int)→B[n]? = some true→F'.Perm (F++[(n:Int)])→jW h h' bb bm bp bl most M M' clock' F' (B.set n false) e (e.Q.filter fun r=>!bP id r) e.w→wq h h' v' (de (gj (e.Q.filter fun r=>!bP id r)+1) (e.Q.filter fun r=>!bP id r)).2→κ (.tuple ⟨[v',.int .i64 0]⟩) h') :
  CallW Tryz.prog 291 [.pointer (some ⟨bb,0,none⟩),.int .i64 id] h κ:=by
 refine aq mixed ?_
 rw[QA]
 refine Ri s hlo id _ ?_ ?_
 ·intro h1 hno b_
  simp(disch:=first|omega|simp only[Wd]<;>omega|with_unfolding_all rfl)only[Wz,pT]
  refine Rh bb h1 _ ?_
  exact Rj h1 hno b_
 ·intro h1 e p he hf b_
  have n1:=b_.nx
  have l1:=b_.lo
  have s1:=s.le b_
  have H:=s1.aH e he
  have hlt:=H.lt
  have gd:=s1.good e he
  have Ko:=gd.small
  obtain ⟨qx,qc,eq,_⟩:=(show Sl bu h1 e.q e.Q from H.qv.1)
  have gh:=H.get
  rw[eq] at gh
  obtain ⟨n,en,zG⟩:=ids.find he (g_ hf).1
  have Xq:id=(n:Int):=by rw[←en]; exact (g_ hf).2.symm
  have SE:F.length≤1000:=by have:=pU s.dh.ok; have:=s.dh.small; omega
  simp(disch:=first|omega|simp only[Wd]<;>omega|with_unfolding_all rfl)only[Wz,uK,Bn,aN,gh]
  refine L9 e.t e.r _ e.w id e.Q h1 _ (by rw[←eq]; exact H.qv.1) (by omega) (by omega) (by rw[hf]; simp) ?_
  intro q' h2 zL bF
  have n2:=bF.nx
  have l2:=bF.lo
  obtain ⟨rO,rP,rfl,_⟩:=(show Sl bu h2 q' _ from zL.1)
  have s2:=s1.le bF
  have gb:=s2.fV
  have hlb:=s2.Ky
  simp(disch:=first|omega|simp only[Wd]<;>omega|with_unfolding_all rfl)only[Wz,jG]
  obtain ⟨h3,e3⟩:∃h3:Heap,h3=⟨h2.nx+1,h2.bl.aW h2.nx (dI e.t e.r (.slice rO (e.Q.filter fun r=>!bP id r).length rP) e.w),h2.lo⟩:=⟨_,rfl⟩
  have f_:Le h2 h3:=by rw[e3]; exact (Le.refl h2).new _
  have g3:h3.bl.get h2.nx=some (dI e.t e.r (.slice rO (e.Q.filter fun r=>!bP id r).length rP) e.w):=by rw[e3]; exact T.af _ _ _
  have n3:h3.nx=h2.nx+1:=by rw[e3]
  have l3:h3.lo=h2.lo:=by rw[e3]
  rw[←e3]
  clear e3
  have s3:=s2.le f_
  have hl:=gd.vq.filter fun r=>!bP id r
  simp(disch:=first|omega|simp only[Wd]<;>omega|with_unfolding_all rfl)only[Wz,gb,Xq]
  refine Re bp bl F B n h3 _ s3.dh SE (by omega) s3.ne zG ?_
  intro h4 F' p4 Xs VC
  have n4:=VC.nx
  have l4:=VC.lo
  have H4:=kg.qO (e:=⟨e.t,e.r,h2.nx,0,_,e.w,_⟩) ⟨by show h2.nx<h3.nx; omega,g3,zL.le f_⟩ s3.dh VC
  have g4:=H4.get
  simp(disch:=first|omega|simp only[Wd]<;>omega|with_unfolding_all rfl)only[Wz,g4]
  have lf:(e.Q.filter fun r=>!bP id r).length≤e.Q.length:=List.length_filter_le _ _
  refine uM (s3.qO p4 VC) (by omega) e.t e.r _ _ _ _ H4.qv.1 hl (by show (e.Q.filter fun r=>!bP id r).length≤128; omega) ?_
  intro M' clock' v' h' s5 jE yT FZ
  have I_:wq h h' v' _:=fS.base yT (by have:=b_.nx; omega)
  exact lF h' M' clock' F' v' e p n he hf Xq zG Xs ⟨s5,(nW.of_le ((b_.trans bF).trans f_)).trans ((nW.VA VC).trans FZ),hl,jE⟩ I_
theorem Z7 (a b c d e:Int):jD 8 (.agg ⟨[.int .i64 a,.int .i64 b,.int .i64 c,.int .i64 d,.int .i64 e]⟩) (.agg ⟨[.int .i64 a,.int .i64 b,.int .i64 c,.int .i64 d,.int .i64 e]⟩)=true:=by unfold jD; exact qz 6 [a,b,c,d,e]
theorem Mi {h:Heap} {bb bm bp bl most:Nat} {M:List HE} {clock:Nat} {F:List Int} {B:List Bool} (s:aV h bb bm bp bl most M clock F B) (hlo:h.lo≤h.nx) (id:Int) (κ:KQ)
  (lF:∀h',(∀e∈M,bT e.Q id=none)→Le h h'→κ (.tuple ⟨[dK 0 0,jF ⟨0,0,0,0,0⟩,.bool false]⟩) h')
  (jc:∀h' e p,e∈M→bT e.Q id=some p→Le h h'→κ (.tuple ⟨[dK e.t e.r,jF p,.bool true]⟩) h') :
  CallW Tryz.prog 202 [.pointer (some ⟨bb,0,none⟩),.int .i64 id] h κ:=by
 refine aq mixed ?_
 rw[IM]
 simp(disch:=first|omega|simp only[Wd]<;>omega|with_unfolding_all rfl)only[Wz]
 obtain ⟨hA,aJ⟩:∃hA:Heap,hA=⟨h.nx+1+1,((h.bl.aW (h.nx) (aa [.int .i64 0,.int .i64 0] 36 false)).aW (h.nx+1) (hG ⟨0,0,0,0,0⟩)),h.lo⟩:=⟨_,rfl⟩
 have aU:Le h hA:=by subst aJ; exact (((Le.refl h).new _).new _)
 have g1:hA.bl.get (h.nx)=some (aa [.int .i64 0,.int .i64 0] 36 false):=by subst aJ; exact (T.ai _ _ (by omega)).trans (T.af _ _ _)
 have g3:hA.bl.get (h.nx+1)=some (hG ⟨0,0,0,0,0⟩):=by subst aJ; exact T.af _ _ _
 have ig:hA.nx=h.nx+1+1:=by subst aJ; rfl
 have ij:hA.lo=h.lo:=by subst aJ; rfl
 rw[←aJ]
 clear aJ
 refine Ri (s.le aU) (by omega) id _ ?_ ?_
 ·intro h1 hno b_
  have n1:=b_.nx
  have l1:=b_.lo
  have g1:=(b_.get _ (by omega)).trans g1
  have g3:=(b_.get _ (by omega)).trans g3
  simp(disch:=first|omega|simp only[Wd]<;>omega|with_unfolding_all rfl)only[Wz,pT,g1,g3,bu]
  exact lF _ hno ((((aU.trans b_).set (by omega) _)).set (by omega) _)
 ·intro h1 e p he hf b_
  have n1:=b_.nx
  have l1:=b_.lo
  have g1:=(b_.get _ (by omega)).trans g1
  have g3:=(b_.get _ (by omega)).trans g3
  have s1:=(s.le aU).le b_
  have H:=s1.aH e he
  have hlt:=H.lt
  have gd:=s1.good e he
  have Ko:=gd.small
  obtain ⟨qx,qc,eq,_⟩:=(show Sl bu h1 e.q e.Q from H.qv.1)
  have gh:=H.get
  rw[eq] at gh
  simp(disch:=first|omega|simp only[Wd]<;>omega|with_unfolding_all rfl)only[Wz,uK,A6,aN,gh]
  refine ET e.t e.r _ e.w id _ h1 _ (by rw[←eq]; exact H.qv.1) (by omega) (by omega) ?_
  intro h2 bF
  have n2:=bF.nx
  have l2:=bF.lo
  have g1:=(bF.get _ (by omega)).trans g1
  have g3:=(bF.get _ (by omega)).trans g3
  have Z4:=(bF.get _ hlt).trans gh
  rw[hf]
  simp(disch:=first|omega|simp only[Wd]<;>omega|with_unfolding_all rfl)only[Wz,bu,g1,g3,Z4,aN,Z7]
  exact jc _ e p he hf (((((aU.trans b_).trans bF).new _).set (by omega) _).set (by omega) _)
end Go.Proofs
