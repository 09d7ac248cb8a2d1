/-
  PROVED HERE: a part of the proof (K15, K16, K17, K18, K19, K20, K21, K22, K23, K24, K25, K26).
-/
import Derived.Test.YtijmemedhkgplaaGreatDoorKB
set_option linter.unusedVariables false
set_option linter.unusedSimpArgs false
set_option maxRecDepth 100000
namespace Go.Proofs
open Go.Vai Go.Clashes
structure HE where
 t:Int
 r:Int
 hb:Nat
 born:Nat
 q:Value
 w:Int
 Q:List R5
def lz (e:HE):MapEntry:={ key:=dz e.t e.r,val:=.pointer (some ⟨e.hb,0,none⟩),born:=e.born }
def uc (t r:Int) (e:HE):Bool:=decide (t=e.t∧r=e.r)
theorem uP {t r:Int} {x:HE}:(!uc t r x)=true↔¬(t=x.t∧r=x.r):=by unfold uc; rw[Bool.not_eq_true',decide_eq_false_iff_not]
structure e_ (M:List HE) (clock:Nat):Prop where
 nm:M.Pairwise fun a b=>¬(a.t=b.t∧a.r=b.r)
 bn:M.Pairwise fun a b=>a.born≠b.born
 lt:∀e∈M,e.born<clock
theorem afL (h:Heap) (a b c d:Int):lP Tryz.prog h 100 24 (.agg ⟨[.int .i64 a,.int .i64 b]⟩) (.agg ⟨[.int .i64 c,.int .i64 d]⟩) =
  (match (some (jI a c)) with | some true=>(match some (jI b d) with | some true=>some true | r=>r) | r=>r):=by kernel_rfl
theorem eqN (h:Heap) (a b c d:Int):lP Tryz.prog h 100 24 (dz a b) (dz c d)=some (decide (a=c∧b=d)):=by
 unfold dz
 rw[afL,ff,ff]
 by_cases h1:a=c<;>by_cases h2:b=d<;>simp[h1,h2]
theorem NS (t r:Int):kg Tryz.prog 20 24 (dz t r)=true:=by kernel_rfl
theorem afN (t r:Int):ow 3 (dz t r) (dz t r)=true:=by unfold ow; exact tN 1 [t,r]
theorem rU (x:MapEntry):∀(l:List MapEntry) (κ:List MapEntry→Prop),Co x l κ=κ (l++[x]):=by
 intro l
 induction l with
 | nil=>intro κ; rfl
 | cons a l ih=>intro κ; exact ih _
theorem rV (f:MapEntry→MapEntry):∀(l:List MapEntry) (j:Nat) (e:MapEntry) (κ:List MapEntry→Prop),l[j]? = some e→setAt f j l κ=κ (l.set j (f e)):=by
 intro l
 induction l with
 | nil=>intro j e κ h; simp at h
 | cons a l ih=>
  intro j e κ h
  cases j with
  | zero=>rw[List.getElem?_cons_zero] at h; cases h; rfl
  | succ j=>rw[List.getElem?_cons_succ] at h; exact ih j e _ h
theorem wL:∀(l:List MapEntry) (j:Nat) (κ:List MapEntry→Prop),zA j l κ=κ (l.eraseIdx j):=by
 intro l
 induction l with
 | nil=>intro j κ; cases j<;>rfl
 | cons a l ih=>
  intro j κ
  cases j with
  | zero=>rfl
  | succ j=>exact ih j _
theorem Em (h:Heap) (t r:Int):∀(M:List HE) (i:Nat),(jm Tryz.prog h 24 (dz t r) (M.map lz) i=some none∧∀e∈M,¬(t=e.t∧r=e.r))∨
  ∃(j:Nat) (e:HE),jm Tryz.prog h 24 (dz t r) (M.map lz) i=some (some (i+j,lz e))∧M[j]? = some e∧t=e.t∧r=e.r:=by
 intro M
 induction M with
 | nil=>intro i; exact .inl ⟨rfl,fun e he=>nomatch he⟩
 | cons e M ih=>
  intro i
  have hf:jm Tryz.prog h 24 (dz t r) ((e::M).map lz) i=(match (some (decide (t=e.t∧r=e.r)):Option Bool) with | some true=>some (some (i,lz e)) | some false=>jm Tryz.prog h 24 (dz t r) (M.map lz) (Nat.succ i) | none=>none):=by
   rw[←eqN h]; rfl
  rw[hf]
  by_cases h1:t=e.t∧r=e.r
  ·rw[aM h1]
   exact .inr ⟨0,e,rfl,rfl,h1.1,h1.2⟩
  ·rw[aK h1]
   rcases ih (Nat.succ i) with ⟨g1,g2⟩ | ⟨j,e',g1,g2,g3,g4⟩
   ·exact .inl ⟨g1,fun x hx=>by rcases List.mem_cons.1 hx with rfl | hx; exact h1; exact g2 x hx⟩
   ·exact .inr ⟨j+1,e',by rw[show i+(j+1)=Nat.succ i+j by omega]; exact g1,g2,g3,g4⟩
theorem Af {β:Type} {fl:β} {M:List HE} {clock:Nat} {h:Heap} {bm:Nat} (g:h.bl.get bm=some (.map (M.map lz) clock)) (t r:Int) (hn:∀e∈M,¬(t=e.t∧r=e.r)) (κ:Value→Heap→β) :
  eo fl Tryz.prog 24 (.pointer none) true (.map (some bm)) (dz t r) h κ=κ (.tuple ⟨[.pointer none,.bool false]⟩) h:=by
 unfold eo lT
 rw[NS]
 simp only[g]
 rcases Em h t r M 0 with ⟨g1,_⟩ | ⟨j,e,_,g2,g3,g4⟩
 ·rw[g1]
 ·exact absurd (And.intro g3 g4) (hn e (List.mem_of_getElem? g2))
theorem e_.uniq {M:List HE} {clock:Nat} (o:e_ M clock) {e e':HE} (h:e∈M) (h':e'∈M) (ht:e.t=e'.t) (hr:e.r=e'.r):e=e':=by
 have:∀(L:List HE),(L.Pairwise fun a b=>¬(a.t=b.t∧a.r=b.r))→e∈L→e'∈L→e=e':=by
  intro L
  induction L with
  | nil=>intro _ h; nomatch h
  | cons a L ih=>
   intro hp h1 h2
   rw[List.pairwise_cons] at hp
   rcases List.mem_cons.1 h1 with rfl | k1<;>rcases List.mem_cons.1 h2 with rfl | k2
   ·rfl
   ·exact absurd ⟨ht,hr⟩ (hp.1 _ k2)
   ·exact absurd ⟨ht.symm,hr.symm⟩ (hp.1 _ k1)
   ·exact ih hp.2 k1 k2
 exact this M o.nm h h'
theorem En {β:Type} {fl:β} {M:List HE} {clock:Nat} {h:Heap} {bm:Nat} (o:e_ M clock) (g:h.bl.get bm=some (.map (M.map lz) clock)) {e:HE} (he:e∈M) (κ:Value→Heap→β) :
  eo fl Tryz.prog 24 (.pointer none) true (.map (some bm)) (dz e.t e.r) h κ=κ (.tuple ⟨[.pointer (some ⟨e.hb,0,none⟩),.bool true]⟩) h:=by
 unfold eo lT
 rw[NS]
 simp only[g]
 rcases Em h e.t e.r M 0 with ⟨g1,g2⟩ | ⟨j,e',g1,g2,g3,g4⟩
 ·exact absurd ⟨rfl,rfl⟩ (g2 e he)
 ·rw[g1]
  rw[o.uniq he (List.mem_of_getElem? g2) g3 g4]; rfl
theorem erase_filter {M:List HE} (hn:M.Pairwise fun a b=>¬(a.t=b.t∧a.r=b.r)) {j:Nat} {e:HE} (hj:M[j]? = some e):M.eraseIdx j=M.filter fun x=>!uc e.t e.r x:=by
 induction M generalizing j with
 | nil=>simp at hj
 | cons a M ih=>
  rw[List.pairwise_cons] at hn
  cases j with
  | zero=>
   rw[List.getElem?_cons_zero] at hj; cases hj
   rw[List.eraseIdx_cons_zero,List.filter_cons_of_neg (by simp[uc])]
   exact (List.filter_eq_self.2 fun x hx=>uP.2 (hn.1 x hx)).symm
  | succ j=>
   rw[List.getElem?_cons_succ] at hj
   have:=hn.1 e (List.mem_of_getElem? hj)
   rw[List.eraseIdx_cons_succ,List.filter_cons_of_pos (p:=fun x=>!uc e.t e.r x) (uP.2 fun ⟨h1,h2⟩=>this ⟨h1.symm,h2.symm⟩),ih hn.2 hj]
theorem I7 {α:Type} {R:α→α→Prop} (hs:∀{a b},R a b→R b a) {L L':List α} (hp:L.Perm L') (h:L.Pairwise R):L'.Pairwise R:=(hp.pairwise_iff hs).1 h
theorem e_.put {M M':List HE} {clock clock':Nat} (o:e_ M clock) (hc:clock≤clock') {e:HE} (hp:M'.Perm (M.filter (fun x=>!uc e.t e.r x)++[e])) (hb:∀x∈M,¬(e.t=x.t∧e.r=x.r)→x.born≠e.born) (hlt:e.born<clock'):e_ M' clock':=by
 have hm:∀x∈M.filter (fun x=>!uc e.t e.r x),x∈M∧¬(e.t=x.t∧e.r=x.r):=fun x hx=>by
  rw[List.mem_filter] at hx
  exact ⟨hx.1,uP.1 hx.2⟩
 refine ⟨I7 (fun h=>fun ⟨a,b⟩=>h ⟨a.symm,b.symm⟩) hp.symm (sj (o.nm.filter _) fun x hx=>fun ⟨a,b⟩=>(hm x hx).2 ⟨a.symm,b.symm⟩),I7 (fun h=>h.symm) hp.symm (sj (o.bn.filter _) fun x hx=>hb x (hm x hx).1 (hm x hx).2),fun x hx=>?_⟩
 rcases List.mem_append.1 (hp.mem_iff.1 hx) with h | h
 ·exact Nat.lt_of_lt_of_le (o.lt x (hm x h).1) hc
 ·rw[List.mem_singleton] at h; subst h; exact hlt
theorem WD {M:List HE} {clock:Nat} {h:Heap} {bm:Nat} (o:e_ M clock) (g:h.bl.get bm=some (.map (M.map lz) clock)) (hlo:h.lo≤bm) (t r:Int) (hb:Nat) (q:Value) (w:Int) (Q:List R5) (κ:KQ)
  (hk:∀M' clock' born,e_ M' clock'→M'.Perm (M.filter (fun x=>!uc t r x)++[⟨t,r,hb,born,q,w,Q⟩])→κ undef ⟨h.nx,h.bl.bf bm (.map (M'.map lz) clock'),h.lo⟩) :
  dU False Tryz.prog 24 (.map (some bm)) (dz t r) (.pointer (some ⟨hb,0,none⟩)) h κ:=by
 unfold dU
 rw[NS]
 simp only[g]
 rcases Em h t r M 0 with ⟨g1,g2⟩ | ⟨j,e,g1,g2,g3,g4⟩
 ·rw[g1]
  simp only
  rw[rU]
  simp only[bR]
  rw[bW _ _ _ _ hlo]
  have yU:(M++[(⟨t,r,hb,clock,q,w,Q⟩:HE)]).Perm (M.filter (fun x=>!uc t r x)++[⟨t,r,hb,clock,q,w,Q⟩]):=by
   rw[List.filter_eq_self.2 fun x hx=>uP.2 (g2 x hx)]
  have:=hk (M++[⟨t,r,hb,clock,q,w,Q⟩]) (clock+1) clock (o.put (e:=⟨t,r,hb,clock,q,w,Q⟩) (Nat.le_succ _) yU (fun x hx _=>Nat.ne_of_lt (o.lt x hx)) (Nat.lt_succ_self _)) yU
  rw[List.map_append] at this
  exact this
 ·rw[g1]
  simp only[lz,g3,g4,afN]
  rw[Nat.zero_add,rV _ _ j (lz e) _ (by rw[List.getElem?_map,g2]; rfl),bW _ _ _ _ hlo]
  subst g3 g4
  have yU:(M.set j (⟨e.t,e.r,hb,e.born,q,w,Q⟩:HE)).Perm (M.filter (fun x=>!uc e.t e.r x)++[⟨e.t,e.r,hb,e.born,q,w,Q⟩]):=by
   rw[←erase_filter o.nm g2]
   obtain ⟨hj,_⟩:=List.getElem?_eq_some_iff.1 g2
   rw[List.set_eq_take_append_cons_drop,if_pos hj,List.eraseIdx_eq_take_drop_succ]
   exact (List.perm_middle).trans (List.perm_append_singleton _ _).symm
  have hne:∀x∈M,¬(e.t=x.t∧e.r=x.r)→x.born≠e.born:=fun x hx hn oa=>by
   have:∀(L:List HE),(L.Pairwise fun a b=>a.born≠b.born)→e∈L→x∈L→e=x:=by
    intro L
    induction L with
    | nil=>intro _ h; nomatch h
    | cons a L ih=>
     intro hp h1 h2
     rw[List.pairwise_cons] at hp
     rcases List.mem_cons.1 h1 with rfl | k1<;>rcases List.mem_cons.1 h2 with rfl | k2
     ·rfl
     ·exact absurd oa.symm (hp.1 _ k2)
     ·exact absurd oa (hp.1 _ k1)
     ·exact ih hp.2 k1 k2
   have:=this M o.bn (List.mem_of_getElem? g2) hx
   subst this
   exact hn ⟨rfl,rfl⟩
  have:=hk (M.set j ⟨e.t,e.r,hb,e.born,q,w,Q⟩) clock e.born (o.put (e:=⟨e.t,e.r,hb,e.born,q,w,Q⟩) (Nat.le_refl _) yU hne (o.lt e (List.mem_of_getElem? g2))) yU
  rw[List.map_set] at this
  exact this
theorem Kz {α β:Type} (f:α→β):∀(l:List α) (j:Nat),(l.eraseIdx j).map f=(l.map f).eraseIdx j:=by
 intro l
 induction l with
 | nil=>intro j; rfl
 | cons a l ih=>
  intro j
  cases j with
  | zero=>rfl
  | succ j=>simp[ih j]
theorem WE {M:List HE} {clock:Nat} {h:Heap} {bm:Nat} (o:e_ M clock) (g:h.bl.get bm=some (.map (M.map lz) clock)) (hlo:h.lo≤bm) (t r:Int) (κ:KQ)
  (hk:∀h',h'=⟨h.nx,h.bl.bf bm (.map ((M.filter (fun x=>!uc t r x)).map lz) clock),h.lo⟩∨(h'=h∧M.filter (fun x=>!uc t r x)=M)→κ (.tuple ⟨[]⟩) h') :
  lU False Tryz.prog 24 (.map (some bm)) (dz t r) h κ:=by
 unfold lU
 rw[NS]
 simp only[g]
 rcases Em h t r M 0 with ⟨g1,g2⟩ | ⟨j,e,g1,g2,g3,g4⟩
 ·rw[g1]
  exact hk h (.inr ⟨rfl,List.filter_eq_self.2 fun x hx=>uP.2 (g2 x hx)⟩)
 ·rw[g1]
  simp only
  rw[Nat.zero_add,wL,bW _ _ _ _ hlo]
  subst g3 g4
  refine hk _ (.inl ?_)
  rw[←erase_filter o.nm g2,Kz]
theorem e_.filter {M:List HE} {clock:Nat} (o:e_ M clock) (p:HE→Bool):e_ (M.filter p) clock:=⟨o.nm.filter _,o.bn.filter _,fun e he=>o.lt e (List.mem_filter.1 he).1⟩
def BR (M:List HE) (seen:List Nat):Nat:=M.countP fun e=>!seen.any (Nat.beq e.born)
theorem KA {α:Type} {p q:α→Bool}:∀(L:List α),(∀x∈L,q x=true→p x=true)→(∃x∈L,p x=true∧q x=false)→L.countP q<L.countP p:=by
 intro L
 induction L with
 | nil=>rintro _ ⟨x,hx,_⟩; nomatch hx
 | cons a L ih=>
  intro h hx
  have hle:L.countP q≤L.countP p:=List.countP_mono_left fun x hx=>h x (.tail _ hx)
  rw[List.countP_cons,List.countP_cons]
  by_cases ha:p a=true∧q a=false
  ·rw[ha.1,ha.2]; simp; omega
  ·have ht:∃x∈L,p x=true∧q x=false:=by
    obtain ⟨x,hx,h1⟩:=hx
    rcases List.mem_cons.1 hx with rfl | hx
    ·exact absurd h1 ha
    ·exact ⟨x,hx,h1⟩
   have:=ih (fun x hx=>h x (.tail _ hx)) ht
   have ha2:=h a (.head _)
   cases hq:q a with
   | false=>simp; omega
   | true=>rw[ha2 hq]; simp; omega
theorem ud {M:List HE} {seen:List Nat} {e:HE} (he:e∈M) (hn:seen.any (Nat.beq e.born)=false):BR M (e.born::seen)<BR M seen:=by
 refine KA M (fun x _ h=>?_) ⟨e,he,by rw[hn]; rfl,by simp⟩
 rw[List.any_cons,Bool.not_or,Bool.and_eq_true] at h
 exact h.2
theorem Ge {b m since:Nat} {seen:List Nat} {clock:Nat} {h:Heap} {κ:Value→Heap→Prop} (hlo:h.lo≤b):∀(es:List MapEntry) (e:MapEntry),(∀x∈e::es,x.born<since)→(∀x∈e::es,κ (.tuple ⟨[.bool true,x.key,x.val]⟩) ⟨h.nx,h.bl.bf b (.dS (some m) since (x.born::seen) clock),h.lo⟩)→lV False And b m since seen clock h κ e es:=by
 intro es
 induction es with
 | nil=>
  intro e hb hk
  unfold lV
  rw[Nat.ble_eq_true_of_le (show Nat.succ e.born≤since from hb e (.head _))]
  simp only
  rw[bW _ _ _ _ hlo]
  exact hk e (.head _)
 | cons a es ih=>
  intro e hb hk
  unfold lV
  rw[Nat.ble_eq_true_of_le (show Nat.succ e.born≤since from hb e (.head _))]
  simp only
  rw[bW _ _ _ _ hlo]
  exact ⟨hk e (.head _),ih a (fun x hx=>hb x (.tail _ hx)) fun x hx=>hk x (.tail _ hx)⟩
theorem NT {M:List HE} {clock b bm:Nat} {seen:List Nat} {h:Heap} (o:e_ M clock) (hb:h.bl.get b=some (.dS (some bm) clock seen clock)) (g:h.bl.get bm=some (.map (M.map lz) clock)) (hlo:h.lo≤b) (κ:KQ)
  (dK:(∀e∈M,seen.any (Nat.beq e.born)=true)→κ (.tuple ⟨[.bool false]⟩) h)
  (fF:∀e∈M,seen.any (Nat.beq e.born)=false→κ (.tuple ⟨[.bool true,dz e.t e.r,.pointer (some ⟨e.hb,0,none⟩)]⟩) ⟨h.nx,h.bl.bf b (.dS (some bm) clock (e.born::seen) clock),h.lo⟩) :
  qD False And (.pointer (some ⟨b,0,none⟩)) h κ:=by
 unfold qD
 simp only[hb,g]
 have e1:(!seen.isEmpty && !(M.map lz).isEmpty && (M.map lz).all (fun e=>Nat.ble clock e.born))=false:=by
  cases M with
  | nil=>simp
  | cons e M=>
   have:Nat.ble clock (lz e).born=false:=by
    have:=o.lt e (.head _)
    cases hc:Nat.ble clock (lz e).born with
    | false=>rfl
    | true=>have:=Nat.le_of_ble_eq_true hc; simp only[lz] at this; omega
   rw[List.map_cons,List.all_cons,this]; simp
 rw[e1]
 simp only
 rw[List.filter_map]
 have hmem:∀x,x∈(M.filter ((fun e:MapEntry=>!seen.any (Nat.beq e.born)) ∘ lz)).map lz→∃e∈M,seen.any (Nat.beq e.born)=false∧x=lz e:=by
  intro x hx
  obtain ⟨e,he,rfl⟩:=List.mem_map.1 hx
  rw[List.mem_filter] at he
  exact ⟨e,he.1,by have:=he.2; simpa[lz] using this,rfl⟩
 split
 ·rename_i zd
  refine dK fun e he=>?_
  cases hs:seen.any (Nat.beq e.born) with
  | true=>rfl
  | false=>
   have:lz e∈(M.filter ((fun e:MapEntry=>!seen.any (Nat.beq e.born)) ∘ lz)).map lz:=List.mem_map.2 ⟨e,List.mem_filter.2 ⟨he,by simp only[Function.comp,lz,hs]; rfl⟩,rfl⟩
   rw[zd] at this
   nomatch this
 ·rename_i e es heq
  rw[heq] at hmem
  refine Ge hlo es e (fun x hx=>?_) fun x hx=>?_
  ·obtain ⟨y,hy,_,rfl⟩:=hmem x hx
   exact o.lt y hy
  ·obtain ⟨y,hy,h1,rfl⟩:=hmem x hx
   exact fF y hy h1
theorem I8 {β:Type} {fl:β} {M:List HE} {clock b bm:Nat} {seen:List Nat} {h:Heap} (o:e_ M clock) {e:HE} (he:e∈M) (hb:h.bl.get b=some (.dS (some bm) clock (e.born::seen) clock)) (g:h.bl.get bm=some (.map (M.map lz) clock)) (κ:Value→Heap→β) :
  nH fl (.pointer (some ⟨b,0,none⟩)) h κ=κ (.tuple ⟨[dz e.t e.r,.pointer (some ⟨e.hb,0,none⟩)]⟩) h:=by
 unfold nH
 simp only[hb,g]
 have e1:Nat.beq clock clock=true:=Nat.beq_refl _
 rw[e1]
 simp only
 have:(M.map lz).find? (fun x=>Nat.beq x.born e.born)=some (lz e):=by
  have key:∀(L:List HE),(L.Pairwise fun a b=>a.born≠b.born)→e∈L→(L.map lz).find? (fun x=>Nat.beq x.born e.born)=some (lz e):=by
   intro L
   induction L with
   | nil=>intro _ h; nomatch h
   | cons a L ih=>
    intro hp h1
    rw[List.pairwise_cons] at hp
    rw[List.map_cons,List.find?_cons]
    rcases List.mem_cons.1 h1 with rfl | k1
    ·have:Nat.beq (lz e).born e.born=true:=Nat.beq_refl _
     rw[this]
    ·have:Nat.beq (lz a).born e.born=false:=by
      cases hc:Nat.beq (lz a).born e.born with
      | false=>rfl
      | true=>exact absurd (Nat.eq_of_beq_eq_true hc) (hp.1 e k1)
     rw[this]
     exact ih hp.2 k1
  exact key M o.bn he
 rw[this]
 rfl
theorem Eo {β:Type} {fl:β} {bm clock:Nat} {es:List MapEntry} {h:Heap} (g:h.bl.get bm=some (.map es clock)) (κ:Value→Heap→β) :
  nG fl (.map (some bm)) h κ=κ (.pointer (some ⟨h.nx,0,none⟩)) ⟨h.nx+1,h.bl.bf h.nx (.dS (some bm) clock [] clock),h.lo⟩:=by
 unfold nG
 simp only[g,dO]
structure kf (h:Heap) (e:HE):Prop where
 lt:e.hb<h.nx
 get:h.bl.get e.hb=some (cW e.t e.r e.q e.w)
 qv:QV h e.q e.Q
structure iM (e:HE):Prop where
 ne:e.Q≠[]
 vq:VQ e.Q e.w
 stuck:fG e.Q
 small:e.Q.length≤128
structure bg (h:Heap) (bb bm bp bl:Nat) (most:Nat) (M:List HE) (clock:Nat) (F:List Int) (B:List Bool):Prop where
 KB:bb<h.nx
 Fg:bm<h.nx
 Rb:h.lo≤bm
 gG:h.bl.get bb=some (af [.int .i64 (most:Int),.pointer (some ⟨bp,0,none⟩),.map (some bm)] 137 false)
 iT:h.bl.get bm=some (.map (M.map lz) clock)
 ok:e_ M clock
 aG:∀e∈M,kf h e
 good:∀e∈M,iM e
 bM:ec h bp bl F B
 ne:bp≠bl
theorem kf.le {h h':Heap} {e:HE} (a:kf h e) (l:Le h h'):kf h' e:=⟨Nat.lt_of_lt_of_le a.lt l.nx,(l.get _ a.lt).trans a.get,a.qv.le l⟩
theorem ec.le {h h':Heap} {bp bl:Nat} {F:List Int} {B:List Bool} (p:ec h bp bl F B) (l:Le h h'):ec h' bp bl F B:=by
 have ln:=l.nx
 have ll:=l.lo
 have pl:=p.lt
 have fl:=p.fr.lt
 obtain ⟨fs,hg,hpt⟩:=p.fr.cell
 refine ⟨⟨by omega,by rw[ll]; exact p.fr.lo,fs,(l.get _ fl).trans hg,?_⟩,by omega,by rw[ll]; exact p.lo,(l.get _ pl).trans p.cell,p.ok,p.small⟩
 rcases hpt with e | ⟨b,G,e,k1,k2,k3,k4⟩
 ·exact .inl e
 ·exact .inr ⟨b,G,e,by omega,by omega,(l.get _ k1).trans k3,k4⟩
theorem bg.le {h h':Heap} {bb bm bp bl most:Nat} {M:List HE} {clock:Nat} {F:List Int} {B:List Bool} (s:bg h bb bm bp bl most M clock F B) (l:Le h h'):bg h' bb bm bp bl most M clock F B:=
 ⟨Nat.lt_of_lt_of_le s.KB l.nx,Nat.lt_of_lt_of_le s.Fg l.nx,by rw[l.lo]; exact s.Rb,(l.get _ s.KB).trans s.gG,(l.get _ s.Fg).trans s.iT,s.ok,fun e he=>(s.aG e he).le l,s.good,s.bM.le l,s.ne⟩
theorem afO (h:Heap) (b o:Nat):lP Tryz.prog h 100 89 (.pointer (some ⟨b,o,none⟩)) (.pointer none)=some false:=by kernel_rfl
theorem fL {β:Type} {fl:β} (cn:Bool) (b o:Nat) (h:Heap) (κ:Value→Heap→β):av fl Tryz.prog .eql 89 cn false (.pointer (some ⟨b,o,none⟩)) (.pointer none) h κ=κ (.bool false) h:=by simp only[av,afO,cq]
theorem afP (h:Heap) (b o:Nat):lP Tryz.prog h 100 138 (.pointer (some ⟨b,o,none⟩)) (.pointer none)=some false:=by kernel_rfl
theorem pJ {β:Type} {fl:β} (cn:Bool) (b o:Nat) (h:Heap) (κ:Value→Heap→β):av fl Tryz.prog .eql 138 cn false (.pointer (some ⟨b,o,none⟩)) (.pointer none) h κ=κ (.bool false) h:=by simp only[av,afP,cq]
theorem afQ (h:Heap):lP Tryz.prog h 100 138 (.pointer none) (.pointer none)=some true:=by kernel_rfl
theorem nk {β:Type} {fl:β} (cn:Bool) (h:Heap) (κ:Value→Heap→β):av fl Tryz.prog .eql 138 cn false (.pointer none) (.pointer none) h κ=κ (.bool true) h:=by simp only[av,afQ,cq]
theorem Gf (bb:Nat) (h:Heap) (κ:KQ) (hk:κ (.int .i64 5) h):CallW Tryz.prog 114 [.pointer (some ⟨bb,0,none⟩)] h κ:=by
 refine aq mixed ?_
 rw[U_]
 simp(disch:=first|omega|simp only[Wd]<;>omega|with_unfolding_all rfl)only[Wz,fL]
 exact hk
theorem Rc {h:Heap} {bb bm bp bl most:Nat} {M:List HE} {clock:Nat} {F:List Int} {B:List Bool} (s:bg h bb bm bp bl most M clock F B) (κ:KQ) (hk:κ (.int .i64 (M.length:Int)) h) :
  CallW Tryz.prog 71 [.pointer (some ⟨bb,0,none⟩)] h κ:=by
 refine aq mixed ?_
 rw[Z9]
 have g:=s.gG
 have gm:=s.iT
 simp(disch:=first|omega|simp only[Wd]<;>omega|with_unfolding_all rfl)only[Wz,fL,aU,g,kT,gm,bR,List.length_map]
 exact hk
theorem e_.Tk {M:List HE} {clock:Nat} (o:e_ M clock) {e e':HE} (h:e∈M) (h':e'∈M) (hb:e.born=e'.born):e=e':=by
 have:∀(L:List HE),(L.Pairwise fun a b=>a.born≠b.born)→e∈L→e'∈L→e=e':=by
  intro L
  induction L with
  | nil=>intro _ h; nomatch h
  | cons a L ih=>
   intro hp h1 h2
   rw[List.pairwise_cons] at hp
   rcases List.mem_cons.1 h1 with rfl | k1<;>rcases List.mem_cons.1 h2 with rfl | k2
   ·rfl
   ·exact absurd hb (hp.1 _ k2)
   ·exact absurd hb.symm (hp.1 _ k1)
   ·exact ih hp.2 k1 k2
 exact this M o.bn h h'
theorem NU {h:Heap} {bb bm bp bl most:Nat} {M:List HE} {clock:Nat} {F:List Int} {B:List Bool} (s:bg h bb bm bp bl most M clock F B) (hlo:h.lo≤h.nx) (id:Int) (κ:KQ)
  (dK:∀h',(∀e∈M,bq e.Q id=none)→Le h h'→κ (.pointer none) h')
  (fF:∀h' e p,e∈M→bq e.Q id=some p→Le h h'→κ (.pointer (some ⟨e.hb,0,none⟩)) h') :
  CallW Tryz.prog 113 [.pointer (some ⟨bb,0,none⟩),.int .i64 id] h κ:=by
 refine aq mixed ?_
 rw[Nk]
 have g:=s.gG
 have gm:=s.iT
 simp(disch:=first|omega|simp only[Wd]<;>omega|with_unfolding_all rfl)only[Wz,fL,Dx,aU,g,Eo gm]
 obtain ⟨hA,eA⟩:∃hA:Heap,hA=⟨h.nx+1,h.bl.bf h.nx (.dS (some bm) clock [] clock),h.lo⟩:=⟨_,rfl⟩
 rw[←eA]
 have leA:Le h hA:=by rw[eA]; exact (Le.refl h).new _
 have nA:hA.nx=h.nx+1:=by rw[eA]
 have lA:hA.lo=h.lo:=by rw[eA]
 have gA:hA.bl.get h.nx=some (.dS (some bm) clock [] clock):=by rw[eA]; exact T.aa _ _ _
 refine ⟨fun m l h1=>∃seen,m=BR M seen∧h.nx<h1.nx∧Le h h1∧h1.bl.get h.nx=some (.dS (some bm) clock seen clock)∧∀e∈M,seen.any (Nat.beq e.born)=true→bq e.Q id=none,⟨_,[],rfl,by omega,leA,gA,fun e _ he=>by simp at he⟩,?_⟩
 rintro m l h1 ⟨seen,rfl,n1,bu,g1,hs⟩
 have gm1:=(bu.get _ s.Fg).trans gm
 have l1:=bu.lo
 have n1':=bu.nx
 refine NT s.ok g1 gm1 (by omega) _ ?_ ?_
 ·intro hall
  simp(disch:=first|omega|simp only[Wd]<;>omega|with_unfolding_all rfl)only[Wz]
  exact dK h1 (fun e he=>hs e he (hall e he)) bu
 ·intro e he Pw
  have H:=s.aG e he
  have hlt:=H.lt
  have aZ:Le h ⟨h1.nx,h1.bl.bf h.nx (.dS (some bm) clock (e.born::seen) clock),h1.lo⟩:=bu.set (by omega) _
  obtain ⟨h2,e2⟩:∃h2:Heap,h2=⟨h1.nx,h1.bl.bf h.nx (.dS (some bm) clock (e.born::seen) clock),h1.lo⟩:=⟨_,rfl⟩
  rw[←e2] at aZ ⊢
  have n2:h2.nx=h1.nx:=by rw[e2]
  have g2:h2.bl.get h.nx=some (.dS (some bm) clock (e.born::seen) clock):=by rw[e2]; exact T.aa _ _ _
  have gm2:=(aZ.get _ s.Fg).trans gm
  have l2:=aZ.lo
  obtain ⟨qx,qc,eq,_⟩:=(show Sl aW h e.q e.Q from H.qv.1)
  have gh:=(aZ.get _ hlt).trans H.get
  rw[eq] at gh
  simp(disch:=first|omega|simp only[Wd]<;>omega|with_unfolding_all rfl)only[Wz,Dw,I8 s.ok he g2 gm2,aU,gh]
  refine vY e.t e.r _ e.w id e.Q h2 _ (by rw[←eq]; exact H.qv.1.le aZ) (by have:=(s.good e he).small; omega) (by omega) ?_
  intro h3 cL
  have n3:=cL.nx
  have l3:=cL.lo
  have g3:=(cL.get h.nx (by omega)).trans g2
  have iN:=aZ.trans cL
  cases hf:bq e.Q id with
  | none=>
   simp(disch:=first|omega|simp only[Wd]<;>omega|with_unfolding_all rfl)only[Wz,aW]
   refine ⟨_,?_,e.born::seen,rfl,?_,iN.new _,?_,?_⟩
   ·exact ud he Pw
   ·show h.nx<h3.nx+1; omega
   ·exact g3
   ·intro x hx hxs
    rw[List.any_cons,Bool.or_eq_true] at hxs
    rcases hxs with hb | hb
    ·rw[s.ok.Tk hx he (Nat.eq_of_beq_eq_true hb)]; exact hf
    ·exact hs x hx hb
  | some p=>
   simp(disch:=first|omega|simp only[Wd]<;>omega|with_unfolding_all rfl)only[Wz,aW]
   exact fF _ e p he hf (iN.new _)
structure ov (bm bp bl:Nat) (h h':Heap):Prop where
 nx:h.nx≤h'.nx
 lo:h'.lo=h.lo
 get:∀c,c<h.nx→c≠bm→c≠bp→c≠bl→(∀vs,h.bl.get c≠some (af vs 3 true))→h'.bl.get c=h.bl.get c
 g2:bp<h.nx→∀c,c<h.nx→c≠bm→c≠bp→c≠bl→¬FB h bp c→h'.bl.get c=h.bl.get c
 mv:bp<h.nx→∀c,c<h.nx→FB h' bp c→FB h bp c
theorem ov.trans {bm bp bl:Nat} {h h' h'':Heap} (a:ov bm bp bl h h') (b:ov bm bp bl h' h''):ov bm bp bl h h'':=
 ⟨Nat.le_trans a.nx b.nx,b.lo.trans a.lo,fun c hc hm hn hl hi=>(b.get c (Nat.lt_of_lt_of_le hc a.nx) hm hn hl (fun vs=>by rw[a.get c hc hm hn hl hi]; exact hi vs)).trans (a.get c hc hm hn hl hi),
  fun hb c hc hm hn hl hi=>(b.g2 (Nat.lt_of_lt_of_le hb a.nx) c (Nat.lt_of_lt_of_le hc a.nx) hm hn hl fun x=>hi (a.mv hb c hc x)).trans (a.g2 hb c hc hm hn hl hi),
  fun hb c hc x=>a.mv hb c hc (b.mv (Nat.lt_of_lt_of_le hb a.nx) c (Nat.lt_of_lt_of_le hc a.nx) x)⟩
theorem ov.of_le {bm bp bl:Nat} {h h':Heap} (l:Le h h'):ov bm bp bl h h':=⟨l.nx,l.lo,fun c hc _ _ _ _=>l.get c hc,fun _ c hc _ _ _ _=>l.get c hc,fun hb c _ x=>(FB.congr (l.get bp hb)).1 x⟩
theorem ov.WG {bm bp bl:Nat} {h h':Heap} (f:I6 bp bl h h'):ov bm bp bl h h':=⟨f.nx,f.lo,fun c hc _ hn hl hi=>f.get c hc hn hl hi,fun hb c hc _ hn hl hi=>f.g2 hb c hc hn hl hi,f.mv⟩
theorem ov.of_map {bm bp bl:Nat} (h:Heap) {es:List MapEntry} {cl:Nat}:ov bm bp bl h ⟨h.nx,h.bl.bf bm (.map es cl),h.lo⟩:=by
 refine ⟨Nat.le_refl _,rfl,fun c _ hm _ _ _=>T.aj _ _ (fun e=>hm e.symm),fun _ c _ hm _ _ _=>T.aj _ _ (fun e=>hm e.symm),fun _ c _ hx=>?_⟩
 by_cases e:bm=bp
 ·subst e
  obtain ⟨n,cap,ls,hx⟩:=hx
  exact absurd ((T.aa _ _ _).symm.trans hx) bN
 ·exact (FB.congr (T.aj _ _ e)).1 hx
theorem bg.put {h:Heap} {bb bm bp bl most:Nat} {M M':List HE} {clock clock':Nat} {F:List Int} {B:List Bool} (s:bg h bb bm bp bl most M clock F B) (o:e_ M' clock')
  (hh:∀e∈M',kf h e) (hg:∀e∈M',iM e):bg ⟨h.nx,h.bl.bf bm (.map (M'.map lz) clock'),h.lo⟩ bb bm bp bl most M' clock' F B:=by
 have gm:=s.iT
 have ne:∀c,(h.bl.get c≠some (.map (M.map lz) clock))→(h.bl.bf bm (.map (M'.map lz) clock')).get c=h.bl.get c:=fun c hc=>T.aj _ _ (by rintro rfl; exact hc gm)
 have nc:∀{vs ty op},(some (af vs ty op):Option bU)≠some (.map (M.map lz) clock):=fun h=>bN h.symm
 obtain ⟨fs,v_,hpt⟩:=s.bM.fr.cell
 have k1:(h.bl.bf bm (.map (M'.map lz) clock')).get bb=h.bl.get bb:=ne bb (by rw[s.gG]; exact nc)
 have k2:(h.bl.bf bm (.map (M'.map lz) clock')).get bp=h.bl.get bp:=ne bp (by rw[v_]; exact nc)
 have k3:(h.bl.bf bm (.map (M'.map lz) clock')).get bl=h.bl.get bl:=ne bl (by rw[s.bM.cell]; exact nc)
 refine ⟨s.KB,s.Fg,s.Rb,k1.trans s.gG,T.aa _ _ _,o,fun e he=>?_,hg,⟨⟨s.bM.fr.lt,s.bM.fr.lo,fs,k2.trans v_,?_⟩,s.bM.lt,s.bM.lo,k3.trans s.bM.cell,s.bM.ok,s.bM.small⟩,s.ne⟩
 ·have a:=hh e he
  exact ⟨a.lt,(ne _ (by rw[a.get]; exact nc)).trans a.get,a.qv.put (fun vs op=>by rw[gm]; exact bN) _⟩
 ·rcases hpt with e | ⟨b,G,e,h1,h2,h3,h4⟩
  ·exact .inl e
  ·exact .inr ⟨b,G,e,h1,h2,(ne b (by rw[h3]; exact nc)).trans h3,h4⟩
theorem NV {Q:List R5} {W:Int} (v:VQ Q W) (n:Nat):(bP n Q).1.length=Q.length:=by
 have:=congrArg List.length (vK n v).2.1
 simpa using this
structure eN (M M':List HE) (t r w:Int) (Q:List R5):Prop where
 gone:Q=[]→M'=M.filter fun x=>!uc t r x
 put:Q≠[]→∃e,e.t=t∧e.r=r∧e.w=w∧e.Q=Q∧M'.Perm (M.filter (fun x=>!uc t r x)++[e])
theorem nr {h:Heap} {bb bm bp bl most:Nat} {M:List HE} {clock:Nat} {F:List Int} {B:List Bool} (s:bg h bb bm bp bl most M clock F B) (hlo:h.lo≤h.nx) (t r:Int) (q:Value) (w:Int) (Q:List R5) (κ:KQ)
  (hq:Sl aW h q Q) (vq:VQ Q w) (hlen:Q.length≤128)
  (hk:∀M' clock' v' h',bg h' bb bm bp bl most M' clock' F B→eN M M' t r w (bP (cF Q+1) Q).1→gV h h' v' (bP (cF Q+1) Q).2→ov bm bp bl h h'→κ v' h') :
  CallW Tryz.prog 99 [.pointer (some ⟨bb,0,none⟩),cG t r q w] h κ:=by
 obtain ⟨qx,qc,rfl,_⟩:=(show Sl aW h q Q from hq)
 refine aq mixed ?_
 rw[aaz]
 simp(disch:=first|omega|simp only[Wd]<;>omega|with_unfolding_all rfl)only[Wz,cG]
 obtain ⟨hA,az⟩:∃hA:Heap,hA=⟨h.nx+1,(h.bl.bf (h.nx) (cW t r (.slice qx Q.length qc) w)),h.lo⟩:=⟨_,rfl⟩
 have aH:Le h hA:=by subst az; exact ((Le.refl h).new _)
 have g1:hA.bl.get (h.nx)=some (cW t r (.slice qx Q.length qc) w):=by subst az; exact T.aa _ _ _
 have dF:hA.nx=h.nx+1:=by subst az; rfl
 have dG:hA.lo=h.lo:=by subst az; rfl
 rw[←az]
 clear az
 refine Wp t r _ w Q hA _ (hq.le aH) (by omega) (by omega) vq ?_
 intro q2 v2 h2 i_ jv aZ
 obtain ⟨vq2,hkey,hst,hgr⟩:=vK (cF Q+1) vq
 have LC:=NV vq (cF Q+1)
 generalize hQ2:(bP (cF Q+1) Q).1=Q2 at *
 generalize hI2:(bP (cF Q+1) Q).2=I2 at *
 obtain ⟨dn,dw,rfl,_⟩:=(show Sl aW h2 q2 Q2 from i_.1)
 have n2:=aZ.nx
 have l2:=aZ.lo
 have g1:=(aZ.get _ (by omega)).trans g1
 have afT:=hst (Nat.lt_succ_self _)
 simp(disch:=first|omega|simp only[Wd]<;>omega|with_unfolding_all rfl)only[Wz,cG,g1]
 obtain ⟨h3,e3⟩:∃h3:Heap,h3=⟨h2.nx,h2.bl.bf h.nx (cW t r (.slice dn Q2.length dw) w),h2.lo⟩:=⟨_,rfl⟩
 have cL:Le h h3:=by rw[e3]; exact (aH.trans aZ).set (by omega) _
 have g3:h3.bl.get h.nx=some (cW t r (.slice dn Q2.length dw) w):=by rw[e3]; exact T.aa _ _ _
 have n3:h3.nx=h2.nx:=by rw[e3]
 have l3:h3.lo=h2.lo:=by rw[e3]
 have hq3:QV h3 (.slice dn Q2.length dw) Q2:=by rw[e3]; exact i_.put (fun vs op=>by rw[g1]; exact aL (by decide)) _
 have mH:gV h h3 v2 I2:=by
  rw[e3]
  exact cU.put (cU.base jv (by omega)) (by rw[g1]; exact aO) _
 rw[←e3]
 clear e3
 have s3:=s.le cL
 have gb:=s3.gG
 have gm:=s3.iT
 refine ⟨fun l h'=>κ v2 h',?_,fun l h' hk'=>hk'⟩
 by_cases h0:Q2=[]
 ·subst h0
  simp(disch:=first|omega|simp only[Wd]<;>omega|with_unfolding_all rfl)only[Wz,BN,g3,IZ,aU,gb]
  refine WE s3.ok gm (by have:=s3.Rb; omega) t r _ ?_
  intro h4 hc
  have g_:eN M (M.filter fun x=>!uc t r x) t r w []:=⟨fun _=>rfl,fun hn=>absurd rfl hn⟩
  rcases hc with rfl | ⟨rfl,hM⟩
  ·exact hk _ clock v2 _ (s3.put (s3.ok.filter _) (fun e he=>s3.aG e (List.mem_filter.1 he).1) fun e he=>s3.good e (List.mem_filter.1 he).1) g_ (cU.put mH (by rw[gm]; exact bN) _) ((ov.of_le cL).trans (ov.of_map _))
  ·rw[hM] at g_
   exact hk _ clock v2 _ s3 g_ mH (ov.of_le cL)
 ·have hpos:0<Q2.length:=List.length_pos_iff.2 h0
  simp(disch:=first|omega|simp only[Wd]<;>omega|with_unfolding_all rfl)only[Wz,BN,g3,aK (show ¬(Q2.length:Int)=0 by omega),I1,aU,gb]
  refine WD s3.ok gm (by have:=s3.Rb; omega) t r h.nx (.slice dn Q2.length dw) w Q2 _ ?_
  intro M' clock' born o' hp
  have hsub:∀x∈M',x∈M∨x=⟨t,r,h.nx,born,.slice dn Q2.length dw,w,Q2⟩:=fun x hx=>by
   rcases List.mem_append.1 (hp.mem_iff.1 hx) with hx | hx
   ·exact .inl (List.mem_filter.1 hx).1
   ·exact .inr (List.mem_singleton.1 hx)
  refine hk M' clock' v2 _ (s3.put o' (fun e he=>?_) fun e he=>?_) ⟨fun hn=>absurd hn h0,fun _=>⟨_,rfl,rfl,rfl,rfl,hp⟩⟩ (cU.put mH (by rw[gm]; exact bN) _) ((ov.of_le cL).trans (ov.of_map _))
  ·rcases hsub e he with h1 | rfl
   ·exact s3.aG e h1
   ·exact ⟨by show h.nx<h3.nx; omega,g3,hq3⟩
  ·rcases hsub e he with h1 | rfl
   ·exact s3.good e h1
   ·exact ⟨h0,vq2,afT,by show Q2.length≤128; omega⟩
theorem Re (x:Int) (r:R5) (b:Nat) (h:Heap) (κ:KQ) (hlo:h.lo≤h.nx) (hb:b<h.nx) (hg:h.bl.get b=some (af [.int .i64 x] 3 false)) (hk:∀h',Le h h'→κ (.bool (decide (r.x=x))) h') :
  CallW Tryz.prog 131 [ji r,ptrTo b] h κ:=by
 have hk:=hk _ ((Le.refl h).new (fq r))
 refine aq mixed ?_
 rw[Vp]
 simp(disch:=first|omega|simp only[Wd]<;>omega|with_unfolding_all rfl)only[Wz,aW,hg]
 exact hk
theorem Ep {h:Heap} {bb bm bp bl most:Nat} {M:List HE} {clock:Nat} {F:List Int} {B:List Bool} (s:bg h bb bm bp bl most M clock F B) (hlo:h.lo≤h.nx) (t r x:Int) (κ:KQ)
  (dK:∀h',(∀e∈M,t=e.t→r=e.r→∀p∈e.Q,p.x≠x)→Le h h'→κ (.tuple ⟨[.int .i64 0,.bool false]⟩) h')
  (fF:∀h' e p,e∈M→t=e.t→r=e.r→p∈e.Q→p.x=x→Le h h'→κ (.tuple ⟨[.int .i64 p.id,.bool true]⟩) h') :
  CallW Tryz.prog 90 [.pointer (some ⟨bb,0,none⟩),dz t r,.int .i64 x] h κ:=by
 refine aq mixed ?_
 rw[aap]
 simp(disch:=first|omega|simp only[Wd]<;>omega|with_unfolding_all rfl)only[Wz,dz]
 obtain ⟨hA,az⟩:∃hA:Heap,hA=⟨h.nx+1+1,((h.bl.bf (h.nx) (af [.int .i64 t,.int .i64 r] 24 false)).bf (h.nx+1) (af [.int .i64 x] 3 false)),h.lo⟩:=⟨_,rfl⟩
 have aH:Le h hA:=by subst az; exact (((Le.refl h).new _).new _)
 have g1:hA.bl.get (h.nx)=some (af [.int .i64 t,.int .i64 r] 24 false):=by subst az; exact (T.aj _ _ (by omega)).trans (T.aa _ _ _)
 have g3:hA.bl.get (h.nx+1)=some (af [.int .i64 x] 3 false):=by subst az; exact T.aa _ _ _
 have dF:hA.nx=h.nx+1+1:=by subst az; rfl
 have dG:hA.lo=h.lo:=by subst az; rfl
 rw[←az]
 clear az
 have sA:=s.le aH
 have gb:=sA.gG
 have gm:=sA.iT
 by_cases hc:∃e∈M,t=e.t∧r=e.r
 case neg=>
  have hn:∀e∈M,¬(t=e.t∧r=e.r):=fun e he h=>hc ⟨e,he,h⟩
  have eL:=Af (β:=Option Value) (fl:=none) gm t r hn
  unfold dz at eL
  simp(disch:=first|omega|simp only[Wd]<;>omega|with_unfolding_all rfl)only[Wz,fL,BK,aU,gb,g1,eL]
  exact dK _ (fun e he h1 h2=>absurd ⟨h1,h2⟩ (hn e he)) aH
 obtain ⟨e,he,rfl,rfl⟩:=hc
 have eL:=En (β:=Option Value) (fl:=none) sA.ok gm he
 unfold dz at eL
 have H:=sA.aG e he
 have hlt:=H.lt
 have gd:=sA.good e he
 have vl:=gd.small
 obtain ⟨qx,qc,eq,_⟩:=(show Sl aW hA e.q e.Q from H.qv.1)
 have gh:=H.get
 rw[eq] at gh
 simp(disch:=first|omega|simp only[Wd]<;>omega|with_unfolding_all rfl)only[Wz,fL,BK,aU,gb,g1,eL,IT,gh]
 rw[←eq]
 refine x_ e.Q (fun p=>decide (p.x=x)) hA _ _ _ H.qv.1 (by omega) ?_ ?_
 ·intro p _ h1 κ1 l1 fF
  simp(disch:=first|omega|simp only[Wd]<;>omega|with_unfolding_all rfl)only[Wz,List.nil_append,List.cons_append]
  refine Re x p (h.nx+1) h1 κ1 (by have:=l1.lo; have:=l1.nx; omega) (by have:=l1.nx; omega) ((l1.get _ (by omega)).trans g3) fF
 intro h2 aZ
 have gh2:=(aZ.get _ hlt).trans gh
 have fM:=aH.trans aZ
 rcases iJ e.Q (fun p=>decide (p.x=x)) with ⟨ei,hf⟩ | ⟨i,p,ei,hp,h1,h2⟩
 ·rw[ei]
  simp(disch:=first|omega|simp only[Wd]<;>omega|with_unfolding_all rfl)only[Wz,dy]
  exact dK h2 (fun e' he' h1 h2 p hp=>by rw[sA.ok.uniq he' he h1.symm h2.symm] at hp; have:=hf p hp; simpa using this) fM
 ·rw[ei]
  obtain ⟨b,o,hb,Fh,_,hid,_⟩:=tf (H.qv.1.le aZ) i hp
  rw[eq] at Fh
  simp(disch:=first|omega|simp only[Wd]<;>omega|with_unfolding_all rfl)only[Wz,dy,bL (show (0:Int)≤(i:Int) by omega),IS,aU,gh2,Fh,hid]
  exact fF _ e p he rfl rfl (List.mem_of_getElem? hp) (by simpa using h1) fM
def eT (M:List HE):List Int:=M.flatMap fun e=>e.Q.map (·.id)
def eW (B:List Bool):List Int:=((List.range B.length).filter fun n=>(B[n]?).getD false).map fun n:Nat=>(n:Int)
theorem jU {B:List Bool} {x:Int}:x∈eW B↔∃n:Nat,x=(n:Int)∧B[n]? = some true:=by
 unfold eW
 rw[List.mem_map]
 constructor
 ·rintro ⟨n,hn,rfl⟩
  rw[List.mem_filter,List.mem_range] at hn
  refine ⟨n,rfl,?_⟩
  have h2:=hn.2
  rw[List.getElem?_eq_getElem hn.1] at h2 ⊢
  simpa using h2
 ·rintro ⟨n,rfl,h⟩
  refine ⟨n,List.mem_filter.2 ⟨List.mem_range.2 (List.getElem?_eq_some_iff.1 h).1,by rw[h]; rfl⟩,rfl⟩
theorem ym {L:List Nat} (h:L.Nodup):(L.map fun n:Nat=>(n:Int)).Nodup:=by
 rw[List.Nodup,List.pairwise_map]
 exact h.imp fun hne e=>hne (Int.ofNat.inj e)
theorem rB (B:List Bool):(eW B).Nodup:=ym (List.nodup_range.filter _)
theorem yo {L:List Int} {x:Int} (h:L.Nodup) (hx:x∉L):(L++[x]).Nodup:=by
 rw[List.nodup_append]
 refine ⟨h,by simp,fun a ha b hb=>?_⟩
 rw[List.mem_singleton] at hb; subst hb
 rintro rfl; exact hx ha
theorem Ag {B:List Bool} {n:Nat} (h:B[n]? = some false):(eW (B.set n true)).Perm (eW B++[(n:Int)]):=by
 have hn:n<B.length:=(List.getElem?_eq_some_iff.1 h).1
 refine (List.perm_ext_iff_of_nodup (rB _) (yo (rB _) fun hm=>?_)).2 fun x=>?_
 ·obtain ⟨k,e,hk⟩:=jU.1 hm
  have:k=n:=(Int.ofNat.inj e).symm
  subst this; rw[h] at hk; cases hk
 ·rw[List.mem_append,List.mem_singleton,jU,jU]
  constructor
  ·rintro ⟨k,rfl,hk⟩
   by_cases hkn:k=n
   ·exact .inr (by rw[hkn])
   ·rw[List.getElem?_set,if_neg (fun e=>hkn e.symm)] at hk
    exact .inl ⟨k,rfl,hk⟩
  ·rintro (⟨k,rfl,hk⟩ | rfl)
   ·refine ⟨k,rfl,?_⟩
    rw[List.getElem?_set]
    split
    ·rename_i e; exact absurd (by rw[←e,h] at hk; exact hk:some false=some true) (by simp)
    ·exact hk
   ·exact ⟨n,rfl,by rw[List.getElem?_set,if_pos rfl,if_pos hn]⟩
theorem KC {B:List Bool} {n:Nat} (h:B[n]? = some true):(eW B).Perm (eW (B.set n false)++[(n:Int)]):=by
 have hn:n<B.length:=(List.getElem?_eq_some_iff.1 h).1
 have:=Ag (B:=B.set n false) (n:=n) (by rw[List.getElem?_set,if_pos rfl,if_pos hn])
 rw[List.set_set] at this
 have e:B.set n true=B:=by
  refine List.ext_getElem? fun k=>?_
  rw[List.getElem?_set]
  split
  ·rename_i e; rw[←e,h]
  ·rfl
 rwa [e] at this
theorem jV {F:List Int} {B:List Bool} (o:j_ F B):(eW B).length+F.length=B.length:=by
 have hp:F.Perm (((List.range B.length).filter fun n=>!(B[n]?).getD false).map fun n:Nat=>(n:Int)):=by
  refine (List.perm_ext_iff_of_nodup o.nodup (ym (List.nodup_range.filter _))).2 fun x=>?_
  rw[List.mem_map]
  constructor
  ·intro hx
   obtain ⟨n,rfl⟩:∃n:Nat,x=(n:Int):=⟨x.toNat,by have:=o.pos x hx; omega⟩
   have hb:=(o.mem n).1 hx
   exact ⟨n,List.mem_filter.2 ⟨List.mem_range.2 (List.getElem?_eq_some_iff.1 hb).1,by rw[hb]; rfl⟩,rfl⟩
  ·rintro ⟨n,hn,rfl⟩
   rw[List.mem_filter,List.mem_range] at hn
   refine (o.mem n).2 ?_
   have h2:=hn.2
   rw[List.getElem?_eq_getElem hn.1] at h2 ⊢
   simpa using h2
 rw[hp.length_eq]
 unfold eW
 rw[List.length_map,List.length_map,←List.countP_eq_length_filter,←List.countP_eq_length_filter]
 have:=List.length_eq_countP_add_countP (fun n=>(B[n]?).getD false) (l:=List.range B.length)
 rw[List.length_range] at this
 have e2:List.countP (fun n=>!(B[n]?).getD false) (List.range B.length)=List.countP (fun a=>decide ¬(B[a]?).getD false=true) (List.range B.length):=List.countP_congr fun x _=>by simp
 omega
theorem mu (M N:List HE):eT (M++N)=eT M++eT N:=List.flatMap_append
theorem qq {M N:List HE} (h:M.Perm N):(eT M).Perm (eT N):=h.flatMap_right _
theorem sH (e:HE):eT [e]=e.Q.map (·.id):=by simp[eT]
theorem nu {M:List HE} {clock:Nat} (o:e_ M clock) {e:HE} (he:e∈M):M.Perm (M.filter (fun x=>!uc e.t e.r x)++[e]):=by
 obtain ⟨j,hj,rfl⟩:=List.mem_iff_getElem.1 he
 rw[←erase_filter o.nm (List.getElem?_eq_getElem hj)]
 have:M=M.set j M[j]:=by simp
 refine (List.Perm.of_eq this).trans ?_
 rw[List.set_eq_take_append_cons_drop,if_pos hj,List.eraseIdx_eq_take_drop_succ]
 exact (List.perm_middle).trans (List.perm_append_singleton _ _).symm
theorem ue {M:List HE} {t r:Int} (hn:∀e∈M,¬(t=e.t∧r=e.r)):M.filter (fun x=>!uc t r x)=M:=List.filter_eq_self.2 fun x hx=>uP.2 (hn x hx)
theorem eN.ids {M M':List HE} {t r w:Int} {Q:List R5} (s:eN M M' t r w Q):(eT M').Perm (eT (M.filter fun x=>!uc t r x)++Q.map (·.id)):=by
 by_cases h0:Q=[]
 ·rw[s.gone h0,h0]; simp
 ·obtain ⟨e,_,_,_,eq,hp⟩:=s.put h0
  have:=qq hp
  rw[mu,sH,eq] at this
  exact this
theorem yp {Q:List R5} {W:Int} (v:VQ Q W) (n:Nat):(bP n Q).1.map (·.id)=Q.map (·.id):=by
 have:=congrArg (List.map Prod.fst) (vK n v).2.1
 simpa[List.map_map,Function.comp_def,F0] using this
def qP (M:List HE) (B:List Bool):Prop:=∃X,(eT M++X).Perm (eW B)
theorem qP.find {M:List HE} {B:List Bool} (i:qP M B) {e:HE} (he:e∈M) {p:R5} (hp:p∈e.Q):∃n:Nat,p.id=(n:Int)∧B[n]? = some true:=by
 obtain ⟨X,hX⟩:=i
 exact jU.1 (hX.mem_iff.1 (List.mem_append.2 (.inl (List.mem_flatMap.2 ⟨e,he,List.mem_map.2 ⟨p,hp,rfl⟩⟩))))
theorem QV.frame {h h':Heap} {q:Value} {Q:List R5} (v:QV h q Q) (hn:h.nx≤h'.nx) (hg:∀c vs op,c<h.nx→h.bl.get c=some (af vs 54 op)→h'.bl.get c=h.bl.get c):QV h' q Q:=by
 obtain ⟨hs,ht⟩:=v
 constructor
 ·obtain ⟨x,cap,rfl,h2⟩:=hs
  refine ⟨x,cap,rfl,fun hne=>?_⟩
  obtain ⟨b,o,rfl,h3,h4⟩:=h2 hne
  obtain ⟨h1,vs,op,h5⟩:=ht b o _ cap rfl (by intro h0; exact hne (List.eq_nil_of_length_eq_zero h0))
  refine ⟨b,o,rfl,Nat.lt_of_lt_of_le h3 hn,?_⟩
  rw[hg b vs op h1 h5]; exact h4
 ·intro b o n c hv hn0
  obtain ⟨h1,vs,op,h2⟩:=ht b o n c hv hn0
  exact ⟨Nat.lt_of_lt_of_le h1 hn,vs,op,(hg b vs op h1 h2).trans h2⟩
theorem kf.pK {h h':Heap} {bp bl:Nat} {F:List Int} {B:List Bool} {e:HE} (a:kf h e) (p:ec h bp bl F B) (f:I6 bp bl h h'):kf h' e:=by
 have fn:=f.nx
 obtain ⟨fs,v_,hpt⟩:=p.fr.cell
 have gl:=p.cell
 have key:∀c vs ty,c<h.nx→h.bl.get c=some (af vs ty false)→ty≠132→ty≠4→h'.bl.get c=h.bl.get c:=fun c vs ty hc hg h1 h2=>
  f.get c hc (by rintro rfl; rw[hg] at v_; exact aL h1 v_) (by rintro rfl; rw[hg] at gl; exact aL h2 gl) fun ws=>by rw[hg]; exact aO
 have al:=a.lt
 refine ⟨by omega,(key _ _ _ al a.get (by decide) (by decide)).trans a.get,a.qv.frame fn fun c vs op hc hg=>?_⟩
 exact f.get c hc (by rintro rfl; rw[hg] at v_; exact aL (by decide) v_) (by rintro rfl; rw[hg] at gl; exact aL (by decide) gl) fun ws=>by rw[hg]; exact aL (by decide)
theorem bg.pK {h h':Heap} {bb bm bp bl most:Nat} {M:List HE} {clock:Nat} {F F':List Int} {B B':List Bool} (s:bg h bb bm bp bl most M clock F B) (p:ec h' bp bl F' B') (f:I6 bp bl h h'):bg h' bb bm bp bl most M clock F' B':=by
 have fn:=f.nx
 have fl:=f.lo
 have sb:=s.KB
 have sm:=s.Fg
 obtain ⟨fs,v_,hpt⟩:=s.bM.fr.cell
 have gl:=s.bM.cell
 have key:∀c vs ty,c<h.nx→h.bl.get c=some (af vs ty false)→ty≠132→ty≠4→h'.bl.get c=h.bl.get c:=fun c vs ty hc hg h1 h2=>
  f.get c hc (by rintro rfl; rw[hg] at v_; exact aL h1 v_) (by rintro rfl; rw[hg] at gl; exact aL h2 gl) fun ws=>by rw[hg]; exact aO
 have gm:=s.iT
 have km:h'.bl.get bm=h.bl.get bm:=f.get bm sm (by rintro rfl; rw[v_] at gm; exact bN gm.symm) (by rintro rfl; rw[gl] at gm; exact bN gm.symm) fun ws=>by rw[gm]; exact bN
 refine ⟨by omega,by omega,by rw[fl]; exact s.Rb,(key bb _ _ sb s.gG (by decide) (by decide)).trans s.gG,km.trans gm,s.ok,fun e he=>?_,s.good,p,s.ne⟩
 exact (s.aG e he).pK s.bM f
theorem Rf (Q:List R5) (W id x m:Int):(cv Q W id x m).1.id=id:=by unfold cv; split<;>rfl
structure lF (h h':Heap) (bb bm bp bl most:Nat) (M M':List HE) (clock':Nat) (F F':List Int) (B:List Bool) (t r x m:Int) (n:Nat) (g:Bool):Prop where
 is:bg h' bb bm bp bl most M' clock' F' (B.set n true)
 free:((n:Int)::F').Perm F
 old:B[n]? = some false
 least:∀k,k<n→B[k]? = some true
 fr:ov bm bp bl h h'
 set:∃Q w,((∃e∈M,e.t=t∧e.r=r∧e.Q=Q∧e.w=w)∨((∀e∈M,¬(t=e.t∧r=e.r))∧M.length<most∧Q=[]∧w=0))∧VQ Q w∧VQ (Q++[(cv Q w n x m).1]) (cv Q w n x m).2.1∧g=(cv Q w n x m).2.2∧
  eN M M' t r (cv Q w n x m).2.1 (bP (cF (Q++[(cv Q w n x m).1])+1) (Q++[(cv Q w n x m).1])).1
theorem Ah {h h0:Heap} {bb bm bp bl most:Nat} {M:List HE} {clock:Nat} {F:List Int} {B:List Bool} (s:bg h bb bm bp bl most M clock F B) (hlo:h.lo≤h.nx) (l0:Le h0 h) (ids:qP M B) (hF:F.length≤1000) (N:Nat) (hN:N≤100000) (hw:∀e∈M,e.w≤N) (t r x m:Int) (am:br m=true) (l:List Value) (ph:Nat) (Q:List R5) (q:Value) (w:Int)
  (hl:slot l 18=.pointer (some ⟨ph,0,none⟩)) (hp:ph<h.nx) (gp:h.bl.get ph=some (cW t r q w)) (hq:QV h q Q) (vq:VQ Q w) (vl:F≠[]→Q.length≤127) (hwN:w≤N) (hx:∀p∈Q,p.x≠x) (lR:∀p∈Q,∃k:Nat,p.id=(k:Int)∧B[k]? = some true)
  (hold:((∃e∈M,e.t=t∧e.r=r∧e.Q=Q∧e.w=w)∨((∀e∈M,¬(t=e.t∧r=e.r))∧M.length<most∧Q=[]∧w=0)))
  (κ:KQ)
  (hkF:∀h',F=[]→Le h0 h'→κ (.tuple ⟨[.int .i64 0,.bool false,.int .i64 8]⟩) h')
  (Ck:∀M' clock' F' h' n g,lF h0 h' bb bm bp bl most M M' clock' F F' B t r x m n g→κ (.tuple ⟨[.int .i64 (n:Int),.bool g,.int .i64 0]⟩) h') :
  Bz (.pointer (some ⟨bb,0,none⟩)) l (.int .i64 x) (.int .i64 m) h κ:=by
 have gb:=s.gG
 simp(disch:=first|omega|simp only[Wd]<;>omega|with_unfolding_all rfl)only[Wz,Bz,aU,gb]
 refine WC bp bl F B h _ s.bM hF hlo s.ne ?_ ?_
 ·intro h0'
  simp(disch:=first|omega|simp only[Wd]<;>omega|with_unfolding_all rfl)only[Wz]
  exact hkF h h0' l0
 intro h2 F' n p2 hp2 hb rA zp
 have s2:=s.pK p2 zp
 have n2:=zp.nx
 have l2:=zp.lo
 have hF0:F≠[]:=by rintro rfl; have:=hp2.length_eq; simp at this
 have vl:=vl hF0
 have H2:=kf.pK (e:=⟨t,r,ph,0,q,w,Q⟩) ⟨hp,gp,hq⟩ s.bM zp
 have g2:h2.bl.get ph=some (cW t r q w):=H2.get
 have i_:QV h2 q Q:=H2.qv
 obtain ⟨qx,qc,rfl,_⟩:=(show Sl aW h2 q Q from i_.1)
 simp(disch:=first|omega|simp only[Wd]<;>omega|with_unfolding_all rfl)only[Wz,Ix,hl,aU,g2]
 have hn:∀p∈Q,p.id≠(n:Int)∧p.x≠x:=fun p hp'=>⟨fun e=>by
  obtain ⟨k,e1,e2⟩:=lR p hp'
  have:k=n:=by omega
  rw[this,hb] at e2
  exact absurd e2 (by simp),hx p hp'⟩
 refine aaU t r _ w (n:Int) x m Q h2 _ i_.1 (by omega) (by omega) ⟨vq.w0,by omega⟩ (by omega) am hn ?_
 intro q3 h3 mH cL
 have n3:=cL.nx
 have l3:=cL.lo
 have v3:=vq.ask (id:=(n:Int)) (x:=x) (m:=m) (by omega) am hn
 obtain ⟨vW,vX,rfl,_⟩:=(show Sl aW h3 q3 _ from mH.sl)
 simp(disch:=first|omega|simp only[Wd]<;>omega|with_unfolding_all rfl)only[Wz,cG]
 have gK:Le h2 ⟨h3.nx+1,h3.bl.bf h3.nx (cW t r (.slice vW (Q++[(cv Q w n x m).1]).length vX) (cv Q w n x m).2.1),h3.lo⟩:=cL.new _
 have lh4:Le h3 ⟨h3.nx+1,h3.bl.bf h3.nx (cW t r (.slice vW (Q++[(cv Q w n x m).1]).length vX) (cv Q w n x m).2.1),h3.lo⟩:=(Le.refl h3).new _
 have s4:=s2.le gK
 refine nr s4 (by show h3.lo≤h3.nx+1; omega) t r _ _ _ _ ((mH.sl).le lh4) v3 (by simp; omega) ?_
 intro M' clock' v' h' s5 g_ tV Fi
 exact Ck M' clock' F' h' n _ ⟨s5,hp2,hb,rA,(ov.of_le l0).trans ((ov.WG zp).trans ((ov.of_le gK).trans Fi)),Q,w,hold,vq,v3,rfl,g_⟩
theorem qP.len {M:List HE} {F:List Int} {B:List Bool} (i:qP M B) (o:j_ F B) {e:HE} (he:e∈M):e.Q.length+F.length≤B.length:=by
 have h1:=jV o
 obtain ⟨X,hX⟩:=i
 have h2:=hX.length_eq
 rw[List.length_append] at h2
 have:e.Q.length≤(eT M).length:=by
  have hs:=List.append_of_mem he
  obtain ⟨s,t,rfl⟩:=hs
  simp[eT]; omega
 omega
theorem Rg {h:Heap} {bb bm bp bl most:Nat} {M:List HE} {clock:Nat} {F:List Int} {B:List Bool} (s:bg h bb bm bp bl most M clock F B) (hlo:h.lo≤h.nx) (ids:qP M B) (N:Nat) (hN:N≤100000) (hw:∀e∈M,e.w≤N) (t r x m:Int) (κ:KQ)
  (hk2:∀h',br m=false→Le h h'→κ (.tuple ⟨[.int .i64 0,.bool false,.int .i64 2]⟩) h')
  (wY:∀h' e p,br m=true→e∈M→t=e.t→r=e.r→p∈e.Q→p.x=x→Le h h'→κ (.tuple ⟨[.int .i64 0,.bool false,.int .i64 4]⟩) h')
  (KD:∀h',br m=true→(∀e∈M,t=e.t→r=e.r→∀p∈e.Q,p.x≠x)→(F=[]∨((∀e∈M,¬(t=e.t∧r=e.r))∧most≤M.length))→Le h h'→κ (.tuple ⟨[.int .i64 0,.bool false,.int .i64 8]⟩) h')
  (Ck:∀M' clock' F' h' n g,br m=true→(∀e∈M,t=e.t→r=e.r→∀p∈e.Q,p.x≠x)→lF h h' bb bm bp bl most M M' clock' F F' B t r x m n g→κ (.tuple ⟨[.int .i64 (n:Int),.bool g,.int .i64 0]⟩) h') :
  CallW Tryz.prog 46 [.pointer (some ⟨bb,0,none⟩),dz t r,.int .i64 x,.int .i64 m] h κ:=by
 refine aq mixed ?_
 rw[ZP]
 have WH:F.length≤1000:=by have:=jV s.bM.ok; have:=s.bM.small; omega
 simp(disch:=first|omega|simp only[Wd]<;>omega|with_unfolding_all rfl)only[Wz,dz]
 obtain ⟨hA,az⟩:∃hA:Heap,hA=⟨h.nx+1,(h.bl.bf (h.nx) (af [.int .i64 t,.int .i64 r] 24 false)),h.lo⟩:=⟨_,rfl⟩
 have aH:Le h hA:=by subst az; exact ((Le.refl h).new _)
 have g1:hA.bl.get (h.nx)=some (af [.int .i64 t,.int .i64 r] 24 false):=by subst az; exact T.aa _ _ _
 have dF:hA.nx=h.nx+1:=by subst az; rfl
 have dG:hA.lo=h.lo:=by subst az; rfl
 rw[←az]
 clear az
 have sA:=s.le aH
 simp(disch:=first|omega|simp only[Wd]<;>omega|with_unfolding_all rfl)only[Wz,fL,Iz]
 by_cases h0:m=0
 ·simp(disch:=first|omega|simp only[Wd]<;>omega|with_unfolding_all rfl)only[Wz,aM h0]
  exact hk2 _ (by simp[br,h0]) aH
 simp(disch:=first|omega|simp only[Wd]<;>omega|with_unfolding_all rfl)only[Wz,aK h0]
 refine vS m ?_
 cases hkn:kn m with
 | false=>
  simp(disch:=first|omega|simp only[Wd]<;>omega|with_unfolding_all rfl)only[Wz]
  exact hk2 _ (by simp[br,hkn]) aH
 | true=>
 have am:br m=true:=by simp[br,hkn,h0]
 simp(disch:=first|omega|simp only[Wd]<;>omega|with_unfolding_all rfl)only[Wz,Iy,g1]
 refine Ep sA (by omega) t r x _ ?_ ?_
 case _=>
  intro h2 hno aZ
  have fM:=aH.trans aZ
  have s2:=sA.le aZ
  have n2:=aZ.nx
  have l2:=aZ.lo
  have gb:=s2.gG
  have gm:=s2.iT
  have g1:=(aZ.get _ (by omega)).trans g1
  by_cases hc:∃e∈M,t=e.t∧r=e.r
  ·obtain ⟨e,he,rfl,rfl⟩:=hc
   have eL:=En (β:=Option Value) (fl:=none) s2.ok gm he
   unfold dz at eL
   have H:=s2.aG e he
   have hgd:=s2.good e he
   simp(disch:=first|omega|simp only[Wd]<;>omega|with_unfolding_all rfl)only[Wz,BA,aU,gb,g1,eL]
   refine ⟨fun l h'=>slot l 18=.pointer (some ⟨e.hb,0,none⟩)∧HQ h2 h',⟨rfl,rfl⟩,?_⟩
   rintro l h' ⟨hl,hq⟩
   cases (show h2=h' from hq)
   refine Ah s2 (by omega) fM ids WH N hN hw e.t e.r x m am l e.hb e.Q e.q e.w hl H.lt H.get H.qv hgd.vq (fun hF0=>?_) (hw e he) (hno e he rfl rfl) (fun p hp=>ids.find he hp) (.inl ⟨e,he,rfl,rfl,rfl,rfl⟩) κ (fun h' h1 h3=>KD h' am hno (.inl h1) h3) fun M' clock' F' h' n g hA=>Ck M' clock' F' h' n g am hno hA
   have:=ids.len s.bM.ok he
   have:=s.bM.small
   have:=List.length_pos_iff.2 hF0
   omega
  ·have hn:∀e∈M,¬(t=e.t∧r=e.r):=fun e he h=>hc ⟨e,he,h⟩
   have eL:=Af (β:=Option Value) (fl:=none) gm t r hn
   unfold dz at eL
   simp(disch:=first|omega|simp only[Wd]<;>omega|with_unfolding_all rfl)only[Wz,BA,aU,gb,g1,eL]
   by_cases hfull:M.length<most
   ·obtain ⟨hB,eB⟩:∃hB:Heap,hB=⟨h2.nx+1,h2.bl.bf h2.nx (cW t r (.slice none 0 0) 0),h2.lo⟩:=⟨_,rfl⟩
    have NW:Le h2 hB:=by rw[eB]; exact (Le.refl h2).new _
    have gB:hB.bl.get h2.nx=some (cW t r (.slice none 0 0) 0):=by rw[eB]; exact T.aa _ _ _
    have nB:hB.nx=h2.nx+1:=by rw[eB]
    have lB:hB.lo=h2.lo:=by rw[eB]
    refine ⟨fun l h'=>slot l 18=.pointer (some ⟨h2.nx,0,none⟩)∧HQ hB h',?_,?_⟩
    ·simp(disch:=first|omega|simp only[Wd]<;>omega|with_unfolding_all rfl)only[Wz,By,aU,gb,g1,kT,gm,bR,List.length_map,aM (show Int.ofNat M.length<(most:Int) from by show (M.length:Int)<_; omega),Bool.not_true]
     exact ⟨trivial,eB⟩
    ·rintro l h' ⟨hl,hq⟩
     cases (show hB=h' from hq)
     have sB:=s2.le NW
     exact Ah sB (by omega) (fM.trans NW) ids WH N hN hw t r x m am l h2.nx [] (.slice none 0 0) 0 hl (by omega) gB ⟨Sl.nil _ _ _,fun b o n c hv _=>nomatch hv⟩ VQ.nil (fun _=>by simp) (by omega) (fun p hp=>nomatch hp) (fun p hp=>nomatch hp) (.inr ⟨hn,hfull,rfl,rfl⟩) κ (fun h' h1 h3=>KD h' am hno (.inl h1) h3) fun M' clock' F' h' n g hA=>Ck M' clock' F' h' n g am hno hA
   ·refine ⟨fun l h'=>False,?_,fun _ _ h=>h.elim⟩
    simp(disch:=first|omega|simp only[Wd]<;>omega|with_unfolding_all rfl)only[Wz,By,aU,gb,g1,kT,gm,bR,List.length_map,aK (show ¬Int.ofNat M.length<(most:Int) from by show ¬(M.length:Int)<_; omega),Bool.not_false]
    exact KD h2 am hno (.inr ⟨hn,by omega⟩) fM
 case _=>
  intro h2 e p he ht hr hp hx aZ
  simp(disch:=first|omega|simp only[Wd]<;>omega|with_unfolding_all rfl)only[Wz]
  exact wY h2 e p am he ht hr hp hx (aH.trans aZ)
structure iF (h h':Heap) (bb bm bp bl most:Nat) (M M':List HE) (clock':Nat) (F':List Int) (B':List Bool) (e:HE) (Q1:List R5) (w1:Int):Prop where
 is:bg h' bb bm bp bl most M' clock' F' B'
 fr:ov bm bp bl h h'
 vq:VQ Q1 w1
 set:eN M M' e.t e.r w1 (bP (cF Q1+1) Q1).1
theorem pL {Q:List R5} {W:Int} (v:VQ Q W) {id:Int} {p:R5} (hf:bq Q id=some p):∃i:Nat,Q[i]? = some p∧p.id=id:=by
 obtain ⟨h1,h2⟩:=c9 hf
 obtain ⟨i,hi⟩:=List.mem_iff_getElem?.1 h1
 exact ⟨i,hi,h2⟩
theorem Er {h:Heap} {bb bm bp bl most:Nat} {M:List HE} {clock:Nat} {F:List Int} {B:List Bool} (s:bg h bb bm bp bl most M clock F B) (hlo:h.lo≤h.nx) (N:Nat) (hN:N≤100000) (hw:∀e∈M,e.w≤N) (id m:Int) (κ:KQ)
  (hk2:∀h',br m=false→Le h h'→κ (.tuple ⟨[.bool false,.int .i64 2]⟩) h')
  (qz:∀h',br m=true→(∀e∈M,bq e.Q id=none)→Le h h'→κ (.tuple ⟨[.bool false,.int .i64 5]⟩) h')
  (sI:∀h' e p,br m=true→e∈M→bq e.Q id=some p→0<p.s→Le h h'→κ (.tuple ⟨[.bool false,.int .i64 7]⟩) h')
  (dK:∀h' M' clock' e p i,br m=true→e∈M→e.Q[i]? = some p→bq e.Q id=some p→¬0<p.s→iF h h' bb bm bp bl most M M' clock' F B e (e.Q.set i (dB e.Q e.w p m).1) (dB e.Q e.w p m).2.1→κ (.tuple ⟨[.bool (dB e.Q e.w p m).2.2,.int .i64 0]⟩) h') :
  CallW Tryz.prog 103 [.pointer (some ⟨bb,0,none⟩),.int .i64 id,.int .i64 m] h κ:=by
 refine aq mixed ?_
 rw[U4]
 simp(disch:=first|omega|simp only[Wd]<;>omega|with_unfolding_all rfl)only[Wz,fL,Dt]
 refine NU s hlo id _ ?_ ?_
 ·intro h1 hno bu
  have n1:=bu.nx
  have l1:=bu.lo
  simp(disch:=first|omega|simp only[Wd]<;>omega|with_unfolding_all rfl)only[Wz,nk]
  obtain ⟨hA,az⟩:∃hA:Heap,hA=⟨h1.nx+1,(h1.bl.bf (h1.nx) (cW 0 0 (.slice none 0 0) 0)),h1.lo⟩:=⟨_,rfl⟩
  have aH:Le h1 hA:=by subst az; exact ((Le.refl h1).new _)
  have g7:hA.bl.get (h1.nx)=some (cW 0 0 (.slice none 0 0) 0):=by subst az; exact T.aa _ _ _
  have dF:hA.nx=h1.nx+1:=by subst az; rfl
  have dG:hA.lo=h1.lo:=by subst az; rfl
  rw[←az]
  clear az
  refine ⟨fun l h'=>slot l 4=.pointer (some ⟨h1.nx,0,none⟩)∧HQ hA h',⟨rfl,rfl⟩,?_⟩
  rintro l h' ⟨hl,hq⟩
  cases (show hA=h' from hq)
  simp(disch:=first|omega|simp only[Wd]<;>omega|with_unfolding_all rfl)only[Wz,xz,hl,aU,g7]
  refine yf 0 0 _ 0 id m [] hA _ (Sl.nil _ _ _) (by simp) (by omega) (by omega) ?_ ?_ ?_ ?_
  ·intro ha h2 aZ
   have:=aZ.nx
   have:=aZ.lo
   simp(disch:=first|omega|simp only[Wd]<;>omega|with_unfolding_all rfl)only[Wz,cG]
   exact hk2 _ ha (((bu.trans aH).trans aZ).new _)
  ·intro ha _ h2 aZ
   have:=aZ.nx
   have:=aZ.lo
   simp(disch:=first|omega|simp only[Wd]<;>omega|with_unfolding_all rfl)only[Wz,cG]
   exact qz _ ha hno (((bu.trans aH).trans aZ).new _)
  ·intro ha p hf; cases hf
  ·intro ha i p hi; simp at hi
 ·intro h1 e p0 he d_ bu
  have n1:=bu.nx
  have l1:=bu.lo
  have s1:=s.le bu
  have H:=s1.aG e he
  have hlt:=H.lt
  have gd:=s1.good e he
  have vl:=gd.small
  obtain ⟨qx,qc,eq,_⟩:=(show Sl aW h1 e.q e.Q from H.qv.1)
  have gh:=H.get
  rw[eq] at gh
  have we:=hw e he
  simp(disch:=first|omega|simp only[Wd]<;>omega|with_unfolding_all rfl)only[Wz,pJ]
  refine ⟨fun l h'=>slot l 4=.pointer (some ⟨e.hb,0,none⟩)∧HQ h1 h',⟨rfl,rfl⟩,?_⟩
  rintro l h' ⟨hl,hq⟩
  cases (show h1=h' from hq)
  simp(disch:=first|omega|simp only[Wd]<;>omega|with_unfolding_all rfl)only[Wz,xz,hl,aU,gh]
  refine yf e.t e.r _ e.w id m e.Q h1 _ (by rw[←eq]; exact H.qv.1) (by omega) (by omega) ⟨gd.vq.w0,by omega⟩ ?_ ?_ ?_ ?_
  ·intro ha h2 aZ
   have:=aZ.nx
   have:=aZ.lo
   simp(disch:=first|omega|simp only[Wd]<;>omega|with_unfolding_all rfl)only[Wz,cG]
   exact hk2 _ ha ((bu.trans aZ).new _)
  ·intro ha hf; rw[hf] at d_; cases d_
  ·intro ha p hf hs h2 aZ
   have:=aZ.nx
   have:=aZ.lo
   simp(disch:=first|omega|simp only[Wd]<;>omega|with_unfolding_all rfl)only[Wz,cG]
   exact sI _ e p ha he hf hs ((bu.trans aZ).new _)
  ·intro ha i p hi hf hs q' h2 i_ aZ
   have n2:=aZ.nx
   have l2:=aZ.lo
   obtain ⟨dn,dw,rfl,_⟩:=(show Sl aW h2 q' _ from i_.1)
   have vu:=gd.vq.upg hi hs ha
   simp(disch:=first|omega|simp only[Wd]<;>omega|with_unfolding_all rfl)only[Wz,cG]
   have cL:Le h1 ⟨h2.nx+1,h2.bl.bf h2.nx (cW e.t e.r (.slice dn (e.Q.set i (dB e.Q e.w p m).1).length dw) (dB e.Q e.w p m).2.1),h2.lo⟩:=aZ.new _
   have lh3:Le h2 ⟨h2.nx+1,h2.bl.bf h2.nx (cW e.t e.r (.slice dn (e.Q.set i (dB e.Q e.w p m).1).length dw) (dB e.Q e.w p m).2.1),h2.lo⟩:=(Le.refl h2).new _
   refine nr (s1.le cL) (by show h2.lo≤h2.nx+1; omega) e.t e.r _ _ _ _ (i_.1.le lh3) vu (by rw[List.length_set]; omega) ?_
   intro M' clock' v' h' s5 g_ _ Fi
   exact dK h' M' clock' e p i ha he hi hf hs ⟨s5,(ov.of_le (bu.trans cL)).trans Fi,vu,g_⟩
theorem KE {h:Heap} {bb bm bp bl most:Nat} {M:List HE} {clock:Nat} {F:List Int} {B:List Bool} (s:bg h bb bm bp bl most M clock F B) (hlo:h.lo≤h.nx) (ids:qP M B) (id:Int) (κ:KQ)
  (qz:∀h',(∀e∈M,bq e.Q id=none)→Le h h'→κ (.tuple ⟨[.slice none 0 0,.int .i64 5]⟩) h')
  (dK:∀h' M' clock' F' v' e p (n:Nat),e∈M→bq e.Q id=some p→id=(n:Int)→B[n]? = some true→F'.Perm (F++[(n:Int)])→iF h h' bb bm bp bl most M M' clock' F' (B.set n false) e (e.Q.filter fun r=>!aV id r) e.w→gV h h' v' (bP (cF (e.Q.filter fun r=>!aV id r)+1) (e.Q.filter fun r=>!aV id r)).2→κ (.tuple ⟨[v',.int .i64 0]⟩) h') :
  CallW Tryz.prog 61 [.pointer (some ⟨bb,0,none⟩),.int .i64 id] h κ:=by
 refine aq mixed ?_
 rw[Z1]
 refine NU s hlo id _ ?_ ?_
 ·intro h1 hno bu
  simp(disch:=first|omega|simp only[Wd]<;>omega|with_unfolding_all rfl)only[Wz,nk]
  refine Gf bb h1 _ ?_
  exact qz h1 hno bu
 ·intro h1 e p he hf bu
  have n1:=bu.nx
  have l1:=bu.lo
  have s1:=s.le bu
  have H:=s1.aG e he
  have hlt:=H.lt
  have gd:=s1.good e he
  have vl:=gd.small
  obtain ⟨qx,qc,eq,_⟩:=(show Sl aW h1 e.q e.Q from H.qv.1)
  have gh:=H.get
  rw[eq] at gh
  obtain ⟨n,en,oa⟩:=ids.find he (c9 hf).1
  have I4:id=(n:Int):=by rw[←en]; exact (c9 hf).2.symm
  have WH:F.length≤1000:=by have:=jV s.bM.ok; have:=s.bM.small; omega
  simp(disch:=first|omega|simp only[Wd]<;>omega|with_unfolding_all rfl)only[Wz,pJ,ID,aU,gh]
  refine Q8 e.t e.r _ e.w id e.Q h1 _ (by rw[←eq]; exact H.qv.1) (by omega) (by omega) (by rw[hf]; simp) ?_
  intro q' h2 i_ aZ
  have n2:=aZ.nx
  have l2:=aZ.lo
  obtain ⟨dn,dw,rfl,_⟩:=(show Sl aW h2 q' _ from i_.1)
  have s2:=s1.le aZ
  have gb:=s2.gG
  have hlb:=s2.KB
  simp(disch:=first|omega|simp only[Wd]<;>omega|with_unfolding_all rfl)only[Wz,cG]
  obtain ⟨h3,e3⟩:∃h3:Heap,h3=⟨h2.nx+1,h2.bl.bf h2.nx (cW e.t e.r (.slice dn (e.Q.filter fun r=>!aV id r).length dw) e.w),h2.lo⟩:=⟨_,rfl⟩
  have cL:Le h2 h3:=by rw[e3]; exact (Le.refl h2).new _
  have g3:h3.bl.get h2.nx=some (cW e.t e.r (.slice dn (e.Q.filter fun r=>!aV id r).length dw) e.w):=by rw[e3]; exact T.aa _ _ _
  have n3:h3.nx=h2.nx+1:=by rw[e3]
  have l3:h3.lo=h2.lo:=by rw[e3]
  rw[←e3]
  clear e3
  have s3:=s2.le cL
  have hl:=gd.vq.filter fun r=>!aV id r
  simp(disch:=first|omega|simp only[Wd]<;>omega|with_unfolding_all rfl)only[Wz,gb,I4]
  refine NR bp bl F B n h3 _ s3.bM WH (by omega) s3.ne oa ?_
  intro h4 F' p4 hp4 fr4
  have n4:=fr4.nx
  have l4:=fr4.lo
  have H4:=kf.pK (e:=⟨e.t,e.r,h2.nx,0,_,e.w,_⟩) ⟨by show h2.nx<h3.nx; omega,g3,i_.le cL⟩ s3.bM fr4
  have g4:=H4.get
  simp(disch:=first|omega|simp only[Wd]<;>omega|with_unfolding_all rfl)only[Wz,g4]
  have lf:(e.Q.filter fun r=>!aV id r).length≤e.Q.length:=List.length_filter_le _ _
  refine nr (s3.pK p4 fr4) (by omega) e.t e.r _ _ _ _ H4.qv.1 hl (by show (e.Q.filter fun r=>!aV id r).length≤128; omega) ?_
  intro M' clock' v' h' s5 g_ tV Fi
  have tY:gV h h' v' _:=cU.base tV (by have:=bu.nx; omega)
  exact dK h' M' clock' F' v' e p n he hf I4 oa hp4 ⟨s5,(ov.of_le ((bu.trans aZ).trans cL)).trans ((ov.WG fr4).trans Fi),hl,g_⟩ tY
theorem uQ (Q:List R5) (id:Int):bq (Q.filter fun r=>!aV id r) id=none:=by
 unfold bq
 rw[List.find?_eq_none]
 intro x hx
 rw[List.mem_filter] at hx
 have:=hx.2
 cases h:aV id x with
 | false=>simp
 | true=>rw[h] at this; cases this
theorem Es {Q:List R5} {W:Int} (v:VQ Q W) {i:Nat} {p p':R5} {id:Int} (hi:Q[i]? = some p) (hid:p.id=id) (hp:p'.id=p.id):∃o,bq (Q.set i p') id=some o:=by
 cases h:bq (Q.set i p') id with
 | some o=>exact ⟨o,rfl⟩
 | none=>
  obtain ⟨hl,_⟩:=List.getElem?_eq_some_iff.1 hi
  exact absurd (hp.trans hid) (nS h p' (List.mem_of_getElem? (i:=i) (by rw[List.getElem?_set,if_pos rfl,if_pos hl])))
theorem Et {h:Heap} {bb bm bp bl most:Nat} {M:List HE} {clock:Nat} {F:List Int} {B:List Bool} (s:bg h bb bm bp bl most M clock F B) (hlo:h.lo≤h.nx) (ids:qP M B) (id:Int) (κ:KQ)
  (qz:∀h',(∀e∈M,bq e.Q id=none)→Le h h'→κ (.tuple ⟨[.slice none 0 0,.int .i64 5]⟩) h')
  (sI:∀h' e p,e∈M→bq e.Q id=some p→¬0<p.s→Le h h'→κ (.tuple ⟨[.slice none 0 0,.int .i64 7]⟩) h')
  (dK:∀h' M' clock' F' v' e p (n:Nat),e∈M→bq e.Q id=some p→0<p.s→p.m=0→id=(n:Int)→B[n]? = some true→F'.Perm (F++[(n:Int)])→iF h h' bb bm bp bl most M M' clock' F' (B.set n false) e (e.Q.filter fun r=>!aV id r) e.w→gV h h' v' (bP (cF (e.Q.filter fun r=>!aV id r)+1) (e.Q.filter fun r=>!aV id r)).2→κ (.tuple ⟨[v',.int .i64 0]⟩) h')
  (fF:∀h' M' clock' v' e p i,e∈M→e.Q[i]? = some p→bq e.Q id=some p→0<p.s→p.m≠0→iF h h' bb bm bp bl most M M' clock' F B e (e.Q.set i (dZ p)) e.w→gV h h' v' (bP (cF (e.Q.set i (dZ p))+1) (e.Q.set i (dZ p))).2→κ (.tuple ⟨[v',.int .i64 0]⟩) h') :
  CallW Tryz.prog 104 [.pointer (some ⟨bb,0,none⟩),.int .i64 id] h κ:=by
 refine aq mixed ?_
 rw[U5]
 refine NU s hlo id _ ?_ ?_
 ·intro h1 hno bu
  simp(disch:=first|omega|simp only[Wd]<;>omega|with_unfolding_all rfl)only[Wz,nk]
  refine Gf bb h1 _ ?_
  exact qz h1 hno bu
 ·intro h1 e p he hf bu
  have n1:=bu.nx
  have l1:=bu.lo
  have s1:=s.le bu
  have H:=s1.aG e he
  have hlt:=H.lt
  have gd:=s1.good e he
  have vl:=gd.small
  obtain ⟨qx,qc,eq,_⟩:=(show Sl aW h1 e.q e.Q from H.qv.1)
  have gh:=H.get
  rw[eq] at gh
  obtain ⟨n,en,oa⟩:=ids.find he (c9 hf).1
  have I4:id=(n:Int):=by rw[←en]; exact (c9 hf).2.symm
  have WH:F.length≤1000:=by have:=jV s.bM.ok; have:=s.bM.small; omega
  obtain ⟨i,hi,Kt⟩:=pL gd.vq hf
  simp(disch:=first|omega|simp only[Wd]<;>omega|with_unfolding_all rfl)only[Wz,pJ,Du,aU,gh]
  refine Kx e.t e.r _ e.w id e.Q h1 _ (by rw[←eq]; exact H.qv.1) (by omega) (by omega) gd.vq.pair hi Kt ?_ ?_ ?_
  ·intro hs h2 aZ
   have:=aZ.nx
   have:=aZ.lo
   simp(disch:=first|omega|simp only[Wd]<;>omega|with_unfolding_all rfl)only[Wz,cG]
   exact sI _ e p he hf hs ((bu.trans aZ).new _)
  ·intro hs hm0 q' h2 i_ aZ
   have n2:=aZ.nx
   have l2:=aZ.lo
   obtain ⟨dn,dw,rfl,_⟩:=(show Sl aW h2 q' _ from i_.1)
   have s2:=s1.le aZ
   have gb:=s2.gG
   have hlb:=s2.KB
   simp(disch:=first|omega|simp only[Wd]<;>omega|with_unfolding_all rfl)only[Wz,cG]
   obtain ⟨h3,e3⟩:∃h3:Heap,h3=⟨h2.nx+1,h2.bl.bf h2.nx (cW e.t e.r (.slice dn (e.Q.filter fun r=>!aV id r).length dw) e.w),h2.lo⟩:=⟨_,rfl⟩
   have cL:Le h2 h3:=by rw[e3]; exact (Le.refl h2).new _
   have g3:h3.bl.get h2.nx=some (cW e.t e.r (.slice dn (e.Q.filter fun r=>!aV id r).length dw) e.w):=by rw[e3]; exact T.aa _ _ _
   have n3:h3.nx=h2.nx+1:=by rw[e3]
   have l3:h3.lo=h2.lo:=by rw[e3]
   rw[←e3]
   clear e3
   have hlv:=gd.vq.filter fun r=>!aV id r
   have lf:(e.Q.filter fun r=>!aV id r).length≤e.Q.length:=List.length_filter_le _ _
   refine ⟨fun l h'=>∃F',F'.Perm (F++[(n:Int)])∧bg h' bb bm bp bl most M clock F' (B.set n false)∧h'.bl.get h2.nx=some (cW e.t e.r (.slice dn (e.Q.filter fun r=>!aV id r).length dw) e.w)∧QV h' (.slice dn (e.Q.filter fun r=>!aV id r).length dw) (e.Q.filter fun r=>!aV id r)∧ov bm bp bl h h'∧h3.nx≤h'.nx,?_,?_⟩
   ·simp(disch:=first|omega|simp only[Wd]<;>omega|with_unfolding_all rfl)only[Wz,xA,g3]
    refine vY e.t e.r _ e.w id _ h3 _ (i_.1.le cL) (by omega) (by omega) ?_
    intro h4 gK
    have n4:=gK.nx
    have l4:=gK.lo
    rw[uQ]
    have s4:=(s2.le cL).le gK
    have gb4:=s4.gG
    have ak_:=s4.KB
    have s5:=s4.le ((Le.refl h4).new (fq ⟨0,0,0,0,0⟩))
    simp(disch:=first|omega|simp only[Wd]<;>omega|with_unfolding_all rfl)only[Wz,aW,aU,gb4,I4]
    refine NR bp bl F B n _ _ s5.bM WH (by show h4.lo≤h4.nx+1; omega) s5.ne oa ?_
    intro h6 F' p6 hp6 WI
    have n6:h4.nx+1≤h6.nx:=WI.nx
    have H6:=kf.pK (e:=⟨e.t,e.r,h2.nx,0,_,e.w,_⟩) (kf.le ⟨by show h2.nx<h3.nx; omega,g3,i_.le cL⟩ (gK.new _)) s5.bM WI
    have G6:=H6.get
    have Q6:=H6.qv
    simp only[I4] at G6 Q6
    exact ⟨F',hp6,s5.pK p6 WI,G6,Q6,(ov.of_le (((bu.trans aZ).trans cL).trans (gK.new _))).trans (ov.WG WI),by omega⟩
   ·rintro l h6 ⟨F',hp6,s6,g6,hq6,WI,n6⟩
    have l6:=WI.lo
    simp(disch:=first|omega|simp only[Wd]<;>omega|with_unfolding_all rfl)only[Wz,g6]
    refine nr s6 (by omega) e.t e.r _ _ _ _ hq6.1 hlv (by omega) ?_
    intro M' clock' v' h' s7 g_ Fj fr7
    exact dK h' M' clock' F' v' e p n he hf hs hm0 I4 oa hp6 ⟨s7,WI.trans fr7,hlv,g_⟩ (cU.base Fj (by omega))
  ·intro hs hm0 q' h2 i_ aZ
   have n2:=aZ.nx
   have l2:=aZ.lo
   obtain ⟨dn,dw,rfl,_⟩:=(show Sl aW h2 q' _ from i_.1)
   have s2:=s1.le aZ
   simp(disch:=first|omega|simp only[Wd]<;>omega|with_unfolding_all rfl)only[Wz,cG]
   obtain ⟨h3,e3⟩:∃h3:Heap,h3=⟨h2.nx+1,h2.bl.bf h2.nx (cW e.t e.r (.slice dn (e.Q.set i (dZ p)).length dw) e.w),h2.lo⟩:=⟨_,rfl⟩
   have cL:Le h2 h3:=by rw[e3]; exact (Le.refl h2).new _
   have g3:h3.bl.get h2.nx=some (cW e.t e.r (.slice dn (e.Q.set i (dZ p)).length dw) e.w):=by rw[e3]; exact T.aa _ _ _
   have n3:h3.nx=h2.nx+1:=by rw[e3]
   have l3:h3.lo=h2.lo:=by rw[e3]
   rw[←e3]
   clear e3
   have hlv:=gd.vq.back hi hm0
   obtain ⟨o,ho⟩:=Es gd.vq hi Kt (p':=dZ p) rfl
   refine ⟨fun l h'=>Le h3 h',?_,?_⟩
   ·simp(disch:=first|omega|simp only[Wd]<;>omega|with_unfolding_all rfl)only[Wz,xA,g3]
    refine vY e.t e.r _ e.w id _ h3 _ (i_.1.le cL) (by rw[List.length_set]; omega) (by omega) ?_
    intro h4 gK
    have n4:=gK.nx
    have l4:=gK.lo
    rw[ho]
    simp(disch:=first|omega|simp only[Wd]<;>omega|with_unfolding_all rfl)only[Wz,aW]
    exact gK.new _
   ·intro l h6 oz
    have n6:=oz.nx
    have l6:=oz.lo
    have g6:=(oz.get _ (by omega)).trans g3
    simp(disch:=first|omega|simp only[Wd]<;>omega|with_unfolding_all rfl)only[Wz,g6]
    have Gg:=cL.trans oz
    refine nr (s2.le Gg) (by omega) e.t e.r _ _ _ _ (i_.1.le Gg) hlv (by rw[List.length_set]; omega) ?_
    intro M' clock' v' h' s7 g_ Fj fr7
    exact fF h' M' clock' v' e p i he hi hf hs hm0 ⟨s7,(ov.of_le ((bu.trans aZ).trans Gg)).trans fr7,hlv,g_⟩ (cU.base Fj (by omega))
theorem NY {h:Heap} {bb bm bp bl most:Nat} {M:List HE} {clock:Nat} {F:List Int} {B:List Bool} (s:bg h bb bm bp bl most M clock F B) (hlo:h.lo≤h.nx) (id x:Int) (κ:KQ)
  (qz:∀h',(∀e∈M,bq e.Q id=none)→Le h h'→κ (.int .i64 5) h')
  (wY:∀h' e p,e∈M→bq e.Q id=some p→(∃o∈e.Q,o.id≠id∧o.x=x)→Le h h'→κ (.int .i64 4) h')
  (sI:∀h' e p,e∈M→bq e.Q id=some p→(∀o∈e.Q,o.id≠id→o.x≠x)→0<p.s→Le h h'→κ (.int .i64 7) h')
  (dK:∀h' M' clock' e p i,e∈M→e.Q[i]? = some p→bq e.Q id=some p→(∀o∈e.Q,o.id≠id→o.x≠x)→¬0<p.s→iF h h' bb bm bp bl most M M' clock' F B e (e.Q.set i (jh p x)) e.w→κ (.int .i64 0) h') :
  CallW Tryz.prog 105 [.pointer (some ⟨bb,0,none⟩),.int .i64 id,.int .i64 x] h κ:=by
 refine aq mixed ?_
 rw[U6]
 refine NU s hlo id _ ?_ ?_
 ·intro h1 hno bu
  simp(disch:=first|omega|simp only[Wd]<;>omega|with_unfolding_all rfl)only[Wz,nk]
  refine Gf bb h1 _ ?_
  exact qz h1 hno bu
 ·intro h1 e p he hf bu
  have n1:=bu.nx
  have l1:=bu.lo
  have s1:=s.le bu
  have H:=s1.aG e he
  have hlt:=H.lt
  have gd:=s1.good e he
  have vl:=gd.small
  obtain ⟨qx,qc,eq,_⟩:=(show Sl aW h1 e.q e.Q from H.qv.1)
  have gh:=H.get
  rw[eq] at gh
  obtain ⟨i,hi,Kt⟩:=pL gd.vq hf
  simp(disch:=first|omega|simp only[Wd]<;>omega|with_unfolding_all rfl)only[Wz,pJ,Dv,aU,gh]
  refine Wo e.t e.r _ e.w id x e.Q h1 _ (by rw[←eq]; exact H.qv.1) (by omega) (by omega) gd.vq.pair hi Kt ?_ ?_ ?_
  ·intro hx h2 aZ
   have:=aZ.nx
   have:=aZ.lo
   simp(disch:=first|omega|simp only[Wd]<;>omega|with_unfolding_all rfl)only[Wz,cG]
   refine ⟨fun l h'=>Le h h',?_,?_⟩
   ·exact (bu.trans aZ).new _
   ·intro l h' le'
    exact wY _ e p he hf hx le'
  ·intro hx hs h2 aZ
   have:=aZ.nx
   have:=aZ.lo
   simp(disch:=first|omega|simp only[Wd]<;>omega|with_unfolding_all rfl)only[Wz,cG]
   refine ⟨fun l h'=>Le h h',?_,?_⟩
   ·exact (bu.trans aZ).new _
   ·intro l h' le'
    exact sI _ e p he hf hx hs le'
  ·intro hx hs q' h2 i_ aZ
   have n2:=aZ.nx
   have l2:=aZ.lo
   obtain ⟨dn,dw,rfl,_⟩:=(show Sl aW h2 q' _ from i_.1)
   have s2:=s1.le aZ
   simp(disch:=first|omega|simp only[Wd]<;>omega|with_unfolding_all rfl)only[Wz,cG]
   have cL:Le h2 ⟨h2.nx+1,h2.bl.bf h2.nx (cW e.t e.r (.slice dn (e.Q.set i (jh p x)).length dw) e.w),h2.lo⟩:=(Le.refl h2).new _
   have hlv:=gd.vq.hand (x:=x) hi (by rw[Kt]; exact hx)
   refine ⟨fun l h'=>∃M' clock',iF h h' bb bm bp bl most M M' clock' F B e (e.Q.set i (jh p x)) e.w,?_,?_⟩
   ·refine nr (s2.le cL) (by show h2.lo≤h2.nx+1; omega) e.t e.r _ _ _ _ (i_.1.le cL) hlv (by rw[List.length_set]; omega) ?_
    intro M' clock' v' h' s7 g_ Fj fr7
    exact ⟨M',clock',s7,(ov.of_le ((bu.trans aZ).trans cL)).trans fr7,hlv,g_⟩
   ·rintro l h' ⟨M',clock',hm⟩
    exact dK h' M' clock' e p i he hi hf hx hs hm
theorem aa4 (a b c d e:Int):ow 8 (.agg ⟨[.int .i64 a,.int .i64 b,.int .i64 c,.int .i64 d,.int .i64 e]⟩) (.agg ⟨[.int .i64 a,.int .i64 b,.int .i64 c,.int .i64 d,.int .i64 e]⟩)=true:=by unfold ow; exact tN 6 [a,b,c,d,e]
theorem Rh {h:Heap} {bb bm bp bl most:Nat} {M:List HE} {clock:Nat} {F:List Int} {B:List Bool} (s:bg h bb bm bp bl most M clock F B) (hlo:h.lo≤h.nx) (id:Int) (κ:KQ)
  (dK:∀h',(∀e∈M,bq e.Q id=none)→Le h h'→κ (.tuple ⟨[dz 0 0,ji ⟨0,0,0,0,0⟩,.bool false]⟩) h')
  (fF:∀h' e p,e∈M→bq e.Q id=some p→Le h h'→κ (.tuple ⟨[dz e.t e.r,ji p,.bool true]⟩) h') :
  CallW Tryz.prog 73 [.pointer (some ⟨bb,0,none⟩),.int .i64 id] h κ:=by
 refine aq mixed ?_
 rw[Tb]
 simp(disch:=first|omega|simp only[Wd]<;>omega|with_unfolding_all rfl)only[Wz]
 obtain ⟨hA,az⟩:∃hA:Heap,hA=⟨h.nx+1+1,((h.bl.bf (h.nx) (af [.int .i64 0,.int .i64 0] 24 false)).bf (h.nx+1) (fq ⟨0,0,0,0,0⟩)),h.lo⟩:=⟨_,rfl⟩
 have aH:Le h hA:=by subst az; exact (((Le.refl h).new _).new _)
 have g1:hA.bl.get (h.nx)=some (af [.int .i64 0,.int .i64 0] 24 false):=by subst az; exact (T.aj _ _ (by omega)).trans (T.aa _ _ _)
 have g3:hA.bl.get (h.nx+1)=some (fq ⟨0,0,0,0,0⟩):=by subst az; exact T.aa _ _ _
 have dF:hA.nx=h.nx+1+1:=by subst az; rfl
 have dG:hA.lo=h.lo:=by subst az; rfl
 rw[←az]
 clear az
 refine NU (s.le aH) (by omega) id _ ?_ ?_
 ·intro h1 hno bu
  have n1:=bu.nx
  have l1:=bu.lo
  have g1:=(bu.get _ (by omega)).trans g1
  have g3:=(bu.get _ (by omega)).trans g3
  simp(disch:=first|omega|simp only[Wd]<;>omega|with_unfolding_all rfl)only[Wz,nk,g1,g3,aW]
  exact dK _ hno ((((aH.trans bu).set (by omega) _)).set (by omega) _)
 ·intro h1 e p he hf bu
  have n1:=bu.nx
  have l1:=bu.lo
  have g1:=(bu.get _ (by omega)).trans g1
  have g3:=(bu.get _ (by omega)).trans g3
  have s1:=(s.le aH).le bu
  have H:=s1.aG e he
  have hlt:=H.lt
  have gd:=s1.good e he
  have vl:=gd.small
  obtain ⟨qx,qc,eq,_⟩:=(show Sl aW h1 e.q e.Q from H.qv.1)
  have gh:=H.get
  rw[eq] at gh
  simp(disch:=first|omega|simp only[Wd]<;>omega|with_unfolding_all rfl)only[Wz,pJ,IJ,aU,gh]
  refine vY e.t e.r _ e.w id _ h1 _ (by rw[←eq]; exact H.qv.1) (by omega) (by omega) ?_
  intro h2 aZ
  have n2:=aZ.nx
  have l2:=aZ.lo
  have g1:=(aZ.get _ (by omega)).trans g1
  have g3:=(aZ.get _ (by omega)).trans g3
  have gh2:=(aZ.get _ hlt).trans gh
  rw[hf]
  simp(disch:=first|omega|simp only[Wd]<;>omega|with_unfolding_all rfl)only[Wz,aW,g1,g3,gh2,aU,aa4]
  exact fF _ e p he hf (((((aH.trans bu).trans aZ).new _).set (by omega) _).set (by omega) _)
end Go.Proofs
