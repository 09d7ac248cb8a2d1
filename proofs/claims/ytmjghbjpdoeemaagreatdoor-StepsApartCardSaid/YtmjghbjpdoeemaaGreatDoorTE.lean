/-
  PROVED HERE: a part of the proof (S18, S19, S20, S21).
-/
import Derived.Test.YtmjghbjpdoeemaaGreatDoorTD
set_option linter.unusedVariables false
set_option linter.unusedSimpArgs false
set_option maxRecDepth 100000
set_option maxHeartbeats 2000000
namespace Go.Proofs
open Go.Vai Go.Clashes
section
variable {h:Heap} {A:WA} {a:TA} {N:Nat} {d:TD} {R:RD} {H X:Int→Int→Int}
theorem ML (s:WS h A a N d R) (L:Lone d.Ts H X) (hN:N≤1000) {i k:Nat} {c:CR} (hi:R.cs[i]? = some (some c)) {b:TB} (hb:d.Ts[k]? = some b) (hst:ck c.a.t c.a.r a.c.S=(k:Int)) (hx:c.a.x=X c.a.t c.a.r) (hx0:0≤c.a.x) (km:kn c.a.m=true) (hm:c.a.m≠0) (hF:d.F≠[]) (hh:b.M.length<a.aH) (κ:KQ)
  (hk:∀h' d',WS h' A a (N+1) d' { R with cs:=R.cs.set i (some { c with out:=1 }) }→Lone d'.Ts (gF H c.a.t c.a.r (cV (H c.a.t c.a.r) c.a.m)) X→jA d d' k→WK a h h'→κ (.tuple ⟨[]⟩) h') :
  CallW Tryz.prog 155 [.pointer (some ⟨c.ca,0,none⟩)] h κ:=by
 obtain ⟨gc,c1,c2⟩:=cD s hi
 have gc':=gc
 unfold cw at gc'
 have gw:=s.r.gw
 have hlo:=s.lo
 refine aq mixed ?_
 rw[PX]
 simp(disch:=first|omega|simp only[Wd]<;>omega|with_unfolding_all rfl)only[Wz,aN,gc',gw]
 rw[hx]
 refine B9 s.t L hlo c.a.t c.a.r _ ?_ ?_
 ·intro hH h1 b_
  have s1:=s.le b_
  simp(disch:=first|omega|simp only[Wd]<;>omega|with_unfolding_all rfl)only[Wz]
  refine ⟨fun l' h'=>slot l' 19=.int .i64 (H c.a.t c.a.r)∧Le h1 h',⟨by rw[hH]; rfl,Le.refl _⟩,?_⟩
  rintro l' h2 ⟨sl,bF⟩
  exact vo (s1.le bF) L hN hi hb hst hx hx0 km hm hF hh l' sl 0 (fun h0=>absurd hH h0) κ fun h' d' s' L' g' k'=>hk h' d' s' L' g' ((s.KB (b_.trans bF)).trans k')
 ·intro hH h1 k' b' e id hb' RS he ht hr hQ b_
  obtain rfl:k'=k:=by omega
  rw[hb] at hb'; cases hb'
  have s1:=s.le b_
  obtain ⟨Gs,_,_⟩:=cD s1 hi
  unfold cw at Gs
  have SK:=s1.r.gw
  have n1:=b_.nx
  have l1:=b_.lo
  simp(disch:=first|omega|simp only[Wd]<;>omega|with_unfolding_all rfl)only[Wz]
  refine ⟨fun l' h'=>slot l' 19=.int .i64 (H c.a.t c.a.r)∧Le h1 h',?_,?_⟩
  ·simp(disch:=first|omega|simp only[Wd]<;>omega|with_unfolding_all rfl)only[Wz,AQ,aN,Gs,SK]
   refine MI s1.t (by omega) (List.mem_of_getElem? hb) he hQ _ ?_
   intro h2 bF
   have n2:=bF.nx
   have l2:=bF.lo
   simp(disch:=first|omega|simp only[Wd]<;>omega|with_unfolding_all rfl)only[Wz,dK,jF,bu]
   exact ⟨trivial,(((bF.new _).new _).set (by omega) _).set (by show h1.nx≤h2.nx+1; omega) _⟩
  ·rintro l' h2 ⟨sl,bF⟩
   exact vo (s1.le bF) L hN hi hb hst hx hx0 km hm hF hh l' sl id (fun _=>⟨e,he,ht,hr,hQ⟩) κ fun h' d' s' L' g' k'=>hk h' d' s' L' g' ((s.KB (b_.trans bF)).trans k')
theorem J9 (s:WS h A a N d R) (L:Lone d.Ts H X) {i k:Nat} {c:CR} (hi:R.cs[i]? = some (some c)) {b:TB} (hb:d.Ts[k]? = some b) (hst:ck c.a.t c.a.r a.c.S=(k:Int)) {id:Int} {e:HE} (he:e∈b.M) (ht:e.t=c.a.t) (hr:e.r=c.a.r) (hQ:e.Q=[⟨id,X c.a.t c.a.r,H c.a.t c.a.r,H c.a.t c.a.r,0⟩]) (κ:KQ)
  (hk:∀h' d',WS h' A a (N+1) d' R→Lone d'.Ts (gF H c.a.t c.a.r 0) X→jA d d' k→WK a h h'→κ (.tuple ⟨[]⟩) h') :
  CallW Tryz.prog 211 [.pointer (some ⟨c.ca,0,none⟩),.int .i64 id] h κ:=by
 obtain ⟨gc,c1,c2⟩:=cD s hi
 have gc':=gc
 unfold cw at gc'
 have gw:=s.r.gw
 have hlo:=s.lo
 refine aq mixed ?_
 rw[Qc]
 simp(disch:=first|omega|simp only[Wd]<;>omega|with_unfolding_all rfl)only[Wz,aN,gc',gw]
 refine Gt s.t L hlo hb hst he ht hr hQ _ ?_
 intro h1 d1 v1 ho t1 L1 g1 f1 b1
 have s1:=s.table t1 f1 b1
 obtain ⟨Gs,k1,k2⟩:=cD s1 hi
 have gcx:=Gs
 unfold cw at gcx
 have e1:(h1.bl.aW c.ca (cw A.wb c))=h1.bl.aW c.ca (cw A.wb c):=rfl
 simp(disch:=first|omega|simp only[Wd]<;>omega|with_unfolding_all rfl)only[Wz,aN,gcx]
 rw[append_nil ho.sl ⟨_,_,_,rfl⟩]
 simp(disch:=first|omega|simp only[Wd]<;>omega|with_unfolding_all rfl)only[Wz,aN,gcx]
 have s2:=WS.lJ s1 hi (c':=c) rfl
 have hcs:R.cs.set i (some c)=R.cs:=by
  refine List.ext_getElem? fun j=>?_
  rw[List.getElem?_set]
  split
  ·rename_i e; subst e
   rw[hi,if_pos (List.getElem?_eq_some_iff.1 hi).1]
  ·rfl
 rw[hcs] at s2
 have hk:=hk _ d1 s2 L1 g1 ((s.kfr f1).trans (WS.ze s1 Gs (by simp[nK]) (by decide) _))
 unfold cw at hk
 exact hk
theorem MM (s:WS h A a N d R) (L:Lone d.Ts H X) {i k:Nat} {c:CR} (hi:R.cs[i]? = some (some c)) {b:TB} (hb:d.Ts[k]? = some b) (hst:ck c.a.t c.a.r a.c.S=(k:Int)) (hx:c.a.x=X c.a.t c.a.r) (κ:KQ)
  (hk:∀h' d',WS h' A a (N+1) d' { R with cs:=R.cs.set i (some { c with out:=if H c.a.t c.a.r=0 then 6 else 1 }) }→Lone d'.Ts (gF H c.a.t c.a.r 0) X→jA d d' k→WK a h h'→κ (.tuple ⟨[]⟩) h') :
  CallW Tryz.prog 156 [.pointer (some ⟨c.ca,0,none⟩)] h κ:=by
 obtain ⟨gc,c1,c2⟩:=cD s hi
 have gc':=gc
 unfold cw at gc'
 have gw:=s.r.gw
 have hlo:=s.lo
 have fin:∀h' d',WS h' A a (N+1) d' R→Lone d'.Ts (gF H c.a.t c.a.r 0) X→jA d d' k→WK a h h'→κ (.tuple ⟨[]⟩) ⟨h'.nx,h'.bl.aW c.ca (cw A.wb { c with out:=if H c.a.t c.a.r=0 then 6 else 1 }),h'.lo⟩:=fun h' d' s' L' g' w'=>by
  obtain ⟨GG,_,_⟩:=cD s' hi
  exact hk _ d' (WS.lJ s' hi rfl) L' g' (w'.trans (WS.ze s' GG (by simp[nK]) (by decide) _))
 unfold cw at fin
 refine aq mixed ?_
 rw[PY]
 simp(disch:=first|omega|simp only[Wd]<;>omega|with_unfolding_all rfl)only[Wz,aN,gc',gw]
 rw[hx]
 refine B9 s.t L hlo c.a.t c.a.r _ ?_ ?_
 ·intro hH h1 b_
  have s1:=s.le b_
  obtain ⟨Gs,_,_⟩:=cD s1 hi
  unfold cw at Gs
  simp(disch:=first|omega|simp only[Wd]<;>omega|with_unfolding_all rfl)only[Wz,aN,Gs]
  have:=fin h1 d (s1.up (Nat.le_succ _)) (by have:=xP H c.a.t c.a.r; rw[hH] at this; rw[this]; exact L) (jA.refl _ _) (s.KB b_)
  rw[if_pos hH] at this
  exact this
 ·intro hH h1 k' b' e id hb' RS he ht hr hQ b_
  obtain rfl:k'=k:=by omega
  rw[hb] at hb'; cases hb'
  have s1:=s.le b_
  simp(disch:=first|omega|simp only[Wd]<;>omega|with_unfolding_all rfl)only[Wz]
  refine J9 s1 L hi hb hst he ht hr hQ _ ?_
  intro h2 d2 s2 L2 g2 k2
  obtain ⟨y3,_,_⟩:=cD s2 hi
  unfold cw at y3
  simp(disch:=first|omega|simp only[Wd]<;>omega|with_unfolding_all rfl)only[Wz,aN,y3]
  have:=fin h2 d2 s2 L2 g2 ((s.KB b_).trans k2)
  rw[if_neg hH] at this
  exact this
end
def B_ (k:Int) (f:FuncId) (n:Nat):MapEntry:={ key:=.int .i64 k,val:=.func (.func f) ⟨[]⟩ ⟨[]⟩,born:=n }
noncomputable def J_:bC:=.map [B_ 1 155 0,B_ 2 156 1,B_ 3 157 2] 3
theorem findF (h:Heap) (k k':Int) (f:FuncId) (n:Nat) (es:List MapEntry) (i:Nat):fm Tryz.prog h 3 (.int .i64 k) (B_ k' f n::es) i=if k=k' then some (some (i,B_ k' f n)) else fm Tryz.prog h 3 (.int .i64 k) es (Nat.succ i):=by
 have hf:fm Tryz.prog h 3 (.int .i64 k) (B_ k' f n::es) i=(match (some (decide (k=k')):Option Bool) with | some true=>some (some (i,B_ k' f n)) | some false=>fm Tryz.prog h 3 (.int .i64 k) es (Nat.succ i) | none=>none):=by
  rw[←eqI h]; rfl
 rw[hf]
 by_cases e:k=k'
 ·rw[aZ e,if_pos e]
 ·rw[aG e,if_neg e]
theorem Dy {es:List MapEntry} {clock:Nat} {h:Heap} {b:Nat} (g:h.bl.get b=some (.map es clock)) (hlo:h.lo≤b) (k:Int) (f:FuncId) (hf:∀h:Heap,fm Tryz.prog h 3 (.int .i64 k) es 0=some none) (κ:KQ)
  (hk:κ undef ⟨h.nx,h.bl.aW b (.map (es++[B_ k f clock]) (clock+1)),h.lo⟩) :
  bX False Tryz.prog 3 (.map (some b)) (.int .i64 k) (.func (.func f) ⟨[]⟩ ⟨[]⟩) h κ:=by
 unfold bX
 rw[Mt]
 simp only[g,hf]
 rw[mh]
 simp only[bG]
 rw[bL _ _ _ _ hlo]
 exact hk
theorem RT (h:Heap) (κ:KQ) (hlo:h.lo≤h.nx) (hk:∀b h',Le h h'→h'.bl.get b=some J_→κ (.map (some b)) h'):CallW Tryz.prog 116 [] h κ:=by
 refine aq mixed ?_
 rw[PI]
 simp(disch:=first|omega|simp only[Wd]<;>omega|with_unfolding_all rfl)only[Wz,gH]
 refine Dy (es:=[]) (T.af _ _ _) (by exact hlo) 1 155 (fun h=>rfl) _ ?_
 refine Dy (T.af _ _ _) (by exact hlo) 2 156 (fun h=>by rw[List.nil_append,findF,if_neg (by decide)]; rfl) _ ?_
 refine Dy (T.af _ _ _) (by exact hlo) 3 157 (fun h=>by rw[List.nil_append,List.singleton_append,findF,if_neg (by decide),findF,if_neg (by decide)]; rfl) _ ?_
 exact hk h.nx _ ((((Le.refl h).new _).set (Nat.le_refl _) _).set (Nat.le_refl _) _ |>.set (Nat.le_refl _) _) (T.af _ _ _)
theorem Oo {β:Type} {fl:β} {h:Heap} {b:Nat} (g:h.bl.get b=some J_) (k:Int) (f:FuncId) (hk:(k=1∧f=155)∨(k=2∧f=156)) (κ:Value→Heap→β) :
  cZ fl Tryz.prog 3 Value.nilFunc false (.map (some b)) (.int .i64 k) h κ=κ (.func (.func f) ⟨[]⟩ ⟨[]⟩) h:=by
 unfold cZ iX
 rw[Mt]
 simp only[g,J_]
 rcases hk with ⟨rfl,rfl⟩ | ⟨rfl,rfl⟩
 ·rw[findF,if_pos rfl]; rfl
 ·rw[findF,if_neg (by decide),findF,if_pos rfl]; rfl
section
variable {h:Heap} {A:WA} {a:TA} {N:Nat} {d:TD} {R:RD} {H X:Int→Int→Int}
theorem MN (s:WS h A a N d R) (L:Lone d.Ts H X) (hN:N≤1000) {i k:Nat} {c:CR} (hi:R.cs[i]? = some (some c)) (z7:c.wt=false) {b:TB} (hb:d.Ts[k]? = some b) (hst:ck c.a.t c.a.r a.c.S=(k:Int)) (hx:c.a.x=X c.a.t c.a.r) (hx0:0≤c.a.x) (hm:qQ c.a=true) (h3:c.a.k≠3) (hF:d.F≠[]) (hh:b.M.length<a.aH) (κ:KQ)
  (hk:∀h' d',WS h' A a (N+1) d' { R with cs:=R.cs.set i (some { c with ph:=3,out:=gT H c.a }) }→Lone d'.Ts (p8 H c.a) X→jA d d' k→WK a h h'→κ (.tuple ⟨[]⟩) h') :
  CallW Tryz.prog 76 [.pointer (some ⟨c.ca,0,none⟩)] h κ:=by
 obtain ⟨gc,c1,c2⟩:=cD s hi
 have gc':=gc
 unfold cw at gc'
 have hlo:=s.lo
 have hil:=(List.getElem?_eq_some_iff.1 hi).1
 unfold qQ at hm
 rw[Bool.and_eq_true] at hm
 have hm:=hm.2
 have fin:∀h' d',WS h' A a (N+1) d' { R with cs:=R.cs.set i (some { c with out:=gT H c.a }) }→Lone d'.Ts (p8 H c.a) X→jA d d' k→WK a h h'→
   CallW Tryz.prog 45 [.pointer (some ⟨c.ca,0,none⟩),.int .i64 3,.func (.func 117) ⟨[.pointer (some ⟨c.ca,0,none⟩)]⟩ ⟨[]⟩] h' (fun _ h=>κ (.tuple ⟨[]⟩) h):=by
  intro h' d' s' L' g' k'
  have hi':(R.cs.set i (some { c with out:=gT H c.a }))[i]? = some (some { c with out:=gT H c.a }):=by rw[List.getElem?_set,if_pos rfl,if_pos hil]
  obtain ⟨GG,_,c3⟩:=cD s' hi'
  refine J3 { c with out:=gT H c.a } GG c3 3 _ rfl _ ?_
  have s4:=WS.lJ s' hi' (c':={ c with ph:=3,out:=gT H c.a }) rfl
  simp only[List.set_set] at s4
  exact hk _ d' s4 L' g' (k'.trans (WS.ze s' GG (by simp[nK]) (by decide) _))
 refine aq mixed ?_
 rw[UA]
 refine ⟨fun l' h'=>∃d',WS h' A a (N+1) d' { R with cs:=R.cs.set i (some { c with out:=gT H c.a }) }∧Lone d'.Ts (p8 H c.a) X∧jA d d' k∧WK a h h',?_,?_⟩
 ·simp(disch:=first|omega|simp only[Wd]<;>omega|with_unfolding_all rfl)only[Wz,EM,aN,gc',z7,EL]
  refine RT h _ hlo ?_
  intro b0 h1 b_ g0
  have s1:=s.le b_
  have k1:=s.KB b_
  have Gs:=(b_.get _ c1).trans gc'
  unfold gT p8
  by_cases ha:c.a.k=1
  ·rw[if_pos ha] at hm ⊢
   rw[if_pos ha]
   rw[Bool.and_eq_true,Bool.and_eq_true,decide_eq_true_eq] at hm
   simp(disch:=first|omega|simp only[Wd]<;>omega|with_unfolding_all rfl)only[Wz,Oo g0 _ _ (.inl ⟨ha,rfl⟩),aN,Gs,List.nil_append,List.append_nil]
   refine ML s1 L hN hi hb hst hx hx0 hm.1.1 hm.1.2 hF hh _ ?_
   intro h2 d2 s2 L2 g2 k2
   rw[z7] at s2
   exact ⟨d2,s2,L2,g2,k1.trans k2⟩
  ·rw[if_neg ha,if_neg h3,decide_eq_true_eq] at hm
   rw[if_neg ha,if_neg ha]
   simp(disch:=first|omega|simp only[Wd]<;>omega|with_unfolding_all rfl)only[Wz,Oo g0 _ _ (.inr ⟨hm,rfl⟩),aN,Gs,List.nil_append,List.append_nil]
   refine MM s1 L hi hb hst hx _ ?_
   intro h2 d2 s2 L2 g2 k2
   rw[z7] at s2
   exact ⟨d2,s2,L2,g2,k1.trans k2⟩
 ·rintro l' h' ⟨d',s',L',g',k'⟩
  exact fin h' d' s' L' g' k'
theorem Dz (s:WS h A a N d R) (L:Lone d.Ts H X) (hN:N≤1000) {i k:Nat} {c:CR} (hi:R.cs[i]? = some (some c)) (wA:c.ph=2) (hbi:R.bits[i]? = some 0) (z7:c.wt=false) {b:TB} (hb:d.Ts[k]? = some b) (hst:ck c.a.t c.a.r a.c.S=(k:Int)) (hsk:c.st=(k:Int)) {o:Option (Nat × Int)} (hl:R.cI[k]? = some o) (hx:c.a.x=X c.a.t c.a.r) (hx0:0≤c.a.x) (hm:qQ c.a=true) (h3:c.a.k≠3) (hF:d.F≠[]) (hh:b.M.length<a.aH) (κ:KQ)
  (hk:∀h' d',WS h' A a (N+1) d' { R with cs:=R.cs.set i (some { c with ph:=3,out:=gT H c.a }) }→Lone d'.Ts (p8 H c.a) X→jA d d' k→WK a h h'→κ (.tuple ⟨[.bool false,.int .i64 0,.int .i64 0]⟩) h') :
  CallW Tryz.prog 14 [.pointer (some ⟨A.wb,0,none⟩),.int .i64 (i:Int)] h κ:=by
 have gw:=s.r.gw
 have Wq:=s.r.gc
 have hil:=xN s hi
 have r:(R.cs.map fun o=>dy (o.map (·.ca)))[i]? = some (.pointer (some ⟨c.ca,0,none⟩)):=kT s hi
 obtain ⟨gc,c1,c2⟩:=cD s hi
 have hlc:(R.cs.map fun o=>dy (o.map (·.ca))).length=A.n:=by rw[List.length_map]; exact s.r.lc
 have gc':=gc
 unfold cw xM at gc'
 rw[wA] at gc'
 have h1:decide (((2:Nat):Int)=1)=false:=by decide
 refine aq mixed ?_
 rw[IF]
 simp(disch:=first|omega|simp only[Wd]<;>omega|with_unfolding_all rfl)only[Wz,mP,sj]
 refine mQ s hil _ ?_
 simp(disch:=first|omega|simp only[Wd]<;>omega|with_unfolding_all rfl)only[Wz]
 refine zd s hi hbi hsk hl _ ?_
 rw[wA,h1]
 simp(disch:=first|omega|simp only[Wd]<;>omega|with_unfolding_all rfl)only[Wz,Bool.not_false,Bool.true_or,si,aN,gw,aS,Wq,r,gc',Nat.mul_one,pn]
 refine MN s L hN hi z7 hb hst hx hx0 hm h3 hF hh _ ?_
 intro h' d' s' L' g' k'
 have hi':(R.cs.set i (some { c with ph:=3,out:=gT H c.a }))[i]? = some (some { c with ph:=3,out:=gT H c.a }):=by rw[List.getElem?_set,if_pos rfl,if_pos (by have:=s.r.lc; omega)]
 obtain ⟨y3,_,_⟩:=cD s' hi'
 unfold cw at y3
 simp(disch:=first|omega|simp only[Wd]<;>omega|with_unfolding_all rfl)only[Wz,aN,y3]
 exact hk h' d' s' L' g' k'
end
theorem Ca (n:Nat):aO [Value.int .i64 0] n=Dw (List.replicate n 0):=by
 unfold Dw
 induction n with
 | zero=>rfl
 | succ n ih=>rw[List.replicate_succ,List.map_cons,←ih]; rfl
theorem vp (n:Nat):aO [Value.pointer none] n=List.replicate n (.pointer none):=by
 induction n with
 | zero=>rfl
 | succ n ih=>rw[List.replicate_succ,←ih]; rfl
theorem oJ (v:Value) (n:Nat):(aO [v] n).length=n:=by
 induction n with
 | zero=>rfl
 | succ n ih=>show (v::aO [v] n).length=_; rw[List.length_cons,ih]
theorem Cb (n:Nat) (hn:1≤n∧n≤8) (h:Heap) (κ:KQ)
  (hk:∀h' pb ib,Le h h'→h.nx≤ib→ib<h'.nx→pb<h'.nx→h'.bl.get pb=some (aa [.slice (some ⟨ib,0,none⟩) n n] 193 false)→h'.bl.get ib=some (aa (Dw (List.replicate n 0)) 3 false)→κ (.tuple ⟨[.pointer (some ⟨pb,0,none⟩),.int .i64 0]⟩) h') :
  CallW Tryz.prog 68 [.int .i64 (n:Int)] h κ:=by
 refine aq mixed ?_
 rw[Us]
 have hrl:=oJ (.int .i64 0) n
 simp(disch:=first|omega|simp only[Wd]<;>omega|with_unfolding_all rfl)only[Wz,c6 (show (1:Int)≤(n:Int) by omega),c6 (show (n:Int)≤8 by omega)]
 rw[r9 _ _ _ _ _ (by omega) (by omega),Ca]
 simp(disch:=first|omega|simp only[Wd]<;>omega|with_unfolding_all rfl)only[Wz]
 exact hk _ _ _ (((Le.refl h).new _).new _) (Nat.le_refl _) (by show h.nx<h.nx+1+1; omega) (by show h.nx+1<h.nx+1+1; omega) (T.af _ _ _) ((T.ai _ _ (by omega)).trans (T.af _ _ _))
theorem DA (n:Nat) (hn:1≤n∧n≤16) (h:Heap) (κ:KQ)
  (hk:∀h' lb hb,Le h h'→h.nx≤hb→hb<h'.nx→lb<h'.nx→h'.bl.get lb=some (aa [.slice (some ⟨hb,0,none⟩) n n] 179 false)→h'.bl.get hb=some (aa (List.replicate n (.pointer none)) 176 false)→κ (.tuple ⟨[.pointer (some ⟨lb,0,none⟩),.int .i64 0]⟩) h') :
  CallW Tryz.prog 69 [.int .i64 (n:Int)] h κ:=by
 refine aq mixed ?_
 rw[Ut]
 have hrl:=oJ (.pointer none) n
 simp(disch:=first|omega|simp only[Wd]<;>omega|with_unfolding_all rfl)only[Wz,c6 (show (1:Int)≤(n:Int) by omega),c6 (show (n:Int)≤16 by omega)]
 rw[r9 _ _ _ _ _ (by omega) (by omega),vp]
 simp(disch:=first|omega|simp only[Wd]<;>omega|with_unfolding_all rfl)only[Wz]
 exact hk _ _ _ (((Le.refl h).new _).new _) (Nat.le_refl _) (by show h.nx<h.nx+1+1; omega) (by show h.nx+1<h.nx+1+1; omega) (T.af _ _ _) ((T.ai _ _ (by omega)).trans (T.af _ _ _))
theorem DB (h:Heap) (κ:KQ)
  (hk:κ (.pointer (some ⟨h.nx,0,none⟩)) ⟨h.nx+1,h.bl.aW h.nx (aa [.int .i64 0,.slice none 0 0] 169 false),h.lo⟩) :
  CallW Tryz.prog 70 [] h κ:=by
 refine aq mixed ?_
 rw[Uu]
 simp(disch:=first|omega|simp only[Wd]<;>omega|with_unfolding_all rfl)only[Wz]
 exact hk
theorem Ka {h:Heap} {a:TA} {N:Nat} {d:TD} (s:B6 h a N d) (hB:iV d.B=[]):(∀b∈d.Ts,b.M=[])∧d.F.length=d.B.length:=by
 constructor
 ·intro b hb
  cases hM:b.M with
  | nil=>rfl
  | cons e M=>
   exfalso
   have he:e∈b.M:=by rw[hM]; exact .head _
   have ids:=s.ids
   rw[hB] at ids
   have wv:=ids.eq_nil
   have g:=((s.is.bk b hb).good e he)
   cases hQ:e.Q with
   | nil=>exact g.ne hQ
   | cons p Q=>
    have:p.id∈d.Ts.flatMap fun b=>eV b.M:=List.mem_flatMap.2 ⟨b,hb,by
     unfold eV
     exact List.mem_flatMap.2 ⟨e,he,List.mem_map.2 ⟨p,by rw[hQ]; exact .head _,rfl⟩⟩⟩
    rw[wv] at this
    cases this
 ·have:=pU s.is.dh.ok
  rw[hB] at this
  simpa using this
structure Cc (A:WA) (a:TA) (d:TD) (R:RD) (c:fW) (n:Nat):Prop where
 ec:a.c=c
 en:A.n=n
 hd:(a.aH:Int)=c.H
 em:∀b∈d.Ts,b.M=[]
 f:(d.F.length:Int)=c.R
 cs:R.cs=List.replicate n none
 cI:R.cI=List.replicate c.S.toNat none
 bits:R.bits=List.replicate n 0
 begun:R.begun=0
theorem vv (a:Option Nat):(Value.cells (.map a)).toList=[.map a]:=id rfl
theorem aa0 (n:Nat) (hn:n≤8) (h:Heap) (κ:KQ) (hk:κ (.slice (some ⟨h.nx,0,none⟩) n n) ⟨h.nx+1,h.bl.aW h.nx (aa (List.replicate n (.pointer none)) 96 false),h.lo⟩) :
  GD (match Value.int .i64 (n:Int),Value.int .i64 (n:Int) with | .int _ (.ofNat l),.int _ (.ofNat c)=>(match Nat.ble l c,Nat.ble c 1000000 with | true,true=>(az none (aO [(Value.pointer none)] c) 96 false fun o=>some (o,sliceTo l c)) | _,_=>none) | _,_=>none) h κ:=by
 have e1:Nat.ble n n=true:=by rw[Nat.ble_eq]; exact Nat.le_refl _
 have e2:Nat.ble n 1000000=true:=by rw[Nat.ble_eq]; omega
 have hl:=oJ (.pointer none) n
 show GD (match Nat.ble n n,Nat.ble n 1000000 with | true,true=>(az none (aO [(Value.pointer none)] n) 96 false fun o=>some (o,sliceTo n n)) | _,_=>none) h κ
 rw[e1,e2]
 simp only
 rw[gX,tA,vp]
 ·exact hk
 ·omega
theorem RU (c:fW) (hc:c9 c) (n:Nat) (hn:1≤n∧n≤8) (h:Heap) (hlo:h.lo≤h.nx) (κ:KQ)
  (hk:∀h' A a d R,Cc A a d R c n→WS h' A a 0 d R→Le h h'→(∀x,FB h' a.bp x→h.nx≤x)→κ (.tuple ⟨[.pointer (some ⟨A.wb,0,none⟩),.int .i64 0]⟩) h') :
  CallW Tryz.prog 39 [u7 c,.int .i64 (n:Int)] h κ:=by
 obtain ⟨S,hS⟩:∃S:Nat,c.S=(S:Int):=⟨c.S.toNat,by have:=hc.1; omega⟩
 refine aq mixed ?_
 rw[Ug]
 simp(disch:=first|omega|simp only[Wd]<;>omega|with_unfolding_all rfl)only[Wz,u7]
 obtain ⟨hA,aJ⟩:∃hA:Heap,hA=⟨h.nx+1,(h.bl.aW (h.nx) (aa [.int .i64 c.S,.int .i64 c.H,.int .i64 c.R,.int .i64 c.P] 30 false)),h.lo⟩:=⟨_,rfl⟩
 have aU:Le h hA:=by subst aJ; exact ((Le.refl h).new _)
 have g1:hA.bl.get (h.nx)=some (aa [.int .i64 c.S,.int .i64 c.H,.int .i64 c.R,.int .i64 c.P] 30 false):=by subst aJ; exact T.af _ _ _
 have ig:hA.nx=h.nx+1:=by subst aJ; rfl
 have ij:hA.lo=h.lo:=by subst aJ; rfl
 rw[←aJ]
 clear aJ
 refine Mw c hA _ (by omega) ?_ ?_
 ·intro h1 e _ hno _; exact absurd hc hno
 intro h1 tb bw bp bl vb aH Ts F _ t1 gbm gbw SC ZX b_ fb1
 have n1:=b_.nx
 have l1:=b_.lo
 have hcS:1≤S∧S≤16:=by have:=hc.1; have:=hc.2.1; omega
 have Ww:=b_.nx
 have WB:=b_.lo
 have g1:=(b_.get _ (by omega)).trans g1
 simp(disch:=first|omega|simp only[Wd]<;>omega|with_unfolding_all rfl)only[Wz,EA]
 refine Cb n hn h1 _ ?_
 intro h2 pb ib bF i1 i2 p2 gp gi
 have n2:=bF.nx
 have l2:=bF.lo
 have xD:=bF.nx
 have xE:=bF.lo
 have g1:=(bF.get _ (by omega)).trans g1
 simp(disch:=first|omega|simp only[Wd]<;>omega|with_unfolding_all rfl)only[Wz,Ez,aN,g1,hS]
 refine DA S hcS h2 _ ?_
 intro h3 lb hb f_ j1 j2 q2 gl gh
 have n3:=f_.nx
 have l3:=f_.lo
 simp(disch:=first|omega|simp only[Wd]<;>omega|with_unfolding_all rfl)only[Wz]
 refine aa0 n hn.2 h3 _ ?_
 simp(disch:=first|omega|simp only[Wd]<;>omega|with_unfolding_all rfl)only[Wz,ptrTo,sliceTo,gH]
 obtain ⟨h4,e4⟩:∃h4:Heap,h4=⟨h3.nx+1+1,(h3.bl.aW h3.nx (aa (List.replicate n (Value.pointer none)) 96 false)).aW (h3.nx+1) (bC.map [] 0),h3.lo⟩:=⟨_,rfl⟩
 have su:Le h3 h4:=by rw[e4]; exact ((Le.refl h3).new _).new _
 have gc4:h4.bl.get h3.nx=some (aa (List.replicate n (Value.pointer none)) 96 false):=by rw[e4]; exact (T.ai _ _ (by omega)).trans (T.af _ _ _)
 have gm4:h4.bl.get (h3.nx+1)=some (bC.map [] 0):=by rw[e4]; exact T.af _ _ _
 have n4:h4.nx=h3.nx+1+1:=by rw[e4]
 have l4:=su.lo
 rw[←e4]
 clear e4
 refine DB h4 _ ?_
 obtain ⟨h5,e5⟩:∃h5:Heap,h5=⟨h4.nx+1,h4.bl.aW h4.nx (aa [.int .i64 0,.slice none 0 0] 169 false),h4.lo⟩:=⟨_,rfl⟩
 have xy:Le h4 h5:=by rw[e5]; exact (Le.refl h4).new _
 have gk5:h5.bl.get h4.nx=some (aa [.int .i64 0,.slice none 0 0] 169 false):=by rw[e5]; exact T.af _ _ _
 have n5:h5.nx=h4.nx+1:=by rw[e5]
 have l5:=xy.lo
 rw[←e5]
 clear e5
 simp(disch:=first|omega|simp only[Wd]<;>omega|with_unfolding_all rfl)only[Wz]
 rw[nk _ _ _ _ _ _ _ (by rw[vv]; rfl) (Nat.le_of_ble_eq_true rfl),pE]
 simp(disch:=first|omega|simp only[Wd]<;>omega|with_unfolding_all rfl)only[Wz,vv]
 obtain ⟨h6,e6⟩:∃h6:Heap,h6=⟨h5.nx+1,h5.bl.aW h5.nx (aa [.pointer (some ⟨tb,0,none⟩),.pointer (some ⟨lb,0,none⟩),.pointer (some ⟨pb,0,none⟩),.pointer (some ⟨h4.nx,0,none⟩),.slice (some ⟨h3.nx,0,none⟩) n n,.map (some (h3.nx+1)),.int .i64 0] 107 false),h5.lo⟩:=⟨_,rfl⟩
 have yZ:Le h5 h6:=by rw[e6]; exact (Le.refl h5).new _
 have gw6:h6.bl.get h5.nx=some (aa [.pointer (some ⟨tb,0,none⟩),.pointer (some ⟨lb,0,none⟩),.pointer (some ⟨pb,0,none⟩),.pointer (some ⟨h4.nx,0,none⟩),.slice (some ⟨h3.nx,0,none⟩) n n,.map (some (h3.nx+1)),.int .i64 0] 107 false):=by rw[e6]; exact T.af _ _ _
 have n6:h6.nx=h5.nx+1:=by rw[e6]
 have l6:=yZ.lo
 have hk:=hk h6 ⟨h5.nx,lb,hb,pb,ib,h4.nx,h3.nx,h3.nx+1,n⟩ ⟨tb,bw,bp,bl,c,vb,aH⟩ ⟨Ts,[],0,F,List.replicate c.R.toNat false⟩ ⟨List.replicate S none,List.replicate n 0,0,.slice none 0 0,List.replicate n none,[],0,0⟩
 have t6:=t1.le (bF.trans (f_.trans (su.trans (xy.trans yZ))))
 have RV:=su.trans (xy.trans yZ)
 have MO:=f_.trans RV
 have nl:=Ka (a:=⟨tb,bw,bp,bl,c,vb,aH⟩) (d:=⟨Ts,[],0,F,List.replicate c.R.toNat false⟩) t6 (BZ _)
 have hR:=hc.2.2.2.2.1
 have agf:=t1.is.zp
 rw[e6] at hk
 refine hk ⟨rfl,rfl,t1.cH,nl.1,?_,rfl,?_,rfl,rfl⟩ ?_ (aU.trans (b_.trans (bF.trans (MO.trans (by rw[e6]; exact Le.refl _))))) ?_
 ·have:=nl.2
  simp only[List.length_replicate] at this
  show (F.length:Int)=c.R
  omega
 ·show List.replicate S none=List.replicate c.S.toNat none
  rw[hS]; rfl
 ·rw[←e6]
  have Yf:∀(m:Nat) (f:Option CR→Value),f none=.pointer none→(List.replicate m (none:Option CR)).map f=List.replicate m (.pointer none):=fun m f hf=>by rw[List.map_replicate,hf]
  have hm2:∀(m:Nat) (f:Option (Nat × Int)→Value),f none=.pointer none→(List.replicate m (none:Option (Nat × Int))).map f=List.replicate m (.pointer none):=fun m f hf=>by rw[List.map_replicate,hf]
  refine ⟨t6,⟨⟨by show h5.nx<h6.nx; omega,by show h6.lo≤h5.nx; omega⟩,gw6,by show lb<h6.nx; omega,?_,⟨by show hb<h6.nx; omega,by show h6.lo≤hb; omega⟩,?_,?_,by show pb<h6.nx; omega,?_,⟨by show ib<h6.nx; omega,by show h6.lo≤ib; omega⟩,?_,List.length_replicate ..,⟨by show h4.nx<h6.nx; omega,by show h6.lo≤h4.nx; omega⟩,?_,⟨by show h3.nx<h6.nx; omega,by show h6.lo≤h3.nx; omega⟩,?_,List.length_replicate ..,?_,⟨by show h3.nx+1<h6.nx; omega,by show h6.lo≤h3.nx+1; omega⟩,?_,hn,?_⟩,?_,?_,by omega⟩
  ·simp only[List.length_replicate]
   exact (RV.get _ q2).trans gl
  ·rw[hm2 S _ rfl]; exact (RV.get _ j2).trans gh
  ·intro p hp; rw[List.mem_replicate] at hp; nomatch hp.2
  ·exact (MO.get _ p2).trans gp
  ·exact (MO.get _ i2).trans gi
  ·exact (yZ.get h4.nx (by omega)).trans gk5
  ·show h6.bl.get h3.nx=_
   rw[Yf n _ rfl]; exact ((xy.trans yZ).get h3.nx (by omega)).trans gc4
  ·intro p hp; rw[List.mem_replicate] at hp; nomatch hp.2
  ·exact ((xy.trans yZ).get (h3.nx+1) (by omega)).trans gm4
  ·rw[List.pairwise_replicate]
   exact .inr fun c c' e=>nomatch e
  ·show h3.nx+1≠bw; omega
  ·intro b hb'
   have:=(t1.is.bk b hb').rz
   show h3.nx+1≠b.bm; omega
 ·intro x hx
  rw[←e6] at hx
  obtain ⟨_,_,Kn,_⟩:∃fs ls,bp<h1.nx∧h1.bl.get bp=some (aa [fs,ls] 225 false):=by
   obtain ⟨fs,hg,_⟩:=t1.is.dh.fr.cell
   exact ⟨fs,_,t1.is.dh.fr.lt,hg⟩
  have:=fb1 x ((FB.congr ((bF.trans MO).get bp Kn)).1 hx)
  omega
end Go.Proofs
