/-
  PROVED HERE: a part of the proof (SO).
-/
import Derived.Test.YtmjghbjpdoeemaaGreatDoorV5
import Derived.Shelf.SlSortCmp.WholeK
import Derived.Shelf.SlSortCmp.NoneTotal
set_option linter.unusedVariables false
set_option linter.unusedSimpArgs false
namespace Go.Vai
open Go Go.Sort
section
variable {α β κt:Type} [Inhabited α] {P:Program} {φ:di}
theorem F2.Mm {γ δ:Type} {R:γ→δ→Prop} {m m':List δ} (p:m'.Perm m):∀{l:List γ},F2 R l m→∃l',l'.Perm l∧F2 R l' m':=by
 induction p with
 | nil=>intro l h; cases h; exact ⟨[],.nil,.nil⟩
 | cons x p ih=>
  intro l h
  cases h with
  | cons h t=>obtain ⟨l',p',h'⟩:=ih t; exact ⟨_,p'.cons _,.cons h h'⟩
 | swap x y l0=>
  intro l h
  cases h with
  | cons h1 t=>cases t with | cons h2 t=>exact ⟨_,List.Perm.swap ..,.cons h2 (.cons h1 t)⟩
 | trans p q ihp ihq=>
  intro l h
  obtain ⟨l1,p1,h1⟩:=ihq h
  obtain ⟨l2,p2,h2⟩:=ihp h1
  exact ⟨l2,p2.trans p1,h2⟩
theorem F2.flat {γ δ:Type} {R:Value→Value→Prop} {f:γ→List Value} {g:δ→List Value} {l:List γ} {m:List δ} (h:F2 (fun x y=>F2 R (f x) (g y)) l m):F2 R (l.flatMap f) (m.flatMap g):=by
 induction h with
 | nil=>exact .nil
 | cons hr _ ih=>simp only[List.flatMap_cons]; exact hr.append ih
omit [Inhabited α] in
theorem Rq {k:Nat} {enc:α→List Value} {cv:β→List Value} (hA:∀x,(cv x).length=k) {kA:β→κt} {kC:α→κt} (CL:∀(x:β) (cs:List Value),F2 (VR φ) (cv x) cs→∃y:α,cs=enc y∧kA x=kC y) :
  ∀(L:List β) (C:List Value),F2 (VR φ) (L.flatMap cv) C→∃ys:List α,C=ys.flatMap enc∧F2 (fun x y=>F2 (VR φ) (cv x) (enc y)∧kA x=kC y) L ys:=by
 intro L
 induction L with
 | nil=>intro C h; cases h; exact ⟨[],rfl,.nil⟩
 | cons x L ih=>
  intro C h
  rw[List.flatMap_cons] at h
  have h1:=h.take k
  have h2:=h.drop k
  have e1:(cv x++L.flatMap cv).take k=cv x:=by rw[←hA x,List.take_left]
  have e2:(cv x++L.flatMap cv).drop k=L.flatMap cv:=by rw[←hA x,List.drop_left]
  rw[e1] at h1
  rw[e2] at h2
  obtain ⟨y,hy,hk⟩:=CL x _ h1
  obtain ⟨ys,hys,hr⟩:=ih _ h2
  refine ⟨y::ys,?_,.cons ⟨hy▸h1,hk⟩ hr⟩
  rw[List.flatMap_cons,←hy,←hys,List.take_append_drop]
theorem uV {k:Nat} (k0:0<k) {enc:α→List Value} (hk:∀x,(enc x).length=k) (ys:List α):(Sort.flatK enc k ys.toArray).toList=ys.flatMap enc:=by
 refine List.ext_getElem? fun t=>?_
 have hl:=bh hk ys
 by_cases ht:t<ys.length*k
 ·have hd:t / k<ys.length:=(Nat.div_lt_iff_lt_mul k0).2 ht
  have hm:t % k<k:=Nat.mod_lt _ k0
  have e:=ic hk (K:=ys) (i:=t / k) (j:=t % k) (List.getElem?_eq_getElem hd) hm
  rw[Nat.div_add_mod' t k] at e
  rw[e,Array.getElem?_toList]
  have hs:t<(Sort.flatK enc k ys.toArray).size:=by simpa using ht
  rw[Array.getElem?_eq_getElem hs]
  have:=Sort.get_flatK enc k ys.toArray t (by simpa using ht)
  rw[getElem!_pos _ t hs] at this
  rw[this]
  have hd':t / k<ys.toArray.size:=by simpa using hd
  have a1:ys.toArray[t / k]! = ys[t / k]:=by rw[getElem!_pos ys.toArray (t / k) hd']; simp
  have hm':t % k<(enc ys[t / k]).length:=by rw[hk]; exact hm
  rw[a1,getElem!_pos (enc ys[t / k]) (t % k) hm',List.getElem?_eq_getElem hm']
 ·have FG:(Sort.flatK enc k ys.toArray).toList.length=ys.length*k:=by simp
  rw[List.getElem?_eq_none (by rw[FG]; omega),List.getElem?_eq_none (by rw[hl]; omega)]
theorem HR.grown {h:Heap} {w:World} (hr:HR P φ h w) (os:Array Obj):HR P φ h (grow w os):=by
 refine ⟨fun b o pl h1 h2=>?_,fun b pl h=>?_,hr.keys,hr.KJ,hr.inj,hr.lo⟩
 ·have:=hr.dom b pl h2
  show OR P φ o pl (w.heap++os)[pl.B]?
  rw[Array.getElem?_append_left this.2]
  exact hr.obj b o pl h1 h2
 ·have:=hr.dom b pl h
  refine ⟨this.1,?_⟩
  show pl.B<(w.heap++os).size
  rw[Array.size_append]; omega
theorem Ext.grown {φ':di} {h h':Heap} {w w':World} (hx:Ext φ φ' h h' w w') (os:Array Obj):Ext φ φ' h h' w (grow w' os):=by
 have hs:=hx.size
 have key:∀B,B<w.heap.size→(grow w' os).heap[B]? = w'.heap[B]?:=fun B hB=>by
  show (w'.heap++os)[B]? = _
  rw[Array.getElem?_append_left (by omega)]
 refine ⟨hx.sub,hx.new,hx.nx,?_,fun B hB hn=>(key B hB).trans (hx.xX B hB hn),hx.Cf,hx.tape,hx.os,hx.output,fun _ _=>trivial,hx.lo,hx.DH,fun b o pl h1 h2 h3 h4 h5=>(key _ h5).trans (hx.DI b o pl h1 h2 h3 h4 h5),hx.dr⟩
 show _≤(w'.heap++os).size
 rw[Array.size_append]; omega
theorem VR.F8 {b n:Nat} {v':Value} (h:VR φ (.slice (some ⟨b,0,none⟩) n aM) v'):∃pl c,φ b=some pl∧v'=.slice (some ⟨pl.B,0,none⟩) n c:=by
 generalize DO:aM=cc at h
 cases h with
 | slice hp hn hc=>subst DO; exact absurd hc (Nat.lt_irrefl _)
 | bM hp hn hc=>exact ⟨_,_,hp,rfl⟩
 | cr=>exact absurd DO (by decide)
theorem VR.aas {g:Nat} {v':Value} (h:VR φ (.func (.func g) #[] #[]) v'):v'=.func (.func g) #[] #[]:=by
 cases h with
 | func fn a a' b b' hal Je _ _=>
  have ea:a'=#[]:=by
   have:a'.toList.length=0:=hal.symm
   exact Array.eq_empty_of_size_eq_zero (by simpa using this)
  have eb:b'=#[]:=by
   have:b'.toList.length=0:=Je.symm
   exact Array.eq_empty_of_size_eq_zero (by simpa using this)
  rw[ea,eb]
theorem E1 {f g:FuncId} {k:Nat} (k0:0<k) {enc:α→List Value} {cv:β→List Value} (hk:∀x,(enc x).length=k) (hA:∀x,(cv x).length=k) {kA:β→κt} {kC:α→κt} {lt:κt→κt→Bool}
  (CL:∀(φ:di) (x:β) (cs:List Value),F2 (VR φ) (cv x) cs→∃y:α,cs=enc y∧kA x=kC y)
  (enters:∀args w,(callFunc f args).run P w=.ok (.enter f args) w)
  (law:∀(blk cap:Nat) (d:Array α) (w:World),HoldsK enc k w blk 0 d→blk<w.heap.size→d.size<4611686018427387904→
   Calls P f #[.slice (some ⟨blk,0,none⟩) d.size cap,.func (.func g) #[] #[]] w fun e w'=>e=.returned (.tuple #[])∧∃d' n os,PermIn 0 d.size d d'∧SortedIn (fun x y=>lt (kC x) (kC y)) 0 d.size d'∧w'=Go.Proofs.sortWorldK enc k w blk 0 n d' os)
  {h:Heap} {b:Nat} {L:List β} {ty:TypeId} {op:Bool} (hb:h.bl.get b=some (aa (L.flatMap cv) ty op)) (hlo:h.lo≤b) (Ko:L.length≤1000000) {κ:Value→Heap→Prop}
  (hκ:∀D:List β,D.Perm L→D.Pairwise (fun x y=>lt (kA y) (kA x)=false)→κ (.tuple #[]) ⟨h.nx,h.bl.aW b (aa (D.flatMap cv) ty op),h.lo⟩) :
  CallW P f [.slice (some ⟨b,0,none⟩) L.length aM,.func (.func g) #[] #[]] h κ:=by
 intro φ w args' ha hr
 cases ha with | cons hs ha=>
 cases ha with | cons hf ha=>
 cases ha
 obtain ⟨pl,c,hp,rfl⟩:=hs.F8
 obtain rfl:=hf.aas
 have hb':=hb
 unfold aa at hb'
 obtain ⟨C,hC,yc,hn2,hop,hcell⟩:=hr.rowAt hb' hp
 have hlen:=bh hA L
 rw[hlen] at yc hn2 hcell
 have hF:F2 (VR φ) (L.flatMap cv) (C.toList.take (L.length*k)):=by
  have hCl:C.toList.length=C.size:=by simp
  refine F2.k_ (by rw[hlen,List.length_take]; omega) fun j v v' e1 e2=>?_
  have hj:j<L.length*k:=by rw[←hlen]; exact (List.getElem?_eq_some_iff.mp e1).1
  obtain ⟨v2,h2,h3⟩:=hcell j v (by rw[kI]; exact e1) hj
  rw[List.getElem?_take_of_lt hj,Array.getElem?_toList,h2] at e2
  cases e2; exact h3
 obtain ⟨ys,hys,hR⟩:=Rq hA (CL φ) L _ hF
 have VT:ys.length=L.length:=hR.length.symm
 have hH:HoldsK enc k w pl.B 0 ys.toArray:=by
  intro j hj
  have hfl:=uV k0 hk ys
  rw[←hys] at hfl
  have hj':j<L.length*k:=by simpa[VT] using hj
  have W8:j<(Sort.flatK enc k ys.toArray).size:=hj
  have e1:(Sort.flatK enc k ys.toArray)[j]? = C[j]?:=by
   rw[←Array.getElem?_toList,hfl,List.getElem?_take_of_lt hj',Array.getElem?_toList]
  rw[getElem!_pos _ j W8]
  rw[Array.getElem?_eq_getElem W8,Array.getElem?_eq_getElem (by omega)] at e1
  have e2:=Option.some.inj e1
  constructor
  ·show w.cell? ⟨pl.B,0+j,none⟩=some (Sort.flatK enc k ys.toArray)[j]
   rw[e2,Nat.zero_add]
   simp[World.cell?,hC,show j<C.size by omega]
  ·simp[World.frozen?,hC]
 have hdom:=hr.dom b pl hp
 have hd:=law pl.B c ys.toArray w hH hdom.2 (by rw[show ys.toArray.size=L.length by simpa using VT]; omega)
 rw[show ys.toArray.size=L.length by simpa using VT] at hd
 refine ⟨enters _ _,hd.mono ?_⟩
 rintro e w' ⟨rfl,d',n,os,VU,hsort,rfl⟩
 obtain ⟨hsz,_,zi⟩:=VU
 have hdl:d'.size=L.length:=by rw[hsz]; simpa using VT
 have zi:d'.toList.Perm ys:=by
  have e1:d'.extract 0 L.length=d':=by rw[←hdl]; simp
  have e2:ys.toArray.extract 0 L.length=ys.toArray:=by rw[←VT]; simp
  rw[e1,e2] at zi
  simpa using zi
 obtain ⟨D,hD,hRD⟩:=F2.Mm zi hR
 have hDl:=hD.length_eq
 have hpw:D.Pairwise (fun x y=>lt (kA y) (kA x)=false):=by
  rw[List.pairwise_iff_getElem]
  intro i j hi hj hij
  obtain ⟨y1,q1,r1⟩:=hRD.get i _ (List.getElem?_eq_getElem hi)
  obtain ⟨y2,q2,r2⟩:=hRD.get j _ (List.getElem?_eq_getElem hj)
  have:=hsort i j (Nat.zero_le _) hij (by omega)
  rw[Array.getElem?_toList] at q1 q2
  obtain ⟨s1,rfl⟩:=Array.getElem?_eq_some_iff.1 q1
  obtain ⟨s2,rfl⟩:=Array.getElem?_eq_some_iff.1 q2
  rw[getElem!_pos _ i s1,getElem!_pos _ j s2] at this
  rw[r1.2,r2.2]
  exact this
 obtain ⟨w1,hw1⟩:∃w1,w1=putRowK enc k (Sort.ahead w n) pl.B 0 d':=⟨_,rfl⟩
 have hfd:(Sort.flatK enc k d').toList=d'.toList.flatMap enc:=by
  have:=uV k0 hk d'.toList
  simpa using this
 have hheap:w1.heap=w.heap.modify pl.B (onCells (putCells id 0 (Sort.flatK enc k d'))):=by rw[hw1]; rfl
 have hB:w1.heap[pl.B]? = some (.cells (putCells id 0 (Sort.flatK enc k d') C) ty (0,0)):=by
  rw[hheap,Array.getElem?_modify,if_pos rfl,hC]; rfl
 have zK:∀q,q≠pl.B→w1.heap[q]? = w.heap[q]?:=by
  intro q hq
  rw[hheap,Array.getElem?_modify,if_neg (fun e=>hq e.symm)]
 have Jv:=bh hA D
 have ho:OR P φ (aa (D.flatMap cv) ty op) pl w1.heap[pl.B]?:=by
  rw[hB]
  refine ⟨rfl,rfl,?_,?_,?_,?_⟩
  ·rw[Jv,hDl]
   simpa[putCells] using yc
  ·rw[Jv,hDl]; exact hn2
  ·intro ho
   obtain ⟨a1,a2,a3⟩:=hop ho
   exact ⟨by simpa[putCells] using a1,a2,a3⟩
  ·intro i v hv hi
   rw[kI] at hv
   rw[Jv,hDl] at hi
   have hFD:F2 (VR φ) (D.flatMap cv) (d'.toList.flatMap enc):=F2.flat (hRD.imp fun a b r=>r.1)
   obtain ⟨v',e1,e2⟩:=hFD.get i v hv
   refine ⟨v',?_,e2⟩
   rw[←hfd,Array.getElem?_toList] at e1
   obtain ⟨hs,e3⟩:=Array.getElem?_eq_some_iff.1 e1
   have hiC:i<C.size:=by omega
   have hs':i<d'.size*k:=by simpa using hs
   unfold putCells
   rw[Array.getElem?_mapIdx,Array.getElem?_eq_getElem hiC]
   simp only[Option.map_some,Nat.zero_le,true_and,Nat.zero_add,Nat.sub_zero]
   rw[if_pos hs,getElem!_pos _ i hs,e3]; rfl
 have hts:=hr.zJ (w':=w1) hlo hp ⟨_,hb,trivial⟩ (by rw[hheap]; simp) zK ho (by rw[hw1]; rfl) (by rw[hw1]; rfl) (by rw[hw1]; rfl) (.inl trivial) (by rw[hw1]; exact Nat.le_add_right _ _)
 refine ⟨φ,.tuple #[],.tuple #[],_,rfl,hκ D hD hpw,VR.tuple' .nil,?_,?_⟩
 ·show HR P φ _ (grow (putRowK enc k (Sort.ahead w n) pl.B 0 d') os)
  rw[←hw1]; exact hts.1.grown os
 ·show Ext φ φ h _ w (grow (putRowK enc k (Sort.ahead w n) pl.B 0 d') os)
  rw[←hw1]; exact hts.2.grown os
theorem F9 {f g:FuncId} (enters:∀args w,(callFunc f args).run P w=.ok (.enter f args) w)
  (law:∀(p:Option Addr) (cap:Nat) (fv:Value) (w:World),Calls P f #[.slice p 0 cap,fv] w fun e w'=>e=.returned (.tuple #[])∧w'=w)
  {h:Heap} {v:Value} (hv:v=.slice none 0 0∨∃b o,v=.slice (some ⟨b,o,none⟩) 0 0) {κ:Value→Heap→Prop} (hκ:κ (.tuple #[]) h):CallW P f [v,.func (.func g) #[] #[]] h κ:=by
 intro φ w args' ha hr
 cases ha with | @cons _ v1 _ m1 hs ha=>
 cases ha with | @cons _ v2 _ m2 hf ha=>
 cases ha
 obtain ⟨p,cap,e1⟩:∃p cap,v1=.slice p 0 cap:=by
  rcases hv with rfl | ⟨b,o,rfl⟩
  ·cases hs with
   | d_ h=>exact ⟨_,_,rfl⟩
  ·cases hs with
   | slice h1 h2 h3=>exact ⟨_,_,rfl⟩
 subst e1
 refine ⟨enters _ _,(law p cap v2 w).mono ?_⟩
 rintro e w' ⟨rfl,rfl⟩
 exact ⟨φ,.tuple #[],.tuple #[],h,rfl,hκ,VR.tuple' .nil,hr,Ext.refl _ _ _⟩
theorem uW {f:FuncId} {args args':List Value} {v:Value} (hc:CallW P f args ⟨0,.nil,0⟩ fun u _=>u=v) (ha:F2 (VR fun _=>none) args args') (hv:kq v=true) (W:World) :
  Calls P f args'.toArray W fun e w'=>e=.returned v∧∃q os',w'=grow (W.drewN q) os':=by
 refine Calls.mono (hc _ W args' ha (HR.start W)).2 ?_
 rintro e w' ⟨φ',v1,v',h',rfl,g1,g2,g3,g4⟩
 have e1:v1=v:=g1
 subst e1
 refine ⟨by rw[lg hv g2],w'.drawn-W.drawn,w'.heap.extract W.heap.size w'.heap.size,?_⟩
 have hd:=g4.dr
 have hs:=g4.size
 have hfr:∀B,B<W.heap.size→w'.heap[B]? = W.heap[B]?:=fun B hB=>g4.xX B hB fun b pl e=>by cases e
 have hheap:w'.heap=W.heap++w'.heap.extract W.heap.size w'.heap.size:=by
  refine Array.ext_getElem? fun i=>?_
  by_cases hi:i<W.heap.size
  ·rw[Array.getElem?_append_left hi,hfr i hi]
  ·rw[Array.getElem?_append_right (by omega),Array.getElem?_extract]
   by_cases hi2:i<w'.heap.size
   ·rw[if_pos (by omega)]; congr 1; omega
   ·rw[if_neg (by omega),Array.getElem?_eq_none (by omega)]
 have ht:=g4.tape
 have ho:=g4.os
 have hu:=g4.output
 obtain ⟨a1,a2,a3,a4,a5⟩:=w'
 obtain ⟨b1,b2,b3,b4,b5⟩:=W
 simp only[grow,World.drewN] at *
 rw[World.mk.injEq]
 exact ⟨hheap,ht,by omega,ho,hu⟩
end
end Go.Vai
