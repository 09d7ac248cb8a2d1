/-
  PROVED HERE: a part of the proof (SO, K32, K33, K34, K35, K36, K37, K38, K39, K40, L5, L6, L8, K44, L9, L10, L11, L12, L13, L14, L15, L16, L17, L18, VaiB, U1, U2, U3, U4, U5, U6).
-/
import Derived.Test.YtmjghbjpdoeemaaGreatDoorG4
import Derived.Shelf.SlSortCmp.WholeK
import Derived.Shelf.SlSortCmp.NoneTotal
import Derived.Test.YtmjghbjpdoeemaaGreatDoorG5
import Derived.Test.YtmjghbjpdoeemaaGreatDoorSRT
import Derived.Test.YtmjghbjpdoeemaaGreatDoorG2
set_option linter.unusedVariables false
set_option linter.unusedSimpArgs false
set_option maxRecDepth 100000
set_option maxHeartbeats 1000000
namespace Go.Vai
open Go Go.Sort
section
variable {α β κt:Type} [Inhabited α] {P:Program} {φ:dQ}
theorem F2.Ri {γ δ:Type} {R:γ→δ→Prop} {m m':List δ} (p:m'.Perm m):∀{l:List γ},F2 R l m→∃l',l'.Perm l∧F2 R l' m':=by
 induction p with
 | nil=>intro l h; cases h; exact ⟨[],.nil,.nil⟩
 | cons x p ih=>
  intro l h
  cases h with
  | cons h t=>obtain ⟨l',p',h'⟩:=ih t; exact ⟨_,p'.cons _,.cons h h'⟩
 | swap x y l0=>
  intro l h
  cases h with
  | cons h1 t=>cases t with | cons h2 t=>exact ⟨_,List.Perm.swap ..,.cons h2 (.cons h1 t)⟩
 | trans p q ihp ihq=>
  intro l h
  obtain ⟨l1,p1,h1⟩:=ihq h
  obtain ⟨l2,p2,h2⟩:=ihp h1
  exact ⟨l2,p2.trans p1,h2⟩
theorem F2.flat {γ δ:Type} {R:Value→Value→Prop} {f:γ→List Value} {g:δ→List Value} {l:List γ} {m:List δ} (h:F2 (fun x y=>F2 R (f x) (g y)) l m):F2 R (l.flatMap f) (m.flatMap g):=by
 induction h with
 | nil=>exact .nil
 | cons hr _ ih=>simp only[List.flatMap_cons]; exact hr.append ih
omit [Inhabited α] in
theorem Xi {k:Nat} {enc:α→List Value} {cN:β→List Value} (hA:∀x,(cN x).length=k) {kA:β→κt} {kC:α→κt} (Ge:∀(x:β) (cs:List Value),F2 (VR φ) (cN x) cs→∃y:α,cs=enc y∧kA x=kC y) :
  ∀(L:List β) (C:List Value),F2 (VR φ) (L.flatMap cN) C→∃ys:List α,C=ys.flatMap enc∧F2 (fun x y=>F2 (VR φ) (cN x) (enc y)∧kA x=kC y) L ys:=by
 intro L
 induction L with
 | nil=>intro C h; cases h; exact ⟨[],rfl,.nil⟩
 | cons x L ih=>
  intro C h
  rw[List.flatMap_cons] at h
  have h1:=h.take k
  have h2:=h.drop k
  have e1:(cN x++L.flatMap cN).take k=cN x:=by rw[←hA x,List.take_left]
  have e2:(cN x++L.flatMap cN).drop k=L.flatMap cN:=by rw[←hA x,List.drop_left]
  rw[e1] at h1
  rw[e2] at h2
  obtain ⟨y,hy,hk⟩:=Ge x _ h1
  obtain ⟨ys,hys,hr⟩:=ih _ h2
  refine ⟨y::ys,?_,.cons ⟨hy▸h1,hk⟩ hr⟩
  rw[List.flatMap_cons,←hy,←hys,List.take_append_drop]
theorem yf {k:Nat} (k0:0<k) {enc:α→List Value} (hk:∀x,(enc x).length=k) (ys:List α):(Sort.flatK enc k ys.toArray).toList=ys.flatMap enc:=by
 refine List.ext_getElem? fun t=>?_
 have hl:=aX hk ys
 by_cases ht:t<ys.length*k
 ·have hd:t / k<ys.length:=(Nat.div_lt_iff_lt_mul k0).2 ht
  have hm:t % k<k:=Nat.mod_lt _ k0
  have e:=gU hk (K:=ys) (i:=t / k) (j:=t % k) (List.getElem?_eq_getElem hd) hm
  rw[Nat.div_add_mod' t k] at e
  rw[e,Array.getElem?_toList]
  have hs:t<(Sort.flatK enc k ys.toArray).size:=by simpa using ht
  rw[Array.getElem?_eq_getElem hs]
  have:=Sort.get_flatK enc k ys.toArray t (by simpa using ht)
  rw[getElem!_pos _ t hs] at this
  rw[this]
  have hd':t / k<ys.toArray.size:=by simpa using hd
  have a1:ys.toArray[t / k]! = ys[t / k]:=by rw[getElem!_pos ys.toArray (t / k) hd']; simp
  have hm':t % k<(enc ys[t / k]).length:=by rw[hk]; exact hm
  rw[a1,getElem!_pos (enc ys[t / k]) (t % k) hm',List.getElem?_eq_getElem hm']
 ·have Lt:(Sort.flatK enc k ys.toArray).toList.length=ys.length*k:=by simp
  rw[List.getElem?_eq_none (by rw[Lt]; omega),List.getElem?_eq_none (by rw[hl]; omega)]
theorem HR.grown {h:Heap} {w:World} (hr:HR P φ h w) (os:Array Obj):HR P φ h (grow w os):=by
 refine ⟨fun b o pl h1 h2=>?_,fun b pl h=>?_,hr.keys,hr.PZ,hr.inj,hr.lo⟩
 ·have:=hr.dom b pl h2
  show OR P φ o pl (w.heap++os)[pl.B]?
  rw[Array.getElem?_append_left this.2]
  exact hr.obj b o pl h1 h2
 ·have:=hr.dom b pl h
  refine ⟨this.1,?_⟩
  show pl.B<(w.heap++os).size
  rw[Array.size_append]; omega
theorem Ext.grown {φ':dQ} {h h':Heap} {w w':World} (hx:Ext φ φ' h h' w w') (os:Array Obj):Ext φ φ' h h' w (grow w' os):=by
 have hs:=hx.size
 have key:∀B,B<w.heap.size→(grow w' os).heap[B]? = w'.heap[B]?:=fun B hB=>by
  show (w'.heap++os)[B]? = _
  rw[Array.getElem?_append_left (by omega)]
 refine ⟨hx.sub,hx.new,hx.nx,?_,fun B hB hn=>(key B hB).trans (hx.AU B hB hn),hx.FD,hx.tape,hx.os,hx.output,fun _ _=>trivial,hx.lo,hx.Hr,fun b o pl h1 h2 h3 h4 h5=>(key _ h5).trans (hx.Hs b o pl h1 h2 h3 h4 h5),hx.dr⟩
 show _≤(w'.heap++os).size
 rw[Array.size_append]; omega
theorem VR.KJ {b n:Nat} {v':Value} (h:VR φ (.slice (some ⟨b,0,none⟩) n aO) v'):∃pl c,φ b=some pl∧v'=.slice (some ⟨pl.B,0,none⟩) n c:=by
 generalize Hw:aO=cc at h
 cases h with
 | slice hp hn hc=>subst Hw; exact absurd hc (Nat.lt_irrefl _)
 | bZ hp hn hc=>exact ⟨_,_,hp,rfl⟩
 | cQ=>exact absurd Hw (by decide)
theorem VR.agH {g:Nat} {v':Value} (h:VR φ (.func (.func g) #[] #[]) v'):v'=.func (.func g) #[] #[]:=by
 cases h with
 | func fn a a' b b' hal hbl _ _=>
  have ea:a'=#[]:=by
   have:a'.toList.length=0:=hal.symm
   exact Array.eq_empty_of_size_eq_zero (by simpa using this)
  have eb:b'=#[]:=by
   have:b'.toList.length=0:=hbl.symm
   exact Array.eq_empty_of_size_eq_zero (by simpa using this)
  rw[ea,eb]
theorem Ce {f g:FuncId} {k:Nat} (k0:0<k) {enc:α→List Value} {cN:β→List Value} (hk:∀x,(enc x).length=k) (hA:∀x,(cN x).length=k) {kA:β→κt} {kC:α→κt} {lt:κt→κt→Bool}
  (Ge:∀(φ:dQ) (x:β) (cs:List Value),F2 (VR φ) (cN x) cs→∃y:α,cs=enc y∧kA x=kC y)
  (enters:∀args w,(callFunc f args).run P w=.ok (.enter f args) w)
  (law:∀(blk cap:Nat) (d:Array α) (w:World),HoldsK enc k w blk 0 d→blk<w.heap.size→d.size<4611686018427387904→
   Calls P f #[.slice (some ⟨blk,0,none⟩) d.size cap,.func (.func g) #[] #[]] w fun e w'=>e=.returned (.tuple #[])∧∃d' n os,PermIn 0 d.size d d'∧SortedIn (fun x y=>lt (kC x) (kC y)) 0 d.size d'∧w'=Go.Proofs.sortWorldK enc k w blk 0 n d' os)
  {h:Heap} {b:Nat} {L:List β} {ty:TypeId} {op:Bool} (hb:h.bl.get b=some (aa (L.flatMap cN) ty op)) (hlo:h.lo≤b) (Cv:L.length≤1000000) {κ:Value→Heap→Prop}
  (hκ:∀D:List β,D.Perm L→D.Pairwise (fun x y=>lt (kA y) (kA x)=false)→κ (.tuple #[]) ⟨h.nx,h.bl.aY b (aa (D.flatMap cN) ty op),h.lo⟩) :
  CallW P f [.slice (some ⟨b,0,none⟩) L.length aO,.func (.func g) #[] #[]] h κ:=by
 intro φ w args' ha hr
 cases ha with | cons hs ha=>
 cases ha with | cons hf ha=>
 cases ha
 obtain ⟨pl,c,hp,rfl⟩:=hs.KJ
 obtain rfl:=hf.agH
 have hb':=hb
 unfold aa at hb'
 obtain ⟨C,hC,y_,hn2,hop,hcell⟩:=hr.rowAt hb' hp
 have hlen:=aX hA L
 rw[hlen] at y_ hn2 hcell
 have hF:F2 (VR φ) (L.flatMap cN) (C.toList.take (L.length*k)):=by
  have hCl:C.toList.length=C.size:=by simp
  refine F2.nk (by rw[hlen,List.length_take]; omega) fun j v v' e1 e2=>?_
  have hj:j<L.length*k:=by rw[←hlen]; exact (List.getElem?_eq_some_iff.mp e1).1
  obtain ⟨v2,h2,h3⟩:=hcell j v (by rw[mJ]; exact e1) hj
  rw[List.getElem?_take_of_lt hj,Array.getElem?_toList,h2] at e2
  cases e2; exact h3
 obtain ⟨ys,hys,hR⟩:=Xi hA (Ge φ) L _ hF
 have hyl:ys.length=L.length:=hR.length.symm
 have hH:HoldsK enc k w pl.B 0 ys.toArray:=by
  intro j hj
  have hfl:=yf k0 hk ys
  rw[←hys] at hfl
  have hj':j<L.length*k:=by simpa[hyl] using hj
  have hjs:j<(Sort.flatK enc k ys.toArray).size:=hj
  have e1:(Sort.flatK enc k ys.toArray)[j]? = C[j]?:=by
   rw[←Array.getElem?_toList,hfl,List.getElem?_take_of_lt hj',Array.getElem?_toList]
  rw[getElem!_pos _ j hjs]
  rw[Array.getElem?_eq_getElem hjs,Array.getElem?_eq_getElem (by omega)] at e1
  have e2:=Option.some.inj e1
  constructor
  ·show w.cell? ⟨pl.B,0+j,none⟩=some (Sort.flatK enc k ys.toArray)[j]
   rw[e2,Nat.zero_add]
   simp[World.cell?,hC,show j<C.size by omega]
  ·simp[World.frozen?,hC]
 have hdom:=hr.dom b pl hp
 have hd:=law pl.B c ys.toArray w hH hdom.2 (by rw[show ys.toArray.size=L.length by simpa using hyl]; omega)
 rw[show ys.toArray.size=L.length by simpa using hyl] at hd
 refine ⟨enters _ _,hd.mono ?_⟩
 rintro e w' ⟨rfl,d',n,os,ab9,hsort,rfl⟩
 obtain ⟨hsz,_,Cs⟩:=ab9
 have hdl:d'.size=L.length:=by rw[hsz]; simpa using hyl
 have Cs:d'.toList.Perm ys:=by
  have e1:d'.extract 0 L.length=d':=by rw[←hdl]; simp
  have e2:ys.toArray.extract 0 L.length=ys.toArray:=by rw[←hyl]; simp
  rw[e1,e2] at Cs
  simpa using Cs
 obtain ⟨D,hD,hRD⟩:=F2.Ri Cs hR
 have hDl:=hD.length_eq
 have Xj:D.Pairwise (fun x y=>lt (kA y) (kA x)=false):=by
  rw[List.pairwise_iff_getElem]
  intro i j hi hj hij
  obtain ⟨y1,q1,r1⟩:=hRD.get i _ (List.getElem?_eq_getElem hi)
  obtain ⟨y2,q2,r2⟩:=hRD.get j _ (List.getElem?_eq_getElem hj)
  have:=hsort i j (Nat.zero_le _) hij (by omega)
  rw[Array.getElem?_toList] at q1 q2
  obtain ⟨s1,rfl⟩:=Array.getElem?_eq_some_iff.1 q1
  obtain ⟨s2,rfl⟩:=Array.getElem?_eq_some_iff.1 q2
  rw[getElem!_pos _ i s1,getElem!_pos _ j s2] at this
  rw[r1.2,r2.2]
  exact this
 obtain ⟨w1,hw1⟩:∃w1,w1=putRowK enc k (Sort.ahead w n) pl.B 0 d':=⟨_,rfl⟩
 have hfd:(Sort.flatK enc k d').toList=d'.toList.flatMap enc:=by
  have:=yf k0 hk d'.toList
  simpa using this
 have hheap:w1.heap=w.heap.modify pl.B (onCells (putCells id 0 (Sort.flatK enc k d'))):=by rw[hw1]; rfl
 have hB:w1.heap[pl.B]? = some (.cells (putCells id 0 (Sort.flatK enc k d') C) ty (0,0)):=by
  rw[hheap,Array.getElem?_modify,if_pos rfl,hC]; rfl
 have CS:∀q,q≠pl.B→w1.heap[q]? = w.heap[q]?:=by
  intro q hq
  rw[hheap,Array.getElem?_modify,if_neg (fun e=>hq e.symm)]
 have Ot:=aX hA D
 have ho:OR P φ (aa (D.flatMap cN) ty op) pl w1.heap[pl.B]?:=by
  rw[hB]
  refine ⟨rfl,rfl,?_,?_,?_,?_⟩
  ·rw[Ot,hDl]
   simpa[putCells] using y_
  ·rw[Ot,hDl]; exact hn2
  ·intro ho
   obtain ⟨a1,a2,a3⟩:=hop ho
   exact ⟨by simpa[putCells] using a1,a2,a3⟩
  ·intro i v hv hi
   rw[mJ] at hv
   rw[Ot,hDl] at hi
   have hFD:F2 (VR φ) (D.flatMap cN) (d'.toList.flatMap enc):=F2.flat (hRD.imp fun a b r=>r.1)
   obtain ⟨v',e1,e2⟩:=hFD.get i v hv
   refine ⟨v',?_,e2⟩
   rw[←hfd,Array.getElem?_toList] at e1
   obtain ⟨hs,e3⟩:=Array.getElem?_eq_some_iff.1 e1
   have hiC:i<C.size:=by omega
   have hs':i<d'.size*k:=by simpa using hs
   unfold putCells
   rw[Array.getElem?_mapIdx,Array.getElem?_eq_getElem hiC]
   simp only[Option.map_some,Nat.zero_le,true_and,Nat.zero_add,Nat.sub_zero]
   rw[if_pos hs,getElem!_pos _ i hs,e3]; rfl
 have hts:=hr.CQ (w':=w1) hlo hp ⟨_,hb,trivial⟩ (by rw[hheap]; simp) CS ho (by rw[hw1]; rfl) (by rw[hw1]; rfl) (by rw[hw1]; rfl) (.inl trivial) (by rw[hw1]; exact Nat.le_add_right _ _)
 refine ⟨φ,.tuple #[],.tuple #[],_,rfl,hκ D hD Xj,VR.tuple' .nil,?_,?_⟩
 ·show HR P φ _ (grow (putRowK enc k (Sort.ahead w n) pl.B 0 d') os)
  rw[←hw1]; exact hts.1.grown os
 ·show Ext φ φ h _ w (grow (putRowK enc k (Sort.ahead w n) pl.B 0 d') os)
  rw[←hw1]; exact hts.2.grown os
theorem As {f g:FuncId} (enters:∀args w,(callFunc f args).run P w=.ok (.enter f args) w)
  (law:∀(p:Option Addr) (cap:Nat) (fv:Value) (w:World),Calls P f #[.slice p 0 cap,fv] w fun e w'=>e=.returned (.tuple #[])∧w'=w)
  {h:Heap} {v:Value} (hv:v=.slice none 0 0∨∃b o,v=.slice (some ⟨b,o,none⟩) 0 0) {κ:Value→Heap→Prop} (hκ:κ (.tuple #[]) h):CallW P f [v,.func (.func g) #[] #[]] h κ:=by
 intro φ w args' ha hr
 cases ha with | @cons _ v1 _ m1 hs ha=>
 cases ha with | @cons _ v2 _ m2 hf ha=>
 cases ha
 obtain ⟨p,cap,e1⟩:∃p cap,v1=.slice p 0 cap:=by
  rcases hv with rfl | ⟨b,o,rfl⟩
  ·cases hs with
   | fh h=>exact ⟨_,_,rfl⟩
  ·cases hs with
   | slice h1 h2 h3=>exact ⟨_,_,rfl⟩
 subst e1
 refine ⟨enters _ _,(law p cap v2 w).mono ?_⟩
 rintro e w' ⟨rfl,rfl⟩
 exact ⟨φ,.tuple #[],.tuple #[],h,rfl,hκ,VR.tuple' .nil,hr,Ext.refl _ _ _⟩
theorem rH {f:FuncId} {args args':List Value} {v:Value} (hc:CallW P f args ⟨0,.nil,0⟩ fun u _=>u=v) (ha:F2 (VR fun _=>none) args args') (hv:mA v=true) (W:World) :
  Calls P f args'.toArray W fun e w'=>e=.returned v∧∃q os',w'=grow (W.drewN q) os':=by
 refine Calls.mono (hc _ W args' ha (HR.start W)).2 ?_
 rintro e w' ⟨φ',v1,v',h',rfl,g1,g2,g3,g4⟩
 have e1:v1=v:=g1
 subst e1
 refine ⟨by rw[nq hv g2],w'.drawn-W.drawn,w'.heap.extract W.heap.size w'.heap.size,?_⟩
 have hd:=g4.dr
 have hs:=g4.size
 have hfr:∀B,B<W.heap.size→w'.heap[B]? = W.heap[B]?:=fun B hB=>g4.AU B hB fun b pl e=>by cases e
 have hheap:w'.heap=W.heap++w'.heap.extract W.heap.size w'.heap.size:=by
  refine Array.ext_getElem? fun i=>?_
  by_cases hi:i<W.heap.size
  ·rw[Array.getElem?_append_left hi,hfr i hi]
  ·rw[Array.getElem?_append_right (by omega),Array.getElem?_extract]
   by_cases hi2:i<w'.heap.size
   ·rw[if_pos (by omega)]; congr 1; omega
   ·rw[if_neg (by omega),Array.getElem?_eq_none (by omega)]
 have ht:=g4.tape
 have ho:=g4.os
 have hu:=g4.output
 obtain ⟨a1,a2,a3,a4,a5⟩:=w'
 obtain ⟨b1,b2,b3,b4,b5⟩:=W
 simp only[grow,World.drewN] at *
 rw[World.mk.injEq]
 exact ⟨hheap,ht,by omega,ho,hu⟩
end
end Go.Vai

namespace Go.Proofs
open Go.Vai Go.Clashes
def ab_:Nat→Int | 0=>0 | 1=>1 | 2=>2 | 3=>2 | 4=>3 | 5=>3 | 6=>3 | 7=>3 | _=>4
theorem Xk:∀n,n<13→bF Tryz.prog 40 132 [.int .u64 (n:Nat)] (.int .i64 (ab_ n))=true:=by
 intro n hn
 have:(List.range 13).all (fun n=>bF Tryz.prog 40 132 [.int .u64 ((n:Nat):Int)] (.int .i64 (ab_ n)))=true:=by kernel_rfl
 exact List.all_eq_true.1 this n (List.mem_range.2 hn)
theorem acd (v fv:Value) (n:Nat) (hn:n≤12) (lim:Int) (h:Heap) (κ:KQ) (hk:CallW Tryz.prog 297 [v,.int .i64 0,.int .i64 (n:Int),fv] h fun _ h'=>κ (.tuple ⟨[]⟩) h') :
  CallW Tryz.prog 263 [v,.int .i64 0,.int .i64 (n:Int),.int .i64 lim,fv] h κ:=by
 refine an mixed ?_
 rw[Wk]
 refine ⟨fun m l h1=>slot l 127=.int .i64 0∧slot l 140=.int .i64 (n:Int)∧HQ h h1,⟨0,rfl,rfl,rfl⟩,?_⟩
 rintro m l h1 ⟨s1,s2,hq⟩
 cases (show h=h1 from hq)
 simp(disch:=first|omega|simp only[Wd]<;>omega|rfl)only[Wz,Ej,s1,s2]
 exact hk
theorem Ou (v fv:Value) (h:Heap) (κ:KQ) (hk:κ (.tuple ⟨[]⟩) h):CallW Tryz.prog 297 [v,.int .i64 0,.int .i64 0,fv] h κ:=by
 refine an mixed ?_
 rw[Wu]
 simp(disch:=first|omega|simp only[Wd]<;>omega|rfl)only[Wz]
 refine ⟨fun n l h1=>slot l 42=.int .i64 1∧HQ h h1,⟨0,rfl,rfl⟩,?_⟩
 rintro n l h1 ⟨s1,hq⟩
 cases (show h=h1 from hq)
 simp(disch:=first|omega|simp only[Wd]<;>omega|rfl)only[Wz,s1]
 exact hk
section
variable {β:Type} {fl:β}
theorem Ov (n:Int) (h:Heap) (κ:Value→Heap→β) (hn:0≤n∧n≤18446744073709551615):jb fl .u64 (.int .i64 n) h κ=κ (.int .u64 n) h:=by
 unfold jb; simp only[gZ,dZ]; rw[IntWalk.u64_in _ hn]
end
theorem Ow (b:Nat):(Value.cells (.map (some b))).toList=[.map (some b)]:=id rfl
def PN (x y:Int × Int):Int:=pz x.1 x.2 y.1 y.2
theorem Cf (x y:Int × Int):ltOf PN x y=true↔fO x y:=by
 show decide (pz x.1 x.2 y.1 y.2<0)=true↔_
 rw[decide_eq_true_eq,EN]
theorem Jv {x y:Int × Int}:ltOf PN x y=false↔¬fO x y:=by
 rw[←Cf,Bool.not_eq_true]
theorem Rj:Sort.SWO (ltOf PN) where
 irrefl x:=Jv.2 (by unfold fO; omega)
 trans x y z h1 h2:=(Cf _ _).2 (mR ((Cf _ _).1 h1) ((Cf _ _).1 h2))
 ntrans x y z h1 h2:=by
  rw[Jv] at *
  unfold fO at *
  omega
theorem Ox (blk size:Nat) (w:World):Go.Proofs.CmpLays Tryz.prog 92 #[] nL 2 PN blk 0 size w:=by
 intro m os dk _ x y
 exact rH (args:=[dn x.1 x.2,dn y.1 y.2]) (args':=[dn x.1 x.2,dn y.1 y.2]) (pE x.1 x.2 y.1 y.2 rfl)
  (.cons (VR.qU (.cons (.int _ _) (.cons (.int _ _) .nil))) (.cons (VR.qU (.cons (.int _ _) (.cons (.int _ _) .nil))) .nil)) rfl _
theorem GQ (blk cap:Nat) (d:Array (Int × Int)) (w:World) (hH:Sort.HoldsK nL 2 w blk 0 d) (hblk:blk<w.heap.size) (hsz:d.size<4611686018427387904) :
  Calls Tryz.prog 226 #[.slice (some ⟨blk,0,none⟩) d.size cap,.func (.func 92) #[] #[]] w fun e w'=>e=.returned (.tuple #[])∧∃d' n os,Sort.PermIn 0 d.size d d'∧Sort.SortedIn (fun x y=>ltOf PN x y) 0 d.size d'∧w'=Go.Proofs.sortWorldK nL 2 w blk 0 n d' os:=by
 have eg:∀args w,(callFunc 92 args).run Tryz.prog w=.ok (.enter 92 args) w:=enters_of Tryz.func92 (by kernel_rfl) rfl
 exact Go.Proofs.AnyQ.slices_SortFunc Tryz.Xh 2 Tryz.isAgg36 Tryz.sizeOf36 nL (fun _=>rfl) (fun x v hv=>by simp[nL] at hv; rcases hv with rfl | rfl<;>rfl) PN Rj 92 #[] blk 0 cap d w eg (Ox blk d.size w) hH hblk hsz
theorem GR:∀args w,(callFunc 226 args).run Tryz.prog w=.ok (.enter 226 args) w:=enters_of Tryz.func226 (by kernel_rfl) rfl
theorem agK (φ:dQ) (x:Int × Int) (cs:List Value) (h:F2 (VR φ) (nL x) cs):∃y:Int × Int,cs=nL y∧x=y:=by
 unfold nL at h
 cases h with | cons h1 h=>
 cases h with | cons h2 h=>
 cases h
 cases h1; cases h2
 exact ⟨x,rfl,rfl⟩
theorem Rk (a h:Heap) (L:List (Int × Int)) (v:Value) (κ:KQ) (ho:x_ a h v L) (hle:Le a h) (hlo:h.lo≤h.nx) (hl:L.length≤1000000) (hd:L.Nodup)
  (hk:∀(D:List (Int × Int)) h',D.Perm L→D.Pairwise fO→x_ a h' v D→Le a h'→κ (.tuple ⟨[]⟩) h'):CallW Tryz.prog 226 [v,.func (.func 92) #[] #[]] h κ:=by
 rcases ho with ⟨rfl,hv⟩ | ⟨b,hv,h1,h2,h3,h4⟩
 ·obtain ⟨x,c,rfl,_⟩:=(show Sl nL h v [] from (show x_ a h v [] from .inl ⟨rfl,hv⟩).sl)
  refine an mixed ?_
  rw[V8]
  simp(disch:=first|omega|simp only[Wd]<;>omega|rfl)only[Wz,Ov]
  refine vh mixed (Xk 0 (by omega)) ?_
  refine acd _ _ 0 (by omega) _ h _ ?_
  refine Ou _ _ h _ ?_
  exact hk [] h (List.Perm.refl _) List.Pairwise.nil (.inl ⟨rfl,hv⟩) hle
 ·cases hv
  refine Ce (by decide) (enc:=nL) (cN:=nL) sG sG (kA:=id) (kC:=id) (lt:=fun x y=>ltOf PN x y) agK GR GQ h4 h3 hl ?_
  intro D hp hs
  have hs2:D.Pairwise fO:=by
   have hnd:D.Nodup:=(hp.nodup_iff).2 hd
   refine (hnd.and hs).imp ?_
   rintro x y ⟨hne,hlt⟩
   exact Jt (fun e=>hne e.symm) (Jv.1 hlt)
  refine hk D _ hp hs2 (.inr ⟨b,by rw[hp.length_eq],h1,h2,h3,T.af _ _ _⟩) ⟨hle.nx,hle.lo,fun c hc=>?_⟩
  exact (T.ai _ _ (by omega)).trans (hle.get c hc)
theorem Rl {h:Heap} {bb bm bp bl most:Nat} {M:List HE} {clock:Nat} {F:List Int} {B:List Bool} (s:bh h bb bm bp bl most M clock F B) (hlo:h.lo≤h.nx) (hM:M.length≤1000) (κ:KQ)
  (hk:∀v h' (D:List (Int × Int)),D.Perm (M.map bB)→D.Pairwise fO→x_ h h' v D→Le h h'→κ v h') :
  CallW Tryz.prog 138 [.pointer (some ⟨bb,0,none⟩)] h κ:=by
 refine an mixed ?_
 rw[VG]
 have gb:=s.gN
 simp(disch:=first|omega|simp only[Wd]<;>omega|rfl)only[Wz,aJ,gb]
 refine an mixed ?_
 rw[VW]
 simp(disch:=first|omega|simp only[Wd]<;>omega|rfl)only[Wz,Ow]
 obtain ⟨hA,az⟩:∃hA:Heap,hA=⟨h.nx+1,(h.bl.aY (h.nx) (aa [.map (some bm)] 218 false)),h.lo⟩:=⟨_,rfl⟩
 have aK:Le h hA:=by subst az; exact ((Le.refl h).new _)
 have gc:hA.bl.get (h.nx)=some (aa [.map (some bm)] 218 false):=by subst az; exact T.af _ _ _
 have d_:hA.nx=h.nx+1:=by subst az; rfl
 have ee:hA.lo=h.lo:=by subst az; rfl
 rw[←az]
 clear az
 have sA:=s.le aK
 refine an mixed ?_
 rw[VV]
 refine an mixed ?_
 rw[V7]
 have Yy:=s.tU
 refine EM M clock bm h.nx hA s.ok sA.fM (by omega) gc (by omega) (by omega) (by omega) _ ?_
 intro v h2 L hp ho bt
 have n2:=bt.nx
 have l2:=bt.lo
 have hnd:(L.map bB).Nodup:=by
  refine ((hp.map bB).nodup_iff).2 ?_
  rw[List.Nodup,List.pairwise_map]
  exact s.ok.nm.imp fun hn e=>hn ⟨congrArg Prod.fst e,congrArg Prod.snd e⟩
 have hll:=hp.length_eq
 refine Rk hA h2 (L.map bB) v _ ho bt (by omega) (by rw[List.length_map]; omega) hnd ?_
 intro D h3 hpD hs og c9
 exact hk v h3 D (hpD.trans (hp.map bB)) hs (dh.base og (by omega)) (aK.trans c9)
theorem KK {β:Type} {fl:β} {M:List HE} {clock:Nat} {h:Heap} {bm:Nat} (o:fL M clock) (g:h.bl.get bm=some (.map (M.map kQ) clock)) {e:HE} (he:e∈M) (κ:Value→Heap→β) :
  dG fl Tryz.prog 36 (.pointer none) false (.map (some bm)) (dn e.t e.r) h κ=κ (.pointer (some ⟨e.hb,0,none⟩)) h:=by
 unfold dG jY
 rw[NQ]
 simp only[g]
 rcases EF h e.t e.r M 0 with ⟨g1,g2⟩ | ⟨j,e',g1,g2,g3,g4⟩
 ·exact absurd ⟨rfl,rfl⟩ (g2 e he)
 ·rw[g1]
  rw[o.uniq he (List.mem_of_getElem? g2) g3 g4]; rfl
def Rm (v:Value):Value:=match v with | .slice a n c=>.slice a n c | _=>.slice none 0 0
def fH (e:HE):List Value:=[.int .i64 e.t,.int .i64 e.r,Rm e.q,.int .i64 e.w]
theorem cg (e:HE):(fH e).length=4:=rfl
theorem gO (e:HE):(fH e).all ew=true:=by
 unfold fH Rm
 split<;>rfl
theorem pF {h:Heap} {q:Value} {Q:List R5} (hq:Sl bq h q Q):Rm q=q:=by
 obtain ⟨x,c,rfl,_⟩:=hq
 rfl
abbrev sI (a h:Heap) (v:Value) (K:List HE):Prop:=dh fH a 81 h v K
def Au (a b:HE):Prop:=a.t=b.t∧a.r=b.r∧a.w=b.w∧a.Q=b.Q
theorem KM {h:Heap} {bb bm bp bl most:Nat} {M:List HE} {clock:Nat} {F:List Int} {B:List Bool} (s:bh h bb bm bp bl most M clock F B) (hlo:h.lo≤h.nx) (hM:M.length≤1000) (κ:KQ)
  (hk:∀v h' (K:List HE),K.length=M.length→(K.map bB).Perm (M.map bB)→(K.map bB).Pairwise fO→(∀k∈K,(∃e∈M,Au k e)∧QV h' k.q k.Q)→sI h h' v K→Le h h'→κ v h') :
  CallW Tryz.prog 103 [.pointer (some ⟨bb,0,none⟩)] h κ:=by
 refine an mixed ?_
 rw[Vh]
 simp(disch:=first|omega|simp only[Wd]<;>omega|rfl)only[Wz,iW,DM]
 refine Rl s hlo hM _ ?_
 intro v1 h1 D hp hs X9 bA
 have hlD:D.length=M.length:=by rw[hp.length_eq,List.length_map]
 obtain ⟨x1,c1,rfl,_⟩:=(show Sl nL h1 v1 D from X9.sl)
 have n1:=bA.nx
 have l1:=bA.lo
 simp(disch:=first|omega|simp only[Wd]<;>omega|rfl)only[Wz]
 refine ⟨fun m l h2=>∃(i:Nat) (K:List HE),slot l 23=.int .i64 (i:Int)∧m=D.length-i∧i≤D.length∧K.map bB=D.take i∧(∀k∈K,(∃e∈M,Au k e)∧QV h2 k.q k.Q)∧sI h1 h2 (slot l 21) K∧Le h1 h2,
  ⟨_,0,[],rfl,rfl,by omega,by simp,fun k hk=>(nomatch hk),.inl ⟨rfl,.inl rfl⟩,Le.refl _⟩,?_⟩
 rintro m l h2 ⟨i,K,s1,rfl,hi,hK,hQ,Kt,bt⟩
 have n2:=bt.nx
 have l2:=bt.lo
 have Jk:K.length=i:=by have:=congrArg List.length hK; simp at this; omega
 by_cases hst:i<D.length
 ·obtain ⟨p,hpi⟩:∃p,D[i]? = some p:=⟨_,List.getElem?_eq_getElem hst⟩
  have hpD:p∈M.map bB:=hp.mem_iff.1 (List.mem_of_getElem? hpi)
  obtain ⟨e,he,rfl⟩:=List.mem_map.1 hpD
  have s2:=s.le (bA.trans bt)
  have gb:=s2.gN
  have gm:=s2.fM
  have al3:=s2.Lv
  have H:=s2.aF e he
  have hlt:=H.lt
  have hgd:=s2.good e he
  obtain ⟨qx,qc,eq,_⟩:=(show Sl bq h2 e.q e.Q from H.qv.1)
  have gh:=H.get
  rw[eq] at gh
  obtain ⟨b1,o1,hb1,Rg,_,YX⟩:=(X9.sl.le bt).ld sG i hpi
  have r1:=fun (β:Type) (fl:β) κ=>pY (fl:=fl) YX 2 κ rfl
  have agM:=s2.tU
  have gmB:=(((Le.refl h2).new (aa [.int .i64 e.t,.int .i64 e.r] 36 false)).get _ agM).trans gm
  have eL:=KK (β:=Option Value) (fl:=none) s2.ok gmB he
  unfold dn at eL
  simp(disch:=first|omega|simp only[Wd]<;>omega|rfl)only[Wz,s1,cq (show (i:Int)<(D.length:Int) by omega),DL,Rg,r1,nL,bB,aJ,gb,gh,eL]
  obtain ⟨hB,bK⟩:∃hB:Heap,hB=⟨h2.nx+1+1,((h2.bl.aY (h2.nx) (aa [.int .i64 e.t,.int .i64 e.r] 36 false)).aY (h2.nx+1) (eo e.t e.r (.slice qx e.Q.length qc) e.w)),h2.lo⟩:=⟨_,rfl⟩
  have bG:Le h2 hB:=by subst bK; exact (((Le.refl h2).new _).new _)
  have gn:hB.bl.get (h2.nx)=some (aa [.int .i64 e.t,.int .i64 e.r] 36 false):=by subst bK; exact (T.ai _ _ (by omega)).trans (T.af _ _ _)
  have gd:hB.bl.get (h2.nx+1)=some (eo e.t e.r (.slice qx e.Q.length qc) e.w):=by subst bK; exact T.af _ _ _
  have rz:hB.nx=h2.nx+1+1:=by subst bK; rfl
  have rA:hB.lo=h2.lo:=by subst bK; rfl
  rw[←bK]
  clear bK
  have hqB:Sl bq hB (.slice qx e.Q.length qc) e.Q:=by rw[←eq]; exact H.qv.1.le bG
  have Cv:=hgd.small
  refine Ez e.Q hB _ _ hqB (by omega) (by omega) ?_
  intro q3 h3 og c9
  have n3:=c9.nx
  have l3:=c9.lo
  have gd:=(c9.get _ (by omega)).trans gd
  obtain ⟨vB,vC,rfl,_⟩:=(show Sl bq h3 q3 e.Q from og.sl)
  simp(disch:=first|omega|simp only[Wd]<;>omega|rfl)only[Wz,gd]
  obtain ⟨h4,e4⟩:∃h4:Heap,h4=⟨h3.nx+1,(h3.bl.aY (h2.nx+1) (eo e.t e.r (.slice vB e.Q.length vC) e.w)).aY h3.nx (eo e.t e.r (.slice vB e.Q.length vC) e.w),h3.lo⟩:=⟨_,rfl⟩
  have iw:Le h2 h4:=by rw[e4]; exact ((bG.trans c9).set (b:=h2.nx+1) (by omega) _).new _
  have g4:h4.bl.get h3.nx=some (aa ([(⟨e.t,e.r,0,0,.slice vB e.Q.length vC,e.w,e.Q⟩:HE)].flatMap fH) 81 false):=by rw[e4]; exact T.af _ _ _
  have n4:h4.nx=h3.nx+1:=by rw[e4]
  have l4:h4.lo=h3.lo:=by rw[e4]
  have hq4:QV h4 (.slice vB e.Q.length vC) e.Q:=by
   rw[e4]
   exact ((QV.own og).put (fun vs op=>by rw[gd]; exact aL (by decide)) _).le ((Le.refl _).new _)
  try rw[←e4]
  clear e4
  refine cV (enc:=fH) (a:=h1) (L:=K) (M:=[(⟨e.t,e.r,0,0,.slice vB e.Q.length vC,e.w,e.Q⟩:HE)]) cg gO (by decide) (by decide) (Kt.le iw) (Sl.new (by omega) g4 _) (bt.trans iw) (by simp; omega) (by omega) _ ?_
  intro v5 h5 tL ji _ n5 l5 nU
  have FF:∀c vs op,c<h4.nx→h4.bl.get c=some (aa vs 83 op)→h5.bl.get c=h4.bl.get c:=fun c vs op hc hg=>nU c hc (by rw[hg]; exact aL (by decide))
  refine ⟨_,by omega,i+1,K++[⟨e.t,e.r,0,0,.slice vB e.Q.length vC,e.w,e.Q⟩],by simp,rfl,by omega,?_,?_,tL,?_⟩
  ·rw[List.map_append,hK,List.take_add_one,hpi]
   rfl
  ·intro k hk'
   rcases List.mem_append.1 hk' with hk' | hk'
   ·exact ⟨(hQ k hk').1,((hQ k hk').2.le iw).frame n5 FF⟩
   ·rw[List.mem_singleton] at hk'; subst hk'
    exact ⟨⟨e,he,rfl,rfl,rfl,rfl⟩,hq4.frame n5 FF⟩
  ·exact ji
 ·simp(disch:=first|omega|simp only[Wd]<;>omega|rfl)only[Wz,s1,bP (show (D.length:Int)≤(i:Int) by omega)]
  have hiD:i=D.length:=by omega
  subst hiD
  rw[List.take_length] at hK
  exact hk _ h2 K (by omega) (hK▸hp) (hK▸hs) hQ (dh.base Kt (by omega)) (bA.trans bt)
theorem e_.sub {M M':List HE} {t r w:Int} {Q:List R5} (s:e_ M M' t r w Q):∀x∈M',x∈M∨(x.t=t∧x.r=r∧x.w=w∧x.Q=Q):=by
 intro x hx
 by_cases h0:Q=[]
 ·rw[s.gone h0] at hx; exact .inl (List.mem_filter.1 hx).1
 ·obtain ⟨e,h1,h2,h3,h4,hp⟩:=s.put h0
  rcases List.mem_append.1 (hp.mem_iff.1 hx) with hx | hx
  ·exact .inl (List.mem_filter.1 hx).1
  ·rw[List.mem_singleton] at hx; subst hx; exact .inr ⟨h1,h2,h3,h4⟩
theorem e_.len {M M':List HE} {t r w:Int} {Q:List R5} (s:e_ M M' t r w Q):M'.length≤(M.filter fun x=>!tQ t r x).length+1:=by
 by_cases h0:Q=[]
 ·rw[s.gone h0]; omega
 ·obtain ⟨e,_,_,_,_,hp⟩:=s.put h0
  rw[hp.length_eq]; simp
theorem e_.wb {M M':List HE} {t r w:Int} {Q:List R5} {N:Nat} (s:e_ M M' t r w Q) (hw:∀e∈M,e.w≤N) (h:w≤N+1):∀e∈M',e.w≤(N+1:Nat):=by
 intro e he
 rcases s.sub e he with h1 | ⟨_,_,h1,_⟩
 ·have:=hw e h1; omega
 ·omega
theorem Jw {M:List HE} {clock:Nat} (o:fL M clock) {e:HE} (he:e∈M):(M.filter fun x=>!tQ e.t e.r x).length+1=M.length:=by
 have:=(qg o he).length_eq
 rw[this]; simp
theorem Xl (Q:List R5) (W id x m:Int):(dI Q W id x m).2.1≤W+1:=by unfold dI; split<;>simp<;>omega
theorem Xm (Q:List R5) (W:Int) (r:R5) (m:Int):(dP Q W r m).2.1≤W+1:=by unfold dP; split<;>simp<;>omega
theorem Ro (Q:List R5) (W:Int) (r:R5) (m:Int):(dP Q W r m).1.id=r.id:=by unfold dP; split<;>rfl
theorem Cg {Q:List R5} {i:Nat} {p p':R5} (hi:Q[i]? = some p) (h:p'.id=p.id):(Q.set i p').map (·.id)=Q.map (·.id):=by
 obtain ⟨hl,rfl⟩:=List.getElem?_eq_some_iff.1 hi
 rw[List.map_set,h]
 refine List.ext_getElem? fun k=>?_
 rw[List.getElem?_set]
 split
 ·rename_i e; subst e; simp[hl]
 ·rfl
section
variable {h h':Heap} {bb bm bp bl most cap N:Nat} {M M':List HE} {clock clock':Nat} {F F':List Int} {B B':List Bool}
theorem GU {Q:List R5} {W:Int} (v:VQ Q W) {p:R5} {id:Int} (hf:bJ Q id=some p):(Q.map (·.id)).Perm ((Q.filter fun r=>!bD id r).map (·.id)++[id]):=by
 obtain ⟨hp,rfl⟩:=gK hf
 have hnd:(Q.map (·.id)).Nodup:=by
  rw[List.Nodup,List.pairwise_map]
  exact v.pair.imp fun hb=>hb.id
 have agP:((Q.filter fun r=>!bD p.id r).map (·.id)).Nodup:=hnd.sublist (List.filter_sublist.map _)
 refine (List.perm_ext_iff_of_nodup hnd (x7 agP fun hm=>?_)).2 fun x=>?_
 ·obtain ⟨q,hq,e⟩:=List.mem_map.1 hm
  have:=(List.mem_filter.1 hq).2
  simp[bD,e] at this
 ·rw[List.mem_append,List.mem_singleton,List.mem_map,List.mem_map]
  constructor
  ·rintro ⟨q,hq,rfl⟩
   by_cases hqp:q.id=p.id
   ·exact .inr hqp
   ·exact .inl ⟨q,List.mem_filter.2 ⟨hq,by simp[bD,hqp]⟩,rfl⟩
  ·rintro (⟨q,hq,rfl⟩ | rfl)
   ·exact ⟨q,(List.mem_filter.1 hq).1,rfl⟩
   ·exact ⟨p,hp,rfl⟩
end
theorem Oy (b:Nat) (n:Int) (p:Addr) (κ:List Value→Prop):bC False [(2,1)] [.map (some b)] [.int .i64 n,.pointer (some p),.map none] κ=κ [.int .i64 n,.pointer (some p),.map (some b)]:=by kernel_rfl
theorem E1 (aF:Nat) (bp:Nat) (h:Heap) (κ:KQ) (hh:1≤aF∧aF≤64) (hlo:h.lo≤h.nx)
  (hk:∀h',Le h h'→h'.nx=h.nx+2→h'.bl.get h.nx=some (.map [] 0)→h'.bl.get (h.nx+1)=some (aa [.int .i64 (aF:Int),.pointer (some ⟨bp,0,none⟩),.map (some h.nx)] 220 false)→κ (.tuple ⟨[.pointer (some ⟨h.nx+1,0,none⟩),.int .i64 0]⟩) h') :
  CallW Tryz.prog 109 [.int .i64 (aF:Int),.pointer (some ⟨bp,0,none⟩)] h κ:=by
 refine an mixed ?_
 rw[Nf]
 simp(disch:=first|omega|simp only[Wd]<;>omega|rfl)only[Wz,bP (show (1:Int)≤(aF:Int) by omega),bP (show (aF:Int)≤64 by omega),B4,iQ,Oy]
 exact hk _ (((Le.refl h).new _).new _) rfl ((T.ai _ _ (by omega)).trans (T.af _ _ _)) (T.af _ _ _)
structure Act where
 k:Int
 t:Int
 r:Int
 id:Int
 x:Int
 m:Int
def cN (a:Act):List Value:=[.int .i64 a.k,.int .i64 a.t,.int .i64 a.r,.int .i64 a.id,.int .i64 a.x,.int .i64 a.m]
theorem ql {β:Type} {fl:β} (cn:Bool) (a b c d:Int) (h:Heap) (κ:Value→Heap→β):au fl Tryz.prog .eql 36 cn false (.agg ⟨[.int .i64 a,.int .i64 b]⟩) (.agg ⟨[.int .i64 c,.int .i64 d]⟩) h κ=κ (.bool (decide (a=c∧b=d))) h:=by
 have:=eqN h a b c d
 unfold dn at this
 simp only[au,this,bV]
theorem Oz {β:Type} {fl:β} (cn:Bool) (a b:Int) (h:Heap) (κ:Value→Heap→β):au fl Tryz.prog .eql 36 cn false (.agg ⟨[.int .i64 a,.int .i64 b]⟩) (.agg ⟨[.int .i64 a,.int .i64 b]⟩) h κ=κ (.bool true) h:=by
 rw[ql]; simp
section
variable {M M' K:List HE} {clock:Nat}
end
end Go.Proofs

namespace Go.Vai
def qM (v:Value) (c:Nat):Prop:=∃n,v=.slice (some ⟨c,0,none⟩) n aO
theorem dh.keep {α:Type} {enc:α→List Value} {a h h':Heap} {e:TypeId} {v:Value} {L:List α} (ho:dh enc a e h v L) (hn:h.nx≤h'.nx) (hl:h'.lo=h.lo) (hg:∀b vs,b<h.nx→h.bl.get b=some (aa vs e true)→h'.bl.get b=h.bl.get b):dh enc a e h' v L:=by
 rcases ho with h0 | ⟨b,h1,h2,h3,h4,h5⟩
 ·exact .inl h0
 ·exact .inr ⟨b,h1,h2,Nat.lt_of_lt_of_le h3 hn,by rw[hl]; exact h4,(hg b _ h3 h5).trans h5⟩
theorem dh.blk {α:Type} {enc:α→List Value} {a h:Heap} {e:TypeId} {v:Value} {L:List α} (ho:dh enc a e h v L) {c:Nat} (hb:qM v c):a.nx≤c∧c<h.nx∧h.bl.get c=some (aa (L.flatMap enc) e true):=by
 obtain ⟨n,hn⟩:=hb
 rcases ho with ⟨_,rfl | ⟨b,o,rfl⟩⟩ | ⟨b,rfl,h1,h2,h3,h4⟩
 ·cases hn
 ·have:(0:Nat)=aO:=by injection hn
  exact absurd this (by decide)
 ·injection hn with e1; injection e1 with e1; injection e1 with e1
  subst e1
  exact ⟨h1,h2,h4⟩
end Go.Vai
namespace Go.Proofs
open Go.Vai Go.Clashes
structure jk (S:Nat→Prop) (h h':Heap):Prop where
 nx:h.nx≤h'.nx
 lo:h'.lo=h.lo
 get:∀c,c<h.nx→¬S c→h'.bl.get c=h.bl.get c
theorem jk.of_le {S:Nat→Prop} {h h':Heap} (l:Le h h'):jk S h h':=⟨l.nx,l.lo,fun c hc _=>l.get c hc⟩
theorem jk.trans {S S':Nat→Prop} {h h' h'':Heap} (a:jk S h h') (b:jk S' h' h'') (hs:∀c,c<h.nx→S' c→S c):jk S h h'':=
 ⟨Nat.le_trans a.nx b.nx,b.lo.trans a.lo,fun c hc hn=>(b.get c (Nat.lt_of_lt_of_le hc a.nx) (fun x=>hn (hs c hc x))).trans (a.get c hc hn)⟩
theorem jk.mono {S S':Nat→Prop} {h h':Heap} (a:jk S h h') (hs:∀c,c<h.nx→S c→S' c):jk S' h h':=⟨a.nx,a.lo,fun c hc hn=>a.get c hc fun x=>hn (hs c hc x)⟩
theorem jk.one {S:Nat→Prop} {h:Heap} {b:Nat} (hb:S b) (o:bQ):jk S h ⟨h.nx,h.bl.aY b o,h.lo⟩:=
 ⟨Nat.le_refl _,rfl,fun c _ hn=>T.ai _ _ (by rintro rfl; exact hn hb)⟩
structure cF (h:Heap) (rp rl:Nat) (B:List Bool):Prop where
 Lw:rp<h.nx
 lop:h.lo≤rp
 FG:rl<h.nx
 lol:h.lo≤rl
 nV:h.bl.get rp=some (aa [.slice (some ⟨rl,0,none⟩) B.length B.length] 132 false)
 gP:h.bl.get rl=some (aa (B.map Value.bool) 4 false)
 small:B.length≤128
structure jl (a h:Heap) (rb rp most:Nat) (v:Value) (K:List HE):Prop where
 lt:rb<h.nx
 lo:h.lo≤rb
 cell:h.bl.get rb=some (aa [.int .i64 (most:Int),.pointer (some ⟨rp,0,none⟩),v] 134 false)
 own:sI a h v K
 emp:uX K v
 qv:∀k∈K,iV a h k.q k.Q
theorem cF.keep {h h':Heap} {rp rl:Nat} {B:List Bool} (p:cF h rp rl B) (hn:h.nx≤h'.nx) (hl:h'.lo=h.lo) (g1:h'.bl.get rp=h.bl.get rp) (g2:h'.bl.get rl=h.bl.get rl):cF h' rp rl B:=
 ⟨Nat.lt_of_lt_of_le p.Lw hn,by rw[hl]; exact p.lop,Nat.lt_of_lt_of_le p.FG hn,by rw[hl]; exact p.lol,g1.trans p.nV,g2.trans p.gP,p.small⟩
theorem cF.le {h h':Heap} {rp rl:Nat} {B:List Bool} (p:cF h rp rl B) (l:Le h h'):cF h' rp rl B:=p.keep l.nx l.lo (l.get _ p.Lw) (l.get _ p.FG)
theorem jl.keep {a h h':Heap} {rb rp most:Nat} {v:Value} {K:List HE} (R:jl a h rb rp most v K) (hn:h.nx≤h'.nx) (hl:h'.lo=h.lo)
  (hg:∀c vs ty op,c<h.nx→h.bl.get c=some (aa vs ty op)→(ty=134∨(ty=81∧op=true)∨ty=83)→h'.bl.get c=h.bl.get c):jl a h' rb rp most v K:=
 ⟨Nat.lt_of_lt_of_le R.lt hn,by rw[hl]; exact R.lo,(hg _ _ _ _ R.lt R.cell (.inl rfl)).trans R.cell,R.own.keep hn hl fun b vs hb g=>hg b vs _ _ hb g (.inr (.inl ⟨rfl,rfl⟩)),R.emp,fun k hk=>(R.qv k hk).keep hn hl fun c vs hc g=>hg c vs _ _ hc g (.inr (.inr rfl))⟩
theorem jl.le {a h h':Heap} {rb rp most:Nat} {v:Value} {K:List HE} (R:jl a h rb rp most v K) (l:Le h h'):jl a h' rb rp most v K:=R.keep l.nx l.lo fun c _ _ _ hc _ _=>l.get c hc
theorem bh.Jx {h h':Heap} {bb bm bp bl most:Nat} {M:List HE} {clock:Nat} {F:List Int} {B:List Bool} (s:bh h bb bm bp bl most M clock F B) (hn:h.nx≤h'.nx) (hl:h'.lo=h.lo)
  (hg:∀c,c<h.nx→(∀vs op,h.bl.get c≠some (aa vs 134 op))→(∀vs,h.bl.get c≠some (aa vs 81 true))→(∀vs,c≠bl→h.bl.get c≠some (aa vs 4 false))→h'.bl.get c=h.bl.get c):bh h' bb bm bp bl most M clock F B:=by
 have kc:∀{c:Nat} {vs:List Value} {ty:TypeId} {op:Bool},c<h.nx→h.bl.get c=some (aa vs ty op)→ty≠134→ty≠4→(ty=81→op=false)→h'.bl.get c=h.bl.get c:=by
  intro c vs ty op hc g h1 h2 h3
  refine hg c hc (fun ws op'=>?_) (fun ws=>?_) fun ws _=>?_
  ·rw[g]; exact aL h1
  ·rw[g]
   by_cases e:ty=81
   ·rw[h3 e]; exact aS
   ·exact aL e
  ·rw[g]; exact aL h2
 obtain ⟨fs,sZ,hpt⟩:=s.bX.fr.cell
 have gl:=s.bX.cell
 have gm:=s.fM
 refine ⟨Nat.lt_of_lt_of_le s.Lv hn,Nat.lt_of_lt_of_le s.tU hn,by rw[hl]; exact s.PM,(kc s.Lv s.gN (by decide) (by decide) (fun e=>absurd e (by decide))).trans s.gN,?_,s.ok,fun e he=>?_,s.good,⟨⟨Nat.lt_of_lt_of_le s.bX.fr.lt hn,by rw[hl]; exact s.bX.fr.lo,fs,(kc s.bX.fr.lt sZ (by decide) (by decide) (fun e=>absurd e (by decide))).trans sZ,?_⟩,Nat.lt_of_lt_of_le s.bX.lt hn,by rw[hl]; exact s.bX.lo,?_,s.bX.ok,s.bX.small⟩,s.ne⟩
 ·exact (hg bm s.tU (fun ws op=>by rw[gm]; exact bE) (fun ws=>by rw[gm]; exact bE) fun ws _=>by rw[gm]; exact bE).trans gm
 ·have H:=s.aF e he
  exact ⟨Nat.lt_of_lt_of_le H.lt hn,(kc H.lt H.get (by decide) (by decide) (fun _=>rfl)).trans H.get,H.qv.frame hn fun c vs op hc g=>kc hc g (by decide) (by decide) (fun e=>absurd e (by decide))⟩
 ·rcases hpt with e | ⟨b,G,e,k1,k2,k3,k4⟩
  ·exact .inl e
  ·exact .inr ⟨b,G,e,Nat.lt_of_lt_of_le k1 hn,by rw[hl]; exact k2,(kc k1 k3 (by decide) (by decide) (fun e=>absurd e (by decide))).trans k3,k4⟩
 ·exact (hg bl s.bX.lt (fun ws op=>by rw[gl]; exact aL (by decide)) (fun ws=>by rw[gl]; exact aS) fun ws e=>absurd rfl e).trans gl
def SK (rb rl:Nat) (v:Value) (c:Nat):Prop:=c=rb∨c=rl∨qM v c
theorem bh.frK {a h h':Heap} {bb bm bp bl most Av:Nat} {M:List HE} {clock:Nat} {F:List Int} {B B2:List Bool} (s:bh h bb bm bp bl most M clock F B) {rb rp rl:Nat} {v:Value} {K:List HE} (R:jl a h rb rp Av v K) (p:cF h rp rl B2) (hne:rl≠bl) (f:jk (SK rb rl v) h h'):bh h' bb bm bp bl most M clock F B:=by
 refine s.Jx f.nx f.lo fun c hc h1 h2 h3=>f.get c hc ?_
 rintro (rfl | rfl | hb)
 ·exact h1 _ _ R.cell
 ·exact h3 _ hne p.gP
 ·exact h2 _ (R.own.blk hb).2.2
section
variable {a h:Heap} {bb bm bp bl most cap N:Nat} {M:List HE} {clock:Nat} {F:List Int} {B:List Bool} {rb rp rl:Nat} {v:Value} {K:List HE}
end
theorem tY {B:List Bool} {n:Nat} {b:Bool} (h:B[n]? = some b):(B.map Value.bool)[n]? = some (.bool b):=by rw[List.getElem?_map,h]; rfl
def pG (B:List Bool) (n:Nat):List Int:=((List.range n).filter fun n=>(B[n]?).getD false).map fun n:Nat=>(n:Int)
theorem E2 (B:List Bool) (n:Nat):pG B (n+1)=if (B[n]?).getD false=true then pG B n++[(n:Int)] else pG B n:=by
 unfold pG
 rw[List.range_succ,List.filter_append,List.map_append]
 by_cases h:(B[n]?).getD false=true
 ·rw[if_pos h,List.filter_cons,if_pos h]; rfl
 ·rw[if_neg h,List.filter_cons,if_neg h]; simp
theorem Jy {h:Heap} {rp rl:Nat} {B:List Bool} (p:cF h rp rl B) (hlo:h.lo≤h.nx) (κ:KQ) (hk:∀h',Le h h'→κ (.int .i64 ((di B).length:Int)) h') :
  CallW Tryz.prog 84 [.pointer (some ⟨rp,0,none⟩)] h κ:=by
 refine an mixed ?_
 rw[aau]
 refine an mixed ?_
 rw[VA]
 have Cv:=p.small
 have Yy:(B.map Value.bool).length=B.length:=by simp
 refine ⟨fun n l h1=>∃i:Nat,slot l 21=.int .i64 (i:Int)∧i≤B.length∧n=B.length-i∧jM h h1 (slot l 18) (pG B i)∧(pG B i).length≤i∧Le h h1,⟨_,0,rfl,Nat.zero_le _,rfl,.inl ⟨rfl,.inl rfl⟩,Nat.le_refl _,Le.refl _⟩,?_⟩
 rintro n l h1 ⟨i,s1,hi,rfl,ho,hln,bA⟩
 have n1:=bA.nx
 have l1:=bA.lo
 have p1:=p.le bA
 have c1:=p1.nV
 have c2:=p1.gP
 obtain ⟨vi,ei⟩:∃vi,slot l 18=vi:=⟨_,rfl⟩
 rw[ei] at ho
 by_cases hlt:i<B.length
 ·obtain ⟨b,hb⟩:∃b,B[i]? = some b:=⟨_,List.getElem?_eq_getElem hlt⟩
  have hr:=tY hb
  have yg:=E2 B i
  rw[hb] at yg
  simp(disch:=first|omega|simp only[Wd]<;>omega|rfl)only[Wz,xe,aJ,c1,s1,cq (show (i:Int)<(B.length:Int) by omega)]
  cases b with
  | false=>
   rw[if_neg (by simp)] at yg
   refine ⟨fun l' h'=>slot l' 11=vi∧HQ h1 h',?_,?_⟩
   ·simp(disch:=first|omega|simp only[Wd]<;>omega|rfl)only[Wz,xb,aJ,c1,s1,aW,c2,hr,Nat.mul_one,ei]
    exact ⟨trivial,rfl⟩
   ·rintro l' h' ⟨k1,k2⟩
    cases (show h1=h' from k2)
    simp(disch:=first|omega|simp only[Wd]<;>omega|rfl)only[Wz,s1,k1]
    exact ⟨_,by omega,i+1,rfl,by omega,rfl,by rw[yg]; exact ho,by rw[yg]; omega,bA⟩
  | true=>
   rw[if_pos (by simp)] at yg
   refine ⟨fun l' h'=>jM h h' (slot l' 11) (pG B i++[(i:Int)])∧Le h h'∧h1.nx≤h'.nx,?_,?_⟩
   ·simp(disch:=first|omega|simp only[Wd]<;>omega|rfl)only[Wz,xb,aJ,c1,s1,aW,c2,hr,Nat.mul_one,ei]
    have hle1:=(Le.refl h1).new (aa [.int .i64 (i:Int)] 3 false)
    refine cV (enc:=cO) (a:=h) (L:=pG B i) (M:=[(i:Int)]) bW iE (by decide) (by decide) (ho.le hle1) (Sl.new (L:=[(i:Int)]) (e:=3) (op:=false) (Nat.lt_succ_self _) (T.af _ _ _) _) (bA.new _) (by simp; omega) (by show h1.lo≤h1.nx+1; omega) _ ?_
    intro v' h6 tM uU y_ hn2 Ty hsame
    have:h1.nx+1≤h6.nx:=hn2
    exact ⟨tM,uU,by omega⟩
   ·rintro l' h' ⟨k1,k2,k3⟩
    exact ⟨_,by omega,i+1,rfl,by omega,rfl,by rw[yg]; exact k1,by rw[yg]; simp; omega,k2⟩
 ·have hil:i=B.length:=by omega
  subst hil
  simp(disch:=first|omega|simp only[Wd]<;>omega|rfl)only[Wz,xe,aJ,c1,s1,bP (show (B.length:Int)≤(B.length:Int) by omega),ei]
  obtain ⟨x,c,rfl,_⟩:=ho.sl
  simp(disch:=first|omega|simp only[Wd]<;>omega|rfl)only[Wz]
  exact hk h1 bA
theorem Jz {h:Heap} {rp rl:Nat} {B:List Bool} (p:cF h rp rl B) (κ:KQ) (hk:κ (.int .i64 (B.length:Int)) h) :
  CallW Tryz.prog 85 [.pointer (some ⟨rp,0,none⟩)] h κ:=by
 refine an mixed ?_
 rw[aav]
 have c1:=p.nV
 simp(disch:=first|omega|simp only[Wd]<;>omega|rfl)only[Wz,aJ,c1]
 exact hk
theorem Xn {h:Heap} {rp rl:Nat} {B:List Bool} (p:cF h rp rl B) (i:Int) (κ:KQ) (hk:κ (.bool (decide (0≤i) && (B[i.toNat]?).getD false)) h) :
  CallW Tryz.prog 121 [.pointer (some ⟨rp,0,none⟩),.int .i64 i] h κ:=by
 refine an mixed ?_
 rw[Vt]
 have c1:=p.nV
 have c2:=p.gP
 have Yy:(B.map Value.bool).length=B.length:=by simp
 by_cases h0:0≤i
 ·obtain ⟨n,rfl⟩:∃n:Nat,i=(n:Int):=⟨i.toNat,by omega⟩
  rw[a_ h0,Bool.true_and,Int.toNat_natCast] at hk
  by_cases h1:n<B.length
  ·have hr:=tY (List.getElem?_eq_getElem h1)
   rw[List.getElem?_eq_getElem h1] at hk
   simp(disch:=first|omega|simp only[Wd]<;>omega|rfl)only[Wz,aJ,c1,bP h0,cq (show (n:Int)<(B.length:Int) by omega),aW,c2,hr,Nat.mul_one]
   exact hk
  ·rw[List.getElem?_eq_none (by omega)] at hk
   simp(disch:=first|omega|simp only[Wd]<;>omega|rfl)only[Wz,aJ,c1,bP h0,bP (show (B.length:Int)≤(n:Int) by omega)]
   exact hk
 ·rw[aN h0,Bool.false_and] at hk
  simp(disch:=first|omega|simp only[Wd]<;>omega|rfl)only[Wz,aJ,cq (show i<0 by omega)]
  exact hk
theorem cF.put {h:Heap} {rp rl:Nat} {B:List Bool} (p:cF h rp rl B) (hne:rp≠rl) (n:Nat) (b:Bool):cF ⟨h.nx,h.bl.aY rl (aa ((B.set n b).map Value.bool) 4 false),h.lo⟩ rp rl (B.set n b):=
 ⟨p.Lw,p.lop,p.FG,p.lol,by rw[List.length_set]; exact (T.ai _ _ (fun e=>hne e.symm)).trans p.nV,T.af _ _ _,by rw[List.length_set]; exact p.small⟩
theorem cF.ne {h:Heap} {rp rl:Nat} {B:List Bool} (p:cF h rp rl B):rp≠rl:=by
 rintro rfl
 exact aL (by decide) (p.nV.symm.trans p.gP)
theorem Rp {h:Heap} {rp rl:Nat} {B:List Bool} (p:cF h rp rl B) (n:Nat) (hb:B[n]? = some true) (κ:KQ)
  (hk:cF ⟨h.nx,h.bl.aY rl (aa ((B.set n false).map Value.bool) 4 false),h.lo⟩ rp rl (B.set n false)→κ (.int .i64 0) ⟨h.nx,h.bl.aY rl (aa ((B.set n false).map Value.bool) 4 false),h.lo⟩) :
  CallW Tryz.prog 81 [.pointer (some ⟨rp,0,none⟩),.int .i64 (n:Int)] h κ:=by
 refine an mixed ?_
 rw[aar]
 have c1:=p.nV
 have c2:=p.gP
 have agQ:=p.lol
 have hn:n<B.length:=(List.getElem?_eq_some_iff.1 hb).1
 have Yy:(B.map Value.bool).length=B.length:=by simp
 refine Xn p n _ ?_
 have eh:(decide ((0:Int)≤(n:Int)) && (B[((n:Int)).toNat]?).getD false)=true:=by
  rw[a_ (by omega),Int.toNat_natCast,hb]; rfl
 rw[eh]
 simp(disch:=first|omega|simp only[Wd]<;>omega|rfl)only[Wz,aJ,c1,aW,c2,Nat.mul_one,qd hn]
 exact hk (p.put p.ne n false)
theorem Rq {h:Heap} {rp rl:Nat} {B:List Bool} (p:cF h rp rl B) (κ:KQ)
  (GK:(∀k,k<B.length→B[k]? = some true)→κ (.tuple ⟨[.int .i64 0,.int .i64 8]⟩) h)
  (ig:∀n:Nat,B[n]? = some false→(∀k,k<n→B[k]? = some true)→cF ⟨h.nx,h.bl.aY rl (aa ((B.set n true).map Value.bool) 4 false),h.lo⟩ rp rl (B.set n true)→κ (.tuple ⟨[.int .i64 (n:Int),.int .i64 0]⟩) ⟨h.nx,h.bl.aY rl (aa ((B.set n true).map Value.bool) 4 false),h.lo⟩) :
  CallW Tryz.prog 86 [.pointer (some ⟨rp,0,none⟩)] h κ:=by
 refine an mixed ?_
 rw[aaw]
 have c1:=p.nV
 have c2:=p.gP
 have agQ:=p.lol
 have Cv:=p.small
 have Yy:(B.map Value.bool).length=B.length:=by simp
 refine ⟨fun n l h1=>∃i:Nat,slot l 26=.int .i64 (i:Int)∧i≤B.length∧n=B.length-i∧(∀k,k<i→B[k]? = some true)∧HQ h h1,⟨_,0,rfl,Nat.zero_le _,rfl,fun k hk=>(by omega),rfl⟩,?_⟩
 rintro n l h1 ⟨i,s1,hi,rfl,hall,hq⟩
 cases (show h=h1 from hq)
 by_cases hlt:i<B.length
 ·obtain ⟨b,hb⟩:∃b,B[i]? = some b:=⟨_,List.getElem?_eq_getElem hlt⟩
  have hr:=tY hb
  cases b with
  | false=>
   simp(disch:=first|omega|simp only[Wd]<;>omega|rfl)only[Wz,vw,aJ,c1,s1,cq (show (i:Int)<(B.length:Int) by omega),BS,aW,c2,hr,Nat.mul_one,qd hlt]
   exact ig i hb hall (p.put p.ne i true)
  | true=>
   simp(disch:=first|omega|simp only[Wd]<;>omega|rfl)only[Wz,vw,aJ,c1,s1,cq (show (i:Int)<(B.length:Int) by omega),BS,aW,c2,hr,Nat.mul_one]
   refine ⟨_,by omega,i+1,rfl,by omega,rfl,fun k hk=>?_,rfl⟩
   by_cases e:k=i
   ·subst e; exact hb
   ·exact hall k (by omega)
 ·have hil:i=B.length:=by omega
  subst hil
  simp(disch:=first|omega|simp only[Wd]<;>omega|rfl)only[Wz,vw,aJ,c1,s1,bP (show (B.length:Int)≤(B.length:Int) by omega)]
  exact GK hall
theorem GV {h:Heap} {v:Value} {K:List HE} (hs:Sl fH h v K) (i:Nat) {e:HE} (hp:K[i]? = some e) (hq:Rm e.q=e.q) :
  ∃b o,b<h.nx∧(∀(β:Type) (fl:β) (h':Heap) (κ:Value→Heap→β),aq fl 4 v (.int .i64 (i:Int)) h' κ=κ (.pointer (some ⟨b,o,none⟩)) h')∧
   ∀h',Le h h'→((∀(β:Type) (fl:β) (κ:List Value→β),zi fl (h'.bl.get b) o 2 κ=κ [.int .i64 e.t,.int .i64 e.r])∧
   (∀(β:Type) (fl:β) (κ:List Value→β),zi fl (h'.bl.get b) o 4 κ=κ [.int .i64 e.t,.int .i64 e.r,e.q,.int .i64 e.w])∧
   (∀(β:Type) (fl:β) (κ:Value→β),sV fl (h'.bl.get b) o κ=κ (.int .i64 e.t))∧
   (∀(β:Type) (fl:β) (κ:Value→β),sV fl (h'.bl.get b) (o+1) κ=κ (.int .i64 e.r))∧
   (∀(β:Type) (fl:β) (κ:Value→β),sV fl (h'.bl.get b) (o+2) κ=κ e.q)∧
   (∀(β:Type) (fl:β) (κ:Value→β),sV fl (h'.bl.get b) (o+3) κ=κ (.int .i64 e.w))):=by
 obtain ⟨b,o,h1,h2,h3,hh⟩:=hs.ld cg i hp
 refine ⟨b,o,h1,h2,fun h' l=>?_⟩
 rw[l.get b h1]
 refine ⟨fun β fl κ=>?_,fun β fl κ=>?_,fun β fl κ=>?_,fun β fl κ=>?_,fun β fl κ=>?_,fun β fl κ=>?_⟩
 ·have:=hh.sub 0 2 (by show 0+2≤4; omega)
  rw[Nat.add_zero] at this
  exact pY this 2 κ rfl
 ·rw[pY hh 4 κ rfl]; unfold fH; rw[hq]
 ·exact e8 (fl:=fl) hh 0 κ (by show 0<4; omega)
 ·exact e8 (fl:=fl) hh 1 κ (by show 1<4; omega)
 ·rw[e8 (fl:=fl) hh 2 κ (by show 2<4; omega)]; show κ (Rm e.q)=_; rw[hq]
 ·exact e8 (fl:=fl) hh 3 κ (by show 3<4; omega)
theorem OA (t r t' r':Int) (h:Heap) (κ:KQ) (h1:fO (t,r) (t',r')→∀h',Le h h'→κ (.int .i64 (-1)) h') (h2:t=t'→r=r'→∀h',Le h h'→κ (.int .i64 0) h') (h3:fO (t',r') (t,r)→∀h',Le h h'→κ (.int .i64 1) h') :
  CallW Tryz.prog 94 [dn t r,dn t' r'] h κ:=by
 refine an mixed ?_
 rw[aaG]
 have hl:Le h _:=((Le.refl h).new (aa [.int .i64 t,.int .i64 r] 36 false)).new (aa [.int .i64 t',.int .i64 r'] 36 false)
 by_cases c1:t<t'
 ·simp(disch:=first|omega|simp only[Wd]<;>omega|rfl)only[Wz,dn,cq c1]
  exact h1 (.inl c1) _ hl
 ·by_cases c2:t=t'
  ·subst c2
   by_cases c3:r<r'
   ·simp(disch:=first|omega|simp only[Wd]<;>omega|rfl)only[Wz,dn,bP (Int.le_refl t),a_ (rfl:t=t),cq c3]
    exact h1 (.inr ⟨rfl,c3⟩) _ hl
   ·by_cases c4:r=r'
    ·subst c4
     simp(disch:=first|omega|simp only[Wd]<;>omega|rfl)only[Wz,dn,bP (Int.le_refl t),a_ (rfl:t=t),bP (Int.le_refl r),Oz]
     exact h2 rfl rfl _ hl
    ·simp(disch:=first|omega|simp only[Wd]<;>omega|rfl)only[Wz,dn,bP (Int.le_refl t),a_ (rfl:t=t),bP (show r'≤r by omega),ql,aN (show ¬(t=t∧r=r') from fun e=>c4 e.2),aN (show ¬(True∧r=r') from fun e=>c4 e.2)]
     exact h3 (.inr ⟨rfl,by show r'<r; omega⟩) _ hl
  ·simp(disch:=first|omega|simp only[Wd]<;>omega|rfl)only[Wz,dn,bP (show t'≤t by omega),aN c2,ql,aN (show ¬(t=t'∧r=r') from fun e=>c2 e.1)]
   exact h3 (.inl (by show t'<t; omega)) _ hl
section
variable {a h:Heap} {rb rp most:Nat} {v:Value} {K:List HE}
theorem jl.ld (R:jl a h rb rp most v K) (i:Nat) {k:HE} (hk:K[i]? = some k) :
  ∃b o,b<h.nx∧(∀(β:Type) (fl:β) (h':Heap) (κ:Value→Heap→β),aq fl 4 v (.int .i64 (i:Int)) h' κ=κ (.pointer (some ⟨b,o,none⟩)) h')∧
   ∀h',Le h h'→((∀(β:Type) (fl:β) (κ:List Value→β),zi fl (h'.bl.get b) o 2 κ=κ [.int .i64 k.t,.int .i64 k.r])∧
   (∀(β:Type) (fl:β) (κ:List Value→β),zi fl (h'.bl.get b) o 4 κ=κ [.int .i64 k.t,.int .i64 k.r,k.q,.int .i64 k.w])∧
   (∀(β:Type) (fl:β) (κ:Value→β),sV fl (h'.bl.get b) o κ=κ (.int .i64 k.t))∧
   (∀(β:Type) (fl:β) (κ:Value→β),sV fl (h'.bl.get b) (o+1) κ=κ (.int .i64 k.r))∧
   (∀(β:Type) (fl:β) (κ:Value→β),sV fl (h'.bl.get b) (o+2) κ=κ k.q)∧
   (∀(β:Type) (fl:β) (κ:Value→β),sV fl (h'.bl.get b) (o+3) κ=κ (.int .i64 k.w))):=
 GV R.own.sl i hk (pF (R.qv k (List.mem_of_getElem? hk)).sl)
theorem E3 (R:jl a h rb rp most v K) (hlo:h.lo≤h.nx) (hl:K.length≤1000) (t r:Int) (κ:KQ)
  (ig:∀(i:Nat) h',i≤K.length→(∀(j:Nat) (k:HE),j<i→K[j]? = some k→fO (bB k) (t,r))→(∀k,K[i]? = some k→fO (t,r) (bB k))→Le h h'→κ (.tuple ⟨[.int .i64 (i:Int),.bool false]⟩) h')
  (iJ:∀(i:Nat) (k:HE) h',K[i]? = some k→k.t=t→k.r=r→Le h h'→κ (.tuple ⟨[.int .i64 (i:Int),.bool true]⟩) h') :
  CallW Tryz.prog 77 [.pointer (some ⟨rb,0,none⟩),dn t r] h κ:=by
 refine an mixed ?_
 rw[aam]
 simp(disch:=first|omega|simp only[Wd]<;>omega|rfl)only[Wz,dn]
 obtain ⟨hA,az⟩:∃hA:Heap,hA=⟨h.nx+1,(h.bl.aY (h.nx) (aa [.int .i64 t,.int .i64 r] 36 false)),h.lo⟩:=⟨_,rfl⟩
 have aK:Le h hA:=by subst az; exact ((Le.refl h).new _)
 have g1:hA.bl.get (h.nx)=some (aa [.int .i64 t,.int .i64 r] 36 false):=by subst az; exact T.af _ _ _
 have d_:hA.nx=h.nx+1:=by subst az; rfl
 have ee:hA.lo=h.lo:=by subst az; rfl
 rw[←az]
 clear az
 refine ⟨fun n l h1=>∃i:Nat,slot l 27=.int .i64 (i:Int)∧i≤K.length∧n=K.length-i∧(∀(j:Nat) (k:HE),j<i→K[j]? = some k→fO (bB k) (t,r))∧Le hA h1,⟨_,0,rfl,Nat.zero_le _,rfl,fun j k hj=>(by omega),Le.refl _⟩,?_⟩
 rintro n l h1 ⟨i,s1,hi,rfl,hall,bA⟩
 have Aq:=bA.nx
 have Ar:=bA.lo
 have g1:=(bA.get _ (by omega)).trans g1
 have sJ:=aK.trans bA
 have R1:=R.le sJ
 have c1:=R1.cell
 have hlen:∀(β:Type) (fl:β) (h':Heap) (κ:Value→Heap→β),br fl v h' κ=κ (.int .i64 (K.length:Int)) h':=fun β fl h' κ=>R1.own.sl.len κ h'
 by_cases hlt:i<K.length
 ·obtain ⟨k,hk⟩:∃k,K[i]? = some k:=⟨_,List.getElem?_eq_getElem hlt⟩
  obtain ⟨b,o,hb,fJ,eX⟩:=R1.ld i hk
  have L1:=eX h1 (Le.refl _)
  simp(disch:=first|omega|simp only[Wd]<;>omega|rfl)only[Wz,BN,aJ,c1,hlen,s1,cq (show (i:Int)<(K.length:Int) by omega),I9,fJ,L1,g1]
  refine OA k.t k.r t r h1 _ ?_ ?_ ?_
  ·intro Xo h2 bt
   simp(disch:=first|omega|simp only[Wd]<;>omega|rfl)only[Wz,s1]
   refine ⟨_,by omega,i+1,rfl,by omega,rfl,fun j k' hj hk'=>?_,bA.trans bt⟩
   by_cases e:j=i
   ·subst e; rw[hk] at hk'; cases hk'; exact Xo
   ·exact hall j k' (by omega) hk'
  ·intro e1 e2 h2 bt
   simp(disch:=first|omega|simp only[Wd]<;>omega|rfl)only[Wz,s1]
   exact iJ i k h2 hk e1 e2 (sJ.trans bt)
  ·intro hgt h2 bt
   simp(disch:=first|omega|simp only[Wd]<;>omega|rfl)only[Wz,s1]
   refine ig i h2 hi hall (fun k' hk'=>?_) (sJ.trans bt)
   rw[hk] at hk'; cases hk'; exact hgt
 ·have hil:i=K.length:=by omega
  subst hil
  simp(disch:=first|omega|simp only[Wd]<;>omega|rfl)only[Wz,BN,aJ,c1,hlen,s1,bP (show (K.length:Int)≤(K.length:Int) by omega)]
  refine ig K.length h1 (Nat.le_refl _) hall (fun k' hk'=>?_) sJ
  rw[List.getElem?_eq_none (Nat.le_refl _)] at hk'; cases hk'
theorem OB (R:jl a h rb rp most v K) (hlo:h.lo≤h.nx) (hl:K.length≤1000) (gd:∀k∈K,kR k) (d:Int) (κ:KQ)
  (ig:∀h',(∀k∈K,bJ k.Q d=none)→Le h h'→κ (.int .i64 (-1)) h')
  (iJ:∀(i:Nat) (k:HE) (p:R5) h',K[i]? = some k→bJ k.Q d=some p→Le h h'→κ (.int .i64 (i:Int)) h') :
  CallW Tryz.prog 79 [.pointer (some ⟨rb,0,none⟩),.int .i64 d] h κ:=by
 refine an mixed ?_
 rw[aao]
 refine ⟨fun n l h1=>∃i:Nat,slot l 26=.int .i64 (i:Int)∧i≤K.length∧n=K.length-i∧(∀(j:Nat) (k:HE),j<i→K[j]? = some k→bJ k.Q d=none)∧Le h h1,⟨_,0,rfl,Nat.zero_le _,rfl,fun j k hj=>(by omega),Le.refl _⟩,?_⟩
 rintro n l h1 ⟨i,s1,hi,rfl,hall,bA⟩
 have n1:=bA.nx
 have l1:=bA.lo
 have R1:=R.le bA
 have c1:=R1.cell
 have hlen:∀(β:Type) (fl:β) (h':Heap) (κ:Value→Heap→β),br fl v h' κ=κ (.int .i64 (K.length:Int)) h':=fun β fl h' κ=>R1.own.sl.len κ h'
 by_cases hlt:i<K.length
 ·obtain ⟨k,hk⟩:∃k,K[i]? = some k:=⟨_,List.getElem?_eq_getElem hlt⟩
  obtain ⟨b,o,hb,fJ,eX⟩:=R1.ld i hk
  have L1:=eX h1 (Le.refl _)
  have uE:=List.mem_of_getElem? hk
  have Cv:=(gd k uE).small
  simp(disch:=first|omega|simp only[Wd]<;>omega|rfl)only[Wz,BO,aJ,c1,hlen,s1,cq (show (i:Int)<(K.length:Int) by omega),I_,fJ,L1]
  refine On k.t k.r k.q k.w d k.Q h1 _ (R1.qv k uE).sl (by omega) (by omega) ?_
  intro h2 bt
  have n2:=bt.nx
  have l2:=bt.lo
  cases hf:bJ k.Q d with
  | some p=>
   simp(disch:=first|omega|simp only[Wd]<;>omega|rfl)only[Wz,s1,bq]
   exact iJ i k p _ hk hf ((bA.trans bt).new _)
  | none=>
   simp(disch:=first|omega|simp only[Wd]<;>omega|rfl)only[Wz,s1,bq]
   refine ⟨_,by omega,i+1,rfl,by omega,rfl,fun j k' hj hk'=>?_,(bA.trans bt).new _⟩
   by_cases e:j=i
   ·subst e; rw[hk] at hk'; cases hk'; exact hf
   ·exact hall j k' (by omega) hk'
 ·have hil:i=K.length:=by omega
  subst hil
  simp(disch:=first|omega|simp only[Wd]<;>omega|rfl)only[Wz,BO,aJ,c1,hlen,s1,bP (show (K.length:Int)≤(K.length:Int) by omega)]
  refine ig h1 (fun k hk=>?_) bA
  obtain ⟨j,hj⟩:=List.getElem?_of_mem hk
  exact hall j k (List.getElem?_eq_some_iff.1 hj).1 hj
theorem E4 (R:jl a h rb rp most v K) (hlo:h.lo≤h.nx) (hl:K.length≤1000) (gd:∀k∈K,kR k) (qN:(K.map bB).Pairwise fO) (t r x:Int) (κ:KQ)
  (ig:∀h',(∀k∈K,t=k.t→r=k.r→∀p∈k.Q,p.x≠x)→Le h h'→κ (.tuple ⟨[.int .i64 0,.bool false]⟩) h')
  (iJ:∀h' k p,k∈K→t=k.t→r=k.r→p∈k.Q→p.x=x→Le h h'→κ (.tuple ⟨[.int .i64 p.id,.bool true]⟩) h') :
  CallW Tryz.prog 47 [.pointer (some ⟨rb,0,none⟩),dn t r,.int .i64 x] h κ:=by
 refine an mixed ?_
 rw[ZP]
 simp(disch:=first|omega|simp only[Wd]<;>omega|rfl)only[Wz,dn]
 obtain ⟨hA,az⟩:∃hA:Heap,hA=⟨h.nx+1,(h.bl.aY (h.nx) (aa [.int .i64 t,.int .i64 r] 36 false)),h.lo⟩:=⟨_,rfl⟩
 have aK:Le h hA:=by subst az; exact ((Le.refl h).new _)
 have g1:hA.bl.get (h.nx)=some (aa [.int .i64 t,.int .i64 r] 36 false):=by subst az; exact T.af _ _ _
 have d_:hA.nx=h.nx+1:=by subst az; rfl
 have ee:hA.lo=h.lo:=by subst az; rfl
 rw[←az]
 clear az
 have far:∀(i:Nat) (k0 k:HE),K[i]? = some k0→k∈K→t=k0.t→r=k0.r→t=k.t→r=k.r→k=k0:=by
  intro i k0 k Rr hk e1 e2 e3 e4
  obtain ⟨j,hj⟩:=List.getElem?_of_mem hk
  have G:=cZ.1 qN
  have ha:(K.map bB)[i]? = some (bB k0):=by rw[List.getElem?_map,Rr]; rfl
  have hb:(K.map bB)[j]? = some (bB k):=by rw[List.getElem?_map,hj]; rfl
  have hn:bB k0=bB k:=by unfold bB; rw[←e1,←e2,←e3,←e4]
  rcases Nat.lt_trichotomy i j with h | h | h
  ·have:=G i j _ _ h ha hb; rw[hn] at this; unfold fO at this; omega
  ·subst h; rw[Rr] at hj; cases hj; rfl
  ·have:=G j i _ _ h hb ha; rw[hn] at this; unfold fO at this; omega
 refine E3 (R.le aK) (by omega) hl t r _ ?_ ?_
 ·intro i h1 hi h2 h3 bA
  simp(disch:=first|omega|simp only[Wd]<;>omega|rfl)only[Wz]
  refine ig h1 (fun k hk e1 e2=>?_) (aK.trans bA)
  obtain ⟨j,hj⟩:=List.getElem?_of_mem hk
  have hnm:bB k=(t,r):=by unfold bB; rw[←e1,←e2]
  rcases Nat.lt_trichotomy j i with h | h | h
  ·have:=h2 j k h hj; rw[hnm] at this; unfold fO at this; omega
  ·subst h; have:=h3 k hj; rw[hnm] at this; unfold fO at this; omega
  ·exfalso
   have hlt:i<K.length:=by have:=(List.getElem?_eq_some_iff.1 hj).1; omega
   obtain ⟨ki,hki⟩:∃k,K[i]? = some k:=⟨_,List.getElem?_eq_getElem hlt⟩
   have g1:=h3 ki hki
   have g2:=cZ.1 qN i j (bB ki) (bB k) h (by rw[List.getElem?_map,hki]; rfl) (by rw[List.getElem?_map,hj]; rfl)
   have:=mR g1 g2
   rw[hnm] at this; unfold fO at this; omega
 ·intro i k h1 hk e1 e2 bA
  have n1:=bA.nx
  have l1:=bA.lo
  have R1:=(R.le aK).le bA
  have c1:=R1.cell
  have uE:=List.mem_of_getElem? hk
  have Cv:=(gd k uE).small
  obtain ⟨b,o,hb,fJ,eX⟩:=R1.ld i hk
  have L1:=eX h1 (Le.refl _)
  have hq:=(R1.qv k uE).sl
  simp(disch:=first|omega|simp only[Wd]<;>omega|rfl)only[Wz]
  refine ⟨fun n l h'=>∃j:Nat,slot l 41=.int .i64 (j:Int)∧j≤k.Q.length∧n=k.Q.length-j∧(∀(m:Nat) (p:R5),m<j→k.Q[m]? = some p→p.x≠x)∧HQ h1 h',⟨_,0,rfl,Nat.zero_le _,rfl,fun j k hj=>(by omega),rfl⟩,?_⟩
  rintro n l h' ⟨j,s1,hj,rfl,hall,hQ⟩
  cases (show h1=h' from hQ)
  by_cases hlt:j<k.Q.length
  ·obtain ⟨p,hp⟩:∃p,k.Q[j]? = some p:=⟨_,List.getElem?_eq_getElem hlt⟩
   obtain ⟨b2,o2,hb2,acf,acg⟩:=xM hq j hp
   by_cases hx:p.x=x
   ·simp (maxSteps:=3000000) (disch:=first|omega|simp only[Wd]<;>omega|rfl)only[Wz,vt,aJ,c1,fJ,L1,hq.len,s1,cq (show (j:Int)<(k.Q.length:Int) by omega),By,acf,acg,a_ hx,II]
    exact iJ h1 k p uE e1.symm e2.symm (List.mem_of_getElem? hp) hx (aK.trans bA)
   ·simp (maxSteps:=3000000) (disch:=first|omega|simp only[Wd]<;>omega|rfl)only[Wz,vt,aJ,c1,fJ,L1,hq.len,s1,cq (show (j:Int)<(k.Q.length:Int) by omega),By,acf,acg,aN hx]
    refine ⟨_,by omega,j+1,rfl,by omega,rfl,fun m q hm um=>?_,rfl⟩
    by_cases e:m=j
    ·subst e; rw[hp] at um; cases um; exact hx
    ·exact hall m q (by omega) um
  ·have hjl:j=k.Q.length:=by omega
   subst hjl
   simp (maxSteps:=3000000) (disch:=first|omega|simp only[Wd]<;>omega|rfl)only[Wz,vt,aJ,c1,fJ,L1,hq.len,s1,bP (show (k.Q.length:Int)≤(k.Q.length:Int) by omega)]
   refine ig h1 (fun k' hk' e3 e4 p hp=>?_) (aK.trans bA)
   have:=far i k k' hk hk' e1.symm e2.symm e3 e4
   subst this
   obtain ⟨m,hm⟩:=List.getElem?_of_mem hp
   exact hall m p (List.getElem?_eq_some_iff.1 hm).1 hm
end
def mh (h:Heap) (v v':Value):Prop:=∀c,c<h.nx→qM v' c→qM v c
theorem mh.refl (h:Heap) (v:Value):mh h v v:=fun _ _ x=>x
theorem mh.up {h h1:Heap} {v v':Value} (n:mh h1 v v') (hn:h.nx≤h1.nx):mh h v v':=fun c hc x=>n c (by omega) x
theorem mh.own {α:Type} {enc:α→List Value} {a h h':Heap} {e:TypeId} {v v':Value} {L:List α} (ho:dh enc a e h' v' L) (hn:h.nx≤a.nx):mh h v v':=fun c hc x=>absurd (ho.blk x).1 (by omega)
def SB (rb:Nat) (v:Value) (c:Nat):Prop:=c=rb∨qM v c
section
variable {a h:Heap} {rb rp rl most:Nat} {v:Value} {K:List HE}
theorem jl.setAt (R:jl a h rb rp most v K) {i:Nat} {k:HE} (hk:K[i]? = some k) {t r w:Int} {q:Value} {Q:List R5} (hq:iV a h q Q):∃bo,v=.slice (some ⟨bo,0,none⟩) K.length aO∧h.bl.get bo=some (aa (K.flatMap fH) 81 true)∧bo<h.nx∧h.lo≤bo∧a.nx≤bo∧
  over (K.flatMap fH) (i*4) [.int .i64 t,.int .i64 r,q,.int .i64 w]=(K.set i ⟨t,r,0,0,q,w,Q⟩).flatMap fH∧
  ((K.flatMap fH).length=K.length*4∧i<K.length)∧
  jl a ⟨h.nx,h.bl.aY bo (aa ((K.set i ⟨t,r,0,0,q,w,Q⟩).flatMap fH) 81 true),h.lo⟩ rb rp most v (K.set i ⟨t,r,0,0,q,w,Q⟩)∧
  jk (SB rb v) h ⟨h.nx,h.bl.aY bo (aa ((K.set i ⟨t,r,0,0,q,w,Q⟩).flatMap fH) 81 true),h.lo⟩:=by
 have hil:=(List.getElem?_eq_some_iff.1 hk).1
 have c1:=R.cell
 rcases R.own with ⟨rfl,_⟩ | ⟨bo,rfl,k1,k2,k3,k4⟩
 ·simp at hil
 have hne:bo≠rb:=by rintro rfl; rw[k4] at c1; exact aS c1.symm
 have HA:Rm q=q:=pF hq.sl
 have Ah:=dJ (enc:=fH) (p':=⟨t,r,0,0,q,w,Q⟩) (ws:=[.int .i64 t,.int .i64 r,q,.int .i64 w]) (j:=0) cg hk (by show 0+4≤4; omega) (by
  rw[oO (fH k) [.int .i64 t,.int .i64 r,q,.int .i64 w] rfl]
  show _=[.int .i64 t,.int .i64 r,Rm q,.int .i64 w]
  rw[HA])
 rw[Nat.add_zero] at Ah
 refine ⟨bo,rfl,k4,k2,k3,k1,Ah,⟨aX cg K,hil⟩,⟨R.lt,R.lo,(T.ai _ _ hne).trans R.cell,.inr ⟨bo,by rw[List.length_set],k1,k2,k3,T.af _ _ _⟩,fun h=>?_,fun k' hk'=>?_⟩,jk.one (.inr ⟨_,rfl⟩) _⟩
 ·have:=congrArg List.length h
  rw[List.length_set] at this
  simp at this; subst this; simp at hil
 ·have nty:∀vs,h.bl.get bo≠some (aa vs 83 true):=fun vs=>by rw[k4]; exact aL (by decide)
  rcases mem_set hk' with rfl | hk'
  ·exact dh.put hq (nty _) _
  ·exact dh.put (R.qv k' hk') (nty _) _
theorem jl.ach (R:jl a h rb rp most v K) {v':Value} {K':List HE} (ho:sI a h v' K') (em:uX K' v') (hq:∀k∈K',iV a h k.q k.Q):jl a ⟨h.nx,h.bl.aY rb (aa [.int .i64 (most:Int),.pointer (some ⟨rp,0,none⟩),v'] 134 false),h.lo⟩ rb rp most v' K':=by
 have c1:=R.cell
 refine ⟨R.lt,R.lo,T.af _ _ _,dh.put ho (by rw[c1]; exact aS) _,em,fun k hk=>dh.put (hq k hk) (by rw[c1]; exact aS) _⟩
theorem cF.frB {B:List Bool} (p:cF h rp rl B) (R:jl a h rb rp most v K) {h':Heap} (f:jk (SB rb v) h h'):cF h' rp rl B:=by
 have c1:=p.nV
 have c2:=p.gP
 have c3:=R.cell
 refine p.keep f.nx f.lo (f.get rp p.Lw ?_) (f.get rl p.FG ?_)
 ·rintro (rfl | hb)
  ·rw[c1] at c3; exact aL (by decide) c3
  ·have:=(R.own.blk hb).2.2; rw[c1] at this; exact aS this
 ·rintro (rfl | hb)
  ·rw[c2] at c3; exact aL (by decide) c3
  ·have:=(R.own.blk hb).2.2; rw[c2] at this; exact aS this
theorem jl.frP (R:jl a h rb rp most v K) {B:List Bool} (p:cF h rp rl B) {h':Heap} (f:jk (fun c=>c=rl) h h'):jl a h' rb rp most v K:=by
 have c2:=p.gP
 refine R.keep f.nx f.lo fun c vs ty op hc hg ht=>f.get c hc ?_
 rintro rfl
 rw[hg] at c2
 rcases ht with rfl | ⟨rfl,rfl⟩ | rfl<;>exact aL (by decide) c2
theorem TN {v:Value}:∀c,SB rb v c→SK rb rl v c:=by
 rintro c (h | h)
 ·exact .inl h
 ·exact .inr (.inr h)
def JA (K K':List HE) (i:Nat) (k:HE) (w:Int) (Q2:List R5):Prop:=(Q2=[]∧K'=K.take i++K.drop (i+1))∨(Q2≠[]∧∃k':HE,k'.t=k.t∧k'.r=k.r∧k'.w=w∧k'.Q=Q2∧K'=K.set i k')
theorem OC {K:List HE} (i:Nat) (k':HE):(K.set i k').take i=K.take i∧(K.set i k').drop (i+1)=K.drop (i+1):=
 ⟨List.take_set_of_le (Nat.le_refl _),List.drop_set_of_lt (Nat.lt_succ_self _)⟩
theorem Xp (R:jl a h rb rp most v K) (hlo:h.lo≤h.nx) (la:a.nx≤h.nx) (hl:K.length≤1000) {i:Nat} {k:HE} (hk:K[i]? = some k) {q:Value} {w:Int} {Q1:List R5} (hq:Sl bq h q Q1) (hQl:Q1.length≤1000) (vq:VQ Q1 w) (κ:KQ)
  (hκ:∀vi v' K' h',JA K K' i k w (cw (dO Q1+1) Q1).1→jl a h' rb rp most v' K'→jk (SB rb v) h h'→mh h v v'→jM h h' vi (cw (dO Q1+1) Q1).2→κ vi h') :
  CallW Tryz.prog 82 [.pointer (some ⟨rb,0,none⟩),.int .i64 (i:Int),ef k.t k.r q w] h κ:=by
 have um:=hq
 obtain ⟨qx,qc,rfl,_⟩:=um
 have hrb:=R.lt
 refine an mixed ?_
 rw[aas]
 simp(disch:=first|omega|simp only[Wd]<;>omega|with_unfolding_all rfl)only[Wz,ef]
 obtain ⟨hA,az⟩:∃hA:Heap,hA=⟨h.nx+1,(h.bl.aY (h.nx) (aa [.int .i64 k.t,.int .i64 k.r,.slice qx Q1.length qc,.int .i64 w] 81 false)),h.lo⟩:=⟨_,rfl⟩
 have aK:Le h hA:=by subst az; exact ((Le.refl h).new _)
 have g1:hA.bl.get (h.nx)=some (aa [.int .i64 k.t,.int .i64 k.r,.slice qx Q1.length qc,.int .i64 w] 81 false):=by subst az; exact T.af _ _ _
 have d_:hA.nx=h.nx+1:=by subst az; rfl
 have ee:hA.lo=h.lo:=by subst az; rfl
 rw[←az]
 clear az
 refine Oq k.t k.r _ w Q1 hA _ (hq.le aK) (by omega) (by omega) vq ?_
 intro q2 vi h2 mo agS bt
 have kT:=bt.nx
 have kU:=bt.lo
 have g1:=(bt.get _ (by omega)).trans g1
 obtain ⟨vq2,hkey,hst,hgr⟩:=vo (dO Q1+1) vq
 generalize hQ2:(cw (dO Q1+1) Q1).1=Q2 at *
 generalize hI2:(cw (dO Q1+1) Q1).2=I2 at *
 obtain ⟨fu,fD,rfl,_⟩:=mo.sl
 have R2:=(R.le aK).le bt
 have c2:=R2.cell
 have n2:=bt.nx
 have lan:=la
 obtain ⟨hB,eB⟩:∃hB:Heap,hB=⟨h2.nx,h2.bl.aY h.nx (aa [.int .i64 k.t,.int .i64 k.r,.slice fu Q2.length fD,.int .i64 w] 81 false),h2.lo⟩:=⟨_,rfl⟩
 have NT:Le h hB:=by rw[eB]; exact (aK.trans bt).set (b:=h.nx) (by omega) _
 have nB:hB.nx=h2.nx:=by rw[eB]
 have lB:hB.lo=h2.lo:=by rw[eB]
 have RB:=R.le NT
 have FE:iV h hB (.slice fu Q2.length fD) Q2:=by rw[eB]; exact dh.base (dh.put mo (by rw[g1]; exact aS) _) (by omega)
 have agT:jM h hB vi I2:=by rw[eB]; exact dh.base (dh.put agS (by rw[g1]; exact aS) _) (by omega)
 have gB:hB.bl.get h.nx=some (aa [.int .i64 k.t,.int .i64 k.r,.slice fu Q2.length fD,.int .i64 w] 81 false):=by rw[eB]; exact T.af _ _ _
 have cB:=RB.cell
 obtain ⟨bo,ev,k4,k2,k3,k1,Ah,⟨hfl,hil⟩,RS,fS⟩:=RB.setAt hk (t:=k.t) (r:=k.r) (w:=w) (q:=.slice fu Q2.length fD) (Q:=Q2) (dh.base FE (by omega))
 subst ev
 simp(disch:=first|omega|simp only[Wd]<;>omega|with_unfolding_all rfl)only[Wz,ef,g1]
 rw[←eB]
 simp(disch:=first|omega|simp only[Wd]<;>omega|with_unfolding_all rfl)only[Wz,c2,gB,aW,k4,Ah]
 obtain ⟨hC,eC⟩:∃hC:Heap,hC=⟨hB.nx,hB.bl.aY bo (aa ((K.set i ⟨k.t,k.r,0,0,.slice fu Q2.length fD,w,Q2⟩).flatMap fH) 81 true),hB.lo⟩:=⟨_,rfl⟩
 have hne:bo≠h.nx:=by rintro rfl; rw[gB] at k4; exact aS k4
 have gC:hC.bl.get h.nx=some (aa [.int .i64 k.t,.int .i64 k.r,.slice fu Q2.length fD,.int .i64 w] 81 false):=by rw[eC]; exact (T.ai _ _ hne).trans gB
 have nC:hC.nx=hB.nx:=by rw[eC]
 have lC:hC.lo=hB.lo:=by rw[eC]
 have aci:jM h hC vi I2:=by rw[eC]; exact dh.put agT (by rw[k4]; exact aL (by decide)) _
 rw[←eC] at RS fS ⊢
 clear eC
 have fC:jk (SB rb (.slice (some ⟨bo,0,none⟩) K.length aO)) h hC:=(jk.of_le NT).trans fS fun c _ x=>x
 refine ⟨fun l h'=>∃v' K',JA K K' i k w Q2∧jl a h' rb rp most v' K'∧jk (SB rb (.slice (some ⟨bo,0,none⟩) K.length aO)) h h'∧mh h (.slice (some ⟨bo,0,none⟩) K.length aO) v'∧jM h h' vi I2,?_,?_⟩
 rotate_left
 ·rintro l h' ⟨v',K',e1,e2,e3,e5,e4⟩
  exact hκ vi v' K' h' e1 e2 e3 e5 e4
 by_cases h0:Q2=[]
 case neg=>
  have hpos:0<Q2.length:=List.length_pos_iff.2 h0
  simp(disch:=first|omega|simp only[Wd]<;>omega|with_unfolding_all rfl)only[Wz,BP,gC,aN (show ¬(Q2.length:Int)=0 by omega)]
  exact ⟨_,_,.inr ⟨h0,⟨k.t,k.r,0,0,.slice fu Q2.length fD,w,Q2⟩,rfl,rfl,rfl,rfl,rfl⟩,RS,fC,mh.refl _ _,aci⟩
 subst h0
 have cC:=RS.cell
 have HA:=RS.own
 obtain ⟨TO,TP⟩:=OC (K:=K) i ⟨k.t,k.r,0,0,.slice fu ([]:List R5).length fD,w,[]⟩
 have hlen:(K.set i ⟨k.t,k.r,0,0,.slice fu ([]:List R5).length fD,w,[]⟩).length=K.length:=List.length_set
 simp(disch:=first|omega|simp only[Wd]<;>omega|with_unfolding_all rfl)only[Wz,BP,gC,Ja,qh,cC]
 obtain ⟨hD,KN⟩:∃hD:Heap,hD=⟨hC.nx+1,(hC.bl.aY (hC.nx) (aa [] 81 false)),hC.lo⟩:=⟨_,rfl⟩
 have OD:Le hC hD:=by subst KN; exact ((Le.refl hC).new _)
 have gD:hD.bl.get (hC.nx)=some (aa [] 81 false):=by subst KN; exact T.af _ _ _
 have al5:hD.nx=hC.nx+1:=by subst KN; rfl
 have al6:hD.lo=hC.lo:=by subst KN; rfl
 rw[←KN]
 clear KN
 have RD:=RS.le OD
 have cD:=RD.cell
 have al7:rb<hC.nx:=by omega
 have lrb:=R.lo
 rw[qj cg (by decide) RD.own RD.emp i (by omega)]
 have hf:=sH cg RD.own i (by omega)
 rw[TO] at hf
 refine fP (enc:=fH) (a:=hD) (L:=[]) (M:=K.take i) cg gO (by decide) (by decide) (.inl ⟨rfl,.inr ⟨_,_,rfl⟩⟩) (fun _=>.inr ⟨_,_,rfl⟩) hf (Le.refl _) (by simp; omega) (by omega) _ ?_
 intro v5 h5 tL em5 ji _
 rw[List.nil_append] at tL em5
 have n5:=ji.nx
 have l5:=ji.lo
 have R5:=RD.le ji
 have c5:=R5.cell
 obtain ⟨u,hu,eu⟩:=R5.own.tail cg (by decide) (i+1) (by omega)
 rw[TP] at hu
 have ei:(i:Int)+1=((i+1:Nat):Int):=by omega
 simp(disch:=first|omega|simp only[Wd]<;>omega|with_unfolding_all rfl)only[Wz,c5,ei,eu]
 refine fP (enc:=fH) (a:=hD) (L:=K.take i) (M:=K.drop (i+1)) cg gO (by decide) (by decide) tL em5 hu ji (by simp; omega) (by omega) _ ?_
 intro v6 h6 tM Xq qs _
 have n6:=qs.nx
 have l6:=qs.lo
 have R6:=RD.le qs
 have c6:=R6.cell
 obtain ⟨x6,y6,z6,rfl⟩:∃x y z,v6=.slice x y z:=by obtain ⟨x,z,e,_⟩:=tM.sl; exact ⟨_,_,_,e⟩
 simp(disch:=first|omega|simp only[Wd]<;>omega|with_unfolding_all rfl)only[Wz,c6]
 have hsub:∀k'∈K.take i++K.drop (i+1),k'∈K:=fun k' hk'=>(List.mem_append.1 hk').elim List.mem_of_mem_take List.mem_of_mem_drop
 have hqs:∀k'∈K.take i++K.drop (i+1),iV a h6 k'.q k'.Q:=by
  intro k' hk'
  have:k'∈(K.set i ⟨k.t,k.r,0,0,.slice fu ([]:List Vai.R5).length fD,w,[]⟩).take i++(K.set i ⟨k.t,k.r,0,0,.slice fu ([]:List Vai.R5).length fD,w,[]⟩).drop (i+1):=by rw[TO,TP]; exact hk'
  exact R6.qv k' ((List.mem_append.1 this).elim List.mem_of_mem_take List.mem_of_mem_drop)
 refine ⟨_,_,.inl ⟨rfl,rfl⟩,R6.ach (dh.base tM (by omega)) Xq hqs,?_,mh.own tM (by omega),?_⟩
 ·refine (fC.trans (jk.of_le (S:=SB rb (.slice (some ⟨bo,0,none⟩) K.length aO)) (OD.trans qs)) fun c _ x=>x).trans (jk.one (.inl rfl) _) fun c _ x=>x
 ·exact dh.put ((aci.le OD).le qs) (by rw[c6]; exact aS) _
end
section
variable {a h:Heap} {rb rp rl most:Nat} {v:Value} {K:List HE} {B:List Bool}
theorem KO (R:jl a h rb rp most v K) (p:cF h rp rl B) (hlo:h.lo≤h.nx) (la:a.nx≤h.nx) (hl:K.length≤1000) (gd:∀k∈K,kR k) (ids:∀k∈K,∀p∈k.Q,∃n:Nat,p.id=(n:Int)∧B[n]? = some true) (d:Int) (κ:KQ)
  (EK:∀h',(∀k∈K,bJ k.Q d=none)→Le h h'→κ (.tuple ⟨[.slice none 0 0,.int .i64 5]⟩) h')
  (ig:∀vi v' K' h' (i:Nat) (k:HE) (p:R5) (n:Nat),K[i]? = some k→bJ k.Q d=some p→d=(n:Int)→B[n]? = some true→JA K K' i k k.w (cw (dO (k.Q.filter fun r=>!bD d r)+1) (k.Q.filter fun r=>!bD d r)).1→jl a h' rb rp most v' K'→cF h' rp rl (B.set n false)→jk (SK rb rl v) h h'→mh h v v'→
   jM h h' vi (cw (dO (k.Q.filter fun r=>!bD d r)+1) (k.Q.filter fun r=>!bD d r)).2→κ (.tuple ⟨[vi,.int .i64 0]⟩) h') :
  CallW Tryz.prog 49 [.pointer (some ⟨rb,0,none⟩),.int .i64 d] h κ:=by
 refine an mixed ?_
 rw[ZR]
 refine OB R hlo hl gd d _ ?_ ?_
 ·intro h1 hno bA
  simp(disch:=first|omega|simp only[Wd]<;>omega|rfl)only[Wz,cq (show (-1:Int)<0 by decide)]
  exact EK h1 hno bA
 ·intro i k p0 h1 hk hf bA
  have n1:=bA.nx
  have l1:=bA.lo
  have R1:=R.le bA
  have c1:=R1.cell
  have uE:=List.mem_of_getElem? hk
  have gk:=gd k uE
  have Cv:=gk.small
  obtain ⟨j,hj,Yw⟩:=sF gk.vq hf
  obtain ⟨n,en,zL⟩:=ids k uE p0 (gK hf).1
  have W0:d=(n:Int):=by rw[←en]; exact Yw.symm
  obtain ⟨b,o,hb,fJ,eX⟩:=R1.ld i hk
  have L1:=eX h1 (Le.refl _)
  simp(disch:=first|omega|simp only[Wd]<;>omega|rfl)only[Wz,bP (show (0:Int)≤(i:Int) by omega),IK,aJ,c1,fJ,L1]
  refine Oo k.t k.r k.q k.w d k.Q a h1 _ (R1.qv k uE) (by omega) (by omega) gk.vq.pair hj Yw ?_
  intro q2 h2 uv bt
  have n2:=bt.nx
  have l2:=bt.lo
  have HA:=uv.1
  obtain ⟨fu,fD,rfl,_⟩:=HA
  have R2:=R1.le bt
  have c2:=R2.cell
  have hrb:=R2.lt
  simp(disch:=first|omega|simp only[Wd]<;>omega|rfl)only[Wz,ef,aJ,c2]
  obtain ⟨h3,e3⟩:∃h3:Heap,h3=⟨h2.nx+1,h2.bl.aY h2.nx (aa [.int .i64 k.t,.int .i64 k.r,.slice fu (k.Q.filter fun r=>!bD d r).length fD,.int .i64 k.w] 81 false),h2.lo⟩:=⟨_,rfl⟩
  have c9:Le h2 h3:=by rw[e3]; exact (Le.refl h2).new _
  have g3:h3.bl.get h2.nx=some (aa [.int .i64 k.t,.int .i64 k.r,.slice fu (k.Q.filter fun r=>!bD d r).length fD,.int .i64 k.w] 81 false):=by rw[e3]; exact T.af _ _ _
  have n3:h3.nx=h2.nx+1:=by rw[e3]
  have l3:h3.lo=h2.lo:=by rw[e3]
  rw[←e3]
  clear e3
  have lg:=(bA.trans bt).trans c9
  have p3:=p.le lg
  have R3:=R.le lg
  rw[show (Value.int IntKind.i64 d)=.int .i64 (n:Int) by rw[W0]]
  refine Rp p3 n zL _ ?_
  intro p4
  have prl:=p.FG
  obtain ⟨h4,e4⟩:∃h4:Heap,h4=⟨h3.nx,h3.bl.aY rl (aa ((B.set n false).map Value.bool) 4 false),h3.lo⟩:=⟨_,rfl⟩
  have f4:jk (fun c=>c=rl) h3 h4:=by rw[e4]; exact jk.one (S:=fun c=>c=rl) rfl _
  have g4:h4.bl.get h2.nx=some (aa [.int .i64 k.t,.int .i64 k.r,.slice fu (k.Q.filter fun r=>!bD d r).length fD,.int .i64 k.w] 81 false):=(f4.get _ (by omega) (by omega)).trans g3
  have q4:QV h4 (.slice fu (k.Q.filter fun r=>!bD d r).length fD) (k.Q.filter fun r=>!bD d r):=by rw[e4]; exact (uv.le c9).put (fun vs op=>by rw[p3.gP]; exact aL (by decide)) _
  rw[←e4] at p4 ⊢
  have n4:h4.nx=h3.nx:=by rw[e4]
  have l4:h4.lo=h3.lo:=by rw[e4]
  clear e4
  have R4:=R3.frP p3 f4
  have lf:(k.Q.filter fun r=>!bD d r).length≤k.Q.length:=List.length_filter_le _ _
  have agU:jk (SK rb rl v) h h4:=(jk.of_le lg).trans f4 fun c _ x=>.inr (.inl x)
  simp(disch:=first|omega|simp only[Wd]<;>omega|rfl)only[Wz,g4]
  refine Xp R4 (by omega) (by omega) hl hk q4.1 (by omega) (gk.vq.filter _) _ ?_
  ·intro vi v' K' h5 he R5 f5 nb5 o5
   exact ig vi v' K' h5 i k p0 n hk hf W0 zL he R5 (p4.frB R4 f5) (agU.trans f5 fun c _ x=>TN c x) (nb5.up (by omega)) (dh.base o5 (by omega))
end
section
variable {a h:Heap} {rb rp rl most:Nat} {v:Value} {K:List HE} {B:List Bool}
theorem E5 (R:jl a h rb rp most v K) (p:cF h rp rl B) (hlo:h.lo≤h.nx) (la:a.nx≤h.nx) (hl:K.length≤1000) (gd:∀k∈K,kR k) (hw:∀k∈K,k.w≤100000) (d m:Int) (κ:KQ)
  (hk2:∀h',aZ m=false→Le h h'→κ (.tuple ⟨[.bool false,.int .i64 2]⟩) h')
  (EK:∀h',aZ m=true→(∀k∈K,bJ k.Q d=none)→Le h h'→κ (.tuple ⟨[.bool false,.int .i64 5]⟩) h')
  (Rb:∀h' k p,aZ m=true→k∈K→bJ k.Q d=some p→0<p.s→Le h h'→κ (.tuple ⟨[.bool false,.int .i64 7]⟩) h')
  (ig:∀q' h' (i:Nat) (k:HE) (p:R5) (j:Nat),aZ m=true→K[i]? = some k→k.Q[j]? = some p→bJ k.Q d=some p→¬0<p.s→jl a h' rb rp most v (K.set i ⟨k.t,k.r,0,0,q',(dP k.Q k.w p m).2.1,k.Q.set j (dP k.Q k.w p m).1⟩)→cF h' rp rl B→jk (SK rb rl v) h h'→κ (.tuple ⟨[.bool (dP k.Q k.w p m).2.2,.int .i64 0]⟩) h') :
  CallW Tryz.prog 51 [.pointer (some ⟨rb,0,none⟩),.int .i64 d,.int .i64 m] h κ:=by
 have bX:=p
 refine an mixed ?_
 rw[ZT]
 refine OB R hlo hl gd d _ ?_ ?_
 ·intro h1 hno bA
  have n1:=bA.nx
  have l1:=bA.lo
  simp(disch:=first|omega|simp only[Wd]<;>omega|rfl)only[Wz,cq (show (-1:Int)<0 by decide),IM]
  refine ye 0 0 (.slice none 0 0) 0 d m [] h1 _ (Sl.nil _ _ _) (by simp) (by omega) ⟨by omega,by omega⟩ List.Pairwise.nil ?_ ?_ ?_ ?_
  ·intro ha h2 bt
   have n2:=bt.nx
   have l2:=bt.lo
   simp(disch:=first|omega|simp only[Wd]<;>omega|rfl)only[Wz,ef]
   exact hk2 _ ha ((bA.trans bt).new _)
  ·intro ha _ h2 bt
   have n2:=bt.nx
   have l2:=bt.lo
   simp(disch:=first|omega|simp only[Wd]<;>omega|rfl)only[Wz,ef]
   exact EK _ ha hno ((bA.trans bt).new _)
  ·intro _ p hp; simp[bJ] at hp
  ·intro _ i p hi; simp at hi
 ·intro i k p0 h1 hk hf bA
  have n1:=bA.nx
  have l1:=bA.lo
  have R1:=R.le bA
  have c1:=R1.cell
  have uE:=List.mem_of_getElem? hk
  have gk:=gd k uE
  have Cv:=gk.small
  have hwk:=hw k uE
  have hw0:=gk.vq.w0
  obtain ⟨b,o,hb,fJ,eX⟩:=R1.ld i hk
  have L1:=eX h1 (Le.refl _)
  simp(disch:=first|omega|simp only[Wd]<;>omega|rfl)only[Wz,bP (show (0:Int)≤(i:Int) by omega),IN,aJ,c1,fJ,L1]
  refine ye k.t k.r k.q k.w d m k.Q h1 _ (R1.qv k uE).sl (by omega) (by omega) ⟨by omega,by omega⟩ gk.vq.pair ?_ ?_ ?_ ?_
  ·intro ha h2 bt
   have n2:=bt.nx
   have l2:=bt.lo
   simp(disch:=first|omega|simp only[Wd]<;>omega|rfl)only[Wz,ef]
   exact hk2 _ ha ((bA.trans bt).new _)
  ·intro ha hno h2 bt
   rw[hf] at hno; cases hno
  ·intro ha p hp hs h2 bt
   have n2:=bt.nx
   have l2:=bt.lo
   simp(disch:=first|omega|simp only[Wd]<;>omega|rfl)only[Wz,ef]
   exact Rb _ k p ha uE hp hs ((bA.trans bt).new _)
  ·intro ha j p hj hp hs q2 h2 mo bt
   have n2:=bt.nx
   have l2:=bt.lo
   obtain ⟨fu,fD,rfl,_⟩:=mo.sl
   have eN:=bA.trans bt
   have hrb:=R.lt
   simp(disch:=first|omega|simp only[Wd]<;>omega|rfl)only[Wz,ef]
   obtain ⟨h3,e3⟩:∃h3:Heap,h3=⟨h2.nx+1,h2.bl.aY h2.nx (aa [.int .i64 k.t,.int .i64 k.r,.slice fu (k.Q.set j (dP k.Q k.w p m).1).length fD,.int .i64 (dP k.Q k.w p m).2.1] 81 false),h2.lo⟩:=⟨_,rfl⟩
   have c9:Le h2 h3:=by rw[e3]; exact (Le.refl h2).new _
   have g3:h3.bl.get h2.nx=some (aa [.int .i64 k.t,.int .i64 k.r,.slice fu (k.Q.set j (dP k.Q k.w p m).1).length fD,.int .i64 (dP k.Q k.w p m).2.1] 81 false):=by rw[e3]; exact T.af _ _ _
   have n3:h3.nx=h2.nx+1:=by rw[e3]
   have l3:h3.lo=h2.lo:=by rw[e3]
   rw[←e3]
   clear e3
   have lg:=eN.trans c9
   have R3:=R.le lg
   have c3:=R3.cell
   obtain ⟨bo,ev,k4,k2,k3,k1,Ah,⟨hfl,hil⟩,RS,fS⟩:=R3.setAt hk (t:=k.t) (r:=k.r) (w:=(dP k.Q k.w p m).2.1) (q:=.slice fu (k.Q.set j (dP k.Q k.w p m).1).length fD) (Q:=k.Q.set j (dP k.Q k.w p m).1) (dh.base (mo.le c9) (by omega))
   subst ev
   simp(disch:=first|omega|simp only[Wd]<;>omega|rfl)only[Wz,IL,aJ,c3,g3,aW,k4,Ah]
   exact ig _ _ i k p j ha hk hj hp hs RS ((cF.le bX lg).frB R3 fS) ((jk.of_le lg).trans fS fun c _ x=>TN c x)
end
theorem OE {B:List Bool} (h:∀k,k<B.length→B[k]? = some true):(di B).length=B.length:=by
 unfold di
 rw[List.length_map,List.filter_eq_self.2,List.length_range]
 intro k hk
 rw[h k (List.mem_range.1 hk)]; rfl
section
variable {a h:Heap} {rb rp rl most:Nat} {v:Value} {K:List HE} {B:List Bool}
theorem JB (R:jl a h rb rp most v K) (p:cF h rp rl B) (hlo:h.lo≤h.nx) (la:a.nx≤h.nx) (hl:K.length≤1000) (t r x m:Int) (hm:aZ m=true) {q:Value} {w:Int} {Q:List R5} (hq:QV h q Q) (hQl:Q.length≤1000) (hw:0≤w∧w≤100000)
  (hn:∀n:Nat,B[n]? = some false→∀o∈Q,o.id≠(n:Int)∧o.x≠x) {pb:Nat} (hpb:pb<h.nx) (lpb:h.lo≤pb) (gpb:h.bl.get pb=some (aa [.int .i64 t,.int .i64 r,q,.int .i64 w] 81 false)) (hroom:(di B).length<B.length)
  (i i':Nat) (th:Bool) (hi':(th=true∧i'=i+1)∨(th=false∧i'=i)) (hil:i'≤K.length) (κ:KQ)
  (hk:∀(n:Nat) q' v' h',B[n]? = some false→(∀k,k<n→B[k]? = some true)→jl a h' rb rp most v' (K.take i++⟨t,r,0,0,q',(dI Q w n x m).2.1,Q++[(dI Q w n x m).1]⟩::K.drop i')→cF h' rp rl (B.set n true)→jk (fun c=>c=rb∨c=rl∨c=pb) h h'→mh h v v'→κ (.tuple ⟨[.int .i64 (n:Int),.bool (dI Q w n x m).2.2,.int .i64 0]⟩) h') :
  BA (.pointer (some ⟨rb,0,none⟩)) pb (.int .i64 x) (.int .i64 m) (.int .i64 (i:Int)) (.bool th) h κ:=by
 have c0:=R.cell
 have hrb:=R.lt
 have lrb:=R.lo
 have prl:=p.FG
 have acm:i≤K.length:=by rcases hi' with ⟨_,e⟩ | ⟨_,e⟩<;>omega
 simp(disch:=first|omega|simp only[Wd]<;>omega|rfl)only[Wz,BA,aJ,c0]
 refine Rq p _ ?_ ?_
 ·intro hall
  have:=OE hall
  omega
 intro n hb GI p1
 obtain ⟨h1,e1⟩:∃h1:Heap,h1=⟨h.nx,h.bl.aY rl (aa ((B.set n true).map Value.bool) 4 false),h.lo⟩:=⟨_,rfl⟩
 have f1:jk (fun c=>c=rl) h h1:=by rw[e1]; exact jk.one (S:=fun c=>c=rl) rfl _
 have hne:pb≠rl:=by rintro rfl; exact aL (by decide) (gpb.symm.trans p.gP)
 have hnb:pb≠rb:=by rintro rfl; exact aL (by decide) (gpb.symm.trans c0)
 have hnr:rb≠rl:=by rintro rfl; exact aL (by decide) (c0.symm.trans p.gP)
 have g1:h1.bl.get pb=some (aa [.int .i64 t,.int .i64 r,q,.int .i64 w] 81 false):=(f1.get pb hpb hne).trans gpb
 have n1:h1.nx=h.nx:=by rw[e1]
 have l1:h1.lo=h.lo:=by rw[e1]
 have q1:QV h1 q Q:=by rw[e1]; exact hq.put (fun vs op=>by rw[p.gP]; exact aL (by decide)) _
 rw[←e1] at p1 ⊢
 clear e1
 have R1:=R.frP p f1
 have Ub:=hn n hb
 simp(disch:=first|omega|simp only[Wd]<;>omega|rfl)only[Wz,g1]
 refine Xe t r q w (n:Int) x m Q h1 _ q1.1 (by omega) (by omega) ⟨by omega,by omega⟩ (by omega) hm Ub ?_
 intro q2 h2 mo bt
 have n2:=bt.nx
 have l2:=bt.lo
 have g2:=(bt.get pb (by omega)).trans g1
 obtain ⟨fu,fD,rfl,_⟩:=mo.sl
 have R2:=R1.le bt
 have c2:=R2.cell
 have hkn:=hk n
 clear hk
 generalize hP:(dI Q w n x m).1=P at *
 generalize hW2:(dI Q w n x m).2.1=W2 at *
 generalize hG:(dI Q w n x m).2.2=G at *
 obtain ⟨h3,e3⟩:∃h3:Heap,h3=⟨h2.nx,h2.bl.aY pb (aa [.int .i64 t,.int .i64 r,.slice fu (Q++[P]).length fD,.int .i64 W2] 81 false),h2.lo⟩:=⟨_,rfl⟩
 have f3:jk (fun c=>c=pb) h2 h3:=by rw[e3]; exact jk.one (S:=fun c=>c=pb) rfl _
 have g3:h3.bl.get pb=some (aa [.int .i64 t,.int .i64 r,.slice fu (Q++[P]).length fD,.int .i64 W2] 81 false):=by rw[e3]; exact T.af _ _ _
 have n3:h3.nx=h2.nx:=by rw[e3]
 have l3:h3.lo=h2.lo:=by rw[e3]
 have R3:jl a h3 rb rp most v K:=R2.keep f3.nx f3.lo fun c vs ty op hc hg ht=>f3.get c hc (by
  rintro rfl
  rw[hg] at g2
  rcases ht with rfl | ⟨rfl,rfl⟩ | rfl
  ·exact aL (by decide) g2
  ·exact aS g2.symm
  ·exact aL (by decide) g2)
 have p2:=p1.le bt
 have p3:cF h3 rp rl (B.set n true):=p2.keep f3.nx f3.lo (f3.get _ p2.Lw (by rintro rfl; exact aL (by decide) (g2.symm.trans p2.nV))) (f3.get _ p2.FG (by rintro rfl; exact aL (by decide) (g2.symm.trans p2.gP)))
 have og:iV h1 h3 (.slice fu (Q++[P]).length fD) (Q++[P]):=by rw[e3]; exact dh.put mo (by rw[g2]; exact aS) _
 have c3:=R3.cell
 simp(disch:=first|omega|simp only[Wd]<;>omega|rfl)only[Wz,ef,g2,qh,c2]
 obtain ⟨h4,e4⟩:∃h4:Heap,h4=⟨h2.nx+1,(h2.bl.aY pb (aa [.int .i64 t,.int .i64 r,.slice fu (Q++[P]).length fD,.int .i64 W2] 81 false)).aY h2.nx (aa [] 81 false),h2.lo⟩:=⟨_,rfl⟩
 have iw:Le h3 h4:=by
  have:h4=⟨h3.nx+1,h3.bl.aY h3.nx (aa [] 81 false),h3.lo⟩:=by rw[e4,e3]
  rw[this]; exact (Le.refl h3).new _
 have n4:h4.nx=h2.nx+1:=by rw[e4]
 have l4:h4.lo=h2.lo:=by rw[e4]
 rw[←e4]
 clear e4 e3
 have acn:jk (fun c=>c=rb∨c=rl∨c=pb) h h3:=((f1.trans (jk.of_le (S:=fun c=>c=rl) bt) fun c _ x=>x).mono fun c _ x=>.inr (.inl x)).trans f3 fun c _ x=>.inr (.inr x)
 have R4:=R3.le iw
 rw[qj cg (by decide) R4.own R4.emp i acm]
 have hf:=sH cg R4.own i acm
 refine fP (enc:=fH) (a:=h4) (L:=[]) (M:=K.take i) cg gO (by decide) (by decide) (.inl ⟨rfl,.inr ⟨_,_,rfl⟩⟩) (fun _=>.inr ⟨_,_,rfl⟩) hf (Le.refl _) (by simp; omega) (by omega) _ ?_
 intro v5 h5 tL em5 ji _
 rw[List.nil_append] at tL em5
 have n5:=ji.nx
 have l5:=ji.lo
 have g5:=((iw.trans ji).get pb (by omega)).trans g3
 simp(disch:=first|omega|simp only[Wd]<;>omega|rfl)only[Wz,g5]
 obtain ⟨h6,KP⟩:∃h6:Heap,h6=⟨h5.nx+1,(h5.bl.aY (h5.nx) (aa [.int .i64 t,.int .i64 r,.slice fu (Q++[P]).length fD,.int .i64 W2] 81 false)),h5.lo⟩:=⟨_,rfl⟩
 have TQ:Le h5 h6:=by subst KP; exact ((Le.refl h5).new _)
 have g6:h6.bl.get (h5.nx)=some (aa [.int .i64 t,.int .i64 r,.slice fu (Q++[P]).length fD,.int .i64 W2] 81 false):=by subst KP; exact T.af _ _ _
 have amb:h6.nx=h5.nx+1:=by subst KP; rfl
 have amc:h6.lo=h5.lo:=by subst KP; rfl
 rw[←KP]
 clear KP
 have hone:Sl fH h6 (.slice (some ⟨h5.nx,0,none⟩) 1 1) [⟨t,r,0,0,.slice fu (Q++[P]).length fD,W2,Q++[P]⟩]:=Sl.new (L:=[(⟨t,r,0,0,.slice fu (Q++[P]).length fD,W2,Q++[P]⟩:HE)]) (e:=81) (op:=false) (by omega) g6 _
 refine fP (enc:=fH) (a:=h4) (L:=K.take i) (M:=[⟨t,r,0,0,.slice fu (Q++[P]).length fD,W2,Q++[P]⟩]) cg gO (by decide) (by decide) (tL.le TQ) em5 hone (ji.trans TQ) (by simp; omega) (by omega) _ ?_
 intro v7 h7 Oe em7 Ao _
 have n7:=Ao.nx
 have l7:=Ao.lo
 have R7:=R4.le Ao
 have c7:=R7.cell
 obtain ⟨u,hu,eu⟩:=R7.own.tail cg (by decide) i' hil
 have ei:(i:Int)+1=((i+1:Nat):Int):=by omega
 refine ⟨fun l h'=>slot l 3=.int .i64 (i':Int)∧HQ h7 h',?_,?_⟩
 ·rcases hi' with ⟨rfl,rfl⟩ | ⟨rfl,rfl⟩
  ·simp(disch:=first|omega|simp only[Wd]<;>omega|rfl)only[Wz,ei]
   exact ⟨trivial,rfl⟩
  ·simp(disch:=first|omega|simp only[Wd]<;>omega|rfl)only[Wz]
   exact ⟨trivial,rfl⟩
 rintro l h' ⟨s3,hQ⟩
 cases (show h7=h' from hQ)
 simp(disch:=first|omega|simp only[Wd]<;>omega|rfl)only[Wz,IQ,aJ,c7,s3,eu]
 refine fP (enc:=fH) (a:=h4) (L:=K.take i++[⟨t,r,0,0,.slice fu (Q++[P]).length fD,W2,Q++[P]⟩]) (M:=K.drop i') cg gO (by decide) (by decide) Oe em7 hu Ao (by simp; omega) (by omega) _ ?_
 intro v8 h8 PO TT OF _
 have n8:=OF.nx
 have l8:=OF.lo
 have R8:=R4.le OF
 have c8:=R8.cell
 obtain ⟨x8,y8,z8,rfl⟩:∃x y z,v8=.slice x y z:=by obtain ⟨x,z,e,_⟩:=PO.sl; exact ⟨_,_,_,e⟩
 simp(disch:=first|omega|simp only[Wd]<;>omega|rfl)only[Wz,aJ,c8]
 have eL:K.take i++[⟨t,r,0,0,.slice fu (Q++[P]).length fD,W2,Q++[P]⟩]++K.drop i'=K.take i++⟨t,r,0,0,.slice fu (Q++[P]).length fD,W2,Q++[P]⟩::K.drop i':=by simp
 rw[eL] at PO TT
 have hqs:∀k'∈K.take i++⟨t,r,0,0,.slice fu (Q++[P]).length fD,W2,Q++[P]⟩::K.drop i',iV a h8 k'.q k'.Q:=by
  intro k' hk'
  rcases List.mem_append.1 hk' with hk' | hk'
  ·exact R8.qv k' (List.mem_of_mem_take hk')
  ·rcases List.mem_cons.1 hk' with rfl | hk'
   ·exact dh.base ((og.le iw).le OF) (by omega)
   ·exact R8.qv k' (List.mem_of_mem_drop hk')
 have GX:=iw.trans OF
 have p8:=p3.le GX
 refine hkn _ _ _ hb GI (R8.ach (dh.base PO (by omega)) TT hqs) (p8.keep (Nat.le_refl _) rfl (T.ai _ _ ?_) (T.ai _ _ ?_)) ((acn.trans (jk.of_le (S:=fun c=>c=rb∨c=rl∨c=pb) GX) fun c _ x=>x).trans (jk.one (S:=fun c=>c=rb∨c=rl∨c=pb) (.inl rfl) _) fun c _ x=>x) (mh.own PO (by omega))
 ·rintro rfl; exact aL (by decide) (c8.symm.trans p8.nV)
 ·exact hnr
end
theorem qL.uniq {M:List HE} {B:List Bool} (i:qL M B) {e e':HE} (he:e∈M) (he':e'∈M) {p p':R5} (hp:p∈e.Q) (hp':p'∈e'.Q) (h:p.id=p'.id):e=e':=by
 obtain ⟨X,hX⟩:=i
 have hnd:=(List.nodup_append.1 ((hX.nodup_iff).2 (rC B))).1
 unfold fN at hnd
 rw[List.Nodup,List.pairwise_flatMap] at hnd
 obtain ⟨i,hi⟩:=List.getElem?_of_mem he
 obtain ⟨j,hj⟩:=List.getElem?_of_mem he'
 have G:=cZ.1 hnd.2
 rcases Nat.lt_trichotomy i j with hl | hl | hl
 ·exact absurd h (G i j e e' hl hi hj _ (List.mem_map.2 ⟨p,hp,rfl⟩) _ (List.mem_map.2 ⟨p',hp',rfl⟩))
 ·subst hl; rw[hi] at hj; exact Option.some.inj hj
 ·exact absurd h.symm (G j i e' e hl hj hi _ (List.mem_map.2 ⟨p',hp',rfl⟩) _ (List.mem_map.2 ⟨p,hp,rfl⟩))
section
variable {h h':Heap} {bb bm bp bl most cap N:Nat} {M M' K:List HE} {clock clock':Nat} {F F':List Int} {B B':List Bool}
end
section
variable {a h:Heap} {rb rp rl most:Nat} {v:Value} {K:List HE} {B:List Bool}
theorem JC {β:Type} {fl:β} (t r:Int) (κ:List Value→β):bC fl [(0,2)] [.agg ⟨[.int .i64 t,.int .i64 r]⟩] [.int .i64 0,.int .i64 0,.slice none 0 0,.int .i64 0] κ=κ [.int .i64 t,.int .i64 r,.slice none 0 0,.int .i64 0]:=id rfl
theorem Rt (R:jl a h rb rp most v K) (p:cF h rp rl B) (hlo:h.lo≤h.nx) (la:a.nx≤h.nx) (hl:K.length≤1000) (gd:∀k∈K,kR k) (qN:(K.map bB).Pairwise fO) (hw:∀k∈K,k.w≤100000)
  (ids:∀k∈K,∀p∈k.Q,∃n:Nat,p.id=(n:Int)∧B[n]? = some true) (t r x m:Int) (κ:KQ)
  (hk2:∀h',aZ m=false→Le h h'→κ (.tuple ⟨[.int .i64 0,.bool false,.int .i64 2]⟩) h')
  (Me:∀h' k p,aZ m=true→k∈K→t=k.t→r=k.r→p∈k.Q→p.x=x→Le h h'→κ (.tuple ⟨[.int .i64 0,.bool false,.int .i64 4]⟩) h')
  (GK:∀h',aZ m=true→(∀k∈K,t=k.t→r=k.r→∀p∈k.Q,p.x≠x)→(B.length≤(di B).length∨((∀k∈K,¬(t=k.t∧r=k.r))∧most≤K.length))→Le h h'→κ (.tuple ⟨[.int .i64 0,.bool false,.int .i64 8]⟩) h')
  (Cz:∀(n i:Nat) k q' v' h',aZ m=true→(∀k∈K,t=k.t→r=k.r→∀p∈k.Q,p.x≠x)→B[n]? = some false→(∀k,k<n→B[k]? = some true)→K[i]? = some k→k.t=t→k.r=r→
   jl a h' rb rp most v' (K.set i ⟨t,r,0,0,q',(dI k.Q k.w n x m).2.1,k.Q++[(dI k.Q k.w n x m).1]⟩)→cF h' rp rl (B.set n true)→jk (SK rb rl v) h h'→mh h v v'→κ (.tuple ⟨[.int .i64 (n:Int),.bool (dI k.Q k.w n x m).2.2,.int .i64 0]⟩) h')
  (hkN:∀(n i:Nat) q' v' h',aZ m=true→(∀k∈K,¬(t=k.t∧r=k.r))→K.length<most→B[n]? = some false→(∀k,k<n→B[k]? = some true)→(∀(j:Nat) (k:HE),j<i→K[j]? = some k→fO (bB k) (t,r))→(∀(j:Nat) (k:HE),i≤j→K[j]? = some k→fO (t,r) (bB k))→
   jl a h' rb rp most v' (K.take i++⟨t,r,0,0,q',(dI [] 0 n x m).2.1,[]++[(dI [] 0 n x m).1]⟩::K.drop i)→cF h' rp rl (B.set n true)→jk (SK rb rl v) h h'→mh h v v'→κ (.tuple ⟨[.int .i64 (n:Int),.bool (dI [] 0 n x m).2.2,.int .i64 0]⟩) h') :
  CallW Tryz.prog 52 [.pointer (some ⟨rb,0,none⟩),dn t r,.int .i64 x,.int .i64 m] h κ:=by
 have hrb:=R.lt
 have amd:=p.FG
 refine an mixed ?_
 rw[ZZ]
 simp(disch:=first|omega|simp only[Wd]<;>omega|rfl)only[Wz,dn]
 obtain ⟨hA,az⟩:∃hA:Heap,hA=⟨h.nx+1,(h.bl.aY (h.nx) (aa [.int .i64 t,.int .i64 r] 36 false)),h.lo⟩:=⟨_,rfl⟩
 have aK:Le h hA:=by subst az; exact ((Le.refl h).new _)
 have g1:hA.bl.get (h.nx)=some (aa [.int .i64 t,.int .i64 r] 36 false):=by subst az; exact T.af _ _ _
 have d_:hA.nx=h.nx+1:=by subst az; rfl
 have ee:hA.lo=h.lo:=by subst az; rfl
 rw[←az]
 clear az
 have RA:=R.le aK
 have pA:=p.le aK
 by_cases am:aZ m=true
 case neg=>
  have GY:aZ m=false:=by simpa using am
  by_cases h0:m=0
  ·simp(disch:=first|omega|simp only[Wd]<;>omega|rfl)only[Wz,a_ h0]
   exact hk2 _ GY aK
  ·simp(disch:=first|omega|simp only[Wd]<;>omega|rfl)only[Wz,aN h0]
   refine oW m ?_
   have:kn m=false:=by
    have:aZ m=kn m:=by unfold aZ; simp[h0]
    rw[←this]; exact GY
   rw[this]
   simp(disch:=first|omega|simp only[Wd]<;>omega|rfl)only[Wz]
   exact hk2 _ GY aK
 obtain ⟨m0,km⟩:=(cu m).1 am
 simp(disch:=first|omega|simp only[Wd]<;>omega|rfl)only[Wz,aN m0]
 refine oW m ?_
 rw[km]
 simp(disch:=first|omega|simp only[Wd]<;>omega|rfl)only[Wz,IT,g1]
 refine E4 RA (by omega) hl gd qN t r x _ ?_ ?_
 case refine_2=>
  intro h1 k p0 hk ht hr W1 hx bA
  simp(disch:=first|omega|simp only[Wd]<;>omega|rfl)only[Wz]
  exact Me h1 k p0 am hk ht hr W1 hx (aK.trans bA)
 intro h1 hno bA
 have Aq:=bA.nx
 have Ar:=bA.lo
 have g1:=(bA.get _ (by omega)).trans g1
 have R1:=RA.le bA
 simp(disch:=first|omega|simp only[Wd]<;>omega|rfl)only[Wz,IS,g1]
 refine E3 R1 (by omega) hl t r _ ?_ ?_
 ·intro i h2 hi hb1 hb2 bt
  have kT:=bt.nx
  have kU:=bt.lo
  have g1:=(bt.get _ (by omega)).trans g1
  have eN:=(aK.trans bA).trans bt
  have R2:=R.le eN
  have p2:=p.le eN
  have c2:=R2.cell
  have hlen:∀(β:Type) (fl:β) (h':Heap) (κ:Value→Heap→β),br fl v h' κ=κ (.int .i64 (K.length:Int)) h':=fun β fl h' κ=>R2.own.sl.len κ h'
  have hall:∀(j:Nat) (k:HE),i≤j→K[j]? = some k→fO (t,r) (bB k):=by
   intro j k hj hkj
   have hil:i<K.length:=by have:=(List.getElem?_eq_some_iff.1 hkj).1; omega
   obtain ⟨k0,ig⟩:∃k0,K[i]? = some k0:=⟨_,List.getElem?_eq_getElem hil⟩
   have h0:=hb2 k0 ig
   by_cases e:i=j
   ·subst e; rw[ig] at hkj; cases hkj; exact h0
   ·have G:=cZ.1 qN
    exact mR h0 (G i j _ _ (by omega) (by rw[List.getElem?_map,ig]; rfl) (by rw[List.getElem?_map,hkj]; rfl))
  have Ub:∀k∈K,¬(t=k.t∧r=k.r):=by
   rintro k hk ⟨e1,e2⟩
   obtain ⟨j,hj⟩:=List.getElem?_of_mem hk
   by_cases hji:j<i
   ·have:=hb1 j k hji hj
    unfold fO bB at this
    simp only at this
    omega
   ·have:=hall j k (by omega) hj
    unfold fO bB at this
    simp only at this
    omega
  by_cases hfull:most≤K.length
  ·simp(disch:=first|omega|simp only[Wd]<;>omega|rfl)only[Wz,aJ,c2,hlen,a_ (show (most:Int)≤(K.length:Int) by omega)]
   exact GK h2 am hno (.inr ⟨Ub,hfull⟩) eN
  simp(disch:=first|omega|simp only[Wd]<;>omega|rfl)only[Wz,aJ,c2,hlen,aN (show ¬(most:Int)≤(K.length:Int) by omega)]
  refine Jy p2 (by omega) _ ?_
  intro h3 c9
  have TK:=c9.nx
  have TL:=c9.lo
  have g1:=(c9.get _ (by omega)).trans g1
  have lg:=eN.trans c9
  have R3:=R.le lg
  have p3:=p.le lg
  have c3:=R3.cell
  simp(disch:=first|omega|simp only[Wd]<;>omega|rfl)only[Wz,aJ,c3]
  refine Jz p3 _ ?_
  by_cases hroom:B.length≤(di B).length
  ·simp(disch:=first|omega|simp only[Wd]<;>omega|rfl)only[Wz,a_ (show (B.length:Int)≤((di B).length:Int) by omega)]
   exact GK h3 am hno (.inl hroom) lg
  simp(disch:=first|omega|simp only[Wd]<;>omega|rfl)only[Wz,aN (show ¬(B.length:Int)≤((di B).length:Int) by omega),BB,g1,JC]
  obtain ⟨hB,bK⟩:∃hB:Heap,hB=⟨h3.nx+1,(h3.bl.aY (h3.nx) (aa [.int .i64 t,.int .i64 r,.slice none 0 0,.int .i64 0] 81 false)),h3.lo⟩:=⟨_,rfl⟩
  have bG:Le h3 hB:=by subst bK; exact ((Le.refl h3).new _)
  have gp:hB.bl.get (h3.nx)=some (aa [.int .i64 t,.int .i64 r,.slice none 0 0,.int .i64 0] 81 false):=by subst bK; exact T.af _ _ _
  have rz:hB.nx=h3.nx+1:=by subst bK; rfl
  have rA:hB.lo=h3.lo:=by subst bK; rfl
  rw[←bK]
  clear bK
  have EY:=lg.trans bG
  have RB:=R.le EY
  have pB:=p.le EY
  refine ⟨fun l h'=>HQ hB h',rfl,?_⟩
  rintro l h' hQ
  cases (show hB=h' from hQ)
  refine JB RB pB (by omega) (by omega) hl t r x m am (q:=.slice none 0 0) (w:=0) (Q:=[]) ⟨⟨none,0,rfl,fun e=>absurd rfl e⟩,fun b o n c hv=>by cases hv⟩ (by simp) (by omega) (fun n _ o ho=>(nomatch ho)) (pb:=h3.nx) (by omega) (by omega) gp (by omega) i i false (.inr ⟨rfl,rfl⟩) hi κ ?_
  intro n q' v' h' hb xW R' p' f' nb'
  refine hkN n i q' v' h' am Ub (by omega) hb xW hb1 hall R' p' ((jk.of_le EY).trans f' ?_) (nb'.up (by omega))
  rintro c hc (e | e | e)
  ·exact .inl e
  ·exact .inr (.inl e)
  ·omega
 ·intro i k h2 hk ht hr bt
  have kT:=bt.nx
  have kU:=bt.lo
  have g1:=(bt.get _ (by omega)).trans g1
  have eN:=(aK.trans bA).trans bt
  have R2:=R.le eN
  have p2:=p.le eN
  have c2:=R2.cell
  have uE:=List.mem_of_getElem? hk
  have hil:=(List.getElem?_eq_some_iff.1 hk).1
  simp(disch:=first|omega|simp only[Wd]<;>omega|rfl)only[Wz,aJ,c2]
  refine Jy p2 (by omega) _ ?_
  intro h3 c9
  have TK:=c9.nx
  have TL:=c9.lo
  have g1:=(c9.get _ (by omega)).trans g1
  have lg:=eN.trans c9
  have R3:=R.le lg
  have p3:=p.le lg
  have c3:=R3.cell
  simp(disch:=first|omega|simp only[Wd]<;>omega|rfl)only[Wz,aJ,c3]
  refine Jz p3 _ ?_
  by_cases hroom:B.length≤(di B).length
  ·simp(disch:=first|omega|simp only[Wd]<;>omega|rfl)only[Wz,a_ (show (B.length:Int)≤((di B).length:Int) by omega)]
   exact GK h3 am hno (.inl hroom) lg
  simp(disch:=first|omega|simp only[Wd]<;>omega|rfl)only[Wz,aN (show ¬(B.length:Int)≤((di B).length:Int) by omega),BB,g1,JC]
  obtain ⟨hB,bK⟩:∃hB:Heap,hB=⟨h3.nx+1,(h3.bl.aY (h3.nx) (aa [.int .i64 t,.int .i64 r,.slice none 0 0,.int .i64 0] 81 false)),h3.lo⟩:=⟨_,rfl⟩
  have bG:Le h3 hB:=by subst bK; exact ((Le.refl h3).new _)
  have gp:hB.bl.get (h3.nx)=some (aa [.int .i64 t,.int .i64 r,.slice none 0 0,.int .i64 0] 81 false):=by subst bK; exact T.af _ _ _
  have rz:hB.nx=h3.nx+1:=by subst bK; rfl
  have rA:hB.lo=h3.lo:=by subst bK; rfl
  rw[←bK]
  clear bK
  have EY:=lg.trans bG
  have RB:=R.le EY
  have cB:=RB.cell
  obtain ⟨b,o,hb,fJ,eX⟩:=RB.ld i hk
  have L1:=eX hB (Le.refl _)
  obtain ⟨hC,eC⟩:∃hC:Heap,hC=⟨hB.nx,hB.bl.aY h3.nx (aa [.int .i64 k.t,.int .i64 k.r,k.q,.int .i64 k.w] 81 false),hB.lo⟩:=⟨_,rfl⟩
  have agX:Le h3 hC:=by rw[eC]; exact bG.set (b:=h3.nx) (Nat.le_refl _) _
  have KH:=lg.trans agX
  have gC:hC.bl.get h3.nx=some (aa [.int .i64 t,.int .i64 r,k.q,.int .i64 k.w] 81 false):=by rw[eC,ht,hr]; exact T.af _ _ _
  have nC:hC.nx=h3.nx+1:=by rw[eC]; exact rz
  have lC:hC.lo=h3.lo:=by rw[eC]; exact rA
  have RC:=R.le KH
  have pC:=p.le KH
  have gdk:=gd k uE
  have YA:=RC.qv k uE
  refine ⟨fun l h'=>HQ hC h',?_,?_⟩
  ·obtain ⟨qx,qc,eq,_⟩:=YA.sl
   simp only[eq] at L1
   simp(disch:=first|omega|simp only[Wd]<;>omega|rfl)only[Wz,IP,aJ,cB,fJ,L1,gp]
   rw[eC,eq]; exact rfl
  rintro l h' hQ
  cases (show hC=h' from hQ)
  have Cv:=gdk.small
  have hwk:=hw k uE
  refine JB RC pC (by omega) (by omega) hl t r x m am (q:=k.q) (w:=k.w) (Q:=k.Q) (QV.own YA) (by omega) ⟨gdk.vq.w0,hwk⟩ (fun n hb o ho=>⟨fun e=>?_,hno k uE ht.symm hr.symm o ho⟩) (pb:=h3.nx) (by omega) (by omega) gC (by omega) i (i+1) true (.inl ⟨rfl,rfl⟩) hil κ ?_
  ·obtain ⟨n',e1,e2⟩:=ids k uE o ho
   have:n'=n:=by omega
   subst this
   rw[hb] at e2; cases e2
  intro n q' v' h' hb xW R' p' f' nb'
  refine Cz n i k q' v' h' am hno hb xW hk ht hr ?_ p' ((jk.of_le KH).trans f' ?_) (nb'.up (by omega))
  ·rw[List.set_eq_take_append_cons_drop,if_pos hil]
   exact R'
  ·rintro c hc (e | e | e)
   ·exact .inl e
   ·exact .inr (.inl e)
   ·omega
end
theorem OG (most:Nat) (h:Heap) (κ:KQ) (hm:most≤128) (hlo:h.lo≤h.nx)
  (hk:∀rp rl h',cF h' rp rl (List.replicate most false)→h.nx≤rp→h.nx≤rl→Le h h'→κ (.tuple ⟨[.pointer (some ⟨rp,0,none⟩),.int .i64 0]⟩) h') :
  CallW Tryz.prog 37 [.int .i64 (most:Int)] h κ:=by
 refine an mixed ?_
 rw[ZG]
 simp(disch:=first|omega|simp only[Wd]<;>omega|rfl)only[Wz,bP (show (0:Int)≤(most:Int) by omega),bP (show (most:Int)≤128 by omega)]
 have hrl:(aU [Value.bool false] most).length=most:=by rw[lN]; simp
 rw[vp _ _ _ _ _ (by omega) (by omega),lN]
 simp(disch:=first|omega|simp only[Wd]<;>omega|rfl)only[Wz]
 obtain ⟨hA,az⟩:∃hA:Heap,hA=⟨h.nx+1+1,((h.bl.aY (h.nx) (aa ((List.replicate most false).map Value.bool) 4 false)).aY (h.nx+1) (aa [.slice (some ⟨h.nx,0,none⟩) most most] 132 false)),h.lo⟩:=⟨_,rfl⟩
 have aK:Le h hA:=by subst az; exact (((Le.refl h).new _).new _)
 have gl:hA.bl.get (h.nx)=some (aa ((List.replicate most false).map Value.bool) 4 false):=by subst az; exact (T.ai _ _ (by omega)).trans (T.af _ _ _)
 have gp:hA.bl.get (h.nx+1)=some (aa [.slice (some ⟨h.nx,0,none⟩) most most] 132 false):=by subst az; exact T.af _ _ _
 have d_:hA.nx=h.nx+1+1:=by subst az; rfl
 have ee:hA.lo=h.lo:=by subst az; rfl
 rw[←az]
 clear az
 exact hk (h.nx+1) h.nx hA ⟨by omega,by omega,by omega,by omega,by rw[List.length_replicate]; exact gp,gl,by rw[List.length_replicate]; exact hm⟩ (by omega) (by omega) aK
theorem acp (h:Heap) (b o:Nat):lT Tryz.prog h 100 85 (.pointer (some ⟨b,o,none⟩)) (.pointer none)=some false:=by kernel_rfl
theorem OH {β:Type} {fl:β} (cn:Bool) (b o:Nat) (h:Heap) (κ:Value→Heap→β):au fl Tryz.prog .eql 85 cn false (.pointer (some ⟨b,o,none⟩)) (.pointer none) h κ=κ (.bool false) h:=by simp only[au,acp,bV]
theorem OI (aF:Int) (rp:Nat) (a h:Heap) (κ:KQ) (hlo:h.lo≤h.nx)
  (ig:(aF<1∨64<aF)→κ (.tuple ⟨[.pointer none,.int .i64 2]⟩) h)
  (hk:∀rb h' (n:Nat),aF=(n:Int)→1≤n∧n≤64→jl a h' rb rp n (.slice none 0 0) []→h.nx≤rb→Le h h'→κ (.tuple ⟨[.pointer (some ⟨rb,0,none⟩),.int .i64 0]⟩) h') :
  CallW Tryz.prog 38 [.int .i64 aF,.pointer (some ⟨rp,0,none⟩)] h κ:=by
 refine an mixed ?_
 rw[ZH]
 by_cases h1:aF<1
 ·simp(disch:=first|omega|simp only[Wd]<;>omega|rfl)only[Wz,a_ h1]
  exact ig (.inl h1)
 by_cases h2:64<aF
 ·simp(disch:=first|omega|simp only[Wd]<;>omega|rfl)only[Wz,aN h1,a_ h2]
  exact ig (.inr h2)
 obtain ⟨n,rfl⟩:∃n:Nat,aF=(n:Int):=⟨aF.toNat,by omega⟩
 simp(disch:=first|omega|simp only[Wd]<;>omega|rfl)only[Wz,aN h1,aN h2,OH]
 obtain ⟨hA,az⟩:∃hA:Heap,hA=⟨h.nx+1,(h.bl.aY (h.nx) (aa [.int .i64 (n:Int),.pointer (some ⟨rp,0,none⟩),.slice none 0 0] 134 false)),h.lo⟩:=⟨_,rfl⟩
 have aK:Le h hA:=by subst az; exact ((Le.refl h).new _)
 have gb:hA.bl.get (h.nx)=some (aa [.int .i64 (n:Int),.pointer (some ⟨rp,0,none⟩),.slice none 0 0] 134 false):=by subst az; exact T.af _ _ _
 have d_:hA.nx=h.nx+1:=by subst az; rfl
 have ee:hA.lo=h.lo:=by subst az; rfl
 rw[←az]
 clear az
 exact hk h.nx hA n rfl (by omega) ⟨by omega,by omega,gb,.inl ⟨rfl,.inl rfl⟩,fun _=>.inl rfl,fun k hk=>(nomatch hk)⟩ (Nat.le_refl _) aK
def gE (e:HE):Int × Int × Int × List R5:=(e.t,e.r,e.w,e.Q)
theorem Aw {a b:HE} (h:gE a=gE b):Au a b:=by
 unfold gE at h
 obtain ⟨h1,h2,h3,h4⟩:a.t=b.t∧a.r=b.r∧a.w=b.w∧a.Q=b.Q:=by simpa using h
 exact ⟨h1,h2,h3,h4⟩
section
variable {a h:Heap} {rb rp rl most:Nat} {v:Value} {K:List HE} {B:List Bool}
theorem OJ (R:jl a h rb rp most v K) (hlo:h.lo≤h.nx) (hl:K.length≤1000) (hqs:∀k∈K,k.Q.length≤1000) (κ:KQ)
  (hk:∀v1 h' K',K'.map gE=K.map gE→(∀k∈K',QV h' k.q k.Q)→sI h h' v1 K'→Le h h'→κ v1 h') :
  CallW Tryz.prog 93 [.pointer (some ⟨rb,0,none⟩)] h κ:=by
 refine an mixed ?_
 rw[aaF]
 refine ⟨fun m l h2=>∃(i:Nat) (K1:List HE),slot l 27=.int .i64 (i:Int)∧m=K.length-i∧i≤K.length∧K1.map gE=(K.take i).map gE∧(∀k∈K1,QV h2 k.q k.Q)∧sI h h2 (slot l 24) K1∧Le h h2,
  ⟨_,0,[],rfl,rfl,by omega,rfl,fun k hk=>(nomatch hk),.inl ⟨rfl,.inl rfl⟩,Le.refl _⟩,?_⟩
 rintro m l h2 ⟨i,K1,s1,rfl,hi,hK,hQ,Kt,bt⟩
 have n2:=bt.nx
 have l2:=bt.lo
 have R2:=R.le bt
 have c2:=R2.cell
 have hlen:∀(β:Type) (fl:β) (h':Heap) (κ:Value→Heap→β),br fl v h' κ=κ (.int .i64 (K.length:Int)) h':=fun β fl h' κ=>R2.own.sl.len κ h'
 have Jk:K1.length=i:=by have:=congrArg List.length hK; simp at this; omega
 by_cases hst:i<K.length
 ·obtain ⟨k,ig⟩:∃k,K[i]? = some k:=⟨_,List.getElem?_eq_getElem hst⟩
  have uE:=List.mem_of_getElem? ig
  obtain ⟨b,o,hb,fJ,eX⟩:=R2.ld i ig
  have L1:=eX h2 (Le.refl _)
  have hqk:=(R2.qv k uE).sl
  have hql:=hqs k uE
  obtain ⟨qx,qc,eq,_⟩:=(show Sl bq h2 k.q k.Q from hqk)
  simp only[eq] at L1
  rw[eq] at hqk
  simp(disch:=first|omega|simp only[Wd]<;>omega|rfl)only[Wz,BW,aJ,c2,hlen,s1,cq (show (i:Int)<(K.length:Int) by omega),Jg,fJ,L1,qh]
  obtain ⟨hB,bK⟩:∃hB:Heap,hB=⟨h2.nx+1+1,((h2.bl.aY (h2.nx) (aa [.int .i64 k.t,.int .i64 k.r,.slice qx k.Q.length qc,.int .i64 k.w] 81 false)).aY (h2.nx+1) (aa [] 83 false)),h2.lo⟩:=⟨_,rfl⟩
  have bG:Le h2 hB:=by subst bK; exact (((Le.refl h2).new _).new _)
  have gd:hB.bl.get (h2.nx)=some (aa [.int .i64 k.t,.int .i64 k.r,.slice qx k.Q.length qc,.int .i64 k.w] 81 false):=by subst bK; exact (T.ai _ _ (by omega)).trans (T.af _ _ _)
  have ge:hB.bl.get (h2.nx+1)=some (aa [] 83 false):=by subst bK; exact T.af _ _ _
  have rz:hB.nx=h2.nx+1+1:=by subst bK; rfl
  have rA:hB.lo=h2.lo:=by subst bK; rfl
  rw[←bK]
  clear bK
  refine fP (enc:=bq) (a:=hB) (L:=[]) (M:=k.Q) bz jG (by decide) (by decide) (.inl ⟨rfl,.inr ⟨_,_,rfl⟩⟩) (fun _=>.inr ⟨_,_,rfl⟩) (hqk.le bG) (Le.refl _) (by simp; omega) (by omega) _ ?_
  intro q3 h3 og em3 c9 _
  rw[List.nil_append] at og
  have n3:=c9.nx
  have l3:=c9.lo
  have gd:=(c9.get _ (by omega)).trans gd
  obtain ⟨vB,vC,rfl,_⟩:=(show Sl bq h3 q3 k.Q from og.sl)
  simp(disch:=first|omega|simp only[Wd]<;>omega|rfl)only[Wz,gd]
  obtain ⟨h4,e4⟩:∃h4:Heap,h4=⟨h3.nx+1,(h3.bl.aY h2.nx (aa [.int .i64 k.t,.int .i64 k.r,.slice vB k.Q.length vC,.int .i64 k.w] 81 false)).aY h3.nx (aa [.int .i64 k.t,.int .i64 k.r,.slice vB k.Q.length vC,.int .i64 k.w] 81 false),h3.lo⟩:=⟨_,rfl⟩
  have iw:Le h2 h4:=by rw[e4]; exact ((bG.trans c9).set (b:=h2.nx) (by omega) _).new _
  have g4:h4.bl.get h3.nx=some (aa ([(⟨k.t,k.r,0,0,.slice vB k.Q.length vC,k.w,k.Q⟩:HE)].flatMap fH) 81 false):=by rw[e4]; exact T.af _ _ _
  have n4:h4.nx=h3.nx+1:=by rw[e4]
  have l4:h4.lo=h3.lo:=by rw[e4]
  have hq4:QV h4 (.slice vB k.Q.length vC) k.Q:=by
   rw[e4]
   exact ((QV.own og).put (fun vs op=>by rw[gd]; exact aL (by decide)) _).le ((Le.refl _).new _)
  try rw[←e4]
  clear e4
  refine cV (enc:=fH) (a:=h) (L:=K1) (M:=[(⟨k.t,k.r,0,0,.slice vB k.Q.length vC,k.w,k.Q⟩:HE)]) cg gO (by decide) (by decide) (Kt.le iw) (Sl.new (by omega) g4 _) (bt.trans iw) (by simp; omega) (by omega) _ ?_
  intro v5 h5 tL ji _ n5 l5 nU
  have FF:∀c vs op,c<h4.nx→h4.bl.get c=some (aa vs 83 op)→h5.bl.get c=h4.bl.get c:=fun c vs op hc hg=>nU c hc (by rw[hg]; exact aL (by decide))
  refine ⟨_,by omega,i+1,K1++[⟨k.t,k.r,0,0,.slice vB k.Q.length vC,k.w,k.Q⟩],rfl,rfl,by omega,?_,?_,tL,ji⟩
  ·rw[List.map_append,hK,List.take_add_one,ig,List.map_append]
   rfl
  ·intro k' hk'
   rcases List.mem_append.1 hk' with hk' | hk'
   ·exact ((hQ k' hk').le iw).frame n5 FF
   ·rw[List.mem_singleton] at hk'; subst hk'
    exact hq4.frame n5 FF
 ·simp(disch:=first|omega|simp only[Wd]<;>omega|rfl)only[Wz,BW,aJ,c2,hlen,s1,bP (show (K.length:Int)≤(i:Int) by omega)]
  have hiD:i=K.length:=by omega
  subst hiD
  rw[List.take_length] at hK
  exact hk _ h2 K1 hK hQ Kt bt
end
theorem ldI {h:Heap} {v:Value} {L:List Int} (hs:Sl cO h v L) (i:Nat) {p:Int} (hp:L[i]? = some p) :
  ∃b o,b<h.nx∧(∀(β:Type) (fl:β) (h':Heap) (κ:Value→Heap→β),aq fl 1 v (.int .i64 (i:Int)) h' κ=κ (.pointer (some ⟨b,o,none⟩)) h')∧
   (∀(β:Type) (fl:β) (κ:Value→β),sV fl (h.bl.get b) o κ=κ (.int .i64 p)):=by
 obtain ⟨b,o,h1,h2,h3,hh⟩:=hs.ld bW i hp
 exact ⟨b,o,h1,h2,fun β fl κ=>e8 (fl:=fl) hh 0 κ (by show 0<1; omega)⟩
section
variable {a0 h:Heap} {bb bm bp bl most cap N:Nat} {M:List HE} {clock:Nat} {F:List Int} {B:List Bool} {rb rp rl:Nat} {v:Value} {K:List HE}
end
def Ch (M:List HE) (t r x id:Int) (b:Bool):Prop:=(b=true∧∃e∈M,t=e.t∧r=e.r∧∃p∈e.Q,p.x=x∧p.id=id)∨(b=false∧id=0∧∀e∈M,t=e.t→r=e.r→∀p∈e.Q,p.x≠x)
theorem Ru {h:Heap} {bb bm bp bl most:Nat} {M:List HE} {clock:Nat} {F:List Int} {B:List Bool} (s:bh h bb bm bp bl most M clock F B) (hlo:h.lo≤h.nx) (t r x:Int) (κ:KQ)
  (hk:∀h' id b,Ch M t r x id b→Le h h'→κ (.tuple ⟨[.int .i64 id,.bool b]⟩) h') :
  CallW Tryz.prog 250 [.pointer (some ⟨bb,0,none⟩),dn t r,.int .i64 x] h κ:=by
 refine EI s hlo t r x _ ?_ ?_
 ·intro h' hn l; exact hk h' 0 false (.inr ⟨rfl,rfl,hn⟩) l
 ·intro h' e p he ht hr hp hx l; exact hk h' _ true (.inl ⟨rfl,e,he,ht,hr,p,hp,hx,rfl⟩) l
section
variable {a0 h:Heap} {bb bm bp bl most cap N:Nat} {M:List HE} {clock:Nat} {F:List Int} {B:List Bool} {rb rp rl:Nat} {v:Value} {K:List HE}
theorem OK {most:Nat} (R:jl a0 h rb rp most v K) (hlo:h.lo≤h.nx) (hl:K.length≤1000) (gd:∀k∈K,kR k) (qN:(K.map bB).Pairwise fO) (t r x:Int) (κ:KQ)
  (hk:∀h' id b,Ch K t r x id b→Le h h'→κ (.tuple ⟨[.int .i64 id,.bool b]⟩) h') :
  CallW Tryz.prog 47 [.pointer (some ⟨rb,0,none⟩),dn t r,.int .i64 x] h κ:=by
 refine E4 R hlo hl gd qN t r x _ ?_ ?_
 ·intro h' hn l; exact hk h' 0 false (.inr ⟨rfl,rfl,hn⟩) l
 ·intro h' e p he ht hr hp hx l; exact hk h' _ true (.inl ⟨rfl,e,he,ht,hr,p,hp,hx,rfl⟩) l
end
end Go.Proofs

namespace Go.Vai
open Go
section
variable {β:Type} {fl:β}
theorem lR (P:Program) (t:TypeId) (cn gd:Bool) (a b:ByteArray) (h:Heap) (κ:Value→Heap→β) (hs:a.size+b.size≤9223372036854775807):au fl P .add t cn gd (.string a) (.string b) h κ=κ (.string (a++b)) h:=by
 have e:Nat.ble (Nat.add a.size b.size) 9223372036854775807=true:=Nat.ble_eq_true_of_le hs
 simp only[au]
 rw[e]
theorem Ax (P:Program) (t:TypeId) (cn gd:Bool) (a b:Int) (h:Heap) (κ:Value→Heap→β):au fl P .xor t cn gd (.int .u32 a) (.int .u32 b) h κ=κ (.int .u32 (IntKind.u32.wrap ((BitVec.ofInt IntKind.u32.bits a ^^^ BitVec.ofInt IntKind.u32.bits b).toNat))) h:=by
 simp only[au,iy,mC,gZ,dZ]
theorem Ay (P:Program) (t:TypeId) (cn gd:Bool) (a b:Int) (h:Heap) (κ:Value→Heap→β):au fl P .mul t cn gd (.int .u32 a) (.int .u32 b) h κ=κ (.int .u32 (IntKind.u32.wrap (a*b))) h:=by
 simp only[au,iy,mC,gZ,dZ]; rfl
theorem Az (P:Program) (t:TypeId) (cn gd:Bool) (a b:Int) (h:Heap) (κ:Value→Heap→β) (hb:b≠0):au fl P .rem t cn gd (.int .u32 a) (.int .u32 b) h κ=κ (.int .u32 (Int.tmod a b)) h:=by
 simp only[au,iy,mC,gZ,ga,hb,decide_false]
theorem sK (k:IntKind) (a:Int) (h:Heap) (κ:Value→Heap→β):jb fl .u32 (.int k a) h κ=κ (.int .u32 (IntKind.u32.wrap a)) h:=by simp only[jb,gZ,dZ]
theorem Ci (a:Int):0≤IntKind.u32.wrap a∧IntKind.u32.wrap a<4294967296:=by
 unfold IntKind.wrap
 simp only[IntKind.bits,IntKind.signed]
 have h1:=Int.emod_nonneg a (show (2:Int) ^ 32≠0 by decide)
 have h2:=Int.emod_lt_of_pos a (show (0:Int)<2 ^ 32 by decide)
 simp at *
 omega
theorem AA {a:Int} (h:0≤a∧a<4294967296):IntKind.u32.wrap a=a:=by
 unfold IntKind.wrap
 simp only[IntKind.bits,IntKind.signed]
 have:=Int.emod_eq_of_lt h.1 (show a<2 ^ 32 by omega)
 simp at *
 omega
theorem JD (s:ByteArray):k9 8 (.string s) (.string s)=true:=by
 show kr s s=true
 rw[jx]; simp
def yh (s:ByteArray):List Value:=s.data.toList.map fun b:UInt8=>Value.int .u8 (Int.ofNat b.toNat)
theorem GZ {s:ByteArray} {i:Nat} (h:i<s.data.toList.length):(yh s)[i]? = some (.int .u8 (Int.ofNat (s.data.toList[i]).toNat)):=by
 unfold yh; rw[List.getElem?_map,List.getElem?_eq_getElem h]; rfl
theorem E6 (e:TypeId) (s:ByteArray) (h:Heap) (κ:Value→Heap→β) (hs:s.data.toList.length≤1000000000000) :
  ot fl e (.string s) h κ=κ (.slice (some ⟨h.nx,0,none⟩) s.data.toList.length aO) ⟨h.nx+1,h.bl.aY h.nx (Zf (yh s) e),h.lo⟩:=by
 unfold ot
 simp only[zN,u9,Nat.zero_add,List.length_map]
 rw[Nat.ble_eq_true_of_le hs]
 simp only[dV]
 unfold Zf yh
 simp only[List.length_map]
end
end Go.Vai

namespace Go.Proofs
open Go.Vai Go.Clashes
def CA (n:Int):Bool:=decide (0≤n) && decide (n<100)
theorem sL (n:Int) {h:Heap} {κ:Value→Heap→Prop} (hk:κ (.bool (CA n)) h):CallW Tryz.prog 149 [.int .i64 n] h κ:=by
 refine fF (v:=.bool (CA n)) rfl rfl (an mixed ?_) hk
 rw[VJ]
 by_cases h1:n<0
 ·simp(disch:=first|omega|simp only[Wd]<;>omega|rfl)only[Wz,cq h1]; simp[CA]; omega
 ·by_cases h2:n<100
  ·simp(disch:=first|omega|simp only[Wd]<;>omega|rfl)only[Wz,bP (show 0≤n by omega),cq h2]; simp[CA]; omega
  ·simp(disch:=first|omega|simp only[Wd]<;>omega|rfl)only[Wz,bP (show 0≤n by omega),bP (show 100≤n by omega)]; simp[CA]; omega
theorem G0 (h:Heap) (κ:KQ) (hlo:h.lo≤h.nx) (hk:∀h',Le h h'→κ (dn (-1) (-1)) h'):CallW Tryz.prog 148 [] h κ:=by
 refine an mixed ?_
 rw[VI]
 simp(disch:=first|omega|simp only[Wd]<;>omega|rfl)only[Wz]
 exact hk _ ((Le.refl h).new _)
def bM (t r:Int):Int:=if t = -1∧r = -1 then 0 else if CA t=true∧r = -1 then 1 else if CA t=true∧CA r=true then 2 else -1
theorem OL (t r:Int) (h:Heap) (κ:KQ) (hlo:h.lo≤h.nx) (hk:∀h',Le h h'→κ (.int .i64 (bM t r)) h'):CallW Tryz.prog 112 [dn t r] h κ:=by
 refine an mixed ?_
 rw[Vl]
 simp(disch:=first|omega|simp only[Wd]<;>omega|rfl)only[Wz,dn]
 obtain ⟨hA,az⟩:∃hA:Heap,hA=⟨h.nx+1,(h.bl.aY (h.nx) (aa [.int .i64 t,.int .i64 r] 36 false)),h.lo⟩:=⟨_,rfl⟩
 have aK:Le h hA:=by subst az; exact ((Le.refl h).new _)
 have g1:hA.bl.get (h.nx)=some (aa [.int .i64 t,.int .i64 r] 36 false):=by subst az; exact T.af _ _ _
 have d_:hA.nx=h.nx+1:=by subst az; rfl
 have ee:hA.lo=h.lo:=by subst az; rfl
 rw[←az]
 clear az
 refine G0 hA _ (by omega) ?_
 intro h2 bt
 have kT:=bt.nx
 have kU:=bt.lo
 have g1:=(bt.get _ (by omega)).trans g1
 have hk:=hk h2 (aK.trans bt)
 simp(disch:=first|omega|simp only[Wd]<;>omega|rfl)only[Wz,dn,g1,lJ,ql]
 by_cases h0:t = -1∧r = -1
 ·simp(disch:=first|omega|simp only[Wd]<;>omega|rfl)only[Wz,a_ h0]
  have e:bM t r=0:=by simp[bM,h0]
  rw[e] at hk; exact hk
 ·simp(disch:=first|omega|simp only[Wd]<;>omega|rfl)only[Wz,aN h0,DO,g1]
  refine sL t ?_
  cases ht:CA t with
  | false=>
   simp(disch:=first|omega|simp only[Wd]<;>omega|rfl)only[Wz,wZ,g1]
   refine sL t ?_
   rw[ht]
   have e:bM t r = -1:=by unfold bM; rw[if_neg h0,ht]; simp
   rw[e] at hk
   simp(disch:=first|omega|simp only[Wd]<;>omega|rfl)only[Wz]
   exact hk
  | true=>
   by_cases hr:r = -1
   ·simp(disch:=first|omega|simp only[Wd]<;>omega|rfl)only[Wz,a_ hr,g1]
    have e:bM t r=1:=by unfold bM; rw[if_neg h0,ht,hr]; simp
    rw[e] at hk; exact hk
   ·simp(disch:=first|omega|simp only[Wd]<;>omega|rfl)only[Wz,aN hr,wZ,g1]
    refine sL t ?_
    rw[ht]
    simp(disch:=first|omega|simp only[Wd]<;>omega|rfl)only[Wz,g1]
    refine sL r ?_
    cases HB:CA r with
    | false=>
     have e:bM t r = -1:=by unfold bM; rw[if_neg h0,ht,HB]; simp[hr]
     rw[e] at hk
     simp(disch:=first|omega|simp only[Wd]<;>omega|rfl)only[Wz]
     exact hk
    | true=>
     have e:bM t r=2:=by unfold bM; rw[if_neg h0,ht,HB]; simp[hr]
     rw[e] at hk
     simp(disch:=first|omega|simp only[Wd]<;>omega|rfl)only[Wz]
     exact hk
theorem JE (t r:Int) {h:Heap} {κ:Value→Heap→Prop} (hk:κ (.int .i64 (bM t r)) h):CallW Tryz.prog 112 [dn t r] h κ:=
 fF (v:=.int .i64 (bM t r)) rfl rfl (OL t r uA _ (Nat.le_refl _) fun _ _=>rfl) hk
theorem E7 (t r:Int) {h:Heap} {κ:Value→Heap→Prop} (hk:κ (.int .i64 (if bM t r = -1 then 2 else 0)) h):CallW Tryz.prog 72 [dn t r] h κ:=by
 refine fF (v:=.int .i64 (if bM t r = -1 then 2 else 0)) rfl rfl (an mixed ?_) hk
 rw[aai]
 simp(disch:=first|omega|simp only[Wd]<;>omega|rfl)only[Wz,dn]
 refine JE t r ?_
 by_cases h:bM t r = -1
 ·simp(disch:=first|omega|simp only[Wd]<;>omega|rfl)only[Wz,a_ h]; simp[h]
 ·simp(disch:=first|omega|simp only[Wd]<;>omega|rfl)only[Wz,aN h]; simp[h]
def fm (n:Nat):ByteArray:=if n<10 then ⟨#[UInt8.ofNat (48+n)]⟩ else ⟨#[UInt8.ofNat (48+n / 10),UInt8.ofNat (48+n % 10)]⟩
theorem Xr:∀n,n<100→bF Tryz.prog 60 200 [.int .i64 (n:Nat)] (.string (fm n))=true:=by
 intro n hn
 have:(List.range 100).all (fun n=>bF Tryz.prog 60 200 [.int .i64 ((n:Nat):Int)] (.string (fm n)))=true:=by kernel_rfl
 exact List.all_eq_true.1 this n (List.mem_range.2 hn)
theorem G1 (n:Int) (hn:CA n=true) {h:Heap} {κ:Value→Heap→Prop} (hk:κ (.string (fm n.toNat)) h):CallW Tryz.prog 200 [.int .i64 n] h κ:=by
 have h1:0≤n∧n<100:=by simpa[CA] using hn
 obtain ⟨k,rfl⟩:∃k:Nat,n=(k:Int):=⟨n.toNat,by omega⟩
 rw[Int.toNat_natCast] at hk
 exact vh mixed (Xr k (by omega)) hk
def fo (t r:Int):ByteArray:=if bM t r=0 then ⟨#[100,98]⟩ else if bM t r=1 then (⟨#[116]⟩:ByteArray)++fm t.toNat else (⟨#[116]⟩:ByteArray)++fm t.toNat++(⟨#[46,114]⟩:ByteArray)++fm r.toNat
theorem kg (n:Nat):(fm n).size≤2:=by
 unfold fm
 split<;>simp[ByteArray.size]
theorem uF {t r:Int} (h:bM t r≠-1):bM t r=0∨(bM t r=1∧CA t=true)∨(bM t r=2∧CA t=true∧CA r=true):=by
 unfold bM at *
 split
 ·exact .inl rfl
 ·split
  ·rename_i h1; exact .inr (.inl ⟨rfl,h1.1⟩)
  ·split
   ·rename_i h1; exact .inr (.inr ⟨rfl,h1⟩)
   ·rename_i h1 h2 h3; rw[if_neg h1,if_neg h2,if_neg h3] at h; exact absurd rfl h
theorem Xs (t r:Int) (hl:bM t r≠-1) {h:Heap} {κ:Value→Heap→Prop} (hk:κ (.string (fo t r)) h):CallW Tryz.prog 151 [dn t r] h κ:=by
 refine fF (v:=.string (fo t r)) rfl rfl (an mixed ?_) hk
 rw[VL]
 simp(disch:=first|omega|simp only[Wd]<;>omega|rfl)only[Wz,dn]
 refine JE t r ?_
 have st:=kg t.toNat
 have sr:=kg r.toNat
 rcases uF hl with e | ⟨e,ht⟩ | ⟨e,ht,hr⟩
 ·rw[e]; simp(disch:=first|omega|simp only[Wd]<;>omega|rfl)only[Wz]; simp[fo,e]
 ·rw[e]
  simp(disch:=first|omega|simp only[Wd]<;>omega|rfl)only[Wz,xh]
  refine G1 t ht ?_
  rw[lR _ _ _ _ _ _ _ _ (by show 1+_≤_; omega)]
  simp[fo,e]
 ·rw[e]
  simp(disch:=first|omega|simp only[Wd]<;>omega|rfl)only[Wz,xh,DV]
  have e1:∀(β:Type) (fl:β) (cn gd:Bool) (h:Heap) (κ:Value→Heap→β),au fl Tryz.prog .add 9 cn gd (.string ⟨#[116]⟩) (.string (fm t.toNat)) h κ=κ (.string ((⟨#[116]⟩:ByteArray)++fm t.toNat)) h:=fun β fl cn gd h κ=>lR _ _ _ _ _ _ _ _ (by show 1+_≤_; omega)
  have e2:∀(β:Type) (fl:β) (cn gd:Bool) (h:Heap) (κ:Value→Heap→β),au fl Tryz.prog .add 9 cn gd (.string ((⟨#[116]⟩:ByteArray)++fm t.toNat)) (.string ⟨#[46,114]⟩) h κ=κ (.string ((⟨#[116]⟩:ByteArray)++fm t.toNat++(⟨#[46,114]⟩:ByteArray))) h:=fun β fl cn gd h κ=>lR _ _ _ _ _ _ _ _ (by rw[ByteArray.size_append]; show 1+_+2≤_; omega)
  have e3:∀(β:Type) (fl:β) (cn gd:Bool) (h:Heap) (κ:Value→Heap→β),au fl Tryz.prog .add 9 cn gd (.string ((⟨#[116]⟩:ByteArray)++fm t.toNat++(⟨#[46,114]⟩:ByteArray))) (.string (fm r.toNat)) h κ=κ (.string ((⟨#[116]⟩:ByteArray)++fm t.toNat++(⟨#[46,114]⟩:ByteArray)++fm r.toNat)) h:=fun β fl cn gd h κ=>lR _ _ _ _ _ _ _ _ (by rw[ByteArray.size_append,ByteArray.size_append]; show 1+_+2+_≤_; omega)
  refine G1 t ht ?_
  simp(disch:=first|omega|simp only[Wd]<;>omega|rfl)only[Wz,e1,e2]
  refine G1 r hr ?_
  simp(disch:=first|omega|simp only[Wd]<;>omega|rfl)only[Wz,e1,e2,e3,JD]
  simp[fo,e]
def yj (a:Int) (b:UInt8):Int:=IntKind.u32.wrap (IntKind.u32.wrap ((BitVec.ofInt IntKind.u32.bits a ^^^ BitVec.ofInt IntKind.u32.bits (IntKind.u32.wrap (Int.ofNat b.toNat))).toNat)*16777619)
def pH (s:ByteArray):Int:=s.data.toList.foldl yj 2166136261
theorem E8 (a:Int) (b:UInt8):0≤yj a b∧yj a b<4294967296:=Ci _
theorem nM (s:ByteArray):0≤pH s∧pH s<4294967296:=by
 unfold pH
 have:∀(l:List UInt8) (a:Int),(0≤a∧a<4294967296)→0≤l.foldl yj a∧l.foldl yj a<4294967296:=by
  intro l
  induction l with
  | nil=>exact fun a h=>h
  | cons b l ih=>exact fun a _=>ih _ (E8 a b)
 exact this _ _ (by decide)
theorem acq (s:ByteArray) (hs:s.data.toList.length≤1000) {h:Heap} {κ:Value→Heap→Prop} (hk:κ (.int .u32 (pH s)) h):CallW Tryz.prog 150 [.string s] h κ:=by
 refine fF (v:=.int .u32 (pH s)) rfl rfl (an mixed ?_) hk
 rw[VK]
 rw[E6 _ _ _ _ (by omega)]
 simp(disch:=first|omega|simp only[Wd]<;>omega|rfl)only[Wz]
 refine ⟨fun n l h1=>∃i:Nat,slot l 12=.int .i64 (i:Int)∧slot l 10=.int .u32 ((s.data.toList.take i).foldl yj 2166136261)∧i≤s.data.toList.length∧n=s.data.toList.length-i∧HQ ⟨uA.nx+1,uA.bl.aY uA.nx (Zf (yh s) 5),uA.lo⟩ h1,⟨_,0,rfl,rfl,Nat.zero_le _,rfl,rfl⟩,?_⟩
 rintro n l h1 ⟨i,s1,s2,hi,rfl,hq⟩
 cases (show _=h1 from hq)
 by_cases hlt:i<s.data.toList.length
 ·have hg:=GZ hlt
  simp(disch:=first|omega|simp only[Wd]<;>omega|rfl)only[Wz,s1,cq (show (i:Int)<(s.data.toList.length:Int) by omega),DU,aW,Nat.mul_one,hg,s2,sK,Ax,Ay]
  refine ⟨_,by omega,i+1,rfl,?_,by omega,rfl,rfl⟩
  rw[List.take_add_one,List.getElem?_eq_getElem hlt]
  simp only[Option.toList_some,List.foldl_append,List.foldl_cons,List.foldl_nil]
  rfl
 ·have hil:i=s.data.toList.length:=by omega
  simp(disch:=first|omega|simp only[Wd]<;>omega|rfl)only[Wz,s1,bP (show (s.data.toList.length:Int)≤(i:Int) by omega),s2]
  rw[hil,List.take_length]; rfl
theorem E9 (t r:Int):(fo t r).data.toList.length≤1000:=by
 have st:=kg t.toNat
 have sr:=kg r.toNat
 have:(fo t r).size≤1000:=by
  unfold fo
  split
  ·decide
  ·split
   ·rw[ByteArray.size_append]; show 1+_≤_; omega
   ·rw[ByteArray.size_append,ByteArray.size_append,ByteArray.size_append]; show 1+_+2+_≤_; omega
 exact this
theorem Xt (t r:Int) (hl:bM t r≠-1) {h:Heap} {κ:Value→Heap→Prop} (hk:κ (.int .u32 (pH (fo t r))) h):CallW Tryz.prog 114 [dn t r] h κ:=by
 refine fF (v:=.int .u32 (pH (fo t r))) rfl rfl (an mixed ?_) hk
 rw[Vn]
 simp(disch:=first|omega|simp only[Wd]<;>omega|rfl)only[Wz,dn]
 refine Xs t r hl ?_
 refine acq _ (E9 t r) ?_
 rfl
def bT (t r s:Int):Int:=if s<1∨16<s∨bM t r = -1 then -1 else Int.tmod (pH (fo t r)) s
theorem rI {t r s:Int} (h:bT t r s≠-1):0≤bT t r s∧bT t r s<s∧bM t r≠-1:=by
 unfold bT at *
 by_cases hc:s<1∨16<s∨bM t r = -1
 ·rw[if_pos hc] at h; exact absurd rfl h
 ·rw[if_neg hc]
  have h1:=nM (fo t r)
  have h2:=Int.tmod_lt_of_pos (pH (fo t r)) (show 0<s by omega)
  have h3:=Int.tmod_nonneg s h1.1
  exact ⟨h3,h2,fun e=>hc (.inr (.inr e))⟩
theorem acr (s:Int) {h:Heap} {κ:Value→Heap→Prop} (hk:κ (.bool (decide (1≤s) && decide (s≤16))) h):CallW Tryz.prog 113 [.int .i64 s] h κ:=by
 refine fF (v:=.bool (decide (1≤s) && decide (s≤16))) rfl rfl (an mixed ?_) hk
 rw[Vm]
 by_cases h1:s<1
 ·simp(disch:=first|omega|simp only[Wd]<;>omega|rfl)only[Wz,cq h1]; simp; omega
 ·by_cases h2:16<s
  ·simp(disch:=first|omega|simp only[Wd]<;>omega|rfl)only[Wz,bP (show 1≤s by omega),cq h2]; simp; omega
  ·simp(disch:=first|omega|simp only[Wd]<;>omega|rfl)only[Wz,bP (show 1≤s by omega),bP (show s≤16 by omega)]; simp; omega
theorem OM (t r s:Int) {h:Heap} {κ:Value→Heap→Prop} (hk:κ (.int .i64 (bT t r s)) h):CallW Tryz.prog 74 [dn t r,.int .i64 s] h κ:=by
 refine fF (v:=.int .i64 (bT t r s)) rfl rfl (an mixed ?_) hk
 rw[aak]
 simp(disch:=first|omega|simp only[Wd]<;>omega|rfl)only[Wz,dn]
 refine acr s ?_
 by_cases h1:1≤s∧s≤16
 ·simp(disch:=first|omega|simp only[Wd]<;>omega|rfl)only[Wz,a_ h1.1,a_ h1.2]
  refine E7 t r ?_
  by_cases hl:bM t r = -1
  ·rw[if_pos hl]
   simp(disch:=first|omega|simp only[Wd]<;>omega|rfl)only[Wz]
   simp[bT,hl]
  ·rw[if_neg hl]
   simp(disch:=first|omega|simp only[Wd]<;>omega|rfl)only[Wz]
   refine Xt t r hl ?_
   have hr:=nM (fo t r)
   have h2:=Int.tmod_lt_of_pos (pH (fo t r)) (show 0<s by omega)
   have h3:=Int.tmod_nonneg s hr.1
   simp(disch:=first|omega|simp only[Wd]<;>omega|rfl)only[Wz,sK,AA,Az]
   unfold bT
   rw[if_neg (by omega)]
 ·have e:(decide (1≤s) && decide (s≤16))=false:=by simp; omega
  rw[e]
  simp(disch:=first|omega|simp only[Wd]<;>omega|rfl)only[Wz]
  unfold bT
  rw[if_pos (by omega)]
abbrev IE:=Int × Int × Nat
def AB (e:IE):MapEntry:={ key:=.int .i64 e.1,val:=.int .i64 e.2.1,born:=e.2.2 }
def KR (W:List IE) (k:Int):Option Int:=(W.find? fun e=>decide (k=e.1)).map fun e=>e.2.1
theorem eqI (h:Heap) (a b:Int):lT Tryz.prog h 100 3 (.int .i64 a) (.int .i64 b)=some (decide (a=b)):=by
 have:lT Tryz.prog h 100 3 (.int .i64 a) (.int .i64 b)=some (nX a b):=by kernel_rfl
 rw[this,ga]
theorem Rv (t:Int):jU Tryz.prog 20 3 (.int .i64 t)=true:=by kernel_rfl
theorem QB (t:Int):k9 3 (.int .i64 t) (.int .i64 t)=true:=by
 show (iy .i64 .i64 && nX t t)=true
 rw[ga,a_ rfl]; rfl
theorem TU (h:Heap) (k:Int):∀(M:List IE) (i:Nat),(gG Tryz.prog h 3 (.int .i64 k) (M.map AB) i=some none∧M.find? (fun e=>decide (k=e.1))=none)∨
  ∃(j:Nat) (e:IE),gG Tryz.prog h 3 (.int .i64 k) (M.map AB) i=some (some (i+j,AB e))∧M[j]? = some e∧k=e.1∧M.find? (fun e=>decide (k=e.1))=some e∧∀(v:Int) (k':Int),(M.set j (e.1,v,e.2.2)).find? (fun e=>decide (k'=e.1))=if k'=k then some (e.1,v,e.2.2) else M.find? (fun e=>decide (k'=e.1)):=by
 intro M
 induction M with
 | nil=>intro i; exact .inl ⟨rfl,rfl⟩
 | cons e M ih=>
  intro i
  have hf:gG Tryz.prog h 3 (.int .i64 k) ((e::M).map AB) i=(match (some (decide (k=e.1)):Option Bool) with | some true=>some (some (i,AB e)) | some false=>gG Tryz.prog h 3 (.int .i64 k) (M.map AB) (Nat.succ i) | none=>none):=by
   rw[←eqI h]; rfl
  rw[hf]
  by_cases h1:k=e.1
  ·rw[a_ h1]
   refine .inr ⟨0,e,rfl,rfl,h1,by rw[List.find?_cons,a_ h1],fun v k'=>?_⟩
   rw[List.set_cons_zero,List.find?_cons,List.find?_cons]
   by_cases h2:k'=k
   ·rw[if_pos h2,a_ (h2.trans h1)]
   ·rw[if_neg h2,aN (fun e'=>h2 (e'.trans h1.symm))]
  ·rw[aN h1]
   rcases ih (Nat.succ i) with ⟨g1,g2⟩ | ⟨j,e',g1,g2,g3,g4,g5⟩
   ·exact .inl ⟨g1,by rw[List.find?_cons,aN h1]; exact g2⟩
   ·refine .inr ⟨j+1,e',by rw[show i+(j+1)=Nat.succ i+j by omega]; exact g1,g2,g3,by rw[List.find?_cons,aN h1]; exact g4,fun v k'=>?_⟩
    rw[List.set_cons_succ,List.find?_cons,List.find?_cons]
    by_cases h2:k'=e.1
    ·rw[a_ h2]
     simp only
     rw[if_neg (fun e'=>h1 (e'.symm.trans h2))]
    ·rw[aN h2]
     exact g5 v k'
theorem acs {β:Type} {fl:β} {W:List IE} {clock:Nat} {h:Heap} {bw:Nat} (g:h.bl.get bw=some (.map (W.map AB) clock)) (k:Int) (κ:Value→Heap→β) :
  dG fl Tryz.prog 3 (.int .i64 0) true (.map (some bw)) (.int .i64 k) h κ=κ (.tuple ⟨[.int .i64 ((KR W k).getD 0),.bool (KR W k).isSome]⟩) h:=by
 unfold dG jY KR
 rw[Rv]
 simp only[g]
 rcases TU h k W 0 with ⟨g1,g2⟩ | ⟨j,e',g1,g2,g3,g4,_⟩
 ·rw[g1,g2]; rfl
 ·rw[g1,g4]; rfl
theorem Xu {W:List IE} {clock:Nat} {h:Heap} {bw:Nat} (g:h.bl.get bw=some (.map (W.map AB) clock)) (hlo:h.lo≤bw) (k v:Int) (κ:KQ)
  (hk:∀W' clock',(∀j,KR W' j=if j=k then some v else KR W j)→κ undef ⟨h.nx,h.bl.aY bw (.map (W'.map AB) clock'),h.lo⟩) :
  cI False Tryz.prog 3 (.map (some bw)) (.int .i64 k) (.int .i64 v) h κ:=by
 unfold cI
 rw[Rv]
 simp only[g]
 rcases TU h k W 0 with ⟨g1,g2⟩ | ⟨j,e,g1,g2,g3,g4,g5⟩
 ·rw[g1]
  simp only
  rw[oG]
  simp only[bS]
  rw[bU _ _ _ _ hlo]
  have:=hk (W++[(k,v,clock)]) (clock+1) fun j=>by
   unfold KR
   rw[List.find?_append]
   by_cases hj:j=k
   ·rw[if_pos hj,hj,g2]; simp
   ·rw[if_neg hj]
    simp[List.find?_cons,hj]
  rw[List.map_append] at this
  exact this
 ·rw[g1]
  subst g3
  simp only[AB,QB]
  rw[Nat.zero_add,rU _ _ j (AB e) _ (by rw[List.getElem?_map,g2]; rfl),bU _ _ _ _ hlo]
  have:=hk (W.set j (e.1,v,e.2.2)) clock fun i=>by
   unfold KR
   rw[g5 v i]
   split<;>rfl
  rw[List.map_set] at this
  exact this
theorem qK.keep {h h':Heap} {bb bm bp bl most clock:Nat} {M:List HE} {F:List Int} {B:List Bool} (s:bh h bb bm bp bl most M clock F B) (f:qK bm bp bl h h') {c:Nat} {vs:List Value} {ty:TypeId} {op:Bool} (hc:c<h.nx) (hg:h.bl.get c=some (aa vs ty op)) (h1:ty≠225) (h2:ty≠4) (h3:ty≠3):h'.bl.get c=h.bl.get c:=by
 obtain ⟨fs,sZ,hpt⟩:=s.bX.fr.cell
 have gl:=s.bX.cell
 have gm:=s.fM
 exact f.get c hc (by rintro rfl; rw[hg] at gm; exact bE gm.symm) (by rintro rfl; rw[hg] at sZ; exact aL h1 sZ) (by rintro rfl; rw[hg] at gl; exact aL h2 gl) fun ws=>by rw[hg]; exact aL h3
theorem qK.JF {h h':Heap} {bb bm bp bl most clock:Nat} {M:List HE} {F:List Int} {B:List Bool} (s:bh h bb bm bp bl most M clock F B) (f:qK bm bp bl h h') {c:Nat} {es:List MapEntry} {cl:Nat} (hc:c<h.nx) (hg:h.bl.get c=some (.map es cl)) (hne:c≠bm):h'.bl.get c=h.bl.get c:=by
 obtain ⟨fs,sZ,hpt⟩:=s.bX.fr.cell
 have gl:=s.bX.cell
 exact f.get c hc hne (by rintro rfl; rw[sZ] at hg; exact bE hg.symm) (by rintro rfl; rw[gl] at hg; exact bE hg.symm) fun ws=>by rw[hg]; exact bE
theorem bh.aside {h h':Heap} {bb bm bb2 bm2 bp bl most Av clock ON:Nat} {M M2:List HE} {F F':List Int} {B B':List Bool} (s:bh h bb bm bp bl most M clock F B) (f:qK bm bp bl h h') (s2:bh h bb2 bm2 bp bl Av M2 ON F B) (hne:bm2≠bm) (p:dR h' bp bl F' B'):bh h' bb2 bm2 bp bl Av M2 ON F' B':=by
 have fn:=f.nx
 have fl:=f.lo
 have sb:=s2.Lv
 have sm:=s2.tU
 refine ⟨by omega,by omega,by rw[fl]; exact s2.PM,(f.keep s sb s2.gN (by decide) (by decide) (by decide)).trans s2.gN,(f.JF s sm s2.fM hne).trans s2.fM,s2.ok,fun e he=>?_,s2.good,p,s2.ne⟩
 have a:=s2.aF e he
 have al:=a.lt
 exact ⟨by omega,(f.keep s al a.get (by decide) (by decide) (by decide)).trans a.get,a.qv.frame fn fun c vs op hc hg=>f.keep s hc hg (by decide) (by decide) (by decide)⟩
structure TB where
 bb:Nat
 bm:Nat
 M:List HE
 clock:Nat
def mU (b:TB):List Value:=[.pointer (some ⟨b.bb,0,none⟩)]
theorem AD (b:TB):(mU b).length=1:=rfl
theorem KS (b:TB):(mU b).all ew=true:=rfl
structure dF where
 S:Int
 H:Int
 R:Int
 P:Int
structure dB (h:Heap) (tb bw bp bl:Nat) (c:dF) (vb:Value) (aF:Nat) (T:List TB) (W:List IE) (wc:Nat) (F:List Int) (B:List Bool):Prop where
 TV:tb<h.nx
 kV:h.bl.get tb=some (aa [.int .i64 c.S,.int .i64 c.H,.int .i64 c.R,.int .i64 c.P,.pointer (some ⟨bp,0,none⟩),vb,.map (some bw)] 147 false)
 sl:Sl mU h vb T
 ty:uR 182 h vb
 Cj:bw<h.nx
 low:h.lo≤bw
 jX:h.bl.get bw=some (.map (W.map AB) wc)
 bk:∀b∈T,bh h b.bb b.bm bp bl aF b.M b.clock F B
 sM:T.Pairwise fun a b=>a.bm≠b.bm
 Xv:∀b∈T,bw≠b.bm
 bX:dR h bp bl F B
 cS:c.S=T.length
 s1:1≤T.length∧T.length≤16
 hd:aF≤64
theorem Sl.tZ {α:Type} {enc:α→List Value} {h h':Heap} {v:Value} {L:List α} {e:TypeId} (s:Sl enc h v L) (t:uR e h v) (hn:h.nx≤h'.nx) (hg:∀c vs op,c<h.nx→h.bl.get c=some (aa vs e op)→h'.bl.get c=h.bl.get c):Sl enc h' v L∧uR e h' v:=by
 constructor
 ·obtain ⟨x,cap,rfl,h2⟩:=s
  refine ⟨x,cap,rfl,fun hne=>?_⟩
  obtain ⟨b,o,rfl,h3,h4⟩:=h2 hne
  obtain ⟨h1,vs,op,h5⟩:=t b o _ cap rfl (by intro h0; exact hne (List.eq_nil_of_length_eq_zero h0))
  refine ⟨b,o,rfl,Nat.lt_of_lt_of_le h3 hn,?_⟩
  rw[hg b vs op h1 h5]; exact h4
 ·intro b o n c hv hn0
  obtain ⟨h1,vs,op,h2⟩:=t b o n c hv hn0
  exact ⟨Nat.lt_of_lt_of_le h1 hn,vs,op,(hg b vs op h1 h2).trans h2⟩
theorem dB.le {h h':Heap} {tb bw bp bl:Nat} {c:dF} {vb:Value} {aF:Nat} {T:List TB} {W:List IE} {wc:Nat} {F:List Int} {B:List Bool} (s:dB h tb bw bp bl c vb aF T W wc F B) (l:Le h h'):dB h' tb bw bp bl c vb aF T W wc F B:=
 ⟨Nat.lt_of_lt_of_le s.TV l.nx,(l.get _ s.TV).trans s.kV,s.sl.le l,s.ty.le l,Nat.lt_of_lt_of_le s.Cj l.nx,by rw[l.lo]; exact s.low,(l.get _ s.Cj).trans s.jX,fun b hb=>(s.bk b hb).le l,s.sM,s.Xv,s.bX.le l,s.cS,s.s1,s.hd⟩
theorem OO {T:List TB} {k:Nat} {b:TB} (hk:T[k]? = some b) (M':List HE) (clock':Nat):(T.set k ⟨b.bb,b.bm,M',clock'⟩).flatMap mU=T.flatMap mU:=by
 obtain ⟨hl,rfl⟩:=List.getElem?_eq_some_iff.1 hk
 rw[List.flatMap_def,List.flatMap_def,List.map_set]
 congr 1
 refine List.ext_getElem? fun i=>?_
 rw[List.getElem?_set]
 split
 ·rename_i e; subst e
  rw[if_pos (by simpa using hl),List.getElem?_map,List.getElem?_eq_getElem hl]; rfl
 ·rfl
theorem Sl.congr {α:Type} {enc:α→List Value} {h:Heap} {v:Value} {L L':List α} (s:Sl enc h v L) (hl:L'.length=L.length) (hf:L'.flatMap enc=L.flatMap enc):Sl enc h v L':=by
 obtain ⟨x,cap,rfl,h2⟩:=s
 refine ⟨x,cap,by rw[hl],fun hne=>?_⟩
 rw[hf]
 exact h2 (fun e=>hne (List.eq_nil_of_length_eq_zero (by rw[hl,e]; rfl)))
theorem dB.change {h h':Heap} {tb bw bp bl:Nat} {c:dF} {vb:Value} {aF:Nat} {T:List TB} {W:List IE} {wc:Nat} {F F':List Int} {B B':List Bool} (s:dB h tb bw bp bl c vb aF T W wc F B) {k:Nat} {b:TB} (hk:T[k]? = some b) {M':List HE} {clock':Nat} (is':bh h' b.bb b.bm bp bl aF M' clock' F' B') (f:qK b.bm bp bl h h') :
  dB h' tb bw bp bl c vb aF (T.set k ⟨b.bb,b.bm,M',clock'⟩) W wc F' B':=by
 have hb:=s.bk b (List.mem_of_getElem? hk)
 have fn:=f.nx
 have fl:=f.lo
 have h1:=s.TV
 have h2:=s.Cj
 have k1:=Sl.tZ s.sl s.ty fn fun c vs op hc hg=>f.keep hb hc hg (by decide) (by decide) (by decide)
 have acv:=s.Xv b (List.mem_of_getElem? hk)
 have k_:∀x∈T.set k ⟨b.bb,b.bm,M',clock'⟩,(x=⟨b.bb,b.bm,M',clock'⟩)∨(x∈T∧x.bm≠b.bm):=by
  intro x hx
  obtain ⟨i,hi⟩:=List.getElem?_of_mem hx
  rw[List.getElem?_set] at hi
  split at hi
  ·split at hi
   ·exact .inl (Option.some.inj hi).symm
   ·cases hi
  ·rename_i hne
   refine .inr ⟨List.mem_of_getElem? hi,?_⟩
   rcases Nat.lt_trichotomy i k with h3 | h3 | h3
   ·exact cZ.1 s.sM i k x b h3 hi hk
   ·exact absurd h3.symm hne
   ·exact fun e=>cZ.1 s.sM k i b x h3 hk hi e.symm
 refine ⟨by omega,(f.keep hb h1 s.kV (by decide) (by decide) (by decide)).trans s.kV,Sl.congr k1.1 (List.length_set ..) (OO hk _ _),k1.2,by omega,by rw[fl]; exact s.low,(f.JF hb h2 s.jX acv).trans s.jX,?_,?_,?_,is'.bX,by rw[List.length_set]; exact s.cS,by rw[List.length_set]; exact s.s1,s.hd⟩
 ·intro x hx
  rcases k_ x hx with rfl | ⟨hx,hne⟩
  ·exact is'
  ·exact hb.aside f (s.bk x hx) hne is'.bX
 ·refine rq s.sM (fun j q hj hq=>cZ.1 s.sM j k q b hj hq hk) (fun j q hj hq=>cZ.1 s.sM k j b q hj hk hq)
 ·intro x hx
  rcases k_ x hx with rfl | ⟨hx,_⟩
  ·exact acv
  ·exact s.Xv x hx
theorem rJ {α β:Type} (f:α→List β) {T:List α} {k:Nat} {b:α} (hk:T[k]? = some b):∃X,∀b',((T.set k b').flatMap f).Perm (f b'++X):=by
 obtain ⟨hl,_⟩:=List.getElem?_eq_some_iff.1 hk
 refine ⟨(T.take k).flatMap f++(T.drop (k+1)).flatMap f,fun b'=>?_⟩
 rw[List.set_eq_take_append_cons_drop,if_pos hl,List.flatMap_append,List.flatMap_cons]
 exact List.perm_append_comm_assoc _ _ _
theorem yl {α:Type} {T:List α} {k:Nat} {b:α} (hk:T[k]? = some b):T.set k b=T:=by
 refine List.ext_getElem? fun i=>?_
 rw[List.getElem?_set]
 split
 ·rename_i e; subst e; rw[hk,if_pos (List.getElem?_eq_some_iff.1 hk).1]
 ·rfl
section
variable {h h':Heap} {bb bm bp bl most:Nat} {M M':List HE} {clock clock':Nat} {F F':List Int} {B B':List Bool}
theorem mQ.ids (s:bh h bb bm bp bl most M clock F B) {t r x m:Int} {n:Nat} {g:Bool} (a:mQ h h' bb bm bp bl most M M' clock' F F' B t r x m n g):(fN M').Perm (fN M++[(n:Int)]):=by
 obtain ⟨Q,w,hold,vq,vq',_,k_⟩:=a.set
 have lF:(fN M).Perm (fN (M.filter fun x=>!tQ t r x)++Q.map (·.id)):=by
  rcases hold with ⟨e,he,rfl,rfl,rfl,rfl⟩ | ⟨hn,hl,rfl,rfl⟩
  ·have:=qf (qg s.ok he)
   rw[lP,sE] at this
   exact this
  ·rw[Am hn]; simp
 refine k_.ids.trans ?_
 rw[x9 vq',List.map_append,List.map_cons,List.map_nil,Q_,←List.append_assoc]
 exact (lF.symm).append_right _
theorem mQ.len (s:bh h bb bm bp bl most M clock F B) (hl:M.length≤most) {t r x m:Int} {n:Nat} {g:Bool} (a:mQ h h' bb bm bp bl most M M' clock' F F' B t r x m n g):M'.length≤most:=by
 obtain ⟨Q,w,hold,vq,vq',_,k_⟩:=a.set
 have:=k_.len
 rcases hold with ⟨e,he,rfl,rfl,rfl,rfl⟩ | ⟨hn,hl,rfl,rfl⟩
 ·have:=Jw s.ok he; omega
 ·rw[Am hn] at this; omega
theorem mQ.wb {N:Nat} (hw:∀e∈M,e.w≤N) {t r x m:Int} {n:Nat} {g:Bool} (a:mQ h h' bb bm bp bl most M M' clock' F F' B t r x m n g):∀e∈M',e.w≤(N+1:Nat):=by
 obtain ⟨Q,w,hold,vq,vq',_,k_⟩:=a.set
 refine k_.wb hw ?_
 have:=Xl Q w n x m
 rcases hold with ⟨e,he,_,_,_,rfl⟩ | ⟨_,_,_,rfl⟩
 ·have:=hw e he; omega
 ·omega
theorem mQ.sub {t r x m:Int} {n:Nat} {g:Bool} (a:mQ h h' bb bm bp bl most M M' clock' F F' B t r x m n g):∀y∈M',(∃e∈M,e.t=y.t∧e.r=y.r)∨(y.t=t∧y.r=r):=by
 obtain ⟨Q,w,_,_,_,_,k_⟩:=a.set
 intro y hy
 rcases k_.sub y hy with h | ⟨h1,h2,_⟩
 ·exact .inl ⟨y,h,rfl,rfl⟩
 ·exact .inr ⟨h1,h2⟩
variable {e:HE} {Q1:List R5} {w1:Int}
theorem lQ.OP (s:bh h bb bm bp bl most M clock F B) (he:e∈M) (m:lQ h h' bb bm bp bl most M M' clock' F' B' e Q1 w1) (hid:Q1.map (·.id)=e.Q.map (·.id)):(fN M').Perm (fN M):=by
 refine m.set.ids.trans ?_
 rw[x9 m.vq,hid]
 have:=qf (qg s.ok he)
 rw[lP,sE] at this
 exact this.symm
theorem lQ.OQ (s:bh h bb bm bp bl most M clock F B) (he:e∈M) {p:R5} {n:Nat} (hf:bJ e.Q (n:Int)=some p) (m:lQ h h' bb bm bp bl most M M' clock' F' B' e (e.Q.filter fun r=>!bD (n:Int) r) w1):(fN M).Perm (fN M'++[(n:Int)]):=by
 have h1:=qf (qg s.ok he)
 rw[lP,sE] at h1
 have h2:=h1.trans (List.Perm.append_left (fN (M.filter fun x=>!tQ e.t e.r x)) (GU (s.good e he).vq hf))
 rw[←List.append_assoc] at h2
 have h3:=m.set.ids
 rw[x9 m.vq] at h3
 exact h2.trans (h3.symm.append_right _)
theorem lQ.len (s:bh h bb bm bp bl most M clock F B) (hl:M.length≤most) (he:e∈M) (m:lQ h h' bb bm bp bl most M M' clock' F' B' e Q1 w1):M'.length≤most:=by
 have:=m.set.len
 have:=Jw s.ok he
 omega
theorem lQ.sub (he:e∈M) (m:lQ h h' bb bm bp bl most M M' clock' F' B' e Q1 w1):∀y∈M',∃e∈M,e.t=y.t∧e.r=y.r:=by
 intro y hy
 rcases m.set.sub y hy with h | ⟨h1,h2,_⟩
 ·exact ⟨y,h,rfl,rfl⟩
 ·exact ⟨e,he,h1.symm,h2.symm⟩
end
structure kj (h:Heap) (tb bw bp bl:Nat) (c:dF) (vb:Value) (aF N:Nat) (T:List TB) (W:List IE) (wc:Nat) (F:List Int) (B:List Bool):Prop where
 is:dB h tb bw bp bl c vb aF T W wc F B
 ids:(T.flatMap fun b=>fN b.M).Perm (di B)
 wh:∀(k:Nat) (b:TB),T[k]? = some b→∀e∈b.M,∀p∈e.Q,KR W p.id=some (k:Int)
 nm:∀(k:Nat) (b:TB),T[k]? = some b→∀e∈b.M,bT e.t e.r c.S=(k:Int)
 wb:∀b∈T,∀e∈b.M,e.w≤N
 len:∀b∈T,b.M.length≤aF
 cR:(B.length:Int)=c.R
 cH:(aF:Int)=c.H
section
variable {h h':Heap} {tb bw bp bl:Nat} {c:dF} {vb:Value} {aF N:Nat} {T:List TB} {W:List IE} {wc:Nat} {F F':List Int} {B B':List Bool}
theorem kj.OS (s:kj h tb bw bp bl c vb aF N T W wc F B) {k:Nat} {b:TB} (hk:T[k]? = some b):qL b.M B:=by
 obtain ⟨X,hX⟩:=rJ (fun b:TB=>fN b.M) hk
 have:=hX b
 rw[yl hk] at this
 exact ⟨X,this.symm.trans s.ids⟩
theorem kj.le (s:kj h tb bw bp bl c vb aF N T W wc F B) (l:Le h h'):kj h' tb bw bp bl c vb aF N T W wc F B:=⟨s.is.le l,s.ids,s.wh,s.nm,s.wb,s.len,s.cR,s.cH⟩
theorem kj.up {N':Nat} (s:kj h tb bw bp bl c vb aF N T W wc F B) (hN:N≤N'):kj h tb bw bp bl c vb aF N' T W wc F B:=⟨s.is,s.ids,s.wh,s.nm,fun b hb e he=>by have:=s.wb b hb e he; omega,s.len,s.cR,s.cH⟩
theorem fq {α:Type} {T:List α} {k j:Nat} {b' x:α} (h:(T.set k b')[j]? = some x):(j=k∧x=b')∨(j≠k∧T[j]? = some x):=by
 rw[List.getElem?_set] at h
 split at h
 ·rename_i e
  split at h
  ·exact .inl ⟨e.symm,(Option.some.inj h).symm⟩
  ·cases h
 ·rename_i e; exact .inr ⟨fun e'=>e e'.symm,h⟩
theorem kW {M:List HE} {i:Int}:i∈fN M↔∃e∈M,∃p∈e.Q,p.id=i:=by
 unfold fN
 rw[List.mem_flatMap]
 constructor
 ·rintro ⟨e,he,hi⟩
  obtain ⟨p,hp,rfl⟩:=List.mem_map.1 hi
  exact ⟨e,he,p,hp,rfl⟩
 ·rintro ⟨e,he,p,hp,rfl⟩
  exact ⟨e,he,List.mem_map.2 ⟨p,hp,rfl⟩⟩
theorem kj.step (s:kj h tb bw bp bl c vb aF N T W wc F B) {k:Nat} {b:TB} (hk:T[k]? = some b) {M':List HE} {clock':Nat} (is':bh h' b.bb b.bm bp bl aF M' clock' F' B') (f:qK b.bm bp bl h h')
  (uW:∀X,(fN b.M++X).Perm (di B)→(fN M'++X).Perm (di B')) (hsub:∀i∈fN M',i∈fN b.M) (hnm:∀y∈M',∃e∈b.M,e.t=y.t∧e.r=y.r) (hw:∀e∈M',e.w≤(N+1:Nat)) (hl:M'.length≤aF) (hB:B'.length=B.length) :
  kj h' tb bw bp bl c vb aF (N+1) (T.set k ⟨b.bb,b.bm,M',clock'⟩) W wc F' B':=by
 obtain ⟨X,hX⟩:=rJ (fun b:TB=>fN b.M) hk
 have h0:=hX b
 rw[yl hk] at h0
 refine ⟨s.is.change hk is' f,(hX _).trans (uW X (h0.symm.trans s.ids)),?_,?_,?_,?_,by rw[hB]; exact s.cR,s.cH⟩
 ·intro j x hj e he p hp
  rcases fq hj with ⟨rfl,rfl⟩ | ⟨_,hj⟩
  ·obtain ⟨e0,JG,p0,W1,hpe⟩:=kW.1 (hsub p.id (kW.2 ⟨e,he,p,hp,rfl⟩))
   rw[←hpe]; exact s.wh j b hk e0 JG p0 W1
  ·exact s.wh j x hj e he p hp
 ·intro j x hj e he
  rcases fq hj with ⟨rfl,rfl⟩ | ⟨_,hj⟩
  ·obtain ⟨e0,JG,h1,h2⟩:=hnm e he
   rw[←h1,←h2]; exact s.nm j b hk e0 JG
  ·exact s.nm j x hj e he
 ·intro x hx e he
  obtain ⟨j,hj⟩:=List.getElem?_of_mem hx
  rcases fq hj with ⟨rfl,rfl⟩ | ⟨_,hj⟩
  ·exact hw e he
  ·have:=s.wb x (List.mem_of_getElem? hj) e he; omega
 ·intro x hx
  obtain ⟨j,hj⟩:=List.getElem?_of_mem hx
  rcases fq hj with ⟨rfl,rfl⟩ | ⟨_,hj⟩
  ·exact hl
  ·exact s.len x (List.mem_of_getElem? hj)
end
theorem TW (h:Heap) (b o:Nat):lT Tryz.prog h 100 100 (.pointer (some ⟨b,o,none⟩)) (.pointer none)=some false:=by kernel_rfl
theorem pI {β:Type} {fl:β} (cn:Bool) (b o:Nat) (h:Heap) (κ:Value→Heap→β):au fl Tryz.prog .eql 100 cn false (.pointer (some ⟨b,o,none⟩)) (.pointer none) h κ=κ (.bool false) h:=by simp only[au,TW,bV]
theorem acw (h:Heap):lT Tryz.prog h 100 182 (.pointer none) (.pointer none)=some true:=by kernel_rfl
theorem ym {β:Type} {fl:β} (cn:Bool) (h:Heap) (κ:Value→Heap→β):au fl Tryz.prog .eql 182 cn false (.pointer none) (.pointer none) h κ=κ (.bool true) h:=by simp only[au,acw,bV]
structure uG (Ts:List TB) (bw bp bl:Nat) (h h':Heap):Prop where
 nx:h.nx≤h'.nx
 lo:h'.lo=h.lo
 get:∀c,c<h.nx→(∀b∈Ts,c≠b.bm)→c≠bw→c≠bp→c≠bl→(∀vs,h.bl.get c≠some (aa vs 3 true))→h'.bl.get c=h.bl.get c
 g2:bp<h.nx→∀c,c<h.nx→(∀b∈Ts,c≠b.bm)→c≠bw→c≠bp→c≠bl→¬FB h bp c→h'.bl.get c=h.bl.get c
 mv:bp<h.nx→∀c,c<h.nx→FB h' bp c→FB h bp c
theorem uG.of_le {Ts:List TB} {bw bp bl:Nat} {h h':Heap} (l:Le h h'):uG Ts bw bp bl h h':=⟨l.nx,l.lo,fun c hc _ _ _ _ _=>l.get c hc,fun _ c hc _ _ _ _ _=>l.get c hc,fun hb c _ x=>(FB.congr (l.get bp hb)).1 x⟩
theorem uG.trans {Ts:List TB} {bw bp bl:Nat} {h h' h'':Heap} (a:uG Ts bw bp bl h h') (b:uG Ts bw bp bl h' h''):uG Ts bw bp bl h h'':=
 ⟨Nat.le_trans a.nx b.nx,b.lo.trans a.lo,fun c hc h1 h2 h3 h4 h5=>(b.get c (Nat.lt_of_lt_of_le hc a.nx) h1 h2 h3 h4 (fun vs=>by rw[a.get c hc h1 h2 h3 h4 h5]; exact h5 vs)).trans (a.get c hc h1 h2 h3 h4 h5),
  fun hb c hc h1 h2 h3 h4 h5=>(b.g2 (Nat.lt_of_lt_of_le hb a.nx) c (Nat.lt_of_lt_of_le hc a.nx) h1 h2 h3 h4 fun x=>h5 (a.mv hb c hc x)).trans (a.g2 hb c hc h1 h2 h3 h4 h5),
  fun hb c hc x=>a.mv hb c hc (b.mv (Nat.lt_of_lt_of_le hb a.nx) c (Nat.lt_of_lt_of_le hc a.nx) x)⟩
theorem uG.Xw {Ts:List TB} {b:TB} (hb:b∈Ts) {bw bp bl:Nat} {h h':Heap} (f:qK b.bm bp bl h h'):uG Ts bw bp bl h h':=⟨f.nx,f.lo,fun c hc h1 _ h3 h4 h5=>f.get c hc (h1 b hb) h3 h4 h5,fun hp c hc h1 _ h3 h4 h5=>f.g2 hp c hc (h1 b hb) h3 h4 h5,f.mv⟩
section
variable {h:Heap} {tb bw bp bl:Nat} {c:dF} {vb:Value} {aF N:Nat} {Ts:List TB} {W:List IE} {wc:Nat} {F:List Int} {B:List Bool}
theorem t_ (s:dB h tb bw bp bl c vb aF Ts W wc F B) (hlo:h.lo≤h.nx) (t r:Int) (κ:KQ) (hk:∀h',Le h h'→κ (.int .i64 (bT t r c.S)) h') :
  CallW Tryz.prog 44 [.pointer (some ⟨tb,0,none⟩),dn t r] h κ:=by
 refine an mixed ?_
 rw[ZN]
 simp(disch:=first|omega|simp only[Wd]<;>omega|rfl)only[Wz,dn]
 obtain ⟨hA,az⟩:∃hA:Heap,hA=⟨h.nx+1,(h.bl.aY (h.nx) (aa [.int .i64 t,.int .i64 r] 36 false)),h.lo⟩:=⟨_,rfl⟩
 have aK:Le h hA:=by subst az; exact ((Le.refl h).new _)
 have g1:hA.bl.get (h.nx)=some (aa [.int .i64 t,.int .i64 r] 36 false):=by subst az; exact T.af _ _ _
 have d_:hA.nx=h.nx+1:=by subst az; rfl
 have ee:hA.lo=h.lo:=by subst az; rfl
 rw[←az]
 clear az
 have sA:=s.le aK
 have gt:=sA.kV
 simp(disch:=first|omega|simp only[Wd]<;>omega|rfl)only[Wz,pI,IG,g1,aJ,gt]
 refine OM t r c.S ?_
 exact hk hA aK
theorem Rw {h:Heap} {v:Value} {Ts:List TB} (hs:Sl mU h v Ts) (i:Nat) {b:TB} (hp:Ts[i]? = some b) :
  ∃c o,c<h.nx∧(∀(β:Type) (fl:β) (h':Heap) (κ:Value→Heap→β),aq fl 1 v (.int .i64 (i:Int)) h' κ=κ (.pointer (some ⟨c,o,none⟩)) h')∧
   ∀h',Le h h'→(∀(β:Type) (fl:β) (κ:Value→β),sV fl (h'.bl.get c) o κ=κ (.pointer (some ⟨b.bb,0,none⟩))):=by
 obtain ⟨c,o,h1,h2,h3,hh⟩:=hs.ld AD i hp
 refine ⟨c,o,h1,h2,fun h' l β fl κ=>?_⟩
 rw[l.get c h1]
 exact e8 (fl:=fl) hh 0 κ (by show 0<1; omega)
theorem JH (tb:Nat) (h:Heap) (κ:KQ) (hk:κ (.int .i64 5) h):CallW Tryz.prog 203 [.pointer (some ⟨tb,0,none⟩)] h κ:=by
 refine an mixed ?_
 rw[V1]
 simp(disch:=first|omega|simp only[Wd]<;>omega|rfl)only[Wz,pI]
 exact hk
theorem OT (s:kj h tb bw bp bl c vb aF N Ts W wc F B) (hlo:h.lo≤h.nx) (id:Int) (κ:KQ)
  (ig:(∀b∈Ts,∀e∈b.M,bJ e.Q id=none)→κ (.pointer none) h)
  (iJ:∀(k:Nat) b e p,Ts[k]? = some b→e∈b.M→bJ e.Q id=some p→κ (.pointer (some ⟨b.bb,0,none⟩)) h) :
  CallW Tryz.prog 201 [.pointer (some ⟨tb,0,none⟩),.int .i64 id] h κ:=by
 refine an mixed ?_
 rw[V0]
 have gt:=s.is.kV
 simp(disch:=first|omega|simp only[Wd]<;>omega|rfl)only[Wz,pI,D4,aJ,gt,acs s.is.jX]
 have ag1:∀(k:Nat) b e p,Ts[k]? = some b→e∈b.M→bJ e.Q id=some p→KR W id=some (k:Int)∧∃n:Nat,id=(n:Int)∧B[n]? = some true:=by
  intro k b e p hb he hf
  obtain ⟨hp,hpi⟩:=gK hf
  refine ⟨by rw[←hpi]; exact s.wh k b hb e he p hp,jN.1 (s.ids.mem_iff.1 (List.mem_flatMap.2 ⟨b,List.mem_of_getElem? hb,kW.2 ⟨e,he,p,hp,hpi⟩⟩))⟩
 have none:KR W id=none∨¬(∃n:Nat,id=(n:Int)∧B[n]? = some true)→∀b∈Ts,∀e∈b.M,bJ e.Q id=none:=by
  intro hc b hb e he
  obtain ⟨k,hk⟩:=List.getElem?_of_mem hb
  cases hf:bJ e.Q id with
  | none=>rfl
  | some p=>
   obtain ⟨h1,h2⟩:=ag1 k b e p hk he hf
   rcases hc with hc | hc
   ·rw[h1] at hc; cases hc
   ·exact absurd h2 hc
 cases hl:KR W id with
 | none=>
  simp(disch:=first|omega|simp only[Wd]<;>omega|rfl)only[Wz,Option.isSome_none,Option.getD_none]
  exact ig (none (.inl hl))
 | some v=>
  simp(disch:=first|omega|simp only[Wd]<;>omega|rfl)only[Wz,Option.isSome_some,Option.getD_some,aJ,gt]
  refine TC bp bl F B id h _ s.is.bX ?_
  by_cases hb:∃n:Nat,id=(n:Int)∧B[n]? = some true
  ·obtain ⟨n,rfl,hn⟩:=hb
   have eh:(decide ((0:Int)≤(n:Int)) && (B[((n:Int)).toNat]?).getD false)=true:=by
    rw[a_ (by omega),Int.toNat_natCast,hn]; rfl
   rw[eh]
   obtain ⟨b,YC,hbi⟩:=List.mem_flatMap.1 (s.ids.mem_iff.2 (jN.2 ⟨n,rfl,hn⟩))
   obtain ⟨e,he,p,hp,hpi⟩:=kW.1 hbi
   obtain ⟨k,hk⟩:=List.getElem?_of_mem YC
   have hv:v=(k:Int):=by
    have:=s.wh k b hk e he p hp
    rw[hpi,hl] at this
    exact Option.some.inj this
   subst hv
   have hf:=Kj ((s.is.bk b YC).good e he).vq.pair hp
   rw[hpi] at hf
   obtain ⟨cc,oo,_,Jr,eX⟩:=Rw s.is.sl k hk
   have eX:=eX h (Le.refl _)
   simp(disch:=first|omega|simp only[Wd]<;>omega|rfl)only[Wz,aJ,gt,Jr,eX]
   exact iJ k b e p hk he hf
  ·have eh:(decide ((0:Int)≤id) && (B[id.toNat]?).getD false)=false:=by
    by_cases h0:0≤id
    ·have hne:B[id.toNat]?≠some true:=fun e=>hb ⟨id.toNat,by omega,e⟩
     rw[a_ h0,Bool.true_and]
     cases hB:B[id.toNat]? with
     | none=>rfl
     | some x=>cases x with
      | false=>rfl
      | true=>exact absurd hB hne
    ·rw[aN h0]; rfl
   rw[eh]
   simp(disch:=first|omega|simp only[Wd]<;>omega|rfl)only[Wz]
   exact ig (none (.inr hb))
end
theorem dR.frame {h h':Heap} {bp bl:Nat} {F:List Int} {B:List Bool} (p:dR h bp bl F B) (hn:h.nx≤h'.nx) (hl:h'.lo=h.lo) (hc:∀c vs ty op,c<h.nx→h.bl.get c=some (aa vs ty op)→h'.bl.get c=h.bl.get c):dR h' bp bl F B:=by
 have pl:=p.lt
 have fl:=p.fr.lt
 obtain ⟨fs,hg,hpt⟩:=p.fr.cell
 refine ⟨⟨by omega,by rw[hl]; exact p.fr.lo,fs,(hc _ _ _ _ fl hg).trans hg,?_⟩,by omega,by rw[hl]; exact p.lo,(hc _ _ _ _ pl p.cell).trans p.cell,p.ok,p.small⟩
 rcases hpt with e | ⟨b,G,e,k1,k2,k3,k4⟩
 ·exact .inl e
 ·exact .inr ⟨b,G,e,by omega,by omega,(hc _ _ _ _ k1 k3).trans k3,k4⟩
theorem bh.frame {h h':Heap} {bb bm bp bl most clock:Nat} {M:List HE} {F:List Int} {B:List Bool} (s:bh h bb bm bp bl most M clock F B) (hn:h.nx≤h'.nx) (hl:h'.lo=h.lo) (hc:∀c vs ty op,c<h.nx→h.bl.get c=some (aa vs ty op)→h'.bl.get c=h.bl.get c) (hm:h'.bl.get bm=h.bl.get bm):bh h' bb bm bp bl most M clock F B:=by
 have sb:=s.Lv
 have sm:=s.tU
 refine ⟨by omega,by omega,by rw[hl]; exact s.PM,(hc _ _ _ _ sb s.gN).trans s.gN,hm.trans s.fM,s.ok,fun e he=>?_,s.good,s.bX.frame hn hl hc,s.ne⟩
 have a:=s.aF e he
 have al:=a.lt
 exact ⟨by omega,(hc _ _ _ _ al a.get).trans a.get,a.qv.frame hn fun c vs op h1 hg=>hc c vs _ op h1 hg⟩
section
variable {h:Heap} {tb bw bp bl:Nat} {c:dF} {vb:Value} {aF N:Nat} {Ts:List TB} {W:List IE} {wc:Nat} {F:List Int} {B:List Bool}
theorem dB.Xx (s:dB h tb bw bp bl c vb aF Ts W wc F B) (W':List IE) (yo:Nat):dB ⟨h.nx,h.bl.aY bw (.map (W'.map AB) yo),h.lo⟩ tb bw bp bl c vb aF Ts W' yo F B:=by
 have gw:=s.jX
 have hc:∀c vs ty op,c<h.nx→h.bl.get c=some (aa vs ty op)→(h.bl.aY bw (.map (W'.map AB) yo)).get c=h.bl.get c:=by
  intro c vs ty op _ hg
  refine T.ai _ _ ?_
  rintro rfl
  rw[hg] at gw
  exact bE gw.symm
 have hm:∀b∈Ts,(h.bl.aY bw (.map (W'.map AB) yo)).get b.bm=h.bl.get b.bm:=fun b hb=>T.ai _ _ (s.Xv b hb)
 have k1:=Sl.tZ (h':=⟨h.nx,h.bl.aY bw (.map (W'.map AB) yo),h.lo⟩) s.sl s.ty (Nat.le_refl _) fun c vs op h1 hg=>hc c vs _ op h1 hg
 exact ⟨s.TV,(hc _ _ _ _ s.TV s.kV).trans s.kV,k1.1,k1.2,s.Cj,s.low,T.af _ _ _,fun b hb=>(s.bk b hb).frame (Nat.le_refl _) rfl hc (hm b hb),s.sM,s.Xv,s.bX.frame (Nat.le_refl _) rfl hc,s.cS,s.s1,s.hd⟩
theorem uG.Xx {W':List IE} {yo:Nat}:uG Ts bw bp bl h ⟨h.nx,h.bl.aY bw (.map (W'.map AB) yo),h.lo⟩:=
 by
 refine ⟨Nat.le_refl _,rfl,fun c _ _ h2 _ _ _=>T.ai _ _ (fun e=>h2 e.symm),fun _ c _ _ h2 _ _ _=>T.ai _ _ (fun e=>h2 e.symm),fun _ c _ hx=>?_⟩
 by_cases e:bw=bp
 ·subst e
  obtain ⟨n,cap,ls,hx⟩:=hx
  exact absurd ((T.af _ _ _).symm.trans hx) bE
 ·exact (FB.congr (T.ai _ _ e)).1 hx
theorem acz (s:dB h tb bw bp bl c vb aF Ts W wc F B) {t r:Int} (hn:¬bT t r c.S<0):∃(k:Nat) (b:TB),bT t r c.S=(k:Int)∧Ts[k]? = some b:=by
 have hr:=rI (t:=t) (r:=r) (s:=c.S) (by omega)
 have hS:=s.cS
 refine ⟨(bT t r c.S).toNat,Ts[(bT t r c.S).toNat]'(by omega),by omega,List.getElem?_eq_getElem _⟩
end
end Go.Proofs
