/-
  PROVED HERE: a part of the proof (SO, K32, K33, K34, K35, K36, K37, K38, K39, K40, L5, L6, L8, K44, L9, L10, L11, L12, L13, L14, L15, L16, L17, L18, VaiB, U1, U2, U3, U4, U5, U6, U7, U8, U9, U10, U11, U12, U13, N1, N2, N3).
-/
import Derived.Test.YtmjghbjpdoeemaaGreatDoorG4
import Derived.Shelf.SlSortCmp.WholeK
import Derived.Shelf.SlSortCmp.NoneTotal
import Derived.Test.YtmjghbjpdoeemaaGreatDoorG5
import Derived.Test.YtmjghbjpdoeemaaGreatDoorSRT
import Derived.Test.YtmjghbjpdoeemaaGreatDoorG2
import Derived.Deep.DeepFit
set_option linter.unusedVariables false
set_option linter.unusedSimpArgs false
set_option maxRecDepth 100000
set_option maxHeartbeats 4000000
namespace Go.Vai
open Go Go.Sort
section
variable {α β κt:Type} [Inhabited α] {P:Program} {φ:dm}
theorem F2.OK {γ δ:Type} {R:γ→δ→Prop} {m m':List δ} (p:m'.Perm m):∀{l:List γ},F2 R l m→∃l',l'.Perm l∧F2 R l' m':=by
 induction p with
 | nil=>intro l h; cases h; exact ⟨[],.nil,.nil⟩
 | cons x p ih=>
  intro l h
  cases h with
  | cons h t=>obtain ⟨l',p',h'⟩:=ih t; exact ⟨_,p'.cons _,.cons h h'⟩
 | swap x y l0=>
  intro l h
  cases h with
  | cons h1 t=>cases t with | cons h2 t=>exact ⟨_,List.Perm.swap ..,.cons h2 (.cons h1 t)⟩
 | trans p q ihp ihq=>
  intro l h
  obtain ⟨l1,p1,h1⟩:=ihq h
  obtain ⟨l2,p2,h2⟩:=ihp h1
  exact ⟨l2,p2.trans p1,h2⟩
theorem F2.flat {γ δ:Type} {R:Value→Value→Prop} {f:γ→List Value} {g:δ→List Value} {l:List γ} {m:List δ} (h:F2 (fun x y=>F2 R (f x) (g y)) l m):F2 R (l.flatMap f) (m.flatMap g):=by
 induction h with
 | nil=>exact .nil
 | cons hr _ ih=>simp only[List.flatMap_cons]; exact hr.append ih
omit [Inhabited α] in
theorem Ub {k:Nat} {enc:α→List Value} {iP:β→List Value} (hA:∀x,(iP x).length=k) {kA:β→κt} {kC:α→κt} (Uc:∀(x:β) (cs:List Value),F2 (VR φ) (iP x) cs→∃y:α,cs=enc y∧kA x=kC y) :
  ∀(L:List β) (C:List Value),F2 (VR φ) (L.flatMap iP) C→∃ys:List α,C=ys.flatMap enc∧F2 (fun x y=>F2 (VR φ) (iP x) (enc y)∧kA x=kC y) L ys:=by
 intro L
 induction L with
 | nil=>intro C h; cases h; exact ⟨[],rfl,.nil⟩
 | cons x L ih=>
  intro C h
  rw[List.flatMap_cons] at h
  have h1:=h.take k
  have h2:=h.drop k
  have e1:(iP x++L.flatMap iP).take k=iP x:=by rw[←hA x,List.take_left]
  have e2:(iP x++L.flatMap iP).drop k=L.flatMap iP:=by rw[←hA x,List.drop_left]
  rw[e1] at h1
  rw[e2] at h2
  obtain ⟨y,hy,hk⟩:=Uc x _ h1
  obtain ⟨ys,hys,hr⟩:=ih _ h2
  refine ⟨y::ys,?_,.cons ⟨hy▸h1,hk⟩ hr⟩
  rw[List.flatMap_cons,←hy,←hys,List.take_append_drop]
theorem wI {k:Nat} (k0:0<k) {enc:α→List Value} (hk:∀x,(enc x).length=k) (ys:List α):(Sort.flatK enc k ys.toArray).toList=ys.flatMap enc:=by
 refine List.ext_getElem? fun t=>?_
 have hl:=br hk ys
 by_cases ht:t<ys.length*k
 ·have hd:t / k<ys.length:=(Nat.div_lt_iff_lt_mul k0).2 ht
  have hm:t % k<k:=Nat.mod_lt _ k0
  have e:=gF hk (K:=ys) (i:=t / k) (j:=t % k) (List.getElem?_eq_getElem hd) hm
  rw[Nat.div_add_mod' t k] at e
  rw[e,Array.getElem?_toList]
  have hs:t<(Sort.flatK enc k ys.toArray).size:=by simpa using ht
  rw[Array.getElem?_eq_getElem hs]
  have:=Sort.get_flatK enc k ys.toArray t (by simpa using ht)
  rw[getElem!_pos _ t hs] at this
  rw[this]
  have hd':t / k<ys.toArray.size:=by simpa using hd
  have a1:ys.toArray[t / k]! = ys[t / k]:=by rw[getElem!_pos ys.toArray (t / k) hd']; simp
  have hm':t % k<(enc ys[t / k]).length:=by rw[hk]; exact hm
  rw[a1,getElem!_pos (enc ys[t / k]) (t % k) hm',List.getElem?_eq_getElem hm']
 ·have KE:(Sort.flatK enc k ys.toArray).toList.length=ys.length*k:=by simp
  rw[List.getElem?_eq_none (by rw[KE]; omega),List.getElem?_eq_none (by rw[hl]; omega)]
theorem HR.grown {h:Heap} {w:World} (hr:HR P φ h w) (os:Array Obj):HR P φ h (grow w os):=by
 refine ⟨fun b o pl h1 h2=>?_,fun b pl h=>?_,hr.keys,hr.MX,hr.inj,hr.lo⟩
 ·have:=hr.dom b pl h2
  show OR P φ o pl (w.heap++os)[pl.B]?
  rw[Array.getElem?_append_left this.2]
  exact hr.obj b o pl h1 h2
 ·have:=hr.dom b pl h
  refine ⟨this.1,?_⟩
  show pl.B<(w.heap++os).size
  rw[Array.size_append]; omega
theorem Ext.grown {φ':dm} {h h':Heap} {w w':World} (hx:Ext φ φ' h h' w w') (os:Array Obj):Ext φ φ' h h' w (grow w' os):=by
 have hs:=hx.size
 have key:∀B,B<w.heap.size→(grow w' os).heap[B]? = w'.heap[B]?:=fun B hB=>by
  show (w'.heap++os)[B]? = _
  rw[Array.getElem?_append_left (by omega)]
 refine ⟨hx.sub,hx.new,hx.nx,?_,fun B hB hn=>(key B hB).trans (hx.yW B hB hn),hx.Dx,hx.tape,hx.os,hx.output,fun _ _=>trivial,hx.lo,hx.E1,fun b o pl h1 h2 h3 h4 h5=>(key _ h5).trans (hx.E2 b o pl h1 h2 h3 h4 h5),hx.dr⟩
 show _≤(w'.heap++os).size
 rw[Array.size_append]; omega
theorem VR.HK {b n:Nat} {v':Value} (h:VR φ (.slice (some ⟨b,0,none⟩) n aD) v'):∃pl c,φ b=some pl∧v'=.slice (some ⟨pl.B,0,none⟩) n c:=by
 generalize E7:aD=cc at h
 cases h with
 | slice hp hn hc=>subst E7; exact absurd hc (Nat.lt_irrefl _)
 | bQ hp hn hc=>exact ⟨_,_,hp,rfl⟩
 | cr=>exact absurd E7 (by decide)
theorem VR.acH {g:Nat} {v':Value} (h:VR φ (.func (.func g) #[] #[]) v'):v'=.func (.func g) #[] #[]:=by
 cases h with
 | func fn a a' b b' hal KS _ _=>
  have ea:a'=#[]:=by
   have:a'.toList.length=0:=hal.symm
   exact Array.eq_empty_of_size_eq_zero (by simpa using this)
  have eb:b'=#[]:=by
   have:b'.toList.length=0:=KS.symm
   exact Array.eq_empty_of_size_eq_zero (by simpa using this)
  rw[ea,eb]
theorem zZ {f g:FuncId} {k:Nat} (k0:0<k) {enc:α→List Value} {iP:β→List Value} (hk:∀x,(enc x).length=k) (hA:∀x,(iP x).length=k) {kA:β→κt} {kC:α→κt} {lt:κt→κt→Bool}
  (Uc:∀(φ:dm) (x:β) (cs:List Value),F2 (VR φ) (iP x) cs→∃y:α,cs=enc y∧kA x=kC y)
  (enters:∀args w,(callFunc f args).run P w=.ok (.enter f args) w)
  (law:∀(blk cap:Nat) (d:Array α) (w:World),HoldsK enc k w blk 0 d→blk<w.heap.size→d.size<4611686018427387904→
   Calls P f #[.slice (some ⟨blk,0,none⟩) d.size cap,.func (.func g) #[] #[]] w fun e w'=>e=.returned (.tuple #[])∧∃d' n os,PermIn 0 d.size d d'∧SortedIn (fun x y=>lt (kC x) (kC y)) 0 d.size d'∧w'=Go.Proofs.sortWorldK enc k w blk 0 n d' os)
  {h:Heap} {b:Nat} {L:List β} {ty:TypeId} {op:Bool} (hb:h.bl.get b=some (aa (L.flatMap iP) ty op)) (hlo:h.lo≤b) (GV:L.length≤1000000) {κ:Value→Heap→Prop}
  (hκ:∀D:List β,D.Perm L→D.Pairwise (fun x y=>lt (kA y) (kA x)=false)→κ (.tuple #[]) ⟨h.nx,h.bl.aS b (aa (D.flatMap iP) ty op),h.lo⟩) :
  CallW P f [.slice (some ⟨b,0,none⟩) L.length aD,.func (.func g) #[] #[]] h κ:=by
 intro φ w args' ha hr
 cases ha with | cons hs ha=>
 cases ha with | cons hf ha=>
 cases ha
 obtain ⟨pl,c,hp,rfl⟩:=hs.HK
 obtain rfl:=hf.acH
 have hb':=hb
 unfold aa at hb'
 obtain ⟨C,hC,y_,hn2,hop,hcell⟩:=hr.rowAt hb' hp
 have hlen:=br hA L
 rw[hlen] at y_ hn2 hcell
 have hF:F2 (VR φ) (L.flatMap iP) (C.toList.take (L.length*k)):=by
  have hCl:C.toList.length=C.size:=by simp
  refine F2.lZ (by rw[hlen,List.length_take]; omega) fun j v v' e1 e2=>?_
  have hj:j<L.length*k:=by rw[←hlen]; exact (List.getElem?_eq_some_iff.mp e1).1
  obtain ⟨v2,h2,h3⟩:=hcell j v (by rw[lD]; exact e1) hj
  rw[List.getElem?_take_of_lt hj,Array.getElem?_toList,h2] at e2
  cases e2; exact h3
 obtain ⟨ys,hys,hR⟩:=Ub hA (Uc φ) L _ hF
 have Yf:ys.length=L.length:=hR.length.symm
 have hH:HoldsK enc k w pl.B 0 ys.toArray:=by
  intro j hj
  have hfl:=wI k0 hk ys
  rw[←hys] at hfl
  have hj':j<L.length*k:=by simpa[Yf] using hj
  have hjs:j<(Sort.flatK enc k ys.toArray).size:=hj
  have e1:(Sort.flatK enc k ys.toArray)[j]? = C[j]?:=by
   rw[←Array.getElem?_toList,hfl,List.getElem?_take_of_lt hj',Array.getElem?_toList]
  rw[getElem!_pos _ j hjs]
  rw[Array.getElem?_eq_getElem hjs,Array.getElem?_eq_getElem (by omega)] at e1
  have e2:=Option.some.inj e1
  constructor
  ·show w.cell? ⟨pl.B,0+j,none⟩=some (Sort.flatK enc k ys.toArray)[j]
   rw[e2,Nat.zero_add]
   simp[World.cell?,hC,show j<C.size by omega]
  ·simp[World.frozen?,hC]
 have hdom:=hr.dom b pl hp
 have hd:=law pl.B c ys.toArray w hH hdom.2 (by rw[show ys.toArray.size=L.length by simpa using Yf]; omega)
 rw[show ys.toArray.size=L.length by simpa using Yf] at hd
 refine ⟨enters _ _,hd.mono ?_⟩
 rintro e w' ⟨rfl,d',n,os,Yg,hsort,rfl⟩
 obtain ⟨hsz,_,An⟩:=Yg
 have hdl:d'.size=L.length:=by rw[hsz]; simpa using Yf
 have An:d'.toList.Perm ys:=by
  have e1:d'.extract 0 L.length=d':=by rw[←hdl]; simp
  have e2:ys.toArray.extract 0 L.length=ys.toArray:=by rw[←Yf]; simp
  rw[e1,e2] at An
  simpa using An
 obtain ⟨D,hD,hRD⟩:=F2.OK An hR
 have hDl:=hD.length_eq
 have Yh:D.Pairwise (fun x y=>lt (kA y) (kA x)=false):=by
  rw[List.pairwise_iff_getElem]
  intro i j hi hj hij
  obtain ⟨y1,q1,r1⟩:=hRD.get i _ (List.getElem?_eq_getElem hi)
  obtain ⟨y2,q2,r2⟩:=hRD.get j _ (List.getElem?_eq_getElem hj)
  have:=hsort i j (Nat.zero_le _) hij (by omega)
  rw[Array.getElem?_toList] at q1 q2
  obtain ⟨s1,rfl⟩:=Array.getElem?_eq_some_iff.1 q1
  obtain ⟨s2,rfl⟩:=Array.getElem?_eq_some_iff.1 q2
  rw[getElem!_pos _ i s1,getElem!_pos _ j s2] at this
  rw[r1.2,r2.2]
  exact this
 obtain ⟨w1,hw1⟩:∃w1,w1=putRowK enc k (Sort.ahead w n) pl.B 0 d':=⟨_,rfl⟩
 have hfd:(Sort.flatK enc k d').toList=d'.toList.flatMap enc:=by
  have:=wI k0 hk d'.toList
  simpa using this
 have hheap:w1.heap=w.heap.modify pl.B (onCells (putCells id 0 (Sort.flatK enc k d'))):=by rw[hw1]; rfl
 have hB:w1.heap[pl.B]? = some (.cells (putCells id 0 (Sort.flatK enc k d') C) ty (0,0)):=by
  rw[hheap,Array.getElem?_modify,if_pos rfl,hC]; rfl
 have AJ:∀q,q≠pl.B→w1.heap[q]? = w.heap[q]?:=by
  intro q hq
  rw[hheap,Array.getElem?_modify,if_neg (fun e=>hq e.symm)]
 have Lo:=br hA D
 have ho:OR P φ (aa (D.flatMap iP) ty op) pl w1.heap[pl.B]?:=by
  rw[hB]
  refine ⟨rfl,rfl,?_,?_,?_,?_⟩
  ·rw[Lo,hDl]
   simpa[putCells] using y_
  ·rw[Lo,hDl]; exact hn2
  ·intro ho
   obtain ⟨a1,a2,a3⟩:=hop ho
   exact ⟨by simpa[putCells] using a1,a2,a3⟩
  ·intro i v hv hi
   rw[lD] at hv
   rw[Lo,hDl] at hi
   have hFD:F2 (VR φ) (D.flatMap iP) (d'.toList.flatMap enc):=F2.flat (hRD.imp fun a b r=>r.1)
   obtain ⟨v',e1,e2⟩:=hFD.get i v hv
   refine ⟨v',?_,e2⟩
   rw[←hfd,Array.getElem?_toList] at e1
   obtain ⟨hs,e3⟩:=Array.getElem?_eq_some_iff.1 e1
   have hiC:i<C.size:=by omega
   have hs':i<d'.size*k:=by simpa using hs
   unfold putCells
   rw[Array.getElem?_mapIdx,Array.getElem?_eq_getElem hiC]
   simp only[Option.map_some,Nat.zero_le,true_and,Nat.zero_add,Nat.sub_zero]
   rw[if_pos hs,getElem!_pos _ i hs,e3]; rfl
 have hts:=hr.AI (w':=w1) hlo hp ⟨_,hb,trivial⟩ (by rw[hheap]; simp) AJ ho (by rw[hw1]; rfl) (by rw[hw1]; rfl) (by rw[hw1]; rfl) (.inl trivial) (by rw[hw1]; exact Nat.le_add_right _ _)
 refine ⟨φ,.tuple #[],.tuple #[],_,rfl,hκ D hD Yh,VR.tuple' .nil,?_,?_⟩
 ·show HR P φ _ (grow (putRowK enc k (Sort.ahead w n) pl.B 0 d') os)
  rw[←hw1]; exact hts.1.grown os
 ·show Ext φ φ h _ w (grow (putRowK enc k (Sort.ahead w n) pl.B 0 d') os)
  rw[←hw1]; exact hts.2.grown os
theorem yF {f g:FuncId} (enters:∀args w,(callFunc f args).run P w=.ok (.enter f args) w)
  (law:∀(p:Option Addr) (cap:Nat) (fv:Value) (w:World),Calls P f #[.slice p 0 cap,fv] w fun e w'=>e=.returned (.tuple #[])∧w'=w)
  {h:Heap} {v:Value} (hv:v=.slice none 0 0∨∃b o,v=.slice (some ⟨b,o,none⟩) 0 0) {κ:Value→Heap→Prop} (hκ:κ (.tuple #[]) h):CallW P f [v,.func (.func g) #[] #[]] h κ:=by
 intro φ w args' ha hr
 cases ha with | @cons _ v1 _ m1 hs ha=>
 cases ha with | @cons _ v2 _ m2 hf ha=>
 cases ha
 obtain ⟨p,cap,e1⟩:∃p cap,v1=.slice p 0 cap:=by
  rcases hv with rfl | ⟨b,o,rfl⟩
  ·cases hs with
   | ef h=>exact ⟨_,_,rfl⟩
  ·cases hs with
   | slice h1 h2 h3=>exact ⟨_,_,rfl⟩
 subst e1
 refine ⟨enters _ _,(law p cap v2 w).mono ?_⟩
 rintro e w' ⟨rfl,rfl⟩
 exact ⟨φ,.tuple #[],.tuple #[],h,rfl,hκ,VR.tuple' .nil,hr,Ext.refl _ _ _⟩
theorem qg {f:FuncId} {args args':List Value} {v:Value} (hc:CallW P f args ⟨0,.nil,0⟩ fun u _=>u=v) (ha:F2 (VR fun _=>none) args args') (hv:k9 v=true) (W:World) :
  Calls P f args'.toArray W fun e w'=>e=.returned v∧∃q os',w'=grow (W.drewN q) os':=by
 refine Calls.mono (hc _ W args' ha (HR.start W)).2 ?_
 rintro e w' ⟨φ',v1,v',h',rfl,g1,g2,g3,g4⟩
 have e1:v1=v:=g1
 subst e1
 refine ⟨by rw[l_ hv g2],w'.drawn-W.drawn,w'.heap.extract W.heap.size w'.heap.size,?_⟩
 have hd:=g4.dr
 have hs:=g4.size
 have hfr:∀B,B<W.heap.size→w'.heap[B]? = W.heap[B]?:=fun B hB=>g4.yW B hB fun b pl e=>by cases e
 have hheap:w'.heap=W.heap++w'.heap.extract W.heap.size w'.heap.size:=by
  refine Array.ext_getElem? fun i=>?_
  by_cases hi:i<W.heap.size
  ·rw[Array.getElem?_append_left hi,hfr i hi]
  ·rw[Array.getElem?_append_right (by omega),Array.getElem?_extract]
   by_cases hi2:i<w'.heap.size
   ·rw[if_pos (by omega)]; congr 1; omega
   ·rw[if_neg (by omega),Array.getElem?_eq_none (by omega)]
 have ht:=g4.tape
 have ho:=g4.os
 have hu:=g4.output
 obtain ⟨a1,a2,a3,a4,a5⟩:=w'
 obtain ⟨b1,b2,b3,b4,b5⟩:=W
 simp only[grow,World.drewN] at *
 rw[World.mk.injEq]
 exact ⟨hheap,ht,by omega,ho,hu⟩
end
end Go.Vai

namespace Go.Proofs
open Go.Vai Go.Clashes
def Yi:Nat→Int | 0=>0 | 1=>1 | 2=>2 | 3=>2 | 4=>3 | 5=>3 | 6=>3 | 7=>3 | _=>4
theorem Ud:∀n,n<13→bA Tryz.prog 40 132 [.int .u64 (n:Nat)] (.int .i64 (Yi n))=true:=by
 intro n hn
 have:(List.range 13).all (fun n=>bA Tryz.prog 40 132 [.int .u64 ((n:Nat):Int)] (.int .i64 (Yi n)))=true:=by kernel_rfl
 exact List.all_eq_true.1 this n (List.mem_range.2 hn)
theorem Yj (v fv:Value) (n:Nat) (hn:n≤12) (lim:Int) (h:Heap) (κ:KQ) (hk:CallW Tryz.prog 297 [v,.int .i64 0,.int .i64 (n:Int),fv] h fun _ h'=>κ (.tuple ⟨[]⟩) h') :
  CallW Tryz.prog 263 [v,.int .i64 0,.int .i64 (n:Int),.int .i64 lim,fv] h κ:=by
 refine aj mixed ?_
 rw[Td]
 refine ⟨fun m l h1=>slot l 127=.int .i64 0∧slot l 140=.int .i64 (n:Int)∧HQ h h1,⟨0,rfl,rfl,rfl⟩,?_⟩
 rintro m l h1 ⟨s1,s2,hq⟩
 cases (show h=h1 from hq)
 simp(disch:=first|omega|simp only[Wd]<;>omega|with_unfolding_all rfl)only[Wz,Cf,s1,s2]
 exact hk
theorem Lp (v fv:Value) (h:Heap) (κ:KQ) (hk:κ (.tuple ⟨[]⟩) h):CallW Tryz.prog 297 [v,.int .i64 0,.int .i64 0,fv] h κ:=by
 refine aj mixed ?_
 rw[Tq]
 simp(disch:=first|omega|simp only[Wd]<;>omega|with_unfolding_all rfl)only[Wz]
 refine ⟨fun n l h1=>slot l 42=.int .i64 1∧HQ h h1,⟨0,rfl,rfl⟩,?_⟩
 rintro n l h1 ⟨s1,hq⟩
 cases (show h=h1 from hq)
 simp(disch:=first|omega|simp only[Wd]<;>omega|with_unfolding_all rfl)only[Wz,s1]
 exact hk
section
variable {β:Type} {fl:β}
theorem Lq (n:Int) (h:Heap) (κ:Value→Heap→β) (hn:0≤n∧n≤18446744073709551615):jI fl .u64 (.int .i64 n) h κ=κ (.int .u64 n) h:=by
 unfold jI; simp only[eO,cW]; rw[IntWalk.u64_in _ hn]
end
theorem Lr (b:Nat):(Value.cells (.map (some b))).toList=[.map (some b)]:=id rfl
def MR (x y:Int × Int):Int:=nW x.1 x.2 y.1 y.2
theorem z6 (x y:Int × Int):ltOf MR x y=true↔tD x y:=by
 show decide (nW x.1 x.2 y.1 y.2<0)=true↔_
 rw[decide_eq_true_eq,CO]
theorem Gj {x y:Int × Int}:ltOf MR x y=false↔¬tD x y:=by
 rw[←z6,Bool.not_eq_true]
theorem OL:Sort.SWO (ltOf MR) where
 irrefl x:=Gj.2 (by unfold tD; omega)
 trans x y z h1 h2:=(z6 _ _).2 (HI ((z6 _ _).1 h1) ((z6 _ _).1 h2))
 ntrans x y z h1 h2:=by
  rw[Gj] at *
  unfold tD at *
  omega
theorem Ls (blk size:Nat) (w:World):Go.Proofs.CmpLays Tryz.prog 92 #[] mB 2 MR blk 0 size w:=by
 intro m os dk _ x y
 exact qg (args:=[ew x.1 x.2,ew y.1 y.2]) (args':=[ew x.1 x.2,ew y.1 y.2]) (nX x.1 x.2 y.1 y.2 rfl)
  (.cons (VR.pE (.cons (.int _ _) (.cons (.int _ _) .nil))) (.cons (VR.pE (.cons (.int _ _) (.cons (.int _ _) .nil))) .nil)) rfl _
theorem Ev (blk cap:Nat) (d:Array (Int × Int)) (w:World) (hH:Sort.HoldsK mB 2 w blk 0 d) (hblk:blk<w.heap.size) (hsz:d.size<4611686018427387904) :
  Calls Tryz.prog 226 #[.slice (some ⟨blk,0,none⟩) d.size cap,.func (.func 92) #[] #[]] w fun e w'=>e=.returned (.tuple #[])∧∃d' n os,Sort.PermIn 0 d.size d d'∧Sort.SortedIn (fun x y=>ltOf MR x y) 0 d.size d'∧w'=Go.Proofs.sortWorldK mB 2 w blk 0 n d' os:=by
 have eg:∀args w,(callFunc 92 args).run Tryz.prog w=.ok (.enter 92 args) w:=enters_of Tryz.func92 (by kernel_rfl) rfl
 exact Go.Proofs.AnyQ.slices_SortFunc Tryz.Ua 2 Tryz.isAgg36 Tryz.sizeOf36 mB (fun _=>rfl) (fun x v hv=>by simp[mB] at hv; rcases hv with rfl | rfl<;>rfl) MR OL 92 #[] blk 0 cap d w eg (Ls blk d.size w) hH hblk hsz
theorem Ew:∀args w,(callFunc 226 args).run Tryz.prog w=.ok (.enter 226 args) w:=enters_of Tryz.func226 (by kernel_rfl) rfl
theorem acK (φ:dm) (x:Int × Int) (cs:List Value) (h:F2 (VR φ) (mB x) cs):∃y:Int × Int,cs=mB y∧x=y:=by
 unfold mB at h
 cases h with | cons h1 h=>
 cases h with | cons h2 h=>
 cases h
 cases h1; cases h2
 exact ⟨x,rfl,rfl⟩
theorem OM (a h:Heap) (L:List (Int × Int)) (v:Value) (κ:KQ) (ho:wG a h v L) (hle:Le a h) (hlo:h.lo≤h.nx) (hl:L.length≤1000000) (hd:L.Nodup)
  (hk:∀(D:List (Int × Int)) h',D.Perm L→D.Pairwise tD→wG a h' v D→Le a h'→κ (.tuple ⟨[]⟩) h'):CallW Tryz.prog 226 [v,.func (.func 92) #[] #[]] h κ:=by
 rcases ho with ⟨rfl,hv⟩ | ⟨b,hv,h1,h2,h3,h4⟩
 ·obtain ⟨x,c,rfl,_⟩:=(show Sl mB h v [] from (show wG a h v [] from .inl ⟨rfl,hv⟩).sl)
  refine aj mixed ?_
  rw[SV]
  simp(disch:=first|omega|simp only[Wd]<;>omega|with_unfolding_all rfl)only[Wz,Lq]
  refine zo mixed (Ud 0 (by omega)) ?_
  refine Yj _ _ 0 (by omega) _ h _ ?_
  refine Lp _ _ h _ ?_
  exact hk [] h (List.Perm.refl _) List.Pairwise.nil (.inl ⟨rfl,hv⟩) hle
 ·cases hv
  refine zZ (by decide) (enc:=mB) (iP:=mB) rz rz (kA:=id) (kC:=id) (lt:=fun x y=>ltOf MR x y) acK Ew Ev h4 h3 hl ?_
  intro D hp hs
  have hs2:D.Pairwise tD:=by
   have hnd:D.Nodup:=(hp.nodup_iff).2 hd
   refine (hnd.and hs).imp ?_
   rintro x y ⟨hne,hlt⟩
   exact Gi (fun e=>hne e.symm) (Gj.1 hlt)
  refine hk D _ hp hs2 (.inr ⟨b,by rw[hp.length_eq],h1,h2,h3,T.af _ _ _⟩) ⟨hle.nx,hle.lo,fun c hc=>?_⟩
  exact (T.ah _ _ (by omega)).trans (hle.get c hc)
theorem ON {h:Heap} {bb bm bp bl most:Nat} {M:List HE} {clock:Nat} {F:List Int} {B:List Bool} (s:aU h bb bm bp bl most M clock F B) (hlo:h.lo≤h.nx) (hM:M.length≤1000) (κ:KQ)
  (hk:∀v h' (D:List (Int × Int)),D.Perm (M.map di)→D.Pairwise tD→wG h h' v D→Le h h'→κ v h') :
  CallW Tryz.prog 138 [.pointer (some ⟨bb,0,none⟩)] h κ:=by
 refine aj mixed ?_
 rw[Sv]
 have gb:=s.fq
 simp(disch:=first|omega|simp only[Wd]<;>omega|with_unfolding_all rfl)only[Wz,ax,gb]
 refine aj mixed ?_
 rw[SG]
 simp(disch:=first|omega|simp only[Wd]<;>omega|with_unfolding_all rfl)only[Wz,Lr]
 obtain ⟨hA,aK⟩:∃hA:Heap,hA=⟨h.nx+1,(h.bl.aS (h.nx) (aa [.map (some bm)] 218 false)),h.lo⟩:=⟨_,rfl⟩
 have aO:Le h hA:=by subst aK; exact ((Le.refl h).new _)
 have gc:hA.bl.get (h.nx)=some (aa [.map (some bm)] 218 false):=by subst aK; exact T.af _ _ _
 have gH:hA.nx=h.nx+1:=by subst aK; rfl
 have gI:hA.lo=h.lo:=by subst aK; rfl
 rw[←aK]
 clear aK
 have sA:=s.le aO
 refine aj mixed ?_
 rw[SF]
 refine aj mixed ?_
 rw[SU]
 have hlm:=s.rP
 refine CN M clock bm h.nx hA s.ok sA.eM (by omega) gc (by omega) (by omega) (by omega) _ ?_
 intro v h2 L hp ho bF
 have n2:=bF.nx
 have l2:=bF.lo
 have hnd:(L.map di).Nodup:=by
  refine ((hp.map di).nodup_iff).2 ?_
  rw[List.Nodup,List.pairwise_map]
  exact s.ok.nm.imp fun hn e=>hn ⟨congrArg Prod.fst e,congrArg Prod.snd e⟩
 have V1:=hp.length_eq
 refine OM hA h2 (L.map di) v _ ho bF (by omega) (by rw[List.length_map]; omega) hnd ?_
 intro D h3 hpD hs pJ eZ
 exact hk v h3 D (hpD.trans (hp.map di)) hs (fu.base pJ (by omega)) (aO.trans eZ)
theorem HL {β:Type} {fl:β} {M:List HE} {clock:Nat} {h:Heap} {bm:Nat} (o:eW M clock) (g:h.bl.get bm=some (.map (M.map jS) clock)) {e:HE} (he:e∈M) (κ:Value→Heap→β) :
  c8 fl Tryz.prog 36 (.pointer none) false (.map (some bm)) (ew e.t e.r) h κ=κ (.pointer (some ⟨e.hb,0,none⟩)) h:=by
 unfold c8 jm
 rw[KV]
 simp only[g]
 rcases CE h e.t e.r M 0 with ⟨g1,g2⟩ | ⟨j,e',g1,g2,g3,g4⟩
 ·exact absurd ⟨rfl,rfl⟩ (g2 e he)
 ·rw[g1]
  rw[o.uniq he (List.mem_of_getElem? g2) g3 g4]; rfl
def Ue (v:Value):Value:=match v with | .slice a n c=>.slice a n c | _=>.slice none 0 0
def nY (e:HE):List Value:=[.int .i64 e.t,.int .i64 e.r,Ue e.q,.int .i64 e.w]
theorem rA (e:HE):(nY e).length=4:=rfl
theorem CS (e:HE):(nY e).all d_=true:=by
 unfold nY Ue
 split<;>rfl
theorem Ey {h:Heap} {q:Value} {Q:List R5} (hq:Sl aZ h q Q):Ue q=q:=by
 obtain ⟨x,c,rfl,_⟩:=hq
 rfl
abbrev HM (a h:Heap) (v:Value) (K:List HE):Prop:=fu nY a 81 h v K
def CT (a b:HE):Prop:=a.t=b.t∧a.r=b.r∧a.w=b.w∧a.Q=b.Q
theorem HO {h:Heap} {bb bm bp bl most:Nat} {M:List HE} {clock:Nat} {F:List Int} {B:List Bool} (s:aU h bb bm bp bl most M clock F B) (hlo:h.lo≤h.nx) (hM:M.length≤1000) (κ:KQ)
  (hk:∀v h' (K:List HE),K.length=M.length→(K.map di).Perm (M.map di)→(K.map di).Pairwise tD→(∀k∈K,(∃e∈M,CT k e)∧QV h' k.q k.Q)→HM h h' v K→Le h h'→κ v h') :
  CallW Tryz.prog 103 [.pointer (some ⟨bb,0,none⟩)] h κ:=by
 refine aj mixed ?_
 rw[Si]
 simp(disch:=first|omega|simp only[Wd]<;>omega|with_unfolding_all rfl)only[Wz,fL,BB]
 refine ON s hlo hM _ ?_
 intro v1 h1 D hp hs Za bK
 have hlD:D.length=M.length:=by rw[hp.length_eq,List.length_map]
 obtain ⟨x1,c1,rfl,_⟩:=(show Sl mB h1 v1 D from Za.sl)
 have n1:=bK.nx
 have l1:=bK.lo
 simp(disch:=first|omega|simp only[Wd]<;>omega|with_unfolding_all rfl)only[Wz]
 refine ⟨fun m l h2=>∃(i:Nat) (K:List HE),slot l 23=.int .i64 (i:Int)∧m=D.length-i∧i≤D.length∧K.map di=D.take i∧(∀k∈K,(∃e∈M,CT k e)∧QV h2 k.q k.Q)∧HM h1 h2 (slot l 21) K∧Le h1 h2,
  ⟨_,0,[],rfl,rfl,by omega,by simp,fun k hk=>(nomatch hk),.inl ⟨rfl,.inl rfl⟩,Le.refl _⟩,?_⟩
 rintro m l h2 ⟨i,K,s1,rfl,hi,hK,hQ,Vf,bF⟩
 have n2:=bF.nx
 have l2:=bF.lo
 have On:K.length=i:=by have:=congrArg List.length hK; simp at this; omega
 by_cases hst:i<D.length
 ·obtain ⟨p,hpi⟩:∃p,D[i]? = some p:=⟨_,List.getElem?_eq_getElem hst⟩
  have hpD:p∈M.map di:=hp.mem_iff.1 (List.mem_of_getElem? hpi)
  obtain ⟨e,he,rfl⟩:=List.mem_map.1 hpD
  have s2:=s.le (bK.trans bF)
  have gb:=s2.fq
  have gm:=s2.eM
  have ahw:=s2.IB
  have H:=s2.aH e he
  have hlt:=H.lt
  have hgd:=s2.good e he
  obtain ⟨qx,qc,eq,_⟩:=(show Sl aZ h2 e.q e.Q from H.qv.1)
  have gh:=H.get
  rw[eq] at gh
  obtain ⟨b1,o1,hb1,OJ,_,VJ⟩:=(Za.sl.le bF).ld rz i hpi
  have r1:=fun (β:Type) (fl:β) κ=>ug (fl:=fl) VJ 2 κ rfl
  have acM:=s2.rP
  have gmB:=(((Le.refl h2).new (aa [.int .i64 e.t,.int .i64 e.r] 36 false)).get _ acM).trans gm
  have eL:=HL (β:=Option Value) (fl:=none) s2.ok gmB he
  unfold ew at eL
  simp(disch:=first|omega|simp only[Wd]<;>omega|with_unfolding_all rfl)only[Wz,s1,fH (show (i:Int)<(D.length:Int) by omega),BA,OJ,r1,mB,di,ax,gb,gh,eL]
  obtain ⟨hB,cI⟩:∃hB:Heap,hB=⟨h2.nx+1+1,((h2.bl.aS (h2.nx) (aa [.int .i64 e.t,.int .i64 e.r] 36 false)).aS (h2.nx+1) (cL e.t e.r (.slice qx e.Q.length qc) e.w)),h2.lo⟩:=⟨_,rfl⟩
  have cw:Le h2 hB:=by subst cI; exact (((Le.refl h2).new _).new _)
  have gn:hB.bl.get (h2.nx)=some (aa [.int .i64 e.t,.int .i64 e.r] 36 false):=by subst cI; exact (T.ah _ _ (by omega)).trans (T.af _ _ _)
  have gd:hB.bl.get (h2.nx+1)=some (cL e.t e.r (.slice qx e.Q.length qc) e.w):=by subst cI; exact T.af _ _ _
  have Ej:hB.nx=h2.nx+1+1:=by subst cI; rfl
  have Ek:hB.lo=h2.lo:=by subst cI; rfl
  rw[←cI]
  clear cI
  have hqB:Sl aZ hB (.slice qx e.Q.length qc) e.Q:=by rw[←eq]; exact H.qv.1.le cw
  have GV:=hgd.small
  refine Cu e.Q hB _ _ hqB (by omega) (by omega) ?_
  intro q3 h3 pJ eZ
  have n3:=eZ.nx
  have l3:=eZ.lo
  have gd:=(eZ.get _ (by omega)).trans gd
  obtain ⟨Cy,Cz,rfl,_⟩:=(show Sl aZ h3 q3 e.Q from pJ.sl)
  simp(disch:=first|omega|simp only[Wd]<;>omega|with_unfolding_all rfl)only[Wz,gd]
  obtain ⟨h4,e4⟩:∃h4:Heap,h4=⟨h3.nx+1,(h3.bl.aS (h2.nx+1) (cL e.t e.r (.slice Cy e.Q.length Cz) e.w)).aS h3.nx (cL e.t e.r (.slice Cy e.Q.length Cz) e.w),h3.lo⟩:=⟨_,rfl⟩
  have oM:Le h2 h4:=by rw[e4]; exact ((cw.trans eZ).set (b:=h2.nx+1) (by omega) _).new _
  have g4:h4.bl.get h3.nx=some (aa ([(⟨e.t,e.r,0,0,.slice Cy e.Q.length Cz,e.w,e.Q⟩:HE)].flatMap nY) 81 false):=by rw[e4]; exact T.af _ _ _
  have n4:h4.nx=h3.nx+1:=by rw[e4]
  have l4:h4.lo=h3.lo:=by rw[e4]
  have hq4:QV h4 (.slice Cy e.Q.length Cz) e.Q:=by
   rw[e4]
   exact ((QV.own pJ).put (fun vs op=>by rw[gd]; exact aX (by decide)) _).le ((Le.refl _).new _)
  try rw[←e4]
  clear e4
  refine iD (enc:=nY) (a:=h1) (L:=K) (M:=[(⟨e.t,e.r,0,0,.slice Cy e.Q.length Cz,e.w,e.Q⟩:HE)]) rA CS (by decide) (by decide) (Vf.le oM) (Sl.new (by omega) g4 _) (bF.trans oM) (by simp; omega) (by omega) _ ?_
  intro v5 h5 DC Ar _ n5 l5 wJ
  have HD:∀c vs op,c<h4.nx→h4.bl.get c=some (aa vs 83 op)→h5.bl.get c=h4.bl.get c:=fun c vs op hc hg=>wJ c hc (by rw[hg]; exact aX (by decide))
  refine ⟨_,by omega,i+1,K++[⟨e.t,e.r,0,0,.slice Cy e.Q.length Cz,e.w,e.Q⟩],by simp,rfl,by omega,?_,?_,DC,?_⟩
  ·rw[List.map_append,hK,List.take_add_one,hpi]
   rfl
  ·intro k hk'
   rcases List.mem_append.1 hk' with hk' | hk'
   ·exact ⟨(hQ k hk').1,((hQ k hk').2.le oM).frame n5 HD⟩
   ·rw[List.mem_singleton] at hk'; subst hk'
    exact ⟨⟨e,he,rfl,rfl,rfl,rfl⟩,hq4.frame n5 HD⟩
  ·exact Ar
 ·simp(disch:=first|omega|simp only[Wd]<;>omega|with_unfolding_all rfl)only[Wz,s1,cg (show (D.length:Int)≤(i:Int) by omega)]
  have hiD:i=D.length:=by omega
  subst hiD
  rw[List.take_length] at hK
  exact hk _ h2 K (by omega) (hK▸hp) (hK▸hs) hQ (fu.base Vf (by omega)) (bK.trans bF)
theorem dN.sub {M M':List HE} {t r w:Int} {Q:List R5} (s:dN M M' t r w Q):∀x∈M',x∈M∨(x.t=t∧x.r=r∧x.w=w∧x.Q=Q):=by
 intro x hx
 by_cases h0:Q=[]
 ·rw[s.gone h0] at hx; exact .inl (List.mem_filter.1 hx).1
 ·obtain ⟨e,h1,h2,h3,h4,hp⟩:=s.put h0
  rcases List.mem_append.1 (hp.mem_iff.1 hx) with hx | hx
  ·exact .inl (List.mem_filter.1 hx).1
  ·rw[List.mem_singleton] at hx; subst hx; exact .inr ⟨h1,h2,h3,h4⟩
theorem dN.len {M M':List HE} {t r w:Int} {Q:List R5} (s:dN M M' t r w Q):M'.length≤(M.filter fun x=>!rm t r x).length+1:=by
 by_cases h0:Q=[]
 ·rw[s.gone h0]; omega
 ·obtain ⟨e,_,_,_,_,hp⟩:=s.put h0
  rw[hp.length_eq]; simp
theorem dN.wb {M M':List HE} {t r w:Int} {Q:List R5} {N:Nat} (s:dN M M' t r w Q) (hw:∀e∈M,e.w≤N) (h:w≤N+1):∀e∈M',e.w≤(N+1:Nat):=by
 intro e he
 rcases s.sub e he with h1 | ⟨_,_,h1,_⟩
 ·have:=hw e h1; omega
 ·omega
theorem Gk {M:List HE} {clock:Nat} (o:eW M clock) {e:HE} (he:e∈M):(M.filter fun x=>!rm e.t e.r x).length+1=M.length:=by
 have:=(oC o he).length_eq
 rw[this]; simp
theorem Uf (Q:List R5) (W id x m:Int):(dS Q W id x m).2.1≤W+1:=by unfold dS; split<;>simp<;>omega
theorem Ug (Q:List R5) (W:Int) (r:R5) (m:Int):(h_ Q W r m).2.1≤W+1:=by unfold h_; split<;>simp<;>omega
theorem OO (Q:List R5) (W:Int) (r:R5) (m:Int):(h_ Q W r m).1.id=r.id:=by unfold h_; split<;>rfl
theorem rB {Q:List R5} {i:Nat} {p p':R5} (hi:Q[i]? = some p) (h:p'.id=p.id):(Q.set i p').map (·.id)=Q.map (·.id):=by
 obtain ⟨hl,rfl⟩:=List.getElem?_eq_some_iff.1 hi
 rw[List.map_set,h]
 refine List.ext_getElem? fun k=>?_
 rw[List.getElem?_set]
 split
 ·rename_i e; subst e; simp[hl]
 ·rfl
section
variable {h h':Heap} {bb bm bp bl most cap N:Nat} {M M':List HE} {clock clock':Nat} {F F':List Int} {B B':List Bool}
theorem Ez {Q:List R5} {W:Int} (v:VQ Q W) {p:R5} {id:Int} (hf:bE Q id=some p):(Q.map (·.id)).Perm ((Q.filter fun r=>!bg id r).map (·.id)++[id]):=by
 obtain ⟨hp,rfl⟩:=fI hf
 have hnd:(Q.map (·.id)).Nodup:=by
  rw[List.Nodup,List.pairwise_map]
  exact v.pair.imp fun hb=>hb.id
 have acN:((Q.filter fun r=>!bg p.id r).map (·.id)).Nodup:=hnd.sublist (List.filter_sublist.map _)
 refine (List.perm_ext_iff_of_nodup hnd (wD acN fun hm=>?_)).2 fun x=>?_
 ·obtain ⟨q,hq,e⟩:=List.mem_map.1 hm
  have:=(List.mem_filter.1 hq).2
  simp[bg,e] at this
 ·rw[List.mem_append,List.mem_singleton,List.mem_map,List.mem_map]
  constructor
  ·rintro ⟨q,hq,rfl⟩
   by_cases hqp:q.id=p.id
   ·exact .inr hqp
   ·exact .inl ⟨q,List.mem_filter.2 ⟨hq,by simp[bg,hqp]⟩,rfl⟩
  ·rintro (⟨q,hq,rfl⟩ | rfl)
   ·exact ⟨q,(List.mem_filter.1 hq).1,rfl⟩
   ·exact ⟨p,hp,rfl⟩
end
theorem Lt (b:Nat) (n:Int) (p:Addr) (κ:List Value→Prop):bJ False [(2,1)] [.map (some b)] [.int .i64 n,.pointer (some p),.map none] κ=κ [.int .i64 n,.pointer (some p),.map (some b)]:=by kernel_rfl
theorem CU (aH:Nat) (bp:Nat) (h:Heap) (κ:KQ) (hh:1≤aH∧aH≤64) (hlo:h.lo≤h.nx)
  (hk:∀h',Le h h'→h'.nx=h.nx+2→h'.bl.get h.nx=some (.map [] 0)→h'.bl.get (h.nx+1)=some (aa [.int .i64 (aH:Int),.pointer (some ⟨bp,0,none⟩),.map (some h.nx)] 220 false)→κ (.tuple ⟨[.pointer (some ⟨h.nx+1,0,none⟩),.int .i64 0]⟩) h') :
  CallW Tryz.prog 109 [.int .i64 (aH:Int),.pointer (some ⟨bp,0,none⟩)] h κ:=by
 refine aj mixed ?_
 rw[Ka]
 simp(disch:=first|omega|simp only[Wd]<;>omega|with_unfolding_all rfl)only[Wz,cg (show (1:Int)≤(aH:Int) by omega),cg (show (aH:Int)≤64 by omega),uy,gL,Lt]
 exact hk _ (((Le.refl h).new _).new _) rfl ((T.ah _ _ (by omega)).trans (T.af _ _ _)) (T.af _ _ _)
def jj (n m:Int):Int:=if m<1 then 0 else if Int.tmod n m<0 then Int.tmod n m+m else Int.tmod n m
theorem nZ {n m:Int} (h:0<m):0≤jj n m∧jj n m<m:=by
 unfold jj
 rw[if_neg (by omega)]
 have h2:=Int.tmod_lt_of_pos n h
 have h3:=Int.lt_tmod_of_pos n h
 split<;>omega
theorem Lu (n m:Int) (hm:m≤9223372036854775807) {h:Heap} {κ:Value→Heap→Prop} (hk:κ (.int .i64 (jj n m)) h):CallW Tryz.prog 12 [.int .i64 n,.int .i64 m] h κ:=by
 refine gU (v:=.int .i64 (jj n m)) rfl rfl (aj mixed ?_) hk
 rw[Wk]
 by_cases h1:m<1
 ·simp(disch:=first|omega|simp only[Wd]<;>omega|with_unfolding_all rfl)only[Wz]; simp[jj,h1]
 ·have h2:=Int.tmod_lt_of_pos n (show 0<m by omega)
  have h3:=Int.lt_tmod_of_pos n (show 0<m by omega)
  simp(disch:=first|omega|simp only[Wd]<;>omega|with_unfolding_all rfl)only[Wz,FK,Nn _ _ _ _ _ m _ _ (by omega)]
  refine ⟨fun l h'=>slot l 5=.int .i64 (jj n m),?_,fun l h' hs=>hs⟩
  by_cases h4:Int.tmod n m<0
  ·simp(disch:=first|omega|simp only[Wd]<;>omega|with_unfolding_all rfl)only[Wz]; simp[jj,h1,h4]
  ·simp(disch:=first|omega|simp only[Wd]<;>omega|with_unfolding_all rfl)only[Wz]; simp[jj,h1,h4]
structure Act where
 k:Int
 t:Int
 r:Int
 id:Int
 x:Int
 m:Int
def iP (a:Act):List Value:=[.int .i64 a.k,.int .i64 a.t,.int .i64 a.r,.int .i64 a.id,.int .i64 a.x,.int .i64 a.m]
theorem OP {β:Type} {fl:β} (cn:Bool) (a b c d:Int) (h:Heap) (κ:Value→Heap→β):au fl Tryz.prog .neq 36 cn false (.agg ⟨[.int .i64 a,.int .i64 b]⟩) (.agg ⟨[.int .i64 c,.int .i64 d]⟩) h κ=κ (.bool (!decide (a=c∧b=d))) h:=by
 have:=eqN h a b c d
 unfold ew at this
 simp only[au,this,bP]
theorem Lv {β:Type} {fl:β} (cn:Bool) (a b:Int) (h:Heap) (κ:Value→Heap→β):au fl Tryz.prog .neq 36 cn false (.agg ⟨[.int .i64 a,.int .i64 b]⟩) (.agg ⟨[.int .i64 a,.int .i64 b]⟩) h κ=κ (.bool false) h:=by
 rw[OP]; simp
theorem z7 {β:Type} {fl:β} (cn:Bool) (a b c d:Int) (h:Heap) (κ:Value→Heap→β):au fl Tryz.prog .eql 36 cn false (.agg ⟨[.int .i64 a,.int .i64 b]⟩) (.agg ⟨[.int .i64 c,.int .i64 d]⟩) h κ=κ (.bool (decide (a=c∧b=d))) h:=by
 have:=eqN h a b c d
 unfold ew at this
 simp only[au,this,bP]
theorem HS (Q:List R5) (a:R5):∀i,i≤Q.length→best (Q++[a]) i=best Q i:=by
 intro i
 induction i with
 | zero=>intro _; rfl
 | succ i ih=>
  intro hi
  have e1:(Q++[a])[i]? = Q[i]?:=List.getElem?_append_left (by omega)
  unfold best
  rw[e1,ih (by omega)]
  split
  ·rename_i r hr
   have e2:qQ (Q++[a]) r (best Q i)=qQ Q r (best Q i):=by
    unfold qQ
    split
    ·rfl
    ·rename_i b hb
     have:=(um Q i b hb).1
     rw[List.getElem?_append_left (by omega)]
   rw[e2]
  ·rfl
theorem sH {Q:List R5} {a r:R5} (h:dU Q r=false):dU (Q++[a]) r=false:=by
 unfold dU at *
 rw[List.any_append]
 simp only[Bool.not_eq_false'] at h ⊢
 rw[h]; rfl
theorem HT {Q:List R5} {W:Int} (v:VQ Q W) (hs:kT Q) {id x m:Int} (hm:bH m=true):kT (Q++[(dS Q W id x m).1]):=by
 obtain ⟨m0,_⟩:=(gr m).1 hm
 have hup:rN (dS Q W id x m).1=false:=by
  unfold dS rN
  split<;>simp
 have hb:best (Q++[(dS Q W id x m).1]) (Q++[(dS Q W id x m).1]).length=best Q Q.length:=by
  rw[List.length_append,List.length_singleton,←HS Q (dS Q W id x m).1 _ (Nat.le_refl _)]
  generalize hA:best (Q++[(dS Q W id x m).1]) Q.length=B
  unfold best
  rw[List.getElem?_append_right (Nat.le_refl _),Nat.sub_self,List.getElem?_cons_zero]
  simp only[hup,Bool.false_and,hA]
  rfl
 intro i r hf hr
 unfold cC at hf
 rw[hb] at hf
 cases yG:best Q Q.length with
 | some b=>
  rw[yG] at hf
  have mM:b=i:=Option.some.inj hf
  subst mM
  have hlt:=(um Q _ b yG).1
  rw[List.getElem?_append_left hlt] at hr
  exact sH (hs b r (by unfold cC; rw[yG]) hr)
 | none=>
  rw[yG] at hf
  simp only at hf
  rw[List.findIdx?_append] at hf
  cases RC:Q.findIdx? (fun r=>decide (r.m=0)) with
  | some j=>
   rw[RC] at hf
   simp at hf
   subst hf
   have hlt:j<Q.length:=by
    have:=List.findIdx?_eq_some_iff_getElem.1 RC
    exact this.1
   rw[List.getElem?_append_left hlt] at hr
   exact sH (hs j r (by unfold cC; rw[yG]; exact RC) hr)
  | none=>
   rw[RC] at hf
   have gj:cC Q=none:=by unfold cC; rw[yG]; exact RC
   by_cases hg:(decide (cC Q=none) && dU Q ⟨id,x,0,m,0⟩)=true
   ·have ha:(dS Q W id x m).1=⟨id,x,m,m,0⟩:=by unfold dS; rw[if_pos hg]
    rw[ha] at hf
    simp[m0] at hf
   ·have ha:(dS Q W id x m).1=⟨id,x,0,m,W+1⟩:=by unfold dS; rw[if_neg hg]
    rw[ha] at hf hr ⊢
    simp at hf
    subst hf
    rw[List.getElem?_append_right (Nat.le_refl _),Nat.sub_self,List.getElem?_cons_zero] at hr
    cases hr
    refine sH ?_
    rw[gj] at hg
    have:dU Q ⟨id,x,0,m,0⟩=false:=by simpa using hg
    exact this
section
variable {M M' K:List HE} {clock:Nat}
end
end Go.Proofs

namespace Go.Vai
def QG (v:Value) (c:Nat):Prop:=∃n,v=.slice (some ⟨c,0,none⟩) n aD
theorem fu.keep {α:Type} {enc:α→List Value} {a h h':Heap} {e:TypeId} {v:Value} {L:List α} (ho:fu enc a e h v L) (hn:h.nx≤h'.nx) (hl:h'.lo=h.lo) (hg:∀b vs,b<h.nx→h.bl.get b=some (aa vs e true)→h'.bl.get b=h.bl.get b):fu enc a e h' v L:=by
 rcases ho with h0 | ⟨b,h1,h2,h3,h4,h5⟩
 ·exact .inl h0
 ·exact .inr ⟨b,h1,h2,Nat.lt_of_lt_of_le h3 hn,by rw[hl]; exact h4,(hg b _ h3 h5).trans h5⟩
end Go.Vai
namespace Go.Proofs
open Go.Vai Go.Clashes
structure Gl (h:Heap) (rp rl:Nat) (B:List Bool):Prop where
 Lw:rp<h.nx
 lop:h.lo≤rp
 IC:rl<h.nx
 lol:h.lo≤rl
 QH:h.bl.get rp=some (aa [.slice (some ⟨rl,0,none⟩) B.length B.length] 132 false)
 Gm:h.bl.get rl=some (aa (B.map Value.bool) 4 false)
 small:B.length≤128
structure Zz (a h:Heap) (rb rp most:Nat) (v:Value) (K:List HE):Prop where
 lt:rb<h.nx
 lo:h.lo≤rb
 cell:h.bl.get rb=some (aa [.int .i64 (most:Int),.pointer (some ⟨rp,0,none⟩),v] 134 false)
 own:HM a h v K
 emp:acG K v
 qv:∀k∈K,sy a h k.q k.Q
theorem Gl.keep {h h':Heap} {rp rl:Nat} {B:List Bool} (p:Gl h rp rl B) (hn:h.nx≤h'.nx) (hl:h'.lo=h.lo) (g1:h'.bl.get rp=h.bl.get rp) (g2:h'.bl.get rl=h.bl.get rl):Gl h' rp rl B:=
 ⟨Nat.lt_of_lt_of_le p.Lw hn,by rw[hl]; exact p.lop,Nat.lt_of_lt_of_le p.IC hn,by rw[hl]; exact p.lol,g1.trans p.QH,g2.trans p.Gm,p.small⟩
theorem Zz.keep {a h h':Heap} {rb rp most:Nat} {v:Value} {K:List HE} (R:Zz a h rb rp most v K) (hn:h.nx≤h'.nx) (hl:h'.lo=h.lo)
  (hg:∀c vs ty op,c<h.nx→h.bl.get c=some (aa vs ty op)→(ty=134∨(ty=81∧op=true)∨ty=83)→h'.bl.get c=h.bl.get c):Zz a h' rb rp most v K:=
 ⟨Nat.lt_of_lt_of_le R.lt hn,by rw[hl]; exact R.lo,(hg _ _ _ _ R.lt R.cell (.inl rfl)).trans R.cell,R.own.keep hn hl fun b vs hb g=>hg b vs _ _ hb g (.inr (.inl ⟨rfl,rfl⟩)),R.emp,fun k hk=>(R.qv k hk).keep hn hl fun c vs hc g=>hg c vs _ _ hc g (.inr (.inr rfl))⟩
section
variable {a h:Heap} {bb bm bp bl most cap N:Nat} {M:List HE} {clock:Nat} {F:List Int} {B:List Bool} {rb rp rl:Nat} {v:Value} {K:List HE}
end
theorem Uh {h:Heap} {v:Value} {K:List HE} (hs:Sl nY h v K) (i:Nat) {e:HE} (hp:K[i]? = some e) (hq:Ue e.q=e.q) :
  ∃b o,b<h.nx∧(∀(β:Type) (fl:β) (h':Heap) (κ:Value→Heap→β),av fl 4 v (.int .i64 (i:Int)) h' κ=κ (.pointer (some ⟨b,o,none⟩)) h')∧
   ∀h',Le h h'→((∀(β:Type) (fl:β) (κ:List Value→β),Bb fl (h'.bl.get b) o 2 κ=κ [.int .i64 e.t,.int .i64 e.r])∧
   (∀(β:Type) (fl:β) (κ:List Value→β),Bb fl (h'.bl.get b) o 4 κ=κ [.int .i64 e.t,.int .i64 e.r,e.q,.int .i64 e.w])∧
   (∀(β:Type) (fl:β) (κ:Value→β),yc fl (h'.bl.get b) o κ=κ (.int .i64 e.t))∧
   (∀(β:Type) (fl:β) (κ:Value→β),yc fl (h'.bl.get b) (o+1) κ=κ (.int .i64 e.r))∧
   (∀(β:Type) (fl:β) (κ:Value→β),yc fl (h'.bl.get b) (o+2) κ=κ e.q)∧
   (∀(β:Type) (fl:β) (κ:Value→β),yc fl (h'.bl.get b) (o+3) κ=κ (.int .i64 e.w))):=by
 obtain ⟨b,o,h1,h2,h3,hh⟩:=hs.ld rA i hp
 refine ⟨b,o,h1,h2,fun h' l=>?_⟩
 rw[l.get b h1]
 refine ⟨fun β fl κ=>?_,fun β fl κ=>?_,fun β fl κ=>?_,fun β fl κ=>?_,fun β fl κ=>?_,fun β fl κ=>?_⟩
 ·have:=hh.sub 0 2 (by show 0+2≤4; omega)
  rw[Nat.add_zero] at this
  exact ug this 2 κ rfl
 ·rw[ug hh 4 κ rfl]; unfold nY; rw[hq]
 ·exact ga (fl:=fl) hh 0 κ (by show 0<4; omega)
 ·exact ga (fl:=fl) hh 1 κ (by show 1<4; omega)
 ·rw[ga (fl:=fl) hh 2 κ (by show 2<4; omega)]; show κ (Ue e.q)=_; rw[hq]
 ·exact ga (fl:=fl) hh 3 κ (by show 3<4; omega)
section
variable {a h:Heap} {rb rp most:Nat} {v:Value} {K:List HE}
end
section
variable {a h:Heap} {rb rp rl most:Nat} {v:Value} {K:List HE}
end
section
variable {a h:Heap} {rb rp rl most:Nat} {v:Value} {K:List HE} {B:List Bool}
end
section
variable {a h:Heap} {rb rp rl most:Nat} {v:Value} {K:List HE} {B:List Bool}
end
section
variable {a h:Heap} {rb rp rl most:Nat} {v:Value} {K:List HE} {B:List Bool}
end
theorem nU.uniq {M:List HE} {B:List Bool} (i:nU M B) {e e':HE} (he:e∈M) (he':e'∈M) {p p':R5} (hp:p∈e.Q) (hp':p'∈e'.Q) (h:p.id=p'.id):e=e':=by
 obtain ⟨X,hX⟩:=i
 have hnd:=(List.nodup_append.1 ((hX.nodup_iff).2 (qe B))).1
 unfold ez at hnd
 rw[List.Nodup,List.pairwise_flatMap] at hnd
 obtain ⟨i,hi⟩:=List.getElem?_of_mem he
 obtain ⟨j,hj⟩:=List.getElem?_of_mem he'
 have G:=dF.1 hnd.2
 rcases Nat.lt_trichotomy i j with hl | hl | hl
 ·exact absurd h (G i j e e' hl hi hj _ (List.mem_map.2 ⟨p,hp,rfl⟩) _ (List.mem_map.2 ⟨p',hp',rfl⟩))
 ·subst hl; rw[hi] at hj; exact Option.some.inj hj
 ·exact absurd h.symm (G j i e' e hl hj hi _ (List.mem_map.2 ⟨p',hp',rfl⟩) _ (List.mem_map.2 ⟨p,hp,rfl⟩))
section
variable {h h':Heap} {bb bm bp bl most cap N:Nat} {M M' K:List HE} {clock clock':Nat} {F F':List Int} {B B':List Bool}
end
section
variable {a h:Heap} {rb rp rl most:Nat} {v:Value} {K:List HE} {B:List Bool}
end
section
variable {a h:Heap} {rb rp rl most:Nat} {v:Value} {K:List HE} {B:List Bool}
end
section
variable {a0 h:Heap} {bb bm bp bl most cap N:Nat} {M:List HE} {clock:Nat} {F:List Int} {B:List Bool} {rb rp rl:Nat} {v:Value} {K:List HE}
end
def EA (M:List HE) (t r x id:Int) (b:Bool):Prop:=(b=true∧∃e∈M,t=e.t∧r=e.r∧∃p∈e.Q,p.x=x∧p.id=id)∨(b=false∧id=0∧∀e∈M,t=e.t→r=e.r→∀p∈e.Q,p.x≠x)
theorem OQ {h:Heap} {bb bm bp bl most:Nat} {M:List HE} {clock:Nat} {F:List Int} {B:List Bool} (s:aU h bb bm bp bl most M clock F B) (hlo:h.lo≤h.nx) (t r x:Int) (κ:KQ)
  (hk:∀h' id b,EA M t r x id b→Le h h'→κ (.tuple ⟨[.int .i64 id,.bool b]⟩) h') :
  CallW Tryz.prog 250 [.pointer (some ⟨bb,0,none⟩),ew t r,.int .i64 x] h κ:=by
 refine CH s hlo t r x _ ?_ ?_
 ·intro h' hn l; exact hk h' 0 false (.inr ⟨rfl,rfl,hn⟩) l
 ·intro h' e p he ht hr hp hx l; exact hk h' _ true (.inl ⟨rfl,e,he,ht,hr,p,hp,hx,rfl⟩) l
section
variable {a0 h:Heap} {bb bm bp bl most cap N:Nat} {M:List HE} {clock:Nat} {F:List Int} {B:List Bool} {rb rp rl:Nat} {v:Value} {K:List HE}
end
end Go.Proofs

namespace Go.Vai
open Go
section
variable {β:Type} {fl:β}
theorem uA (P:Program) (t:TypeId) (cn gd:Bool) (a b:ByteArray) (h:Heap) (κ:Value→Heap→β) (hs:a.size+b.size≤9223372036854775807):au fl P .add t cn gd (.string a) (.string b) h κ=κ (.string (a++b)) h:=by
 have e:Nat.ble (Nat.add a.size b.size) 9223372036854775807=true:=Nat.ble_eq_true_of_le hs
 simp only[au]
 rw[e]
theorem HU (P:Program) (t:TypeId) (cn gd:Bool) (a b:Int) (h:Heap) (κ:Value→Heap→β):au fl P .xor t cn gd (.int .u32 a) (.int .u32 b) h κ=κ (.int .u32 (IntKind.u32.wrap ((BitVec.ofInt IntKind.u32.bits a ^^^ BitVec.ofInt IntKind.u32.bits b).toNat))) h:=by
 simp only[au,eN,jF,eO,cW]
theorem HV (P:Program) (t:TypeId) (cn gd:Bool) (a b:Int) (h:Heap) (κ:Value→Heap→β):au fl P .mul t cn gd (.int .u32 a) (.int .u32 b) h κ=κ (.int .u32 (IntKind.u32.wrap (a*b))) h:=by
 simp only[au,eN,jF,eO,cW]; rfl
theorem HW (P:Program) (t:TypeId) (cn gd:Bool) (a b:Int) (h:Heap) (κ:Value→Heap→β) (hb:b≠0):au fl P .rem t cn gd (.int .u32 a) (.int .u32 b) h κ=κ (.int .u32 (Int.tmod a b)) h:=by
 simp only[au,eN,jF,eO,eP,hb,decide_false]
theorem CV (k:IntKind) (a:Int) (h:Heap) (κ:Value→Heap→β):jI fl .u32 (.int k a) h κ=κ (.int .u32 (IntKind.u32.wrap a)) h:=by simp only[jI,eO,cW]
theorem z8 (a:Int):0≤IntKind.u32.wrap a∧IntKind.u32.wrap a<4294967296:=by
 unfold IntKind.wrap
 simp only[IntKind.bits,IntKind.signed]
 have h1:=Int.emod_nonneg a (show (2:Int) ^ 32≠0 by decide)
 have h2:=Int.emod_lt_of_pos a (show (0:Int)<2 ^ 32 by decide)
 simp at *
 omega
theorem HX {a:Int} (h:0≤a∧a<4294967296):IntKind.u32.wrap a=a:=by
 unfold IntKind.wrap
 simp only[IntKind.bits,IntKind.signed]
 have:=Int.emod_eq_of_lt h.1 (show a<2 ^ 32 by omega)
 simp at *
 omega
theorem OS (s:ByteArray):iI 8 (.string s) (.string s)=true:=by
 show jD s s=true
 rw[iK]; simp
def wK (s:ByteArray):List Value:=s.data.toList.map fun b:UInt8=>Value.int .u8 (Int.ofNat b.toNat)
theorem EB {s:ByteArray} {i:Nat} (h:i<s.data.toList.length):(wK s)[i]? = some (.int .u8 (Int.ofNat (s.data.toList[i]).toNat)):=by
 unfold wK; rw[List.getElem?_map,List.getElem?_eq_getElem h]; rfl
theorem CW (e:TypeId) (s:ByteArray) (h:Heap) (κ:Value→Heap→β) (hs:s.data.toList.length≤1000000000000) :
  mV fl e (.string s) h κ=κ (.slice (some ⟨h.nx,0,none⟩) s.data.toList.length aD) ⟨h.nx+1,h.bl.aS h.nx (V6 (wK s) e),h.lo⟩:=by
 unfold mV
 simp only[x6,uc,Nat.zero_add,List.length_map]
 rw[Nat.ble_eq_true_of_le hs]
 simp only[c6]
 unfold V6 wK
 simp only[List.length_map]
end
end Go.Vai

namespace Go.Proofs
open Go.Vai Go.Clashes
def EC (n:Int):Bool:=decide (0≤n) && decide (n<100)
theorem rC (n:Int) {h:Heap} {κ:Value→Heap→Prop} (hk:κ (.bool (EC n)) h):CallW Tryz.prog 149 [.int .i64 n] h κ:=by
 refine gU (v:=.bool (EC n)) rfl rfl (aj mixed ?_) hk
 rw[Sx]
 by_cases h1:n<0
 ·simp(disch:=first|omega|simp only[Wd]<;>omega|with_unfolding_all rfl)only[Wz,fH h1]; simp[EC]; omega
 ·by_cases h2:n<100
  ·simp(disch:=first|omega|simp only[Wd]<;>omega|with_unfolding_all rfl)only[Wz,cg (show 0≤n by omega),fH h2]; simp[EC]; omega
  ·simp(disch:=first|omega|simp only[Wd]<;>omega|with_unfolding_all rfl)only[Wz,cg (show 0≤n by omega),cg (show 100≤n by omega)]; simp[EC]; omega
theorem ED (h:Heap) (κ:KQ) (hlo:h.lo≤h.nx) (hk:∀h',Le h h'→κ (ew (-1) (-1)) h'):CallW Tryz.prog 148 [] h κ:=by
 refine aj mixed ?_
 rw[Sw]
 simp(disch:=first|omega|simp only[Wd]<;>omega|with_unfolding_all rfl)only[Wz]
 exact hk _ ((Le.refl h).new _)
def bY (t r:Int):Int:=if t = -1∧r = -1 then 0 else if EC t=true∧r = -1 then 1 else if EC t=true∧EC r=true then 2 else -1
theorem Lx (t r:Int) (h:Heap) (κ:KQ) (hlo:h.lo≤h.nx) (hk:∀h',Le h h'→κ (.int .i64 (bY t r)) h'):CallW Tryz.prog 112 [ew t r] h κ:=by
 refine aj mixed ?_
 rw[Sj]
 simp(disch:=first|omega|simp only[Wd]<;>omega|with_unfolding_all rfl)only[Wz,ew]
 obtain ⟨hA,aK⟩:∃hA:Heap,hA=⟨h.nx+1,(h.bl.aS (h.nx) (aa [.int .i64 t,.int .i64 r] 36 false)),h.lo⟩:=⟨_,rfl⟩
 have aO:Le h hA:=by subst aK; exact ((Le.refl h).new _)
 have g1:hA.bl.get (h.nx)=some (aa [.int .i64 t,.int .i64 r] 36 false):=by subst aK; exact T.af _ _ _
 have gH:hA.nx=h.nx+1:=by subst aK; rfl
 have gI:hA.lo=h.lo:=by subst aK; rfl
 rw[←aK]
 clear aK
 refine ED hA _ (by omega) ?_
 intro h2 bF
 have CX:=bF.nx
 have CY:=bF.lo
 have g1:=(bF.get _ (by omega)).trans g1
 have hk:=hk h2 (aO.trans bF)
 simp(disch:=first|omega|simp only[Wd]<;>omega|with_unfolding_all rfl)only[Wz,ew,g1,mj,z7]
 by_cases h0:t = -1∧r = -1
 ·simp(disch:=first|omega|simp only[Wd]<;>omega|with_unfolding_all rfl)only[Wz,bf h0]
  have e:bY t r=0:=by simp[bY,h0]
  rw[e] at hk; exact hk
 ·simp(disch:=first|omega|simp only[Wd]<;>omega|with_unfolding_all rfl)only[Wz,a_ h0,BC,g1]
  refine rC t ?_
  cases ht:EC t with
  | false=>
   simp(disch:=first|omega|simp only[Wd]<;>omega|with_unfolding_all rfl)only[Wz,vF,g1]
   refine rC t ?_
   rw[ht]
   have e:bY t r = -1:=by unfold bY; rw[if_neg h0,ht]; simp
   rw[e] at hk
   simp(disch:=first|omega|simp only[Wd]<;>omega|with_unfolding_all rfl)only[Wz]
   exact hk
  | true=>
   by_cases hr:r = -1
   ·simp(disch:=first|omega|simp only[Wd]<;>omega|with_unfolding_all rfl)only[Wz,bf hr,g1]
    have e:bY t r=1:=by unfold bY; rw[if_neg h0,ht,hr]; simp
    rw[e] at hk; exact hk
   ·simp(disch:=first|omega|simp only[Wd]<;>omega|with_unfolding_all rfl)only[Wz,a_ hr,vF,g1]
    refine rC t ?_
    rw[ht]
    simp(disch:=first|omega|simp only[Wd]<;>omega|with_unfolding_all rfl)only[Wz,g1]
    refine rC r ?_
    cases Ix:EC r with
    | false=>
     have e:bY t r = -1:=by unfold bY; rw[if_neg h0,ht,Ix]; simp[hr]
     rw[e] at hk
     simp(disch:=first|omega|simp only[Wd]<;>omega|with_unfolding_all rfl)only[Wz]
     exact hk
    | true=>
     have e:bY t r=2:=by unfold bY; rw[if_neg h0,ht,Ix]; simp[hr]
     rw[e] at hk
     simp(disch:=first|omega|simp only[Wd]<;>omega|with_unfolding_all rfl)only[Wz]
     exact hk
theorem Gp (t r:Int) {h:Heap} {κ:Value→Heap→Prop} (hk:κ (.int .i64 (bY t r)) h):CallW Tryz.prog 112 [ew t r] h κ:=
 gU (v:=.int .i64 (bY t r)) rfl rfl (Lx t r vv _ (Nat.le_refl _) fun _ _=>rfl) hk
theorem CZ (t r:Int) {h:Heap} {κ:Value→Heap→Prop} (hk:κ (.int .i64 (if bY t r = -1 then 2 else 0)) h):CallW Tryz.prog 72 [ew t r] h κ:=by
 refine gU (v:=.int .i64 (if bY t r = -1 then 2 else 0)) rfl rfl (aj mixed ?_) hk
 rw[WW]
 simp(disch:=first|omega|simp only[Wd]<;>omega|with_unfolding_all rfl)only[Wz,ew]
 refine Gp t r ?_
 by_cases h:bY t r = -1
 ·simp(disch:=first|omega|simp only[Wd]<;>omega|with_unfolding_all rfl)only[Wz,bf h]; simp[h]
 ·simp(disch:=first|omega|simp only[Wd]<;>omega|with_unfolding_all rfl)only[Wz,a_ h]; simp[h]
def jk (n:Nat):ByteArray:=if n<10 then ⟨#[UInt8.ofNat (48+n)]⟩ else ⟨#[UInt8.ofNat (48+n / 10),UInt8.ofNat (48+n % 10)]⟩
theorem Ui:∀n,n<100→bA Tryz.prog 60 200 [.int .i64 (n:Nat)] (.string (jk n))=true:=by
 intro n hn
 have:(List.range 100).all (fun n=>bA Tryz.prog 60 200 [.int .i64 ((n:Nat):Int)] (.string (jk n)))=true:=by kernel_rfl
 exact List.all_eq_true.1 this n (List.mem_range.2 hn)
theorem EE (n:Int) (hn:EC n=true) {h:Heap} {κ:Value→Heap→Prop} (hk:κ (.string (jk n.toNat)) h):CallW Tryz.prog 200 [.int .i64 n] h κ:=by
 have h1:0≤n∧n<100:=by simpa[EC] using hn
 obtain ⟨k,rfl⟩:∃k:Nat,n=(k:Int):=⟨n.toNat,by omega⟩
 rw[Int.toNat_natCast] at hk
 exact zo mixed (Ui k (by omega)) hk
def iq (t r:Int):ByteArray:=if bY t r=0 then ⟨#[100,98]⟩ else if bY t r=1 then (⟨#[116]⟩:ByteArray)++jk t.toNat else (⟨#[116]⟩:ByteArray)++jk t.toNat++(⟨#[46,114]⟩:ByteArray)++jk r.toNat
theorem oD (n:Nat):(jk n).size≤2:=by
 unfold jk
 split<;>simp[ByteArray.size]
theorem C0 {t r:Int} (h:bY t r≠-1):bY t r=0∨(bY t r=1∧EC t=true)∨(bY t r=2∧EC t=true∧EC r=true):=by
 unfold bY at *
 split
 ·exact .inl rfl
 ·split
  ·rename_i h1; exact .inr (.inl ⟨rfl,h1.1⟩)
  ·split
   ·rename_i h1; exact .inr (.inr ⟨rfl,h1⟩)
   ·rename_i h1 h2 h3; rw[if_neg h1,if_neg h2,if_neg h3] at h; exact absurd rfl h
theorem Uj (t r:Int) (hl:bY t r≠-1) {h:Heap} {κ:Value→Heap→Prop} (hk:κ (.string (iq t r)) h):CallW Tryz.prog 151 [ew t r] h κ:=by
 refine gU (v:=.string (iq t r)) rfl rfl (aj mixed ?_) hk
 rw[Sz]
 simp(disch:=first|omega|simp only[Wd]<;>omega|with_unfolding_all rfl)only[Wz,ew]
 refine Gp t r ?_
 have st:=oD t.toNat
 have sr:=oD r.toNat
 rcases C0 hl with e | ⟨e,ht⟩ | ⟨e,ht,hr⟩
 ·rw[e]; simp(disch:=first|omega|simp only[Wd]<;>omega|with_unfolding_all rfl)only[Wz]; simp[iq,e]
 ·rw[e]
  simp(disch:=first|omega|simp only[Wd]<;>omega|with_unfolding_all rfl)only[Wz,vG]
  refine EE t ht ?_
  rw[uA _ _ _ _ _ _ _ _ (by show 1+_≤_; omega)]
  simp[iq,e]
 ·rw[e]
  simp(disch:=first|omega|simp only[Wd]<;>omega|with_unfolding_all rfl)only[Wz,vG,BK]
  have e1:∀(β:Type) (fl:β) (cn gd:Bool) (h:Heap) (κ:Value→Heap→β),au fl Tryz.prog .add 9 cn gd (.string ⟨#[116]⟩) (.string (jk t.toNat)) h κ=κ (.string ((⟨#[116]⟩:ByteArray)++jk t.toNat)) h:=fun β fl cn gd h κ=>uA _ _ _ _ _ _ _ _ (by show 1+_≤_; omega)
  have e2:∀(β:Type) (fl:β) (cn gd:Bool) (h:Heap) (κ:Value→Heap→β),au fl Tryz.prog .add 9 cn gd (.string ((⟨#[116]⟩:ByteArray)++jk t.toNat)) (.string ⟨#[46,114]⟩) h κ=κ (.string ((⟨#[116]⟩:ByteArray)++jk t.toNat++(⟨#[46,114]⟩:ByteArray))) h:=fun β fl cn gd h κ=>uA _ _ _ _ _ _ _ _ (by rw[ByteArray.size_append]; show 1+_+2≤_; omega)
  have e3:∀(β:Type) (fl:β) (cn gd:Bool) (h:Heap) (κ:Value→Heap→β),au fl Tryz.prog .add 9 cn gd (.string ((⟨#[116]⟩:ByteArray)++jk t.toNat++(⟨#[46,114]⟩:ByteArray))) (.string (jk r.toNat)) h κ=κ (.string ((⟨#[116]⟩:ByteArray)++jk t.toNat++(⟨#[46,114]⟩:ByteArray)++jk r.toNat)) h:=fun β fl cn gd h κ=>uA _ _ _ _ _ _ _ _ (by rw[ByteArray.size_append,ByteArray.size_append]; show 1+_+2+_≤_; omega)
  refine EE t ht ?_
  simp(disch:=first|omega|simp only[Wd]<;>omega|with_unfolding_all rfl)only[Wz,e1,e2]
  refine EE r hr ?_
  simp(disch:=first|omega|simp only[Wd]<;>omega|with_unfolding_all rfl)only[Wz,e1,e2,e3,OS]
  simp[iq,e]
def yH (a:Int) (b:UInt8):Int:=IntKind.u32.wrap (IntKind.u32.wrap ((BitVec.ofInt IntKind.u32.bits a ^^^ BitVec.ofInt IntKind.u32.bits (IntKind.u32.wrap (Int.ofNat b.toNat))).toNat)*16777619)
def sI (s:ByteArray):Int:=s.data.toList.foldl yH 2166136261
theorem C1 (a:Int) (b:UInt8):0≤yH a b∧yH a b<4294967296:=z8 _
theorem qh (s:ByteArray):0≤sI s∧sI s<4294967296:=by
 unfold sI
 have:∀(l:List UInt8) (a:Int),(0≤a∧a<4294967296)→0≤l.foldl yH a∧l.foldl yH a<4294967296:=by
  intro l
  induction l with
  | nil=>exact fun a h=>h
  | cons b l ih=>exact fun a _=>ih _ (C1 a b)
 exact this _ _ (by decide)
theorem Yk (s:ByteArray) (hs:s.data.toList.length≤1000) {h:Heap} {κ:Value→Heap→Prop} (hk:κ (.int .u32 (sI s)) h):CallW Tryz.prog 150 [.string s] h κ:=by
 refine gU (v:=.int .u32 (sI s)) rfl rfl (aj mixed ?_) hk
 rw[Sy]
 rw[CW _ _ _ _ (by omega)]
 simp(disch:=first|omega|simp only[Wd]<;>omega|with_unfolding_all rfl)only[Wz]
 refine ⟨fun n l h1=>∃i:Nat,slot l 12=.int .i64 (i:Int)∧slot l 10=.int .u32 ((s.data.toList.take i).foldl yH 2166136261)∧i≤s.data.toList.length∧n=s.data.toList.length-i∧HQ ⟨vv.nx+1,vv.bl.aS vv.nx (V6 (wK s) 5),vv.lo⟩ h1,⟨_,0,rfl,rfl,Nat.zero_le _,rfl,rfl⟩,?_⟩
 rintro n l h1 ⟨i,s1,s2,hi,rfl,hq⟩
 cases (show _=h1 from hq)
 by_cases hlt:i<s.data.toList.length
 ·have hg:=EB hlt
  simp(disch:=first|omega|simp only[Wd]<;>omega|with_unfolding_all rfl)only[Wz,s1,fH (show (i:Int)<(s.data.toList.length:Int) by omega),BJ,aN,Nat.mul_one,hg,s2,CV,HU,HV]
  refine ⟨_,by omega,i+1,rfl,?_,by omega,rfl,rfl⟩
  rw[List.take_add_one,List.getElem?_eq_getElem hlt]
  simp only[Option.toList_some,List.foldl_append,List.foldl_cons,List.foldl_nil]
  rfl
 ·have hil:i=s.data.toList.length:=by omega
  simp(disch:=first|omega|simp only[Wd]<;>omega|with_unfolding_all rfl)only[Wz,s1,cg (show (s.data.toList.length:Int)≤(i:Int) by omega),s2]
  rw[hil,List.take_length]; rfl
theorem Ly (t r:Int):(iq t r).data.toList.length≤1000:=by
 have st:=oD t.toNat
 have sr:=oD r.toNat
 have:(iq t r).size≤1000:=by
  unfold iq
  split
  ·decide
  ·split
   ·rw[ByteArray.size_append]; show 1+_≤_; omega
   ·rw[ByteArray.size_append,ByteArray.size_append,ByteArray.size_append]; show 1+_+2+_≤_; omega
 exact this
theorem Uk (t r:Int) (hl:bY t r≠-1) {h:Heap} {κ:Value→Heap→Prop} (hk:κ (.int .u32 (sI (iq t r))) h):CallW Tryz.prog 114 [ew t r] h κ:=by
 refine gU (v:=.int .u32 (sI (iq t r))) rfl rfl (aj mixed ?_) hk
 rw[Sm]
 simp(disch:=first|omega|simp only[Wd]<;>omega|with_unfolding_all rfl)only[Wz,ew]
 refine Uj t r hl ?_
 refine Yk _ (Ly t r) ?_
 rfl
def bT (t r s:Int):Int:=if s<1∨16<s∨bY t r = -1 then -1 else Int.tmod (sI (iq t r)) s
theorem wL {t r s:Int} (h:bT t r s≠-1):0≤bT t r s∧bT t r s<s∧bY t r≠-1:=by
 unfold bT at *
 by_cases hc:s<1∨16<s∨bY t r = -1
 ·rw[if_pos hc] at h; exact absurd rfl h
 ·rw[if_neg hc]
  have h1:=qh (iq t r)
  have h2:=Int.tmod_lt_of_pos (sI (iq t r)) (show 0<s by omega)
  have h3:=Int.tmod_nonneg s h1.1
  exact ⟨h3,h2,fun e=>hc (.inr (.inr e))⟩
theorem Yl (s:Int) {h:Heap} {κ:Value→Heap→Prop} (hk:κ (.bool (decide (1≤s) && decide (s≤16))) h):CallW Tryz.prog 113 [.int .i64 s] h κ:=by
 refine gU (v:=.bool (decide (1≤s) && decide (s≤16))) rfl rfl (aj mixed ?_) hk
 rw[Sk]
 by_cases h1:s<1
 ·simp(disch:=first|omega|simp only[Wd]<;>omega|with_unfolding_all rfl)only[Wz,fH h1]; simp; omega
 ·by_cases h2:16<s
  ·simp(disch:=first|omega|simp only[Wd]<;>omega|with_unfolding_all rfl)only[Wz,cg (show 1≤s by omega),fH h2]; simp; omega
  ·simp(disch:=first|omega|simp only[Wd]<;>omega|with_unfolding_all rfl)only[Wz,cg (show 1≤s by omega),cg (show s≤16 by omega)]; simp; omega
theorem LA (t r s:Int) {h:Heap} {κ:Value→Heap→Prop} (hk:κ (.int .i64 (bT t r s)) h):CallW Tryz.prog 74 [ew t r,.int .i64 s] h κ:=by
 refine gU (v:=.int .i64 (bT t r s)) rfl rfl (aj mixed ?_) hk
 rw[WY]
 simp(disch:=first|omega|simp only[Wd]<;>omega|with_unfolding_all rfl)only[Wz,ew]
 refine Yl s ?_
 by_cases h1:1≤s∧s≤16
 ·simp(disch:=first|omega|simp only[Wd]<;>omega|with_unfolding_all rfl)only[Wz,bf h1.1,bf h1.2]
  refine CZ t r ?_
  by_cases hl:bY t r = -1
  ·rw[if_pos hl]
   simp(disch:=first|omega|simp only[Wd]<;>omega|with_unfolding_all rfl)only[Wz]
   simp[bT,hl]
  ·rw[if_neg hl]
   simp(disch:=first|omega|simp only[Wd]<;>omega|with_unfolding_all rfl)only[Wz]
   refine Uk t r hl ?_
   have hr:=qh (iq t r)
   have h2:=Int.tmod_lt_of_pos (sI (iq t r)) (show 0<s by omega)
   have h3:=Int.tmod_nonneg s hr.1
   simp(disch:=first|omega|simp only[Wd]<;>omega|with_unfolding_all rfl)only[Wz,CV,HX,HW]
   unfold bT
   rw[if_neg (by omega)]
 ·have e:(decide (1≤s) && decide (s≤16))=false:=by simp; omega
  rw[e]
  simp(disch:=first|omega|simp only[Wd]<;>omega|with_unfolding_all rfl)only[Wz]
  unfold bT
  rw[if_pos (by omega)]
abbrev IE:=Int × Int × Nat
def tT (e:IE):MapEntry:={ key:=.int .i64 e.1,val:=.int .i64 e.2.1,born:=e.2.2 }
def HY (W:List IE) (k:Int):Option Int:=(W.find? fun e=>decide (k=e.1)).map fun e=>e.2.1
theorem eqI (h:Heap) (a b:Int):lT Tryz.prog h 100 3 (.int .i64 a) (.int .i64 b)=some (decide (a=b)):=by
 have:lT Tryz.prog h 100 3 (.int .i64 a) (.int .i64 b)=some (pg a b):=by kernel_rfl
 rw[this,eP]
theorem OT (t:Int):jf Tryz.prog 20 3 (.int .i64 t)=true:=by kernel_rfl
theorem NF (t:Int):iI 3 (.int .i64 t) (.int .i64 t)=true:=by
 show (eN .i64 .i64 && pg t t)=true
 rw[eP,bf rfl]; rfl
theorem QI (h:Heap) (k:Int):∀(M:List IE) (i:Nat),(fC Tryz.prog h 3 (.int .i64 k) (M.map tT) i=some none∧M.find? (fun e=>decide (k=e.1))=none)∨
  ∃(j:Nat) (e:IE),fC Tryz.prog h 3 (.int .i64 k) (M.map tT) i=some (some (i+j,tT e))∧M[j]? = some e∧k=e.1∧M.find? (fun e=>decide (k=e.1))=some e∧∀(v:Int) (k':Int),(M.set j (e.1,v,e.2.2)).find? (fun e=>decide (k'=e.1))=if k'=k then some (e.1,v,e.2.2) else M.find? (fun e=>decide (k'=e.1)):=by
 intro M
 induction M with
 | nil=>intro i; exact .inl ⟨rfl,rfl⟩
 | cons e M ih=>
  intro i
  have hf:fC Tryz.prog h 3 (.int .i64 k) ((e::M).map tT) i=(match (some (decide (k=e.1)):Option Bool) with | some true=>some (some (i,tT e)) | some false=>fC Tryz.prog h 3 (.int .i64 k) (M.map tT) (Nat.succ i) | none=>none):=by
   rw[←eqI h]; rfl
  rw[hf]
  by_cases h1:k=e.1
  ·rw[bf h1]
   refine .inr ⟨0,e,rfl,rfl,h1,by rw[List.find?_cons,bf h1],fun v k'=>?_⟩
   rw[List.set_cons_zero,List.find?_cons,List.find?_cons]
   by_cases h2:k'=k
   ·rw[if_pos h2,bf (h2.trans h1)]
   ·rw[if_neg h2,a_ (fun e'=>h2 (e'.trans h1.symm))]
  ·rw[a_ h1]
   rcases ih (Nat.succ i) with ⟨g1,g2⟩ | ⟨j,e',g1,g2,g3,g4,g5⟩
   ·exact .inl ⟨g1,by rw[List.find?_cons,a_ h1]; exact g2⟩
   ·refine .inr ⟨j+1,e',by rw[show i+(j+1)=Nat.succ i+j by omega]; exact g1,g2,g3,by rw[List.find?_cons,a_ h1]; exact g4,fun v k'=>?_⟩
    rw[List.set_cons_succ,List.find?_cons,List.find?_cons]
    by_cases h2:k'=e.1
    ·rw[bf h2]
     simp only
     rw[if_neg (fun e'=>h1 (e'.symm.trans h2))]
    ·rw[a_ h2]
     exact g5 v k'
theorem Ym {β:Type} {fl:β} {W:List IE} {clock:Nat} {h:Heap} {bw:Nat} (g:h.bl.get bw=some (.map (W.map tT) clock)) (k:Int) (κ:Value→Heap→β) :
  c8 fl Tryz.prog 3 (.int .i64 0) true (.map (some bw)) (.int .i64 k) h κ=κ (.tuple ⟨[.int .i64 ((HY W k).getD 0),.bool (HY W k).isSome]⟩) h:=by
 unfold c8 jm HY
 rw[OT]
 simp only[g]
 rcases QI h k W 0 with ⟨g1,g2⟩ | ⟨j,e',g1,g2,g3,g4,_⟩
 ·rw[g1,g2]; rfl
 ·rw[g1,g4]; rfl
theorem LB {W:List IE} {clock:Nat} {h:Heap} {bw:Nat} (g:h.bl.get bw=some (.map (W.map tT) clock)) (hlo:h.lo≤bw) (k v:Int) (κ:KQ)
  (hk:∀W' clock',(∀j,HY W' j=if j=k then some v else HY W j)→κ undef ⟨h.nx,h.bl.aS bw (.map (W'.map tT) clock'),h.lo⟩) :
  bW False Tryz.prog 3 (.map (some bw)) (.int .i64 k) (.int .i64 v) h κ:=by
 unfold bW
 rw[OT]
 simp only[g]
 rcases QI h k W 0 with ⟨g1,g2⟩ | ⟨j,e,g1,g2,g3,g4,g5⟩
 ·rw[g1]
  simp only
  rw[nj]
  simp only[bL]
  rw[bD _ _ _ _ hlo]
  have:=hk (W++[(k,v,clock)]) (clock+1) fun j=>by
   unfold HY
   rw[List.find?_append]
   by_cases hj:j=k
   ·rw[if_pos hj,hj,g2]; simp
   ·rw[if_neg hj]
    simp[List.find?_cons,hj]
  rw[List.map_append] at this
  exact this
 ·rw[g1]
  subst g3
  simp only[tT,NF]
  rw[Nat.zero_add,qD _ _ j (tT e) _ (by rw[List.getElem?_map,g2]; rfl),bD _ _ _ _ hlo]
  have:=hk (W.set j (e.1,v,e.2.2)) clock fun i=>by
   unfold HY
   rw[g5 v i]
   split<;>rfl
  rw[List.map_set] at this
  exact this
theorem mT.keep {h h':Heap} {bb bm bp bl most clock:Nat} {M:List HE} {F:List Int} {B:List Bool} (s:aU h bb bm bp bl most M clock F B) (f:mT bm bp bl h h') {c:Nat} {vs:List Value} {ty:TypeId} {op:Bool} (hc:c<h.nx) (hg:h.bl.get c=some (aa vs ty op)) (h1:ty≠225) (h2:ty≠4) (h3:ty≠3):h'.bl.get c=h.bl.get c:=by
 obtain ⟨fs,tQ,hpt⟩:=s.ck.fr.cell
 have gl:=s.ck.cell
 have gm:=s.eM
 exact f.get c hc (by rintro rfl; rw[hg] at gm; exact bu gm.symm) (by rintro rfl; rw[hg] at tQ; exact aX h1 tQ) (by rintro rfl; rw[hg] at gl; exact aX h2 gl) fun ws=>by rw[hg]; exact aX h3
theorem mT.Gq {h h':Heap} {bb bm bp bl most clock:Nat} {M:List HE} {F:List Int} {B:List Bool} (s:aU h bb bm bp bl most M clock F B) (f:mT bm bp bl h h') {c:Nat} {es:List MapEntry} {cl:Nat} (hc:c<h.nx) (hg:h.bl.get c=some (.map es cl)) (hne:c≠bm):h'.bl.get c=h.bl.get c:=by
 obtain ⟨fs,tQ,hpt⟩:=s.ck.fr.cell
 have gl:=s.ck.cell
 exact f.get c hc hne (by rintro rfl; rw[tQ] at hg; exact bu hg.symm) (by rintro rfl; rw[gl] at hg; exact bu hg.symm) fun ws=>by rw[hg]; exact bu
theorem aU.aside {h h':Heap} {bb bm bb2 bm2 bp bl most QJ clock LC:Nat} {M M2:List HE} {F F':List Int} {B B':List Bool} (s:aU h bb bm bp bl most M clock F B) (f:mT bm bp bl h h') (s2:aU h bb2 bm2 bp bl QJ M2 LC F B) (hne:bm2≠bm) (p:de h' bp bl F' B'):aU h' bb2 bm2 bp bl QJ M2 LC F' B':=by
 have fn:=f.nx
 have fl:=f.lo
 have sb:=s2.IB
 have sm:=s2.rP
 refine ⟨by omega,by omega,by rw[fl]; exact s2.Ox,(f.keep s sb s2.fq (by decide) (by decide) (by decide)).trans s2.fq,(f.Gq s sm s2.eM hne).trans s2.eM,s2.ok,fun e he=>?_,s2.good,p,s2.ne⟩
 have a:=s2.aH e he
 have al:=a.lt
 exact ⟨by omega,(f.keep s al a.get (by decide) (by decide) (by decide)).trans a.get,a.qv.frame fn fun c vs op hc hg=>f.keep s hc hg (by decide) (by decide) (by decide)⟩
structure TB where
 bb:Nat
 bm:Nat
 M:List HE
 clock:Nat
def kJ (b:TB):List Value:=[.pointer (some ⟨b.bb,0,none⟩)]
theorem yI (b:TB):(kJ b).length=1:=rfl
theorem HZ (b:TB):(kJ b).all d_=true:=rfl
structure dg where
 S:Int
 H:Int
 R:Int
 P:Int
structure dA (h:Heap) (tb bw bp bl:Nat) (c:dg) (vb:Value) (aH:Nat) (T:List TB) (W:List IE) (wc:Nat) (F:List Int) (B:List Bool):Prop where
 Vj:tb<h.nx
 kK:h.bl.get tb=some (aa [.int .i64 c.S,.int .i64 c.H,.int .i64 c.R,.int .i64 c.P,.pointer (some ⟨bp,0,none⟩),vb,.map (some bw)] 147 false)
 sl:Sl kJ h vb T
 ty:uj 182 h vb
 xg:bw<h.nx
 low:h.lo≤bw
 lK:h.bl.get bw=some (.map (W.map tT) wc)
 bk:∀b∈T,aU h b.bb b.bm bp bl aH b.M b.clock F B
 xO:T.Pairwise fun a b=>a.bm≠b.bm
 Vk:∀b∈T,bw≠b.bm
 ck:de h bp bl F B
 cS:c.S=T.length
 s1:1≤T.length∧T.length≤16
 hd:aH≤64
theorem Sl.z_ {α:Type} {enc:α→List Value} {h h':Heap} {v:Value} {L:List α} {e:TypeId} (s:Sl enc h v L) (t:uj e h v) (hn:h.nx≤h'.nx) (hg:∀c vs op,c<h.nx→h.bl.get c=some (aa vs e op)→h'.bl.get c=h.bl.get c):Sl enc h' v L∧uj e h' v:=by
 constructor
 ·obtain ⟨x,cap,rfl,h2⟩:=s
  refine ⟨x,cap,rfl,fun hne=>?_⟩
  obtain ⟨b,o,rfl,h3,h4⟩:=h2 hne
  obtain ⟨h1,vs,op,h5⟩:=t b o _ cap rfl (by intro h0; exact hne (List.eq_nil_of_length_eq_zero h0))
  refine ⟨b,o,rfl,Nat.lt_of_lt_of_le h3 hn,?_⟩
  rw[hg b vs op h1 h5]; exact h4
 ·intro b o n c hv hn0
  obtain ⟨h1,vs,op,h2⟩:=t b o n c hv hn0
  exact ⟨Nat.lt_of_lt_of_le h1 hn,vs,op,(hg b vs op h1 h2).trans h2⟩
theorem dA.le {h h':Heap} {tb bw bp bl:Nat} {c:dg} {vb:Value} {aH:Nat} {T:List TB} {W:List IE} {wc:Nat} {F:List Int} {B:List Bool} (s:dA h tb bw bp bl c vb aH T W wc F B) (l:Le h h'):dA h' tb bw bp bl c vb aH T W wc F B:=
 ⟨Nat.lt_of_lt_of_le s.Vj l.nx,(l.get _ s.Vj).trans s.kK,s.sl.le l,s.ty.le l,Nat.lt_of_lt_of_le s.xg l.nx,by rw[l.lo]; exact s.low,(l.get _ s.xg).trans s.lK,fun b hb=>(s.bk b hb).le l,s.xO,s.Vk,s.ck.le l,s.cS,s.s1,s.hd⟩
theorem LD {T:List TB} {k:Nat} {b:TB} (hk:T[k]? = some b) (M':List HE) (clock':Nat):(T.set k ⟨b.bb,b.bm,M',clock'⟩).flatMap kJ=T.flatMap kJ:=by
 obtain ⟨hl,rfl⟩:=List.getElem?_eq_some_iff.1 hk
 rw[List.flatMap_def,List.flatMap_def,List.map_set]
 congr 1
 refine List.ext_getElem? fun i=>?_
 rw[List.getElem?_set]
 split
 ·rename_i e; subst e
  rw[if_pos (by simpa using hl),List.getElem?_map,List.getElem?_eq_getElem hl]; rfl
 ·rfl
theorem Sl.congr {α:Type} {enc:α→List Value} {h:Heap} {v:Value} {L L':List α} (s:Sl enc h v L) (hl:L'.length=L.length) (hf:L'.flatMap enc=L.flatMap enc):Sl enc h v L':=by
 obtain ⟨x,cap,rfl,h2⟩:=s
 refine ⟨x,cap,by rw[hl],fun hne=>?_⟩
 rw[hf]
 exact h2 (fun e=>hne (List.eq_nil_of_length_eq_zero (by rw[hl,e]; rfl)))
theorem dA.change {h h':Heap} {tb bw bp bl:Nat} {c:dg} {vb:Value} {aH:Nat} {T:List TB} {W:List IE} {wc:Nat} {F F':List Int} {B B':List Bool} (s:dA h tb bw bp bl c vb aH T W wc F B) {k:Nat} {b:TB} (hk:T[k]? = some b) {M':List HE} {clock':Nat} (Yn:aU h' b.bb b.bm bp bl aH M' clock' F' B') (f:mT b.bm bp bl h h') :
  dA h' tb bw bp bl c vb aH (T.set k ⟨b.bb,b.bm,M',clock'⟩) W wc F' B':=by
 have hb:=s.bk b (List.mem_of_getElem? hk)
 have fn:=f.nx
 have fl:=f.lo
 have h1:=s.Vj
 have h2:=s.xg
 have k1:=Sl.z_ s.sl s.ty fn fun c vs op hc hg=>f.keep hb hc hg (by decide) (by decide) (by decide)
 have Yo:=s.Vk b (List.mem_of_getElem? hk)
 have iy:∀x∈T.set k ⟨b.bb,b.bm,M',clock'⟩,(x=⟨b.bb,b.bm,M',clock'⟩)∨(x∈T∧x.bm≠b.bm):=by
  intro x hx
  obtain ⟨i,hi⟩:=List.getElem?_of_mem hx
  rw[List.getElem?_set] at hi
  split at hi
  ·split at hi
   ·exact .inl (Option.some.inj hi).symm
   ·cases hi
  ·rename_i hne
   refine .inr ⟨List.mem_of_getElem? hi,?_⟩
   rcases Nat.lt_trichotomy i k with h3 | h3 | h3
   ·exact dF.1 s.xO i k x b h3 hi hk
   ·exact absurd h3.symm hne
   ·exact fun e=>dF.1 s.xO k i b x h3 hk hi e.symm
 refine ⟨by omega,(f.keep hb h1 s.kK (by decide) (by decide) (by decide)).trans s.kK,Sl.congr k1.1 (List.length_set ..) (LD hk _ _),k1.2,by omega,by rw[fl]; exact s.low,(f.Gq hb h2 s.lK Yo).trans s.lK,?_,?_,?_,Yn.ck,by rw[List.length_set]; exact s.cS,by rw[List.length_set]; exact s.s1,s.hd⟩
 ·intro x hx
  rcases iy x hx with rfl | ⟨hx,hne⟩
  ·exact Yn
  ·exact hb.aside f (s.bk x hx) hne Yn.ck
 ·refine pW s.xO (fun j q hj hq=>dF.1 s.xO j k q b hj hq hk) (fun j q hj hq=>dF.1 s.xO k j b q hj hk hq)
 ·intro x hx
  rcases iy x hx with rfl | ⟨hx,_⟩
  ·exact Yo
  ·exact s.Vk x hx
theorem qi {α β:Type} (f:α→List β) {T:List α} {k:Nat} {b:α} (hk:T[k]? = some b):∃X,∀b',((T.set k b').flatMap f).Perm (f b'++X):=by
 obtain ⟨hl,_⟩:=List.getElem?_eq_some_iff.1 hk
 refine ⟨(T.take k).flatMap f++(T.drop (k+1)).flatMap f,fun b'=>?_⟩
 rw[List.set_eq_take_append_cons_drop,if_pos hl,List.flatMap_append,List.flatMap_cons]
 exact List.perm_append_comm_assoc _ _ _
theorem wM {α:Type} {T:List α} {k:Nat} {b:α} (hk:T[k]? = some b):T.set k b=T:=by
 refine List.ext_getElem? fun i=>?_
 rw[List.getElem?_set]
 split
 ·rename_i e; subst e; rw[hk,if_pos (List.getElem?_eq_some_iff.1 hk).1]
 ·rfl
section
variable {h h':Heap} {bb bm bp bl most:Nat} {M M':List HE} {clock clock':Nat} {F F':List Int} {B B':List Bool}
theorem kI.ids (s:aU h bb bm bp bl most M clock F B) {t r x m:Int} {n:Nat} {g:Bool} (a:kI h h' bb bm bp bl most M M' clock' F F' B t r x m n g):(ez M').Perm (ez M++[(n:Int)]):=by
 obtain ⟨Q,w,hold,vq,vq',_,iy⟩:=a.set
 have mF:(ez M).Perm (ez (M.filter fun x=>!rm t r x)++Q.map (·.id)):=by
  rcases hold with ⟨e,he,rfl,rfl,rfl,rfl⟩ | ⟨hn,hl,rfl,rfl⟩
  ·have:=oB (oC s.ok he)
   rw[kH,ru] at this
   exact this
  ·rw[yC hn]; simp
 refine iy.ids.trans ?_
 rw[wE vq',List.map_append,List.map_cons,List.map_nil,OB,←List.append_assoc]
 exact (mF.symm).append_right _
theorem kI.len (s:aU h bb bm bp bl most M clock F B) (hl:M.length≤most) {t r x m:Int} {n:Nat} {g:Bool} (a:kI h h' bb bm bp bl most M M' clock' F F' B t r x m n g):M'.length≤most:=by
 obtain ⟨Q,w,hold,vq,vq',_,iy⟩:=a.set
 have:=iy.len
 rcases hold with ⟨e,he,rfl,rfl,rfl,rfl⟩ | ⟨hn,hl,rfl,rfl⟩
 ·have:=Gk s.ok he; omega
 ·rw[yC hn] at this; omega
theorem kI.wb {N:Nat} (hw:∀e∈M,e.w≤N) {t r x m:Int} {n:Nat} {g:Bool} (a:kI h h' bb bm bp bl most M M' clock' F F' B t r x m n g):∀e∈M',e.w≤(N+1:Nat):=by
 obtain ⟨Q,w,hold,vq,vq',_,iy⟩:=a.set
 refine iy.wb hw ?_
 have:=Uf Q w n x m
 rcases hold with ⟨e,he,_,_,_,rfl⟩ | ⟨_,_,_,rfl⟩
 ·have:=hw e he; omega
 ·omega
theorem kI.sub {t r x m:Int} {n:Nat} {g:Bool} (a:kI h h' bb bm bp bl most M M' clock' F F' B t r x m n g):∀y∈M',(∃e∈M,e.t=y.t∧e.r=y.r)∨(y.t=t∧y.r=r):=by
 obtain ⟨Q,w,_,_,_,_,iy⟩:=a.set
 intro y hy
 rcases iy.sub y hy with h | ⟨h1,h2,_⟩
 ·exact .inl ⟨y,h,rfl,rfl⟩
 ·exact .inr ⟨h1,h2⟩
variable {e:HE} {Q1:List R5} {w1:Int}
theorem ij.LF (s:aU h bb bm bp bl most M clock F B) (he:e∈M) (m:ij h h' bb bm bp bl most M M' clock' F' B' e Q1 w1) (hid:Q1.map (·.id)=e.Q.map (·.id)):(ez M').Perm (ez M):=by
 refine m.set.ids.trans ?_
 rw[wE m.vq,hid]
 have:=oB (oC s.ok he)
 rw[kH,ru] at this
 exact this.symm
theorem ij.LG (s:aU h bb bm bp bl most M clock F B) (he:e∈M) {p:R5} {n:Nat} (hf:bE e.Q (n:Int)=some p) (m:ij h h' bb bm bp bl most M M' clock' F' B' e (e.Q.filter fun r=>!bg (n:Int) r) w1):(ez M).Perm (ez M'++[(n:Int)]):=by
 have h1:=oB (oC s.ok he)
 rw[kH,ru] at h1
 have h2:=h1.trans (List.Perm.append_left (ez (M.filter fun x=>!rm e.t e.r x)) (Ez (s.good e he).vq hf))
 rw[←List.append_assoc] at h2
 have h3:=m.set.ids
 rw[wE m.vq] at h3
 exact h2.trans (h3.symm.append_right _)
theorem ij.len (s:aU h bb bm bp bl most M clock F B) (hl:M.length≤most) (he:e∈M) (m:ij h h' bb bm bp bl most M M' clock' F' B' e Q1 w1):M'.length≤most:=by
 have:=m.set.len
 have:=Gk s.ok he
 omega
theorem ij.sub (he:e∈M) (m:ij h h' bb bm bp bl most M M' clock' F' B' e Q1 w1):∀y∈M',∃e∈M,e.t=y.t∧e.r=y.r:=by
 intro y hy
 rcases m.set.sub y hy with h | ⟨h1,h2,_⟩
 ·exact ⟨y,h,rfl,rfl⟩
 ·exact ⟨e,he,h1.symm,h2.symm⟩
end
structure gK (h:Heap) (tb bw bp bl:Nat) (c:dg) (vb:Value) (aH N:Nat) (T:List TB) (W:List IE) (wc:Nat) (F:List Int) (B:List Bool):Prop where
 is:dA h tb bw bp bl c vb aH T W wc F B
 ids:(T.flatMap fun b=>ez b.M).Perm (iU B)
 wh:∀(k:Nat) (b:TB),T[k]? = some b→∀e∈b.M,∀p∈e.Q,HY W p.id=some (k:Int)
 nm:∀(k:Nat) (b:TB),T[k]? = some b→∀e∈b.M,bT e.t e.r c.S=(k:Int)
 wb:∀b∈T,∀e∈b.M,e.w≤N
 len:∀b∈T,b.M.length≤aH
 cR:(B.length:Int)=c.R
 cH:(aH:Int)=c.H
section
variable {h h':Heap} {tb bw bp bl:Nat} {c:dg} {vb:Value} {aH N:Nat} {T:List TB} {W:List IE} {wc:Nat} {F F':List Int} {B B':List Bool}
theorem gK.Gr (s:gK h tb bw bp bl c vb aH N T W wc F B) {k:Nat} {b:TB} (hk:T[k]? = some b):nU b.M B:=by
 obtain ⟨X,hX⟩:=qi (fun b:TB=>ez b.M) hk
 have:=hX b
 rw[wM hk] at this
 exact ⟨X,this.symm.trans s.ids⟩
theorem gK.le (s:gK h tb bw bp bl c vb aH N T W wc F B) (l:Le h h'):gK h' tb bw bp bl c vb aH N T W wc F B:=⟨s.is.le l,s.ids,s.wh,s.nm,s.wb,s.len,s.cR,s.cH⟩
theorem gK.up {N':Nat} (s:gK h tb bw bp bl c vb aH N T W wc F B) (hN:N≤N'):gK h tb bw bp bl c vb aH N' T W wc F B:=⟨s.is,s.ids,s.wh,s.nm,fun b hb e he=>by have:=s.wb b hb e he; omega,s.len,s.cR,s.cH⟩
theorem dH {α:Type} {T:List α} {k j:Nat} {b' x:α} (h:(T.set k b')[j]? = some x):(j=k∧x=b')∨(j≠k∧T[j]? = some x):=by
 rw[List.getElem?_set] at h
 split at h
 ·rename_i e
  split at h
  ·exact .inl ⟨e.symm,(Option.some.inj h).symm⟩
  ·cases h
 ·rename_i e; exact .inr ⟨fun e'=>e e'.symm,h⟩
theorem jU {M:List HE} {i:Int}:i∈ez M↔∃e∈M,∃p∈e.Q,p.id=i:=by
 unfold ez
 rw[List.mem_flatMap]
 constructor
 ·rintro ⟨e,he,hi⟩
  obtain ⟨p,hp,rfl⟩:=List.mem_map.1 hi
  exact ⟨e,he,p,hp,rfl⟩
 ·rintro ⟨e,he,p,hp,rfl⟩
  exact ⟨e,he,List.mem_map.2 ⟨p,hp,rfl⟩⟩
theorem gK.step (s:gK h tb bw bp bl c vb aH N T W wc F B) {k:Nat} {b:TB} (hk:T[k]? = some b) {M':List HE} {clock':Nat} (Yn:aU h' b.bb b.bm bp bl aH M' clock' F' B') (f:mT b.bm bp bl h h')
  (xN:∀X,(ez b.M++X).Perm (iU B)→(ez M'++X).Perm (iU B')) (hsub:∀i∈ez M',i∈ez b.M) (hnm:∀y∈M',∃e∈b.M,e.t=y.t∧e.r=y.r) (hw:∀e∈M',e.w≤(N+1:Nat)) (hl:M'.length≤aH) (hB:B'.length=B.length) :
  gK h' tb bw bp bl c vb aH (N+1) (T.set k ⟨b.bb,b.bm,M',clock'⟩) W wc F' B':=by
 obtain ⟨X,hX⟩:=qi (fun b:TB=>ez b.M) hk
 have h0:=hX b
 rw[wM hk] at h0
 refine ⟨s.is.change hk Yn f,(hX _).trans (xN X (h0.symm.trans s.ids)),?_,?_,?_,?_,by rw[hB]; exact s.cR,s.cH⟩
 ·intro j x hj e he p hp
  rcases dH hj with ⟨rfl,rfl⟩ | ⟨_,hj⟩
  ·obtain ⟨e0,tU,p0,XW,hpe⟩:=jU.1 (hsub p.id (jU.2 ⟨e,he,p,hp,rfl⟩))
   rw[←hpe]; exact s.wh j b hk e0 tU p0 XW
  ·exact s.wh j x hj e he p hp
 ·intro j x hj e he
  rcases dH hj with ⟨rfl,rfl⟩ | ⟨_,hj⟩
  ·obtain ⟨e0,tU,h1,h2⟩:=hnm e he
   rw[←h1,←h2]; exact s.nm j b hk e0 tU
  ·exact s.nm j x hj e he
 ·intro x hx e he
  obtain ⟨j,hj⟩:=List.getElem?_of_mem hx
  rcases dH hj with ⟨rfl,rfl⟩ | ⟨_,hj⟩
  ·exact hw e he
  ·have:=s.wb x (List.mem_of_getElem? hj) e he; omega
 ·intro x hx
  obtain ⟨j,hj⟩:=List.getElem?_of_mem hx
  rcases dH hj with ⟨rfl,rfl⟩ | ⟨_,hj⟩
  ·exact hl
  ·exact s.len x (List.mem_of_getElem? hj)
end
theorem QK (h:Heap) (b o:Nat):lT Tryz.prog h 100 100 (.pointer (some ⟨b,o,none⟩)) (.pointer none)=some false:=by kernel_rfl
theorem lM {β:Type} {fl:β} (cn:Bool) (b o:Nat) (h:Heap) (κ:Value→Heap→β):au fl Tryz.prog .eql 100 cn false (.pointer (some ⟨b,o,none⟩)) (.pointer none) h κ=κ (.bool false) h:=by simp only[au,QK,bP]
theorem Yp (h:Heap):lT Tryz.prog h 100 182 (.pointer none) (.pointer none)=some true:=by kernel_rfl
theorem rD {β:Type} {fl:β} (cn:Bool) (h:Heap) (κ:Value→Heap→β):au fl Tryz.prog .eql 182 cn false (.pointer none) (.pointer none) h κ=κ (.bool true) h:=by simp only[au,Yp,bP]
structure rE (Ts:List TB) (bw bp bl:Nat) (h h':Heap):Prop where
 nx:h.nx≤h'.nx
 lo:h'.lo=h.lo
 get:∀c,c<h.nx→(∀b∈Ts,c≠b.bm)→c≠bw→c≠bp→c≠bl→(∀vs,h.bl.get c≠some (aa vs 3 true))→h'.bl.get c=h.bl.get c
 g2:bp<h.nx→∀c,c<h.nx→(∀b∈Ts,c≠b.bm)→c≠bw→c≠bp→c≠bl→¬FB h bp c→h'.bl.get c=h.bl.get c
 mv:bp<h.nx→∀c,c<h.nx→FB h' bp c→FB h bp c
theorem rE.of_le {Ts:List TB} {bw bp bl:Nat} {h h':Heap} (l:Le h h'):rE Ts bw bp bl h h':=⟨l.nx,l.lo,fun c hc _ _ _ _ _=>l.get c hc,fun _ c hc _ _ _ _ _=>l.get c hc,fun hb c _ x=>(FB.congr (l.get bp hb)).1 x⟩
theorem rE.trans {Ts:List TB} {bw bp bl:Nat} {h h' h'':Heap} (a:rE Ts bw bp bl h h') (b:rE Ts bw bp bl h' h''):rE Ts bw bp bl h h'':=
 ⟨Nat.le_trans a.nx b.nx,b.lo.trans a.lo,fun c hc h1 h2 h3 h4 h5=>(b.get c (Nat.lt_of_lt_of_le hc a.nx) h1 h2 h3 h4 (fun vs=>by rw[a.get c hc h1 h2 h3 h4 h5]; exact h5 vs)).trans (a.get c hc h1 h2 h3 h4 h5),
  fun hb c hc h1 h2 h3 h4 h5=>(b.g2 (Nat.lt_of_lt_of_le hb a.nx) c (Nat.lt_of_lt_of_le hc a.nx) h1 h2 h3 h4 fun x=>h5 (a.mv hb c hc x)).trans (a.g2 hb c hc h1 h2 h3 h4 h5),
  fun hb c hc x=>a.mv hb c hc (b.mv (Nat.lt_of_lt_of_le hb a.nx) c (Nat.lt_of_lt_of_le hc a.nx) x)⟩
theorem rE.OU {Ts:List TB} {b:TB} (hb:b∈Ts) {bw bp bl:Nat} {h h':Heap} (f:mT b.bm bp bl h h'):rE Ts bw bp bl h h':=⟨f.nx,f.lo,fun c hc h1 _ h3 h4 h5=>f.get c hc (h1 b hb) h3 h4 h5,fun hp c hc h1 _ h3 h4 h5=>f.g2 hp c hc (h1 b hb) h3 h4 h5,f.mv⟩
section
variable {h:Heap} {tb bw bp bl:Nat} {c:dg} {vb:Value} {aH N:Nat} {Ts:List TB} {W:List IE} {wc:Nat} {F:List Int} {B:List Bool}
theorem sJ (s:dA h tb bw bp bl c vb aH Ts W wc F B) (hlo:h.lo≤h.nx) (t r:Int) (κ:KQ) (hk:∀h',Le h h'→κ (.int .i64 (bT t r c.S)) h') :
  CallW Tryz.prog 44 [.pointer (some ⟨tb,0,none⟩),ew t r] h κ:=by
 refine aj mixed ?_
 rw[WC]
 simp(disch:=first|omega|simp only[Wd]<;>omega|with_unfolding_all rfl)only[Wz,ew]
 obtain ⟨hA,aK⟩:∃hA:Heap,hA=⟨h.nx+1,(h.bl.aS (h.nx) (aa [.int .i64 t,.int .i64 r] 36 false)),h.lo⟩:=⟨_,rfl⟩
 have aO:Le h hA:=by subst aK; exact ((Le.refl h).new _)
 have g1:hA.bl.get (h.nx)=some (aa [.int .i64 t,.int .i64 r] 36 false):=by subst aK; exact T.af _ _ _
 have gH:hA.nx=h.nx+1:=by subst aK; rfl
 have gI:hA.lo=h.lo:=by subst aK; rfl
 rw[←aK]
 clear aK
 have sA:=s.le aO
 have gt:=sA.kK
 simp(disch:=first|omega|simp only[Wd]<;>omega|with_unfolding_all rfl)only[Wz,lM,FY,g1,ax,gt]
 refine LA t r c.S ?_
 exact hk hA aO
theorem LH {h:Heap} {v:Value} {Ts:List TB} (hs:Sl kJ h v Ts) (i:Nat) {b:TB} (hp:Ts[i]? = some b) :
  ∃c o,c<h.nx∧(∀(β:Type) (fl:β) (h':Heap) (κ:Value→Heap→β),av fl 1 v (.int .i64 (i:Int)) h' κ=κ (.pointer (some ⟨c,o,none⟩)) h')∧
   ∀h',Le h h'→(∀(β:Type) (fl:β) (κ:Value→β),yc fl (h'.bl.get c) o κ=κ (.pointer (some ⟨b.bb,0,none⟩))):=by
 obtain ⟨c,o,h1,h2,h3,hh⟩:=hs.ld yI i hp
 refine ⟨c,o,h1,h2,fun h' l β fl κ=>?_⟩
 rw[l.get c h1]
 exact ga (fl:=fl) hh 0 κ (by show 0<1; omega)
theorem Aa (tb:Nat) (h:Heap) (κ:KQ) (hk:κ (.int .i64 5) h):CallW Tryz.prog 203 [.pointer (some ⟨tb,0,none⟩)] h κ:=by
 refine aj mixed ?_
 rw[SK]
 simp(disch:=first|omega|simp only[Wd]<;>omega|with_unfolding_all rfl)only[Wz,lM]
 exact hk
theorem Gs (s:gK h tb bw bp bl c vb aH N Ts W wc F B) (hlo:h.lo≤h.nx) (id:Int) (κ:KQ)
  (j7:(∀b∈Ts,∀e∈b.M,bE e.Q id=none)→κ (.pointer none) h)
  (fQ:∀(k:Nat) b e p,Ts[k]? = some b→e∈b.M→bE e.Q id=some p→κ (.pointer (some ⟨b.bb,0,none⟩)) h) :
  CallW Tryz.prog 201 [.pointer (some ⟨tb,0,none⟩),.int .i64 id] h κ:=by
 refine aj mixed ?_
 rw[SJ]
 have gt:=s.is.kK
 simp(disch:=first|omega|simp only[Wd]<;>omega|with_unfolding_all rfl)only[Wz,lM,BR,ax,gt,Ym s.is.lK]
 have acQ:∀(k:Nat) b e p,Ts[k]? = some b→e∈b.M→bE e.Q id=some p→HY W id=some (k:Int)∧∃n:Nat,id=(n:Int)∧B[n]? = some true:=by
  intro k b e p hb he hf
  obtain ⟨hp,hpi⟩:=fI hf
  refine ⟨by rw[←hpi]; exact s.wh k b hb e he p hp,gW.1 (s.ids.mem_iff.1 (List.mem_flatMap.2 ⟨b,List.mem_of_getElem? hb,jU.2 ⟨e,he,p,hp,hpi⟩⟩))⟩
 have none:HY W id=none∨¬(∃n:Nat,id=(n:Int)∧B[n]? = some true)→∀b∈Ts,∀e∈b.M,bE e.Q id=none:=by
  intro hc b hb e he
  obtain ⟨k,hk⟩:=List.getElem?_of_mem hb
  cases hf:bE e.Q id with
  | none=>rfl
  | some p=>
   obtain ⟨h1,h2⟩:=acQ k b e p hk he hf
   rcases hc with hc | hc
   ·rw[h1] at hc; cases hc
   ·exact absurd h2 hc
 cases hl:HY W id with
 | none=>
  simp(disch:=first|omega|simp only[Wd]<;>omega|with_unfolding_all rfl)only[Wz,Option.isSome_none,Option.getD_none]
  exact j7 (none (.inl hl))
 | some v=>
  simp(disch:=first|omega|simp only[Wd]<;>omega|with_unfolding_all rfl)only[Wz,Option.isSome_some,Option.getD_some,ax,gt]
  refine QC bp bl F B id h _ s.is.ck ?_
  by_cases hb:∃n:Nat,id=(n:Int)∧B[n]? = some true
  ·obtain ⟨n,rfl,hn⟩:=hb
   have eh:(decide ((0:Int)≤(n:Int)) && (B[((n:Int)).toNat]?).getD false)=true:=by
    rw[bf (by omega),Int.toNat_natCast,hn]; rfl
   rw[eh]
   obtain ⟨b,Vl,mM⟩:=List.mem_flatMap.1 (s.ids.mem_iff.2 (gW.2 ⟨n,rfl,hn⟩))
   obtain ⟨e,he,p,hp,hpi⟩:=jU.1 mM
   obtain ⟨k,hk⟩:=List.getElem?_of_mem Vl
   have hv:v=(k:Int):=by
    have:=s.wh k b hk e he p hp
    rw[hpi,hl] at this
    exact Option.some.inj this
   subst hv
   have hf:=Hh ((s.is.bk b Vl).good e he).vq.pair hp
   rw[hpi] at hf
   obtain ⟨cc,oo,_,Gf,nG⟩:=LH s.is.sl k hk
   have nG:=nG h (Le.refl _)
   simp(disch:=first|omega|simp only[Wd]<;>omega|with_unfolding_all rfl)only[Wz,ax,gt,Gf,nG]
   exact fQ k b e p hk he hf
  ·have eh:(decide ((0:Int)≤id) && (B[id.toNat]?).getD false)=false:=by
    by_cases h0:0≤id
    ·have hne:B[id.toNat]?≠some true:=fun e=>hb ⟨id.toNat,by omega,e⟩
     rw[bf h0,Bool.true_and]
     cases hB:B[id.toNat]? with
     | none=>rfl
     | some x=>cases x with
      | false=>rfl
      | true=>exact absurd hB hne
    ·rw[a_ h0]; rfl
   rw[eh]
   simp(disch:=first|omega|simp only[Wd]<;>omega|with_unfolding_all rfl)only[Wz]
   exact j7 (none (.inr hb))
end
theorem de.frame {h h':Heap} {bp bl:Nat} {F:List Int} {B:List Bool} (p:de h bp bl F B) (hn:h.nx≤h'.nx) (hl:h'.lo=h.lo) (hc:∀c vs ty op,c<h.nx→h.bl.get c=some (aa vs ty op)→h'.bl.get c=h.bl.get c):de h' bp bl F B:=by
 have pl:=p.lt
 have fl:=p.fr.lt
 obtain ⟨fs,hg,hpt⟩:=p.fr.cell
 refine ⟨⟨by omega,by rw[hl]; exact p.fr.lo,fs,(hc _ _ _ _ fl hg).trans hg,?_⟩,by omega,by rw[hl]; exact p.lo,(hc _ _ _ _ pl p.cell).trans p.cell,p.ok,p.small⟩
 rcases hpt with e | ⟨b,G,e,k1,k2,k3,k4⟩
 ·exact .inl e
 ·exact .inr ⟨b,G,e,by omega,by omega,(hc _ _ _ _ k1 k3).trans k3,k4⟩
theorem aU.frame {h h':Heap} {bb bm bp bl most clock:Nat} {M:List HE} {F:List Int} {B:List Bool} (s:aU h bb bm bp bl most M clock F B) (hn:h.nx≤h'.nx) (hl:h'.lo=h.lo) (hc:∀c vs ty op,c<h.nx→h.bl.get c=some (aa vs ty op)→h'.bl.get c=h.bl.get c) (hm:h'.bl.get bm=h.bl.get bm):aU h' bb bm bp bl most M clock F B:=by
 have sb:=s.IB
 have sm:=s.rP
 refine ⟨by omega,by omega,by rw[hl]; exact s.Ox,(hc _ _ _ _ sb s.fq).trans s.fq,hm.trans s.eM,s.ok,fun e he=>?_,s.good,s.ck.frame hn hl hc,s.ne⟩
 have a:=s.aH e he
 have al:=a.lt
 exact ⟨by omega,(hc _ _ _ _ al a.get).trans a.get,a.qv.frame hn fun c vs op h1 hg=>hc c vs _ op h1 hg⟩
section
variable {h:Heap} {tb bw bp bl:Nat} {c:dg} {vb:Value} {aH N:Nat} {Ts:List TB} {W:List IE} {wc:Nat} {F:List Int} {B:List Bool}
theorem dA.Ul (s:dA h tb bw bp bl c vb aH Ts W wc F B) (W':List IE) (tV:Nat):dA ⟨h.nx,h.bl.aS bw (.map (W'.map tT) tV),h.lo⟩ tb bw bp bl c vb aH Ts W' tV F B:=by
 have gw:=s.lK
 have hc:∀c vs ty op,c<h.nx→h.bl.get c=some (aa vs ty op)→(h.bl.aS bw (.map (W'.map tT) tV)).get c=h.bl.get c:=by
  intro c vs ty op _ hg
  refine T.ah _ _ ?_
  rintro rfl
  rw[hg] at gw
  exact bu gw.symm
 have hm:∀b∈Ts,(h.bl.aS bw (.map (W'.map tT) tV)).get b.bm=h.bl.get b.bm:=fun b hb=>T.ah _ _ (s.Vk b hb)
 have k1:=Sl.z_ (h':=⟨h.nx,h.bl.aS bw (.map (W'.map tT) tV),h.lo⟩) s.sl s.ty (Nat.le_refl _) fun c vs op h1 hg=>hc c vs _ op h1 hg
 exact ⟨s.Vj,(hc _ _ _ _ s.Vj s.kK).trans s.kK,k1.1,k1.2,s.xg,s.low,T.af _ _ _,fun b hb=>(s.bk b hb).frame (Nat.le_refl _) rfl hc (hm b hb),s.xO,s.Vk,s.ck.frame (Nat.le_refl _) rfl hc,s.cS,s.s1,s.hd⟩
theorem rE.Ul {W':List IE} {tV:Nat}:rE Ts bw bp bl h ⟨h.nx,h.bl.aS bw (.map (W'.map tT) tV),h.lo⟩:=
 by
 refine ⟨Nat.le_refl _,rfl,fun c _ _ h2 _ _ _=>T.ah _ _ (fun e=>h2 e.symm),fun _ c _ _ h2 _ _ _=>T.ah _ _ (fun e=>h2 e.symm),fun _ c _ hx=>?_⟩
 by_cases e:bw=bp
 ·subst e
  obtain ⟨n,cap,ls,hx⟩:=hx
  exact absurd ((T.af _ _ _).symm.trans hx) bu
 ·exact (FB.congr (T.ah _ _ e)).1 hx
theorem Yq (s:dA h tb bw bp bl c vb aH Ts W wc F B) {t r:Int} (hn:¬bT t r c.S<0):∃(k:Nat) (b:TB),bT t r c.S=(k:Int)∧Ts[k]? = some b:=by
 have hr:=wL (t:=t) (r:=r) (s:=c.S) (by omega)
 have hS:=s.cS
 refine ⟨(bT t r c.S).toNat,Ts[(bT t r c.S).toNat]'(by omega),by omega,List.getElem?_eq_getElem _⟩
end
theorem wN {Ts:List TB} {k:Nat} {b:TB} (hk:Ts[k]? = some b) (M':List HE) (clock':Nat):(Ts.set k ⟨b.bb,b.bm,M',clock'⟩).map (·.bm)=Ts.map (·.bm):=by
 obtain ⟨hl,rfl⟩:=List.getElem?_eq_some_iff.1 hk
 rw[List.map_set]
 refine List.ext_getElem? fun i=>?_
 rw[List.getElem?_set]
 split
 ·rename_i e; subst e
  rw[if_pos (by simpa using hl),List.getElem?_map,List.getElem?_eq_getElem hl]; rfl
 ·rfl
section
variable {h h':Heap} {tb bw bp bl:Nat} {c:dg} {vb:Value} {aH N:Nat} {Ts:List TB} {W:List IE} {wc:Nat} {F F':List Int} {B:List Bool}
theorem gK.QL (s:gK h tb bw bp bl c vb aH N Ts W wc F B) {k:Nat} {b:TB} (hk:Ts[k]? = some b) {M':List HE} {clock':Nat} {e:HE} (he:e∈b.M) {Q1:List R5} {w1:Int} (m:ij h h' b.bb b.bm bp bl aH b.M M' clock' F' B e Q1 w1)
  (hid:Q1.map (·.id)=e.Q.map (·.id)) (hw:w1≤e.w+1):gK h' tb bw bp bl c vb aH (N+1) (Ts.set k ⟨b.bb,b.bm,M',clock'⟩) W wc F' B:=by
 have hb:=List.mem_of_getElem? hk
 have is:=s.is.bk b hb
 have hp:=m.LF is he hid
 have hwe:=s.wb b hb e he
 exact s.step hk m.is m.fr (fun X hX=>(hp.append_right X).trans hX) (fun i hi=>hp.mem_iff.1 hi) (m.sub he) (m.set.wb (s.wb b hb) (by omega)) (m.len is (s.len b hb) he) rfl
theorem gK.left (s:gK h tb bw bp bl c vb aH N Ts W wc F B) {k:Nat} {b:TB} (hk:Ts[k]? = some b) {M':List HE} {clock':Nat} {e:HE} (he:e∈b.M) {p:R5} {n:Nat} (hf:bE e.Q (n:Int)=some p) (uT:B[n]? = some true) (m:ij h h' b.bb b.bm bp bl aH b.M M' clock' F' (B.set n false) e (e.Q.filter fun r=>!bg (n:Int) r) e.w) :
  gK h' tb bw bp bl c vb aH (N+1) (Ts.set k ⟨b.bb,b.bm,M',clock'⟩) W wc F' (B.set n false):=by
 have hb:=List.mem_of_getElem? hk
 have is:=s.is.bk b hb
 have hp:=m.LG is he hf
 have hwe:=s.wb b hb e he
 refine s.step hk m.is m.fr (fun X hX=>?_) (fun i hi=>hp.mem_iff.2 (List.mem_append.2 (.inl hi))) (m.sub he) (m.set.wb (s.wb b hb) (by omega)) (m.len is (s.len b hb) he) (List.length_set ..)
 have h1:=(hp.append_right X).symm.trans (hX.trans (HB uT))
 rw[List.append_assoc] at h1
 have h2:=(List.Perm.append_left (ez M') (List.perm_append_comm (l₁:=X) (l₂:=[(n:Int)]))).trans h1
 rw[←List.append_assoc] at h2
 exact (List.perm_append_right_iff _).1 h2
theorem LI (s:gK h tb bw bp bl c vb aH N Ts W wc F B) (hlo:h.lo≤h.nx) (id:Int) (κ:KQ)
  (K0:(∀b∈Ts,∀e∈b.M,bE e.Q id=none)→κ (.tuple ⟨[.slice none 0 0,.int .i64 5]⟩) h)
  (j7:∀(k:Nat) (b:TB) h' M' clock' F' v' e p (n:Nat),Ts[k]? = some b→e∈b.M→bE e.Q id=some p→id=(n:Int)→B[n]? = some true→F'.Perm (F++[(n:Int)])→
   ij h h' b.bb b.bm bp bl aH b.M M' clock' F' (B.set n false) e (e.Q.filter fun r=>!bg id r) e.w→qa h h' v' (cE (eV (e.Q.filter fun r=>!bg id r)+1) (e.Q.filter fun r=>!bg id r)).2→gK h' tb bw bp bl c vb aH (N+1) (Ts.set k ⟨b.bb,b.bm,M',clock'⟩) W wc F' (B.set n false)→κ (.tuple ⟨[v',.int .i64 0]⟩) h') :
  CallW Tryz.prog 253 [.pointer (some ⟨tb,0,none⟩),.int .i64 id] h κ:=by
 refine aj mixed ?_
 rw[S8]
 refine Gs s hlo id _ ?_ ?_
 ·intro hno
  simp(disch:=first|omega|simp only[Wd]<;>omega|with_unfolding_all rfl)only[Wz,rD]
  refine Aa tb h _ ?_
  exact K0 hno
 ·intro k b e p hk he hf
  have hb:=List.mem_of_getElem? hk
  simp(disch:=first|omega|simp only[Wd]<;>omega|with_unfolding_all rfl)only[Wz,fL]
  refine HF (s.is.bk b hb) hlo (s.Gr hk) id _ ?_ ?_
  ·intro h1 hno _
   rw[hno e he] at hf; cases hf
  ·intro h1 M' clock' F' v' e1 p1 n tc H7 hid uT ZA mv ho
   simp(disch:=first|omega|simp only[Wd]<;>omega|with_unfolding_all rfl)only[Wz]
   have Yr:=mv
   have hf':=H7
   rw[hid] at hf' Yr
   exact j7 k b h1 M' clock' F' v' e1 p1 n hk tc H7 hid uT ZA mv ho (s.left hk tc hf' uT Yr)
theorem C2 {β:Type} {fl:β} (cn:Bool) (b o:Nat) (h:Heap) (κ:Value→Heap→β):au fl Tryz.prog .neq 100 cn false (.pointer (some ⟨b,o,none⟩)) (.pointer none) h κ=κ (.bool true) h:=by simp only[au,QK,bP,Bool.not_false]
end
theorem de.wO {h h':Heap} {bp bl:Nat} {F:List Int} {B:List Bool} (p:de h bp bl F B) (hn:h.nx≤h'.nx) (hl:h'.lo=h.lo) (hc:∀c vs ty op,c<h.nx→ty≠182→ty≠147→h.bl.get c=some (aa vs ty op)→h'.bl.get c=h.bl.get c):de h' bp bl F B:=by
 have pl:=p.lt
 have fl:=p.fr.lt
 obtain ⟨fs,hg,hpt⟩:=p.fr.cell
 refine ⟨⟨by omega,by rw[hl]; exact p.fr.lo,fs,(hc _ _ _ _ fl (by decide) (by decide) hg).trans hg,?_⟩,by omega,by rw[hl]; exact p.lo,(hc _ _ _ _ pl (by decide) (by decide) p.cell).trans p.cell,p.ok,p.small⟩
 rcases hpt with e | ⟨b,G,e,k1,k2,k3,k4⟩
 ·exact .inl e
 ·exact .inr ⟨b,G,e,by omega,by omega,(hc _ _ _ _ k1 (by decide) (by decide) k3).trans k3,k4⟩
theorem aU.wO {h h':Heap} {bb bm bp bl most clock:Nat} {M:List HE} {F:List Int} {B:List Bool} (s:aU h bb bm bp bl most M clock F B) (hn:h.nx≤h'.nx) (hl:h'.lo=h.lo) (hc:∀c vs ty op,c<h.nx→ty≠182→ty≠147→h.bl.get c=some (aa vs ty op)→h'.bl.get c=h.bl.get c) (hm:h'.bl.get bm=h.bl.get bm):aU h' bb bm bp bl most M clock F B:=by
 have sb:=s.IB
 have sm:=s.rP
 refine ⟨by omega,by omega,by rw[hl]; exact s.Ox,(hc _ _ _ _ sb (by decide) (by decide) s.fq).trans s.fq,hm.trans s.eM,s.ok,fun e he=>?_,s.good,s.ck.wO hn hl hc,s.ne⟩
 have a:=s.aH e he
 have al:=a.lt
 exact ⟨by omega,(hc _ _ _ _ al (by decide) (by decide) a.get).trans a.get,a.qv.frame hn fun c vs op h1 hg=>hc c vs _ op h1 (by decide) (by decide) hg⟩
theorem C3 (H:Int) (bp:Nat) (h:Heap) (κ:KQ) (hh:¬(1≤H∧H≤64)) (hk:κ (.tuple ⟨[.pointer none,.int .i64 2]⟩) h):CallW Tryz.prog 109 [.int .i64 H,.pointer (some ⟨bp,0,none⟩)] h κ:=by
 refine aj mixed ?_
 rw[Ka]
 by_cases h1:H<1
 ·simp(disch:=first|omega|simp only[Wd]<;>omega|with_unfolding_all rfl)only[Wz,bf h1]
  exact hk
 ·simp(disch:=first|omega|simp only[Wd]<;>omega|with_unfolding_all rfl)only[Wz,a_ h1,fH (show (64:Int)<H by omega)]
  exact hk
theorem H8 (R:Int) (h:Heap) (κ:KQ) (hh:128<R) (hk:κ (.tuple ⟨[.pointer none,.int .i64 2]⟩) h):CallW Tryz.prog 108 [.int .i64 R] h κ:=by
 refine aj mixed ?_
 rw[J_]
 simp(disch:=first|omega|simp only[Wd]<;>omega|with_unfolding_all rfl)only[Wz,cg (show (0:Int)≤R by omega),fH hh]
 exact hk
theorem OV (S H R P:Int) (bp:Addr) (b:Nat) (κ:List Value→Prop):bJ False [(6,1)] [.map (some b)] [.int .i64 S,.int .i64 H,.int .i64 R,.int .i64 P,.pointer (some bp),.slice none 0 0,.map none] κ=κ [.int .i64 S,.int .i64 H,.int .i64 R,.int .i64 P,.pointer (some bp),.slice none 0 0,.map (some b)]:=by kernel_rfl
theorem C4 (n:Nat):iU (List.replicate n false)=[]:=by
 rw[List.eq_nil_iff_forall_not_mem]
 intro x hx
 obtain ⟨k,_,hn⟩:=gW.1 hx
 rw[List.getElem?_replicate] at hn
 split at hn<;>simp at hn
def C5 (c:dg):Value:=.agg ⟨[.int .i64 c.S,.int .i64 c.H,.int .i64 c.R,.int .i64 c.P]⟩
def iE (c:dg):Prop:=1≤c.S∧c.S≤16∧0≤c.P∧c.P≤8∧1≤c.R∧c.R≤128∧1≤c.H∧c.H≤64
theorem OW (c:dg) (h:Heap) (κ:KQ) (hlo:h.lo≤h.nx)
  (LJ:∀h' (e:Int),e=2→¬iE c→Le h h'→κ (.tuple ⟨[.pointer none,.int .i64 e]⟩) h')
  (QD:∀h' tb bw bp bl vb aH Ts F,iE c→gK h' tb bw bp bl c vb aH 0 Ts [] 0 F (List.replicate c.R.toNat false)→(∀b∈Ts,h.nx≤b.bm)→h.nx≤bw→h.nx≤bp→h.nx≤bl→Le h h'→(∀x,FB h' bp x→h.nx≤x)→κ (.tuple ⟨[.pointer (some ⟨tb,0,none⟩),.int .i64 0]⟩) h') :
  CallW Tryz.prog 67 [C5 c] h κ:=by
 refine aj mixed ?_
 rw[WQ]
 simp(disch:=first|omega|simp only[Wd]<;>omega|with_unfolding_all rfl)only[Wz,C5]
 obtain ⟨hA,aK⟩:∃hA:Heap,hA=⟨h.nx+1,(h.bl.aS (h.nx) (aa [.int .i64 c.S,.int .i64 c.H,.int .i64 c.R,.int .i64 c.P] 30 false)),h.lo⟩:=⟨_,rfl⟩
 have aO:Le h hA:=by subst aK; exact ((Le.refl h).new _)
 have g1:hA.bl.get (h.nx)=some (aa [.int .i64 c.S,.int .i64 c.H,.int .i64 c.R,.int .i64 c.P] 30 false):=by subst aK; exact T.af _ _ _
 have gH:hA.nx=h.nx+1:=by subst aK; rfl
 have gI:hA.lo=h.lo:=by subst aK; rfl
 rw[←aK]
 clear aK
 by_cases Vm:c.S<1
 ·simp(disch:=first|omega|simp only[Wd]<;>omega|with_unfolding_all rfl)only[Wz,bf Vm]
  exact LJ _ 2 rfl (by unfold iE; omega) aO
 by_cases Ys:16<c.S
 ·simp(disch:=first|omega|simp only[Wd]<;>omega|with_unfolding_all rfl)only[Wz,a_ Vm,g1,bf Ys]
  exact LJ _ 2 rfl (by unfold iE; omega) aO
 by_cases ZB:c.P<0
 ·simp(disch:=first|omega|simp only[Wd]<;>omega|with_unfolding_all rfl)only[Wz,a_ Vm,g1,a_ Ys,bf ZB]
  exact LJ _ 2 rfl (by unfold iE; omega) aO
 by_cases hP2:8<c.P
 ·simp(disch:=first|omega|simp only[Wd]<;>omega|with_unfolding_all rfl)only[Wz,a_ Vm,g1,a_ Ys,a_ ZB,bf hP2]
  exact LJ _ 2 rfl (by unfold iE; omega) aO
 by_cases hR1:c.R<1
 ·simp(disch:=first|omega|simp only[Wd]<;>omega|with_unfolding_all rfl)only[Wz,a_ Vm,g1,a_ Ys,a_ ZB,a_ hP2,bf hR1]
  exact LJ _ 2 rfl (by unfold iE; omega) aO
 simp(disch:=first|omega|simp only[Wd]<;>omega|with_unfolding_all rfl)only[Wz,a_ Vm,g1,a_ Ys,a_ ZB,a_ hP2,a_ hR1,F7]
 by_cases hR2:128<c.R
 ·refine H8 c.R hA _ hR2 ?_
  simp(disch:=first|omega|simp only[Wd]<;>omega|with_unfolding_all rfl)only[Wz]
  exact LJ _ 2 rfl (by unfold iE; omega) aO
 obtain ⟨R,eR⟩:∃R:Nat,c.R=(R:Int):=⟨c.R.toNat,by omega⟩
 rw[eR]
 refine Hy R hA _ (by omega) (by omega) ?_
 intro bp bl h2 F p hne h2p h2l hF xM acS
 have n2:=xM.nx
 have l2:=xM.lo
 have ahF:=p.fr.lt
 have ahG:=p.lt
 have g12:=(xM.get h.nx (by omega)).trans g1
 rw[eR] at g12
 simp(disch:=first|omega|simp only[Wd]<;>omega|with_unfolding_all rfl)only[Wz,F6,g12,OV,gL]
 obtain ⟨hB,cI⟩:∃hB:Heap,hB=⟨h2.nx+1+1,((h2.bl.aS (h2.nx) (.map [] 0)).aS (h2.nx+1) (aa [.int .i64 c.S,.int .i64 c.H,.int .i64 (R:Int),.int .i64 c.P,.pointer (some ⟨bp,0,none⟩),.slice none 0 0,.map (some h2.nx)] 147 false)),h2.lo⟩:=⟨_,rfl⟩
 have cw:Le h2 hB:=by subst cI; exact (((Le.refl h2).new _).new _)
 have gw:hB.bl.get (h2.nx)=some (.map [] 0):=by subst cI; exact (T.ah _ _ (by omega)).trans (T.af _ _ _)
 have gt:hB.bl.get (h2.nx+1)=some (aa [.int .i64 c.S,.int .i64 c.H,.int .i64 (R:Int),.int .i64 c.P,.pointer (some ⟨bp,0,none⟩),.slice none 0 0,.map (some h2.nx)] 147 false):=by subst cI; exact T.af _ _ _
 have Ej:hB.nx=h2.nx+1+1:=by subst cI; rfl
 have Ek:hB.lo=h2.lo:=by subst cI; rfl
 rw[←cI]
 clear cI
 have uv:=cw.nx
 have uw:=cw.lo
 have g12:=(cw.get _ (by omega)).trans g12
 by_cases hH:1≤c.H∧c.H≤64
 case neg=>
  refine ⟨fun n l h1=>slot l 26=.int .i64 0∧HQ hB h1,⟨0,rfl,rfl⟩,?_⟩
  rintro n l h1 ⟨s1,hq⟩
  cases (show hB=h1 from hq)
  simp(disch:=first|omega|simp only[Wd]<;>omega|with_unfolding_all rfl)only[Wz,s1,fH (show (0:Int)<c.S by omega),zK,g12]
  refine C3 c.H bp hB _ hH ?_
  simp(disch:=first|omega|simp only[Wd]<;>omega|with_unfolding_all rfl)only[Wz]
  exact LJ _ 2 rfl (by unfold iE; omega) ((aO.trans xM).trans cw)
 obtain ⟨aH,eH⟩:∃n:Nat,c.H=(n:Int):=⟨c.H.toNat,by omega⟩
 obtain ⟨S,eS⟩:∃n:Nat,c.S=(n:Int):=⟨c.S.toNat,by omega⟩
 refine ⟨fun n l h1=>∃(i:Nat) (Ts:List TB) (v:Value),slot l 26=.int .i64 (i:Int)∧n=S-i∧i≤S∧Ts.length=i∧h1.bl.get (h2.nx+1)=some (aa [.int .i64 c.S,.int .i64 c.H,.int .i64 (R:Int),.int .i64 c.P,.pointer (some ⟨bp,0,none⟩),v,.map (some h2.nx)] 147 false)∧
   h1.bl.get h2.nx=some (.map [] 0)∧fu kJ h2 182 h1 v Ts∧de h1 bp bl F (List.replicate R false)∧(∀b∈Ts,aU h1 b.bb b.bm bp bl aH [] 0 F (List.replicate R false)∧b.M=[]∧b.clock=0∧hB.nx≤b.bm)∧Ts.Pairwise (fun a b=>a.bm≠b.bm)∧Le h2 h1∧hB.nx≤h1.nx,
  ⟨_,0,[],_,rfl,rfl,by omega,rfl,gt,gw,.inl ⟨rfl,.inl rfl⟩,p.le cw,fun b hb=>(nomatch hb),List.Pairwise.nil,cw,Nat.le_refl _⟩,?_⟩
 rintro n l h1 ⟨i,Ts,v,s1,rfl,hi,hTl,gt1,QM,ho,p1,hbk,hds,bK,nB⟩
 have n1:=bK.nx
 have l1:=bK.lo
 by_cases hlt:i<S
 ·have acT:=(bK.get h.nx (by omega)).trans ((xM.get h.nx (by omega)).trans g1)
  simp(disch:=first|omega|simp only[Wd]<;>omega|with_unfolding_all rfl)only[Wz,s1,fH (show (i:Int)<c.S by omega),zK,acT,eH]
  refine CU aH bp h1 _ (by omega) (by omega) ?_
  intro h3 eZ nx3 gm3 U9
  have n3:=eZ.nx
  have l3:=eZ.lo
  have ZC:=(eZ.get _ (by omega)).trans gt1
  obtain ⟨vx,vc,ev,_⟩:=(show Sl kJ h1 v Ts from ho.sl)
  simp(disch:=first|omega|simp only[Wd]<;>omega|with_unfolding_all rfl)only[Wz,F5,ax,ZC]
  obtain ⟨h4,e4⟩:∃h4:Heap,h4=⟨h3.nx+1,h3.bl.aS h3.nx (aa [.pointer (some ⟨h1.nx+1,0,none⟩)] 182 false),h3.lo⟩:=⟨_,rfl⟩
  have oM:Le h3 h4:=by rw[e4]; exact (Le.refl h3).new _
  have g4:h4.bl.get h3.nx=some (aa ([(⟨h1.nx+1,h1.nx,[],0⟩:TB)].flatMap kJ) 182 false):=by rw[e4]; exact T.af _ _ _
  have nx4:h4.nx=h3.nx+1:=by rw[e4]
  have l4:h4.lo=h3.lo:=by rw[e4]
  try rw[←e4]
  clear e4
  have LK:=eZ.trans oM
  have Vn:=(oM.get _ (by omega)).trans ZC
  refine iD (enc:=kJ) (a:=h2) (L:=Ts) (M:=[(⟨h1.nx+1,h1.nx,[],0⟩:TB)]) yI HZ (by decide) (by decide) (ho.le LK) (Sl.new (by omega) g4 _) (bK.trans LK) (by simp; omega) (by omega) _ ?_
  intro v5 h5 DC Ar nx5 ahI l5 wJ
  have gt5:=(wJ (h2.nx+1) (by omega) (by rw[Vn]; exact aV)).trans Vn
  obtain ⟨ZD,ZE,ev5,_⟩:=(show Sl kJ h5 v5 _ from DC.sl)
  subst ev5
  simp(disch:=first|omega|simp only[Wd]<;>omega|with_unfolding_all rfl)only[Wz,ax,gt5]
  have HD:∀c vs ty op,c<h4.nx→ty≠182→h4.bl.get c=some (aa vs ty op)→h5.bl.get c=h4.bl.get c:=fun c vs ty op hc hty hg=>wJ c hc (by rw[hg]; exact aX hty)
  have fm5:∀c es cl,c<h4.nx→h4.bl.get c=some (.map es cl)→h5.bl.get c=h4.bl.get c:=fun c es cl hc hg=>wJ c hc (by rw[hg]; exact bu)
  obtain ⟨h6,e6⟩:∃h6:Heap,h6=⟨h5.nx,h5.bl.aS (h2.nx+1) (aa [.int .i64 c.S,.int .i64 c.H,.int .i64 (R:Int),.int .i64 c.P,.pointer (some ⟨bp,0,none⟩),.slice ZD (Ts++[(⟨h1.nx+1,h1.nx,[],0⟩:TB)]).length ZE,.map (some h2.nx)] 147 false),h5.lo⟩:=⟨_,rfl⟩
  have gt6:h6.bl.get (h2.nx+1)=some (aa [.int .i64 c.S,.int .i64 c.H,.int .i64 (R:Int),.int .i64 c.P,.pointer (some ⟨bp,0,none⟩),.slice ZD (Ts++[(⟨h1.nx+1,h1.nx,[],0⟩:TB)]).length ZE,.map (some h2.nx)] 147 false):=by rw[e6]; exact T.af _ _ _
  have Yt:∀d,d≠h2.nx+1→h6.bl.get d=h5.bl.get d:=fun d hd=>by rw[e6]; exact T.ah _ _ (fun e=>hd e.symm)
  have IA:fu kJ h2 182 h6 (.slice ZD (Ts++[(⟨h1.nx+1,h1.nx,[],0⟩:TB)]).length ZE) (Ts++[(⟨h1.nx+1,h1.nx,[],0⟩:TB)]):=by rw[e6]; exact fu.put DC (by rw[gt5]; exact aV) _
  have sG:Le h2 h6:=by rw[e6]; exact Ar.set (b:=h2.nx+1) (by omega) _
  have nx6:h6.nx=h5.nx:=by rw[e6]
  have l6:h6.lo=h5.lo:=by rw[e6]
  rw[←e6]
  clear e6
  have hc6:∀d vs ty op,d<h4.nx→ty≠182→ty≠147→h4.bl.get d=some (aa vs ty op)→h6.bl.get d=h4.bl.get d:=by
   intro d vs ty op hd h1 h2' hg
   refine (Yt d ?_).trans (HD d vs ty op hd h1 hg)
   rintro rfl
   rw[hg] at Vn
   exact aX h2' Vn
  have hm6:∀d es cl,d<h4.nx→h4.bl.get d=some (.map es cl)→h6.bl.get d=h4.bl.get d:=by
   intro d es cl hd hg
   refine (Yt d ?_).trans (fm5 d es cl hd hg)
   rintro rfl
   rw[hg] at Vn
   exact bu Vn
  have gw4:=(LK.get h2.nx (by omega)).trans QM
  have p4:=p1.le LK
  have p6:=p4.wO (by omega) (by omega) hc6
  have rm:aU h4 (h1.nx+1) h1.nx bp bl aH [] 0 F (List.replicate R false):=⟨by omega,by omega,by omega,(oM.get _ (by omega)).trans U9,(oM.get _ (by omega)).trans gm3,⟨List.Pairwise.nil,List.Pairwise.nil,fun e he=>(nomatch he)⟩,fun e he=>(nomatch he),fun e he=>(nomatch he),p4,hne⟩
  have Yu:∀b∈Ts,b.bm<h1.nx:=fun b hb=>(hbk b hb).1.rP
  simp(disch:=first|omega|simp only[Wd]<;>omega|with_unfolding_all rfl)only[Wz,s1]
  refine ⟨_,by omega,i+1,Ts++[⟨h1.nx+1,h1.nx,[],0⟩],.slice ZD (Ts++[(⟨h1.nx+1,h1.nx,[],0⟩:TB)]).length ZE,rfl,rfl,by omega,by simp; omega,by rw[←eH]; exact gt6,(hm6 _ _ _ (by omega) gw4).trans gw4,IA,p6,?_,?_,sG,by omega⟩
  ·intro b hb
   rcases List.mem_append.1 hb with hb | hb
   ·obtain ⟨k1,k2,k3,k4⟩:=hbk b hb
    have k5:=k1.le LK
    exact ⟨k5.wO (by omega) (by omega) hc6 (hm6 _ _ _ k5.rP k5.eM),k2,k3,k4⟩
   ·rw[List.mem_singleton] at hb; subst hb
    exact ⟨rm.wO (by omega) (by omega) hc6 (hm6 _ _ _ rm.rP rm.eM),rfl,rfl,nB⟩
  ·exact qR hds fun q hq=>Nat.ne_of_lt (Yu q hq)
 ·have hiS:i=S:=by omega
  simp(disch:=first|omega|simp only[Wd]<;>omega|with_unfolding_all rfl)only[Wz,s1,cg (show c.S≤(i:Int) by omega)]
  have hnil:∀b∈Ts,b.M=[]:=fun b hb=>(hbk b hb).2.1
  have hM:∀(k:Nat) (b:TB),Ts[k]? = some b→b.M=[]:=fun k b hb=>hnil b (List.mem_of_getElem? hb)
  have xN:(Ts.flatMap fun b=>ez b.M)=[]:=by
   rw[List.flatMap_eq_nil_iff]
   intro b hb
   rw[hnil b hb]; rfl
  have eRn:c.R.toNat=R:=by omega
  refine QD h1 (h2.nx+1) h2.nx bp bl v aH Ts F (by unfold iE; omega) ⟨⟨by omega,by rw[eR]; exact gt1,ho.sl,uj.own ho,by omega,by omega,QM,fun b hb=>?_,hds,fun b hb=>?_,by rw[eRn]; exact p1,by omega,by omega,by omega⟩,?_,?_,?_,?_,?_,?_,by omega⟩ (fun b hb=>?_) (by omega) (by omega) (by omega) ?_ ?_
  ·obtain ⟨k1,k2,k3,k4⟩:=hbk b hb
   rw[k2,k3,eRn]; exact k1
  ·have:=(hbk b hb).2.2.2; omega
  ·rw[xN,C4]
  ·intro k b hk e he; rw[hM k b hk] at he; nomatch he
  ·intro k b hk e he; rw[hM k b hk] at he; nomatch he
  ·intro b hb e he; rw[hnil b hb] at he; nomatch he
  ·intro b hb; rw[hnil b hb]; exact Nat.zero_le _
  ·rw[List.length_replicate]; omega
  ·have:=(hbk b hb).2.2.2; omega
  ·exact aO.trans (xM.trans bK)
  ·intro x hx
   have:=acS x ((FB.congr (bK.get bp p.fr.lt)).1 hx)
   omega
structure HC where
 t:Int
 r:Int
 a:Option Addr
 n:Nat
 c:Nat
 w:Int
instance:Inhabited HC:=⟨⟨0,0,none,0,0,0⟩⟩
def wP (x:HC):List Value:=[.int .i64 x.t,.int .i64 x.r,.slice x.a x.n x.c,.int .i64 x.w]
def ZF (x y:HC):Int:=MR (x.t,x.r) (y.t,y.r)
theorem acW:Go.Sort.SWO (ltOf ZF) where
 irrefl x:=OL.irrefl (x.t,x.r)
 trans x y z h1 h2:=OL.trans (x.t,x.r) (y.t,y.r) (z.t,z.r) h1 h2
 ntrans x y z h1 h2:=OL.ntrans (x.t,x.r) (y.t,y.r) (z.t,z.r) h1 h2
theorem EF (t r t' r':Int) (W:World):Calls Tryz.prog 92 #[.agg #[.int .i64 t,.int .i64 r],.agg #[.int .i64 t',.int .i64 r']] W fun e w'=>e=.returned (.int .i64 (nW t r t' r'))∧∃q os',w'=Go.Sort.grow (W.drewN q) os':=
 qg (args:=[ew t r,ew t' r']) (args':=[ew t r,ew t' r']) (nX t r t' r' rfl) (.cons (VR.pE (.cons (.int _ _) (.cons (.int _ _) .nil))) (.cons (VR.pE (.cons (.int _ _) (.cons (.int _ _) .nil))) .nil)) rfl W
theorem LL (x y:HC) (W:World):Calls Tryz.prog 105 #[.agg #[.int .i64 x.t,.int .i64 x.r,.slice x.a x.n x.c,.int .i64 x.w],.agg #[.int .i64 y.t,.int .i64 y.r,.slice y.a y.n y.c,.int .i64 y.w]] W fun e w'=>e=.returned (.int .i64 (ZF x y))∧∃q os',w'=Go.Sort.grow (W.drewN q) os':=by
 have Yv:=fun W'=>EF x.t x.r y.t y.r W'
 show Calls _ _ _ _ fun e w'=>e=.returned (.int .i64 (nW x.t x.r y.t y.r))∧_
 generalize nW x.t x.r y.t y.r=v at Yv ⊢
 generalize x.t=xt,x.r=xr,y.t=yt,y.r=yr at *
 go_enter Tryz.func105,Tryz.ntmps105
 go_wp2_with (go_at_call 92; refine (Yv _).mono ?_; rintro e w' ⟨rfl,q,os',rfl⟩)
 go_ret
 refine ⟨rfl,?_⟩
 rw[Go.Sort.alloc_eq_grow,Go.Sort.alloc_eq_grow,Go.Sort.grow_grow]
 exact ⟨q,_,(show Go.Sort.grow (Go.Sort.grow (W.drewN q) _) os'=_ from Go.Sort.grow_grow _ _ _)⟩
theorem LM (blk size:Nat) (w:World):Go.Proofs.CmpLays Tryz.prog 105 #[] wP 4 ZF blk 0 size w:=by
 intro m os dk _ x y
 exact LL x y _
theorem tE:∀args w,(callFunc 104 args).run Tryz.prog w=.ok (.enter 104 args) w:=enters_of Tryz.func104 (by kernel_rfl) rfl
theorem Ab (blk cap:Nat) (d:Array HC) (w:World) (hH:Go.Sort.HoldsK wP 4 w blk 0 d) (hblk:blk<w.heap.size) (hsz:d.size<4611686018427387904) :
  Calls Tryz.prog 104 #[.slice (some ⟨blk,0,none⟩) d.size cap,.func (.func 105) #[] #[]] w fun e w'=>e=.returned (.tuple #[])∧∃d' n os,Go.Sort.PermIn 0 d.size d d'∧Go.Sort.SortedIn (fun x y=>ltOf MR (x.t,x.r) (y.t,y.r)) 0 d.size d'∧w'=Go.Proofs.sortWorldK wP 4 w blk 0 n d' os:=by
 have eg:∀args w,(callFunc 105 args).run Tryz.prog w=.ok (.enter 105 args) w:=enters_of Tryz.func105 (by kernel_rfl) rfl
 exact Go.Proofs.AnyQ.slices_SortFunc Tryz.CP 4 Tryz.isAgg81 Tryz.sizeOf81 wP (fun _=>rfl) (fun x v hv=>by simp[wP] at hv; rcases hv with rfl | rfl | rfl | rfl<;>rfl) ZF acW 105 #[] blk 0 cap d w eg (LM blk d.size w) hH hblk hsz
theorem xP (p:Option Addr) (cap:Nat) (fv:Value) (w:World):Calls Tryz.prog 104 #[.slice p 0 cap,fv] w fun e w'=>e=.returned (.tuple #[])∧w'=w:=Go.Proofs.AnyF.slices_SortFunc_none Tryz.CP p cap fv w
theorem LN (q:Value):∃a n c,Ue q=.slice a n c:=by
 unfold Ue
 split
 ·exact ⟨_,_,_,rfl⟩
 ·exact ⟨_,_,_,rfl⟩
theorem VR.toSlice {φ:dm} {a:Option Addr} {n c:Nat} {v:Value} (h:VR φ (.slice a n c) v):∃a' n' c',v=.slice a' n' c':=by
 cases h<;>exact ⟨_,_,_,rfl⟩
theorem acX (φ:dm) (x:HE) (cs:List Value) (h:F2 (VR φ) (nY x) cs):∃y:HC,cs=wP y∧(x.t,x.r)=(y.t,y.r):=by
 obtain ⟨a,n,c,e⟩:=LN x.q
 unfold nY at h
 rw[e] at h
 cases h with | cons h1 h=>
 cases h with | cons h2 h=>
 cases h with | cons h3 h=>
 cases h with | cons h4 h=>
 cases h
 cases h1; cases h2; cases h4
 obtain ⟨a',n',c',rfl⟩:=VR.toSlice h3
 exact ⟨⟨x.t,x.r,a',n',c',x.w⟩,rfl,rfl⟩
theorem OX (a h:Heap) (K:List HE) (v:Value) (κ:KQ) (ho:HM a h v K) (hle:Le a h) (hl:K.length≤1000000)
  (hk:∀(D:List HE) h',D.Perm K→D.Pairwise (fun x y=>¬tD (y.t,y.r) (x.t,x.r))→HM a h' v D→Le a h'→(h'.nx=h.nx∧∀c,c<h.nx→h.bl.get c≠some (aa (K.flatMap nY) 81 true)→h'.bl.get c=h.bl.get c)→κ (.tuple ⟨[]⟩) h'):CallW Tryz.prog 104 [v,.func (.func 105) #[] #[]] h κ:=by
 rcases ho with ⟨rfl,hv⟩ | ⟨b,hv,h1,h2,h3,h4⟩
 ·exact yF tE xP hv (hk [] h (List.Perm.refl _) List.Pairwise.nil (.inl ⟨rfl,hv⟩) hle ⟨rfl,fun _ _ _=>rfl⟩)
 ·cases hv
  refine zZ (by decide) (enc:=wP) (iP:=nY) (fun _=>rfl) rA (kA:=fun x=>(x.t,x.r)) (kC:=fun x=>(x.t,x.r)) (lt:=fun x y=>ltOf MR x y) acX tE Ab h4 h3 hl ?_
  intro D hp hs
  refine hk D _ hp (hs.imp fun {x y} h=>Gj.1 h) (.inr ⟨b,by rw[hp.length_eq],h1,h2,h3,T.af _ _ _⟩) ⟨hle.nx,hle.lo,fun c hc=>?_⟩ ⟨rfl,fun c hc hne=>?_⟩
  ·exact (T.ah _ _ (by omega)).trans (hle.get c hc)
  ·refine T.ah _ _ ?_
   rintro rfl
   exact hne h4
structure Yw (h:Heap) (Ts:List TB) (v:Value) (K:List HE):Prop where
 perm:(K.map di).Perm (Ts.flatMap fun b=>b.M.map di)
 srt:(K.map di).Pairwise tD
 each:∀k∈K,(∃b∈Ts,∃e∈b.M,CT k e)∧QV h k.q k.Q
 sl:Sl nY h v K
 ty:uj 81 h v
theorem rE.keep {h h':Heap} {tb bw bp bl:Nat} {c:dg} {vb:Value} {aH:Nat} {Ts:List TB} {W:List IE} {wc:Nat} {F:List Int} {B:List Bool} (s:dA h tb bw bp bl c vb aH Ts W wc F B) (f:rE Ts bw bp bl h h') {d:Nat} {vs:List Value} {ty:TypeId} {op:Bool} (hd:d<h.nx) (hg:h.bl.get d=some (aa vs ty op)) (h1:ty≠225) (h2:ty≠4) (h3:ty≠3):h'.bl.get d=h.bl.get d:=by
 obtain ⟨fs,tQ,hpt⟩:=s.ck.fr.cell
 have gl:=s.ck.cell
 have gw:=s.lK
 refine f.get d hd (fun b hb=>?_) (by rintro rfl; rw[hg] at gw; exact bu gw.symm) (by rintro rfl; rw[hg] at tQ; exact aX h1 tQ) (by rintro rfl; rw[hg] at gl; exact aX h2 gl) fun ws=>by rw[hg]; exact aX h3
 rintro rfl
 have gm:=(s.bk b hb).eM
 rw[hg] at gm
 exact bu gm.symm
section
variable {h:Heap} {tb bw bp bl:Nat} {c:dg} {vb:Value} {aH N:Nat} {Ts:List TB} {W:List IE} {wc:Nat} {F:List Int} {B:List Bool}
theorem gK.nodup (s:gK h tb bw bp bl c vb aH N Ts W wc F B):(Ts.flatMap fun b=>b.M.map di).Nodup:=by
 rw[List.Nodup,List.pairwise_flatMap]
 constructor
 ·intro b hb
  rw[List.pairwise_map]
  exact (s.is.bk b hb).ok.nm.imp fun hn e=>hn ⟨congrArg Prod.fst e,congrArg Prod.snd e⟩
 ·rw[dF]
  intro i j p q hij hp hq x hx y hy hxy
  obtain ⟨e,he,rfl⟩:=List.mem_map.1 hx
  obtain ⟨f,hf,rfl⟩:=List.mem_map.1 hy
  have h1:=s.nm i p hp e he
  have h2:=s.nm j q hq f hf
  have e1:e.t=f.t:=congrArg Prod.fst hxy
  have e2:e.r=f.r:=congrArg Prod.snd hxy
  rw[e1,e2,h2] at h1
  omega
theorem yJ {α β:Type} (f:α→List β) {L:List α} {i:Nat} {b:α} (h:L[i]? = some b):(L.take (i+1)).flatMap f=(L.take i).flatMap f++f b:=by
 rw[List.take_add_one,h,List.flatMap_append]
 simp
theorem Ac (s:gK h tb bw bp bl c vb aH N Ts W wc F B) (hlo:h.lo≤h.nx) (κ:KQ) (hk:∀v h' K,Yw h' Ts v K→Le h h'→κ v h') :
  CallW Tryz.prog 65 [.pointer (some ⟨tb,0,none⟩)] h κ:=by
 refine aj mixed ?_
 rw[WO]
 have gt:=s.is.kK
 have hs1:=s.is.s1
 obtain ⟨vx,vc,ev,_⟩:=(show Sl kJ h vb Ts from s.is.sl)
 have LO:∀(β:Type) (fl:β) (h':Heap) (κ:Value→Heap→β),bz fl vb h' κ=κ (.int .i64 (Ts.length:Int)) h':=fun β fl h' κ=>by rw[ev]; exact eY _ _ _ _ _
 simp(disch:=first|omega|simp only[Wd]<;>omega|with_unfolding_all rfl)only[Wz,lM,ax,gt,LO]
 have acY:=s.is.hd
 refine ⟨fun n l h1=>∃(i:Nat) (K:List HE),slot l 10=.int .i64 (i:Int)∧n=Ts.length-i∧i≤Ts.length∧(K.map di).Perm ((Ts.take i).flatMap fun b=>b.M.map di)∧(∀k∈K,(∃b∈Ts,∃e∈b.M,CT k e)∧QV h1 k.q k.Q)∧K.length≤64*i∧HM h h1 (slot l 8) K∧Le h h1,
  ⟨_,0,[],rfl,rfl,by omega,by simp,fun k hk=>(nomatch hk),by simp,.inl ⟨rfl,.inl rfl⟩,Le.refl _⟩,?_⟩
 rintro n l h1 ⟨i,K,s1,rfl,hi,hp,hE,On,ho,bK⟩
 have n1:=bK.nx
 have l1:=bK.lo
 by_cases hlt:i<Ts.length
 ·obtain ⟨b,hb⟩:∃b,Ts[i]? = some b:=⟨_,List.getElem?_eq_getElem hlt⟩
  have Vl:=List.mem_of_getElem? hb
  obtain ⟨cc,oo,_,Gf,nG⟩:=LH s.is.sl i hb
  have nG:=nG h1 bK
  have sb:=(s.is.bk b Vl).le bK
  have KS:=s.len b Vl
  simp(disch:=first|omega|simp only[Wd]<;>omega|with_unfolding_all rfl)only[Wz,zJ,s1,fH (show (i:Int)<(Ts.length:Int) by omega),Gf,nG]
  refine HO sb (by omega) (by omega) _ ?_
  intro v2 h2 K2 Zm hp2 hs2 hE2 w_ bF
  have n2:=bF.nx
  have l2:=bF.lo
  refine iD (enc:=nY) (a:=h) (L:=K) (M:=K2) rA CS (by decide) (by decide) (ho.le bF) w_.sl (bK.trans bF) (by omega) (by omega) _ ?_
  intro v5 h5 DC Ar _ n5 l5 wJ
  have HD:∀d vs op,d<h2.nx→h2.bl.get d=some (aa vs 83 op)→h5.bl.get d=h2.bl.get d:=fun d vs op hc hg=>wJ d hc (by rw[hg]; exact aX (by decide))
  refine ⟨_,by omega,i+1,K++K2,rfl,rfl,by omega,?_,?_,by rw[List.length_append]; omega,DC,Ar⟩
  ·rw[yJ _ hb,List.map_append]
   exact hp.append hp2
  ·intro k hk'
   rcases List.mem_append.1 hk' with hk' | hk'
   ·exact ⟨(hE k hk').1,((hE k hk').2.le bF).frame n5 HD⟩
   ·obtain ⟨e,he,se⟩:=(hE2 k hk').1
    exact ⟨⟨b,Vl,e,he,se⟩,(hE2 k hk').2.frame n5 HD⟩
 ·have hil:i=Ts.length:=by omega
  subst hil
  rw[List.take_length] at hp
  simp(disch:=first|omega|simp only[Wd]<;>omega|with_unfolding_all rfl)only[Wz,zJ,s1,cg (show (Ts.length:Int)≤(Ts.length:Int) by omega)]
  refine OX h h1 K _ _ ho bK (by omega) ?_
  intro D h' hD Yh ho' le' hfr
  have hnd:(D.map di).Nodup:=(((hD.map di).trans hp).nodup_iff).2 s.nodup
  refine hk _ h' D ⟨(hD.map di).trans hp,?_,fun k hk'=>?_,ho'.sl,uj.own ho'⟩ le'
  ·have h1:(D.map di).Pairwise fun x y=>¬tD y x:=by
    rw[List.pairwise_map]
    exact Yh.imp fun {x y} h=>h
   exact (hnd.and h1).imp fun {x y} ⟨hne,hn⟩=>Gi (fun e=>hne e.symm) hn
  ·have:=hE k (hD.mem_iff.1 hk')
   exact ⟨this.1,this.2.frame (by omega) fun d vs op hc hg=>hfr.2 d hc (by rw[hg]; exact aX (by decide))⟩
end
structure L4 where
 x:Int
 t:Int
 r:Int
 m:Int
theorem Um {p q:L4}:p=q↔(p.x=q.x∧p.t=q.t∧p.r=q.r∧p.m=q.m):=by cases p; cases q; simp
instance:DecidableEq L4:=fun p q=>decidable_of_iff _ Um.symm
instance:Inhabited L4:=⟨⟨0,0,0,0⟩⟩
def jv (a:L4):List Value:=[.int .i64 a.x,.int .i64 a.t,.int .i64 a.r,.int .i64 a.m]
theorem wQ (a:L4):(jv a).length=4:=rfl
theorem LP (a:L4):(jv a).all d_=true:=rfl
def LQ (a b:L4):Int:=if oO a.x b.x=0 then nW a.t a.r b.t b.r else oO a.x b.x
def LR (a b:L4):Prop:=a.x<b.x∨(a.x=b.x∧tD (a.t,a.r) (b.t,b.r))
theorem Ad (a b:L4):ltOf LQ a b=true↔LR a b:=by
 show decide (LQ a b<0)=true↔_
 rw[decide_eq_true_eq]
 have:=CO (a.t,a.r) (b.t,b.r)
 unfold LQ LR
 split
 ·rename_i h
  have hx:a.x=b.x:=by unfold oO at h; split at h<;>(try split at h)<;>omega
  rw[this]
  constructor
  ·exact fun h=>.inr ⟨hx,h⟩
  ·rintro (h | h)
   ·omega
   ·exact h.2
 ·rename_i h
  unfold oO at *
  split
  ·exact ⟨fun _=>.inl (by assumption),fun _=>by decide⟩
  ·rename_i h1
   rw[if_neg h1] at h
   split
   ·exact ⟨fun h=>by omega,fun h=>by rcases h with h | h<;>omega⟩
   ·rename_i h2; rw[if_neg h2] at h; exact absurd rfl h
theorem LS {a b:L4}:ltOf LQ a b=false↔¬LR a b:=by rw[←Ad,Bool.not_eq_true]
theorem H9 {a b c:L4} (h1:LR a b) (h2:LR b c):LR a c:=by unfold LR tD at *; simp only at *; omega
theorem acZ:Go.Sort.SWO (ltOf LQ) where
 irrefl x:=LS.2 (by unfold LR tD; simp only; omega)
 trans x y z h1 h2:=(Ad _ _).2 (H9 ((Ad _ _).1 h1) ((Ad _ _).1 h2))
 ntrans x y z h1 h2:=by
  rw[LS] at *
  unfold LR tD at *
  simp only at *
  omega
theorem Un (a b:L4) {h:Heap} {κ:Value→Heap→Prop} (hk:κ (.int .i64 (LQ a b)) h):CallW Tryz.prog 89 [.agg ⟨jv a⟩,.agg ⟨jv b⟩] h κ:=by
 refine gU (v:=.int .i64 (LQ a b)) rfl rfl (aj mixed ?_) hk
 rw[W0]
 simp(disch:=first|omega|simp only[Wd]<;>omega|with_unfolding_all rfl)only[Wz,jv]
 refine qf _ _ ?_
 simp(disch:=first|omega|simp only[Wd]<;>omega|with_unfolding_all rfl)only[Wz]
 refine nX _ _ _ _ ?_
 simp(disch:=first|omega|simp only[Wd]<;>omega|with_unfolding_all rfl)only[Wz]
 refine Yd _ _ _ _ (Sl.new (L:=[oO a.x b.x,nW a.t a.r b.t b.r]) (e:=3) (op:=false) (Nat.lt_succ_self _) (T.af _ _ _) _) _ ?_
 rfl
theorem LU (blk size:Nat) (w:World):Go.Proofs.CmpLays Tryz.prog 89 #[] jv 4 LQ blk 0 size w:=by
 intro m os dk _ x y
 exact qg (args:=[.agg ⟨jv x⟩,.agg ⟨jv y⟩]) (args':=[.agg ⟨jv x⟩,.agg ⟨jv y⟩]) (Un x y rfl)
  (.cons (VR.pE (.cons (.int _ _) (.cons (.int _ _) (.cons (.int _ _) (.cons (.int _ _) .nil))))) (.cons (VR.pE (.cons (.int _ _) (.cons (.int _ _) (.cons (.int _ _) (.cons (.int _ _) .nil))))) .nil)) rfl _
theorem tF:∀args w,(callFunc 88 args).run Tryz.prog w=.ok (.enter 88 args) w:=enters_of Tryz.func88 (by kernel_rfl) rfl
theorem Ae (blk cap:Nat) (d:Array L4) (w:World) (hH:Go.Sort.HoldsK jv 4 w blk 0 d) (hblk:blk<w.heap.size) (hsz:d.size<4611686018427387904) :
  Calls Tryz.prog 88 #[.slice (some ⟨blk,0,none⟩) d.size cap,.func (.func 89) #[] #[]] w fun e w'=>e=.returned (.tuple #[])∧∃d' n os,Go.Sort.PermIn 0 d.size d d'∧Go.Sort.SortedIn (fun x y=>ltOf LQ x y) 0 d.size d'∧w'=Go.Proofs.sortWorldK jv 4 w blk 0 n d' os:=by
 have eg:∀args w,(callFunc 89 args).run Tryz.prog w=.ok (.enter 89 args) w:=enters_of Tryz.func89 (by kernel_rfl) rfl
 exact Go.Proofs.AnyQ.slices_SortFunc Tryz.CQ 4 Tryz.isAgg60 Tryz.sizeOf60 jv (fun _=>rfl) (fun x v hv=>by simp[jv] at hv; rcases hv with rfl | rfl | rfl | rfl<;>rfl) LQ acZ 89 #[] blk 0 cap d w eg (LU blk d.size w) hH hblk hsz
theorem xQ (p:Option Addr) (cap:Nat) (fv:Value) (w:World):Calls Tryz.prog 88 #[.slice p 0 cap,fv] w fun e w'=>e=.returned (.tuple #[])∧w'=w:=Go.Proofs.AnyF.slices_SortFunc_none Tryz.CQ p cap fv w
theorem ac0 (φ:dm) (x:L4) (cs:List Value) (h:F2 (VR φ) (jv x) cs):∃y:L4,cs=jv y∧x=y:=by
 unfold jv at h
 cases h with | cons h1 h=>
 cases h with | cons h2 h=>
 cases h with | cons h3 h=>
 cases h with | cons h4 h=>
 cases h
 cases h1; cases h2; cases h3; cases h4
 exact ⟨x,rfl,rfl⟩
abbrev H_ (a h:Heap) (v:Value) (L:List L4):Prop:=fu jv a 60 h v L
theorem OY (a h:Heap) (L:List L4) (v:Value) (κ:KQ) (ho:H_ a h v L) (hle:Le a h) (hl:L.length≤1000000)
  (hk:∀(D:List L4) h',D.Perm L→D.Pairwise (fun x y=>¬LR y x)→H_ a h' v D→Le a h'→κ (.tuple ⟨[]⟩) h'):CallW Tryz.prog 88 [v,.func (.func 89) #[] #[]] h κ:=by
 rcases ho with ⟨rfl,hv⟩ | ⟨b,hv,h1,h2,h3,h4⟩
 ·exact yF tF xQ hv (hk [] h (List.Perm.refl _) List.Pairwise.nil (.inl ⟨rfl,hv⟩) hle)
 ·cases hv
  refine zZ (by decide) (enc:=jv) (iP:=jv) wQ wQ (kA:=id) (kC:=id) (lt:=fun x y=>ltOf LQ x y) ac0 tF Ae h4 h3 hl ?_
  intro D hp hs
  refine hk D _ hp (hs.imp fun {x y} h=>LS.1 h) (.inr ⟨b,by rw[hp.length_eq],h1,h2,h3,T.af _ _ _⟩) ⟨hle.nx,hle.lo,fun c hc=>?_⟩
  exact (T.ah _ _ (by omega)).trans (hle.get c hc)
def jl (t r:Int) (Q:List R5):List L4:=(Q.filter fun p=>decide (p.m≠0)).map fun p=>⟨p.x,t,r,p.m⟩
def jV (e:HE):List L4:=jl e.t e.r e.Q
theorem EG {t r:Int} {Q:List R5} {j:Nat} {p:R5} (h:Q[j]? = some p):jl t r (Q.take (j+1))=jl t r (Q.take j)++(if p.m≠0 then [⟨p.x,t,r,p.m⟩] else []):=by
 unfold jl
 rw[List.take_add_one,h]
 simp only[Option.toList_some,List.filter_append,List.map_append]
 congr 1
 by_cases hm:p.m≠0
 ·rw[if_pos hm,List.filter_cons_of_pos (by simpa using hm)]; rfl
 ·rw[if_neg hm,List.filter_cons_of_neg (by simpa using hm)]; rfl
theorem yK {t r:Int} (Q:List R5):(jl t r Q).length≤Q.length:=by
 unfold jl
 rw[List.length_map]
 exact List.length_filter_le _ _
structure Gt (h:Heap) (Ts:List TB) (v:Value) (D:List L4) (K:List HE):Prop where
 names:(K.map di).Perm (Ts.flatMap fun b=>b.M.map di)
 ac1:(K.map di).Pairwise tD
 each:∀k∈K,∃b∈Ts,∃e∈b.M,CT k e
 perm:D.Perm (K.flatMap jV)
 srt:D.Pairwise fun x y=>¬LR y x
 sl:Sl jv h v D
 ty:uj 60 h v
section
variable {h:Heap} {tb bw bp bl:Nat} {c:dg} {vb:Value} {aH N:Nat} {Ts:List TB} {W:List IE} {wc:Nat} {F:List Int} {B:List Bool}
theorem EH {K:List HE} {i:Nat} {e:HE} (h:K[i]? = some e):(K.take (i+1)).flatMap jV=(K.take i).flatMap jV++jV e:=yJ jV h
theorem wR {K:List HE} (hs:∀k∈K,k.Q.length≤128):(K.flatMap jV).length≤128*K.length:=by
 induction K with
 | nil=>simp
 | cons k K ih=>
  rw[List.flatMap_cons,List.length_append,List.length_cons]
  have h1:=ih fun x hx=>hs x (.tail _ hx)
  have h2:=yK (t:=k.t) (r:=k.r) k.Q
  have h3:=hs k (.head _)
  have h4:(jV k).length≤128:=Nat.le_trans h2 h3
  omega
theorem OZ (s:gK h tb bw bp bl c vb aH N Ts W wc F B) (hlo:h.lo≤h.nx) (κ:KQ) (hk:∀v h' D K,Gt h' Ts v D K→H_ h h' v D→Le h h'→κ v h') :
  CallW Tryz.prog 53 [.pointer (some ⟨tb,0,none⟩)] h κ:=by
 refine aj mixed ?_
 rw[WH]
 refine Ac s hlo _ ?_
 intro v0 h0 K t0 EI
 have n0:=EI.nx
 have l0:=EI.lo
 obtain ⟨x0,c0,Yx,_⟩:=(show Sl nY h0 v0 K from t0.sl)
 have C6:∀(β:Type) (fl:β) (h':Heap) (κ:Value→Heap→β),bz fl v0 h' κ=κ (.int .i64 (K.length:Int)) h':=fun β fl h' κ=>by rw[Yx]; exact eY _ _ _ _ _
 have hKs:∀k∈K,k.Q.length≤128:=by
  intro k hk'
  obtain ⟨⟨b,hb,e,he,se⟩,_⟩:=t0.each k hk'
  have:=((s.is.bk b hb).good e he).small
  rw[se.2.2.2]; exact this
 have On:K.length≤1024:=by
  have h1:=t0.perm.length_eq
  rw[List.length_map] at h1
  rw[h1]
  have h2:=s.is.s1.2
  have h3:=s.is.hd
  have:∀L:List TB,(∀b∈L,b.M.length≤64)→(L.flatMap fun b=>b.M.map di).length≤64*L.length:=by
   intro L
   induction L with
   | nil=>intro _; simp
   | cons b L ih=>
    intro hL
    rw[List.flatMap_cons,List.length_append,List.length_map,List.length_cons]
    have h1:=ih fun x hx=>hL x (.tail _ hx)
    have h2:=hL b (.head _)
    omega
  have:=this Ts fun b hb=>by have:=s.len b hb; omega
  omega
 have ahO:=wR hKs
 have Zn:∀i,((K.take i).flatMap jV).length≤131072:=by
  intro i
  have h1:=wR (K:=K.take i) fun k hk'=>hKs k (List.mem_of_mem_take hk')
  have h2:(K.take i).length≤K.length:=by rw[List.length_take]; omega
  omega
 simp(disch:=first|omega|simp only[Wd]<;>omega|with_unfolding_all rfl)only[Wz,C6]
 refine ⟨fun n l h1=>∃i:Nat,slot l 28=.int .i64 (i:Int)∧n=K.length-i∧i≤K.length∧H_ h0 h1 (slot l 24) ((K.take i).flatMap jV)∧Le h0 h1,
  ⟨_,0,rfl,rfl,by omega,.inl ⟨by simp,.inl rfl⟩,Le.refl _⟩,?_⟩
 rintro n l h1 ⟨i,s1,rfl,hi,ho,bK⟩
 have n1:=bK.nx
 have l1:=bK.lo
 by_cases hlt:i<K.length
 ·obtain ⟨e,he⟩:∃e,K[i]? = some e:=⟨_,List.getElem?_eq_getElem hlt⟩
  have Vo:=List.mem_of_getElem? he
  have qv:=(t0.each e Vo).2
  obtain ⟨b0,o0,hb0,hx0,E9⟩:=Uh t0.sl i he (Ey qv.1)
  have R1:=E9 h1 bK
  have QN:=qv.le bK
  obtain ⟨qx,qc,eq,_⟩:=(show Sl aZ h1 e.q e.Q from QN.1)
  have GV:=hKs e Vo
  rw[eq] at R1
  simp(disch:=first|omega|simp only[Wd]<;>omega|with_unfolding_all rfl)only[Wz,s1,fH (show (i:Int)<(K.length:Int) by omega),F3,hx0,R1]
  rw[←eq] at R1
  obtain ⟨h2,e2⟩:∃h2:Heap,h2=⟨h1.nx+1,h1.bl.aS h1.nx (aa [.int .i64 e.t,.int .i64 e.r,.slice qx e.Q.length qc,.int .i64 e.w] 81 false),h1.lo⟩:=⟨_,rfl⟩
  have bF:Le h1 h2:=by rw[e2]; exact (Le.refl h1).new _
  have g2:h2.bl.get h1.nx=some (aa [.int .i64 e.t,.int .i64 e.r,.slice qx e.Q.length qc,.int .i64 e.w] 81 false):=by rw[e2]; exact T.af _ _ _
  have nx2:h2.nx=h1.nx+1:=by rw[e2]
  try rw[←e2]
  clear e2
  have n2:=bF.nx
  have l2:=bF.lo
  have qv2:=QN.le bF
  refine ⟨fun m l3 h3=>∃j:Nat,slot l3 19=.int .i64 (j:Int)∧m=e.Q.length-j∧j≤e.Q.length∧H_ h0 h3 (slot l3 17) ((K.take i).flatMap jV++jl e.t e.r (e.Q.take j))∧Le h0 h3∧h1.nx<h3.nx∧h3.bl.get h1.nx=some (aa [.int .i64 e.t,.int .i64 e.r,.slice qx e.Q.length qc,.int .i64 e.w] 81 false)∧QV h3 e.q e.Q,
   ⟨_,0,rfl,rfl,by omega,?_,bK.trans bF,by omega,g2,qv2⟩,?_⟩
  ·rw[List.take_zero]
   have:jl e.t e.r []=[]:=rfl
   rw[this,List.append_nil]
   exact ho.le bF
  rintro m l3 h3 ⟨j,s3,rfl,hj,pJ,eZ,n3,g3,q3⟩
  have n3':=eZ.nx
  have l3':=eZ.lo
  by_cases hjl:j<e.Q.length
  ·obtain ⟨p,hp⟩:∃p,e.Q[j]? = some p:=⟨_,List.getElem?_eq_getElem hjl⟩
   obtain ⟨b4,o4,_,Vp,OD,_⟩:=MQ q3.1 j hp
   rw[eq] at Vp
   have hmono:=yK (t:=e.t) (r:=e.r) (e.Q.take j)
   have ahQ:=Zn i
   have htl:(e.Q.take j).length≤e.Q.length:=by rw[List.length_take]; omega
   simp(disch:=first|omega|simp only[Wd]<;>omega|with_unfolding_all rfl)only[Wz,s3,fH (show (j:Int)<(e.Q.length:Int) by omega),zG]
   refine ⟨fun l' h'=>∃L',L'=(K.take i).flatMap jV++jl e.t e.r (e.Q.take (j+1))∧H_ h0 h' (slot l' 16) L'∧Le h0 h'∧h1.nx<h'.nx∧h'.bl.get h1.nx=some (aa [.int .i64 e.t,.int .i64 e.r,.slice qx e.Q.length qc,.int .i64 e.w] 81 false)∧QV h' e.q e.Q,?_,?_⟩
   rotate_left
   ·rintro l' h' ⟨L',rfl,hL,hle,hn,hg,hq⟩
    exact ⟨_,by omega,j+1,rfl,rfl,by omega,hL,hle,hn,hg,hq⟩
   simp(disch:=first|omega|simp only[Wd]<;>omega|with_unfolding_all rfl)only[Wz,F0,s3,Vp,OD,aZ]
   obtain ⟨h5,e5⟩:∃h5:Heap,h5=⟨h3.nx+1,h3.bl.aS h3.nx (gG p),h3.lo⟩:=⟨_,rfl⟩
   have Ar:Le h3 h5:=by rw[e5]; exact (Le.refl h3).new _
   have g5:h5.bl.get h3.nx=some (gG p):=by rw[e5]; exact T.af _ _ _
   have nx5:h5.nx=h3.nx+1:=by rw[e5]
   try rw[←e5]
   clear e5
   have l5:=Ar.lo
   have TM:=(Ar.get _ n3).trans g3
   have hstep:=EG (t:=e.t) (r:=e.r) hp
   by_cases hm:p.m=0
   ·simp(disch:=first|omega|simp only[Wd]<;>omega|with_unfolding_all rfl)only[Wz,bf hm]
    refine ⟨_,rfl,?_,eZ.trans Ar,by omega,?_,q3.le Ar⟩
    ·rw[hstep,if_neg (by omega),List.append_nil]
     exact pJ.le Ar
    ·first | exact TM | exact g3
   ·simp(disch:=first|omega|simp only[Wd]<;>omega|with_unfolding_all rfl)only[Wz,a_ hm,FZ,g5,TM]
    obtain ⟨h6,e6⟩:∃h6:Heap,h6=⟨h5.nx+1,h5.bl.aS h5.nx (aa [.int .i64 p.x,.int .i64 e.t,.int .i64 e.r,.int .i64 p.m] 60 false),h5.lo⟩:=⟨_,rfl⟩
    have sG:Le h5 h6:=by rw[e6]; exact (Le.refl h5).new _
    have g6:h6.bl.get h5.nx=some (aa ([(⟨p.x,e.t,e.r,p.m⟩:L4)].flatMap jv) 60 false):=by rw[e6]; exact T.af _ _ _
    have nx6:h6.nx=h5.nx+1:=by rw[e6]
    have l6:h6.lo=h5.lo:=by rw[e6]
    try rw[←e6]
    clear e6
    have wF:=Ar.trans sG
    have g36:=(sG.get _ (by omega)).trans TM
    refine iD (enc:=jv) (a:=h0) (L:=(K.take i).flatMap jV++jl e.t e.r (e.Q.take j)) (M:=[(⟨p.x,e.t,e.r,p.m⟩:L4)]) wQ LP (by decide) (by decide) (pJ.le wF) (Sl.new (by omega) g6 _) (eZ.trans wF) (by rw[List.length_append]; simp only[List.length_cons,List.length_nil]; omega) (by omega) _ ?_
    intro v7 h7 OE T_ _ n7 l7 QO
    refine ⟨_,rfl,?_,T_,by omega,(QO _ (by omega) (by rw[g36]; exact aV)).trans g36,(q3.le wF).frame n7 fun d vs op hc hg=>QO d hc (by rw[hg]; exact aX (by decide))⟩
    rw[hstep,if_pos hm,←List.append_assoc]
    exact OE
  ·have hjQ:j=e.Q.length:=by omega
   subst hjQ
   simp(disch:=first|omega|simp only[Wd]<;>omega|with_unfolding_all rfl)only[Wz,s3,cg (show (e.Q.length:Int)≤(e.Q.length:Int) by omega),zG,s1]
   refine ⟨_,by omega,i+1,rfl,rfl,by omega,?_,eZ⟩
   rw[EH he]
   rw[List.take_length] at pJ
   exact pJ
 ·have hil:i=K.length:=by omega
  subst hil
  rw[List.take_length] at ho
  simp(disch:=first|omega|simp only[Wd]<;>omega|with_unfolding_all rfl)only[Wz,s1,cg (show (K.length:Int)≤(K.length:Int) by omega)]
  refine OY h0 h1 _ _ _ ho bK (by omega) ?_
  intro D h' hD Yh ho' le'
  exact hk _ h' D K ⟨t0.perm,t0.srt,fun k hk'=>(t0.each k hk').1,hD,Yh,ho'.sl,uj.own ho'⟩ (fu.base ho' (by omega)) (EI.trans le')
theorem Uo (s:gK h tb bw bp bl c vb aH N Ts W wc F B) (hlo:h.lo≤h.nx) (κ:KQ) (hk:∀v h' D K,Gt h' Ts v D K→Le h h'→κ v h') :
  CallW Tryz.prog 53 [.pointer (some ⟨tb,0,none⟩)] h κ:=OZ s hlo κ fun v h' D K t _ l=>hk v h' D K t l
end
theorem O0 (id:Int) (h:Heap) (κ:KQ) (hk:κ (.pointer none) h):CallW Tryz.prog 243 [.pointer none,.int .i64 id] h κ:=by
 refine aj mixed ?_
 rw[Km]
 simp(disch:=first|omega|simp only[Wd]<;>omega|with_unfolding_all rfl)only[Wz,rD]
 exact hk
theorem LV (id:Int) (h:Heap) (κ:KQ) (hlo:h.lo≤h.nx) (hk:∀h',Le h h'→κ (.tuple ⟨[ew 0 0,jR ⟨0,0,0,0,0⟩,.bool false]⟩) h'):CallW Tryz.prog 202 [.pointer none,.int .i64 id] h κ:=by
 refine aj mixed ?_
 rw[Kk]
 simp(disch:=first|omega|simp only[Wd]<;>omega|with_unfolding_all rfl)only[Wz]
 obtain ⟨hA,aK⟩:∃hA:Heap,hA=⟨h.nx+1+1,((h.bl.aS (h.nx) (aa [.int .i64 0,.int .i64 0] 36 false)).aS (h.nx+1) (gG ⟨0,0,0,0,0⟩)),h.lo⟩:=⟨_,rfl⟩
 have aO:Le h hA:=by subst aK; exact (((Le.refl h).new _).new _)
 have g1:hA.bl.get (h.nx)=some (aa [.int .i64 0,.int .i64 0] 36 false):=by subst aK; exact (T.ah _ _ (by omega)).trans (T.af _ _ _)
 have g3:hA.bl.get (h.nx+1)=some (gG ⟨0,0,0,0,0⟩):=by subst aK; exact T.af _ _ _
 have gH:hA.nx=h.nx+1+1:=by subst aK; rfl
 have gI:hA.lo=h.lo:=by subst aK; rfl
 rw[←aK]
 clear aK
 refine O0 id hA _ ?_
 simp(disch:=first|omega|simp only[Wd]<;>omega|with_unfolding_all rfl)only[Wz,nS,g1,g3,aZ]
 exact hk _ ((aO.set (by omega) _).set (by omega) _)
section
variable {h:Heap} {tb bw bp bl:Nat} {c:dg} {vb:Value} {aH N:Nat} {Ts:List TB} {W:List IE} {wc:Nat} {F:List Int} {B:List Bool}
theorem LW (s:gK h tb bw bp bl c vb aH N Ts W wc F B) (hlo:h.lo≤h.nx) (id:Int) (κ:KQ)
  (j7:∀h',(∀b∈Ts,∀e∈b.M,bE e.Q id=none)→Le h h'→κ (.tuple ⟨[ew 0 0,jR ⟨0,0,0,0,0⟩,.bool false]⟩) h')
  (fQ:∀h' b e p,b∈Ts→e∈b.M→bE e.Q id=some p→Le h h'→κ (.tuple ⟨[ew e.t e.r,jR p,.bool true]⟩) h') :
  CallW Tryz.prog 152 [.pointer (some ⟨tb,0,none⟩),.int .i64 id] h κ:=by
 refine aj mixed ?_
 rw[SA]
 simp(disch:=first|omega|simp only[Wd]<;>omega|with_unfolding_all rfl)only[Wz]
 obtain ⟨hA,aK⟩:∃hA:Heap,hA=⟨h.nx+1+1,((h.bl.aS (h.nx) (aa [.int .i64 0,.int .i64 0] 36 false)).aS (h.nx+1) (gG ⟨0,0,0,0,0⟩)),h.lo⟩:=⟨_,rfl⟩
 have aO:Le h hA:=by subst aK; exact (((Le.refl h).new _).new _)
 have g1:hA.bl.get (h.nx)=some (aa [.int .i64 0,.int .i64 0] 36 false):=by subst aK; exact (T.ah _ _ (by omega)).trans (T.af _ _ _)
 have g3:hA.bl.get (h.nx+1)=some (gG ⟨0,0,0,0,0⟩):=by subst aK; exact T.af _ _ _
 have gH:hA.nx=h.nx+1+1:=by subst aK; rfl
 have gI:hA.lo=h.lo:=by subst aK; rfl
 rw[←aK]
 clear aK
 refine Gs (s.le aO) (by omega) id _ ?_ ?_
 ·intro hno
  refine LV id hA _ (by omega) ?_
  intro h2 bF
  have CX:=bF.nx
  have CY:=bF.lo
  have g1:=(bF.get _ (by omega)).trans g1
  have g3:=(bF.get _ (by omega)).trans g3
  simp(disch:=first|omega|simp only[Wd]<;>omega|with_unfolding_all rfl)only[Wz,ew,aZ,g1,g3]
  exact j7 _ hno (((aO.trans bF).set (by omega) _).set (by omega) _)
 ·intro k b e p hk he hf
  have hb:=List.mem_of_getElem? hk
  refine OF ((s.le aO).is.bk b hb) (by omega) id _ ?_ ?_
  ·intro h2 hno _
   rw[hno e he] at hf; cases hf
  ·intro h2 e2 p2 ZW hf2 bF
   have CX:=bF.nx
   have CY:=bF.lo
   have g1:=(bF.get _ (by omega)).trans g1
   have g3:=(bF.get _ (by omega)).trans g3
   simp(disch:=first|omega|simp only[Wd]<;>omega|with_unfolding_all rfl)only[Wz,ew,aZ,g1,g3]
   exact fQ _ b e2 p2 hb ZW hf2 (((aO.trans bF).set (by omega) _).set (by omega) _)
def C7 (Ts:List TB):Nat:=(Ts.map fun b=>b.M.length).sum
theorem Ia {Ts:List TB} {i:Nat} {b:TB} (h:Ts[i]? = some b):C7 (Ts.take (i+1))=C7 (Ts.take i)+b.M.length:=by
 unfold C7
 rw[List.take_add_one,h]
 simp
theorem O1 (Ts:List TB) (hl:∀b∈Ts,b.M.length≤64):C7 Ts≤64*Ts.length:=by
 unfold C7
 induction Ts with
 | nil=>simp
 | cons b Ts ih=>
  have h1:=ih fun x hx=>hl x (.tail _ hx)
  have h2:=hl b (.head _)
  simp only[List.map_cons,List.sum_cons,List.length_cons]
  omega
theorem Ib (s:gK h tb bw bp bl c vb aH N Ts W wc F B) (κ:KQ) (hk:κ (.tuple ⟨[.int .i64 (C7 Ts:Nat),.int .i64 ((B.length:Int)-F.length)]⟩) h) :
  CallW Tryz.prog 63 [.pointer (some ⟨tb,0,none⟩)] h κ:=by
 refine aj mixed ?_
 rw[WM]
 have gt:=s.is.kK
 have hs1:=s.is.s1
 have acY:=s.is.hd
 have V1:=jT s.is.ck.ok
 have GV:=s.is.ck.small
 obtain ⟨vx,vc,ev,_⟩:=(show Sl kJ h vb Ts from s.is.sl)
 have LO:∀(β:Type) (fl:β) (h':Heap) (κ:Value→Heap→β),bz fl vb h' κ=κ (.int .i64 (Ts.length:Int)) h':=fun β fl h' κ=>by rw[ev]; exact eY _ _ _ _ _
 have hbd:∀i,C7 (Ts.take i)≤1024:=by
  intro i
  have:=O1 (Ts.take i) fun b hb=>by have:=s.len b (List.mem_of_mem_take hb); omega
  have h2:(Ts.take i).length≤Ts.length:=by rw[List.length_take]; omega
  omega
 simp(disch:=first|omega|simp only[Wd]<;>omega|with_unfolding_all rfl)only[Wz,lM,ax,gt,LO]
 refine ⟨fun n l h1=>∃i:Nat,slot l 10=.int .i64 (i:Int)∧slot l 8=.int .i64 (C7 (Ts.take i):Nat)∧n=Ts.length-i∧i≤Ts.length∧HQ h h1,⟨_,0,rfl,rfl,rfl,by omega,rfl⟩,?_⟩
 rintro n l h1 ⟨i,s1,s2,rfl,hi,hq⟩
 cases (show h=h1 from hq)
 by_cases hlt:i<Ts.length
 ·obtain ⟨b,hb⟩:∃b,Ts[i]? = some b:=⟨_,List.getElem?_eq_getElem hlt⟩
  obtain ⟨cc,oo,_,Gf,nG⟩:=LH s.is.sl i hb
  have nG:=nG h (Le.refl _)
  have KS:=s.len b (List.mem_of_getElem? hb)
  have hst:=Ia hb
  have mM:=hbd i
  simp(disch:=first|omega|simp only[Wd]<;>omega|with_unfolding_all rfl)only[Wz,zI,s1,s2,fH (show (i:Int)<(Ts.length:Int) by omega),Gf,nG]
  refine Oy (s.is.bk b (List.mem_of_getElem? hb)) _ ?_
  simp(disch:=first|omega|simp only[Wd]<;>omega|with_unfolding_all rfl)only[Wz,s1]
  refine ⟨_,by omega,i+1,rfl,?_,rfl,by omega,rfl⟩
  rw[hst]; rfl
 ·have hil:i=Ts.length:=by omega
  subst hil
  rw[List.take_length] at s2
  simp(disch:=first|omega|simp only[Wd]<;>omega|with_unfolding_all rfl)only[Wz,zI,s1,s2,cg (show (Ts.length:Int)≤(Ts.length:Int) by omega),ax,gt]
  refine TX bp bl F B h _ s.is.ck (by omega) ?_
  exact hk
end
structure RB where
 rb:Nat
 v:Value
 K:List HE
def Yy (b:RB):List Value:=[.pointer (some ⟨b.rb,0,none⟩)]
def Yz (x y:RB):Prop:=x.rb≠y.rb∧∀c,QG x.v c→¬QG y.v c
structure rF (a h:Heap) (rt rp rl:Nat) (c:dg) (vr:Value) (aH:Nat) (R:List RB) (B:List Bool):Prop where
 lt:rt<h.nx
 cell:h.bl.get rt=some (aa [.int .i64 c.S,.int .i64 c.H,.int .i64 c.R,.int .i64 c.P,vr,.pointer (some ⟨rp,0,none⟩)] 90 false)
 sl:Sl Yy h vr R
 ty:uj 91 h vr
 bk:∀b∈R,Zz a h b.rb rp aH b.v b.K
 xO:R.Pairwise Yz
 ck:Gl h rp rl B
 cS:c.S=R.length
 s1:1≤R.length∧R.length≤16
end Go.Proofs
namespace Go.Vai
open Go.Proofs Go.Clashes
end Go.Vai
namespace Go.Proofs
open Go.Vai Go.Clashes
section
variable {a h h':Heap} {rt rp rl:Nat} {c:dg} {vr:Value} {aH:Nat} {R:List RB} {B B':List Bool}
theorem rF.keep (t:rF a h rt rp rl c vr aH R B) (hn:h.nx≤h'.nx) (hl:h'.lo=h.lo)
  (hg:∀d vs ty op,d<h.nx→h.bl.get d=some (aa vs ty op)→(ty=90∨ty=91∨ty=134∨ty=81∨ty=83∨ty=132∨d=rl)→h'.bl.get d=h.bl.get d):rF a h' rt rp rl c vr aH R B:=by
 have k1:=Sl.z_ t.sl t.ty hn fun d vs op hd g=>hg d vs _ op hd g (.inr (.inl rfl))
 refine ⟨Nat.lt_of_lt_of_le t.lt hn,(hg _ _ _ _ t.lt t.cell (.inl rfl)).trans t.cell,k1.1,k1.2,fun b hb=>(t.bk b hb).keep hn hl fun d vs ty op hd g ht=>hg d vs ty op hd g ?_,t.xO,t.ck.keep hn hl (hg _ _ _ _ t.ck.Lw t.ck.QH (.inr (.inr (.inr (.inr (.inr (.inl rfl))))))) (hg _ _ _ _ t.ck.IC t.ck.Gm (.inr (.inr (.inr (.inr (.inr (.inr rfl))))))),t.cS,t.s1⟩
 rcases ht with e | ⟨e,_⟩ | e
 ·exact .inr (.inr (.inl e))
 ·exact .inr (.inr (.inr (.inl e)))
 ·exact .inr (.inr (.inr (.inr (.inl e))))
theorem rF.le (t:rF a h rt rp rl c vr aH R B) (l:Le h h'):rF a h' rt rp rl c vr aH R B:=t.keep l.nx l.lo fun d _ _ _ hd _ _=>l.get d hd
theorem rF.real (t:rF a h rt rp rl c vr aH R B) {tb bw bp bl hd wc:Nat} {c2:dg} {vb:Value} {Ts:List TB} {W:List IE} {F:List Int} {B2:List Bool} (s:dA h tb bw bp bl c2 vb hd Ts W wc F B2) (f:rE Ts bw bp bl h h') (hne:rl≠bl):rF a h' rt rp rl c vr aH R B:=by
 refine t.keep f.nx f.lo fun d vs ty op hd g ht=>?_
 by_cases hdl:d=rl
 ·subst hdl
  obtain ⟨fs,tQ,hpt⟩:=s.ck.fr.cell
  have gl:=t.ck.Gm
  refine f.get d hd (fun b hb=>?_) (by rintro rfl; exact bu (s.lK.symm.trans gl)) (by rintro rfl; exact aX (by decide) (gl.symm.trans tQ)) hne fun ws=>by rw[gl]; exact aX (by decide)
  rintro rfl
  exact bu ((s.bk b hb).eM.symm.trans gl)
 ·have ht:ty≠225∧ty≠4∧ty≠3:=by
   rcases ht with e | e | e | e | e | e | e
   iterate 6 (subst e; exact ⟨by decide,by decide,by decide⟩)
   exact absurd e hdl
  exact f.keep s hd g ht.1 ht.2.1 ht.2.2
end
section
variable {a h:Heap} {tb bw bp bl:Nat} {c:dg} {vb:Value} {aH N:Nat} {Ts:List TB} {W:List IE} {wc:Nat} {F:List Int} {B:List Bool} {rt rp rl:Nat} {vr:Value} {R:List RB}
end
section
variable {h h':Heap} {tb bw bp bl:Nat} {c:dg} {vb:Value} {aH N:Nat} {Ts:List TB} {W:List IE} {wc:Nat} {F F':List Int} {B:List Bool}
theorem Gu (s:gK h tb bw bp bl c vb aH N Ts W wc F B) (hlo:h.lo≤h.nx) (hN:N≤1000) (t r x m:Int) (κ:KQ)
  (td:∀h',bT t r c.S<0→Le h h'→κ (.tuple ⟨[.int .i64 0,.bool false,.int .i64 2]⟩) h')
  (hk2:∀(k:Nat) (b:TB) h',Ts[k]? = some b→bT t r c.S=(k:Int)→bH m=false→Le h h'→κ (.tuple ⟨[.int .i64 0,.bool false,.int .i64 2]⟩) h')
  (Ry:∀(k:Nat) (b:TB) h' e p,Ts[k]? = some b→bT t r c.S=(k:Int)→bH m=true→e∈b.M→t=e.t→r=e.r→p∈e.Q→p.x=x→Le h h'→κ (.tuple ⟨[.int .i64 0,.bool false,.int .i64 4]⟩) h')
  (X2:∀(k:Nat) (b:TB) h',Ts[k]? = some b→bT t r c.S=(k:Int)→bH m=true→(∀e∈b.M,t=e.t→r=e.r→∀p∈e.Q,p.x≠x)→(F=[]∨((∀e∈b.M,¬(t=e.t∧r=e.r))∧aH≤b.M.length))→Le h h'→κ (.tuple ⟨[.int .i64 0,.bool false,.int .i64 8]⟩) h')
  (QD:∀(k:Nat) (b:TB) M' clock' F' W' tV h0 h1 h' n g,Ts[k]? = some b→bT t r c.S=(k:Int)→bH m=true→(∀e∈b.M,t=e.t→r=e.r→∀p∈e.Q,p.x≠x)→aU h0 b.bb b.bm bp bl aH b.M b.clock F B→kI h0 h1 b.bb b.bm bp bl aH b.M M' clock' F F' B t r x m n g→
   gK h' tb bw bp bl c vb aH (N+1) (Ts.set k ⟨b.bb,b.bm,M',clock'⟩) W' tV F' (B.set n true)→rE Ts bw bp bl h h'→κ (.tuple ⟨[.int .i64 (n:Int),.bool g,.int .i64 0]⟩) h') :
  CallW Tryz.prog 213 [.pointer (some ⟨tb,0,none⟩),ew t r,.int .i64 x,.int .i64 m] h κ:=by
 refine aj mixed ?_
 rw[SP]
 simp(disch:=first|omega|simp only[Wd]<;>omega|with_unfolding_all rfl)only[Wz,ew,lM]
 obtain ⟨hA,aK⟩:∃hA:Heap,hA=⟨h.nx+1,(h.bl.aS (h.nx) (aa [.int .i64 t,.int .i64 r] 36 false)),h.lo⟩:=⟨_,rfl⟩
 have aO:Le h hA:=by subst aK; exact ((Le.refl h).new _)
 have g1:hA.bl.get (h.nx)=some (aa [.int .i64 t,.int .i64 r] 36 false):=by subst aK; exact T.af _ _ _
 have gH:hA.nx=h.nx+1:=by subst aK; rfl
 have gI:hA.lo=h.lo:=by subst aK; rfl
 rw[←aK]
 clear aK
 refine sJ (s.le aO).is (by omega) t r _ ?_
 intro h2 bF
 have CX:=bF.nx
 have CY:=bF.lo
 have g1:=(bF.get _ (by omega)).trans g1
 have jb:=aO.trans bF
 have s2:=s.le jb
 by_cases hneg:bT t r c.S<0
 ·simp(disch:=first|omega|simp only[Wd]<;>omega|with_unfolding_all rfl)only[Wz,bf hneg]
  exact td h2 hneg jb
 obtain ⟨k,b,hst,hk⟩:=Yq s.is hneg
 have hb:=List.mem_of_getElem? hk
 have gt:=s2.is.kK
 obtain ⟨cc,oo,_,Gf,nG⟩:=LH s2.is.sl k hk
 have nG:=nG h2 (Le.refl _)
 rw[hst]
 simp(disch:=first|omega|simp only[Wd]<;>omega|with_unfolding_all rfl)only[Wz,cg (show (0:Int)≤(k:Int) by omega),BV,ax,gt,Gf,nG,g1]
 refine OC (s2.is.bk b hb) (by omega) (s2.Gr hk) N (by omega) (s2.wb b hb) t r x m _ ?_ ?_ ?_ ?_
 ·intro h3 ZG eZ
  simp(disch:=first|omega|simp only[Wd]<;>omega|with_unfolding_all rfl)only[Wz,mj,lF]
  refine ⟨fun l h'=>HQ h3 h',?_,?_⟩
  ·simp(disch:=first|omega|simp only[Wd]<;>omega|with_unfolding_all rfl)only[Wz,nN]
   rfl
  ·rintro l h' hq
   cases (show h3=h' from hq)
   exact hk2 k b h3 hk hst ZG (jb.trans eZ)
 ·intro h3 e p Vq he ht hr hp hx eZ
  simp(disch:=first|omega|simp only[Wd]<;>omega|with_unfolding_all rfl)only[Wz,mj,lF]
  refine ⟨fun l h'=>HQ h3 h',?_,?_⟩
  ·simp(disch:=first|omega|simp only[Wd]<;>omega|with_unfolding_all rfl)only[Wz,nN]
   rfl
  ·rintro l h' hq
   cases (show h3=h' from hq)
   exact Ry k b h3 e p hk hst Vq he ht hr hp hx (jb.trans eZ)
 ·intro h3 Vq ac3 hfull eZ
  simp(disch:=first|omega|simp only[Wd]<;>omega|with_unfolding_all rfl)only[Wz,mj,lF]
  refine ⟨fun l h'=>HQ h3 h',?_,?_⟩
  ·simp(disch:=first|omega|simp only[Wd]<;>omega|with_unfolding_all rfl)only[Wz,nN]
   rfl
  ·rintro l h' hq
   cases (show h3=h' from hq)
   exact X2 k b h3 hk hst Vq ac3 hfull (jb.trans eZ)
 ·intro M' clock' F' h3 n g am hno ak
  have ZH:=s2.is.change hk ak.is ak.fr
  have n3:=ak.fr.nx
  have l3:=ak.fr.lo
  have ZC:=ZH.kK
  have ac4:=ZH.low
  simp(disch:=first|omega|simp only[Wd]<;>omega|with_unfolding_all rfl)only[Wz,mj,lF]
  refine ⟨fun l h'=>∃W' tV,(∀j,HY W' j=if j=(n:Int) then some (k:Int) else HY W j)∧h'=⟨h3.nx,h3.bl.aS bw (.map (W'.map tT) tV),h3.lo⟩,?_,?_⟩
  ·simp(disch:=first|omega|simp only[Wd]<;>omega|with_unfolding_all rfl)only[Wz,nN,ax,ZC]
   refine LB ZH.lK ac4 _ _ _ ?_
   intro W' tV hW
   exact ⟨W',tV,hW,rfl⟩
  ·rintro l h' ⟨W',tV,hW,rfl⟩
   have fr:rE Ts bw bp bl h ⟨h3.nx,h3.bl.aS bw (.map (W'.map tT) tV),h3.lo⟩:=((rE.of_le jb).trans (rE.OU hb ak.fr)).trans rE.Ul
   have xN:=kI.ids (s2.is.bk b hb) ak
   have YA:∀i,i∈iU B→i≠(n:Int):=by
    rintro i hi rfl
    obtain ⟨k',e,hk'⟩:=gW.1 hi
    have:k'=n:=(Int.ofNat.inj e).symm
    subst this
    rw[ak.old] at hk'; cases hk'
   have hin:∀i b',b'∈Ts→i∈ez b'.M→i≠(n:Int):=fun i b' hb' hi=>YA i (s.ids.mem_iff.1 (List.mem_flatMap.2 ⟨b',hb',hi⟩))
   refine QD k b M' clock' F' W' tV h2 h3 _ n g hk hst am hno (s2.is.bk b hb) ak ⟨ZH.Ul W' tV,?_,?_,?_,?_,?_,by rw[List.length_set]; exact s.cR,s.cH⟩ fr
   ·obtain ⟨X,hX⟩:=qi (fun b:TB=>ez b.M) hk
    have h0:=hX b
    rw[wM hk] at h0
    refine (hX _).trans ?_
    refine (xN.append_right X).trans ?_
    rw[List.append_assoc]
    refine ((List.Perm.append_left _ List.perm_append_comm).trans ?_).trans (yB ak.old).symm
    rw[←List.append_assoc]
    exact (h0.symm.trans s.ids).append_right _
   ·intro j y hj e he p hp
    rw[hW]
    rcases dH hj with ⟨rfl,rfl⟩ | ⟨hne,hj⟩
    ·have hpi:=xN.mem_iff.1 (jU.2 ⟨e,he,p,hp,rfl⟩)
     rcases List.mem_append.1 hpi with h1 | h1
     ·obtain ⟨e0,tU,p0,XW,hpe⟩:=jU.1 h1
      rw[if_neg (hin _ b hb h1),←hpe]
      exact s.wh j b hk e0 tU p0 XW
     ·rw[List.mem_singleton] at h1
      rw[if_pos h1]
    ·rw[if_neg (hin _ y (List.mem_of_getElem? hj) (jU.2 ⟨e,he,p,hp,rfl⟩))]
     exact s.wh j y hj e he p hp
   ·intro j y hj e he
    rcases dH hj with ⟨rfl,rfl⟩ | ⟨_,hj⟩
    ·rcases ak.sub e he with ⟨e0,tU,h1,h2⟩ | ⟨h1,h2⟩
     ·rw[←h1,←h2]; exact s.nm j b hk e0 tU
     ·rw[h1,h2]; exact hst
    ·exact s.nm j y hj e he
   ·intro y hy e he
    obtain ⟨j,hj⟩:=List.getElem?_of_mem hy
    rcases dH hj with ⟨rfl,rfl⟩ | ⟨_,hj⟩
    ·exact ak.wb (s.wb b hb) e he
    ·have:=s.wb y (List.mem_of_getElem? hj) e he; omega
   ·intro y hy
    obtain ⟨j,hj⟩:=List.getElem?_of_mem hy
    rcases dH hj with ⟨rfl,rfl⟩ | ⟨_,hj⟩
    ·exact kI.len (s2.is.bk b hb) (s.len b hb) ak
    ·exact s.len y (List.mem_of_getElem? hj)
theorem C8 (s:gK h tb bw bp bl c vb aH N Ts W wc F B) (hlo:h.lo≤h.nx) (id:Int) (κ:KQ)
  (K0:(∀b∈Ts,∀e∈b.M,bE e.Q id=none)→κ (.tuple ⟨[.slice none 0 0,.int .i64 5]⟩) h)
  (T3:∀(k:Nat) (b:TB) h' e p,Ts[k]? = some b→e∈b.M→bE e.Q id=some p→¬0<p.s→Le h h'→κ (.tuple ⟨[.slice none 0 0,.int .i64 7]⟩) h')
  (j7:∀(k:Nat) (b:TB) h' M' clock' F' v' e p (n:Nat),Ts[k]? = some b→e∈b.M→bE e.Q id=some p→0<p.s→p.m=0→id=(n:Int)→B[n]? = some true→
   ij h h' b.bb b.bm bp bl aH b.M M' clock' F' (B.set n false) e (e.Q.filter fun r=>!bg id r) e.w→qa h h' v' (cE (eV (e.Q.filter fun r=>!bg id r)+1) (e.Q.filter fun r=>!bg id r)).2→gK h' tb bw bp bl c vb aH (N+1) (Ts.set k ⟨b.bb,b.bm,M',clock'⟩) W wc F' (B.set n false)→κ (.tuple ⟨[v',.int .i64 0]⟩) h')
  (fQ:∀(k:Nat) (b:TB) h' M' clock' v' e p i,Ts[k]? = some b→e∈b.M→e.Q[i]? = some p→bE e.Q id=some p→0<p.s→p.m≠0→ij h h' b.bb b.bm bp bl aH b.M M' clock' F B e (e.Q.set i (mI p)) e.w→
   qa h h' v' (cE (eV (e.Q.set i (mI p))+1) (e.Q.set i (mI p))).2→gK h' tb bw bp bl c vb aH (N+1) (Ts.set k ⟨b.bb,b.bm,M',clock'⟩) W wc F B→κ (.tuple ⟨[v',.int .i64 0]⟩) h') :
  CallW Tryz.prog 153 [.pointer (some ⟨tb,0,none⟩),.int .i64 id] h κ:=by
 refine aj mixed ?_
 rw[SB]
 refine Gs s hlo id _ ?_ ?_
 ·intro hno
  simp(disch:=first|omega|simp only[Wd]<;>omega|with_unfolding_all rfl)only[Wz,rD]
  refine Aa tb h _ ?_
  exact K0 hno
 ·intro k b e p hkb he hf
  have hb:=List.mem_of_getElem? hkb
  simp(disch:=first|omega|simp only[Wd]<;>omega|with_unfolding_all rfl)only[Wz,fL]
  refine CL (s.is.bk b hb) hlo (s.Gr hkb) id _ ?_ ?_ ?_ ?_
  ·intro h1 hno _
   rw[hno e he] at hf; cases hf
  ·intro h1 e1 p1 tc H7 hs1 bK
   simp(disch:=first|omega|simp only[Wd]<;>omega|with_unfolding_all rfl)only[Wz]
   exact T3 k b h1 e1 p1 hkb tc H7 hs1 bK
  ·intro h1 M' clock' F' v' e1 p1 n tc H7 hs1 mH hid uT ZA mv ho
   simp(disch:=first|omega|simp only[Wd]<;>omega|with_unfolding_all rfl)only[Wz]
   have Yr:=mv
   have hf':=H7
   rw[hid] at hf' Yr
   exact j7 k b h1 M' clock' F' v' e1 p1 n hkb tc H7 hs1 mH hid uT mv ho (s.left hkb tc hf' uT Yr)
  ·intro h1 M' clock' v' e1 p1 i tc hi H7 hs1 mH mv ho
   simp(disch:=first|omega|simp only[Wd]<;>omega|with_unfolding_all rfl)only[Wz]
   exact fQ k b h1 M' clock' v' e1 p1 i hkb tc hi H7 hs1 mH mv ho (s.QL hkb tc mv (rB hi rfl) (by omega))
theorem C9 (s:gK h tb bw bp bl c vb aH N Ts W wc F B) (hlo:h.lo≤h.nx) (hN:N≤1000) (id m:Int) (κ:KQ)
  (hk2:∀h',bH m=false→Le h h'→κ (.tuple ⟨[.bool false,.int .i64 2]⟩) h')
  (K0:bH m=true→(∀b∈Ts,∀e∈b.M,bE e.Q id=none)→κ (.tuple ⟨[.bool false,.int .i64 5]⟩) h)
  (T3:∀(k:Nat) (b:TB) h' e p,bH m=true→Ts[k]? = some b→e∈b.M→bE e.Q id=some p→0<p.s→Le h h'→κ (.tuple ⟨[.bool false,.int .i64 7]⟩) h')
  (j7:∀(k:Nat) (b:TB) h' M' clock' e p i,bH m=true→Ts[k]? = some b→e∈b.M→e.Q[i]? = some p→bE e.Q id=some p→¬0<p.s→ij h h' b.bb b.bm bp bl aH b.M M' clock' F B e (e.Q.set i (h_ e.Q e.w p m).1) (h_ e.Q e.w p m).2.1→
   gK h' tb bw bp bl c vb aH (N+1) (Ts.set k ⟨b.bb,b.bm,M',clock'⟩) W wc F B→κ (.tuple ⟨[.bool (h_ e.Q e.w p m).2.2,.int .i64 0]⟩) h') :
  CallW Tryz.prog 214 [.pointer (some ⟨tb,0,none⟩),.int .i64 id,.int .i64 m] h κ:=by
 have ZG:m=0→bH m=false:=by intro h0; unfold bH; simp[h0]
 have Vq:m≠0→bH m=kn m:=by intro h0; unfold bH; simp[h0]
 refine aj mixed ?_
 rw[SQ]
 refine Gs s hlo id _ ?_ ?_
 ·intro hno
  simp(disch:=first|omega|simp only[Wd]<;>omega|with_unfolding_all rfl)only[Wz,C2]
  by_cases hm0:m=0
  ·simp(disch:=first|omega|simp only[Wd]<;>omega|with_unfolding_all rfl)only[Wz,bf hm0]
   exact hk2 h (ZG hm0) (Le.refl _)
  ·simp(disch:=first|omega|simp only[Wd]<;>omega|with_unfolding_all rfl)only[Wz,a_ hm0]
   have am:=Vq hm0
   refine q9 m ?_
   cases hkn:kn m with
   | false=>simp(disch:=first|omega|simp only[Wd]<;>omega|with_unfolding_all rfl)only[Wz]; exact hk2 h (am.trans hkn) (Le.refl _)
   | true=>
    simp(disch:=first|omega|simp only[Wd]<;>omega|with_unfolding_all rfl)only[Wz,vO,rD]
    refine Aa tb h _ ?_
    exact K0 (am.trans hkn) hno
 ·intro k b e p hkb he hf
  have hb:=List.mem_of_getElem? hkb
  simp(disch:=first|omega|simp only[Wd]<;>omega|with_unfolding_all rfl)only[Wz,C2]
  by_cases hm0:m=0
  ·simp(disch:=first|omega|simp only[Wd]<;>omega|with_unfolding_all rfl)only[Wz,bf hm0]
   exact hk2 h (ZG hm0) (Le.refl _)
  ·simp(disch:=first|omega|simp only[Wd]<;>omega|with_unfolding_all rfl)only[Wz,a_ hm0]
   have am:=Vq hm0
   refine q9 m ?_
   cases hkn:kn m with
   | false=>simp(disch:=first|omega|simp only[Wd]<;>omega|with_unfolding_all rfl)only[Wz]; exact hk2 h (am.trans hkn) (Le.refl _)
   | true=>
    simp(disch:=first|omega|simp only[Wd]<;>omega|with_unfolding_all rfl)only[Wz,vO,fL]
    refine CI (s.is.bk b hb) hlo N (by omega) (s.wb b hb) id m _ ?_ ?_ ?_ ?_
    ·intro h1 YB bK
     simp(disch:=first|omega|simp only[Wd]<;>omega|with_unfolding_all rfl)only[Wz]
     exact hk2 h1 YB bK
    ·intro h1 _ hn _
     rw[hn e he] at hf; cases hf
    ·intro h1 e1 p1 YB tc H7 hs1 bK
     simp(disch:=first|omega|simp only[Wd]<;>omega|with_unfolding_all rfl)only[Wz]
     exact T3 k b h1 e1 p1 YB hkb tc H7 hs1 bK
    ·intro h1 M' clock' e1 p1 i YB tc hi H7 hs1 mv
     simp(disch:=first|omega|simp only[Wd]<;>omega|with_unfolding_all rfl)only[Wz]
     exact j7 k b h1 M' clock' e1 p1 i YB hkb tc hi H7 hs1 mv (s.QL hkb tc mv (rB hi (OO _ _ _ _)) (Ug _ _ _ _))
end
end Go.Proofs
