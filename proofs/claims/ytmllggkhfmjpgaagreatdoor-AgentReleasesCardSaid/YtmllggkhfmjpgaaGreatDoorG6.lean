/-
  PROVED HERE: a part of the proof (SO, K32, K33, K34, K35, K36, K37, K38, K39, K40, L5, L6, L8, K44, L9, L10, L11, L12, L13, L14, L15, L16, L17, L18, VaiB, U1, U2, U3, U4, U5, U6, U7, U8, U9, U10, U11, U12, U13, N1, N2, N3, S1, S2, S3).
-/
import Derived.Test.YtmllggkhfmjpgaaGreatDoorG3
import Derived.Shelf.SlSortCmp.WholeK
import Derived.Shelf.SlSortCmp.NoneTotal
import Derived.Test.YtmllggkhfmjpgaaGreatDoorG5
import Derived.Test.YtmllggkhfmjpgaaGreatDoorSRT
import Derived.Test.YtmllggkhfmjpgaaGreatDoorG2
import Derived.Deep.DeepFit
set_option linter.unusedVariables false
set_option linter.unusedSimpArgs false
set_option maxRecDepth 100000
set_option maxHeartbeats 4000000
namespace Go.Vai
open Go Go.Sort
section
variable {α β κt:Type} [Inhabited α] {P:Program} {φ:dG}
theorem F2.R7 {γ δ:Type} {R:γ→δ→Prop} {m m':List δ} (p:m'.Perm m):∀{l:List γ},F2 R l m→∃l',l'.Perm l∧F2 R l' m':=by
 induction p with
 | nil=>intro l h; cases h; exact ⟨[],.nil,.nil⟩
 | cons x p ih=>
  intro l h
  cases h with
  | cons h t=>obtain ⟨l',p',h'⟩:=ih t; exact ⟨_,p'.cons _,.cons h h'⟩
 | swap x y l0=>
  intro l h
  cases h with
  | cons h1 t=>cases t with | cons h2 t=>exact ⟨_,List.Perm.swap ..,.cons h2 (.cons h1 t)⟩
 | trans p q ihp ihq=>
  intro l h
  obtain ⟨l1,p1,h1⟩:=ihq h
  obtain ⟨l2,p2,h2⟩:=ihp h1
  exact ⟨l2,p2.trans p1,h2⟩
theorem F2.flat {γ δ:Type} {R:Value→Value→Prop} {f:γ→List Value} {g:δ→List Value} {l:List γ} {m:List δ} (h:F2 (fun x y=>F2 R (f x) (g y)) l m):F2 R (l.flatMap f) (m.flatMap g):=by
 induction h with
 | nil=>exact .nil
 | cons hr _ ih=>simp only[List.flatMap_cons]; exact hr.append ih
omit [Inhabited α] in
theorem Yr {k:Nat} {enc:α→List Value} {cE:β→List Value} (hA:∀x,(cE x).length=k) {kA:β→κt} {kC:α→κt} (Gl:∀(x:β) (cs:List Value),F2 (VR φ) (cE x) cs→∃y:α,cs=enc y∧kA x=kC y) :
  ∀(L:List β) (C:List Value),F2 (VR φ) (L.flatMap cE) C→∃ys:List α,C=ys.flatMap enc∧F2 (fun x y=>F2 (VR φ) (cE x) (enc y)∧kA x=kC y) L ys:=by
 intro L
 induction L with
 | nil=>intro C h; cases h; exact ⟨[],rfl,.nil⟩
 | cons x L ih=>
  intro C h
  rw[List.flatMap_cons] at h
  have h1:=h.take k
  have h2:=h.drop k
  have e1:(cE x++L.flatMap cE).take k=cE x:=by rw[←hA x,List.take_left]
  have e2:(cE x++L.flatMap cE).drop k=L.flatMap cE:=by rw[←hA x,List.drop_left]
  rw[e1] at h1
  rw[e2] at h2
  obtain ⟨y,hy,hk⟩:=Gl x _ h1
  obtain ⟨ys,hys,hr⟩:=ih _ h2
  refine ⟨y::ys,?_,.cons ⟨hy▸h1,hk⟩ hr⟩
  rw[List.flatMap_cons,←hy,←hys,List.take_append_drop]
theorem yl {k:Nat} (k0:0<k) {enc:α→List Value} (hk:∀x,(enc x).length=k) (ys:List α):(Sort.flatK enc k ys.toArray).toList=ys.flatMap enc:=by
 refine List.ext_getElem? fun t=>?_
 have hl:=bf hk ys
 by_cases ht:t<ys.length*k
 ·have hd:t / k<ys.length:=(Nat.div_lt_iff_lt_mul k0).2 ht
  have hm:t % k<k:=Nat.mod_lt _ k0
  have e:=iU hk (K:=ys) (i:=t / k) (j:=t % k) (List.getElem?_eq_getElem hd) hm
  rw[Nat.div_add_mod' t k] at e
  rw[e,Array.getElem?_toList]
  have hs:t<(Sort.flatK enc k ys.toArray).size:=by simpa using ht
  rw[Array.getElem?_eq_getElem hs]
  have:=Sort.get_flatK enc k ys.toArray t (by simpa using ht)
  rw[getElem!_pos _ t hs] at this
  rw[this]
  have hd':t / k<ys.toArray.size:=by simpa using hd
  have a1:ys.toArray[t / k]! = ys[t / k]:=by rw[getElem!_pos ys.toArray (t / k) hd']; simp
  have hm':t % k<(enc ys[t / k]).length:=by rw[hk]; exact hm
  rw[a1,getElem!_pos (enc ys[t / k]) (t % k) hm',List.getElem?_eq_getElem hm']
 ·have nL:(Sort.flatK enc k ys.toArray).toList.length=ys.length*k:=by simp
  rw[List.getElem?_eq_none (by rw[nL]; omega),List.getElem?_eq_none (by rw[hl]; omega)]
theorem HR.grown {h:Heap} {w:World} (hr:HR P φ h w) (os:Array Obj):HR P φ h (grow w os):=by
 refine ⟨fun b o pl h1 h2=>?_,fun b pl h=>?_,hr.keys,hr.LI,hr.inj,hr.lo⟩
 ·have:=hr.dom b pl h2
  show OR P φ o pl (w.heap++os)[pl.B]?
  rw[Array.getElem?_append_left this.2]
  exact hr.obj b o pl h1 h2
 ·have:=hr.dom b pl h
  refine ⟨this.1,?_⟩
  show pl.B<(w.heap++os).size
  rw[Array.size_append]; omega
theorem Ext.grown {φ':dG} {h h':Heap} {w w':World} (hx:Ext φ φ' h h' w w') (os:Array Obj):Ext φ φ' h h' w (grow w' os):=by
 have hs:=hx.size
 have key:∀B,B<w.heap.size→(grow w' os).heap[B]? = w'.heap[B]?:=fun B hB=>by
  show (w'.heap++os)[B]? = _
  rw[Array.getElem?_append_left (by omega)]
 refine ⟨hx.sub,hx.new,hx.nx,?_,fun B hB hn=>(key B hB).trans (hx.ze B hB hn),hx.B1,hx.tape,hx.os,hx.output,fun _ _=>trivial,hx.lo,hx.FH,fun b o pl h1 h2 h3 h4 h5=>(key _ h5).trans (hx.FI b o pl h1 h2 h3 h4 h5),hx.dr⟩
 show _≤(w'.heap++os).size
 rw[Array.size_append]; omega
theorem VR.Kx {b n:Nat} {v':Value} (h:VR φ (.slice (some ⟨b,0,none⟩) n aM) v'):∃pl c,φ b=some pl∧v'=.slice (some ⟨pl.B,0,none⟩) n c:=by
 generalize FJ:aM=cc at h
 cases h with
 | slice hp hn hc=>subst FJ; exact absurd hc (Nat.lt_irrefl _)
 | bJ hp hn hc=>exact ⟨_,_,hp,rfl⟩
 | cz=>exact absurd FJ (by decide)
theorem VR.ahq {g:Nat} {v':Value} (h:VR φ (.func (.func g) #[] #[]) v'):v'=.func (.func g) #[] #[]:=by
 cases h with
 | func fn a a' b b' hal Z7 _ _=>
  have ea:a'=#[]:=by
   have:a'.toList.length=0:=hal.symm
   exact Array.eq_empty_of_size_eq_zero (by simpa using this)
  have eb:b'=#[]:=by
   have:b'.toList.length=0:=Z7.symm
   exact Array.eq_empty_of_size_eq_zero (by simpa using this)
  rw[ea,eb]
theorem BI {f g:FuncId} {k:Nat} (k0:0<k) {enc:α→List Value} {cE:β→List Value} (hk:∀x,(enc x).length=k) (hA:∀x,(cE x).length=k) {kA:β→κt} {kC:α→κt} {lt:κt→κt→Bool}
  (Gl:∀(φ:dG) (x:β) (cs:List Value),F2 (VR φ) (cE x) cs→∃y:α,cs=enc y∧kA x=kC y)
  (enters:∀args w,(callFunc f args).run P w=.ok (.enter f args) w)
  (law:∀(blk cap:Nat) (d:Array α) (w:World),HoldsK enc k w blk 0 d→blk<w.heap.size→d.size<4611686018427387904→
   Calls P f #[.slice (some ⟨blk,0,none⟩) d.size cap,.func (.func g) #[] #[]] w fun e w'=>e=.returned (.tuple #[])∧∃d' n os,PermIn 0 d.size d d'∧SortedIn (fun x y=>lt (kC x) (kC y)) 0 d.size d'∧w'=Go.Proofs.sortWorldK enc k w blk 0 n d' os)
  {h:Heap} {b:Nat} {L:List β} {ty:TypeId} {op:Bool} (hb:h.bl.get b=some (aa (L.flatMap cE) ty op)) (hlo:h.lo≤b) (rG:L.length≤1000000) {κ:Value→Heap→Prop}
  (hκ:∀D:List β,D.Perm L→D.Pairwise (fun x y=>lt (kA y) (kA x)=false)→κ (.tuple #[]) ⟨h.nx,h.bl.aT b (aa (D.flatMap cE) ty op),h.lo⟩) :
  CallW P f [.slice (some ⟨b,0,none⟩) L.length aM,.func (.func g) #[] #[]] h κ:=by
 intro φ w args' ha hr
 cases ha with | cons hs ha=>
 cases ha with | cons hf ha=>
 cases ha
 obtain ⟨pl,c,hp,rfl⟩:=hs.Kx
 obtain rfl:=hf.ahq
 have hb':=hb
 unfold aa at hb'
 obtain ⟨C,hC,uT,hn2,hop,hcell⟩:=hr.rowAt hb' hp
 have hlen:=bf hA L
 rw[hlen] at uT hn2 hcell
 have hF:F2 (VR φ) (L.flatMap cE) (C.toList.take (L.length*k)):=by
  have hCl:C.toList.length=C.size:=by simp
  refine F2.kj (by rw[hlen,List.length_take]; omega) fun j v v' e1 e2=>?_
  have hj:j<L.length*k:=by rw[←hlen]; exact (List.getElem?_eq_some_iff.mp e1).1
  obtain ⟨v2,h2,h3⟩:=hcell j v (by rw[mF]; exact e1) hj
  rw[List.getElem?_take_of_lt hj,Array.getElem?_toList,h2] at e2
  cases e2; exact h3
 obtain ⟨ys,hys,hR⟩:=Yr hA (Gl φ) L _ hF
 have hyl:ys.length=L.length:=hR.length.symm
 have hH:HoldsK enc k w pl.B 0 ys.toArray:=by
  intro j hj
  have hfl:=yl k0 hk ys
  rw[←hys] at hfl
  have hj':j<L.length*k:=by simpa[hyl] using hj
  have hjs:j<(Sort.flatK enc k ys.toArray).size:=hj
  have e1:(Sort.flatK enc k ys.toArray)[j]? = C[j]?:=by
   rw[←Array.getElem?_toList,hfl,List.getElem?_take_of_lt hj',Array.getElem?_toList]
  rw[getElem!_pos _ j hjs]
  rw[Array.getElem?_eq_getElem hjs,Array.getElem?_eq_getElem (by omega)] at e1
  have e2:=Option.some.inj e1
  constructor
  ·show w.cell? ⟨pl.B,0+j,none⟩=some (Sort.flatK enc k ys.toArray)[j]
   rw[e2,Nat.zero_add]
   simp[World.cell?,hC,show j<C.size by omega]
  ·simp[World.frozen?,hC]
 have hdom:=hr.dom b pl hp
 have hd:=law pl.B c ys.toArray w hH hdom.2 (by rw[show ys.toArray.size=L.length by simpa using hyl]; omega)
 rw[show ys.toArray.size=L.length by simpa using hyl] at hd
 refine ⟨enters _ _,hd.mono ?_⟩
 rintro e w' ⟨rfl,d',n,os,acX,hsort,rfl⟩
 obtain ⟨hsz,_,B3⟩:=acX
 have hdl:d'.size=L.length:=by rw[hsz]; simpa using hyl
 have B3:d'.toList.Perm ys:=by
  have e1:d'.extract 0 L.length=d':=by rw[←hdl]; simp
  have e2:ys.toArray.extract 0 L.length=ys.toArray:=by rw[←hyl]; simp
  rw[e1,e2] at B3
  simpa using B3
 obtain ⟨D,hD,hRD⟩:=F2.R7 B3 hR
 have hDl:=hD.length_eq
 have hpw:D.Pairwise (fun x y=>lt (kA y) (kA x)=false):=by
  rw[List.pairwise_iff_getElem]
  intro i j hi hj hij
  obtain ⟨y1,q1,r1⟩:=hRD.get i _ (List.getElem?_eq_getElem hi)
  obtain ⟨y2,q2,r2⟩:=hRD.get j _ (List.getElem?_eq_getElem hj)
  have:=hsort i j (Nat.zero_le _) hij (by omega)
  rw[Array.getElem?_toList] at q1 q2
  obtain ⟨s1,rfl⟩:=Array.getElem?_eq_some_iff.1 q1
  obtain ⟨s2,rfl⟩:=Array.getElem?_eq_some_iff.1 q2
  rw[getElem!_pos _ i s1,getElem!_pos _ j s2] at this
  rw[r1.2,r2.2]
  exact this
 obtain ⟨w1,hw1⟩:∃w1,w1=putRowK enc k (Sort.ahead w n) pl.B 0 d':=⟨_,rfl⟩
 have hfd:(Sort.flatK enc k d').toList=d'.toList.flatMap enc:=by
  have:=yl k0 hk d'.toList
  simpa using this
 have hheap:w1.heap=w.heap.modify pl.B (onCells (putCells id 0 (Sort.flatK enc k d'))):=by rw[hw1]; rfl
 have hB:w1.heap[pl.B]? = some (.cells (putCells id 0 (Sort.flatK enc k d') C) ty (0,0)):=by
  rw[hheap,Array.getElem?_modify,if_pos rfl,hC]; rfl
 have Cl:∀q,q≠pl.B→w1.heap[q]? = w.heap[q]?:=by
  intro q hq
  rw[hheap,Array.getElem?_modify,if_neg (fun e=>hq e.symm)]
 have On:=bf hA D
 have ho:OR P φ (aa (D.flatMap cE) ty op) pl w1.heap[pl.B]?:=by
  rw[hB]
  refine ⟨rfl,rfl,?_,?_,?_,?_⟩
  ·rw[On,hDl]
   simpa[putCells] using uT
  ·rw[On,hDl]; exact hn2
  ·intro ho
   obtain ⟨a1,a2,a3⟩:=hop ho
   exact ⟨by simpa[putCells] using a1,a2,a3⟩
  ·intro i v hv hi
   rw[mF] at hv
   rw[On,hDl] at hi
   have hFD:F2 (VR φ) (D.flatMap cE) (d'.toList.flatMap enc):=F2.flat (hRD.imp fun a b r=>r.1)
   obtain ⟨v',e1,e2⟩:=hFD.get i v hv
   refine ⟨v',?_,e2⟩
   rw[←hfd,Array.getElem?_toList] at e1
   obtain ⟨hs,e3⟩:=Array.getElem?_eq_some_iff.1 e1
   have hiC:i<C.size:=by omega
   have hs':i<d'.size*k:=by simpa using hs
   unfold putCells
   rw[Array.getElem?_mapIdx,Array.getElem?_eq_getElem hiC]
   simp only[Option.map_some,Nat.zero_le,true_and,Nat.zero_add,Nat.sub_zero]
   rw[if_pos hs,getElem!_pos _ i hs,e3]; rfl
 have hts:=hr.kU (w':=w1) hlo hp ⟨_,hb,trivial⟩ (by rw[hheap]; simp) Cl ho (by rw[hw1]; rfl) (by rw[hw1]; rfl) (by rw[hw1]; rfl) (.inl trivial) (by rw[hw1]; exact Nat.le_add_right _ _)
 refine ⟨φ,.tuple #[],.tuple #[],_,rfl,hκ D hD hpw,VR.tuple' .nil,?_,?_⟩
 ·show HR P φ _ (grow (putRowK enc k (Sort.ahead w n) pl.B 0 d') os)
  rw[←hw1]; exact hts.1.grown os
 ·show Ext φ φ h _ w (grow (putRowK enc k (Sort.ahead w n) pl.B 0 d') os)
  rw[←hw1]; exact hts.2.grown os
theorem Aw {f g:FuncId} (enters:∀args w,(callFunc f args).run P w=.ok (.enter f args) w)
  (law:∀(p:Option Addr) (cap:Nat) (fv:Value) (w:World),Calls P f #[.slice p 0 cap,fv] w fun e w'=>e=.returned (.tuple #[])∧w'=w)
  {h:Heap} {v:Value} (hv:v=.slice none 0 0∨∃b o,v=.slice (some ⟨b,o,none⟩) 0 0) {κ:Value→Heap→Prop} (hκ:κ (.tuple #[]) h):CallW P f [v,.func (.func g) #[] #[]] h κ:=by
 intro φ w args' ha hr
 cases ha with | @cons _ v1 _ m1 hs ha=>
 cases ha with | @cons _ v2 _ m2 hf ha=>
 cases ha
 obtain ⟨p,cap,e1⟩:∃p cap,v1=.slice p 0 cap:=by
  rcases hv with rfl | ⟨b,o,rfl⟩
  ·cases hs with
   | eT h=>exact ⟨_,_,rfl⟩
  ·cases hs with
   | slice h1 h2 h3=>exact ⟨_,_,rfl⟩
 subst e1
 refine ⟨enters _ _,(law p cap v2 w).mono ?_⟩
 rintro e w' ⟨rfl,rfl⟩
 exact ⟨φ,.tuple #[],.tuple #[],h,rfl,hκ,VR.tuple' .nil,hr,Ext.refl _ _ _⟩
theorem qR {f:FuncId} {args args':List Value} {v:Value} (hc:CallW P f args ⟨0,.nil,0⟩ fun u _=>u=v) (ha:F2 (VR fun _=>none) args args') (hv:mj v=true) (W:World) :
  Calls P f args'.toArray W fun e w'=>e=.returned v∧∃q os',w'=grow (W.drewN q) os':=by
 refine Calls.mono (hc _ W args' ha (HR.start W)).2 ?_
 rintro e w' ⟨φ',v1,v',h',rfl,g1,g2,g3,g4⟩
 have e1:v1=v:=g1
 subst e1
 refine ⟨by rw[nk hv g2],w'.drawn-W.drawn,w'.heap.extract W.heap.size w'.heap.size,?_⟩
 have hd:=g4.dr
 have hs:=g4.size
 have hfr:∀B,B<W.heap.size→w'.heap[B]? = W.heap[B]?:=fun B hB=>g4.ze B hB fun b pl e=>by cases e
 have hheap:w'.heap=W.heap++w'.heap.extract W.heap.size w'.heap.size:=by
  refine Array.ext_getElem? fun i=>?_
  by_cases hi:i<W.heap.size
  ·rw[Array.getElem?_append_left hi,hfr i hi]
  ·rw[Array.getElem?_append_right (by omega),Array.getElem?_extract]
   by_cases hi2:i<w'.heap.size
   ·rw[if_pos (by omega)]; congr 1; omega
   ·rw[if_neg (by omega),Array.getElem?_eq_none (by omega)]
 have ht:=g4.tape
 have ho:=g4.os
 have hu:=g4.output
 obtain ⟨a1,a2,a3,a4,a5⟩:=w'
 obtain ⟨b1,b2,b3,b4,b5⟩:=W
 simp only[grow,World.drewN] at *
 rw[World.mk.injEq]
 exact ⟨hheap,ht,by omega,ho,hu⟩
end
end Go.Vai

namespace Go.Proofs
open Go.Vai Go.Clashes
def acZ:Nat→Int | 0=>0 | 1=>1 | 2=>2 | 3=>2 | 4=>3 | 5=>3 | 6=>3 | 7=>3 | _=>4
theorem Ys:∀n,n<13→bx Tryz.prog 40 167 [.int .u64 (n:Nat)] (.int .i64 (acZ n))=true:=by
 intro n hn
 have:(List.range 13).all (fun n=>bx Tryz.prog 40 167 [.int .u64 ((n:Nat):Int)] (.int .i64 (acZ n)))=true:=by kernel_rfl
 exact List.all_eq_true.1 this n (List.mem_range.2 hn)
theorem ac0 (v fv:Value) (n:Nat) (hn:n≤12) (lim:Int) (h:Heap) (κ:KQ) (hk:CallW Tryz.prog 281 [v,.int .i64 0,.int .i64 (n:Int),fv] h fun _ h'=>κ (.tuple ⟨[]⟩) h') :
  CallW Tryz.prog 205 [v,.int .i64 0,.int .i64 (n:Int),.int .i64 lim,fv] h κ:=by
 refine an mixed ?_
 rw[WH]
 refine ⟨fun m l h1=>slot l 127=.int .i64 0∧slot l 140=.int .i64 (n:Int)∧HQ h h1,⟨0,rfl,rfl,rfl⟩,?_⟩
 rintro m l h1 ⟨s1,s2,hq⟩
 cases (show h=h1 from hq)
 simp(disch:=first|omega|simp only[Wd]<;>omega|rfl)only[Wz,DK,s1,s2]
 exact hk
theorem Oo (v fv:Value) (h:Heap) (κ:KQ) (hk:κ (.tuple ⟨[]⟩) h):CallW Tryz.prog 281 [v,.int .i64 0,.int .i64 0,fv] h κ:=by
 refine an mixed ?_
 rw[Xe]
 simp(disch:=first|omega|simp only[Wd]<;>omega|rfl)only[Wz]
 refine ⟨fun n l h1=>slot l 42=.int .i64 1∧HQ h h1,⟨0,rfl,rfl⟩,?_⟩
 rintro n l h1 ⟨s1,hq⟩
 cases (show h=h1 from hq)
 simp(disch:=first|omega|simp only[Wd]<;>omega|rfl)only[Wz,s1]
 exact hk
section
variable {β:Type} {fl:β}
theorem Oq (n:Int) (h:Heap) (κ:Value→Heap→β) (hn:0≤n∧n≤18446744073709551615):kg fl .u64 (.int .i64 n) h κ=κ (.int .u64 n) h:=by
 unfold kg; simp only[fT,dN]; rw[IntWalk.u64_in _ hn]
end
theorem Ot (b:Nat):(Value.cells (.map (some b))).toList=[.map (some b)]:=id rfl
def Qf (x y:Int × Int):Int:=mP x.1 x.2 y.1 y.2
theorem BJ (x y:Int × Int):ltOf Qf x y=true↔u7 x y:=by
 show decide (mP x.1 x.2 y.1 y.2<0)=true↔_
 rw[decide_eq_true_eq,ET]
theorem Jh {x y:Int × Int}:ltOf Qf x y=false↔¬u7 x y:=by
 rw[←BJ,Bool.not_eq_true]
theorem R8:Sort.SWO (ltOf Qf) where
 irrefl x:=Jh.2 (by unfold u7; omega)
 trans x y z h1 h2:=(BJ _ _).2 (Kw ((BJ _ _).1 h1) ((BJ _ _).1 h2))
 ntrans x y z h1 h2:=by
  rw[Jh] at *
  unfold u7 at *
  omega
theorem Ou (blk size:Nat) (w:World):Go.Proofs.CmpLays Tryz.prog 96 #[] fe 2 Qf blk 0 size w:=by
 intro m os dk _ x y
 exact qR (args:=[cN x.1 x.2,cN y.1 y.2]) (args':=[cN x.1 x.2,cN y.1 y.2]) (jw x.1 x.2 y.1 y.2 rfl)
  (.cons (VR.qu (.cons (.int _ _) (.cons (.int _ _) .nil))) (.cons (VR.qu (.cons (.int _ _) (.cons (.int _ _) .nil))) .nil)) rfl _
theorem GQ (blk cap:Nat) (d:Array (Int × Int)) (w:World) (hH:Sort.HoldsK fe 2 w blk 0 d) (hblk:blk<w.heap.size) (hsz:d.size<4611686018427387904) :
  Calls Tryz.prog 150 #[.slice (some ⟨blk,0,none⟩) d.size cap,.func (.func 96) #[] #[]] w fun e w'=>e=.returned (.tuple #[])∧∃d' n os,Sort.PermIn 0 d.size d d'∧Sort.SortedIn (fun x y=>ltOf Qf x y) 0 d.size d'∧w'=Go.Proofs.sortWorldK fe 2 w blk 0 n d' os:=by
 have eg:∀args w,(callFunc 96 args).run Tryz.prog w=.ok (.enter 96 args) w:=enters_of Tryz.func96 (by kernel_rfl) rfl
 exact Go.Proofs.AnyQ.slices_SortFunc Tryz.Yq 2 Tryz.isAgg28 Tryz.sizeOf28 fe (fun _=>rfl) (fun x v hv=>by simp[fe] at hv; rcases hv with rfl | rfl<;>rfl) Qf R8 96 #[] blk 0 cap d w eg (Ou blk d.size w) hH hblk hsz
theorem GR:∀args w,(callFunc 150 args).run Tryz.prog w=.ok (.enter 150 args) w:=enters_of Tryz.func150 (by kernel_rfl) rfl
theorem aht (φ:dG) (x:Int × Int) (cs:List Value) (h:F2 (VR φ) (fe x) cs):∃y:Int × Int,cs=fe y∧x=y:=by
 unfold fe at h
 cases h with | cons h1 h=>
 cases h with | cons h2 h=>
 cases h
 cases h1; cases h2
 exact ⟨x,rfl,rfl⟩
theorem R9 (a h:Heap) (L:List (Int × Int)) (v:Value) (κ:KQ) (ho:yh a h v L) (hle:Le a h) (hlo:h.lo≤h.nx) (hl:L.length≤1000000) (hd:L.Nodup)
  (hk:∀(D:List (Int × Int)) h',D.Perm L→D.Pairwise u7→yh a h' v D→Le a h'→κ (.tuple ⟨[]⟩) h'):CallW Tryz.prog 150 [v,.func (.func 96) #[] #[]] h κ:=by
 rcases ho with ⟨rfl,hv⟩ | ⟨b,hv,h1,h2,h3,h4⟩
 ·obtain ⟨x,c,rfl,_⟩:=(show Sl fe h v [] from (show yh a h v [] from .inl ⟨rfl,hv⟩).sl)
  refine an mixed ?_
  rw[V6]
  simp(disch:=first|omega|simp only[Wd]<;>omega|rfl)only[Wz,Oq]
  refine rK mixed (Ys 0 (by omega)) ?_
  refine ac0 _ _ 0 (by omega) _ h _ ?_
  refine Oo _ _ h _ ?_
  exact hk [] h (List.Perm.refl _) List.Pairwise.nil (.inl ⟨rfl,hv⟩) hle
 ·cases hv
  refine BI (by decide) (enc:=fe) (cE:=fe) encN_len encN_len (kA:=id) (kC:=id) (lt:=fun x y=>ltOf Qf x y) aht GR GQ h4 h3 hl ?_
  intro D hp hs
  have hs2:D.Pairwise u7:=by
   have hnd:D.Nodup:=(hp.nodup_iff).2 hd
   refine (hnd.and hs).imp ?_
   rintro x y ⟨hne,hlt⟩
   exact Jg (fun e=>hne e.symm) (Jh.1 hlt)
  refine hk D _ hp hs2 (.inr ⟨b,by rw[hp.length_eq],h1,h2,h3,T.af _ _ _⟩) ⟨hle.nx,hle.lo,fun c hc=>?_⟩
  exact (T.ai _ _ (by omega)).trans (hle.get c hc)
theorem R_ {h:Heap} {bb bm bp bl most:Nat} {M:List HE} {clock:Nat} {F:List Int} {B:List Bool} (s:aZ h bb bm bp bl most M clock F B) (hlo:h.lo≤h.nx) (hM:M.length≤1000) (κ:KQ)
  (hk:∀v h' (D:List (Int × Int)),D.Perm (M.map dS)→D.Pairwise u7→yh h h' v D→Le h h'→κ v h') :
  CallW Tryz.prog 164 [.pointer (some ⟨bb,0,none⟩)] h κ:=by
 refine an mixed ?_
 rw[Wf]
 have gb:=s.gU
 simp(disch:=first|omega|simp only[Wd]<;>omega|rfl)only[Wz,az,gb]
 refine an mixed ?_
 rw[WW]
 simp(disch:=first|omega|simp only[Wd]<;>omega|rfl)only[Wz,Ot]
 obtain ⟨hA,aH⟩:∃hA:Heap,hA=⟨h.nx+1,(h.bl.aT (h.nx) (aa [.map (some bm)] 265 false)),h.lo⟩:=⟨_,rfl⟩
 have aL:Le h hA:=by subst aH; exact ((Le.refl h).new _)
 have gc:hA.bl.get (h.nx)=some (aa [.map (some bm)] 265 false):=by subst aH; exact T.af _ _ _
 have ef:hA.nx=h.nx+1:=by subst aH; rfl
 have ej:hA.lo=h.lo:=by subst aH; rfl
 rw[←aH]
 clear aH
 have sA:=s.le aL
 refine an mixed ?_
 rw[aby]
 refine an mixed ?_
 rw[V5]
 have hlm:=s.vJ
 refine ES M clock bm h.nx hA s.ok sA.fQ (by omega) gc (by omega) (by omega) (by omega) _ ?_
 intro v h2 L hp ho bt
 have n2:=bt.nx
 have l2:=bt.lo
 have hnd:(L.map dS).Nodup:=by
  refine ((hp.map dS).nodup_iff).2 ?_
  rw[List.Nodup,List.pairwise_map]
  exact s.ok.nm.imp fun hn e=>hn ⟨congrArg Prod.fst e,congrArg Prod.snd e⟩
 have hll:=hp.length_eq
 refine R9 hA h2 (L.map dS) v _ ho bt (by omega) (by rw[List.length_map]; omega) hnd ?_
 intro D h3 hpD hs nX cr
 exact hk v h3 D (hpD.trans (hp.map dS)) hs (gL.base nX (by omega)) (aL.trans cr)
theorem Ky {β:Type} {fl:β} {M:List HE} {clock:Nat} {h:Heap} {bm:Nat} (o:fh M clock) (g:h.bl.get bm=some (.map (M.map kM) clock)) {e:HE} (he:e∈M) (κ:Value→Heap→β) :
  cV fl Tryz.prog 28 (.pointer none) false (.map (some bm)) (cN e.t e.r) h κ=κ (.pointer (some ⟨e.hb,0,none⟩)) h:=by
 unfold cV ja
 rw[NT]
 simp only[g]
 rcases EJ h e.t e.r M 0 with ⟨g1,g2⟩ | ⟨j,e',g1,g2,g3,g4⟩
 ·exact absurd ⟨rfl,rfl⟩ (g2 e he)
 ·rw[g1]
  rw[o.uniq he (List.mem_of_getElem? g2) g3 g4]; rfl
def Yt (v:Value):Value:=match v with | .slice a n c=>.slice a n c | _=>.slice none 0 0
def p7 (e:HE):List Value:=[.int .i64 e.t,.int .i64 e.r,Yt e.q,.int .i64 e.w]
theorem r_ (e:HE):(p7 e).length=4:=rfl
theorem EW (e:HE):(p7 e).all cZ=true:=by
 unfold p7 Yt
 split<;>rfl
theorem Ov {h:Heap} {q:Value} {Q:List R5} (hq:Sl bu h q Q):Yt q=q:=by
 obtain ⟨x,c,rfl,_⟩:=hq
 rfl
abbrev Ow (a h:Heap) (v:Value) (K:List HE):Prop:=gL p7 a 55 h v K
def EX (a b:HE):Prop:=a.t=b.t∧a.r=b.r∧a.w=b.w∧a.Q=b.Q
theorem Kz {h:Heap} {bb bm bp bl most:Nat} {M:List HE} {clock:Nat} {F:List Int} {B:List Bool} (s:aZ h bb bm bp bl most M clock F B) (hlo:h.lo≤h.nx) (hM:M.length≤1000) (κ:KQ)
  (hk:∀v h' (K:List HE),K.length=M.length→(K.map dS).Perm (M.map dS)→(K.map dS).Pairwise u7→(∀k∈K,(∃e∈M,EX k e)∧QV h' k.q k.Q)→Ow h h' v K→Le h h'→κ v h') :
  CallW Tryz.prog 109 [.pointer (some ⟨bb,0,none⟩)] h κ:=by
 refine an mixed ?_
 rw[VG]
 simp(disch:=first|omega|simp only[Wd]<;>omega|rfl)only[Wz,gV,Dj]
 refine R_ s hlo hM _ ?_
 intro v1 h1 D hp hs Qy bF
 have hlD:D.length=M.length:=by rw[hp.length_eq,List.length_map]
 obtain ⟨x1,c1,rfl,_⟩:=(show Sl fe h1 v1 D from Qy.sl)
 have n1:=bF.nx
 have l1:=bF.lo
 simp(disch:=first|omega|simp only[Wd]<;>omega|rfl)only[Wz]
 refine ⟨fun m l h2=>∃(i:Nat) (K:List HE),slot l 23=.int .i64 (i:Int)∧m=D.length-i∧i≤D.length∧K.map dS=D.take i∧(∀k∈K,(∃e∈M,EX k e)∧QV h2 k.q k.Q)∧Ow h1 h2 (slot l 21) K∧Le h1 h2,
  ⟨_,0,[],rfl,rfl,by omega,by simp,fun k hk=>(nomatch hk),.inl ⟨rfl,.inl rfl⟩,Le.refl _⟩,?_⟩
 rintro m l h2 ⟨i,K,s1,rfl,hi,hK,hQ,Z5,bt⟩
 have n2:=bt.nx
 have l2:=bt.lo
 have Uh:K.length=i:=by have:=congrArg List.length hK; simp at this; omega
 by_cases hst:i<D.length
 ·obtain ⟨p,hpi⟩:∃p,D[i]? = some p:=⟨_,List.getElem?_eq_getElem hst⟩
  have hpD:p∈M.map dS:=hp.mem_iff.1 (List.mem_of_getElem? hpi)
  obtain ⟨e,he,rfl⟩:=List.mem_map.1 hpD
  have s2:=s.le (bF.trans bt)
  have gb:=s2.gU
  have gm:=s2.fQ
  have amr:=s2.Qd
  have H:=s2.aS e he
  have hlt:=H.lt
  have hgd:=s2.good e he
  obtain ⟨qx,qc,eq,_⟩:=(show Sl bu h2 e.q e.Q from H.qv.1)
  have gh:=H.get
  rw[eq] at gh
  obtain ⟨b1,o1,hb1,R6,_,Qv⟩:=(Qy.sl.le bt).ld encN_len i hpi
  have r1:=fun (β:Type) (fl:β) κ=>nq (fl:=fl) Qv 2 κ rfl
  have ahv:=s2.vJ
  have gmB:=(((Le.refl h2).new (aa [.int .i64 e.t,.int .i64 e.r] 28 false)).get _ ahv).trans gm
  have eL:=Ky (β:=Option Value) (fl:=none) s2.ok gmB he
  unfold cN at eL
  simp(disch:=first|omega|simp only[Wd]<;>omega|rfl)only[Wz,s1,eY (show (i:Int)<(D.length:Int) by omega),Di,R6,r1,fe,dS,az,gb,gh,eL]
  obtain ⟨hB,dA⟩:∃hB:Heap,hB=⟨h2.nx+1+1,((h2.bl.aT (h2.nx) (aa [.int .i64 e.t,.int .i64 e.r] 28 false)).aT (h2.nx+1) (dF e.t e.r (.slice qx e.Q.length qc) e.w)),h2.lo⟩:=⟨_,rfl⟩
  have cG:Le h2 hB:=by subst dA; exact (((Le.refl h2).new _).new _)
  have gn:hB.bl.get (h2.nx)=some (aa [.int .i64 e.t,.int .i64 e.r] 28 false):=by subst dA; exact (T.ai _ _ (by omega)).trans (T.af _ _ _)
  have gd:hB.bl.get (h2.nx+1)=some (dF e.t e.r (.slice qx e.Q.length qc) e.w):=by subst dA; exact T.af _ _ _
  have Kj:hB.nx=h2.nx+1+1:=by subst dA; rfl
  have Kk:hB.lo=h2.lo:=by subst dA; rfl
  rw[←dA]
  clear dA
  have hqB:Sl bu hB (.slice qx e.Q.length qc) e.Q:=by rw[←eq]; exact H.qv.1.le cG
  have rG:=hgd.small
  refine EB e.Q hB _ _ hqB (by omega) (by omega) ?_
  intro q3 h3 nX cr
  have n3:=cr.nx
  have l3:=cr.lo
  have gd:=(cr.get _ (by omega)).trans gd
  obtain ⟨EF,EG,rfl,_⟩:=(show Sl bu h3 q3 e.Q from nX.sl)
  simp(disch:=first|omega|simp only[Wd]<;>omega|rfl)only[Wz,gd]
  obtain ⟨h4,e4⟩:∃h4:Heap,h4=⟨h3.nx+1,(h3.bl.aT (h2.nx+1) (dF e.t e.r (.slice EF e.Q.length EG) e.w)).aT h3.nx (dF e.t e.r (.slice EF e.Q.length EG) e.w),h3.lo⟩:=⟨_,rfl⟩
  have jr:Le h2 h4:=by rw[e4]; exact ((cG.trans cr).set (b:=h2.nx+1) (by omega) _).new _
  have g4:h4.bl.get h3.nx=some (aa ([(⟨e.t,e.r,0,0,.slice EF e.Q.length EG,e.w,e.Q⟩:HE)].flatMap p7) 55 false):=by rw[e4]; exact T.af _ _ _
  have n4:h4.nx=h3.nx+1:=by rw[e4]
  have l4:h4.lo=h3.lo:=by rw[e4]
  have hq4:QV h4 (.slice EF e.Q.length EG) e.Q:=by
   rw[e4]
   exact ((QV.own nX).put (fun vs op=>by rw[gd]; exact bq (by decide)) _).le ((Le.refl _).new _)
  try rw[←e4]
  clear e4
  refine iT (enc:=p7) (a:=h1) (L:=K) (M:=[(⟨e.t,e.r,0,0,.slice EF e.Q.length EG,e.w,e.Q⟩:HE)]) r_ EW (by decide) (by decide) (Z5.le jr) (Sl.new (by omega) g4 _) (bt.trans jr) (by simp; omega) (by omega) _ ?_
  intro v5 h5 rX jB _ n5 l5 ym
  have Kq:∀c vs op,c<h4.nx→h4.bl.get c=some (aa vs 57 op)→h5.bl.get c=h4.bl.get c:=fun c vs op hc hg=>ym c hc (by rw[hg]; exact bq (by decide))
  refine ⟨_,by omega,i+1,K++[⟨e.t,e.r,0,0,.slice EF e.Q.length EG,e.w,e.Q⟩],by simp,rfl,by omega,?_,?_,rX,?_⟩
  ·rw[List.map_append,hK,List.take_add_one,hpi]
   rfl
  ·intro k hk'
   rcases List.mem_append.1 hk' with hk' | hk'
   ·exact ⟨(hQ k hk').1,((hQ k hk').2.le jr).frame n5 Kq⟩
   ·rw[List.mem_singleton] at hk'; subst hk'
    exact ⟨⟨e,he,rfl,rfl,rfl,rfl⟩,hq4.frame n5 Kq⟩
  ·exact jB
 ·simp(disch:=first|omega|simp only[Wd]<;>omega|rfl)only[Wz,s1,cW (show (D.length:Int)≤(i:Int) by omega)]
  have hiD:i=D.length:=by omega
  subst hiD
  rw[List.take_length] at hK
  exact hk _ h2 K (by omega) (hK▸hp) (hK▸hs) hQ (gL.base Z5 (by omega)) (bF.trans bt)
theorem eo.sub {M M':List HE} {t r w:Int} {Q:List R5} (s:eo M M' t r w Q):∀x∈M',x∈M∨(x.t=t∧x.r=r∧x.w=w∧x.Q=Q):=by
 intro x hx
 by_cases h0:Q=[]
 ·rw[s.gone h0] at hx; exact .inl (List.mem_filter.1 hx).1
 ·obtain ⟨e,h1,h2,h3,h4,hp⟩:=s.put h0
  rcases List.mem_append.1 (hp.mem_iff.1 hx) with hx | hx
  ·exact .inl (List.mem_filter.1 hx).1
  ·rw[List.mem_singleton] at hx; subst hx; exact .inr ⟨h1,h2,h3,h4⟩
theorem eo.len {M M':List HE} {t r w:Int} {Q:List R5} (s:eo M M' t r w Q):M'.length≤(M.filter fun x=>!tH t r x).length+1:=by
 by_cases h0:Q=[]
 ·rw[s.gone h0]; omega
 ·obtain ⟨e,_,_,_,_,hp⟩:=s.put h0
  rw[hp.length_eq]; simp
theorem eo.wb {M M':List HE} {t r w:Int} {Q:List R5} {N:Nat} (s:eo M M' t r w Q) (hw:∀e∈M,e.w≤N) (h:w≤N+1):∀e∈M',e.w≤(N+1:Nat):=by
 intro e he
 rcases s.sub e he with h1 | ⟨_,_,h1,_⟩
 ·have:=hw e h1; omega
 ·omega
theorem Ji {M:List HE} {clock:Nat} (o:fh M clock) {e:HE} (he:e∈M):(M.filter fun x=>!tH e.t e.r x).length+1=M.length:=by
 have:=(pO o he).length_eq
 rw[this]; simp
theorem Yu (Q:List R5) (W id x m:Int):(jG Q W id x m).2.1≤W+1:=by unfold jG; split<;>simp<;>omega
theorem Yv (Q:List R5) (W:Int) (r:R5) (m:Int):(iM Q W r m).2.1≤W+1:=by unfold iM; split<;>simp<;>omega
theorem Sa (Q:List R5) (W:Int) (r:R5) (m:Int):(iM Q W r m).1.id=r.id:=by unfold iM; split<;>rfl
theorem sg {Q:List R5} {i:Nat} {p p':R5} (hi:Q[i]? = some p) (h:p'.id=p.id):(Q.set i p').map (·.id)=Q.map (·.id):=by
 obtain ⟨hl,rfl⟩:=List.getElem?_eq_some_iff.1 hi
 rw[List.map_set,h]
 refine List.ext_getElem? fun k=>?_
 rw[List.getElem?_set]
 split
 ·rename_i e; subst e; simp[hl]
 ·rfl
section
variable {h h':Heap} {bb bm bp bl most cap N:Nat} {M M':List HE} {clock clock':Nat} {F F':List Int} {B B':List Bool}
theorem GU {Q:List R5} {W:Int} (v:VQ Q W) {p:R5} {id:Int} (hf:bV Q id=some p):(Q.map (·.id)).Perm ((Q.filter fun r=>!b6 id r).map (·.id)++[id]):=by
 obtain ⟨hp,rfl⟩:=iW hf
 have hnd:(Q.map (·.id)).Nodup:=by
  rw[List.Nodup,List.pairwise_map]
  exact v.pair.imp fun hb=>hb.id
 have ahw:((Q.filter fun r=>!b6 p.id r).map (·.id)).Nodup:=hnd.sublist (List.filter_sublist.map _)
 refine (List.perm_ext_iff_of_nodup hnd (yf ahw fun hm=>?_)).2 fun x=>?_
 ·obtain ⟨q,hq,e⟩:=List.mem_map.1 hm
  have:=(List.mem_filter.1 hq).2
  simp[b6,e] at this
 ·rw[List.mem_append,List.mem_singleton,List.mem_map,List.mem_map]
  constructor
  ·rintro ⟨q,hq,rfl⟩
   by_cases hqp:q.id=p.id
   ·exact .inr hqp
   ·exact .inl ⟨q,List.mem_filter.2 ⟨hq,by simp[b6,hqp]⟩,rfl⟩
  ·rintro (⟨q,hq,rfl⟩ | rfl)
   ·exact ⟨q,(List.mem_filter.1 hq).1,rfl⟩
   ·exact ⟨p,hp,rfl⟩
end
theorem Ox (b:Nat) (n:Int) (p:Addr) (κ:List Value→Prop):br False [(2,1)] [.map (some b)] [.int .i64 n,.pointer (some p),.map none] κ=κ [.int .i64 n,.pointer (some p),.map (some b)]:=by kernel_rfl
theorem EY (aS:Nat) (bp:Nat) (h:Heap) (κ:KQ) (hh:1≤aS∧aS≤64) (hlo:h.lo≤h.nx)
  (hk:∀h',Le h h'→h'.nx=h.nx+2→h'.bl.get h.nx=some (.map [] 0)→h'.bl.get (h.nx+1)=some (aa [.int .i64 (aS:Int),.pointer (some ⟨bp,0,none⟩),.map (some h.nx)] 267 false)→κ (.tuple ⟨[.pointer (some ⟨h.nx+1,0,none⟩),.int .i64 0]⟩) h') :
  CallW Tryz.prog 153 [.int .i64 (aS:Int),.pointer (some ⟨bp,0,none⟩)] h κ:=by
 refine an mixed ?_
 rw[No]
 simp(disch:=first|omega|simp only[Wd]<;>omega|rfl)only[Wz,cW (show (1:Int)≤(aS:Int) by omega),cW (show (aS:Int)≤64 by omega),Bz,iB,Ox]
 exact hk _ (((Le.refl h).new _).new _) rfl ((T.ai _ _ (by omega)).trans (T.af _ _ _)) (T.af _ _ _)
def dh (n m:Int):Int:=if m<1 then 0 else if Int.tmod n m<0 then Int.tmod n m+m else Int.tmod n m
theorem GV (n m:Int) (hm:m≤9223372036854775807) {h:Heap} {κ:Value→Heap→Prop} (hk:κ (.int .i64 (dh n m)) h):CallW Tryz.prog 9 [.int .i64 n,.int .i64 m] h κ:=by
 refine gT (v:=.int .i64 (dh n m)) rfl rfl (an mixed ?_) hk
 rw[afP]
 by_cases h1:m<1
 ·simp(disch:=first|omega|simp only[Wd]<;>omega|rfl)only[Wz]; simp[dh,h1]
 ·have h2:=Int.tmod_lt_of_pos n (show 0<m by omega)
  have h3:=Int.lt_tmod_of_pos n (show 0<m by omega)
  simp(disch:=first|omega|simp only[Wd]<;>omega|rfl)only[Wz,M_,Bc _ _ _ _ _ m _ _ (by omega)]
  refine ⟨fun l h'=>slot l 5=.int .i64 (dh n m),?_,fun l h' hs=>hs⟩
  by_cases h4:Int.tmod n m<0
  ·simp(disch:=first|omega|simp only[Wd]<;>omega|rfl)only[Wz]; simp[dh,h1,h4]
  ·simp(disch:=first|omega|simp only[Wd]<;>omega|rfl)only[Wz]; simp[dh,h1,h4]
structure Act where
 k:Int
 t:Int
 r:Int
 id:Int
 x:Int
 m:Int
def cE (a:Act):List Value:=[.int .i64 a.k,.int .i64 a.t,.int .i64 a.r,.int .i64 a.id,.int .i64 a.x,.int .i64 a.m]
theorem pP {β:Type} {fl:β} (cn:Bool) (a b c d:Int) (h:Heap) (κ:Value→Heap→β):au fl Tryz.prog .eql 28 cn false (.agg ⟨[.int .i64 a,.int .i64 b]⟩) (.agg ⟨[.int .i64 c,.int .i64 d]⟩) h κ=κ (.bool (decide (a=c∧b=d))) h:=by
 have:=eqN h a b c d
 unfold cN at this
 simp only[au,this,bM]
section
variable {M M' K:List HE} {clock:Nat}
end
end Go.Proofs

namespace Go.Vai
end Go.Vai
namespace Go.Proofs
open Go.Vai Go.Clashes
section
variable {a h:Heap} {bb bm bp bl most cap N:Nat} {M:List HE} {clock:Nat} {F:List Int} {B:List Bool} {rb rp rl:Nat} {v:Value} {K:List HE}
end
theorem ac1 {h:Heap} {v:Value} {K:List HE} (hs:Sl p7 h v K) (i:Nat) {e:HE} (hp:K[i]? = some e) (hq:Yt e.q=e.q) :
  ∃b o,b<h.nx∧(∀(β:Type) (fl:β) (h':Heap) (κ:Value→Heap→β),aD fl 4 v (.int .i64 (i:Int)) h' κ=κ (.pointer (some ⟨b,o,none⟩)) h')∧
   ∀h',Le h h'→((∀(β:Type) (fl:β) (κ:List Value→β),vz fl (h'.bl.get b) o 2 κ=κ [.int .i64 e.t,.int .i64 e.r])∧
   (∀(β:Type) (fl:β) (κ:List Value→β),vz fl (h'.bl.get b) o 4 κ=κ [.int .i64 e.t,.int .i64 e.r,e.q,.int .i64 e.w])∧
   (∀(β:Type) (fl:β) (κ:Value→β),sF fl (h'.bl.get b) o κ=κ (.int .i64 e.t))∧
   (∀(β:Type) (fl:β) (κ:Value→β),sF fl (h'.bl.get b) (o+1) κ=κ (.int .i64 e.r))∧
   (∀(β:Type) (fl:β) (κ:Value→β),sF fl (h'.bl.get b) (o+2) κ=κ e.q)∧
   (∀(β:Type) (fl:β) (κ:Value→β),sF fl (h'.bl.get b) (o+3) κ=κ (.int .i64 e.w))):=by
 obtain ⟨b,o,h1,h2,h3,hh⟩:=hs.ld r_ i hp
 refine ⟨b,o,h1,h2,fun h' l=>?_⟩
 rw[l.get b h1]
 refine ⟨fun β fl κ=>?_,fun β fl κ=>?_,fun β fl κ=>?_,fun β fl κ=>?_,fun β fl κ=>?_,fun β fl κ=>?_⟩
 ·have:=hh.sub 0 2 (by show 0+2≤4; omega)
  rw[Nat.add_zero] at this
  exact nq this 2 κ rfl
 ·rw[nq hh 4 κ rfl]; unfold p7; rw[hq]
 ·exact dR (fl:=fl) hh 0 κ (by show 0<4; omega)
 ·exact dR (fl:=fl) hh 1 κ (by show 1<4; omega)
 ·rw[dR (fl:=fl) hh 2 κ (by show 2<4; omega)]; show κ (Yt e.q)=_; rw[hq]
 ·exact dR (fl:=fl) hh 3 κ (by show 3<4; omega)
section
variable {a h:Heap} {rb rp most:Nat} {v:Value} {K:List HE}
end
section
variable {a h:Heap} {rb rp rl most:Nat} {v:Value} {K:List HE}
end
section
variable {a h:Heap} {rb rp rl most:Nat} {v:Value} {K:List HE} {B:List Bool}
end
section
variable {a h:Heap} {rb rp rl most:Nat} {v:Value} {K:List HE} {B:List Bool}
end
section
variable {a h:Heap} {rb rp rl most:Nat} {v:Value} {K:List HE} {B:List Bool}
end
theorem ql.uniq {M:List HE} {B:List Bool} (i:ql M B) {e e':HE} (he:e∈M) (he':e'∈M) {p p':R5} (hp:p∈e.Q) (hp':p'∈e'.Q) (h:p.id=p'.id):e=e':=by
 obtain ⟨X,hX⟩:=i
 have hnd:=(List.nodup_append.1 ((hX.nodup_iff).2 (qO B))).1
 unfold fE at hnd
 rw[List.Nodup,List.pairwise_flatMap] at hnd
 obtain ⟨i,hi⟩:=List.getElem?_of_mem he
 obtain ⟨j,hj⟩:=List.getElem?_of_mem he'
 have G:=dU.1 hnd.2
 rcases Nat.lt_trichotomy i j with hl | hl | hl
 ·exact absurd h (G i j e e' hl hi hj _ (List.mem_map.2 ⟨p,hp,rfl⟩) _ (List.mem_map.2 ⟨p',hp',rfl⟩))
 ·subst hl; rw[hi] at hj; exact Option.some.inj hj
 ·exact absurd h.symm (G j i e' e hl hj hi _ (List.mem_map.2 ⟨p',hp',rfl⟩) _ (List.mem_map.2 ⟨p,hp,rfl⟩))
section
variable {h h':Heap} {bb bm bp bl most cap N:Nat} {M M' K:List HE} {clock clock':Nat} {F F':List Int} {B B':List Bool}
end
section
variable {a h:Heap} {rb rp rl most:Nat} {v:Value} {K:List HE} {B:List Bool}
end
section
variable {a h:Heap} {rb rp rl most:Nat} {v:Value} {K:List HE} {B:List Bool}
end
section
variable {a0 h:Heap} {bb bm bp bl most cap N:Nat} {M:List HE} {clock:Nat} {F:List Int} {B:List Bool} {rb rp rl:Nat} {v:Value} {K:List HE}
end
def GX (M:List HE) (t r x id:Int) (b:Bool):Prop:=(b=true∧∃e∈M,t=e.t∧r=e.r∧∃p∈e.Q,p.x=x∧p.id=id)∨(b=false∧id=0∧∀e∈M,t=e.t→r=e.r→∀p∈e.Q,p.x≠x)
theorem Sb {h:Heap} {bb bm bp bl most:Nat} {M:List HE} {clock:Nat} {F:List Int} {B:List Bool} (s:aZ h bb bm bp bl most M clock F B) (hlo:h.lo≤h.nx) (t r x:Int) (κ:KQ)
  (hk:∀h' id b,GX M t r x id b→Le h h'→κ (.tuple ⟨[.int .i64 id,.bool b]⟩) h') :
  CallW Tryz.prog 350 [.pointer (some ⟨bb,0,none⟩),cN t r,.int .i64 x] h κ:=by
 refine EM s hlo t r x _ ?_ ?_
 ·intro h' hn l; exact hk h' 0 false (.inr ⟨rfl,rfl,hn⟩) l
 ·intro h' e p he ht hr hp hx l; exact hk h' _ true (.inl ⟨rfl,e,he,ht,hr,p,hp,hx,rfl⟩) l
section
variable {a0 h:Heap} {bb bm bp bl most cap N:Nat} {M:List HE} {clock:Nat} {F:List Int} {B:List Bool} {rb rp rl:Nat} {v:Value} {K:List HE}
end
end Go.Proofs

namespace Go.Vai
open Go
section
variable {β:Type} {fl:β}
theorem vL (P:Program) (t:TypeId) (cn gd:Bool) (a b:ByteArray) (h:Heap) (κ:Value→Heap→β) (hs:a.size+b.size≤9223372036854775807):au fl P .add t cn gd (.string a) (.string b) h κ=κ (.string (a++b)) h:=by
 have e:Nat.ble (Nat.add a.size b.size) 9223372036854775807=true:=Nat.ble_eq_true_of_le hs
 simp only[au]
 rw[e]
theorem KB (P:Program) (t:TypeId) (cn gd:Bool) (a b:Int) (h:Heap) (κ:Value→Heap→β):au fl P .xor t cn gd (.int .u32 a) (.int .u32 b) h κ=κ (.int .u32 (IntKind.u32.wrap ((BitVec.ofInt IntKind.u32.bits a ^^^ BitVec.ofInt IntKind.u32.bits b).toNat))) h:=by
 simp only[au,gI,lP,fT,dN]
theorem KC (P:Program) (t:TypeId) (cn gd:Bool) (a b:Int) (h:Heap) (κ:Value→Heap→β):au fl P .mul t cn gd (.int .u32 a) (.int .u32 b) h κ=κ (.int .u32 (IntKind.u32.wrap (a*b))) h:=by
 simp only[au,gI,lP,fT,dN]; rfl
theorem KD (P:Program) (t:TypeId) (cn gd:Bool) (a b:Int) (h:Heap) (κ:Value→Heap→β) (hb:b≠0):au fl P .rem t cn gd (.int .u32 a) (.int .u32 b) h κ=κ (.int .u32 (Int.tmod a b)) h:=by
 simp only[au,gI,lP,fT,fI,hb,decide_false]
theorem EZ (k:IntKind) (a:Int) (h:Heap) (κ:Value→Heap→β):kg fl .u32 (.int k a) h κ=κ (.int .u32 (IntKind.u32.wrap a)) h:=by simp only[kg,fT,dN]
theorem BK (a:Int):0≤IntKind.u32.wrap a∧IntKind.u32.wrap a<4294967296:=by
 unfold IntKind.wrap
 simp only[IntKind.bits,IntKind.signed]
 have h1:=Int.emod_nonneg a (show (2:Int) ^ 32≠0 by decide)
 have h2:=Int.emod_lt_of_pos a (show (0:Int)<2 ^ 32 by decide)
 simp at *
 omega
theorem KE {a:Int} (h:0≤a∧a<4294967296):IntKind.u32.wrap a=a:=by
 unfold IntKind.wrap
 simp only[IntKind.bits,IntKind.signed]
 have:=Int.emod_eq_of_lt h.1 (show a<2 ^ 32 by omega)
 simp at *
 omega
theorem Sc (s:ByteArray):jX 8 (.string s) (.string s)=true:=by
 show j9 s s=true
 rw[ji]; simp
def yo (s:ByteArray):List Value:=s.data.toList.map fun b:UInt8=>Value.int .u8 (Int.ofNat b.toNat)
theorem GY {s:ByteArray} {i:Nat} (h:i<s.data.toList.length):(yo s)[i]? = some (.int .u8 (Int.ofNat (s.data.toList[i]).toNat)):=by
 unfold yo; rw[List.getElem?_map,List.getElem?_eq_getElem h]; rfl
theorem E0 (e:TypeId) (s:ByteArray) (h:Heap) (κ:Value→Heap→β) (hs:s.data.toList.length≤1000000000000) :
  n9 fl e (.string s) h κ=κ (.slice (some ⟨h.nx,0,none⟩) s.data.toList.length aM) ⟨h.nx+1,h.bl.aT h.nx (roO (yo s) e),h.lo⟩:=by
 unfold n9
 simp only[zX,vm,Nat.zero_add,List.length_map]
 rw[Nat.ble_eq_true_of_le hs]
 simp only[dx]
 unfold roO yo
 simp only[List.length_map]
end
end Go.Vai

namespace Go.Proofs
open Go.Vai Go.Clashes
def FN (n:Int):Bool:=decide (0≤n) && decide (n<100)
theorem si (n:Int) {h:Heap} {κ:Value→Heap→Prop} (hk:κ (.bool (FN n)) h):CallW Tryz.prog 203 [.int .i64 n] h κ:=by
 refine gT (v:=.bool (FN n)) rfl rfl (an mixed ?_) hk
 rw[WG]
 by_cases h1:n<0
 ·simp(disch:=first|omega|simp only[Wd]<;>omega|rfl)only[Wz,eY h1]; simp[FN]; omega
 ·by_cases h2:n<100
  ·simp(disch:=first|omega|simp only[Wd]<;>omega|rfl)only[Wz,cW (show 0≤n by omega),eY h2]; simp[FN]; omega
  ·simp(disch:=first|omega|simp only[Wd]<;>omega|rfl)only[Wz,cW (show 0≤n by omega),cW (show 100≤n by omega)]; simp[FN]; omega
theorem GZ (h:Heap) (κ:KQ) (hlo:h.lo≤h.nx) (hk:∀h',Le h h'→κ (cN (-1) (-1)) h'):CallW Tryz.prog 202 [] h κ:=by
 refine an mixed ?_
 rw[WE]
 simp(disch:=first|omega|simp only[Wd]<;>omega|rfl)only[Wz]
 exact hk _ ((Le.refl h).new _)
def a_ (t r:Int):Int:=if t = -1∧r = -1 then 0 else if FN t=true∧r = -1 then 1 else if FN t=true∧FN r=true then 2 else -1
theorem Oy (t r:Int) (h:Heap) (κ:KQ) (hlo:h.lo≤h.nx) (hk:∀h',Le h h'→κ (.int .i64 (a_ t r)) h'):CallW Tryz.prog 147 [cN t r] h κ:=by
 refine an mixed ?_
 rw[V4]
 simp(disch:=first|omega|simp only[Wd]<;>omega|rfl)only[Wz,cN]
 obtain ⟨hA,aH⟩:∃hA:Heap,hA=⟨h.nx+1,(h.bl.aT (h.nx) (aa [.int .i64 t,.int .i64 r] 28 false)),h.lo⟩:=⟨_,rfl⟩
 have aL:Le h hA:=by subst aH; exact ((Le.refl h).new _)
 have g1:hA.bl.get (h.nx)=some (aa [.int .i64 t,.int .i64 r] 28 false):=by subst aH; exact T.af _ _ _
 have ef:hA.nx=h.nx+1:=by subst aH; rfl
 have ej:hA.lo=h.lo:=by subst aH; rfl
 rw[←aH]
 clear aH
 refine GZ hA _ (by omega) ?_
 intro h2 bt
 have uH:=bt.nx
 have uI:=bt.lo
 have g1:=(bt.get _ (by omega)).trans g1
 have hk:=hk h2 (aL.trans bt)
 simp(disch:=first|omega|simp only[Wd]<;>omega|rfl)only[Wz,cN,g1,nu,pP]
 by_cases h0:t = -1∧r = -1
 ·simp(disch:=first|omega|simp only[Wd]<;>omega|rfl)only[Wz,bg h0]
  have e:a_ t r=0:=by simp[a_,h0]
  rw[e] at hk; exact hk
 ·simp(disch:=first|omega|simp only[Wd]<;>omega|rfl)only[Wz,aV h0,Dy,g1]
  refine si t ?_
  cases ht:FN t with
  | false=>
   simp(disch:=first|omega|simp only[Wd]<;>omega|rfl)only[Wz,xy,g1]
   refine si t ?_
   rw[ht]
   have e:a_ t r = -1:=by unfold a_; rw[if_neg h0,ht]; simp
   rw[e] at hk
   simp(disch:=first|omega|simp only[Wd]<;>omega|rfl)only[Wz]
   exact hk
  | true=>
   by_cases hr:r = -1
   ·simp(disch:=first|omega|simp only[Wd]<;>omega|rfl)only[Wz,bg hr,g1]
    have e:a_ t r=1:=by unfold a_; rw[if_neg h0,ht,hr]; simp
    rw[e] at hk; exact hk
   ·simp(disch:=first|omega|simp only[Wd]<;>omega|rfl)only[Wz,aV hr,xy,g1]
    refine si t ?_
    rw[ht]
    simp(disch:=first|omega|simp only[Wd]<;>omega|rfl)only[Wz,g1]
    refine si r ?_
    cases HU:FN r with
    | false=>
     have e:a_ t r = -1:=by unfold a_; rw[if_neg h0,ht,HU]; simp[hr]
     rw[e] at hk
     simp(disch:=first|omega|simp only[Wd]<;>omega|rfl)only[Wz]
     exact hk
    | true=>
     have e:a_ t r=2:=by unfold a_; rw[if_neg h0,ht,HU]; simp[hr]
     rw[e] at hk
     simp(disch:=first|omega|simp only[Wd]<;>omega|rfl)only[Wz]
     exact hk
theorem pQ (t r:Int) {h:Heap} {κ:Value→Heap→Prop} (hk:κ (.int .i64 (a_ t r)) h):CallW Tryz.prog 147 [cN t r] h κ:=
 gT (v:=.int .i64 (a_ t r)) rfl rfl (Oy t r wV _ (Nat.le_refl _) fun _ _=>rfl) hk
theorem mQ (t r:Int) {h:Heap} {κ:Value→Heap→Prop} (hk:κ (.int .i64 (if a_ t r = -1 then 2 else 0)) h):CallW Tryz.prog 102 [cN t r] h κ:=by
 refine gT (v:=.int .i64 (if a_ t r = -1 then 2 else 0)) rfl rfl (an mixed ?_) hk
 rw[Vz]
 simp(disch:=first|omega|simp only[Wd]<;>omega|rfl)only[Wz,cN]
 refine pQ t r ?_
 by_cases h:a_ t r = -1
 ·simp(disch:=first|omega|simp only[Wd]<;>omega|rfl)only[Wz,bg h]; simp[h]
 ·simp(disch:=first|omega|simp only[Wd]<;>omega|rfl)only[Wz,aV h]; simp[h]
def jP (n:Nat):ByteArray:=if n<10 then ⟨#[UInt8.ofNat (48+n)]⟩ else ⟨#[UInt8.ofNat (48+n / 10),UInt8.ofNat (48+n % 10)]⟩
theorem Yw:∀n,n<100→bx Tryz.prog 60 290 [.int .i64 (n:Nat)] (.string (jP n))=true:=by
 intro n hn
 have:(List.range 100).all (fun n=>bx Tryz.prog 60 290 [.int .i64 ((n:Nat):Int)] (.string (jP n)))=true:=by kernel_rfl
 exact List.all_eq_true.1 this n (List.mem_range.2 hn)
theorem G0 (n:Int) (hn:FN n=true) {h:Heap} {κ:Value→Heap→Prop} (hk:κ (.string (jP n.toNat)) h):CallW Tryz.prog 290 [.int .i64 n] h κ:=by
 have h1:0≤n∧n<100:=by simpa[FN] using hn
 obtain ⟨k,rfl⟩:∃k:Nat,n=(k:Int):=⟨n.toNat,by omega⟩
 rw[Int.toNat_natCast] at hk
 exact rK mixed (Yw k (by omega)) hk
def iO (t r:Int):ByteArray:=if a_ t r=0 then ⟨#[100,98]⟩ else if a_ t r=1 then (⟨#[116]⟩:ByteArray)++jP t.toNat else (⟨#[116]⟩:ByteArray)++jP t.toNat++(⟨#[46,114]⟩:ByteArray)++jP r.toNat
theorem pR (n:Nat):(jP n).size≤2:=by
 unfold jP
 split<;>simp[ByteArray.size]
theorem E1 {t r:Int} (h:a_ t r≠-1):a_ t r=0∨(a_ t r=1∧FN t=true)∨(a_ t r=2∧FN t=true∧FN r=true):=by
 unfold a_ at *
 split
 ·exact .inl rfl
 ·split
  ·rename_i h1; exact .inr (.inl ⟨rfl,h1.1⟩)
  ·split
   ·rename_i h1; exact .inr (.inr ⟨rfl,h1⟩)
   ·rename_i h1 h2 h3; rw[if_neg h1,if_neg h2,if_neg h3] at h; exact absurd rfl h
theorem Yx (t r:Int) (hl:a_ t r≠-1) {h:Heap} {κ:Value→Heap→Prop} (hk:κ (.string (iO t r)) h):CallW Tryz.prog 208 [cN t r] h κ:=by
 refine gT (v:=.string (iO t r)) rfl rfl (an mixed ?_) hk
 rw[WM]
 simp(disch:=first|omega|simp only[Wd]<;>omega|rfl)only[Wz,cN]
 refine pQ t r ?_
 have st:=pR t.toNat
 have sr:=pR r.toNat
 rcases E1 hl with e | ⟨e,ht⟩ | ⟨e,ht,hr⟩
 ·rw[e]; simp(disch:=first|omega|simp only[Wd]<;>omega|rfl)only[Wz]; simp[iO,e]
 ·rw[e]
  simp(disch:=first|omega|simp only[Wd]<;>omega|rfl)only[Wz,xA]
  refine G0 t ht ?_
  rw[vL _ _ _ _ _ _ _ _ (by show 1+_≤_; omega)]
  simp[iO,e]
 ·rw[e]
  simp(disch:=first|omega|simp only[Wd]<;>omega|rfl)only[Wz,xA,DM]
  have e1:∀(β:Type) (fl:β) (cn gd:Bool) (h:Heap) (κ:Value→Heap→β),au fl Tryz.prog .add 9 cn gd (.string ⟨#[116]⟩) (.string (jP t.toNat)) h κ=κ (.string ((⟨#[116]⟩:ByteArray)++jP t.toNat)) h:=fun β fl cn gd h κ=>vL _ _ _ _ _ _ _ _ (by show 1+_≤_; omega)
  have e2:∀(β:Type) (fl:β) (cn gd:Bool) (h:Heap) (κ:Value→Heap→β),au fl Tryz.prog .add 9 cn gd (.string ((⟨#[116]⟩:ByteArray)++jP t.toNat)) (.string ⟨#[46,114]⟩) h κ=κ (.string ((⟨#[116]⟩:ByteArray)++jP t.toNat++(⟨#[46,114]⟩:ByteArray))) h:=fun β fl cn gd h κ=>vL _ _ _ _ _ _ _ _ (by rw[ByteArray.size_append]; show 1+_+2≤_; omega)
  have e3:∀(β:Type) (fl:β) (cn gd:Bool) (h:Heap) (κ:Value→Heap→β),au fl Tryz.prog .add 9 cn gd (.string ((⟨#[116]⟩:ByteArray)++jP t.toNat++(⟨#[46,114]⟩:ByteArray))) (.string (jP r.toNat)) h κ=κ (.string ((⟨#[116]⟩:ByteArray)++jP t.toNat++(⟨#[46,114]⟩:ByteArray)++jP r.toNat)) h:=fun β fl cn gd h κ=>vL _ _ _ _ _ _ _ _ (by rw[ByteArray.size_append,ByteArray.size_append]; show 1+_+2+_≤_; omega)
  refine G0 t ht ?_
  simp(disch:=first|omega|simp only[Wd]<;>omega|rfl)only[Wz,e1,e2]
  refine G0 r hr ?_
  simp(disch:=first|omega|simp only[Wd]<;>omega|rfl)only[Wz,e1,e2,e3,Sc]
  simp[iO,e]
def Ax (a:Int) (b:UInt8):Int:=IntKind.u32.wrap (IntKind.u32.wrap ((BitVec.ofInt IntKind.u32.bits a ^^^ BitVec.ofInt IntKind.u32.bits (IntKind.u32.wrap (Int.ofNat b.toNat))).toNat)*16777619)
def tK (s:ByteArray):Int:=s.data.toList.foldl Ax 2166136261
theorem E2 (a:Int) (b:UInt8):0≤Ax a b∧Ax a b<4294967296:=BK _
theorem qS (s:ByteArray):0≤tK s∧tK s<4294967296:=by
 unfold tK
 have:∀(l:List UInt8) (a:Int),(0≤a∧a<4294967296)→0≤l.foldl Ax a∧l.foldl Ax a<4294967296:=by
  intro l
  induction l with
  | nil=>exact fun a h=>h
  | cons b l ih=>exact fun a _=>ih _ (E2 a b)
 exact this _ _ (by decide)
theorem ac2 (s:ByteArray) (hs:s.data.toList.length≤1000) {h:Heap} {κ:Value→Heap→Prop} (hk:κ (.int .u32 (tK s)) h):CallW Tryz.prog 207 [.string s] h κ:=by
 refine gT (v:=.int .u32 (tK s)) rfl rfl (an mixed ?_) hk
 rw[WL]
 rw[E0 _ _ _ _ (by omega)]
 simp(disch:=first|omega|simp only[Wd]<;>omega|rfl)only[Wz]
 refine ⟨fun n l h1=>∃i:Nat,slot l 12=.int .i64 (i:Int)∧slot l 10=.int .u32 ((s.data.toList.take i).foldl Ax 2166136261)∧i≤s.data.toList.length∧n=s.data.toList.length-i∧HQ ⟨wV.nx+1,wV.bl.aT wV.nx (roO (yo s) 5),wV.lo⟩ h1,⟨_,0,rfl,rfl,Nat.zero_le _,rfl,rfl⟩,?_⟩
 rintro n l h1 ⟨i,s1,s2,hi,rfl,hq⟩
 cases (show _=h1 from hq)
 by_cases hlt:i<s.data.toList.length
 ·have hg:=GY hlt
  simp(disch:=first|omega|simp only[Wd]<;>omega|rfl)only[Wz,s1,eY (show (i:Int)<(s.data.toList.length:Int) by omega),DL,aW,Nat.mul_one,hg,s2,EZ,KB,KC]
  refine ⟨_,by omega,i+1,rfl,?_,by omega,rfl,rfl⟩
  rw[List.take_add_one,List.getElem?_eq_getElem hlt]
  simp only[Option.toList_some,List.foldl_append,List.foldl_cons,List.foldl_nil]
  rfl
 ·have hil:i=s.data.toList.length:=by omega
  simp(disch:=first|omega|simp only[Wd]<;>omega|rfl)only[Wz,s1,cW (show (s.data.toList.length:Int)≤(i:Int) by omega),s2]
  rw[hil,List.take_length]; rfl
theorem Oz (t r:Int):(iO t r).data.toList.length≤1000:=by
 have st:=pR t.toNat
 have sr:=pR r.toNat
 have:(iO t r).size≤1000:=by
  unfold iO
  split
  ·decide
  ·split
   ·rw[ByteArray.size_append]; show 1+_≤_; omega
   ·rw[ByteArray.size_append,ByteArray.size_append,ByteArray.size_append]; show 1+_+2+_≤_; omega
 exact this
theorem Yy (t r:Int) (hl:a_ t r≠-1) {h:Heap} {κ:Value→Heap→Prop} (hk:κ (.int .u32 (tK (iO t r))) h):CallW Tryz.prog 155 [cN t r] h κ:=by
 refine gT (v:=.int .u32 (tK (iO t r))) rfl rfl (an mixed ?_) hk
 rw[V8]
 simp(disch:=first|omega|simp only[Wd]<;>omega|rfl)only[Wz,cN]
 refine Yx t r hl ?_
 refine ac2 _ (Oz t r) ?_
 rfl
def dm (t r s:Int):Int:=if s<1∨16<s∨a_ t r = -1 then -1 else Int.tmod (tK (iO t r)) s
theorem G4 {t r s:Int} (h:dm t r s≠-1):0≤dm t r s∧dm t r s<s∧a_ t r≠-1:=by
 unfold dm at *
 by_cases hc:s<1∨16<s∨a_ t r = -1
 ·rw[if_pos hc] at h; exact absurd rfl h
 ·rw[if_neg hc]
  have h1:=qS (iO t r)
  have h2:=Int.tmod_lt_of_pos (tK (iO t r)) (show 0<s by omega)
  have h3:=Int.tmod_nonneg s h1.1
  exact ⟨h3,h2,fun e=>hc (.inr (.inr e))⟩
theorem ac3 (s:Int) {h:Heap} {κ:Value→Heap→Prop} (hk:κ (.bool (decide (1≤s) && decide (s≤16))) h):CallW Tryz.prog 154 [.int .i64 s] h κ:=by
 refine gT (v:=.bool (decide (1≤s) && decide (s≤16))) rfl rfl (an mixed ?_) hk
 rw[V7]
 by_cases h1:s<1
 ·simp(disch:=first|omega|simp only[Wd]<;>omega|rfl)only[Wz,eY h1]; simp; omega
 ·by_cases h2:16<s
  ·simp(disch:=first|omega|simp only[Wd]<;>omega|rfl)only[Wz,cW (show 1≤s by omega),eY h2]; simp; omega
  ·simp(disch:=first|omega|simp only[Wd]<;>omega|rfl)only[Wz,cW (show 1≤s by omega),cW (show s≤16 by omega)]; simp; omega
theorem OA (t r s:Int) {h:Heap} {κ:Value→Heap→Prop} (hk:κ (.int .i64 (dm t r s)) h):CallW Tryz.prog 104 [cN t r,.int .i64 s] h κ:=by
 refine gT (v:=.int .i64 (dm t r s)) rfl rfl (an mixed ?_) hk
 rw[VD]
 simp(disch:=first|omega|simp only[Wd]<;>omega|rfl)only[Wz,cN]
 refine ac3 s ?_
 by_cases h1:1≤s∧s≤16
 ·simp(disch:=first|omega|simp only[Wd]<;>omega|rfl)only[Wz,bg h1.1,bg h1.2]
  refine mQ t r ?_
  by_cases hl:a_ t r = -1
  ·rw[if_pos hl]
   simp(disch:=first|omega|simp only[Wd]<;>omega|rfl)only[Wz]
   simp[dm,hl]
  ·rw[if_neg hl]
   simp(disch:=first|omega|simp only[Wd]<;>omega|rfl)only[Wz]
   refine Yy t r hl ?_
   have hr:=qS (iO t r)
   have h2:=Int.tmod_lt_of_pos (tK (iO t r)) (show 0<s by omega)
   have h3:=Int.tmod_nonneg s hr.1
   simp(disch:=first|omega|simp only[Wd]<;>omega|rfl)only[Wz,EZ,KE,KD]
   unfold dm
   rw[if_neg (by omega)]
 ·have e:(decide (1≤s) && decide (s≤16))=false:=by simp; omega
  rw[e]
  simp(disch:=first|omega|simp only[Wd]<;>omega|rfl)only[Wz]
  unfold dm
  rw[if_pos (by omega)]
abbrev IE:=Int × Int × Nat
def Ay (e:IE):MapEntry:={ key:=.int .i64 e.1,val:=.int .i64 e.2.1,born:=e.2.2 }
def KF (W:List IE) (k:Int):Option Int:=(W.find? fun e=>decide (k=e.1)).map fun e=>e.2.1
theorem eqI (h:Heap) (a b:Int):lM Tryz.prog h 100 3 (.int .i64 a) (.int .i64 b)=some (decide (a=b)):=by
 have:lM Tryz.prog h 100 3 (.int .i64 a) (.int .i64 b)=some (q8 a b):=by kernel_rfl
 rw[this,fI]
theorem OB (t:Int):jK Tryz.prog 20 3 (.int .i64 t)=true:=by kernel_rfl
theorem Ra (t:Int):jX 3 (.int .i64 t) (.int .i64 t)=true:=by
 show (gI .i64 .i64 && q8 t t)=true
 rw[fI,bg rfl]; rfl
theorem Uq (h:Heap) (k:Int):∀(M:List IE) (i:Nat),(fR Tryz.prog h 3 (.int .i64 k) (M.map Ay) i=some none∧M.find? (fun e=>decide (k=e.1))=none)∨
  ∃(j:Nat) (e:IE),fR Tryz.prog h 3 (.int .i64 k) (M.map Ay) i=some (some (i+j,Ay e))∧M[j]? = some e∧k=e.1∧M.find? (fun e=>decide (k=e.1))=some e∧∀(v:Int) (k':Int),(M.set j (e.1,v,e.2.2)).find? (fun e=>decide (k'=e.1))=if k'=k then some (e.1,v,e.2.2) else M.find? (fun e=>decide (k'=e.1)):=by
 intro M
 induction M with
 | nil=>intro i; exact .inl ⟨rfl,rfl⟩
 | cons e M ih=>
  intro i
  have hf:fR Tryz.prog h 3 (.int .i64 k) ((e::M).map Ay) i=(match (some (decide (k=e.1)):Option Bool) with | some true=>some (some (i,Ay e)) | some false=>fR Tryz.prog h 3 (.int .i64 k) (M.map Ay) (Nat.succ i) | none=>none):=by
   rw[←eqI h]; rfl
  rw[hf]
  by_cases h1:k=e.1
  ·rw[bg h1]
   refine .inr ⟨0,e,rfl,rfl,h1,by rw[List.find?_cons,bg h1],fun v k'=>?_⟩
   rw[List.set_cons_zero,List.find?_cons,List.find?_cons]
   by_cases h2:k'=k
   ·rw[if_pos h2,bg (h2.trans h1)]
   ·rw[if_neg h2,aV (fun e'=>h2 (e'.trans h1.symm))]
  ·rw[aV h1]
   rcases ih (Nat.succ i) with ⟨g1,g2⟩ | ⟨j,e',g1,g2,g3,g4,g5⟩
   ·exact .inl ⟨g1,by rw[List.find?_cons,aV h1]; exact g2⟩
   ·refine .inr ⟨j+1,e',by rw[show i+(j+1)=Nat.succ i+j by omega]; exact g1,g2,g3,by rw[List.find?_cons,aV h1]; exact g4,fun v k'=>?_⟩
    rw[List.set_cons_succ,List.find?_cons,List.find?_cons]
    by_cases h2:k'=e.1
    ·rw[bg h2]
     simp only
     rw[if_neg (fun e'=>h1 (e'.symm.trans h2))]
    ·rw[aV h2]
     exact g5 v k'
theorem ac4 {β:Type} {fl:β} {W:List IE} {clock:Nat} {h:Heap} {bw:Nat} (g:h.bl.get bw=some (.map (W.map Ay) clock)) (k:Int) (κ:Value→Heap→β) :
  cV fl Tryz.prog 3 (.int .i64 0) true (.map (some bw)) (.int .i64 k) h κ=κ (.tuple ⟨[.int .i64 ((KF W k).getD 0),.bool (KF W k).isSome]⟩) h:=by
 unfold cV ja KF
 rw[OB]
 simp only[g]
 rcases Uq h k W 0 with ⟨g1,g2⟩ | ⟨j,e',g1,g2,g3,g4,_⟩
 ·rw[g1,g2]; rfl
 ·rw[g1,g4]; rfl
theorem Yz {W:List IE} {clock:Nat} {h:Heap} {bw:Nat} (g:h.bl.get bw=some (.map (W.map Ay) clock)) (hlo:h.lo≤bw) (k v:Int) (κ:KQ)
  (hk:∀W' clock',(∀j,KF W' j=if j=k then some v else KF W j)→κ undef ⟨h.nx,h.bl.aT bw (.map (W'.map Ay) clock'),h.lo⟩) :
  cw False Tryz.prog 3 (.map (some bw)) (.int .i64 k) (.int .i64 v) h κ:=by
 unfold cw
 rw[OB]
 simp only[g]
 rcases Uq h k W 0 with ⟨g1,g2⟩ | ⟨j,e,g1,g2,g3,g4,g5⟩
 ·rw[g1]
  simp only
  rw[ot]
  simp only[bT]
  rw[bU _ _ _ _ hlo]
  have:=hk (W++[(k,v,clock)]) (clock+1) fun j=>by
   unfold KF
   rw[List.find?_append]
   by_cases hj:j=k
   ·rw[if_pos hj,hj,g2]; simp
   ·rw[if_neg hj]
    simp[List.find?_cons,hj]
  rw[List.map_append] at this
  exact this
 ·rw[g1]
  subst g3
  simp only[Ay,Ra]
  rw[Nat.zero_add,ry _ _ j (Ay e) _ (by rw[List.getElem?_map,g2]; rfl),bU _ _ _ _ hlo]
  have:=hk (W.set j (e.1,v,e.2.2)) clock fun i=>by
   unfold KF
   rw[g5 v i]
   split<;>rfl
  rw[List.map_set] at this
  exact this
theorem pZ.keep {h h':Heap} {bb bm bp bl most clock:Nat} {M:List HE} {F:List Int} {B:List Bool} (s:aZ h bb bm bp bl most M clock F B) (f:pZ bm bp bl h h') {c:Nat} {vs:List Value} {ty:TypeId} {op:Bool} (hc:c<h.nx) (hg:h.bl.get c=some (aa vs ty op)) (h1:ty≠286) (h2:ty≠4) (h3:ty≠3):h'.bl.get c=h.bl.get c:=by
 obtain ⟨fs,yd,hpt⟩:=s.aY.fr.cell
 have gl:=s.aY.cell
 have gm:=s.fQ
 exact f.get c hc (by rintro rfl; rw[hg] at gm; exact bQ gm.symm) (by rintro rfl; rw[hg] at yd; exact bq h1 yd) (by rintro rfl; rw[hg] at gl; exact bq h2 gl) fun ws=>by rw[hg]; exact bq h3
theorem pZ.Jj {h h':Heap} {bb bm bp bl most clock:Nat} {M:List HE} {F:List Int} {B:List Bool} (s:aZ h bb bm bp bl most M clock F B) (f:pZ bm bp bl h h') {c:Nat} {es:List MapEntry} {cl:Nat} (hc:c<h.nx) (hg:h.bl.get c=some (.map es cl)) (hne:c≠bm):h'.bl.get c=h.bl.get c:=by
 obtain ⟨fs,yd,hpt⟩:=s.aY.fr.cell
 have gl:=s.aY.cell
 exact f.get c hc hne (by rintro rfl; rw[yd] at hg; exact bQ hg.symm) (by rintro rfl; rw[gl] at hg; exact bQ hg.symm) fun ws=>by rw[hg]; exact bQ
theorem aZ.aside {h h':Heap} {bb bm bb2 bm2 bp bl most Ur clock OC:Nat} {M M2:List HE} {F F':List Int} {B B':List Bool} (s:aZ h bb bm bp bl most M clock F B) (f:pZ bm bp bl h h') (s2:aZ h bb2 bm2 bp bl Ur M2 OC F B) (hne:bm2≠bm) (p:dJ h' bp bl F' B'):aZ h' bb2 bm2 bp bl Ur M2 OC F' B':=by
 have fn:=f.nx
 have fl:=f.lo
 have sb:=s2.Qd
 have sm:=s2.vJ
 refine ⟨by omega,by omega,by rw[fl]; exact s2.RU,(f.keep s sb s2.gU (by decide) (by decide) (by decide)).trans s2.gU,(f.Jj s sm s2.fQ hne).trans s2.fQ,s2.ok,fun e he=>?_,s2.good,p,s2.ne⟩
 have a:=s2.aS e he
 have al:=a.lt
 exact ⟨by omega,(f.keep s al a.get (by decide) (by decide) (by decide)).trans a.get,a.qv.frame fn fun c vs op hc hg=>f.keep s hc hg (by decide) (by decide) (by decide)⟩
structure TB where
 bb:Nat
 bm:Nat
 M:List HE
 clock:Nat
def mR (b:TB):List Value:=[.pointer (some ⟨b.bb,0,none⟩)]
theorem Az (b:TB):(mR b).length=1:=rfl
theorem KG (b:TB):(mR b).all cZ=true:=rfl
structure fZ where
 S:Int
 H:Int
 R:Int
 P:Int
structure ep (h:Heap) (tb bw bp bl:Nat) (c:fZ) (vb:Value) (aS:Nat) (T:List TB) (W:List IE) (wc:Nat) (F:List Int) (B:List Bool):Prop where
 YA:tb<h.nx
 lJ:h.bl.get tb=some (aa [.int .i64 c.S,.int .i64 c.H,.int .i64 c.R,.int .i64 c.P,.pointer (some ⟨bp,0,none⟩),vb,.map (some bw)] 194 false)
 sl:Sl mR h vb T
 ty:uz 205 h vb
 BL:bw<h.nx
 low:h.lo≤bw
 nQ:h.bl.get bw=some (.map (W.map Ay) wc)
 bk:∀b∈T,aZ h b.bb b.bm bp bl aS b.M b.clock F B
 E3:T.Pairwise fun a b=>a.bm≠b.bm
 Z8:∀b∈T,bw≠b.bm
 aY:dJ h bp bl F B
 cS:c.S=T.length
 s1:1≤T.length∧T.length≤16
 hd:aS≤64
theorem Sl.G5 {α:Type} {enc:α→List Value} {h h':Heap} {v:Value} {L:List α} {e:TypeId} (s:Sl enc h v L) (t:uz e h v) (hn:h.nx≤h'.nx) (hg:∀c vs op,c<h.nx→h.bl.get c=some (aa vs e op)→h'.bl.get c=h.bl.get c):Sl enc h' v L∧uz e h' v:=by
 constructor
 ·obtain ⟨x,cap,rfl,h2⟩:=s
  refine ⟨x,cap,rfl,fun hne=>?_⟩
  obtain ⟨b,o,rfl,h3,h4⟩:=h2 hne
  obtain ⟨h1,vs,op,h5⟩:=t b o _ cap rfl (by intro h0; exact hne (List.eq_nil_of_length_eq_zero h0))
  refine ⟨b,o,rfl,Nat.lt_of_lt_of_le h3 hn,?_⟩
  rw[hg b vs op h1 h5]; exact h4
 ·intro b o n c hv hn0
  obtain ⟨h1,vs,op,h2⟩:=t b o n c hv hn0
  exact ⟨Nat.lt_of_lt_of_le h1 hn,vs,op,(hg b vs op h1 h2).trans h2⟩
theorem ep.le {h h':Heap} {tb bw bp bl:Nat} {c:fZ} {vb:Value} {aS:Nat} {T:List TB} {W:List IE} {wc:Nat} {F:List Int} {B:List Bool} (s:ep h tb bw bp bl c vb aS T W wc F B) (l:Le h h'):ep h' tb bw bp bl c vb aS T W wc F B:=
 ⟨Nat.lt_of_lt_of_le s.YA l.nx,(l.get _ s.YA).trans s.lJ,s.sl.le l,s.ty.le l,Nat.lt_of_lt_of_le s.BL l.nx,by rw[l.lo]; exact s.low,(l.get _ s.BL).trans s.nQ,fun b hb=>(s.bk b hb).le l,s.E3,s.Z8,s.aY.le l,s.cS,s.s1,s.hd⟩
theorem OD {T:List TB} {k:Nat} {b:TB} (hk:T[k]? = some b) (M':List HE) (clock':Nat):(T.set k ⟨b.bb,b.bm,M',clock'⟩).flatMap mR=T.flatMap mR:=by
 obtain ⟨hl,rfl⟩:=List.getElem?_eq_some_iff.1 hk
 rw[List.flatMap_def,List.flatMap_def,List.map_set]
 congr 1
 refine List.ext_getElem? fun i=>?_
 rw[List.getElem?_set]
 split
 ·rename_i e; subst e
  rw[if_pos (by simpa using hl),List.getElem?_map,List.getElem?_eq_getElem hl]; rfl
 ·rfl
theorem Sl.congr {α:Type} {enc:α→List Value} {h:Heap} {v:Value} {L L':List α} (s:Sl enc h v L) (hl:L'.length=L.length) (hf:L'.flatMap enc=L.flatMap enc):Sl enc h v L':=by
 obtain ⟨x,cap,rfl,h2⟩:=s
 refine ⟨x,cap,by rw[hl],fun hne=>?_⟩
 rw[hf]
 exact h2 (fun e=>hne (List.eq_nil_of_length_eq_zero (by rw[hl,e]; rfl)))
theorem ep.change {h h':Heap} {tb bw bp bl:Nat} {c:fZ} {vb:Value} {aS:Nat} {T:List TB} {W:List IE} {wc:Nat} {F F':List Int} {B B':List Bool} (s:ep h tb bw bp bl c vb aS T W wc F B) {k:Nat} {b:TB} (hk:T[k]? = some b) {M':List HE} {clock':Nat} (is':aZ h' b.bb b.bm bp bl aS M' clock' F' B') (f:pZ b.bm bp bl h h') :
  ep h' tb bw bp bl c vb aS (T.set k ⟨b.bb,b.bm,M',clock'⟩) W wc F' B':=by
 have hb:=s.bk b (List.mem_of_getElem? hk)
 have fn:=f.nx
 have fl:=f.lo
 have h1:=s.YA
 have h2:=s.BL
 have k1:=Sl.G5 s.sl s.ty fn fun c vs op hc hg=>f.keep hb hc hg (by decide) (by decide) (by decide)
 have ac6:=s.Z8 b (List.mem_of_getElem? hk)
 have jS:∀x∈T.set k ⟨b.bb,b.bm,M',clock'⟩,(x=⟨b.bb,b.bm,M',clock'⟩)∨(x∈T∧x.bm≠b.bm):=by
  intro x hx
  obtain ⟨i,hi⟩:=List.getElem?_of_mem hx
  rw[List.getElem?_set] at hi
  split at hi
  ·split at hi
   ·exact .inl (Option.some.inj hi).symm
   ·cases hi
  ·rename_i hne
   refine .inr ⟨List.mem_of_getElem? hi,?_⟩
   rcases Nat.lt_trichotomy i k with h3 | h3 | h3
   ·exact dU.1 s.E3 i k x b h3 hi hk
   ·exact absurd h3.symm hne
   ·exact fun e=>dU.1 s.E3 k i b x h3 hk hi e.symm
 refine ⟨by omega,(f.keep hb h1 s.lJ (by decide) (by decide) (by decide)).trans s.lJ,Sl.congr k1.1 (List.length_set ..) (OD hk _ _),k1.2,by omega,by rw[fl]; exact s.low,(f.Jj hb h2 s.nQ ac6).trans s.nQ,?_,?_,?_,is'.aY,by rw[List.length_set]; exact s.cS,by rw[List.length_set]; exact s.s1,s.hd⟩
 ·intro x hx
  rcases jS x hx with rfl | ⟨hx,hne⟩
  ·exact is'
  ·exact hb.aside f (s.bk x hx) hne is'.aY
 ·refine qI s.E3 (fun j q hj hq=>dU.1 s.E3 j k q b hj hq hk) (fun j q hj hq=>dU.1 s.E3 k j b q hj hk hq)
 ·intro x hx
  rcases jS x hx with rfl | ⟨hx,_⟩
  ·exact ac6
  ·exact s.Z8 x hx
theorem qT {α β:Type} (f:α→List β) {T:List α} {k:Nat} {b:α} (hk:T[k]? = some b):∃X,∀b',((T.set k b').flatMap f).Perm (f b'++X):=by
 obtain ⟨hl,_⟩:=List.getElem?_eq_some_iff.1 hk
 refine ⟨(T.take k).flatMap f++(T.drop (k+1)).flatMap f,fun b'=>?_⟩
 rw[List.set_eq_take_append_cons_drop,if_pos hl,List.flatMap_append,List.flatMap_cons]
 exact List.perm_append_comm_assoc _ _ _
theorem yp {α:Type} {T:List α} {k:Nat} {b:α} (hk:T[k]? = some b):T.set k b=T:=by
 refine List.ext_getElem? fun i=>?_
 rw[List.getElem?_set]
 split
 ·rename_i e; subst e; rw[hk,if_pos (List.getElem?_eq_some_iff.1 hk).1]
 ·rfl
section
variable {h h':Heap} {bb bm bp bl most:Nat} {M M':List HE} {clock clock':Nat} {F F':List Int} {B B':List Bool}
theorem mO.ids (s:aZ h bb bm bp bl most M clock F B) {t r x m:Int} {n:Nat} {g:Bool} (a:mO h h' bb bm bp bl most M M' clock' F F' B t r x m n g):(fE M').Perm (fE M++[(n:Int)]):=by
 obtain ⟨Q,w,hold,vq,vq',_,jS⟩:=a.set
 have nJ:(fE M).Perm (fE (M.filter fun x=>!tH t r x)++Q.map (·.id)):=by
  rcases hold with ⟨e,he,rfl,rfl,rfl,rfl⟩ | ⟨hn,hl,rfl,rfl⟩
  ·have:=pM (pO s.ok he)
   rw[lI,r9] at this
   exact this
  ·rw[As hn]; simp
 refine jS.ids.trans ?_
 rw[yg vq',List.map_append,List.map_cons,List.map_nil,RY,←List.append_assoc]
 exact (nJ.symm).append_right _
theorem mO.len (s:aZ h bb bm bp bl most M clock F B) (hl:M.length≤most) {t r x m:Int} {n:Nat} {g:Bool} (a:mO h h' bb bm bp bl most M M' clock' F F' B t r x m n g):M'.length≤most:=by
 obtain ⟨Q,w,hold,vq,vq',_,jS⟩:=a.set
 have:=jS.len
 rcases hold with ⟨e,he,rfl,rfl,rfl,rfl⟩ | ⟨hn,hl,rfl,rfl⟩
 ·have:=Ji s.ok he; omega
 ·rw[As hn] at this; omega
theorem mO.wb {N:Nat} (hw:∀e∈M,e.w≤N) {t r x m:Int} {n:Nat} {g:Bool} (a:mO h h' bb bm bp bl most M M' clock' F F' B t r x m n g):∀e∈M',e.w≤(N+1:Nat):=by
 obtain ⟨Q,w,hold,vq,vq',_,jS⟩:=a.set
 refine jS.wb hw ?_
 have:=Yu Q w n x m
 rcases hold with ⟨e,he,_,_,_,rfl⟩ | ⟨_,_,_,rfl⟩
 ·have:=hw e he; omega
 ·omega
theorem mO.sub {t r x m:Int} {n:Nat} {g:Bool} (a:mO h h' bb bm bp bl most M M' clock' F F' B t r x m n g):∀y∈M',(∃e∈M,e.t=y.t∧e.r=y.r)∨(y.t=t∧y.r=r):=by
 obtain ⟨Q,w,_,_,_,_,jS⟩:=a.set
 intro y hy
 rcases jS.sub y hy with h | ⟨h1,h2,_⟩
 ·exact .inl ⟨y,h,rfl,rfl⟩
 ·exact .inr ⟨h1,h2⟩
variable {e:HE} {Q1:List R5} {w1:Int}
theorem jt.OE (s:aZ h bb bm bp bl most M clock F B) (he:e∈M) (m:jt h h' bb bm bp bl most M M' clock' F' B' e Q1 w1) (hid:Q1.map (·.id)=e.Q.map (·.id)):(fE M').Perm (fE M):=by
 refine m.set.ids.trans ?_
 rw[yg m.vq,hid]
 have:=pM (pO s.ok he)
 rw[lI,r9] at this
 exact this.symm
theorem jt.OF (s:aZ h bb bm bp bl most M clock F B) (he:e∈M) {p:R5} {n:Nat} (hf:bV e.Q (n:Int)=some p) (m:jt h h' bb bm bp bl most M M' clock' F' B' e (e.Q.filter fun r=>!b6 (n:Int) r) w1):(fE M).Perm (fE M'++[(n:Int)]):=by
 have h1:=pM (pO s.ok he)
 rw[lI,r9] at h1
 have h2:=h1.trans (List.Perm.append_left (fE (M.filter fun x=>!tH e.t e.r x)) (GU (s.good e he).vq hf))
 rw[←List.append_assoc] at h2
 have h3:=m.set.ids
 rw[yg m.vq] at h3
 exact h2.trans (h3.symm.append_right _)
theorem jt.len (s:aZ h bb bm bp bl most M clock F B) (hl:M.length≤most) (he:e∈M) (m:jt h h' bb bm bp bl most M M' clock' F' B' e Q1 w1):M'.length≤most:=by
 have:=m.set.len
 have:=Ji s.ok he
 omega
theorem jt.sub (he:e∈M) (m:jt h h' bb bm bp bl most M M' clock' F' B' e Q1 w1):∀y∈M',∃e∈M,e.t=y.t∧e.r=y.r:=by
 intro y hy
 rcases m.set.sub y hy with h | ⟨h1,h2,_⟩
 ·exact ⟨y,h,rfl,rfl⟩
 ·exact ⟨e,he,h1.symm,h2.symm⟩
end
structure jC (h:Heap) (tb bw bp bl:Nat) (c:fZ) (vb:Value) (aS N:Nat) (T:List TB) (W:List IE) (wc:Nat) (F:List Int) (B:List Bool):Prop where
 is:ep h tb bw bp bl c vb aS T W wc F B
 ids:(T.flatMap fun b=>fE b.M).Perm (jO B)
 wh:∀(k:Nat) (b:TB),T[k]? = some b→∀e∈b.M,∀p∈e.Q,KF W p.id=some (k:Int)
 nm:∀(k:Nat) (b:TB),T[k]? = some b→∀e∈b.M,dm e.t e.r c.S=(k:Int)
 wb:∀b∈T,∀e∈b.M,e.w≤N
 len:∀b∈T,b.M.length≤aS
 cR:(B.length:Int)=c.R
 cH:(aS:Int)=c.H
section
variable {h h':Heap} {tb bw bp bl:Nat} {c:fZ} {vb:Value} {aS N:Nat} {T:List TB} {W:List IE} {wc:Nat} {F F':List Int} {B B':List Bool}
theorem jC.OG (s:jC h tb bw bp bl c vb aS N T W wc F B) {k:Nat} {b:TB} (hk:T[k]? = some b):ql b.M B:=by
 obtain ⟨X,hX⟩:=qT (fun b:TB=>fE b.M) hk
 have:=hX b
 rw[yp hk] at this
 exact ⟨X,this.symm.trans s.ids⟩
theorem jC.le (s:jC h tb bw bp bl c vb aS N T W wc F B) (l:Le h h'):jC h' tb bw bp bl c vb aS N T W wc F B:=⟨s.is.le l,s.ids,s.wh,s.nm,s.wb,s.len,s.cR,s.cH⟩
theorem jC.up {N':Nat} (s:jC h tb bw bp bl c vb aS N T W wc F B) (hN:N≤N'):jC h tb bw bp bl c vb aS N' T W wc F B:=⟨s.is,s.ids,s.wh,s.nm,fun b hb e he=>by have:=s.wb b hb e he; omega,s.len,s.cR,s.cH⟩
theorem eW {α:Type} {T:List α} {k j:Nat} {b' x:α} (h:(T.set k b')[j]? = some x):(j=k∧x=b')∨(j≠k∧T[j]? = some x):=by
 rw[List.getElem?_set] at h
 split at h
 ·rename_i e
  split at h
  ·exact .inl ⟨e.symm,(Option.some.inj h).symm⟩
  ·cases h
 ·rename_i e; exact .inr ⟨fun e'=>e e'.symm,h⟩
theorem kN {M:List HE} {i:Int}:i∈fE M↔∃e∈M,∃p∈e.Q,p.id=i:=by
 unfold fE
 rw[List.mem_flatMap]
 constructor
 ·rintro ⟨e,he,hi⟩
  obtain ⟨p,hp,rfl⟩:=List.mem_map.1 hi
  exact ⟨e,he,p,hp,rfl⟩
 ·rintro ⟨e,he,p,hp,rfl⟩
  exact ⟨e,he,List.mem_map.2 ⟨p,hp,rfl⟩⟩
theorem jC.step (s:jC h tb bw bp bl c vb aS N T W wc F B) {k:Nat} {b:TB} (hk:T[k]? = some b) {M':List HE} {clock':Nat} (is':aZ h' b.bb b.bm bp bl aS M' clock' F' B') (f:pZ b.bm bp bl h h')
  (zD:∀X,(fE b.M++X).Perm (jO B)→(fE M'++X).Perm (jO B')) (hsub:∀i∈fE M',i∈fE b.M) (hnm:∀y∈M',∃e∈b.M,e.t=y.t∧e.r=y.r) (hw:∀e∈M',e.w≤(N+1:Nat)) (hl:M'.length≤aS) (hB:B'.length=B.length) :
  jC h' tb bw bp bl c vb aS (N+1) (T.set k ⟨b.bb,b.bm,M',clock'⟩) W wc F' B':=by
 obtain ⟨X,hX⟩:=qT (fun b:TB=>fE b.M) hk
 have h0:=hX b
 rw[yp hk] at h0
 refine ⟨s.is.change hk is' f,(hX _).trans (zD X (h0.symm.trans s.ids)),?_,?_,?_,?_,by rw[hB]; exact s.cR,s.cH⟩
 ·intro j x hj e he p hp
  rcases eW hj with ⟨rfl,rfl⟩ | ⟨_,hj⟩
  ·obtain ⟨e0,OH,p0,hp0,hpe⟩:=kN.1 (hsub p.id (kN.2 ⟨e,he,p,hp,rfl⟩))
   rw[←hpe]; exact s.wh j b hk e0 OH p0 hp0
  ·exact s.wh j x hj e he p hp
 ·intro j x hj e he
  rcases eW hj with ⟨rfl,rfl⟩ | ⟨_,hj⟩
  ·obtain ⟨e0,OH,h1,h2⟩:=hnm e he
   rw[←h1,←h2]; exact s.nm j b hk e0 OH
  ·exact s.nm j x hj e he
 ·intro x hx e he
  obtain ⟨j,hj⟩:=List.getElem?_of_mem hx
  rcases eW hj with ⟨rfl,rfl⟩ | ⟨_,hj⟩
  ·exact hw e he
  ·have:=s.wb x (List.mem_of_getElem? hj) e he; omega
 ·intro x hx
  obtain ⟨j,hj⟩:=List.getElem?_of_mem hx
  rcases eW hj with ⟨rfl,rfl⟩ | ⟨_,hj⟩
  ·exact hl
  ·exact s.len x (List.mem_of_getElem? hj)
end
theorem Us (h:Heap) (b o:Nat):lM Tryz.prog h 100 119 (.pointer (some ⟨b,o,none⟩)) (.pointer none)=some false:=by kernel_rfl
theorem mT {β:Type} {fl:β} (cn:Bool) (b o:Nat) (h:Heap) (κ:Value→Heap→β):au fl Tryz.prog .eql 119 cn false (.pointer (some ⟨b,o,none⟩)) (.pointer none) h κ=κ (.bool false) h:=by simp only[au,Us,bM]
theorem ac7 (h:Heap):lM Tryz.prog h 100 205 (.pointer none) (.pointer none)=some true:=by kernel_rfl
theorem sj {β:Type} {fl:β} (cn:Bool) (h:Heap) (κ:Value→Heap→β):au fl Tryz.prog .eql 205 cn false (.pointer none) (.pointer none) h κ=κ (.bool true) h:=by simp only[au,ac7,bM]
structure tL (Ts:List TB) (bw bp bl:Nat) (h h':Heap):Prop where
 nx:h.nx≤h'.nx
 lo:h'.lo=h.lo
 get:∀c,c<h.nx→(∀b∈Ts,c≠b.bm)→c≠bw→c≠bp→c≠bl→(∀vs,h.bl.get c≠some (aa vs 3 true))→h'.bl.get c=h.bl.get c
 g2:bp<h.nx→∀c,c<h.nx→(∀b∈Ts,c≠b.bm)→c≠bw→c≠bp→c≠bl→¬FB h bp c→h'.bl.get c=h.bl.get c
 mv:bp<h.nx→∀c,c<h.nx→FB h' bp c→FB h bp c
theorem tL.of_le {Ts:List TB} {bw bp bl:Nat} {h h':Heap} (l:Le h h'):tL Ts bw bp bl h h':=⟨l.nx,l.lo,fun c hc _ _ _ _ _=>l.get c hc,fun _ c hc _ _ _ _ _=>l.get c hc,fun hb c _ x=>(FB.congr (l.get bp hb)).1 x⟩
theorem tL.trans {Ts:List TB} {bw bp bl:Nat} {h h' h'':Heap} (a:tL Ts bw bp bl h h') (b:tL Ts bw bp bl h' h''):tL Ts bw bp bl h h'':=
 ⟨Nat.le_trans a.nx b.nx,b.lo.trans a.lo,fun c hc h1 h2 h3 h4 h5=>(b.get c (Nat.lt_of_lt_of_le hc a.nx) h1 h2 h3 h4 (fun vs=>by rw[a.get c hc h1 h2 h3 h4 h5]; exact h5 vs)).trans (a.get c hc h1 h2 h3 h4 h5),
  fun hb c hc h1 h2 h3 h4 h5=>(b.g2 (Nat.lt_of_lt_of_le hb a.nx) c (Nat.lt_of_lt_of_le hc a.nx) h1 h2 h3 h4 fun x=>h5 (a.mv hb c hc x)).trans (a.g2 hb c hc h1 h2 h3 h4 h5),
  fun hb c hc x=>a.mv hb c hc (b.mv (Nat.lt_of_lt_of_le hb a.nx) c (Nat.lt_of_lt_of_le hc a.nx) x)⟩
theorem tL.Sd {Ts:List TB} {b:TB} (hb:b∈Ts) {bw bp bl:Nat} {h h':Heap} (f:pZ b.bm bp bl h h'):tL Ts bw bp bl h h':=⟨f.nx,f.lo,fun c hc h1 _ h3 h4 h5=>f.get c hc (h1 b hb) h3 h4 h5,fun hp c hc h1 _ h3 h4 h5=>f.g2 hp c hc (h1 b hb) h3 h4 h5,f.mv⟩
section
variable {h:Heap} {tb bw bp bl:Nat} {c:fZ} {vb:Value} {aS N:Nat} {Ts:List TB} {W:List IE} {wc:Nat} {F:List Int} {B:List Bool}
theorem tM (s:ep h tb bw bp bl c vb aS Ts W wc F B) (hlo:h.lo≤h.nx) (t r:Int) (κ:KQ) (hk:∀h',Le h h'→κ (.int .i64 (dm t r c.S)) h') :
  CallW Tryz.prog 56 [.pointer (some ⟨tb,0,none⟩),cN t r] h κ:=by
 refine an mixed ?_
 rw[abk]
 simp(disch:=first|omega|simp only[Wd]<;>omega|rfl)only[Wz,cN]
 obtain ⟨hA,aH⟩:∃hA:Heap,hA=⟨h.nx+1,(h.bl.aT (h.nx) (aa [.int .i64 t,.int .i64 r] 28 false)),h.lo⟩:=⟨_,rfl⟩
 have aL:Le h hA:=by subst aH; exact ((Le.refl h).new _)
 have g1:hA.bl.get (h.nx)=some (aa [.int .i64 t,.int .i64 r] 28 false):=by subst aH; exact T.af _ _ _
 have ef:hA.nx=h.nx+1:=by subst aH; rfl
 have ej:hA.lo=h.lo:=by subst aH; rfl
 rw[←aH]
 clear aH
 have sA:=s.le aL
 have gt:=sA.lJ
 simp(disch:=first|omega|simp only[Wd]<;>omega|rfl)only[Wz,mT,IQ,g1,az,gt]
 refine OA t r c.S ?_
 exact hk hA aL
theorem Se {h:Heap} {v:Value} {Ts:List TB} (hs:Sl mR h v Ts) (i:Nat) {b:TB} (hp:Ts[i]? = some b) :
  ∃c o,c<h.nx∧(∀(β:Type) (fl:β) (h':Heap) (κ:Value→Heap→β),aD fl 1 v (.int .i64 (i:Int)) h' κ=κ (.pointer (some ⟨c,o,none⟩)) h')∧
   ∀h',Le h h'→(∀(β:Type) (fl:β) (κ:Value→β),sF fl (h'.bl.get c) o κ=κ (.pointer (some ⟨b.bb,0,none⟩))):=by
 obtain ⟨c,o,h1,h2,h3,hh⟩:=hs.ld Az i hp
 refine ⟨c,o,h1,h2,fun h' l β fl κ=>?_⟩
 rw[l.get c h1]
 exact dR (fl:=fl) hh 0 κ (by show 0<1; omega)
theorem BM (tb:Nat) (h:Heap) (κ:KQ) (hk:κ (.int .i64 5) h):CallW Tryz.prog 293 [.pointer (some ⟨tb,0,none⟩)] h κ:=by
 refine an mixed ?_
 rw[Xh]
 simp(disch:=first|omega|simp only[Wd]<;>omega|rfl)only[Wz,mT]
 exact hk
theorem Jk (s:jC h tb bw bp bl c vb aS N Ts W wc F B) (hlo:h.lo≤h.nx) (id:Int) (κ:KQ)
  (nO:(∀b∈Ts,∀e∈b.M,bV e.Q id=none)→κ (.pointer none) h)
  (dy:∀(k:Nat) b e p,Ts[k]? = some b→e∈b.M→bV e.Q id=some p→κ (.pointer (some ⟨b.bb,0,none⟩)) h) :
  CallW Tryz.prog 291 [.pointer (some ⟨tb,0,none⟩),.int .i64 id] h κ:=by
 refine an mixed ?_
 rw[Xg]
 have gt:=s.is.lJ
 simp(disch:=first|omega|simp only[Wd]<;>omega|rfl)only[Wz,mT,D3,az,gt,ac4 s.is.nQ]
 have ahz:∀(k:Nat) b e p,Ts[k]? = some b→e∈b.M→bV e.Q id=some p→KF W id=some (k:Int)∧∃n:Nat,id=(n:Int)∧B[n]? = some true:=by
  intro k b e p hb he hf
  obtain ⟨hp,hpi⟩:=iW hf
  refine ⟨by rw[←hpi]; exact s.wh k b hb e he p hp,jq.1 (s.ids.mem_iff.1 (List.mem_flatMap.2 ⟨b,List.mem_of_getElem? hb,kN.2 ⟨e,he,p,hp,hpi⟩⟩))⟩
 have none:KF W id=none∨¬(∃n:Nat,id=(n:Int)∧B[n]? = some true)→∀b∈Ts,∀e∈b.M,bV e.Q id=none:=by
  intro hc b hb e he
  obtain ⟨k,hk⟩:=List.getElem?_of_mem hb
  cases hf:bV e.Q id with
  | none=>rfl
  | some p=>
   obtain ⟨h1,h2⟩:=ahz k b e p hk he hf
   rcases hc with hc | hc
   ·rw[h1] at hc; cases hc
   ·exact absurd h2 hc
 cases hl:KF W id with
 | none=>
  simp(disch:=first|omega|simp only[Wd]<;>omega|rfl)only[Wz,Option.isSome_none,Option.getD_none]
  exact nO (none (.inl hl))
 | some v=>
  simp(disch:=first|omega|simp only[Wd]<;>omega|rfl)only[Wz,Option.isSome_some,Option.getD_some,az,gt]
  refine Ul bp bl F B id h _ s.is.aY ?_
  by_cases hb:∃n:Nat,id=(n:Int)∧B[n]? = some true
  ·obtain ⟨n,rfl,hn⟩:=hb
   have eh:(decide ((0:Int)≤(n:Int)) && (B[((n:Int)).toNat]?).getD false)=true:=by
    rw[bg (by omega),Int.toNat_natCast,hn]; rfl
   rw[eh]
   obtain ⟨b,Z9,YB⟩:=List.mem_flatMap.1 (s.ids.mem_iff.2 (jq.2 ⟨n,rfl,hn⟩))
   obtain ⟨e,he,p,hp,hpi⟩:=kN.1 YB
   obtain ⟨k,hk⟩:=List.getElem?_of_mem Z9
   have hv:v=(k:Int):=by
    have:=s.wh k b hk e he p hp
    rw[hpi,hl] at this
    exact Option.some.inj this
   subst hv
   have hf:=J6 ((s.is.bk b Z9).good e he).vq.pair hp
   rw[hpi] at hf
   obtain ⟨cc,oo,_,Qe,l_⟩:=Se s.is.sl k hk
   have l_:=l_ h (Le.refl _)
   simp(disch:=first|omega|simp only[Wd]<;>omega|rfl)only[Wz,az,gt,Qe,l_]
   exact dy k b e p hk he hf
  ·have eh:(decide ((0:Int)≤id) && (B[id.toNat]?).getD false)=false:=by
    by_cases h0:0≤id
    ·have hne:B[id.toNat]?≠some true:=fun e=>hb ⟨id.toNat,by omega,e⟩
     rw[bg h0,Bool.true_and]
     cases hB:B[id.toNat]? with
     | none=>rfl
     | some x=>cases x with
      | false=>rfl
      | true=>exact absurd hB hne
    ·rw[aV h0]; rfl
   rw[eh]
   simp(disch:=first|omega|simp only[Wd]<;>omega|rfl)only[Wz]
   exact nO (none (.inr hb))
end
theorem dJ.frame {h h':Heap} {bp bl:Nat} {F:List Int} {B:List Bool} (p:dJ h bp bl F B) (hn:h.nx≤h'.nx) (hl:h'.lo=h.lo) (hc:∀c vs ty op,c<h.nx→h.bl.get c=some (aa vs ty op)→h'.bl.get c=h.bl.get c):dJ h' bp bl F B:=by
 have pl:=p.lt
 have fl:=p.fr.lt
 obtain ⟨fs,hg,hpt⟩:=p.fr.cell
 refine ⟨⟨by omega,by rw[hl]; exact p.fr.lo,fs,(hc _ _ _ _ fl hg).trans hg,?_⟩,by omega,by rw[hl]; exact p.lo,(hc _ _ _ _ pl p.cell).trans p.cell,p.ok,p.small⟩
 rcases hpt with e | ⟨b,G,e,k1,k2,k3,k4⟩
 ·exact .inl e
 ·exact .inr ⟨b,G,e,by omega,by omega,(hc _ _ _ _ k1 k3).trans k3,k4⟩
theorem aZ.frame {h h':Heap} {bb bm bp bl most clock:Nat} {M:List HE} {F:List Int} {B:List Bool} (s:aZ h bb bm bp bl most M clock F B) (hn:h.nx≤h'.nx) (hl:h'.lo=h.lo) (hc:∀c vs ty op,c<h.nx→h.bl.get c=some (aa vs ty op)→h'.bl.get c=h.bl.get c) (hm:h'.bl.get bm=h.bl.get bm):aZ h' bb bm bp bl most M clock F B:=by
 have sb:=s.Qd
 have sm:=s.vJ
 refine ⟨by omega,by omega,by rw[hl]; exact s.RU,(hc _ _ _ _ sb s.gU).trans s.gU,hm.trans s.fQ,s.ok,fun e he=>?_,s.good,s.aY.frame hn hl hc,s.ne⟩
 have a:=s.aS e he
 have al:=a.lt
 exact ⟨by omega,(hc _ _ _ _ al a.get).trans a.get,a.qv.frame hn fun c vs op h1 hg=>hc c vs _ op h1 hg⟩
section
variable {h:Heap} {tb bw bp bl:Nat} {c:fZ} {vb:Value} {aS N:Nat} {Ts:List TB} {W:List IE} {wc:Nat} {F:List Int} {B:List Bool}
theorem ep.YC (s:ep h tb bw bp bl c vb aS Ts W wc F B) (W':List IE) (yq:Nat):ep ⟨h.nx,h.bl.aT bw (.map (W'.map Ay) yq),h.lo⟩ tb bw bp bl c vb aS Ts W' yq F B:=by
 have gw:=s.nQ
 have hc:∀c vs ty op,c<h.nx→h.bl.get c=some (aa vs ty op)→(h.bl.aT bw (.map (W'.map Ay) yq)).get c=h.bl.get c:=by
  intro c vs ty op _ hg
  refine T.ai _ _ ?_
  rintro rfl
  rw[hg] at gw
  exact bQ gw.symm
 have hm:∀b∈Ts,(h.bl.aT bw (.map (W'.map Ay) yq)).get b.bm=h.bl.get b.bm:=fun b hb=>T.ai _ _ (s.Z8 b hb)
 have k1:=Sl.G5 (h':=⟨h.nx,h.bl.aT bw (.map (W'.map Ay) yq),h.lo⟩) s.sl s.ty (Nat.le_refl _) fun c vs op h1 hg=>hc c vs _ op h1 hg
 exact ⟨s.YA,(hc _ _ _ _ s.YA s.lJ).trans s.lJ,k1.1,k1.2,s.BL,s.low,T.af _ _ _,fun b hb=>(s.bk b hb).frame (Nat.le_refl _) rfl hc (hm b hb),s.E3,s.Z8,s.aY.frame (Nat.le_refl _) rfl hc,s.cS,s.s1,s.hd⟩
theorem tL.YC {W':List IE} {yq:Nat}:tL Ts bw bp bl h ⟨h.nx,h.bl.aT bw (.map (W'.map Ay) yq),h.lo⟩:=
 by
 refine ⟨Nat.le_refl _,rfl,fun c _ _ h2 _ _ _=>T.ai _ _ (fun e=>h2 e.symm),fun _ c _ _ h2 _ _ _=>T.ai _ _ (fun e=>h2 e.symm),fun _ c _ hx=>?_⟩
 by_cases e:bw=bp
 ·subst e
  obtain ⟨n,cap,ls,hx⟩:=hx
  exact absurd ((T.af _ _ _).symm.trans hx) bQ
 ·exact (FB.congr (T.ai _ _ e)).1 hx
theorem ac8 (s:ep h tb bw bp bl c vb aS Ts W wc F B) {t r:Int} (hn:¬dm t r c.S<0):∃(k:Nat) (b:TB),dm t r c.S=(k:Int)∧Ts[k]? = some b:=by
 have hr:=G4 (t:=t) (r:=r) (s:=c.S) (by omega)
 have hS:=s.cS
 refine ⟨(dm t r c.S).toNat,Ts[(dm t r c.S).toNat]'(by omega),by omega,List.getElem?_eq_getElem _⟩
end
theorem BN {Ts:List TB} {k:Nat} {b:TB} (hk:Ts[k]? = some b) (M':List HE) (clock':Nat):(Ts.set k ⟨b.bb,b.bm,M',clock'⟩).map (·.bm)=Ts.map (·.bm):=by
 obtain ⟨hl,rfl⟩:=List.getElem?_eq_some_iff.1 hk
 rw[List.map_set]
 refine List.ext_getElem? fun i=>?_
 rw[List.getElem?_set]
 split
 ·rename_i e; subst e
  rw[if_pos (by simpa using hl),List.getElem?_map,List.getElem?_eq_getElem hl]; rfl
 ·rfl
section
variable {h h':Heap} {tb bw bp bl:Nat} {c:fZ} {vb:Value} {aS N:Nat} {Ts:List TB} {W:List IE} {wc:Nat} {F F':List Int} {B:List Bool}
theorem jC.Ut (s:jC h tb bw bp bl c vb aS N Ts W wc F B) {k:Nat} {b:TB} (hk:Ts[k]? = some b) {M':List HE} {clock':Nat} {e:HE} (he:e∈b.M) {Q1:List R5} {w1:Int} (m:jt h h' b.bb b.bm bp bl aS b.M M' clock' F' B e Q1 w1)
  (hid:Q1.map (·.id)=e.Q.map (·.id)) (hw:w1≤e.w+1):jC h' tb bw bp bl c vb aS (N+1) (Ts.set k ⟨b.bb,b.bm,M',clock'⟩) W wc F' B:=by
 have hb:=List.mem_of_getElem? hk
 have is:=s.is.bk b hb
 have hp:=m.OE is he hid
 have hwe:=s.wb b hb e he
 exact s.step hk m.is m.fr (fun X hX=>(hp.append_right X).trans hX) (fun i hi=>hp.mem_iff.1 hi) (m.sub he) (m.set.wb (s.wb b hb) (by omega)) (m.len is (s.len b hb) he) rfl
theorem jC.left (s:jC h tb bw bp bl c vb aS N Ts W wc F B) {k:Nat} {b:TB} (hk:Ts[k]? = some b) {M':List HE} {clock':Nat} {e:HE} (he:e∈b.M) {p:R5} {n:Nat} (hf:bV e.Q (n:Int)=some p) (B4:B[n]? = some true) (m:jt h h' b.bb b.bm bp bl aS b.M M' clock' F' (B.set n false) e (e.Q.filter fun r=>!b6 (n:Int) r) e.w) :
  jC h' tb bw bp bl c vb aS (N+1) (Ts.set k ⟨b.bb,b.bm,M',clock'⟩) W wc F' (B.set n false):=by
 have hb:=List.mem_of_getElem? hk
 have is:=s.is.bk b hb
 have hp:=m.OF is he hf
 have hwe:=s.wb b hb e he
 refine s.step hk m.is m.fr (fun X hX=>?_) (fun i hi=>hp.mem_iff.2 (List.mem_append.2 (.inl hi))) (m.sub he) (m.set.wb (s.wb b hb) (by omega)) (m.len is (s.len b hb) he) (List.length_set ..)
 have h1:=(hp.append_right X).symm.trans (hX.trans (Kp B4))
 rw[List.append_assoc] at h1
 have h2:=(List.Perm.append_left (fE M') (List.perm_append_comm (l₁:=X) (l₂:=[(n:Int)]))).trans h1
 rw[←List.append_assoc] at h2
 exact (List.perm_append_right_iff _).1 h2
theorem OI (s:jC h tb bw bp bl c vb aS N Ts W wc F B) (hlo:h.lo≤h.nx) (id:Int) (κ:KQ)
  (Lv:(∀b∈Ts,∀e∈b.M,bV e.Q id=none)→κ (.tuple ⟨[.slice none 0 0,.int .i64 5]⟩) h)
  (nO:∀(k:Nat) (b:TB) h' M' clock' F' v' e p (n:Nat),Ts[k]? = some b→e∈b.M→bV e.Q id=some p→id=(n:Int)→B[n]? = some true→F'.Perm (F++[(n:Int)])→
   jt h h' b.bb b.bm bp bl aS b.M M' clock' F' (B.set n false) e (e.Q.filter fun r=>!b6 id r) e.w→zB h h' v' (dD (ia (e.Q.filter fun r=>!b6 id r)+1) (e.Q.filter fun r=>!b6 id r)).2→jC h' tb bw bp bl c vb aS (N+1) (Ts.set k ⟨b.bb,b.bm,M',clock'⟩) W wc F' (B.set n false)→κ (.tuple ⟨[v',.int .i64 0]⟩) h') :
  CallW Tryz.prog 352 [.pointer (some ⟨tb,0,none⟩),.int .i64 id] h κ:=by
 refine an mixed ?_
 rw[Xz]
 refine Jk s hlo id _ ?_ ?_
 ·intro hno
  simp(disch:=first|omega|simp only[Wd]<;>omega|rfl)only[Wz,sj]
  refine BM tb h _ ?_
  exact Lv hno
 ·intro k b e p hk he hf
  have hb:=List.mem_of_getElem? hk
  simp(disch:=first|omega|simp only[Wd]<;>omega|rfl)only[Wz,gV]
  refine Kr (s.is.bk b hb) hlo (s.OG hk) id _ ?_ ?_
  ·intro h1 hno _
   rw[hno e he] at hf; cases hf
  ·intro h1 M' clock' F' v' e1 p1 n uU KH hid B4 hpF mv ho
   simp(disch:=first|omega|simp only[Wd]<;>omega|rfl)only[Wz]
   have mv':=mv
   have hf':=KH
   rw[hid] at hf' mv'
   exact nO k b h1 M' clock' F' v' e1 p1 n hk uU KH hid B4 hpF mv ho (s.left hk uU hf' B4 mv')
theorem E4 {β:Type} {fl:β} (cn:Bool) (b o:Nat) (h:Heap) (κ:Value→Heap→β):au fl Tryz.prog .neq 119 cn false (.pointer (some ⟨b,o,none⟩)) (.pointer none) h κ=κ (.bool true) h:=by simp only[au,Us,bM,Bool.not_false]
end
theorem dJ.yu {h h':Heap} {bp bl:Nat} {F:List Int} {B:List Bool} (p:dJ h bp bl F B) (hn:h.nx≤h'.nx) (hl:h'.lo=h.lo) (hc:∀c vs ty op,c<h.nx→ty≠205→ty≠194→h.bl.get c=some (aa vs ty op)→h'.bl.get c=h.bl.get c):dJ h' bp bl F B:=by
 have pl:=p.lt
 have fl:=p.fr.lt
 obtain ⟨fs,hg,hpt⟩:=p.fr.cell
 refine ⟨⟨by omega,by rw[hl]; exact p.fr.lo,fs,(hc _ _ _ _ fl (by decide) (by decide) hg).trans hg,?_⟩,by omega,by rw[hl]; exact p.lo,(hc _ _ _ _ pl (by decide) (by decide) p.cell).trans p.cell,p.ok,p.small⟩
 rcases hpt with e | ⟨b,G,e,k1,k2,k3,k4⟩
 ·exact .inl e
 ·exact .inr ⟨b,G,e,by omega,by omega,(hc _ _ _ _ k1 (by decide) (by decide) k3).trans k3,k4⟩
theorem aZ.yu {h h':Heap} {bb bm bp bl most clock:Nat} {M:List HE} {F:List Int} {B:List Bool} (s:aZ h bb bm bp bl most M clock F B) (hn:h.nx≤h'.nx) (hl:h'.lo=h.lo) (hc:∀c vs ty op,c<h.nx→ty≠205→ty≠194→h.bl.get c=some (aa vs ty op)→h'.bl.get c=h.bl.get c) (hm:h'.bl.get bm=h.bl.get bm):aZ h' bb bm bp bl most M clock F B:=by
 have sb:=s.Qd
 have sm:=s.vJ
 refine ⟨by omega,by omega,by rw[hl]; exact s.RU,(hc _ _ _ _ sb (by decide) (by decide) s.gU).trans s.gU,hm.trans s.fQ,s.ok,fun e he=>?_,s.good,s.aY.yu hn hl hc,s.ne⟩
 have a:=s.aS e he
 have al:=a.lt
 exact ⟨by omega,(hc _ _ _ _ al (by decide) (by decide) a.get).trans a.get,a.qv.frame hn fun c vs op h1 hg=>hc c vs _ op h1 (by decide) (by decide) hg⟩
theorem E5 (H:Int) (bp:Nat) (h:Heap) (κ:KQ) (hh:¬(1≤H∧H≤64)) (hk:κ (.tuple ⟨[.pointer none,.int .i64 2]⟩) h):CallW Tryz.prog 153 [.int .i64 H,.pointer (some ⟨bp,0,none⟩)] h κ:=by
 refine an mixed ?_
 rw[No]
 by_cases h1:H<1
 ·simp(disch:=first|omega|simp only[Wd]<;>omega|rfl)only[Wz,bg h1]
  exact hk
 ·simp(disch:=first|omega|simp only[Wd]<;>omega|rfl)only[Wz,aV h1,eY (show (64:Int)<H by omega)]
  exact hk
theorem KI (R:Int) (h:Heap) (κ:KQ) (hh:128<R) (hk:κ (.tuple ⟨[.pointer none,.int .i64 2]⟩) h):CallW Tryz.prog 152 [.int .i64 R] h κ:=by
 refine an mixed ?_
 rw[Nn]
 simp(disch:=first|omega|simp only[Wd]<;>omega|rfl)only[Wz,cW (show (0:Int)≤R by omega),eY hh]
 exact hk
theorem Sf (S H R P:Int) (bp:Addr) (b:Nat) (κ:List Value→Prop):br False [(6,1)] [.map (some b)] [.int .i64 S,.int .i64 H,.int .i64 R,.int .i64 P,.pointer (some bp),.slice none 0 0,.map none] κ=κ [.int .i64 S,.int .i64 H,.int .i64 R,.int .i64 P,.pointer (some bp),.slice none 0 0,.map (some b)]:=by kernel_rfl
theorem E6 (n:Nat):jO (List.replicate n false)=[]:=by
 rw[List.eq_nil_iff_forall_not_mem]
 intro x hx
 obtain ⟨k,_,hn⟩:=jq.1 hx
 rw[List.getElem?_replicate] at hn
 split at hn<;>simp at hn
def qm (c:fZ):Value:=.agg ⟨[.int .i64 c.S,.int .i64 c.H,.int .i64 c.R,.int .i64 c.P]⟩
def iX (c:fZ):Prop:=1≤c.S∧c.S≤16∧0≤c.P∧c.P≤8∧1≤c.R∧c.R≤128∧1≤c.H∧c.H≤64
theorem Sg (c:fZ) (h:Heap) (κ:KQ) (hlo:h.lo≤h.nx)
  (Sh:∀h' (e:Int),e=2→¬iX c→Le h h'→κ (.tuple ⟨[.pointer none,.int .i64 e]⟩) h')
  (Um:∀h' tb bw bp bl vb aS Ts F,iX c→jC h' tb bw bp bl c vb aS 0 Ts [] 0 F (List.replicate c.R.toNat false)→(∀b∈Ts,h.nx≤b.bm)→h.nx≤bw→h.nx≤bp→h.nx≤bl→Le h h'→(∀x,FB h' bp x→h.nx≤x)→κ (.tuple ⟨[.pointer (some ⟨tb,0,none⟩),.int .i64 0]⟩) h') :
  CallW Tryz.prog 98 [qm c] h κ:=by
 refine an mixed ?_
 rw[abA]
 simp(disch:=first|omega|simp only[Wd]<;>omega|rfl)only[Wz,qm]
 obtain ⟨hA,aH⟩:∃hA:Heap,hA=⟨h.nx+1,(h.bl.aT (h.nx) (aa [.int .i64 c.S,.int .i64 c.H,.int .i64 c.R,.int .i64 c.P] 115 false)),h.lo⟩:=⟨_,rfl⟩
 have aL:Le h hA:=by subst aH; exact ((Le.refl h).new _)
 have g1:hA.bl.get (h.nx)=some (aa [.int .i64 c.S,.int .i64 c.H,.int .i64 c.R,.int .i64 c.P] 115 false):=by subst aH; exact T.af _ _ _
 have ef:hA.nx=h.nx+1:=by subst aH; rfl
 have ej:hA.lo=h.lo:=by subst aH; rfl
 rw[←aH]
 clear aH
 by_cases Z_:c.S<1
 ·simp(disch:=first|omega|simp only[Wd]<;>omega|rfl)only[Wz,bg Z_]
  exact Sh _ 2 rfl (by unfold iX; omega) aL
 by_cases hS2:16<c.S
 ·simp(disch:=first|omega|simp only[Wd]<;>omega|rfl)only[Wz,aV Z_,g1,bg hS2]
  exact Sh _ 2 rfl (by unfold iX; omega) aL
 by_cases hP1:c.P<0
 ·simp(disch:=first|omega|simp only[Wd]<;>omega|rfl)only[Wz,aV Z_,g1,aV hS2,bg hP1]
  exact Sh _ 2 rfl (by unfold iX; omega) aL
 by_cases hP2:8<c.P
 ·simp(disch:=first|omega|simp only[Wd]<;>omega|rfl)only[Wz,aV Z_,g1,aV hS2,aV hP1,bg hP2]
  exact Sh _ 2 rfl (by unfold iX; omega) aL
 by_cases Qg:c.R<1
 ·simp(disch:=first|omega|simp only[Wd]<;>omega|rfl)only[Wz,aV Z_,g1,aV hS2,aV hP1,aV hP2,bg Qg]
  exact Sh _ 2 rfl (by unfold iX; omega) aL
 simp(disch:=first|omega|simp only[Wd]<;>omega|rfl)only[Wz,aV Z_,g1,aV hS2,aV hP1,aV hP2,aV Qg,I8]
 by_cases Uu:128<c.R
 ·refine KI c.R hA _ Uu ?_
  simp(disch:=first|omega|simp only[Wd]<;>omega|rfl)only[Wz]
  exact Sh _ 2 rfl (by unfold iX; omega) aL
 obtain ⟨R,eR⟩:∃R:Nat,c.R=(R:Int):=⟨c.R.toNat,by omega⟩
 rw[eR]
 refine Km R hA _ (by omega) (by omega) ?_
 intro bp bl h2 F p hne h2p h2l hF zC ahC
 have n2:=zC.nx
 have l2:=zC.lo
 have amx:=p.fr.lt
 have amy:=p.lt
 have g12:=(zC.get h.nx (by omega)).trans g1
 rw[eR] at g12
 simp(disch:=first|omega|simp only[Wd]<;>omega|rfl)only[Wz,I7,g12,Sf,iB]
 obtain ⟨hB,dA⟩:∃hB:Heap,hB=⟨h2.nx+1+1,((h2.bl.aT (h2.nx) (.map [] 0)).aT (h2.nx+1) (aa [.int .i64 c.S,.int .i64 c.H,.int .i64 (R:Int),.int .i64 c.P,.pointer (some ⟨bp,0,none⟩),.slice none 0 0,.map (some h2.nx)] 194 false)),h2.lo⟩:=⟨_,rfl⟩
 have cG:Le h2 hB:=by subst dA; exact (((Le.refl h2).new _).new _)
 have gw:hB.bl.get (h2.nx)=some (.map [] 0):=by subst dA; exact (T.ai _ _ (by omega)).trans (T.af _ _ _)
 have gt:hB.bl.get (h2.nx+1)=some (aa [.int .i64 c.S,.int .i64 c.H,.int .i64 (R:Int),.int .i64 c.P,.pointer (some ⟨bp,0,none⟩),.slice none 0 0,.map (some h2.nx)] 194 false):=by subst dA; exact T.af _ _ _
 have Kj:hB.nx=h2.nx+1+1:=by subst dA; rfl
 have Kk:hB.lo=h2.lo:=by subst dA; rfl
 rw[←dA]
 clear dA
 have vH:=cG.nx
 have vI:=cG.lo
 have g12:=(cG.get _ (by omega)).trans g12
 by_cases hH:1≤c.H∧c.H≤64
 case neg=>
  refine ⟨fun n l h1=>slot l 26=.int .i64 0∧HQ hB h1,⟨0,rfl,rfl⟩,?_⟩
  rintro n l h1 ⟨s1,hq⟩
  cases (show hB=h1 from hq)
  simp(disch:=first|omega|simp only[Wd]<;>omega|rfl)only[Wz,s1,eY (show (0:Int)<c.S by omega),Bt,g12]
  refine E5 c.H bp hB _ hH ?_
  simp(disch:=first|omega|simp only[Wd]<;>omega|rfl)only[Wz]
  exact Sh _ 2 rfl (by unfold iX; omega) ((aL.trans zC).trans cG)
 obtain ⟨aS,eH⟩:∃n:Nat,c.H=(n:Int):=⟨c.H.toNat,by omega⟩
 obtain ⟨S,eS⟩:∃n:Nat,c.S=(n:Int):=⟨c.S.toNat,by omega⟩
 refine ⟨fun n l h1=>∃(i:Nat) (Ts:List TB) (v:Value),slot l 26=.int .i64 (i:Int)∧n=S-i∧i≤S∧Ts.length=i∧h1.bl.get (h2.nx+1)=some (aa [.int .i64 c.S,.int .i64 c.H,.int .i64 (R:Int),.int .i64 c.P,.pointer (some ⟨bp,0,none⟩),v,.map (some h2.nx)] 194 false)∧
   h1.bl.get h2.nx=some (.map [] 0)∧gL mR h2 205 h1 v Ts∧dJ h1 bp bl F (List.replicate R false)∧(∀b∈Ts,aZ h1 b.bb b.bm bp bl aS [] 0 F (List.replicate R false)∧b.M=[]∧b.clock=0∧hB.nx≤b.bm)∧Ts.Pairwise (fun a b=>a.bm≠b.bm)∧Le h2 h1∧hB.nx≤h1.nx,
  ⟨_,0,[],_,rfl,rfl,by omega,rfl,gt,gw,.inl ⟨rfl,.inl rfl⟩,p.le cG,fun b hb=>(nomatch hb),List.Pairwise.nil,cG,Nat.le_refl _⟩,?_⟩
 rintro n l h1 ⟨i,Ts,v,s1,rfl,hi,hTl,gt1,Uv,ho,p1,hbk,hds,bF,nB⟩
 have n1:=bF.nx
 have l1:=bF.lo
 by_cases hlt:i<S
 ·have ahD:=(bF.get h.nx (by omega)).trans ((zC.get h.nx (by omega)).trans g1)
  simp(disch:=first|omega|simp only[Wd]<;>omega|rfl)only[Wz,s1,eY (show (i:Int)<c.S by omega),Bt,ahD,eH]
  refine EY aS bp h1 _ (by omega) (by omega) ?_
  intro h3 cr nx3 gm3 Vm
  have n3:=cr.nx
  have l3:=cr.lo
  have gt3:=(cr.get _ (by omega)).trans gt1
  obtain ⟨vx,vc,ev,_⟩:=(show Sl mR h1 v Ts from ho.sl)
  simp(disch:=first|omega|simp only[Wd]<;>omega|rfl)only[Wz,I6,az,gt3]
  obtain ⟨h4,e4⟩:∃h4:Heap,h4=⟨h3.nx+1,h3.bl.aT h3.nx (aa [.pointer (some ⟨h1.nx+1,0,none⟩)] 205 false),h3.lo⟩:=⟨_,rfl⟩
  have jr:Le h3 h4:=by rw[e4]; exact (Le.refl h3).new _
  have g4:h4.bl.get h3.nx=some (aa ([(⟨h1.nx+1,h1.nx,[],0⟩:TB)].flatMap mR) 205 false):=by rw[e4]; exact T.af _ _ _
  have nx4:h4.nx=h3.nx+1:=by rw[e4]
  have l4:h4.lo=h3.lo:=by rw[e4]
  try rw[←e4]
  clear e4
  have OJ:=cr.trans jr
  have gt4:=(jr.get _ (by omega)).trans gt3
  refine iT (enc:=mR) (a:=h2) (L:=Ts) (M:=[(⟨h1.nx+1,h1.nx,[],0⟩:TB)]) Az KG (by decide) (by decide) (ho.le OJ) (Sl.new (by omega) g4 _) (bF.trans OJ) (by simp; omega) (by omega) _ ?_
  intro v5 h5 rX jB nx5 amA l5 ym
  have gt5:=(ym (h2.nx+1) (by omega) (by rw[gt4]; exact bh)).trans gt4
  obtain ⟨vx5,vc5,ev5,_⟩:=(show Sl mR h5 v5 _ from rX.sl)
  subst ev5
  simp(disch:=first|omega|simp only[Wd]<;>omega|rfl)only[Wz,az,gt5]
  have Kq:∀c vs ty op,c<h4.nx→ty≠205→h4.bl.get c=some (aa vs ty op)→h5.bl.get c=h4.bl.get c:=fun c vs ty op hc hty hg=>ym c hc (by rw[hg]; exact bq hty)
  have fm5:∀c es cl,c<h4.nx→h4.bl.get c=some (.map es cl)→h5.bl.get c=h4.bl.get c:=fun c es cl hc hg=>ym c hc (by rw[hg]; exact bQ)
  obtain ⟨h6,e6⟩:∃h6:Heap,h6=⟨h5.nx,h5.bl.aT (h2.nx+1) (aa [.int .i64 c.S,.int .i64 c.H,.int .i64 (R:Int),.int .i64 c.P,.pointer (some ⟨bp,0,none⟩),.slice vx5 (Ts++[(⟨h1.nx+1,h1.nx,[],0⟩:TB)]).length vc5,.map (some h2.nx)] 194 false),h5.lo⟩:=⟨_,rfl⟩
  have gt6:h6.bl.get (h2.nx+1)=some (aa [.int .i64 c.S,.int .i64 c.H,.int .i64 (R:Int),.int .i64 c.P,.pointer (some ⟨bp,0,none⟩),.slice vx5 (Ts++[(⟨h1.nx+1,h1.nx,[],0⟩:TB)]).length vc5,.map (some h2.nx)] 194 false):=by rw[e6]; exact T.af _ _ _
  have ac_:∀d,d≠h2.nx+1→h6.bl.get d=h5.bl.get d:=fun d hd=>by rw[e6]; exact T.ai _ _ (fun e=>hd e.symm)
  have Ui:gL mR h2 205 h6 (.slice vx5 (Ts++[(⟨h1.nx+1,h1.nx,[],0⟩:TB)]).length vc5) (Ts++[(⟨h1.nx+1,h1.nx,[],0⟩:TB)]):=by rw[e6]; exact gL.put rX (by rw[gt5]; exact bh) _
  have BF:Le h2 h6:=by rw[e6]; exact jB.set (b:=h2.nx+1) (by omega) _
  have nx6:h6.nx=h5.nx:=by rw[e6]
  have l6:h6.lo=h5.lo:=by rw[e6]
  rw[←e6]
  clear e6
  have hc6:∀d vs ty op,d<h4.nx→ty≠205→ty≠194→h4.bl.get d=some (aa vs ty op)→h6.bl.get d=h4.bl.get d:=by
   intro d vs ty op hd h1 h2' hg
   refine (ac_ d ?_).trans (Kq d vs ty op hd h1 hg)
   rintro rfl
   rw[hg] at gt4
   exact bq h2' gt4
  have hm6:∀d es cl,d<h4.nx→h4.bl.get d=some (.map es cl)→h6.bl.get d=h4.bl.get d:=by
   intro d es cl hd hg
   refine (ac_ d ?_).trans (fm5 d es cl hd hg)
   rintro rfl
   rw[hg] at gt4
   exact bQ gt4
  have gw4:=(OJ.get h2.nx (by omega)).trans Uv
  have p4:=p1.le OJ
  have p6:=p4.yu (by omega) (by omega) hc6
  have tH:aZ h4 (h1.nx+1) h1.nx bp bl aS [] 0 F (List.replicate R false):=⟨by omega,by omega,by omega,(jr.get _ (by omega)).trans Vm,(jr.get _ (by omega)).trans gm3,⟨List.Pairwise.nil,List.Pairwise.nil,fun e he=>(nomatch he)⟩,fun e he=>(nomatch he),fun e he=>(nomatch he),p4,hne⟩
  have CZ:∀b∈Ts,b.bm<h1.nx:=fun b hb=>(hbk b hb).1.vJ
  simp(disch:=first|omega|simp only[Wd]<;>omega|rfl)only[Wz,s1]
  refine ⟨_,by omega,i+1,Ts++[⟨h1.nx+1,h1.nx,[],0⟩],.slice vx5 (Ts++[(⟨h1.nx+1,h1.nx,[],0⟩:TB)]).length vc5,rfl,rfl,by omega,by simp; omega,by rw[←eH]; exact gt6,(hm6 _ _ _ (by omega) gw4).trans gw4,Ui,p6,?_,?_,BF,by omega⟩
  ·intro b hb
   rcases List.mem_append.1 hb with hb | hb
   ·obtain ⟨k1,k2,k3,k4⟩:=hbk b hb
    have k5:=k1.le OJ
    exact ⟨k5.yu (by omega) (by omega) hc6 (hm6 _ _ _ k5.vJ k5.fQ),k2,k3,k4⟩
   ·rw[List.mem_singleton] at hb; subst hb
    exact ⟨tH.yu (by omega) (by omega) hc6 (hm6 _ _ _ tH.vJ tH.fQ),rfl,rfl,nB⟩
  ·exact rO hds fun q hq=>Nat.ne_of_lt (CZ q hq)
 ·have hiS:i=S:=by omega
  simp(disch:=first|omega|simp only[Wd]<;>omega|rfl)only[Wz,s1,cW (show c.S≤(i:Int) by omega)]
  have hnil:∀b∈Ts,b.M=[]:=fun b hb=>(hbk b hb).2.1
  have hM:∀(k:Nat) (b:TB),Ts[k]? = some b→b.M=[]:=fun k b hb=>hnil b (List.mem_of_getElem? hb)
  have zD:(Ts.flatMap fun b=>fE b.M)=[]:=by
   rw[List.flatMap_eq_nil_iff]
   intro b hb
   rw[hnil b hb]; rfl
  have eRn:c.R.toNat=R:=by omega
  refine Um h1 (h2.nx+1) h2.nx bp bl v aS Ts F (by unfold iX; omega) ⟨⟨by omega,by rw[eR]; exact gt1,ho.sl,uz.own ho,by omega,by omega,Uv,fun b hb=>?_,hds,fun b hb=>?_,by rw[eRn]; exact p1,by omega,by omega,by omega⟩,?_,?_,?_,?_,?_,?_,by omega⟩ (fun b hb=>?_) (by omega) (by omega) (by omega) ?_ ?_
  ·obtain ⟨k1,k2,k3,k4⟩:=hbk b hb
   rw[k2,k3,eRn]; exact k1
  ·have:=(hbk b hb).2.2.2; omega
  ·rw[zD,E6]
  ·intro k b hk e he; rw[hM k b hk] at he; nomatch he
  ·intro k b hk e he; rw[hM k b hk] at he; nomatch he
  ·intro b hb e he; rw[hnil b hb] at he; nomatch he
  ·intro b hb; rw[hnil b hb]; exact Nat.zero_le _
  ·rw[List.length_replicate]; omega
  ·have:=(hbk b hb).2.2.2; omega
  ·exact aL.trans (zC.trans bF)
  ·intro x hx
   have:=ahC x ((FB.congr (bF.get bp p.fr.lt)).1 hx)
   omega
structure HC where
 t:Int
 r:Int
 a:Option Addr
 n:Nat
 c:Nat
 w:Int
instance:Inhabited HC:=⟨⟨0,0,none,0,0,0⟩⟩
def yw (x:HC):List Value:=[.int .i64 x.t,.int .i64 x.r,.slice x.a x.n x.c,.int .i64 x.w]
def cfH (x y:HC):Int:=Qf (x.t,x.r) (y.t,y.r)
theorem ahG:Go.Sort.SWO (ltOf cfH) where
 irrefl x:=R8.irrefl (x.t,x.r)
 trans x y z h1 h2:=R8.trans (x.t,x.r) (y.t,y.r) (z.t,z.r) h1 h2
 ntrans x y z h1 h2:=R8.ntrans (x.t,x.r) (y.t,y.r) (z.t,z.r) h1 h2
theorem G6 (t r t' r':Int) (W:World):Calls Tryz.prog 96 #[.agg #[.int .i64 t,.int .i64 r],.agg #[.int .i64 t',.int .i64 r']] W fun e w'=>e=.returned (.int .i64 (mP t r t' r'))∧∃q os',w'=Go.Sort.grow (W.drewN q) os':=
 qR (args:=[cN t r,cN t' r']) (args':=[cN t r,cN t' r']) (jw t r t' r' rfl) (.cons (VR.qu (.cons (.int _ _) (.cons (.int _ _) .nil))) (.cons (VR.qu (.cons (.int _ _) (.cons (.int _ _) .nil))) .nil)) rfl W
theorem OK (x y:HC) (W:World):Calls Tryz.prog 111 #[.agg #[.int .i64 x.t,.int .i64 x.r,.slice x.a x.n x.c,.int .i64 x.w],.agg #[.int .i64 y.t,.int .i64 y.r,.slice y.a y.n y.c,.int .i64 y.w]] W fun e w'=>e=.returned (.int .i64 (cfH x y))∧∃q os',w'=Go.Sort.grow (W.drewN q) os':=by
 have ada:=fun W'=>G6 x.t x.r y.t y.r W'
 show Calls _ _ _ _ fun e w'=>e=.returned (.int .i64 (mP x.t x.r y.t y.r))∧_
 generalize mP x.t x.r y.t y.r=v at ada ⊢
 generalize x.t=xt,x.r=xr,y.t=yt,y.r=yr at *
 go_enter Tryz.func111,Tryz.ntmps111
 go_wp2_with (go_at_call 96; refine (ada _).mono ?_; rintro e w' ⟨rfl,q,os',rfl⟩)
 go_ret
 refine ⟨rfl,?_⟩
 rw[Go.Sort.alloc_eq_grow,Go.Sort.alloc_eq_grow,Go.Sort.grow_grow]
 exact ⟨q,_,(show Go.Sort.grow (Go.Sort.grow (W.drewN q) _) os'=_ from Go.Sort.grow_grow _ _ _)⟩
theorem OL (blk size:Nat) (w:World):Go.Proofs.CmpLays Tryz.prog 111 #[] yw 4 cfH blk 0 size w:=by
 intro m os dk _ x y
 exact OK x y _
theorem uJ:∀args w,(callFunc 110 args).run Tryz.prog w=.ok (.enter 110 args) w:=enters_of Tryz.func110 (by kernel_rfl) rfl
theorem BO (blk cap:Nat) (d:Array HC) (w:World) (hH:Go.Sort.HoldsK yw 4 w blk 0 d) (hblk:blk<w.heap.size) (hsz:d.size<4611686018427387904) :
  Calls Tryz.prog 110 #[.slice (some ⟨blk,0,none⟩) d.size cap,.func (.func 111) #[] #[]] w fun e w'=>e=.returned (.tuple #[])∧∃d' n os,Go.Sort.PermIn 0 d.size d d'∧Go.Sort.SortedIn (fun x y=>ltOf Qf (x.t,x.r) (y.t,y.r)) 0 d.size d'∧w'=Go.Proofs.sortWorldK yw 4 w blk 0 n d' os:=by
 have eg:∀args w,(callFunc 111 args).run Tryz.prog w=.ok (.enter 111 args) w:=enters_of Tryz.func111 (by kernel_rfl) rfl
 exact Go.Proofs.AnyQ.slices_SortFunc Tryz.EU 4 Tryz.isAgg55 Tryz.sizeOf55 yw (fun _=>rfl) (fun x v hv=>by simp[yw] at hv; rcases hv with rfl | rfl | rfl | rfl<;>rfl) cfH ahG 111 #[] blk 0 cap d w eg (OL blk d.size w) hH hblk hsz
theorem zF (p:Option Addr) (cap:Nat) (fv:Value) (w:World):Calls Tryz.prog 110 #[.slice p 0 cap,fv] w fun e w'=>e=.returned (.tuple #[])∧w'=w:=Go.Proofs.AnyF.slices_SortFunc_none Tryz.EU p cap fv w
theorem OM (q:Value):∃a n c,Yt q=.slice a n c:=by
 unfold Yt
 split
 ·exact ⟨_,_,_,rfl⟩
 ·exact ⟨_,_,_,rfl⟩
theorem VR.toSlice {φ:dG} {a:Option Addr} {n c:Nat} {v:Value} (h:VR φ (.slice a n c) v):∃a' n' c',v=.slice a' n' c':=by
 cases h<;>exact ⟨_,_,_,rfl⟩
theorem ahH (φ:dG) (x:HE) (cs:List Value) (h:F2 (VR φ) (p7 x) cs):∃y:HC,cs=yw y∧(x.t,x.r)=(y.t,y.r):=by
 obtain ⟨a,n,c,e⟩:=OM x.q
 unfold p7 at h
 rw[e] at h
 cases h with | cons h1 h=>
 cases h with | cons h2 h=>
 cases h with | cons h3 h=>
 cases h with | cons h4 h=>
 cases h
 cases h1; cases h2; cases h4
 obtain ⟨a',n',c',rfl⟩:=VR.toSlice h3
 exact ⟨⟨x.t,x.r,a',n',c',x.w⟩,rfl,rfl⟩
theorem Si (a h:Heap) (K:List HE) (v:Value) (κ:KQ) (ho:Ow a h v K) (hle:Le a h) (hl:K.length≤1000000)
  (hk:∀(D:List HE) h',D.Perm K→D.Pairwise (fun x y=>¬u7 (y.t,y.r) (x.t,x.r))→Ow a h' v D→Le a h'→(h'.nx=h.nx∧∀c,c<h.nx→h.bl.get c≠some (aa (K.flatMap p7) 55 true)→h'.bl.get c=h.bl.get c)→κ (.tuple ⟨[]⟩) h'):CallW Tryz.prog 110 [v,.func (.func 111) #[] #[]] h κ:=by
 rcases ho with ⟨rfl,hv⟩ | ⟨b,hv,h1,h2,h3,h4⟩
 ·exact Aw uJ zF hv (hk [] h (List.Perm.refl _) List.Pairwise.nil (.inl ⟨rfl,hv⟩) hle ⟨rfl,fun _ _ _=>rfl⟩)
 ·cases hv
  refine BI (by decide) (enc:=yw) (cE:=p7) (fun _=>rfl) r_ (kA:=fun x=>(x.t,x.r)) (kC:=fun x=>(x.t,x.r)) (lt:=fun x y=>ltOf Qf x y) ahH uJ BO h4 h3 hl ?_
  intro D hp hs
  refine hk D _ hp (hs.imp fun {x y} h=>Jh.1 h) (.inr ⟨b,by rw[hp.length_eq],h1,h2,h3,T.af _ _ _⟩) ⟨hle.nx,hle.lo,fun c hc=>?_⟩ ⟨rfl,fun c hc hne=>?_⟩
  ·exact (T.ai _ _ (by omega)).trans (hle.get c hc)
  ·refine T.ai _ _ ?_
   rintro rfl
   exact hne h4
structure adb (h:Heap) (Ts:List TB) (v:Value) (K:List HE):Prop where
 perm:(K.map dS).Perm (Ts.flatMap fun b=>b.M.map dS)
 srt:(K.map dS).Pairwise u7
 each:∀k∈K,(∃b∈Ts,∃e∈b.M,EX k e)∧QV h k.q k.Q
 sl:Sl p7 h v K
 ty:uz 55 h v
theorem tL.keep {h h':Heap} {tb bw bp bl:Nat} {c:fZ} {vb:Value} {aS:Nat} {Ts:List TB} {W:List IE} {wc:Nat} {F:List Int} {B:List Bool} (s:ep h tb bw bp bl c vb aS Ts W wc F B) (f:tL Ts bw bp bl h h') {d:Nat} {vs:List Value} {ty:TypeId} {op:Bool} (hd:d<h.nx) (hg:h.bl.get d=some (aa vs ty op)) (h1:ty≠286) (h2:ty≠4) (h3:ty≠3):h'.bl.get d=h.bl.get d:=by
 obtain ⟨fs,yd,hpt⟩:=s.aY.fr.cell
 have gl:=s.aY.cell
 have gw:=s.nQ
 refine f.get d hd (fun b hb=>?_) (by rintro rfl; rw[hg] at gw; exact bQ gw.symm) (by rintro rfl; rw[hg] at yd; exact bq h1 yd) (by rintro rfl; rw[hg] at gl; exact bq h2 gl) fun ws=>by rw[hg]; exact bq h3
 rintro rfl
 have gm:=(s.bk b hb).fQ
 rw[hg] at gm
 exact bQ gm.symm
section
variable {h:Heap} {tb bw bp bl:Nat} {c:fZ} {vb:Value} {aS N:Nat} {Ts:List TB} {W:List IE} {wc:Nat} {F:List Int} {B:List Bool}
theorem jC.nodup (s:jC h tb bw bp bl c vb aS N Ts W wc F B):(Ts.flatMap fun b=>b.M.map dS).Nodup:=by
 rw[List.Nodup,List.pairwise_flatMap]
 constructor
 ·intro b hb
  rw[List.pairwise_map]
  exact (s.is.bk b hb).ok.nm.imp fun hn e=>hn ⟨congrArg Prod.fst e,congrArg Prod.snd e⟩
 ·rw[dU]
  intro i j p q hij hp hq x hx y hy hxy
  obtain ⟨e,he,rfl⟩:=List.mem_map.1 hx
  obtain ⟨f,hf,rfl⟩:=List.mem_map.1 hy
  have h1:=s.nm i p hp e he
  have h2:=s.nm j q hq f hf
  have e1:e.t=f.t:=congrArg Prod.fst hxy
  have e2:e.r=f.r:=congrArg Prod.snd hxy
  rw[e1,e2,h2] at h1
  omega
theorem AB {α β:Type} (f:α→List β) {L:List α} {i:Nat} {b:α} (h:L[i]? = some b):(L.take (i+1)).flatMap f=(L.take i).flatMap f++f b:=by
 rw[List.take_add_one,h,List.flatMap_append]
 simp
theorem Jl (s:jC h tb bw bp bl c vb aS N Ts W wc F B) (hlo:h.lo≤h.nx) (κ:KQ) (hk:∀v h' K,adb h' Ts v K→Le h h'→κ v h') :
  CallW Tryz.prog 62 [.pointer (some ⟨tb,0,none⟩)] h κ:=by
 refine an mixed ?_
 rw[abm]
 have gt:=s.is.lJ
 have hs1:=s.is.s1
 obtain ⟨vx,vc,ev,_⟩:=(show Sl mR h vb Ts from s.is.sl)
 have ade:∀(β:Type) (fl:β) (h':Heap) (κ:Value→Heap→β),bB fl vb h' κ=κ (.int .i64 (Ts.length:Int)) h':=fun β fl h' κ=>by rw[ev]; exact eV _ _ _ _ _
 simp(disch:=first|omega|simp only[Wd]<;>omega|rfl)only[Wz,mT,az,gt,ade]
 have amG:=s.is.hd
 refine ⟨fun n l h1=>∃(i:Nat) (K:List HE),slot l 10=.int .i64 (i:Int)∧n=Ts.length-i∧i≤Ts.length∧(K.map dS).Perm ((Ts.take i).flatMap fun b=>b.M.map dS)∧(∀k∈K,(∃b∈Ts,∃e∈b.M,EX k e)∧QV h1 k.q k.Q)∧K.length≤64*i∧Ow h h1 (slot l 8) K∧Le h h1,
  ⟨_,0,[],rfl,rfl,by omega,by simp,fun k hk=>(nomatch hk),by simp,.inl ⟨rfl,.inl rfl⟩,Le.refl _⟩,?_⟩
 rintro n l h1 ⟨i,K,s1,rfl,hi,hp,hE,Uh,ho,bF⟩
 have n1:=bF.nx
 have l1:=bF.lo
 by_cases hlt:i<Ts.length
 ·obtain ⟨b,hb⟩:∃b,Ts[i]? = some b:=⟨_,List.getElem?_eq_getElem hlt⟩
  have Z9:=List.mem_of_getElem? hb
  obtain ⟨cc,oo,_,Qe,l_⟩:=Se s.is.sl i hb
  have l_:=l_ h1 bF
  have sb:=(s.is.bk b Z9).le bF
  have Z7:=s.len b Z9
  simp(disch:=first|omega|simp only[Wd]<;>omega|rfl)only[Wz,Bp,s1,eY (show (i:Int)<(Ts.length:Int) by omega),Qe,l_]
  refine Kz sb (by omega) (by omega) _ ?_
  intro v2 h2 K2 T0 hp2 hs2 hE2 lY bt
  have n2:=bt.nx
  have l2:=bt.lo
  refine iT (enc:=p7) (a:=h) (L:=K) (M:=K2) r_ EW (by decide) (by decide) (ho.le bt) lY.sl (bF.trans bt) (by omega) (by omega) _ ?_
  intro v5 h5 rX jB _ n5 l5 ym
  have Kq:∀d vs op,d<h2.nx→h2.bl.get d=some (aa vs 57 op)→h5.bl.get d=h2.bl.get d:=fun d vs op hc hg=>ym d hc (by rw[hg]; exact bq (by decide))
  refine ⟨_,by omega,i+1,K++K2,rfl,rfl,by omega,?_,?_,by rw[List.length_append]; omega,rX,jB⟩
  ·rw[AB _ hb,List.map_append]
   exact hp.append hp2
  ·intro k hk'
   rcases List.mem_append.1 hk' with hk' | hk'
   ·exact ⟨(hE k hk').1,((hE k hk').2.le bt).frame n5 Kq⟩
   ·obtain ⟨e,he,se⟩:=(hE2 k hk').1
    exact ⟨⟨b,Z9,e,he,se⟩,(hE2 k hk').2.frame n5 Kq⟩
 ·have hil:i=Ts.length:=by omega
  subst hil
  rw[List.take_length] at hp
  simp(disch:=first|omega|simp only[Wd]<;>omega|rfl)only[Wz,Bp,s1,cW (show (Ts.length:Int)≤(Ts.length:Int) by omega)]
  refine Si h h1 K _ _ ho bF (by omega) ?_
  intro D h' hD hpw ho' le' hfr
  have hnd:(D.map dS).Nodup:=(((hD.map dS).trans hp).nodup_iff).2 s.nodup
  refine hk _ h' D ⟨(hD.map dS).trans hp,?_,fun k hk'=>?_,ho'.sl,uz.own ho'⟩ le'
  ·have h1:(D.map dS).Pairwise fun x y=>¬u7 y x:=by
    rw[List.pairwise_map]
    exact hpw.imp fun {x y} h=>h
   exact (hnd.and h1).imp fun {x y} ⟨hne,hn⟩=>Jg (fun e=>hne e.symm) hn
  ·have:=hE k (hD.mem_iff.1 hk')
   exact ⟨this.1,this.2.frame (by omega) fun d vs op hc hg=>hfr.2 d hc (by rw[hg]; exact bq (by decide))⟩
end
structure L4 where
 x:Int
 t:Int
 r:Int
 m:Int
theorem YD {p q:L4}:p=q↔(p.x=q.x∧p.t=q.t∧p.r=q.r∧p.m=q.m):=by cases p; cases q; simp
instance:DecidableEq L4:=fun p q=>decidable_of_iff _ YD.symm
instance:Inhabited L4:=⟨⟨0,0,0,0⟩⟩
def bH (a:L4):List Value:=[.int .i64 a.x,.int .i64 a.t,.int .i64 a.r,.int .i64 a.m]
theorem bX (a:L4):(bH a).length=4:=rfl
theorem mU (a:L4):(bH a).all cZ=true:=rfl
def ON (a b:L4):Int:=if p5 a.x b.x=0 then mP a.t a.r b.t b.r else p5 a.x b.x
def OO (a b:L4):Prop:=a.x<b.x∨(a.x=b.x∧u7 (a.t,a.r) (b.t,b.r))
theorem BP (a b:L4):ltOf ON a b=true↔OO a b:=by
 show decide (ON a b<0)=true↔_
 rw[decide_eq_true_eq]
 have:=ET (a.t,a.r) (b.t,b.r)
 unfold ON OO
 split
 ·rename_i h
  have hx:a.x=b.x:=by unfold p5 at h; split at h<;>(try split at h)<;>omega
  rw[this]
  constructor
  ·exact fun h=>.inr ⟨hx,h⟩
  ·rintro (h | h)
   ·omega
   ·exact h.2
 ·rename_i h
  unfold p5 at *
  split
  ·exact ⟨fun _=>.inl (by assumption),fun _=>by decide⟩
  ·rename_i h1
   rw[if_neg h1] at h
   split
   ·exact ⟨fun h=>by omega,fun h=>by rcases h with h | h<;>omega⟩
   ·rename_i h2; rw[if_neg h2] at h; exact absurd rfl h
theorem OP {a b:L4}:ltOf ON a b=false↔¬OO a b:=by rw[←BP,Bool.not_eq_true]
theorem KJ {a b c:L4} (h1:OO a b) (h2:OO b c):OO a c:=by unfold OO u7 at *; simp only at *; omega
theorem ahI:Go.Sort.SWO (ltOf ON) where
 irrefl x:=OP.2 (by unfold OO u7; simp only; omega)
 trans x y z h1 h2:=(BP _ _).2 (KJ ((BP _ _).1 h1) ((BP _ _).1 h2))
 ntrans x y z h1 h2:=by
  rw[OP] at *
  unfold OO u7 at *
  simp only at *
  omega
theorem YE (a b:L4) {h:Heap} {κ:Value→Heap→Prop} (hk:κ (.int .i64 (ON a b)) h):CallW Tryz.prog 117 [.agg ⟨bH a⟩,.agg ⟨bH b⟩] h κ:=by
 refine gT (v:=.int .i64 (ON a b)) rfl rfl (an mixed ?_) hk
 rw[VJ]
 simp(disch:=first|omega|simp only[Wd]<;>omega|rfl)only[Wz,bH]
 refine qQ _ _ ?_
 simp(disch:=first|omega|simp only[Wd]<;>omega|rfl)only[Wz]
 refine jw _ _ _ _ ?_
 simp(disch:=first|omega|simp only[Wd]<;>omega|rfl)only[Wz]
 refine acU _ _ _ _ (Sl.new (L:=[p5 a.x b.x,mP a.t a.r b.t b.r]) (e:=3) (op:=false) (Nat.lt_succ_self _) (T.af _ _ _) _) _ ?_
 rfl
theorem OQ (blk size:Nat) (w:World):Go.Proofs.CmpLays Tryz.prog 117 #[] bH 4 ON blk 0 size w:=by
 intro m os dk _ x y
 exact qR (args:=[.agg ⟨bH x⟩,.agg ⟨bH y⟩]) (args':=[.agg ⟨bH x⟩,.agg ⟨bH y⟩]) (YE x y rfl)
  (.cons (VR.qu (.cons (.int _ _) (.cons (.int _ _) (.cons (.int _ _) (.cons (.int _ _) .nil))))) (.cons (VR.qu (.cons (.int _ _) (.cons (.int _ _) (.cons (.int _ _) (.cons (.int _ _) .nil))))) .nil)) rfl _
theorem uK:∀args w,(callFunc 116 args).run Tryz.prog w=.ok (.enter 116 args) w:=enters_of Tryz.func116 (by kernel_rfl) rfl
theorem BQ (blk cap:Nat) (d:Array L4) (w:World) (hH:Go.Sort.HoldsK bH 4 w blk 0 d) (hblk:blk<w.heap.size) (hsz:d.size<4611686018427387904) :
  Calls Tryz.prog 116 #[.slice (some ⟨blk,0,none⟩) d.size cap,.func (.func 117) #[] #[]] w fun e w'=>e=.returned (.tuple #[])∧∃d' n os,Go.Sort.PermIn 0 d.size d d'∧Go.Sort.SortedIn (fun x y=>ltOf ON x y) 0 d.size d'∧w'=Go.Proofs.sortWorldK bH 4 w blk 0 n d' os:=by
 have eg:∀args w,(callFunc 117 args).run Tryz.prog w=.ok (.enter 117 args) w:=enters_of Tryz.func117 (by kernel_rfl) rfl
 exact Go.Proofs.AnyQ.slices_SortFunc Tryz.EV 4 Tryz.isAgg46 Tryz.sizeOf46 bH (fun _=>rfl) (fun x v hv=>by simp[bH] at hv; rcases hv with rfl | rfl | rfl | rfl<;>rfl) ON ahI 117 #[] blk 0 cap d w eg (OQ blk d.size w) hH hblk hsz
theorem zG (p:Option Addr) (cap:Nat) (fv:Value) (w:World):Calls Tryz.prog 116 #[.slice p 0 cap,fv] w fun e w'=>e=.returned (.tuple #[])∧w'=w:=Go.Proofs.AnyF.slices_SortFunc_none Tryz.EV p cap fv w
theorem ahJ (φ:dG) (x:L4) (cs:List Value) (h:F2 (VR φ) (bH x) cs):∃y:L4,cs=bH y∧x=y:=by
 unfold bH at h
 cases h with | cons h1 h=>
 cases h with | cons h2 h=>
 cases h with | cons h3 h=>
 cases h with | cons h4 h=>
 cases h
 cases h1; cases h2; cases h3; cases h4
 exact ⟨x,rfl,rfl⟩
abbrev qU (a h:Heap) (v:Value) (L:List L4):Prop:=gL bH a 46 h v L
theorem Sj (a h:Heap) (L:List L4) (v:Value) (κ:KQ) (ho:qU a h v L) (hle:Le a h) (hl:L.length≤1000000)
  (hk:∀(D:List L4) h',D.Perm L→D.Pairwise (fun x y=>¬OO y x)→qU a h' v D→Le a h'→κ (.tuple ⟨[]⟩) h'):CallW Tryz.prog 116 [v,.func (.func 117) #[] #[]] h κ:=by
 rcases ho with ⟨rfl,hv⟩ | ⟨b,hv,h1,h2,h3,h4⟩
 ·exact Aw uK zG hv (hk [] h (List.Perm.refl _) List.Pairwise.nil (.inl ⟨rfl,hv⟩) hle)
 ·cases hv
  refine BI (by decide) (enc:=bH) (cE:=bH) bX bX (kA:=id) (kC:=id) (lt:=fun x y=>ltOf ON x y) ahJ uK BQ h4 h3 hl ?_
  intro D hp hs
  refine hk D _ hp (hs.imp fun {x y} h=>OP.1 h) (.inr ⟨b,by rw[hp.length_eq],h1,h2,h3,T.af _ _ _⟩) ⟨hle.nx,hle.lo,fun c hc=>?_⟩
  exact (T.ai _ _ (by omega)).trans (hle.get c hc)
def oR (t r:Int) (Q:List R5):List L4:=(Q.filter fun p=>decide (p.m≠0)).map fun p=>⟨p.x,t,r,p.m⟩
def jQ (e:HE):List L4:=oR e.t e.r e.Q
theorem G7 {t r:Int} {Q:List R5} {j:Nat} {p:R5} (h:Q[j]? = some p):oR t r (Q.take (j+1))=oR t r (Q.take j)++(if p.m≠0 then [⟨p.x,t,r,p.m⟩] else []):=by
 unfold oR
 rw[List.take_add_one,h]
 simp only[Option.toList_some,List.filter_append,List.map_append]
 congr 1
 by_cases hm:p.m≠0
 ·rw[if_pos hm,List.filter_cons_of_pos (by simpa using hm)]; rfl
 ·rw[if_neg hm,List.filter_cons_of_neg (by simpa using hm)]; rfl
theorem AE {t r:Int} (Q:List R5):(oR t r Q).length≤Q.length:=by
 unfold oR
 rw[List.length_map]
 exact List.length_filter_le _ _
structure OS (h:Heap) (Ts:List TB) (v:Value) (D:List L4) (K:List HE):Prop where
 names:(K.map dS).Perm (Ts.flatMap fun b=>b.M.map dS)
 amH:(K.map dS).Pairwise u7
 each:∀k∈K,∃b∈Ts,∃e∈b.M,EX k e
 perm:D.Perm (K.flatMap jQ)
 srt:D.Pairwise fun x y=>¬OO y x
 sl:Sl bH h v D
 ty:uz 46 h v
section
variable {h:Heap} {tb bw bp bl:Nat} {c:fZ} {vb:Value} {aS N:Nat} {Ts:List TB} {W:List IE} {wc:Nat} {F:List Int} {B:List Bool}
theorem G8 {K:List HE} {i:Nat} {e:HE} (h:K[i]? = some e):(K.take (i+1)).flatMap jQ=(K.take i).flatMap jQ++jQ e:=AB jQ h
theorem yx {K:List HE} (hs:∀k∈K,k.Q.length≤128):(K.flatMap jQ).length≤128*K.length:=by
 induction K with
 | nil=>simp
 | cons k K ih=>
  rw[List.flatMap_cons,List.length_append,List.length_cons]
  have h1:=ih fun x hx=>hs x (.tail _ hx)
  have h2:=AE (t:=k.t) (r:=k.r) k.Q
  have h3:=hs k (.head _)
  have h4:(jQ k).length≤128:=Nat.le_trans h2 h3
  omega
theorem Sk (s:jC h tb bw bp bl c vb aS N Ts W wc F B) (hlo:h.lo≤h.nx) (κ:KQ) (hk:∀v h' D K,OS h' Ts v D K→qU h h' v D→Le h h'→κ v h') :
  CallW Tryz.prog 65 [.pointer (some ⟨tb,0,none⟩)] h κ:=by
 refine an mixed ?_
 rw[abq]
 refine Jl s hlo _ ?_
 intro v0 h0 K t0 Sm
 have n0:=Sm.nx
 have l0:=Sm.lo
 obtain ⟨x0,c0,ev0,_⟩:=(show Sl p7 h0 v0 K from t0.sl)
 have OT:∀(β:Type) (fl:β) (h':Heap) (κ:Value→Heap→β),bB fl v0 h' κ=κ (.int .i64 (K.length:Int)) h':=fun β fl h' κ=>by rw[ev0]; exact eV _ _ _ _ _
 have hKs:∀k∈K,k.Q.length≤128:=by
  intro k hk'
  obtain ⟨⟨b,hb,e,he,se⟩,_⟩:=t0.each k hk'
  have:=((s.is.bk b hb).good e he).small
  rw[se.2.2.2]; exact this
 have Uh:K.length≤1024:=by
  have h1:=t0.perm.length_eq
  rw[List.length_map] at h1
  rw[h1]
  have h2:=s.is.s1.2
  have h3:=s.is.hd
  have:∀L:List TB,(∀b∈L,b.M.length≤64)→(L.flatMap fun b=>b.M.map dS).length≤64*L.length:=by
   intro L
   induction L with
   | nil=>intro _; simp
   | cons b L ih=>
    intro hL
    rw[List.flatMap_cons,List.length_append,List.length_map,List.length_cons]
    have h1:=ih fun x hx=>hL x (.tail _ hx)
    have h2:=hL b (.head _)
    omega
  have:=this Ts fun b hb=>by have:=s.len b hb; omega
  omega
 have amI:=yx hKs
 have Vk:∀i,((K.take i).flatMap jQ).length≤131072:=by
  intro i
  have h1:=yx (K:=K.take i) fun k hk'=>hKs k (List.mem_of_mem_take hk')
  have h2:(K.take i).length≤K.length:=by rw[List.length_take]; omega
  omega
 simp(disch:=first|omega|simp only[Wd]<;>omega|rfl)only[Wz,OT]
 refine ⟨fun n l h1=>∃i:Nat,slot l 28=.int .i64 (i:Int)∧n=K.length-i∧i≤K.length∧qU h0 h1 (slot l 24) ((K.take i).flatMap jQ)∧Le h0 h1,
  ⟨_,0,rfl,rfl,by omega,.inl ⟨by simp,.inl rfl⟩,Le.refl _⟩,?_⟩
 rintro n l h1 ⟨i,s1,rfl,hi,ho,bF⟩
 have n1:=bF.nx
 have l1:=bF.lo
 by_cases hlt:i<K.length
 ·obtain ⟨e,he⟩:∃e,K[i]? = some e:=⟨_,List.getElem?_eq_getElem hlt⟩
  have heK:=List.mem_of_getElem? he
  have qv:=(t0.each e heK).2
  obtain ⟨b0,o0,hb0,hx0,Cy⟩:=ac1 t0.sl i he (Ov qv.1)
  have R1:=Cy h1 bF
  have qv1:=qv.le bF
  obtain ⟨qx,qc,eq,_⟩:=(show Sl bu h1 e.q e.Q from qv1.1)
  have rG:=hKs e heK
  rw[eq] at R1
  simp(disch:=first|omega|simp only[Wd]<;>omega|rfl)only[Wz,s1,eY (show (i:Int)<(K.length:Int) by omega),IV,hx0,R1]
  rw[←eq] at R1
  obtain ⟨h2,e2⟩:∃h2:Heap,h2=⟨h1.nx+1,h1.bl.aT h1.nx (aa [.int .i64 e.t,.int .i64 e.r,.slice qx e.Q.length qc,.int .i64 e.w] 55 false),h1.lo⟩:=⟨_,rfl⟩
  have bt:Le h1 h2:=by rw[e2]; exact (Le.refl h1).new _
  have g2:h2.bl.get h1.nx=some (aa [.int .i64 e.t,.int .i64 e.r,.slice qx e.Q.length qc,.int .i64 e.w] 55 false):=by rw[e2]; exact T.af _ _ _
  have nx2:h2.nx=h1.nx+1:=by rw[e2]
  try rw[←e2]
  clear e2
  have n2:=bt.nx
  have l2:=bt.lo
  have qv2:=qv1.le bt
  refine ⟨fun m l3 h3=>∃j:Nat,slot l3 19=.int .i64 (j:Int)∧m=e.Q.length-j∧j≤e.Q.length∧qU h0 h3 (slot l3 17) ((K.take i).flatMap jQ++oR e.t e.r (e.Q.take j))∧Le h0 h3∧h1.nx<h3.nx∧h3.bl.get h1.nx=some (aa [.int .i64 e.t,.int .i64 e.r,.slice qx e.Q.length qc,.int .i64 e.w] 55 false)∧QV h3 e.q e.Q,
   ⟨_,0,rfl,rfl,by omega,?_,bF.trans bt,by omega,g2,qv2⟩,?_⟩
  ·rw[List.take_zero]
   have:oR e.t e.r []=[]:=rfl
   rw[this,List.append_nil]
   exact ho.le bt
  rintro m l3 h3 ⟨j,s3,rfl,hj,nX,cr,n3,g3,q3⟩
  have n3':=cr.nx
  have l3':=cr.lo
  by_cases hjl:j<e.Q.length
  ·obtain ⟨p,hp⟩:∃p,e.Q[j]? = some p:=⟨_,List.getElem?_eq_getElem hjl⟩
   obtain ⟨b4,o4,_,Uw,Lw,_⟩:=NI q3.1 j hp
   rw[eq] at Uw
   have hmono:=AE (t:=e.t) (r:=e.r) (e.Q.take j)
   have amM:=Vk i
   have htl:(e.Q.take j).length≤e.Q.length:=by rw[List.length_take]; omega
   simp(disch:=first|omega|simp only[Wd]<;>omega|rfl)only[Wz,s3,eY (show (j:Int)<(e.Q.length:Int) by omega),Bq]
   refine ⟨fun l' h'=>∃L',L'=(K.take i).flatMap jQ++oR e.t e.r (e.Q.take (j+1))∧qU h0 h' (slot l' 16) L'∧Le h0 h'∧h1.nx<h'.nx∧h'.bl.get h1.nx=some (aa [.int .i64 e.t,.int .i64 e.r,.slice qx e.Q.length qc,.int .i64 e.w] 55 false)∧QV h' e.q e.Q,?_,?_⟩
   rotate_left
   ·rintro l' h' ⟨L',rfl,hL,hle,hn,hg,hq⟩
    exact ⟨_,by omega,j+1,rfl,rfl,by omega,hL,hle,hn,hg,hq⟩
   simp(disch:=first|omega|simp only[Wd]<;>omega|rfl)only[Wz,IU,s3,Uw,Lw,bu]
   obtain ⟨h5,e5⟩:∃h5:Heap,h5=⟨h3.nx+1,h3.bl.aT h3.nx (iy p),h3.lo⟩:=⟨_,rfl⟩
   have jB:Le h3 h5:=by rw[e5]; exact (Le.refl h3).new _
   have g5:h5.bl.get h3.nx=some (iy p):=by rw[e5]; exact T.af _ _ _
   have nx5:h5.nx=h3.nx+1:=by rw[e5]
   try rw[←e5]
   clear e5
   have l5:=jB.lo
   have X7:=(jB.get _ n3).trans g3
   have hstep:=G7 (t:=e.t) (r:=e.r) hp
   by_cases hm:p.m=0
   ·simp(disch:=first|omega|simp only[Wd]<;>omega|rfl)only[Wz,bg hm]
    refine ⟨_,rfl,?_,cr.trans jB,by omega,?_,q3.le jB⟩
    ·rw[hstep,if_neg (by omega),List.append_nil]
     exact nX.le jB
    ·first | exact X7 | exact g3
   ·simp(disch:=first|omega|simp only[Wd]<;>omega|rfl)only[Wz,aV hm,IT,g5,X7]
    obtain ⟨h6,e6⟩:∃h6:Heap,h6=⟨h5.nx+1,h5.bl.aT h5.nx (aa [.int .i64 p.x,.int .i64 e.t,.int .i64 e.r,.int .i64 p.m] 46 false),h5.lo⟩:=⟨_,rfl⟩
    have BF:Le h5 h6:=by rw[e6]; exact (Le.refl h5).new _
    have g6:h6.bl.get h5.nx=some (aa ([(⟨p.x,e.t,e.r,p.m⟩:L4)].flatMap bH) 46 false):=by rw[e6]; exact T.af _ _ _
    have nx6:h6.nx=h5.nx+1:=by rw[e6]
    have l6:h6.lo=h5.lo:=by rw[e6]
    try rw[←e6]
    clear e6
    have G9:=jB.trans BF
    have g36:=(BF.get _ (by omega)).trans X7
    refine iT (enc:=bH) (a:=h0) (L:=(K.take i).flatMap jQ++oR e.t e.r (e.Q.take j)) (M:=[(⟨p.x,e.t,e.r,p.m⟩:L4)]) bX mU (by decide) (by decide) (nX.le G9) (Sl.new (by omega) g6 _) (cr.trans G9) (by rw[List.length_append]; simp only[List.length_cons,List.length_nil]; omega) (by omega) _ ?_
    intro v7 h7 ho7 Yp _ n7 l7 Ux
    refine ⟨_,rfl,?_,Yp,by omega,(Ux _ (by omega) (by rw[g36]; exact bh)).trans g36,(q3.le G9).frame n7 fun d vs op hc hg=>Ux d hc (by rw[hg]; exact bq (by decide))⟩
    rw[hstep,if_pos hm,←List.append_assoc]
    exact ho7
  ·have hjQ:j=e.Q.length:=by omega
   subst hjQ
   simp(disch:=first|omega|simp only[Wd]<;>omega|rfl)only[Wz,s3,cW (show (e.Q.length:Int)≤(e.Q.length:Int) by omega),Bq,s1]
   refine ⟨_,by omega,i+1,rfl,rfl,by omega,?_,cr⟩
   rw[G8 he]
   rw[List.take_length] at nX
   exact nX
 ·have hil:i=K.length:=by omega
  subst hil
  rw[List.take_length] at ho
  simp(disch:=first|omega|simp only[Wd]<;>omega|rfl)only[Wz,s1,cW (show (K.length:Int)≤(K.length:Int) by omega)]
  refine Sj h0 h1 _ _ _ ho bF (by omega) ?_
  intro D h' hD hpw ho' le'
  exact hk _ h' D K ⟨t0.perm,t0.srt,fun k hk'=>(t0.each k hk').1,hD,hpw,ho'.sl,uz.own ho'⟩ (gL.base ho' (by omega)) (Sm.trans le')
theorem YF (s:jC h tb bw bp bl c vb aS N Ts W wc F B) (hlo:h.lo≤h.nx) (κ:KQ) (hk:∀v h' D K,OS h' Ts v D K→Le h h'→κ v h') :
  CallW Tryz.prog 65 [.pointer (some ⟨tb,0,none⟩)] h κ:=Sk s hlo κ fun v h' D K t _ l=>hk v h' D K t l
end
theorem Sn (id:Int) (h:Heap) (κ:KQ) (hk:κ (.pointer none) h):CallW Tryz.prog 343 [.pointer none,.int .i64 id] h κ:=by
 refine an mixed ?_
 rw[NF]
 simp(disch:=first|omega|simp only[Wd]<;>omega|rfl)only[Wz,sj]
 exact hk
theorem OU (id:Int) (h:Heap) (κ:KQ) (hlo:h.lo≤h.nx) (hk:∀h',Le h h'→κ (.tuple ⟨[cN 0 0,kK ⟨0,0,0,0,0⟩,.bool false]⟩) h'):CallW Tryz.prog 292 [.pointer none,.int .i64 id] h κ:=by
 refine an mixed ?_
 rw[NB]
 simp(disch:=first|omega|simp only[Wd]<;>omega|rfl)only[Wz]
 obtain ⟨hA,aH⟩:∃hA:Heap,hA=⟨h.nx+1+1,((h.bl.aT (h.nx) (aa [.int .i64 0,.int .i64 0] 28 false)).aT (h.nx+1) (iy ⟨0,0,0,0,0⟩)),h.lo⟩:=⟨_,rfl⟩
 have aL:Le h hA:=by subst aH; exact (((Le.refl h).new _).new _)
 have g1:hA.bl.get (h.nx)=some (aa [.int .i64 0,.int .i64 0] 28 false):=by subst aH; exact (T.ai _ _ (by omega)).trans (T.af _ _ _)
 have g3:hA.bl.get (h.nx+1)=some (iy ⟨0,0,0,0,0⟩):=by subst aH; exact T.af _ _ _
 have ef:hA.nx=h.nx+1+1:=by subst aH; rfl
 have ej:hA.lo=h.lo:=by subst aH; rfl
 rw[←aH]
 clear aH
 refine Sn id hA _ ?_
 simp(disch:=first|omega|simp only[Wd]<;>omega|rfl)only[Wz,oM,g1,g3,bu]
 exact hk _ ((aL.set (by omega) _).set (by omega) _)
section
variable {h:Heap} {tb bw bp bl:Nat} {c:fZ} {vb:Value} {aS N:Nat} {Ts:List TB} {W:List IE} {wc:Nat} {F:List Int} {B:List Bool}
theorem YG (s:jC h tb bw bp bl c vb aS N Ts W wc F B) (hlo:h.lo≤h.nx) (id:Int) (κ:KQ)
  (nO:∀h',(∀b∈Ts,∀e∈b.M,bV e.Q id=none)→Le h h'→κ (.tuple ⟨[cN 0 0,kK ⟨0,0,0,0,0⟩,.bool false]⟩) h')
  (dy:∀h' b e p,b∈Ts→e∈b.M→bV e.Q id=some p→Le h h'→κ (.tuple ⟨[cN e.t e.r,kK p,.bool true]⟩) h') :
  CallW Tryz.prog 209 [.pointer (some ⟨tb,0,none⟩),.int .i64 id] h κ:=by
 refine an mixed ?_
 rw[WN]
 simp(disch:=first|omega|simp only[Wd]<;>omega|rfl)only[Wz]
 obtain ⟨hA,aH⟩:∃hA:Heap,hA=⟨h.nx+1+1,((h.bl.aT (h.nx) (aa [.int .i64 0,.int .i64 0] 28 false)).aT (h.nx+1) (iy ⟨0,0,0,0,0⟩)),h.lo⟩:=⟨_,rfl⟩
 have aL:Le h hA:=by subst aH; exact (((Le.refl h).new _).new _)
 have g1:hA.bl.get (h.nx)=some (aa [.int .i64 0,.int .i64 0] 28 false):=by subst aH; exact (T.ai _ _ (by omega)).trans (T.af _ _ _)
 have g3:hA.bl.get (h.nx+1)=some (iy ⟨0,0,0,0,0⟩):=by subst aH; exact T.af _ _ _
 have ef:hA.nx=h.nx+1+1:=by subst aH; rfl
 have ej:hA.lo=h.lo:=by subst aH; rfl
 rw[←aH]
 clear aH
 refine Jk (s.le aL) (by omega) id _ ?_ ?_
 ·intro hno
  refine OU id hA _ (by omega) ?_
  intro h2 bt
  have uH:=bt.nx
  have uI:=bt.lo
  have g1:=(bt.get _ (by omega)).trans g1
  have g3:=(bt.get _ (by omega)).trans g3
  simp(disch:=first|omega|simp only[Wd]<;>omega|rfl)only[Wz,cN,bu,g1,g3]
  exact nO _ hno (((aL.trans bt).set (by omega) _).set (by omega) _)
 ·intro k b e p hk he hf
  have hb:=List.mem_of_getElem? hk
  refine R3 ((s.le aL).is.bk b hb) (by omega) id _ ?_ ?_
  ·intro h2 hno _
   rw[hno e he] at hf; cases hf
  ·intro h2 e2 p2 he2 hf2 bt
   have uH:=bt.nx
   have uI:=bt.lo
   have g1:=(bt.get _ (by omega)).trans g1
   have g3:=(bt.get _ (by omega)).trans g3
   simp(disch:=first|omega|simp only[Wd]<;>omega|rfl)only[Wz,cN,bu,g1,g3]
   exact dy _ b e2 p2 hb he2 hf2 (((aL.trans bt).set (by omega) _).set (by omega) _)
end
structure RB where
 rb:Nat
 v:Value
 K:List HE
end Go.Proofs
namespace Go.Vai
open Go.Proofs Go.Clashes
end Go.Vai
namespace Go.Proofs
open Go.Vai Go.Clashes
section
variable {a h h':Heap} {rt rp rl:Nat} {c:fZ} {vr:Value} {aS:Nat} {R:List RB} {B B':List Bool}
end
section
variable {a h:Heap} {tb bw bp bl:Nat} {c:fZ} {vb:Value} {aS N:Nat} {Ts:List TB} {W:List IE} {wc:Nat} {F:List Int} {B:List Bool} {rt rp rl:Nat} {vr:Value} {R:List RB}
end
section
variable {h h':Heap} {tb bw bp bl:Nat} {c:fZ} {vb:Value} {aS N:Nat} {Ts:List TB} {W:List IE} {wc:Nat} {F F':List Int} {B:List Bool}
theorem Jm (s:jC h tb bw bp bl c vb aS N Ts W wc F B) (hlo:h.lo≤h.nx) (hN:N≤1000) (t r x m:Int) (κ:KQ)
  (uq:∀h',dm t r c.S<0→Le h h'→κ (.tuple ⟨[.int .i64 0,.bool false,.int .i64 2]⟩) h')
  (hk2:∀(k:Nat) (b:TB) h',Ts[k]? = some b→dm t r c.S=(k:Int)→bN m=false→Le h h'→κ (.tuple ⟨[.int .i64 0,.bool false,.int .i64 2]⟩) h')
  (z7:∀(k:Nat) (b:TB) h' e p,Ts[k]? = some b→dm t r c.S=(k:Int)→bN m=true→e∈b.M→t=e.t→r=e.r→p∈e.Q→p.x=x→Le h h'→κ (.tuple ⟨[.int .i64 0,.bool false,.int .i64 4]⟩) h')
  (hk8:∀(k:Nat) (b:TB) h',Ts[k]? = some b→dm t r c.S=(k:Int)→bN m=true→(∀e∈b.M,t=e.t→r=e.r→∀p∈e.Q,p.x≠x)→(F=[]∨((∀e∈b.M,¬(t=e.t∧r=e.r))∧aS≤b.M.length))→Le h h'→κ (.tuple ⟨[.int .i64 0,.bool false,.int .i64 8]⟩) h')
  (Um:∀(k:Nat) (b:TB) M' clock' F' W' yq h0 h1 h' n g,Ts[k]? = some b→dm t r c.S=(k:Int)→bN m=true→(∀e∈b.M,t=e.t→r=e.r→∀p∈e.Q,p.x≠x)→aZ h0 b.bb b.bm bp bl aS b.M b.clock F B→mO h0 h1 b.bb b.bm bp bl aS b.M M' clock' F F' B t r x m n g→
   jC h' tb bw bp bl c vb aS (N+1) (Ts.set k ⟨b.bb,b.bm,M',clock'⟩) W' yq F' (B.set n true)→tL Ts bw bp bl h h'→κ (.tuple ⟨[.int .i64 (n:Int),.bool g,.int .i64 0]⟩) h') :
  CallW Tryz.prog 301 [.pointer (some ⟨tb,0,none⟩),cN t r,.int .i64 x,.int .i64 m] h κ:=by
 refine an mixed ?_
 rw[Xl]
 simp(disch:=first|omega|simp only[Wd]<;>omega|rfl)only[Wz,cN,mT]
 obtain ⟨hA,aH⟩:∃hA:Heap,hA=⟨h.nx+1,(h.bl.aT (h.nx) (aa [.int .i64 t,.int .i64 r] 28 false)),h.lo⟩:=⟨_,rfl⟩
 have aL:Le h hA:=by subst aH; exact ((Le.refl h).new _)
 have g1:hA.bl.get (h.nx)=some (aa [.int .i64 t,.int .i64 r] 28 false):=by subst aH; exact T.af _ _ _
 have ef:hA.nx=h.nx+1:=by subst aH; rfl
 have ej:hA.lo=h.lo:=by subst aH; rfl
 rw[←aH]
 clear aH
 refine tM (s.le aL).is (by omega) t r _ ?_
 intro h2 bt
 have uH:=bt.nx
 have uI:=bt.lo
 have g1:=(bt.get _ (by omega)).trans g1
 have jI:=aL.trans bt
 have s2:=s.le jI
 by_cases hneg:dm t r c.S<0
 ·simp(disch:=first|omega|simp only[Wd]<;>omega|rfl)only[Wz,bg hneg]
  exact uq h2 hneg jI
 obtain ⟨k,b,hst,hk⟩:=ac8 s.is hneg
 have hb:=List.mem_of_getElem? hk
 have gt:=s2.is.lJ
 obtain ⟨cc,oo,_,Qe,l_⟩:=Se s2.is.sl k hk
 have l_:=l_ h2 (Le.refl _)
 rw[hst]
 simp(disch:=first|omega|simp only[Wd]<;>omega|rfl)only[Wz,cW (show (0:Int)≤(k:Int) by omega),D7,az,gt,Qe,l_,g1]
 refine RZ (s2.is.bk b hb) (by omega) (s2.OG hk) N (by omega) (s2.wb b hb) t r x m _ ?_ ?_ ?_ ?_
 ·intro h3 am0 cr
  simp(disch:=first|omega|simp only[Wd]<;>omega|rfl)only[Wz,nu,mG]
  refine ⟨fun l h'=>HQ h3 h',?_,?_⟩
  ·simp(disch:=first|omega|simp only[Wd]<;>omega|rfl)only[Wz,oJ]
   rfl
  ·rintro l h' hq
   cases (show h3=h' from hq)
   exact hk2 k b h3 hk hst am0 (jI.trans cr)
 ·intro h3 e p am1 he ht hr hp hx cr
  simp(disch:=first|omega|simp only[Wd]<;>omega|rfl)only[Wz,nu,mG]
  refine ⟨fun l h'=>HQ h3 h',?_,?_⟩
  ·simp(disch:=first|omega|simp only[Wd]<;>omega|rfl)only[Wz,oJ]
   rfl
  ·rintro l h' hq
   cases (show h3=h' from hq)
   exact z7 k b h3 e p hk hst am1 he ht hr hp hx (jI.trans cr)
 ·intro h3 am1 ahN hfull cr
  simp(disch:=first|omega|simp only[Wd]<;>omega|rfl)only[Wz,nu,mG]
  refine ⟨fun l h'=>HQ h3 h',?_,?_⟩
  ·simp(disch:=first|omega|simp only[Wd]<;>omega|rfl)only[Wz,oJ]
   rfl
  ·rintro l h' hq
   cases (show h3=h' from hq)
   exact hk8 k b h3 hk hst am1 ahN hfull (jI.trans cr)
 ·intro M' clock' F' h3 n g am hno ak
  have is3:=s2.is.change hk ak.is ak.fr
  have n3:=ak.fr.nx
  have l3:=ak.fr.lo
  have gt3:=is3.lJ
  have ahO:=is3.low
  simp(disch:=first|omega|simp only[Wd]<;>omega|rfl)only[Wz,nu,mG]
  refine ⟨fun l h'=>∃W' yq,(∀j,KF W' j=if j=(n:Int) then some (k:Int) else KF W j)∧h'=⟨h3.nx,h3.bl.aT bw (.map (W'.map Ay) yq),h3.lo⟩,?_,?_⟩
  ·simp(disch:=first|omega|simp only[Wd]<;>omega|rfl)only[Wz,oJ,az,gt3]
   refine Yz is3.nQ ahO _ _ _ ?_
   intro W' yq hW
   exact ⟨W',yq,hW,rfl⟩
  ·rintro l h' ⟨W',yq,hW,rfl⟩
   have fr:tL Ts bw bp bl h ⟨h3.nx,h3.bl.aT bw (.map (W'.map Ay) yq),h3.lo⟩:=((tL.of_le jI).trans (tL.Sd hb ak.fr)).trans tL.YC
   have zD:=mO.ids (s2.is.bk b hb) ak
   have adg:∀i,i∈jO B→i≠(n:Int):=by
    rintro i hi rfl
    obtain ⟨k',e,hk'⟩:=jq.1 hi
    have:k'=n:=(Int.ofNat.inj e).symm
    subst this
    rw[ak.old] at hk'; cases hk'
   have hin:∀i b',b'∈Ts→i∈fE b'.M→i≠(n:Int):=fun i b' hb' hi=>adg i (s.ids.mem_iff.1 (List.mem_flatMap.2 ⟨b',hb',hi⟩))
   refine Um k b M' clock' F' W' yq h2 h3 _ n g hk hst am hno (s2.is.bk b hb) ak ⟨is3.YC W' yq,?_,?_,?_,?_,?_,by rw[List.length_set]; exact s.cR,s.cH⟩ fr
   ·obtain ⟨X,hX⟩:=qT (fun b:TB=>fE b.M) hk
    have h0:=hX b
    rw[yp hk] at h0
    refine (hX _).trans ?_
    refine (zD.append_right X).trans ?_
    rw[List.append_assoc]
    refine ((List.Perm.append_left _ List.perm_append_comm).trans ?_).trans (Ar ak.old).symm
    rw[←List.append_assoc]
    exact (h0.symm.trans s.ids).append_right _
   ·intro j y hj e he p hp
    rw[hW]
    rcases eW hj with ⟨rfl,rfl⟩ | ⟨hne,hj⟩
    ·have hpi:=zD.mem_iff.1 (kN.2 ⟨e,he,p,hp,rfl⟩)
     rcases List.mem_append.1 hpi with h1 | h1
     ·obtain ⟨e0,OH,p0,hp0,hpe⟩:=kN.1 h1
      rw[if_neg (hin _ b hb h1),←hpe]
      exact s.wh j b hk e0 OH p0 hp0
     ·rw[List.mem_singleton] at h1
      rw[if_pos h1]
    ·rw[if_neg (hin _ y (List.mem_of_getElem? hj) (kN.2 ⟨e,he,p,hp,rfl⟩))]
     exact s.wh j y hj e he p hp
   ·intro j y hj e he
    rcases eW hj with ⟨rfl,rfl⟩ | ⟨_,hj⟩
    ·rcases ak.sub e he with ⟨e0,OH,h1,h2⟩ | ⟨h1,h2⟩
     ·rw[←h1,←h2]; exact s.nm j b hk e0 OH
     ·rw[h1,h2]; exact hst
    ·exact s.nm j y hj e he
   ·intro y hy e he
    obtain ⟨j,hj⟩:=List.getElem?_of_mem hy
    rcases eW hj with ⟨rfl,rfl⟩ | ⟨_,hj⟩
    ·exact ak.wb (s.wb b hb) e he
    ·have:=s.wb y (List.mem_of_getElem? hj) e he; omega
   ·intro y hy
    obtain ⟨j,hj⟩:=List.getElem?_of_mem hy
    rcases eW hj with ⟨rfl,rfl⟩ | ⟨_,hj⟩
    ·exact mO.len (s2.is.bk b hb) (s.len b hb) ak
    ·exact s.len y (List.mem_of_getElem? hj)
theorem OV (s:jC h tb bw bp bl c vb aS N Ts W wc F B) (hlo:h.lo≤h.nx) (id x:Int) (κ:KQ)
  (Lv:(∀b∈Ts,∀e∈b.M,bV e.Q id=none)→κ (.int .i64 5) h)
  (z7:∀(k:Nat) (b:TB) h' e p,Ts[k]? = some b→e∈b.M→bV e.Q id=some p→(∃o∈e.Q,o.id≠id∧o.x=x)→Le h h'→κ (.int .i64 4) h')
  (NZ:∀(k:Nat) (b:TB) h' e p,Ts[k]? = some b→e∈b.M→bV e.Q id=some p→(∀o∈e.Q,o.id≠id→o.x≠x)→0<p.s→Le h h'→κ (.int .i64 7) h')
  (nO:∀(k:Nat) (b:TB) h' M' clock' e p i,Ts[k]? = some b→e∈b.M→e.Q[i]? = some p→bV e.Q id=some p→(∀o∈e.Q,o.id≠id→o.x≠x)→¬0<p.s→jt h h' b.bb b.bm bp bl aS b.M M' clock' F B e (e.Q.set i (uC p x)) e.w→
   jC h' tb bw bp bl c vb aS (N+1) (Ts.set k ⟨b.bb,b.bm,M',clock'⟩) W wc F B→κ (.int .i64 0) h') :
  CallW Tryz.prog 304 [.pointer (some ⟨tb,0,none⟩),.int .i64 id,.int .i64 x] h κ:=by
 refine an mixed ?_
 rw[Xn]
 refine Jk s hlo id _ ?_ ?_
 ·intro hno
  simp(disch:=first|omega|simp only[Wd]<;>omega|rfl)only[Wz,sj]
  refine BM tb h _ ?_
  exact Lv hno
 ·intro k b e p hkb he hf
  have hb:=List.mem_of_getElem? hkb
  simp(disch:=first|omega|simp only[Wd]<;>omega|rfl)only[Wz,gV]
  refine N_ (s.is.bk b hb) hlo id x _ ?_ ?_ ?_ ?_
  ·intro h1 hno _
   rw[hno e he] at hf; cases hf
  ·intro h1 e1 p1 uU KH hx bF
   exact z7 k b h1 e1 p1 hkb uU KH hx bF
  ·intro h1 e1 p1 uU KH hx hs1 bF
   exact NZ k b h1 e1 p1 hkb uU KH hx hs1 bF
  ·intro h1 M' clock' e1 p1 i uU hi KH hx hs1 mv
   exact nO k b h1 M' clock' e1 p1 i hkb uU hi KH hx hs1 mv (s.Ut hkb uU mv (sg hi rfl) (by omega))
theorem E7 (s:jC h tb bw bp bl c vb aS N Ts W wc F B) (hlo:h.lo≤h.nx) (hN:N≤1000) (id m:Int) (κ:KQ)
  (hk2:∀h',bN m=false→Le h h'→κ (.tuple ⟨[.bool false,.int .i64 2]⟩) h')
  (Lv:bN m=true→(∀b∈Ts,∀e∈b.M,bV e.Q id=none)→κ (.tuple ⟨[.bool false,.int .i64 5]⟩) h)
  (NZ:∀(k:Nat) (b:TB) h' e p,bN m=true→Ts[k]? = some b→e∈b.M→bV e.Q id=some p→0<p.s→Le h h'→κ (.tuple ⟨[.bool false,.int .i64 7]⟩) h')
  (nO:∀(k:Nat) (b:TB) h' M' clock' e p i,bN m=true→Ts[k]? = some b→e∈b.M→e.Q[i]? = some p→bV e.Q id=some p→¬0<p.s→jt h h' b.bb b.bm bp bl aS b.M M' clock' F B e (e.Q.set i (iM e.Q e.w p m).1) (iM e.Q e.w p m).2.1→
   jC h' tb bw bp bl c vb aS (N+1) (Ts.set k ⟨b.bb,b.bm,M',clock'⟩) W wc F B→κ (.tuple ⟨[.bool (iM e.Q e.w p m).2.2,.int .i64 0]⟩) h') :
  CallW Tryz.prog 302 [.pointer (some ⟨tb,0,none⟩),.int .i64 id,.int .i64 m] h κ:=by
 have am0:m=0→bN m=false:=by intro h0; unfold bN; simp[h0]
 have am1:m≠0→bN m=kn m:=by intro h0; unfold bN; simp[h0]
 refine an mixed ?_
 rw[Xm]
 refine Jk s hlo id _ ?_ ?_
 ·intro hno
  simp(disch:=first|omega|simp only[Wd]<;>omega|rfl)only[Wz,E4]
  by_cases hm0:m=0
  ·simp(disch:=first|omega|simp only[Wd]<;>omega|rfl)only[Wz,bg hm0]
   exact hk2 h (am0 hm0) (Le.refl _)
  ·simp(disch:=first|omega|simp only[Wd]<;>omega|rfl)only[Wz,aV hm0]
   have am:=am1 hm0
   refine nE m ?_
   cases hkn:kn m with
   | false=>simp(disch:=first|omega|simp only[Wd]<;>omega|rfl)only[Wz]; exact hk2 h (am.trans hkn) (Le.refl _)
   | true=>
    simp(disch:=first|omega|simp only[Wd]<;>omega|rfl)only[Wz,xJ,sj]
    refine BM tb h _ ?_
    exact Lv (am.trans hkn) hno
 ·intro k b e p hkb he hf
  have hb:=List.mem_of_getElem? hkb
  simp(disch:=first|omega|simp only[Wd]<;>omega|rfl)only[Wz,E4]
  by_cases hm0:m=0
  ·simp(disch:=first|omega|simp only[Wd]<;>omega|rfl)only[Wz,bg hm0]
   exact hk2 h (am0 hm0) (Le.refl _)
  ·simp(disch:=first|omega|simp only[Wd]<;>omega|rfl)only[Wz,aV hm0]
   have am:=am1 hm0
   refine nE m ?_
   cases hkn:kn m with
   | false=>simp(disch:=first|omega|simp only[Wd]<;>omega|rfl)only[Wz]; exact hk2 h (am.trans hkn) (Le.refl _)
   | true=>
    simp(disch:=first|omega|simp only[Wd]<;>omega|rfl)only[Wz,xJ,gV]
    refine EO (s.is.bk b hb) hlo N (by omega) (s.wb b hb) id m _ ?_ ?_ ?_ ?_
    ·intro h1 am2 bF
     simp(disch:=first|omega|simp only[Wd]<;>omega|rfl)only[Wz]
     exact hk2 h1 am2 bF
    ·intro h1 _ hn _
     rw[hn e he] at hf; cases hf
    ·intro h1 e1 p1 am2 uU KH hs1 bF
     simp(disch:=first|omega|simp only[Wd]<;>omega|rfl)only[Wz]
     exact NZ k b h1 e1 p1 am2 hkb uU KH hs1 bF
    ·intro h1 M' clock' e1 p1 i am2 uU hi KH hs1 mv
     simp(disch:=first|omega|simp only[Wd]<;>omega|rfl)only[Wz]
     exact nO k b h1 M' clock' e1 p1 i am2 hkb uU hi KH hs1 mv (s.Ut hkb uU mv (sg hi (Sa _ _ _ _)) (Yv _ _ _ _))
end
structure Lone (Ts:List TB) (H X:Int→Int→Int):Prop where
 one:∀b∈Ts,∀e∈b.M,∃id,e.Q=[⟨id,X e.t e.r,H e.t e.r,H e.t e.r,0⟩]∧H e.t e.r≠0
 all:∀t r,H t r≠0→∃b∈Ts,∃e∈b.M,e.t=t∧e.r=r
def gM (H:Int→Int→Int) (t r m:Int):Int→Int→Int:=fun t' r'=>if t'=t∧r'=r then m else H t' r'
theorem pS (H:Int→Int→Int) (t r m:Int):gM H t r m t r=m:=by simp[gM]
theorem jV (H:Int→Int→Int) {t r m t' r':Int} (h:¬(t'=t∧r'=r)):gM H t r m t' r'=H t' r':=by simp[gM,h]
section
variable {h:Heap} {tb bw bp bl:Nat} {c:fZ} {vb:Value} {aS N:Nat} {Ts:List TB} {W:List IE} {wc:Nat} {F:List Int} {B:List Bool} {H X:Int→Int→Int}
theorem Lone.Jn {X':Int→Int→Int} (L:Lone Ts H X) (s:jC h tb bw bp bl c vb aS N Ts W wc F B) {k:Nat} {b:TB} (hk:Ts[k]? = some b) {t r w m id:Int} (hst:dm t r c.S=(k:Int)) (hm:m≠0) {M':List HE} (cl:Nat) (st:eo b.M M' t r w [⟨id,X' t r,m,m,0⟩]) (hX:∀t' r',¬(t'=t∧r'=r)→X' t' r'=X t' r') :
  Lone (Ts.set k ⟨b.bb,b.bm,M',cl⟩) (gM H t r m) X':=by
 obtain ⟨e0,h1,h2,h3,h4,hp⟩:=st.put (by simp)
 have hil:=(List.getElem?_eq_some_iff.1 hk).1
 have hb:=List.mem_of_getElem? hk
 constructor
 ·intro b' hb' e he
  obtain ⟨j,hj⟩:=List.getElem?_of_mem hb'
  rcases eW hj with ⟨rfl,rfl⟩ | ⟨hne,hj⟩
  ·rcases List.mem_append.1 (hp.mem_iff.1 he) with he | he
   ·obtain ⟨he,hn⟩:=List.mem_filter.1 he
    have hn:=qk.1 hn
    rw[jV H (fun e=>hn ⟨e.1.symm,e.2.symm⟩),hX _ _ (fun e=>hn ⟨e.1.symm,e.2.symm⟩)]
    exact L.one b hb e he
   ·rw[List.mem_singleton] at he; subst he
    rw[h1,h2,pS]
    exact ⟨id,h4,hm⟩
  ·have hs:=s.nm j b' hj e he
   rw[jV H (fun e1=>by rw[e1.1,e1.2,hst] at hs; omega),hX _ _ (fun e1=>by rw[e1.1,e1.2,hst] at hs; omega)]
   exact L.one b' (List.mem_of_getElem? hj) e he
 ·intro t' r' hH
  by_cases hn:t'=t∧r'=r
  ·obtain ⟨rfl,rfl⟩:=hn
   exact ⟨_,List.mem_of_getElem? (i:=k) (by rw[List.getElem?_set,if_pos rfl,if_pos hil]),e0,hp.mem_iff.2 (List.mem_append_right _ (.head _)),h1,h2⟩
  ·rw[jV H hn] at hH
   obtain ⟨b1,hb1,e1,uU,e2,e3⟩:=L.all t' r' hH
   obtain ⟨j,hj⟩:=List.getElem?_of_mem hb1
   by_cases hjk:k=j
   ·subst hjk
    rw[hk] at hj; cases hj
    exact ⟨_,List.mem_of_getElem? (i:=k) (by rw[List.getElem?_set,if_pos rfl,if_pos hil]),e1,hp.mem_iff.2 (List.mem_append_left _ (List.mem_filter.2 ⟨uU,qk.2 fun e=>hn ⟨e2.symm.trans e.1.symm,e3.symm.trans e.2.symm⟩⟩)),e2,e3⟩
   ·exact ⟨b1,List.mem_of_getElem? (i:=j) (by rw[List.getElem?_set,if_neg hjk]; exact hj),e1,uU,e2,e3⟩
theorem Lone.settle (L:Lone Ts H X) (s:jC h tb bw bp bl c vb aS N Ts W wc F B) {k:Nat} {b:TB} (hk:Ts[k]? = some b) {t r w m id:Int} (hst:dm t r c.S=(k:Int)) (hm:m≠0) {M':List HE} (cl:Nat) (st:eo b.M M' t r w [⟨id,X t r,m,m,0⟩]) :
  Lone (Ts.set k ⟨b.bb,b.bm,M',cl⟩) (gM H t r m) X:=
 L.Jn s hk hst hm cl st fun _ _ _=>rfl
theorem Lone.gone (L:Lone Ts H X) (s:jC h tb bw bp bl c vb aS N Ts W wc F B) {k:Nat} {b:TB} (hk:Ts[k]? = some b) {t r w:Int} (hst:dm t r c.S=(k:Int)) {M':List HE} (cl:Nat) (st:eo b.M M' t r w []) :
  Lone (Ts.set k ⟨b.bb,b.bm,M',cl⟩) (gM H t r 0) X:=by
 have hM:=st.gone rfl
 have hil:=(List.getElem?_eq_some_iff.1 hk).1
 have hb:=List.mem_of_getElem? hk
 subst hM
 constructor
 ·intro b' hb' e he
  obtain ⟨j,hj⟩:=List.getElem?_of_mem hb'
  rcases eW hj with ⟨rfl,rfl⟩ | ⟨hne,hj⟩
  ·obtain ⟨he,hn⟩:=List.mem_filter.1 he
   have hn:=qk.1 hn
   rw[jV H (fun e=>hn ⟨e.1.symm,e.2.symm⟩)]
   exact L.one b hb e he
  ·have hs:=s.nm j b' hj e he
   rw[jV H (fun e1=>by rw[e1.1,e1.2,hst] at hs; omega)]
   exact L.one b' (List.mem_of_getElem? hj) e he
 ·intro t' r' hH
  by_cases hn:t'=t∧r'=r
  ·obtain ⟨rfl,rfl⟩:=hn
   rw[pS] at hH; exact absurd rfl hH
  ·rw[jV H hn] at hH
   obtain ⟨b1,hb1,e1,uU,e2,e3⟩:=L.all t' r' hH
   obtain ⟨j,hj⟩:=List.getElem?_of_mem hb1
   by_cases hjk:k=j
   ·subst hjk
    rw[hk] at hj; cases hj
    exact ⟨_,List.mem_of_getElem? (i:=k) (by rw[List.getElem?_set,if_pos rfl,if_pos hil]),e1,List.mem_filter.2 ⟨uU,qk.2 fun e=>hn ⟨e2.symm.trans e.1.symm,e3.symm.trans e.2.symm⟩⟩,e2,e3⟩
   ·exact ⟨b1,List.mem_of_getElem? (i:=j) (by rw[List.getElem?_set,if_neg hjk]; exact hj),e1,uU,e2,e3⟩
theorem Lone.at (L:Lone Ts H X) (s:jC h tb bw bp bl c vb aS N Ts W wc F B) {t r:Int} (hH:H t r≠0):∃(k:Nat) (b:TB) (e:HE) (id:Int),Ts[k]? = some b∧dm t r c.S=(k:Int)∧e∈b.M∧e.t=t∧e.r=r∧e.Q=[⟨id,X t r,H t r,H t r,0⟩]:=by
 obtain ⟨b,hb,e,he,rfl,rfl⟩:=L.all t r hH
 obtain ⟨k,hk⟩:=List.getElem?_of_mem hb
 obtain ⟨id,hQ,_⟩:=L.one b hb e he
 exact ⟨k,b,e,id,hk,s.nm k b hk e he,he,rfl,rfl,hQ⟩
theorem Lone.no (L:Lone Ts H X) {t r:Int} (hH:H t r=0):∀b∈Ts,∀e∈b.M,¬(t=e.t∧r=e.r):=by
 rintro b hb e he ⟨rfl,rfl⟩
 obtain ⟨id,_,hn⟩:=L.one b hb e he
 exact hn hH
theorem jC.yc (s:jC h tb bw bp bl c vb aS N Ts W wc F B) {b b':TB} (hb:b∈Ts) (hb':b'∈Ts) {e e':HE} (he:e∈b.M) (he':e'∈b'.M) {p p':R5} (hp:p∈e.Q) (hp':p'∈e'.Q) (hid:p.id=p'.id):b=b'∧e=e':=by
 obtain ⟨k,hk⟩:=List.getElem?_of_mem hb
 obtain ⟨j,hj⟩:=List.getElem?_of_mem hb'
 have h1:=s.wh k b hk e he p hp
 have h2:=s.wh j b' hj e' he' p' hp'
 rw[hid,h2] at h1
 have:j=k:=by have:=Option.some.inj h1; omega
 subst this
 rw[hk] at hj; cases hj
 exact ⟨rfl,(s.OG hk).uniq he he' hp hp' hid⟩
theorem Lone.km (L:Lone Ts H X) (s:jC h tb bw bp bl c vb aS N Ts W wc F B) {t r:Int} (hH:H t r≠0):kn (H t r)=true:=by
 obtain ⟨k,b,e,id,hk,_,he,_,_,hQ⟩:=L.at s hH
 have:=((s.is.bk b (List.mem_of_getElem? hk)).good e he).vq.right ⟨id,X t r,H t r,H t r,0⟩ (by rw[hQ]; exact .head _)
 exact this.km
end
theorem OW {id x m:Int}:jG [] 0 id x m=(⟨id,x,m,m,0⟩,0,true):=rfl
theorem G_ {id x m w:Int} (hm:m≠0):dP [⟨id,x,m,w,0⟩]=none:=by
 simp[dP,best,uB,An,hm,List.findIdx?,List.findIdx?.go]
theorem tN {id x m w:Int} (hm:m≠0):dD (ia [⟨id,x,m,w,0⟩]+1) [⟨id,x,m,w,0⟩]=([⟨id,x,m,w,0⟩],[]):=xe (x7 (G_ hm)) _
theorem E8 {id x m w m' W:Int}:(iM [⟨id,x,m,w,0⟩] W ⟨id,x,m,w,0⟩ m')=(⟨id,x,bR m m',bR m m',0⟩,W,true):=by
 unfold iM
 rw[if_pos]
 simp[gF,uB]
theorem iw {id d x m w s:Int}:bV [⟨id,x,m,w,s⟩] d=if id=d then some ⟨id,x,m,w,s⟩ else none:=by
 simp only[bV,b6,List.find?_cons,List.find?_nil]
 split<;>simp_all
theorem eo.cnt {M M':List HE} {clock:Nat} (o:fh M clock) {t r w:Int} {Q:List R5} (st:eo M M' t r w Q):M'.length≤M.length+1:=by
 have:=st.len
 have h2:=List.length_filter_le (fun x=>!tH t r x) M
 omega
structure iA where
 k:Int
 x:Int
 t:Int
 r:Int
 m:Int
 w:Int
 to:Int
def BR (a:iA):List Value:=[.int .i64 a.k,.int .i64 a.x,.int .i64 a.t,.int .i64 a.r,.int .i64 a.m,.int .i64 a.w,.int .i64 a.to]
def kO (a:iA):Bool:=decide (a_ a.t a.r≠-1) && (if a.k=1 then kn a.m && decide (a.m≠0) && decide (0≤a.w) else if a.k=3 then decide (a.to≠a.x) else decide (a.k=2))
def tO (H:Int→Int→Int) (a:iA):Int:=if a.k=1 then 1 else if H a.t a.r=0 then 6 else 1
def He (H:Int→Int→Int) (a:iA):Int→Int→Int:=if a.k=1 then gM H a.t a.r (bR (H a.t a.r) a.m) else gM H a.t a.r 0
def oS (ty:TypeId) (op:Bool):Prop:=ty=194∨ty=205∨ty=267∨ty=55∨ty=57∨ty=286∨ty=4∨(ty=3∧op=true)
theorem dJ.only {h h':Heap} {bp bl:Nat} {F:List Int} {B:List Bool} (p:dJ h bp bl F B) (hn:h.nx≤h'.nx) (hl:h'.lo=h.lo) (hc:∀c vs ty op,c<h.nx→oS ty op→(ty=3→FB h bp c)→h.bl.get c=some (aa vs ty op)→h'.bl.get c=h.bl.get c):dJ h' bp bl F B:=by
 have pl:=p.lt
 have fl:=p.fr.lt
 obtain ⟨fs,hg,hpt⟩:=p.fr.cell
 refine ⟨⟨by omega,by rw[hl]; exact p.fr.lo,fs,(hc _ _ _ _ fl (by simp[oS]) (fun e=>absurd e (by decide)) hg).trans hg,?_⟩,by omega,by rw[hl]; exact p.lo,(hc _ _ _ _ pl (by simp[oS]) (fun e=>absurd e (by decide)) p.cell).trans p.cell,p.ok,p.small⟩
 rcases hpt with e | ⟨b,G,e,k1,k2,k3,k4⟩
 ·exact .inl e
 ·exact .inr ⟨b,G,e,by omega,by omega,(hc _ _ _ _ k1 (by simp[oS]) (fun _=>⟨_,_,_,by rw[hg,e]⟩) k3).trans k3,k4⟩
theorem aZ.only {h h':Heap} {bb bm bp bl most clock:Nat} {M:List HE} {F:List Int} {B:List Bool} (s:aZ h bb bm bp bl most M clock F B) (hn:h.nx≤h'.nx) (hl:h'.lo=h.lo) (hc:∀c vs ty op,c<h.nx→oS ty op→(ty=3→FB h bp c)→h.bl.get c=some (aa vs ty op)→h'.bl.get c=h.bl.get c) (hm:h'.bl.get bm=h.bl.get bm):aZ h' bb bm bp bl most M clock F B:=by
 have sb:=s.Qd
 have sm:=s.vJ
 refine ⟨by omega,by omega,by rw[hl]; exact s.RU,(hc _ _ _ _ sb (by simp[oS]) (fun e=>absurd e (by decide)) s.gU).trans s.gU,hm.trans s.fQ,s.ok,fun e he=>?_,s.good,s.aY.only hn hl hc,s.ne⟩
 have a:=s.aS e he
 have al:=a.lt
 exact ⟨by omega,(hc _ _ _ _ al (by simp[oS]) (fun e=>absurd e (by decide)) a.get).trans a.get,a.qv.frame hn fun c vs op h1 hg=>hc c vs _ op h1 (by simp[oS]) (fun e=>absurd e (by decide)) hg⟩
section
variable {h h':Heap} {tb bw bp bl:Nat} {c:fZ} {vb:Value} {aS N:Nat} {Ts:List TB} {W:List IE} {wc:Nat} {F:List Int} {B:List Bool}
theorem ep.only (s:ep h tb bw bp bl c vb aS Ts W wc F B) (hn:h.nx≤h'.nx) (hl:h'.lo=h.lo) (hc:∀c vs ty op,c<h.nx→oS ty op→(ty=3→FB h bp c)→h.bl.get c=some (aa vs ty op)→h'.bl.get c=h.bl.get c) (hw:h'.bl.get bw=h.bl.get bw) (hm:∀b∈Ts,h'.bl.get b.bm=h.bl.get b.bm):ep h' tb bw bp bl c vb aS Ts W wc F B:=by
 have h1:=s.YA
 have h2:=s.BL
 have k1:=Sl.G5 (h':=h') s.sl s.ty hn fun c vs op h1 hg=>hc c vs _ op h1 (by simp[oS]) (fun e=>absurd e (by decide)) hg
 exact ⟨by omega,(hc _ _ _ _ h1 (by simp[oS]) (fun e=>absurd e (by decide)) s.lJ).trans s.lJ,k1.1,k1.2,by omega,by rw[hl]; exact s.low,hw.trans s.nQ,fun b hb=>(s.bk b hb).only hn hl hc (hm b hb),s.E3,s.Z8,s.aY.only hn hl hc,s.cS,s.s1,s.hd⟩
theorem jC.only (s:jC h tb bw bp bl c vb aS N Ts W wc F B) (hn:h.nx≤h'.nx) (hl:h'.lo=h.lo) (hc:∀c vs ty op,c<h.nx→oS ty op→(ty=3→FB h bp c)→h.bl.get c=some (aa vs ty op)→h'.bl.get c=h.bl.get c) (hw:h'.bl.get bw=h.bl.get bw) (hm:∀b∈Ts,h'.bl.get b.bm=h.bl.get b.bm):jC h' tb bw bp bl c vb aS N Ts W wc F B:=
 ⟨s.is.only hn hl hc hw hm,s.ids,s.wh,s.nm,s.wb,s.len,s.cR,s.cH⟩
theorem jC.put (s:jC h tb bw bp bl c vb aS N Ts W wc F B) {d:Nat} (o:bC) (hd:∀vs ty op,oS ty op→h.bl.get d≠some (aa vs ty op)) (hw:d≠bw) (hm:∀b∈Ts,d≠b.bm):jC ⟨h.nx,h.bl.aT d o,h.lo⟩ tb bw bp bl c vb aS N Ts W wc F B:=
 s.only (Nat.le_refl _) rfl (fun c vs ty op _ ht _ hg=>T.ai _ _ (by rintro rfl; exact hd vs ty op ht hg)) (T.ai _ _ hw) fun b hb=>T.ai _ _ (hm b hb)
end
end Go.Proofs
