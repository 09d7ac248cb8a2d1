/-
  PROVED HERE: a part of the proof (VaiS6, VaiS7, VaiS8, VaiS9, VaiS10, VaiS11, VaiS12, VaiS13, VaiS14).
-/
import Derived.Test.YtmjghbjpdoeemaaGreatDoorG0
import Derived.Laws.Append
import Derived.Laws.AppendOwn
import Derived.Laws.Small
import Derived.Laws.IdiomStrings
import Derived.Laws.BytesArg
import Derived.OrdersIn
import Derived.RangeFuncRecord
set_option linter.unusedVariables false
set_option linter.unusedSimpArgs false
namespace Go.Vai
open Go
variable {β:Type} {fl:β} {good:β→Prop} {P:Program} {φ:dm} {h:Heap} {w:World} {t:TypeId}
noncomputable def lay:List Value→T Value→Nat→T Value
 | [],c,_=>c
 | v::vs,c,off=>lay vs (c.aS off v) (off+1)
theorem uc (vs:List Value):∀(c:T Value) (off:Nat) (κ:T Value→Nat→β),MT vs c off κ=κ (lay vs c off) (off+vs.length):=by
 induction vs with
 | nil=>intro c off κ; rfl
 | cons v vs ih=>
  intro c off κ
  show T.set c off v (fun c=>tX (Nat.succ off) fun off=>MT vs c off κ)=_
  rw[T.b6,bL,ih]
  simp only[lay,List.length_cons]
  congr 1; omega
theorem qB (vs:List Value):∀(c:T Value) (off:Nat),off+vs.length≤2 ^ 199→∀i,Small i→(lay vs c off).get i=if off≤i∧i<off+vs.length then vs[i-off]? else c.get i:=by
 induction vs with
 | nil=>intro c off _ i _; simp[lay]; omega
 | cons v vs ih=>
  intro c off ho i hi
  simp only[List.length_cons] at ho
  have hso:Small off:=by unfold Small; omega
  rw[lay,ih _ _ (by omega) i hi,T.kj c v hso hi]
  by_cases h1:off+1≤i∧i<off+1+vs.length
  ·rw[if_pos h1,if_pos (by simp; omega),show i-off=(i-(off+1))+1 by omega]; simp
  ·rw[if_neg h1]
   by_cases h2:off=i
   ·subst h2; simp
   ·rw[if_neg h2,if_neg (by simp; omega)]
theorem AE {n m:Nat} (h:n≤m) (hm:m≤4611686018427387904):Small n:=by unfold Small; omega
theorem ng (hfl:¬good fl) {vs:List Value} {e:TypeId} {MB:Bool} {κ:bt→β} (hg:good (aF fl vs e MB κ)) :
  vs.length≤1000000000000∧good (κ (.cells vs.length (lay vs .nil 0) e MB)):=by
 unfold aF at hg
 rw[uc] at hg
 simp only[Nat.zero_add] at hg
 split at hg
 ·rename_i hle; exact ⟨cu hle,hg⟩
 ·exact absurd hg hfl
theorem IT {vs vs':List Value} (hv:F2 (VR φ) vs vs') (hl:vs.length≤1000000000000) (e:TypeId) (pl:Pl) (rest:List Value) (MB:Bool) (ho:MB=true→(vs'++rest).length=pl.sz∧dZ P e=some pl.e∧0<pl.e) :
  OR P φ (.cells vs.length (lay vs .nil 0) e MB) pl (some (.cells (vs'++rest).toArray e (0,0))):=by
 have hlen:=hv.length
 refine ⟨rfl,rfl,by simp; omega,by omega,fun h=>by simpa using ho h,?_⟩
 intro i v jM hi
 rw[qB vs .nil 0 (by omega) i (by unfold Small; omega),if_pos (by omega)] at jM
 simp only[Nat.sub_zero] at jM
 obtain ⟨v',h1,h2⟩:=hv.get i v jM
 refine ⟨v',?_,h2⟩
 have:i<vs'.length:=by omega
 simp[List.getElem?_append_left this,h1]
theorem dn (hfl:¬good fl) {o:bt} {κ:Nat→Heap→β} (hg:good (an fl o h κ)):h.nx≤h.nx∧good (κ h.nx ⟨h.nx+1,h.bl.aS h.nx o,h.lo⟩):=by
 unfold an at hg
 rw[T.b6,bL] at hg
 exact ⟨Nat.le_refl _,hg⟩
def fO (φ:dm) (b:Nat) (pl:Pl):dm:=fun x=>if x=b then some pl else φ x
theorem fG (φ:dm) (b:Nat) (pl:Pl):fO φ b pl b=some pl:=by simp[fO]
theorem oc {b:Nat} {pl:Pl} (hb:φ b=none):Sub φ (fO φ b pl):=fun x p e=>by
 unfold fO
 split
 ·rename_i hx; subst hx; rw[hb] at e; cases e
 ·exact e
theorem HR.uS (hr:HR P φ h w) (hn:h.nx≤h.nx) (o:bt):HR P φ ⟨h.nx+1,h.bl.aS h.nx o,h.lo⟩ w:=by
 have hs:Small h.nx:=by unfold Small; omega
 have fT:∀b,b<h.nx→(h.bl.aS h.nx o).get b=h.bl.get b:=fun b hb=>T.fE _ _ hs (by unfold Small; omega) (by omega)
 refine ⟨?_,?_,?_,?_,?_,Nat.le_succ_of_le hr.lo⟩
 ·intro b o' pl hb hp
  have:=(hr.dom b pl hp).1
  exact hr.obj b o' pl ((fT b this)▸hb) hp
 ·intro b pl hp; have:=hr.dom b pl hp; exact ⟨by show b<h.nx+1; omega,this.2⟩
 ·intro b o' hsb hb
  show b<h.nx+1
  rw[T.kj _ _ hs hsb] at hb
  split at hb
  ·omega
  ·have:=hr.keys b o' hsb hb; omega
 ·show h.nx+1<h.nx+1+1; omega
 ·intro b b' o1 o2 pl jY g1 g2 l1 l2 p1 p2 e
  have d1:=(hr.dom b pl p1).1
  have d2:=(hr.dom b' jY p2).1
  exact hr.inj b b' o1 o2 pl jY ((fT b d1)▸g1) ((fT b' d2)▸g2) l1 l2 p1 p2 e
theorem dM {O:Obj} {B:Nat} (hB:B<w.heap.size):(w.alloc O).heap[B]? = w.heap[B]?:=by
 show (w.heap.push O)[B]? = _
 rw[Array.getElem?_push,if_neg (by omega)]
theorem kR {O:Obj}:(w.alloc O).heap[w.heap.size]? = some O:=by
 show (w.heap.push O)[w.heap.size]? = _
 simp
theorem HR.AF (hr:HR P φ h w) {b:Nat} {o:bt} (hb:h.bl.get b=some o) (hp:φ b=none) (uT:b<h.nx) {O:Obj} (sz e:Nat) (ho:OR P φ o ⟨w.heap.size,sz,e⟩ (some O)) :
  HR P (fO φ b ⟨w.heap.size,sz,e⟩) h (w.alloc O):=by
 have hsub:=oc (pl:=⟨w.heap.size,sz,e⟩) hp
 refine ⟨?_,?_,hr.keys,hr.MX,?_,hr.lo⟩
 ·intro x o' pl hx y9
  unfold fO at y9
  split at y9
  ·rename_i he; subst he; cases y9
   rw[hb] at hx; cases hx
   show OR P _ o _ ((w.alloc O).heap[w.heap.size]?)
   rw[kR]
   exact ho.mono hsub
  ·have hB:=(hr.dom x pl y9).2
   rw[dM hB]
   exact (hr.obj x o' pl hx y9).mono hsub
 ·intro x pl y9
  unfold fO at y9
  split at y9
  ·rename_i he; subst he; cases y9; exact ⟨uT,by simp⟩
  ·have:=hr.dom x pl y9; exact ⟨this.1,by simp; omega⟩
 ·intro x x' o1 o2 pl jY g1 g2 l1 l2 p1 p2 e
  unfold fO at p1 p2
  split at p1<;>split at p2
  ·omega
  ·rename_i h1 h2; cases p1; have:=(hr.dom x' jY p2).2; simp at e; omega
  ·rename_i h1 h2; cases p2; have:=(hr.dom x pl p1).2; simp at e; omega
  ·exact hr.inj x x' o1 o2 pl jY g1 g2 l1 l2 p1 p2 e
theorem Ext.AF {φ0:dm} {h0:Heap} {w0:World} (hx:Ext φ0 φ h0 h w0 w) {b:Nat} (hp:φ b=none) (hb:h0.nx≤b) (O:Obj) (hO:UF (some O)) (sz e:Nat):Ext φ0 (fO φ b ⟨w.heap.size,sz,e⟩) h0 h w0 (w.alloc O) where
 sub:=hx.sub.trans (oc hp)
 new:=fun x pl e0 e1=>by
  unfold fO at e1
  split at e1
  ·rename_i he; subst he; cases e1; exact ⟨hb,.inl hx.size⟩
  ·exact hx.new x pl e0 e1
 nx:=hx.nx
 size:=Nat.le_trans hx.size (by simp)
 yW:=fun B hB hn=>by
  have:=hx.size
  rw[dM (by omega)]; exact hx.yW B hB hn
 Dx:=hx.Dx
 tape:=hx.tape
 os:=hx.os
 output:=hx.output
 lo:=hx.lo
 E1:=hx.E1
 E2:=fun x o pl h1 h2 h3 h4 h5=>by
  have:=hx.size
  rw[dM (by omega)]; exact hx.E2 x o pl h1 h2 h3 h4 h5
 dr:=hx.dr
 fz:=fun B h=>by
  have h1:=hx.fz B h
  rcases Nat.lt_trichotomy B w.heap.size with hl | hl | hl
  ·rw[dM hl]; exact h1
  ·subst hl
   have:(w.alloc O).heap[w.heap.size]? = some O:=by show (w.heap.push O)[w.heap.size]? = _; simp
   rw[this]; exact hO
  ·have:(w.alloc O).heap[B]? = none:=by show (w.heap.push O)[B]? = _; simp; omega
   rw[this]; trivial
theorem Ext.uS {φ0:dm} {h0:Heap} {w0:World} (hx:Ext φ0 φ h0 h w0 w) (hlo:h.lo≤h.nx) (hn:h.nx≤h.nx) (o:bt):Ext φ0 φ h0 ⟨h.nx+1,h.bl.aS h.nx o,h.lo⟩ w0 w where
 sub:=hx.sub
 new:=hx.new
 nx:=Nat.le_trans hx.nx (Nat.le_succ _)
 size:=hx.size
 yW:=hx.yW
 Dx:=fun b hb hp=>by
  have:=hx.nx
  rw[←hx.Dx b hb hp]
  exact T.fE _ _ (by unfold Small; omega) (by unfold Small; omega) (by omega)
 tape:=hx.tape
 os:=hx.os
 output:=hx.output
 fz:=hx.fz
 lo:=hx.lo
 E2:=hx.E2
 dr:=hx.dr
 E1:=fun b hb=>by
  have:=hx.lo
  rw[←hx.E1 b hb]
  exact T.fE _ _ (by unfold Small; omega) (by unfold Small; omega) (by omega)
theorem HR.fresh (hr:HR P φ h w) (hn:h.nx≤h.nx) {o:bt} {O:Obj} (sz e:Nat) (ho:OR P φ o ⟨w.heap.size,sz,e⟩ (some O)) (hl:o.live) :
  HR P (fO φ h.nx ⟨w.heap.size,sz,e⟩) ⟨h.nx+1,h.bl.aS h.nx o,h.lo⟩ (w.alloc O)∧Ext φ (fO φ h.nx ⟨w.heap.size,sz,e⟩) h ⟨h.nx+1,h.bl.aS h.nx o,h.lo⟩ w (w.alloc O):=by
 have hnone:φ h.nx=none:=by
  cases hp:φ h.nx with
  | none=>rfl
  | some pl=>have:=(hr.dom _ _ hp).1; omega
 exact ⟨(hr.uS hn o).AF (T.af _ _ _) hnone (Nat.lt_succ_self _) sz e ho,((Ext.refl φ h w).uS hr.lo hn o).AF hnone (Nat.le_refl _) O (qz ho hl) sz e⟩
def Names (mk:Nat→Value):Prop:=∀(φ:dm) (b:Nat) (pl:Pl),φ b=some pl→VR φ (mk b) (mk pl.B)
theorem x5:Names ptrTo:=fun _ _ _ h=>.ptr h
theorem GO:Names gL:=fun _ _ _ h=>.map h
theorem s_ {n c:Nat} (h1:n≤c) (h2:c<aD):Names (sliceTo n c):=fun _ _ _ h=>.slice h h1 h2
theorem ni (zs:List Value) (n:Nat):(aT zs n).length=n*zs.length:=by
 induction n with
 | zero=>simp[aT]
 | succ n ih=>simp[aT,ih,Nat.succ_mul]; omega
theorem AG (zs:List Value) (n i:Nat) (hi:i<n*zs.length):(aT zs n)[i]? = zs[i % zs.length]?:=by
 induction n generalizing i with
 | zero=>omega
 | succ n ih=>
  rw[Nat.succ_mul] at hi
  simp only[aT]
  rcases Nat.lt_or_ge i zs.length with h1 | h1
  ·rw[List.getElem?_append_left h1,Nat.mod_eq_of_lt h1]
  ·rw[List.getElem?_append_right h1,ih _ (by omega)]
   congr 1
   exact (Nat.mod_eq_sub_mod h1).symm
theorem qC (z:Array Value) (n m:Nat) (hm:m=n*z.size):(Array.range m).map (fun i=>z[i % z.size]!)=(aT z.toList n).toArray:=by
 subst hm
 apply Array.ext'
 simp
 apply List.ext_getElem?
 intro i
 by_cases hi:i<n*z.size
 ·have h0:0<z.size:=by rcases Nat.eq_zero_or_pos z.size with h | h; · rw[h] at hi; omega
                       ·exact h
  have h1:i % z.size<z.size:=Nat.mod_lt _ h0
  rw[AG _ _ _ (by simpa using hi)]
  simp[hi,h1,getElem!_pos]
 ·rw[List.getElem?_eq_none (by simpa using hi),List.getElem?_eq_none (by rw[ni]; simpa using hi)]
theorem iG {zs:List Value} (hz:zs.all fe=true) (n:Nat):(aT zs n).all fe=true:=by
 induction n with
 | zero=>rfl
 | succ n ih=>simp only[aT,List.all_append,hz,ih,Bool.and_self]
theorem oe {z:List Value} {s:Nat} (h:Q9 P t=some (z,s)):zeroOf P t=some z∧dZ P t=some s∧z.length=s∧0<s:=by
 unfold Q9 at h
 split at h<;>try (cases h; done)
 rename_i z' s' h1 h2
 split at h<;>try (cases h; done)
 rename_i hl
 cases h
 exact ⟨h1,h2,cF hl,Nat.succ_pos _⟩
theorem ta (hfl:¬good fl) {op:Op} {i:XA β} (hc:oQ fl P op=some i) {tm:T Value} {ρ:Operand→Value} (hρ:∀y∈op.operands.toList,VR φ (dV tm y) (ρ y))
  {κ:bt→(Nat→Value)→β} (hg:good (i.run tm κ)) {o:Oper} (ho:o.op=op) :
  ∃ob mk O,good (κ ob mk)∧ob.live∧(∀pl,OR P φ ob pl (some O))∧Names mk∧(execOp ρ o).run P w=.ok (.value (mk w.heap.size)) (w.alloc O):=by
 have one:∀{vs vs':List Value} {e:TypeId} {mk:Nat→Value} ,F2 (VR φ) vs vs'→good (aF fl vs e false fun o=>κ o mk)→Names mk→
   (∀O,O=Obj.cells vs'.toArray e (0,0)→(execOp ρ o).run P w=.ok (.value (mk w.heap.size)) (w.alloc O))→
   ∃ob mk O,good (κ ob mk)∧ob.live∧(∀pl,OR P φ ob pl (some O))∧Names mk∧(execOp ρ o).run P w=.ok (.value (mk w.heap.size)) (w.alloc O):=by
  intro vs vs' e mk hv hg hn hrun
  obtain ⟨h1,h2⟩:=ng hfl hg
  refine ⟨_,mk,.cells vs'.toArray e (0,0),h2,trivial,fun pl=>?_,hn,hrun _ rfl⟩
  have:=IT (P:=P) hv h1 e pl [] false (fun e=>by cases e)
  simpa using this
 cases op<;>simp only[oQ] at hc<;>try (cases hc; done)
 case alloc e=>
  split at hc<;>try (cases hc; done)
  rename_i z hz
  cases hc; rw[XA.IM] at hg
  obtain ⟨v,inf,hi,IU,rfl,hb⟩:=fM hz
  refine one (gz hb) hg x5 fun O hO=>?_
  subst hO
  simp[execOp,ho,Instr.alloc,fW hi IU,newVar,newRow,ptrTo]
 case box e x=>
  cases hc; rw[XA.bS] at hg
  refine one (hρ x (by simp[Op.operands])).cells hg x5 fun O hO=>?_
  subst hO
  simp[execOp,ho,Instr.box,newVar,newRow,ptrTo]
 case buildSlice t len parts=>
  split at hc<;>try (cases hc; done)
  rename_i e hu
  split at hc<;>try (cases hc; done)
  rename_i z s hz hlen
  split at hc<;>try (cases hc; done)
  rename_i ps hps hs
  cases hc; rw[XA.fS] at hg
  rw[List.map_map] at hg
  obtain ⟨hz1,DN,Rc,VC⟩:=oe hz
  obtain ⟨v,inf,hi,IU,hzl,hb⟩:=fM hz1
  have hlen:=cu hlen
  have hs:=cu hs
  obtain ⟨r,r',g1,g2,g3⟩:=sY (φ:=φ) hfl tm ρ _ parts.toList ps hps (fun p An=>hρ p.2 (by simp[Op.operands]; exact ⟨p.1,by simpa using An⟩)) _ _ (gz (iG hb len)) _ hg
  refine one g2 g1 (s_ (Nat.le_refl _) (by rw[iM]; omega)) fun O hO=>?_
  subst hO
  have h1:¬len*s > 2 ^ 24:=by
   have:len*s≤10000*1000:=Nat.mul_le_mul hlen hs
   omega
  have hsize:v.cells.size=s:=by rw[←Rc,hzl]; simp
  have h2:(if len*s=0 then (#[]:Array Value) else v.cells)=(if len*s=0 then #[] else v.cells):=rfl
  have h3:(Array.range (len*s)).map (fun i=>v.cells[i % v.cells.size]!)=(aT z len).toArray:=by
   rw[qC v.cells len (len*s) (by rw[hsize]),hzl]
  have Ra:Instr.fill (fun i=>some (i*s,s)) (aT z len).toArray (parts.toList.map fun p=>(p.1,ρ p.2))=some r'.toArray:=g3
  by_cases h0:len*s=0
  ·have hl0:len=0:=by rcases Nat.mul_eq_zero.1 h0 with h | h<;>omega
   subst hl0
   simp[aT] at Ra
   simp[execOp,ho,Instr.buildSlice,aL hu,bZ DN,Ra,newRow,sliceTo,Array.range_zero']
  ·simp[execOp,ho,Instr.buildSlice,aL hu,bZ DN,h1,h0,fW hi IU,h3,Ra,newRow,sliceTo]
 case makeMap t r=>
  have fin:good (κ (.map [] 0) gL)→(execOp ρ o).run P w=.ok (.value (gL w.heap.size)) (w.alloc (.map #[] 0))→
    ∃ob mk O,good (κ ob mk)∧ob.live∧(∀pl,OR P φ ob pl (some O))∧Names mk∧(execOp ρ o).run P w=.ok (.value (mk w.heap.size)) (w.alloc O):=
   fun g1 g2=>⟨_,gL,.map #[] 0,g1,trivial,fun pl=>⟨rfl,.nil⟩,GO,g2⟩
  split at hc
  ·cases hc; rw[XA.IM] at hg
   exact fin hg (by simp[execOp,ho,Instr.makeMap,gL])
  ·rename_i x
   split at hc<;>try (cases hc; done)
   rename_i hu
   cases hc; rw[XA.bS] at hg
   split at hg<;>try exact absurd hg hfl
   rename_i k n hx
   have hv:=hρ x (by simp[Op.operands])
   rw[hx] at hv
   generalize hy:ρ x=y at hv
   cases hv
   exact fin hg (by simp[execOp,ho,Instr.makeMap,gL,aL hu,hy,asInt,asIntOf])
 case makeSlice t l c=>
  split at hc<;>try (cases hc; done)
  rename_i e hu
  split at hc<;>try (cases hc; done)
  rename_i z s inf hz hi
  split at hc<;>try (cases hc; done)
  rename_i hbytes
  have hbytes:=cu hbytes
  cases hc; rw[XA.cG] at hg
  split at hg<;>try exact absurd hg hfl
  rename_i k1 l' k2 c' hl E7
  split at hg<;>try exact absurd hg hfl
  rename_i hle Re
  have hle:=cu hle
  have Re:=cu Re
  have ZT:=hρ l (by simp[Op.operands])
  have Rf:=hρ c (by simp[Op.operands])
  rw[hl] at ZT
  rw[E7] at Rf
  generalize hy1:ρ l=y1 at ZT
  generalize hy2:ρ c=y2 at Rf
  cases ZT; cases Rf
  obtain ⟨hz1,DN,Rc,VC⟩:=oe hz
  obtain ⟨v,Rg,hi',IU,hzl,hb⟩:=fM hz1
  rw[hi] at hi'; cases hi'
  refine one (gz (iG hb c')) hg (s_ hle (by rw[iM]; omega)) fun O hO=>?_
  subst hO
  have w1:IntKind.i64.wrap (l':Int)=l':=IntWalk.i64_in _ ⟨by omega,by omega⟩
  have w2:IntKind.i64.wrap (c':Int)=c':=IntWalk.i64_in _ ⟨by omega,by omega⟩
  have hbc:(inf.bytes:Int)*(c':Int)≤2 ^ 48:=by
   have:inf.bytes*c'≤1000000*1000000:=Nat.mul_le_mul hbytes Re
   have h2:(inf.bytes:Int)*(c':Int)=((inf.bytes*c':Nat):Int):=by simp
   rw[h2]
   omega
  have hsize:v.cells.size=s:=by rw[←Rc,hzl]; simp
  have c1:decide ((c':Int)<0)=false:=decide_eq_false (by omega)
  have c2:decide ((inf.bytes:Int)*(c':Int) > 2 ^ 48)=false:=decide_eq_false (by omega)
  have c3:¬((l':Int)<0):=by omega
  have c4:¬((l':Int) > (c':Int)):=by omega
  have h3:(Array.range (c'*s)).map (fun i=>v.cells[i % v.cells.size]!)=(aT z c').toArray:=by
   rw[qC v.cells c' (c'*s) (by rw[hsize]),hzl]
  have hA:(asInt (.int k1 (l':Int))).run P w=.ok (l':Int) w:=by simp[asInt,asIntOf]
  have hB:(asInt (.int k2 (c':Int))).run P w=.ok (c':Int) w:=by simp[asInt,asIntOf]
  have hrun:(Instr.makeSlice t (.int k1 (l':Int)) (.int k2 (c':Int))).run P w=.ok (sliceTo l' c' w.heap.size) (w.alloc (.cells (aT z c').toArray e (0,0))):=by
   unfold Instr.makeSlice
   simp only[Sem.run_bind,aL hu,Result.andThen_ok,hA,hB,mZ hi,w1,w2]
   simp only[c1,c2,Bool.or_self,c3,c4]
   by_cases h0:c'*s=0
   ·have hc0:c'=0:=by rcases Nat.mul_eq_zero.1 h0 with h | h<;>omega
    subst hc0
    simp[bZ DN,newRow,sliceTo,aT,Array.range_zero']
   ·have h3':(Array.range (c'*s)).map (fun i=>v.cells[i % v.cells.size]!)=(aT z c').toArray:=h3
    simp[bZ DN,h0,fW hi IU,h3',newRow,sliceTo]
  simp only[execOp,ho,hy1,hy2]
  exact iw hrun
theorem iN (hfl:¬good fl) (n:Nat):∀(vs:List Value) (c:T Value) (off:Nat) (κ:T Value→β),good (kP fl n vs c off κ)→
  (∀v∈vs,d_ v=true)∧(vs≠[]→off+vs.length≤n)∧good (κ (lay vs c off)):=by
 intro vs
 induction vs with
 | nil=>intro c off κ hg; exact ⟨fun v hv=>(by cases hv),fun hh=>absurd rfl hh,hg⟩
 | cons v vs ih=>
  intro c off κ hg
  have hg':good (Bool.rec (motive:=fun _=>β) fl (Bool.rec (motive:=fun _=>β) fl (T.set c off v fun c=>kP fl n vs c (Nat.succ off) κ) (Nat.ble (Nat.succ off) n)) (d_ v)):=hg
  cases h1:d_ v with
  | false=>rw[h1] at hg'; exact absurd hg' hfl
  | true=>
   rw[h1] at hg'
   cases h2:Nat.ble (Nat.succ off) n with
   | false=>rw[h2] at hg'; exact absurd hg' hfl
   | true=>
    rw[h2] at hg'
    simp only[T.b6] at hg'
    obtain ⟨g1,g2,g3⟩:=ih _ _ _ hg'
    refine ⟨fun u hu=>?_,fun _=>?_,g3⟩
    ·simp at hu; rcases hu with rfl | hu
     ·exact h1
     ·exact g1 u hu
    ·have:=cu h2
     cases vs with
     | nil=>simp; omega
     | cons x vs=>have:=g2 (by simp); simp at this ⊢; omega
theorem E8 {v v':Value} (h1:d_ v=true) (hv:VR φ v v'):v'.oneCell'=true:=by
 cases hv<;>first | rfl | (simp[d_] at h1)
theorem HR.rowAt (hr:HR P φ h w) {b n e:Nat} {c:T Value} {op:Bool} {pl:Pl} (hb:h.bl.get b=some (.cells n c e op)) (hp:φ b=some pl) :
  ∃C,w.heap[pl.B]? = some (.cells C e (0,0))∧n≤C.size∧n≤4611686018427387904∧(op=true→C.size=pl.sz∧dZ P e=some pl.e∧0<pl.e)∧∀i v,c.get i=some v→i<n→∃v',C[i]? = some v'∧VR φ v v':=by
 have:=hr.obj b _ pl hb hp
 cases hO:w.heap[pl.B]? with
 | none=>rw[hO] at this; exact this.elim
 | some O=>
  rw[hO] at this
  cases O<;>simp only[OR] at this<;>try exact this.elim
  obtain ⟨rfl,rfl,h3,h4,h5,h6⟩:=this
  exact ⟨_,rfl,h3,h4,h5,h6⟩
theorem AH (hr:HR P φ h w) {b:Nat} (hb:b≤h.nx):Small b:=by have:=hr.MX; unfold Small; omega
theorem HR.AI (hr:HR P φ h w) {b:Nat} (hlo:h.lo≤b) {o:bt} {pl:Pl} (hp:φ b=some pl) (VD:∃q,h.bl.get b=some q∧q.live) {w':World}
  (hsz:w'.heap.size=w.heap.size) (AJ:∀k,k≠pl.B→w'.heap[k]? = w.heap[k]?)
  (ho:OR P φ o pl w'.heap[pl.B]?) (ht:w'.tape=w.tape) (hos:w'.os=w.os) (hout:w'.output=w.output) (hu:o.live∨(UF w.heap[pl.B]?→UF w'.heap[pl.B]?)) (PE:w.drawn≤w'.drawn:=by exact Nat.le_refl _) :
  HR P φ ⟨h.nx,h.bl.aS b o,h.lo⟩ w'∧Ext φ φ h ⟨h.nx,h.bl.aS b o,h.lo⟩ w w':=by
 have uT:=(hr.dom b pl hp).1
 have hsb:Small b:=AH hr (Nat.le_of_lt uT)
 have fT:∀x,x<h.nx→x≠b→(h.bl.aS b o).get x=h.bl.get x:=fun x hx ME=>T.fE _ _ hsb (AH hr (Nat.le_of_lt hx)) (Ne.symm ME)
 obtain ⟨q,hq1,uU⟩:=VD
 constructor
 ·refine ⟨?_,?_,?_,hr.MX,?_,hr.lo⟩
  ·intro x o' jY hx y9
   by_cases ME:x=b
   ·subst ME
    rw[hp] at y9; cases y9
    rw[T.af] at hx; cases hx
    exact ho
   ·have PF:=(hr.dom x jY y9).1
    have hx':h.bl.get x=some o':=(fT x PF ME)▸hx
    by_cases hB:jY.B=pl.B
    ·
     have hd:¬o'.live:=fun hl=>ME (hr.inj x b o' q jY pl hx' hq1 hl uU y9 hp hB)
     have h1:=hr.obj x o' jY hx' y9
     cases o' with
     | dead n e=>
      have h2:n≤jY.sz∧n≤4611686018427387904∧dZ P e=some jY.e∧0<jY.e:=by
       cases hO:w.heap[jY.B]? with
       | none=>rw[hO] at h1; exact h1
       | some O=>rw[hO] at h1; cases O<;>exact h1
      cases w'.heap[jY.B]? with
      | none=>exact h2
      | some O=>cases O<;>exact h2
     | cells=>exact absurd trivial hd
     | map=>exact absurd trivial hd
     | dy=>exact absurd trivial hd
     | PB=>exact absurd trivial hd
     | loop=>exact absurd trivial hd
     | ro=>exact absurd trivial hd
    ·rw[AJ _ hB]; exact hr.obj x o' jY hx' y9
  ·intro x jY y9; have:=hr.dom x jY y9; exact ⟨this.1,by rw[hsz]; exact this.2⟩
  ·intro x o' VE hx
   show x<h.nx
   rw[T.kj _ _ hsb VE] at hx
   split at hx
   ·rename_i he; subst he; exact uT
   ·exact hr.keys x o' VE hx
  ·intro x x' o1 o2 ZU ZV g1 g2 l1 l2 p1 p2 e
   have n1:=(hr.dom x ZU p1).1
   have n2:=(hr.dom x' ZV p2).1
   have key:∀y oy py,y<h.nx→(h.bl.aS b o).get y=some oy→oy.live→φ y=some py→∃o',h.bl.get y=some o'∧o'.live:=by
    intro y oy py hy gy ly _
    by_cases hyb:y=b
    ·subst hyb; exact ⟨q,hq1,uU⟩
    ·exact ⟨oy,(fT y hy hyb)▸gy,ly⟩
   obtain ⟨q1,a1,b1⟩:=key x o1 ZU n1 g1 l1 p1
   obtain ⟨q2,a2,b2⟩:=key x' o2 ZV n2 g2 l2 p2
   exact hr.inj x x' q1 q2 ZU ZV a1 a2 b1 b2 p1 p2 e
 ·refine ⟨Sub.refl φ,fun b pl a b'=>(by rw[a] at b'; cases b'),Nat.le_refl _,by rw[hsz]; exact Nat.le_refl _,?_,?_,ht,hos,hout,?_,rfl,fun x hx=>fT x (Nat.lt_of_lt_of_le hx hr.lo) (by omega),fun x o jY h1 h2 h3 h4 h5=>AJ jY.B fun e=>absurd (hr.inj x b o q jY pl h2 hq1 h3 uU h4 hp e) (by omega),PE⟩
  ·intro B _ hn; exact AJ B fun e=>hn b pl hp e.symm
  ·intro x hx hn
   exact fT x hx fun e=>by subst e; rw[hp] at hn; cases hn
  ·intro B hB
   by_cases he:B=pl.B
   ·subst he
    rcases hu with hu | hu
    ·exact qz ho hu
    ·exact hu hB
   ·rw[AJ B he]; exact hB
theorem HR.storeAt (hr:HR P φ h w) {b n e off:Nat} (hlo:h.lo≤b) {c:T Value} {op:Bool} {pl:Pl} (hb:h.bl.get b=some (.cells n c e op)) (hp:φ b=some pl) {vs vs':List Value} (hv:F2 (VR φ) vs vs')
  (h1:∀v∈vs,d_ v=true) (h2:vs≠[]→off+vs.length≤n) :
  ∃w',(storeCells ⟨pl.B,off,none⟩ vs').run P w=.ok () w'∧HR P φ ⟨h.nx,h.bl.aS b (.cells n (lay vs c off) e op),h.lo⟩ w'∧Ext φ φ h ⟨h.nx,h.bl.aS b (.cells n (lay vs c off) e op),h.lo⟩ w w':=by
 obtain ⟨C,hC,y_,hn2,hop,hcell⟩:=hr.rowAt hb hp
 have hlen:=hv.length
 have hone:∀v'∈vs',v'.oneCell'=true:=by
  intro v' w9
  obtain ⟨i,hi⟩:=List.getElem?_of_mem w9
  have hi':i<vs'.length:=(List.getElem?_eq_some_iff.1 hi).1
  have:∃v,vs[i]? = some v:=⟨vs[i]'(by omega),List.getElem?_eq_getElem (by omega)⟩
  obtain ⟨v,hvi⟩:=this
  obtain ⟨u,IV,Rh⟩:=hv.get i v hvi
  rw[hi] at IV; cases IV
  exact E8 (h1 v (List.mem_of_getElem? hvi)) Rh
 cases hvs:vs with
 | nil=>
  subst hvs
  cases hv
  refine ⟨w,by simp[storeCells],?_⟩
  have:=hr.AI hlo (o:=.cells n (lay [] c off) e op) hp ⟨_,hb,trivial⟩ (w':=w) rfl (fun _ _=>rfl) (by rw[hC]; exact ⟨rfl,rfl,y_,hn2,hop,hcell⟩) rfl rfl rfl (.inl trivial)
  exact this
 | cons v0 vs0=>
  have hne:vs≠[]:=by rw[hvs]; simp
  have hle:=h2 hne
  rw[←hvs]
  have hrun:=run_storeCells_at P pl.B off e vs' 0 C w hC (by simp; omega) hone
  simp only[Nat.add_zero] at hrun
  refine ⟨_,hrun,?_⟩
  refine hr.AI hlo hp ⟨_,hb,trivial⟩ (setRow_size _ _ _) (fun k hk=>setRow_other _ _ _ _ hk) ?_ rfl rfl rfl (.inl trivial)
  rw[setRow_heap w pl.B C _ e _ hC]
  refine ⟨rfl,rfl,by simp; omega,hn2,fun h=>?_,?_⟩
  ·obtain ⟨k1,k2,k3⟩:=hop h
   refine ⟨?_,k2,k3⟩
   simp
   omega
  ·intro i v jM hi
   rw[qB vs c off (by omega) i (AE (Nat.le_of_lt hi) hn2)] at jM
   split at jM
   ·rename_i hin
    obtain ⟨v',g1,g2⟩:=hv.get _ v jM
    refine ⟨v',?_,g2⟩
    simp only[List.getElem?_toArray,List.append_assoc]
    rw[List.getElem?_append_right (by simp; omega),List.getElem?_append_left (by simp; omega)]
    rw[←g1]; congr 1; simp; omega
   ·rename_i aft
    obtain ⟨v',g1,g2⟩:=hcell i v jM hi
    refine ⟨v',?_,g2⟩
    simp only[List.getElem?_toArray,List.append_assoc]
    rcases Nat.lt_or_ge i off with hlt | hge
    ·rw[List.getElem?_append_left (by simp; omega),List.getElem?_take_of_lt hlt]; simpa using g1
    ·rw[List.getElem?_append_right (by simp; omega),List.getElem?_append_right (by simp; omega),List.getElem?_drop]
     have:off+vs'.length+(i-(List.take off C.toList).length-vs'.length)=i:=by simp; omega
     rw[this]; simpa using g1
end Go.Vai

namespace Go.Vai
open Go
variable {β:Type} {fl:β} {good:β→Prop} {P:Program} {φ:dm} {h:Heap} {w:World} {t:TypeId}
def Ri (nx:Next) (v:Value):Prop:=nx=.value v∨(nx=.skip∧v=undef)
def M1 (good:β→Prop) (P:Program) (φ:dm) (h:Heap) (w:World) (κ:Value→Heap→β) (r:Result Next):Prop:=
 ∃φ' v v' h' w' nx,good (κ v h')∧VR φ' v v'∧HR P φ' h' w'∧Ext φ φ' h h' w w'∧r=.ok nx w'∧Ri nx v'
theorem bq (hfl:¬good fl) {b:Nat} {o:bt} {κ:Heap→β} (hg:good (setBlock fl b o h κ)):h.lo≤b∧good (κ ⟨h.nx,h.bl.aS b o,h.lo⟩):=by
 unfold setBlock at hg
 split at hg
 ·rename_i hle
  rw[T.b6] at hg
  exact ⟨cu hle,hg⟩
 ·exact absurd hg hfl
theorem za (hfl:¬good fl) {s:Nat} (hs:dZ P t=some s) (hr:HR P φ h w) {a a' x x':Value} {κ:Value→Heap→β} (hg:good (aG fl s a x h κ)) (ha:VR φ a a') (hx:VR φ x x') :
  ∃h' w',good (κ undef h')∧HR P φ h' w'∧Ext φ φ h h' w w'∧(Instr.storeAt t a' x').run P w=.ok () w':=by
 unfold aG at hg
 split at hg<;>try exact absurd hg hfl
 cases ha with
 | ptr hp=>
  split at hg<;>try exact absurd hg hfl
  rename_i n c e op hb
  split at hg<;>try exact absurd hg hfl
  rename_i hl; have hl:=cF hl
  obtain ⟨g1,g2,g3⟩:=iN hfl _ _ _ _ _ hg
  obtain ⟨hlo,g3⟩:=bq hfl g3
  obtain ⟨w',k1,k2,k3⟩:=hr.storeAt hlo hb hp hx.cells g1 g2
  refine ⟨_,w',g3,k2,k3,?_⟩
  have hsz:x'.cells.size=s:=by have:=hx.cells.length; simp at this hl; omega
  simp[Instr.storeAt,Instr.sureAddr,storeVar,bZ hs,hsz,k1]
theorem nj (x:MapEntry) (es:List MapEntry) (κ:List MapEntry→β):Au x es κ=κ (es++[x]):=by
 induction es generalizing κ with
 | nil=>rfl
 | cons e es ih=>simp only[Au,ih,List.cons_append]
theorem qD (f:MapEntry→MapEntry):∀(i:Nat) (es:List MapEntry) (κ:List MapEntry→β),setAt f i es κ=κ (es.modify i f):=by
 intro i es
 induction es generalizing i with
 | nil=>intro κ; cases i<;>simp[setAt]
 | cons e es ih=>intro κ; cases i<;>simp[setAt,ih]
theorem uV:∀(i:Nat) (es:List MapEntry) (κ:List MapEntry→β),xS i es κ=κ (es.eraseIdx i):=by
 intro i es
 induction es generalizing i with
 | nil=>intro κ; cases i<;>simp[xS]
 | cons e es ih=>intro κ; cases i<;>simp[xS,ih]
theorem HR.uW (hr:HR P φ h w) {b clock clock':Nat} (hlo:h.lo≤b) {es VF:List MapEntry} {DO:Array MapEntry} {pl:Pl} (hb:h.bl.get b=some (.map es clock)) (hp:φ b=some pl)
  (h1:F2 (ER φ) VF DO.toList) :
  ∃w',(setObj pl.B (.map DO clock')).run P w=.ok () w'∧HR P φ ⟨h.nx,h.bl.aS b (.map VF clock'),h.lo⟩ w'∧Ext φ φ h ⟨h.nx,h.bl.aS b (.map VF clock'),h.lo⟩ w w':=by
 obtain ⟨es',hO,h2⟩:=hr.oT hb hp
 have hlt:pl.B<w.heap.size:=(hr.dom b pl hp).2
 refine ⟨{ w with heap:=w.heap.setIfInBounds pl.B (.map DO clock') },by simp[setObj,Sem.run,hO],?_⟩
 refine hr.AI hlo hp ⟨_,hb,trivial⟩ (by simp) (fun k hk=>?_) ?_ rfl rfl rfl (.inl trivial)
 ·show (w.heap.setIfInBounds pl.B (.map DO clock'))[k]? = _
  exact Array.getElem?_setIfInBounds_ne (Ne.symm hk)
 ·show OR P φ _ pl ((w.heap.setIfInBounds pl.B (.map DO clock'))[pl.B]?)
  rw[Array.getElem?_setIfInBounds_self_of_lt hlt]
  exact ⟨rfl,h1⟩
theorem F2.modify {α γ:Type} {R:α→γ→Prop} {f:α→α} {g:γ→γ} {l:List α} {m:List γ} (hl:F2 R l m) (hfg:∀a b,R a b→R (f a) (g b)) (i:Nat):F2 R (l.modify i f) (m.modify i g):=by
 induction hl generalizing i with
 | nil=>simp; exact .nil
 | cons hr ht ih=>cases i with
  | zero=>simp; exact .cons (hfg _ _ hr) ht
  | succ i=>simp; exact .cons hr (ih i)
theorem F2.eraseIdx {α γ:Type} {R:α→γ→Prop} {l:List α} {m:List γ} (hl:F2 R l m) (i:Nat):F2 R (l.eraseIdx i) (m.eraseIdx i):=by
 induction hl generalizing i with
 | nil=>simp; exact .nil
 | cons hr ht ih=>cases i with
  | zero=>simpa using ht
  | succ i=>simp; exact .cons hr (ih i)
theorem xx {a:Value} (hs:k9 a=true):Instr.sameBits 10000 a a=true:=by
 have one:∀{n:Nat} {v:Value},kZ v=true→Instr.sameBits n v v=true:=by
  intro n v hv
  cases v<;>simp[kZ] at hv<;>simp[Instr.sameBits,MY]
 cases a
 case agg cs=>
  simp only[k9] at hs
  simp only[Instr.sameBits,beq_self_eq_true,Bool.true_and]
  generalize cs.toList=l at hs
  induction l with
  | nil=>simp
  | cons v l ih=>simp only[List.all_cons,Bool.and_eq_true] at hs; simp[one hs.1]; simpa using ih hs.2
 all_goals exact one hs
theorem ud {f:Value→Value→Bool} (hf:∀a b,f a b=true→a=b):∀(l m:List Value),uC f l m=true→l=m:=by
 intro l
 induction l with
 | nil=>intro m hm; cases m<;>simp[uC] at hm; rfl
 | cons x l ih=>intro m hm; cases m with
  | nil=>simp[uC] at hm
  | cons y m=>simp only[uC,Bool.and_eq_true] at hm; rw[hf _ _ hm.1,ih _ hm.2]
theorem DP:∀(n:Nat) (a b:Value),iI n a b=true→a=b:=by
 intro n
 induction n with
 | zero=>intro a b hv; simp[iI] at hv
 | succ n ih=>
  intro a b hv
  simp only[iI] at hv
  split at hv<;>try (cases hv; done)
  ·simp at hv; rw[hv]
  ·simp[eX,eP] at hv; rw[hv.1,hv.2]
  ·simp[iK] at hv; rw[hv]
  ·rfl
  ·simp only[Bool.and_eq_true] at hv; rw[cF hv.1,cF hv.2]
  ·simp only[Bool.and_eq_true] at hv; rw[cF hv.1,cF hv.2]
  ·simp only[Bool.and_eq_true] at hv; obtain ⟨⟨⟨h1,h2⟩,h3⟩,h4⟩:=hv; rw[cF h1,cF h2,cF h3,cF h4]
  ·rfl
  ·rw[cF hv]
  ·rfl
  ·rfl
  ·simp only[Bool.and_eq_true] at hv; rw[cF hv.1,ih _ _ hv.2]
  ·congr 1; exact Array.ext' (ud ih _ _ hv)
  ·congr 1; exact Array.ext' (ud ih _ _ hv)
  ·simp only[Bool.and_eq_true] at hv; obtain ⟨⟨h1,h2⟩,h3⟩:=hv
   rw[cF h1,Array.ext' (ud ih _ _ h2),Array.ext' (ud ih _ _ h3)]
theorem lu (hfl:¬good fl) {kt et:TypeId} (hu:P.underlying t=some (.map kt et)) (hr:HR P φ h w) {m m' k k' x x':Value} {κ:Value→Heap→β}
  (hg:good (bW fl P kt m k x h κ)) (hm:VR φ m m') (hk:VR φ k k') (hx:VR φ x x') :
  ∃h' w',good (κ undef h')∧HR P φ h' w'∧Ext φ φ h h' w w'∧(Instr.mapUpdate t m' k' x').run P w=.ok () w':=by
 unfold bW at hg
 split at hg<;>try exact absurd hg hfl
 rename_i IS
 have hsc:=pH IS
 have hkk:=ua hsc hk
 subst hkk
 have Am:∀em,(Instr.checkKey em 10000 kt k').run P w=.ok () w:=fun em=>jL 20 10000 (by omega) kt k' em IS
 obtain ⟨u,MZ⟩:=r4 IS
 split at hg<;>try exact absurd hg hfl
 cases hm with
 | map hp=>
  rename_i pl
  split at hg<;>try exact absurd hg hfl
  rename_i es clock hb
  obtain ⟨es',hO,h2⟩:=hr.oT hb hp
  split at hg
  ·rename_i i e hf
   split at hg<;>try exact absurd hg hfl
   rename_i hes
   rw[qD] at hg
   obtain ⟨hlo,hg⟩:=bq hfl hg
   obtain ⟨r',g3,g4⟩:=dx hr hk es es'.toList 0 _ h2 hf
   cases r' with
   | none=>exact g4.elim
   | some p=>
    obtain ⟨i',v'⟩:=p
    obtain ⟨rfl,_,g6,_,_⟩:=g4
    simp only[Nat.sub_zero] at g6
    obtain ⟨e',tc,ZW⟩:=h2.get _ _ g6
    have hke:=DP 3 _ _ hes
    have hkey:e'.key=k':=by
     have h3:=ZW.key
     rw[←hke] at h3
     exact ua hsc h3
    have hsame:(Instr.keyThatStays (((es'[i']?).map (·.key)).getD k') k').run P w=.ok k' w:=by
     have:es'[i']? = some e':=by simpa using tc
     simp[Instr.keyThatStays,this,hkey,xx hsc]
    have hnew:F2 (ER φ) (es.modify i' fun e=>{ e with key:=k',val:=x }) (es'.modify i' fun e=>{ e with key:=k',val:=x' }).toList:=by
     rw[Array.toList_modify]
     exact h2.modify (f:=fun e=>{ e with key:=k',val:=x }) (g:=fun e=>{ e with key:=k',val:=x' }) (fun a b hab=>⟨hk,hx,hab.born⟩) i'
    obtain ⟨w',k1,k2,k3⟩:=hr.uW hlo (clock':=clock) hb hp hnew
    refine ⟨_,w',hg,k2,k3,?_⟩
    simp[Instr.mapUpdate,aL hu,cN hO,Am,fF MZ g3,hsame,k1]
  ·rename_i hf
   rw[nj,bL] at hg
   obtain ⟨hlo,hg⟩:=bq hfl hg
   obtain ⟨r',g3,g4⟩:=dx hr hk es es'.toList 0 _ h2 hf
   cases r' with
   | some p=>exact g4.elim
   | none=>
    have hnew:F2 (ER φ) (es++[{ key:=k',val:=x,born:=clock }]) (es'.push { key:=k',val:=x',born:=clock }).toList:=by
     rw[Array.toList_push]
     exact h2.append (.cons ⟨hk,hx,rfl⟩ .nil)
    obtain ⟨w',k1,k2,k3⟩:=hr.uW hlo (clock':=clock+1) hb hp hnew
    refine ⟨_,w',hg,k2,k3,?_⟩
    simp[Instr.mapUpdate,aL hu,cN hO,Am,fF MZ g3,k1]
  ·exact absurd hg hfl
end Go.Vai

namespace Go.Vai
open Go
variable {β:Type} {fl:β} {good:β→Prop} {P:Program} {φ:dm} {h:Heap} {w:World} {t:TypeId}
theorem xy (hfl:¬good fl) {kt et ty:TypeId} {ts:Array TypeId} (ht:ts[0]? = some t) (hu:P.underlying t=some (.map kt et)) (hr:HR P φ h w) {m m' k k':Value} {κ:Value→Heap→β}
  (hg:good (kg fl P kt m k h κ)) (hm:VR φ m m') (hk:VR φ k k') :
  ∃h' w',good (κ (.tuple #[]) h')∧HR P φ h' w'∧Ext φ φ h h' w w'∧(Builtin.delete_ ts ty #[m',k']).run P w=.ok (.tuple #[]) w':=by
 unfold kg at hg
 split at hg<;>try exact absurd hg hfl
 rename_i IS
 have hsc:=pH IS
 have hkk:=ua hsc hk
 subst hkk
 have Am:∀em,(Instr.checkKey em 10000 kt k').run P w=.ok () w:=fun em=>jL 20 10000 (by omega) kt k' em IS
 obtain ⟨u,MZ⟩:=r4 IS
 cases hm<;>try exact absurd hg hfl
 ·exact ⟨h,w,hg,hr,Ext.refl _ _ _,by simp[Builtin.delete_,ht,aL hu,Am]⟩
 ·rename_i r pl hp
  simp only at hg
  split at hg<;>try exact absurd hg hfl
  rename_i es clock hb
  obtain ⟨es',hO,h2⟩:=hr.oT hb hp
  split at hg
  ·rename_i i e hf
   rw[uV] at hg
   obtain ⟨hlo,hg⟩:=bq hfl hg
   obtain ⟨r',g3,g4⟩:=dx hr hk es es'.toList 0 _ h2 hf
   cases r' with
   | none=>exact g4.elim
   | some p=>
    obtain ⟨i',v'⟩:=p
    obtain ⟨rfl,_,g6,_,_⟩:=g4
    have hnew:F2 (ER φ) (es.eraseIdx i') (es'.eraseIdxIfInBounds i').toList:=by
     have:(es'.eraseIdxIfInBounds i').toList=es'.toList.eraseIdx i':=by
      unfold Array.eraseIdxIfInBounds
      split
      ·simp
      ·rename_i hn; rw[List.eraseIdx_of_length_le (by simpa using hn)]
     rw[this]
     exact h2.eraseIdx i'
    obtain ⟨w',k1,k2,k3⟩:=hr.uW hlo (clock':=clock) hb hp hnew
    exact ⟨_,w',hg,k2,k3,by simp[Builtin.delete_,ht,aL hu,cN hO,Am,fF MZ g3,k1]⟩
  ·rename_i hf
   obtain ⟨r',g3,g4⟩:=dx hr hk es es'.toList 0 _ h2 hf
   cases r' with
   | some p=>exact g4.elim
   | none=>
    have VG:(setObj pl.B (.map es' clock)).run P w=.ok () w:=by
     have hlt:pl.B<w.heap.size:=(hr.dom r pl hp).2
     simp[setObj,Sem.run,hO]
     have:w.heap.setIfInBounds pl.B (.map es' clock)=w.heap:=by
      apply Array.ext_getElem?
      intro i
      by_cases hi:i=pl.B
      ·subst hi; rw[Array.getElem?_setIfInBounds_self_of_lt hlt,hO]
      ·rw[Array.getElem?_setIfInBounds_ne (Ne.symm hi)]
     rw[this]
    exact ⟨h,w,hg,hr,Ext.refl _ _ _,by simp[Builtin.delete_,ht,aL hu,cN hO,Am,fF MZ g3,VG]⟩
  ·exact absurd hg hfl
theorem HR.DQ (hr:HR P φ h w) {b since stepped:Nat} {m:Option Nat} {seen:List Nat} {pl:Pl} (hb:h.bl.get b=some (.dy m since seen stepped)) (hp:φ b=some pl) :
  ∃m' seen',w.heap[pl.B]? = some (.mapIter m' since seen' stepped)∧seen'.toList=seen.reverse∧((m=none∧m'=none)∨∃b jY,m=some b∧φ b=some jY∧m'=some jY.B):=by
 have:=hr.obj b _ pl hb hp
 cases hO:w.heap[pl.B]? with
 | none=>rw[hO] at this; exact this.elim
 | some O=>
  rw[hO] at this
  cases O<;>simp only[OR] at this<;>try exact this.elim
  obtain ⟨rfl,rfl,h3,h4⟩:=this
  exact ⟨_,_,rfl,h3,h4⟩
theorem zb (hfl:¬good fl) {kt et:TypeId} (hu:P.underlying t=some (.map kt et)) (hr:HR P φ h w) {x x':Value} {κ:Value→Heap→β} (hg:good (lU fl x h κ)) (hx:VR φ x x') :
  ∃φ' v v' h' w',good (κ v h')∧VR φ' v v'∧HR P φ' h' w'∧Ext φ φ' h h' w w'∧(Instr.range t x').run P w=.ok v' w':=by
 unfold lU at hg
 split at hg<;>try exact absurd hg hfl
 ·cases hx
  obtain ⟨hn,g1⟩:=dn hfl hg
  obtain ⟨k1,k2⟩:=hr.fresh (o:=.dy none 0 [] 0) (O:=.mapIter none 0 #[] 0) hn 0 0 ⟨rfl,rfl,rfl,.inl ⟨rfl,rfl⟩⟩ trivial
  exact ⟨_,_,.pointer (some ⟨w.heap.size,0,none⟩),_,_,g1,.ptr (fG _ _ _),k1,k2,by simp[Instr.range,aL hu]⟩
 ·split at hg<;>try exact absurd hg hfl
  rename_i r _ es clock hb
  cases hx with
  | map hp=>
   rename_i pl
   obtain ⟨es',hO,h2⟩:=hr.oT hb hp
   obtain ⟨hn,g1⟩:=dn hfl hg
   obtain ⟨k1,k2⟩:=hr.fresh (o:=.dy (some r) clock [] clock) (O:=.mapIter (some pl.B) clock #[] clock) hn 0 0 ⟨rfl,rfl,rfl,.inr ⟨r,pl,rfl,hp,rfl⟩⟩ trivial
   exact ⟨_,_,.pointer (some ⟨w.heap.size,0,none⟩),_,_,g1,.ptr (fG _ _ _),k1,k2,by simp[Instr.range,aL hu,cN hO]⟩
theorem kq {B:Nat} {m:Option Nat} {since stepped:Nat} {seen:Array Nat} (hO:w.heap[B]? = some (.mapIter m since seen stepped)):(getObj B).run P w=.ok (.mapIter m since seen stepped) w:=by
 simp[getObj,Sem.run,hO]
theorem F2.filter {α γ:Type} {R:α→γ→Prop} {f:α→Bool} {g:γ→Bool} {l:List α} {m:List γ} (hl:F2 R l m) (hfg:∀a b,R a b→f a=g b):F2 R (l.filter f) (m.filter g):=by
 induction hl with
 | nil=>exact .nil
 | @cons a b l m hr _ ih=>
  simp only[List.filter_cons,hfg a b hr]
  split
  ·exact .cons hr ih
  ·exact ih
theorem F2.allEq {α γ:Type} {R:α→γ→Prop} {f:α→Bool} {g:γ→Bool} {l:List α} {m:List γ} (hl:F2 R l m) (hfg:∀a b,R a b→f a=g b):l.all f=m.all g:=by
 induction hl with
 | nil=>rfl
 | cons hr _ ih=>simp[hfg _ _ hr,ih]
theorem Rj (a b:Nat):Nat.beq a b=(a == b):=by rw[Bool.eq_iff_iff]; simp
theorem Rk (a b:Nat):Nat.ble a b=decide (a≤b):=by rw[Bool.eq_iff_iff]; simp[Nat.ble_eq]
theorem zc (hfl:¬good fl) {both:β→β→β} (IW:∀x y,good (both x y)→good x∧good y) {b m since clock:Nat} {seen:List Nat} {κ:Value→Heap→β}:∀(es:List MapEntry) (e:MapEntry),
  good (ki fl both b m since seen clock h κ e es)→∀(i:Nat) (x:MapEntry),(e::es)[i]? = some x→x.born<since∧h.lo≤b∧good (κ (.tuple #[.bool true,x.key,x.val]) ⟨h.nx,h.bl.aS b (.dy (some m) since (x.born::seen) clock),h.lo⟩):=by
 intro es
 induction es with
 | nil=>
  intro e hg i x hx
  unfold ki at hg
  split at hg<;>try exact absurd hg hfl
  rename_i hle
  obtain ⟨hlo,hg⟩:=bq hfl hg
  cases i with
  | zero=>simp at hx; subst hx; exact ⟨cu hle,hlo,hg⟩
  | succ i=>simp at hx
 | cons e' es ih=>
  intro e hg i x hx
  unfold ki at hg
  split at hg<;>try exact absurd hg hfl
  rename_i hle
  obtain ⟨g1,g2⟩:=IW _ _ hg
  obtain ⟨hlo,g1⟩:=bq hfl g1
  cases i with
  | zero=>simp at hx; subst hx; exact ⟨cu hle,hlo,g1⟩
  | succ i=>exact ih e' g2 i x (by simpa using hx)
theorem HR.drew (hr:HR P φ h w):HR P φ h w.drew:=⟨hr.obj,hr.dom,hr.keys,hr.MX,hr.inj,hr.lo⟩
theorem Ext.drew {φ':dm} {h':Heap} {w':World} (hx:Ext φ φ' h h' w w'):Ext φ φ' h h' w w'.drew:=⟨hx.sub,hx.new,hx.nx,hx.size,hx.yW,hx.Dx,hx.tape,hx.os,hx.output,hx.fz,hx.lo,hx.E1,hx.E2,Nat.le_succ_of_le hx.dr⟩
theorem Ext.Rl {φ':dm} {h':Heap} {w':World} (hx:Ext φ φ' h h' w.drew w'):Ext φ φ' h h' w w':=⟨hx.sub,hx.new,hx.nx,hx.size,hx.yW,hx.Dx,hx.tape,hx.os,hx.output,hx.fz,hx.lo,hx.E1,hx.E2,Nat.le_of_succ_le hx.dr⟩
theorem tL (n:Nat) (hn:0<n) (w:World):∃k w',k<n∧(w'=w∨w'=w.drew)∧(choose (.mapNext n)).run P w=.ok k w':=by
 by_cases h1:n≤1
 ·refine ⟨0,w,hn,.inl rfl,?_⟩
  simp[Question.forced,h1]
 ·refine ⟨(Question.mapNext n).cut (w.tape w.drawn (.mapNext n)),w.drew,Nat.mod_lt _ hn,.inr rfl,?_⟩
  simp[choose,Sem.run,Question.forced,h1]
theorem AK (hfl:¬good fl) {both:β→β→β} (IW:∀x y,good (both x y)→good x∧good y) {ty:TypeId} (hr:HR P φ h w) {x x':Value} {κ:Value→Heap→β} (hg:good (oP fl both x h κ)) (hx:VR φ x x') :
  ∃v v' h' w',good (κ v h')∧VR φ v v'∧HR P φ h' w'∧Ext φ φ h h' w w'∧(Instr.next x' false ty).run P w=.ok v' w':=by
 unfold oP at hg
 split at hg<;>try exact absurd hg hfl
 cases hx with
 | ptr hp=>
  rename_i b pl
  split at hg<;>try exact absurd hg hfl
  ·rename_i since seen stepped hb
   obtain ⟨m',seen',hO,_,h4⟩:=hr.DQ hb hp
   rcases h4 with ⟨_,rfl⟩ | ⟨b1,jY,h5,_⟩
   ·exact ⟨_,.tuple #[.bool false],h,w,hg,VR.tuple' (.cons (.bool false) .nil),hr,Ext.refl _ _ _,by simp[Instr.next,kq hO]⟩
   ·cases h5
  ·rename_i m since seen last hb
   obtain ⟨m',seen',hO,AL,h4⟩:=hr.DQ hb hp
   rcases h4 with ⟨h5,_⟩ | ⟨b1,jY,h5,hp',rfl⟩
   ·cases h5
   ·cases h5
    split at hg<;>try exact absurd hg hfl
    rename_i es clock hm
    obtain ⟨es',PG,h2⟩:=hr.oT hm hp'
    split at hg<;>try exact absurd hg hfl
    rename_i ZX
    have VH:∀e e':MapEntry,ER φ e e'→(!seen.any (Nat.beq e.born))=(!seen'.contains e'.born):=by
     intro e e' he
     rw[he.born]
     congr 1
     rw[←Array.contains_toList,AL,Bool.eq_iff_iff]
     simp
    have hleft:F2 (ER φ) (es.filter fun e=>!seen.any (Nat.beq e.born)) (es'.filter fun e=>!seen'.contains e.born).toList:=by
     rw[Array.toList_filter]
     exact h2.filter VH
    have M3:seen'.isEmpty=seen.isEmpty:=by
     have:seen'.toList.isEmpty=seen.isEmpty:=by rw[AL]; simp
     rw[←this]; simp
    have ZY:es'.isEmpty=es.isEmpty:=by
     have:es'.toList.isEmpty=es.isEmpty:=by generalize es'.toList=L at h2; cases h2<;>rfl
     rw[←this]; simp
    have hall:es'.all (fun e=>decide (e.born≥last))=es.all (fun e=>Nat.ble last e.born):=by
     rw[←Array.all_toList]
     exact (h2.allEq fun a b hab=>by rw[hab.born,Rk]).symm
    have PI:(!seen'.isEmpty && !es'.isEmpty && es'.all (fun e=>decide (e.born≥last)))=false:=by
     rw[M3,ZY,hall]; exact ZX
    split at hg
    ·
     rename_i hnil
     rw[hnil] at hleft
     have hl0:es'.filter (fun e=>!seen'.contains e.born)=#[]:=by
      generalize (es'.filter fun e=>!seen'.contains e.born)=L at hleft
      obtain ⟨L⟩:=L
      cases hleft
      rfl
     refine ⟨_,.tuple #[.bool false],h,w,hg,VR.tuple' (.cons (.bool false) .nil),hr,Ext.refl _ _ _,?_⟩
     simp only[Instr.next,Sem.run_bind,kq hO,cN PG,Result.andThen_ok,PI,hl0]
     simp[Question.forced]
    ·rename_i e0 Rm VI
     have PJ:=zc hfl IW Rm e0 hg
     rw[VI] at hleft
     have ZZ:pl.B<w.heap.size:=(hr.dom b pl hp).2
     generalize hL:(es'.filter fun e=>!seen'.contains e.born)=L at hleft
     have hlen:=hleft.length
     have IX:L.size=Rm.length+1:=by simpa using hlen.symm
     have PK:∀e'∈L.toList,e'.born<since:=by
      intro e' he'
      obtain ⟨i,hi⟩:=List.getElem?_of_mem he'
      have hi':i<L.toList.length:=(List.getElem?_eq_some_iff.1 hi).1
      obtain ⟨x,hx⟩:∃x,(e0::Rm)[i]? = some x:=⟨(e0::Rm)[i]'(by omega),List.getElem?_eq_getElem (by omega)⟩
      obtain ⟨e2,h3,h4⟩:=hleft.get i x hx
      rw[hi] at h3; cases h3
      rw[h4.born]
      exact (PJ i x hx).1
     have f1:(L.filter fun e=>decide (e.born<since))=L:=by
      apply Array.ext'
      rw[Array.toList_filter,List.filter_eq_self]
      intro e he; simpa using PK e he
     have f2:(L.filter fun e=>decide (e.born≥since))=#[]:=by
      apply Array.ext'
      rw[Array.toList_filter,List.filter_eq_nil_iff]
      intro e he; have:=PK e he; simp; omega
     have hne:L.isEmpty=false:=by
      rw[Array.isEmpty_eq_false_iff]
      intro h0; rw[h0] at IX; simp at IX
     obtain ⟨k,w1,hk,hw1,hch⟩:=tL (P:=P) (Rm.length+1) (by omega) w
     obtain ⟨x,hx⟩:∃x,(e0::Rm)[k]? = some x:=⟨(e0::Rm)[k]'(by simpa using hk),List.getElem?_eq_getElem (by simpa using hk)⟩
     obtain ⟨e',tc,he'⟩:=hleft.get k x hx
     rw[Array.getElem?_toList] at tc
     obtain ⟨ME,hlo,hgood⟩:=PJ k x hx
     have MF:HR P φ h w1:=by
      rcases hw1 with rfl | rfl
      ·exact hr
      ·exact hr.drew
     have hx1:Ext φ φ h h w w1:=by
      rcases hw1 with rfl | rfl
      ·exact Ext.refl _ _ _
      ·exact (Ext.refl _ _ _).drew
     have Y_:w1.heap[pl.B]? = some (.mapIter (some jY.B) since seen' last):=by rcases hw1 with rfl | rfl<;>exact hO
     have VJ:w1.heap=w.heap:=by rcases hw1 with rfl | rfl<;>rfl
     have iy:(setObj pl.B (.mapIter (some jY.B) since (seen'.push e'.born) clock)).run P w1=.ok () { w1 with heap:=w1.heap.setIfInBounds pl.B (.mapIter (some jY.B) since (seen'.push e'.born) clock) }:=by
      simp[setObj,Sem.run,Y_]
     have PL:=MF.AI hlo (o:=.dy (some m) since (x.born::seen) clock) hp ⟨_,hb,trivial⟩
      (w':={ w1 with heap:=w1.heap.setIfInBounds pl.B (.mapIter (some jY.B) since (seen'.push e'.born) clock) }) (by simp)
      (fun k hk=>Array.getElem?_setIfInBounds_ne (Ne.symm hk))
      (by
       show OR P φ _ pl ((w1.heap.setIfInBounds pl.B _)[pl.B]?)
       rw[Array.getElem?_setIfInBounds_self_of_lt (by rw[VJ]; exact ZZ)]
       exact ⟨rfl,rfl,by simp[AL,he'.born],.inr ⟨m,jY,rfl,hp',rfl⟩⟩) rfl rfl rfl (.inl trivial)
     refine ⟨_,.tuple #[.bool true,e'.key,e'.val],_,_,hgood,VR.tuple' (.cons (.bool true) (.cons he'.key (.cons he'.val .nil))),PL.1,hx1.trans PL.2,?_⟩
     simp only[Instr.next,Sem.run_bind,kq hO,cN PG,Result.andThen_ok,PI,hL,f1,f2]
     have hc:((if L.isEmpty=true then #[none] else #[])++(L++#[]).map some:Array (Option MapEntry))=L.map some:=by simp[hne]
     rw[hc]
     simp only[Bool.false_eq_true,if_false,Array.size_map,IX,Sem.run_bind,hch,Result.andThen_ok,Array.getElem?_map,tc,Option.map_some,iy]
     simp
theorem zd (hfl:¬good fl) (hr:HR P φ h w) {x x':Value} {κ:Value→Heap→β} (hg:good (lV fl x h κ)) (hx:VR φ x x') :
  ∃v v',good (κ v h)∧VR φ v v'∧(Instr.entry x').run P w=.ok v' w:=by
 unfold lV at hg
 split at hg<;>try exact absurd hg hfl
 cases hx with
 | ptr hp=>
  rename_i b pl
  split at hg<;>try exact absurd hg hfl
  rename_i m since stamp seen stepped hb
  obtain ⟨m',seen',hO,AL,h4⟩:=hr.DQ hb hp
  rcases h4 with ⟨h5,_⟩ | ⟨b1,jY,h5,hp',rfl⟩
  ·cases h5
  ·cases h5
   split at hg<;>try exact absurd hg hfl
   rename_i es clock hm
   obtain ⟨es',PG,h2⟩:=hr.oT hm hp'
   split at hg<;>try exact absurd hg hfl
   rename_i Am; have Am:=cF Am; subst Am
   split at hg<;>try exact absurd hg hfl
   rename_i e hf
   have VK:seen'.back? = some stamp:=by
    have:seen'=(seen.reverse++[stamp]).toArray:=Array.ext' (by simpa using AL)
    rw[this]; simp
   have hfind:∃e',es'.find? (fun e=>e.born == stamp)=some e'∧ER φ e e':=by
    rw[←Array.find?_toList]
    clear PG hm
    generalize es'.toList=L at h2
    induction h2 with
    | nil=>simp at hf
    | @cons a c l m hac _ ih=>
     simp only[List.find?_cons] at hf ⊢
     rw[Rj] at hf
     rw[hac.born]
     split at hf
     ·rename_i hq; cases hf; exact ⟨_,rfl,hac⟩
     ·exact ih hf
   obtain ⟨e',hf',he'⟩:=hfind
   exact ⟨_,.tuple #[e'.key,e'.val],hg,VR.tuple' (.cons he'.key (.cons he'.val .nil)),by simp[Instr.entry,kq hO,cN PG,VK,hf']⟩
theorem gN (hfl:¬good fl) (hr:HR P φ h w) {size n:Nat} {x x':Value} {κ:List Value→β} (hg:good (e8 fl h size n x κ)) (hx:VR φ x x') (VL:∃a m c,x=.slice a m c∧n≤m) :
  ∃l l',good (κ l)∧F2 (VR φ) l l'∧l.length=n*size∧∀w1:World,w1.heap=w.heap→(Builtin.firstCells size n x').run P w1=.ok l'.toArray w1:=by
 obtain ⟨a,m,c,rfl,hnm⟩:=VL
 unfold e8 at hg
 split at hg
 ·rename_i h0
  have h0:n*size=0:=h0
  refine ⟨[],[],hg,.nil,h0.symm,fun w1 hw1=>?_⟩
  cases hx<;>simp[Builtin.firstCells,h0,loadCells,loadCellsFrom]
 ·rename_i k hk
  have hk:n*size=k+1:=hk
  split at hg<;>try exact absurd hg hfl
  rename_i b o _ _ Rn
  cases Rn
  split at hg<;>try exact absurd hg hfl
  ·rename_i nn cc e op hb
   split at hg<;>try exact absurd hg hfl
   rename_i hle; have hle:=cu hle
   obtain ⟨l,h1,h2,h3⟩:=jJ hfl _ _ _ _ _ hg
   simp only[List.append_nil] at h1
   have fin:∀pl,φ b=some pl→∃l',F2 (VR φ) l l'∧∀w1:World,w1.heap=w.heap→(loadCells ⟨pl.B,o,none⟩ (n*size)).run P w1=.ok l'.toArray w1:=by
    intro pl hp
    obtain ⟨l',h4,h5⟩:=hr.E3 hb hp (l:=l) (off:=o) (by rw[h2]; exact hle) h3
    exact ⟨l',h4,fun w1 hw1=>by have h5:=h5 w1 hw1; rw[h2] at h5; rw[hk]; exact h5⟩
   cases hx with
   | slice hp hn hc=>
    obtain ⟨l',h4,h5⟩:=fin _ hp
    exact ⟨l,l',h1,h4,by rw[h2,hk],fun w1 hw1=>by simpa[Builtin.firstCells] using h5 w1 hw1⟩
   | bQ hp hn hc=>
    obtain ⟨l',h4,h5⟩:=fin _ hp
    exact ⟨l,l',h1,h4,by rw[h2,hk],fun w1 hw1=>by simpa[Builtin.firstCells] using h5 w1 hw1⟩
   | cr _ a' c=>
    have:n=0:=by omega
    subst this; simp at hk
  ·rename_i nn cc e hb
   split at hg<;>try exact absurd hg hfl
   rename_i hle; have hle:=cu hle
   obtain ⟨l,h1,h2,h3⟩:=jJ hfl _ _ _ _ _ hg
   simp only[List.append_nil] at h1
   have fin:∀pl,φ b=some pl→∃l',F2 (VR φ) l l'∧∀w1:World,w1.heap=w.heap→(loadCells ⟨pl.B,o,none⟩ (n*size)).run P w1=.ok l'.toArray w1:=by
    intro pl hp
    obtain ⟨l',h4,h5⟩:=hr.E4 hb hp (l:=l) (off:=o) (by rw[h2]; exact hle) h3
    exact ⟨l',h4,fun w1 hw1=>by have h5:=h5 w1 hw1; rw[h2] at h5; rw[hk]; exact h5⟩
   cases hx with
   | slice hp hn hc=>
    obtain ⟨l',h4,h5⟩:=fin _ hp
    exact ⟨l,l',h1,h4,by rw[h2,hk],fun w1 hw1=>by simpa[Builtin.firstCells] using h5 w1 hw1⟩
   | bQ hp hn hc=>
    obtain ⟨l',h4,h5⟩:=fin _ hp
    exact ⟨l,l',h1,h4,by rw[h2,hk],fun w1 hw1=>by simpa[Builtin.firstCells] using h5 w1 hw1⟩
   | cr _ a' c=>
    have:n=0:=by omega
    subst this; simp at hk
theorem AM (hfl:¬good fl) {e s:Nat} {ty:TypeId} {ts:Array TypeId} (ht:ts[0]? = some t) (hu:P.underlying t=some (.slice e)) (hs:dZ P e=some s) (hr:HR P φ h w)
  {d d' x x':Value} {κ:Value→Heap→β} (hg:good (As fl s d x h κ)) (hd:VR φ d d') (hx:VR φ x x') :
  ∃v h' w',good (κ v h')∧VR φ v v∧HR P φ h' w'∧Ext φ φ h h' w w'∧(Builtin.copy_ ts ty #[d',x']).run P w=.ok v w':=by
 unfold As at hg
 split at hg<;>try exact absurd hg hfl
 rename_i base dLen dCap
 split at hg<;>try exact absurd hg hfl
 rename_i a n c
 rw[bL] at hg
 obtain ⟨base',PM,hd'⟩:∃base' PM,d'=.slice base' dLen PM:=by cases hd<;>exact ⟨_,_,rfl⟩
 obtain ⟨a',c',hx'⟩:∃a' c',x'=.slice a' n c':=by cases hx<;>exact ⟨_,_,rfl⟩
 split at hg
 ·rename_i h0
  have hf:(Builtin.firstCells s 0 x').run P w=.ok #[] w:=by rw[hx']; cases a'<;>simp[Builtin.firstCells,loadCells,loadCellsFrom]
  have h0':Nat.min n dLen=0:=h0
  refine ⟨_,h,w,hg,.int _ _,hr,Ext.refl _ _ _,?_⟩
  rw[hx'] at hf
  subst hd'; subst hx'
  cases base'<;>simp[Builtin.copy_,ht,aL hu,bZ hs,Builtin.lenOf,h0',hf,storeCells,goInt]
 ·rename_i k hk
  split at hg<;>try exact absurd hg hfl
  rename_i b o
  obtain ⟨l,l',g1,g2,g3,g4⟩:=gN hfl hr hg hx ⟨_,_,_,rfl,Nat.min_le_left _ _⟩
  split at g1<;>try exact absurd g1 hfl
  rename_i nn cc e' op hb
  obtain ⟨k1,k2,k3⟩:=iN hfl _ _ _ _ _ g1
  obtain ⟨hlo,k3⟩:=bq hfl k3
  have fin:∀pl,φ b=some pl→base'=some ⟨pl.B,o,none⟩→∃v h' w',good (κ v h')∧VR φ v v∧HR P φ h' w'∧Ext φ φ h h' w w'∧(Builtin.copy_ ts ty #[d',x']).run P w=.ok v w':=by
   intro pl hp hbe
   obtain ⟨w',j1,j2,j3⟩:=hr.storeAt hlo hb hp g2 k1 k2
   refine ⟨_,_,w',k3,.int _ _,j2,j3,?_⟩
   have g5:=g4 w rfl
   clear g4
   rw[hx'] at g5
   subst hd'; subst hx'; subst hbe
   have g4':(Builtin.firstCells s (Nat.min n dLen) (.slice a' n c')).run P w=.ok l'.toArray w:=g5
   simp[Builtin.copy_,ht,aL hu,bZ hs,Builtin.lenOf,g4',j1,goInt]
  cases hd with
  | slice hp hn hc=>cases hd'; exact fin _ hp rfl
  | bQ hp hn hc=>cases hd'; exact fin _ hp rfl
  | cr a1 a2 c2=>have:Nat.min n 0=0:=Nat.min_zero n; rw[this] at hk; cases hk
theorem pI (hfl:¬good fl) {e:Nat} {z:List Value} {ty:TypeId} {ts:Array TypeId} (ht:ts[0]? = some t) (hu:P.underlying t=some (.slice e)) (hz:zeroOf P e=some z) (hr:HR P φ h w)
  {x x':Value} {κ:Value→Heap→β} (hg:good (iY fl z x h κ)) (hx:VR φ x x') :
  ∃h' w',good (κ (.tuple #[]) h')∧HR P φ h' w'∧Ext φ φ h h' w w'∧(Builtin.clear_ ts ty #[x']).run P w=.ok (.tuple #[]) w':=by
 obtain ⟨v,inf,hi,IU,hzl,Rb⟩:=fM hz
 have Ro:(Builtin.clear_ ts ty #[x']).run P w=.ok (.tuple #[]) w→good (κ (.tuple #[]) h)→∃h' w',good (κ (.tuple #[]) h')∧HR P φ h' w'∧Ext φ φ h h' w w'∧(Builtin.clear_ ts ty #[x']).run P w=.ok (.tuple #[]) w':=
  fun h1 h2=>⟨h,w,h2,hr,Ext.refl _ _ _,h1⟩
 unfold iY at hg
 split at hg
 ·cases hx; exact Ro (by simp[Builtin.clear_,ht,aL hu]) hg
 ·refine Ro ?_ hg
  cases hx<;>simp[Builtin.clear_,ht,aL hu]
 ·cases hx; exact Ro (by simp[Builtin.clear_,ht,aL hu]) hg
 ·rename_i b o n c hn0
  split at hg<;>try exact absurd hg hfl
  rename_i nn cc e' op hb
  obtain ⟨k1,k2,k3⟩:=iN hfl _ _ _ _ _ hg
  obtain ⟨hlo,k3⟩:=bq hfl k3
  have Z0:(Builtin.zeroCells v.cells n).toList=aT z n:=by
   unfold Builtin.zeroCells
   rw[qC v.cells n _ rfl,hzl]
  have fin:∀pl c',φ b=some pl→x'=.slice (some ⟨pl.B,o,none⟩) n c'→∃h' w',good (κ (.tuple #[]) h')∧HR P φ h' w'∧Ext φ φ h h' w w'∧(Builtin.clear_ ts ty #[x']).run P w=.ok (.tuple #[]) w':=by
   intro pl c' hp hxe
   obtain ⟨w',j1,j2,j3⟩:=hr.storeAt hlo hb hp (gz (φ:=φ) (iG Rb n)) k1 k2
   refine ⟨_,w',k3,j2,j3,?_⟩
   subst hxe
   cases n with
   | zero=>exact (hn0 rfl).elim
   | succ n=>simp[Builtin.clear_,ht,aL hu,fW hi IU,Z0,j1]
  cases hx with
  | slice hp hn hc=>exact fin _ _ hp rfl
  | bQ hp hn hc=>exact fin _ _ hp rfl
  | cr a1 a2 c2=>exact (hn0 rfl).elim
 ·split at hg<;>try exact absurd hg hfl
  rename_i r es clock hb
  obtain ⟨hlo,hg⟩:=bq hfl hg
  cases hx with
  | map hp=>
   rename_i pl
   obtain ⟨es',hO,h2⟩:=hr.oT hb hp
   obtain ⟨w',j1,j2,j3⟩:=hr.uW hlo (VF:=[]) (DO:=#[]) (clock':=clock) hb hp .nil
   exact ⟨_,w',hg,j2,j3,by simp[Builtin.clear_,ht,aL hu,cN hO,j1]⟩
 ·exact absurd hg hfl
end Go.Vai

namespace Go.Vai
open Go
variable {β:Type} {fl:β} {good:β→Prop} {P:Program} {φ:dm} {h:Heap} {w:World} {t:TypeId}
inductive Comes (P:Program) (ts:Array TypeId) (e size:Nat) (n:Nat) (new':List Value) (w:World):Value→Prop where
 | sl {xt:TypeId} {xd:TypeDesc} {a:Option Addr} {c:Nat} (h1:ts[1]? = some xt) (h2:P.underlying xt=some xd) (h3:pn xd=false)
   (h4:∀w1:World,w1.heap=w.heap→(Builtin.firstCells size n (.slice a n c)).run P w1=.ok new'.toArray w1):Comes P ts e size n new' w (.slice a n c)
 | mk {xt:TypeId} {k k':IntKind} {inf:TypeInfo} {v:Value} (h1:ts[1]? = some xt) (h2:P.underlying xt=some (.int k')) (h3:n≤1000000) (h4:P.info? e=some inf) (h5:inf.zero=some v)
   (h6:inf.bytes≤10000) (h7:Builtin.zeroCells v.cells n=new'.toArray) (h8:n*size=0→new'=[]):Comes P ts e size n new' w (.int k (n:Int))
theorem AN (hfl:¬good fl) {e size:Nat} {xt:TypeId} {xd:TypeDesc} {inf:TypeInfo} {ts:Array TypeId} {z:List Value} (hz:Q9 P e=some (z,size)) (hi:P.info? e=some inf) (hb:inf.bytes≤10000)
  (UT:ts[1]? = some xt) (UU:P.underlying xt=some xd) (hr:HR P φ h w) {x x':Value} {κ:Nat→List Value→β}
  (hg:good (kf fl (pn xd) z h size x κ)) (hx:VR φ x x') :
  ∃n new new',good (κ n new)∧F2 (VR φ) new new'∧new.length=n*size∧Comes P ts e size n new' w x':=by
 obtain ⟨hz1,DN,Rc,VC⟩:=oe hz
 obtain ⟨v,Rg,hi',IU,hzl,Rb⟩:=fM hz1
 rw[hi] at hi'; cases hi'
 unfold kf at hg
 split at hg
 ·rename_i k n hm
  split at hg<;>try exact absurd hg hfl
  rename_i hle; have hle:=cu hle
  cases hx
  have Z0:Builtin.zeroCells v.cells n=(aT z n).toArray:=by
   unfold Builtin.zeroCells
   rw[qC v.cells n _ rfl,hzl]
  obtain ⟨k',rfl⟩:∃k',xd=.int k':=by cases xd<;>first | exact ⟨_,rfl⟩ | cases hm
  refine ⟨n,_,_,hg,gz (iG Rb n),by rw[ni,Rc],.mk UT UU hle hi IU hb Z0 ?_⟩
  intro h0
  have hn0:n=0:=by rcases Nat.mul_eq_zero.1 h0 with h | h<;>omega
  subst hn0
  rfl
 ·rename_i a n c hm
  obtain ⟨l,l',g1,g2,g3,g4⟩:=gN hfl hr hg hx ⟨_,_,_,rfl,Nat.le_refl _⟩
  obtain ⟨a',c',rfl⟩:∃a' c',x'=.slice a' n c':=by cases hx<;>exact ⟨_,_,rfl⟩
  exact ⟨n,l,l',g1,g2,g3,.sl UT UU hm g4⟩
 ·exact absurd hg hfl
theorem iH {e size n sLen sCap:Nat} {ty:TypeId} {ts:Array TypeId} {base:Option Addr} {x':Value} {new':List Value} (ht:ts[0]? = some t) (hu:P.underlying t=some (.slice e)) (hs:dZ P e=some size)
  (hc:Comes P ts e size n new' w x') (hle:sLen+n≤sCap) {w':World} (hst:∀a,base=some a→(storeCells (a.add (sLen*size)) new').run P w=.ok () w') (hno:base=none→w'=w) :
  (Builtin.append_ ts ty #[.slice base sLen sCap,x']).run P w=.ok (.slice base (sLen+n) sCap) w':=by
 cases hc with
 | @sl xt xd a c h1 h2 h3 h4=>
  have h4:=h4 w rfl
  have key:∀d,P.underlying xt=some d→pn d=false→(Builtin.append_ ts ty #[.slice base sLen sCap,.slice a n c]).run P w=.ok (.slice base (sLen+n) sCap) w':=by
   intro d hd hdf
   unfold Builtin.append_
   cases d<;>first
    | (cases hdf; done)
    | (simp only[ht,h1,List.getElem?_toArray,List.getElem?_cons_zero,List.getElem?_cons_succ,Sem.run_bind,aL hu,aL hd,Result.andThen_ok,bZ hs,Sem.run_pure,Bool.false_eq_true,if_false,
      Builtin.lenOf,hle,Bool.not_false,if_true,h4]
       cases base with
       | none=>rw[hno rfl]; simp only[Sem.run_pure]
       | some b=>simp only[Sem.run_bind,hst b rfl,Result.andThen_ok,Sem.run_pure])
  exact key xd h2 h3
 | @mk xt k k' inf v h1 h2 h3 h4 h5 h6 h7 h8=>
  have w1:IntKind.i64.wrap (n:Int)=n:=IntWalk.i64_in _ ⟨by omega,by omega⟩
  have c1:¬((n:Int)<0):=by omega
  have c2:¬((n:Int)*(inf.bytes:Int) > 2 ^ 48):=by
   have:n*inf.bytes≤1000000*10000:=Nat.mul_le_mul h3 h6
   have h2:(n:Int)*(inf.bytes:Int)=((n*inf.bytes:Nat):Int):=by simp
   rw[h2]; omega
  have hA:(asInt (.int k (n:Int))).run P w=.ok (n:Int) w:=by simp[asInt,asIntOf]
  have hnew:(if n*size=0 then pure #[] else do pure (Builtin.zeroCells (←zeroValue e).cells n):Sem (Array Value)).run P w=.ok new'.toArray w:=by
   by_cases h0:n*size=0
   ·simp only[h0,if_true,h8 h0]; rfl
   ·simp[h0,fW h4 h5,h7]
  simp only[Sem.run_ite,Sem.run_bind,Sem.run_pure] at hnew
  unfold Builtin.append_
  simp only[ht,h1,List.getElem?_toArray,List.getElem?_cons_zero,List.getElem?_cons_succ,Sem.run_bind,aL hu,aL h2,Result.andThen_ok,bZ hs,Sem.run_pure,if_true,hA,w1,c1,if_false,
   mZ h4,c2,Int.toNat_natCast,hle,Bool.not_true,Bool.false_eq_true,Sem.run_ite,hnew]
  cases base with
  | none=>rw[hno rfl]; simp
  | some b=>simp[hst b rfl]
theorem IY {need old:Nat} {e:TypeId} (tp:Nat):need≤(Question.appendCap need old e).cut tp:=by simp[Question.cut]
set_option maxHeartbeats 1000000 in
theorem r6 {e size n sLen sCap:Nat} {ty:TypeId} {ts:Array TypeId} {base:Option Addr} {x' v:Value} {new' old':List Value} {inf:TypeInfo} (ht:ts[0]? = some t) (hu:P.underlying t=some (.slice e)) (hs:dZ P e=some size)
  (hi:P.info? e=some inf) (hz:inf.zero=some v) (hb:inf.bytes≤10000) (hc:Comes P ts e size n new' w x') (hlt:sCap<sLen+n) (oW:sLen+n≤1000000000)
  (hold:∀w1:World,w1.heap=w.heap→(Builtin.firstCells size sLen (.slice base sLen sCap)).run P w1=.ok old'.toArray w1) :
  ∃fU rest,sLen+n≤fU∧rest.length=(fU-(sLen+n))*v.cells.size∧(Builtin.append_ ts ty #[.slice base sLen sCap,x']).run P w =
   .ok (.slice (some ⟨w.heap.size,0,none⟩) (sLen+n) fU) (w.drew.alloc (.cells (old'++new'++rest).toArray e (0,0))):=by
 have hold:=hold w.drew rfl
 let fU:=(Question.appendCap (sLen+n) sCap e).cut (w.tape w.drawn (.appendCap (sLen+n) sCap e))
 refine ⟨fU,(Builtin.zeroCells v.cells (fU-(sLen+n))).toList,IY _,by simp[size_zeroCells],?_⟩
 have y_:¬(sLen+n≤sCap):=by omega
 have hn0:¬(((sLen+n:Nat):Int) > IntKind.i64.max):=by rw[IntKind.max_i64]; omega
 have hn3:¬(Builtin.nextslicecap (sLen+n) sCap*inf.bytes > 2 ^ 48):=by
  have h5:=nextslicecap_le hlt
  have:Builtin.nextslicecap (sLen+n) sCap*inf.bytes≤(2*1000000000)*10000:=Nat.mul_le_mul (by omega) hb
  omega
 have oI:∀Z:Array Value,old'.toArray++new'.toArray++Z=(old'++new'++Z.toList).toArray:=fun Z=>Array.ext' (by simp)
 have hz1:∀w1:World,(zeroValue e).run P w1=.ok v w1:=fun w1=>fW hi hz
 have hi1:∀w1:World,(typeInfo e).run P w1=.ok inf w1:=fun w1=>mZ hi
 cases hc with
 | @sl xt xd a c h1 h2 h3 h4=>
  have h4:=h4 w.drew rfl
  have hxf:pn xd=false:=h3
  have key:∀d,P.underlying xt=some d→pn d=false→(Builtin.append_ ts ty #[.slice base sLen sCap,.slice a n c]).run P w =
    .ok (.slice (some ⟨w.heap.size,0,none⟩) (sLen+n) fU) (w.drew.alloc (.cells (old'++new'++(Builtin.zeroCells v.cells (fU-(sLen+n))).toList).toArray e (0,0))):=by
   intro d hd hdf
   unfold Builtin.append_
   cases d<;>first
    | (cases hdf; done)
    | (simp only[ht,h1,List.getElem?_toArray,List.getElem?_cons_zero,List.getElem?_cons_succ,Sem.run_bind,aL hu,aL hd,Result.andThen_ok,bZ hs,Sem.run_pure,Bool.false_eq_true,if_false,
      Builtin.lenOf,y_,hi1,hn0,false_and,hn3,run_choose,Question.forced,World.drew_eq,run_askRoom,hold,Bool.not_false,if_true,h4,hz1,newRow,run_newObj]
       rw[oI]; rfl)
  exact key xd h2 hxf
 | @mk xt k k' Rg v' h1 h2 h3 h4 h5 h6 h7 h8=>
  rw[hi] at h4; cases h4
  rw[hz] at h5; cases h5
  have w1:IntKind.i64.wrap (n:Int)=n:=IntWalk.i64_in _ ⟨by omega,by omega⟩
  have c1:¬((n:Int)<0):=by omega
  have c2:¬((n:Int)*(inf.bytes:Int) > 2 ^ 48):=by
   have:n*inf.bytes≤1000000*10000:=Nat.mul_le_mul h3 h6
   have h2:(n:Int)*(inf.bytes:Int)=((n*inf.bytes:Nat):Int):=by simp
   rw[h2]; omega
  have hA:(asInt (.int k (n:Int))).run P w=.ok (n:Int) w:=by simp[asInt,asIntOf]
  have hnew:(if n*size=0 then pure #[] else do pure (Builtin.zeroCells (←zeroValue e).cells n):Sem (Array Value)).run P w.drew=.ok new'.toArray w.drew:=by
   by_cases h0:n*size=0
   ·simp only[h0,if_true,h8 h0]; rfl
   ·simp[h0,hz1,h7]
  simp only[Sem.run_ite,Sem.run_bind,Sem.run_pure] at hnew
  simp only[hz1,Result.andThen_ok] at hnew
  unfold Builtin.append_
  simp only[ht,h1,List.getElem?_toArray,List.getElem?_cons_zero,List.getElem?_cons_succ,Sem.run_bind,aL hu,aL h2,Result.andThen_ok,bZ hs,Sem.run_pure,if_true,hA,w1,c1,if_false,
   hi1,c2,Int.toNat_natCast,y_,hn0,false_and,hn3,run_choose,Question.forced,World.drew_eq,run_askRoom,hold,Bool.not_true,Bool.false_eq_true,Sem.run_ite,hnew,hz1,newRow,run_newObj]
  rw[oI]; rfl
theorem M4 (w:World) {old old' new new' rest:List Value} {e size fU sLen n:Nat} (hs:dZ P e=some size) (hz:0<size) (h1:F2 (VR φ) old old') (h2:F2 (VR φ) new new') (l1:old.length=sLen*size) (l2:new.length=n*size)
  (hle:sLen+n≤fU) (hr:rest.length=(fU-(sLen+n))*size) (hlen:(old++new).length≤1000000000000) :
  OR P φ (.cells (old++new).length (lay (old++new) .nil 0) e true) ⟨w.heap.size,fU*size,size⟩ (some (.cells (old'++new'++rest).toArray e (0,0))):=by
 refine IT (h1.append h2) hlen e _ rest true fun _=>⟨?_,hs,hz⟩
 simp only[List.length_append,hr,←h1.length,←h2.length,l1,l2]
 rw[←Nat.add_mul,←Nat.add_mul]
 congr 1
 omega
theorem ze (hfl:¬good fl) {b o n m c nn e size:Nat} {cc:T Value} {op:Bool} {κ:List Value→β} (hb:h.bl.get b=some (.cells nn cc e op)) (hg:good (e8 fl h size n (.slice (some ⟨b,o,none⟩) m c) κ)) :
  ∃l,good (κ l)∧l.length=n*size∧(l≠[]→o+l.length≤nn)∧∀j v,l[j]? = some v→cc.get (o+j)=some v:=by
 unfold e8 at hg
 split at hg
 ·rename_i h0
  have h0:n*size=0:=h0
  exact ⟨[],hg,h0.symm,fun hh=>absurd rfl hh,fun j v e=>by simp at e⟩
 ·rename_i k hk
  have hk:n*size=k+1:=hk
  simp only[hb] at hg
  split at hg<;>try exact absurd hg hfl
  rename_i hle; have hle:=cu hle
  obtain ⟨l,h1,h2,h3⟩:=jJ hfl _ _ _ _ _ hg
  simp only[List.append_nil] at h1
  exact ⟨l,h1,by rw[h2,hk],fun _=>by rw[h2]; exact hle,h3⟩
theorem HR.Rp (hr:HR P φ h w) {b nn e:Nat} (hlo:h.lo≤b) {c:T Value} {op:Bool} {pl:Pl} {ob:bt} {w':World} (hb:h.bl.get b=some (.cells nn c e op)) (hp:φ b=some pl) (hn:h.nx≤h.nx)
  (hsz:w'.heap.size=w.heap.size) (AJ:∀k,k≠pl.B→w'.heap[k]? = w.heap[k]?) (ho:OR P φ ob pl w'.heap[pl.B]?) (hd:OR P φ (.dead nn e) pl w'.heap[pl.B]?)
  (ht:w'.tape=w.tape) (hos:w'.os=w.os) (hout:w'.output=w.output) (hlv:ob.live) (PE:w.drawn≤w'.drawn:=by exact Nat.le_refl _) :
  HR P (fO φ h.nx pl) ⟨h.nx+1,(h.bl.aS b (.dead nn e)).aS h.nx ob,h.lo⟩ w'∧Ext φ (fO φ h.nx pl) h ⟨h.nx+1,(h.bl.aS b (.dead nn e)).aS h.nx ob,h.lo⟩ w w':=by
 obtain ⟨MF,hx1⟩:=hr.AI hlo (o:=.dead nn e) hp ⟨_,hb,trivial⟩ hsz AJ hd ht hos hout (.inr fun _=>qz ho hlv) PE
 have hnone:φ h.nx=none:=by
  cases hq:φ h.nx with
  | none=>rfl
  | some pl=>have:=(hr.dom _ _ hq).1; omega
 have hs:Small h.nx:=by unfold Small; omega
 have uT:=(hr.dom b pl hp).1
 have fT:∀x,x<h.nx→((h.bl.aS b (.dead nn e)).aS h.nx ob).get x=(h.bl.aS b (.dead nn e)).get x:=fun x hx=>T.fE _ _ hs (by unfold Small; omega) (by omega)
 have hsub:=oc (pl:=pl) hnone
 have alone:∀x o px,(h.bl.aS b (.dead nn e)).get x=some o→o.live→φ x=some px→px.B≠pl.B:=by
  intro x o px hx hl hpx hB
  have PF:=(hr.dom x px hpx).1
  rw[T.kj _ _ (by unfold Small; omega) (by unfold Small; omega)] at hx
  split at hx
  ·cases hx; exact hl
  ·rename_i hne
   exact hne (hr.inj x b o _ px pl hx hb hl trivial hpx hp hB).symm
 constructor
 ·refine ⟨?_,?_,?_,?_,?_,Nat.le_succ_of_le hr.lo⟩
  ·intro x o px hx hpx
   unfold fO at hpx
   split at hpx
   ·rename_i he; subst he; cases hpx
    rw[T.af] at hx; cases hx
    exact ho.mono hsub
   ·have PF:=(hr.dom x px hpx).1
    exact (MF.obj x o px ((fT x PF)▸hx) hpx).mono hsub
  ·intro x px hpx
   unfold fO at hpx
   split at hpx
   ·rename_i he; subst he; cases hpx; exact ⟨Nat.lt_succ_self _,by rw[hsz]; exact (hr.dom b pl hp).2⟩
   ·have:=MF.dom x px hpx; exact ⟨Nat.lt_succ_of_lt this.1,this.2⟩
  ·intro x o VE hx
   show x<h.nx+1
   rw[T.kj _ _ hs VE] at hx
   split at hx
   ·omega
   ·have:=MF.keys x o VE hx; exact Nat.lt_succ_of_lt this
  ·show h.nx+1<h.nx+1+1; omega
  ·intro x x' o1 o2 p1 p2 g1 g2 l1 l2 e1 e2 eB
   unfold fO at e1 e2
   split at e1<;>split at e2
   ·omega
   ·rename_i q1 q2; cases e1
    have PF:=(hr.dom x' p2 e2).1
    exact absurd eB.symm (alone x' o2 p2 ((fT x' PF)▸g2) l2 e2)
   ·rename_i q1 q2; cases e2
    have PF:=(hr.dom x p1 e1).1
    exact absurd eB (alone x o1 p1 ((fT x PF)▸g1) l1 e1)
   ·have n1:=(hr.dom x p1 e1).1
    have n2:=(hr.dom x' p2 e2).1
    exact MF.inj x x' o1 o2 p1 p2 ((fT x n1)▸g1) ((fT x' n2)▸g2) l1 l2 e1 e2 eB
 ·refine ⟨hsub,?_,Nat.le_succ _,hx1.size,hx1.yW,?_,ht,hos,hout,hx1.fz,rfl,fun x hx=>(fT x (Nat.lt_of_lt_of_le hx hr.lo)).trans (hx1.E1 x hx),hx1.E2,PE⟩
  ·intro x px e0 e1
   unfold fO at e1
   split at e1
   ·rename_i he; subst he; cases e1; exact ⟨Nat.le_refl _,.inr ⟨b,pl,hp,rfl⟩⟩
   ·rw[e0] at e1; cases e1
  ·intro x hx hpx
   show ((h.bl.aS b (.dead nn e)).aS h.nx ob).get x=_
   rw[fT x hx]
   exact hx1.Dx x hx hpx
theorem M5 {l l':List Value} (g:F2 (VR φ) l l') (h:l.all d_=true):∀v'∈l',v'.oneCell'=true:=by
 induction g with
 | nil=>intro v' w9; cases w9
 | cons hv _ ih=>
  simp only[List.all_cons,Bool.and_eq_true] at h
  intro v' w9
  simp only[List.mem_cons] at w9
  rcases w9 with rfl | w9
  ·exact E8 h.1 hv
  ·exact ih h.2 v' w9
set_option maxHeartbeats 2000000 in
theorem xz (hfl:¬good fl) {e size:Nat} {ty xt:TypeId} {xd:TypeDesc} {inf:TypeInfo} {ts:Array TypeId} {z:List Value} (ht:ts[0]? = some t) (hu:P.underlying t=some (.slice e))
  (hz:Q9 P e=some (z,size)) (hi:P.info? e=some inf) (hby:inf.bytes≤10000) (UT:ts[1]? = some xt) (UU:P.underlying xt=some xd) (hr:HR P φ h w) {s s' x x':Value} {κ:Value→Heap→β}
  (hg:good (bG fl e size z (pn xd) s x h κ)) (PN:VR φ s s') (hx:VR φ x x') :
  ∃φ' v v' h' w',good (κ v h')∧VR φ' v v'∧HR P φ' h' w'∧Ext φ φ' h h' w w'∧(Builtin.append_ ts ty #[s',x']).run P w=.ok v' w':=by
 obtain ⟨hz1,DN,Rc,VC⟩:=oe hz
 obtain ⟨v,Rg,hi',IU,hzl,Rb⟩:=fM hz1
 rw[hi] at hi'; cases hi'
 have hvs:v.cells.size=size:=by rw[←Rc,hzl]; simp
 unfold bG at hg
 split at hg<;>try exact absurd hg hfl
 rename_i base sLen sCap
 obtain ⟨n,new,new',g1,g2,g3,g4⟩:=AN hfl hz hi hby UT UU hr hg hx
 have IZ:=g2.length
 obtain ⟨base',kr,hs'⟩:∃base' kr,s'=.slice base' sLen kr:=by cases PN<;>exact ⟨_,_,rfl⟩
 have hle':sLen≤kr:=by subst hs'; cases PN<;>first | assumption | omega
 have fresh:∀{h1:Heap} {w1:World} {old old':List Value} {κ1:Value→Heap→β},HR P φ h1 w.drew→Ext φ φ h h1 w w.drew→sLen+n≤1000000000→kr<sLen+n→
   F2 (VR φ) old old'→old.length=sLen*size→(∀w1:World,w1.heap=w.heap→(Builtin.firstCells size sLen s').run P w1=.ok old'.toArray w1)→
   good (dI fl (old++new) e true h1 fun b h=>κ (.slice (some ⟨b,0,none⟩) (sLen+n) aD) h)→
   ∃φ' v v' h' w',good (κ v h')∧VR φ' v v'∧HR P φ' h' w'∧Ext φ φ' h h' w w'∧(Builtin.append_ ts ty #[s',x']).run P w=.ok v' w':=by
  intro h1 w1 old old' κ1 MF hx1 oW hlt Za w_ pJ hgood
  unfold dI at hgood
  obtain ⟨k1,k2⟩:=ng hfl hgood
  obtain ⟨k3,k4⟩:=dn hfl k2
  rw[hs'] at pJ
  obtain ⟨fU,rest,j1,j2,j3⟩:=r6 (ty:=ty) ht hu DN hi IU hby g4 hlt oW pJ
  rw[hvs] at j2
  have Rq:=M4 (P:=P) (φ:=φ) w.drew (fU:=fU) DN VC Za g2 w_ g3 j1 j2 k1
  obtain ⟨m1,m2⟩:=MF.fresh k3 (fU*size) size Rq trivial
  refine ⟨_,_,_,_,_,k4,.bQ (fG _ _ _) j1 (by simp),m1,hx1.trans m2,by rw[hs']; exact j3⟩
 split at g1
 ·
  refine ⟨φ,_,s',h,w,g1,PN,hr,Ext.refl _ _ _,?_⟩
  have hn0:new=[]:=List.eq_nil_of_length_eq_zero (by rw[g3]; omega)
  subst hn0
  cases g2
  rw[hs']
  exact iH ht hu DN g4 (by omega) (w':=w) (fun a _=>by simp[storeCells]) (fun _=>rfl)
 ·rename_i n
  rw[bL] at g1
  split at g1<;>try exact absurd g1 hfl
  rename_i oW; have oW:=cu oW
  have oW:sLen+(n+1)≤1000000000:=oW
  split at g1
  ·
   split at g1<;>try exact absurd g1 hfl
   rename_i hc0 hl0
   have hc0:=cF hc0; have hl0:=cF hl0
   subst hc0; subst hl0
   cases PN with
   | ef _=>
    cases hs'
    refine fresh (w1:=w) (κ1:=κ) (old:=[]) (old':=[]) hr.drew (Ext.refl _ _ _).drew oW (by omega) .nil (by simp) (fun w1 _=>by simp[Builtin.firstCells]) (by simpa using g1)
  ·rename_i b o
   split at g1<;>try exact absurd g1 hfl
   rename_i Rr; have Rr:=m_ Rr
   split at g1
   ·
    rename_i hop; have hop:=cF hop; subst hop
    obtain ⟨pl,hp,hcap,rfl⟩:∃pl,φ b=some pl∧kr*pl.e+o=pl.sz∧base'=some ⟨pl.B,o,none⟩:=by
     subst hs'
     cases PN with
     | slice hp hn hc=>exact absurd hc (Nat.lt_irrefl _)
     | bQ hp hn hc=>exact ⟨_,hp,hc,rfl⟩
    split at g1<;>try exact absurd g1 hfl
    rename_i nn cc e' hb
    obtain ⟨C,hC,y_,hn2,Z1,hcell⟩:=hr.rowAt hb hp
    obtain ⟨o1,o2,o3⟩:=Z1 rfl
    split at g1<;>try exact absurd g1 hfl
    ·
     rename_i hee hfit
     have hee:=cF hee; subst hee
     have hfit:o+(sLen+(n+1))*size≤nn:=cu hfit
     have hpe:pl.e=size:=by rw[DN] at o2; exact (Option.some.inj o2).symm
     have hroom:sLen+(n+1)≤kr:=by
      rw[hpe] at hcap
      have h1:(sLen+(n+1))*size≤kr*size:=by omega
      exact Nat.le_of_mul_le_mul_right h1 VC
     obtain ⟨k1,k2,k3⟩:=iN hfl _ _ _ _ _ g1
     obtain ⟨hlo,k3⟩:=bq hfl k3
     obtain ⟨w',j1,j2,j3⟩:=hr.storeAt hlo hb hp g2 k1 k2
     refine ⟨φ,_,.slice (some ⟨pl.B,o,none⟩) (sLen+(n+1)) kr,_,w',k3,.bQ hp hroom hcap,j2,j3,?_⟩
     rw[hs']
     exact iH ht hu DN g4 hroom (fun a ha=>by cases ha; rw[iL]; exact j1) (fun hh=>by cases hh)
    ·
     rename_i hee hfit
     have hee:=cF hee; subst hee
     have hfit:=PD hfit
     split at g1<;>try exact absurd g1 hfl
     rename_i UW
     simp only[Bool.and_eq_true] at UW
     obtain ⟨UW,VM⟩:=UW
     have UW:=cF UW; subst UW
     have hpe:pl.e=size:=by rw[DN] at o2; exact (Option.some.inj o2).symm
     have PO:=fun hlo:h.lo≤b=>hr.AI hlo (w':=w) (o:=.dead nn e) hp ⟨_,hb,trivial⟩ rfl (fun _ _=>rfl) (by rw[hC]; exact ⟨by omega,hn2,o2,o3⟩) rfl rfl rfl (.inr id)
     by_cases hroom:sLen+(n+1)≤kr
     ·obtain ⟨old,k1,k3,k5,k6⟩:=ze hfl hb g1
      obtain ⟨hlo,k1⟩:=bq hfl k1
      unfold dI at k1
      obtain ⟨m1,m2⟩:=ng hfl k1
      obtain ⟨m3,m4⟩:=dn hfl m2
      have hone:∀v'∈new',v'.oneCell'=true:=M5 g2 VM
      have VN:sLen*size+new'.length≤C.size:=by
       rw[o1,←hcap,hpe,←IZ,g3,←Nat.add_mul]
       exact Nat.le_trans (Nat.mul_le_mul_right _ hroom) (Nat.le_add_right _ _)
      have hrun:=run_storeCells_at P pl.B (sLen*size) e new' 0 C w hC (by simpa using VN) hone
      simp only[Nat.add_zero] at hrun
      have hrow:=setRow_heap w pl.B C (C.toList.take (sLen*size)++new'++C.toList.drop (sLen*size+new'.length)).toArray e _ hC
      have Rq:OR P φ (.cells (old++new).length (lay (old++new) .nil 0) e true) pl (some (.cells (C.toList.take (sLen*size)++new'++C.toList.drop (sLen*size+new'.length)).toArray e (0,0))):=by
       refine ⟨rfl,rfl,?_,by omega,fun _=>⟨?_,o2,o3⟩,?_⟩
       ·simp only[List.length_append,k3,List.size_toArray,List.length_take,List.length_drop,Array.length_toList,←IZ]
        omega
       ·simp only[List.length_append,List.size_toArray,List.length_take,List.length_drop,Array.length_toList]
        omega
       ·intro i v jM hi
        have hi2:i<sLen*size+new.length:=by simpa[List.length_append,k3] using hi
        rw[qB _ .nil 0 (by omega) i (by unfold Small; omega),if_pos (by omega)] at jM
        simp only[Nat.sub_zero] at jM
        simp only[List.getElem?_toArray,List.append_assoc]
        rcases Nat.lt_or_ge i (sLen*size) with hlt | hge
        ·rw[List.getElem?_append_left (by omega)] at jM
         have hgc:=k6 i v jM
         rw[Nat.zero_add] at hgc
         obtain ⟨v',e1,e2⟩:=hcell i v hgc (by have:=k5 (by intro hnil; rw[hnil] at k3; simp at k3; omega); omega)
         refine ⟨v',?_,e2⟩
         rw[List.getElem?_append_left (by simp; omega),List.getElem?_take_of_lt hlt]
         simpa using e1
        ·rw[List.getElem?_append_right (by omega),k3] at jM
         obtain ⟨v',e1,e2⟩:=g2.get _ v jM
         refine ⟨v',?_,e2⟩
         have htl:(C.toList.take (sLen*size)).length=sLen*size:=by
          rw[List.length_take,Array.length_toList]; exact Nat.min_eq_left (by omega)
         have hin:i-sLen*size<new'.length:=by rw[←IZ]; omega
         rw[List.getElem?_append_right (by rw[htl]; exact hge),htl,List.getElem?_append_left hin]
         exact e1
      obtain ⟨q1,q2⟩:=hr.Rp hlo (ob:=.cells (old++new).length (lay (old++new) .nil 0) e true) (w':=w.setRow pl.B (C.toList.take (sLen*size)++new'++C.toList.drop (sLen*size+new'.length)).toArray) hb hp m3
       (setRow_size _ _ _) (fun k hk=>setRow_other _ _ _ _ hk) (by rw[hrow]; exact Rq) (by rw[hrow]; exact ⟨by omega,hn2,o2,o3⟩) rfl rfl rfl (by trivial)
      refine ⟨_,_,.slice (some ⟨pl.B,0,none⟩) (sLen+(n+1)) kr,_,_,m4,.bQ (fG _ _ _) hroom hcap,q1,q2,?_⟩
      rw[hs']
      exact iH ht hu DN g4 hroom (fun a ha=>by cases ha; rw[iL,Nat.zero_add]; exact hrun) (fun hh=>by cases hh)
     ·obtain ⟨old,old',k1,k2,k3,k4⟩:=gN hfl hr g1 PN ⟨_,_,_,rfl,Nat.le_refl _⟩
      obtain ⟨hlo,k1⟩:=bq hfl k1
      exact fresh (w1:=w) (κ1:=κ) (PO hlo).1.drew (PO hlo).2.drew oW (by omega) k2 k3 k4 k1
   ·
    rename_i hop; have hop:=m_ hop
    obtain ⟨pl,hp,rfl,rfl,Z2⟩:∃pl,φ b=some pl∧kr=sCap∧base'=some ⟨pl.B,o,none⟩∧sCap<aD:=by
     subst hs'
     cases PN with
     | slice hp hn hc=>exact ⟨_,hp,rfl,rfl,hc⟩
     | bQ hp hn hc=>exact absurd rfl hop
     | cr a a' c=>exact absurd rfl Rr
    split at g1<;>try exact absurd g1 hfl
    ·rename_i nn cc e' op hle hb
     have hroom:sLen+(n+1)≤kr:=cu hle
     obtain ⟨k1,k2,k3⟩:=iN hfl _ _ _ _ _ g1
     obtain ⟨hlo,k3⟩:=bq hfl k3
     obtain ⟨w',j1,j2,j3⟩:=hr.storeAt hlo hb hp g2 k1 k2
     have hcl:kr<aD:=Z2
     refine ⟨φ,_,.slice (some ⟨pl.B,o,none⟩) (sLen+(n+1)) kr,_,w',k3,.slice hp hroom hcl,j2,j3,?_⟩
     rw[hs']
     exact iH ht hu DN g4 hroom (fun a ha=>by cases ha; rw[iL]; exact j1) (fun hh=>by cases hh)
    ·rename_i hle
     have hlt:=PD hle
     split at g1<;>try exact absurd g1 hfl
     obtain ⟨old,old',k1,k2,k3,k4⟩:=gN hfl hr g1 PN ⟨_,_,_,rfl,Nat.le_refl _⟩
     exact fresh (w1:=w) (κ1:=κ) hr.drew (Ext.refl _ _ _).drew oW hlt k2 k3 k4 k1
  ·exact absurd g1 hfl
end Go.Vai

namespace Go.Vai
open Go
variable {β:Type} {fl:β} {good:β→Prop} {P:Program} {φ:dm} {h:Heap} {w:World} {t:TypeId}
theorem AO {s:Sem Unit} {w':World} (hs:s.run P w=.ok () w'):((do s; pure Next.skip:Sem Next)).run P w=.ok .skip w':=by simp[hs]
theorem r7 (hfl:¬good fl) {kt et:TypeId} {ty:TypeId} {ts:Array TypeId} (ht:ts[0]? = some t) (hu:P.underlying t=some (.map kt et)) (hr:HR P φ h w)
  {m:Option Nat} {x':Value} {κ:Value→Heap→β} (hg:good (iY fl [] (.map m) h κ)) (hx:VR φ (.map m) x') :
  ∃h' w',good (κ (.tuple #[]) h')∧HR P φ h' w'∧Ext φ φ h h' w w'∧(Builtin.clear_ ts ty #[x']).run P w=.ok (.tuple #[]) w':=by
 cases m with
 | none=>
  cases hx
  exact ⟨h,w,by simpa[iY] using hg,hr,Ext.refl _ _ _,by simp[Builtin.clear_,ht,aL hu]⟩
 | some r=>
  simp only[iY] at hg
  split at hg<;>try exact absurd hg hfl
  rename_i es clock hb
  obtain ⟨hlo,hg⟩:=bq hfl hg
  cases hx with
  | map hp=>
   rename_i pl
   obtain ⟨es',hO,h2⟩:=hr.oT hb hp
   obtain ⟨w',j1,j2,j3⟩:=hr.uW hlo (VF:=[]) (DO:=#[]) (clock':=clock) hb hp .nil
   exact ⟨_,w',hg,j2,j3,by simp[Builtin.clear_,ht,aL hu,cN hO,j1]⟩
theorem x6 (bs:List UInt8) (κ:List Value→β):yR bs κ=κ (bs.map fun b=>.int .u8 (.ofNat b.toNat)):=by
 induction bs generalizing κ with
 | nil=>rfl
 | cons b bs ih=>simp only[yR,bL,ih,List.map_cons]
theorem I1 (hfl:¬good fl):∀(l:List Value) (κ:List UInt8→β),good (Y6 fl l κ)→∃ns:List Int,l=ns.map (Value.int .u8)∧good (κ (ns.map fun n=>UInt8.ofNat n.toNat)):=by
 intro l
 induction l with
 | nil=>intro κ hg; exact ⟨[],rfl,hg⟩
 | cons v l ih=>
  intro κ hg
  unfold Y6 at hg
  split at hg
  ·rename_i e; cases e
  ·rename_i n l2 e
   cases e
   obtain ⟨ns,rfl,g⟩:=ih _ hg
   exact ⟨(n:Int)::ns,rfl,g⟩
  ·exact absurd hg hfl
theorem F2.u8:∀{ns:List Int} {l':List Value},F2 (VR φ) (ns.map (Value.int .u8)) l'→l'=ns.map (Value.int .u8):=by
 intro ns
 induction ns with
 | nil=>intro l' h; cases h; rfl
 | cons n ns ih=>
  intro l' h
  cases h with
  | cons h t=>cases h; rw[ih t]; rfl
set_option maxHeartbeats 2000000 in
theorem AP (hfl:¬good fl) {op:Op} {i:XI β} (hc:xU fl P op=some i) {tm:T Value} {ρ:Operand→Value} (hρ:∀y∈op.operands.toList,VR φ (dV tm y) (ρ y)) (hr:HR P φ h w)
  {κ:Value→Heap→β} (hg:good (i.run tm h κ)) {o:Oper} (ho:o.op=op):M1 good P φ h w κ ((execOp ρ o).run P w):=by
 have unit:∀{s:Sem Unit},(∃h' w',good (κ undef h')∧HR P φ h' w'∧Ext φ φ h h' w w'∧s.run P w=.ok () w')→execOp ρ o=(do s; pure Next.skip)→
   M1 good P φ h w κ ((execOp ρ o).run P w):=by
  intro s ⟨h',w',g1,g2,g3,g4⟩ e
  exact ⟨φ,undef,undef,h',w',.skip,g1,VR.undef,g2,g3,by rw[e]; exact AO g4,.inr ⟨rfl,rfl⟩⟩
 have val:∀{s:Sem Value},(∃φ' v v' h' w',good (κ v h')∧VR φ' v v'∧HR P φ' h' w'∧Ext φ φ' h h' w w'∧s.run P w=.ok v' w')→execOp ρ o=(do pure (Next.value (←s)))→
   M1 good P φ h w κ ((execOp ρ o).run P w):=by
  intro s ⟨φ',v,v',h',w',g1,g2,g3,g4,g5⟩ e
  exact ⟨φ',v,v',h',w',.value v',g1,g2,g3,g4,by rw[e]; exact iw g5,.inl rfl⟩
 cases op<;>simp only[xU] at hc<;>try (cases hc; done)
 case store t a x=>
  split at hc<;>try (cases hc; done)
  rename_i s hs
  cases hc; rw[XI.cG] at hg
  exact unit (za hfl hs hr hg (hρ a (by simp[Op.operands])) (hρ x (by simp[Op.operands]))) (by simp only[execOp,ho])
 case mapUpdate t m k x=>
  split at hc<;>try (cases hc; done)
  rename_i kt et hu
  cases hc; rw[XI.pz] at hg
  exact unit (lu hfl hu hr hg (hρ m (by simp[Op.operands])) (hρ k (by simp[Op.operands])) (hρ x (by simp[Op.operands]))) (by simp only[execOp,ho])
 case insert t m k x=>
  split at hc<;>try (cases hc; done)
  rename_i kt et hu
  cases hc; rw[XI.pz] at hg
  exact unit (lu hfl hu hr hg (hρ m (by simp[Op.operands])) (hρ k (by simp[Op.operands])) (hρ x (by simp[Op.operands]))) (by simp only[execOp,ho])
 case range t x=>
  split at hc<;>try (cases hc; done)
  rename_i kt et hu
  cases hc; rw[XI.bS] at hg
  exact val (zb hfl hu hr hg (hρ x (by simp[Op.operands]))) (by simp only[execOp,ho])
 case entry it=>
  cases hc; rw[XI.bS] at hg
  obtain ⟨v,v',g1,g2,g3⟩:=zd hfl hr hg (hρ it (by simp[Op.operands]))
  exact val ⟨φ,v,v',h,w,g1,g2,hr,Ext.refl _ _ _,g3⟩ (by simp only[execOp,ho])
 case convert src dst x=>
  split at hc<;>try (cases hc; done)
  ·rename_i e Zb Zc
   split at hc<;>try (cases hc; done)
   rename_i UX hsz
   cases hc; rw[XI.bS] at hg
   have r5:=hρ x (by simp[Op.operands])
   unfold mV at hg
   split at hg<;>try exact absurd hg hfl
   rename_i s hx
   rw[hx] at r5
   generalize hy:ρ x=y at r5
   cases r5
   rw[x6,uc,Nat.zero_add] at hg
   split at hg<;>try exact absurd hg hfl
   rename_i hle; have hle:=cu hle
   obtain ⟨hn,hg⟩:=dn hfl hg
   have hlen:(s.data.toList.map fun b=>Value.int .u8 (.ofNat b.toNat)).length=s.size:=by rw[List.length_map,Array.length_toList]; rfl
   rw[hlen] at hg hle
   have hcap:s.size≤grownCap w s.size 0 e:=IY _
   have hrow:(bytesRow s (grownCap w s.size 0 e)).size=grownCap w s.size 0 e:=by
    simp only[bytesRow,Array.size_append,Array.size_map,Array.size_replicate]
    show s.size+_=_
    omega
   have Rq:OR P φ (.ro s.size (lay (s.data.toList.map fun b=>Value.int .u8 (.ofNat b.toNat)) .nil 0) e) ⟨w.drew.heap.size,grownCap w s.size 0 e,1⟩
     (some (.cells (bytesRow s (grownCap w s.size 0 e)) e ((bytesRow s (grownCap w s.size 0 e)).size,(bytesRow s (grownCap w s.size 0 e)).size+1))):=by
    refine ⟨rfl,by rw[hrow]; exact hcap,fun i v jM hi=>?_⟩
    rw[qB _ .nil 0 (by rw[hlen]; omega) i (by unfold Small; omega),if_pos (by rw[hlen]; omega)] at jM
    simp only[Nat.sub_zero,List.getElem?_map] at jM
    have hi2:i<s.data.size:=hi
    refine ⟨v,?_,?_⟩
    ·simp only[bytesRow]
     rw[Array.getElem?_append_left (by simpa using hi2),Array.getElem?_map,←Array.getElem?_toList]
     exact jM
    ·cases hq:s.data.toList[i]? with
     | none=>rw[hq] at jM; cases jM
     | some b=>rw[hq] at jM; cases jM; exact .int _ _
   obtain ⟨m1,m2⟩:=hr.drew.fresh hn (grownCap w s.size 0 e) 1 Rq trivial
   refine val (s:=convert src dst (ρ x)) ⟨_,_,_,_,_,hg,.bQ (fG _ _ _) hcap (by simp),m1,m2.Rl,?_⟩ (by simp only[execOp,ho])
   rw[hy]
   exact run_bytes_of_string w src dst e s Zb Zc UX
  ·rename_i e Zb Zc
   split at hc<;>try (cases hc; done)
   rename_i UX
   cases hc; rw[XI.bS] at hg
   have r5:=hρ x (by simp[Op.operands])
   unfold Ax at hg
   split at hg<;>try exact absurd hg hfl
   rename_i a n c hx
   rw[hx] at r5
   obtain ⟨l,l',g1,g2,g3,g4⟩:=gN hfl hr hg r5 ⟨_,_,_,rfl,Nat.le_refl _⟩
   obtain ⟨ns,rfl,g5⟩:=I1 hfl _ _ g1
   have hl':=F2.u8 g2
   subst hl'
   have g4:=g4 w rfl
   refine val (s:=convert src dst (ρ x)) ⟨φ,_,_,h,w,g5,.string _,hr,Ext.refl _ _ _,?_⟩ (by simp only[execOp,ho])
   generalize hy:ρ x=y at r5 g4
   have fin:∀(a:Addr) (c:Nat),(loadCells a n).run P w=.ok (ns.map (Value.int .u8)).toArray w→(convert src dst (.slice (some a) n c)).run P w=.ok (.string ⟨⟨ns.map fun n=>UInt8.ofNat n.toNat⟩⟩) w:=by
    intro a c hl
    rw[run_convert_bytes_string w src dst e _ n c Zb UX Zc,run_bytesToString w a n c ns hl,foldl_push_bytes]
    simp[ByteArray.empty,ByteArray.emptyWithCapacity]
    rfl
   cases r5 with
   | ef hle=>
    have hn:ns=[]:=by
     have:=g4
     simp[Builtin.firstCells] at this
     simpa using this
    subst hn
    exact run_convert_bytes_nil w src e Zb UX n c dst Zc
   | slice hp hn hc=>exact fin _ _ (by simpa[Builtin.firstCells] using g4)
   | bQ hp hn hc=>exact fin _ _ (by simpa[Builtin.firstCells] using g4)
   | cr _ a' c=>exact fin _ _ (by simpa[Builtin.firstCells] using g4)
 case call c=>
  obtain ⟨callee,args,ts⟩:=c
  cases callee<;>(try simp only at hc)<;>try (cases hc; done)
  rename_i b
  cases b<;>(try simp only at hc)<;>try (cases hc; done)
  case append=>
   split at hc<;>try contradiction
   rename_i s x _ hx
   have hargs:args=#[s,x]:=Array.ext' (by simpa using hx)
   split at hc<;>try contradiction
   rename_i st xt ht UT
   split at hc<;>try contradiction
   rename_i e hu
   split at hc<;>try contradiction
   rename_i inf xd hi UU
   split at hc<;>try contradiction
   rename_i z size hz hby
   cases hc; rw[XI.cG] at hg
   exact val (xz (ty:=o.type) hfl ht hu hz hi (cu hby) UT UU hr hg (hρ s (by simp[Op.operands,Call.operands,hargs])) (hρ x (by simp[Op.operands,Call.operands,hargs])))
    (by simp[execOp,ho,resolve,invoke,builtin,hargs])
  case copy=>
   split at hc<;>try contradiction
   rename_i d x _ hx
   have hargs:args=#[d,x]:=Array.ext' (by simpa using hx)
   split at hc<;>try contradiction
   rename_i t ht
   split at hc<;>try contradiction
   rename_i e hu
   split at hc<;>try contradiction
   rename_i s hs
   cases hc; rw[XI.cG] at hg
   obtain ⟨v,h',w',g⟩:=AM (ty:=o.type) hfl ht hu hs hr hg (hρ d (by simp[Op.operands,Call.operands,hargs])) (hρ x (by simp[Op.operands,Call.operands,hargs]))
   exact val ⟨φ,v,v,h',w',g⟩ (by simp[execOp,ho,resolve,invoke,builtin,hargs])
  case clear=>
   split at hc<;>try contradiction
   rename_i x _ hx
   have hargs:args=#[x]:=Array.ext' (by simpa using hx)
   have r5:VR φ (dV tm x) (ρ x):=hρ x (by simp[Op.operands,Call.operands,hargs])
   split at hc<;>try contradiction
   rename_i t ht
   split at hc<;>try contradiction
   ·rename_i e hu
    split at hc<;>try contradiction
    rename_i z hz
    cases hc; rw[XI.bS] at hg
    obtain ⟨h',w',g1,g2,g3,g4⟩:=pI (ty:=o.type) hfl ht hu hz hr hg r5
    exact val ⟨φ,.tuple #[],.tuple #[],h',w',g1,VR.undef,g2,g3,g4⟩ (by simp[execOp,ho,resolve,invoke,builtin,hargs])
   ·rename_i kt et hu
    cases hc; rw[XI.bS] at hg
    split at hg<;>try exact absurd hg hfl
    rename_i m hm
    rw[hm] at r5
    obtain ⟨h',w',g1,g2,g3,g4⟩:=r7 (ty:=o.type) hfl ht hu hr hg r5
    exact val ⟨φ,.tuple #[],.tuple #[],h',w',g1,VR.undef,g2,g3,g4⟩ (by simp[execOp,ho,resolve,invoke,builtin,hargs])
  case cap=>
   split at hc<;>try contradiction
   rename_i x _ hx
   have hargs:args=#[x]:=Array.ext' (by simpa using hx)
   have r5:VR φ (dV tm x) (ρ x):=hρ x (by simp[Op.operands,Call.operands,hargs])
   split at hc<;>try contradiction
   rename_i t ht
   split at hc<;>try contradiction
   rename_i e hu
   cases hc; rw[XI.bS] at hg
   have hex:execOp ρ o=(do pure (Next.value (←Builtin.cap_ ts o.type #[ρ x]))):=by simp[execOp,ho,resolve,invoke,builtin,hargs]
   split at hg<;>try exact absurd hg hfl
   rename_i a n c hv
   split at hg<;>try exact absurd hg hfl
   rename_i hle; have hle:=cu hle
   rw[hv] at r5
   obtain ⟨a',e3⟩:∃a',ρ x=.slice a' n c:=by
    generalize ρ x=z at r5
    cases r5 with
    | ef _=>exact ⟨_,rfl⟩
    | slice _ _ _=>exact ⟨_,rfl⟩
    | bQ _ _ _=>exact absurd hle (by unfold aD; omega)
    | cr _ _ _=>exact absurd hle (by unfold fR; omega)
   rw[e3] at hex
   exact val ⟨φ,_,_,h,w,hg,.int _ _,hr,Ext.refl _ _ _,by simp[Builtin.cap_,ht,aL hu,goInt]⟩ hex
  case delete=>
   split at hc<;>try contradiction
   rename_i m k _ hx
   have hargs:args=#[m,k]:=Array.ext' (by simpa using hx)
   split at hc<;>try contradiction
   rename_i t ht
   split at hc<;>try contradiction
   rename_i kt et hu
   cases hc; rw[XI.cG] at hg
   obtain ⟨h',w',g1,g2,g3,g4⟩:=xy (ty:=o.type) hfl ht hu hr hg (hρ m (by simp[Op.operands,Call.operands,hargs])) (hρ k (by simp[Op.operands,Call.operands,hargs]))
   exact val ⟨φ,.tuple #[],.tuple #[],h',w',g1,VR.undef,g2,g3,g4⟩ (by simp[execOp,ho,resolve,invoke,builtin,hargs])
  case min=>
   split at hc<;>try contradiction
   rename_i a b _ hx
   have hargs:args=#[a,b]:=Array.ext' (by simpa using hx)
   have ha:VR φ (dV tm a) (ρ a):=hρ a (by simp[Op.operands,Call.operands,hargs])
   have hb:VR φ (dV tm b) (ρ b):=hρ b (by simp[Op.operands,Call.operands,hargs])
   cases hc; rw[XI.cG] at hg
   have hex:execOp ρ o=(do pure (Next.value (←Builtin.min_ ts o.type #[ρ a,ρ b]))):=by simp[execOp,ho,resolve,invoke,builtin,hargs]
   split at hg<;>try exact absurd hg hfl
   rename_i k x k' y e1 e2
   rw[e1] at ha; rw[e2] at hb
   have e3:ρ a=.int k x:=by generalize ρ a=z at ha; cases ha; rfl
   have e4:ρ b=.int k' y:=by generalize ρ b=z at hb; cases hb; rfl
   have hrun:=run_min_int2 (P:=P) (w:=w) ts o.type k k' x y
   rw[e3,e4] at hex
   split at hg
   ·rename_i hlt
    rw[ff,decide_eq_true_eq] at hlt
    rw[if_pos hlt] at hrun
    exact val ⟨φ,_,_,h,w,hg,.int _ _,hr,Ext.refl _ _ _,hrun⟩ hex
   ·rename_i hlt
    rw[ff,decide_eq_false_iff_not] at hlt
    rw[if_neg hlt] at hrun
    exact val ⟨φ,_,_,h,w,hg,.int _ _,hr,Ext.refl _ _ _,hrun⟩ hex
  case max=>
   split at hc<;>try contradiction
   rename_i a b _ hx
   have hargs:args=#[a,b]:=Array.ext' (by simpa using hx)
   have ha:VR φ (dV tm a) (ρ a):=hρ a (by simp[Op.operands,Call.operands,hargs])
   have hb:VR φ (dV tm b) (ρ b):=hρ b (by simp[Op.operands,Call.operands,hargs])
   cases hc; rw[XI.cG] at hg
   have hex:execOp ρ o=(do pure (Next.value (←Builtin.max_ ts o.type #[ρ a,ρ b]))):=by simp[execOp,ho,resolve,invoke,builtin,hargs]
   split at hg<;>try exact absurd hg hfl
   rename_i k x k' y e1 e2
   rw[e1] at ha; rw[e2] at hb
   have e3:ρ a=.int k x:=by generalize ρ a=z at ha; cases ha; rfl
   have e4:ρ b=.int k' y:=by generalize ρ b=z at hb; cases hb; rfl
   have hrun:=run_max_int2 (P:=P) (w:=w) ts o.type k k' x y
   rw[e3,e4] at hex
   split at hg
   ·rename_i hlt
    rw[ff,decide_eq_true_eq] at hlt
    rw[if_pos hlt] at hrun
    exact val ⟨φ,_,_,h,w,hg,.int _ _,hr,Ext.refl _ _ _,hrun⟩ hex
   ·rename_i hlt
    rw[ff,decide_eq_false_iff_not] at hlt
    rw[if_neg hlt] at hrun
    exact val ⟨φ,_,_,h,w,hg,.int _ _,hr,Ext.refl _ _ _,hrun⟩ hex
end Go.Vai

namespace Go.Vai
open Go
variable {β:Type} {fl:β} {good:β→Prop} {P:Program} {φ:dm} {h:Heap} {w:World} {t:TypeId}
structure TR (φ:dm) (nt:Nat) (tm:T Value) (a:Act):Prop where
 size:a.tmps.size=nt
 small:nt≤1000000000000
 rel:∀t,t<nt→VR φ (bX tm t) (a.tmps.getD t undef)
theorem TR.mono {φ φ':dm} {nt:Nat} {tm:T Value} {a:Act} (hs:Sub φ φ') (ht:TR φ nt tm a):TR φ' nt tm a:=⟨ht.size,ht.small,fun t hlt=>(ht.rel t hlt).mono hs⟩
theorem cO {a b:Nat} (h:Nat.ble (Nat.succ a) b=true):a<b:=cu h
theorem TR.eval {nt:Nat} {tm:T Value} {a:Act} (ht:TR φ nt tm a) {x:Operand} (hx:Ay nt x=true):VR φ (dV tm x) (a.eval x):=by
 cases x with
 | tmp t=>exact ht.rel t (cO hx)
 | const v=>exact jy hx
 | func f=>exact VR.func' .nil .nil
 | global g=>cases hx
noncomputable def g_ (tm:T Value) (d:Option Nat) (v:Value):T Value:=match d with | some d=>tm.aS d v | none=>tm
theorem fh (tm:T Value) (d:Option Nat) (v:Value) (h:Heap) (κ:T Value→Heap→β):mK tm d v h κ=κ (g_ tm d v) h:=by
 cases d with
 | none=>rfl
 | some d=>show T.set tm d v (fun tm=>κ tm h)=_; rw[T.b6]; rfl
def I3 (nt:Nat) (d:Option Nat):Bool:=match d with | some d=>Nat.ble (Nat.succ d) nt | none=>true
theorem og {nt t:Nat} (hn:nt≤1000000000000) (ht:t<nt):Small t:=by unfold Small; omega
theorem fk {nt:Nat} {tm:T Value} {d:Option Nat} {v:Value} (hn:nt≤1000000000000) (hd:I3 nt d=true) {t:Nat} (ht:t<nt):bX (g_ tm d v) t=if d=some t then v else bX tm t:=by
 cases d with
 | none=>simp[g_]
 | some d=>
  have hd':=cO hd
  simp only[g_,bX]
  rw[T.kj tm v (og hn hd') (og hn ht)]
  by_cases he:d=t
  ·simp[he]
  ·simp[he]
theorem TR.put {nt:Nat} {tm:T Value} {a:Act} (ht:TR φ nt tm a) {d:Option Nat} (hd:I3 nt d=true) {v v':Value} (hv:VR φ v v'):TR φ nt (g_ tm d v) (a.put d v'):=by
 refine ⟨?_,ht.small,?_⟩
 ·cases d<;>simp[Act.put,ht.size]
 ·intro t hlt
  rw[fk ht.small hd hlt]
  have hr:=ht.rel t hlt
  cases d with
  | none=>simpa[Act.put] using hr
  | some d=>
   have hd':=cO hd
   by_cases he:d=t
   ·subst he
    have:d<a.tmps.size:=by rw[ht.size]; exact hd'
    simpa[Act.put,Array.getD,this] using hv
   ·have h1:¬(some d=some t):=by simpa using he
    rw[if_neg h1]
    simp only[Array.getD_eq_getD_getElem?] at hr ⊢
    simp only[Act.put]
    rw[Array.getElem?_setIfInBounds_ne he]
    exact hr
theorem cQ {nt:Nat} {o:Oper} (h:dP nt o=true):I3 nt o.dst=true:=by
 simp only[dP,Bool.and_eq_true] at h
 exact h.2
theorem pK {nt:Nat} {o:Oper} (h:dP nt o=true):∀y∈o.op.operands.toList,Ay nt y=true:=by
 simp only[dP,Bool.and_eq_true,List.all_eq_true] at h
 exact h.1
def zf (good:β→Prop) (P:Program) (φ:dm) (h:Heap) (w:World) (κ:Value→Heap→β) (f:FuncId) (args:Array Value):Prop:=
 (callFunc f args).run P w=.ok (.enter f args) w∧
 Calls P f args w fun e w'=>∃φ' v v' h',e=.returned v'∧good (κ v h')∧VR φ' v v'∧HR P φ' h' w'∧Ext φ φ' h h' w w'
def FR (r:Option Nat):Fence:={ Fence.wide with round:=r }
theorem ue {r:Option Nat} {n:Nat} {f:FuncId} {args:Array Value} {R:Ending→World→Prop}:CallsIn (FR r) n P f args w R↔Calls P f args w R:=callsIn_wide (n:=n)
def Rt (good:β→Prop) (P:Program) (φ:dm) (h:Heap) (w:World) (κ:Value→Heap→β) (e:Ending) (w':World):Prop:=
 ∃φ' v v' h',e=.returned v'∧good (κ v h')∧VR φ' v v'∧HR P φ' h' w'∧Ext φ φ' h h' w w'
def r8 (good:β→Prop) (P:Program) (φ:dm) (h:Heap) (w:World) (κ:Value→Heap→β) (r:Result Next):Prop:=
 M1 good P φ h w κ r∨(∃f args,r=.ok (.enter f args) w∧Calls P f args w (Rt good P φ h w κ))∨
 ∃l f tmps as bd,r=.ok (.round l f tmps as bd) w∧∀r0:Option Nat,RoundIn (FR r0) 0 P l f tmps as bd w (Rt good P φ h w κ)
theorem r8.upon {κ:Value→Heap→β} {r:Result Next} (ho:r8 good P φ h w κ r) {o:Oper} {a:Act} {next:Act→World→Prop} {Q:Exit→Act→World→Prop} {r0:Option Nat}
  (hn:∀φ' v v' h' w',good (κ v h')→VR φ' v v'→HR P φ' h' w'→Ext φ φ' h h' w w'→next (a.put o.dst v') w'):o.uponIn (FR r0) 0 P a next Q r:=by
 rcases ho with ⟨φ',v,v',h',w',nx,g1,g2,g3,g4,rfl,g6⟩ | ⟨f,args,rfl,hc⟩ | ⟨l,f,tmps,as,bd,rfl,hc⟩
 ·rcases g6 with rfl | ⟨rfl,rfl⟩
  ·exact hn φ' v v' h' w' g1 g2 g3 g4
  ·exact hn φ' v undef h' w' g1 g2 g3 g4
 ·refine ⟨fun hh=>(by cases hh),ue.2 (Calls.mono hc ?_)⟩
  rintro e w' ⟨φ',v,v',h',rfl,g1,g2,g3,g4⟩
  exact hn φ' v v' h' w' g1 g2 g3 g4
 ·refine ⟨fun hh=>(by cases hh),(hc r0).mono ?_⟩
  rintro e w' ⟨φ',v,v',h',rfl,g1,g2,g3,g4⟩
  exact hn φ' v v' h' w' g1 g2 g3 g4
theorem jA {r0:Option Nat} {o:Oper} {ρ:Operand→Value}:∀f,o.about P w ρ=some f→(FR r0).fn f:=fun _ _=>trivial
def AQ (tmps:Array Value):ResultVar→Sem Value
 | .tmp t=>pure (tmps.getD t undef)
 | .cell c t=>do loadVar t (←asAddr (tmps.getD c undef))
theorem gP {t:TypeId} {ad:Addr}:(Instr.loadAt t (.pointer (some ad))).run P w=(loadVar t ad).run P w:=by
 simp[Instr.loadAt,Instr.sureAddr]
theorem qE {tmps:Array Value} {fn:Func} {vs:List Value} (hm:(fn.results.toList.mapM (AQ tmps)).run P w=.ok vs w) :
  (results fn tmps).run P w=.ok (match vs with | [v]=>v | vs=>.tuple ⟨vs⟩) w:=by
 have he:results fn tmps=(do let vs ←fn.results.mapM (AQ tmps); pure (if h:vs.size=1 then vs[0] else .tuple vs)):=by
  unfold results
  congr 1
 rw[he,Array.mapM_eq_mapM_toList]
 match vs,hm with
 | [],hm=>simp[hm]
 | [v],hm=>simp[hm]
 | v::v2::vs,hm=>simp[hm]
theorem x7 (hfl:¬good fl) {a a':Value} {κ:Value→Heap→β} (hg:good (load1 fl a h κ)) (hv:VR φ a a'):∃ad,a'=.pointer (some ad):=by
 unfold load1 at hg
 split at hg<;>try exact absurd hg hfl
 cases hv; exact ⟨_,rfl⟩
theorem GQ (hfl:¬good fl) {s:Nat} {a a':Value} {κ:Value→Heap→β} (hg:good (aI fl s a h κ)) (hv:VR φ a a'):∃ad,a'=.pointer (some ad):=by
 unfold aI at hg
 split at hg<;>try exact absurd hg hfl
 cases hv; exact ⟨_,rfl⟩
theorem nk (hfl:¬good fl) (hr:HR P φ h w) {nt:Nat} {tm:T Value} {a:Act} (ht:TR φ nt tm a):∀(rs:List ResultVar) {κ:List Value→β},rs.all (IF nt)=true→
  good (dh fl h tm (rs.map (sS P)) κ)→∃vs vs',good (κ vs)∧F2 (VR φ) vs vs'∧(rs.mapM (AQ a.tmps)).run P w=.ok vs' w:=by
 intro rs
 induction rs with
 | nil=>intro κ _ hg; exact ⟨[],[],hg,.nil,by simp⟩
 | cons r rs ih=>
  intro κ hok hg
  simp only[List.all_cons,Bool.and_eq_true] at hok
  have fin:∀{v v':Value},(AQ a.tmps r).run P w=.ok v' w→VR φ v v'→good (dh fl h tm (rs.map (sS P)) fun vs=>κ (v::vs))→
    ∃vs vs',good (κ vs)∧F2 (VR φ) vs vs'∧((r::rs).mapM (AQ a.tmps)).run P w=.ok vs' w:=by
   intro v v' h1 h2 h3
   obtain ⟨vs,vs',g1,g2,g3⟩:=ih hok.2 h3
   exact ⟨_,v'::vs',g1,.cons h2 g2,by simp[List.mapM_cons,g3,h1]⟩
  cases r with
  | tmp t=>
   simp only[List.map_cons,sS,dh,eE] at hg
   exact fin (by simp[AQ]) (ht.rel t (cO hok.1)) hg
  | cell c t=>
   have hc:=ht.rel c (cO hok.1)
   simp only[List.map_cons,sS] at hg
   cases hx:k_ P t with
   | none=>simp only[hx,dh] at hg; exact absurd hg hfl
   | some b=>
    cases hs:dZ P t with
    | none=>cases b<;>simp only[hx,hs,dh] at hg<;>exact absurd hg hfl
    | some s=>
     cases b with
     | true=>
      simp only[hx,hs,dh,eE] at hg
      obtain ⟨ad,had⟩:=GQ hfl hg hc
      obtain ⟨v,v',g1,g2,g3⟩:=sX hfl hx hs hg hc hr
      rw[had,gP] at g3
      exact fin (by simp only[AQ,had]; simpa[asAddr] using g3) g2 g1
     | false=>
      simp only[hx,hs,dh,eE] at hg
      obtain ⟨ad,had⟩:=x7 hfl hg hc
      obtain ⟨v,v',g1,g2,g3⟩:=ko hfl hx hg hc hr
      rw[had,gP] at g3
      exact fin (by simp only[AQ,had]; simpa[asAddr] using g3) g2 g1
theorem xA {name:String} {f:FuncId} (hm:yS P t name=some f) (v:Value):(method (P.types.size+Made.depth) t v name).run P w=.ok (f,v) w:=by
 unfold yS at hm
 split at hm<;>try contradiction
 rename_i i d hi hd
 split at hm<;>try contradiction
 rename_i m hf
 obtain ⟨n,hn⟩:∃n,P.types.size+Made.depth=n+1:=⟨P.types.size+Made.depth-1,by
  have:0<Made.depth:=by decide
  omega⟩
 rw[hn]
 unfold method
 cases hp:m.path.isEmpty with
 | false=>simp[hp] at hm
 | true=>
  have M0:m.path.toList=[]:=by simpa using hp
  cases hfun:m.func with
  | none=>simp[hp,hfun] at hm
  | some p=>
   obtain ⟨f',b⟩:=p
   have hw:f'=f∧∀wr,(receiverAt t (.val v) b (some wr)).run P w=.ok v w:=by
    cases b with
    | true=>
     cases d<;>simp only[hp,hfun] at hm<;>try contradiction
     cases hm
     exact ⟨rfl,fun wr=>by simp[receiverAt,aL hd,Place.get]⟩
    | false=>
     cases d<;>simp only[hp,hfun] at hm<;>try contradiction
     all_goals (cases hm; exact ⟨rfl,fun wr=>by simp[receiverAt,aL hd,Place.get]⟩)
   obtain ⟨rfl,hw⟩:=hw
   have hpe:m.path=#[]:=by simpa using hp
   simp[typeInfo,hi,hf,hpe,follow,hfun,hw]
theorem xB {name:String} {f:FuncId} {off:Nat} {ty:TypeId} (hm:tZ P t name=some (f,off,ty)) {ad:Addr} {v:Value} (hl:(loadVar ty (ad.add off)).run P w=.ok v w) :
  k_ P ty=some false∧(method (P.types.size+Made.depth) t (.pointer (some ad)) name).run P w=.ok (f,v) w:=by
 unfold tZ at hm
 split at hm<;>try contradiction
 rename_i i hi
 split at hm<;>try contradiction
 rename_i m hf
 split at hm<;>try contradiction
 rename_i s f' hp hfun
 split at hm<;>try contradiction
 rename_i fs hd hs
 split at hm<;>try contradiction
 rename_i rS Z3
 split at hm<;>try contradiction
 rename_i e hag hsz UX
 cases hm
 refine ⟨hag,?_⟩
 obtain ⟨n,hn⟩:∃n,P.types.size+Made.depth=n+1:=⟨P.types.size+Made.depth-1,by
  have:0<Made.depth:=by decide
  omega⟩
 rw[hn]
 unfold method
 simp[typeInfo,hi,hf,hp,hfun,follow,aL hs,Z3,hd,Place.get,asAddr,fieldPlace,bZ hsz,receiverAt,aL UX,hl]
theorem xC {name:String} {f:FuncId} {ty:TypeId} (hm:t_ P t name=some (f,ty)) {ad:Addr} {v:Value} (hl:(loadVar ty ad).run P w=.ok v w) :
  (method (P.types.size+Made.depth) t (.pointer (some ad)) name).run P w=.ok (f,v) w:=by
 unfold t_ at hm
 split at hm<;>try contradiction
 rename_i i e hi hu
 split at hm<;>try contradiction
 rename_i m hf
 split at hm<;>try contradiction
 rename_i f' hp hfun hag
 cases hm
 obtain ⟨n,hn⟩:∃n,P.types.size+Made.depth=n+1:=⟨P.types.size+Made.depth-1,by
  have:0<Made.depth:=by decide
  omega⟩
 rw[hn]
 unfold method
 have hpe:m.path=#[]:=by simpa using hp
 have hw:∀a b:String,(Builtin.ssaWrapNilChk_ #[t] t #[.pointer (some ad),strVal a,strVal b]).run P w=.ok (.pointer (some ad)) w:=fun _ _=>rfl
 simp[typeInfo,hi,hf,hpe,hfun,follow,Place.get,asAddr,receiverAt,aL hu,hw,hl]
end Go.Vai

namespace Go.Vai
open Go
variable {β:Type} {fl:β} {good:β→Prop} {pr:jg β} {P:Program} {φ:dm} {h:Heap} {w:World} {t:TypeId}
def I4:Ex→Exit
 | .normal=>.normal
 | .exit i=>.exit i
 | .ret=>.ret
def Marks (N:Nat) (φ:dm) (w:World):Nat→List Deferred→Prop
 | _,[]=>True
 | U,d::l=>∃D,d={ target:=.collected D,args:=#[] }∧N≤D∧D<U∧w.heap[D]? = some (.deferred (some []))∧(∀b pl,φ b=some pl→pl.B≠D)∧Marks N φ w D l
theorem Marks.le {N:Nat}:∀{l:List Deferred} {U U':Nat},Marks N φ w U l→U≤U'→Marks N φ w U' l
 | [],_,_,_,_=>trivial
 | _::_,_,_,⟨D,h1,h2,h3,h4,h5,h6⟩,hU=>⟨D,h1,h2,Nat.lt_of_lt_of_le h3 hU,h4,h5,h6⟩
theorem Ext.PR {φ':dm} {h':Heap} {w':World} (hx:Ext φ φ' h h' w w') {D:Nat} (hD:D<w.heap.size) (hn:∀b pl,φ b=some pl→pl.B≠D):∀b pl,φ' b=some pl→pl.B≠D:=by
 intro b pl hb
 cases h0:φ b with
 | some p=>
  have:=hx.sub b p h0
  rw[hb] at this; cases this
  exact hn b pl h0
 | none=>
  rcases (hx.new b pl h0 hb).2 with h1 | ⟨b0,p0,h1,h2⟩
  ·omega
  ·rw[←h2]; exact hn b0 p0 h1
theorem Marks.mono {N:Nat} {φ':dm} {h':Heap} {w':World} (hx:Ext φ φ' h h' w w'):∀{l:List Deferred} {U:Nat},U≤w.heap.size→Marks N φ w U l→Marks N φ' w' U l
 | [],_,_,_=>trivial
 | _::_,_,hU,⟨D,h1,h2,h3,h4,h5,h6⟩=>
  ⟨D,h1,h2,h3,by rw[hx.yW D (by omega) h5]; exact h4,hx.PR (by omega) h5,Marks.mono hx (by omega) h6⟩
theorem Marks.append {N N2 U1:Nat} {l1:List Deferred} (h1:Marks N φ w U1 l1) (hN:N≤N2) (hU:U1≤N2):∀{l2:List Deferred} {U:Nat},U1≤U→Marks N2 φ w U l2→Marks N φ w U (l2++l1)
 | [],_,hle,_=>h1.le hle
 | _::_,_,_,⟨D,e1,e2,e3,e4,e5,e6⟩=>⟨D,e1,Nat.le_trans hN e2,e3,e4,e5,Marks.append h1 hN hU (Nat.le_trans hU e2) e6⟩
def Post (good:β→Prop) (P:Program) (nt:Nat) (φ:dm) (h:Heap) (w:World) (ds:List Deferred) (κ:Ex→T Value→Heap→β) (e:Exit) (a':Act) (w':World):Prop:=
 ∃x bU h' φ',e=I4 x∧good (κ x bU h')∧TR φ' nt bU a'∧HR P φ' h' w'∧Ext φ φ' h h' w w'∧∃ms,a'.defers=ms++ds∧Marks w.heap.size φ' w' w'.heap.size ms
def jN (good:β→Prop) (P:Program) (rec:Rec β):Prop:=
 ∀(c:Code) (r:Option Nat) (tm:T Value) (h:Heap) (κ:Ex→T Value→Heap→β) (φ:dm) (w:World) (nt:Nat) (a:Act),(r=none∨mW c=true)→codeOk nt c=true→TR φ nt tm a→HR P φ h w→good (rec c tm h κ)→
  c.wpIn (FR r) 0 P (Post good P nt φ h w a.defers κ) a w
structure fm (good:β→Prop) (pr:jg β) (P:Program):Prop where
 both:∀x y,good (pr.both x y)→good x∧good y
 fn:∀f g,pr.fn f=some g→∀(args args':List Value) (h:Heap) (φ:dm) (w:World) (κ:Value→Heap→β),F2 (VR φ) args args'→HR P φ h w→good (g args h κ)→zf good P φ h w κ f args'.toArray
theorem HR.aside (hr:HR P φ h w) {D:Nat} (hn:∀b pl,φ b=some pl→pl.B≠D) (o:Obj):HR P φ h (w.putObj D o):=by
 refine ⟨fun b ob pl h1 h2=>?_,fun b pl h1=>?_,hr.keys,hr.MX,hr.inj,hr.lo⟩
 ·rw[World.putObj_heap_other (hn b pl h2)]; exact hr.obj b ob pl h1 h2
 ·rw[World.putObj_size]; exact hr.dom b pl h1
theorem Ext.aside {φ':dm} {h':Heap} {w0:World} (hx:Ext φ φ' h h' w0 w) {D:Nat} (hD:w0.heap.size≤D) (ds:Option (List Deferred)):Ext φ φ' h h' w0 (w.putObj D (.deferred ds)) where
 sub:=hx.sub
 new:=hx.new
 nx:=hx.nx
 size:=by rw[World.putObj_size]; exact hx.size
 yW:=fun B hB hn=>by rw[World.putObj_heap_other (by omega)]; exact hx.yW B hB hn
 Dx:=hx.Dx
 tape:=hx.tape
 os:=hx.os
 output:=hx.output
 fz:=fun B hB=>by
  by_cases he:B=D
  ·subst he
   by_cases hl:B<w.heap.size
   ·rw[World.putObj_heap_same hl]; trivial
   ·have:(w.putObj B (.deferred ds)).heap[B]? = none:=by simp[World.putObj_size]; omega
    rw[this]; trivial
  ·rw[World.putObj_heap_other he]; exact hx.fz B hB
 lo:=hx.lo
 E1:=hx.E1
 E2:=fun x o pl h1 h2 h3 h4 h5=>by rw[World.putObj_heap_other (by omega)]; exact hx.E2 x o pl h1 h2 h3 h4 h5
 dr:=hx.dr
theorem nq {fn:Func} {a:Act} {φ':dm} {h':Heap} {w0:World} {R:Ending→World→Prop}
  (hend:∀w':World,HR P φ' h' w'→Ext φ φ' h h' w0 w'→∃v,(results fn a.tmps).run P w'=.ok v w'∧R (.returned v) w') :
  ∀(ms:List Deferred) (U:Nat) (w':World),Marks w0.heap.size φ' w' U ms→HR P φ' h' w'→Ext φ φ' h h' w0 w'→LeavesInM (FR none) 0 P fn a.tmps R ms .returning w'
 | [],_,w',_,hr,hx=>hend w' hr hx
 | _::ms,_,w',⟨D,e1,e2,e3,e4,e5,e6⟩,hr,hx=>by
  subst e1
  have hr':=hr.aside e5 (.deferred none)
  have hx':=hx.aside e2 none
  refine ⟨by simp,.inl ⟨D,w'.putObj D (.deferred none),rfl,run_takeDeferred e4,nq hend ms D _ ?_ hr' hx'⟩⟩
  have keep:∀(l:List Deferred) (U:Nat),U≤D→Marks w0.heap.size φ' w' U l→Marks w0.heap.size φ' (w'.putObj D (.deferred none)) U l:=by
   intro l
   induction l with
   | nil=>intro _ _ _; trivial
   | cons d l ih=>
    rintro U hU ⟨D',f1,f2,f3,f4,f5,f6⟩
    exact ⟨D',f1,f2,f3,by rw[World.putObj_heap_other (by omega)]; exact f4,f5,ih D' (by omega) f6⟩
  exact keep ms D (Nat.le_refl _) e6
theorem qF {f:FuncId} {c:Code} {rs:List xo} {nt:Nat} (hc:uJ P f=.mk c rs nt) :
  ∃fn,P.funcs[f]? = some fn∧fn.body=some c∧fn.ntmps=nt∧rs=fn.results.toList.map (sS P)∧codeOk nt c=true∧fn.results.toList.all (IF nt)=true∧nt≤1000000000000∧
   ∀(args:Array Value) (w:World),(callFunc f args).run P w=.ok (.enter f args) w:=by
 unfold uJ at hc
 split at hc<;>try contradiction
 rename_i fn hf
 split at hc<;>try contradiction
 rename_i hn
 split at hc<;>try contradiction
 rename_i c' hb
 split at hc<;>try contradiction
 rename_i hok
 simp only[Bool.and_eq_true] at hok
 cases hc
 refine ⟨fn,hf,hb,rfl,rfl,hok.1.1,hok.1.2,cu hok.2,fun args w=>?_⟩
 have hn' : ¬ fn.name = "runtime.NumGoroutine" := by simpa using hn
 simp[callFunc,hf,hn',hb]
theorem DR (vs:List Value):∀(tm:T Value) (i:Nat) (κ:T Value→β),yT vs tm i κ=κ (lay vs tm i):=by
 induction vs with
 | nil=>intro tm i κ; rfl
 | cons v vs ih=>
  intro tm i κ
  show T.set tm i v (fun tm=>yT vs tm (Nat.succ i) κ)=_
  rw[T.b6,ih]
  rfl
theorem TR.start {args args':List Value} {nt:Nat} (ha:F2 (VR φ) args args') (hn:nt≤1000000000000) (hle:args.length≤nt) :
  TR φ nt (lay args .nil 0) { tmps:=args'.toArray++Array.replicate (nt-args'.toArray.size) undef,defers:=[] }:=by
 have hlen:=ha.length
 refine ⟨by simp[←hlen]; omega,hn,fun t ht=>?_⟩
 simp only[bX]
 rw[qB args .nil 0 (by omega) t (by unfold Small; omega)]
 simp only[Array.getD_eq_getD_getElem?]
 by_cases hlt:t<args.length
 ·rw[if_pos (by omega)]
  obtain ⟨v,hv⟩:∃v,args[t]? = some v:=⟨args[t],by simp[hlt]⟩
  obtain ⟨v',e1,e2⟩:=ha.get t v hv
  rw[Array.getElem?_append_left (by simp; omega)]
  simpa[hv,e1] using e2
 ·rw[if_neg (by omega),T.get_nil,Array.getElem?_append_right (by simp; omega),Array.getElem?_replicate]
  have hu:((if t-args'.toArray.size<nt-args'.toArray.size then some undef else none:Option Value).getD undef)=undef:=by split<;>rfl
  rw[hu]
  exact VR.undef
theorem F2.toList {a a':Array Value} (h:a.toList.length=a'.toList.length) (hv:∀(i:Nat) (v v':Value),a.toList[i]? = some v→a'.toList[i]? = some v'→VR φ v v'):F2 (VR φ) a.toList a'.toList:=
 F2.lZ h hv
theorem eG (hfl:¬good fl) (hp:fm good pr P) {rec:Rec β} (dR:jN good P rec) {f:FuncId} {args args':List Value} (ha:F2 (VR φ) args args') (hr:HR P φ h w)
  {κ:Value→Heap→β} (hg:good (ia fl pr P rec f args h κ)):zf good P φ h w κ f args'.toArray:=by
 unfold ia at hg
 split at hg
 ·rename_i g hg'
  exact hp.fn f g hg' args args' h φ w κ ha hr hg
 ·split at hg
  ·exact absurd hg hfl
  ·rename_i c rs nt hc
   obtain ⟨fn,hf,hb,rfl,rfl,Am,Z4,hnt,uX⟩:=qF hc
   split at hg<;>try exact absurd hg hfl
   rename_i hle
   rw[DR] at hg
   refine ⟨uX _ _,?_⟩
   have hst:=TR.start (nt:=fn.ntmps) ha hnt (cu hle)
   refine ue (r:=none) (n:=0) |>.1 (callsIn_of_wp_marks hf hb trivial (wpIn_mono (dR c none _ h _ φ w fn.ntmps _ (.inl rfl) Am hst hr hg) ?_))
   rintro e a' w' ⟨x,bU,h',φ',rfl,g1,g2,g3,g4,ms,g5,g6⟩
   have MG:a'.defers=ms:=by rw[g5]; simp
   have fin:good (dh fl h' bU (fn.results.toList.map (sS P)) fun vs=>IG κ h' vs)→
     LeavesInM (FR none) 0 P fn a'.tmps (fun e w'=>∃φ' v v' h',e=.returned v'∧good (κ v h')∧VR φ' v v'∧HR P φ' h' w'∧Ext φ φ' h h' w w') a'.defers .returning w':=by
    intro k
    rw[MG]
    refine nq (a:=a') (φ':=φ') (h':=h') ?_ ms _ w' g6 g3 g4
    intro w2 Ix hx2
    obtain ⟨vs,vs',k1,k2,k3⟩:=nk hfl Ix g2 _ Z4 k
    refine ⟨_,qE k3,?_⟩
    cases k2 with
    | nil=>exact ⟨φ',_,_,h',rfl,k1,VR.tuple' .nil,Ix,hx2⟩
    | cons hv hvs=>
     cases hvs with
     | nil=>exact ⟨φ',_,_,h',rfl,k1,hv,Ix,hx2⟩
     | cons Rf hvs=>exact ⟨φ',_,_,h',rfl,k1,VR.tuple' (.cons hv (.cons Rf hvs)),Ix,hx2⟩
   cases x with
   | normal=>exact fin g1
   | exit i=>exact absurd g1 hfl
   | ret=>exact fin g1
theorem r8.call {κ:Value→Heap→β} {f:FuncId} {args:Array Value} (hc:zf good P φ h w κ f args) {s:Sem Next} (hs:s.run P w=(callFunc f args).run P w):r8 good P φ h w κ (s.run P w):=
 .inr (.inl ⟨f,args,by rw[hs,hc.1],hc.2⟩)
theorem HR.uY (hr:HR P φ h w) {b:Nat} {st:LoopState} {dY:Option Ex} {tm:T Value} {ps:List Nat} {x y:Code} {pl:Pl} (hb:h.bl.get b=some (.loop st dY tm ps x y)) (hp:φ b=some pl) :
  ∃r,w.heap[pl.B]? = some (.loop r)∧r.state=st∧xZ dY r.pending∧r.params.toList=ps∧r.assign=x∧r.body=y∧
   ∃nt,Az nt ps x y∧r.tmps.size=nt∧∀t,t<nt→VR φ (bX tm t) (r.tmps.getD t undef):=by
 have:=hr.obj b _ pl hb hp
 cases hO:w.heap[pl.B]? with
 | none=>rw[hO] at this; exact this.elim
 | some O=>
  rw[hO] at this
  cases O<;>simp only[OR] at this<;>try exact this.elim
  exact ⟨_,rfl,this⟩
theorem HR.qG (hr:HR P φ h w) {b:Nat} (hlo:h.lo≤b) {st st':LoopState} {dY mG:Option Ex} {tm:T Value} {ps:List Nat} {x y:Code} {pl:Pl} (hb:h.bl.get b=some (.loop st dY tm ps x y)) (hp:φ b=some pl)
  {r:Loop} (hO:w.heap[pl.B]? = some (.loop r)) {pd:Option Code} (Ru:xZ mG pd) :
  HR P φ ⟨h.nx,h.bl.aS b (.loop st' mG tm ps x y),h.lo⟩ (w.putObj pl.B (.loop { r with state:=st',pending:=pd }))∧
  Ext φ φ h ⟨h.nx,h.bl.aS b (.loop st' mG tm ps x y),h.lo⟩ w (w.putObj pl.B (.loop { r with state:=st',pending:=pd })):=by
 obtain ⟨r',PG,k1,k2,k3,k4,k5,k6⟩:=hr.uY hb hp
 rw[hO] at PG; cases PG
 refine hr.AI hlo hp ⟨_,hb,trivial⟩ (by simp) (fun k hk=>World.putObj_heap_other hk) ?_ rfl rfl rfl (.inl trivial)
 rw[World.putObj_heap_same (hr.dom b pl hp).2]
 exact ⟨rfl,Ru,k3,k4,k5,k6⟩
theorem I5:∀(ps:List Nat) (vs:List Value) (tm:T Value) (κ:T Value→β),∃bU,oR ps vs tm κ=κ bU∧
  ∀{φ:dm} {nt:Nat} {vs':List Value} {tmps:Array Value},F2 (VR φ) vs vs'→ps.length=vs.length→ps.all (fun t=>Nat.ble (Nat.succ t) nt)=true→nt≤1000000000000→tmps.size=nt→(∀t,t<nt→VR φ (bX tm t) (tmps.getD t undef))→
   ((ps.zip vs').foldl (fun t (x:Nat × Value)=>t.setIfInBounds x.1 x.2) tmps).size=nt∧∀t,t<nt→VR φ (bX bU t) (((ps.zip vs').foldl (fun t (x:Nat × Value)=>t.setIfInBounds x.1 x.2) tmps).getD t undef):=by
 intro ps
 induction ps with
 | nil=>intro vs tm κ; exact ⟨tm,by cases vs<;>rfl,fun _ _ _ _ h2 h3=>⟨by simpa using h2,by simpa using h3⟩⟩
 | cons p ps ih=>
  intro vs tm κ
  cases vs with
  | nil=>exact ⟨tm,rfl,fun _ h1 _ _ _ _=>by simp at h1⟩
  | cons v vs=>
   obtain ⟨bU,e1,e2⟩:=ih vs (tm.aS p v) κ
   refine ⟨bU,by show T.set tm p v (fun tm=>oR ps vs tm κ)=_; rw[T.b6]; exact e1,?_⟩
   intro φ nt vs' tmps hv hl hps hnt hsz Z5
   cases hv with
   | cons hv hvs=>
    simp only[List.all_cons,Bool.and_eq_true] at hps
    have hp:p<nt:=cO hps.1
    simp only[List.zip_cons_cons,List.foldl_cons]
    refine e2 hvs (by simpa using hl) hps.2 hnt (by simpa using hsz) ?_
    intro t ht
    simp only[bX]
    rw[T.kj tm v (og hnt hp) (og hnt ht)]
    have:=Z5 t ht
    simp only[Array.getD_eq_getD_getElem?] at this ⊢
    by_cases he:p=t
    ·subst he
     rw[if_pos rfl,Array.getElem?_setIfInBounds_self_of_lt (by omega)]
     exact hv
    ·rw[if_neg he,Array.getElem?_setIfInBounds_ne he]
     exact this
theorem xZ.jump {e:Ex}:∀{c:Option Code},xZ (some e) c→(e=.ret∧c=some .ret)∨∃i,e=.exit i∧c=some (.exit i):=by
 intro c hp
 cases e<;>cases c<;>try exact hp.elim
 all_goals (rename_i c; cases c<;>try exact hp.elim)
 ·exact .inr ⟨_,rfl,by have:_=_:=hp; rw[this]⟩
 ·exact .inl ⟨rfl,rfl⟩
theorem zg (hfl:¬good fl) {rec:Rec β} (dR:jN good P rec) {l:Nat} {pl:Pl} (hp:φ l=some pl) {args args':List Value} (ha:F2 (VR φ) args args') (hr:HR P φ h w)
  {κ:Value→Heap→β} (hg:good (lW fl rec l args h κ)):r8 good P φ h w κ ((Instr.yield pl.B args'.toArray).run P w):=by
 unfold lW at hg
 split at hg<;>try exact absurd hg hfl
 rename_i st dY jo ps x y hb
 split at hg<;>try exact absurd hg hfl
 rename_i hlen; have hlen:=cF hlen
 obtain ⟨r,hO,k1,k2,k3,k4,k5,nt,k6,k7,k8⟩:=hr.uY hb hp
 obtain ⟨M6,e1,e2⟩:=I5 ps args jo (fun tm=>rec x tm h (dJ fl rec l y κ))
 rw[e1] at hg
 have hal:=ha.length
 have hps:r.params.size=ps.length:=by rw[←k3]; simp
 have hy:=run_yield (P:=P) (args:=args'.toArray) hO (by simp; omega)
 refine .inr (.inr ⟨pl.B,r.fn,_,r.assign,r.body,hy,fun r0=>?_⟩)
 have VO:(r.params.zip args'.toArray).foldl (fun tmps (x:Nat × Value)=>tmps.setIfInBounds x.1 x.2) r.tmps=(ps.zip args').foldl (fun t (x:Nat × Value)=>t.setIfInBounds x.1 x.2) r.tmps:=by
  rw[←Array.foldl_toList,Array.toList_zip,k3]
 obtain ⟨f1,f2⟩:=e2 ha (by omega) k6.ps k6.small k7 k8
 rw[k4,k5]
 have hst:TR φ nt M6 { tmps:=(r.params.zip args'.toArray).foldl (fun tmps (x:Nat × Value)=>tmps.setIfInBounds x.1 x.2) r.tmps,defers:=[] }:=by
  rw[VO]; exact ⟨f1,k6.small,f2⟩
 have Rv:RoundIn (FR r0) 0 P pl.B r.fn ((r.params.zip args'.toArray).foldl (fun tmps (x:Nat × Value)=>tmps.setIfInBounds x.1 x.2) r.tmps) x y w (Rt good P φ h w κ):=by
  refine roundIn_of_wpIn (F:=FR r0) trivial ?_
  refine wpIn_mono (dR x (some pl.B) M6 h _ φ w nt _ (.inr k6.ra) k6.ca hst hr hg) ?_
  rintro e a1 w1 ⟨x1,PS,h1,φ1,rfl,g1,g2,g3,g4,ms,g5,g6⟩
  unfold dJ at g1
  split at g1<;>try exact absurd g1 hfl
  split at g1<;>try exact absurd g1 hfl
  rename_i VP afz ps1 x2 y2 hb1
  obtain ⟨hlo,g1⟩:=bq hfl g1
  have hp1:=g4.sub l pl hp
  obtain ⟨r1,Y_,q1,q2,q3,q4,q5,q6⟩:=g3.uY hb1 hp1
  obtain ⟨m1,m2⟩:=g3.qG (st':=.busy) (mG:=VP) hlo hb1 hp1 Y_ (pd:=r1.pending) q2
  refine ⟨_,run_beginRound Y_ q1,?_⟩
  refine wpIn_mono (dR y (some pl.B) PS _ _ φ1 _ nt a1 (.inr k6.rb) k6.cb g2 m1 g1) ?_
  rintro e a2 w2 ⟨x3,tm3,h3,φ3,rfl,j1,j2,j3,j4,ms2,j5,j6⟩
  unfold gx at j1
  split at j1<;>try exact absurd j1 hfl
  rename_i st3 adU afA ps3 x4 y4 hb3
  have I6:=j4.sub l pl hp1
  obtain ⟨r3,UY,_⟩:=j3.uY hb3 I6
  have hall:=g4.trans (m2.trans j4)
  cases x3 with
  | normal=>
   obtain ⟨I7,j1⟩:=bq hfl j1
   obtain ⟨n1,n2⟩:=j3.qG (st':=.ready) (mG:=none) I7 hb3 I6 UY (pd:=none) trivial
   exact ⟨_,_,run_endRound none UY,φ3,_,_,_,rfl,j1,.bool true,n1,hall.trans n2⟩
  | exit i=>
   obtain ⟨I7,j1⟩:=bq hfl j1
   obtain ⟨n1,n2⟩:=j3.qG (st':=.done) (mG:=some (.exit i)) I7 hb3 I6 UY (pd:=some (.exit i)) rfl
   exact ⟨_,_,run_endRound (some (.exit i)) UY,φ3,_,_,_,rfl,j1,.bool false,n1,hall.trans n2⟩
  | ret=>
   obtain ⟨I7,j1⟩:=bq hfl j1
   obtain ⟨n1,n2⟩:=j3.qG (st':=.done) (mG:=some .ret) I7 hb3 I6 UY (pd:=some .ret) trivial
   exact ⟨_,_,run_endRound (some .ret) UY,φ3,_,_,_,rfl,j1,.bool false,n1,hall.trans n2⟩
 exact Rv
theorem uZ (hfl:¬good fl) (hp:fm good pr P) {rec:Rec β} (dR:jN good P rec) {c:Call} {tm:T Value} {a:Act} (hop:∀y∈c.operands.toList,VR φ (dV tm y) (a.eval y))
  (hr:HR P φ h w) {κ:Value→Heap→β} (hg:good (lp fl pr P c rec tm h κ)) {o:Oper} (ho:o.op=.call c):r8 good P φ h w κ ((execOp a.eval o).run P w):=by
 obtain ⟨callee,args,ts⟩:=c
 have hargs:F2 (VR φ) (args.toList.map (dV tm)) (args.toList.map a.eval):=F2.map _ fun y hy=>hop y (by simp[Call.operands] at hy ⊢; exact .inr hy)
 cases callee with
 | builtin b=>exact absurd hg hfl
 | value x=>
  have gen:good (Iw tm args.toList fun args=>ev tm x fun fv=>sU fl pr P rec fv args h κ)→r8 good P φ h w κ ((execOp a.eval o).run P w):=by
   intro hg
   rw[pq,eE] at hg
   have r5:VR φ (dV tm x) (a.eval x):=hop x (by simp[Call.operands])
   unfold sU at hg
   split at hg<;>try exact absurd hg hfl
   rotate_left
   ·rename_i l first cap hv
    split at hg<;>try exact absurd hg hfl
    rw[hv] at r5
    generalize hz:a.eval x=z at r5
    cases r5 with
    | yield hp=>
     have:=zg hfl dR hp hargs hr hg
     have he:(args.toList.map a.eval).toArray=args.map a.eval:=by apply Array.ext'; simp
     rw[he] at this
     simpa[execOp,ho,resolve,hz,Deferred.ofValue,invoke] using this
   rename_i f first cap hv
   rw[hv] at r5
   generalize hz:a.eval x=z at r5
   cases r5 with
   | func fn a1 M7 b1 UZ ha hb Dw hvb=>
    have hall:=((F2.toList ha Dw).append hargs).append (F2.toList hb hvb)
    refine r8.call (eG hfl hp dR hall hr hg) ?_
    have he:(M7.toList++args.toList.map a.eval++UZ.toList).toArray=M7++args.map a.eval++UZ:=by apply Array.ext'; simp
    rw[he]
    simp[execOp,ho,resolve,hz,Deferred.ofValue,invoke]
  cases x with
  | func f=>
   simp only[lp,pq] at hg
   refine r8.call (eG hfl hp dR hargs hr hg) ?_
   have he:(args.toList.map a.eval).toArray=args.map a.eval:=by apply Array.ext'; simp
   rw[he]
   simp[execOp,ho,resolve,Act.eval,Deferred.ofValue,invoke]
  | tmp t=>exact gen hg
  | const v=>exact gen hg
  | global g=>exact gen hg
 | invoke r name=>
  simp only[lp,pq,eE] at hg
  have VS:VR φ (dV tm r) (a.eval r):=hop r (by simp[Call.operands])
  unfold II at hg
  split at hg<;>try exact absurd hg hfl
  rename_i t v hv
  have e0:∀(v':Value),a.eval r=.iface t v'→(execOp a.eval o).run P w=(callMethod (.iface t v') name (args.map a.eval)).run P w:=by
   intro v' hz
   have hx:(#[Value.iface t v']++args.map a.eval).extract 1 (#[Value.iface t v']++args.map a.eval).size=args.map a.eval:=by
    apply Array.ext'; simp; exact List.take_of_length_le (by simp)
   rw[←hx]
   have h0:(#[Value.iface t v']++args.map a.eval)[0]? = some (.iface t v'):=by
    rw[Array.getElem?_append_left (by simp)]; rfl
   simp[execOp,ho,resolve,hz,invoke,h0]
  have he:∀v':Value,(v'::args.toList.map a.eval).toArray=#[v']++args.map a.eval:=fun v'=>by apply Array.ext'; simp
  rw[hv] at VS
  generalize hz:a.eval r=z at VS
  cases VS with
  | iface _ Zd=>
   rename_i v'
   split at hg
   ·rename_i f hm
    refine r8.call (eG hfl hp dR (F2.cons Zd hargs) hr hg) ?_
    have:=xA (P:=P) (w:=w) hm v'
    rw[e0 v' hz,he]
    simp only[callMethod]
    simp
    rw[this]
    simp
   ·split at hg
    rotate_left
    ·split at hg<;>try exact absurd hg hfl
     rename_i f ty hm
     have hag:k_ P ty=some false:=by
      unfold t_ at hm
      split at hm<;>try contradiction
      split at hm<;>try contradiction
      split at hm<;>try contradiction
      rename_i hag
      cases hm
      exact hag
     obtain ⟨ad,rfl⟩:=x7 hfl hg Zd
     obtain ⟨v2,v2',g1,g2,g3⟩:=ko hfl hag hg Zd hr
     rw[gP] at g3
     have Z6:=xC (P:=P) (w:=w) (ad:=ad) hm g3
     refine r8.call (eG hfl hp dR (F2.cons g2 hargs) hr g1) ?_
     rw[e0 _ hz,he]
     simp only[callMethod]
     simp
     rw[Z6]
     simp
    rename_i f off ty hm
    unfold fieldAddrB at hg
    split at hg<;>try exact absurd hg hfl
    rename_i b ob
    rw[bL] at hg
    cases Zd with
    | ptr hpp=>
     rename_i pl
     have hag:k_ P ty=some false:=by
      unfold tZ at hm
      split at hm<;>try contradiction
      split at hm<;>try contradiction
      split at hm<;>try contradiction
      split at hm<;>try contradiction
      split at hm<;>try contradiction
      split at hm<;>try contradiction
      rename_i hag _ _
      cases hm
      exact hag
     obtain ⟨v2,v2',g1,g2,g3⟩:=ko hfl hag hg (VR.ptr hpp) hr
     rw[gP,show (⟨pl.B,ob.add off,none⟩:Addr)=(⟨pl.B,ob,none⟩:Addr).add off from (by simp[Addr.add])] at g3
     have Z6:=(xB (P:=P) (w:=w) (ad:=⟨pl.B,ob,none⟩) hm g3).2
     refine r8.call (eG hfl hp dR (F2.cons g2 hargs) hr g1) ?_
     rw[e0 _ hz,he]
     simp only[callMethod]
     simp
     rw[Z6]
     simp
end Go.Vai

namespace Go.Vai
open Go
variable {β:Type} {fl:β} {good:β→Prop} {pr:jg β} {P:Program} {φ:dm} {h:Heap} {w:World} {t:TypeId}
theorem AR (hfl:¬good fl) (hp:fm good pr P) {rec:Rec β} (dR:jN good P rec) {op:Op} {tm:T Value} {a:Act} (hρ:∀y∈op.operands.toList,VR φ (dV tm y) (a.eval y))
  (hr:HR P φ h w) {κ:Value→Heap→β} (hg:good (mX fl pr P op rec tm h κ)) {o:Oper} (ho:o.op=op):r8 good P φ h w κ ((execOp a.eval o).run P w):=by
 unfold mX at hg
 cases hR:mE fl P op with
 | some i=>
  rw[hR] at hg
  obtain ⟨v,v',g1,g2,g3⟩:=s9 hfl hR hρ hr hg ho
  exact .inl ⟨φ,v,v',h,w,.value v',g1,g2,hr,Ext.refl _ _ _,g3,.inl rfl⟩
 | none=>
  cases hA:oQ fl P op with
  | some i=>
   simp only[hR,hA] at hg
   obtain ⟨ob,mk,O,g1,g2,g3,g4,g5⟩:=ta (P:=P) (w:=w) (good:=good) hfl hA hρ hg ho
   obtain ⟨k1,k2⟩:=dn hfl g1
   obtain ⟨m1,m2⟩:=hr.fresh k1 0 0 (g3 _) g2
   exact .inl ⟨_,_,_,_,_,.value _,k2,g4 _ _ _ (fG _ _ _),m1,m2,g5,.inl rfl⟩
  | none=>
   cases hW:xU fl P op with
   | some i=>
    simp only[hR,hA,hW] at hg
    exact .inl (AP hfl hW hρ hr hg ho)
   | none=>
    simp only[hR,hA,hW] at hg
    cases op with
    | call c=>exact uZ hfl hp dR hρ hr hg ho
    | next it s=>
     cases s with
     | true=>exact absurd hg hfl
     | false=>
      simp only[eE] at hg
      obtain ⟨v,v',h',w',g1,g2,g3,g4,g5⟩:=AK (ty:=o.type) hfl hp.both hr hg (hρ it (by simp[Op.operands]))
      exact .inl ⟨φ,v,v',h',w',.value v',g1,g2,g3,g4,by simp only[execOp,ho]; exact iw g5,.inl rfl⟩
    | _=>exact absurd hg hfl
theorem AS (hfl:¬good fl) {rec:Rec β} {op:Op} {tm:T Value} {κ:Value→Heap→β} (hg:good (mX fl pr P op rec tm h κ)):∀c,op≠.defer c:=by
 rintro c rfl
 exact hfl hg
theorem AT (hfl:¬good fl) (hp:fm good pr P) {rec:Rec β} (dR:jN good P rec) {o:Oper} {tm:T Value} {a:Act} (hρ:∀y∈o.op.operands.toList,VR φ (dV tm y) (a.eval y))
  (hr:HR P φ h w) {κ:Value→Heap→β} (hg:good (mX fl pr P o.op rec tm h κ)) {next:Act→World→Prop} {Q:Exit→Act→World→Prop} {r0:Option Nat}
  (hn:∀φ' v v' h' w',good (κ v h')→VR φ' v v'→HR P φ' h' w'→Ext φ φ' h h' w w'→next (a.put o.dst v') w'):o.wpIn (FR r0) 0 P a w next Q:=by
 refine ⟨jA,?_⟩
 rw[Oper.semAt_eq _ _ _ (AS hfl hg)]
 exact (AR hfl hp dR hρ hr hg rfl).upon hn
theorem x8 {ops:Array Oper} {o:Oper} {g:Option (Nat × Bool)} (hg:guardOf ops.toList o=some g) {tm:T Value} {a:Act}
  (ht:∀s w,g=some (s,w)→s∈b_ ops.toList o→s<a.tmps.size∧VR φ (bX tm s) (a.tmps.getD s undef)) :
  Region.wanted o (yielded ops a.tmps)=eD tm g:=by
 unfold guardOf at hg
 unfold Region.wanted
 split at hg
 ·rename_i U0
  cases hg
  rw[U0]
  rfl
 ·rename_i j w U0
  rw[U0]
  split at hg<;>try contradiction
  rename_i d _ _ _ _ _ hq
  cases hg
  have hlk:d∈b_ ops.toList o:=by
   simp[b_,U0,Array.getElem?_toList] at hq ⊢
   rw[hq]; simp
  obtain ⟨hlt,hr⟩:=ht d w rfl hlk
  rw[Array.getElem?_toList] at hq
  have E6:=hq
  obtain ⟨v',w9⟩:∃v',a.tmps[d]? = some v':=⟨_,getElem?_pos a.tmps d hlt⟩
  rw[Array.getD_eq_getD_getElem?,w9,Option.getD_some] at hr
  simp only[yielded,E6,Option.bind_some,w9,eD]
  generalize bX tm d=v at hr
  cases hr<;>cases w<;>first | rfl | (rename_i b; cases b<;>rfl)
theorem jO {ops:Array Oper} {nt:Nat} (hok:∀q∈ops.toList,dP nt q=true) {o:Oper} (ho:o∈ops.toList) {s:Nat} (hs:s∈b_ ops.toList o):s<nt:=by
 simp only[b_,List.mem_append,List.mem_filterMap] at hs
 rcases hs with ⟨y,hy,hys⟩ | hs
 ·have:=pK (hok o ho) y hy
  cases y<;>simp at hys
  subst hys
  exact cO this
 ·split at hs
  ·rename_i g w hg
   cases hq:ops.toList[g]? with
   | none=>rw[hq] at hs; simp at hs
   | some q=>
    rw[hq] at hs
    simp at hs
    have:=cQ (hok q (List.mem_of_getElem? hq))
    rw[hs] at this
    exact cO this
  ·cases hs
theorem qH (hfl:¬good fl) (hp:fm good pr P) {rec:Rec β} (dR:jN good P rec) {ops:Array Oper} {nt:Nat} (hok:∀q∈ops.toList,dP nt q=true) {κ:T Value→Heap→β}
  {r0:Option Nat} {Q:Exit→Act→World→Prop} {ds:List Deferred} {φ0:dm} {h0:Heap} {w0:World} {jo:T Value}
  (hQ:∀bU h' φ' a' w',good (κ bU h')→TR φ' nt bU a'→HR P φ' h' w'→Ext φ0 φ' h0 h' w0 w'→a'.defers=ds→(∀t,t<nt→(∀(i:Nat) (o:Oper),ops[i]? = some o→o.dst≠some t)→bX bU t=bX jo t)→Q .normal a' w') :
  ∀(os:List Oper) (i:Nat) (φ:dm) (tm:T Value) (h:Heap) (a:Act) (w:World),(∀k,os[k]? = ops[i+k]?)→TR φ nt tm a→HR P φ h w→Ext φ0 φ h0 h w0 w→a.defers=ds→(∀t,t<nt→(∀(i:Nat) (o:Oper),ops[i]? = some o→o.dst≠some t)→bX tm t=bX jo t)→
   good (lX fl pr P rec ops.toList os tm h κ)→wpOpsIn (FR r0) 0 P ops Q (List.range' i os.length) a w:=by
 intro os
 induction os with
 | nil=>
  intro i φ tm h a w _ ht hr hx hd hkp hg
  exact hQ tm h φ a w hg ht hr hx hd hkp
 | cons o os ih=>
  intro i φ tm h a w hos ht hr hx hd hkp hg
  have ho:ops[i]? = some o:=by have:=hos 0; simpa using this.symm
  have VT:∀k,os[k]? = ops[i+1+k]?:=fun k=>by have:=hos (k+1); rw[show i+1+k=i+(k+1) by omega]; simpa using this
  have hmem:o∈ops.toList:=by
   have:ops.toList[i]? = some o:=by simpa using ho
   exact List.mem_of_getElem? this
  have Ze:=hok o hmem
  show wpOpsIn (FR r0) 0 P ops Q (i::List.range' (i+1) os.length) a w
  simp only[wpOpsIn,ho]
  have hg':good (XO.rec (motive:=fun _=>β)
   (fun g d f=>Bool.rec (motive:=fun _=>β) (mK tm d undef h fun tm h=>lX fl pr P rec ops.toList os tm h κ)
    (f rec tm h fun v h=>mK tm d v h fun tm h=>lX fl pr P rec ops.toList os tm h κ) (eD tm g))
   (xV fl pr P ops.toList o)):=hg
  have put_defers:∀(d:Option Tmp) (v:Value),(a.put d v).defers=ds:=fun d v=>by cases d<;>exact hd
  have kp:∀(v:Value) (t:Nat),t<nt→(∀(i:Nat) (o:Oper),ops[i]? = some o→o.dst≠some t)→bX (g_ tm o.dst v) t=bX jo t:=fun v t hlt hno=>by
   rw[fk ht.small (cQ Ze) hlt,if_neg (hno i o ho)]; exact hkp t hlt hno
  cases Iy:guardOf ops.toList o with
  | none=>
   simp only[xV,Iy] at hg'
   exact absurd hg' hfl
  | some g=>
   simp only[xV,Iy] at hg'
   rw[x8 (φ:=φ) (tm:=tm) Iy fun s w _ hs=>⟨by rw[ht.size]; exact jO hok hmem hs,ht.rel s (jO hok hmem hs)⟩]
   cases hw:eD tm g with
   | false=>
    rw[hw] at hg'
    simp only[fh] at hg'
    rw[if_neg (by simp)]
    refine ⟨jA,?_⟩
    exact ih (i+1) φ _ h _ w VT (ht.put (cQ Ze) VR.undef) hr hx (put_defers _ _) (kp _) hg'
   | true=>
    rw[hw] at hg'
    simp only[fh] at hg'
    rw[if_pos rfl]
    refine AT hfl hp dR (fun y hy=>ht.eval (pK Ze y hy)) hr hg' ?_
    intro φ' v v' h' w' g1 g2 g3 g4
    exact ih (i+1) φ' _ h' _ w' VT ((ht.mono g4.sub).put (cQ Ze) g2) g3 (hx.trans g4) (put_defers _ _) (kp _) g1
def DS (good:β→Prop) (fl:β) (pr:jg β) (P:Program):Prop:=
 ∀(rec:Rec β),jN good P rec→∀(ops:Array Oper) (id nt:Nat),(∀q∈ops.toList,dP nt q=true)→∀(φ:dm) (tm:T Value) (h:Heap) (a:Act) (w:World) (κ:T Value→Heap→β),TR φ nt tm a→HR P φ h w→
  good (jx fl pr P rec ops.toList true tm h κ)→∀(r0:Option Nat) (Q:Exit→Act→World→Prop),
   (∀bU h' φ' a' w',good (κ bU h')→TR φ' nt bU a'→HR P φ' h' w'→Ext φ φ' h h' w w'→a'.defers=a.defers→(∀t,t<nt→(∀(i:Nat) (o:Oper),ops[i]? = some o→o.dst≠some t)→bX bU t=bX tm t)→Q .normal a' w')→(Code.region id ops true).wpIn (FR r0) 0 P Q a w
def iZ (r:Option Nat) (P:Program) (c:Code) (Q:Exit→Act→World→Prop) (a:Act) (w:World):Prop:=
 ∀(b:Frame) (k:List Item) (cs:List Frame),b.roundOf=r→(FR r).room (cs.length+1+0)→
  ∃e a' w',Q e a' w'∧ArrivesIn (Machine.fenced P (FR r)) P (lone (b.atR a (.code c::.inLoop c::k)) cs w) b k cs e a' w'
variable {ro:Option Nat}
theorem iZ.wp {c:Code} {Q:Exit→Act→World→Prop} {a:Act} {w:World} (h:iZ ro P c Q a w):(Code.loop c).wpIn (FR ro) 0 P Q a w:=
 fun b k cs hro hb hr=>let ⟨e,a',w',q,r⟩:=h b k cs hro hr; ⟨e,a',w',q,.of_steps (.one (fenced_calm hb hr rfl) stepR_loop) r⟩
theorem iZ.mono {c:Code} {Q Q':Exit→Act→World→Prop} {a:Act} {w:World} (h:iZ ro P c Q a w) (hq:∀e a w,Q e a w→Q' e a w):iZ ro P c Q' a w:=
 fun b k cs hro hr=>let ⟨e,a',w',q,r⟩:=h b k cs hro hr; ⟨e,a',w',hq _ _ _ q,r⟩
theorem iZ.round {c:Code} {Q:Exit→Act→World→Prop} {a:Act} {w:World} (h:c.wpIn (FR ro) 0 P (Exit.then (iZ ro P c Q) Q) a w):iZ ro P c Q a w:=by
 intro b k cs hro hr
 have hb:(FR ro).fn b.fn:=trivial
 obtain ⟨e,a₁,w₁,hq,oI⟩:=h b (.inLoop c::k) cs hro hb hr
 cases e with
 | normal=>
  obtain ⟨e₂,a₂,w₂,hq₂,VU⟩:=hq b k cs hro hr
  exact ⟨e₂,a₂,w₂,hq₂,.of_steps (StepsIn.trans oI (.one (fenced_calm hb hr rfl) stepR_inLoop)) VU⟩
 | exit id=>exact ⟨_,a₁,w₁,hq,.pass (x:=.inLoop c) rfl (fun _ _=>.inl (by simp)) oI⟩
 | goto l=>exact ⟨_,a₁,w₁,hq,.pass (x:=.inLoop c) rfl (fun _ _=>.inl (by simp)) oI⟩
 | ret=>exact ⟨_,a₁,w₁,hq,.pass (x:=.inLoop c) rfl (fun _ _=>.inl (by simp)) oI⟩
 | panic ch=>exact ⟨_,a₁,w₁,hq,.pass (x:=.inLoop c) rfl (fun _ _=>.inl (by simp)) oI⟩
 | outgrown=>exact ⟨_,a₁,w₁,hq,.pass (x:=.inLoop c) rfl (fun _ _=>.inl (by simp)) oI⟩
theorem Post.after {nt:Nat} {φ1:dm} {h1:Heap} {w1:World} {a1:Act} {ds ms:List Deferred} {κ:Ex→T Value→Heap→β} {e:Exit} {a2:Act} {w2:World} (hx:Ext φ φ1 h h1 w w1) (hd:a1.defers=ms++ds)
  (hm:Marks w.heap.size φ1 w1 w1.heap.size ms) (hp:Post good P nt φ1 h1 w1 a1.defers κ e a2 w2):Post good P nt φ h w ds κ e a2 w2:=by
 obtain ⟨x,tm,h2,φ2,rfl,k1,k2,k3,k4,ms2,k5,k6⟩:=hp
 refine ⟨x,tm,h2,φ2,rfl,k1,k2,k3,hx.trans k4,ms2++ms,by rw[k5,hd,List.append_assoc],?_⟩
 exact (hm.mono k4 (Nat.le_refl _)).append hx.size (Nat.le_refl _) k4.size k6
theorem Post.here {nt:Nat} {tm:T Value} {a:Act} {κ:Ex→T Value→Heap→β} {x:Ex} (ht:TR φ nt tm a) (hr:HR P φ h w) (hg:good (κ x tm h)):Post good P nt φ h w a.defers κ (I4 x) a w:=
 ⟨x,tm,h,φ,rfl,hg,ht,hr,Ext.refl _ _ _,[],rfl,trivial⟩
def oh (good:β→Prop) (P:Program) (rec:Rec β):Prop:=
 ∀(c:Code) (r:Option Nat) (tm:T Value) (h:Heap) (κ:Ex→T Value→Heap→β) (φ:dm) (w:World) (nt:Nat) (a:Act),(r=none∨mW c=true)→codeOk nt c=true→TR φ nt tm a→HR P φ h w→good (rec (.loop c) tm h κ)→
  iZ r P c (Post good P nt φ h w a.defers κ) a w
theorem nr {rec:Rec β} (dR:jN good P rec) (I8:oh good P rec):oh good P (body fl pr P rec):=by
 intro c r tm h κ φ w nt a hn hc ht hr hg
 have hg':good (rec c tm h (oH rec (.loop c) κ)):=hg
 refine iZ.round (wpIn_mono (dR c r tm h _ φ w nt a hn hc ht hr hg') ?_)
 rintro e a' w' ⟨e0,bU,h',φ',rfl,g1,g2,g3,g4,ms,g5,g6⟩
 cases e0 with
 | normal=>exact (I8 c r bU h' κ φ' w' nt a' hn hc g2 g3 g1).mono fun e a2 w2 hp=>Post.after g4 g5 g6 hp
 | exit i=>exact ⟨.exit i,bU,h',φ',rfl,g1,g2,g3,g4,ms,g5,g6⟩
 | ret=>exact ⟨.ret,bU,h',φ',rfl,g1,g2,g3,g4,ms,g5,g6⟩
theorem uf {r:Option Nat} {x y z:Code} (hn:r=none∨mW z=true) (hz:mW z=(mW x && mW y)):(r=none∨mW x=true)∧(r=none∨mW y=true):=by
 rcases hn with hn | hn
 ·exact ⟨.inl hn,.inl hn⟩
 ·rw[hz,Bool.and_eq_true] at hn; exact ⟨.inr hn.1,.inr hn.2⟩
theorem gE {b:Frame} {a:Act} {k:List Item} {cs:List Frame} {w:World} {c:Code} :
  step P (lone (b.atR a (.code (.scope c)::k)) cs w)=.next (lone (b.atR a (.code c::.inScope c::k)) cs w):=
 step_lone_go (by simp[stepG,stepG.exec,Frame.atR])
theorem xD {b:Frame} {a:Act} {k:List Item} {cs:List Frame} {w:World} {c:Code}:step P (lone (b.atR a (.inScope c::k)) cs w)=.next (lone (b.atR a k) cs w):=
 step_lone_go (by simp[stepG,stepG.exec,Frame.atR])
theorem u0 {F:Fence} {n:Nat} {c:Code} {Q:Exit→Act→World→Prop} {a:Act} {w:World} (h:c.wpIn F n P Q a w) (hg:∀l a w,¬Q (.goto l) a w):(Code.scope c).wpIn F n P Q a w:=by
 intro b k cs hro hb hr
 have h0:(lone (b.atR a (.code (.scope c)::k)) cs w).fenced P F:=fenced_calm hb hr rfl
 obtain ⟨e,a₁,w₁,hq,oI⟩:=h b (.inScope c::k) cs hro hb hr
 cases e with
 | normal=>exact ⟨.normal,a₁,w₁,hq,.head h0 gE (StepsIn.trans oI (.one (fenced_calm hb hr rfl) xD))⟩
 | exit id=>
  have hx:exitTo id (.inScope c::k)=exitTo id k:=by simp[exitTo]
  exact ⟨_,a₁,w₁,hq,fun k' hk=>.head h0 gE (oI.1 k' (by rw[hx]; exact hk)),
   fun hr' hk=>let ⟨k₁,h1,h2⟩:=oI.2 hr' (by rw[hx]; exact hk); ⟨k₁,h1,.head h0 gE h2⟩⟩
 | goto l=>exact absurd hq (hg l a₁ w₁)
 | ret=>exact ⟨_,a₁,w₁,hq,.of_steps (.one h0 gE) oI⟩
 | panic ch=>exact ⟨_,a₁,w₁,hq,.of_steps (.one h0 gE) oI⟩
 | outgrown=>exact ⟨_,a₁,w₁,hq,.of_steps (.one h0 gE) oI⟩
theorem r9 (hfl:¬good fl) (hp:fm good pr P) {rec:Rec β} (dR:jN good P rec) {g:Operand} {ps:Array Tmp} {x y:Code} {nt:Nat} {tm:T Value} {a:Act} (hc:codeOk nt (.rangeFunc g ps x y)=true) (ht:TR φ nt tm a) (hr:HR P φ h w)
  {κ:Ex→T Value→Heap→β} (hg:good (c9 fl pr P rec ps.toList x y tm h κ (dV tm g))):(Code.rangeFunc g ps x y).wpIn (FR none) 0 P (Post good P nt φ h w a.defers κ) a w:=by
 simp only[codeOk,Bool.and_eq_true] at hc
 obtain ⟨⟨⟨⟨⟨hcg,hcp⟩,hca⟩,hcb⟩,hra⟩,hrb⟩:=hc
 have Z7:=ht.eval hcg
 unfold c9 at hg
 split at hg<;>try exact absurd hg hfl
 rename_i f first cap hv
 obtain ⟨hn,hg⟩:=dn hfl hg
 rw[hv] at Z7
 generalize hz:a.eval g=z at Z7
 cases Z7 with
 | func fn a1 M7 b1 UZ ha hb Dw hvb=>
  refine wpIn_rangeFunc fun fn0 _=>?_
  have hx0:Ext φ φ h h w (w.alloc (.deferred (some []))):=by
   refine ⟨Sub.refl φ,fun b pl e e'=>(by rw[e] at e'; cases e'),Nat.le_refl _,by simp,fun B hB _=>dM hB,fun _ _ _=>rfl,rfl,rfl,rfl,fun B hB=>?_,rfl,fun _ _=>rfl,fun x o pl h1 h2 h3 h4 h5=>dM h5,Nat.le_refl _⟩
   rcases Nat.lt_trichotomy B w.heap.size with hl | hl | hl
   ·rw[dM hl]; exact hB
   ·subst hl; rw[kR]; trivial
   ·have:(w.alloc (.deferred (some []))).heap[B]? = none:=by show (w.heap.push _)[B]? = _; simp; omega
    rw[this]; trivial
  have E9:HR P φ h (w.alloc (.deferred (some []))):=
   ⟨fun b o pl h1 h2=>by rw[dM (hr.dom b pl h2).2]; exact hr.obj b o pl h1 h2,fun b pl h1=>⟨(hr.dom b pl h1).1,by have:=(hr.dom b pl h1).2; simp; omega⟩,hr.keys,hr.MX,hr.inj,hr.lo⟩
  have Rq:OR P φ (.loop .ready none tm ps.toList x y) ⟨(w.alloc (.deferred (some []))).heap.size,0,0⟩ (some (.loop { state:=.ready,pending:=none,fn:=fn0,tmps:=a.tmps,params:=ps,assign:=x,body:=y,defers:=w.heap.size })):=
   ⟨rfl,trivial,rfl,rfl,rfl,nt,⟨ht.small,hcp,hca,hcb,hra,hrb⟩,ht.size,ht.rel⟩
  obtain ⟨MF,hx1⟩:=E9.fresh hn 0 0 Rq trivial
  have VV:=hx0.trans hx1
  have hl:(fO φ h.nx ⟨(w.alloc (.deferred (some []))).heap.size,0,0⟩) h.nx=some ⟨(w.alloc (.deferred (some []))).heap.size,0,0⟩:=fG _ _ _
  have hmk:∀b pl,φ b=some pl→pl.B≠w.heap.size:=fun b pl hb=>by have:=(hr.dom b pl hb).2; omega
  have hD0:(w.alloc (.deferred (some []))).heap[w.heap.size]? = some (.deferred (some [])):=kR
  have hD1:=hx1.yW w.heap.size (by simp) hmk
  have Z8:=hx1.PR (D:=w.heap.size) (by simp) hmk
  have hargs:=(((F2.toList ha Dw).imp fun _ _ r=>r.mono hx1.sub).append (.cons (VR.yield hl) .nil)).append ((F2.toList hb hvb).imp fun _ _ r=>r.mono hx1.sub)
  have uX:=eG hfl hp dR hargs MF hg
  have hM1:Marks w.heap.size (fO φ h.nx ⟨(w.alloc (.deferred (some []))).heap.size,0,0⟩) ((w.alloc (.deferred (some []))).alloc (.loop { state:=.ready,pending:=none,fn:=fn0,tmps:=a.tmps,params:=ps,assign:=x,body:=y,defers:=w.heap.size }))
    ((w.alloc (.deferred (some []))).alloc (.loop { state:=.ready,pending:=none,fn:=fn0,tmps:=a.tmps,params:=ps,assign:=x,body:=y,defers:=w.heap.size })).heap.size [{ target:=.collected w.heap.size,args:=#[] }]:=
   ⟨w.heap.size,rfl,Nat.le_refl _,by simp; omega,hD1.trans hD0,Z8,trivial⟩
  have hsz:(w.alloc (.deferred (some []))).heap.size=w.heap.size+1:=by simp
  rw[hsz] at uX hl hx1 VV hM1
  refine ⟨w.heap.size+1,[{ target:=.collected w.heap.size,args:=#[] }],(w.alloc (.deferred (some []))).alloc (.loop { state:=.ready,pending:=none,fn:=fn0,tmps:=a.tmps,params:=ps,assign:=x,body:=y,defers:=w.heap.size }),
   { target:=.fn (.func f) UZ,args:=M7++#[.func (.yield (w.heap.size+1)) #[] #[]] },((w.alloc (.deferred (some []))).alloc (.loop { state:=.ready,pending:=none,fn:=fn0,tmps:=a.tmps,params:=ps,assign:=x,body:=y,defers:=w.heap.size })),f,_,((w.alloc (.deferred (some []))).alloc (.loop { state:=.ready,pending:=none,fn:=fn0,tmps:=a.tmps,params:=ps,assign:=x,body:=y,defers:=w.heap.size })),run_enterLoop_outer _ _ _ _ _,?_,fun _ _=>trivial,?_,fun hh=>(by cases hh),ue.2 (Calls.mono uX.2 ?_)⟩
  ·have Z9:∀v,a.eval (.const v)=v:=fun _=>rfl
   simp[resolve,hz,Deferred.ofValue,Z9]
  ·have:=uX.1
   have he:(M7.toList++[Value.func (.yield (w.heap.size+1)) #[] #[]]++UZ.toList).toArray=M7++#[.func (.yield (w.heap.size+1)) #[] #[]]++UZ:=by apply Array.ext'; simp
   rw[he] at this ⊢
   simpa[invoke] using this
  ·rintro e w2 ⟨φ2,v,v',h2,rfl,g1,g2,g3,g4⟩
   unfold dQ at g1
   split at g1<;>try exact absurd g1 hfl
   rename_i st dY PS ps2 x2 y2 hb2
   have hp2:=g4.sub _ _ hl
   obtain ⟨r2,hO2,q1,q2,q3,q4,q5,q6⟩:=g3.uY hb2 hp2
   split at g1
   ·exact absurd g1 hfl
   rename_i hst
   obtain ⟨Z_,g1⟩:=bq hfl g1
   obtain ⟨n1,n2⟩:=g3.qG (st':=.exhausted) (mG:=dY) Z_ hb2 hp2 hO2 (pd:=r2.pending) q2
   have hend:=run_endLoop (P:=P) hO2 (by rw[q1]; exact hst)
   have VW:=g4.trans n2
   have hM2:=hM1.mono VW (Nat.le_refl _)
   have u5:=VV.trans VW
   have htt:TR φ2 nt tm { a with defers:=[{ target:=.collected w.heap.size,args:=#[] }]++a.defers }:=⟨ht.size,ht.small,fun t hlt=>(ht.rel t hlt).mono u5.sub⟩
   have MG:=hM2.le (U':=(w2.putObj (w.heap.size+1) (.loop { r2 with state:=.exhausted,pending:=r2.pending })).heap.size) (by have:=g4.size; simp at this ⊢; omega)
   refine ⟨r2.pending,_,hend,?_⟩
   cases dY with
   | none=>
    have Ru:r2.pending=none:=by
     cases hq:r2.pending with
     | none=>rfl
     | some c=>rw[hq] at q2; exact q2.elim
    rw[Ru] at n1 u5 MG ⊢
    exact ⟨.normal,tm,_,φ2,rfl,g1,htt,n1,u5,_,rfl,MG⟩
   | some ex=>
    rcases xZ.jump q2 with ⟨rfl,Ru⟩ | ⟨i,rfl,Ru⟩
    ·rw[Ru] at n1 u5 MG ⊢
     exact wpIn_ret ⟨.ret,tm,_,φ2,rfl,g1,htt,n1,u5,_,rfl,MG⟩
    ·rw[Ru] at n1 u5 MG ⊢
     exact wpIn_exit ⟨.exit i,tm,_,φ2,rfl,g1,htt,n1,u5,_,rfl,MG⟩
theorem DT (hfl:¬good fl) (hp:fm good pr P) (PE:DS good fl pr P) {rec:Rec β} (dR:jN good P rec) (I8:oh good P rec):jN good P (body fl pr P rec):=by
 intro c r tm h κ φ w nt a hn hc ht hr hg
 cases c with
 | skip=>exact wpIn_skip (Post.here (x:=.normal) ht hr hg)
 | label l=>exact wpIn_label (Post.here (x:=.normal) ht hr hg)
 | ret=>exact wpIn_ret (Post.here (x:=.ret) ht hr hg)
 | exit id=>exact wpIn_exit (Post.here (x:=.exit id) ht hr hg)
 | region id os draw=>
  have hok:∀q∈os.toList,dP nt q=true:=by
   simp only[codeOk,List.all_eq_true] at hc; exact hc
  have hQ:∀bU h' φ' a' w',good ((fun tm h=>κ .normal tm h) bU h')→TR φ' nt bU a'→HR P φ' h' w'→Ext φ φ' h h' w w'→a'.defers=a.defers→Post good P nt φ h w a.defers κ .normal a' w':=
   fun bU h' φ' a' w' g1 g2 g3 g4 g5=>⟨.normal,bU,h',φ',rfl,g1,g2,g3,g4,[],g5,trivial⟩
  cases draw with
  | false=>
   refine wpIn_region ?_
   rw[List.range_eq_range']
   have:=qH (r0:=r) (jo:=tm) hfl hp dR hok (fun bU h' φ' a' w' g1 g2 g3 g4 g5 _=>hQ bU h' φ' a' w' g1 g2 g3 g4 g5) os.toList 0 φ tm h a w (fun k=>by simp) ht hr (Ext.refl _ _ _) rfl (fun _ _ _=>rfl) hg
   simpa using this
  | true=>exact PE rec dR os id nt hok φ tm h a w _ ht hr hg r _ fun bU h' φ' a' w' g1 g2 g3 g4 g5 _=>hQ bU h' φ' a' w' g1 g2 g3 g4 g5
 | seq x y=>
  simp only[codeOk,Bool.and_eq_true] at hc
  obtain ⟨y_,hn2⟩:=uf (x:=x) (y:=y) hn rfl
  have hg':good (rec x tm h (oH rec y κ)):=hg
  refine wpIn_seq (wpIn_mono (dR x r tm h _ φ w nt a y_ hc.1 ht hr hg') ?_)
  rintro e a' w' ⟨e0,bU,h',φ',rfl,g1,g2,g3,g4,ms,g5,g6⟩
  cases e0 with
  | normal=>exact wpIn_mono (dR y r bU h' κ φ' w' nt a' hn2 hc.2 g2 g3 g1) fun e a2 w2 hp=>Post.after g4 g5 g6 hp
  | exit i=>exact ⟨.exit i,bU,h',φ',rfl,g1,g2,g3,g4,ms,g5,g6⟩
  | ret=>exact ⟨.ret,bU,h',φ',rfl,g1,g2,g3,g4,ms,g5,g6⟩
 | cond x c1 c2=>
  simp only[codeOk,Bool.and_eq_true] at hc
  obtain ⟨y_,hn2⟩:=uf (x:=c1) (y:=c2) hn rfl
  have hg':good (ev tm x (qw fl rec c1 c2 tm h κ)):=hg
  rw[eE] at hg'
  have hx:=ht.eval hc.1.1
  unfold qw at hg'
  split at hg'<;>try exact absurd hg' hfl
  ·rename_i hv
   rw[hv] at hx
   refine wpIn_cond_true (by generalize a.eval x=z at hx; cases hx; rfl) (dR c1 r tm h κ φ w nt a y_ hc.1.2 ht hr hg')
  ·rename_i hv
   rw[hv] at hx
   refine wpIn_cond_false (by generalize a.eval x=z at hx; cases hx; rfl) (dR c2 r tm h κ φ w nt a hn2 hc.2 ht hr hg')
 | block id c=>
  have hg':good (rec c tm h (iu id κ)):=hg
  refine wpIn_block (wpIn_mono (dR c r tm h _ φ w nt a hn hc ht hr hg') ?_)
  rintro e a' w' ⟨e0,bU,h',φ',rfl,g1,g2,g3,g4,ms,g5,g6⟩
  cases e0 with
  | normal=>exact ⟨.normal,bU,h',φ',rfl,g1,g2,g3,g4,ms,g5,g6⟩
  | ret=>exact ⟨.ret,bU,h',φ',rfl,g1,g2,g3,g4,ms,g5,g6⟩
  | exit i=>
   simp only[iu] at g1
   simp only[I4,Exit.inBlock]
   split at g1
   ·rename_i hb; have hb:=cF hb
    rw[if_pos hb]
    exact ⟨.normal,bU,h',φ',rfl,g1,g2,g3,g4,ms,g5,g6⟩
   ·rename_i hb; have hb:=m_ hb
    rw[if_neg hb]
    exact ⟨.exit i,bU,h',φ',rfl,g1,g2,g3,g4,ms,g5,g6⟩
 | scope c=>
  refine u0 (dR c r tm h κ φ w nt a hn hc ht hr hg) ?_
  rintro l a' w' ⟨x,bU,h',φ',hx,_⟩
  cases x<;>cases hx
 | loop c=>
  exact (nr (fl:=fl) (pr:=pr) dR I8 c r tm h κ φ w nt a hn hc ht hr hg).wp
 | rangeFunc g ps x y=>
  have hg':good (ev tm g (c9 fl pr P rec ps.toList x y tm h κ)):=hg
  rw[eE] at hg'
  rcases hn with rfl | hn
  ·exact r9 hfl hp dR hc ht hr hg'
  ·cases hn
 | _=>exact absurd hg hfl
theorem x9 (hfl:¬good fl) (hp:fm good pr P) (PE:DS good fl pr P):∀n,jN good P (run fl pr P n)∧oh good P (run fl pr P n):=by
 intro n
 induction n with
 | zero=>exact ⟨fun c r tm h κ φ w nt a _ _ _ _ hg=>absurd hg hfl,fun c r tm h κ φ w nt a _ _ _ _ hg=>absurd hg hfl⟩
 | succ n ih=>exact ⟨DT hfl hp PE ih.1 ih.2,nr ih.1 ih.2⟩
end Go.Vai

namespace Go.Vai
open Go
variable {β:Type} {fl:β} {good:β→Prop} {pr:jg β} {P:Program} {φ:dm} {h h':Heap} {w:World} {t:TypeId}
def XI.opsL:XI β→List Operand
 | .k0 _=>[]
 | .k1 x _=>[x]
 | .k2 x y _=>[x,y]
 | .k3 x y z _=>[x,y,z]
 | .kn xs _=>xs
def XA.opsL:XA β→List Operand
 | .k0 _=>[]
 | .k1 x _=>[x]
 | .k2 x y _=>[x,y]
 | .kn xs _=>xs
theorem XI.congr {i:XI β} {tm bU:T Value} (he:∀y∈i.opsL,dV bU y=dV tm y) (h:Heap) (κ:Value→Heap→β):i.run bU h κ=i.run tm h κ:=by
 cases i with
 | k0 f=>rfl
 | k1 x f=>rw[XI.bS,XI.bS,he x (by simp[XI.opsL])]
 | k2 x y f=>rw[XI.cG,XI.cG,he x (by simp[XI.opsL]),he y (by simp[XI.opsL])]
 | k3 x y z f=>rw[XI.pz,XI.pz,he x (by simp[XI.opsL]),he y (by simp[XI.opsL]),he z (by simp[XI.opsL])]
 | kn xs f=>
  have:xs.map (dV bU)=xs.map (dV tm):=List.map_congr_left he
  rw[XI.fS,XI.fS,this]
theorem XA.congr {i:XA β} {tm bU:T Value} (he:∀y∈i.opsL,dV bU y=dV tm y) (κ:bt→(Nat→Value)→β):i.run bU κ=i.run tm κ:=by
 cases i with
 | k0 f=>rfl
 | k1 x f=>rw[XA.bS,XA.bS,he x (by simp[XA.opsL])]
 | k2 x y f=>rw[XA.cG,XA.cG,he x (by simp[XA.opsL]),he y (by simp[XA.opsL])]
 | kn xs f=>
  have:xs.map (dV bU)=xs.map (dV tm):=List.map_congr_left he
  rw[XA.fS,XA.fS,this]
theorem r_ {op:Op} {x:XI β} (hc:mE fl P op=some x):∀y∈x.opsL,y∈op.operands.toList:=by
 cases op<;>simp only[mE] at hc<;>(repeat' split at hc)<;>(try contradiction)<;>cases hc<;>
  simp_all [XI.opsL,Op.operands,Call.operands,mU]
theorem x_ {op:Op} {x:XA β} (hc:oQ fl P op=some x):∀y∈x.opsL,y∈op.operands.toList:=by
 cases op<;>simp only[oQ] at hc<;>(repeat' split at hc)<;>(try contradiction)<;>cases hc<;>
  simp_all [XA.opsL,Op.operands]
def xE (h h':Heap):Prop:=∀b o,h.bl.get b=some o→h'.bl.get b=some o
theorem u6 (hm:xE h h') {b:Nat} (hl:uD h b=true):uD h' b=true:=by
 unfold uD at *
 split at hl<;>try contradiction
 rename_i hb
 rw[hm _ _ hb]
theorem GR {rec VX:TypeId→Value→Value→Option Bool} (dR:∀t x y r,rec t x y=some r→VX t x y=some r):∀(fs:List Field) (xs ys:List Value) (r:Bool),
  xk P rec fs xs ys=some r→xk P VX fs xs ys=some r:=by
 intro fs
 induction fs with
 | nil=>intro xs ys r h; exact h
 | cons f fs ih=>
  intro xs ys r h
  unfold xk at h ⊢
  split at h<;>try contradiction
  rename_i hf
  split at h<;>try contradiction
  ·rename_i s h1 h2
   split at h
   ·rename_i e; simp only[dR _ _ _ _ e]; exact ih _ _ _ h
   ·rename_i r' hr'
    rw[dR _ _ _ _ h]
    cases r with
    | true=>exact absurd h (by simpa using hr')
    | false=>rfl
  ·rename_i s h1 h2
   split at h<;>try contradiction
   rename_i x y hx hy
   split at h
   ·rename_i e; simp only[dR _ _ _ _ e]; exact ih _ _ _ h
   ·rename_i r' hr'
    rw[dR _ _ _ _ h]
    cases r with
    | true=>exact absurd h (by simpa using hr')
    | false=>rfl
theorem u7 (hm:xE h h'):∀(d:Nat) (t:TypeId) (x y:Value) (r:Bool),lT P h d t x y=some r→lT P h' d t x y=some r:=by
 intro d
 induction d with
 | zero=>intro t x y r h; exact h
 | succ d ih=>
  intro t x y r hh
  unfold lT at hh ⊢
  split at hh<;>try contradiction
  all_goals try exact hh
  ·split at hh<;>try contradiction
   split at hh<;>try contradiction
   rename_i l1 l2
   simp only[u6 hm l1,u6 hm l2]
   exact hh
  ·split at hh<;>try contradiction
   exact GR ih _ _ _ _ hh
theorem u9 (hm:xE h h') {kt:TypeId} {k:Value}:∀(es:List MapEntry) (i:Nat) (r:Option (Nat × MapEntry)),fC P h kt k es i=some r→fC P h' kt k es i=some r:=by
 intro es
 induction es with
 | nil=>intro i r h; exact h
 | cons e es ih=>
  intro i r hh
  unfold fC at hh ⊢
  split at hh<;>try contradiction
  ·rename_i he; simp only[u7 hm _ _ _ _ _ he]; exact hh
  ·rename_i he; simp only[u7 hm _ _ _ _ _ he]; exact ih _ _ hh
theorem zh (hm:xE h h') {e:TypeId} {b n:Nat} (hk:f_ h e b=some n):f_ h' e b=some n:=by
 unfold f_ at *
 split at hk<;>try contradiction
 ·rename_i hb; rw[hm _ _ hb]; exact hk
 ·rename_i hb; rw[hm _ _ hb]; exact hk
theorem DU {op:Op} {x:PC} (hc:mE none P op=some x) (hm:xE h h') {tm:T Value} {v:Value} (hr:jh x tm h=some v):jh x tm h'=some v:=by
 unfold jh at *
 cases op<;>simp only[mE] at hc<;>try (cases hc; done)
 case load t a=>
  split at hc<;>try contradiction
  ·cases hc; rw[XI.bS] at hr ⊢
   unfold aI at hr ⊢
   split at hr<;>try contradiction
   split at hr<;>try contradiction
   ·rename_i hb
    simp only[hm _ _ hb]; exact hr
   ·rename_i hb
    simp only[hm _ _ hb]; exact hr
  ·cases hc; rw[XI.bS] at hr ⊢
   unfold load1 at hr ⊢
   split at hr<;>try contradiction
   split at hr<;>try contradiction
   ·rename_i hb
    simp only[hm _ _ hb]; exact hr
   ·rename_i hb
    simp only[hm _ _ hb]; exact hr
 case binOp op t x y t2=>
  cases hc; rw[XI.cG] at hr ⊢
  have hq:∀t a b r,lT P h 100 t a b=some r→lT P h' 100 t a b=some r:=u7 hm 100
  unfold au at hr ⊢
  split at hr<;>try contradiction
  ·exact hr
  ·exact hr
  ·split at hr<;>try contradiction
   ·split at hr<;>try contradiction
    rename_i he; simp only[hq _ _ _ _ he]; exact hr
   ·split at hr<;>try contradiction
    rename_i he; simp only[hq _ _ _ _ he]; exact hr
  ·split at hr<;>try contradiction
   ·split at hr<;>try contradiction
    rename_i he; simp only[hq _ _ _ _ he]; exact hr
   ·split at hr<;>try contradiction
    rename_i he; simp only[hq _ _ _ _ he]; exact hr
 case slice t x lo hi mx=>
  split at hc<;>try contradiction
  ·split at hc<;>try contradiction
   cases hc; rw[XI.fS] at hr ⊢
   split at hr<;>try contradiction
   split at hr<;>try contradiction
   unfold sliceB at hr ⊢
   split at hr<;>try contradiction
   ·exact hr
   ·split at hr<;>try contradiction
    ·exact hr
    ·split at hr<;>try contradiction
     ·exact hr
     ·split at hr<;>try contradiction
      rename_i hk _
      simp only[zh hm hk]
      exact hr
  ·cases hc; rw[XI.fS] at hr ⊢
   exact hr
 case lookup t x i ok=>
  split at hc<;>try contradiction
  split at hc<;>try contradiction
  split at hc<;>try contradiction
  cases hc; rw[XI.cG] at hr ⊢
  unfold c8 jm at hr ⊢
  split at hr<;>try contradiction
  split at hr<;>try contradiction
  ·exact hr
  ·split at hr<;>try contradiction
   rename_i hb
   simp only[hm _ _ hb]
   split at hr<;>try contradiction
   ·rename_i hf; simp only[u9 hm _ _ _ hf]; exact hr
   ·rename_i hf; simp only[u9 hm _ _ _ hf]; exact hr
 case call c=>
  split at hc<;>try contradiction
  ·split at hc<;>try contradiction
   split at hc<;>try contradiction
   ·cases hc; exact hr
   ·cases hc; exact hr
   ·cases hc; rw[XI.bS] at hr ⊢
    unfold jG at hr ⊢
    split at hr<;>try contradiction
    ·exact hr
    ·split at hr<;>try contradiction
     rename_i hb
     simp only[hm _ _ hb]; exact hr
  ·split at hc<;>try contradiction
   cases hc; rw[XI.cG] at hr ⊢
   unfold Aw at hr ⊢
   split at hr<;>try contradiction
   split at hr<;>exact hr
  ·split at hc<;>try contradiction
   cases hc; rw[XI.cG] at hr ⊢
   unfold ID at hr ⊢
   split at hr<;>try contradiction
   split at hr<;>exact hr
 all_goals ((repeat' split at hc)<;>(try contradiction)<;>cases hc<;>exact hr)
end Go.Vai
