/-
  PROVED HERE: a part of the proof (VaiS6, VaiS7, VaiS8, VaiS9, VaiS10, VaiS11, VaiS12, VaiS13, VaiS14).
-/
import Derived.Test.YtmllggkhfmjpgaaGreatDoorG0
import Derived.Laws.Append
import Derived.Laws.AppendOwn
import Derived.Laws.Small
import Derived.Laws.IdiomStrings
import Derived.Laws.BytesArg
import Derived.OrdersIn
import Derived.RangeFuncRecord
set_option linter.unusedVariables false
set_option linter.unusedSimpArgs false
namespace Go.Vai
open Go
variable {β:Type} {fl:β} {good:β→Prop} {P:Program} {φ:dG} {h:Heap} {w:World} {t:TypeId}
noncomputable def lay:List Value→T Value→Nat→T Value
 | [],c,_=>c
 | v::vs,c,off=>lay vs (c.aT off v) (off+1)
theorem vm (vs:List Value):∀(c:T Value) (off:Nat) (κ:T Value→Nat→β),Ql vs c off κ=κ (lay vs c off) (off+vs.length):=by
 induction vs with
 | nil=>intro c off κ; rfl
 | cons v vs ih=>
  intro c off κ
  show T.set c off v (fun c=>u9 (Nat.succ off) fun off=>Ql vs c off κ)=_
  rw[T.fC,bT,ih]
  simp only[lay,List.length_cons]
  congr 1; omega
theorem rq (vs:List Value):∀(c:T Value) (off:Nat),off+vs.length≤2 ^ 199→∀i,Small i→(lay vs c off).get i=if off≤i∧i<off+vs.length then vs[i-off]? else c.get i:=by
 induction vs with
 | nil=>intro c off _ i _; simp[lay]; omega
 | cons v vs ih=>
  intro c off ho i hi
  simp only[List.length_cons] at ho
  have hso:Small off:=by unfold Small; omega
  rw[lay,ih _ _ (by omega) i hi,T.kZ c v hso hi]
  by_cases h1:off+1≤i∧i<off+1+vs.length
  ·rw[if_pos h1,if_pos (by simp; omega),show i-off=(i-(off+1))+1 by omega]; simp
  ·rw[if_neg h1]
   by_cases h2:off=i
   ·subst h2; simp
   ·rw[if_neg h2,if_neg (by simp; omega)]
theorem Ch {n m:Nat} (h:n≤m) (hm:m≤4611686018427387904):Small n:=by unfold Small; omega
theorem jk (hfl:¬good fl) {vs:List Value} {e:TypeId} {PW:Bool} {κ:bC→β} (hg:good (aF fl vs e PW κ)) :
  vs.length≤1000000000000∧good (κ (.cells vs.length (lay vs .nil 0) e PW)):=by
 unfold aF at hg
 rw[vm] at hg
 simp only[Nat.zero_add] at hg
 split at hg
 ·rename_i hle; exact ⟨ck hle,hg⟩
 ·exact absurd hg hfl
theorem wu {vs vs':List Value} (hv:F2 (VR φ) vs vs') (hl:vs.length≤1000000000000) (e:TypeId) (pl:Pl) (rest:List Value) (PW:Bool) (ho:PW=true→(vs'++rest).length=pl.sz∧er P e=some pl.e∧0<pl.e) :
  OR P φ (.cells vs.length (lay vs .nil 0) e PW) pl (some (.cells (vs'++rest).toArray e (0,0))):=by
 have hlen:=hv.length
 refine ⟨rfl,rfl,by simp; omega,by omega,fun h=>by simpa using ho h,?_⟩
 intro i v ku hi
 rw[rq vs .nil 0 (by omega) i (by unfold Small; omega),if_pos (by omega)] at ku
 simp only[Nat.sub_zero] at ku
 obtain ⟨v',h1,h2⟩:=hv.get i v ku
 refine ⟨v',?_,h2⟩
 have:i<vs'.length:=by omega
 simp[List.getElem?_append_left this,h1]
theorem cI (hfl:¬good fl) {o:bC} {κ:Nat→Heap→β} (hg:good (aq fl o h κ)):h.nx≤h.nx∧good (κ h.nx ⟨h.nx+1,h.bl.aT h.nx o,h.lo⟩):=by
 unfold aq at hg
 rw[T.fC,bT] at hg
 exact ⟨Nat.le_refl _,hg⟩
def gE (φ:dG) (b:Nat) (pl:Pl):dG:=fun x=>if x=b then some pl else φ x
theorem dO (φ:dG) (b:Nat) (pl:Pl):gE φ b pl b=some pl:=by simp[gE]
theorem o5 {b:Nat} {pl:Pl} (hb:φ b=none):Sub φ (gE φ b pl):=fun x p e=>by
 unfold gE
 split
 ·rename_i hx; subst hx; rw[hb] at e; cases e
 ·exact e
theorem HR.wz (hr:HR P φ h w) (hn:h.nx≤h.nx) (o:bC):HR P φ ⟨h.nx+1,h.bl.aT h.nx o,h.lo⟩ w:=by
 have hs:Small h.nx:=by unfold Small; omega
 have gK:∀b,b<h.nx→(h.bl.aT h.nx o).get b=h.bl.get b:=fun b hb=>T.fS _ _ hs (by unfold Small; omega) (by omega)
 refine ⟨?_,?_,?_,?_,?_,Nat.le_succ_of_le hr.lo⟩
 ·intro b o' pl hb hp
  have:=(hr.dom b pl hp).1
  exact hr.obj b o' pl ((gK b this)▸hb) hp
 ·intro b pl hp; have:=hr.dom b pl hp; exact ⟨by show b<h.nx+1; omega,this.2⟩
 ·intro b o' hsb hb
  show b<h.nx+1
  rw[T.kZ _ _ hs hsb] at hb
  split at hb
  ·omega
  ·have:=hr.keys b o' hsb hb; omega
 ·show h.nx+1<h.nx+1+1; omega
 ·intro b b' o1 o2 pl kS g1 g2 l1 l2 p1 p2 e
  have d1:=(hr.dom b pl p1).1
  have d2:=(hr.dom b' kS p2).1
  exact hr.inj b b' o1 o2 pl kS ((gK b d1)▸g1) ((gK b' d2)▸g2) l1 l2 p1 p2 e
theorem dI {O:Obj} {B:Nat} (hB:B<w.heap.size):(w.alloc O).heap[B]? = w.heap[B]?:=by
 show (w.heap.push O)[B]? = _
 rw[Array.getElem?_push,if_neg (by omega)]
theorem lR {O:Obj}:(w.alloc O).heap[w.heap.size]? = some O:=by
 show (w.heap.push O)[w.heap.size]? = _
 simp
theorem HR.Ci (hr:HR P φ h w) {b:Nat} {o:bC} (hb:h.bl.get b=some o) (hp:φ b=none) (B4:b<h.nx) {O:Obj} (sz e:Nat) (ho:OR P φ o ⟨w.heap.size,sz,e⟩ (some O)) :
  HR P (gE φ b ⟨w.heap.size,sz,e⟩) h (w.alloc O):=by
 have hsub:=o5 (pl:=⟨w.heap.size,sz,e⟩) hp
 refine ⟨?_,?_,hr.keys,hr.LI,?_,hr.lo⟩
 ·intro x o' pl hx A1
  unfold gE at A1
  split at A1
  ·rename_i he; subst he; cases A1
   rw[hb] at hx; cases hx
   show OR P _ o _ ((w.alloc O).heap[w.heap.size]?)
   rw[lR]
   exact ho.mono hsub
  ·have hB:=(hr.dom x pl A1).2
   rw[dI hB]
   exact (hr.obj x o' pl hx A1).mono hsub
 ·intro x pl A1
  unfold gE at A1
  split at A1
  ·rename_i he; subst he; cases A1; exact ⟨B4,by simp⟩
  ·have:=hr.dom x pl A1; exact ⟨this.1,by simp; omega⟩
 ·intro x x' o1 o2 pl kS g1 g2 l1 l2 p1 p2 e
  unfold gE at p1 p2
  split at p1<;>split at p2
  ·omega
  ·rename_i h1 h2; cases p1; have:=(hr.dom x' kS p2).2; simp at e; omega
  ·rename_i h1 h2; cases p2; have:=(hr.dom x pl p1).2; simp at e; omega
  ·exact hr.inj x x' o1 o2 pl kS g1 g2 l1 l2 p1 p2 e
theorem Ext.Ci {φ0:dG} {h0:Heap} {w0:World} (hx:Ext φ0 φ h0 h w0 w) {b:Nat} (hp:φ b=none) (hb:h0.nx≤b) (O:Obj) (hO:UF (some O)) (sz e:Nat):Ext φ0 (gE φ b ⟨w.heap.size,sz,e⟩) h0 h w0 (w.alloc O) where
 sub:=hx.sub.trans (o5 hp)
 new:=fun x pl e0 e1=>by
  unfold gE at e1
  split at e1
  ·rename_i he; subst he; cases e1; exact ⟨hb,.inl hx.size⟩
  ·exact hx.new x pl e0 e1
 nx:=hx.nx
 size:=Nat.le_trans hx.size (by simp)
 ze:=fun B hB hn=>by
  have:=hx.size
  rw[dI (by omega)]; exact hx.ze B hB hn
 B1:=hx.B1
 tape:=hx.tape
 os:=hx.os
 output:=hx.output
 lo:=hx.lo
 FH:=hx.FH
 FI:=fun x o pl h1 h2 h3 h4 h5=>by
  have:=hx.size
  rw[dI (by omega)]; exact hx.FI x o pl h1 h2 h3 h4 h5
 dr:=hx.dr
 fz:=fun B h=>by
  have h1:=hx.fz B h
  rcases Nat.lt_trichotomy B w.heap.size with hl | hl | hl
  ·rw[dI hl]; exact h1
  ·subst hl
   have:(w.alloc O).heap[w.heap.size]? = some O:=by show (w.heap.push O)[w.heap.size]? = _; simp
   rw[this]; exact hO
  ·have:(w.alloc O).heap[B]? = none:=by show (w.heap.push O)[B]? = _; simp; omega
   rw[this]; trivial
theorem Ext.wz {φ0:dG} {h0:Heap} {w0:World} (hx:Ext φ0 φ h0 h w0 w) (hlo:h.lo≤h.nx) (hn:h.nx≤h.nx) (o:bC):Ext φ0 φ h0 ⟨h.nx+1,h.bl.aT h.nx o,h.lo⟩ w0 w where
 sub:=hx.sub
 new:=hx.new
 nx:=Nat.le_trans hx.nx (Nat.le_succ _)
 size:=hx.size
 ze:=hx.ze
 B1:=fun b hb hp=>by
  have:=hx.nx
  rw[←hx.B1 b hb hp]
  exact T.fS _ _ (by unfold Small; omega) (by unfold Small; omega) (by omega)
 tape:=hx.tape
 os:=hx.os
 output:=hx.output
 fz:=hx.fz
 lo:=hx.lo
 FI:=hx.FI
 dr:=hx.dr
 FH:=fun b hb=>by
  have:=hx.lo
  rw[←hx.FH b hb]
  exact T.fS _ _ (by unfold Small; omega) (by unfold Small; omega) (by omega)
theorem HR.fresh (hr:HR P φ h w) (hn:h.nx≤h.nx) {o:bC} {O:Obj} (sz e:Nat) (ho:OR P φ o ⟨w.heap.size,sz,e⟩ (some O)) (hl:o.live) :
  HR P (gE φ h.nx ⟨w.heap.size,sz,e⟩) ⟨h.nx+1,h.bl.aT h.nx o,h.lo⟩ (w.alloc O)∧Ext φ (gE φ h.nx ⟨w.heap.size,sz,e⟩) h ⟨h.nx+1,h.bl.aT h.nx o,h.lo⟩ w (w.alloc O):=by
 have hnone:φ h.nx=none:=by
  cases hp:φ h.nx with
  | none=>rfl
  | some pl=>have:=(hr.dom _ _ hp).1; omega
 exact ⟨(hr.wz hn o).Ci (T.af _ _ _) hnone (Nat.lt_succ_self _) sz e ho,((Ext.refl φ h w).wz hr.lo hn o).Ci hnone (Nat.le_refl _) O (rj ho hl) sz e⟩
def Names (mk:Nat→Value):Prop:=∀(φ:dG) (b:Nat) (pl:Pl),φ b=some pl→VR φ (mk b) (mk pl.B)
theorem zW:Names ptrTo:=fun _ _ _ h=>.ptr h
theorem JK:Names iB:=fun _ _ _ h=>.map h
theorem uj {n c:Nat} (h1:n≤c) (h2:c<aM):Names (sliceTo n c):=fun _ _ _ h=>.slice h h1 h2
theorem oq (zs:List Value) (n:Nat):(aU zs n).length=n*zs.length:=by
 induction n with
 | zero=>simp[aU]
 | succ n ih=>simp[aU,ih,Nat.succ_mul]; omega
theorem Cj (zs:List Value) (n i:Nat) (hi:i<n*zs.length):(aU zs n)[i]? = zs[i % zs.length]?:=by
 induction n generalizing i with
 | zero=>omega
 | succ n ih=>
  rw[Nat.succ_mul] at hi
  simp only[aU]
  rcases Nat.lt_or_ge i zs.length with h1 | h1
  ·rw[List.getElem?_append_left h1,Nat.mod_eq_of_lt h1]
  ·rw[List.getElem?_append_right h1,ih _ (by omega)]
   congr 1
   exact (Nat.mod_eq_sub_mod h1).symm
theorem ru (z:Array Value) (n m:Nat) (hm:m=n*z.size):(Array.range m).map (fun i=>z[i % z.size]!)=(aU z.toList n).toArray:=by
 subst hm
 apply Array.ext'
 simp
 apply List.ext_getElem?
 intro i
 by_cases hi:i<n*z.size
 ·have h0:0<z.size:=by rcases Nat.eq_zero_or_pos z.size with h | h; · rw[h] at hi; omega
                       ·exact h
  have h1:i % z.size<z.size:=Nat.mod_lt _ h0
  rw[Cj _ _ _ (by simpa using hi)]
  simp[hi,h1,getElem!_pos]
 ·rw[List.getElem?_eq_none (by simpa using hi),List.getElem?_eq_none (by rw[oq]; simpa using hi)]
theorem jb {zs:List Value} (hz:zs.all fF=true) (n:Nat):(aU zs n).all fF=true:=by
 induction n with
 | zero=>rfl
 | succ n ih=>simp only[aU,List.all_append,hz,ih,Bool.and_self]
theorem j0 {z:List Value} {s:Nat} (h:Lx P t=some (z,s)):zeroOf P t=some z∧er P t=some s∧z.length=s∧0<s:=by
 unfold Lx at h
 split at h<;>try (cases h; done)
 rename_i z' s' h1 h2
 split at h<;>try (cases h; done)
 rename_i hl
 cases h
 exact ⟨h1,h2,bY hl,Nat.succ_pos _⟩
theorem uk (hfl:¬good fl) {op:Op} {i:XA β} (hc:p_ fl P op=some i) {tm:T Value} {ρ:Operand→Value} (hρ:∀y∈op.operands.toList,VR φ (eN tm y) (ρ y))
  {κ:bC→(Nat→Value)→β} (hg:good (i.run tm κ)) {o:Oper} (ho:o.op=op) :
  ∃ob mk O,good (κ ob mk)∧ob.live∧(∀pl,OR P φ ob pl (some O))∧Names mk∧(execOp ρ o).run P w=.ok (.value (mk w.heap.size)) (w.alloc O):=by
 have one:∀{vs vs':List Value} {e:TypeId} {mk:Nat→Value} ,F2 (VR φ) vs vs'→good (aF fl vs e false fun o=>κ o mk)→Names mk→
   (∀O,O=Obj.cells vs'.toArray e (0,0)→(execOp ρ o).run P w=.ok (.value (mk w.heap.size)) (w.alloc O))→
   ∃ob mk O,good (κ ob mk)∧ob.live∧(∀pl,OR P φ ob pl (some O))∧Names mk∧(execOp ρ o).run P w=.ok (.value (mk w.heap.size)) (w.alloc O):=by
  intro vs vs' e mk hv hg hn hrun
  obtain ⟨h1,h2⟩:=jk hfl hg
  refine ⟨_,mk,.cells vs'.toArray e (0,0),h2,trivial,fun pl=>?_,hn,hrun _ rfl⟩
  have:=wu (P:=P) hv h1 e pl [] false (fun e=>by cases e)
  simpa using this
 cases op<;>simp only[p_] at hc<;>try (cases hc; done)
 case alloc e=>
  split at hc<;>try (cases hc; done)
  rename_i z hz
  cases hc; rw[XA.LH] at hg
  obtain ⟨v,inf,hi,LP,rfl,hb⟩:=gr hz
  refine one (iq hb) hg zW fun O hO=>?_
  subst hO
  simp[execOp,ho,Instr.alloc,gQ hi LP,newVar,newRow,ptrTo]
 case box e x=>
  cases hc; rw[XA.bZ] at hg
  refine one (hρ x (by simp[Op.operands])).cells hg zW fun O hO=>?_
  subst hO
  simp[execOp,ho,Instr.box,newVar,newRow,ptrTo]
 case buildSlice t len parts=>
  split at hc<;>try (cases hc; done)
  rename_i e hu
  split at hc<;>try (cases hc; done)
  rename_i z s hz hlen
  split at hc<;>try (cases hc; done)
  rename_i ps hps hs
  cases hc; rw[XA.gJ] at hg
  rw[List.map_map] at hg
  obtain ⟨hz1,wA,LQ,JM⟩:=j0 hz
  obtain ⟨v,inf,hi,LP,hzl,hb⟩:=gr hz1
  have hlen:=ck hlen
  have hs:=ck hs
  obtain ⟨r,r',g1,g2,g3⟩:=uf (φ:=φ) hfl tm ρ _ parts.toList ps hps (fun p B3=>hρ p.2 (by simp[Op.operands]; exact ⟨p.1,by simpa using B3⟩)) _ _ (iq (jb hb len)) _ hg
  refine one g2 g1 (uj (Nat.le_refl _) (by rw[jj]; omega)) fun O hO=>?_
  subst hO
  have h1:¬len*s > 2 ^ 24:=by
   have:len*s≤10000*1000:=Nat.mul_le_mul hlen hs
   omega
  have hsize:v.cells.size=s:=by rw[←LQ,hzl]; simp
  have h2:(if len*s=0 then (#[]:Array Value) else v.cells)=(if len*s=0 then #[] else v.cells):=rfl
  have h3:(Array.range (len*s)).map (fun i=>v.cells[i % v.cells.size]!)=(aU z len).toArray:=by
   rw[ru v.cells len (len*s) (by rw[hsize]),hzl]
  have Qq:Instr.fill (fun i=>some (i*s,s)) (aU z len).toArray (parts.toList.map fun p=>(p.1,ρ p.2))=some r'.toArray:=g3
  by_cases h0:len*s=0
  ·have hl0:len=0:=by rcases Nat.mul_eq_zero.1 h0 with h | h<;>omega
   subst hl0
   simp[aU] at Qq
   simp[execOp,ho,Instr.buildSlice,aO hu,b_ wA,Qq,newRow,sliceTo,Array.range_zero']
  ·simp[execOp,ho,Instr.buildSlice,aO hu,b_ wA,h1,h0,gQ hi LP,h3,Qq,newRow,sliceTo]
 case makeMap t r=>
  have fin:good (κ (.map [] 0) iB)→(execOp ρ o).run P w=.ok (.value (iB w.heap.size)) (w.alloc (.map #[] 0))→
    ∃ob mk O,good (κ ob mk)∧ob.live∧(∀pl,OR P φ ob pl (some O))∧Names mk∧(execOp ρ o).run P w=.ok (.value (mk w.heap.size)) (w.alloc O):=
   fun g1 g2=>⟨_,iB,.map #[] 0,g1,trivial,fun pl=>⟨rfl,.nil⟩,JK,g2⟩
  split at hc
  ·cases hc; rw[XA.LH] at hg
   exact fin hg (by simp[execOp,ho,Instr.makeMap,iB])
  ·rename_i x
   split at hc<;>try (cases hc; done)
   rename_i hu
   cases hc; rw[XA.bZ] at hg
   split at hg<;>try exact absurd hg hfl
   rename_i k n hx
   have hv:=hρ x (by simp[Op.operands])
   rw[hx] at hv
   generalize hy:ρ x=y at hv
   cases hv
   exact fin hg (by simp[execOp,ho,Instr.makeMap,iB,aO hu,hy,asInt,asIntOf])
 case makeSlice t l c=>
  split at hc<;>try (cases hc; done)
  rename_i e hu
  split at hc<;>try (cases hc; done)
  rename_i z s inf hz hi
  split at hc<;>try (cases hc; done)
  rename_i hbytes
  have hbytes:=ck hbytes
  cases hc; rw[XA.cU] at hg
  split at hg<;>try exact absurd hg hfl
  rename_i k1 l' k2 c' hl FJ
  split at hg<;>try exact absurd hg hfl
  rename_i hle UP
  have hle:=ck hle
  have UP:=ck UP
  have UQ:=hρ l (by simp[Op.operands])
  have Qs:=hρ c (by simp[Op.operands])
  rw[hl] at UQ
  rw[FJ] at Qs
  generalize hy1:ρ l=y1 at UQ
  generalize hy2:ρ c=y2 at Qs
  cases UQ; cases Qs
  obtain ⟨hz1,wA,LQ,JM⟩:=j0 hz
  obtain ⟨v,UR,hi',LP,hzl,hb⟩:=gr hz1
  rw[hi] at hi'; cases hi'
  refine one (iq (jb hb c')) hg (uj hle (by rw[jj]; omega)) fun O hO=>?_
  subst hO
  have w1:IntKind.i64.wrap (l':Int)=l':=IntWalk.i64_in _ ⟨by omega,by omega⟩
  have w2:IntKind.i64.wrap (c':Int)=c':=IntWalk.i64_in _ ⟨by omega,by omega⟩
  have hbc:(inf.bytes:Int)*(c':Int)≤2 ^ 48:=by
   have:inf.bytes*c'≤1000000*1000000:=Nat.mul_le_mul hbytes UP
   have h2:(inf.bytes:Int)*(c':Int)=((inf.bytes*c':Nat):Int):=by simp
   rw[h2]
   omega
  have hsize:v.cells.size=s:=by rw[←LQ,hzl]; simp
  have c1:decide ((c':Int)<0)=false:=decide_eq_false (by omega)
  have c2:decide ((inf.bytes:Int)*(c':Int) > 2 ^ 48)=false:=decide_eq_false (by omega)
  have c3:¬((l':Int)<0):=by omega
  have c4:¬((l':Int) > (c':Int)):=by omega
  have h3:(Array.range (c'*s)).map (fun i=>v.cells[i % v.cells.size]!)=(aU z c').toArray:=by
   rw[ru v.cells c' (c'*s) (by rw[hsize]),hzl]
  have hA:(asInt (.int k1 (l':Int))).run P w=.ok (l':Int) w:=by simp[asInt,asIntOf]
  have hB:(asInt (.int k2 (c':Int))).run P w=.ok (c':Int) w:=by simp[asInt,asIntOf]
  have hrun:(Instr.makeSlice t (.int k1 (l':Int)) (.int k2 (c':Int))).run P w=.ok (sliceTo l' c' w.heap.size) (w.alloc (.cells (aU z c').toArray e (0,0))):=by
   unfold Instr.makeSlice
   simp only[Sem.run_bind,aO hu,Result.andThen_ok,hA,hB,om hi,w1,w2]
   simp only[c1,c2,Bool.or_self,c3,c4]
   by_cases h0:c'*s=0
   ·have hc0:c'=0:=by rcases Nat.mul_eq_zero.1 h0 with h | h<;>omega
    subst hc0
    simp[b_ wA,newRow,sliceTo,aU,Array.range_zero']
   ·have h3':(Array.range (c'*s)).map (fun i=>v.cells[i % v.cells.size]!)=(aU z c').toArray:=h3
    simp[b_ wA,h0,gQ hi LP,h3',newRow,sliceTo]
  simp only[execOp,ho,hy1,hy2]
  exact iQ hrun
theorem jl (hfl:¬good fl) (n:Nat):∀(vs:List Value) (c:T Value) (off:Nat) (κ:T Value→β),good (lN fl n vs c off κ)→
  (∀v∈vs,cZ v=true)∧(vs≠[]→off+vs.length≤n)∧good (κ (lay vs c off)):=by
 intro vs
 induction vs with
 | nil=>intro c off κ hg; exact ⟨fun v hv=>(by cases hv),fun hh=>absurd rfl hh,hg⟩
 | cons v vs ih=>
  intro c off κ hg
  have hg':good (Bool.rec (motive:=fun _=>β) fl (Bool.rec (motive:=fun _=>β) fl (T.set c off v fun c=>lN fl n vs c (Nat.succ off) κ) (Nat.ble (Nat.succ off) n)) (cZ v)):=hg
  cases h1:cZ v with
  | false=>rw[h1] at hg'; exact absurd hg' hfl
  | true=>
   rw[h1] at hg'
   cases h2:Nat.ble (Nat.succ off) n with
   | false=>rw[h2] at hg'; exact absurd hg' hfl
   | true=>
    rw[h2] at hg'
    simp only[T.fC] at hg'
    obtain ⟨g1,g2,g3⟩:=ih _ _ _ hg'
    refine ⟨fun u hu=>?_,fun _=>?_,g3⟩
    ·simp at hu; rcases hu with rfl | hu
     ·exact h1
     ·exact g1 u hu
    ·have:=ck h2
     cases vs with
     | nil=>simp; omega
     | cons x vs=>have:=g2 (by simp); simp at this ⊢; omega
theorem HO {v v':Value} (h1:cZ v=true) (hv:VR φ v v'):v'.oneCell'=true:=by
 cases hv<;>first | rfl | (simp[cZ] at h1)
theorem HR.rowAt (hr:HR P φ h w) {b n e:Nat} {c:T Value} {op:Bool} {pl:Pl} (hb:h.bl.get b=some (.cells n c e op)) (hp:φ b=some pl) :
  ∃C,w.heap[pl.B]? = some (.cells C e (0,0))∧n≤C.size∧n≤4611686018427387904∧(op=true→C.size=pl.sz∧er P e=some pl.e∧0<pl.e)∧∀i v,c.get i=some v→i<n→∃v',C[i]? = some v'∧VR φ v v':=by
 have:=hr.obj b _ pl hb hp
 cases hO:w.heap[pl.B]? with
 | none=>rw[hO] at this; exact this.elim
 | some O=>
  rw[hO] at this
  cases O<;>simp only[OR] at this<;>try exact this.elim
  obtain ⟨rfl,rfl,h3,h4,h5,h6⟩:=this
  exact ⟨_,rfl,h3,h4,h5,h6⟩
theorem Ck (hr:HR P φ h w) {b:Nat} (hb:b≤h.nx):Small b:=by have:=hr.LI; unfold Small; omega
theorem HR.kU (hr:HR P φ h w) {b:Nat} (hlo:h.lo≤b) {o:bC} {pl:Pl} (hp:φ b=some pl) (aar:∃q,h.bl.get b=some q∧q.live) {w':World}
  (hsz:w'.heap.size=w.heap.size) (Cl:∀k,k≠pl.B→w'.heap[k]? = w.heap[k]?)
  (ho:OR P φ o pl w'.heap[pl.B]?) (ht:w'.tape=w.tape) (hos:w'.os=w.os) (hout:w'.output=w.output) (hu:o.live∨(UF w.heap[pl.B]?→UF w'.heap[pl.B]?)) (HS:w.drawn≤w'.drawn:=by exact Nat.le_refl _) :
  HR P φ ⟨h.nx,h.bl.aT b o,h.lo⟩ w'∧Ext φ φ h ⟨h.nx,h.bl.aT b o,h.lo⟩ w w':=by
 have B4:=(hr.dom b pl hp).1
 have hsb:Small b:=Ck hr (Nat.le_of_lt B4)
 have gK:∀x,x<h.nx→x≠b→(h.bl.aT b o).get x=h.bl.get x:=fun x hx Tl=>T.fS _ _ hsb (Ck hr (Nat.le_of_lt hx)) (Ne.symm Tl)
 obtain ⟨q,hq1,B5⟩:=aar
 constructor
 ·refine ⟨?_,?_,?_,hr.LI,?_,hr.lo⟩
  ·intro x o' kS hx A1
   by_cases Tl:x=b
   ·subst Tl
    rw[hp] at A1; cases A1
    rw[T.af] at hx; cases hx
    exact ho
   ·have Tm:=(hr.dom x kS A1).1
    have hx':h.bl.get x=some o':=(gK x Tm Tl)▸hx
    by_cases hB:kS.B=pl.B
    ·
     have hd:¬o'.live:=fun hl=>Tl (hr.inj x b o' q kS pl hx' hq1 hl B5 A1 hp hB)
     have h1:=hr.obj x o' kS hx' A1
     cases o' with
     | dead n e=>
      have h2:n≤kS.sz∧n≤4611686018427387904∧er P e=some kS.e∧0<kS.e:=by
       cases hO:w.heap[kS.B]? with
       | none=>rw[hO] at h1; exact h1
       | some O=>rw[hO] at h1; cases O<;>exact h1
      cases w'.heap[kS.B]? with
      | none=>exact h2
      | some O=>cases O<;>exact h2
     | cells=>exact absurd trivial hd
     | map=>exact absurd trivial hd
     | dM=>exact absurd trivial hd
     | Ti=>exact absurd trivial hd
     | loop=>exact absurd trivial hd
     | ro=>exact absurd trivial hd
    ·rw[Cl _ hB]; exact hr.obj x o' kS hx' A1
  ·intro x kS A1; have:=hr.dom x kS A1; exact ⟨this.1,by rw[hsz]; exact this.2⟩
  ·intro x o' hsx hx
   show x<h.nx
   rw[T.kZ _ _ hsb hsx] at hx
   split at hx
   ·rename_i he; subst he; exact B4
   ·exact hr.keys x o' hsx hx
  ·intro x x' o1 o2 pl1 pl2 g1 g2 l1 l2 p1 p2 e
   have n1:=(hr.dom x pl1 p1).1
   have n2:=(hr.dom x' pl2 p2).1
   have key:∀y oy py,y<h.nx→(h.bl.aT b o).get y=some oy→oy.live→φ y=some py→∃o',h.bl.get y=some o'∧o'.live:=by
    intro y oy py hy gy ly _
    by_cases hyb:y=b
    ·subst hyb; exact ⟨q,hq1,B5⟩
    ·exact ⟨oy,(gK y hy hyb)▸gy,ly⟩
   obtain ⟨q1,a1,b1⟩:=key x o1 pl1 n1 g1 l1 p1
   obtain ⟨q2,a2,b2⟩:=key x' o2 pl2 n2 g2 l2 p2
   exact hr.inj x x' q1 q2 pl1 pl2 a1 a2 b1 b2 p1 p2 e
 ·refine ⟨Sub.refl φ,fun b pl a b'=>(by rw[a] at b'; cases b'),Nat.le_refl _,by rw[hsz]; exact Nat.le_refl _,?_,?_,ht,hos,hout,?_,rfl,fun x hx=>gK x (Nat.lt_of_lt_of_le hx hr.lo) (by omega),fun x o kS h1 h2 h3 h4 h5=>Cl kS.B fun e=>absurd (hr.inj x b o q kS pl h2 hq1 h3 B5 h4 hp e) (by omega),HS⟩
  ·intro B _ hn; exact Cl B fun e=>hn b pl hp e.symm
  ·intro x hx hn
   exact gK x hx fun e=>by subst e; rw[hp] at hn; cases hn
  ·intro B hB
   by_cases he:B=pl.B
   ·subst he
    rcases hu with hu | hu
    ·exact rj ho hu
    ·exact hu hB
   ·rw[Cl B he]; exact hB
theorem HR.storeAt (hr:HR P φ h w) {b n e off:Nat} (hlo:h.lo≤b) {c:T Value} {op:Bool} {pl:Pl} (hb:h.bl.get b=some (.cells n c e op)) (hp:φ b=some pl) {vs vs':List Value} (hv:F2 (VR φ) vs vs')
  (h1:∀v∈vs,cZ v=true) (h2:vs≠[]→off+vs.length≤n) :
  ∃w',(storeCells ⟨pl.B,off,none⟩ vs').run P w=.ok () w'∧HR P φ ⟨h.nx,h.bl.aT b (.cells n (lay vs c off) e op),h.lo⟩ w'∧Ext φ φ h ⟨h.nx,h.bl.aT b (.cells n (lay vs c off) e op),h.lo⟩ w w':=by
 obtain ⟨C,hC,uT,hn2,hop,hcell⟩:=hr.rowAt hb hp
 have hlen:=hv.length
 have hone:∀v'∈vs',v'.oneCell'=true:=by
  intro v' ud
  obtain ⟨i,hi⟩:=List.getElem?_of_mem ud
  have hi':i<vs'.length:=(List.getElem?_eq_some_iff.1 hi).1
  have:∃v,vs[i]? = some v:=⟨vs[i]'(by omega),List.getElem?_eq_getElem (by omega)⟩
  obtain ⟨v,hvi⟩:=this
  obtain ⟨u,LR,US⟩:=hv.get i v hvi
  rw[hi] at LR; cases LR
  exact HO (h1 v (List.mem_of_getElem? hvi)) US
 cases hvs:vs with
 | nil=>
  subst hvs
  cases hv
  refine ⟨w,by simp[storeCells],?_⟩
  have:=hr.kU hlo (o:=.cells n (lay [] c off) e op) hp ⟨_,hb,trivial⟩ (w':=w) rfl (fun _ _=>rfl) (by rw[hC]; exact ⟨rfl,rfl,uT,hn2,hop,hcell⟩) rfl rfl rfl (.inl trivial)
  exact this
 | cons v0 vs0=>
  have hne:vs≠[]:=by rw[hvs]; simp
  have hle:=h2 hne
  rw[←hvs]
  have hrun:=run_storeCells_at P pl.B off e vs' 0 C w hC (by simp; omega) hone
  simp only[Nat.add_zero] at hrun
  refine ⟨_,hrun,?_⟩
  refine hr.kU hlo hp ⟨_,hb,trivial⟩ (setRow_size _ _ _) (fun k hk=>setRow_other _ _ _ _ hk) ?_ rfl rfl rfl (.inl trivial)
  rw[setRow_heap w pl.B C _ e _ hC]
  refine ⟨rfl,rfl,by simp; omega,hn2,fun h=>?_,?_⟩
  ·obtain ⟨k1,k2,k3⟩:=hop h
   refine ⟨?_,k2,k3⟩
   simp
   omega
  ·intro i v ku hi
   rw[rq vs c off (by omega) i (Ch (Nat.le_of_lt hi) hn2)] at ku
   split at ku
   ·rename_i hin
    obtain ⟨v',g1,g2⟩:=hv.get _ v ku
    refine ⟨v',?_,g2⟩
    simp only[List.getElem?_toArray,List.append_assoc]
    rw[List.getElem?_append_right (by simp; omega),List.getElem?_append_left (by simp; omega)]
    rw[←g1]; congr 1; simp; omega
   ·rename_i ake
    obtain ⟨v',g1,g2⟩:=hcell i v ku hi
    refine ⟨v',?_,g2⟩
    simp only[List.getElem?_toArray,List.append_assoc]
    rcases Nat.lt_or_ge i off with hlt | hge
    ·rw[List.getElem?_append_left (by simp; omega),List.getElem?_take_of_lt hlt]; simpa using g1
    ·rw[List.getElem?_append_right (by simp; omega),List.getElem?_append_right (by simp; omega),List.getElem?_drop]
     have:off+vs'.length+(i-(List.take off C.toList).length-vs'.length)=i:=by simp; omega
     rw[this]; simpa using g1
end Go.Vai

namespace Go.Vai
open Go
variable {β:Type} {fl:β} {good:β→Prop} {P:Program} {φ:dG} {h:Heap} {w:World} {t:TypeId}
def UT (nx:Next) (v:Value):Prop:=nx=.value v∨(nx=.skip∧v=undef)
def Qt (good:β→Prop) (P:Program) (φ:dG) (h:Heap) (w:World) (κ:Value→Heap→β) (r:Result Next):Prop:=
 ∃φ' v v' h' w' nx,good (κ v h')∧VR φ' v v'∧HR P φ' h' w'∧Ext φ φ' h h' w w'∧r=.ok nx w'∧UT nx v'
theorem bz (hfl:¬good fl) {b:Nat} {o:bC} {κ:Heap→β} (hg:good (setBlock fl b o h κ)):h.lo≤b∧good (κ ⟨h.nx,h.bl.aT b o,h.lo⟩):=by
 unfold setBlock at hg
 split at hg
 ·rename_i hle
  rw[T.fC] at hg
  exact ⟨ck hle,hg⟩
 ·exact absurd hg hfl
theorem A2 (hfl:¬good fl) {s:Nat} (hs:er P t=some s) (hr:HR P φ h w) {a a' x x':Value} {κ:Value→Heap→β} (hg:good (aI fl s a x h κ)) (ha:VR φ a a') (hx:VR φ x x') :
  ∃h' w',good (κ undef h')∧HR P φ h' w'∧Ext φ φ h h' w w'∧(Instr.storeAt t a' x').run P w=.ok () w':=by
 unfold aI at hg
 split at hg<;>try exact absurd hg hfl
 cases ha with
 | ptr hp=>
  split at hg<;>try exact absurd hg hfl
  rename_i n c e op hb
  split at hg<;>try exact absurd hg hfl
  rename_i hl; have hl:=bY hl
  obtain ⟨g1,g2,g3⟩:=jl hfl _ _ _ _ _ hg
  obtain ⟨hlo,g3⟩:=bz hfl g3
  obtain ⟨w',k1,k2,k3⟩:=hr.storeAt hlo hb hp hx.cells g1 g2
  refine ⟨_,w',g3,k2,k3,?_⟩
  have hsz:x'.cells.size=s:=by have:=hx.cells.length; simp at this hl; omega
  simp[Instr.storeAt,Instr.sureAddr,storeVar,b_ hs,hsz,k1]
theorem ot (x:MapEntry) (es:List MapEntry) (κ:List MapEntry→β):B_ x es κ=κ (es++[x]):=by
 induction es generalizing κ with
 | nil=>rfl
 | cons e es ih=>simp only[B_,ih,List.cons_append]
theorem ry (f:MapEntry→MapEntry):∀(i:Nat) (es:List MapEntry) (κ:List MapEntry→β),setAt f i es κ=κ (es.modify i f):=by
 intro i es
 induction es generalizing i with
 | nil=>intro κ; cases i<;>simp[setAt]
 | cons e es ih=>intro κ; cases i<;>simp[setAt,ih]
theorem wB:∀(i:Nat) (es:List MapEntry) (κ:List MapEntry→β),zM i es κ=κ (es.eraseIdx i):=by
 intro i es
 induction es generalizing i with
 | nil=>intro κ; cases i<;>simp[zM]
 | cons e es ih=>intro κ; cases i<;>simp[zM,ih]
theorem HR.wC (hr:HR P φ h w) {b clock clock':Nat} (hlo:h.lo≤b) {es es1:List MapEntry} {F0:Array MapEntry} {pl:Pl} (hb:h.bl.get b=some (.map es clock)) (hp:φ b=some pl)
  (h1:F2 (ER φ) es1 F0.toList) :
  ∃w',(setObj pl.B (.map F0 clock')).run P w=.ok () w'∧HR P φ ⟨h.nx,h.bl.aT b (.map es1 clock'),h.lo⟩ w'∧Ext φ φ h ⟨h.nx,h.bl.aT b (.map es1 clock'),h.lo⟩ w w':=by
 obtain ⟨es',hO,h2⟩:=hr.qb hb hp
 have hlt:pl.B<w.heap.size:=(hr.dom b pl hp).2
 refine ⟨{ w with heap:=w.heap.setIfInBounds pl.B (.map F0 clock') },by simp[setObj,Sem.run,hO],?_⟩
 refine hr.kU hlo hp ⟨_,hb,trivial⟩ (by simp) (fun k hk=>?_) ?_ rfl rfl rfl (.inl trivial)
 ·show (w.heap.setIfInBounds pl.B (.map F0 clock'))[k]? = _
  exact Array.getElem?_setIfInBounds_ne (Ne.symm hk)
 ·show OR P φ _ pl ((w.heap.setIfInBounds pl.B (.map F0 clock'))[pl.B]?)
  rw[Array.getElem?_setIfInBounds_self_of_lt hlt]
  exact ⟨rfl,h1⟩
theorem F2.modify {α γ:Type} {R:α→γ→Prop} {f:α→α} {g:γ→γ} {l:List α} {m:List γ} (hl:F2 R l m) (hfg:∀a b,R a b→R (f a) (g b)) (i:Nat):F2 R (l.modify i f) (m.modify i g):=by
 induction hl generalizing i with
 | nil=>simp; exact .nil
 | cons hr ht ih=>cases i with
  | zero=>simp; exact .cons (hfg _ _ hr) ht
  | succ i=>simp; exact .cons hr (ih i)
theorem F2.eraseIdx {α γ:Type} {R:α→γ→Prop} {l:List α} {m:List γ} (hl:F2 R l m) (i:Nat):F2 R (l.eraseIdx i) (m.eraseIdx i):=by
 induction hl generalizing i with
 | nil=>simp; exact .nil
 | cons hr ht ih=>cases i with
  | zero=>simpa using ht
  | succ i=>simp; exact .cons hr (ih i)
theorem zi {a:Value} (hs:mj a=true):Instr.sameBits 10000 a a=true:=by
 have one:∀{n:Nat} {v:Value},jg v=true→Instr.sameBits n v v=true:=by
  intro n v hv
  cases v<;>simp[jg] at hv<;>simp[Instr.sameBits,Qp]
 cases a
 case agg cs=>
  simp only[mj] at hs
  simp only[Instr.sameBits,beq_self_eq_true,Bool.true_and]
  generalize cs.toList=l at hs
  induction l with
  | nil=>simp
  | cons v l ih=>simp only[List.all_cons,Bool.and_eq_true] at hs; simp[one hs.1]; simpa using ih hs.2
 all_goals exact one hs
theorem vt {f:Value→Value→Bool} (hf:∀a b,f a b=true→a=b):∀(l m:List Value),vO f l m=true→l=m:=by
 intro l
 induction l with
 | nil=>intro m hm; cases m<;>simp[vO] at hm; rfl
 | cons x l ih=>intro m hm; cases m with
  | nil=>simp[vO] at hm
  | cons y m=>simp only[vO,Bool.and_eq_true] at hm; rw[hf _ _ hm.1,ih _ hm.2]
theorem F4:∀(n:Nat) (a b:Value),jX n a b=true→a=b:=by
 intro n
 induction n with
 | zero=>intro a b hv; simp[jX] at hv
 | succ n ih=>
  intro a b hv
  simp only[jX] at hv
  split at hv<;>try (cases hv; done)
  ·simp at hv; rw[hv]
  ·simp[fm,fI] at hv; rw[hv.1,hv.2]
  ·simp[ji] at hv; rw[hv]
  ·rfl
  ·simp only[Bool.and_eq_true] at hv; rw[bY hv.1,bY hv.2]
  ·simp only[Bool.and_eq_true] at hv; rw[bY hv.1,bY hv.2]
  ·simp only[Bool.and_eq_true] at hv; obtain ⟨⟨⟨h1,h2⟩,h3⟩,h4⟩:=hv; rw[bY h1,bY h2,bY h3,bY h4]
  ·rfl
  ·rw[bY hv]
  ·rfl
  ·rfl
  ·simp only[Bool.and_eq_true] at hv; rw[bY hv.1,ih _ _ hv.2]
  ·congr 1; exact Array.ext' (vt ih _ _ hv)
  ·congr 1; exact Array.ext' (vt ih _ _ hv)
  ·simp only[Bool.and_eq_true] at hv; obtain ⟨⟨h1,h2⟩,h3⟩:=hv
   rw[bY h1,Array.ext' (vt ih _ _ h2),Array.ext' (vt ih _ _ h3)]
theorem mC (hfl:¬good fl) {kt et:TypeId} (hu:P.underlying t=some (.map kt et)) (hr:HR P φ h w) {m m' k k' x x':Value} {κ:Value→Heap→β}
  (hg:good (cw fl P kt m k x h κ)) (hm:VR φ m m') (hk:VR φ k k') (hx:VR φ x x') :
  ∃h' w',good (κ undef h')∧HR P φ h' w'∧Ext φ φ h h' w w'∧(Instr.mapUpdate t m' k' x').run P w=.ok () w':=by
 unfold cw at hg
 split at hg<;>try exact absurd hg hfl
 rename_i LO
 have hsc:=qy LO
 have hkk:=vl hsc hk
 subst hkk
 have B2:∀em,(Instr.checkKey em 10000 kt k').run P w=.ok () w:=fun em=>kr 20 10000 (by omega) kt k' em LO
 obtain ⟨u,Qr⟩:=sQ LO
 split at hg<;>try exact absurd hg hfl
 cases hm with
 | map hp=>
  rename_i pl
  split at hg<;>try exact absurd hg hfl
  rename_i es clock hb
  obtain ⟨es',hO,h2⟩:=hr.qb hb hp
  split at hg
  ·rename_i i e hf
   split at hg<;>try exact absurd hg hfl
   rename_i hes
   rw[ry] at hg
   obtain ⟨hlo,hg⟩:=bz hfl hg
   obtain ⟨r',g3,g4⟩:=dL hr hk es es'.toList 0 _ h2 hf
   cases r' with
   | none=>exact g4.elim
   | some p=>
    obtain ⟨i',v'⟩:=p
    obtain ⟨rfl,_,g6,_,_⟩:=g4
    simp only[Nat.sub_zero] at g6
    obtain ⟨e',uU,he2⟩:=h2.get _ _ g6
    have hke:=F4 3 _ _ hes
    have hkey:e'.key=k':=by
     have h3:=he2.key
     rw[←hke] at h3
     exact vl hsc h3
    have hsame:(Instr.keyThatStays (((es'[i']?).map (·.key)).getD k') k').run P w=.ok k' w:=by
     have:es'[i']? = some e':=by simpa using uU
     simp[Instr.keyThatStays,this,hkey,zi hsc]
    have hnew:F2 (ER φ) (es.modify i' fun e=>{ e with key:=k',val:=x }) (es'.modify i' fun e=>{ e with key:=k',val:=x' }).toList:=by
     rw[Array.toList_modify]
     exact h2.modify (f:=fun e=>{ e with key:=k',val:=x }) (g:=fun e=>{ e with key:=k',val:=x' }) (fun a b hab=>⟨hk,hx,hab.born⟩) i'
    obtain ⟨w',k1,k2,k3⟩:=hr.wC hlo (clock':=clock) hb hp hnew
    refine ⟨_,w',hg,k2,k3,?_⟩
    simp[Instr.mapUpdate,aO hu,c_ hO,B2,fU Qr g3,hsame,k1]
  ·rename_i hf
   rw[ot,bT] at hg
   obtain ⟨hlo,hg⟩:=bz hfl hg
   obtain ⟨r',g3,g4⟩:=dL hr hk es es'.toList 0 _ h2 hf
   cases r' with
   | some p=>exact g4.elim
   | none=>
    have hnew:F2 (ER φ) (es++[{ key:=k',val:=x,born:=clock }]) (es'.push { key:=k',val:=x',born:=clock }).toList:=by
     rw[Array.toList_push]
     exact h2.append (.cons ⟨hk,hx,rfl⟩ .nil)
    obtain ⟨w',k1,k2,k3⟩:=hr.wC hlo (clock':=clock+1) hb hp hnew
    refine ⟨_,w',hg,k2,k3,?_⟩
    simp[Instr.mapUpdate,aO hu,c_ hO,B2,fU Qr g3,k1]
  ·exact absurd hg hfl
end Go.Vai

namespace Go.Vai
open Go
variable {β:Type} {fl:β} {good:β→Prop} {P:Program} {φ:dG} {h:Heap} {w:World} {t:TypeId}
theorem zj (hfl:¬good fl) {kt et ty:TypeId} {ts:Array TypeId} (ht:ts[0]? = some t) (hu:P.underlying t=some (.map kt et)) (hr:HR P φ h w) {m m' k k':Value} {κ:Value→Heap→β}
  (hg:good (kW fl P kt m k h κ)) (hm:VR φ m m') (hk:VR φ k k') :
  ∃h' w',good (κ (.tuple #[]) h')∧HR P φ h' w'∧Ext φ φ h h' w w'∧(Builtin.delete_ ts ty #[m',k']).run P w=.ok (.tuple #[]) w':=by
 unfold kW at hg
 split at hg<;>try exact absurd hg hfl
 rename_i LO
 have hsc:=qy LO
 have hkk:=vl hsc hk
 subst hkk
 have B2:∀em,(Instr.checkKey em 10000 kt k').run P w=.ok () w:=fun em=>kr 20 10000 (by omega) kt k' em LO
 obtain ⟨u,Qr⟩:=sQ LO
 cases hm<;>try exact absurd hg hfl
 ·exact ⟨h,w,hg,hr,Ext.refl _ _ _,by simp[Builtin.delete_,ht,aO hu,B2]⟩
 ·rename_i r pl hp
  simp only at hg
  split at hg<;>try exact absurd hg hfl
  rename_i es clock hb
  obtain ⟨es',hO,h2⟩:=hr.qb hb hp
  split at hg
  ·rename_i i e hf
   rw[wB] at hg
   obtain ⟨hlo,hg⟩:=bz hfl hg
   obtain ⟨r',g3,g4⟩:=dL hr hk es es'.toList 0 _ h2 hf
   cases r' with
   | none=>exact g4.elim
   | some p=>
    obtain ⟨i',v'⟩:=p
    obtain ⟨rfl,_,g6,_,_⟩:=g4
    have hnew:F2 (ER φ) (es.eraseIdx i') (es'.eraseIdxIfInBounds i').toList:=by
     have:(es'.eraseIdxIfInBounds i').toList=es'.toList.eraseIdx i':=by
      unfold Array.eraseIdxIfInBounds
      split
      ·simp
      ·rename_i hn; rw[List.eraseIdx_of_length_le (by simpa using hn)]
     rw[this]
     exact h2.eraseIdx i'
    obtain ⟨w',k1,k2,k3⟩:=hr.wC hlo (clock':=clock) hb hp hnew
    exact ⟨_,w',hg,k2,k3,by simp[Builtin.delete_,ht,aO hu,c_ hO,B2,fU Qr g3,k1]⟩
  ·rename_i hf
   obtain ⟨r',g3,g4⟩:=dL hr hk es es'.toList 0 _ h2 hf
   cases r' with
   | some p=>exact g4.elim
   | none=>
    have aau:(setObj pl.B (.map es' clock)).run P w=.ok () w:=by
     have hlt:pl.B<w.heap.size:=(hr.dom r pl hp).2
     simp[setObj,Sem.run,hO]
     have:w.heap.setIfInBounds pl.B (.map es' clock)=w.heap:=by
      apply Array.ext_getElem?
      intro i
      by_cases hi:i=pl.B
      ·subst hi; rw[Array.getElem?_setIfInBounds_self_of_lt hlt,hO]
      ·rw[Array.getElem?_setIfInBounds_ne (Ne.symm hi)]
     rw[this]
    exact ⟨h,w,hg,hr,Ext.refl _ _ _,by simp[Builtin.delete_,ht,aO hu,c_ hO,B2,fU Qr g3,aau]⟩
  ·exact absurd hg hfl
theorem HR.F5 (hr:HR P φ h w) {b since stepped:Nat} {m:Option Nat} {seen:List Nat} {pl:Pl} (hb:h.bl.get b=some (.dM m since seen stepped)) (hp:φ b=some pl) :
  ∃m' seen',w.heap[pl.B]? = some (.mapIter m' since seen' stepped)∧seen'.toList=seen.reverse∧((m=none∧m'=none)∨∃b kS,m=some b∧φ b=some kS∧m'=some kS.B):=by
 have:=hr.obj b _ pl hb hp
 cases hO:w.heap[pl.B]? with
 | none=>rw[hO] at this; exact this.elim
 | some O=>
  rw[hO] at this
  cases O<;>simp only[OR] at this<;>try exact this.elim
  obtain ⟨rfl,rfl,h3,h4⟩:=this
  exact ⟨_,_,rfl,h3,h4⟩
theorem A3 (hfl:¬good fl) {kt et:TypeId} (hu:P.underlying t=some (.map kt et)) (hr:HR P φ h w) {x x':Value} {κ:Value→Heap→β} (hg:good (m_ fl x h κ)) (hx:VR φ x x') :
  ∃φ' v v' h' w',good (κ v h')∧VR φ' v v'∧HR P φ' h' w'∧Ext φ φ' h h' w w'∧(Instr.range t x').run P w=.ok v' w':=by
 unfold m_ at hg
 split at hg<;>try exact absurd hg hfl
 ·cases hx
  obtain ⟨hn,g1⟩:=cI hfl hg
  obtain ⟨k1,k2⟩:=hr.fresh (o:=.dM none 0 [] 0) (O:=.mapIter none 0 #[] 0) hn 0 0 ⟨rfl,rfl,rfl,.inl ⟨rfl,rfl⟩⟩ trivial
  exact ⟨_,_,.pointer (some ⟨w.heap.size,0,none⟩),_,_,g1,.ptr (dO _ _ _),k1,k2,by simp[Instr.range,aO hu]⟩
 ·split at hg<;>try exact absurd hg hfl
  rename_i r _ es clock hb
  cases hx with
  | map hp=>
   rename_i pl
   obtain ⟨es',hO,h2⟩:=hr.qb hb hp
   obtain ⟨hn,g1⟩:=cI hfl hg
   obtain ⟨k1,k2⟩:=hr.fresh (o:=.dM (some r) clock [] clock) (O:=.mapIter (some pl.B) clock #[] clock) hn 0 0 ⟨rfl,rfl,rfl,.inr ⟨r,pl,rfl,hp,rfl⟩⟩ trivial
   exact ⟨_,_,.pointer (some ⟨w.heap.size,0,none⟩),_,_,g1,.ptr (dO _ _ _),k1,k2,by simp[Instr.range,aO hu,c_ hO]⟩
theorem k_ {B:Nat} {m:Option Nat} {since stepped:Nat} {seen:Array Nat} (hO:w.heap[B]? = some (.mapIter m since seen stepped)):(getObj B).run P w=.ok (.mapIter m since seen stepped) w:=by
 simp[getObj,Sem.run,hO]
theorem F2.filter {α γ:Type} {R:α→γ→Prop} {f:α→Bool} {g:γ→Bool} {l:List α} {m:List γ} (hl:F2 R l m) (hfg:∀a b,R a b→f a=g b):F2 R (l.filter f) (m.filter g):=by
 induction hl with
 | nil=>exact .nil
 | @cons a b l m hr _ ih=>
  simp only[List.filter_cons,hfg a b hr]
  split
  ·exact .cons hr ih
  ·exact ih
theorem F2.allEq {α γ:Type} {R:α→γ→Prop} {f:α→Bool} {g:γ→Bool} {l:List α} {m:List γ} (hl:F2 R l m) (hfg:∀a b,R a b→f a=g b):l.all f=m.all g:=by
 induction hl with
 | nil=>rfl
 | cons hr _ ih=>simp[hfg _ _ hr,ih]
theorem UU (a b:Nat):Nat.beq a b=(a == b):=by rw[Bool.eq_iff_iff]; simp
theorem UW (a b:Nat):Nat.ble a b=decide (a≤b):=by rw[Bool.eq_iff_iff]; simp[Nat.ble_eq]
theorem A4 (hfl:¬good fl) {both:β→β→β} (LS:∀x y,good (both x y)→good x∧good y) {b m since clock:Nat} {seen:List Nat} {κ:Value→Heap→β}:∀(es:List MapEntry) (e:MapEntry),
  good (kX fl both b m since seen clock h κ e es)→∀(i:Nat) (x:MapEntry),(e::es)[i]? = some x→x.born<since∧h.lo≤b∧good (κ (.tuple #[.bool true,x.key,x.val]) ⟨h.nx,h.bl.aT b (.dM (some m) since (x.born::seen) clock),h.lo⟩):=by
 intro es
 induction es with
 | nil=>
  intro e hg i x hx
  unfold kX at hg
  split at hg<;>try exact absurd hg hfl
  rename_i hle
  obtain ⟨hlo,hg⟩:=bz hfl hg
  cases i with
  | zero=>simp at hx; subst hx; exact ⟨ck hle,hlo,hg⟩
  | succ i=>simp at hx
 | cons e' es ih=>
  intro e hg i x hx
  unfold kX at hg
  split at hg<;>try exact absurd hg hfl
  rename_i hle
  obtain ⟨g1,g2⟩:=LS _ _ hg
  obtain ⟨hlo,g1⟩:=bz hfl g1
  cases i with
  | zero=>simp at hx; subst hx; exact ⟨ck hle,hlo,g1⟩
  | succ i=>exact ih e' g2 i x (by simpa using hx)
theorem HR.drew (hr:HR P φ h w):HR P φ h w.drew:=⟨hr.obj,hr.dom,hr.keys,hr.LI,hr.inj,hr.lo⟩
theorem Ext.drew {φ':dG} {h':Heap} {w':World} (hx:Ext φ φ' h h' w w'):Ext φ φ' h h' w w'.drew:=⟨hx.sub,hx.new,hx.nx,hx.size,hx.ze,hx.B1,hx.tape,hx.os,hx.output,hx.fz,hx.lo,hx.FH,hx.FI,Nat.le_succ_of_le hx.dr⟩
theorem Ext.UX {φ':dG} {h':Heap} {w':World} (hx:Ext φ φ' h h' w.drew w'):Ext φ φ' h h' w w':=⟨hx.sub,hx.new,hx.nx,hx.size,hx.ze,hx.B1,hx.tape,hx.os,hx.output,hx.fz,hx.lo,hx.FH,hx.FI,Nat.le_of_succ_le hx.dr⟩
theorem uV (n:Nat) (hn:0<n) (w:World):∃k w',k<n∧(w'=w∨w'=w.drew)∧(choose (.mapNext n)).run P w=.ok k w':=by
 by_cases h1:n≤1
 ·refine ⟨0,w,hn,.inl rfl,?_⟩
  simp[Question.forced,h1]
 ·refine ⟨(Question.mapNext n).cut (w.tape w.drawn (.mapNext n)),w.drew,Nat.mod_lt _ hn,.inr rfl,?_⟩
  simp[choose,Sem.run,Question.forced,h1]
theorem Cm (hfl:¬good fl) {both:β→β→β} (LS:∀x y,good (both x y)→good x∧good y) {ty:TypeId} (hr:HR P φ h w) {x x':Value} {κ:Value→Heap→β} (hg:good (p9 fl both x h κ)) (hx:VR φ x x') :
  ∃v v' h' w',good (κ v h')∧VR φ v v'∧HR P φ h' w'∧Ext φ φ h h' w w'∧(Instr.next x' false ty).run P w=.ok v' w':=by
 unfold p9 at hg
 split at hg<;>try exact absurd hg hfl
 cases hx with
 | ptr hp=>
  rename_i b pl
  split at hg<;>try exact absurd hg hfl
  ·rename_i since seen stepped hb
   obtain ⟨m',seen',hO,_,h4⟩:=hr.F5 hb hp
   rcases h4 with ⟨_,rfl⟩ | ⟨b1,kS,h5,_⟩
   ·exact ⟨_,.tuple #[.bool false],h,w,hg,VR.tuple' (.cons (.bool false) .nil),hr,Ext.refl _ _ _,by simp[Instr.next,k_ hO]⟩
   ·cases h5
  ·rename_i m since seen last hb
   obtain ⟨m',seen',hO,Cn,h4⟩:=hr.F5 hb hp
   rcases h4 with ⟨h5,_⟩ | ⟨b1,kS,h5,hp',rfl⟩
   ·cases h5
   ·cases h5
    split at hg<;>try exact absurd hg hfl
    rename_i es clock hm
    obtain ⟨es',Tn,h2⟩:=hr.qb hm hp'
    split at hg<;>try exact absurd hg hfl
    rename_i aeX
    have aav:∀e e':MapEntry,ER φ e e'→(!seen.any (Nat.beq e.born))=(!seen'.contains e'.born):=by
     intro e e' he
     rw[he.born]
     congr 1
     rw[←Array.contains_toList,Cn,Bool.eq_iff_iff]
     simp
    have hleft:F2 (ER φ) (es.filter fun e=>!seen.any (Nat.beq e.born)) (es'.filter fun e=>!seen'.contains e.born).toList:=by
     rw[Array.toList_filter]
     exact h2.filter aav
    have Qu:seen'.isEmpty=seen.isEmpty:=by
     have:seen'.toList.isEmpty=seen.isEmpty:=by rw[Cn]; simp
     rw[←this]; simp
    have aeY:es'.isEmpty=es.isEmpty:=by
     have:es'.toList.isEmpty=es.isEmpty:=by generalize es'.toList=L at h2; cases h2<;>rfl
     rw[←this]; simp
    have hall:es'.all (fun e=>decide (e.born≥last))=es.all (fun e=>Nat.ble last e.born):=by
     rw[←Array.all_toList]
     exact (h2.allEq fun a b hab=>by rw[hab.born,UW]).symm
    have To:(!seen'.isEmpty && !es'.isEmpty && es'.all (fun e=>decide (e.born≥last)))=false:=by
     rw[Qu,aeY,hall]; exact aeX
    split at hg
    ·
     rename_i hnil
     rw[hnil] at hleft
     have hl0:es'.filter (fun e=>!seen'.contains e.born)=#[]:=by
      generalize (es'.filter fun e=>!seen'.contains e.born)=L at hleft
      obtain ⟨L⟩:=L
      cases hleft
      rfl
     refine ⟨_,.tuple #[.bool false],h,w,hg,VR.tuple' (.cons (.bool false) .nil),hr,Ext.refl _ _ _,?_⟩
     simp only[Instr.next,Sem.run_bind,k_ hO,c_ Tn,Result.andThen_ok,To,hl0]
     simp[Question.forced]
    ·rename_i e0 UY aaw
     have Tp:=A4 hfl LS UY e0 hg
     rw[aaw] at hleft
     have aeZ:pl.B<w.heap.size:=(hr.dom b pl hp).2
     generalize hL:(es'.filter fun e=>!seen'.contains e.born)=L at hleft
     have hlen:=hleft.length
     have um:L.size=UY.length+1:=by simpa using hlen.symm
     have Tq:∀e'∈L.toList,e'.born<since:=by
      intro e' he'
      obtain ⟨i,hi⟩:=List.getElem?_of_mem he'
      have hi':i<L.toList.length:=(List.getElem?_eq_some_iff.1 hi).1
      obtain ⟨x,hx⟩:∃x,(e0::UY)[i]? = some x:=⟨(e0::UY)[i]'(by omega),List.getElem?_eq_getElem (by omega)⟩
      obtain ⟨e2,h3,h4⟩:=hleft.get i x hx
      rw[hi] at h3; cases h3
      rw[h4.born]
      exact (Tp i x hx).1
     have f1:(L.filter fun e=>decide (e.born<since))=L:=by
      apply Array.ext'
      rw[Array.toList_filter,List.filter_eq_self]
      intro e he; simpa using Tq e he
     have f2:(L.filter fun e=>decide (e.born≥since))=#[]:=by
      apply Array.ext'
      rw[Array.toList_filter,List.filter_eq_nil_iff]
      intro e he; have:=Tq e he; simp; omega
     have hne:L.isEmpty=false:=by
      rw[Array.isEmpty_eq_false_iff]
      intro h0; rw[h0] at um; simp at um
     obtain ⟨k,w1,hk,hw1,hch⟩:=uV (P:=P) (UY.length+1) (by omega) w
     obtain ⟨x,hx⟩:∃x,(e0::UY)[k]? = some x:=⟨(e0::UY)[k]'(by simpa using hk),List.getElem?_eq_getElem (by simpa using hk)⟩
     obtain ⟨e',uU,he'⟩:=hleft.get k x hx
     rw[Array.getElem?_toList] at uU
     obtain ⟨Tl,hlo,hgood⟩:=Tp k x hx
     have P0:HR P φ h w1:=by
      rcases hw1 with rfl | rfl
      ·exact hr
      ·exact hr.drew
     have hx1:Ext φ φ h h w w1:=by
      rcases hw1 with rfl | rfl
      ·exact Ext.refl _ _ _
      ·exact (Ext.refl _ _ _).drew
     have hO1:w1.heap[pl.B]? = some (.mapIter (some kS.B) since seen' last):=by rcases hw1 with rfl | rfl<;>exact hO
     have Qv:w1.heap=w.heap:=by rcases hw1 with rfl | rfl<;>rfl
     have jS:(setObj pl.B (.mapIter (some kS.B) since (seen'.push e'.born) clock)).run P w1=.ok () { w1 with heap:=w1.heap.setIfInBounds pl.B (.mapIter (some kS.B) since (seen'.push e'.born) clock) }:=by
      simp[setObj,Sem.run,hO1]
     have HT:=P0.kU hlo (o:=.dM (some m) since (x.born::seen) clock) hp ⟨_,hb,trivial⟩
      (w':={ w1 with heap:=w1.heap.setIfInBounds pl.B (.mapIter (some kS.B) since (seen'.push e'.born) clock) }) (by simp)
      (fun k hk=>Array.getElem?_setIfInBounds_ne (Ne.symm hk))
      (by
       show OR P φ _ pl ((w1.heap.setIfInBounds pl.B _)[pl.B]?)
       rw[Array.getElem?_setIfInBounds_self_of_lt (by rw[Qv]; exact aeZ)]
       exact ⟨rfl,rfl,by simp[Cn,he'.born],.inr ⟨m,kS,rfl,hp',rfl⟩⟩) rfl rfl rfl (.inl trivial)
     refine ⟨_,.tuple #[.bool true,e'.key,e'.val],_,_,hgood,VR.tuple' (.cons (.bool true) (.cons he'.key (.cons he'.val .nil))),HT.1,hx1.trans HT.2,?_⟩
     simp only[Instr.next,Sem.run_bind,k_ hO,c_ Tn,Result.andThen_ok,To,hL,f1,f2]
     have hc:((if L.isEmpty=true then #[none] else #[])++(L++#[]).map some:Array (Option MapEntry))=L.map some:=by simp[hne]
     rw[hc]
     simp only[Bool.false_eq_true,if_false,Array.size_map,um,Sem.run_bind,hch,Result.andThen_ok,Array.getElem?_map,uU,Option.map_some,jS]
     simp
theorem A5 (hfl:¬good fl) (hr:HR P φ h w) {x x':Value} {κ:Value→Heap→β} (hg:good (ng fl x h κ)) (hx:VR φ x x') :
  ∃v v',good (κ v h)∧VR φ v v'∧(Instr.entry x').run P w=.ok v' w:=by
 unfold ng at hg
 split at hg<;>try exact absurd hg hfl
 cases hx with
 | ptr hp=>
  rename_i b pl
  split at hg<;>try exact absurd hg hfl
  rename_i m since stamp seen stepped hb
  obtain ⟨m',seen',hO,Cn,h4⟩:=hr.F5 hb hp
  rcases h4 with ⟨h5,_⟩ | ⟨b1,kS,h5,hp',rfl⟩
  ·cases h5
  ·cases h5
   split at hg<;>try exact absurd hg hfl
   rename_i es clock hm
   obtain ⟨es',Tn,h2⟩:=hr.qb hm hp'
   split at hg<;>try exact absurd hg hfl
   rename_i B2; have B2:=bY B2; subst B2
   split at hg<;>try exact absurd hg hfl
   rename_i e hf
   have aax:seen'.back? = some stamp:=by
    have:seen'=(seen.reverse++[stamp]).toArray:=Array.ext' (by simpa using Cn)
    rw[this]; simp
   have hfind:∃e',es'.find? (fun e=>e.born == stamp)=some e'∧ER φ e e':=by
    rw[←Array.find?_toList]
    clear Tn hm
    generalize es'.toList=L at h2
    induction h2 with
    | nil=>simp at hf
    | @cons a c l m hac _ ih=>
     simp only[List.find?_cons] at hf ⊢
     rw[UU] at hf
     rw[hac.born]
     split at hf
     ·rename_i hq; cases hf; exact ⟨_,rfl,hac⟩
     ·exact ih hf
   obtain ⟨e',hf',he'⟩:=hfind
   exact ⟨_,.tuple #[e'.key,e'.val],hg,VR.tuple' (.cons he'.key (.cons he'.val .nil)),by simp[Instr.entry,k_ hO,c_ Tn,aax,hf']⟩
theorem fc (hfl:¬good fl) (hr:HR P φ h w) {size n:Nat} {x x':Value} {κ:List Value→β} (hg:good (dH fl h size n x κ)) (hx:VR φ x x') (hsl:∃a m c,x=.slice a m c∧n≤m) :
  ∃l l',good (κ l)∧F2 (VR φ) l l'∧l.length=n*size∧∀w1:World,w1.heap=w.heap→(Builtin.firstCells size n x').run P w1=.ok l'.toArray w1:=by
 obtain ⟨a,m,c,rfl,hnm⟩:=hsl
 unfold dH at hg
 split at hg
 ·rename_i h0
  have h0:n*size=0:=h0
  refine ⟨[],[],hg,.nil,h0.symm,fun w1 hw1=>?_⟩
  cases hx<;>simp[Builtin.firstCells,h0,loadCells,loadCellsFrom]
 ·rename_i k hk
  have hk:n*size=k+1:=hk
  split at hg<;>try exact absurd hg hfl
  rename_i b o _ _ Qw
  cases Qw
  split at hg<;>try exact absurd hg hfl
  ·rename_i nn cc e op hb
   split at hg<;>try exact absurd hg hfl
   rename_i hle; have hle:=ck hle
   obtain ⟨l,h1,h2,h3⟩:=ko hfl _ _ _ _ _ hg
   simp only[List.append_nil] at h1
   have fin:∀pl,φ b=some pl→∃l',F2 (VR φ) l l'∧∀w1:World,w1.heap=w.heap→(loadCells ⟨pl.B,o,none⟩ (n*size)).run P w1=.ok l'.toArray w1:=by
    intro pl hp
    obtain ⟨l',h4,h5⟩:=hr.HI hb hp (l:=l) (off:=o) (by rw[h2]; exact hle) h3
    exact ⟨l',h4,fun w1 hw1=>by have h5:=h5 w1 hw1; rw[h2] at h5; rw[hk]; exact h5⟩
   cases hx with
   | slice hp hn hc=>
    obtain ⟨l',h4,h5⟩:=fin _ hp
    exact ⟨l,l',h1,h4,by rw[h2,hk],fun w1 hw1=>by simpa[Builtin.firstCells] using h5 w1 hw1⟩
   | bJ hp hn hc=>
    obtain ⟨l',h4,h5⟩:=fin _ hp
    exact ⟨l,l',h1,h4,by rw[h2,hk],fun w1 hw1=>by simpa[Builtin.firstCells] using h5 w1 hw1⟩
   | cz _ a' c=>
    have:n=0:=by omega
    subst this; simp at hk
  ·rename_i nn cc e hb
   split at hg<;>try exact absurd hg hfl
   rename_i hle; have hle:=ck hle
   obtain ⟨l,h1,h2,h3⟩:=ko hfl _ _ _ _ _ hg
   simp only[List.append_nil] at h1
   have fin:∀pl,φ b=some pl→∃l',F2 (VR φ) l l'∧∀w1:World,w1.heap=w.heap→(loadCells ⟨pl.B,o,none⟩ (n*size)).run P w1=.ok l'.toArray w1:=by
    intro pl hp
    obtain ⟨l',h4,h5⟩:=hr.HJ hb hp (l:=l) (off:=o) (by rw[h2]; exact hle) h3
    exact ⟨l',h4,fun w1 hw1=>by have h5:=h5 w1 hw1; rw[h2] at h5; rw[hk]; exact h5⟩
   cases hx with
   | slice hp hn hc=>
    obtain ⟨l',h4,h5⟩:=fin _ hp
    exact ⟨l,l',h1,h4,by rw[h2,hk],fun w1 hw1=>by simpa[Builtin.firstCells] using h5 w1 hw1⟩
   | bJ hp hn hc=>
    obtain ⟨l',h4,h5⟩:=fin _ hp
    exact ⟨l,l',h1,h4,by rw[h2,hk],fun w1 hw1=>by simpa[Builtin.firstCells] using h5 w1 hw1⟩
   | cz _ a' c=>
    have:n=0:=by omega
    subst this; simp at hk
theorem Co (hfl:¬good fl) {e s:Nat} {ty:TypeId} {ts:Array TypeId} (ht:ts[0]? = some t) (hu:P.underlying t=some (.slice e)) (hs:er P e=some s) (hr:HR P φ h w)
  {d d' x x':Value} {κ:Value→Heap→β} (hg:good (B9 fl s d x h κ)) (hd:VR φ d d') (hx:VR φ x x') :
  ∃v h' w',good (κ v h')∧VR φ v v∧HR P φ h' w'∧Ext φ φ h h' w w'∧(Builtin.copy_ ts ty #[d',x']).run P w=.ok v w':=by
 unfold B9 at hg
 split at hg<;>try exact absurd hg hfl
 rename_i base dLen dCap
 split at hg<;>try exact absurd hg hfl
 rename_i a n c
 rw[bT] at hg
 obtain ⟨base',Tr,hd'⟩:∃base' Tr,d'=.slice base' dLen Tr:=by cases hd<;>exact ⟨_,_,rfl⟩
 obtain ⟨a',c',hx'⟩:∃a' c',x'=.slice a' n c':=by cases hx<;>exact ⟨_,_,rfl⟩
 split at hg
 ·rename_i h0
  have hf:(Builtin.firstCells s 0 x').run P w=.ok #[] w:=by rw[hx']; cases a'<;>simp[Builtin.firstCells,loadCells,loadCellsFrom]
  have h0':Nat.min n dLen=0:=h0
  refine ⟨_,h,w,hg,.int _ _,hr,Ext.refl _ _ _,?_⟩
  rw[hx'] at hf
  subst hd'; subst hx'
  cases base'<;>simp[Builtin.copy_,ht,aO hu,b_ hs,Builtin.lenOf,h0',hf,storeCells,goInt]
 ·rename_i k hk
  split at hg<;>try exact absurd hg hfl
  rename_i b o
  obtain ⟨l,l',g1,g2,g3,g4⟩:=fc hfl hr hg hx ⟨_,_,_,rfl,Nat.min_le_left _ _⟩
  split at g1<;>try exact absurd g1 hfl
  rename_i nn cc e' op hb
  obtain ⟨k1,k2,k3⟩:=jl hfl _ _ _ _ _ g1
  obtain ⟨hlo,k3⟩:=bz hfl k3
  have fin:∀pl,φ b=some pl→base'=some ⟨pl.B,o,none⟩→∃v h' w',good (κ v h')∧VR φ v v∧HR P φ h' w'∧Ext φ φ h h' w w'∧(Builtin.copy_ ts ty #[d',x']).run P w=.ok v w':=by
   intro pl hp hbe
   obtain ⟨w',j1,j2,j3⟩:=hr.storeAt hlo hb hp g2 k1 k2
   refine ⟨_,_,w',k3,.int _ _,j2,j3,?_⟩
   have g5:=g4 w rfl
   clear g4
   rw[hx'] at g5
   subst hd'; subst hx'; subst hbe
   have g4':(Builtin.firstCells s (Nat.min n dLen) (.slice a' n c')).run P w=.ok l'.toArray w:=g5
   simp[Builtin.copy_,ht,aO hu,b_ hs,Builtin.lenOf,g4',j1,goInt]
  cases hd with
  | slice hp hn hc=>cases hd'; exact fin _ hp rfl
  | bJ hp hn hc=>cases hd'; exact fin _ hp rfl
  | cz a1 a2 c2=>have:Nat.min n 0=0:=Nat.min_zero n; rw[this] at hk; cases hk
theorem qz (hfl:¬good fl) {e:Nat} {z:List Value} {ty:TypeId} {ts:Array TypeId} (ht:ts[0]? = some t) (hu:P.underlying t=some (.slice e)) (hz:zeroOf P e=some z) (hr:HR P φ h w)
  {x x':Value} {κ:Value→Heap→β} (hg:good (jD fl z x h κ)) (hx:VR φ x x') :
  ∃h' w',good (κ (.tuple #[]) h')∧HR P φ h' w'∧Ext φ φ h h' w w'∧(Builtin.clear_ ts ty #[x']).run P w=.ok (.tuple #[]) w':=by
 obtain ⟨v,inf,hi,LP,hzl,UO⟩:=gr hz
 have UZ:(Builtin.clear_ ts ty #[x']).run P w=.ok (.tuple #[]) w→good (κ (.tuple #[]) h)→∃h' w',good (κ (.tuple #[]) h')∧HR P φ h' w'∧Ext φ φ h h' w w'∧(Builtin.clear_ ts ty #[x']).run P w=.ok (.tuple #[]) w':=
  fun h1 h2=>⟨h,w,h2,hr,Ext.refl _ _ _,h1⟩
 unfold jD at hg
 split at hg
 ·cases hx; exact UZ (by simp[Builtin.clear_,ht,aO hu]) hg
 ·refine UZ ?_ hg
  cases hx<;>simp[Builtin.clear_,ht,aO hu]
 ·cases hx; exact UZ (by simp[Builtin.clear_,ht,aO hu]) hg
 ·rename_i b o n c hn0
  split at hg<;>try exact absurd hg hfl
  rename_i nn cc e' op hb
  obtain ⟨k1,k2,k3⟩:=jl hfl _ _ _ _ _ hg
  obtain ⟨hlo,k3⟩:=bz hfl k3
  have hzz:(Builtin.zeroCells v.cells n).toList=aU z n:=by
   unfold Builtin.zeroCells
   rw[ru v.cells n _ rfl,hzl]
  have fin:∀pl c',φ b=some pl→x'=.slice (some ⟨pl.B,o,none⟩) n c'→∃h' w',good (κ (.tuple #[]) h')∧HR P φ h' w'∧Ext φ φ h h' w w'∧(Builtin.clear_ ts ty #[x']).run P w=.ok (.tuple #[]) w':=by
   intro pl c' hp hxe
   obtain ⟨w',j1,j2,j3⟩:=hr.storeAt hlo hb hp (iq (φ:=φ) (jb UO n)) k1 k2
   refine ⟨_,w',k3,j2,j3,?_⟩
   subst hxe
   cases n with
   | zero=>exact (hn0 rfl).elim
   | succ n=>simp[Builtin.clear_,ht,aO hu,gQ hi LP,hzz,j1]
  cases hx with
  | slice hp hn hc=>exact fin _ _ hp rfl
  | bJ hp hn hc=>exact fin _ _ hp rfl
  | cz a1 a2 c2=>exact (hn0 rfl).elim
 ·split at hg<;>try exact absurd hg hfl
  rename_i r es clock hb
  obtain ⟨hlo,hg⟩:=bz hfl hg
  cases hx with
  | map hp=>
   rename_i pl
   obtain ⟨es',hO,h2⟩:=hr.qb hb hp
   obtain ⟨w',j1,j2,j3⟩:=hr.wC hlo (es1:=[]) (F0:=#[]) (clock':=clock) hb hp .nil
   exact ⟨_,w',hg,j2,j3,by simp[Builtin.clear_,ht,aO hu,c_ hO,j1]⟩
 ·exact absurd hg hfl
end Go.Vai

namespace Go.Vai
open Go
variable {β:Type} {fl:β} {good:β→Prop} {P:Program} {φ:dG} {h:Heap} {w:World} {t:TypeId}
inductive Comes (P:Program) (ts:Array TypeId) (e size:Nat) (n:Nat) (new':List Value) (w:World):Value→Prop where
 | sl {xt:TypeId} {xd:TypeDesc} {a:Option Addr} {c:Nat} (h1:ts[1]? = some xt) (h2:P.underlying xt=some xd) (h3:qp xd=false)
   (h4:∀w1:World,w1.heap=w.heap→(Builtin.firstCells size n (.slice a n c)).run P w1=.ok new'.toArray w1):Comes P ts e size n new' w (.slice a n c)
 | mk {xt:TypeId} {k k':IntKind} {inf:TypeInfo} {v:Value} (h1:ts[1]? = some xt) (h2:P.underlying xt=some (.int k')) (h3:n≤1000000) (h4:P.info? e=some inf) (h5:inf.zero=some v)
   (h6:inf.bytes≤10000) (h7:Builtin.zeroCells v.cells n=new'.toArray) (h8:n*size=0→new'=[]):Comes P ts e size n new' w (.int k (n:Int))
theorem Cp (hfl:¬good fl) {e size:Nat} {xt:TypeId} {xd:TypeDesc} {inf:TypeInfo} {ts:Array TypeId} {z:List Value} (hz:Lx P e=some (z,size)) (hi:P.info? e=some inf) (hb:inf.bytes≤10000)
  (ZF:ts[1]? = some xt) (ZG:P.underlying xt=some xd) (hr:HR P φ h w) {x x':Value} {κ:Nat→List Value→β}
  (hg:good (kV fl (qp xd) z h size x κ)) (hx:VR φ x x') :
  ∃n new new',good (κ n new)∧F2 (VR φ) new new'∧new.length=n*size∧Comes P ts e size n new' w x':=by
 obtain ⟨hz1,wA,LQ,JM⟩:=j0 hz
 obtain ⟨v,UR,hi',LP,hzl,UO⟩:=gr hz1
 rw[hi] at hi'; cases hi'
 unfold kV at hg
 split at hg
 ·rename_i k n hm
  split at hg<;>try exact absurd hg hfl
  rename_i hle; have hle:=ck hle
  cases hx
  have hzz:Builtin.zeroCells v.cells n=(aU z n).toArray:=by
   unfold Builtin.zeroCells
   rw[ru v.cells n _ rfl,hzl]
  obtain ⟨k',rfl⟩:∃k',xd=.int k':=by cases xd<;>first | exact ⟨_,rfl⟩ | cases hm
  refine ⟨n,_,_,hg,iq (jb UO n),by rw[oq,LQ],.mk ZF ZG hle hi LP hb hzz ?_⟩
  intro h0
  have hn0:n=0:=by rcases Nat.mul_eq_zero.1 h0 with h | h<;>omega
  subst hn0
  rfl
 ·rename_i a n c hm
  obtain ⟨l,l',g1,g2,g3,g4⟩:=fc hfl hr hg hx ⟨_,_,_,rfl,Nat.le_refl _⟩
  obtain ⟨a',c',rfl⟩:∃a' c',x'=.slice a' n c':=by cases hx<;>exact ⟨_,_,rfl⟩
  exact ⟨n,l,l',g1,g2,g3,.sl ZF ZG hm g4⟩
 ·exact absurd hg hfl
theorem jc {e size n sLen sCap:Nat} {ty:TypeId} {ts:Array TypeId} {base:Option Addr} {x':Value} {new':List Value} (ht:ts[0]? = some t) (hu:P.underlying t=some (.slice e)) (hs:er P e=some size)
  (hc:Comes P ts e size n new' w x') (hle:sLen+n≤sCap) {w':World} (hst:∀a,base=some a→(storeCells (a.add (sLen*size)) new').run P w=.ok () w') (hno:base=none→w'=w) :
  (Builtin.append_ ts ty #[.slice base sLen sCap,x']).run P w=.ok (.slice base (sLen+n) sCap) w':=by
 cases hc with
 | @sl xt xd a c h1 h2 h3 h4=>
  have h4:=h4 w rfl
  have key:∀d,P.underlying xt=some d→qp d=false→(Builtin.append_ ts ty #[.slice base sLen sCap,.slice a n c]).run P w=.ok (.slice base (sLen+n) sCap) w':=by
   intro d hd hdf
   unfold Builtin.append_
   cases d<;>first
    | (cases hdf; done)
    | (simp only[ht,h1,List.getElem?_toArray,List.getElem?_cons_zero,List.getElem?_cons_succ,Sem.run_bind,aO hu,aO hd,Result.andThen_ok,b_ hs,Sem.run_pure,Bool.false_eq_true,if_false,
      Builtin.lenOf,hle,Bool.not_false,if_true,h4]
       cases base with
       | none=>rw[hno rfl]; simp only[Sem.run_pure]
       | some b=>simp only[Sem.run_bind,hst b rfl,Result.andThen_ok,Sem.run_pure])
  exact key xd h2 h3
 | @mk xt k k' inf v h1 h2 h3 h4 h5 h6 h7 h8=>
  have w1:IntKind.i64.wrap (n:Int)=n:=IntWalk.i64_in _ ⟨by omega,by omega⟩
  have c1:¬((n:Int)<0):=by omega
  have c2:¬((n:Int)*(inf.bytes:Int) > 2 ^ 48):=by
   have:n*inf.bytes≤1000000*10000:=Nat.mul_le_mul h3 h6
   have h2:(n:Int)*(inf.bytes:Int)=((n*inf.bytes:Nat):Int):=by simp
   rw[h2]; omega
  have hA:(asInt (.int k (n:Int))).run P w=.ok (n:Int) w:=by simp[asInt,asIntOf]
  have hnew:(if n*size=0 then pure #[] else do pure (Builtin.zeroCells (←zeroValue e).cells n):Sem (Array Value)).run P w=.ok new'.toArray w:=by
   by_cases h0:n*size=0
   ·simp only[h0,if_true,h8 h0]; rfl
   ·simp[h0,gQ h4 h5,h7]
  simp only[Sem.run_ite,Sem.run_bind,Sem.run_pure] at hnew
  unfold Builtin.append_
  simp only[ht,h1,List.getElem?_toArray,List.getElem?_cons_zero,List.getElem?_cons_succ,Sem.run_bind,aO hu,aO h2,Result.andThen_ok,b_ hs,Sem.run_pure,if_true,hA,w1,c1,if_false,
   om h4,c2,Int.toNat_natCast,hle,Bool.not_true,Bool.false_eq_true,Sem.run_ite,hnew]
  cases base with
  | none=>rw[hno rfl]; simp
  | some b=>simp[hst b rfl]
theorem LU {need old:Nat} {e:TypeId} (tp:Nat):need≤(Question.appendCap need old e).cut tp:=by simp[Question.cut]
set_option maxHeartbeats 1000000 in
theorem mD {e size n sLen sCap:Nat} {ty:TypeId} {ts:Array TypeId} {base:Option Addr} {x' v:Value} {new' old':List Value} {inf:TypeInfo} (ht:ts[0]? = some t) (hu:P.underlying t=some (.slice e)) (hs:er P e=some size)
  (hi:P.info? e=some inf) (hz:inf.zero=some v) (hb:inf.bytes≤10000) (hc:Comes P ts e size n new' w x') (hlt:sCap<sLen+n) (qf:sLen+n≤1000000000)
  (hold:∀w1:World,w1.heap=w.heap→(Builtin.firstCells size sLen (.slice base sLen sCap)).run P w1=.ok old'.toArray w1) :
  ∃cF rest,sLen+n≤cF∧rest.length=(cF-(sLen+n))*v.cells.size∧(Builtin.append_ ts ty #[.slice base sLen sCap,x']).run P w =
   .ok (.slice (some ⟨w.heap.size,0,none⟩) (sLen+n) cF) (w.drew.alloc (.cells (old'++new'++rest).toArray e (0,0))):=by
 have hold:=hold w.drew rfl
 let cF:=(Question.appendCap (sLen+n) sCap e).cut (w.tape w.drawn (.appendCap (sLen+n) sCap e))
 refine ⟨cF,(Builtin.zeroCells v.cells (cF-(sLen+n))).toList,LU _,by simp[size_zeroCells],?_⟩
 have uT:¬(sLen+n≤sCap):=by omega
 have hn0:¬(((sLen+n:Nat):Int) > IntKind.i64.max):=by rw[IntKind.max_i64]; omega
 have hn3:¬(Builtin.nextslicecap (sLen+n) sCap*inf.bytes > 2 ^ 48):=by
  have h5:=nextslicecap_le hlt
  have:Builtin.nextslicecap (sLen+n) sCap*inf.bytes≤(2*1000000000)*10000:=Nat.mul_le_mul (by omega) hb
  omega
 have pY:∀Z:Array Value,old'.toArray++new'.toArray++Z=(old'++new'++Z.toList).toArray:=fun Z=>Array.ext' (by simp)
 have hz1:∀w1:World,(zeroValue e).run P w1=.ok v w1:=fun w1=>gQ hi hz
 have hi1:∀w1:World,(typeInfo e).run P w1=.ok inf w1:=fun w1=>om hi
 cases hc with
 | @sl xt xd a c h1 h2 h3 h4=>
  have h4:=h4 w.drew rfl
  have hxf:qp xd=false:=h3
  have key:∀d,P.underlying xt=some d→qp d=false→(Builtin.append_ ts ty #[.slice base sLen sCap,.slice a n c]).run P w =
    .ok (.slice (some ⟨w.heap.size,0,none⟩) (sLen+n) cF) (w.drew.alloc (.cells (old'++new'++(Builtin.zeroCells v.cells (cF-(sLen+n))).toList).toArray e (0,0))):=by
   intro d hd hdf
   unfold Builtin.append_
   cases d<;>first
    | (cases hdf; done)
    | (simp only[ht,h1,List.getElem?_toArray,List.getElem?_cons_zero,List.getElem?_cons_succ,Sem.run_bind,aO hu,aO hd,Result.andThen_ok,b_ hs,Sem.run_pure,Bool.false_eq_true,if_false,
      Builtin.lenOf,uT,hi1,hn0,false_and,hn3,run_choose,Question.forced,World.drew_eq,run_askRoom,hold,Bool.not_false,if_true,h4,hz1,newRow,run_newObj]
       rw[pY]; rfl)
  exact key xd h2 hxf
 | @mk xt k k' UR v' h1 h2 h3 h4 h5 h6 h7 h8=>
  rw[hi] at h4; cases h4
  rw[hz] at h5; cases h5
  have w1:IntKind.i64.wrap (n:Int)=n:=IntWalk.i64_in _ ⟨by omega,by omega⟩
  have c1:¬((n:Int)<0):=by omega
  have c2:¬((n:Int)*(inf.bytes:Int) > 2 ^ 48):=by
   have:n*inf.bytes≤1000000*10000:=Nat.mul_le_mul h3 h6
   have h2:(n:Int)*(inf.bytes:Int)=((n*inf.bytes:Nat):Int):=by simp
   rw[h2]; omega
  have hA:(asInt (.int k (n:Int))).run P w=.ok (n:Int) w:=by simp[asInt,asIntOf]
  have hnew:(if n*size=0 then pure #[] else do pure (Builtin.zeroCells (←zeroValue e).cells n):Sem (Array Value)).run P w.drew=.ok new'.toArray w.drew:=by
   by_cases h0:n*size=0
   ·simp only[h0,if_true,h8 h0]; rfl
   ·simp[h0,hz1,h7]
  simp only[Sem.run_ite,Sem.run_bind,Sem.run_pure] at hnew
  simp only[hz1,Result.andThen_ok] at hnew
  unfold Builtin.append_
  simp only[ht,h1,List.getElem?_toArray,List.getElem?_cons_zero,List.getElem?_cons_succ,Sem.run_bind,aO hu,aO h2,Result.andThen_ok,b_ hs,Sem.run_pure,if_true,hA,w1,c1,if_false,
   hi1,c2,Int.toNat_natCast,uT,hn0,false_and,hn3,run_choose,Question.forced,World.drew_eq,run_askRoom,hold,Bool.not_true,Bool.false_eq_true,Sem.run_ite,hnew,hz1,newRow,run_newObj]
  rw[pY]; rfl
theorem Qx (w:World) {old old' new new' rest:List Value} {e size cF sLen n:Nat} (hs:er P e=some size) (hz:0<size) (h1:F2 (VR φ) old old') (h2:F2 (VR φ) new new') (l1:old.length=sLen*size) (l2:new.length=n*size)
  (hle:sLen+n≤cF) (hr:rest.length=(cF-(sLen+n))*size) (hlen:(old++new).length≤1000000000000) :
  OR P φ (.cells (old++new).length (lay (old++new) .nil 0) e true) ⟨w.heap.size,cF*size,size⟩ (some (.cells (old'++new'++rest).toArray e (0,0))):=by
 refine wu (h1.append h2) hlen e _ rest true fun _=>⟨?_,hs,hz⟩
 simp only[List.length_append,hr,←h1.length,←h2.length,l1,l2]
 rw[←Nat.add_mul,←Nat.add_mul]
 congr 1
 omega
theorem iE (hfl:¬good fl) {b o n m c nn e size:Nat} {cc:T Value} {op:Bool} {κ:List Value→β} (hb:h.bl.get b=some (.cells nn cc e op)) (hg:good (dH fl h size n (.slice (some ⟨b,o,none⟩) m c) κ)) :
  ∃l,good (κ l)∧l.length=n*size∧(l≠[]→o+l.length≤nn)∧∀j v,l[j]? = some v→cc.get (o+j)=some v:=by
 unfold dH at hg
 split at hg
 ·rename_i h0
  have h0:n*size=0:=h0
  exact ⟨[],hg,h0.symm,fun hh=>absurd rfl hh,fun j v e=>by simp at e⟩
 ·rename_i k hk
  have hk:n*size=k+1:=hk
  simp only[hb] at hg
  split at hg<;>try exact absurd hg hfl
  rename_i hle; have hle:=ck hle
  obtain ⟨l,h1,h2,h3⟩:=ko hfl _ _ _ _ _ hg
  simp only[List.append_nil] at h1
  exact ⟨l,h1,by rw[h2,hk],fun _=>by rw[h2]; exact hle,h3⟩
theorem HR.LV (hr:HR P φ h w) {b nn e:Nat} (hlo:h.lo≤b) {c:T Value} {op:Bool} {pl:Pl} {ob:bC} {w':World} (hb:h.bl.get b=some (.cells nn c e op)) (hp:φ b=some pl) (hn:h.nx≤h.nx)
  (hsz:w'.heap.size=w.heap.size) (Cl:∀k,k≠pl.B→w'.heap[k]? = w.heap[k]?) (ho:OR P φ ob pl w'.heap[pl.B]?) (hd:OR P φ (.dead nn e) pl w'.heap[pl.B]?)
  (ht:w'.tape=w.tape) (hos:w'.os=w.os) (hout:w'.output=w.output) (hlv:ob.live) (HS:w.drawn≤w'.drawn:=by exact Nat.le_refl _) :
  HR P (gE φ h.nx pl) ⟨h.nx+1,(h.bl.aT b (.dead nn e)).aT h.nx ob,h.lo⟩ w'∧Ext φ (gE φ h.nx pl) h ⟨h.nx+1,(h.bl.aT b (.dead nn e)).aT h.nx ob,h.lo⟩ w w':=by
 obtain ⟨P0,hx1⟩:=hr.kU hlo (o:=.dead nn e) hp ⟨_,hb,trivial⟩ hsz Cl hd ht hos hout (.inr fun _=>rj ho hlv) HS
 have hnone:φ h.nx=none:=by
  cases hq:φ h.nx with
  | none=>rfl
  | some pl=>have:=(hr.dom _ _ hq).1; omega
 have hs:Small h.nx:=by unfold Small; omega
 have B4:=(hr.dom b pl hp).1
 have gK:∀x,x<h.nx→((h.bl.aT b (.dead nn e)).aT h.nx ob).get x=(h.bl.aT b (.dead nn e)).get x:=fun x hx=>T.fS _ _ hs (by unfold Small; omega) (by omega)
 have hsub:=o5 (pl:=pl) hnone
 have alone:∀x o px,(h.bl.aT b (.dead nn e)).get x=some o→o.live→φ x=some px→px.B≠pl.B:=by
  intro x o px hx hl hpx hB
  have Tm:=(hr.dom x px hpx).1
  rw[T.kZ _ _ (by unfold Small; omega) (by unfold Small; omega)] at hx
  split at hx
  ·cases hx; exact hl
  ·rename_i hne
   exact hne (hr.inj x b o _ px pl hx hb hl trivial hpx hp hB).symm
 constructor
 ·refine ⟨?_,?_,?_,?_,?_,Nat.le_succ_of_le hr.lo⟩
  ·intro x o px hx hpx
   unfold gE at hpx
   split at hpx
   ·rename_i he; subst he; cases hpx
    rw[T.af] at hx; cases hx
    exact ho.mono hsub
   ·have Tm:=(hr.dom x px hpx).1
    exact (P0.obj x o px ((gK x Tm)▸hx) hpx).mono hsub
  ·intro x px hpx
   unfold gE at hpx
   split at hpx
   ·rename_i he; subst he; cases hpx; exact ⟨Nat.lt_succ_self _,by rw[hsz]; exact (hr.dom b pl hp).2⟩
   ·have:=P0.dom x px hpx; exact ⟨Nat.lt_succ_of_lt this.1,this.2⟩
  ·intro x o hsx hx
   show x<h.nx+1
   rw[T.kZ _ _ hs hsx] at hx
   split at hx
   ·omega
   ·have:=P0.keys x o hsx hx; exact Nat.lt_succ_of_lt this
  ·show h.nx+1<h.nx+1+1; omega
  ·intro x x' o1 o2 p1 p2 g1 g2 l1 l2 e1 e2 eB
   unfold gE at e1 e2
   split at e1<;>split at e2
   ·omega
   ·rename_i q1 q2; cases e1
    have Tm:=(hr.dom x' p2 e2).1
    exact absurd eB.symm (alone x' o2 p2 ((gK x' Tm)▸g2) l2 e2)
   ·rename_i q1 q2; cases e2
    have Tm:=(hr.dom x p1 e1).1
    exact absurd eB (alone x o1 p1 ((gK x Tm)▸g1) l1 e1)
   ·have n1:=(hr.dom x p1 e1).1
    have n2:=(hr.dom x' p2 e2).1
    exact P0.inj x x' o1 o2 p1 p2 ((gK x n1)▸g1) ((gK x' n2)▸g2) l1 l2 e1 e2 eB
 ·refine ⟨hsub,?_,Nat.le_succ _,hx1.size,hx1.ze,?_,ht,hos,hout,hx1.fz,rfl,fun x hx=>(gK x (Nat.lt_of_lt_of_le hx hr.lo)).trans (hx1.FH x hx),hx1.FI,HS⟩
  ·intro x px e0 e1
   unfold gE at e1
   split at e1
   ·rename_i he; subst he; cases e1; exact ⟨Nat.le_refl _,.inr ⟨b,pl,hp,rfl⟩⟩
   ·rw[e0] at e1; cases e1
  ·intro x hx hpx
   show ((h.bl.aT b (.dead nn e)).aT h.nx ob).get x=_
   rw[gK x hx]
   exact hx1.B1 x hx hpx
theorem rz {l l':List Value} (g:F2 (VR φ) l l') (h:l.all cZ=true):∀v'∈l',v'.oneCell'=true:=by
 induction g with
 | nil=>intro v' ud; cases ud
 | cons hv _ ih=>
  simp only[List.all_cons,Bool.and_eq_true] at h
  intro v' ud
  simp only[List.mem_cons] at ud
  rcases ud with rfl | ud
  ·exact HO h.1 hv
  ·exact ih h.2 v' ud
set_option maxHeartbeats 2000000 in
theorem qg (hfl:¬good fl) {e size:Nat} {ty xt:TypeId} {xd:TypeDesc} {inf:TypeInfo} {ts:Array TypeId} {z:List Value} (ht:ts[0]? = some t) (hu:P.underlying t=some (.slice e))
  (hz:Lx P e=some (z,size)) (hi:P.info? e=some inf) (hby:inf.bytes≤10000) (ZF:ts[1]? = some xt) (ZG:P.underlying xt=some xd) (hr:HR P φ h w) {s s' x x':Value} {κ:Value→Heap→β}
  (hg:good (bL fl e size z (qp xd) s x h κ)) (Tt:VR φ s s') (hx:VR φ x x') :
  ∃φ' v v' h' w',good (κ v h')∧VR φ' v v'∧HR P φ' h' w'∧Ext φ φ' h h' w w'∧(Builtin.append_ ts ty #[s',x']).run P w=.ok v' w':=by
 obtain ⟨hz1,wA,LQ,JM⟩:=j0 hz
 obtain ⟨v,UR,hi',LP,hzl,UO⟩:=gr hz1
 rw[hi] at hi'; cases hi'
 have hvs:v.cells.size=size:=by rw[←LQ,hzl]; simp
 unfold bL at hg
 split at hg<;>try exact absurd hg hfl
 rename_i base sLen sCap
 obtain ⟨n,new,new',g1,g2,g3,g4⟩:=Cp hfl hz hi hby ZF ZG hr hg hx
 have LW:=g2.length
 obtain ⟨base',lq,hs'⟩:∃base' lq,s'=.slice base' sLen lq:=by cases Tt<;>exact ⟨_,_,rfl⟩
 have hle':sLen≤lq:=by subst hs'; cases Tt<;>first | assumption | omega
 have fresh:∀{h1:Heap} {w1:World} {old old':List Value} {κ1:Value→Heap→β},HR P φ h1 w.drew→Ext φ φ h h1 w w.drew→sLen+n≤1000000000→lq<sLen+n→
   F2 (VR φ) old old'→old.length=sLen*size→(∀w1:World,w1.heap=w.heap→(Builtin.firstCells size sLen s').run P w1=.ok old'.toArray w1)→
   good (cL fl (old++new) e true h1 fun b h=>κ (.slice (some ⟨b,0,none⟩) (sLen+n) aM) h)→
   ∃φ' v v' h' w',good (κ v h')∧VR φ' v v'∧HR P φ' h' w'∧Ext φ φ' h h' w w'∧(Builtin.append_ ts ty #[s',x']).run P w=.ok v' w':=by
  intro h1 w1 old old' κ1 P0 hx1 qf hlt Qy lY nX hgood
  unfold cL at hgood
  obtain ⟨k1,k2⟩:=jk hfl hgood
  obtain ⟨k3,k4⟩:=cI hfl k2
  rw[hs'] at nX
  obtain ⟨cF,rest,j1,j2,j3⟩:=mD (ty:=ty) ht hu wA hi LP hby g4 hlt qf nX
  rw[hvs] at j2
  have JN:=Qx (P:=P) (φ:=φ) w.drew (cF:=cF) wA JM Qy g2 lY g3 j1 j2 k1
  obtain ⟨m1,m2⟩:=P0.fresh k3 (cF*size) size JN trivial
  refine ⟨_,_,_,_,_,k4,.bJ (dO _ _ _) j1 (by simp),m1,hx1.trans m2,by rw[hs']; exact j3⟩
 split at g1
 ·
  refine ⟨φ,_,s',h,w,g1,Tt,hr,Ext.refl _ _ _,?_⟩
  have hn0:new=[]:=List.eq_nil_of_length_eq_zero (by rw[g3]; omega)
  subst hn0
  cases g2
  rw[hs']
  exact jc ht hu wA g4 (by omega) (w':=w) (fun a _=>by simp[storeCells]) (fun _=>rfl)
 ·rename_i n
  rw[bT] at g1
  split at g1<;>try exact absurd g1 hfl
  rename_i qf; have qf:=ck qf
  have qf:sLen+(n+1)≤1000000000:=qf
  split at g1
  ·
   split at g1<;>try exact absurd g1 hfl
   rename_i hc0 hl0
   have hc0:=bY hc0; have hl0:=bY hl0
   subst hc0; subst hl0
   cases Tt with
   | eT _=>
    cases hs'
    refine fresh (w1:=w) (κ1:=κ) (old:=[]) (old':=[]) hr.drew (Ext.refl _ _ _).drew qf (by omega) .nil (by simp) (fun w1 _=>by simp[Builtin.firstCells]) (by simpa using g1)
  ·rename_i b o
   split at g1<;>try exact absurd g1 hfl
   rename_i Cq; have Cq:=mA Cq
   split at g1
   ·
    rename_i hop; have hop:=bY hop; subst hop
    obtain ⟨pl,hp,hcap,rfl⟩:∃pl,φ b=some pl∧lq*pl.e+o=pl.sz∧base'=some ⟨pl.B,o,none⟩:=by
     subst hs'
     cases Tt with
     | slice hp hn hc=>exact absurd hc (Nat.lt_irrefl _)
     | bJ hp hn hc=>exact ⟨_,hp,hc,rfl⟩
    split at g1<;>try exact absurd g1 hfl
    rename_i nn cc e' hb
    obtain ⟨C,hC,uT,hn2,Qz,hcell⟩:=hr.rowAt hb hp
    obtain ⟨o1,o2,o3⟩:=Qz rfl
    split at g1<;>try exact absurd g1 hfl
    ·
     rename_i hee hfit
     have hee:=bY hee; subst hee
     have hfit:o+(sLen+(n+1))*size≤nn:=ck hfit
     have hpe:pl.e=size:=by rw[wA] at o2; exact (Option.some.inj o2).symm
     have hroom:sLen+(n+1)≤lq:=by
      rw[hpe] at hcap
      have h1:(sLen+(n+1))*size≤lq*size:=by omega
      exact Nat.le_of_mul_le_mul_right h1 JM
     obtain ⟨k1,k2,k3⟩:=jl hfl _ _ _ _ _ g1
     obtain ⟨hlo,k3⟩:=bz hfl k3
     obtain ⟨w',j1,j2,j3⟩:=hr.storeAt hlo hb hp g2 k1 k2
     refine ⟨φ,_,.slice (some ⟨pl.B,o,none⟩) (sLen+(n+1)) lq,_,w',k3,.bJ hp hroom hcap,j2,j3,?_⟩
     rw[hs']
     exact jc ht hu wA g4 hroom (fun a ha=>by cases ha; rw[iD]; exact j1) (fun hh=>by cases hh)
    ·
     rename_i hee hfit
     have hee:=bY hee; subst hee
     have hfit:=Tk hfit
     split at g1<;>try exact absurd g1 hfl
     rename_i ZH
     simp only[Bool.and_eq_true] at ZH
     obtain ⟨ZH,rA⟩:=ZH
     have ZH:=bY ZH; subst ZH
     have hpe:pl.e=size:=by rw[wA] at o2; exact (Option.some.inj o2).symm
     have Cr:=fun hlo:h.lo≤b=>hr.kU hlo (w':=w) (o:=.dead nn e) hp ⟨_,hb,trivial⟩ rfl (fun _ _=>rfl) (by rw[hC]; exact ⟨by omega,hn2,o2,o3⟩) rfl rfl rfl (.inr id)
     by_cases hroom:sLen+(n+1)≤lq
     ·obtain ⟨old,k1,k3,k5,k6⟩:=iE hfl hb g1
      obtain ⟨hlo,k1⟩:=bz hfl k1
      unfold cL at k1
      obtain ⟨m1,m2⟩:=jk hfl k1
      obtain ⟨m3,m4⟩:=cI hfl m2
      have hone:∀v'∈new',v'.oneCell'=true:=rz g2 rA
      have aaz:sLen*size+new'.length≤C.size:=by
       rw[o1,←hcap,hpe,←LW,g3,←Nat.add_mul]
       exact Nat.le_trans (Nat.mul_le_mul_right _ hroom) (Nat.le_add_right _ _)
      have hrun:=run_storeCells_at P pl.B (sLen*size) e new' 0 C w hC (by simpa using aaz) hone
      simp only[Nat.add_zero] at hrun
      have hrow:=setRow_heap w pl.B C (C.toList.take (sLen*size)++new'++C.toList.drop (sLen*size+new'.length)).toArray e _ hC
      have JN:OR P φ (.cells (old++new).length (lay (old++new) .nil 0) e true) pl (some (.cells (C.toList.take (sLen*size)++new'++C.toList.drop (sLen*size+new'.length)).toArray e (0,0))):=by
       refine ⟨rfl,rfl,?_,by omega,fun _=>⟨?_,o2,o3⟩,?_⟩
       ·simp only[List.length_append,k3,List.size_toArray,List.length_take,List.length_drop,Array.length_toList,←LW]
        omega
       ·simp only[List.length_append,List.size_toArray,List.length_take,List.length_drop,Array.length_toList]
        omega
       ·intro i v ku hi
        have hi2:i<sLen*size+new.length:=by simpa[List.length_append,k3] using hi
        rw[rq _ .nil 0 (by omega) i (by unfold Small; omega),if_pos (by omega)] at ku
        simp only[Nat.sub_zero] at ku
        simp only[List.getElem?_toArray,List.append_assoc]
        rcases Nat.lt_or_ge i (sLen*size) with hlt | hge
        ·rw[List.getElem?_append_left (by omega)] at ku
         have hgc:=k6 i v ku
         rw[Nat.zero_add] at hgc
         obtain ⟨v',e1,e2⟩:=hcell i v hgc (by have:=k5 (by intro hnil; rw[hnil] at k3; simp at k3; omega); omega)
         refine ⟨v',?_,e2⟩
         rw[List.getElem?_append_left (by simp; omega),List.getElem?_take_of_lt hlt]
         simpa using e1
        ·rw[List.getElem?_append_right (by omega),k3] at ku
         obtain ⟨v',e1,e2⟩:=g2.get _ v ku
         refine ⟨v',?_,e2⟩
         have htl:(C.toList.take (sLen*size)).length=sLen*size:=by
          rw[List.length_take,Array.length_toList]; exact Nat.min_eq_left (by omega)
         have hin:i-sLen*size<new'.length:=by rw[←LW]; omega
         rw[List.getElem?_append_right (by rw[htl]; exact hge),htl,List.getElem?_append_left hin]
         exact e1
      obtain ⟨q1,q2⟩:=hr.LV hlo (ob:=.cells (old++new).length (lay (old++new) .nil 0) e true) (w':=w.setRow pl.B (C.toList.take (sLen*size)++new'++C.toList.drop (sLen*size+new'.length)).toArray) hb hp m3
       (setRow_size _ _ _) (fun k hk=>setRow_other _ _ _ _ hk) (by rw[hrow]; exact JN) (by rw[hrow]; exact ⟨by omega,hn2,o2,o3⟩) rfl rfl rfl (by trivial)
      refine ⟨_,_,.slice (some ⟨pl.B,0,none⟩) (sLen+(n+1)) lq,_,_,m4,.bJ (dO _ _ _) hroom hcap,q1,q2,?_⟩
      rw[hs']
      exact jc ht hu wA g4 hroom (fun a ha=>by cases ha; rw[iD,Nat.zero_add]; exact hrun) (fun hh=>by cases hh)
     ·obtain ⟨old,old',k1,k2,k3,k4⟩:=fc hfl hr g1 Tt ⟨_,_,_,rfl,Nat.le_refl _⟩
      obtain ⟨hlo,k1⟩:=bz hfl k1
      exact fresh (w1:=w) (κ1:=κ) (Cr hlo).1.drew (Cr hlo).2.drew qf (by omega) k2 k3 k4 k1
   ·
    rename_i hop; have hop:=mA hop
    obtain ⟨pl,hp,rfl,rfl,ae2⟩:∃pl,φ b=some pl∧lq=sCap∧base'=some ⟨pl.B,o,none⟩∧sCap<aM:=by
     subst hs'
     cases Tt with
     | slice hp hn hc=>exact ⟨_,hp,rfl,rfl,hc⟩
     | bJ hp hn hc=>exact absurd rfl hop
     | cz a a' c=>exact absurd rfl Cq
    split at g1<;>try exact absurd g1 hfl
    ·rename_i nn cc e' op hle hb
     have hroom:sLen+(n+1)≤lq:=ck hle
     obtain ⟨k1,k2,k3⟩:=jl hfl _ _ _ _ _ g1
     obtain ⟨hlo,k3⟩:=bz hfl k3
     obtain ⟨w',j1,j2,j3⟩:=hr.storeAt hlo hb hp g2 k1 k2
     have hcl:lq<aM:=ae2
     refine ⟨φ,_,.slice (some ⟨pl.B,o,none⟩) (sLen+(n+1)) lq,_,w',k3,.slice hp hroom hcl,j2,j3,?_⟩
     rw[hs']
     exact jc ht hu wA g4 hroom (fun a ha=>by cases ha; rw[iD]; exact j1) (fun hh=>by cases hh)
    ·rename_i hle
     have hlt:=Tk hle
     split at g1<;>try exact absurd g1 hfl
     obtain ⟨old,old',k1,k2,k3,k4⟩:=fc hfl hr g1 Tt ⟨_,_,_,rfl,Nat.le_refl _⟩
     exact fresh (w1:=w) (κ1:=κ) hr.drew (Ext.refl _ _ _).drew qf hlt k2 k3 k4 k1
  ·exact absurd g1 hfl
end Go.Vai

namespace Go.Vai
open Go
variable {β:Type} {fl:β} {good:β→Prop} {P:Program} {φ:dG} {h:Heap} {w:World} {t:TypeId}
theorem Cs {s:Sem Unit} {w':World} (hs:s.run P w=.ok () w'):((do s; pure Next.skip:Sem Next)).run P w=.ok .skip w':=by simp[hs]
theorem sS (hfl:¬good fl) {kt et:TypeId} {ty:TypeId} {ts:Array TypeId} (ht:ts[0]? = some t) (hu:P.underlying t=some (.map kt et)) (hr:HR P φ h w)
  {m:Option Nat} {x':Value} {κ:Value→Heap→β} (hg:good (jD fl [] (.map m) h κ)) (hx:VR φ (.map m) x') :
  ∃h' w',good (κ (.tuple #[]) h')∧HR P φ h' w'∧Ext φ φ h h' w w'∧(Builtin.clear_ ts ty #[x']).run P w=.ok (.tuple #[]) w':=by
 cases m with
 | none=>
  cases hx
  exact ⟨h,w,by simpa[jD] using hg,hr,Ext.refl _ _ _,by simp[Builtin.clear_,ht,aO hu]⟩
 | some r=>
  simp only[jD] at hg
  split at hg<;>try exact absurd hg hfl
  rename_i es clock hb
  obtain ⟨hlo,hg⟩:=bz hfl hg
  cases hx with
  | map hp=>
   rename_i pl
   obtain ⟨es',hO,h2⟩:=hr.qb hb hp
   obtain ⟨w',j1,j2,j3⟩:=hr.wC hlo (es1:=[]) (F0:=#[]) (clock':=clock) hb hp .nil
   exact ⟨_,w',hg,j2,j3,by simp[Builtin.clear_,ht,aO hu,c_ hO,j1]⟩
theorem zX (bs:List UInt8) (κ:List Value→β):AN bs κ=κ (bs.map fun b=>.int .u8 (.ofNat b.toNat)):=by
 induction bs generalizing κ with
 | nil=>rfl
 | cons b bs ih=>simp only[AN,bT,ih,List.map_cons]
theorem LX (hfl:¬good fl):∀(l:List Value) (κ:List UInt8→β),good (u8K fl l κ)→∃ns:List Int,l=ns.map (Value.int .u8)∧good (κ (ns.map fun n=>UInt8.ofNat n.toNat)):=by
 intro l
 induction l with
 | nil=>intro κ hg; exact ⟨[],rfl,hg⟩
 | cons v l ih=>
  intro κ hg
  unfold u8K at hg
  split at hg
  ·rename_i e; cases e
  ·rename_i n l2 e
   cases e
   obtain ⟨ns,rfl,g⟩:=ih _ hg
   exact ⟨(n:Int)::ns,rfl,g⟩
  ·exact absurd hg hfl
theorem F2.u8:∀{ns:List Int} {l':List Value},F2 (VR φ) (ns.map (Value.int .u8)) l'→l'=ns.map (Value.int .u8):=by
 intro ns
 induction ns with
 | nil=>intro l' h; cases h; rfl
 | cons n ns ih=>
  intro l' h
  cases h with
  | cons h t=>cases h; rw[ih t]; rfl
set_option maxHeartbeats 2000000 in
theorem Ct (hfl:¬good fl) {op:Op} {i:XI β} (hc:zO fl P op=some i) {tm:T Value} {ρ:Operand→Value} (hρ:∀y∈op.operands.toList,VR φ (eN tm y) (ρ y)) (hr:HR P φ h w)
  {κ:Value→Heap→β} (hg:good (i.run tm h κ)) {o:Oper} (ho:o.op=op):Qt good P φ h w κ ((execOp ρ o).run P w):=by
 have unit:∀{s:Sem Unit},(∃h' w',good (κ undef h')∧HR P φ h' w'∧Ext φ φ h h' w w'∧s.run P w=.ok () w')→execOp ρ o=(do s; pure Next.skip)→
   Qt good P φ h w κ ((execOp ρ o).run P w):=by
  intro s ⟨h',w',g1,g2,g3,g4⟩ e
  exact ⟨φ,undef,undef,h',w',.skip,g1,VR.undef,g2,g3,by rw[e]; exact Cs g4,.inr ⟨rfl,rfl⟩⟩
 have val:∀{s:Sem Value},(∃φ' v v' h' w',good (κ v h')∧VR φ' v v'∧HR P φ' h' w'∧Ext φ φ' h h' w w'∧s.run P w=.ok v' w')→execOp ρ o=(do pure (Next.value (←s)))→
   Qt good P φ h w κ ((execOp ρ o).run P w):=by
  intro s ⟨φ',v,v',h',w',g1,g2,g3,g4,g5⟩ e
  exact ⟨φ',v,v',h',w',.value v',g1,g2,g3,g4,by rw[e]; exact iQ g5,.inl rfl⟩
 cases op<;>simp only[zO] at hc<;>try (cases hc; done)
 case store t a x=>
  split at hc<;>try (cases hc; done)
  rename_i s hs
  cases hc; rw[XI.cU] at hg
  exact unit (A2 hfl hs hr hg (hρ a (by simp[Op.operands])) (hρ x (by simp[Op.operands]))) (by simp only[execOp,ho])
 case mapUpdate t m k x=>
  split at hc<;>try (cases hc; done)
  rename_i kt et hu
  cases hc; rw[XI.qt] at hg
  exact unit (mC hfl hu hr hg (hρ m (by simp[Op.operands])) (hρ k (by simp[Op.operands])) (hρ x (by simp[Op.operands]))) (by simp only[execOp,ho])
 case insert t m k x=>
  split at hc<;>try (cases hc; done)
  rename_i kt et hu
  cases hc; rw[XI.qt] at hg
  exact unit (mC hfl hu hr hg (hρ m (by simp[Op.operands])) (hρ k (by simp[Op.operands])) (hρ x (by simp[Op.operands]))) (by simp only[execOp,ho])
 case range t x=>
  split at hc<;>try (cases hc; done)
  rename_i kt et hu
  cases hc; rw[XI.bZ] at hg
  exact val (A3 hfl hu hr hg (hρ x (by simp[Op.operands]))) (by simp only[execOp,ho])
 case entry it=>
  cases hc; rw[XI.bZ] at hg
  obtain ⟨v,v',g1,g2,g3⟩:=A5 hfl hr hg (hρ it (by simp[Op.operands]))
  exact val ⟨φ,v,v',h,w,g1,g2,hr,Ext.refl _ _ _,g3⟩ (by simp only[execOp,ho])
 case convert src dst x=>
  split at hc<;>try (cases hc; done)
  ·rename_i e hus hud
   split at hc<;>try (cases hc; done)
   rename_i ZI hsz
   cases hc; rw[XI.bZ] at hg
   have sR:=hρ x (by simp[Op.operands])
   unfold n9 at hg
   split at hg<;>try exact absurd hg hfl
   rename_i s hx
   rw[hx] at sR
   generalize hy:ρ x=y at sR
   cases sR
   rw[zX,vm,Nat.zero_add] at hg
   split at hg<;>try exact absurd hg hfl
   rename_i hle; have hle:=ck hle
   obtain ⟨hn,hg⟩:=cI hfl hg
   have hlen:(s.data.toList.map fun b=>Value.int .u8 (.ofNat b.toNat)).length=s.size:=by rw[List.length_map,Array.length_toList]; rfl
   rw[hlen] at hg hle
   have hcap:s.size≤grownCap w s.size 0 e:=LU _
   have hrow:(bytesRow s (grownCap w s.size 0 e)).size=grownCap w s.size 0 e:=by
    simp only[bytesRow,Array.size_append,Array.size_map,Array.size_replicate]
    show s.size+_=_
    omega
   have JN:OR P φ (.ro s.size (lay (s.data.toList.map fun b=>Value.int .u8 (.ofNat b.toNat)) .nil 0) e) ⟨w.drew.heap.size,grownCap w s.size 0 e,1⟩
     (some (.cells (bytesRow s (grownCap w s.size 0 e)) e ((bytesRow s (grownCap w s.size 0 e)).size,(bytesRow s (grownCap w s.size 0 e)).size+1))):=by
    refine ⟨rfl,by rw[hrow]; exact hcap,fun i v ku hi=>?_⟩
    rw[rq _ .nil 0 (by rw[hlen]; omega) i (by unfold Small; omega),if_pos (by rw[hlen]; omega)] at ku
    simp only[Nat.sub_zero,List.getElem?_map] at ku
    have hi2:i<s.data.size:=hi
    refine ⟨v,?_,?_⟩
    ·simp only[bytesRow]
     rw[Array.getElem?_append_left (by simpa using hi2),Array.getElem?_map,←Array.getElem?_toList]
     exact ku
    ·cases hq:s.data.toList[i]? with
     | none=>rw[hq] at ku; cases ku
     | some b=>rw[hq] at ku; cases ku; exact .int _ _
   obtain ⟨m1,m2⟩:=hr.drew.fresh hn (grownCap w s.size 0 e) 1 JN trivial
   refine val (s:=convert src dst (ρ x)) ⟨_,_,_,_,_,hg,.bJ (dO _ _ _) hcap (by simp),m1,m2.UX,?_⟩ (by simp only[execOp,ho])
   rw[hy]
   exact run_bytes_of_string w src dst e s hus hud ZI
  ·rename_i e hus hud
   split at hc<;>try (cases hc; done)
   rename_i ZI
   cases hc; rw[XI.bZ] at hg
   have sR:=hρ x (by simp[Op.operands])
   unfold Cb at hg
   split at hg<;>try exact absurd hg hfl
   rename_i a n c hx
   rw[hx] at sR
   obtain ⟨l,l',g1,g2,g3,g4⟩:=fc hfl hr hg sR ⟨_,_,_,rfl,Nat.le_refl _⟩
   obtain ⟨ns,rfl,g5⟩:=LX hfl _ _ g1
   have hl':=F2.u8 g2
   subst hl'
   have g4:=g4 w rfl
   refine val (s:=convert src dst (ρ x)) ⟨φ,_,_,h,w,g5,.string _,hr,Ext.refl _ _ _,?_⟩ (by simp only[execOp,ho])
   generalize hy:ρ x=y at sR g4
   have fin:∀(a:Addr) (c:Nat),(loadCells a n).run P w=.ok (ns.map (Value.int .u8)).toArray w→(convert src dst (.slice (some a) n c)).run P w=.ok (.string ⟨⟨ns.map fun n=>UInt8.ofNat n.toNat⟩⟩) w:=by
    intro a c hl
    rw[run_convert_bytes_string w src dst e _ n c hus ZI hud,run_bytesToString w a n c ns hl,foldl_push_bytes]
    simp[ByteArray.empty,ByteArray.emptyWithCapacity]
    rfl
   cases sR with
   | eT hle=>
    have hn:ns=[]:=by
     have:=g4
     simp[Builtin.firstCells] at this
     simpa using this
    subst hn
    exact run_convert_bytes_nil w src e hus ZI n c dst hud
   | slice hp hn hc=>exact fin _ _ (by simpa[Builtin.firstCells] using g4)
   | bJ hp hn hc=>exact fin _ _ (by simpa[Builtin.firstCells] using g4)
   | cz _ a' c=>exact fin _ _ (by simpa[Builtin.firstCells] using g4)
 case call c=>
  obtain ⟨callee,args,ts⟩:=c
  cases callee<;>(try simp only at hc)<;>try (cases hc; done)
  rename_i b
  cases b<;>(try simp only at hc)<;>try (cases hc; done)
  case append=>
   split at hc<;>try contradiction
   rename_i s x _ hx
   have hargs:args=#[s,x]:=Array.ext' (by simpa using hx)
   split at hc<;>try contradiction
   rename_i st xt ht ZF
   split at hc<;>try contradiction
   rename_i e hu
   split at hc<;>try contradiction
   rename_i inf xd hi ZG
   split at hc<;>try contradiction
   rename_i z size hz hby
   cases hc; rw[XI.cU] at hg
   exact val (qg (ty:=o.type) hfl ht hu hz hi (ck hby) ZF ZG hr hg (hρ s (by simp[Op.operands,Call.operands,hargs])) (hρ x (by simp[Op.operands,Call.operands,hargs])))
    (by simp[execOp,ho,resolve,invoke,builtin,hargs])
  case copy=>
   split at hc<;>try contradiction
   rename_i d x _ hx
   have hargs:args=#[d,x]:=Array.ext' (by simpa using hx)
   split at hc<;>try contradiction
   rename_i t ht
   split at hc<;>try contradiction
   rename_i e hu
   split at hc<;>try contradiction
   rename_i s hs
   cases hc; rw[XI.cU] at hg
   obtain ⟨v,h',w',g⟩:=Co (ty:=o.type) hfl ht hu hs hr hg (hρ d (by simp[Op.operands,Call.operands,hargs])) (hρ x (by simp[Op.operands,Call.operands,hargs]))
   exact val ⟨φ,v,v,h',w',g⟩ (by simp[execOp,ho,resolve,invoke,builtin,hargs])
  case clear=>
   split at hc<;>try contradiction
   rename_i x _ hx
   have hargs:args=#[x]:=Array.ext' (by simpa using hx)
   have sR:VR φ (eN tm x) (ρ x):=hρ x (by simp[Op.operands,Call.operands,hargs])
   split at hc<;>try contradiction
   rename_i t ht
   split at hc<;>try contradiction
   ·rename_i e hu
    split at hc<;>try contradiction
    rename_i z hz
    cases hc; rw[XI.bZ] at hg
    obtain ⟨h',w',g1,g2,g3,g4⟩:=qz (ty:=o.type) hfl ht hu hz hr hg sR
    exact val ⟨φ,.tuple #[],.tuple #[],h',w',g1,VR.undef,g2,g3,g4⟩ (by simp[execOp,ho,resolve,invoke,builtin,hargs])
   ·rename_i kt et hu
    cases hc; rw[XI.bZ] at hg
    split at hg<;>try exact absurd hg hfl
    rename_i m hm
    rw[hm] at sR
    obtain ⟨h',w',g1,g2,g3,g4⟩:=sS (ty:=o.type) hfl ht hu hr hg sR
    exact val ⟨φ,.tuple #[],.tuple #[],h',w',g1,VR.undef,g2,g3,g4⟩ (by simp[execOp,ho,resolve,invoke,builtin,hargs])
  case cap=>
   split at hc<;>try contradiction
   rename_i x _ hx
   have hargs:args=#[x]:=Array.ext' (by simpa using hx)
   have sR:VR φ (eN tm x) (ρ x):=hρ x (by simp[Op.operands,Call.operands,hargs])
   split at hc<;>try contradiction
   rename_i t ht
   split at hc<;>try contradiction
   rename_i e hu
   cases hc; rw[XI.bZ] at hg
   have hex:execOp ρ o=(do pure (Next.value (←Builtin.cap_ ts o.type #[ρ x]))):=by simp[execOp,ho,resolve,invoke,builtin,hargs]
   split at hg<;>try exact absurd hg hfl
   rename_i a n c hv
   split at hg<;>try exact absurd hg hfl
   rename_i hle; have hle:=ck hle
   rw[hv] at sR
   obtain ⟨a',e3⟩:∃a',ρ x=.slice a' n c:=by
    generalize ρ x=z at sR
    cases sR with
    | eT _=>exact ⟨_,rfl⟩
    | slice _ _ _=>exact ⟨_,rfl⟩
    | bJ _ _ _=>exact absurd hle (by unfold aM; omega)
    | cz _ _ _=>exact absurd hle (by unfold fq; omega)
   rw[e3] at hex
   exact val ⟨φ,_,_,h,w,hg,.int _ _,hr,Ext.refl _ _ _,by simp[Builtin.cap_,ht,aO hu,goInt]⟩ hex
  case delete=>
   split at hc<;>try contradiction
   rename_i m k _ hx
   have hargs:args=#[m,k]:=Array.ext' (by simpa using hx)
   split at hc<;>try contradiction
   rename_i t ht
   split at hc<;>try contradiction
   rename_i kt et hu
   cases hc; rw[XI.cU] at hg
   obtain ⟨h',w',g1,g2,g3,g4⟩:=zj (ty:=o.type) hfl ht hu hr hg (hρ m (by simp[Op.operands,Call.operands,hargs])) (hρ k (by simp[Op.operands,Call.operands,hargs]))
   exact val ⟨φ,.tuple #[],.tuple #[],h',w',g1,VR.undef,g2,g3,g4⟩ (by simp[execOp,ho,resolve,invoke,builtin,hargs])
  case min=>
   split at hc<;>try contradiction
   rename_i a b _ hx
   have hargs:args=#[a,b]:=Array.ext' (by simpa using hx)
   have ha:VR φ (eN tm a) (ρ a):=hρ a (by simp[Op.operands,Call.operands,hargs])
   have hb:VR φ (eN tm b) (ρ b):=hρ b (by simp[Op.operands,Call.operands,hargs])
   cases hc; rw[XI.cU] at hg
   have hex:execOp ρ o=(do pure (Next.value (←Builtin.min_ ts o.type #[ρ a,ρ b]))):=by simp[execOp,ho,resolve,invoke,builtin,hargs]
   split at hg<;>try exact absurd hg hfl
   rename_i k x k' y e1 e2
   rw[e1] at ha; rw[e2] at hb
   have e3:ρ a=.int k x:=by generalize ρ a=z at ha; cases ha; rfl
   have e4:ρ b=.int k' y:=by generalize ρ b=z at hb; cases hb; rfl
   have hrun:=run_min_int2 (P:=P) (w:=w) ts o.type k k' x y
   rw[e3,e4] at hex
   split at hg
   ·rename_i hlt
    rw[fH,decide_eq_true_eq] at hlt
    rw[if_pos hlt] at hrun
    exact val ⟨φ,_,_,h,w,hg,.int _ _,hr,Ext.refl _ _ _,hrun⟩ hex
   ·rename_i hlt
    rw[fH,decide_eq_false_iff_not] at hlt
    rw[if_neg hlt] at hrun
    exact val ⟨φ,_,_,h,w,hg,.int _ _,hr,Ext.refl _ _ _,hrun⟩ hex
  case max=>
   split at hc<;>try contradiction
   rename_i a b _ hx
   have hargs:args=#[a,b]:=Array.ext' (by simpa using hx)
   have ha:VR φ (eN tm a) (ρ a):=hρ a (by simp[Op.operands,Call.operands,hargs])
   have hb:VR φ (eN tm b) (ρ b):=hρ b (by simp[Op.operands,Call.operands,hargs])
   cases hc; rw[XI.cU] at hg
   have hex:execOp ρ o=(do pure (Next.value (←Builtin.max_ ts o.type #[ρ a,ρ b]))):=by simp[execOp,ho,resolve,invoke,builtin,hargs]
   split at hg<;>try exact absurd hg hfl
   rename_i k x k' y e1 e2
   rw[e1] at ha; rw[e2] at hb
   have e3:ρ a=.int k x:=by generalize ρ a=z at ha; cases ha; rfl
   have e4:ρ b=.int k' y:=by generalize ρ b=z at hb; cases hb; rfl
   have hrun:=run_max_int2 (P:=P) (w:=w) ts o.type k k' x y
   rw[e3,e4] at hex
   split at hg
   ·rename_i hlt
    rw[fH,decide_eq_true_eq] at hlt
    rw[if_pos hlt] at hrun
    exact val ⟨φ,_,_,h,w,hg,.int _ _,hr,Ext.refl _ _ _,hrun⟩ hex
   ·rename_i hlt
    rw[fH,decide_eq_false_iff_not] at hlt
    rw[if_neg hlt] at hrun
    exact val ⟨φ,_,_,h,w,hg,.int _ _,hr,Ext.refl _ _ _,hrun⟩ hex
end Go.Vai

namespace Go.Vai
open Go
variable {β:Type} {fl:β} {good:β→Prop} {P:Program} {φ:dG} {h:Heap} {w:World} {t:TypeId}
structure TR (φ:dG) (nt:Nat) (tm:T Value) (a:Act):Prop where
 size:a.tmps.size=nt
 small:nt≤1000000000000
 rel:∀t,t<nt→VR φ (di tm t) (a.tmps.getD t undef)
theorem TR.mono {φ φ':dG} {nt:Nat} {tm:T Value} {a:Act} (hs:Sub φ φ') (ht:TR φ nt tm a):TR φ' nt tm a:=⟨ht.size,ht.small,fun t hlt=>(ht.rel t hlt).mono hs⟩
theorem de {a b:Nat} (h:Nat.ble (Nat.succ a) b=true):a<b:=ck h
theorem TR.eval {nt:Nat} {tm:T Value} {a:Act} (ht:TR φ nt tm a) {x:Operand} (hx:Cc nt x=true):VR φ (eN tm x) (a.eval x):=by
 cases x with
 | tmp t=>exact ht.rel t (de hx)
 | const v=>exact jZ hx
 | func f=>exact VR.func' .nil .nil
 | global g=>cases hx
noncomputable def iL (tm:T Value) (d:Option Nat) (v:Value):T Value:=match d with | some d=>tm.aT d v | none=>tm
theorem fL (tm:T Value) (d:Option Nat) (v:Value) (h:Heap) (κ:T Value→Heap→β):nS tm d v h κ=κ (iL tm d v) h:=by
 cases d with
 | none=>rfl
 | some d=>show T.set tm d v (fun tm=>κ tm h)=_; rw[T.fC]; rfl
def LY (nt:Nat) (d:Option Nat):Bool:=match d with | some d=>Nat.ble (Nat.succ d) nt | none=>true
theorem o_ {nt t:Nat} (hn:nt≤1000000000000) (ht:t<nt):Small t:=by unfold Small; omega
theorem fM {nt:Nat} {tm:T Value} {d:Option Nat} {v:Value} (hn:nt≤1000000000000) (hd:LY nt d=true) {t:Nat} (ht:t<nt):di (iL tm d v) t=if d=some t then v else di tm t:=by
 cases d with
 | none=>simp[iL]
 | some d=>
  have hd':=de hd
  simp only[iL,di]
  rw[T.kZ tm v (o_ hn hd') (o_ hn ht)]
  by_cases he:d=t
  ·simp[he]
  ·simp[he]
theorem TR.put {nt:Nat} {tm:T Value} {a:Act} (ht:TR φ nt tm a) {d:Option Nat} (hd:LY nt d=true) {v v':Value} (hv:VR φ v v'):TR φ nt (iL tm d v) (a.put d v'):=by
 refine ⟨?_,ht.small,?_⟩
 ·cases d<;>simp[Act.put,ht.size]
 ·intro t hlt
  rw[fM ht.small hd hlt]
  have hr:=ht.rel t hlt
  cases d with
  | none=>simpa[Act.put] using hr
  | some d=>
   have hd':=de hd
   by_cases he:d=t
   ·subst he
    have:d<a.tmps.size:=by rw[ht.size]; exact hd'
    simpa[Act.put,Array.getD,this] using hv
   ·have h1:¬(some d=some t):=by simpa using he
    rw[if_neg h1]
    simp only[Array.getD_eq_getD_getElem?] at hr ⊢
    simp only[Act.put]
    rw[Array.getElem?_setIfInBounds_ne he]
    exact hr
theorem dg {nt:Nat} {o:Oper} (h:ew nt o=true):LY nt o.dst=true:=by
 simp only[ew,Bool.and_eq_true] at h
 exact h.2
theorem qA {nt:Nat} {o:Oper} (h:ew nt o=true):∀y∈o.op.operands.toList,Cc nt y=true:=by
 simp only[ew,Bool.and_eq_true,List.all_eq_true] at h
 exact h.1
def sU (good:β→Prop) (P:Program) (φ:dG) (h:Heap) (w:World) (κ:Value→Heap→β) (f:FuncId) (args:Array Value):Prop:=
 (callFunc f args).run P w=.ok (.enter f args) w∧
 Calls P f args w fun e w'=>∃φ' v v' h',e=.returned v'∧good (κ v h')∧VR φ' v v'∧HR P φ' h' w'∧Ext φ φ' h h' w w'
def FR (r:Option Nat):Fence:={ Fence.wide with round:=r }
theorem vv {r:Option Nat} {n:Nat} {f:FuncId} {args:Array Value} {R:Ending→World→Prop}:CallsIn (FR r) n P f args w R↔Calls P f args w R:=callsIn_wide (n:=n)
def U0 (good:β→Prop) (P:Program) (φ:dG) (h:Heap) (w:World) (κ:Value→Heap→β) (e:Ending) (w':World):Prop:=
 ∃φ' v v' h',e=.returned v'∧good (κ v h')∧VR φ' v v'∧HR P φ' h' w'∧Ext φ φ' h h' w w'
def sV (good:β→Prop) (P:Program) (φ:dG) (h:Heap) (w:World) (κ:Value→Heap→β) (r:Result Next):Prop:=
 Qt good P φ h w κ r∨(∃f args,r=.ok (.enter f args) w∧Calls P f args w (U0 good P φ h w κ))∨
 ∃l f tmps as bd,r=.ok (.round l f tmps as bd) w∧∀r0:Option Nat,RoundIn (FR r0) 0 P l f tmps as bd w (U0 good P φ h w κ)
theorem sV.upon {κ:Value→Heap→β} {r:Result Next} (ho:sV good P φ h w κ r) {o:Oper} {a:Act} {next:Act→World→Prop} {Q:Exit→Act→World→Prop} {r0:Option Nat}
  (hn:∀φ' v v' h' w',good (κ v h')→VR φ' v v'→HR P φ' h' w'→Ext φ φ' h h' w w'→next (a.put o.dst v') w'):o.uponIn (FR r0) 0 P a next Q r:=by
 rcases ho with ⟨φ',v,v',h',w',nx,g1,g2,g3,g4,rfl,g6⟩ | ⟨f,args,rfl,hc⟩ | ⟨l,f,tmps,as,bd,rfl,hc⟩
 ·rcases g6 with rfl | ⟨rfl,rfl⟩
  ·exact hn φ' v v' h' w' g1 g2 g3 g4
  ·exact hn φ' v undef h' w' g1 g2 g3 g4
 ·refine ⟨fun hh=>(by cases hh),vv.2 (Calls.mono hc ?_)⟩
  rintro e w' ⟨φ',v,v',h',rfl,g1,g2,g3,g4⟩
  exact hn φ' v v' h' w' g1 g2 g3 g4
 ·refine ⟨fun hh=>(by cases hh),(hc r0).mono ?_⟩
  rintro e w' ⟨φ',v,v',h',rfl,g1,g2,g3,g4⟩
  exact hn φ' v v' h' w' g1 g2 g3 g4
theorem j7 {r0:Option Nat} {o:Oper} {ρ:Operand→Value}:∀f,o.about P w ρ=some f→(FR r0).fn f:=fun _ _=>trivial
def Cu (tmps:Array Value):ResultVar→Sem Value
 | .tmp t=>pure (tmps.getD t undef)
 | .cell c t=>do loadVar t (←asAddr (tmps.getD c undef))
theorem iF {t:TypeId} {ad:Addr}:(Instr.loadAt t (.pointer (some ad))).run P w=(loadVar t ad).run P w:=by
 simp[Instr.loadAt,Instr.sureAddr]
theorem rB {tmps:Array Value} {fn:Func} {vs:List Value} (hm:(fn.results.toList.mapM (Cu tmps)).run P w=.ok vs w) :
  (results fn tmps).run P w=.ok (match vs with | [v]=>v | vs=>.tuple ⟨vs⟩) w:=by
 have he:results fn tmps=(do let vs ←fn.results.mapM (Cu tmps); pure (if h:vs.size=1 then vs[0] else .tuple vs)):=by
  unfold results
  congr 1
 rw[he,Array.mapM_eq_mapM_toList]
 match vs,hm with
 | [],hm=>simp[hm]
 | [v],hm=>simp[hm]
 | v::v2::vs,hm=>simp[hm]
theorem zY (hfl:¬good fl) {a a':Value} {κ:Value→Heap→β} (hg:good (load1 fl a h κ)) (hv:VR φ a a'):∃ad,a'=.pointer (some ad):=by
 unfold load1 at hg
 split at hg<;>try exact absurd hg hfl
 cases hv; exact ⟨_,rfl⟩
theorem JO (hfl:¬good fl) {s:Nat} {a a':Value} {κ:Value→Heap→β} (hg:good (ay fl s a h κ)) (hv:VR φ a a'):∃ad,a'=.pointer (some ad):=by
 unfold ay at hg
 split at hg<;>try exact absurd hg hfl
 cases hv; exact ⟨_,rfl⟩
theorem ou (hfl:¬good fl) (hr:HR P φ h w) {nt:Nat} {tm:T Value} {a:Act} (ht:TR φ nt tm a):∀(rs:List ResultVar) {κ:List Value→β},rs.all (LA nt)=true→
  good (dB fl h tm (rs.map (t_ P)) κ)→∃vs vs',good (κ vs)∧F2 (VR φ) vs vs'∧(rs.mapM (Cu a.tmps)).run P w=.ok vs' w:=by
 intro rs
 induction rs with
 | nil=>intro κ _ hg; exact ⟨[],[],hg,.nil,by simp⟩
 | cons r rs ih=>
  intro κ hok hg
  simp only[List.all_cons,Bool.and_eq_true] at hok
  have fin:∀{v v':Value},(Cu a.tmps r).run P w=.ok v' w→VR φ v v'→good (dB fl h tm (rs.map (t_ P)) fun vs=>κ (v::vs))→
    ∃vs vs',good (κ vs)∧F2 (VR φ) vs vs'∧((r::rs).mapM (Cu a.tmps)).run P w=.ok vs' w:=by
   intro v v' h1 h2 h3
   obtain ⟨vs,vs',g1,g2,g3⟩:=ih hok.2 h3
   exact ⟨_,v'::vs',g1,.cons h2 g2,by simp[List.mapM_cons,g3,h1]⟩
  cases r with
  | tmp t=>
   simp only[List.map_cons,t_,dB,fJ] at hg
   exact fin (by simp[Cu]) (ht.rel t (de hok.1)) hg
  | cell c t=>
   have hc:=ht.rel c (de hok.1)
   simp only[List.map_cons,t_] at hg
   cases hx:mo P t with
   | none=>simp only[hx,dB] at hg; exact absurd hg hfl
   | some b=>
    cases hs:er P t with
    | none=>cases b<;>simp only[hx,hs,dB] at hg<;>exact absurd hg hfl
    | some s=>
     cases b with
     | true=>
      simp only[hx,hs,dB,fJ] at hg
      obtain ⟨ad,had⟩:=JO hfl hg hc
      obtain ⟨v,v',g1,g2,g3⟩:=ue hfl hx hs hg hc hr
      rw[had,iF] at g3
      exact fin (by simp only[Cu,had]; simpa[asAddr] using g3) g2 g1
     | false=>
      simp only[hx,hs,dB,fJ] at hg
      obtain ⟨ad,had⟩:=zY hfl hg hc
      obtain ⟨v,v',g1,g2,g3⟩:=k9 hfl hx hg hc hr
      rw[had,iF] at g3
      exact fin (by simp only[Cu,had]; simpa[asAddr] using g3) g2 g1
theorem zk {name:String} {f:FuncId} (hm:AO P t name=some f) (v:Value):(method (P.types.size+Made.depth) t v name).run P w=.ok (f,v) w:=by
 unfold AO at hm
 split at hm<;>try contradiction
 rename_i i d hi hd
 split at hm<;>try contradiction
 rename_i m hf
 obtain ⟨n,hn⟩:∃n,P.types.size+Made.depth=n+1:=⟨P.types.size+Made.depth-1,by
  have:0<Made.depth:=by decide
  omega⟩
 rw[hn]
 unfold method
 cases hp:m.path.isEmpty with
 | false=>simp[hp] at hm
 | true=>
  have PZ:m.path.toList=[]:=by simpa using hp
  cases hfun:m.func with
  | none=>simp[hp,hfun] at hm
  | some p=>
   obtain ⟨f',b⟩:=p
   have hw:f'=f∧∀wr,(receiverAt t (.val v) b (some wr)).run P w=.ok v w:=by
    cases b with
    | true=>
     cases d<;>simp only[hp,hfun] at hm<;>try contradiction
     cases hm
     exact ⟨rfl,fun wr=>by simp[receiverAt,aO hd,Place.get]⟩
    | false=>
     cases d<;>simp only[hp,hfun] at hm<;>try contradiction
     all_goals (cases hm; exact ⟨rfl,fun wr=>by simp[receiverAt,aO hd,Place.get]⟩)
   obtain ⟨rfl,hw⟩:=hw
   have hpe:m.path=#[]:=by simpa using hp
   simp[typeInfo,hi,hf,hpe,follow,hfun,hw]
theorem zl {name:String} {f:FuncId} {off:Nat} {ty:TypeId} (hm:ve P t name=some (f,off,ty)) {ad:Addr} {v:Value} (hl:(loadVar ty (ad.add off)).run P w=.ok v w) :
  mo P ty=some false∧(method (P.types.size+Made.depth) t (.pointer (some ad)) name).run P w=.ok (f,v) w:=by
 unfold ve at hm
 split at hm<;>try contradiction
 rename_i i hi
 split at hm<;>try contradiction
 rename_i m hf
 split at hm<;>try contradiction
 rename_i s f' hp hfun
 split at hm<;>try contradiction
 rename_i fs hd hs
 split at hm<;>try contradiction
 rename_i sJ ae3
 split at hm<;>try contradiction
 rename_i e hag hsz ZI
 cases hm
 refine ⟨hag,?_⟩
 obtain ⟨n,hn⟩:∃n,P.types.size+Made.depth=n+1:=⟨P.types.size+Made.depth-1,by
  have:0<Made.depth:=by decide
  omega⟩
 rw[hn]
 unfold method
 simp[typeInfo,hi,hf,hp,hfun,follow,aO hs,ae3,hd,Place.get,asAddr,fieldPlace,b_ hsz,receiverAt,aO ZI,hl]
theorem zm {name:String} {f:FuncId} {ty:TypeId} (hm:vf P t name=some (f,ty)) {ad:Addr} {v:Value} (hl:(loadVar ty ad).run P w=.ok v w) :
  (method (P.types.size+Made.depth) t (.pointer (some ad)) name).run P w=.ok (f,v) w:=by
 unfold vf at hm
 split at hm<;>try contradiction
 rename_i i e hi hu
 split at hm<;>try contradiction
 rename_i m hf
 split at hm<;>try contradiction
 rename_i f' hp hfun hag
 cases hm
 obtain ⟨n,hn⟩:∃n,P.types.size+Made.depth=n+1:=⟨P.types.size+Made.depth-1,by
  have:0<Made.depth:=by decide
  omega⟩
 rw[hn]
 unfold method
 have hpe:m.path=#[]:=by simpa using hp
 have hw:∀a b:String,(Builtin.ssaWrapNilChk_ #[t] t #[.pointer (some ad),strVal a,strVal b]).run P w=.ok (.pointer (some ad)) w:=fun _ _=>rfl
 simp[typeInfo,hi,hf,hpe,hfun,follow,Place.get,asAddr,receiverAt,aO hu,hw,hl]
end Go.Vai

namespace Go.Vai
open Go
variable {β:Type} {fl:β} {good:β→Prop} {pr:ki β} {P:Program} {φ:dG} {h:Heap} {w:World} {t:TypeId}
def LZ:Ex→Exit
 | .normal=>.normal
 | .exit i=>.exit i
 | .ret=>.ret
def Marks (N:Nat) (φ:dG) (w:World):Nat→List Deferred→Prop
 | _,[]=>True
 | U,d::l=>∃D,d={ target:=.collected D,args:=#[] }∧N≤D∧D<U∧w.heap[D]? = some (.deferred (some []))∧(∀b pl,φ b=some pl→pl.B≠D)∧Marks N φ w D l
theorem Marks.le {N:Nat}:∀{l:List Deferred} {U U':Nat},Marks N φ w U l→U≤U'→Marks N φ w U' l
 | [],_,_,_,_=>trivial
 | _::_,_,_,⟨D,h1,h2,h3,h4,h5,h6⟩,hU=>⟨D,h1,h2,Nat.lt_of_lt_of_le h3 hU,h4,h5,h6⟩
theorem Ext.Tu {φ':dG} {h':Heap} {w':World} (hx:Ext φ φ' h h' w w') {D:Nat} (hD:D<w.heap.size) (hn:∀b pl,φ b=some pl→pl.B≠D):∀b pl,φ' b=some pl→pl.B≠D:=by
 intro b pl hb
 cases h0:φ b with
 | some p=>
  have:=hx.sub b p h0
  rw[hb] at this; cases this
  exact hn b pl h0
 | none=>
  rcases (hx.new b pl h0 hb).2 with h1 | ⟨b0,p0,h1,h2⟩
  ·omega
  ·rw[←h2]; exact hn b0 p0 h1
theorem Marks.mono {N:Nat} {φ':dG} {h':Heap} {w':World} (hx:Ext φ φ' h h' w w'):∀{l:List Deferred} {U:Nat},U≤w.heap.size→Marks N φ w U l→Marks N φ' w' U l
 | [],_,_,_=>trivial
 | _::_,_,hU,⟨D,h1,h2,h3,h4,h5,h6⟩=>
  ⟨D,h1,h2,h3,by rw[hx.ze D (by omega) h5]; exact h4,hx.Tu (by omega) h5,Marks.mono hx (by omega) h6⟩
theorem Marks.append {N N2 U1:Nat} {l1:List Deferred} (h1:Marks N φ w U1 l1) (hN:N≤N2) (hU:U1≤N2):∀{l2:List Deferred} {U:Nat},U1≤U→Marks N2 φ w U l2→Marks N φ w U (l2++l1)
 | [],_,hle,_=>h1.le hle
 | _::_,_,_,⟨D,e1,e2,e3,e4,e5,e6⟩=>⟨D,e1,Nat.le_trans hN e2,e3,e4,e5,Marks.append h1 hN hU (Nat.le_trans hU e2) e6⟩
def Post (good:β→Prop) (P:Program) (nt:Nat) (φ:dG) (h:Heap) (w:World) (ds:List Deferred) (κ:Ex→T Value→Heap→β) (e:Exit) (a':Act) (w':World):Prop:=
 ∃x cC h' φ',e=LZ x∧good (κ x cC h')∧TR φ' nt cC a'∧HR P φ' h' w'∧Ext φ φ' h h' w w'∧∃ms,a'.defers=ms++ds∧Marks w.heap.size φ' w' w'.heap.size ms
def kz (good:β→Prop) (P:Program) (rec:Rec β):Prop:=
 ∀(c:Code) (r:Option Nat) (tm:T Value) (h:Heap) (κ:Ex→T Value→Heap→β) (φ:dG) (w:World) (nt:Nat) (a:Act),(r=none∨n_ c=true)→codeOk nt c=true→TR φ nt tm a→HR P φ h w→good (rec c tm h κ)→
  c.wpIn (FR r) 0 P (Post good P nt φ h w a.defers κ) a w
structure fN (good:β→Prop) (pr:ki β) (P:Program):Prop where
 both:∀x y,good (pr.both x y)→good x∧good y
 fn:∀f g,pr.fn f=some g→∀(args args':List Value) (h:Heap) (φ:dG) (w:World) (κ:Value→Heap→β),F2 (VR φ) args args'→HR P φ h w→good (g args h κ)→sU good P φ h w κ f args'.toArray
theorem HR.aside (hr:HR P φ h w) {D:Nat} (hn:∀b pl,φ b=some pl→pl.B≠D) (o:Obj):HR P φ h (w.putObj D o):=by
 refine ⟨fun b ob pl h1 h2=>?_,fun b pl h1=>?_,hr.keys,hr.LI,hr.inj,hr.lo⟩
 ·rw[World.putObj_heap_other (hn b pl h2)]; exact hr.obj b ob pl h1 h2
 ·rw[World.putObj_size]; exact hr.dom b pl h1
theorem Ext.aside {φ':dG} {h':Heap} {w0:World} (hx:Ext φ φ' h h' w0 w) {D:Nat} (hD:w0.heap.size≤D) (ds:Option (List Deferred)):Ext φ φ' h h' w0 (w.putObj D (.deferred ds)) where
 sub:=hx.sub
 new:=hx.new
 nx:=hx.nx
 size:=by rw[World.putObj_size]; exact hx.size
 ze:=fun B hB hn=>by rw[World.putObj_heap_other (by omega)]; exact hx.ze B hB hn
 B1:=hx.B1
 tape:=hx.tape
 os:=hx.os
 output:=hx.output
 fz:=fun B hB=>by
  by_cases he:B=D
  ·subst he
   by_cases hl:B<w.heap.size
   ·rw[World.putObj_heap_same hl]; trivial
   ·have:(w.putObj B (.deferred ds)).heap[B]? = none:=by simp[World.putObj_size]; omega
    rw[this]; trivial
  ·rw[World.putObj_heap_other he]; exact hx.fz B hB
 lo:=hx.lo
 FH:=hx.FH
 FI:=fun x o pl h1 h2 h3 h4 h5=>by rw[World.putObj_heap_other (by omega)]; exact hx.FI x o pl h1 h2 h3 h4 h5
 dr:=hx.dr
theorem ow {fn:Func} {a:Act} {φ':dG} {h':Heap} {w0:World} {R:Ending→World→Prop}
  (hend:∀w':World,HR P φ' h' w'→Ext φ φ' h h' w0 w'→∃v,(results fn a.tmps).run P w'=.ok v w'∧R (.returned v) w') :
  ∀(ms:List Deferred) (U:Nat) (w':World),Marks w0.heap.size φ' w' U ms→HR P φ' h' w'→Ext φ φ' h h' w0 w'→LeavesInM (FR none) 0 P fn a.tmps R ms .returning w'
 | [],_,w',_,hr,hx=>hend w' hr hx
 | _::ms,_,w',⟨D,e1,e2,e3,e4,e5,e6⟩,hr,hx=>by
  subst e1
  have hr':=hr.aside e5 (.deferred none)
  have hx':=hx.aside e2 none
  refine ⟨by simp,.inl ⟨D,w'.putObj D (.deferred none),rfl,run_takeDeferred e4,ow hend ms D _ ?_ hr' hx'⟩⟩
  have keep:∀(l:List Deferred) (U:Nat),U≤D→Marks w0.heap.size φ' w' U l→Marks w0.heap.size φ' (w'.putObj D (.deferred none)) U l:=by
   intro l
   induction l with
   | nil=>intro _ _ _; trivial
   | cons d l ih=>
    rintro U hU ⟨D',f1,f2,f3,f4,f5,f6⟩
    exact ⟨D',f1,f2,f3,by rw[World.putObj_heap_other (by omega)]; exact f4,f5,ih D' (by omega) f6⟩
  exact keep ms D (Nat.le_refl _) e6
theorem rC {f:FuncId} {c:Code} {rs:List zc} {nt:Nat} (hc:vU P f=.mk c rs nt) :
  ∃fn,P.funcs[f]? = some fn∧fn.body=some c∧fn.ntmps=nt∧rs=fn.results.toList.map (t_ P)∧codeOk nt c=true∧fn.results.toList.all (LA nt)=true∧nt≤1000000000000∧
   ∀(args:Array Value) (w:World),(callFunc f args).run P w=.ok (.enter f args) w:=by
 unfold vU at hc
 split at hc<;>try contradiction
 rename_i fn hf
 split at hc<;>try contradiction
 rename_i hn
 split at hc<;>try contradiction
 rename_i c' hb
 split at hc<;>try contradiction
 rename_i hok
 simp only[Bool.and_eq_true] at hok
 cases hc
 refine ⟨fn,hf,hb,rfl,rfl,hok.1.1,hok.1.2,ck hok.2,fun args w=>?_⟩
 have hn' : ¬ fn.name = "runtime.NumGoroutine" := by simpa using hn
 simp[callFunc,hf,hn',hb]
theorem F6 (vs:List Value):∀(tm:T Value) (i:Nat) (κ:T Value→β),AP vs tm i κ=κ (lay vs tm i):=by
 induction vs with
 | nil=>intro tm i κ; rfl
 | cons v vs ih=>
  intro tm i κ
  show T.set tm i v (fun tm=>AP vs tm (Nat.succ i) κ)=_
  rw[T.fC,ih]
  rfl
theorem TR.start {args args':List Value} {nt:Nat} (ha:F2 (VR φ) args args') (hn:nt≤1000000000000) (hle:args.length≤nt) :
  TR φ nt (lay args .nil 0) { tmps:=args'.toArray++Array.replicate (nt-args'.toArray.size) undef,defers:=[] }:=by
 have hlen:=ha.length
 refine ⟨by simp[←hlen]; omega,hn,fun t ht=>?_⟩
 simp only[di]
 rw[rq args .nil 0 (by omega) t (by unfold Small; omega)]
 simp only[Array.getD_eq_getD_getElem?]
 by_cases hlt:t<args.length
 ·rw[if_pos (by omega)]
  obtain ⟨v,hv⟩:∃v,args[t]? = some v:=⟨args[t],by simp[hlt]⟩
  obtain ⟨v',e1,e2⟩:=ha.get t v hv
  rw[Array.getElem?_append_left (by simp; omega)]
  simpa[hv,e1] using e2
 ·rw[if_neg (by omega),T.get_nil,Array.getElem?_append_right (by simp; omega),Array.getElem?_replicate]
  have hu:((if t-args'.toArray.size<nt-args'.toArray.size then some undef else none:Option Value).getD undef)=undef:=by split<;>rfl
  rw[hu]
  exact VR.undef
theorem F2.toList {a a':Array Value} (h:a.toList.length=a'.toList.length) (hv:∀(i:Nat) (v v':Value),a.toList[i]? = some v→a'.toList[i]? = some v'→VR φ v v'):F2 (VR φ) a.toList a'.toList:=
 F2.kj h hv
theorem e_ (hfl:¬good fl) (hp:fN good pr P) {rec:Rec β} (ez:kz good P rec) {f:FuncId} {args args':List Value} (ha:F2 (VR φ) args args') (hr:HR P φ h w)
  {κ:Value→Heap→β} (hg:good (kY fl pr P rec f args h κ)):sU good P φ h w κ f args'.toArray:=by
 unfold kY at hg
 split at hg
 ·rename_i g hg'
  exact hp.fn f g hg' args args' h φ w κ ha hr hg
 ·split at hg
  ·exact absurd hg hfl
  ·rename_i c rs nt hc
   obtain ⟨fn,hf,hb,rfl,rfl,B2,hrk,hnt,wD⟩:=rC hc
   split at hg<;>try exact absurd hg hfl
   rename_i hle
   rw[F6] at hg
   refine ⟨wD _ _,?_⟩
   have hst:=TR.start (nt:=fn.ntmps) ha hnt (ck hle)
   refine vv (r:=none) (n:=0) |>.1 (callsIn_of_wp_marks hf hb trivial (wpIn_mono (ez c none _ h _ φ w fn.ntmps _ (.inl rfl) B2 hst hr hg) ?_))
   rintro e a' w' ⟨x,cC,h',φ',rfl,g1,g2,g3,g4,ms,g5,g6⟩
   have P4:a'.defers=ms:=by rw[g5]; simp
   have fin:good (dB fl h' cC (fn.results.toList.map (t_ P)) fun vs=>LB κ h' vs)→
     LeavesInM (FR none) 0 P fn a'.tmps (fun e w'=>∃φ' v v' h',e=.returned v'∧good (κ v h')∧VR φ' v v'∧HR P φ' h' w'∧Ext φ φ' h h' w w') a'.defers .returning w':=by
    intro k
    rw[P4]
    refine ow (a:=a') (φ':=φ') (h':=h') ?_ ms _ w' g6 g3 g4
    intro w2 HU hx2
    obtain ⟨vs,vs',k1,k2,k3⟩:=ou hfl HU g2 _ hrk k
    refine ⟨_,rB k3,?_⟩
    cases k2 with
    | nil=>exact ⟨φ',_,_,h',rfl,k1,VR.tuple' .nil,HU,hx2⟩
    | cons hv hvs=>
     cases hvs with
     | nil=>exact ⟨φ',_,_,h',rfl,k1,hv,HU,hx2⟩
     | cons Qs hvs=>exact ⟨φ',_,_,h',rfl,k1,VR.tuple' (.cons hv (.cons Qs hvs)),HU,hx2⟩
   cases x with
   | normal=>exact fin g1
   | exit i=>exact absurd g1 hfl
   | ret=>exact fin g1
theorem sV.call {κ:Value→Heap→β} {f:FuncId} {args:Array Value} (hc:sU good P φ h w κ f args) {s:Sem Next} (hs:s.run P w=(callFunc f args).run P w):sV good P φ h w κ (s.run P w):=
 .inr (.inl ⟨f,args,by rw[hs,hc.1],hc.2⟩)
theorem HR.wE (hr:HR P φ h w) {b:Nat} {st:LoopState} {j8:Option Ex} {tm:T Value} {ps:List Nat} {x y:Code} {pl:Pl} (hb:h.bl.get b=some (.loop st j8 tm ps x y)) (hp:φ b=some pl) :
  ∃r,w.heap[pl.B]? = some (.loop r)∧r.state=st∧zV j8 r.pending∧r.params.toList=ps∧r.assign=x∧r.body=y∧
   ∃nt,Cd nt ps x y∧r.tmps.size=nt∧∀t,t<nt→VR φ (di tm t) (r.tmps.getD t undef):=by
 have:=hr.obj b _ pl hb hp
 cases hO:w.heap[pl.B]? with
 | none=>rw[hO] at this; exact this.elim
 | some O=>
  rw[hO] at this
  cases O<;>simp only[OR] at this<;>try exact this.elim
  exact ⟨_,rfl,this⟩
theorem HR.rD (hr:HR P φ h w) {b:Nat} (hlo:h.lo≤b) {st st':LoopState} {j8 uo:Option Ex} {tm:T Value} {ps:List Nat} {x y:Code} {pl:Pl} (hb:h.bl.get b=some (.loop st j8 tm ps x y)) (hp:φ b=some pl)
  {r:Loop} (hO:w.heap[pl.B]? = some (.loop r)) {pd:Option Code} (U2:zV uo pd) :
  HR P φ ⟨h.nx,h.bl.aT b (.loop st' uo tm ps x y),h.lo⟩ (w.putObj pl.B (.loop { r with state:=st',pending:=pd }))∧
  Ext φ φ h ⟨h.nx,h.bl.aT b (.loop st' uo tm ps x y),h.lo⟩ w (w.putObj pl.B (.loop { r with state:=st',pending:=pd })):=by
 obtain ⟨r',Tn,k1,k2,k3,k4,k5,k6⟩:=hr.wE hb hp
 rw[hO] at Tn; cases Tn
 refine hr.kU hlo hp ⟨_,hb,trivial⟩ (by simp) (fun k hk=>World.putObj_heap_other hk) ?_ rfl rfl rfl (.inl trivial)
 rw[World.putObj_heap_same (hr.dom b pl hp).2]
 exact ⟨rfl,U2,k3,k4,k5,k6⟩
theorem L5:∀(ps:List Nat) (vs:List Value) (tm:T Value) (κ:T Value→β),∃cC,vV ps vs tm κ=κ cC∧
  ∀{φ:dG} {nt:Nat} {vs':List Value} {tmps:Array Value},F2 (VR φ) vs vs'→ps.length=vs.length→ps.all (fun t=>Nat.ble (Nat.succ t) nt)=true→nt≤1000000000000→tmps.size=nt→(∀t,t<nt→VR φ (di tm t) (tmps.getD t undef))→
   ((ps.zip vs').foldl (fun t (x:Nat × Value)=>t.setIfInBounds x.1 x.2) tmps).size=nt∧∀t,t<nt→VR φ (di cC t) (((ps.zip vs').foldl (fun t (x:Nat × Value)=>t.setIfInBounds x.1 x.2) tmps).getD t undef):=by
 intro ps
 induction ps with
 | nil=>intro vs tm κ; exact ⟨tm,by cases vs<;>rfl,fun _ _ _ _ h2 h3=>⟨by simpa using h2,by simpa using h3⟩⟩
 | cons p ps ih=>
  intro vs tm κ
  cases vs with
  | nil=>exact ⟨tm,rfl,fun _ h1 _ _ _ _=>by simp at h1⟩
  | cons v vs=>
   obtain ⟨cC,e1,e2⟩:=ih vs (tm.aT p v) κ
   refine ⟨cC,by show T.set tm p v (fun tm=>vV ps vs tm κ)=_; rw[T.fC]; exact e1,?_⟩
   intro φ nt vs' tmps hv hl hps hnt hsz ae5
   cases hv with
   | cons hv hvs=>
    simp only[List.all_cons,Bool.and_eq_true] at hps
    have hp:p<nt:=de hps.1
    simp only[List.zip_cons_cons,List.foldl_cons]
    refine e2 hvs (by simpa using hl) hps.2 hnt (by simpa using hsz) ?_
    intro t ht
    simp only[di]
    rw[T.kZ tm v (o_ hnt hp) (o_ hnt ht)]
    have:=ae5 t ht
    simp only[Array.getD_eq_getD_getElem?] at this ⊢
    by_cases he:p=t
    ·subst he
     rw[if_pos rfl,Array.getElem?_setIfInBounds_self_of_lt (by omega)]
     exact hv
    ·rw[if_neg he,Array.getElem?_setIfInBounds_ne he]
     exact this
theorem zV.jump {e:Ex}:∀{c:Option Code},zV (some e) c→(e=.ret∧c=some .ret)∨∃i,e=.exit i∧c=some (.exit i):=by
 intro c hp
 cases e<;>cases c<;>try exact hp.elim
 all_goals (rename_i c; cases c<;>try exact hp.elim)
 ·exact .inr ⟨_,rfl,by have:_=_:=hp; rw[this]⟩
 ·exact .inl ⟨rfl,rfl⟩
theorem A6 (hfl:¬good fl) {rec:Rec β} (ez:kz good P rec) {l:Nat} {pl:Pl} (hp:φ l=some pl) {args args':List Value} (ha:F2 (VR φ) args args') (hr:HR P φ h w)
  {κ:Value→Heap→β} (hg:good (sK fl rec l args h κ)):sV good P φ h w κ ((Instr.yield pl.B args'.toArray).run P w):=by
 unfold sK at hg
 split at hg<;>try exact absurd hg hfl
 rename_i st j8 jR ps x y hb
 split at hg<;>try exact absurd hg hfl
 rename_i hlen; have hlen:=bY hlen
 obtain ⟨r,hO,k1,k2,k3,k4,k5,nt,k6,k7,k8⟩:=hr.wE hb hp
 obtain ⟨tm1,e1,e2⟩:=L5 ps args jR (fun tm=>rec x tm h (ig fl rec l y κ))
 rw[e1] at hg
 have hal:=ha.length
 have hps:r.params.size=ps.length:=by rw[←k3]; simp
 have hy:=run_yield (P:=P) (args:=args'.toArray) hO (by simp; omega)
 refine .inr (.inr ⟨pl.B,r.fn,_,r.assign,r.body,hy,fun r0=>?_⟩)
 have aaB:(r.params.zip args'.toArray).foldl (fun tmps (x:Nat × Value)=>tmps.setIfInBounds x.1 x.2) r.tmps=(ps.zip args').foldl (fun t (x:Nat × Value)=>t.setIfInBounds x.1 x.2) r.tmps:=by
  rw[←Array.foldl_toList,Array.toList_zip,k3]
 obtain ⟨f1,f2⟩:=e2 ha (by omega) k6.ps k6.small k7 k8
 rw[k4,k5]
 have hst:TR φ nt tm1 { tmps:=(r.params.zip args'.toArray).foldl (fun tmps (x:Nat × Value)=>tmps.setIfInBounds x.1 x.2) r.tmps,defers:=[] }:=by
  rw[aaB]; exact ⟨f1,k6.small,f2⟩
 have U3:RoundIn (FR r0) 0 P pl.B r.fn ((r.params.zip args'.toArray).foldl (fun tmps (x:Nat × Value)=>tmps.setIfInBounds x.1 x.2) r.tmps) x y w (U0 good P φ h w κ):=by
  refine roundIn_of_wpIn (F:=FR r0) trivial ?_
  refine wpIn_mono (ez x (some pl.B) tm1 h _ φ w nt _ (.inr k6.ra) k6.ca hst hr hg) ?_
  rintro e a1 w1 ⟨x1,ZJ,h1,φ1,rfl,g1,g2,g3,g4,ms,g5,g6⟩
  unfold ig at g1
  split at g1<;>try exact absurd g1 hfl
  split at g1<;>try exact absurd g1 hfl
  rename_i aaC akk ps1 x2 y2 hb1
  obtain ⟨hlo,g1⟩:=bz hfl g1
  have hp1:=g4.sub l pl hp
  obtain ⟨r1,hO1,q1,q2,q3,q4,q5,q6⟩:=g3.wE hb1 hp1
  obtain ⟨m1,m2⟩:=g3.rD (st':=.busy) (uo:=aaC) hlo hb1 hp1 hO1 (pd:=r1.pending) q2
  refine ⟨_,run_beginRound hO1 q1,?_⟩
  refine wpIn_mono (ez y (some pl.B) ZJ _ _ φ1 _ nt a1 (.inr k6.rb) k6.cb g2 m1 g1) ?_
  rintro e a2 w2 ⟨x3,tm3,h3,φ3,rfl,j1,j2,j3,j4,ms2,j5,j6⟩
  unfold mu at j1
  split at j1<;>try exact absurd j1 hfl
  rename_i st3 aiH akl ps3 x4 y4 hb3
  have L6:=j4.sub l pl hp1
  obtain ⟨r3,ZK,_⟩:=j3.wE hb3 L6
  have hall:=g4.trans (m2.trans j4)
  cases x3 with
  | normal=>
   obtain ⟨F7,j1⟩:=bz hfl j1
   obtain ⟨n1,n2⟩:=j3.rD (st':=.ready) (uo:=none) F7 hb3 L6 ZK (pd:=none) trivial
   exact ⟨_,_,run_endRound none ZK,φ3,_,_,_,rfl,j1,.bool true,n1,hall.trans n2⟩
  | exit i=>
   obtain ⟨F7,j1⟩:=bz hfl j1
   obtain ⟨n1,n2⟩:=j3.rD (st':=.done) (uo:=some (.exit i)) F7 hb3 L6 ZK (pd:=some (.exit i)) rfl
   exact ⟨_,_,run_endRound (some (.exit i)) ZK,φ3,_,_,_,rfl,j1,.bool false,n1,hall.trans n2⟩
  | ret=>
   obtain ⟨F7,j1⟩:=bz hfl j1
   obtain ⟨n1,n2⟩:=j3.rD (st':=.done) (uo:=some .ret) F7 hb3 L6 ZK (pd:=some .ret) trivial
   exact ⟨_,_,run_endRound (some .ret) ZK,φ3,_,_,_,rfl,j1,.bool false,n1,hall.trans n2⟩
 exact U3
theorem wF (hfl:¬good fl) (hp:fN good pr P) {rec:Rec β} (ez:kz good P rec) {c:Call} {tm:T Value} {a:Act} (hop:∀y∈c.operands.toList,VR φ (eN tm y) (a.eval y))
  (hr:HR P φ h w) {κ:Value→Heap→β} (hg:good (mz fl pr P c rec tm h κ)) {o:Oper} (ho:o.op=.call c):sV good P φ h w κ ((execOp a.eval o).run P w):=by
 obtain ⟨callee,args,ts⟩:=c
 have hargs:F2 (VR φ) (args.toList.map (eN tm)) (args.toList.map a.eval):=F2.map _ fun y hy=>hop y (by simp[Call.operands] at hy ⊢; exact .inr hy)
 cases callee with
 | builtin b=>exact absurd hg hfl
 | value x=>
  have gen:good (Qk tm args.toList fun args=>ev tm x fun fv=>zP fl pr P rec fv args h κ)→sV good P φ h w κ ((execOp a.eval o).run P w):=by
   intro hg
   rw[qs,fJ] at hg
   have sR:VR φ (eN tm x) (a.eval x):=hop x (by simp[Call.operands])
   unfold zP at hg
   split at hg<;>try exact absurd hg hfl
   rotate_left
   ·rename_i l first cap hv
    split at hg<;>try exact absurd hg hfl
    rw[hv] at sR
    generalize hz:a.eval x=z at sR
    cases sR with
    | yield hp=>
     have:=A6 hfl ez hp hargs hr hg
     have he:(args.toList.map a.eval).toArray=args.map a.eval:=by apply Array.ext'; simp
     rw[he] at this
     simpa[execOp,ho,resolve,hz,Deferred.ofValue,invoke] using this
   rename_i f first cap hv
   rw[hv] at sR
   generalize hz:a.eval x=z at sR
   cases sR with
   | func fn a1 ZL b1 ZM ha hb vj hvb=>
    have hall:=((F2.toList ha vj).append hargs).append (F2.toList hb hvb)
    refine sV.call (e_ hfl hp ez hall hr hg) ?_
    have he:(ZL.toList++args.toList.map a.eval++ZM.toList).toArray=ZL++args.map a.eval++ZM:=by apply Array.ext'; simp
    rw[he]
    simp[execOp,ho,resolve,hz,Deferred.ofValue,invoke]
  cases x with
  | func f=>
   simp only[mz,qs] at hg
   refine sV.call (e_ hfl hp ez hargs hr hg) ?_
   have he:(args.toList.map a.eval).toArray=args.map a.eval:=by apply Array.ext'; simp
   rw[he]
   simp[execOp,ho,resolve,Act.eval,Deferred.ofValue,invoke]
  | tmp t=>exact gen hg
  | const v=>exact gen hg
  | global g=>exact gen hg
 | invoke r name=>
  simp only[mz,qs,fJ] at hg
  have hrv:VR φ (eN tm r) (a.eval r):=hop r (by simp[Call.operands])
  unfold LC at hg
  split at hg<;>try exact absurd hg hfl
  rename_i t v hv
  have e0:∀(v':Value),a.eval r=.iface t v'→(execOp a.eval o).run P w=(callMethod (.iface t v') name (args.map a.eval)).run P w:=by
   intro v' hz
   have hx:(#[Value.iface t v']++args.map a.eval).extract 1 (#[Value.iface t v']++args.map a.eval).size=args.map a.eval:=by
    apply Array.ext'; simp; exact List.take_of_length_le (by simp)
   rw[←hx]
   have h0:(#[Value.iface t v']++args.map a.eval)[0]? = some (.iface t v'):=by
    rw[Array.getElem?_append_left (by simp)]; rfl
   simp[execOp,ho,resolve,hz,invoke,h0]
  have he:∀v':Value,(v'::args.toList.map a.eval).toArray=#[v']++args.map a.eval:=fun v'=>by apply Array.ext'; simp
  rw[hv] at hrv
  generalize hz:a.eval r=z at hrv
  cases hrv with
  | iface _ hvv=>
   rename_i v'
   split at hg
   ·rename_i f hm
    refine sV.call (e_ hfl hp ez (F2.cons hvv hargs) hr hg) ?_
    have:=zk (P:=P) (w:=w) hm v'
    rw[e0 v' hz,he]
    simp only[callMethod]
    simp
    rw[this]
    simp
   ·split at hg
    rotate_left
    ·split at hg<;>try exact absurd hg hfl
     rename_i f ty hm
     have hag:mo P ty=some false:=by
      unfold vf at hm
      split at hm<;>try contradiction
      split at hm<;>try contradiction
      split at hm<;>try contradiction
      rename_i hag
      cases hm
      exact hag
     obtain ⟨ad,rfl⟩:=zY hfl hg hvv
     obtain ⟨v2,v2',g1,g2,g3⟩:=k9 hfl hag hg hvv hr
     rw[iF] at g3
     have ZN:=zm (P:=P) (w:=w) (ad:=ad) hm g3
     refine sV.call (e_ hfl hp ez (F2.cons g2 hargs) hr g1) ?_
     rw[e0 _ hz,he]
     simp only[callMethod]
     simp
     rw[ZN]
     simp
    rename_i f off ty hm
    unfold fieldAddrB at hg
    split at hg<;>try exact absurd hg hfl
    rename_i b ob
    rw[bT] at hg
    cases hvv with
    | ptr hpp=>
     rename_i pl
     have hag:mo P ty=some false:=by
      unfold ve at hm
      split at hm<;>try contradiction
      split at hm<;>try contradiction
      split at hm<;>try contradiction
      split at hm<;>try contradiction
      split at hm<;>try contradiction
      split at hm<;>try contradiction
      rename_i hag _ _
      cases hm
      exact hag
     obtain ⟨v2,v2',g1,g2,g3⟩:=k9 hfl hag hg (VR.ptr hpp) hr
     rw[iF,show (⟨pl.B,ob.add off,none⟩:Addr)=(⟨pl.B,ob,none⟩:Addr).add off from (by simp[Addr.add])] at g3
     have ZN:=(zl (P:=P) (w:=w) (ad:=⟨pl.B,ob,none⟩) hm g3).2
     refine sV.call (e_ hfl hp ez (F2.cons g2 hargs) hr g1) ?_
     rw[e0 _ hz,he]
     simp only[callMethod]
     simp
     rw[ZN]
     simp
end Go.Vai

namespace Go.Vai
open Go
variable {β:Type} {fl:β} {good:β→Prop} {pr:ki β} {P:Program} {φ:dG} {h:Heap} {w:World} {t:TypeId}
theorem Cv (hfl:¬good fl) (hp:fN good pr P) {rec:Rec β} (ez:kz good P rec) {op:Op} {tm:T Value} {a:Act} (hρ:∀y∈op.operands.toList,VR φ (eN tm y) (a.eval y))
  (hr:HR P φ h w) {κ:Value→Heap→β} (hg:good (oc fl pr P op rec tm h κ)) {o:Oper} (ho:o.op=op):sV good P φ h w κ ((execOp a.eval o).run P w):=by
 unfold oc at hg
 cases hR:nI fl P op with
 | some i=>
  rw[hR] at hg
  obtain ⟨v,v',g1,g2,g3⟩:=uh hfl hR hρ hr hg ho
  exact .inl ⟨φ,v,v',h,w,.value v',g1,g2,hr,Ext.refl _ _ _,g3,.inl rfl⟩
 | none=>
  cases hA:p_ fl P op with
  | some i=>
   simp only[hR,hA] at hg
   obtain ⟨ob,mk,O,g1,g2,g3,g4,g5⟩:=uk (P:=P) (w:=w) (good:=good) hfl hA hρ hg ho
   obtain ⟨k1,k2⟩:=cI hfl g1
   obtain ⟨m1,m2⟩:=hr.fresh k1 0 0 (g3 _) g2
   exact .inl ⟨_,_,_,_,_,.value _,k2,g4 _ _ _ (dO _ _ _),m1,m2,g5,.inl rfl⟩
  | none=>
   cases hW:zO fl P op with
   | some i=>
    simp only[hR,hA,hW] at hg
    exact .inl (Ct hfl hW hρ hr hg ho)
   | none=>
    simp only[hR,hA,hW] at hg
    cases op with
    | call c=>exact wF hfl hp ez hρ hr hg ho
    | next it s=>
     cases s with
     | true=>exact absurd hg hfl
     | false=>
      simp only[fJ] at hg
      obtain ⟨v,v',h',w',g1,g2,g3,g4,g5⟩:=Cm (ty:=o.type) hfl hp.both hr hg (hρ it (by simp[Op.operands]))
      exact .inl ⟨φ,v,v',h',w',.value v',g1,g2,g3,g4,by simp only[execOp,ho]; exact iQ g5,.inl rfl⟩
    | _=>exact absurd hg hfl
theorem Cw (hfl:¬good fl) {rec:Rec β} {op:Op} {tm:T Value} {κ:Value→Heap→β} (hg:good (oc fl pr P op rec tm h κ)):∀c,op≠.defer c:=by
 rintro c rfl
 exact hfl hg
theorem Cx (hfl:¬good fl) (hp:fN good pr P) {rec:Rec β} (ez:kz good P rec) {o:Oper} {tm:T Value} {a:Act} (hρ:∀y∈o.op.operands.toList,VR φ (eN tm y) (a.eval y))
  (hr:HR P φ h w) {κ:Value→Heap→β} (hg:good (oc fl pr P o.op rec tm h κ)) {next:Act→World→Prop} {Q:Exit→Act→World→Prop} {r0:Option Nat}
  (hn:∀φ' v v' h' w',good (κ v h')→VR φ' v v'→HR P φ' h' w'→Ext φ φ' h h' w w'→next (a.put o.dst v') w'):o.wpIn (FR r0) 0 P a w next Q:=by
 refine ⟨j7,?_⟩
 rw[Oper.semAt_eq _ _ _ (Cw hfl hg)]
 exact (Cv hfl hp ez hρ hr hg rfl).upon hn
theorem zZ {ops:Array Oper} {o:Oper} {g:Option (Nat × Bool)} (hg:guardOf ops.toList o=some g) {tm:T Value} {a:Act}
  (ht:∀s w,g=some (s,w)→s∈cB ops.toList o→s<a.tmps.size∧VR φ (di tm s) (a.tmps.getD s undef)) :
  Region.wanted o (yielded ops a.tmps)=ij tm g:=by
 unfold guardOf at hg
 unfold Region.wanted
 split at hg
 ·rename_i ZO
  cases hg
  rw[ZO]
  rfl
 ·rename_i j w ZO
  rw[ZO]
  split at hg<;>try contradiction
  rename_i d _ _ _ _ _ hq
  cases hg
  have hlk:d∈cB ops.toList o:=by
   simp[cB,ZO,Array.getElem?_toList] at hq ⊢
   rw[hq]; simp
  obtain ⟨hlt,hr⟩:=ht d w rfl hlk
  rw[Array.getElem?_toList] at hq
  have HM:=hq
  obtain ⟨v',ud⟩:∃v',a.tmps[d]? = some v':=⟨_,getElem?_pos a.tmps d hlt⟩
  rw[Array.getD_eq_getD_getElem?,ud,Option.getD_some] at hr
  simp only[yielded,HM,Option.bind_some,ud,ij]
  generalize di tm d=v at hr
  cases hr<;>cases w<;>first | rfl | (rename_i b; cases b<;>rfl)
theorem kE {ops:Array Oper} {nt:Nat} (hok:∀q∈ops.toList,ew nt q=true) {o:Oper} (ho:o∈ops.toList) {s:Nat} (hs:s∈cB ops.toList o):s<nt:=by
 simp only[cB,List.mem_append,List.mem_filterMap] at hs
 rcases hs with ⟨y,hy,hys⟩ | hs
 ·have:=qA (hok o ho) y hy
  cases y<;>simp at hys
  subst hys
  exact de this
 ·split at hs
  ·rename_i g w hg
   cases hq:ops.toList[g]? with
   | none=>rw[hq] at hs; simp at hs
   | some q=>
    rw[hq] at hs
    simp at hs
    have:=dg (hok q (List.mem_of_getElem? hq))
    rw[hs] at this
    exact de this
  ·cases hs
theorem rE (hfl:¬good fl) (hp:fN good pr P) {rec:Rec β} (ez:kz good P rec) {ops:Array Oper} {nt:Nat} (hok:∀q∈ops.toList,ew nt q=true) {κ:T Value→Heap→β}
  {r0:Option Nat} {Q:Exit→Act→World→Prop} {ds:List Deferred} {φ0:dG} {h0:Heap} {w0:World} {jR:T Value}
  (hQ:∀cC h' φ' a' w',good (κ cC h')→TR φ' nt cC a'→HR P φ' h' w'→Ext φ0 φ' h0 h' w0 w'→a'.defers=ds→(∀t,t<nt→(∀(i:Nat) (o:Oper),ops[i]? = some o→o.dst≠some t)→di cC t=di jR t)→Q .normal a' w') :
  ∀(os:List Oper) (i:Nat) (φ:dG) (tm:T Value) (h:Heap) (a:Act) (w:World),(∀k,os[k]? = ops[i+k]?)→TR φ nt tm a→HR P φ h w→Ext φ0 φ h0 h w0 w→a.defers=ds→(∀t,t<nt→(∀(i:Nat) (o:Oper),ops[i]? = some o→o.dst≠some t)→di tm t=di jR t)→
   good (nh fl pr P rec ops.toList os tm h κ)→wpOpsIn (FR r0) 0 P ops Q (List.range' i os.length) a w:=by
 intro os
 induction os with
 | nil=>
  intro i φ tm h a w _ ht hr hx hd hkp hg
  exact hQ tm h φ a w hg ht hr hx hd hkp
 | cons o os ih=>
  intro i φ tm h a w hos ht hr hx hd hkp hg
  have ho:ops[i]? = some o:=by have:=hos 0; simpa using this.symm
  have aaD:∀k,os[k]? = ops[i+1+k]?:=fun k=>by have:=hos (k+1); rw[show i+1+k=i+(k+1) by omega]; simpa using this
  have hmem:o∈ops.toList:=by
   have:ops.toList[i]? = some o:=by simpa using ho
   exact List.mem_of_getElem? this
  have hoo:=hok o hmem
  show wpOpsIn (FR r0) 0 P ops Q (i::List.range' (i+1) os.length) a w
  simp only[wpOpsIn,ho]
  have hg':good (XO.rec (motive:=fun _=>β)
   (fun g d f=>Bool.rec (motive:=fun _=>β) (nS tm d undef h fun tm h=>nh fl pr P rec ops.toList os tm h κ)
    (f rec tm h fun v h=>nS tm d v h fun tm h=>nh fl pr P rec ops.toList os tm h κ) (ij tm g))
   (zQ fl pr P ops.toList o)):=hg
  have put_defers:∀(d:Option Tmp) (v:Value),(a.put d v).defers=ds:=fun d v=>by cases d<;>exact hd
  have kp:∀(v:Value) (t:Nat),t<nt→(∀(i:Nat) (o:Oper),ops[i]? = some o→o.dst≠some t)→di (iL tm o.dst v) t=di jR t:=fun v t hlt hno=>by
   rw[fM ht.small (dg hoo) hlt,if_neg (hno i o ho)]; exact hkp t hlt hno
  cases Lr:guardOf ops.toList o with
  | none=>
   simp only[zQ,Lr] at hg'
   exact absurd hg' hfl
  | some g=>
   simp only[zQ,Lr] at hg'
   rw[zZ (φ:=φ) (tm:=tm) Lr fun s w _ hs=>⟨by rw[ht.size]; exact kE hok hmem hs,ht.rel s (kE hok hmem hs)⟩]
   cases hw:ij tm g with
   | false=>
    rw[hw] at hg'
    simp only[fL] at hg'
    rw[if_neg (by simp)]
    refine ⟨j7,?_⟩
    exact ih (i+1) φ _ h _ w aaD (ht.put (dg hoo) VR.undef) hr hx (put_defers _ _) (kp _) hg'
   | true=>
    rw[hw] at hg'
    simp only[fL] at hg'
    rw[if_pos rfl]
    refine Cx hfl hp ez (fun y hy=>ht.eval (qA hoo y hy)) hr hg' ?_
    intro φ' v v' h' w' g1 g2 g3 g4
    exact ih (i+1) φ' _ h' _ w' aaD ((ht.mono g4.sub).put (dg hoo) g2) g3 (hx.trans g4) (put_defers _ _) (kp _) g1
def F8 (good:β→Prop) (fl:β) (pr:ki β) (P:Program):Prop:=
 ∀(rec:Rec β),kz good P rec→∀(ops:Array Oper) (id nt:Nat),(∀q∈ops.toList,ew nt q=true)→∀(φ:dG) (tm:T Value) (h:Heap) (a:Act) (w:World) (κ:T Value→Heap→β),TR φ nt tm a→HR P φ h w→
  good (jY fl pr P rec ops.toList true tm h κ)→∀(r0:Option Nat) (Q:Exit→Act→World→Prop),
   (∀cC h' φ' a' w',good (κ cC h')→TR φ' nt cC a'→HR P φ' h' w'→Ext φ φ' h h' w w'→a'.defers=a.defers→(∀t,t<nt→(∀(i:Nat) (o:Oper),ops[i]? = some o→o.dst≠some t)→di cC t=di tm t)→Q .normal a' w')→(Code.region id ops true).wpIn (FR r0) 0 P Q a w
def jE (r:Option Nat) (P:Program) (c:Code) (Q:Exit→Act→World→Prop) (a:Act) (w:World):Prop:=
 ∀(b:Frame) (k:List Item) (cs:List Frame),b.roundOf=r→(FR r).room (cs.length+1+0)→
  ∃e a' w',Q e a' w'∧ArrivesIn (Machine.fenced P (FR r)) P (lone (b.atR a (.code c::.inLoop c::k)) cs w) b k cs e a' w'
variable {ro:Option Nat}
theorem jE.wp {c:Code} {Q:Exit→Act→World→Prop} {a:Act} {w:World} (h:jE ro P c Q a w):(Code.loop c).wpIn (FR ro) 0 P Q a w:=
 fun b k cs hro hb hr=>let ⟨e,a',w',q,r⟩:=h b k cs hro hr; ⟨e,a',w',q,.of_steps (.one (fenced_calm hb hr rfl) stepR_loop) r⟩
theorem jE.mono {c:Code} {Q Q':Exit→Act→World→Prop} {a:Act} {w:World} (h:jE ro P c Q a w) (hq:∀e a w,Q e a w→Q' e a w):jE ro P c Q' a w:=
 fun b k cs hro hr=>let ⟨e,a',w',q,r⟩:=h b k cs hro hr; ⟨e,a',w',hq _ _ _ q,r⟩
theorem jE.round {c:Code} {Q:Exit→Act→World→Prop} {a:Act} {w:World} (h:c.wpIn (FR ro) 0 P (Exit.then (jE ro P c Q) Q) a w):jE ro P c Q a w:=by
 intro b k cs hro hr
 have hb:(FR ro).fn b.fn:=trivial
 obtain ⟨e,a₁,w₁,hq,pY⟩:=h b (.inLoop c::k) cs hro hb hr
 cases e with
 | normal=>
  obtain ⟨e₂,a₂,w₂,hq₂,aaE⟩:=hq b k cs hro hr
  exact ⟨e₂,a₂,w₂,hq₂,.of_steps (StepsIn.trans pY (.one (fenced_calm hb hr rfl) stepR_inLoop)) aaE⟩
 | exit id=>exact ⟨_,a₁,w₁,hq,.pass (x:=.inLoop c) rfl (fun _ _=>.inl (by simp)) pY⟩
 | goto l=>exact ⟨_,a₁,w₁,hq,.pass (x:=.inLoop c) rfl (fun _ _=>.inl (by simp)) pY⟩
 | ret=>exact ⟨_,a₁,w₁,hq,.pass (x:=.inLoop c) rfl (fun _ _=>.inl (by simp)) pY⟩
 | panic ch=>exact ⟨_,a₁,w₁,hq,.pass (x:=.inLoop c) rfl (fun _ _=>.inl (by simp)) pY⟩
 | outgrown=>exact ⟨_,a₁,w₁,hq,.pass (x:=.inLoop c) rfl (fun _ _=>.inl (by simp)) pY⟩
theorem Post.after {nt:Nat} {φ1:dG} {h1:Heap} {w1:World} {a1:Act} {ds ms:List Deferred} {κ:Ex→T Value→Heap→β} {e:Exit} {a2:Act} {w2:World} (hx:Ext φ φ1 h h1 w w1) (hd:a1.defers=ms++ds)
  (hm:Marks w.heap.size φ1 w1 w1.heap.size ms) (hp:Post good P nt φ1 h1 w1 a1.defers κ e a2 w2):Post good P nt φ h w ds κ e a2 w2:=by
 obtain ⟨x,tm,h2,φ2,rfl,k1,k2,k3,k4,ms2,k5,k6⟩:=hp
 refine ⟨x,tm,h2,φ2,rfl,k1,k2,k3,hx.trans k4,ms2++ms,by rw[k5,hd,List.append_assoc],?_⟩
 exact (hm.mono k4 (Nat.le_refl _)).append hx.size (Nat.le_refl _) k4.size k6
theorem Post.here {nt:Nat} {tm:T Value} {a:Act} {κ:Ex→T Value→Heap→β} {x:Ex} (ht:TR φ nt tm a) (hr:HR P φ h w) (hg:good (κ x tm h)):Post good P nt φ h w a.defers κ (LZ x) a w:=
 ⟨x,tm,h,φ,rfl,hg,ht,hr,Ext.refl _ _ _,[],rfl,trivial⟩
def pg (good:β→Prop) (P:Program) (rec:Rec β):Prop:=
 ∀(c:Code) (r:Option Nat) (tm:T Value) (h:Heap) (κ:Ex→T Value→Heap→β) (φ:dG) (w:World) (nt:Nat) (a:Act),(r=none∨n_ c=true)→codeOk nt c=true→TR φ nt tm a→HR P φ h w→good (rec (.loop c) tm h κ)→
  jE r P c (Post good P nt φ h w a.defers κ) a w
theorem ox {rec:Rec β} (ez:kz good P rec) (L7:pg good P rec):pg good P (body fl pr P rec):=by
 intro c r tm h κ φ w nt a hn hc ht hr hg
 have hg':good (rec c tm h (zd rec (.loop c) κ)):=hg
 refine jE.round (wpIn_mono (ez c r tm h _ φ w nt a hn hc ht hr hg') ?_)
 rintro e a' w' ⟨e0,cC,h',φ',rfl,g1,g2,g3,g4,ms,g5,g6⟩
 cases e0 with
 | normal=>exact (L7 c r cC h' κ φ' w' nt a' hn hc g2 g3 g1).mono fun e a2 w2 hp=>Post.after g4 g5 g6 hp
 | exit i=>exact ⟨.exit i,cC,h',φ',rfl,g1,g2,g3,g4,ms,g5,g6⟩
 | ret=>exact ⟨.ret,cC,h',φ',rfl,g1,g2,g3,g4,ms,g5,g6⟩
theorem vw {r:Option Nat} {x y z:Code} (hn:r=none∨n_ z=true) (hz:n_ z=(n_ x && n_ y)):(r=none∨n_ x=true)∧(r=none∨n_ y=true):=by
 rcases hn with hn | hn
 ·exact ⟨.inl hn,.inl hn⟩
 ·rw[hz,Bool.and_eq_true] at hn; exact ⟨.inr hn.1,.inr hn.2⟩
theorem ir {b:Frame} {a:Act} {k:List Item} {cs:List Frame} {w:World} {c:Code} :
  step P (lone (b.atR a (.code (.scope c)::k)) cs w)=.next (lone (b.atR a (.code c::.inScope c::k)) cs w):=
 step_lone_go (by simp[stepG,stepG.exec,Frame.atR])
theorem zn {b:Frame} {a:Act} {k:List Item} {cs:List Frame} {w:World} {c:Code}:step P (lone (b.atR a (.inScope c::k)) cs w)=.next (lone (b.atR a k) cs w):=
 step_lone_go (by simp[stepG,stepG.exec,Frame.atR])
theorem wG {F:Fence} {n:Nat} {c:Code} {Q:Exit→Act→World→Prop} {a:Act} {w:World} (h:c.wpIn F n P Q a w) (hg:∀l a w,¬Q (.goto l) a w):(Code.scope c).wpIn F n P Q a w:=by
 intro b k cs hro hb hr
 have h0:(lone (b.atR a (.code (.scope c)::k)) cs w).fenced P F:=fenced_calm hb hr rfl
 obtain ⟨e,a₁,w₁,hq,pY⟩:=h b (.inScope c::k) cs hro hb hr
 cases e with
 | normal=>exact ⟨.normal,a₁,w₁,hq,.head h0 ir (StepsIn.trans pY (.one (fenced_calm hb hr rfl) zn))⟩
 | exit id=>
  have hx:exitTo id (.inScope c::k)=exitTo id k:=by simp[exitTo]
  exact ⟨_,a₁,w₁,hq,fun k' hk=>.head h0 ir (pY.1 k' (by rw[hx]; exact hk)),
   fun hr' hk=>let ⟨k₁,h1,h2⟩:=pY.2 hr' (by rw[hx]; exact hk); ⟨k₁,h1,.head h0 ir h2⟩⟩
 | goto l=>exact absurd hq (hg l a₁ w₁)
 | ret=>exact ⟨_,a₁,w₁,hq,.of_steps (.one h0 ir) pY⟩
 | panic ch=>exact ⟨_,a₁,w₁,hq,.of_steps (.one h0 ir) pY⟩
 | outgrown=>exact ⟨_,a₁,w₁,hq,.of_steps (.one h0 ir) pY⟩
theorem sX (hfl:¬good fl) (hp:fN good pr P) {rec:Rec β} (ez:kz good P rec) {g:Operand} {ps:Array Tmp} {x y:Code} {nt:Nat} {tm:T Value} {a:Act} (hc:codeOk nt (.rangeFunc g ps x y)=true) (ht:TR φ nt tm a) (hr:HR P φ h w)
  {κ:Ex→T Value→Heap→β} (hg:good (gZ fl pr P rec ps.toList x y tm h κ (eN tm g))):(Code.rangeFunc g ps x y).wpIn (FR none) 0 P (Post good P nt φ h w a.defers κ) a w:=by
 simp only[codeOk,Bool.and_eq_true] at hc
 obtain ⟨⟨⟨⟨⟨hcg,hcp⟩,hca⟩,hcb⟩,hra⟩,hrb⟩:=hc
 have hgv:=ht.eval hcg
 unfold gZ at hg
 split at hg<;>try exact absurd hg hfl
 rename_i f first cap hv
 obtain ⟨hn,hg⟩:=cI hfl hg
 rw[hv] at hgv
 generalize hz:a.eval g=z at hgv
 cases hgv with
 | func fn a1 ZL b1 ZM ha hb vj hvb=>
  refine wpIn_rangeFunc fun fn0 _=>?_
  have hx0:Ext φ φ h h w (w.alloc (.deferred (some []))):=by
   refine ⟨Sub.refl φ,fun b pl e e'=>(by rw[e] at e'; cases e'),Nat.le_refl _,by simp,fun B hB _=>dI hB,fun _ _ _=>rfl,rfl,rfl,rfl,fun B hB=>?_,rfl,fun _ _=>rfl,fun x o pl h1 h2 h3 h4 h5=>dI h5,Nat.le_refl _⟩
   rcases Nat.lt_trichotomy B w.heap.size with hl | hl | hl
   ·rw[dI hl]; exact hB
   ·subst hl; rw[lR]; trivial
   ·have:(w.alloc (.deferred (some []))).heap[B]? = none:=by show (w.heap.push _)[B]? = _; simp; omega
    rw[this]; trivial
  have Cy:HR P φ h (w.alloc (.deferred (some []))):=
   ⟨fun b o pl h1 h2=>by rw[dI (hr.dom b pl h2).2]; exact hr.obj b o pl h1 h2,fun b pl h1=>⟨(hr.dom b pl h1).1,by have:=(hr.dom b pl h1).2; simp; omega⟩,hr.keys,hr.LI,hr.inj,hr.lo⟩
  have JN:OR P φ (.loop .ready none tm ps.toList x y) ⟨(w.alloc (.deferred (some []))).heap.size,0,0⟩ (some (.loop { state:=.ready,pending:=none,fn:=fn0,tmps:=a.tmps,params:=ps,assign:=x,body:=y,defers:=w.heap.size })):=
   ⟨rfl,trivial,rfl,rfl,rfl,nt,⟨ht.small,hcp,hca,hcb,hra,hrb⟩,ht.size,ht.rel⟩
  obtain ⟨P0,hx1⟩:=Cy.fresh hn 0 0 JN trivial
  have aaF:=hx0.trans hx1
  have hl:(gE φ h.nx ⟨(w.alloc (.deferred (some []))).heap.size,0,0⟩) h.nx=some ⟨(w.alloc (.deferred (some []))).heap.size,0,0⟩:=dO _ _ _
  have hmk:∀b pl,φ b=some pl→pl.B≠w.heap.size:=fun b pl hb=>by have:=(hr.dom b pl hb).2; omega
  have hD0:(w.alloc (.deferred (some []))).heap[w.heap.size]? = some (.deferred (some [])):=lR
  have hD1:=hx1.ze w.heap.size (by simp) hmk
  have ae8:=hx1.Tu (D:=w.heap.size) (by simp) hmk
  have hargs:=(((F2.toList ha vj).imp fun _ _ r=>r.mono hx1.sub).append (.cons (VR.yield hl) .nil)).append ((F2.toList hb hvb).imp fun _ _ r=>r.mono hx1.sub)
  have wD:=e_ hfl hp ez hargs P0 hg
  have hM1:Marks w.heap.size (gE φ h.nx ⟨(w.alloc (.deferred (some []))).heap.size,0,0⟩) ((w.alloc (.deferred (some []))).alloc (.loop { state:=.ready,pending:=none,fn:=fn0,tmps:=a.tmps,params:=ps,assign:=x,body:=y,defers:=w.heap.size }))
    ((w.alloc (.deferred (some []))).alloc (.loop { state:=.ready,pending:=none,fn:=fn0,tmps:=a.tmps,params:=ps,assign:=x,body:=y,defers:=w.heap.size })).heap.size [{ target:=.collected w.heap.size,args:=#[] }]:=
   ⟨w.heap.size,rfl,Nat.le_refl _,by simp; omega,hD1.trans hD0,ae8,trivial⟩
  have hsz:(w.alloc (.deferred (some []))).heap.size=w.heap.size+1:=by simp
  rw[hsz] at wD hl hx1 aaF hM1
  refine ⟨w.heap.size+1,[{ target:=.collected w.heap.size,args:=#[] }],(w.alloc (.deferred (some []))).alloc (.loop { state:=.ready,pending:=none,fn:=fn0,tmps:=a.tmps,params:=ps,assign:=x,body:=y,defers:=w.heap.size }),
   { target:=.fn (.func f) ZM,args:=ZL++#[.func (.yield (w.heap.size+1)) #[] #[]] },((w.alloc (.deferred (some []))).alloc (.loop { state:=.ready,pending:=none,fn:=fn0,tmps:=a.tmps,params:=ps,assign:=x,body:=y,defers:=w.heap.size })),f,_,((w.alloc (.deferred (some []))).alloc (.loop { state:=.ready,pending:=none,fn:=fn0,tmps:=a.tmps,params:=ps,assign:=x,body:=y,defers:=w.heap.size })),run_enterLoop_outer _ _ _ _ _,?_,fun _ _=>trivial,?_,fun hh=>(by cases hh),vv.2 (Calls.mono wD.2 ?_)⟩
  ·have ae9:∀v,a.eval (.const v)=v:=fun _=>rfl
   simp[resolve,hz,Deferred.ofValue,ae9]
  ·have:=wD.1
   have he:(ZL.toList++[Value.func (.yield (w.heap.size+1)) #[] #[]]++ZM.toList).toArray=ZL++#[.func (.yield (w.heap.size+1)) #[] #[]]++ZM:=by apply Array.ext'; simp
   rw[he] at this ⊢
   simpa[invoke] using this
  ·rintro e w2 ⟨φ2,v,v',h2,rfl,g1,g2,g3,g4⟩
   unfold iP at g1
   split at g1<;>try exact absurd g1 hfl
   rename_i st j8 ZJ ps2 x2 y2 hb2
   have hp2:=g4.sub _ _ hl
   obtain ⟨r2,hO2,q1,q2,q3,q4,q5,q6⟩:=g3.wE hb2 hp2
   split at g1
   ·exact absurd g1 hfl
   rename_i hst
   obtain ⟨L8,g1⟩:=bz hfl g1
   obtain ⟨n1,n2⟩:=g3.rD (st':=.exhausted) (uo:=j8) L8 hb2 hp2 hO2 (pd:=r2.pending) q2
   have hend:=run_endLoop (P:=P) hO2 (by rw[q1]; exact hst)
   have aaG:=g4.trans n2
   have hM2:=hM1.mono aaG (Nat.le_refl _)
   have wH:=aaF.trans aaG
   have htt:TR φ2 nt tm { a with defers:=[{ target:=.collected w.heap.size,args:=#[] }]++a.defers }:=⟨ht.size,ht.small,fun t hlt=>(ht.rel t hlt).mono wH.sub⟩
   have P4:=hM2.le (U':=(w2.putObj (w.heap.size+1) (.loop { r2 with state:=.exhausted,pending:=r2.pending })).heap.size) (by have:=g4.size; simp at this ⊢; omega)
   refine ⟨r2.pending,_,hend,?_⟩
   cases j8 with
   | none=>
    have U2:r2.pending=none:=by
     cases hq:r2.pending with
     | none=>rfl
     | some c=>rw[hq] at q2; exact q2.elim
    rw[U2] at n1 wH P4 ⊢
    exact ⟨.normal,tm,_,φ2,rfl,g1,htt,n1,wH,_,rfl,P4⟩
   | some ex=>
    rcases zV.jump q2 with ⟨rfl,U2⟩ | ⟨i,rfl,U2⟩
    ·rw[U2] at n1 wH P4 ⊢
     exact wpIn_ret ⟨.ret,tm,_,φ2,rfl,g1,htt,n1,wH,_,rfl,P4⟩
    ·rw[U2] at n1 wH P4 ⊢
     exact wpIn_exit ⟨.exit i,tm,_,φ2,rfl,g1,htt,n1,wH,_,rfl,P4⟩
theorem F9 (hfl:¬good fl) (hp:fN good pr P) (HS:F8 good fl pr P) {rec:Rec β} (ez:kz good P rec) (L7:pg good P rec):kz good P (body fl pr P rec):=by
 intro c r tm h κ φ w nt a hn hc ht hr hg
 cases c with
 | skip=>exact wpIn_skip (Post.here (x:=.normal) ht hr hg)
 | label l=>exact wpIn_label (Post.here (x:=.normal) ht hr hg)
 | ret=>exact wpIn_ret (Post.here (x:=.ret) ht hr hg)
 | exit id=>exact wpIn_exit (Post.here (x:=.exit id) ht hr hg)
 | region id os draw=>
  have hok:∀q∈os.toList,ew nt q=true:=by
   simp only[codeOk,List.all_eq_true] at hc; exact hc
  have hQ:∀cC h' φ' a' w',good ((fun tm h=>κ .normal tm h) cC h')→TR φ' nt cC a'→HR P φ' h' w'→Ext φ φ' h h' w w'→a'.defers=a.defers→Post good P nt φ h w a.defers κ .normal a' w':=
   fun cC h' φ' a' w' g1 g2 g3 g4 g5=>⟨.normal,cC,h',φ',rfl,g1,g2,g3,g4,[],g5,trivial⟩
  cases draw with
  | false=>
   refine wpIn_region ?_
   rw[List.range_eq_range']
   have:=rE (r0:=r) (jR:=tm) hfl hp ez hok (fun cC h' φ' a' w' g1 g2 g3 g4 g5 _=>hQ cC h' φ' a' w' g1 g2 g3 g4 g5) os.toList 0 φ tm h a w (fun k=>by simp) ht hr (Ext.refl _ _ _) rfl (fun _ _ _=>rfl) hg
   simpa using this
  | true=>exact HS rec ez os id nt hok φ tm h a w _ ht hr hg r _ fun cC h' φ' a' w' g1 g2 g3 g4 g5 _=>hQ cC h' φ' a' w' g1 g2 g3 g4 g5
 | seq x y=>
  simp only[codeOk,Bool.and_eq_true] at hc
  obtain ⟨uT,hn2⟩:=vw (x:=x) (y:=y) hn rfl
  have hg':good (rec x tm h (zd rec y κ)):=hg
  refine wpIn_seq (wpIn_mono (ez x r tm h _ φ w nt a uT hc.1 ht hr hg') ?_)
  rintro e a' w' ⟨e0,cC,h',φ',rfl,g1,g2,g3,g4,ms,g5,g6⟩
  cases e0 with
  | normal=>exact wpIn_mono (ez y r cC h' κ φ' w' nt a' hn2 hc.2 g2 g3 g1) fun e a2 w2 hp=>Post.after g4 g5 g6 hp
  | exit i=>exact ⟨.exit i,cC,h',φ',rfl,g1,g2,g3,g4,ms,g5,g6⟩
  | ret=>exact ⟨.ret,cC,h',φ',rfl,g1,g2,g3,g4,ms,g5,g6⟩
 | cond x c1 c2=>
  simp only[codeOk,Bool.and_eq_true] at hc
  obtain ⟨uT,hn2⟩:=vw (x:=c1) (y:=c2) hn rfl
  have hg':good (ev tm x (vW fl rec c1 c2 tm h κ)):=hg
  rw[fJ] at hg'
  have hx:=ht.eval hc.1.1
  unfold vW at hg'
  split at hg'<;>try exact absurd hg' hfl
  ·rename_i hv
   rw[hv] at hx
   refine wpIn_cond_true (by generalize a.eval x=z at hx; cases hx; rfl) (ez c1 r tm h κ φ w nt a uT hc.1.2 ht hr hg')
  ·rename_i hv
   rw[hv] at hx
   refine wpIn_cond_false (by generalize a.eval x=z at hx; cases hx; rfl) (ez c2 r tm h κ φ w nt a hn2 hc.2 ht hr hg')
 | block id c=>
  have hg':good (rec c tm h (oe id κ)):=hg
  refine wpIn_block (wpIn_mono (ez c r tm h _ φ w nt a hn hc ht hr hg') ?_)
  rintro e a' w' ⟨e0,cC,h',φ',rfl,g1,g2,g3,g4,ms,g5,g6⟩
  cases e0 with
  | normal=>exact ⟨.normal,cC,h',φ',rfl,g1,g2,g3,g4,ms,g5,g6⟩
  | ret=>exact ⟨.ret,cC,h',φ',rfl,g1,g2,g3,g4,ms,g5,g6⟩
  | exit i=>
   simp only[oe] at g1
   simp only[LZ,Exit.inBlock]
   split at g1
   ·rename_i hb; have hb:=bY hb
    rw[if_pos hb]
    exact ⟨.normal,cC,h',φ',rfl,g1,g2,g3,g4,ms,g5,g6⟩
   ·rename_i hb; have hb:=mA hb
    rw[if_neg hb]
    exact ⟨.exit i,cC,h',φ',rfl,g1,g2,g3,g4,ms,g5,g6⟩
 | scope c=>
  refine wG (ez c r tm h κ φ w nt a hn hc ht hr hg) ?_
  rintro l a' w' ⟨x,cC,h',φ',hx,_⟩
  cases x<;>cases hx
 | loop c=>
  exact (ox (fl:=fl) (pr:=pr) ez L7 c r tm h κ φ w nt a hn hc ht hr hg).wp
 | rangeFunc g ps x y=>
  have hg':good (ev tm g (gZ fl pr P rec ps.toList x y tm h κ)):=hg
  rw[fJ] at hg'
  rcases hn with rfl | hn
  ·exact sX hfl hp ez hc ht hr hg'
  ·cases hn
 | _=>exact absurd hg hfl
theorem z1 (hfl:¬good fl) (hp:fN good pr P) (HS:F8 good fl pr P):∀n,kz good P (run fl pr P n)∧pg good P (run fl pr P n):=by
 intro n
 induction n with
 | zero=>exact ⟨fun c r tm h κ φ w nt a _ _ _ _ hg=>absurd hg hfl,fun c r tm h κ φ w nt a _ _ _ _ hg=>absurd hg hfl⟩
 | succ n ih=>exact ⟨F9 hfl hp HS ih.1 ih.2,ox ih.1 ih.2⟩
end Go.Vai

namespace Go.Vai
open Go
variable {β:Type} {fl:β} {good:β→Prop} {pr:ki β} {P:Program} {φ:dG} {h h':Heap} {w:World} {t:TypeId}
def XI.opsL:XI β→List Operand
 | .k0 _=>[]
 | .k1 x _=>[x]
 | .k2 x y _=>[x,y]
 | .k3 x y z _=>[x,y,z]
 | .kn xs _=>xs
def XA.opsL:XA β→List Operand
 | .k0 _=>[]
 | .k1 x _=>[x]
 | .k2 x y _=>[x,y]
 | .kn xs _=>xs
theorem XI.congr {i:XI β} {tm cC:T Value} (he:∀y∈i.opsL,eN cC y=eN tm y) (h:Heap) (κ:Value→Heap→β):i.run cC h κ=i.run tm h κ:=by
 cases i with
 | k0 f=>rfl
 | k1 x f=>rw[XI.bZ,XI.bZ,he x (by simp[XI.opsL])]
 | k2 x y f=>rw[XI.cU,XI.cU,he x (by simp[XI.opsL]),he y (by simp[XI.opsL])]
 | k3 x y z f=>rw[XI.qt,XI.qt,he x (by simp[XI.opsL]),he y (by simp[XI.opsL]),he z (by simp[XI.opsL])]
 | kn xs f=>
  have:xs.map (eN cC)=xs.map (eN tm):=List.map_congr_left he
  rw[XI.gJ,XI.gJ,this]
theorem XA.congr {i:XA β} {tm cC:T Value} (he:∀y∈i.opsL,eN cC y=eN tm y) (κ:bC→(Nat→Value)→β):i.run cC κ=i.run tm κ:=by
 cases i with
 | k0 f=>rfl
 | k1 x f=>rw[XA.bZ,XA.bZ,he x (by simp[XA.opsL])]
 | k2 x y f=>rw[XA.cU,XA.cU,he x (by simp[XA.opsL]),he y (by simp[XA.opsL])]
 | kn xs f=>
  have:xs.map (eN cC)=xs.map (eN tm):=List.map_congr_left he
  rw[XA.gJ,XA.gJ,this]
theorem sY {op:Op} {x:XI β} (hc:nI fl P op=some x):∀y∈x.opsL,y∈op.operands.toList:=by
 cases op<;>simp only[nI] at hc<;>(repeat' split at hc)<;>(try contradiction)<;>cases hc<;>
  simp_all [XI.opsL,Op.operands,Call.operands,nZ]
theorem z6 {op:Op} {x:XA β} (hc:p_ fl P op=some x):∀y∈x.opsL,y∈op.operands.toList:=by
 cases op<;>simp only[p_] at hc<;>(repeat' split at hc)<;>(try contradiction)<;>cases hc<;>
  simp_all [XA.opsL,Op.operands]
def zo (h h':Heap):Prop:=∀b o,h.bl.get b=some o→h'.bl.get b=some o
theorem wI (hm:zo h h') {b:Nat} (hl:vP h b=true):vP h' b=true:=by
 unfold vP at *
 split at hl<;>try contradiction
 rename_i hb
 rw[hm _ _ hb]
theorem JP {rec aaH:TypeId→Value→Value→Option Bool} (ez:∀t x y r,rec t x y=some r→aaH t x y=some r):∀(fs:List Field) (xs ys:List Value) (r:Bool),
  zb P rec fs xs ys=some r→zb P aaH fs xs ys=some r:=by
 intro fs
 induction fs with
 | nil=>intro xs ys r h; exact h
 | cons f fs ih=>
  intro xs ys r h
  unfold zb at h ⊢
  split at h<;>try contradiction
  rename_i hf
  split at h<;>try contradiction
  ·rename_i s h1 h2
   split at h
   ·rename_i e; simp only[ez _ _ _ _ e]; exact ih _ _ _ h
   ·rename_i r' hr'
    rw[ez _ _ _ _ h]
    cases r with
    | true=>exact absurd h (by simpa using hr')
    | false=>rfl
  ·rename_i s h1 h2
   split at h<;>try contradiction
   rename_i x y hx hy
   split at h
   ·rename_i e; simp only[ez _ _ _ _ e]; exact ih _ _ _ h
   ·rename_i r' hr'
    rw[ez _ _ _ _ h]
    cases r with
    | true=>exact absurd h (by simpa using hr')
    | false=>rfl
theorem wJ (hm:zo h h'):∀(d:Nat) (t:TypeId) (x y:Value) (r:Bool),lM P h d t x y=some r→lM P h' d t x y=some r:=by
 intro d
 induction d with
 | zero=>intro t x y r h; exact h
 | succ d ih=>
  intro t x y r hh
  unfold lM at hh ⊢
  split at hh<;>try contradiction
  all_goals try exact hh
  ·split at hh<;>try contradiction
   split at hh<;>try contradiction
   rename_i l1 l2
   simp only[wI hm l1,wI hm l2]
   exact hh
  ·split at hh<;>try contradiction
   exact JP ih _ _ _ _ hh
theorem wK (hm:zo h h') {kt:TypeId} {k:Value}:∀(es:List MapEntry) (i:Nat) (r:Option (Nat × MapEntry)),fR P h kt k es i=some r→fR P h' kt k es i=some r:=by
 intro es
 induction es with
 | nil=>intro i r h; exact h
 | cons e es ih=>
  intro i r hh
  unfold fR at hh ⊢
  split at hh<;>try contradiction
  ·rename_i he; simp only[wJ hm _ _ _ _ _ he]; exact hh
  ·rename_i he; simp only[wJ hm _ _ _ _ _ he]; exact ih _ _ hh
theorem A7 (hm:zo h h') {e:TypeId} {b n:Nat} (hk:fG h e b=some n):fG h' e b=some n:=by
 unfold fG at *
 split at hk<;>try contradiction
 ·rename_i hb; rw[hm _ _ hb]; exact hk
 ·rename_i hb; rw[hm _ _ hb]; exact hk
theorem F_ {op:Op} {x:Tj} (hc:nI none P op=some x) (hm:zo h h') {tm:T Value} {v:Value} (hr:jL x tm h=some v):jL x tm h'=some v:=by
 unfold jL at *
 cases op<;>simp only[nI] at hc<;>try (cases hc; done)
 case load t a=>
  split at hc<;>try contradiction
  ·cases hc; rw[XI.bZ] at hr ⊢
   unfold ay at hr ⊢
   split at hr<;>try contradiction
   split at hr<;>try contradiction
   ·rename_i hb
    simp only[hm _ _ hb]; exact hr
   ·rename_i hb
    simp only[hm _ _ hb]; exact hr
  ·cases hc; rw[XI.bZ] at hr ⊢
   unfold load1 at hr ⊢
   split at hr<;>try contradiction
   split at hr<;>try contradiction
   ·rename_i hb
    simp only[hm _ _ hb]; exact hr
   ·rename_i hb
    simp only[hm _ _ hb]; exact hr
 case binOp op t x y t2=>
  cases hc; rw[XI.cU] at hr ⊢
  have hq:∀t a b r,lM P h 100 t a b=some r→lM P h' 100 t a b=some r:=wJ hm 100
  unfold au at hr ⊢
  split at hr<;>try contradiction
  ·exact hr
  ·exact hr
  ·split at hr<;>try contradiction
   ·split at hr<;>try contradiction
    rename_i he; simp only[hq _ _ _ _ he]; exact hr
   ·split at hr<;>try contradiction
    rename_i he; simp only[hq _ _ _ _ he]; exact hr
  ·split at hr<;>try contradiction
   ·split at hr<;>try contradiction
    rename_i he; simp only[hq _ _ _ _ he]; exact hr
   ·split at hr<;>try contradiction
    rename_i he; simp only[hq _ _ _ _ he]; exact hr
 case slice t x lo hi mx=>
  split at hc<;>try contradiction
  ·split at hc<;>try contradiction
   cases hc; rw[XI.gJ] at hr ⊢
   split at hr<;>try contradiction
   split at hr<;>try contradiction
   unfold sliceB at hr ⊢
   split at hr<;>try contradiction
   ·exact hr
   ·split at hr<;>try contradiction
    ·exact hr
    ·split at hr<;>try contradiction
     ·exact hr
     ·split at hr<;>try contradiction
      rename_i hk _
      simp only[A7 hm hk]
      exact hr
  ·cases hc; rw[XI.gJ] at hr ⊢
   exact hr
 case lookup t x i ok=>
  split at hc<;>try contradiction
  split at hc<;>try contradiction
  split at hc<;>try contradiction
  cases hc; rw[XI.cU] at hr ⊢
  unfold cV ja at hr ⊢
  split at hr<;>try contradiction
  split at hr<;>try contradiction
  ·exact hr
  ·split at hr<;>try contradiction
   rename_i hb
   simp only[hm _ _ hb]
   split at hr<;>try contradiction
   ·rename_i hf; simp only[wK hm _ _ _ hf]; exact hr
   ·rename_i hf; simp only[wK hm _ _ _ hf]; exact hr
 case call c=>
  split at hc<;>try contradiction
  ·split at hc<;>try contradiction
   split at hc<;>try contradiction
   ·cases hc; exact hr
   ·cases hc; exact hr
   ·cases hc; rw[XI.bZ] at hr ⊢
    unfold mZ at hr ⊢
    split at hr<;>try contradiction
    ·exact hr
    ·split at hr<;>try contradiction
     rename_i hb
     simp only[hm _ _ hb]; exact hr
  ·split at hc<;>try contradiction
   cases hc; rw[XI.cU] at hr ⊢
   unfold Ly at hr ⊢
   split at hr<;>try contradiction
   split at hr<;>exact hr
  ·split at hc<;>try contradiction
   cases hc; rw[XI.cU] at hr ⊢
   unfold AM at hr ⊢
   split at hr<;>try contradiction
   split at hr<;>exact hr
 all_goals ((repeat' split at hc)<;>(try contradiction)<;>cases hc<;>exact hr)
end Go.Vai
