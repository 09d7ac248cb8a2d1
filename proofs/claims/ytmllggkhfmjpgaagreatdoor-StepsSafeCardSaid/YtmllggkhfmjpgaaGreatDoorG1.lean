/-
  PROVED HERE: a part of the proof (VaiS6, VaiS7, VaiS8, VaiS9, VaiS10, VaiS11, VaiS12, VaiS13).
-/
import Derived.Test.YtmllggkhfmjpgaaGreatDoorG0
import Derived.Laws.Append
import GoSem.Instr.MapEntry
import Derived.Laws.AppendOwn
import Derived.Laws.Small
import Derived.Laws.IdiomStrings
import Derived.Laws.BytesArg
import Derived.OrdersIn
import Derived.RangeFuncRecord
set_option linter.unusedVariables false
set_option linter.unusedSimpArgs false
namespace Go.Vai
open Go
variable {β:Type}{fl:β}{good:β->Prop}{P:Program}{φ:ej}{h:ah}{w:World}{t:TypeId}
noncomputable def lay:List Value->T Value->Nat->T Value
 | [],c,_=>c
 |v::vs,c,off=>lay vs (c.bx off v) (off+1)
theorem xh(vs:List Value):∀(c:T Value)(off:Nat)(Y:T Value->Nat->β),SV vs c off Y=Y (lay vs c off) (off+vs.length):=by
 induction vs with
 |nil=>intro c off Y;rfl
 |cons v vs ih=>
  intro c off Y
  show T.set c off v (λc=>vQ (Nat.succ off) λoff=>SV vs c off Y)=_
  rw[T.cQ,bR,ih];simp only[lay,List.length_cons]
  congr 1;omega
theorem pz(vs:List Value):∀(c:T Value)(off:Nat),off+vs.length<=2 ^ 199->∀i,Small i->(lay vs c off).get i=if off<=i/\i<off+vs.length then vs[i-off]? else c.get i:=by
 induction vs with
 |nil=>intro c off _ i _;simp[lay];omega
 |cons v vs ih=>
  intro c off ho i hi;simp only[List.length_cons]at ho;have hso:Small off:=by unfold Small;omega
  rw[lay,ih _ _ XV i hi,T.mV c v hso hi];by_cases h1:off+1<=i/\i<off+1+vs.length
  .rw[if_pos h1,if_pos (by simp;omega),show i-off=(i-(off+1))+1 by omega];simp
  .rw[if_neg h1];by_cases h2:off=i
   .subst h2;simp
   .rw[if_neg h2,if_neg (by simp;omega)]
theorem DW{n m:Nat}(h:n<=m)(hm:m<=4611686018427387904):Small n:=by unfold Small;omega
theorem kG(hfl:¬good fl){vs:List Value}{e:TypeId}{Sz:Bool}{Y:bT->β}(hg:good (aK fl vs e Sz Y)):vs.length<=1000000000000/\good (Y (.cells vs.length (lay vs .nil 0) e Sz)):=by
 unfold aK at hg;rw[xh]at hg;simp only[Nat.zero_add]at hg;split at hg
 .rename_i hle;exact⟨dK hle,hg⟩
 .exact absurd hg hfl
theorem Oy{vs vs':List Value}(hv:F2 (VR φ) vs vs')(hl:vs.length<=1000000000000)(e:TypeId)(pl:Pl)(rest:List Value)(Sz:Bool)(ho:Sz=true->(vs'++rest).length=pl.sz/\fV P e=some pl.e/\0<pl.e):OR P φ (.cells vs.length (lay vs .nil 0) e Sz) pl (some (.cells (vs'++rest).toArray e (0,0))):=by
 have hlen:=hv.length;refine⟨rfl,rfl,by simp;omega,XV,λh=>by simpa using ho h,?_⟩;intro i v h_ hi;rw[pz vs .nil 0 XV i (by unfold Small;omega),if_pos XV]at h_;simp only[Nat.sub_zero]at h_;obtain⟨v',h1,h2⟩:=hv.get i v h_;refine⟨v',?_,h2⟩;have:i<vs'.length:=by omega
 simp[List.getElem?_append_left this,h1]
theorem dM(hfl:¬good fl){o:bT}{Y:Nat->ah->β}(hg:good (aF fl o h Y)):h.nx<=h.nx/\good (Y h.nx ⟨h.nx+1,h.bl.bx h.nx o,h.lo⟩):=by
 unfold aF at hg;rw[T.cQ,bR]at hg;exact⟨Nat.le_refl _,hg⟩
def ir(φ:ej)(b:Nat)(pl:Pl):ej:=λx=>if x=b then some pl else φ x
theorem fI(φ:ej)(b:Nat)(pl:Pl):ir φ b pl b=some pl:=by simp[ir]
theorem rO{b:Nat}{pl:Pl}(hb:φ b=none):Sub φ (ir φ b pl):=λx p e=>by
 unfold ir;split
 .rename_i hx;subst hx;rw[hb]at e;cases e
 .exact e
theorem HR.x_(hr:HR P φ h w)(hn:h.nx<=h.nx)(o:bT):HR P φ ⟨h.nx+1,h.bl.bx h.nx o,h.lo⟩ w:=by
 have hs:Small h.nx:=by unfold Small;omega
 have ja:∀b,b<h.nx->(h.bl.bx h.nx o).get b=h.bl.get b:=λb hb=>T.iI _ _ hs (by unfold Small;omega) XV;refine⟨?_,?_,?_,?_,?_,Nat.le_succ_of_le hr.lo,hr.side⟩
 .intro b o' pl hb hp;have:=(hr.dom b pl hp).1;exact hr.obj b o' pl ((ja b this)▸hb) hp
 .intro b pl hp;have:=hr.dom b pl hp;exact⟨by show b<h.nx+1;omega,this.2⟩
 .intro b o' S3 hb
  show b<h.nx+1
  rw[T.mV _ _ hs S3]at hb;split at hb
  .omega
  .have:=hr.keys b o' S3 hb;omega
 .show h.nx+1<h.nx+1+1;omega
 .intro b b' o1 o2 pl mM g1 g2 l1 l2 p1 p2 e;have d1:=(hr.dom b pl p1).1;have d2:=(hr.dom b' mM p2).1;exact hr.inj b b' o1 o2 pl mM ((ja b d1)▸g1) ((ja b' d2)▸g2) l1 l2 p1 p2 e
theorem dZ{O:Obj}{B:Nat}(hB:B<w.heap.size):(w.alloc O).heap[B]? = w.heap[B]?:=by
 show(w.heap.push O)[B]? = _
 rw[Array.getElem?_push,if_neg XV]
theorem nK{O:Obj}:(w.alloc O).heap[w.heap.size]? = some O:=by
 show(w.heap.push O)[w.heap.size]? = _
 simp
theorem HR.DX(hr:HR P φ h w){b:Nat}{o:bT}(hb:h.bl.get b=some o)(hp:φ b=none)(sN:b<h.nx){O:Obj}(sz e:Nat)(ho:OR P φ o ⟨w.heap.size,sz,e⟩ (some O)):HR P (ir φ b ⟨w.heap.size,sz,e⟩) h (w.alloc O):=by
 have hsub:=rO (pl:=⟨w.heap.size,sz,e⟩) hp;refine⟨?_,?_,hr.keys,hr.S0,?_,hr.lo,hr.side.step (λB hB _=>dZ hB) λx pl hx=>?_⟩
 rotate_left 3
 .unfold ir at hx;split at hx
  .cases hx;exact .inl (Nat.le_refl _)
  .exact .inr ⟨x,pl,hx,rfl⟩
 .intro x o' pl hx ya;unfold ir at ya;split at ya
  .rename_i he;subst he;cases ya;rw[hb]at hx;cases hx
   show OR P _ o _ ((w.alloc O).heap[w.heap.size]?)
   rw[nK];exact ho.mono hsub
  .have hB:=(hr.dom x pl ya).2;rw[dZ hB];exact(hr.obj x o' pl hx ya).mono hsub
 .intro x pl ya;unfold ir at ya;split at ya
  .rename_i he;subst he;cases ya;exact⟨sN,by simp⟩
  .have:=hr.dom x pl ya;exact⟨this.1,by simp;omega⟩
 .intro x x' o1 o2 pl mM g1 g2 l1 l2 p1 p2 e;unfold ir at p1 p2;split at p1<;>split at p2
  .omega
  .rename_i h1 h2;cases p1;have:=(hr.dom x' mM p2).2;simp at e;omega
  .rename_i h1 h2;cases p2;have:=(hr.dom x pl p1).2;simp at e;omega
  .exact hr.inj x x' o1 o2 pl mM g1 g2 l1 l2 p1 p2 e
theorem Ext.DX{φ0:ej}{h0:ah}{w0:World}(hx:Ext φ0 φ h0 h w0 w){b:Nat}(hp:φ b=none)(hb:h0.nx<=b)(O:Obj)(hO:UF (some O))(sz e:Nat):Ext φ0 (ir φ b ⟨w.heap.size,sz,e⟩) h0 h w0 (w.alloc O) where
 sub:=hx.sub.trans (rO hp)
 new:=λx pl e0 e1=>by
  unfold ir at e1;split at e1
  .rename_i he;subst he;cases e1;exact⟨hb,.inl hx.size⟩
  .exact hx.new x pl e0 e1
 nx:=hx.nx
 size:=Nat.le_trans hx.size (by simp)
 Cg:=λB hB hn=>by
  have:=hx.size;rw[dZ XV];exact hx.Cg B hB hn
 Io:=hx.Io
 tape:=hx.tape
 os:=hx.os
 output:=hx.output
 lo:=hx.lo
 Kl:=hx.Kl
 Km:=λx o pl h1 h2 h3 h4 h5=>by
  have:=hx.size;rw[dZ XV];exact hx.Km x o pl h1 h2 h3 h4 h5
 dr:=hx.dr
 fz:=λB h=>by
  have h1:=hx.fz B h;rcases Nat.lt_trichotomy B w.heap.size with hl|hl|hl
  .rw[dZ hl];exact h1
  .subst hl;have:(w.alloc O).heap[w.heap.size]? = some O:=by show(w.heap.push O)[w.heap.size]? = _;simp
   rw[this];exact hO
  .have:(w.alloc O).heap[B]? = none:=by show(w.heap.push O)[B]? = _;simp;omega
   rw[this];trivial
theorem Ext.x_{φ0:ej}{h0:ah}{w0:World}(hx:Ext φ0 φ h0 h w0 w)(hlo:h.lo<=h.nx)(hn:h.nx<=h.nx)(o:bT):Ext φ0 φ h0 ⟨h.nx+1,h.bl.bx h.nx o,h.lo⟩ w0 w where
 sub:=hx.sub
 new:=hx.new
 nx:=Nat.le_trans hx.nx (Nat.le_succ _)
 size:=hx.size
 Cg:=hx.Cg
 Io:=λb hb hp=>by
  have:=hx.nx;rw[<-hx.Io b hb hp];exact T.iI _ _ (by unfold Small;omega) (by unfold Small;omega) XV
 tape:=hx.tape
 os:=hx.os
 output:=hx.output
 fz:=hx.fz
 lo:=hx.lo
 Km:=hx.Km
 dr:=hx.dr
 Kl:=λb hb=>by
  have:=hx.lo;rw[<-hx.Kl b hb];exact T.iI _ _ (by unfold Small;omega) (by unfold Small;omega) XV
theorem HR.fresh(hr:HR P φ h w)(hn:h.nx<=h.nx){o:bT}{O:Obj}(sz e:Nat)(ho:OR P φ o ⟨w.heap.size,sz,e⟩ (some O))(hl:o.live):HR P (ir φ h.nx ⟨w.heap.size,sz,e⟩) ⟨h.nx+1,h.bl.bx h.nx o,h.lo⟩ (w.alloc O)/\Ext φ (ir φ h.nx ⟨w.heap.size,sz,e⟩) h ⟨h.nx+1,h.bl.bx h.nx o,h.lo⟩ w (w.alloc O):=by
 have hnone:φ h.nx=none:=by
  cases hp:φ h.nx with
  |none=>rfl
  |some pl=>have:=(hr.dom _ _ hp).1;omega
 exact⟨(hr.x_ hn o).DX (T.an _ _ _) hnone (Nat.lt_succ_self _) sz e ho,((Ext.refl φ h w).x_ hr.lo hn o).DX hnone (Nat.le_refl _) O (tO ho hl) sz e⟩
def Names(mk:Nat->Value):Prop:=∀(φ:ej)(b:Nat)(pl:Pl),φ b=some pl->VR φ (mk b) (mk pl.B)
theorem Bh:Names av:=λ_ _ _ h=>.ptr h
theorem Mu:Names eY:=λ_ _ _ h=>.map h
theorem vY{n c:Nat}(h1:n<=c)(h2:c<aS):Names (bB n c):=λ_ _ _ h=>.slice h h1 h2
theorem qE(zs:List Value)(n:Nat):(aV zs n).length=n*zs.length:=by
 induction n with
 |zero=>simp[aV]
 |succ n ih=>simp[aV,ih,Nat.succ_mul];omega
theorem DY(zs:List Value)(n i:Nat)(hi:i<n*zs.length):(aV zs n)[i]? = zs[i % zs.length]?:=by
 induction n generalizing i with
 |zero=>omega
 |succ n ih=>
  rw[Nat.succ_mul]at hi;simp only[aV];rcases Nat.lt_or_ge i zs.length with h1|h1
  .rw[List.getElem?_append_left h1,Nat.mod_eq_of_lt h1]
  .rw[List.getElem?_append_right h1,ih _ XV]
   congr 1
   exact(Nat.mod_eq_sub_mod h1).symm
theorem tQ(z:Array Value)(n m:Nat)(hm:m=n*z.size):(Array.range m).map (λi=>z[i % z.size]!)=(aV z.toList n).toArray:=by
 subst hm;apply Array.ext';simp;apply List.ext_getElem?;intro i;by_cases hi:i<n*z.size
 ·have h0:0<z.size:=by rcases Nat.eq_zero_or_pos z.size with h|h;· rw[h]at hi;omega
                       .exact h
  have h1:i % z.size<z.size:=Nat.mod_lt _ h0;rw[DY _ _ _ (by simpa using hi)];simp[hi,h1,getElem!_pos]
 .rw[List.getElem?_eq_none (by simpa using hi),List.getElem?_eq_none (by rw[qE];simpa using hi)]
theorem j9{zs:List Value}(hz:zs.all ij=true)(n:Nat):(aV zs n).all ij=true:=by
 induction n with
 |zero=>rfl
 |succ n ih=>simp only[aV,List.all_append,hz,ih,Bool.and_self]
theorem rP{z:List Value}{s:Nat}(h:W5 P t=some (z,s)):zeroOf P t=some z/\fV P t=some s/\z.length=s/\0<s:=by
 unfold W5 at h;split at h<;>try (cases h;done)
 rename_i z' s' h1 h2;split at h<;>try (cases h;done)
 rename_i hl;cases h;exact⟨h1,h2,c_ hl,Nat.succ_pos _⟩
theorem vZ(hfl:¬good fl){op:Op}{i:XA β}(hc:sH fl P op=some i){tm:T Value}{ρ:Operand->Value}(hρ:∀y∈op.operands.toList,VR φ (fQ tm y) (ρ y)){Y:bT->(Nat->Value)->β}(hg:good (i.run tm Y)){o:Oper}(ho:o.op=op):∃ob mk O,good (Y ob mk)/\ob.live/\(∀pl,OR P φ ob pl (some O))/\Names mk/\(execOp ρ o).run P w=.ok (.value (mk w.heap.size)) (w.alloc O):=by
 have one:∀{vs vs':List Value}{e:TypeId}{mk:Nat->Value} ,F2 (VR φ) vs vs'->good (aK fl vs e false λo=>Y o mk)->Names mk->
   (∀O,O=Obj.cells vs'.toArray e (0,0)->(execOp ρ o).run P w=.ok (.value (mk w.heap.size)) (w.alloc O))->
   ∃ob mk O,good (Y ob mk)/\ob.live/\(∀pl,OR P φ ob pl (some O))/\Names mk/\(execOp ρ o).run P w=.ok (.value (mk w.heap.size)) (w.alloc O):=by
  intro vs vs' e mk hv hg hn hrun;obtain⟨h1,h2⟩:=kG hfl hg;refine⟨_,mk,.cells vs'.toArray e (0,0),h2,trivial,λpl=>?_,hn,hrun _ rfl⟩;have:=Oy (P:=P) hv h1 e pl [] false (λe=>by cases e);simpa using this
 cases op<;>simp only[sH]at hc<;>try (cases hc;done)
 case alloc e=>
  split at hc<;>try (cases hc;done)
  rename_i z hz;cases hc;rw[XA.Ot]at hg;obtain⟨v,inf,hi,Oz,rfl,hb⟩:=iQ hz;refine one (jt hb) hg Bh λO hO=>?_;subst hO;simp[execOp,ho,Instr.alloc,iJ hi Oz,newVar,newRow,av]
 case box e x=>
  cases hc;rw[XA.cT]at hg;refine one (hρ x (by simp[Op.operands])).cells hg Bh λO hO=>?_;subst hO;simp[execOp,ho,Instr.box,newVar,newRow,av]
 case buildSlice t len parts=>
  split at hc<;>try (cases hc;done)
  rename_i e hu;split at hc<;>try (cases hc;done)
  rename_i z s hz hlen;split at hc<;>try (cases hc;done)
  rename_i ps hps hs;cases hc;rw[XA.i_]at hg;rw[List.map_map]at hg;obtain⟨Iq,Cp,W8,hz4⟩:=rP hz;obtain⟨v,inf,hi,Oz,hzl,hb⟩:=iQ Iq;have hlen:=dK hlen;have hs:=dK hs;obtain⟨r,r',g1,g2,g3⟩:=vV (φ:=φ) hfl tm ρ _ parts.toList ps hps (λp wR=>hρ p.2 (by simp[Op.operands];exact⟨p.1,by simpa using wR⟩)) _ _ (jt (j9 hb len)) _ hg;refine one g2 g1 (vY (Nat.le_refl _) (by rw[kF];omega)) λO hO=>?_;subst hO;have h1:¬len*s > 2 ^ 24:=by
   have:len*s<=10000*1000:=Nat.mul_le_mul hlen hs;omega
  have hsize:v.cells.size=s:=by rw[<-W8,hzl];simp
  have h2:(if len*s=0 then(#[]:Array Value)else v.cells)=(if len*s=0 then #[]else v.cells):=rfl;have h3:(Array.range (len*s)).map (λi=>v.cells[i % v.cells.size]!)=(aV z len).toArray:=by
   rw[tQ v.cells len (len*s) (by rw[hsize]),hzl]
  have W6:Instr.fill (λi=>some (i*s,s)) (aV z len).toArray (parts.toList.map λp=>(p.1,ρ p.2))=some r'.toArray:=g3;by_cases h0:len*s=0
  .have hl0:len=0:=by rcases Nat.mul_eq_zero.1 h0 with h|h<;>omega
   subst hl0;simp[aV]at W6;simp[execOp,ho,Instr.buildSlice,aW hu,dm Cp,W6,newRow,bB,Array.range_zero']
  .simp[execOp,ho,Instr.buildSlice,aW hu,dm Cp,h1,h0,iJ hi Oz,h3,W6,newRow,bB]
 case makeMap t r=>
  have fin:good (Y (.map [] 0) eY)->(execOp ρ o).run P w=.ok (.value (eY w.heap.size)) (w.alloc (.map #[] 0))->
    ∃ob mk O,good (Y ob mk)/\ob.live/\(∀pl,OR P φ ob pl (some O))/\Names mk/\(execOp ρ o).run P w=.ok (.value (mk w.heap.size)) (w.alloc O):=
   λg1 g2=>⟨_,eY,.map #[] 0,g1,trivial,λpl=>⟨rfl,.nil⟩,Mu,g2⟩
  split at hc
  .cases hc;rw[XA.Ot]at hg;exact fin hg (by simp[execOp,ho,Instr.makeMap,eY])
  .rename_i x;split at hc<;>try (cases hc;done)
   rename_i hu;cases hc;rw[XA.cT]at hg;split at hg<;>try cases hfl hg
   rename_i k n hx;have hv:=hρ x (by simp[Op.operands]);rw[hx]at hv;generalize hy:ρ x=y at hv;cases hv;exact fin hg (by simp[execOp,ho,Instr.makeMap,eY,aW hu,hy,asInt,asIntOf])
 case makeSlice t l c=>
  split at hc<;>try (cases hc;done)
  rename_i e hu;split at hc<;>try (cases hc;done)
  rename_i z s inf hz hi;split at hc<;>try (cases hc;done)
  rename_i hbytes;have hbytes:=dK hbytes;cases hc;rw[XA.dN]at hg;split at hg<;>try cases hfl hg
  rename_i k1 l' k2 c' hl Kr;split at hg<;>try cases hfl hg
  rename_i hle W9;have hle:=dK hle;have W9:=dK W9;have hv1:=hρ l (by simp[Op.operands]);have W_:=hρ c (by simp[Op.operands]);rw[hl]at hv1;rw[Kr]at W_;generalize hy1:ρ l=y1 at hv1;generalize hy2:ρ c=y2 at W_;cases hv1;cases W_;obtain⟨Iq,Cp,W8,hz4⟩:=rP hz;obtain⟨v,Xa,hi',Oz,hzl,hb⟩:=iQ Iq;rw[hi]at hi';cases hi';refine one (jt (j9 hb c')) hg (vY hle (by rw[kF];omega)) λO hO=>?_;subst hO;have w1:IntKind.i64.wrap (l':Int)=l':=IntWalk.i64_in _ ⟨XV,XV⟩;have w2:IntKind.i64.wrap (c':Int)=c':=IntWalk.i64_in _ ⟨XV,XV⟩;have hbc:(inf.bytes:Int)*(c':Int)<=2 ^ 48:=by
   have:inf.bytes*c'<=1000000*1000000:=Nat.mul_le_mul hbytes W9;have h2:(inf.bytes:Int)*(c':Int)=((inf.bytes*c':Nat):Int):=by simp
   rw[h2];omega
  have hsize:v.cells.size=s:=by rw[<-W8,hzl];simp
  have c1:decide ((c':Int)<0)=false:=decide_eq_false XV;have c2:decide ((inf.bytes:Int)*(c':Int) > 2 ^ 48)=false:=decide_eq_false XV;have c3:¬((l':Int)<0):=by omega
  have c4:¬((l':Int) > (c':Int)):=by omega
  have h3:(Array.range (c'*s)).map (λi=>v.cells[i % v.cells.size]!)=(aV z c').toArray:=by
   rw[tQ v.cells c' (c'*s) (by rw[hsize]),hzl]
  have hA:(asInt (.int k1 (l':Int))).run P w=.ok (l':Int) w:=by simp[asInt,asIntOf]
  have hB:(asInt (.int k2 (c':Int))).run P w=.ok (c':Int) w:=by simp[asInt,asIntOf]
  have hrun:(Instr.makeSlice t (.int k1 (l':Int)) (.int k2 (c':Int))).run P w=.ok (bB l' c' w.heap.size) (w.alloc (.cells (aV z c').toArray e (0,0))):=by
   unfold Instr.makeSlice;simp only[Sem.run_bind,aW hu,Result.andThen_ok,hA,hB,qD hi,w1,w2];simp only[c1,c2,Bool.or_self,c3,c4];by_cases h0:c'*s=0
   .have hc0:c'=0:=by rcases Nat.mul_eq_zero.1 h0 with h|h<;>omega
    subst hc0;simp[dm Cp,newRow,bB,aV,Array.range_zero']
   .have h3':(Array.range (c'*s)).map (λi=>v.cells[i % v.cells.size]!)=(aV z c').toArray:=h3;simp[dm Cp,h0,iJ hi Oz,h3',newRow,bB]
  simp only[execOp,ho,hy1,hy2];exact jW hrun
theorem kH(hfl:¬good fl)(n:Nat):∀(vs:List Value)(c:T Value)(off:Nat)(Y:T Value->β),good (nI fl n vs c off Y)->
  (∀v∈vs,eO v=true)/\(vs≠[]->off+vs.length<=n)/\good (Y (lay vs c off)):=by
 intro vs
 induction vs with
 |nil=>intro c off Y hg;exact⟨λv hv=>(by cases hv),λhh=>absurd rfl hh,hg⟩
 |cons v vs ih=>
  intro c off Y hg;have hg':good (Bool.rec (motive:=λ_=>β) fl (Bool.rec (motive:=λ_=>β) fl (T.set c off v λc=>nI fl n vs c (Nat.succ off) Y) (Nat.ble (Nat.succ off) n)) (eO v)):=hg;cases h1:eO v with
  |false=>rw[h1]at hg';exact absurd hg' hfl
  |true=>
   rw[h1]at hg';cases h2:Nat.ble (Nat.succ off) n with
   |false=>rw[h2]at hg';exact absurd hg' hfl
   |true=>
    rw[h2]at hg';simp only[T.cQ]at hg';obtain⟨g1,g2,g3⟩:=ih _ _ _ hg';refine⟨λu hu=>?_,λ_=>?_,g3⟩
    .simp at hu;rcases hu with rfl|hu
     .exact h1
     .exact g1 u hu
    .have:=dK h2;cases vs with
     |nil=>simp;omega
     |cons x vs=>have:=g2 (by simp);simp at this ⊢;omega
theorem Ks{v v':Value}(h1:eO v=true)(hv:VR φ v v'):v'.oneCell'=true:=by
 cases hv<;>first|rfl|(simp[eO]at h1)
theorem HR.rowAt(hr:HR P φ h w){b n e:Nat}{c:T Value}{op:Bool}{pl:Pl}(hb:h.bl.get b=some (.cells n c e op))(hp:φ b=some pl):∃C,w.heap[pl.B]? = some (.cells C e (0,0))/\n<=C.size/\n<=4611686018427387904/\(op=true->C.size=pl.sz/\fV P e=some pl.e/\0<pl.e)/\∀i v,c.get i=some v->i<n->∃v',C[i]? = some v'/\VR φ v v':=by
 have:=hr.obj b _ pl hb hp;cases hO:w.heap[pl.B]? with
 |none=>rw[hO]at this;exact this.elim
 |some O=>
  rw[hO]at this;cases O<;>simp only[OR]at this<;>try exact this.elim
  obtain⟨rfl,rfl,h3,h4,h5,h6⟩:=this;exact⟨_,rfl,h3,h4,h5,h6⟩
theorem DZ(hr:HR P φ h w){b:Nat}(hb:b<=h.nx):Small b:=by have:=hr.S0;unfold Small;omega
theorem HR.wS(hr:HR P φ h w){b:Nat}(hlo:h.lo<=b){o:bT}{pl:Pl}(hp:φ b=some pl)(acw:∃q,h.bl.get b=some q/\q.live){w':World}(hsz:w'.heap.size=w.heap.size)(Cq:∀k,k≠pl.B->w'.heap[k]? = w.heap[k]?)(ho:OR P φ o pl w'.heap[pl.B]?)(ht:w'.tape=w.tape)(hos:w'.os=w.os)(hout:w'.output=w.output)(hu:o.live\/(UF w.heap[pl.B]?->UF w'.heap[pl.B]?))(Vx:w.drawn<=w'.drawn:=by exact Nat.le_refl _):HR P φ ⟨h.nx,h.bl.bx b o,h.lo⟩ w'/\Ext φ φ h ⟨h.nx,h.bl.bx b o,h.lo⟩ w w':=by
 have sN:=(hr.dom b pl hp).1;have S3:Small b:=DZ hr (Nat.le_of_lt sN);have ja:∀x,x<h.nx->x≠b->(h.bl.bx b o).get x=h.bl.get x:=λx hx Vy=>T.iI _ _ S3 (DZ hr (Nat.le_of_lt hx)) (Ne.symm Vy);obtain⟨q,hq1,rQ⟩:=acw;constructor
 .refine⟨?_,?_,?_,hr.S0,?_,hr.lo,hr.side.heap λB _ hn=>Cq B λe=>hn b pl hp e.symm⟩
  .intro x o' mM hx ya;by_cases Vy:x=b
   .subst Vy;rw[hp]at ya;cases ya;rw[T.an]at hx;cases hx;exact ho
   .have Vz:=(hr.dom x mM ya).1;have hx':h.bl.get x=some o':=(ja x Vz Vy)▸hx;by_cases hB:mM.B=pl.B
    .
     have hd:¬o'.live:=λhl=>Vy (hr.inj x b o' q mM pl hx' hq1 hl rQ ya hp hB);have h1:=hr.obj x o' mM hx' ya;cases o' with
     |dead n e=>
      have h2:n<=mM.sz/\n<=4611686018427387904/\fV P e=some mM.e/\0<mM.e:=by
       cases hO:w.heap[mM.B]? with
       |none=>rw[hO]at h1;exact h1
       |some O=>rw[hO]at h1;cases O<;>exact h1
      cases w'.heap[mM.B]? with
      |none=>exact h2
      |some O=>cases O<;>exact h2
     |cells=>exact absurd trivial hd
     |map=>exact absurd trivial hd
     |fc=>exact absurd trivial hd
     |Vu=>exact absurd trivial hd
     |loop=>exact absurd trivial hd
     |ro=>exact absurd trivial hd
    .rw[Cq _ hB];exact hr.obj x o' mM hx' ya
  .intro x mM ya;have:=hr.dom x mM ya;exact⟨this.1,by rw[hsz];exact this.2⟩
  .intro x o' hsx hx
   show x<h.nx
   rw[T.mV _ _ S3 hsx]at hx;split at hx
   .rename_i he;subst he;exact sN
   .exact hr.keys x o' hsx hx
  ·intro x x' o1 o2 pl1 pl2 g1 g2 l1 l2 p1 p2 e;have n1:=(hr.dom x pl1 p1).1;have n2:=(hr.dom x' pl2 p2).1;have key:∀y oy py,y<h.nx->(h.bl.bx b o).get y=some oy->oy.live->φ y=some py->∃o',h.bl.get y=some o'/\o'.live:=by
    intro y oy py hy gy ly _;by_cases hyb:y=b
    .subst hyb;exact⟨q,hq1,rQ⟩
    .exact⟨oy,(ja y hy hyb)▸gy,ly⟩
   obtain⟨q1,a1,b1⟩:=key x o1 pl1 n1 g1 l1 p1;obtain⟨q2,a2,b2⟩:=key x' o2 pl2 n2 g2 l2 p2;exact hr.inj x x' q1 q2 pl1 pl2 a1 a2 b1 b2 p1 p2 e
 .refine⟨Sub.refl φ,λb pl a b'=>(by rw[a]at b';cases b'),Nat.le_refl _,by rw[hsz];exact Nat.le_refl _,?_,?_,ht,hos,hout,?_,rfl,λx hx=>ja x (Nat.lt_of_lt_of_le hx hr.lo) XV,λx o mM h1 h2 h3 h4 h5=>Cq mM.B λe=>absurd (hr.inj x b o q mM pl h2 hq1 h3 rQ h4 hp e) XV,Vx⟩
  .intro B _ hn;exact Cq B λe=>hn b pl hp e.symm
  .intro x hx hn;exact ja x hx λe=>by subst e;rw[hp]at hn;cases hn
  .intro B hB;by_cases he:B=pl.B
   .subst he;rcases hu with hu|hu
    .exact tO ho hu
    .exact hu hB
   .rw[Cq B he];exact hB
theorem HR.storeAt(hr:HR P φ h w){b n e off:Nat}(hlo:h.lo<=b){c:T Value}{op:Bool}{pl:Pl}(hb:h.bl.get b=some (.cells n c e op))(hp:φ b=some pl){vs vs':List Value}(hv:F2 (VR φ) vs vs')(h1:∀v∈vs,eO v=true)(h2:vs≠[]->off+vs.length<=n):∃w',(storeCells ⟨pl.B,off,none⟩ vs').run P w=.ok () w'/\HR P φ ⟨h.nx,h.bl.bx b (.cells n (lay vs c off) e op),h.lo⟩ w'/\Ext φ φ h ⟨h.nx,h.bl.bx b (.cells n (lay vs c off) e op),h.lo⟩ w w':=by
 obtain⟨C,hC,Ap,hn2,hop,hcell⟩:=hr.rowAt hb hp;have hlen:=hv.length;have hone:∀v'∈vs',v'.oneCell'=true:=by
  intro v' vT;obtain⟨i,hi⟩:=List.getElem?_of_mem vT;have hi':i<vs'.length:=(List.getElem?_eq_some_iff.1 hi).1;have:∃v,vs[i]? = some v:=⟨vs[i]'XV,List.getElem?_eq_getElem XV⟩
  obtain⟨v,hvi⟩:=this;obtain⟨u,OA,Xb⟩:=hv.get i v hvi;rw[hi]at OA;cases OA;exact Ks (h1 v (List.mem_of_getElem? hvi)) Xb
 cases hvs:vs with
 |nil=>
  subst hvs;cases hv;refine⟨w,by simp[storeCells],?_⟩;have:=hr.wS hlo (o:=.cells n (lay [] c off) e op) hp ⟨_,hb,trivial⟩ (w':=w) rfl (λ_ _=>rfl) (by rw[hC];exact⟨rfl,rfl,Ap,hn2,hop,hcell⟩) rfl rfl rfl (.inl trivial);exact this
 |cons v0 vs0=>
  have hne:vs≠[]:=by rw[hvs];simp
  have hle:=h2 hne;rw[<-hvs];have hrun:=run_storeCells_at P pl.B off e vs' 0 C w hC (by simp;omega) hone;simp only[Nat.add_zero]at hrun;refine⟨_,hrun,?_⟩;refine hr.wS hlo hp ⟨_,hb,trivial⟩ (setRow_size _ _ _) (λk hk=>setRow_other _ _ _ _ hk) ?_ rfl rfl rfl (.inl trivial);rw[setRow_heap w pl.B C _ e _ hC];refine⟨rfl,rfl,by simp;omega,hn2,λh=>?_,?_⟩
  .obtain⟨k1,k2,k3⟩:=hop h;refine⟨?_,k2,k3⟩;simp;omega
  .intro i v h_ hi;rw[pz vs c off XV i (DW (Nat.le_of_lt hi) hn2)]at h_;split at h_
   .rename_i hin;obtain⟨v',g1,g2⟩:=hv.get _ v h_;refine⟨v',?_,g2⟩;simp only[List.getElem?_toArray,List.append_assoc];rw[List.getElem?_append_right (by simp;omega),List.getElem?_append_left (by simp;omega)];rw[<-g1];congr 1;simp;omega
   .rename_i am9;obtain⟨v',g1,g2⟩:=hcell i v h_ hi;refine⟨v',?_,g2⟩;simp only[List.getElem?_toArray,List.append_assoc];rcases Nat.lt_or_ge i off with hlt|hge
    .rw[List.getElem?_append_left (by simp;omega),List.getElem?_take_of_lt hlt];simpa using g1
    .rw[List.getElem?_append_right (by simp;omega),List.getElem?_append_right (by simp;omega),List.getElem?_drop];have:off+vs'.length+(i-(List.take off C.toList).length-vs'.length)=i:=by simp;omega
     rw[this];simpa using g1
end Go.Vai

namespace Go.Vai
open Go
variable {β:Type}{fl:β}{good:β->Prop}{P:Program}{φ:ej}{h:ah}{w:World}{t:TypeId}
def Xc(nx:Next)(v:Value):Prop:=nx=.value v\/(nx=.skip/\v=undef)
def S4(good:β->Prop)(P:Program)(φ:ej)(h:ah)(w:World)(Y:XW β)(r:Result Next):Prop:=
 ∃φ' v v' h' w' nx,good (Y v h')/\VR φ' v v'/\HR P φ' h' w'/\Ext φ φ' h h' w w'/\r=.ok nx w'/\Xc nx v'
theorem bC(hfl:¬good fl){b:Nat}{o:bT}{Y:ah->β}(hg:good (setBlock fl b o h Y)):h.lo<=b/\good (Y ⟨h.nx,h.bl.bx b o,h.lo⟩):=by
 unfold setBlock at hg;split at hg
 .rename_i hle;rw[T.cQ]at hg;exact⟨dK hle,hg⟩
 .exact absurd hg hfl
theorem Cr(hfl:¬good fl){s:Nat}(hs:fV P t=some s)(hr:HR P φ h w){a a' x x':Value}{Y:XW β}(hg:good (aM fl s a x h Y))(ha:VR φ a a')(hx:VR φ x x'):∃h' w',good (Y undef h')/\HR P φ h' w'/\Ext φ φ h h' w w'/\(Instr.storeAt t a' x').run P w=.ok () w':=by
 unfold aM at hg;split at hg<;>try cases hfl hg
 cases ha with
 |ptr hp=>
  split at hg<;>try cases hfl hg
  rename_i n c e op hb;split at hg<;>try cases hfl hg
  rename_i hl;have hl:=c_ hl;obtain⟨g1,g2,g3⟩:=kH hfl _ _ _ _ _ hg;obtain⟨hlo,g3⟩:=bC hfl g3;obtain⟨w',k1,k2,k3⟩:=hr.storeAt hlo hb hp hx.cells g1 g2;refine⟨_,w',g3,k2,k3,?_⟩;have hsz:x'.cells.size=s:=by have:=hx.cells.length;simp at this hl;omega
  simp[Instr.storeAt,Instr.sureAddr,storeVar,dm hs,hsz,k1]
theorem lW(x:MapEntry)(es:List MapEntry)(Y:List MapEntry->β):A9 x es Y=Y (es++[x]):=by
 induction es generalizing Y with
 |nil=>rfl
 |cons e es ih=>simp only[A9,ih,List.cons_append]
theorem lY(f:MapEntry->MapEntry):∀(i:Nat)(es:List MapEntry)(Y:List MapEntry->β),setAt f i es Y=Y (es.modify i f):=by
 intro i es
 induction es generalizing i with
 |nil=>intro Y;cases i<;>simp[setAt]
 |cons e es ih=>intro Y;cases i<;>simp[setAt,ih]
theorem yb:∀(i:Nat)(es:List MapEntry)(Y:List MapEntry->β),A_ i es Y=Y (es.eraseIdx i):=by
 intro i es
 induction es generalizing i with
 |nil=>intro Y;cases i<;>simp[A_]
 |cons e es ih=>intro Y;cases i<;>simp[A_,ih]
theorem HR.qF(hr:HR P φ h w){b clock clock':Nat}(hlo:h.lo<=b){es es1:List MapEntry}{IL:Array MapEntry}{pl:Pl}(hb:h.bl.get b=some (.map es clock))(hp:φ b=some pl)(h1:F2 (ER φ) es1 IL.toList):∃w',(setObj pl.B (.map IL clock')).run P w=.ok () w'/\HR P φ ⟨h.nx,h.bl.bx b (.map es1 clock'),h.lo⟩ w'/\Ext φ φ h ⟨h.nx,h.bl.bx b (.map es1 clock'),h.lo⟩ w w':=by
 obtain⟨es',hO,h2⟩:=hr.pW hb hp;have hlt:pl.B<w.heap.size:=(hr.dom b pl hp).2;refine⟨{ w with heap:=w.heap.setIfInBounds pl.B (.map IL clock') },by simp[setObj,Sem.run,hO],?_⟩;refine hr.wS hlo hp ⟨_,hb,trivial⟩ (by simp) (λk hk=>?_) ?_ rfl rfl rfl (.inl trivial)
 .show(w.heap.setIfInBounds pl.B (.map IL clock'))[k]? = _
  exact Array.getElem?_setIfInBounds_ne (Ne.symm hk)
 .show OR P φ _ pl ((w.heap.setIfInBounds pl.B (.map IL clock'))[pl.B]?)
  rw[Array.getElem?_setIfInBounds_self_of_lt hlt];exact⟨rfl,h1⟩
theorem F2.modify{α γ:Type}{R:α->γ->Prop}{f:α->α}{g:γ->γ}{l:List α}{m:List γ}(hl:F2 R l m)(hfg:∀a b,R a b->R (f a) (g b))(i:Nat):F2 R (l.modify i f) (m.modify i g):=by
 induction hl generalizing i with
 |nil=>simp;exact .nil
 |cons hr ht ih=>cases i with
  |zero=>simp;exact .cons (hfg _ _ hr) ht
  |succ i=>simp;exact .cons hr (ih i)
theorem F2.eraseIdx{α γ:Type}{R:α->γ->Prop}{l:List α}{m:List γ}(hl:F2 R l m)(i:Nat):F2 R (l.eraseIdx i) (m.eraseIdx i):=by
 induction hl generalizing i with
 |nil=>simp;exact .nil
 |cons hr ht ih=>cases i with
  |zero=>simpa using ht
  |succ i=>simp;exact .cons hr (ih i)
theorem nL{a:Value}(hs:n_ a=true):Instr.sameBits 10000 a a=true:=by
 have one:∀{n:Nat}{v:Value},ki v=true->Instr.sameBits n v v=true:=by
  intro n v hv;cases v<;>simp[ki]at hv<;>simp[Instr.sameBits,S2]
 cases a
 case agg cs=>
  simp only[n_]at hs;simp only[Instr.sameBits,beq_self_eq_true,Bool.true_and];generalize cs.toList=l at hs
  induction l with
  |nil=>simp
  |cons v l ih=>simp only[List.all_cons,Bool.and_eq_true]at hs;simp[one hs.1];simpa using ih hs.2
 all_goals exact one hs
theorem xk{f:Value->Value->Bool}(hf:∀a b,f a b=true->a=b):∀(l m:List Value),xL f l m=true->l=m:=by
 intro l
 induction l with
 |nil=>intro m hm;cases m<;>simp[xL]at hm;rfl
 |cons x l ih=>intro m hm;cases m with
  |nil=>simp[xL]at hm
  |cons y m=>simp only[xL,Bool.and_eq_true]at hm;rw[hf _ _ hm.1,ih _ hm.2]
theorem Cs:∀(n:Nat)(a b:Value),je n a b=true->a=b:=by
 intro n
 induction n with
 |zero=>intro a b hv;simp[je]at hv
 |succ n ih=>
  intro a b hv;simp only[je]at hv;split at hv<;>try (cases hv;done)
  .simp at hv;rw[hv]
  .simp[gU,fS]at hv;rw[hv.1,hv.2]
  .simp[kE]at hv;rw[hv]
  .rfl
  .simp only[Bool.and_eq_true]at hv;rw[c_ hv.1,c_ hv.2]
  .simp only[Bool.and_eq_true]at hv;rw[c_ hv.1,c_ hv.2]
  .simp only[Bool.and_eq_true]at hv;obtain⟨⟨⟨h1,h2⟩,h3⟩,h4⟩:=hv;rw[c_ h1,c_ h2,c_ h3,c_ h4]
  .rfl
  .rw[c_ hv]
  .rfl
  .rfl
  .simp only[Bool.and_eq_true]at hv;rw[c_ hv.1,ih _ _ hv.2]
  .congr 1;exact Array.ext' (xk ih _ _ hv)
  .congr 1;exact Array.ext' (xk ih _ _ hv)
  .simp only[Bool.and_eq_true]at hv;obtain⟨⟨h1,h2⟩,h3⟩:=hv;rw[c_ h1,Array.ext' (xk ih _ _ h2),Array.ext' (xk ih _ _ h3)]
theorem oh(hfl:¬good fl){kt et:TypeId}(hu:P.underlying t=some (.map kt et))(hr:HR P φ h w){m m' k k' x x':Value}{Y:XW β}(hg:good (bY fl P kt m k x h Y))(hm:VR φ m m')(hk:VR φ k k')(hx:VR φ x x'):∃h' w',good (Y undef h')/\HR P φ h' w'/\Ext φ φ h h' w w'/\(Instr.mapUpdate t m' k' x').run P w=.ok () w':=by
 unfold bY at hg;split at hg<;>try cases hfl hg
 rename_i II;have hsc:=pq II;have hkk:=rM hsc hk;subst hkk;have AF:∀em,(Instr.checkKey em 10000 kt k').run P w=.ok () w:=λem=>jI 20 10000 XV kt k' em II;obtain⟨u,NY⟩:=rN II;split at hg<;>try cases hfl hg
 cases hm with
 |map hp=>
  rename_i pl;split at hg<;>try cases hfl hg
  rename_i es clock hb;obtain⟨es',hO,h2⟩:=hr.pW hb hp;split at hg
  .rename_i i e hf;split at hg<;>try cases hfl hg
   rename_i hes;rw[lY]at hg;obtain⟨hlo,hg⟩:=bC hfl hg;obtain⟨r',g3,g4⟩:=dI hr hk es es'.toList 0 _ h2 hf;cases r' with
   |none=>exact g4.elim
   |some p=>
    obtain⟨i',v'⟩:=p;obtain⟨rfl,_,g6,_,_⟩:=g4;simp only[Nat.sub_zero]at g6;obtain⟨e',tR,he2⟩:=h2.get _ _ g6;have hke:=Cs 3 _ _ hes;have hkey:e'.key=k':=by
     have h3:=he2.key;rw[<-hke]at h3;exact rM hsc h3
    have hsame:(Instr.keyThatStays (((es'[i']?).map (·.key)).getD k') k').run P w=.ok k' w:=by
     have:es'[i']? = some e':=by simpa using tR
     simp[Instr.keyThatStays,this,hkey,nL hsc]
    have hnew:F2 (ER φ) (es.modify i' λe=>{ e with key:=k',val:=x }) (es'.modify i' λe=>{ e with key:=k',val:=x' }).toList:=by
     rw[Array.toList_modify];exact h2.modify (f:=λe=>{ e with key:=k',val:=x }) (g:=λe=>{ e with key:=k',val:=x' }) (λa b hab=>⟨hk,hx,hab.born⟩) i'
    obtain⟨w',k1,k2,k3⟩:=hr.qF hlo (clock':=clock) hb hp hnew;refine⟨_,w',hg,k2,k3,?_⟩;simp[Instr.mapUpdate,aW hu,dy hO,AF,fE NY g3,hsame,k1]
  .rename_i hf;rw[lW,bR]at hg;obtain⟨hlo,hg⟩:=bC hfl hg;obtain⟨r',g3,g4⟩:=dI hr hk es es'.toList 0 _ h2 hf;cases r' with
   |some p=>exact g4.elim
   |none=>
    have hnew:F2 (ER φ) (es++[{ key:=k',val:=x,born:=clock }]) (es'.push { key:=k',val:=x',born:=clock }).toList:=by
     rw[Array.toList_push];exact h2.append (.cons ⟨hk,hx,rfl⟩ .nil)
    obtain⟨w',k1,k2,k3⟩:=hr.qF hlo (clock':=clock+1) hb hp hnew;refine⟨_,w',hg,k2,k3,?_⟩;simp[Instr.mapUpdate,aW hu,dy hO,AF,fE NY g3,k1]
  .exact absurd hg hfl
theorem wT(hfl:¬good fl){kt et:TypeId}{zero:Value}{inf:TypeInfo}(hu:P.underlying t=some (.map kt et))(hi:P.info? et=some inf)(hz:inf.zero=some zero)(hzs:qq zero=true)(hr:HR P φ h w){m m' k k':Value}{Y:XW β}(hg:good (oc fl P kt zero m k h Y))(hm:VR φ m m')(hk:VR φ k k'):∃v v' h' w',good (Y v h')/\VR φ v v'/\HR P φ h' w'/\Ext φ φ h h' w w'/\(Instr.mapEntry t m' k').run P w=.ok v' w':=by
 unfold oc at hg;split at hg<;>try cases hfl hg
 rename_i II;have hsc:=pq II;have hkk:=rM hsc hk;subst hkk;have AF:∀em,(Instr.checkKey em 10000 kt k').run P w=.ok () w:=λem=>jI 20 10000 XV kt k' em II;obtain⟨u,NY⟩:=rN II;split at hg<;>try cases hfl hg
 cases hm with
 |map hp=>
  rename_i pl;split at hg<;>try cases hfl hg
  rename_i es clock hb;obtain⟨es',hO,h2⟩:=hr.pW hb hp;split at hg
  .rename_i i e hf;split at hg<;>try cases hfl hg
   rename_i hes;rw[lY]at hg;obtain⟨hlo,hg⟩:=bC hfl hg;obtain⟨r',g3,g4⟩:=dI hr hk es es'.toList 0 _ h2 hf;cases r' with
   |none=>exact g4.elim
   |some p=>
    obtain⟨i',v'⟩:=p;obtain⟨rfl,_,g6,g7,_⟩:=g4;simp only[Nat.sub_zero]at g6;obtain⟨e',tR,he2⟩:=h2.get _ _ g6;have hke:=Cs 3 _ _ hes;have hkey:e'.key=k':=by
     have h3:=he2.key;rw[<-hke]at h3;exact rM hsc h3
    have oQ:es'[i']? = some e':=by simpa using tR
    have hsame:(Instr.keyThatStays (((es'[i']?).map (·.key)).getD k') k').run P w=.ok k' w:=by
     simp[Instr.keyThatStays,oQ,hkey,nL hsc]
    have hnew:F2 (ER φ) (es.modify i' λe=>{ e with key:=k' }) (es'.modify i' λe=>{ e with key:=k' }).toList:=by
     rw[Array.toList_modify];exact h2.modify (f:=λe=>{ e with key:=k' }) (g:=λe=>{ e with key:=k' }) (λa b hab=>⟨hk,hab.val,hab.born⟩) i'
    obtain⟨w',k1,k2,k3⟩:=hr.qF hlo (clock':=clock) hb hp hnew;refine⟨_,.tuple #[v',.int .i64 (.ofNat e.born)],_,w',hg,VR.tuple' (.cons g7 (.cons (.int _ _) .nil)),k2,k3,?_⟩;have Kt:e'.born=e.born:=he2.born;simp[Instr.mapEntry,aW hu,dy hO,AF,fE NY g3,oQ,hkey,Instr.keyThatStays,nL hsc,k1,Kt,goInt]
  .rename_i hf;rw[lW,bR]at hg;obtain⟨hlo,hg⟩:=bC hfl hg;obtain⟨r',g3,g4⟩:=dI hr hk es es'.toList 0 _ h2 hf;cases r' with
   |some p=>exact g4.elim
   |none=>
    have hnew:F2 (ER φ) (es++[{ key:=k',val:=zero,born:=clock }]) (es'.push { key:=k',val:=zero,born:=clock }).toList:=by
     rw[Array.toList_push];exact h2.append (.cons ⟨hk,jv hzs,rfl⟩ .nil)
    obtain⟨w',k1,k2,k3⟩:=hr.qF hlo (clock':=clock+1) hb hp hnew;refine⟨_,.tuple #[zero,.int .i64 (.ofNat clock)],_,w',hg,VR.tuple' (.cons (jv hzs) (.cons (.int _ _) .nil)),k2,k3,?_⟩;simp[Instr.mapEntry,aW hu,dy hO,AF,fE NY g3,iJ hi hz,k1,goInt]
  .exact absurd hg hfl
theorem Ct{n:Nat}:∀(es es':List MapEntry)(i j:Nat),F2 (ER φ) es es'->xP n es i=some j->
  i<=j/\es'.findIdx? (λe=>(e.born:Int) == (n:Int))=some (j-i):=by
 intro es
 induction es with
 |nil=>intro es' i j _ hf;simp[xP]at hf
 |cons e es ih=>
  intro es' i j h2 hf;cases h2 with
  |cons he h2=>
   rename_i e' l';simp only[xP]at hf;have hb:e'.born=e.born:=he.born;split at hf
   .rename_i hq;cases hf;have:=Nat.eq_of_beq_eq_true hq;refine⟨Nat.le_refl _,?_⟩;simp[List.findIdx?_cons,hb,this]
   .rename_i hq;obtain⟨g1,g2⟩:=ih _ _ _ h2 hf;have hne:e.born≠n:=by intro x;subst x;simp at hq
    refine⟨XV,?_⟩;have:((e'.born:Int) == (n:Int))=false:=by rw[hb];simp;omega
    rw[List.findIdx?_cons,this];simp[g2];omega
theorem tT(hfl:¬good fl)(hr:HR P φ h w){m m' s s' x x':Value}{Y:XW β}(hg:good (kq fl m s x h Y))(hm:VR φ m m')(hs:VR φ s s')(hx:VR φ x x'):∃h' w',good (Y undef h')/\HR P φ h' w'/\Ext φ φ h h' w w'/\(Instr.entryStore t m' s' x').run P w=.ok () w':=by
 unfold kq at hg;split at hg<;>try cases hfl hg
 cases hm with
 |map hp=>
  rename_i pl;split at hg<;>try cases hfl hg
  rename_i n;cases hs;split at hg<;>try cases hfl hg
  rename_i es clock hb;obtain⟨es',hO,h2⟩:=hr.pW hb hp;split at hg<;>try cases hfl hg
  rename_i i hf;rw[lY]at hg;obtain⟨hlo,hg⟩:=bC hfl hg;obtain⟨_,g2⟩:=Ct es es'.toList 0 i h2 hf;have hnew:F2 (ER φ) (es.modify i λe=>{ e with val:=x }) (es'.modify i λe=>{ e with val:=x' }).toList:=by
   rw[Array.toList_modify];exact h2.modify (f:=λe=>{ e with val:=x }) (g:=λe=>{ e with val:=x' }) (λa b hab=>⟨hab.key,hx,hab.born⟩) i
  obtain⟨w',k1,k2,k3⟩:=hr.qF hlo (clock':=clock) hb hp hnew;refine⟨_,w',hg,k2,k3,?_⟩;have g3:es'.findIdx? (λe=>(e.born:Int) == (n:Int))=some i:=by
   rw[show es'=es'.toList.toArray from by simp,List.findIdx?_toArray];simpa using g2
  simp[Instr.entryStore,dy hO,asInt,asIntOf,g3,k1]
end Go.Vai

namespace Go.Vai
open Go
variable {β:Type}{fl:β}{good:β->Prop}{P:Program}{φ:ej}{h:ah}{w:World}{t:TypeId}
theorem AH(hfl:¬good fl){kt et ty:TypeId}{ts:Array TypeId}(ht:ts[0]? = some t)(hu:P.underlying t=some (.map kt et))(hr:HR P φ h w){m m' k k':Value}{Y:XW β}(hg:good (mT fl P kt m k h Y))(hm:VR φ m m')(hk:VR φ k k'):∃h' w',good (Y (.tuple #[]) h')/\HR P φ h' w'/\Ext φ φ h h' w w'/\(Builtin.delete_ ts ty #[m',k']).run P w=.ok (.tuple #[]) w':=by
 unfold mT at hg;split at hg<;>try cases hfl hg
 rename_i II;have hsc:=pq II;have hkk:=rM hsc hk;subst hkk;have AF:∀em,(Instr.checkKey em 10000 kt k').run P w=.ok () w:=λem=>jI 20 10000 XV kt k' em II;obtain⟨u,NY⟩:=rN II;cases hm<;>try cases hfl hg
 .exact⟨h,w,hg,hr,Ext.refl _ _ _,by simp[Builtin.delete_,ht,aW hu,AF]⟩
 .rename_i r pl hp;simp only at hg;split at hg<;>try cases hfl hg
  rename_i es clock hb;obtain⟨es',hO,h2⟩:=hr.pW hb hp;split at hg
  .rename_i i e hf;rw[yb]at hg;obtain⟨hlo,hg⟩:=bC hfl hg;obtain⟨r',g3,g4⟩:=dI hr hk es es'.toList 0 _ h2 hf;cases r' with
   |none=>exact g4.elim
   |some p=>
    obtain⟨i',v'⟩:=p;obtain⟨rfl,_,g6,_,_⟩:=g4;have hnew:F2 (ER φ) (es.eraseIdx i') (es'.eraseIdxIfInBounds i').toList:=by
     have:(es'.eraseIdxIfInBounds i').toList=es'.toList.eraseIdx i':=by
      unfold Array.eraseIdxIfInBounds;split
      .simp
      .rename_i hn;rw[List.eraseIdx_of_length_le (by simpa using hn)]
     rw[this];exact h2.eraseIdx i'
    obtain⟨w',k1,k2,k3⟩:=hr.qF hlo (clock':=clock) hb hp hnew;exact⟨_,w',hg,k2,k3,by simp[Builtin.delete_,ht,aW hu,dy hO,AF,fE NY g3,k1]⟩
  .rename_i hf;obtain⟨r',g3,g4⟩:=dI hr hk es es'.toList 0 _ h2 hf;cases r' with
   |some p=>exact g4.elim
   |none=>
    have acA:(setObj pl.B (.map es' clock)).run P w=.ok () w:=by
     have hlt:pl.B<w.heap.size:=(hr.dom r pl hp).2;simp[setObj,Sem.run,hO];have:w.heap.setIfInBounds pl.B (.map es' clock)=w.heap:=by
      apply Array.ext_getElem?;intro i;by_cases hi:i=pl.B
      .subst hi;rw[Array.getElem?_setIfInBounds_self_of_lt hlt,hO]
      .rw[Array.getElem?_setIfInBounds_ne (Ne.symm hi)]
     rw[this]
    exact⟨h,w,hg,hr,Ext.refl _ _ _,by simp[Builtin.delete_,ht,aW hu,dy hO,AF,fE NY g3,acA]⟩
  .exact absurd hg hfl
theorem HR.IM(hr:HR P φ h w){b since stepped:Nat}{m:Option Nat}{seen:List Nat}{pl:Pl}(hb:h.bl.get b=some (.fc m since seen stepped))(hp:φ b=some pl):∃m' seen',w.heap[pl.B]? = some (.mapIter m' since seen' stepped)/\seen'.toList=seen.reverse/\((m=none/\m'=none)\/∃b mM,m=some b/\φ b=some mM/\m'=some mM.B):=by
 have:=hr.obj b _ pl hb hp;cases hO:w.heap[pl.B]? with
 |none=>rw[hO]at this;exact this.elim
 |some O=>
  rw[hO]at this;cases O<;>simp only[OR]at this<;>try exact this.elim
  obtain⟨rfl,rfl,h3,h4⟩:=this;exact⟨_,_,rfl,h3,h4⟩
theorem Cu(hfl:¬good fl){kt et:TypeId}(hu:P.underlying t=some (.map kt et))(hr:HR P φ h w){x x':Value}{Y:XW β}(hg:good (oU fl x h Y))(hx:VR φ x x'):∃φ' v v' h' w',good (Y v h')/\VR φ' v v'/\HR P φ' h' w'/\Ext φ φ' h h' w w'/\(Instr.range t x').run P w=.ok v' w':=by
 unfold oU at hg;split at hg<;>try cases hfl hg
 .cases hx;obtain⟨hn,g1⟩:=dM hfl hg;obtain⟨k1,k2⟩:=hr.fresh (o:=.fc none 0 [] 0) (O:=.mapIter none 0 #[] 0) hn 0 0 ⟨rfl,rfl,rfl,.inl ⟨rfl,rfl⟩⟩ trivial;exact⟨_,_,.pointer (some ⟨w.heap.size,0,none⟩),_,_,g1,.ptr (fI _ _ _),k1,k2,by simp[Instr.range,aW hu]⟩
 .split at hg<;>try cases hfl hg
  rename_i r _ es clock hb;cases hx with
  |map hp=>
   rename_i pl;obtain⟨es',hO,h2⟩:=hr.pW hb hp;obtain⟨hn,g1⟩:=dM hfl hg;obtain⟨k1,k2⟩:=hr.fresh (o:=.fc (some r) clock [] clock) (O:=.mapIter (some pl.B) clock #[] clock) hn 0 0 ⟨rfl,rfl,rfl,.inr ⟨r,pl,rfl,hp,rfl⟩⟩ trivial;exact⟨_,_,.pointer (some ⟨w.heap.size,0,none⟩),_,_,g1,.ptr (fI _ _ _),k1,k2,by simp[Instr.range,aW hu,dy hO]⟩
theorem mX{B:Nat}{m:Option Nat}{since stepped:Nat}{seen:Array Nat}(hO:w.heap[B]? = some (.mapIter m since seen stepped)):(getObj B).run P w=.ok (.mapIter m since seen stepped) w:=by
 simp[getObj,Sem.run,hO]
theorem F2.filter{α γ:Type}{R:α->γ->Prop}{f:α->Bool}{g:γ->Bool}{l:List α}{m:List γ}(hl:F2 R l m)(hfg:∀a b,R a b->f a=g b):F2 R (l.filter f) (m.filter g):=by
 induction hl with
 |nil=>exact .nil
 |@cons a b l m hr _ ih=>
  simp only[List.filter_cons,hfg a b hr];split
  .exact .cons hr ih
  .exact ih
theorem F2.allEq{α γ:Type}{R:α->γ->Prop}{f:α->Bool}{g:γ->Bool}{l:List α}{m:List γ}(hl:F2 R l m)(hfg:∀a b,R a b->f a=g b):l.all f=m.all g:=by
 induction hl with
 |nil=>rfl
 |cons hr _ ih=>simp[hfg _ _ hr,ih]
theorem Xd(a b:Nat):Nat.beq a b=(a == b):=by rw[Bool.eq_iff_iff];simp
theorem Xe(a b:Nat):Nat.ble a b=decide (a<=b):=by rw[Bool.eq_iff_iff];simp[Nat.ble_eq]
theorem Cv(hfl:¬good fl){both:β->β->β}(v_:∀x y,good (both x y)->good x/\good y){b m since clock:Nat}{seen:List Nat}{Y:XW β}:∀(es:List MapEntry)(e:MapEntry),
  good (mU fl both b m since seen clock h Y e es)->∀(i:Nat)(x:MapEntry),(e::es)[i]? = some x->x.born<since/\h.lo<=b/\good (Y (.tuple #[.bool true,x.key,x.val]) ⟨h.nx,h.bl.bx b (.fc (some m) since (x.born::seen) clock),h.lo⟩):=by
 intro es
 induction es with
 |nil=>
  intro e hg i x hx;unfold mU at hg;split at hg<;>try cases hfl hg
  rename_i hle;obtain⟨hlo,hg⟩:=bC hfl hg;cases i with
  |zero=>simp at hx;subst hx;exact⟨dK hle,hlo,hg⟩
  |succ i=>simp at hx
 |cons e' es ih=>
  intro e hg i x hx;unfold mU at hg;split at hg<;>try cases hfl hg
  rename_i hle;obtain⟨g1,g2⟩:=v_ _ _ hg;obtain⟨hlo,g1⟩:=bC hfl g1;cases i with
  |zero=>simp at hx;subst hx;exact⟨dK hle,hlo,g1⟩
  |succ i=>exact ih e' g2 i x (by simpa using hx)
theorem HR.drew(hr:HR P φ h w):HR P φ h w.drew:=⟨hr.obj,hr.dom,hr.keys,hr.S0,hr.inj,hr.lo,hr.side.heap λ_ _ _=>rfl⟩
theorem Ext.drew{φ':ej}{h':ah}{w':World}(hx:Ext φ φ' h h' w w'):Ext φ φ' h h' w w'.drew:=⟨hx.sub,hx.new,hx.nx,hx.size,hx.Cg,hx.Io,hx.tape,hx.os,hx.output,hx.fz,hx.lo,hx.Kl,hx.Km,Nat.le_succ_of_le hx.dr⟩
theorem Ext.Xf{φ':ej}{h':ah}{w':World}(hx:Ext φ φ' h h' w.drew w'):Ext φ φ' h h' w w':=⟨hx.sub,hx.new,hx.nx,hx.size,hx.Cg,hx.Io,hx.tape,hx.os,hx.output,hx.fz,hx.lo,hx.Kl,hx.Km,Nat.le_of_succ_le hx.dr⟩
theorem wU(n:Nat)(hn:0<n)(w:World):∃k w',k<n/\(w'=w\/w'=w.drew)/\(choose (.mapNext n)).run P w=.ok k w':=by
 by_cases h1:n<=1
 .refine⟨0,w,hn,.inl rfl,?_⟩;simp[Question.forced,h1]
 .refine⟨(Question.mapNext n).cut (w.tape w.drawn (.mapNext n)),w.drew,Nat.mod_lt _ hn,.inr rfl,?_⟩;simp[choose,Sem.run,Question.forced,h1]
theorem D0(hfl:¬good fl){both:β->β->β}(v_:∀x y,good (both x y)->good x/\good y){ty:TypeId}(hr:HR P φ h w){x x':Value}{Y:XW β}(hg:good (sG fl both x h Y))(hx:VR φ x x'):∃v v' h' w',good (Y v h')/\VR φ v v'/\HR P φ h' w'/\Ext φ φ h h' w w'/\(Instr.next x' false ty).run P w=.ok v' w':=by
 unfold sG at hg;split at hg<;>try cases hfl hg
 cases hx with
 |ptr hp=>
  rename_i b pl;split at hg<;>try cases hfl hg
  .rename_i since seen stepped hb;obtain⟨m',seen',hO,_,h4⟩:=hr.IM hb hp;rcases h4 with⟨_,rfl⟩|⟨b1,mM,h5,_⟩
   .exact⟨_,.tuple #[.bool false],h,w,hg,VR.tuple' (.cons (.bool false) .nil),hr,Ext.refl _ _ _,by simp[Instr.next,mX hO]⟩
   .cases h5
  .rename_i m since seen last hb;obtain⟨m',seen',hO,D1,h4⟩:=hr.IM hb hp;rcases h4 with⟨h5,_⟩|⟨b1,mM,h5,hp',rfl⟩
   .cases h5
   .cases h5;split at hg<;>try cases hfl hg
    rename_i es clock hm;obtain⟨es',VA,h2⟩:=hr.pW hm hp';split at hg<;>try cases hfl hg
    rename_i agW;have acB:∀e e':MapEntry,ER φ e e'->(!seen.any (Nat.beq e.born))=(!seen'.contains e'.born):=by
     intro e e' he;rw[he.born]
     congr 1
     rw[<-Array.contains_toList,D1,Bool.eq_iff_iff];simp
    have hleft:F2 (ER φ) (es.filter λe=>!seen.any (Nat.beq e.born)) (es'.filter λe=>!seen'.contains e.born).toList:=by
     rw[Array.toList_filter];exact h2.filter acB
    have S5:seen'.isEmpty=seen.isEmpty:=by
     have:seen'.toList.isEmpty=seen.isEmpty:=by rw[D1];simp
     rw[<-this];simp
    have agX:es'.isEmpty=es.isEmpty:=by
     have:es'.toList.isEmpty=es.isEmpty:=by generalize es'.toList=L at h2;cases h2<;>rfl
     rw[<-this];simp
    have hall:es'.all (λe=>decide (e.born>=last))=es.all (λe=>Nat.ble last e.born):=by
     rw[<-Array.all_toList];exact(h2.allEq λa b hab=>by rw[hab.born,Xe]).symm
    have VB:(!seen'.isEmpty && !es'.isEmpty && es'.all (λe=>decide (e.born>=last)))=false:=by
     rw[S5,agX,hall];exact agW
    split at hg
    .
     rename_i AI;rw[AI]at hleft;have hl0:es'.filter (λe=>!seen'.contains e.born)=#[]:=by
      generalize (es'.filter λe=>!seen'.contains e.born)=L at hleft;obtain⟨L⟩:=L;cases hleft;rfl
     refine⟨_,.tuple #[.bool false],h,w,hg,VR.tuple' (.cons (.bool false) .nil),hr,Ext.refl _ _ _,?_⟩;simp only[Instr.next,Sem.run_bind,mX hO,dy VA,Result.andThen_ok,VB,hl0];simp[Question.forced]
    .rename_i e0 Xg acC;have VC:=Cv hfl v_ Xg e0 hg;rw[acC]at hleft;have agY:pl.B<w.heap.size:=(hr.dom b pl hp).2;generalize hL:(es'.filter λe=>!seen'.contains e.born)=L at hleft;have hlen:=hleft.length;have OB:L.size=Xg.length+1:=by simpa using hlen.symm
     have Kt:∀e'∈L.toList,e'.born<since:=by
      intro e' he';obtain⟨i,hi⟩:=List.getElem?_of_mem he';have hi':i<L.toList.length:=(List.getElem?_eq_some_iff.1 hi).1;obtain⟨x,hx⟩:∃x,(e0::Xg)[i]? = some x:=⟨(e0::Xg)[i]'XV,List.getElem?_eq_getElem XV⟩
      obtain⟨e2,h3,h4⟩:=hleft.get i x hx;rw[hi]at h3;cases h3;rw[h4.born];exact(VC i x hx).1
     have f1:(L.filter λe=>decide (e.born<since))=L:=by
      apply Array.ext';rw[Array.toList_filter,List.filter_eq_self];intro e he;simpa using Kt e he
     have f2:(L.filter λe=>decide (e.born>=since))=#[]:=by
      apply Array.ext';rw[Array.toList_filter,List.filter_eq_nil_iff];intro e he;have:=Kt e he;simp;omega
     have hne:L.isEmpty=false:=by
      rw[Array.isEmpty_eq_false_iff];intro h0;rw[h0]at OB;simp at OB
     obtain⟨k,w1,hk,hw1,hch⟩:=wU (P:=P) (Xg.length+1) XV w;obtain⟨x,hx⟩:∃x,(e0::Xg)[k]? = some x:=⟨(e0::Xg)[k]'(by simpa using hk),List.getElem?_eq_getElem (by simpa using hk)⟩
     obtain⟨e',tR,he'⟩:=hleft.get k x hx;rw[Array.getElem?_toList]at tR;obtain⟨Vy,hlo,hgood⟩:=VC k x hx;have OC:HR P φ h w1:=by
      rcases hw1 with rfl|rfl
      .exact hr
      .exact hr.drew
     have hx1:Ext φ φ h h w w1:=by
      rcases hw1 with rfl|rfl
      .exact Ext.refl _ _ _
      .exact(Ext.refl _ _ _).drew
     have hO1:w1.heap[pl.B]? = some (.mapIter (some mM.B) since seen' last):=by rcases hw1 with rfl|rfl<;>exact hO
     have S6:w1.heap=w.heap:=by rcases hw1 with rfl|rfl<;>rfl
     have jR:(setObj pl.B (.mapIter (some mM.B) since (seen'.push e'.born) clock)).run P w1=.ok () { w1 with heap:=w1.heap.setIfInBounds pl.B (.mapIter (some mM.B) since (seen'.push e'.born) clock) }:=by
      simp[setObj,Sem.run,hO1]
     have VD:=OC.wS hlo (o:=.fc (some m) since (x.born::seen) clock) hp ⟨_,hb,trivial⟩
      (w':={ w1 with heap:=w1.heap.setIfInBounds pl.B (.mapIter (some mM.B) since (seen'.push e'.born) clock) }) (by simp)
      (λk hk=>Array.getElem?_setIfInBounds_ne (Ne.symm hk))
      (by
       show OR P φ _ pl ((w1.heap.setIfInBounds pl.B _)[pl.B]?)
       rw[Array.getElem?_setIfInBounds_self_of_lt (by rw[S6];exact agY)];exact⟨rfl,rfl,by simp[D1,he'.born],.inr ⟨m,mM,rfl,hp',rfl⟩⟩) rfl rfl rfl (.inl trivial)
     refine⟨_,.tuple #[.bool true,e'.key,e'.val],_,_,hgood,VR.tuple' (.cons (.bool true) (.cons he'.key (.cons he'.val .nil))),VD.1,hx1.trans VD.2,?_⟩;simp only[Instr.next,Sem.run_bind,mX hO,dy VA,Result.andThen_ok,VB,hL,f1,f2];have hc:((if L.isEmpty=true then #[none]else #[])++(L++#[]).map some:Array (Option MapEntry))=L.map some:=by simp[hne]
     rw[hc];simp only[Bool.false_eq_true,if_false,Array.size_map,OB,Sem.run_bind,hch,Result.andThen_ok,Array.getElem?_map,tR,Option.map_some,jR];simp
theorem Cw(hfl:¬good fl)(hr:HR P φ h w){x x':Value}{Y:XW β}(hg:good (oW fl x h Y))(hx:VR φ x x'):∃v v',good (Y v h)/\VR φ v v'/\(Instr.entry x').run P w=.ok v' w:=by
 unfold oW at hg;split at hg<;>try cases hfl hg
 cases hx with
 |ptr hp=>
  rename_i b pl;split at hg<;>try cases hfl hg
  rename_i m since stamp seen stepped hb;obtain⟨m',seen',hO,D1,h4⟩:=hr.IM hb hp;rcases h4 with⟨h5,_⟩|⟨b1,mM,h5,hp',rfl⟩
  .cases h5
  .cases h5;split at hg<;>try cases hfl hg
   rename_i es clock hm;obtain⟨es',VA,h2⟩:=hr.pW hm hp';split at hg<;>try cases hfl hg
   rename_i AF;have AF:=c_ AF;subst AF;split at hg<;>try cases hfl hg
   rename_i e hf;have acD:seen'.back? = some stamp:=by
    have:seen'=(seen.reverse++[stamp]).toArray:=Array.ext' (by simpa using D1);rw[this];simp
   have hfind:∃e',es'.find? (λe=>e.born == stamp)=some e'/\ER φ e e':=by
    rw[<-Array.find?_toList];clear VA hm;generalize es'.toList=L at h2
    induction h2 with
    |nil=>simp at hf
    |@cons a c l m hac _ ih=>
     simp only[List.find?_cons]at hf ⊢;rw[Xd]at hf;rw[hac.born];split at hf
     .rename_i hq;cases hf;exact⟨_,rfl,hac⟩
     .exact ih hf
   obtain⟨e',hf',he'⟩:=hfind;exact⟨_,.tuple #[e'.key,e'.val],hg,VR.tuple' (.cons he'.key (.cons he'.val .nil)),by simp[Instr.entry,mX hO,dy VA,acD,hf']⟩
theorem iR(hfl:¬good fl)(hr:HR P φ h w){size n:Nat}{x x':Value}{Y:List Value->β}(hg:good (fo fl h size n x Y))(hx:VR φ x x')(IN:∃a m c,x=.slice a m c/\n<=m):∃l l',good (Y l)/\F2 (VR φ) l l'/\l.length=n*size/\∀w1:World,w1.heap=w.heap->(Builtin.firstCells size n x').run P w1=.ok l'.toArray w1:=by
 obtain⟨a,m,c,rfl,hnm⟩:=IN;unfold fo at hg;split at hg
 .rename_i h0;have h0:n*size=0:=h0;refine⟨[],[],hg,.nil,h0.symm,λw1 hw1=>?_⟩;cases hx<;>simp[Builtin.firstCells,h0,loadCells,loadCellsFrom]
 .rename_i k hk;have hk:n*size=k+1:=hk;split at hg<;>try cases hfl hg
  rename_i b o _ _ Xh;cases Xh;split at hg<;>try cases hfl hg
  .rename_i nn cc e op hb;split at hg<;>try cases hfl hg
   rename_i hle;have hle:=dK hle;obtain⟨l,h1,h2,h3⟩:=jk hfl _ _ _ _ _ hg;simp only[List.append_nil]at h1;have fin:∀pl,φ b=some pl->∃l',F2 (VR φ) l l'/\∀w1:World,w1.heap=w.heap->(loadCells ⟨pl.B,o,none⟩ (n*size)).run P w1=.ok l'.toArray w1:=by
    intro pl hp;obtain⟨l',h4,h5⟩:=hr.Kn hb hp (l:=l) (off:=o) (by rw[h2];exact hle) h3;exact⟨l',h4,λw1 hw1=>by have h5:=h5 w1 hw1;rw[h2]at h5;rw[hk];exact h5⟩
   cases hx with
   |slice hp hn hc=>
    obtain⟨l',h4,h5⟩:=fin _ hp;exact⟨l,l',h1,h4,by rw[h2,hk],λw1 hw1=>by simpa[Builtin.firstCells]using h5 w1 hw1⟩
   |cw hp hn hc=>
    obtain⟨l',h4,h5⟩:=fin _ hp;exact⟨l,l',h1,h4,by rw[h2,hk],λw1 hw1=>by simpa[Builtin.firstCells]using h5 w1 hw1⟩
   |dU _ a' c=>
    have:n=0:=by omega
    subst this;simp at hk
   |dO a' hp hc=>
    have:n=0:=by omega
    subst this;simp at hk
  .rename_i nn cc e hb;split at hg<;>try cases hfl hg
   rename_i hle;have hle:=dK hle;obtain⟨l,h1,h2,h3⟩:=jk hfl _ _ _ _ _ hg;simp only[List.append_nil]at h1;have fin:∀pl,φ b=some pl->∃l',F2 (VR φ) l l'/\∀w1:World,w1.heap=w.heap->(loadCells ⟨pl.B,o,none⟩ (n*size)).run P w1=.ok l'.toArray w1:=by
    intro pl hp;obtain⟨l',h4,h5⟩:=hr.Ko hb hp (l:=l) (off:=o) (by rw[h2];exact hle) h3;exact⟨l',h4,λw1 hw1=>by have h5:=h5 w1 hw1;rw[h2]at h5;rw[hk];exact h5⟩
   cases hx with
   |slice hp hn hc=>
    obtain⟨l',h4,h5⟩:=fin _ hp;exact⟨l,l',h1,h4,by rw[h2,hk],λw1 hw1=>by simpa[Builtin.firstCells]using h5 w1 hw1⟩
   |cw hp hn hc=>
    obtain⟨l',h4,h5⟩:=fin _ hp;exact⟨l,l',h1,h4,by rw[h2,hk],λw1 hw1=>by simpa[Builtin.firstCells]using h5 w1 hw1⟩
   |dU _ a' c=>
    have:n=0:=by omega
    subst this;simp at hk
   |dO a' hp hc=>
    have:n=0:=by omega
    subst this;simp at hk
theorem D4(hfl:¬good fl){e s:Nat}{ty:TypeId}{ts:Array TypeId}(ht:ts[0]? = some t)(hu:P.underlying t=some (.slice e))(hs:fV P e=some s)(hr:HR P φ h w){d d' x x':Value}{Y:XW β}(hg:good (DN fl s d x h Y))(hd:VR φ d d')(hx:VR φ x x'):∃v h' w',good (Y v h')/\VR φ v v/\HR P φ h' w'/\Ext φ φ h h' w w'/\(Builtin.copy_ ts ty #[d',x']).run P w=.ok v w':=by
 unfold DN at hg;split at hg<;>try cases hfl hg
 rename_i base dLen dCap;split at hg<;>try cases hfl hg
 rename_i a n c;rw[bR]at hg;obtain⟨base',VE,hd'⟩:∃base' VE,d'=.slice base' dLen VE:=by cases hd<;>exact⟨_,_,rfl⟩
 obtain⟨a',c',hx'⟩:∃a' c',x'=.slice a' n c':=by cases hx<;>exact⟨_,_,rfl⟩
 split at hg
 .rename_i h0;have hf:(Builtin.firstCells s 0 x').run P w=.ok #[] w:=by rw[hx'];cases a'<;>simp[Builtin.firstCells,loadCells,loadCellsFrom]
  have h0':Nat.min n dLen=0:=h0;refine⟨_,h,w,hg,.int _ _,hr,Ext.refl _ _ _,?_⟩;rw[hx']at hf;subst hd';subst hx';cases base'<;>simp[Builtin.copy_,ht,aW hu,dm hs,Builtin.lenOf,h0',hf,storeCells,goInt]
 .rename_i k hk;split at hg<;>try cases hfl hg
  rename_i b o;obtain⟨l,l',g1,g2,g3,g4⟩:=iR hfl hr hg hx ⟨_,_,_,rfl,Nat.min_le_left _ _⟩;split at g1<;>try exact absurd g1 hfl
  rename_i nn cc e' op hb;obtain⟨k1,k2,k3⟩:=kH hfl _ _ _ _ _ g1;obtain⟨hlo,k3⟩:=bC hfl k3;have fin:∀pl,φ b=some pl->base'=some ⟨pl.B,o,none⟩->∃v h' w',good (Y v h')/\VR φ v v/\HR P φ h' w'/\Ext φ φ h h' w w'/\(Builtin.copy_ ts ty #[d',x']).run P w=.ok v w':=by
   intro pl hp hbe;obtain⟨w',j1,j2,j3⟩:=hr.storeAt hlo hb hp g2 k1 k2;refine⟨_,_,w',k3,.int _ _,j2,j3,?_⟩;have g5:=g4 w rfl;clear g4;rw[hx']at g5;subst hd';subst hx';subst hbe;have g4':(Builtin.firstCells s (Nat.min n dLen) (.slice a' n c')).run P w=.ok l'.toArray w:=g5;simp[Builtin.copy_,ht,aW hu,dm hs,Builtin.lenOf,g4',j1,goInt]
  cases hd with
  |slice hp hn hc=>cases hd';exact fin _ hp rfl
  |cw hp hn hc=>cases hd';exact fin _ hp rfl
  |dU a1 a2 c2=>have:Nat.min n 0=0:=Nat.min_zero n;rw[this]at hk;cases hk
  |dO a2 hp hc=>have:Nat.min n 0=0:=Nat.min_zero n;rw[this]at hk;cases hk
theorem sY(hfl:¬good fl){e:Nat}{z:List Value}{ty:TypeId}{ts:Array TypeId}(ht:ts[0]? = some t)(hu:P.underlying t=some (.slice e))(hz:zeroOf P e=some z)(hr:HR P φ h w){x x':Value}{Y:XW β}(hg:good (jE fl z x h Y))(hx:VR φ x x'):∃h' w',good (Y (.tuple #[]) h')/\HR P φ h' w'/\Ext φ φ h h' w w'/\(Builtin.clear_ ts ty #[x']).run P w=.ok (.tuple #[]) w':=by
 obtain⟨v,inf,hi,Oz,hzl,W7⟩:=iQ hz;have Xi:(Builtin.clear_ ts ty #[x']).run P w=.ok (.tuple #[]) w->good (Y (.tuple #[]) h)->∃h' w',good (Y (.tuple #[]) h')/\HR P φ h' w'/\Ext φ φ h h' w w'/\(Builtin.clear_ ts ty #[x']).run P w=.ok (.tuple #[]) w':=
  λh1 h2=>⟨h,w,h2,hr,Ext.refl _ _ _,h1⟩
 unfold jE at hg;split at hg
 .cases hx;exact Xi (by simp[Builtin.clear_,ht,aW hu]) hg
 .refine Xi ?_ hg;cases hx<;>simp[Builtin.clear_,ht,aW hu]
 .cases hx;exact Xi (by simp[Builtin.clear_,ht,aW hu]) hg
 .rename_i b o n c hn0;split at hg<;>try cases hfl hg
  rename_i nn cc e' op hb;obtain⟨k1,k2,k3⟩:=kH hfl _ _ _ _ _ hg;obtain⟨hlo,k3⟩:=bC hfl k3;have hzz:(Builtin.zeroCells v.cells n).toList=aV z n:=by
   unfold Builtin.zeroCells;rw[tQ v.cells n _ rfl,hzl]
  have fin:∀pl c',φ b=some pl->x'=.slice (some ⟨pl.B,o,none⟩) n c'->∃h' w',good (Y (.tuple #[]) h')/\HR P φ h' w'/\Ext φ φ h h' w w'/\(Builtin.clear_ ts ty #[x']).run P w=.ok (.tuple #[]) w':=by
   intro pl c' hp hxe;obtain⟨w',j1,j2,j3⟩:=hr.storeAt hlo hb hp (jt (φ:=φ) (j9 W7 n)) k1 k2;refine⟨_,w',k3,j2,j3,?_⟩;subst hxe;cases n with
   |zero=>exact(hn0 rfl).elim
   |succ n=>simp[Builtin.clear_,ht,aW hu,iJ hi Oz,hzz,j1]
  cases hx with
  |slice hp hn hc=>exact fin _ _ hp rfl
  |cw hp hn hc=>exact fin _ _ hp rfl
  |dU a1 a2 c2=>exact(hn0 rfl).elim
  |dO a2 hp hc=>exact(hn0 rfl).elim
 .split at hg<;>try cases hfl hg
  rename_i r es clock hb;obtain⟨hlo,hg⟩:=bC hfl hg;cases hx with
  |map hp=>
   rename_i pl;obtain⟨es',hO,h2⟩:=hr.pW hb hp;obtain⟨w',j1,j2,j3⟩:=hr.qF hlo (es1:=[]) (IL:=#[]) (clock':=clock) hb hp .nil;exact⟨_,w',hg,j2,j3,by simp[Builtin.clear_,ht,aW hu,dy hO,j1]⟩
 .exact absurd hg hfl
end Go.Vai

namespace Go.Vai
open Go
variable {β:Type}{fl:β}{good:β->Prop}{P:Program}{φ:ej}{h:ah}{w:World}{t:TypeId}
inductive Comes(P:Program)(ts:Array TypeId)(e size:Nat)(n:Nat)(new':List Value)(w:World):Value->Prop where
 | sl {xt:TypeId} {xd:TypeDesc} {a:Option Addr} {c:Nat} (h1:ts[1]? = some xt) (h2:P.underlying xt=some xd) (h3:sR xd=false)
   (h4:∀w1:World,w1.heap=w.heap->(Builtin.firstCells size n (.slice a n c)).run P w1=.ok new'.toArray w1):Comes P ts e size n new' w (.slice a n c)
 | mk {xt:TypeId} {k k':IntKind} {inf:TypeInfo} {v:Value} (h1:ts[1]? = some xt) (h2:P.underlying xt=some (.int k')) (h3:n<=1000000) (h4:P.info? e=some inf) (h5:inf.zero=some v)
   (h6:inf.bytes<=10000) (h7:Builtin.zeroCells v.cells n=new'.toArray) (h8:n*size=0->new'=[]):Comes P ts e size n new' w (.int k (n:Int))
theorem D5(hfl:¬good fl){e size:Nat}{xt:TypeId}{xd:TypeDesc}{inf:TypeInfo}{ts:Array TypeId}{z:List Value}(hz:W5 P e=some (z,size))(hi:P.info? e=some inf)(hb:inf.bytes<=10000)(S7:ts[1]? = some xt)(hxd:P.underlying xt=some xd)(hr:HR P φ h w){x x':Value}{Y:Nat->List Value->β}(hg:good (jf fl (sR xd) z h size x Y))(hx:VR φ x x'):∃n new new',good (Y n new)/\F2 (VR φ) new new'/\new.length=n*size/\Comes P ts e size n new' w x':=by
 obtain⟨Iq,Cp,W8,hz4⟩:=rP hz;obtain⟨v,Xa,hi',Oz,hzl,W7⟩:=iQ Iq;rw[hi]at hi';cases hi';unfold jf at hg;split at hg
 .rename_i k n hm;split at hg<;>try cases hfl hg
  rename_i hle;have hle:=dK hle;cases hx;have hzz:Builtin.zeroCells v.cells n=(aV z n).toArray:=by
   unfold Builtin.zeroCells;rw[tQ v.cells n _ rfl,hzl]
  obtain⟨k',rfl⟩:∃k',xd=.int k':=by cases xd<;>first|exact⟨_,rfl⟩|cases hm
  refine⟨n,_,_,hg,jt (j9 W7 n),by rw[qE,W8],.mk S7 hxd hle hi Oz hb hzz ?_⟩;intro h0;have hn0:n=0:=by rcases Nat.mul_eq_zero.1 h0 with h|h<;>omega
  subst hn0;rfl
 .rename_i a n c hm;obtain⟨l,l',g1,g2,g3,g4⟩:=iR hfl hr hg hx ⟨_,_,_,rfl,Nat.le_refl _⟩;obtain⟨a',c',rfl⟩:∃a' c',x'=.slice a' n c':=by cases hx<;>exact⟨_,_,rfl⟩
  exact⟨n,l,l',g1,g2,g3,.sl S7 hxd hm g4⟩
 .exact absurd hg hfl
theorem gX{e size n sLen sCap:Nat}{ty:TypeId}{ts:Array TypeId}{base:Option Addr}{x':Value}{new':List Value}(ht:ts[0]? = some t)(hu:P.underlying t=some (.slice e))(hs:fV P e=some size)(hc:Comes P ts e size n new' w x')(hle:sLen+n<=sCap){w':World}(hst:∀a,base=some a->(storeCells (a.add (sLen*size)) new').run P w=.ok () w')(hno:base=none->w'=w):(Builtin.append_ ts ty #[.slice base sLen sCap,x']).run P w=.ok (.slice base (sLen+n) sCap) w':=by
 cases hc with
 |@sl xt xd a c h1 h2 h3 h4=>
  have h4:=h4 w rfl;have key:∀d,P.underlying xt=some d->sR d=false->(Builtin.append_ ts ty #[.slice base sLen sCap,.slice a n c]).run P w=.ok (.slice base (sLen+n) sCap) w':=by
   intro d hd hdf;unfold Builtin.append_;cases d<;>first
    |(cases hdf;done)
    | (simp only[ht,h1,List.getElem?_toArray,List.getElem?_cons_zero,List.getElem?_cons_succ,Sem.run_bind,aW hu,aW hd,Result.andThen_ok,dm hs,Sem.run_pure,Bool.false_eq_true,if_false,
      Builtin.lenOf,hle,Bool.not_false,if_true,h4]
       cases base with
       |none=>rw[hno rfl];simp only[Sem.run_pure]
       |some b=>simp only[Sem.run_bind,hst b rfl,Result.andThen_ok,Sem.run_pure])
  exact key xd h2 h3
 |@mk xt k k' inf v h1 h2 h3 h4 h5 h6 h7 h8=>
  have w1:IntKind.i64.wrap (n:Int)=n:=IntWalk.i64_in _ ⟨XV,XV⟩;have c1:¬((n:Int)<0):=by omega
  have c2:¬((n:Int)*(inf.bytes:Int) > 2 ^ 48):=by
   have:n*inf.bytes<=1000000*10000:=Nat.mul_le_mul h3 h6;have h2:(n:Int)*(inf.bytes:Int)=((n*inf.bytes:Nat):Int):=by simp
   rw[h2];omega
  have hA:(asInt (.int k (n:Int))).run P w=.ok (n:Int) w:=by simp[asInt,asIntOf]
  have hnew:(if n*size=0 then pure #[]else do pure (Builtin.zeroCells (<-zeroValue e).cells n):Sem (Array Value)).run P w=.ok new'.toArray w:=by
   by_cases h0:n*size=0
   .simp only[h0,if_true,h8 h0];rfl
   .simp[h0,iJ h4 h5,h7]
  simp only[Sem.run_ite,Sem.run_bind,Sem.run_pure]at hnew;unfold Builtin.append_;simp only[ht,h1,List.getElem?_toArray,List.getElem?_cons_zero,List.getElem?_cons_succ,Sem.run_bind,aW hu,aW h2,Result.andThen_ok,dm hs,Sem.run_pure,if_true,hA,w1,c1,if_false,
   qD h4,c2,Int.toNat_natCast,hle,Bool.not_true,Bool.false_eq_true,Sem.run_ite,hnew]
  cases base with
  |none=>rw[hno rfl];simp
  |some b=>simp[hst b rfl]
theorem OD{need old:Nat}{e:TypeId}(tp:Nat):need<=(Question.appendCap need old e).cut tp:=by simp[Question.cut]
set_option maxHeartbeats 1000000 in
theorem u9{e size n sLen sCap:Nat}{ty:TypeId}{ts:Array TypeId}{base:Option Addr}{x' v:Value}{new' old':List Value}{inf:TypeInfo}(ht:ts[0]? = some t)(hu:P.underlying t=some (.slice e))(hs:fV P e=some size)(hi:P.info? e=some inf)(hz:inf.zero=some v)(hb:inf.bytes<=10000)(hc:Comes P ts e size n new' w x')(hlt:sCap<sLen+n)(pY:sLen+n<=1000000000)(hold:∀w1:World,w1.heap=w.heap->(Builtin.firstCells size sLen (.slice base sLen sCap)).run P w1=.ok old'.toArray w1):∃jb rest,sLen+n<=jb/\rest.length=(jb-(sLen+n))*v.cells.size/\(Builtin.append_ ts ty #[.slice base sLen sCap,x']).run P w =
   .ok (.slice (some ⟨w.heap.size,0,none⟩) (sLen+n) jb) (w.drew.alloc (.cells (old'++new'++rest).toArray e (0,0))):=by
 have hold:=hold w.drew rfl
 let jb:=(Question.appendCap (sLen+n) sCap e).cut (w.tape w.drawn (.appendCap (sLen+n) sCap e))
 refine⟨jb,(Builtin.zeroCells v.cells (jb-(sLen+n))).toList,OD _,by simp[size_zeroCells],?_⟩;have Ap:¬(sLen+n<=sCap):=by omega
 have hn0:¬(((sLen+n:Nat):Int) > IntKind.i64.max):=by rw[IntKind.max_i64];omega
 have hn3:¬(Builtin.nextslicecap (sLen+n) sCap*inf.bytes > 2 ^ 48):=by
  have h5:=nextslicecap_le hlt;have:Builtin.nextslicecap (sLen+n) sCap*inf.bytes<=(2*1000000000)*10000:=Nat.mul_le_mul XV hb;omega
 have su:∀Z:Array Value,old'.toArray++new'.toArray++Z=(old'++new'++Z.toList).toArray:=λZ=>Array.ext' (by simp);have Iq:∀w1:World,(zeroValue e).run P w1=.ok v w1:=λw1=>iJ hi hz;have hi1:∀w1:World,(typeInfo e).run P w1=.ok inf w1:=λw1=>qD hi;cases hc with
 |@sl xt xd a c h1 h2 h3 h4=>
  have h4:=h4 w.drew rfl;have hxf:sR xd=false:=h3
  have key:∀d,P.underlying xt=some d->sR d=false->(Builtin.append_ ts ty #[.slice base sLen sCap,.slice a n c]).run P w =
    .ok (.slice (some ⟨w.heap.size,0,none⟩) (sLen+n) jb) (w.drew.alloc (.cells (old'++new'++(Builtin.zeroCells v.cells (jb-(sLen+n))).toList).toArray e (0,0))):=by
   intro d hd hdf;unfold Builtin.append_;cases d<;>first
    |(cases hdf;done)
    | (simp only[ht,h1,List.getElem?_toArray,List.getElem?_cons_zero,List.getElem?_cons_succ,Sem.run_bind,aW hu,aW hd,Result.andThen_ok,dm hs,Sem.run_pure,Bool.false_eq_true,if_false,
      Builtin.lenOf,Ap,hi1,hn0,false_and,hn3,run_choose,Question.forced,World.drew_eq,run_askRoom,hold,Bool.not_false,if_true,h4,Iq,newRow,run_newObj]
       rw[su];rfl)
  exact key xd h2 hxf
 |@mk xt k k' Xa v' h1 h2 h3 h4 h5 h6 h7 h8=>
  rw[hi]at h4;cases h4;rw[hz]at h5;cases h5;have w1:IntKind.i64.wrap (n:Int)=n:=IntWalk.i64_in _ ⟨XV,XV⟩;have c1:¬((n:Int)<0):=by omega
  have c2:¬((n:Int)*(inf.bytes:Int) > 2 ^ 48):=by
   have:n*inf.bytes<=1000000*10000:=Nat.mul_le_mul h3 h6;have h2:(n:Int)*(inf.bytes:Int)=((n*inf.bytes:Nat):Int):=by simp
   rw[h2];omega
  have hA:(asInt (.int k (n:Int))).run P w=.ok (n:Int) w:=by simp[asInt,asIntOf]
  have hnew:(if n*size=0 then pure #[]else do pure (Builtin.zeroCells (<-zeroValue e).cells n):Sem (Array Value)).run P w.drew=.ok new'.toArray w.drew:=by
   by_cases h0:n*size=0
   .simp only[h0,if_true,h8 h0];rfl
   .simp[h0,Iq,h7]
  simp only[Sem.run_ite,Sem.run_bind,Sem.run_pure]at hnew;simp only[Iq,Result.andThen_ok]at hnew;unfold Builtin.append_;simp only[ht,h1,List.getElem?_toArray,List.getElem?_cons_zero,List.getElem?_cons_succ,Sem.run_bind,aW hu,aW h2,Result.andThen_ok,dm hs,Sem.run_pure,if_true,hA,w1,c1,if_false,
   hi1,c2,Int.toNat_natCast,Ap,hn0,false_and,hn3,run_choose,Question.forced,World.drew_eq,run_askRoom,hold,Bool.not_true,Bool.false_eq_true,Sem.run_ite,hnew,Iq,newRow,run_newObj]
  rw[su];rfl
theorem S8(w:World){old old' new new' rest:List Value}{e size jb sLen n:Nat}(hs:fV P e=some size)(hz:0<size)(h1:F2 (VR φ) old old')(h2:F2 (VR φ) new new')(l1:old.length=sLen*size)(l2:new.length=n*size)(hle:sLen+n<=jb)(hr:rest.length=(jb-(sLen+n))*size)(hlen:(old++new).length<=1000000000000):OR P φ (.cells (old++new).length (lay (old++new) .nil 0) e true) ⟨w.heap.size,jb*size,size⟩ (some (.cells (old'++new'++rest).toArray e (0,0))):=by
 refine Oy (h1.append h2) hlen e _ rest true λ_=>⟨?_,hs,hz⟩
 simp only[List.length_append,hr,<-h1.length,<-h2.length,l1,l2];rw[<-Nat.add_mul,<-Nat.add_mul]
 congr 1
 omega
theorem Cx(hfl:¬good fl){b o n m c nn e size:Nat}{cc:T Value}{op:Bool}{Y:List Value->β}(hb:h.bl.get b=some (.cells nn cc e op))(hg:good (fo fl h size n (.slice (some ⟨b,o,none⟩) m c) Y)):∃l,good (Y l)/\l.length=n*size/\(l≠[]->o+l.length<=nn)/\∀j v,l[j]? = some v->cc.get (o+j)=some v:=by
 unfold fo at hg;split at hg
 .rename_i h0;have h0:n*size=0:=h0;exact⟨[],hg,h0.symm,λhh=>absurd rfl hh,λj v e=>by simp at e⟩
 .rename_i k hk;have hk:n*size=k+1:=hk;simp only[hb]at hg;split at hg<;>try cases hfl hg
  rename_i hle;have hle:=dK hle;obtain⟨l,h1,h2,h3⟩:=jk hfl _ _ _ _ _ hg;simp only[List.append_nil]at h1;exact⟨l,h1,by rw[h2,hk],λ_=>by rw[h2];exact hle,h3⟩
theorem HR.IP(hr:HR P φ h w){b nn e:Nat}(hlo:h.lo<=b){c:T Value}{op:Bool}{pl:Pl}{ob:bT}{w':World}(hb:h.bl.get b=some (.cells nn c e op))(hp:φ b=some pl)(hn:h.nx<=h.nx)(hsz:w'.heap.size=w.heap.size)(Cq:∀k,k≠pl.B->w'.heap[k]? = w.heap[k]?)(ho:OR P φ ob pl w'.heap[pl.B]?)(hd:OR P φ (.dead nn e) pl w'.heap[pl.B]?)(ht:w'.tape=w.tape)(hos:w'.os=w.os)(hout:w'.output=w.output)(hlv:ob.live)(Vx:w.drawn<=w'.drawn:=by exact Nat.le_refl _):HR P (ir φ h.nx pl) ⟨h.nx+1,(h.bl.bx b (.dead nn e)).bx h.nx ob,h.lo⟩ w'/\Ext φ (ir φ h.nx pl) h ⟨h.nx+1,(h.bl.bx b (.dead nn e)).bx h.nx ob,h.lo⟩ w w':=by
 obtain⟨OC,hx1⟩:=hr.wS hlo (o:=.dead nn e) hp ⟨_,hb,trivial⟩ hsz Cq hd ht hos hout (.inr λ_=>tO ho hlv) Vx;have hnone:φ h.nx=none:=by
  cases hq:φ h.nx with
  |none=>rfl
  |some pl=>have:=(hr.dom _ _ hq).1;omega
 have hs:Small h.nx:=by unfold Small;omega
 have sN:=(hr.dom b pl hp).1;have ja:∀x,x<h.nx->((h.bl.bx b (.dead nn e)).bx h.nx ob).get x=(h.bl.bx b (.dead nn e)).get x:=λx hx=>T.iI _ _ hs (by unfold Small;omega) XV;have hsub:=rO (pl:=pl) hnone;have alone:∀x o px,(h.bl.bx b (.dead nn e)).get x=some o->o.live->φ x=some px->px.B≠pl.B:=by
  intro x o px hx hl hpx hB;have Vz:=(hr.dom x px hpx).1;rw[T.mV _ _ (by unfold Small;omega) (by unfold Small;omega)]at hx;split at hx
  .cases hx;exact hl
  .rename_i hne;exact hne (hr.inj x b o _ px pl hx hb hl trivial hpx hp hB).symm
 constructor
 .refine⟨?_,?_,?_,?_,?_,Nat.le_succ_of_le hr.lo,OC.side.step (λ_ _ _=>rfl) λx px hpx=>.inr ?_⟩
  rotate_left 5
  .unfold ir at hpx;split at hpx
   .cases hpx;exact⟨b,pl,hp,rfl⟩
   .exact⟨x,px,hpx,rfl⟩
  .intro x o px hx hpx;unfold ir at hpx;split at hpx
   .rename_i he;subst he;cases hpx;rw[T.an]at hx;cases hx;exact ho.mono hsub
   .have Vz:=(hr.dom x px hpx).1;exact(OC.obj x o px ((ja x Vz)▸hx) hpx).mono hsub
  .intro x px hpx;unfold ir at hpx;split at hpx
   .rename_i he;subst he;cases hpx;exact⟨Nat.lt_succ_self _,by rw[hsz];exact(hr.dom b pl hp).2⟩
   .have:=OC.dom x px hpx;exact⟨Nat.lt_succ_of_lt this.1,this.2⟩
  .intro x o hsx hx
   show x<h.nx+1
   rw[T.mV _ _ hs hsx]at hx;split at hx
   .omega
   .have:=OC.keys x o hsx hx;exact Nat.lt_succ_of_lt this
  .show h.nx+1<h.nx+1+1;omega
  .intro x x' o1 o2 p1 p2 g1 g2 l1 l2 e1 e2 eB;unfold ir at e1 e2;split at e1<;>split at e2
   .omega
   .rename_i q1 q2;cases e1;have Vz:=(hr.dom x' p2 e2).1;exact absurd eB.symm (alone x' o2 p2 ((ja x' Vz)▸g2) l2 e2)
   .rename_i q1 q2;cases e2;have Vz:=(hr.dom x p1 e1).1;exact absurd eB (alone x o1 p1 ((ja x Vz)▸g1) l1 e1)
   .have n1:=(hr.dom x p1 e1).1;have n2:=(hr.dom x' p2 e2).1;exact OC.inj x x' o1 o2 p1 p2 ((ja x n1)▸g1) ((ja x' n2)▸g2) l1 l2 e1 e2 eB
 .refine⟨hsub,?_,Nat.le_succ _,hx1.size,hx1.Cg,?_,ht,hos,hout,hx1.fz,rfl,λx hx=>(ja x (Nat.lt_of_lt_of_le hx hr.lo)).trans (hx1.Kl x hx),hx1.Km,Vx⟩
  .intro x px e0 e1;unfold ir at e1;split at e1
   .rename_i he;subst he;cases e1;exact⟨Nat.le_refl _,.inr ⟨b,pl,hp,rfl⟩⟩
   .rw[e0]at e1;cases e1
  .intro x hx hpx
   show((h.bl.bx b (.dead nn e)).bx h.nx ob).get x=_
   rw[ja x hx];exact hx1.Io x hx hpx
theorem xl{l l':List Value}(g:F2 (VR φ) l l')(h:l.all eO=true):∀v'∈l',v'.oneCell'=true:=by
 induction g with
 |nil=>intro v' vT;cases vT
 |cons hv _ ih=>
  simp only[List.all_cons,Bool.and_eq_true]at h;intro v' vT;simp only[List.mem_cons]at vT;rcases vT with rfl|vT
  .exact Ks h.1 hv
  .exact ih h.2 v' vT
set_option maxHeartbeats 2000000 in
theorem AJ(hfl:¬good fl){both:β->β->β}(v_:∀x y,good (both x y)->good x/\good y){e size:Nat}{ty xt:TypeId}{xd:TypeDesc}{inf:TypeInfo}{ts:Array TypeId}{z:List Value}(ht:ts[0]? = some t)(hu:P.underlying t=some (.slice e))(hz:W5 P e=some (z,size))(hi:P.info? e=some inf)(hby:inf.bytes<=10000)(S7:ts[1]? = some xt)(hxd:P.underlying xt=some xd)(hr:HR P φ h w){s s' x x':Value}{Y:XW β}(hg:good (bt fl both e size z (sR xd) s x h Y))(SB:VR φ s s')(hx:VR φ x x'):∃φ' v v' h' w',good (Y v h')/\VR φ' v v'/\HR P φ' h' w'/\Ext φ φ' h h' w w'/\(Builtin.append_ ts ty #[s',x']).run P w=.ok v' w':=by
 obtain⟨Iq,Cp,W8,hz4⟩:=rP hz;obtain⟨v,Xa,hi',Oz,hzl,W7⟩:=iQ Iq;rw[hi]at hi';cases hi';have hvs:v.cells.size=size:=by rw[<-W8,hzl];simp
 unfold bt at hg;split at hg<;>try cases hfl hg
 rename_i base sLen sCap;obtain⟨n,new,new',g1,g2,g3,g4⟩:=D5 hfl hz hi hby S7 hxd hr hg hx;have tU:=g2.length;obtain⟨base',iL,hs'⟩:∃base' iL,s'=.slice base' sLen iL:=by cases SB<;>exact⟨_,_,rfl⟩
 have hle':sLen<=iL:=by subst hs';cases SB<;>first|assumption|omega
 have fresh:∀{h1:ah}{w1:World}{old old':List Value}{κ1:XW β},HR P φ h1 w.drew->Ext φ φ h h1 w w.drew->sLen+n<=1000000000->iL<sLen+n->
   F2 (VR φ) old old'->old.length=sLen*size->(∀w1:World,w1.heap=w.heap->(Builtin.firstCells size sLen s').run P w1=.ok old'.toArray w1)->
   good (cG fl (old++new) e true h1 λb h=>Y (.slice (some ⟨b,0,none⟩) (sLen+n) aS) h)->
   ∃φ' v v' h' w',good (Y v h')/\VR φ' v v'/\HR P φ' h' w'/\Ext φ φ' h h' w w'/\(Builtin.append_ ts ty #[s',x']).run P w=.ok v' w':=by
  intro h1 w1 old old' κ1 OC hx1 pY hlt ho1 uS rR hgood;unfold cG at hgood;obtain⟨k1,k2⟩:=kG hfl hgood;obtain⟨k3,k4⟩:=dM hfl k2;rw[hs']at rR;obtain⟨jb,rest,j1,j2,j3⟩:=u9 (ty:=ty) ht hu Cp hi Oz hby g4 hlt pY rR;rw[hvs]at j2;have OE:=S8 (P:=P) (φ:=φ) w.drew (jb:=jb) Cp hz4 ho1 g2 uS g3 j1 j2 k1;obtain⟨m1,m2⟩:=OC.fresh k3 (jb*size) size OE trivial;refine⟨_,_,_,_,_,k4,.cw (fI _ _ _) j1 (by simp),m1,hx1.trans m2,by rw[hs'];exact j3⟩
 split at g1
 .
  refine⟨φ,_,s',h,w,g1,SB,hr,Ext.refl _ _ _,?_⟩;have hn0:new=[]:=List.eq_nil_of_length_eq_zero (by rw[g3];omega);subst hn0;cases g2;rw[hs'];exact gX ht hu Cp g4 XV (w':=w) (λa _=>by simp[storeCells]) (λ_=>rfl)
 .rename_i n;rw[bR]at g1;split at g1<;>try exact absurd g1 hfl
  rename_i pY;have pY:=dK pY;have pY:sLen+(n+1)<=1000000000:=pY;split at g1
  .
   split at g1<;>try exact absurd g1 hfl
   rename_i hc0 hl0;have hc0:=c_ hc0;have hl0:=c_ hl0;subst hc0;subst hl0;cases SB with
   |f_ _=>
    cases hs';refine fresh (w1:=w) (κ1:=Y) (old:=[]) (old':=[]) hr.drew (Ext.refl _ _ _).drew pY XV .nil (by simp) (λw1 _=>by simp[Builtin.firstCells]) (by simpa using g1)
  .rename_i b o;split at g1<;>try exact absurd g1 hfl
   rename_i D6;have D6:=pV D6;split at g1
   .
    rename_i hend;have hend:=c_ hend;subst hend;obtain⟨pl,a',hp,rfl,rfl,hcap⟩:∃pl a',φ b=some pl/\base'=some a'/\sLen=0/\(iL=0\/a'=⟨pl.B,o,none⟩/\iL*pl.e+o=pl.sz):=by
     subst hs';cases SB with
     |slice hp hn hc=>exact absurd hc (by unfold gH aS;omega)
     |dO a' hp hc=>exact⟨_,_,hp,rfl,rfl,hc⟩
    split at g1<;>try exact absurd g1 hfl
    rename_i nn cc e' hb h00;split at g1<;>try exact absurd g1 hfl
    rename_i D7;simp only[Bool.and_eq_true]at D7;obtain⟨⟨hee,D8⟩,Bi⟩:=D7;have hee:=c_ hee;subst hee;have D8:=c_ D8;subst D8;obtain⟨ga,gb⟩:=v_ _ _ g1;obtain⟨C,hC,Ap,hn2,Xj,hcell⟩:=hr.rowAt hb hp;obtain⟨o1,o2,o3⟩:=Xj rfl;have hpe:pl.e=size:=by rw[Cp]at o2;exact(Option.some.inj o2).symm
    by_cases hroom:0+(n+1)<=iL
    ·obtain ⟨rfl,hcp⟩:a'=⟨pl.B,o,none⟩/\iL*pl.e+o=pl.sz:=by
      rcases hcap with h0|h1
      .omega
      .exact h1
     obtain⟨old,k1,k3,k6⟩:=jk hfl _ _ _ _ _ ga;simp only[List.append_nil]at k1;obtain⟨hlo,k1⟩:=bC hfl k1;unfold cG at k1;obtain⟨m1,m2⟩:=kG hfl k1;obtain⟨m3,m4⟩:=dM hfl m2;have hone:∀v'∈new',v'.oneCell'=true:=xl g2 Bi;have D9:o+new'.length<=C.size:=by
      have h6:=Nat.mul_le_mul_right size hroom;have h7:new'.length<=iL*size:=by rw[<-tU,g3];simpa using h6
      rw[hpe]at hcp;omega
     have hone:∀v'∈new',v'.oneCell'=true:=xl g2 Bi;have hrun:=run_storeCells_at P pl.B o e new' 0 C w hC (by simpa using D9) hone;simp only[Nat.add_zero]at hrun;have hrow:=setRow_heap w pl.B C (C.toList.take o++new'++C.toList.drop (o+new'.length)).toArray e _ hC;have OE:OR P φ (.cells (old++new).length (lay (old++new) .nil 0) e true) pl (some (.cells (C.toList.take o++new'++C.toList.drop (o+new'.length)).toArray e (0,0))):=by
      refine⟨rfl,rfl,?_,XV,λ_=>⟨?_,o2,o3⟩,?_⟩
      .simp only[List.length_append,k3,List.size_toArray,List.length_take,List.length_drop,Array.length_toList,<-tU];omega
      .simp only[List.length_append,List.size_toArray,List.length_take,List.length_drop,Array.length_toList];omega
      .intro i v h_ hi;have hi2:i<o+new.length:=by simpa[List.length_append,k3]using hi
       rw[pz _ .nil 0 XV i (by unfold Small;omega),if_pos XV]at h_;simp only[Nat.sub_zero]at h_;simp only[List.getElem?_toArray,List.append_assoc];rcases Nat.lt_or_ge i o with hlt|hge
       .rw[List.getElem?_append_left XV]at h_;have VF:=k6 i v h_;rw[Nat.zero_add]at VF;obtain⟨v',e1,e2⟩:=hcell i v VF hlt;refine⟨v',?_,e2⟩;rw[List.getElem?_append_left (by simp;omega),List.getElem?_take_of_lt hlt];simpa using e1
       ·rw[List.getElem?_append_right XV,k3]at h_;obtain⟨v',e1,e2⟩:=g2.get _ v h_;refine⟨v',?_,e2⟩;have NZ:(C.toList.take o).length=o:=by
         rw[List.length_take,Array.length_toList];exact Nat.min_eq_left XV
        have hin:i-o<new'.length:=by rw[<-tU];omega
        rw[List.getElem?_append_right (by rw[NZ];exact hge),NZ,List.getElem?_append_left hin];exact e1
     obtain⟨q1,q2⟩:=hr.IP hlo (ob:=.cells (old++new).length (lay (old++new) .nil 0) e true) (w':=w.setRow pl.B (C.toList.take o++new'++C.toList.drop (o+new'.length)).toArray) hb hp m3
      (setRow_size _ _ _) (λk hk=>setRow_other _ _ _ _ hk) (by rw[hrow];exact OE) (by rw[hrow];exact⟨XV,hn2,o2,o3⟩) rfl rfl rfl (by trivial)
     refine⟨_,_,.slice (some ⟨pl.B,o,none⟩) (0+(n+1)) iL,_,_,m4,.cw (fI _ _ _) hroom hcp,q1,q2,?_⟩;rw[hs'];exact gX ht hu Cp g4 hroom (λa ha=>by cases ha;rw[iK,Nat.zero_mul,Nat.add_zero];exact hrun) (λhh=>by cases hh)
    .refine fresh (w1:=w) (κ1:=Y) (old:=[]) (old':=[]) hr.drew (Ext.refl _ _ _).drew pY XV .nil (by simp) (λw1 _=>by rw[hs'];simp[Builtin.firstCells,loadCells,loadCellsFrom]) (by simpa using gb)
   rename_i hend;have hend:=pV hend;split at g1
   .
    rename_i hop;have hop:=c_ hop;subst hop;obtain⟨pl,hp,hcap,rfl⟩:∃pl,φ b=some pl/\iL*pl.e+o=pl.sz/\base'=some ⟨pl.B,o,none⟩:=by
     subst hs';cases SB with
     |slice hp hn hc=>exact absurd hc (Nat.lt_irrefl _)
     |cw hp hn hc=>exact⟨_,hp,hc,rfl⟩
    split at g1<;>try exact absurd g1 hfl
    rename_i nn cc e' hb;obtain⟨C,hC,Ap,hn2,Xj,hcell⟩:=hr.rowAt hb hp;obtain⟨o1,o2,o3⟩:=Xj rfl;split at g1<;>try exact absurd g1 hfl
    .
     rename_i hee hfit;have hee:=c_ hee;subst hee;have hfit:o+(sLen+(n+1))*size<=nn:=dK hfit;have hpe:pl.e=size:=by rw[Cp]at o2;exact(Option.some.inj o2).symm
     have hroom:sLen+(n+1)<=iL:=by
      rw[hpe]at hcap;have h1:(sLen+(n+1))*size<=iL*size:=by omega
      exact Nat.le_of_mul_le_mul_right h1 hz4
     obtain⟨k1,k2,k3⟩:=kH hfl _ _ _ _ _ g1;obtain⟨hlo,k3⟩:=bC hfl k3;obtain⟨w',j1,j2,j3⟩:=hr.storeAt hlo hb hp g2 k1 k2;refine⟨φ,_,.slice (some ⟨pl.B,o,none⟩) (sLen+(n+1)) iL,_,w',k3,.cw hp hroom hcap,j2,j3,?_⟩;rw[hs'];exact gX ht hu Cp g4 hroom (λa ha=>by cases ha;rw[iK];exact j1) (λhh=>by cases hh)
    .
     rename_i hee hfit;have hee:=c_ hee;subst hee;have hfit:=Vw hfit;split at g1
     rotate_left 1
     .split at g1<;>try exact absurd g1 hfl
      rename_i D7;simp only[Bool.and_eq_true]at D7;obtain⟨D8,Bi⟩:=D7;have D8:o+sLen*size=nn:=c_ D8;obtain⟨ga,gb⟩:=v_ _ _ g1;have hpe:pl.e=size:=by rw[Cp]at o2;exact(Option.some.inj o2).symm
      by_cases hroom:sLen+(n+1)<=iL
      ·obtain⟨old,k1,k3,k6⟩:=jk hfl _ _ _ _ _ ga;simp only[List.append_nil]at k1;obtain⟨hlo,k1⟩:=bC hfl k1;unfold cG at k1;obtain⟨m1,m2⟩:=kG hfl k1;obtain⟨m3,m4⟩:=dM hfl m2;have hone:∀v'∈new',v'.oneCell'=true:=xl g2 Bi;have D9:nn+new'.length<=C.size:=by
        have h6:=Nat.mul_le_mul_right size hroom;have h7:(sLen+(n+1))*size=sLen*size+(n+1)*size:=Nat.add_mul _ _ _;have h8:C.size=iL*size+o:=by rw[o1,<-hcap,hpe]
        have h9:new'.length=(n+1)*size:=tU.symm.trans g3;rw[h7]at h6;rw[h8,h9,<-D8];omega
       have hrun:=run_storeCells_at P pl.B nn e new' 0 C w hC (by simpa using D9) hone;simp only[Nat.add_zero]at hrun;have hrow:=setRow_heap w pl.B C (C.toList.take nn++new'++C.toList.drop (nn+new'.length)).toArray e _ hC;have OE:OR P φ (.cells (old++new).length (lay (old++new) .nil 0) e true) pl (some (.cells (C.toList.take nn++new'++C.toList.drop (nn+new'.length)).toArray e (0,0))):=by
        refine⟨rfl,rfl,?_,XV,λ_=>⟨?_,o2,o3⟩,?_⟩
        .simp only[List.length_append,k3,List.size_toArray,List.length_take,List.length_drop,Array.length_toList,<-tU];omega
        .simp only[List.length_append,List.size_toArray,List.length_take,List.length_drop,Array.length_toList];omega
        .intro i v h_ hi;have hi2:i<nn+new.length:=by simpa[List.length_append,k3]using hi
         rw[pz _ .nil 0 XV i (by unfold Small;omega),if_pos XV]at h_;simp only[Nat.sub_zero]at h_;simp only[List.getElem?_toArray,List.append_assoc];rcases Nat.lt_or_ge i nn with hlt|hge
         .rw[List.getElem?_append_left XV]at h_;have VF:=k6 i v h_;rw[Nat.zero_add]at VF;obtain⟨v',e1,e2⟩:=hcell i v VF hlt;refine⟨v',?_,e2⟩;rw[List.getElem?_append_left (by simp;omega),List.getElem?_take_of_lt hlt];simpa using e1
         ·rw[List.getElem?_append_right XV,k3]at h_;obtain⟨v',e1,e2⟩:=g2.get _ v h_;refine⟨v',?_,e2⟩;have NZ:(C.toList.take nn).length=nn:=by
           rw[List.length_take,Array.length_toList];exact Nat.min_eq_left XV
          have hin:i-nn<new'.length:=by rw[<-tU];omega
          rw[List.getElem?_append_right (by rw[NZ];exact hge),NZ,List.getElem?_append_left hin];exact e1
       obtain⟨q1,q2⟩:=hr.IP hlo (ob:=.cells (old++new).length (lay (old++new) .nil 0) e true) (w':=w.setRow pl.B (C.toList.take nn++new'++C.toList.drop (nn+new'.length)).toArray) hb hp m3
        (setRow_size _ _ _) (λk hk=>setRow_other _ _ _ _ hk) (by rw[hrow];exact OE) (by rw[hrow];exact⟨XV,hn2,o2,o3⟩) rfl rfl rfl (by trivial)
       refine⟨_,_,.slice (some ⟨pl.B,o,none⟩) (sLen+(n+1)) iL,_,_,m4,.cw (fI _ _ _) hroom hcap,q1,q2,?_⟩;rw[hs'];exact gX ht hu Cp g4 hroom (λa ha=>by cases ha;rw[iK,D8];exact hrun) (λhh=>by cases hh)
      .obtain⟨old,old',k1,k2,k3,k4⟩:=iR hfl hr gb SB ⟨_,_,_,rfl,Nat.le_refl _⟩;exact fresh (w1:=w) (κ1:=Y) hr.drew (Ext.refl _ _ _).drew pY XV k2 k3 k4 k1
     rename_i S9;simp only[Bool.and_eq_true]at S9;obtain⟨S9,Bi⟩:=S9;have S9:=c_ S9;subst S9;have hpe:pl.e=size:=by rw[Cp]at o2;exact(Option.some.inj o2).symm
     have VG:=λhlo:h.lo<=b=>hr.wS hlo (w':=w) (o:=.dead nn e) hp ⟨_,hb,trivial⟩ rfl (λ_ _=>rfl) (by rw[hC];exact⟨XV,hn2,o2,o3⟩) rfl rfl rfl (.inr id);by_cases hroom:sLen+(n+1)<=iL
     ·obtain⟨old,k1,k3,k5,k6⟩:=Cx hfl hb g1;obtain⟨hlo,k1⟩:=bC hfl k1;unfold cG at k1;obtain⟨m1,m2⟩:=kG hfl k1;obtain⟨m3,m4⟩:=dM hfl m2;have hone:∀v'∈new',v'.oneCell'=true:=xl g2 Bi;have D9:sLen*size+new'.length<=C.size:=by
       rw[o1,<-hcap,hpe,<-tU,g3,<-Nat.add_mul];exact Nat.le_trans (Nat.mul_le_mul_right _ hroom) (Nat.le_add_right _ _)
      have hrun:=run_storeCells_at P pl.B (sLen*size) e new' 0 C w hC (by simpa using D9) hone;simp only[Nat.add_zero]at hrun;have hrow:=setRow_heap w pl.B C (C.toList.take (sLen*size)++new'++C.toList.drop (sLen*size+new'.length)).toArray e _ hC;have OE:OR P φ (.cells (old++new).length (lay (old++new) .nil 0) e true) pl (some (.cells (C.toList.take (sLen*size)++new'++C.toList.drop (sLen*size+new'.length)).toArray e (0,0))):=by
       refine⟨rfl,rfl,?_,XV,λ_=>⟨?_,o2,o3⟩,?_⟩
       .simp only[List.length_append,k3,List.size_toArray,List.length_take,List.length_drop,Array.length_toList,<-tU];omega
       .simp only[List.length_append,List.size_toArray,List.length_take,List.length_drop,Array.length_toList];omega
       .intro i v h_ hi;have hi2:i<sLen*size+new.length:=by simpa[List.length_append,k3]using hi
        rw[pz _ .nil 0 XV i (by unfold Small;omega),if_pos XV]at h_;simp only[Nat.sub_zero]at h_;simp only[List.getElem?_toArray,List.append_assoc];rcases Nat.lt_or_ge i (sLen*size)with hlt|hge
        .rw[List.getElem?_append_left XV]at h_;have VF:=k6 i v h_;rw[Nat.zero_add]at VF;obtain⟨v',e1,e2⟩:=hcell i v VF (by have:=k5 (by intro AI;rw[AI]at k3;simp at k3;omega);omega);refine⟨v',?_,e2⟩;rw[List.getElem?_append_left (by simp;omega),List.getElem?_take_of_lt hlt];simpa using e1
        ·rw[List.getElem?_append_right XV,k3]at h_;obtain⟨v',e1,e2⟩:=g2.get _ v h_;refine⟨v',?_,e2⟩;have NZ:(C.toList.take (sLen*size)).length=sLen*size:=by
          rw[List.length_take,Array.length_toList];exact Nat.min_eq_left XV
         have hin:i-sLen*size<new'.length:=by rw[<-tU];omega
         rw[List.getElem?_append_right (by rw[NZ];exact hge),NZ,List.getElem?_append_left hin];exact e1
      obtain⟨q1,q2⟩:=hr.IP hlo (ob:=.cells (old++new).length (lay (old++new) .nil 0) e true) (w':=w.setRow pl.B (C.toList.take (sLen*size)++new'++C.toList.drop (sLen*size+new'.length)).toArray) hb hp m3
       (setRow_size _ _ _) (λk hk=>setRow_other _ _ _ _ hk) (by rw[hrow];exact OE) (by rw[hrow];exact⟨XV,hn2,o2,o3⟩) rfl rfl rfl (by trivial)
      refine⟨_,_,.slice (some ⟨pl.B,0,none⟩) (sLen+(n+1)) iL,_,_,m4,.cw (fI _ _ _) hroom hcap,q1,q2,?_⟩;rw[hs'];exact gX ht hu Cp g4 hroom (λa ha=>by cases ha;rw[iK,Nat.zero_add];exact hrun) (λhh=>by cases hh)
     .obtain⟨old,old',k1,k2,k3,k4⟩:=iR hfl hr g1 SB ⟨_,_,_,rfl,Nat.le_refl _⟩;obtain⟨hlo,k1⟩:=bC hfl k1;exact fresh (w1:=w) (κ1:=Y) (VG hlo).1.drew (VG hlo).2.drew pY XV k2 k3 k4 k1
   .
    rename_i hop;have hop:=pV hop;obtain⟨pl,hp,rfl,rfl,ag0⟩:∃pl,φ b=some pl/\iL=sCap/\base'=some ⟨pl.B,o,none⟩/\sCap<aS:=by
     subst hs';cases SB with
     |slice hp hn hc=>exact⟨_,hp,rfl,rfl,hc⟩
     |cw hp hn hc=>exact absurd rfl hop
     |dU a a' c=>exact absurd rfl D6
     |dO a' hp hc=>exact absurd rfl hend
    split at g1<;>try exact absurd g1 hfl
    .rename_i nn cc e' op hle hb;have hroom:sLen+(n+1)<=iL:=dK hle;obtain⟨k1,k2,k3⟩:=kH hfl _ _ _ _ _ g1;obtain⟨hlo,k3⟩:=bC hfl k3;obtain⟨w',j1,j2,j3⟩:=hr.storeAt hlo hb hp g2 k1 k2;have S1:iL<aS:=ag0;refine⟨φ,_,.slice (some ⟨pl.B,o,none⟩) (sLen+(n+1)) iL,_,w',k3,.slice hp hroom S1,j2,j3,?_⟩;rw[hs'];exact gX ht hu Cp g4 hroom (λa ha=>by cases ha;rw[iK];exact j1) (λhh=>by cases hh)
    .rename_i hle;have hlt:=Vw hle;split at g1<;>try exact absurd g1 hfl
     obtain⟨old,old',k1,k2,k3,k4⟩:=iR hfl hr g1 SB ⟨_,_,_,rfl,Nat.le_refl _⟩;exact fresh (w1:=w) (κ1:=Y) hr.drew (Ext.refl _ _ _).drew pY hlt k2 k3 k4 k1
  .exact absurd g1 hfl
end Go.Vai

namespace Go.Vai
open Go
variable {β:Type}{fl:β}{good:β->Prop}{P:Program}{φ:ej}{h:ah}{w:World}{t:TypeId}
theorem D_{s:Sem Unit}{w':World}(hs:s.run P w=.ok () w'):((do s;pure Next.skip:Sem Next)).run P w=.ok .skip w':=by simp[hs]
theorem u_(hfl:¬good fl){kt et:TypeId}{ty:TypeId}{ts:Array TypeId}(ht:ts[0]? = some t)(hu:P.underlying t=some (.map kt et))(hr:HR P φ h w){m:Option Nat}{x':Value}{Y:XW β}(hg:good (jE fl [] (.map m) h Y))(hx:VR φ (.map m) x'):∃h' w',good (Y (.tuple #[]) h')/\HR P φ h' w'/\Ext φ φ h h' w w'/\(Builtin.clear_ ts ty #[x']).run P w=.ok (.tuple #[]) w':=by
 cases m with
 |none=>
  cases hx;exact⟨h,w,by simpa[jE]using hg,hr,Ext.refl _ _ _,by simp[Builtin.clear_,ht,aW hu]⟩
 |some r=>
  simp only[jE]at hg;split at hg<;>try cases hfl hg
  rename_i es clock hb;obtain⟨hlo,hg⟩:=bC hfl hg;cases hx with
  |map hp=>
   rename_i pl;obtain⟨es',hO,h2⟩:=hr.pW hb hp;obtain⟨w',j1,j2,j3⟩:=hr.qF hlo (es1:=[]) (IL:=#[]) (clock':=clock) hb hp .nil;exact⟨_,w',hg,j2,j3,by simp[Builtin.clear_,ht,aW hu,dy hO,j1]⟩
theorem Bj(bs:List UInt8)(Y:List Value->β):Ca bs Y=Y (bs.map λb=>.int .u8 (.ofNat b.toNat)):=by
 induction bs generalizing Y with
 |nil=>rfl
 |cons b bs ih=>simp only[Ca,bR,ih,List.map_cons]
theorem OF(hfl:¬good fl):∀(l:List Value)(Y:List UInt8->β),good (u8K fl l Y)->∃ns:List Int,l=ns.map (Value.int .u8)/\good (Y (ns.map λn=>UInt8.ofNat n.toNat)):=by
 intro l
 induction l with
 |nil=>intro Y hg;exact⟨[],rfl,hg⟩
 |cons v l ih=>
  intro Y hg;unfold u8K at hg;split at hg
  .rename_i e;cases e
  .rename_i n l2 e;cases e;obtain⟨ns,rfl,g⟩:=ih _ hg;exact⟨(n:Int)::ns,rfl,g⟩
  .exact absurd hg hfl
theorem F2.u8:∀{ns:List Int}{l':List Value},F2 (VR φ) (ns.map (Value.int .u8)) l'->l'=ns.map (Value.int .u8):=by
 intro ns
 induction ns with
 |nil=>intro l' h;cases h;rfl
 |cons n ns ih=>
  intro l' h;cases h with
  |cons h t=>cases h;rw[ih t];rfl
set_option maxHeartbeats 2000000 in
theorem Ea(hfl:¬good fl){both:β->β->β}(v_:∀x y,good (both x y)->good x/\good y){op:Op}{i:XI β}(hc:Bb fl both P op=some i){tm:T Value}{ρ:Operand->Value}(hρ:∀y∈op.operands.toList,VR φ (fQ tm y) (ρ y))(hr:HR P φ h w){Y:XW β}(hg:good (i.run tm h Y)){o:Oper}(ho:o.op=op):S4 good P φ h w Y ((execOp ρ o).run P w):=by
 have unit:∀{s:Sem Unit},(∃h' w',good (Y undef h')/\HR P φ h' w'/\Ext φ φ h h' w w'/\s.run P w=.ok () w')->execOp ρ o=(do s;pure Next.skip)->
   S4 good P φ h w Y ((execOp ρ o).run P w):=by
  intro s ⟨h',w',g1,g2,g3,g4⟩ e;exact⟨φ,undef,undef,h',w',.skip,g1,VR.undef,g2,g3,by rw[e];exact D_ g4,.inr ⟨rfl,rfl⟩⟩
 have val:∀{s:Sem Value},(∃φ' v v' h' w',good (Y v h')/\VR φ' v v'/\HR P φ' h' w'/\Ext φ φ' h h' w w'/\s.run P w=.ok v' w')->execOp ρ o=(do pure (Next.value (<-s)))->
   S4 good P φ h w Y ((execOp ρ o).run P w):=by
  intro s ⟨φ',v,v',h',w',g1,g2,g3,g4,g5⟩ e;exact⟨φ',v,v',h',w',.value v',g1,g2,g3,g4,by rw[e];exact jW g5,.inl rfl⟩
 cases op<;>simp only[Bb]at hc<;>try (cases hc;done)
 case store t a x=>
  split at hc<;>try (cases hc;done)
  rename_i s hs;cases hc;rw[XI.dN]at hg;exact unit (Cr hfl hs hr hg (hρ a (by simp[Op.operands])) (hρ x (by simp[Op.operands]))) (by simp only[execOp,ho])
 case mapUpdate t m k x=>
  split at hc<;>try (cases hc;done)
  rename_i kt et hu;cases hc;rw[XI.qB]at hg;exact unit (oh hfl hu hr hg (hρ m (by simp[Op.operands])) (hρ k (by simp[Op.operands])) (hρ x (by simp[Op.operands]))) (by simp only[execOp,ho])
 case insert t m k x=>
  split at hc<;>try (cases hc;done)
  rename_i kt et hu;cases hc;rw[XI.qB]at hg;exact unit (oh hfl hu hr hg (hρ m (by simp[Op.operands])) (hρ k (by simp[Op.operands])) (hρ x (by simp[Op.operands]))) (by simp only[execOp,ho])
 case mapEntry t m k=>
  split at hc<;>try (cases hc;done)
  rename_i kt et hu;split at hc<;>try (cases hc;done)
  rename_i z hz;split at hc<;>try (cases hc;done)
  rename_i hzs;cases hc;rw[XI.dN]at hg;cases hi:P.info? et with
  |none=>rw[hi]at hz;simp at hz
  |some inf=>
   rw[hi]at hz;simp at hz;obtain⟨v,v',h',w',g1,g2,g3,g4,g5⟩:=wT (t:=t) hfl hu hi hz hzs hr hg (hρ m (by simp[Op.operands])) (hρ k (by simp[Op.operands]));exact val ⟨φ,v,v',h',w',g1,g2,g3,g4,g5⟩ (by simp only[execOp,ho])
 case entryStore t m s x=>
  cases hc;rw[XI.qB]at hg;exact unit (tT (t:=t) hfl hr hg (hρ m (by simp[Op.operands])) (hρ s (by simp[Op.operands])) (hρ x (by simp[Op.operands]))) (by simp only[execOp,ho])
 case range t x=>
  split at hc<;>try (cases hc;done)
  rename_i kt et hu;cases hc;rw[XI.cT]at hg;exact val (Cu hfl hu hr hg (hρ x (by simp[Op.operands]))) (by simp only[execOp,ho])
 case entry it=>
  cases hc;rw[XI.cT]at hg;obtain⟨v,v',g1,g2,g3⟩:=Cw hfl hr hg (hρ it (by simp[Op.operands]));exact val ⟨φ,v,v',h,w,g1,g2,hr,Ext.refl _ _ _,g3⟩ (by simp only[execOp,ho])
 case convert src dst x=>
  split at hc<;>try (cases hc;done)
  .rename_i e hus hud;split at hc<;>try (cases hc;done)
   rename_i hue hsz;cases hc;rw[XI.cT]at hg;have u7:=hρ x (by simp[Op.operands]);unfold qu at hg;split at hg<;>try cases hfl hg
   rename_i s hx;rw[hx]at u7;generalize hy:ρ x=y at u7;cases u7;rw[Bj,xh,Nat.zero_add]at hg;split at hg<;>try cases hfl hg
   rename_i hle;have hle:=dK hle;obtain⟨hn,hg⟩:=dM hfl hg;have hlen:(s.data.toList.map λb=>Value.int .u8 (.ofNat b.toNat)).length=s.size:=by rw[List.length_map,Array.length_toList];rfl
   rw[hlen]at hg hle;have hcap:s.size<=grownCap w s.size 0 e:=OD _;have hrow:(bytesRow s (grownCap w s.size 0 e)).size=grownCap w s.size 0 e:=by
    simp only[bytesRow,Array.size_append,Array.size_map,Array.size_replicate]
    show s.size+_=_
    omega
   have OE:OR P φ (.ro s.size (lay (s.data.toList.map λb=>Value.int .u8 (.ofNat b.toNat)) .nil 0) e) ⟨w.drew.heap.size,grownCap w s.size 0 e,1⟩
     (some (.cells (bytesRow s (grownCap w s.size 0 e)) e ((bytesRow s (grownCap w s.size 0 e)).size,(bytesRow s (grownCap w s.size 0 e)).size+1))):=by
    refine⟨rfl,by rw[hrow];exact hcap,λi v h_ hi=>?_⟩;rw[pz _ .nil 0 (by rw[hlen];omega) i (by unfold Small;omega),if_pos (by rw[hlen];omega)]at h_;simp only[Nat.sub_zero,List.getElem?_map]at h_;have hi2:i<s.data.size:=hi;refine⟨v,?_,?_⟩
    .simp only[bytesRow];rw[Array.getElem?_append_left (by simpa using hi2),Array.getElem?_map,<-Array.getElem?_toList];exact h_
    .cases hq:s.data.toList[i]? with
     |none=>rw[hq]at h_;cases h_
     |some b=>rw[hq]at h_;cases h_;exact .int _ _
   obtain⟨m1,m2⟩:=hr.drew.fresh hn (grownCap w s.size 0 e) 1 OE trivial;refine val (s:=convert src dst (ρ x)) ⟨_,_,_,_,_,hg,.cw (fI _ _ _) hcap (by simp),m1,m2.Xf,?_⟩ (by simp only[execOp,ho]);rw[hy];exact run_bytes_of_string w src dst e s hus hud hue
  .rename_i e hus hud;split at hc<;>try (cases hc;done)
   rename_i hue;cases hc;rw[XI.cT]at hg;have u7:=hρ x (by simp[Op.operands]);unfold DQ at hg;split at hg<;>try cases hfl hg
   rename_i a n c hx;rw[hx]at u7;obtain⟨l,l',g1,g2,g3,g4⟩:=iR hfl hr hg u7 ⟨_,_,_,rfl,Nat.le_refl _⟩;obtain⟨ns,rfl,g5⟩:=OF hfl _ _ g1;have hl':=F2.u8 g2;subst hl';have g4:=g4 w rfl;refine val (s:=convert src dst (ρ x)) ⟨φ,_,_,h,w,g5,.string _,hr,Ext.refl _ _ _,?_⟩ (by simp only[execOp,ho]);generalize hy:ρ x=y at u7 g4;have fin:∀(a:Addr)(c:Nat),(loadCells a n).run P w=.ok (ns.map (Value.int .u8)).toArray w->(convert src dst (.slice (some a) n c)).run P w=.ok (.string ⟨⟨ns.map λn=>UInt8.ofNat n.toNat⟩⟩) w:=by
    intro a c hl;rw[run_convert_bytes_string w src dst e _ n c hus hue hud,run_bytesToString w a n c ns hl,foldl_push_bytes];simp[ByteArray.empty,ByteArray.emptyWithCapacity];rfl
   cases u7 with
   |f_ hle=>
    have hn:ns=[]:=by
     have:=g4;simp[Builtin.firstCells]at this;simpa using this
    subst hn;exact run_convert_bytes_nil w src e hus hue n c dst hud
   |slice hp hn hc=>exact fin _ _ (by simpa[Builtin.firstCells]using g4)
   |cw hp hn hc=>exact fin _ _ (by simpa[Builtin.firstCells]using g4)
   |dU _ a' c=>exact fin _ _ (by simpa[Builtin.firstCells]using g4)
   |dO a' hp hc=>exact fin _ _ (by simpa[Builtin.firstCells]using g4)
 case call c=>
  obtain⟨callee,args,ts⟩:=c;cases callee<;>(try simp only at hc)<;>try (cases hc;done)
  rename_i b;cases b<;>(try simp only at hc)<;>try (cases hc;done)
  case append=>
   split at hc<;>try contradiction
   rename_i s x _ hx;have hargs:args=#[s,x]:=Array.ext' (by simpa using hx);split at hc<;>try contradiction
   rename_i st xt ht S7;split at hc<;>try contradiction
   rename_i e hu;split at hc<;>try contradiction
   rename_i inf xd hi hxd;split at hc<;>try contradiction
   rename_i z size hz hby;cases hc;rw[XI.dN]at hg;exact val (AJ (ty:=o.type) hfl v_ ht hu hz hi (dK hby) S7 hxd hr hg (hρ s (by simp[Op.operands,Call.operands,hargs])) (hρ x (by simp[Op.operands,Call.operands,hargs])))
    (by simp[execOp,ho,resolve,invoke,builtin,hargs])
  case copy=>
   split at hc<;>try contradiction
   rename_i d x _ hx;have hargs:args=#[d,x]:=Array.ext' (by simpa using hx);split at hc<;>try contradiction
   rename_i t ht;split at hc<;>try contradiction
   rename_i e hu;split at hc<;>try contradiction
   rename_i s hs;cases hc;rw[XI.dN]at hg;obtain⟨v,h',w',g⟩:=D4 (ty:=o.type) hfl ht hu hs hr hg (hρ d (by simp[Op.operands,Call.operands,hargs])) (hρ x (by simp[Op.operands,Call.operands,hargs]));exact val ⟨φ,v,v,h',w',g⟩ (by simp[execOp,ho,resolve,invoke,builtin,hargs])
  case clear=>
   split at hc<;>try contradiction
   rename_i x _ hx;have hargs:args=#[x]:=Array.ext' (by simpa using hx);have u7:VR φ (fQ tm x) (ρ x):=hρ x (by simp[Op.operands,Call.operands,hargs]);split at hc<;>try contradiction
   rename_i t ht;split at hc<;>try contradiction
   .rename_i e hu;split at hc<;>try contradiction
    rename_i z hz;cases hc;rw[XI.cT]at hg;obtain⟨h',w',g1,g2,g3,g4⟩:=sY (ty:=o.type) hfl ht hu hz hr hg u7;exact val ⟨φ,.tuple #[],.tuple #[],h',w',g1,VR.undef,g2,g3,g4⟩ (by simp[execOp,ho,resolve,invoke,builtin,hargs])
   .rename_i kt et hu;cases hc;rw[XI.cT]at hg;split at hg<;>try cases hfl hg
    rename_i m hm;rw[hm]at u7;obtain⟨h',w',g1,g2,g3,g4⟩:=u_ (ty:=o.type) hfl ht hu hr hg u7;exact val ⟨φ,.tuple #[],.tuple #[],h',w',g1,VR.undef,g2,g3,g4⟩ (by simp[execOp,ho,resolve,invoke,builtin,hargs])
  case cap=>
   split at hc<;>try contradiction
   rename_i x _ hx;have hargs:args=#[x]:=Array.ext' (by simpa using hx);have u7:VR φ (fQ tm x) (ρ x):=hρ x (by simp[Op.operands,Call.operands,hargs]);split at hc<;>try contradiction
   rename_i t ht;split at hc<;>try contradiction
   rename_i e hu;cases hc;rw[XI.cT]at hg;have hex:execOp ρ o=(do pure (Next.value (<-Builtin.cap_ ts o.type #[ρ x]))):=by simp[execOp,ho,resolve,invoke,builtin,hargs]
   split at hg<;>try cases hfl hg
   rename_i a n c hv;split at hg<;>try cases hfl hg
   rename_i hle;have hle:=dK hle;rw[hv]at u7;obtain⟨a',e3⟩:∃a',ρ x=.slice a' n c:=by
    generalize ρ x=z at u7;cases u7 with
    |f_ _=>exact⟨_,rfl⟩
    |slice _ _ _=>exact⟨_,rfl⟩
    |cw _ _ _=>exact absurd hle (by unfold aS;omega)
    |dU _ _ _=>exact absurd hle (by unfold fT;omega)
    |dO _ _ _=>exact absurd hle (by unfold gH;omega)
   rw[e3]at hex;exact val ⟨φ,_,_,h,w,hg,.int _ _,hr,Ext.refl _ _ _,by simp[Builtin.cap_,ht,aW hu,goInt]⟩ hex
  case delete=>
   split at hc<;>try contradiction
   rename_i m k _ hx;have hargs:args=#[m,k]:=Array.ext' (by simpa using hx);split at hc<;>try contradiction
   rename_i t ht;split at hc<;>try contradiction
   rename_i kt et hu;cases hc;rw[XI.dN]at hg;obtain⟨h',w',g1,g2,g3,g4⟩:=AH (ty:=o.type) hfl ht hu hr hg (hρ m (by simp[Op.operands,Call.operands,hargs])) (hρ k (by simp[Op.operands,Call.operands,hargs]));exact val ⟨φ,.tuple #[],.tuple #[],h',w',g1,VR.undef,g2,g3,g4⟩ (by simp[execOp,ho,resolve,invoke,builtin,hargs])
  case min=>
   split at hc<;>try contradiction
   rename_i a b _ hx;have hargs:args=#[a,b]:=Array.ext' (by simpa using hx);have ha:VR φ (fQ tm a) (ρ a):=hρ a (by simp[Op.operands,Call.operands,hargs]);have hb:VR φ (fQ tm b) (ρ b):=hρ b (by simp[Op.operands,Call.operands,hargs]);cases hc;rw[XI.dN]at hg;have hex:execOp ρ o=(do pure (Next.value (<-Builtin.min_ ts o.type #[ρ a,ρ b]))):=by simp[execOp,ho,resolve,invoke,builtin,hargs]
   split at hg<;>try cases hfl hg
   rename_i k x k' y e1 e2;rw[e1]at ha;rw[e2]at hb;have e3:ρ a=.int k x:=by generalize ρ a=z at ha;cases ha;rfl
   have e4:ρ b=.int k' y:=by generalize ρ b=z at hb;cases hb;rfl
   have hrun:=run_min_int2 (P:=P) (w:=w) ts o.type k k' x y;rw[e3,e4]at hex;split at hg
   .rename_i hlt;rw[iq,decide_eq_true_eq]at hlt;rw[if_pos hlt]at hrun;exact val ⟨φ,_,_,h,w,hg,.int _ _,hr,Ext.refl _ _ _,hrun⟩ hex
   .rename_i hlt;rw[iq,decide_eq_false_iff_not]at hlt;rw[if_neg hlt]at hrun;exact val ⟨φ,_,_,h,w,hg,.int _ _,hr,Ext.refl _ _ _,hrun⟩ hex
  case max=>
   split at hc<;>try contradiction
   rename_i a b _ hx;have hargs:args=#[a,b]:=Array.ext' (by simpa using hx);have ha:VR φ (fQ tm a) (ρ a):=hρ a (by simp[Op.operands,Call.operands,hargs]);have hb:VR φ (fQ tm b) (ρ b):=hρ b (by simp[Op.operands,Call.operands,hargs]);cases hc;rw[XI.dN]at hg;have hex:execOp ρ o=(do pure (Next.value (<-Builtin.max_ ts o.type #[ρ a,ρ b]))):=by simp[execOp,ho,resolve,invoke,builtin,hargs]
   split at hg<;>try cases hfl hg
   rename_i k x k' y e1 e2;rw[e1]at ha;rw[e2]at hb;have e3:ρ a=.int k x:=by generalize ρ a=z at ha;cases ha;rfl
   have e4:ρ b=.int k' y:=by generalize ρ b=z at hb;cases hb;rfl
   have hrun:=run_max_int2 (P:=P) (w:=w) ts o.type k k' x y;rw[e3,e4]at hex;split at hg
   .rename_i hlt;rw[iq,decide_eq_true_eq]at hlt;rw[if_pos hlt]at hrun;exact val ⟨φ,_,_,h,w,hg,.int _ _,hr,Ext.refl _ _ _,hrun⟩ hex
   .rename_i hlt;rw[iq,decide_eq_false_iff_not]at hlt;rw[if_neg hlt]at hrun;exact val ⟨φ,_,_,h,w,hg,.int _ _,hr,Ext.refl _ _ _,hrun⟩ hex
end Go.Vai

namespace Go.Vai
open Go
variable {β:Type}{fl:β}{good:β->Prop}{P:Program}{φ:ej}{h:ah}{w:World}{t:TypeId}
structure TR(φ:ej)(nt:Nat)(tm:T Value)(a:Act):Prop where
 size:a.tmps.size=nt
 small:nt<=1000000000000
 rel:∀t,t<nt->VR φ (cZ tm t) (a.tmps.getD t undef)
theorem TR.mono{φ φ':ej}{nt:Nat}{tm:T Value}{a:Act}(hs:Sub φ φ')(ht:TR φ nt tm a):TR φ' nt tm a:=⟨ht.size,ht.small,λt hlt=>(ht.rel t hlt).mono hs⟩
theorem dW{a b:Nat}(h:Nat.ble (Nat.succ a) b=true):a<b:=dK h
theorem TR.eval{nt:Nat}{tm:T Value}{a:Act}(ht:TR φ nt tm a){x:Operand}(hx:DR nt x=true):VR φ (fQ tm x) (a.eval x):=by
 cases x with
 |tmp t=>exact ht.rel t (dW hx)
 |const v=>exact jv hx
 |func f=>exact VR.func' .nil .nil
 |global g=>cases hx
noncomputable def jS(tm:T Value)(d:Option Nat)(v:Value):T Value:=match d with|some d=>tm.bx d v|none=>tm
theorem iu(tm:T Value)(d:Option Nat)(v:Value)(h:ah)(Y:T Value->ah->β):qh tm d v h Y=Y (jS tm d v) h:=by
 cases d with
 |none=>rfl
 |some d=>show T.set tm d v (λtm=>Y tm h)=_;rw[T.cQ];rfl
def OG(nt:Nat)(d:Option Nat):Bool:=match d with|some d=>Nat.ble (Nat.succ d) nt|none=>true
theorem rS{nt t:Nat}(hn:nt<=1000000000000)(ht:t<nt):Small t:=by unfold Small;omega
theorem iw{nt:Nat}{tm:T Value}{d:Option Nat}{v:Value}(hn:nt<=1000000000000)(hd:OG nt d=true){t:Nat}(ht:t<nt):cZ (jS tm d v) t=if d=some t then v else cZ tm t:=by
 cases d with
 |none=>simp[jS]
 |some d=>
  have hd':=dW hd;simp only[jS,cZ];rw[T.mV tm v (rS hn hd') (rS hn ht)];by_cases he:d=t
  .simp[he]
  .simp[he]
theorem TR.put{nt:Nat}{tm:T Value}{a:Act}(ht:TR φ nt tm a){d:Option Nat}(hd:OG nt d=true){v v':Value}(hv:VR φ v v'):TR φ nt (jS tm d v) (a.put d v'):=by
 refine⟨?_,ht.small,?_⟩
 .cases d<;>simp[Act.put,ht.size]
 .intro t hlt;rw[iw ht.small hd hlt];have hr:=ht.rel t hlt;cases d with
  |none=>simpa[Act.put]using hr
  |some d=>
   have hd':=dW hd;by_cases he:d=t
   .subst he;have:d<a.tmps.size:=by rw[ht.size];exact hd'
    simpa[Act.put,Array.getD,this]using hv
   .have h1:¬(some d=some t):=by simpa using he
    rw[if_neg h1];simp only[Array.getD_eq_getD_getElem?]at hr ⊢;simp only[Act.put];rw[Array.getElem?_setIfInBounds_ne he];exact hr
theorem dX{nt:Nat}{o:Oper}(h:fG nt o=true):OG nt o.dst=true:=by
 simp only[fG,Bool.and_eq_true]at h;exact h.2
theorem sZ{nt:Nat}{o:Oper}(h:fG nt o=true):∀y∈o.op.operands.toList,DR nt y=true:=by
 simp only[fG,Bool.and_eq_true,List.all_eq_true]at h;exact h.1
def Cy(good:β->Prop)(P:Program)(φ:ej)(h:ah)(w:World)(Y:XW β)(f:FuncId)(args:Array Value):Prop:=
 (callFunc f args).run P w=.ok (.enter f args) w/\
 Calls P f args w λe w'=>∃φ' v v' h',e=.returned v'/\good (Y v h')/\VR φ' v v'/\HR P φ' h' w'/\Ext φ φ' h h' w w'
def FR(r:Option Nat):Fence:={ Fence.wide with round:=r }
theorem xm{r:Option Nat}{n:Nat}{f:FuncId}{args:Array Value}{R:Ending->World->Prop}:CallsIn (FR r) n P f args w R<->Calls P f args w R:=callsIn_wide (n:=n)
def Xk(good:β->Prop)(P:Program)(φ:ej)(h:ah)(w:World)(Y:XW β)(e:Ending)(w':World):Prop:=
 ∃φ' v v' h',e=.returned v'/\good (Y v h')/\VR φ' v v'/\HR P φ' h' w'/\Ext φ φ' h h' w w'
def ve(good:β->Prop)(P:Program)(φ:ej)(h:ah)(w:World)(Y:XW β)(r:Result Next):Prop:=
 S4 good P φ h w Y r\/(∃f args,r=.ok (.enter f args) w/\Calls P f args w (Xk good P φ h w Y))\/
 ∃l f tmps as bd,r=.ok (.round l f tmps as bd) w/\∀r0:Option Nat,RoundIn (FR r0) 0 P l f tmps as bd w (Xk good P φ h w Y)
theorem ve.upon{Y:XW β}{r:Result Next}(ho:ve good P φ h w Y r){o:Oper}{a:Act}{next:Act->World->Prop}{Q:Exit->Act->World->Prop}{r0:Option Nat}(hn:∀φ' v v' h' w',good (Y v h')->VR φ' v v'->HR P φ' h' w'->Ext φ φ' h h' w w'->next (a.put o.dst v') w'):o.uponIn (FR r0) 0 P a next Q r:=by
 rcases ho with⟨φ',v,v',h',w',nx,g1,g2,g3,g4,rfl,g6⟩|⟨f,args,rfl,hc⟩|⟨l,f,tmps,as,bd,rfl,hc⟩
 .rcases g6 with rfl|⟨rfl,rfl⟩
  .exact hn φ' v v' h' w' g1 g2 g3 g4
  .exact hn φ' v undef h' w' g1 g2 g3 g4
 .refine⟨λhh=>(by cases hh),xm.2 (Calls.mono hc ?_)⟩;rintro e w' ⟨φ',v,v',h',rfl,g1,g2,g3,g4⟩;exact hn φ' v v' h' w' g1 g2 g3 g4
 .refine⟨λhh=>(by cases hh),(hc r0).mono ?_⟩;rintro e w' ⟨φ',v,v',h',rfl,g1,g2,g3,g4⟩;exact hn φ' v v' h' w' g1 g2 g3 g4
theorem lH{r0:Option Nat}{o:Oper}{ρ:Operand->Value}:∀f,o.about P w ρ=some f->(FR r0).fn f:=λ_ _=>trivial
def Eb(tmps:Array Value):ResultVar->Sem Value
 | .tmp t=>pure (tmps.getD t undef)
 | .cell c t=>do loadVar t (<-asAddr (tmps.getD c undef))
theorem jJ{t:TypeId}{ad:Addr}:(Instr.loadAt t (.pointer (some ad))).run P w=(loadVar t ad).run P w:=by
 simp[Instr.loadAt,Instr.sureAddr]
theorem tV{tmps:Array Value}{fn:Func}{vs:List Value}(hm:(fn.results.toList.mapM (Eb tmps)).run P w=.ok vs w):(results fn tmps).run P w=.ok (match vs with | [v]=>v|vs=>.tuple ⟨vs⟩) w:=by
 have he:results fn tmps=(do let vs <-fn.results.mapM (Eb tmps);pure (if h:vs.size=1 then vs[0]else .tuple vs)):=by
  unfold results
  congr 1
 rw[he,Array.mapM_eq_mapM_toList]
 match vs,hm with
 | [],hm=>simp[hm]
 | [v],hm=>simp[hm]
 |v::v2::vs,hm=>simp[hm]
theorem Bm(hfl:¬good fl){a a':Value}{Y:XW β}(hg:good (ax fl a h Y))(hv:VR φ a a'):∃ad,a'=.pointer (some ad):=by
 unfold ax at hg;split at hg<;>try cases hfl hg
 cases hv;exact⟨_,rfl⟩
theorem Mv(hfl:¬good fl){s:Nat}{a a':Value}{Y:XW β}(hg:good (aN fl s a h Y))(hv:VR φ a a'):∃ad,a'=.pointer (some ad):=by
 unfold aN at hg;split at hg<;>try cases hfl hg
 cases hv;exact⟨_,rfl⟩
theorem qG(hfl:¬good fl)(hr:HR P φ h w){nt:Nat}{tm:T Value}{a:Act}(ht:TR φ nt tm a):∀(rs:List ResultVar){Y:List Value->β},rs.all (Oj nt)=true->
  good (eU fl h tm (rs.map (vR P)) Y)->∃vs vs',good (Y vs)/\F2 (VR φ) vs vs'/\(rs.mapM (Eb a.tmps)).run P w=.ok vs' w:=by
 intro rs
 induction rs with
 |nil=>intro Y _ hg;exact⟨[],[],hg,.nil,by simp⟩
 |cons r rs ih=>
  intro Y hok hg;simp only[List.all_cons,Bool.and_eq_true]at hok
  have fin:∀{v v':Value},(Eb a.tmps r).run P w=.ok v' w->VR φ v v'->good (eU fl h tm (rs.map (vR P)) λvs=>Y (v::vs))->
    ∃vs vs',good (Y vs)/\F2 (VR φ) vs vs'/\((r::rs).mapM (Eb a.tmps)).run P w=.ok vs' w:=by
   intro v v' h1 h2 h3;obtain⟨vs,vs',g1,g2,g3⟩:=ih hok.2 h3;exact⟨_,v'::vs',g1,.cons h2 g2,by simp[List.mapM_cons,g3,h1]⟩
  cases r with
  |tmp t=>
   simp only[List.map_cons,vR,eU,fZ]at hg;exact fin (by simp[Eb]) (ht.rel t (dW hok.1)) hg
  |cell c t=>
   have hc:=ht.rel c (dW hok.1);simp only[List.map_cons,vR]at hg;cases hx:oa P t with
   |none=>simp only[hx,eU]at hg;exact absurd hg hfl
   |some b=>
    cases hs:fV P t with
    |none=>cases b<;>simp only[hx,hs,eU]at hg<;>exact absurd hg hfl
    |some s=>
     cases b with
     |true=>
      simp only[hx,hs,eU,fZ]at hg;obtain⟨ad,had⟩:=Mv hfl hg hc;obtain⟨v,v',g1,g2,g3⟩:=vU hfl hx hs hg hc hr;rw[had,jJ]at g3;exact fin (by simp only[Eb,had];simpa[asAddr]using g3) g2 g1
     |false=>
      simp only[hx,hs,eU,fZ]at hg;obtain⟨ad,had⟩:=Bm hfl hg hc;obtain⟨v,v',g1,g2,g3⟩:=mW hfl hx hg hc hr;rw[had,jJ]at g3;exact fin (by simp only[Eb,had];simpa[asAddr]using g3) g2 g1
theorem AK{name:String}{f:FuncId}(hm:Cb P t name=some f)(v:Value):(method (P.types.size+Made.depth) t v name).run P w=.ok (f,v) w:=by
 unfold Cb at hm;split at hm<;>try contradiction
 rename_i i d hi hd;split at hm<;>try contradiction
 rename_i m hf;obtain⟨n,hn⟩:∃n,P.types.size+Made.depth=n+1:=⟨P.types.size+Made.depth-1,by
  have:0<Made.depth:=by decide
  omega⟩
 rw[hn];unfold method;cases hp:m.path.isEmpty with
 |false=>simp[hp]at hm
 |true=>
  have Ao:m.path.toList=[]:=by simpa using hp
  cases hfun:m.func with
  |none=>simp[hp,hfun]at hm
  |some p=>
   obtain⟨f',b⟩:=p;have hw:f'=f/\∀wr,(receiverAt t (.val v) b (some wr)).run P w=.ok v w:=by
    cases b with
    |true=>
     cases d<;>simp only[hp,hfun]at hm<;>try contradiction
     cases hm;exact⟨rfl,λwr=>by simp[receiverAt,aW hd,Place.get]⟩
    |false=>
     cases d<;>simp only[hp,hfun]at hm<;>try contradiction
     all_goals (cases hm;exact⟨rfl,λwr=>by simp[receiverAt,aW hd,Place.get]⟩)
   obtain⟨rfl,hw⟩:=hw;have hpe:m.path=#[]:=by simpa using hp
   simp[typeInfo,hi,hf,hpe,follow,hfun,hw]
theorem AL{name:String}{f:FuncId}{off:Nat}{ty:TypeId}(hm:xe P t name=some (f,off,ty)){ad:Addr}{v:Value}(hl:(loadVar ty (ad.add off)).run P w=.ok v w):oa P ty=some false/\(method (P.types.size+Made.depth) t (.pointer (some ad)) name).run P w=.ok (f,v) w:=by
 unfold xe at hm;split at hm<;>try contradiction
 rename_i i hi;split at hm<;>try contradiction
 rename_i m hf;split at hm<;>try contradiction
 rename_i s f' hp hfun;split at hm<;>try contradiction
 rename_i fs hd hs;split at hm<;>try contradiction
 rename_i uX ag1;split at hm<;>try contradiction
 rename_i e hag hsz hue;cases hm;refine⟨hag,?_⟩;obtain⟨n,hn⟩:∃n,P.types.size+Made.depth=n+1:=⟨P.types.size+Made.depth-1,by
  have:0<Made.depth:=by decide
  omega⟩
 rw[hn];unfold method;simp[typeInfo,hi,hf,hp,hfun,follow,aW hs,ag1,hd,Place.get,asAddr,fieldPlace,dm hsz,receiverAt,aW hue,hl]
theorem AM{name:String}{f:FuncId}{ty:TypeId}(hm:xg P t name=some (f,ty)){ad:Addr}{v:Value}(hl:(loadVar ty ad).run P w=.ok v w):(method (P.types.size+Made.depth) t (.pointer (some ad)) name).run P w=.ok (f,v) w:=by
 unfold xg at hm;split at hm<;>try contradiction
 rename_i i e hi hu;split at hm<;>try contradiction
 rename_i m hf;split at hm<;>try contradiction
 rename_i f' hp hfun hag;cases hm;obtain⟨n,hn⟩:∃n,P.types.size+Made.depth=n+1:=⟨P.types.size+Made.depth-1,by
  have:0<Made.depth:=by decide
  omega⟩
 rw[hn];unfold method;have hpe:m.path=#[]:=by simpa using hp
 have hw:∀a b:String,(Builtin.ssaWrapNilChk_ #[t] t #[.pointer (some ad),strVal a,strVal b]).run P w=.ok (.pointer (some ad)) w:=λ_ _=>rfl;simp[typeInfo,hi,hf,hpe,hfun,follow,Place.get,asAddr,receiverAt,aW hu,hw,hl]
end Go.Vai

namespace Go.Vai
open Go
variable {β:Type}{fl:β}{good:β->Prop}{pr:ku β}{P:Program}{φ:ej}{h:ah}{w:World}{t:TypeId}
def OH:Ex->Exit
 | .normal=>.normal
 | .exit i=>.exit i
 | .ret=>.ret
def Marks(N:Nat)(φ:ej)(w:World):Nat->List Deferred->Prop
 |_,[]=>True
 |U,d::l=>∃D,d={ target:=.collected D,args:=#[] }/\N<=D/\D<U/\w.heap[D]? = some (.deferred (some []))/\(∀b pl,φ b=some pl->pl.B≠D)/\Marks N φ w D l
theorem Marks.le{N:Nat}:∀{l:List Deferred}{U U':Nat},Marks N φ w U l->U<=U'->Marks N φ w U' l
 | [],_,_,_,_=>trivial
 |_::_,_,_,⟨D,h1,h2,h3,h4,h5,h6⟩,hU=>⟨D,h1,h2,Nat.lt_of_lt_of_le h3 hU,h4,h5,h6⟩
theorem Ext.VH{φ':ej}{h':ah}{w':World}(hx:Ext φ φ' h h' w w'){D:Nat}(hD:D<w.heap.size)(hn:∀b pl,φ b=some pl->pl.B≠D):∀b pl,φ' b=some pl->pl.B≠D:=by
 intro b pl hb;cases h0:φ b with
 |some p=>
  have:=hx.sub b p h0;rw[hb]at this;cases this;exact hn b pl h0
 |none=>
  rcases(hx.new b pl h0 hb).2 with h1|⟨b0,p0,h1,h2⟩
  .omega
  .rw[<-h2];exact hn b0 p0 h1
theorem Marks.mono{N:Nat}{φ':ej}{h':ah}{w':World}(hx:Ext φ φ' h h' w w'):∀{l:List Deferred}{U:Nat},U<=w.heap.size->Marks N φ w U l->Marks N φ' w' U l
 | [],_,_,_=>trivial
 |_::_,_,hU,⟨D,h1,h2,h3,h4,h5,h6⟩=>
  ⟨D,h1,h2,h3,by rw[hx.Cg D XV h5];exact h4,hx.VH XV h5,Marks.mono hx XV h6⟩
theorem Marks.append{N N2 U1:Nat}{l1:List Deferred}(h1:Marks N φ w U1 l1)(hN:N<=N2)(hU:U1<=N2):∀{l2:List Deferred}{U:Nat},U1<=U->Marks N2 φ w U l2->Marks N φ w U (l2++l1)
 | [],_,hle,_=>h1.le hle
 |_::_,_,_,⟨D,e1,e2,e3,e4,e5,e6⟩=>⟨D,e1,Nat.le_trans hN e2,e3,e4,e5,Marks.append h1 hN hU (Nat.le_trans hU e2) e6⟩
def Post(good:β->Prop)(P:Program)(nt:Nat)(φ:ej)(h:ah)(w:World)(ds:List Deferred)(Y:Ex->T Value->ah->β)(e:Exit)(a':Act)(w':World):Prop:=
 ∃x cN h' φ',e=OH x/\good (Y x cN h')/\TR φ' nt cN a'/\HR P φ' h' w'/\Ext φ φ' h h' w w'/\∃ms,a'.defers=ms++ds/\Marks w.heap.size φ' w' w'.heap.size ms
def lZ(good:β->Prop)(P:Program)(rec:Rec β):Prop:=
 ∀(c:Code)(r:Option Nat)(tm:T Value)(h:ah)(Y:Ex->T Value->ah->β)(φ:ej)(w:World)(nt:Nat)(a:Act),(r=none\/qw c=true)->codeOk nt c=true->TR φ nt tm a->HR P φ h w->good (rec c tm h Y)->
  c.wpIn (FR r) 0 P (Post good P nt φ h w a.defers Y) a w
structure iy(good:β->Prop)(pr:ku β)(P:Program):Prop where
 both:∀x y,good (pr.both x y)->good x/\good y
 fn:∀f g,pr.fn f=some g->∀(args args':List Value)(h:ah)(φ:ej)(w:World)(Y:XW β),F2 (VR φ) args args'->HR P φ h w->good (g args h Y)->Cy good P φ h w Y f args'.toArray
theorem HR.aside(hr:HR P φ h w){D:Nat}{ds:Option (List Deferred)}(hD:w.heap[D]? = some (.deferred ds))(hn:∀b pl,φ b=some pl->pl.B≠D)(o:Obj):HR P φ h (w.putObj D o):=by
 refine⟨λb ob pl h1 h2=>?_,λb pl h1=>?_,hr.keys,hr.S0,hr.inj,hr.lo,λg hg=>?_⟩
 .rw[World.putObj_heap_other (hn b pl h2)];exact hr.obj b ob pl h1 h2
 .rw[World.putObj_size];exact hr.dom b pl h1
 .obtain⟨s1,s2⟩:=hr.side g hg;refine⟨?_,s2⟩;rw[World.putObj_heap_other (λe=>by subst e;rw[hD]at s1;exact s1.elim)];exact s1
theorem Ext.aside{φ':ej}{h':ah}{w0:World}(hx:Ext φ φ' h h' w0 w){D:Nat}(hD:w0.heap.size<=D)(ds:Option (List Deferred)):Ext φ φ' h h' w0 (w.putObj D (.deferred ds)) where
 sub:=hx.sub
 new:=hx.new
 nx:=hx.nx
 size:=by rw[World.putObj_size];exact hx.size
 Cg:=λB hB hn=>by rw[World.putObj_heap_other XV];exact hx.Cg B hB hn
 Io:=hx.Io
 tape:=hx.tape
 os:=hx.os
 output:=hx.output
 fz:=λB hB=>by
  by_cases he:B=D
  .subst he;by_cases hl:B<w.heap.size
   .rw[World.putObj_heap_same hl];trivial
   .have:(w.putObj B (.deferred ds)).heap[B]? = none:=by simp[World.putObj_size];omega
    rw[this];trivial
  .rw[World.putObj_heap_other he];exact hx.fz B hB
 lo:=hx.lo
 Kl:=hx.Kl
 Km:=λx o pl h1 h2 h3 h4 h5=>by rw[World.putObj_heap_other XV];exact hx.Km x o pl h1 h2 h3 h4 h5
 dr:=hx.dr
theorem qH{fn:Func}{a:Act}{φ':ej}{h':ah}{w0:World}{R:Ending->World->Prop}(hend:∀w':World,HR P φ' h' w'->Ext φ φ' h h' w0 w'->∃v,(results fn a.tmps).run P w'=.ok v w'/\R (.returned v) w'):∀(ms:List Deferred)(U:Nat)(w':World),Marks w0.heap.size φ' w' U ms->HR P φ' h' w'->Ext φ φ' h h' w0 w'->LeavesInM (FR none) 0 P fn a.tmps R ms .returning w'
 | [],_,w',_,hr,hx=>hend w' hr hx
 |_::ms,_,w',⟨D,e1,e2,e3,e4,e5,e6⟩,hr,hx=>by
  subst e1;have hr':=hr.aside e4 e5 (.deferred none);have hx':=hx.aside e2 none;refine⟨by simp,.inl ⟨D,w'.putObj D (.deferred none),rfl,run_takeDeferred e4,qH hend ms D _ ?_ hr' hx'⟩⟩;have keep:∀(l:List Deferred)(U:Nat),U<=D->Marks w0.heap.size φ' w' U l->Marks w0.heap.size φ' (w'.putObj D (.deferred none)) U l:=by
   intro l
   induction l with
   |nil=>intro _ _ _;trivial
   |cons d l ih=>
    rintro U hU ⟨D',f1,f2,f3,f4,f5,f6⟩;exact⟨D',f1,f2,f3,by rw[World.putObj_heap_other XV];exact f4,f5,ih D' XV f6⟩
  exact keep ms D (Nat.le_refl _) e6
theorem tW{f:FuncId}{c:Code}{rs:List AB}{nt:Nat}(hc:xT P f=.mk c rs nt):∃fn,P.funcs[f]? = some fn/\fn.body=some c/\fn.ntmps=nt/\rs=fn.results.toList.map (vR P)/\codeOk nt c=true/\fn.results.toList.all (Oj nt)=true/\nt<=1000000000000/\
   ∀(args:Array Value)(w:World),(callFunc f args).run P w=.ok (.enter f args) w:=by
 unfold xT at hc;split at hc<;>try contradiction
 rename_i fn hf;split at hc<;>try contradiction
 rename_i hn;split at hc<;>try contradiction
 rename_i c' hb;split at hc<;>try contradiction
 rename_i hok;simp only[Bool.and_eq_true]at hok;cases hc;refine⟨fn,hf,hb,rfl,rfl,hok.1.1,hok.1.2,dK hok.2,λargs w=>?_⟩
 have hn' : ¬ fn.name = "runtime.NumGoroutine" := by simpa using hn
 simp[callFunc,hf,hn',hb]
theorem IQ(vs:List Value):∀(tm:T Value)(i:Nat)(Y:T Value->β),Cc vs tm i Y=Y (lay vs tm i):=by
 induction vs with
 |nil=>intro tm i Y;rfl
 |cons v vs ih=>
  intro tm i Y
  show T.set tm i v (λtm=>Cc vs tm (Nat.succ i) Y)=_
  rw[T.cQ,ih];rfl
theorem TR.start{args args':List Value}{nt:Nat}(ha:F2 (VR φ) args args')(hn:nt<=1000000000000)(hle:args.length<=nt):TR φ nt (lay args .nil 0) { tmps:=args'.toArray++Array.replicate (nt-args'.toArray.size) undef,defers:=[] }:=by
 have hlen:=ha.length;refine⟨by simp[<-hlen];omega,hn,λt ht=>?_⟩;simp only[cZ];rw[pz args .nil 0 XV t (by unfold Small;omega)];simp only[Array.getD_eq_getD_getElem?];by_cases hlt:t<args.length
 .rw[if_pos XV];obtain⟨v,hv⟩:∃v,args[t]? = some v:=⟨args[t],by simp[hlt]⟩
  obtain⟨v',e1,e2⟩:=ha.get t v hv;rw[Array.getElem?_append_left (by simp;omega)];simpa[hv,e1]using e2
 .rw[if_neg XV,T.get_nil,Array.getElem?_append_right (by simp;omega),Array.getElem?_replicate];have hu:((if t-args'.toArray.size<nt-args'.toArray.size then some undef else none:Option Value).getD undef)=undef:=by split<;>rfl
  rw[hu];exact VR.undef
theorem F2.toList{a a':Array Value}(h:a.toList.length=a'.toList.length)(hv:∀(i:Nat)(v v':Value),a.toList[i]? = some v->a'.toList[i]? = some v'->VR φ v v'):F2 (VR φ) a.toList a'.toList:=
 F2.pg h hv
theorem gF(hfl:¬good fl)(hp:iy good pr P){rec:Rec β}(fJ:lZ good P rec){f:FuncId}{args args':List Value}(ha:F2 (VR φ) args args')(hr:HR P φ h w){Y:XW β}(hg:good (jG fl pr P rec f args h Y)):Cy good P φ h w Y f args'.toArray:=by
 unfold jG at hg;split at hg
 .rename_i g hg';exact hp.fn f g hg' args args' h φ w Y ha hr hg
 .split at hg
  .exact absurd hg hfl
  .rename_i c rs nt hc;obtain⟨fn,hf,hb,rfl,rfl,AF,hrk,hnt,yc⟩:=tW hc;split at hg<;>try cases hfl hg
   rename_i hle;rw[IQ]at hg;refine⟨yc _ _,?_⟩;have hst:=TR.start (nt:=fn.ntmps) ha hnt (dK hle);refine xm (r:=none) (n:=0) |>.1 (callsIn_of_wp_marks hf hb trivial (wpIn_mono (fJ c none _ h _ φ w fn.ntmps _ (.inl rfl) AF hst hr hg) ?_))
   rintro e a' w' ⟨x,cN,h',φ',rfl,g1,g2,g3,g4,ms,g5,g6⟩;have SC:a'.defers=ms:=by rw[g5];simp
   have fin:good (eU fl h' cN (fn.results.toList.map (vR P)) λvs=>Ol Y h' vs)->
     LeavesInM (FR none) 0 P fn a'.tmps (λe w'=>∃φ' v v' h',e=.returned v'/\good (Y v h')/\VR φ' v v'/\HR P φ' h' w'/\Ext φ φ' h h' w w') a'.defers .returning w':=by
    intro k;rw[SC];refine qH (a:=a') (φ':=φ') (h':=h') ?_ ms _ w' g6 g3 g4;intro w2 N_ hx2;obtain⟨vs,vs',k1,k2,k3⟩:=qG hfl N_ g2 _ hrk k;refine⟨_,tV k3,?_⟩;cases k2 with
    |nil=>exact⟨φ',_,_,h',rfl,k1,VR.tuple' .nil,N_,hx2⟩
    |cons hv hvs=>
     cases hvs with
     |nil=>exact⟨φ',_,_,h',rfl,k1,hv,N_,hx2⟩
     |cons W_ hvs=>exact⟨φ',_,_,h',rfl,k1,VR.tuple' (.cons hv (.cons W_ hvs)),N_,hx2⟩
   cases x with
   |normal=>exact fin g1
   |exit i=>exact absurd g1 hfl
   |ret=>exact fin g1
theorem ve.call{Y:XW β}{f:FuncId}{args:Array Value}(hc:Cy good P φ h w Y f args){s:Sem Next}(hs:s.run P w=(callFunc f args).run P w):ve good P φ h w Y (s.run P w):=
 .inr (.inl ⟨f,args,by rw[hs,hc.1],hc.2⟩)
theorem HR.yd(hr:HR P φ h w){b:Nat}{st:LoopState}{lM:Option Ex}{tm:T Value}{ps:List Nat}{x y:Code}{pl:Pl}(hb:h.bl.get b=some (.loop st lM tm ps x y))(hp:φ b=some pl):∃r,w.heap[pl.B]? = some (.loop r)/\r.state=st/\Bg lM r.pending/\r.params.toList=ps/\r.assign=x/\r.body=y/\
   ∃nt,DS nt ps x y/\r.tmps.size=nt/\∀t,t<nt->VR φ (cZ tm t) (r.tmps.getD t undef):=by
 have:=hr.obj b _ pl hb hp;cases hO:w.heap[pl.B]? with
 |none=>rw[hO]at this;exact this.elim
 |some O=>
  rw[hO]at this;cases O<;>simp only[OR]at this<;>try exact this.elim
  exact⟨_,rfl,this⟩
theorem HR.tX(hr:HR P φ h w){b:Nat}(hlo:h.lo<=b){st st':LoopState}{lM wg:Option Ex}{tm:T Value}{ps:List Nat}{x y:Code}{pl:Pl}(hb:h.bl.get b=some (.loop st lM tm ps x y))(hp:φ b=some pl){r:Loop}(hO:w.heap[pl.B]? = some (.loop r)){pd:Option Code}(Xl:Bg wg pd):HR P φ ⟨h.nx,h.bl.bx b (.loop st' wg tm ps x y),h.lo⟩ (w.putObj pl.B (.loop { r with state:=st',pending:=pd }))/\
  Ext φ φ h ⟨h.nx,h.bl.bx b (.loop st' wg tm ps x y),h.lo⟩ w (w.putObj pl.B (.loop { r with state:=st',pending:=pd })):=by
 obtain⟨r',VA,k1,k2,k3,k4,k5,k6⟩:=hr.yd hb hp;rw[hO]at VA;cases VA;refine hr.wS hlo hp ⟨_,hb,trivial⟩ (by simp) (λk hk=>World.putObj_heap_other hk) ?_ rfl rfl rfl (.inl trivial);rw[World.putObj_heap_same (hr.dom b pl hp).2];exact⟨rfl,Xl,k3,k4,k5,k6⟩
theorem OI:∀(ps:List Nat)(vs:List Value)(tm:T Value)(Y:T Value->β),∃cN,sI ps vs tm Y=Y cN/\
  ∀{φ:ej}{nt:Nat}{vs':List Value}{tmps:Array Value},F2 (VR φ) vs vs'->ps.length=vs.length->ps.all (λt=>Nat.ble (Nat.succ t) nt)=true->nt<=1000000000000->tmps.size=nt->(∀t,t<nt->VR φ (cZ tm t) (tmps.getD t undef))->
   ((ps.zip vs').foldl (λt (x:Nat × Value)=>t.setIfInBounds x.1 x.2) tmps).size=nt/\∀t,t<nt->VR φ (cZ cN t) (((ps.zip vs').foldl (λt (x:Nat × Value)=>t.setIfInBounds x.1 x.2) tmps).getD t undef):=by
 intro ps
 induction ps with
 |nil=>intro vs tm Y;exact⟨tm,by cases vs<;>rfl,λ_ _ _ _ h2 h3=>⟨by simpa using h2,by simpa using h3⟩⟩
 |cons p ps ih=>
  intro vs tm Y;cases vs with
  |nil=>exact⟨tm,rfl,λ_ h1 _ _ _ _=>by simp at h1⟩
  |cons v vs=>
   obtain⟨cN,e1,e2⟩:=ih vs (tm.bx p v) Y;refine⟨cN,by show T.set tm p v (λtm=>sI ps vs tm Y)=_;rw[T.cQ];exact e1,?_⟩;intro φ nt vs' tmps hv hl hps hnt hsz ag3;cases hv with
   |cons hv hvs=>
    simp only[List.all_cons,Bool.and_eq_true]at hps;have hp:p<nt:=dW hps.1;simp only[List.zip_cons_cons,List.foldl_cons];refine e2 hvs (by simpa using hl) hps.2 hnt (by simpa using hsz) ?_;intro t ht;simp only[cZ];rw[T.mV tm v (rS hnt hp) (rS hnt ht)];have:=ag3 t ht;simp only[Array.getD_eq_getD_getElem?]at this ⊢;by_cases he:p=t
    .subst he;rw[if_pos rfl,Array.getElem?_setIfInBounds_self_of_lt XV];exact hv
    .rw[if_neg he,Array.getElem?_setIfInBounds_ne he];exact this
theorem Bg.jump{e:Ex}:∀{c:Option Code},Bg (some e) c->(e=.ret/\c=some .ret)\/∃i,e=.exit i/\c=some (.exit i):=by
 intro c hp;cases e<;>cases c<;>try exact hp.elim
 all_goals (rename_i c;cases c<;>try exact hp.elim)
 .exact .inr ⟨_,rfl,by have:_=_:=hp;rw[this]⟩
 .exact .inl ⟨rfl,rfl⟩
theorem Cz(hfl:¬good fl){rec:Rec β}(fJ:lZ good P rec){l:Nat}{pl:Pl}(hp:φ l=some pl){args args':List Value}(ha:F2 (VR φ) args args')(hr:HR P φ h w){Y:XW β}(hg:good (oZ fl rec l args h Y)):ve good P φ h w Y ((Instr.yield pl.B args'.toArray).run P w):=by
 unfold oZ at hg;split at hg<;>try cases hfl hg
 rename_i st lM lE ps x y hb;split at hg<;>try cases hfl hg
 rename_i hlen;have hlen:=c_ hlen;obtain⟨r,hO,k1,k2,k3,k4,k5,nt,k6,k7,k8⟩:=hr.yd hb hp;obtain⟨VI,e1,e2⟩:=OI ps args lE (λtm=>rec x tm h (fu fl rec l y Y));rw[e1]at hg;have hal:=ha.length;have hps:r.params.size=ps.length:=by rw[<-k3];simp
 have hy:=run_yield (P:=P) (args:=args'.toArray) hO (by simp;omega);refine .inr (.inr ⟨pl.B,r.fn,_,r.assign,r.body,hy,λr0=>?_⟩);have acF:(r.params.zip args'.toArray).foldl (λtmps (x:Nat × Value)=>tmps.setIfInBounds x.1 x.2) r.tmps=(ps.zip args').foldl (λt (x:Nat × Value)=>t.setIfInBounds x.1 x.2) r.tmps:=by
  rw[<-Array.foldl_toList,Array.toList_zip,k3]
 obtain⟨f1,f2⟩:=e2 ha XV k6.ps k6.small k7 k8;rw[k4,k5];have hst:TR φ nt VI { tmps:=(r.params.zip args'.toArray).foldl (λtmps (x:Nat × Value)=>tmps.setIfInBounds x.1 x.2) r.tmps,defers:=[] }:=by
  rw[acF];exact⟨f1,k6.small,f2⟩
 have Xm:RoundIn (FR r0) 0 P pl.B r.fn ((r.params.zip args'.toArray).foldl (λtmps (x:Nat × Value)=>tmps.setIfInBounds x.1 x.2) r.tmps) x y w (Xk good P φ h w Y):=by
  refine roundIn_of_wpIn (F:=FR r0) trivial ?_;refine wpIn_mono (fJ x (some pl.B) VI h _ φ w nt _ (.inr k6.ra) k6.ca hst hr hg) ?_;rintro e a1 w1 ⟨x1,VJ,h1,φ1,rfl,g1,g2,g3,g4,ms,g5,g6⟩;unfold fu at g1;split at g1<;>try exact absurd g1 hfl
  split at g1<;>try exact absurd g1 hfl
  rename_i acG ane ps1 x2 y2 Ec;obtain⟨hlo,g1⟩:=bC hfl g1;have hp1:=g4.sub l pl hp;obtain⟨r1,hO1,q1,q2,q3,q4,q5,q6⟩:=g3.yd Ec hp1;obtain⟨m1,m2⟩:=g3.tX (st':=.busy) (wg:=acG) hlo Ec hp1 hO1 (pd:=r1.pending) q2;refine⟨_,run_beginRound hO1 q1,?_⟩;refine wpIn_mono (fJ y (some pl.B) VJ _ _ φ1 _ nt a1 (.inr k6.rb) k6.cb g2 m1 g1) ?_;rintro e a2 w2 ⟨x3,tm3,h3,φ3,rfl,j1,j2,j3,j4,ms2,j5,j6⟩;unfold jr at j1;split at j1<;>try exact absurd j1 hfl
  rename_i st3 alb anf ps3 x4 y4 Ed;have ye:=j4.sub l pl hp1;obtain⟨r3,hO3,_⟩:=j3.yd Ed ye;have hall:=g4.trans (m2.trans j4);cases x3 with
  |normal=>
   obtain⟨OJ,j1⟩:=bC hfl j1;obtain⟨n1,n2⟩:=j3.tX (st':=.ready) (wg:=none) OJ Ed ye hO3 (pd:=none) trivial;exact⟨_,_,run_endRound none hO3,φ3,_,_,_,rfl,j1,.bool true,n1,hall.trans n2⟩
  |exit i=>
   obtain⟨OJ,j1⟩:=bC hfl j1;obtain⟨n1,n2⟩:=j3.tX (st':=.done) (wg:=some (.exit i)) OJ Ed ye hO3 (pd:=some (.exit i)) rfl;exact⟨_,_,run_endRound (some (.exit i)) hO3,φ3,_,_,_,rfl,j1,.bool false,n1,hall.trans n2⟩
  |ret=>
   obtain⟨OJ,j1⟩:=bC hfl j1;obtain⟨n1,n2⟩:=j3.tX (st':=.done) (wg:=some .ret) OJ Ed ye hO3 (pd:=some .ret) trivial;exact⟨_,_,run_endRound (some .ret) hO3,φ3,_,_,_,rfl,j1,.bool false,n1,hall.trans n2⟩
 exact Xm
theorem yf(hfl:¬good fl)(hp:iy good pr P){rec:Rec β}(fJ:lZ good P rec){c:Call}{tm:T Value}{a:Act}(hop:∀y∈c.operands.toList,VR φ (fQ tm y) (a.eval y))(hr:HR P φ h w){Y:XW β}(hg:good (oe fl pr P c rec tm h Y)){o:Oper}(ho:o.op=.call c):ve good P φ h w Y ((execOp a.eval o).run P w):=by
 obtain⟨callee,args,ts⟩:=c;have hargs:F2 (VR φ) (args.toList.map (fQ tm)) (args.toList.map a.eval):=F2.map _ λy hy=>hop y (by simp[Call.operands]at hy ⊢;exact .inr hy);cases callee with
 |builtin b=>exact absurd hg hfl
 |value x=>
  have gen:good (NW tm args.toList λargs=>ev tm x λfv=>sJ fl pr P rec fv args h Y)->ve good P φ h w Y ((execOp a.eval o).run P w):=by
   intro hg;rw[sS,fZ]at hg;have u7:VR φ (fQ tm x) (a.eval x):=hop x (by simp[Call.operands]);unfold sJ at hg;split at hg<;>try cases hfl hg
   rotate_left
   .rename_i l first cap hv
    split at hg<;>try cases hfl hg
    rw[hv]at u7;generalize hz:a.eval x=z at u7;cases u7 with
    |yield hp=>
     have:=Cz hfl fJ hp hargs hr hg;have he:(args.toList.map a.eval).toArray=args.map a.eval:=by apply Array.ext';simp
     rw[he]at this;simpa[execOp,ho,resolve,hz,Deferred.ofValue,invoke]using this
   rename_i f first cap hv
   rw[hv]at u7;generalize hz:a.eval x=z at u7;cases u7 with
   |func fn a1 a1' b1 b1' ha hb Il hvb=>
    have hall:=((F2.toList ha Il).append hargs).append (F2.toList hb hvb);refine ve.call (gF hfl hp fJ hall hr hg) ?_;have he:(a1'.toList++args.toList.map a.eval++b1'.toList).toArray=a1'++args.map a.eval++b1':=by apply Array.ext';simp
    rw[he];simp[execOp,ho,resolve,hz,Deferred.ofValue,invoke]
  cases x with
  |func f=>
   simp only[oe,sS]at hg;refine ve.call (gF hfl hp fJ hargs hr hg) ?_;have he:(args.toList.map a.eval).toArray=args.map a.eval:=by apply Array.ext';simp
   rw[he];simp[execOp,ho,resolve,Act.eval,Deferred.ofValue,invoke]
  |tmp t=>exact gen hg
  |const v=>exact gen hg
  |global g=>exact gen hg
 |invoke r name=>
  simp only[oe,sS,fZ]at hg;have hrv:VR φ (fQ tm r) (a.eval r):=hop r (by simp[Call.operands]);unfold Om at hg;split at hg<;>try cases hfl hg
  rename_i t v hv;have e0:∀(v':Value),a.eval r=.iface t v'->(execOp a.eval o).run P w=(callMethod (.iface t v') name (args.map a.eval)).run P w:=by
   intro v' hz;have hx:(#[Value.iface t v']++args.map a.eval).extract 1 (#[Value.iface t v']++args.map a.eval).size=args.map a.eval:=by
    apply Array.ext';simp;exact List.take_of_length_le (by simp)
   rw[<-hx];have h0:(#[Value.iface t v']++args.map a.eval)[0]? = some (.iface t v'):=by
    rw[Array.getElem?_append_left (by simp)];rfl
   simp[execOp,ho,resolve,hz,invoke,h0]
  have he:∀v':Value,(v'::args.toList.map a.eval).toArray=#[v']++args.map a.eval:=λv'=>by apply Array.ext';simp
  rw[hv]at hrv;generalize hz:a.eval r=z at hrv;cases hrv with
  |iface _ Ir=>
   rename_i v';split at hg
   .rename_i f hm;refine ve.call (gF hfl hp fJ (F2.cons Ir hargs) hr hg) ?_;have:=AK (P:=P) (w:=w) hm v';rw[e0 v' hz,he];simp only[callMethod];simp;rw[this];simp
   .split at hg
    rotate_left
    .split at hg<;>try cases hfl hg
     rename_i f ty hm;have hag:oa P ty=some false:=by
      unfold xg at hm;split at hm<;>try contradiction
      split at hm<;>try contradiction
      split at hm<;>try contradiction
      rename_i hag;cases hm;exact hag
     obtain⟨ad,rfl⟩:=Bm hfl hg Ir;obtain⟨v2,v2',g1,g2,g3⟩:=mW hfl hag hg Ir hr;rw[jJ]at g3;have hmm:=AM (P:=P) (w:=w) (ad:=ad) hm g3;refine ve.call (gF hfl hp fJ (F2.cons g2 hargs) hr g1) ?_;rw[e0 _ hz,he];simp only[callMethod];simp;rw[hmm];simp
    rename_i f off ty hm;unfold af at hg;split at hg<;>try cases hfl hg
    rename_i b ob;rw[bR]at hg;cases Ir with
    |ptr hpp=>
     rename_i pl;have hag:oa P ty=some false:=by
      unfold xe at hm;split at hm<;>try contradiction
      split at hm<;>try contradiction
      split at hm<;>try contradiction
      split at hm<;>try contradiction
      split at hm<;>try contradiction
      split at hm<;>try contradiction
      rename_i hag _ _;cases hm;exact hag
     obtain⟨v2,v2',g1,g2,g3⟩:=mW hfl hag hg (VR.ptr hpp) hr;rw[jJ,show(⟨pl.B,ob.add off,none⟩:Addr)=(⟨pl.B,ob,none⟩:Addr).add off from(by simp[Addr.add])]at g3;have hmm:=(AL (P:=P) (w:=w) (ad:=⟨pl.B,ob,none⟩) hm g3).2;refine ve.call (gF hfl hp fJ (F2.cons g2 hargs) hr g1) ?_;rw[e0 _ hz,he];simp only[callMethod];simp;rw[hmm];simp
end Go.Vai

namespace Go.Vai
open Go
variable {β:Type}{fl:β}{good:β->Prop}{pr:ku β}{P:Program}{φ:ej}{h:ah}{w:World}{t:TypeId}
theorem Ee(hfl:¬good fl)(hp:iy good pr P){rec:Rec β}(fJ:lZ good P rec){op:Op}{tm:T Value}{a:Act}(hρ:∀y∈op.operands.toList,VR φ (fQ tm y) (a.eval y))(hr:HR P φ h w){Y:XW β}(hg:good (qy fl pr P op rec tm h Y)){o:Oper}(ho:o.op=op):ve good P φ h w Y ((execOp a.eval o).run P w):=by
 unfold qy at hg;cases hR:pU fl P op with
 |some i=>
  rw[hR]at hg;obtain⟨v,v',g1,g2,g3⟩:=vX hfl hR hρ hr hg ho;exact .inl ⟨φ,v,v',h,w,.value v',g1,g2,hr,Ext.refl _ _ _,g3,.inl rfl⟩
 |none=>
  cases hA:sH fl P op with
  |some i=>
   simp only[hR,hA]at hg;obtain⟨ob,mk,O,g1,g2,g3,g4,g5⟩:=vZ (P:=P) (w:=w) (good:=good) hfl hA hρ hg ho;obtain⟨k1,k2⟩:=dM hfl g1;obtain⟨m1,m2⟩:=hr.fresh k1 0 0 (g3 _) g2;exact .inl ⟨_,_,_,_,_,.value _,k2,g4 _ _ _ (fI _ _ _),m1,m2,g5,.inl rfl⟩
  |none=>
   cases hW:Bb fl pr.both P op with
   |some i=>
    simp only[hR,hA,hW]at hg;exact .inl (Ea hfl hp.both hW hρ hr hg ho)
   |none=>
    simp only[hR,hA,hW]at hg;cases op with
    |call c=>exact yf hfl hp fJ hρ hr hg ho
    |next it s=>
     cases s with
     |true=>exact absurd hg hfl
     |false=>
      simp only[fZ]at hg;obtain⟨v,v',h',w',g1,g2,g3,g4,g5⟩:=D0 (ty:=o.type) hfl hp.both hr hg (hρ it (by simp[Op.operands]));exact .inl ⟨φ,v,v',h',w',.value v',g1,g2,g3,g4,by simp only[execOp,ho];exact jW g5,.inl rfl⟩
    |_=>exact absurd hg hfl
theorem Ef(hfl:¬good fl){rec:Rec β}{op:Op}{tm:T Value}{Y:XW β}(hg:good (qy fl pr P op rec tm h Y)):∀c,op≠.defer c:=by
 rintro c rfl;exact hfl hg
theorem Eg(hfl:¬good fl)(hp:iy good pr P){rec:Rec β}(fJ:lZ good P rec){o:Oper}{tm:T Value}{a:Act}(hρ:∀y∈o.op.operands.toList,VR φ (fQ tm y) (a.eval y))(hr:HR P φ h w){Y:XW β}(hg:good (qy fl pr P o.op rec tm h Y)){next:Act->World->Prop}{Q:Exit->Act->World->Prop}{r0:Option Nat}(hn:∀φ' v v' h' w',good (Y v h')->VR φ' v v'->HR P φ' h' w'->Ext φ φ' h h' w w'->next (a.put o.dst v') w'):o.wpIn (FR r0) 0 P a w next Q:=by
 refine⟨lH,?_⟩;rw[Oper.semAt_eq _ _ _ (Ef hfl hg)];exact(Ee hfl hp fJ hρ hr hg rfl).upon hn
theorem Bn{ops:Array Oper}{o:Oper}{g:Option (Nat × Bool)}(hg:guardOf ops.toList o=some g){tm:T Value}{a:Act}(ht:∀s w,g=some (s,w)->s∈dD ops.toList o->s<a.tmps.size/\VR φ (cZ tm s) (a.tmps.getD s undef)):Region.wanted o (yielded ops a.tmps)=gE tm g:=by
 unfold guardOf at hg;unfold Region.wanted;split at hg
 .rename_i hgu;cases hg;rw[hgu];rfl
 .rename_i j w hgu;rw[hgu];split at hg<;>try contradiction
  rename_i d _ _ _ _ _ hq;cases hg;have hlk:d∈dD ops.toList o:=by
   simp[dD,hgu,Array.getElem?_toList]at hq ⊢;rw[hq];simp
  obtain⟨hlt,hr⟩:=ht d w rfl hlk;rw[Array.getElem?_toList]at hq;have Kq:=hq;obtain⟨v',vT⟩:∃v',a.tmps[d]? = some v':=⟨_,getElem?_pos a.tmps d hlt⟩
  rw[Array.getD_eq_getD_getElem?,vT,Option.getD_some]at hr;simp only[yielded,Kq,Option.bind_some,vT,gE];generalize cZ tm d=v at hr;cases hr<;>cases w<;>first|rfl|(rename_i b;cases b<;>rfl)
theorem l_{ops:Array Oper}{nt:Nat}(hok:∀q∈ops.toList,fG nt q=true){o:Oper}(ho:o∈ops.toList){s:Nat}(hs:s∈dD ops.toList o):s<nt:=by
 simp only[dD,List.mem_append,List.mem_filterMap]at hs;rcases hs with⟨y,hy,hys⟩|hs
 .have:=sZ (hok o ho) y hy;cases y<;>simp at hys;subst hys;exact dW this
 .split at hs
  .rename_i g w hg;cases hq:ops.toList[g]? with
   |none=>rw[hq]at hs;simp at hs
   |some q=>
    rw[hq]at hs;simp at hs;have:=dX (hok q (List.mem_of_getElem? hq));rw[hs]at this;exact dW this
  .cases hs
theorem tY(hfl:¬good fl)(hp:iy good pr P){rec:Rec β}(fJ:lZ good P rec){ops:Array Oper}{nt:Nat}(hok:∀q∈ops.toList,fG nt q=true){Y:T Value->ah->β}{r0:Option Nat}{Q:Exit->Act->World->Prop}{ds:List Deferred}{φ0:ej}{h0:ah}{w0:World}{lE:T Value}(hQ:∀cN h' φ' a' w',good (Y cN h')->TR φ' nt cN a'->HR P φ' h' w'->Ext φ0 φ' h0 h' w0 w'->a'.defers=ds->(∀t,t<nt->(∀(i:Nat)(o:Oper),ops[i]? = some o->o.dst≠some t)->cZ cN t=cZ lE t)->Q .normal a' w'):∀(os:List Oper)(i:Nat)(φ:ej)(tm:T Value)(h:ah)(a:Act)(w:World),(∀k,os[k]? = ops[i+k]?)->TR φ nt tm a->HR P φ h w->Ext φ0 φ h0 h w0 w->a.defers=ds->(∀t,t<nt->(∀(i:Nat)(o:Oper),ops[i]? = some o->o.dst≠some t)->cZ tm t=cZ lE t)->
   good (o_ fl pr P rec ops.toList os tm h Y)->wpOpsIn (FR r0) 0 P ops Q (List.range' i os.length) a w:=by
 intro os
 induction os with
 |nil=>
  intro i φ tm h a w _ ht hr hx hd hkp hg;exact hQ tm h φ a w hg ht hr hx hd hkp
 |cons o os ih=>
  intro i φ tm h a w hos ht hr hx hd hkp hg;have ho:ops[i]? = some o:=by have:=hos 0;simpa using this.symm
  have acH:∀k,os[k]? = ops[i+1+k]?:=λk=>by have:=hos (k+1);rw[show i+1+k=i+(k+1)by omega];simpa using this
  have hmem:o∈ops.toList:=by
   have:ops.toList[i]? = some o:=by simpa using ho
   exact List.mem_of_getElem? this
  have D8:=hok o hmem
  show wpOpsIn (FR r0) 0 P ops Q (i::List.range' (i+1) os.length) a w
  simp only[wpOpsIn,ho];have hg':good (XO.rec (motive:=λ_=>β)
   (λg d f=>Bool.rec (motive:=λ_=>β) (qh tm d undef h λtm h=>o_ fl pr P rec ops.toList os tm h Y)
    (f rec tm h λv h=>qh tm d v h λtm h=>o_ fl pr P rec ops.toList os tm h Y) (gE tm g))
   (Bc fl pr P ops.toList o)):=hg
  have put_defers:∀(d:Option Tmp)(v:Value),(a.put d v).defers=ds:=λd v=>by cases d<;>exact hd
  have kp:∀(v:Value)(t:Nat),t<nt->(∀(i:Nat)(o:Oper),ops[i]? = some o->o.dst≠some t)->cZ (jS tm o.dst v) t=cZ lE t:=λv t hlt hno=>by
   rw[iw ht.small (dX D8) hlt,if_neg (hno i o ho)];exact hkp t hlt hno
  cases Oa:guardOf ops.toList o with
  |none=>
   simp only[Bc,Oa]at hg';exact absurd hg' hfl
  |some g=>
   simp only[Bc,Oa]at hg';rw[Bn (φ:=φ) (tm:=tm) Oa λs w _ hs=>⟨by rw[ht.size];exact l_ hok hmem hs,ht.rel s (l_ hok hmem hs)⟩];cases hw:gE tm g with
   |false=>
    rw[hw]at hg';simp only[iu]at hg';rw[if_neg (by simp)];refine⟨lH,?_⟩;exact ih (i+1) φ _ h _ w acH (ht.put (dX D8) VR.undef) hr hx (put_defers _ _) (kp _) hg'
   |true=>
    rw[hw]at hg';simp only[iu]at hg';rw[if_pos rfl];refine Eg hfl hp fJ (λy hy=>ht.eval (sZ D8 y hy)) hr hg' ?_;intro φ' v v' h' w' g1 g2 g3 g4;exact ih (i+1) φ' _ h' _ w' acH ((ht.mono g4.sub).put (dX D8) g2) g3 (hx.trans g4) (put_defers _ _) (kp _) g1
def IS(good:β->Prop)(fl:β)(pr:ku β)(P:Program):Prop:=
 ∀(rec:Rec β),lZ good P rec->∀(ops:Array Oper)(id nt:Nat),(∀q∈ops.toList,fG nt q=true)->∀(φ:ej)(tm:T Value)(h:ah)(a:Act)(w:World)(Y:T Value->ah->β),TR φ nt tm a->HR P φ h w->
  good (lG fl pr P rec ops.toList true tm h Y)->∀(r0:Option Nat)(Q:Exit->Act->World->Prop),
   (∀cN h' φ' a' w',good (Y cN h')->TR φ' nt cN a'->HR P φ' h' w'->Ext φ φ' h h' w w'->a'.defers=a.defers->(∀t,t<nt->(∀(i:Nat)(o:Oper),ops[i]? = some o->o.dst≠some t)->cZ cN t=cZ tm t)->Q .normal a' w')->(Code.region id ops true).wpIn (FR r0) 0 P Q a w
def kR(r:Option Nat)(P:Program)(c:Code)(Q:Exit->Act->World->Prop)(a:Act)(w:World):Prop:=
 ∀(b:Frame)(k:List Item)(cs:List Frame),b.roundOf=r->(FR r).room (cs.length+1+0)->
  ∃e a' w',Q e a' w'/\ArrivesIn (Machine.fenced P (FR r)) P (lone (b.atR a (.code c::.inLoop c::k)) cs w) b k cs e a' w'
variable {ro:Option Nat}
theorem kR.wp{c:Code}{Q:Exit->Act->World->Prop}{a:Act}{w:World}(h:kR ro P c Q a w):(Code.loop c).wpIn (FR ro) 0 P Q a w:=
 λb k cs hro hb hr=>let ⟨e,a',w',q,r⟩:=h b k cs hro hr;⟨e,a',w',q,.of_steps (.one (fenced_calm hb hr rfl) stepR_loop) r⟩
theorem kR.mono{c:Code}{Q Q':Exit->Act->World->Prop}{a:Act}{w:World}(h:kR ro P c Q a w)(hq:∀e a w,Q e a w->Q' e a w):kR ro P c Q' a w:=
 λb k cs hro hr=>let ⟨e,a',w',q,r⟩:=h b k cs hro hr;⟨e,a',w',hq _ _ _ q,r⟩
theorem kR.round{c:Code}{Q:Exit->Act->World->Prop}{a:Act}{w:World}(h:c.wpIn (FR ro) 0 P (Exit.then (kR ro P c Q) Q) a w):kR ro P c Q a w:=by
 intro b k cs hro hr;have hb:(FR ro).fn b.fn:=trivial;obtain⟨e,a₁,w₁,hq,su⟩:=h b (.inLoop c::k) cs hro hb hr;cases e with
 |normal=>
  obtain⟨e₂,a₂,w₂,hq₂,acI⟩:=hq b k cs hro hr;exact⟨e₂,a₂,w₂,hq₂,.of_steps (StepsIn.trans su (.one (fenced_calm hb hr rfl) stepR_inLoop)) acI⟩
 |exit id=>exact⟨_,a₁,w₁,hq,.pass (x:=.inLoop c) rfl (λ_ _=>.inl (by simp)) su⟩
 |goto l=>exact⟨_,a₁,w₁,hq,.pass (x:=.inLoop c) rfl (λ_ _=>.inl (by simp)) su⟩
 |ret=>exact⟨_,a₁,w₁,hq,.pass (x:=.inLoop c) rfl (λ_ _=>.inl (by simp)) su⟩
 |panic ch=>exact⟨_,a₁,w₁,hq,.pass (x:=.inLoop c) rfl (λ_ _=>.inl (by simp)) su⟩
 |outgrown=>exact⟨_,a₁,w₁,hq,.pass (x:=.inLoop c) rfl (λ_ _=>.inl (by simp)) su⟩
theorem Post.after{nt:Nat}{φ1:ej}{h1:ah}{w1:World}{a1:Act}{ds ms:List Deferred}{Y:Ex->T Value->ah->β}{e:Exit}{a2:Act}{w2:World}(hx:Ext φ φ1 h h1 w w1)(hd:a1.defers=ms++ds)(hm:Marks w.heap.size φ1 w1 w1.heap.size ms)(hp:Post good P nt φ1 h1 w1 a1.defers Y e a2 w2):Post good P nt φ h w ds Y e a2 w2:=by
 obtain⟨x,tm,h2,φ2,rfl,k1,k2,k3,k4,ms2,k5,k6⟩:=hp;refine⟨x,tm,h2,φ2,rfl,k1,k2,k3,hx.trans k4,ms2++ms,by rw[k5,hd,List.append_assoc],?_⟩;exact(hm.mono k4 (Nat.le_refl _)).append hx.size (Nat.le_refl _) k4.size k6
theorem Post.here{nt:Nat}{tm:T Value}{a:Act}{Y:Ex->T Value->ah->β}{x:Ex}(ht:TR φ nt tm a)(hr:HR P φ h w)(hg:good (Y x tm h)):Post good P nt φ h w a.defers Y (OH x) a w:=
 ⟨x,tm,h,φ,rfl,hg,ht,hr,Ext.refl _ _ _,[],rfl,trivial⟩
def rT(good:β->Prop)(P:Program)(rec:Rec β):Prop:=
 ∀(c:Code)(r:Option Nat)(tm:T Value)(h:ah)(Y:Ex->T Value->ah->β)(φ:ej)(w:World)(nt:Nat)(a:Act),(r=none\/qw c=true)->codeOk nt c=true->TR φ nt tm a->HR P φ h w->good (rec (.loop c) tm h Y)->
  kR r P c (Post good P nt φ h w a.defers Y) a w
theorem qI{rec:Rec β}(fJ:lZ good P rec)(OK:rT good P rec):rT good P (body fl pr P rec):=by
 intro c r tm h Y φ w nt a hn hc ht hr hg;have hg':good (rec c tm h (sq rec (.loop c) Y)):=hg;refine kR.round (wpIn_mono (fJ c r tm h _ φ w nt a hn hc ht hr hg') ?_);rintro e a' w' ⟨e0,cN,h',φ',rfl,g1,g2,g3,g4,ms,g5,g6⟩;cases e0 with
 |normal=>exact(OK c r cN h' Y φ' w' nt a' hn hc g2 g3 g1).mono λe a2 w2 hp=>Post.after g4 g5 g6 hp
 |exit i=>exact⟨.exit i,cN,h',φ',rfl,g1,g2,g3,g4,ms,g5,g6⟩
 |ret=>exact⟨.ret,cN,h',φ',rfl,g1,g2,g3,g4,ms,g5,g6⟩
theorem xo{r:Option Nat}{x y z:Code}(hn:r=none\/qw z=true)(hz:qw z=(qw x && qw y)):(r=none\/qw x=true)/\(r=none\/qw y=true):=by
 rcases hn with hn|hn
 .exact⟨.inl hn,.inl hn⟩
 .rw[hz,Bool.and_eq_true]at hn;exact⟨.inr hn.1,.inr hn.2⟩
theorem jw{b:Frame}{a:Act}{k:List Item}{cs:List Frame}{w:World}{c:Code}:step P (lone (b.atR a (.code (.scope c)::k)) cs w)=.next (lone (b.atR a (.code c::.inScope c::k)) cs w):=
 step_lone_go (by simp[stepG,stepG.exec,Frame.atR])
theorem AN{b:Frame}{a:Act}{k:List Item}{cs:List Frame}{w:World}{c:Code}:step P (lone (b.atR a (.inScope c::k)) cs w)=.next (lone (b.atR a k) cs w):=
 step_lone_go (by simp[stepG,stepG.exec,Frame.atR])
theorem yg{F:Fence}{n:Nat}{c:Code}{Q:Exit->Act->World->Prop}{a:Act}{w:World}(h:c.wpIn F n P Q a w)(hg:∀l a w,¬Q (.goto l) a w):(Code.scope c).wpIn F n P Q a w:=by
 intro b k cs hro hb hr;have h0:(lone (b.atR a (.code (.scope c)::k)) cs w).fenced P F:=fenced_calm hb hr rfl;obtain⟨e,a₁,w₁,hq,su⟩:=h b (.inScope c::k) cs hro hb hr;cases e with
 |normal=>exact⟨.normal,a₁,w₁,hq,.head h0 jw (StepsIn.trans su (.one (fenced_calm hb hr rfl) AN))⟩
 |exit id=>
  have hx:exitTo id (.inScope c::k)=exitTo id k:=by simp[exitTo]
  exact⟨_,a₁,w₁,hq,λk' hk=>.head h0 jw (su.1 k' (by rw[hx];exact hk)),
   λhr' hk=>let ⟨k₁,h1,h2⟩:=su.2 hr' (by rw[hx];exact hk);⟨k₁,h1,.head h0 jw h2⟩⟩
 |goto l=>exact absurd hq (hg l a₁ w₁)
 |ret=>exact⟨_,a₁,w₁,hq,.of_steps (.one h0 jw) su⟩
 |panic ch=>exact⟨_,a₁,w₁,hq,.of_steps (.one h0 jw) su⟩
 |outgrown=>exact⟨_,a₁,w₁,hq,.of_steps (.one h0 jw) su⟩
theorem vf(hfl:¬good fl)(hp:iy good pr P){rec:Rec β}(fJ:lZ good P rec){g:Operand}{ps:Array Tmp}{x y:Code}{nt:Nat}{tm:T Value}{a:Act}(hc:codeOk nt (.rangeFunc g ps x y)=true)(ht:TR φ nt tm a)(hr:HR P φ h w){Y:Ex->T Value->ah->β}(hg:good (fe fl pr P rec ps.toList x y tm h Y (fQ tm g))):(Code.rangeFunc g ps x y).wpIn (FR none) 0 P (Post good P nt φ h w a.defers Y) a w:=by
 simp only[codeOk,Bool.and_eq_true]at hc;obtain⟨⟨⟨⟨⟨hcg,hcp⟩,hca⟩,hcb⟩,hra⟩,hrb⟩:=hc;have hgv:=ht.eval hcg;unfold fe at hg;split at hg<;>try cases hfl hg
 rename_i f first cap hv
 obtain⟨hn,hg⟩:=dM hfl hg;rw[hv]at hgv;generalize hz:a.eval g=z at hgv;cases hgv with
 |func fn a1 a1' b1 b1' ha hb Il hvb=>
  refine wpIn_rangeFunc λfn0 _=>?_;have hx0:Ext φ φ h h w (w.alloc (.deferred (some []))):=by
   refine⟨Sub.refl φ,λb pl e e'=>(by rw[e]at e';cases e'),Nat.le_refl _,by simp,λB hB _=>dZ hB,λ_ _ _=>rfl,rfl,rfl,rfl,λB hB=>?_,rfl,λ_ _=>rfl,λx o pl h1 h2 h3 h4 h5=>dZ h5,Nat.le_refl _⟩;rcases Nat.lt_trichotomy B w.heap.size with hl|hl|hl
   .rw[dZ hl];exact hB
   .subst hl;rw[nK];trivial
   .have:(w.alloc (.deferred (some []))).heap[B]? = none:=by show(w.heap.push _)[B]? = _;simp;omega
    rw[this];trivial
  have Mw:HR P φ h (w.alloc (.deferred (some []))):=
   ⟨λb o pl h1 h2=>by rw[dZ (hr.dom b pl h2).2];exact hr.obj b o pl h1 h2,λb pl h1=>⟨(hr.dom b pl h1).1,by have:=(hr.dom b pl h1).2;simp;omega⟩,hr.keys,hr.S0,hr.inj,hr.lo,hr.side.heap λB hB _=>dZ hB⟩
  have OE:OR P φ (.loop .ready none tm ps.toList x y) ⟨(w.alloc (.deferred (some []))).heap.size,0,0⟩ (some (.loop { state:=.ready,pending:=none,fn:=fn0,tmps:=a.tmps,params:=ps,assign:=x,body:=y,defers:=w.heap.size })):=
   ⟨rfl,trivial,rfl,rfl,rfl,nt,⟨ht.small,hcp,hca,hcb,hra,hrb⟩,ht.size,ht.rel⟩
  obtain⟨OC,hx1⟩:=Mw.fresh hn 0 0 OE trivial;have acJ:=hx0.trans hx1;have hl:(ir φ h.nx ⟨(w.alloc (.deferred (some []))).heap.size,0,0⟩) h.nx=some ⟨(w.alloc (.deferred (some []))).heap.size,0,0⟩:=fI _ _ _;have hmk:∀b pl,φ b=some pl->pl.B≠w.heap.size:=λb pl hb=>by have:=(hr.dom b pl hb).2;omega
  have hD0:(w.alloc (.deferred (some []))).heap[w.heap.size]? = some (.deferred (some [])):=nK;have hD1:=hx1.Cg w.heap.size (by simp) hmk;have ag6:=hx1.VH (D:=w.heap.size) (by simp) hmk;have hargs:=(((F2.toList ha Il).imp λ_ _ r=>r.mono hx1.sub).append (.cons (VR.yield hl) .nil)).append ((F2.toList hb hvb).imp λ_ _ r=>r.mono hx1.sub);have yc:=gF hfl hp fJ hargs OC hg
  have hM1:Marks w.heap.size (ir φ h.nx ⟨(w.alloc (.deferred (some []))).heap.size,0,0⟩) ((w.alloc (.deferred (some []))).alloc (.loop { state:=.ready,pending:=none,fn:=fn0,tmps:=a.tmps,params:=ps,assign:=x,body:=y,defers:=w.heap.size }))
    ((w.alloc (.deferred (some []))).alloc (.loop { state:=.ready,pending:=none,fn:=fn0,tmps:=a.tmps,params:=ps,assign:=x,body:=y,defers:=w.heap.size })).heap.size [{ target:=.collected w.heap.size,args:=#[] }]:=
   ⟨w.heap.size,rfl,Nat.le_refl _,by simp;omega,hD1.trans hD0,ag6,trivial⟩
  have hsz:(w.alloc (.deferred (some []))).heap.size=w.heap.size+1:=by simp
  rw[hsz]at yc hl hx1 acJ hM1;refine⟨w.heap.size+1,[{ target:=.collected w.heap.size,args:=#[] }],(w.alloc (.deferred (some []))).alloc (.loop { state:=.ready,pending:=none,fn:=fn0,tmps:=a.tmps,params:=ps,assign:=x,body:=y,defers:=w.heap.size }),
   { target:=.fn (.func f) b1',args:=a1'++#[.func (.yield (w.heap.size+1)) #[] #[]] },((w.alloc (.deferred (some []))).alloc (.loop { state:=.ready,pending:=none,fn:=fn0,tmps:=a.tmps,params:=ps,assign:=x,body:=y,defers:=w.heap.size })),f,_,((w.alloc (.deferred (some []))).alloc (.loop { state:=.ready,pending:=none,fn:=fn0,tmps:=a.tmps,params:=ps,assign:=x,body:=y,defers:=w.heap.size })),run_enterLoop_outer _ _ _ _ _,?_,λ_ _=>trivial,?_,λhh=>(by cases hh),xm.2 (Calls.mono yc.2 ?_)⟩
  .have ag7:∀v,a.eval (.const v)=v:=λ_=>rfl;simp[resolve,hz,Deferred.ofValue,ag7]
  .have:=yc.1;have he:(a1'.toList++[Value.func (.yield (w.heap.size+1)) #[] #[]]++b1'.toList).toArray=a1'++#[.func (.yield (w.heap.size+1)) #[] #[]]++b1':=by apply Array.ext';simp
   rw[he]at this ⊢;simpa[invoke]using this
  .rintro e w2 ⟨φ2,v,v',h2,rfl,g1,g2,g3,g4⟩;unfold fH at g1;split at g1<;>try exact absurd g1 hfl
   rename_i st lM VJ ps2 x2 y2 sv;have hp2:=g4.sub _ _ hl;obtain⟨r2,hO2,q1,q2,q3,q4,q5,q6⟩:=g3.yd sv hp2;split at g1
   .exact absurd g1 hfl
   rename_i hst;obtain⟨CA,g1⟩:=bC hfl g1;obtain⟨n1,n2⟩:=g3.tX (st':=.exhausted) (wg:=lM) CA sv hp2 hO2 (pd:=r2.pending) q2;have hend:=run_endLoop (P:=P) hO2 (by rw[q1];exact hst);have acK:=g4.trans n2;have hM2:=hM1.mono acK (Nat.le_refl _);have yh:=acJ.trans acK;have htt:TR φ2 nt tm { a with defers:=[{ target:=.collected w.heap.size,args:=#[] }]++a.defers }:=⟨ht.size,ht.small,λt hlt=>(ht.rel t hlt).mono yh.sub⟩
   have SC:=hM2.le (U':=(w2.putObj (w.heap.size+1) (.loop { r2 with state:=.exhausted,pending:=r2.pending })).heap.size) (by have:=g4.size;simp at this ⊢;omega);refine⟨r2.pending,_,hend,?_⟩;cases lM with
   |none=>
    have Xl:r2.pending=none:=by
     cases hq:r2.pending with
     |none=>rfl
     |some c=>rw[hq]at q2;exact q2.elim
    rw[Xl]at n1 yh SC ⊢;exact⟨.normal,tm,_,φ2,rfl,g1,htt,n1,yh,_,rfl,SC⟩
   |some ex=>
    rcases Bg.jump q2 with⟨rfl,Xl⟩|⟨i,rfl,Xl⟩
    .rw[Xl]at n1 yh SC ⊢;exact wpIn_ret ⟨.ret,tm,_,φ2,rfl,g1,htt,n1,yh,_,rfl,SC⟩
    .rw[Xl]at n1 yh SC ⊢;exact wpIn_exit ⟨.exit i,tm,_,φ2,rfl,g1,htt,n1,yh,_,rfl,SC⟩
theorem IT(hfl:¬good fl)(hp:iy good pr P)(Vx:IS good fl pr P){rec:Rec β}(fJ:lZ good P rec)(OK:rT good P rec):lZ good P (body fl pr P rec):=by
 intro c r tm h Y φ w nt a hn hc ht hr hg;cases c with
 |skip=>exact wpIn_skip (Post.here (x:=.normal) ht hr hg)
 |label l=>exact wpIn_label (Post.here (x:=.normal) ht hr hg)
 |ret=>exact wpIn_ret (Post.here (x:=.ret) ht hr hg)
 |exit id=>exact wpIn_exit (Post.here (x:=.exit id) ht hr hg)
 |region id os draw=>
  have hok:∀q∈os.toList,fG nt q=true:=by
   simp only[codeOk,List.all_eq_true]at hc;exact hc
  have hQ:∀cN h' φ' a' w',good ((λtm h=>Y .normal tm h) cN h')->TR φ' nt cN a'->HR P φ' h' w'->Ext φ φ' h h' w w'->a'.defers=a.defers->Post good P nt φ h w a.defers Y .normal a' w':=
   λcN h' φ' a' w' g1 g2 g3 g4 g5=>⟨.normal,cN,h',φ',rfl,g1,g2,g3,g4,[],g5,trivial⟩
  cases draw with
  |false=>
   refine wpIn_region ?_;rw[List.range_eq_range'];have:=tY (r0:=r) (lE:=tm) hfl hp fJ hok (λcN h' φ' a' w' g1 g2 g3 g4 g5 _=>hQ cN h' φ' a' w' g1 g2 g3 g4 g5) os.toList 0 φ tm h a w (λk=>by simp) ht hr (Ext.refl _ _ _) rfl (λ_ _ _=>rfl) hg;simpa using this
  |true=>exact Vx rec fJ os id nt hok φ tm h a w _ ht hr hg r _ λcN h' φ' a' w' g1 g2 g3 g4 g5 _=>hQ cN h' φ' a' w' g1 g2 g3 g4 g5
 |seq x y=>
  simp only[codeOk,Bool.and_eq_true]at hc;obtain⟨Ap,hn2⟩:=xo (x:=x) (y:=y) hn rfl;have hg':good (rec x tm h (sq rec y Y)):=hg;refine wpIn_seq (wpIn_mono (fJ x r tm h _ φ w nt a Ap hc.1 ht hr hg') ?_);rintro e a' w' ⟨e0,cN,h',φ',rfl,g1,g2,g3,g4,ms,g5,g6⟩;cases e0 with
  |normal=>exact wpIn_mono (fJ y r cN h' Y φ' w' nt a' hn2 hc.2 g2 g3 g1) λe a2 w2 hp=>Post.after g4 g5 g6 hp
  |exit i=>exact⟨.exit i,cN,h',φ',rfl,g1,g2,g3,g4,ms,g5,g6⟩
  |ret=>exact⟨.ret,cN,h',φ',rfl,g1,g2,g3,g4,ms,g5,g6⟩
 |cond x c1 c2=>
  simp only[codeOk,Bool.and_eq_true]at hc;obtain⟨Ap,hn2⟩:=xo (x:=c1) (y:=c2) hn rfl;have hg':good (ev tm x (qz fl rec c1 c2 tm h Y)):=hg;rw[fZ]at hg';have hx:=ht.eval hc.1.1;unfold qz at hg';split at hg'<;>try exact absurd hg' hfl
  .rename_i hv;rw[hv]at hx;refine wpIn_cond_true (by generalize a.eval x=z at hx;cases hx;rfl) (fJ c1 r tm h Y φ w nt a Ap hc.1.2 ht hr hg')
  .rename_i hv;rw[hv]at hx;refine wpIn_cond_false (by generalize a.eval x=z at hx;cases hx;rfl) (fJ c2 r tm h Y φ w nt a hn2 hc.2 ht hr hg')
 |block id c=>
  have hg':good (rec c tm h (kQ id Y)):=hg;refine wpIn_block (wpIn_mono (fJ c r tm h _ φ w nt a hn hc ht hr hg') ?_);rintro e a' w' ⟨e0,cN,h',φ',rfl,g1,g2,g3,g4,ms,g5,g6⟩;cases e0 with
  |normal=>exact⟨.normal,cN,h',φ',rfl,g1,g2,g3,g4,ms,g5,g6⟩
  |ret=>exact⟨.ret,cN,h',φ',rfl,g1,g2,g3,g4,ms,g5,g6⟩
  |exit i=>
   simp only[kQ]at g1;simp only[OH,Exit.inBlock];split at g1
   .rename_i hb;have hb:=c_ hb;rw[if_pos hb];exact⟨.normal,cN,h',φ',rfl,g1,g2,g3,g4,ms,g5,g6⟩
   .rename_i hb;have hb:=pV hb;rw[if_neg hb];exact⟨.exit i,cN,h',φ',rfl,g1,g2,g3,g4,ms,g5,g6⟩
 |scope c=>
  refine yg (fJ c r tm h Y φ w nt a hn hc ht hr hg) ?_;rintro l a' w' ⟨x,cN,h',φ',hx,_⟩;cases x<;>cases hx
 |loop c=>
  exact(qI (fl:=fl) (pr:=pr) fJ OK c r tm h Y φ w nt a hn hc ht hr hg).wp
 |rangeFunc g ps x y=>
  have hg':good (ev tm g (fe fl pr P rec ps.toList x y tm h Y)):=hg;rw[fZ]at hg';rcases hn with rfl|hn
  .exact vf hfl hp fJ hc ht hr hg'
  .cases hn
 |_=>exact absurd hg hfl
theorem Bo(hfl:¬good fl)(hp:iy good pr P)(Vx:IS good fl pr P):∀n,lZ good P (run fl pr P n)/\rT good P (run fl pr P n):=by
 intro n
 induction n with
 |zero=>exact⟨λc r tm h Y φ w nt a _ _ _ _ hg=>absurd hg hfl,λc r tm h Y φ w nt a _ _ _ _ hg=>absurd hg hfl⟩
 |succ n ih=>exact⟨IT hfl hp Vx ih.1 ih.2,qI ih.1 ih.2⟩
end Go.Vai
