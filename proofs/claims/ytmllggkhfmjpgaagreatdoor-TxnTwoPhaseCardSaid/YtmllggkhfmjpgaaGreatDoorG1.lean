/-
  PROVED HERE: a part of the proof (VaiS6, VaiS7, VaiS8, VaiS9, VaiS10, VaiS11, VaiS12, VaiS13, VaiS14, VaiS15).
-/
import Derived.Test.YtmllggkhfmjpgaaGreatDoorG0
import Derived.Laws.Append
import Derived.Laws.AppendOwn
import Derived.Laws.Small
import Derived.Laws.IdiomStrings
import Derived.Laws.BytesArg
import Derived.OrdersIn
import Derived.RangeFuncRecord
set_option linter.unusedVariables false
set_option linter.unusedSimpArgs false
namespace Go.Vai
open Go
variable {β:Type}{fl:β}{good:β->Prop}{P:Program}{φ:ee}{h:Heap}{w:World}{t:TypeId}
noncomputable def lay:List Value->T Value->Nat->T Value
 | [],c,_=>c
 |v::vs,c,off=>lay vs (c.aV off v) (off+1)
theorem x5(vs:List Value):∀(c:T Value)(off:Nat)(V:T Value->Nat->β),Ug vs c off V=V (lay vs c off) (off+vs.length):=by
 induction vs with
 |nil=>intro c off V;rfl
 |cons v vs ih=>
  intro c off V
  show T.set c off v (λc=>xU (Nat.succ off) λoff=>Ug vs c off V)=_
  rw[T.cg,b6,ih];simp only[lay,List.length_cons]
  congr 1;omega
theorem tZ(vs:List Value):∀(c:T Value)(off:Nat),off+vs.length<=2 ^ 199->∀i,Small i->(lay vs c off).get i=if off<=i/\i<off+vs.length then vs[i-off]? else c.get i:=by
 induction vs with
 |nil=>intro c off _ i _;simp[lay];omega
 |cons v vs ih=>
  intro c off ho i hi;simp only[List.length_cons]at ho;have hso:Small off:=by unfold Small;omega
  rw[lay,ih _ _ (by omega) i hi,T.nk c v hso hi];by_cases h1:off+1<=i/\i<off+1+vs.length
  .rw[if_pos h1,if_pos (by simp;omega),show i-off=(i-(off+1))+1 by omega];simp
  .rw[if_neg h1];by_cases h2:off=i
   .subst h2;simp
   .rw[if_neg h2,if_neg (by simp;omega)]
theorem Es{n m:Nat}(h:n<=m)(hm:m<=4611686018427387904):Small n:=by unfold Small;omega
theorem kF(hfl:¬good fl){vs:List Value}{e:TypeId}{TM:Bool}{V:bD->β}(hg:good (aH fl vs e TM V)):vs.length<=1000000000000/\good (V (.cells vs.length (lay vs .nil 0) e TM)):=by
 unfold aH at hg;rw[x5]at hg;simp only[Nat.zero_add]at hg;split at hg
 .rename_i hle;exact⟨cF hle,hg⟩
 .exact absurd hg hfl
theorem yN{vs vs':List Value}(hv:F2 (VR φ) vs vs')(hl:vs.length<=1000000000000)(e:TypeId)(pl:Pl)(rest:List Value)(TM:Bool)(ho:TM=true->(vs'++rest).length=pl.sz/\fD P e=some pl.e/\0<pl.e):OR P φ (.cells vs.length (lay vs .nil 0) e TM) pl (some (.cells (vs'++rest).toArray e (0,0))):=by
 have hlen:=hv.length;refine⟨rfl,rfl,by simp;omega,by omega,λh=>by simpa using ho h,?_⟩;intro i v mD hi;rw[tZ vs .nil 0 (by omega) i (by unfold Small;omega),if_pos (by omega)]at mD;simp only[Nat.sub_zero]at mD;obtain⟨v',h1,h2⟩:=hv.get i v mD;refine⟨v',?_,h2⟩;have:i<vs'.length:=by omega
 simp[List.getElem?_append_left this,h1]
theorem dA(hfl:¬good fl){o:bD}{V:Nat->Heap->β}(hg:good (ax fl o h V)):h.nx<=h.nx/\good (V h.nx ⟨h.nx+1,h.bl.aV h.nx o,h.lo⟩):=by
 unfold ax at hg;rw[T.cg,b6]at hg;exact⟨Nat.le_refl _,hg⟩
def iD(φ:ee)(b:Nat)(pl:Pl):ee:=λx=>if x=b then some pl else φ x
theorem eO(φ:ee)(b:Nat)(pl:Pl):iD φ b pl b=some pl:=by simp[iD]
theorem rC{b:Nat}{pl:Pl}(hb:φ b=none):Sub φ (iD φ b pl):=λx p e=>by
 unfold iD;split
 .rename_i hx;subst hx;rw[hb]at e;cases e
 .exact e
theorem HR.yO(hr:HR P φ h w)(hn:h.nx<=h.nx)(o:bD):HR P φ ⟨h.nx+1,h.bl.aV h.nx o,h.lo⟩ w:=by
 have hs:Small h.nx:=by unfold Small;omega
 have iH:∀b,b<h.nx->(h.bl.aV h.nx o).get b=h.bl.get b:=λb hb=>T.gW _ _ hs (by unfold Small;omega) (by omega);refine⟨?_,?_,?_,?_,?_,Nat.le_succ_of_le hr.lo⟩
 .intro b o' pl hb hp;have:=(hr.dom b pl hp).1;exact hr.obj b o' pl ((iH b this)▸hb) hp
 .intro b pl hp;have:=hr.dom b pl hp;exact⟨by show b<h.nx+1;omega,this.2⟩
 .intro b o' hsb hb
  show b<h.nx+1
  rw[T.nk _ _ hs hsb]at hb;split at hb
  .omega
  .have:=hr.keys b o' hsb hb;omega
 .show h.nx+1<h.nx+1+1;omega
 .intro b b' o1 o2 pl mX g1 g2 l1 l2 p1 p2 e;have d1:=(hr.dom b pl p1).1;have d2:=(hr.dom b' mX p2).1;exact hr.inj b b' o1 o2 pl mX ((iH b d1)▸g1) ((iH b' d2)▸g2) l1 l2 p1 p2 e
theorem ef{O:Obj}{B:Nat}(hB:B<w.heap.size):(w.alloc O).heap[B]? = w.heap[B]?:=by
 show(w.heap.push O)[B]? = _
 rw[Array.getElem?_push,if_neg (by omega)]
theorem nU{O:Obj}:(w.alloc O).heap[w.heap.size]? = some O:=by
 show(w.heap.push O)[w.heap.size]? = _
 simp
theorem HR.Et(hr:HR P φ h w){b:Nat}{o:bD}(hb:h.bl.get b=some o)(hp:φ b=none)(Bx:b<h.nx){O:Obj}(sz e:Nat)(ho:OR P φ o ⟨w.heap.size,sz,e⟩ (some O)):HR P (iD φ b ⟨w.heap.size,sz,e⟩) h (w.alloc O):=by
 have hsub:=rC (pl:=⟨w.heap.size,sz,e⟩) hp;refine⟨?_,?_,hr.keys,hr.Pb,?_,hr.lo⟩
 .intro x o' pl hx Db;unfold iD at Db;split at Db
  .rename_i he;subst he;cases Db;rw[hb]at hx;cases hx
   show OR P _ o _ ((w.alloc O).heap[w.heap.size]?)
   rw[nU];exact ho.mono hsub
  .have hB:=(hr.dom x pl Db).2;rw[ef hB];exact(hr.obj x o' pl hx Db).mono hsub
 .intro x pl Db;unfold iD at Db;split at Db
  .rename_i he;subst he;cases Db;exact⟨Bx,by simp⟩
  .have:=hr.dom x pl Db;exact⟨this.1,by simp;omega⟩
 .intro x x' o1 o2 pl mX g1 g2 l1 l2 p1 p2 e;unfold iD at p1 p2;split at p1<;>split at p2
  .omega
  .rename_i h1 h2;cases p1;have:=(hr.dom x' mX p2).2;simp at e;omega
  .rename_i h1 h2;cases p2;have:=(hr.dom x pl p1).2;simp at e;omega
  .exact hr.inj x x' o1 o2 pl mX g1 g2 l1 l2 p1 p2 e
theorem Ext.Et{φ0:ee}{h0:Heap}{w0:World}(hx:Ext φ0 φ h0 h w0 w){b:Nat}(hp:φ b=none)(hb:h0.nx<=b)(O:Obj)(hO:UF (some O))(sz e:Nat):Ext φ0 (iD φ b ⟨w.heap.size,sz,e⟩) h0 h w0 (w.alloc O) where
 sub:=hx.sub.trans (rC hp)
 new:=λx pl e0 e1=>by
  unfold iD at e1;split at e1
  .rename_i he;subst he;cases e1;exact⟨hb,.inl hx.size⟩
  .exact hx.new x pl e0 e1
 nx:=hx.nx
 size:=Nat.le_trans hx.size (by simp)
 Bs:=λB hB hn=>by
  have:=hx.size;rw[ef (by omega)];exact hx.Bs B hB hn
 B9:=hx.B9
 tape:=hx.tape
 os:=hx.os
 output:=hx.output
 lo:=hx.lo
 IB:=hx.IB
 IC:=λx o pl h1 h2 h3 h4 h5=>by
  have:=hx.size;rw[ef (by omega)];exact hx.IC x o pl h1 h2 h3 h4 h5
 dr:=hx.dr
 fz:=λB h=>by
  have h1:=hx.fz B h;rcases Nat.lt_trichotomy B w.heap.size with hl|hl|hl
  .rw[ef hl];exact h1
  .subst hl;have:(w.alloc O).heap[w.heap.size]? = some O:=by show(w.heap.push O)[w.heap.size]? = _;simp
   rw[this];exact hO
  .have:(w.alloc O).heap[B]? = none:=by show(w.heap.push O)[B]? = _;simp;omega
   rw[this];trivial
theorem Ext.yO{φ0:ee}{h0:Heap}{w0:World}(hx:Ext φ0 φ h0 h w0 w)(hlo:h.lo<=h.nx)(hn:h.nx<=h.nx)(o:bD):Ext φ0 φ h0 ⟨h.nx+1,h.bl.aV h.nx o,h.lo⟩ w0 w where
 sub:=hx.sub
 new:=hx.new
 nx:=Nat.le_trans hx.nx (Nat.le_succ _)
 size:=hx.size
 Bs:=hx.Bs
 B9:=λb hb hp=>by
  have:=hx.nx;rw[<-hx.B9 b hb hp];exact T.gW _ _ (by unfold Small;omega) (by unfold Small;omega) (by omega)
 tape:=hx.tape
 os:=hx.os
 output:=hx.output
 fz:=hx.fz
 lo:=hx.lo
 IC:=hx.IC
 dr:=hx.dr
 IB:=λb hb=>by
  have:=hx.lo;rw[<-hx.IB b hb];exact T.gW _ _ (by unfold Small;omega) (by unfold Small;omega) (by omega)
theorem HR.fresh(hr:HR P φ h w)(hn:h.nx<=h.nx){o:bD}{O:Obj}(sz e:Nat)(ho:OR P φ o ⟨w.heap.size,sz,e⟩ (some O))(hl:o.live):HR P (iD φ h.nx ⟨w.heap.size,sz,e⟩) ⟨h.nx+1,h.bl.aV h.nx o,h.lo⟩ (w.alloc O)/\Ext φ (iD φ h.nx ⟨w.heap.size,sz,e⟩) h ⟨h.nx+1,h.bl.aV h.nx o,h.lo⟩ w (w.alloc O):=by
 have hnone:φ h.nx=none:=by
  cases hp:φ h.nx with
  |none=>rfl
  |some pl=>have:=(hr.dom _ _ hp).1;omega
 exact⟨(hr.yO hn o).Et (T.ah _ _ _) hnone (Nat.lt_succ_self _) sz e ho,((Ext.refl φ h w).yO hr.lo hn o).Et hnone (Nat.le_refl _) O (tX ho hl) sz e⟩
def Names(mk:Nat->Value):Prop:=∀(φ:ee)(b:Nat)(pl:Pl),φ b=some pl->VR φ (mk b) (mk pl.B)
theorem B_:Names ptrTo:=λ_ _ _ h=>.ptr h
theorem MX:Names fI:=λ_ _ _ h=>.map h
theorem wX{n c:Nat}(h1:n<=c)(h2:c<aS):Names (sliceTo n c):=λ_ _ _ h=>.slice h h1 h2
theorem qz(zs:List Value)(n:Nat):(a_ zs n).length=n*zs.length:=by
 induction n with
 |zero=>simp[a_]
 |succ n ih=>simp[a_,ih,Nat.succ_mul];omega
theorem Eu(zs:List Value)(n i:Nat)(hi:i<n*zs.length):(a_ zs n)[i]? = zs[i % zs.length]?:=by
 induction n generalizing i with
 |zero=>omega
 |succ n ih=>
  rw[Nat.succ_mul]at hi;simp only[a_];rcases Nat.lt_or_ge i zs.length with h1|h1
  .rw[List.getElem?_append_left h1,Nat.mod_eq_of_lt h1]
  .rw[List.getElem?_append_right h1,ih _ (by omega)]
   congr 1
   exact(Nat.mod_eq_sub_mod h1).symm
theorem t_(z:Array Value)(n m:Nat)(hm:m=n*z.size):(Array.range m).map (λi=>z[i % z.size]!)=(a_ z.toList n).toArray:=by
 subst hm;apply Array.ext';simp;apply List.ext_getElem?;intro i;by_cases hi:i<n*z.size
 ·have h0:0<z.size:=by rcases Nat.eq_zero_or_pos z.size with h|h;· rw[h]at hi;omega
                       .exact h
  have h1:i % z.size<z.size:=Nat.mod_lt _ h0;rw[Eu _ _ _ (by simpa using hi)];simp[hi,h1,getElem!_pos]
 .rw[List.getElem?_eq_none (by simpa using hi),List.getElem?_eq_none (by rw[qz];simpa using hi)]
theorem j8{zs:List Value}(hz:zs.all gL=true)(n:Nat):(a_ zs n).all gL=true:=by
 induction n with
 |zero=>rfl
 |succ n ih=>simp only[a_,List.all_append,hz,ih,Bool.and_self]
theorem lW{z:List Value}{s:Nat}(h:O2 P t=some (z,s)):zeroOf P t=some z/\fD P t=some s/\z.length=s/\0<s:=by
 unfold O2 at h;split at h<;>try (cases h;done)
 rename_i z' s' h1 h2;split at h<;>try (cases h;done)
 rename_i hl;cases h;exact⟨h1,h2,cz hl,Nat.succ_pos _⟩
theorem wY(hfl:¬good fl){op:Op}{i:XA β}(hc:sj fl P op=some i){tm:T Value}{ρ:Operand->Value}(hρ:∀y∈op.operands.toList,VR φ (fM tm y) (ρ y)){V:bD->(Nat->Value)->β}(hg:good (i.run tm V)){o:Oper}(ho:o.op=op):∃ob mk O,good (V ob mk)/\ob.live/\(∀pl,OR P φ ob pl (some O))/\Names mk/\(execOp ρ o).run P w=.ok (.value (mk w.heap.size)) (w.alloc O):=by
 have one:∀{vs vs':List Value}{e:TypeId}{mk:Nat->Value} ,F2 (VR φ) vs vs'->good (aH fl vs e false λo=>V o mk)->Names mk->
   (∀O,O=Obj.cells vs'.toArray e (0,0)->(execOp ρ o).run P w=.ok (.value (mk w.heap.size)) (w.alloc O))->
   ∃ob mk O,good (V ob mk)/\ob.live/\(∀pl,OR P φ ob pl (some O))/\Names mk/\(execOp ρ o).run P w=.ok (.value (mk w.heap.size)) (w.alloc O):=by
  intro vs vs' e mk hv hg hn hrun;obtain⟨h1,h2⟩:=kF hfl hg;refine⟨_,mk,.cells vs'.toArray e (0,0),h2,trivial,λpl=>?_,hn,hrun _ rfl⟩;have:=yN (P:=P) hv h1 e pl [] false (λe=>by cases e);simpa using this
 cases op<;>simp only[sj]at hc<;>try (cases hc;done)
 case alloc e=>
  split at hc<;>try (cases hc;done)
  rename_i z hz;cases hc;rw[XA.O_]at hg;obtain⟨v,inf,hi,Pj,rfl,hb⟩:=ir hz;refine one (jh hb) hg B_ λO hO=>?_;subst hO;simp[execOp,ho,Instr.alloc,iM hi Pj,newVar,newRow,ptrTo]
 case box e x=>
  cases hc;rw[XA.cB]at hg;refine one (hρ x (by simp[Op.operands])).cells hg B_ λO hO=>?_;subst hO;simp[execOp,ho,Instr.box,newVar,newRow,ptrTo]
 case buildSlice t len parts=>
  split at hc<;>try (cases hc;done)
  rename_i e hu;split at hc<;>try (cases hc;done)
  rename_i z s hz hlen;split at hc<;>try (cases hc;done)
  rename_i ps hps hs;cases hc;rw[XA.iG]at hg;rw[List.map_map]at hg;obtain⟨hz1,yP,Pk,MY⟩:=lW hz;obtain⟨v,inf,hi,Pj,hzl,hb⟩:=ir hz1;have hlen:=cF hlen;have hs:=cF hs;obtain⟨r,r',g1,g2,g3⟩:=wU (φ:=φ) hfl tm ρ _ parts.toList ps hps (λp xZ=>hρ p.2 (by simp[Op.operands];exact⟨p.1,by simpa using xZ⟩)) _ _ (jh (j8 hb len)) _ hg;refine one g2 g1 (wX (Nat.le_refl _) (by rw[kz];omega)) λO hO=>?_;subst hO;have h1:¬len*s > 2 ^ 24:=by
   have:len*s<=10000*1000:=Nat.mul_le_mul hlen hs;omega
  have hsize:v.cells.size=s:=by rw[<-Pk,hzl];simp
  have h2:(if len*s=0 then(#[]:Array Value)else v.cells)=(if len*s=0 then #[]else v.cells):=rfl;have h3:(Array.range (len*s)).map (λi=>v.cells[i % v.cells.size]!)=(a_ z len).toArray:=by
   rw[t_ v.cells len (len*s) (by rw[hsize]),hzl]
  have Ul:Instr.fill (λi=>some (i*s,s)) (a_ z len).toArray (parts.toList.map λp=>(p.1,ρ p.2))=some r'.toArray:=g3;by_cases h0:len*s=0
  .have hl0:len=0:=by rcases Nat.mul_eq_zero.1 h0 with h|h<;>omega
   subst hl0;simp[a_]at Ul;simp[execOp,ho,Instr.buildSlice,aU hu,cD yP,Ul,newRow,sliceTo,Array.range_zero']
  .simp[execOp,ho,Instr.buildSlice,aU hu,cD yP,h1,h0,iM hi Pj,h3,Ul,newRow,sliceTo]
 case makeMap t r=>
  have fin:good (V (.map [] 0) fI)->(execOp ρ o).run P w=.ok (.value (fI w.heap.size)) (w.alloc (.map #[] 0))->
    ∃ob mk O,good (V ob mk)/\ob.live/\(∀pl,OR P φ ob pl (some O))/\Names mk/\(execOp ρ o).run P w=.ok (.value (mk w.heap.size)) (w.alloc O):=
   λg1 g2=>⟨_,fI,.map #[] 0,g1,trivial,λpl=>⟨rfl,.nil⟩,MX,g2⟩
  split at hc
  .cases hc;rw[XA.O_]at hg;exact fin hg (by simp[execOp,ho,Instr.makeMap,fI])
  .rename_i x;split at hc<;>try (cases hc;done)
   rename_i hu;cases hc;rw[XA.cB]at hg;split at hg<;>try cases hfl hg
   rename_i k n hx;have hv:=hρ x (by simp[Op.operands]);rw[hx]at hv;generalize hy:ρ x=y at hv;cases hv;exact fin hg (by simp[execOp,ho,Instr.makeMap,fI,aU hu,hy,asInt,asIntOf])
 case makeSlice t l c=>
  split at hc<;>try (cases hc;done)
  rename_i e hu;split at hc<;>try (cases hc;done)
  rename_i z s inf hz hi;split at hc<;>try (cases hc;done)
  rename_i hbytes;have hbytes:=cF hbytes;cases hc;rw[XA.dK]at hg;split at hg<;>try cases hfl hg
  rename_i k1 l' k2 c' hl ID;split at hg<;>try cases hfl hg
  rename_i hle Y3;have hle:=cF hle;have Y3:=cF Y3;have Y4:=hρ l (by simp[Op.operands]);have Un:=hρ c (by simp[Op.operands]);rw[hl]at Y4;rw[ID]at Un;generalize hy1:ρ l=y1 at Y4;generalize hy2:ρ c=y2 at Un;cases Y4;cases Un;obtain⟨hz1,yP,Pk,MY⟩:=lW hz;obtain⟨v,Y5,hi',Pj,hzl,hb⟩:=ir hz1;rw[hi]at hi';cases hi';refine one (jh (j8 hb c')) hg (wX hle (by rw[kz];omega)) λO hO=>?_;subst hO;have w1:IntKind.i64.wrap (l':Int)=l':=IntWalk.i64_in _ ⟨by omega,by omega⟩;have w2:IntKind.i64.wrap (c':Int)=c':=IntWalk.i64_in _ ⟨by omega,by omega⟩;have hbc:(inf.bytes:Int)*(c':Int)<=2 ^ 48:=by
   have:inf.bytes*c'<=1000000*1000000:=Nat.mul_le_mul hbytes Y3;have h2:(inf.bytes:Int)*(c':Int)=((inf.bytes*c':Nat):Int):=by simp
   rw[h2];omega
  have hsize:v.cells.size=s:=by rw[<-Pk,hzl];simp
  have c1:decide ((c':Int)<0)=false:=decide_eq_false (by omega);have c2:decide ((inf.bytes:Int)*(c':Int) > 2 ^ 48)=false:=decide_eq_false (by omega);have c3:¬((l':Int)<0):=by omega
  have c4:¬((l':Int) > (c':Int)):=by omega
  have h3:(Array.range (c'*s)).map (λi=>v.cells[i % v.cells.size]!)=(a_ z c').toArray:=by
   rw[t_ v.cells c' (c'*s) (by rw[hsize]),hzl]
  have hA:(asInt (.int k1 (l':Int))).run P w=.ok (l':Int) w:=by simp[asInt,asIntOf]
  have hB:(asInt (.int k2 (c':Int))).run P w=.ok (c':Int) w:=by simp[asInt,asIntOf]
  have hrun:(Instr.makeSlice t (.int k1 (l':Int)) (.int k2 (c':Int))).run P w=.ok (sliceTo l' c' w.heap.size) (w.alloc (.cells (a_ z c').toArray e (0,0))):=by
   unfold Instr.makeSlice;simp only[Sem.run_bind,aU hu,Result.andThen_ok,hA,hB,qy hi,w1,w2];simp only[c1,c2,Bool.or_self,c3,c4];by_cases h0:c'*s=0
   .have hc0:c'=0:=by rcases Nat.mul_eq_zero.1 h0 with h|h<;>omega
    subst hc0;simp[cD yP,newRow,sliceTo,a_,Array.range_zero']
   .have h3':(Array.range (c'*s)).map (λi=>v.cells[i % v.cells.size]!)=(a_ z c').toArray:=h3;simp[cD yP,h0,iM hi Pj,h3',newRow,sliceTo]
  simp only[execOp,ho,hy1,hy2];exact jP hrun
theorem kG(hfl:¬good fl)(n:Nat):∀(vs:List Value)(c:T Value)(off:Nat)(V:T Value->β),good (nR fl n vs c off V)->
  (∀v∈vs,dJ v=true)/\(vs≠[]->off+vs.length<=n)/\good (V (lay vs c off)):=by
 intro vs
 induction vs with
 |nil=>intro c off V hg;exact⟨λv hv=>(by cases hv),λhh=>absurd rfl hh,hg⟩
 |cons v vs ih=>
  intro c off V hg;have hg':good (Bool.rec (motive:=λ_=>β) fl (Bool.rec (motive:=λ_=>β) fl (T.set c off v λc=>nR fl n vs c (Nat.succ off) V) (Nat.ble (Nat.succ off) n)) (dJ v)):=hg;cases h1:dJ v with
  |false=>rw[h1]at hg';exact absurd hg' hfl
  |true=>
   rw[h1]at hg';cases h2:Nat.ble (Nat.succ off) n with
   |false=>rw[h2]at hg';exact absurd hg' hfl
   |true=>
    rw[h2]at hg';simp only[T.cg]at hg';obtain⟨g1,g2,g3⟩:=ih _ _ _ hg';refine⟨λu hu=>?_,λ_=>?_,g3⟩
    .simp at hu;rcases hu with rfl|hu
     .exact h1
     .exact g1 u hu
    .have:=cF h2;cases vs with
     |nil=>simp;omega
     |cons x vs=>have:=g2 (by simp);simp at this ⊢;omega
theorem Ku{v v':Value}(h1:dJ v=true)(hv:VR φ v v'):v'.oneCell'=true:=by
 cases hv<;>first|rfl|(simp[dJ]at h1)
theorem HR.rowAt(hr:HR P φ h w){b n e:Nat}{c:T Value}{op:Bool}{pl:Pl}(hb:h.bl.get b=some (.cells n c e op))(hp:φ b=some pl):∃C,w.heap[pl.B]? = some (.cells C e (0,0))/\n<=C.size/\n<=4611686018427387904/\(op=true->C.size=pl.sz/\fD P e=some pl.e/\0<pl.e)/\∀i v,c.get i=some v->i<n->∃v',C[i]? = some v'/\VR φ v v':=by
 have:=hr.obj b _ pl hb hp;cases hO:w.heap[pl.B]? with
 |none=>rw[hO]at this;exact this.elim
 |some O=>
  rw[hO]at this;cases O<;>simp only[OR]at this<;>try exact this.elim
  obtain⟨rfl,rfl,h3,h4,h5,h6⟩:=this;exact⟨_,rfl,h3,h4,h5,h6⟩
theorem Ev(hr:HR P φ h w){b:Nat}(hb:b<=h.nx):Small b:=by have:=hr.Pb;unfold Small;omega
theorem HR.Dc(hr:HR P φ h w){b:Nat}(hlo:h.lo<=b){o:bD}{pl:Pl}(hp:φ b=some pl)(afA:∃q,h.bl.get b=some q/\q.live){w':World}(hsz:w'.heap.size=w.heap.size)(Ew:∀k,k≠pl.B->w'.heap[k]? = w.heap[k]?)(ho:OR P φ o pl w'.heap[pl.B]?)(ht:w'.tape=w.tape)(hos:w'.os=w.os)(hout:w'.output=w.output)(hu:o.live\/(UF w.heap[pl.B]?->UF w'.heap[pl.B]?))(Kv:w.drawn<=w'.drawn:=by exact Nat.le_refl _):HR P φ ⟨h.nx,h.bl.aV b o,h.lo⟩ w'/\Ext φ φ h ⟨h.nx,h.bl.aV b o,h.lo⟩ w w':=by
 have Bx:=(hr.dom b pl hp).1;have hsb:Small b:=Ev hr (Nat.le_of_lt Bx);have iH:∀x,x<h.nx->x≠b->(h.bl.aV b o).get x=h.bl.get x:=λx hx Xo=>T.gW _ _ hsb (Ev hr (Nat.le_of_lt hx)) (Ne.symm Xo);obtain⟨q,hq1,Ca⟩:=afA;constructor
 .refine⟨?_,?_,?_,hr.Pb,?_,hr.lo⟩
  .intro x o' mX hx Db;by_cases Xo:x=b
   .subst Xo;rw[hp]at Db;cases Db;rw[T.ah]at hx;cases hx;exact ho
   .have Xp:=(hr.dom x mX Db).1;have hx':h.bl.get x=some o':=(iH x Xp Xo)▸hx;by_cases hB:mX.B=pl.B
    .
     have hd:¬o'.live:=λhl=>Xo (hr.inj x b o' q mX pl hx' hq1 hl Ca Db hp hB);have h1:=hr.obj x o' mX hx' Db;cases o' with
     |dead n e=>
      have h2:n<=mX.sz/\n<=4611686018427387904/\fD P e=some mX.e/\0<mX.e:=by
       cases hO:w.heap[mX.B]? with
       |none=>rw[hO]at h1;exact h1
       |some O=>rw[hO]at h1;cases O<;>exact h1
      cases w'.heap[mX.B]? with
      |none=>exact h2
      |some O=>cases O<;>exact h2
     |cells=>exact absurd trivial hd
     |map=>exact absurd trivial hd
     |dD=>exact absurd trivial hd
     |Xl=>exact absurd trivial hd
     |loop=>exact absurd trivial hd
     |ro=>exact absurd trivial hd
    .rw[Ew _ hB];exact hr.obj x o' mX hx' Db
  .intro x mX Db;have:=hr.dom x mX Db;exact⟨this.1,by rw[hsz];exact this.2⟩
  .intro x o' hsx hx
   show x<h.nx
   rw[T.nk _ _ hsb hsx]at hx;split at hx
   .rename_i he;subst he;exact Bx
   .exact hr.keys x o' hsx hx
  ·intro x x' o1 o2 pl1 pl2 g1 g2 l1 l2 p1 p2 e;have n1:=(hr.dom x pl1 p1).1;have n2:=(hr.dom x' pl2 p2).1;have key:∀y oy py,y<h.nx->(h.bl.aV b o).get y=some oy->oy.live->φ y=some py->∃o',h.bl.get y=some o'/\o'.live:=by
    intro y oy py hy gy ly _;by_cases hyb:y=b
    .subst hyb;exact⟨q,hq1,Ca⟩
    .exact⟨oy,(iH y hy hyb)▸gy,ly⟩
   obtain⟨q1,a1,b1⟩:=key x o1 pl1 n1 g1 l1 p1;obtain⟨q2,a2,b2⟩:=key x' o2 pl2 n2 g2 l2 p2;exact hr.inj x x' q1 q2 pl1 pl2 a1 a2 b1 b2 p1 p2 e
 .refine⟨Sub.refl φ,λb pl a b'=>(by rw[a]at b';cases b'),Nat.le_refl _,by rw[hsz];exact Nat.le_refl _,?_,?_,ht,hos,hout,?_,rfl,λx hx=>iH x (Nat.lt_of_lt_of_le hx hr.lo) (by omega),λx o mX h1 h2 h3 h4 h5=>Ew mX.B λe=>absurd (hr.inj x b o q mX pl h2 hq1 h3 Ca h4 hp e) (by omega),Kv⟩
  .intro B _ hn;exact Ew B λe=>hn b pl hp e.symm
  .intro x hx hn;exact iH x hx λe=>by subst e;rw[hp]at hn;cases hn
  .intro B hB;by_cases he:B=pl.B
   .subst he;rcases hu with hu|hu
    .exact tX ho hu
    .exact hu hB
   .rw[Ew B he];exact hB
theorem HR.storeAt(hr:HR P φ h w){b n e off:Nat}(hlo:h.lo<=b){c:T Value}{op:Bool}{pl:Pl}(hb:h.bl.get b=some (.cells n c e op))(hp:φ b=some pl){vs vs':List Value}(hv:F2 (VR φ) vs vs')(h1:∀v∈vs,dJ v=true)(h2:vs≠[]->off+vs.length<=n):∃w',(storeCells ⟨pl.B,off,none⟩ vs').run P w=.ok () w'/\HR P φ ⟨h.nx,h.bl.aV b (.cells n (lay vs c off) e op),h.lo⟩ w'/\Ext φ φ h ⟨h.nx,h.bl.aV b (.cells n (lay vs c off) e op),h.lo⟩ w w':=by
 obtain⟨C,hC,xL,hn2,hop,hcell⟩:=hr.rowAt hb hp;have hlen:=hv.length;have hone:∀v'∈vs',v'.oneCell'=true:=by
  intro v' wS;obtain⟨i,hi⟩:=List.getElem?_of_mem wS;have hi':i<vs'.length:=(List.getElem?_eq_some_iff.1 hi).1;have:∃v,vs[i]? = some v:=⟨vs[i]'(by omega),List.getElem?_eq_getElem (by omega)⟩
  obtain⟨v,hvi⟩:=this;obtain⟨u,Pm,Uo⟩:=hv.get i v hvi;rw[hi]at Pm;cases Pm;exact Ku (h1 v (List.mem_of_getElem? hvi)) Uo
 cases hvs:vs with
 |nil=>
  subst hvs;cases hv;refine⟨w,by simp[storeCells],?_⟩;have:=hr.Dc hlo (o:=.cells n (lay [] c off) e op) hp ⟨_,hb,trivial⟩ (w':=w) rfl (λ_ _=>rfl) (by rw[hC];exact⟨rfl,rfl,xL,hn2,hop,hcell⟩) rfl rfl rfl (.inl trivial);exact this
 |cons v0 vs0=>
  have hne:vs≠[]:=by rw[hvs];simp
  have hle:=h2 hne;rw[<-hvs];have hrun:=run_storeCells_at P pl.B off e vs' 0 C w hC (by simp;omega) hone;simp only[Nat.add_zero]at hrun;refine⟨_,hrun,?_⟩;refine hr.Dc hlo hp ⟨_,hb,trivial⟩ (setRow_size _ _ _) (λk hk=>setRow_other _ _ _ _ hk) ?_ rfl rfl rfl (.inl trivial);rw[setRow_heap w pl.B C _ e _ hC];refine⟨rfl,rfl,by simp;omega,hn2,λh=>?_,?_⟩
  .obtain⟨k1,k2,k3⟩:=hop h;refine⟨?_,k2,k3⟩;simp;omega
  .intro i v mD hi;rw[tZ vs c off (by omega) i (Es (Nat.le_of_lt hi) hn2)]at mD;split at mD
   .rename_i hin;obtain⟨v',g1,g2⟩:=hv.get _ v mD;refine⟨v',?_,g2⟩;simp only[List.getElem?_toArray,List.append_assoc];rw[List.getElem?_append_right (by simp;omega),List.getElem?_append_left (by simp;omega)];rw[<-g1];congr 1;simp;omega
   .rename_i arQ;obtain⟨v',g1,g2⟩:=hcell i v mD hi;refine⟨v',?_,g2⟩;simp only[List.getElem?_toArray,List.append_assoc];rcases Nat.lt_or_ge i off with hlt|hge
    .rw[List.getElem?_append_left (by simp;omega),List.getElem?_take_of_lt hlt];simpa using g1
    .rw[List.getElem?_append_right (by simp;omega),List.getElem?_append_right (by simp;omega),List.getElem?_drop];have:off+vs'.length+(i-(List.take off C.toList).length-vs'.length)=i:=by simp;omega
     rw[this];simpa using g1
end Go.Vai

namespace Go.Vai
open Go
variable {β:Type}{fl:β}{good:β->Prop}{P:Program}{φ:ee}{h:Heap}{w:World}{t:TypeId}
def Y6(nx:Next)(v:Value):Prop:=nx=.value v\/(nx=.skip/\v=undef)
def Up(good:β->Prop)(P:Program)(φ:ee)(h:Heap)(w:World)(V:Z7 β)(r:Result Next):Prop:=
 ∃φ' v v' h' w' nx,good (V v h')/\VR φ' v v'/\HR P φ' h' w'/\Ext φ φ' h h' w w'/\r=.ok nx w'/\Y6 nx v'
theorem bI(hfl:¬good fl){b:Nat}{o:bD}{V:Heap->β}(hg:good (setBlock fl b o h V)):h.lo<=b/\good (V ⟨h.nx,h.bl.aV b o,h.lo⟩):=by
 unfold setBlock at hg;split at hg
 .rename_i hle;rw[T.cg]at hg;exact⟨cF hle,hg⟩
 .exact absurd hg hfl
theorem Dd(hfl:¬good fl){s:Nat}(hs:fD P t=some s)(hr:HR P φ h w){a a' x x':Value}{V:Z7 β}(hg:good (aI fl s a x h V))(ha:VR φ a a')(hx:VR φ x x'):∃h' w',good (V undef h')/\HR P φ h' w'/\Ext φ φ h h' w w'/\(Instr.storeAt t a' x').run P w=.ok () w':=by
 unfold aI at hg;split at hg<;>try cases hfl hg
 cases ha with
 |ptr hp=>
  split at hg<;>try cases hfl hg
  rename_i n c e op hb;split at hg<;>try cases hfl hg
  rename_i hl;have hl:=cz hl;obtain⟨g1,g2,g3⟩:=kG hfl _ _ _ _ _ hg;obtain⟨hlo,g3⟩:=bI hfl g3;obtain⟨w',k1,k2,k3⟩:=hr.storeAt hlo hb hp hx.cells g1 g2;refine⟨_,w',g3,k2,k3,?_⟩;have hsz:x'.cells.size=s:=by have:=hx.cells.length;simp at this hl;omega
  simp[Instr.storeAt,Instr.sureAddr,storeVar,cD hs,hsz,k1]
theorem oG(x:MapEntry)(es:List MapEntry)(V:List MapEntry->β):Ej x es V=V (es++[x]):=by
 induction es generalizing V with
 |nil=>rfl
 |cons e es ih=>simp only[Ej,ih,List.cons_append]
theorem qD(f:MapEntry->MapEntry):∀(i:Nat)(es:List MapEntry)(V:List MapEntry->β),setAt f i es V=V (es.modify i f):=by
 intro i es
 induction es generalizing i with
 |nil=>intro V;cases i<;>simp[setAt]
 |cons e es ih=>intro V;cases i<;>simp[setAt,ih]
theorem ua:∀(i:Nat)(es:List MapEntry)(V:List MapEntry->β),B1 i es V=V (es.eraseIdx i):=by
 intro i es
 induction es generalizing i with
 |nil=>intro V;cases i<;>simp[B1]
 |cons e es ih=>intro V;cases i<;>simp[B1,ih]
theorem HR.yQ(hr:HR P φ h w){b clock clock':Nat}(hlo:h.lo<=b){es es1:List MapEntry}{IT:Array MapEntry}{pl:Pl}(hb:h.bl.get b=some (.map es clock))(hp:φ b=some pl)(h1:F2 (ER φ) es1 IT.toList):∃w',(setObj pl.B (.map IT clock')).run P w=.ok () w'/\HR P φ ⟨h.nx,h.bl.aV b (.map es1 clock'),h.lo⟩ w'/\Ext φ φ h ⟨h.nx,h.bl.aV b (.map es1 clock'),h.lo⟩ w w':=by
 obtain⟨es',hO,h2⟩:=hr.sq hb hp;have hlt:pl.B<w.heap.size:=(hr.dom b pl hp).2;refine⟨{ w with heap:=w.heap.setIfInBounds pl.B (.map IT clock') },by simp[setObj,Sem.run,hO],?_⟩;refine hr.Dc hlo hp ⟨_,hb,trivial⟩ (by simp) (λk hk=>?_) ?_ rfl rfl rfl (.inl trivial)
 .show(w.heap.setIfInBounds pl.B (.map IT clock'))[k]? = _
  exact Array.getElem?_setIfInBounds_ne (Ne.symm hk)
 .show OR P φ _ pl ((w.heap.setIfInBounds pl.B (.map IT clock'))[pl.B]?)
  rw[Array.getElem?_setIfInBounds_self_of_lt hlt];exact⟨rfl,h1⟩
theorem F2.modify{α γ:Type}{R:α->γ->Prop}{f:α->α}{g:γ->γ}{l:List α}{m:List γ}(hl:F2 R l m)(hfg:∀a b,R a b->R (f a) (g b))(i:Nat):F2 R (l.modify i f) (m.modify i g):=by
 induction hl generalizing i with
 |nil=>simp;exact .nil
 |cons hr ht ih=>cases i with
  |zero=>simp;exact .cons (hfg _ _ hr) ht
  |succ i=>simp;exact .cons hr (ih i)
theorem F2.eraseIdx{α γ:Type}{R:α->γ->Prop}{l:List α}{m:List γ}(hl:F2 R l m)(i:Nat):F2 R (l.eraseIdx i) (m.eraseIdx i):=by
 induction hl generalizing i with
 |nil=>simp;exact .nil
 |cons hr ht ih=>cases i with
  |zero=>simpa using ht
  |succ i=>simp;exact .cons hr (ih i)
theorem By{a:Value}(hs:ot a=true):Instr.sameBits 10000 a a=true:=by
 have one:∀{n:Nat}{v:Value},kj v=true->Instr.sameBits n v v=true:=by
  intro n v hv;cases v<;>simp[kj]at hv<;>simp[Instr.sameBits,Uk]
 cases a
 case agg cs=>
  simp only[ot]at hs;simp only[Instr.sameBits,beq_self_eq_true,Bool.true_and];generalize cs.toList=l at hs
  induction l with
  |nil=>simp
  |cons v l ih=>simp only[List.all_cons,Bool.and_eq_true]at hs;simp[one hs.1];simpa using ih hs.2
 all_goals exact one hs
theorem x6{f:Value->Value->Bool}(hf:∀a b,f a b=true->a=b):∀(l m:List Value),xH f l m=true->l=m:=by
 intro l
 induction l with
 |nil=>intro m hm;cases m<;>simp[xH]at hm;rfl
 |cons x l ih=>intro m hm;cases m with
  |nil=>simp[xH]at hm
  |cons y m=>simp only[xH,Bool.and_eq_true]at hm;rw[hf _ _ hm.1,ih _ hm.2]
theorem IU:∀(n:Nat)(a b:Value),kY n a b=true->a=b:=by
 intro n
 induction n with
 |zero=>intro a b hv;simp[kY]at hv
 |succ n ih=>
  intro a b hv;simp only[kY]at hv;split at hv<;>try (cases hv;done)
  .simp at hv;rw[hv]
  .simp[gz,iq]at hv;rw[hv.1,hv.2]
  .simp[ku]at hv;rw[hv]
  .rfl
  .simp only[Bool.and_eq_true]at hv;rw[cz hv.1,cz hv.2]
  .simp only[Bool.and_eq_true]at hv;rw[cz hv.1,cz hv.2]
  .simp only[Bool.and_eq_true]at hv;obtain⟨⟨⟨h1,h2⟩,h3⟩,h4⟩:=hv;rw[cz h1,cz h2,cz h3,cz h4]
  .rfl
  .rw[cz hv]
  .rfl
  .rfl
  .simp only[Bool.and_eq_true]at hv;rw[cz hv.1,ih _ _ hv.2]
  .congr 1;exact Array.ext' (x6 ih _ _ hv)
  .congr 1;exact Array.ext' (x6 ih _ _ hv)
  .simp only[Bool.and_eq_true]at hv;obtain⟨⟨h1,h2⟩,h3⟩:=hv;rw[cz h1,Array.ext' (x6 ih _ _ h2),Array.ext' (x6 ih _ _ h3)]
theorem oH(hfl:¬good fl){kt et:TypeId}(hu:P.underlying t=some (.map kt et))(hr:HR P φ h w){m m' k k' x x':Value}{V:Z7 β}(hg:good (bS fl P kt m k x h V))(hm:VR φ m m')(hk:VR φ k k')(hx:VR φ x x'):∃h' w',good (V undef h')/\HR P φ h' w'/\Ext φ φ h h' w w'/\(Instr.mapUpdate t m' k' x').run P w=.ok () w':=by
 unfold bS at hg;split at hg<;>try cases hfl hg
 rename_i Pg;have hsc:=sS Pg;have hkk:=xY hsc hk;subst hkk;have Ee:∀em,(Instr.checkKey em 10000 kt k').run P w=.ok () w:=λem=>mC 20 10000 (by omega) kt k' em Pg;obtain⟨u,Um⟩:=vK Pg;split at hg<;>try cases hfl hg
 cases hm with
 |map hp=>
  rename_i pl;split at hg<;>try cases hfl hg
  rename_i es clock hb;obtain⟨es',hO,h2⟩:=hr.sq hb hp;split at hg
  .rename_i i e hf;split at hg<;>try cases hfl hg
   rename_i hes;rw[qD]at hg;obtain⟨hlo,hg⟩:=bI hfl hg;obtain⟨r',g3,g4⟩:=ez hr hk es es'.toList 0 _ h2 hf;cases r' with
   |none=>exact g4.elim
   |some p=>
    obtain⟨i',v'⟩:=p;obtain⟨rfl,_,g6,_,_⟩:=g4;simp only[Nat.sub_zero]at g6;obtain⟨e',xM,he2⟩:=h2.get _ _ g6;have hke:=IU 3 _ _ hes;have hkey:e'.key=k':=by
     have h3:=he2.key;rw[<-hke]at h3;exact xY hsc h3
    have hsame:(Instr.keyThatStays (((es'[i']?).map (·.key)).getD k') k').run P w=.ok k' w:=by
     have:es'[i']? = some e':=by simpa using xM
     simp[Instr.keyThatStays,this,hkey,By hsc]
    have hnew:F2 (ER φ) (es.modify i' λe=>{ e with key:=k',val:=x }) (es'.modify i' λe=>{ e with key:=k',val:=x' }).toList:=by
     rw[Array.toList_modify];exact h2.modify (f:=λe=>{ e with key:=k',val:=x }) (g:=λe=>{ e with key:=k',val:=x' }) (λa b hab=>⟨hk,hx,hab.born⟩) i'
    obtain⟨w',k1,k2,k3⟩:=hr.yQ hlo (clock':=clock) hb hp hnew;refine⟨_,w',hg,k2,k3,?_⟩;simp[Instr.mapUpdate,aU hu,dO hO,Ee,gX Um g3,hsame,k1]
  .rename_i hf;rw[oG,b6]at hg;obtain⟨hlo,hg⟩:=bI hfl hg;obtain⟨r',g3,g4⟩:=ez hr hk es es'.toList 0 _ h2 hf;cases r' with
   |some p=>exact g4.elim
   |none=>
    have hnew:F2 (ER φ) (es++[{ key:=k',val:=x,born:=clock }]) (es'.push { key:=k',val:=x',born:=clock }).toList:=by
     rw[Array.toList_push];exact h2.append (.cons ⟨hk,hx,rfl⟩ .nil)
    obtain⟨w',k1,k2,k3⟩:=hr.yQ hlo (clock':=clock+1) hb hp hnew;refine⟨_,w',hg,k2,k3,?_⟩;simp[Instr.mapUpdate,aU hu,dO hO,Ee,gX Um g3,k1]
  .exact absurd hg hfl
end Go.Vai

namespace Go.Vai
open Go
variable {β:Type}{fl:β}{good:β->Prop}{P:Program}{φ:ee}{h:Heap}{w:World}{t:TypeId}
theorem Bz(hfl:¬good fl){kt et ty:TypeId}{ts:Array TypeId}(ht:ts[0]? = some t)(hu:P.underlying t=some (.map kt et))(hr:HR P φ h w){m m' k k':Value}{V:Z7 β}(hg:good (jw fl P kt m k h V))(hm:VR φ m m')(hk:VR φ k k'):∃h' w',good (V (.tuple #[]) h')/\HR P φ h' w'/\Ext φ φ h h' w w'/\(Builtin.delete_ ts ty #[m',k']).run P w=.ok (.tuple #[]) w':=by
 unfold jw at hg;split at hg<;>try cases hfl hg
 rename_i Pg;have hsc:=sS Pg;have hkk:=xY hsc hk;subst hkk;have Ee:∀em,(Instr.checkKey em 10000 kt k').run P w=.ok () w:=λem=>mC 20 10000 (by omega) kt k' em Pg;obtain⟨u,Um⟩:=vK Pg;cases hm<;>try cases hfl hg
 .exact⟨h,w,hg,hr,Ext.refl _ _ _,by simp[Builtin.delete_,ht,aU hu,Ee]⟩
 .rename_i r pl hp;simp only at hg;split at hg<;>try cases hfl hg
  rename_i es clock hb;obtain⟨es',hO,h2⟩:=hr.sq hb hp;split at hg
  .rename_i i e hf;rw[ua]at hg;obtain⟨hlo,hg⟩:=bI hfl hg;obtain⟨r',g3,g4⟩:=ez hr hk es es'.toList 0 _ h2 hf;cases r' with
   |none=>exact g4.elim
   |some p=>
    obtain⟨i',v'⟩:=p;obtain⟨rfl,_,g6,_,_⟩:=g4;have hnew:F2 (ER φ) (es.eraseIdx i') (es'.eraseIdxIfInBounds i').toList:=by
     have:(es'.eraseIdxIfInBounds i').toList=es'.toList.eraseIdx i':=by
      unfold Array.eraseIdxIfInBounds;split
      .simp
      .rename_i hn;rw[List.eraseIdx_of_length_le (by simpa using hn)]
     rw[this];exact h2.eraseIdx i'
    obtain⟨w',k1,k2,k3⟩:=hr.yQ hlo (clock':=clock) hb hp hnew;exact⟨_,w',hg,k2,k3,by simp[Builtin.delete_,ht,aU hu,dO hO,Ee,gX Um g3,k1]⟩
  .rename_i hf;obtain⟨r',g3,g4⟩:=ez hr hk es es'.toList 0 _ h2 hf;cases r' with
   |some p=>exact g4.elim
   |none=>
    have afD:(setObj pl.B (.map es' clock)).run P w=.ok () w:=by
     have hlt:pl.B<w.heap.size:=(hr.dom r pl hp).2;simp[setObj,Sem.run,hO];have:w.heap.setIfInBounds pl.B (.map es' clock)=w.heap:=by
      apply Array.ext_getElem?;intro i;by_cases hi:i=pl.B
      .subst hi;rw[Array.getElem?_setIfInBounds_self_of_lt hlt,hO]
      .rw[Array.getElem?_setIfInBounds_ne (Ne.symm hi)]
     rw[this]
    exact⟨h,w,hg,hr,Ext.refl _ _ _,by simp[Builtin.delete_,ht,aU hu,dO hO,Ee,gX Um g3,afD]⟩
  .exact absurd hg hfl
theorem HR.IV(hr:HR P φ h w){b since stepped:Nat}{m:Option Nat}{seen:List Nat}{pl:Pl}(hb:h.bl.get b=some (.dD m since seen stepped))(hp:φ b=some pl):∃m' seen',w.heap[pl.B]? = some (.mapIter m' since seen' stepped)/\seen'.toList=seen.reverse/\((m=none/\m'=none)\/∃b mX,m=some b/\φ b=some mX/\m'=some mX.B):=by
 have:=hr.obj b _ pl hb hp;cases hO:w.heap[pl.B]? with
 |none=>rw[hO]at this;exact this.elim
 |some O=>
  rw[hO]at this;cases O<;>simp only[OR]at this<;>try exact this.elim
  obtain⟨rfl,rfl,h3,h4⟩:=this;exact⟨_,_,rfl,h3,h4⟩
theorem De(hfl:¬good fl){kt et:TypeId}(hu:P.underlying t=some (.map kt et))(hr:HR P φ h w){x x':Value}{V:Z7 β}(hg:good (nS fl x h V))(hx:VR φ x x'):∃φ' v v' h' w',good (V v h')/\VR φ' v v'/\HR P φ' h' w'/\Ext φ φ' h h' w w'/\(Instr.range t x').run P w=.ok v' w':=by
 unfold nS at hg;split at hg<;>try cases hfl hg
 .cases hx;obtain⟨hn,g1⟩:=dA hfl hg;obtain⟨k1,k2⟩:=hr.fresh (o:=.dD none 0 [] 0) (O:=.mapIter none 0 #[] 0) hn 0 0 ⟨rfl,rfl,rfl,.inl ⟨rfl,rfl⟩⟩ trivial;exact⟨_,_,.pointer (some ⟨w.heap.size,0,none⟩),_,_,g1,.ptr (eO _ _ _),k1,k2,by simp[Instr.range,aU hu]⟩
 .split at hg<;>try cases hfl hg
  rename_i r _ es clock hb;cases hx with
  |map hp=>
   rename_i pl;obtain⟨es',hO,h2⟩:=hr.sq hb hp;obtain⟨hn,g1⟩:=dA hfl hg;obtain⟨k1,k2⟩:=hr.fresh (o:=.dD (some r) clock [] clock) (O:=.mapIter (some pl.B) clock #[] clock) hn 0 0 ⟨rfl,rfl,rfl,.inr ⟨r,pl,rfl,hp,rfl⟩⟩ trivial;exact⟨_,_,.pointer (some ⟨w.heap.size,0,none⟩),_,_,g1,.ptr (eO _ _ _),k1,k2,by simp[Instr.range,aU hu,dO hO]⟩
theorem nr{B:Nat}{m:Option Nat}{since stepped:Nat}{seen:Array Nat}(hO:w.heap[B]? = some (.mapIter m since seen stepped)):(getObj B).run P w=.ok (.mapIter m since seen stepped) w:=by
 simp[getObj,Sem.run,hO]
theorem F2.filter{α γ:Type}{R:α->γ->Prop}{f:α->Bool}{g:γ->Bool}{l:List α}{m:List γ}(hl:F2 R l m)(hfg:∀a b,R a b->f a=g b):F2 R (l.filter f) (m.filter g):=by
 induction hl with
 |nil=>exact .nil
 |@cons a b l m hr _ ih=>
  simp only[List.filter_cons,hfg a b hr];split
  .exact .cons hr ih
  .exact ih
theorem F2.allEq{α γ:Type}{R:α->γ->Prop}{f:α->Bool}{g:γ->Bool}{l:List α}{m:List γ}(hl:F2 R l m)(hfg:∀a b,R a b->f a=g b):l.all f=m.all g:=by
 induction hl with
 |nil=>rfl
 |cons hr _ ih=>simp[hfg _ _ hr,ih]
theorem Y7(a b:Nat):Nat.beq a b=(a == b):=by rw[Bool.eq_iff_iff];simp
theorem Y8(a b:Nat):Nat.ble a b=decide (a<=b):=by rw[Bool.eq_iff_iff];simp[Nat.ble_eq]
theorem Df(hfl:¬good fl){both:β->β->β}(Pn:∀x y,good (both x y)->good x/\good y){b m since clock:Nat}{seen:List Nat}{V:Z7 β}:∀(es:List MapEntry)(e:MapEntry),
  good (ni fl both b m since seen clock h V e es)->∀(i:Nat)(x:MapEntry),(e::es)[i]? = some x->x.born<since/\h.lo<=b/\good (V (.tuple #[.bool true,x.key,x.val]) ⟨h.nx,h.bl.aV b (.dD (some m) since (x.born::seen) clock),h.lo⟩):=by
 intro es
 induction es with
 |nil=>
  intro e hg i x hx;unfold ni at hg;split at hg<;>try cases hfl hg
  rename_i hle;obtain⟨hlo,hg⟩:=bI hfl hg;cases i with
  |zero=>simp at hx;subst hx;exact⟨cF hle,hlo,hg⟩
  |succ i=>simp at hx
 |cons e' es ih=>
  intro e hg i x hx;unfold ni at hg;split at hg<;>try cases hfl hg
  rename_i hle;obtain⟨g1,g2⟩:=Pn _ _ hg;obtain⟨hlo,g1⟩:=bI hfl g1;cases i with
  |zero=>simp at hx;subst hx;exact⟨cF hle,hlo,g1⟩
  |succ i=>exact ih e' g2 i x (by simpa using hx)
theorem HR.drew(hr:HR P φ h w):HR P φ h w.drew:=⟨hr.obj,hr.dom,hr.keys,hr.Pb,hr.inj,hr.lo⟩
theorem Ext.drew{φ':ee}{h':Heap}{w':World}(hx:Ext φ φ' h h' w w'):Ext φ φ' h h' w w'.drew:=⟨hx.sub,hx.new,hx.nx,hx.size,hx.Bs,hx.B9,hx.tape,hx.os,hx.output,hx.fz,hx.lo,hx.IB,hx.IC,Nat.le_succ_of_le hx.dr⟩
theorem Ext.Y9{φ':ee}{h':Heap}{w':World}(hx:Ext φ φ' h h' w.drew w'):Ext φ φ' h h' w w':=⟨hx.sub,hx.new,hx.nx,hx.size,hx.Bs,hx.B9,hx.tape,hx.os,hx.output,hx.fz,hx.lo,hx.IB,hx.IC,Nat.le_of_succ_le hx.dr⟩
theorem xN(n:Nat)(hn:0<n)(w:World):∃k w',k<n/\(w'=w\/w'=w.drew)/\(choose (.mapNext n)).run P w=.ok k w':=by
 by_cases h1:n<=1
 .refine⟨0,w,hn,.inl rfl,?_⟩;simp[Question.forced,h1]
 .refine⟨(Question.mapNext n).cut (w.tape w.drawn (.mapNext n)),w.drew,Nat.mod_lt _ hn,.inr rfl,?_⟩;simp[choose,Sem.run,Question.forced,h1]
theorem Ey(hfl:¬good fl){both:β->β->β}(Pn:∀x y,good (both x y)->good x/\good y){ty:TypeId}(hr:HR P φ h w){x x':Value}{V:Z7 β}(hg:good (oz fl both x h V))(hx:VR φ x x'):∃v v' h' w',good (V v h')/\VR φ v v'/\HR P φ h' w'/\Ext φ φ h h' w w'/\(Instr.next x' false ty).run P w=.ok v' w':=by
 unfold oz at hg;split at hg<;>try cases hfl hg
 cases hx with
 |ptr hp=>
  rename_i b pl;split at hg<;>try cases hfl hg
  .rename_i since seen stepped hb;obtain⟨m',seen',hO,_,h4⟩:=hr.IV hb hp;rcases h4 with⟨_,rfl⟩|⟨b1,mX,h5,_⟩
   .exact⟨_,.tuple #[.bool false],h,w,hg,VR.tuple' (.cons (.bool false) .nil),hr,Ext.refl _ _ _,by simp[Instr.next,nr hO]⟩
   .cases h5
  .rename_i m since seen last hb;obtain⟨m',seen',hO,Ez,h4⟩:=hr.IV hb hp;rcases h4 with⟨h5,_⟩|⟨b1,mX,h5,hp',rfl⟩
   .cases h5
   .cases h5;split at hg<;>try cases hfl hg
    rename_i es clock hm;obtain⟨es',Xq,h2⟩:=hr.sq hm hp';split at hg<;>try cases hfl hg
    rename_i alv;have afE:∀e e':MapEntry,ER φ e e'->(!seen.any (Nat.beq e.born))=(!seen'.contains e'.born):=by
     intro e e' he;rw[he.born]
     congr 1
     rw[<-Array.contains_toList,Ez,Bool.eq_iff_iff];simp
    have hleft:F2 (ER φ) (es.filter λe=>!seen.any (Nat.beq e.born)) (es'.filter λe=>!seen'.contains e.born).toList:=by
     rw[Array.toList_filter];exact h2.filter afE
    have Uq:seen'.isEmpty=seen.isEmpty:=by
     have:seen'.toList.isEmpty=seen.isEmpty:=by rw[Ez];simp
     rw[<-this];simp
    have alw:es'.isEmpty=es.isEmpty:=by
     have:es'.toList.isEmpty=es.isEmpty:=by generalize es'.toList=L at h2;cases h2<;>rfl
     rw[<-this];simp
    have hall:es'.all (λe=>decide (e.born>=last))=es.all (λe=>Nat.ble last e.born):=by
     rw[<-Array.all_toList];exact(h2.allEq λa b hab=>by rw[hab.born,Y8]).symm
    have Xr:(!seen'.isEmpty && !es'.isEmpty && es'.all (λe=>decide (e.born>=last)))=false:=by
     rw[Uq,alw,hall];exact alv
    split at hg
    .
     rename_i hnil;rw[hnil]at hleft;have hl0:es'.filter (λe=>!seen'.contains e.born)=#[]:=by
      generalize (es'.filter λe=>!seen'.contains e.born)=L at hleft;obtain⟨L⟩:=L;cases hleft;rfl
     refine⟨_,.tuple #[.bool false],h,w,hg,VR.tuple' (.cons (.bool false) .nil),hr,Ext.refl _ _ _,?_⟩;simp only[Instr.next,Sem.run_bind,nr hO,dO Xq,Result.andThen_ok,Xr,hl0];simp[Question.forced]
    .rename_i e0 Y_ afF;have Xs:=Df hfl Pn Y_ e0 hg;rw[afF]at hleft;have alx:pl.B<w.heap.size:=(hr.dom b pl hp).2;generalize hL:(es'.filter λe=>!seen'.contains e.born)=L at hleft;have hlen:=hleft.length;have Po:L.size=Y_.length+1:=by simpa using hlen.symm
     have Xt:∀e'∈L.toList,e'.born<since:=by
      intro e' he';obtain⟨i,hi⟩:=List.getElem?_of_mem he';have hi':i<L.toList.length:=(List.getElem?_eq_some_iff.1 hi).1;obtain⟨x,hx⟩:∃x,(e0::Y_)[i]? = some x:=⟨(e0::Y_)[i]'(by omega),List.getElem?_eq_getElem (by omega)⟩
      obtain⟨e2,h3,h4⟩:=hleft.get i x hx;rw[hi]at h3;cases h3;rw[h4.born];exact(Xs i x hx).1
     have f1:(L.filter λe=>decide (e.born<since))=L:=by
      apply Array.ext';rw[Array.toList_filter,List.filter_eq_self];intro e he;simpa using Xt e he
     have f2:(L.filter λe=>decide (e.born>=since))=#[]:=by
      apply Array.ext';rw[Array.toList_filter,List.filter_eq_nil_iff];intro e he;have:=Xt e he;simp;omega
     have hne:L.isEmpty=false:=by
      rw[Array.isEmpty_eq_false_iff];intro h0;rw[h0]at Po;simp at Po
     obtain⟨k,w1,hk,hw1,hch⟩:=xN (P:=P) (Y_.length+1) (by omega) w;obtain⟨x,hx⟩:∃x,(e0::Y_)[k]? = some x:=⟨(e0::Y_)[k]'(by simpa using hk),List.getElem?_eq_getElem (by simpa using hk)⟩
     obtain⟨e',xM,he'⟩:=hleft.get k x hx;rw[Array.getElem?_toList]at xM;obtain⟨Xo,hlo,hgood⟩:=Xs k x hx;have Pp:HR P φ h w1:=by
      rcases hw1 with rfl|rfl
      .exact hr
      .exact hr.drew
     have hx1:Ext φ φ h h w w1:=by
      rcases hw1 with rfl|rfl
      .exact Ext.refl _ _ _
      .exact(Ext.refl _ _ _).drew
     have hO1:w1.heap[pl.B]? = some (.mapIter (some mX.B) since seen' last):=by rcases hw1 with rfl|rfl<;>exact hO
     have Za:w1.heap=w.heap:=by rcases hw1 with rfl|rfl<;>rfl
     have lK:(setObj pl.B (.mapIter (some mX.B) since (seen'.push e'.born) clock)).run P w1=.ok () { w1 with heap:=w1.heap.setIfInBounds pl.B (.mapIter (some mX.B) since (seen'.push e'.born) clock) }:=by
      simp[setObj,Sem.run,hO1]
     have Xu:=Pp.Dc hlo (o:=.dD (some m) since (x.born::seen) clock) hp ⟨_,hb,trivial⟩
      (w':={ w1 with heap:=w1.heap.setIfInBounds pl.B (.mapIter (some mX.B) since (seen'.push e'.born) clock) }) (by simp)
      (λk hk=>Array.getElem?_setIfInBounds_ne (Ne.symm hk))
      (by
       show OR P φ _ pl ((w1.heap.setIfInBounds pl.B _)[pl.B]?)
       rw[Array.getElem?_setIfInBounds_self_of_lt (by rw[Za];exact alx)];exact⟨rfl,rfl,by simp[Ez,he'.born],.inr ⟨m,mX,rfl,hp',rfl⟩⟩) rfl rfl rfl (.inl trivial)
     refine⟨_,.tuple #[.bool true,e'.key,e'.val],_,_,hgood,VR.tuple' (.cons (.bool true) (.cons he'.key (.cons he'.val .nil))),Xu.1,hx1.trans Xu.2,?_⟩;simp only[Instr.next,Sem.run_bind,nr hO,dO Xq,Result.andThen_ok,Xr,hL,f1,f2];have hc:((if L.isEmpty=true then #[none]else #[])++(L++#[]).map some:Array (Option MapEntry))=L.map some:=by simp[hne]
     rw[hc];simp only[Bool.false_eq_true,if_false,Array.size_map,Po,Sem.run_bind,hch,Result.andThen_ok,Array.getElem?_map,xM,Option.map_some,lK];simp
theorem Dg(hfl:¬good fl)(hr:HR P φ h w){x x':Value}{V:Z7 β}(hg:good (kQ fl x h V))(hx:VR φ x x'):∃v v',good (V v h)/\VR φ v v'/\(Instr.entry x').run P w=.ok v' w:=by
 unfold kQ at hg;split at hg<;>try cases hfl hg
 cases hx with
 |ptr hp=>
  rename_i b pl;split at hg<;>try cases hfl hg
  rename_i m since stamp seen stepped hb;obtain⟨m',seen',hO,Ez,h4⟩:=hr.IV hb hp;rcases h4 with⟨h5,_⟩|⟨b1,mX,h5,hp',rfl⟩
  .cases h5
  .cases h5;split at hg<;>try cases hfl hg
   rename_i es clock hm;obtain⟨es',Xq,h2⟩:=hr.sq hm hp';split at hg<;>try cases hfl hg
   rename_i Ee;have Ee:=cz Ee;subst Ee;split at hg<;>try cases hfl hg
   rename_i e hf;have afG:seen'.back? = some stamp:=by
    have:seen'=(seen.reverse++[stamp]).toArray:=Array.ext' (by simpa using Ez);rw[this];simp
   have hfind:∃e',es'.find? (λe=>e.born == stamp)=some e'/\ER φ e e':=by
    rw[<-Array.find?_toList];clear Xq hm;generalize es'.toList=L at h2
    induction h2 with
    |nil=>simp at hf
    |@cons a c l m hac _ ih=>
     simp only[List.find?_cons]at hf ⊢;rw[Y7]at hf;rw[hac.born];split at hf
     .rename_i hq;cases hf;exact⟨_,rfl,hac⟩
     .exact ih hf
   obtain⟨e',hf',he'⟩:=hfind;exact⟨_,.tuple #[e'.key,e'.val],hg,VR.tuple' (.cons he'.key (.cons he'.val .nil)),by simp[Instr.entry,nr hO,dO Xq,afG,hf']⟩
theorem f_(hfl:¬good fl)(hr:HR P φ h w){size n:Nat}{x x':Value}{V:List Value->β}(hg:good (d_ fl h size n x V))(hx:VR φ x x')(hsl:∃a m c,x=.slice a m c/\n<=m):∃l l',good (V l)/\F2 (VR φ) l l'/\l.length=n*size/\∀w1:World,w1.heap=w.heap->(Builtin.firstCells size n x').run P w1=.ok l'.toArray w1:=by
 obtain⟨a,m,c,rfl,hnm⟩:=hsl;unfold d_ at hg;split at hg
 .rename_i h0;have h0:n*size=0:=h0;refine⟨[],[],hg,.nil,h0.symm,λw1 hw1=>?_⟩;cases hx<;>simp[Builtin.firstCells,h0,loadCells,loadCellsFrom]
 .rename_i k hk;have hk:n*size=k+1:=hk;split at hg<;>try cases hfl hg
  rename_i b o _ _ Ur;cases Ur;split at hg<;>try cases hfl hg
  .rename_i nn cc e op hb;split at hg<;>try cases hfl hg
   rename_i hle;have hle:=cF hle;obtain⟨l,h1,h2,h3⟩:=mA hfl _ _ _ _ _ hg;simp only[List.append_nil]at h1;have fin:∀pl,φ b=some pl->∃l',F2 (VR φ) l l'/\∀w1:World,w1.heap=w.heap->(loadCells ⟨pl.B,o,none⟩ (n*size)).run P w1=.ok l'.toArray w1:=by
    intro pl hp;obtain⟨l',h4,h5⟩:=hr.Kq hb hp (l:=l) (off:=o) (by rw[h2];exact hle) h3;exact⟨l',h4,λw1 hw1=>by have h5:=h5 w1 hw1;rw[h2]at h5;rw[hk];exact h5⟩
   cases hx with
   |slice hp hn hc=>
    obtain⟨l',h4,h5⟩:=fin _ hp;exact⟨l,l',h1,h4,by rw[h2,hk],λw1 hw1=>by simpa[Builtin.firstCells]using h5 w1 hw1⟩
   |bT hp hn hc=>
    obtain⟨l',h4,h5⟩:=fin _ hp;exact⟨l,l',h1,h4,by rw[h2,hk],λw1 hw1=>by simpa[Builtin.firstCells]using h5 w1 hw1⟩
   |cU _ a' c=>
    have:n=0:=by omega
    subst this;simp at hk
  .rename_i nn cc e hb;split at hg<;>try cases hfl hg
   rename_i hle;have hle:=cF hle;obtain⟨l,h1,h2,h3⟩:=mA hfl _ _ _ _ _ hg;simp only[List.append_nil]at h1;have fin:∀pl,φ b=some pl->∃l',F2 (VR φ) l l'/\∀w1:World,w1.heap=w.heap->(loadCells ⟨pl.B,o,none⟩ (n*size)).run P w1=.ok l'.toArray w1:=by
    intro pl hp;obtain⟨l',h4,h5⟩:=hr.Kr hb hp (l:=l) (off:=o) (by rw[h2];exact hle) h3;exact⟨l',h4,λw1 hw1=>by have h5:=h5 w1 hw1;rw[h2]at h5;rw[hk];exact h5⟩
   cases hx with
   |slice hp hn hc=>
    obtain⟨l',h4,h5⟩:=fin _ hp;exact⟨l,l',h1,h4,by rw[h2,hk],λw1 hw1=>by simpa[Builtin.firstCells]using h5 w1 hw1⟩
   |bT hp hn hc=>
    obtain⟨l',h4,h5⟩:=fin _ hp;exact⟨l,l',h1,h4,by rw[h2,hk],λw1 hw1=>by simpa[Builtin.firstCells]using h5 w1 hw1⟩
   |cU _ a' c=>
    have:n=0:=by omega
    subst this;simp at hk
theorem EA(hfl:¬good fl){e s:Nat}{ty:TypeId}{ts:Array TypeId}(ht:ts[0]? = some t)(hu:P.underlying t=some (.slice e))(hs:fD P e=some s)(hr:HR P φ h w){d d' x x':Value}{V:Z7 β}(hg:good (Ei fl s d x h V))(hd:VR φ d d')(hx:VR φ x x'):∃v h' w',good (V v h')/\VR φ v v/\HR P φ h' w'/\Ext φ φ h h' w w'/\(Builtin.copy_ ts ty #[d',x']).run P w=.ok v w':=by
 unfold Ei at hg;split at hg<;>try cases hfl hg
 rename_i base dLen dCap;split at hg<;>try cases hfl hg
 rename_i a n c;rw[b6]at hg;obtain⟨base',Xv,hd'⟩:∃base' Xv,d'=.slice base' dLen Xv:=by cases hd<;>exact⟨_,_,rfl⟩
 obtain⟨a',c',hx'⟩:∃a' c',x'=.slice a' n c':=by cases hx<;>exact⟨_,_,rfl⟩
 split at hg
 .rename_i h0;have hf:(Builtin.firstCells s 0 x').run P w=.ok #[] w:=by rw[hx'];cases a'<;>simp[Builtin.firstCells,loadCells,loadCellsFrom]
  have h0':Nat.min n dLen=0:=h0;refine⟨_,h,w,hg,.int _ _,hr,Ext.refl _ _ _,?_⟩;rw[hx']at hf;subst hd';subst hx';cases base'<;>simp[Builtin.copy_,ht,aU hu,cD hs,Builtin.lenOf,h0',hf,storeCells,goInt]
 .rename_i k hk;split at hg<;>try cases hfl hg
  rename_i b o;obtain⟨l,l',g1,g2,g3,g4⟩:=f_ hfl hr hg hx ⟨_,_,_,rfl,Nat.min_le_left _ _⟩;split at g1<;>try exact absurd g1 hfl
  rename_i nn cc e' op hb;obtain⟨k1,k2,k3⟩:=kG hfl _ _ _ _ _ g1;obtain⟨hlo,k3⟩:=bI hfl k3;have fin:∀pl,φ b=some pl->base'=some ⟨pl.B,o,none⟩->∃v h' w',good (V v h')/\VR φ v v/\HR P φ h' w'/\Ext φ φ h h' w w'/\(Builtin.copy_ ts ty #[d',x']).run P w=.ok v w':=by
   intro pl hp hbe;obtain⟨w',j1,j2,j3⟩:=hr.storeAt hlo hb hp g2 k1 k2;refine⟨_,_,w',k3,.int _ _,j2,j3,?_⟩;have g5:=g4 w rfl;clear g4;rw[hx']at g5;subst hd';subst hx';subst hbe;have g4':(Builtin.firstCells s (Nat.min n dLen) (.slice a' n c')).run P w=.ok l'.toArray w:=g5;simp[Builtin.copy_,ht,aU hu,cD hs,Builtin.lenOf,g4',j1,goInt]
  cases hd with
  |slice hp hn hc=>cases hd';exact fin _ hp rfl
  |bT hp hn hc=>cases hd';exact fin _ hp rfl
  |cU a1 a2 c2=>have:Nat.min n 0=0:=Nat.min_zero n;rw[this]at hk;cases hk
theorem sU(hfl:¬good fl){e:Nat}{z:List Value}{ty:TypeId}{ts:Array TypeId}(ht:ts[0]? = some t)(hu:P.underlying t=some (.slice e))(hz:zeroOf P e=some z)(hr:HR P φ h w){x x':Value}{V:Z7 β}(hg:good (kP fl z x h V))(hx:VR φ x x'):∃h' w',good (V (.tuple #[]) h')/\HR P φ h' w'/\Ext φ φ h h' w w'/\(Builtin.clear_ ts ty #[x']).run P w=.ok (.tuple #[]) w':=by
 obtain⟨v,inf,hi,Pj,hzl,Y2⟩:=ir hz;have Zb:(Builtin.clear_ ts ty #[x']).run P w=.ok (.tuple #[]) w->good (V (.tuple #[]) h)->∃h' w',good (V (.tuple #[]) h')/\HR P φ h' w'/\Ext φ φ h h' w w'/\(Builtin.clear_ ts ty #[x']).run P w=.ok (.tuple #[]) w':=
  λh1 h2=>⟨h,w,h2,hr,Ext.refl _ _ _,h1⟩
 unfold kP at hg;split at hg
 .cases hx;exact Zb (by simp[Builtin.clear_,ht,aU hu]) hg
 .refine Zb ?_ hg;cases hx<;>simp[Builtin.clear_,ht,aU hu]
 .cases hx;exact Zb (by simp[Builtin.clear_,ht,aU hu]) hg
 .rename_i b o n c hn0;split at hg<;>try cases hfl hg
  rename_i nn cc e' op hb;obtain⟨k1,k2,k3⟩:=kG hfl _ _ _ _ _ hg;obtain⟨hlo,k3⟩:=bI hfl k3;have hzz:(Builtin.zeroCells v.cells n).toList=a_ z n:=by
   unfold Builtin.zeroCells;rw[t_ v.cells n _ rfl,hzl]
  have fin:∀pl c',φ b=some pl->x'=.slice (some ⟨pl.B,o,none⟩) n c'->∃h' w',good (V (.tuple #[]) h')/\HR P φ h' w'/\Ext φ φ h h' w w'/\(Builtin.clear_ ts ty #[x']).run P w=.ok (.tuple #[]) w':=by
   intro pl c' hp hxe;obtain⟨w',j1,j2,j3⟩:=hr.storeAt hlo hb hp (jh (φ:=φ) (j8 Y2 n)) k1 k2;refine⟨_,w',k3,j2,j3,?_⟩;subst hxe;cases n with
   |zero=>exact(hn0 rfl).elim
   |succ n=>simp[Builtin.clear_,ht,aU hu,iM hi Pj,hzz,j1]
  cases hx with
  |slice hp hn hc=>exact fin _ _ hp rfl
  |bT hp hn hc=>exact fin _ _ hp rfl
  |cU a1 a2 c2=>exact(hn0 rfl).elim
 .split at hg<;>try cases hfl hg
  rename_i r es clock hb;obtain⟨hlo,hg⟩:=bI hfl hg;cases hx with
  |map hp=>
   rename_i pl;obtain⟨es',hO,h2⟩:=hr.sq hb hp;obtain⟨w',j1,j2,j3⟩:=hr.yQ hlo (es1:=[]) (IT:=#[]) (clock':=clock) hb hp .nil;exact⟨_,w',hg,j2,j3,by simp[Builtin.clear_,ht,aU hu,dO hO,j1]⟩
 .exact absurd hg hfl
end Go.Vai

namespace Go.Vai
open Go
variable {β:Type}{fl:β}{good:β->Prop}{P:Program}{φ:ee}{h:Heap}{w:World}{t:TypeId}
inductive Comes(P:Program)(ts:Array TypeId)(e size:Nat)(n:Nat)(new':List Value)(w:World):Value->Prop where
 | sl {xt:TypeId} {xd:TypeDesc} {a:Option Addr} {c:Nat} (h1:ts[1]? = some xt) (h2:P.underlying xt=some xd) (h3:sL xd=false)
   (h4:∀w1:World,w1.heap=w.heap->(Builtin.firstCells size n (.slice a n c)).run P w1=.ok new'.toArray w1):Comes P ts e size n new' w (.slice a n c)
 | mk {xt:TypeId} {k k':IntKind} {inf:TypeInfo} {v:Value} (h1:ts[1]? = some xt) (h2:P.underlying xt=some (.int k')) (h3:n<=1000000) (h4:P.info? e=some inf) (h5:inf.zero=some v)
   (h6:inf.bytes<=10000) (h7:Builtin.zeroCells v.cells n=new'.toArray) (h8:n*size=0->new'=[]):Comes P ts e size n new' w (.int k (n:Int))
theorem EB(hfl:¬good fl){e size:Nat}{xt:TypeId}{xd:TypeDesc}{inf:TypeInfo}{ts:Array TypeId}{z:List Value}(hz:O2 P e=some (z,size))(hi:P.info? e=some inf)(hb:inf.bytes<=10000)(hxt:ts[1]? = some xt)(hxd:P.underlying xt=some xd)(hr:HR P φ h w){x x':Value}{V:Nat->List Value->β}(hg:good (nh fl (sL xd) z h size x V))(hx:VR φ x x'):∃n new new',good (V n new)/\F2 (VR φ) new new'/\new.length=n*size/\Comes P ts e size n new' w x':=by
 obtain⟨hz1,yP,Pk,MY⟩:=lW hz;obtain⟨v,Y5,hi',Pj,hzl,Y2⟩:=ir hz1;rw[hi]at hi';cases hi';unfold nh at hg;split at hg
 .rename_i k n hm;split at hg<;>try cases hfl hg
  rename_i hle;have hle:=cF hle;cases hx;have hzz:Builtin.zeroCells v.cells n=(a_ z n).toArray:=by
   unfold Builtin.zeroCells;rw[t_ v.cells n _ rfl,hzl]
  obtain⟨k',rfl⟩:∃k',xd=.int k':=by cases xd<;>first|exact⟨_,rfl⟩|cases hm
  refine⟨n,_,_,hg,jh (j8 Y2 n),by rw[qz,Pk],.mk hxt hxd hle hi Pj hb hzz ?_⟩;intro h0;have hn0:n=0:=by rcases Nat.mul_eq_zero.1 h0 with h|h<;>omega
  subst hn0;rfl
 .rename_i a n c hm;obtain⟨l,l',g1,g2,g3,g4⟩:=f_ hfl hr hg hx ⟨_,_,_,rfl,Nat.le_refl _⟩;obtain⟨a',c',rfl⟩:∃a' c',x'=.slice a' n c':=by cases hx<;>exact⟨_,_,rfl⟩
  exact⟨n,l,l',g1,g2,g3,.sl hxt hxd hm g4⟩
 .exact absurd hg hfl
theorem j_{e size n sLen sCap:Nat}{ty:TypeId}{ts:Array TypeId}{base:Option Addr}{x':Value}{new':List Value}(ht:ts[0]? = some t)(hu:P.underlying t=some (.slice e))(hs:fD P e=some size)(hc:Comes P ts e size n new' w x')(hle:sLen+n<=sCap){w':World}(hst:∀a,base=some a->(storeCells (a.add (sLen*size)) new').run P w=.ok () w')(hno:base=none->w'=w):(Builtin.append_ ts ty #[.slice base sLen sCap,x']).run P w=.ok (.slice base (sLen+n) sCap) w':=by
 cases hc with
 |@sl xt xd a c h1 h2 h3 h4=>
  have h4:=h4 w rfl;have key:∀d,P.underlying xt=some d->sL d=false->(Builtin.append_ ts ty #[.slice base sLen sCap,.slice a n c]).run P w=.ok (.slice base (sLen+n) sCap) w':=by
   intro d hd hdf;unfold Builtin.append_;cases d<;>first
    |(cases hdf;done)
    | (simp only[ht,h1,List.getElem?_toArray,List.getElem?_cons_zero,List.getElem?_cons_succ,Sem.run_bind,aU hu,aU hd,Result.andThen_ok,cD hs,Sem.run_pure,Bool.false_eq_true,if_false,
      Builtin.lenOf,hle,Bool.not_false,if_true,h4]
       cases base with
       |none=>rw[hno rfl];simp only[Sem.run_pure]
       |some b=>simp only[Sem.run_bind,hst b rfl,Result.andThen_ok,Sem.run_pure])
  exact key xd h2 h3
 |@mk xt k k' inf v h1 h2 h3 h4 h5 h6 h7 h8=>
  have w1:IntKind.i64.wrap (n:Int)=n:=IntWalk.i64_in _ ⟨by omega,by omega⟩;have c1:¬((n:Int)<0):=by omega
  have c2:¬((n:Int)*(inf.bytes:Int) > 2 ^ 48):=by
   have:n*inf.bytes<=1000000*10000:=Nat.mul_le_mul h3 h6;have h2:(n:Int)*(inf.bytes:Int)=((n*inf.bytes:Nat):Int):=by simp
   rw[h2];omega
  have hA:(asInt (.int k (n:Int))).run P w=.ok (n:Int) w:=by simp[asInt,asIntOf]
  have hnew:(if n*size=0 then pure #[]else do pure (Builtin.zeroCells (<-zeroValue e).cells n):Sem (Array Value)).run P w=.ok new'.toArray w:=by
   by_cases h0:n*size=0
   .simp only[h0,if_true,h8 h0];rfl
   .simp[h0,iM h4 h5,h7]
  simp only[Sem.run_ite,Sem.run_bind,Sem.run_pure]at hnew;unfold Builtin.append_;simp only[ht,h1,List.getElem?_toArray,List.getElem?_cons_zero,List.getElem?_cons_succ,Sem.run_bind,aU hu,aU h2,Result.andThen_ok,cD hs,Sem.run_pure,if_true,hA,w1,c1,if_false,
   qy h4,c2,Int.toNat_natCast,hle,Bool.not_true,Bool.false_eq_true,Sem.run_ite,hnew]
  cases base with
  |none=>rw[hno rfl];simp
  |some b=>simp[hst b rfl]
theorem Pq{need old:Nat}{e:TypeId}(tp:Nat):need<=(Question.appendCap need old e).cut tp:=by simp[Question.cut]
set_option maxHeartbeats 1000000 in
theorem oI{e size n sLen sCap:Nat}{ty:TypeId}{ts:Array TypeId}{base:Option Addr}{x' v:Value}{new' old':List Value}{inf:TypeInfo}(ht:ts[0]? = some t)(hu:P.underlying t=some (.slice e))(hs:fD P e=some size)(hi:P.info? e=some inf)(hz:inf.zero=some v)(hb:inf.bytes<=10000)(hc:Comes P ts e size n new' w x')(hlt:sCap<sLen+n)(sx:sLen+n<=1000000000)(hold:∀w1:World,w1.heap=w.heap->(Builtin.firstCells size sLen (.slice base sLen sCap)).run P w1=.ok old'.toArray w1):∃dn rest,sLen+n<=dn/\rest.length=(dn-(sLen+n))*v.cells.size/\(Builtin.append_ ts ty #[.slice base sLen sCap,x']).run P w =
   .ok (.slice (some ⟨w.heap.size,0,none⟩) (sLen+n) dn) (w.drew.alloc (.cells (old'++new'++rest).toArray e (0,0))):=by
 have hold:=hold w.drew rfl
 let dn:=(Question.appendCap (sLen+n) sCap e).cut (w.tape w.drawn (.appendCap (sLen+n) sCap e))
 refine⟨dn,(Builtin.zeroCells v.cells (dn-(sLen+n))).toList,Pq _,by simp[size_zeroCells],?_⟩;have xL:¬(sLen+n<=sCap):=by omega
 have hn0:¬(((sLen+n:Nat):Int) > IntKind.i64.max):=by rw[IntKind.max_i64];omega
 have hn3:¬(Builtin.nextslicecap (sLen+n) sCap*inf.bytes > 2 ^ 48):=by
  have h5:=nextslicecap_le hlt;have:Builtin.nextslicecap (sLen+n) sCap*inf.bytes<=(2*1000000000)*10000:=Nat.mul_le_mul (by omega) hb;omega
 have r6:∀Z:Array Value,old'.toArray++new'.toArray++Z=(old'++new'++Z.toList).toArray:=λZ=>Array.ext' (by simp);have hz1:∀w1:World,(zeroValue e).run P w1=.ok v w1:=λw1=>iM hi hz;have hi1:∀w1:World,(typeInfo e).run P w1=.ok inf w1:=λw1=>qy hi;cases hc with
 |@sl xt xd a c h1 h2 h3 h4=>
  have h4:=h4 w.drew rfl;have hxf:sL xd=false:=h3
  have key:∀d,P.underlying xt=some d->sL d=false->(Builtin.append_ ts ty #[.slice base sLen sCap,.slice a n c]).run P w =
    .ok (.slice (some ⟨w.heap.size,0,none⟩) (sLen+n) dn) (w.drew.alloc (.cells (old'++new'++(Builtin.zeroCells v.cells (dn-(sLen+n))).toList).toArray e (0,0))):=by
   intro d hd hdf;unfold Builtin.append_;cases d<;>first
    |(cases hdf;done)
    | (simp only[ht,h1,List.getElem?_toArray,List.getElem?_cons_zero,List.getElem?_cons_succ,Sem.run_bind,aU hu,aU hd,Result.andThen_ok,cD hs,Sem.run_pure,Bool.false_eq_true,if_false,
      Builtin.lenOf,xL,hi1,hn0,false_and,hn3,run_choose,Question.forced,World.drew_eq,run_askRoom,hold,Bool.not_false,if_true,h4,hz1,newRow,run_newObj]
       rw[r6];rfl)
  exact key xd h2 hxf
 |@mk xt k k' Y5 v' h1 h2 h3 h4 h5 h6 h7 h8=>
  rw[hi]at h4;cases h4;rw[hz]at h5;cases h5;have w1:IntKind.i64.wrap (n:Int)=n:=IntWalk.i64_in _ ⟨by omega,by omega⟩;have c1:¬((n:Int)<0):=by omega
  have c2:¬((n:Int)*(inf.bytes:Int) > 2 ^ 48):=by
   have:n*inf.bytes<=1000000*10000:=Nat.mul_le_mul h3 h6;have h2:(n:Int)*(inf.bytes:Int)=((n*inf.bytes:Nat):Int):=by simp
   rw[h2];omega
  have hA:(asInt (.int k (n:Int))).run P w=.ok (n:Int) w:=by simp[asInt,asIntOf]
  have hnew:(if n*size=0 then pure #[]else do pure (Builtin.zeroCells (<-zeroValue e).cells n):Sem (Array Value)).run P w.drew=.ok new'.toArray w.drew:=by
   by_cases h0:n*size=0
   .simp only[h0,if_true,h8 h0];rfl
   .simp[h0,hz1,h7]
  simp only[Sem.run_ite,Sem.run_bind,Sem.run_pure]at hnew;simp only[hz1,Result.andThen_ok]at hnew;unfold Builtin.append_;simp only[ht,h1,List.getElem?_toArray,List.getElem?_cons_zero,List.getElem?_cons_succ,Sem.run_bind,aU hu,aU h2,Result.andThen_ok,cD hs,Sem.run_pure,if_true,hA,w1,c1,if_false,
   hi1,c2,Int.toNat_natCast,xL,hn0,false_and,hn3,run_choose,Question.forced,World.drew_eq,run_askRoom,hold,Bool.not_true,Bool.false_eq_true,Sem.run_ite,hnew,hz1,newRow,run_newObj]
  rw[r6];rfl
theorem Us(w:World){old old' new new' rest:List Value}{e size dn sLen n:Nat}(hs:fD P e=some size)(hz:0<size)(h1:F2 (VR φ) old old')(h2:F2 (VR φ) new new')(l1:old.length=sLen*size)(l2:new.length=n*size)(hle:sLen+n<=dn)(hr:rest.length=(dn-(sLen+n))*size)(hlen:(old++new).length<=1000000000000):OR P φ (.cells (old++new).length (lay (old++new) .nil 0) e true) ⟨w.heap.size,dn*size,size⟩ (some (.cells (old'++new'++rest).toArray e (0,0))):=by
 refine yN (h1.append h2) hlen e _ rest true λ_=>⟨?_,hs,hz⟩
 simp only[List.length_append,hr,<-h1.length,<-h2.length,l1,l2];rw[<-Nat.add_mul,<-Nat.add_mul]
 congr 1
 omega
theorem jA(hfl:¬good fl){b o n m c nn e size:Nat}{cc:T Value}{op:Bool}{V:List Value->β}(hb:h.bl.get b=some (.cells nn cc e op))(hg:good (d_ fl h size n (.slice (some ⟨b,o,none⟩) m c) V)):∃l,good (V l)/\l.length=n*size/\(l≠[]->o+l.length<=nn)/\∀j v,l[j]? = some v->cc.get (o+j)=some v:=by
 unfold d_ at hg;split at hg
 .rename_i h0;have h0:n*size=0:=h0;exact⟨[],hg,h0.symm,λhh=>absurd rfl hh,λj v e=>by simp at e⟩
 .rename_i k hk;have hk:n*size=k+1:=hk;simp only[hb]at hg;split at hg<;>try cases hfl hg
  rename_i hle;have hle:=cF hle;obtain⟨l,h1,h2,h3⟩:=mA hfl _ _ _ _ _ hg;simp only[List.append_nil]at h1;exact⟨l,h1,by rw[h2,hk],λ_=>by rw[h2];exact hle,h3⟩
theorem HR.Pr(hr:HR P φ h w){b nn e:Nat}(hlo:h.lo<=b){c:T Value}{op:Bool}{pl:Pl}{ob:bD}{w':World}(hb:h.bl.get b=some (.cells nn c e op))(hp:φ b=some pl)(hn:h.nx<=h.nx)(hsz:w'.heap.size=w.heap.size)(Ew:∀k,k≠pl.B->w'.heap[k]? = w.heap[k]?)(ho:OR P φ ob pl w'.heap[pl.B]?)(hd:OR P φ (.dead nn e) pl w'.heap[pl.B]?)(ht:w'.tape=w.tape)(hos:w'.os=w.os)(hout:w'.output=w.output)(hlv:ob.live)(Kv:w.drawn<=w'.drawn:=by exact Nat.le_refl _):HR P (iD φ h.nx pl) ⟨h.nx+1,(h.bl.aV b (.dead nn e)).aV h.nx ob,h.lo⟩ w'/\Ext φ (iD φ h.nx pl) h ⟨h.nx+1,(h.bl.aV b (.dead nn e)).aV h.nx ob,h.lo⟩ w w':=by
 obtain⟨Pp,hx1⟩:=hr.Dc hlo (o:=.dead nn e) hp ⟨_,hb,trivial⟩ hsz Ew hd ht hos hout (.inr λ_=>tX ho hlv) Kv;have hnone:φ h.nx=none:=by
  cases hq:φ h.nx with
  |none=>rfl
  |some pl=>have:=(hr.dom _ _ hq).1;omega
 have hs:Small h.nx:=by unfold Small;omega
 have Bx:=(hr.dom b pl hp).1;have iH:∀x,x<h.nx->((h.bl.aV b (.dead nn e)).aV h.nx ob).get x=(h.bl.aV b (.dead nn e)).get x:=λx hx=>T.gW _ _ hs (by unfold Small;omega) (by omega);have hsub:=rC (pl:=pl) hnone;have alone:∀x o px,(h.bl.aV b (.dead nn e)).get x=some o->o.live->φ x=some px->px.B≠pl.B:=by
  intro x o px hx hl hpx hB;have Xp:=(hr.dom x px hpx).1;rw[T.nk _ _ (by unfold Small;omega) (by unfold Small;omega)]at hx;split at hx
  .cases hx;exact hl
  .rename_i hne;exact hne (hr.inj x b o _ px pl hx hb hl trivial hpx hp hB).symm
 constructor
 .refine⟨?_,?_,?_,?_,?_,Nat.le_succ_of_le hr.lo⟩
  .intro x o px hx hpx;unfold iD at hpx;split at hpx
   .rename_i he;subst he;cases hpx;rw[T.ah]at hx;cases hx;exact ho.mono hsub
   .have Xp:=(hr.dom x px hpx).1;exact(Pp.obj x o px ((iH x Xp)▸hx) hpx).mono hsub
  .intro x px hpx;unfold iD at hpx;split at hpx
   .rename_i he;subst he;cases hpx;exact⟨Nat.lt_succ_self _,by rw[hsz];exact(hr.dom b pl hp).2⟩
   .have:=Pp.dom x px hpx;exact⟨Nat.lt_succ_of_lt this.1,this.2⟩
  .intro x o hsx hx
   show x<h.nx+1
   rw[T.nk _ _ hs hsx]at hx;split at hx
   .omega
   .have:=Pp.keys x o hsx hx;exact Nat.lt_succ_of_lt this
  .show h.nx+1<h.nx+1+1;omega
  .intro x x' o1 o2 p1 p2 g1 g2 l1 l2 e1 e2 eB;unfold iD at e1 e2;split at e1<;>split at e2
   .omega
   .rename_i q1 q2;cases e1;have Xp:=(hr.dom x' p2 e2).1;exact absurd eB.symm (alone x' o2 p2 ((iH x' Xp)▸g2) l2 e2)
   .rename_i q1 q2;cases e2;have Xp:=(hr.dom x p1 e1).1;exact absurd eB (alone x o1 p1 ((iH x Xp)▸g1) l1 e1)
   .have n1:=(hr.dom x p1 e1).1;have n2:=(hr.dom x' p2 e2).1;exact Pp.inj x x' o1 o2 p1 p2 ((iH x n1)▸g1) ((iH x' n2)▸g2) l1 l2 e1 e2 eB
 .refine⟨hsub,?_,Nat.le_succ _,hx1.size,hx1.Bs,?_,ht,hos,hout,hx1.fz,rfl,λx hx=>(iH x (Nat.lt_of_lt_of_le hx hr.lo)).trans (hx1.IB x hx),hx1.IC,Kv⟩
  .intro x px e0 e1;unfold iD at e1;split at e1
   .rename_i he;subst he;cases e1;exact⟨Nat.le_refl _,.inr ⟨b,pl,hp,rfl⟩⟩
   .rw[e0]at e1;cases e1
  .intro x hx hpx
   show((h.bl.aV b (.dead nn e)).aV h.nx ob).get x=_
   rw[iH x hx];exact hx1.B9 x hx hpx
theorem ud{l l':List Value}(g:F2 (VR φ) l l')(h:l.all dJ=true):∀v'∈l',v'.oneCell'=true:=by
 induction g with
 |nil=>intro v' wS;cases wS
 |cons hv _ ih=>
  simp only[List.all_cons,Bool.and_eq_true]at h;intro v' wS;simp only[List.mem_cons]at wS;rcases wS with rfl|wS
  .exact Ku h.1 hv
  .exact ih h.2 v' wS
set_option maxHeartbeats 2000000 in
theorem sy(hfl:¬good fl){e size:Nat}{ty xt:TypeId}{xd:TypeDesc}{inf:TypeInfo}{ts:Array TypeId}{z:List Value}(ht:ts[0]? = some t)(hu:P.underlying t=some (.slice e))(hz:O2 P e=some (z,size))(hi:P.info? e=some inf)(hby:inf.bytes<=10000)(hxt:ts[1]? = some xt)(hxd:P.underlying xt=some xd)(hr:HR P φ h w){s s' x x':Value}{V:Z7 β}(hg:good (bR fl e size z (sL xd) s x h V))(Xw:VR φ s s')(hx:VR φ x x'):∃φ' v v' h' w',good (V v h')/\VR φ' v v'/\HR P φ' h' w'/\Ext φ φ' h h' w w'/\(Builtin.append_ ts ty #[s',x']).run P w=.ok v' w':=by
 obtain⟨hz1,yP,Pk,MY⟩:=lW hz;obtain⟨v,Y5,hi',Pj,hzl,Y2⟩:=ir hz1;rw[hi]at hi';cases hi';have hvs:v.cells.size=size:=by rw[<-Pk,hzl];simp
 unfold bR at hg;split at hg<;>try cases hfl hg
 rename_i base sLen sCap;obtain⟨n,new,new',g1,g2,g3,g4⟩:=EB hfl hz hi hby hxt hxd hr hg hx;have Pt:=g2.length;obtain⟨base',nu,hs'⟩:∃base' nu,s'=.slice base' sLen nu:=by cases Xw<;>exact⟨_,_,rfl⟩
 have hle':sLen<=nu:=by subst hs';cases Xw<;>first|assumption|omega
 have fresh:∀{h1:Heap}{w1:World}{old old':List Value}{κ1:Z7 β},HR P φ h1 w.drew->Ext φ φ h h1 w w.drew->sLen+n<=1000000000->nu<sLen+n->
   F2 (VR φ) old old'->old.length=sLen*size->(∀w1:World,w1.heap=w.heap->(Builtin.firstCells size sLen s').run P w1=.ok old'.toArray w1)->
   good (dF fl (old++new) e true h1 λb h=>V (.slice (some ⟨b,0,none⟩) (sLen+n) aS) h)->
   ∃φ' v v' h' w',good (V v h')/\VR φ' v v'/\HR P φ' h' w'/\Ext φ φ' h h' w w'/\(Builtin.append_ ts ty #[s',x']).run P w=.ok v' w':=by
  intro h1 w1 old old' κ1 Pp hx1 sx hlt Ut ny r7 hgood;unfold dF at hgood;obtain⟨k1,k2⟩:=kF hfl hgood;obtain⟨k3,k4⟩:=dA hfl k2;rw[hs']at r7;obtain⟨dn,rest,j1,j2,j3⟩:=oI (ty:=ty) ht hu yP hi Pj hby g4 hlt sx r7;rw[hvs]at j2;have MZ:=Us (P:=P) (φ:=φ) w.drew (dn:=dn) yP MY Ut g2 ny g3 j1 j2 k1;obtain⟨m1,m2⟩:=Pp.fresh k3 (dn*size) size MZ trivial;refine⟨_,_,_,_,_,k4,.bT (eO _ _ _) j1 (by simp),m1,hx1.trans m2,by rw[hs'];exact j3⟩
 split at g1
 .
  refine⟨φ,_,s',h,w,g1,Xw,hr,Ext.refl _ _ _,?_⟩;have hn0:new=[]:=List.eq_nil_of_length_eq_zero (by rw[g3];omega);subst hn0;cases g2;rw[hs'];exact j_ ht hu yP g4 (by omega) (w':=w) (λa _=>by simp[storeCells]) (λ_=>rfl)
 .rename_i n;rw[b6]at g1;split at g1<;>try exact absurd g1 hfl
  rename_i sx;have sx:=cF sx;have sx:sLen+(n+1)<=1000000000:=sx;split at g1
  .
   split at g1<;>try exact absurd g1 hfl
   rename_i hc0 hl0;have hc0:=cz hc0;have hl0:=cz hl0;subst hc0;subst hl0;cases Xw with
   |fQ _=>
    cases hs';refine fresh (w1:=w) (κ1:=V) (old:=[]) (old':=[]) hr.drew (Ext.refl _ _ _).drew sx (by omega) .nil (by simp) (λw1 _=>by simp[Builtin.firstCells]) (by simpa using g1)
  .rename_i b o;split at g1<;>try exact absurd g1 hfl
   rename_i EC;have EC:=oE EC;split at g1
   .
    rename_i hop;have hop:=cz hop;subst hop;obtain⟨pl,hp,hcap,rfl⟩:∃pl,φ b=some pl/\nu*pl.e+o=pl.sz/\base'=some ⟨pl.B,o,none⟩:=by
     subst hs';cases Xw with
     |slice hp hn hc=>exact absurd hc (Nat.lt_irrefl _)
     |bT hp hn hc=>exact⟨_,hp,hc,rfl⟩
    split at g1<;>try exact absurd g1 hfl
    rename_i nn cc e' hb;obtain⟨C,hC,xL,hn2,Uu,hcell⟩:=hr.rowAt hb hp;obtain⟨o1,o2,o3⟩:=Uu rfl;split at g1<;>try exact absurd g1 hfl
    .
     rename_i hee hfit;have hee:=cz hee;subst hee;have hfit:o+(sLen+(n+1))*size<=nn:=cF hfit;have hpe:pl.e=size:=by rw[yP]at o2;exact(Option.some.inj o2).symm
     have hroom:sLen+(n+1)<=nu:=by
      rw[hpe]at hcap;have h1:(sLen+(n+1))*size<=nu*size:=by omega
      exact Nat.le_of_mul_le_mul_right h1 MY
     obtain⟨k1,k2,k3⟩:=kG hfl _ _ _ _ _ g1;obtain⟨hlo,k3⟩:=bI hfl k3;obtain⟨w',j1,j2,j3⟩:=hr.storeAt hlo hb hp g2 k1 k2;refine⟨φ,_,.slice (some ⟨pl.B,o,none⟩) (sLen+(n+1)) nu,_,w',k3,.bT hp hroom hcap,j2,j3,?_⟩;rw[hs'];exact j_ ht hu yP g4 hroom (λa ha=>by cases ha;rw[jy];exact j1) (λhh=>by cases hh)
    .
     rename_i hee hfit;have hee:=cz hee;subst hee;have hfit:=Xn hfit;split at g1<;>try exact absurd g1 hfl
     rename_i ho0;simp only[Bool.and_eq_true]at ho0;obtain⟨ho0,ue⟩:=ho0;have ho0:=cz ho0;subst ho0;have hpe:pl.e=size:=by rw[yP]at o2;exact(Option.some.inj o2).symm
     have ED:=λhlo:h.lo<=b=>hr.Dc hlo (w':=w) (o:=.dead nn e) hp ⟨_,hb,trivial⟩ rfl (λ_ _=>rfl) (by rw[hC];exact⟨by omega,hn2,o2,o3⟩) rfl rfl rfl (.inr id);by_cases hroom:sLen+(n+1)<=nu
     ·obtain⟨old,k1,k3,k5,k6⟩:=jA hfl hb g1;obtain⟨hlo,k1⟩:=bI hfl k1;unfold dF at k1;obtain⟨m1,m2⟩:=kF hfl k1;obtain⟨m3,m4⟩:=dA hfl m2;have hone:∀v'∈new',v'.oneCell'=true:=ud g2 ue;have afI:sLen*size+new'.length<=C.size:=by
       rw[o1,<-hcap,hpe,<-Pt,g3,<-Nat.add_mul];exact Nat.le_trans (Nat.mul_le_mul_right _ hroom) (Nat.le_add_right _ _)
      have hrun:=run_storeCells_at P pl.B (sLen*size) e new' 0 C w hC (by simpa using afI) hone;simp only[Nat.add_zero]at hrun;have hrow:=setRow_heap w pl.B C (C.toList.take (sLen*size)++new'++C.toList.drop (sLen*size+new'.length)).toArray e _ hC;have MZ:OR P φ (.cells (old++new).length (lay (old++new) .nil 0) e true) pl (some (.cells (C.toList.take (sLen*size)++new'++C.toList.drop (sLen*size+new'.length)).toArray e (0,0))):=by
       refine⟨rfl,rfl,?_,by omega,λ_=>⟨?_,o2,o3⟩,?_⟩
       .simp only[List.length_append,k3,List.size_toArray,List.length_take,List.length_drop,Array.length_toList,<-Pt];omega
       .simp only[List.length_append,List.size_toArray,List.length_take,List.length_drop,Array.length_toList];omega
       .intro i v mD hi;have hi2:i<sLen*size+new.length:=by simpa[List.length_append,k3]using hi
        rw[tZ _ .nil 0 (by omega) i (by unfold Small;omega),if_pos (by omega)]at mD;simp only[Nat.sub_zero]at mD;simp only[List.getElem?_toArray,List.append_assoc];rcases Nat.lt_or_ge i (sLen*size)with hlt|hge
        .rw[List.getElem?_append_left (by omega)]at mD;have hgc:=k6 i v mD;rw[Nat.zero_add]at hgc;obtain⟨v',e1,e2⟩:=hcell i v hgc (by have:=k5 (by intro hnil;rw[hnil]at k3;simp at k3;omega);omega);refine⟨v',?_,e2⟩;rw[List.getElem?_append_left (by simp;omega),List.getElem?_take_of_lt hlt];simpa using e1
        ·rw[List.getElem?_append_right (by omega),k3]at mD;obtain⟨v',e1,e2⟩:=g2.get _ v mD;refine⟨v',?_,e2⟩;have htl:(C.toList.take (sLen*size)).length=sLen*size:=by
          rw[List.length_take,Array.length_toList];exact Nat.min_eq_left (by omega)
         have hin:i-sLen*size<new'.length:=by rw[<-Pt];omega
         rw[List.getElem?_append_right (by rw[htl];exact hge),htl,List.getElem?_append_left hin];exact e1
      obtain⟨q1,q2⟩:=hr.Pr hlo (ob:=.cells (old++new).length (lay (old++new) .nil 0) e true) (w':=w.setRow pl.B (C.toList.take (sLen*size)++new'++C.toList.drop (sLen*size+new'.length)).toArray) hb hp m3
       (setRow_size _ _ _) (λk hk=>setRow_other _ _ _ _ hk) (by rw[hrow];exact MZ) (by rw[hrow];exact⟨by omega,hn2,o2,o3⟩) rfl rfl rfl (by trivial)
      refine⟨_,_,.slice (some ⟨pl.B,0,none⟩) (sLen+(n+1)) nu,_,_,m4,.bT (eO _ _ _) hroom hcap,q1,q2,?_⟩;rw[hs'];exact j_ ht hu yP g4 hroom (λa ha=>by cases ha;rw[jy,Nat.zero_add];exact hrun) (λhh=>by cases hh)
     .obtain⟨old,old',k1,k2,k3,k4⟩:=f_ hfl hr g1 Xw ⟨_,_,_,rfl,Nat.le_refl _⟩;obtain⟨hlo,k1⟩:=bI hfl k1;exact fresh (w1:=w) (κ1:=V) (ED hlo).1.drew (ED hlo).2.drew sx (by omega) k2 k3 k4 k1
   .
    rename_i hop;have hop:=oE hop;obtain⟨pl,hp,rfl,rfl,alA⟩:∃pl,φ b=some pl/\nu=sCap/\base'=some ⟨pl.B,o,none⟩/\sCap<aS:=by
     subst hs';cases Xw with
     |slice hp hn hc=>exact⟨_,hp,rfl,rfl,hc⟩
     |bT hp hn hc=>exact absurd rfl hop
     |cU a a' c=>exact absurd rfl EC
    split at g1<;>try exact absurd g1 hfl
    .rename_i nn cc e' op hle hb;have hroom:sLen+(n+1)<=nu:=cF hle;obtain⟨k1,k2,k3⟩:=kG hfl _ _ _ _ _ g1;obtain⟨hlo,k3⟩:=bI hfl k3;obtain⟨w',j1,j2,j3⟩:=hr.storeAt hlo hb hp g2 k1 k2;have hcl:nu<aS:=alA;refine⟨φ,_,.slice (some ⟨pl.B,o,none⟩) (sLen+(n+1)) nu,_,w',k3,.slice hp hroom hcl,j2,j3,?_⟩;rw[hs'];exact j_ ht hu yP g4 hroom (λa ha=>by cases ha;rw[jy];exact j1) (λhh=>by cases hh)
    .rename_i hle;have hlt:=Xn hle;split at g1<;>try exact absurd g1 hfl
     obtain⟨old,old',k1,k2,k3,k4⟩:=f_ hfl hr g1 Xw ⟨_,_,_,rfl,Nat.le_refl _⟩;exact fresh (w1:=w) (κ1:=V) hr.drew (Ext.refl _ _ _).drew sx hlt k2 k3 k4 k1
  .exact absurd g1 hfl
end Go.Vai

namespace Go.Vai
open Go
variable {β:Type}{fl:β}{good:β->Prop}{P:Program}{φ:ee}{h:Heap}{w:World}{t:TypeId}
theorem EE{s:Sem Unit}{w':World}(hs:s.run P w=.ok () w'):((do s;pure Next.skip:Sem Next)).run P w=.ok .skip w':=by simp[hs]
theorem vM(hfl:¬good fl){kt et:TypeId}{ty:TypeId}{ts:Array TypeId}(ht:ts[0]? = some t)(hu:P.underlying t=some (.map kt et))(hr:HR P φ h w){m:Option Nat}{x':Value}{V:Z7 β}(hg:good (kP fl [] (.map m) h V))(hx:VR φ (.map m) x'):∃h' w',good (V (.tuple #[]) h')/\HR P φ h' w'/\Ext φ φ h h' w w'/\(Builtin.clear_ ts ty #[x']).run P w=.ok (.tuple #[]) w':=by
 cases m with
 |none=>
  cases hx;exact⟨h,w,by simpa[kP]using hg,hr,Ext.refl _ _ _,by simp[Builtin.clear_,ht,aU hu]⟩
 |some r=>
  simp only[kP]at hg;split at hg<;>try cases hfl hg
  rename_i es clock hb;obtain⟨hlo,hg⟩:=bI hfl hg;cases hx with
  |map hp=>
   rename_i pl;obtain⟨es',hO,h2⟩:=hr.sq hb hp;obtain⟨w',j1,j2,j3⟩:=hr.yQ hlo (es1:=[]) (IT:=#[]) (clock':=clock) hb hp .nil;exact⟨_,w',hg,j2,j3,by simp[Builtin.clear_,ht,aU hu,dO hO,j1]⟩
theorem Cb(bs:List UInt8)(V:List Value->β):CZ bs V=V (bs.map λb=>.int .u8 (.ofNat b.toNat)):=by
 induction bs generalizing V with
 |nil=>rfl
 |cons b bs ih=>simp only[CZ,b6,ih,List.map_cons]
theorem Pu(hfl:¬good fl):∀(l:List Value)(V:List UInt8->β),good (u8K fl l V)->∃ns:List Int,l=ns.map (Value.int .u8)/\good (V (ns.map λn=>UInt8.ofNat n.toNat)):=by
 intro l
 induction l with
 |nil=>intro V hg;exact⟨[],rfl,hg⟩
 |cons v l ih=>
  intro V hg;unfold u8K at hg;split at hg
  .rename_i e;cases e
  .rename_i n l2 e;cases e;obtain⟨ns,rfl,g⟩:=ih _ hg;exact⟨(n:Int)::ns,rfl,g⟩
  .exact absurd hg hfl
theorem F2.u8:∀{ns:List Int}{l':List Value},F2 (VR φ) (ns.map (Value.int .u8)) l'->l'=ns.map (Value.int .u8):=by
 intro ns
 induction ns with
 |nil=>intro l' h;cases h;rfl
 |cons n ns ih=>
  intro l' h;cases h with
  |cons h t=>cases h;rw[ih t];rfl
set_option maxHeartbeats 2000000 in
theorem EF(hfl:¬good fl){op:Op}{i:XI β}(hc:B3 fl P op=some i){tm:T Value}{ρ:Operand->Value}(hρ:∀y∈op.operands.toList,VR φ (fM tm y) (ρ y))(hr:HR P φ h w){V:Z7 β}(hg:good (i.run tm h V)){o:Oper}(ho:o.op=op):Up good P φ h w V ((execOp ρ o).run P w):=by
 have unit:∀{s:Sem Unit},(∃h' w',good (V undef h')/\HR P φ h' w'/\Ext φ φ h h' w w'/\s.run P w=.ok () w')->execOp ρ o=(do s;pure Next.skip)->
   Up good P φ h w V ((execOp ρ o).run P w):=by
  intro s ⟨h',w',g1,g2,g3,g4⟩ e;exact⟨φ,undef,undef,h',w',.skip,g1,VR.undef,g2,g3,by rw[e];exact EE g4,.inr ⟨rfl,rfl⟩⟩
 have val:∀{s:Sem Value},(∃φ' v v' h' w',good (V v h')/\VR φ' v v'/\HR P φ' h' w'/\Ext φ φ' h h' w w'/\s.run P w=.ok v' w')->execOp ρ o=(do pure (Next.value (<-s)))->
   Up good P φ h w V ((execOp ρ o).run P w):=by
  intro s ⟨φ',v,v',h',w',g1,g2,g3,g4,g5⟩ e;exact⟨φ',v,v',h',w',.value v',g1,g2,g3,g4,by rw[e];exact jP g5,.inl rfl⟩
 cases op<;>simp only[B3]at hc<;>try (cases hc;done)
 case store t a x=>
  split at hc<;>try (cases hc;done)
  rename_i s hs;cases hc;rw[XI.dK]at hg;exact unit (Dd hfl hs hr hg (hρ a (by simp[Op.operands])) (hρ x (by simp[Op.operands]))) (by simp only[execOp,ho])
 case mapUpdate t m k x=>
  split at hc<;>try (cases hc;done)
  rename_i kt et hu;cases hc;rw[XI.sQ]at hg;exact unit (oH hfl hu hr hg (hρ m (by simp[Op.operands])) (hρ k (by simp[Op.operands])) (hρ x (by simp[Op.operands]))) (by simp only[execOp,ho])
 case insert t m k x=>
  split at hc<;>try (cases hc;done)
  rename_i kt et hu;cases hc;rw[XI.sQ]at hg;exact unit (oH hfl hu hr hg (hρ m (by simp[Op.operands])) (hρ k (by simp[Op.operands])) (hρ x (by simp[Op.operands]))) (by simp only[execOp,ho])
 case range t x=>
  split at hc<;>try (cases hc;done)
  rename_i kt et hu;cases hc;rw[XI.cB]at hg;exact val (De hfl hu hr hg (hρ x (by simp[Op.operands]))) (by simp only[execOp,ho])
 case entry it=>
  cases hc;rw[XI.cB]at hg;obtain⟨v,v',g1,g2,g3⟩:=Dg hfl hr hg (hρ it (by simp[Op.operands]));exact val ⟨φ,v,v',h,w,g1,g2,hr,Ext.refl _ _ _,g3⟩ (by simp only[execOp,ho])
 case convert src dst x=>
  split at hc<;>try (cases hc;done)
  .rename_i e hus hud;split at hc<;>try (cases hc;done)
   rename_i hue hsz;cases hc;rw[XI.cB]at hg;have vL:=hρ x (by simp[Op.operands]);unfold qs at hg;split at hg<;>try cases hfl hg
   rename_i s hx;rw[hx]at vL;generalize hy:ρ x=y at vL;cases vL;rw[Cb,x5,Nat.zero_add]at hg;split at hg<;>try cases hfl hg
   rename_i hle;have hle:=cF hle;obtain⟨hn,hg⟩:=dA hfl hg;have hlen:(s.data.toList.map λb=>Value.int .u8 (.ofNat b.toNat)).length=s.size:=by rw[List.length_map,Array.length_toList];rfl
   rw[hlen]at hg hle;have hcap:s.size<=grownCap w s.size 0 e:=Pq _;have hrow:(bytesRow s (grownCap w s.size 0 e)).size=grownCap w s.size 0 e:=by
    simp only[bytesRow,Array.size_append,Array.size_map,Array.size_replicate]
    show s.size+_=_
    omega
   have MZ:OR P φ (.ro s.size (lay (s.data.toList.map λb=>Value.int .u8 (.ofNat b.toNat)) .nil 0) e) ⟨w.drew.heap.size,grownCap w s.size 0 e,1⟩
     (some (.cells (bytesRow s (grownCap w s.size 0 e)) e ((bytesRow s (grownCap w s.size 0 e)).size,(bytesRow s (grownCap w s.size 0 e)).size+1))):=by
    refine⟨rfl,by rw[hrow];exact hcap,λi v mD hi=>?_⟩;rw[tZ _ .nil 0 (by rw[hlen];omega) i (by unfold Small;omega),if_pos (by rw[hlen];omega)]at mD;simp only[Nat.sub_zero,List.getElem?_map]at mD;have hi2:i<s.data.size:=hi;refine⟨v,?_,?_⟩
    .simp only[bytesRow];rw[Array.getElem?_append_left (by simpa using hi2),Array.getElem?_map,<-Array.getElem?_toList];exact mD
    .cases hq:s.data.toList[i]? with
     |none=>rw[hq]at mD;cases mD
     |some b=>rw[hq]at mD;cases mD;exact .int _ _
   obtain⟨m1,m2⟩:=hr.drew.fresh hn (grownCap w s.size 0 e) 1 MZ trivial;refine val (s:=convert src dst (ρ x)) ⟨_,_,_,_,_,hg,.bT (eO _ _ _) hcap (by simp),m1,m2.Y9,?_⟩ (by simp only[execOp,ho]);rw[hy];exact run_bytes_of_string w src dst e s hus hud hue
  .rename_i e hus hud;split at hc<;>try (cases hc;done)
   rename_i hue;cases hc;rw[XI.cB]at hg;have vL:=hρ x (by simp[Op.operands]);unfold El at hg;split at hg<;>try cases hfl hg
   rename_i a n c hx;rw[hx]at vL;obtain⟨l,l',g1,g2,g3,g4⟩:=f_ hfl hr hg vL ⟨_,_,_,rfl,Nat.le_refl _⟩;obtain⟨ns,rfl,g5⟩:=Pu hfl _ _ g1;have hl':=F2.u8 g2;subst hl';have g4:=g4 w rfl;refine val (s:=convert src dst (ρ x)) ⟨φ,_,_,h,w,g5,.string _,hr,Ext.refl _ _ _,?_⟩ (by simp only[execOp,ho]);generalize hy:ρ x=y at vL g4;have fin:∀(a:Addr)(c:Nat),(loadCells a n).run P w=.ok (ns.map (Value.int .u8)).toArray w->(convert src dst (.slice (some a) n c)).run P w=.ok (.string ⟨⟨ns.map λn=>UInt8.ofNat n.toNat⟩⟩) w:=by
    intro a c hl;rw[run_convert_bytes_string w src dst e _ n c hus hue hud,run_bytesToString w a n c ns hl,foldl_push_bytes];simp[ByteArray.empty,ByteArray.emptyWithCapacity];rfl
   cases vL with
   |fQ hle=>
    have hn:ns=[]:=by
     have:=g4;simp[Builtin.firstCells]at this;simpa using this
    subst hn;exact run_convert_bytes_nil w src e hus hue n c dst hud
   |slice hp hn hc=>exact fin _ _ (by simpa[Builtin.firstCells]using g4)
   |bT hp hn hc=>exact fin _ _ (by simpa[Builtin.firstCells]using g4)
   |cU _ a' c=>exact fin _ _ (by simpa[Builtin.firstCells]using g4)
 case call c=>
  obtain⟨callee,args,ts⟩:=c;cases callee<;>(try simp only at hc)<;>try (cases hc;done)
  rename_i b;cases b<;>(try simp only at hc)<;>try (cases hc;done)
  case append=>
   split at hc<;>try contradiction
   rename_i s x _ hx;have hargs:args=#[s,x]:=Array.ext' (by simpa using hx);split at hc<;>try contradiction
   rename_i st xt ht hxt;split at hc<;>try contradiction
   rename_i e hu;split at hc<;>try contradiction
   rename_i inf xd hi hxd;split at hc<;>try contradiction
   rename_i z size hz hby;cases hc;rw[XI.dK]at hg;exact val (sy (ty:=o.type) hfl ht hu hz hi (cF hby) hxt hxd hr hg (hρ s (by simp[Op.operands,Call.operands,hargs])) (hρ x (by simp[Op.operands,Call.operands,hargs])))
    (by simp[execOp,ho,resolve,invoke,builtin,hargs])
  case copy=>
   split at hc<;>try contradiction
   rename_i d x _ hx;have hargs:args=#[d,x]:=Array.ext' (by simpa using hx);split at hc<;>try contradiction
   rename_i t ht;split at hc<;>try contradiction
   rename_i e hu;split at hc<;>try contradiction
   rename_i s hs;cases hc;rw[XI.dK]at hg;obtain⟨v,h',w',g⟩:=EA (ty:=o.type) hfl ht hu hs hr hg (hρ d (by simp[Op.operands,Call.operands,hargs])) (hρ x (by simp[Op.operands,Call.operands,hargs]));exact val ⟨φ,v,v,h',w',g⟩ (by simp[execOp,ho,resolve,invoke,builtin,hargs])
  case clear=>
   split at hc<;>try contradiction
   rename_i x _ hx;have hargs:args=#[x]:=Array.ext' (by simpa using hx);have vL:VR φ (fM tm x) (ρ x):=hρ x (by simp[Op.operands,Call.operands,hargs]);split at hc<;>try contradiction
   rename_i t ht;split at hc<;>try contradiction
   .rename_i e hu;split at hc<;>try contradiction
    rename_i z hz;cases hc;rw[XI.cB]at hg;obtain⟨h',w',g1,g2,g3,g4⟩:=sU (ty:=o.type) hfl ht hu hz hr hg vL;exact val ⟨φ,.tuple #[],.tuple #[],h',w',g1,VR.undef,g2,g3,g4⟩ (by simp[execOp,ho,resolve,invoke,builtin,hargs])
   .rename_i kt et hu;cases hc;rw[XI.cB]at hg;split at hg<;>try cases hfl hg
    rename_i m hm;rw[hm]at vL;obtain⟨h',w',g1,g2,g3,g4⟩:=vM (ty:=o.type) hfl ht hu hr hg vL;exact val ⟨φ,.tuple #[],.tuple #[],h',w',g1,VR.undef,g2,g3,g4⟩ (by simp[execOp,ho,resolve,invoke,builtin,hargs])
  case cap=>
   split at hc<;>try contradiction
   rename_i x _ hx;have hargs:args=#[x]:=Array.ext' (by simpa using hx);have vL:VR φ (fM tm x) (ρ x):=hρ x (by simp[Op.operands,Call.operands,hargs]);split at hc<;>try contradiction
   rename_i t ht;split at hc<;>try contradiction
   rename_i e hu;cases hc;rw[XI.cB]at hg;have hex:execOp ρ o=(do pure (Next.value (<-Builtin.cap_ ts o.type #[ρ x]))):=by simp[execOp,ho,resolve,invoke,builtin,hargs]
   split at hg<;>try cases hfl hg
   rename_i a n c hv;split at hg<;>try cases hfl hg
   rename_i hle;have hle:=cF hle;rw[hv]at vL;obtain⟨a',e3⟩:∃a',ρ x=.slice a' n c:=by
    generalize ρ x=z at vL;cases vL with
    |fQ _=>exact⟨_,rfl⟩
    |slice _ _ _=>exact⟨_,rfl⟩
    |bT _ _ _=>exact absurd hle (by unfold aS;omega)
    |cU _ _ _=>exact absurd hle (by unfold gG;omega)
   rw[e3]at hex;exact val ⟨φ,_,_,h,w,hg,.int _ _,hr,Ext.refl _ _ _,by simp[Builtin.cap_,ht,aU hu,goInt]⟩ hex
  case delete=>
   split at hc<;>try contradiction
   rename_i m k _ hx;have hargs:args=#[m,k]:=Array.ext' (by simpa using hx);split at hc<;>try contradiction
   rename_i t ht;split at hc<;>try contradiction
   rename_i kt et hu;cases hc;rw[XI.dK]at hg;obtain⟨h',w',g1,g2,g3,g4⟩:=Bz (ty:=o.type) hfl ht hu hr hg (hρ m (by simp[Op.operands,Call.operands,hargs])) (hρ k (by simp[Op.operands,Call.operands,hargs]));exact val ⟨φ,.tuple #[],.tuple #[],h',w',g1,VR.undef,g2,g3,g4⟩ (by simp[execOp,ho,resolve,invoke,builtin,hargs])
  case min=>
   split at hc<;>try contradiction
   rename_i a b _ hx;have hargs:args=#[a,b]:=Array.ext' (by simpa using hx);have ha:VR φ (fM tm a) (ρ a):=hρ a (by simp[Op.operands,Call.operands,hargs]);have hb:VR φ (fM tm b) (ρ b):=hρ b (by simp[Op.operands,Call.operands,hargs]);cases hc;rw[XI.dK]at hg;have hex:execOp ρ o=(do pure (Next.value (<-Builtin.min_ ts o.type #[ρ a,ρ b]))):=by simp[execOp,ho,resolve,invoke,builtin,hargs]
   split at hg<;>try cases hfl hg
   rename_i k x k' y e1 e2;rw[e1]at ha;rw[e2]at hb;have e3:ρ a=.int k x:=by generalize ρ a=z at ha;cases ha;rfl
   have e4:ρ b=.int k' y:=by generalize ρ b=z at hb;cases hb;rfl
   have hrun:=run_min_int2 (P:=P) (w:=w) ts o.type k k' x y;rw[e3,e4]at hex;split at hg
   .rename_i hlt;rw[gN,decide_eq_true_eq]at hlt;rw[if_pos hlt]at hrun;exact val ⟨φ,_,_,h,w,hg,.int _ _,hr,Ext.refl _ _ _,hrun⟩ hex
   .rename_i hlt;rw[gN,decide_eq_false_iff_not]at hlt;rw[if_neg hlt]at hrun;exact val ⟨φ,_,_,h,w,hg,.int _ _,hr,Ext.refl _ _ _,hrun⟩ hex
  case max=>
   split at hc<;>try contradiction
   rename_i a b _ hx;have hargs:args=#[a,b]:=Array.ext' (by simpa using hx);have ha:VR φ (fM tm a) (ρ a):=hρ a (by simp[Op.operands,Call.operands,hargs]);have hb:VR φ (fM tm b) (ρ b):=hρ b (by simp[Op.operands,Call.operands,hargs]);cases hc;rw[XI.dK]at hg;have hex:execOp ρ o=(do pure (Next.value (<-Builtin.max_ ts o.type #[ρ a,ρ b]))):=by simp[execOp,ho,resolve,invoke,builtin,hargs]
   split at hg<;>try cases hfl hg
   rename_i k x k' y e1 e2;rw[e1]at ha;rw[e2]at hb;have e3:ρ a=.int k x:=by generalize ρ a=z at ha;cases ha;rfl
   have e4:ρ b=.int k' y:=by generalize ρ b=z at hb;cases hb;rfl
   have hrun:=run_max_int2 (P:=P) (w:=w) ts o.type k k' x y;rw[e3,e4]at hex;split at hg
   .rename_i hlt;rw[gN,decide_eq_true_eq]at hlt;rw[if_pos hlt]at hrun;exact val ⟨φ,_,_,h,w,hg,.int _ _,hr,Ext.refl _ _ _,hrun⟩ hex
   .rename_i hlt;rw[gN,decide_eq_false_iff_not]at hlt;rw[if_neg hlt]at hrun;exact val ⟨φ,_,_,h,w,hg,.int _ _,hr,Ext.refl _ _ _,hrun⟩ hex
end Go.Vai

namespace Go.Vai
open Go
variable {β:Type}{fl:β}{good:β->Prop}{P:Program}{φ:ee}{h:Heap}{w:World}{t:TypeId}
structure TR(φ:ee)(nt:Nat)(tm:T Value)(a:Act):Prop where
 size:a.tmps.size=nt
 small:nt<=1000000000000
 rel:∀t,t<nt->VR φ (cL tm t) (a.tmps.getD t undef)
theorem TR.mono{φ φ':ee}{nt:Nat}{tm:T Value}{a:Act}(hs:Sub φ φ')(ht:TR φ nt tm a):TR φ' nt tm a:=⟨ht.size,ht.small,λt hlt=>(ht.rel t hlt).mono hs⟩
theorem dP{a b:Nat}(h:Nat.ble (Nat.succ a) b=true):a<b:=cF h
theorem TR.eval{nt:Nat}{tm:T Value}{a:Act}(ht:TR φ nt tm a){x:Operand}(hx:Em nt x=true):VR φ (fM tm x) (a.eval x):=by
 cases x with
 |tmp t=>exact ht.rel t (dP hx)
 |const v=>exact lV hx
 |func f=>exact VR.func' .nil .nil
 |global g=>cases hx
noncomputable def jK(tm:T Value)(d:Option Nat)(v:Value):T Value:=match d with|some d=>tm.aV d v|none=>tm
theorem gO(tm:T Value)(d:Option Nat)(v:Value)(h:Heap)(V:T Value->Heap->β):qi tm d v h V=V (jK tm d v) h:=by
 cases d with
 |none=>rfl
 |some d=>show T.set tm d v (λtm=>V tm h)=_;rw[T.cg];rfl
def Pv(nt:Nat)(d:Option Nat):Bool:=match d with|some d=>Nat.ble (Nat.succ d) nt|none=>true
theorem rD{nt t:Nat}(hn:nt<=1000000000000)(ht:t<nt):Small t:=by unfold Small;omega
theorem gP{nt:Nat}{tm:T Value}{d:Option Nat}{v:Value}(hn:nt<=1000000000000)(hd:Pv nt d=true){t:Nat}(ht:t<nt):cL (jK tm d v) t=if d=some t then v else cL tm t:=by
 cases d with
 |none=>simp[jK]
 |some d=>
  have hd':=dP hd;simp only[jK,cL];rw[T.nk tm v (rD hn hd') (rD hn ht)];by_cases he:d=t
  .simp[he]
  .simp[he]
theorem TR.put{nt:Nat}{tm:T Value}{a:Act}(ht:TR φ nt tm a){d:Option Nat}(hd:Pv nt d=true){v v':Value}(hv:VR φ v v'):TR φ nt (jK tm d v) (a.put d v'):=by
 refine⟨?_,ht.small,?_⟩
 .cases d<;>simp[Act.put,ht.size]
 .intro t hlt;rw[gP ht.small hd hlt];have hr:=ht.rel t hlt;cases d with
  |none=>simpa[Act.put]using hr
  |some d=>
   have hd':=dP hd;by_cases he:d=t
   .subst he;have:d<a.tmps.size:=by rw[ht.size];exact hd'
    simpa[Act.put,Array.getD,this]using hv
   .have h1:¬(some d=some t):=by simpa using he
    rw[if_neg h1];simp only[Array.getD_eq_getD_getElem?]at hr ⊢;simp only[Act.put];rw[Array.getElem?_setIfInBounds_ne he];exact hr
theorem dQ{nt:Nat}{o:Oper}(h:fE nt o=true):Pv nt o.dst=true:=by
 simp only[fE,Bool.and_eq_true]at h;exact h.2
theorem sV{nt:Nat}{o:Oper}(h:fE nt o=true):∀y∈o.op.operands.toList,Em nt y=true:=by
 simp only[fE,Bool.and_eq_true,List.all_eq_true]at h;exact h.1
def vN(good:β->Prop)(P:Program)(φ:ee)(h:Heap)(w:World)(V:Z7 β)(f:FuncId)(args:Array Value):Prop:=
 (callFunc f args).run P w=.ok (.enter f args) w/\
 Calls P f args w λe w'=>∃φ' v v' h',e=.returned v'/\good (V v h')/\VR φ' v v'/\HR P φ' h' w'/\Ext φ φ' h h' w w'
def FR(r:Option Nat):Fence:={ Fence.wide with round:=r }
theorem x7{r:Option Nat}{n:Nat}{f:FuncId}{args:Array Value}{R:Ending->World->Prop}:CallsIn (FR r) n P f args w R<->Calls P f args w R:=callsIn_wide (n:=n)
def Zc(good:β->Prop)(P:Program)(φ:ee)(h:Heap)(w:World)(V:Z7 β)(e:Ending)(w':World):Prop:=
 ∃φ' v v' h',e=.returned v'/\good (V v h')/\VR φ' v v'/\HR P φ' h' w'/\Ext φ φ' h h' w w'
def vO(good:β->Prop)(P:Program)(φ:ee)(h:Heap)(w:World)(V:Z7 β)(r:Result Next):Prop:=
 Up good P φ h w V r\/(∃f args,r=.ok (.enter f args) w/\Calls P f args w (Zc good P φ h w V))\/
 ∃l f tmps as bd,r=.ok (.round l f tmps as bd) w/\∀r0:Option Nat,RoundIn (FR r0) 0 P l f tmps as bd w (Zc good P φ h w V)
theorem vO.upon{V:Z7 β}{r:Result Next}(ho:vO good P φ h w V r){o:Oper}{a:Act}{next:Act->World->Prop}{Q:Exit->Act->World->Prop}{r0:Option Nat}(hn:∀φ' v v' h' w',good (V v h')->VR φ' v v'->HR P φ' h' w'->Ext φ φ' h h' w w'->next (a.put o.dst v') w'):o.uponIn (FR r0) 0 P a next Q r:=by
 rcases ho with⟨φ',v,v',h',w',nx,g1,g2,g3,g4,rfl,g6⟩|⟨f,args,rfl,hc⟩|⟨l,f,tmps,as,bd,rfl,hc⟩
 .rcases g6 with rfl|⟨rfl,rfl⟩
  .exact hn φ' v v' h' w' g1 g2 g3 g4
  .exact hn φ' v undef h' w' g1 g2 g3 g4
 .refine⟨λhh=>(by cases hh),x7.2 (Calls.mono hc ?_)⟩;rintro e w' ⟨φ',v,v',h',rfl,g1,g2,g3,g4⟩;exact hn φ' v v' h' w' g1 g2 g3 g4
 .refine⟨λhh=>(by cases hh),(hc r0).mono ?_⟩;rintro e w' ⟨φ',v,v',h',rfl,g1,g2,g3,g4⟩;exact hn φ' v v' h' w' g1 g2 g3 g4
theorem lX{r0:Option Nat}{o:Oper}{ρ:Operand->Value}:∀f,o.about P w ρ=some f->(FR r0).fn f:=λ_ _=>trivial
def EG(tmps:Array Value):ResultVar->Sem Value
 | .tmp t=>pure (tmps.getD t undef)
 | .cell c t=>do loadVar t (<-asAddr (tmps.getD c undef))
theorem jB{t:TypeId}{ad:Addr}:(Instr.loadAt t (.pointer (some ad))).run P w=(loadVar t ad).run P w:=by
 simp[Instr.loadAt,Instr.sureAddr]
theorem uf{tmps:Array Value}{fn:Func}{vs:List Value}(hm:(fn.results.toList.mapM (EG tmps)).run P w=.ok vs w):(results fn tmps).run P w=.ok (match vs with | [v]=>v|vs=>.tuple ⟨vs⟩) w:=by
 have he:results fn tmps=(do let vs <-fn.results.mapM (EG tmps);pure (if h:vs.size=1 then vs[0]else .tuple vs)):=by
  unfold results
  congr 1
 rw[he,Array.mapM_eq_mapM_toList]
 match vs,hm with
 | [],hm=>simp[hm]
 | [v],hm=>simp[hm]
 |v::v2::vs,hm=>simp[hm]
theorem Cc(hfl:¬good fl){a a':Value}{V:Z7 β}(hg:good (load1 fl a h V))(hv:VR φ a a'):∃ad,a'=.pointer (some ad):=by
 unfold load1 at hg;split at hg<;>try cases hfl hg
 cases hv;exact⟨_,rfl⟩
theorem M0(hfl:¬good fl){s:Nat}{a a':Value}{V:Z7 β}(hg:good (aF fl s a h V))(hv:VR φ a a'):∃ad,a'=.pointer (some ad):=by
 unfold aF at hg;split at hg<;>try cases hfl hg
 cases hv;exact⟨_,rfl⟩
theorem qH(hfl:¬good fl)(hr:HR P φ h w){nt:Nat}{tm:T Value}{a:Act}(ht:TR φ nt tm a):∀(rs:List ResultVar){V:List Value->β},rs.all (O4 nt)=true->
  good (dX fl h tm (rs.map (wQ P)) V)->∃vs vs',good (V vs)/\F2 (VR φ) vs vs'/\(rs.mapM (EG a.tmps)).run P w=.ok vs' w:=by
 intro rs
 induction rs with
 |nil=>intro V _ hg;exact⟨[],[],hg,.nil,by simp⟩
 |cons r rs ih=>
  intro V hok hg;simp only[List.all_cons,Bool.and_eq_true]at hok
  have fin:∀{v v':Value},(EG a.tmps r).run P w=.ok v' w->VR φ v v'->good (dX fl h tm (rs.map (wQ P)) λvs=>V (v::vs))->
    ∃vs vs',good (V vs)/\F2 (VR φ) vs vs'/\((r::rs).mapM (EG a.tmps)).run P w=.ok vs' w:=by
   intro v v' h1 h2 h3;obtain⟨vs,vs',g1,g2,g3⟩:=ih hok.2 h3;exact⟨_,v'::vs',g1,.cons h2 g2,by simp[List.mapM_cons,g3,h1]⟩
  cases r with
  |tmp t=>
   simp only[List.map_cons,wQ,dX,e_]at hg;exact fin (by simp[EG]) (ht.rel t (dP hok.1)) hg
  |cell c t=>
   have hc:=ht.rel c (dP hok.1);simp only[List.map_cons,wQ]at hg;cases hx:ow P t with
   |none=>simp only[hx,dX]at hg;exact absurd hg hfl
   |some b=>
    cases hs:fD P t with
    |none=>cases b<;>simp only[hx,hs,dX]at hg<;>exact absurd hg hfl
    |some s=>
     cases b with
     |true=>
      simp only[hx,hs,dX,e_]at hg;obtain⟨ad,had⟩:=M0 hfl hg hc;obtain⟨v,v',g1,g2,g3⟩:=wT hfl hx hs hg hc hr;rw[had,jB]at g3;exact fin (by simp only[EG,had];simpa[asAddr]using g3) g2 g1
     |false=>
      simp only[hx,hs,dX,e_]at hg;obtain⟨ad,had⟩:=Cc hfl hg hc;obtain⟨v,v',g1,g2,g3⟩:=nq hfl hx hg hc hr;rw[had,jB]at g3;exact fin (by simp only[EG,had];simpa[asAddr]using g3) g2 g1
theorem BA{name:String}{f:FuncId}(hm:C0 P t name=some f)(v:Value):(method (P.types.size+Made.depth) t v name).run P w=.ok (f,v) w:=by
 unfold C0 at hm;split at hm<;>try contradiction
 rename_i i d hi hd;split at hm<;>try contradiction
 rename_i m hf;obtain⟨n,hn⟩:∃n,P.types.size+Made.depth=n+1:=⟨P.types.size+Made.depth-1,by
  have:0<Made.depth:=by decide
  omega⟩
 rw[hn];unfold method;cases hp:m.path.isEmpty with
 |false=>simp[hp]at hm
 |true=>
  have Ph:m.path.toList=[]:=by simpa using hp
  cases hfun:m.func with
  |none=>simp[hp,hfun]at hm
  |some p=>
   obtain⟨f',b⟩:=p;have hw:f'=f/\∀wr,(receiverAt t (.val v) b (some wr)).run P w=.ok v w:=by
    cases b with
    |true=>
     cases d<;>simp only[hp,hfun]at hm<;>try contradiction
     cases hm;exact⟨rfl,λwr=>by simp[receiverAt,aU hd,Place.get]⟩
    |false=>
     cases d<;>simp only[hp,hfun]at hm<;>try contradiction
     all_goals (cases hm;exact⟨rfl,λwr=>by simp[receiverAt,aU hd,Place.get]⟩)
   obtain⟨rfl,hw⟩:=hw;have hpe:m.path=#[]:=by simpa using hp
   simp[typeInfo,hi,hf,hpe,follow,hfun,hw]
theorem BB{name:String}{f:FuncId}{off:Nat}{ty:TypeId}(hm:xW P t name=some (f,off,ty)){ad:Addr}{v:Value}(hl:(loadVar ty (ad.add off)).run P w=.ok v w):ow P ty=some false/\(method (P.types.size+Made.depth) t (.pointer (some ad)) name).run P w=.ok (f,v) w:=by
 unfold xW at hm;split at hm<;>try contradiction
 rename_i i hi;split at hm<;>try contradiction
 rename_i m hf;split at hm<;>try contradiction
 rename_i s f' hp hfun;split at hm<;>try contradiction
 rename_i fs hd hs;split at hm<;>try contradiction
 rename_i vC alB;split at hm<;>try contradiction
 rename_i e hag hsz hue;cases hm;refine⟨hag,?_⟩;obtain⟨n,hn⟩:∃n,P.types.size+Made.depth=n+1:=⟨P.types.size+Made.depth-1,by
  have:0<Made.depth:=by decide
  omega⟩
 rw[hn];unfold method;simp[typeInfo,hi,hf,hp,hfun,follow,aU hs,alB,hd,Place.get,asAddr,fieldPlace,cD hsz,receiverAt,aU hue,hl]
theorem BC{name:String}{f:FuncId}{ty:TypeId}(hm:xX P t name=some (f,ty)){ad:Addr}{v:Value}(hl:(loadVar ty ad).run P w=.ok v w):(method (P.types.size+Made.depth) t (.pointer (some ad)) name).run P w=.ok (f,v) w:=by
 unfold xX at hm;split at hm<;>try contradiction
 rename_i i e hi hu;split at hm<;>try contradiction
 rename_i m hf;split at hm<;>try contradiction
 rename_i f' hp hfun hag;cases hm;obtain⟨n,hn⟩:∃n,P.types.size+Made.depth=n+1:=⟨P.types.size+Made.depth-1,by
  have:0<Made.depth:=by decide
  omega⟩
 rw[hn];unfold method;have hpe:m.path=#[]:=by simpa using hp
 have hw:∀a b:String,(Builtin.ssaWrapNilChk_ #[t] t #[.pointer (some ad),strVal a,strVal b]).run P w=.ok (.pointer (some ad)) w:=λ_ _=>rfl;simp[typeInfo,hi,hf,hpe,hfun,follow,Place.get,asAddr,receiverAt,aU hu,hw,hl]
end Go.Vai

namespace Go.Vai
open Go
variable {β:Type}{fl:β}{good:β->Prop}{pr:ko β}{P:Program}{φ:ee}{h:Heap}{w:World}{t:TypeId}
def Pw:Ex->Exit
 | .normal=>.normal
 | .exit i=>.exit i
 | .ret=>.ret
def Marks(N:Nat)(φ:ee)(w:World):Nat->List Deferred->Prop
 |_,[]=>True
 |U,d::l=>∃D,d={ target:=.collected D,args:=#[] }/\N<=D/\D<U/\w.heap[D]? = some (.deferred (some []))/\(∀b pl,φ b=some pl->pl.B≠D)/\Marks N φ w D l
theorem Marks.le{N:Nat}:∀{l:List Deferred}{U U':Nat},Marks N φ w U l->U<=U'->Marks N φ w U' l
 | [],_,_,_,_=>trivial
 |_::_,_,_,⟨D,h1,h2,h3,h4,h5,h6⟩,hU=>⟨D,h1,h2,Nat.lt_of_lt_of_le h3 hU,h4,h5,h6⟩
theorem Ext.Xx{φ':ee}{h':Heap}{w':World}(hx:Ext φ φ' h h' w w'){D:Nat}(hD:D<w.heap.size)(hn:∀b pl,φ b=some pl->pl.B≠D):∀b pl,φ' b=some pl->pl.B≠D:=by
 intro b pl hb;cases h0:φ b with
 |some p=>
  have:=hx.sub b p h0;rw[hb]at this;cases this;exact hn b pl h0
 |none=>
  rcases(hx.new b pl h0 hb).2 with h1|⟨b0,p0,h1,h2⟩
  .omega
  .rw[<-h2];exact hn b0 p0 h1
theorem Marks.mono{N:Nat}{φ':ee}{h':Heap}{w':World}(hx:Ext φ φ' h h' w w'):∀{l:List Deferred}{U:Nat},U<=w.heap.size->Marks N φ w U l->Marks N φ' w' U l
 | [],_,_,_=>trivial
 |_::_,_,hU,⟨D,h1,h2,h3,h4,h5,h6⟩=>
  ⟨D,h1,h2,h3,by rw[hx.Bs D (by omega) h5];exact h4,hx.Xx (by omega) h5,Marks.mono hx (by omega) h6⟩
theorem Marks.append{N N2 U1:Nat}{l1:List Deferred}(h1:Marks N φ w U1 l1)(hN:N<=N2)(hU:U1<=N2):∀{l2:List Deferred}{U:Nat},U1<=U->Marks N2 φ w U l2->Marks N φ w U (l2++l1)
 | [],_,hle,_=>h1.le hle
 |_::_,_,_,⟨D,e1,e2,e3,e4,e5,e6⟩=>⟨D,e1,Nat.le_trans hN e2,e3,e4,e5,Marks.append h1 hN hU (Nat.le_trans hU e2) e6⟩
def Post(good:β->Prop)(P:Program)(nt:Nat)(φ:ee)(h:Heap)(w:World)(ds:List Deferred)(V:Ex->T Value->Heap->β)(e:Exit)(a':Act)(w':World):Prop:=
 ∃x cQ h' φ',e=Pw x/\good (V x cQ h')/\TR φ' nt cQ a'/\HR P φ' h' w'/\Ext φ φ' h h' w w'/\∃ms,a'.defers=ms++ds/\Marks w.heap.size φ' w' w'.heap.size ms
def mE(good:β->Prop)(P:Program)(rec:Rec β):Prop:=
 ∀(c:Code)(r:Option Nat)(tm:T Value)(h:Heap)(V:Ex->T Value->Heap->β)(φ:ee)(w:World)(nt:Nat)(a:Act),(r=none\/qt c=true)->codeOk nt c=true->TR φ nt tm a->HR P φ h w->good (rec c tm h V)->
  c.wpIn (FR r) 0 P (Post good P nt φ h w a.defers V) a w
structure gQ(good:β->Prop)(pr:ko β)(P:Program):Prop where
 both:∀x y,good (pr.both x y)->good x/\good y
 fn:∀f g,pr.fn f=some g->∀(args args':List Value)(h:Heap)(φ:ee)(w:World)(V:Z7 β),F2 (VR φ) args args'->HR P φ h w->good (g args h V)->vN good P φ h w V f args'.toArray
theorem HR.aside(hr:HR P φ h w){D:Nat}(hn:∀b pl,φ b=some pl->pl.B≠D)(o:Obj):HR P φ h (w.putObj D o):=by
 refine⟨λb ob pl h1 h2=>?_,λb pl h1=>?_,hr.keys,hr.Pb,hr.inj,hr.lo⟩
 .rw[World.putObj_heap_other (hn b pl h2)];exact hr.obj b ob pl h1 h2
 .rw[World.putObj_size];exact hr.dom b pl h1
theorem Ext.aside{φ':ee}{h':Heap}{w0:World}(hx:Ext φ φ' h h' w0 w){D:Nat}(hD:w0.heap.size<=D)(ds:Option (List Deferred)):Ext φ φ' h h' w0 (w.putObj D (.deferred ds)) where
 sub:=hx.sub
 new:=hx.new
 nx:=hx.nx
 size:=by rw[World.putObj_size];exact hx.size
 Bs:=λB hB hn=>by rw[World.putObj_heap_other (by omega)];exact hx.Bs B hB hn
 B9:=hx.B9
 tape:=hx.tape
 os:=hx.os
 output:=hx.output
 fz:=λB hB=>by
  by_cases he:B=D
  .subst he;by_cases hl:B<w.heap.size
   .rw[World.putObj_heap_same hl];trivial
   .have:(w.putObj B (.deferred ds)).heap[B]? = none:=by simp[World.putObj_size];omega
    rw[this];trivial
  .rw[World.putObj_heap_other he];exact hx.fz B hB
 lo:=hx.lo
 IB:=hx.IB
 IC:=λx o pl h1 h2 h3 h4 h5=>by rw[World.putObj_heap_other (by omega)];exact hx.IC x o pl h1 h2 h3 h4 h5
 dr:=hx.dr
theorem qI{fn:Func}{a:Act}{φ':ee}{h':Heap}{w0:World}{R:Ending->World->Prop}(hend:∀w':World,HR P φ' h' w'->Ext φ φ' h h' w0 w'->∃v,(results fn a.tmps).run P w'=.ok v w'/\R (.returned v) w'):∀(ms:List Deferred)(U:Nat)(w':World),Marks w0.heap.size φ' w' U ms->HR P φ' h' w'->Ext φ φ' h h' w0 w'->LeavesInM (FR none) 0 P fn a.tmps R ms .returning w'
 | [],_,w',_,hr,hx=>hend w' hr hx
 |_::ms,_,w',⟨D,e1,e2,e3,e4,e5,e6⟩,hr,hx=>by
  subst e1;have hr':=hr.aside e5 (.deferred none);have hx':=hx.aside e2 none;refine⟨by simp,.inl ⟨D,w'.putObj D (.deferred none),rfl,run_takeDeferred e4,qI hend ms D _ ?_ hr' hx'⟩⟩;have keep:∀(l:List Deferred)(U:Nat),U<=D->Marks w0.heap.size φ' w' U l->Marks w0.heap.size φ' (w'.putObj D (.deferred none)) U l:=by
   intro l
   induction l with
   |nil=>intro _ _ _;trivial
   |cons d l ih=>
    rintro U hU ⟨D',f1,f2,f3,f4,f5,f6⟩;exact⟨D',f1,f2,f3,by rw[World.putObj_heap_other (by omega)];exact f4,f5,ih D' (by omega) f6⟩
  exact keep ms D (Nat.le_refl _) e6
theorem ug{f:FuncId}{c:Code}{rs:List sO}{nt:Nat}(hc:yE P f=.mk c rs nt):∃fn,P.funcs[f]? = some fn/\fn.body=some c/\fn.ntmps=nt/\rs=fn.results.toList.map (wQ P)/\codeOk nt c=true/\fn.results.toList.all (O4 nt)=true/\nt<=1000000000000/\
   ∀(args:Array Value)(w:World),(callFunc f args).run P w=.ok (.enter f args) w:=by
 unfold yE at hc;split at hc<;>try contradiction
 rename_i fn hf;split at hc<;>try contradiction
 rename_i hn;split at hc<;>try contradiction
 rename_i c' hb;split at hc<;>try contradiction
 rename_i hok;simp only[Bool.and_eq_true]at hok;cases hc;refine⟨fn,hf,hb,rfl,rfl,hok.1.1,hok.1.2,cF hok.2,λargs w=>?_⟩
 have hn' : ¬ fn.name = "runtime.NumGoroutine" := by simpa using hn
 simp[callFunc,hf,hn',hb]
theorem IW(vs:List Value):∀(tm:T Value)(i:Nat)(V:T Value->β),C1 vs tm i V=V (lay vs tm i):=by
 induction vs with
 |nil=>intro tm i V;rfl
 |cons v vs ih=>
  intro tm i V
  show T.set tm i v (λtm=>C1 vs tm (Nat.succ i) V)=_
  rw[T.cg,ih];rfl
theorem TR.start{args args':List Value}{nt:Nat}(ha:F2 (VR φ) args args')(hn:nt<=1000000000000)(hle:args.length<=nt):TR φ nt (lay args .nil 0) { tmps:=args'.toArray++Array.replicate (nt-args'.toArray.size) undef,defers:=[] }:=by
 have hlen:=ha.length;refine⟨by simp[<-hlen];omega,hn,λt ht=>?_⟩;simp only[cL];rw[tZ args .nil 0 (by omega) t (by unfold Small;omega)];simp only[Array.getD_eq_getD_getElem?];by_cases hlt:t<args.length
 .rw[if_pos (by omega)];obtain⟨v,hv⟩:∃v,args[t]? = some v:=⟨args[t],by simp[hlt]⟩
  obtain⟨v',e1,e2⟩:=ha.get t v hv;rw[Array.getElem?_append_left (by simp;omega)];simpa[hv,e1]using e2
 .rw[if_neg (by omega),T.get_nil,Array.getElem?_append_right (by simp;omega),Array.getElem?_replicate];have hu:((if t-args'.toArray.size<nt-args'.toArray.size then some undef else none:Option Value).getD undef)=undef:=by split<;>rfl
  rw[hu];exact VR.undef
theorem F2.toList{a a':Array Value}(h:a.toList.length=a'.toList.length)(hv:∀(i:Nat)(v v':Value),a.toList[i]? = some v->a'.toList[i]? = some v'->VR φ v v'):F2 (VR φ) a.toList a'.toList:=
 F2.mz h hv
theorem fW(hfl:¬good fl)(hp:gQ good pr P){rec:Rec β}(fF:mE good P rec){f:FuncId}{args args':List Value}(ha:F2 (VR φ) args args')(hr:HR P φ h w){V:Z7 β}(hg:good (iA fl pr P rec f args h V)):vN good P φ h w V f args'.toArray:=by
 unfold iA at hg;split at hg
 .rename_i g hg';exact hp.fn f g hg' args args' h φ w V ha hr hg
 .split at hg
  .exact absurd hg hfl
  .rename_i c rs nt hc;obtain⟨fn,hf,hb,rfl,rfl,Ee,hrk,hnt,yR⟩:=ug hc;split at hg<;>try cases hfl hg
   rename_i hle;rw[IW]at hg;refine⟨yR _ _,?_⟩;have hst:=TR.start (nt:=fn.ntmps) ha hnt (cF hle);refine x7 (r:=none) (n:=0) |>.1 (callsIn_of_wp_marks hf hb trivial (wpIn_mono (fF c none _ h _ φ w fn.ntmps _ (.inl rfl) Ee hst hr hg) ?_))
   rintro e a' w' ⟨x,cQ,h',φ',rfl,g1,g2,g3,g4,ms,g5,g6⟩;have OZ:a'.defers=ms:=by rw[g5];simp
   have fin:good (dX fl h' cQ (fn.results.toList.map (wQ P)) λvs=>O5 V h' vs)->
     LeavesInM (FR none) 0 P fn a'.tmps (λe w'=>∃φ' v v' h',e=.returned v'/\good (V v h')/\VR φ' v v'/\HR P φ' h' w'/\Ext φ φ' h h' w w') a'.defers .returning w':=by
    intro k;rw[OZ];refine qI (a:=a') (φ':=φ') (h':=h') ?_ ms _ w' g6 g3 g4;intro w2 M5 hx2;obtain⟨vs,vs',k1,k2,k3⟩:=qH hfl M5 g2 _ hrk k;refine⟨_,uf k3,?_⟩;cases k2 with
    |nil=>exact⟨φ',_,_,h',rfl,k1,VR.tuple' .nil,M5,hx2⟩
    |cons hv hvs=>
     cases hvs with
     |nil=>exact⟨φ',_,_,h',rfl,k1,hv,M5,hx2⟩
     |cons Un hvs=>exact⟨φ',_,_,h',rfl,k1,VR.tuple' (.cons hv (.cons Un hvs)),M5,hx2⟩
   cases x with
   |normal=>exact fin g1
   |exit i=>exact absurd g1 hfl
   |ret=>exact fin g1
theorem vO.call{V:Z7 β}{f:FuncId}{args:Array Value}(hc:vN good P φ h w V f args){s:Sem Next}(hs:s.run P w=(callFunc f args).run P w):vO good P φ h w V (s.run P w):=
 .inr (.inl ⟨f,args,by rw[hs,hc.1],hc.2⟩)
theorem HR.yS(hr:HR P φ h w){b:Nat}{st:LoopState}{mg:Option Ex}{tm:T Value}{ps:List Nat}{x y:Code}{pl:Pl}(hb:h.bl.get b=some (.loop st mg tm ps x y))(hp:φ b=some pl):∃r,w.heap[pl.B]? = some (.loop r)/\r.state=st/\B8 mg r.pending/\r.params.toList=ps/\r.assign=x/\r.body=y/\
   ∃nt,En nt ps x y/\r.tmps.size=nt/\∀t,t<nt->VR φ (cL tm t) (r.tmps.getD t undef):=by
 have:=hr.obj b _ pl hb hp;cases hO:w.heap[pl.B]? with
 |none=>rw[hO]at this;exact this.elim
 |some O=>
  rw[hO]at this;cases O<;>simp only[OR]at this<;>try exact this.elim
  exact⟨_,rfl,this⟩
theorem HR.uh(hr:HR P φ h w){b:Nat}(hlo:h.lo<=b){st st':LoopState}{mg wZ:Option Ex}{tm:T Value}{ps:List Nat}{x y:Code}{pl:Pl}(hb:h.bl.get b=some (.loop st mg tm ps x y))(hp:φ b=some pl){r:Loop}(hO:w.heap[pl.B]? = some (.loop r)){pd:Option Code}(Zd:B8 wZ pd):HR P φ ⟨h.nx,h.bl.aV b (.loop st' wZ tm ps x y),h.lo⟩ (w.putObj pl.B (.loop { r with state:=st',pending:=pd }))/\
  Ext φ φ h ⟨h.nx,h.bl.aV b (.loop st' wZ tm ps x y),h.lo⟩ w (w.putObj pl.B (.loop { r with state:=st',pending:=pd })):=by
 obtain⟨r',Xq,k1,k2,k3,k4,k5,k6⟩:=hr.yS hb hp;rw[hO]at Xq;cases Xq;refine hr.Dc hlo hp ⟨_,hb,trivial⟩ (by simp) (λk hk=>World.putObj_heap_other hk) ?_ rfl rfl rfl (.inl trivial);rw[World.putObj_heap_same (hr.dom b pl hp).2];exact⟨rfl,Zd,k3,k4,k5,k6⟩
theorem Px:∀(ps:List Nat)(vs:List Value)(tm:T Value)(V:T Value->β),∃cQ,nj ps vs tm V=V cQ/\
  ∀{φ:ee}{nt:Nat}{vs':List Value}{tmps:Array Value},F2 (VR φ) vs vs'->ps.length=vs.length->ps.all (λt=>Nat.ble (Nat.succ t) nt)=true->nt<=1000000000000->tmps.size=nt->(∀t,t<nt->VR φ (cL tm t) (tmps.getD t undef))->
   ((ps.zip vs').foldl (λt (x:Nat × Value)=>t.setIfInBounds x.1 x.2) tmps).size=nt/\∀t,t<nt->VR φ (cL cQ t) (((ps.zip vs').foldl (λt (x:Nat × Value)=>t.setIfInBounds x.1 x.2) tmps).getD t undef):=by
 intro ps
 induction ps with
 |nil=>intro vs tm V;exact⟨tm,by cases vs<;>rfl,λ_ _ _ _ h2 h3=>⟨by simpa using h2,by simpa using h3⟩⟩
 |cons p ps ih=>
  intro vs tm V;cases vs with
  |nil=>exact⟨tm,rfl,λ_ h1 _ _ _ _=>by simp at h1⟩
  |cons v vs=>
   obtain⟨cQ,e1,e2⟩:=ih vs (tm.aV p v) V;refine⟨cQ,by show T.set tm p v (λtm=>nj ps vs tm V)=_;rw[T.cg];exact e1,?_⟩;intro φ nt vs' tmps hv hl hps hnt hsz alD;cases hv with
   |cons hv hvs=>
    simp only[List.all_cons,Bool.and_eq_true]at hps;have hp:p<nt:=dP hps.1;simp only[List.zip_cons_cons,List.foldl_cons];refine e2 hvs (by simpa using hl) hps.2 hnt (by simpa using hsz) ?_;intro t ht;simp only[cL];rw[T.nk tm v (rD hnt hp) (rD hnt ht)];have:=alD t ht;simp only[Array.getD_eq_getD_getElem?]at this ⊢;by_cases he:p=t
    .subst he;rw[if_pos rfl,Array.getElem?_setIfInBounds_self_of_lt (by omega)];exact hv
    .rw[if_neg he,Array.getElem?_setIfInBounds_ne he];exact this
theorem B8.jump{e:Ex}:∀{c:Option Code},B8 (some e) c->(e=.ret/\c=some .ret)\/∃i,e=.exit i/\c=some (.exit i):=by
 intro c hp;cases e<;>cases c<;>try exact hp.elim
 all_goals (rename_i c;cases c<;>try exact hp.elim)
 .exact .inr ⟨_,rfl,by have:_=_:=hp;rw[this]⟩
 .exact .inl ⟨rfl,rfl⟩
theorem Dh(hfl:¬good fl){rec:Rec β}(fF:mE good P rec){l:Nat}{pl:Pl}(hp:φ l=some pl){args args':List Value}(ha:F2 (VR φ) args args')(hr:HR P φ h w){V:Z7 β}(hg:good (kR fl rec l args h V)):vO good P φ h w V ((Instr.yield pl.B args'.toArray).run P w):=by
 unfold kR at hg;split at hg<;>try cases hfl hg
 rename_i st mg lJ ps x y hb;split at hg<;>try cases hfl hg
 rename_i hlen;have hlen:=cz hlen;obtain⟨r,hO,k1,k2,k3,k4,k5,nt,k6,k7,k8⟩:=hr.yS hb hp;obtain⟨tm1,e1,e2⟩:=Px ps args lJ (λtm=>rec x tm h (dI fl rec l y V));rw[e1]at hg;have hal:=ha.length;have hps:r.params.size=ps.length:=by rw[<-k3];simp
 have hy:=run_yield (P:=P) (args:=args'.toArray) hO (by simp;omega);refine .inr (.inr ⟨pl.B,r.fn,_,r.assign,r.body,hy,λr0=>?_⟩);have afJ:(r.params.zip args'.toArray).foldl (λtmps (x:Nat × Value)=>tmps.setIfInBounds x.1 x.2) r.tmps=(ps.zip args').foldl (λt (x:Nat × Value)=>t.setIfInBounds x.1 x.2) r.tmps:=by
  rw[<-Array.foldl_toList,Array.toList_zip,k3]
 obtain⟨f1,f2⟩:=e2 ha (by omega) k6.ps k6.small k7 k8;rw[k4,k5];have hst:TR φ nt tm1 { tmps:=(r.params.zip args'.toArray).foldl (λtmps (x:Nat × Value)=>tmps.setIfInBounds x.1 x.2) r.tmps,defers:=[] }:=by
  rw[afJ];exact⟨f1,k6.small,f2⟩
 have Ze:RoundIn (FR r0) 0 P pl.B r.fn ((r.params.zip args'.toArray).foldl (λtmps (x:Nat × Value)=>tmps.setIfInBounds x.1 x.2) r.tmps) x y w (Zc good P φ h w V):=by
  refine roundIn_of_wpIn (F:=FR r0) trivial ?_;refine wpIn_mono (fF x (some pl.B) tm1 h _ φ w nt _ (.inr k6.ra) k6.ca hst hr hg) ?_;rintro e a1 w1 ⟨x1,tm2,h1,φ1,rfl,g1,g2,g3,g4,ms,g5,g6⟩;unfold dI at g1;split at g1<;>try exact absurd g1 hfl
  split at g1<;>try exact absurd g1 hfl
  rename_i afK arW ps1 x2 y2 hb1;obtain⟨hlo,g1⟩:=bI hfl g1;have hp1:=g4.sub l pl hp;obtain⟨r1,hO1,q1,q2,q3,q4,q5,q6⟩:=g3.yS hb1 hp1;obtain⟨m1,m2⟩:=g3.uh (st':=.busy) (wZ:=afK) hlo hb1 hp1 hO1 (pd:=r1.pending) q2;refine⟨_,run_beginRound hO1 q1,?_⟩;refine wpIn_mono (fF y (some pl.B) tm2 _ _ φ1 _ nt a1 (.inr k6.rb) k6.cb g2 m1 g1) ?_;rintro e a2 w2 ⟨x3,tm3,h3,φ3,rfl,j1,j2,j3,j4,ms2,j5,j6⟩;unfold fO at j1;split at j1<;>try exact absurd j1 hfl
  rename_i st3 apY arX ps3 x4 y4 hb3;have Py:=j4.sub l pl hp1;obtain⟨r3,hO3,_⟩:=j3.yS hb3 Py;have hall:=g4.trans (m2.trans j4);cases x3 with
  |normal=>
   obtain⟨IX,j1⟩:=bI hfl j1;obtain⟨n1,n2⟩:=j3.uh (st':=.ready) (wZ:=none) IX hb3 Py hO3 (pd:=none) trivial;exact⟨_,_,run_endRound none hO3,φ3,_,_,_,rfl,j1,.bool true,n1,hall.trans n2⟩
  |exit i=>
   obtain⟨IX,j1⟩:=bI hfl j1;obtain⟨n1,n2⟩:=j3.uh (st':=.done) (wZ:=some (.exit i)) IX hb3 Py hO3 (pd:=some (.exit i)) rfl;exact⟨_,_,run_endRound (some (.exit i)) hO3,φ3,_,_,_,rfl,j1,.bool false,n1,hall.trans n2⟩
  |ret=>
   obtain⟨IX,j1⟩:=bI hfl j1;obtain⟨n1,n2⟩:=j3.uh (st':=.done) (wZ:=some .ret) IX hb3 Py hO3 (pd:=some .ret) trivial;exact⟨_,_,run_endRound (some .ret) hO3,φ3,_,_,_,rfl,j1,.bool false,n1,hall.trans n2⟩
 exact Ze
theorem yT(hfl:¬good fl)(hp:gQ good pr P){rec:Rec β}(fF:mE good P rec){c:Call}{tm:T Value}{a:Act}(hop:∀y∈c.operands.toList,VR φ (fM tm y) (a.eval y))(hr:HR P φ h w){V:Z7 β}(hg:good (oB fl pr P c rec tm h V)){o:Oper}(ho:o.op=.call c):vO good P φ h w V ((execOp a.eval o).run P w):=by
 obtain⟨callee,args,ts⟩:=c;have hargs:F2 (VR φ) (args.toList.map (fM tm)) (args.toList.map a.eval):=F2.map _ λy hy=>hop y (by simp[Call.operands]at hy ⊢;exact .inr hy);cases callee with
 |builtin b=>exact absurd hg hfl
 |value x=>
  have gen:good (OY tm args.toList λargs=>ev tm x λfv=>sk fl pr P rec fv args h V)->vO good P φ h w V ((execOp a.eval o).run P w):=by
   intro hg;rw[sP,e_]at hg;have vL:VR φ (fM tm x) (a.eval x):=hop x (by simp[Call.operands]);unfold sk at hg;split at hg<;>try cases hfl hg
   rotate_left
   .rename_i l first cap hv
    split at hg<;>try cases hfl hg
    rw[hv]at vL;generalize hz:a.eval x=z at vL;cases vL with
    |yield hp=>
     have:=Dh hfl fF hp hargs hr hg;have he:(args.toList.map a.eval).toArray=args.map a.eval:=by apply Array.ext';simp
     rw[he]at this;simpa[execOp,ho,resolve,hz,Deferred.ofValue,invoke]using this
   rename_i f first cap hv
   rw[hv]at vL;generalize hz:a.eval x=z at vL;cases vL with
   |func fn a1 a1' b1 b1' ha hb vE hvb=>
    have hall:=((F2.toList ha vE).append hargs).append (F2.toList hb hvb);refine vO.call (fW hfl hp fF hall hr hg) ?_;have he:(a1'.toList++args.toList.map a.eval++b1'.toList).toArray=a1'++args.map a.eval++b1':=by apply Array.ext';simp
    rw[he];simp[execOp,ho,resolve,hz,Deferred.ofValue,invoke]
  cases x with
  |func f=>
   simp only[oB,sP]at hg;refine vO.call (fW hfl hp fF hargs hr hg) ?_;have he:(args.toList.map a.eval).toArray=args.map a.eval:=by apply Array.ext';simp
   rw[he];simp[execOp,ho,resolve,Act.eval,Deferred.ofValue,invoke]
  |tmp t=>exact gen hg
  |const v=>exact gen hg
  |global g=>exact gen hg
 |invoke r name=>
  simp only[oB,sP,e_]at hg;have hrv:VR φ (fM tm r) (a.eval r):=hop r (by simp[Call.operands]);unfold O6 at hg;split at hg<;>try cases hfl hg
  rename_i t v hv;have e0:∀(v':Value),a.eval r=.iface t v'->(execOp a.eval o).run P w=(callMethod (.iface t v') name (args.map a.eval)).run P w:=by
   intro v' hz;have hx:(#[Value.iface t v']++args.map a.eval).extract 1 (#[Value.iface t v']++args.map a.eval).size=args.map a.eval:=by
    apply Array.ext';simp;exact List.take_of_length_le (by simp)
   rw[<-hx];have h0:(#[Value.iface t v']++args.map a.eval)[0]? = some (.iface t v'):=by
    rw[Array.getElem?_append_left (by simp)];rfl
   simp[execOp,ho,resolve,hz,invoke,h0]
  have he:∀v':Value,(v'::args.toList.map a.eval).toArray=#[v']++args.map a.eval:=λv'=>by apply Array.ext';simp
  rw[hv]at hrv;generalize hz:a.eval r=z at hrv;cases hrv with
  |iface _ hvv=>
   rename_i v';split at hg
   .rename_i f hm;refine vO.call (fW hfl hp fF (F2.cons hvv hargs) hr hg) ?_;have:=BA (P:=P) (w:=w) hm v';rw[e0 v' hz,he];simp only[callMethod];simp;rw[this];simp
   .split at hg
    rotate_left
    .split at hg<;>try cases hfl hg
     rename_i f ty hm;have hag:ow P ty=some false:=by
      unfold xX at hm;split at hm<;>try contradiction
      split at hm<;>try contradiction
      split at hm<;>try contradiction
      rename_i hag;cases hm;exact hag
     obtain⟨ad,rfl⟩:=Cc hfl hg hvv;obtain⟨v2,v2',g1,g2,g3⟩:=nq hfl hag hg hvv hr;rw[jB]at g3;have hmm:=BC (P:=P) (w:=w) (ad:=ad) hm g3;refine vO.call (fW hfl hp fF (F2.cons g2 hargs) hr g1) ?_;rw[e0 _ hz,he];simp only[callMethod];simp;rw[hmm];simp
    rename_i f off ty hm;unfold fieldAddrB at hg;split at hg<;>try cases hfl hg
    rename_i b ob;rw[b6]at hg;cases hvv with
    |ptr hpp=>
     rename_i pl;have hag:ow P ty=some false:=by
      unfold xW at hm;split at hm<;>try contradiction
      split at hm<;>try contradiction
      split at hm<;>try contradiction
      split at hm<;>try contradiction
      split at hm<;>try contradiction
      split at hm<;>try contradiction
      rename_i hag _ _;cases hm;exact hag
     obtain⟨v2,v2',g1,g2,g3⟩:=nq hfl hag hg (VR.ptr hpp) hr;rw[jB,show(⟨pl.B,ob.add off,none⟩:Addr)=(⟨pl.B,ob,none⟩:Addr).add off from(by simp[Addr.add])]at g3;have hmm:=(BB (P:=P) (w:=w) (ad:=⟨pl.B,ob,none⟩) hm g3).2;refine vO.call (fW hfl hp fF (F2.cons g2 hargs) hr g1) ?_;rw[e0 _ hz,he];simp only[callMethod];simp;rw[hmm];simp
end Go.Vai

namespace Go.Vai
open Go
variable {β:Type}{fl:β}{good:β->Prop}{pr:ko β}{P:Program}{φ:ee}{h:Heap}{w:World}{t:TypeId}
theorem EH(hfl:¬good fl)(hp:gQ good pr P){rec:Rec β}(fF:mE good P rec){op:Op}{tm:T Value}{a:Act}(hρ:∀y∈op.operands.toList,VR φ (fM tm y) (a.eval y))(hr:HR P φ h w){V:Z7 β}(hg:good (qu fl pr P op rec tm h V)){o:Oper}(ho:o.op=op):vO good P φ h w V ((execOp a.eval o).run P w):=by
 unfold qu at hg;cases hR:qb fl P op with
 |some i=>
  rw[hR]at hg;obtain⟨v,v',g1,g2,g3⟩:=wW hfl hR hρ hr hg ho;exact .inl ⟨φ,v,v',h,w,.value v',g1,g2,hr,Ext.refl _ _ _,g3,.inl rfl⟩
 |none=>
  cases hA:sj fl P op with
  |some i=>
   simp only[hR,hA]at hg;obtain⟨ob,mk,O,g1,g2,g3,g4,g5⟩:=wY (P:=P) (w:=w) (good:=good) hfl hA hρ hg ho;obtain⟨k1,k2⟩:=dA hfl g1;obtain⟨m1,m2⟩:=hr.fresh k1 0 0 (g3 _) g2;exact .inl ⟨_,_,_,_,_,.value _,k2,g4 _ _ _ (eO _ _ _),m1,m2,g5,.inl rfl⟩
  |none=>
   cases hW:B3 fl P op with
   |some i=>
    simp only[hR,hA,hW]at hg;exact .inl (EF hfl hW hρ hr hg ho)
   |none=>
    simp only[hR,hA,hW]at hg;cases op with
    |call c=>exact yT hfl hp fF hρ hr hg ho
    |next it s=>
     cases s with
     |true=>exact absurd hg hfl
     |false=>
      simp only[e_]at hg;obtain⟨v,v',h',w',g1,g2,g3,g4,g5⟩:=Ey (ty:=o.type) hfl hp.both hr hg (hρ it (by simp[Op.operands]));exact .inl ⟨φ,v,v',h',w',.value v',g1,g2,g3,g4,by simp only[execOp,ho];exact jP g5,.inl rfl⟩
    |_=>exact absurd hg hfl
theorem EI(hfl:¬good fl){rec:Rec β}{op:Op}{tm:T Value}{V:Z7 β}(hg:good (qu fl pr P op rec tm h V)):∀c,op≠.defer c:=by
 rintro c rfl;exact hfl hg
theorem EJ(hfl:¬good fl)(hp:gQ good pr P){rec:Rec β}(fF:mE good P rec){o:Oper}{tm:T Value}{a:Act}(hρ:∀y∈o.op.operands.toList,VR φ (fM tm y) (a.eval y))(hr:HR P φ h w){V:Z7 β}(hg:good (qu fl pr P o.op rec tm h V)){next:Act->World->Prop}{Q:Exit->Act->World->Prop}{r0:Option Nat}(hn:∀φ' v v' h' w',good (V v h')->VR φ' v v'->HR P φ' h' w'->Ext φ φ' h h' w w'->next (a.put o.dst v') w'):o.wpIn (FR r0) 0 P a w next Q:=by
 refine⟨lX,?_⟩;rw[Oper.semAt_eq _ _ _ (EI hfl hg)];exact(EH hfl hp fF hρ hr hg rfl).upon hn
theorem Cd{ops:Array Oper}{o:Oper}{g:Option (Nat × Bool)}(hg:guardOf ops.toList o=some g){tm:T Value}{a:Act}(ht:∀s w,g=some (s,w)->s∈c_ ops.toList o->s<a.tmps.size/\VR φ (cL tm s) (a.tmps.getD s undef)):Region.wanted o (yielded ops a.tmps)=iB tm g:=by
 unfold guardOf at hg;unfold Region.wanted;split at hg
 .rename_i hgu;cases hg;rw[hgu];rfl
 .rename_i j w hgu;rw[hgu];split at hg<;>try contradiction
  rename_i d _ _ _ _ _ hq;cases hg;have hlk:d∈c_ ops.toList o:=by
   simp[c_,hgu,Array.getElem?_toList]at hq ⊢;rw[hq];simp
  obtain⟨hlt,hr⟩:=ht d w rfl hlk;rw[Array.getElem?_toList]at hq;have Kt:=hq;obtain⟨v',wS⟩:∃v',a.tmps[d]? = some v':=⟨_,getElem?_pos a.tmps d hlt⟩
  rw[Array.getD_eq_getD_getElem?,wS,Option.getD_some]at hr;simp only[yielded,Kt,Option.bind_some,wS,iB];generalize cL tm d=v at hr;cases hr<;>cases w<;>first|rfl|(rename_i b;cases b<;>rfl)
theorem mF{ops:Array Oper}{nt:Nat}(hok:∀q∈ops.toList,fE nt q=true){o:Oper}(ho:o∈ops.toList){s:Nat}(hs:s∈c_ ops.toList o):s<nt:=by
 simp only[c_,List.mem_append,List.mem_filterMap]at hs;rcases hs with⟨y,hy,hys⟩|hs
 .have:=sV (hok o ho) y hy;cases y<;>simp at hys;subst hys;exact dP this
 .split at hs
  .rename_i g w hg;cases hq:ops.toList[g]? with
   |none=>rw[hq]at hs;simp at hs
   |some q=>
    rw[hq]at hs;simp at hs;have:=dQ (hok q (List.mem_of_getElem? hq));rw[hs]at this;exact dP this
  .cases hs
theorem uj(hfl:¬good fl)(hp:gQ good pr P){rec:Rec β}(fF:mE good P rec){ops:Array Oper}{nt:Nat}(hok:∀q∈ops.toList,fE nt q=true){V:T Value->Heap->β}{r0:Option Nat}{Q:Exit->Act->World->Prop}{ds:List Deferred}{φ0:ee}{h0:Heap}{w0:World}{lJ:T Value}(hQ:∀cQ h' φ' a' w',good (V cQ h')->TR φ' nt cQ a'->HR P φ' h' w'->Ext φ0 φ' h0 h' w0 w'->a'.defers=ds->(∀t,t<nt->(∀(i:Nat)(o:Oper),ops[i]? = some o->o.dst≠some t)->cL cQ t=cL lJ t)->Q .normal a' w'):∀(os:List Oper)(i:Nat)(φ:ee)(tm:T Value)(h:Heap)(a:Act)(w:World),(∀k,os[k]? = ops[i+k]?)->TR φ nt tm a->HR P φ h w->Ext φ0 φ h0 h w0 w->a.defers=ds->(∀t,t<nt->(∀(i:Nat)(o:Oper),ops[i]? = some o->o.dst≠some t)->cL tm t=cL lJ t)->
   good (pL fl pr P rec ops.toList os tm h V)->wpOpsIn (FR r0) 0 P ops Q (List.range' i os.length) a w:=by
 intro os
 induction os with
 |nil=>
  intro i φ tm h a w _ ht hr hx hd hkp hg;exact hQ tm h φ a w hg ht hr hx hd hkp
 |cons o os ih=>
  intro i φ tm h a w hos ht hr hx hd hkp hg;have ho:ops[i]? = some o:=by have:=hos 0;simpa using this.symm
  have afL:∀k,os[k]? = ops[i+1+k]?:=λk=>by have:=hos (k+1);rw[show i+1+k=i+(k+1)by omega];simpa using this
  have hmem:o∈ops.toList:=by
   have:ops.toList[i]? = some o:=by simpa using ho
   exact List.mem_of_getElem? this
  have hoo:=hok o hmem
  show wpOpsIn (FR r0) 0 P ops Q (i::List.range' (i+1) os.length) a w
  simp only[wpOpsIn,ho];have hg':good (XO.rec (motive:=λ_=>β)
   (λg d f=>Bool.rec (motive:=λ_=>β) (qi tm d undef h λtm h=>pL fl pr P rec ops.toList os tm h V)
    (f rec tm h λv h=>qi tm d v h λtm h=>pL fl pr P rec ops.toList os tm h V) (iB tm g))
   (B4 fl pr P ops.toList o)):=hg
  have put_defers:∀(d:Option Tmp)(v:Value),(a.put d v).defers=ds:=λd v=>by cases d<;>exact hd
  have kp:∀(v:Value)(t:Nat),t<nt->(∀(i:Nat)(o:Oper),ops[i]? = some o->o.dst≠some t)->cL (jK tm o.dst v) t=cL lJ t:=λv t hlt hno=>by
   rw[gP ht.small (dQ hoo) hlt,if_neg (hno i o ho)];exact hkp t hlt hno
  cases IY:guardOf ops.toList o with
  |none=>
   simp only[B4,IY]at hg';exact absurd hg' hfl
  |some g=>
   simp only[B4,IY]at hg';rw[Cd (φ:=φ) (tm:=tm) IY λs w _ hs=>⟨by rw[ht.size];exact mF hok hmem hs,ht.rel s (mF hok hmem hs)⟩];cases hw:iB tm g with
   |false=>
    rw[hw]at hg';simp only[gO]at hg';rw[if_neg (by simp)];refine⟨lX,?_⟩;exact ih (i+1) φ _ h _ w afL (ht.put (dQ hoo) VR.undef) hr hx (put_defers _ _) (kp _) hg'
   |true=>
    rw[hw]at hg';simp only[gO]at hg';rw[if_pos rfl];refine EJ hfl hp fF (λy hy=>ht.eval (sV hoo y hy)) hr hg' ?_;intro φ' v v' h' w' g1 g2 g3 g4;exact ih (i+1) φ' _ h' _ w' afL ((ht.mono g4.sub).put (dQ hoo) g2) g3 (hx.trans g4) (put_defers _ _) (kp _) g1
def IZ(good:β->Prop)(fl:β)(pr:ko β)(P:Program):Prop:=
 ∀(rec:Rec β),mE good P rec->∀(ops:Array Oper)(id nt:Nat),(∀q∈ops.toList,fE nt q=true)->∀(φ:ee)(tm:T Value)(h:Heap)(a:Act)(w:World)(V:T Value->Heap->β),TR φ nt tm a->HR P φ h w->
  good (lU fl pr P rec ops.toList true tm h V)->∀(r0:Option Nat)(Q:Exit->Act->World->Prop),
   (∀cQ h' φ' a' w',good (V cQ h')->TR φ' nt cQ a'->HR P φ' h' w'->Ext φ φ' h h' w w'->a'.defers=a.defers->(∀t,t<nt->(∀(i:Nat)(o:Oper),ops[i]? = some o->o.dst≠some t)->cL cQ t=cL tm t)->Q .normal a' w')->(Code.region id ops true).wpIn (FR r0) 0 P Q a w
def kS(r:Option Nat)(P:Program)(c:Code)(Q:Exit->Act->World->Prop)(a:Act)(w:World):Prop:=
 ∀(b:Frame)(k:List Item)(cs:List Frame),b.roundOf=r->(FR r).room (cs.length+1+0)->
  ∃e a' w',Q e a' w'/\ArrivesIn (Machine.fenced P (FR r)) P (lone (b.atR a (.code c::.inLoop c::k)) cs w) b k cs e a' w'
variable {ro:Option Nat}
theorem kS.wp{c:Code}{Q:Exit->Act->World->Prop}{a:Act}{w:World}(h:kS ro P c Q a w):(Code.loop c).wpIn (FR ro) 0 P Q a w:=
 λb k cs hro hb hr=>let ⟨e,a',w',q,r⟩:=h b k cs hro hr;⟨e,a',w',q,.of_steps (.one (fenced_calm hb hr rfl) stepR_loop) r⟩
theorem kS.mono{c:Code}{Q Q':Exit->Act->World->Prop}{a:Act}{w:World}(h:kS ro P c Q a w)(hq:∀e a w,Q e a w->Q' e a w):kS ro P c Q' a w:=
 λb k cs hro hr=>let ⟨e,a',w',q,r⟩:=h b k cs hro hr;⟨e,a',w',hq _ _ _ q,r⟩
theorem kS.round{c:Code}{Q:Exit->Act->World->Prop}{a:Act}{w:World}(h:c.wpIn (FR ro) 0 P (Exit.then (kS ro P c Q) Q) a w):kS ro P c Q a w:=by
 intro b k cs hro hr;have hb:(FR ro).fn b.fn:=trivial;obtain⟨e,a₁,w₁,hq,r6⟩:=h b (.inLoop c::k) cs hro hb hr;cases e with
 |normal=>
  obtain⟨e₂,a₂,w₂,hq₂,afM⟩:=hq b k cs hro hr;exact⟨e₂,a₂,w₂,hq₂,.of_steps (StepsIn.trans r6 (.one (fenced_calm hb hr rfl) stepR_inLoop)) afM⟩
 |exit id=>exact⟨_,a₁,w₁,hq,.pass (x:=.inLoop c) rfl (λ_ _=>.inl (by simp)) r6⟩
 |goto l=>exact⟨_,a₁,w₁,hq,.pass (x:=.inLoop c) rfl (λ_ _=>.inl (by simp)) r6⟩
 |ret=>exact⟨_,a₁,w₁,hq,.pass (x:=.inLoop c) rfl (λ_ _=>.inl (by simp)) r6⟩
 |panic ch=>exact⟨_,a₁,w₁,hq,.pass (x:=.inLoop c) rfl (λ_ _=>.inl (by simp)) r6⟩
 |outgrown=>exact⟨_,a₁,w₁,hq,.pass (x:=.inLoop c) rfl (λ_ _=>.inl (by simp)) r6⟩
theorem Post.after{nt:Nat}{φ1:ee}{h1:Heap}{w1:World}{a1:Act}{ds ms:List Deferred}{V:Ex->T Value->Heap->β}{e:Exit}{a2:Act}{w2:World}(hx:Ext φ φ1 h h1 w w1)(hd:a1.defers=ms++ds)(hm:Marks w.heap.size φ1 w1 w1.heap.size ms)(hp:Post good P nt φ1 h1 w1 a1.defers V e a2 w2):Post good P nt φ h w ds V e a2 w2:=by
 obtain⟨x,tm,h2,φ2,rfl,k1,k2,k3,k4,ms2,k5,k6⟩:=hp;refine⟨x,tm,h2,φ2,rfl,k1,k2,k3,hx.trans k4,ms2++ms,by rw[k5,hd,List.append_assoc],?_⟩;exact(hm.mono k4 (Nat.le_refl _)).append hx.size (Nat.le_refl _) k4.size k6
theorem Post.here{nt:Nat}{tm:T Value}{a:Act}{V:Ex->T Value->Heap->β}{x:Ex}(ht:TR φ nt tm a)(hr:HR P φ h w)(hg:good (V x tm h)):Post good P nt φ h w a.defers V (Pw x) a w:=
 ⟨x,tm,h,φ,rfl,hg,ht,hr,Ext.refl _ _ _,[],rfl,trivial⟩
def rE(good:β->Prop)(P:Program)(rec:Rec β):Prop:=
 ∀(c:Code)(r:Option Nat)(tm:T Value)(h:Heap)(V:Ex->T Value->Heap->β)(φ:ee)(w:World)(nt:Nat)(a:Act),(r=none\/qt c=true)->codeOk nt c=true->TR φ nt tm a->HR P φ h w->good (rec (.loop c) tm h V)->
  kS r P c (Post good P nt φ h w a.defers V) a w
theorem qJ{rec:Rec β}(fF:mE good P rec)(Pz:rE good P rec):rE good P (body fl pr P rec):=by
 intro c r tm h V φ w nt a hn hc ht hr hg;have hg':good (rec c tm h (oC rec (.loop c) V)):=hg;refine kS.round (wpIn_mono (fF c r tm h _ φ w nt a hn hc ht hr hg') ?_);rintro e a' w' ⟨e0,cQ,h',φ',rfl,g1,g2,g3,g4,ms,g5,g6⟩;cases e0 with
 |normal=>exact(Pz c r cQ h' V φ' w' nt a' hn hc g2 g3 g1).mono λe a2 w2 hp=>Post.after g4 g5 g6 hp
 |exit i=>exact⟨.exit i,cQ,h',φ',rfl,g1,g2,g3,g4,ms,g5,g6⟩
 |ret=>exact⟨.ret,cQ,h',φ',rfl,g1,g2,g3,g4,ms,g5,g6⟩
theorem x8{r:Option Nat}{x y z:Code}(hn:r=none\/qt z=true)(hz:qt z=(qt x && qt y)):(r=none\/qt x=true)/\(r=none\/qt y=true):=by
 rcases hn with hn|hn
 .exact⟨.inl hn,.inl hn⟩
 .rw[hz,Bool.and_eq_true]at hn;exact⟨.inr hn.1,.inr hn.2⟩
theorem ji{b:Frame}{a:Act}{k:List Item}{cs:List Frame}{w:World}{c:Code}:step P (lone (b.atR a (.code (.scope c)::k)) cs w)=.next (lone (b.atR a (.code c::.inScope c::k)) cs w):=
 step_lone_go (by simp[stepG,stepG.exec,Frame.atR])
theorem BD{b:Frame}{a:Act}{k:List Item}{cs:List Frame}{w:World}{c:Code}:step P (lone (b.atR a (.inScope c::k)) cs w)=.next (lone (b.atR a k) cs w):=
 step_lone_go (by simp[stepG,stepG.exec,Frame.atR])
theorem yU{F:Fence}{n:Nat}{c:Code}{Q:Exit->Act->World->Prop}{a:Act}{w:World}(h:c.wpIn F n P Q a w)(hg:∀l a w,¬Q (.goto l) a w):(Code.scope c).wpIn F n P Q a w:=by
 intro b k cs hro hb hr;have h0:(lone (b.atR a (.code (.scope c)::k)) cs w).fenced P F:=fenced_calm hb hr rfl;obtain⟨e,a₁,w₁,hq,r6⟩:=h b (.inScope c::k) cs hro hb hr;cases e with
 |normal=>exact⟨.normal,a₁,w₁,hq,.head h0 ji (StepsIn.trans r6 (.one (fenced_calm hb hr rfl) BD))⟩
 |exit id=>
  have hx:exitTo id (.inScope c::k)=exitTo id k:=by simp[exitTo]
  exact⟨_,a₁,w₁,hq,λk' hk=>.head h0 ji (r6.1 k' (by rw[hx];exact hk)),
   λhr' hk=>let ⟨k₁,h1,h2⟩:=r6.2 hr' (by rw[hx];exact hk);⟨k₁,h1,.head h0 ji h2⟩⟩
 |goto l=>exact absurd hq (hg l a₁ w₁)
 |ret=>exact⟨_,a₁,w₁,hq,.of_steps (.one h0 ji) r6⟩
 |panic ch=>exact⟨_,a₁,w₁,hq,.of_steps (.one h0 ji) r6⟩
 |outgrown=>exact⟨_,a₁,w₁,hq,.of_steps (.one h0 ji) r6⟩
theorem vP(hfl:¬good fl)(hp:gQ good pr P){rec:Rec β}(fF:mE good P rec){g:Operand}{ps:Array Tmp}{x y:Code}{nt:Nat}{tm:T Value}{a:Act}(hc:codeOk nt (.rangeFunc g ps x y)=true)(ht:TR φ nt tm a)(hr:HR P φ h w){V:Ex->T Value->Heap->β}(hg:good (dN fl pr P rec ps.toList x y tm h V (fM tm g))):(Code.rangeFunc g ps x y).wpIn (FR none) 0 P (Post good P nt φ h w a.defers V) a w:=by
 simp only[codeOk,Bool.and_eq_true]at hc;obtain⟨⟨⟨⟨⟨hcg,hcp⟩,hca⟩,hcb⟩,hra⟩,hrb⟩:=hc;have hgv:=ht.eval hcg;unfold dN at hg;split at hg<;>try cases hfl hg
 rename_i f first cap hv
 obtain⟨hn,hg⟩:=dA hfl hg;rw[hv]at hgv;generalize hz:a.eval g=z at hgv;cases hgv with
 |func fn a1 a1' b1 b1' ha hb vE hvb=>
  refine wpIn_rangeFunc λfn0 _=>?_;have hx0:Ext φ φ h h w (w.alloc (.deferred (some []))):=by
   refine⟨Sub.refl φ,λb pl e e'=>(by rw[e]at e';cases e'),Nat.le_refl _,by simp,λB hB _=>ef hB,λ_ _ _=>rfl,rfl,rfl,rfl,λB hB=>?_,rfl,λ_ _=>rfl,λx o pl h1 h2 h3 h4 h5=>ef h5,Nat.le_refl _⟩;rcases Nat.lt_trichotomy B w.heap.size with hl|hl|hl
   .rw[ef hl];exact hB
   .subst hl;rw[nU];trivial
   .have:(w.alloc (.deferred (some []))).heap[B]? = none:=by show(w.heap.push _)[B]? = _;simp;omega
    rw[this];trivial
  have I1:HR P φ h (w.alloc (.deferred (some []))):=
   ⟨λb o pl h1 h2=>by rw[ef (hr.dom b pl h2).2];exact hr.obj b o pl h1 h2,λb pl h1=>⟨(hr.dom b pl h1).1,by have:=(hr.dom b pl h1).2;simp;omega⟩,hr.keys,hr.Pb,hr.inj,hr.lo⟩
  have MZ:OR P φ (.loop .ready none tm ps.toList x y) ⟨(w.alloc (.deferred (some []))).heap.size,0,0⟩ (some (.loop { state:=.ready,pending:=none,fn:=fn0,tmps:=a.tmps,params:=ps,assign:=x,body:=y,defers:=w.heap.size })):=
   ⟨rfl,trivial,rfl,rfl,rfl,nt,⟨ht.small,hcp,hca,hcb,hra,hrb⟩,ht.size,ht.rel⟩
  obtain⟨Pp,hx1⟩:=I1.fresh hn 0 0 MZ trivial;have afN:=hx0.trans hx1;have hl:(iD φ h.nx ⟨(w.alloc (.deferred (some []))).heap.size,0,0⟩) h.nx=some ⟨(w.alloc (.deferred (some []))).heap.size,0,0⟩:=eO _ _ _;have hmk:∀b pl,φ b=some pl->pl.B≠w.heap.size:=λb pl hb=>by have:=(hr.dom b pl hb).2;omega
  have hD0:(w.alloc (.deferred (some []))).heap[w.heap.size]? = some (.deferred (some [])):=nU;have hD1:=hx1.Bs w.heap.size (by simp) hmk;have alG:=hx1.Xx (D:=w.heap.size) (by simp) hmk;have hargs:=(((F2.toList ha vE).imp λ_ _ r=>r.mono hx1.sub).append (.cons (VR.yield hl) .nil)).append ((F2.toList hb hvb).imp λ_ _ r=>r.mono hx1.sub);have yR:=fW hfl hp fF hargs Pp hg
  have hM1:Marks w.heap.size (iD φ h.nx ⟨(w.alloc (.deferred (some []))).heap.size,0,0⟩) ((w.alloc (.deferred (some []))).alloc (.loop { state:=.ready,pending:=none,fn:=fn0,tmps:=a.tmps,params:=ps,assign:=x,body:=y,defers:=w.heap.size }))
    ((w.alloc (.deferred (some []))).alloc (.loop { state:=.ready,pending:=none,fn:=fn0,tmps:=a.tmps,params:=ps,assign:=x,body:=y,defers:=w.heap.size })).heap.size [{ target:=.collected w.heap.size,args:=#[] }]:=
   ⟨w.heap.size,rfl,Nat.le_refl _,by simp;omega,hD1.trans hD0,alG,trivial⟩
  have hsz:(w.alloc (.deferred (some []))).heap.size=w.heap.size+1:=by simp
  rw[hsz]at yR hl hx1 afN hM1;refine⟨w.heap.size+1,[{ target:=.collected w.heap.size,args:=#[] }],(w.alloc (.deferred (some []))).alloc (.loop { state:=.ready,pending:=none,fn:=fn0,tmps:=a.tmps,params:=ps,assign:=x,body:=y,defers:=w.heap.size }),
   { target:=.fn (.func f) b1',args:=a1'++#[.func (.yield (w.heap.size+1)) #[] #[]] },((w.alloc (.deferred (some []))).alloc (.loop { state:=.ready,pending:=none,fn:=fn0,tmps:=a.tmps,params:=ps,assign:=x,body:=y,defers:=w.heap.size })),f,_,((w.alloc (.deferred (some []))).alloc (.loop { state:=.ready,pending:=none,fn:=fn0,tmps:=a.tmps,params:=ps,assign:=x,body:=y,defers:=w.heap.size })),run_enterLoop_outer _ _ _ _ _,?_,λ_ _=>trivial,?_,λhh=>(by cases hh),x7.2 (Calls.mono yR.2 ?_)⟩
  .have alH:∀v,a.eval (.const v)=v:=λ_=>rfl;simp[resolve,hz,Deferred.ofValue,alH]
  .have:=yR.1;have he:(a1'.toList++[Value.func (.yield (w.heap.size+1)) #[] #[]]++b1'.toList).toArray=a1'++#[.func (.yield (w.heap.size+1)) #[] #[]]++b1':=by apply Array.ext';simp
   rw[he]at this ⊢;simpa[invoke]using this
  .rintro e w2 ⟨φ2,v,v',h2,rfl,g1,g2,g3,g4⟩;unfold dG at g1;split at g1<;>try exact absurd g1 hfl
   rename_i st mg tm2 ps2 x2 y2 hb2;have hp2:=g4.sub _ _ hl;obtain⟨r2,hO2,q1,q2,q3,q4,q5,q6⟩:=g3.yS hb2 hp2;split at g1
   .exact absurd g1 hfl
   rename_i hst;obtain⟨PA,g1⟩:=bI hfl g1;obtain⟨n1,n2⟩:=g3.uh (st':=.exhausted) (wZ:=mg) PA hb2 hp2 hO2 (pd:=r2.pending) q2;have hend:=run_endLoop (P:=P) hO2 (by rw[q1];exact hst);have afO:=g4.trans n2;have hM2:=hM1.mono afO (Nat.le_refl _);have yV:=afN.trans afO;have htt:TR φ2 nt tm { a with defers:=[{ target:=.collected w.heap.size,args:=#[] }]++a.defers }:=⟨ht.size,ht.small,λt hlt=>(ht.rel t hlt).mono yV.sub⟩
   have OZ:=hM2.le (U':=(w2.putObj (w.heap.size+1) (.loop { r2 with state:=.exhausted,pending:=r2.pending })).heap.size) (by have:=g4.size;simp at this ⊢;omega);refine⟨r2.pending,_,hend,?_⟩;cases mg with
   |none=>
    have Zd:r2.pending=none:=by
     cases hq:r2.pending with
     |none=>rfl
     |some c=>rw[hq]at q2;exact q2.elim
    rw[Zd]at n1 yV OZ ⊢;exact⟨.normal,tm,_,φ2,rfl,g1,htt,n1,yV,_,rfl,OZ⟩
   |some ex=>
    rcases B8.jump q2 with⟨rfl,Zd⟩|⟨i,rfl,Zd⟩
    .rw[Zd]at n1 yV OZ ⊢;exact wpIn_ret ⟨.ret,tm,_,φ2,rfl,g1,htt,n1,yV,_,rfl,OZ⟩
    .rw[Zd]at n1 yV OZ ⊢;exact wpIn_exit ⟨.exit i,tm,_,φ2,rfl,g1,htt,n1,yV,_,rfl,OZ⟩
theorem I3(hfl:¬good fl)(hp:gQ good pr P)(Kv:IZ good fl pr P){rec:Rec β}(fF:mE good P rec)(Pz:rE good P rec):mE good P (body fl pr P rec):=by
 intro c r tm h V φ w nt a hn hc ht hr hg;cases c with
 |skip=>exact wpIn_skip (Post.here (x:=.normal) ht hr hg)
 |label l=>exact wpIn_label (Post.here (x:=.normal) ht hr hg)
 |ret=>exact wpIn_ret (Post.here (x:=.ret) ht hr hg)
 |exit id=>exact wpIn_exit (Post.here (x:=.exit id) ht hr hg)
 |region id os draw=>
  have hok:∀q∈os.toList,fE nt q=true:=by
   simp only[codeOk,List.all_eq_true]at hc;exact hc
  have hQ:∀cQ h' φ' a' w',good ((λtm h=>V .normal tm h) cQ h')->TR φ' nt cQ a'->HR P φ' h' w'->Ext φ φ' h h' w w'->a'.defers=a.defers->Post good P nt φ h w a.defers V .normal a' w':=
   λcQ h' φ' a' w' g1 g2 g3 g4 g5=>⟨.normal,cQ,h',φ',rfl,g1,g2,g3,g4,[],g5,trivial⟩
  cases draw with
  |false=>
   refine wpIn_region ?_;rw[List.range_eq_range'];have:=uj (r0:=r) (lJ:=tm) hfl hp fF hok (λcQ h' φ' a' w' g1 g2 g3 g4 g5 _=>hQ cQ h' φ' a' w' g1 g2 g3 g4 g5) os.toList 0 φ tm h a w (λk=>by simp) ht hr (Ext.refl _ _ _) rfl (λ_ _ _=>rfl) hg;simpa using this
  |true=>exact Kv rec fF os id nt hok φ tm h a w _ ht hr hg r _ λcQ h' φ' a' w' g1 g2 g3 g4 g5 _=>hQ cQ h' φ' a' w' g1 g2 g3 g4 g5
 |seq x y=>
  simp only[codeOk,Bool.and_eq_true]at hc;obtain⟨xL,hn2⟩:=x8 (x:=x) (y:=y) hn rfl;have hg':good (rec x tm h (oC rec y V)):=hg;refine wpIn_seq (wpIn_mono (fF x r tm h _ φ w nt a xL hc.1 ht hr hg') ?_);rintro e a' w' ⟨e0,cQ,h',φ',rfl,g1,g2,g3,g4,ms,g5,g6⟩;cases e0 with
  |normal=>exact wpIn_mono (fF y r cQ h' V φ' w' nt a' hn2 hc.2 g2 g3 g1) λe a2 w2 hp=>Post.after g4 g5 g6 hp
  |exit i=>exact⟨.exit i,cQ,h',φ',rfl,g1,g2,g3,g4,ms,g5,g6⟩
  |ret=>exact⟨.ret,cQ,h',φ',rfl,g1,g2,g3,g4,ms,g5,g6⟩
 |cond x c1 c2=>
  simp only[codeOk,Bool.and_eq_true]at hc;obtain⟨xL,hn2⟩:=x8 (x:=c1) (y:=c2) hn rfl;have hg':good (ev tm x (oD fl rec c1 c2 tm h V)):=hg;rw[e_]at hg';have hx:=ht.eval hc.1.1;unfold oD at hg';split at hg'<;>try exact absurd hg' hfl
  .rename_i hv;rw[hv]at hx;refine wpIn_cond_true (by generalize a.eval x=z at hx;cases hx;rfl) (fF c1 r tm h V φ w nt a xL hc.1.2 ht hr hg')
  .rename_i hv;rw[hv]at hx;refine wpIn_cond_false (by generalize a.eval x=z at hx;cases hx;rfl) (fF c2 r tm h V φ w nt a hn2 hc.2 ht hr hg')
 |block id c=>
  have hg':good (rec c tm h (iW id V)):=hg;refine wpIn_block (wpIn_mono (fF c r tm h _ φ w nt a hn hc ht hr hg') ?_);rintro e a' w' ⟨e0,cQ,h',φ',rfl,g1,g2,g3,g4,ms,g5,g6⟩;cases e0 with
  |normal=>exact⟨.normal,cQ,h',φ',rfl,g1,g2,g3,g4,ms,g5,g6⟩
  |ret=>exact⟨.ret,cQ,h',φ',rfl,g1,g2,g3,g4,ms,g5,g6⟩
  |exit i=>
   simp only[iW]at g1;simp only[Pw,Exit.inBlock];split at g1
   .rename_i hb;have hb:=cz hb;rw[if_pos hb];exact⟨.normal,cQ,h',φ',rfl,g1,g2,g3,g4,ms,g5,g6⟩
   .rename_i hb;have hb:=oE hb;rw[if_neg hb];exact⟨.exit i,cQ,h',φ',rfl,g1,g2,g3,g4,ms,g5,g6⟩
 |scope c=>
  refine yU (fF c r tm h V φ w nt a hn hc ht hr hg) ?_;rintro l a' w' ⟨x,cQ,h',φ',hx,_⟩;cases x<;>cases hx
 |loop c=>
  exact(qJ (fl:=fl) (pr:=pr) fF Pz c r tm h V φ w nt a hn hc ht hr hg).wp
 |rangeFunc g ps x y=>
  have hg':good (ev tm g (dN fl pr P rec ps.toList x y tm h V)):=hg;rw[e_]at hg';rcases hn with rfl|hn
  .exact vP hfl hp fF hc ht hr hg'
  .cases hn
 |_=>exact absurd hg hfl
theorem Ce(hfl:¬good fl)(hp:gQ good pr P)(Kv:IZ good fl pr P):∀n,mE good P (run fl pr P n)/\rE good P (run fl pr P n):=by
 intro n
 induction n with
 |zero=>exact⟨λc r tm h V φ w nt a _ _ _ _ hg=>absurd hg hfl,λc r tm h V φ w nt a _ _ _ _ hg=>absurd hg hfl⟩
 |succ n ih=>exact⟨I3 hfl hp Kv ih.1 ih.2,qJ ih.1 ih.2⟩
end Go.Vai

namespace Go.Vai
open Go
variable {β:Type}{fl:β}{good:β->Prop}{pr:ko β}{P:Program}{φ:ee}{h h':Heap}{w:World}{t:TypeId}
def XI.opsL:XI β->List Operand
 | .k0 _=>[]
 | .k1 x _=>[x]
 | .k2 x y _=>[x,y]
 | .k3 x y z _=>[x,y,z]
 | .kn xs _=>xs
def XA.opsL:XA β->List Operand
 | .k0 _=>[]
 | .k1 x _=>[x]
 | .k2 x y _=>[x,y]
 | .kn xs _=>xs
theorem XI.congr{i:XI β}{tm cQ:T Value}(he:∀y∈i.opsL,fM cQ y=fM tm y)(h:Heap)(V:Z7 β):i.run cQ h V=i.run tm h V:=by
 cases i with
 |k0 f=>rfl
 |k1 x f=>rw[XI.cB,XI.cB,he x (by simp[XI.opsL])]
 |k2 x y f=>rw[XI.dK,XI.dK,he x (by simp[XI.opsL]),he y (by simp[XI.opsL])]
 |k3 x y z f=>rw[XI.sQ,XI.sQ,he x (by simp[XI.opsL]),he y (by simp[XI.opsL]),he z (by simp[XI.opsL])]
 |kn xs f=>
  have:xs.map (fM cQ)=xs.map (fM tm):=List.map_congr_left he;rw[XI.iG,XI.iG,this]
theorem XA.congr{i:XA β}{tm cQ:T Value}(he:∀y∈i.opsL,fM cQ y=fM tm y)(V:bD->(Nat->Value)->β):i.run cQ V=i.run tm V:=by
 cases i with
 |k0 f=>rfl
 |k1 x f=>rw[XA.cB,XA.cB,he x (by simp[XA.opsL])]
 |k2 x y f=>rw[XA.dK,XA.dK,he x (by simp[XA.opsL]),he y (by simp[XA.opsL])]
 |kn xs f=>
  have:xs.map (fM cQ)=xs.map (fM tm):=List.map_congr_left he;rw[XA.iG,XA.iG,this]
theorem vQ{op:Op}{x:XI β}(hc:qb fl P op=some x):∀y∈x.opsL,y∈op.operands.toList:=by
 cases op<;>simp only[qb]at hc<;>(repeat' split at hc)<;>(try contradiction)<;>cases hc<;>
  simp_all [XI.opsL,Op.operands,Call.operands,qq]
theorem Cf{op:Op}{x:XA β}(hc:sj fl P op=some x):∀y∈x.opsL,y∈op.operands.toList:=by
 cases op<;>simp only[sj]at hc<;>(repeat' split at hc)<;>(try contradiction)<;>cases hc<;>
  simp_all [XA.opsL,Op.operands]
def BE(h h':Heap):Prop:=∀b o,h.bl.get b=some o->h'.bl.get b=some o
theorem yW(hm:BE h h'){b:Nat}(hl:yz h b=true):yz h' b=true:=by
 unfold yz at *
 split at hl<;>try contradiction
 rename_i hb;rw[hm _ _ hb]
theorem M6{rec afP:TypeId->Value->Value->Option Bool}(fF:∀t x y r,rec t x y=some r->afP t x y=some r):∀(fs:List Field)(xs ys:List Value)(r:Bool),
  Br P rec fs xs ys=some r->Br P afP fs xs ys=some r:=by
 intro fs
 induction fs with
 |nil=>intro xs ys r h;exact h
 |cons f fs ih=>
  intro xs ys r h;unfold Br at h ⊢;split at h<;>try contradiction
  rename_i hf;split at h<;>try contradiction
  .rename_i s h1 h2;split at h
   .rename_i e;simp only[fF _ _ _ _ e];exact ih _ _ _ h
   .rename_i r' hr';rw[fF _ _ _ _ h];cases r with
    |true=>exact absurd h (by simpa using hr')
    |false=>rfl
  .rename_i s h1 h2;split at h<;>try contradiction
   rename_i x y hx hy;split at h
   .rename_i e;simp only[fF _ _ _ _ e];exact ih _ _ _ h
   .rename_i r' hr';rw[fF _ _ _ _ h];cases r with
    |true=>exact absurd h (by simpa using hr')
    |false=>rfl
theorem yX(hm:BE h h'):∀(d:Nat)(t:TypeId)(x y:Value)(r:Bool),lT P h d t x y=some r->lT P h' d t x y=some r:=by
 intro d
 induction d with
 |zero=>intro t x y r h;exact h
 |succ d ih=>
  intro t x y r hh;unfold lT at hh ⊢;split at hh<;>try contradiction
  all_goals try exact hh
  .split at hh<;>try contradiction
   split at hh<;>try contradiction
   rename_i l1 l2;simp only[yW hm l1,yW hm l2];exact hh
  .split at hh<;>try contradiction
   exact M6 ih _ _ _ _ hh
theorem yY(hm:BE h h'){kt:TypeId}{k:Value}:∀(es:List MapEntry)(i:Nat) (r:Option (Nat × MapEntry)),ff P h kt k es i=some r->ff P h' kt k es i=some r:=by
 intro es
 induction es with
 |nil=>intro i r h;exact h
 |cons e es ih=>
  intro i r hh;unfold ff at hh ⊢;split at hh<;>try contradiction
  .rename_i he;simp only[yX hm _ _ _ _ _ he];exact hh
  .rename_i he;simp only[yX hm _ _ _ _ _ he];exact ih _ _ hh
theorem Di(hm:BE h h'){e:TypeId}{b n:Nat}(hk:gM h e b=some n):gM h' e b=some n:=by
 unfold gM at *
 split at hk<;>try contradiction
 .rename_i hb;rw[hm _ _ hb];exact hk
 .rename_i hb;rw[hm _ _ hb];exact hk
theorem I4{op:Op}{x:Xm}(hc:qb none P op=some x)(hm:BE h h'){tm:T Value}{v:Value}(hr:k_ x tm h=some v):k_ x tm h'=some v:=by
 unfold k_ at *
 cases op<;>simp only[qb]at hc<;>try (cases hc;done)
 case load t a=>
  split at hc<;>try contradiction
  .cases hc;rw[XI.cB]at hr ⊢;unfold aF at hr ⊢;split at hr<;>try contradiction
   split at hr<;>try contradiction
   .rename_i hb;simp only[hm _ _ hb];exact hr
   .rename_i hb;simp only[hm _ _ hb];exact hr
  .cases hc;rw[XI.cB]at hr ⊢;unfold load1 at hr ⊢;split at hr<;>try contradiction
   split at hr<;>try contradiction
   .rename_i hb;simp only[hm _ _ hb];exact hr
   .rename_i hb;simp only[hm _ _ hb];exact hr
 case binOp op t x y t2=>
  cases hc;rw[XI.dK]at hr ⊢;have hq:∀t a b r,lT P h 100 t a b=some r->lT P h' 100 t a b=some r:=yX hm 100;unfold ay at hr ⊢;split at hr<;>try contradiction
  .exact hr
  .exact hr
  .split at hr<;>try contradiction
   .split at hr<;>try contradiction
    rename_i he;simp only[hq _ _ _ _ he];exact hr
   .split at hr<;>try contradiction
    rename_i he;simp only[hq _ _ _ _ he];exact hr
  .split at hr<;>try contradiction
   .split at hr<;>try contradiction
    rename_i he;simp only[hq _ _ _ _ he];exact hr
   .split at hr<;>try contradiction
    rename_i he;simp only[hq _ _ _ _ he];exact hr
 case slice t x lo hi mx=>
  split at hc<;>try contradiction
  .split at hc<;>try contradiction
   cases hc;rw[XI.iG]at hr ⊢;split at hr<;>try contradiction
   split at hr<;>try contradiction
   unfold sliceB at hr ⊢;split at hr<;>try contradiction
   .exact hr
   .split at hr<;>try contradiction
    .exact hr
    .split at hr<;>try contradiction
     .exact hr
     .split at hr<;>try contradiction
      rename_i hk _;simp only[Di hm hk];exact hr
  .cases hc;rw[XI.iG]at hr ⊢;exact hr
 case lookup t x i ok=>
  split at hc<;>try contradiction
  split at hc<;>try contradiction
  split at hc<;>try contradiction
  cases hc;rw[XI.dK]at hr ⊢;unfold cr ij at hr ⊢;split at hr<;>try contradiction
  split at hr<;>try contradiction
  .exact hr
  .split at hr<;>try contradiction
   rename_i hb;simp only[hm _ _ hb];split at hr<;>try contradiction
   .rename_i hf;simp only[yY hm _ _ _ hf];exact hr
   .rename_i hf;simp only[yY hm _ _ _ hf];exact hr
 case call c=>
  split at hc<;>try contradiction
  .split at hc<;>try contradiction
   split at hc<;>try contradiction
   .cases hc;exact hr
   .cases hc;exact hr
   .cases hc;rw[XI.cB]at hr ⊢;unfold pK at hr ⊢;split at hr<;>try contradiction
    .exact hr
    .split at hr<;>try contradiction
     rename_i hb;simp only[hm _ _ hb];exact hr
  .split at hc<;>try contradiction
   cases hc;rw[XI.dK]at hr ⊢;unfold O3 at hr ⊢;split at hr<;>try contradiction
   split at hr<;>exact hr
  .split at hc<;>try contradiction
   cases hc;rw[XI.dK]at hr ⊢;unfold CY at hr ⊢;split at hr<;>try contradiction
   split at hr<;>exact hr
 all_goals ((repeat' split at hc)<;>(try contradiction)<;>cases hc<;>exact hr)
end Go.Vai

namespace Go.Vai
open Go
variable {β:Type}{fl:β}{good:β->Prop}{pr:ko β}{P:Program}{φ:ee}{h h':Heap}{w:World}{t:TypeId}
theorem EK:∀(os:List Oper)(n k:Nat)(q:Oper),os[k]? = some q->(n+k,q)∈fN os n:=by
 intro os
 induction os with
 |nil=>intro n k q h;simp at h
 |cons o os ih=>
  intro n k q h;cases k with
  |zero=>simp at h;subst h;exact List.mem_cons_self
  |succ k=>
   simp at h;have:=ih (n+1) k q h;rw[show n+(k+1)=n+1+k by omega];exact List.mem_cons_of_mem _ this
theorem dH(D i k:Nat):bit (fP D i) k=(bit D k || decide (i=k)):=by
 show Nat.testBit (D ||| 2 ^ i) k=_
 rw[Nat.testBit_or,Nat.testBit_two_pow];rfl
theorem Zf(D M k:Nat):bit (Nat.lor D M) k=(bit D k || bit M k):=Nat.testBit_or ..
theorem EL(k:Nat):bit 0 k=false:=Nat.zero_testBit k
theorem qK{op:Op}{x:Xm}(h:iC P op=.rd x):qb none P op=some x:=by
 unfold iC at h;split at h<;>try contradiction
 split at h
 .rename_i e;cases h;exact e
 .split at h<;>contradiction
theorem yZ{op:Op}{x:OXA}(h:iC P op=.al x):sj none P op=some x:=by
 unfold iC at h;split at h<;>try contradiction
 split at h<;>try contradiction
 split at h<;>try contradiction
 rename_i e;cases h;exact e
structure Stat(P:Program)(ops:Array Oper)(i:Nat)(o:Oper):Prop where
 k1:∀j q,ops[j]? = some q->gH P q=false->∀t∈c_ ops.toList o,q.dst=some t->j∈cE o
 k2:gH P o=false->∀j q,ops[j]? = some q->j≠i->gH P q=false->∀d,o.dst=some d->q.dst≠some d
theorem EM{ops:Array Oper}{j:Nat}{q:Oper}(h:ops[j]? = some q):(j,q)∈fN ops.toList 0:=by
 have:=EK ops.toList 0 j q (by rw[Array.getElem?_toList];exact h);simpa using this
theorem vR{o:Oper}{t:Nat}:B5 o t=true<->o.dst=some t:=by
 unfold B5;cases o.dst with
 |none=>simp
 |some d=>simp
theorem sX{ops:Array Oper}{D M i:Nat}{o:Oper}(h:Ui P ops.toList (fN ops.toList 0) D M i o=true):bit D i=false/\(∀e∈cE o,bit D e=true)/\(∃g,guardOf ops.toList o=some g)/\Stat P ops i o/\
  (gH P o=true->(∀k q,ops[k]? = some q->k≠i->bit D k=false->qw D q=false)/\
   ∀k q,ops[k]? = some q->bit D k=true->gH P q=false->bit M k=false->∀d,o.dst=some d->q.dst≠some d/\d∉c_ ops.toList q):=by
 unfold Ui at h;simp only[Bool.and_eq_true]at h;obtain⟨⟨⟨⟨h1,h2⟩,h3⟩,h4⟩,h5⟩:=h;simp only[List.all_eq_true]at h4;refine⟨by simpa using h1,?_,Option.isSome_iff_exists.mp h3,⟨?_,?_⟩,?_⟩
 .simpa[qw,List.all_eq_true]using h2
 .intro j q hq hw t ht hd;have:=h4 _ (EM hq);simp only[Bool.or_eq_true]at this;rcases this with(this|this)|this
  .rw[hw]at this;cases this
  .have hx:(c_ ops.toList o).any (B5 q)=true:=List.any_eq_true.mpr ⟨t,ht,vR.mpr hd⟩;rw[hx]at this;cases this
  .simpa using this
 .intro hw j q hq hji PB d hd hqd;rw[hw]at h5;simp only[List.all_eq_true]at h5;have:=h5 _ (EM hq);simp only[Bool.or_eq_true]at this;rcases this with(this|this)|this
  .exact hji (by simpa using this)
  .rw[PB]at this;cases this
  .rw[hd]at this;simp[vR.mpr hqd]at this
 .intro hw;rw[hw]at h5;simp only[Bool.and_eq_true,List.all_eq_true]at h5;refine⟨?_,?_⟩
  .intro k q hq hki hk;have:=h5.1 _ (EM hq);simp only[Bool.or_eq_true]at this;rcases this with(this|this)|this
   .exact absurd (by simpa using this) hki
   .rw[hk]at this;cases this
   .simpa using this
  .intro k q hq hk PB hm d hd;have:=h5.2 _ (EM hq);simp only[Bool.or_eq_true]at this;rcases this with((this|this)|this)|this
   .rw[hk]at this;cases this
   .rw[PB]at this;cases this
   .rw[hm]at this;cases this
   .rw[hd]at this;simp only[Bool.and_eq_true]at this;refine⟨λe=>?_,λhmem=>?_⟩
    .rw[vR.mpr e]at this;simp at this
    .have hx:(c_ ops.toList q).any (Nat.beq d)=true:=List.any_eq_true.mpr ⟨d,hmem,by simp⟩;rw[hx]at this;simp at this
theorem EO{ops:Array Oper}{o:Oper}{s:Nat}{b:Bool}(hg:guardOf ops.toList o=some (some (s,b))):s∈c_ ops.toList o:=by
 unfold guardOf at hg;split at hg
 .cases hg
 rename_i j w hgu;split at hg<;>try contradiction
 rename_i hq;cases hg;simp only[c_,hgu,List.mem_append];right;rw[hq];simp
theorem sC{os:List Oper}{o:Oper}{t:Nat}(h:Operand.tmp t∈o.op.operands.toList):t∈c_ os o:=by
 simp only[c_,List.mem_append,List.mem_filterMap];exact .inl ⟨_,h,rfl⟩
theorem qL{os:List Oper}{o:Oper}{tm cQ:T Value}(h:∀t∈c_ os o,cL cQ t=cL tm t):∀y∈o.op.operands.toList,fM cQ y=fM tm y:=by
 intro y hy;cases y with
 |tmp t=>exact h t (sC hy)
 |_=>rfl
theorem oJ{ops:Array Oper}{o:Oper}{g:Option (Nat × Bool)}(hg:guardOf ops.toList o=some g){tm cQ:T Value}(h:∀t∈c_ ops.toList o,cL cQ t=cL tm t):iB cQ g=iB tm g:=by
 cases g with
 |none=>rfl
 |some p=>obtain⟨s,b⟩:=p;simp only[iB,h s (EO hg)]
def PC(P:Program)(ops:Array Oper)(own:Nat->Option Nat)(h0:Heap)(φ:ee)(h:Heap)(tm:T Value)(i:Nat)(o:Oper):Prop:=
 ∃g,guardOf ops.toList o=some g/\(iB tm g=false->∀d,o.dst=some d->cL tm d=undef)/\
  (iB tm g=true->match iC P o.op with
   | .rd x=>∃v,k_ x tm h=some v/\∀d,o.dst=some d->cL tm d=v
   | .al x=>∃n ob mk,own n=some i/\yG x tm=some (ob,mk)/\h.bl.get n=some ob/\φ n=none/\n<h.nx/\h0.nx<=n/\∀d,o.dst=some d->cL tm d=mk n
   | .wr=>False)
theorem PC.keep{ops:Array Oper}{own sY:Nat->Option Nat}{h0:Heap}{φ':ee}{tm cQ:T Value}{i:Nat}{o:Oper}(hp:PC P ops own h0 φ h tm i o)(hl:∀t∈c_ ops.toList o,cL cQ t=cL tm t)(hd:∀d,o.dst=some d->cL cQ d=cL tm d)(hrd:∀x v g,iC P o.op=.rd x->guardOf ops.toList o=some g->iB cQ g=true->k_ x tm h=some v->(∀d,o.dst=some d->cL cQ d=v)->∃v',k_ x cQ h'=some v'/\∀d,o.dst=some d->cL cQ d=v')(hal:∀n ob,own n=some i->h.bl.get n=some ob->φ n=none->n<h.nx->h0.nx<=n->sY n=some i/\h'.bl.get n=some ob/\φ' n=none/\n<h'.nx):PC P ops sY h0 φ' h' cQ i o:=by
 obtain⟨g,hg,h1,h2⟩:=hp;have hw:=oJ hg hl;refine⟨g,hg,λhf d Ef=>by rw[hd d Ef];exact h1 (hw▸hf) d Ef,λht=>?_⟩;have h2:=h2 (hw▸ht);cases hc:iC P o.op with
 |rd x=>
  rw[hc]at h2;obtain⟨v,k1,k2⟩:=h2;exact hrd x v g hc hg ht k1 λd Ef=>by rw[hd d Ef];exact k2 d Ef
 |al x=>
  rw[hc]at h2;obtain⟨n,ob,mk,k1,k2,k3,k4,k5,k6,k7⟩:=h2;obtain⟨j1,j2,j3,j4⟩:=hal n ob k1 k3 k4 k5 k6;refine⟨n,ob,mk,j1,?_,j2,j3,j4,k6,λd Ef=>by rw[hd d Ef];exact k7 d Ef⟩;unfold yG at *
  rw[XA.congr (λy hy=>qL hl y (Cf (yZ hc) y hy))];exact k2
 |wr=>rw[hc]at h2;exact h2.elim
abbrev og(listed:Array Bool)(i:Nat):Prop:=listed.getD i false=true
structure Inv(P:Program)(ops:Array Oper)(nt:Nat)(φ0:ee)(h0:Heap)(w0:World)(ds:List Deferred)(lJ:T Value)(listed:Array Bool)(D M:Nat)(tm:T Value)(h:Heap)(own:Nat->Option Nat)(φ:ee)(a:Act)(w:World):Prop where
 Xy:listed.size=ops.size
 sub:∀i,og listed i->bit D i=true
 clo:∀i o,ops[i]? = some o->og listed i->∀e∈cE o,og listed e
 wr:∀i o,ops[i]? = some o->bit D i=true->gH P o=true->og listed i
 mS:∀i,bit M i=true->og listed i
 st:∀i o,ops[i]? = some o->bit D i=true->Stat P ops i o/\∀e∈cE o,bit D e=true
 small:nt<=1000000000000
 size:a.tmps.size=nt
 rel:∀t,t<nt->(∀i o,ops[i]? = some o->bit D i=true->¬og listed i->o.dst≠some t)->VR φ (cL tm t) (a.tmps.getD t undef)
 hr:HR P φ h w
 ext:Ext φ0 φ h0 h w0 w
 dfs:a.defers=ds
 mg:∀i o,ops[i]? = some o->bit D i=true->¬og listed i->PC P ops own h0 φ h tm i o
 keep:∀t,t<nt->(∀(i:Nat)(o:Oper),ops[i]? = some o->o.dst≠some t)->cL tm t=cL lJ t
section
variable {ops:Array Oper}{nt:Nat}{φ0:ee}{h0:Heap}{w0:World}{ds:List Deferred}{listed:Array Bool}{D M:Nat}{tm lJ:T Value}{own:Nat->Option Nat}{a:Act}
theorem Inv.ahead(inv:Inv P ops nt φ0 h0 w0 ds lJ listed D M tm h own φ a w)(hok:∀q∈ops.toList,fE nt q=true){i:Nat}{o:Oper}(ho:ops[i]? = some o)(hD:bit D i=false)(TN:∀e∈cE o,bit D e=true)(hst:Stat P ops i o)(hw:gH P o=false){v:Value}{h':Heap}{sY:Nat->Option Nat}(hr':HR P φ h' w)(hx':Ext φ0 φ h0 h' w0 w)(hm:BE h h')(sZ:h.nx<=h'.nx)(hown:∀n,n<h.nx->sY n=own n)(hpe:PC P ops sY h0 φ h' (jK tm o.dst v) i o):Inv P ops nt φ0 h0 w0 ds lJ listed (fP D i) M (jK tm o.dst v) h' sY φ a w:=by
 have hmem:o∈ops.toList:=List.mem_of_getElem? (by rw[Array.getElem?_toList];exact ho);have Kw:¬og listed i:=λhs=>by rw[inv.sub i hs]at hD;cases hD
 have qM:=dQ (hok o hmem);refine⟨inv.Xy,?_,inv.clo,?_,inv.mS,?_,inv.small,inv.size,?_,hr',hx',inv.dfs,?_,λt ht hno=>by rw[gP inv.small qM ht,if_neg (hno i o ho)];exact inv.keep t ht hno⟩
 .intro k hk;rw[dH,inv.sub k hk];rfl
 .intro k q hq hk Zg;rw[dH,Bool.or_eq_true]at hk;rcases hk with hk|hk
  .exact inv.wr k q hq hk Zg
  .have hk:i=k:=by simpa using hk
   subst hk;rw[ho]at hq;cases hq;rw[hw]at Zg;cases Zg
 .intro k q hq hk;rw[dH,Bool.or_eq_true]at hk;have up:∀{e},bit D e=true->bit (fP D i) e=true:=λhe=>by rw[dH,he];rfl
  rcases hk with hk|hk
  .exact⟨(inv.st k q hq hk).1,λe he=>up ((inv.st k q hq hk).2 e he)⟩
  .have hk:i=k:=by simpa using hk
   subst hk;rw[ho]at hq;cases hq;exact⟨hst,λe he=>up (TN e he)⟩
 .intro t ht hno;have h1:o.dst≠some t:=hno i o ho (by rw[dH];simp) Kw;rw[gP inv.small qM ht,if_neg h1];exact inv.rel t ht λk q hq hk w8=>hno k q hq (by rw[dH,hk];rfl) w8
 .intro k q hq hk w8;rw[dH,Bool.or_eq_true]at hk;by_cases hki:i=k
  .subst hki;rw[ho]at hq;cases hq;exact hpe
  ·have hk:bit D k=true:=by
    rcases hk with hk|hk
    .exact hk
    .exact absurd (by simpa using hk) hki
   have PB:gH P q=false:=by
    cases PB:gH P q with
    |false=>rfl
    |true=>exact absurd (inv.wr k q hq hk PB) w8
   have hqm:q∈ops.toList:=List.mem_of_getElem? (by rw[Array.getElem?_toList];exact hq);have hl:∀t∈c_ ops.toList q,cL (jK tm o.dst v) t=cL tm t:=by
    intro t ht;rw[gP inv.small qM (mF hok hqm ht),if_neg];intro he;have:=(inv.st k q hq hk).2 i ((inv.st k q hq hk).1.k1 i o ho hw t ht he);rw[this]at hD;cases hD
   have hd:∀d,q.dst=some d->cL (jK tm o.dst v) d=cL tm d:=by
    intro d Ef;have hlt:d<nt:=by have:=dQ (hok q hqm);rw[Ef]at this;exact dP this
    rw[gP inv.small qM hlt,if_neg];intro he;exact hst.k2 hw k q hq (λe=>hki e.symm) PB d he Ef
   refine(inv.mg k q hq hk w8).keep hl hd ?_ ?_
   .intro x v' g hc hg vS hrd hdv;refine⟨v',?_,hdv⟩;have:=I4 (qK hc) hm hrd;unfold k_ at *
    rw[XI.congr (λy hy=>qL hl y (vQ (qK hc) y hy))];exact this
   .intro n ob e1 e2 e3 e4 e5;exact⟨by rw[hown n e4];exact e1,hm n ob e2,e3,Nat.lt_of_lt_of_le e4 sZ⟩
end
end Go.Vai
