/-
  PROVED HERE: a part of the proof (VaiS6, VaiS7, VaiS8, VaiS9, VaiS10, VaiS11, VaiS12, VaiS13, VaiS14).
-/
import Derived.Test.YtfkonofjdimjbaaGreatDoorG0
import Derived.Laws.Append
import GoSem.Instr.MapEntry
import Derived.Laws.AppendOwn
import Derived.Laws.Small
import Derived.Laws.IdiomStrings
import Derived.Laws.BytesArg
import Derived.OrdersIn
import Derived.RangeFuncRecord
set_option linter.unusedVariables false
set_option linter.unusedSimpArgs false
namespace Go.Vai
open Go
variable {β:Type}{fl:β}{good:β->Prop}{P:Program}{φ:eW}{h:af}{w:World}{t:TypeId}
noncomputable def lay:List Value->T Value->Nat->T Value
 | [],c,_=>c
 |v::vs,c,off=>lay vs (c.bt off v) (off+1)
theorem yD(vs:List Value):∀(c:T Value)(off:Nat)(V:T Value->Nat->β),Vk vs c off V=V (lay vs c off) (off+vs.length):=by
 induction vs with
 |nil=>intro c off V;rfl
 |cons v vs ih=>
  intro c off V
  show T.set c off v (λc=>x_ (Nat.succ off) λoff=>Vk vs c off V)=_
  rw[T.ia,bY,ih];simp only[lay,List.length_cons]
  congr 1;omega
theorem uf(vs:List Value):∀(c:T Value)(off:Nat),off+vs.length<=2 ^ 199->∀i,Small i->(lay vs c off).get i=if off<=i/\i<off+vs.length then vs[i-off]? else c.get i:=by
 induction vs with
 |nil=>intro c off _ i _;simp[lay];omega
 |cons v vs ih=>
  intro c off ho i hi;simp only[List.length_cons]at ho;have hso:Small off:=by unfold Small;omega
  rw[lay,ih _ _ YYZ i hi,T.nH c v hso hi];by_cases h1:off+1<=i/\i<off+1+vs.length
  .rw[if_pos h1,if_pos (by simp;omega),show i-off=(i-(off+1))+1 by omega];simp
  .rw[if_neg h1];by_cases h2:off=i
   .subst h2;simp
   .rw[if_neg h2,if_neg (by simp;omega)]
theorem Ff{n m:Nat}(h:n<=m)(hm:m<=4611686018427387904):Small n:=by unfold Small;omega
theorem kV(hfl:¬good fl){vs:List Value}{e:TypeId}{UW:Bool}{V:bO->β}(hg:good (aN fl vs e UW V)):vs.length<=1000000000000/\good (V (.cells vs.length (lay vs .nil 0) e UW)):=by
 unfold aN at hg;rw[yD]at hg;simp only[Nat.zero_add]at hg;split at hg
 .rename_i hle;exact⟨cU hle,hg⟩
 .exact absurd hg hfl
theorem zl{vs vs':List Value}(hv:F2 (VR φ) vs vs')(hl:vs.length<=1000000000000)(e:TypeId)(pl:Pl)(rest:List Value)(UW:Bool)(ho:UW=true->(vs'++rest).length=pl.sz/\fT P e=some pl.e/\0<pl.e):OR P φ (.cells vs.length (lay vs .nil 0) e UW) pl (some (.cells (vs'++rest).toArray e (0,0))):=by
 have hlen:=hv.length;refine⟨rfl,rfl,by simp;omega,YYZ,λh=>by simpa using ho h,?_⟩;intro i v gq hi;rw[uf vs .nil 0 YYZ i (by unfold Small;omega),if_pos YYZ]at gq;simp only[Nat.sub_zero]at gq;obtain⟨v',h1,h2⟩:=hv.get i v gq;refine⟨v',?_,h2⟩;have:i<vs'.length:=by omega
 simp[List.getElem?_append_left this,h1]
theorem dL(hfl:¬good fl){o:bO}{V:Nat->af->β}(hg:good (aG fl o h V)):h.nx<=h.nx/\good (V h.nx ⟨h.nx+1,h.bl.bt h.nx o,h.lo⟩):=by
 unfold aG at hg;rw[T.ia,bY]at hg;exact⟨Nat.le_refl _,hg⟩
def iU(φ:eW)(b:Nat)(pl:Pl):eW:=λx=>if x=b then some pl else φ x
theorem fo(φ:eW)(b:Nat)(pl:Pl):iU φ b pl b=some pl:=by simp[iU]
theorem rI{b:Nat}{pl:Pl}(hb:φ b=none):Sub φ (iU φ b pl):=λx p e=>by
 unfold iU;split
 .rename_i hx;subst hx;rw[hb]at e;cases e
 .exact e
theorem HR.zm(hr:HR P φ h w)(hn:h.nx<=h.nx)(o:bO):HR P φ ⟨h.nx+1,h.bl.bt h.nx o,h.lo⟩ w:=by
 have hs:Small h.nx:=by unfold Small;omega
 have iY:∀b,b<h.nx->(h.bl.bt h.nx o).get b=h.bl.get b:=λb hb=>T.iH _ _ hs (by unfold Small;omega) YYZ;refine⟨?_,?_,?_,?_,?_,Nat.le_succ_of_le hr.lo⟩
 .intro b o' pl hb hp;have:=(hr.dom b pl hp).1;exact hr.obj b o' pl ((iY b this)▸hb) hp
 .intro b pl hp;have:=hr.dom b pl hp;exact⟨by show b<h.nx+1;omega,this.2⟩
 .intro b o' hsb hb
  show b<h.nx+1
  rw[T.nH _ _ hs hsb]at hb;split at hb
  .omega
  .have:=hr.keys b o' hsb hb;omega
 .show h.nx+1<h.nx+1+1;omega
 .intro b b' o1 o2 pl mZ g1 g2 l1 l2 p1 p2 e;have d1:=(hr.dom b pl p1).1;have d2:=(hr.dom b' mZ p2).1;exact hr.inj b b' o1 o2 pl mZ ((iY b d1)▸g1) ((iY b' d2)▸g2) l1 l2 p1 p2 e
theorem eX{O:Obj}{B:Nat}(hB:B<w.heap.size):(w.alloc O).heap[B]? = w.heap[B]?:=by
 show(w.heap.push O)[B]? = _
 rw[Array.getElem?_push,if_neg YYZ]
theorem n9{O:Obj}:(w.alloc O).heap[w.heap.size]? = some O:=by
 show(w.heap.push O)[w.heap.size]? = _
 simp
theorem HR.Fg(hr:HR P φ h w){b:Nat}{o:bO}(hb:h.bl.get b=some o)(hp:φ b=none)(EV:b<h.nx){O:Obj}(sz e:Nat)(ho:OR P φ o ⟨w.heap.size,sz,e⟩ (some O)):HR P (iU φ b ⟨w.heap.size,sz,e⟩) h (w.alloc O):=by
 have hsub:=rI (pl:=⟨w.heap.size,sz,e⟩) hp;refine⟨?_,?_,hr.keys,hr.Qp,?_,hr.lo⟩
 .intro x o' pl hx Dp;unfold iU at Dp;split at Dp
  .rename_i he;subst he;cases Dp;rw[hb]at hx;cases hx
   show OR P _ o _ ((w.alloc O).heap[w.heap.size]?)
   rw[n9];exact ho.mono hsub
  .have hB:=(hr.dom x pl Dp).2;rw[eX hB];exact(hr.obj x o' pl hx Dp).mono hsub
 .intro x pl Dp;unfold iU at Dp;split at Dp
  .rename_i he;subst he;cases Dp;exact⟨EV,by simp⟩
  .have:=hr.dom x pl Dp;exact⟨this.1,by simp;omega⟩
 .intro x x' o1 o2 pl mZ g1 g2 l1 l2 p1 p2 e;unfold iU at p1 p2;split at p1<;>split at p2
  .omega
  .rename_i h1 h2;cases p1;have:=(hr.dom x' mZ p2).2;simp at e;omega
  .rename_i h1 h2;cases p2;have:=(hr.dom x pl p1).2;simp at e;omega
  .exact hr.inj x x' o1 o2 pl mZ g1 g2 l1 l2 p1 p2 e
theorem Ext.Fg{φ0:eW}{h0:af}{w0:World}(hx:Ext φ0 φ h0 h w0 w){b:Nat}(hp:φ b=none)(hb:h0.nx<=b)(O:Obj)(hO:UF (some O))(sz e:Nat):Ext φ0 (iU φ b ⟨w.heap.size,sz,e⟩) h0 h w0 (w.alloc O) where
 sub:=hx.sub.trans (rI hp)
 new:=λx pl e0 e1=>by
  unfold iU at e1;split at e1
  .rename_i he;subst he;cases e1;exact⟨hb,.inl hx.size⟩
  .exact hx.new x pl e0 e1
 nx:=hx.nx
 size:=Nat.le_trans hx.size (by simp)
 BC:=λB hB hn=>by
  have:=hx.size;rw[eX YYZ];exact hx.BC B hB hn
 ET:=hx.ET
 tape:=hx.tape
 os:=hx.os
 output:=hx.output
 lo:=hx.lo
 JL:=hx.JL
 JM:=λx o pl h1 h2 h3 h4 h5=>by
  have:=hx.size;rw[eX YYZ];exact hx.JM x o pl h1 h2 h3 h4 h5
 dr:=hx.dr
 fz:=λB h=>by
  have h1:=hx.fz B h;rcases Nat.lt_trichotomy B w.heap.size with hl|hl|hl
  .rw[eX hl];exact h1
  .subst hl;have:(w.alloc O).heap[w.heap.size]? = some O:=by show(w.heap.push O)[w.heap.size]? = _;simp
   rw[this];exact hO
  .have:(w.alloc O).heap[B]? = none:=by show(w.heap.push O)[B]? = _;simp;omega
   rw[this];trivial
theorem Ext.zm{φ0:eW}{h0:af}{w0:World}(hx:Ext φ0 φ h0 h w0 w)(hlo:h.lo<=h.nx)(hn:h.nx<=h.nx)(o:bO):Ext φ0 φ h0 ⟨h.nx+1,h.bl.bt h.nx o,h.lo⟩ w0 w where
 sub:=hx.sub
 new:=hx.new
 nx:=Nat.le_trans hx.nx (Nat.le_succ _)
 size:=hx.size
 BC:=hx.BC
 ET:=λb hb hp=>by
  have:=hx.nx;rw[<-hx.ET b hb hp];exact T.iH _ _ (by unfold Small;omega) (by unfold Small;omega) YYZ
 tape:=hx.tape
 os:=hx.os
 output:=hx.output
 fz:=hx.fz
 lo:=hx.lo
 JM:=hx.JM
 dr:=hx.dr
 JL:=λb hb=>by
  have:=hx.lo;rw[<-hx.JL b hb];exact T.iH _ _ (by unfold Small;omega) (by unfold Small;omega) YYZ
theorem HR.fresh(hr:HR P φ h w)(hn:h.nx<=h.nx){o:bO}{O:Obj}(sz e:Nat)(ho:OR P φ o ⟨w.heap.size,sz,e⟩ (some O))(hl:o.live):HR P (iU φ h.nx ⟨w.heap.size,sz,e⟩) ⟨h.nx+1,h.bl.bt h.nx o,h.lo⟩ (w.alloc O)/\Ext φ (iU φ h.nx ⟨w.heap.size,sz,e⟩) h ⟨h.nx+1,h.bl.bt h.nx o,h.lo⟩ w (w.alloc O):=by
 have hnone:φ h.nx=none:=by
  cases hp:φ h.nx with
  |none=>rfl
  |some pl=>have:=(hr.dom _ _ hp).1;omega
 exact⟨(hr.zm hn o).Fg (T.az _ _ _) hnone (Nat.lt_succ_self _) sz e ho,((Ext.refl φ h w).zm hr.lo hn o).Fg hnone (Nat.le_refl _) O (ud ho hl) sz e⟩
def Names(mk:Nat->Value):Prop:=∀(φ:eW)(b:Nat)(pl:Pl),φ b=some pl->VR φ (mk b) (mk pl.B)
theorem Cj:Names av:=λ_ _ _ h=>.ptr h
theorem NU:Names gR:=λ_ _ _ h=>.map h
theorem xJ{n c:Nat}(h1:n<=c)(h2:c<aX):Names (bR n c):=λ_ _ _ h=>.slice h h1 h2
theorem qJ(zs:List Value)(n:Nat):(bq zs n).length=n*zs.length:=by
 induction n with
 |zero=>simp[bq]
 |succ n ih=>simp[bq,ih,Nat.succ_mul];omega
theorem Fh(zs:List Value)(n i:Nat)(hi:i<n*zs.length):(bq zs n)[i]? = zs[i % zs.length]?:=by
 induction n generalizing i with
 |zero=>omega
 |succ n ih=>
  rw[Nat.succ_mul]at hi;simp only[bq];rcases Nat.lt_or_ge i zs.length with h1|h1
  .rw[List.getElem?_append_left h1,Nat.mod_eq_of_lt h1]
  .rw[List.getElem?_append_right h1,ih _ YYZ]
   congr 1
   exact(Nat.mod_eq_sub_mod h1).symm
theorem ug(z:Array Value)(n m:Nat)(hm:m=n*z.size):(Array.range m).map (λi=>z[i % z.size]!)=(bq z.toList n).toArray:=by
 subst hm;apply Array.ext';simp;apply List.ext_getElem?;intro i;by_cases hi:i<n*z.size
 ·have h0:0<z.size:=by rcases Nat.eq_zero_or_pos z.size with h|h;· rw[h]at hi;omega
                       .exact h
  have h1:i % z.size<z.size:=Nat.mod_lt _ h0;rw[Fh _ _ _ (by simpa using hi)];simp[hi,h1,getElem!_pos]
 .rw[List.getElem?_eq_none (by simpa using hi),List.getElem?_eq_none (by rw[qJ];simpa using hi)]
theorem kE{zs:List Value}(hz:zs.all ir=true)(n:Nat):(bq zs n).all ir=true:=by
 induction n with
 |zero=>rfl
 |succ n ih=>simp only[bq,List.all_append,hz,ih,Bool.and_self]
theorem lY{z:List Value}{s:Nat}(h:Qg P t=some (z,s)):zeroOf P t=some z/\fT P t=some s/\z.length=s/\0<s:=by
 unfold Qg at h;split at h<;>try (cases h;done)
 rename_i z' s' h1 h2;split at h<;>try (cases h;done)
 rename_i hl;cases h;exact⟨h1,h2,cD hl,Nat.succ_pos _⟩
theorem xK(hfl:¬good fl){op:Op}{i:XA β}(hc:sn fl P op=some i){tm:T Value}{ρ:Operand->Value}(hρ:∀y∈op.operands.toList,VR φ (fZ tm y) (ρ y)){V:bO->(Nat->Value)->β}(hg:good (i.run tm V)){o:Oper}(ho:o.op=op):∃ob mk O,good (V ob mk)/\ob.live/\(∀pl,OR P φ ob pl (some O))/\Names mk/\(execOp ρ o).run P w=.ok (.value (mk w.heap.size)) (w.alloc O):=by
 have one:∀{vs vs':List Value}{e:TypeId}{mk:Nat->Value} ,F2 (VR φ) vs vs'->good (aN fl vs e false λo=>V o mk)->Names mk->
   (∀O,O=Obj.cells vs'.toArray e (0,0)->(execOp ρ o).run P w=.ok (.value (mk w.heap.size)) (w.alloc O))->
   ∃ob mk O,good (V ob mk)/\ob.live/\(∀pl,OR P φ ob pl (some O))/\Names mk/\(execOp ρ o).run P w=.ok (.value (mk w.heap.size)) (w.alloc O):=by
  intro vs vs' e mk hv hg hn hrun;obtain⟨h1,h2⟩:=kV hfl hg;refine⟨_,mk,.cells vs'.toArray e (0,0),h2,trivial,λpl=>?_,hn,hrun _ rfl⟩;have:=zl (P:=P) hv h1 e pl [] false (λe=>by cases e);simpa using this
 cases op<;>simp only[sn]at hc<;>try (cases hc;done)
 case alloc e=>
  split at hc<;>try (cases hc;done)
  rename_i z hz;cases hc;rw[XA.Qo]at hg;obtain⟨v,inf,hi,Qv,rfl,hb⟩:=iP hz;refine one (jv hb) hg Cj λO hO=>?_;subst hO;simp[execOp,ho,Instr.alloc,iI hi Qv,newVar,newRow,av]
 case box e x=>
  cases hc;rw[XA.cF]at hg;refine one (hρ x (by simp[Op.operands])).cells hg Cj λO hO=>?_;subst hO;simp[execOp,ho,Instr.box,newVar,newRow,av]
 case buildSlice t len parts=>
  split at hc<;>try (cases hc;done)
  rename_i e hu;split at hc<;>try (cases hc;done)
  rename_i z s hz hlen;split at hc<;>try (cases hc;done)
  rename_i ps hps hs;cases hc;rw[XA.iX]at hg;rw[List.map_map]at hg;obtain⟨hz1,zn,Qw,NV⟩:=lY hz;obtain⟨v,inf,hi,Qv,hzl,hb⟩:=iP hz1;have hlen:=cU hlen;have hs:=cU hs;obtain⟨r,r',g1,g2,g3⟩:=xG (φ:=φ) hfl tm ρ _ parts.toList ps hps (λp EU=>hρ p.2 (by simp[Op.operands];exact⟨p.1,by simpa using EU⟩)) _ _ (jv (kE hb len)) _ hg;refine one g2 g1 (xJ (Nat.le_refl _) (by rw[kU];omega)) λO hO=>?_;subst hO;have h1:¬len*s > 2 ^ 24:=by
   have:len*s<=10000*1000:=Nat.mul_le_mul hlen hs;omega
  have hsize:v.cells.size=s:=by rw[<-Qw,hzl];simp
  have h2:(if len*s=0 then(#[]:Array Value)else v.cells)=(if len*s=0 then #[]else v.cells):=rfl;have h3:(Array.range (len*s)).map (λi=>v.cells[i % v.cells.size]!)=(bq z len).toArray:=by
   rw[ug v.cells len (len*s) (by rw[hsize]),hzl]
  have Vp:Instr.fill (λi=>some (i*s,s)) (bq z len).toArray (parts.toList.map λp=>(p.1,ρ p.2))=some r'.toArray:=g3;by_cases h0:len*s=0
  .have hl0:len=0:=by rcases Nat.mul_eq_zero.1 h0 with h|h<;>omega
   subst hl0;simp[bq]at Vp;simp[execOp,ho,Instr.buildSlice,a_ hu,cM zn,Vp,newRow,bR,Array.range_zero']
  .simp[execOp,ho,Instr.buildSlice,a_ hu,cM zn,h1,h0,iI hi Qv,h3,Vp,newRow,bR]
 case makeMap t r=>
  have fin:good (V (.map [] 0) gR)->(execOp ρ o).run P w=.ok (.value (gR w.heap.size)) (w.alloc (.map #[] 0))->
    ∃ob mk O,good (V ob mk)/\ob.live/\(∀pl,OR P φ ob pl (some O))/\Names mk/\(execOp ρ o).run P w=.ok (.value (mk w.heap.size)) (w.alloc O):=
   λg1 g2=>⟨_,gR,.map #[] 0,g1,trivial,λpl=>⟨rfl,.nil⟩,NU,g2⟩
  split at hc
  .cases hc;rw[XA.Qo]at hg;exact fin hg (by simp[execOp,ho,Instr.makeMap,gR])
  .rename_i x;split at hc<;>try (cases hc;done)
   rename_i hu;cases hc;rw[XA.cF]at hg;split at hg<;>try cases hfl hg
   rename_i k n hx;have hv:=hρ x (by simp[Op.operands]);rw[hx]at hv;generalize hy:ρ x=y at hv;cases hv;exact fin hg (by simp[execOp,ho,Instr.makeMap,gR,a_ hu,hy,asInt,asIntOf])
 case makeSlice t l c=>
  split at hc<;>try (cases hc;done)
  rename_i e hu;split at hc<;>try (cases hc;done)
  rename_i z s inf hz hi;split at hc<;>try (cases hc;done)
  rename_i hbytes;have hbytes:=cU hbytes;cases hc;rw[XA.dM]at hg;split at hg<;>try cases hfl hg
  rename_i k1 l' k2 c' hl JN;split at hg<;>try cases hfl hg
  rename_i hle aaa;have hle:=cU hle;have aaa:=cU aaa;have hv1:=hρ l (by simp[Op.operands]);have Vq:=hρ c (by simp[Op.operands]);rw[hl]at hv1;rw[JN]at Vq;generalize hy1:ρ l=y1 at hv1;generalize hy2:ρ c=y2 at Vq;cases hv1;cases Vq;obtain⟨hz1,zn,Qw,NV⟩:=lY hz;obtain⟨v,aac,hi',Qv,hzl,hb⟩:=iP hz1;rw[hi]at hi';cases hi';refine one (jv (kE hb c')) hg (xJ hle (by rw[kU];omega)) λO hO=>?_;subst hO;have w1:IntKind.i64.wrap (l':Int)=l':=IntWalk.i64_in _ ⟨YYZ,YYZ⟩;have w2:IntKind.i64.wrap (c':Int)=c':=IntWalk.i64_in _ ⟨YYZ,YYZ⟩;have hbc:(inf.bytes:Int)*(c':Int)<=2 ^ 48:=by
   have:inf.bytes*c'<=1000000*1000000:=Nat.mul_le_mul hbytes aaa;have h2:(inf.bytes:Int)*(c':Int)=((inf.bytes*c':Nat):Int):=by simp
   rw[h2];omega
  have hsize:v.cells.size=s:=by rw[<-Qw,hzl];simp
  have c1:decide ((c':Int)<0)=false:=decide_eq_false YYZ;have c2:decide ((inf.bytes:Int)*(c':Int) > 2 ^ 48)=false:=decide_eq_false YYZ;have c3:¬((l':Int)<0):=by omega
  have c4:¬((l':Int) > (c':Int)):=by omega
  have h3:(Array.range (c'*s)).map (λi=>v.cells[i % v.cells.size]!)=(bq z c').toArray:=by
   rw[ug v.cells c' (c'*s) (by rw[hsize]),hzl]
  have hA:(asInt (.int k1 (l':Int))).run P w=.ok (l':Int) w:=by simp[asInt,asIntOf]
  have hB:(asInt (.int k2 (c':Int))).run P w=.ok (c':Int) w:=by simp[asInt,asIntOf]
  have hrun:(Instr.makeSlice t (.int k1 (l':Int)) (.int k2 (c':Int))).run P w=.ok (bR l' c' w.heap.size) (w.alloc (.cells (bq z c').toArray e (0,0))):=by
   unfold Instr.makeSlice;simp only[Sem.run_bind,a_ hu,Result.andThen_ok,hA,hB,qI hi,w1,w2];simp only[c1,c2,Bool.or_self,c3,c4];by_cases h0:c'*s=0
   .have hc0:c'=0:=by rcases Nat.mul_eq_zero.1 h0 with h|h<;>omega
    subst hc0;simp[cM zn,newRow,bR,bq,Array.range_zero']
   .have h3':(Array.range (c'*s)).map (λi=>v.cells[i % v.cells.size]!)=(bq z c').toArray:=h3;simp[cM zn,h0,iI hi Qv,h3',newRow,bR]
  simp only[execOp,ho,hy1,hy2];exact kg hrun
theorem kW(hfl:¬good fl)(n:Nat):∀(vs:List Value)(c:T Value)(off:Nat)(V:T Value->β),good (nY fl n vs c off V)->
  (∀v∈vs,dK v=true)/\(vs≠[]->off+vs.length<=n)/\good (V (lay vs c off)):=by
 intro vs
 induction vs with
 |nil=>intro c off V hg;exact⟨λv hv=>(by cases hv),λhh=>absurd rfl hh,hg⟩
 |cons v vs ih=>
  intro c off V hg;have hg':good (Bool.rec (motive:=λ_=>β) fl (Bool.rec (motive:=λ_=>β) fl (T.set c off v λc=>nY fl n vs c (Nat.succ off) V) (Nat.ble (Nat.succ off) n)) (dK v)):=hg;cases h1:dK v with
  |false=>rw[h1]at hg';exact absurd hg' hfl
  |true=>
   rw[h1]at hg';cases h2:Nat.ble (Nat.succ off) n with
   |false=>rw[h2]at hg';exact absurd hg' hfl
   |true=>
    rw[h2]at hg';simp only[T.ia]at hg';obtain⟨g1,g2,g3⟩:=ih _ _ _ hg';refine⟨λu hu=>?_,λ_=>?_,g3⟩
    .simp at hu;rcases hu with rfl|hu
     .exact h1
     .exact g1 u hu
    .have:=cU h2;cases vs with
     |nil=>simp;omega
     |cons x vs=>have:=g2 (by simp);simp at this ⊢;omega
theorem LS{v v':Value}(h1:dK v=true)(hv:VR φ v v'):v'.oneCell'=true:=by
 cases hv<;>first|rfl|(simp[dK]at h1)
theorem HR.rowAt(hr:HR P φ h w){b n e:Nat}{c:T Value}{op:Bool}{pl:Pl}(hb:h.bl.get b=some (.cells n c e op))(hp:φ b=some pl):∃C,w.heap[pl.B]? = some (.cells C e (0,0))/\n<=C.size/\n<=4611686018427387904/\(op=true->C.size=pl.sz/\fT P e=some pl.e/\0<pl.e)/\∀i v,c.get i=some v->i<n->∃v',C[i]? = some v'/\VR φ v v':=by
 have:=hr.obj b _ pl hb hp;cases hO:w.heap[pl.B]? with
 |none=>rw[hO]at this;exact this.elim
 |some O=>
  rw[hO]at this;cases O<;>simp only[OR]at this<;>try exact this.elim
  obtain⟨rfl,rfl,h3,h4,h5,h6⟩:=this;exact⟨_,rfl,h3,h4,h5,h6⟩
theorem Fi(hr:HR P φ h w){b:Nat}(hb:b<=h.nx):Small b:=by have:=hr.Qp;unfold Small;omega
theorem HR.turn(hr:HR P φ h w){b:Nat}(hlo:h.lo<=b){o:bO}{pl:Pl}(hp:φ b=some pl)(af1:∃q,h.bl.get b=some q/\q.live){w':World}(hsz:w'.heap.size=w.heap.size)(Fj:∀k,k≠pl.B->w'.heap[k]? = w.heap[k]?)(ho:OR P φ o pl w'.heap[pl.B]?)(ht:w'.tape=w.tape)(hos:w'.os=w.os)(hout:w'.output=w.output)(hu:o.live\/(UF w.heap[pl.B]?->UF w'.heap[pl.B]?))(LU:w.drawn<=w'.drawn:=by exact Nat.le_refl _):HR P φ ⟨h.nx,h.bl.bt b o,h.lo⟩ w'/\Ext φ φ h ⟨h.nx,h.bl.bt b o,h.lo⟩ w w':=by
 have EV:=(hr.dom b pl hp).1;have hsb:Small b:=Fi hr (Nat.le_of_lt EV);have iY:∀x,x<h.nx->x≠b->(h.bl.bt b o).get x=h.bl.get x:=λx hx YC=>T.iH _ _ hsb (Fi hr (Nat.le_of_lt hx)) (Ne.symm YC);obtain⟨q,hq1,EW⟩:=af1;constructor
 .refine⟨?_,?_,?_,hr.Qp,?_,hr.lo⟩
  .intro x o' mZ hx Dp;by_cases YC:x=b
   .subst YC;rw[hp]at Dp;cases Dp;rw[T.az]at hx;cases hx;exact ho
   .have YD:=(hr.dom x mZ Dp).1;have hx':h.bl.get x=some o':=(iY x YD YC)▸hx;by_cases hB:mZ.B=pl.B
    .
     have hd:¬o'.live:=λhl=>YC (hr.inj x b o' q mZ pl hx' hq1 hl EW Dp hp hB);have h1:=hr.obj x o' mZ hx' Dp;cases o' with
     |dead n e=>
      have h2:n<=mZ.sz/\n<=4611686018427387904/\fT P e=some mZ.e/\0<mZ.e:=by
       cases hO:w.heap[mZ.B]? with
       |none=>rw[hO]at h1;exact h1
       |some O=>rw[hO]at h1;cases O<;>exact h1
      cases w'.heap[mZ.B]? with
      |none=>exact h2
      |some O=>cases O<;>exact h2
     |cells=>exact absurd trivial hd
     |map=>exact absurd trivial hd
     |fh=>exact absurd trivial hd
     |Yz=>exact absurd trivial hd
     |loop=>exact absurd trivial hd
     |ro=>exact absurd trivial hd
    .rw[Fj _ hB];exact hr.obj x o' mZ hx' Dp
  .intro x mZ Dp;have:=hr.dom x mZ Dp;exact⟨this.1,by rw[hsz];exact this.2⟩
  .intro x o' Vr hx
   show x<h.nx
   rw[T.nH _ _ hsb Vr]at hx;split at hx
   .rename_i he;subst he;exact EV
   .exact hr.keys x o' Vr hx
  ·intro x x' o1 o2 pl1 pl2 g1 g2 l1 l2 p1 p2 e;have n1:=(hr.dom x pl1 p1).1;have n2:=(hr.dom x' pl2 p2).1;have key:∀y oy py,y<h.nx->(h.bl.bt b o).get y=some oy->oy.live->φ y=some py->∃o',h.bl.get y=some o'/\o'.live:=by
    intro y oy py hy gy ly _;by_cases hyb:y=b
    .subst hyb;exact⟨q,hq1,EW⟩
    .exact⟨oy,(iY y hy hyb)▸gy,ly⟩
   obtain⟨q1,a1,b1⟩:=key x o1 pl1 n1 g1 l1 p1;obtain⟨q2,a2,b2⟩:=key x' o2 pl2 n2 g2 l2 p2;exact hr.inj x x' q1 q2 pl1 pl2 a1 a2 b1 b2 p1 p2 e
 .refine⟨Sub.refl φ,λb pl a b'=>(by rw[a]at b';cases b'),Nat.le_refl _,by rw[hsz];exact Nat.le_refl _,?_,?_,ht,hos,hout,?_,rfl,λx hx=>iY x (Nat.lt_of_lt_of_le hx hr.lo) YYZ,λx o mZ h1 h2 h3 h4 h5=>Fj mZ.B λe=>absurd (hr.inj x b o q mZ pl h2 hq1 h3 EW h4 hp e) YYZ,LU⟩
  .intro B _ hn;exact Fj B λe=>hn b pl hp e.symm
  .intro x hx hn;exact iY x hx λe=>by subst e;rw[hp]at hn;cases hn
  .intro B hB;by_cases he:B=pl.B
   .subst he;rcases hu with hu|hu
    .exact ud ho hu
    .exact hu hB
   .rw[Fj B he];exact hB
theorem HR.storeAt(hr:HR P φ h w){b n e off:Nat}(hlo:h.lo<=b){c:T Value}{op:Bool}{pl:Pl}(hb:h.bl.get b=some (.cells n c e op))(hp:φ b=some pl){vs vs':List Value}(hv:F2 (VR φ) vs vs')(h1:∀v∈vs,dK v=true)(h2:vs≠[]->off+vs.length<=n):∃w',(storeCells ⟨pl.B,off,none⟩ vs').run P w=.ok () w'/\HR P φ ⟨h.nx,h.bl.bt b (.cells n (lay vs c off) e op),h.lo⟩ w'/\Ext φ φ h ⟨h.nx,h.bl.bt b (.cells n (lay vs c off) e op),h.lo⟩ w w':=by
 obtain⟨C,hC,ye,hn2,hop,hcell⟩:=hr.rowAt hb hp;have hlen:=hv.length;have hone:∀v'∈vs',v'.oneCell'=true:=by
  intro v' xE;obtain⟨i,hi⟩:=List.getElem?_of_mem xE;have hi':i<vs'.length:=(List.getElem?_eq_some_iff.1 hi).1;have:∃v,vs[i]? = some v:=⟨vs[i]'YYZ,List.getElem?_eq_getElem YYZ⟩
  obtain⟨v,hvi⟩:=this;obtain⟨u,Qx,hu2⟩:=hv.get i v hvi;rw[hi]at Qx;cases Qx;exact LS (h1 v (List.mem_of_getElem? hvi)) hu2
 cases hvs:vs with
 |nil=>
  subst hvs;cases hv;refine⟨w,by simp[storeCells],?_⟩;have:=hr.turn hlo (o:=.cells n (lay [] c off) e op) hp ⟨_,hb,trivial⟩ (w':=w) rfl (λ_ _=>rfl) (by rw[hC];exact⟨rfl,rfl,ye,hn2,hop,hcell⟩) rfl rfl rfl (.inl trivial);exact this
 |cons v0 vs0=>
  have hne:vs≠[]:=by rw[hvs];simp
  have hle:=h2 hne;rw[<-hvs];have hrun:=run_storeCells_at P pl.B off e vs' 0 C w hC (by simp;omega) hone;simp only[Nat.add_zero]at hrun;refine⟨_,hrun,?_⟩;refine hr.turn hlo hp ⟨_,hb,trivial⟩ (setRow_size _ _ _) (λk hk=>setRow_other _ _ _ _ hk) ?_ rfl rfl rfl (.inl trivial);rw[setRow_heap w pl.B C _ e _ hC];refine⟨rfl,rfl,by simp;omega,hn2,λh=>?_,?_⟩
  .obtain⟨k1,k2,k3⟩:=hop h;refine⟨?_,k2,k3⟩;simp;omega
  .intro i v gq hi;rw[uf vs c off YYZ i (Ff (Nat.le_of_lt hi) hn2)]at gq;split at gq
   .rename_i hin;obtain⟨v',g1,g2⟩:=hv.get _ v gq;refine⟨v',?_,g2⟩;simp only[List.getElem?_toArray,List.append_assoc];rw[List.getElem?_append_right (by simp;omega),List.getElem?_append_left (by simp;omega)];rw[<-g1];congr 1;simp;omega
   .rename_i arj;obtain⟨v',g1,g2⟩:=hcell i v gq hi;refine⟨v',?_,g2⟩;simp only[List.getElem?_toArray,List.append_assoc];rcases Nat.lt_or_ge i off with hlt|hge
    .rw[List.getElem?_append_left (by simp;omega),List.getElem?_take_of_lt hlt];simpa using g1
    .rw[List.getElem?_append_right (by simp;omega),List.getElem?_append_right (by simp;omega),List.getElem?_drop];have:off+vs'.length+(i-(List.take off C.toList).length-vs'.length)=i:=by simp;omega
     rw[this];simpa using g1
end Go.Vai

namespace Go.Vai
open Go
variable {β:Type}{fl:β}{good:β->Prop}{P:Program}{φ:eW}{h:af}{w:World}{t:TypeId}
def aae(nx:Next)(v:Value):Prop:=nx=.value v\/(nx=.skip/\v=undef)
def Vs(good:β->Prop)(P:Program)(φ:eW)(h:af)(w:World)(V:YYY β)(r:Result Next):Prop:=
 ∃φ' v v' h' w' nx,good (V v h')/\VR φ' v v'/\HR P φ' h' w'/\Ext φ φ' h h' w w'/\r=.ok nx w'/\aae nx v'
theorem bH(hfl:¬good fl){b:Nat}{o:bO}{V:af->β}(hg:good (setBlock fl b o h V)):h.lo<=b/\good (V ⟨h.nx,h.bl.bt b o,h.lo⟩):=by
 unfold setBlock at hg;split at hg
 .rename_i hle;rw[T.ia]at hg;exact⟨cU hle,hg⟩
 .exact absurd hg hfl
theorem Dq(hfl:¬good fl){s:Nat}(hs:fT P t=some s)(hr:HR P φ h w){a a' x x':Value}{V:YYY β}(hg:good (aV fl s a x h V))(ha:VR φ a a')(hx:VR φ x x'):∃h' w',good (V undef h')/\HR P φ h' w'/\Ext φ φ h h' w w'/\(Instr.storeAt t a' x').run P w=.ok () w':=by
 unfold aV at hg;split at hg<;>try cases hfl hg
 cases ha with
 |ptr hp=>
  split at hg<;>try cases hfl hg
  rename_i n c e op hb;split at hg<;>try cases hfl hg
  rename_i hl;have hl:=cD hl;obtain⟨g1,g2,g3⟩:=kW hfl _ _ _ _ _ hg;obtain⟨hlo,g3⟩:=bH hfl g3;obtain⟨w',k1,k2,k3⟩:=hr.storeAt hlo hb hp hx.cells g1 g2;refine⟨_,w',g3,k2,k3,?_⟩;have hsz:x'.cells.size=s:=by have:=hx.cells.length;simp at this hl;omega
  simp[Instr.storeAt,Instr.sureAddr,storeVar,cM hs,hsz,k1]
theorem oL(x:MapEntry)(es:List MapEntry)(V:List MapEntry->β):B_ x es V=V (es++[x]):=by
 induction es generalizing V with
 |nil=>rfl
 |cons e es ih=>simp only[B_,ih,List.cons_append]
theorem oM(f:MapEntry->MapEntry):∀(i:Nat)(es:List MapEntry)(V:List MapEntry->β),setAt f i es V=V (es.modify i f):=by
 intro i es
 induction es generalizing i with
 |nil=>intro V;cases i<;>simp[setAt]
 |cons e es ih=>intro V;cases i<;>simp[setAt,ih]
theorem zo:∀(i:Nat)(es:List MapEntry)(V:List MapEntry->β),Ca i es V=V (es.eraseIdx i):=by
 intro i es
 induction es generalizing i with
 |nil=>intro V;cases i<;>simp[Ca]
 |cons e es ih=>intro V;cases i<;>simp[Ca,ih]
theorem HR.qK(hr:HR P φ h w){b clock clock':Nat}(hlo:h.lo<=b){es es1:List MapEntry}{J5:Array MapEntry}{pl:Pl}(hb:h.bl.get b=some (.map es clock))(hp:φ b=some pl)(h1:F2 (ER φ) es1 J5.toList):∃w',(setObj pl.B (.map J5 clock')).run P w=.ok () w'/\HR P φ ⟨h.nx,h.bl.bt b (.map es1 clock'),h.lo⟩ w'/\Ext φ φ h ⟨h.nx,h.bl.bt b (.map es1 clock'),h.lo⟩ w w':=by
 obtain⟨es',hO,h2⟩:=hr.qj hb hp;have hlt:pl.B<w.heap.size:=(hr.dom b pl hp).2;refine⟨{ w with heap:=w.heap.setIfInBounds pl.B (.map J5 clock') },by simp[setObj,Sem.run,hO],?_⟩;refine hr.turn hlo hp ⟨_,hb,trivial⟩ (by simp) (λk hk=>?_) ?_ rfl rfl rfl (.inl trivial)
 .show(w.heap.setIfInBounds pl.B (.map J5 clock'))[k]? = _
  exact Array.getElem?_setIfInBounds_ne (Ne.symm hk)
 .show OR P φ _ pl ((w.heap.setIfInBounds pl.B (.map J5 clock'))[pl.B]?)
  rw[Array.getElem?_setIfInBounds_self_of_lt hlt];exact⟨rfl,h1⟩
theorem F2.modify{α γ:Type}{R:α->γ->Prop}{f:α->α}{g:γ->γ}{l:List α}{m:List γ}(hl:F2 R l m)(hfg:∀a b,R a b->R (f a) (g b))(i:Nat):F2 R (l.modify i f) (m.modify i g):=by
 induction hl generalizing i with
 |nil=>simp;exact .nil
 |cons hr ht ih=>cases i with
  |zero=>simp;exact .cons (hfg _ _ hr) ht
  |succ i=>simp;exact .cons hr (ih i)
theorem F2.eraseIdx{α γ:Type}{R:α->γ->Prop}{l:List α}{m:List γ}(hl:F2 R l m)(i:Nat):F2 R (l.eraseIdx i) (m.eraseIdx i):=by
 induction hl generalizing i with
 |nil=>simp;exact .nil
 |cons hr ht ih=>cases i with
  |zero=>simpa using ht
  |succ i=>simp;exact .cons hr (ih i)
theorem n_{a:Value}(hs:oA a=true):Instr.sameBits 10000 a a=true:=by
 have one:∀{n:Nat}{v:Value},kO v=true->Instr.sameBits n v v=true:=by
  intro n v hv;cases v<;>simp[kO]at hv<;>simp[Instr.sameBits,Vo]
 cases a
 case agg cs=>
  simp only[oA]at hs;simp only[Instr.sameBits,beq_self_eq_true,Bool.true_and];generalize cs.toList=l at hs
  induction l with
  |nil=>simp
  |cons v l ih=>simp only[List.all_cons,Bool.and_eq_true]at hs;simp[one hs.1];simpa using ih hs.2
 all_goals exact one hs
theorem yF{f:Value->Value->Bool}(hf:∀a b,f a b=true->a=b):∀(l m:List Value),yZ f l m=true->l=m:=by
 intro l
 induction l with
 |nil=>intro m hm;cases m<;>simp[yZ]at hm;rfl
 |cons x l ih=>intro m hm;cases m with
  |nil=>simp[yZ]at hm
  |cons y m=>simp only[yZ,Bool.and_eq_true]at hm;rw[hf _ _ hm.1,ih _ hm.2]
theorem Dr:∀(n:Nat)(a b:Value),lE n a b=true->a=b:=by
 intro n
 induction n with
 |zero=>intro a b hv;simp[lE]at hv
 |succ n ih=>
  intro a b hv;simp only[lE]at hv;split at hv<;>try (cases hv;done)
  .simp at hv;rw[hv]
  .simp[gX,iO]at hv;rw[hv.1,hv.2]
  .simp[kT]at hv;rw[hv]
  .rfl
  .simp only[Bool.and_eq_true]at hv;rw[cD hv.1,cD hv.2]
  .simp only[Bool.and_eq_true]at hv;rw[cD hv.1,cD hv.2]
  .simp only[Bool.and_eq_true]at hv;obtain⟨⟨⟨h1,h2⟩,h3⟩,h4⟩:=hv;rw[cD h1,cD h2,cD h3,cD h4]
  .rfl
  .rw[cD hv]
  .rfl
  .rfl
  .simp only[Bool.and_eq_true]at hv;rw[cD hv.1,ih _ _ hv.2]
  .congr 1;exact Array.ext' (yF ih _ _ hv)
  .congr 1;exact Array.ext' (yF ih _ _ hv)
  .simp only[Bool.and_eq_true]at hv;obtain⟨⟨h1,h2⟩,h3⟩:=hv;rw[cD h1,Array.ext' (yF ih _ _ h2),Array.ext' (yF ih _ _ h3)]
theorem oN(hfl:¬good fl){kt et:TypeId}(hu:P.underlying t=some (.map kt et))(hr:HR P φ h w){m m' k k' x x':Value}{V:YYY β}(hg:good (cz fl P kt m k x h V))(hm:VR φ m m')(hk:VR φ k k')(hx:VR φ x x'):∃h' w',good (V undef h')/\HR P φ h' w'/\Ext φ φ h h' w w'/\(Instr.mapUpdate t m' k' x').run P w=.ok () w':=by
 unfold cz at hg;split at hg<;>try cases hfl hg
 rename_i J1;have hsc:=pT J1;have hkk:=rF hsc hk;subst hkk;have BF:∀em,(Instr.checkKey em 10000 kt k').run P w=.ok () w:=λem=>jM 20 10000 YYZ kt k' em J1;obtain⟨u,P5⟩:=rH J1;split at hg<;>try cases hfl hg
 cases hm with
 |map hp=>
  rename_i pl;split at hg<;>try cases hfl hg
  rename_i es clock hb;obtain⟨es',hO,h2⟩:=hr.qj hb hp;split at hg
  .rename_i i e hf;split at hg<;>try cases hfl hg
   rename_i hes;rw[oM]at hg;obtain⟨hlo,hg⟩:=bH hfl hg;obtain⟨r',g3,g4⟩:=dB hr hk es es'.toList 0 _ h2 hf;cases r' with
   |none=>exact g4.elim
   |some p=>
    obtain⟨i',v'⟩:=p;obtain⟨rfl,_,g6,_,_⟩:=g4;simp only[Nat.sub_zero]at g6;obtain⟨e',qw,Vt⟩:=h2.get _ _ g6;have hke:=Dr 3 _ _ hes;have hkey:e'.key=k':=by
     have h3:=Vt.key;rw[<-hke]at h3;exact rF hsc h3
    have hsame:(Instr.keyThatStays (((es'[i']?).map (·.key)).getD k') k').run P w=.ok k' w:=by
     have:es'[i']? = some e':=by simpa using qw
     simp[Instr.keyThatStays,this,hkey,n_ hsc]
    have hnew:F2 (ER φ) (es.modify i' λe=>{ e with key:=k',val:=x }) (es'.modify i' λe=>{ e with key:=k',val:=x' }).toList:=by
     rw[Array.toList_modify];exact h2.modify (f:=λe=>{ e with key:=k',val:=x }) (g:=λe=>{ e with key:=k',val:=x' }) (λa b hab=>⟨hk,hx,hab.born⟩) i'
    obtain⟨w',k1,k2,k3⟩:=hr.qK hlo (clock':=clock) hb hp hnew;refine⟨_,w',hg,k2,k3,?_⟩;simp[Instr.mapUpdate,a_ hu,dg hO,BF,fM P5 g3,hsame,k1]
  .rename_i hf;rw[oL,bY]at hg;obtain⟨hlo,hg⟩:=bH hfl hg;obtain⟨r',g3,g4⟩:=dB hr hk es es'.toList 0 _ h2 hf;cases r' with
   |some p=>exact g4.elim
   |none=>
    have hnew:F2 (ER φ) (es++[{ key:=k',val:=x,born:=clock }]) (es'.push { key:=k',val:=x',born:=clock }).toList:=by
     rw[Array.toList_push];exact h2.append (.cons ⟨hk,hx,rfl⟩ .nil)
    obtain⟨w',k1,k2,k3⟩:=hr.qK hlo (clock':=clock+1) hb hp hnew;refine⟨_,w',hg,k2,k3,?_⟩;simp[Instr.mapUpdate,a_ hu,dg hO,BF,fM P5 g3,k1]
  .exact absurd hg hfl
theorem yf(hfl:¬good fl){kt et:TypeId}{zero:Value}{inf:TypeInfo}(hu:P.underlying t=some (.map kt et))(hi:P.info? et=some inf)(hz:inf.zero=some zero)(hzs:qA zero=true)(hr:HR P φ h w){m m' k k':Value}{V:YYY β}(hg:good (oF fl P kt zero m k h V))(hm:VR φ m m')(hk:VR φ k k'):∃v v' h' w',good (V v h')/\VR φ v v'/\HR P φ h' w'/\Ext φ φ h h' w w'/\(Instr.mapEntry t m' k').run P w=.ok v' w':=by
 unfold oF at hg;split at hg<;>try cases hfl hg
 rename_i J1;have hsc:=pT J1;have hkk:=rF hsc hk;subst hkk;have BF:∀em,(Instr.checkKey em 10000 kt k').run P w=.ok () w:=λem=>jM 20 10000 YYZ kt k' em J1;obtain⟨u,P5⟩:=rH J1;split at hg<;>try cases hfl hg
 cases hm with
 |map hp=>
  rename_i pl;split at hg<;>try cases hfl hg
  rename_i es clock hb;obtain⟨es',hO,h2⟩:=hr.qj hb hp;split at hg
  .rename_i i e hf;split at hg<;>try cases hfl hg
   rename_i hes;rw[oM]at hg;obtain⟨hlo,hg⟩:=bH hfl hg;obtain⟨r',g3,g4⟩:=dB hr hk es es'.toList 0 _ h2 hf;cases r' with
   |none=>exact g4.elim
   |some p=>
    obtain⟨i',v'⟩:=p;obtain⟨rfl,_,g6,g7,_⟩:=g4;simp only[Nat.sub_zero]at g6;obtain⟨e',qw,Vt⟩:=h2.get _ _ g6;have hke:=Dr 3 _ _ hes;have hkey:e'.key=k':=by
     have h3:=Vt.key;rw[<-hke]at h3;exact rF hsc h3
    have om:es'[i']? = some e':=by simpa using qw
    have hsame:(Instr.keyThatStays (((es'[i']?).map (·.key)).getD k') k').run P w=.ok k' w:=by
     simp[Instr.keyThatStays,om,hkey,n_ hsc]
    have hnew:F2 (ER φ) (es.modify i' λe=>{ e with key:=k' }) (es'.modify i' λe=>{ e with key:=k' }).toList:=by
     rw[Array.toList_modify];exact h2.modify (f:=λe=>{ e with key:=k' }) (g:=λe=>{ e with key:=k' }) (λa b hab=>⟨hk,hab.val,hab.born⟩) i'
    obtain⟨w',k1,k2,k3⟩:=hr.qK hlo (clock':=clock) hb hp hnew;refine⟨_,.tuple #[v',.int .i64 (.ofNat e.born)],_,w',hg,VR.tuple' (.cons g7 (.cons (.int _ _) .nil)),k2,k3,?_⟩;have LV:e'.born=e.born:=Vt.born;simp[Instr.mapEntry,a_ hu,dg hO,BF,fM P5 g3,om,hkey,Instr.keyThatStays,n_ hsc,k1,LV,goInt]
  .rename_i hf;rw[oL,bY]at hg;obtain⟨hlo,hg⟩:=bH hfl hg;obtain⟨r',g3,g4⟩:=dB hr hk es es'.toList 0 _ h2 hf;cases r' with
   |some p=>exact g4.elim
   |none=>
    have hnew:F2 (ER φ) (es++[{ key:=k',val:=zero,born:=clock }]) (es'.push { key:=k',val:=zero,born:=clock }).toList:=by
     rw[Array.toList_push];exact h2.append (.cons ⟨hk,jw hzs,rfl⟩ .nil)
    obtain⟨w',k1,k2,k3⟩:=hr.qK hlo (clock':=clock+1) hb hp hnew;refine⟨_,.tuple #[zero,.int .i64 (.ofNat clock)],_,w',hg,VR.tuple' (.cons (jw hzs) (.cons (.int _ _) .nil)),k2,k3,?_⟩;simp[Instr.mapEntry,a_ hu,dg hO,BF,fM P5 g3,iI hi hz,k1,goInt]
  .exact absurd hg hfl
theorem Ds{n:Nat}:∀(es es':List MapEntry)(i j:Nat),F2 (ER φ) es es'->y7 n es i=some j->
  i<=j/\es'.findIdx? (λe=>(e.born:Int) == (n:Int))=some (j-i):=by
 intro es
 induction es with
 |nil=>intro es' i j _ hf;simp[y7]at hf
 |cons e es ih=>
  intro es' i j h2 hf;cases h2 with
  |cons he h2=>
   rename_i e' l';simp only[y7]at hf;have hb:e'.born=e.born:=he.born;split at hf
   .rename_i hq;cases hf;have:=Nat.eq_of_beq_eq_true hq;refine⟨Nat.le_refl _,?_⟩;simp[List.findIdx?_cons,hb,this]
   .rename_i hq;obtain⟨g1,g2⟩:=ih _ _ _ h2 hf;have hne:e.born≠n:=by intro x;subst x;simp at hq
    refine⟨YYZ,?_⟩;have:((e'.born:Int) == (n:Int))=false:=by rw[hb];simp;omega
    rw[List.findIdx?_cons,this];simp[g2];omega
theorem uh(hfl:¬good fl)(hr:HR P φ h w){m m' s s' x x':Value}{V:YYY β}(hg:good (kR fl m s x h V))(hm:VR φ m m')(hs:VR φ s s')(hx:VR φ x x'):∃h' w',good (V undef h')/\HR P φ h' w'/\Ext φ φ h h' w w'/\(Instr.entryStore t m' s' x').run P w=.ok () w':=by
 unfold kR at hg;split at hg<;>try cases hfl hg
 cases hm with
 |map hp=>
  rename_i pl;split at hg<;>try cases hfl hg
  rename_i n;cases hs;split at hg<;>try cases hfl hg
  rename_i es clock hb;obtain⟨es',hO,h2⟩:=hr.qj hb hp;split at hg<;>try cases hfl hg
  rename_i i hf;rw[oM]at hg;obtain⟨hlo,hg⟩:=bH hfl hg;obtain⟨_,g2⟩:=Ds es es'.toList 0 i h2 hf;have hnew:F2 (ER φ) (es.modify i λe=>{ e with val:=x }) (es'.modify i λe=>{ e with val:=x' }).toList:=by
   rw[Array.toList_modify];exact h2.modify (f:=λe=>{ e with val:=x }) (g:=λe=>{ e with val:=x' }) (λa b hab=>⟨hab.key,hx,hab.born⟩) i
  obtain⟨w',k1,k2,k3⟩:=hr.qK hlo (clock':=clock) hb hp hnew;refine⟨_,w',hg,k2,k3,?_⟩;have g3:es'.findIdx? (λe=>(e.born:Int) == (n:Int))=some i:=by
   rw[show es'=es'.toList.toArray from by simp,List.findIdx?_toArray];simpa using g2
  simp[Instr.entryStore,dg hO,asInt,asIntOf,g3,k1]
end Go.Vai

namespace Go.Vai
open Go
variable {β:Type}{fl:β}{good:β->Prop}{P:Program}{φ:eW}{h:af}{w:World}{t:TypeId}
theorem BH(hfl:¬good fl){kt et ty:TypeId}{ts:Array TypeId}(ht:ts[0]? = some t)(hu:P.underlying t=some (.map kt et))(hr:HR P φ h w){m m' k k':Value}{V:YYY β}(hg:good (nD fl P kt m k h V))(hm:VR φ m m')(hk:VR φ k k'):∃h' w',good (V (.tuple #[]) h')/\HR P φ h' w'/\Ext φ φ h h' w w'/\(Builtin.delete_ ts ty #[m',k']).run P w=.ok (.tuple #[]) w':=by
 unfold nD at hg;split at hg<;>try cases hfl hg
 rename_i J1;have hsc:=pT J1;have hkk:=rF hsc hk;subst hkk;have BF:∀em,(Instr.checkKey em 10000 kt k').run P w=.ok () w:=λem=>jM 20 10000 YYZ kt k' em J1;obtain⟨u,P5⟩:=rH J1;cases hm<;>try cases hfl hg
 .exact⟨h,w,hg,hr,Ext.refl _ _ _,by simp[Builtin.delete_,ht,a_ hu,BF]⟩
 .rename_i r pl hp;simp only at hg;split at hg<;>try cases hfl hg
  rename_i es clock hb;obtain⟨es',hO,h2⟩:=hr.qj hb hp;split at hg
  .rename_i i e hf;rw[zo]at hg;obtain⟨hlo,hg⟩:=bH hfl hg;obtain⟨r',g3,g4⟩:=dB hr hk es es'.toList 0 _ h2 hf;cases r' with
   |none=>exact g4.elim
   |some p=>
    obtain⟨i',v'⟩:=p;obtain⟨rfl,_,g6,_,_⟩:=g4;have hnew:F2 (ER φ) (es.eraseIdx i') (es'.eraseIdxIfInBounds i').toList:=by
     have:(es'.eraseIdxIfInBounds i').toList=es'.toList.eraseIdx i':=by
      unfold Array.eraseIdxIfInBounds;split
      .simp
      .rename_i hn;rw[List.eraseIdx_of_length_le (by simpa using hn)]
     rw[this];exact h2.eraseIdx i'
    obtain⟨w',k1,k2,k3⟩:=hr.qK hlo (clock':=clock) hb hp hnew;exact⟨_,w',hg,k2,k3,by simp[Builtin.delete_,ht,a_ hu,dg hO,BF,fM P5 g3,k1]⟩
  .rename_i hf;obtain⟨r',g3,g4⟩:=dB hr hk es es'.toList 0 _ h2 hf;cases r' with
   |some p=>exact g4.elim
   |none=>
    have af3:(setObj pl.B (.map es' clock)).run P w=.ok () w:=by
     have hlt:pl.B<w.heap.size:=(hr.dom r pl hp).2;simp[setObj,Sem.run,hO];have:w.heap.setIfInBounds pl.B (.map es' clock)=w.heap:=by
      apply Array.ext_getElem?;intro i;by_cases hi:i=pl.B
      .subst hi;rw[Array.getElem?_setIfInBounds_self_of_lt hlt,hO]
      .rw[Array.getElem?_setIfInBounds_ne (Ne.symm hi)]
     rw[this]
    exact⟨h,w,hg,hr,Ext.refl _ _ _,by simp[Builtin.delete_,ht,a_ hu,dg hO,BF,fM P5 g3,af3]⟩
  .exact absurd hg hfl
theorem HR.J6(hr:HR P φ h w){b since stepped:Nat}{m:Option Nat}{seen:List Nat}{pl:Pl}(hb:h.bl.get b=some (.fh m since seen stepped))(hp:φ b=some pl):∃m' seen',w.heap[pl.B]? = some (.mapIter m' since seen' stepped)/\seen'.toList=seen.reverse/\((m=none/\m'=none)\/∃b mZ,m=some b/\φ b=some mZ/\m'=some mZ.B):=by
 have:=hr.obj b _ pl hb hp;cases hO:w.heap[pl.B]? with
 |none=>rw[hO]at this;exact this.elim
 |some O=>
  rw[hO]at this;cases O<;>simp only[OR]at this<;>try exact this.elim
  obtain⟨rfl,rfl,h3,h4⟩:=this;exact⟨_,_,rfl,h3,h4⟩
theorem Dt(hfl:¬good fl){kt et:TypeId}(hu:P.underlying t=some (.map kt et))(hr:HR P φ h w){x x':Value}{V:YYY β}(hg:good (pP fl x h V))(hx:VR φ x x'):∃φ' v v' h' w',good (V v h')/\VR φ' v v'/\HR P φ' h' w'/\Ext φ φ' h h' w w'/\(Instr.range t x').run P w=.ok v' w':=by
 unfold pP at hg;split at hg<;>try cases hfl hg
 .cases hx;obtain⟨hn,g1⟩:=dL hfl hg;obtain⟨k1,k2⟩:=hr.fresh (o:=.fh none 0 [] 0) (O:=.mapIter none 0 #[] 0) hn 0 0 ⟨rfl,rfl,rfl,.inl ⟨rfl,rfl⟩⟩ trivial;exact⟨_,_,.pointer (some ⟨w.heap.size,0,none⟩),_,_,g1,.ptr (fo _ _ _),k1,k2,by simp[Instr.range,a_ hu]⟩
 .split at hg<;>try cases hfl hg
  rename_i r _ es clock hb;cases hx with
  |map hp=>
   rename_i pl;obtain⟨es',hO,h2⟩:=hr.qj hb hp;obtain⟨hn,g1⟩:=dL hfl hg;obtain⟨k1,k2⟩:=hr.fresh (o:=.fh (some r) clock [] clock) (O:=.mapIter (some pl.B) clock #[] clock) hn 0 0 ⟨rfl,rfl,rfl,.inr ⟨r,pl,rfl,hp,rfl⟩⟩ trivial;exact⟨_,_,.pointer (some ⟨w.heap.size,0,none⟩),_,_,g1,.ptr (fo _ _ _),k1,k2,by simp[Instr.range,a_ hu,dg hO]⟩
theorem nJ{B:Nat}{m:Option Nat}{since stepped:Nat}{seen:Array Nat}(hO:w.heap[B]? = some (.mapIter m since seen stepped)):(getObj B).run P w=.ok (.mapIter m since seen stepped) w:=by
 simp[getObj,Sem.run,hO]
theorem F2.filter{α γ:Type}{R:α->γ->Prop}{f:α->Bool}{g:γ->Bool}{l:List α}{m:List γ}(hl:F2 R l m)(hfg:∀a b,R a b->f a=g b):F2 R (l.filter f) (m.filter g):=by
 induction hl with
 |nil=>exact .nil
 |@cons a b l m hr _ ih=>
  simp only[List.filter_cons,hfg a b hr];split
  .exact .cons hr ih
  .exact ih
theorem F2.allEq{α γ:Type}{R:α->γ->Prop}{f:α->Bool}{g:γ->Bool}{l:List α}{m:List γ}(hl:F2 R l m)(hfg:∀a b,R a b->f a=g b):l.all f=m.all g:=by
 induction hl with
 |nil=>rfl
 |cons hr _ ih=>simp[hfg _ _ hr,ih]
theorem aaf(a b:Nat):Nat.beq a b=(a == b):=by rw[Bool.eq_iff_iff];simp
theorem aag(a b:Nat):Nat.ble a b=decide (a<=b):=by rw[Bool.eq_iff_iff];simp[Nat.ble_eq]
theorem Du(hfl:¬good fl){both:β->β->β}(Qy:∀x y,good (both x y)->good x/\good y){b m since clock:Nat}{seen:List Nat}{V:YYY β}:∀(es:List MapEntry)(e:MapEntry),
  good (nF fl both b m since seen clock h V e es)->∀(i:Nat)(x:MapEntry),(e::es)[i]? = some x->x.born<since/\h.lo<=b/\good (V (.tuple #[.bool true,x.key,x.val]) ⟨h.nx,h.bl.bt b (.fh (some m) since (x.born::seen) clock),h.lo⟩):=by
 intro es
 induction es with
 |nil=>
  intro e hg i x hx;unfold nF at hg;split at hg<;>try cases hfl hg
  rename_i hle;obtain⟨hlo,hg⟩:=bH hfl hg;cases i with
  |zero=>simp at hx;subst hx;exact⟨cU hle,hlo,hg⟩
  |succ i=>simp at hx
 |cons e' es ih=>
  intro e hg i x hx;unfold nF at hg;split at hg<;>try cases hfl hg
  rename_i hle;obtain⟨g1,g2⟩:=Qy _ _ hg;obtain⟨hlo,g1⟩:=bH hfl g1;cases i with
  |zero=>simp at hx;subst hx;exact⟨cU hle,hlo,g1⟩
  |succ i=>exact ih e' g2 i x (by simpa using hx)
theorem HR.drew(hr:HR P φ h w):HR P φ h w.drew:=⟨hr.obj,hr.dom,hr.keys,hr.Qp,hr.inj,hr.lo⟩
theorem Ext.drew{φ':eW}{h':af}{w':World}(hx:Ext φ φ' h h' w w'):Ext φ φ' h h' w w'.drew:=⟨hx.sub,hx.new,hx.nx,hx.size,hx.BC,hx.ET,hx.tape,hx.os,hx.output,hx.fz,hx.lo,hx.JL,hx.JM,Nat.le_succ_of_le hx.dr⟩
theorem Ext.aah{φ':eW}{h':af}{w':World}(hx:Ext φ φ' h h' w.drew w'):Ext φ φ' h h' w w':=⟨hx.sub,hx.new,hx.nx,hx.size,hx.BC,hx.ET,hx.tape,hx.os,hx.output,hx.fz,hx.lo,hx.JL,hx.JM,Nat.le_of_succ_le hx.dr⟩
theorem yg(n:Nat)(hn:0<n)(w:World):∃k w',k<n/\(w'=w\/w'=w.drew)/\(choose (.mapNext n)).run P w=.ok k w':=by
 by_cases h1:n<=1
 .refine⟨0,w,hn,.inl rfl,?_⟩;simp[Question.forced,h1]
 .refine⟨(Question.mapNext n).cut (w.tape w.drawn (.mapNext n)),w.drew,Nat.mod_lt _ hn,.inr rfl,?_⟩;simp[choose,Sem.run,Question.forced,h1]
theorem Fk(hfl:¬good fl){both:β->β->β}(Qy:∀x y,good (both x y)->good x/\good y){ty:TypeId}(hr:HR P φ h w){x x':Value}{V:YYY β}(hg:good (sk fl both x h V))(hx:VR φ x x'):∃v v' h' w',good (V v h')/\VR φ v v'/\HR P φ h' w'/\Ext φ φ h h' w w'/\(Instr.next x' false ty).run P w=.ok v' w':=by
 unfold sk at hg;split at hg<;>try cases hfl hg
 cases hx with
 |ptr hp=>
  rename_i b pl;split at hg<;>try cases hfl hg
  .rename_i since seen stepped hb;obtain⟨m',seen',hO,_,h4⟩:=hr.J6 hb hp;rcases h4 with⟨_,rfl⟩|⟨b1,mZ,h5,_⟩
   .exact⟨_,.tuple #[.bool false],h,w,hg,VR.tuple' (.cons (.bool false) .nil),hr,Ext.refl _ _ _,by simp[Instr.next,nJ hO]⟩
   .cases h5
  .rename_i m since seen last hb;obtain⟨m',seen',hO,Fl,h4⟩:=hr.J6 hb hp;rcases h4 with⟨h5,_⟩|⟨b1,mZ,h5,hp',rfl⟩
   .cases h5
   .cases h5;split at hg<;>try cases hfl hg
    rename_i es clock hm;obtain⟨es',YE,h2⟩:=hr.qj hm hp';split at hg<;>try cases hfl hg
    rename_i alp;have af4:∀e e':MapEntry,ER φ e e'->(!seen.any (Nat.beq e.born))=(!seen'.contains e'.born):=by
     intro e e' he;rw[he.born]
     congr 1
     rw[<-Array.contains_toList,Fl,Bool.eq_iff_iff];simp
    have hleft:F2 (ER φ) (es.filter λe=>!seen.any (Nat.beq e.born)) (es'.filter λe=>!seen'.contains e.born).toList:=by
     rw[Array.toList_filter];exact h2.filter af4
    have Vu:seen'.isEmpty=seen.isEmpty:=by
     have:seen'.toList.isEmpty=seen.isEmpty:=by rw[Fl];simp
     rw[<-this];simp
    have alq:es'.isEmpty=es.isEmpty:=by
     have:es'.toList.isEmpty=es.isEmpty:=by generalize es'.toList=L at h2;cases h2<;>rfl
     rw[<-this];simp
    have hall:es'.all (λe=>decide (e.born>=last))=es.all (λe=>Nat.ble last e.born):=by
     rw[<-Array.all_toList];exact(h2.allEq λa b hab=>by rw[hab.born,aag]).symm
    have YF:(!seen'.isEmpty && !es'.isEmpty && es'.all (λe=>decide (e.born>=last)))=false:=by
     rw[Vu,alq,hall];exact alp
    split at hg
    .
     rename_i hnil;rw[hnil]at hleft;have hl0:es'.filter (λe=>!seen'.contains e.born)=#[]:=by
      generalize (es'.filter λe=>!seen'.contains e.born)=L at hleft;obtain⟨L⟩:=L;cases hleft;rfl
     refine⟨_,.tuple #[.bool false],h,w,hg,VR.tuple' (.cons (.bool false) .nil),hr,Ext.refl _ _ _,?_⟩;simp only[Instr.next,Sem.run_bind,nJ hO,dg YE,Result.andThen_ok,YF,hl0];simp[Question.forced]
    .rename_i e0 es0 af5;have YG:=Du hfl Qy es0 e0 hg;rw[af5]at hleft;have alr:pl.B<w.heap.size:=(hr.dom b pl hp).2;generalize hL:(es'.filter λe=>!seen'.contains e.born)=L at hleft;have hlen:=hleft.length;have Qz:L.size=es0.length+1:=by simpa using hlen.symm
     have LV:∀e'∈L.toList,e'.born<since:=by
      intro e' he';obtain⟨i,hi⟩:=List.getElem?_of_mem he';have hi':i<L.toList.length:=(List.getElem?_eq_some_iff.1 hi).1;obtain⟨x,hx⟩:∃x,(e0::es0)[i]? = some x:=⟨(e0::es0)[i]'YYZ,List.getElem?_eq_getElem YYZ⟩
      obtain⟨e2,h3,h4⟩:=hleft.get i x hx;rw[hi]at h3;cases h3;rw[h4.born];exact(YG i x hx).1
     have f1:(L.filter λe=>decide (e.born<since))=L:=by
      apply Array.ext';rw[Array.toList_filter,List.filter_eq_self];intro e he;simpa using LV e he
     have f2:(L.filter λe=>decide (e.born>=since))=#[]:=by
      apply Array.ext';rw[Array.toList_filter,List.filter_eq_nil_iff];intro e he;have:=LV e he;simp;omega
     have hne:L.isEmpty=false:=by
      rw[Array.isEmpty_eq_false_iff];intro h0;rw[h0]at Qz;simp at Qz
     obtain⟨k,w1,hk,hw1,hch⟩:=yg (P:=P) (es0.length+1) YYZ w;obtain⟨x,hx⟩:∃x,(e0::es0)[k]? = some x:=⟨(e0::es0)[k]'(by simpa using hk),List.getElem?_eq_getElem (by simpa using hk)⟩
     obtain⟨e',qw,he'⟩:=hleft.get k x hx;rw[Array.getElem?_toList]at qw;obtain⟨YC,hlo,hgood⟩:=YG k x hx;have Dv:HR P φ h w1:=by
      rcases hw1 with rfl|rfl
      .exact hr
      .exact hr.drew
     have hx1:Ext φ φ h h w w1:=by
      rcases hw1 with rfl|rfl
      .exact Ext.refl _ _ _
      .exact(Ext.refl _ _ _).drew
     have hO1:w1.heap[pl.B]? = some (.mapIter (some mZ.B) since seen' last):=by rcases hw1 with rfl|rfl<;>exact hO
     have hh1:w1.heap=w.heap:=by rcases hw1 with rfl|rfl<;>rfl
     have lS:(setObj pl.B (.mapIter (some mZ.B) since (seen'.push e'.born) clock)).run P w1=.ok () { w1 with heap:=w1.heap.setIfInBounds pl.B (.mapIter (some mZ.B) since (seen'.push e'.born) clock) }:=by
      simp[setObj,Sem.run,hO1]
     have YH:=Dv.turn hlo (o:=.fh (some m) since (x.born::seen) clock) hp ⟨_,hb,trivial⟩
      (w':={ w1 with heap:=w1.heap.setIfInBounds pl.B (.mapIter (some mZ.B) since (seen'.push e'.born) clock) }) (by simp)
      (λk hk=>Array.getElem?_setIfInBounds_ne (Ne.symm hk))
      (by
       show OR P φ _ pl ((w1.heap.setIfInBounds pl.B _)[pl.B]?)
       rw[Array.getElem?_setIfInBounds_self_of_lt (by rw[hh1];exact alr)];exact⟨rfl,rfl,by simp[Fl,he'.born],.inr ⟨m,mZ,rfl,hp',rfl⟩⟩) rfl rfl rfl (.inl trivial)
     refine⟨_,.tuple #[.bool true,e'.key,e'.val],_,_,hgood,VR.tuple' (.cons (.bool true) (.cons he'.key (.cons he'.val .nil))),YH.1,hx1.trans YH.2,?_⟩;simp only[Instr.next,Sem.run_bind,nJ hO,dg YE,Result.andThen_ok,YF,hL,f1,f2];have hc:((if L.isEmpty=true then #[none]else #[])++(L++#[]).map some:Array (Option MapEntry))=L.map some:=by simp[hne]
     rw[hc];simp only[Bool.false_eq_true,if_false,Array.size_map,Qz,Sem.run_bind,hch,Result.andThen_ok,Array.getElem?_map,qw,Option.map_some,lS];simp
theorem Dw(hfl:¬good fl)(hr:HR P φ h w){x x':Value}{V:YYY β}(hg:good (pQ fl x h V))(hx:VR φ x x'):∃v v',good (V v h)/\VR φ v v'/\(Instr.entry x').run P w=.ok v' w:=by
 unfold pQ at hg;split at hg<;>try cases hfl hg
 cases hx with
 |ptr hp=>
  rename_i b pl;split at hg<;>try cases hfl hg
  rename_i m since stamp seen stepped hb;obtain⟨m',seen',hO,Fl,h4⟩:=hr.J6 hb hp;rcases h4 with⟨h5,_⟩|⟨b1,mZ,h5,hp',rfl⟩
  .cases h5
  .cases h5;split at hg<;>try cases hfl hg
   rename_i es clock hm;obtain⟨es',YE,h2⟩:=hr.qj hm hp';split at hg<;>try cases hfl hg
   rename_i BF;have BF:=cD BF;subst BF;split at hg<;>try cases hfl hg
   rename_i e hf;have af6:seen'.back? = some stamp:=by
    have:seen'=(seen.reverse++[stamp]).toArray:=Array.ext' (by simpa using Fl);rw[this];simp
   have hfind:∃e',es'.find? (λe=>e.born == stamp)=some e'/\ER φ e e':=by
    rw[<-Array.find?_toList];clear YE hm;generalize es'.toList=L at h2
    induction h2 with
    |nil=>simp at hf
    |@cons a c l m hac _ ih=>
     simp only[List.find?_cons]at hf ⊢;rw[aaf]at hf;rw[hac.born];split at hf
     .rename_i hq;cases hf;exact⟨_,rfl,hac⟩
     .exact ih hf
   obtain⟨e',hf',he'⟩:=hfind;exact⟨_,.tuple #[e'.key,e'.val],hg,VR.tuple' (.cons he'.key (.cons he'.val .nil)),by simp[Instr.entry,nJ hO,dg YE,af6,hf']⟩
theorem gL(hfl:¬good fl)(hr:HR P φ h w){size n:Nat}{x x':Value}{V:List Value->β}(hg:good (eN fl h size n x V))(hx:VR φ x x')(hsl:∃a m c,x=.slice a m c/\n<=m):∃l l',good (V l)/\F2 (VR φ) l l'/\l.length=n*size/\∀w1:World,w1.heap=w.heap->(Builtin.firstCells size n x').run P w1=.ok l'.toArray w1:=by
 obtain⟨a,m,c,rfl,hnm⟩:=hsl;unfold eN at hg;split at hg
 .rename_i h0;have h0:n*size=0:=h0;refine⟨[],[],hg,.nil,h0.symm,λw1 hw1=>?_⟩;cases hx<;>simp[Builtin.firstCells,h0,loadCells,loadCellsFrom]
 .rename_i k hk;have hk:n*size=k+1:=hk;split at hg<;>try cases hfl hg
  rename_i b o _ _ hxx;cases hxx;split at hg<;>try cases hfl hg
  .rename_i nn cc e op hb;split at hg<;>try cases hfl hg
   rename_i hle;have hle:=cU hle;obtain⟨l,h1,h2,h3⟩:=mC hfl _ _ _ _ _ hg;simp only[List.append_nil]at h1;have fin:∀pl,φ b=some pl->∃l',F2 (VR φ) l l'/\∀w1:World,w1.heap=w.heap->(loadCells ⟨pl.B,o,none⟩ (n*size)).run P w1=.ok l'.toArray w1:=by
    intro pl hp;obtain⟨l',h4,h5⟩:=hr.LO hb hp (l:=l) (off:=o) (by rw[h2];exact hle) h3;exact⟨l',h4,λw1 hw1=>by have h5:=h5 w1 hw1;rw[h2]at h5;rw[hk];exact h5⟩
   cases hx with
   |slice hp hn hc=>
    obtain⟨l',h4,h5⟩:=fin _ hp;exact⟨l,l',h1,h4,by rw[h2,hk],λw1 hw1=>by simpa[Builtin.firstCells]using h5 w1 hw1⟩
   |bW hp hn hc=>
    obtain⟨l',h4,h5⟩:=fin _ hp;exact⟨l,l',h1,h4,by rw[h2,hk],λw1 hw1=>by simpa[Builtin.firstCells]using h5 w1 hw1⟩
   |di _ a' c=>
    have:n=0:=by omega
    subst this;simp at hk
  .rename_i nn cc e hb;split at hg<;>try cases hfl hg
   rename_i hle;have hle:=cU hle;obtain⟨l,h1,h2,h3⟩:=mC hfl _ _ _ _ _ hg;simp only[List.append_nil]at h1;have fin:∀pl,φ b=some pl->∃l',F2 (VR φ) l l'/\∀w1:World,w1.heap=w.heap->(loadCells ⟨pl.B,o,none⟩ (n*size)).run P w1=.ok l'.toArray w1:=by
    intro pl hp;obtain⟨l',h4,h5⟩:=hr.LP hb hp (l:=l) (off:=o) (by rw[h2];exact hle) h3;exact⟨l',h4,λw1 hw1=>by have h5:=h5 w1 hw1;rw[h2]at h5;rw[hk];exact h5⟩
   cases hx with
   |slice hp hn hc=>
    obtain⟨l',h4,h5⟩:=fin _ hp;exact⟨l,l',h1,h4,by rw[h2,hk],λw1 hw1=>by simpa[Builtin.firstCells]using h5 w1 hw1⟩
   |bW hp hn hc=>
    obtain⟨l',h4,h5⟩:=fin _ hp;exact⟨l,l',h1,h4,by rw[h2,hk],λw1 hw1=>by simpa[Builtin.firstCells]using h5 w1 hw1⟩
   |di _ a' c=>
    have:n=0:=by omega
    subst this;simp at hk
theorem Fm(hfl:¬good fl){e s:Nat}{ty:TypeId}{ts:Array TypeId}(ht:ts[0]? = some t)(hu:P.underlying t=some (.slice e))(hs:fT P e=some s)(hr:HR P φ h w){d d' x x':Value}{V:YYY β}(hg:good (E7 fl s d x h V))(hd:VR φ d d')(hx:VR φ x x'):∃v h' w',good (V v h')/\VR φ v v/\HR P φ h' w'/\Ext φ φ h h' w w'/\(Builtin.copy_ ts ty #[d',x']).run P w=.ok v w':=by
 unfold E7 at hg;split at hg<;>try cases hfl hg
 rename_i base dLen dCap;split at hg<;>try cases hfl hg
 rename_i a n c;rw[bY]at hg;obtain⟨base',YI,hd'⟩:∃base' YI,d'=.slice base' dLen YI:=by cases hd<;>exact⟨_,_,rfl⟩
 obtain⟨a',c',hx'⟩:∃a' c',x'=.slice a' n c':=by cases hx<;>exact⟨_,_,rfl⟩
 split at hg
 .rename_i h0;have hf:(Builtin.firstCells s 0 x').run P w=.ok #[] w:=by rw[hx'];cases a'<;>simp[Builtin.firstCells,loadCells,loadCellsFrom]
  have h0':Nat.min n dLen=0:=h0;refine⟨_,h,w,hg,.int _ _,hr,Ext.refl _ _ _,?_⟩;rw[hx']at hf;subst hd';subst hx';cases base'<;>simp[Builtin.copy_,ht,a_ hu,cM hs,Builtin.lenOf,h0',hf,storeCells,goInt]
 .rename_i k hk;split at hg<;>try cases hfl hg
  rename_i b o;obtain⟨l,l',g1,g2,g3,g4⟩:=gL hfl hr hg hx ⟨_,_,_,rfl,Nat.min_le_left _ _⟩;split at g1<;>try exact absurd g1 hfl
  rename_i nn cc e' op hb;obtain⟨k1,k2,k3⟩:=kW hfl _ _ _ _ _ g1;obtain⟨hlo,k3⟩:=bH hfl k3;have fin:∀pl,φ b=some pl->base'=some ⟨pl.B,o,none⟩->∃v h' w',good (V v h')/\VR φ v v/\HR P φ h' w'/\Ext φ φ h h' w w'/\(Builtin.copy_ ts ty #[d',x']).run P w=.ok v w':=by
   intro pl hp hbe;obtain⟨w',j1,j2,j3⟩:=hr.storeAt hlo hb hp g2 k1 k2;refine⟨_,_,w',k3,.int _ _,j2,j3,?_⟩;have g5:=g4 w rfl;clear g4;rw[hx']at g5;subst hd';subst hx';subst hbe;have g4':(Builtin.firstCells s (Nat.min n dLen) (.slice a' n c')).run P w=.ok l'.toArray w:=g5;simp[Builtin.copy_,ht,a_ hu,cM hs,Builtin.lenOf,g4',j1,goInt]
  cases hd with
  |slice hp hn hc=>cases hd';exact fin _ hp rfl
  |bW hp hn hc=>cases hd';exact fin _ hp rfl
  |di a1 a2 c2=>have:Nat.min n 0=0:=Nat.min_zero n;rw[this]at hk;cases hk
theorem s_(hfl:¬good fl){e:Nat}{z:List Value}{ty:TypeId}{ts:Array TypeId}(ht:ts[0]? = some t)(hu:P.underlying t=some (.slice e))(hz:zeroOf P e=some z)(hr:HR P φ h w){x x':Value}{V:YYY β}(hg:good (lq fl z x h V))(hx:VR φ x x'):∃h' w',good (V (.tuple #[]) h')/\HR P φ h' w'/\Ext φ φ h h' w w'/\(Builtin.clear_ ts ty #[x']).run P w=.ok (.tuple #[]) w':=by
 obtain⟨v,inf,hi,Qv,hzl,Z_⟩:=iP hz;have aal:(Builtin.clear_ ts ty #[x']).run P w=.ok (.tuple #[]) w->good (V (.tuple #[]) h)->∃h' w',good (V (.tuple #[]) h')/\HR P φ h' w'/\Ext φ φ h h' w w'/\(Builtin.clear_ ts ty #[x']).run P w=.ok (.tuple #[]) w':=
  λh1 h2=>⟨h,w,h2,hr,Ext.refl _ _ _,h1⟩
 unfold lq at hg;split at hg
 .cases hx;exact aal (by simp[Builtin.clear_,ht,a_ hu]) hg
 .refine aal ?_ hg;cases hx<;>simp[Builtin.clear_,ht,a_ hu]
 .cases hx;exact aal (by simp[Builtin.clear_,ht,a_ hu]) hg
 .rename_i b o n c hn0;split at hg<;>try cases hfl hg
  rename_i nn cc e' op hb;obtain⟨k1,k2,k3⟩:=kW hfl _ _ _ _ _ hg;obtain⟨hlo,k3⟩:=bH hfl k3;have hzz:(Builtin.zeroCells v.cells n).toList=bq z n:=by
   unfold Builtin.zeroCells;rw[ug v.cells n _ rfl,hzl]
  have fin:∀pl c',φ b=some pl->x'=.slice (some ⟨pl.B,o,none⟩) n c'->∃h' w',good (V (.tuple #[]) h')/\HR P φ h' w'/\Ext φ φ h h' w w'/\(Builtin.clear_ ts ty #[x']).run P w=.ok (.tuple #[]) w':=by
   intro pl c' hp hxe;obtain⟨w',j1,j2,j3⟩:=hr.storeAt hlo hb hp (jv (φ:=φ) (kE Z_ n)) k1 k2;refine⟨_,w',k3,j2,j3,?_⟩;subst hxe;cases n with
   |zero=>exact(hn0 rfl).elim
   |succ n=>simp[Builtin.clear_,ht,a_ hu,iI hi Qv,hzz,j1]
  cases hx with
  |slice hp hn hc=>exact fin _ _ hp rfl
  |bW hp hn hc=>exact fin _ _ hp rfl
  |di a1 a2 c2=>exact(hn0 rfl).elim
 .split at hg<;>try cases hfl hg
  rename_i r es clock hb;obtain⟨hlo,hg⟩:=bH hfl hg;cases hx with
  |map hp=>
   rename_i pl;obtain⟨es',hO,h2⟩:=hr.qj hb hp;obtain⟨w',j1,j2,j3⟩:=hr.qK hlo (es1:=[]) (J5:=#[]) (clock':=clock) hb hp .nil;exact⟨_,w',hg,j2,j3,by simp[Builtin.clear_,ht,a_ hu,dg hO,j1]⟩
 .exact absurd hg hfl
end Go.Vai

namespace Go.Vai
open Go
variable {β:Type}{fl:β}{good:β->Prop}{P:Program}{φ:eW}{h:af}{w:World}{t:TypeId}
inductive Comes(P:Program)(ts:Array TypeId)(e size:Nat)(n:Nat)(new':List Value)(w:World):Value->Prop where
 | sl {xt:TypeId} {xd:TypeDesc} {a:Option Addr} {c:Nat} (h1:ts[1]? = some xt) (h2:P.underlying xt=some xd) (h3:sU xd=false)
   (h4:∀w1:World,w1.heap=w.heap->(Builtin.firstCells size n (.slice a n c)).run P w1=.ok new'.toArray w1):Comes P ts e size n new' w (.slice a n c)
 | mk {xt:TypeId} {k k':IntKind} {inf:TypeInfo} {v:Value} (h1:ts[1]? = some xt) (h2:P.underlying xt=some (.int k')) (h3:n<=1000000) (h4:P.info? e=some inf) (h5:inf.zero=some v)
   (h6:inf.bytes<=10000) (h7:Builtin.zeroCells v.cells n=new'.toArray) (h8:n*size=0->new'=[]):Comes P ts e size n new' w (.int k (n:Int))
theorem Fo(hfl:¬good fl){e size:Nat}{xt:TypeId}{xd:TypeDesc}{inf:TypeInfo}{ts:Array TypeId}{z:List Value}(hz:Qg P e=some (z,size))(hi:P.info? e=some inf)(hb:inf.bytes<=10000)(hxt:ts[1]? = some xt)(hxd:P.underlying xt=some xd)(hr:HR P φ h w){x x':Value}{V:Nat->List Value->β}(hg:good (kP fl (sU xd) z h size x V))(hx:VR φ x x'):∃n new new',good (V n new)/\F2 (VR φ) new new'/\new.length=n*size/\Comes P ts e size n new' w x':=by
 obtain⟨hz1,zn,Qw,NV⟩:=lY hz;obtain⟨v,aac,hi',Qv,hzl,Z_⟩:=iP hz1;rw[hi]at hi';cases hi';unfold kP at hg;split at hg
 .rename_i k n hm;split at hg<;>try cases hfl hg
  rename_i hle;have hle:=cU hle;cases hx;have hzz:Builtin.zeroCells v.cells n=(bq z n).toArray:=by
   unfold Builtin.zeroCells;rw[ug v.cells n _ rfl,hzl]
  obtain⟨k',rfl⟩:∃k',xd=.int k':=by cases xd<;>first|exact⟨_,rfl⟩|cases hm
  refine⟨n,_,_,hg,jv (kE Z_ n),by rw[qJ,Qw],.mk hxt hxd hle hi Qv hb hzz ?_⟩;intro h0;have hn0:n=0:=by rcases Nat.mul_eq_zero.1 h0 with h|h<;>omega
  subst hn0;rfl
 .rename_i a n c hm;obtain⟨l,l',g1,g2,g3,g4⟩:=gL hfl hr hg hx ⟨_,_,_,rfl,Nat.le_refl _⟩;obtain⟨a',c',rfl⟩:∃a' c',x'=.slice a' n c':=by cases hx<;>exact⟨_,_,rfl⟩
  exact⟨n,l,l',g1,g2,g3,.sl hxt hxd hm g4⟩
 .exact absurd hg hfl
theorem kF{e size n sLen sCap:Nat}{ty:TypeId}{ts:Array TypeId}{base:Option Addr}{x':Value}{new':List Value}(ht:ts[0]? = some t)(hu:P.underlying t=some (.slice e))(hs:fT P e=some size)(hc:Comes P ts e size n new' w x')(hle:sLen+n<=sCap){w':World}(hst:∀a,base=some a->(storeCells (a.add (sLen*size)) new').run P w=.ok () w')(hno:base=none->w'=w):(Builtin.append_ ts ty #[.slice base sLen sCap,x']).run P w=.ok (.slice base (sLen+n) sCap) w':=by
 cases hc with
 |@sl xt xd a c h1 h2 h3 h4=>
  have h4:=h4 w rfl;have key:∀d,P.underlying xt=some d->sU d=false->(Builtin.append_ ts ty #[.slice base sLen sCap,.slice a n c]).run P w=.ok (.slice base (sLen+n) sCap) w':=by
   intro d hd hdf;unfold Builtin.append_;cases d<;>first
    |(cases hdf;done)
    | (simp only[ht,h1,List.getElem?_toArray,List.getElem?_cons_zero,List.getElem?_cons_succ,Sem.run_bind,a_ hu,a_ hd,Result.andThen_ok,cM hs,Sem.run_pure,Bool.false_eq_true,if_false,
      Builtin.lenOf,hle,Bool.not_false,if_true,h4]
       cases base with
       |none=>rw[hno rfl];simp only[Sem.run_pure]
       |some b=>simp only[Sem.run_bind,hst b rfl,Result.andThen_ok,Sem.run_pure])
  exact key xd h2 h3
 |@mk xt k k' inf v h1 h2 h3 h4 h5 h6 h7 h8=>
  have w1:IntKind.i64.wrap (n:Int)=n:=IntWalk.i64_in _ ⟨YYZ,YYZ⟩;have c1:¬((n:Int)<0):=by omega
  have c2:¬((n:Int)*(inf.bytes:Int) > 2 ^ 48):=by
   have:n*inf.bytes<=1000000*10000:=Nat.mul_le_mul h3 h6;have h2:(n:Int)*(inf.bytes:Int)=((n*inf.bytes:Nat):Int):=by simp
   rw[h2];omega
  have hA:(asInt (.int k (n:Int))).run P w=.ok (n:Int) w:=by simp[asInt,asIntOf]
  have hnew:(if n*size=0 then pure #[]else do pure (Builtin.zeroCells (<-zeroValue e).cells n):Sem (Array Value)).run P w=.ok new'.toArray w:=by
   by_cases h0:n*size=0
   .simp only[h0,if_true,h8 h0];rfl
   .simp[h0,iI h4 h5,h7]
  simp only[Sem.run_ite,Sem.run_bind,Sem.run_pure]at hnew;unfold Builtin.append_;simp only[ht,h1,List.getElem?_toArray,List.getElem?_cons_zero,List.getElem?_cons_succ,Sem.run_bind,a_ hu,a_ h2,Result.andThen_ok,cM hs,Sem.run_pure,if_true,hA,w1,c1,if_false,
   qI h4,c2,Int.toNat_natCast,hle,Bool.not_true,Bool.false_eq_true,Sem.run_ite,hnew]
  cases base with
  |none=>rw[hno rfl];simp
  |some b=>simp[hst b rfl]
theorem QB{need old:Nat}{e:TypeId}(tp:Nat):need<=(Question.appendCap need old e).cut tp:=by simp[Question.cut]
set_option maxHeartbeats 1000000 in
theorem oQ{e size n sLen sCap:Nat}{ty:TypeId}{ts:Array TypeId}{base:Option Addr}{x' v:Value}{new' old':List Value}{inf:TypeInfo}(ht:ts[0]? = some t)(hu:P.underlying t=some (.slice e))(hs:fT P e=some size)(hi:P.info? e=some inf)(hz:inf.zero=some v)(hb:inf.bytes<=10000)(hc:Comes P ts e size n new' w x')(hlt:sCap<sLen+n)(sy:sLen+n<=1000000000)(hold:∀w1:World,w1.heap=w.heap->(Builtin.firstCells size sLen (.slice base sLen sCap)).run P w1=.ok old'.toArray w1):∃dI rest,sLen+n<=dI/\rest.length=(dI-(sLen+n))*v.cells.size/\(Builtin.append_ ts ty #[.slice base sLen sCap,x']).run P w =
   .ok (.slice (some ⟨w.heap.size,0,none⟩) (sLen+n) dI) (w.drew.alloc (.cells (old'++new'++rest).toArray e (0,0))):=by
 have hold:=hold w.drew rfl
 let dI:=(Question.appendCap (sLen+n) sCap e).cut (w.tape w.drawn (.appendCap (sLen+n) sCap e))
 refine⟨dI,(Builtin.zeroCells v.cells (dI-(sLen+n))).toList,QB _,by simp[size_zeroCells],?_⟩;have ye:¬(sLen+n<=sCap):=by omega
 have hn0:¬(((sLen+n:Nat):Int) > IntKind.i64.max):=by rw[IntKind.max_i64];omega
 have hn3:¬(Builtin.nextslicecap (sLen+n) sCap*inf.bytes > 2 ^ 48):=by
  have h5:=nextslicecap_le hlt;have:Builtin.nextslicecap (sLen+n) sCap*inf.bytes<=(2*1000000000)*10000:=Nat.mul_le_mul YYZ hb;omega
 have sg:∀Z:Array Value,old'.toArray++new'.toArray++Z=(old'++new'++Z.toList).toArray:=λZ=>Array.ext' (by simp);have hz1:∀w1:World,(zeroValue e).run P w1=.ok v w1:=λw1=>iI hi hz;have hi1:∀w1:World,(typeInfo e).run P w1=.ok inf w1:=λw1=>qI hi;cases hc with
 |@sl xt xd a c h1 h2 h3 h4=>
  have h4:=h4 w.drew rfl;have hxf:sU xd=false:=h3
  have key:∀d,P.underlying xt=some d->sU d=false->(Builtin.append_ ts ty #[.slice base sLen sCap,.slice a n c]).run P w =
    .ok (.slice (some ⟨w.heap.size,0,none⟩) (sLen+n) dI) (w.drew.alloc (.cells (old'++new'++(Builtin.zeroCells v.cells (dI-(sLen+n))).toList).toArray e (0,0))):=by
   intro d hd hdf;unfold Builtin.append_;cases d<;>first
    |(cases hdf;done)
    | (simp only[ht,h1,List.getElem?_toArray,List.getElem?_cons_zero,List.getElem?_cons_succ,Sem.run_bind,a_ hu,a_ hd,Result.andThen_ok,cM hs,Sem.run_pure,Bool.false_eq_true,if_false,
      Builtin.lenOf,ye,hi1,hn0,false_and,hn3,run_choose,Question.forced,World.drew_eq,run_askRoom,hold,Bool.not_false,if_true,h4,hz1,newRow,run_newObj]
       rw[sg];rfl)
  exact key xd h2 hxf
 |@mk xt k k' aac v' h1 h2 h3 h4 h5 h6 h7 h8=>
  rw[hi]at h4;cases h4;rw[hz]at h5;cases h5;have w1:IntKind.i64.wrap (n:Int)=n:=IntWalk.i64_in _ ⟨YYZ,YYZ⟩;have c1:¬((n:Int)<0):=by omega
  have c2:¬((n:Int)*(inf.bytes:Int) > 2 ^ 48):=by
   have:n*inf.bytes<=1000000*10000:=Nat.mul_le_mul h3 h6;have h2:(n:Int)*(inf.bytes:Int)=((n*inf.bytes:Nat):Int):=by simp
   rw[h2];omega
  have hA:(asInt (.int k (n:Int))).run P w=.ok (n:Int) w:=by simp[asInt,asIntOf]
  have hnew:(if n*size=0 then pure #[]else do pure (Builtin.zeroCells (<-zeroValue e).cells n):Sem (Array Value)).run P w.drew=.ok new'.toArray w.drew:=by
   by_cases h0:n*size=0
   .simp only[h0,if_true,h8 h0];rfl
   .simp[h0,hz1,h7]
  simp only[Sem.run_ite,Sem.run_bind,Sem.run_pure]at hnew;simp only[hz1,Result.andThen_ok]at hnew;unfold Builtin.append_;simp only[ht,h1,List.getElem?_toArray,List.getElem?_cons_zero,List.getElem?_cons_succ,Sem.run_bind,a_ hu,a_ h2,Result.andThen_ok,cM hs,Sem.run_pure,if_true,hA,w1,c1,if_false,
   hi1,c2,Int.toNat_natCast,ye,hn0,false_and,hn3,run_choose,Question.forced,World.drew_eq,run_askRoom,hold,Bool.not_true,Bool.false_eq_true,Sem.run_ite,hnew,hz1,newRow,run_newObj]
  rw[sg];rfl
theorem Vv(w:World){old old' new new' rest:List Value}{e size dI sLen n:Nat}(hs:fT P e=some size)(hz:0<size)(h1:F2 (VR φ) old old')(h2:F2 (VR φ) new new')(l1:old.length=sLen*size)(l2:new.length=n*size)(hle:sLen+n<=dI)(hr:rest.length=(dI-(sLen+n))*size)(hlen:(old++new).length<=1000000000000):OR P φ (.cells (old++new).length (lay (old++new) .nil 0) e true) ⟨w.heap.size,dI*size,size⟩ (some (.cells (old'++new'++rest).toArray e (0,0))):=by
 refine zl (h1.append h2) hlen e _ rest true λ_=>⟨?_,hs,hz⟩
 simp only[List.length_append,hr,<-h1.length,<-h2.length,l1,l2];rw[<-Nat.add_mul,<-Nat.add_mul]
 congr 1
 omega
theorem jN(hfl:¬good fl){b o n m c nn e size:Nat}{cc:T Value}{op:Bool}{V:List Value->β}(hb:h.bl.get b=some (.cells nn cc e op))(hg:good (eN fl h size n (.slice (some ⟨b,o,none⟩) m c) V)):∃l,good (V l)/\l.length=n*size/\(l≠[]->o+l.length<=nn)/\∀j v,l[j]? = some v->cc.get (o+j)=some v:=by
 unfold eN at hg;split at hg
 .rename_i h0;have h0:n*size=0:=h0;exact⟨[],hg,h0.symm,λhh=>absurd rfl hh,λj v e=>by simp at e⟩
 .rename_i k hk;have hk:n*size=k+1:=hk;simp only[hb]at hg;split at hg<;>try cases hfl hg
  rename_i hle;have hle:=cU hle;obtain⟨l,h1,h2,h3⟩:=mC hfl _ _ _ _ _ hg;simp only[List.append_nil]at h1;exact⟨l,h1,by rw[h2,hk],λ_=>by rw[h2];exact hle,h3⟩
theorem HR.QC(hr:HR P φ h w){b nn e:Nat}(hlo:h.lo<=b){c:T Value}{op:Bool}{pl:Pl}{ob:bO}{w':World}(hb:h.bl.get b=some (.cells nn c e op))(hp:φ b=some pl)(hn:h.nx<=h.nx)(hsz:w'.heap.size=w.heap.size)(Fj:∀k,k≠pl.B->w'.heap[k]? = w.heap[k]?)(ho:OR P φ ob pl w'.heap[pl.B]?)(hd:OR P φ (.dead nn e) pl w'.heap[pl.B]?)(ht:w'.tape=w.tape)(hos:w'.os=w.os)(hout:w'.output=w.output)(hlv:ob.live)(LU:w.drawn<=w'.drawn:=by exact Nat.le_refl _):HR P (iU φ h.nx pl) ⟨h.nx+1,(h.bl.bt b (.dead nn e)).bt h.nx ob,h.lo⟩ w'/\Ext φ (iU φ h.nx pl) h ⟨h.nx+1,(h.bl.bt b (.dead nn e)).bt h.nx ob,h.lo⟩ w w':=by
 obtain⟨Dv,hx1⟩:=hr.turn hlo (o:=.dead nn e) hp ⟨_,hb,trivial⟩ hsz Fj hd ht hos hout (.inr λ_=>ud ho hlv) LU;have hnone:φ h.nx=none:=by
  cases hq:φ h.nx with
  |none=>rfl
  |some pl=>have:=(hr.dom _ _ hq).1;omega
 have hs:Small h.nx:=by unfold Small;omega
 have EV:=(hr.dom b pl hp).1;have iY:∀x,x<h.nx->((h.bl.bt b (.dead nn e)).bt h.nx ob).get x=(h.bl.bt b (.dead nn e)).get x:=λx hx=>T.iH _ _ hs (by unfold Small;omega) YYZ;have hsub:=rI (pl:=pl) hnone;have alone:∀x o px,(h.bl.bt b (.dead nn e)).get x=some o->o.live->φ x=some px->px.B≠pl.B:=by
  intro x o px hx hl hpx hB;have YD:=(hr.dom x px hpx).1;rw[T.nH _ _ (by unfold Small;omega) (by unfold Small;omega)]at hx;split at hx
  .cases hx;exact hl
  .rename_i hne;exact hne (hr.inj x b o _ px pl hx hb hl trivial hpx hp hB).symm
 constructor
 .refine⟨?_,?_,?_,?_,?_,Nat.le_succ_of_le hr.lo⟩
  .intro x o px hx hpx;unfold iU at hpx;split at hpx
   .rename_i he;subst he;cases hpx;rw[T.az]at hx;cases hx;exact ho.mono hsub
   .have YD:=(hr.dom x px hpx).1;exact(Dv.obj x o px ((iY x YD)▸hx) hpx).mono hsub
  .intro x px hpx;unfold iU at hpx;split at hpx
   .rename_i he;subst he;cases hpx;exact⟨Nat.lt_succ_self _,by rw[hsz];exact(hr.dom b pl hp).2⟩
   .have:=Dv.dom x px hpx;exact⟨Nat.lt_succ_of_lt this.1,this.2⟩
  .intro x o Vr hx
   show x<h.nx+1
   rw[T.nH _ _ hs Vr]at hx;split at hx
   .omega
   .have:=Dv.keys x o Vr hx;exact Nat.lt_succ_of_lt this
  .show h.nx+1<h.nx+1+1;omega
  .intro x x' o1 o2 p1 p2 g1 g2 l1 l2 e1 e2 eB;unfold iU at e1 e2;split at e1<;>split at e2
   .omega
   .rename_i q1 q2;cases e1;have YD:=(hr.dom x' p2 e2).1;exact absurd eB.symm (alone x' o2 p2 ((iY x' YD)▸g2) l2 e2)
   .rename_i q1 q2;cases e2;have YD:=(hr.dom x p1 e1).1;exact absurd eB (alone x o1 p1 ((iY x YD)▸g1) l1 e1)
   .have n1:=(hr.dom x p1 e1).1;have n2:=(hr.dom x' p2 e2).1;exact Dv.inj x x' o1 o2 p1 p2 ((iY x n1)▸g1) ((iY x' n2)▸g2) l1 l2 e1 e2 eB
 .refine⟨hsub,?_,Nat.le_succ _,hx1.size,hx1.BC,?_,ht,hos,hout,hx1.fz,rfl,λx hx=>(iY x (Nat.lt_of_lt_of_le hx hr.lo)).trans (hx1.JL x hx),hx1.JM,LU⟩
  .intro x px e0 e1;unfold iU at e1;split at e1
   .rename_i he;subst he;cases e1;exact⟨Nat.le_refl _,.inr ⟨b,pl,hp,rfl⟩⟩
   .rw[e0]at e1;cases e1
  .intro x hx hpx
   show((h.bl.bt b (.dead nn e)).bt h.nx ob).get x=_
   rw[iY x hx];exact hx1.ET x hx hpx
theorem uj{l l':List Value}(g:F2 (VR φ) l l')(h:l.all dK=true):∀v'∈l',v'.oneCell'=true:=by
 induction g with
 |nil=>intro v' xE;cases xE
 |cons hv _ ih=>
  simp only[List.all_cons,Bool.and_eq_true]at h;intro v' xE;simp only[List.mem_cons]at xE;rcases xE with rfl|xE
  .exact LS h.1 hv
  .exact ih h.2 v' xE
set_option maxHeartbeats 2000000 in
theorem sF(hfl:¬good fl){e size:Nat}{ty xt:TypeId}{xd:TypeDesc}{inf:TypeInfo}{ts:Array TypeId}{z:List Value}(ht:ts[0]? = some t)(hu:P.underlying t=some (.slice e))(hz:Qg P e=some (z,size))(hi:P.info? e=some inf)(hby:inf.bytes<=10000)(hxt:ts[1]? = some xt)(hxd:P.underlying xt=some xd)(hr:HR P φ h w){s s' x x':Value}{V:YYY β}(hg:good (bD fl e size z (sU xd) s x h V))(YJ:VR φ s s')(hx:VR φ x x'):∃φ' v v' h' w',good (V v h')/\VR φ' v v'/\HR P φ' h' w'/\Ext φ φ' h h' w w'/\(Builtin.append_ ts ty #[s',x']).run P w=.ok v' w':=by
 obtain⟨hz1,zn,Qw,NV⟩:=lY hz;obtain⟨v,aac,hi',Qv,hzl,Z_⟩:=iP hz1;rw[hi]at hi';cases hi';have hvs:v.cells.size=size:=by rw[<-Qw,hzl];simp
 unfold bD at hg;split at hg<;>try cases hfl hg
 rename_i base sLen sCap;obtain⟨n,new,new',g1,g2,g3,g4⟩:=Fo hfl hz hi hby hxt hxd hr hg hx;have QD:=g2.length;obtain⟨base',nK,hs'⟩:∃base' nK,s'=.slice base' sLen nK:=by cases YJ<;>exact⟨_,_,rfl⟩
 have hle':sLen<=nK:=by subst hs';cases YJ<;>first|assumption|omega
 have fresh:∀{h1:af}{w1:World}{old old':List Value}{κ1:YYY β},HR P φ h1 w.drew->Ext φ φ h h1 w w.drew->sLen+n<=1000000000->nK<sLen+n->
   F2 (VR φ) old old'->old.length=sLen*size->(∀w1:World,w1.heap=w.heap->(Builtin.firstCells size sLen s').run P w1=.ok old'.toArray w1)->
   good (dh fl (old++new) e true h1 λb h=>V (.slice (some ⟨b,0,none⟩) (sLen+n) aX) h)->
   ∃φ' v v' h' w',good (V v h')/\VR φ' v v'/\HR P φ' h' w'/\Ext φ φ' h h' w w'/\(Builtin.append_ ts ty #[s',x']).run P w=.ok v' w':=by
  intro h1 w1 old old' κ1 Dv hx1 sy hlt P6 mE ta hgood;unfold dh at hgood;obtain⟨k1,k2⟩:=kV hfl hgood;obtain⟨k3,k4⟩:=dL hfl k2;rw[hs']at ta;obtain⟨dI,rest,j1,j2,j3⟩:=oQ (ty:=ty) ht hu zn hi Qv hby g4 hlt sy ta;rw[hvs]at j2;have NW:=Vv (P:=P) (φ:=φ) w.drew (dI:=dI) zn NV P6 g2 mE g3 j1 j2 k1;obtain⟨m1,m2⟩:=Dv.fresh k3 (dI*size) size NW trivial;refine⟨_,_,_,_,_,k4,.bW (fo _ _ _) j1 (by simp),m1,hx1.trans m2,by rw[hs'];exact j3⟩
 split at g1
 .
  refine⟨φ,_,s',h,w,g1,YJ,hr,Ext.refl _ _ _,?_⟩;have hn0:new=[]:=List.eq_nil_of_length_eq_zero (by rw[g3];omega);subst hn0;cases g2;rw[hs'];exact kF ht hu zn g4 YYZ (w':=w) (λa _=>by simp[storeCells]) (λ_=>rfl)
 .rename_i n;rw[bY]at g1;split at g1<;>try exact absurd g1 hfl
  rename_i sy;have sy:=cU sy;have sy:sLen+(n+1)<=1000000000:=sy;split at g1
  .
   split at g1<;>try exact absurd g1 hfl
   rename_i hc0 hl0;have hc0:=cD hc0;have hl0:=cD hl0;subst hc0;subst hl0;cases YJ with
   |gj _=>
    cases hs';refine fresh (w1:=w) (κ1:=V) (old:=[]) (old':=[]) hr.drew (Ext.refl _ _ _).drew sy YYZ .nil (by simp) (λw1 _=>by simp[Builtin.firstCells]) (by simpa using g1)
  .rename_i b o;split at g1<;>try exact absurd g1 hfl
   rename_i Fp;have Fp:=oJ Fp;split at g1
   .
    rename_i hop;have hop:=cD hop;subst hop;obtain⟨pl,hp,hcap,rfl⟩:∃pl,φ b=some pl/\nK*pl.e+o=pl.sz/\base'=some ⟨pl.B,o,none⟩:=by
     subst hs';cases YJ with
     |slice hp hn hc=>exact absurd hc (Nat.lt_irrefl _)
     |bW hp hn hc=>exact⟨_,hp,hc,rfl⟩
    split at g1<;>try exact absurd g1 hfl
    rename_i nn cc e' hb;obtain⟨C,hC,ye,hn2,Vw,hcell⟩:=hr.rowAt hb hp;obtain⟨o1,o2,o3⟩:=Vw rfl;split at g1<;>try exact absurd g1 hfl
    .
     rename_i hee hfit;have hee:=cD hee;subst hee;have hfit:o+(sLen+(n+1))*size<=nn:=cU hfit;have hpe:pl.e=size:=by rw[zn]at o2;exact(Option.some.inj o2).symm
     have hroom:sLen+(n+1)<=nK:=by
      rw[hpe]at hcap;have h1:(sLen+(n+1))*size<=nK*size:=by omega
      exact Nat.le_of_mul_le_mul_right h1 NV
     obtain⟨k1,k2,k3⟩:=kW hfl _ _ _ _ _ g1;obtain⟨hlo,k3⟩:=bH hfl k3;obtain⟨w',j1,j2,j3⟩:=hr.storeAt hlo hb hp g2 k1 k2;refine⟨φ,_,.slice (some ⟨pl.B,o,none⟩) (sLen+(n+1)) nK,_,w',k3,.bW hp hroom hcap,j2,j3,?_⟩;rw[hs'];exact kF ht hu zn g4 hroom (λa ha=>by cases ha;rw[jL];exact j1) (λhh=>by cases hh)
    .
     rename_i hee hfit;have hee:=cD hee;subst hee;have hfit:=YB hfit;split at g1<;>try exact absurd g1 hfl
     rename_i ho0;simp only[Bool.and_eq_true]at ho0;obtain⟨ho0,uk⟩:=ho0;have ho0:=cD ho0;subst ho0;have hpe:pl.e=size:=by rw[zn]at o2;exact(Option.some.inj o2).symm
     have Fq:=λhlo:h.lo<=b=>hr.turn hlo (w':=w) (o:=.dead nn e) hp ⟨_,hb,trivial⟩ rfl (λ_ _=>rfl) (by rw[hC];exact⟨YYZ,hn2,o2,o3⟩) rfl rfl rfl (.inr id);by_cases hroom:sLen+(n+1)<=nK
     ·obtain⟨old,k1,k3,k5,k6⟩:=jN hfl hb g1;obtain⟨hlo,k1⟩:=bH hfl k1;unfold dh at k1;obtain⟨m1,m2⟩:=kV hfl k1;obtain⟨m3,m4⟩:=dL hfl m2;have hone:∀v'∈new',v'.oneCell'=true:=uj g2 uk;have af8:sLen*size+new'.length<=C.size:=by
       rw[o1,<-hcap,hpe,<-QD,g3,<-Nat.add_mul];exact Nat.le_trans (Nat.mul_le_mul_right _ hroom) (Nat.le_add_right _ _)
      have hrun:=run_storeCells_at P pl.B (sLen*size) e new' 0 C w hC (by simpa using af8) hone;simp only[Nat.add_zero]at hrun;have hrow:=setRow_heap w pl.B C (C.toList.take (sLen*size)++new'++C.toList.drop (sLen*size+new'.length)).toArray e _ hC;have NW:OR P φ (.cells (old++new).length (lay (old++new) .nil 0) e true) pl (some (.cells (C.toList.take (sLen*size)++new'++C.toList.drop (sLen*size+new'.length)).toArray e (0,0))):=by
       refine⟨rfl,rfl,?_,YYZ,λ_=>⟨?_,o2,o3⟩,?_⟩
       .simp only[List.length_append,k3,List.size_toArray,List.length_take,List.length_drop,Array.length_toList,<-QD];omega
       .simp only[List.length_append,List.size_toArray,List.length_take,List.length_drop,Array.length_toList];omega
       .intro i v gq hi;have hi2:i<sLen*size+new.length:=by simpa[List.length_append,k3]using hi
        rw[uf _ .nil 0 YYZ i (by unfold Small;omega),if_pos YYZ]at gq;simp only[Nat.sub_zero]at gq;simp only[List.getElem?_toArray,List.append_assoc];rcases Nat.lt_or_ge i (sLen*size)with hlt|hge
        .rw[List.getElem?_append_left YYZ]at gq;have hgc:=k6 i v gq;rw[Nat.zero_add]at hgc;obtain⟨v',e1,e2⟩:=hcell i v hgc (by have:=k5 (by intro hnil;rw[hnil]at k3;simp at k3;omega);omega);refine⟨v',?_,e2⟩;rw[List.getElem?_append_left (by simp;omega),List.getElem?_take_of_lt hlt];simpa using e1
        ·rw[List.getElem?_append_right YYZ,k3]at gq;obtain⟨v',e1,e2⟩:=g2.get _ v gq;refine⟨v',?_,e2⟩;have htl:(C.toList.take (sLen*size)).length=sLen*size:=by
          rw[List.length_take,Array.length_toList];exact Nat.min_eq_left YYZ
         have hin:i-sLen*size<new'.length:=by rw[<-QD];omega
         rw[List.getElem?_append_right (by rw[htl];exact hge),htl,List.getElem?_append_left hin];exact e1
      obtain⟨q1,q2⟩:=hr.QC hlo (ob:=.cells (old++new).length (lay (old++new) .nil 0) e true) (w':=w.setRow pl.B (C.toList.take (sLen*size)++new'++C.toList.drop (sLen*size+new'.length)).toArray) hb hp m3
       (setRow_size _ _ _) (λk hk=>setRow_other _ _ _ _ hk) (by rw[hrow];exact NW) (by rw[hrow];exact⟨YYZ,hn2,o2,o3⟩) rfl rfl rfl (by trivial)
      refine⟨_,_,.slice (some ⟨pl.B,0,none⟩) (sLen+(n+1)) nK,_,_,m4,.bW (fo _ _ _) hroom hcap,q1,q2,?_⟩;rw[hs'];exact kF ht hu zn g4 hroom (λa ha=>by cases ha;rw[jL,Nat.zero_add];exact hrun) (λhh=>by cases hh)
     .obtain⟨old,old',k1,k2,k3,k4⟩:=gL hfl hr g1 YJ ⟨_,_,_,rfl,Nat.le_refl _⟩;obtain⟨hlo,k1⟩:=bH hfl k1;exact fresh (w1:=w) (κ1:=V) (Fq hlo).1.drew (Fq hlo).2.drew sy YYZ k2 k3 k4 k1
   .
    rename_i hop;have hop:=oJ hop;obtain⟨pl,hp,rfl,rfl,alv⟩:∃pl,φ b=some pl/\nK=sCap/\base'=some ⟨pl.B,o,none⟩/\sCap<aX:=by
     subst hs';cases YJ with
     |slice hp hn hc=>exact⟨_,hp,rfl,rfl,hc⟩
     |bW hp hn hc=>exact absurd rfl hop
     |di a a' c=>exact absurd rfl Fp
    split at g1<;>try exact absurd g1 hfl
    .rename_i nn cc e' op hle hb;have hroom:sLen+(n+1)<=nK:=cU hle;obtain⟨k1,k2,k3⟩:=kW hfl _ _ _ _ _ g1;obtain⟨hlo,k3⟩:=bH hfl k3;obtain⟨w',j1,j2,j3⟩:=hr.storeAt hlo hb hp g2 k1 k2;have hcl:nK<aX:=alv;refine⟨φ,_,.slice (some ⟨pl.B,o,none⟩) (sLen+(n+1)) nK,_,w',k3,.slice hp hroom hcl,j2,j3,?_⟩;rw[hs'];exact kF ht hu zn g4 hroom (λa ha=>by cases ha;rw[jL];exact j1) (λhh=>by cases hh)
    .rename_i hle;have hlt:=YB hle;split at g1<;>try exact absurd g1 hfl
     obtain⟨old,old',k1,k2,k3,k4⟩:=gL hfl hr g1 YJ ⟨_,_,_,rfl,Nat.le_refl _⟩;exact fresh (w1:=w) (κ1:=V) hr.drew (Ext.refl _ _ _).drew sy hlt k2 k3 k4 k1
  .exact absurd g1 hfl
end Go.Vai

namespace Go.Vai
open Go
variable {β:Type}{fl:β}{good:β->Prop}{P:Program}{φ:eW}{h:af}{w:World}{t:TypeId}
theorem Fs{s:Sem Unit}{w':World}(hs:s.run P w=.ok () w'):((do s;pure Next.skip:Sem Next)).run P w=.ok .skip w':=by simp[hs]
theorem wC(hfl:¬good fl){kt et:TypeId}{ty:TypeId}{ts:Array TypeId}(ht:ts[0]? = some t)(hu:P.underlying t=some (.map kt et))(hr:HR P φ h w){m:Option Nat}{x':Value}{V:YYY β}(hg:good (lq fl [] (.map m) h V))(hx:VR φ (.map m) x'):∃h' w',good (V (.tuple #[]) h')/\HR P φ h' w'/\Ext φ φ h h' w w'/\(Builtin.clear_ ts ty #[x']).run P w=.ok (.tuple #[]) w':=by
 cases m with
 |none=>
  cases hx;exact⟨h,w,by simpa[lq]using hg,hr,Ext.refl _ _ _,by simp[Builtin.clear_,ht,a_ hu]⟩
 |some r=>
  simp only[lq]at hg;split at hg<;>try cases hfl hg
  rename_i es clock hb;obtain⟨hlo,hg⟩:=bH hfl hg;cases hx with
  |map hp=>
   rename_i pl;obtain⟨es',hO,h2⟩:=hr.qj hb hp;obtain⟨w',j1,j2,j3⟩:=hr.qK hlo (es1:=[]) (J5:=#[]) (clock':=clock) hb hp .nil;exact⟨_,w',hg,j2,j3,by simp[Builtin.clear_,ht,a_ hu,dg hO,j1]⟩
theorem Ck(bs:List UInt8)(V:List Value->β):Da bs V=V (bs.map λb=>.int .u8 (.ofNat b.toNat)):=by
 induction bs generalizing V with
 |nil=>rfl
 |cons b bs ih=>simp only[Da,bY,ih,List.map_cons]
theorem QE(hfl:¬good fl):∀(l:List Value)(V:List UInt8->β),good (u8K fl l V)->∃ns:List Int,l=ns.map (Value.int .u8)/\good (V (ns.map λn=>UInt8.ofNat n.toNat)):=by
 intro l
 induction l with
 |nil=>intro V hg;exact⟨[],rfl,hg⟩
 |cons v l ih=>
  intro V hg;unfold u8K at hg;split at hg
  .rename_i e;cases e
  .rename_i n l2 e;cases e;obtain⟨ns,rfl,g⟩:=ih _ hg;exact⟨(n:Int)::ns,rfl,g⟩
  .exact absurd hg hfl
theorem F2.u8:∀{ns:List Int}{l':List Value},F2 (VR φ) (ns.map (Value.int .u8)) l'->l'=ns.map (Value.int .u8):=by
 intro ns
 induction ns with
 |nil=>intro l' h;cases h;rfl
 |cons n ns ih=>
  intro l' h;cases h with
  |cons h t=>cases h;rw[ih t];rfl
set_option maxHeartbeats 2000000 in
theorem Ft(hfl:¬good fl){op:Op}{i:XI β}(hc:Cc fl P op=some i){tm:T Value}{ρ:Operand->Value}(hρ:∀y∈op.operands.toList,VR φ (fZ tm y) (ρ y))(hr:HR P φ h w){V:YYY β}(hg:good (i.run tm h V)){o:Oper}(ho:o.op=op):Vs good P φ h w V ((execOp ρ o).run P w):=by
 have unit:∀{s:Sem Unit},(∃h' w',good (V undef h')/\HR P φ h' w'/\Ext φ φ h h' w w'/\s.run P w=.ok () w')->execOp ρ o=(do s;pure Next.skip)->
   Vs good P φ h w V ((execOp ρ o).run P w):=by
  intro s ⟨h',w',g1,g2,g3,g4⟩ e;exact⟨φ,undef,undef,h',w',.skip,g1,VR.undef,g2,g3,by rw[e];exact Fs g4,.inr ⟨rfl,rfl⟩⟩
 have val:∀{s:Sem Value},(∃φ' v v' h' w',good (V v h')/\VR φ' v v'/\HR P φ' h' w'/\Ext φ φ' h h' w w'/\s.run P w=.ok v' w')->execOp ρ o=(do pure (Next.value (<-s)))->
   Vs good P φ h w V ((execOp ρ o).run P w):=by
  intro s ⟨φ',v,v',h',w',g1,g2,g3,g4,g5⟩ e;exact⟨φ',v,v',h',w',.value v',g1,g2,g3,g4,by rw[e];exact kg g5,.inl rfl⟩
 cases op<;>simp only[Cc]at hc<;>try (cases hc;done)
 case store t a x=>
  split at hc<;>try (cases hc;done)
  rename_i s hs;cases hc;rw[XI.dM]at hg;exact unit (Dq hfl hs hr hg (hρ a (by simp[Op.operands])) (hρ x (by simp[Op.operands]))) (by simp only[execOp,ho])
 case mapUpdate t m k x=>
  split at hc<;>try (cases hc;done)
  rename_i kt et hu;cases hc;rw[XI.qH]at hg;exact unit (oN hfl hu hr hg (hρ m (by simp[Op.operands])) (hρ k (by simp[Op.operands])) (hρ x (by simp[Op.operands]))) (by simp only[execOp,ho])
 case insert t m k x=>
  split at hc<;>try (cases hc;done)
  rename_i kt et hu;cases hc;rw[XI.qH]at hg;exact unit (oN hfl hu hr hg (hρ m (by simp[Op.operands])) (hρ k (by simp[Op.operands])) (hρ x (by simp[Op.operands]))) (by simp only[execOp,ho])
 case mapEntry t m k=>
  split at hc<;>try (cases hc;done)
  rename_i kt et hu;split at hc<;>try (cases hc;done)
  rename_i z hz;split at hc<;>try (cases hc;done)
  rename_i hzs;cases hc;rw[XI.dM]at hg;cases hi:P.info? et with
  |none=>rw[hi]at hz;simp at hz
  |some inf=>
   rw[hi]at hz;simp at hz;obtain⟨v,v',h',w',g1,g2,g3,g4,g5⟩:=yf (t:=t) hfl hu hi hz hzs hr hg (hρ m (by simp[Op.operands])) (hρ k (by simp[Op.operands]));exact val ⟨φ,v,v',h',w',g1,g2,g3,g4,g5⟩ (by simp only[execOp,ho])
 case entryStore t m s x=>
  cases hc;rw[XI.qH]at hg;exact unit (uh (t:=t) hfl hr hg (hρ m (by simp[Op.operands])) (hρ s (by simp[Op.operands])) (hρ x (by simp[Op.operands]))) (by simp only[execOp,ho])
 case range t x=>
  split at hc<;>try (cases hc;done)
  rename_i kt et hu;cases hc;rw[XI.cF]at hg;exact val (Dt hfl hu hr hg (hρ x (by simp[Op.operands]))) (by simp only[execOp,ho])
 case entry it=>
  cases hc;rw[XI.cF]at hg;obtain⟨v,v',g1,g2,g3⟩:=Dw hfl hr hg (hρ it (by simp[Op.operands]));exact val ⟨φ,v,v',h,w,g1,g2,hr,Ext.refl _ _ _,g3⟩ (by simp only[execOp,ho])
 case convert src dst x=>
  split at hc<;>try (cases hc;done)
  .rename_i e hus hud;split at hc<;>try (cases hc;done)
   rename_i hue hsz;cases hc;rw[XI.cF]at hg;have wB:=hρ x (by simp[Op.operands]);unfold qC at hg;split at hg<;>try cases hfl hg
   rename_i s hx;rw[hx]at wB;generalize hy:ρ x=y at wB;cases wB;rw[Ck,yD,Nat.zero_add]at hg;split at hg<;>try cases hfl hg
   rename_i hle;have hle:=cU hle;obtain⟨hn,hg⟩:=dL hfl hg;have hlen:(s.data.toList.map λb=>Value.int .u8 (.ofNat b.toNat)).length=s.size:=by rw[List.length_map,Array.length_toList];rfl
   rw[hlen]at hg hle;have hcap:s.size<=grownCap w s.size 0 e:=QB _;have hrow:(bytesRow s (grownCap w s.size 0 e)).size=grownCap w s.size 0 e:=by
    simp only[bytesRow,Array.size_append,Array.size_map,Array.size_replicate]
    show s.size+_=_
    omega
   have NW:OR P φ (.ro s.size (lay (s.data.toList.map λb=>Value.int .u8 (.ofNat b.toNat)) .nil 0) e) ⟨w.drew.heap.size,grownCap w s.size 0 e,1⟩
     (some (.cells (bytesRow s (grownCap w s.size 0 e)) e ((bytesRow s (grownCap w s.size 0 e)).size,(bytesRow s (grownCap w s.size 0 e)).size+1))):=by
    refine⟨rfl,by rw[hrow];exact hcap,λi v gq hi=>?_⟩;rw[uf _ .nil 0 (by rw[hlen];omega) i (by unfold Small;omega),if_pos (by rw[hlen];omega)]at gq;simp only[Nat.sub_zero,List.getElem?_map]at gq;have hi2:i<s.data.size:=hi;refine⟨v,?_,?_⟩
    .simp only[bytesRow];rw[Array.getElem?_append_left (by simpa using hi2),Array.getElem?_map,<-Array.getElem?_toList];exact gq
    .cases hq:s.data.toList[i]? with
     |none=>rw[hq]at gq;cases gq
     |some b=>rw[hq]at gq;cases gq;exact .int _ _
   obtain⟨m1,m2⟩:=hr.drew.fresh hn (grownCap w s.size 0 e) 1 NW trivial;refine val (s:=convert src dst (ρ x)) ⟨_,_,_,_,_,hg,.bW (fo _ _ _) hcap (by simp),m1,m2.aah,?_⟩ (by simp only[execOp,ho]);rw[hy];exact run_bytes_of_string w src dst e s hus hud hue
  .rename_i e hus hud;split at hc<;>try (cases hc;done)
   rename_i hue;cases hc;rw[XI.cF]at hg;have wB:=hρ x (by simp[Op.operands]);unfold E9 at hg;split at hg<;>try cases hfl hg
   rename_i a n c hx;rw[hx]at wB;obtain⟨l,l',g1,g2,g3,g4⟩:=gL hfl hr hg wB ⟨_,_,_,rfl,Nat.le_refl _⟩;obtain⟨ns,rfl,g5⟩:=QE hfl _ _ g1;have hl':=F2.u8 g2;subst hl';have g4:=g4 w rfl;refine val (s:=convert src dst (ρ x)) ⟨φ,_,_,h,w,g5,.string _,hr,Ext.refl _ _ _,?_⟩ (by simp only[execOp,ho]);generalize hy:ρ x=y at wB g4;have fin:∀(a:Addr)(c:Nat),(loadCells a n).run P w=.ok (ns.map (Value.int .u8)).toArray w->(convert src dst (.slice (some a) n c)).run P w=.ok (.string ⟨⟨ns.map λn=>UInt8.ofNat n.toNat⟩⟩) w:=by
    intro a c hl;rw[run_convert_bytes_string w src dst e _ n c hus hue hud,run_bytesToString w a n c ns hl,foldl_push_bytes];simp[ByteArray.empty,ByteArray.emptyWithCapacity];rfl
   cases wB with
   |gj hle=>
    have hn:ns=[]:=by
     have:=g4;simp[Builtin.firstCells]at this;simpa using this
    subst hn;exact run_convert_bytes_nil w src e hus hue n c dst hud
   |slice hp hn hc=>exact fin _ _ (by simpa[Builtin.firstCells]using g4)
   |bW hp hn hc=>exact fin _ _ (by simpa[Builtin.firstCells]using g4)
   |di _ a' c=>exact fin _ _ (by simpa[Builtin.firstCells]using g4)
 case call c=>
  obtain⟨callee,args,ts⟩:=c;cases callee<;>(try simp only at hc)<;>try (cases hc;done)
  rename_i b;cases b<;>(try simp only at hc)<;>try (cases hc;done)
  case append=>
   split at hc<;>try contradiction
   rename_i s x _ hx;have hargs:args=#[s,x]:=Array.ext' (by simpa using hx);split at hc<;>try contradiction
   rename_i st xt ht hxt;split at hc<;>try contradiction
   rename_i e hu;split at hc<;>try contradiction
   rename_i inf xd hi hxd;split at hc<;>try contradiction
   rename_i z size hz hby;cases hc;rw[XI.dM]at hg;exact val (sF (ty:=o.type) hfl ht hu hz hi (cU hby) hxt hxd hr hg (hρ s (by simp[Op.operands,Call.operands,hargs])) (hρ x (by simp[Op.operands,Call.operands,hargs])))
    (by simp[execOp,ho,resolve,invoke,builtin,hargs])
  case copy=>
   split at hc<;>try contradiction
   rename_i d x _ hx;have hargs:args=#[d,x]:=Array.ext' (by simpa using hx);split at hc<;>try contradiction
   rename_i t ht;split at hc<;>try contradiction
   rename_i e hu;split at hc<;>try contradiction
   rename_i s hs;cases hc;rw[XI.dM]at hg;obtain⟨v,h',w',g⟩:=Fm (ty:=o.type) hfl ht hu hs hr hg (hρ d (by simp[Op.operands,Call.operands,hargs])) (hρ x (by simp[Op.operands,Call.operands,hargs]));exact val ⟨φ,v,v,h',w',g⟩ (by simp[execOp,ho,resolve,invoke,builtin,hargs])
  case clear=>
   split at hc<;>try contradiction
   rename_i x _ hx;have hargs:args=#[x]:=Array.ext' (by simpa using hx);have wB:VR φ (fZ tm x) (ρ x):=hρ x (by simp[Op.operands,Call.operands,hargs]);split at hc<;>try contradiction
   rename_i t ht;split at hc<;>try contradiction
   .rename_i e hu;split at hc<;>try contradiction
    rename_i z hz;cases hc;rw[XI.cF]at hg;obtain⟨h',w',g1,g2,g3,g4⟩:=s_ (ty:=o.type) hfl ht hu hz hr hg wB;exact val ⟨φ,.tuple #[],.tuple #[],h',w',g1,VR.undef,g2,g3,g4⟩ (by simp[execOp,ho,resolve,invoke,builtin,hargs])
   .rename_i kt et hu;cases hc;rw[XI.cF]at hg;split at hg<;>try cases hfl hg
    rename_i m hm;rw[hm]at wB;obtain⟨h',w',g1,g2,g3,g4⟩:=wC (ty:=o.type) hfl ht hu hr hg wB;exact val ⟨φ,.tuple #[],.tuple #[],h',w',g1,VR.undef,g2,g3,g4⟩ (by simp[execOp,ho,resolve,invoke,builtin,hargs])
  case cap=>
   split at hc<;>try contradiction
   rename_i x _ hx;have hargs:args=#[x]:=Array.ext' (by simpa using hx);have wB:VR φ (fZ tm x) (ρ x):=hρ x (by simp[Op.operands,Call.operands,hargs]);split at hc<;>try contradiction
   rename_i t ht;split at hc<;>try contradiction
   rename_i e hu;cases hc;rw[XI.cF]at hg;have hex:execOp ρ o=(do pure (Next.value (<-Builtin.cap_ ts o.type #[ρ x]))):=by simp[execOp,ho,resolve,invoke,builtin,hargs]
   split at hg<;>try cases hfl hg
   rename_i a n c hv;split at hg<;>try cases hfl hg
   rename_i hle;have hle:=cU hle;rw[hv]at wB;obtain⟨a',e3⟩:∃a',ρ x=.slice a' n c:=by
    generalize ρ x=z at wB;cases wB with
    |gj _=>exact⟨_,rfl⟩
    |slice _ _ _=>exact⟨_,rfl⟩
    |bW _ _ _=>exact absurd hle (by unfold aX;omega)
    |di _ _ _=>exact absurd hle (by unfold gK;omega)
   rw[e3]at hex;exact val ⟨φ,_,_,h,w,hg,.int _ _,hr,Ext.refl _ _ _,by simp[Builtin.cap_,ht,a_ hu,goInt]⟩ hex
  case delete=>
   split at hc<;>try contradiction
   rename_i m k _ hx;have hargs:args=#[m,k]:=Array.ext' (by simpa using hx);split at hc<;>try contradiction
   rename_i t ht;split at hc<;>try contradiction
   rename_i kt et hu;cases hc;rw[XI.dM]at hg;obtain⟨h',w',g1,g2,g3,g4⟩:=BH (ty:=o.type) hfl ht hu hr hg (hρ m (by simp[Op.operands,Call.operands,hargs])) (hρ k (by simp[Op.operands,Call.operands,hargs]));exact val ⟨φ,.tuple #[],.tuple #[],h',w',g1,VR.undef,g2,g3,g4⟩ (by simp[execOp,ho,resolve,invoke,builtin,hargs])
  case min=>
   split at hc<;>try contradiction
   rename_i a b _ hx;have hargs:args=#[a,b]:=Array.ext' (by simpa using hx);have ha:VR φ (fZ tm a) (ρ a):=hρ a (by simp[Op.operands,Call.operands,hargs]);have hb:VR φ (fZ tm b) (ρ b):=hρ b (by simp[Op.operands,Call.operands,hargs]);cases hc;rw[XI.dM]at hg;have hex:execOp ρ o=(do pure (Next.value (<-Builtin.min_ ts o.type #[ρ a,ρ b]))):=by simp[execOp,ho,resolve,invoke,builtin,hargs]
   split at hg<;>try cases hfl hg
   rename_i k x k' y e1 e2;rw[e1]at ha;rw[e2]at hb;have e3:ρ a=.int k x:=by generalize ρ a=z at ha;cases ha;rfl
   have e4:ρ b=.int k' y:=by generalize ρ b=z at hb;cases hb;rfl
   have hrun:=run_min_int2 (P:=P) (w:=w) ts o.type k k' x y;rw[e3,e4]at hex;split at hg
   .rename_i hlt;rw[iw,decide_eq_true_eq]at hlt;rw[if_pos hlt]at hrun;exact val ⟨φ,_,_,h,w,hg,.int _ _,hr,Ext.refl _ _ _,hrun⟩ hex
   .rename_i hlt;rw[iw,decide_eq_false_iff_not]at hlt;rw[if_neg hlt]at hrun;exact val ⟨φ,_,_,h,w,hg,.int _ _,hr,Ext.refl _ _ _,hrun⟩ hex
  case max=>
   split at hc<;>try contradiction
   rename_i a b _ hx;have hargs:args=#[a,b]:=Array.ext' (by simpa using hx);have ha:VR φ (fZ tm a) (ρ a):=hρ a (by simp[Op.operands,Call.operands,hargs]);have hb:VR φ (fZ tm b) (ρ b):=hρ b (by simp[Op.operands,Call.operands,hargs]);cases hc;rw[XI.dM]at hg;have hex:execOp ρ o=(do pure (Next.value (<-Builtin.max_ ts o.type #[ρ a,ρ b]))):=by simp[execOp,ho,resolve,invoke,builtin,hargs]
   split at hg<;>try cases hfl hg
   rename_i k x k' y e1 e2;rw[e1]at ha;rw[e2]at hb;have e3:ρ a=.int k x:=by generalize ρ a=z at ha;cases ha;rfl
   have e4:ρ b=.int k' y:=by generalize ρ b=z at hb;cases hb;rfl
   have hrun:=run_max_int2 (P:=P) (w:=w) ts o.type k k' x y;rw[e3,e4]at hex;split at hg
   .rename_i hlt;rw[iw,decide_eq_true_eq]at hlt;rw[if_pos hlt]at hrun;exact val ⟨φ,_,_,h,w,hg,.int _ _,hr,Ext.refl _ _ _,hrun⟩ hex
   .rename_i hlt;rw[iw,decide_eq_false_iff_not]at hlt;rw[if_neg hlt]at hrun;exact val ⟨φ,_,_,h,w,hg,.int _ _,hr,Ext.refl _ _ _,hrun⟩ hex
end Go.Vai

namespace Go.Vai
open Go
variable {β:Type}{fl:β}{good:β->Prop}{P:Program}{φ:eW}{h:af}{w:World}{t:TypeId}
structure TR(φ:eW)(nt:Nat)(tm:T Value)(a:Act):Prop where
 size:a.tmps.size=nt
 small:nt<=1000000000000
 rel:∀t,t<nt->VR φ (eo tm t) (a.tmps.getD t undef)
theorem TR.mono{φ φ':eW}{nt:Nat}{tm:T Value}{a:Act}(hs:Sub φ φ')(ht:TR φ nt tm a):TR φ' nt tm a:=⟨ht.size,ht.small,λt hlt=>(ht.rel t hlt).mono hs⟩
theorem dX{a b:Nat}(h:Nat.ble (Nat.succ a) b=true):a<b:=cU h
theorem TR.eval{nt:Nat}{tm:T Value}{a:Act}(ht:TR φ nt tm a){x:Operand}(hx:E_ nt x=true):VR φ (fZ tm x) (a.eval x):=by
 cases x with
 |tmp t=>exact ht.rel t (dX hx)
 |const v=>exact jw hx
 |func f=>exact VR.func' .nil .nil
 |global g=>cases hx
noncomputable def jV(tm:T Value)(d:Option Nat)(v:Value):T Value:=match d with|some d=>tm.bt d v|none=>tm
theorem iz(tm:T Value)(d:Option Nat)(v:Value)(h:af)(V:T Value->af->β):qs tm d v h V=V (jV tm d v) h:=by
 cases d with
 |none=>rfl
 |some d=>show T.set tm d v (λtm=>V tm h)=_;rw[T.ia];rfl
def QF(nt:Nat)(d:Option Nat):Bool:=match d with|some d=>Nat.ble (Nat.succ d) nt|none=>true
theorem rJ{nt t:Nat}(hn:nt<=1000000000000)(ht:t<nt):Small t:=by unfold Small;omega
theorem iA{nt:Nat}{tm:T Value}{d:Option Nat}{v:Value}(hn:nt<=1000000000000)(hd:QF nt d=true){t:Nat}(ht:t<nt):eo (jV tm d v) t=if d=some t then v else eo tm t:=by
 cases d with
 |none=>simp[jV]
 |some d=>
  have hd':=dX hd;simp only[jV,eo];rw[T.nH tm v (rJ hn hd') (rJ hn ht)];by_cases he:d=t
  .simp[he]
  .simp[he]
theorem TR.put{nt:Nat}{tm:T Value}{a:Act}(ht:TR φ nt tm a){d:Option Nat}(hd:QF nt d=true){v v':Value}(hv:VR φ v v'):TR φ nt (jV tm d v) (a.put d v'):=by
 refine⟨?_,ht.small,?_⟩
 .cases d<;>simp[Act.put,ht.size]
 .intro t hlt;rw[iA ht.small hd hlt];have hr:=ht.rel t hlt;cases d with
  |none=>simpa[Act.put]using hr
  |some d=>
   have hd':=dX hd;by_cases he:d=t
   .subst he;have:d<a.tmps.size:=by rw[ht.size];exact hd'
    simpa[Act.put,Array.getD,this]using hv
   .have h1:¬(some d=some t):=by simpa using he
    rw[if_neg h1];simp only[Array.getD_eq_getD_getElem?]at hr ⊢;simp only[Act.put];rw[Array.getElem?_setIfInBounds_ne he];exact hr
theorem dY{nt:Nat}{o:Oper}(h:fU nt o=true):QF nt o.dst=true:=by
 simp only[fU,Bool.and_eq_true]at h;exact h.2
theorem tc{nt:Nat}{o:Oper}(h:fU nt o=true):∀y∈o.op.operands.toList,E_ nt y=true:=by
 simp only[fU,Bool.and_eq_true,List.all_eq_true]at h;exact h.1
def wD(good:β->Prop)(P:Program)(φ:eW)(h:af)(w:World)(V:YYY β)(f:FuncId)(args:Array Value):Prop:=
 (callFunc f args).run P w=.ok (.enter f args) w/\
 Calls P f args w λe w'=>∃φ' v v' h',e=.returned v'/\good (V v h')/\VR φ' v v'/\HR P φ' h' w'/\Ext φ φ' h h' w w'
def FR(r:Option Nat):Fence:={ Fence.wide with round:=r }
theorem yG{r:Option Nat}{n:Nat}{f:FuncId}{args:Array Value}{R:Ending->World->Prop}:CallsIn (FR r) n P f args w R<->Calls P f args w R:=callsIn_wide (n:=n)
def aam(good:β->Prop)(P:Program)(φ:eW)(h:af)(w:World)(V:YYY β)(e:Ending)(w':World):Prop:=
 ∃φ' v v' h',e=.returned v'/\good (V v h')/\VR φ' v v'/\HR P φ' h' w'/\Ext φ φ' h h' w w'
def wE(good:β->Prop)(P:Program)(φ:eW)(h:af)(w:World)(V:YYY β)(r:Result Next):Prop:=
 Vs good P φ h w V r\/(∃f args,r=.ok (.enter f args) w/\Calls P f args w (aam good P φ h w V))\/
 ∃l f tmps as bd,r=.ok (.round l f tmps as bd) w/\∀r0:Option Nat,RoundIn (FR r0) 0 P l f tmps as bd w (aam good P φ h w V)
theorem wE.upon{V:YYY β}{r:Result Next}(ho:wE good P φ h w V r){o:Oper}{a:Act}{next:Act->World->Prop}{Q:Exit->Act->World->Prop}{r0:Option Nat}(hn:∀φ' v v' h' w',good (V v h')->VR φ' v v'->HR P φ' h' w'->Ext φ φ' h h' w w'->next (a.put o.dst v') w'):o.uponIn (FR r0) 0 P a next Q r:=by
 rcases ho with⟨φ',v,v',h',w',nx,g1,g2,g3,g4,rfl,g6⟩|⟨f,args,rfl,hc⟩|⟨l,f,tmps,as,bd,rfl,hc⟩
 .rcases g6 with rfl|⟨rfl,rfl⟩
  .exact hn φ' v v' h' w' g1 g2 g3 g4
  .exact hn φ' v undef h' w' g1 g2 g3 g4
 .refine⟨λhh=>(by cases hh),yG.2 (Calls.mono hc ?_)⟩;rintro e w' ⟨φ',v,v',h',rfl,g1,g2,g3,g4⟩;exact hn φ' v v' h' w' g1 g2 g3 g4
 .refine⟨λhh=>(by cases hh),(hc r0).mono ?_⟩;rintro e w' ⟨φ',v,v',h',rfl,g1,g2,g3,g4⟩;exact hn φ' v v' h' w' g1 g2 g3 g4
theorem lZ{r0:Option Nat}{o:Oper}{ρ:Operand->Value}:∀f,o.about P w ρ=some f->(FR r0).fn f:=λ_ _=>trivial
def Fu(tmps:Array Value):ResultVar->Sem Value
 | .tmp t=>pure (tmps.getD t undef)
 | .cell c t=>do loadVar t (<-asAddr (tmps.getD c undef))
theorem jO{t:TypeId}{ad:Addr}:(Instr.loadAt t (.pointer (some ad))).run P w=(loadVar t ad).run P w:=by
 simp[Instr.loadAt,Instr.sureAddr]
theorem um{tmps:Array Value}{fn:Func}{vs:List Value}(hm:(fn.results.toList.mapM (Fu tmps)).run P w=.ok vs w):(results fn tmps).run P w=.ok (match vs with | [v]=>v|vs=>.tuple ⟨vs⟩) w:=by
 have he:results fn tmps=(do let vs <-fn.results.mapM (Fu tmps);pure (if h:vs.size=1 then vs[0]else .tuple vs)):=by
  unfold results
  congr 1
 rw[he,Array.mapM_eq_mapM_toList]
 match vs,hm with
 | [],hm=>simp[hm]
 | [v],hm=>simp[hm]
 |v::v2::vs,hm=>simp[hm]
theorem Cl(hfl:¬good fl){a a':Value}{V:YYY β}(hg:good (ay fl a h V))(hv:VR φ a a'):∃ad,a'=.pointer (some ad):=by
 unfold ay at hg;split at hg<;>try cases hfl hg
 cases hv;exact⟨_,rfl⟩
theorem NY(hfl:¬good fl){s:Nat}{a a':Value}{V:YYY β}(hg:good (aO fl s a h V))(hv:VR φ a a'):∃ad,a'=.pointer (some ad):=by
 unfold aO at hg;split at hg<;>try cases hfl hg
 cases hv;exact⟨_,rfl⟩
theorem qL(hfl:¬good fl)(hr:HR P φ h w){nt:Nat}{tm:T Value}{a:Act}(ht:TR φ nt tm a):∀(rs:List ResultVar){V:List Value->β},rs.all (Qi nt)=true->
  good (eT fl h tm (rs.map (xC P)) V)->∃vs vs',good (V vs)/\F2 (VR φ) vs vs'/\(rs.mapM (Fu a.tmps)).run P w=.ok vs' w:=by
 intro rs
 induction rs with
 |nil=>intro V _ hg;exact⟨[],[],hg,.nil,by simp⟩
 |cons r rs ih=>
  intro V hok hg;simp only[List.all_cons,Bool.and_eq_true]at hok
  have fin:∀{v v':Value},(Fu a.tmps r).run P w=.ok v' w->VR φ v v'->good (eT fl h tm (rs.map (xC P)) λvs=>V (v::vs))->
    ∃vs vs',good (V vs)/\F2 (VR φ) vs vs'/\((r::rs).mapM (Fu a.tmps)).run P w=.ok vs' w:=by
   intro v v' h1 h2 h3;obtain⟨vs,vs',g1,g2,g3⟩:=ih hok.2 h3;exact⟨_,v'::vs',g1,.cons h2 g2,by simp[List.mapM_cons,g3,h1]⟩
  cases r with
  |tmp t=>
   simp only[List.map_cons,xC,eT,iy]at hg;exact fin (by simp[Fu]) (ht.rel t (dX hok.1)) hg
  |cell c t=>
   have hc:=ht.rel c (dX hok.1);simp only[List.map_cons,xC]at hg;cases hx:oB P t with
   |none=>simp only[hx,eT]at hg;exact absurd hg hfl
   |some b=>
    cases hs:fT P t with
    |none=>cases b<;>simp only[hx,hs,eT]at hg<;>exact absurd hg hfl
    |some s=>
     cases b with
     |true=>
      simp only[hx,hs,eT,iy]at hg;obtain⟨ad,had⟩:=NY hfl hg hc;obtain⟨v,v',g1,g2,g3⟩:=xF hfl hx hs hg hc hr;rw[had,jO]at g3;exact fin (by simp only[Fu,had];simpa[asAddr]using g3) g2 g1
     |false=>
      simp only[hx,hs,eT,iy]at hg;obtain⟨ad,had⟩:=Cl hfl hg hc;obtain⟨v,v',g1,g2,g3⟩:=nI hfl hx hg hc hr;rw[had,jO]at g3;exact fin (by simp only[Fu,had];simpa[asAddr]using g3) g2 g1
theorem BI{name:String}{f:FuncId}(hm:Db P t name=some f)(v:Value):(method (P.types.size+Made.depth) t v name).run P w=.ok (f,v) w:=by
 unfold Db at hm;split at hm<;>try contradiction
 rename_i i d hi hd;split at hm<;>try contradiction
 rename_i m hf;obtain⟨n,hn⟩:∃n,P.types.size+Made.depth=n+1:=⟨P.types.size+Made.depth-1,by
  have:0<Made.depth:=by decide
  omega⟩
 rw[hn];unfold method;cases hp:m.path.isEmpty with
 |false=>simp[hp]at hm
 |true=>
  have Qu:m.path.toList=[]:=by simpa using hp
  cases hfun:m.func with
  |none=>simp[hp,hfun]at hm
  |some p=>
   obtain⟨f',b⟩:=p;have hw:f'=f/\∀wr,(receiverAt t (.val v) b (some wr)).run P w=.ok v w:=by
    cases b with
    |true=>
     cases d<;>simp only[hp,hfun]at hm<;>try contradiction
     cases hm;exact⟨rfl,λwr=>by simp[receiverAt,a_ hd,Place.get]⟩
    |false=>
     cases d<;>simp only[hp,hfun]at hm<;>try contradiction
     all_goals (cases hm;exact⟨rfl,λwr=>by simp[receiverAt,a_ hd,Place.get]⟩)
   obtain⟨rfl,hw⟩:=hw;have hpe:m.path=#[]:=by simpa using hp
   simp[typeInfo,hi,hf,hpe,follow,hfun,hw]
theorem BJ{name:String}{f:FuncId}{off:Nat}{ty:TypeId}(hm:yB P t name=some (f,off,ty)){ad:Addr}{v:Value}(hl:(loadVar ty (ad.add off)).run P w=.ok v w):oB P ty=some false/\(method (P.types.size+Made.depth) t (.pointer (some ad)) name).run P w=.ok (f,v) w:=by
 unfold yB at hm;split at hm<;>try contradiction
 rename_i i hi;split at hm<;>try contradiction
 rename_i m hf;split at hm<;>try contradiction
 rename_i s f' hp hfun;split at hm<;>try contradiction
 rename_i fs hd hs;split at hm<;>try contradiction
 rename_i v_ alw;split at hm<;>try contradiction
 rename_i e hag hsz hue;cases hm;refine⟨hag,?_⟩;obtain⟨n,hn⟩:∃n,P.types.size+Made.depth=n+1:=⟨P.types.size+Made.depth-1,by
  have:0<Made.depth:=by decide
  omega⟩
 rw[hn];unfold method;simp[typeInfo,hi,hf,hp,hfun,follow,a_ hs,alw,hd,Place.get,asAddr,fieldPlace,cM hsz,receiverAt,a_ hue,hl]
theorem BK{name:String}{f:FuncId}{ty:TypeId}(hm:yC P t name=some (f,ty)){ad:Addr}{v:Value}(hl:(loadVar ty ad).run P w=.ok v w):(method (P.types.size+Made.depth) t (.pointer (some ad)) name).run P w=.ok (f,v) w:=by
 unfold yC at hm;split at hm<;>try contradiction
 rename_i i e hi hu;split at hm<;>try contradiction
 rename_i m hf;split at hm<;>try contradiction
 rename_i f' hp hfun hag;cases hm;obtain⟨n,hn⟩:∃n,P.types.size+Made.depth=n+1:=⟨P.types.size+Made.depth-1,by
  have:0<Made.depth:=by decide
  omega⟩
 rw[hn];unfold method;have hpe:m.path=#[]:=by simpa using hp
 have hw:∀a b:String,(Builtin.ssaWrapNilChk_ #[t] t #[.pointer (some ad),strVal a,strVal b]).run P w=.ok (.pointer (some ad)) w:=λ_ _=>rfl;simp[typeInfo,hi,hf,hpe,hfun,follow,Place.get,asAddr,receiverAt,a_ hu,hw,hl]
end Go.Vai

namespace Go.Vai
open Go
variable {β:Type}{fl:β}{good:β->Prop}{pr:mA β}{P:Program}{φ:eW}{h:af}{w:World}{t:TypeId}
def QH:Ex->Exit
 | .normal=>.normal
 | .exit i=>.exit i
 | .ret=>.ret
def Marks(N:Nat)(φ:eW)(w:World):Nat->List Deferred->Prop
 |_,[]=>True
 |U,d::l=>∃D,d={ target:=.collected D,args:=#[] }/\N<=D/\D<U/\w.heap[D]? = some (.deferred (some []))/\(∀b pl,φ b=some pl->pl.B≠D)/\Marks N φ w D l
theorem Marks.le{N:Nat}:∀{l:List Deferred}{U U':Nat},Marks N φ w U l->U<=U'->Marks N φ w U' l
 | [],_,_,_,_=>trivial
 |_::_,_,_,⟨D,h1,h2,h3,h4,h5,h6⟩,hU=>⟨D,h1,h2,Nat.lt_of_lt_of_le h3 hU,h4,h5,h6⟩
theorem Ext.YK{φ':eW}{h':af}{w':World}(hx:Ext φ φ' h h' w w'){D:Nat}(hD:D<w.heap.size)(hn:∀b pl,φ b=some pl->pl.B≠D):∀b pl,φ' b=some pl->pl.B≠D:=by
 intro b pl hb;cases h0:φ b with
 |some p=>
  have:=hx.sub b p h0;rw[hb]at this;cases this;exact hn b pl h0
 |none=>
  rcases(hx.new b pl h0 hb).2 with h1|⟨b0,p0,h1,h2⟩
  .omega
  .rw[<-h2];exact hn b0 p0 h1
theorem Marks.mono{N:Nat}{φ':eW}{h':af}{w':World}(hx:Ext φ φ' h h' w w'):∀{l:List Deferred}{U:Nat},U<=w.heap.size->Marks N φ w U l->Marks N φ' w' U l
 | [],_,_,_=>trivial
 |_::_,_,hU,⟨D,h1,h2,h3,h4,h5,h6⟩=>
  ⟨D,h1,h2,h3,by rw[hx.BC D YYZ h5];exact h4,hx.YK YYZ h5,Marks.mono hx YYZ h6⟩
theorem Marks.append{N N2 U1:Nat}{l1:List Deferred}(h1:Marks N φ w U1 l1)(hN:N<=N2)(hU:U1<=N2):∀{l2:List Deferred}{U:Nat},U1<=U->Marks N2 φ w U l2->Marks N φ w U (l2++l1)
 | [],_,hle,_=>h1.le hle
 |_::_,_,_,⟨D,e1,e2,e3,e4,e5,e6⟩=>⟨D,e1,Nat.le_trans hN e2,e3,e4,e5,Marks.append h1 hN hU (Nat.le_trans hU e2) e6⟩
def Post(good:β->Prop)(P:Program)(nt:Nat)(φ:eW)(h:af)(w:World)(ds:List Deferred)(V:Ex->T Value->af->β)(e:Exit)(a':Act)(w':World):Prop:=
 ∃x dy h' φ',e=QH x/\good (V x dy h')/\TR φ' nt dy a'/\HR P φ' h' w'/\Ext φ φ' h h' w w'/\∃ms,a'.defers=ms++ds/\Marks w.heap.size φ' w' w'.heap.size ms
def mF(good:β->Prop)(P:Program)(rec:Rec β):Prop:=
 ∀(c:Code)(r:Option Nat)(tm:T Value)(h:af)(V:Ex->T Value->af->β)(φ:eW)(w:World)(nt:Nat)(a:Act),(r=none\/qD c=true)->codeOk nt c=true->TR φ nt tm a->HR P φ h w->good (rec c tm h V)->
  c.wpIn (FR r) 0 P (Post good P nt φ h w a.defers V) a w
structure iB(good:β->Prop)(pr:mA β)(P:Program):Prop where
 both:∀x y,good (pr.both x y)->good x/\good y
 fn:∀f g,pr.fn f=some g->∀(args args':List Value)(h:af)(φ:eW)(w:World)(V:YYY β),F2 (VR φ) args args'->HR P φ h w->good (g args h V)->wD good P φ h w V f args'.toArray
theorem HR.aside(hr:HR P φ h w){D:Nat}(hn:∀b pl,φ b=some pl->pl.B≠D)(o:Obj):HR P φ h (w.putObj D o):=by
 refine⟨λb ob pl h1 h2=>?_,λb pl h1=>?_,hr.keys,hr.Qp,hr.inj,hr.lo⟩
 .rw[World.putObj_heap_other (hn b pl h2)];exact hr.obj b ob pl h1 h2
 .rw[World.putObj_size];exact hr.dom b pl h1
theorem Ext.aside{φ':eW}{h':af}{w0:World}(hx:Ext φ φ' h h' w0 w){D:Nat}(hD:w0.heap.size<=D)(ds:Option (List Deferred)):Ext φ φ' h h' w0 (w.putObj D (.deferred ds)) where
 sub:=hx.sub
 new:=hx.new
 nx:=hx.nx
 size:=by rw[World.putObj_size];exact hx.size
 BC:=λB hB hn=>by rw[World.putObj_heap_other YYZ];exact hx.BC B hB hn
 ET:=hx.ET
 tape:=hx.tape
 os:=hx.os
 output:=hx.output
 fz:=λB hB=>by
  by_cases he:B=D
  .subst he;by_cases hl:B<w.heap.size
   .rw[World.putObj_heap_same hl];trivial
   .have:(w.putObj B (.deferred ds)).heap[B]? = none:=by simp[World.putObj_size];omega
    rw[this];trivial
  .rw[World.putObj_heap_other he];exact hx.fz B hB
 lo:=hx.lo
 JL:=hx.JL
 JM:=λx o pl h1 h2 h3 h4 h5=>by rw[World.putObj_heap_other YYZ];exact hx.JM x o pl h1 h2 h3 h4 h5
 dr:=hx.dr
theorem qM{fn:Func}{a:Act}{φ':eW}{h':af}{w0:World}{R:Ending->World->Prop}(hend:∀w':World,HR P φ' h' w'->Ext φ φ' h h' w0 w'->∃v,(results fn a.tmps).run P w'=.ok v w'/\R (.returned v) w'):∀(ms:List Deferred)(U:Nat)(w':World),Marks w0.heap.size φ' w' U ms->HR P φ' h' w'->Ext φ φ' h h' w0 w'->LeavesInM (FR none) 0 P fn a.tmps R ms .returning w'
 | [],_,w',_,hr,hx=>hend w' hr hx
 |_::ms,_,w',⟨D,e1,e2,e3,e4,e5,e6⟩,hr,hx=>by
  subst e1;have hr':=hr.aside e5 (.deferred none);have hx':=hx.aside e2 none;refine⟨by simp,.inl ⟨D,w'.putObj D (.deferred none),rfl,run_takeDeferred e4,qM hend ms D _ ?_ hr' hx'⟩⟩;have keep:∀(l:List Deferred)(U:Nat),U<=D->Marks w0.heap.size φ' w' U l->Marks w0.heap.size φ' (w'.putObj D (.deferred none)) U l:=by
   intro l
   induction l with
   |nil=>intro _ _ _;trivial
   |cons d l ih=>
    rintro U hU ⟨D',f1,f2,f3,f4,f5,f6⟩;exact⟨D',f1,f2,f3,by rw[World.putObj_heap_other YYZ];exact f4,f5,ih D' YYZ f6⟩
  exact keep ms D (Nat.le_refl _) e6
theorem uo{f:FuncId}{c:Code}{rs:List BA}{nt:Nat}(hc:y_ P f=.mk c rs nt):∃fn,P.funcs[f]? = some fn/\fn.body=some c/\fn.ntmps=nt/\rs=fn.results.toList.map (xC P)/\codeOk nt c=true/\fn.results.toList.all (Qi nt)=true/\nt<=1000000000000/\
   ∀(args:Array Value)(w:World),(callFunc f args).run P w=.ok (.enter f args) w:=by
 unfold y_ at hc;split at hc<;>try contradiction
 rename_i fn hf;split at hc<;>try contradiction
 rename_i hn;split at hc<;>try contradiction
 rename_i c' hb;split at hc<;>try contradiction
 rename_i hok;simp only[Bool.and_eq_true]at hok;cases hc;refine⟨fn,hf,hb,rfl,rfl,hok.1.1,hok.1.2,cU hok.2,λargs w=>?_⟩
 have hn' : ¬ fn.name = "runtime.NumGoroutine" := by simpa using hn
 simp[callFunc,hf,hn',hb]
theorem J7(vs:List Value):∀(tm:T Value)(i:Nat)(V:T Value->β),Dc vs tm i V=V (lay vs tm i):=by
 induction vs with
 |nil=>intro tm i V;rfl
 |cons v vs ih=>
  intro tm i V
  show T.set tm i v (λtm=>Dc vs tm (Nat.succ i) V)=_
  rw[T.ia,ih];rfl
theorem TR.start{args args':List Value}{nt:Nat}(ha:F2 (VR φ) args args')(hn:nt<=1000000000000)(hle:args.length<=nt):TR φ nt (lay args .nil 0) { tmps:=args'.toArray++Array.replicate (nt-args'.toArray.size) undef,defers:=[] }:=by
 have hlen:=ha.length;refine⟨by simp[<-hlen];omega,hn,λt ht=>?_⟩;simp only[eo];rw[uf args .nil 0 YYZ t (by unfold Small;omega)];simp only[Array.getD_eq_getD_getElem?];by_cases hlt:t<args.length
 .rw[if_pos YYZ];obtain⟨v,hv⟩:∃v,args[t]? = some v:=⟨args[t],by simp[hlt]⟩
  obtain⟨v',e1,e2⟩:=ha.get t v hv;rw[Array.getElem?_append_left (by simp;omega)];simpa[hv,e1]using e2
 .rw[if_neg YYZ,T.get_nil,Array.getElem?_append_right (by simp;omega),Array.getElem?_replicate];have hu:((if t-args'.toArray.size<nt-args'.toArray.size then some undef else none:Option Value).getD undef)=undef:=by split<;>rfl
  rw[hu];exact VR.undef
theorem F2.toList{a a':Array Value}(h:a.toList.length=a'.toList.length)(hv:∀(i:Nat)(v v':Value),a.toList[i]? = some v->a'.toList[i]? = some v'->VR φ v v'):F2 (VR φ) a.toList a'.toList:=
 F2.mB h hv
theorem gI(hfl:¬good fl)(hp:iB good pr P){rec:Rec β}(fV:mF good P rec){f:FuncId}{args args':List Value}(ha:F2 (VR φ) args args')(hr:HR P φ h w){V:YYY β}(hg:good (nG fl pr P rec f args h V)):wD good P φ h w V f args'.toArray:=by
 unfold nG at hg;split at hg
 .rename_i g hg';exact hp.fn f g hg' args args' h φ w V ha hr hg
 .split at hg
  .exact absurd hg hfl
  .rename_i c rs nt hc;obtain⟨fn,hf,hb,rfl,rfl,BF,hrk,hnt,jx⟩:=uo hc;split at hg<;>try cases hfl hg
   rename_i hle;rw[J7]at hg;refine⟨jx _ _,?_⟩;have hst:=TR.start (nt:=fn.ntmps) ha hnt (cU hle);refine yG (r:=none) (n:=0) |>.1 (callsIn_of_wp_marks hf hb trivial (wpIn_mono (fV c none _ h _ φ w fn.ntmps _ (.inl rfl) BF hst hr hg) ?_))
   rintro e a' w' ⟨x,dy,h',φ',rfl,g1,g2,g3,g4,ms,g5,g6⟩;have UZ:a'.defers=ms:=by rw[g5];simp
   have fin:good (eT fl h' dy (fn.results.toList.map (xC P)) λvs=>Qj V h' vs)->
     LeavesInM (FR none) 0 P fn a'.tmps (λe w'=>∃φ' v v' h',e=.returned v'/\good (V v h')/\VR φ' v v'/\HR P φ' h' w'/\Ext φ φ' h h' w w') a'.defers .returning w':=by
    intro k;rw[UZ];refine qM (a:=a') (φ':=φ') (h':=h') ?_ ms _ w' g6 g3 g4;intro w2 JO hx2;obtain⟨vs,vs',k1,k2,k3⟩:=qL hfl JO g2 _ hrk k;refine⟨_,um k3,?_⟩;cases k2 with
    |nil=>exact⟨φ',_,_,h',rfl,k1,VR.tuple' .nil,JO,hx2⟩
    |cons hv hvs=>
     cases hvs with
     |nil=>exact⟨φ',_,_,h',rfl,k1,hv,JO,hx2⟩
     |cons Vq hvs=>exact⟨φ',_,_,h',rfl,k1,VR.tuple' (.cons hv (.cons Vq hvs)),JO,hx2⟩
   cases x with
   |normal=>exact fin g1
   |exit i=>exact absurd g1 hfl
   |ret=>exact fin g1
theorem wE.call{V:YYY β}{f:FuncId}{args:Array Value}(hc:wD good P φ h w V f args){s:Sem Next}(hs:s.run P w=(callFunc f args).run P w):wE good P φ h w V (s.run P w):=
 .inr (.inl ⟨f,args,by rw[hs,hc.1],hc.2⟩)
theorem HR.zp(hr:HR P φ h w){b:Nat}{st:LoopState}{mj:Option Ex}{tm:T Value}{ps:List Nat}{x y:Code}{pl:Pl}(hb:h.bl.get b=some (.loop st mj tm ps x y))(hp:φ b=some pl):∃r,w.heap[pl.B]? = some (.loop r)/\r.state=st/\Ci mj r.pending/\r.params.toList=ps/\r.assign=x/\r.body=y/\
   ∃nt,Fa nt ps x y/\r.tmps.size=nt/\∀t,t<nt->VR φ (eo tm t) (r.tmps.getD t undef):=by
 have:=hr.obj b _ pl hb hp;cases hO:w.heap[pl.B]? with
 |none=>rw[hO]at this;exact this.elim
 |some O=>
  rw[hO]at this;cases O<;>simp only[OR]at this<;>try exact this.elim
  exact⟨_,rfl,this⟩
theorem HR.uq(hr:HR P φ h w){b:Nat}(hlo:h.lo<=b){st st':LoopState}{mj xL:Option Ex}{tm:T Value}{ps:List Nat}{x y:Code}{pl:Pl}(hb:h.bl.get b=some (.loop st mj tm ps x y))(hp:φ b=some pl){r:Loop}(hO:w.heap[pl.B]? = some (.loop r)){pd:Option Code}(hpd:Ci xL pd):HR P φ ⟨h.nx,h.bl.bt b (.loop st' xL tm ps x y),h.lo⟩ (w.putObj pl.B (.loop { r with state:=st',pending:=pd }))/\
  Ext φ φ h ⟨h.nx,h.bl.bt b (.loop st' xL tm ps x y),h.lo⟩ w (w.putObj pl.B (.loop { r with state:=st',pending:=pd })):=by
 obtain⟨r',YE,k1,k2,k3,k4,k5,k6⟩:=hr.zp hb hp;rw[hO]at YE;cases YE;refine hr.turn hlo hp ⟨_,hb,trivial⟩ (by simp) (λk hk=>World.putObj_heap_other hk) ?_ rfl rfl rfl (.inl trivial);rw[World.putObj_heap_same (hr.dom b pl hp).2];exact⟨rfl,hpd,k3,k4,k5,k6⟩
theorem QI:∀(ps:List Nat)(vs:List Value)(tm:T Value)(V:T Value->β),∃dy,zb ps vs tm V=V dy/\
  ∀{φ:eW}{nt:Nat}{vs':List Value}{tmps:Array Value},F2 (VR φ) vs vs'->ps.length=vs.length->ps.all (λt=>Nat.ble (Nat.succ t) nt)=true->nt<=1000000000000->tmps.size=nt->(∀t,t<nt->VR φ (eo tm t) (tmps.getD t undef))->
   ((ps.zip vs').foldl (λt (x:Nat × Value)=>t.setIfInBounds x.1 x.2) tmps).size=nt/\∀t,t<nt->VR φ (eo dy t) (((ps.zip vs').foldl (λt (x:Nat × Value)=>t.setIfInBounds x.1 x.2) tmps).getD t undef):=by
 intro ps
 induction ps with
 |nil=>intro vs tm V;exact⟨tm,by cases vs<;>rfl,λ_ _ _ _ h2 h3=>⟨by simpa using h2,by simpa using h3⟩⟩
 |cons p ps ih=>
  intro vs tm V;cases vs with
  |nil=>exact⟨tm,rfl,λ_ h1 _ _ _ _=>by simp at h1⟩
  |cons v vs=>
   obtain⟨dy,e1,e2⟩:=ih vs (tm.bt p v) V;refine⟨dy,by show T.set tm p v (λtm=>zb ps vs tm V)=_;rw[T.ia];exact e1,?_⟩;intro φ nt vs' tmps hv hl hps hnt hsz aly;cases hv with
   |cons hv hvs=>
    simp only[List.all_cons,Bool.and_eq_true]at hps;have hp:p<nt:=dX hps.1;simp only[List.zip_cons_cons,List.foldl_cons];refine e2 hvs (by simpa using hl) hps.2 hnt (by simpa using hsz) ?_;intro t ht;simp only[eo];rw[T.nH tm v (rJ hnt hp) (rJ hnt ht)];have:=aly t ht;simp only[Array.getD_eq_getD_getElem?]at this ⊢;by_cases he:p=t
    .subst he;rw[if_pos rfl,Array.getElem?_setIfInBounds_self_of_lt YYZ];exact hv
    .rw[if_neg he,Array.getElem?_setIfInBounds_ne he];exact this
theorem Ci.jump{e:Ex}:∀{c:Option Code},Ci (some e) c->(e=.ret/\c=some .ret)\/∃i,e=.exit i/\c=some (.exit i):=by
 intro c hp;cases e<;>cases c<;>try exact hp.elim
 all_goals (rename_i c;cases c<;>try exact hp.elim)
 .exact .inr ⟨_,rfl,by have:_=_:=hp;rw[this]⟩
 .exact .inl ⟨rfl,rfl⟩
theorem Dx(hfl:¬good fl){rec:Rec β}(fV:mF good P rec){l:Nat}{pl:Pl}(hp:φ l=some pl){args args':List Value}(ha:F2 (VR φ) args args')(hr:HR P φ h w){V:YYY β}(hg:good (wg fl rec l args h V)):wE good P φ h w V ((Instr.yield pl.B args'.toArray).run P w):=by
 unfold wg at hg;split at hg<;>try cases hfl hg
 rename_i st mj lR ps x y hb;split at hg<;>try cases hfl hg
 rename_i hlen;have hlen:=cD hlen;obtain⟨r,hO,k1,k2,k3,k4,k5,nt,k6,k7,k8⟩:=hr.zp hb hp;obtain⟨tm1,e1,e2⟩:=QI ps args lR (λtm=>rec x tm h (jr fl rec l y V));rw[e1]at hg;have hal:=ha.length;have hps:r.params.size=ps.length:=by rw[<-k3];simp
 have hy:=run_yield (P:=P) (args:=args'.toArray) hO (by simp;omega);refine .inr (.inr ⟨pl.B,r.fn,_,r.assign,r.body,hy,λr0=>?_⟩);have af_:(r.params.zip args'.toArray).foldl (λtmps (x:Nat × Value)=>tmps.setIfInBounds x.1 x.2) r.tmps=(ps.zip args').foldl (λt (x:Nat × Value)=>t.setIfInBounds x.1 x.2) r.tmps:=by
  rw[<-Array.foldl_toList,Array.toList_zip,k3]
 obtain⟨f1,f2⟩:=e2 ha YYZ k6.ps k6.small k7 k8;rw[k4,k5];have hst:TR φ nt tm1 { tmps:=(r.params.zip args'.toArray).foldl (λtmps (x:Nat × Value)=>tmps.setIfInBounds x.1 x.2) r.tmps,defers:=[] }:=by
  rw[af_];exact⟨f1,k6.small,f2⟩
 have aao:RoundIn (FR r0) 0 P pl.B r.fn ((r.params.zip args'.toArray).foldl (λtmps (x:Nat × Value)=>tmps.setIfInBounds x.1 x.2) r.tmps) x y w (aam good P φ h w V):=by
  refine roundIn_of_wpIn (F:=FR r0) trivial ?_;refine wpIn_mono (fV x (some pl.B) tm1 h _ φ w nt _ (.inr k6.ra) k6.ca hst hr hg) ?_;rintro e a1 w1 ⟨x1,tm2,h1,φ1,rfl,g1,g2,g3,g4,ms,g5,g6⟩;unfold jr at g1;split at g1<;>try exact absurd g1 hfl
  split at g1<;>try exact absurd g1 hfl
  rename_i aga aro ps1 x2 y2 hb1;obtain⟨hlo,g1⟩:=bH hfl g1;have hp1:=g4.sub l pl hp;obtain⟨r1,hO1,q1,q2,q3,q4,q5,q6⟩:=g3.zp hb1 hp1;obtain⟨m1,m2⟩:=g3.uq (st':=.busy) (xL:=aga) hlo hb1 hp1 hO1 (pd:=r1.pending) q2;refine⟨_,run_beginRound hO1 q1,?_⟩;refine wpIn_mono (fV y (some pl.B) tm2 _ _ φ1 _ nt a1 (.inr k6.rb) k6.cb g2 m1 g1) ?_;rintro e a2 w2 ⟨x3,tm3,h3,φ3,rfl,j1,j2,j3,j4,ms2,j5,j6⟩;unfold oH at j1;split at j1<;>try exact absurd j1 hfl
  rename_i st3 apu arp ps3 x4 y4 hb3;have QJ:=j4.sub l pl hp1;obtain⟨r3,hO3,_⟩:=j3.zp hb3 QJ;have hall:=g4.trans (m2.trans j4);cases x3 with
  |normal=>
   obtain⟨J8,j1⟩:=bH hfl j1;obtain⟨n1,n2⟩:=j3.uq (st':=.ready) (xL:=none) J8 hb3 QJ hO3 (pd:=none) trivial;exact⟨_,_,run_endRound none hO3,φ3,_,_,_,rfl,j1,.bool true,n1,hall.trans n2⟩
  |exit i=>
   obtain⟨J8,j1⟩:=bH hfl j1;obtain⟨n1,n2⟩:=j3.uq (st':=.done) (xL:=some (.exit i)) J8 hb3 QJ hO3 (pd:=some (.exit i)) rfl;exact⟨_,_,run_endRound (some (.exit i)) hO3,φ3,_,_,_,rfl,j1,.bool false,n1,hall.trans n2⟩
  |ret=>
   obtain⟨J8,j1⟩:=bH hfl j1;obtain⟨n1,n2⟩:=j3.uq (st':=.done) (xL:=some .ret) J8 hb3 QJ hO3 (pd:=some .ret) trivial;exact⟨_,_,run_endRound (some .ret) hO3,φ3,_,_,_,rfl,j1,.bool false,n1,hall.trans n2⟩
 exact aao
theorem zq(hfl:¬good fl)(hp:iB good pr P){rec:Rec β}(fV:mF good P rec){c:Call}{tm:T Value}{a:Act}(hop:∀y∈c.operands.toList,VR φ (fZ tm y) (a.eval y))(hr:HR P φ h w){V:YYY β}(hg:good (oI fl pr P c rec tm h V)){o:Oper}(ho:o.op=.call c):wE good P φ h w V ((execOp a.eval o).run P w):=by
 obtain⟨callee,args,ts⟩:=c;have hargs:F2 (VR φ) (args.toList.map (fZ tm)) (args.toList.map a.eval):=F2.map _ λy hy=>hop y (by simp[Call.operands]at hy ⊢;exact .inr hy);cases callee with
 |builtin b=>exact absurd hg hfl
 |value x=>
  have gen:good (Vj tm args.toList λargs=>ev tm x λfv=>Cd fl pr P rec fv args h V)->wE good P φ h w V ((execOp a.eval o).run P w):=by
   intro hg;rw[sY,iy]at hg;have wB:VR φ (fZ tm x) (a.eval x):=hop x (by simp[Call.operands]);unfold Cd at hg;split at hg<;>try cases hfl hg
   rotate_left
   .rename_i l first cap hv
    split at hg<;>try cases hfl hg
    rw[hv]at wB;generalize hz:a.eval x=z at wB;cases wB with
    |yield hp=>
     have:=Dx hfl fV hp hargs hr hg;have he:(args.toList.map a.eval).toArray=args.map a.eval:=by apply Array.ext';simp
     rw[he]at this;simpa[execOp,ho,resolve,hz,Deferred.ofValue,invoke]using this
   rename_i f first cap hv
   rw[hv]at wB;generalize hz:a.eval x=z at wB;cases wB with
   |func fn a1 a1' b1 b1' ha hb JK hvb=>
    have hall:=((F2.toList ha JK).append hargs).append (F2.toList hb hvb);refine wE.call (gI hfl hp fV hall hr hg) ?_;have he:(a1'.toList++args.toList.map a.eval++b1'.toList).toArray=a1'++args.map a.eval++b1':=by apply Array.ext';simp
    rw[he];simp[execOp,ho,resolve,hz,Deferred.ofValue,invoke]
  cases x with
  |func f=>
   simp only[oI,sY]at hg;refine wE.call (gI hfl hp fV hargs hr hg) ?_;have he:(args.toList.map a.eval).toArray=args.map a.eval:=by apply Array.ext';simp
   rw[he];simp[execOp,ho,resolve,Act.eval,Deferred.ofValue,invoke]
  |tmp t=>exact gen hg
  |const v=>exact gen hg
  |global g=>exact gen hg
 |invoke r name=>
  simp only[oI,sY,iy]at hg;have hrv:VR φ (fZ tm r) (a.eval r):=hop r (by simp[Call.operands]);unfold Qk at hg;split at hg<;>try cases hfl hg
  rename_i t v hv;have e0:∀(v':Value),a.eval r=.iface t v'->(execOp a.eval o).run P w=(callMethod (.iface t v') name (args.map a.eval)).run P w:=by
   intro v' hz;have hx:(#[Value.iface t v']++args.map a.eval).extract 1 (#[Value.iface t v']++args.map a.eval).size=args.map a.eval:=by
    apply Array.ext';simp;exact List.take_of_length_le (by simp)
   rw[<-hx];have h0:(#[Value.iface t v']++args.map a.eval)[0]? = some (.iface t v'):=by
    rw[Array.getElem?_append_left (by simp)];rfl
   simp[execOp,ho,resolve,hz,invoke,h0]
  have he:∀v':Value,(v'::args.toList.map a.eval).toArray=#[v']++args.map a.eval:=λv'=>by apply Array.ext';simp
  rw[hv]at hrv;generalize hz:a.eval r=z at hrv;cases hrv with
  |iface _ hvv=>
   rename_i v';split at hg
   .rename_i f hm;refine wE.call (gI hfl hp fV (F2.cons hvv hargs) hr hg) ?_;have:=BI (P:=P) (w:=w) hm v';rw[e0 v' hz,he];simp only[callMethod];simp;rw[this];simp
   .split at hg
    rotate_left
    .split at hg<;>try cases hfl hg
     rename_i f ty hm;have hag:oB P ty=some false:=by
      unfold yC at hm;split at hm<;>try contradiction
      split at hm<;>try contradiction
      split at hm<;>try contradiction
      rename_i hag;cases hm;exact hag
     obtain⟨ad,rfl⟩:=Cl hfl hg hvv;obtain⟨v2,v2',g1,g2,g3⟩:=nI hfl hag hg hvv hr;rw[jO]at g3;have hmm:=BK (P:=P) (w:=w) (ad:=ad) hm g3;refine wE.call (gI hfl hp fV (F2.cons g2 hargs) hr g1) ?_;rw[e0 _ hz,he];simp only[callMethod];simp;rw[hmm];simp
    rename_i f off ty hm;unfold aa at hg;split at hg<;>try cases hfl hg
    rename_i b ob;rw[bY]at hg;cases hvv with
    |ptr LW=>
     rename_i pl;have hag:oB P ty=some false:=by
      unfold yB at hm;split at hm<;>try contradiction
      split at hm<;>try contradiction
      split at hm<;>try contradiction
      split at hm<;>try contradiction
      split at hm<;>try contradiction
      split at hm<;>try contradiction
      rename_i hag _ _;cases hm;exact hag
     obtain⟨v2,v2',g1,g2,g3⟩:=nI hfl hag hg (VR.ptr LW) hr;rw[jO,show(⟨pl.B,ob.add off,none⟩:Addr)=(⟨pl.B,ob,none⟩:Addr).add off from(by simp[Addr.add])]at g3;have hmm:=(BJ (P:=P) (w:=w) (ad:=⟨pl.B,ob,none⟩) hm g3).2;refine wE.call (gI hfl hp fV (F2.cons g2 hargs) hr g1) ?_;rw[e0 _ hz,he];simp only[callMethod];simp;rw[hmm];simp
end Go.Vai

namespace Go.Vai
open Go
variable {β:Type}{fl:β}{good:β->Prop}{pr:mA β}{P:Program}{φ:eW}{h:af}{w:World}{t:TypeId}
theorem Fv(hfl:¬good fl)(hp:iB good pr P){rec:Rec β}(fV:mF good P rec){op:Op}{tm:T Value}{a:Act}(hρ:∀y∈op.operands.toList,VR φ (fZ tm y) (a.eval y))(hr:HR P φ h w){V:YYY β}(hg:good (qE fl pr P op rec tm h V)){o:Oper}(ho:o.op=op):wE good P φ h w V ((execOp a.eval o).run P w):=by
 unfold qE at hg;cases hR:qi fl P op with
 |some i=>
  rw[hR]at hg;obtain⟨v,v',g1,g2,g3⟩:=xI hfl hR hρ hr hg ho;exact .inl ⟨φ,v,v',h,w,.value v',g1,g2,hr,Ext.refl _ _ _,g3,.inl rfl⟩
 |none=>
  cases hA:sn fl P op with
  |some i=>
   simp only[hR,hA]at hg;obtain⟨ob,mk,O,g1,g2,g3,g4,g5⟩:=xK (P:=P) (w:=w) (good:=good) hfl hA hρ hg ho;obtain⟨k1,k2⟩:=dL hfl g1;obtain⟨m1,m2⟩:=hr.fresh k1 0 0 (g3 _) g2;exact .inl ⟨_,_,_,_,_,.value _,k2,g4 _ _ _ (fo _ _ _),m1,m2,g5,.inl rfl⟩
  |none=>
   cases hW:Cc fl P op with
   |some i=>
    simp only[hR,hA,hW]at hg;exact .inl (Ft hfl hW hρ hr hg ho)
   |none=>
    simp only[hR,hA,hW]at hg;cases op with
    |call c=>exact zq hfl hp fV hρ hr hg ho
    |next it s=>
     cases s with
     |true=>exact absurd hg hfl
     |false=>
      simp only[iy]at hg;obtain⟨v,v',h',w',g1,g2,g3,g4,g5⟩:=Fk (ty:=o.type) hfl hp.both hr hg (hρ it (by simp[Op.operands]));exact .inl ⟨φ,v,v',h',w',.value v',g1,g2,g3,g4,by simp only[execOp,ho];exact kg g5,.inl rfl⟩
    |_=>exact absurd hg hfl
theorem Fw(hfl:¬good fl){rec:Rec β}{op:Op}{tm:T Value}{V:YYY β}(hg:good (qE fl pr P op rec tm h V)):∀c,op≠.defer c:=by
 rintro c rfl;exact hfl hg
theorem Fx(hfl:¬good fl)(hp:iB good pr P){rec:Rec β}(fV:mF good P rec){o:Oper}{tm:T Value}{a:Act}(hρ:∀y∈o.op.operands.toList,VR φ (fZ tm y) (a.eval y))(hr:HR P φ h w){V:YYY β}(hg:good (qE fl pr P o.op rec tm h V)){next:Act->World->Prop}{Q:Exit->Act->World->Prop}{r0:Option Nat}(hn:∀φ' v v' h' w',good (V v h')->VR φ' v v'->HR P φ' h' w'->Ext φ φ' h h' w w'->next (a.put o.dst v') w'):o.wpIn (FR r0) 0 P a w next Q:=by
 refine⟨lZ,?_⟩;rw[Oper.semAt_eq _ _ _ (Fw hfl hg)];exact(Fv hfl hp fV hρ hr hg rfl).upon hn
theorem Cm{ops:Array Oper}{o:Oper}{g:Option (Nat × Bool)}(hg:guardOf ops.toList o=some g){tm:T Value}{a:Act}(ht:∀s w,g=some (s,w)->s∈dx ops.toList o->s<a.tmps.size/\VR φ (eo tm s) (a.tmps.getD s undef)):Region.wanted o (yielded ops a.tmps)=jt tm g:=by
 unfold guardOf at hg;unfold Region.wanted;split at hg
 .rename_i hgu;cases hg;rw[hgu];rfl
 .rename_i j w hgu;rw[hgu];split at hg<;>try contradiction
  rename_i d _ _ _ _ _ hq;cases hg;have hlk:d∈dx ops.toList o:=by
   simp[dx,hgu,Array.getElem?_toList]at hq ⊢;rw[hq];simp
  obtain⟨hlt,hr⟩:=ht d w rfl hlk;rw[Array.getElem?_toList]at hq;have Dn:=hq;obtain⟨v',xE⟩:∃v',a.tmps[d]? = some v':=⟨_,getElem?_pos a.tmps d hlt⟩
  rw[Array.getD_eq_getD_getElem?,xE,Option.getD_some]at hr;simp only[yielded,Dn,Option.bind_some,xE,jt];generalize eo tm d=v at hr;cases hr<;>cases w<;>first|rfl|(rename_i b;cases b<;>rfl)
theorem mG{ops:Array Oper}{nt:Nat}(hok:∀q∈ops.toList,fU nt q=true){o:Oper}(ho:o∈ops.toList){s:Nat}(hs:s∈dx ops.toList o):s<nt:=by
 simp only[dx,List.mem_append,List.mem_filterMap]at hs;rcases hs with⟨y,hy,hys⟩|hs
 .have:=tc (hok o ho) y hy;cases y<;>simp at hys;subst hys;exact dX this
 .split at hs
  .rename_i g w hg;cases hq:ops.toList[g]? with
   |none=>rw[hq]at hs;simp at hs
   |some q=>
    rw[hq]at hs;simp at hs;have:=dY (hok q (List.mem_of_getElem? hq));rw[hs]at this;exact dX this
  .cases hs
theorem ur(hfl:¬good fl)(hp:iB good pr P){rec:Rec β}(fV:mF good P rec){ops:Array Oper}{nt:Nat}(hok:∀q∈ops.toList,fU nt q=true){V:T Value->af->β}{r0:Option Nat}{Q:Exit->Act->World->Prop}{ds:List Deferred}{φ0:eW}{h0:af}{w0:World}{lR:T Value}(hQ:∀dy h' φ' a' w',good (V dy h')->TR φ' nt dy a'->HR P φ' h' w'->Ext φ0 φ' h0 h' w0 w'->a'.defers=ds->(∀t,t<nt->(∀(i:Nat)(o:Oper),ops[i]? = some o->o.dst≠some t)->eo dy t=eo lR t)->Q .normal a' w'):∀(os:List Oper)(i:Nat)(φ:eW)(tm:T Value)(h:af)(a:Act)(w:World),(∀k,os[k]? = ops[i+k]?)->TR φ nt tm a->HR P φ h w->Ext φ0 φ h0 h w0 w->a.defers=ds->(∀t,t<nt->(∀(i:Nat)(o:Oper),ops[i]? = some o->o.dst≠some t)->eo tm t=eo lR t)->
   good (pR fl pr P rec ops.toList os tm h V)->wpOpsIn (FR r0) 0 P ops Q (List.range' i os.length) a w:=by
 intro os
 induction os with
 |nil=>
  intro i φ tm h a w _ ht hr hx hd hkp hg;exact hQ tm h φ a w hg ht hr hx hd hkp
 |cons o os ih=>
  intro i φ tm h a w hos ht hr hx hd hkp hg;have ho:ops[i]? = some o:=by have:=hos 0;simpa using this.symm
  have agb:∀k,os[k]? = ops[i+1+k]?:=λk=>by have:=hos (k+1);rw[show i+1+k=i+(k+1)by omega];simpa using this
  have hmem:o∈ops.toList:=by
   have:ops.toList[i]? = some o:=by simpa using ho
   exact List.mem_of_getElem? this
  have hoo:=hok o hmem
  show wpOpsIn (FR r0) 0 P ops Q (i::List.range' (i+1) os.length) a w
  simp only[wpOpsIn,ho];have hg':good (XO.rec (motive:=λ_=>β)
   (λg d f=>Bool.rec (motive:=λ_=>β) (qs tm d undef h λtm h=>pR fl pr P rec ops.toList os tm h V)
    (f rec tm h λv h=>qs tm d v h λtm h=>pR fl pr P rec ops.toList os tm h V) (jt tm g))
   (Ce fl pr P ops.toList o)):=hg
  have put_defers:∀(d:Option Tmp)(v:Value),(a.put d v).defers=ds:=λd v=>by cases d<;>exact hd
  have kp:∀(v:Value)(t:Nat),t<nt->(∀(i:Nat)(o:Oper),ops[i]? = some o->o.dst≠some t)->eo (jV tm o.dst v) t=eo lR t:=λv t hlt hno=>by
   rw[iA ht.small (dY hoo) hlt,if_neg (hno i o ho)];exact hkp t hlt hno
  cases P7:guardOf ops.toList o with
  |none=>
   simp only[Ce,P7]at hg';exact absurd hg' hfl
  |some g=>
   simp only[Ce,P7]at hg';rw[Cm (φ:=φ) (tm:=tm) P7 λs w _ hs=>⟨by rw[ht.size];exact mG hok hmem hs,ht.rel s (mG hok hmem hs)⟩];cases hw:jt tm g with
   |false=>
    rw[hw]at hg';simp only[iz]at hg';rw[if_neg (by simp)];refine⟨lZ,?_⟩;exact ih (i+1) φ _ h _ w agb (ht.put (dY hoo) VR.undef) hr hx (put_defers _ _) (kp _) hg'
   |true=>
    rw[hw]at hg';simp only[iz]at hg';rw[if_pos rfl];refine Fx hfl hp fV (λy hy=>ht.eval (tc hoo y hy)) hr hg' ?_;intro φ' v v' h' w' g1 g2 g3 g4;exact ih (i+1) φ' _ h' _ w' agb ((ht.mono g4.sub).put (dY hoo) g2) g3 (hx.trans g4) (put_defers _ _) (kp _) g1
def J9(good:β->Prop)(fl:β)(pr:mA β)(P:Program):Prop:=
 ∀(rec:Rec β),mF good P rec->∀(ops:Array Oper)(id nt:Nat),(∀q∈ops.toList,fU nt q=true)->∀(φ:eW)(tm:T Value)(h:af)(a:Act)(w:World)(V:T Value->af->β),TR φ nt tm a->HR P φ h w->
  good (lX fl pr P rec ops.toList true tm h V)->∀(r0:Option Nat)(Q:Exit->Act->World->Prop),
   (∀dy h' φ' a' w',good (V dy h')->TR φ' nt dy a'->HR P φ' h' w'->Ext φ φ' h h' w w'->a'.defers=a.defers->(∀t,t<nt->(∀(i:Nat)(o:Oper),ops[i]? = some o->o.dst≠some t)->eo dy t=eo tm t)->Q .normal a' w')->(Code.region id ops true).wpIn (FR r0) 0 P Q a w
def lu(r:Option Nat)(P:Program)(c:Code)(Q:Exit->Act->World->Prop)(a:Act)(w:World):Prop:=
 ∀(b:Frame)(k:List Item)(cs:List Frame),b.roundOf=r->(FR r).room (cs.length+1+0)->
  ∃e a' w',Q e a' w'/\ArrivesIn (Machine.fenced P (FR r)) P (lone (b.atR a (.code c::.inLoop c::k)) cs w) b k cs e a' w'
variable {ro:Option Nat}
theorem lu.wp{c:Code}{Q:Exit->Act->World->Prop}{a:Act}{w:World}(h:lu ro P c Q a w):(Code.loop c).wpIn (FR ro) 0 P Q a w:=
 λb k cs hro hb hr=>let ⟨e,a',w',q,r⟩:=h b k cs hro hr;⟨e,a',w',q,.of_steps (.one (fenced_calm hb hr rfl) stepR_loop) r⟩
theorem lu.mono{c:Code}{Q Q':Exit->Act->World->Prop}{a:Act}{w:World}(h:lu ro P c Q a w)(hq:∀e a w,Q e a w->Q' e a w):lu ro P c Q' a w:=
 λb k cs hro hr=>let ⟨e,a',w',q,r⟩:=h b k cs hro hr;⟨e,a',w',hq _ _ _ q,r⟩
theorem lu.round{c:Code}{Q:Exit->Act->World->Prop}{a:Act}{w:World}(h:c.wpIn (FR ro) 0 P (Exit.then (lu ro P c Q) Q) a w):lu ro P c Q a w:=by
 intro b k cs hro hr;have hb:(FR ro).fn b.fn:=trivial;obtain⟨e,a₁,w₁,hq,sg⟩:=h b (.inLoop c::k) cs hro hb hr;cases e with
 |normal=>
  obtain⟨e₂,a₂,w₂,hq₂,agc⟩:=hq b k cs hro hr;exact⟨e₂,a₂,w₂,hq₂,.of_steps (StepsIn.trans sg (.one (fenced_calm hb hr rfl) stepR_inLoop)) agc⟩
 |exit id=>exact⟨_,a₁,w₁,hq,.pass (x:=.inLoop c) rfl (λ_ _=>.inl (by simp)) sg⟩
 |goto l=>exact⟨_,a₁,w₁,hq,.pass (x:=.inLoop c) rfl (λ_ _=>.inl (by simp)) sg⟩
 |ret=>exact⟨_,a₁,w₁,hq,.pass (x:=.inLoop c) rfl (λ_ _=>.inl (by simp)) sg⟩
 |panic ch=>exact⟨_,a₁,w₁,hq,.pass (x:=.inLoop c) rfl (λ_ _=>.inl (by simp)) sg⟩
 |outgrown=>exact⟨_,a₁,w₁,hq,.pass (x:=.inLoop c) rfl (λ_ _=>.inl (by simp)) sg⟩
theorem Post.after{nt:Nat}{φ1:eW}{h1:af}{w1:World}{a1:Act}{ds ms:List Deferred}{V:Ex->T Value->af->β}{e:Exit}{a2:Act}{w2:World}(hx:Ext φ φ1 h h1 w w1)(hd:a1.defers=ms++ds)(hm:Marks w.heap.size φ1 w1 w1.heap.size ms)(hp:Post good P nt φ1 h1 w1 a1.defers V e a2 w2):Post good P nt φ h w ds V e a2 w2:=by
 obtain⟨x,tm,h2,φ2,rfl,k1,k2,k3,k4,ms2,k5,k6⟩:=hp;refine⟨x,tm,h2,φ2,rfl,k1,k2,k3,hx.trans k4,ms2++ms,by rw[k5,hd,List.append_assoc],?_⟩;exact(hm.mono k4 (Nat.le_refl _)).append hx.size (Nat.le_refl _) k4.size k6
theorem Post.here{nt:Nat}{tm:T Value}{a:Act}{V:Ex->T Value->af->β}{x:Ex}(ht:TR φ nt tm a)(hr:HR P φ h w)(hg:good (V x tm h)):Post good P nt φ h w a.defers V (QH x) a w:=
 ⟨x,tm,h,φ,rfl,hg,ht,hr,Ext.refl _ _ _,[],rfl,trivial⟩
def rK(good:β->Prop)(P:Program)(rec:Rec β):Prop:=
 ∀(c:Code)(r:Option Nat)(tm:T Value)(h:af)(V:Ex->T Value->af->β)(φ:eW)(w:World)(nt:Nat)(a:Act),(r=none\/qD c=true)->codeOk nt c=true->TR φ nt tm a->HR P φ h w->good (rec (.loop c) tm h V)->
  lu r P c (Post good P nt φ h w a.defers V) a w
theorem qN{rec:Rec β}(fV:mF good P rec)(QK:rK good P rec):rK good P (body fl pr P rec):=by
 intro c r tm h V φ w nt a hn hc ht hr hg;have hg':good (rec c tm h (BB rec (.loop c) V)):=hg;refine lu.round (wpIn_mono (fV c r tm h _ φ w nt a hn hc ht hr hg') ?_);rintro e a' w' ⟨e0,dy,h',φ',rfl,g1,g2,g3,g4,ms,g5,g6⟩;cases e0 with
 |normal=>exact(QK c r dy h' V φ' w' nt a' hn hc g2 g3 g1).mono λe a2 w2 hp=>Post.after g4 g5 g6 hp
 |exit i=>exact⟨.exit i,dy,h',φ',rfl,g1,g2,g3,g4,ms,g5,g6⟩
 |ret=>exact⟨.ret,dy,h',φ',rfl,g1,g2,g3,g4,ms,g5,g6⟩
theorem yH{r:Option Nat}{x y z:Code}(hn:r=none\/qD z=true)(hz:qD z=(qD x && qD y)):(r=none\/qD x=true)/\(r=none\/qD y=true):=by
 rcases hn with hn|hn
 .exact⟨.inl hn,.inl hn⟩
 .rw[hz,Bool.and_eq_true]at hn;exact⟨.inr hn.1,.inr hn.2⟩
theorem jy{b:Frame}{a:Act}{k:List Item}{cs:List Frame}{w:World}{c:Code}:step P (lone (b.atR a (.code (.scope c)::k)) cs w)=.next (lone (b.atR a (.code c::.inScope c::k)) cs w):=
 step_lone_go (by simp[stepG,stepG.exec,Frame.atR])
theorem BL{b:Frame}{a:Act}{k:List Item}{cs:List Frame}{w:World}{c:Code}:step P (lone (b.atR a (.inScope c::k)) cs w)=.next (lone (b.atR a k) cs w):=
 step_lone_go (by simp[stepG,stepG.exec,Frame.atR])
theorem zu{F:Fence}{n:Nat}{c:Code}{Q:Exit->Act->World->Prop}{a:Act}{w:World}(h:c.wpIn F n P Q a w)(hg:∀l a w,¬Q (.goto l) a w):(Code.scope c).wpIn F n P Q a w:=by
 intro b k cs hro hb hr;have h0:(lone (b.atR a (.code (.scope c)::k)) cs w).fenced P F:=fenced_calm hb hr rfl;obtain⟨e,a₁,w₁,hq,sg⟩:=h b (.inScope c::k) cs hro hb hr;cases e with
 |normal=>exact⟨.normal,a₁,w₁,hq,.head h0 jy (StepsIn.trans sg (.one (fenced_calm hb hr rfl) BL))⟩
 |exit id=>
  have hx:exitTo id (.inScope c::k)=exitTo id k:=by simp[exitTo]
  exact⟨_,a₁,w₁,hq,λk' hk=>.head h0 jy (sg.1 k' (by rw[hx];exact hk)),
   λhr' hk=>let ⟨k₁,h1,h2⟩:=sg.2 hr' (by rw[hx];exact hk);⟨k₁,h1,.head h0 jy h2⟩⟩
 |goto l=>exact absurd hq (hg l a₁ w₁)
 |ret=>exact⟨_,a₁,w₁,hq,.of_steps (.one h0 jy) sg⟩
 |panic ch=>exact⟨_,a₁,w₁,hq,.of_steps (.one h0 jy) sg⟩
 |outgrown=>exact⟨_,a₁,w₁,hq,.of_steps (.one h0 jy) sg⟩
theorem wF(hfl:¬good fl)(hp:iB good pr P){rec:Rec β}(fV:mF good P rec){g:Operand}{ps:Array Tmp}{x y:Code}{nt:Nat}{tm:T Value}{a:Act}(hc:codeOk nt (.rangeFunc g ps x y)=true)(ht:TR φ nt tm a)(hr:HR P φ h w){V:Ex->T Value->af->β}(hg:good (jj fl pr P rec ps.toList x y tm h V (fZ tm g))):(Code.rangeFunc g ps x y).wpIn (FR none) 0 P (Post good P nt φ h w a.defers V) a w:=by
 simp only[codeOk,Bool.and_eq_true]at hc;obtain⟨⟨⟨⟨⟨hcg,hcp⟩,hca⟩,hcb⟩,hra⟩,hrb⟩:=hc;have hgv:=ht.eval hcg;unfold jj at hg;split at hg<;>try cases hfl hg
 rename_i f first cap hv
 obtain⟨hn,hg⟩:=dL hfl hg;rw[hv]at hgv;generalize hz:a.eval g=z at hgv;cases hgv with
 |func fn a1 a1' b1 b1' ha hb JK hvb=>
  refine wpIn_rangeFunc λfn0 _=>?_;have hx0:Ext φ φ h h w (w.alloc (.deferred (some []))):=by
   refine⟨Sub.refl φ,λb pl e e'=>(by rw[e]at e';cases e'),Nat.le_refl _,by simp,λB hB _=>eX hB,λ_ _ _=>rfl,rfl,rfl,rfl,λB hB=>?_,rfl,λ_ _=>rfl,λx o pl h1 h2 h3 h4 h5=>eX h5,Nat.le_refl _⟩;rcases Nat.lt_trichotomy B w.heap.size with hl|hl|hl
   .rw[eX hl];exact hB
   .subst hl;rw[n9];trivial
   .have:(w.alloc (.deferred (some []))).heap[B]? = none:=by show(w.heap.push _)[B]? = _;simp;omega
    rw[this];trivial
  have J_:HR P φ h (w.alloc (.deferred (some []))):=
   ⟨λb o pl h1 h2=>by rw[eX (hr.dom b pl h2).2];exact hr.obj b o pl h1 h2,λb pl h1=>⟨(hr.dom b pl h1).1,by have:=(hr.dom b pl h1).2;simp;omega⟩,hr.keys,hr.Qp,hr.inj,hr.lo⟩
  have NW:OR P φ (.loop .ready none tm ps.toList x y) ⟨(w.alloc (.deferred (some []))).heap.size,0,0⟩ (some (.loop { state:=.ready,pending:=none,fn:=fn0,tmps:=a.tmps,params:=ps,assign:=x,body:=y,defers:=w.heap.size })):=
   ⟨rfl,trivial,rfl,rfl,rfl,nt,⟨ht.small,hcp,hca,hcb,hra,hrb⟩,ht.size,ht.rel⟩
  obtain⟨Dv,hx1⟩:=J_.fresh hn 0 0 NW trivial;have agd:=hx0.trans hx1;have hl:(iU φ h.nx ⟨(w.alloc (.deferred (some []))).heap.size,0,0⟩) h.nx=some ⟨(w.alloc (.deferred (some []))).heap.size,0,0⟩:=fo _ _ _;have hmk:∀b pl,φ b=some pl->pl.B≠w.heap.size:=λb pl hb=>by have:=(hr.dom b pl hb).2;omega
  have hD0:(w.alloc (.deferred (some []))).heap[w.heap.size]? = some (.deferred (some [])):=n9;have hD1:=hx1.BC w.heap.size (by simp) hmk;have alC:=hx1.YK (D:=w.heap.size) (by simp) hmk;have hargs:=(((F2.toList ha JK).imp λ_ _ r=>r.mono hx1.sub).append (.cons (VR.yield hl) .nil)).append ((F2.toList hb hvb).imp λ_ _ r=>r.mono hx1.sub);have jx:=gI hfl hp fV hargs Dv hg
  have hM1:Marks w.heap.size (iU φ h.nx ⟨(w.alloc (.deferred (some []))).heap.size,0,0⟩) ((w.alloc (.deferred (some []))).alloc (.loop { state:=.ready,pending:=none,fn:=fn0,tmps:=a.tmps,params:=ps,assign:=x,body:=y,defers:=w.heap.size }))
    ((w.alloc (.deferred (some []))).alloc (.loop { state:=.ready,pending:=none,fn:=fn0,tmps:=a.tmps,params:=ps,assign:=x,body:=y,defers:=w.heap.size })).heap.size [{ target:=.collected w.heap.size,args:=#[] }]:=
   ⟨w.heap.size,rfl,Nat.le_refl _,by simp;omega,hD1.trans hD0,alC,trivial⟩
  have hsz:(w.alloc (.deferred (some []))).heap.size=w.heap.size+1:=by simp
  rw[hsz]at jx hl hx1 agd hM1;refine⟨w.heap.size+1,[{ target:=.collected w.heap.size,args:=#[] }],(w.alloc (.deferred (some []))).alloc (.loop { state:=.ready,pending:=none,fn:=fn0,tmps:=a.tmps,params:=ps,assign:=x,body:=y,defers:=w.heap.size }),
   { target:=.fn (.func f) b1',args:=a1'++#[.func (.yield (w.heap.size+1)) #[] #[]] },((w.alloc (.deferred (some []))).alloc (.loop { state:=.ready,pending:=none,fn:=fn0,tmps:=a.tmps,params:=ps,assign:=x,body:=y,defers:=w.heap.size })),f,_,((w.alloc (.deferred (some []))).alloc (.loop { state:=.ready,pending:=none,fn:=fn0,tmps:=a.tmps,params:=ps,assign:=x,body:=y,defers:=w.heap.size })),run_enterLoop_outer _ _ _ _ _,?_,λ_ _=>trivial,?_,λhh=>(by cases hh),yG.2 (Calls.mono jx.2 ?_)⟩
  .have alD:∀v,a.eval (.const v)=v:=λ_=>rfl;simp[resolve,hz,Deferred.ofValue,alD]
  .have:=jx.1;have he:(a1'.toList++[Value.func (.yield (w.heap.size+1)) #[] #[]]++b1'.toList).toArray=a1'++#[.func (.yield (w.heap.size+1)) #[] #[]]++b1':=by apply Array.ext';simp
   rw[he]at this ⊢;simpa[invoke]using this
  .rintro e w2 ⟨φ2,v,v',h2,rfl,g1,g2,g3,g4⟩;unfold kf at g1;split at g1<;>try exact absurd g1 hfl
   rename_i st mj tm2 ps2 x2 y2 hb2;have hp2:=g4.sub _ _ hl;obtain⟨r2,hO2,q1,q2,q3,q4,q5,q6⟩:=g3.zp hb2 hp2;split at g1
   .exact absurd g1 hfl
   rename_i hst;obtain⟨QL,g1⟩:=bH hfl g1;obtain⟨n1,n2⟩:=g3.uq (st':=.exhausted) (xL:=mj) QL hb2 hp2 hO2 (pd:=r2.pending) q2;have hend:=run_endLoop (P:=P) hO2 (by rw[q1];exact hst);have agf:=g4.trans n2;have hM2:=hM1.mono agf (Nat.le_refl _);have zw:=agd.trans agf;have htt:TR φ2 nt tm { a with defers:=[{ target:=.collected w.heap.size,args:=#[] }]++a.defers }:=⟨ht.size,ht.small,λt hlt=>(ht.rel t hlt).mono zw.sub⟩
   have UZ:=hM2.le (U':=(w2.putObj (w.heap.size+1) (.loop { r2 with state:=.exhausted,pending:=r2.pending })).heap.size) (by have:=g4.size;simp at this ⊢;omega);refine⟨r2.pending,_,hend,?_⟩;cases mj with
   |none=>
    have hpd:r2.pending=none:=by
     cases hq:r2.pending with
     |none=>rfl
     |some c=>rw[hq]at q2;exact q2.elim
    rw[hpd]at n1 zw UZ ⊢;exact⟨.normal,tm,_,φ2,rfl,g1,htt,n1,zw,_,rfl,UZ⟩
   |some ex=>
    rcases Ci.jump q2 with⟨rfl,hpd⟩|⟨i,rfl,hpd⟩
    .rw[hpd]at n1 zw UZ ⊢;exact wpIn_ret ⟨.ret,tm,_,φ2,rfl,g1,htt,n1,zw,_,rfl,UZ⟩
    .rw[hpd]at n1 zw UZ ⊢;exact wpIn_exit ⟨.exit i,tm,_,φ2,rfl,g1,htt,n1,zw,_,rfl,UZ⟩
theorem Ka(hfl:¬good fl)(hp:iB good pr P)(LU:J9 good fl pr P){rec:Rec β}(fV:mF good P rec)(QK:rK good P rec):mF good P (body fl pr P rec):=by
 intro c r tm h V φ w nt a hn hc ht hr hg;cases c with
 |skip=>exact wpIn_skip (Post.here (x:=.normal) ht hr hg)
 |label l=>exact wpIn_label (Post.here (x:=.normal) ht hr hg)
 |ret=>exact wpIn_ret (Post.here (x:=.ret) ht hr hg)
 |exit id=>exact wpIn_exit (Post.here (x:=.exit id) ht hr hg)
 |region id os draw=>
  have hok:∀q∈os.toList,fU nt q=true:=by
   simp only[codeOk,List.all_eq_true]at hc;exact hc
  have hQ:∀dy h' φ' a' w',good ((λtm h=>V .normal tm h) dy h')->TR φ' nt dy a'->HR P φ' h' w'->Ext φ φ' h h' w w'->a'.defers=a.defers->Post good P nt φ h w a.defers V .normal a' w':=
   λdy h' φ' a' w' g1 g2 g3 g4 g5=>⟨.normal,dy,h',φ',rfl,g1,g2,g3,g4,[],g5,trivial⟩
  cases draw with
  |false=>
   refine wpIn_region ?_;rw[List.range_eq_range'];have:=ur (r0:=r) (lR:=tm) hfl hp fV hok (λdy h' φ' a' w' g1 g2 g3 g4 g5 _=>hQ dy h' φ' a' w' g1 g2 g3 g4 g5) os.toList 0 φ tm h a w (λk=>by simp) ht hr (Ext.refl _ _ _) rfl (λ_ _ _=>rfl) hg;simpa using this
  |true=>exact LU rec fV os id nt hok φ tm h a w _ ht hr hg r _ λdy h' φ' a' w' g1 g2 g3 g4 g5 _=>hQ dy h' φ' a' w' g1 g2 g3 g4 g5
 |seq x y=>
  simp only[codeOk,Bool.and_eq_true]at hc;obtain⟨ye,hn2⟩:=yH (x:=x) (y:=y) hn rfl;have hg':good (rec x tm h (BB rec y V)):=hg;refine wpIn_seq (wpIn_mono (fV x r tm h _ φ w nt a ye hc.1 ht hr hg') ?_);rintro e a' w' ⟨e0,dy,h',φ',rfl,g1,g2,g3,g4,ms,g5,g6⟩;cases e0 with
  |normal=>exact wpIn_mono (fV y r dy h' V φ' w' nt a' hn2 hc.2 g2 g3 g1) λe a2 w2 hp=>Post.after g4 g5 g6 hp
  |exit i=>exact⟨.exit i,dy,h',φ',rfl,g1,g2,g3,g4,ms,g5,g6⟩
  |ret=>exact⟨.ret,dy,h',φ',rfl,g1,g2,g3,g4,ms,g5,g6⟩
 |cond x c1 c2=>
  simp only[codeOk,Bool.and_eq_true]at hc;obtain⟨ye,hn2⟩:=yH (x:=c1) (y:=c2) hn rfl;have hg':good (ev tm x (zc fl rec c1 c2 tm h V)):=hg;rw[iy]at hg';have hx:=ht.eval hc.1.1;unfold zc at hg';split at hg'<;>try exact absurd hg' hfl
  .rename_i hv;rw[hv]at hx;refine wpIn_cond_true (by generalize a.eval x=z at hx;cases hx;rfl) (fV c1 r tm h V φ w nt a ye hc.1.2 ht hr hg')
  .rename_i hv;rw[hv]at hx;refine wpIn_cond_false (by generalize a.eval x=z at hx;cases hx;rfl) (fV c2 r tm h V φ w nt a hn2 hc.2 ht hr hg')
 |block id c=>
  have hg':good (rec c tm h (qF id V)):=hg;refine wpIn_block (wpIn_mono (fV c r tm h _ φ w nt a hn hc ht hr hg') ?_);rintro e a' w' ⟨e0,dy,h',φ',rfl,g1,g2,g3,g4,ms,g5,g6⟩;cases e0 with
  |normal=>exact⟨.normal,dy,h',φ',rfl,g1,g2,g3,g4,ms,g5,g6⟩
  |ret=>exact⟨.ret,dy,h',φ',rfl,g1,g2,g3,g4,ms,g5,g6⟩
  |exit i=>
   simp only[qF]at g1;simp only[QH,Exit.inBlock];split at g1
   .rename_i hb;have hb:=cD hb;rw[if_pos hb];exact⟨.normal,dy,h',φ',rfl,g1,g2,g3,g4,ms,g5,g6⟩
   .rename_i hb;have hb:=oJ hb;rw[if_neg hb];exact⟨.exit i,dy,h',φ',rfl,g1,g2,g3,g4,ms,g5,g6⟩
 |scope c=>
  refine zu (fV c r tm h V φ w nt a hn hc ht hr hg) ?_;rintro l a' w' ⟨x,dy,h',φ',hx,_⟩;cases x<;>cases hx
 |loop c=>
  exact(qN (fl:=fl) (pr:=pr) fV QK c r tm h V φ w nt a hn hc ht hr hg).wp
 |rangeFunc g ps x y=>
  have hg':good (ev tm g (jj fl pr P rec ps.toList x y tm h V)):=hg;rw[iy]at hg';rcases hn with rfl|hn
  .exact wF hfl hp fV hc ht hr hg'
  .cases hn
 |_=>exact absurd hg hfl
theorem Cn(hfl:¬good fl)(hp:iB good pr P)(LU:J9 good fl pr P):∀n,mF good P (run fl pr P n)/\rK good P (run fl pr P n):=by
 intro n
 induction n with
 |zero=>exact⟨λc r tm h V φ w nt a _ _ _ _ hg=>absurd hg hfl,λc r tm h V φ w nt a _ _ _ _ hg=>absurd hg hfl⟩
 |succ n ih=>exact⟨Ka hfl hp LU ih.1 ih.2,qN ih.1 ih.2⟩
end Go.Vai

namespace Go.Vai
open Go
variable {β:Type}{fl:β}{good:β->Prop}{pr:mA β}{P:Program}{φ:eW}{h h':af}{w:World}{t:TypeId}
def XI.opsL:XI β->List Operand
 | .k0 _=>[]
 | .k1 x _=>[x]
 | .k2 x y _=>[x,y]
 | .k3 x y z _=>[x,y,z]
 | .kn xs _=>xs
def XA.opsL:XA β->List Operand
 | .k0 _=>[]
 | .k1 x _=>[x]
 | .k2 x y _=>[x,y]
 | .kn xs _=>xs
theorem XI.congr{i:XI β}{tm dy:T Value}(he:∀y∈i.opsL,fZ dy y=fZ tm y)(h:af)(V:YYY β):i.run dy h V=i.run tm h V:=by
 cases i with
 |k0 f=>rfl
 |k1 x f=>rw[XI.cF,XI.cF,he x (by simp[XI.opsL])]
 |k2 x y f=>rw[XI.dM,XI.dM,he x (by simp[XI.opsL]),he y (by simp[XI.opsL])]
 |k3 x y z f=>rw[XI.qH,XI.qH,he x (by simp[XI.opsL]),he y (by simp[XI.opsL]),he z (by simp[XI.opsL])]
 |kn xs f=>
  have:xs.map (fZ dy)=xs.map (fZ tm):=List.map_congr_left he;rw[XI.iX,XI.iX,this]
theorem XA.congr{i:XA β}{tm dy:T Value}(he:∀y∈i.opsL,fZ dy y=fZ tm y)(V:bO->(Nat->Value)->β):i.run dy V=i.run tm V:=by
 cases i with
 |k0 f=>rfl
 |k1 x f=>rw[XA.cF,XA.cF,he x (by simp[XA.opsL])]
 |k2 x y f=>rw[XA.dM,XA.dM,he x (by simp[XA.opsL]),he y (by simp[XA.opsL])]
 |kn xs f=>
  have:xs.map (fZ dy)=xs.map (fZ tm):=List.map_congr_left he;rw[XA.iX,XA.iX,this]
theorem wG{op:Op}{x:XI β}(hc:qi fl P op=some x):∀y∈x.opsL,y∈op.operands.toList:=by
 cases op<;>simp only[qi]at hc<;>(repeat' split at hc)<;>(try contradiction)<;>cases hc<;>
  simp_all [XI.opsL,Op.operands,Call.operands,qB]
theorem Co{op:Op}{x:XA β}(hc:sn fl P op=some x):∀y∈x.opsL,y∈op.operands.toList:=by
 cases op<;>simp only[sn]at hc<;>(repeat' split at hc)<;>(try contradiction)<;>cases hc<;>
  simp_all [XA.opsL,Op.operands]
def BM(h h':af):Prop:=∀b o,h.bl.get b=some o->h'.bl.get b=some o
theorem zx(hm:BM h h'){b:Nat}(hl:y3 h b=true):y3 h' b=true:=by
 unfold y3 at *
 split at hl<;>try contradiction
 rename_i hb;rw[hm _ _ hb]
theorem NZ{rec agh:TypeId->Value->Value->Option Bool}(fV:∀t x y r,rec t x y=some r->agh t x y=some r):∀(fs:List Field)(xs ys:List Value)(r:Bool),
  Bz P rec fs xs ys=some r->Bz P agh fs xs ys=some r:=by
 intro fs
 induction fs with
 |nil=>intro xs ys r h;exact h
 |cons f fs ih=>
  intro xs ys r h;unfold Bz at h ⊢;split at h<;>try contradiction
  rename_i hf;split at h<;>try contradiction
  .rename_i s h1 h2;split at h
   .rename_i e;simp only[fV _ _ _ _ e];exact ih _ _ _ h
   .rename_i r' hr';rw[fV _ _ _ _ h];cases r with
    |true=>exact absurd h (by simpa using hr')
    |false=>rfl
  .rename_i s h1 h2;split at h<;>try contradiction
   rename_i x y hx hy;split at h
   .rename_i e;simp only[fV _ _ _ _ e];exact ih _ _ _ h
   .rename_i r' hr';rw[fV _ _ _ _ h];cases r with
    |true=>exact absurd h (by simpa using hr')
    |false=>rfl
theorem zy(hm:BM h h'):∀(d:Nat)(t:TypeId)(x y:Value)(r:Bool),nk P h d t x y=some r->nk P h' d t x y=some r:=by
 intro d
 induction d with
 |zero=>intro t x y r h;exact h
 |succ d ih=>
  intro t x y r hh;unfold nk at hh ⊢;split at hh<;>try contradiction
  all_goals try exact hh
  .split at hh<;>try contradiction
   split at hh<;>try contradiction
   rename_i l1 l2;simp only[zx hm l1,zx hm l2];exact hh
  .split at hh<;>try contradiction
   exact NZ ih _ _ _ _ hh
theorem zz(hm:BM h h'){kt:TypeId}{k:Value}:∀(es:List MapEntry)(i:Nat) (r:Option (Nat × MapEntry)),gH P h kt k es i=some r->gH P h' kt k es i=some r:=by
 intro es
 induction es with
 |nil=>intro i r h;exact h
 |cons e es ih=>
  intro i r hh;unfold gH at hh ⊢;split at hh<;>try contradiction
  .rename_i he;simp only[zy hm _ _ _ _ _ he];exact hh
  .rename_i he;simp only[zy hm _ _ _ _ _ he];exact ih _ _ hh
theorem Dy(hm:BM h h'){e:TypeId}{b n:Nat}(hk:iu h e b=some n):iu h' e b=some n:=by
 unfold iu at *
 split at hk<;>try contradiction
 .rename_i hb;rw[hm _ _ hb];exact hk
 .rename_i hb;rw[hm _ _ hb];exact hk
theorem Kb{op:Op}{x:YA}(hc:qi none P op=some x)(hm:BM h h'){tm:T Value}{v:Value}(hr:lF x tm h=some v):lF x tm h'=some v:=by
 unfold lF at *
 cases op<;>simp only[qi]at hc<;>try (cases hc;done)
 case load t a=>
  split at hc<;>try contradiction
  .cases hc;rw[XI.cF]at hr ⊢;unfold aO at hr ⊢;split at hr<;>try contradiction
   split at hr<;>try contradiction
   .rename_i hb;simp only[hm _ _ hb];exact hr
   .rename_i hb;simp only[hm _ _ hb];exact hr
  .cases hc;rw[XI.cF]at hr ⊢;unfold ay at hr ⊢;split at hr<;>try contradiction
   split at hr<;>try contradiction
   .rename_i hb;simp only[hm _ _ hb];exact hr
   .rename_i hb;simp only[hm _ _ hb];exact hr
 case binOp op t x y t2=>
  cases hc;rw[XI.dM]at hr ⊢;have hq:∀t a b r,nk P h 100 t a b=some r->nk P h' 100 t a b=some r:=zy hm 100;unfold aI at hr ⊢;split at hr<;>try contradiction
  .exact hr
  .exact hr
  .split at hr<;>try contradiction
   .split at hr<;>try contradiction
    rename_i he;simp only[hq _ _ _ _ he];exact hr
   .split at hr<;>try contradiction
    rename_i he;simp only[hq _ _ _ _ he];exact hr
  .split at hr<;>try contradiction
   .split at hr<;>try contradiction
    rename_i he;simp only[hq _ _ _ _ he];exact hr
   .split at hr<;>try contradiction
    rename_i he;simp only[hq _ _ _ _ he];exact hr
 case slice t x lo hi mx=>
  split at hc<;>try contradiction
  .split at hc<;>try contradiction
   cases hc;rw[XI.iX]at hr ⊢;split at hr<;>try contradiction
   split at hr<;>try contradiction
   unfold sliceB at hr ⊢;split at hr<;>try contradiction
   .exact hr
   .split at hr<;>try contradiction
    .exact hr
    .split at hr<;>try contradiction
     .exact hr
     .split at hr<;>try contradiction
      rename_i hk _;simp only[Dy hm hk];exact hr
  .cases hc;rw[XI.iX]at hr ⊢;exact hr
 case lookup t x i ok=>
  split at hc<;>try contradiction
  split at hc<;>try contradiction
  split at hc<;>try contradiction
  cases hc;rw[XI.dM]at hr ⊢;unfold dw jJ at hr ⊢;split at hr<;>try contradiction
  split at hr<;>try contradiction
  .exact hr
  .split at hr<;>try contradiction
   rename_i hb;simp only[hm _ _ hb];split at hr<;>try contradiction
   .rename_i hf;simp only[zz hm _ _ _ hf];exact hr
   .rename_i hf;simp only[zz hm _ _ _ hf];exact hr
 case call c=>
  split at hc<;>try contradiction
  .split at hc<;>try contradiction
   split at hc<;>try contradiction
   .cases hc;exact hr
   .cases hc;exact hr
   .cases hc;rw[XI.cF]at hr ⊢;unfold pO at hr ⊢;split at hr<;>try contradiction
    .exact hr
    .split at hr<;>try contradiction
     rename_i hb;simp only[hm _ _ hb];exact hr
  .split at hc<;>try contradiction
   cases hc;rw[XI.dM]at hr ⊢;unfold Qh at hr ⊢;split at hr<;>try contradiction
   split at hr<;>exact hr
  .split at hc<;>try contradiction
   cases hc;rw[XI.dM]at hr ⊢;unfold C_ at hr ⊢;split at hr<;>try contradiction
   split at hr<;>exact hr
 all_goals ((repeat' split at hc)<;>(try contradiction)<;>cases hc<;>exact hr)
end Go.Vai
