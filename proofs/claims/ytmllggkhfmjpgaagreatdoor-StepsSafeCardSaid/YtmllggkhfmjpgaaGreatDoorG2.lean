/-
  PROVED HERE: a part of the proof (VaiS14, VaiS15, VaiS16, VaiS17, VaiS18, VaiK, VaiW, VaiW2, VaiL, VaiM, VaiN, VaiZ, VaiO, VaiQ, VaiT, VaiU, VaiV).
-/
import Derived.Test.YtmllggkhfmjpgaaGreatDoorG1
import Derived.RowKit3
import Derived.ChangeSame
import Derived.Below
import Derived.Deep.Slices
import Derived.Carry
import Derived.ProofKit
set_option linter.unusedVariables false
set_option linter.unusedSimpArgs false
noncomputable section
namespace Go.Vai
open Go
variable {β:Type}{fl:β}{good:β->Prop}{pr:ku β}{P:Program}{φ:ej}{h h':ah}{w:World}{t:TypeId}
def XI.opsL:XI β->List Operand
 | .k0 _=>[]
 | .k1 x _=>[x]
 | .k2 x y _=>[x,y]
 | .k3 x y z _=>[x,y,z]
 | .kn xs _=>xs
def XA.opsL:XA β->List Operand
 | .k0 _=>[]
 | .k1 x _=>[x]
 | .k2 x y _=>[x,y]
 | .kn xs _=>xs
theorem XI.congr{i:XI β}{tm cN:T Value}(he:∀y∈i.opsL,fQ cN y=fQ tm y)(h:ah)(Y:XW β):i.run cN h Y=i.run tm h Y:=by
 cases i with
 |k0 f=>rfl
 |k1 x f=>rw[XI.cT,XI.cT,he x (by simp[XI.opsL])]
 |k2 x y f=>rw[XI.dN,XI.dN,he x (by simp[XI.opsL]),he y (by simp[XI.opsL])]
 |k3 x y z f=>rw[XI.qB,XI.qB,he x (by simp[XI.opsL]),he y (by simp[XI.opsL]),he z (by simp[XI.opsL])]
 |kn xs f=>
  have:xs.map (fQ cN)=xs.map (fQ tm):=List.map_congr_left he;rw[XI.i_,XI.i_,this]
theorem XA.congr{i:XA β}{tm cN:T Value}(he:∀y∈i.opsL,fQ cN y=fQ tm y)(Y:bT->(Nat->Value)->β):i.run cN Y=i.run tm Y:=by
 cases i with
 |k0 f=>rfl
 |k1 x f=>rw[XA.cT,XA.cT,he x (by simp[XA.opsL])]
 |k2 x y f=>rw[XA.dN,XA.dN,he x (by simp[XA.opsL]),he y (by simp[XA.opsL])]
 |kn xs f=>
  have:xs.map (fQ cN)=xs.map (fQ tm):=List.map_congr_left he;rw[XA.i_,XA.i_,this]
theorem vg{op:Op}{x:XI β}(hc:pU fl P op=some x):∀y∈x.opsL,y∈op.operands.toList:=by
 cases op<;>simp only[pU]at hc<;>(repeat' split at hc)<;>(try contradiction)<;>cases hc<;>
  simp_all [XI.opsL,Op.operands,Call.operands,qt]
theorem Bp{op:Op}{x:XA β}(hc:sH fl P op=some x):∀y∈x.opsL,y∈op.operands.toList:=by
 cases op<;>simp only[sH]at hc<;>(repeat' split at hc)<;>(try contradiction)<;>cases hc<;>
  simp_all [XA.opsL,Op.operands]
def AO(h h':ah):Prop:=∀b o,h.bl.get b=some o->h'.bl.get b=some o
theorem yj(hm:AO h h'){b:Nat}(hl:xM h b=true):xM h' b=true:=by
 unfold xM at *
 split at hl<;>try contradiction
 rename_i hb;rw[hm _ _ hb]
theorem Mx{rec acL:TypeId->Value->Value->Option Bool}(fJ:∀t x y r,rec t x y=some r->acL t x y=some r):∀(fs:List Field)(xs ys:List Value)(r:Bool),
  Az P rec fs xs ys=some r->Az P acL fs xs ys=some r:=by
 intro fs
 induction fs with
 |nil=>intro xs ys r h;exact h
 |cons f fs ih=>
  intro xs ys r h;unfold Az at h ⊢;split at h<;>try contradiction
  rename_i hf;split at h<;>try contradiction
  .rename_i s h1 h2;split at h
   .rename_i e;simp only[fJ _ _ _ _ e];exact ih _ _ _ h
   .rename_i r' hr';rw[fJ _ _ _ _ h];cases r with
    |true=>exact absurd h (by simpa using hr')
    |false=>rfl
  .rename_i s h1 h2;split at h<;>try contradiction
   rename_i x y hx hy;split at h
   .rename_i e;simp only[fJ _ _ _ _ e];exact ih _ _ _ h
   .rename_i r' hr';rw[fJ _ _ _ _ h];cases r with
    |true=>exact absurd h (by simpa using hr')
    |false=>rfl
theorem yl(hm:AO h h'):∀(d:Nat)(t:TypeId)(x y:Value)(r:Bool),nH P h d t x y=some r->nH P h' d t x y=some r:=by
 intro d
 induction d with
 |zero=>intro t x y r h;exact h
 |succ d ih=>
  intro t x y r hh;unfold nH at hh ⊢;split at hh<;>try contradiction
  all_goals try exact hh
  .split at hh<;>try contradiction
   split at hh<;>try contradiction
   rename_i l1 l2;simp only[yj hm l1,yj hm l2];exact hh
  .split at hh<;>try contradiction
   exact Mx ih _ _ _ _ hh
theorem ym(hm:AO h h'){kt:TypeId}{k:Value}:∀(es:List MapEntry)(i:Nat) (r:Option (Nat × MapEntry)),fN P h kt k es i=some r->fN P h' kt k es i=some r:=by
 intro es
 induction es with
 |nil=>intro i r h;exact h
 |cons e es ih=>
  intro i r hh;unfold fN at hh ⊢;split at hh<;>try contradiction
  .rename_i he;simp only[yl hm _ _ _ _ _ he];exact hh
  .rename_i he;simp only[yl hm _ _ _ _ _ he];exact ih _ _ hh
theorem CB(hm:AO h h'){e:TypeId}{b n:Nat}(hk:jj h e b=some n):jj h' e b=some n:=by
 unfold jj at *
 split at hk<;>try contradiction
 .rename_i hb;rw[hm _ _ hb];exact hk
 .rename_i hb;rw[hm _ _ hb];exact hk
theorem IU{op:Op}{x:Vv}(hc:pU none P op=some x)(hm:AO h h'){tm:T Value}{v:Value}(hr:kY x tm h=some v):kY x tm h'=some v:=by
 unfold kY at *
 cases op<;>simp only[pU]at hc<;>try (cases hc;done)
 case load t a=>
  split at hc<;>try contradiction
  .cases hc;rw[XI.cT]at hr ⊢;unfold aN at hr ⊢;split at hr<;>try contradiction
   split at hr<;>try contradiction
   .rename_i hb;simp only[hm _ _ hb];exact hr
   .rename_i hb;simp only[hm _ _ hb];exact hr
  .cases hc;rw[XI.cT]at hr ⊢;unfold ax at hr ⊢;split at hr<;>try contradiction
   split at hr<;>try contradiction
   .rename_i hb;simp only[hm _ _ hb];exact hr
   .rename_i hb;simp only[hm _ _ hb];exact hr
 case binOp op t x y t2=>
  cases hc;rw[XI.dN]at hr ⊢;have hq:∀t a b r,nH P h 100 t a b=some r->nH P h' 100 t a b=some r:=yl hm 100;unfold aG at hr ⊢;split at hr<;>try contradiction
  .exact hr
  .exact hr
  .split at hr<;>try contradiction
   .split at hr<;>try contradiction
    rename_i he;simp only[hq _ _ _ _ he];exact hr
   .split at hr<;>try contradiction
    rename_i he;simp only[hq _ _ _ _ he];exact hr
  .split at hr<;>try contradiction
   .split at hr<;>try contradiction
    rename_i he;simp only[hq _ _ _ _ he];exact hr
   .split at hr<;>try contradiction
    rename_i he;simp only[hq _ _ _ _ he];exact hr
 case slice t x lo hi mx=>
  split at hc<;>try contradiction
  .split at hc<;>try contradiction
   cases hc;rw[XI.i_]at hr ⊢;split at hr<;>try contradiction
   split at hr<;>try contradiction
   unfold sliceB at hr ⊢;split at hr<;>try contradiction
   .exact hr
   .split at hr<;>try contradiction
    .exact hr
    .split at hr
     .split at hr<;>try contradiction
      .exact hr
      .split at hr<;>try contradiction
       exact hr
     .split at hr<;>try contradiction
      rename_i hk _;simp only[CB hm hk];exact hr
  .cases hc;rw[XI.i_]at hr ⊢;exact hr
 case lookup t x i ok=>
  split at hc<;>try contradiction
  split at hc<;>try contradiction
  split at hc<;>try contradiction
  cases hc;rw[XI.dN]at hr ⊢;unfold ct jF at hr ⊢;split at hr<;>try contradiction
  split at hr<;>try contradiction
  .exact hr
  .split at hr<;>try contradiction
   rename_i hb;simp only[hm _ _ hb];split at hr<;>try contradiction
   .rename_i hf;simp only[ym hm _ _ _ hf];exact hr
   .rename_i hf;simp only[ym hm _ _ _ hf];exact hr
 case call c=>
  split at hc<;>try contradiction
  .split at hc<;>try contradiction
   split at hc<;>try contradiction
   .cases hc;exact hr
   .cases hc;exact hr
   .cases hc;rw[XI.cT]at hr ⊢;unfold lR at hr ⊢;split at hr<;>try contradiction
    .exact hr
    .split at hr<;>try contradiction
     rename_i hb;simp only[hm _ _ hb];exact hr
  .split at hc<;>try contradiction
   cases hc;rw[XI.dN]at hr ⊢;unfold DP at hr ⊢;split at hr<;>try contradiction
   split at hr<;>exact hr
  .split at hc<;>try contradiction
   cases hc;rw[XI.dN]at hr ⊢;unfold Oi at hr ⊢;split at hr<;>try contradiction
   split at hr<;>exact hr
 all_goals ((repeat' split at hc)<;>(try contradiction)<;>cases hc<;>exact hr)
end Go.Vai

namespace Go.Vai
open Go
variable {β:Type}{fl:β}{good:β->Prop}{pr:ku β}{P:Program}{φ:ej}{h h':ah}{w:World}{t:TypeId}
theorem Eh:∀(os:List Oper)(n k:Nat)(q:Oper),os[k]? = some q->(n+k,q)∈fR os n:=by
 intro os
 induction os with
 |nil=>intro n k q h;simp at h
 |cons o os ih=>
  intro n k q h;cases k with
  |zero=>simp at h;subst h;exact List.mem_cons_self
  |succ k=>
   simp at h;have:=ih (n+1) k q h;rw[show n+(k+1)=n+1+k by omega];exact List.mem_cons_of_mem _ this
theorem dP(D i k:Nat):bit (fW D i) k=(bit D k || decide (i=k)):=by
 show Nat.testBit (D ||| 2 ^ i) k=_
 rw[Nat.testBit_or,Nat.testBit_two_pow];rfl
theorem Xn(D M k:Nat):bit (Nat.lor D M) k=(bit D k || bit M k):=Nat.testBit_or ..
theorem Ei(k:Nat):bit 0 k=false:=Nat.zero_testBit k
theorem qJ{op:Op}{x:Vv}(h:iW P op=.rd x):pU none P op=some x:=by
 unfold iW at h;split at h<;>try contradiction
 split at h
 .rename_i e;cases h;exact e
 .split at h<;>contradiction
theorem yo{op:Op}{x:OXA}(h:iW P op=.al x):sH none P op=some x:=by
 unfold iW at h;split at h<;>try contradiction
 split at h<;>try contradiction
 split at h<;>try contradiction
 rename_i e;cases h;exact e
structure Stat(P:Program)(ops:Array Oper)(i:Nat)(o:Oper):Prop where
 k1:∀j q,ops[j]? = some q->g_ P q=false->∀t∈dD ops.toList o,q.dst=some t->j∈de o
 k2:g_ P o=false->∀j q,ops[j]? = some q->j≠i->g_ P q=false->∀d,o.dst=some d->q.dst≠some d
theorem Ej{ops:Array Oper}{j:Nat}{q:Oper}(h:ops[j]? = some q):(j,q)∈fR ops.toList 0:=by
 have:=Eh ops.toList 0 j q (by rw[Array.getElem?_toList];exact h);simpa using this
theorem vh{o:Oper}{t:Nat}:Bd o t=true<->o.dst=some t:=by
 unfold Bd;cases o.dst with
 |none=>simp
 |some d=>simp
theorem s8{ops:Array Oper}{D M i:Nat}{o:Oper}(h:SY P ops.toList (fR ops.toList 0) D M i o=true):bit D i=false/\(∀e∈de o,bit D e=true)/\(∃g,guardOf ops.toList o=some g)/\Stat P ops i o/\
  (g_ P o=true->(∀k q,ops[k]? = some q->k≠i->bit D k=false->qA D q=false)/\
   ∀k q,ops[k]? = some q->bit D k=true->g_ P q=false->bit M k=false->∀d,o.dst=some d->q.dst≠some d/\d∉dD ops.toList q):=by
 unfold SY at h;simp only[Bool.and_eq_true]at h;obtain⟨⟨⟨⟨h1,h2⟩,h3⟩,h4⟩,h5⟩:=h;simp only[List.all_eq_true]at h4;refine⟨by simpa using h1,?_,Option.isSome_iff_exists.mp h3,⟨?_,?_⟩,?_⟩
 .simpa[qA,List.all_eq_true]using h2
 .intro j q hq hw t ht hd;have:=h4 _ (Ej hq);simp only[Bool.or_eq_true]at this;rcases this with(this|this)|this
  .rw[hw]at this;cases this
  .have hx:(dD ops.toList o).any (Bd q)=true:=List.any_eq_true.mpr ⟨t,ht,vh.mpr hd⟩;rw[hx]at this;cases this
  .simpa using this
 .intro hw j q hq hji OL d hd hqd;rw[hw]at h5;simp only[List.all_eq_true]at h5;have:=h5 _ (Ej hq);simp only[Bool.or_eq_true]at this;rcases this with(this|this)|this
  .exact hji (by simpa using this)
  .rw[OL]at this;cases this
  .rw[hd]at this;simp[vh.mpr hqd]at this
 .intro hw;rw[hw]at h5;simp only[Bool.and_eq_true,List.all_eq_true]at h5;refine⟨?_,?_⟩
  .intro k q hq hki hk;have:=h5.1 _ (Ej hq);simp only[Bool.or_eq_true]at this;rcases this with(this|this)|this
   .exact absurd (by simpa using this) hki
   .rw[hk]at this;cases this
   .simpa using this
  .intro k q hq hk OL hm d hd;have:=h5.2 _ (Ej hq);simp only[Bool.or_eq_true]at this;rcases this with((this|this)|this)|this
   .rw[hk]at this;cases this
   .rw[OL]at this;cases this
   .rw[hm]at this;cases this
   .rw[hd]at this;simp only[Bool.and_eq_true]at this;refine⟨λe=>?_,λhmem=>?_⟩
    .rw[vh.mpr e]at this;simp at this
    .have hx:(dD ops.toList q).any (Nat.beq d)=true:=List.any_eq_true.mpr ⟨d,hmem,by simp⟩;rw[hx]at this;simp at this
theorem Ek{ops:Array Oper}{o:Oper}{s:Nat}{b:Bool}(hg:guardOf ops.toList o=some (some (s,b))):s∈dD ops.toList o:=by
 unfold guardOf at hg;split at hg
 .cases hg
 rename_i j w hgu;split at hg<;>try contradiction
 rename_i hq;cases hg;simp only[dD,hgu,List.mem_append];right;rw[hq];simp
theorem sO{os:List Oper}{o:Oper}{t:Nat}(h:Operand.tmp t∈o.op.operands.toList):t∈dD os o:=by
 simp only[dD,List.mem_append,List.mem_filterMap];exact .inl ⟨_,h,rfl⟩
theorem qK{os:List Oper}{o:Oper}{tm cN:T Value}(h:∀t∈dD os o,cZ cN t=cZ tm t):∀y∈o.op.operands.toList,fQ cN y=fQ tm y:=by
 intro y hy;cases y with
 |tmp t=>exact h t (sO hy)
 |_=>rfl
theorem om{ops:Array Oper}{o:Oper}{g:Option (Nat × Bool)}(hg:guardOf ops.toList o=some g){tm cN:T Value}(h:∀t∈dD ops.toList o,cZ cN t=cZ tm t):gE cN g=gE tm g:=by
 cases g with
 |none=>rfl
 |some p=>obtain⟨s,b⟩:=p;simp only[gE,h s (Ek hg)]
def OM(P:Program)(ops:Array Oper)(own:Nat->Option Nat)(h0:ah)(φ:ej)(h:ah)(tm:T Value)(i:Nat)(o:Oper):Prop:=
 ∃g,guardOf ops.toList o=some g/\(gE tm g=false->∀d,o.dst=some d->cZ tm d=undef)/\
  (gE tm g=true->match iW P o.op with
   | .rd x=>∃v,kY x tm h=some v/\∀d,o.dst=some d->cZ tm d=v
   | .al x=>∃n ob mk,own n=some i/\xV x tm=some (ob,mk)/\h.bl.get n=some ob/\φ n=none/\n<h.nx/\h0.nx<=n/\∀d,o.dst=some d->cZ tm d=mk n
   | .wr=>False)
theorem OM.keep{ops:Array Oper}{own s9:Nat->Option Nat}{h0:ah}{φ':ej}{tm cN:T Value}{i:Nat}{o:Oper}(hp:OM P ops own h0 φ h tm i o)(hl:∀t∈dD ops.toList o,cZ cN t=cZ tm t)(hd:∀d,o.dst=some d->cZ cN d=cZ tm d)(hrd:∀x v g,iW P o.op=.rd x->guardOf ops.toList o=some g->gE cN g=true->kY x tm h=some v->(∀d,o.dst=some d->cZ cN d=v)->∃v',kY x cN h'=some v'/\∀d,o.dst=some d->cZ cN d=v')(hal:∀n ob,own n=some i->h.bl.get n=some ob->φ n=none->n<h.nx->h0.nx<=n->s9 n=some i/\h'.bl.get n=some ob/\φ' n=none/\n<h'.nx):OM P ops s9 h0 φ' h' cN i o:=by
 obtain⟨g,hg,h1,h2⟩:=hp;have hw:=om hg hl;refine⟨g,hg,λhf d DG=>by rw[hd d DG];exact h1 (hw▸hf) d DG,λht=>?_⟩;have h2:=h2 (hw▸ht);cases hc:iW P o.op with
 |rd x=>
  rw[hc]at h2;obtain⟨v,k1,k2⟩:=h2;exact hrd x v g hc hg ht k1 λd DG=>by rw[hd d DG];exact k2 d DG
 |al x=>
  rw[hc]at h2;obtain⟨n,ob,mk,k1,k2,k3,k4,k5,k6,k7⟩:=h2;obtain⟨j1,j2,j3,j4⟩:=hal n ob k1 k3 k4 k5 k6;refine⟨n,ob,mk,j1,?_,j2,j3,j4,k6,λd DG=>by rw[hd d DG];exact k7 d DG⟩;unfold xV at *
  rw[XA.congr (λy hy=>qK hl y (Bp (yo hc) y hy))];exact k2
 |wr=>rw[hc]at h2;exact h2.elim
abbrev nV(listed:Array Bool)(i:Nat):Prop:=listed.getD i false=true
structure Inv(P:Program)(ops:Array Oper)(nt:Nat)(φ0:ej)(h0:ah)(w0:World)(ds:List Deferred)(lE:T Value)(listed:Array Bool)(D M:Nat)(tm:T Value)(h:ah)(own:Nat->Option Nat)(φ:ej)(a:Act)(w:World):Prop where
 VK:listed.size=ops.size
 sub:∀i,nV listed i->bit D i=true
 clo:∀i o,ops[i]? = some o->nV listed i->∀e∈de o,nV listed e
 wr:∀i o,ops[i]? = some o->bit D i=true->g_ P o=true->nV listed i
 mS:∀i,bit M i=true->nV listed i
 st:∀i o,ops[i]? = some o->bit D i=true->Stat P ops i o/\∀e∈de o,bit D e=true
 small:nt<=1000000000000
 size:a.tmps.size=nt
 rel:∀t,t<nt->(∀i o,ops[i]? = some o->bit D i=true->¬nV listed i->o.dst≠some t)->VR φ (cZ tm t) (a.tmps.getD t undef)
 hr:HR P φ h w
 ext:Ext φ0 φ h0 h w0 w
 dfs:a.defers=ds
 lM:∀i o,ops[i]? = some o->bit D i=true->¬nV listed i->OM P ops own h0 φ h tm i o
 keep:∀t,t<nt->(∀(i:Nat)(o:Oper),ops[i]? = some o->o.dst≠some t)->cZ tm t=cZ lE t
section
variable {ops:Array Oper}{nt:Nat}{φ0:ej}{h0:ah}{w0:World}{ds:List Deferred}{listed:Array Bool}{D M:Nat}{tm lE:T Value}{own:Nat->Option Nat}{a:Act}
theorem Inv.ahead(inv:Inv P ops nt φ0 h0 w0 ds lE listed D M tm h own φ a w)(hok:∀q∈ops.toList,fG nt q=true){i:Nat}{o:Oper}(ho:ops[i]? = some o)(hD:bit D i=false)(SA:∀e∈de o,bit D e=true)(hst:Stat P ops i o)(hw:g_ P o=false){v:Value}{h':ah}{s9:Nat->Option Nat}(hr':HR P φ h' w)(hx':Ext φ0 φ h0 h' w0 w)(hm:AO h h')(hnx:h.nx<=h'.nx)(hown:∀n,n<h.nx->s9 n=own n)(hpe:OM P ops s9 h0 φ h' (jS tm o.dst v) i o):Inv P ops nt φ0 h0 w0 ds lE listed (fW D i) M (jS tm o.dst v) h' s9 φ a w:=by
 have hmem:o∈ops.toList:=List.mem_of_getElem? (by rw[Array.getElem?_toList];exact ho);have Ku:¬nV listed i:=λhs=>by rw[inv.sub i hs]at hD;cases hD
 have qL:=dX (hok o hmem);refine⟨inv.VK,?_,inv.clo,?_,inv.mS,?_,inv.small,inv.size,?_,hr',hx',inv.dfs,?_,λt ht hno=>by rw[iw inv.small qL ht,if_neg (hno i o ho)];exact inv.keep t ht hno⟩
 .intro k hk;rw[dP,inv.sub k hk];rfl
 .intro k q hq hk Xo;rw[dP,Bool.or_eq_true]at hk;rcases hk with hk|hk
  .exact inv.wr k q hq hk Xo
  .have hk:i=k:=by simpa using hk
   subst hk;rw[ho]at hq;cases hq;rw[hw]at Xo;cases Xo
 .intro k q hq hk;rw[dP,Bool.or_eq_true]at hk;have up:∀{e},bit D e=true->bit (fW D i) e=true:=λhe=>by rw[dP,he];rfl
  rcases hk with hk|hk
  .exact⟨(inv.st k q hq hk).1,λe he=>up ((inv.st k q hq hk).2 e he)⟩
  .have hk:i=k:=by simpa using hk
   subst hk;rw[ho]at hq;cases hq;exact⟨hst,λe he=>up (SA e he)⟩
 .intro t ht hno;have h1:o.dst≠some t:=hno i o ho (by rw[dP];simp) Ku;rw[iw inv.small qL ht,if_neg h1];exact inv.rel t ht λk q hq hk wj=>hno k q hq (by rw[dP,hk];rfl) wj
 .intro k q hq hk wj;rw[dP,Bool.or_eq_true]at hk;by_cases hki:i=k
  .subst hki;rw[ho]at hq;cases hq;exact hpe
  ·have hk:bit D k=true:=by
    rcases hk with hk|hk
    .exact hk
    .exact absurd (by simpa using hk) hki
   have OL:g_ P q=false:=by
    cases OL:g_ P q with
    |false=>rfl
    |true=>exact absurd (inv.wr k q hq hk OL) wj
   have hqm:q∈ops.toList:=List.mem_of_getElem? (by rw[Array.getElem?_toList];exact hq);have hl:∀t∈dD ops.toList q,cZ (jS tm o.dst v) t=cZ tm t:=by
    intro t ht;rw[iw inv.small qL (l_ hok hqm ht),if_neg];intro he;have:=(inv.st k q hq hk).2 i ((inv.st k q hq hk).1.k1 i o ho hw t ht he);rw[this]at hD;cases hD
   have hd:∀d,q.dst=some d->cZ (jS tm o.dst v) d=cZ tm d:=by
    intro d DG;have hlt:d<nt:=by have:=dX (hok q hqm);rw[DG]at this;exact dW this
    rw[iw inv.small qL hlt,if_neg];intro he;exact hst.k2 hw k q hq (λe=>hki e.symm) OL d he DG
   refine(inv.lM k q hq hk wj).keep hl hd ?_ ?_
   .intro x v' g hc hg DH hrd hdv;refine⟨v',?_,hdv⟩;have:=IU (qJ hc) hm hrd;unfold kY at *
    rw[XI.congr (λy hy=>qK hl y (vg (qJ hc) y hy))];exact this
   .intro n ob e1 e2 e3 e4 e5;exact⟨by rw[hown n e4];exact e1,hm n ob e2,e3,Nat.lt_of_lt_of_le e4 hnx⟩
end
end Go.Vai

namespace Go.Vai
open Go
variable {β:Type}{fl:β}{good:β->Prop}{pr:ku β}{P:Program}{φ:ej}{h h':ah}{w:World}{t:TypeId}
variable {ops:Array Oper}{nt:Nat}{φ0:ej}{h0:ah}{w0:World}{ds:List Deferred}{listed:Array Bool}{D M:Nat}{tm lE:T Value}{own:Nat->Option Nat}{a:Act}
theorem AO.refl(h:ah):AO h h:=λ_ _ e=>e
theorem iz{i k:Nat}(hi:i<listed.size):nV (listed.setIfInBounds i true) k<->k=i\/nV listed k:=by
 unfold nV;simp only[Array.getD_eq_getD_getElem?];by_cases he:i=k
 .subst he;simp[Array.getElem?_setIfInBounds_self_of_lt hi]
 .rw[Array.getElem?_setIfInBounds_ne he];constructor
  .exact λh=>.inr h
  .rintro(h|h)
   .exact absurd h.symm he
   .exact h
theorem El{a:Act}{d:Option Nat}{v:Value}{t:Nat}(ht:t<a.tmps.size):(a.put d v).tmps.getD t undef=if d=some t then v else a.tmps.getD t undef:=by
 cases d with
 |none=>simp[Act.put]
 |some d=>
  simp only[Act.put,Array.getD_eq_getD_getElem?];by_cases he:d=t
  .subst he;rw[if_pos rfl,Array.getElem?_setIfInBounds_self_of_lt ht];rfl
  .rw[if_neg (by simpa using he),Array.getElem?_setIfInBounds_ne he]
theorem Em{a:Act}{d:Option Nat}{v:Value}:(a.put d v).tmps.size=a.tmps.size:=by cases d<;>simp[Act.put]
theorem Kv{a:Act}{d:Option Nat}{v:Value}:(a.put d v).defers=a.defers:=by cases d<;>rfl
theorem IV{o:Oper}{x:Vv}(h:iW P o.op=.rd x):g_ P o=false:=by unfold g_;rw[h]
theorem My{o:Oper}(h:g_ P o=true):iW P o.op=.wr:=by
 unfold g_ at h;split at h
 .assumption
 .cases h
theorem yp{i:Nat}{o:Oper}(ho:ops[i]? = some o):o∈ops.toList:=List.mem_of_getElem? (by rw[Array.getElem?_toList];exact ho)
theorem Inv.advance(hfl:¬good fl)(inv:Inv P ops nt φ0 h0 w0 ds lE listed D M tm h own φ a w)(hok:∀q∈ops.toList,fG nt q=true){rec:Rec β}{i:Nat}{o:Oper}(ho:ops[i]? = some o)(hD:bit D i=false)(SA:∀e∈de o,bit D e=true)(hst:Stat P ops i o)(hw:g_ P o=false){M':Nat}{Y:T Value->ah->β}(hg:good (kz fl pr P rec ops.toList D M' o tm h Y)):∃cN h' s9,Inv P ops nt φ0 h0 w0 ds lE listed (fW D i) M cN h' s9 φ a w/\good (Y cN h'):=by
 have qL:=dX (hok o (yp ho));have hl:∀v,∀t∈dD ops.toList o,cZ (jS tm o.dst v) t=cZ tm t:=by
  intro v t ht;rw[iw inv.small qL (l_ hok (yp ho) ht),if_neg];intro he;have:=SA i (hst.k1 i o ho hw t ht he);rw[this]at hD;cases hD
 have hdv:∀v d,o.dst=some d->cZ (jS tm o.dst v) d=v:=by
  intro v d hd;have hlt:d<nt:=by rw[hd]at qL;exact dW qL
  rw[iw inv.small qL hlt,if_pos hd]
 unfold kz at hg;split at hg
 .exact absurd hg hfl
 rename_i g Oa;split at hg
 .rename_i DH;rw[iu]at hg;refine⟨_,_,own,inv.ahead hok ho hD SA hst hw inv.hr inv.ext (AO.refl h) (Nat.le_refl _) (λ_ _=>rfl) ?_,hg⟩;refine⟨g,Oa,λ_ d hd=>hdv _ d hd,λht=>?_⟩;rw[om Oa (hl _),DH]at ht;cases ht
 .rename_i DH;split at hg
  .rename_i x hc;split at hg
   .rename_i v hv;rw[iu]at hg;refine⟨_,_,own,inv.ahead hok ho hD SA hst hw inv.hr inv.ext (AO.refl h) (Nat.le_refl _) (λ_ _=>rfl) ?_,hg⟩;refine⟨g,Oa,λhf=>?_,λ_=>?_⟩
    .rw[om Oa (hl _),DH]at hf;cases hf
    .rw[hc];refine⟨v,?_,λd hd=>hdv _ d hd⟩;unfold kY at *
     rw[XI.congr (λy hy=>qK (hl v) y (vg (qJ hc) y hy))];exact hv
   .exact absurd hg hfl
  .rename_i x hc;split at hg
   .rename_i ob mk hv;obtain⟨hn,hg⟩:=dM hfl hg;rw[iu]at hg;have hs:Small h.nx:=by unfold Small;omega
    have hnone:φ h.nx=none:=by
     cases hp:φ h.nx with
     |none=>rfl
     |some pl=>have:=(inv.hr.dom _ _ hp).1;omega
    refine⟨_,_,(λn=>if n=h.nx then some i else own n),inv.ahead hok ho hD SA hst hw (inv.hr.x_ hn ob) (inv.ext.x_ inv.hr.lo hn ob) ?_ (Nat.le_succ _) (λn hn=>if_neg XV) ?_,hg⟩
    .intro b o' hb;by_cases S3:Small b
     .have:=inv.hr.keys b o' S3 hb
      show(h.bl.bx h.nx ob).get b=some o'
      rw[T.iI _ _ hs S3 XV];exact hb
     .show(h.bl.bx h.nx ob).get b=some o'
      exact absurd (Nat.lt_succ_self b) S3
    .refine⟨g,Oa,λhf=>?_,λ_=>?_⟩
     .rw[om Oa (hl _),DH]at hf;cases hf
     .rw[hc];refine⟨h.nx,ob,mk,if_pos rfl,?_,T.an _ _ _,hnone,Nat.lt_succ_self _,inv.ext.nx,λd hd=>hdv _ d hd⟩;unfold xV at *
      rw[XA.congr (λy hy=>qK (hl _) y (Bp (yo hc) y hy))];exact hv
   .exact absurd hg hfl
  .rename_i hc;rw[g_,hc]at hw;cases hw
theorem Inv.done(inv:Inv P ops nt φ0 h0 w0 ds lE listed D M tm h own φ a w)(hok:∀q∈ops.toList,fG nt q=true){i:Nat}{o:Oper}(ho:ops[i]? = some o)(hD:bit D i=true)(tZ:∀e∈de o,nV listed e){φ':ej}{w':World}{v':Value}(hv:∀d,o.dst=some d->VR φ' (cZ tm d) v')(hs:Sub φ φ')(hr':HR P φ' h w')(hx':Ext φ0 φ' h0 h w0 w')(hφ:∀n,own n≠some i->φ n=none->φ' n=none):Inv P ops nt φ0 h0 w0 ds lE (listed.setIfInBounds i true) D M tm h own φ' (a.put o.dst v') w':=by
 have hil:i<listed.size:=by rw[inv.VK];exact(Array.getElem?_eq_some_iff.mp ho).1
 refine⟨by simp[inv.VK],?_,?_,?_,?_,inv.st,inv.small,by rw[Em];exact inv.size,?_,hr',hx',by rw[Kv];exact inv.dfs,?_,inv.keep⟩
 .intro k hk;rcases(iz hil).mp hk with rfl|hk
  .exact hD
  .exact inv.sub k hk
 .intro k q hq hk e he;rw[iz hil];rcases(iz hil).mp hk with rfl|hk
  .rw[ho]at hq;cases hq;exact .inr (tZ e he)
  .exact .inr (inv.clo k q hq hk e he)
 .intro k q hq hk Xo;rw[iz hil];exact .inr (inv.wr k q hq hk Xo)
 .intro k hk;rw[iz hil];exact .inr (inv.mS k hk)
 .intro t ht hno;rw[El (by rw[inv.size];exact ht)];by_cases hd:o.dst=some t
  .rw[if_pos hd];exact hv t hd
  .rw[if_neg hd];refine(inv.rel t ht λk q hq hk wj=>?_).mono hs;by_cases hki:k=i
   .subst hki;rw[ho]at hq;cases hq;exact hd
   .exact hno k q hq hk (λhh=>by rcases(iz hil).mp hh with h1|h1<;>contradiction)
 .intro k q hq hk wj;rw[iz hil]at wj;have hki:k≠i:=λe=>wj (.inl e);have ON:¬nV listed k:=λe=>wj (.inr e);refine(inv.lM k q hq hk ON).keep (λ_ _=>rfl) (λ_ _=>rfl) (λx v g _ _ _ e1 e2=>⟨v,e1,e2⟩) ?_;intro n ob e1 e2 e3 e4 e5;exact⟨e1,e2,hφ n (by rw[e1];intro hh;cases hh;exact hki rfl) e3,e4⟩
theorem Inv.looks(inv:Inv P ops nt φ0 h0 w0 ds lE listed D M tm h own φ a w)(hok:∀q∈ops.toList,fG nt q=true){i:Nat}{o:Oper}(ho:ops[i]? = some o)(hst:Stat P ops i o)(tZ:∀e∈de o,nV listed e):∀t∈dD ops.toList o,t<a.tmps.size/\VR φ (cZ tm t) (a.tmps.getD t undef):=by
 intro t ht;have hlt:=l_ hok (yp ho) ht;refine⟨by rw[inv.size];exact hlt,inv.rel t hlt λk q hq hk wj hqd=>wj (tZ k (hst.k1 k q hq ?_ t ht hqd))⟩;cases OL:g_ P q with
 |false=>rfl
 |true=>exact absurd (inv.wr k q hq hk OL) wj
theorem Inv.acN(inv:Inv P ops nt φ0 h0 w0 ds lE listed D M tm h own φ a w)(hok:∀q∈ops.toList,fG nt q=true){i:Nat}{o:Oper}(ho:ops[i]? = some o)(hst:Stat P ops i o)(tZ:∀e∈de o,nV listed e):∀y∈o.op.operands.toList,VR φ (fQ tm y) (a.eval y):=by
 intro y hy;have hyo:=sZ (hok o (yp ho)) y hy;cases y with
 |tmp t=>exact(inv.looks hok ho hst tZ t (sO hy)).2
 |const v=>exact jv hyo
 |func f=>exact VR.func' .nil .nil
 |global g=>cases hyo
theorem Inv.wanted(inv:Inv P ops nt φ0 h0 w0 ds lE listed D M tm h own φ a w)(hok:∀q∈ops.toList,fG nt q=true){i:Nat}{o:Oper}(ho:ops[i]? = some o)(hst:Stat P ops i o)(tZ:∀e∈de o,nV listed e){g:Option (Nat × Bool)}(hg:guardOf ops.toList o=some g):Region.wanted o (yielded ops a.tmps)=gE tm g:=
 Bn (φ:=φ) hg λs _ _ hs=>inv.looks hok ho hst tZ s hs
theorem Inv.late(inv:Inv P ops nt φ0 h0 w0 ds lE listed D M tm h own φ a w)(hok:∀q∈ops.toList,fG nt q=true){i:Nat}{o:Oper}(ho:ops[i]? = some o)(hD:bit D i=true)(Ku:¬nV listed i)(tZ:∀e∈de o,nV listed e){Q:Exit->Act->World->Prop}{K:Act->World->Prop}{r0:Option Nat}(hK:∀φ' a' w',Inv P ops nt φ0 h0 w0 ds lE (listed.setIfInBounds i true) D M tm h own φ' a' w'->K a' w'):wpOpIn (FR r0) 0 P ops Q i K a w:=by
 obtain⟨hst,_⟩:=inv.st i o ho hD;obtain⟨g,hg,h1,h2⟩:=inv.lM i o ho hD Ku;have hlt:∀d,o.dst=some d->d<nt:=λd hd=>by have:=dX (hok o (yp ho));rw[hd]at this;exact dW this
 simp only[wpOpIn,ho];rw[inv.wanted hok ho hst tZ hg];cases hw:gE tm g with
 |false=>
  rw[if_neg (by simp)];exact⟨lH,hK φ _ w (inv.done hok ho hD tZ (λd hd=>by rw[h1 hw d hd];exact VR.undef) (Sub.refl φ) inv.hr inv.ext (λ_ _ e=>e))⟩
 |true=>
  rw[if_pos rfl];have h2:=h2 hw;have hρ:=inv.acN hok ho hst tZ;cases hc:iW P o.op with
  |rd x=>
   rw[hc]at h2;obtain⟨v,k1,k2⟩:=h2;obtain⟨v0,v',e1,e2,e3⟩:=vX (β:=Option Value) (fl:=none) (good:=λr=>r=some v) (by simp) (qJ hc) hρ inv.hr (Y:=λv _=>some v) k1 rfl;cases e1;refine⟨lH,?_⟩;rw[Oper.semAt_eq _ _ _ (λc hcd=>by rw[hcd]at hc;cases hc),e3];exact hK φ _ w (inv.done hok ho hD tZ (λd hd=>by rw[k2 d hd];exact e2) (Sub.refl φ) inv.hr inv.ext (λ_ _ e=>e))
  |al x=>
   rw[hc]at h2;obtain⟨n,ob,mk,k1,k2,k3,k4,k5,k6,k7⟩:=h2;obtain⟨ob',mk',O,e1,e2,e3,e4,e5⟩:=vZ (β:=Option (bT × (Nat->Value))) (fl:=none) (good:=λr=>r=some (ob,mk)) (P:=P) (w:=w) (by simp) (yo hc) hρ (Y:=λo mk=>some (o,mk)) k2 rfl;cases e1;refine⟨lH,?_⟩;rw[Oper.semAt_eq _ _ _ (λc hcd=>by rw[hcd]at hc;cases hc),e5];refine hK (ir φ n ⟨w.heap.size,0,0⟩) _ _ (inv.done hok ho hD tZ (λd hd=>by rw[k7 d hd];exact e4 _ _ _ (fI _ _ _)) (rO k4) (inv.hr.DX k3 k4 k5 0 0 (e3 _)) (inv.ext.DX k4 k6 O (tO (e3 ⟨0,0,0⟩) e2) 0 0) ?_);intro m S_ hm2;unfold ir;rw[if_neg]
   .exact hm2
   .intro he;subst he;exact S_ k1
  |wr=>rw[hc]at h2;exact h2.elim
end Go.Vai

namespace Go.Vai
open Go
variable {β:Type}{fl:β}{good:β->Prop}{pr:ku β}{P:Program}{φ:ej}{h h':ah}{w:World}{t:TypeId}
variable {ops:Array Oper}{nt:Nat}{φ0:ej}{h0:ah}{w0:World}{ds:List Deferred}{listed:Array Bool}{D M:Nat}{tm lE:T Value}{own:Nat->Option Nat}{a:Act}
theorem En:∀(uY:List It),vS P ops.toList D M tm h uY=true->∀k q,(k,q)∈uY->bit D k=true->bit M k=false->∀x g,iW P q.op=.rd x->guardOf ops.toList q=some g->gE tm g=true->
  ∃v,kY x tm h=some v/\∀d,q.dst=some d->cZ tm d=v:=by
 intro uY
 induction uY with
 |nil=>intro _ k q hm;cases hm
 |cons it uY ih=>
  obtain⟨j,o⟩:=it;intro hs k q hm hD hM x g hc hg hw;simp only[List.mem_cons]at hm;unfold vS at hs;rcases hm with e|hm
  .cases e;simp only[hD,hM,hc,hg,hw,Bool.not_false,Bool.and_true,Bool.and_eq_true]at hs;have hs:=hs.1;split at hs
   .rename_i v d hv hd;refine⟨v,hv,λd' hd'=>?_⟩;rw[hd]at hd';cases hd';exact(Cs 8 _ _ hs).symm
   .rename_i v hv hd;exact⟨v,hv,λd' hd'=>by rw[hd]at hd';cases hd'⟩
   .cases hs
  .refine ih ?_ k q hm hD hM x g hc hg hw;split at hs
   .simp only[Bool.and_eq_true]at hs;exact hs.2
   .exact hs
theorem Eo{uY:List It}(ha:Be P D M uY=false){k:Nat}{q:Oper}(hm:(k,q)∈uY)(hD:bit D k=true)(hM:bit M k=false){x:Vv}(hc:iW P q.op=.rd x):False:=by
 unfold Be at ha;rw[List.any_eq_false]at ha;have:=ha _ hm;simp[hD,hM,hc]at this
theorem Inv.wrote(inv:Inv P ops nt φ0 h0 w0 ds lE listed D M tm h own φ a w)(hok:∀q∈ops.toList,fG nt q=true){i:Nat}{o:Oper}(ho:ops[i]? = some o)(hD:bit D i=false)(tZ:∀e∈de o,nV listed e)(hst:Stat P ops i o)(hw:g_ P o=true){M':Nat}(hM:∀k,bit M' k=true->nV listed k)(hno:∀k q,ops[k]? = some q->bit D k=true->g_ P q=false->bit M' k=false->∀d,o.dst=some d->q.dst≠some d/\d∉dD ops.toList q){φ':ej}{w':World}{v v':Value}{h':ah}(hv:VR φ' v v')(hr':HR P φ' h' w')(hx:Ext φ φ' h h' w w')(hre:∀k q,ops[k]? = some q->bit D k=true->bit M' k=false->¬nV listed k->∀x g,iW P q.op=.rd x->guardOf ops.toList q=some g->gE (jS tm o.dst v) g=true->
   ∃v1,kY x (jS tm o.dst v) h'=some v1/\∀d,q.dst=some d->cZ (jS tm o.dst v) d=v1):Inv P ops nt φ0 h0 w0 ds lE (listed.setIfInBounds i true) (fW D i) M' (jS tm o.dst v) h' own φ' (a.put o.dst v') w':=by
 have hil:i<listed.size:=by rw[inv.VK];exact(Array.getElem?_eq_some_iff.mp ho).1
 have qL:=dX (hok o (yp ho));have acO:∀{k q},ops[k]? = some q->bit (fW D i) k=true->¬nV (listed.setIfInBounds i true) k->bit D k=true/\¬nV listed k/\g_ P q=false/\bit M' k=false:=by
  intro k q hq hk wj;rw[iz hil]at wj;have hki:k≠i:=λe=>wj (.inl e);have ON:¬nV listed k:=λe=>wj (.inr e);rw[dP,Bool.or_eq_true]at hk;have hk:bit D k=true:=by
   rcases hk with hk|hk
   .exact hk
   .exact absurd (by simpa using hk:i=k).symm hki
  refine⟨hk,ON,?_,?_⟩
  .cases OL:g_ P q with
   |false=>rfl
   |true=>exact absurd (inv.wr k q hq hk OL) ON
  .cases hm:bit M' k with
   |false=>rfl
   |true=>exact absurd (hM k hm) ON
 refine⟨by simp[inv.VK],?_,?_,?_,?_,?_,inv.small,by rw[Em];exact inv.size,?_,hr',inv.ext.trans hx,by rw[Kv];exact inv.dfs,?_,λt ht hno=>by rw[iw inv.small qL ht,if_neg (hno i o ho)];exact inv.keep t ht hno⟩
 .intro k hk;rw[dP];rcases(iz hil).mp hk with rfl|hk
  .simp
  .rw[inv.sub k hk];rfl
 .intro k q hq hk e he;rw[iz hil];rcases(iz hil).mp hk with rfl|hk
  .rw[ho]at hq;cases hq;exact .inr (tZ e he)
  .exact .inr (inv.clo k q hq hk e he)
 .intro k q hq hk Xo;rw[iz hil];rw[dP,Bool.or_eq_true]at hk;rcases hk with hk|hk
  .exact .inr (inv.wr k q hq hk Xo)
  .exact .inl (by simpa using hk:i=k).symm
 .intro k hk;rw[iz hil];exact .inr (hM k hk)
 .intro k q hq hk;rw[dP,Bool.or_eq_true]at hk;have up:∀{e},bit D e=true->bit (fW D i) e=true:=λhe=>by rw[dP,he];rfl
  rcases hk with hk|hk
  .exact⟨(inv.st k q hq hk).1,λe he=>up ((inv.st k q hq hk).2 e he)⟩
  .have hk:i=k:=by simpa using hk
   subst hk;rw[ho]at hq;cases hq;exact⟨hst,λe he=>up (inv.sub e (tZ e he))⟩
 .intro t ht hnot;rw[El (by rw[inv.size];exact ht),iw inv.small qL ht];by_cases hd:o.dst=some t
  .rw[if_pos hd,if_pos hd];exact hv
  .rw[if_neg hd,if_neg hd];refine(inv.rel t ht λk q hq hk wj=>hnot k q hq (by rw[dP,hk];rfl) ?_).mono hx.sub;rw[iz hil];rintro(rfl|hh)
   .rw[hk]at hD;cases hD
   .exact wj hh
 ·intro k q hq hk wj;obtain⟨gP,hk2,Ob,Mz⟩:=acO hq hk wj;have hl:∀t∈dD ops.toList q,cZ (jS tm o.dst v) t=cZ tm t:=by
   intro t ht;rw[iw inv.small qL (l_ hok (yp hq) ht),if_neg];intro he;exact(hno k q hq gP Ob Mz t he).2 ht
  have hd:∀d,q.dst=some d->cZ (jS tm o.dst v) d=cZ tm d:=by
   intro d DG;have hlt:d<nt:=by have:=dX (hok q (yp hq));rw[DG]at this;exact dW this
   rw[iw inv.small qL hlt,if_neg];intro he;exact(hno k q hq gP Ob Mz d he).1 DG
  refine(inv.lM k q hq gP hk2).keep hl hd (λx v1 g hc hg DH _ _=>hre k q hq gP Mz hk2 x g hc hg DH) ?_;intro n ob e1 e2 e3 e4 e5;refine⟨e1,by rw[hx.Io n e4 e3];exact e2,?_,Nat.lt_of_lt_of_le e4 hx.nx⟩;cases hp:φ' n with
  |none=>rfl
  |some pl=>have:=(hx.new n pl e3 hp).1;omega
theorem Inv.write(hfl:¬good fl)(hp:iy good pr P){rec:Rec β}(fJ:lZ good P rec)(inv:Inv P ops nt φ0 h0 w0 ds lE listed D M tm h own φ a w)(hok:∀q∈ops.toList,fG nt q=true){i:Nat}{o:Oper}(ho:ops[i]? = some o)(hD:bit D i=false)(tZ:∀e∈de o,nV listed e)(hst:Stat P ops i o)(hw:g_ P o=true){M':Nat}(hM:∀k,bit M' k=true->nV listed k)(hno:∀k q,ops[k]? = some q->bit D k=true->g_ P q=false->bit M' k=false->∀d,o.dst=some d->q.dst≠some d/\d∉dD ops.toList q){Y:T Value->ah->β}(hg:good (kz fl pr P rec ops.toList D M' o tm h Y)){Q:Exit->Act->World->Prop}{K:Act->World->Prop}{r0:Option Nat}(hK:∀cN h' φ' a' w',Inv P ops nt φ0 h0 w0 ds lE (listed.setIfInBounds i true) (fW D i) M' cN h' own φ' a' w'->good (Y cN h')->K a' w'):wpOpIn (FR r0) 0 P ops Q i K a w:=by
 simp only[wpOpIn,ho];unfold kz at hg;split at hg
 .exact absurd hg hfl
 rename_i g Oa;rw[inv.wanted hok ho hst tZ Oa];split at hg
 ·rename_i DH;rw[iu]at hg;rw[DH,if_neg (by simp)];refine⟨lH,?_⟩;refine hK _ _ φ _ w (inv.wrote hok ho hD tZ hst hw hM hno VR.undef inv.hr (Ext.refl _ _ _) ?_) hg;intro k q hq hk hkM wj x g' hc hg' AP;have Ob:=IV hc;have qL:=dX (hok o (yp ho));have hl:∀t∈dD ops.toList q,cZ (jS tm o.dst undef) t=cZ tm t:=by
   intro t ht;rw[iw inv.small qL (l_ hok (yp hq) ht),if_neg];intro he;exact(hno k q hq hk Ob hkM t he).2 ht
  obtain⟨g2,e1,e2,e3⟩:=inv.lM k q hq hk wj;rw[hg']at e1;cases e1;have e3:=e3 (by rw[<-om hg' hl];exact AP);rw[hc]at e3;obtain⟨v,k1,k2⟩:=e3;refine⟨v,?_,λd DG=>?_⟩
  .unfold kY at *
   rw[XI.congr (λy hy=>qK hl y (vg (qJ hc) y hy))];exact k1
  .have hlt:d<nt:=by have:=dX (hok q (yp hq));rw[DG]at this;exact dW this
   rw[iw inv.small qL hlt,if_neg]
   .exact k2 d DG
   .intro he;exact(hno k q hq hk Ob hkM d he).1 DG
 .rename_i DH;rw[DH,if_pos rfl];rw[My hw]at hg;refine Eg hfl hp fJ (inv.acN hok ho hst tZ) inv.hr hg ?_;intro φ' v v' h' w' g1 g2 g3 g4;rw[iu]at g1;split at g1
  .rename_i ha;refine hK _ _ φ' _ w' (inv.wrote hok ho hD tZ hst hw hM hno g2 g3 g4 ?_) g1;intro k q hq hk hkM wj x g' hc hg' AP;exact(Eo ha (Ej hq) hk hkM hc).elim
  .split at g1
   .rename_i Is;refine hK _ _ φ' _ w' (inv.wrote hok ho hD tZ hst hw hM hno g2 g3 g4 ?_) g1;intro k q hq hk hkM wj x g' hc hg' AP;exact En _ Is k q (Ej hq) hk hkM x g' hc hg' AP
   .exact absurd g1 hfl
theorem yq{S:Nat->Prop}:∀(l:List Nat)(m:Nat),(∀k,bit m k=true->S k)->(∀e∈l,S e)->∀k,bit (l.foldl fW m) k=true->S k:=by
 intro l
 induction l with
 |nil=>intro m h1 _ k hk;exact h1 k hk
 |cons e l ih=>
  intro m h1 h2 k hk;refine ih (fW m e) ?_ (λx hx=>h2 x (by simp[hx])) k hk;intro x hx;rw[dP,Bool.or_eq_true]at hx;rcases hx with hx|hx
  .exact h1 x hx
  .have:e=x:=by simpa using hx
   subst this;exact h2 e (by simp)
theorem MA{S:Nat->Prop}{os:List Oper}(hc:∀i o,os[i]? = some o->S i->∀e∈de o,S e):∀(i m:Nat),(∀k,bit m k=true->S k)->∀k,bit (Oq os i m) k=true->S k:=by
 intro i
 induction i with
 |zero=>intro m h1 k hk;exact h1 k hk
 |succ i ih=>
  intro m h1 k hk;unfold Oq at hk;split at hk
  .rename_i o hb ho;exact ih _ (yq _ _ h1 (hc i o ho (h1 i hb))) k hk
  .exact ih m h1 k hk
theorem IW{S:Nat->Prop}{os:List Oper}(hc:∀i o,os[i]? = some o->S i->∀e∈de o,S e){i:Nat}{o:Oper}(ho:os[i]? = some o)(hp:∀e∈de o,S e):∀k,bit (sK os i) k=true->S k:=by
 unfold sK;rw[ho];exact MA hc i _ (yq _ _ (λk hk=>by rw[Ei]at hk;cases hk) hp)
theorem Bq{i:Nat}(hi:i∈Region.ready .any ops listed):∃o,ops[i]? = some o/\¬nV listed i/\∀e∈de o,nV listed e:=by
 unfold Region.ready at hi;simp only[List.mem_filter,List.mem_range,Bool.and_eq_true]at hi;obtain⟨h1,h2,h3⟩:=hi;have ho:ops[i]? = some ops[i]:=by simp[h1]
 refine⟨ops[i],ho,?_,?_⟩
 .intro hh;unfold nV at hh;simp only[Array.getD_eq_getD_getElem?]at hh h2;cases hl:listed[i]? with
  |none=>rw[hl]at hh;simp at hh
  |some b=>rw[hl]at hh h2;simp at hh h2;rw[hh]at h2;cases h2
 .intro e he;rw[ho]at h3;simp only[Option.map_some,Option.getD_some,Array.all_eq_true']at h3;unfold de at he;simp only[List.mem_map,List.mem_filter]at he;obtain⟨x,⟨hx,hb⟩,rfl⟩:=he;have:=h3 x (by simpa using hx);rw[hb]at this;simp only[Bool.not_true,Bool.false_or]at this;exact this
theorem mem_ready{i:Nat}{o:Oper}(ho:ops[i]? = some o)(hsz:listed.size=ops.size)(hn:¬nV listed i)(hp:∀e∈de o,nV listed e):i∈Region.ready .any ops listed:=by
 have hlt:i<ops.size:=(Array.getElem?_eq_some_iff.mp ho).1;unfold Region.ready;simp only[List.mem_filter,List.mem_range,Bool.and_eq_true];refine⟨hlt,?_,?_⟩
 .have hll:i<listed.size:=by omega
  unfold nV at hn;simp only[Array.getD_eq_getD_getElem?,getElem?_pos listed i hll]at hn ⊢;simpa using hn
 .rw[ho];simp only[Option.map_some,Option.getD_some,Array.all_eq_true'];intro e he;cases hb:Region.binds .any e with
  |false=>rfl
  |true=>
   have:=hp e.on (by unfold de;simp only[List.mem_map,List.mem_filter];exact⟨e,⟨by simpa using he,hb⟩,rfl⟩);simp only[Bool.not_true,Bool.false_or];exact this
section
variable {nt:Nat}{Y:T Value->ah->β}{Q:Exit->Act->World->Prop}{r0:Option Nat}
theorem Xp{own:Nat->Option Nat}(inv:Inv P ops nt φ0 h0 w0 ds lE listed D M tm h own φ a w)(hidx:∀i o,ops[i]? = some o->∀e∈de o,e<i)(hr:Region.ready .any ops listed=[]):∀i o,ops[i]? = some o->nV listed i:=by
 intro i
 induction i using Nat.strongRecOn with
 |_ i ih=>
  intro o ho;by_cases hi:nV listed i
  .exact hi
  ·have hlt:i<ops.size:=(Array.getElem?_eq_some_iff.mp ho).1;have:=mem_ready ho inv.VK hi λe he=>by
    have hei:=hidx i o ho e he;exact ih e hei ops[e] (by simp)
   rw[hr]at this;cases this
theorem Inv.full{own:Nat->Option Nat}(inv:Inv P ops nt φ0 h0 w0 ds lE listed D M tm h own φ a w)(hall:∀i o,ops[i]? = some o->nV listed i):TR φ nt tm a:=
 ⟨inv.size,inv.small,λt ht=>inv.rel t ht λi o ho _ hS=>absurd (hall i o ho) hS⟩
theorem qM{i:Nat}{is:List Nat}{D M:Nat}(hp:nJ P ops.toList (i::is) D M=true):∃o,ops[i]? = some o/\
  SY P ops.toList (fR ops.toList 0) D (match g_ P o with|true=>Nat.lor M (sK ops.toList i)|false=>M) i o=true/\
  nJ P ops.toList is (fW D i) (match g_ P o with|true=>Nat.lor M (sK ops.toList i)|false=>M)=true:=by
 unfold nJ at hp;split at hp<;>try contradiction
 rename_i o ho;rw[Array.getElem?_toList]at ho;simp only[Bool.and_eq_true]at hp;exact⟨o,ho,hp.1,hp.2⟩
theorem ahb(hfl:¬good fl)(hok:∀q∈ops.toList,fG nt q=true){rec:Rec β}{i:Nat}{o:Oper}(ho:ops[i]? = some o)(Ku:¬nV listed i)(tZ:∀e∈de o,nV listed e):∀(l:List Nat)(D M:Nat)(tm:T Value)(h:ah)(own:Nat->Option Nat),Inv P ops nt φ0 h0 w0 ds lE listed D M tm h own φ a w->nJ P ops.toList l D M=true->good (jH fl pr P rec ops.toList l D M tm h Y)->
   ∃l' D' cN h' s9,Inv P ops nt φ0 h0 w0 ds lE listed D' M cN h' s9 φ a w/\nJ P ops.toList l' D' M=true/\good (jH fl pr P rec ops.toList l' D' M cN h' Y)/\
    (bit D' i=true\/(g_ P o=true/\∃js,l'=i::js)):=by
 intro l
 induction l with
 |nil=>
  intro D M tm h own inv hp hg;refine⟨[],D,tm,h,own,inv,hp,hg,.inl ?_⟩;unfold nJ at hp;rw[List.all_eq_true]at hp;exact hp _ (Ej ho)
 |cons j js ih=>
  intro D M tm h own inv hp hg;by_cases Xq:bit D i=true
  .exact⟨j::js,D,tm,h,own,inv,hp,hg,.inl Xq⟩
  have Xq:bit D i=false:=by simpa using Xq
  obtain⟨q,hq,oQ,pX⟩:=qM hp;obtain⟨k1,k2,k3,k4,k5⟩:=s8 oQ;cases hw:g_ P q with
  |true=>
   have hij:i=j:=by
    by_cases hij:i=j
    .exact hij
    .have:=(k5 hw).1 i o ho hij Xq;have hrd:qA D o=true:=by unfold qA;rw[List.all_eq_true];exact λe he=>inv.sub e (tZ e he)
     rw[hrd]at this;cases this
   subst hij;rw[ho]at hq;cases hq;exact⟨i::js,D,tm,h,own,inv,hp,hg,.inr ⟨hw,js,rfl⟩⟩
  |false=>
   rw[hw]at pX oQ;simp only at pX;unfold jH at hg;rw[Array.getElem?_toList,hq]at hg;simp only[hw]at hg;obtain⟨cN,h',s9,inv',hg'⟩:=inv.advance hfl hok hq k1 k2 k4 hw hg;exact ih _ M cN h' s9 inv' pX hg'
theorem Ta(hfl:¬good fl)(hp:iy good pr P){rec:Rec β}(fJ:lZ good P rec)(hok:∀q∈ops.toList,fG nt q=true)(hidx:∀i o,ops[i]? = some o->∀e∈de o,e<i)(hQ:∀cN h' φ' a' w',good (Y cN h')->TR φ' nt cN a'->HR P φ' h' w'->Ext φ0 φ' h0 h' w0 w'->a'.defers=ds->(∀t,t<nt->(∀(i:Nat)(o:Oper),ops[i]? = some o->o.dst≠some t)->cZ cN t=cZ lE t)->Q .normal a' w'):∀(fuel:Nat)(listed:Array Bool)(l:List Nat)(D M:Nat)(tm:T Value)(h:ah)(own:Nat->Option Nat)(φ:ej)(a:Act) (w:World),listed.toList.count false<=fuel->Inv P ops nt φ0 h0 w0 ds lE listed D M tm h own φ a w->
   nJ P ops.toList l D M=true->good (jH fl pr P rec ops.toList l D M tm h Y)->wpAnyIn (FR r0) 0 P .any ops Q fuel listed a w:=by
 have fin:∀(listed:Array Bool)(l:List Nat)(D M:Nat)(tm:T Value)(h:ah)(own:Nat->Option Nat)(φ:ej)(a:Act)(w:World),Inv P ops nt φ0 h0 w0 ds lE listed D M tm h own φ a w->
   nJ P ops.toList l D M=true->good (jH fl pr P rec ops.toList l D M tm h Y)->Region.ready .any ops listed=[]->Q .normal a w:=by
  intro listed l D M tm h own φ a w inv Ao hg hr;have hall:=Xp inv hidx hr;cases l with
  |nil=>exact hQ tm h φ a w hg (inv.full hall) inv.hr inv.ext inv.dfs inv.keep
  |cons j js=>
   obtain⟨q,hq,oQ,_⟩:=qM Ao;have:=(s8 oQ).1;rw[inv.sub j (hall j q hq)]at this;cases this
 intro fuel
 induction fuel with
 |zero=>
  intro listed l D M tm h own φ a w hc inv Ao hg;have hr:Region.ready .any ops listed=[]:=by
   cases hr:Region.ready .any ops listed with
   |nil=>rfl
   |cons i is=>
    obtain⟨o,ho,Ku,_⟩:=Bq (listed:=listed) (ops:=ops) (i:=i) (by rw[hr];exact List.mem_cons_self);have hlt:i<listed.size:=by rw[inv.VK];exact(Array.getElem?_eq_some_iff.mp ho).1
    have:false∈listed.toList:=by
     unfold nV at Ku;simp only[Array.getD_eq_getD_getElem?,getElem?_pos listed i hlt,Option.getD_some]at Ku;have:listed[i]=false:=by simpa using Ku
     rw[<-this];exact Array.getElem_mem_toList hlt
    have:=List.count_pos_iff.mpr this;omega
  exact⟨hr,fin listed l D M tm h own φ a w inv Ao hg hr⟩
 |succ fuel ih=>
  intro listed l D M tm h own φ a w hc inv Ao hg;refine⟨fin listed l D M tm h own φ a w inv Ao hg,λi hi=>?_⟩;obtain⟨o,ho,Ku,tZ⟩:=Bq hi;have hlt:i<listed.size:=by rw[inv.VK];exact(Array.getElem?_eq_some_iff.mp ho).1
  have acP:(listed.setIfInBounds i true).toList.count false<=fuel:=by
   have hfi:listed.toList[i]'(by simpa using hlt)=false:=by
    unfold nV at Ku;simp only[Array.getD_eq_getD_getElem?,getElem?_pos listed i hlt,Option.getD_some]at Ku;simpa using Ku
   rw[Array.toList_setIfInBounds,List.count_set (by simpa using hlt),hfi];change listed.toList.count false-1+0<=fuel;omega
  obtain⟨l',D',cN,h',s9,inv',acQ,hg',hend⟩:=ahb hfl hok ho Ku tZ l D M tm h own inv Ao hg;by_cases Xq:bit D' i=true
  .exact inv'.late hok ho Xq Ku tZ λφ' a' w' inv2=>ih _ l' D' M cN h' s9 φ' a' w' acP inv2 acQ hg'
  .rcases hend with hend|⟨hw,js,rfl⟩
   .exact absurd hend Xq
   obtain⟨q,hq,oQ,pX⟩:=qM acQ;rw[ho]at hq;cases hq;rw[hw]at oQ pX;simp only at oQ pX;obtain⟨k1,k2,k3,k4,k5⟩:=s8 oQ;unfold jH at hg';rw[Array.getElem?_toList,ho]at hg';simp only[hw]at hg';refine inv'.write hfl hp fJ hok ho k1 tZ k4 hw ?_ (k5 hw).2 hg' λVJ h2 φ2 a2 w2 inv2 hg2=>ih _ js _ _ VJ h2 s9 φ2 a2 w2 acP inv2 pX hg2;intro k hk;rw[Xn,Bool.or_eq_true]at hk;rcases hk with hk|hk
   .exact inv'.mS k hk
   .exact IW (S:=nV listed) (os:=ops.toList) (λj q hq hj=>inv'.clo j q (by rw[<-Array.getElem?_toList];exact hq) hj) (by rw[Array.getElem?_toList];exact ho) tZ k hk
end
theorem s_(hfl:¬good fl)(hp:iy good pr P)(hm:P.follows .mixedOrders=true):IS good fl pr P:=by
 intro rec fJ ops id nt hok φ tm h a w Y ht hr hg r0 Q hQ;unfold lG at hg;split at hg
 .contradiction
 split at hg
 .rename_i l hl;unfold Cd at hl;split at hl<;>try contradiction
  split at hl<;>try contradiction
  rename_i Xr;cases hl;simp only[Bool.and_eq_true]at Xr;refine wpIn_region_any hm ?_;have S5:∀i,¬nV (Array.replicate ops.size false) i:=by
   intro i hi;unfold nV at hi;simp only[Array.getD_eq_getD_getElem?,Array.getElem?_replicate]at hi;split at hi<;>simp at hi
  refine Ta (φ0:=φ) (h0:=h) (w0:=w) (ds:=a.defers) (lE:=tm) hfl hp fJ hok ?_ hQ ops.size _ l 0 0 tm h (λ_=>none) φ a { w with drawn:=w.drawn+1 } ?_ ?_ Xr.1 hg
  .intro i o ho e he;have:=Xr.2;rw[List.all_eq_true]at this;have:=this _ (Ej ho);simp only[List.all_eq_true]at this;exact dW (this e he)
  .refine Nat.le_trans List.count_le_length (by simp)
  .have nb:∀k,bit 0 k=true->False:=λk hb=>by rw[Ei]at hb;cases hb
   exact⟨by simp,λi hi=>absurd hi (S5 i),λi o _ hi=>absurd hi (S5 i),λi o _ hb=>(nb i hb).elim,λi hb=>(nb i hb).elim,λi o _ hb=>(nb i hb).elim,
    ht.small,ht.size,λt hlt _=>ht.rel t hlt,hr.drew,(Ext.refl φ h w).drew,rfl,λi o _ hb=>(nb i hb).elim,λ_ _ _=>rfl⟩
 .exact absurd hg hfl
end Go.Vai

namespace Go.Vai
open Go
variable {pr:ku Bool}{P:Program}{w:World}
theorem HR.start{P:Program}{w:World}(s:pn P (λ_=>none) w):HR P (λ_=>none) ⟨0,.nil,0⟩ w:=
 ⟨λ_ _ _ _ e=>(by cases e),λ_ _ e=>(by cases e),λb o _ e=>(by rw[T.get_nil]at e;cases e),X0,λ_ _ _ _ _ _ _ _ _ _ e=>(by cases e),Nat.le_refl _,s⟩
def yes(b:Bool):Prop:=b=true
def Tb:ku Bool:=⟨λ_=>none,λa b=>match a with|true=>b|false=>false⟩
theorem CC:iy yes Tb P:=⟨λx y hxy=>by cases x<;>simp[Tb,yes]at hxy ⊢;exact hxy,λf g hg=>by cases hg⟩
end Go.Vai

namespace Go.Vai
open Go Go.RowKit
variable {P:Program}
theorem VR.n_{φ:ej}{v:Value}(hv:ki v=true):VR φ v v:=by
 cases v<;>first|exact VR.bool _|exact VR.int _ _|exact VR.string _|cases hv
theorem VR.Tc{φ:ej}{v v':Value}(hv:ki v=true)(h:VR φ v v'):v'=v:=by
 cases h<;>first|rfl|cases hv
theorem F2.n_{φ:ej}:∀{l:List Value},l.all ki=true->F2 (VR φ) l l:=by
 intro l
 induction l with
 |nil=>intro _;exact .nil
 |cons v l ih=>
  intro h;simp only[List.all_cons,Bool.and_eq_true]at h;exact .cons (VR.n_ h.1) (ih h.2)
end Go.Vai

namespace Go.Vai
open Go
def aj(P:Program)(f:FuncId)(args:List Value)(h:ah)(Y:KQ):Prop:=
 ∀(φ:ej)(w:World)(args':List Value),F2 (VR φ) args args'->HR P φ h w->Cy (λp:Prop=>p) P φ h w Y f args'.toArray
def CD(P:Program):ku Prop:=⟨λf=>some (aj P f),And⟩
def jK:Rec Prop:=λ_ _ _ _=>False
abbrev Xs(i:XI Prop)(tm:T Value)(h:ah)(Y:KQ):Prop:=
 XI.rec (motive:=λ_=>Prop) (λf=>f h Y) (λx f=>f (fQ tm x) h Y) (λx y f=>f (fQ tm x) (fQ tm y) h Y)
  (λx y z f=>f (fQ tm x) (fQ tm y) (fQ tm z) h Y) (λxs f=>f (xs.map (fQ tm)) h Y) i
abbrev acR(i:XA Prop)(tm:T Value)(Y:bT->(Nat->Value)->Prop):Prop:=
 XA.rec (motive:=λ_=>Prop) (λf=>f Y) (λx f=>f (fQ tm x) Y) (λx y f=>f (fQ tm x) (fQ tm y) Y) (λxs f=>f (xs.map (fQ tm)) Y) i
def jL(P:Program)(fv:Value)(args:List Value)(h:ah)(Y:KQ):Prop:=sJ False (CD P) P jK fv args h Y
def gG(P:Program)(name:String)(r:Value)(args:List Value)(h:ah)(Y:KQ):Prop:=Om False (CD P) P jK name r args h Y
def CE(P:Program)(c:Call)(tm:T Value)(h:ah)(Y:KQ):Prop:=
 match c.callee with
 | .value (.func f)=>aj P f (c.args.toList.map (fQ tm)) h Y
 | .value x=>jL P (fQ tm x) (c.args.toList.map (fQ tm)) h Y
 | .invoke r name=>gG P name (fQ tm r) (c.args.toList.map (fQ tm)) h Y
 | .builtin _=>False
def me(P:Program)(op:Op)(tm:T Value)(h:ah)(Y:KQ):Prop:=
 match pU False P op with
 |some i=>Xs i tm h Y
 |none=>match sH False P op with
  |some i=>acR i tm λo mk=>aF False o h λb h=>Y (mk b) h
  |none=>match Bb False And P op with
   |some i=>Xs i tm h Y
   |none=>match op with
    | .call c=>CE P c tm h Y
    | .next it false=>sG False And (fQ tm it) h Y
    |_=>False
def aD(v:Value)(w:Bool):Bool:=match v,w with | .bool true,true=>true | .bool false,false=>true|_,_=>false
def aq(b:Bool)(f:(Value->ah->Prop)->Prop)(h:ah)(Y:KQ):Prop:=match b with|true=>f Y|false=>Y undef h
noncomputable abbrev OO(P:Program)(all os:List Oper):T Value->ah->(T Value->ah->Prop)->Prop:=
 List.rec (motive:=λ_=>T Value->ah->(T Value->ah->Prop)->Prop) (λtm h Y=>Y tm h)
  (λo _ ih tm h Y=>Option.rec (motive:=λ_=>Prop) False
   (λg=>Option.rec (motive:=λ_=>Prop) (me P o.op tm h λv h=>ih (jS tm o.dst v) h Y)
    (λsw=>aq (aD (cZ tm sw.1) sw.2) (λκ'=>me P o.op tm h κ') h λv h=>ih (jS tm o.dst v) h Y) g) (guardOf all o)) os
def aJ(o:Option Value)(h:ah)(Y:KQ):Prop:=match o with|some v=>Y v h|none=>False
def Br(o:Option (bT × (Nat->Value)))(h:ah)(Y:KQ):Prop:=match o with|some (b,mk)=>aF False b h λn h=>Y (mk n) h|none=>False
def cV(b:Bool)(p:Prop):Prop:=match b with|true=>p|false=>False
def dV(o:Option Value)(v:Value):Bool:=match o with|some u=>je 8 u v|none=>false
def reN(o:Option Value):Bool:=match o with|some _=>true|none=>false
def reG(b r:Bool):Bool:=match b with|true=>r|false=>true
def Td(x:Vv)(tm:T Value)(h:ah):Option Value:=
 XI.rec (motive:=λ_=>Option Value) (λf=>f h λv _=>some v) (λx f=>f (fQ tm x) h λv _=>some v) (λx y f=>f (fQ tm x) (fQ tm y) h λv _=>some v)
  (λx y z f=>f (fQ tm x) (fQ tm y) (fQ tm z) h λv _=>some v) (λxs f=>f (xs.map (fQ tm)) h λv _=>some v) x
def mkW(x:OXA)(tm:T Value):Option (bT × (Nat->Value)):=
 XA.rec (motive:=λ_=>Option (bT × (Nat->Value))) (λf=>f λo mk=>some (o,mk)) (λx f=>f (fQ tm x) λo mk=>some (o,mk)) (λx y f=>f (fQ tm x) (fQ tm y) λo mk=>some (o,mk)) (λxs f=>f (xs.map (fQ tm)) λo mk=>some (o,mk)) x
def Ep(P:Program)(os:List Oper)(D M:Nat)(tm:T Value)(h:ah):List It->Bool
 | []=>true
 |(k,q)::uY=>match bit D k && !bit M k,iW P q.op with
  |true,.rd x=>(match guardOf os q with
   |some none=>(match q.dst with|some d=>dV (Td x tm h) (cZ tm d)|none=>reN (Td x tm h))
   |some (some (s,w))=>reG (aD (cZ tm s) w) (match q.dst with|some d=>dV (Td x tm h) (cZ tm d)|none=>reN (Td x tm h))
   |none=>false) && Ep P os D M tm h uY
  |_,_=>Ep P os D M tm h uY
def Kw(P:Program)(os:List Oper)(D M:Nat)(o:Oper)(tm:T Value)(h:ah)(Y:KQ):Prop:=
 match iW P o.op with
 | .rd x=>aJ (Td x tm h) h Y
 | .al x=>Br (mkW x tm) h Y
 | .wr=>match Be P D M (fR os 0)with
  |false=>me P o.op tm h Y
  |true=>me P o.op tm h λv h=>cV (Ep P os D M (jS tm o.dst v) h (fR os 0)) (Y v h)
def Er(P:Program)(os:List Oper):List Nat->Nat->Nat->T Value->ah->(T Value->ah->Prop)->Prop
 | [],_,_,tm,h,Y=>Y tm h
 |i::is,D,M,tm,h,Y=>match os[i]? with
  |none=>False
  |some o=>match guardOf os o with
   |none=>False
   |some none=>Kw P os D (match g_ P o with|true=>Nat.lor M (sK os i)|false=>M) o tm h λv h=>Er P os is (fW D i) (match g_ P o with|true=>Nat.lor M (sK os i)|false=>M) (jS tm o.dst v) h Y
   |some (some (s,w))=>aq (aD (cZ tm s) w) (λκ'=>Kw P os D (match g_ P o with|true=>Nat.lor M (sK os i)|false=>M) o tm h κ') h λv h=>Er P os is (fW D i) (match g_ P o with|true=>Nat.lor M (sK os i)|false=>M) (jS tm o.dst v) h Y
def Te(P:Program)(os:List Oper)(draw:Bool)(tm:T Value)(h:ah)(Y:T Value->ah->Prop):Prop:=
 match draw with
 |false=>OO P os os tm h Y
 |true=>match Cd P os with
  |some l=>Er P os l 0 0 tm h Y
  |none=>False
def MB(n:Nat)(l:List Nat):List Nat:=match l.any (Nat.beq n)with|true=>l|false=>n::l
def tf(l:List Oper):List Nat:=l.foldr (λo r=>match o.dst with|some d=>MB d r|none=>r) []
def Kx(l m:List Nat):List Nat:=l.foldr MB m
def tJ:Code->List Nat
 | .region _ os _=>tf os.toList
 | .seq a b | .cond _ a b=>Kx (tJ a) (tJ b)
 | .block _ c | .loop c | .scope c=>tJ c
 |_=>[]
def Ky(id:Nat):Code->Nat
 | .exit i=>match Nat.beq i id with|true=>1|false=>0
 | .seq a b | .cond _ a b=>Ky id a+Ky id b
 | .block _ c | .loop c | .scope c=>Ky id c
 |_=>0
def ways:Code->Nat
 | .seq a b=>ways a*ways b
 | .cond _ a b=>ways a+ways b
 | .block id c=>ways c+Ky id c
 | .loop _=>0
 | .scope c=>ways c
 | .exit _ | .ret=>0
 |_=>1
def aa(l:List Value)(i:Nat):Value:=l.getD i undef
def OP:Nat->List Nat->List Value->T Value->T Value
 |_,[],_,tm=>tm
 |i,s::ss,l,tm=>OP (i+1) ss l (tm.bx s (aa l i))
def MC(ss:List Nat)(l:List Value)(tm:T Value):T Value:=OP 0 ss l tm
abbrev KT:=Ex->T Value->ah->Prop
abbrev toN(N:List Value->ah->Prop)(ss:List Nat)(Y:KT):KT:=λe tm h=>Ex.rec (motive:=λ_=>Prop) (N (ss.map (cZ tm)) h) (λi=>Y (.exit i) tm h) (Y .ret tm h) e
def dz(A:(List Value->ah->Prop)->Prop)(B:List Value->ah->Prop):Prop:=
 ∃J:List Value->ah->Prop,A J/\∀l h,J l h->B l h
def cz(l0:List Value)(h0:ah)(body:List Value->ah->(List Value->ah->Prop)->Prop):Prop:=
 ∃I:Nat->List Value->ah->Prop,(∃n,I n l0 h0)/\∀n l h,I n l h->body l h λl' h'=>∃m,m<n/\I m l' h'
def aI(v:Value)(A B:Prop):Prop:=match v with | .bool true=>A | .bool false=>B|_=>False
abbrev ahg(B:T Value->ah->KT->Prop)(Y:KT):KT:=λe tm h=>Ex.rec (motive:=λ_=>Prop) (B tm h Y) (λi=>Y (.exit i) tm h) (Y .ret tm h) e
abbrev Xt(id:Nat)(Y:KT):KT:=λe tm h=>Ex.rec (motive:=λ_=>Prop) (Y .normal tm h) (λi=>Bool.rec (motive:=λ_=>Prop) (Y (.exit i) tm h) (Y .normal tm h) (Nat.beq i id)) (Y .ret tm h) e
def WP(P:Program):Code->T Value->ah->KT->Prop
 | .skip,tm,h,Y=>Y .normal tm h
 | .label _,tm,h,Y=>Y .normal tm h
 | .region _ os draw,tm,h,Y=>Te P os.toList draw tm h λtm h=>Y .normal tm h
 | .seq a b,tm,h,Y=>match Nat.ble (ways a) 1 with
  |true=>WP P a tm h (ahg (WP P b) Y)
  |false=>dz (λN=>WP P a tm h (toN N (tJ a) Y)) λl h=>WP P b (MC (tJ a) l tm) h Y
 | .cond c a b,tm,h,Y=>aI (fQ tm c) (WP P a tm h Y) (WP P b tm h Y)
 | .block id c,tm,h,Y=>WP P c tm h (Xt id Y)
 | .scope c,tm,h,Y=>WP P c tm h Y
 | .loop c,tm,h,Y=>cz ((tJ c).map (cZ tm)) h λl h N=>WP P c (MC (tJ c) l tm) h (toN N (tJ c) Y)
 | .exit id,tm,h,Y=>Y (.exit id) tm h
 | .ret,tm,h,Y=>Y .ret tm h
 |_,_,_,_=>False
abbrev MD(h:ah)(tm:T Value):List AB->(List Value->Prop)->Prop:=
 List.rec (motive:=λ_=>(List Value->Prop)->Prop) (λY=>Y [])
  (λr _ ih Y=>AB.rec (motive:=λ_=>Prop) (λt=>ih λvs=>Y (cZ tm t::vs)) (λa=>ax False (cZ tm a) h λv _=>ih λvs=>Y (v::vs))
   (λa s=>aN False s (cZ tm a) h λv _=>ih λvs=>Y (v::vs)) False r)
abbrev Tf(Y:KQ)(h:ah)(vs:List Value):Prop:=
 List.rec (motive:=λ_=>Prop) (Y (.tuple #[]) h) (λv vs' _=>List.rec (motive:=λ_=>Prop) (Y v h) (λ_ _ _=>Y (.tuple ⟨vs⟩) h) vs') vs
abbrev ahh(rs:List AB)(Y:KQ):KT:=λe tm h=>Ex.rec (motive:=λ_=>Prop) (MD h tm rs λvs=>Tf Y h vs) (λ_=>False) (MD h tm rs λvs=>Tf Y h vs) e
def aO(P:Program)(f:FuncId)(args:List Value)(h:ah)(Y:KQ):Prop:=
 match xT P f with
 | .none=>False
 | .mk c rs nt=>match Nat.ble args.length nt with
  |true=>WP P c (lay args .nil 0) h (ahh rs Y)
  |false=>False
variable {P:Program}
theorem Kz(i:XI Prop)(tm:T Value)(h:ah)(Y:KQ):i.run tm h Y=Xs i tm h Y:=by
 cases i with
 |k0 f=>rfl
 |k1 x f=>exact XI.cT ..
 |k2 x y f=>exact XI.dN ..
 |k3 x y z f=>exact XI.qB ..
 |kn xs f=>exact XI.i_ ..
theorem Tg(i:XA Prop)(tm:T Value)(Y:bT->(Nat->Value)->Prop):i.run tm Y=acR i tm Y:=by
 cases i with
 |k0 f=>rfl
 |k1 x f=>exact XA.cT ..
 |k2 x y f=>exact XA.dN ..
 |kn xs f=>exact XA.i_ ..
theorem OQ(x:Vv)(tm:T Value)(h:ah):kY x tm h=Td x tm h:=by
 unfold kY;cases x with
 |k0 f=>rfl
 |k1 x f=>exact XI.cT ..
 |k2 x y f=>exact XI.dN ..
 |k3 x y z f=>exact XI.qB ..
 |kn xs f=>exact XI.i_ ..
theorem Xu(x:OXA)(tm:T Value):xV x tm=mkW x tm:=by
 unfold xV;cases x with
 |k0 f=>rfl
 |k1 x f=>exact XA.cT ..
 |k2 x y f=>exact XA.dN ..
 |kn xs f=>exact XA.i_ ..
theorem IX(c:Call)(tm:T Value)(h:ah)(Y:KQ):oe False (CD P) P c jK tm h Y=CE P c tm h Y:=by
 unfold oe CE;cases c.callee with
 |value x=>cases x<;>(simp only[sS,fZ];rfl)
 |invoke r name=>simp only[sS,fZ];rfl
 |builtin b=>rfl
theorem CF(op:Op)(tm:T Value)(h:ah)(Y:KQ):qy False (CD P) P op jK tm h Y=me P op tm h Y:=by
 unfold qy me;rw[show(CD P).both=And from rfl];cases hR:pU False P op with
 |some i=>exact Kz ..
 |none=>
  cases hA:sH False P op with
  |some i=>exact Tg ..
  |none=>
   cases hW:Bb False And P op with
   |some i=>exact Kz ..
   |none=>
    cases op<;>try rfl
    case call c=>exact IX ..
    case next it s=>cases s<;>first|rfl|(simp only[fZ]<;>rfl)
theorem tg(tm:T Value)(s:Nat)(w:Bool):gE tm (some (s,w))=aD (cZ tm s) w:=rfl
theorem Xv(f:(Value->ah->Prop)->Prop)(tm:T Value)(h:ah)(s:Nat)(w:Bool)(d:Option Nat)(k:T Value->ah->Prop):aq (aD (cZ tm s) w) f h (λv h=>k (jS tm d v) h)=Bool.rec (motive:=λ_=>Prop) (qh tm d undef h k) (f λv h=>qh tm d v h k) (gE tm (some (s,w))):=by
 rw[tg];cases aD (cZ tm s) w with
 |true=>show f _=f _;simp only[iu]
 |false=>show k _ h=qh tm d undef h k;rw[iu]
theorem Th(all:List Oper):∀(os:List Oper)(tm:T Value)(h:ah)(Y:T Value->ah->Prop),OO P all os tm h Y=o_ False (CD P) P jK all os tm h Y:=by
 intro os
 induction os with
 |nil=>intro tm h Y;rfl
 |cons o os ih=>
  intro tm h Y;have ih':(λtm h=>OO P all os tm h Y)=λtm h=>o_ False (CD P) P jK all os tm h Y:=by funext tm h;exact ih tm h Y
  show Option.rec (motive:=λ_=>Prop) False (λg=>Option.rec (motive:=λ_=>Prop) (me P o.op tm h λv h=>(λtm h=>OO P all os tm h Y) (jS tm o.dst v) h)
    (λsw=>aq (aD (cZ tm sw.1) sw.2) (λκ'=>me P o.op tm h κ') h λv h=>(λtm h=>OO P all os tm h Y) (jS tm o.dst v) h) g) (guardOf all o)=XO.rec (motive:=λ_=>Prop)
   (λg d f=>Bool.rec (motive:=λ_=>Prop) (qh tm d undef h λtm h=>o_ False (CD P) P jK all os tm h Y)
    (f jK tm h λv h=>qh tm d v h λtm h=>o_ False (CD P) P jK all os tm h Y) (gE tm g)) (Bc False (CD P) P all o)
  rw[ih'];unfold Bc;cases guardOf all o with
  |none=>rfl
  |some g=>
   cases g with
   |none=>
    show me P o.op tm h _=qy False (CD P) P o.op jK tm h λv h=>qh tm o.dst v h _
    simp only[iu];rw[CF]
   |some sw=>
    obtain⟨s,w⟩:=sw
    show aq (aD (cZ tm s) w) (λκ'=>me P o.op tm h κ') h _=Bool.rec (motive:=λ_=>Prop) _ (qy False (CD P) P o.op jK tm h _) _
    refine(Xv (λκ'=>me P o.op tm h κ') tm h s w o.dst λtm h=>o_ False (CD P) P jK all os tm h Y).trans ?_;simp only[CF]
theorem OS(os:List Oper)(D M:Nat)(tm:T Value)(h:ah):∀uY:List It,Ep P os D M tm h uY=vS P os D M tm h uY:=by
 intro uY
 induction uY with
 |nil=>rfl
 |cons it uY ih=>
  obtain⟨k,q⟩:=it;unfold Ep vS;cases bit D k && !bit M k with
  |false=>exact ih
  |true=>
   cases iW P q.op with
   |rd x=>
    simp only[ih,OQ]
    congr 1
    cases guardOf os q with
    |none=>rfl
    |some g=>
     cases g with
     |none=>
      cases Td x tm h<;>cases q.dst<;>rfl
     |some sw=>
      obtain⟨s,w⟩:=sw;simp only[tg];cases aD (cZ tm s) w
      .rfl
      .cases Td x tm h<;>cases q.dst<;>rfl
   |al x=>exact ih
   |wr=>exact ih
theorem IY(os:List Oper)(D M:Nat)(o:Oper)(tm:T Value)(h:ah)(k:T Value->ah->Prop):Kw P os D M o tm h (λv h=>k (jS tm o.dst v) h)=(match iW P o.op with
   | .rd x=>match kY x tm h with
    |some v=>qh tm o.dst v h k
    |none=>False
   | .al x=>match xV x tm with
    |some (b,mk)=>aF False b h λn h=>qh tm o.dst (mk n) h k
    |none=>False
   | .wr=>qy False (CD P) P o.op jK tm h λv h=>qh tm o.dst v h λtm h=>
     match Be P D M (fR os 0)with
     |false=>k tm h
     |true=>match vS P os D M tm h (fR os 0)with
      |true=>k tm h
      |false=>False):=by
 unfold Kw;cases iW P o.op with
 |rd x=>
  simp only[OQ,iu];cases Td x tm h<;>rfl
 |al x=>
  simp only[Xu,iu];cases mkW x tm<;>rfl
 |wr=>
  simp only[iu,CF];cases Be P D M (fR os 0)with
  |false=>rfl
  |true=>simp only[OS];rfl
theorem OT(os:List Oper):∀(l:List Nat)(D M:Nat)(tm:T Value)(h:ah)(Y:T Value->ah->Prop),Er P os l D M tm h Y=jH False (CD P) P jK os l D M tm h Y:=by
 intro l
 induction l with
 |nil=>intro D M tm h Y;rfl
 |cons i is ih=>
  intro D M tm h Y;unfold Er jH;cases os[i]? with
  |none=>rfl
  |some o=>
   simp only[ih];cases hg:guardOf os o with
   |none=>simp only[kz,hg]
   |some g=>
    have hk:=λM'=>IY (P:=P) os D M' o tm h λtm h=>jH False (CD P) P jK os is (fW D i) M' tm h Y;cases g with
    |none=>
     refine(hk _).trans ?_;simp only[kz,hg];rfl
    |some sw=>
     obtain⟨s,w⟩:=sw;simp only[kz,hg,tg];cases aD (cZ tm s) w with
     |true=>exact hk _
     |false=>simp only[iu];rfl
theorem Ti(os:List Oper)(draw:Bool)(tm:T Value)(h:ah)(Y:T Value->ah->Prop):Te P os draw tm h Y=lG False (CD P) P jK os draw tm h Y:=by
 cases draw with
 |false=>exact Th os os tm h Y
 |true=>
  unfold Te lG;cases Cd P os with
  |none=>rfl
  |some l=>exact OT os l 0 0 tm h Y
end Go.Vai

namespace Go.Vai
open Go
variable {P:Program}{φ:ej}{h:ah}{w:World}
abbrev ok(p:Prop):Prop:=p
theorem yu:¬ok False:=id
theorem OU:iy ok (CD P) P:=
 ⟨λ_ _ h=>h,λf g hg args args' h φ w Y ha hr hgd=>by cases hg;exact hgd φ w args' ha hr⟩
theorem Es:lZ ok P jK:=by
 intro c r tm h Y φ w nt a _ _ _ _ hg;exact False.elim hg
def IZ(ss:List Nat)(nt:Nat)(tm cN:T Value):Prop:=∀t,t<nt->t∉ss->cZ cN t=cZ tm t
def sP(P:Program)(nt:Nat)(φ:ej)(h:ah)(w:World)(ds:List Deferred)(Y:KT)(ss:List Nat)(tm:T Value)(e:Exit)(a':Act)(w':World):Prop:=
 ∃x cN h' φ',e=OH x/\Y x cN h'/\TR φ' nt cN a'/\HR P φ' h' w'/\Ext φ φ' h h' w w'/\a'.defers=ds/\IZ ss nt tm cN
theorem sP.after{nt:Nat}{φ1:ej}{h1:ah}{w1:World}{ds ds1:List Deferred}{Y:KT}{ss ss1 ss2:List Nat}{tm VI acS:T Value}{e:Exit}{a2:Act}{w2:World}(hx:Ext φ φ1 h h1 w w1)(hd:ds1=ds)(hk:IZ ss1 nt tm VI)(hk':∀t,t<nt->cZ acS t=cZ VI t)(hs:∀t,t∉ss->t∉ss1/\t∉ss2)(hp:sP P nt φ1 h1 w1 ds1 Y ss2 acS e a2 w2):sP P nt φ h w ds Y ss tm e a2 w2:=by
 obtain⟨x,VJ,h2,φ2,rfl,k1,k2,k3,k4,k5,k6⟩:=hp;exact⟨x,VJ,h2,φ2,rfl,k1,k2,k3,hx.trans k4,k5.trans hd,λt ht hn=>(k6 t ht (hs t hn).2).trans ((hk' t ht).trans (hk t ht (hs t hn).1))⟩
theorem Et{n t:Nat}{l:List Nat}:t∈MB n l<->t=n\/t∈l:=by
 unfold MB;split
 .rename_i h;obtain⟨x,hx,he⟩:=List.any_eq_true.mp h;have:=c_ he;subst this;constructor
  .exact .inr
  .rintro(rfl|h')<;>assumption
 .simp
theorem rU{t:Nat}{l m:List Nat}:t∈Kx l m<->t∈l\/t∈m:=by
 induction l with
 |nil=>simp[Kx]
 |cons a l ih=>
  show t∈MB a (Kx l m)<->_
  rw[Et,ih];simp[or_assoc]
theorem yw{t:Nat}:∀{l:List Oper},t∈tf l<->∃o∈l,o.dst=some t:=by
 intro l
 induction l with
 |nil=>simp[tf]
 |cons o l ih=>
  have:tf (o::l)=match o.dst with|some d=>MB d (tf l)|none=>tf l:=rfl
  rw[this];cases hd:o.dst with
  | none=>simp only[ih];constructor
          .rintro⟨q,hq,e⟩;exact⟨q,.tail _ hq,e⟩
          .rintro⟨q,hq,e⟩;cases hq with
           |head=>rw[hd]at e;cases e
           |tail _ hq=>exact⟨q,hq,e⟩
  |some d=>
   simp only[Et,ih];constructor
   .rintro(rfl|⟨q,hq,e⟩)
    .exact⟨o,.head _,hd⟩
    .exact⟨q,.tail _ hq,e⟩
   .rintro⟨q,hq,e⟩;cases hq with
    |head=>rw[hd]at e;cases e;exact .inl rfl
    |tail _ hq=>exact .inr ⟨q,hq,e⟩
theorem OV{nt:Nat}:∀(ss:List Nat)(pre:List Value)(f:Nat->Value)(tm:T Value)(t:Nat),(∀s∈ss,s<nt)->t<nt->cZ (OP pre.length ss (pre++ss.map f) tm) t=if t∈ss then f t else cZ tm t:=by
 intro ss
 induction ss with
 |nil=>intro pre f tm t _ _;simp[OP]
 |cons s ss ih=>
  intro pre f tm t hs ht;simp only[List.map_cons,OP];have IN:aa (pre++f s::ss.map f) pre.length=f s:=by simp[aa]
  rw[IN];have hih:=ih (pre++[f s]) f (tm.bx s (f s)) t (λs hs'=>hs s (.tail _ hs')) ht;simp only[List.length_append,List.length_cons,List.length_nil,List.append_assoc,List.cons_append,List.nil_append,Nat.zero_add]at hih;rw[hih];by_cases h1:t∈ss
  .rw[if_pos h1,if_pos (.tail _ h1)]
  ·rw[if_neg h1];have h2:cZ (tm.bx s (f s)) t=if s=t then f s else cZ tm t:=by
    simp only[cZ];rw[T.mV _ _ (Nat.lt_succ_self _) (Nat.lt_succ_self _)];by_cases hst:s=t
    .rw[if_pos hst,if_pos hst]
    .rw[if_neg hst,if_neg hst]
   rw[h2];by_cases h3:s=t
   .subst h3;rw[if_pos rfl,if_pos (.head _)]
   .rw[if_neg h3,if_neg (by simp[h1,Ne.symm h3])]
theorem OW{nt:Nat}(ss:List Nat)(f:Nat->Value)(tm:T Value)(t:Nat)(hs:∀s∈ss,s<nt)(ht:t<nt):cZ (MC ss (ss.map f) tm) t=if t∈ss then f t else cZ tm t:=
 OV ss [] f tm t hs ht
theorem vj{nt:Nat}{ss:List Nat}{tm cN:T Value}(hs:∀s∈ss,s<nt)(hk:IZ ss nt tm cN):∀t,t<nt->cZ (MC ss (ss.map (cZ cN)) tm) t=cZ cN t:=by
 intro t ht;rw[OW ss _ _ t hs ht];split
 .rfl
 .rename_i h;exact(hk t ht h).symm
theorem TR.VL{nt:Nat}{ss:List Nat}{tm cN:T Value}{a:Act}(hs:∀s∈ss,s<nt)(hk:IZ ss nt tm cN)(ht:TR φ nt cN a):TR φ nt (MC ss (ss.map (cZ cN)) tm) a:=
 ⟨ht.size,ht.small,λt hlt=>by rw[vj hs hk t hlt];exact ht.rel t hlt⟩
theorem OX{nt:Nat}:∀{c:Code},codeOk nt c=true->∀s∈tJ c,s<nt:=by
 intro c
 induction c with
 |region id os d=>
  intro hc s hs;simp only[codeOk,List.all_eq_true]at hc;obtain⟨o,ho,he⟩:=yw.mp hs;have:=dX (hc o ho);rw[he]at this;exact dW this
 |seq a b iha ihb=>
  intro hc s hs;simp only[codeOk,Bool.and_eq_true]at hc;rcases rU.mp hs with h|h
  .exact iha hc.1 s h
  .exact ihb hc.2 s h
 |cond x a b iha ihb=>
  intro hc s hs;simp only[codeOk,Bool.and_eq_true]at hc;rcases rU.mp hs with h|h
  .exact iha hc.1.2 s h
  .exact ihb hc.2 s h
 |block id c ih=>intro hc s hs;exact ih hc s hs
 |loop c ih=>intro hc s hs;exact ih hc s hs
 |scope c ih=>intro hc s hs;exact ih hc s hs
 |_=>intro _ s hs;simp[tJ]at hs
theorem I4{os:Array Oper}{t:Nat}(h:t∉tf os.toList):∀(i:Nat)(o:Oper),os[i]? = some o->o.dst≠some t:=by
 intro i o ho hd;exact h (yw.mpr ⟨o,List.mem_of_getElem? (by rw[Array.getElem?_toList];exact ho),hd⟩)
theorem I7{c:Code}{r:Option Nat}{nt:Nat}{Y:KT}{lE:T Value}(hn:r=none\/qw c=true)(hc:codeOk nt c=true)(ih:∀(tm:T Value)(h:ah)(Y:KT)(φ:ej)(w:World)(a:Act),TR φ nt tm a->HR P φ h w->WP P c tm h Y->c.wpIn (FR r) 0 P (sP P nt φ h w a.defers Y (tJ c) tm) a w)(I:Nat->List Value->ah->Prop)(hI:∀n l h,I n l h->WP P c (MC (tJ c) l lE) h (toN (λl' h'=>∃m,m<n/\I m l' h') (tJ c) Y)):∀(n:Nat)(tm:T Value)(h:ah)(φ:ej)(w:World)(a:Act),IZ (tJ c) nt lE tm->TR φ nt tm a->HR P φ h w->I n ((tJ c).map (cZ tm)) h->kR r P c (sP P nt φ h w a.defers Y (tJ c) tm) a w:=by
 intro n
 induction n using Nat.strongRecOn with
 |ind n ihn=>
  intro tm h φ w a hk ht hr hi;have hs:=OX hc;refine kR.round (wpIn_mono (ih _ h _ φ w a (ht.VL hs hk) hr (hI n _ h hi)) ?_);rintro e a' w' ⟨x,cN,h',φ',rfl,g1,g2,g3,g4,g5,g6⟩;have hkeep:IZ (tJ c) nt tm cN:=λt htn hnt=>(g6 t htn hnt).trans (vj hs hk t htn);cases x with
  |normal=>
   obtain⟨m,hm,hi'⟩:=g1;have hk2:IZ (tJ c) nt lE cN:=λt htn hnt=>(hkeep t htn hnt).trans (hk t htn hnt);exact(ihn m hm cN h' φ' w' a' hk2 g2 g3 hi').mono λe a2 w2 hp=>sP.after g4 g5 hkeep (λ_ _=>rfl) (λt ht=>⟨ht,ht⟩) hp
  |exit i=>exact⟨.exit i,cN,h',φ',rfl,g1,g2,g3,g4,g5,hkeep⟩
  |ret=>exact⟨.ret,cN,h',φ',rfl,g1,g2,g3,g4,g5,hkeep⟩
theorem OY(hm:P.follows .mixedOrders=true):∀(c:Code)(r:Option Nat)(nt:Nat),(r=none\/qw c=true)->codeOk nt c=true->∀(tm:T Value)(h:ah)(Y:KT)(φ:ej)(w:World)(a:Act),
  TR φ nt tm a->HR P φ h w->WP P c tm h Y->c.wpIn (FR r) 0 P (sP P nt φ h w a.defers Y (tJ c) tm) a w:=by
 intro c
 induction c with
 |skip=>intro r nt hn hc tm h Y φ w a ht hr hg;exact wpIn_skip ⟨.normal,tm,h,φ,rfl,hg,ht,hr,Ext.refl _ _ _,rfl,λ_ _ _=>rfl⟩
 |label l=>intro r nt hn hc tm h Y φ w a ht hr hg;exact wpIn_label ⟨.normal,tm,h,φ,rfl,hg,ht,hr,Ext.refl _ _ _,rfl,λ_ _ _=>rfl⟩
 |ret=>intro r nt hn hc tm h Y φ w a ht hr hg;exact wpIn_ret ⟨.ret,tm,h,φ,rfl,hg,ht,hr,Ext.refl _ _ _,rfl,λ_ _ _=>rfl⟩
 |exit id=>intro r nt hn hc tm h Y φ w a ht hr hg;exact wpIn_exit ⟨.exit id,tm,h,φ,rfl,hg,ht,hr,Ext.refl _ _ _,rfl,λ_ _ _=>rfl⟩
 |region id os draw=>
  intro r nt hn hc tm h Y φ w a ht hr hg;have hok:∀q∈os.toList,fG nt q=true:=by
   simp only[codeOk,List.all_eq_true]at hc;exact hc
  have hg':ok (lG False (CD P) P jK os.toList draw tm h λtm h=>Y .normal tm h):=by
   have:Te P os.toList draw tm h (λtm h=>Y .normal tm h):=hg
   rwa [Ti]at this
  have hQ:∀cN h' φ' a' w',ok ((λtm h=>Y .normal tm h) cN h')->TR φ' nt cN a'->HR P φ' h' w'->Ext φ φ' h h' w w'->a'.defers=a.defers->
    (∀t,t<nt->(∀(i:Nat)(o:Oper),os[i]? = some o->o.dst≠some t)->cZ cN t=cZ tm t)->sP P nt φ h w a.defers Y (tJ (.region id os draw)) tm .normal a' w':=
   λcN h' φ' a' w' g1 g2 g3 g4 g5 g6=>⟨.normal,cN,h',φ',rfl,g1,g2,g3,g4,g5,λt ht hnt=>g6 t ht (I4 hnt)⟩
  cases draw with
  |false=>
   refine wpIn_region ?_;rw[List.range_eq_range'];have:=tY (r0:=r) (lE:=tm) yu OU Es hok hQ os.toList 0 φ tm h a w (λk=>by simp) ht hr (Ext.refl _ _ _) rfl (λ_ _ _=>rfl) hg';simpa using this
  |true=>exact s_ (good:=ok) yu OU hm jK Es os id nt hok φ tm h a w _ ht hr hg' r _ hQ
 |seq x y ihx ihy=>
  intro r nt hn hc tm h Y φ w a ht hr hg;simp only[codeOk,Bool.and_eq_true]at hc;obtain⟨Ap,hn2⟩:=xo (x:=x) (y:=y) hn rfl;have hmem:∀t,t∉tJ (.seq x y)->t∉tJ x/\t∉tJ y:=λt ht=>by
   have:¬(t∈tJ x\/t∈tJ y):=λhh=>ht (rU.mpr hh);exact not_or.mp this
  unfold WP at hg;split at hg
  .refine wpIn_seq (wpIn_mono (ihx r nt Ap hc.1 tm h _ φ w a ht hr hg) ?_);rintro e a' w' ⟨e0,cN,h',φ',rfl,g1,g2,g3,g4,g5,g6⟩;cases e0 with
   |normal=>exact wpIn_mono (ihy r nt hn2 hc.2 cN h' Y φ' w' a' g2 g3 g1) λe a2 w2 hp=>sP.after g4 g5 g6 (λ_ _=>rfl) hmem hp
   |exit i=>exact⟨.exit i,cN,h',φ',rfl,g1,g2,g3,g4,g5,λt ht hnt=>g6 t ht (hmem t hnt).1⟩
   |ret=>exact⟨.ret,cN,h',φ',rfl,g1,g2,g3,g4,g5,λt ht hnt=>g6 t ht (hmem t hnt).1⟩
  .obtain⟨J,hA,hB⟩:=hg;refine wpIn_seq (wpIn_mono (ihx r nt Ap hc.1 tm h _ φ w a ht hr hA) ?_);rintro e a' w' ⟨e0,cN,h',φ',rfl,g1,g2,g3,g4,g5,g6⟩;have hs:=OX hc.1;cases e0 with
   |normal=>exact wpIn_mono (ihy r nt hn2 hc.2 _ h' Y φ' w' a' (g2.VL hs g6) g3 (hB _ _ g1)) λe a2 w2 hp=>sP.after g4 g5 g6 (vj hs g6) hmem hp
   |exit i=>exact⟨.exit i,cN,h',φ',rfl,g1,g2,g3,g4,g5,λt ht hnt=>g6 t ht (hmem t hnt).1⟩
   |ret=>exact⟨.ret,cN,h',φ',rfl,g1,g2,g3,g4,g5,λt ht hnt=>g6 t ht (hmem t hnt).1⟩
 |cond x c1 c2 ih1 ih2=>
  intro r nt hn hc tm h Y φ w a ht hr hg;simp only[codeOk,Bool.and_eq_true]at hc;obtain⟨Ap,hn2⟩:=xo (x:=c1) (y:=c2) hn rfl;have hmem:∀t,t∉tJ (.cond x c1 c2)->t∉tJ c1/\t∉tJ c2:=λt ht=>by
   have:¬(t∈tJ c1\/t∈tJ c2):=λhh=>ht (rU.mpr hh);exact not_or.mp this
  have hg':aI (fQ tm x) (WP P c1 tm h Y) (WP P c2 tm h Y):=hg;have hx:=ht.eval hc.1.1;unfold aI at hg';split at hg'<;>try exact hg'.elim
  .rename_i hv;rw[hv]at hx;refine wpIn_cond_true (by generalize a.eval x=z at hx;cases hx;rfl) (wpIn_mono (ih1 r nt Ap hc.1.2 tm h Y φ w a ht hr hg') ?_);rintro e a' w' ⟨e0,cN,h',φ',rfl,g1,g2,g3,g4,g5,g6⟩;exact⟨e0,cN,h',φ',rfl,g1,g2,g3,g4,g5,λt ht hnt=>g6 t ht (hmem t hnt).1⟩
  .rename_i hv;rw[hv]at hx;refine wpIn_cond_false (by generalize a.eval x=z at hx;cases hx;rfl) (wpIn_mono (ih2 r nt hn2 hc.2 tm h Y φ w a ht hr hg') ?_);rintro e a' w' ⟨e0,cN,h',φ',rfl,g1,g2,g3,g4,g5,g6⟩;exact⟨e0,cN,h',φ',rfl,g1,g2,g3,g4,g5,λt ht hnt=>g6 t ht (hmem t hnt).2⟩
 |block id c ih=>
  intro r nt hn hc tm h Y φ w a ht hr hg;refine wpIn_block (wpIn_mono (ih r nt hn hc tm h _ φ w a ht hr hg) ?_);rintro e a' w' ⟨e0,cN,h',φ',rfl,g1,g2,g3,g4,g5,g6⟩;cases e0 with
  |normal=>exact⟨.normal,cN,h',φ',rfl,g1,g2,g3,g4,g5,g6⟩
  |ret=>exact⟨.ret,cN,h',φ',rfl,g1,g2,g3,g4,g5,g6⟩
  |exit i=>
   have g1':Bool.rec (motive:=λ_=>Prop) (Y (.exit i) cN h') (Y .normal cN h') (Nat.beq i id):=g1;simp only[OH,Exit.inBlock];cases hb:Nat.beq i id with
   |true=>
    rw[hb]at g1';rw[if_pos (c_ hb)];exact⟨.normal,cN,h',φ',rfl,g1',g2,g3,g4,g5,g6⟩
   |false=>
    rw[hb]at g1';rw[if_neg (pV hb)];exact⟨.exit i,cN,h',φ',rfl,g1',g2,g3,g4,g5,g6⟩
 |scope c ih=>
  intro r nt hn hc tm h Y φ w a ht hr hg;refine yg (ih r nt hn hc tm h Y φ w a ht hr hg) ?_;rintro l a' w' ⟨x,cN,h',φ',hx,_⟩;cases x<;>cases hx
 |loop c ih=>
  intro r nt hn hc tm h Y φ w a ht hr hg;obtain⟨I,⟨n,h0⟩,hI⟩:=hg;exact(I7 (c:=c) (Y:=Y) (lE:=tm) hn hc (λtm h Y φ w a=>ih r nt hn hc tm h Y φ w a) I hI n tm h φ w a (λ_ _ _=>rfl) ht hr h0).wp
 |_=>intro r nt hn hc tm h Y φ w a ht hr hg;exact False.elim hg
theorem Tj(h:ah)(tm:T Value):∀(rs:List AB)(Y:List Value->Prop),MD h tm rs Y=eU False h tm rs Y:=by
 intro rs
 induction rs with
 |nil=>intro Y;rfl
 |cons r rs ih=>
  intro Y;cases r with
  |tmp t=>simp only[eU,fZ];exact ih _
  |one a=>simp only[eU,fZ];show ax False (cZ tm a) h (λv _=>MD h tm rs λvs=>Y (v::vs))=_;simp only[ih];rfl
  |agg a s=>simp only[eU,fZ];show aN False s (cZ tm a) h (λv _=>MD h tm rs λvs=>Y (v::vs))=_;simp only[ih];rfl
  |bad=>rfl
theorem Tk(Y:KQ)(h:ah)(vs:List Value):Tf Y h vs=Ol Y h vs:=by
 cases vs with
 |nil=>rfl
 |cons v vs=>cases vs<;>rfl
theorem ay(hm:P.follows .mixedOrders=true){f:FuncId}{args:List Value}{h:ah}{Y:KQ}(hg:aO P f args h Y):aj P f args h Y:=by
 intro φ w args' ha hr;unfold aO at hg;split at hg
 .exact hg.elim
 .rename_i c rs nt hc;obtain⟨fn,hf,hb,rfl,rfl,AF,hrk,hnt,yc⟩:=tW hc;split at hg<;>try exact hg.elim
  rename_i hle;refine⟨yc _ _,?_⟩;have hst:=TR.start (nt:=fn.ntmps) ha hnt (dK hle);refine xm (r:=none) (n:=0) |>.1 (callsIn_of_wp_marks hf hb trivial (wpIn_mono (OY hm c none _ (.inl rfl) AF _ h _ φ w _ hst hr hg) ?_))
  rintro e a' w' ⟨x,cN,h',φ',rfl,g1,g2,g3,g4,g5,_⟩;have SC:a'.defers=[]:=g5
  have fin:MD h' cN (fn.results.toList.map (vR P)) (λvs=>Tf Y h' vs)->
    LeavesInM (FR none) 0 P fn a'.tmps (λe w'=>∃φ' v v' h',e=.returned v'/\ok (Y v h')/\VR φ' v v'/\HR P φ' h' w'/\Ext φ φ' h h' w w') a'.defers .returning w':=by
   intro k;rw[Tj]at k;simp only[Tk]at k;rw[SC];refine qH (a:=a') (φ':=φ') (h':=h') ?_ [] w'.heap.size w' trivial g3 g4;intro w2 N_ hx2;obtain⟨vs,vs',k1,k2,k3⟩:=qG (good:=ok) yu N_ g2 _ hrk k;refine⟨_,tV k3,?_⟩;cases k2 with
   |nil=>exact⟨φ',_,_,h',rfl,k1,VR.tuple' .nil,N_,hx2⟩
   |cons hv hvs=>
    cases hvs with
    |nil=>exact⟨φ',_,_,h',rfl,k1,hv,N_,hx2⟩
    |cons W_ hvs=>exact⟨φ',_,_,h',rfl,k1,VR.tuple' (.cons hv (.cons W_ hvs)),N_,hx2⟩
  cases x with
  |normal=>exact fin g1
  |exit i=>exact False.elim g1
  |ret=>exact fin g1
end Go.Vai

namespace Go.Vai
open Go
variable {β:Type}{fl:β}
theorem T.ME{α:Type}(a a':α)(p:List Bool):∀t:T α,T.pe a' p (T.pe a p t)=T.pe a' p t:=by
 induction p with
 |nil=>intro t;cases t<;>rfl
 |cons b p ih=>intro t;cases t<;>cases b<;>simp only[T.pe]<;>rw[ih]
theorem T.MF{α:Type}(a b:α):∀(p q:List Bool)(t:T α),p≠q->T.pe a p (T.pe b q t)=T.pe b q (T.pe a p t):=by
 intro p
 induction p with
 |nil=>
  intro q t hpq;cases q with
  |nil=>exact absurd rfl hpq
  |cons c q=>cases t<;>cases c<;>rfl
 |cons x p ih=>
  intro q t hpq;cases q with
  |nil=>cases t<;>cases x<;>rfl
  |cons c q=>
   have h:x=c->p≠q:=λe e'=>hpq (by rw[e,e']);cases x<;>cases c<;>cases t<;>simp only[T.pe]<;>first|rfl|rw[ih _ _ (h rfl)]
theorem Xw{a b:Nat}(h:a≠b):key a≠key b:=λe=>h (key_inj (Nat.lt_succ_self _) (Nat.lt_succ_self _) e)
theorem T.yx{α:Type}(t:T α)(n:Nat)(a a':α):(t.bx n a).bx n a'=t.bx n a':=T.ME a a' (key n) t
theorem T.Eu{α:Type}(t:T α){n m:Nat}(a b:α)(h:n≠m):(t.bx n a).bx m b=(t.bx m b).bx n a:=(T.MF a b (key n) (key m) t (Xw h)).symm
theorem T.au{α:Type}(t:T α){n m:Nat}(a:α)(h:n≠m):(t.bx n a).get m=t.get m:=T.iI t a (Nat.lt_succ_self _) (Nat.lt_succ_self _) h
theorem I8(vs:List Value):∀(t:T Value)(off n:Nat)(a:Value),n<off->lay vs (t.bx n a) off=(lay vs t off).bx n a:=by
 induction vs with
 |nil=>intro t off n a _;rfl
 |cons v vs ih=>
  intro t off n a h;simp only[lay];rw[T.Eu t a v XV,ih _ _ _ _ XV]
theorem Tl(vs:List Value):∀(t:T Value)(off i:Nat)(a:Value),i<vs.length->(lay vs t off).bx (off+i) a=lay (vs.set i a) t off:=by
 induction vs with
 |nil=>intro t off i a h;simp at h
 |cons v vs ih=>
  intro t off i a h;cases i with
  |zero=>
   simp only[List.set_cons_zero,lay,Nat.add_zero];rw[<-I8 vs _ _ _ _ (Nat.lt_succ_self off),T.yx]
  |succ i=>
   simp only[List.set_cons_succ,lay];rw[<-ih _ _ _ _ (by simpa using h),show off+(i+1)=off+1+i by omega]
def over(vs:List Value)(o:Nat)(ws:List Value):List Value:=vs.take o++ws++vs.drop (o+ws.length)
theorem jx{vs:List Value}{o:Nat}{ws:List Value}(h:o+ws.length<=vs.length):(over vs o ws).length=vs.length:=by
 simp[over];omega
theorem Ev(vs:List Value)(o:Nat):over vs o []=vs:=by simp[over]
theorem MG(vs:List Value)(o:Nat)(w:Value)(ws:List Value)(h:o<vs.length):over vs o (w::ws)=over (vs.set o w) (o+1) ws:=by
 simp only[over,List.length_cons];rw[List.take_succ_eq_append_getElem (by simpa using h)];simp only[List.getElem_set_self];rw[List.take_set_of_le (Nat.le_refl _),List.drop_set_of_lt XV];simp[Nat.add_comm,Nat.add_left_comm]
theorem xq(ws:List Value):∀(vs:List Value)(o:Nat),o+ws.length<=vs.length->lay ws (lay vs .nil 0) o=lay (over vs o ws) .nil 0:=by
 induction ws with
 |nil=>intro vs o _;rw[Ev];rfl
 |cons w ws ih=>
  intro vs o h;simp only[List.length_cons]at h;have h1:=Tl vs .nil 0 o w XV;rw[Nat.zero_add]at h1;rw[MG vs o w ws XV,<-ih _ _ (by simp;omega),<-h1];rfl
def ai(vs:List Value)(e:TypeId)(op:Bool):bT:=.cells vs.length (lay vs .nil 0) e op
def roO(vs:List Value)(e:TypeId):bT:=.ro vs.length (lay vs .nil 0) e
theorem OZ(vs:List Value):∀(c:T Value)(off:Nat)(i:Nat),(lay vs c off).get i=if off<=i/\i<off+vs.length then vs[i-off]? else c.get i:=by
 induction vs with
 |nil=>intro c off i;simp[lay];omega
 |cons v vs ih=>
  intro c off i;rw[lay,ih];by_cases h1:off+1<=i/\i<off+1+vs.length
  .rw[if_pos h1,if_pos (by simp;omega),show i-off=(i-(off+1))+1 by omega];simp
  .rw[if_neg h1];by_cases h2:off=i
   .subst h2;rw[T.an];simp
   .rw[T.au _ _ h2,if_neg (by simp;omega)]
theorem oq(vs:List Value)(i:Nat):(lay vs .nil 0).get i=vs[i]?:=by
 rw[OZ];by_cases h:i<vs.length
 .rw[if_pos ⟨Nat.zero_le _,XV⟩,Nat.sub_zero]
 .rw[if_neg XV,T.get_nil];symm;simp;omega
def I9(fl:β)(o:Option Value)(Y:Value->β):β:=match o with|some v=>Y v|none=>fl
theorem Bs(v:Value)(Y:Value->β):I9 fl (some v) Y=Y v:=id rfl
def qn(fl:β)(ob:Option bT)(o:Nat)(Y:Value->β):β:=match ob with
 |some (.cells n c _ _)=>match Nat.ble (Nat.succ o) n,c.get o with
  |true,some v=>Y v
  |_,_=>fl
 |some (.ro n c _)=>match Nat.ble (Nat.succ o) n,c.get o with
  |true,some v=>Y v
  |_,_=>fl
 |_=>fl
theorem Ew(b o:Nat)(h:ah)(Y:XW β):ax fl (.pointer (some ⟨b,o,none⟩)) h Y=qn fl (h.bl.get b) o λv=>Y v h:=by
 unfold ax qn;dsimp only;generalize h.bl.get b=z;cases z with
 |none=>rfl
 |some ob=>cases ob<;>rfl
theorem rV(vs:List Value)(e:TypeId)(op:Bool)(o:Nat)(Y:Value->β):qn fl (some (ai vs e op)) o Y=I9 fl vs[o]? Y:=by
 unfold qn ai;simp only[oq];by_cases h:o<vs.length
 .rw[show Nat.ble (Nat.succ o) vs.length=true from Nat.ble_eq_true_of_le h,List.getElem?_eq_getElem h];rfl
 ·have:Nat.ble (Nat.succ o) vs.length=false:=by
   cases hb:Nat.ble (Nat.succ o) vs.length with
   |false=>rfl
   |true=>exact absurd (Nat.le_of_ble_eq_true hb) h
  rw[this,List.getElem?_eq_none XV];rfl
theorem O0(vs:List Value)(e:TypeId)(o:Nat)(Y:Value->β):qn fl (some (roO vs e)) o Y=I9 fl vs[o]? Y:=rV vs e false o Y
theorem yy(vs:List Value)(off:Nat):∀(n:Nat)(acc:List Value)(Y:List Value->β),off+n<=vs.length->jV fl (lay vs .nil 0) off n acc Y=Y ((vs.drop off).take n++acc):=by
 intro n
 induction n with
 |zero=>intro acc Y _;simp;rfl
 |succ n ih=>
  intro acc Y h
  show Option.rec (motive:=λ_=>β) fl (λv=>jV fl (lay vs .nil 0) off n (v::acc) Y) ((lay vs .nil 0).get (Nat.add off n))=_
  rw[oq,show Nat.add off n=off+n from rfl,List.getElem?_eq_getElem XV]
  show jV fl (lay vs .nil 0) off n (vs[off+n]::acc) Y=_
  rw[ih _ _ XV,List.take_succ_eq_append_getElem (by simp;omega)];simp
def Aq(fl:β)(ob:Option bT)(o s:Nat)(Y:List Value->β):β:=match ob with
 |some (.cells n c _ _)=>match Nat.ble (Nat.add o s) n with
  |true=>jV fl c o s [] Y
  |false=>fl
 |some (.ro n c _)=>match Nat.ble (Nat.add o s) n with
  |true=>jV fl c o s [] Y
  |false=>fl
 |_=>fl
theorem Ey(s b o:Nat)(h:ah)(Y:XW β):aN fl s (.pointer (some ⟨b,o,none⟩)) h Y=Aq fl (h.bl.get b) o s λl=>Y (.agg ⟨l⟩) h:=by
 unfold aN Aq;dsimp only;generalize h.bl.get b=z;cases z with
 |none=>rfl
 |some ob=>cases ob<;>rfl
theorem vl(vs:List Value)(e:TypeId)(op:Bool)(o s:Nat)(Y:List Value->β)(h:o+s<=vs.length):Aq fl (some (ai vs e op)) o s Y=Y ((vs.drop o).take s):=by
 unfold Aq ai;simp only;rw[show Nat.ble (Nat.add o s) vs.length=true from Nat.ble_eq_true_of_le h];simp only;rw[yy _ _ _ _ _ h,List.append_nil]
theorem O1(vs:List Value)(e:TypeId)(o s:Nat)(Y:List Value->β)(h:o+s<=vs.length):Aq fl (some (roO vs e)) o s Y=Y ((vs.drop o).take s):=vl vs e false o s Y h
theorem dJ(o:bT)(h:ah)(Y:Nat->ah->β):aF fl o h Y=Y h.nx ⟨h.nx+1,h.bl.bx h.nx o,h.lo⟩:=by
 unfold aF;rw[T.cQ,bR]
theorem bI(b:Nat)(o:bT)(h:ah)(Y:ah->β)(hlo:h.lo<=b):setBlock fl b o h Y=Y ⟨h.nx,h.bl.bx b o,h.lo⟩:=by
 unfold setBlock;rw[Nat.ble_eq_true_of_le hlo,T.cQ]
theorem iS(vs:List Value)(e:TypeId)(op:Bool)(Y:bT->β)(hl:vs.length<=1000000000000):aK fl vs e op Y=Y (ai vs e op):=by
 unfold aK;rw[xh];simp only[Nat.zero_add];rw[Nat.ble_eq_true_of_le hl];rfl
theorem rW(n:Nat):∀(ws:List Value)(c:T Value)(o:Nat)(Y:T Value->β),o+ws.length<=n->(ws.all eO)=true->nI fl n ws c o Y=Y (lay ws c o):=by
 intro ws
 induction ws with
 |nil=>intro c o Y _ _;rfl
 |cons v ws ih=>
  intro c o Y h1 h2;simp only[List.all_cons,Bool.and_eq_true,List.length_cons]at h1 h2
  show Bool.rec (motive:=λ_=>β) fl (Bool.rec (motive:=λ_=>β) fl (T.set c o v λc=>nI fl n ws c (Nat.succ o) Y) (Nat.ble (Nat.succ o) n)) (eO v)=_
  rw[h2.1,Nat.ble_eq_true_of_le XV];simp only[T.cQ];rw[ih _ _ _ XV h2.2];rfl
def DJ(fl:β)(ob:Option bT)(s b o:Nat)(ws:List Value)(h:ah)(Y:ah->β):β:=match ob with
 |some (.cells n c e op)=>match Nat.beq ws.length s with
  |true=>nI fl n ws c o λc=>setBlock fl b (.cells n c e op) h Y
  |false=>fl
 |_=>fl
theorem Bt(s b o:Nat)(v:Value)(h:ah)(Y:XW β):aM fl s (.pointer (some ⟨b,o,none⟩)) v h Y=DJ fl (h.bl.get b) s b o v.cells.toList h λh=>Y undef h:=by
 unfold aM DJ;dsimp only;generalize h.bl.get b=z;cases z with
 |none=>rfl
 |some ob=>cases ob<;>rfl
theorem ou(vs:List Value)(e:TypeId)(op:Bool)(s b o:Nat)(ws:List Value)(h:ah)(Y:ah->β)(h1:ws.length=s)(h2:ws.all eO=true)(h3:o+s<=vs.length)(hlo:h.lo<=b):DJ fl (some (ai vs e op)) s b o ws h Y=Y ⟨h.nx,h.bl.bx b (ai (over vs o ws) e op),h.lo⟩:=by
 subst h1;unfold DJ ai;simp only;rw[show Nat.beq ws.length ws.length=true from Nat.beq_refl _];simp only;rw[rW _ _ _ _ _ h3 h2,bI _ _ _ _ hlo,xq _ _ _ h3,jx h3]
theorem Ez(v:Value)(h:ah)(Y:KQ):aJ (some v) h Y=Y v h:=id rfl
theorem yz(o:bT)(mk:Nat->Value)(h:ah)(Y:KQ):Br (some (o,mk)) h Y=Y (mk h.nx) ⟨h.nx+1,h.bl.bx h.nx o,h.lo⟩:=by
 show aF False o h (λn h=>Y (mk n) h)=_;rw[dJ]
theorem yA(p:Prop):cV true p=p:=id rfl
theorem yB(b:Bool):aD (.bool b) true=b:=by cases b<;>exact id rfl
theorem wk(b:Bool):aD (.bool b) false=!b:=by cases b<;>exact id rfl
theorem wq(f:(Value->ah->Prop)->Prop)(h:ah)(Y:KQ):aq true f h Y=f Y:=id rfl
theorem t_(f:(Value->ah->Prop)->Prop)(h:ah)(Y:KQ):aq false f h Y=Y undef h:=id rfl
theorem yC(A B:Prop):aI (.bool true) A B=A:=id rfl
theorem wu(A B:Prop):aI (.bool false) A B=B:=id rfl
theorem KA(n:Int)(h : -9223372036854775808<=n/\n<=9223372036854775807):IntKind.i64.wrap n=n:=IntWalk.i64_in _ h
theorem KB(P:Program)(t:TypeId)(cn gd:Bool)(a b:Int)(h:ah)(Y:XW β):aG fl P .add t cn gd (.int .i64 a) (.int .i64 b) h Y=Y (.int .i64 (IntKind.i64.wrap (a+b))) h:=by
 simp only[aG,fU,lQ,gI,ef];rfl
theorem KC(P:Program)(t:TypeId)(cn gd:Bool)(a b:Int)(h:ah)(Y:XW β):aG fl P .sub t cn gd (.int .i64 a) (.int .i64 b) h Y=Y (.int .i64 (IntKind.i64.wrap (a-b))) h:=by
 simp only[aG,fU,lQ,gI,ef];rfl
theorem KD(P:Program)(t:TypeId)(cn gd:Bool)(a b:Int)(h:ah)(Y:XW β):aG fl P .mul t cn gd (.int .i64 a) (.int .i64 b) h Y=Y (.int .i64 (IntKind.i64.wrap (a*b))) h:=by
 simp only[aG,fU,lQ,gI,ef];rfl
theorem xu(P:Program)(t:TypeId)(cn gd:Bool)(a b:Int)(h:ah)(Y:XW β)(hb:b≠0):aG fl P .quo t cn gd (.int .i64 a) (.int .i64 b) h Y=Y (.int .i64 (IntKind.i64.wrap (Int.tdiv a b))) h:=by
 simp only[aG,fU,lQ,gI,ef,fS,hb,decide_false]
theorem Tm(P:Program)(t:TypeId)(cn gd:Bool)(a b:Int)(h:ah)(Y:XW β)(hb:b≠0):aG fl P .rem t cn gd (.int .i64 a) (.int .i64 b) h Y=Y (.int .i64 (Int.tmod a b)) h:=by
 simp only[aG,fU,lQ,gI,fS,hb,decide_false]
theorem KE(P:Program)(t:TypeId)(cn gd:Bool)(k:IntKind)(a b:Int)(h:ah)(Y:XW β):aG fl P .eql t cn gd (.int k a) (.int k b) h Y=Y (.bool (decide (a=b))) h:=by
 simp only[aG,gU,decide_true,lQ,cF,fS]
theorem KH(P:Program)(t:TypeId)(cn gd:Bool)(k:IntKind)(a b:Int)(h:ah)(Y:XW β):aG fl P .neq t cn gd (.int k a) (.int k b) h Y=Y (.bool (!decide (a=b))) h:=by
 simp only[aG,gU,decide_true,lQ,cF,fS]
theorem KI(P:Program)(t:TypeId)(cn gd:Bool)(k:IntKind)(a b:Int)(h:ah)(Y:XW β):aG fl P .lss t cn gd (.int k a) (.int k b) h Y=Y (.bool (decide (a<b))) h:=by
 simp only[aG,gU,decide_true,lQ,cF,iq]
theorem KJ(P:Program)(t:TypeId)(cn gd:Bool)(k:IntKind)(a b:Int)(h:ah)(Y:XW β):aG fl P .gtr t cn gd (.int k a) (.int k b) h Y=Y (.bool (decide (b<a))) h:=by
 simp only[aG,gU,decide_true,lQ,cF,iq]
theorem KK(P:Program)(t:TypeId)(cn gd:Bool)(k:IntKind)(a b:Int)(h:ah)(Y:XW β):aG fl P .leq t cn gd (.int k a) (.int k b) h Y=Y (.bool (!decide (b<a))) h:=by
 simp only[aG,gU,decide_true,lQ,cF,iq]
theorem KL(P:Program)(t:TypeId)(cn gd:Bool)(k:IntKind)(a b:Int)(h:ah)(Y:XW β):aG fl P .geq t cn gd (.int k a) (.int k b) h Y=Y (.bool (!decide (a<b))) h:=by
 simp only[aG,gU,decide_true,lQ,cF,iq]
theorem O4(b:Bool)(h:ah)(Y:XW β):jB fl .not (.bool b) h Y=Y (.bool (!b)) h:=by simp only[jB,cF]
theorem O5(a:Int)(h:ah)(Y:XW β):jB fl .neg (.int .i64 a) h Y=Y (.int .i64 (IntKind.i64.wrap (0-a))) h:=by simp only[jB,gI,ef];rfl
theorem EA(k:IntKind)(a:Int)(h:ah)(Y:XW β):lU fl .i64 (.int k a) h Y=Y (.int .i64 (IntKind.i64.wrap a)) h:=by simp only[lU,gI,ef]
theorem Bu(a b:Value)(h:ah)(Y:XW β):bD fl (.bool true) a b h Y=Y a h:=id rfl
theorem yD(a b:Value)(h:ah)(Y:XW β):bD fl (.bool false) a b h Y=Y b h:=id rfl
theorem bX(x:Option Addr)(n c:Nat)(h:ah)(Y:XW β):bh fl (.slice x n c) h Y=Y (.int .i64 (n:Int)) h:=id rfl
theorem ua(off b o:Nat)(h:ah)(Y:XW β):af fl off (.pointer (some ⟨b,o,none⟩)) h Y=Y (.pointer (some ⟨b,o+off,none⟩)) h:=by simp only[af,bR];rfl
theorem KM(a:Addr)(h:ah)(Y:XW β):aT fl (.pointer (some a)) h Y=Y (.pointer (some a)) h:=id rfl
theorem xw(f:FuncId)(a b:Array Value)(h:ah)(Y:XW β):aT fl (.func (.func f) a b) h Y=Y (.func (.func f) a b) h:=id rfl
theorem Bv(a:Value)(l:List Value)(h:ah)(Y:XW β):aH fl 0 (.tuple ⟨a::l⟩) h Y=Y a h:=id rfl
theorem Bw(a b:Value)(l:List Value)(h:ah)(Y:XW β):aH fl 1 (.tuple ⟨a::b::l⟩) h Y=Y b h:=id rfl
theorem Bx(a b c:Value)(l:List Value)(h:ah)(Y:XW β):aH fl 2 (.tuple ⟨a::b::c::l⟩) h Y=Y c h:=id rfl
theorem aX(s b o n c i:Nat)(h:ah)(Y:XW β)(hi:i<n):az fl s (.slice (some ⟨b,o,none⟩) n c) (.int .i64 (i:Int)) h Y=Y (.pointer (some ⟨b,o+i*s,none⟩)) h:=by
 show(match Nat.ble (Nat.succ i) n with|true=>_|_=>_)=_
 rw[show Nat.ble (Nat.succ i) n=true from Nat.ble_eq_true_of_le hi];simp only[bR];rfl
theorem EB(P:Program)(f:FuncId)(a b:Array Value)(args:List Value)(h:ah)(Y:KQ):jL P (.func (.func f) a b) args h Y=aj P f (a.toList++args++b.toList) h Y:=id rfl
theorem bq{p:Prop}[Decidable p](h:p):decide p=true:=decide_eq_true h
theorem a_{p:Prop}[Decidable p](h:¬p):decide p=false:=decide_eq_false h
theorem dw{a b:Int}(h:a<b):decide (a<b)=true:=decide_eq_true h
theorem b_{a b:Int}(h:b<=a):decide (a<b)=false:=decide_eq_false XV
theorem acV{a b:Int}(h:a=b):decide (a=b)=true:=decide_eq_true h
theorem KN{a b:Int}(h:a<b):decide (a=b)=false:=decide_eq_false XV
theorem VM{a b:Int}(h:b<a):decide (a=b)=false:=decide_eq_false XV
structure Le(h h':ah):Prop where
 nx:h.nx<=h'.nx
 lo:h'.lo=h.lo
 get:∀b,b<h.nx->h'.bl.get b=h.bl.get b
theorem Le.refl(h:ah):Le h h:=⟨Nat.le_refl _,rfl,λ_ _=>rfl⟩
theorem Le.trans{a b c:ah}(x:Le a b)(y:Le b c):Le a c:=⟨Nat.le_trans x.nx y.nx,y.lo.trans x.lo,λi hi=>(y.get i (Nat.lt_of_lt_of_le hi x.nx)).trans (x.get i hi)⟩
theorem Le.new{a h:ah}(x:Le a h)(o:bT):Le a ⟨h.nx+1,h.bl.bx h.nx o,h.lo⟩:=
 ⟨Nat.le_succ_of_le x.nx,x.lo,λi hi=>(T.au _ _ (by have:=x.nx;omega)).trans (x.get i hi)⟩
theorem Le.set{a h:ah}(x:Le a h){b:Nat}(hb:a.nx<=b)(o:bT):Le a ⟨h.nx,h.bl.bx b o,h.lo⟩:=
 ⟨x.nx,x.lo,λi hi=>(T.au _ _ XV).trans (x.get i hi)⟩
theorem oR(h:ah)(o:bT):∃A:ah,A=⟨h.nx+1,h.bl.bx h.nx o,h.lo⟩/\Le h A/\A.bl.get h.nx=some o/\A.nx=h.nx+1/\A.lo=h.lo:=
 ⟨_,rfl,(Le.refl h).new _,T.an _ _ _,rfl,rfl⟩
theorem DK(h:ah)(o p:bT):∃A:ah,A=⟨h.nx+1+1,(h.bl.bx h.nx o).bx (h.nx+1) p,h.lo⟩/\Le h A/\A.bl.get h.nx=some o/\A.bl.get (h.nx+1)=some p/\A.nx=h.nx+1+1/\A.lo=h.lo:=
 ⟨_,rfl,((Le.refl h).new _).new _,(T.au _ _ XV).trans (T.an _ _ _),T.an _ _ _,rfl,rfl⟩
abbrev XZ(v : Value)(_ : ah):Option Value := some v
theorem Le.up{h h' : ah}(x : Le h h'){b : Nat}{o : Option bT}(g : h.bl.get b = o)(k : b < h.nx := by omega):h'.bl.get b = o := (x.get _ k).trans g
end Go.Vai

namespace Go.Vai
open Go Go.RowKit
variable {β:Type}{fl:β}{P:Program}
theorem CG{φ:ej}{v:Value}(hv:n_ v=true):VR φ v v:=by
 cases v<;>first|exact VR.n_ hv|(exact VR.qC (F2.n_ hv))|cases hv
theorem O6{φ:ej}:∀{l l':List Value},l.all ki=true->F2 (VR φ) l l'->l'=l:=by
 intro l
 induction l with
 |nil=>intro l' _ h;cases h;rfl
 |cons v l ih=>
  intro l' hs h;simp only[List.all_cons,Bool.and_eq_true]at hs;cases h with
  |cons h1 h2=>rw[ih hs.2 h2,VR.Tc hs.1 h1]
theorem pE{φ:ej}{v v':Value}(hv:n_ v=true)(h:VR φ v v'):v'=v:=by
 cases h with
 |agg a a' ha Il=>
  have:=O6 (l':=a'.toList) hv (F2.pg ha Il);obtain⟨l⟩:=a;obtain⟨l'⟩:=a';simp only at this;rw[this]
 |bool=>rfl
 |int=>rfl
 |string=>rfl
 |_=>cases hv
theorem EC{φ:ej}:∀{l:List Value},l.all n_=true->F2 (VR φ) l l:=by
 intro l
 induction l with
 |nil=>intro _;exact .nil
 |cons v l ih=>
  intro h;simp only[List.all_cons,Bool.and_eq_true]at h;exact .cons (CG h.1) (ih h.2)
theorem ED{φ:ej}:∀{l l':List Value},l.all n_=true->F2 (VR φ) l l'->l'=l:=by
 intro l
 induction l with
 |nil=>intro l' _ h;cases h;rfl
 |cons v l ih=>
  intro l' hs h;simp only[List.all_cons,Bool.and_eq_true]at hs;cases h with
  |cons h1 h2=>rw[ih hs.2 h2,pE hs.1 h1]
def bW(P:Program)(n:Nat)(f:FuncId)(args:List Value)(v:Value):Bool:=
 args.all n_ && n_ v && jG false Tb P (run false Tb P n) f args ⟨0,.nil,0⟩ λv' _=>je 8 v' v
theorem xx(hm:P.follows .mixedOrders=true){n:Nat}{f:FuncId}{args:List Value}{v:Value}(ha:bW P n f args v=true){h:ah}{Y:KQ}(hk:Y v h):aj P f args h Y:=by
 intro φ w args' hf hr;have hfl:¬yes false:=by simp[yes]
 simp only[bW,Bool.and_eq_true]at ha;obtain⟨⟨ha1,hv⟩,ha2⟩:=ha;have:=ED ha1 hf;subst this;have hc:=gF (good:=yes) (w:=w) hfl (CC (P:=P)) (Bo (good:=yes) hfl CC (s_ hfl CC hm) n).1 (EC ha1) (HR.start hr.side.none) ha2;refine⟨hc.1,Calls.mono hc.2 ?_⟩;rintro e w' ⟨φ',v1,v',h',rfl,g1,g2,g3,g4⟩;have e1:=Cs 8 _ _ g1;subst e1;have hfr:∀B,B<w.heap.size->w'.heap[B]? = w.heap[B]?:=λB hB=>g4.Cg B hB λb pl e=>by cases e
 refine⟨φ,v1,v',h,rfl,hk,by rw[pE hv g2];exact CG hv,?_,?_⟩
 .exact⟨λb o pl h1 h2=>by rw[hfr _ (hr.dom b pl h2).2];exact hr.obj b o pl h1 h2,λb pl h1=>⟨(hr.dom b pl h1).1,Nat.lt_of_lt_of_le (hr.dom b pl h1).2 g4.size⟩,hr.keys,hr.S0,hr.inj,hr.lo,hr.side.heap λB hB _=>hfr B hB⟩
 .exact⟨Sub.refl φ,λb pl e e'=>(by rw[e]at e';cases e'),Nat.le_refl _,g4.size,λB hB _=>hfr B hB,λ_ _ _=>rfl,g4.tape,g4.os,g4.output,λ_ _=>trivial,rfl,λ_ _=>rfl,λb o pl _ _ _ _ hB=>hfr _ hB,g4.dr⟩
def CH(v:Value)(_h:ah):Prop:=v=.bool true
def Has(ob:Option bT)(o:Nat)(ws:List Value):Prop:=
 ∃n c e,(ob=some (.ro n c e)\/∃op,ob=some (.cells n c e op))/\o+ws.length<=n/\∀j v,ws[j]? = some v->c.get (o+j)=some v
theorem Has.cells{vs:List Value}{e:TypeId}{op:Bool}{o k:Nat}(h:o+k<=vs.length):Has (some (ai vs e op)) o ((vs.drop o).take k):=by
 refine⟨vs.length,lay vs .nil 0,e,.inr ⟨op,rfl⟩,by simp;omega,λj v hj=>?_⟩;rw[oq];rw[List.getElem?_take]at hj;split at hj
 .simpa[List.getElem?_drop]using hj
 .cases hj
theorem Has.all{vs:List Value}{e:TypeId}{op:Bool}:Has (some (ai vs e op)) 0 vs:=by
 have:=Has.cells (vs:=vs) (e:=e) (op:=op) (o:=0) (k:=vs.length) XV;simpa using this
theorem Has.sub{ob:Option bT}{o:Nat}{ws:List Value}(h:Has ob o ws)(i k:Nat)(hk:i+k<=ws.length):Has ob (o+i) ((ws.drop i).take k):=by
 obtain⟨n,c,e,h1,h2,h3⟩:=h;refine⟨n,c,e,h1,by simp;omega,λj v hj=>?_⟩;rw[List.getElem?_take]at hj;split at hj
 .rw[List.getElem?_drop]at hj;rw[Nat.add_assoc];exact h3 _ _ hj
 .cases hj
theorem cO{ob:Option bT}{o:Nat}{ws:List Value}(h:Has ob o ws)(j:Nat)(Y:Value->β):j<ws.length->qn fl ob (o+j) Y=I9 fl ws[j]? Y:=by
 intro hj;obtain⟨n,c,e,h1,h2,h3⟩:=h;have hle:Nat.ble (Nat.succ (o+j)) n=true:=Nat.ble_eq_true_of_le XV;have hv:=h3 j _ (List.getElem?_eq_getElem hj);rw[List.getElem?_eq_getElem hj];rcases h1 with rfl|⟨op,rfl⟩<;>simp only[qn,hle,hv,I9]
theorem By(c:T Value)(ws:List Value)(off:Nat):∀(n:Nat)(acc:List Value)(Y:List Value->β),n<=ws.length->(∀j v,ws[j]? = some v->c.get (off+j)=some v)->jV fl c off n acc Y=Y (ws.take n++acc):=by
 intro n
 induction n with
 |zero=>intro acc Y _ _;simp;rfl
 |succ n ih=>
  intro acc Y h hc
  show Option.rec (motive:=λ_=>β) fl (λv=>jV fl c off n (v::acc) Y) (c.get (Nat.add off n))=_
  rw[show Nat.add off n=off+n from rfl,hc n _ (List.getElem?_eq_getElem XV)]
  show jV fl c off n (ws[n]::acc) Y=_
  rw[ih _ _ XV hc,List.take_succ_eq_append_getElem XV];simp only[List.append_assoc,List.cons_append,List.nil_append]
theorem pG{ob:Option bT}{o:Nat}{ws:List Value}(h:Has ob o ws)(s:Nat)(Y:List Value->β)(hs:s=ws.length):Aq fl ob o s Y=Y ws:=by
 obtain⟨n,c,e,h1,h2,h3⟩:=h;subst hs;have hle:Nat.ble (Nat.add o ws.length) n=true:=Nat.ble_eq_true_of_le h2;rcases h1 with rfl|⟨op,rfl⟩<;>simp only[Aq,hle]<;>rw[By c ws o _ _ _ (Nat.le_refl _) h3]<;>simp
theorem jy(h:ah)(size n:Nat)(x:Value)(Y:List Value->β)(h0:n*size=0):fo fl h size n x Y=Y []:=by
 unfold fo;rw[show Nat.mul n size=0 from h0]
theorem jX{h:ah}{b o:Nat}{ws:List Value}(hh:Has (h.bl.get b) o ws)(size n l c:Nat)(Y:List Value->β)(hn:n*size=ws.length):fo fl h size n (.slice (some ⟨b,o,none⟩) l c) Y=Y ws:=by
 unfold fo;rw[show Nat.mul n size=ws.length from hn];cases hw:ws with
 |nil=>rfl
 |cons w0 ws0=>
  obtain⟨nn,cc,e,h1,h2,h3⟩:=hh;rw[hw]at h2 h3;have hle:Nat.ble (Nat.add o (Nat.succ ws0.length)) nn=true:=Nat.ble_eq_true_of_le (by simpa using h2);have fin:jV fl cc o (Nat.succ ws0.length) [] Y=Y (w0::ws0):=by
   rw[By cc (w0::ws0) o _ _ _ (by simp) h3]
   congr 1
   simp
  rcases h1 with h1|⟨op,h1⟩<;>simp only[List.length_cons,h1,hle]<;>exact fin
section
variable {α:Type}(enc:α->List Value)(s:Nat)
def Sl(h:ah)(v:Value)(L:List α):Prop:=
 ∃x cap,v=.slice x L.length cap/\(L≠[]->∃b o,x=some ⟨b,o,none⟩/\b<h.nx/\Has (h.bl.get b) o (L.flatMap enc))
variable {enc s}
theorem Sl.le{h h':ah}{v:Value}{L:List α}(hs:Sl enc h v L)(hl:Le h h'):Sl enc h' v L:=by
 obtain⟨x,cap,h1,h2⟩:=hs;refine⟨x,cap,h1,λhn=>?_⟩;obtain⟨b,o,e1,e2,e3⟩:=h2 hn;exact⟨b,o,e1,Nat.lt_of_lt_of_le e2 hl.nx,by rw[hl.get b e2];exact e3⟩
theorem Sl.nil(h:ah)(x:Option Addr)(cap:Nat):Sl enc h (.slice x 0 cap) ([]:List α):=⟨x,cap,rfl,λhn=>absurd rfl hn⟩
theorem bg(he:∀a:α,(enc a).length=s)(L:List α):(L.flatMap enc).length=L.length*s:=by
 induction L with
 |nil=>simp
 |cons a L ih=>simp[he,ih,Nat.succ_mul,Nat.add_comm]
theorem uc(he:∀a:α,(enc a).length=s):∀(L:List α)(i:Nat)(hi:i<L.length),((L.flatMap enc).drop (i*s)).take s=enc L[i]:=by
 intro L
 induction L with
 |nil=>intro i hi;simp at hi
 |cons a L ih=>
  intro i hi;cases i with
  |zero=>simp[List.take_append,he]
  |succ i=>
   have:=ih i (by simpa using hi);simp only[List.flatMap_cons,List.getElem_cons_succ];rw[<-this,List.drop_append,show(enc a).drop ((i+1)*s)=[]from List.drop_eq_nil_of_le (by rw[he,Nat.succ_mul];omega),he,show(i+1)*s-s=i*s by rw[Nat.succ_mul];omega];rfl
theorem Sl.elem{h:ah}{v:Value}{L:List α}(hs:Sl enc h v L)(he:∀a:α,(enc a).length=s)(i:Nat)(hi:i<L.length):∃b o cap,v=.slice (some ⟨b,o,none⟩) L.length cap/\b<h.nx/\Has (h.bl.get b) (o+i*s) (enc L[i]):=by
 obtain⟨x,cap,h1,h2⟩:=hs;obtain⟨b,o,e1,e2,e3⟩:=h2 (by intro e;rw[e]at hi;simp at hi);subst e1;refine⟨b,o,cap,h1,e2,?_⟩;have hle:i*s+s<=(L.flatMap enc).length:=by
  rw[bg he,<-Nat.succ_mul];exact Nat.mul_le_mul_right _ hi
 have:=e3.sub (i*s) s hle
 rwa [uc he L i hi]at this
theorem Sl.len{h:ah}{v:Value}{L:List α}(hs:Sl enc h v L)(Y:XW β)(h':ah):bh fl v h' Y=Y (.int .i64 (L.length:Int)) h':=by
 obtain⟨x,cap,rfl,_⟩:=hs;rfl
theorem Sl.at{h:ah}{v:Value}{L:List α}(hs:Sl enc h v L)(he:∀a:α,(enc a).length=s)(i:Nat)(hi:i<L.length):∃b o,b<h.nx/\Has (h.bl.get b) o (enc L[i])/\∀(β:Type)(fl:β)(h':ah)(Y:XW β),az fl s v (.int .i64 (i:Int)) h' Y=Y (.pointer (some ⟨b,o,none⟩)) h':=by
 obtain⟨b,o,cap,rfl,h1,h2⟩:=hs.elem he i hi;exact⟨b,o+i*s,h1,h2,λβ fl h' Y=>aX s b o _ cap i h' Y hi⟩
theorem Sl.ld{h:ah}{v:Value}{L:List α}(hs:Sl enc h v L)(he:∀a:α,(enc a).length=s)(i:Nat){p:α}(hp:L[i]? = some p):∃b o,b<h.nx/\(∀(β:Type)(fl:β)(h':ah)(Y:XW β),az fl s v (.int .i64 (i:Int)) h' Y=Y (.pointer (some ⟨b,o,none⟩)) h')/\
   (∀(β:Type)(fl:β)(Y:List Value->β),Aq fl (h.bl.get b) o s Y=Y (enc p))/\Has (h.bl.get b) o (enc p):=by
 obtain⟨hi,rfl⟩:=List.getElem?_eq_some_iff.1 hp;obtain⟨b,o,h1,h2,h3⟩:=hs.at he i hi;exact⟨b,o,h1,h3,λβ fl Y=>pG h2 s Y (he _).symm,h2⟩
theorem Sl.first{h:ah}{v:Value}{L:List α}(hs:Sl enc h v L)(he:∀a:α,(enc a).length=s)(Y:List Value->β):fo fl h s L.length v Y=Y (L.flatMap enc):=by
 by_cases hn:L=[]
 .subst hn;rw[jy _ _ _ _ _ (by simp)];rfl
 .obtain⟨x,cap,rfl,h2⟩:=hs;obtain⟨b,o,rfl,e2,e3⟩:=h2 hn;exact jX e3 _ _ _ _ _ (bg he L).symm
theorem Sl.new{h:ah}{b:Nat}{L:List α}{e:TypeId}{op:Bool}(hb:b<h.nx)(hg:h.bl.get b=some (ai (L.flatMap enc) e op))(cap:Nat):Sl enc h (.slice (some ⟨b,0,none⟩) L.length cap) L:=
 ⟨_,cap,rfl,λ_=>⟨b,0,rfl,hb,by rw[hg];exact Has.all⟩⟩
variable (enc)
def eG(a:ah)(e:TypeId)(h:ah)(v:Value)(L:List α):Prop:=
 (L=[]/\(v=.slice none 0 0\/∃b o,v=.slice (some ⟨b,o,none⟩) 0 0))\/∃b,v=.slice (some ⟨b,0,none⟩) L.length aS/\a.nx<=b/\b<h.nx/\h.lo<=b/\h.bl.get b=some (ai (L.flatMap enc) e true)
variable {enc}
theorem eG.sl{a h:ah}{e:TypeId}{v:Value}{L:List α}(ho:eG enc a e h v L):Sl enc h v L:=by
 rcases ho with⟨rfl,rfl|⟨b,o,rfl⟩⟩|⟨b,rfl,h1,h2,h3,h4⟩
 .exact Sl.nil _ _ _
 .exact Sl.nil _ _ _
 .exact Sl.new h2 h4 _
theorem eG.le{a h h':ah}{e:TypeId}{v:Value}{L:List α}(ho:eG enc a e h v L)(hl:Le h h'):eG enc a e h' v L:=by
 rcases ho with ho|⟨b,h0,h1,h2,h3,h4⟩
 .exact .inl ho
 .exact .inr ⟨b,h0,h1,Nat.lt_of_lt_of_le h2 hl.nx,by rw[hl.lo];exact h3,by rw[hl.get b h2];exact h4⟩
theorem append_nil{both:β->β->β}{h:ah}{e:TypeId}{z:List Value}{v x:Value}(hx:Sl enc h x ([]:List α))(hv:∃b n c,v=.slice b n c)(Y:XW β):bt fl both e s z false v x h Y=Y v h:=by
 obtain⟨b,n,c,rfl⟩:=hv;obtain⟨y,cap,rfl,_⟩:=hx;simp only[bt,jf,List.length_nil];rw[jy _ _ _ _ _ (by simp)]
set_option maxRecDepth 20000 in
theorem I_{a h:ah}{e:TypeId}{z:List Value}{v x:Value}{L M:List α}(he:∀a:α,(enc a).length=s)(hone:∀a:α,(enc a).all eO=true)(hs0:0<s)(hs1:s<=100)(ho:eG enc a e h v L)(hx:Sl enc h x M)(hle:Le a h)(hb:L.length+M.length<=1000000)(hal:h.lo<=h.nx)(Y:KQ)(hk:∀v' h',eG enc a e h' v' (L++M)->Le a h'->h'.nx<=h.nx+1->h.nx<=h'.nx->Y v' h'):bt False And e s z false v x h Y:=by
 by_cases hM:M=[]
 .subst hM;rw[append_nil hx (by rcases ho with⟨rfl,rfl|⟨b,o,rfl⟩⟩|⟨b,rfl,_⟩<;>exact⟨_,_,_,rfl⟩)];exact hk v h (by simpa using ho) hle (Nat.le_succ _) (Nat.le_refl _)
 .obtain⟨m,hm⟩:∃m,M.length=m+1:=⟨M.length-1,by have:=List.length_pos_iff.2 hM;omega⟩
  have hfl:=bg (enc:=enc) he;have fh:=hx.first (β:=Prop) (fl:=False) he;obtain⟨y,cap,rfl,h2⟩:=hx;have hml:∀K:List α,K.length<=1000000->(K.flatMap enc).length<=1000000000000:=λK hK=>by
   rw[hfl];have:=Nat.mul_le_mul hK hs1;omega
  have fresh:∀(hh:ah)(ws:List Value),ws=(L++M).flatMap enc->Le a hh->hh.nx=h.nx->hh.lo=h.lo->cG False ws e true hh λb h'=>Y (.slice (some ⟨b,0,none⟩) (L.length+M.length) aS) h':=by
   intro hh ws hw O7 hnx hlo;subst hw;unfold cG;rw[iS _ _ _ _ (hml _ (by simp;omega)),dJ];refine hk _ _ (.inr ⟨hh.nx,by simp,O7.nx,Nat.lt_succ_self _,by show hh.lo<=_;omega,T.an _ _ _⟩) (O7.new _) (by show hh.nx+1<=_;omega) (by show h.nx<=hh.nx+1;omega)
  rcases ho with⟨rfl,hv⟩|⟨b,rfl,h3,h4,h5,h6⟩
  .have hF:=fresh h (M.flatMap enc) (by simp) hle rfl rfl;simp only[List.length_nil,Nat.zero_add]at hF;rcases hv with rfl|⟨b,o,rfl⟩
   .unfold bt jf;simp only;rw[fh];simp only[hm,bR];rw[show Nat.ble (Nat.add 0 (m+1)) 1000000000=true from Nat.ble_eq_true_of_le (by show 0+(m+1)<=_;omega)];rw[hm]at hF;have e1:Nat.add 0 (m+1)=m+1:=by show 0+(m+1)=_;omega
    rw[e1];exact hF
   .unfold bt jf;simp only;rw[fh];simp only[hm,bR];have e1:Nat.add 0 (m+1)=m+1:=by show 0+(m+1)=_;omega
    rw[e1,show Nat.ble (m+1) 1000000000=true from Nat.ble_eq_true_of_le XV];rw[hm]at hF
    show fo False h s 0 _ _
    rw[jy _ _ _ _ _ (by simp)];exact hF
  .unfold bt jf;simp only;rw[fh];simp only[hm,bR];have e1:Nat.add L.length (m+1)=L.length+(m+1):=rfl;rw[e1,show Nat.ble (L.length+(m+1)) 1000000000=true from Nat.ble_eq_true_of_le XV];have e2:Nat.beq aS fT=false:=by decide
   have e3:Nat.beq aS aS=true:=Nat.beq_refl _;simp only[e2,e3,h6];have e4:Nat.ble (Nat.add 0 (Nat.mul (L.length+(m+1)) s)) (L.flatMap enc).length=false:=by
    rw[hfl];cases Iu:Nat.ble (Nat.add 0 (Nat.mul (L.length+(m+1)) s)) (L.length*s)with
    |false=>rfl
    |true=>
     have h7:0+(L.length+(m+1))*s<=L.length*s:=Nat.le_of_ble_eq_true Iu;rw[Nat.add_mul,Nat.succ_mul]at h7;omega
   have e5:(M.flatMap enc).all eO=true:=by
    rw[List.all_flatMap];simp only[List.all_eq_true];intro x _;exact List.all_eq_true.1 (hone x)
   simp only[ai,Nat.beq_refl,e4,e5,Bool.and_self];have hh:Has (h.bl.get b) 0 (L.flatMap enc):=by rw[h6];exact Has.all
   rw[jX hh s L.length _ _ _ (hfl L).symm,bI _ _ _ _ h5];have hF:=fresh ⟨h.nx,h.bl.bx b (.dead (L.flatMap enc).length e),h.lo⟩ (L.flatMap enc++M.flatMap enc) (by simp) (hle.set h3 _) rfl rfl;rw[hm]at hF;exact hF
end
end Go.Vai
namespace Go.Vai
open Go
theorem Bz(zs:List Value):aV zs 1=zs:=by simp[aV]
theorem wz(w:Bool):aD undef w=false:=by cases w<;>rfl
theorem O8(a:Value)(l:List Value):aa (a::l) 0=a:=id rfl
theorem O9(a:Value)(l:List Value)(n:Nat):aa (a::l) (n+1)=aa l n:=id rfl
theorem rX(l:List Value):(Value.cells (.agg ⟨l⟩)).toList=l:=id rfl
theorem rY(k:IntKind)(n:Int):(Value.cells (.int k n)).toList=[.int k n]:=id rfl
theorem pH(b:Bool):(Value.cells (.bool b)).toList=[.bool b]:=id rfl
theorem ox(a:Option Addr):(Value.cells (.pointer a)).toList=[.pointer a]:=id rfl
theorem mY(a:Option Addr)(n c:Nat):(Value.cells (.slice a n c)).toList=[.slice a n c]:=id rfl
theorem KO(k:IntKind)(n:Int):eO (.int k n)=true:=id rfl
theorem EE(b:Bool):eO (.bool b)=true:=id rfl
theorem KP(s:ByteArray):eO (.string s)=true:=id rfl
theorem KS(a:Option Addr):eO (.pointer a)=true:=id rfl
theorem KU(a:Option Addr)(n c:Nat):eO (.slice a n c)=true:=id rfl
theorem KV(a:Option Nat):eO (.map a)=true:=id rfl
theorem KW(f:Fn)(a b:Array Value):eO (.func f a b)=true:=id rfl
theorem KX(t:TypeId)(v:Value):eO (.iface t v)=true:=id rfl
theorem qN(vs ws:List Value)(h:ws.length=vs.length):over vs 0 ws=ws:=by simp[over,h]
variable {β:Type}{fl:β}
theorem O_:∀(new old:List Value)(Y:List Value->β),new.length<=old.length->tL fl new old Y=Y (over old 0 new):=by
 intro new
 induction new with
 |nil=>intro old Y _;rw[Ev];cases old<;>rfl
 |cons v new ih=>
  intro old Y h;cases old with
  |nil=>simp at h
  |cons o old=>
   simp only[tL];rw[ih old _ (by simpa using h)];simp[over]
theorem Tn(new:List Value):∀(o:Nat)(old:List Value)(Y:List Value->β),o+new.length<=old.length->AA fl new o old Y=Y (over old o new):=by
 intro o
 induction o with
 |zero=>
  intro old Y h;have:AA fl new 0 old Y=tL fl new old Y:=by cases old<;>rfl
  rw[this,O_ _ _ _ (by simpa using h)]
 |succ o ih=>
  intro old Y h;cases old with
  |nil=>simp at h
  |cons v old=>
   simp only[AA];rw[ih old _ (by simp at h;omega)];simp[over,Nat.add_right_comm]
theorem ud(cs:List Value)(Y:List Value->β):bM fl [] [] cs Y=Y cs:=id rfl
theorem rZ(off size:Nat)(ps:List (Nat × Nat))(v:Value)(vs cs:List Value)(Y:List Value->β)(h1:v.cells.toList.length=size)(h2:off+size<=cs.length):bM fl ((off,size)::ps) (v::vs) cs Y=bM fl ps vs (over cs off v.cells.toList) Y:=by
 subst h1
 show(match Nat.beq v.cells.toList.length v.cells.toList.length with|false=>fl|true=>AA fl v.cells.toList off cs λcs=>bM fl ps vs cs Y)=_
 rw[Nat.beq_refl];simp only;rw[Tn _ _ _ _ h2]
theorem Pa(size:Nat)(v:Value)(cs:List Value)(Y:List Value->β)(h1:v.cells.toList.length=size)(h2:cs.length=size):bM fl [(0,size)] [v] cs Y=Y v.cells.toList:=by
 rw[rZ _ _ _ _ _ _ _ h1 XV,ud,qN _ _ XV]
end Go.Vai

namespace Go.Vai
open Go
section
variable {β:Type}{fl:β}{P:Program}{h h':ah}{Y:XW β}{a a' b b' c c':Value}
@[congr] theorem Xx{op:BinOp}{t:TypeId}{cn gd:Bool}(ha:a=a')(hb:b=b'):aG fl P op t cn gd a b h Y=aG fl P op t cn gd a' b' h Y:=by rw[ha,hb]
@[congr] theorem abK{op:UnOp}(ha:a=a'):jB fl op a h Y=jB fl op a' h Y:=by rw[ha]
@[congr] theorem VN{k:IntKind}(ha:a=a'):lU fl k a h Y=lU fl k a' h Y:=by rw[ha]
@[congr] theorem VO(hc:c=c')(ha:a=a')(hb:b=b'):bD fl c a b h Y=bD fl c' a' b' h Y:=by rw[ha,hb,hc]
@[congr] theorem Xy(ha:a=a'):aT fl a h Y=aT fl a' h Y:=by rw[ha]
@[congr] theorem MH{o:Nat}(ha:a=a'):af fl o a h Y=af fl o a' h Y:=by rw[ha]
@[congr] theorem MI{s:Nat}(ha:a=a')(hb:b=b'):az fl s a b h Y=az fl s a' b' h Y:=by rw[ha,hb]
@[congr] theorem MJ{n s:Nat}(ha:a=a')(hb:b=b'):lT fl n s a b h Y=lT fl n s a' b' h Y:=by rw[ha,hb]
@[congr] theorem To{g:Bool}{s o:Nat}(ha:a=a'):xQ fl g s o a h Y=xQ fl g s o a' h Y:=by rw[ha]
@[congr] theorem Tp{g:Bool}{n s:Nat}(ha:a=a')(hb:b=b'):xR fl g n s a b h Y=xR fl g n s a' b' h Y:=by rw[ha,hb]
@[congr] theorem Tq(ha:a=a')(hb:b=b'):xS fl a b h Y=xS fl a' b' h Y:=by rw[ha,hb]
@[congr] theorem Pb{i:Nat}(ha:a=a'):aH fl i a h Y=aH fl i a' h Y:=by rw[ha]
@[congr] theorem VP(ha:a=a'):ax fl a h Y=ax fl a' h Y:=by rw[ha]
@[congr] theorem VS{s:Nat}(ha:a=a'):aN fl s a h Y=aN fl s a' h Y:=by rw[ha]
@[congr] theorem Tr{s:Nat}(ha:a=a')(hb:b=b'):aM fl s a b h Y=aM fl s a' b' h Y:=by rw[ha,hb]
@[congr] theorem abL{o o':Option bT}{i:Nat}{k:Value→β}(ho:o=o'):qn fl o i k=qn fl o' i k:=by rw[ho]
@[congr] theorem abM{o o':Option bT}{i s:Nat}{k:List Value→β}(ho:o=o'):Aq fl o i s k=Aq fl o' i s k:=by rw[ho]
@[congr] theorem abN{o o':Option bT}{s i j:Nat}{ws VT:List Value}{k:ah→β}(ho:o=o')(hw:ws=VT)(hh:h=h'):DJ fl o s i j ws h k=DJ fl o' s i j VT h' k:=by rw[ho,hw,hh]
@[congr] theorem Xz{o o':Option Value}{k:Value→β}(ho:o=o'):I9 fl o k=I9 fl o' k:=by rw[ho]
@[congr] theorem Pc{o:bT}{k:Nat→ah→β}(hh:h=h'):aF fl o h k=aF fl o h' k:=by rw[hh]
@[congr] theorem Pd{i:Nat}{o:bT}{k:ah→β}(hh:h=h'):setBlock fl i o h k=setBlock fl i o h' k:=by rw[hh]
@[congr] theorem Tt{ws VT:List Value}{e:TypeId}{g:Bool}{k:bT→β}(hw:ws=VT):aK fl ws e g k=aK fl VT e g k:=by rw[hw]
@[congr] theorem Pe{ws VT:List Value}{e:TypeId}{g:Bool}{k:Nat→ah→β}(hw:ws=VT)(hh:h=h'):cG fl ws e g h k=cG fl VT e g h' k:=by rw[hw,hh]
@[congr] theorem VU{ps:List (Nat × Nat)}{vs vs' cs cs':List Value}{k:List Value→β}(hv:vs=vs')(hc:cs=cs'):bM fl ps vs cs k=bM fl ps vs' cs' k:=by rw[hv,hc]
@[congr] theorem Tu{e s:Nat}{l u m l' u' m':Option Value}(ha:a=a')(hl:l=l')(hu:u=u')(hm:m=m'):sliceB fl e s a l u m h Y=sliceB fl e s a' l' u' m' h Y:=by rw[ha,hl,hu,hm]
@[congr] theorem Tv{l u m l' u' m':Option Value}(ha:a=a')(hl:l=l')(hu:u=u')(hm:m=m'):xN fl a l u m h Y=xN fl a' l' u' m' h Y:=by rw[ha,hl,hu,hm]
@[congr] theorem SD{both:β→β→β}{e s:Nat}{z:List Value}{g:Bool}(ha:a=a')(hb:b=b')(hh:h=h'):bt fl both e s z g a b h Y=bt fl both e s z g a' b' h' Y:=by rw[ha,hb,hh]
@[congr] theorem VV{s:Nat}(ha:a=a')(hb:b=b'):DN fl s a b h Y=DN fl s a' b' h Y:=by rw[ha,hb]
@[congr] theorem Tw{z:List Value}(ha:a=a'):jE fl z a h Y=jE fl z a' h Y:=by rw[ha]
@[congr] theorem Tx(ha:a=a'):bh fl a h Y=bh fl a' h Y:=by rw[ha]
@[congr] theorem Ty(ha:a=a'):xO fl a h Y=xO fl a' h Y:=by rw[ha]
@[congr] theorem Tz(ha:a=a'):lR fl a h Y=lR fl a' h Y:=by rw[ha]
@[congr] theorem SE{t:TypeId}{z:Value}{g:Bool}(ha:a=a')(hb:b=b'):ct fl P t z g a b h Y=ct fl P t z g a' b' h Y:=by rw[ha,hb]
@[congr] theorem MK{t:TypeId}(ha:a=a')(hb:b=b')(hc:c=c'):bY fl P t a b c h Y=bY fl P t a' b' c' h Y:=by rw[ha,hb,hc]
@[congr] theorem Oc{t:TypeId}{z:Value}(ha:a=a')(hb:b=b'):oc fl P t z a b h Y=oc fl P t z a' b' h Y:=by rw[ha,hb]
@[congr] theorem KY(ha:a=a')(hb:b=b')(hc:c=c'):kq fl a b c h Y=kq fl a' b' c' h Y:=by rw[ha,hb,hc]
@[congr] theorem SF{t:TypeId}(ha:a=a')(hb:b=b'):mT fl P t a b h Y=mT fl P t a' b' h Y:=by rw[ha,hb]
@[congr] theorem TC(ha:a=a'):oU fl a h Y=oU fl a' h Y:=by rw[ha]
@[congr] theorem VW{f:β→β→β}(ha:a=a'):sG fl f a h Y=sG fl f a' h Y:=by rw[ha]
@[congr] theorem TE(ha:a=a'):oW fl a h Y=oW fl a' h Y:=by rw[ha]
@[congr] theorem KZ{t:TypeId}{z:Value}{g:Bool}(ha:a=a'):dH fl t z g a h Y=dH fl t z g a' h Y:=by rw[ha]
@[congr] theorem XB(ha:a=a')(hb:b=b'):DP fl a b h Y=DP fl a' b' h Y:=by rw[ha,hb]
@[congr] theorem XC(ha:a=a')(hb:b=b'):Oi fl a b h Y=Oi fl a' b' h Y:=by rw[ha,hb]
end
section
variable {P:Program}{h h':ah}{Y:KQ}
@[congr] theorem abO{o o':Option Value}(ho:o=o'):aJ o h Y=aJ o' h Y:=by rw[ho]
@[congr] theorem abP{o o':Option (bT × (Nat→Value))}(ho:o=o'):Br o h Y=Br o' h Y:=by rw[ho]
@[congr] theorem TF{b b':Bool}{f:(Value→ah→Prop)→Prop}(hb:b=b'):aq b f h Y=aq b' f h Y:=by rw[hb]
@[congr] theorem VX{b b':Bool}{p:Prop}(hb:b=b'):cV b p=cV b' p:=by rw[hb]
@[congr] theorem VY{v v':Value}{A B:Prop}(hv:v=v'):aI v A B=aI v' A B:=by rw[hv]
@[congr] theorem VZ{A:(List Value→ah→Prop)→Prop}{B:List Value→ah→Prop}:dz A B=dz A B:=rfl
@[congr] theorem V0{l l':List Value}{body:List Value→ah→(List Value→ah→Prop)→Prop}(hh:h=h'):cz l h body=cz l h' body:=by rw[hh]
@[congr] theorem V1{f:FuncId}{l l':List Value}(hl:l=l')(hh:h=h'):aj P f l h Y=aj P f l' h' Y:=by rw[hl,hh]
@[congr] theorem V2{v v':Value}{l l':List Value}(hv:v=v')(hl:l=l')(hh:h=h'):jL P v l h Y=jL P v' l' h' Y:=by rw[hv,hl,hh]
@[congr] theorem V4{n:String}{v v':Value}{l l':List Value}(hv:v=v')(hl:l=l')(hh:h=h'):gG P n v l h Y=gG P n v' l' h' Y:=by rw[hv,hl,hh]
end
end Go.Vai

namespace Go.Vai
open Go Go.RowKit Go.WideShapes Go.ChangeShapes
variable {P:Program}
theorem Pf{φ φ':ej}{h h':ah}{w w':World}(hx:Ext φ φ' h h' w w')(hro:∀b pl,φ b=some pl->b<h.lo/\∃o,h.bl.get b=some o/\o.live):Below w.heap.size w w':=by
 refine⟨hx.os,hx.tape,hx.output,hx.size,λB hB=>?_⟩;by_cases he:∃b pl,φ b=some pl/\pl.B=B
 .obtain⟨b,pl,h1,rfl⟩:=he;obtain⟨h2,o,h3,h4⟩:=hro b pl h1;exact hx.Km b o pl h2 h3 h4 h1 hB
 .exact hx.Cg B hB λb pl h1 h2=>he ⟨b,pl,h1,h2⟩
theorem TG{f:FuncId}{args args':List Value}{φ:ej}{h:ah}{w:World}(hc:aj P f args h CH)(ha:F2 (VR φ) args args')(hr:HR P φ h w)(hro:∀b pl,φ b=some pl->b<h.lo/\∃o,h.bl.get b=some o/\o.live):Calls P f args'.toArray w λe w'=>e=.returned (.bool true)/\Below w.heap.size w w':=by
 refine Calls.mono (hc φ w args' ha hr).2 ?_;rintro e w' ⟨φ',v,v',h',rfl,g1,g2,g3,g4⟩;have g1:v=.bool true:=g1;subst g1;cases g2;exact⟨rfl,Pf g4 hro⟩
section
variable {α:Type}{dh:α->List Value}{s:Nat}
def kZ(dh:α->List Value)(w:World)(v:Value)(L:List α):Prop:=
 (L=[]/\(v=.slice none 0 0\/∃a cap,v=.slice (some a) 0 cap))\/
 ∃B o cap C e fz,v=.slice (some ⟨B,o,none⟩) L.length cap/\L.length<=cap/\cap<=maxLen/\w.heap[B]? = some (.cells C e fz)/\o+(L.flatMap dh).length<=C.size/\∀j u,(L.flatMap dh)[j]? = some u->C[o+j]? = some u
theorem EF{n:Nat}{p:Nat->α->Prop}(h:∀i,i<n->∃x,p i x):∃L:List α,L.length=n/\∀i a,L[i]? = some a->p i a:=by
 induction n with
 |zero=>exact⟨[],rfl,λi a e=>by simp at e⟩
 |succ n ih=>
  obtain⟨L,h1,h2⟩:=ih λi hi=>h i (Nat.lt_succ_of_lt hi);obtain⟨a,ha⟩:=h n (Nat.lt_succ_self n);refine⟨L++[a],by simp[h1],λi b e=>?_⟩;rcases Nat.lt_or_ge i n with hi|hi
  .rw[List.getElem?_append_left XV]at e;exact h2 i b e
  ·have:i=n:=by
    have:=(List.getElem?_eq_some_iff.1 e).1;simp[h1]at this;omega
   subst this;rw[List.getElem?_append_right XV,h1]at e;simp at e;subst e;exact ha
theorem CI(he:∀a:α,(dh a).length=s)(hs:0<s):∀(L:List α)(j:Nat)(u:Value),(L.flatMap dh)[j]? = some u->∃a,L[j / s]? = some a/\(dh a)[j % s]? = some u:=by
 intro L
 induction L with
 |nil=>intro j u e;simp at e
 |cons a L ih=>
  intro j u e;simp only[List.flatMap_cons]at e;rcases Nat.lt_or_ge j s with hj|hj
  .rw[List.getElem?_append_left (by rw[he];exact hj)]at e;rw[Nat.div_eq_of_lt hj,Nat.mod_eq_of_lt hj];exact⟨a,rfl,e⟩
  .rw[List.getElem?_append_right (by rw[he];exact hj),he]at e;obtain⟨b,h1,h2⟩:=ih (j-s) u e;refine⟨b,?_,?_⟩
   .rw[Nat.div_eq_sub_div hs hj];simpa using h1
   .rw[Nat.mod_eq_sub_mod hj];exact h2
theorem Pg{H:Type}{enc:TypeId × Value->H}{w:World}{t e:TypeId}{fuel:Nat}{v:Value}{x:DataW H × List MemPlace}(he:∀a:α,(dh a).length=s)(hs:0<s)(ht:P.underlying t=some (.slice e))(hc:P.cellsOf e=s)(CJ:∀(n:Nat)(cs:List Value)(d:DataW H × List MemPlace),cs.length=s->DataW.trod enc P w 0 (λ_=>true) true n e cs=some d->∃a:α,cs=dh a)(h:DataW.trod enc P w 0 (λ_=>true) true fuel t [v]=some x):∃L:List α,kZ dh w v L:=by
 rcases Go.Deep.open_slice ht h with⟨h1,_⟩|⟨a,len,cap,m,n,D,Pl,h1,hb,hl,hm,hmm,hx,hi⟩
 .cases h1;exact⟨[],.inl ⟨rfl,.inl rfl⟩⟩
 .cases h1;simp only[if_true]at hmm;subst hmm;by_cases hlen:len=0
  .subst hlen;exact⟨[],.inl ⟨rfl,.inr ⟨a,_,rfl⟩⟩⟩
  ·have hel:∀i,i<len->∃p:α,∀j u,(dh p)[j]? = some u->w.cell? (a.add (i*s+j))=some u:=by
    intro i hil;obtain⟨cs,h2,h3⟩:=hi i XV;rw[hc]at h2;obtain⟨_,h4,h5⟩:=World.cells?_some h2;obtain⟨p,rfl⟩:=CJ n cs _ h4 h3;refine⟨p,λj u hj=>?_⟩;have hjs:j<s:=by have:=(List.getElem?_eq_some_iff.1 hj).1;rwa [he]at this
    have:=h5 j hjs;rw[Go.Deep.add_add]at this;rw[this,hj]
   obtain⟨L,hL,hp⟩:=EF hel;have hcell:∀j u,(L.flatMap dh)[j]? = some u->w.cell? (a.add j)=some u:=by
    intro j u hj;obtain⟨p,g1,g2⟩:=CI he hs L j u hj;have:=hp _ p g1 _ u g2
    rwa [Nat.mul_comm,Nat.div_add_mod]at this
   have hfl:=bg (enc:=dh) he L;have hpos:0<(L.flatMap dh).length:=by rw[hfl,hL];exact Nat.mul_pos XV hs
   have h0:=hcell 0 _ (List.getElem?_eq_getElem hpos);have ha0:a.add 0=a:=by simp[Addr.add]
   rw[ha0]at h0;obtain⟨B,o,sp⟩:=a;unfold World.cell? at h0;split at h0<;>try contradiction
   rename_i C e' fz hC;cases sp with
   |some q=>simp at h0
   |none=>
    refine⟨L,.inr ⟨B,o,m,C,e',fz,by rw[hL],XV,hm,hC,?_,?_⟩⟩
    .have yE:=hcell ((L.flatMap dh).length-1) _ (List.getElem?_eq_getElem XV);have Ov:(⟨B,o,none⟩:Addr).add ((L.flatMap dh).length-1)=⟨B,o+((L.flatMap dh).length-1),none⟩:=by unfold Addr.add;split<;>simp_all
     rw[Ov]at yE;simp only[World.cell?,hC]at yE;have:=(Array.getElem?_eq_some_iff.1 yE).1;omega
    .intro j u hj;have hx:=hcell j u hj;have Ov:(⟨B,o,none⟩:Addr).add j=⟨B,o+j,none⟩:=by unfold Addr.add;split<;>simp_all
     rw[Ov]at hx;simpa[World.cell?,hC]using hx
def yF:ah:=⟨0,.nil,0⟩
def XD:ej:=λ_=>none
theorem Ph{w:World}(s:pn P XD w):HR P XD yF w:=HR.start s
end
section
variable {H:Type}{enc:TypeId × Value->H}
theorem post_of_law{f:Func}{s:ChangeSpec}{apart fresh handsOn again:Bool}{W W':World}{args:Array Value}{v:Value}{ds gs:List (DataW H)}{before pa pv:List MemPlace}(hW:DataW.Whole enc P f.params.toList s.vars apart W args.toList ds gs before)(hres:∀(b:Nat)(sp:Nat->Bool)(hd:Bool),DataW.TrodAll enc P W' b sp hd f.resultTypes.toList (v.resultList f.resultTypes.size) (s.fn H (ds++gs)).results [])(hargs:∀sp:Nat->Bool,(∀p∈before,sp p.block=true)->DataW.TrodAll enc P W' 0 sp true f.params.toList args.toList (s.fn H (ds++gs)).args pa)(hvars:∀sp:Nat->Bool,(∀p∈before,sp p.block=true)->DataW.TrodVars enc P W' sp s.vars (s.fn H (ds++gs)).vars pv)(hps:before=pa++pv)(hb:Below W.heap.size W W')(hok:∀(j:Nat)(t:TypeId)(r:Value),f.resultTypes[j]? = some t->(v.resultList f.resultTypes.size)[j]? = some r->Value.okWide P W' .any 0 t r):s.post enc P f apart fresh handsOn again W args v W':=by
 have hlt:∀p∈before,p.block<W.heap.size:=λp hp=>hW.lt p hp;have hold:∀p∈before,(λb=>decide (b<W.heap.size)) p.block=true:=λp hp=>by simpa using hlt p hp
 refine⟨ds,gs,before,[],pa,pv,hW,hres _ _ _,hargs _ hold,hvars _ hold,World.keptBut_mono (λp hp=>⟨hp,?_⟩) (hb.frame (·∈before)),λ_=>?_⟩
 .rw[hps,List.mem_append]at hp;exact Or.inr hp
 .obtain⟨_,_,_,_,_,hz,hn⟩:=hW;refine⟨hok,_,_,([]++pa)++pv,⟨[]++pa,pv,trodAll_append (hargs _ (λ_ _=>rfl)) (hres _ _ _),hvars _ (λ_ _=>rfl),rfl,?_,?_⟩,?_⟩
  .intro b off hp;have hin:MemPlace.cell b off∈before:=by rw[hps];simpa using hp
   rw[hb.frozen (hlt _ hin)];exact hz b off hin
  .intro ha;have:=hn ha;rw[hps]at this;simpa using this
  .intro p hp _;rw[hps];simpa using hp
theorem arg_stays{t:TypeId}(hl:laidOutB P=true)(hr:P.readableRec t=true)(hrow:t<P.types.size){W W':World}{v:Value}{d:DataW H}{ps:List MemPlace}(h:DataW.Trod enc P W 0 (λ_=>true) true t v d ps)(hb:Below W.heap.size W W')(hlt:∀x∈ps,x.block<W.heap.size){sp:Nat->Bool}(hsp:∀x∈ps,sp x.block=true):DataW.Trod enc P W' 0 sp true t v d ps:=
 WideElems.Trod_stays hl hr hrow h (λx hx=>hb.same (hlt x hx)) (λx hx=>by simpa using hsp x hx)
end
end Go.Vai
namespace Go.Vai
open Go Go.RowKit
variable {P:Program}
theorem iX{f:FuncId}{args:List Value}{v:Value}(ha:args.all n_=true)(hv:n_ v=true)(hc:aj P f args yF λu _=>u=v){h:ah}{Y:KQ}(hk:Y v h):aj P f args h Y:=by
 intro φ w args' hf hr;have:=ED ha hf;subst this;obtain⟨c1,c2⟩:=hc XD w args' (EC ha) (Ph hr.side.none);refine⟨c1,c2.mono ?_⟩;rintro e w' ⟨φ',v1,v',h',rfl,rfl,g2,g3,g4⟩;have hfr:∀B,B<w.heap.size->w'.heap[B]? = w.heap[B]?:=λB hB=>g4.Cg B hB λb pl e=>by cases e
 refine⟨φ,v1,v',h,rfl,hk,by rw[pE hv g2];exact CG hv,?_,?_⟩
 .exact⟨λb o pl h1 h2=>by rw[hfr _ (hr.dom b pl h2).2];exact hr.obj b o pl h1 h2,λb pl h1=>⟨(hr.dom b pl h1).1,Nat.lt_of_lt_of_le (hr.dom b pl h1).2 g4.size⟩,hr.keys,hr.S0,hr.inj,hr.lo,hr.side.heap λB hB _=>hfr B hB⟩
 .exact⟨Sub.refl φ,λb pl e e'=>(by rw[e]at e';cases e'),Nat.le_refl _,g4.size,λB hB _=>hfr B hB,λ_ _ _=>rfl,g4.tape,g4.os,g4.output,λ_ _=>trivial,rfl,λ_ _=>rfl,λb o pl _ _ _ _ hB=>hfr _ hB,g4.dr⟩
theorem EG(u v:Value):dV (some u) v=je 8 u v:=id rfl
theorem BA(zs:List Value):aV zs 0=[]:=id rfl
theorem BB(a:Value):aV [a] 2=[a,a]:=by simp[aV]
theorem Pj(a:Value)(l:List Value)(n:Nat)(ws:List Value):over (a::l) (n+1) ws=a::over l n ws:=by simp[over,Nat.add_right_comm]
theorem Pk(a w:Value)(l ws:List Value):over (a::l) 0 (w::ws)=w::over l 0 ws:=by simp[over]
theorem Pm(l:List Value):over l 0 []=l:=by simp[over]
theorem EH(u:Value):reN (some u)=true:=id rfl
theorem EI(r:Bool):reG true r=r:=id rfl
theorem BC(r:Bool):reG false r=true:=id rfl
theorem jm(n:Nat):Nat.beq n n=true:=Nat.beq_refl n
theorem ML(n:Int):nY n n=true:=by rw[fS];simp
theorem EJ(k:IntKind):fU k k=true:=by rw[gU];simp
theorem Pn(n:Nat)(k:IntKind)(a:Int):je (n+1) (.int k a) (.int k a)=true:=by unfold je;simp[EJ,ML]
theorem pI(k:IntKind)(a:Int):je 8 (.int k a) (.int k a)=true:=Pn 7 k a
theorem oz(a:Bool):je 8 (.bool a) (.bool a)=true:=by unfold je;simp
theorem K0(b o:Nat):je 8 (.pointer (some ⟨b,o,none⟩)) (.pointer (some ⟨b,o,none⟩))=true:=by unfold je;simp[jm]
theorem xy(b o n c:Nat):je 8 (.slice (some ⟨b,o,none⟩) n c) (.slice (some ⟨b,o,none⟩) n c)=true:=by unfold je;simp[jm]
theorem CL(n c:Nat):je 8 (.slice none n c) (.slice none n c)=true:=by unfold je;simp[jm]
theorem vm(n:Nat)(l:List Int):xL (je (n+1)) (l.map (Value.int .i64)) (l.map (Value.int .i64))=true:=by
 induction l with
 |nil=>rfl
 |cons a l ih=>simp only[List.map_cons,xL,Pn,ih,Bool.and_self]
theorem EK(l:List Int):je 8 (.agg ⟨l.map (.int .i64)⟩) (.agg ⟨l.map (.int .i64)⟩)=true:=by
 unfold je;exact vm 6 l
theorem V5(a b:Int):je 8 (.agg ⟨[.int .i64 a,.int .i64 b]⟩) (.agg ⟨[.int .i64 a,.int .i64 b]⟩)=true:=EK [a,b]
theorem V6(a b c d:Int):je 8 (.agg ⟨[.int .i64 a,.int .i64 b,.int .i64 c,.int .i64 d]⟩) (.agg ⟨[.int .i64 a,.int .i64 b,.int .i64 c,.int .i64 d]⟩)=true:=EK [a,b,c,d]
end Go.Vai
namespace Go.Vai
open Go
variable {β:Type}{fl:β}
theorem yG(n:Nat)(d:Nat)(Y:Nat->β):B_ fl (some (.int .i64 (n:Int))) d Y=Y n:=id rfl
theorem vp(d:Nat)(Y:Nat->β):B_ fl none d Y=Y d:=id rfl
theorem jY{h:ah}{e s b n i:Nat}{vs:List Value}(hs:0<s)(hb:h.bl.get b=some (ai vs e true))(hvs:vs.length=n*s)(hi:i<n)(Y:XW β):sliceB fl e s (.slice (some ⟨b,0,none⟩) n aS) (some (.int .i64 (i:Int))) none none h Y=Y (.slice (some ⟨b,i*s,none⟩) (n-i) aS) h:=by
 obtain⟨s,rfl⟩:∃k,s=k+1:=⟨s-1,XV⟩
 have hk:jj h e b=some (n*(s+1)):=by unfold jj;rw[hb];simp only[ai,jm,hvs]
 have hd:Nat.div (Nat.sub (n*(s+1)) 0) (s+1)=n:=by show(n*(s+1)-0) / (s+1)=n;rw[Nat.sub_zero,Nat.mul_div_cancel _ XV]
 have e1:Nat.beq aS fT=false:=by decide
 have e2:Nat.beq aS aS=true:=Nat.beq_refl _;have e3:Nat.ble 0 (n*(s+1))=true:=Nat.ble_eq_true_of_le (Nat.zero_le _);have e4:Nat.ble i n=true:=Nat.ble_eq_true_of_le XV;have e5:Nat.ble n n=true:=Nat.ble_eq_true_of_le (Nat.le_refl _);have e6:Nat.beq i n=false:=by
  cases hq:Nat.beq i n with
  |false=>rfl
  |true=>have:=c_ hq;omega
 unfold sliceB iP;simp only[e1,e2,hk,e3,hd,yG,vp,e4,e5,e6,bR]
 show Y (.slice (some ⟨b,0+i*(s+1),none⟩) (n-i) aS) h=_
 rw[Nat.zero_add]
theorem oA{h:ah}{e s b n m i:Nat}{vs:List Value}(hs:0<s)(hb:h.bl.get b=some (ai vs e true))(hvs:vs.length=n*s)(hn:0<n)(hi:i<=n)(Y:XW β):sliceB fl e s (.slice (some ⟨b,0,none⟩) m aS) none (some (.int .i64 (i:Int))) none h Y=Y (.slice (some ⟨b,0,none⟩) i aS) h:=by
 obtain⟨s,rfl⟩:∃k,s=k+1:=⟨s-1,XV⟩
 have hk:jj h e b=some (n*(s+1)):=by unfold jj;rw[hb];simp only[ai,jm,hvs]
 have hd:Nat.div (Nat.sub (n*(s+1)) 0) (s+1)=n:=by show(n*(s+1)-0) / (s+1)=n;rw[Nat.sub_zero,Nat.mul_div_cancel _ XV]
 have e1:Nat.beq aS fT=false:=by decide
 have e2:Nat.beq aS aS=true:=Nat.beq_refl _;have e3:Nat.ble 0 (n*(s+1))=true:=Nat.ble_eq_true_of_le (Nat.zero_le _);have e4:Nat.ble 0 i=true:=Nat.ble_eq_true_of_le (Nat.zero_le _);have e5:Nat.ble i n=true:=Nat.ble_eq_true_of_le hi;have e6:Nat.beq 0 n=false:=by
  cases hq:Nat.beq 0 n with
  |false=>rfl
  |true=>have:=c_ hq;omega
 unfold sliceB iP;simp only[e1,e2,hk,e3,hd,yG,vp,e4,e5,e6,bR]
 show Y (.slice (some ⟨b,0+0*(s+1),none⟩) (i-0) aS) h=_
 rw[Nat.zero_mul,Nat.sub_zero]
theorem mZ{h:ah}{b o n c e:Nat}{op:Bool}{vs zero:List Value}(hb:h.bl.get b=some (ai vs e op))(hn:0<n)(hl:o+(aV zero n).length<=vs.length)(h1:(aV zero n).all eO=true)(hlo:h.lo<=b)(Y:XW β):jE fl zero (.slice (some ⟨b,o,none⟩) n c) h Y=Y (.tuple #[]) ⟨h.nx,h.bl.bx b (ai (over vs o (aV zero n)) e op),h.lo⟩:=by
 obtain⟨n,rfl⟩:∃k,n=k+1:=⟨n-1,XV⟩
 unfold jE;simp only[hb,ai];rw[rW _ _ _ _ _ hl h1,bI _ _ _ _ hlo,xq _ _ _ hl,jx hl]
end Go.Vai
namespace Go.Vai
open Go Go.RowKit Go.WideShapes Go.ChangeShapes
section
variable {P:Program}{α:Type}{dh:α->List Value}{s:Nat}{H:Type}{enc:TypeId × Value->H}
theorem open_sliceArg{W:World}{t e:TypeId}{v:Value}{d:DataW H}{p:List MemPlace}{base:Nat}(he:∀a:α,(dh a).length=s)(hs:0<s)(ht:P.underlying t=some (.slice e))(hc:P.cellsOf e=s)(CJ:∀(n:Nat)(cs:List Value)(d:DataW H × List MemPlace),cs.length=s->DataW.trod enc P W 0 (λ_=>true) true n e cs=some d->∃a:α,cs=dh a)(hw:Value.okWide P W .any base t v)(h:DataW.Trod enc P W 0 (λ_=>true) true t v d p):∃L:List α,kZ dh W v L:=by
 obtain⟨fuel,hf⟩:=h;have hcs:v.cells.toList=[v]:=by
  unfold Value.okWide at hw;rw[ht]at hw;simp only at hw;unfold Cell.okWide Cell.ok at hw;rw[ht]at hw;cases v<;>first|rfl|(simp at hw)
 rw[hcs]at hf;exact Pg he hs ht hc CJ hf
end
end Go.Vai

namespace Go.Vai
open Go
theorem V7:(!true)=false:=id rfl
theorem V8:(!false)=true:=id rfl
theorem acW:decide True=true:=by simp
theorem acX:decide False=false:=by simp
theorem Ld0(l:List Value):l.drop 0=l:=id rfl
theorem Lts(a:Value)(l:List Value)(n:Nat):(a::l).take (n+1)=a::l.take n:=id rfl
theorem Lt0(l:List Value):l.take 0=[]:=id rfl
theorem Lds(a:Value)(l:List Value)(n:Nat):(a::l).drop (n+1)=l.drop n:=id rfl
theorem Lg0(a:Value)(l:List Value):(a::l)[0]? = some a:=id rfl
theorem Lgs(a:Value)(l:List Value)(n:Nat):(a::l)[n+1]? = l[n]?:=id rfl
theorem V9(b:Bool):(b && true)=b:=by cases b<;>rfl
theorem V_(b:Bool):(true && b)=b:=by cases b<;>rfl
theorem Wa(b:Bool):(b && b)=b:=by cases b<;>rfl
theorem Lac(p:Value->Bool)(a:Value)(l:List Value):(a::l).all p=(p a && l.all p):=id rfl
theorem Lan(p:Value->Bool):([]:List Value).all p=true:=id rfl
theorem Llc(a:Value)(l:List Value):(a::l).length=l.length+1:=id rfl
theorem Lln:([]:List Value).length=0:=id rfl
theorem Nza(n:Nat):0+n=n:=by omega
theorem Naz(n:Nat):n+0=n:=by omega
theorem Wz2:type_of% (And.intro (And.intro (And.intro (And.intro (And.intro (And.intro @Ew @Ey) (And.intro @Bt (And.intro @dJ @rV))) (And.intro (And.intro @O0 (And.intro @vl @O1)) (And.intro @ou (And.intro @iS @Bs)))) (And.intro (And.intro (And.intro @Ez (And.intro @yz @yA)) (And.intro @yB (And.intro @wk @wz))) (And.intro (And.intro @wq (And.intro @t_ @yC)) (And.intro @wu (And.intro @KA @KB))))) (And.intro (And.intro (And.intro (And.intro @KC (And.intro @KD @KE)) (And.intro @KH (And.intro @KI @KJ))) (And.intro (And.intro @KK (And.intro @KL @O4)) (And.intro @O5 (And.intro @EA @Bu)))) (And.intro (And.intro (And.intro @yD (And.intro @bX @ua)) (And.intro @KM (And.intro @xw @Bv))) (And.intro (And.intro @Bw (And.intro @Bx @EB)) (And.intro @dw (And.intro @b_ @acV)))))) (And.intro (And.intro (And.intro (And.intro (And.intro @KN @VM) (And.intro @T.an (And.intro @T.au @T.yx))) (And.intro (And.intro @V7 (And.intro @V8 @acW)) (And.intro @acX (And.intro @Ld0 @Lts)))) (And.intro (And.intro (And.intro @Lt0 (And.intro @Lds @Lg0)) (And.intro @Lgs (And.intro @Nza @Naz))) (And.intro (And.intro @O8 (And.intro @O9 @rX)) (And.intro @rY (And.intro @pH @ox))))) (And.intro (And.intro (And.intro (And.intro @mY (And.intro @qN @Pa)) (And.intro @ud (And.intro @rZ @BA))) (And.intro (And.intro @Bz (And.intro @BB @Pj)) (And.intro @Pk (And.intro @Pm @EG)))) (And.intro (And.intro (And.intro @EH (And.intro @EI @BC)) (And.intro @pI (And.intro @oz @K0))) (And.intro (And.intro @xy (And.intro @CL @V5)) (And.intro @V6 (And.intro @V9 @V_))))))):=(And.intro (And.intro (And.intro (And.intro (And.intro (And.intro @Ew @Ey) (And.intro @Bt (And.intro @dJ @rV))) (And.intro (And.intro @O0 (And.intro @vl @O1)) (And.intro @ou (And.intro @iS @Bs)))) (And.intro (And.intro (And.intro @Ez (And.intro @yz @yA)) (And.intro @yB (And.intro @wk @wz))) (And.intro (And.intro @wq (And.intro @t_ @yC)) (And.intro @wu (And.intro @KA @KB))))) (And.intro (And.intro (And.intro (And.intro @KC (And.intro @KD @KE)) (And.intro @KH (And.intro @KI @KJ))) (And.intro (And.intro @KK (And.intro @KL @O4)) (And.intro @O5 (And.intro @EA @Bu)))) (And.intro (And.intro (And.intro @yD (And.intro @bX @ua)) (And.intro @KM (And.intro @xw @Bv))) (And.intro (And.intro @Bw (And.intro @Bx @EB)) (And.intro @dw (And.intro @b_ @acV)))))) (And.intro (And.intro (And.intro (And.intro (And.intro @KN @VM) (And.intro @T.an (And.intro @T.au @T.yx))) (And.intro (And.intro @V7 (And.intro @V8 @acW)) (And.intro @acX (And.intro @Ld0 @Lts)))) (And.intro (And.intro (And.intro @Lt0 (And.intro @Lds @Lg0)) (And.intro @Lgs (And.intro @Nza @Naz))) (And.intro (And.intro @O8 (And.intro @O9 @rX)) (And.intro @rY (And.intro @pH @ox))))) (And.intro (And.intro (And.intro (And.intro @mY (And.intro @qN @Pa)) (And.intro @ud (And.intro @rZ @BA))) (And.intro (And.intro @Bz (And.intro @BB @Pj)) (And.intro @Pk (And.intro @Pm @EG)))) (And.intro (And.intro (And.intro @EH (And.intro @EI @BC)) (And.intro @pI (And.intro @oz @K0))) (And.intro (And.intro @xy (And.intro @CL @V5)) (And.intro @V6 (And.intro @V9 @V_)))))))
theorem Wx:type_of% (And.intro (And.intro (And.intro @Lac @Lan) (And.intro @KO (And.intro @EE @KP))) (And.intro (And.intro @KS (And.intro @KU @KV)) (And.intro @KW (And.intro @KX @Wa)))):=(And.intro (And.intro (And.intro @Lac @Lan) (And.intro @KO (And.intro @EE @KP))) (And.intro (And.intro @KS (And.intro @KU @KV)) (And.intro @KW (And.intro @KX @Wa))))
theorem Wy:type_of% (And.intro (And.intro @rX (And.intro @rY @pH)) (And.intro (And.intro @ox @mY) (And.intro @Llc @Lln))):=(And.intro (And.intro @rX (And.intro @rY @pH)) (And.intro (And.intro @ox @mY) (And.intro @Llc @Lln)))
theorem Wv:type_of% (And.intro @Llc @Lln):=(And.intro @Llc @Lln)
theorem Wz0(b:Nat):av b=.pointer (some ⟨b,0,none⟩):=id rfl
theorem Wz1(n c b:Nat):bB n c b=.slice (some ⟨b,0,none⟩) n c:=id rfl
theorem XX(v : Value)(h : ah):XZ v h = some v := id rfl
theorem Wz:type_of% (And.intro (And.intro @Wz0 @Wz1) (And.intro @XX Wz2)):=And.intro (And.intro @Wz0 @Wz1) (And.intro @XX Wz2)
theorem Wd:type_of% (And.intro Wx Wy):=And.intro Wx Wy
theorem QQ{P : Prop}(h : P := by first|omega|simp only[Wd]<;>omega|rfl):P := h
theorem XY{P : Prop}(h : P := by first|omega|simp only[Wd]<;>omega|with_unfolding_all rfl):P := h
end Go.Vai

namespace Go.Vai
open Go Go.RowKit
section
variable {α:Type}{s:Nat}{enc:α->List Value}
def Cut(e s:Nat)(h:ah)(v:Value)(k:Nat):Prop:=
 (k=0/\v=.slice none 0 0)\/(k=0/\∃b o,v=.slice (some ⟨b,o,none⟩) 0 fT\/v=.slice (some ⟨b,o,none⟩) 0 gH)\/
 (∃b o cap,v=.slice (some ⟨b,o,none⟩) k cap/\k<=cap/\cap<=9223372036854775807)\/
 ∃b vs n,v=.slice (some ⟨b,0,none⟩) k aS/\b<h.nx/\h.bl.get b=some (ai vs e true)/\vs.length=n*s/\k<=n
theorem Cut.le{e s:Nat}{h h':ah}{v:Value}{k:Nat}(c:Cut e s h v k)(l:Le h h'):Cut e s h' v k:=by
 rcases c with c|c|c|⟨b,vs,n,c1,c2,c3,c4,c5⟩
 .exact .inl c
 .exact .inr (.inl c)
 .exact .inr (.inr (.inl c))
 .exact .inr (.inr (.inr ⟨b,vs,n,c1,Nat.lt_of_lt_of_le c2 l.nx,(l.get b c2).trans c3,c4,c5⟩))
theorem Cut.own{a h:ah}{e:TypeId}{v:Value}{L:List α}(he:∀a:α,(enc a).length=s)(ho:eG enc a e h v L):Cut e s h v L.length:=by
 rcases ho with⟨rfl,rfl|⟨b,o,rfl⟩⟩|⟨b,rfl,h1,h2,h3,h4⟩
 .exact .inl ⟨rfl,rfl⟩
 .exact .inr (.inr (.inl ⟨b,o,0,rfl,Nat.le_refl _,XV⟩))
 .exact .inr (.inr (.inr ⟨b,_,L.length,rfl,h2,h4,bg he L,Nat.le_refl _⟩))
theorem mg(he:∀a:α,(enc a).length=s)(L:List α):∀i,(L.flatMap enc).take (i*s)=(L.take i).flatMap enc:=by
 induction L with
 |nil=>intro i;simp
 |cons a L ih=>
  intro i;cases i with
  |zero=>simp
  |succ i=>
   simp only[List.flatMap_cons,List.take_succ_cons];rw[List.take_append,<-ih i,he,List.take_of_length_le (by rw[he,Nat.succ_mul];omega),show(i+1)*s-s=i*s by rw[Nat.succ_mul];omega]
end
end Go.Vai

namespace Go.Vai
open Go Go.RowKit
open Classical
variable {P:Program}
def K_(w:World)(B:Nat):Prop:=∃C e fz,w.heap[B]? = some (.cells C e fz)
def pZ(w:World)(v:Value):Prop:=
 ki v=true\/v=.slice none 0 0\/(∃a c,v=.slice (some a) 0 c)\/∃B o n c,v=.slice (some ⟨B,o,none⟩) n c/\n<=c/\c<=maxLen/\K_ w B
def nM:Value->Value
 | .slice (some a) 0 c=>.slice (some ⟨0,0,none⟩) 0 fT
 |v=>v
def goodA(w:World):Value->Prop
 | .agg cs=>∀v∈cs.toList,pZ w v
 |v=>pZ w v
def absA:Value->Value
 | .agg cs=>.agg ⟨cs.toList.map nM⟩
 |v=>nM v
theorem BD{v:Value}(h:ki v=true):nM v=v:=by cases v<;>first|rfl|cases h
def AQ(w:World):ej:=λb=>if K_ w b then some ⟨b,0,0⟩else none
def AR(w:World)(v:Value)(t:T Value)(o:Nat):T Value:=if pZ w v then t.bx o (nM v)else t
theorem Lb(w:World)(v:Value)(t:T Value){o i:Nat}(h:o≠i):(AR w v t o).get i=t.get i:=by
 unfold AR;by_cases hg:pZ w v
 .rw[if_pos hg];exact T.au _ _ h
 .rw[if_neg hg]
theorem BE{w:World}{v:Value}(hg:pZ w v)(t:T Value)(o:Nat):(AR w v t o).get o=some (nM v):=by
 unfold AR;rw[if_pos hg];exact T.an _ _ _
theorem Po{w:World}{v:Value}(hg:¬pZ w v)(t:T Value)(o:Nat):(AR w v t o)=t:=by
 unfold AR;rw[if_neg hg]
def oB(w:World):List Value->T Value->Nat->T Value
 | [],t,_=>t
 |v::vs,t,o=>oB w vs (AR w v t o) (o+1)
theorem BF(w:World)(vs:List Value):∀(t:T Value)(o i:Nat),i<o->(oB w vs t o).get i=t.get i:=by
 induction vs with
 |nil=>intro t o i _;rfl
 |cons v vs ih=>
  intro t o i h
  show(oB w vs (AR w v t o) (o+1)).get i=_
  rw[ih _ _ _ XV,Lb _ _ _ XV]
theorem Ja(w:World)(vs:List Value):∀(t:T Value)(o i:Nat)(v:Value),vs[i]? = some v->pZ w v->(oB w vs t o).get (o+i)=some (nM v):=by
 induction vs with
 |nil=>intro t o i v h;simp at h
 |cons u vs ih=>
  intro t o i v h hg
  show(oB w vs (AR w u t o) (o+1)).get _=_
  cases i with
  |zero=>
   simp only[List.getElem?_cons_zero,Option.some.injEq]at h;subst h;rw[BF _ _ _ _ _ XV];exact BE hg _ _
  |succ i=>
   rw[show o+(i+1)=(o+1)+i by omega];exact ih _ _ _ _ (by simpa using h) hg
theorem Jb(w:World)(vs:List Value):∀(t:T Value)(o i:Nat)(u:Value),(∀j,o<=j->t.get j=none)->(oB w vs t o).get (o+i)=some u->∃v,vs[i]? = some v/\pZ w v/\u=nM v:=by
 induction vs with
 |nil=>intro t o i u ht h;rw[show(oB w [] t o)=t from rfl,ht _ XV]at h;cases h
 |cons x vs ih=>
  intro t o i u ht h;have h:(oB w vs (AR w x t o) (o+1)).get (o+i)=some u:=h;cases i with
  |zero=>
   rw[BF _ _ _ _ _ XV]at h;by_cases hg:pZ w x
   .rw[Nat.add_zero,BE hg]at h;cases h;exact⟨x,rfl,hg,rfl⟩
   .rw[Po hg,ht _ XV]at h;cases h
  |succ i=>
   rw[show o+(i+1)=(o+1)+i by omega]at h;obtain⟨v,h1,h2,h3⟩:=ih _ _ _ _ (λj hj=>by rw[Lb _ _ _ XV];exact ht j XV) h;exact⟨v,by simpa using h1,h2,h3⟩
def AS(w:World):Nat->T bT
 |0=>.nil
 |n+1=>match w.heap[n]? with
  |some (.cells C e _)=>(AS w n).bx n (.ro C.size (oB w C.toList .nil 0) e)
  |_=>AS w n
theorem EL(w:World):∀n b,(AS w n).get b=if b<n then(match w.heap[b]? with|some (.cells C e _)=>some (.ro C.size (oB w C.toList .nil 0) e)|_=>none)else none:=by
 intro n
 induction n with
 |zero=>intro b;rw[if_neg XV];exact T.get_nil _
 |succ n ih=>
  intro b;unfold AS;by_cases h0:n=b
  .subst h0;rw[if_pos XV];split
   .rw[T.an]
   .rw[ih,if_neg XV]
  ·have:(match w.heap[n]? with|some (.cells C e _)=>(AS w n).bx n (.ro C.size (oB w C.toList .nil 0) e)|_=>AS w n).get b=(AS w n).get b:=by
    split
    .exact T.au _ _ h0
    .rfl
   rw[this,ih];by_cases h1:b<n
   .rw[if_pos h1,if_pos XV]
   .rw[if_neg h1,if_neg XV]
def memH(w:World):ah:=⟨w.heap.size,AS w w.heap.size,w.heap.size⟩
theorem EM{w:World}{B:Nat}{C:Array Value}{e:TypeId}{fz:Nat × Nat}(h:w.heap[B]? = some (.cells C e fz)):(memH w).bl.get B=some (.ro C.size (oB w C.toList .nil 0) e):=by
 have hB:B<w.heap.size:=(Array.getElem?_eq_some_iff.1 h).1
 show(AS w _).get B=_
 rw[EL,if_pos hB,h]
theorem r4{w:World}{b:Nat}{o:bT}(h:(memH w).bl.get b=some o):∃C e fz,w.heap[b]? = some (.cells C e fz)/\o=.ro C.size (oB w C.toList .nil 0) e:=by
 have h:(AS w _).get b=some o:=h;rw[EL]at h;split at h
 .split at h
  .cases h;exact⟨_,_,_,by assumption,rfl⟩
  .cases h
 .cases h
theorem CM{w:World}{v:Value}(h:pZ w v):VR (AQ w) (nM v) v:=by
 rcases h with h|rfl|⟨a,c,rfl⟩|⟨B,o,n,c,rfl,hn,hc,hB⟩
 .rw[BD h];exact VR.n_ h
 .exact VR.f_ (Nat.le_refl _)
 .exact VR.dU _ _ _
 .cases n with
  |zero=>exact VR.dU _ _ _
  |succ n=>
   have hp:AQ w B=some ⟨B,0,0⟩:=if_pos hB;exact VR.slice hp hn (by unfold maxLen at hc;unfold aS;omega)
theorem TH{w:World}{v:Value}(h:goodA w v):VR (AQ w) (absA v) v:=by
 cases v with
 |agg cs=>
  refine VR.qC ?_
  show F2 (VR (AQ w)) (cs.toList.map nM) cs.toList
  have:F2 (VR (AQ w)) (cs.toList.map nM) (cs.toList.map id):=F2.map cs.toList λx hx=>CM (h x hx)
  rwa [List.map_id]at this
 |_=>exact CM h
theorem acY(Ip:x7 P=true)(w:World):HR P (AQ w) (memH w) w:=by
 have dom:∀b pl,AQ w b=some pl->pl=⟨b,0,0⟩/\K_ w b:=by
  intro b pl h;unfold AQ at h;split at h
  .cases h;exact⟨rfl,by assumption⟩
  .cases h
 have lt:∀b,K_ w b->b<w.heap.size:=λb ⟨C,e,fz,h⟩=>(Array.getElem?_eq_some_iff.1 h).1;refine⟨?_,?_,?_,Nat.lt_succ_self _,?_,Nat.le_refl _,pn.Kk Ip⟩
 .intro b o pl h1 h2;obtain⟨rfl,_⟩:=dom b pl h2;obtain⟨C,e,fz,h3,rfl⟩:=r4 h1;rw[h3];refine⟨rfl,Nat.le_refl _,λi v hv hi=>?_⟩;obtain⟨u,h4,h5,rfl⟩:=Jb w C.toList .nil 0 i v (λj _=>T.get_nil _) (by rw[Nat.zero_add];exact hv);rw[Array.getElem?_toList]at h4;exact⟨u,h4,CM h5⟩
 .intro b pl h;obtain⟨rfl,h2⟩:=dom b pl h;exact⟨lt b h2,lt b h2⟩
 .intro b o _ h;obtain⟨C,e,fz,h3,_⟩:=r4 h;exact lt b ⟨C,e,fz,h3⟩
 .intro b b' o o' pl mM _ _ _ _ h1 h2 h3;obtain⟨rfl,_⟩:=dom b pl h1;obtain⟨rfl,_⟩:=dom b' mM h2;exact h3
theorem law_mem(Ip:x7 P=true){f:FuncId}{args:List Value}{w:World}(hg:∀v∈args,goodA w v)(hc:(memH w).lo<=(memH w).nx->aj P f (args.map absA) (memH w) CH):Calls P f args.toArray w λe w'=>e=.returned (.bool true)/\Below w.heap.size w w':=by
 have ha:F2 (VR (AQ w)) (args.map absA) (args.map id):=F2.map args λx hx=>TH (hg x hx);rw[List.map_id]at ha;refine TG (hc (Nat.le_refl _)) ha (acY Ip w) ?_;intro b pl h;unfold AQ at h;split at h
 .rename_i hm;obtain⟨C,e,fz,h3⟩:=hm;exact⟨(Array.getElem?_eq_some_iff.1 h3).1,_,EM h3,trivial⟩
 .cases h
section
variable {α:Type}{dh:α->List Value}{s:Nat}
theorem kZ.good{w:World}{v:Value}{L:List α}(hv:kZ dh w v L):pZ w v:=by
 rcases hv with⟨rfl,rfl|⟨a,cap,rfl⟩⟩|⟨B,o,cap,C,e,fz,rfl,hl,hm,hC,hle,hcell⟩
 .exact .inr (.inl rfl)
 .exact .inr (.inr (.inl ⟨a,cap,rfl⟩))
 .exact .inr (.inr (.inr ⟨B,o,_,cap,rfl,hl,hm,C,e,fz,hC⟩))
theorem kZ.abs{w:World}{v:Value}{L:List α}(hv:kZ dh w v L)(hg:∀a∈L,∀u∈dh a,pZ w u):Sl (λa=>(dh a).map nM) (memH w) (nM v) L/\∀e,Cut e s (memH w) (nM v) L.length:=by
 rcases hv with⟨rfl,rfl|⟨a,cap,rfl⟩⟩|⟨B,o,cap,C,e,fz,rfl,hl,hm,hC,hle,hcell⟩
 .exact⟨Sl.nil _ _ _,λe=>.inl ⟨rfl,rfl⟩⟩
 .exact⟨Sl.nil _ _ _,λe=>.inr (.inl ⟨rfl,0,0,.inl rfl⟩)⟩
 .cases hL:L with
  |nil=>exact⟨Sl.nil _ _ _,λe=>.inr (.inl ⟨rfl,0,0,.inl rfl⟩)⟩
  |cons x L'=>
   have e1:nM (.slice (some ⟨B,o,none⟩) L.length cap)=.slice (some ⟨B,o,none⟩) L.length cap:=by rw[hL];rfl
   rw[<-hL,e1];refine⟨⟨_,cap,rfl,λ_=>⟨B,o,rfl,(Array.getElem?_eq_some_iff.1 hC).1,?_⟩⟩,λe=>.inr (.inr (.inl ⟨B,o,cap,rfl,hl,by unfold maxLen at hm;omega⟩))⟩;rw[EM hC];have efl:L.flatMap (λa=>(dh a).map nM)=(L.flatMap dh).map nM:=by rw[List.map_flatMap]
   rw[efl];refine⟨C.size,_,e,.inl rfl,by rw[List.length_map];exact hle,λj u hj=>?_⟩;rw[List.getElem?_map,Option.map_eq_some_iff]at hj;obtain⟨u',h1,rfl⟩:=hj;have h2:=hcell j u' h1;have hm:=List.mem_of_getElem? h1;rw[List.mem_flatMap]at hm;obtain⟨a,ha,hu⟩:=hm;have:=Ja w C.toList .nil 0 (o+j) u' (by rw[Array.getElem?_toList];exact h2) (hg a ha u' hu)
   rwa [Nat.zero_add]at this
theorem Pp{l:List Value}(h:l.all ki=true):l.map nM=l:=by
 induction l with
 |nil=>rfl
 |cons a l ih=>simp only[List.all_cons,Bool.and_eq_true]at h;rw[List.map_cons,BD h.1,ih h.2]
theorem kZ.acZ{w:World}{v:Value}{L:List α}(hv:kZ dh w v L)(hone:∀a:α,(dh a).all ki=true):Sl dh (memH w) (nM v) L/\∀e,Cut e s (memH w) (nM v) L.length:=by
 have:=hv.abs (s:=s) λa _ u hu=>.inl (List.all_eq_true.1 (hone a) u hu);have e:(λa=>(dh a).map nM)=dh:=by funext a;exact Pp (hone a)
 rwa [e]at this
end
end Go.Vai

namespace Go.Vai
open Go Go.RowKit Go.WideShapes Go.ChangeShapes
variable {P:Program}
inductive CK where
 |i (k:IntKind)
 |b
 |s
 |sl (t:TypeId)
def CN(P:Program)(fl:TypeId->Option (List CK)):List Field->Nat->Option (List CK)
 | [],_=>some []
 |f::fs,off=>match fl f.type with
  |some l=>match Nat.beq f.offset off,Nat.beq (P.cellsOf f.type) l.length with
   |true,true=>match CN P fl fs (off+l.length)with
    |some r=>some (l++r)
    |none=>none
   |_,_=>none
  |none=>none
def flatK(P:Program):Nat->TypeId->Option (List CK)
 |0,_=>none
 |n+1,t=>match P.underlying t with
  |some (.int k)=>some [.i k]
  |some .bool=>some [.b]
  |some .string=>some [.s]
  |some (.slice _)=>some [.sl t]
  |some (.struct fs)=>match CN P (flatK P n) fs.toList 0 with
   |some l=>match Nat.beq (P.cellsOf t) l.length with
    |true=>some l
    |false=>none
   |none=>none
  |_=>none
section
variable {H:Type}{enc:TypeId × Value->H}{w:World}
def XE(enc:TypeId × Value->H)(P:Program)(w:World)(k:CK)(v:Value):Prop:=match k with
 | .i kk=>∃n,v=.int kk n/\(Lit.int kk n).wf=true
 | .b=>∃b,v=.bool b
 | .s=>∃s,v=.string s
 | .sl t=>∃fuel x,DataW.trod enc P w 0 (λ_=>true) true fuel t [v]=some x
theorem TI{fl:TypeId->Option (List CK)}(ih:∀t ks,fl t=some ks->∀fuel cs x,DataW.trod enc P w 0 (λ_=>true) true fuel t cs=some x->F2 (XE enc P w) ks cs)(m:Nat)(cs:List Value):∀(fs:List Field)(off:Nat)(r:List CK),CN P fl fs off=some r->(∀f∈fs,∃x,DataW.trod enc P w 0 (λ_=>true) true m f.type ((cs.drop f.offset).take (P.cellsOf f.type))=some x)->
   off+r.length=cs.length->F2 (XE enc P w) r (cs.drop off):=by
 intro fs
 induction fs with
 |nil=>
  intro off r h _ hl;cases h;rw[List.drop_of_length_le (by simp at hl;omega)];exact .nil
 |cons f fs ihf=>
  intro off r h hf hl;unfold CN at h;split at h<;>try contradiction
  rename_i l tK;split at h<;>try contradiction
  rename_i h1 h2;split at h<;>try contradiction
  rename_i r' hr;cases h;have h1:=c_ h1;have h2:=c_ h2;obtain⟨x,hx⟩:=hf f (.head _);have k1:=ih _ _ tK _ _ _ hx;rw[h1,h2]at k1;rw[List.length_append]at hl;have k2:=ihf (off+l.length) r' hr (λg hg=>hf g (.tail _ hg)) XV;have e:cs.drop off=(cs.drop off).take l.length++cs.drop (off+l.length):=by
   rw[<-List.drop_drop,List.take_append_drop]
  rw[e];exact k1.append k2
theorem Pr:∀(n:Nat)(t:TypeId)(ks:List CK),flatK P n t=some ks->∀fuel cs x,DataW.trod enc P w 0 (λ_=>true) true fuel t cs=some x->F2 (XE enc P w) ks cs:=by
 intro n
 induction n with
 |zero=>intro t ks h;cases h
 |succ n ih=>
  intro t ks h fuel cs x hx;unfold flatK at h;split at h
  .rename_i k hu;cases h;obtain⟨n,rfl,_,hwf⟩:=DataW.trod_int hu hx;exact .cons ⟨n,rfl,hwf⟩ .nil
  .rename_i hu;cases h;obtain⟨n,rfl,_⟩:=DataW.trod_bool hu hx;exact .cons ⟨n,rfl⟩ .nil
  .rename_i hu;cases h;obtain⟨n,rfl,_⟩:=DataW.trod_string hu hx;exact .cons ⟨n,rfl⟩ .nil
  ·rename_i e hu;cases h;have:∃v,cs=[v]:=by
    rcases DataW.trod_slice hu hx with h|h
    .exact⟨_,h.1⟩
    .obtain⟨a,len,cap,_,_,_,_,h,_⟩:=h;exact⟨_,h⟩
   obtain⟨v,rfl⟩:=this;exact .cons ⟨fuel,x,hx⟩ .nil
  .rename_i fs hu;split at h<;>try contradiction
   rename_i l hl;split at h<;>try contradiction
   rename_i hc;cases h;have hc:=c_ hc;obtain⟨xs,m,_,_,AT,hlen,hf⟩:=DataW.trod_struct hu hx;have key:=TI ih m cs fs.toList 0 ks hl (λf hf'=>?_) XV
   .rw[List.drop_zero]at key;exact key
   .obtain⟨i,hi,rfl⟩:=List.getElem_of_mem hf';have h1:=hf i (fs.toList[i]) (by simp at hi ⊢);obtain⟨y,hy⟩:∃y,xs[i]? = some y:=⟨_,List.getElem?_eq_getElem (by simp at hi;omega)⟩
    rw[hy]at h1;exact⟨y,h1⟩
  .cases h
theorem F2.nO{α γ:Type}{R:α->γ->Prop}{a:α}{l:List α}{m:List γ}(h:F2 R (a::l) m):∃b m',m=b::m'/\R a b/\F2 R l m':=by
 cases h with
 |cons h t=>exact⟨_,_,rfl,h,t⟩
theorem F2.ac0{α γ:Type}{R:α->γ->Prop}{m:List γ}(h:F2 R [] m):m=[]:=by cases h;rfl
end
section
variable {α:Type}{dh:α->List Value}{s:Nat}
theorem kZ.absA{w:World}{v:Value}{L:List α}(hv:kZ dh w v L):Go.Vai.absA v=nM v:=by
 rcases hv with⟨rfl,rfl|⟨a,cap,rfl⟩⟩|⟨B,o,cap,C,e,fz,rfl,_⟩<;>rfl
theorem kZ.goodA{w:World}{v:Value}{L:List α}(hv:kZ dh w v L):Go.Vai.goodA w v:=by
 have h:=hv.good;rcases hv with⟨rfl,rfl|⟨a,cap,rfl⟩⟩|⟨B,o,cap,C,e,fz,rfl,_⟩<;>exact h
theorem kZ.read{w:World}{v:Value}{L:List α}(hv:kZ dh w v L)(hone:∀a:α,(dh a).all ki=true):Sl dh (memH w) (Go.Vai.absA v) L:=by
 rw[hv.absA];exact(hv.acZ (s:=1) hone).1
theorem kZ.cut{w:World}{v:Value}{L:List α}(hv:kZ dh w v L)(hone:∀a:α,(dh a).all ki=true){e:TypeId}{s:Nat}:Cut e s (memH w) (Go.Vai.absA v) L.length:=by
 rw[hv.absA];exact(hv.acZ (s:=s) hone).2 e
theorem goodA_int{w:World}{k:IntKind}{n:Int}:goodA w (.int k n):=.inl rfl
end
end Go.Vai

namespace Go.Vai
open Go Go.RowKit
section
variable {α:Type}{s:Nat}{enc:α->List Value}
theorem yH(he:∀a:α,(enc a).length=s)(L:List α):∀i,(L.flatMap enc).drop (i*s)=(L.drop i).flatMap enc:=by
 induction L with
 |nil=>intro i;simp
 |cons a L ih=>
  intro i;cases i with
  |zero=>simp
  |succ i=>
   simp only[List.flatMap_cons,List.drop_succ_cons];rw[List.drop_append,<-ih i,he,List.drop_of_length_le (by rw[he,Nat.succ_mul];omega),show(i+1)*s-s=i*s by rw[Nat.succ_mul];omega];rfl
theorem Sl.tail{h:ah}{b o cap cap' i:Nat}{L:List α}(he:∀a:α,(enc a).length=s)(hs:Sl enc h (.slice (some ⟨b,o,none⟩) L.length cap) L)(hi:i<L.length):Sl enc h (.slice (some ⟨b,o+i*s,none⟩) (L.length-i) cap') (L.drop i):=by
 obtain⟨x',anq,e1,h2⟩:=hs;cases e1;refine⟨some ⟨b,o+i*s,none⟩,cap',by simp,λhn=>?_⟩;have hL:L≠[]:=by rintro rfl;simp at hn
 obtain⟨b',o',e,h3,h4⟩:=h2 hL;cases e;refine⟨_,_,rfl,h3,?_⟩;have hl:=bg (enc:=enc) he L;have hle:i*s<=L.length*s:=Nat.mul_le_mul_right _ XV;have:=h4.sub (i*s) (L.length*s-i*s) XV;rw[yH he,List.take_of_length_le (by rw[bg he,List.length_drop,Nat.sub_mul];exact Nat.le_refl _)]at this;exact this
theorem Jc{β:Type}{fl:β}{len lim cap i:Nat}(hi:i<=len)(hl:len<=lim)(Y:Nat->Nat->Nat->β):iP fl len lim cap (some (.int .i64 (i:Int))) none none Y=Y i len cap:=by
 have e1:Nat.ble i len=true:=Nat.ble_eq_true_of_le hi;have e2:Nat.ble len lim=true:=Nat.ble_eq_true_of_le hl;unfold iP;simp only[yG,vp,e1,e2]
end
end Go.Vai
end
