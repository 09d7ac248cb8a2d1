/-
  PROVED HERE: a part of the proof (VaiS15, VaiS16, VaiS17, VaiS18, VaiK, VaiW, VaiW2, VaiL, VaiM, VaiN, VaiZ, VaiO, VaiQ, VaiT, VaiU, VaiV).
-/
import Derived.Test.YtmllggkhfmjpgaaGreatDoorG1
import Derived.RowKit3
import Derived.ChangeSame
import Derived.Below
import Derived.Deep.Slices
import Derived.Carry
import Derived.ProofKit
set_option linter.unusedVariables false
set_option linter.unusedSimpArgs false
noncomputable section
namespace Go.Vai
open Go
variable {β:Type}{fl:β}{good:β->Prop}{pr:lF β}{P:Program}{φ:dV}{h h':af}{w:World}{t:TypeId}
theorem D7:∀(os:List Oper)(n k:Nat)(q:Oper),os[k]? = some q->(n+k,q)∈fu os n:=by
 intro os
 induction os with
 |nil=>intro n k q h;simp at h
 |cons o os ih=>
  intro n k q h;cases k with
  |zero=>simp at h;subst h;exact List.mem_cons_self
  |succ k=>
   simp at h;have:=ih (n+1) k q h;rw[show n+(k+1)=n+1+k by omega];exact List.mem_cons_of_mem _ this
theorem dy(D i k:Nat):bit (fC D i) k=(bit D k || decide (i=k)):=by
 show Nat.testBit (D ||| 2 ^ i) k=_
 rw[Nat.testBit_or,Nat.testBit_two_pow];rfl
theorem Xj(D M k:Nat):bit (Nat.lor D M) k=(bit D k || bit M k):=Nat.testBit_or ..
theorem D8(k:Nat):bit 0 k=false:=Nat.zero_testBit k
theorem pU{op:Op}{x:Vp}(h:ij P op=.rd x):oO none P op=some x:=by
 unfold ij at h;split at h<;>try contradiction
 split at h
 .rename_i e;cases h;exact e
 .split at h<;>contradiction
theorem x9{op:Op}{x:OXA}(h:ij P op=.al x):q8 none P op=some x:=by
 unfold ij at h;split at h<;>try contradiction
 split at h<;>try contradiction
 split at h<;>try contradiction
 rename_i e;cases h;exact e
structure Stat(P:Program)(ops:Array Oper)(i:Nat)(o:Oper):Prop where
 k1:∀j q,ops[j]? = some q->f_ P q=false->∀t∈cW ops.toList o,q.dst=some t->j∈cF o
 k2:f_ P o=false->∀j q,ops[j]? = some q->j≠i->f_ P q=false->∀d,o.dst=some d->q.dst≠some d
theorem D9{ops:Array Oper}{j:Nat}{q:Oper}(h:ops[j]? = some q):(j,q)∈fu ops.toList 0:=by
 have:=D7 ops.toList 0 j q (by rw[Array.getElem?_toList];exact h);simpa using this
theorem uN{o:Oper}{t:Nat}:A7 o t=true<->o.dst=some t:=by
 unfold A7;cases o.dst with
 |none=>simp
 |some d=>simp
theorem rQ{ops:Array Oper}{D M i:Nat}{o:Oper}(h:SK P ops.toList (fu ops.toList 0) D M i o=true):bit D i=false/\(∀e∈cF o,bit D e=true)/\(∃g,guardOf ops.toList o=some g)/\Stat P ops i o/\
  (f_ P o=true->(∀k q,ops[k]? = some q->k≠i->bit D k=false->pL D q=false)/\
   ∀k q,ops[k]? = some q->bit D k=true->f_ P q=false->bit M k=false->∀d,o.dst=some d->q.dst≠some d/\d∉cW ops.toList q):=by
 unfold SK at h;simp only[Bool.and_eq_true]at h;obtain⟨⟨⟨⟨h1,h2⟩,h3⟩,h4⟩,h5⟩:=h;simp only[List.all_eq_true]at h4;refine⟨by simpa using h1,?_,Option.isSome_iff_exists.mp h3,⟨?_,?_⟩,?_⟩
 .simpa[pL,List.all_eq_true]using h2
 .intro j q hq hw t ht hd;have:=h4 _ (D9 hq);simp only[Bool.or_eq_true]at this;rcases this with(this|this)|this
  .rw[hw]at this;cases this
  .have hx:(cW ops.toList o).any (A7 q)=true:=List.any_eq_true.mpr ⟨t,ht,uN.mpr hd⟩;rw[hx]at this;cases this
  .simpa using this
 .intro hw j q hq hji Ot d hd hqd;rw[hw]at h5;simp only[List.all_eq_true]at h5;have:=h5 _ (D9 hq);simp only[Bool.or_eq_true]at this;rcases this with(this|this)|this
  .exact hji (by simpa using this)
  .rw[Ot]at this;cases this
  .rw[hd]at this;simp[uN.mpr hqd]at this
 .intro hw;rw[hw]at h5;simp only[Bool.and_eq_true,List.all_eq_true]at h5;refine⟨?_,?_⟩
  .intro k q hq hki hk;have:=h5.1 _ (D9 hq);simp only[Bool.or_eq_true]at this;rcases this with(this|this)|this
   .exact absurd (by simpa using this) hki
   .rw[hk]at this;cases this
   .simpa using this
  .intro k q hq hk Ot hm d hd;have:=h5.2 _ (D9 hq);simp only[Bool.or_eq_true]at this;rcases this with((this|this)|this)|this
   .rw[hk]at this;cases this
   .rw[Ot]at this;cases this
   .rw[hm]at this;cases this
   .rw[hd]at this;simp only[Bool.and_eq_true]at this;refine⟨λe=>?_,λhmem=>?_⟩
    .rw[uN.mpr e]at this;simp at this
    .have hx:(cW ops.toList q).any (Nat.beq d)=true:=List.any_eq_true.mpr ⟨d,hmem,by simp⟩;rw[hx]at this;simp at this
theorem D_{ops:Array Oper}{o:Oper}{s:Nat}{b:Bool}(hg:guardOf ops.toList o=some (some (s,b))):s∈cW ops.toList o:=by
 unfold guardOf at hg;split at hg
 .cases hg
 rename_i j w hgu;split at hg<;>try contradiction
 rename_i hq;cases hg;simp only[cW,hgu,List.mem_append];right;rw[hq];simp
theorem ru{os:List Oper}{o:Oper}{t:Nat}(h:Operand.tmp t∈o.op.operands.toList):t∈cW os o:=by
 simp only[cW,List.mem_append,List.mem_filterMap];exact .inl ⟨_,h,rfl⟩
theorem pV{os:List Oper}{o:Oper}{tm c9:T Value}(h:∀t∈cW os o,dL c9 t=dL tm t):∀y∈o.op.operands.toList,fq c9 y=fq tm y:=by
 intro y hy;cases y with
 |tmp t=>exact h t (ru hy)
 |_=>rfl
theorem nN{ops:Array Oper}{o:Oper}{g:Option (Nat × Bool)}(hg:guardOf ops.toList o=some g){tm c9:T Value}(h:∀t∈cW ops.toList o,dL c9 t=dL tm t):iT c9 g=iT tm g:=by
 cases g with
 |none=>rfl
 |some p=>obtain⟨s,b⟩:=p;simp only[iT,h s (D_ hg)]
def Ou(P:Program)(ops:Array Oper)(own:Nat->Option Nat)(h0:af)(φ:dV)(h:af)(tm:T Value)(i:Nat)(o:Oper):Prop:=
 ∃g,guardOf ops.toList o=some g/\(iT tm g=false->∀d,o.dst=some d->dL tm d=undef)/\
  (iT tm g=true->match ij P o.op with
   | .rd x=>∃v,kH x tm h=some v/\∀d,o.dst=some d->dL tm d=v
   | .al x=>∃n ob mk,own n=some i/\xL x tm=some (ob,mk)/\h.bl.get n=some ob/\φ n=none/\n<h.nx/\h0.nx<=n/\∀d,o.dst=some d->dL tm d=mk n
   | .wr=>False)
theorem Ou.keep{ops:Array Oper}{own rR:Nat->Option Nat}{h0:af}{φ':dV}{tm c9:T Value}{i:Nat}{o:Oper}(hp:Ou P ops own h0 φ h tm i o)(hl:∀t∈cW ops.toList o,dL c9 t=dL tm t)(hd:∀d,o.dst=some d->dL c9 d=dL tm d)(hrd:∀x v g,ij P o.op=.rd x->guardOf ops.toList o=some g->iT c9 g=true->kH x tm h=some v->(∀d,o.dst=some d->dL c9 d=v)->∃v',kH x c9 h'=some v'/\∀d,o.dst=some d->dL c9 d=v')(hal:∀n ob,own n=some i->h.bl.get n=some ob->φ n=none->n<h.nx->h0.nx<=n->rR n=some i/\h'.bl.get n=some ob/\φ' n=none/\n<h'.nx):Ou P ops rR h0 φ' h' c9 i o:=by
 obtain⟨g,hg,h1,h2⟩:=hp;have hw:=nN hg hl;refine⟨g,hg,λhf d DA=>by rw[hd d DA];exact h1 (hw▸hf) d DA,λht=>?_⟩;have h2:=h2 (hw▸ht);cases hc:ij P o.op with
 |rd x=>
  rw[hc]at h2;obtain⟨v,k1,k2⟩:=h2;exact hrd x v g hc hg ht k1 λd DA=>by rw[hd d DA];exact k2 d DA
 |al x=>
  rw[hc]at h2;obtain⟨n,ob,mk,k1,k2,k3,k4,k5,k6,k7⟩:=h2;obtain⟨j1,j2,j3,j4⟩:=hal n ob k1 k3 k4 k5 k6;refine⟨n,ob,mk,j1,?_,j2,j3,j4,k6,λd DA=>by rw[hd d DA];exact k7 d DA⟩;unfold xL at *
  rw[XA.congr (λy hy=>pV hl y (Bg (x9 hc) y hy))];exact k2
 |wr=>rw[hc]at h2;exact h2.elim
abbrev nk(listed:Array Bool)(i:Nat):Prop:=listed.getD i false=true
structure Inv(P:Program)(ops:Array Oper)(nt:Nat)(φ0:dV)(h0:af)(w0:World)(ds:List Deferred)(kQ:T Value)(listed:Array Bool)(D M:Nat)(tm:T Value)(h:af)(own:Nat->Option Nat)(φ:dV)(a:Act)(w:World):Prop where
 VD:listed.size=ops.size
 sub:∀i,nk listed i->bit D i=true
 clo:∀i o,ops[i]? = some o->nk listed i->∀e∈cF o,nk listed e
 wr:∀i o,ops[i]? = some o->bit D i=true->f_ P o=true->nk listed i
 mS:∀i,bit M i=true->nk listed i
 st:∀i o,ops[i]? = some o->bit D i=true->Stat P ops i o/\∀e∈cF o,bit D e=true
 small:nt<=1000000000000
 size:a.tmps.size=nt
 rel:∀t,t<nt->(∀i o,ops[i]? = some o->bit D i=true->¬nk listed i->o.dst≠some t)->VR φ (dL tm t) (a.tmps.getD t undef)
 hr:HR P φ h w
 ext:Ext φ0 φ h0 h w0 w
 dfs:a.defers=ds
 lq:∀i o,ops[i]? = some o->bit D i=true->¬nk listed i->Ou P ops own h0 φ h tm i o
 keep:∀t,t<nt->(∀(i:Nat)(o:Oper),ops[i]? = some o->o.dst≠some t)->dL tm t=dL kQ t
section
variable {ops:Array Oper}{nt:Nat}{φ0:dV}{h0:af}{w0:World}{ds:List Deferred}{listed:Array Bool}{D M:Nat}{tm kQ:T Value}{own:Nat->Option Nat}{a:Act}
theorem Inv.ahead(inv:Inv P ops nt φ0 h0 w0 ds kQ listed D M tm h own φ a w)(hok:∀q∈ops.toList,fc nt q=true){i:Nat}{o:Oper}(ho:ops[i]? = some o)(hD:bit D i=false)(Sk:∀e∈cF o,bit D e=true)(hst:Stat P ops i o)(hw:f_ P o=false){v:Value}{h':af}{rR:Nat->Option Nat}(hr':HR P φ h' w)(hx':Ext φ0 φ h0 h' w0 w)(hm:Az h h')(hnx:h.nx<=h'.nx)(hown:∀n,n<h.nx->rR n=own n)(hpe:Ou P ops rR h0 φ h' (jo tm o.dst v) i o):Inv P ops nt φ0 h0 w0 ds kQ listed (fC D i) M (jo tm o.dst v) h' rR φ a w:=by
 have hmem:o∈ops.toList:=List.mem_of_getElem? (by rw[Array.getElem?_toList];exact ho);have JQ:¬nk listed i:=λhs=>by rw[inv.sub i hs]at hD;cases hD
 have pW:=dK (hok o hmem);refine⟨inv.VD,?_,inv.clo,?_,inv.mS,?_,inv.small,inv.size,?_,hr',hx',inv.dfs,?_,λt ht hno=>by rw[gK inv.small pW ht,if_neg (hno i o ho)];exact inv.keep t ht hno⟩
 .intro k hk;rw[dy,inv.sub k hk];rfl
 .intro k q hq hk Xk;rw[dy,Bool.or_eq_true]at hk;rcases hk with hk|hk
  .exact inv.wr k q hq hk Xk
  .have hk:i=k:=by simpa using hk
   subst hk;rw[ho]at hq;cases hq;rw[hw]at Xk;cases Xk
 .intro k q hq hk;rw[dy,Bool.or_eq_true]at hk;have up:∀{e},bit D e=true->bit (fC D i) e=true:=λhe=>by rw[dy,he];rfl
  rcases hk with hk|hk
  .exact⟨(inv.st k q hq hk).1,λe he=>up ((inv.st k q hq hk).2 e he)⟩
  .have hk:i=k:=by simpa using hk
   subst hk;rw[ho]at hq;cases hq;exact⟨hst,λe he=>up (Sk e he)⟩
 .intro t ht hno;have h1:o.dst≠some t:=hno i o ho (by rw[dy];simp) JQ;rw[gK inv.small pW ht,if_neg h1];exact inv.rel t ht λk q hq hk vL=>hno k q hq (by rw[dy,hk];rfl) vL
 .intro k q hq hk vL;rw[dy,Bool.or_eq_true]at hk;by_cases hki:i=k
  .subst hki;rw[ho]at hq;cases hq;exact hpe
  ·have hk:bit D k=true:=by
    rcases hk with hk|hk
    .exact hk
    .exact absurd (by simpa using hk) hki
   have Ot:f_ P q=false:=by
    cases Ot:f_ P q with
    |false=>rfl
    |true=>exact absurd (inv.wr k q hq hk Ot) vL
   have VE:q∈ops.toList:=List.mem_of_getElem? (by rw[Array.getElem?_toList];exact hq);have hl:∀t∈cW ops.toList q,dL (jo tm o.dst v) t=dL tm t:=by
    intro t ht;rw[gK inv.small pW (lM hok VE ht),if_neg];intro he;have:=(inv.st k q hq hk).2 i ((inv.st k q hq hk).1.k1 i o ho hw t ht he);rw[this]at hD;cases hD
   have hd:∀d,q.dst=some d->dL (jo tm o.dst v) d=dL tm d:=by
    intro d DA;have hlt:d<nt:=by have:=dK (hok q VE);rw[DA]at this;exact dJ this
    rw[gK inv.small pW hlt,if_neg];intro he;exact hst.k2 hw k q hq (λe=>hki e.symm) Ot d he DA
   refine(inv.lq k q hq hk vL).keep hl hd ?_ ?_
   .intro x v' g hc hg AB hrd hdv;refine⟨v',?_,hdv⟩;have:=Ib (pU hc) hm hrd;unfold kH at *
    rw[XI.congr (λy hy=>pV hl y (uM (pU hc) y hy))];exact this
   .intro n ob e1 e2 e3 e4 e5;exact⟨by rw[hown n e4];exact e1,hm n ob e2,e3,Nat.lt_of_lt_of_le e4 hnx⟩
end
end Go.Vai

namespace Go.Vai
open Go
variable {β:Type}{fl:β}{good:β->Prop}{pr:lF β}{P:Program}{φ:dV}{h h':af}{w:World}{t:TypeId}
variable {ops:Array Oper}{nt:Nat}{φ0:dV}{h0:af}{w0:World}{ds:List Deferred}{listed:Array Bool}{D M:Nat}{tm kQ:T Value}{own:Nat->Option Nat}{a:Act}
theorem Az.refl(h:af):Az h h:=λ_ _ e=>e
theorem gM{i k:Nat}(hi:i<listed.size):nk (listed.setIfInBounds i true) k<->k=i\/nk listed k:=by
 unfold nk;simp only[Array.getD_eq_getD_getElem?];by_cases he:i=k
 .subst he;simp[Array.getElem?_setIfInBounds_self_of_lt hi]
 .rw[Array.getElem?_setIfInBounds_ne he];constructor
  .exact λh=>.inr h
  .rintro(h|h)
   .exact absurd h.symm he
   .exact h
theorem Ea{a:Act}{d:Option Nat}{v:Value}{t:Nat}(ht:t<a.tmps.size):(a.put d v).tmps.getD t undef=if d=some t then v else a.tmps.getD t undef:=by
 cases d with
 |none=>simp[Act.put]
 |some d=>
  simp only[Act.put,Array.getD_eq_getD_getElem?];by_cases he:d=t
  .subst he;rw[if_pos rfl,Array.getElem?_setIfInBounds_self_of_lt ht];rfl
  .rw[if_neg (by simpa using he),Array.getElem?_setIfInBounds_ne he]
theorem Eb{a:Act}{d:Option Nat}{v:Value}:(a.put d v).tmps.size=a.tmps.size:=by cases d<;>simp[Act.put]
theorem JR{a:Act}{d:Option Nat}{v:Value}:(a.put d v).defers=a.defers:=by cases d<;>rfl
theorem Ic{o:Oper}{x:Vp}(h:ij P o.op=.rd x):f_ P o=false:=by unfold f_;rw[h]
theorem LV{o:Oper}(h:f_ P o=true):ij P o.op=.wr:=by
 unfold f_ at h;split at h
 .assumption
 .cases h
theorem x_{i:Nat}{o:Oper}(ho:ops[i]? = some o):o∈ops.toList:=List.mem_of_getElem? (by rw[Array.getElem?_toList];exact ho)
theorem Inv.advance(hfl:¬good fl)(inv:Inv P ops nt φ0 h0 w0 ds kQ listed D M tm h own φ a w)(hok:∀q∈ops.toList,fc nt q=true){rec:Rec β}{i:Nat}{o:Oper}(ho:ops[i]? = some o)(hD:bit D i=false)(Sk:∀e∈cF o,bit D e=true)(hst:Stat P ops i o)(hw:f_ P o=false){M':Nat}{V:T Value->af->β}(hg:good (jS fl pr P rec ops.toList D M' o tm h V)):∃c9 h' rR,Inv P ops nt φ0 h0 w0 ds kQ listed (fC D i) M c9 h' rR φ a w/\good (V c9 h'):=by
 have pW:=dK (hok o (x_ ho));have hl:∀v,∀t∈cW ops.toList o,dL (jo tm o.dst v) t=dL tm t:=by
  intro v t ht;rw[gK inv.small pW (lM hok (x_ ho) ht),if_neg];intro he;have:=Sk i (hst.k1 i o ho hw t ht he);rw[this]at hD;cases hD
 have hdv:∀v d,o.dst=some d->dL (jo tm o.dst v) d=v:=by
  intro v d hd;have hlt:d<nt:=by rw[hd]at pW;exact dJ pW
  rw[gK inv.small pW hlt,if_pos hd]
 unfold jS at hg;split at hg
 .exact absurd hg hfl
 rename_i g NF;split at hg
 .rename_i AB;rw[gJ]at hg;refine⟨_,_,own,inv.ahead hok ho hD Sk hst hw inv.hr inv.ext (Az.refl h) (Nat.le_refl _) (λ_ _=>rfl) ?_,hg⟩;refine⟨g,NF,λ_ d hd=>hdv _ d hd,λht=>?_⟩;rw[nN NF (hl _),AB]at ht;cases ht
 .rename_i AB;split at hg
  .rename_i x hc;split at hg
   .rename_i v hv;rw[gJ]at hg;refine⟨_,_,own,inv.ahead hok ho hD Sk hst hw inv.hr inv.ext (Az.refl h) (Nat.le_refl _) (λ_ _=>rfl) ?_,hg⟩;refine⟨g,NF,λhf=>?_,λ_=>?_⟩
    .rw[nN NF (hl _),AB]at hf;cases hf
    .rw[hc];refine⟨v,?_,λd hd=>hdv _ d hd⟩;unfold kH at *
     rw[XI.congr (λy hy=>pV (hl v) y (uM (pU hc) y hy))];exact hv
   .exact absurd hg hfl
  .rename_i x hc;split at hg
   .rename_i ob mk hv;obtain⟨hn,hg⟩:=dn hfl hg;rw[gJ]at hg;have hs:Small h.nx:=by unfold Small;omega
    have hnone:φ h.nx=none:=by
     cases hp:φ h.nx with
     |none=>rfl
     |some pl=>have:=(inv.hr.dom _ _ hp).1;omega
    refine⟨_,_,(λn=>if n=h.nx then some i else own n),inv.ahead hok ho hD Sk hst hw (inv.hr.xT hn ob) (inv.ext.xT inv.hr.lo hn ob) ?_ (Nat.le_succ _) (λn hn=>if_neg XQ) ?_,hg⟩
    .intro b o' hb;by_cases hsb:Small b
     .have:=inv.hr.keys b o' hsb hb
      show(h.bl.bq h.nx ob).get b=some o'
      rw[T.gU _ _ hs hsb XQ];exact hb
     .show(h.bl.bq h.nx ob).get b=some o'
      exact absurd (Nat.lt_succ_self b) hsb
    .refine⟨g,NF,λhf=>?_,λ_=>?_⟩
     .rw[nN NF (hl _),AB]at hf;cases hf
     .rw[hc];refine⟨h.nx,ob,mk,if_pos rfl,?_,T.au _ _ _,hnone,Nat.lt_succ_self _,inv.ext.nx,λd hd=>hdv _ d hd⟩;unfold xL at *
      rw[XA.congr (λy hy=>pV (hl _) y (Bg (x9 hc) y hy))];exact hv
   .exact absurd hg hfl
  .rename_i hc;rw[f_,hc]at hw;cases hw
theorem Inv.done(inv:Inv P ops nt φ0 h0 w0 ds kQ listed D M tm h own φ a w)(hok:∀q∈ops.toList,fc nt q=true){i:Nat}{o:Oper}(ho:ops[i]? = some o)(hD:bit D i=true)(sV:∀e∈cF o,nk listed e){φ':dV}{w':World}{v':Value}(hv:∀d,o.dst=some d->VR φ' (dL tm d) v')(hs:Sub φ φ')(hr':HR P φ' h w')(hx':Ext φ0 φ' h0 h w0 w')(hφ:∀n,own n≠some i->φ n=none->φ' n=none):Inv P ops nt φ0 h0 w0 ds kQ (listed.setIfInBounds i true) D M tm h own φ' (a.put o.dst v') w':=by
 have hil:i<listed.size:=by rw[inv.VD];exact(Array.getElem?_eq_some_iff.mp ho).1
 refine⟨by simp[inv.VD],?_,?_,?_,?_,inv.st,inv.small,by rw[Eb];exact inv.size,?_,hr',hx',by rw[JR];exact inv.dfs,?_,inv.keep⟩
 .intro k hk;rcases(gM hil).mp hk with rfl|hk
  .exact hD
  .exact inv.sub k hk
 .intro k q hq hk e he;rw[gM hil];rcases(gM hil).mp hk with rfl|hk
  .rw[ho]at hq;cases hq;exact .inr (sV e he)
  .exact .inr (inv.clo k q hq hk e he)
 .intro k q hq hk Xk;rw[gM hil];exact .inr (inv.wr k q hq hk Xk)
 .intro k hk;rw[gM hil];exact .inr (inv.mS k hk)
 .intro t ht hno;rw[Ea (by rw[inv.size];exact ht)];by_cases hd:o.dst=some t
  .rw[if_pos hd];exact hv t hd
  .rw[if_neg hd];refine(inv.rel t ht λk q hq hk vL=>?_).mono hs;by_cases hki:k=i
   .subst hki;rw[ho]at hq;cases hq;exact hd
   .exact hno k q hq hk (λhh=>by rcases(gM hil).mp hh with h1|h1<;>contradiction)
 .intro k q hq hk vL;rw[gM hil]at vL;have hki:k≠i:=λe=>vL (.inl e);have Ov:¬nk listed k:=λe=>vL (.inr e);refine(inv.lq k q hq hk Ov).keep (λ_ _=>rfl) (λ_ _=>rfl) (λx v g _ _ _ e1 e2=>⟨v,e1,e2⟩) ?_;intro n ob e1 e2 e3 e4 e5;exact⟨e1,e2,hφ n (by rw[e1];intro hh;cases hh;exact hki rfl) e3,e4⟩
theorem Inv.looks(inv:Inv P ops nt φ0 h0 w0 ds kQ listed D M tm h own φ a w)(hok:∀q∈ops.toList,fc nt q=true){i:Nat}{o:Oper}(ho:ops[i]? = some o)(hst:Stat P ops i o)(sV:∀e∈cF o,nk listed e):∀t∈cW ops.toList o,t<a.tmps.size/\VR φ (dL tm t) (a.tmps.getD t undef):=by
 intro t ht;have hlt:=lM hok (x_ ho) ht;refine⟨by rw[inv.size];exact hlt,inv.rel t hlt λk q hq hk vL hqd=>vL (sV k (hst.k1 k q hq ?_ t ht hqd))⟩;cases Ot:f_ P q with
 |false=>rfl
 |true=>exact absurd (inv.wr k q hq hk Ot) vL
theorem Inv.ac0(inv:Inv P ops nt φ0 h0 w0 ds kQ listed D M tm h own φ a w)(hok:∀q∈ops.toList,fc nt q=true){i:Nat}{o:Oper}(ho:ops[i]? = some o)(hst:Stat P ops i o)(sV:∀e∈cF o,nk listed e):∀y∈o.op.operands.toList,VR φ (fq tm y) (a.eval y):=by
 intro y hy;have hyo:=rP (hok o (x_ ho)) y hy;cases y with
 |tmp t=>exact(inv.looks hok ho hst sV t (ru hy)).2
 |const v=>exact iV hyo
 |func f=>exact VR.func' .nil .nil
 |global g=>cases hyo
theorem Inv.wanted(inv:Inv P ops nt φ0 h0 w0 ds kQ listed D M tm h own φ a w)(hok:∀q∈ops.toList,fc nt q=true){i:Nat}{o:Oper}(ho:ops[i]? = some o)(hst:Stat P ops i o)(sV:∀e∈cF o,nk listed e){g:Option (Nat × Bool)}(hg:guardOf ops.toList o=some g):Region.wanted o (yielded ops a.tmps)=iT tm g:=
 Be (φ:=φ) hg λs _ _ hs=>inv.looks hok ho hst sV s hs
theorem Inv.late(inv:Inv P ops nt φ0 h0 w0 ds kQ listed D M tm h own φ a w)(hok:∀q∈ops.toList,fc nt q=true){i:Nat}{o:Oper}(ho:ops[i]? = some o)(hD:bit D i=true)(JQ:¬nk listed i)(sV:∀e∈cF o,nk listed e){Q:Exit->Act->World->Prop}{K:Act->World->Prop}{r0:Option Nat}(hK:∀φ' a' w',Inv P ops nt φ0 h0 w0 ds kQ (listed.setIfInBounds i true) D M tm h own φ' a' w'->K a' w'):wpOpIn (FR r0) 0 P ops Q i K a w:=by
 obtain⟨hst,_⟩:=inv.st i o ho hD;obtain⟨g,hg,h1,h2⟩:=inv.lq i o ho hD JQ;have hlt:∀d,o.dst=some d->d<nt:=λd hd=>by have:=dK (hok o (x_ ho));rw[hd]at this;exact dJ this
 simp only[wpOpIn,ho];rw[inv.wanted hok ho hst sV hg];cases hw:iT tm g with
 |false=>
  rw[if_neg (by simp)];exact⟨kY,hK φ _ w (inv.done hok ho hD sV (λd hd=>by rw[h1 hw d hd];exact VR.undef) (Sub.refl φ) inv.hr inv.ext (λ_ _ e=>e))⟩
 |true=>
  rw[if_pos rfl];have h2:=h2 hw;have hρ:=inv.ac0 hok ho hst sV;cases hc:ij P o.op with
  |rd x=>
   rw[hc]at h2;obtain⟨v,k1,k2⟩:=h2;obtain⟨v0,v',e1,e2,e3⟩:=vH (β:=Option Value) (fl:=none) (good:=λr=>r=some v) (by simp) (pU hc) hρ inv.hr (V:=λv _=>some v) k1 rfl;cases e1;refine⟨kY,?_⟩;rw[Oper.semAt_eq _ _ _ (λc hcd=>by rw[hcd]at hc;cases hc),e3];exact hK φ _ w (inv.done hok ho hD sV (λd hd=>by rw[k2 d hd];exact e2) (Sub.refl φ) inv.hr inv.ext (λ_ _ e=>e))
  |al x=>
   rw[hc]at h2;obtain⟨n,ob,mk,k1,k2,k3,k4,k5,k6,k7⟩:=h2;obtain⟨ob',mk',O,e1,e2,e3,e4,e5⟩:=vJ (β:=Option (bL × (Nat->Value))) (fl:=none) (good:=λr=>r=some (ob,mk)) (P:=P) (w:=w) (by simp) (x9 hc) hρ (V:=λo mk=>some (o,mk)) k2 rfl;cases e1;refine⟨kY,?_⟩;rw[Oper.semAt_eq _ _ _ (λc hcd=>by rw[hcd]at hc;cases hc),e5];refine hK (iq φ n ⟨w.heap.size,0,0⟩) _ _ (inv.done hok ho hD sV (λd hd=>by rw[k7 d hd];exact e4 _ _ _ (er _ _ _)) (qz k4) (inv.hr.DO k3 k4 k5 0 0 (e3 _)) (inv.ext.DO k4 k6 O (sJ (e3 ⟨0,0,0⟩) e2) 0 0) ?_);intro m Xl hm2;unfold iq;rw[if_neg]
   .exact hm2
   .intro he;subst he;exact Xl k1
  |wr=>rw[hc]at h2;exact h2.elim
end Go.Vai

namespace Go.Vai
open Go
variable {β:Type}{fl:β}{good:β->Prop}{pr:lF β}{P:Program}{φ:dV}{h h':af}{w:World}{t:TypeId}
variable {ops:Array Oper}{nt:Nat}{φ0:dV}{h0:af}{w0:World}{ds:List Deferred}{listed:Array Bool}{D M:Nat}{tm kQ:T Value}{own:Nat->Option Nat}{a:Act}
theorem Ec:∀(uC:List It),vC P ops.toList D M tm h uC=true->∀k q,(k,q)∈uC->bit D k=true->bit M k=false->∀x g,ij P q.op=.rd x->guardOf ops.toList q=some g->iT tm g=true->
  ∃v,kH x tm h=some v/\∀d,q.dst=some d->dL tm d=v:=by
 intro uC
 induction uC with
 |nil=>intro _ k q hm;cases hm
 |cons it uC ih=>
  obtain⟨j,o⟩:=it;intro hs k q hm hD hM x g hc hg hw;simp only[List.mem_cons]at hm;unfold vC at hs;rcases hm with e|hm
  .cases e;simp only[hD,hM,hc,hg,hw,Bool.not_false,Bool.and_true,Bool.and_eq_true]at hs;have hs:=hs.1;split at hs
   .rename_i v d hv hd;refine⟨v,hv,λd' hd'=>?_⟩;rw[hd]at hd';cases hd';exact(Ch 8 _ _ hs).symm
   .rename_i v hv hd;exact⟨v,hv,λd' hd'=>by rw[hd]at hd';cases hd'⟩
   .cases hs
  .refine ih ?_ k q hm hD hM x g hc hg hw;split at hs
   .simp only[Bool.and_eq_true]at hs;exact hs.2
   .exact hs
theorem Ed{uC:List It}(ha:A8 P D M uC=false){k:Nat}{q:Oper}(hm:(k,q)∈uC)(hD:bit D k=true)(hM:bit M k=false){x:Vp}(hc:ij P q.op=.rd x):False:=by
 unfold A8 at ha;rw[List.any_eq_false]at ha;have:=ha _ hm;simp[hD,hM,hc]at this
theorem Inv.wrote(inv:Inv P ops nt φ0 h0 w0 ds kQ listed D M tm h own φ a w)(hok:∀q∈ops.toList,fc nt q=true){i:Nat}{o:Oper}(ho:ops[i]? = some o)(hD:bit D i=false)(sV:∀e∈cF o,nk listed e)(hst:Stat P ops i o)(hw:f_ P o=true){M':Nat}(hM:∀k,bit M' k=true->nk listed k)(hno:∀k q,ops[k]? = some q->bit D k=true->f_ P q=false->bit M' k=false->∀d,o.dst=some d->q.dst≠some d/\d∉cW ops.toList q){φ':dV}{w':World}{v v':Value}{h':af}(hv:VR φ' v v')(hr':HR P φ' h' w')(hx:Ext φ φ' h h' w w')(hre:∀k q,ops[k]? = some q->bit D k=true->bit M' k=false->¬nk listed k->∀x g,ij P q.op=.rd x->guardOf ops.toList q=some g->iT (jo tm o.dst v) g=true->
   ∃v1,kH x (jo tm o.dst v) h'=some v1/\∀d,q.dst=some d->dL (jo tm o.dst v) d=v1):Inv P ops nt φ0 h0 w0 ds kQ (listed.setIfInBounds i true) (fC D i) M' (jo tm o.dst v) h' own φ' (a.put o.dst v') w':=by
 have hil:i<listed.size:=by rw[inv.VD];exact(Array.getElem?_eq_some_iff.mp ho).1
 have pW:=dK (hok o (x_ ho));have ac1:∀{k q},ops[k]? = some q->bit (fC D i) k=true->¬nk (listed.setIfInBounds i true) k->bit D k=true/\¬nk listed k/\f_ P q=false/\bit M' k=false:=by
  intro k q hq hk vL;rw[gM hil]at vL;have hki:k≠i:=λe=>vL (.inl e);have Ov:¬nk listed k:=λe=>vL (.inr e);rw[dy,Bool.or_eq_true]at hk;have hk:bit D k=true:=by
   rcases hk with hk|hk
   .exact hk
   .exact absurd (by simpa using hk:i=k).symm hki
  refine⟨hk,Ov,?_,?_⟩
  .cases Ot:f_ P q with
   |false=>rfl
   |true=>exact absurd (inv.wr k q hq hk Ot) Ov
  .cases hm:bit M' k with
   |false=>rfl
   |true=>exact absurd (hM k hm) Ov
 refine⟨by simp[inv.VD],?_,?_,?_,?_,?_,inv.small,by rw[Eb];exact inv.size,?_,hr',inv.ext.trans hx,by rw[JR];exact inv.dfs,?_,λt ht hno=>by rw[gK inv.small pW ht,if_neg (hno i o ho)];exact inv.keep t ht hno⟩
 .intro k hk;rw[dy];rcases(gM hil).mp hk with rfl|hk
  .simp
  .rw[inv.sub k hk];rfl
 .intro k q hq hk e he;rw[gM hil];rcases(gM hil).mp hk with rfl|hk
  .rw[ho]at hq;cases hq;exact .inr (sV e he)
  .exact .inr (inv.clo k q hq hk e he)
 .intro k q hq hk Xk;rw[gM hil];rw[dy,Bool.or_eq_true]at hk;rcases hk with hk|hk
  .exact .inr (inv.wr k q hq hk Xk)
  .exact .inl (by simpa using hk:i=k).symm
 .intro k hk;rw[gM hil];exact .inr (hM k hk)
 .intro k q hq hk;rw[dy,Bool.or_eq_true]at hk;have up:∀{e},bit D e=true->bit (fC D i) e=true:=λhe=>by rw[dy,he];rfl
  rcases hk with hk|hk
  .exact⟨(inv.st k q hq hk).1,λe he=>up ((inv.st k q hq hk).2 e he)⟩
  .have hk:i=k:=by simpa using hk
   subst hk;rw[ho]at hq;cases hq;exact⟨hst,λe he=>up (inv.sub e (sV e he))⟩
 .intro t ht hnot;rw[Ea (by rw[inv.size];exact ht),gK inv.small pW ht];by_cases hd:o.dst=some t
  .rw[if_pos hd,if_pos hd];exact hv
  .rw[if_neg hd,if_neg hd];refine(inv.rel t ht λk q hq hk vL=>hnot k q hq (by rw[dy,hk];rfl) ?_).mono hx.sub;rw[gM hil];rintro(rfl|hh)
   .rw[hk]at hD;cases hD
   .exact vL hh
 ·intro k q hq hk vL;obtain⟨dB,hk2,uO,Ac⟩:=ac1 hq hk vL;have hl:∀t∈cW ops.toList q,dL (jo tm o.dst v) t=dL tm t:=by
   intro t ht;rw[gK inv.small pW (lM hok (x_ hq) ht),if_neg];intro he;exact(hno k q hq dB uO Ac t he).2 ht
  have hd:∀d,q.dst=some d->dL (jo tm o.dst v) d=dL tm d:=by
   intro d DA;have hlt:d<nt:=by have:=dK (hok q (x_ hq));rw[DA]at this;exact dJ this
   rw[gK inv.small pW hlt,if_neg];intro he;exact(hno k q hq dB uO Ac d he).1 DA
  refine(inv.lq k q hq dB hk2).keep hl hd (λx v1 g hc hg AB _ _=>hre k q hq dB Ac hk2 x g hc hg AB) ?_;intro n ob e1 e2 e3 e4 e5;refine⟨e1,by rw[hx.Dw n e4 e3];exact e2,?_,Nat.lt_of_lt_of_le e4 hx.nx⟩;cases hp:φ' n with
  |none=>rfl
  |some pl=>have:=(hx.new n pl e3 hp).1;omega
theorem Inv.write(hfl:¬good fl)(hp:gL good pr P){rec:Rec β}(fe:lK good P rec)(inv:Inv P ops nt φ0 h0 w0 ds kQ listed D M tm h own φ a w)(hok:∀q∈ops.toList,fc nt q=true){i:Nat}{o:Oper}(ho:ops[i]? = some o)(hD:bit D i=false)(sV:∀e∈cF o,nk listed e)(hst:Stat P ops i o)(hw:f_ P o=true){M':Nat}(hM:∀k,bit M' k=true->nk listed k)(hno:∀k q,ops[k]? = some q->bit D k=true->f_ P q=false->bit M' k=false->∀d,o.dst=some d->q.dst≠some d/\d∉cW ops.toList q){V:T Value->af->β}(hg:good (jS fl pr P rec ops.toList D M' o tm h V)){Q:Exit->Act->World->Prop}{K:Act->World->Prop}{r0:Option Nat}(hK:∀c9 h' φ' a' w',Inv P ops nt φ0 h0 w0 ds kQ (listed.setIfInBounds i true) (fC D i) M' c9 h' own φ' a' w'->good (V c9 h')->K a' w'):wpOpIn (FR r0) 0 P ops Q i K a w:=by
 simp only[wpOpIn,ho];unfold jS at hg;split at hg
 .exact absurd hg hfl
 rename_i g NF;rw[inv.wanted hok ho hst sV NF];split at hg
 ·rename_i AB;rw[gJ]at hg;rw[AB,if_neg (by simp)];refine⟨kY,?_⟩;refine hK _ _ φ _ w (inv.wrote hok ho hD sV hst hw hM hno VR.undef inv.hr (Ext.refl _ _ _) ?_) hg;intro k q hq hk hkM vL x g' hc hg' SV;have uO:=Ic hc;have pW:=dK (hok o (x_ ho));have hl:∀t∈cW ops.toList q,dL (jo tm o.dst undef) t=dL tm t:=by
   intro t ht;rw[gK inv.small pW (lM hok (x_ hq) ht),if_neg];intro he;exact(hno k q hq hk uO hkM t he).2 ht
  obtain⟨g2,e1,e2,e3⟩:=inv.lq k q hq hk vL;rw[hg']at e1;cases e1;have e3:=e3 (by rw[<-nN hg' hl];exact SV);rw[hc]at e3;obtain⟨v,k1,k2⟩:=e3;refine⟨v,?_,λd DA=>?_⟩
  .unfold kH at *
   rw[XI.congr (λy hy=>pV hl y (uM (pU hc) y hy))];exact k1
  .have hlt:d<nt:=by have:=dK (hok q (x_ hq));rw[DA]at this;exact dJ this
   rw[gK inv.small pW hlt,if_neg]
   .exact k2 d DA
   .intro he;exact(hno k q hq hk uO hkM d he).1 DA
 .rename_i AB;rw[AB,if_pos rfl];rw[LV hw]at hg;refine D5 hfl hp fe (inv.ac0 hok ho hst sV) inv.hr hg ?_;intro φ' v v' h' w' g1 g2 g3 g4;rw[gJ]at g1;split at g1
  .rename_i ha;refine hK _ _ φ' _ w' (inv.wrote hok ho hD sV hst hw hM hno g2 g3 g4 ?_) g1;intro k q hq hk hkM vL x g' hc hg' SV;exact(Ed ha (D9 hq) hk hkM hc).elim
  .split at g1
   .rename_i sY;refine hK _ _ φ' _ w' (inv.wrote hok ho hD sV hst hw hM hno g2 g3 g4 ?_) g1;intro k q hq hk hkM vL x g' hc hg' SV;exact Ec _ sY k q (D9 hq) hk hkM x g' hc hg' SV
   .exact absurd g1 hfl
theorem ya{S:Nat->Prop}:∀(l:List Nat)(m:Nat),(∀k,bit m k=true->S k)->(∀e∈l,S e)->∀k,bit (l.foldl fC m) k=true->S k:=by
 intro l
 induction l with
 |nil=>intro m h1 _ k hk;exact h1 k hk
 |cons e l ih=>
  intro m h1 h2 k hk;refine ih (fC m e) ?_ (λx hx=>h2 x (by simp[hx])) k hk;intro x hx;rw[dy,Bool.or_eq_true]at hx;rcases hx with hx|hx
  .exact h1 x hx
  .have:e=x:=by simpa using hx
   subst this;exact h2 e (by simp)
theorem LW{S:Nat->Prop}{os:List Oper}(hc:∀i o,os[i]? = some o->S i->∀e∈cF o,S e):∀(i m:Nat),(∀k,bit m k=true->S k)->∀k,bit (NS os i m) k=true->S k:=by
 intro i
 induction i with
 |zero=>intro m h1 k hk;exact h1 k hk
 |succ i ih=>
  intro m h1 k hk;unfold NS at hk;split at hk
  .rename_i o hb ho;exact ih _ (ya _ _ h1 (hc i o ho (h1 i hb))) k hk
  .exact ih m h1 k hk
theorem Ie{S:Nat->Prop}{os:List Oper}(hc:∀i o,os[i]? = some o->S i->∀e∈cF o,S e){i:Nat}{o:Oper}(ho:os[i]? = some o)(hp:∀e∈cF o,S e):∀k,bit (q9 os i) k=true->S k:=by
 unfold q9;rw[ho];exact LW hc i _ (ya _ _ (λk hk=>by rw[D8]at hk;cases hk) hp)
theorem Bh{i:Nat}(hi:i∈Region.ready .any ops listed):∃o,ops[i]? = some o/\¬nk listed i/\∀e∈cF o,nk listed e:=by
 unfold Region.ready at hi;simp only[List.mem_filter,List.mem_range,Bool.and_eq_true]at hi;obtain⟨h1,h2,h3⟩:=hi;have ho:ops[i]? = some ops[i]:=by simp[h1]
 refine⟨ops[i],ho,?_,?_⟩
 .intro hh;unfold nk at hh;simp only[Array.getD_eq_getD_getElem?]at hh h2;cases hl:listed[i]? with
  |none=>rw[hl]at hh;simp at hh
  |some b=>rw[hl]at hh h2;simp at hh h2;rw[hh]at h2;cases h2
 .intro e he;rw[ho]at h3;simp only[Option.map_some,Option.getD_some,Array.all_eq_true']at h3;unfold cF at he;simp only[List.mem_map,List.mem_filter]at he;obtain⟨x,⟨hx,hb⟩,rfl⟩:=he;have:=h3 x (by simpa using hx);rw[hb]at this;simp only[Bool.not_true,Bool.false_or]at this;exact this
theorem mem_ready{i:Nat}{o:Oper}(ho:ops[i]? = some o)(hsz:listed.size=ops.size)(hn:¬nk listed i)(hp:∀e∈cF o,nk listed e):i∈Region.ready .any ops listed:=by
 have hlt:i<ops.size:=(Array.getElem?_eq_some_iff.mp ho).1;unfold Region.ready;simp only[List.mem_filter,List.mem_range,Bool.and_eq_true];refine⟨hlt,?_,?_⟩
 .have hll:i<listed.size:=by omega
  unfold nk at hn;simp only[Array.getD_eq_getD_getElem?,getElem?_pos listed i hll]at hn ⊢;simpa using hn
 .rw[ho];simp only[Option.map_some,Option.getD_some,Array.all_eq_true'];intro e he;cases hb:Region.binds .any e with
  |false=>rfl
  |true=>
   have:=hp e.on (by unfold cF;simp only[List.mem_map,List.mem_filter];exact⟨e,⟨by simpa using he,hb⟩,rfl⟩);simp only[Bool.not_true,Bool.false_or];exact this
section
variable {nt:Nat}{V:T Value->af->β}{Q:Exit->Act->World->Prop}{r0:Option Nat}
theorem Xm{own:Nat->Option Nat}(inv:Inv P ops nt φ0 h0 w0 ds kQ listed D M tm h own φ a w)(hidx:∀i o,ops[i]? = some o->∀e∈cF o,e<i)(hr:Region.ready .any ops listed=[]):∀i o,ops[i]? = some o->nk listed i:=by
 intro i
 induction i using Nat.strongRecOn with
 |_ i ih=>
  intro o ho;by_cases hi:nk listed i
  .exact hi
  ·have hlt:i<ops.size:=(Array.getElem?_eq_some_iff.mp ho).1;have:=mem_ready ho inv.VD hi λe he=>by
    have hei:=hidx i o ho e he;exact ih e hei ops[e] (by simp)
   rw[hr]at this;cases this
theorem Inv.full{own:Nat->Option Nat}(inv:Inv P ops nt φ0 h0 w0 ds kQ listed D M tm h own φ a w)(hall:∀i o,ops[i]? = some o->nk listed i):TR φ nt tm a:=
 ⟨inv.size,inv.small,λt ht=>inv.rel t ht λi o ho _ hS=>absurd (hall i o ho) hS⟩
theorem pX{i:Nat}{is:List Nat}{D M:Nat}(hp:mU P ops.toList (i::is) D M=true):∃o,ops[i]? = some o/\
  SK P ops.toList (fu ops.toList 0) D (match f_ P o with|true=>Nat.lor M (q9 ops.toList i)|false=>M) i o=true/\
  mU P ops.toList is (fC D i) (match f_ P o with|true=>Nat.lor M (q9 ops.toList i)|false=>M)=true:=by
 unfold mU at hp;split at hp<;>try contradiction
 rename_i o ho;rw[Array.getElem?_toList]at ho;simp only[Bool.and_eq_true]at hp;exact⟨o,ho,hp.1,hp.2⟩
theorem ahR(hfl:¬good fl)(hok:∀q∈ops.toList,fc nt q=true){rec:Rec β}{i:Nat}{o:Oper}(ho:ops[i]? = some o)(JQ:¬nk listed i)(sV:∀e∈cF o,nk listed e):∀(l:List Nat)(D M:Nat)(tm:T Value)(h:af)(own:Nat->Option Nat),Inv P ops nt φ0 h0 w0 ds kQ listed D M tm h own φ a w->mU P ops.toList l D M=true->good (jd fl pr P rec ops.toList l D M tm h V)->
   ∃l' D' c9 h' rR,Inv P ops nt φ0 h0 w0 ds kQ listed D' M c9 h' rR φ a w/\mU P ops.toList l' D' M=true/\good (jd fl pr P rec ops.toList l' D' M c9 h' V)/\
    (bit D' i=true\/(f_ P o=true/\∃js,l'=i::js)):=by
 intro l
 induction l with
 |nil=>
  intro D M tm h own inv hp hg;refine⟨[],D,tm,h,own,inv,hp,hg,.inl ?_⟩;unfold mU at hp;rw[List.all_eq_true]at hp;exact hp _ (D9 ho)
 |cons j js ih=>
  intro D M tm h own inv hp hg;by_cases Xn:bit D i=true
  .exact⟨j::js,D,tm,h,own,inv,hp,hg,.inl Xn⟩
  have Xn:bit D i=false:=by simpa using Xn
  obtain⟨q,hq,mD,oQ⟩:=pX hp;obtain⟨k1,k2,k3,k4,k5⟩:=rQ mD;cases hw:f_ P q with
  |true=>
   have hij:i=j:=by
    by_cases hij:i=j
    .exact hij
    .have:=(k5 hw).1 i o ho hij Xn;have hrd:pL D o=true:=by unfold pL;rw[List.all_eq_true];exact λe he=>inv.sub e (sV e he)
     rw[hrd]at this;cases this
   subst hij;rw[ho]at hq;cases hq;exact⟨i::js,D,tm,h,own,inv,hp,hg,.inr ⟨hw,js,rfl⟩⟩
  |false=>
   rw[hw]at oQ mD;simp only at oQ;unfold jd at hg;rw[Array.getElem?_toList,hq]at hg;simp only[hw]at hg;obtain⟨c9,h',rR,inv',hg'⟩:=inv.advance hfl hok hq k1 k2 k4 hw hg;exact ih _ M c9 h' rR inv' oQ hg'
theorem SX(hfl:¬good fl)(hp:gL good pr P){rec:Rec β}(fe:lK good P rec)(hok:∀q∈ops.toList,fc nt q=true)(hidx:∀i o,ops[i]? = some o->∀e∈cF o,e<i)(hQ:∀c9 h' φ' a' w',good (V c9 h')->TR φ' nt c9 a'->HR P φ' h' w'->Ext φ0 φ' h0 h' w0 w'->a'.defers=ds->(∀t,t<nt->(∀(i:Nat)(o:Oper),ops[i]? = some o->o.dst≠some t)->dL c9 t=dL kQ t)->Q .normal a' w'):∀(fuel:Nat)(listed:Array Bool)(l:List Nat)(D M:Nat)(tm:T Value)(h:af)(own:Nat->Option Nat)(φ:dV)(a:Act) (w:World),listed.toList.count false<=fuel->Inv P ops nt φ0 h0 w0 ds kQ listed D M tm h own φ a w->
   mU P ops.toList l D M=true->good (jd fl pr P rec ops.toList l D M tm h V)->wpAnyIn (FR r0) 0 P .any ops Q fuel listed a w:=by
 have fin:∀(listed:Array Bool)(l:List Nat)(D M:Nat)(tm:T Value)(h:af)(own:Nat->Option Nat)(φ:dV)(a:Act)(w:World),Inv P ops nt φ0 h0 w0 ds kQ listed D M tm h own φ a w->
   mU P ops.toList l D M=true->good (jd fl pr P rec ops.toList l D M tm h V)->Region.ready .any ops listed=[]->Q .normal a w:=by
  intro listed l D M tm h own φ a w inv N_ hg hr;have hall:=Xm inv hidx hr;cases l with
  |nil=>exact hQ tm h φ a w hg (inv.full hall) inv.hr inv.ext inv.dfs inv.keep
  |cons j js=>
   obtain⟨q,hq,mD,_⟩:=pX N_;have:=(rQ mD).1;rw[inv.sub j (hall j q hq)]at this;cases this
 intro fuel
 induction fuel with
 |zero=>
  intro listed l D M tm h own φ a w hc inv N_ hg;have hr:Region.ready .any ops listed=[]:=by
   cases hr:Region.ready .any ops listed with
   |nil=>rfl
   |cons i is=>
    obtain⟨o,ho,JQ,_⟩:=Bh (listed:=listed) (ops:=ops) (i:=i) (by rw[hr];exact List.mem_cons_self);have hlt:i<listed.size:=by rw[inv.VD];exact(Array.getElem?_eq_some_iff.mp ho).1
    have:false∈listed.toList:=by
     unfold nk at JQ;simp only[Array.getD_eq_getD_getElem?,getElem?_pos listed i hlt,Option.getD_some]at JQ;have:listed[i]=false:=by simpa using JQ
     rw[<-this];exact Array.getElem_mem_toList hlt
    have:=List.count_pos_iff.mpr this;omega
  exact⟨hr,fin listed l D M tm h own φ a w inv N_ hg hr⟩
 |succ fuel ih=>
  intro listed l D M tm h own φ a w hc inv N_ hg;refine⟨fin listed l D M tm h own φ a w inv N_ hg,λi hi=>?_⟩;obtain⟨o,ho,JQ,sV⟩:=Bh hi;have hlt:i<listed.size:=by rw[inv.VD];exact(Array.getElem?_eq_some_iff.mp ho).1
  have ac2:(listed.setIfInBounds i true).toList.count false<=fuel:=by
   have hfi:listed.toList[i]'(by simpa using hlt)=false:=by
    unfold nk at JQ;simp only[Array.getD_eq_getD_getElem?,getElem?_pos listed i hlt,Option.getD_some]at JQ;simpa using JQ
   rw[Array.toList_setIfInBounds,List.count_set (by simpa using hlt),hfi];change listed.toList.count false-1+0<=fuel;omega
  obtain⟨l',D',c9,h',rR,inv',ac3,hg',hend⟩:=ahR hfl hok ho JQ sV l D M tm h own inv N_ hg;by_cases Xn:bit D' i=true
  .exact inv'.late hok ho Xn JQ sV λφ' a' w' inv2=>ih _ l' D' M c9 h' rR φ' a' w' ac2 inv2 ac3 hg'
  .rcases hend with hend|⟨hw,js,rfl⟩
   .exact absurd hend Xn
   obtain⟨q,hq,mD,oQ⟩:=pX ac3;rw[ho]at hq;cases hq;rw[hw]at mD oQ;simp only at mD oQ;obtain⟨k1,k2,k3,k4,k5⟩:=rQ mD;unfold jd at hg';rw[Array.getElem?_toList,ho]at hg';simp only[hw]at hg';refine inv'.write hfl hp fe hok ho k1 sV k4 hw ?_ (k5 hw).2 hg' λtm2 h2 φ2 a2 w2 inv2 hg2=>ih _ js _ _ tm2 h2 rR φ2 a2 w2 ac2 inv2 oQ hg2;intro k hk;rw[Xj,Bool.or_eq_true]at hk;rcases hk with hk|hk
   .exact inv'.mS k hk
   .exact Ie (S:=nk listed) (os:=ops.toList) (λj q hq hj=>inv'.clo j q (by rw[<-Array.getElem?_toList];exact hq) hj) (by rw[Array.getElem?_toList];exact ho) sV k hk
end
theorem rS(hfl:¬good fl)(hp:gL good pr P)(hm:P.follows .mixedOrders=true):H_ good fl pr P:=by
 intro rec fe ops id nt hok φ tm h a w V ht hr hg r0 Q hQ;unfold kV at hg;split at hg
 .contradiction
 split at hg
 .rename_i l hl;unfold B3 at hl;split at hl<;>try contradiction
  split at hl<;>try contradiction
  rename_i Xo;cases hl;simp only[Bool.and_eq_true]at Xo;refine wpIn_region_any hm ?_;have SQ:∀i,¬nk (Array.replicate ops.size false) i:=by
   intro i hi;unfold nk at hi;simp only[Array.getD_eq_getD_getElem?,Array.getElem?_replicate]at hi;split at hi<;>simp at hi
  refine SX (φ0:=φ) (h0:=h) (w0:=w) (ds:=a.defers) (kQ:=tm) hfl hp fe hok ?_ hQ ops.size _ l 0 0 tm h (λ_=>none) φ a { w with drawn:=w.drawn+1 } ?_ ?_ Xo.1 hg
  .intro i o ho e he;have:=Xo.2;rw[List.all_eq_true]at this;have:=this _ (D9 ho);simp only[List.all_eq_true]at this;exact dJ (this e he)
  .refine Nat.le_trans List.count_le_length (by simp)
  .have nb:∀k,bit 0 k=true->False:=λk hb=>by rw[D8]at hb;cases hb
   exact⟨by simp,λi hi=>absurd hi (SQ i),λi o _ hi=>absurd hi (SQ i),λi o _ hb=>(nb i hb).elim,λi hb=>(nb i hb).elim,λi o _ hb=>(nb i hb).elim,
    ht.small,ht.size,λt hlt _=>ht.rel t hlt,hr.drew,(Ext.refl φ h w).drew,rfl,λi o _ hb=>(nb i hb).elim,λ_ _ _=>rfl⟩
 .exact absurd hg hfl
end Go.Vai

namespace Go.Vai
open Go
variable {pr:lF Bool}{P:Program}{w:World}
theorem HR.start(w:World):HR P (λ_=>none) ⟨0,.nil,0⟩ w:=
 ⟨λ_ _ _ _ e=>(by cases e),λ_ _ e=>(by cases e),λb o _ e=>(by rw[T.get_nil]at e;cases e),J0,λ_ _ _ _ _ _ _ _ _ _ e=>(by cases e),Nat.le_refl _⟩
def yes(b:Bool):Prop:=b=true
def SY:lF Bool:=⟨λ_=>none,λa b=>match a with|true=>b|false=>false⟩
theorem Cp:gL yes SY P:=⟨λx y hxy=>by cases x<;>simp[SY,yes]at hxy ⊢;exact hxy,λf g hg=>by cases hg⟩
end Go.Vai

namespace Go.Vai
open Go Go.RowKit
variable {P:Program}
theorem VR.nu{φ:dV}{v:Value}(hv:jP v=true):VR φ v v:=by
 cases v<;>first|exact VR.bool _|exact VR.int _ _|exact VR.string _|cases hv
theorem VR.SZ{φ:dV}{v v':Value}(hv:jP v=true)(h:VR φ v v'):v'=v:=by
 cases h<;>first|rfl|cases hv
theorem F2.nu{φ:dV}:∀{l:List Value},l.all jP=true->F2 (VR φ) l l:=by
 intro l
 induction l with
 |nil=>intro _;exact .nil
 |cons v l ih=>
  intro h;simp only[List.all_cons,Bool.and_eq_true]at h;exact .cons (VR.nu h.1) (ih h.2)
end Go.Vai

namespace Go.Vai
open Go
def aj(P:Program)(f:FuncId)(args:List Value)(h:af)(V:KQ):Prop:=
 ∀(φ:dV)(w:World)(args':List Value),F2 (VR φ) args args'->HR P φ h w->uJ (λp:Prop=>p) P φ h w V f args'.toArray
def DB(P:Program):lF Prop:=⟨λf=>some (aj P f),And⟩
def ji:Rec Prop:=λ_ _ _ _=>False
abbrev Xp(i:XI Prop)(tm:T Value)(h:af)(V:KQ):Prop:=
 XI.rec (motive:=λ_=>Prop) (λf=>f h V) (λx f=>f (fq tm x) h V) (λx y f=>f (fq tm x) (fq tm y) h V)
  (λx y z f=>f (fq tm x) (fq tm y) (fq tm z) h V) (λxs f=>f (xs.map (fq tm)) h V) i
abbrev ac4(i:XA Prop)(tm:T Value)(V:bL->(Nat->Value)->Prop):Prop:=
 XA.rec (motive:=λ_=>Prop) (λf=>f V) (λx f=>f (fq tm x) V) (λx y f=>f (fq tm x) (fq tm y) V) (λxs f=>f (xs.map (fq tm)) V) i
def fL(P:Program)(fv:Value)(args:List Value)(h:af)(V:KQ):Prop:=A5 False (DB P) P ji fv args h V
def jr(P:Program)(name:String)(r:Value)(args:List Value)(h:af)(V:KQ):Prop:=NP False (DB P) P ji name r args h V
def Cq(P:Program)(c:Call)(tm:T Value)(h:af)(V:KQ):Prop:=
 match c.callee with
 | .value (.func f)=>aj P f (c.args.toList.map (fq tm)) h V
 | .value x=>fL P (fq tm x) (c.args.toList.map (fq tm)) h V
 | .invoke r name=>jr P name (fq tm r) (c.args.toList.map (fq tm)) h V
 | .builtin _=>False
def lN(P:Program)(op:Op)(tm:T Value)(h:af)(V:KQ):Prop:=
 match oO False P op with
 |some i=>Xp i tm h V
 |none=>match q8 False P op with
  |some i=>ac4 i tm λo mk=>aD False o h λb h=>V (mk b) h
  |none=>match A3 False P op with
   |some i=>Xp i tm h V
   |none=>match op with
    | .call c=>Cq P c tm h V
    | .next it false=>q7 False And (fq tm it) h V
    |_=>False
def av(v:Value)(w:Bool):Bool:=match v,w with | .bool true,true=>true | .bool false,false=>true|_,_=>false
def an(b:Bool)(f:(Value->af->Prop)->Prop)(h:af)(V:KQ):Prop:=match b with|true=>f V|false=>V undef h
noncomputable abbrev Ow(P:Program)(all os:List Oper):T Value->af->(T Value->af->Prop)->Prop:=
 List.rec (motive:=λ_=>T Value->af->(T Value->af->Prop)->Prop) (λtm h V=>V tm h)
  (λo _ ih tm h V=>Option.rec (motive:=λ_=>Prop) False
   (λg=>Option.rec (motive:=λ_=>Prop) (lN P o.op tm h λv h=>ih (jo tm o.dst v) h V)
    (λsw=>an (av (dL tm sw.1) sw.2) (λκ'=>lN P o.op tm h κ') h λv h=>ih (jo tm o.dst v) h V) g) (guardOf all o)) os
def aG(o:Option Value)(h:af)(V:KQ):Prop:=match o with|some v=>V v h|none=>False
def Ad(o:Option (bL × (Nat->Value)))(h:af)(V:KQ):Prop:=match o with|some (b,mk)=>aD False b h λn h=>V (mk n) h|none=>False
def bP(b:Bool)(p:Prop):Prop:=match b with|true=>p|false=>False
def bT(o:Option Value)(v:Value):Bool:=match o with|some u=>ki 8 u v|none=>false
def reN(o:Option Value):Bool:=match o with|some _=>true|none=>false
def reG(b r:Bool):Bool:=match b with|true=>r|false=>true
def S0(x:Vp)(tm:T Value)(h:af):Option Value:=
 XI.rec (motive:=λ_=>Option Value) (λf=>f h λv _=>some v) (λx f=>f (fq tm x) h λv _=>some v) (λx y f=>f (fq tm x) (fq tm y) h λv _=>some v)
  (λx y z f=>f (fq tm x) (fq tm y) (fq tm z) h λv _=>some v) (λxs f=>f (xs.map (fq tm)) h λv _=>some v) x
def mkW(x:OXA)(tm:T Value):Option (bL × (Nat->Value)):=
 XA.rec (motive:=λ_=>Option (bL × (Nat->Value))) (λf=>f λo mk=>some (o,mk)) (λx f=>f (fq tm x) λo mk=>some (o,mk)) (λx y f=>f (fq tm x) (fq tm y) λo mk=>some (o,mk)) (λxs f=>f (xs.map (fq tm)) λo mk=>some (o,mk)) x
def Ee(P:Program)(os:List Oper)(D M:Nat)(tm:T Value)(h:af):List It->Bool
 | []=>true
 |(k,q)::uC=>match bit D k && !bit M k,ij P q.op with
  |true,.rd x=>(match guardOf os q with
   |some none=>(match q.dst with|some d=>bT (S0 x tm h) (dL tm d)|none=>reN (S0 x tm h))
   |some (some (s,w))=>reG (av (dL tm s) w) (match q.dst with|some d=>bT (S0 x tm h) (dL tm d)|none=>reN (S0 x tm h))
   |none=>false) && Ee P os D M tm h uC
  |_,_=>Ee P os D M tm h uC
def JS(P:Program)(os:List Oper)(D M:Nat)(o:Oper)(tm:T Value)(h:af)(V:KQ):Prop:=
 match ij P o.op with
 | .rd x=>aG (S0 x tm h) h V
 | .al x=>Ad (mkW x tm) h V
 | .wr=>match A8 P D M (fu os 0)with
  |false=>lN P o.op tm h V
  |true=>lN P o.op tm h λv h=>bP (Ee P os D M (jo tm o.dst v) h (fu os 0)) (V v h)
def Ef(P:Program)(os:List Oper):List Nat->Nat->Nat->T Value->af->(T Value->af->Prop)->Prop
 | [],_,_,tm,h,V=>V tm h
 |i::is,D,M,tm,h,V=>match os[i]? with
  |none=>False
  |some o=>match guardOf os o with
   |none=>False
   |some none=>JS P os D (match f_ P o with|true=>Nat.lor M (q9 os i)|false=>M) o tm h λv h=>Ef P os is (fC D i) (match f_ P o with|true=>Nat.lor M (q9 os i)|false=>M) (jo tm o.dst v) h V
   |some (some (s,w))=>an (av (dL tm s) w) (λκ'=>JS P os D (match f_ P o with|true=>Nat.lor M (q9 os i)|false=>M) o tm h κ') h λv h=>Ef P os is (fC D i) (match f_ P o with|true=>Nat.lor M (q9 os i)|false=>M) (jo tm o.dst v) h V
def S1(P:Program)(os:List Oper)(draw:Bool)(tm:T Value)(h:af)(V:T Value->af->Prop):Prop:=
 match draw with
 |false=>Ow P os os tm h V
 |true=>match B3 P os with
  |some l=>Ef P os l 0 0 tm h V
  |none=>False
def LX(n:Nat)(l:List Nat):List Nat:=match l.any (Nat.beq n)with|true=>l|false=>n::l
def rT(l:List Oper):List Nat:=l.foldr (λo r=>match o.dst with|some d=>LX d r|none=>r) []
def JT(l m:List Nat):List Nat:=l.foldr LX m
def sD:Code->List Nat
 | .region _ os _=>rT os.toList
 | .seq a b | .cond _ a b=>JT (sD a) (sD b)
 | .block _ c | .loop c | .scope c=>sD c
 |_=>[]
def JU(id:Nat):Code->Nat
 | .exit i=>match Nat.beq i id with|true=>1|false=>0
 | .seq a b | .cond _ a b=>JU id a+JU id b
 | .block _ c | .loop c | .scope c=>JU id c
 |_=>0
def ways:Code->Nat
 | .seq a b=>ways a*ways b
 | .cond _ a b=>ways a+ways b
 | .block id c=>ways c+JU id c
 | .loop _=>0
 | .scope c=>ways c
 | .exit _ | .ret=>0
 |_=>1
def ah(l:List Value)(i:Nat):Value:=l.getD i undef
def Ox:Nat->List Nat->List Value->T Value->T Value
 |_,[],_,tm=>tm
 |i,s::ss,l,tm=>Ox (i+1) ss l (tm.bq s (ah l i))
def LY(ss:List Nat)(l:List Value)(tm:T Value):T Value:=Ox 0 ss l tm
abbrev KT:=Ex->T Value->af->Prop
abbrev toN(N:List Value->af->Prop)(ss:List Nat)(V:KT):KT:=λe tm h=>Ex.rec (motive:=λ_=>Prop) (N (ss.map (dL tm)) h) (λi=>V (.exit i) tm h) (V .ret tm h) e
def dz(A:(List Value->af->Prop)->Prop)(B:List Value->af->Prop):Prop:=
 ∃J:List Value->af->Prop,A J/\∀l h,J l h->B l h
def dD(l0:List Value)(h0:af)(body:List Value->af->(List Value->af->Prop)->Prop):Prop:=
 ∃I:Nat->List Value->af->Prop,(∃n,I n l0 h0)/\∀n l h,I n l h->body l h λl' h'=>∃m,m<n/\I m l' h'
def aM(v:Value)(A B:Prop):Prop:=match v with | .bool true=>A | .bool false=>B|_=>False
abbrev ahV(B:T Value->af->KT->Prop)(V:KT):KT:=λe tm h=>Ex.rec (motive:=λ_=>Prop) (B tm h V) (λi=>V (.exit i) tm h) (V .ret tm h) e
abbrev Xq(id:Nat)(V:KT):KT:=λe tm h=>Ex.rec (motive:=λ_=>Prop) (V .normal tm h) (λi=>Bool.rec (motive:=λ_=>Prop) (V (.exit i) tm h) (V .normal tm h) (Nat.beq i id)) (V .ret tm h) e
def WP(P:Program):Code->T Value->af->KT->Prop
 | .skip,tm,h,V=>V .normal tm h
 | .label _,tm,h,V=>V .normal tm h
 | .region _ os draw,tm,h,V=>S1 P os.toList draw tm h λtm h=>V .normal tm h
 | .seq a b,tm,h,V=>match Nat.ble (ways a) 1 with
  |true=>WP P a tm h (ahV (WP P b) V)
  |false=>dz (λN=>WP P a tm h (toN N (sD a) V)) λl h=>WP P b (LY (sD a) l tm) h V
 | .cond c a b,tm,h,V=>aM (fq tm c) (WP P a tm h V) (WP P b tm h V)
 | .block id c,tm,h,V=>WP P c tm h (Xq id V)
 | .scope c,tm,h,V=>WP P c tm h V
 | .loop c,tm,h,V=>dD ((sD c).map (dL tm)) h λl h N=>WP P c (LY (sD c) l tm) h (toN N (sD c) V)
 | .exit id,tm,h,V=>V (.exit id) tm h
 | .ret,tm,h,V=>V .ret tm h
 |_,_,_,_=>False
abbrev LZ(h:af)(tm:T Value):List Am->(List Value->Prop)->Prop:=
 List.rec (motive:=λ_=>(List Value->Prop)->Prop) (λV=>V [])
  (λr _ ih V=>Am.rec (motive:=λ_=>Prop) (λt=>ih λvs=>V (dL tm t::vs)) (λa=>az False (dL tm a) h λv _=>ih λvs=>V (v::vs))
   (λa s=>aH False s (dL tm a) h λv _=>ih λvs=>V (v::vs)) False r)
abbrev S2(V:KQ)(h:af)(vs:List Value):Prop:=
 List.rec (motive:=λ_=>Prop) (V (.tuple #[]) h) (λv vs' _=>List.rec (motive:=λ_=>Prop) (V v h) (λ_ _ _=>V (.tuple ⟨vs⟩) h) vs') vs
abbrev ahW(rs:List Am)(V:KQ):KT:=λe tm h=>Ex.rec (motive:=λ_=>Prop) (LZ h tm rs λvs=>S2 V h vs) (λ_=>False) (LZ h tm rs λvs=>S2 V h vs) e
def aT(P:Program)(f:FuncId)(args:List Value)(h:af)(V:KQ):Prop:=
 match xH P f with
 | .none=>False
 | .mk c rs nt=>match Nat.ble args.length nt with
  |true=>WP P c (lay args .nil 0) h (ahW rs V)
  |false=>False
variable {P:Program}
theorem JV(i:XI Prop)(tm:T Value)(h:af)(V:KQ):i.run tm h V=Xp i tm h V:=by
 cases i with
 |k0 f=>rfl
 |k1 x f=>exact XI.cz ..
 |k2 x y f=>exact XI.dx ..
 |k3 x y z f=>exact XI.pM ..
 |kn xs f=>exact XI.iu ..
theorem S4(i:XA Prop)(tm:T Value)(V:bL->(Nat->Value)->Prop):i.run tm V=ac4 i tm V:=by
 cases i with
 |k0 f=>rfl
 |k1 x f=>exact XA.cz ..
 |k2 x y f=>exact XA.dx ..
 |kn xs f=>exact XA.iu ..
theorem Oy(x:Vp)(tm:T Value)(h:af):kH x tm h=S0 x tm h:=by
 unfold kH;cases x with
 |k0 f=>rfl
 |k1 x f=>exact XI.cz ..
 |k2 x y f=>exact XI.dx ..
 |k3 x y z f=>exact XI.pM ..
 |kn xs f=>exact XI.iu ..
theorem Xr(x:OXA)(tm:T Value):xL x tm=mkW x tm:=by
 unfold xL;cases x with
 |k0 f=>rfl
 |k1 x f=>exact XA.cz ..
 |k2 x y f=>exact XA.dx ..
 |kn xs f=>exact XA.iu ..
theorem Ig(c:Call)(tm:T Value)(h:af)(V:KQ):nG False (DB P) P c ji tm h V=Cq P c tm h V:=by
 unfold nG Cq;cases c.callee with
 |value x=>cases x<;>(simp only[rL,gI];rfl)
 |invoke r name=>simp only[rL,gI];rfl
 |builtin b=>rfl
theorem Cr(op:Op)(tm:T Value)(h:af)(V:KQ):pJ False (DB P) P op ji tm h V=lN P op tm h V:=by
 unfold pJ lN;cases hR:oO False P op with
 |some i=>exact JV ..
 |none=>
  cases hA:q8 False P op with
  |some i=>exact S4 ..
  |none=>
   cases hW:A3 False P op with
   |some i=>exact JV ..
   |none=>
    cases op<;>try rfl
    case call c=>exact Ig ..
    case next it s=>cases s<;>first|rfl|(simp only[gI];rfl)
theorem rU(tm:T Value)(s:Nat)(w:Bool):iT tm (some (s,w))=av (dL tm s) w:=rfl
theorem Xs(f:(Value->af->Prop)->Prop)(tm:T Value)(h:af)(s:Nat)(w:Bool)(d:Option Nat)(k:T Value->af->Prop):an (av (dL tm s) w) f h (λv h=>k (jo tm d v) h)=Bool.rec (motive:=λ_=>Prop) (oW tm d undef h k) (f λv h=>oW tm d v h k) (iT tm (some (s,w))):=by
 rw[rU];cases av (dL tm s) w with
 |true=>show f _=f _;simp only[gJ]
 |false=>show k _ h=oW tm d undef h k;rw[gJ]
theorem S5(all:List Oper):∀(os:List Oper)(tm:T Value)(h:af)(V:T Value->af->Prop),Ow P all os tm h V=oz False (DB P) P ji all os tm h V:=by
 intro os
 induction os with
 |nil=>intro tm h V;rfl
 |cons o os ih=>
  intro tm h V;have ih':(λtm h=>Ow P all os tm h V)=λtm h=>oz False (DB P) P ji all os tm h V:=by funext tm h;exact ih tm h V
  show Option.rec (motive:=λ_=>Prop) False (λg=>Option.rec (motive:=λ_=>Prop) (lN P o.op tm h λv h=>(λtm h=>Ow P all os tm h V) (jo tm o.dst v) h)
    (λsw=>an (av (dL tm sw.1) sw.2) (λκ'=>lN P o.op tm h κ') h λv h=>(λtm h=>Ow P all os tm h V) (jo tm o.dst v) h) g) (guardOf all o)=XO.rec (motive:=λ_=>Prop)
   (λg d f=>Bool.rec (motive:=λ_=>Prop) (oW tm d undef h λtm h=>oz False (DB P) P ji all os tm h V)
    (f ji tm h λv h=>oW tm d v h λtm h=>oz False (DB P) P ji all os tm h V) (iT tm g)) (A6 False (DB P) P all o)
  rw[ih'];unfold A6;cases guardOf all o with
  |none=>rfl
  |some g=>
   cases g with
   |none=>
    show lN P o.op tm h _=pJ False (DB P) P o.op ji tm h λv h=>oW tm o.dst v h _
    simp only[gJ];rw[Cr]
   |some sw=>
    obtain⟨s,w⟩:=sw
    show an (av (dL tm s) w) (λκ'=>lN P o.op tm h κ') h _=Bool.rec (motive:=λ_=>Prop) _ (pJ False (DB P) P o.op ji tm h _) _
    refine(Xs (λκ'=>lN P o.op tm h κ') tm h s w o.dst λtm h=>oz False (DB P) P ji all os tm h V).trans ?_;simp only[Cr]
theorem Oz(os:List Oper)(D M:Nat)(tm:T Value)(h:af):∀uC:List It,Ee P os D M tm h uC=vC P os D M tm h uC:=by
 intro uC
 induction uC with
 |nil=>rfl
 |cons it uC ih=>
  obtain⟨k,q⟩:=it;unfold Ee vC;cases bit D k && !bit M k with
  |false=>exact ih
  |true=>
   cases ij P q.op with
   |rd x=>
    simp only[ih,Oy]
    congr 1
    cases guardOf os q with
    |none=>rfl
    |some g=>
     cases g with
     |none=>
      cases S0 x tm h<;>cases q.dst<;>rfl
     |some sw=>
      obtain⟨s,w⟩:=sw;simp only[rU];cases av (dL tm s) w
      .rfl
      .cases S0 x tm h<;>cases q.dst<;>rfl
   |al x=>exact ih
   |wr=>exact ih
theorem Ih(os:List Oper)(D M:Nat)(o:Oper)(tm:T Value)(h:af)(k:T Value->af->Prop):JS P os D M o tm h (λv h=>k (jo tm o.dst v) h)=(match ij P o.op with
   | .rd x=>match kH x tm h with
    |some v=>oW tm o.dst v h k
    |none=>False
   | .al x=>match xL x tm with
    |some (b,mk)=>aD False b h λn h=>oW tm o.dst (mk n) h k
    |none=>False
   | .wr=>pJ False (DB P) P o.op ji tm h λv h=>oW tm o.dst v h λtm h=>
     match A8 P D M (fu os 0)with
     |false=>k tm h
     |true=>match vC P os D M tm h (fu os 0)with
      |true=>k tm h
      |false=>False):=by
 unfold JS;cases ij P o.op with
 |rd x=>
  simp only[Oy,gJ];cases S0 x tm h<;>rfl
 |al x=>
  simp only[Xr,gJ];cases mkW x tm<;>rfl
 |wr=>
  simp only[gJ,Cr];cases A8 P D M (fu os 0)with
  |false=>rfl
  |true=>simp only[Oz];rfl
theorem OA(os:List Oper):∀(l:List Nat)(D M:Nat)(tm:T Value)(h:af)(V:T Value->af->Prop),Ef P os l D M tm h V=jd False (DB P) P ji os l D M tm h V:=by
 intro l
 induction l with
 |nil=>intro D M tm h V;rfl
 |cons i is ih=>
  intro D M tm h V;unfold Ef jd;cases os[i]? with
  |none=>rfl
  |some o=>
   simp only[ih];cases hg:guardOf os o with
   |none=>simp only[jS,hg]
   |some g=>
    have hk:=λM'=>Ih (P:=P) os D M' o tm h λtm h=>jd False (DB P) P ji os is (fC D i) M' tm h V;cases g with
    |none=>
     refine(hk _).trans ?_;simp only[jS,hg];rfl
    |some sw=>
     obtain⟨s,w⟩:=sw;simp only[jS,hg,rU];cases av (dL tm s) w with
     |true=>exact hk _
     |false=>simp only[gJ];rfl
theorem S6(os:List Oper)(draw:Bool)(tm:T Value)(h:af)(V:T Value->af->Prop):S1 P os draw tm h V=kV False (DB P) P ji os draw tm h V:=by
 cases draw with
 |false=>exact S5 os os tm h V
 |true=>
  unfold S1 kV;cases B3 P os with
  |none=>rfl
  |some l=>exact OA os l 0 0 tm h V
end Go.Vai

namespace Go.Vai
open Go
variable {P:Program}{φ:dV}{h:af}{w:World}
abbrev ok(p:Prop):Prop:=p
theorem sZ:¬ok False:=id
theorem OB:gL ok (DB P) P:=
 ⟨λ_ _ h=>h,λf g hg args args' h φ w V ha hr hgd=>by cases hg;exact hgd φ w args' ha hr⟩
theorem Eg:lK ok P ji:=by
 intro c r tm h V φ w nt a _ _ _ _ hg;exact False.elim hg
def Ii(ss:List Nat)(nt:Nat)(tm c9:T Value):Prop:=∀t,t<nt->t∉ss->dL c9 t=dL tm t
def ry(P:Program)(nt:Nat)(φ:dV)(h:af)(w:World)(ds:List Deferred)(V:KT)(ss:List Nat)(tm:T Value)(e:Exit)(a':Act)(w':World):Prop:=
 ∃x c9 h' φ',e=Ol x/\V x c9 h'/\TR φ' nt c9 a'/\HR P φ' h' w'/\Ext φ φ' h h' w w'/\a'.defers=ds/\Ii ss nt tm c9
theorem ry.after{nt:Nat}{φ1:dV}{h1:af}{w1:World}{ds ds1:List Deferred}{V:KT}{ss ss1 ss2:List Nat}{tm tm1 ac5:T Value}{e:Exit}{a2:Act}{w2:World}(hx:Ext φ φ1 h h1 w w1)(hd:ds1=ds)(hk:Ii ss1 nt tm tm1)(hk':∀t,t<nt->dL ac5 t=dL tm1 t)(hs:∀t,t∉ss->t∉ss1/\t∉ss2)(hp:ry P nt φ1 h1 w1 ds1 V ss2 ac5 e a2 w2):ry P nt φ h w ds V ss tm e a2 w2:=by
 obtain⟨x,tm2,h2,φ2,rfl,k1,k2,k3,k4,k5,k6⟩:=hp;exact⟨x,tm2,h2,φ2,rfl,k1,k2,k3,hx.trans k4,k5.trans hd,λt ht hn=>(k6 t ht (hs t hn).2).trans ((hk' t ht).trans (hk t ht (hs t hn).1))⟩
theorem Eh{n t:Nat}{l:List Nat}:t∈LX n l<->t=n\/t∈l:=by
 unfold LX;split
 .rename_i h;obtain⟨x,hx,he⟩:=List.any_eq_true.mp h;have:=cw he;subst this;constructor
  .exact .inr
  .rintro(rfl|h')<;>assumption
 .simp
theorem qC{t:Nat}{l m:List Nat}:t∈JT l m<->t∈l\/t∈m:=by
 induction l with
 |nil=>simp[JT]
 |cons a l ih=>
  show t∈LX a (JT l m)<->_
  rw[Eh,ih];simp[or_assoc]
theorem yb{t:Nat}:∀{l:List Oper},t∈rT l<->∃o∈l,o.dst=some t:=by
 intro l
 induction l with
 |nil=>simp[rT]
 |cons o l ih=>
  have:rT (o::l)=match o.dst with|some d=>LX d (rT l)|none=>rT l:=rfl
  rw[this];cases hd:o.dst with
  | none=>simp only[ih];constructor
          .rintro⟨q,hq,e⟩;exact⟨q,.tail _ hq,e⟩
          .rintro⟨q,hq,e⟩;cases hq with
           |head=>rw[hd]at e;cases e
           |tail _ hq=>exact⟨q,hq,e⟩
  |some d=>
   simp only[Eh,ih];constructor
   .rintro(rfl|⟨q,hq,e⟩)
    .exact⟨o,.head _,hd⟩
    .exact⟨q,.tail _ hq,e⟩
   .rintro⟨q,hq,e⟩;cases hq with
    |head=>rw[hd]at e;cases e;exact .inl rfl
    |tail _ hq=>exact .inr ⟨q,hq,e⟩
theorem OC{nt:Nat}:∀(ss:List Nat)(pre:List Value)(f:Nat->Value)(tm:T Value)(t:Nat),(∀s∈ss,s<nt)->t<nt->dL (Ox pre.length ss (pre++ss.map f) tm) t=if t∈ss then f t else dL tm t:=by
 intro ss
 induction ss with
 |nil=>intro pre f tm t _ _;simp[Ox]
 |cons s ss ih=>
  intro pre f tm t hs ht;simp only[List.map_cons,Ox];have hsl:ah (pre++f s::ss.map f) pre.length=f s:=by simp[ah]
  rw[hsl];have hih:=ih (pre++[f s]) f (tm.bq s (f s)) t (λs hs'=>hs s (.tail _ hs')) ht;simp only[List.length_append,List.length_cons,List.length_nil,List.append_assoc,List.cons_append,List.nil_append,Nat.zero_add]at hih;rw[hih];by_cases h1:t∈ss
  .rw[if_pos h1,if_pos (.tail _ h1)]
  ·rw[if_neg h1];have h2:dL (tm.bq s (f s)) t=if s=t then f s else dL tm t:=by
    simp only[dL];rw[T.mB _ _ (Nat.lt_succ_self _) (Nat.lt_succ_self _)];by_cases hst:s=t
    .rw[if_pos hst,if_pos hst]
    .rw[if_neg hst,if_neg hst]
   rw[h2];by_cases h3:s=t
   .subst h3;rw[if_pos rfl,if_pos (.head _)]
   .rw[if_neg h3,if_neg (by simp[h1,Ne.symm h3])]
theorem OD{nt:Nat}(ss:List Nat)(f:Nat->Value)(tm:T Value)(t:Nat)(hs:∀s∈ss,s<nt)(ht:t<nt):dL (LY ss (ss.map f) tm) t=if t∈ss then f t else dL tm t:=
 OC ss [] f tm t hs ht
theorem uP{nt:Nat}{ss:List Nat}{tm c9:T Value}(hs:∀s∈ss,s<nt)(hk:Ii ss nt tm c9):∀t,t<nt->dL (LY ss (ss.map (dL c9)) tm) t=dL c9 t:=by
 intro t ht;rw[OD ss _ _ t hs ht];split
 .rfl
 .rename_i h;exact(hk t ht h).symm
theorem TR.VF{nt:Nat}{ss:List Nat}{tm c9:T Value}{a:Act}(hs:∀s∈ss,s<nt)(hk:Ii ss nt tm c9)(ht:TR φ nt c9 a):TR φ nt (LY ss (ss.map (dL c9)) tm) a:=
 ⟨ht.size,ht.small,λt hlt=>by rw[uP hs hk t hlt];exact ht.rel t hlt⟩
theorem OE{nt:Nat}:∀{c:Code},codeOk nt c=true->∀s∈sD c,s<nt:=by
 intro c
 induction c with
 |region id os d=>
  intro hc s hs;simp only[codeOk,List.all_eq_true]at hc;obtain⟨o,ho,he⟩:=yb.mp hs;have:=dK (hc o ho);rw[he]at this;exact dJ this
 |seq a b iha ihb=>
  intro hc s hs;simp only[codeOk,Bool.and_eq_true]at hc;rcases qC.mp hs with h|h
  .exact iha hc.1 s h
  .exact ihb hc.2 s h
 |cond x a b iha ihb=>
  intro hc s hs;simp only[codeOk,Bool.and_eq_true]at hc;rcases qC.mp hs with h|h
  .exact iha hc.1.2 s h
  .exact ihb hc.2 s h
 |block id c ih=>intro hc s hs;exact ih hc s hs
 |loop c ih=>intro hc s hs;exact ih hc s hs
 |scope c ih=>intro hc s hs;exact ih hc s hs
 |_=>intro _ s hs;simp[sD]at hs
theorem Ij{os:Array Oper}{t:Nat}(h:t∉rT os.toList):∀(i:Nat)(o:Oper),os[i]? = some o->o.dst≠some t:=by
 intro i o ho hd;exact h (yb.mpr ⟨o,List.mem_of_getElem? (by rw[Array.getElem?_toList];exact ho),hd⟩)
theorem Ik{c:Code}{r:Option Nat}{nt:Nat}{V:KT}{kQ:T Value}(hn:r=none\/pI c=true)(hc:codeOk nt c=true)(ih:∀(tm:T Value)(h:af)(V:KT)(φ:dV)(w:World)(a:Act),TR φ nt tm a->HR P φ h w->WP P c tm h V->c.wpIn (FR r) 0 P (ry P nt φ h w a.defers V (sD c) tm) a w)(I:Nat->List Value->af->Prop)(hI:∀n l h,I n l h->WP P c (LY (sD c) l kQ) h (toN (λl' h'=>∃m,m<n/\I m l' h') (sD c) V)):∀(n:Nat)(tm:T Value)(h:af)(φ:dV)(w:World)(a:Act),Ii (sD c) nt kQ tm->TR φ nt tm a->HR P φ h w->I n ((sD c).map (dL tm)) h->ko r P c (ry P nt φ h w a.defers V (sD c) tm) a w:=by
 intro n
 induction n using Nat.strongRecOn with
 |ind n ihn=>
  intro tm h φ w a hk ht hr hi;have hs:=OE hc;refine ko.round (wpIn_mono (ih _ h _ φ w a (ht.VF hs hk) hr (hI n _ h hi)) ?_);rintro e a' w' ⟨x,c9,h',φ',rfl,g1,g2,g3,g4,g5,g6⟩;have hkeep:Ii (sD c) nt tm c9:=λt htn hnt=>(g6 t htn hnt).trans (uP hs hk t htn);cases x with
  |normal=>
   obtain⟨m,hm,hi'⟩:=g1;have hk2:Ii (sD c) nt kQ c9:=λt htn hnt=>(hkeep t htn hnt).trans (hk t htn hnt);exact(ihn m hm c9 h' φ' w' a' hk2 g2 g3 hi').mono λe a2 w2 hp=>ry.after g4 g5 hkeep (λ_ _=>rfl) (λt ht=>⟨ht,ht⟩) hp
  |exit i=>exact⟨.exit i,c9,h',φ',rfl,g1,g2,g3,g4,g5,hkeep⟩
  |ret=>exact⟨.ret,c9,h',φ',rfl,g1,g2,g3,g4,g5,hkeep⟩
theorem OF(hm:P.follows .mixedOrders=true):∀(c:Code)(r:Option Nat)(nt:Nat),(r=none\/pI c=true)->codeOk nt c=true->∀(tm:T Value)(h:af)(V:KT)(φ:dV)(w:World)(a:Act),
  TR φ nt tm a->HR P φ h w->WP P c tm h V->c.wpIn (FR r) 0 P (ry P nt φ h w a.defers V (sD c) tm) a w:=by
 intro c
 induction c with
 |skip=>intro r nt hn hc tm h V φ w a ht hr hg;exact wpIn_skip ⟨.normal,tm,h,φ,rfl,hg,ht,hr,Ext.refl _ _ _,rfl,λ_ _ _=>rfl⟩
 |label l=>intro r nt hn hc tm h V φ w a ht hr hg;exact wpIn_label ⟨.normal,tm,h,φ,rfl,hg,ht,hr,Ext.refl _ _ _,rfl,λ_ _ _=>rfl⟩
 |ret=>intro r nt hn hc tm h V φ w a ht hr hg;exact wpIn_ret ⟨.ret,tm,h,φ,rfl,hg,ht,hr,Ext.refl _ _ _,rfl,λ_ _ _=>rfl⟩
 |exit id=>intro r nt hn hc tm h V φ w a ht hr hg;exact wpIn_exit ⟨.exit id,tm,h,φ,rfl,hg,ht,hr,Ext.refl _ _ _,rfl,λ_ _ _=>rfl⟩
 |region id os draw=>
  intro r nt hn hc tm h V φ w a ht hr hg;have hok:∀q∈os.toList,fc nt q=true:=by
   simp only[codeOk,List.all_eq_true]at hc;exact hc
  have hg':ok (kV False (DB P) P ji os.toList draw tm h λtm h=>V .normal tm h):=by
   have:S1 P os.toList draw tm h (λtm h=>V .normal tm h):=hg
   rwa [S6]at this
  have hQ:∀c9 h' φ' a' w',ok ((λtm h=>V .normal tm h) c9 h')->TR φ' nt c9 a'->HR P φ' h' w'->Ext φ φ' h h' w w'->a'.defers=a.defers->
    (∀t,t<nt->(∀(i:Nat)(o:Oper),os[i]? = some o->o.dst≠some t)->dL c9 t=dL tm t)->ry P nt φ h w a.defers V (sD (.region id os draw)) tm .normal a' w':=
   λc9 h' φ' a' w' g1 g2 g3 g4 g5 g6=>⟨.normal,c9,h',φ',rfl,g1,g2,g3,g4,g5,λt ht hnt=>g6 t ht (Ij hnt)⟩
  cases draw with
  |false=>
   refine wpIn_region ?_;rw[List.range_eq_range'];have:=sU (r0:=r) (kQ:=tm) sZ OB Eg hok hQ os.toList 0 φ tm h a w (λk=>by simp) ht hr (Ext.refl _ _ _) rfl (λ_ _ _=>rfl) hg';simpa using this
  |true=>exact rS (good:=ok) sZ OB hm ji Eg os id nt hok φ tm h a w _ ht hr hg' r _ hQ
 |seq x y ihx ihy=>
  intro r nt hn hc tm h V φ w a ht hr hg;simp only[codeOk,Bool.and_eq_true]at hc;obtain⟨wC,hn2⟩:=wV (x:=x) (y:=y) hn rfl;have hmem:∀t,t∉sD (.seq x y)->t∉sD x/\t∉sD y:=λt ht=>by
   have:¬(t∈sD x\/t∈sD y):=λhh=>ht (qC.mpr hh);exact not_or.mp this
  unfold WP at hg;split at hg
  .refine wpIn_seq (wpIn_mono (ihx r nt wC hc.1 tm h _ φ w a ht hr hg) ?_);rintro e a' w' ⟨e0,c9,h',φ',rfl,g1,g2,g3,g4,g5,g6⟩;cases e0 with
   |normal=>exact wpIn_mono (ihy r nt hn2 hc.2 c9 h' V φ' w' a' g2 g3 g1) λe a2 w2 hp=>ry.after g4 g5 g6 (λ_ _=>rfl) hmem hp
   |exit i=>exact⟨.exit i,c9,h',φ',rfl,g1,g2,g3,g4,g5,λt ht hnt=>g6 t ht (hmem t hnt).1⟩
   |ret=>exact⟨.ret,c9,h',φ',rfl,g1,g2,g3,g4,g5,λt ht hnt=>g6 t ht (hmem t hnt).1⟩
  .obtain⟨J,hA,hB⟩:=hg;refine wpIn_seq (wpIn_mono (ihx r nt wC hc.1 tm h _ φ w a ht hr hA) ?_);rintro e a' w' ⟨e0,c9,h',φ',rfl,g1,g2,g3,g4,g5,g6⟩;have hs:=OE hc.1;cases e0 with
   |normal=>exact wpIn_mono (ihy r nt hn2 hc.2 _ h' V φ' w' a' (g2.VF hs g6) g3 (hB _ _ g1)) λe a2 w2 hp=>ry.after g4 g5 g6 (uP hs g6) hmem hp
   |exit i=>exact⟨.exit i,c9,h',φ',rfl,g1,g2,g3,g4,g5,λt ht hnt=>g6 t ht (hmem t hnt).1⟩
   |ret=>exact⟨.ret,c9,h',φ',rfl,g1,g2,g3,g4,g5,λt ht hnt=>g6 t ht (hmem t hnt).1⟩
 |cond x c1 c2 ih1 ih2=>
  intro r nt hn hc tm h V φ w a ht hr hg;simp only[codeOk,Bool.and_eq_true]at hc;obtain⟨wC,hn2⟩:=wV (x:=c1) (y:=c2) hn rfl;have hmem:∀t,t∉sD (.cond x c1 c2)->t∉sD c1/\t∉sD c2:=λt ht=>by
   have:¬(t∈sD c1\/t∈sD c2):=λhh=>ht (qC.mpr hh);exact not_or.mp this
  have hg':aM (fq tm x) (WP P c1 tm h V) (WP P c2 tm h V):=hg;have hx:=ht.eval hc.1.1;unfold aM at hg';split at hg'<;>try exact hg'.elim
  .rename_i hv;rw[hv]at hx;refine wpIn_cond_true (by generalize a.eval x=z at hx;cases hx;rfl) (wpIn_mono (ih1 r nt wC hc.1.2 tm h V φ w a ht hr hg') ?_);rintro e a' w' ⟨e0,c9,h',φ',rfl,g1,g2,g3,g4,g5,g6⟩;exact⟨e0,c9,h',φ',rfl,g1,g2,g3,g4,g5,λt ht hnt=>g6 t ht (hmem t hnt).1⟩
  .rename_i hv;rw[hv]at hx;refine wpIn_cond_false (by generalize a.eval x=z at hx;cases hx;rfl) (wpIn_mono (ih2 r nt hn2 hc.2 tm h V φ w a ht hr hg') ?_);rintro e a' w' ⟨e0,c9,h',φ',rfl,g1,g2,g3,g4,g5,g6⟩;exact⟨e0,c9,h',φ',rfl,g1,g2,g3,g4,g5,λt ht hnt=>g6 t ht (hmem t hnt).2⟩
 |block id c ih=>
  intro r nt hn hc tm h V φ w a ht hr hg;refine wpIn_block (wpIn_mono (ih r nt hn hc tm h _ φ w a ht hr hg) ?_);rintro e a' w' ⟨e0,c9,h',φ',rfl,g1,g2,g3,g4,g5,g6⟩;cases e0 with
  |normal=>exact⟨.normal,c9,h',φ',rfl,g1,g2,g3,g4,g5,g6⟩
  |ret=>exact⟨.ret,c9,h',φ',rfl,g1,g2,g3,g4,g5,g6⟩
  |exit i=>
   have Sm:Bool.rec (motive:=λ_=>Prop) (V (.exit i) c9 h') (V .normal c9 h') (Nat.beq i id):=g1;simp only[Ol,Exit.inBlock];cases hb:Nat.beq i id with
   |true=>
    rw[hb]at Sm;rw[if_pos (cw hb)];exact⟨.normal,c9,h',φ',rfl,Sm,g2,g3,g4,g5,g6⟩
   |false=>
    rw[hb]at Sm;rw[if_neg (nH hb)];exact⟨.exit i,c9,h',φ',rfl,Sm,g2,g3,g4,g5,g6⟩
 |scope c ih=>
  intro r nt hn hc tm h V φ w a ht hr hg;refine xZ (ih r nt hn hc tm h V φ w a ht hr hg) ?_;rintro l a' w' ⟨x,c9,h',φ',hx,_⟩;cases x<;>cases hx
 |loop c ih=>
  intro r nt hn hc tm h V φ w a ht hr hg;obtain⟨I,⟨n,h0⟩,hI⟩:=hg;exact(Ik (c:=c) (V:=V) (kQ:=tm) hn hc (λtm h V φ w a=>ih r nt hn hc tm h V φ w a) I hI n tm h φ w a (λ_ _ _=>rfl) ht hr h0).wp
 |_=>intro r nt hn hc tm h V φ w a ht hr hg;exact False.elim hg
theorem S7(h:af)(tm:T Value):∀(rs:List Am)(V:List Value->Prop),LZ h tm rs V=dR False h tm rs V:=by
 intro rs
 induction rs with
 |nil=>intro V;rfl
 |cons r rs ih=>
  intro V;cases r with
  |tmp t=>simp only[dR,gI];exact ih _
  |one a=>simp only[dR,gI];show az False (dL tm a) h (λv _=>LZ h tm rs λvs=>V (v::vs))=_;simp only[ih];rfl
  |agg a s=>simp only[dR,gI];show aH False s (dL tm a) h (λv _=>LZ h tm rs λvs=>V (v::vs))=_;simp only[ih];rfl
  |bad=>rfl
theorem S8(V:KQ)(h:af)(vs:List Value):S2 V h vs=NO V h vs:=by
 cases vs with
 |nil=>rfl
 |cons v vs=>cases vs<;>rfl
theorem ay(hm:P.follows .mixedOrders=true){f:FuncId}{args:List Value}{h:af}{V:KQ}(hg:aT P f args h V):aj P f args h V:=by
 intro φ w args' ha hr;unfold aT at hg;split at hg
 .exact hg.elim
 .rename_i c rs nt hc;obtain⟨fn,hf,hb,rfl,rfl,Ar,hrk,hnt,xW⟩:=sR hc;split at hg<;>try exact hg.elim
  rename_i hle;refine⟨xW _ _,?_⟩;have hst:=TR.start (nt:=fn.ntmps) ha hnt (cG hle);refine wU (r:=none) (n:=0) |>.1 (callsIn_of_wp_marks hf hb trivial (wpIn_mono (OF hm c none _ (.inl rfl) Ar _ h _ φ w _ hst hr hg) ?_))
  rintro e a' w' ⟨x,c9,h',φ',rfl,g1,g2,g3,g4,g5,_⟩;have Sq:a'.defers=[]:=g5
  have fin:LZ h' c9 (fn.results.toList.map (vB P)) (λvs=>S2 V h' vs)->
    LeavesInM (FR none) 0 P fn a'.tmps (λe w'=>∃φ' v v' h',e=.returned v'/\ok (V v h')/\VR φ' v v'/\HR P φ' h' w'/\Ext φ φ' h h' w w') a'.defers .returning w':=by
   intro k;rw[S7]at k;simp only[S8]at k;rw[Sq];refine pS (a:=a') (φ':=φ') (h':=h') ?_ [] w'.heap.size w' trivial g3 g4;intro w2 HK hx2;obtain⟨vs,vs',k1,k2,k3⟩:=pR (good:=ok) sZ HK g2 _ hrk k;refine⟨_,sQ k3,?_⟩;cases k2 with
   |nil=>exact⟨φ',_,_,h',rfl,k1,VR.tuple' .nil,HK,hx2⟩
   |cons hv hvs=>
    cases hvs with
    |nil=>exact⟨φ',_,_,h',rfl,k1,hv,HK,hx2⟩
    |cons ND hvs=>exact⟨φ',_,_,h',rfl,k1,VR.tuple' (.cons hv (.cons ND hvs)),HK,hx2⟩
  cases x with
  |normal=>exact fin g1
  |exit i=>exact False.elim g1
  |ret=>exact fin g1
theorem aj.mono{f:FuncId}{args:List Value}{V κ':Value->af->Prop}(hc:aj P f args h V)(hk:∀v h',V v h'->κ' v h'):aj P f args h κ':=by
 intro φ w args' ha hr;obtain⟨h1,h2⟩:=hc φ w args' ha hr;refine⟨h1,h2.mono ?_⟩;rintro e w' ⟨φ',v,v',h',rfl,g1,g2,g3,g4⟩;exact⟨φ',v,v',h',rfl,hk _ _ g1,g2,g3,g4⟩
end Go.Vai

namespace Go.Vai
open Go
variable {β:Type}{fl:β}
theorem T.L5{α:Type}(a a':α)(p:List Bool):∀t:T α,T.oA a' p (T.oA a p t)=T.oA a' p t:=by
 induction p with
 |nil=>intro t;cases t<;>rfl
 |cons b p ih=>intro t;cases t<;>cases b<;>simp only[T.oA]<;>rw[ih]
theorem T.L6{α:Type}(a b:α):∀(p q:List Bool)(t:T α),p≠q->T.oA a p (T.oA b q t)=T.oA b q (T.oA a p t):=by
 intro p
 induction p with
 |nil=>
  intro q t hpq;cases q with
  |nil=>exact absurd rfl hpq
  |cons c q=>cases t<;>cases c<;>rfl
 |cons x p ih=>
  intro q t hpq;cases q with
  |nil=>cases t<;>cases x<;>rfl
  |cons c q=>
   have h:x=c->p≠q:=λe e'=>hpq (by rw[e,e']);cases x<;>cases c<;>cases t<;>simp only[T.oA]<;>first|rfl|rw[ih _ _ (h rfl)]
theorem Xt{a b:Nat}(h:a≠b):key a≠key b:=λe=>h (key_inj (Nat.lt_succ_self _) (Nat.lt_succ_self _) e)
theorem T.yc{α:Type}(t:T α)(n:Nat)(a a':α):(t.bq n a).bq n a'=t.bq n a':=T.L5 a a' (key n) t
theorem T.Ei{α:Type}(t:T α){n m:Nat}(a b:α)(h:n≠m):(t.bq n a).bq m b=(t.bq m b).bq n a:=(T.L6 a b (key n) (key m) t (Xt h)).symm
theorem T.ax{α:Type}(t:T α){n m:Nat}(a:α)(h:n≠m):(t.bq n a).get m=t.get m:=T.gU t a (Nat.lt_succ_self _) (Nat.lt_succ_self _) h
theorem Il(vs:List Value):∀(t:T Value)(off n:Nat)(a:Value),n<off->lay vs (t.bq n a) off=(lay vs t off).bq n a:=by
 induction vs with
 |nil=>intro t off n a _;rfl
 |cons v vs ih=>
  intro t off n a h;simp only[lay];rw[T.Ei t a v XQ,ih _ _ _ _ XQ]
theorem S9(vs:List Value):∀(t:T Value)(off i:Nat)(a:Value),i<vs.length->(lay vs t off).bq (off+i) a=lay (vs.set i a) t off:=by
 induction vs with
 |nil=>intro t off i a h;simp at h
 |cons v vs ih=>
  intro t off i a h;cases i with
  |zero=>
   simp only[List.set_cons_zero,lay,Nat.add_zero];rw[<-Il vs _ _ _ _ (Nat.lt_succ_self off),T.yc]
  |succ i=>
   simp only[List.set_cons_succ,lay];rw[<-ih _ _ _ _ (by simpa using h),show off+(i+1)=off+1+i by omega]
def over(vs:List Value)(o:Nat)(ws:List Value):List Value:=vs.take o++ws++vs.drop (o+ws.length)
theorem mG{vs:List Value}{o:Nat}{ws:List Value}(h:o+ws.length<=vs.length):(over vs o ws).length=vs.length:=by
 simp[over];omega
theorem Ej(vs:List Value)(o:Nat):over vs o []=vs:=by simp[over]
theorem L7(vs:List Value)(o:Nat)(w:Value)(ws:List Value)(h:o<vs.length):over vs o (w::ws)=over (vs.set o w) (o+1) ws:=by
 simp only[over,List.length_cons];rw[List.take_succ_eq_append_getElem (by simpa using h)];simp only[List.getElem_set_self];rw[List.take_set_of_le (Nat.le_refl _),List.drop_set_of_lt XQ];simp[Nat.add_comm,Nat.add_left_comm]
theorem Cs(ws:List Value):∀(vs:List Value)(o:Nat),o+ws.length<=vs.length->lay ws (lay vs .nil 0) o=lay (over vs o ws) .nil 0:=by
 induction ws with
 |nil=>intro vs o _;rw[Ej];rfl
 |cons w ws ih=>
  intro vs o h;simp only[List.length_cons]at h;have h1:=S9 vs .nil 0 o w XQ;rw[Nat.zero_add]at h1;rw[L7 vs o w ws XQ,<-ih _ _ (by simp;omega),<-h1];rfl
def ai(vs:List Value)(e:TypeId)(op:Bool):bL:=.cells vs.length (lay vs .nil 0) e op
def roO(vs:List Value)(e:TypeId):bL:=.ro vs.length (lay vs .nil 0) e
theorem OG(vs:List Value):∀(c:T Value)(off:Nat)(i:Nat),(lay vs c off).get i=if off<=i/\i<off+vs.length then vs[i-off]? else c.get i:=by
 induction vs with
 |nil=>intro c off i;simp[lay];omega
 |cons v vs ih=>
  intro c off i;rw[lay,ih];by_cases h1:off+1<=i/\i<off+1+vs.length
  .rw[if_pos h1,if_pos (by simp;omega),show i-off=(i-(off+1))+1 by omega];simp
  .rw[if_neg h1];by_cases h2:off=i
   .subst h2;rw[T.au];simp
   .rw[T.ax _ _ h2,if_neg (by simp;omega)]
theorem nO(vs:List Value)(i:Nat):(lay vs .nil 0).get i=vs[i]?:=by
 rw[OG];by_cases h:i<vs.length
 .rw[if_pos ⟨Nat.zero_le _,XQ⟩,Nat.sub_zero]
 .rw[if_neg XQ,T.get_nil];symm;simp;omega
def Im(fl:β)(o:Option Value)(V:Value->β):β:=match o with|some v=>V v|none=>fl
theorem Bi(v:Value)(V:Value->β):Im fl (some v) V=V v:=id rfl
def uv(fl:β)(ob:Option bL)(o:Nat)(V:Value->β):β:=match ob with
 |some (.cells n c _ _)=>match Nat.ble (Nat.succ o) n,c.get o with
  |true,some v=>V v
  |_,_=>fl
 |some (.ro n c _)=>match Nat.ble (Nat.succ o) n,c.get o with
  |true,some v=>V v
  |_,_=>fl
 |_=>fl
theorem Ek(b o:Nat)(h:af)(V:UV β):az fl (.pointer (some ⟨b,o,none⟩)) h V=uv fl (h.bl.get b) o λv=>V v h:=by
 unfold az uv;dsimp only;generalize h.bl.get b=z;cases z with
 |none=>rfl
 |some ob=>cases ob<;>rfl
theorem qD(vs:List Value)(e:TypeId)(op:Bool)(o:Nat)(V:Value->β):uv fl (some (ai vs e op)) o V=Im fl vs[o]? V:=by
 unfold uv ai;simp only[nO];by_cases h:o<vs.length
 .rw[show Nat.ble (Nat.succ o) vs.length=true from Nat.ble_eq_true_of_le h,List.getElem?_eq_getElem h];rfl
 ·have:Nat.ble (Nat.succ o) vs.length=false:=by
   cases hb:Nat.ble (Nat.succ o) vs.length with
   |false=>rfl
   |true=>exact absurd (Nat.le_of_ble_eq_true hb) h
  rw[this,List.getElem?_eq_none XQ];rfl
theorem OH(vs:List Value)(e:TypeId)(o:Nat)(V:Value->β):uv fl (some (roO vs e)) o V=Im fl vs[o]? V:=qD vs e false o V
theorem Io(vs:List Value)(off:Nat):∀(n:Nat)(acc:List Value)(V:List Value->β),off+n<=vs.length->lz fl (lay vs .nil 0) off n acc V=V ((vs.drop off).take n++acc):=by
 intro n
 induction n with
 |zero=>intro acc V _;simp;rfl
 |succ n ih=>
  intro acc V h
  show Option.rec (motive:=λ_=>β) fl (λv=>lz fl (lay vs .nil 0) off n (v::acc) V) ((lay vs .nil 0).get (Nat.add off n))=_
  rw[nO,show Nat.add off n=off+n from rfl,List.getElem?_eq_getElem XQ]
  show lz fl (lay vs .nil 0) off n (vs[off+n]::acc) V=_
  rw[ih _ _ XQ,List.take_succ_eq_append_getElem (by simp;omega)];simp
def wW(fl:β)(ob:Option bL)(o s:Nat)(V:List Value->β):β:=match ob with
 |some (.cells n c _ _)=>match Nat.ble (Nat.add o s) n with
  |true=>lz fl c o s [] V
  |false=>fl
 |some (.ro n c _)=>match Nat.ble (Nat.add o s) n with
  |true=>lz fl c o s [] V
  |false=>fl
 |_=>fl
theorem El(s b o:Nat)(h:af)(V:UV β):aH fl s (.pointer (some ⟨b,o,none⟩)) h V=wW fl (h.bl.get b) o s λl=>V (.agg ⟨l⟩) h:=by
 unfold aH wW;dsimp only;generalize h.bl.get b=z;cases z with
 |none=>rfl
 |some ob=>cases ob<;>rfl
theorem uQ(vs:List Value)(e:TypeId)(op:Bool)(o s:Nat)(V:List Value->β)(h:o+s<=vs.length):wW fl (some (ai vs e op)) o s V=V ((vs.drop o).take s):=by
 unfold wW ai;simp only;rw[show Nat.ble (Nat.add o s) vs.length=true from Nat.ble_eq_true_of_le h];simp only;rw[Io _ _ _ _ _ h,List.append_nil]
theorem OI(vs:List Value)(e:TypeId)(o s:Nat)(V:List Value->β)(h:o+s<=vs.length):wW fl (some (roO vs e)) o s V=V ((vs.drop o).take s):=uQ vs e false o s V h
theorem dN(o:bL)(h:af)(V:Nat->af->β):aD fl o h V=V h.nx ⟨h.nx+1,h.bl.bq h.nx o,h.lo⟩:=by
 unfold aD;rw[T.gf,bY]
theorem cg(b:Nat)(o:bL)(h:af)(V:af->β)(hlo:h.lo<=b):setBlock fl b o h V=V ⟨h.nx,h.bl.bq b o,h.lo⟩:=by
 unfold setBlock;rw[Nat.ble_eq_true_of_le hlo,T.gf]
theorem iX(vs:List Value)(e:TypeId)(op:Bool)(V:bL->β)(hl:vs.length<=1000000000000):aK fl vs e op V=V (ai vs e op):=by
 unfold aK;rw[wS];simp only[Nat.zero_add];rw[Nat.ble_eq_true_of_le hl];rfl
theorem uR(n:Nat):∀(ws:List Value)(c:T Value)(o:Nat)(V:T Value->β),o+ws.length<=n->(ws.all dI)=true->mR fl n ws c o V=V (lay ws c o):=by
 intro ws
 induction ws with
 |nil=>intro c o V _ _;rfl
 |cons v ws ih=>
  intro c o V h1 h2;simp only[List.all_cons,Bool.and_eq_true,List.length_cons]at h1 h2
  show Bool.rec (motive:=λ_=>β) fl (Bool.rec (motive:=λ_=>β) fl (T.set c o v λc=>mR fl n ws c (Nat.succ o) V) (Nat.ble (Nat.succ o) n)) (dI v)=_
  rw[h2.1,Nat.ble_eq_true_of_le XQ];simp only[T.gf];rw[ih _ _ _ XQ h2.2];rfl
def S_(fl:β)(ob:Option bL)(s b o:Nat)(ws:List Value)(h:af)(V:af->β):β:=match ob with
 |some (.cells n c e op)=>match Nat.beq ws.length s with
  |true=>mR fl n ws c o λc=>setBlock fl b (.cells n c e op) h V
  |false=>fl
 |_=>fl
theorem Bj(s b o:Nat)(v:Value)(h:af)(V:UV β):aS fl s (.pointer (some ⟨b,o,none⟩)) v h V=S_ fl (h.bl.get b) s b o v.cells.toList h λh=>V undef h:=by
 unfold aS S_;dsimp only;generalize h.bl.get b=z;cases z with
 |none=>rfl
 |some ob=>cases ob<;>rfl
theorem uS(vs:List Value)(e:TypeId)(op:Bool)(s b o:Nat)(ws:List Value)(h:af)(V:af->β)(h1:ws.length=s)(h2:ws.all dI=true)(h3:o+s<=vs.length)(hlo:h.lo<=b):S_ fl (some (ai vs e op)) s b o ws h V=V ⟨h.nx,h.bl.bq b (ai (over vs o ws) e op),h.lo⟩:=by
 subst h1;unfold S_ ai;simp only;rw[show Nat.beq ws.length ws.length=true from Nat.beq_refl _];simp only;rw[uR _ _ _ _ _ h3 h2,cg _ _ _ _ hlo,Cs _ _ _ h3,mG h3]
theorem Em(v:Value)(h:af)(V:KQ):aG (some v) h V=V v h:=id rfl
theorem yd(o:bL)(mk:Nat->Value)(h:af)(V:KQ):Ad (some (o,mk)) h V=V (mk h.nx) ⟨h.nx+1,h.bl.bq h.nx o,h.lo⟩:=by
 show aD False o h (λn h=>V (mk n) h)=_;rw[dN]
theorem ye(p:Prop):bP true p=p:=id rfl
theorem yf(b:Bool):av (.bool b) true=b:=by cases b<;>exact id rfl
theorem vM(b:Bool):av (.bool b) false=!b:=by cases b<;>exact id rfl
theorem vN(f:(Value->af->Prop)->Prop)(h:af)(V:KQ):an true f h V=f V:=id rfl
theorem s_(f:(Value->af->Prop)->Prop)(h:af)(V:KQ):an false f h V=V undef h:=id rfl
theorem yg(A B:Prop):aM (.bool true) A B=A:=id rfl
theorem vO(A B:Prop):aM (.bool false) A B=B:=id rfl
theorem JW(n:Int)(h : -9223372036854775808<=n/\n<=9223372036854775807):IntKind.i64.wrap n=n:=IntWalk.i64_in _ h
theorem JX(P:Program)(t:TypeId)(cn gd:Bool)(a b:Int)(h:af)(V:UV β):aF fl P .add t cn gd (.int .i64 a) (.int .i64 b) h V=V (.int .i64 (IntKind.i64.wrap (a+b))) h:=by
 simp only[aF,ir,mT,gV,ep];rfl
theorem JY(P:Program)(t:TypeId)(cn gd:Bool)(a b:Int)(h:af)(V:UV β):aF fl P .sub t cn gd (.int .i64 a) (.int .i64 b) h V=V (.int .i64 (IntKind.i64.wrap (a-b))) h:=by
 simp only[aF,ir,mT,gV,ep];rfl
theorem JZ(P:Program)(t:TypeId)(cn gd:Bool)(a b:Int)(h:af)(V:UV β):aF fl P .mul t cn gd (.int .i64 a) (.int .i64 b) h V=V (.int .i64 (IntKind.i64.wrap (a*b))) h:=by
 simp only[aF,ir,mT,gV,ep];rfl
theorem Ct(P:Program)(t:TypeId)(cn gd:Bool)(a b:Int)(h:af)(V:UV β)(hb:b≠0):aF fl P .quo t cn gd (.int .i64 a) (.int .i64 b) h V=V (.int .i64 (IntKind.i64.wrap (Int.tdiv a b))) h:=by
 simp only[aF,ir,mT,gV,ep,gH,hb,decide_false]
theorem J1(P:Program)(t:TypeId)(cn gd:Bool)(a b:Int)(h:af)(V:UV β)(hb:b≠0):aF fl P .rem t cn gd (.int .i64 a) (.int .i64 b) h V=V (.int .i64 (Int.tmod a b)) h:=by
 simp only[aF,ir,mT,gV,gH,hb,decide_false]
theorem J3(P:Program)(t:TypeId)(cn gd:Bool)(k:IntKind)(a b:Int)(h:af)(V:UV β):aF fl P .eql t cn gd (.int k a) (.int k b) h V=V (.bool (decide (a=b))) h:=by
 simp only[aF,fV,decide_true,mT,bX,gH]
theorem J4(P:Program)(t:TypeId)(cn gd:Bool)(k:IntKind)(a b:Int)(h:af)(V:UV β):aF fl P .neq t cn gd (.int k a) (.int k b) h V=V (.bool (!decide (a=b))) h:=by
 simp only[aF,fV,decide_true,mT,bX,gH]
theorem J5(P:Program)(t:TypeId)(cn gd:Bool)(k:IntKind)(a b:Int)(h:af)(V:UV β):aF fl P .lss t cn gd (.int k a) (.int k b) h V=V (.bool (decide (a<b))) h:=by
 simp only[aF,fV,decide_true,mT,bX,gG]
theorem J6(P:Program)(t:TypeId)(cn gd:Bool)(k:IntKind)(a b:Int)(h:af)(V:UV β):aF fl P .gtr t cn gd (.int k a) (.int k b) h V=V (.bool (decide (b<a))) h:=by
 simp only[aF,fV,decide_true,mT,bX,gG]
theorem J7(P:Program)(t:TypeId)(cn gd:Bool)(k:IntKind)(a b:Int)(h:af)(V:UV β):aF fl P .leq t cn gd (.int k a) (.int k b) h V=V (.bool (!decide (b<a))) h:=by
 simp only[aF,fV,decide_true,mT,bX,gG]
theorem J8(P:Program)(t:TypeId)(cn gd:Bool)(k:IntKind)(a b:Int)(h:af)(V:UV β):aF fl P .geq t cn gd (.int k a) (.int k b) h V=V (.bool (!decide (a<b))) h:=by
 simp only[aF,fV,decide_true,mT,bX,gG]
theorem OJ(b:Bool)(h:af)(V:UV β):jI fl .not (.bool b) h V=V (.bool (!b)) h:=by simp only[jI,bX]
theorem OK(a:Int)(h:af)(V:UV β):jI fl .neg (.int .i64 a) h V=V (.int .i64 (IntKind.i64.wrap (0-a))) h:=by simp only[jI,gV,ep];rfl
theorem En(k:IntKind)(a:Int)(h:af)(V:UV β):lE fl .i64 (.int k a) h V=V (.int .i64 (IntKind.i64.wrap a)) h:=by simp only[lE,gV,ep]
theorem Bk(a b:Value)(h:af)(V:UV β):bg fl (.bool true) a b h V=V a h:=id rfl
theorem yh(a b:Value)(h:af)(V:UV β):bg fl (.bool false) a b h V=V b h:=id rfl
theorem h_(x:Option Addr)(n c:Nat)(h:af)(V:UV β):bG fl (.slice x n c) h V=V (.int .i64 (n:Int)) h:=id rfl
theorem ta(off b o:Nat)(h:af)(V:UV β):aa fl off (.pointer (some ⟨b,o,none⟩)) h V=V (.pointer (some ⟨b,o+off,none⟩)) h:=by simp only[aa,bY];rfl
theorem J9(a:Addr)(h:af)(V:UV β):aV fl (.pointer (some a)) h V=V (.pointer (some a)) h:=id rfl
theorem tc(f:FuncId)(a b:Array Value)(h:af)(V:UV β):aV fl (.func (.func f) a b) h V=V (.func (.func f) a b) h:=id rfl
theorem Bl(a:Value)(l:List Value)(h:af)(V:UV β):aJ fl 0 (.tuple ⟨a::l⟩) h V=V a h:=id rfl
theorem Bm(a b:Value)(l:List Value)(h:af)(V:UV β):aJ fl 1 (.tuple ⟨a::b::l⟩) h V=V b h:=id rfl
theorem Bn(a b c:Value)(l:List Value)(h:af)(V:UV β):aJ fl 2 (.tuple ⟨a::b::c::l⟩) h V=V c h:=id rfl
theorem bt(s b o n c i:Nat)(h:af)(V:UV β)(hi:i<n):aI fl s (.slice (some ⟨b,o,none⟩) n c) (.int .i64 (i:Int)) h V=V (.pointer (some ⟨b,o+i*s,none⟩)) h:=by
 show(match Nat.ble (Nat.succ i) n with|true=>_|_=>_)=_
 rw[show Nat.ble (Nat.succ i) n=true from Nat.ble_eq_true_of_le hi];simp only[bY];rfl
theorem Eo(P:Program)(f:FuncId)(a b:Array Value)(args:List Value)(h:af)(V:KQ):fL P (.func (.func f) a b) args h V=aj P f (a.toList++args++b.toList) h V:=id rfl
theorem bx{p:Prop}[Decidable p](h:p):decide p=true:=decide_eq_true h
theorem aZ{p:Prop}[Decidable p](h:¬p):decide p=false:=decide_eq_false h
theorem fm{a b:Int}(h:a<b):decide (a<b)=true:=decide_eq_true h
theorem dF{a b:Int}(h:b<=a):decide (a<b)=false:=decide_eq_false XQ
theorem ac7{a b:Int}(h:a=b):decide (a=b)=true:=decide_eq_true h
theorem OL{a b:Int}(h:a<b):decide (a=b)=false:=decide_eq_false XQ
theorem VG{a b:Int}(h:b<a):decide (a=b)=false:=decide_eq_false XQ
structure Le(h h':af):Prop where
 nx:h.nx<=h'.nx
 lo:h'.lo=h.lo
 get:∀b,b<h.nx->h'.bl.get b=h.bl.get b
theorem Le.refl(h:af):Le h h:=⟨Nat.le_refl _,rfl,λ_ _=>rfl⟩
theorem Le.trans{a b c:af}(x:Le a b)(y:Le b c):Le a c:=⟨Nat.le_trans x.nx y.nx,y.lo.trans x.lo,λi hi=>(y.get i (Nat.lt_of_lt_of_le hi x.nx)).trans (x.get i hi)⟩
theorem Le.new{a h:af}(x:Le a h)(o:bL):Le a ⟨h.nx+1,h.bl.bq h.nx o,h.lo⟩:=
 ⟨Nat.le_succ_of_le x.nx,x.lo,λi hi=>(T.ax _ _ (by have:=x.nx;omega)).trans (x.get i hi)⟩
theorem Le.set{a h:af}(x:Le a h){b:Nat}(hb:a.nx<=b)(o:bL):Le a ⟨h.nx,h.bl.bq b o,h.lo⟩:=
 ⟨x.nx,x.lo,λi hi=>(T.ax _ _ XQ).trans (x.get i hi)⟩
theorem nP(h:af)(o:bL):∃A:af,A=⟨h.nx+1,h.bl.bq h.nx o,h.lo⟩/\Le h A/\A.bl.get h.nx=some o/\A.nx=h.nx+1/\A.lo=h.lo:=
 ⟨_,rfl,(Le.refl h).new _,T.au _ _ _,rfl,rfl⟩
theorem L8(h:af)(o p:bL):∃A:af,A=⟨h.nx+1+1,(h.bl.bq h.nx o).bq (h.nx+1) p,h.lo⟩/\Le h A/\A.bl.get h.nx=some o/\A.bl.get (h.nx+1)=some p/\A.nx=h.nx+1+1/\A.lo=h.lo:=
 ⟨_,rfl,((Le.refl h).new _).new _,(T.ax _ _ XQ).trans (T.au _ _ _),T.au _ _ _,rfl,rfl⟩
abbrev XY(v : Value)(_ : af):Option Value := some v
theorem Le.up{h h' : af}(x : Le h h'){b : Nat}{o : Option bL}(g : h.bl.get b = o)(k : b < h.nx := by omega):h'.bl.get b = o := (x.get _ k).trans g
end Go.Vai

namespace Go.Vai
open Go Go.RowKit
variable {β:Type}{fl:β}{P:Program}
theorem Cu{φ:dV}{v:Value}(hv:nu v=true):VR φ v v:=by
 cases v<;>first|exact VR.nu hv|(exact VR.rM (F2.nu hv))|cases hv
theorem OM{φ:dV}:∀{l l':List Value},l.all jP=true->F2 (VR φ) l l'->l'=l:=by
 intro l
 induction l with
 |nil=>intro l' _ h;cases h;rfl
 |cons v l ih=>
  intro l' hs h;simp only[List.all_cons,Bool.and_eq_true]at hs;cases h with
  |cons h1 h2=>rw[ih hs.2 h2,VR.SZ hs.1 h1]
theorem oC{φ:dV}{v v':Value}(hv:nu v=true)(h:VR φ v v'):v'=v:=by
 cases h with
 |agg a a' ha B5=>
  have:=OM (l':=a'.toList) hv (F2.lH ha B5);obtain⟨l⟩:=a;obtain⟨l'⟩:=a';simp only at this;rw[this]
 |bool=>rfl
 |int=>rfl
 |string=>rfl
 |_=>cases hv
theorem Ep{φ:dV}:∀{l:List Value},l.all nu=true->F2 (VR φ) l l:=by
 intro l
 induction l with
 |nil=>intro _;exact .nil
 |cons v l ih=>
  intro h;simp only[List.all_cons,Bool.and_eq_true]at h;exact .cons (Cu h.1) (ih h.2)
theorem Er{φ:dV}:∀{l l':List Value},l.all nu=true->F2 (VR φ) l l'->l'=l:=by
 intro l
 induction l with
 |nil=>intro l' _ h;cases h;rfl
 |cons v l ih=>
  intro l' hs h;simp only[List.all_cons,Bool.and_eq_true]at hs;cases h with
  |cons h1 h2=>rw[ih hs.2 h2,oC hs.1 h1]
def br(P:Program)(n:Nat)(f:FuncId)(args:List Value)(v:Value):Bool:=
 args.all nu && nu v && mA false SY P (run false SY P n) f args ⟨0,.nil,0⟩ λv' _=>ki 8 v' v
theorem td(hm:P.follows .mixedOrders=true){n:Nat}{f:FuncId}{args:List Value}{v:Value}(ha:br P n f args v=true){h:af}{V:KQ}(hk:V v h):aj P f args h V:=by
 intro φ w args' hf hr;have hfl:¬yes false:=by simp[yes]
 simp only[br,Bool.and_eq_true]at ha;obtain⟨⟨ha1,hv⟩,ha2⟩:=ha;have:=Er ha1 hf;subst this;have hc:=fJ (good:=yes) (w:=w) hfl (Cp (P:=P)) (Bf (good:=yes) hfl Cp (rS hfl Cp hm) n).1 (Ep ha1) (HR.start w) ha2;refine⟨hc.1,Calls.mono hc.2 ?_⟩;rintro e w' ⟨φ',v1,v',h',rfl,g1,g2,g3,g4⟩;have e1:=Ch 8 _ _ g1;subst e1;have hfr:∀B,B<w.heap.size->w'.heap[B]? = w.heap[B]?:=λB hB=>g4.Ao B hB λb pl e=>by cases e
 refine⟨φ,v1,v',h,rfl,hk,by rw[oC hv g2];exact Cu hv,?_,?_⟩
 .exact⟨λb o pl h1 h2=>by rw[hfr _ (hr.dom b pl h2).2];exact hr.obj b o pl h1 h2,λb pl h1=>⟨(hr.dom b pl h1).1,Nat.lt_of_lt_of_le (hr.dom b pl h1).2 g4.size⟩,hr.keys,hr.NU,hr.inj,hr.lo⟩
 .exact⟨Sub.refl φ,λb pl e e'=>(by rw[e]at e';cases e'),Nat.le_refl _,g4.size,λB hB _=>hfr B hB,λ_ _ _=>rfl,g4.tape,g4.os,g4.output,λ_ _=>trivial,rfl,λ_ _=>rfl,λb o pl _ _ _ _ hB=>hfr _ hB,g4.dr⟩
def Cv(v:Value)(_h:af):Prop:=v=.bool true
def Has(ob:Option bL)(o:Nat)(ws:List Value):Prop:=
 ∃n c e,(ob=some (.ro n c e)\/∃op,ob=some (.cells n c e op))/\o+ws.length<=n/\∀j v,ws[j]? = some v->c.get (o+j)=some v
theorem Has.cells{vs:List Value}{e:TypeId}{op:Bool}{o k:Nat}(h:o+k<=vs.length):Has (some (ai vs e op)) o ((vs.drop o).take k):=by
 refine⟨vs.length,lay vs .nil 0,e,.inr ⟨op,rfl⟩,by simp;omega,λj v hj=>?_⟩;rw[nO];rw[List.getElem?_take]at hj;split at hj
 .simpa[List.getElem?_drop]using hj
 .cases hj
theorem Has.all{vs:List Value}{e:TypeId}{op:Bool}:Has (some (ai vs e op)) 0 vs:=by
 have:=Has.cells (vs:=vs) (e:=e) (op:=op) (o:=0) (k:=vs.length) XQ;simpa using this
theorem Has.sub{ob:Option bL}{o:Nat}{ws:List Value}(h:Has ob o ws)(i k:Nat)(hk:i+k<=ws.length):Has ob (o+i) ((ws.drop i).take k):=by
 obtain⟨n,c,e,h1,h2,h3⟩:=h;refine⟨n,c,e,h1,by simp;omega,λj v hj=>?_⟩;rw[List.getElem?_take]at hj;split at hj
 .rw[List.getElem?_drop]at hj;rw[Nat.add_assoc];exact h3 _ _ hj
 .cases hj
theorem eO{ob:Option bL}{o:Nat}{ws:List Value}(h:Has ob o ws)(j:Nat)(V:Value->β):j<ws.length->uv fl ob (o+j) V=Im fl ws[j]? V:=by
 intro hj;obtain⟨n,c,e,h1,h2,h3⟩:=h;have hle:Nat.ble (Nat.succ (o+j)) n=true:=Nat.ble_eq_true_of_le XQ;have hv:=h3 j _ (List.getElem?_eq_getElem hj);rw[List.getElem?_eq_getElem hj];rcases h1 with rfl|⟨op,rfl⟩<;>simp only[uv,hle,hv,Im]
theorem Bo(c:T Value)(ws:List Value)(off:Nat):∀(n:Nat)(acc:List Value)(V:List Value->β),n<=ws.length->(∀j v,ws[j]? = some v->c.get (off+j)=some v)->lz fl c off n acc V=V (ws.take n++acc):=by
 intro n
 induction n with
 |zero=>intro acc V _ _;simp;rfl
 |succ n ih=>
  intro acc V h hc
  show Option.rec (motive:=λ_=>β) fl (λv=>lz fl c off n (v::acc) V) (c.get (Nat.add off n))=_
  rw[show Nat.add off n=off+n from rfl,hc n _ (List.getElem?_eq_getElem XQ)]
  show lz fl c off n (ws[n]::acc) V=_
  rw[ih _ _ XQ hc,List.take_succ_eq_append_getElem XQ];simp only[List.append_assoc,List.cons_append,List.nil_append]
theorem oD{ob:Option bL}{o:Nat}{ws:List Value}(h:Has ob o ws)(s:Nat)(V:List Value->β)(hs:s=ws.length):wW fl ob o s V=V ws:=by
 obtain⟨n,c,e,h1,h2,h3⟩:=h;subst hs;have hle:Nat.ble (Nat.add o ws.length) n=true:=Nat.ble_eq_true_of_le h2;rcases h1 with rfl|⟨op,rfl⟩<;>simp only[wW,hle]<;>rw[Bo c ws o _ _ _ (Nat.le_refl _) h3]<;>simp
theorem jX(h:af)(size n:Nat)(x:Value)(V:List Value->β)(h0:n*size=0):dW fl h size n x V=V []:=by
 unfold dW;rw[show Nat.mul n size=0 from h0]
theorem jA{h:af}{b o:Nat}{ws:List Value}(hh:Has (h.bl.get b) o ws)(size n l c:Nat)(V:List Value->β)(hn:n*size=ws.length):dW fl h size n (.slice (some ⟨b,o,none⟩) l c) V=V ws:=by
 unfold dW;rw[show Nat.mul n size=ws.length from hn];cases hw:ws with
 |nil=>rfl
 |cons w0 ws0=>
  obtain⟨nn,cc,e,h1,h2,h3⟩:=hh;rw[hw]at h2 h3;have hle:Nat.ble (Nat.add o (Nat.succ ws0.length)) nn=true:=Nat.ble_eq_true_of_le (by simpa using h2);have fin:lz fl cc o (Nat.succ ws0.length) [] V=V (w0::ws0):=by
   rw[Bo cc (w0::ws0) o _ _ _ (by simp) h3]
   congr 1
   simp
  rcases h1 with h1|⟨op,h1⟩<;>simp only[List.length_cons,h1,hle]<;>exact fin
section
variable {α:Type}(enc:α->List Value)(s:Nat)
def Sl(h:af)(v:Value)(L:List α):Prop:=
 ∃x cap,v=.slice x L.length cap/\(L≠[]->∃b o,x=some ⟨b,o,none⟩/\b<h.nx/\Has (h.bl.get b) o (L.flatMap enc))
variable {enc s}
theorem Sl.le{h h':af}{v:Value}{L:List α}(hs:Sl enc h v L)(hl:Le h h'):Sl enc h' v L:=by
 obtain⟨x,cap,h1,h2⟩:=hs;refine⟨x,cap,h1,λhn=>?_⟩;obtain⟨b,o,e1,e2,e3⟩:=h2 hn;exact⟨b,o,e1,Nat.lt_of_lt_of_le e2 hl.nx,by rw[hl.get b e2];exact e3⟩
theorem Sl.nil(h:af)(x:Option Addr)(cap:Nat):Sl enc h (.slice x 0 cap) ([]:List α):=⟨x,cap,rfl,λhn=>absurd rfl hn⟩
theorem bz(he:∀a:α,(enc a).length=s)(L:List α):(L.flatMap enc).length=L.length*s:=by
 induction L with
 |nil=>simp
 |cons a L ih=>simp[he,ih,Nat.succ_mul,Nat.add_comm]
theorem wX(he:∀a:α,(enc a).length=s):∀(L:List α)(i:Nat)(hi:i<L.length),((L.flatMap enc).drop (i*s)).take s=enc L[i]:=by
 intro L
 induction L with
 |nil=>intro i hi;simp at hi
 |cons a L ih=>
  intro i hi;cases i with
  |zero=>simp[List.take_append,he]
  |succ i=>
   have:=ih i (by simpa using hi);simp only[List.flatMap_cons,List.getElem_cons_succ];rw[<-this,List.drop_append,show(enc a).drop ((i+1)*s)=[]from List.drop_eq_nil_of_le (by rw[he,Nat.succ_mul];omega),he,show(i+1)*s-s=i*s by rw[Nat.succ_mul];omega];rfl
theorem Sl.elem{h:af}{v:Value}{L:List α}(hs:Sl enc h v L)(he:∀a:α,(enc a).length=s)(i:Nat)(hi:i<L.length):∃b o cap,v=.slice (some ⟨b,o,none⟩) L.length cap/\b<h.nx/\Has (h.bl.get b) (o+i*s) (enc L[i]):=by
 obtain⟨x,cap,h1,h2⟩:=hs;obtain⟨b,o,e1,e2,e3⟩:=h2 (by intro e;rw[e]at hi;simp at hi);subst e1;refine⟨b,o,cap,h1,e2,?_⟩;have hle:i*s+s<=(L.flatMap enc).length:=by
  rw[bz he,<-Nat.succ_mul];exact Nat.mul_le_mul_right _ hi
 have:=e3.sub (i*s) s hle
 rwa [wX he L i hi]at this
theorem Sl.len{h:af}{v:Value}{L:List α}(hs:Sl enc h v L)(V:UV β)(h':af):bG fl v h' V=V (.int .i64 (L.length:Int)) h':=by
 obtain⟨x,cap,rfl,_⟩:=hs;rfl
theorem Sl.at{h:af}{v:Value}{L:List α}(hs:Sl enc h v L)(he:∀a:α,(enc a).length=s)(i:Nat)(hi:i<L.length):∃b o,b<h.nx/\Has (h.bl.get b) o (enc L[i])/\∀(β:Type)(fl:β)(h':af)(V:UV β),aI fl s v (.int .i64 (i:Int)) h' V=V (.pointer (some ⟨b,o,none⟩)) h':=by
 obtain⟨b,o,cap,rfl,h1,h2⟩:=hs.elem he i hi;exact⟨b,o+i*s,h1,h2,λβ fl h' V=>bt s b o _ cap i h' V hi⟩
theorem Sl.ld{h:af}{v:Value}{L:List α}(hs:Sl enc h v L)(he:∀a:α,(enc a).length=s)(i:Nat){p:α}(hp:L[i]? = some p):∃b o,b<h.nx/\(∀(β:Type)(fl:β)(h':af)(V:UV β),aI fl s v (.int .i64 (i:Int)) h' V=V (.pointer (some ⟨b,o,none⟩)) h')/\
   (∀(β:Type)(fl:β)(V:List Value->β),wW fl (h.bl.get b) o s V=V (enc p))/\Has (h.bl.get b) o (enc p):=by
 obtain⟨hi,rfl⟩:=List.getElem?_eq_some_iff.1 hp;obtain⟨b,o,h1,h2,h3⟩:=hs.at he i hi;exact⟨b,o,h1,h3,λβ fl V=>oD h2 s V (he _).symm,h2⟩
theorem Sl.first{h:af}{v:Value}{L:List α}(hs:Sl enc h v L)(he:∀a:α,(enc a).length=s)(V:List Value->β):dW fl h s L.length v V=V (L.flatMap enc):=by
 by_cases hn:L=[]
 .subst hn;rw[jX _ _ _ _ _ (by simp)];rfl
 .obtain⟨x,cap,rfl,h2⟩:=hs;obtain⟨b,o,rfl,e2,e3⟩:=h2 hn;exact jA e3 _ _ _ _ _ (bz he L).symm
theorem Sl.new{h:af}{b:Nat}{L:List α}{e:TypeId}{op:Bool}(hb:b<h.nx)(hg:h.bl.get b=some (ai (L.flatMap enc) e op))(cap:Nat):Sl enc h (.slice (some ⟨b,0,none⟩) L.length cap) L:=
 ⟨_,cap,rfl,λ_=>⟨b,0,rfl,hb,by rw[hg];exact Has.all⟩⟩
variable (enc)
def ia(a:af)(e:TypeId)(h:af)(v:Value)(L:List α):Prop:=
 (L=[]/\(v=.slice none 0 0\/∃b o,v=.slice (some ⟨b,o,none⟩) 0 0))\/∃b,v=.slice (some ⟨b,0,none⟩) L.length aW/\a.nx<=b/\b<h.nx/\h.lo<=b/\h.bl.get b=some (ai (L.flatMap enc) e true)
variable {enc}
theorem ia.sl{a h:af}{e:TypeId}{v:Value}{L:List α}(ho:ia enc a e h v L):Sl enc h v L:=by
 rcases ho with⟨rfl,rfl|⟨b,o,rfl⟩⟩|⟨b,rfl,h1,h2,h3,h4⟩
 .exact Sl.nil _ _ _
 .exact Sl.nil _ _ _
 .exact Sl.new h2 h4 _
theorem ia.le{a h h':af}{e:TypeId}{v:Value}{L:List α}(ho:ia enc a e h v L)(hl:Le h h'):ia enc a e h' v L:=by
 rcases ho with ho|⟨b,h0,h1,h2,h3,h4⟩
 .exact .inl ho
 .exact .inr ⟨b,h0,h1,Nat.lt_of_lt_of_le h2 hl.nx,by rw[hl.lo];exact h3,by rw[hl.get b h2];exact h4⟩
theorem append_nil{h:af}{e:TypeId}{z:List Value}{v x:Value}(hx:Sl enc h x ([]:List α))(hv:∃b n c,v=.slice b n c)(V:UV β):bO fl e s z false v x h V=V v h:=by
 obtain⟨b,n,c,rfl⟩:=hv;obtain⟨y,cap,rfl,_⟩:=hx;simp only[bO,mq,List.length_nil];rw[jX _ _ _ _ _ (by simp)]
set_option maxRecDepth 20000 in
theorem iO{a h:af}{e:TypeId}{z:List Value}{v x:Value}{L M:List α}(he:∀a:α,(enc a).length=s)(hone:∀a:α,(enc a).all dI=true)(hs0:0<s)(hs1:s<=100)(ho:ia enc a e h v L)(hx:Sl enc h x M)(hle:Le a h)(hb:L.length+M.length<=1000000)(hal:h.lo<=h.nx)(V:KQ)(hk:∀v' h',ia enc a e h' v' (L++M)->Le a h'->h'.nx<=h.nx+1->h.nx<=h'.nx->V v' h'):bO False e s z false v x h V:=by
 by_cases hM:M=[]
 .subst hM;rw[append_nil hx (by rcases ho with⟨rfl,rfl|⟨b,o,rfl⟩⟩|⟨b,rfl,_⟩<;>exact⟨_,_,_,rfl⟩)];exact hk v h (by simpa using ho) hle (Nat.le_succ _) (Nat.le_refl _)
 .obtain⟨m,hm⟩:∃m,M.length=m+1:=⟨M.length-1,by have:=List.length_pos_iff.2 hM;omega⟩
  have hfl:=bz (enc:=enc) he;have jB:=hx.first (β:=Prop) (fl:=False) he;obtain⟨y,cap,rfl,h2⟩:=hx;have hml:∀K:List α,K.length<=1000000->(K.flatMap enc).length<=1000000000000:=λK hK=>by
   rw[hfl];have:=Nat.mul_le_mul hK hs1;omega
  have fresh:∀(hh:af)(ws:List Value),ws=(L++M).flatMap enc->Le a hh->hh.nx=h.nx->hh.lo=h.lo->dw False ws e true hh λb h'=>V (.slice (some ⟨b,0,none⟩) (L.length+M.length) aW) h':=by
   intro hh ws hw VH hnx hlo;subst hw;unfold dw;rw[iX _ _ _ _ (hml _ (by simp;omega)),dN];refine hk _ _ (.inr ⟨hh.nx,by simp,VH.nx,Nat.lt_succ_self _,by show hh.lo<=_;omega,T.au _ _ _⟩) (VH.new _) (by show hh.nx+1<=_;omega) (by show h.nx<=hh.nx+1;omega)
  rcases ho with⟨rfl,hv⟩|⟨b,rfl,h3,h4,h5,h6⟩
  .have hF:=fresh h (M.flatMap enc) (by simp) hle rfl rfl;simp only[List.length_nil,Nat.zero_add]at hF;rcases hv with rfl|⟨b,o,rfl⟩
   .unfold bO mq;simp only;rw[jB];simp only[hm,bY];rw[show Nat.ble (Nat.add 0 (m+1)) 1000000000=true from Nat.ble_eq_true_of_le (by show 0+(m+1)<=_;omega)];rw[hm]at hF;have e1:Nat.add 0 (m+1)=m+1:=by show 0+(m+1)=_;omega
    rw[e1];exact hF
   .unfold bO mq;simp only;rw[jB];simp only[hm,bY];have e1:Nat.add 0 (m+1)=m+1:=by show 0+(m+1)=_;omega
    rw[e1,show Nat.ble (m+1) 1000000000=true from Nat.ble_eq_true_of_le XQ];rw[hm]at hF
    show dW False h s 0 _ _
    rw[jX _ _ _ _ _ (by simp)];exact hF
  .unfold bO mq;simp only;rw[jB];simp only[hm,bY];have e1:Nat.add L.length (m+1)=L.length+(m+1):=rfl;rw[e1,show Nat.ble (L.length+(m+1)) 1000000000=true from Nat.ble_eq_true_of_le XQ];have e2:Nat.beq aW fZ=false:=by decide
   have e3:Nat.beq aW aW=true:=Nat.beq_refl _;simp only[e2,e3,h6];have e4:Nat.ble (Nat.add 0 (Nat.mul (L.length+(m+1)) s)) (L.flatMap enc).length=false:=by
    rw[hfl];cases Ta:Nat.ble (Nat.add 0 (Nat.mul (L.length+(m+1)) s)) (L.length*s)with
    |false=>rfl
    |true=>
     have h7:0+(L.length+(m+1))*s<=L.length*s:=Nat.le_of_ble_eq_true Ta;rw[Nat.add_mul,Nat.succ_mul]at h7;omega
   have e5:(M.flatMap enc).all dI=true:=by
    rw[List.all_flatMap];simp only[List.all_eq_true];intro x _;exact List.all_eq_true.1 (hone x)
   simp only[ai,Nat.beq_refl,e4,e5,Bool.and_self];have hh:Has (h.bl.get b) 0 (L.flatMap enc):=by rw[h6];exact Has.all
   rw[jA hh s L.length _ _ _ (hfl L).symm,cg _ _ _ _ h5];have hF:=fresh ⟨h.nx,h.bl.bq b (.dead (L.flatMap enc).length e),h.lo⟩ (L.flatMap enc++M.flatMap enc) (by simp) (hle.set h3 _) rfl rfl;rw[hm]at hF;exact hF
end
end Go.Vai
namespace Go.Vai
open Go
theorem Bp(zs:List Value):a_ zs 1=zs:=by simp[a_]
theorem vP(w:Bool):av undef w=false:=by cases w<;>rfl
theorem ON(a:Value)(l:List Value):ah (a::l) 0=a:=id rfl
theorem OO(a:Value)(l:List Value)(n:Nat):ah (a::l) (n+1)=ah l n:=id rfl
theorem qE(l:List Value):(Value.cells (.agg ⟨l⟩)).toList=l:=id rfl
theorem qF(k:IntKind)(n:Int):(Value.cells (.int k n)).toList=[.int k n]:=id rfl
theorem oE(b:Bool):(Value.cells (.bool b)).toList=[.bool b]:=id rfl
theorem qG(a:Option Addr):(Value.cells (.pointer a)).toList=[.pointer a]:=id rfl
theorem mH(a:Option Addr)(n c:Nat):(Value.cells (.slice a n c)).toList=[.slice a n c]:=id rfl
theorem J_(k:IntKind)(n:Int):dI (.int k n)=true:=id rfl
theorem Es(b:Bool):dI (.bool b)=true:=id rfl
theorem Ka(s:ByteArray):dI (.string s)=true:=id rfl
theorem Kb(a:Option Addr):dI (.pointer a)=true:=id rfl
theorem Kc(a:Option Addr)(n c:Nat):dI (.slice a n c)=true:=id rfl
theorem Kd(a:Option Nat):dI (.map a)=true:=id rfl
theorem Ke(f:Fn)(a b:Array Value):dI (.func f a b)=true:=id rfl
theorem Kf(t:TypeId)(v:Value):dI (.iface t v)=true:=id rfl
theorem pY(vs ws:List Value)(h:ws.length=vs.length):over vs 0 ws=ws:=by simp[over,h]
variable {β:Type}{fl:β}
theorem OP:∀(new old:List Value)(V:List Value->β),new.length<=old.length->sF fl new old V=V (over old 0 new):=by
 intro new
 induction new with
 |nil=>intro old V _;rw[Ej];cases old<;>rfl
 |cons v new ih=>
  intro old V h;cases old with
  |nil=>simp at h
  |cons o old=>
   simp only[sF];rw[ih old _ (by simpa using h)];simp[over]
theorem Tb(new:List Value):∀(o:Nat)(old:List Value)(V:List Value->β),o+new.length<=old.length->cV fl new o old V=V (over old o new):=by
 intro o
 induction o with
 |zero=>
  intro old V h;have:cV fl new 0 old V=sF fl new old V:=by cases old<;>rfl
  rw[this,OP _ _ _ (by simpa using h)]
 |succ o ih=>
  intro old V h;cases old with
  |nil=>simp at h
  |cons v old=>
   simp only[cV];rw[ih old _ (by simp at h;omega)];simp[over,Nat.add_right_comm]
theorem tf(cs:List Value)(V:List Value->β):bB fl [] [] cs V=V cs:=id rfl
theorem qH(off size:Nat)(ps:List (Nat × Nat))(v:Value)(vs cs:List Value)(V:List Value->β)(h1:v.cells.toList.length=size)(h2:off+size<=cs.length):bB fl ((off,size)::ps) (v::vs) cs V=bB fl ps vs (over cs off v.cells.toList) V:=by
 subst h1
 show(match Nat.beq v.cells.toList.length v.cells.toList.length with|false=>fl|true=>cV fl v.cells.toList off cs λcs=>bB fl ps vs cs V)=_
 rw[Nat.beq_refl];simp only;rw[Tb _ _ _ _ h2]
theorem OQ(size:Nat)(v:Value)(cs:List Value)(V:List Value->β)(h1:v.cells.toList.length=size)(h2:cs.length=size):bB fl [(0,size)] [v] cs V=V v.cells.toList:=by
 rw[qH _ _ _ _ _ _ _ h1 XQ,tf,pY _ _ XQ]
end Go.Vai

namespace Go.Vai
open Go
section
variable {β:Type}{fl:β}{P:Program}{h h':af}{V:UV β}{a a' b b' c c':Value}
@[congr] theorem Xu{op:BinOp}{t:TypeId}{cn gd:Bool}(ha:a=a')(hb:b=b'):aF fl P op t cn gd a b h V=aF fl P op t cn gd a' b' h V:=by rw[ha,hb]
@[congr] theorem ab1{op:UnOp}(ha:a=a'):jI fl op a h V=jI fl op a' h V:=by rw[ha]
@[congr] theorem VI{k:IntKind}(ha:a=a'):lE fl k a h V=lE fl k a' h V:=by rw[ha]
@[congr] theorem VJ(hc:c=c')(ha:a=a')(hb:b=b'):bg fl c a b h V=bg fl c' a' b' h V:=by rw[ha,hb,hc]
@[congr] theorem Xv(ha:a=a'):aV fl a h V=aV fl a' h V:=by rw[ha]
@[congr] theorem L9{o:Nat}(ha:a=a'):aa fl o a h V=aa fl o a' h V:=by rw[ha]
@[congr] theorem L_{s:Nat}(ha:a=a')(hb:b=b'):aI fl s a b h V=aI fl s a' b' h V:=by rw[ha,hb]
@[congr] theorem Ma{n s:Nat}(ha:a=a')(hb:b=b'):lD fl n s a b h V=lD fl n s a' b' h V:=by rw[ha,hb]
@[congr] theorem Tc{g:Bool}{s o:Nat}(ha:a=a'):rK fl g s o a h V=rK fl g s o a' h V:=by rw[ha]
@[congr] theorem Td{g:Bool}{n s:Nat}(ha:a=a')(hb:b=b'):xF fl g n s a b h V=xF fl g n s a' b' h V:=by rw[ha,hb]
@[congr] theorem Te(ha:a=a')(hb:b=b'):xG fl a b h V=xG fl a' b' h V:=by rw[ha,hb]
@[congr] theorem OS{i:Nat}(ha:a=a'):aJ fl i a h V=aJ fl i a' h V:=by rw[ha]
@[congr] theorem VK(ha:a=a'):az fl a h V=az fl a' h V:=by rw[ha]
@[congr] theorem VL{s:Nat}(ha:a=a'):aH fl s a h V=aH fl s a' h V:=by rw[ha]
@[congr] theorem Tf{s:Nat}(ha:a=a')(hb:b=b'):aS fl s a b h V=aS fl s a' b' h V:=by rw[ha,hb]
@[congr] theorem ab2{o o':Option bL}{i:Nat}{k:Value→β}(ho:o=o'):uv fl o i k=uv fl o' i k:=by rw[ho]
@[congr] theorem ab3{o o':Option bL}{i s:Nat}{k:List Value→β}(ho:o=o'):wW fl o i s k=wW fl o' i s k:=by rw[ho]
@[congr] theorem ab4{o o':Option bL}{s i j:Nat}{ws VM:List Value}{k:af→β}(ho:o=o')(hw:ws=VM)(hh:h=h'):S_ fl o s i j ws h k=S_ fl o' s i j VM h' k:=by rw[ho,hw,hh]
@[congr] theorem Xw{o o':Option Value}{k:Value→β}(ho:o=o'):Im fl o k=Im fl o' k:=by rw[ho]
@[congr] theorem OT{o:bL}{k:Nat→af→β}(hh:h=h'):aD fl o h k=aD fl o h' k:=by rw[hh]
@[congr] theorem OU{i:Nat}{o:bL}{k:af→β}(hh:h=h'):setBlock fl i o h k=setBlock fl i o h' k:=by rw[hh]
@[congr] theorem Tg{ws VM:List Value}{e:TypeId}{g:Bool}{k:bL→β}(hw:ws=VM):aK fl ws e g k=aK fl VM e g k:=by rw[hw]
@[congr] theorem OV{ws VM:List Value}{e:TypeId}{g:Bool}{k:Nat→af→β}(hw:ws=VM)(hh:h=h'):dw fl ws e g h k=dw fl VM e g h' k:=by rw[hw,hh]
@[congr] theorem VN{ps:List (Nat × Nat)}{vs vs' cs cs':List Value}{k:List Value→β}(hv:vs=vs')(hc:cs=cs'):bB fl ps vs cs k=bB fl ps vs' cs' k:=by rw[hv,hc]
@[congr] theorem Th{e s:Nat}{l u m l' u' m':Option Value}(ha:a=a')(hl:l=l')(hu:u=u')(hm:m=m'):sliceB fl e s a l u m h V=sliceB fl e s a' l' u' m' h V:=by rw[ha,hl,hu,hm]
@[congr] theorem Ti{l u m l' u' m':Option Value}(ha:a=a')(hl:l=l')(hu:u=u')(hm:m=m'):xC fl a l u m h V=xC fl a' l' u' m' h V:=by rw[ha,hl,hu,hm]
@[congr] theorem Sr{e s:Nat}{z:List Value}{g:Bool}(ha:a=a')(hb:b=b')(hh:h=h'):bO fl e s z g a b h V=bO fl e s z g a' b' h' V:=by rw[ha,hb,hh]
@[congr] theorem VO{s:Nat}(ha:a=a')(hb:b=b'):DF fl s a b h V=DF fl s a' b' h V:=by rw[ha,hb]
@[congr] theorem Tj{z:List Value}(ha:a=a'):kj fl z a h V=kj fl z a' h V:=by rw[ha]
@[congr] theorem Tk(ha:a=a'):bG fl a h V=bG fl a' h V:=by rw[ha]
@[congr] theorem Tl(ha:a=a'):xD fl a h V=xD fl a' h V:=by rw[ha]
@[congr] theorem Tm(ha:a=a'):ou fl a h V=ou fl a' h V:=by rw[ha]
@[congr] theorem Ss{t:TypeId}{z:Value}{g:Bool}(ha:a=a')(hb:b=b'):dG fl P t z g a b h V=dG fl P t z g a' b' h V:=by rw[ha,hb]
@[congr] theorem Mb{t:TypeId}(ha:a=a')(hb:b=b')(hc:c=c'):cM fl P t a b c h V=cM fl P t a' b' c' h V:=by rw[ha,hb,hc]
@[congr] theorem NG{t:TypeId}{z:Value}(ha:a=a')(hb:b=b'):nD fl P t z a b h V=nD fl P t z a' b' h V:=by rw[ha,hb]
@[congr] theorem Kg(ha:a=a')(hb:b=b')(hc:c=c'):jR fl a b c h V=jR fl a' b' c' h V:=by rw[ha,hb,hc]
@[congr] theorem St{t:TypeId}(ha:a=a')(hb:b=b'):mu fl P t a b h V=mu fl P t a' b' h V:=by rw[ha,hb]
@[congr] theorem Tn(ha:a=a'):ow fl a h V=ow fl a' h V:=by rw[ha]
@[congr] theorem VP{f:β→β→β}(ha:a=a'):q7 fl f a h V=q7 fl f a' h V:=by rw[ha]
@[congr] theorem To(ha:a=a'):ox fl a h V=ox fl a' h V:=by rw[ha]
@[congr] theorem Kh{t:TypeId}{z:Value}{g:Bool}(ha:a=a'):eT fl t z g a h V=eT fl t z g a' h V:=by rw[ha]
@[congr] theorem Xx(ha:a=a')(hb:b=b'):NM fl a b h V=NM fl a' b' h V:=by rw[ha,hb]
@[congr] theorem Xy(ha:a=a')(hb:b=b'):BZ fl a b h V=BZ fl a' b' h V:=by rw[ha,hb]
end
section
variable {P:Program}{h h':af}{V:KQ}
@[congr] theorem ab5{o o':Option Value}(ho:o=o'):aG o h V=aG o' h V:=by rw[ho]
@[congr] theorem ab6{o o':Option (bL × (Nat→Value))}(ho:o=o'):Ad o h V=Ad o' h V:=by rw[ho]
@[congr] theorem Tp{b b':Bool}{f:(Value→af→Prop)→Prop}(hb:b=b'):an b f h V=an b' f h V:=by rw[hb]
@[congr] theorem VS{b b':Bool}{p:Prop}(hb:b=b'):bP b p=bP b' p:=by rw[hb]
@[congr] theorem VT{v v':Value}{A B:Prop}(hv:v=v'):aM v A B=aM v' A B:=by rw[hv]
@[congr] theorem VU{A:(List Value→af→Prop)→Prop}{B:List Value→af→Prop}:dz A B=dz A B:=rfl
@[congr] theorem VV{l l':List Value}{body:List Value→af→(List Value→af→Prop)→Prop}(hh:h=h'):dD l h body=dD l h' body:=by rw[hh]
@[congr] theorem VW{f:FuncId}{l l':List Value}(hl:l=l')(hh:h=h'):aj P f l h V=aj P f l' h' V:=by rw[hl,hh]
@[congr] theorem VX{v v':Value}{l l':List Value}(hv:v=v')(hl:l=l')(hh:h=h'):fL P v l h V=fL P v' l' h' V:=by rw[hv,hl,hh]
@[congr] theorem VY{n:String}{v v':Value}{l l':List Value}(hv:v=v')(hl:l=l')(hh:h=h'):jr P n v l h V=jr P n v' l' h' V:=by rw[hv,hl,hh]
end
end Go.Vai

namespace Go.Vai
open Go Go.RowKit Go.WideShapes Go.ChangeShapes
variable {P:Program}
theorem OW{φ φ':dV}{h h':af}{w w':World}(hx:Ext φ φ' h h' w w')(hro:∀b pl,φ b=some pl->b<h.lo/\∃o,h.bl.get b=some o/\o.live):Below w.heap.size w w':=by
 refine⟨hx.os,hx.tape,hx.output,hx.size,λB hB=>?_⟩;by_cases he:∃b pl,φ b=some pl/\pl.B=B
 .obtain⟨b,pl,h1,rfl⟩:=he;obtain⟨h2,o,h3,h4⟩:=hro b pl h1;exact hx.HI b o pl h2 h3 h4 h1 hB
 .exact hx.Ao B hB λb pl h1 h2=>he ⟨b,pl,h1,h2⟩
theorem Tq{f:FuncId}{args args':List Value}{φ:dV}{h:af}{w:World}(hc:aj P f args h Cv)(ha:F2 (VR φ) args args')(hr:HR P φ h w)(hro:∀b pl,φ b=some pl->b<h.lo/\∃o,h.bl.get b=some o/\o.live):Calls P f args'.toArray w λe w'=>e=.returned (.bool true)/\Below w.heap.size w w':=by
 refine Calls.mono (hc φ w args' ha hr).2 ?_;rintro e w' ⟨φ',v,v',h',rfl,g1,g2,g3,g4⟩;have g1:v=.bool true:=g1;subst g1;cases g2;exact⟨rfl,OW g4 hro⟩
section
variable {α:Type}{de:α->List Value}{s:Nat}
def kI(de:α->List Value)(w:World)(v:Value)(L:List α):Prop:=
 (L=[]/\(v=.slice none 0 0\/∃a cap,v=.slice (some a) 0 cap))\/
 ∃B o cap C e fz,v=.slice (some ⟨B,o,none⟩) L.length cap/\L.length<=cap/\cap<=maxLen/\w.heap[B]? = some (.cells C e fz)/\o+(L.flatMap de).length<=C.size/\∀j u,(L.flatMap de)[j]? = some u->C[o+j]? = some u
theorem Et{n:Nat}{p:Nat->α->Prop}(h:∀i,i<n->∃x,p i x):∃L:List α,L.length=n/\∀i a,L[i]? = some a->p i a:=by
 induction n with
 |zero=>exact⟨[],rfl,λi a e=>by simp at e⟩
 |succ n ih=>
  obtain⟨L,h1,h2⟩:=ih λi hi=>h i (Nat.lt_succ_of_lt hi);obtain⟨a,ha⟩:=h n (Nat.lt_succ_self n);refine⟨L++[a],by simp[h1],λi b e=>?_⟩;rcases Nat.lt_or_ge i n with hi|hi
  .rw[List.getElem?_append_left XQ]at e;exact h2 i b e
  ·have:i=n:=by
    have:=(List.getElem?_eq_some_iff.1 e).1;simp[h1]at this;omega
   subst this;rw[List.getElem?_append_right XQ,h1]at e;simp at e;subst e;exact ha
theorem Cw(he:∀a:α,(de a).length=s)(hs:0<s):∀(L:List α)(j:Nat)(u:Value),(L.flatMap de)[j]? = some u->∃a,L[j / s]? = some a/\(de a)[j % s]? = some u:=by
 intro L
 induction L with
 |nil=>intro j u e;simp at e
 |cons a L ih=>
  intro j u e;simp only[List.flatMap_cons]at e;rcases Nat.lt_or_ge j s with hj|hj
  .rw[List.getElem?_append_left (by rw[he];exact hj)]at e;rw[Nat.div_eq_of_lt hj,Nat.mod_eq_of_lt hj];exact⟨a,rfl,e⟩
  .rw[List.getElem?_append_right (by rw[he];exact hj),he]at e;obtain⟨b,h1,h2⟩:=ih (j-s) u e;refine⟨b,?_,?_⟩
   .rw[Nat.div_eq_sub_div hs hj];simpa using h1
   .rw[Nat.mod_eq_sub_mod hj];exact h2
theorem OX{H:Type}{enc:TypeId × Value->H}{w:World}{t e:TypeId}{fuel:Nat}{v:Value}{x:DataW H × List MemPlace}(he:∀a:α,(de a).length=s)(hs:0<s)(ht:P.underlying t=some (.slice e))(hc:P.cellsOf e=s)(Ip:∀(n:Nat)(cs:List Value)(d:DataW H × List MemPlace),cs.length=s->DataW.trod enc P w 0 (λ_=>true) true n e cs=some d->∃a:α,cs=de a)(h:DataW.trod enc P w 0 (λ_=>true) true fuel t [v]=some x):∃L:List α,kI de w v L:=by
 rcases Go.Deep.open_slice ht h with⟨h1,_⟩|⟨a,len,cap,m,n,D,Pl,h1,hb,hl,hm,VA,hx,hi⟩
 .cases h1;exact⟨[],.inl ⟨rfl,.inl rfl⟩⟩
 .cases h1;simp only[if_true]at VA;subst VA;by_cases hlen:len=0
  .subst hlen;exact⟨[],.inl ⟨rfl,.inr ⟨a,_,rfl⟩⟩⟩
  ·have hel:∀i,i<len->∃p:α,∀j u,(de p)[j]? = some u->w.cell? (a.add (i*s+j))=some u:=by
    intro i hil;obtain⟨cs,h2,h3⟩:=hi i XQ;rw[hc]at h2;obtain⟨_,h4,h5⟩:=World.cells?_some h2;obtain⟨p,rfl⟩:=Ip n cs _ h4 h3;refine⟨p,λj u hj=>?_⟩;have hjs:j<s:=by have:=(List.getElem?_eq_some_iff.1 hj).1;rwa [he]at this
    have:=h5 j hjs;rw[Go.Deep.add_add]at this;rw[this,hj]
   obtain⟨L,hL,hp⟩:=Et hel;have hcell:∀j u,(L.flatMap de)[j]? = some u->w.cell? (a.add j)=some u:=by
    intro j u hj;obtain⟨p,g1,g2⟩:=Cw he hs L j u hj;have:=hp _ p g1 _ u g2
    rwa [Nat.mul_comm,Nat.div_add_mod]at this
   have hfl:=bz (enc:=de) he L;have hpos:0<(L.flatMap de).length:=by rw[hfl,hL];exact Nat.mul_pos XQ hs
   have h0:=hcell 0 _ (List.getElem?_eq_getElem hpos);have ha0:a.add 0=a:=by simp[Addr.add]
   rw[ha0]at h0;obtain⟨B,o,sp⟩:=a;unfold World.cell? at h0;split at h0<;>try contradiction
   rename_i C e' fz hC;cases sp with
   |some q=>simp at h0
   |none=>
    refine⟨L,.inr ⟨B,o,m,C,e',fz,by rw[hL],XQ,hm,hC,?_,?_⟩⟩
    .have Eu:=hcell ((L.flatMap de).length-1) _ (List.getElem?_eq_getElem XQ);have NW:(⟨B,o,none⟩:Addr).add ((L.flatMap de).length-1)=⟨B,o+((L.flatMap de).length-1),none⟩:=by unfold Addr.add;split<;>simp_all
     rw[NW]at Eu;simp only[World.cell?,hC]at Eu;have:=(Array.getElem?_eq_some_iff.1 Eu).1;omega
    .intro j u hj;have hx:=hcell j u hj;have NW:(⟨B,o,none⟩:Addr).add j=⟨B,o+j,none⟩:=by unfold Addr.add;split<;>simp_all
     rw[NW]at hx;simpa[World.cell?,hC]using hx
def vQ:af:=⟨0,.nil,0⟩
def ac8:dV:=λ_=>none
theorem OY(w:World):HR P ac8 vQ w:=HR.start w
end
section
variable {H:Type}{enc:TypeId × Value->H}
theorem post_of_law{f:Func}{s:ChangeSpec}{apart fresh handsOn again:Bool}{W W':World}{args:Array Value}{v:Value}{ds gs:List (DataW H)}{before pa pv:List MemPlace}(hW:DataW.Whole enc P f.params.toList s.vars apart W args.toList ds gs before)(hres:∀(b:Nat)(sp:Nat->Bool)(hd:Bool),DataW.TrodAll enc P W' b sp hd f.resultTypes.toList (v.resultList f.resultTypes.size) (s.fn H (ds++gs)).results [])(hargs:∀sp:Nat->Bool,(∀p∈before,sp p.block=true)->DataW.TrodAll enc P W' 0 sp true f.params.toList args.toList (s.fn H (ds++gs)).args pa)(hvars:∀sp:Nat->Bool,(∀p∈before,sp p.block=true)->DataW.TrodVars enc P W' sp s.vars (s.fn H (ds++gs)).vars pv)(hps:before=pa++pv)(hb:Below W.heap.size W W')(hok:∀(j:Nat)(t:TypeId)(r:Value),f.resultTypes[j]? = some t->(v.resultList f.resultTypes.size)[j]? = some r->Value.okWide P W' .any 0 t r):s.post enc P f apart fresh handsOn again W args v W':=by
 have hlt:∀p∈before,p.block<W.heap.size:=λp hp=>hW.lt p hp;have hold:∀p∈before,(λb=>decide (b<W.heap.size)) p.block=true:=λp hp=>by simpa using hlt p hp
 refine⟨ds,gs,before,[],pa,pv,hW,hres _ _ _,hargs _ hold,hvars _ hold,World.keptBut_mono (λp hp=>⟨hp,?_⟩) (hb.frame (·∈before)),λ_=>?_⟩
 .rw[hps,List.mem_append]at hp;exact Or.inr hp
 .obtain⟨_,_,_,_,_,hz,hn⟩:=hW;refine⟨hok,_,_,([]++pa)++pv,⟨[]++pa,pv,trodAll_append (hargs _ (λ_ _=>rfl)) (hres _ _ _),hvars _ (λ_ _=>rfl),rfl,?_,?_⟩,?_⟩
  .intro b off hp;have hin:MemPlace.cell b off∈before:=by rw[hps];simpa using hp
   rw[hb.frozen (hlt _ hin)];exact hz b off hin
  .intro ha;have:=hn ha;rw[hps]at this;simpa using this
  .intro p hp _;rw[hps];simpa using hp
theorem arg_stays{t:TypeId}(hl:laidOutB P=true)(hr:P.readableRec t=true)(hrow:t<P.types.size){W W':World}{v:Value}{d:DataW H}{ps:List MemPlace}(h:DataW.Trod enc P W 0 (λ_=>true) true t v d ps)(hb:Below W.heap.size W W')(hlt:∀x∈ps,x.block<W.heap.size){sp:Nat->Bool}(hsp:∀x∈ps,sp x.block=true):DataW.Trod enc P W' 0 sp true t v d ps:=
 WideElems.Trod_stays hl hr hrow h (λx hx=>hb.same (hlt x hx)) (λx hx=>by simpa using hsp x hx)
end
end Go.Vai
namespace Go.Vai
open Go Go.RowKit
variable {P:Program}
theorem gN{f:FuncId}{args:List Value}{v:Value}(ha:args.all nu=true)(hv:nu v=true)(hc:aj P f args vQ λu _=>u=v){h:af}{V:KQ}(hk:V v h):aj P f args h V:=by
 intro φ w args' hf hr;have:=Er ha hf;subst this;obtain⟨c1,c2⟩:=hc ac8 w args' (Ep ha) (OY w);refine⟨c1,c2.mono ?_⟩;rintro e w' ⟨φ',v1,v',h',rfl,rfl,g2,g3,g4⟩;have hfr:∀B,B<w.heap.size->w'.heap[B]? = w.heap[B]?:=λB hB=>g4.Ao B hB λb pl e=>by cases e
 refine⟨φ,v1,v',h,rfl,hk,by rw[oC hv g2];exact Cu hv,?_,?_⟩
 .exact⟨λb o pl h1 h2=>by rw[hfr _ (hr.dom b pl h2).2];exact hr.obj b o pl h1 h2,λb pl h1=>⟨(hr.dom b pl h1).1,Nat.lt_of_lt_of_le (hr.dom b pl h1).2 g4.size⟩,hr.keys,hr.NU,hr.inj,hr.lo⟩
 .exact⟨Sub.refl φ,λb pl e e'=>(by rw[e]at e';cases e'),Nat.le_refl _,g4.size,λB hB _=>hfr B hB,λ_ _ _=>rfl,g4.tape,g4.os,g4.output,λ_ _=>trivial,rfl,λ_ _=>rfl,λb o pl _ _ _ _ hB=>hfr _ hB,g4.dr⟩
theorem Ev(u v:Value):bT (some u) v=ki 8 u v:=id rfl
theorem Bq(zs:List Value):a_ zs 0=[]:=id rfl
theorem Br(a:Value):a_ [a] 2=[a,a]:=by simp[a_]
theorem OZ(a:Value)(l:List Value)(n:Nat)(ws:List Value):over (a::l) (n+1) ws=a::over l n ws:=by simp[over,Nat.add_right_comm]
theorem O0(a w:Value)(l ws:List Value):over (a::l) 0 (w::ws)=w::over l 0 ws:=by simp[over]
theorem O1(l:List Value):over l 0 []=l:=by simp[over]
theorem Ew(u:Value):reN (some u)=true:=id rfl
theorem Ey(r:Bool):reG true r=r:=id rfl
theorem Bs(r:Bool):reG false r=true:=id rfl
theorem iP(n:Nat):Nat.beq n n=true:=Nat.beq_refl n
theorem Mc(n:Int):sE n n=true:=by rw[gH];simp
theorem Ez(k:IntKind):ir k k=true:=by rw[fV];simp
theorem Tr(n:Nat)(k:IntKind)(a:Int):ki (n+1) (.int k a) (.int k a)=true:=by unfold ki;simp[Ez,Mc]
theorem kS(k:IntKind)(a:Int):ki 8 (.int k a) (.int k a)=true:=Tr 7 k a
theorem nQ(a:Bool):ki 8 (.bool a) (.bool a)=true:=by unfold ki;simp
theorem Ki(b o:Nat):ki 8 (.pointer (some ⟨b,o,none⟩)) (.pointer (some ⟨b,o,none⟩))=true:=by unfold ki;simp[iP]
theorem gO(b o n c:Nat):ki 8 (.slice (some ⟨b,o,none⟩) n c) (.slice (some ⟨b,o,none⟩) n c)=true:=by unfold ki;simp[iP]
theorem qI(n c:Nat):ki 8 (.slice none n c) (.slice none n c)=true:=by unfold ki;simp[iP]
theorem uT(n:Nat)(l:List Int):xA (ki (n+1)) (l.map (Value.int .i64)) (l.map (Value.int .i64))=true:=by
 induction l with
 |nil=>rfl
 |cons a l ih=>simp only[List.map_cons,xA,Tr,ih,Bool.and_self]
theorem EA(l:List Int):ki 8 (.agg ⟨l.map (.int .i64)⟩) (.agg ⟨l.map (.int .i64)⟩)=true:=by
 unfold ki;exact uT 6 l
theorem VZ(a b:Int):ki 8 (.agg ⟨[.int .i64 a,.int .i64 b]⟩) (.agg ⟨[.int .i64 a,.int .i64 b]⟩)=true:=EA [a,b]
theorem V0(a b c d:Int):ki 8 (.agg ⟨[.int .i64 a,.int .i64 b,.int .i64 c,.int .i64 d]⟩) (.agg ⟨[.int .i64 a,.int .i64 b,.int .i64 c,.int .i64 d]⟩)=true:=EA [a,b,c,d]
end Go.Vai
namespace Go.Vai
open Go
variable {β:Type}{fl:β}
theorem yj(n:Nat)(d:Nat)(V:Nat->β):BY fl (some (.int .i64 (n:Int))) d V=V n:=id rfl
theorem uU(d:Nat)(V:Nat->β):BY fl none d V=V d:=id rfl
theorem Iq{h:af}{e s b n i:Nat}{vs:List Value}(hs:0<s)(hb:h.bl.get b=some (ai vs e true))(hvs:vs.length=n*s)(hi:i<n)(V:UV β):sliceB fl e s (.slice (some ⟨b,0,none⟩) n aW) (some (.int .i64 (i:Int))) none none h V=V (.slice (some ⟨b,i*s,none⟩) (n-i) aW) h:=by
 obtain⟨s,rfl⟩:∃k,s=k+1:=⟨s-1,XQ⟩
 have hk:gE h e b=some (n*(s+1)):=by unfold gE;rw[hb];simp only[ai,iP,hvs]
 have hd:Nat.div (Nat.sub (n*(s+1)) 0) (s+1)=n:=by show(n*(s+1)-0) / (s+1)=n;rw[Nat.sub_zero,Nat.mul_div_cancel _ XQ]
 have e1:Nat.beq aW fZ=false:=by decide
 have e2:Nat.beq aW aW=true:=Nat.beq_refl _;have e3:Nat.ble 0 (n*(s+1))=true:=Nat.ble_eq_true_of_le (Nat.zero_le _);have e4:Nat.ble i n=true:=Nat.ble_eq_true_of_le XQ;have e5:Nat.ble n n=true:=Nat.ble_eq_true_of_le (Nat.le_refl _);have e6:Nat.beq i n=false:=by
  cases hq:Nat.beq i n with
  |false=>rfl
  |true=>have:=cw hq;omega
 unfold sliceB iJ;simp only[e1,e2,hk,e3,hd,yj,uU,e4,e5,e6,bY]
 show V (.slice (some ⟨b,0+i*(s+1),none⟩) (n-i) aW) h=_
 rw[Nat.zero_add]
theorem yl{h:af}{e s b n m i:Nat}{vs:List Value}(hs:0<s)(hb:h.bl.get b=some (ai vs e true))(hvs:vs.length=n*s)(hn:0<n)(hi:i<=n)(V:UV β):sliceB fl e s (.slice (some ⟨b,0,none⟩) m aW) none (some (.int .i64 (i:Int))) none h V=V (.slice (some ⟨b,0,none⟩) i aW) h:=by
 obtain⟨s,rfl⟩:∃k,s=k+1:=⟨s-1,XQ⟩
 have hk:gE h e b=some (n*(s+1)):=by unfold gE;rw[hb];simp only[ai,iP,hvs]
 have hd:Nat.div (Nat.sub (n*(s+1)) 0) (s+1)=n:=by show(n*(s+1)-0) / (s+1)=n;rw[Nat.sub_zero,Nat.mul_div_cancel _ XQ]
 have e1:Nat.beq aW fZ=false:=by decide
 have e2:Nat.beq aW aW=true:=Nat.beq_refl _;have e3:Nat.ble 0 (n*(s+1))=true:=Nat.ble_eq_true_of_le (Nat.zero_le _);have e4:Nat.ble 0 i=true:=Nat.ble_eq_true_of_le (Nat.zero_le _);have e5:Nat.ble i n=true:=Nat.ble_eq_true_of_le hi;have e6:Nat.beq 0 n=false:=by
  cases hq:Nat.beq 0 n with
  |false=>rfl
  |true=>have:=cw hq;omega
 unfold sliceB iJ;simp only[e1,e2,hk,e3,hd,yj,uU,e4,e5,e6,bY]
 show V (.slice (some ⟨b,0+0*(s+1),none⟩) (i-0) aW) h=_
 rw[Nat.zero_mul,Nat.sub_zero]
theorem vR{h:af}{b o n c e:Nat}{op:Bool}{vs zero:List Value}(hb:h.bl.get b=some (ai vs e op))(hn:0<n)(hl:o+(a_ zero n).length<=vs.length)(h1:(a_ zero n).all dI=true)(hlo:h.lo<=b)(V:UV β):kj fl zero (.slice (some ⟨b,o,none⟩) n c) h V=V (.tuple #[]) ⟨h.nx,h.bl.bq b (ai (over vs o (a_ zero n)) e op),h.lo⟩:=by
 obtain⟨n,rfl⟩:∃k,n=k+1:=⟨n-1,XQ⟩
 unfold kj;simp only[hb,ai];rw[uR _ _ _ _ _ hl h1,cg _ _ _ _ hlo,Cs _ _ _ hl,mG hl]
end Go.Vai
namespace Go.Vai
open Go Go.RowKit Go.WideShapes Go.ChangeShapes
section
variable {P:Program}{α:Type}{de:α->List Value}{s:Nat}{H:Type}{enc:TypeId × Value->H}
theorem open_sliceArg{W:World}{t e:TypeId}{v:Value}{d:DataW H}{p:List MemPlace}{base:Nat}(he:∀a:α,(de a).length=s)(hs:0<s)(ht:P.underlying t=some (.slice e))(hc:P.cellsOf e=s)(Ip:∀(n:Nat)(cs:List Value)(d:DataW H × List MemPlace),cs.length=s->DataW.trod enc P W 0 (λ_=>true) true n e cs=some d->∃a:α,cs=de a)(hw:Value.okWide P W .any base t v)(h:DataW.Trod enc P W 0 (λ_=>true) true t v d p):∃L:List α,kI de W v L:=by
 obtain⟨fuel,hf⟩:=h;have hcs:v.cells.toList=[v]:=by
  unfold Value.okWide at hw;rw[ht]at hw;simp only at hw;unfold Cell.okWide Cell.ok at hw;rw[ht]at hw;cases v<;>first|rfl|(simp at hw)
 rw[hcs]at hf;exact OX he hs ht hc Ip hf
end
end Go.Vai

namespace Go.Vai
open Go
theorem V1:(!true)=false:=id rfl
theorem V2:(!false)=true:=id rfl
theorem ac9:decide True=true:=by simp
theorem ac_:decide False=false:=by simp
theorem Ld0(l:List Value):l.drop 0=l:=id rfl
theorem Lts(a:Value)(l:List Value)(n:Nat):(a::l).take (n+1)=a::l.take n:=id rfl
theorem Lt0(l:List Value):l.take 0=[]:=id rfl
theorem Lds(a:Value)(l:List Value)(n:Nat):(a::l).drop (n+1)=l.drop n:=id rfl
theorem Lg0(a:Value)(l:List Value):(a::l)[0]? = some a:=id rfl
theorem Lgs(a:Value)(l:List Value)(n:Nat):(a::l)[n+1]? = l[n]?:=id rfl
theorem V3(b:Bool):(b && true)=b:=by cases b<;>rfl
theorem V4(b:Bool):(true && b)=b:=by cases b<;>rfl
theorem V5(b:Bool):(b && b)=b:=by cases b<;>rfl
theorem Lac(p:Value->Bool)(a:Value)(l:List Value):(a::l).all p=(p a && l.all p):=id rfl
theorem Lan(p:Value->Bool):([]:List Value).all p=true:=id rfl
theorem Llc(a:Value)(l:List Value):(a::l).length=l.length+1:=id rfl
theorem Lln:([]:List Value).length=0:=id rfl
theorem Nza(n:Nat):0+n=n:=by omega
theorem Naz(n:Nat):n+0=n:=by omega
theorem Wz2:type_of% (And.intro (And.intro (And.intro (And.intro (And.intro (And.intro @Ek @El) (And.intro @Bj (And.intro @dN @qD))) (And.intro (And.intro @OH (And.intro @uQ @OI)) (And.intro @uS (And.intro @iX @Bi)))) (And.intro (And.intro (And.intro @Em (And.intro @yd @ye)) (And.intro @yf (And.intro @vM @vP))) (And.intro (And.intro @vN (And.intro @s_ @yg)) (And.intro @vO (And.intro @JW @JX))))) (And.intro (And.intro (And.intro (And.intro @JY (And.intro @JZ @J3)) (And.intro @J4 (And.intro @J5 @J6))) (And.intro (And.intro @J7 (And.intro @J8 @OJ)) (And.intro @OK (And.intro @En @Bk)))) (And.intro (And.intro (And.intro @yh (And.intro @h_ @ta)) (And.intro @J9 (And.intro @tc @Bl))) (And.intro (And.intro @Bm (And.intro @Bn @Eo)) (And.intro @fm (And.intro @dF @ac7)))))) (And.intro (And.intro (And.intro (And.intro (And.intro @OL @VG) (And.intro @T.au (And.intro @T.ax @T.yc))) (And.intro (And.intro @V1 (And.intro @V2 @ac9)) (And.intro @ac_ (And.intro @Ld0 @Lts)))) (And.intro (And.intro (And.intro @Lt0 (And.intro @Lds @Lg0)) (And.intro @Lgs (And.intro @Nza @Naz))) (And.intro (And.intro @ON (And.intro @OO @qE)) (And.intro @qF (And.intro @oE @qG))))) (And.intro (And.intro (And.intro (And.intro @mH (And.intro @pY @OQ)) (And.intro @tf (And.intro @qH @Bq))) (And.intro (And.intro @Bp (And.intro @Br @OZ)) (And.intro @O0 (And.intro @O1 @Ev)))) (And.intro (And.intro (And.intro @Ew (And.intro @Ey @Bs)) (And.intro @kS (And.intro @nQ @Ki))) (And.intro (And.intro @gO (And.intro @qI @VZ)) (And.intro @V0 (And.intro @V3 @V4))))))):=(And.intro (And.intro (And.intro (And.intro (And.intro (And.intro @Ek @El) (And.intro @Bj (And.intro @dN @qD))) (And.intro (And.intro @OH (And.intro @uQ @OI)) (And.intro @uS (And.intro @iX @Bi)))) (And.intro (And.intro (And.intro @Em (And.intro @yd @ye)) (And.intro @yf (And.intro @vM @vP))) (And.intro (And.intro @vN (And.intro @s_ @yg)) (And.intro @vO (And.intro @JW @JX))))) (And.intro (And.intro (And.intro (And.intro @JY (And.intro @JZ @J3)) (And.intro @J4 (And.intro @J5 @J6))) (And.intro (And.intro @J7 (And.intro @J8 @OJ)) (And.intro @OK (And.intro @En @Bk)))) (And.intro (And.intro (And.intro @yh (And.intro @h_ @ta)) (And.intro @J9 (And.intro @tc @Bl))) (And.intro (And.intro @Bm (And.intro @Bn @Eo)) (And.intro @fm (And.intro @dF @ac7)))))) (And.intro (And.intro (And.intro (And.intro (And.intro @OL @VG) (And.intro @T.au (And.intro @T.ax @T.yc))) (And.intro (And.intro @V1 (And.intro @V2 @ac9)) (And.intro @ac_ (And.intro @Ld0 @Lts)))) (And.intro (And.intro (And.intro @Lt0 (And.intro @Lds @Lg0)) (And.intro @Lgs (And.intro @Nza @Naz))) (And.intro (And.intro @ON (And.intro @OO @qE)) (And.intro @qF (And.intro @oE @qG))))) (And.intro (And.intro (And.intro (And.intro @mH (And.intro @pY @OQ)) (And.intro @tf (And.intro @qH @Bq))) (And.intro (And.intro @Bp (And.intro @Br @OZ)) (And.intro @O0 (And.intro @O1 @Ev)))) (And.intro (And.intro (And.intro @Ew (And.intro @Ey @Bs)) (And.intro @kS (And.intro @nQ @Ki))) (And.intro (And.intro @gO (And.intro @qI @VZ)) (And.intro @V0 (And.intro @V3 @V4)))))))
theorem Wx:type_of% (And.intro (And.intro (And.intro @Lac @Lan) (And.intro @J_ (And.intro @Es @Ka))) (And.intro (And.intro @Kb (And.intro @Kc @Kd)) (And.intro @Ke (And.intro @Kf @V5)))):=(And.intro (And.intro (And.intro @Lac @Lan) (And.intro @J_ (And.intro @Es @Ka))) (And.intro (And.intro @Kb (And.intro @Kc @Kd)) (And.intro @Ke (And.intro @Kf @V5))))
theorem Wy:type_of% (And.intro (And.intro @qE (And.intro @qF @oE)) (And.intro (And.intro @qG @mH) (And.intro @Llc @Lln))):=(And.intro (And.intro @qE (And.intro @qF @oE)) (And.intro (And.intro @qG @mH) (And.intro @Llc @Lln)))
theorem Wv:type_of% (And.intro @Llc @Lln):=(And.intro @Llc @Lln)
theorem Wz0(b:Nat):aq b=.pointer (some ⟨b,0,none⟩):=id rfl
theorem Wz1(n c b:Nat):bU n c b=.slice (some ⟨b,0,none⟩) n c:=id rfl
theorem V9(v : Value)(h : af):XY v h = some v := id rfl
theorem Wz:type_of% (And.intro (And.intro @Wz0 @Wz1) (And.intro @V9 Wz2)):=And.intro (And.intro @Wz0 @Wz1) (And.intro @V9 Wz2)
theorem Wd:type_of% (And.intro Wx Wy):=And.intro Wx Wy
theorem Y{P : Prop}(h : P := by first|omega|simp only[Wd]<;>omega|rfl):P := h
theorem QQ{P : Prop}(h : P := by first|omega|simp only[Wd]<;>omega|with_unfolding_all rfl):P := h
end Go.Vai

namespace Go.Vai
open Go Go.RowKit
section
variable {α:Type}{s:Nat}{enc:α->List Value}
def Cut(e s:Nat)(h:af)(v:Value)(k:Nat):Prop:=
 (k=0/\v=.slice none 0 0)\/(k=0/\∃b o,v=.slice (some ⟨b,o,none⟩) 0 fZ)\/
 (∃b o cap,v=.slice (some ⟨b,o,none⟩) k cap/\k<=cap/\cap<=9223372036854775807)\/
 ∃b vs n,v=.slice (some ⟨b,0,none⟩) k aW/\b<h.nx/\h.bl.get b=some (ai vs e true)/\vs.length=n*s/\k<=n
theorem Cut.le{e s:Nat}{h h':af}{v:Value}{k:Nat}(c:Cut e s h v k)(l:Le h h'):Cut e s h' v k:=by
 rcases c with c|c|c|⟨b,vs,n,c1,c2,c3,c4,c5⟩
 .exact .inl c
 .exact .inr (.inl c)
 .exact .inr (.inr (.inl c))
 .exact .inr (.inr (.inr ⟨b,vs,n,c1,Nat.lt_of_lt_of_le c2 l.nx,(l.get b c2).trans c3,c4,c5⟩))
theorem Cut.own{a h:af}{e:TypeId}{v:Value}{L:List α}(he:∀a:α,(enc a).length=s)(ho:ia enc a e h v L):Cut e s h v L.length:=by
 rcases ho with⟨rfl,rfl|⟨b,o,rfl⟩⟩|⟨b,rfl,h1,h2,h3,h4⟩
 .exact .inl ⟨rfl,rfl⟩
 .exact .inr (.inr (.inl ⟨b,o,0,rfl,Nat.le_refl _,XQ⟩))
 .exact .inr (.inr (.inr ⟨b,_,L.length,rfl,h2,h4,bz he L,Nat.le_refl _⟩))
theorem oF(he:∀a:α,(enc a).length=s)(L:List α):∀i,(L.flatMap enc).take (i*s)=(L.take i).flatMap enc:=by
 induction L with
 |nil=>intro i;simp
 |cons a L ih=>
  intro i;cases i with
  |zero=>simp
  |succ i=>
   simp only[List.flatMap_cons,List.take_succ_cons];rw[List.take_append,<-ih i,he,List.take_of_length_le (by rw[he,Nat.succ_mul];omega),show(i+1)*s-s=i*s by rw[Nat.succ_mul];omega]
end
end Go.Vai

namespace Go.Vai
open Go Go.RowKit
open Classical
variable {P:Program}
def Kj(w:World)(B:Nat):Prop:=∃C e fz,w.heap[B]? = some (.cells C e fz)
def oR(w:World)(v:Value):Prop:=
 jP v=true\/v=.slice none 0 0\/(∃a c,v=.slice (some a) 0 c)\/∃B o n c,v=.slice (some ⟨B,o,none⟩) n c/\n<=c/\c<=maxLen/\Kj w B
def mX:Value->Value
 | .slice (some a) 0 c=>.slice (some ⟨0,0,none⟩) 0 fZ
 |v=>v
def goodA(w:World):Value->Prop
 | .agg cs=>∀v∈cs.toList,oR w v
 |v=>oR w v
def absA:Value->Value
 | .agg cs=>.agg ⟨cs.toList.map mX⟩
 |v=>mX v
theorem Bt{v:Value}(h:jP v=true):mX v=v:=by cases v<;>first|rfl|cases h
def AE(w:World):dV:=λb=>if Kj w b then some ⟨b,0,0⟩else none
def AF(w:World)(v:Value)(t:T Value)(o:Nat):T Value:=if oR w v then t.bq o (mX v)else t
theorem Kk(w:World)(v:Value)(t:T Value){o i:Nat}(h:o≠i):(AF w v t o).get i=t.get i:=by
 unfold AF;by_cases hg:oR w v
 .rw[if_pos hg];exact T.ax _ _ h
 .rw[if_neg hg]
theorem Bu{w:World}{v:Value}(hg:oR w v)(t:T Value)(o:Nat):(AF w v t o).get o=some (mX v):=by
 unfold AF;rw[if_pos hg];exact T.au _ _ _
theorem O2{w:World}{v:Value}(hg:¬oR w v)(t:T Value)(o:Nat):(AF w v t o)=t:=by
 unfold AF;rw[if_neg hg]
def nR(w:World):List Value->T Value->Nat->T Value
 | [],t,_=>t
 |v::vs,t,o=>nR w vs (AF w v t o) (o+1)
theorem Bv(w:World)(vs:List Value):∀(t:T Value)(o i:Nat),i<o->(nR w vs t o).get i=t.get i:=by
 induction vs with
 |nil=>intro t o i _;rfl
 |cons v vs ih=>
  intro t o i h
  show(nR w vs (AF w v t o) (o+1)).get i=_
  rw[ih _ _ _ XQ,Kk _ _ _ XQ]
theorem Ir(w:World)(vs:List Value):∀(t:T Value)(o i:Nat)(v:Value),vs[i]? = some v->oR w v->(nR w vs t o).get (o+i)=some (mX v):=by
 induction vs with
 |nil=>intro t o i v h;simp at h
 |cons u vs ih=>
  intro t o i v h hg
  show(nR w vs (AF w u t o) (o+1)).get _=_
  cases i with
  |zero=>
   simp only[List.getElem?_cons_zero,Option.some.injEq]at h;subst h;rw[Bv _ _ _ _ _ XQ];exact Bu hg _ _
  |succ i=>
   rw[show o+(i+1)=(o+1)+i by omega];exact ih _ _ _ _ (by simpa using h) hg
theorem Is(w:World)(vs:List Value):∀(t:T Value)(o i:Nat)(u:Value),(∀j,o<=j->t.get j=none)->(nR w vs t o).get (o+i)=some u->∃v,vs[i]? = some v/\oR w v/\u=mX v:=by
 induction vs with
 |nil=>intro t o i u ht h;rw[show(nR w [] t o)=t from rfl,ht _ XQ]at h;cases h
 |cons x vs ih=>
  intro t o i u ht h;have h:(nR w vs (AF w x t o) (o+1)).get (o+i)=some u:=h;cases i with
  |zero=>
   rw[Bv _ _ _ _ _ XQ]at h;by_cases hg:oR w x
   .rw[Nat.add_zero,Bu hg]at h;cases h;exact⟨x,rfl,hg,rfl⟩
   .rw[O2 hg,ht _ XQ]at h;cases h
  |succ i=>
   rw[show o+(i+1)=(o+1)+i by omega]at h;obtain⟨v,h1,h2,h3⟩:=ih _ _ _ _ (λj hj=>by rw[Kk _ _ _ XQ];exact ht j XQ) h;exact⟨v,by simpa using h1,h2,h3⟩
def AG(w:World):Nat->T bL
 |0=>.nil
 |n+1=>match w.heap[n]? with
  |some (.cells C e _)=>(AG w n).bq n (.ro C.size (nR w C.toList .nil 0) e)
  |_=>AG w n
theorem EB(w:World):∀n b,(AG w n).get b=if b<n then(match w.heap[b]? with|some (.cells C e _)=>some (.ro C.size (nR w C.toList .nil 0) e)|_=>none)else none:=by
 intro n
 induction n with
 |zero=>intro b;rw[if_neg XQ];exact T.get_nil _
 |succ n ih=>
  intro b;unfold AG;by_cases h0:n=b
  .subst h0;rw[if_pos XQ];split
   .rw[T.au]
   .rw[ih,if_neg XQ]
  ·have:(match w.heap[n]? with|some (.cells C e _)=>(AG w n).bq n (.ro C.size (nR w C.toList .nil 0) e)|_=>AG w n).get b=(AG w n).get b:=by
    split
    .exact T.ax _ _ h0
    .rfl
   rw[this,ih];by_cases h1:b<n
   .rw[if_pos h1,if_pos XQ]
   .rw[if_neg h1,if_neg XQ]
def memH(w:World):af:=⟨w.heap.size,AG w w.heap.size,w.heap.size⟩
theorem EC{w:World}{B:Nat}{C:Array Value}{e:TypeId}{fz:Nat × Nat}(h:w.heap[B]? = some (.cells C e fz)):(memH w).bl.get B=some (.ro C.size (nR w C.toList .nil 0) e):=by
 have hB:B<w.heap.size:=(Array.getElem?_eq_some_iff.1 h).1
 show(AG w _).get B=_
 rw[EB,if_pos hB,h]
theorem qJ{w:World}{b:Nat}{o:bL}(h:(memH w).bl.get b=some o):∃C e fz,w.heap[b]? = some (.cells C e fz)/\o=.ro C.size (nR w C.toList .nil 0) e:=by
 have h:(AG w _).get b=some o:=h;rw[EB]at h;split at h
 .split at h
  .cases h;exact⟨_,_,_,by assumption,rfl⟩
  .cases h
 .cases h
theorem Cx{w:World}{v:Value}(h:oR w v):VR (AE w) (mX v) v:=by
 rcases h with h|rfl|⟨a,c,rfl⟩|⟨B,o,n,c,rfl,hn,hc,hB⟩
 .rw[Bt h];exact VR.nu h
 .exact VR.fD (Nat.le_refl _)
 .exact VR.cU _ _ _
 .cases n with
  |zero=>exact VR.cU _ _ _
  |succ n=>
   have hp:AE w B=some ⟨B,0,0⟩:=if_pos hB;exact VR.slice hp hn (by unfold maxLen at hc;unfold aW;omega)
theorem Tt{w:World}{v:Value}(h:goodA w v):VR (AE w) (absA v) v:=by
 cases v with
 |agg cs=>
  refine VR.rM ?_
  show F2 (VR (AE w)) (cs.toList.map mX) cs.toList
  have:F2 (VR (AE w)) (cs.toList.map mX) (cs.toList.map id):=F2.map cs.toList λx hx=>Cx (h x hx)
  rwa [List.map_id]at this
 |_=>exact Cx h
theorem ada(w:World):HR P (AE w) (memH w) w:=by
 have dom:∀b pl,AE w b=some pl->pl=⟨b,0,0⟩/\Kj w b:=by
  intro b pl h;unfold AE at h;split at h
  .cases h;exact⟨rfl,by assumption⟩
  .cases h
 have lt:∀b,Kj w b->b<w.heap.size:=λb ⟨C,e,fz,h⟩=>(Array.getElem?_eq_some_iff.1 h).1;refine⟨?_,?_,?_,Nat.lt_succ_self _,?_,Nat.le_refl _⟩
 .intro b o pl h1 h2;obtain⟨rfl,_⟩:=dom b pl h2;obtain⟨C,e,fz,h3,rfl⟩:=qJ h1;rw[h3];refine⟨rfl,Nat.le_refl _,λi v hv hi=>?_⟩;obtain⟨u,h4,h5,rfl⟩:=Is w C.toList .nil 0 i v (λj _=>T.get_nil _) (by rw[Nat.zero_add];exact hv);rw[Array.getElem?_toList]at h4;exact⟨u,h4,Cx h5⟩
 .intro b pl h;obtain⟨rfl,h2⟩:=dom b pl h;exact⟨lt b h2,lt b h2⟩
 .intro b o _ h;obtain⟨C,e,fz,h3,_⟩:=qJ h;exact lt b ⟨C,e,fz,h3⟩
 .intro b b' o o' pl kW _ _ _ _ h1 h2 h3;obtain⟨rfl,_⟩:=dom b pl h1;obtain⟨rfl,_⟩:=dom b' kW h2;exact h3
theorem law_mem{f:FuncId}{args:List Value}{w:World}(hg:∀v∈args,goodA w v)(hc:(memH w).lo<=(memH w).nx->aj P f (args.map absA) (memH w) Cv):Calls P f args.toArray w λe w'=>e=.returned (.bool true)/\Below w.heap.size w w':=by
 have ha:F2 (VR (AE w)) (args.map absA) (args.map id):=F2.map args λx hx=>Tt (hg x hx);rw[List.map_id]at ha;refine Tq (hc (Nat.le_refl _)) ha (ada w) ?_;intro b pl h;unfold AE at h;split at h
 .rename_i hm;obtain⟨C,e,fz,h3⟩:=hm;exact⟨(Array.getElem?_eq_some_iff.1 h3).1,_,EC h3,trivial⟩
 .cases h
section
variable {α:Type}{de:α->List Value}{s:Nat}
theorem kI.good{w:World}{v:Value}{L:List α}(hv:kI de w v L):oR w v:=by
 rcases hv with⟨rfl,rfl|⟨a,cap,rfl⟩⟩|⟨B,o,cap,C,e,fz,rfl,hl,hm,hC,hle,hcell⟩
 .exact .inr (.inl rfl)
 .exact .inr (.inr (.inl ⟨a,cap,rfl⟩))
 .exact .inr (.inr (.inr ⟨B,o,_,cap,rfl,hl,hm,C,e,fz,hC⟩))
theorem kI.abs{w:World}{v:Value}{L:List α}(hv:kI de w v L)(hg:∀a∈L,∀u∈de a,oR w u):Sl (λa=>(de a).map mX) (memH w) (mX v) L/\∀e,Cut e s (memH w) (mX v) L.length:=by
 rcases hv with⟨rfl,rfl|⟨a,cap,rfl⟩⟩|⟨B,o,cap,C,e,fz,rfl,hl,hm,hC,hle,hcell⟩
 .exact⟨Sl.nil _ _ _,λe=>.inl ⟨rfl,rfl⟩⟩
 .exact⟨Sl.nil _ _ _,λe=>.inr (.inl ⟨rfl,0,0,rfl⟩)⟩
 .cases hL:L with
  |nil=>exact⟨Sl.nil _ _ _,λe=>.inr (.inl ⟨rfl,0,0,rfl⟩)⟩
  |cons x L'=>
   have e1:mX (.slice (some ⟨B,o,none⟩) L.length cap)=.slice (some ⟨B,o,none⟩) L.length cap:=by rw[hL];rfl
   rw[<-hL,e1];refine⟨⟨_,cap,rfl,λ_=>⟨B,o,rfl,(Array.getElem?_eq_some_iff.1 hC).1,?_⟩⟩,λe=>.inr (.inr (.inl ⟨B,o,cap,rfl,hl,by unfold maxLen at hm;omega⟩))⟩;rw[EC hC];have efl:L.flatMap (λa=>(de a).map mX)=(L.flatMap de).map mX:=by rw[List.map_flatMap]
   rw[efl];refine⟨C.size,_,e,.inl rfl,by rw[List.length_map];exact hle,λj u hj=>?_⟩;rw[List.getElem?_map,Option.map_eq_some_iff]at hj;obtain⟨u',h1,rfl⟩:=hj;have h2:=hcell j u' h1;have hm:=List.mem_of_getElem? h1;rw[List.mem_flatMap]at hm;obtain⟨a,ha,hu⟩:=hm;have:=Ir w C.toList .nil 0 (o+j) u' (by rw[Array.getElem?_toList];exact h2) (hg a ha u' hu)
   rwa [Nat.zero_add]at this
theorem O3{l:List Value}(h:l.all jP=true):l.map mX=l:=by
 induction l with
 |nil=>rfl
 |cons a l ih=>simp only[List.all_cons,Bool.and_eq_true]at h;rw[List.map_cons,Bt h.1,ih h.2]
theorem kI.adb{w:World}{v:Value}{L:List α}(hv:kI de w v L)(hone:∀a:α,(de a).all jP=true):Sl de (memH w) (mX v) L/\∀e,Cut e s (memH w) (mX v) L.length:=by
 have:=hv.abs (s:=s) λa _ u hu=>.inl (List.all_eq_true.1 (hone a) u hu);have e:(λa=>(de a).map mX)=de:=by funext a;exact O3 (hone a)
 rwa [e]at this
end
end Go.Vai

namespace Go.Vai
open Go Go.RowKit Go.WideShapes Go.ChangeShapes
variable {P:Program}
inductive CK where
 |i (k:IntKind)
 |b
 |s
 |sl (t:TypeId)
def Cy(P:Program)(fl:TypeId->Option (List CK)):List Field->Nat->Option (List CK)
 | [],_=>some []
 |f::fs,off=>match fl f.type with
  |some l=>match Nat.beq f.offset off,Nat.beq (P.cellsOf f.type) l.length with
   |true,true=>match Cy P fl fs (off+l.length)with
    |some r=>some (l++r)
    |none=>none
   |_,_=>none
  |none=>none
def flatK(P:Program):Nat->TypeId->Option (List CK)
 |0,_=>none
 |n+1,t=>match P.underlying t with
  |some (.int k)=>some [.i k]
  |some .bool=>some [.b]
  |some .string=>some [.s]
  |some (.slice _)=>some [.sl t]
  |some (.struct fs)=>match Cy P (flatK P n) fs.toList 0 with
   |some l=>match Nat.beq (P.cellsOf t) l.length with
    |true=>some l
    |false=>none
   |none=>none
  |_=>none
section
variable {H:Type}{enc:TypeId × Value->H}{w:World}
def Xz(enc:TypeId × Value->H)(P:Program)(w:World)(k:CK)(v:Value):Prop:=match k with
 | .i kk=>∃n,v=.int kk n/\(Lit.int kk n).wf=true
 | .b=>∃b,v=.bool b
 | .s=>∃s,v=.string s
 | .sl t=>∃fuel x,DataW.trod enc P w 0 (λ_=>true) true fuel t [v]=some x
theorem Tu{fl:TypeId->Option (List CK)}(ih:∀t ks,fl t=some ks->∀fuel cs x,DataW.trod enc P w 0 (λ_=>true) true fuel t cs=some x->F2 (Xz enc P w) ks cs)(m:Nat)(cs:List Value):∀(fs:List Field)(off:Nat)(r:List CK),Cy P fl fs off=some r->(∀f∈fs,∃x,DataW.trod enc P w 0 (λ_=>true) true m f.type ((cs.drop f.offset).take (P.cellsOf f.type))=some x)->
   off+r.length=cs.length->F2 (Xz enc P w) r (cs.drop off):=by
 intro fs
 induction fs with
 |nil=>
  intro off r h _ hl;cases h;rw[List.drop_of_length_le (by simp at hl;omega)];exact .nil
 |cons f fs ihf=>
  intro off r h hf hl;unfold Cy at h;split at h<;>try contradiction
  rename_i l pE;split at h<;>try contradiction
  rename_i h1 h2;split at h<;>try contradiction
  rename_i r' hr;cases h;have h1:=cw h1;have h2:=cw h2;obtain⟨x,hx⟩:=hf f (.head _);have k1:=ih _ _ pE _ _ _ hx;rw[h1,h2]at k1;rw[List.length_append]at hl;have k2:=ihf (off+l.length) r' hr (λg hg=>hf g (.tail _ hg)) XQ;have e:cs.drop off=(cs.drop off).take l.length++cs.drop (off+l.length):=by
   rw[<-List.drop_drop,List.take_append_drop]
  rw[e];exact k1.append k2
theorem O4:∀(n:Nat)(t:TypeId)(ks:List CK),flatK P n t=some ks->∀fuel cs x,DataW.trod enc P w 0 (λ_=>true) true fuel t cs=some x->F2 (Xz enc P w) ks cs:=by
 intro n
 induction n with
 |zero=>intro t ks h;cases h
 |succ n ih=>
  intro t ks h fuel cs x hx;unfold flatK at h;split at h
  .rename_i k hu;cases h;obtain⟨n,rfl,_,hwf⟩:=DataW.trod_int hu hx;exact .cons ⟨n,rfl,hwf⟩ .nil
  .rename_i hu;cases h;obtain⟨n,rfl,_⟩:=DataW.trod_bool hu hx;exact .cons ⟨n,rfl⟩ .nil
  .rename_i hu;cases h;obtain⟨n,rfl,_⟩:=DataW.trod_string hu hx;exact .cons ⟨n,rfl⟩ .nil
  ·rename_i e hu;cases h;have:∃v,cs=[v]:=by
    rcases DataW.trod_slice hu hx with h|h
    .exact⟨_,h.1⟩
    .obtain⟨a,len,cap,_,_,_,_,h,_⟩:=h;exact⟨_,h⟩
   obtain⟨v,rfl⟩:=this;exact .cons ⟨fuel,x,hx⟩ .nil
  .rename_i fs hu;split at h<;>try contradiction
   rename_i l hl;split at h<;>try contradiction
   rename_i hc;cases h;have hc:=cw hc;obtain⟨xs,m,_,_,oS,hlen,hf⟩:=DataW.trod_struct hu hx;have key:=Tu ih m cs fs.toList 0 ks hl (λf hf'=>?_) XQ
   .rw[List.drop_zero]at key;exact key
   .obtain⟨i,hi,rfl⟩:=List.getElem_of_mem hf';have h1:=hf i (fs.toList[i]) (by simp at hi ⊢);obtain⟨y,hy⟩:∃y,xs[i]? = some y:=⟨_,List.getElem?_eq_getElem (by simp at hi;omega)⟩
    rw[hy]at h1;exact⟨y,h1⟩
  .cases h
theorem F2.O5{α γ:Type}{R:α->γ->Prop}{a:α}{l:List α}{m:List γ}(h:F2 R (a::l) m):∃b m',m=b::m'/\R a b/\F2 R l m':=by
 cases h with
 |cons h t=>exact⟨_,_,rfl,h,t⟩
theorem F2.ade{α γ:Type}{R:α->γ->Prop}{m:List γ}(h:F2 R [] m):m=[]:=by cases h;rfl
end
section
variable {α:Type}{de:α->List Value}{s:Nat}
theorem kI.absA{w:World}{v:Value}{L:List α}(hv:kI de w v L):Go.Vai.absA v=mX v:=by
 rcases hv with⟨rfl,rfl|⟨a,cap,rfl⟩⟩|⟨B,o,cap,C,e,fz,rfl,_⟩<;>rfl
theorem kI.goodA{w:World}{v:Value}{L:List α}(hv:kI de w v L):Go.Vai.goodA w v:=by
 have h:=hv.good;rcases hv with⟨rfl,rfl|⟨a,cap,rfl⟩⟩|⟨B,o,cap,C,e,fz,rfl,_⟩<;>exact h
theorem kI.read{w:World}{v:Value}{L:List α}(hv:kI de w v L)(hone:∀a:α,(de a).all jP=true):Sl de (memH w) (Go.Vai.absA v) L:=by
 rw[hv.absA];exact(hv.adb (s:=1) hone).1
theorem kI.cut{w:World}{v:Value}{L:List α}(hv:kI de w v L)(hone:∀a:α,(de a).all jP=true){e:TypeId}{s:Nat}:Cut e s (memH w) (Go.Vai.absA v) L.length:=by
 rw[hv.absA];exact(hv.adb (s:=s) hone).2 e
theorem goodA_int{w:World}{k:IntKind}{n:Int}:goodA w (.int k n):=.inl rfl
end
end Go.Vai

namespace Go.Vai
open Go Go.RowKit
section
variable {α:Type}{s:Nat}{enc:α->List Value}
theorem oG(he:∀a:α,(enc a).length=s)(L:List α):∀i,(L.flatMap enc).drop (i*s)=(L.drop i).flatMap enc:=by
 induction L with
 |nil=>intro i;simp
 |cons a L ih=>
  intro i;cases i with
  |zero=>simp
  |succ i=>
   simp only[List.flatMap_cons,List.drop_succ_cons];rw[List.drop_append,<-ih i,he,List.drop_of_length_le (by rw[he,Nat.succ_mul];omega),show(i+1)*s-s=i*s by rw[Nat.succ_mul];omega];rfl
theorem ym{β:Type}{fl:β}{len lim cap i:Nat}(hi:i<=len)(hl:len<=lim)(V:Nat->Nat->Nat->β):iJ fl len lim cap (some (.int .i64 (i:Int))) none none V=V i len cap:=by
 have e1:Nat.ble i len=true:=Nat.ble_eq_true_of_le hi;have e2:Nat.ble len lim=true:=Nat.ble_eq_true_of_le hl;unfold iJ;simp only[yj,uU,e1,e2]
end
end Go.Vai
end
