/-
  PROVED HERE: a part of the proof (VaiS15, VaiS16, VaiS17, VaiS18, VaiK, VaiW, VaiW2, VaiL, VaiM, VaiN, VaiZ, VaiO, VaiQ, VaiT, VaiU, VaiV).
-/
import Derived.Test.YtfkonofjdimjbaaGreatDoorG1
import Derived.RowKit3
import Derived.ChangeSame
import Derived.Below
import Derived.Deep.Slices
import Derived.Carry
import Derived.ProofKit
set_option linter.unusedVariables false
set_option linter.unusedSimpArgs false
noncomputable section
namespace Go.Vai
open Go
variable {β:Type}{fl:β}{good:β->Prop}{pr:mA β}{P:Program}{φ:eW}{h h':af}{w:World}{t:TypeId}
theorem Fy:∀(os:List Oper)(n k:Nat)(q:Oper),os[k]? = some q->(n+k,q)∈f_ os n:=by
 intro os
 induction os with
 |nil=>intro n k q h;simp at h
 |cons o os ih=>
  intro n k q h;cases k with
  |zero=>simp at h;subst h;exact List.mem_cons_self
  |succ k=>
   simp at h;have:=ih (n+1) k q h;rw[show n+(k+1)=n+1+k by omega];exact List.mem_cons_of_mem _ this
theorem dN(D i k:Nat):bit (gf D i) k=(bit D k || decide (i=k)):=by
 show Nat.testBit (D ||| 2 ^ i) k=_
 rw[Nat.testBit_or,Nat.testBit_two_pow];rfl
theorem aaq(D M k:Nat):bit (Nat.lor D M) k=(bit D k || bit M k):=Nat.testBit_or ..
theorem Fz(k:Nat):bit 0 k=false:=Nat.zero_testBit k
theorem qO{op:Op}{x:YA}(h:iT P op=.rd x):qi none P op=some x:=by
 unfold iT at h;split at h<;>try contradiction
 split at h
 .rename_i e;cases h;exact e
 .split at h<;>contradiction
theorem zA{op:Op}{x:OXA}(h:iT P op=.al x):sn none P op=some x:=by
 unfold iT at h;split at h<;>try contradiction
 split at h<;>try contradiction
 split at h<;>try contradiction
 rename_i e;cases h;exact e
structure Stat(P:Program)(ops:Array Oper)(i:Nat)(o:Oper):Prop where
 k1:∀j q,ops[j]? = some q->h_ P q=false->∀t∈dx ops.toList o,q.dst=some t->j∈cT o
 k2:h_ P o=false->∀j q,ops[j]? = some q->j≠i->h_ P q=false->∀d,o.dst=some d->q.dst≠some d
theorem FA{ops:Array Oper}{j:Nat}{q:Oper}(h:ops[j]? = some q):(j,q)∈f_ ops.toList 0:=by
 have:=Fy ops.toList 0 j q (by rw[Array.getElem?_toList];exact h);simpa using this
theorem wH{o:Oper}{t:Nat}:Cf o t=true<->o.dst=some t:=by
 unfold Cf;cases o.dst with
 |none=>simp
 |some d=>simp
theorem td{ops:Array Oper}{D M i:Nat}{o:Oper}(h:Vm P ops.toList (f_ ops.toList 0) D M i o=true):bit D i=false/\(∀e∈cT o,bit D e=true)/\(∃g,guardOf ops.toList o=some g)/\Stat P ops i o/\
  (h_ P o=true->(∀k q,ops[k]? = some q->k≠i->bit D k=false->qG D q=false)/\
   ∀k q,ops[k]? = some q->bit D k=true->h_ P q=false->bit M k=false->∀d,o.dst=some d->q.dst≠some d/\d∉dx ops.toList q):=by
 unfold Vm at h;simp only[Bool.and_eq_true]at h;obtain⟨⟨⟨⟨h1,h2⟩,h3⟩,h4⟩,h5⟩:=h;simp only[List.all_eq_true]at h4;refine⟨by simpa using h1,?_,Option.isSome_iff_exists.mp h3,⟨?_,?_⟩,?_⟩
 .simpa[qG,List.all_eq_true]using h2
 .intro j q hq hw t ht hd;have:=h4 _ (FA hq);simp only[Bool.or_eq_true]at this;rcases this with(this|this)|this
  .rw[hw]at this;cases this
  .have hx:(dx ops.toList o).any (Cf q)=true:=List.any_eq_true.mpr ⟨t,ht,wH.mpr hd⟩;rw[hx]at this;cases this
  .simpa using this
 .intro hw j q hq hji QM d hd hqd;rw[hw]at h5;simp only[List.all_eq_true]at h5;have:=h5 _ (FA hq);simp only[Bool.or_eq_true]at this;rcases this with(this|this)|this
  .exact hji (by simpa using this)
  .rw[QM]at this;cases this
  .rw[hd]at this;simp[wH.mpr hqd]at this
 .intro hw;rw[hw]at h5;simp only[Bool.and_eq_true,List.all_eq_true]at h5;refine⟨?_,?_⟩
  .intro k q hq hki hk;have:=h5.1 _ (FA hq);simp only[Bool.or_eq_true]at this;rcases this with(this|this)|this
   .exact absurd (by simpa using this) hki
   .rw[hk]at this;cases this
   .simpa using this
  .intro k q hq hk QM hm d hd;have:=h5.2 _ (FA hq);simp only[Bool.or_eq_true]at this;rcases this with((this|this)|this)|this
   .rw[hk]at this;cases this
   .rw[QM]at this;cases this
   .rw[hm]at this;cases this
   .rw[hd]at this;simp only[Bool.and_eq_true]at this;refine⟨λe=>?_,λhmem=>?_⟩
    .rw[wH.mpr e]at this;simp at this
    .have hx:(dx ops.toList q).any (Nat.beq d)=true:=List.any_eq_true.mpr ⟨d,hmem,by simp⟩;rw[hx]at this;simp at this
theorem FC{ops:Array Oper}{o:Oper}{s:Nat}{b:Bool}(hg:guardOf ops.toList o=some (some (s,b))):s∈dx ops.toList o:=by
 unfold guardOf at hg;split at hg
 .cases hg
 rename_i j w hgu;split at hg<;>try contradiction
 rename_i hq;cases hg;simp only[dx,hgu,List.mem_append];right;rw[hq];simp
theorem sH{os:List Oper}{o:Oper}{t:Nat}(h:Operand.tmp t∈o.op.operands.toList):t∈dx os o:=by
 simp only[dx,List.mem_append,List.mem_filterMap];exact .inl ⟨_,h,rfl⟩
theorem qP{os:List Oper}{o:Oper}{tm dy:T Value}(h:∀t∈dx os o,eo dy t=eo tm t):∀y∈o.op.operands.toList,fZ dy y=fZ tm y:=by
 intro y hy;cases y with
 |tmp t=>exact h t (sH hy)
 |_=>rfl
theorem oR{ops:Array Oper}{o:Oper}{g:Option (Nat × Bool)}(hg:guardOf ops.toList o=some g){tm dy:T Value}(h:∀t∈dx ops.toList o,eo dy t=eo tm t):jt dy g=jt tm g:=by
 cases g with
 |none=>rfl
 |some p=>obtain⟨s,b⟩:=p;simp only[jt,h s (FC hg)]
def QN(P:Program)(ops:Array Oper)(own:Nat->Option Nat)(h0:af)(φ:eW)(h:af)(tm:T Value)(i:Nat)(o:Oper):Prop:=
 ∃g,guardOf ops.toList o=some g/\(jt tm g=false->∀d,o.dst=some d->eo tm d=undef)/\
  (jt tm g=true->match iT P o.op with
   | .rd x=>∃v,lF x tm h=some v/\∀d,o.dst=some d->eo tm d=v
   | .al x=>∃n ob mk,own n=some i/\ze x tm=some (ob,mk)/\h.bl.get n=some ob/\φ n=none/\n<h.nx/\h0.nx<=n/\∀d,o.dst=some d->eo tm d=mk n
   | .wr=>False)
theorem QN.keep{ops:Array Oper}{own tf:Nat->Option Nat}{h0:af}{φ':eW}{tm dy:T Value}{i:Nat}{o:Oper}(hp:QN P ops own h0 φ h tm i o)(hl:∀t∈dx ops.toList o,eo dy t=eo tm t)(hd:∀d,o.dst=some d->eo dy d=eo tm d)(hrd:∀x v g,iT P o.op=.rd x->guardOf ops.toList o=some g->jt dy g=true->lF x tm h=some v->(∀d,o.dst=some d->eo dy d=v)->∃v',lF x dy h'=some v'/\∀d,o.dst=some d->eo dy d=v')(hal:∀n ob,own n=some i->h.bl.get n=some ob->φ n=none->n<h.nx->h0.nx<=n->tf n=some i/\h'.bl.get n=some ob/\φ' n=none/\n<h'.nx):QN P ops tf h0 φ' h' dy i o:=by
 obtain⟨g,hg,h1,h2⟩:=hp;have hw:=oR hg hl;refine⟨g,hg,λhf d EX=>by rw[hd d EX];exact h1 (hw▸hf) d EX,λht=>?_⟩;have h2:=h2 (hw▸ht);cases hc:iT P o.op with
 |rd x=>
  rw[hc]at h2;obtain⟨v,k1,k2⟩:=h2;exact hrd x v g hc hg ht k1 λd EX=>by rw[hd d EX];exact k2 d EX
 |al x=>
  rw[hc]at h2;obtain⟨n,ob,mk,k1,k2,k3,k4,k5,k6,k7⟩:=h2;obtain⟨j1,j2,j3,j4⟩:=hal n ob k1 k3 k4 k5 k6;refine⟨n,ob,mk,j1,?_,j2,j3,j4,k6,λd EX=>by rw[hd d EX];exact k7 d EX⟩;unfold ze at *
  rw[XA.congr (λy hy=>qP hl y (Co (zA hc) y hy))];exact k2
 |wr=>rw[hc]at h2;exact h2.elim
abbrev oq(listed:Array Bool)(i:Nat):Prop:=listed.getD i false=true
structure Inv(P:Program)(ops:Array Oper)(nt:Nat)(φ0:eW)(h0:af)(w0:World)(ds:List Deferred)(lR:T Value)(listed:Array Bool)(D M:Nat)(tm:T Value)(h:af)(own:Nat->Option Nat)(φ:eW)(a:Act)(w:World):Prop where
 YL:listed.size=ops.size
 sub:∀i,oq listed i->bit D i=true
 clo:∀i o,ops[i]? = some o->oq listed i->∀e∈cT o,oq listed e
 wr:∀i o,ops[i]? = some o->bit D i=true->h_ P o=true->oq listed i
 mS:∀i,bit M i=true->oq listed i
 st:∀i o,ops[i]? = some o->bit D i=true->Stat P ops i o/\∀e∈cT o,bit D e=true
 small:nt<=1000000000000
 size:a.tmps.size=nt
 rel:∀t,t<nt->(∀i o,ops[i]? = some o->bit D i=true->¬oq listed i->o.dst≠some t)->VR φ (eo tm t) (a.tmps.getD t undef)
 hr:HR P φ h w
 ext:Ext φ0 φ h0 h w0 w
 dfs:a.defers=ds
 mj:∀i o,ops[i]? = some o->bit D i=true->¬oq listed i->QN P ops own h0 φ h tm i o
 keep:∀t,t<nt->(∀(i:Nat)(o:Oper),ops[i]? = some o->o.dst≠some t)->eo tm t=eo lR t
section
variable {ops:Array Oper}{nt:Nat}{φ0:eW}{h0:af}{w0:World}{ds:List Deferred}{listed:Array Bool}{D M:Nat}{tm lR:T Value}{own:Nat->Option Nat}{a:Act}
theorem Inv.ahead(inv:Inv P ops nt φ0 h0 w0 ds lR listed D M tm h own φ a w)(hok:∀q∈ops.toList,fU nt q=true){i:Nat}{o:Oper}(ho:ops[i]? = some o)(hD:bit D i=false)(UX:∀e∈cT o,bit D e=true)(hst:Stat P ops i o)(hw:h_ P o=false){v:Value}{h':af}{tf:Nat->Option Nat}(hr':HR P φ h' w)(hx':Ext φ0 φ h0 h' w0 w)(hm:BM h h')(hnx:h.nx<=h'.nx)(hown:∀n,n<h.nx->tf n=own n)(hpe:QN P ops tf h0 φ h' (jV tm o.dst v) i o):Inv P ops nt φ0 h0 w0 ds lR listed (gf D i) M (jV tm o.dst v) h' tf φ a w:=by
 have hmem:o∈ops.toList:=List.mem_of_getElem? (by rw[Array.getElem?_toList];exact ho);have LX:¬oq listed i:=λhs=>by rw[inv.sub i hs]at hD;cases hD
 have qQ:=dY (hok o hmem);refine⟨inv.YL,?_,inv.clo,?_,inv.mS,?_,inv.small,inv.size,?_,hr',hx',inv.dfs,?_,λt ht hno=>by rw[iA inv.small qQ ht,if_neg (hno i o ho)];exact inv.keep t ht hno⟩
 .intro k hk;rw[dN,inv.sub k hk];rfl
 .intro k q hq hk hkw;rw[dN,Bool.or_eq_true]at hk;rcases hk with hk|hk
  .exact inv.wr k q hq hk hkw
  .have hk:i=k:=by simpa using hk
   subst hk;rw[ho]at hq;cases hq;rw[hw]at hkw;cases hkw
 .intro k q hq hk;rw[dN,Bool.or_eq_true]at hk;have up:∀{e},bit D e=true->bit (gf D i) e=true:=λhe=>by rw[dN,he];rfl
  rcases hk with hk|hk
  .exact⟨(inv.st k q hq hk).1,λe he=>up ((inv.st k q hq hk).2 e he)⟩
  .have hk:i=k:=by simpa using hk
   subst hk;rw[ho]at hq;cases hq;exact⟨hst,λe he=>up (UX e he)⟩
 .intro t ht hno;have h1:o.dst≠some t:=hno i o ho (by rw[dN];simp) LX;rw[iA inv.small qQ ht,if_neg h1];exact inv.rel t ht λk q hq hk xM=>hno k q hq (by rw[dN,hk];rfl) xM
 .intro k q hq hk xM;rw[dN,Bool.or_eq_true]at hk;by_cases hki:i=k
  .subst hki;rw[ho]at hq;cases hq;exact hpe
  ·have hk:bit D k=true:=by
    rcases hk with hk|hk
    .exact hk
    .exact absurd (by simpa using hk) hki
   have QM:h_ P q=false:=by
    cases QM:h_ P q with
    |false=>rfl
    |true=>exact absurd (inv.wr k q hq hk QM) xM
   have YM:q∈ops.toList:=List.mem_of_getElem? (by rw[Array.getElem?_toList];exact hq);have hl:∀t∈dx ops.toList q,eo (jV tm o.dst v) t=eo tm t:=by
    intro t ht;rw[iA inv.small qQ (mG hok YM ht),if_neg];intro he;have:=(inv.st k q hq hk).2 i ((inv.st k q hq hk).1.k1 i o ho hw t ht he);rw[this]at hD;cases hD
   have hd:∀d,q.dst=some d->eo (jV tm o.dst v) d=eo tm d:=by
    intro d EX;have hlt:d<nt:=by have:=dY (hok q YM);rw[EX]at this;exact dX this
    rw[iA inv.small qQ hlt,if_neg];intro he;exact hst.k2 hw k q hq (λe=>hki e.symm) QM d he EX
   refine(inv.mj k q hq hk xM).keep hl hd ?_ ?_
   .intro x v' g hc hg BN hrd hdv;refine⟨v',?_,hdv⟩;have:=Kb (qO hc) hm hrd;unfold lF at *
    rw[XI.congr (λy hy=>qP hl y (wG (qO hc) y hy))];exact this
   .intro n ob e1 e2 e3 e4 e5;exact⟨by rw[hown n e4];exact e1,hm n ob e2,e3,Nat.lt_of_lt_of_le e4 hnx⟩
end
end Go.Vai

namespace Go.Vai
open Go
variable {β:Type}{fl:β}{good:β->Prop}{pr:mA β}{P:Program}{φ:eW}{h h':af}{w:World}{t:TypeId}
variable {ops:Array Oper}{nt:Nat}{φ0:eW}{h0:af}{w0:World}{ds:List Deferred}{listed:Array Bool}{D M:Nat}{tm lR:T Value}{own:Nat->Option Nat}{a:Act}
theorem BM.refl(h:af):BM h h:=λ_ _ e=>e
theorem iC{i k:Nat}(hi:i<listed.size):oq (listed.setIfInBounds i true) k<->k=i\/oq listed k:=by
 unfold oq;simp only[Array.getD_eq_getD_getElem?];by_cases he:i=k
 .subst he;simp[Array.getElem?_setIfInBounds_self_of_lt hi]
 .rw[Array.getElem?_setIfInBounds_ne he];constructor
  .exact λh=>.inr h
  .rintro(h|h)
   .exact absurd h.symm he
   .exact h
theorem FD{a:Act}{d:Option Nat}{v:Value}{t:Nat}(ht:t<a.tmps.size):(a.put d v).tmps.getD t undef=if d=some t then v else a.tmps.getD t undef:=by
 cases d with
 |none=>simp[Act.put]
 |some d=>
  simp only[Act.put,Array.getD_eq_getD_getElem?];by_cases he:d=t
  .subst he;rw[if_pos rfl,Array.getElem?_setIfInBounds_self_of_lt ht];rfl
  .rw[if_neg (by simpa using he),Array.getElem?_setIfInBounds_ne he]
theorem FE{a:Act}{d:Option Nat}{v:Value}:(a.put d v).tmps.size=a.tmps.size:=by cases d<;>simp[Act.put]
theorem LY{a:Act}{d:Option Nat}{v:Value}:(a.put d v).defers=a.defers:=by cases d<;>rfl
theorem Kc{o:Oper}{x:YA}(h:iT P o.op=.rd x):h_ P o=false:=by unfold h_;rw[h]
theorem N_{o:Oper}(h:h_ P o=true):iT P o.op=.wr:=by
 unfold h_ at h;split at h
 .assumption
 .cases h
theorem zB{i:Nat}{o:Oper}(ho:ops[i]? = some o):o∈ops.toList:=List.mem_of_getElem? (by rw[Array.getElem?_toList];exact ho)
theorem Inv.advance(hfl:¬good fl)(inv:Inv P ops nt φ0 h0 w0 ds lR listed D M tm h own φ a w)(hok:∀q∈ops.toList,fU nt q=true){rec:Rec β}{i:Nat}{o:Oper}(ho:ops[i]? = some o)(hD:bit D i=false)(UX:∀e∈cT o,bit D e=true)(hst:Stat P ops i o)(hw:h_ P o=false){M':Nat}{V:T Value->af->β}(hg:good (kS fl pr P rec ops.toList D M' o tm h V)):∃dy h' tf,Inv P ops nt φ0 h0 w0 ds lR listed (gf D i) M dy h' tf φ a w/\good (V dy h'):=by
 have qQ:=dY (hok o (zB ho));have hl:∀v,∀t∈dx ops.toList o,eo (jV tm o.dst v) t=eo tm t:=by
  intro v t ht;rw[iA inv.small qQ (mG hok (zB ho) ht),if_neg];intro he;have:=UX i (hst.k1 i o ho hw t ht he);rw[this]at hD;cases hD
 have hdv:∀v d,o.dst=some d->eo (jV tm o.dst v) d=v:=by
  intro v d hd;have hlt:d<nt:=by rw[hd]at qQ;exact dX qQ
  rw[iA inv.small qQ hlt,if_pos hd]
 unfold kS at hg;split at hg
 .exact absurd hg hfl
 rename_i g P7;split at hg
 .rename_i BN;rw[iz]at hg;refine⟨_,_,own,inv.ahead hok ho hD UX hst hw inv.hr inv.ext (BM.refl h) (Nat.le_refl _) (λ_ _=>rfl) ?_,hg⟩;refine⟨g,P7,λ_ d hd=>hdv _ d hd,λht=>?_⟩;rw[oR P7 (hl _),BN]at ht;cases ht
 .rename_i BN;split at hg
  .rename_i x hc;split at hg
   .rename_i v hv;rw[iz]at hg;refine⟨_,_,own,inv.ahead hok ho hD UX hst hw inv.hr inv.ext (BM.refl h) (Nat.le_refl _) (λ_ _=>rfl) ?_,hg⟩;refine⟨g,P7,λhf=>?_,λ_=>?_⟩
    .rw[oR P7 (hl _),BN]at hf;cases hf
    .rw[hc];refine⟨v,?_,λd hd=>hdv _ d hd⟩;unfold lF at *
     rw[XI.congr (λy hy=>qP (hl v) y (wG (qO hc) y hy))];exact hv
   .exact absurd hg hfl
  .rename_i x hc;split at hg
   .rename_i ob mk hv;obtain⟨hn,hg⟩:=dL hfl hg;rw[iz]at hg;have hs:Small h.nx:=by unfold Small;omega
    have hnone:φ h.nx=none:=by
     cases hp:φ h.nx with
     |none=>rfl
     |some pl=>have:=(inv.hr.dom _ _ hp).1;omega
    refine⟨_,_,(λn=>if n=h.nx then some i else own n),inv.ahead hok ho hD UX hst hw (inv.hr.zm hn ob) (inv.ext.zm inv.hr.lo hn ob) ?_ (Nat.le_succ _) (λn hn=>if_neg YYZ) ?_,hg⟩
    .intro b o' hb;by_cases hsb:Small b
     .have:=inv.hr.keys b o' hsb hb
      show(h.bl.bt h.nx ob).get b=some o'
      rw[T.iH _ _ hs hsb YYZ];exact hb
     .show(h.bl.bt h.nx ob).get b=some o'
      exact absurd (Nat.lt_succ_self b) hsb
    .refine⟨g,P7,λhf=>?_,λ_=>?_⟩
     .rw[oR P7 (hl _),BN]at hf;cases hf
     .rw[hc];refine⟨h.nx,ob,mk,if_pos rfl,?_,T.az _ _ _,hnone,Nat.lt_succ_self _,inv.ext.nx,λd hd=>hdv _ d hd⟩;unfold ze at *
      rw[XA.congr (λy hy=>qP (hl _) y (Co (zA hc) y hy))];exact hv
   .exact absurd hg hfl
  .rename_i hc;rw[h_,hc]at hw;cases hw
theorem Inv.done(inv:Inv P ops nt φ0 h0 w0 ds lR listed D M tm h own φ a w)(hok:∀q∈ops.toList,fU nt q=true){i:Nat}{o:Oper}(ho:ops[i]? = some o)(hD:bit D i=true)(uu:∀e∈cT o,oq listed e){φ':eW}{w':World}{v':Value}(hv:∀d,o.dst=some d->VR φ' (eo tm d) v')(hs:Sub φ φ')(hr':HR P φ' h w')(hx':Ext φ0 φ' h0 h w0 w')(hφ:∀n,own n≠some i->φ n=none->φ' n=none):Inv P ops nt φ0 h0 w0 ds lR (listed.setIfInBounds i true) D M tm h own φ' (a.put o.dst v') w':=by
 have hil:i<listed.size:=by rw[inv.YL];exact(Array.getElem?_eq_some_iff.mp ho).1
 refine⟨by simp[inv.YL],?_,?_,?_,?_,inv.st,inv.small,by rw[FE];exact inv.size,?_,hr',hx',by rw[LY];exact inv.dfs,?_,inv.keep⟩
 .intro k hk;rcases(iC hil).mp hk with rfl|hk
  .exact hD
  .exact inv.sub k hk
 .intro k q hq hk e he;rw[iC hil];rcases(iC hil).mp hk with rfl|hk
  .rw[ho]at hq;cases hq;exact .inr (uu e he)
  .exact .inr (inv.clo k q hq hk e he)
 .intro k q hq hk hkw;rw[iC hil];exact .inr (inv.wr k q hq hk hkw)
 .intro k hk;rw[iC hil];exact .inr (inv.mS k hk)
 .intro t ht hno;rw[FD (by rw[inv.size];exact ht)];by_cases hd:o.dst=some t
  .rw[if_pos hd];exact hv t hd
  .rw[if_neg hd];refine(inv.rel t ht λk q hq hk xM=>?_).mono hs;by_cases hki:k=i
   .subst hki;rw[ho]at hq;cases hq;exact hd
   .exact hno k q hq hk (λhh=>by rcases(iC hil).mp hh with h1|h1<;>contradiction)
 .intro k q hq hk xM;rw[iC hil]at xM;have hki:k≠i:=λe=>xM (.inl e);have QO:¬oq listed k:=λe=>xM (.inr e);refine(inv.mj k q hq hk QO).keep (λ_ _=>rfl) (λ_ _=>rfl) (λx v g _ _ _ e1 e2=>⟨v,e1,e2⟩) ?_;intro n ob e1 e2 e3 e4 e5;exact⟨e1,e2,hφ n (by rw[e1];intro hh;cases hh;exact hki rfl) e3,e4⟩
theorem Inv.looks(inv:Inv P ops nt φ0 h0 w0 ds lR listed D M tm h own φ a w)(hok:∀q∈ops.toList,fU nt q=true){i:Nat}{o:Oper}(ho:ops[i]? = some o)(hst:Stat P ops i o)(uu:∀e∈cT o,oq listed e):∀t∈dx ops.toList o,t<a.tmps.size/\VR φ (eo tm t) (a.tmps.getD t undef):=by
 intro t ht;have hlt:=mG hok (zB ho) ht;refine⟨by rw[inv.size];exact hlt,inv.rel t hlt λk q hq hk xM hqd=>xM (uu k (hst.k1 k q hq ?_ t ht hqd))⟩;cases QM:h_ P q with
 |false=>rfl
 |true=>exact absurd (inv.wr k q hq hk QM) xM
theorem Inv.agk(inv:Inv P ops nt φ0 h0 w0 ds lR listed D M tm h own φ a w)(hok:∀q∈ops.toList,fU nt q=true){i:Nat}{o:Oper}(ho:ops[i]? = some o)(hst:Stat P ops i o)(uu:∀e∈cT o,oq listed e):∀y∈o.op.operands.toList,VR φ (fZ tm y) (a.eval y):=by
 intro y hy;have hyo:=tc (hok o (zB ho)) y hy;cases y with
 |tmp t=>exact(inv.looks hok ho hst uu t (sH hy)).2
 |const v=>exact jw hyo
 |func f=>exact VR.func' .nil .nil
 |global g=>cases hyo
theorem Inv.wanted(inv:Inv P ops nt φ0 h0 w0 ds lR listed D M tm h own φ a w)(hok:∀q∈ops.toList,fU nt q=true){i:Nat}{o:Oper}(ho:ops[i]? = some o)(hst:Stat P ops i o)(uu:∀e∈cT o,oq listed e){g:Option (Nat × Bool)}(hg:guardOf ops.toList o=some g):Region.wanted o (yielded ops a.tmps)=jt tm g:=
 Cm (φ:=φ) hg λs _ _ hs=>inv.looks hok ho hst uu s hs
theorem Inv.late(inv:Inv P ops nt φ0 h0 w0 ds lR listed D M tm h own φ a w)(hok:∀q∈ops.toList,fU nt q=true){i:Nat}{o:Oper}(ho:ops[i]? = some o)(hD:bit D i=true)(LX:¬oq listed i)(uu:∀e∈cT o,oq listed e){Q:Exit->Act->World->Prop}{K:Act->World->Prop}{r0:Option Nat}(hK:∀φ' a' w',Inv P ops nt φ0 h0 w0 ds lR (listed.setIfInBounds i true) D M tm h own φ' a' w'->K a' w'):wpOpIn (FR r0) 0 P ops Q i K a w:=by
 obtain⟨hst,_⟩:=inv.st i o ho hD;obtain⟨g,hg,h1,h2⟩:=inv.mj i o ho hD LX;have hlt:∀d,o.dst=some d->d<nt:=λd hd=>by have:=dY (hok o (zB ho));rw[hd]at this;exact dX this
 simp only[wpOpIn,ho];rw[inv.wanted hok ho hst uu hg];cases hw:jt tm g with
 |false=>
  rw[if_neg (by simp)];exact⟨lZ,hK φ _ w (inv.done hok ho hD uu (λd hd=>by rw[h1 hw d hd];exact VR.undef) (Sub.refl φ) inv.hr inv.ext (λ_ _ e=>e))⟩
 |true=>
  rw[if_pos rfl];have h2:=h2 hw;have hρ:=inv.agk hok ho hst uu;cases hc:iT P o.op with
  |rd x=>
   rw[hc]at h2;obtain⟨v,k1,k2⟩:=h2;obtain⟨v0,v',e1,e2,e3⟩:=xI (β:=Option Value) (fl:=none) (good:=λr=>r=some v) (by simp) (qO hc) hρ inv.hr (V:=λv _=>some v) k1 rfl;cases e1;refine⟨lZ,?_⟩;rw[Oper.semAt_eq _ _ _ (λc hcd=>by rw[hcd]at hc;cases hc),e3];exact hK φ _ w (inv.done hok ho hD uu (λd hd=>by rw[k2 d hd];exact e2) (Sub.refl φ) inv.hr inv.ext (λ_ _ e=>e))
  |al x=>
   rw[hc]at h2;obtain⟨n,ob,mk,k1,k2,k3,k4,k5,k6,k7⟩:=h2;obtain⟨ob',mk',O,e1,e2,e3,e4,e5⟩:=xK (β:=Option (bO × (Nat->Value))) (fl:=none) (good:=λr=>r=some (ob,mk)) (P:=P) (w:=w) (by simp) (zA hc) hρ (V:=λo mk=>some (o,mk)) k2 rfl;cases e1;refine⟨lZ,?_⟩;rw[Oper.semAt_eq _ _ _ (λc hcd=>by rw[hcd]at hc;cases hc),e5];refine hK (iU φ n ⟨w.heap.size,0,0⟩) _ _ (inv.done hok ho hD uu (λd hd=>by rw[k7 d hd];exact e4 _ _ _ (fo _ _ _)) (rI k4) (inv.hr.Fg k3 k4 k5 0 0 (e3 _)) (inv.ext.Fg k4 k6 O (ud (e3 ⟨0,0,0⟩) e2) 0 0) ?_);intro m hm1 hm2;unfold iU;rw[if_neg]
   .exact hm2
   .intro he;subst he;exact hm1 k1
  |wr=>rw[hc]at h2;exact h2.elim
end Go.Vai

namespace Go.Vai
open Go
variable {β:Type}{fl:β}{good:β->Prop}{pr:mA β}{P:Program}{φ:eW}{h h':af}{w:World}{t:TypeId}
variable {ops:Array Oper}{nt:Nat}{φ0:eW}{h0:af}{w0:World}{ds:List Deferred}{listed:Array Bool}{D M:Nat}{tm lR:T Value}{own:Nat->Option Nat}{a:Act}
theorem FF:∀(wj:List It),xD P ops.toList D M tm h wj=true->∀k q,(k,q)∈wj->bit D k=true->bit M k=false->∀x g,iT P q.op=.rd x->guardOf ops.toList q=some g->jt tm g=true->
  ∃v,lF x tm h=some v/\∀d,q.dst=some d->eo tm d=v:=by
 intro wj
 induction wj with
 |nil=>intro _ k q hm;cases hm
 |cons it wj ih=>
  obtain⟨j,o⟩:=it;intro hs k q hm hD hM x g hc hg hw;simp only[List.mem_cons]at hm;unfold xD at hs;rcases hm with e|hm
  .cases e;simp only[hD,hM,hc,hg,hw,Bool.not_false,Bool.and_true,Bool.and_eq_true]at hs;have hs:=hs.1;split at hs
   .rename_i v d hv hd;refine⟨v,hv,λd' hd'=>?_⟩;rw[hd]at hd';cases hd';exact(Dr 8 _ _ hs).symm
   .rename_i v hv hd;exact⟨v,hv,λd' hd'=>by rw[hd]at hd';cases hd'⟩
   .cases hs
  .refine ih ?_ k q hm hD hM x g hc hg hw;split at hs
   .simp only[Bool.and_eq_true]at hs;exact hs.2
   .exact hs
theorem FG{wj:List It}(ha:Cg P D M wj=false){k:Nat}{q:Oper}(hm:(k,q)∈wj)(hD:bit D k=true)(hM:bit M k=false){x:YA}(hc:iT P q.op=.rd x):False:=by
 unfold Cg at ha;rw[List.any_eq_false]at ha;have:=ha _ hm;simp[hD,hM,hc]at this
theorem Inv.wrote(inv:Inv P ops nt φ0 h0 w0 ds lR listed D M tm h own φ a w)(hok:∀q∈ops.toList,fU nt q=true){i:Nat}{o:Oper}(ho:ops[i]? = some o)(hD:bit D i=false)(uu:∀e∈cT o,oq listed e)(hst:Stat P ops i o)(hw:h_ P o=true){M':Nat}(hM:∀k,bit M' k=true->oq listed k)(hno:∀k q,ops[k]? = some q->bit D k=true->h_ P q=false->bit M' k=false->∀d,o.dst=some d->q.dst≠some d/\d∉dx ops.toList q){φ':eW}{w':World}{v v':Value}{h':af}(hv:VR φ' v v')(hr':HR P φ' h' w')(hx:Ext φ φ' h h' w w')(hre:∀k q,ops[k]? = some q->bit D k=true->bit M' k=false->¬oq listed k->∀x g,iT P q.op=.rd x->guardOf ops.toList q=some g->jt (jV tm o.dst v) g=true->
   ∃v1,lF x (jV tm o.dst v) h'=some v1/\∀d,q.dst=some d->eo (jV tm o.dst v) d=v1):Inv P ops nt φ0 h0 w0 ds lR (listed.setIfInBounds i true) (gf D i) M' (jV tm o.dst v) h' own φ' (a.put o.dst v') w':=by
 have hil:i<listed.size:=by rw[inv.YL];exact(Array.getElem?_eq_some_iff.mp ho).1
 have qQ:=dY (hok o (zB ho));have agl:∀{k q},ops[k]? = some q->bit (gf D i) k=true->¬oq (listed.setIfInBounds i true) k->bit D k=true/\¬oq listed k/\h_ P q=false/\bit M' k=false:=by
  intro k q hq hk xM;rw[iC hil]at xM;have hki:k≠i:=λe=>xM (.inl e);have QO:¬oq listed k:=λe=>xM (.inr e);rw[dN,Bool.or_eq_true]at hk;have hk:bit D k=true:=by
   rcases hk with hk|hk
   .exact hk
   .exact absurd (by simpa using hk:i=k).symm hki
  refine⟨hk,QO,?_,?_⟩
  .cases QM:h_ P q with
   |false=>rfl
   |true=>exact absurd (inv.wr k q hq hk QM) QO
  .cases hm:bit M' k with
   |false=>rfl
   |true=>exact absurd (hM k hm) QO
 refine⟨by simp[inv.YL],?_,?_,?_,?_,?_,inv.small,by rw[FE];exact inv.size,?_,hr',inv.ext.trans hx,by rw[LY];exact inv.dfs,?_,λt ht hno=>by rw[iA inv.small qQ ht,if_neg (hno i o ho)];exact inv.keep t ht hno⟩
 .intro k hk;rw[dN];rcases(iC hil).mp hk with rfl|hk
  .simp
  .rw[inv.sub k hk];rfl
 .intro k q hq hk e he;rw[iC hil];rcases(iC hil).mp hk with rfl|hk
  .rw[ho]at hq;cases hq;exact .inr (uu e he)
  .exact .inr (inv.clo k q hq hk e he)
 .intro k q hq hk hkw;rw[iC hil];rw[dN,Bool.or_eq_true]at hk;rcases hk with hk|hk
  .exact .inr (inv.wr k q hq hk hkw)
  .exact .inl (by simpa using hk:i=k).symm
 .intro k hk;rw[iC hil];exact .inr (hM k hk)
 .intro k q hq hk;rw[dN,Bool.or_eq_true]at hk;have up:∀{e},bit D e=true->bit (gf D i) e=true:=λhe=>by rw[dN,he];rfl
  rcases hk with hk|hk
  .exact⟨(inv.st k q hq hk).1,λe he=>up ((inv.st k q hq hk).2 e he)⟩
  .have hk:i=k:=by simpa using hk
   subst hk;rw[ho]at hq;cases hq;exact⟨hst,λe he=>up (inv.sub e (uu e he))⟩
 .intro t ht hnot;rw[FD (by rw[inv.size];exact ht),iA inv.small qQ ht];by_cases hd:o.dst=some t
  .rw[if_pos hd,if_pos hd];exact hv
  .rw[if_neg hd,if_neg hd];refine(inv.rel t ht λk q hq hk xM=>hnot k q hq (by rw[dN,hk];rfl) ?_).mono hx.sub;rw[iC hil];rintro(rfl|hh)
   .rw[hk]at hD;cases hD
   .exact xM hh
 ·intro k q hq hk xM;obtain⟨cZ,hk2,uv,Cp⟩:=agl hq hk xM;have hl:∀t∈dx ops.toList q,eo (jV tm o.dst v) t=eo tm t:=by
   intro t ht;rw[iA inv.small qQ (mG hok (zB hq) ht),if_neg];intro he;exact(hno k q hq cZ uv Cp t he).2 ht
  have hd:∀d,q.dst=some d->eo (jV tm o.dst v) d=eo tm d:=by
   intro d EX;have hlt:d<nt:=by have:=dY (hok q (zB hq));rw[EX]at this;exact dX this
   rw[iA inv.small qQ hlt,if_neg];intro he;exact(hno k q hq cZ uv Cp d he).1 EX
  refine(inv.mj k q hq cZ hk2).keep hl hd (λx v1 g hc hg BN _ _=>hre k q hq cZ Cp hk2 x g hc hg BN) ?_;intro n ob e1 e2 e3 e4 e5;refine⟨e1,by rw[hx.ET n e4 e3];exact e2,?_,Nat.lt_of_lt_of_le e4 hx.nx⟩;cases hp:φ' n with
  |none=>rfl
  |some pl=>have:=(hx.new n pl e3 hp).1;omega
theorem Inv.write(hfl:¬good fl)(hp:iB good pr P){rec:Rec β}(fV:mF good P rec)(inv:Inv P ops nt φ0 h0 w0 ds lR listed D M tm h own φ a w)(hok:∀q∈ops.toList,fU nt q=true){i:Nat}{o:Oper}(ho:ops[i]? = some o)(hD:bit D i=false)(uu:∀e∈cT o,oq listed e)(hst:Stat P ops i o)(hw:h_ P o=true){M':Nat}(hM:∀k,bit M' k=true->oq listed k)(hno:∀k q,ops[k]? = some q->bit D k=true->h_ P q=false->bit M' k=false->∀d,o.dst=some d->q.dst≠some d/\d∉dx ops.toList q){V:T Value->af->β}(hg:good (kS fl pr P rec ops.toList D M' o tm h V)){Q:Exit->Act->World->Prop}{K:Act->World->Prop}{r0:Option Nat}(hK:∀dy h' φ' a' w',Inv P ops nt φ0 h0 w0 ds lR (listed.setIfInBounds i true) (gf D i) M' dy h' own φ' a' w'->good (V dy h')->K a' w'):wpOpIn (FR r0) 0 P ops Q i K a w:=by
 simp only[wpOpIn,ho];unfold kS at hg;split at hg
 .exact absurd hg hfl
 rename_i g P7;rw[inv.wanted hok ho hst uu P7];split at hg
 ·rename_i BN;rw[iz]at hg;rw[BN,if_neg (by simp)];refine⟨lZ,?_⟩;refine hK _ _ φ _ w (inv.wrote hok ho hD uu hst hw hM hno VR.undef inv.hr (Ext.refl _ _ _) ?_) hg;intro k q hq hk hkM xM x g' hc hg' Vx;have uv:=Kc hc;have qQ:=dY (hok o (zB ho));have hl:∀t∈dx ops.toList q,eo (jV tm o.dst undef) t=eo tm t:=by
   intro t ht;rw[iA inv.small qQ (mG hok (zB hq) ht),if_neg];intro he;exact(hno k q hq hk uv hkM t he).2 ht
  obtain⟨g2,e1,e2,e3⟩:=inv.mj k q hq hk xM;rw[hg']at e1;cases e1;have e3:=e3 (by rw[<-oR hg' hl];exact Vx);rw[hc]at e3;obtain⟨v,k1,k2⟩:=e3;refine⟨v,?_,λd EX=>?_⟩
  .unfold lF at *
   rw[XI.congr (λy hy=>qP hl y (wG (qO hc) y hy))];exact k1
  .have hlt:d<nt:=by have:=dY (hok q (zB hq));rw[EX]at this;exact dX this
   rw[iA inv.small qQ hlt,if_neg]
   .exact k2 d EX
   .intro he;exact(hno k q hq hk uv hkM d he).1 EX
 .rename_i BN;rw[BN,if_pos rfl];rw[N_ hw]at hg;refine Fx hfl hp fV (inv.agk hok ho hst uu) inv.hr hg ?_;intro φ' v v' h' w' g1 g2 g3 g4;rw[iz]at g1;split at g1
  .rename_i ha;refine hK _ _ φ' _ w' (inv.wrote hok ho hD uu hst hw hM hno g2 g3 g4 ?_) g1;intro k q hq hk hkM xM x g' hc hg' Vx;exact(FG ha (FA hq) hk hkM hc).elim
  .split at g1
   .rename_i vV;refine hK _ _ φ' _ w' (inv.wrote hok ho hD uu hst hw hM hno g2 g3 g4 ?_) g1;intro k q hq hk hkM xM x g' hc hg' Vx;exact FF _ vV k q (FA hq) hk hkM x g' hc hg' Vx
   .exact absurd g1 hfl
theorem zC{S:Nat->Prop}:∀(l:List Nat)(m:Nat),(∀k,bit m k=true->S k)->(∀e∈l,S e)->∀k,bit (l.foldl gf m) k=true->S k:=by
 intro l
 induction l with
 |nil=>intro m h1 _ k hk;exact h1 k hk
 |cons e l ih=>
  intro m h1 h2 k hk;refine ih (gf m e) ?_ (λx hx=>h2 x (by simp[hx])) k hk;intro x hx;rw[dN,Bool.or_eq_true]at hx;rcases hx with hx|hx
  .exact h1 x hx
  .have:e=x:=by simpa using hx
   subst this;exact h2 e (by simp)
theorem Oa{S:Nat->Prop}{os:List Oper}(hc:∀i o,os[i]? = some o->S i->∀e∈cT o,S e):∀(i m:Nat),(∀k,bit m k=true->S k)->∀k,bit (Qn os i m) k=true->S k:=by
 intro i
 induction i with
 |zero=>intro m h1 k hk;exact h1 k hk
 |succ i ih=>
  intro m h1 k hk;unfold Qn at hk;split at hk
  .rename_i o hb ho;exact ih _ (zC _ _ h1 (hc i o ho (h1 i hb))) k hk
  .exact ih m h1 k hk
theorem Kd{S:Nat->Prop}{os:List Oper}(hc:∀i o,os[i]? = some o->S i->∀e∈cT o,S e){i:Nat}{o:Oper}(ho:os[i]? = some o)(hp:∀e∈cT o,S e):∀k,bit (sq os i) k=true->S k:=by
 unfold sq;rw[ho];exact Oa hc i _ (zC _ _ (λk hk=>by rw[Fz]at hk;cases hk) hp)
theorem Cq{i:Nat}(hi:i∈Region.ready .any ops listed):∃o,ops[i]? = some o/\¬oq listed i/\∀e∈cT o,oq listed e:=by
 unfold Region.ready at hi;simp only[List.mem_filter,List.mem_range,Bool.and_eq_true]at hi;obtain⟨h1,h2,h3⟩:=hi;have ho:ops[i]? = some ops[i]:=by simp[h1]
 refine⟨ops[i],ho,?_,?_⟩
 .intro hh;unfold oq at hh;simp only[Array.getD_eq_getD_getElem?]at hh h2;cases hl:listed[i]? with
  |none=>rw[hl]at hh;simp at hh
  |some b=>rw[hl]at hh h2;simp at hh h2;rw[hh]at h2;cases h2
 .intro e he;rw[ho]at h3;simp only[Option.map_some,Option.getD_some,Array.all_eq_true']at h3;unfold cT at he;simp only[List.mem_map,List.mem_filter]at he;obtain⟨x,⟨hx,hb⟩,rfl⟩:=he;have:=h3 x (by simpa using hx);rw[hb]at this;simp only[Bool.not_true,Bool.false_or]at this;exact this
theorem mem_ready{i:Nat}{o:Oper}(ho:ops[i]? = some o)(hsz:listed.size=ops.size)(hn:¬oq listed i)(hp:∀e∈cT o,oq listed e):i∈Region.ready .any ops listed:=by
 have hlt:i<ops.size:=(Array.getElem?_eq_some_iff.mp ho).1;unfold Region.ready;simp only[List.mem_filter,List.mem_range,Bool.and_eq_true];refine⟨hlt,?_,?_⟩
 .have hll:i<listed.size:=by omega
  unfold oq at hn;simp only[Array.getD_eq_getD_getElem?,getElem?_pos listed i hll]at hn ⊢;simpa using hn
 .rw[ho];simp only[Option.map_some,Option.getD_some,Array.all_eq_true'];intro e he;cases hb:Region.binds .any e with
  |false=>rfl
  |true=>
   have:=hp e.on (by unfold cT;simp only[List.mem_map,List.mem_filter];exact⟨e,⟨by simpa using he,hb⟩,rfl⟩);simp only[Bool.not_true,Bool.false_or];exact this
section
variable {nt:Nat}{V:T Value->af->β}{Q:Exit->Act->World->Prop}{r0:Option Nat}
theorem aat{own:Nat->Option Nat}(inv:Inv P ops nt φ0 h0 w0 ds lR listed D M tm h own φ a w)(hidx:∀i o,ops[i]? = some o->∀e∈cT o,e<i)(hr:Region.ready .any ops listed=[]):∀i o,ops[i]? = some o->oq listed i:=by
 intro i
 induction i using Nat.strongRecOn with
 |_ i ih=>
  intro o ho;by_cases hi:oq listed i
  .exact hi
  ·have hlt:i<ops.size:=(Array.getElem?_eq_some_iff.mp ho).1;have:=mem_ready ho inv.YL hi λe he=>by
    have hei:=hidx i o ho e he;exact ih e hei ops[e] (by simp)
   rw[hr]at this;cases this
theorem Inv.full{own:Nat->Option Nat}(inv:Inv P ops nt φ0 h0 w0 ds lR listed D M tm h own φ a w)(hall:∀i o,ops[i]? = some o->oq listed i):TR φ nt tm a:=
 ⟨inv.size,inv.small,λt ht=>inv.rel t ht λi o ho _ hS=>absurd (hall i o ho) hS⟩
theorem qR{i:Nat}{is:List Nat}{D M:Nat}(hp:nZ P ops.toList (i::is) D M=true):∃o,ops[i]? = some o/\
  Vm P ops.toList (f_ ops.toList 0) D (match h_ P o with|true=>Nat.lor M (sq ops.toList i)|false=>M) i o=true/\
  nZ P ops.toList is (gf D i) (match h_ P o with|true=>Nat.lor M (sq ops.toList i)|false=>M)=true:=by
 unfold nZ at hp;split at hp<;>try contradiction
 rename_i o ho;rw[Array.getElem?_toList]at ho;simp only[Bool.and_eq_true]at hp;exact⟨o,ho,hp.1,hp.2⟩
theorem alG(hfl:¬good fl)(hok:∀q∈ops.toList,fU nt q=true){rec:Rec β}{i:Nat}{o:Oper}(ho:ops[i]? = some o)(LX:¬oq listed i)(uu:∀e∈cT o,oq listed e):∀(l:List Nat)(D M:Nat)(tm:T Value)(h:af)(own:Nat->Option Nat),Inv P ops nt φ0 h0 w0 ds lR listed D M tm h own φ a w->nZ P ops.toList l D M=true->good (jK fl pr P rec ops.toList l D M tm h V)->
   ∃l' D' dy h' tf,Inv P ops nt φ0 h0 w0 ds lR listed D' M dy h' tf φ a w/\nZ P ops.toList l' D' M=true/\good (jK fl pr P rec ops.toList l' D' M dy h' V)/\
    (bit D' i=true\/(h_ P o=true/\∃js,l'=i::js)):=by
 intro l
 induction l with
 |nil=>
  intro D M tm h own inv hp hg;refine⟨[],D,tm,h,own,inv,hp,hg,.inl ?_⟩;unfold nZ at hp;rw[List.all_eq_true]at hp;exact hp _ (FA ho)
 |cons j js ih=>
  intro D M tm h own inv hp hg;by_cases hDi:bit D i=true
  .exact⟨j::js,D,tm,h,own,inv,hp,hg,.inl hDi⟩
  have hDi:bit D i=false:=by simpa using hDi
  obtain⟨q,hq,om,qk⟩:=qR hp;obtain⟨k1,k2,k3,k4,k5⟩:=td om;cases hw:h_ P q with
  |true=>
   have hij:i=j:=by
    by_cases hij:i=j
    .exact hij
    .have:=(k5 hw).1 i o ho hij hDi;have hrd:qG D o=true:=by unfold qG;rw[List.all_eq_true];exact λe he=>inv.sub e (uu e he)
     rw[hrd]at this;cases this
   subst hij;rw[ho]at hq;cases hq;exact⟨i::js,D,tm,h,own,inv,hp,hg,.inr ⟨hw,js,rfl⟩⟩
  |false=>
   rw[hw]at qk om;simp only at qk;unfold jK at hg;rw[Array.getElem?_toList,hq]at hg;simp only[hw]at hg;obtain⟨dy,h',tf,inv',hg'⟩:=inv.advance hfl hok hq k1 k2 k4 hw hg;exact ih _ M dy h' tf inv' qk hg'
theorem Vy(hfl:¬good fl)(hp:iB good pr P){rec:Rec β}(fV:mF good P rec)(hok:∀q∈ops.toList,fU nt q=true)(hidx:∀i o,ops[i]? = some o->∀e∈cT o,e<i)(hQ:∀dy h' φ' a' w',good (V dy h')->TR φ' nt dy a'->HR P φ' h' w'->Ext φ0 φ' h0 h' w0 w'->a'.defers=ds->(∀t,t<nt->(∀(i:Nat)(o:Oper),ops[i]? = some o->o.dst≠some t)->eo dy t=eo lR t)->Q .normal a' w'):∀(fuel:Nat)(listed:Array Bool)(l:List Nat)(D M:Nat)(tm:T Value)(h:af)(own:Nat->Option Nat)(φ:eW)(a:Act) (w:World),listed.toList.count false<=fuel->Inv P ops nt φ0 h0 w0 ds lR listed D M tm h own φ a w->
   nZ P ops.toList l D M=true->good (jK fl pr P rec ops.toList l D M tm h V)->wpAnyIn (FR r0) 0 P .any ops Q fuel listed a w:=by
 have fin:∀(listed:Array Bool)(l:List Nat)(D M:Nat)(tm:T Value)(h:af)(own:Nat->Option Nat)(φ:eW)(a:Act)(w:World),Inv P ops nt φ0 h0 w0 ds lR listed D M tm h own φ a w->
   nZ P ops.toList l D M=true->good (jK fl pr P rec ops.toList l D M tm h V)->Region.ready .any ops listed=[]->Q .normal a w:=by
  intro listed l D M tm h own φ a w inv Qu hg hr;have hall:=aat inv hidx hr;cases l with
  |nil=>exact hQ tm h φ a w hg (inv.full hall) inv.hr inv.ext inv.dfs inv.keep
  |cons j js=>
   obtain⟨q,hq,om,_⟩:=qR Qu;have:=(td om).1;rw[inv.sub j (hall j q hq)]at this;cases this
 intro fuel
 induction fuel with
 |zero=>
  intro listed l D M tm h own φ a w hc inv Qu hg;have hr:Region.ready .any ops listed=[]:=by
   cases hr:Region.ready .any ops listed with
   |nil=>rfl
   |cons i is=>
    obtain⟨o,ho,LX,_⟩:=Cq (listed:=listed) (ops:=ops) (i:=i) (by rw[hr];exact List.mem_cons_self);have hlt:i<listed.size:=by rw[inv.YL];exact(Array.getElem?_eq_some_iff.mp ho).1
    have:false∈listed.toList:=by
     unfold oq at LX;simp only[Array.getD_eq_getD_getElem?,getElem?_pos listed i hlt,Option.getD_some]at LX;have:listed[i]=false:=by simpa using LX
     rw[<-this];exact Array.getElem_mem_toList hlt
    have:=List.count_pos_iff.mpr this;omega
  exact⟨hr,fin listed l D M tm h own φ a w inv Qu hg hr⟩
 |succ fuel ih=>
  intro listed l D M tm h own φ a w hc inv Qu hg;refine⟨fin listed l D M tm h own φ a w inv Qu hg,λi hi=>?_⟩;obtain⟨o,ho,LX,uu⟩:=Cq hi;have hlt:i<listed.size:=by rw[inv.YL];exact(Array.getElem?_eq_some_iff.mp ho).1
  have agm:(listed.setIfInBounds i true).toList.count false<=fuel:=by
   have hfi:listed.toList[i]'(by simpa using hlt)=false:=by
    unfold oq at LX;simp only[Array.getD_eq_getD_getElem?,getElem?_pos listed i hlt,Option.getD_some]at LX;simpa using LX
   rw[Array.toList_setIfInBounds,List.count_set (by simpa using hlt),hfi];change listed.toList.count false-1+0<=fuel;omega
  obtain⟨l',D',dy,h',tf,inv',agn,hg',hend⟩:=alG hfl hok ho LX uu l D M tm h own inv Qu hg;by_cases hDi:bit D' i=true
  .exact inv'.late hok ho hDi LX uu λφ' a' w' inv2=>ih _ l' D' M dy h' tf φ' a' w' agm inv2 agn hg'
  .rcases hend with hend|⟨hw,js,rfl⟩
   .exact absurd hend hDi
   obtain⟨q,hq,om,qk⟩:=qR agn;rw[ho]at hq;cases hq;rw[hw]at om qk;simp only at om qk;obtain⟨k1,k2,k3,k4,k5⟩:=td om;unfold jK at hg';rw[Array.getElem?_toList,ho]at hg';simp only[hw]at hg';refine inv'.write hfl hp fV hok ho k1 uu k4 hw ?_ (k5 hw).2 hg' λtm2 h2 φ2 a2 w2 inv2 hg2=>ih _ js _ _ tm2 h2 tf φ2 a2 w2 agm inv2 qk hg2;intro k hk;rw[aaq,Bool.or_eq_true]at hk;rcases hk with hk|hk
   .exact inv'.mS k hk
   .exact Kd (S:=oq listed) (os:=ops.toList) (λj q hq hj=>inv'.clo j q (by rw[<-Array.getElem?_toList];exact hq) hj) (by rw[Array.getElem?_toList];exact ho) uu k hk
end
theorem tg(hfl:¬good fl)(hp:iB good pr P)(hm:P.follows .mixedOrders=true):J9 good fl pr P:=by
 intro rec fV ops id nt hok φ tm h a w V ht hr hg r0 Q hQ;unfold lX at hg;split at hg
 .contradiction
 split at hg
 .rename_i l hl;unfold Dd at hl;split at hl<;>try contradiction
  split at hl<;>try contradiction
  rename_i aav;cases hl;simp only[Bool.and_eq_true]at aav;refine wpIn_region_any hm ?_;have Vu:∀i,¬oq (Array.replicate ops.size false) i:=by
   intro i hi;unfold oq at hi;simp only[Array.getD_eq_getD_getElem?,Array.getElem?_replicate]at hi;split at hi<;>simp at hi
  refine Vy (φ0:=φ) (h0:=h) (w0:=w) (ds:=a.defers) (lR:=tm) hfl hp fV hok ?_ hQ ops.size _ l 0 0 tm h (λ_=>none) φ a { w with drawn:=w.drawn+1 } ?_ ?_ aav.1 hg
  .intro i o ho e he;have:=aav.2;rw[List.all_eq_true]at this;have:=this _ (FA ho);simp only[List.all_eq_true]at this;exact dX (this e he)
  .refine Nat.le_trans List.count_le_length (by simp)
  .have nb:∀k,bit 0 k=true->False:=λk hb=>by rw[Fz]at hb;cases hb
   exact⟨by simp,λi hi=>absurd hi (Vu i),λi o _ hi=>absurd hi (Vu i),λi o _ hb=>(nb i hb).elim,λi hb=>(nb i hb).elim,λi o _ hb=>(nb i hb).elim,
    ht.small,ht.size,λt hlt _=>ht.rel t hlt,hr.drew,(Ext.refl φ h w).drew,rfl,λi o _ hb=>(nb i hb).elim,λ_ _ _=>rfl⟩
 .exact absurd hg hfl
end Go.Vai

namespace Go.Vai
open Go
variable {pr:mA Bool}{P:Program}{w:World}
theorem HR.start(w:World):HR P (λ_=>none) ⟨0,.nil,0⟩ w:=
 ⟨λ_ _ _ _ e=>(by cases e),λ_ _ e=>(by cases e),λb o _ e=>(by rw[T.get_nil]at e;cases e),YYQ,λ_ _ _ _ _ _ _ _ _ _ e=>(by cases e),Nat.le_refl _⟩
def yes(b:Bool):Prop:=b=true
def Vz:mA Bool:=⟨λ_=>none,λa b=>match a with|true=>b|false=>false⟩
theorem Dz:iB yes Vz P:=⟨λx y hxy=>by cases x<;>simp[Vz,yes]at hxy ⊢;exact hxy,λf g hg=>by cases hg⟩
end Go.Vai

namespace Go.Vai
open Go Go.RowKit
variable {P:Program}
theorem VR.oA{φ:eW}{v:Value}(hv:kO v=true):VR φ v v:=by
 cases v<;>first|exact VR.bool _|exact VR.int _ _|exact VR.string _|cases hv
theorem VR.VA{φ:eW}{v v':Value}(hv:kO v=true)(h:VR φ v v'):v'=v:=by
 cases h<;>first|rfl|cases hv
theorem F2.oA{φ:eW}:∀{l:List Value},l.all kO=true->F2 (VR φ) l l:=by
 intro l
 induction l with
 |nil=>intro _;exact .nil
 |cons v l ih=>
  intro h;simp only[List.all_cons,Bool.and_eq_true]at h;exact .cons (VR.oA h.1) (ih h.2)
end Go.Vai

namespace Go.Vai
open Go
def aq(P:Program)(f:FuncId)(args:List Value)(h:af)(V:KQ):Prop:=
 ∀(φ:eW)(w:World)(args':List Value),F2 (VR φ) args args'->HR P φ h w->wD (λp:Prop=>p) P φ h w V f args'.toArray
def EY(P:Program):mA Prop:=⟨λf=>some (aq P f),And⟩
def jP:Rec Prop:=λ_ _ _ _=>False
abbrev aaw(i:XI Prop)(tm:T Value)(h:af)(V:KQ):Prop:=
 XI.rec (motive:=λ_=>Prop) (λf=>f h V) (λx f=>f (fZ tm x) h V) (λx y f=>f (fZ tm x) (fZ tm y) h V)
  (λx y z f=>f (fZ tm x) (fZ tm y) (fZ tm z) h V) (λxs f=>f (xs.map (fZ tm)) h V) i
abbrev ago(i:XA Prop)(tm:T Value)(V:bO->(Nat->Value)->Prop):Prop:=
 XA.rec (motive:=λ_=>Prop) (λf=>f V) (λx f=>f (fZ tm x) V) (λx y f=>f (fZ tm x) (fZ tm y) V) (λxs f=>f (xs.map (fZ tm)) V) i
def fq(P:Program)(fv:Value)(args:List Value)(h:af)(V:KQ):Prop:=Cd False (EY P) P jP fv args h V
def jZ(P:Program)(name:String)(r:Value)(args:List Value)(h:af)(V:KQ):Prop:=Qk False (EY P) P jP name r args h V
def DA(P:Program)(c:Call)(tm:T Value)(h:af)(V:KQ):Prop:=
 match c.callee with
 | .value (.func f)=>aq P f (c.args.toList.map (fZ tm)) h V
 | .value x=>fq P (fZ tm x) (c.args.toList.map (fZ tm)) h V
 | .invoke r name=>jZ P name (fZ tm r) (c.args.toList.map (fZ tm)) h V
 | .builtin _=>False
def mH(P:Program)(op:Op)(tm:T Value)(h:af)(V:KQ):Prop:=
 match qi False P op with
 |some i=>aaw i tm h V
 |none=>match sn False P op with
  |some i=>ago i tm λo mk=>aG False o h λb h=>V (mk b) h
  |none=>match Cc False P op with
   |some i=>aaw i tm h V
   |none=>match op with
    | .call c=>DA P c tm h V
    | .next it false=>sk False And (fZ tm it) h V
    |_=>False
def au(v:Value)(w:Bool):Bool:=match v,w with | .bool true,true=>true | .bool false,false=>true|_,_=>false
def aj(b:Bool)(f:(Value->af->Prop)->Prop)(h:af)(V:KQ):Prop:=match b with|true=>f V|false=>V undef h
noncomputable abbrev QS(P:Program)(all os:List Oper):T Value->af->(T Value->af->Prop)->Prop:=
 List.rec (motive:=λ_=>T Value->af->(T Value->af->Prop)->Prop) (λtm h V=>V tm h)
  (λo _ ih tm h V=>Option.rec (motive:=λ_=>Prop) False
   (λg=>Option.rec (motive:=λ_=>Prop) (mH P o.op tm h λv h=>ih (jV tm o.dst v) h V)
    (λsw=>aj (au (eo tm sw.1) sw.2) (λκ'=>mH P o.op tm h κ') h λv h=>ih (jV tm o.dst v) h V) g) (guardOf all o)) os
def aH(o:Option Value)(h:af)(V:KQ):Prop:=match o with|some v=>V v h|none=>False
def yI(o:Option (bO × (Nat->Value)))(h:af)(V:KQ):Prop:=match o with|some (b,mk)=>aG False b h λn h=>V (mk n) h|none=>False
def bN(b:Bool)(p:Prop):Prop:=match b with|true=>p|false=>False
def bV(o:Option Value)(v:Value):Bool:=match o with|some u=>lE 8 u v|none=>false
def reN(o:Option Value):Bool:=match o with|some _=>true|none=>false
def reG(b r:Bool):Bool:=match b with|true=>r|false=>true
def VD(x:YA)(tm:T Value)(h:af):Option Value:=
 XI.rec (motive:=λ_=>Option Value) (λf=>f h λv _=>some v) (λx f=>f (fZ tm x) h λv _=>some v) (λx y f=>f (fZ tm x) (fZ tm y) h λv _=>some v)
  (λx y z f=>f (fZ tm x) (fZ tm y) (fZ tm z) h λv _=>some v) (λxs f=>f (xs.map (fZ tm)) h λv _=>some v) x
def mkW(x:OXA)(tm:T Value):Option (bO × (Nat->Value)):=
 XA.rec (motive:=λ_=>Option (bO × (Nat->Value))) (λf=>f λo mk=>some (o,mk)) (λx f=>f (fZ tm x) λo mk=>some (o,mk)) (λx y f=>f (fZ tm x) (fZ tm y) λo mk=>some (o,mk)) (λxs f=>f (xs.map (fZ tm)) λo mk=>some (o,mk)) x
def FH(P:Program)(os:List Oper)(D M:Nat)(tm:T Value)(h:af):List It->Bool
 | []=>true
 |(k,q)::wj=>match bit D k && !bit M k,iT P q.op with
  |true,.rd x=>(match guardOf os q with
   |some none=>(match q.dst with|some d=>bV (VD x tm h) (eo tm d)|none=>reN (VD x tm h))
   |some (some (s,w))=>reG (au (eo tm s) w) (match q.dst with|some d=>bV (VD x tm h) (eo tm d)|none=>reN (VD x tm h))
   |none=>false) && FH P os D M tm h wj
  |_,_=>FH P os D M tm h wj
def LZ(P:Program)(os:List Oper)(D M:Nat)(o:Oper)(tm:T Value)(h:af)(V:KQ):Prop:=
 match iT P o.op with
 | .rd x=>aH (VD x tm h) h V
 | .al x=>yI (mkW x tm) h V
 | .wr=>match Cg P D M (f_ os 0)with
  |false=>mH P o.op tm h V
  |true=>mH P o.op tm h λv h=>bN (FH P os D M (jV tm o.dst v) h (f_ os 0)) (V v h)
def FI(P:Program)(os:List Oper):List Nat->Nat->Nat->T Value->af->(T Value->af->Prop)->Prop
 | [],_,_,tm,h,V=>V tm h
 |i::is,D,M,tm,h,V=>match os[i]? with
  |none=>False
  |some o=>match guardOf os o with
   |none=>False
   |some none=>LZ P os D (match h_ P o with|true=>Nat.lor M (sq os i)|false=>M) o tm h λv h=>FI P os is (gf D i) (match h_ P o with|true=>Nat.lor M (sq os i)|false=>M) (jV tm o.dst v) h V
   |some (some (s,w))=>aj (au (eo tm s) w) (λκ'=>LZ P os D (match h_ P o with|true=>Nat.lor M (sq os i)|false=>M) o tm h κ') h λv h=>FI P os is (gf D i) (match h_ P o with|true=>Nat.lor M (sq os i)|false=>M) (jV tm o.dst v) h V
def VE(P:Program)(os:List Oper)(draw:Bool)(tm:T Value)(h:af)(V:T Value->af->Prop):Prop:=
 match draw with
 |false=>QS P os os tm h V
 |true=>match Dd P os with
  |some l=>FI P os l 0 0 tm h V
  |none=>False
def Ob(n:Nat)(l:List Nat):List Nat:=match l.any (Nat.beq n)with|true=>l|false=>n::l
def tj(l:List Oper):List Nat:=l.foldr (λo r=>match o.dst with|some d=>Ob d r|none=>r) []
def L5(l m:List Nat):List Nat:=l.foldr Ob m
def tV:Code->List Nat
 | .region _ os _=>tj os.toList
 | .seq a b | .cond _ a b=>L5 (tV a) (tV b)
 | .block _ c | .loop c | .scope c=>tV c
 |_=>[]
def L6(id:Nat):Code->Nat
 | .exit i=>match Nat.beq i id with|true=>1|false=>0
 | .seq a b | .cond _ a b=>L6 id a+L6 id b
 | .block _ c | .loop c | .scope c=>L6 id c
 |_=>0
def ways:Code->Nat
 | .seq a b=>ways a*ways b
 | .cond _ a b=>ways a+ways b
 | .block id c=>ways c+L6 id c
 | .loop _=>0
 | .scope c=>ways c
 | .exit _ | .ret=>0
 |_=>1
def an(l:List Value)(i:Nat):Value:=l.getD i undef
def QT:Nat->List Nat->List Value->T Value->T Value
 |_,[],_,tm=>tm
 |i,s::ss,l,tm=>QT (i+1) ss l (tm.bt s (an l i))
def Oc(ss:List Nat)(l:List Value)(tm:T Value):T Value:=QT 0 ss l tm
abbrev KT:=Ex->T Value->af->Prop
abbrev toN(N:List Value->af->Prop)(ss:List Nat)(V:KT):KT:=λe tm h=>Ex.rec (motive:=λ_=>Prop) (N (ss.map (eo tm)) h) (λi=>V (.exit i) tm h) (V .ret tm h) e
def dO(A:(List Value->af->Prop)->Prop)(B:List Value->af->Prop):Prop:=
 ∃J:List Value->af->Prop,A J/\∀l h,J l h->B l h
def dD(l0:List Value)(h0:af)(body:List Value->af->(List Value->af->Prop)->Prop):Prop:=
 ∃I:Nat->List Value->af->Prop,(∃n,I n l0 h0)/\∀n l h,I n l h->body l h λl' h'=>∃m,m<n/\I m l' h'
def aM(v:Value)(A B:Prop):Prop:=match v with | .bool true=>A | .bool false=>B|_=>False
abbrev alK(B:T Value->af->KT->Prop)(V:KT):KT:=λe tm h=>Ex.rec (motive:=λ_=>Prop) (B tm h V) (λi=>V (.exit i) tm h) (V .ret tm h) e
abbrev aax(id:Nat)(V:KT):KT:=λe tm h=>Ex.rec (motive:=λ_=>Prop) (V .normal tm h) (λi=>Bool.rec (motive:=λ_=>Prop) (V (.exit i) tm h) (V .normal tm h) (Nat.beq i id)) (V .ret tm h) e
def WP(P:Program):Code->T Value->af->KT->Prop
 | .skip,tm,h,V=>V .normal tm h
 | .label _,tm,h,V=>V .normal tm h
 | .region _ os draw,tm,h,V=>VE P os.toList draw tm h λtm h=>V .normal tm h
 | .seq a b,tm,h,V=>match Nat.ble (ways a) 1 with
  |true=>WP P a tm h (alK (WP P b) V)
  |false=>dO (λN=>WP P a tm h (toN N (tV a) V)) λl h=>WP P b (Oc (tV a) l tm) h V
 | .cond c a b,tm,h,V=>aM (fZ tm c) (WP P a tm h V) (WP P b tm h V)
 | .block id c,tm,h,V=>WP P c tm h (aax id V)
 | .scope c,tm,h,V=>WP P c tm h V
 | .loop c,tm,h,V=>dD ((tV c).map (eo tm)) h λl h N=>WP P c (Oc (tV c) l tm) h (toN N (tV c) V)
 | .exit id,tm,h,V=>V (.exit id) tm h
 | .ret,tm,h,V=>V .ret tm h
 |_,_,_,_=>False
abbrev Od(h:af)(tm:T Value):List BA->(List Value->Prop)->Prop:=
 List.rec (motive:=λ_=>(List Value->Prop)->Prop) (λV=>V [])
  (λr _ ih V=>BA.rec (motive:=λ_=>Prop) (λt=>ih λvs=>V (eo tm t::vs)) (λa=>ay False (eo tm a) h λv _=>ih λvs=>V (v::vs))
   (λa s=>aO False s (eo tm a) h λv _=>ih λvs=>V (v::vs)) False r)
abbrev VF(V:KQ)(h:af)(vs:List Value):Prop:=
 List.rec (motive:=λ_=>Prop) (V (.tuple #[]) h) (λv vs' _=>List.rec (motive:=λ_=>Prop) (V v h) (λ_ _ _=>V (.tuple ⟨vs⟩) h) vs') vs
abbrev alL(rs:List BA)(V:KQ):KT:=λe tm h=>Ex.rec (motive:=λ_=>Prop) (Od h tm rs λvs=>VF V h vs) (λ_=>False) (Od h tm rs λvs=>VF V h vs) e
def aW(P:Program)(f:FuncId)(args:List Value)(h:af)(V:KQ):Prop:=
 match y_ P f with
 | .none=>False
 | .mk c rs nt=>match Nat.ble args.length nt with
  |true=>WP P c (lay args .nil 0) h (alL rs V)
  |false=>False
variable {P:Program}
theorem L7(i:XI Prop)(tm:T Value)(h:af)(V:KQ):i.run tm h V=aaw i tm h V:=by
 cases i with
 |k0 f=>rfl
 |k1 x f=>exact XI.cF ..
 |k2 x y f=>exact XI.dM ..
 |k3 x y z f=>exact XI.qH ..
 |kn xs f=>exact XI.iX ..
theorem VG(i:XA Prop)(tm:T Value)(V:bO->(Nat->Value)->Prop):i.run tm V=ago i tm V:=by
 cases i with
 |k0 f=>rfl
 |k1 x f=>exact XA.cF ..
 |k2 x y f=>exact XA.dM ..
 |kn xs f=>exact XA.iX ..
theorem QU(x:YA)(tm:T Value)(h:af):lF x tm h=VD x tm h:=by
 unfold lF;cases x with
 |k0 f=>rfl
 |k1 x f=>exact XI.cF ..
 |k2 x y f=>exact XI.dM ..
 |k3 x y z f=>exact XI.qH ..
 |kn xs f=>exact XI.iX ..
theorem aay(x:OXA)(tm:T Value):ze x tm=mkW x tm:=by
 unfold ze;cases x with
 |k0 f=>rfl
 |k1 x f=>exact XA.cF ..
 |k2 x y f=>exact XA.dM ..
 |kn xs f=>exact XA.iX ..
theorem Ke(c:Call)(tm:T Value)(h:af)(V:KQ):oI False (EY P) P c jP tm h V=DA P c tm h V:=by
 unfold oI DA;cases c.callee with
 |value x=>cases x<;>(simp only[sY,iy];rfl)
 |invoke r name=>simp only[sY,iy];rfl
 |builtin b=>rfl
theorem DB(op:Op)(tm:T Value)(h:af)(V:KQ):qE False (EY P) P op jP tm h V=mH P op tm h V:=by
 unfold qE mH;cases hR:qi False P op with
 |some i=>exact L7 ..
 |none=>
  cases hA:sn False P op with
  |some i=>exact VG ..
  |none=>
   cases hW:Cc False P op with
   |some i=>exact L7 ..
   |none=>
    cases op<;>try rfl
    case call c=>exact Ke ..
    case next it s=>cases s<;>first|rfl|(simp only[iy];rfl)
theorem tq(tm:T Value)(s:Nat)(w:Bool):jt tm (some (s,w))=au (eo tm s) w:=rfl
theorem aaz(f:(Value->af->Prop)->Prop)(tm:T Value)(h:af)(s:Nat)(w:Bool)(d:Option Nat)(k:T Value->af->Prop):aj (au (eo tm s) w) f h (λv h=>k (jV tm d v) h)=Bool.rec (motive:=λ_=>Prop) (qs tm d undef h k) (f λv h=>qs tm d v h k) (jt tm (some (s,w))):=by
 rw[tq];cases au (eo tm s) w with
 |true=>show f _=f _;simp only[iz]
 |false=>show k _ h=qs tm d undef h k;rw[iz]
theorem VH(all:List Oper):∀(os:List Oper)(tm:T Value)(h:af)(V:T Value->af->Prop),QS P all os tm h V=pR False (EY P) P jP all os tm h V:=by
 intro os
 induction os with
 |nil=>intro tm h V;rfl
 |cons o os ih=>
  intro tm h V;have ih':(λtm h=>QS P all os tm h V)=λtm h=>pR False (EY P) P jP all os tm h V:=by funext tm h;exact ih tm h V
  show Option.rec (motive:=λ_=>Prop) False (λg=>Option.rec (motive:=λ_=>Prop) (mH P o.op tm h λv h=>(λtm h=>QS P all os tm h V) (jV tm o.dst v) h)
    (λsw=>aj (au (eo tm sw.1) sw.2) (λκ'=>mH P o.op tm h κ') h λv h=>(λtm h=>QS P all os tm h V) (jV tm o.dst v) h) g) (guardOf all o)=XO.rec (motive:=λ_=>Prop)
   (λg d f=>Bool.rec (motive:=λ_=>Prop) (qs tm d undef h λtm h=>pR False (EY P) P jP all os tm h V)
    (f jP tm h λv h=>qs tm d v h λtm h=>pR False (EY P) P jP all os tm h V) (jt tm g)) (Ce False (EY P) P all o)
  rw[ih'];unfold Ce;cases guardOf all o with
  |none=>rfl
  |some g=>
   cases g with
   |none=>
    show mH P o.op tm h _=qE False (EY P) P o.op jP tm h λv h=>qs tm o.dst v h _
    simp only[iz];rw[DB]
   |some sw=>
    obtain⟨s,w⟩:=sw
    show aj (au (eo tm s) w) (λκ'=>mH P o.op tm h κ') h _=Bool.rec (motive:=λ_=>Prop) _ (qE False (EY P) P o.op jP tm h _) _
    refine(aaz (λκ'=>mH P o.op tm h κ') tm h s w o.dst λtm h=>pR False (EY P) P jP all os tm h V).trans ?_;simp only[DB]
theorem QW(os:List Oper)(D M:Nat)(tm:T Value)(h:af):∀wj:List It,FH P os D M tm h wj=xD P os D M tm h wj:=by
 intro wj
 induction wj with
 |nil=>rfl
 |cons it wj ih=>
  obtain⟨k,q⟩:=it;unfold FH xD;cases bit D k && !bit M k with
  |false=>exact ih
  |true=>
   cases iT P q.op with
   |rd x=>
    simp only[ih,QU]
    congr 1
    cases guardOf os q with
    |none=>rfl
    |some g=>
     cases g with
     |none=>
      cases VD x tm h<;>cases q.dst<;>rfl
     |some sw=>
      obtain⟨s,w⟩:=sw;simp only[tq];cases au (eo tm s) w
      .rfl
      .cases VD x tm h<;>cases q.dst<;>rfl
   |al x=>exact ih
   |wr=>exact ih
theorem Kf(os:List Oper)(D M:Nat)(o:Oper)(tm:T Value)(h:af)(k:T Value->af->Prop):LZ P os D M o tm h (λv h=>k (jV tm o.dst v) h)=(match iT P o.op with
   | .rd x=>match lF x tm h with
    |some v=>qs tm o.dst v h k
    |none=>False
   | .al x=>match ze x tm with
    |some (b,mk)=>aG False b h λn h=>qs tm o.dst (mk n) h k
    |none=>False
   | .wr=>qE False (EY P) P o.op jP tm h λv h=>qs tm o.dst v h λtm h=>
     match Cg P D M (f_ os 0)with
     |false=>k tm h
     |true=>match xD P os D M tm h (f_ os 0)with
      |true=>k tm h
      |false=>False):=by
 unfold LZ;cases iT P o.op with
 |rd x=>
  simp only[QU,iz];cases VD x tm h<;>rfl
 |al x=>
  simp only[aay,iz];cases mkW x tm<;>rfl
 |wr=>
  simp only[iz,DB];cases Cg P D M (f_ os 0)with
  |false=>rfl
  |true=>simp only[QW];rfl
theorem QX(os:List Oper):∀(l:List Nat)(D M:Nat)(tm:T Value)(h:af)(V:T Value->af->Prop),FI P os l D M tm h V=jK False (EY P) P jP os l D M tm h V:=by
 intro l
 induction l with
 |nil=>intro D M tm h V;rfl
 |cons i is ih=>
  intro D M tm h V;unfold FI jK;cases os[i]? with
  |none=>rfl
  |some o=>
   simp only[ih];cases hg:guardOf os o with
   |none=>simp only[kS,hg]
   |some g=>
    have hk:=λM'=>Kf (P:=P) os D M' o tm h λtm h=>jK False (EY P) P jP os is (gf D i) M' tm h V;cases g with
    |none=>
     refine(hk _).trans ?_;simp only[kS,hg];rfl
    |some sw=>
     obtain⟨s,w⟩:=sw;simp only[kS,hg,tq];cases au (eo tm s) w with
     |true=>exact hk _
     |false=>simp only[iz];rfl
theorem VI(os:List Oper)(draw:Bool)(tm:T Value)(h:af)(V:T Value->af->Prop):VE P os draw tm h V=lX False (EY P) P jP os draw tm h V:=by
 cases draw with
 |false=>exact VH os os tm h V
 |true=>
  unfold VE lX;cases Dd P os with
  |none=>rfl
  |some l=>exact QX os l 0 0 tm h V
end Go.Vai

namespace Go.Vai
open Go
variable {P:Program}{φ:eW}{h:af}{w:World}
abbrev ok(p:Prop):Prop:=p
theorem uw:¬ok False:=id
theorem QY:iB ok (EY P) P:=
 ⟨λ_ _ h=>h,λf g hg args args' h φ w V ha hr hgd=>by cases hg;exact hgd φ w args' ha hr⟩
theorem FJ:mF ok P jP:=by
 intro c r tm h V φ w nt a _ _ _ _ hg;exact False.elim hg
def Kg(ss:List Nat)(nt:Nat)(tm dy:T Value):Prop:=∀t,t<nt->t∉ss->eo dy t=eo tm t
def sI(P:Program)(nt:Nat)(φ:eW)(h:af)(w:World)(ds:List Deferred)(V:KT)(ss:List Nat)(tm:T Value)(e:Exit)(a':Act)(w':World):Prop:=
 ∃x dy h' φ',e=QH x/\V x dy h'/\TR φ' nt dy a'/\HR P φ' h' w'/\Ext φ φ' h h' w w'/\a'.defers=ds/\Kg ss nt tm dy
theorem sI.after{nt:Nat}{φ1:eW}{h1:af}{w1:World}{ds ds1:List Deferred}{V:KT}{ss ss1 ss2:List Nat}{tm tm1 agp:T Value}{e:Exit}{a2:Act}{w2:World}(hx:Ext φ φ1 h h1 w w1)(hd:ds1=ds)(hk:Kg ss1 nt tm tm1)(hk':∀t,t<nt->eo agp t=eo tm1 t)(hs:∀t,t∉ss->t∉ss1/\t∉ss2)(hp:sI P nt φ1 h1 w1 ds1 V ss2 agp e a2 w2):sI P nt φ h w ds V ss tm e a2 w2:=by
 obtain⟨x,tm2,h2,φ2,rfl,k1,k2,k3,k4,k5,k6⟩:=hp;exact⟨x,tm2,h2,φ2,rfl,k1,k2,k3,hx.trans k4,k5.trans hd,λt ht hn=>(k6 t ht (hs t hn).2).trans ((hk' t ht).trans (hk t ht (hs t hn).1))⟩
theorem FL{n t:Nat}{l:List Nat}:t∈Ob n l<->t=n\/t∈l:=by
 unfold Ob;split
 .rename_i h;obtain⟨x,hx,he⟩:=List.any_eq_true.mp h;have:=cD he;subst this;constructor
  .exact .inr
  .rintro(rfl|h')<;>assumption
 .simp
theorem rL{t:Nat}{l m:List Nat}:t∈L5 l m<->t∈l\/t∈m:=by
 induction l with
 |nil=>simp[L5]
 |cons a l ih=>
  show t∈Ob a (L5 l m)<->_
  rw[FL,ih];simp[or_assoc]
theorem zD{t:Nat}:∀{l:List Oper},t∈tj l<->∃o∈l,o.dst=some t:=by
 intro l
 induction l with
 |nil=>simp[tj]
 |cons o l ih=>
  have:tj (o::l)=match o.dst with|some d=>Ob d (tj l)|none=>tj l:=rfl
  rw[this];cases hd:o.dst with
  | none=>simp only[ih];constructor
          .rintro⟨q,hq,e⟩;exact⟨q,.tail _ hq,e⟩
          .rintro⟨q,hq,e⟩;cases hq with
           |head=>rw[hd]at e;cases e
           |tail _ hq=>exact⟨q,hq,e⟩
  |some d=>
   simp only[FL,ih];constructor
   .rintro(rfl|⟨q,hq,e⟩)
    .exact⟨o,.head _,hd⟩
    .exact⟨q,.tail _ hq,e⟩
   .rintro⟨q,hq,e⟩;cases hq with
    |head=>rw[hd]at e;cases e;exact .inl rfl
    |tail _ hq=>exact .inr ⟨q,hq,e⟩
theorem QZ{nt:Nat}:∀(ss:List Nat)(pre:List Value)(f:Nat->Value)(tm:T Value)(t:Nat),(∀s∈ss,s<nt)->t<nt->eo (QT pre.length ss (pre++ss.map f) tm) t=if t∈ss then f t else eo tm t:=by
 intro ss
 induction ss with
 |nil=>intro pre f tm t _ _;simp[QT]
 |cons s ss ih=>
  intro pre f tm t hs ht;simp only[List.map_cons,QT];have hsl:an (pre++f s::ss.map f) pre.length=f s:=by simp[an]
  rw[hsl];have hih:=ih (pre++[f s]) f (tm.bt s (f s)) t (λs hs'=>hs s (.tail _ hs')) ht;simp only[List.length_append,List.length_cons,List.length_nil,List.append_assoc,List.cons_append,List.nil_append,Nat.zero_add]at hih;rw[hih];by_cases h1:t∈ss
  .rw[if_pos h1,if_pos (.tail _ h1)]
  ·rw[if_neg h1];have h2:eo (tm.bt s (f s)) t=if s=t then f s else eo tm t:=by
    simp only[eo];rw[T.nH _ _ (Nat.lt_succ_self _) (Nat.lt_succ_self _)];by_cases hst:s=t
    .rw[if_pos hst,if_pos hst]
    .rw[if_neg hst,if_neg hst]
   rw[h2];by_cases h3:s=t
   .subst h3;rw[if_pos rfl,if_pos (.head _)]
   .rw[if_neg h3,if_neg (by simp[h1,Ne.symm h3])]
theorem Q0{nt:Nat}(ss:List Nat)(f:Nat->Value)(tm:T Value)(t:Nat)(hs:∀s∈ss,s<nt)(ht:t<nt):eo (Oc ss (ss.map f) tm) t=if t∈ss then f t else eo tm t:=
 QZ ss [] f tm t hs ht
theorem wI{nt:Nat}{ss:List Nat}{tm dy:T Value}(hs:∀s∈ss,s<nt)(hk:Kg ss nt tm dy):∀t,t<nt->eo (Oc ss (ss.map (eo dy)) tm) t=eo dy t:=by
 intro t ht;rw[Q0 ss _ _ t hs ht];split
 .rfl
 .rename_i h;exact(hk t ht h).symm
theorem TR.YN{nt:Nat}{ss:List Nat}{tm dy:T Value}{a:Act}(hs:∀s∈ss,s<nt)(hk:Kg ss nt tm dy)(ht:TR φ nt dy a):TR φ nt (Oc ss (ss.map (eo dy)) tm) a:=
 ⟨ht.size,ht.small,λt hlt=>by rw[wI hs hk t hlt];exact ht.rel t hlt⟩
theorem Q3{nt:Nat}:∀{c:Code},codeOk nt c=true->∀s∈tV c,s<nt:=by
 intro c
 induction c with
 |region id os d=>
  intro hc s hs;simp only[codeOk,List.all_eq_true]at hc;obtain⟨o,ho,he⟩:=zD.mp hs;have:=dY (hc o ho);rw[he]at this;exact dX this
 |seq a b iha ihb=>
  intro hc s hs;simp only[codeOk,Bool.and_eq_true]at hc;rcases rL.mp hs with h|h
  .exact iha hc.1 s h
  .exact ihb hc.2 s h
 |cond x a b iha ihb=>
  intro hc s hs;simp only[codeOk,Bool.and_eq_true]at hc;rcases rL.mp hs with h|h
  .exact iha hc.1.2 s h
  .exact ihb hc.2 s h
 |block id c ih=>intro hc s hs;exact ih hc s hs
 |loop c ih=>intro hc s hs;exact ih hc s hs
 |scope c ih=>intro hc s hs;exact ih hc s hs
 |_=>intro _ s hs;simp[tV]at hs
theorem Kh{os:Array Oper}{t:Nat}(h:t∉tj os.toList):∀(i:Nat)(o:Oper),os[i]? = some o->o.dst≠some t:=by
 intro i o ho hd;exact h (zD.mpr ⟨o,List.mem_of_getElem? (by rw[Array.getElem?_toList];exact ho),hd⟩)
theorem Ki{c:Code}{r:Option Nat}{nt:Nat}{V:KT}{lR:T Value}(hn:r=none\/qD c=true)(hc:codeOk nt c=true)(ih:∀(tm:T Value)(h:af)(V:KT)(φ:eW)(w:World)(a:Act),TR φ nt tm a->HR P φ h w->WP P c tm h V->c.wpIn (FR r) 0 P (sI P nt φ h w a.defers V (tV c) tm) a w)(I:Nat->List Value->af->Prop)(hI:∀n l h,I n l h->WP P c (Oc (tV c) l lR) h (toN (λl' h'=>∃m,m<n/\I m l' h') (tV c) V)):∀(n:Nat)(tm:T Value)(h:af)(φ:eW)(w:World)(a:Act),Kg (tV c) nt lR tm->TR φ nt tm a->HR P φ h w->I n ((tV c).map (eo tm)) h->lu r P c (sI P nt φ h w a.defers V (tV c) tm) a w:=by
 intro n
 induction n using Nat.strongRecOn with
 |ind n ihn=>
  intro tm h φ w a hk ht hr hi;have hs:=Q3 hc;refine lu.round (wpIn_mono (ih _ h _ φ w a (ht.YN hs hk) hr (hI n _ h hi)) ?_);rintro e a' w' ⟨x,dy,h',φ',rfl,g1,g2,g3,g4,g5,g6⟩;have hkeep:Kg (tV c) nt tm dy:=λt htn hnt=>(g6 t htn hnt).trans (wI hs hk t htn);cases x with
  |normal=>
   obtain⟨m,hm,hi'⟩:=g1;have hk2:Kg (tV c) nt lR dy:=λt htn hnt=>(hkeep t htn hnt).trans (hk t htn hnt);exact(ihn m hm dy h' φ' w' a' hk2 g2 g3 hi').mono λe a2 w2 hp=>sI.after g4 g5 hkeep (λ_ _=>rfl) (λt ht=>⟨ht,ht⟩) hp
  |exit i=>exact⟨.exit i,dy,h',φ',rfl,g1,g2,g3,g4,g5,hkeep⟩
  |ret=>exact⟨.ret,dy,h',φ',rfl,g1,g2,g3,g4,g5,hkeep⟩
theorem Q4(hm:P.follows .mixedOrders=true):∀(c:Code)(r:Option Nat)(nt:Nat),(r=none\/qD c=true)->codeOk nt c=true->∀(tm:T Value)(h:af)(V:KT)(φ:eW)(w:World)(a:Act),
  TR φ nt tm a->HR P φ h w->WP P c tm h V->c.wpIn (FR r) 0 P (sI P nt φ h w a.defers V (tV c) tm) a w:=by
 intro c
 induction c with
 |skip=>intro r nt hn hc tm h V φ w a ht hr hg;exact wpIn_skip ⟨.normal,tm,h,φ,rfl,hg,ht,hr,Ext.refl _ _ _,rfl,λ_ _ _=>rfl⟩
 |label l=>intro r nt hn hc tm h V φ w a ht hr hg;exact wpIn_label ⟨.normal,tm,h,φ,rfl,hg,ht,hr,Ext.refl _ _ _,rfl,λ_ _ _=>rfl⟩
 |ret=>intro r nt hn hc tm h V φ w a ht hr hg;exact wpIn_ret ⟨.ret,tm,h,φ,rfl,hg,ht,hr,Ext.refl _ _ _,rfl,λ_ _ _=>rfl⟩
 |exit id=>intro r nt hn hc tm h V φ w a ht hr hg;exact wpIn_exit ⟨.exit id,tm,h,φ,rfl,hg,ht,hr,Ext.refl _ _ _,rfl,λ_ _ _=>rfl⟩
 |region id os draw=>
  intro r nt hn hc tm h V φ w a ht hr hg;have hok:∀q∈os.toList,fU nt q=true:=by
   simp only[codeOk,List.all_eq_true]at hc;exact hc
  have hg':ok (lX False (EY P) P jP os.toList draw tm h λtm h=>V .normal tm h):=by
   have:VE P os.toList draw tm h (λtm h=>V .normal tm h):=hg
   rwa [VI]at this
  have hQ:∀dy h' φ' a' w',ok ((λtm h=>V .normal tm h) dy h')->TR φ' nt dy a'->HR P φ' h' w'->Ext φ φ' h h' w w'->a'.defers=a.defers->
    (∀t,t<nt->(∀(i:Nat)(o:Oper),os[i]? = some o->o.dst≠some t)->eo dy t=eo tm t)->sI P nt φ h w a.defers V (tV (.region id os draw)) tm .normal a' w':=
   λdy h' φ' a' w' g1 g2 g3 g4 g5 g6=>⟨.normal,dy,h',φ',rfl,g1,g2,g3,g4,g5,λt ht hnt=>g6 t ht (Kh hnt)⟩
  cases draw with
  |false=>
   refine wpIn_region ?_;rw[List.range_eq_range'];have:=ur (r0:=r) (lR:=tm) uw QY FJ hok hQ os.toList 0 φ tm h a w (λk=>by simp) ht hr (Ext.refl _ _ _) rfl (λ_ _ _=>rfl) hg';simpa using this
  |true=>exact tg (good:=ok) uw QY hm jP FJ os id nt hok φ tm h a w _ ht hr hg' r _ hQ
 |seq x y ihx ihy=>
  intro r nt hn hc tm h V φ w a ht hr hg;simp only[codeOk,Bool.and_eq_true]at hc;obtain⟨ye,hn2⟩:=yH (x:=x) (y:=y) hn rfl;have hmem:∀t,t∉tV (.seq x y)->t∉tV x/\t∉tV y:=λt ht=>by
   have:¬(t∈tV x\/t∈tV y):=λhh=>ht (rL.mpr hh);exact not_or.mp this
  unfold WP at hg;split at hg
  .refine wpIn_seq (wpIn_mono (ihx r nt ye hc.1 tm h _ φ w a ht hr hg) ?_);rintro e a' w' ⟨e0,dy,h',φ',rfl,g1,g2,g3,g4,g5,g6⟩;cases e0 with
   |normal=>exact wpIn_mono (ihy r nt hn2 hc.2 dy h' V φ' w' a' g2 g3 g1) λe a2 w2 hp=>sI.after g4 g5 g6 (λ_ _=>rfl) hmem hp
   |exit i=>exact⟨.exit i,dy,h',φ',rfl,g1,g2,g3,g4,g5,λt ht hnt=>g6 t ht (hmem t hnt).1⟩
   |ret=>exact⟨.ret,dy,h',φ',rfl,g1,g2,g3,g4,g5,λt ht hnt=>g6 t ht (hmem t hnt).1⟩
  .obtain⟨J,hA,hB⟩:=hg;refine wpIn_seq (wpIn_mono (ihx r nt ye hc.1 tm h _ φ w a ht hr hA) ?_);rintro e a' w' ⟨e0,dy,h',φ',rfl,g1,g2,g3,g4,g5,g6⟩;have hs:=Q3 hc.1;cases e0 with
   |normal=>exact wpIn_mono (ihy r nt hn2 hc.2 _ h' V φ' w' a' (g2.YN hs g6) g3 (hB _ _ g1)) λe a2 w2 hp=>sI.after g4 g5 g6 (wI hs g6) hmem hp
   |exit i=>exact⟨.exit i,dy,h',φ',rfl,g1,g2,g3,g4,g5,λt ht hnt=>g6 t ht (hmem t hnt).1⟩
   |ret=>exact⟨.ret,dy,h',φ',rfl,g1,g2,g3,g4,g5,λt ht hnt=>g6 t ht (hmem t hnt).1⟩
 |cond x c1 c2 ih1 ih2=>
  intro r nt hn hc tm h V φ w a ht hr hg;simp only[codeOk,Bool.and_eq_true]at hc;obtain⟨ye,hn2⟩:=yH (x:=c1) (y:=c2) hn rfl;have hmem:∀t,t∉tV (.cond x c1 c2)->t∉tV c1/\t∉tV c2:=λt ht=>by
   have:¬(t∈tV c1\/t∈tV c2):=λhh=>ht (rL.mpr hh);exact not_or.mp this
  have hg':aM (fZ tm x) (WP P c1 tm h V) (WP P c2 tm h V):=hg;have hx:=ht.eval hc.1.1;unfold aM at hg';split at hg'<;>try exact hg'.elim
  .rename_i hv;rw[hv]at hx;refine wpIn_cond_true (by generalize a.eval x=z at hx;cases hx;rfl) (wpIn_mono (ih1 r nt ye hc.1.2 tm h V φ w a ht hr hg') ?_);rintro e a' w' ⟨e0,dy,h',φ',rfl,g1,g2,g3,g4,g5,g6⟩;exact⟨e0,dy,h',φ',rfl,g1,g2,g3,g4,g5,λt ht hnt=>g6 t ht (hmem t hnt).1⟩
  .rename_i hv;rw[hv]at hx;refine wpIn_cond_false (by generalize a.eval x=z at hx;cases hx;rfl) (wpIn_mono (ih2 r nt hn2 hc.2 tm h V φ w a ht hr hg') ?_);rintro e a' w' ⟨e0,dy,h',φ',rfl,g1,g2,g3,g4,g5,g6⟩;exact⟨e0,dy,h',φ',rfl,g1,g2,g3,g4,g5,λt ht hnt=>g6 t ht (hmem t hnt).2⟩
 |block id c ih=>
  intro r nt hn hc tm h V φ w a ht hr hg;refine wpIn_block (wpIn_mono (ih r nt hn hc tm h _ φ w a ht hr hg) ?_);rintro e a' w' ⟨e0,dy,h',φ',rfl,g1,g2,g3,g4,g5,g6⟩;cases e0 with
  |normal=>exact⟨.normal,dy,h',φ',rfl,g1,g2,g3,g4,g5,g6⟩
  |ret=>exact⟨.ret,dy,h',φ',rfl,g1,g2,g3,g4,g5,g6⟩
  |exit i=>
   have UY:Bool.rec (motive:=λ_=>Prop) (V (.exit i) dy h') (V .normal dy h') (Nat.beq i id):=g1;simp only[QH,Exit.inBlock];cases hb:Nat.beq i id with
   |true=>
    rw[hb]at UY;rw[if_pos (cD hb)];exact⟨.normal,dy,h',φ',rfl,UY,g2,g3,g4,g5,g6⟩
   |false=>
    rw[hb]at UY;rw[if_neg (oJ hb)];exact⟨.exit i,dy,h',φ',rfl,UY,g2,g3,g4,g5,g6⟩
 |scope c ih=>
  intro r nt hn hc tm h V φ w a ht hr hg;refine zu (ih r nt hn hc tm h V φ w a ht hr hg) ?_;rintro l a' w' ⟨x,dy,h',φ',hx,_⟩;cases x<;>cases hx
 |loop c ih=>
  intro r nt hn hc tm h V φ w a ht hr hg;obtain⟨I,⟨n,h0⟩,hI⟩:=hg;exact(Ki (c:=c) (V:=V) (lR:=tm) hn hc (λtm h V φ w a=>ih r nt hn hc tm h V φ w a) I hI n tm h φ w a (λ_ _ _=>rfl) ht hr h0).wp
 |_=>intro r nt hn hc tm h V φ w a ht hr hg;exact False.elim hg
theorem VJ(h:af)(tm:T Value):∀(rs:List BA)(V:List Value->Prop),Od h tm rs V=eT False h tm rs V:=by
 intro rs
 induction rs with
 |nil=>intro V;rfl
 |cons r rs ih=>
  intro V;cases r with
  |tmp t=>simp only[eT,iy];exact ih _
  |one a=>simp only[eT,iy];show ay False (eo tm a) h (λv _=>Od h tm rs λvs=>V (v::vs))=_;simp only[ih];rfl
  |agg a s=>simp only[eT,iy];show aO False s (eo tm a) h (λv _=>Od h tm rs λvs=>V (v::vs))=_;simp only[ih];rfl
  |bad=>rfl
theorem VK(V:KQ)(h:af)(vs:List Value):VF V h vs=Qj V h vs:=by
 cases vs with
 |nil=>rfl
 |cons v vs=>cases vs<;>rfl
theorem aF(hm:P.follows .mixedOrders=true){f:FuncId}{args:List Value}{h:af}{V:KQ}(hg:aW P f args h V):aq P f args h V:=by
 intro φ w args' ha hr;unfold aW at hg;split at hg
 .exact hg.elim
 .rename_i c rs nt hc;obtain⟨fn,hf,hb,rfl,rfl,BF,hrk,hnt,jx⟩:=uo hc;split at hg<;>try exact hg.elim
  rename_i hle;refine⟨jx _ _,?_⟩;have hst:=TR.start (nt:=fn.ntmps) ha hnt (cU hle);refine yG (r:=none) (n:=0) |>.1 (callsIn_of_wp_marks hf hb trivial (wpIn_mono (Q4 hm c none _ (.inl rfl) BF _ h _ φ w _ hst hr hg) ?_))
  rintro e a' w' ⟨x,dy,h',φ',rfl,g1,g2,g3,g4,g5,_⟩;have UZ:a'.defers=[]:=g5
  have fin:Od h' dy (fn.results.toList.map (xC P)) (λvs=>VF V h' vs)->
    LeavesInM (FR none) 0 P fn a'.tmps (λe w'=>∃φ' v v' h',e=.returned v'/\ok (V v h')/\VR φ' v v'/\HR P φ' h' w'/\Ext φ φ' h h' w w') a'.defers .returning w':=by
   intro k;rw[VJ]at k;simp only[VK]at k;rw[UZ];refine qM (a:=a') (φ':=φ') (h':=h') ?_ [] w'.heap.size w' trivial g3 g4;intro w2 JO hx2;obtain⟨vs,vs',k1,k2,k3⟩:=qL (good:=ok) uw JO g2 _ hrk k;refine⟨_,um k3,?_⟩;cases k2 with
   |nil=>exact⟨φ',_,_,h',rfl,k1,VR.tuple' .nil,JO,hx2⟩
   |cons hv hvs=>
    cases hvs with
    |nil=>exact⟨φ',_,_,h',rfl,k1,hv,JO,hx2⟩
    |cons Vq hvs=>exact⟨φ',_,_,h',rfl,k1,VR.tuple' (.cons hv (.cons Vq hvs)),JO,hx2⟩
  cases x with
  |normal=>exact fin g1
  |exit i=>exact False.elim g1
  |ret=>exact fin g1
theorem aq.mono{f:FuncId}{args:List Value}{V κ':Value->af->Prop}(hc:aq P f args h V)(hk:∀v h',V v h'->κ' v h'):aq P f args h κ':=by
 intro φ w args' ha hr;obtain⟨h1,h2⟩:=hc φ w args' ha hr;refine⟨h1,h2.mono ?_⟩;rintro e w' ⟨φ',v,v',h',rfl,g1,g2,g3,g4⟩;exact⟨φ',v,v',h',rfl,hk _ _ g1,g2,g3,g4⟩
end Go.Vai

namespace Go.Vai
open Go
variable {β:Type}{fl:β}
theorem T.Oe{α:Type}(a a':α)(p:List Bool):∀t:T α,T.pS a' p (T.pS a p t)=T.pS a' p t:=by
 induction p with
 |nil=>intro t;cases t<;>rfl
 |cons b p ih=>intro t;cases t<;>cases b<;>simp only[T.pS]<;>rw[ih]
theorem T.Of{α:Type}(a b:α):∀(p q:List Bool)(t:T α),p≠q->T.pS a p (T.pS b q t)=T.pS b q (T.pS a p t):=by
 intro p
 induction p with
 |nil=>
  intro q t hpq;cases q with
  |nil=>exact absurd rfl hpq
  |cons c q=>cases t<;>cases c<;>rfl
 |cons x p ih=>
  intro q t hpq;cases q with
  |nil=>cases t<;>cases x<;>rfl
  |cons c q=>
   have h:x=c->p≠q:=λe e'=>hpq (by rw[e,e']);cases x<;>cases c<;>cases t<;>simp only[T.pS]<;>first|rfl|rw[ih _ _ (h rfl)]
theorem aaA{a b:Nat}(h:a≠b):key a≠key b:=λe=>h (key_inj (Nat.lt_succ_self _) (Nat.lt_succ_self _) e)
theorem T.zF{α:Type}(t:T α)(n:Nat)(a a':α):(t.bt n a).bt n a'=t.bt n a':=T.Oe a a' (key n) t
theorem T.FM{α:Type}(t:T α){n m:Nat}(a b:α)(h:n≠m):(t.bt n a).bt m b=(t.bt m b).bt n a:=(T.Of a b (key n) (key m) t (aaA h)).symm
theorem T.aD{α:Type}(t:T α){n m:Nat}(a:α)(h:n≠m):(t.bt n a).get m=t.get m:=T.iH t a (Nat.lt_succ_self _) (Nat.lt_succ_self _) h
theorem Kj(vs:List Value):∀(t:T Value)(off n:Nat)(a:Value),n<off->lay vs (t.bt n a) off=(lay vs t off).bt n a:=by
 induction vs with
 |nil=>intro t off n a _;rfl
 |cons v vs ih=>
  intro t off n a h;simp only[lay];rw[T.FM t a v YYZ,ih _ _ _ _ YYZ]
theorem VL(vs:List Value):∀(t:T Value)(off i:Nat)(a:Value),i<vs.length->(lay vs t off).bt (off+i) a=lay (vs.set i a) t off:=by
 induction vs with
 |nil=>intro t off i a h;simp at h
 |cons v vs ih=>
  intro t off i a h;cases i with
  |zero=>
   simp only[List.set_cons_zero,lay,Nat.add_zero];rw[<-Kj vs _ _ _ _ (Nat.lt_succ_self off),T.zF]
  |succ i=>
   simp only[List.set_cons_succ,lay];rw[<-ih _ _ _ _ (by simpa using h),show off+(i+1)=off+1+i by omega]
def over(vs:List Value)(o:Nat)(ws:List Value):List Value:=vs.take o++ws++vs.drop (o+ws.length)
theorem nL{vs:List Value}{o:Nat}{ws:List Value}(h:o+ws.length<=vs.length):(over vs o ws).length=vs.length:=by
 simp[over];omega
theorem FN(vs:List Value)(o:Nat):over vs o []=vs:=by simp[over]
theorem Og(vs:List Value)(o:Nat)(w:Value)(ws:List Value)(h:o<vs.length):over vs o (w::ws)=over (vs.set o w) (o+1) ws:=by
 simp only[over,List.length_cons];rw[List.take_succ_eq_append_getElem (by simpa using h)];simp only[List.getElem_set_self];rw[List.take_set_of_le (Nat.le_refl _),List.drop_set_of_lt YYZ];simp[Nat.add_comm,Nat.add_left_comm]
theorem DC(ws:List Value):∀(vs:List Value)(o:Nat),o+ws.length<=vs.length->lay ws (lay vs .nil 0) o=lay (over vs o ws) .nil 0:=by
 induction ws with
 |nil=>intro vs o _;rw[FN];rfl
 |cons w ws ih=>
  intro vs o h;simp only[List.length_cons]at h;have h1:=VL vs .nil 0 o w YYZ;rw[Nat.zero_add]at h1;rw[Og vs o w ws YYZ,<-ih _ _ (by simp;omega),<-h1];rfl
def ah(vs:List Value)(e:TypeId)(op:Bool):bO:=.cells vs.length (lay vs .nil 0) e op
def roO(vs:List Value)(e:TypeId):bO:=.ro vs.length (lay vs .nil 0) e
theorem Q5(vs:List Value):∀(c:T Value)(off:Nat)(i:Nat),(lay vs c off).get i=if off<=i/\i<off+vs.length then vs[i-off]? else c.get i:=by
 induction vs with
 |nil=>intro c off i;simp[lay];omega
 |cons v vs ih=>
  intro c off i;rw[lay,ih];by_cases h1:off+1<=i/\i<off+1+vs.length
  .rw[if_pos h1,if_pos (by simp;omega),show i-off=(i-(off+1))+1 by omega];simp
  .rw[if_neg h1];by_cases h2:off=i
   .subst h2;rw[T.az];simp
   .rw[T.aD _ _ h2,if_neg (by simp;omega)]
theorem oS(vs:List Value)(i:Nat):(lay vs .nil 0).get i=vs[i]?:=by
 rw[Q5];by_cases h:i<vs.length
 .rw[if_pos ⟨Nat.zero_le _,YYZ⟩,Nat.sub_zero]
 .rw[if_neg YYZ,T.get_nil];symm;simp;omega
def Kk(fl:β)(o:Option Value)(V:Value->β):β:=match o with|some v=>V v|none=>fl
theorem Cr(v:Value)(V:Value->β):Kk fl (some v) V=V v:=id rfl
def uy(fl:β)(ob:Option bO)(o:Nat)(V:Value->β):β:=match ob with
 |some (.cells n c _ _)=>match Nat.ble (Nat.succ o) n,c.get o with
  |true,some v=>V v
  |_,_=>fl
 |some (.ro n c _)=>match Nat.ble (Nat.succ o) n,c.get o with
  |true,some v=>V v
  |_,_=>fl
 |_=>fl
theorem FO(b o:Nat)(h:af)(V:YYY β):ay fl (.pointer (some ⟨b,o,none⟩)) h V=uy fl (h.bl.get b) o λv=>V v h:=by
 unfold ay uy;dsimp only;generalize h.bl.get b=z;cases z with
 |none=>rfl
 |some ob=>cases ob<;>rfl
theorem rM(vs:List Value)(e:TypeId)(op:Bool)(o:Nat)(V:Value->β):uy fl (some (ah vs e op)) o V=Kk fl vs[o]? V:=by
 unfold uy ah;simp only[oS];by_cases h:o<vs.length
 .rw[show Nat.ble (Nat.succ o) vs.length=true from Nat.ble_eq_true_of_le h,List.getElem?_eq_getElem h];rfl
 ·have:Nat.ble (Nat.succ o) vs.length=false:=by
   cases hb:Nat.ble (Nat.succ o) vs.length with
   |false=>rfl
   |true=>exact absurd (Nat.le_of_ble_eq_true hb) h
  rw[this,List.getElem?_eq_none YYZ];rfl
theorem Q6(vs:List Value)(e:TypeId)(o:Nat)(V:Value->β):uy fl (some (roO vs e)) o V=Kk fl vs[o]? V:=rM vs e false o V
theorem Kl(vs:List Value)(off:Nat):∀(n:Nat)(acc:List Value)(V:List Value->β),off+n<=vs.length->mq fl (lay vs .nil 0) off n acc V=V ((vs.drop off).take n++acc):=by
 intro n
 induction n with
 |zero=>intro acc V _;simp;rfl
 |succ n ih=>
  intro acc V h
  show Option.rec (motive:=λ_=>β) fl (λv=>mq fl (lay vs .nil 0) off n (v::acc) V) ((lay vs .nil 0).get (Nat.add off n))=_
  rw[oS,show Nat.add off n=off+n from rfl,List.getElem?_eq_getElem YYZ]
  show mq fl (lay vs .nil 0) off n (vs[off+n]::acc) V=_
  rw[ih _ _ YYZ,List.take_succ_eq_append_getElem (by simp;omega)];simp
def yh(fl:β)(ob:Option bO)(o s:Nat)(V:List Value->β):β:=match ob with
 |some (.cells n c _ _)=>match Nat.ble (Nat.add o s) n with
  |true=>mq fl c o s [] V
  |false=>fl
 |some (.ro n c _)=>match Nat.ble (Nat.add o s) n with
  |true=>mq fl c o s [] V
  |false=>fl
 |_=>fl
theorem FP(s b o:Nat)(h:af)(V:YYY β):aO fl s (.pointer (some ⟨b,o,none⟩)) h V=yh fl (h.bl.get b) o s λl=>V (.agg ⟨l⟩) h:=by
 unfold aO yh;dsimp only;generalize h.bl.get b=z;cases z with
 |none=>rfl
 |some ob=>cases ob<;>rfl
theorem wJ(vs:List Value)(e:TypeId)(op:Bool)(o s:Nat)(V:List Value->β)(h:o+s<=vs.length):yh fl (some (ah vs e op)) o s V=V ((vs.drop o).take s):=by
 unfold yh ah;simp only;rw[show Nat.ble (Nat.add o s) vs.length=true from Nat.ble_eq_true_of_le h];simp only;rw[Kl _ _ _ _ _ h,List.append_nil]
theorem Q7(vs:List Value)(e:TypeId)(o s:Nat)(V:List Value->β)(h:o+s<=vs.length):yh fl (some (roO vs e)) o s V=V ((vs.drop o).take s):=wJ vs e false o s V h
theorem dS(o:bO)(h:af)(V:Nat->af->β):aG fl o h V=V h.nx ⟨h.nx+1,h.bl.bt h.nx o,h.lo⟩:=by
 unfold aG;rw[T.ia,bY]
theorem cq(b:Nat)(o:bO)(h:af)(V:af->β)(hlo:h.lo<=b):setBlock fl b o h V=V ⟨h.nx,h.bl.bt b o,h.lo⟩:=by
 unfold setBlock;rw[Nat.ble_eq_true_of_le hlo,T.ia]
theorem iQ(vs:List Value)(e:TypeId)(op:Bool)(V:bO->β)(hl:vs.length<=1000000000000):aN fl vs e op V=V (ah vs e op):=by
 unfold aN;rw[yD];simp only[Nat.zero_add];rw[Nat.ble_eq_true_of_le hl];rfl
theorem wK(n:Nat):∀(ws:List Value)(c:T Value)(o:Nat)(V:T Value->β),o+ws.length<=n->(ws.all dK)=true->nY fl n ws c o V=V (lay ws c o):=by
 intro ws
 induction ws with
 |nil=>intro c o V _ _;rfl
 |cons v ws ih=>
  intro c o V h1 h2;simp only[List.all_cons,Bool.and_eq_true,List.length_cons]at h1 h2
  show Bool.rec (motive:=λ_=>β) fl (Bool.rec (motive:=λ_=>β) fl (T.set c o v λc=>nY fl n ws c (Nat.succ o) V) (Nat.ble (Nat.succ o) n)) (dK v)=_
  rw[h2.1,Nat.ble_eq_true_of_le YYZ];simp only[T.ia];rw[ih _ _ _ YYZ h2.2];rfl
def U0(fl:β)(ob:Option bO)(s b o:Nat)(ws:List Value)(h:af)(V:af->β):β:=match ob with
 |some (.cells n c e op)=>match Nat.beq ws.length s with
  |true=>nY fl n ws c o λc=>setBlock fl b (.cells n c e op) h V
  |false=>fl
 |_=>fl
theorem Cs(s b o:Nat)(v:Value)(h:af)(V:YYY β):aV fl s (.pointer (some ⟨b,o,none⟩)) v h V=U0 fl (h.bl.get b) s b o v.cells.toList h λh=>V undef h:=by
 unfold aV U0;dsimp only;generalize h.bl.get b=z;cases z with
 |none=>rfl
 |some ob=>cases ob<;>rfl
theorem wL(vs:List Value)(e:TypeId)(op:Bool)(s b o:Nat)(ws:List Value)(h:af)(V:af->β)(h1:ws.length=s)(h2:ws.all dK=true)(h3:o+s<=vs.length)(hlo:h.lo<=b):U0 fl (some (ah vs e op)) s b o ws h V=V ⟨h.nx,h.bl.bt b (ah (over vs o ws) e op),h.lo⟩:=by
 subst h1;unfold U0 ah;simp only;rw[show Nat.beq ws.length ws.length=true from Nat.beq_refl _];simp only;rw[wK _ _ _ _ _ h3 h2,cq _ _ _ _ hlo,DC _ _ _ h3,nL h3]
theorem FQ(v:Value)(h:af)(V:KQ):aH (some v) h V=V v h:=id rfl
theorem zG(o:bO)(mk:Nat->Value)(h:af)(V:KQ):yI (some (o,mk)) h V=V (mk h.nx) ⟨h.nx+1,h.bl.bt h.nx o,h.lo⟩:=by
 show aG False o h (λn h=>V (mk n) h)=_;rw[dS]
theorem zH(p:Prop):bN true p=p:=id rfl
theorem zI(b:Bool):au (.bool b) true=b:=by cases b<;>exact id rfl
theorem xN(b:Bool):au (.bool b) false=!b:=by cases b<;>exact id rfl
theorem xO(f:(Value->af->Prop)->Prop)(h:af)(V:KQ):aj true f h V=f V:=id rfl
theorem uz(f:(Value->af->Prop)->Prop)(h:af)(V:KQ):aj false f h V=V undef h:=id rfl
theorem zJ(A B:Prop):aM (.bool true) A B=A:=id rfl
theorem xP(A B:Prop):aM (.bool false) A B=B:=id rfl
theorem L8(n:Int)(h : -9223372036854775808<=n/\n<=9223372036854775807):IntKind.i64.wrap n=n:=IntWalk.i64_in _ h
theorem L9(P:Program)(t:TypeId)(cn gd:Bool)(a b:Int)(h:af)(V:YYY β):aI fl P .add t cn gd (.int .i64 a) (.int .i64 b) h V=V (.int .i64 (IntKind.i64.wrap (a+b))) h:=by
 simp only[aI,ji,oD,iW,fm];rfl
theorem L_(P:Program)(t:TypeId)(cn gd:Bool)(a b:Int)(h:af)(V:YYY β):aI fl P .sub t cn gd (.int .i64 a) (.int .i64 b) h V=V (.int .i64 (IntKind.i64.wrap (a-b))) h:=by
 simp only[aI,ji,oD,iW,fm];rfl
theorem Ma(P:Program)(t:TypeId)(cn gd:Bool)(a b:Int)(h:af)(V:YYY β):aI fl P .mul t cn gd (.int .i64 a) (.int .i64 b) h V=V (.int .i64 (IntKind.i64.wrap (a*b))) h:=by
 simp only[aI,ji,oD,iW,fm];rfl
theorem Mb(P:Program)(t:TypeId)(cn gd:Bool)(a b:Int)(h:af)(V:YYY β)(hb:b≠0):aI fl P .quo t cn gd (.int .i64 a) (.int .i64 b) h V=V (.int .i64 (IntKind.i64.wrap (Int.tdiv a b))) h:=by
 simp only[aI,ji,oD,iW,fm,iO,hb,decide_false]
theorem Mc(P:Program)(t:TypeId)(cn gd:Bool)(k:IntKind)(a b:Int)(h:af)(V:YYY β):aI fl P .eql t cn gd (.int k a) (.int k b) h V=V (.bool (decide (a=b))) h:=by
 simp only[aI,gX,decide_true,oD,bZ,iO]
theorem Md(P:Program)(t:TypeId)(cn gd:Bool)(k:IntKind)(a b:Int)(h:af)(V:YYY β):aI fl P .neq t cn gd (.int k a) (.int k b) h V=V (.bool (!decide (a=b))) h:=by
 simp only[aI,gX,decide_true,oD,bZ,iO]
theorem Me(P:Program)(t:TypeId)(cn gd:Bool)(k:IntKind)(a b:Int)(h:af)(V:YYY β):aI fl P .lss t cn gd (.int k a) (.int k b) h V=V (.bool (decide (a<b))) h:=by
 simp only[aI,gX,decide_true,oD,bZ,iw]
theorem Mf(P:Program)(t:TypeId)(cn gd:Bool)(k:IntKind)(a b:Int)(h:af)(V:YYY β):aI fl P .gtr t cn gd (.int k a) (.int k b) h V=V (.bool (decide (b<a))) h:=by
 simp only[aI,gX,decide_true,oD,bZ,iw]
theorem Mg(P:Program)(t:TypeId)(cn gd:Bool)(k:IntKind)(a b:Int)(h:af)(V:YYY β):aI fl P .leq t cn gd (.int k a) (.int k b) h V=V (.bool (!decide (b<a))) h:=by
 simp only[aI,gX,decide_true,oD,bZ,iw]
theorem Mh(P:Program)(t:TypeId)(cn gd:Bool)(k:IntKind)(a b:Int)(h:af)(V:YYY β):aI fl P .geq t cn gd (.int k a) (.int k b) h V=V (.bool (!decide (a<b))) h:=by
 simp only[aI,gX,decide_true,oD,bZ,iw]
theorem Q8(b:Bool)(h:af)(V:YYY β):iG fl .not (.bool b) h V=V (.bool (!b)) h:=by simp only[iG,bZ]
theorem Q9(a:Int)(h:af)(V:YYY β):iG fl .neg (.int .i64 a) h V=V (.int .i64 (IntKind.i64.wrap (0-a))) h:=by simp only[iG,iW,fm];rfl
theorem FT(k:IntKind)(a:Int)(h:af)(V:YYY β):mz fl .i64 (.int k a) h V=V (.int .i64 (IntKind.i64.wrap a)) h:=by simp only[mz,iW,fm]
theorem Ct(a b:Value)(h:af)(V:YYY β):bh fl (.bool true) a b h V=V a h:=id rfl
theorem zK(a b:Value)(h:af)(V:YYY β):bh fl (.bool false) a b h V=V b h:=id rfl
theorem gr(x:Option Addr)(n c:Nat)(h:af)(V:YYY β):bF fl (.slice x n c) h V=V (.int .i64 (n:Int)) h:=id rfl
theorem uA(off b o:Nat)(h:af)(V:YYY β):aa fl off (.pointer (some ⟨b,o,none⟩)) h V=V (.pointer (some ⟨b,o+off,none⟩)) h:=by simp only[aa,bY];rfl
theorem Mi(a:Addr)(h:af)(V:YYY β):aT fl (.pointer (some a)) h V=V (.pointer (some a)) h:=id rfl
theorem uB(f:FuncId)(a b:Array Value)(h:af)(V:YYY β):aT fl (.func (.func f) a b) h V=V (.func (.func f) a b) h:=id rfl
theorem Cu(a:Value)(l:List Value)(h:af)(V:YYY β):aU fl 0 (.tuple ⟨a::l⟩) h V=V a h:=id rfl
theorem Cv(a b:Value)(l:List Value)(h:af)(V:YYY β):aU fl 1 (.tuple ⟨a::b::l⟩) h V=V b h:=id rfl
theorem Cw(a b c:Value)(l:List Value)(h:af)(V:YYY β):aU fl 2 (.tuple ⟨a::b::c::l⟩) h V=V c h:=id rfl
theorem br(s b o n c i:Nat)(h:af)(V:YYY β)(hi:i<n):aK fl s (.slice (some ⟨b,o,none⟩) n c) (.int .i64 (i:Int)) h V=V (.pointer (some ⟨b,o+i*s,none⟩)) h:=by
 show(match Nat.ble (Nat.succ i) n with|true=>_|_=>_)=_
 rw[show Nat.ble (Nat.succ i) n=true from Nat.ble_eq_true_of_le hi];simp only[bY];rfl
theorem FU(P:Program)(f:FuncId)(a b:Array Value)(args:List Value)(h:af)(V:KQ):fq P (.func (.func f) a b) args h V=aq P f (a.toList++args++b.toList) h V:=id rfl
theorem bf{p:Prop}[Decidable p](h:p):decide p=true:=decide_eq_true h
theorem aZ{p:Prop}[Decidable p](h:¬p):decide p=false:=decide_eq_false h
theorem dZ{a b:Int}(h:a<b):decide (a<b)=true:=decide_eq_true h
theorem cG{a b:Int}(h:b<=a):decide (a<b)=false:=decide_eq_false YYZ
theorem aaB{a b:Int}(h:a=b):decide (a=b)=true:=decide_eq_true h
theorem Q_{a b:Int}(h:a<b):decide (a=b)=false:=decide_eq_false YYZ
theorem YO{a b:Int}(h:b<a):decide (a=b)=false:=decide_eq_false YYZ
structure Le(h h':af):Prop where
 nx:h.nx<=h'.nx
 lo:h'.lo=h.lo
 get:∀b,b<h.nx->h'.bl.get b=h.bl.get b
theorem Le.refl(h:af):Le h h:=⟨Nat.le_refl _,rfl,λ_ _=>rfl⟩
theorem Le.trans{a b c:af}(x:Le a b)(y:Le b c):Le a c:=⟨Nat.le_trans x.nx y.nx,y.lo.trans x.lo,λi hi=>(y.get i (Nat.lt_of_lt_of_le hi x.nx)).trans (x.get i hi)⟩
theorem Le.new{a h:af}(x:Le a h)(o:bO):Le a ⟨h.nx+1,h.bl.bt h.nx o,h.lo⟩:=
 ⟨Nat.le_succ_of_le x.nx,x.lo,λi hi=>(T.aD _ _ (by have:=x.nx;omega)).trans (x.get i hi)⟩
theorem Le.set{a h:af}(x:Le a h){b:Nat}(hb:a.nx<=b)(o:bO):Le a ⟨h.nx,h.bl.bt b o,h.lo⟩:=
 ⟨x.nx,x.lo,λi hi=>(T.aD _ _ YYZ).trans (x.get i hi)⟩
theorem jH(h:af)(o:bO):∃A:af,A=⟨h.nx+1,h.bl.bt h.nx o,h.lo⟩/\Le h A/\A.bl.get h.nx=some o/\A.nx=h.nx+1/\A.lo=h.lo:=
 ⟨_,rfl,(Le.refl h).new _,T.az _ _ _,rfl,rfl⟩
theorem Km(h:af)(o p:bO):∃A:af,A=⟨h.nx+1+1,(h.bl.bt h.nx o).bt (h.nx+1) p,h.lo⟩/\Le h A/\A.bl.get h.nx=some o/\A.bl.get (h.nx+1)=some p/\A.nx=h.nx+1+1/\A.lo=h.lo:=
 ⟨_,rfl,((Le.refl h).new _).new _,(T.aD _ _ YYZ).trans (T.az _ _ _),T.az _ _ _,rfl,rfl⟩
abbrev UV(v : Value)(_ : af):Option Value := some v
theorem Le.up{h h' : af}(x : Le h h'){b : Nat}{o : Option bO}(g : h.bl.get b = o)(k : b < h.nx := by omega):h'.bl.get b = o := (x.get _ k).trans g
end Go.Vai

namespace Go.Vai
open Go Go.RowKit
variable {β:Type}{fl:β}{P:Program}
theorem DD{φ:eW}{v:Value}(hv:oA v=true):VR φ v v:=by
 cases v<;>first|exact VR.oA hv|(exact VR.wo (F2.oA hv))|cases hv
theorem Ra{φ:eW}:∀{l l':List Value},l.all kO=true->F2 (VR φ) l l'->l'=l:=by
 intro l
 induction l with
 |nil=>intro l' _ h;cases h;rfl
 |cons v l ih=>
  intro l' hs h;simp only[List.all_cons,Bool.and_eq_true]at hs;cases h with
  |cons h1 h2=>rw[ih hs.2 h2,VR.VA hs.1 h1]
theorem pU{φ:eW}{v v':Value}(hv:oA v=true)(h:VR φ v v'):v'=v:=by
 cases h with
 |agg a a' ha JK=>
  have:=Ra (l':=a'.toList) hv (F2.mB ha JK);obtain⟨l⟩:=a;obtain⟨l'⟩:=a';simp only at this;rw[this]
 |bool=>rfl
 |int=>rfl
 |string=>rfl
 |_=>cases hv
theorem FV{φ:eW}:∀{l:List Value},l.all oA=true->F2 (VR φ) l l:=by
 intro l
 induction l with
 |nil=>intro _;exact .nil
 |cons v l ih=>
  intro h;simp only[List.all_cons,Bool.and_eq_true]at h;exact .cons (DD h.1) (ih h.2)
theorem FW{φ:eW}:∀{l l':List Value},l.all oA=true->F2 (VR φ) l l'->l'=l:=by
 intro l
 induction l with
 |nil=>intro l' _ h;cases h;rfl
 |cons v l ih=>
  intro l' hs h;simp only[List.all_cons,Bool.and_eq_true]at hs;cases h with
  |cons h1 h2=>rw[ih hs.2 h2,pU hs.1 h1]
def bA(P:Program)(n:Nat)(f:FuncId)(args:List Value)(v:Value):Bool:=
 args.all oA && oA v && nG false Vz P (run false Vz P n) f args ⟨0,.nil,0⟩ λv' _=>lE 8 v' v
theorem gN(hm:P.follows .mixedOrders=true){n:Nat}{f:FuncId}{args:List Value}{v:Value}(ha:bA P n f args v=true){h:af}{V:KQ}(hk:V v h):aq P f args h V:=by
 intro φ w args' hf hr;have hfl:¬yes false:=by simp[yes]
 simp only[bA,Bool.and_eq_true]at ha;obtain⟨⟨ha1,hv⟩,ha2⟩:=ha;have:=FW ha1 hf;subst this;have hc:=gI (good:=yes) (w:=w) hfl (Dz (P:=P)) (Cn (good:=yes) hfl Dz (tg hfl Dz hm) n).1 (FV ha1) (HR.start w) ha2;refine⟨hc.1,Calls.mono hc.2 ?_⟩;rintro e w' ⟨φ',v1,v',h',rfl,g1,g2,g3,g4⟩;have e1:=Dr 8 _ _ g1;subst e1;have hfr:∀B,B<w.heap.size->w'.heap[B]? = w.heap[B]?:=λB hB=>g4.BC B hB λb pl e=>by cases e
 refine⟨φ,v1,v',h,rfl,hk,by rw[pU hv g2];exact DD hv,?_,?_⟩
 .exact⟨λb o pl h1 h2=>by rw[hfr _ (hr.dom b pl h2).2];exact hr.obj b o pl h1 h2,λb pl h1=>⟨(hr.dom b pl h1).1,Nat.lt_of_lt_of_le (hr.dom b pl h1).2 g4.size⟩,hr.keys,hr.Qp,hr.inj,hr.lo⟩
 .exact⟨Sub.refl φ,λb pl e e'=>(by rw[e]at e';cases e'),Nat.le_refl _,g4.size,λB hB _=>hfr B hB,λ_ _ _=>rfl,g4.tape,g4.os,g4.output,λ_ _=>trivial,rfl,λ_ _=>rfl,λb o pl _ _ _ _ hB=>hfr _ hB,g4.dr⟩
def DE(v:Value)(_h:af):Prop:=v=.bool true
def Has(ob:Option bO)(o:Nat)(ws:List Value):Prop:=
 ∃n c e,(ob=some (.ro n c e)\/∃op,ob=some (.cells n c e op))/\o+ws.length<=n/\∀j v,ws[j]? = some v->c.get (o+j)=some v
theorem Has.cells{vs:List Value}{e:TypeId}{op:Bool}{o k:Nat}(h:o+k<=vs.length):Has (some (ah vs e op)) o ((vs.drop o).take k):=by
 refine⟨vs.length,lay vs .nil 0,e,.inr ⟨op,rfl⟩,by simp;omega,λj v hj=>?_⟩;rw[oS];rw[List.getElem?_take]at hj;split at hj
 .simpa[List.getElem?_drop]using hj
 .cases hj
theorem Has.all{vs:List Value}{e:TypeId}{op:Bool}:Has (some (ah vs e op)) 0 vs:=by
 have:=Has.cells (vs:=vs) (e:=e) (op:=op) (o:=0) (k:=vs.length) YYZ;simpa using this
theorem Has.sub{ob:Option bO}{o:Nat}{ws:List Value}(h:Has ob o ws)(i k:Nat)(hk:i+k<=ws.length):Has ob (o+i) ((ws.drop i).take k):=by
 obtain⟨n,c,e,h1,h2,h3⟩:=h;refine⟨n,c,e,h1,by simp;omega,λj v hj=>?_⟩;rw[List.getElem?_take]at hj;split at hj
 .rw[List.getElem?_drop]at hj;rw[Nat.add_assoc];exact h3 _ _ hj
 .cases hj
theorem dH{ob:Option bO}{o:Nat}{ws:List Value}(h:Has ob o ws)(j:Nat)(V:Value->β):j<ws.length->uy fl ob (o+j) V=Kk fl ws[j]? V:=by
 intro hj;obtain⟨n,c,e,h1,h2,h3⟩:=h;have hle:Nat.ble (Nat.succ (o+j)) n=true:=Nat.ble_eq_true_of_le YYZ;have hv:=h3 j _ (List.getElem?_eq_getElem hj);rw[List.getElem?_eq_getElem hj];rcases h1 with rfl|⟨op,rfl⟩<;>simp only[uy,hle,hv,Kk]
theorem Cx(c:T Value)(ws:List Value)(off:Nat):∀(n:Nat)(acc:List Value)(V:List Value->β),n<=ws.length->(∀j v,ws[j]? = some v->c.get (off+j)=some v)->mq fl c off n acc V=V (ws.take n++acc):=by
 intro n
 induction n with
 |zero=>intro acc V _ _;simp;rfl
 |succ n ih=>
  intro acc V h hc
  show Option.rec (motive:=λ_=>β) fl (λv=>mq fl c off n (v::acc) V) (c.get (Nat.add off n))=_
  rw[show Nat.add off n=off+n from rfl,hc n _ (List.getElem?_eq_getElem YYZ)]
  show mq fl c off n (ws[n]::acc) V=_
  rw[ih _ _ YYZ hc,List.take_succ_eq_append_getElem YYZ];simp only[List.append_assoc,List.cons_append,List.nil_append]
theorem pV{ob:Option bO}{o:Nat}{ws:List Value}(h:Has ob o ws)(s:Nat)(V:List Value->β)(hs:s=ws.length):yh fl ob o s V=V ws:=by
 obtain⟨n,c,e,h1,h2,h3⟩:=h;subst hs;have hle:Nat.ble (Nat.add o ws.length) n=true:=Nat.ble_eq_true_of_le h2;rcases h1 with rfl|⟨op,rfl⟩<;>simp only[yh,hle]<;>rw[Cx c ws o _ _ _ (Nat.le_refl _) h3]<;>simp
theorem jA(h:af)(size n:Nat)(x:Value)(V:List Value->β)(h0:n*size=0):eN fl h size n x V=V []:=by
 unfold eN;rw[show Nat.mul n size=0 from h0]
theorem jl{h:af}{b o:Nat}{ws:List Value}(hh:Has (h.bl.get b) o ws)(size n l c:Nat)(V:List Value->β)(hn:n*size=ws.length):eN fl h size n (.slice (some ⟨b,o,none⟩) l c) V=V ws:=by
 unfold eN;rw[show Nat.mul n size=ws.length from hn];cases hw:ws with
 |nil=>rfl
 |cons w0 ws0=>
  obtain⟨nn,cc,e,h1,h2,h3⟩:=hh;rw[hw]at h2 h3;have hle:Nat.ble (Nat.add o (Nat.succ ws0.length)) nn=true:=Nat.ble_eq_true_of_le (by simpa using h2);have fin:mq fl cc o (Nat.succ ws0.length) [] V=V (w0::ws0):=by
   rw[Cx cc (w0::ws0) o _ _ _ (by simp) h3]
   congr 1
   simp
  rcases h1 with h1|⟨op,h1⟩<;>simp only[List.length_cons,h1,hle]<;>exact fin
section
variable {α:Type}(enc:α->List Value)(s:Nat)
def Sl(h:af)(v:Value)(L:List α):Prop:=
 ∃x cap,v=.slice x L.length cap/\(L≠[]->∃b o,x=some ⟨b,o,none⟩/\b<h.nx/\Has (h.bl.get b) o (L.flatMap enc))
variable {enc s}
theorem Sl.le{h h':af}{v:Value}{L:List α}(hs:Sl enc h v L)(hl:Le h h'):Sl enc h' v L:=by
 obtain⟨x,cap,h1,h2⟩:=hs;refine⟨x,cap,h1,λhn=>?_⟩;obtain⟨b,o,e1,e2,e3⟩:=h2 hn;exact⟨b,o,e1,Nat.lt_of_lt_of_le e2 hl.nx,by rw[hl.get b e2];exact e3⟩
theorem Sl.nil(h:af)(x:Option Addr)(cap:Nat):Sl enc h (.slice x 0 cap) ([]:List α):=⟨x,cap,rfl,λhn=>absurd rfl hn⟩
theorem bB(he:∀a:α,(enc a).length=s)(L:List α):(L.flatMap enc).length=L.length*s:=by
 induction L with
 |nil=>simp
 |cons a L ih=>simp[he,ih,Nat.succ_mul,Nat.add_comm]
theorem yJ(he:∀a:α,(enc a).length=s):∀(L:List α)(i:Nat)(hi:i<L.length),((L.flatMap enc).drop (i*s)).take s=enc L[i]:=by
 intro L
 induction L with
 |nil=>intro i hi;simp at hi
 |cons a L ih=>
  intro i hi;cases i with
  |zero=>simp[List.take_append,he]
  |succ i=>
   have:=ih i (by simpa using hi);simp only[List.flatMap_cons,List.getElem_cons_succ];rw[<-this,List.drop_append,show(enc a).drop ((i+1)*s)=[]from List.drop_eq_nil_of_le (by rw[he,Nat.succ_mul];omega),he,show(i+1)*s-s=i*s by rw[Nat.succ_mul];omega];rfl
theorem Sl.elem{h:af}{v:Value}{L:List α}(hs:Sl enc h v L)(he:∀a:α,(enc a).length=s)(i:Nat)(hi:i<L.length):∃b o cap,v=.slice (some ⟨b,o,none⟩) L.length cap/\b<h.nx/\Has (h.bl.get b) (o+i*s) (enc L[i]):=by
 obtain⟨x,cap,h1,h2⟩:=hs;obtain⟨b,o,e1,e2,e3⟩:=h2 (by intro e;rw[e]at hi;simp at hi);subst e1;refine⟨b,o,cap,h1,e2,?_⟩;have hle:i*s+s<=(L.flatMap enc).length:=by
  rw[bB he,<-Nat.succ_mul];exact Nat.mul_le_mul_right _ hi
 have:=e3.sub (i*s) s hle
 rwa [yJ he L i hi]at this
theorem Sl.len{h:af}{v:Value}{L:List α}(hs:Sl enc h v L)(V:YYY β)(h':af):bF fl v h' V=V (.int .i64 (L.length:Int)) h':=by
 obtain⟨x,cap,rfl,_⟩:=hs;rfl
theorem Sl.at{h:af}{v:Value}{L:List α}(hs:Sl enc h v L)(he:∀a:α,(enc a).length=s)(i:Nat)(hi:i<L.length):∃b o,b<h.nx/\Has (h.bl.get b) o (enc L[i])/\∀(β:Type)(fl:β)(h':af)(V:YYY β),aK fl s v (.int .i64 (i:Int)) h' V=V (.pointer (some ⟨b,o,none⟩)) h':=by
 obtain⟨b,o,cap,rfl,h1,h2⟩:=hs.elem he i hi;exact⟨b,o+i*s,h1,h2,λβ fl h' V=>br s b o _ cap i h' V hi⟩
theorem Sl.ld{h:af}{v:Value}{L:List α}(hs:Sl enc h v L)(he:∀a:α,(enc a).length=s)(i:Nat){p:α}(hp:L[i]? = some p):∃b o,b<h.nx/\(∀(β:Type)(fl:β)(h':af)(V:YYY β),aK fl s v (.int .i64 (i:Int)) h' V=V (.pointer (some ⟨b,o,none⟩)) h')/\
   (∀(β:Type)(fl:β)(V:List Value->β),yh fl (h.bl.get b) o s V=V (enc p))/\Has (h.bl.get b) o (enc p):=by
 obtain⟨hi,rfl⟩:=List.getElem?_eq_some_iff.1 hp;obtain⟨b,o,h1,h2,h3⟩:=hs.at he i hi;exact⟨b,o,h1,h3,λβ fl V=>pV h2 s V (he _).symm,h2⟩
theorem Sl.first{h:af}{v:Value}{L:List α}(hs:Sl enc h v L)(he:∀a:α,(enc a).length=s)(V:List Value->β):eN fl h s L.length v V=V (L.flatMap enc):=by
 by_cases hn:L=[]
 .subst hn;rw[jA _ _ _ _ _ (by simp)];rfl
 .obtain⟨x,cap,rfl,h2⟩:=hs;obtain⟨b,o,rfl,e2,e3⟩:=h2 hn;exact jl e3 _ _ _ _ _ (bB he L).symm
theorem Sl.new{h:af}{b:Nat}{L:List α}{e:TypeId}{op:Bool}(hb:b<h.nx)(hg:h.bl.get b=some (ah (L.flatMap enc) e op))(cap:Nat):Sl enc h (.slice (some ⟨b,0,none⟩) L.length cap) L:=
 ⟨_,cap,rfl,λ_=>⟨b,0,rfl,hb,by rw[hg];exact Has.all⟩⟩
variable (enc)
def iJ(a:af)(e:TypeId)(h:af)(v:Value)(L:List α):Prop:=
 (L=[]/\(v=.slice none 0 0\/∃b o,v=.slice (some ⟨b,o,none⟩) 0 0))\/∃b,v=.slice (some ⟨b,0,none⟩) L.length aX/\a.nx<=b/\b<h.nx/\h.lo<=b/\h.bl.get b=some (ah (L.flatMap enc) e true)
variable {enc}
theorem iJ.sl{a h:af}{e:TypeId}{v:Value}{L:List α}(ho:iJ enc a e h v L):Sl enc h v L:=by
 rcases ho with⟨rfl,rfl|⟨b,o,rfl⟩⟩|⟨b,rfl,h1,h2,h3,h4⟩
 .exact Sl.nil _ _ _
 .exact Sl.nil _ _ _
 .exact Sl.new h2 h4 _
theorem iJ.le{a h h':af}{e:TypeId}{v:Value}{L:List α}(ho:iJ enc a e h v L)(hl:Le h h'):iJ enc a e h' v L:=by
 rcases ho with ho|⟨b,h0,h1,h2,h3,h4⟩
 .exact .inl ho
 .exact .inr ⟨b,h0,h1,Nat.lt_of_lt_of_le h2 hl.nx,by rw[hl.lo];exact h3,by rw[hl.get b h2];exact h4⟩
theorem append_nil{h:af}{e:TypeId}{z:List Value}{v x:Value}(hx:Sl enc h x ([]:List α))(hv:∃b n c,v=.slice b n c)(V:YYY β):bD fl e s z false v x h V=V v h:=by
 obtain⟨b,n,c,rfl⟩:=hv;obtain⟨y,cap,rfl,_⟩:=hx;simp only[bD,kP,List.length_nil];rw[jA _ _ _ _ _ (by simp)]
set_option maxRecDepth 20000 in
theorem d_{a h:af}{e:TypeId}{z:List Value}{v x:Value}{L M:List α}(he:∀a:α,(enc a).length=s)(hone:∀a:α,(enc a).all dK=true)(hs0:0<s)(hs1:s<=100)(ho:iJ enc a e h v L)(hx:Sl enc h x M)(hle:Le a h)(hb:L.length+M.length<=1000000)(hal:h.lo<=h.nx)(V:KQ)(hk:∀v' h',iJ enc a e h' v' (L++M)->Le a h'->h'.nx<=h.nx+1->h.nx<=h'.nx->V v' h'):bD False e s z false v x h V:=by
 by_cases hM:M=[]
 .subst hM;rw[append_nil hx (by rcases ho with⟨rfl,rfl|⟨b,o,rfl⟩⟩|⟨b,rfl,_⟩<;>exact⟨_,_,_,rfl⟩)];exact hk v h (by simpa using ho) hle (Nat.le_succ _) (Nat.le_refl _)
 .obtain⟨m,hm⟩:∃m,M.length=m+1:=⟨M.length-1,by have:=List.length_pos_iff.2 hM;omega⟩
  have hfl:=bB (enc:=enc) he;have iK:=hx.first (β:=Prop) (fl:=False) he;obtain⟨y,cap,rfl,h2⟩:=hx;have hml:∀K:List α,K.length<=1000000->(K.flatMap enc).length<=1000000000000:=λK hK=>by
   rw[hfl];have:=Nat.mul_le_mul hK hs1;omega
  have fresh:∀(hh:af)(ws:List Value),ws=(L++M).flatMap enc->Le a hh->hh.nx=h.nx->hh.lo=h.lo->dh False ws e true hh λb h'=>V (.slice (some ⟨b,0,none⟩) (L.length+M.length) aX) h':=by
   intro hh ws hw Rb hnx hlo;subst hw;unfold dh;rw[iQ _ _ _ _ (hml _ (by simp;omega)),dS];refine hk _ _ (.inr ⟨hh.nx,by simp,Rb.nx,Nat.lt_succ_self _,by show hh.lo<=_;omega,T.az _ _ _⟩) (Rb.new _) (by show hh.nx+1<=_;omega) (by show h.nx<=hh.nx+1;omega)
  rcases ho with⟨rfl,hv⟩|⟨b,rfl,h3,h4,h5,h6⟩
  .have hF:=fresh h (M.flatMap enc) (by simp) hle rfl rfl;simp only[List.length_nil,Nat.zero_add]at hF;rcases hv with rfl|⟨b,o,rfl⟩
   .unfold bD kP;simp only;rw[iK];simp only[hm,bY];rw[show Nat.ble (Nat.add 0 (m+1)) 1000000000=true from Nat.ble_eq_true_of_le (by show 0+(m+1)<=_;omega)];rw[hm]at hF;have e1:Nat.add 0 (m+1)=m+1:=by show 0+(m+1)=_;omega
    rw[e1];exact hF
   .unfold bD kP;simp only;rw[iK];simp only[hm,bY];have e1:Nat.add 0 (m+1)=m+1:=by show 0+(m+1)=_;omega
    rw[e1,show Nat.ble (m+1) 1000000000=true from Nat.ble_eq_true_of_le YYZ];rw[hm]at hF
    show eN False h s 0 _ _
    rw[jA _ _ _ _ _ (by simp)];exact hF
  .unfold bD kP;simp only;rw[iK];simp only[hm,bY];have e1:Nat.add L.length (m+1)=L.length+(m+1):=rfl;rw[e1,show Nat.ble (L.length+(m+1)) 1000000000=true from Nat.ble_eq_true_of_le YYZ];have e2:Nat.beq aX gK=false:=by decide
   have e3:Nat.beq aX aX=true:=Nat.beq_refl _;simp only[e2,e3,h6];have e4:Nat.ble (Nat.add 0 (Nat.mul (L.length+(m+1)) s)) (L.flatMap enc).length=false:=by
    rw[hfl];cases Rc:Nat.ble (Nat.add 0 (Nat.mul (L.length+(m+1)) s)) (L.length*s)with
    |false=>rfl
    |true=>
     have h7:0+(L.length+(m+1))*s<=L.length*s:=Nat.le_of_ble_eq_true Rc;rw[Nat.add_mul,Nat.succ_mul]at h7;omega
   have e5:(M.flatMap enc).all dK=true:=by
    rw[List.all_flatMap];simp only[List.all_eq_true];intro x _;exact List.all_eq_true.1 (hone x)
   simp only[ah,Nat.beq_refl,e4,e5,Bool.and_self];have hh:Has (h.bl.get b) 0 (L.flatMap enc):=by rw[h6];exact Has.all
   rw[jl hh s L.length _ _ _ (hfl L).symm,cq _ _ _ _ h5];have hF:=fresh ⟨h.nx,h.bl.bt b (.dead (L.flatMap enc).length e),h.lo⟩ (L.flatMap enc++M.flatMap enc) (by simp) (hle.set h3 _) rfl rfl;rw[hm]at hF;exact hF
end
end Go.Vai
namespace Go.Vai
open Go
theorem Cy(zs:List Value):bq zs 1=zs:=by simp[bq]
theorem xQ(w:Bool):au undef w=false:=by cases w<;>rfl
theorem Re(a:Value)(l:List Value):an (a::l) 0=a:=id rfl
theorem Rf(a:Value)(l:List Value)(n:Nat):an (a::l) (n+1)=an l n:=id rfl
theorem rN(l:List Value):(Value.cells (.agg ⟨l⟩)).toList=l:=id rfl
theorem rO(k:IntKind)(n:Int):(Value.cells (.int k n)).toList=[.int k n]:=id rfl
theorem pW(b:Bool):(Value.cells (.bool b)).toList=[.bool b]:=id rfl
theorem rP(a:Option Addr):(Value.cells (.pointer a)).toList=[.pointer a]:=id rfl
theorem nM(a:Option Addr)(n c:Nat):(Value.cells (.slice a n c)).toList=[.slice a n c]:=id rfl
theorem Mj(k:IntKind)(n:Int):dK (.int k n)=true:=id rfl
theorem FX(b:Bool):dK (.bool b)=true:=id rfl
theorem Mk(s:ByteArray):dK (.string s)=true:=id rfl
theorem Ml(a:Option Addr):dK (.pointer a)=true:=id rfl
theorem Mm(a:Option Addr)(n c:Nat):dK (.slice a n c)=true:=id rfl
theorem Mn(a:Option Nat):dK (.map a)=true:=id rfl
theorem Mo(f:Fn)(a b:Array Value):dK (.func f a b)=true:=id rfl
theorem Mp(t:TypeId)(v:Value):dK (.iface t v)=true:=id rfl
theorem qS(vs ws:List Value)(h:ws.length=vs.length):over vs 0 ws=ws:=by simp[over,h]
variable {β:Type}{fl:β}
theorem Rg:∀(new old:List Value)(V:List Value->β),new.length<=old.length->tZ fl new old V=V (over old 0 new):=by
 intro new
 induction new with
 |nil=>intro old V _;rw[FN];cases old<;>rfl
 |cons v new ih=>
  intro old V h;cases old with
  |nil=>simp at h
  |cons o old=>
   simp only[tZ];rw[ih old _ (by simpa using h)];simp[over]
theorem VM(new:List Value):∀(o:Nat)(old:List Value)(V:List Value->β),o+new.length<=old.length->de fl new o old V=V (over old o new):=by
 intro o
 induction o with
 |zero=>
  intro old V h;have:de fl new 0 old V=tZ fl new old V:=by cases old<;>rfl
  rw[this,Rg _ _ _ (by simpa using h)]
 |succ o ih=>
  intro old V h;cases old with
  |nil=>simp at h
  |cons v old=>
   simp only[de];rw[ih old _ (by simp at h;omega)];simp[over,Nat.add_right_comm]
theorem uC(cs:List Value)(V:List Value->β):bC fl [] [] cs V=V cs:=id rfl
theorem rQ(off size:Nat)(ps:List (Nat × Nat))(v:Value)(vs cs:List Value)(V:List Value->β)(h1:v.cells.toList.length=size)(h2:off+size<=cs.length):bC fl ((off,size)::ps) (v::vs) cs V=bC fl ps vs (over cs off v.cells.toList) V:=by
 subst h1
 show(match Nat.beq v.cells.toList.length v.cells.toList.length with|false=>fl|true=>de fl v.cells.toList off cs λcs=>bC fl ps vs cs V)=_
 rw[Nat.beq_refl];simp only;rw[VM _ _ _ _ h2]
theorem Rh(size:Nat)(v:Value)(cs:List Value)(V:List Value->β)(h1:v.cells.toList.length=size)(h2:cs.length=size):bC fl [(0,size)] [v] cs V=V v.cells.toList:=by
 rw[rQ _ _ _ _ _ _ _ h1 YYZ,uC,qS _ _ YYZ]
end Go.Vai

namespace Go.Vai
open Go
section
variable {β:Type}{fl:β}{P:Program}{h h':af}{V:YYY β}{a a' b b' c c':Value}
@[congr] theorem aaC{op:BinOp}{t:TypeId}{cn gd:Bool}(ha:a=a')(hb:b=b'):aI fl P op t cn gd a b h V=aI fl P op t cn gd a' b' h V:=by rw[ha,hb]
@[congr] theorem afo{op:UnOp}(ha:a=a'):iG fl op a h V=iG fl op a' h V:=by rw[ha]
@[congr] theorem YP{k:IntKind}(ha:a=a'):mz fl k a h V=mz fl k a' h V:=by rw[ha]
@[congr] theorem YQ(hc:c=c')(ha:a=a')(hb:b=b'):bh fl c a b h V=bh fl c' a' b' h V:=by rw[ha,hb,hc]
@[congr] theorem aaD(ha:a=a'):aT fl a h V=aT fl a' h V:=by rw[ha]
@[congr] theorem Oh{o:Nat}(ha:a=a'):aa fl o a h V=aa fl o a' h V:=by rw[ha]
@[congr] theorem Oi{s:Nat}(ha:a=a')(hb:b=b'):aK fl s a b h V=aK fl s a' b' h V:=by rw[ha,hb]
@[congr] theorem Oj{n s:Nat}(ha:a=a')(hb:b=b'):mu fl n s a b h V=mu fl n s a' b' h V:=by rw[ha,hb]
@[congr] theorem VN{g:Bool}{s o:Nat}(ha:a=a'):sV fl g s o a h V=sV fl g s o a' h V:=by rw[ha]
@[congr] theorem VO{g:Bool}{n s:Nat}(ha:a=a')(hb:b=b'):y8 fl g n s a b h V=y8 fl g n s a' b' h V:=by rw[ha,hb]
@[congr] theorem VP(ha:a=a')(hb:b=b'):y9 fl a b h V=y9 fl a' b' h V:=by rw[ha,hb]
@[congr] theorem Ri{i:Nat}(ha:a=a'):aU fl i a h V=aU fl i a' h V:=by rw[ha]
@[congr] theorem YR(ha:a=a'):ay fl a h V=ay fl a' h V:=by rw[ha]
@[congr] theorem YS{s:Nat}(ha:a=a'):aO fl s a h V=aO fl s a' h V:=by rw[ha]
@[congr] theorem VS{s:Nat}(ha:a=a')(hb:b=b'):aV fl s a b h V=aV fl s a' b' h V:=by rw[ha,hb]
@[congr] theorem afp{o o':Option bO}{i:Nat}{k:Value→β}(ho:o=o'):uy fl o i k=uy fl o' i k:=by rw[ho]
@[congr] theorem afq{o o':Option bO}{i s:Nat}{k:List Value→β}(ho:o=o'):yh fl o i s k=yh fl o' i s k:=by rw[ho]
@[congr] theorem afr{o o':Option bO}{s i j:Nat}{ws YT:List Value}{k:af→β}(ho:o=o')(hw:ws=YT)(hh:h=h'):U0 fl o s i j ws h k=U0 fl o' s i j YT h' k:=by rw[ho,hw,hh]
@[congr] theorem aaE{o o':Option Value}{k:Value→β}(ho:o=o'):Kk fl o k=Kk fl o' k:=by rw[ho]
@[congr] theorem Rj{o:bO}{k:Nat→af→β}(hh:h=h'):aG fl o h k=aG fl o h' k:=by rw[hh]
@[congr] theorem Rk{i:Nat}{o:bO}{k:af→β}(hh:h=h'):setBlock fl i o h k=setBlock fl i o h' k:=by rw[hh]
@[congr] theorem VT{ws YT:List Value}{e:TypeId}{g:Bool}{k:bO→β}(hw:ws=YT):aN fl ws e g k=aN fl YT e g k:=by rw[hw]
@[congr] theorem Rl{ws YT:List Value}{e:TypeId}{g:Bool}{k:Nat→af→β}(hw:ws=YT)(hh:h=h'):dh fl ws e g h k=dh fl YT e g h' k:=by rw[hw,hh]
@[congr] theorem YU{ps:List (Nat × Nat)}{vs vs' cs cs':List Value}{k:List Value→β}(hv:vs=vs')(hc:cs=cs'):bC fl ps vs cs k=bC fl ps vs' cs' k:=by rw[hv,hc]
@[congr] theorem VU{e s:Nat}{l u m l' u' m':Option Value}(ha:a=a')(hl:l=l')(hu:u=u')(hm:m=m'):sliceB fl e s a l u m h V=sliceB fl e s a' l' u' m' h V:=by rw[ha,hl,hu,hm]
@[congr] theorem VV{l u m l' u' m':Option Value}(ha:a=a')(hl:l=l')(hu:u=u')(hm:m=m'):y5 fl a l u m h V=y5 fl a' l' u' m' h V:=by rw[ha,hl,hu,hm]
@[congr] theorem U2{e s:Nat}{z:List Value}{g:Bool}(ha:a=a')(hb:b=b')(hh:h=h'):bD fl e s z g a b h V=bD fl e s z g a' b' h' V:=by rw[ha,hb,hh]
@[congr] theorem YV{s:Nat}(ha:a=a')(hb:b=b'):E7 fl s a b h V=E7 fl s a' b' h V:=by rw[ha,hb]
@[congr] theorem VW{z:List Value}(ha:a=a'):lq fl z a h V=lq fl z a' h V:=by rw[ha]
@[congr] theorem VX(ha:a=a'):bF fl a h V=bF fl a' h V:=by rw[ha]
@[congr] theorem VY(ha:a=a'):y6 fl a h V=y6 fl a' h V:=by rw[ha]
@[congr] theorem VZ(ha:a=a'):pO fl a h V=pO fl a' h V:=by rw[ha]
@[congr] theorem U3{t:TypeId}{z:Value}{g:Bool}(ha:a=a')(hb:b=b'):dw fl P t z g a b h V=dw fl P t z g a' b' h V:=by rw[ha,hb]
@[congr] theorem Ol{t:TypeId}(ha:a=a')(hb:b=b')(hc:c=c'):cz fl P t a b c h V=cz fl P t a' b' c' h V:=by rw[ha,hb,hc]
@[congr] theorem P8{t:TypeId}{z:Value}(ha:a=a')(hb:b=b'):oF fl P t z a b h V=oF fl P t z a' b' h V:=by rw[ha,hb]
@[congr] theorem Mq(ha:a=a')(hb:b=b')(hc:c=c'):kR fl a b c h V=kR fl a' b' c' h V:=by rw[ha,hb,hc]
@[congr] theorem U4{t:TypeId}(ha:a=a')(hb:b=b'):nD fl P t a b h V=nD fl P t a' b' h V:=by rw[ha,hb]
@[congr] theorem V0(ha:a=a'):pP fl a h V=pP fl a' h V:=by rw[ha]
@[congr] theorem YW{f:β→β→β}(ha:a=a'):sk fl f a h V=sk fl f a' h V:=by rw[ha]
@[congr] theorem V1(ha:a=a'):pQ fl a h V=pQ fl a' h V:=by rw[ha]
@[congr] theorem Mr{t:TypeId}{z:Value}{g:Bool}(ha:a=a'):fJ fl t z g a h V=fJ fl t z g a' h V:=by rw[ha]
@[congr] theorem aaF(ha:a=a')(hb:b=b'):Qh fl a b h V=Qh fl a' b' h V:=by rw[ha,hb]
@[congr] theorem aaG(ha:a=a')(hb:b=b'):C_ fl a b h V=C_ fl a' b' h V:=by rw[ha,hb]
end
section
variable {P:Program}{h h':af}{V:KQ}
@[congr] theorem afs{o o':Option Value}(ho:o=o'):aH o h V=aH o' h V:=by rw[ho]
@[congr] theorem aft{o o':Option (bO × (Nat→Value))}(ho:o=o'):yI o h V=yI o' h V:=by rw[ho]
@[congr] theorem V2{b b':Bool}{f:(Value→af→Prop)→Prop}(hb:b=b'):aj b f h V=aj b' f h V:=by rw[hb]
@[congr] theorem YX{b b':Bool}{p:Prop}(hb:b=b'):bN b p=bN b' p:=by rw[hb]
@[congr] theorem YY{v v':Value}{A B:Prop}(hv:v=v'):aM v A B=aM v' A B:=by rw[hv]
@[congr] theorem YZ{A:(List Value→af→Prop)→Prop}{B:List Value→af→Prop}:dO A B=dO A B:=rfl
@[congr] theorem Y0{l l':List Value}{body:List Value→af→(List Value→af→Prop)→Prop}(hh:h=h'):dD l h body=dD l h' body:=by rw[hh]
@[congr] theorem Y1{f:FuncId}{l l':List Value}(hl:l=l')(hh:h=h'):aq P f l h V=aq P f l' h' V:=by rw[hl,hh]
@[congr] theorem Y2{v v':Value}{l l':List Value}(hv:v=v')(hl:l=l')(hh:h=h'):fq P v l h V=fq P v' l' h' V:=by rw[hv,hl,hh]
@[congr] theorem Y3{n:String}{v v':Value}{l l':List Value}(hv:v=v')(hl:l=l')(hh:h=h'):jZ P n v l h V=jZ P n v' l' h' V:=by rw[hv,hl,hh]
end
end Go.Vai

namespace Go.Vai
open Go Go.RowKit Go.WideShapes Go.ChangeShapes
variable {P:Program}
theorem Rm{φ φ':eW}{h h':af}{w w':World}(hx:Ext φ φ' h h' w w')(hro:∀b pl,φ b=some pl->b<h.lo/\∃o,h.bl.get b=some o/\o.live):Below w.heap.size w w':=by
 refine⟨hx.os,hx.tape,hx.output,hx.size,λB hB=>?_⟩;by_cases he:∃b pl,φ b=some pl/\pl.B=B
 .obtain⟨b,pl,h1,rfl⟩:=he;obtain⟨h2,o,h3,h4⟩:=hro b pl h1;exact hx.JM b o pl h2 h3 h4 h1 hB
 .exact hx.BC B hB λb pl h1 h2=>he ⟨b,pl,h1,h2⟩
theorem V3{f:FuncId}{args args':List Value}{φ:eW}{h:af}{w:World}(hc:aq P f args h DE)(ha:F2 (VR φ) args args')(hr:HR P φ h w)(hro:∀b pl,φ b=some pl->b<h.lo/\∃o,h.bl.get b=some o/\o.live):Calls P f args'.toArray w λe w'=>e=.returned (.bool true)/\Below w.heap.size w w':=by
 refine Calls.mono (hc φ w args' ha hr).2 ?_;rintro e w' ⟨φ',v,v',h',rfl,g1,g2,g3,g4⟩;have g1:v=.bool true:=g1;subst g1;cases g2;exact⟨rfl,Rm g4 hro⟩
section
variable {α:Type}{dF:α->List Value}{s:Nat}
def lH(dF:α->List Value)(w:World)(v:Value)(L:List α):Prop:=
 (L=[]/\(v=.slice none 0 0\/∃a cap,v=.slice (some a) 0 cap))\/
 ∃B o cap C e fz,v=.slice (some ⟨B,o,none⟩) L.length cap/\L.length<=cap/\cap<=maxLen/\w.heap[B]? = some (.cells C e fz)/\o+(L.flatMap dF).length<=C.size/\∀j u,(L.flatMap dF)[j]? = some u->C[o+j]? = some u
theorem FY{n:Nat}{p:Nat->α->Prop}(h:∀i,i<n->∃x,p i x):∃L:List α,L.length=n/\∀i a,L[i]? = some a->p i a:=by
 induction n with
 |zero=>exact⟨[],rfl,λi a e=>by simp at e⟩
 |succ n ih=>
  obtain⟨L,h1,h2⟩:=ih λi hi=>h i (Nat.lt_succ_of_lt hi);obtain⟨a,ha⟩:=h n (Nat.lt_succ_self n);refine⟨L++[a],by simp[h1],λi b e=>?_⟩;rcases Nat.lt_or_ge i n with hi|hi
  .rw[List.getElem?_append_left YYZ]at e;exact h2 i b e
  ·have:i=n:=by
    have:=(List.getElem?_eq_some_iff.1 e).1;simp[h1]at this;omega
   subst this;rw[List.getElem?_append_right YYZ,h1]at e;simp at e;subst e;exact ha
theorem DF(he:∀a:α,(dF a).length=s)(hs:0<s):∀(L:List α)(j:Nat)(u:Value),(L.flatMap dF)[j]? = some u->∃a,L[j / s]? = some a/\(dF a)[j % s]? = some u:=by
 intro L
 induction L with
 |nil=>intro j u e;simp at e
 |cons a L ih=>
  intro j u e;simp only[List.flatMap_cons]at e;rcases Nat.lt_or_ge j s with hj|hj
  .rw[List.getElem?_append_left (by rw[he];exact hj)]at e;rw[Nat.div_eq_of_lt hj,Nat.mod_eq_of_lt hj];exact⟨a,rfl,e⟩
  .rw[List.getElem?_append_right (by rw[he];exact hj),he]at e;obtain⟨b,h1,h2⟩:=ih (j-s) u e;refine⟨b,?_,?_⟩
   .rw[Nat.div_eq_sub_div hs hj];simpa using h1
   .rw[Nat.mod_eq_sub_mod hj];exact h2
theorem Rn{H:Type}{enc:TypeId × Value->H}{w:World}{t e:TypeId}{fuel:Nat}{v:Value}{x:DataW H × List MemPlace}(he:∀a:α,(dF a).length=s)(hs:0<s)(ht:P.underlying t=some (.slice e))(hc:P.cellsOf e=s)(Kn:∀(n:Nat)(cs:List Value)(d:DataW H × List MemPlace),cs.length=s->DataW.trod enc P w 0 (λ_=>true) true n e cs=some d->∃a:α,cs=dF a)(h:DataW.trod enc P w 0 (λ_=>true) true fuel t [v]=some x):∃L:List α,lH dF w v L:=by
 rcases Go.Deep.open_slice ht h with⟨h1,_⟩|⟨a,len,cap,m,n,D,Pl,h1,hb,hl,hm,hmm,hx,hi⟩
 .cases h1;exact⟨[],.inl ⟨rfl,.inl rfl⟩⟩
 .cases h1;simp only[if_true]at hmm;subst hmm;by_cases hlen:len=0
  .subst hlen;exact⟨[],.inl ⟨rfl,.inr ⟨a,_,rfl⟩⟩⟩
  ·have hel:∀i,i<len->∃p:α,∀j u,(dF p)[j]? = some u->w.cell? (a.add (i*s+j))=some u:=by
    intro i hil;obtain⟨cs,h2,h3⟩:=hi i YYZ;rw[hc]at h2;obtain⟨_,h4,h5⟩:=World.cells?_some h2;obtain⟨p,rfl⟩:=Kn n cs _ h4 h3;refine⟨p,λj u hj=>?_⟩;have hjs:j<s:=by have:=(List.getElem?_eq_some_iff.1 hj).1;rwa [he]at this
    have:=h5 j hjs;rw[Go.Deep.add_add]at this;rw[this,hj]
   obtain⟨L,hL,hp⟩:=FY hel;have hcell:∀j u,(L.flatMap dF)[j]? = some u->w.cell? (a.add j)=some u:=by
    intro j u hj;obtain⟨p,g1,g2⟩:=DF he hs L j u hj;have:=hp _ p g1 _ u g2
    rwa [Nat.mul_comm,Nat.div_add_mod]at this
   have hfl:=bB (enc:=dF) he L;have hpos:0<(L.flatMap dF).length:=by rw[hfl,hL];exact Nat.mul_pos YYZ hs
   have h0:=hcell 0 _ (List.getElem?_eq_getElem hpos);have ha0:a.add 0=a:=by simp[Addr.add]
   rw[ha0]at h0;obtain⟨B,o,sp⟩:=a;unfold World.cell? at h0;split at h0<;>try contradiction
   rename_i C e' fz hC;cases sp with
   |some q=>simp at h0
   |none=>
    refine⟨L,.inr ⟨B,o,m,C,e',fz,by rw[hL],YYZ,hm,hC,?_,?_⟩⟩
    .have FZ:=hcell ((L.flatMap dF).length-1) _ (List.getElem?_eq_getElem YYZ);have Qr:(⟨B,o,none⟩:Addr).add ((L.flatMap dF).length-1)=⟨B,o+((L.flatMap dF).length-1),none⟩:=by unfold Addr.add;split<;>simp_all
     rw[Qr]at FZ;simp only[World.cell?,hC]at FZ;have:=(Array.getElem?_eq_some_iff.1 FZ).1;omega
    .intro j u hj;have hx:=hcell j u hj;have Qr:(⟨B,o,none⟩:Addr).add j=⟨B,o+j,none⟩:=by unfold Addr.add;split<;>simp_all
     rw[Qr]at hx;simpa[World.cell?,hC]using hx
def zM:af:=⟨0,.nil,0⟩
def agr:eW:=λ_=>none
theorem Ro(w:World):HR P agr zM w:=HR.start w
end
section
variable {H:Type}{enc:TypeId × Value->H}
theorem post_of_law{f:Func}{s:ChangeSpec}{apart fresh handsOn again:Bool}{W W':World}{args:Array Value}{v:Value}{ds gs:List (DataW H)}{before pa pv:List MemPlace}(hW:DataW.Whole enc P f.params.toList s.vars apart W args.toList ds gs before)(hres:∀(b:Nat)(sp:Nat->Bool)(hd:Bool),DataW.TrodAll enc P W' b sp hd f.resultTypes.toList (v.resultList f.resultTypes.size) (s.fn H (ds++gs)).results [])(hargs:∀sp:Nat->Bool,(∀p∈before,sp p.block=true)->DataW.TrodAll enc P W' 0 sp true f.params.toList args.toList (s.fn H (ds++gs)).args pa)(hvars:∀sp:Nat->Bool,(∀p∈before,sp p.block=true)->DataW.TrodVars enc P W' sp s.vars (s.fn H (ds++gs)).vars pv)(hps:before=pa++pv)(hb:Below W.heap.size W W')(hok:∀(j:Nat)(t:TypeId)(r:Value),f.resultTypes[j]? = some t->(v.resultList f.resultTypes.size)[j]? = some r->Value.okWide P W' .any 0 t r):s.post enc P f apart fresh handsOn again W args v W':=by
 have hlt:∀p∈before,p.block<W.heap.size:=λp hp=>hW.lt p hp;have hold:∀p∈before,(λb=>decide (b<W.heap.size)) p.block=true:=λp hp=>by simpa using hlt p hp
 refine⟨ds,gs,before,[],pa,pv,hW,hres _ _ _,hargs _ hold,hvars _ hold,World.keptBut_mono (λp hp=>⟨hp,?_⟩) (hb.frame (·∈before)),λ_=>?_⟩
 .rw[hps,List.mem_append]at hp;exact Or.inr hp
 .obtain⟨_,_,_,_,_,hz,hn⟩:=hW;refine⟨hok,_,_,([]++pa)++pv,⟨[]++pa,pv,trodAll_append (hargs _ (λ_ _=>rfl)) (hres _ _ _),hvars _ (λ_ _=>rfl),rfl,?_,?_⟩,?_⟩
  .intro b off hp;have hin:MemPlace.cell b off∈before:=by rw[hps];simpa using hp
   rw[hb.frozen (hlt _ hin)];exact hz b off hin
  .intro ha;have:=hn ha;rw[hps]at this;simpa using this
  .intro p hp _;rw[hps];simpa using hp
theorem arg_stays{t:TypeId}(hl:laidOutB P=true)(hr:P.readableRec t=true)(hrow:t<P.types.size){W W':World}{v:Value}{d:DataW H}{ps:List MemPlace}(h:DataW.Trod enc P W 0 (λ_=>true) true t v d ps)(hb:Below W.heap.size W W')(hlt:∀x∈ps,x.block<W.heap.size){sp:Nat->Bool}(hsp:∀x∈ps,sp x.block=true):DataW.Trod enc P W' 0 sp true t v d ps:=
 WideElems.Trod_stays hl hr hrow h (λx hx=>hb.same (hlt x hx)) (λx hx=>by simpa using hsp x hx)
end
end Go.Vai
namespace Go.Vai
open Go Go.RowKit
variable {P:Program}
theorem jB{f:FuncId}{args:List Value}{v:Value}(ha:args.all oA=true)(hv:oA v=true)(hc:aq P f args zM λu _=>u=v){h:af}{V:KQ}(hk:V v h):aq P f args h V:=by
 intro φ w args' hf hr;have:=FW ha hf;subst this;obtain⟨c1,c2⟩:=hc agr w args' (FV ha) (Ro w);refine⟨c1,c2.mono ?_⟩;rintro e w' ⟨φ',v1,v',h',rfl,rfl,g2,g3,g4⟩;have hfr:∀B,B<w.heap.size->w'.heap[B]? = w.heap[B]?:=λB hB=>g4.BC B hB λb pl e=>by cases e
 refine⟨φ,v1,v',h,rfl,hk,by rw[pU hv g2];exact DD hv,?_,?_⟩
 .exact⟨λb o pl h1 h2=>by rw[hfr _ (hr.dom b pl h2).2];exact hr.obj b o pl h1 h2,λb pl h1=>⟨(hr.dom b pl h1).1,Nat.lt_of_lt_of_le (hr.dom b pl h1).2 g4.size⟩,hr.keys,hr.Qp,hr.inj,hr.lo⟩
 .exact⟨Sub.refl φ,λb pl e e'=>(by rw[e]at e';cases e'),Nat.le_refl _,g4.size,λB hB _=>hfr B hB,λ_ _ _=>rfl,g4.tape,g4.os,g4.output,λ_ _=>trivial,rfl,λ_ _=>rfl,λb o pl _ _ _ _ hB=>hfr _ hB,g4.dr⟩
theorem F0(u v:Value):bV (some u) v=lE 8 u v:=id rfl
theorem Cz(zs:List Value):bq zs 0=[]:=id rfl
theorem CA(a:Value):bq [a] 2=[a,a]:=by simp[bq]
theorem Rp(a:Value)(l:List Value)(n:Nat)(ws:List Value):over (a::l) (n+1) ws=a::over l n ws:=by simp[over,Nat.add_right_comm]
theorem Rq(a w:Value)(l ws:List Value):over (a::l) 0 (w::ws)=w::over l 0 ws:=by simp[over]
theorem Rr(l:List Value):over l 0 []=l:=by simp[over]
theorem F3(u:Value):reN (some u)=true:=id rfl
theorem F4(r:Bool):reG true r=r:=id rfl
theorem CB(r:Bool):reG false r=true:=id rfl
theorem jm(n:Nat):Nat.beq n n=true:=Nat.beq_refl n
theorem Om(n:Int):tY n n=true:=by rw[iO];simp
theorem F5(k:IntKind):ji k k=true:=by rw[gX];simp
theorem V4(n:Nat)(k:IntKind)(a:Int):lE (n+1) (.int k a) (.int k a)=true:=by unfold lE;simp[F5,Om]
theorem pX(k:IntKind)(a:Int):lE 8 (.int k a) (.int k a)=true:=V4 7 k a
theorem oT(a:Bool):lE 8 (.bool a) (.bool a)=true:=by unfold lE;simp
theorem Ms(b o:Nat):lE 8 (.pointer (some ⟨b,o,none⟩)) (.pointer (some ⟨b,o,none⟩))=true:=by unfold lE;simp[jm]
theorem iD(b o n c:Nat):lE 8 (.slice (some ⟨b,o,none⟩) n c) (.slice (some ⟨b,o,none⟩) n c)=true:=by unfold lE;simp[jm]
theorem pY(n c:Nat):lE 8 (.slice none n c) (.slice none n c)=true:=by unfold lE;simp[jm]
theorem wM(n:Nat)(l:List Int):yZ (lE (n+1)) (l.map (Value.int .i64)) (l.map (Value.int .i64))=true:=by
 induction l with
 |nil=>rfl
 |cons a l ih=>simp only[List.map_cons,yZ,V4,ih,Bool.and_self]
theorem F6(l:List Int):lE 8 (.agg ⟨l.map (.int .i64)⟩) (.agg ⟨l.map (.int .i64)⟩)=true:=by
 unfold lE;exact wM 6 l
theorem Y4(a b:Int):lE 8 (.agg ⟨[.int .i64 a,.int .i64 b]⟩) (.agg ⟨[.int .i64 a,.int .i64 b]⟩)=true:=F6 [a,b]
theorem Y5(a b c d:Int):lE 8 (.agg ⟨[.int .i64 a,.int .i64 b,.int .i64 c,.int .i64 d]⟩) (.agg ⟨[.int .i64 a,.int .i64 b,.int .i64 c,.int .i64 d]⟩)=true:=F6 [a,b,c,d]
end Go.Vai
namespace Go.Vai
open Go
variable {β:Type}{fl:β}
theorem zN(n:Nat)(d:Nat)(V:Nat->β):C9 fl (some (.int .i64 (n:Int))) d V=V n:=id rfl
theorem wN(d:Nat)(V:Nat->β):C9 fl none d V=V d:=id rfl
theorem Ko{h:af}{e s b n i:Nat}{vs:List Value}(hs:0<s)(hb:h.bl.get b=some (ah vs e true))(hvs:vs.length=n*s)(hi:i<n)(V:YYY β):sliceB fl e s (.slice (some ⟨b,0,none⟩) n aX) (some (.int .i64 (i:Int))) none none h V=V (.slice (some ⟨b,i*s,none⟩) (n-i) aX) h:=by
 obtain⟨s,rfl⟩:∃k,s=k+1:=⟨s-1,YYZ⟩
 have hk:iu h e b=some (n*(s+1)):=by unfold iu;rw[hb];simp only[ah,jm,hvs]
 have hd:Nat.div (Nat.sub (n*(s+1)) 0) (s+1)=n:=by show(n*(s+1)-0) / (s+1)=n;rw[Nat.sub_zero,Nat.mul_div_cancel _ YYZ]
 have e1:Nat.beq aX gK=false:=by decide
 have e2:Nat.beq aX aX=true:=Nat.beq_refl _;have e3:Nat.ble 0 (n*(s+1))=true:=Nat.ble_eq_true_of_le (Nat.zero_le _);have e4:Nat.ble i n=true:=Nat.ble_eq_true_of_le YYZ;have e5:Nat.ble n n=true:=Nat.ble_eq_true_of_le (Nat.le_refl _);have e6:Nat.beq i n=false:=by
  cases hq:Nat.beq i n with
  |false=>rfl
  |true=>have:=cD hq;omega
 unfold sliceB jg;simp only[e1,e2,hk,e3,hd,zN,wN,e4,e5,e6,bY]
 show V (.slice (some ⟨b,0+i*(s+1),none⟩) (n-i) aX) h=_
 rw[Nat.zero_add]
theorem zO{h:af}{e s b n m i:Nat}{vs:List Value}(hs:0<s)(hb:h.bl.get b=some (ah vs e true))(hvs:vs.length=n*s)(hn:0<n)(hi:i<=n)(V:YYY β):sliceB fl e s (.slice (some ⟨b,0,none⟩) m aX) none (some (.int .i64 (i:Int))) none h V=V (.slice (some ⟨b,0,none⟩) i aX) h:=by
 obtain⟨s,rfl⟩:∃k,s=k+1:=⟨s-1,YYZ⟩
 have hk:iu h e b=some (n*(s+1)):=by unfold iu;rw[hb];simp only[ah,jm,hvs]
 have hd:Nat.div (Nat.sub (n*(s+1)) 0) (s+1)=n:=by show(n*(s+1)-0) / (s+1)=n;rw[Nat.sub_zero,Nat.mul_div_cancel _ YYZ]
 have e1:Nat.beq aX gK=false:=by decide
 have e2:Nat.beq aX aX=true:=Nat.beq_refl _;have e3:Nat.ble 0 (n*(s+1))=true:=Nat.ble_eq_true_of_le (Nat.zero_le _);have e4:Nat.ble 0 i=true:=Nat.ble_eq_true_of_le (Nat.zero_le _);have e5:Nat.ble i n=true:=Nat.ble_eq_true_of_le hi;have e6:Nat.beq 0 n=false:=by
  cases hq:Nat.beq 0 n with
  |false=>rfl
  |true=>have:=cD hq;omega
 unfold sliceB jg;simp only[e1,e2,hk,e3,hd,zN,wN,e4,e5,e6,bY]
 show V (.slice (some ⟨b,0+0*(s+1),none⟩) (i-0) aX) h=_
 rw[Nat.zero_mul,Nat.sub_zero]
theorem xR{h:af}{b o n c e:Nat}{op:Bool}{vs zero:List Value}(hb:h.bl.get b=some (ah vs e op))(hn:0<n)(hl:o+(bq zero n).length<=vs.length)(h1:(bq zero n).all dK=true)(hlo:h.lo<=b)(V:YYY β):lq fl zero (.slice (some ⟨b,o,none⟩) n c) h V=V (.tuple #[]) ⟨h.nx,h.bl.bt b (ah (over vs o (bq zero n)) e op),h.lo⟩:=by
 obtain⟨n,rfl⟩:∃k,n=k+1:=⟨n-1,YYZ⟩
 unfold lq;simp only[hb,ah];rw[wK _ _ _ _ _ hl h1,cq _ _ _ _ hlo,DC _ _ _ hl,nL hl]
end Go.Vai
namespace Go.Vai
open Go Go.RowKit Go.WideShapes Go.ChangeShapes
section
variable {P:Program}{α:Type}{dF:α->List Value}{s:Nat}{H:Type}{enc:TypeId × Value->H}
theorem open_sliceArg{W:World}{t e:TypeId}{v:Value}{d:DataW H}{p:List MemPlace}{base:Nat}(he:∀a:α,(dF a).length=s)(hs:0<s)(ht:P.underlying t=some (.slice e))(hc:P.cellsOf e=s)(Kn:∀(n:Nat)(cs:List Value)(d:DataW H × List MemPlace),cs.length=s->DataW.trod enc P W 0 (λ_=>true) true n e cs=some d->∃a:α,cs=dF a)(hw:Value.okWide P W .any base t v)(h:DataW.Trod enc P W 0 (λ_=>true) true t v d p):∃L:List α,lH dF W v L:=by
 obtain⟨fuel,hf⟩:=h;have hcs:v.cells.toList=[v]:=by
  unfold Value.okWide at hw;rw[ht]at hw;simp only at hw;unfold Cell.okWide Cell.ok at hw;rw[ht]at hw;cases v<;>first|rfl|(simp at hw)
 rw[hcs]at hf;exact Rn he hs ht hc Kn hf
end
end Go.Vai

namespace Go.Vai
open Go
theorem Y6:(!true)=false:=id rfl
theorem Y7:(!false)=true:=id rfl
theorem ags:decide True=true:=by simp
theorem agt:decide False=false:=by simp
theorem Ld0(l:List Value):l.drop 0=l:=id rfl
theorem Lts(a:Value)(l:List Value)(n:Nat):(a::l).take (n+1)=a::l.take n:=id rfl
theorem Lt0(l:List Value):l.take 0=[]:=id rfl
theorem Lds(a:Value)(l:List Value)(n:Nat):(a::l).drop (n+1)=l.drop n:=id rfl
theorem Lg0(a:Value)(l:List Value):(a::l)[0]? = some a:=id rfl
theorem Lgs(a:Value)(l:List Value)(n:Nat):(a::l)[n+1]? = l[n]?:=id rfl
theorem Y8(b:Bool):(b && true)=b:=by cases b<;>rfl
theorem Y9(b:Bool):(true && b)=b:=by cases b<;>rfl
theorem Y_(b:Bool):(b && b)=b:=by cases b<;>rfl
theorem Lac(p:Value->Bool)(a:Value)(l:List Value):(a::l).all p=(p a && l.all p):=id rfl
theorem Lan(p:Value->Bool):([]:List Value).all p=true:=id rfl
theorem Llc(a:Value)(l:List Value):(a::l).length=l.length+1:=id rfl
theorem Lln:([]:List Value).length=0:=id rfl
theorem Nza(n:Nat):0+n=n:=by omega
theorem Naz(n:Nat):n+0=n:=by omega
theorem Wz2:type_of% (And.intro (And.intro (And.intro (And.intro (And.intro (And.intro @FO @FP) (And.intro @Cs (And.intro @dS @rM))) (And.intro (And.intro @Q6 (And.intro @wJ @Q7)) (And.intro @wL (And.intro @iQ @Cr)))) (And.intro (And.intro (And.intro @FQ (And.intro @zG @zH)) (And.intro @zI (And.intro @xN @xQ))) (And.intro (And.intro @xO (And.intro @uz @zJ)) (And.intro @xP (And.intro @L8 @L9))))) (And.intro (And.intro (And.intro (And.intro @L_ (And.intro @Ma @Mc)) (And.intro @Md (And.intro @Me @Mf))) (And.intro (And.intro @Mg (And.intro @Mh @Q8)) (And.intro @Q9 (And.intro @FT @Ct)))) (And.intro (And.intro (And.intro @zK (And.intro @gr @uA)) (And.intro @Mi (And.intro @uB @Cu))) (And.intro (And.intro @Cv (And.intro @Cw @FU)) (And.intro @dZ (And.intro @cG @aaB)))))) (And.intro (And.intro (And.intro (And.intro (And.intro @Q_ @YO) (And.intro @T.az (And.intro @T.aD @T.zF))) (And.intro (And.intro @Y6 (And.intro @Y7 @ags)) (And.intro @agt (And.intro @Ld0 @Lts)))) (And.intro (And.intro (And.intro @Lt0 (And.intro @Lds @Lg0)) (And.intro @Lgs (And.intro @Nza @Naz))) (And.intro (And.intro @Re (And.intro @Rf @rN)) (And.intro @rO (And.intro @pW @rP))))) (And.intro (And.intro (And.intro (And.intro @nM (And.intro @qS @Rh)) (And.intro @uC (And.intro @rQ @Cz))) (And.intro (And.intro @Cy (And.intro @CA @Rp)) (And.intro @Rq (And.intro @Rr @F0)))) (And.intro (And.intro (And.intro @F3 (And.intro @F4 @CB)) (And.intro @pX (And.intro @oT @Ms))) (And.intro (And.intro @iD (And.intro @pY @Y4)) (And.intro @Y5 (And.intro @Y8 @Y9))))))):=(And.intro (And.intro (And.intro (And.intro (And.intro (And.intro @FO @FP) (And.intro @Cs (And.intro @dS @rM))) (And.intro (And.intro @Q6 (And.intro @wJ @Q7)) (And.intro @wL (And.intro @iQ @Cr)))) (And.intro (And.intro (And.intro @FQ (And.intro @zG @zH)) (And.intro @zI (And.intro @xN @xQ))) (And.intro (And.intro @xO (And.intro @uz @zJ)) (And.intro @xP (And.intro @L8 @L9))))) (And.intro (And.intro (And.intro (And.intro @L_ (And.intro @Ma @Mc)) (And.intro @Md (And.intro @Me @Mf))) (And.intro (And.intro @Mg (And.intro @Mh @Q8)) (And.intro @Q9 (And.intro @FT @Ct)))) (And.intro (And.intro (And.intro @zK (And.intro @gr @uA)) (And.intro @Mi (And.intro @uB @Cu))) (And.intro (And.intro @Cv (And.intro @Cw @FU)) (And.intro @dZ (And.intro @cG @aaB)))))) (And.intro (And.intro (And.intro (And.intro (And.intro @Q_ @YO) (And.intro @T.az (And.intro @T.aD @T.zF))) (And.intro (And.intro @Y6 (And.intro @Y7 @ags)) (And.intro @agt (And.intro @Ld0 @Lts)))) (And.intro (And.intro (And.intro @Lt0 (And.intro @Lds @Lg0)) (And.intro @Lgs (And.intro @Nza @Naz))) (And.intro (And.intro @Re (And.intro @Rf @rN)) (And.intro @rO (And.intro @pW @rP))))) (And.intro (And.intro (And.intro (And.intro @nM (And.intro @qS @Rh)) (And.intro @uC (And.intro @rQ @Cz))) (And.intro (And.intro @Cy (And.intro @CA @Rp)) (And.intro @Rq (And.intro @Rr @F0)))) (And.intro (And.intro (And.intro @F3 (And.intro @F4 @CB)) (And.intro @pX (And.intro @oT @Ms))) (And.intro (And.intro @iD (And.intro @pY @Y4)) (And.intro @Y5 (And.intro @Y8 @Y9)))))))
theorem Wx:type_of% (And.intro (And.intro (And.intro @Lac @Lan) (And.intro @Mj (And.intro @FX @Mk))) (And.intro (And.intro @Ml (And.intro @Mm @Mn)) (And.intro @Mo (And.intro @Mp @Y_)))):=(And.intro (And.intro (And.intro @Lac @Lan) (And.intro @Mj (And.intro @FX @Mk))) (And.intro (And.intro @Ml (And.intro @Mm @Mn)) (And.intro @Mo (And.intro @Mp @Y_))))
theorem Wy:type_of% (And.intro (And.intro @rN (And.intro @rO @pW)) (And.intro (And.intro @rP @nM) (And.intro @Llc @Lln))):=(And.intro (And.intro @rN (And.intro @rO @pW)) (And.intro (And.intro @rP @nM) (And.intro @Llc @Lln)))
theorem Wv:type_of% (And.intro @Llc @Lln):=(And.intro @Llc @Lln)
theorem Wz0(b:Nat):av b=.pointer (some ⟨b,0,none⟩):=id rfl
theorem Wz1(n c b:Nat):bR n c b=.slice (some ⟨b,0,none⟩) n c:=id rfl
theorem J0(v : Value)(h : af):UV v h = some v := id rfl
theorem Wz:type_of% (And.intro (And.intro @Wz0 @Wz1) (And.intro @J0 Wz2)):=And.intro (And.intro @Wz0 @Wz1) (And.intro @J0 Wz2)
theorem Wd:type_of% (And.intro Wx Wy):=And.intro Wx Wy
theorem Y{P : Prop}(h : P := by first|omega|simp only[Wd]<;>omega|rfl):P := h
theorem QQ{P : Prop}(h : P := by first|omega|simp only[Wd]<;>omega|with_unfolding_all rfl):P := h
end Go.Vai

namespace Go.Vai
open Go Go.RowKit
section
variable {α:Type}{s:Nat}{enc:α->List Value}
def Cut(e s:Nat)(h:af)(v:Value)(k:Nat):Prop:=
 (k=0/\v=.slice none 0 0)\/(k=0/\∃b o,v=.slice (some ⟨b,o,none⟩) 0 gK)\/
 (∃b o cap,v=.slice (some ⟨b,o,none⟩) k cap/\k<=cap/\cap<=9223372036854775807)\/
 ∃b vs n,v=.slice (some ⟨b,0,none⟩) k aX/\b<h.nx/\h.bl.get b=some (ah vs e true)/\vs.length=n*s/\k<=n
theorem Cut.le{e s:Nat}{h h':af}{v:Value}{k:Nat}(c:Cut e s h v k)(l:Le h h'):Cut e s h' v k:=by
 rcases c with c|c|c|⟨b,vs,n,c1,c2,c3,c4,c5⟩
 .exact .inl c
 .exact .inr (.inl c)
 .exact .inr (.inr (.inl c))
 .exact .inr (.inr (.inr ⟨b,vs,n,c1,Nat.lt_of_lt_of_le c2 l.nx,(l.get b c2).trans c3,c4,c5⟩))
theorem Cut.own{a h:af}{e:TypeId}{v:Value}{L:List α}(he:∀a:α,(enc a).length=s)(ho:iJ enc a e h v L):Cut e s h v L.length:=by
 rcases ho with⟨rfl,rfl|⟨b,o,rfl⟩⟩|⟨b,rfl,h1,h2,h3,h4⟩
 .exact .inl ⟨rfl,rfl⟩
 .exact .inr (.inr (.inl ⟨b,o,0,rfl,Nat.le_refl _,YYZ⟩))
 .exact .inr (.inr (.inr ⟨b,_,L.length,rfl,h2,h4,bB he L,Nat.le_refl _⟩))
theorem pZ(he:∀a:α,(enc a).length=s)(L:List α):∀i,(L.flatMap enc).take (i*s)=(L.take i).flatMap enc:=by
 induction L with
 |nil=>intro i;simp
 |cons a L ih=>
  intro i;cases i with
  |zero=>simp
  |succ i=>
   simp only[List.flatMap_cons,List.take_succ_cons];rw[List.take_append,<-ih i,he,List.take_of_length_le (by rw[he,Nat.succ_mul];omega),show(i+1)*s-s=i*s by rw[Nat.succ_mul];omega]
end
end Go.Vai

namespace Go.Vai
open Go Go.RowKit
open Classical
variable {P:Program}
def Mt(w:World)(B:Nat):Prop:=∃C e fz,w.heap[B]? = some (.cells C e fz)
def ql(w:World)(v:Value):Prop:=
 kO v=true\/v=.slice none 0 0\/(∃a c,v=.slice (some a) 0 c)\/∃B o n c,v=.slice (some ⟨B,o,none⟩) n c/\n<=c/\c<=maxLen/\Mt w B
def oe:Value->Value
 | .slice (some a) 0 c=>.slice (some ⟨0,0,none⟩) 0 gK
 |v=>v
def goodA(w:World):Value->Prop
 | .agg cs=>∀v∈cs.toList,ql w v
 |v=>ql w v
def absA:Value->Value
 | .agg cs=>.agg ⟨cs.toList.map oe⟩
 |v=>oe v
theorem CC{v:Value}(h:kO v=true):oe v=v:=by cases v<;>first|rfl|cases h
def BO(w:World):eW:=λb=>if Mt w b then some ⟨b,0,0⟩else none
def BQ(w:World)(v:Value)(t:T Value)(o:Nat):T Value:=if ql w v then t.bt o (oe v)else t
theorem Mu(w:World)(v:Value)(t:T Value){o i:Nat}(h:o≠i):(BQ w v t o).get i=t.get i:=by
 unfold BQ;by_cases hg:ql w v
 .rw[if_pos hg];exact T.aD _ _ h
 .rw[if_neg hg]
theorem CE{w:World}{v:Value}(hg:ql w v)(t:T Value)(o:Nat):(BQ w v t o).get o=some (oe v):=by
 unfold BQ;rw[if_pos hg];exact T.az _ _ _
theorem Rs{w:World}{v:Value}(hg:¬ql w v)(t:T Value)(o:Nat):(BQ w v t o)=t:=by
 unfold BQ;rw[if_neg hg]
def oU(w:World):List Value->T Value->Nat->T Value
 | [],t,_=>t
 |v::vs,t,o=>oU w vs (BQ w v t o) (o+1)
theorem CF(w:World)(vs:List Value):∀(t:T Value)(o i:Nat),i<o->(oU w vs t o).get i=t.get i:=by
 induction vs with
 |nil=>intro t o i _;rfl
 |cons v vs ih=>
  intro t o i h
  show(oU w vs (BQ w v t o) (o+1)).get i=_
  rw[ih _ _ _ YYZ,Mu _ _ _ YYZ]
theorem Kp(w:World)(vs:List Value):∀(t:T Value)(o i:Nat)(v:Value),vs[i]? = some v->ql w v->(oU w vs t o).get (o+i)=some (oe v):=by
 induction vs with
 |nil=>intro t o i v h;simp at h
 |cons u vs ih=>
  intro t o i v h hg
  show(oU w vs (BQ w u t o) (o+1)).get _=_
  cases i with
  |zero=>
   simp only[List.getElem?_cons_zero,Option.some.injEq]at h;subst h;rw[CF _ _ _ _ _ YYZ];exact CE hg _ _
  |succ i=>
   rw[show o+(i+1)=(o+1)+i by omega];exact ih _ _ _ _ (by simpa using h) hg
theorem Kq(w:World)(vs:List Value):∀(t:T Value)(o i:Nat)(u:Value),(∀j,o<=j->t.get j=none)->(oU w vs t o).get (o+i)=some u->∃v,vs[i]? = some v/\ql w v/\u=oe v:=by
 induction vs with
 |nil=>intro t o i u ht h;rw[show(oU w [] t o)=t from rfl,ht _ YYZ]at h;cases h
 |cons x vs ih=>
  intro t o i u ht h;have h:(oU w vs (BQ w x t o) (o+1)).get (o+i)=some u:=h;cases i with
  |zero=>
   rw[CF _ _ _ _ _ YYZ]at h;by_cases hg:ql w x
   .rw[Nat.add_zero,CE hg]at h;cases h;exact⟨x,rfl,hg,rfl⟩
   .rw[Rs hg,ht _ YYZ]at h;cases h
  |succ i=>
   rw[show o+(i+1)=(o+1)+i by omega]at h;obtain⟨v,h1,h2,h3⟩:=ih _ _ _ _ (λj hj=>by rw[Mu _ _ _ YYZ];exact ht j YYZ) h;exact⟨v,by simpa using h1,h2,h3⟩
def BR(w:World):Nat->T bO
 |0=>.nil
 |n+1=>match w.heap[n]? with
  |some (.cells C e _)=>(BR w n).bt n (.ro C.size (oU w C.toList .nil 0) e)
  |_=>BR w n
theorem F7(w:World):∀n b,(BR w n).get b=if b<n then(match w.heap[b]? with|some (.cells C e _)=>some (.ro C.size (oU w C.toList .nil 0) e)|_=>none)else none:=by
 intro n
 induction n with
 |zero=>intro b;rw[if_neg YYZ];exact T.get_nil _
 |succ n ih=>
  intro b;unfold BR;by_cases h0:n=b
  .subst h0;rw[if_pos YYZ];split
   .rw[T.az]
   .rw[ih,if_neg YYZ]
  ·have:(match w.heap[n]? with|some (.cells C e _)=>(BR w n).bt n (.ro C.size (oU w C.toList .nil 0) e)|_=>BR w n).get b=(BR w n).get b:=by
    split
    .exact T.aD _ _ h0
    .rfl
   rw[this,ih];by_cases h1:b<n
   .rw[if_pos h1,if_pos YYZ]
   .rw[if_neg h1,if_neg YYZ]
def memH(w:World):af:=⟨w.heap.size,BR w w.heap.size,w.heap.size⟩
theorem F8{w:World}{B:Nat}{C:Array Value}{e:TypeId}{fz:Nat × Nat}(h:w.heap[B]? = some (.cells C e fz)):(memH w).bl.get B=some (.ro C.size (oU w C.toList .nil 0) e):=by
 have hB:B<w.heap.size:=(Array.getElem?_eq_some_iff.1 h).1
 show(BR w _).get B=_
 rw[F7,if_pos hB,h]
theorem wO{w:World}{b:Nat}{o:bO}(h:(memH w).bl.get b=some o):∃C e fz,w.heap[b]? = some (.cells C e fz)/\o=.ro C.size (oU w C.toList .nil 0) e:=by
 have h:(BR w _).get b=some o:=h;rw[F7]at h;split at h
 .split at h
  .cases h;exact⟨_,_,_,by assumption,rfl⟩
  .cases h
 .cases h
theorem DG{w:World}{v:Value}(h:ql w v):VR (BO w) (oe v) v:=by
 rcases h with h|rfl|⟨a,c,rfl⟩|⟨B,o,n,c,rfl,hn,hc,hB⟩
 .rw[CC h];exact VR.oA h
 .exact VR.gj (Nat.le_refl _)
 .exact VR.di _ _ _
 .cases n with
  |zero=>exact VR.di _ _ _
  |succ n=>
   have hp:BO w B=some ⟨B,0,0⟩:=if_pos hB;exact VR.slice hp hn (by unfold maxLen at hc;unfold aX;omega)
theorem V5{w:World}{v:Value}(h:goodA w v):VR (BO w) (absA v) v:=by
 cases v with
 |agg cs=>
  refine VR.wo ?_
  show F2 (VR (BO w)) (cs.toList.map oe) cs.toList
  have:F2 (VR (BO w)) (cs.toList.map oe) (cs.toList.map id):=F2.map cs.toList λx hx=>DG (h x hx)
  rwa [List.map_id]at this
 |_=>exact DG h
theorem agu(w:World):HR P (BO w) (memH w) w:=by
 have dom:∀b pl,BO w b=some pl->pl=⟨b,0,0⟩/\Mt w b:=by
  intro b pl h;unfold BO at h;split at h
  .cases h;exact⟨rfl,by assumption⟩
  .cases h
 have lt:∀b,Mt w b->b<w.heap.size:=λb ⟨C,e,fz,h⟩=>(Array.getElem?_eq_some_iff.1 h).1;refine⟨?_,?_,?_,Nat.lt_succ_self _,?_,Nat.le_refl _⟩
 .intro b o pl h1 h2;obtain⟨rfl,_⟩:=dom b pl h2;obtain⟨C,e,fz,h3,rfl⟩:=wO h1;rw[h3];refine⟨rfl,Nat.le_refl _,λi v hv hi=>?_⟩;obtain⟨u,h4,h5,rfl⟩:=Kq w C.toList .nil 0 i v (λj _=>T.get_nil _) (by rw[Nat.zero_add];exact hv);rw[Array.getElem?_toList]at h4;exact⟨u,h4,DG h5⟩
 .intro b pl h;obtain⟨rfl,h2⟩:=dom b pl h;exact⟨lt b h2,lt b h2⟩
 .intro b o _ h;obtain⟨C,e,fz,h3,_⟩:=wO h;exact lt b ⟨C,e,fz,h3⟩
 .intro b b' o o' pl mZ _ _ _ _ h1 h2 h3;obtain⟨rfl,_⟩:=dom b pl h1;obtain⟨rfl,_⟩:=dom b' mZ h2;exact h3
theorem law_mem{f:FuncId}{args:List Value}{w:World}(hg:∀v∈args,goodA w v)(hc:(memH w).lo<=(memH w).nx->aq P f (args.map absA) (memH w) DE):Calls P f args.toArray w λe w'=>e=.returned (.bool true)/\Below w.heap.size w w':=by
 have ha:F2 (VR (BO w)) (args.map absA) (args.map id):=F2.map args λx hx=>V5 (hg x hx);rw[List.map_id]at ha;refine V3 (hc (Nat.le_refl _)) ha (agu w) ?_;intro b pl h;unfold BO at h;split at h
 .rename_i hm;obtain⟨C,e,fz,h3⟩:=hm;exact⟨(Array.getElem?_eq_some_iff.1 h3).1,_,F8 h3,trivial⟩
 .cases h
section
variable {α:Type}{dF:α->List Value}{s:Nat}
theorem lH.good{w:World}{v:Value}{L:List α}(hv:lH dF w v L):ql w v:=by
 rcases hv with⟨rfl,rfl|⟨a,cap,rfl⟩⟩|⟨B,o,cap,C,e,fz,rfl,hl,hm,hC,hle,hcell⟩
 .exact .inr (.inl rfl)
 .exact .inr (.inr (.inl ⟨a,cap,rfl⟩))
 .exact .inr (.inr (.inr ⟨B,o,_,cap,rfl,hl,hm,C,e,fz,hC⟩))
theorem lH.abs{w:World}{v:Value}{L:List α}(hv:lH dF w v L)(hg:∀a∈L,∀u∈dF a,ql w u):Sl (λa=>(dF a).map oe) (memH w) (oe v) L/\∀e,Cut e s (memH w) (oe v) L.length:=by
 rcases hv with⟨rfl,rfl|⟨a,cap,rfl⟩⟩|⟨B,o,cap,C,e,fz,rfl,hl,hm,hC,hle,hcell⟩
 .exact⟨Sl.nil _ _ _,λe=>.inl ⟨rfl,rfl⟩⟩
 .exact⟨Sl.nil _ _ _,λe=>.inr (.inl ⟨rfl,0,0,rfl⟩)⟩
 .cases hL:L with
  |nil=>exact⟨Sl.nil _ _ _,λe=>.inr (.inl ⟨rfl,0,0,rfl⟩)⟩
  |cons x L'=>
   have e1:oe (.slice (some ⟨B,o,none⟩) L.length cap)=.slice (some ⟨B,o,none⟩) L.length cap:=by rw[hL];rfl
   rw[<-hL,e1];refine⟨⟨_,cap,rfl,λ_=>⟨B,o,rfl,(Array.getElem?_eq_some_iff.1 hC).1,?_⟩⟩,λe=>.inr (.inr (.inl ⟨B,o,cap,rfl,hl,by unfold maxLen at hm;omega⟩))⟩;rw[F8 hC];have efl:L.flatMap (λa=>(dF a).map oe)=(L.flatMap dF).map oe:=by rw[List.map_flatMap]
   rw[efl];refine⟨C.size,_,e,.inl rfl,by rw[List.length_map];exact hle,λj u hj=>?_⟩;rw[List.getElem?_map,Option.map_eq_some_iff]at hj;obtain⟨u',h1,rfl⟩:=hj;have h2:=hcell j u' h1;have hm:=List.mem_of_getElem? h1;rw[List.mem_flatMap]at hm;obtain⟨a,ha,hu⟩:=hm;have:=Kp w C.toList .nil 0 (o+j) u' (by rw[Array.getElem?_toList];exact h2) (hg a ha u' hu)
   rwa [Nat.zero_add]at this
theorem Rt{l:List Value}(h:l.all kO=true):l.map oe=l:=by
 induction l with
 |nil=>rfl
 |cons a l ih=>simp only[List.all_cons,Bool.and_eq_true]at h;rw[List.map_cons,CC h.1,ih h.2]
theorem lH.agv{w:World}{v:Value}{L:List α}(hv:lH dF w v L)(hone:∀a:α,(dF a).all kO=true):Sl dF (memH w) (oe v) L/\∀e,Cut e s (memH w) (oe v) L.length:=by
 have:=hv.abs (s:=s) λa _ u hu=>.inl (List.all_eq_true.1 (hone a) u hu);have e:(λa=>(dF a).map oe)=dF:=by funext a;exact Rt (hone a)
 rwa [e]at this
end
end Go.Vai

namespace Go.Vai
open Go Go.RowKit Go.WideShapes Go.ChangeShapes
variable {P:Program}
inductive CK where
 |i (k:IntKind)
 |b
 |s
 |sl (t:TypeId)
def DH(P:Program)(fl:TypeId->Option (List CK)):List Field->Nat->Option (List CK)
 | [],_=>some []
 |f::fs,off=>match fl f.type with
  |some l=>match Nat.beq f.offset off,Nat.beq (P.cellsOf f.type) l.length with
   |true,true=>match DH P fl fs (off+l.length)with
    |some r=>some (l++r)
    |none=>none
   |_,_=>none
  |none=>none
def flatK(P:Program):Nat->TypeId->Option (List CK)
 |0,_=>none
 |n+1,t=>match P.underlying t with
  |some (.int k)=>some [.i k]
  |some .bool=>some [.b]
  |some .string=>some [.s]
  |some (.slice _)=>some [.sl t]
  |some (.struct fs)=>match DH P (flatK P n) fs.toList 0 with
   |some l=>match Nat.beq (P.cellsOf t) l.length with
    |true=>some l
    |false=>none
   |none=>none
  |_=>none
section
variable {H:Type}{enc:TypeId × Value->H}{w:World}
def aaH(enc:TypeId × Value->H)(P:Program)(w:World)(k:CK)(v:Value):Prop:=match k with
 | .i kk=>∃n,v=.int kk n/\(Lit.int kk n).wf=true
 | .b=>∃b,v=.bool b
 | .s=>∃s,v=.string s
 | .sl t=>∃fuel x,DataW.trod enc P w 0 (λ_=>true) true fuel t [v]=some x
theorem V6{fl:TypeId->Option (List CK)}(ih:∀t ks,fl t=some ks->∀fuel cs x,DataW.trod enc P w 0 (λ_=>true) true fuel t cs=some x->F2 (aaH enc P w) ks cs)(m:Nat)(cs:List Value):∀(fs:List Field)(off:Nat)(r:List CK),DH P fl fs off=some r->(∀f∈fs,∃x,DataW.trod enc P w 0 (λ_=>true) true m f.type ((cs.drop f.offset).take (P.cellsOf f.type))=some x)->
   off+r.length=cs.length->F2 (aaH enc P w) r (cs.drop off):=by
 intro fs
 induction fs with
 |nil=>
  intro off r h _ hl;cases h;rw[List.drop_of_length_le (by simp at hl;omega)];exact .nil
 |cons f fs ihf=>
  intro off r h hf hl;unfold DH at h;split at h<;>try contradiction
  rename_i l qy;split at h<;>try contradiction
  rename_i h1 h2;split at h<;>try contradiction
  rename_i r' hr;cases h;have h1:=cD h1;have h2:=cD h2;obtain⟨x,hx⟩:=hf f (.head _);have k1:=ih _ _ qy _ _ _ hx;rw[h1,h2]at k1;rw[List.length_append]at hl;have k2:=ihf (off+l.length) r' hr (λg hg=>hf g (.tail _ hg)) YYZ;have e:cs.drop off=(cs.drop off).take l.length++cs.drop (off+l.length):=by
   rw[<-List.drop_drop,List.take_append_drop]
  rw[e];exact k1.append k2
theorem Ru:∀(n:Nat)(t:TypeId)(ks:List CK),flatK P n t=some ks->∀fuel cs x,DataW.trod enc P w 0 (λ_=>true) true fuel t cs=some x->F2 (aaH enc P w) ks cs:=by
 intro n
 induction n with
 |zero=>intro t ks h;cases h
 |succ n ih=>
  intro t ks h fuel cs x hx;unfold flatK at h;split at h
  .rename_i k hu;cases h;obtain⟨n,rfl,_,hwf⟩:=DataW.trod_int hu hx;exact .cons ⟨n,rfl,hwf⟩ .nil
  .rename_i hu;cases h;obtain⟨n,rfl,_⟩:=DataW.trod_bool hu hx;exact .cons ⟨n,rfl⟩ .nil
  .rename_i hu;cases h;obtain⟨n,rfl,_⟩:=DataW.trod_string hu hx;exact .cons ⟨n,rfl⟩ .nil
  ·rename_i e hu;cases h;have:∃v,cs=[v]:=by
    rcases DataW.trod_slice hu hx with h|h
    .exact⟨_,h.1⟩
    .obtain⟨a,len,cap,_,_,_,_,h,_⟩:=h;exact⟨_,h⟩
   obtain⟨v,rfl⟩:=this;exact .cons ⟨fuel,x,hx⟩ .nil
  .rename_i fs hu;split at h<;>try contradiction
   rename_i l hl;split at h<;>try contradiction
   rename_i hc;cases h;have hc:=cD hc;obtain⟨xs,m,_,_,ot,hlen,hf⟩:=DataW.trod_struct hu hx;have key:=V6 ih m cs fs.toList 0 ks hl (λf hf'=>?_) YYZ
   .rw[List.drop_zero]at key;exact key
   .obtain⟨i,hi,rfl⟩:=List.getElem_of_mem hf';have h1:=hf i (fs.toList[i]) (by simp at hi ⊢);obtain⟨y,hy⟩:∃y,xs[i]? = some y:=⟨_,List.getElem?_eq_getElem (by simp at hi;omega)⟩
    rw[hy]at h1;exact⟨y,h1⟩
  .cases h
theorem F2.wP{α γ:Type}{R:α->γ->Prop}{a:α}{l:List α}{m:List γ}(h:F2 R (a::l) m):∃b m',m=b::m'/\R a b/\F2 R l m':=by
 cases h with
 |cons h t=>exact⟨_,_,rfl,h,t⟩
theorem F2.agw{α γ:Type}{R:α->γ->Prop}{m:List γ}(h:F2 R [] m):m=[]:=by cases h;rfl
end
section
variable {α:Type}{dF:α->List Value}{s:Nat}
theorem lH.absA{w:World}{v:Value}{L:List α}(hv:lH dF w v L):Go.Vai.absA v=oe v:=by
 rcases hv with⟨rfl,rfl|⟨a,cap,rfl⟩⟩|⟨B,o,cap,C,e,fz,rfl,_⟩<;>rfl
theorem lH.goodA{w:World}{v:Value}{L:List α}(hv:lH dF w v L):Go.Vai.goodA w v:=by
 have h:=hv.good;rcases hv with⟨rfl,rfl|⟨a,cap,rfl⟩⟩|⟨B,o,cap,C,e,fz,rfl,_⟩<;>exact h
theorem lH.read{w:World}{v:Value}{L:List α}(hv:lH dF w v L)(hone:∀a:α,(dF a).all kO=true):Sl dF (memH w) (Go.Vai.absA v) L:=by
 rw[hv.absA];exact(hv.agv (s:=1) hone).1
theorem lH.cut{w:World}{v:Value}{L:List α}(hv:lH dF w v L)(hone:∀a:α,(dF a).all kO=true){e:TypeId}{s:Nat}:Cut e s (memH w) (Go.Vai.absA v) L.length:=by
 rw[hv.absA];exact(hv.agv (s:=s) hone).2 e
end
end Go.Vai

namespace Go.Vai
open Go Go.RowKit
section
variable {α:Type}{s:Nat}{enc:α->List Value}
theorem p7(he:∀a:α,(enc a).length=s)(L:List α):∀i,(L.flatMap enc).drop (i*s)=(L.drop i).flatMap enc:=by
 induction L with
 |nil=>intro i;simp
 |cons a L ih=>
  intro i;cases i with
  |zero=>simp
  |succ i=>
   simp only[List.flatMap_cons,List.drop_succ_cons];rw[List.drop_append,<-ih i,he,List.drop_of_length_le (by rw[he,Nat.succ_mul];omega),show(i+1)*s-s=i*s by rw[Nat.succ_mul];omega];rfl
theorem zP{β:Type}{fl:β}{len lim cap i:Nat}(hi:i<=len)(hl:len<=lim)(V:Nat->Nat->Nat->β):jg fl len lim cap (some (.int .i64 (i:Int))) none none V=V i len cap:=by
 have e1:Nat.ble i len=true:=Nat.ble_eq_true_of_le hi;have e2:Nat.ble len lim=true:=Nat.ble_eq_true_of_le hl;unfold jg;simp only[zN,wN,e1,e2]
end
end Go.Vai
end
