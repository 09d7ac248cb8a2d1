/-
  PROVED HERE: a part of the proof (VaiS15, VaiS16, VaiS17, VaiS18, VaiK, VaiW, VaiW2, VaiL, VaiM, VaiN, VaiZ, VaiO, VaiQ, VaiT, VaiU, VaiV).
-/
import Derived.Test.YtmllggkhfmjpgaaGreatDoorG1
import Derived.RowKit3
import Derived.ChangeSame
import Derived.Below
import Derived.Deep.Slices
import Derived.Carry
import Derived.ProofKit
set_option linter.unusedVariables false
set_option linter.unusedSimpArgs false
noncomputable section
namespace Go.Vai
open Go
variable {β:Type}{fl:β}{good:β->Prop}{pr:lN β}{P:Program}{φ:ff}{h h':af}{w:World}{t:TypeId}
theorem GF:∀(os:List Oper)(n k:Nat)(q:Oper),os[k]? = some q->(n+k,q)∈gF os n:=by
 intro os
 induction os with
 |nil=>intro n k q h;simp at h
 |cons o os ih=>
  intro n k q h;cases k with
  |zero=>simp at h;subst h;exact List.mem_cons_self
  |succ k=>
   simp at h;have:=ih (n+1) k q h;rw[show n+(k+1)=n+1+k by omega];exact List.mem_cons_of_mem _ this
theorem dY(D i k:Nat):bit (gH D i) k=(bit D k || decide (i=k)):=by
 show Nat.testBit (D ||| 2 ^ i) k=_
 rw[Nat.testBit_or,Nat.testBit_two_pow];rfl
theorem abN(D M k:Nat):bit (Nat.lor D M) k=(bit D k || bit M k):=Nat.testBit_or ..
theorem GG(k:Nat):bit 0 k=false:=Nat.zero_testBit k
theorem rY{op:Op}{x:Z0}(h:iW P op=.rd x):rq none P op=some x:=by
 unfold iW at h;split at h<;>try contradiction
 split at h
 .rename_i e;cases h;exact e
 .split at h<;>contradiction
theorem AM{op:Op}{x:OXA}(h:iW P op=.al x):tV none P op=some x:=by
 unfold iW at h;split at h<;>try contradiction
 split at h<;>try contradiction
 split at h<;>try contradiction
 rename_i e;cases h;exact e
structure Stat(P:Program)(ops:Array Oper)(i:Nat)(o:Oper):Prop where
 k1:∀j q,ops[j]? = some q->ij P q=false->∀t∈dH ops.toList o,q.dst=some t->j∈dh o
 k2:ij P o=false->∀j q,ops[j]? = some q->j≠i->ij P q=false->∀d,o.dst=some d->q.dst≠some d
theorem GH{ops:Array Oper}{j:Nat}{q:Oper}(h:ops[j]? = some q):(j,q)∈gF ops.toList 0:=by
 have:=GF ops.toList 0 j q (by rw[Array.getElem?_toList];exact h);simpa using this
theorem xE{o:Oper}{t:Nat}:Dv o t=true<->o.dst=some t:=by
 unfold Dv;cases o.dst with
 |none=>simp
 |some d=>simp
theorem uC{ops:Array Oper}{D M i:Nat}{o:Oper}(h:W6 P ops.toList (gF ops.toList 0) D M i o=true):bit D i=false/\(∀e∈dh o,bit D e=true)/\(∃g,guardOf ops.toList o=some g)/\Stat P ops i o/\
  (ij P o=true->(∀k q,ops[k]? = some q->k≠i->bit D k=false->rQ D q=false)/\
   ∀k q,ops[k]? = some q->bit D k=true->ij P q=false->bit M k=false->∀d,o.dst=some d->q.dst≠some d/\d∉dH ops.toList q):=by
 unfold W6 at h;simp only[Bool.and_eq_true]at h;obtain⟨⟨⟨⟨h1,h2⟩,h3⟩,h4⟩,h5⟩:=h;simp only[List.all_eq_true]at h4;refine⟨by simpa using h1,?_,Option.isSome_iff_exists.mp h3,⟨?_,?_⟩,?_⟩
 .simpa[rQ,List.all_eq_true]using h2
 .intro j q hq hw t ht hd;have:=h4 _ (GH hq);simp only[Bool.or_eq_true]at this;rcases this with(this|this)|this
  .rw[hw]at this;cases this
  .have hx:(dH ops.toList o).any (Dv q)=true:=List.any_eq_true.mpr ⟨t,ht,xE.mpr hd⟩;rw[hx]at this;cases this
  .simpa using this
 .intro hw j q hq hji Sf d hd hqd;rw[hw]at h5;simp only[List.all_eq_true]at h5;have:=h5 _ (GH hq);simp only[Bool.or_eq_true]at this;rcases this with(this|this)|this
  .exact hji (by simpa using this)
  .rw[Sf]at this;cases this
  .rw[hd]at this;simp[xE.mpr hqd]at this
 .intro hw;rw[hw]at h5;simp only[Bool.and_eq_true,List.all_eq_true]at h5;refine⟨?_,?_⟩
  .intro k q hq hki hk;have:=h5.1 _ (GH hq);simp only[Bool.or_eq_true]at this;rcases this with(this|this)|this
   .exact absurd (by simpa using this) hki
   .rw[hk]at this;cases this
   .simpa using this
  .intro k q hq hk Sf hm d hd;have:=h5.2 _ (GH hq);simp only[Bool.or_eq_true]at this;rcases this with((this|this)|this)|this
   .rw[hk]at this;cases this
   .rw[Sf]at this;cases this
   .rw[hm]at this;cases this
   .rw[hd]at this;simp only[Bool.and_eq_true]at this;refine⟨λe=>?_,λhmem=>?_⟩
    .rw[xE.mpr e]at this;simp at this
    .have hx:(dH ops.toList q).any (Nat.beq d)=true:=List.any_eq_true.mpr ⟨d,hmem,by simp⟩;rw[hx]at this;simp at this
theorem GI{ops:Array Oper}{o:Oper}{s:Nat}{b:Bool}(hg:guardOf ops.toList o=some (some (s,b))):s∈dH ops.toList o:=by
 unfold guardOf at hg;split at hg
 .cases hg
 rename_i j w hgu;split at hg<;>try contradiction
 rename_i hq;cases hg;simp only[dH,hgu,List.mem_append];right;rw[hq];simp
theorem ue{os:List Oper}{o:Oper}{t:Nat}(h:Operand.tmp t∈o.op.operands.toList):t∈dH os o:=by
 simp only[dH,List.mem_append,List.mem_filterMap];exact .inl ⟨_,h,rfl⟩
theorem rZ{os:List Oper}{o:Oper}{tm dz:T Value}(h:∀t∈dH os o,dw dz t=dw tm t):∀y∈o.op.operands.toList,gE dz y=gE tm y:=by
 intro y hy;cases y with
 |tmp t=>exact h t (ue hy)
 |_=>rfl
theorem p8{ops:Array Oper}{o:Oper}{g:Option (Nat × Bool)}(hg:guardOf ops.toList o=some g){tm dz:T Value}(h:∀t∈dH ops.toList o,dw dz t=dw tm t):iV dz g=iV tm g:=by
 cases g with
 |none=>rfl
 |some p=>obtain⟨s,b⟩:=p;simp only[iV,h s (GI hg)]
def Sg(P:Program)(ops:Array Oper)(own:Nat->Option Nat)(h0:af)(φ:ff)(h:af)(tm:T Value)(i:Nat)(o:Oper):Prop:=
 ∃g,guardOf ops.toList o=some g/\(iV tm g=false->∀d,o.dst=some d->dw tm d=undef)/\
  (iV tm g=true->match iW P o.op with
   | .rd x=>∃v,mG x tm h=some v/\∀d,o.dst=some d->dw tm d=v
   | .al x=>∃n ob mk,own n=some i/\Ap x tm=some (ob,mk)/\h.bl.get n=some ob/\φ n=none/\n<h.nx/\h0.nx<=n/\∀d,o.dst=some d->dw tm d=mk n
   | .wr=>False)
theorem Sg.keep{ops:Array Oper}{own uD:Nat->Option Nat}{h0:af}{φ':ff}{tm dz:T Value}{i:Nat}{o:Oper}(hp:Sg P ops own h0 φ h tm i o)(hl:∀t∈dH ops.toList o,dw dz t=dw tm t)(hd:∀d,o.dst=some d->dw dz d=dw tm d)(hrd:∀x v g,iW P o.op=.rd x->guardOf ops.toList o=some g->iV dz g=true->mG x tm h=some v->(∀d,o.dst=some d->dw dz d=v)->∃v',mG x dz h'=some v'/\∀d,o.dst=some d->dw dz d=v')(hal:∀n ob,own n=some i->h.bl.get n=some ob->φ n=none->n<h.nx->h0.nx<=n->uD n=some i/\h'.bl.get n=some ob/\φ' n=none/\n<h'.nx):Sg P ops uD h0 φ' h' dz i o:=by
 obtain⟨g,hg,h1,h2⟩:=hp;have hw:=p8 hg hl;refine⟨g,hg,λhf d F5=>by rw[hd d F5];exact h1 (hw▸hf) d F5,λht=>?_⟩;have h2:=h2 (hw▸ht);cases hc:iW P o.op with
 |rd x=>
  rw[hc]at h2;obtain⟨v,k1,k2⟩:=h2;exact hrd x v g hc hg ht k1 λd F5=>by rw[hd d F5];exact k2 d F5
 |al x=>
  rw[hc]at h2;obtain⟨n,ob,mk,k1,k2,k3,k4,k5,k6,k7⟩:=h2;obtain⟨j1,j2,j3,j4⟩:=hal n ob k1 k3 k4 k5 k6;refine⟨n,ob,mk,j1,?_,j2,j3,j4,k6,λd F5=>by rw[hd d F5];exact k7 d F5⟩;unfold Ap at *
  rw[XA.congr (λy hy=>rZ hl y (DG (AM hc) y hy))];exact k2
 |wr=>rw[hc]at h2;exact h2.elim
abbrev pJ(listed:Array Bool)(i:Nat):Prop:=listed.getD i false=true
structure Inv(P:Program)(ops:Array Oper)(nt:Nat)(φ0:ff)(h0:af)(w0:World)(ds:List Deferred)(mT:T Value)(listed:Array Bool)(D M:Nat)(tm:T Value)(h:af)(own:Nat->Option Nat)(φ:ff)(a:Act)(w:World):Prop where
 lsz:listed.size=ops.size
 sub:∀i,pJ listed i->bit D i=true
 clo:∀i o,ops[i]? = some o->pJ listed i->∀e∈dh o,pJ listed e
 wr:∀i o,ops[i]? = some o->bit D i=true->ij P o=true->pJ listed i
 mS:∀i,bit M i=true->pJ listed i
 st:∀i o,ops[i]? = some o->bit D i=true->Stat P ops i o/\∀e∈dh o,bit D e=true
 small:nt<=1000000000000
 size:a.tmps.size=nt
 rel:∀t,t<nt->(∀i o,ops[i]? = some o->bit D i=true->¬pJ listed i->o.dst≠some t)->VR φ (dw tm t) (a.tmps.getD t undef)
 hr:HR P φ h w
 ext:Ext φ0 φ h0 h w0 w
 dfs:a.defers=ds
 nk:∀i o,ops[i]? = some o->bit D i=true->¬pJ listed i->Sg P ops own h0 φ h tm i o
 keep:∀t,t<nt->(∀(i:Nat)(o:Oper),ops[i]? = some o->o.dst≠some t)->dw tm t=dw mT t
section
variable {ops:Array Oper}{nt:Nat}{φ0:ff}{h0:af}{w0:World}{ds:List Deferred}{listed:Array Bool}{D M:Nat}{tm mT:T Value}{own:Nat->Option Nat}{a:Act}
theorem Inv.ahead(inv:Inv P ops nt φ0 h0 w0 ds mT listed D M tm h own φ a w)(hok:∀q∈ops.toList,fW nt q=true){i:Nat}{o:Oper}(ho:ops[i]? = some o)(hD:bit D i=false)(Wt:∀e∈dh o,bit D e=true)(hst:Stat P ops i o)(hw:ij P o=false){v:Value}{h':af}{uD:Nat->Option Nat}(hr':HR P φ h' w)(hx':Ext φ0 φ h0 h' w0 w)(hm:CW h h')(yE:h.nx<=h'.nx)(hown:∀n,n<h.nx->uD n=own n)(hpe:Sg P ops uD h0 φ h' (kF tm o.dst v) i o):Inv P ops nt φ0 h0 w0 ds mT listed (gH D i) M (kF tm o.dst v) h' uD φ a w:=by
 have hmem:o∈ops.toList:=List.mem_of_getElem? (by rw[Array.getElem?_toList];exact ho);have M7:¬pJ listed i:=λhs=>by rw[inv.sub i hs]at hD;cases hD
 have r5:=ez (hok o hmem);refine⟨inv.lsz,?_,inv.clo,?_,inv.mS,?_,inv.small,inv.size,?_,hr',hx',inv.dfs,?_,λt ht hno=>by rw[iC inv.small r5 ht,if_neg (hno i o ho)];exact inv.keep t ht hno⟩
 .intro k hk;rw[dY,inv.sub k hk];rfl
 .intro k q hq hk hkw;rw[dY,Bool.or_eq_true]at hk;rcases hk with hk|hk
  .exact inv.wr k q hq hk hkw
  .have hk:i=k:=by simpa using hk
   subst hk;rw[ho]at hq;cases hq;rw[hw]at hkw;cases hkw
 .intro k q hq hk;rw[dY,Bool.or_eq_true]at hk;have up:∀{e},bit D e=true->bit (gH D i) e=true:=λhe=>by rw[dY,he];rfl
  rcases hk with hk|hk
  .exact⟨(inv.st k q hq hk).1,λe he=>up ((inv.st k q hq hk).2 e he)⟩
  .have hk:i=k:=by simpa using hk
   subst hk;rw[ho]at hq;cases hq;exact⟨hst,λe he=>up (Wt e he)⟩
 .intro t ht hno;have h1:o.dst≠some t:=hno i o ho (by rw[dY];simp) M7;rw[iC inv.small r5 ht,if_neg h1];exact inv.rel t ht λk q hq hk yF=>hno k q hq (by rw[dY,hk];rfl) yF
 .intro k q hq hk yF;rw[dY,Bool.or_eq_true]at hk;by_cases hki:i=k
  .subst hki;rw[ho]at hq;cases hq;exact hpe
  ·have hk:bit D k=true:=by
    rcases hk with hk|hk
    .exact hk
    .exact absurd (by simpa using hk) hki
   have Sf:ij P q=false:=by
    cases Sf:ij P q with
    |false=>rfl
    |true=>exact absurd (inv.wr k q hq hk Sf) yF
   have hqm:q∈ops.toList:=List.mem_of_getElem? (by rw[Array.getElem?_toList];exact hq);have hl:∀t∈dH ops.toList q,dw (kF tm o.dst v) t=dw tm t:=by
    intro t ht;rw[iC inv.small r5 (nL hok hqm ht),if_neg];intro he;have:=(inv.st k q hq hk).2 i ((inv.st k q hq hk).1.k1 i o ho hw t ht he);rw[this]at hD;cases hD
   have hd:∀d,q.dst=some d->dw (kF tm o.dst v) d=dw tm d:=by
    intro d F5;have hlt:d<nt:=by have:=ez (hok q hqm);rw[F5]at this;exact er this
    rw[iC inv.small r5 hlt,if_neg];intro he;exact hst.k2 hw k q hq (λe=>hki e.symm) Sf d he F5
   refine(inv.nk k q hq hk yF).keep hl hd ?_ ?_
   .intro x v' g hc hg xF hrd hdv;refine⟨v',?_,hdv⟩;have:=Lh (rY hc) hm hrd;unfold mG at *
    rw[XI.congr (λy hy=>rZ hl y (xD (rY hc) y hy))];exact this
   .intro n ob e1 e2 e3 e4 e5;exact⟨by rw[hown n e4];exact e1,hm n ob e2,e3,Nat.lt_of_lt_of_le e4 yE⟩
end
end Go.Vai

namespace Go.Vai
open Go
variable {β:Type}{fl:β}{good:β->Prop}{pr:lN β}{P:Program}{φ:ff}{h h':af}{w:World}{t:TypeId}
variable {ops:Array Oper}{nt:Nat}{φ0:ff}{h0:af}{w0:World}{ds:List Deferred}{listed:Array Bool}{D M:Nat}{tm mT:T Value}{own:Nat->Option Nat}{a:Act}
theorem CW.refl(h:af):CW h h:=λ_ _ e=>e
theorem iE{i k:Nat}(hi:i<listed.size):pJ (listed.setIfInBounds i true) k<->k=i\/pJ listed k:=by
 unfold pJ;simp only[Array.getD_eq_getD_getElem?];by_cases he:i=k
 .subst he;simp[Array.getElem?_setIfInBounds_self_of_lt hi]
 .rw[Array.getElem?_setIfInBounds_ne he];constructor
  .exact λh=>.inr h
  .rintro(h|h)
   .exact absurd h.symm he
   .exact h
theorem GJ{a:Act}{d:Option Nat}{v:Value}{t:Nat}(ht:t<a.tmps.size):(a.put d v).tmps.getD t undef=if d=some t then v else a.tmps.getD t undef:=by
 cases d with
 |none=>simp[Act.put]
 |some d=>
  simp only[Act.put,Array.getD_eq_getD_getElem?];by_cases he:d=t
  .subst he;rw[if_pos rfl,Array.getElem?_setIfInBounds_self_of_lt ht];rfl
  .rw[if_neg (by simpa using he),Array.getElem?_setIfInBounds_ne he]
theorem GK{a:Act}{d:Option Nat}{v:Value}:(a.put d v).tmps.size=a.tmps.size:=by cases d<;>simp[Act.put]
theorem M8{a:Act}{d:Option Nat}{v:Value}:(a.put d v).defers=a.defers:=by cases d<;>rfl
theorem Li{o:Oper}{x:Z0}(h:iW P o.op=.rd x):ij P o=false:=by unfold ij;rw[h]
theorem Py{o:Oper}(h:ij P o=true):iW P o.op=.wr:=by
 unfold ij at h;split at h
 .assumption
 .cases h
theorem AO{i:Nat}{o:Oper}(ho:ops[i]? = some o):o∈ops.toList:=List.mem_of_getElem? (by rw[Array.getElem?_toList];exact ho)
theorem Inv.advance(hfl:¬good fl)(inv:Inv P ops nt φ0 h0 w0 ds mT listed D M tm h own φ a w)(hok:∀q∈ops.toList,fW nt q=true){rec:Rec β}{i:Nat}{o:Oper}(ho:ops[i]? = some o)(hD:bit D i=false)(Wt:∀e∈dh o,bit D e=true)(hst:Stat P ops i o)(hw:ij P o=false){M':Nat}{V:T Value->af->β}(hg:good (lP fl pr P rec ops.toList D M' o tm h V)):∃dz h' uD,Inv P ops nt φ0 h0 w0 ds mT listed (gH D i) M dz h' uD φ a w/\good (V dz h'):=by
 have r5:=ez (hok o (AO ho));have hl:∀v,∀t∈dH ops.toList o,dw (kF tm o.dst v) t=dw tm t:=by
  intro v t ht;rw[iC inv.small r5 (nL hok (AO ho) ht),if_neg];intro he;have:=Wt i (hst.k1 i o ho hw t ht he);rw[this]at hD;cases hD
 have hdv:∀v d,o.dst=some d->dw (kF tm o.dst v) d=v:=by
  intro v d hd;have hlt:d<nt:=by rw[hd]at r5;exact er r5
  rw[iC inv.small r5 hlt,if_pos hd]
 unfold lP at hg;split at hg
 .exact absurd hg hfl
 rename_i g Lc;split at hg
 .rename_i xF;rw[iB]at hg;refine⟨_,_,own,inv.ahead hok ho hD Wt hst hw inv.hr inv.ext (CW.refl h) (Nat.le_refl _) (λ_ _=>rfl) ?_,hg⟩;refine⟨g,Lc,λ_ d hd=>hdv _ d hd,λht=>?_⟩;rw[p8 Lc (hl _),xF]at ht;cases ht
 .rename_i xF;split at hg
  .rename_i x hc;split at hg
   .rename_i v hv;rw[iB]at hg;refine⟨_,_,own,inv.ahead hok ho hD Wt hst hw inv.hr inv.ext (CW.refl h) (Nat.le_refl _) (λ_ _=>rfl) ?_,hg⟩;refine⟨g,Lc,λhf=>?_,λ_=>?_⟩
    .rw[p8 Lc (hl _),xF]at hf;cases hf
    .rw[hc];refine⟨v,?_,λd hd=>hdv _ d hd⟩;unfold mG at *
     rw[XI.congr (λy hy=>rZ (hl v) y (xD (rY hc) y hy))];exact hv
   .exact absurd hg hfl
  .rename_i x hc;split at hg
   .rename_i ob mk hv;obtain⟨hn,hg⟩:=dS hfl hg;rw[iB]at hg;have hs:Small h.nx:=by unfold Small;omega
    have hnone:φ h.nx=none:=by
     cases hp:φ h.nx with
     |none=>rfl
     |some pl=>have:=(inv.hr.dom _ _ hp).1;omega
    refine⟨_,_,(λn=>if n=h.nx then some i else own n),inv.ahead hok ho hD Wt hst hw (inv.hr.Ay hn ob) (inv.ext.Ay inv.hr.lo hn ob) ?_ (Nat.le_succ _) (λn hn=>if_neg X1) ?_,hg⟩
    .intro b o' hb;by_cases hsb:Small b
     .have:=inv.hr.keys b o' hsb hb
      show(h.bl.a_ h.nx ob).get b=some o'
      rw[T.iH _ _ hs hsb X1];exact hb
     .show(h.bl.a_ h.nx ob).get b=some o'
      exact absurd (Nat.lt_succ_self b) hsb
    .refine⟨g,Lc,λhf=>?_,λ_=>?_⟩
     .rw[p8 Lc (hl _),xF]at hf;cases hf
     .rw[hc];refine⟨h.nx,ob,mk,if_pos rfl,?_,T.ay _ _ _,hnone,Nat.lt_succ_self _,inv.ext.nx,λd hd=>hdv _ d hd⟩;unfold Ap at *
      rw[XA.congr (λy hy=>rZ (hl _) y (DG (AM hc) y hy))];exact hv
   .exact absurd hg hfl
  .rename_i hc;rw[ij,hc]at hw;cases hw
theorem Inv.done(inv:Inv P ops nt φ0 h0 w0 ds mT listed D M tm h own φ a w)(hok:∀q∈ops.toList,fW nt q=true){i:Nat}{o:Oper}(ho:ops[i]? = some o)(hD:bit D i=true)(vF:∀e∈dh o,pJ listed e){φ':ff}{w':World}{v':Value}(hv:∀d,o.dst=some d->VR φ' (dw tm d) v')(hs:Sub φ φ')(hr':HR P φ' h w')(hx':Ext φ0 φ' h0 h w0 w')(hφ:∀n,own n≠some i->φ n=none->φ' n=none):Inv P ops nt φ0 h0 w0 ds mT (listed.setIfInBounds i true) D M tm h own φ' (a.put o.dst v') w':=by
 have hil:i<listed.size:=by rw[inv.lsz];exact(Array.getElem?_eq_some_iff.mp ho).1
 refine⟨by simp[inv.lsz],?_,?_,?_,?_,inv.st,inv.small,by rw[GK];exact inv.size,?_,hr',hx',by rw[M8];exact inv.dfs,?_,inv.keep⟩
 .intro k hk;rcases(iE hil).mp hk with rfl|hk
  .exact hD
  .exact inv.sub k hk
 .intro k q hq hk e he;rw[iE hil];rcases(iE hil).mp hk with rfl|hk
  .rw[ho]at hq;cases hq;exact .inr (vF e he)
  .exact .inr (inv.clo k q hq hk e he)
 .intro k q hq hk hkw;rw[iE hil];exact .inr (inv.wr k q hq hk hkw)
 .intro k hk;rw[iE hil];exact .inr (inv.mS k hk)
 .intro t ht hno;rw[GJ (by rw[inv.size];exact ht)];by_cases hd:o.dst=some t
  .rw[if_pos hd];exact hv t hd
  .rw[if_neg hd];refine(inv.rel t ht λk q hq hk yF=>?_).mono hs;by_cases hki:k=i
   .subst hki;rw[ho]at hq;cases hq;exact hd
   .exact hno k q hq hk (λhh=>by rcases(iE hil).mp hh with h1|h1<;>contradiction)
 .intro k q hq hk yF;rw[iE hil]at yF;have hki:k≠i:=λe=>yF (.inl e);have Sh:¬pJ listed k:=λe=>yF (.inr e);refine(inv.nk k q hq hk Sh).keep (λ_ _=>rfl) (λ_ _=>rfl) (λx v g _ _ _ e1 e2=>⟨v,e1,e2⟩) ?_;intro n ob e1 e2 e3 e4 e5;exact⟨e1,e2,hφ n (by rw[e1];intro hh;cases hh;exact hki rfl) e3,e4⟩
theorem Inv.looks(inv:Inv P ops nt φ0 h0 w0 ds mT listed D M tm h own φ a w)(hok:∀q∈ops.toList,fW nt q=true){i:Nat}{o:Oper}(ho:ops[i]? = some o)(hst:Stat P ops i o)(vF:∀e∈dh o,pJ listed e):∀t∈dH ops.toList o,t<a.tmps.size/\VR φ (dw tm t) (a.tmps.getD t undef):=by
 intro t ht;have hlt:=nL hok (AO ho) ht;refine⟨by rw[inv.size];exact hlt,inv.rel t hlt λk q hq hk yF hqd=>yF (vF k (hst.k1 k q hq ?_ t ht hqd))⟩;cases Sf:ij P q with
 |false=>rfl
 |true=>exact absurd (inv.wr k q hq hk Sf) yF
theorem Inv.aiy(inv:Inv P ops nt φ0 h0 w0 ds mT listed D M tm h own φ a w)(hok:∀q∈ops.toList,fW nt q=true){i:Nat}{o:Oper}(ho:ops[i]? = some o)(hst:Stat P ops i o)(vF:∀e∈dh o,pJ listed e):∀y∈o.op.operands.toList,VR φ (gE tm y) (a.eval y):=by
 intro y hy;have hyo:=uB (hok o (AO ho)) y hy;cases y with
 |tmp t=>exact(inv.looks hok ho hst vF t (ue hy)).2
 |const v=>exact jI hyo
 |func f=>exact VR.func' .nil .nil
 |global g=>cases hyo
theorem Inv.wanted(inv:Inv P ops nt φ0 h0 w0 ds mT listed D M tm h own φ a w)(hok:∀q∈ops.toList,fW nt q=true){i:Nat}{o:Oper}(ho:ops[i]? = some o)(hst:Stat P ops i o)(vF:∀e∈dh o,pJ listed e){g:Option (Nat × Bool)}(hg:guardOf ops.toList o=some g):Region.wanted o (yielded ops a.tmps)=iV tm g:=
 DE (φ:=φ) hg λs _ _ hs=>inv.looks hok ho hst vF s hs
theorem Inv.late(inv:Inv P ops nt φ0 h0 w0 ds mT listed D M tm h own φ a w)(hok:∀q∈ops.toList,fW nt q=true){i:Nat}{o:Oper}(ho:ops[i]? = some o)(hD:bit D i=true)(M7:¬pJ listed i)(vF:∀e∈dh o,pJ listed e){Q:Exit->Act->World->Prop}{K:Act->World->Prop}{r0:Option Nat}(hK:∀φ' a' w',Inv P ops nt φ0 h0 w0 ds mT (listed.setIfInBounds i true) D M tm h own φ' a' w'->K a' w'):wpOpIn (FR r0) 0 P ops Q i K a w:=by
 obtain⟨hst,_⟩:=inv.st i o ho hD;obtain⟨g,hg,h1,h2⟩:=inv.nk i o ho hD M7;have hlt:∀d,o.dst=some d->d<nt:=λd hd=>by have:=ez (hok o (AO ho));rw[hd]at this;exact er this
 simp only[wpOpIn,ho];rw[inv.wanted hok ho hst vF hg];cases hw:iV tm g with
 |false=>
  rw[if_neg (by simp)];exact⟨mZ,hK φ _ w (inv.done hok ho hD vF (λd hd=>by rw[h1 hw d hd];exact VR.undef) (Sub.refl φ) inv.hr inv.ext (λ_ _ e=>e))⟩
 |true=>
  rw[if_pos rfl];have h2:=h2 hw;have hρ:=inv.aiy hok ho hst vF;cases hc:iW P o.op with
  |rd x=>
   rw[hc]at h2;obtain⟨v,k1,k2⟩:=h2;obtain⟨v0,v',e1,e2,e3⟩:=yA (β:=Option Value) (fl:=none) (good:=λr=>r=some v) (by simp) (rY hc) hρ inv.hr (V:=λv _=>some v) k1 rfl;cases e1;refine⟨mZ,?_⟩;rw[Oper.semAt_eq _ _ _ (λc hcd=>by rw[hcd]at hc;cases hc),e3];exact hK φ _ w (inv.done hok ho hD vF (λd hd=>by rw[k2 d hd];exact e2) (Sub.refl φ) inv.hr inv.ext (λ_ _ e=>e))
  |al x=>
   rw[hc]at h2;obtain⟨n,ob,mk,k1,k2,k3,k4,k5,k6,k7⟩:=h2;obtain⟨ob',mk',O,e1,e2,e3,e4,e5⟩:=yC (β:=Option (bP × (Nat->Value))) (fl:=none) (good:=λr=>r=some (ob,mk)) (P:=P) (w:=w) (by simp) (AM hc) hρ (V:=λo mk=>some (o,mk)) k2 rfl;cases e1;refine⟨mZ,?_⟩;rw[Oper.semAt_eq _ _ _ (λc hcd=>by rw[hcd]at hc;cases hc),e5];refine hK (iX φ n ⟨w.heap.size,0,0⟩) _ _ (inv.done hok ho hD vF (λd hd=>by rw[k7 d hd];exact e4 _ _ _ (eW _ _ _)) (sU k4) (inv.hr.Gi k3 k4 k5 0 0 (e3 _)) (inv.ext.Gi k4 k6 O (u_ (e3 ⟨0,0,0⟩) e2) 0 0) ?_);intro m hm1 hm2;unfold iX;rw[if_neg]
   .exact hm2
   .intro he;subst he;exact hm1 k1
  |wr=>rw[hc]at h2;exact h2.elim
end Go.Vai

namespace Go.Vai
open Go
variable {β:Type}{fl:β}{good:β->Prop}{pr:lN β}{P:Program}{φ:ff}{h h':af}{w:World}{t:TypeId}
variable {ops:Array Oper}{nt:Nat}{φ0:ff}{h0:af}{w0:World}{ds:List Deferred}{listed:Array Bool}{D M:Nat}{tm mT:T Value}{own:Nat->Option Nat}{a:Act}
theorem GL:∀(xh:List It),yq P ops.toList D M tm h xh=true->∀k q,(k,q)∈xh->bit D k=true->bit M k=false->∀x g,iW P q.op=.rd x->guardOf ops.toList q=some g->iV tm g=true->
  ∃v,mG x tm h=some v/\∀d,q.dst=some d->dw tm d=v:=by
 intro xh
 induction xh with
 |nil=>intro _ k q hm;cases hm
 |cons it xh ih=>
  obtain⟨j,o⟩:=it;intro hs k q hm hD hM x g hc hg hw;simp only[List.mem_cons]at hm;unfold yq at hs;rcases hm with e|hm
  .cases e;simp only[hD,hM,hc,hg,hw,Bool.not_false,Bool.and_true,Bool.and_eq_true]at hs;have hs:=hs.1;split at hs
   .rename_i v d hv hd;refine⟨v,hv,λd' hd'=>?_⟩;rw[hd]at hd';cases hd';exact(EH 8 _ _ hs).symm
   .rename_i v hv hd;exact⟨v,hv,λd' hd'=>by rw[hd]at hd';cases hd'⟩
   .cases hs
  .refine ih ?_ k q hm hD hM x g hc hg hw;split at hs
   .simp only[Bool.and_eq_true]at hs;exact hs.2
   .exact hs
theorem GM{xh:List It}(ha:Dw P D M xh=false){k:Nat}{q:Oper}(hm:(k,q)∈xh)(hD:bit D k=true)(hM:bit M k=false){x:Z0}(hc:iW P q.op=.rd x):False:=by
 unfold Dw at ha;rw[List.any_eq_false]at ha;have:=ha _ hm;simp[hD,hM,hc]at this
theorem Inv.wrote(inv:Inv P ops nt φ0 h0 w0 ds mT listed D M tm h own φ a w)(hok:∀q∈ops.toList,fW nt q=true){i:Nat}{o:Oper}(ho:ops[i]? = some o)(hD:bit D i=false)(vF:∀e∈dh o,pJ listed e)(hst:Stat P ops i o)(hw:ij P o=true){M':Nat}(hM:∀k,bit M' k=true->pJ listed k)(hno:∀k q,ops[k]? = some q->bit D k=true->ij P q=false->bit M' k=false->∀d,o.dst=some d->q.dst≠some d/\d∉dH ops.toList q){φ':ff}{w':World}{v v':Value}{h':af}(hv:VR φ' v v')(hr':HR P φ' h' w')(hx:Ext φ φ' h h' w w')(hre:∀k q,ops[k]? = some q->bit D k=true->bit M' k=false->¬pJ listed k->∀x g,iW P q.op=.rd x->guardOf ops.toList q=some g->iV (kF tm o.dst v) g=true->
   ∃v1,mG x (kF tm o.dst v) h'=some v1/\∀d,q.dst=some d->dw (kF tm o.dst v) d=v1):Inv P ops nt φ0 h0 w0 ds mT (listed.setIfInBounds i true) (gH D i) M' (kF tm o.dst v) h' own φ' (a.put o.dst v') w':=by
 have hil:i<listed.size:=by rw[inv.lsz];exact(Array.getElem?_eq_some_iff.mp ho).1
 have r5:=ez (hok o (AO ho));have aiA:∀{k q},ops[k]? = some q->bit (gH D i) k=true->¬pJ (listed.setIfInBounds i true) k->bit D k=true/\¬pJ listed k/\ij P q=false/\bit M' k=false:=by
  intro k q hq hk yF;rw[iE hil]at yF;have hki:k≠i:=λe=>yF (.inl e);have Sh:¬pJ listed k:=λe=>yF (.inr e);rw[dY,Bool.or_eq_true]at hk;have hk:bit D k=true:=by
   rcases hk with hk|hk
   .exact hk
   .exact absurd (by simpa using hk:i=k).symm hki
  refine⟨hk,Sh,?_,?_⟩
  .cases Sf:ij P q with
   |false=>rfl
   |true=>exact absurd (inv.wr k q hq hk Sf) Sh
  .cases hm:bit M' k with
   |false=>rfl
   |true=>exact absurd (hM k hm) Sh
 refine⟨by simp[inv.lsz],?_,?_,?_,?_,?_,inv.small,by rw[GK];exact inv.size,?_,hr',inv.ext.trans hx,by rw[M8];exact inv.dfs,?_,λt ht hno=>by rw[iC inv.small r5 ht,if_neg (hno i o ho)];exact inv.keep t ht hno⟩
 .intro k hk;rw[dY];rcases(iE hil).mp hk with rfl|hk
  .simp
  .rw[inv.sub k hk];rfl
 .intro k q hq hk e he;rw[iE hil];rcases(iE hil).mp hk with rfl|hk
  .rw[ho]at hq;cases hq;exact .inr (vF e he)
  .exact .inr (inv.clo k q hq hk e he)
 .intro k q hq hk hkw;rw[iE hil];rw[dY,Bool.or_eq_true]at hk;rcases hk with hk|hk
  .exact .inr (inv.wr k q hq hk hkw)
  .exact .inl (by simpa using hk:i=k).symm
 .intro k hk;rw[iE hil];exact .inr (hM k hk)
 .intro k q hq hk;rw[dY,Bool.or_eq_true]at hk;have up:∀{e},bit D e=true->bit (gH D i) e=true:=λhe=>by rw[dY,he];rfl
  rcases hk with hk|hk
  .exact⟨(inv.st k q hq hk).1,λe he=>up ((inv.st k q hq hk).2 e he)⟩
  .have hk:i=k:=by simpa using hk
   subst hk;rw[ho]at hq;cases hq;exact⟨hst,λe he=>up (inv.sub e (vF e he))⟩
 .intro t ht hnot;rw[GJ (by rw[inv.size];exact ht),iC inv.small r5 ht];by_cases hd:o.dst=some t
  .rw[if_pos hd,if_pos hd];exact hv
  .rw[if_neg hd,if_neg hd];refine(inv.rel t ht λk q hq hk yF=>hnot k q hq (by rw[dY,hk];rfl) ?_).mono hx.sub;rw[iE hil];rintro(rfl|hh)
   .rw[hk]at hD;cases hD
   .exact yF hh
 ·intro k q hq hk yF;obtain⟨dZ,hk2,xG,wZ⟩:=aiA hq hk yF;have hl:∀t∈dH ops.toList q,dw (kF tm o.dst v) t=dw tm t:=by
   intro t ht;rw[iC inv.small r5 (nL hok (AO hq) ht),if_neg];intro he;exact(hno k q hq dZ xG wZ t he).2 ht
  have hd:∀d,q.dst=some d->dw (kF tm o.dst v) d=dw tm d:=by
   intro d F5;have hlt:d<nt:=by have:=ez (hok q (AO hq));rw[F5]at this;exact er this
   rw[iC inv.small r5 hlt,if_neg];intro he;exact(hno k q hq dZ xG wZ d he).1 F5
  refine(inv.nk k q hq dZ hk2).keep hl hd (λx v1 g hc hg xF _ _=>hre k q hq dZ wZ hk2 x g hc hg xF) ?_;intro n ob e1 e2 e3 e4 e5;refine⟨e1,by rw[hx.Dz n e4 e3];exact e2,?_,Nat.lt_of_lt_of_le e4 hx.nx⟩;cases hp:φ' n with
  |none=>rfl
  |some pl=>have:=(hx.new n pl e3 hp).1;omega
theorem Inv.write(hfl:¬good fl)(hp:iD good pr P){rec:Rec β}(fZ:nK good P rec)(inv:Inv P ops nt φ0 h0 w0 ds mT listed D M tm h own φ a w)(hok:∀q∈ops.toList,fW nt q=true){i:Nat}{o:Oper}(ho:ops[i]? = some o)(hD:bit D i=false)(vF:∀e∈dh o,pJ listed e)(hst:Stat P ops i o)(hw:ij P o=true){M':Nat}(hM:∀k,bit M' k=true->pJ listed k)(hno:∀k q,ops[k]? = some q->bit D k=true->ij P q=false->bit M' k=false->∀d,o.dst=some d->q.dst≠some d/\d∉dH ops.toList q){V:T Value->af->β}(hg:good (lP fl pr P rec ops.toList D M' o tm h V)){Q:Exit->Act->World->Prop}{K:Act->World->Prop}{r0:Option Nat}(hK:∀dz h' φ' a' w',Inv P ops nt φ0 h0 w0 ds mT (listed.setIfInBounds i true) (gH D i) M' dz h' own φ' a' w'->good (V dz h')->K a' w'):wpOpIn (FR r0) 0 P ops Q i K a w:=by
 simp only[wpOpIn,ho];unfold lP at hg;split at hg
 .exact absurd hg hfl
 rename_i g Lc;rw[inv.wanted hok ho hst vF Lc];split at hg
 ·rename_i xF;rw[iB]at hg;rw[xF,if_neg (by simp)];refine⟨mZ,?_⟩;refine hK _ _ φ _ w (inv.wrote hok ho hD vF hst hw hM hno VR.undef inv.hr (Ext.refl _ _ _) ?_) hg;intro k q hq hk hkM yF x g' hc hg' Xh;have xG:=Li hc;have r5:=ez (hok o (AO ho));have hl:∀t∈dH ops.toList q,dw (kF tm o.dst undef) t=dw tm t:=by
   intro t ht;rw[iC inv.small r5 (nL hok (AO hq) ht),if_neg];intro he;exact(hno k q hq hk xG hkM t he).2 ht
  obtain⟨g2,e1,e2,e3⟩:=inv.nk k q hq hk yF;rw[hg']at e1;cases e1;have e3:=e3 (by rw[<-p8 hg' hl];exact Xh);rw[hc]at e3;obtain⟨v,k1,k2⟩:=e3;refine⟨v,?_,λd F5=>?_⟩
  .unfold mG at *
   rw[XI.congr (λy hy=>rZ hl y (xD (rY hc) y hy))];exact k1
  .have hlt:d<nt:=by have:=ez (hok q (AO hq));rw[F5]at this;exact er this
   rw[iC inv.small r5 hlt,if_neg]
   .exact k2 d F5
   .intro he;exact(hno k q hq hk xG hkM d he).1 F5
 .rename_i xF;rw[xF,if_pos rfl];rw[Py hw]at hg;refine GD hfl hp fZ (inv.aiy hok ho hst vF) inv.hr hg ?_;intro φ' v v' h' w' g1 g2 g3 g4;rw[iB]at g1;split at g1
  .rename_i ha;refine hK _ _ φ' _ w' (inv.wrote hok ho hD vF hst hw hM hno g2 g3 g4 ?_) g1;intro k q hq hk hkM yF x g' hc hg' Xh;exact(GM ha (GH hq) hk hkM hc).elim
  .split at g1
   .rename_i uZ;refine hK _ _ φ' _ w' (inv.wrote hok ho hD vF hst hw hM hno g2 g3 g4 ?_) g1;intro k q hq hk hkM yF x g' hc hg' Xh;exact GL _ uZ k q (GH hq) hk hkM x g' hc hg' Xh
   .exact absurd g1 hfl
theorem AP{S:Nat->Prop}:∀(l:List Nat)(m:Nat),(∀k,bit m k=true->S k)->(∀e∈l,S e)->∀k,bit (l.foldl gH m) k=true->S k:=by
 intro l
 induction l with
 |nil=>intro m h1 _ k hk;exact h1 k hk
 |cons e l ih=>
  intro m h1 h2 k hk;refine ih (gH m e) ?_ (λx hx=>h2 x (by simp[hx])) k hk;intro x hx;rw[dY,Bool.or_eq_true]at hx;rcases hx with hx|hx
  .exact h1 x hx
  .have:e=x:=by simpa using hx
   subst this;exact h2 e (by simp)
theorem Pz{S:Nat->Prop}{os:List Oper}(hc:∀i o,os[i]? = some o->S i->∀e∈dh o,S e):∀(i m:Nat),(∀k,bit m k=true->S k)->∀k,bit (RL os i m) k=true->S k:=by
 intro i
 induction i with
 |zero=>intro m h1 k hk;exact h1 k hk
 |succ i ih=>
  intro m h1 k hk;unfold RL at hk;split at hk
  .rename_i o hb ho;exact ih _ (AP _ _ h1 (hc i o ho (h1 i hb))) k hk
  .exact ih m h1 k hk
theorem Lj{S:Nat->Prop}{os:List Oper}(hc:∀i o,os[i]? = some o->S i->∀e∈dh o,S e){i:Nat}{o:Oper}(ho:os[i]? = some o)(hp:∀e∈dh o,S e):∀k,bit (tY os i) k=true->S k:=by
 unfold tY;rw[ho];exact Pz hc i _ (AP _ _ (λk hk=>by rw[GG]at hk;cases hk) hp)
theorem DH{i:Nat}(hi:i∈Region.ready .any ops listed):∃o,ops[i]? = some o/\¬pJ listed i/\∀e∈dh o,pJ listed e:=by
 unfold Region.ready at hi;simp only[List.mem_filter,List.mem_range,Bool.and_eq_true]at hi;obtain⟨h1,h2,h3⟩:=hi;have ho:ops[i]? = some ops[i]:=by simp[h1]
 refine⟨ops[i],ho,?_,?_⟩
 .intro hh;unfold pJ at hh;simp only[Array.getD_eq_getD_getElem?]at hh h2;cases hl:listed[i]? with
  |none=>rw[hl]at hh;simp at hh
  |some b=>rw[hl]at hh h2;simp at hh h2;rw[hh]at h2;cases h2
 .intro e he;rw[ho]at h3;simp only[Option.map_some,Option.getD_some,Array.all_eq_true']at h3;unfold dh at he;simp only[List.mem_map,List.mem_filter]at he;obtain⟨x,⟨hx,hb⟩,rfl⟩:=he;have:=h3 x (by simpa using hx);rw[hb]at this;simp only[Bool.not_true,Bool.false_or]at this;exact this
theorem mem_ready{i:Nat}{o:Oper}(ho:ops[i]? = some o)(hsz:listed.size=ops.size)(hn:¬pJ listed i)(hp:∀e∈dh o,pJ listed e):i∈Region.ready .any ops listed:=by
 have hlt:i<ops.size:=(Array.getElem?_eq_some_iff.mp ho).1;unfold Region.ready;simp only[List.mem_filter,List.mem_range,Bool.and_eq_true];refine⟨hlt,?_,?_⟩
 .have hll:i<listed.size:=by omega
  unfold pJ at hn;simp only[Array.getD_eq_getD_getElem?,getElem?_pos listed i hll]at hn ⊢;simpa using hn
 .rw[ho];simp only[Option.map_some,Option.getD_some,Array.all_eq_true'];intro e he;cases hb:Region.binds .any e with
  |false=>rfl
  |true=>
   have:=hp e.on (by unfold dh;simp only[List.mem_map,List.mem_filter];exact⟨e,⟨by simpa using he,hb⟩,rfl⟩);simp only[Bool.not_true,Bool.false_or];exact this
section
variable {nt:Nat}{V:T Value->af->β}{Q:Exit->Act->World->Prop}{r0:Option Nat}
theorem abP{own:Nat->Option Nat}(inv:Inv P ops nt φ0 h0 w0 ds mT listed D M tm h own φ a w)(hidx:∀i o,ops[i]? = some o->∀e∈dh o,e<i)(hr:Region.ready .any ops listed=[]):∀i o,ops[i]? = some o->pJ listed i:=by
 intro i
 induction i using Nat.strongRecOn with
 |_ i ih=>
  intro o ho;by_cases hi:pJ listed i
  .exact hi
  ·have hlt:i<ops.size:=(Array.getElem?_eq_some_iff.mp ho).1;have:=mem_ready ho inv.lsz hi λe he=>by
    have hei:=hidx i o ho e he;exact ih e hei ops[e] (by simp)
   rw[hr]at this;cases this
theorem Inv.full{own:Nat->Option Nat}(inv:Inv P ops nt φ0 h0 w0 ds mT listed D M tm h own φ a w)(hall:∀i o,ops[i]? = some o->pJ listed i):TR φ nt tm a:=
 ⟨inv.size,inv.small,λt ht=>inv.rel t ht λi o ho _ hS=>absurd (hall i o ho) hS⟩
theorem r7{i:Nat}{is:List Nat}{D M:Nat}(hp:oZ P ops.toList (i::is) D M=true):∃o,ops[i]? = some o/\
  W6 P ops.toList (gF ops.toList 0) D (match ij P o with|true=>Nat.lor M (tY ops.toList i)|false=>M) i o=true/\
  oZ P ops.toList is (gH D i) (match ij P o with|true=>Nat.lor M (tY ops.toList i)|false=>M)=true:=by
 unfold oZ at hp;split at hp<;>try contradiction
 rename_i o ho;rw[Array.getElem?_toList]at ho;simp only[Bool.and_eq_true]at hp;exact⟨o,ho,hp.1,hp.2⟩
theorem apm(hfl:¬good fl)(hok:∀q∈ops.toList,fW nt q=true){rec:Rec β}{i:Nat}{o:Oper}(ho:ops[i]? = some o)(M7:¬pJ listed i)(vF:∀e∈dh o,pJ listed e):∀(l:List Nat)(D M:Nat)(tm:T Value)(h:af)(own:Nat->Option Nat),Inv P ops nt φ0 h0 w0 ds mT listed D M tm h own φ a w->oZ P ops.toList l D M=true->good (jX fl pr P rec ops.toList l D M tm h V)->
   ∃l' D' dz h' uD,Inv P ops nt φ0 h0 w0 ds mT listed D' M dz h' uD φ a w/\oZ P ops.toList l' D' M=true/\good (jX fl pr P rec ops.toList l' D' M dz h' V)/\
    (bit D' i=true\/(ij P o=true/\∃js,l'=i::js)):=by
 intro l
 induction l with
 |nil=>
  intro D M tm h own inv hp hg;refine⟨[],D,tm,h,own,inv,hp,hg,.inl ?_⟩;unfold oZ at hp;rw[List.all_eq_true]at hp;exact hp _ (GH ho)
 |cons j js ih=>
  intro D M tm h own inv hp hg;by_cases hDi:bit D i=true
  .exact⟨j::js,D,tm,h,own,inv,hp,hg,.inl hDi⟩
  have hDi:bit D i=false:=by simpa using hDi
  obtain⟨q,hq,pg,ru⟩:=r7 hp;obtain⟨k1,k2,k3,k4,k5⟩:=uC pg;cases hw:ij P q with
  |true=>
   have hij:i=j:=by
    by_cases hij:i=j
    .exact hij
    .have:=(k5 hw).1 i o ho hij hDi;have hrd:rQ D o=true:=by unfold rQ;rw[List.all_eq_true];exact λe he=>inv.sub e (vF e he)
     rw[hrd]at this;cases this
   subst hij;rw[ho]at hq;cases hq;exact⟨i::js,D,tm,h,own,inv,hp,hg,.inr ⟨hw,js,rfl⟩⟩
  |false=>
   rw[hw]at ru pg;simp only at ru;unfold jX at hg;rw[Array.getElem?_toList,hq]at hg;simp only[hw]at hg;obtain⟨dz,h',uD,inv',hg'⟩:=inv.advance hfl hok hq k1 k2 k4 hw hg;exact ih _ M dz h' uD inv' ru hg'
theorem Xi(hfl:¬good fl)(hp:iD good pr P){rec:Rec β}(fZ:nK good P rec)(hok:∀q∈ops.toList,fW nt q=true)(hidx:∀i o,ops[i]? = some o->∀e∈dh o,e<i)(hQ:∀dz h' φ' a' w',good (V dz h')->TR φ' nt dz a'->HR P φ' h' w'->Ext φ0 φ' h0 h' w0 w'->a'.defers=ds->(∀t,t<nt->(∀(i:Nat)(o:Oper),ops[i]? = some o->o.dst≠some t)->dw dz t=dw mT t)->Q .normal a' w'):∀(fuel:Nat)(listed:Array Bool)(l:List Nat)(D M:Nat)(tm:T Value)(h:af)(own:Nat->Option Nat)(φ:ff)(a:Act) (w:World),listed.toList.count false<=fuel->Inv P ops nt φ0 h0 w0 ds mT listed D M tm h own φ a w->
   oZ P ops.toList l D M=true->good (jX fl pr P rec ops.toList l D M tm h V)->wpAnyIn (FR r0) 0 P .any ops Q fuel listed a w:=by
 have fin:∀(listed:Array Bool)(l:List Nat)(D M:Nat)(tm:T Value)(h:af)(own:Nat->Option Nat)(φ:ff)(a:Act)(w:World),Inv P ops nt φ0 h0 w0 ds mT listed D M tm h own φ a w->
   oZ P ops.toList l D M=true->good (jX fl pr P rec ops.toList l D M tm h V)->Region.ready .any ops listed=[]->Q .normal a w:=by
  intro listed l D M tm h own φ a w inv RU hg hr;have hall:=abP inv hidx hr;cases l with
  |nil=>exact hQ tm h φ a w hg (inv.full hall) inv.hr inv.ext inv.dfs inv.keep
  |cons j js=>
   obtain⟨q,hq,pg,_⟩:=r7 RU;have:=(uC pg).1;rw[inv.sub j (hall j q hq)]at this;cases this
 intro fuel
 induction fuel with
 |zero=>
  intro listed l D M tm h own φ a w hc inv RU hg;have hr:Region.ready .any ops listed=[]:=by
   cases hr:Region.ready .any ops listed with
   |nil=>rfl
   |cons i is=>
    obtain⟨o,ho,M7,_⟩:=DH (listed:=listed) (ops:=ops) (i:=i) (by rw[hr];exact List.mem_cons_self);have hlt:i<listed.size:=by rw[inv.lsz];exact(Array.getElem?_eq_some_iff.mp ho).1
    have:false∈listed.toList:=by
     unfold pJ at M7;simp only[Array.getD_eq_getD_getElem?,getElem?_pos listed i hlt,Option.getD_some]at M7;have:listed[i]=false:=by simpa using M7
     rw[<-this];exact Array.getElem_mem_toList hlt
    have:=List.count_pos_iff.mpr this;omega
  exact⟨hr,fin listed l D M tm h own φ a w inv RU hg hr⟩
 |succ fuel ih=>
  intro listed l D M tm h own φ a w hc inv RU hg;refine⟨fin listed l D M tm h own φ a w inv RU hg,λi hi=>?_⟩;obtain⟨o,ho,M7,vF⟩:=DH hi;have hlt:i<listed.size:=by rw[inv.lsz];exact(Array.getElem?_eq_some_iff.mp ho).1
  have aiB:(listed.setIfInBounds i true).toList.count false<=fuel:=by
   have hfi:listed.toList[i]'(by simpa using hlt)=false:=by
    unfold pJ at M7;simp only[Array.getD_eq_getD_getElem?,getElem?_pos listed i hlt,Option.getD_some]at M7;simpa using M7
   rw[Array.toList_setIfInBounds,List.count_set (by simpa using hlt),hfi];change listed.toList.count false-1+0<=fuel;omega
  obtain⟨l',D',dz,h',uD,inv',aiC,hg',hend⟩:=apm hfl hok ho M7 vF l D M tm h own inv RU hg;by_cases hDi:bit D' i=true
  .exact inv'.late hok ho hDi M7 vF λφ' a' w' inv2=>ih _ l' D' M dz h' uD φ' a' w' aiB inv2 aiC hg'
  .rcases hend with hend|⟨hw,js,rfl⟩
   .exact absurd hend hDi
   obtain⟨q,hq,pg,ru⟩:=r7 aiC;rw[ho]at hq;cases hq;rw[hw]at pg ru;simp only at pg ru;obtain⟨k1,k2,k3,k4,k5⟩:=uC pg;unfold jX at hg';rw[Array.getElem?_toList,ho]at hg';simp only[hw]at hg';refine inv'.write hfl hp fZ hok ho k1 vF k4 hw ?_ (k5 hw).2 hg' λtm2 h2 φ2 a2 w2 inv2 hg2=>ih _ js _ _ tm2 h2 uD φ2 a2 w2 aiB inv2 ru hg2;intro k hk;rw[abN,Bool.or_eq_true]at hk;rcases hk with hk|hk
   .exact inv'.mS k hk
   .exact Lj (S:=pJ listed) (os:=ops.toList) (λj q hq hj=>inv'.clo j q (by rw[<-Array.getElem?_toList];exact hq) hj) (by rw[Array.getElem?_toList];exact ho) vF k hk
end
theorem uE(hfl:¬good fl)(hp:iD good pr P)(hm:P.follows .mixedOrders=true):Ld good fl pr P:=by
 intro rec fZ ops id nt hok φ tm h a w V ht hr hg r0 Q hQ;unfold mX at hg;split at hg
 .contradiction
 split at hg
 .rename_i l hl;unfold Es at hl;split at hl<;>try contradiction
  split at hl<;>try contradiction
  rename_i abR;cases hl;simp only[Bool.and_eq_true]at abR;refine wpIn_region_any hm ?_;have Xc:∀i,¬pJ (Array.replicate ops.size false) i:=by
   intro i hi;unfold pJ at hi;simp only[Array.getD_eq_getD_getElem?,Array.getElem?_replicate]at hi;split at hi<;>simp at hi
  refine Xi (φ0:=φ) (h0:=h) (w0:=w) (ds:=a.defers) (mT:=tm) hfl hp fZ hok ?_ hQ ops.size _ l 0 0 tm h (λ_=>none) φ a { w with drawn:=w.drawn+1 } ?_ ?_ abR.1 hg
  .intro i o ho e he;have:=abR.2;rw[List.all_eq_true]at this;have:=this _ (GH ho);simp only[List.all_eq_true]at this;exact er (this e he)
  .refine Nat.le_trans List.count_le_length (by simp)
  .have nb:∀k,bit 0 k=true->False:=λk hb=>by rw[GG]at hb;cases hb
   exact⟨by simp,λi hi=>absurd hi (Xc i),λi o _ hi=>absurd hi (Xc i),λi o _ hb=>(nb i hb).elim,λi hb=>(nb i hb).elim,λi o _ hb=>(nb i hb).elim,
    ht.small,ht.size,λt hlt _=>ht.rel t hlt,hr.drew,(Ext.refl φ h w).drew,rfl,λi o _ hb=>(nb i hb).elim,λ_ _ _=>rfl⟩
 .exact absurd hg hfl
end Go.Vai

namespace Go.Vai
open Go
variable {pr:lN Bool}{P:Program}{w:World}
theorem HR.start(w:World):HR P (λ_=>none) ⟨0,.nil,0⟩ w:=
 ⟨λ_ _ _ _ e=>(by cases e),λ_ _ e=>(by cases e),λb o _ e=>(by rw[T.get_nil]at e;cases e),X7,λ_ _ _ _ _ _ _ _ _ _ e=>(by cases e),Nat.le_refl _⟩
def yes(b:Bool):Prop:=b=true
def Xj:lN Bool:=⟨λ_=>none,λa b=>match a with|true=>b|false=>false⟩
theorem EP:iD yes Xj P:=⟨λx y hxy=>by cases x<;>simp[Xj,yes]at hxy ⊢;exact hxy,λf g hg=>by cases hg⟩
end Go.Vai

namespace Go.Vai
open Go Go.RowKit
variable {P:Program}
theorem VR.pL{φ:ff}{v:Value}(hv:lJ v=true):VR φ v v:=by
 cases v<;>first|exact VR.bool _|exact VR.int _ _|exact VR.string _|cases hv
theorem VR.Xk{φ:ff}{v v':Value}(hv:lJ v=true)(h:VR φ v v'):v'=v:=by
 cases h<;>first|rfl|cases hv
theorem F2.pL{φ:ff}:∀{l:List Value},l.all lJ=true->F2 (VR φ) l l:=by
 intro l
 induction l with
 |nil=>intro _;exact .nil
 |cons v l ih=>
  intro h;simp only[List.all_cons,Bool.and_eq_true]at h;exact .cons (VR.pL h.1) (ih h.2)
end Go.Vai

namespace Go.Vai
open Go
def av(P:Program)(f:FuncId)(args:List Value)(h:af)(V:KQ):Prop:=
 ∀(φ:ff)(w:World)(args':List Value),F2 (VR φ) args args'->HR P φ h w->xA (λp:Prop=>p) P φ h w V f args'.toArray
def F6(P:Program):lN Prop:=⟨λf=>some (av P f),And⟩
def j_:Rec Prop:=λ_ _ _ _=>False
abbrev abS(i:XI Prop)(tm:T Value)(h:af)(V:KQ):Prop:=
 XI.rec (motive:=λ_=>Prop) (λf=>f h V) (λx f=>f (gE tm x) h V) (λx y f=>f (gE tm x) (gE tm y) h V)
  (λx y z f=>f (gE tm x) (gE tm y) (gE tm z) h V) (λxs f=>f (xs.map (gE tm)) h V) i
abbrev aiD(i:XA Prop)(tm:T Value)(V:bP->(Nat->Value)->Prop):Prop:=
 XA.rec (motive:=λ_=>Prop) (λf=>f V) (λx f=>f (gE tm x) V) (λx y f=>f (gE tm x) (gE tm y) V) (λxs f=>f (xs.map (gE tm)) V) i
def gu(P:Program)(fv:Value)(args:List Value)(h:af)(V:KQ):Prop:=tW False (F6 P) P j_ fv args h V
def kI(P:Program)(name:String)(r:Value)(args:List Value)(h:af)(V:KQ):Prop:=RI False (F6 P) P j_ name r args h V
def ES(P:Program)(c:Call)(tm:T Value)(h:af)(V:KQ):Prop:=
 match c.callee with
 | .value (.func f)=>av P f (c.args.toList.map (gE tm)) h V
 | .value x=>gu P (gE tm x) (c.args.toList.map (gE tm)) h V
 | .invoke r name=>kI P name (gE tm r) (c.args.toList.map (gE tm)) h V
 | .builtin _=>False
def nM(P:Program)(op:Op)(tm:T Value)(h:af)(V:KQ):Prop:=
 match rq False P op with
 |some i=>abS i tm h V
 |none=>match tV False P op with
  |some i=>aiD i tm λo mk=>aH False o h λb h=>V (mk b) h
  |none=>match Dt False P op with
   |some i=>abS i tm h V
   |none=>match op with
    | .call c=>ES P c tm h V
    | .next it false=>pP False And (gE tm it) h V
    |_=>False
def az(v:Value)(w:Bool):Bool:=match v,w with | .bool true,true=>true | .bool false,false=>true|_,_=>false
def au(b:Bool)(f:(Value->af->Prop)->Prop)(h:af)(V:KQ):Prop:=match b with|true=>f V|false=>V undef h
noncomputable abbrev Si(P:Program)(all os:List Oper):T Value->af->(T Value->af->Prop)->Prop:=
 List.rec (motive:=λ_=>T Value->af->(T Value->af->Prop)->Prop) (λtm h V=>V tm h)
  (λo _ ih tm h V=>Option.rec (motive:=λ_=>Prop) False
   (λg=>Option.rec (motive:=λ_=>Prop) (nM P o.op tm h λv h=>ih (kF tm o.dst v) h V)
    (λsw=>au (az (dw tm sw.1) sw.2) (λκ'=>nM P o.op tm h κ') h λv h=>ih (kF tm o.dst v) h V) g) (guardOf all o)) os
def aJ(o:Option Value)(h:af)(V:KQ):Prop:=match o with|some v=>V v h|none=>False
def zN(o:Option (bP × (Nat->Value)))(h:af)(V:KQ):Prop:=match o with|some (b,mk)=>aH False b h λn h=>V (mk n) h|none=>False
def bV(b:Bool)(p:Prop):Prop:=match b with|true=>p|false=>False
def b_(o:Option Value)(v:Value):Bool:=match o with|some u=>k_ 8 u v|none=>false
def reN(o:Option Value):Bool:=match o with|some _=>true|none=>false
def reG(b r:Bool):Bool:=match b with|true=>r|false=>true
def Xl(x:Z0)(tm:T Value)(h:af):Option Value:=
 XI.rec (motive:=λ_=>Option Value) (λf=>f h λv _=>some v) (λx f=>f (gE tm x) h λv _=>some v) (λx y f=>f (gE tm x) (gE tm y) h λv _=>some v)
  (λx y z f=>f (gE tm x) (gE tm y) (gE tm z) h λv _=>some v) (λxs f=>f (xs.map (gE tm)) h λv _=>some v) x
def mkW(x:OXA)(tm:T Value):Option (bP × (Nat->Value)):=
 XA.rec (motive:=λ_=>Option (bP × (Nat->Value))) (λf=>f λo mk=>some (o,mk)) (λx f=>f (gE tm x) λo mk=>some (o,mk)) (λx y f=>f (gE tm x) (gE tm y) λo mk=>some (o,mk)) (λxs f=>f (xs.map (gE tm)) λo mk=>some (o,mk)) x
def GN(P:Program)(os:List Oper)(D M:Nat)(tm:T Value)(h:af):List It->Bool
 | []=>true
 |(k,q)::xh=>match bit D k && !bit M k,iW P q.op with
  |true,.rd x=>(match guardOf os q with
   |some none=>(match q.dst with|some d=>b_ (Xl x tm h) (dw tm d)|none=>reN (Xl x tm h))
   |some (some (s,w))=>reG (az (dw tm s) w) (match q.dst with|some d=>b_ (Xl x tm h) (dw tm d)|none=>reN (Xl x tm h))
   |none=>false) && GN P os D M tm h xh
  |_,_=>GN P os D M tm h xh
def M9(P:Program)(os:List Oper)(D M:Nat)(o:Oper)(tm:T Value)(h:af)(V:KQ):Prop:=
 match iW P o.op with
 | .rd x=>aJ (Xl x tm h) h V
 | .al x=>zN (mkW x tm) h V
 | .wr=>match Dw P D M (gF os 0)with
  |false=>nM P o.op tm h V
  |true=>nM P o.op tm h λv h=>bV (GN P os D M (kF tm o.dst v) h (gF os 0)) (V v h)
def GO(P:Program)(os:List Oper):List Nat->Nat->Nat->T Value->af->(T Value->af->Prop)->Prop
 | [],_,_,tm,h,V=>V tm h
 |i::is,D,M,tm,h,V=>match os[i]? with
  |none=>False
  |some o=>match guardOf os o with
   |none=>False
   |some none=>M9 P os D (match ij P o with|true=>Nat.lor M (tY os i)|false=>M) o tm h λv h=>GO P os is (gH D i) (match ij P o with|true=>Nat.lor M (tY os i)|false=>M) (kF tm o.dst v) h V
   |some (some (s,w))=>au (az (dw tm s) w) (λκ'=>M9 P os D (match ij P o with|true=>Nat.lor M (tY os i)|false=>M) o tm h κ') h λv h=>GO P os is (gH D i) (match ij P o with|true=>Nat.lor M (tY os i)|false=>M) (kF tm o.dst v) h V
def Xm(P:Program)(os:List Oper)(draw:Bool)(tm:T Value)(h:af)(V:T Value->af->Prop):Prop:=
 match draw with
 |false=>Si P os os tm h V
 |true=>match Es P os with
  |some l=>GO P os l 0 0 tm h V
  |none=>False
def PA(n:Nat)(l:List Nat):List Nat:=match l.any (Nat.beq n)with|true=>l|false=>n::l
def uF(l:List Oper):List Nat:=l.foldr (λo r=>match o.dst with|some d=>PA d r|none=>r) []
def M_(l m:List Nat):List Nat:=l.foldr PA m
def u0:Code->List Nat
 | .region _ os _=>uF os.toList
 | .seq a b | .cond _ a b=>M_ (u0 a) (u0 b)
 | .block _ c | .loop c | .scope c=>u0 c
 |_=>[]
def Na(id:Nat):Code->Nat
 | .exit i=>match Nat.beq i id with|true=>1|false=>0
 | .seq a b | .cond _ a b=>Na id a+Na id b
 | .block _ c | .loop c | .scope c=>Na id c
 |_=>0
def ways:Code->Nat
 | .seq a b=>ways a*ways b
 | .cond _ a b=>ways a+ways b
 | .block id c=>ways c+Na id c
 | .loop _=>0
 | .scope c=>ways c
 | .exit _ | .ret=>0
 |_=>1
def ah(l:List Value)(i:Nat):Value:=l.getD i undef
def Sj:Nat->List Nat->List Value->T Value->T Value
 |_,[],_,tm=>tm
 |i,s::ss,l,tm=>Sj (i+1) ss l (tm.a_ s (ah l i))
def PB(ss:List Nat)(l:List Value)(tm:T Value):T Value:=Sj 0 ss l tm
abbrev KT:=Ex->T Value->af->Prop
abbrev toN(N:List Value->af->Prop)(ss:List Nat)(V:KT):KT:=λe tm h=>Ex.rec (motive:=λ_=>Prop) (N (ss.map (dw tm)) h) (λi=>V (.exit i) tm h) (V .ret tm h) e
def cV(A:(List Value->af->Prop)->Prop)(B:List Value->af->Prop):Prop:=
 ∃J:List Value->af->Prop,A J/\∀l h,J l h->B l h
def ej(l0:List Value)(h0:af)(body:List Value->af->(List Value->af->Prop)->Prop):Prop:=
 ∃I:Nat->List Value->af->Prop,(∃n,I n l0 h0)/\∀n l h,I n l h->body l h λl' h'=>∃m,m<n/\I m l' h'
def aS(v:Value)(A B:Prop):Prop:=match v with | .bool true=>A | .bool false=>B|_=>False
abbrev apr(B:T Value->af->KT->Prop)(V:KT):KT:=λe tm h=>Ex.rec (motive:=λ_=>Prop) (B tm h V) (λi=>V (.exit i) tm h) (V .ret tm h) e
abbrev abT(id:Nat)(V:KT):KT:=λe tm h=>Ex.rec (motive:=λ_=>Prop) (V .normal tm h) (λi=>Bool.rec (motive:=λ_=>Prop) (V (.exit i) tm h) (V .normal tm h) (Nat.beq i id)) (V .ret tm h) e
def WP(P:Program):Code->T Value->af->KT->Prop
 | .skip,tm,h,V=>V .normal tm h
 | .label _,tm,h,V=>V .normal tm h
 | .region _ os draw,tm,h,V=>Xm P os.toList draw tm h λtm h=>V .normal tm h
 | .seq a b,tm,h,V=>match Nat.ble (ways a) 1 with
  |true=>WP P a tm h (apr (WP P b) V)
  |false=>cV (λN=>WP P a tm h (toN N (u0 a) V)) λl h=>WP P b (PB (u0 a) l tm) h V
 | .cond c a b,tm,h,V=>aS (gE tm c) (WP P a tm h V) (WP P b tm h V)
 | .block id c,tm,h,V=>WP P c tm h (abT id V)
 | .scope c,tm,h,V=>WP P c tm h V
 | .loop c,tm,h,V=>ej ((u0 c).map (dw tm)) h λl h N=>WP P c (PB (u0 c) l tm) h (toN N (u0 c) V)
 | .exit id,tm,h,V=>V (.exit id) tm h
 | .ret,tm,h,V=>V .ret tm h
 |_,_,_,_=>False
abbrev PC(h:af)(tm:T Value):List uw->(List Value->Prop)->Prop:=
 List.rec (motive:=λ_=>(List Value->Prop)->Prop) (λV=>V [])
  (λr _ ih V=>uw.rec (motive:=λ_=>Prop) (λt=>ih λvs=>V (dw tm t::vs)) (λa=>aF False (dw tm a) h λv _=>ih λvs=>V (v::vs))
   (λa s=>aL False s (dw tm a) h λv _=>ih λvs=>V (v::vs)) False r)
abbrev Xn(V:KQ)(h:af)(vs:List Value):Prop:=
 List.rec (motive:=λ_=>Prop) (V (.tuple #[]) h) (λv vs' _=>List.rec (motive:=λ_=>Prop) (V v h) (λ_ _ _=>V (.tuple ⟨vs⟩) h) vs') vs
abbrev aps(rs:List uw)(V:KQ):KT:=λe tm h=>Ex.rec (motive:=λ_=>Prop) (PC h tm rs λvs=>Xn V h vs) (λ_=>False) (PC h tm rs λvs=>Xn V h vs) e
def aV(P:Program)(f:FuncId)(args:List Value)(h:af)(V:KQ):Prop:=
 match An P f with
 | .none=>False
 | .mk c rs nt=>match Nat.ble args.length nt with
  |true=>WP P c (lay args .nil 0) h (aps rs V)
  |false=>False
variable {P:Program}
theorem Nb(i:XI Prop)(tm:T Value)(h:af)(V:KQ):i.run tm h V=abS i tm h V:=by
 cases i with
 |k0 f=>rfl
 |k1 x f=>exact XI.cW ..
 |k2 x y f=>exact XI.dX ..
 |k3 x y z f=>exact XI.rR ..
 |kn xs f=>exact XI.i_ ..
theorem Xo(i:XA Prop)(tm:T Value)(V:bP->(Nat->Value)->Prop):i.run tm V=aiD i tm V:=by
 cases i with
 |k0 f=>rfl
 |k1 x f=>exact XA.cW ..
 |k2 x y f=>exact XA.dX ..
 |kn xs f=>exact XA.i_ ..
theorem Sk(x:Z0)(tm:T Value)(h:af):mG x tm h=Xl x tm h:=by
 unfold mG;cases x with
 |k0 f=>rfl
 |k1 x f=>exact XI.cW ..
 |k2 x y f=>exact XI.dX ..
 |k3 x y z f=>exact XI.rR ..
 |kn xs f=>exact XI.i_ ..
theorem abU(x:OXA)(tm:T Value):Ap x tm=mkW x tm:=by
 unfold Ap;cases x with
 |k0 f=>rfl
 |k1 x f=>exact XA.cW ..
 |k2 x y f=>exact XA.dX ..
 |kn xs f=>exact XA.i_ ..
theorem Ll(c:Call)(tm:T Value)(h:af)(V:KQ):pR False (F6 P) P c j_ tm h V=ES P c tm h V:=by
 unfold pR ES;cases c.callee with
 |value x=>cases x<;>(simp only[uy,fL];rfl)
 |invoke r name=>simp only[uy,fL];rfl
 |builtin b=>rfl
theorem ET(op:Op)(tm:T Value)(h:af)(V:KQ):rP False (F6 P) P op j_ tm h V=nM P op tm h V:=by
 unfold rP nM;cases hR:rq False P op with
 |some i=>exact Nb ..
 |none=>
  cases hA:tV False P op with
  |some i=>exact Xo ..
  |none=>
   cases hW:Dt False P op with
   |some i=>exact Nb ..
   |none=>
    cases op<;>try rfl
    case call c=>exact Ll ..
    case next it s=>cases s<;>first|rfl|(simp only[fL];rfl)
theorem uG(tm:T Value)(s:Nat)(w:Bool):iV tm (some (s,w))=az (dw tm s) w:=rfl
theorem abV(f:(Value->af->Prop)->Prop)(tm:T Value)(h:af)(s:Nat)(w:Bool)(d:Option Nat)(k:T Value->af->Prop):au (az (dw tm s) w) f h (λv h=>k (kF tm d v) h)=Bool.rec (motive:=λ_=>Prop) (rE tm d undef h k) (f λv h=>rE tm d v h k) (iV tm (some (s,w))):=by
 rw[uG];cases az (dw tm s) w with
 |true=>show f _=f _;simp only[iB]
 |false=>show k _ h=rE tm d undef h k;rw[iB]
theorem Xp(all:List Oper):∀(os:List Oper)(tm:T Value)(h:af)(V:T Value->af->Prop),Si P all os tm h V=qM False (F6 P) P j_ all os tm h V:=by
 intro os
 induction os with
 |nil=>intro tm h V;rfl
 |cons o os ih=>
  intro tm h V;have ih':(λtm h=>Si P all os tm h V)=λtm h=>qM False (F6 P) P j_ all os tm h V:=by funext tm h;exact ih tm h V
  show Option.rec (motive:=λ_=>Prop) False (λg=>Option.rec (motive:=λ_=>Prop) (nM P o.op tm h λv h=>(λtm h=>Si P all os tm h V) (kF tm o.dst v) h)
    (λsw=>au (az (dw tm sw.1) sw.2) (λκ'=>nM P o.op tm h κ') h λv h=>(λtm h=>Si P all os tm h V) (kF tm o.dst v) h) g) (guardOf all o)=XO.rec (motive:=λ_=>Prop)
   (λg d f=>Bool.rec (motive:=λ_=>Prop) (rE tm d undef h λtm h=>qM False (F6 P) P j_ all os tm h V)
    (f j_ tm h λv h=>rE tm d v h λtm h=>qM False (F6 P) P j_ all os tm h V) (iV tm g)) (Du False (F6 P) P all o)
  rw[ih'];unfold Du;cases guardOf all o with
  |none=>rfl
  |some g=>
   cases g with
   |none=>
    show nM P o.op tm h _=rP False (F6 P) P o.op j_ tm h λv h=>rE tm o.dst v h _
    simp only[iB];rw[ET]
   |some sw=>
    obtain⟨s,w⟩:=sw
    show au (az (dw tm s) w) (λκ'=>nM P o.op tm h κ') h _=Bool.rec (motive:=λ_=>Prop) _ (rP False (F6 P) P o.op j_ tm h _) _
    refine(abV (λκ'=>nM P o.op tm h κ') tm h s w o.dst λtm h=>qM False (F6 P) P j_ all os tm h V).trans ?_;simp only[ET]
theorem Sm(os:List Oper)(D M:Nat)(tm:T Value)(h:af):∀xh:List It,GN P os D M tm h xh=yq P os D M tm h xh:=by
 intro xh
 induction xh with
 |nil=>rfl
 |cons it xh ih=>
  obtain⟨k,q⟩:=it;unfold GN yq;cases bit D k && !bit M k with
  |false=>exact ih
  |true=>
   cases iW P q.op with
   |rd x=>
    simp only[ih,Sk]
    congr 1
    cases guardOf os q with
    |none=>rfl
    |some g=>
     cases g with
     |none=>
      cases Xl x tm h<;>cases q.dst<;>rfl
     |some sw=>
      obtain⟨s,w⟩:=sw;simp only[uG];cases az (dw tm s) w
      .rfl
      .cases Xl x tm h<;>cases q.dst<;>rfl
   |al x=>exact ih
   |wr=>exact ih
theorem Lm(os:List Oper)(D M:Nat)(o:Oper)(tm:T Value)(h:af)(k:T Value->af->Prop):M9 P os D M o tm h (λv h=>k (kF tm o.dst v) h)=(match iW P o.op with
   | .rd x=>match mG x tm h with
    |some v=>rE tm o.dst v h k
    |none=>False
   | .al x=>match Ap x tm with
    |some (b,mk)=>aH False b h λn h=>rE tm o.dst (mk n) h k
    |none=>False
   | .wr=>rP False (F6 P) P o.op j_ tm h λv h=>rE tm o.dst v h λtm h=>
     match Dw P D M (gF os 0)with
     |false=>k tm h
     |true=>match yq P os D M tm h (gF os 0)with
      |true=>k tm h
      |false=>False):=by
 unfold M9;cases iW P o.op with
 |rd x=>
  simp only[Sk,iB];cases Xl x tm h<;>rfl
 |al x=>
  simp only[abU,iB];cases mkW x tm<;>rfl
 |wr=>
  simp only[iB,ET];cases Dw P D M (gF os 0)with
  |false=>rfl
  |true=>simp only[Sm];rfl
theorem Sn(os:List Oper):∀(l:List Nat)(D M:Nat)(tm:T Value)(h:af)(V:T Value->af->Prop),GO P os l D M tm h V=jX False (F6 P) P j_ os l D M tm h V:=by
 intro l
 induction l with
 |nil=>intro D M tm h V;rfl
 |cons i is ih=>
  intro D M tm h V;unfold GO jX;cases os[i]? with
  |none=>rfl
  |some o=>
   simp only[ih];cases hg:guardOf os o with
   |none=>simp only[lP,hg]
   |some g=>
    have hk:=λM'=>Lm (P:=P) os D M' o tm h λtm h=>jX False (F6 P) P j_ os is (gH D i) M' tm h V;cases g with
    |none=>
     refine(hk _).trans ?_;simp only[lP,hg];rfl
    |some sw=>
     obtain⟨s,w⟩:=sw;simp only[lP,hg,uG];cases az (dw tm s) w with
     |true=>exact hk _
     |false=>simp only[iB];rfl
theorem Xq(os:List Oper)(draw:Bool)(tm:T Value)(h:af)(V:T Value->af->Prop):Xm P os draw tm h V=mX False (F6 P) P j_ os draw tm h V:=by
 cases draw with
 |false=>exact Xp os os tm h V
 |true=>
  unfold Xm mX;cases Es P os with
  |none=>rfl
  |some l=>exact Sn os l 0 0 tm h V
end Go.Vai

namespace Go.Vai
open Go
variable {P:Program}{φ:ff}{h:af}{w:World}
abbrev ok(p:Prop):Prop:=p
theorem vG:¬ok False:=id
theorem Sp:iD ok (F6 P) P:=
 ⟨λ_ _ h=>h,λf g hg args args' h φ w V ha hr hgd=>by cases hg;exact hgd φ w args' ha hr⟩
theorem GQ:nK ok P j_:=by
 intro c r tm h V φ w nt a _ _ _ _ hg;exact False.elim hg
def Ln(ss:List Nat)(nt:Nat)(tm dz:T Value):Prop:=∀t,t<nt->t∉ss->dw dz t=dw tm t
def uf(P:Program)(nt:Nat)(φ:ff)(h:af)(w:World)(ds:List Deferred)(V:KT)(ss:List Nat)(tm:T Value)(e:Exit)(a':Act)(w':World):Prop:=
 ∃x dz h' φ',e=Sa x/\V x dz h'/\TR φ' nt dz a'/\HR P φ' h' w'/\Ext φ φ' h h' w w'/\a'.defers=ds/\Ln ss nt tm dz
theorem uf.after{nt:Nat}{φ1:ff}{h1:af}{w1:World}{ds ds1:List Deferred}{V:KT}{ss ss1 ss2:List Nat}{tm tm1 aiE:T Value}{e:Exit}{a2:Act}{w2:World}(hx:Ext φ φ1 h h1 w w1)(hd:ds1=ds)(hk:Ln ss1 nt tm tm1)(hk':∀t,t<nt->dw aiE t=dw tm1 t)(hs:∀t,t∉ss->t∉ss1/\t∉ss2)(hp:uf P nt φ1 h1 w1 ds1 V ss2 aiE e a2 w2):uf P nt φ h w ds V ss tm e a2 w2:=by
 obtain⟨x,tm2,h2,φ2,rfl,k1,k2,k3,k4,k5,k6⟩:=hp;exact⟨x,tm2,h2,φ2,rfl,k1,k2,k3,hx.trans k4,k5.trans hd,λt ht hn=>(k6 t ht (hs t hn).2).trans ((hk' t ht).trans (hk t ht (hs t hn).1))⟩
theorem GR{n t:Nat}{l:List Nat}:t∈PA n l<->t=n\/t∈l:=by
 unfold PA;split
 .rename_i h;obtain⟨x,hx,he⟩:=List.any_eq_true.mp h;have:=cU he;subst this;constructor
  .exact .inr
  .rintro(rfl|h')<;>assumption
 .simp
theorem sY{t:Nat}{l m:List Nat}:t∈M_ l m<->t∈l\/t∈m:=by
 induction l with
 |nil=>simp[M_]
 |cons a l ih=>
  show t∈PA a (M_ l m)<->_
  rw[GR,ih];simp[or_assoc]
theorem AQ{t:Nat}:∀{l:List Oper},t∈uF l<->∃o∈l,o.dst=some t:=by
 intro l
 induction l with
 |nil=>simp[uF]
 |cons o l ih=>
  have:uF (o::l)=match o.dst with|some d=>PA d (uF l)|none=>uF l:=rfl
  rw[this];cases hd:o.dst with
  | none=>simp only[ih];constructor
          .rintro⟨q,hq,e⟩;exact⟨q,.tail _ hq,e⟩
          .rintro⟨q,hq,e⟩;cases hq with
           |head=>rw[hd]at e;cases e
           |tail _ hq=>exact⟨q,hq,e⟩
  |some d=>
   simp only[GR,ih];constructor
   .rintro(rfl|⟨q,hq,e⟩)
    .exact⟨o,.head _,hd⟩
    .exact⟨q,.tail _ hq,e⟩
   .rintro⟨q,hq,e⟩;cases hq with
    |head=>rw[hd]at e;cases e;exact .inl rfl
    |tail _ hq=>exact .inr ⟨q,hq,e⟩
theorem Sq{nt:Nat}:∀(ss:List Nat)(pre:List Value)(f:Nat->Value)(tm:T Value)(t:Nat),(∀s∈ss,s<nt)->t<nt->dw (Sj pre.length ss (pre++ss.map f) tm) t=if t∈ss then f t else dw tm t:=by
 intro ss
 induction ss with
 |nil=>intro pre f tm t _ _;simp[Sj]
 |cons s ss ih=>
  intro pre f tm t hs ht;simp only[List.map_cons,Sj];have hsl:ah (pre++f s::ss.map f) pre.length=f s:=by simp[ah]
  rw[hsl];have hih:=ih (pre++[f s]) f (tm.a_ s (f s)) t (λs hs'=>hs s (.tail _ hs')) ht;simp only[List.length_append,List.length_cons,List.length_nil,List.append_assoc,List.cons_append,List.nil_append,Nat.zero_add]at hih;rw[hih];by_cases h1:t∈ss
  .rw[if_pos h1,if_pos (.tail _ h1)]
  ·rw[if_neg h1];have h2:dw (tm.a_ s (f s)) t=if s=t then f s else dw tm t:=by
    simp only[dw];rw[T.oC _ _ (Nat.lt_succ_self _) (Nat.lt_succ_self _)];by_cases hst:s=t
    .rw[if_pos hst,if_pos hst]
    .rw[if_neg hst,if_neg hst]
   rw[h2];by_cases h3:s=t
   .subst h3;rw[if_pos rfl,if_pos (.head _)]
   .rw[if_neg h3,if_neg (by simp[h1,Ne.symm h3])]
theorem Sr{nt:Nat}(ss:List Nat)(f:Nat->Value)(tm:T Value)(t:Nat)(hs:∀s∈ss,s<nt)(ht:t<nt):dw (PB ss (ss.map f) tm) t=if t∈ss then f t else dw tm t:=
 Sq ss [] f tm t hs ht
theorem xH{nt:Nat}{ss:List Nat}{tm dz:T Value}(hs:∀s∈ss,s<nt)(hk:Ln ss nt tm dz):∀t,t<nt->dw (PB ss (ss.map (dw dz)) tm) t=dw dz t:=by
 intro t ht;rw[Sr ss _ _ t hs ht];split
 .rfl
 .rename_i h;exact(hk t ht h).symm
theorem TR.aab{nt:Nat}{ss:List Nat}{tm dz:T Value}{a:Act}(hs:∀s∈ss,s<nt)(hk:Ln ss nt tm dz)(ht:TR φ nt dz a):TR φ nt (PB ss (ss.map (dw dz)) tm) a:=
 ⟨ht.size,ht.small,λt hlt=>by rw[xH hs hk t hlt];exact ht.rel t hlt⟩
theorem Ss{nt:Nat}:∀{c:Code},codeOk nt c=true->∀s∈u0 c,s<nt:=by
 intro c
 induction c with
 |region id os d=>
  intro hc s hs;simp only[codeOk,List.all_eq_true]at hc;obtain⟨o,ho,he⟩:=AQ.mp hs;have:=ez (hc o ho);rw[he]at this;exact er this
 |seq a b iha ihb=>
  intro hc s hs;simp only[codeOk,Bool.and_eq_true]at hc;rcases sY.mp hs with h|h
  .exact iha hc.1 s h
  .exact ihb hc.2 s h
 |cond x a b iha ihb=>
  intro hc s hs;simp only[codeOk,Bool.and_eq_true]at hc;rcases sY.mp hs with h|h
  .exact iha hc.1.2 s h
  .exact ihb hc.2 s h
 |block id c ih=>intro hc s hs;exact ih hc s hs
 |loop c ih=>intro hc s hs;exact ih hc s hs
 |scope c ih=>intro hc s hs;exact ih hc s hs
 |_=>intro _ s hs;simp[u0]at hs
theorem Lo{os:Array Oper}{t:Nat}(h:t∉uF os.toList):∀(i:Nat)(o:Oper),os[i]? = some o->o.dst≠some t:=by
 intro i o ho hd;exact h (AQ.mpr ⟨o,List.mem_of_getElem? (by rw[Array.getElem?_toList];exact ho),hd⟩)
theorem Lp{c:Code}{r:Option Nat}{nt:Nat}{V:KT}{mT:T Value}(hn:r=none\/rO c=true)(hc:codeOk nt c=true)(ih:∀(tm:T Value)(h:af)(V:KT)(φ:ff)(w:World)(a:Act),TR φ nt tm a->HR P φ h w->WP P c tm h V->c.wpIn (FR r) 0 P (uf P nt φ h w a.defers V (u0 c) tm) a w)(I:Nat->List Value->af->Prop)(hI:∀n l h,I n l h->WP P c (PB (u0 c) l mT) h (toN (λl' h'=>∃m,m<n/\I m l' h') (u0 c) V)):∀(n:Nat)(tm:T Value)(h:af)(φ:ff)(w:World)(a:Act),Ln (u0 c) nt mT tm->TR φ nt tm a->HR P φ h w->I n ((u0 c).map (dw tm)) h->mu r P c (uf P nt φ h w a.defers V (u0 c) tm) a w:=by
 intro n
 induction n using Nat.strongRecOn with
 |ind n ihn=>
  intro tm h φ w a hk ht hr hi;have hs:=Ss hc;refine mu.round (wpIn_mono (ih _ h _ φ w a (ht.aab hs hk) hr (hI n _ h hi)) ?_);rintro e a' w' ⟨x,dz,h',φ',rfl,g1,g2,g3,g4,g5,g6⟩;have hkeep:Ln (u0 c) nt tm dz:=λt htn hnt=>(g6 t htn hnt).trans (xH hs hk t htn);cases x with
  |normal=>
   obtain⟨m,hm,hi'⟩:=g1;have hk2:Ln (u0 c) nt mT dz:=λt htn hnt=>(hkeep t htn hnt).trans (hk t htn hnt);exact(ihn m hm dz h' φ' w' a' hk2 g2 g3 hi').mono λe a2 w2 hp=>uf.after g4 g5 hkeep (λ_ _=>rfl) (λt ht=>⟨ht,ht⟩) hp
  |exit i=>exact⟨.exit i,dz,h',φ',rfl,g1,g2,g3,g4,g5,hkeep⟩
  |ret=>exact⟨.ret,dz,h',φ',rfl,g1,g2,g3,g4,g5,hkeep⟩
theorem St(hm:P.follows .mixedOrders=true):∀(c:Code)(r:Option Nat)(nt:Nat),(r=none\/rO c=true)->codeOk nt c=true->∀(tm:T Value)(h:af)(V:KT)(φ:ff)(w:World)(a:Act),
  TR φ nt tm a->HR P φ h w->WP P c tm h V->c.wpIn (FR r) 0 P (uf P nt φ h w a.defers V (u0 c) tm) a w:=by
 intro c
 induction c with
 |skip=>intro r nt hn hc tm h V φ w a ht hr hg;exact wpIn_skip ⟨.normal,tm,h,φ,rfl,hg,ht,hr,Ext.refl _ _ _,rfl,λ_ _ _=>rfl⟩
 |label l=>intro r nt hn hc tm h V φ w a ht hr hg;exact wpIn_label ⟨.normal,tm,h,φ,rfl,hg,ht,hr,Ext.refl _ _ _,rfl,λ_ _ _=>rfl⟩
 |ret=>intro r nt hn hc tm h V φ w a ht hr hg;exact wpIn_ret ⟨.ret,tm,h,φ,rfl,hg,ht,hr,Ext.refl _ _ _,rfl,λ_ _ _=>rfl⟩
 |exit id=>intro r nt hn hc tm h V φ w a ht hr hg;exact wpIn_exit ⟨.exit id,tm,h,φ,rfl,hg,ht,hr,Ext.refl _ _ _,rfl,λ_ _ _=>rfl⟩
 |region id os draw=>
  intro r nt hn hc tm h V φ w a ht hr hg;have hok:∀q∈os.toList,fW nt q=true:=by
   simp only[codeOk,List.all_eq_true]at hc;exact hc
  have hg':ok (mX False (F6 P) P j_ os.toList draw tm h λtm h=>V .normal tm h):=by
   have:Xm P os.toList draw tm h (λtm h=>V .normal tm h):=hg
   rwa [Xq]at this
  have hQ:∀dz h' φ' a' w',ok ((λtm h=>V .normal tm h) dz h')->TR φ' nt dz a'->HR P φ' h' w'->Ext φ φ' h h' w w'->a'.defers=a.defers->
    (∀t,t<nt->(∀(i:Nat)(o:Oper),os[i]? = some o->o.dst≠some t)->dw dz t=dw tm t)->uf P nt φ h w a.defers V (u0 (.region id os draw)) tm .normal a' w':=
   λdz h' φ' a' w' g1 g2 g3 g4 g5 g6=>⟨.normal,dz,h',φ',rfl,g1,g2,g3,g4,g5,λt ht hnt=>g6 t ht (Lo hnt)⟩
  cases draw with
  |false=>
   refine wpIn_region ?_;rw[List.range_eq_range'];have:=vE (r0:=r) (mT:=tm) vG Sp GQ hok hQ os.toList 0 φ tm h a w (λk=>by simp) ht hr (Ext.refl _ _ _) rfl (λ_ _ _=>rfl) hg';simpa using this
  |true=>exact uE (good:=ok) vG Sp hm j_ GQ os id nt hok φ tm h a w _ ht hr hg' r _ hQ
 |seq x y ihx ihy=>
  intro r nt hn hc tm h V φ w a ht hr hg;simp only[codeOk,Bool.and_eq_true]at hc;obtain⟨zi,hn2⟩:=zM (x:=x) (y:=y) hn rfl;have hmem:∀t,t∉u0 (.seq x y)->t∉u0 x/\t∉u0 y:=λt ht=>by
   have:¬(t∈u0 x\/t∈u0 y):=λhh=>ht (sY.mpr hh);exact not_or.mp this
  unfold WP at hg;split at hg
  .refine wpIn_seq (wpIn_mono (ihx r nt zi hc.1 tm h _ φ w a ht hr hg) ?_);rintro e a' w' ⟨e0,dz,h',φ',rfl,g1,g2,g3,g4,g5,g6⟩;cases e0 with
   |normal=>exact wpIn_mono (ihy r nt hn2 hc.2 dz h' V φ' w' a' g2 g3 g1) λe a2 w2 hp=>uf.after g4 g5 g6 (λ_ _=>rfl) hmem hp
   |exit i=>exact⟨.exit i,dz,h',φ',rfl,g1,g2,g3,g4,g5,λt ht hnt=>g6 t ht (hmem t hnt).1⟩
   |ret=>exact⟨.ret,dz,h',φ',rfl,g1,g2,g3,g4,g5,λt ht hnt=>g6 t ht (hmem t hnt).1⟩
  .obtain⟨J,hA,hB⟩:=hg;refine wpIn_seq (wpIn_mono (ihx r nt zi hc.1 tm h _ φ w a ht hr hA) ?_);rintro e a' w' ⟨e0,dz,h',φ',rfl,g1,g2,g3,g4,g5,g6⟩;have hs:=Ss hc.1;cases e0 with
   |normal=>exact wpIn_mono (ihy r nt hn2 hc.2 _ h' V φ' w' a' (g2.aab hs g6) g3 (hB _ _ g1)) λe a2 w2 hp=>uf.after g4 g5 g6 (xH hs g6) hmem hp
   |exit i=>exact⟨.exit i,dz,h',φ',rfl,g1,g2,g3,g4,g5,λt ht hnt=>g6 t ht (hmem t hnt).1⟩
   |ret=>exact⟨.ret,dz,h',φ',rfl,g1,g2,g3,g4,g5,λt ht hnt=>g6 t ht (hmem t hnt).1⟩
 |cond x c1 c2 ih1 ih2=>
  intro r nt hn hc tm h V φ w a ht hr hg;simp only[codeOk,Bool.and_eq_true]at hc;obtain⟨zi,hn2⟩:=zM (x:=c1) (y:=c2) hn rfl;have hmem:∀t,t∉u0 (.cond x c1 c2)->t∉u0 c1/\t∉u0 c2:=λt ht=>by
   have:¬(t∈u0 c1\/t∈u0 c2):=λhh=>ht (sY.mpr hh);exact not_or.mp this
  have hg':aS (gE tm x) (WP P c1 tm h V) (WP P c2 tm h V):=hg;have hx:=ht.eval hc.1.1;unfold aS at hg';split at hg'<;>try exact hg'.elim
  .rename_i hv;rw[hv]at hx;refine wpIn_cond_true (by generalize a.eval x=z at hx;cases hx;rfl) (wpIn_mono (ih1 r nt zi hc.1.2 tm h V φ w a ht hr hg') ?_);rintro e a' w' ⟨e0,dz,h',φ',rfl,g1,g2,g3,g4,g5,g6⟩;exact⟨e0,dz,h',φ',rfl,g1,g2,g3,g4,g5,λt ht hnt=>g6 t ht (hmem t hnt).1⟩
  .rename_i hv;rw[hv]at hx;refine wpIn_cond_false (by generalize a.eval x=z at hx;cases hx;rfl) (wpIn_mono (ih2 r nt hn2 hc.2 tm h V φ w a ht hr hg') ?_);rintro e a' w' ⟨e0,dz,h',φ',rfl,g1,g2,g3,g4,g5,g6⟩;exact⟨e0,dz,h',φ',rfl,g1,g2,g3,g4,g5,λt ht hnt=>g6 t ht (hmem t hnt).2⟩
 |block id c ih=>
  intro r nt hn hc tm h V φ w a ht hr hg;refine wpIn_block (wpIn_mono (ih r nt hn hc tm h _ φ w a ht hr hg) ?_);rintro e a' w' ⟨e0,dz,h',φ',rfl,g1,g2,g3,g4,g5,g6⟩;cases e0 with
  |normal=>exact⟨.normal,dz,h',φ',rfl,g1,g2,g3,g4,g5,g6⟩
  |ret=>exact⟨.ret,dz,h',φ',rfl,g1,g2,g3,g4,g5,g6⟩
  |exit i=>
   have Wu:Bool.rec (motive:=λ_=>Prop) (V (.exit i) dz h') (V .normal dz h') (Nat.beq i id):=g1;simp only[Sa,Exit.inBlock];cases hb:Nat.beq i id with
   |true=>
    rw[hb]at Wu;rw[if_pos (cU hb)];exact⟨.normal,dz,h',φ',rfl,Wu,g2,g3,g4,g5,g6⟩
   |false=>
    rw[hb]at Wu;rw[if_neg (pU hb)];exact⟨.exit i,dz,h',φ',rfl,Wu,g2,g3,g4,g5,g6⟩
 |scope c ih=>
  intro r nt hn hc tm h V φ w a ht hr hg;refine AG (ih r nt hn hc tm h V φ w a ht hr hg) ?_;rintro l a' w' ⟨x,dz,h',φ',hx,_⟩;cases x<;>cases hx
 |loop c ih=>
  intro r nt hn hc tm h V φ w a ht hr hg;obtain⟨I,⟨n,h0⟩,hI⟩:=hg;exact(Lp (c:=c) (V:=V) (mT:=tm) hn hc (λtm h V φ w a=>ih r nt hn hc tm h V φ w a) I hI n tm h φ w a (λ_ _ _=>rfl) ht hr h0).wp
 |_=>intro r nt hn hc tm h V φ w a ht hr hg;exact False.elim hg
theorem Xr(h:af)(tm:T Value):∀(rs:List uw)(V:List Value->Prop),PC h tm rs V=eZ False h tm rs V:=by
 intro rs
 induction rs with
 |nil=>intro V;rfl
 |cons r rs ih=>
  intro V;cases r with
  |tmp t=>simp only[eZ,fL];exact ih _
  |one a=>simp only[eZ,fL];show aF False (dw tm a) h (λv _=>PC h tm rs λvs=>V (v::vs))=_;simp only[ih];rfl
  |agg a s=>simp only[eZ,fL];show aL False s (dw tm a) h (λv _=>PC h tm rs λvs=>V (v::vs))=_;simp only[ih];rfl
  |bad=>rfl
theorem Xs(V:KQ)(h:af)(vs:List Value):Xn V h vs=RH V h vs:=by
 cases vs with
 |nil=>rfl
 |cons v vs=>cases vs<;>rfl
theorem aG(hm:P.follows .mixedOrders=true){f:FuncId}{args:List Value}{h:af}{V:KQ}(hg:aV P f args h V):av P f args h V:=by
 intro φ w args' ha hr;unfold aV at hg;split at hg
 .exact hg.elim
 .rename_i c rs nt hc;obtain⟨fn,hf,hb,rfl,rfl,CN,hrk,hnt,AB⟩:=vC hc;split at hg<;>try exact hg.elim
  rename_i hle;refine⟨AB _ _,?_⟩;have hst:=TR.start (nt:=fn.ntmps) ha hnt (di hle);refine zK (r:=none) (n:=0) |>.1 (callsIn_of_wp_marks hf hb trivial (wpIn_mono (St hm c none _ (.inl rfl) CN _ h _ φ w _ hst hr hg) ?_))
  rintro e a' w' ⟨x,dz,h',φ',rfl,g1,g2,g3,g4,g5,_⟩;have Gx:a'.defers=[]:=g5
  have fin:PC h' dz (fn.results.toList.map (yp P)) (λvs=>Xn V h' vs)->
    LeavesInM (FR none) 0 P fn a'.tmps (λe w'=>∃φ' v v' h',e=.returned v'/\ok (V v h')/\VR φ' v v'/\HR P φ' h' w'/\Ext φ φ' h h' w w') a'.defers .returning w':=by
   intro k;rw[Xr]at k;simp only[Xs]at k;rw[Gx];refine rW (a:=a') (φ':=φ') (h':=h') ?_ [] w'.heap.size w' trivial g3 g4;intro w2 Gy hx2;obtain⟨vs,vs',k1,k2,k3⟩:=rV (good:=ok) vG Gy g2 _ hrk k;refine⟨_,vB k3,?_⟩;cases k2 with
   |nil=>exact⟨φ',_,_,h',rfl,k1,VR.tuple' .nil,Gy,hx2⟩
   |cons hv hvs=>
    cases hvs with
    |nil=>exact⟨φ',_,_,h',rfl,k1,hv,Gy,hx2⟩
    |cons W_ hvs=>exact⟨φ',_,_,h',rfl,k1,VR.tuple' (.cons hv (.cons W_ hvs)),Gy,hx2⟩
  cases x with
  |normal=>exact fin g1
  |exit i=>exact False.elim g1
  |ret=>exact fin g1
theorem av.mono{f:FuncId}{args:List Value}{V κ':Value->af->Prop}(hc:av P f args h V)(hk:∀v h',V v h'->κ' v h'):av P f args h κ':=by
 intro φ w args' ha hr;obtain⟨h1,h2⟩:=hc φ w args' ha hr;refine⟨h1,h2.mono ?_⟩;rintro e w' ⟨φ',v,v',h',rfl,g1,g2,g3,g4⟩;exact⟨φ',v,v',h',rfl,hk _ _ g1,g2,g3,g4⟩
end Go.Vai

namespace Go.Vai
open Go
variable {β:Type}{fl:β}
theorem T.PD{α:Type}(a a':α)(p:List Bool):∀t:T α,T.qN a' p (T.qN a p t)=T.qN a' p t:=by
 induction p with
 |nil=>intro t;cases t<;>rfl
 |cons b p ih=>intro t;cases t<;>cases b<;>simp only[T.qN]<;>rw[ih]
theorem T.PE{α:Type}(a b:α):∀(p q:List Bool)(t:T α),p≠q->T.qN a p (T.qN b q t)=T.qN b q (T.qN a p t):=by
 intro p
 induction p with
 |nil=>
  intro q t hpq;cases q with
  |nil=>exact absurd rfl hpq
  |cons c q=>cases t<;>cases c<;>rfl
 |cons x p ih=>
  intro q t hpq;cases q with
  |nil=>cases t<;>cases x<;>rfl
  |cons c q=>
   have h:x=c->p≠q:=λe e'=>hpq (by rw[e,e']);cases x<;>cases c<;>cases t<;>simp only[T.qN]<;>first|rfl|rw[ih _ _ (h rfl)]
theorem abW{a b:Nat}(h:a≠b):key a≠key b:=λe=>h (key_inj (Nat.lt_succ_self _) (Nat.lt_succ_self _) e)
theorem T.AR{α:Type}(t:T α)(n:Nat)(a a':α):(t.a_ n a).a_ n a'=t.a_ n a':=T.PD a a' (key n) t
theorem T.GU{α:Type}(t:T α){n m:Nat}(a b:α)(h:n≠m):(t.a_ n a).a_ m b=(t.a_ m b).a_ n a:=(T.PE a b (key n) (key m) t (abW h)).symm
theorem T.aD{α:Type}(t:T α){n m:Nat}(a:α)(h:n≠m):(t.a_ n a).get m=t.get m:=T.iH t a (Nat.lt_succ_self _) (Nat.lt_succ_self _) h
theorem Lq(vs:List Value):∀(t:T Value)(off n:Nat)(a:Value),n<off->lay vs (t.a_ n a) off=(lay vs t off).a_ n a:=by
 induction vs with
 |nil=>intro t off n a _;rfl
 |cons v vs ih=>
  intro t off n a h;simp only[lay];rw[T.GU t a v X1,ih _ _ _ _ X1]
theorem Xt(vs:List Value):∀(t:T Value)(off i:Nat)(a:Value),i<vs.length->(lay vs t off).a_ (off+i) a=lay (vs.set i a) t off:=by
 induction vs with
 |nil=>intro t off i a h;simp at h
 |cons v vs ih=>
  intro t off i a h;cases i with
  |zero=>
   simp only[List.set_cons_zero,lay,Nat.add_zero];rw[<-Lq vs _ _ _ _ (Nat.lt_succ_self off),T.AR]
  |succ i=>
   simp only[List.set_cons_succ,lay];rw[<-ih _ _ _ _ (by simpa using h),show off+(i+1)=off+1+i by omega]
def over(vs:List Value)(o:Nat)(ws:List Value):List Value:=vs.take o++ws++vs.drop (o+ws.length)
theorem oH{vs:List Value}{o:Nat}{ws:List Value}(h:o+ws.length<=vs.length):(over vs o ws).length=vs.length:=by
 simp[over];omega
theorem GV(vs:List Value)(o:Nat):over vs o []=vs:=by simp[over]
theorem PF(vs:List Value)(o:Nat)(w:Value)(ws:List Value)(h:o<vs.length):over vs o (w::ws)=over (vs.set o w) (o+1) ws:=by
 simp only[over,List.length_cons];rw[List.take_succ_eq_append_getElem (by simpa using h)];simp only[List.getElem_set_self];rw[List.take_set_of_le (Nat.le_refl _),List.drop_set_of_lt X1];simp[Nat.add_comm,Nat.add_left_comm]
theorem EU(ws:List Value):∀(vs:List Value)(o:Nat),o+ws.length<=vs.length->lay ws (lay vs .nil 0) o=lay (over vs o ws) .nil 0:=by
 induction ws with
 |nil=>intro vs o _;rw[GV];rfl
 |cons w ws ih=>
  intro vs o h;simp only[List.length_cons]at h;have h1:=Xt vs .nil 0 o w X1;rw[Nat.zero_add]at h1;rw[PF vs o w ws X1,<-ih _ _ (by simp;omega),<-h1];rfl
def aj(vs:List Value)(e:TypeId)(op:Bool):bP:=.cells vs.length (lay vs .nil 0) e op
def roO(vs:List Value)(e:TypeId):bP:=.ro vs.length (lay vs .nil 0) e
theorem Su(vs:List Value):∀(c:T Value)(off:Nat)(i:Nat),(lay vs c off).get i=if off<=i/\i<off+vs.length then vs[i-off]? else c.get i:=by
 induction vs with
 |nil=>intro c off i;simp[lay];omega
 |cons v vs ih=>
  intro c off i;rw[lay,ih];by_cases h1:off+1<=i/\i<off+1+vs.length
  .rw[if_pos h1,if_pos (by simp;omega),show i-off=(i-(off+1))+1 by omega];simp
  .rw[if_neg h1];by_cases h2:off=i
   .subst h2;rw[T.ay];simp
   .rw[T.aD _ _ h2,if_neg (by simp;omega)]
theorem p_(vs:List Value)(i:Nat):(lay vs .nil 0).get i=vs[i]?:=by
 rw[Su];by_cases h:i<vs.length
 .rw[if_pos ⟨Nat.zero_le _,X1⟩,Nat.sub_zero]
 .rw[if_neg X1,T.get_nil];symm;simp;omega
def Lr(fl:β)(o:Option Value)(V:Value->β):β:=match o with|some v=>V v|none=>fl
theorem DI(v:Value)(V:Value->β):Lr fl (some v) V=V v:=id rfl
def w8(fl:β)(ob:Option bP)(o:Nat)(V:Value->β):β:=match ob with
 |some (.cells n c _ _)=>match Nat.ble (Nat.succ o) n,c.get o with
  |true,some v=>V v
  |_,_=>fl
 |some (.ro n c _)=>match Nat.ble (Nat.succ o) n,c.get o with
  |true,some v=>V v
  |_,_=>fl
 |_=>fl
theorem GX(b o:Nat)(h:af)(V:X3 β):aF fl (.pointer (some ⟨b,o,none⟩)) h V=w8 fl (h.bl.get b) o λv=>V v h:=by
 unfold aF w8;dsimp only;generalize h.bl.get b=z;cases z with
 |none=>rfl
 |some ob=>cases ob<;>rfl
theorem sZ(vs:List Value)(e:TypeId)(op:Bool)(o:Nat)(V:Value->β):w8 fl (some (aj vs e op)) o V=Lr fl vs[o]? V:=by
 unfold w8 aj;simp only[p_];by_cases h:o<vs.length
 .rw[show Nat.ble (Nat.succ o) vs.length=true from Nat.ble_eq_true_of_le h,List.getElem?_eq_getElem h];rfl
 ·have:Nat.ble (Nat.succ o) vs.length=false:=by
   cases hb:Nat.ble (Nat.succ o) vs.length with
   |false=>rfl
   |true=>exact absurd (Nat.le_of_ble_eq_true hb) h
  rw[this,List.getElem?_eq_none X1];rfl
theorem Sv(vs:List Value)(e:TypeId)(o:Nat)(V:Value->β):w8 fl (some (roO vs e)) o V=Lr fl vs[o]? V:=sZ vs e false o V
theorem Lt(vs:List Value)(off:Nat):∀(n:Nat)(acc:List Value)(V:List Value->β),off+n<=vs.length->nr fl (lay vs .nil 0) off n acc V=V ((vs.drop off).take n++acc):=by
 intro n
 induction n with
 |zero=>intro acc V _;simp;rfl
 |succ n ih=>
  intro acc V h
  show Option.rec (motive:=λ_=>β) fl (λv=>nr fl (lay vs .nil 0) off n (v::acc) V) ((lay vs .nil 0).get (Nat.add off n))=_
  rw[p_,show Nat.add off n=off+n from rfl,List.getElem?_eq_getElem X1]
  show nr fl (lay vs .nil 0) off n (vs[off+n]::acc) V=_
  rw[ih _ _ X1,List.take_succ_eq_append_getElem (by simp;omega)];simp
def xI(fl:β)(ob:Option bP)(o s:Nat)(V:List Value->β):β:=match ob with
 |some (.cells n c _ _)=>match Nat.ble (Nat.add o s) n with
  |true=>nr fl c o s [] V
  |false=>fl
 |some (.ro n c _)=>match Nat.ble (Nat.add o s) n with
  |true=>nr fl c o s [] V
  |false=>fl
 |_=>fl
theorem GY(s b o:Nat)(h:af)(V:X3 β):aL fl s (.pointer (some ⟨b,o,none⟩)) h V=xI fl (h.bl.get b) o s λl=>V (.agg ⟨l⟩) h:=by
 unfold aL xI;dsimp only;generalize h.bl.get b=z;cases z with
 |none=>rfl
 |some ob=>cases ob<;>rfl
theorem xJ(vs:List Value)(e:TypeId)(op:Bool)(o s:Nat)(V:List Value->β)(h:o+s<=vs.length):xI fl (some (aj vs e op)) o s V=V ((vs.drop o).take s):=by
 unfold xI aj;simp only;rw[show Nat.ble (Nat.add o s) vs.length=true from Nat.ble_eq_true_of_le h];simp only;rw[Lt _ _ _ _ _ h,List.append_nil]
theorem Sw(vs:List Value)(e:TypeId)(o s:Nat)(V:List Value->β)(h:o+s<=vs.length):xI fl (some (roO vs e)) o s V=V ((vs.drop o).take s):=xJ vs e false o s V h
theorem dO(o:bP)(h:af)(V:Nat->af->β):aH fl o h V=V h.nx ⟨h.nx+1,h.bl.a_ h.nx o,h.lo⟩:=by
 unfold aH;rw[T.cI,cC]
theorem bG(b:Nat)(o:bP)(h:af)(V:af->β)(hlo:h.lo<=b):setBlock fl b o h V=V ⟨h.nx,h.bl.a_ b o,h.lo⟩:=by
 unfold setBlock;rw[Nat.ble_eq_true_of_le hlo,T.cI]
theorem jK(vs:List Value)(e:TypeId)(op:Bool)(V:bP->β)(hl:vs.length<=1000000000000):aM fl vs e op V=V (aj vs e op):=by
 unfold aM;rw[zH];simp only[Nat.zero_add];rw[Nat.ble_eq_true_of_le hl];rfl
theorem xK(n:Nat):∀(ws:List Value)(c:T Value)(o:Nat)(V:T Value->β),o+ws.length<=n->(ws.all ef)=true->oV fl n ws c o V=V (lay ws c o):=by
 intro ws
 induction ws with
 |nil=>intro c o V _ _;rfl
 |cons v ws ih=>
  intro c o V h1 h2;simp only[List.all_cons,Bool.and_eq_true,List.length_cons]at h1 h2
  show Bool.rec (motive:=λ_=>β) fl (Bool.rec (motive:=λ_=>β) fl (T.set c o v λc=>oV fl n ws c (Nat.succ o) V) (Nat.ble (Nat.succ o) n)) (ef v)=_
  rw[h2.1,Nat.ble_eq_true_of_le X1];simp only[T.cI];rw[ih _ _ _ X1 h2.2];rfl
def Xu(fl:β)(ob:Option bP)(s b o:Nat)(ws:List Value)(h:af)(V:af->β):β:=match ob with
 |some (.cells n c e op)=>match Nat.beq ws.length s with
  |true=>oV fl n ws c o λc=>setBlock fl b (.cells n c e op) h V
  |false=>fl
 |_=>fl
theorem DJ(s b o:Nat)(v:Value)(h:af)(V:X3 β):aT fl s (.pointer (some ⟨b,o,none⟩)) v h V=Xu fl (h.bl.get b) s b o v.cells.toList h λh=>V undef h:=by
 unfold aT Xu;dsimp only;generalize h.bl.get b=z;cases z with
 |none=>rfl
 |some ob=>cases ob<;>rfl
theorem qb(vs:List Value)(e:TypeId)(op:Bool)(s b o:Nat)(ws:List Value)(h:af)(V:af->β)(h1:ws.length=s)(h2:ws.all ef=true)(h3:o+s<=vs.length)(hlo:h.lo<=b):Xu fl (some (aj vs e op)) s b o ws h V=V ⟨h.nx,h.bl.a_ b (aj (over vs o ws) e op),h.lo⟩:=by
 subst h1;unfold Xu aj;simp only;rw[show Nat.beq ws.length ws.length=true from Nat.beq_refl _];simp only;rw[xK _ _ _ _ _ h3 h2,bG _ _ _ _ hlo,EU _ _ _ h3,oH h3]
theorem GZ(v:Value)(h:af)(V:KQ):aJ (some v) h V=V v h:=id rfl
theorem AS(o:bP)(mk:Nat->Value)(h:af)(V:KQ):zN (some (o,mk)) h V=V (mk h.nx) ⟨h.nx+1,h.bl.a_ h.nx o,h.lo⟩:=by
 show aH False o h (λn h=>V (mk n) h)=_;rw[dO]
theorem AT(p:Prop):bV true p=p:=id rfl
theorem AU(b:Bool):az (.bool b) true=b:=by cases b<;>exact id rfl
theorem yG(b:Bool):az (.bool b) false=!b:=by cases b<;>exact id rfl
theorem yH(f:(Value->af->Prop)->Prop)(h:af)(V:KQ):au true f h V=f V:=id rfl
theorem vH(f:(Value->af->Prop)->Prop)(h:af)(V:KQ):au false f h V=V undef h:=id rfl
theorem AV(A B:Prop):aS (.bool true) A B=A:=id rfl
theorem yI(A B:Prop):aS (.bool false) A B=B:=id rfl
theorem Nc(n:Int)(h : -9223372036854775808<=n/\n<=9223372036854775807):IntKind.i64.wrap n=n:=IntWalk.i64_in _ h
theorem Nd(P:Program)(t:TypeId)(cn gd:Bool)(a b:Int)(h:af)(V:X3 β):aI fl P .add t cn gd (.int .i64 a) (.int .i64 b) h V=V (.int .i64 (IntKind.i64.wrap (a+b))) h:=by
 simp only[aI,jx,pO,iZ,fD];rfl
theorem Nf(P:Program)(t:TypeId)(cn gd:Bool)(a b:Int)(h:af)(V:X3 β):aI fl P .sub t cn gd (.int .i64 a) (.int .i64 b) h V=V (.int .i64 (IntKind.i64.wrap (a-b))) h:=by
 simp only[aI,jx,pO,iZ,fD];rfl
theorem Ng(P:Program)(t:TypeId)(cn gd:Bool)(a b:Int)(h:af)(V:X3 β):aI fl P .mul t cn gd (.int .i64 a) (.int .i64 b) h V=V (.int .i64 (IntKind.i64.wrap (a*b))) h:=by
 simp only[aI,jx,pO,iZ,fD];rfl
theorem Nh(P:Program)(t:TypeId)(cn gd:Bool)(a b:Int)(h:af)(V:X3 β)(hb:b≠0):aI fl P .quo t cn gd (.int .i64 a) (.int .i64 b) h V=V (.int .i64 (IntKind.i64.wrap (Int.tdiv a b))) h:=by
 simp only[aI,jx,pO,iZ,fD,iA,hb,decide_false]
theorem Ni(P:Program)(t:TypeId)(cn gd:Bool)(k:IntKind)(a b:Int)(h:af)(V:X3 β):aI fl P .eql t cn gd (.int k a) (.int k b) h V=V (.bool (decide (a=b))) h:=by
 simp only[aI,ia,decide_true,pO,bX,iA]
theorem EV(P:Program)(t:TypeId)(cn gd:Bool)(k:IntKind)(a b:Int)(h:af)(V:X3 β):aI fl P .neq t cn gd (.int k a) (.int k b) h V=V (.bool (!decide (a=b))) h:=by
 simp only[aI,ia,decide_true,pO,bX,iA]
theorem Nj(P:Program)(t:TypeId)(cn gd:Bool)(k:IntKind)(a b:Int)(h:af)(V:X3 β):aI fl P .lss t cn gd (.int k a) (.int k b) h V=V (.bool (decide (a<b))) h:=by
 simp only[aI,ia,decide_true,pO,bX,iz]
theorem Nk(P:Program)(t:TypeId)(cn gd:Bool)(k:IntKind)(a b:Int)(h:af)(V:X3 β):aI fl P .gtr t cn gd (.int k a) (.int k b) h V=V (.bool (decide (b<a))) h:=by
 simp only[aI,ia,decide_true,pO,bX,iz]
theorem Nl(P:Program)(t:TypeId)(cn gd:Bool)(k:IntKind)(a b:Int)(h:af)(V:X3 β):aI fl P .leq t cn gd (.int k a) (.int k b) h V=V (.bool (!decide (b<a))) h:=by
 simp only[aI,ia,decide_true,pO,bX,iz]
theorem Nn(P:Program)(t:TypeId)(cn gd:Bool)(k:IntKind)(a b:Int)(h:af)(V:X3 β):aI fl P .geq t cn gd (.int k a) (.int k b) h V=V (.bool (!decide (a<b))) h:=by
 simp only[aI,ia,decide_true,pO,bX,iz]
theorem Sx(b:Bool)(h:af)(V:X3 β):jh fl .not (.bool b) h V=V (.bool (!b)) h:=by simp only[jh,bX]
theorem Sy(a:Int)(h:af)(V:X3 β):jh fl .neg (.int .i64 a) h V=V (.int .i64 (IntKind.i64.wrap (0-a))) h:=by simp only[jh,iZ,fD];rfl
theorem G0(k:IntKind)(a:Int)(h:af)(V:X3 β):ny fl .i64 (.int k a) h V=V (.int .i64 (IntKind.i64.wrap a)) h:=by simp only[ny,iZ,fD]
theorem DK(a b:Value)(h:af)(V:X3 β):bq fl (.bool true) a b h V=V a h:=id rfl
theorem AX(a b:Value)(h:af)(V:X3 β):bq fl (.bool false) a b h V=V b h:=id rfl
theorem iR(x:Option Addr)(n c:Nat)(h:af)(V:X3 β):bU fl (.slice x n c) h V=V (.int .i64 (n:Int)) h:=id rfl
theorem vI(off b o:Nat)(h:af)(V:X3 β):aa fl off (.pointer (some ⟨b,o,none⟩)) h V=V (.pointer (some ⟨b,o+off,none⟩)) h:=by simp only[aa,cC];rfl
theorem No(a:Addr)(h:af)(V:X3 β):aW fl (.pointer (some a)) h V=V (.pointer (some a)) h:=id rfl
theorem qQ(f:FuncId)(a b:Array Value)(h:af)(V:X3 β):aW fl (.func (.func f) a b) h V=V (.func (.func f) a b) h:=id rfl
theorem DL(a:Value)(l:List Value)(h:af)(V:X3 β):aK fl 0 (.tuple ⟨a::l⟩) h V=V a h:=id rfl
theorem DM(a b:Value)(l:List Value)(h:af)(V:X3 β):aK fl 1 (.tuple ⟨a::b::l⟩) h V=V b h:=id rfl
theorem DN(a b c:Value)(l:List Value)(h:af)(V:X3 β):aK fl 2 (.tuple ⟨a::b::c::l⟩) h V=V c h:=id rfl
theorem bB(s b o n c i:Nat)(h:af)(V:X3 β)(hi:i<n):aO fl s (.slice (some ⟨b,o,none⟩) n c) (.int .i64 (i:Int)) h V=V (.pointer (some ⟨b,o+i*s,none⟩)) h:=by
 show(match Nat.ble (Nat.succ i) n with|true=>_|_=>_)=_
 rw[show Nat.ble (Nat.succ i) n=true from Nat.ble_eq_true_of_le hi];simp only[cC];rfl
theorem G4(P:Program)(f:FuncId)(a b:Array Value)(args:List Value)(h:af)(V:KQ):gu P (.func (.func f) a b) args h V=av P f (a.toList++args++b.toList) h V:=id rfl
theorem bz{p:Prop}[Decidable p](h:p):decide p=true:=decide_eq_true h
theorem bf{p:Prop}[Decidable p](h:¬p):decide p=false:=decide_eq_false h
theorem f_{a b:Int}(h:a<b):decide (a<b)=true:=decide_eq_true h
theorem d_{a b:Int}(h:b<=a):decide (a<b)=false:=decide_eq_false X1
theorem aiG{a b:Int}(h:a=b):decide (a=b)=true:=decide_eq_true h
theorem Sz{a b:Int}(h:a<b):decide (a=b)=false:=decide_eq_false X1
theorem aac{a b:Int}(h:b<a):decide (a=b)=false:=decide_eq_false X1
structure Le(h h':af):Prop where
 nx:h.nx<=h'.nx
 lo:h'.lo=h.lo
 get:∀b,b<h.nx->h'.bl.get b=h.bl.get b
theorem Le.refl(h:af):Le h h:=⟨Nat.le_refl _,rfl,λ_ _=>rfl⟩
theorem Le.trans{a b c:af}(x:Le a b)(y:Le b c):Le a c:=⟨Nat.le_trans x.nx y.nx,y.lo.trans x.lo,λi hi=>(y.get i (Nat.lt_of_lt_of_le hi x.nx)).trans (x.get i hi)⟩
theorem Le.new{a h:af}(x:Le a h)(o:bP):Le a ⟨h.nx+1,h.bl.a_ h.nx o,h.lo⟩:=
 ⟨Nat.le_succ_of_le x.nx,x.lo,λi hi=>(T.aD _ _ (by have:=x.nx;omega)).trans (x.get i hi)⟩
theorem Le.set{a h:af}(x:Le a h){b:Nat}(hb:a.nx<=b)(o:bP):Le a ⟨h.nx,h.bl.a_ b o,h.lo⟩:=
 ⟨x.nx,x.lo,λi hi=>(T.aD _ _ X1).trans (x.get i hi)⟩
theorem kG(h:af)(o:bP):∃A:af,A=⟨h.nx+1,h.bl.a_ h.nx o,h.lo⟩/\Le h A/\A.bl.get h.nx=some o/\A.nx=h.nx+1/\A.lo=h.lo:=
 ⟨_,rfl,(Le.refl h).new _,T.ay _ _ _,rfl,rfl⟩
theorem AY(h:af)(o p:bP):∃A:af,A=⟨h.nx+1+1,(h.bl.a_ h.nx o).a_ (h.nx+1) p,h.lo⟩/\Le h A/\A.bl.get h.nx=some o/\A.bl.get (h.nx+1)=some p/\A.nx=h.nx+1+1/\A.lo=h.lo:=
 ⟨_,rfl,((Le.refl h).new _).new _,(T.aD _ _ X1).trans (T.ay _ _ _),T.ay _ _ _,rfl,rfl⟩
abbrev XZ(v : Value)(_ : af):Option Value := some v
theorem Le.up{h h' : af}(x : Le h h'){b : Nat}{o : Option bP}(g : h.bl.get b = o)(k : b < h.nx := by omega):h'.bl.get b = o := (x.get _ k).trans g
end Go.Vai

namespace Go.Vai
open Go Go.RowKit
variable {β:Type}{fl:β}{P:Program}
theorem EW{φ:ff}{v:Value}(hv:pL v=true):VR φ v v:=by
 cases v<;>first|exact VR.pL hv|(exact VR.xk (F2.pL hv))|cases hv
theorem SA{φ:ff}:∀{l l':List Value},l.all lJ=true->F2 (VR φ) l l'->l'=l:=by
 intro l
 induction l with
 |nil=>intro l' _ h;cases h;rfl
 |cons v l ih=>
  intro l' hs h;simp only[List.all_cons,Bool.and_eq_true]at hs;cases h with
  |cons h1 h2=>rw[ih hs.2 h2,VR.Xk hs.1 h1]
theorem qR{φ:ff}{v v':Value}(hv:pL v=true)(h:VR φ v v'):v'=v:=by
 cases h with
 |agg a a' ha Eu=>
  have:=SA (l':=a'.toList) hv (F2.nF ha Eu);obtain⟨l⟩:=a;obtain⟨l'⟩:=a';simp only at this;rw[this]
 |bool=>rfl
 |int=>rfl
 |string=>rfl
 |_=>cases hv
theorem G5{φ:ff}:∀{l:List Value},l.all pL=true->F2 (VR φ) l l:=by
 intro l
 induction l with
 |nil=>intro _;exact .nil
 |cons v l ih=>
  intro h;simp only[List.all_cons,Bool.and_eq_true]at h;exact .cons (EW h.1) (ih h.2)
theorem G6{φ:ff}:∀{l l':List Value},l.all pL=true->F2 (VR φ) l l'->l'=l:=by
 intro l
 induction l with
 |nil=>intro l' _ h;cases h;rfl
 |cons v l ih=>
  intro l' hs h;simp only[List.all_cons,Bool.and_eq_true]at hs;cases h with
  |cons h1 h2=>rw[ih hs.2 h2,qR hs.1 h1]
def bR(P:Program)(n:Nat)(f:FuncId)(args:List Value)(v:Value):Bool:=
 args.all pL && pL v && iU false Xj P (run false Xj P n) f args ⟨0,.nil,0⟩ λv' _=>k_ 8 v' v
theorem s9(hm:P.follows .mixedOrders=true){n:Nat}{f:FuncId}{args:List Value}{v:Value}(ha:bR P n f args v=true){h:af}{V:KQ}(hk:V v h):av P f args h V:=by
 intro φ w args' hf hr;have hfl:¬yes false:=by simp[yes]
 simp only[bR,Bool.and_eq_true]at ha;obtain⟨⟨ha1,hv⟩,ha2⟩:=ha;have:=G6 ha1 hf;subst this;have hc:=gP (good:=yes) (w:=w) hfl (EP (P:=P)) (DF (good:=yes) hfl EP (uE hfl EP hm) n).1 (G5 ha1) (HR.start w) ha2;refine⟨hc.1,Calls.mono hc.2 ?_⟩;rintro e w' ⟨φ',v1,v',h',rfl,g1,g2,g3,g4⟩;have e1:=EH 8 _ _ g1;subst e1;have hfr:∀B,B<w.heap.size->w'.heap[B]? = w.heap[B]?:=λB hB=>g4.CJ B hB λb pl e=>by cases e
 refine⟨φ,v1,v',h,rfl,hk,by rw[qR hv g2];exact EW hv,?_,?_⟩
 .exact⟨λb o pl h1 h2=>by rw[hfr _ (hr.dom b pl h2).2];exact hr.obj b o pl h1 h2,λb pl h1=>⟨(hr.dom b pl h1).1,Nat.lt_of_lt_of_le (hr.dom b pl h1).2 g4.size⟩,hr.keys,hr.RO,hr.inj,hr.lo⟩
 .exact⟨Sub.refl φ,λb pl e e'=>(by rw[e]at e';cases e'),Nat.le_refl _,g4.size,λB hB _=>hfr B hB,λ_ _ _=>rfl,g4.tape,g4.os,g4.output,λ_ _=>trivial,rfl,λ_ _=>rfl,λb o pl _ _ _ _ hB=>hfr _ hB,g4.dr⟩
def EX(v:Value)(_h:af):Prop:=v=.bool true
def Has(ob:Option bP)(o:Nat)(ws:List Value):Prop:=
 ∃n c e,(ob=some (.ro n c e)\/∃op,ob=some (.cells n c e op))/\o+ws.length<=n/\∀j v,ws[j]? = some v->c.get (o+j)=some v
theorem Has.cells{vs:List Value}{e:TypeId}{op:Bool}{o k:Nat}(h:o+k<=vs.length):Has (some (aj vs e op)) o ((vs.drop o).take k):=by
 refine⟨vs.length,lay vs .nil 0,e,.inr ⟨op,rfl⟩,by simp;omega,λj v hj=>?_⟩;rw[p_];rw[List.getElem?_take]at hj;split at hj
 .simpa[List.getElem?_drop]using hj
 .cases hj
theorem Has.all{vs:List Value}{e:TypeId}{op:Bool}:Has (some (aj vs e op)) 0 vs:=by
 have:=Has.cells (vs:=vs) (e:=e) (op:=op) (o:=0) (k:=vs.length) X1;simpa using this
theorem Has.sub{ob:Option bP}{o:Nat}{ws:List Value}(h:Has ob o ws)(i k:Nat)(hk:i+k<=ws.length):Has ob (o+i) ((ws.drop i).take k):=by
 obtain⟨n,c,e,h1,h2,h3⟩:=h;refine⟨n,c,e,h1,by simp;omega,λj v hj=>?_⟩;rw[List.getElem?_take]at hj;split at hj
 .rw[List.getElem?_drop]at hj;rw[Nat.add_assoc];exact h3 _ _ hj
 .cases hj
theorem eU{ob:Option bP}{o:Nat}{ws:List Value}(h:Has ob o ws)(j:Nat)(V:Value->β):j<ws.length->w8 fl ob (o+j) V=Lr fl ws[j]? V:=by
 intro hj;obtain⟨n,c,e,h1,h2,h3⟩:=h;have hle:Nat.ble (Nat.succ (o+j)) n=true:=Nat.ble_eq_true_of_le X1;have hv:=h3 j _ (List.getElem?_eq_getElem hj);rw[List.getElem?_eq_getElem hj];rcases h1 with rfl|⟨op,rfl⟩<;>simp only[w8,hle,hv,Lr]
theorem DO(c:T Value)(ws:List Value)(off:Nat):∀(n:Nat)(acc:List Value)(V:List Value->β),n<=ws.length->(∀j v,ws[j]? = some v->c.get (off+j)=some v)->nr fl c off n acc V=V (ws.take n++acc):=by
 intro n
 induction n with
 |zero=>intro acc V _ _;simp;rfl
 |succ n ih=>
  intro acc V h hc
  show Option.rec (motive:=λ_=>β) fl (λv=>nr fl c off n (v::acc) V) (c.get (Nat.add off n))=_
  rw[show Nat.add off n=off+n from rfl,hc n _ (List.getElem?_eq_getElem X1)]
  show nr fl c off n (ws[n]::acc) V=_
  rw[ih _ _ X1 hc,List.take_succ_eq_append_getElem X1];simp only[List.append_assoc,List.cons_append,List.nil_append]
theorem lD{ob:Option bP}{o:Nat}{ws:List Value}(h:Has ob o ws)(s:Nat)(V:List Value->β)(hs:s=ws.length):xI fl ob o s V=V ws:=by
 obtain⟨n,c,e,h1,h2,h3⟩:=h;subst hs;have hle:Nat.ble (Nat.add o ws.length) n=true:=Nat.ble_eq_true_of_le h2;rcases h1 with rfl|⟨op,rfl⟩<;>simp only[xI,hle]<;>rw[DO c ws o _ _ _ (Nat.le_refl _) h3]<;>simp
theorem lW(h:af)(size n:Nat)(x:Value)(V:List Value->β)(h0:n*size=0):fe fl h size n x V=V []:=by
 unfold fe;rw[show Nat.mul n size=0 from h0]
theorem kN{h:af}{b o:Nat}{ws:List Value}(hh:Has (h.bl.get b) o ws)(size n l c:Nat)(V:List Value->β)(hn:n*size=ws.length):fe fl h size n (.slice (some ⟨b,o,none⟩) l c) V=V ws:=by
 unfold fe;rw[show Nat.mul n size=ws.length from hn];cases hw:ws with
 |nil=>rfl
 |cons w0 ws0=>
  obtain⟨nn,cc,e,h1,h2,h3⟩:=hh;rw[hw]at h2 h3;have hle:Nat.ble (Nat.add o (Nat.succ ws0.length)) nn=true:=Nat.ble_eq_true_of_le (by simpa using h2);have fin:nr fl cc o (Nat.succ ws0.length) [] V=V (w0::ws0):=by
   rw[DO cc (w0::ws0) o _ _ _ (by simp) h3]
   congr 1
   simp
  rcases h1 with h1|⟨op,h1⟩<;>simp only[List.length_cons,h1,hle]<;>exact fin
section
variable {α:Type}(enc:α->List Value)(s:Nat)
def Sl(h:af)(v:Value)(L:List α):Prop:=
 ∃x cap,v=.slice x L.length cap/\(L≠[]->∃b o,x=some ⟨b,o,none⟩/\b<h.nx/\Has (h.bl.get b) o (L.flatMap enc))
variable {enc s}
theorem Sl.le{h h':af}{v:Value}{L:List α}(hs:Sl enc h v L)(hl:Le h h'):Sl enc h' v L:=by
 obtain⟨x,cap,h1,h2⟩:=hs;refine⟨x,cap,h1,λhn=>?_⟩;obtain⟨b,o,e1,e2,e3⟩:=h2 hn;exact⟨b,o,e1,Nat.lt_of_lt_of_le e2 hl.nx,by rw[hl.get b e2];exact e3⟩
theorem Sl.nil(h:af)(x:Option Addr)(cap:Nat):Sl enc h (.slice x 0 cap) ([]:List α):=⟨x,cap,rfl,λhn=>absurd rfl hn⟩
theorem bH(he:∀a:α,(enc a).length=s)(L:List α):(L.flatMap enc).length=L.length*s:=by
 induction L with
 |nil=>simp
 |cons a L ih=>simp[he,ih,Nat.succ_mul,Nat.add_comm]
theorem zO(he:∀a:α,(enc a).length=s):∀(L:List α)(i:Nat)(hi:i<L.length),((L.flatMap enc).drop (i*s)).take s=enc L[i]:=by
 intro L
 induction L with
 |nil=>intro i hi;simp at hi
 |cons a L ih=>
  intro i hi;cases i with
  |zero=>simp[List.take_append,he]
  |succ i=>
   have:=ih i (by simpa using hi);simp only[List.flatMap_cons,List.getElem_cons_succ];rw[<-this,List.drop_append,show(enc a).drop ((i+1)*s)=[]from List.drop_eq_nil_of_le (by rw[he,Nat.succ_mul];omega),he,show(i+1)*s-s=i*s by rw[Nat.succ_mul];omega];rfl
theorem Sl.elem{h:af}{v:Value}{L:List α}(hs:Sl enc h v L)(he:∀a:α,(enc a).length=s)(i:Nat)(hi:i<L.length):∃b o cap,v=.slice (some ⟨b,o,none⟩) L.length cap/\b<h.nx/\Has (h.bl.get b) (o+i*s) (enc L[i]):=by
 obtain⟨x,cap,h1,h2⟩:=hs;obtain⟨b,o,e1,e2,e3⟩:=h2 (by intro e;rw[e]at hi;simp at hi);subst e1;refine⟨b,o,cap,h1,e2,?_⟩;have hle:i*s+s<=(L.flatMap enc).length:=by
  rw[bH he,<-Nat.succ_mul];exact Nat.mul_le_mul_right _ hi
 have:=e3.sub (i*s) s hle
 rwa [zO he L i hi]at this
theorem Sl.len{h:af}{v:Value}{L:List α}(hs:Sl enc h v L)(V:X3 β)(h':af):bU fl v h' V=V (.int .i64 (L.length:Int)) h':=by
 obtain⟨x,cap,rfl,_⟩:=hs;rfl
theorem Sl.at{h:af}{v:Value}{L:List α}(hs:Sl enc h v L)(he:∀a:α,(enc a).length=s)(i:Nat)(hi:i<L.length):∃b o,b<h.nx/\Has (h.bl.get b) o (enc L[i])/\∀(β:Type)(fl:β)(h':af)(V:X3 β),aO fl s v (.int .i64 (i:Int)) h' V=V (.pointer (some ⟨b,o,none⟩)) h':=by
 obtain⟨b,o,cap,rfl,h1,h2⟩:=hs.elem he i hi;exact⟨b,o+i*s,h1,h2,λβ fl h' V=>bB s b o _ cap i h' V hi⟩
theorem Sl.ld{h:af}{v:Value}{L:List α}(hs:Sl enc h v L)(he:∀a:α,(enc a).length=s)(i:Nat){p:α}(hp:L[i]? = some p):∃b o,b<h.nx/\(∀(β:Type)(fl:β)(h':af)(V:X3 β),aO fl s v (.int .i64 (i:Int)) h' V=V (.pointer (some ⟨b,o,none⟩)) h')/\
   (∀(β:Type)(fl:β)(V:List Value->β),xI fl (h.bl.get b) o s V=V (enc p))/\Has (h.bl.get b) o (enc p):=by
 obtain⟨hi,rfl⟩:=List.getElem?_eq_some_iff.1 hp;obtain⟨b,o,h1,h2,h3⟩:=hs.at he i hi;exact⟨b,o,h1,h3,λβ fl V=>lD h2 s V (he _).symm,h2⟩
theorem Sl.first{h:af}{v:Value}{L:List α}(hs:Sl enc h v L)(he:∀a:α,(enc a).length=s)(V:List Value->β):fe fl h s L.length v V=V (L.flatMap enc):=by
 by_cases hn:L=[]
 .subst hn;rw[lW _ _ _ _ _ (by simp)];rfl
 .obtain⟨x,cap,rfl,h2⟩:=hs;obtain⟨b,o,rfl,e2,e3⟩:=h2 hn;exact kN e3 _ _ _ _ _ (bH he L).symm
theorem Sl.new{h:af}{b:Nat}{L:List α}{e:TypeId}{op:Bool}(hb:b<h.nx)(hg:h.bl.get b=some (aj (L.flatMap enc) e op))(cap:Nat):Sl enc h (.slice (some ⟨b,0,none⟩) L.length cap) L:=
 ⟨_,cap,rfl,λ_=>⟨b,0,rfl,hb,by rw[hg];exact Has.all⟩⟩
variable (enc)
def Own(a:af)(e:TypeId)(h:af)(v:Value)(L:List α):Prop:=
 (L=[]/\(v=.slice none 0 0\/∃b o,v=.slice (some ⟨b,o,none⟩) 0 0))\/∃b,v=.slice (some ⟨b,0,none⟩) L.length aZ/\a.nx<=b/\b<h.nx/\h.lo<=b/\h.bl.get b=some (aj (L.flatMap enc) e true)
variable {enc}
theorem Own.sl{a h:af}{e:TypeId}{v:Value}{L:List α}(ho:Own enc a e h v L):Sl enc h v L:=by
 rcases ho with⟨rfl,rfl|⟨b,o,rfl⟩⟩|⟨b,rfl,h1,h2,h3,h4⟩
 .exact Sl.nil _ _ _
 .exact Sl.nil _ _ _
 .exact Sl.new h2 h4 _
theorem Own.le{a h h':af}{e:TypeId}{v:Value}{L:List α}(ho:Own enc a e h v L)(hl:Le h h'):Own enc a e h' v L:=by
 rcases ho with ho|⟨b,h0,h1,h2,h3,h4⟩
 .exact .inl ho
 .exact .inr ⟨b,h0,h1,Nat.lt_of_lt_of_le h2 hl.nx,by rw[hl.lo];exact h3,by rw[hl.get b h2];exact h4⟩
theorem append_nil{h:af}{e:TypeId}{z:List Value}{v x:Value}(hx:Sl enc h x ([]:List α))(hv:∃b n c,v=.slice b n c)(V:X3 β):cg fl e s z false v x h V=V v h:=by
 obtain⟨b,n,c,rfl⟩:=hv;obtain⟨y,cap,rfl,_⟩:=hx;simp only[cg,oz,List.length_nil];rw[lW _ _ _ _ _ (by simp)]
set_option maxRecDepth 20000 in
theorem kO{a h:af}{e:TypeId}{z:List Value}{v x:Value}{L M:List α}(he:∀a:α,(enc a).length=s)(hone:∀a:α,(enc a).all ef=true)(hs0:0<s)(hs1:s<=100)(ho:Own enc a e h v L)(hx:Sl enc h x M)(hle:Le a h)(hb:L.length+M.length<=1000000)(hal:h.lo<=h.nx)(V:KQ)(hk:∀v' h',Own enc a e h' v' (L++M)->Le a h'->h'.nx<=h.nx+1->h.nx<=h'.nx->V v' h'):cg False e s z false v x h V:=by
 by_cases hM:M=[]
 .subst hM;rw[append_nil hx (by rcases ho with⟨rfl,rfl|⟨b,o,rfl⟩⟩|⟨b,rfl,_⟩<;>exact⟨_,_,_,rfl⟩)];exact hk v h (by simpa using ho) hle (Nat.le_succ _) (Nat.le_refl _)
 .obtain⟨m,hm⟩:∃m,M.length=m+1:=⟨M.length-1,by have:=List.length_pos_iff.2 hM;omega⟩
  have hfl:=bH (enc:=enc) he;have kP:=hx.first (β:=Prop) (fl:=False) he;obtain⟨y,cap,rfl,h2⟩:=hx;have hml:∀K:List α,K.length<=1000000->(K.flatMap enc).length<=1000000000000:=λK hK=>by
   rw[hfl];have:=Nat.mul_le_mul hK hs1;omega
  have fresh:∀(hh:af)(ws:List Value),ws=(L++M).flatMap enc->Le a hh->hh.nx=h.nx->hh.lo=h.lo->dV False ws e true hh λb h'=>V (.slice (some ⟨b,0,none⟩) (L.length+M.length) aZ) h':=by
   intro hh ws hw hah yE hlo;subst hw;unfold dV;rw[jK _ _ _ _ (hml _ (by simp;omega)),dO];refine hk _ _ (.inr ⟨hh.nx,by simp,hah.nx,Nat.lt_succ_self _,by show hh.lo<=_;omega,T.ay _ _ _⟩) (hah.new _) (by show hh.nx+1<=_;omega) (by show h.nx<=hh.nx+1;omega)
  rcases ho with⟨rfl,hv⟩|⟨b,rfl,h3,h4,h5,h6⟩
  .have hF:=fresh h (M.flatMap enc) (by simp) hle rfl rfl;simp only[List.length_nil,Nat.zero_add]at hF;rcases hv with rfl|⟨b,o,rfl⟩
   .unfold cg oz;simp only;rw[kP];simp only[hm,cC];rw[show Nat.ble (Nat.add 0 (m+1)) 1000000000=true from Nat.ble_eq_true_of_le (by show 0+(m+1)<=_;omega)];rw[hm]at hF;have e1:Nat.add 0 (m+1)=m+1:=by show 0+(m+1)=_;omega
    rw[e1];exact hF
   .unfold cg oz;simp only;rw[kP];simp only[hm,cC];have e1:Nat.add 0 (m+1)=m+1:=by show 0+(m+1)=_;omega
    rw[e1,show Nat.ble (m+1) 1000000000=true from Nat.ble_eq_true_of_le X1];rw[hm]at hF
    show fe False h s 0 _ _
    rw[lW _ _ _ _ _ (by simp)];exact hF
  .unfold cg oz;simp only;rw[kP];simp only[hm,cC];have e1:Nat.add L.length (m+1)=L.length+(m+1):=rfl;rw[e1,show Nat.ble (L.length+(m+1)) 1000000000=true from Nat.ble_eq_true_of_le X1];have e2:Nat.beq aZ ig=false:=by decide
   have e3:Nat.beq aZ aZ=true:=Nat.beq_refl _;simp only[e2,e3,h6];have e4:Nat.ble (Nat.add 0 (Nat.mul (L.length+(m+1)) s)) (L.flatMap enc).length=false:=by
    rw[hfl];cases Xv:Nat.ble (Nat.add 0 (Nat.mul (L.length+(m+1)) s)) (L.length*s)with
    |false=>rfl
    |true=>
     have h7:0+(L.length+(m+1))*s<=L.length*s:=Nat.le_of_ble_eq_true Xv;rw[Nat.add_mul,Nat.succ_mul]at h7;omega
   have e5:(M.flatMap enc).all ef=true:=by
    rw[List.all_flatMap];simp only[List.all_eq_true];intro x _;exact List.all_eq_true.1 (hone x)
   simp only[aj,Nat.beq_refl,e4,e5,Bool.and_self];have hh:Has (h.bl.get b) 0 (L.flatMap enc):=by rw[h6];exact Has.all
   rw[kN hh s L.length _ _ _ (hfl L).symm,bG _ _ _ _ h5];have hF:=fresh ⟨h.nx,h.bl.a_ b (.dead (L.flatMap enc).length e),h.lo⟩ (L.flatMap enc++M.flatMap enc) (by simp) (hle.set h3 _) rfl rfl;rw[hm]at hF;exact hF
end
end Go.Vai
namespace Go.Vai
open Go
theorem DP(zs:List Value):bx zs 1=zs:=by simp[bx]
theorem yJ(w:Bool):az undef w=false:=by cases w<;>rfl
theorem SB(a:Value)(l:List Value):ah (a::l) 0=a:=id rfl
theorem SC(a:Value)(l:List Value)(n:Nat):ah (a::l) (n+1)=ah l n:=id rfl
theorem s_(l:List Value):(Value.cells (.agg ⟨l⟩)).toList=l:=id rfl
theorem ta(k:IntKind)(n:Int):(Value.cells (.int k n)).toList=[.int k n]:=id rfl
theorem qS(b:Bool):(Value.cells (.bool b)).toList=[.bool b]:=id rfl
theorem td(a:Option Addr):(Value.cells (.pointer a)).toList=[.pointer a]:=id rfl
theorem oI(a:Option Addr)(n c:Nat):(Value.cells (.slice a n c)).toList=[.slice a n c]:=id rfl
theorem Np(k:IntKind)(n:Int):ef (.int k n)=true:=id rfl
theorem G7(b:Bool):ef (.bool b)=true:=id rfl
theorem Nq(s:ByteArray):ef (.string s)=true:=id rfl
theorem Nr(a:Option Addr):ef (.pointer a)=true:=id rfl
theorem Ns(a:Option Addr)(n c:Nat):ef (.slice a n c)=true:=id rfl
theorem Nt(a:Option Nat):ef (.map a)=true:=id rfl
theorem Nu(f:Fn)(a b:Array Value):ef (.func f a b)=true:=id rfl
theorem Nv(t:TypeId)(v:Value):ef (.iface t v)=true:=id rfl
theorem r8(vs ws:List Value)(h:ws.length=vs.length):over vs 0 ws=ws:=by simp[over,h]
variable {β:Type}{fl:β}
theorem SF:∀(new old:List Value)(V:List Value->β),new.length<=old.length->u5 fl new old V=V (over old 0 new):=by
 intro new
 induction new with
 |nil=>intro old V _;rw[GV];cases old<;>rfl
 |cons v new ih=>
  intro old V h;cases old with
  |nil=>simp at h
  |cons o old=>
   simp only[u5];rw[ih old _ (by simpa using h)];simp[over]
theorem Xw(new:List Value):∀(o:Nat)(old:List Value)(V:List Value->β),o+new.length<=old.length->dx fl new o old V=V (over old o new):=by
 intro o
 induction o with
 |zero=>
  intro old V h;have:dx fl new 0 old V=u5 fl new old V:=by cases old<;>rfl
  rw[this,SF _ _ _ (by simpa using h)]
 |succ o ih=>
  intro old V h;cases old with
  |nil=>simp at h
  |cons v old=>
   simp only[dx];rw[ih old _ (by simp at h;omega)];simp[over,Nat.add_right_comm]
theorem qd(cs:List Value)(V:List Value->β):bA fl [] [] cs V=V cs:=id rfl
theorem m_(off size:Nat)(ps:List (Nat × Nat))(v:Value)(vs cs:List Value)(V:List Value->β)(h1:v.cells.toList.length=size)(h2:off+size<=cs.length):bA fl ((off,size)::ps) (v::vs) cs V=bA fl ps vs (over cs off v.cells.toList) V:=by
 subst h1
 show(match Nat.beq v.cells.toList.length v.cells.toList.length with|false=>fl|true=>dx fl v.cells.toList off cs λcs=>bA fl ps vs cs V)=_
 rw[Nat.beq_refl];simp only;rw[Xw _ _ _ _ h2]
theorem SH(size:Nat)(v:Value)(cs:List Value)(V:List Value->β)(h1:v.cells.toList.length=size)(h2:cs.length=size):bA fl [(0,size)] [v] cs V=V v.cells.toList:=by
 rw[m_ _ _ _ _ _ _ _ h1 X1,qd,r8 _ _ X1]
end Go.Vai

namespace Go.Vai
open Go
section
variable {β:Type}{fl:β}{P:Program}{h h':af}{V:X3 β}{a a' b b' c c':Value}
@[congr] theorem abX{op:BinOp}{t:TypeId}{cn gd:Bool}(ha:a=a')(hb:b=b'):aI fl P op t cn gd a b h V=aI fl P op t cn gd a' b' h V:=by rw[ha,hb]
@[congr] theorem ahy{op:UnOp}(ha:a=a'):jh fl op a h V=jh fl op a' h V:=by rw[ha]
@[congr] theorem aae{k:IntKind}(ha:a=a'):ny fl k a h V=ny fl k a' h V:=by rw[ha]
@[congr] theorem aaf(hc:c=c')(ha:a=a')(hb:b=b'):bq fl c a b h V=bq fl c' a' b' h V:=by rw[ha,hb,hc]
@[congr] theorem abY(ha:a=a'):aW fl a h V=aW fl a' h V:=by rw[ha]
@[congr] theorem PG{o:Nat}(ha:a=a'):aa fl o a h V=aa fl o a' h V:=by rw[ha]
@[congr] theorem PI{s:Nat}(ha:a=a')(hb:b=b'):aO fl s a b h V=aO fl s a' b' h V:=by rw[ha,hb]
@[congr] theorem PJ{n s:Nat}(ha:a=a')(hb:b=b'):nu fl n s a b h V=nu fl n s a' b' h V:=by rw[ha,hb]
@[congr] theorem Xx{g:Bool}{s o:Nat}(ha:a=a'):uv fl g s o a h V=uv fl g s o a' h V:=by rw[ha]
@[congr] theorem Xy{g:Bool}{n s:Nat}(ha:a=a')(hb:b=b'):Al fl g n s a b h V=Al fl g n s a' b' h V:=by rw[ha,hb]
@[congr] theorem Xz(ha:a=a')(hb:b=b'):Am fl a b h V=Am fl a' b' h V:=by rw[ha,hb]
@[congr] theorem SI{i:Nat}(ha:a=a'):aK fl i a h V=aK fl i a' h V:=by rw[ha]
@[congr] theorem aag(ha:a=a'):aF fl a h V=aF fl a' h V:=by rw[ha]
@[congr] theorem aah{s:Nat}(ha:a=a'):aL fl s a h V=aL fl s a' h V:=by rw[ha]
@[congr] theorem XB{s:Nat}(ha:a=a')(hb:b=b'):aT fl s a b h V=aT fl s a' b' h V:=by rw[ha,hb]
@[congr] theorem ahz{o o':Option bP}{i:Nat}{k:Value→β}(ho:o=o'):w8 fl o i k=w8 fl o' i k:=by rw[ho]
@[congr] theorem ahA{o o':Option bP}{i s:Nat}{k:List Value→β}(ho:o=o'):xI fl o i s k=xI fl o' i s k:=by rw[ho]
@[congr] theorem ahB{o o':Option bP}{s i j:Nat}{ws Ru:List Value}{k:af→β}(ho:o=o')(hw:ws=Ru)(hh:h=h'):Xu fl o s i j ws h k=Xu fl o' s i j Ru h' k:=by rw[ho,hw,hh]
@[congr] theorem abZ{o o':Option Value}{k:Value→β}(ho:o=o'):Lr fl o k=Lr fl o' k:=by rw[ho]
@[congr] theorem SK{o:bP}{k:Nat→af→β}(hh:h=h'):aH fl o h k=aH fl o h' k:=by rw[hh]
@[congr] theorem SM{i:Nat}{o:bP}{k:af→β}(hh:h=h'):setBlock fl i o h k=setBlock fl i o h' k:=by rw[hh]
@[congr] theorem XC{ws Ru:List Value}{e:TypeId}{g:Bool}{k:bP→β}(hw:ws=Ru):aM fl ws e g k=aM fl Ru e g k:=by rw[hw]
@[congr] theorem SN{ws Ru:List Value}{e:TypeId}{g:Bool}{k:Nat→af→β}(hw:ws=Ru)(hh:h=h'):dV fl ws e g h k=dV fl Ru e g h' k:=by rw[hw,hh]
@[congr] theorem aai{ps:List (Nat × Nat)}{vs vs' cs cs':List Value}{k:List Value→β}(hv:vs=vs')(hc:cs=cs'):bA fl ps vs cs k=bA fl ps vs' cs' k:=by rw[hv,hc]
@[congr] theorem XD{e s:Nat}{l u m l' u' m':Option Value}(ha:a=a')(hl:l=l')(hu:u=u')(hm:m=m'):sliceB fl e s a l u m h V=sliceB fl e s a' l' u' m' h V:=by rw[ha,hl,hu,hm]
@[congr] theorem XE{l u m l' u' m':Option Value}(ha:a=a')(hl:l=l')(hu:u=u')(hm:m=m'):Aj fl a l u m h V=Aj fl a' l' u' m' h V:=by rw[ha,hl,hu,hm]
@[congr] theorem WB{e s:Nat}{z:List Value}{g:Bool}(ha:a=a')(hb:b=b')(hh:h=h'):cg fl e s z g a b h V=cg fl e s z g a' b' h' V:=by rw[ha,hb,hh]
@[congr] theorem aaj{s:Nat}(ha:a=a')(hb:b=b'):F_ fl s a b h V=F_ fl s a' b' h V:=by rw[ha,hb]
@[congr] theorem XG{z:List Value}(ha:a=a'):mh fl z a h V=mh fl z a' h V:=by rw[ha]
@[congr] theorem XH(ha:a=a'):bU fl a h V=bU fl a' h V:=by rw[ha]
@[congr] theorem XJ(ha:a=a'):Ak fl a h V=Ak fl a' h V:=by rw[ha]
@[congr] theorem XK(ha:a=a'):qK fl a h V=qK fl a' h V:=by rw[ha]
@[congr] theorem WC{t:TypeId}{z:Value}{g:Bool}(ha:a=a')(hb:b=b'):cq fl P t z g a b h V=cq fl P t z g a' b' h V:=by rw[ha,hb]
@[congr] theorem PK{t:TypeId}(ha:a=a')(hb:b=b')(hc:c=c'):bQ fl P t a b c h V=bQ fl P t a' b' c' h V:=by rw[ha,hb,hc]
@[congr] theorem Rv{t:TypeId}{z:Value}(ha:a=a')(hb:b=b'):h_ fl P t z a b h V=h_ fl P t z a' b' h V:=by rw[ha,hb]
@[congr] theorem Nw(ha:a=a')(hb:b=b')(hc:c=c'):eP fl a b c h V=eP fl a' b' c' h V:=by rw[ha,hb,hc]
@[congr] theorem WD{t:TypeId}(ha:a=a')(hb:b=b'):jW fl P t a b h V=jW fl P t a' b' h V:=by rw[ha,hb]
@[congr] theorem XL(ha:a=a'):oW fl a h V=oW fl a' h V:=by rw[ha]
@[congr] theorem aak{f:β→β→β}(ha:a=a'):pP fl f a h V=pP fl f a' h V:=by rw[ha]
@[congr] theorem XM(ha:a=a'):mj fl a h V=mj fl a' h V:=by rw[ha]
@[congr] theorem Nx{t:TypeId}{z:Value}{g:Bool}(ha:a=a'):fO fl t z g a h V=fO fl t z g a' h V:=by rw[ha]
@[congr] theorem ab0(ha:a=a')(hb:b=b'):RF fl a b h V=RF fl a' b' h V:=by rw[ha,hb]
@[congr] theorem ab1(ha:a=a')(hb:b=b'):En fl a b h V=En fl a' b' h V:=by rw[ha,hb]
end
section
variable {P:Program}{h h':af}{V:KQ}
@[congr] theorem ahC{o o':Option Value}(ho:o=o'):aJ o h V=aJ o' h V:=by rw[ho]
@[congr] theorem ahD{o o':Option (bP × (Nat→Value))}(ho:o=o'):zN o h V=zN o' h V:=by rw[ho]
@[congr] theorem XN{b b':Bool}{f:(Value→af→Prop)→Prop}(hb:b=b'):au b f h V=au b' f h V:=by rw[hb]
@[congr] theorem aal{b b':Bool}{p:Prop}(hb:b=b'):bV b p=bV b' p:=by rw[hb]
@[congr] theorem aam{v v':Value}{A B:Prop}(hv:v=v'):aS v A B=aS v' A B:=by rw[hv]
@[congr] theorem aan{A:(List Value→af→Prop)→Prop}{B:List Value→af→Prop}:cV A B=cV A B:=rfl
@[congr] theorem aao{l l':List Value}{body:List Value→af→(List Value→af→Prop)→Prop}(hh:h=h'):ej l h body=ej l h' body:=by rw[hh]
@[congr] theorem aap{f:FuncId}{l l':List Value}(hl:l=l')(hh:h=h'):av P f l h V=av P f l' h' V:=by rw[hl,hh]
@[congr] theorem aaq{v v':Value}{l l':List Value}(hv:v=v')(hl:l=l')(hh:h=h'):gu P v l h V=gu P v' l' h' V:=by rw[hv,hl,hh]
@[congr] theorem aar{n:String}{v v':Value}{l l':List Value}(hv:v=v')(hl:l=l')(hh:h=h'):kI P n v l h V=kI P n v' l' h' V:=by rw[hv,hl,hh]
end
end Go.Vai

namespace Go.Vai
open Go Go.RowKit Go.WideShapes Go.ChangeShapes
variable {P:Program}
theorem SO{φ φ':ff}{h h':af}{w w':World}(hx:Ext φ φ' h h' w w')(hro:∀b pl,φ b=some pl->b<h.lo/\∃o,h.bl.get b=some o/\o.live):Below w.heap.size w w':=by
 refine⟨hx.os,hx.tape,hx.output,hx.size,λB hB=>?_⟩;by_cases he:∃b pl,φ b=some pl/\pl.B=B
 .obtain⟨b,pl,h1,rfl⟩:=he;obtain⟨h2,o,h3,h4⟩:=hro b pl h1;exact hx.KF b o pl h2 h3 h4 h1 hB
 .exact hx.CJ B hB λb pl h1 h2=>he ⟨b,pl,h1,h2⟩
theorem XP{f:FuncId}{args args':List Value}{φ:ff}{h:af}{w:World}(hc:av P f args h EX)(ha:F2 (VR φ) args args')(hr:HR P φ h w)(hro:∀b pl,φ b=some pl->b<h.lo/\∃o,h.bl.get b=some o/\o.live):Calls P f args'.toArray w λe w'=>e=.returned (.bool true)/\Below w.heap.size w w':=by
 refine Calls.mono (hc φ w args' ha hr).2 ?_;rintro e w' ⟨φ',v,v',h',rfl,g1,g2,g3,g4⟩;have g1:v=.bool true:=g1;subst g1;cases g2;exact⟨rfl,SO g4 hro⟩
section
variable {α:Type}{dP:α->List Value}{s:Nat}
def mH(dP:α->List Value)(w:World)(v:Value)(L:List α):Prop:=
 (L=[]/\(v=.slice none 0 0\/∃a cap,v=.slice (some a) 0 cap))\/
 ∃B o cap C e fz,v=.slice (some ⟨B,o,none⟩) L.length cap/\L.length<=cap/\cap<=maxLen/\w.heap[B]? = some (.cells C e fz)/\o+(L.flatMap dP).length<=C.size/\∀j u,(L.flatMap dP)[j]? = some u->C[o+j]? = some u
theorem G8{n:Nat}{p:Nat->α->Prop}(h:∀i,i<n->∃x,p i x):∃L:List α,L.length=n/\∀i a,L[i]? = some a->p i a:=by
 induction n with
 |zero=>exact⟨[],rfl,λi a e=>by simp at e⟩
 |succ n ih=>
  obtain⟨L,h1,h2⟩:=ih λi hi=>h i (Nat.lt_succ_of_lt hi);obtain⟨a,ha⟩:=h n (Nat.lt_succ_self n);refine⟨L++[a],by simp[h1],λi b e=>?_⟩;rcases Nat.lt_or_ge i n with hi|hi
  .rw[List.getElem?_append_left X1]at e;exact h2 i b e
  ·have:i=n:=by
    have:=(List.getElem?_eq_some_iff.1 e).1;simp[h1]at this;omega
   subst this;rw[List.getElem?_append_right X1,h1]at e;simp at e;subst e;exact ha
theorem EY(he:∀a:α,(dP a).length=s)(hs:0<s):∀(L:List α)(j:Nat)(u:Value),(L.flatMap dP)[j]? = some u->∃a,L[j / s]? = some a/\(dP a)[j % s]? = some u:=by
 intro L
 induction L with
 |nil=>intro j u e;simp at e
 |cons a L ih=>
  intro j u e;simp only[List.flatMap_cons]at e;rcases Nat.lt_or_ge j s with hj|hj
  .rw[List.getElem?_append_left (by rw[he];exact hj)]at e;rw[Nat.div_eq_of_lt hj,Nat.mod_eq_of_lt hj];exact⟨a,rfl,e⟩
  .rw[List.getElem?_append_right (by rw[he];exact hj),he]at e;obtain⟨b,h1,h2⟩:=ih (j-s) u e;refine⟨b,?_,?_⟩
   .rw[Nat.div_eq_sub_div hs hj];simpa using h1
   .rw[Nat.mod_eq_sub_mod hj];exact h2
theorem SP{H:Type}{enc:TypeId × Value->H}{w:World}{t e:TypeId}{fuel:Nat}{v:Value}{x:DataW H × List MemPlace}(he:∀a:α,(dP a).length=s)(hs:0<s)(ht:P.underlying t=some (.slice e))(hc:P.cellsOf e=s)(Lu:∀(n:Nat)(cs:List Value)(d:DataW H × List MemPlace),cs.length=s->DataW.trod enc P w 0 (λ_=>true) true n e cs=some d->∃a:α,cs=dP a)(h:DataW.trod enc P w 0 (λ_=>true) true fuel t [v]=some x):∃L:List α,mH dP w v L:=by
 rcases Go.Deep.open_slice ht h with⟨h1,_⟩|⟨a,len,cap,m,n,D,Pl,h1,hb,hl,hm,hmm,hx,hi⟩
 .cases h1;exact⟨[],.inl ⟨rfl,.inl rfl⟩⟩
 .cases h1;simp only[if_true]at hmm;subst hmm;by_cases hlen:len=0
  .subst hlen;exact⟨[],.inl ⟨rfl,.inr ⟨a,_,rfl⟩⟩⟩
  ·have hel:∀i,i<len->∃p:α,∀j u,(dP p)[j]? = some u->w.cell? (a.add (i*s+j))=some u:=by
    intro i hil;obtain⟨cs,h2,h3⟩:=hi i X1;rw[hc]at h2;obtain⟨_,h4,h5⟩:=World.cells?_some h2;obtain⟨p,rfl⟩:=Lu n cs _ h4 h3;refine⟨p,λj u hj=>?_⟩;have hjs:j<s:=by have:=(List.getElem?_eq_some_iff.1 hj).1;rwa [he]at this
    have:=h5 j hjs;rw[Go.Deep.add_add]at this;rw[this,hj]
   obtain⟨L,hL,hp⟩:=G8 hel;have hcell:∀j u,(L.flatMap dP)[j]? = some u->w.cell? (a.add j)=some u:=by
    intro j u hj;obtain⟨p,g1,g2⟩:=EY he hs L j u hj;have:=hp _ p g1 _ u g2
    rwa [Nat.mul_comm,Nat.div_add_mod]at this
   have hfl:=bH (enc:=dP) he L;have hpos:0<(L.flatMap dP).length:=by rw[hfl,hL];exact Nat.mul_pos X1 hs
   have h0:=hcell 0 _ (List.getElem?_eq_getElem hpos);have ha0:a.add 0=a:=by simp[Addr.add]
   rw[ha0]at h0;obtain⟨B,o,sp⟩:=a;unfold World.cell? at h0;split at h0<;>try contradiction
   rename_i C e' fz hC;cases sp with
   |some q=>simp at h0
   |none=>
    refine⟨L,.inr ⟨B,o,m,C,e',fz,by rw[hL],X1,hm,hC,?_,?_⟩⟩
    .have G9:=hcell ((L.flatMap dP).length-1) _ (List.getElem?_eq_getElem X1);have RQ:(⟨B,o,none⟩:Addr).add ((L.flatMap dP).length-1)=⟨B,o+((L.flatMap dP).length-1),none⟩:=by unfold Addr.add;split<;>simp_all
     rw[RQ]at G9;simp only[World.cell?,hC]at G9;have:=(Array.getElem?_eq_some_iff.1 G9).1;omega
    .intro j u hj;have hx:=hcell j u hj;have RQ:(⟨B,o,none⟩:Addr).add j=⟨B,o+j,none⟩:=by unfold Addr.add;split<;>simp_all
     rw[RQ]at hx;simpa[World.cell?,hC]using hx
def yK:af:=⟨0,.nil,0⟩
def aiH:ff:=λ_=>none
theorem SQ(w:World):HR P aiH yK w:=HR.start w
end
section
variable {H:Type}{enc:TypeId × Value->H}
theorem post_of_law{f:Func}{s:ChangeSpec}{apart fresh handsOn again:Bool}{W W':World}{args:Array Value}{v:Value}{ds gs:List (DataW H)}{before pa pv:List MemPlace}(hW:DataW.Whole enc P f.params.toList s.vars apart W args.toList ds gs before)(hres:∀(b:Nat)(sp:Nat->Bool)(hd:Bool),DataW.TrodAll enc P W' b sp hd f.resultTypes.toList (v.resultList f.resultTypes.size) (s.fn H (ds++gs)).results [])(hargs:∀sp:Nat->Bool,(∀p∈before,sp p.block=true)->DataW.TrodAll enc P W' 0 sp true f.params.toList args.toList (s.fn H (ds++gs)).args pa)(hvars:∀sp:Nat->Bool,(∀p∈before,sp p.block=true)->DataW.TrodVars enc P W' sp s.vars (s.fn H (ds++gs)).vars pv)(hps:before=pa++pv)(hb:Below W.heap.size W W')(hok:∀(j:Nat)(t:TypeId)(r:Value),f.resultTypes[j]? = some t->(v.resultList f.resultTypes.size)[j]? = some r->Value.okWide P W' .any 0 t r):s.post enc P f apart fresh handsOn again W args v W':=by
 have hlt:∀p∈before,p.block<W.heap.size:=λp hp=>hW.lt p hp;have hold:∀p∈before,(λb=>decide (b<W.heap.size)) p.block=true:=λp hp=>by simpa using hlt p hp
 refine⟨ds,gs,before,[],pa,pv,hW,hres _ _ _,hargs _ hold,hvars _ hold,World.keptBut_mono (λp hp=>⟨hp,?_⟩) (hb.frame (·∈before)),λ_=>?_⟩
 .rw[hps,List.mem_append]at hp;exact Or.inr hp
 .obtain⟨_,_,_,_,_,hz,hn⟩:=hW;refine⟨hok,_,_,([]++pa)++pv,⟨[]++pa,pv,trodAll_append (hargs _ (λ_ _=>rfl)) (hres _ _ _),hvars _ (λ_ _=>rfl),rfl,?_,?_⟩,?_⟩
  .intro b off hp;have hin:MemPlace.cell b off∈before:=by rw[hps];simpa using hp
   rw[hb.frozen (hlt _ hin)];exact hz b off hin
  .intro ha;have:=hn ha;rw[hps]at this;simpa using this
  .intro p hp _;rw[hps];simpa using hp
theorem arg_stays{t:TypeId}(hl:laidOutB P=true)(hr:P.readableRec t=true)(hrow:t<P.types.size){W W':World}{v:Value}{d:DataW H}{ps:List MemPlace}(h:DataW.Trod enc P W 0 (λ_=>true) true t v d ps)(hb:Below W.heap.size W W')(hlt:∀x∈ps,x.block<W.heap.size){sp:Nat->Bool}(hsp:∀x∈ps,sp x.block=true):DataW.Trod enc P W' 0 sp true t v d ps:=
 WideElems.Trod_stays hl hr hrow h (λx hx=>hb.same (hlt x hx)) (λx hx=>by simpa using hsp x hx)
end
end Go.Vai
namespace Go.Vai
open Go Go.RowKit
variable {P:Program}
theorem jL{f:FuncId}{args:List Value}{v:Value}(ha:args.all pL=true)(hv:pL v=true)(hc:av P f args yK λu _=>u=v){h:af}{V:KQ}(hk:V v h):av P f args h V:=by
 intro φ w args' hf hr;have:=G6 ha hf;subst this;obtain⟨c1,c2⟩:=hc aiH w args' (G5 ha) (SQ w);refine⟨c1,c2.mono ?_⟩;rintro e w' ⟨φ',v1,v',h',rfl,rfl,g2,g3,g4⟩;have hfr:∀B,B<w.heap.size->w'.heap[B]? = w.heap[B]?:=λB hB=>g4.CJ B hB λb pl e=>by cases e
 refine⟨φ,v1,v',h,rfl,hk,by rw[qR hv g2];exact EW hv,?_,?_⟩
 .exact⟨λb o pl h1 h2=>by rw[hfr _ (hr.dom b pl h2).2];exact hr.obj b o pl h1 h2,λb pl h1=>⟨(hr.dom b pl h1).1,Nat.lt_of_lt_of_le (hr.dom b pl h1).2 g4.size⟩,hr.keys,hr.RO,hr.inj,hr.lo⟩
 .exact⟨Sub.refl φ,λb pl e e'=>(by rw[e]at e';cases e'),Nat.le_refl _,g4.size,λB hB _=>hfr B hB,λ_ _ _=>rfl,g4.tape,g4.os,g4.output,λ_ _=>trivial,rfl,λ_ _=>rfl,λb o pl _ _ _ _ hB=>hfr _ hB,g4.dr⟩
theorem G_(u v:Value):b_ (some u) v=k_ 8 u v:=id rfl
theorem DQ(zs:List Value):bx zs 0=[]:=id rfl
theorem DR(a:Value):bx [a] 2=[a,a]:=by simp[bx]
theorem SR(a:Value)(l:List Value)(n:Nat)(ws:List Value):over (a::l) (n+1) ws=a::over l n ws:=by simp[over,Nat.add_right_comm]
theorem SS(a w:Value)(l ws:List Value):over (a::l) 0 (w::ws)=w::over l 0 ws:=by simp[over]
theorem SU(l:List Value):over l 0 []=l:=by simp[over]
theorem He(u:Value):reN (some u)=true:=id rfl
theorem Hf(r:Bool):reG true r=r:=id rfl
theorem DS(r:Bool):reG false r=true:=id rfl
theorem gU(n:Nat):Nat.beq n n=true:=Nat.beq_refl n
theorem DT(n:Int):rK n n=true:=by rw[iA];simp
theorem yL(k:IntKind):jx k k=true:=by rw[ia];simp
theorem XQ(n:Nat)(k:IntKind)(a:Int):k_ (n+1) (.int k a) (.int k a)=true:=by unfold k_;simp[yL,DT]
theorem oJ(k:IntKind)(a:Int):k_ 8 (.int k a) (.int k a)=true:=XQ 7 k a
theorem qe(a:Bool):k_ 8 (.bool a) (.bool a)=true:=by unfold k_;simp
theorem Ny(b o:Nat):k_ 8 (.pointer (some ⟨b,o,none⟩)) (.pointer (some ⟨b,o,none⟩))=true:=by unfold k_;simp[gU]
theorem iS(b o n c:Nat):k_ 8 (.slice (some ⟨b,o,none⟩) n c) (.slice (some ⟨b,o,none⟩) n c)=true:=by unfold k_;simp[gU]
theorem vJ(n c:Nat):k_ 8 (.slice none n c) (.slice none n c)=true:=by unfold k_;simp[gU]
theorem xL(n:Nat)(l:List Int):ze (k_ (n+1)) (l.map (Value.int .i64)) (l.map (Value.int .i64))=true:=by
 induction l with
 |nil=>rfl
 |cons a l ih=>simp only[List.map_cons,ze,XQ,ih,Bool.and_self]
theorem AZ(l:List Int):k_ 8 (.agg ⟨l.map (.int .i64)⟩) (.agg ⟨l.map (.int .i64)⟩)=true:=by
 unfold k_;exact xL 6 l
theorem aas(a b:Int):k_ 8 (.agg ⟨[.int .i64 a,.int .i64 b]⟩) (.agg ⟨[.int .i64 a,.int .i64 b]⟩)=true:=AZ [a,b]
theorem aat(a b c d:Int):k_ 8 (.agg ⟨[.int .i64 a,.int .i64 b,.int .i64 c,.int .i64 d]⟩) (.agg ⟨[.int .i64 a,.int .i64 b,.int .i64 c,.int .i64 d]⟩)=true:=AZ [a,b,c,d]
end Go.Vai
namespace Go.Vai
open Go
variable {β:Type}{fl:β}
theorem A0(n:Nat)(d:Nat)(V:Nat->β):Em fl (some (.int .i64 (n:Int))) d V=V n:=id rfl
theorem xM(d:Nat)(V:Nat->β):Em fl none d V=V d:=id rfl
theorem Lv{h:af}{e s b n i:Nat}{vs:List Value}(hs:0<s)(hb:h.bl.get b=some (aj vs e true))(hvs:vs.length=n*s)(hi:i<n)(V:X3 β):sliceB fl e s (.slice (some ⟨b,0,none⟩) n aZ) (some (.int .i64 (i:Int))) none none h V=V (.slice (some ⟨b,i*s,none⟩) (n-i) aZ) h:=by
 obtain⟨s,rfl⟩:∃k,s=k+1:=⟨s-1,X1⟩
 have hk:iy h e b=some (n*(s+1)):=by unfold iy;rw[hb];simp only[aj,gU,hvs]
 have hd:Nat.div (Nat.sub (n*(s+1)) 0) (s+1)=n:=by show(n*(s+1)-0) / (s+1)=n;rw[Nat.sub_zero,Nat.mul_div_cancel _ X1]
 have e1:Nat.beq aZ ig=false:=by decide
 have e2:Nat.beq aZ aZ=true:=Nat.beq_refl _;have e3:Nat.ble 0 (n*(s+1))=true:=Nat.ble_eq_true_of_le (Nat.zero_le _);have e4:Nat.ble i n=true:=Nat.ble_eq_true_of_le X1;have e5:Nat.ble n n=true:=Nat.ble_eq_true_of_le (Nat.le_refl _);have e6:Nat.beq i n=false:=by
  cases hq:Nat.beq i n with
  |false=>rfl
  |true=>have:=cU hq;omega
 unfold sliceB jr;simp only[e1,e2,hk,e3,hd,A0,xM,e4,e5,e6,cC]
 show V (.slice (some ⟨b,0+i*(s+1),none⟩) (n-i) aZ) h=_
 rw[Nat.zero_add]
theorem A1{h:af}{e s b n m i:Nat}{vs:List Value}(hs:0<s)(hb:h.bl.get b=some (aj vs e true))(hvs:vs.length=n*s)(hn:0<n)(hi:i<=n)(V:X3 β):sliceB fl e s (.slice (some ⟨b,0,none⟩) m aZ) none (some (.int .i64 (i:Int))) none h V=V (.slice (some ⟨b,0,none⟩) i aZ) h:=by
 obtain⟨s,rfl⟩:∃k,s=k+1:=⟨s-1,X1⟩
 have hk:iy h e b=some (n*(s+1)):=by unfold iy;rw[hb];simp only[aj,gU,hvs]
 have hd:Nat.div (Nat.sub (n*(s+1)) 0) (s+1)=n:=by show(n*(s+1)-0) / (s+1)=n;rw[Nat.sub_zero,Nat.mul_div_cancel _ X1]
 have e1:Nat.beq aZ ig=false:=by decide
 have e2:Nat.beq aZ aZ=true:=Nat.beq_refl _;have e3:Nat.ble 0 (n*(s+1))=true:=Nat.ble_eq_true_of_le (Nat.zero_le _);have e4:Nat.ble 0 i=true:=Nat.ble_eq_true_of_le (Nat.zero_le _);have e5:Nat.ble i n=true:=Nat.ble_eq_true_of_le hi;have e6:Nat.beq 0 n=false:=by
  cases hq:Nat.beq 0 n with
  |false=>rfl
  |true=>have:=cU hq;omega
 unfold sliceB jr;simp only[e1,e2,hk,e3,hd,A0,xM,e4,e5,e6,cC]
 show V (.slice (some ⟨b,0+0*(s+1),none⟩) (i-0) aZ) h=_
 rw[Nat.zero_mul,Nat.sub_zero]
theorem yM{h:af}{b o n c e:Nat}{op:Bool}{vs zero:List Value}(hb:h.bl.get b=some (aj vs e op))(hn:0<n)(hl:o+(bx zero n).length<=vs.length)(h1:(bx zero n).all ef=true)(hlo:h.lo<=b)(V:X3 β):mh fl zero (.slice (some ⟨b,o,none⟩) n c) h V=V (.tuple #[]) ⟨h.nx,h.bl.a_ b (aj (over vs o (bx zero n)) e op),h.lo⟩:=by
 obtain⟨n,rfl⟩:∃k,n=k+1:=⟨n-1,X1⟩
 unfold mh;simp only[hb,aj];rw[xK _ _ _ _ _ hl h1,bG _ _ _ _ hlo,EU _ _ _ hl,oH hl]
end Go.Vai
namespace Go.Vai
open Go Go.RowKit Go.WideShapes Go.ChangeShapes
section
variable {P:Program}{α:Type}{dP:α->List Value}{s:Nat}{H:Type}{enc:TypeId × Value->H}
theorem open_sliceArg{W:World}{t e:TypeId}{v:Value}{d:DataW H}{p:List MemPlace}{base:Nat}(he:∀a:α,(dP a).length=s)(hs:0<s)(ht:P.underlying t=some (.slice e))(hc:P.cellsOf e=s)(Lu:∀(n:Nat)(cs:List Value)(d:DataW H × List MemPlace),cs.length=s->DataW.trod enc P W 0 (λ_=>true) true n e cs=some d->∃a:α,cs=dP a)(hw:Value.okWide P W .any base t v)(h:DataW.Trod enc P W 0 (λ_=>true) true t v d p):∃L:List α,mH dP W v L:=by
 obtain⟨fuel,hf⟩:=h;have hcs:v.cells.toList=[v]:=by
  unfold Value.okWide at hw;rw[ht]at hw;simp only at hw;unfold Cell.okWide Cell.ok at hw;rw[ht]at hw;cases v<;>first|rfl|(simp at hw)
 rw[hcs]at hf;exact SP he hs ht hc Lu hf
end
end Go.Vai

namespace Go.Vai
open Go
theorem aau:(!true)=false:=id rfl
theorem aav:(!false)=true:=id rfl
theorem aiI:decide True=true:=by simp
theorem aiJ:decide False=false:=by simp
theorem Ld0(l:List Value):l.drop 0=l:=id rfl
theorem Lts(a:Value)(l:List Value)(n:Nat):(a::l).take (n+1)=a::l.take n:=id rfl
theorem Lt0(l:List Value):l.take 0=[]:=id rfl
theorem Lds(a:Value)(l:List Value)(n:Nat):(a::l).drop (n+1)=l.drop n:=id rfl
theorem Lg0(a:Value)(l:List Value):(a::l)[0]? = some a:=id rfl
theorem Lgs(a:Value)(l:List Value)(n:Nat):(a::l)[n+1]? = l[n]?:=id rfl
theorem aaw(b:Bool):(b && true)=b:=by cases b<;>rfl
theorem aax(b:Bool):(true && b)=b:=by cases b<;>rfl
theorem aay(b:Bool):(b && b)=b:=by cases b<;>rfl
theorem Lac(p:Value->Bool)(a:Value)(l:List Value):(a::l).all p=(p a && l.all p):=id rfl
theorem Lan(p:Value->Bool):([]:List Value).all p=true:=id rfl
theorem Llc(a:Value)(l:List Value):(a::l).length=l.length+1:=id rfl
theorem Lln:([]:List Value).length=0:=id rfl
theorem Nza(n:Nat):0+n=n:=by omega
theorem Naz(n:Nat):n+0=n:=by omega
theorem Wz2:type_of% (And.intro (And.intro (And.intro (And.intro (And.intro (And.intro @GX @GY) (And.intro @DJ (And.intro @dO @sZ))) (And.intro (And.intro @Sv (And.intro @xJ @Sw)) (And.intro @qb (And.intro @jK @DI)))) (And.intro (And.intro (And.intro @GZ (And.intro @AS @AT)) (And.intro @AU (And.intro @yG @yJ))) (And.intro (And.intro @yH (And.intro @vH @AV)) (And.intro @yI (And.intro @Nc @Nd))))) (And.intro (And.intro (And.intro (And.intro @Nf (And.intro @Ng @Ni)) (And.intro @EV (And.intro @Nj @Nk))) (And.intro (And.intro @Nl (And.intro @Nn @Sx)) (And.intro @Sy (And.intro @G0 @DK)))) (And.intro (And.intro (And.intro @AX (And.intro @iR @vI)) (And.intro @No (And.intro @qQ @DL))) (And.intro (And.intro @DM (And.intro @DN @G4)) (And.intro @f_ (And.intro @d_ @aiG)))))) (And.intro (And.intro (And.intro (And.intro (And.intro @Sz @aac) (And.intro @T.ay (And.intro @T.aD @T.AR))) (And.intro (And.intro @aau (And.intro @aav @aiI)) (And.intro @aiJ (And.intro @Ld0 @Lts)))) (And.intro (And.intro (And.intro @Lt0 (And.intro @Lds @Lg0)) (And.intro @Lgs (And.intro @Nza @Naz))) (And.intro (And.intro @SB (And.intro @SC @s_)) (And.intro @ta (And.intro @qS @td))))) (And.intro (And.intro (And.intro (And.intro @oI (And.intro @r8 @SH)) (And.intro @qd (And.intro @m_ @DQ))) (And.intro (And.intro @DP (And.intro @DR @SR)) (And.intro @SS (And.intro @SU @G_)))) (And.intro (And.intro (And.intro @He (And.intro @Hf @DS)) (And.intro @oJ (And.intro @qe @Ny))) (And.intro (And.intro @iS (And.intro @vJ @aas)) (And.intro @aat (And.intro @aaw @aax))))))):=(And.intro (And.intro (And.intro (And.intro (And.intro (And.intro @GX @GY) (And.intro @DJ (And.intro @dO @sZ))) (And.intro (And.intro @Sv (And.intro @xJ @Sw)) (And.intro @qb (And.intro @jK @DI)))) (And.intro (And.intro (And.intro @GZ (And.intro @AS @AT)) (And.intro @AU (And.intro @yG @yJ))) (And.intro (And.intro @yH (And.intro @vH @AV)) (And.intro @yI (And.intro @Nc @Nd))))) (And.intro (And.intro (And.intro (And.intro @Nf (And.intro @Ng @Ni)) (And.intro @EV (And.intro @Nj @Nk))) (And.intro (And.intro @Nl (And.intro @Nn @Sx)) (And.intro @Sy (And.intro @G0 @DK)))) (And.intro (And.intro (And.intro @AX (And.intro @iR @vI)) (And.intro @No (And.intro @qQ @DL))) (And.intro (And.intro @DM (And.intro @DN @G4)) (And.intro @f_ (And.intro @d_ @aiG)))))) (And.intro (And.intro (And.intro (And.intro (And.intro @Sz @aac) (And.intro @T.ay (And.intro @T.aD @T.AR))) (And.intro (And.intro @aau (And.intro @aav @aiI)) (And.intro @aiJ (And.intro @Ld0 @Lts)))) (And.intro (And.intro (And.intro @Lt0 (And.intro @Lds @Lg0)) (And.intro @Lgs (And.intro @Nza @Naz))) (And.intro (And.intro @SB (And.intro @SC @s_)) (And.intro @ta (And.intro @qS @td))))) (And.intro (And.intro (And.intro (And.intro @oI (And.intro @r8 @SH)) (And.intro @qd (And.intro @m_ @DQ))) (And.intro (And.intro @DP (And.intro @DR @SR)) (And.intro @SS (And.intro @SU @G_)))) (And.intro (And.intro (And.intro @He (And.intro @Hf @DS)) (And.intro @oJ (And.intro @qe @Ny))) (And.intro (And.intro @iS (And.intro @vJ @aas)) (And.intro @aat (And.intro @aaw @aax)))))))
theorem Wx:type_of% (And.intro (And.intro (And.intro @Lac @Lan) (And.intro @Np (And.intro @G7 @Nq))) (And.intro (And.intro @Nr (And.intro @Ns @Nt)) (And.intro @Nu (And.intro @Nv @aay)))):=(And.intro (And.intro (And.intro @Lac @Lan) (And.intro @Np (And.intro @G7 @Nq))) (And.intro (And.intro @Nr (And.intro @Ns @Nt)) (And.intro @Nu (And.intro @Nv @aay))))
theorem Wy:type_of% (And.intro (And.intro @s_ (And.intro @ta @qS)) (And.intro (And.intro @td @oI) (And.intro @Llc @Lln))):=(And.intro (And.intro @s_ (And.intro @ta @qS)) (And.intro (And.intro @td @oI) (And.intro @Llc @Lln)))
theorem Wv:type_of% (And.intro @Llc @Lln):=(And.intro @Llc @Lln)
theorem Wz0(b:Nat):ax b=.pointer (some ⟨b,0,none⟩):=id rfl
theorem Wz1(n c b:Nat):cN n c b=.slice (some ⟨b,0,none⟩) n c:=id rfl
theorem X2(v : Value)(h : af):XZ v h = some v := id rfl
theorem Wz:type_of% (And.intro (And.intro @Wz0 @Wz1) (And.intro @X2 Wz2)):=And.intro (And.intro @Wz0 @Wz1) (And.intro @X2 Wz2)
theorem Wd:type_of% (And.intro Wx Wy):=And.intro Wx Wy
theorem Y{P : Prop}(h : P := by first|omega|simp only[Wd]<;>omega|rfl):P := h
theorem QQ{P : Prop}(h : P := by first|omega|simp only[Wd]<;>omega|with_unfolding_all rfl):P := h
end Go.Vai

namespace Go.Vai
open Go Go.RowKit
section
variable {α:Type}{s:Nat}{enc:α->List Value}
def Cut(e s:Nat)(h:af)(v:Value)(k:Nat):Prop:=
 (k=0/\v=.slice none 0 0)\/(k=0/\∃b o,v=.slice (some ⟨b,o,none⟩) 0 ig)\/
 (∃b o cap,v=.slice (some ⟨b,o,none⟩) k cap/\k<=cap/\cap<=9223372036854775807)\/
 ∃b vs n,v=.slice (some ⟨b,0,none⟩) k aZ/\b<h.nx/\h.bl.get b=some (aj vs e true)/\vs.length=n*s/\k<=n
theorem Cut.le{e s:Nat}{h h':af}{v:Value}{k:Nat}(c:Cut e s h v k)(l:Le h h'):Cut e s h' v k:=by
 rcases c with c|c|c|⟨b,vs,n,c1,c2,c3,c4,c5⟩
 .exact .inl c
 .exact .inr (.inl c)
 .exact .inr (.inr (.inl c))
 .exact .inr (.inr (.inr ⟨b,vs,n,c1,Nat.lt_of_lt_of_le c2 l.nx,(l.get b c2).trans c3,c4,c5⟩))
theorem Cut.own{a h:af}{e:TypeId}{v:Value}{L:List α}(he:∀a:α,(enc a).length=s)(ho:Own enc a e h v L):Cut e s h v L.length:=by
 rcases ho with⟨rfl,rfl|⟨b,o,rfl⟩⟩|⟨b,rfl,h1,h2,h3,h4⟩
 .exact .inl ⟨rfl,rfl⟩
 .exact .inr (.inr (.inl ⟨b,o,0,rfl,Nat.le_refl _,X1⟩))
 .exact .inr (.inr (.inr ⟨b,_,L.length,rfl,h2,h4,bH he L,Nat.le_refl _⟩))
theorem qT(he:∀a:α,(enc a).length=s)(L:List α):∀i,(L.flatMap enc).take (i*s)=(L.take i).flatMap enc:=by
 induction L with
 |nil=>intro i;simp
 |cons a L ih=>
  intro i;cases i with
  |zero=>simp
  |succ i=>
   simp only[List.flatMap_cons,List.take_succ_cons];rw[List.take_append,<-ih i,he,List.take_of_length_le (by rw[he,Nat.succ_mul];omega),show(i+1)*s-s=i*s by rw[Nat.succ_mul];omega]
end
end Go.Vai

namespace Go.Vai
open Go Go.RowKit
open Classical
variable {P:Program}
def Nz(w:World)(B:Nat):Prop:=∃C e fz,w.heap[B]? = some (.cells C e fz)
def ry(w:World)(v:Value):Prop:=
 lJ v=true\/v=.slice none 0 0\/(∃a c,v=.slice (some a) 0 c)\/∃B o n c,v=.slice (some ⟨B,o,none⟩) n c/\n<=c/\c<=maxLen/\Nz w B
def pn:Value->Value
 | .slice (some a) 0 c=>.slice (some ⟨0,0,none⟩) 0 ig
 |v=>v
def goodA(w:World):Value->Prop
 | .agg cs=>∀v∈cs.toList,ry w v
 |v=>ry w v
def absA:Value->Value
 | .agg cs=>.agg ⟨cs.toList.map pn⟩
 |v=>pn v
theorem DU{v:Value}(h:lJ v=true):pn v=v:=by cases v<;>first|rfl|cases h
def CY(w:World):ff:=λb=>if Nz w b then some ⟨b,0,0⟩else none
def CZ(w:World)(v:Value)(t:T Value)(o:Nat):T Value:=if ry w v then t.a_ o (pn v)else t
theorem NA(w:World)(v:Value)(t:T Value){o i:Nat}(h:o≠i):(CZ w v t o).get i=t.get i:=by
 unfold CZ;by_cases hg:ry w v
 .rw[if_pos hg];exact T.aD _ _ h
 .rw[if_neg hg]
theorem DV{w:World}{v:Value}(hg:ry w v)(t:T Value)(o:Nat):(CZ w v t o).get o=some (pn v):=by
 unfold CZ;rw[if_pos hg];exact T.ay _ _ _
theorem SV{w:World}{v:Value}(hg:¬ry w v)(t:T Value)(o:Nat):(CZ w v t o)=t:=by
 unfold CZ;rw[if_neg hg]
def qf(w:World):List Value->T Value->Nat->T Value
 | [],t,_=>t
 |v::vs,t,o=>qf w vs (CZ w v t o) (o+1)
theorem DW(w:World)(vs:List Value):∀(t:T Value)(o i:Nat),i<o->(qf w vs t o).get i=t.get i:=by
 induction vs with
 |nil=>intro t o i _;rfl
 |cons v vs ih=>
  intro t o i h
  show(qf w vs (CZ w v t o) (o+1)).get i=_
  rw[ih _ _ _ X1,NA _ _ _ X1]
theorem Lw(w:World)(vs:List Value):∀(t:T Value)(o i:Nat)(v:Value),vs[i]? = some v->ry w v->(qf w vs t o).get (o+i)=some (pn v):=by
 induction vs with
 |nil=>intro t o i v h;simp at h
 |cons u vs ih=>
  intro t o i v h hg
  show(qf w vs (CZ w u t o) (o+1)).get _=_
  cases i with
  |zero=>
   simp only[List.getElem?_cons_zero,Option.some.injEq]at h;subst h;rw[DW _ _ _ _ _ X1];exact DV hg _ _
  |succ i=>
   rw[show o+(i+1)=(o+1)+i by omega];exact ih _ _ _ _ (by simpa using h) hg
theorem Ly(w:World)(vs:List Value):∀(t:T Value)(o i:Nat)(u:Value),(∀j,o<=j->t.get j=none)->(qf w vs t o).get (o+i)=some u->∃v,vs[i]? = some v/\ry w v/\u=pn v:=by
 induction vs with
 |nil=>intro t o i u ht h;rw[show(qf w [] t o)=t from rfl,ht _ X1]at h;cases h
 |cons x vs ih=>
  intro t o i u ht h;have h:(qf w vs (CZ w x t o) (o+1)).get (o+i)=some u:=h;cases i with
  |zero=>
   rw[DW _ _ _ _ _ X1]at h;by_cases hg:ry w x
   .rw[Nat.add_zero,DV hg]at h;cases h;exact⟨x,rfl,hg,rfl⟩
   .rw[SV hg,ht _ X1]at h;cases h
  |succ i=>
   rw[show o+(i+1)=(o+1)+i by omega]at h;obtain⟨v,h1,h2,h3⟩:=ih _ _ _ _ (λj hj=>by rw[NA _ _ _ X1];exact ht j X1) h;exact⟨v,by simpa using h1,h2,h3⟩
def C0(w:World):Nat->T bP
 |0=>.nil
 |n+1=>match w.heap[n]? with
  |some (.cells C e _)=>(C0 w n).a_ n (.ro C.size (qf w C.toList .nil 0) e)
  |_=>C0 w n
theorem Hg(w:World):∀n b,(C0 w n).get b=if b<n then(match w.heap[b]? with|some (.cells C e _)=>some (.ro C.size (qf w C.toList .nil 0) e)|_=>none)else none:=by
 intro n
 induction n with
 |zero=>intro b;rw[if_neg X1];exact T.get_nil _
 |succ n ih=>
  intro b;unfold C0;by_cases h0:n=b
  .subst h0;rw[if_pos X1];split
   .rw[T.ay]
   .rw[ih,if_neg X1]
  ·have:(match w.heap[n]? with|some (.cells C e _)=>(C0 w n).a_ n (.ro C.size (qf w C.toList .nil 0) e)|_=>C0 w n).get b=(C0 w n).get b:=by
    split
    .exact T.aD _ _ h0
    .rfl
   rw[this,ih];by_cases h1:b<n
   .rw[if_pos h1,if_pos X1]
   .rw[if_neg h1,if_neg X1]
def memH(w:World):af:=⟨w.heap.size,C0 w w.heap.size,w.heap.size⟩
theorem Hh{w:World}{B:Nat}{C:Array Value}{e:TypeId}{fz:Nat × Nat}(h:w.heap[B]? = some (.cells C e fz)):(memH w).bl.get B=some (.ro C.size (qf w C.toList .nil 0) e):=by
 have hB:B<w.heap.size:=(Array.getElem?_eq_some_iff.1 h).1
 show(C0 w _).get B=_
 rw[Hg,if_pos hB,h]
theorem tf{w:World}{b:Nat}{o:bP}(h:(memH w).bl.get b=some o):∃C e fz,w.heap[b]? = some (.cells C e fz)/\o=.ro C.size (qf w C.toList .nil 0) e:=by
 have h:(C0 w _).get b=some o:=h;rw[Hg]at h;split at h
 .split at h
  .cases h;exact⟨_,_,_,by assumption,rfl⟩
  .cases h
 .cases h
theorem EZ{w:World}{v:Value}(h:ry w v):VR (CY w) (pn v) v:=by
 rcases h with h|rfl|⟨a,c,rfl⟩|⟨B,o,n,c,rfl,hn,hc,hB⟩
 .rw[DU h];exact VR.pL h
 .exact VR.gI (Nat.le_refl _)
 .exact VR.dB _ _ _
 .cases n with
  |zero=>exact VR.dB _ _ _
  |succ n=>
   have hp:CY w B=some ⟨B,0,0⟩:=if_pos hB;exact VR.slice hp hn (by unfold maxLen at hc;unfold aZ;omega)
theorem XR{w:World}{v:Value}(h:goodA w v):VR (CY w) (absA v) v:=by
 cases v with
 |agg cs=>
  refine VR.xk ?_
  show F2 (VR (CY w)) (cs.toList.map pn) cs.toList
  have:F2 (VR (CY w)) (cs.toList.map pn) (cs.toList.map id):=F2.map cs.toList λx hx=>EZ (h x hx)
  rwa [List.map_id]at this
 |_=>exact EZ h
theorem aiK(w:World):HR P (CY w) (memH w) w:=by
 have dom:∀b pl,CY w b=some pl->pl=⟨b,0,0⟩/\Nz w b:=by
  intro b pl h;unfold CY at h;split at h
  .cases h;exact⟨rfl,by assumption⟩
  .cases h
 have lt:∀b,Nz w b->b<w.heap.size:=λb ⟨C,e,fz,h⟩=>(Array.getElem?_eq_some_iff.1 h).1;refine⟨?_,?_,?_,Nat.lt_succ_self _,?_,Nat.le_refl _⟩
 .intro b o pl h1 h2;obtain⟨rfl,_⟩:=dom b pl h2;obtain⟨C,e,fz,h3,rfl⟩:=tf h1;rw[h3];refine⟨rfl,Nat.le_refl _,λi v hv hi=>?_⟩;obtain⟨u,h4,h5,rfl⟩:=Ly w C.toList .nil 0 i v (λj _=>T.get_nil _) (by rw[Nat.zero_add];exact hv);rw[Array.getElem?_toList]at h4;exact⟨u,h4,EZ h5⟩
 .intro b pl h;obtain⟨rfl,h2⟩:=dom b pl h;exact⟨lt b h2,lt b h2⟩
 .intro b o _ h;obtain⟨C,e,fz,h3,_⟩:=tf h;exact lt b ⟨C,e,fz,h3⟩
 .intro b b' o o' pl og _ _ _ _ h1 h2 h3;obtain⟨rfl,_⟩:=dom b pl h1;obtain⟨rfl,_⟩:=dom b' og h2;exact h3
theorem law_mem{f:FuncId}{args:List Value}{w:World}(hg:∀v∈args,goodA w v)(hc:(memH w).lo<=(memH w).nx->av P f (args.map absA) (memH w) EX):Calls P f args.toArray w λe w'=>e=.returned (.bool true)/\Below w.heap.size w w':=by
 have ha:F2 (VR (CY w)) (args.map absA) (args.map id):=F2.map args λx hx=>XR (hg x hx);rw[List.map_id]at ha;refine XP (hc (Nat.le_refl _)) ha (aiK w) ?_;intro b pl h;unfold CY at h;split at h
 .rename_i hm;obtain⟨C,e,fz,h3⟩:=hm;exact⟨(Array.getElem?_eq_some_iff.1 h3).1,_,Hh h3,trivial⟩
 .cases h
section
variable {α:Type}{dP:α->List Value}{s:Nat}
theorem mH.good{w:World}{v:Value}{L:List α}(hv:mH dP w v L):ry w v:=by
 rcases hv with⟨rfl,rfl|⟨a,cap,rfl⟩⟩|⟨B,o,cap,C,e,fz,rfl,hl,hm,hC,hle,hcell⟩
 .exact .inr (.inl rfl)
 .exact .inr (.inr (.inl ⟨a,cap,rfl⟩))
 .exact .inr (.inr (.inr ⟨B,o,_,cap,rfl,hl,hm,C,e,fz,hC⟩))
theorem mH.abs{w:World}{v:Value}{L:List α}(hv:mH dP w v L)(hg:∀a∈L,∀u∈dP a,ry w u):Sl (λa=>(dP a).map pn) (memH w) (pn v) L/\∀e,Cut e s (memH w) (pn v) L.length:=by
 rcases hv with⟨rfl,rfl|⟨a,cap,rfl⟩⟩|⟨B,o,cap,C,e,fz,rfl,hl,hm,hC,hle,hcell⟩
 .exact⟨Sl.nil _ _ _,λe=>.inl ⟨rfl,rfl⟩⟩
 .exact⟨Sl.nil _ _ _,λe=>.inr (.inl ⟨rfl,0,0,rfl⟩)⟩
 .cases hL:L with
  |nil=>exact⟨Sl.nil _ _ _,λe=>.inr (.inl ⟨rfl,0,0,rfl⟩)⟩
  |cons x L'=>
   have e1:pn (.slice (some ⟨B,o,none⟩) L.length cap)=.slice (some ⟨B,o,none⟩) L.length cap:=by rw[hL];rfl
   rw[<-hL,e1];refine⟨⟨_,cap,rfl,λ_=>⟨B,o,rfl,(Array.getElem?_eq_some_iff.1 hC).1,?_⟩⟩,λe=>.inr (.inr (.inl ⟨B,o,cap,rfl,hl,by unfold maxLen at hm;omega⟩))⟩;rw[Hh hC];have efl:L.flatMap (λa=>(dP a).map pn)=(L.flatMap dP).map pn:=by rw[List.map_flatMap]
   rw[efl];refine⟨C.size,_,e,.inl rfl,by rw[List.length_map];exact hle,λj u hj=>?_⟩;rw[List.getElem?_map,Option.map_eq_some_iff]at hj;obtain⟨u',h1,rfl⟩:=hj;have h2:=hcell j u' h1;have hm:=List.mem_of_getElem? h1;rw[List.mem_flatMap]at hm;obtain⟨a,ha,hu⟩:=hm;have:=Lw w C.toList .nil 0 (o+j) u' (by rw[Array.getElem?_toList];exact h2) (hg a ha u' hu)
   rwa [Nat.zero_add]at this
theorem SX{l:List Value}(h:l.all lJ=true):l.map pn=l:=by
 induction l with
 |nil=>rfl
 |cons a l ih=>simp only[List.all_cons,Bool.and_eq_true]at h;rw[List.map_cons,DU h.1,ih h.2]
theorem mH.aiL{w:World}{v:Value}{L:List α}(hv:mH dP w v L)(hone:∀a:α,(dP a).all lJ=true):Sl dP (memH w) (pn v) L/\∀e,Cut e s (memH w) (pn v) L.length:=by
 have:=hv.abs (s:=s) λa _ u hu=>.inl (List.all_eq_true.1 (hone a) u hu);have e:(λa=>(dP a).map pn)=dP:=by funext a;exact SX (hone a)
 rwa [e]at this
end
end Go.Vai

namespace Go.Vai
open Go Go.RowKit Go.WideShapes Go.ChangeShapes
variable {P:Program}
inductive CK where
 |i (k:IntKind)
 |b
 |s
 |sl (t:TypeId)
def E0(P:Program)(fl:TypeId->Option (List CK)):List Field->Nat->Option (List CK)
 | [],_=>some []
 |f::fs,off=>match fl f.type with
  |some l=>match Nat.beq f.offset off,Nat.beq (P.cellsOf f.type) l.length with
   |true,true=>match E0 P fl fs (off+l.length)with
    |some r=>some (l++r)
    |none=>none
   |_,_=>none
  |none=>none
def flatK(P:Program):Nat->TypeId->Option (List CK)
 |0,_=>none
 |n+1,t=>match P.underlying t with
  |some (.int k)=>some [.i k]
  |some .bool=>some [.b]
  |some .string=>some [.s]
  |some (.slice _)=>some [.sl t]
  |some (.struct fs)=>match E0 P (flatK P n) fs.toList 0 with
   |some l=>match Nat.beq (P.cellsOf t) l.length with
    |true=>some l
    |false=>none
   |none=>none
  |_=>none
section
variable {H:Type}{enc:TypeId × Value->H}{w:World}
def ab2(enc:TypeId × Value->H)(P:Program)(w:World)(k:CK)(v:Value):Prop:=match k with
 | .i kk=>∃n,v=.int kk n/\(Lit.int kk n).wf=true
 | .b=>∃b,v=.bool b
 | .s=>∃s,v=.string s
 | .sl t=>∃fuel x,DataW.trod enc P w 0 (λ_=>true) true fuel t [v]=some x
theorem XS{fl:TypeId->Option (List CK)}(ih:∀t ks,fl t=some ks->∀fuel cs x,DataW.trod enc P w 0 (λ_=>true) true fuel t cs=some x->F2 (ab2 enc P w) ks cs)(m:Nat)(cs:List Value):∀(fs:List Field)(off:Nat)(r:List CK),E0 P fl fs off=some r->(∀f∈fs,∃x,DataW.trod enc P w 0 (λ_=>true) true m f.type ((cs.drop f.offset).take (P.cellsOf f.type))=some x)->
   off+r.length=cs.length->F2 (ab2 enc P w) r (cs.drop off):=by
 intro fs
 induction fs with
 |nil=>
  intro off r h _ hl;cases h;rw[List.drop_of_length_le (by simp at hl;omega)];exact .nil
 |cons f fs ihf=>
  intro off r h hf hl;unfold E0 at h;split at h<;>try contradiction
  rename_i l rJ;split at h<;>try contradiction
  rename_i h1 h2;split at h<;>try contradiction
  rename_i r' hr;cases h;have h1:=cU h1;have h2:=cU h2;obtain⟨x,hx⟩:=hf f (.head _);have k1:=ih _ _ rJ _ _ _ hx;rw[h1,h2]at k1;rw[List.length_append]at hl;have k2:=ihf (off+l.length) r' hr (λg hg=>hf g (.tail _ hg)) X1;have e:cs.drop off=(cs.drop off).take l.length++cs.drop (off+l.length):=by
   rw[<-List.drop_drop,List.take_append_drop]
  rw[e];exact k1.append k2
theorem SY:∀(n:Nat)(t:TypeId)(ks:List CK),flatK P n t=some ks->∀fuel cs x,DataW.trod enc P w 0 (λ_=>true) true fuel t cs=some x->F2 (ab2 enc P w) ks cs:=by
 intro n
 induction n with
 |zero=>intro t ks h;cases h
 |succ n ih=>
  intro t ks h fuel cs x hx;unfold flatK at h;split at h
  .rename_i k hu;cases h;obtain⟨n,rfl,_,hwf⟩:=DataW.trod_int hu hx;exact .cons ⟨n,rfl,hwf⟩ .nil
  .rename_i hu;cases h;obtain⟨n,rfl,_⟩:=DataW.trod_bool hu hx;exact .cons ⟨n,rfl⟩ .nil
  .rename_i hu;cases h;obtain⟨n,rfl,_⟩:=DataW.trod_string hu hx;exact .cons ⟨n,rfl⟩ .nil
  ·rename_i e hu;cases h;have:∃v,cs=[v]:=by
    rcases DataW.trod_slice hu hx with h|h
    .exact⟨_,h.1⟩
    .obtain⟨a,len,cap,_,_,_,_,h,_⟩:=h;exact⟨_,h⟩
   obtain⟨v,rfl⟩:=this;exact .cons ⟨fuel,x,hx⟩ .nil
  .rename_i fs hu;split at h<;>try contradiction
   rename_i l hl;split at h<;>try contradiction
   rename_i hc;cases h;have hc:=cU hc;obtain⟨xs,m,_,_,tg,hlen,hf⟩:=DataW.trod_struct hu hx;have key:=XS ih m cs fs.toList 0 ks hl (λf hf'=>?_) X1
   .rw[List.drop_zero]at key;exact key
   .obtain⟨i,hi,rfl⟩:=List.getElem_of_mem hf';have h1:=hf i (fs.toList[i]) (by simp at hi ⊢);obtain⟨y,hy⟩:∃y,xs[i]? = some y:=⟨_,List.getElem?_eq_getElem (by simp at hi;omega)⟩
    rw[hy]at h1;exact⟨y,h1⟩
  .cases h
theorem F2.xN{α γ:Type}{R:α->γ->Prop}{a:α}{l:List α}{m:List γ}(h:F2 R (a::l) m):∃b m',m=b::m'/\R a b/\F2 R l m':=by
 cases h with
 |cons h t=>exact⟨_,_,rfl,h,t⟩
theorem F2.aiM{α γ:Type}{R:α->γ->Prop}{m:List γ}(h:F2 R [] m):m=[]:=by cases h;rfl
end
section
variable {α:Type}{dP:α->List Value}{s:Nat}
theorem mH.absA{w:World}{v:Value}{L:List α}(hv:mH dP w v L):Go.Vai.absA v=pn v:=by
 rcases hv with⟨rfl,rfl|⟨a,cap,rfl⟩⟩|⟨B,o,cap,C,e,fz,rfl,_⟩<;>rfl
theorem mH.goodA{w:World}{v:Value}{L:List α}(hv:mH dP w v L):Go.Vai.goodA w v:=by
 have h:=hv.good;rcases hv with⟨rfl,rfl|⟨a,cap,rfl⟩⟩|⟨B,o,cap,C,e,fz,rfl,_⟩<;>exact h
theorem mH.read{w:World}{v:Value}{L:List α}(hv:mH dP w v L)(hone:∀a:α,(dP a).all lJ=true):Sl dP (memH w) (Go.Vai.absA v) L:=by
 rw[hv.absA];exact(hv.aiL (s:=1) hone).1
theorem mH.cut{w:World}{v:Value}{L:List α}(hv:mH dP w v L)(hone:∀a:α,(dP a).all lJ=true){e:TypeId}{s:Nat}:Cut e s (memH w) (Go.Vai.absA v) L.length:=by
 rw[hv.absA];exact(hv.aiL (s:=s) hone).2 e
end
end Go.Vai

namespace Go.Vai
open Go Go.RowKit
section
variable {α:Type}{s:Nat}{enc:α->List Value}
theorem qU(he:∀a:α,(enc a).length=s)(L:List α):∀i,(L.flatMap enc).drop (i*s)=(L.drop i).flatMap enc:=by
 induction L with
 |nil=>intro i;simp
 |cons a L ih=>
  intro i;cases i with
  |zero=>simp
  |succ i=>
   simp only[List.flatMap_cons,List.drop_succ_cons];rw[List.drop_append,<-ih i,he,List.drop_of_length_le (by rw[he,Nat.succ_mul];omega),show(i+1)*s-s=i*s by rw[Nat.succ_mul];omega];rfl
theorem A2{β:Type}{fl:β}{len lim cap i:Nat}(hi:i<=len)(hl:len<=lim)(V:Nat->Nat->Nat->β):jr fl len lim cap (some (.int .i64 (i:Int))) none none V=V i len cap:=by
 have e1:Nat.ble i len=true:=Nat.ble_eq_true_of_le hi;have e2:Nat.ble len lim=true:=Nat.ble_eq_true_of_le hl;unfold jr;simp only[A0,xM,e1,e2]
end
end Go.Vai
end
