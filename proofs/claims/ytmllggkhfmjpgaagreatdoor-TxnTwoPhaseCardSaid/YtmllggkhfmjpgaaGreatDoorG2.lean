/-
  PROVED HERE: a part of the proof (VaiS16, VaiS17, VaiS18, VaiK, VaiW, VaiW2, VaiL, VaiM, VaiN, VaiZ, VaiO, VaiQ, VaiT, VaiU, VaiV, VaiG).
-/
import Derived.Test.YtmllggkhfmjpgaaGreatDoorG1
import Derived.RowKit3
import Derived.ChangeSame
import Derived.Below
import Derived.Deep.Slices
import Derived.Carry
import Derived.ProofKit
set_option linter.unusedVariables false
set_option linter.unusedSimpArgs false
set_option maxRecDepth 100000
noncomputable section
namespace Go.Vai
open Go
variable {β:Type}{fl:β}{good:β->Prop}{pr:ko β}{P:Program}{φ:ee}{h h':Heap}{w:World}{t:TypeId}
variable {ops:Array Oper}{nt:Nat}{φ0:ee}{h0:Heap}{w0:World}{ds:List Deferred}{listed:Array Bool}{D M:Nat}{tm lJ:T Value}{own:Nat->Option Nat}{a:Act}
theorem BE.refl(h:Heap):BE h h:=λ_ _ e=>e
theorem gT{i k:Nat}(hi:i<listed.size):og (listed.setIfInBounds i true) k<->k=i\/og listed k:=by
 unfold og;simp only[Array.getD_eq_getD_getElem?];by_cases he:i=k
 .subst he;simp[Array.getElem?_setIfInBounds_self_of_lt hi]
 .rw[Array.getElem?_setIfInBounds_ne he];constructor
  .exact λh=>.inr h
  .rintro(h|h)
   .exact absurd h.symm he
   .exact h
theorem EP{a:Act}{d:Option Nat}{v:Value}{t:Nat}(ht:t<a.tmps.size):(a.put d v).tmps.getD t undef=if d=some t then v else a.tmps.getD t undef:=by
 cases d with
 |none=>simp[Act.put]
 |some d=>
  simp only[Act.put,Array.getD_eq_getD_getElem?];by_cases he:d=t
  .subst he;rw[if_pos rfl,Array.getElem?_setIfInBounds_self_of_lt ht];rfl
  .rw[if_neg (by simpa using he),Array.getElem?_setIfInBounds_ne he]
theorem ES{a:Act}{d:Option Nat}{v:Value}:(a.put d v).tmps.size=a.tmps.size:=by cases d<;>simp[Act.put]
theorem Kx{a:Act}{d:Option Nat}{v:Value}:(a.put d v).defers=a.defers:=by cases d<;>rfl
theorem I5{o:Oper}{x:Xm}(h:iC P o.op=.rd x):gH P o=false:=by unfold gH;rw[h]
theorem M7{o:Oper}(h:gH P o=true):iC P o.op=.wr:=by
 unfold gH at h;split at h
 .assumption
 .cases h
theorem y8{i:Nat}{o:Oper}(ho:ops[i]? = some o):o∈ops.toList:=List.mem_of_getElem? (by rw[Array.getElem?_toList];exact ho)
theorem Inv.advance(hfl:¬good fl)(inv:Inv P ops nt φ0 h0 w0 ds lJ listed D M tm h own φ a w)(hok:∀q∈ops.toList,fE nt q=true){rec:Rec β}{i:Nat}{o:Oper}(ho:ops[i]? = some o)(hD:bit D i=false)(TN:∀e∈cE o,bit D e=true)(hst:Stat P ops i o)(hw:gH P o=false){M':Nat}{V:T Value->Heap->β}(hg:good (kq fl pr P rec ops.toList D M' o tm h V)):∃cQ h' sY,Inv P ops nt φ0 h0 w0 ds lJ listed (fP D i) M cQ h' sY φ a w/\good (V cQ h'):=by
 have qM:=dQ (hok o (y8 ho));have hl:∀v,∀t∈c_ ops.toList o,cL (jK tm o.dst v) t=cL tm t:=by
  intro v t ht;rw[gP inv.small qM (mF hok (y8 ho) ht),if_neg];intro he;have:=TN i (hst.k1 i o ho hw t ht he);rw[this]at hD;cases hD
 have hdv:∀v d,o.dst=some d->cL (jK tm o.dst v) d=v:=by
  intro v d hd;have hlt:d<nt:=by rw[hd]at qM;exact dP qM
  rw[gP inv.small qM hlt,if_pos hd]
 unfold kq at hg;split at hg
 .exact absurd hg hfl
 rename_i g IY;split at hg
 .rename_i vS;rw[gO]at hg;refine⟨_,_,own,inv.ahead hok ho hD TN hst hw inv.hr inv.ext (BE.refl h) (Nat.le_refl _) (λ_ _=>rfl) ?_,hg⟩;refine⟨g,IY,λ_ d hd=>hdv _ d hd,λht=>?_⟩;rw[oJ IY (hl _),vS]at ht;cases ht
 .rename_i vS;split at hg
  .rename_i x hc;split at hg
   .rename_i v hv;rw[gO]at hg;refine⟨_,_,own,inv.ahead hok ho hD TN hst hw inv.hr inv.ext (BE.refl h) (Nat.le_refl _) (λ_ _=>rfl) ?_,hg⟩;refine⟨g,IY,λhf=>?_,λ_=>?_⟩
    .rw[oJ IY (hl _),vS]at hf;cases hf
    .rw[hc];refine⟨v,?_,λd hd=>hdv _ d hd⟩;unfold k_ at *
     rw[XI.congr (λy hy=>qL (hl v) y (vQ (qK hc) y hy))];exact hv
   .exact absurd hg hfl
  .rename_i x hc;split at hg
   .rename_i ob mk hv;obtain⟨hn,hg⟩:=dA hfl hg;rw[gO]at hg;have hs:Small h.nx:=by unfold Small;omega
    have hnone:φ h.nx=none:=by
     cases hp:φ h.nx with
     |none=>rfl
     |some pl=>have:=(inv.hr.dom _ _ hp).1;omega
    refine⟨_,_,(λn=>if n=h.nx then some i else own n),inv.ahead hok ho hD TN hst hw (inv.hr.yO hn ob) (inv.ext.yO inv.hr.lo hn ob) ?_ (Nat.le_succ _) (λn hn=>if_neg (by omega)) ?_,hg⟩
    .intro b o' hb;by_cases hsb:Small b
     .have:=inv.hr.keys b o' hsb hb
      show(h.bl.aV h.nx ob).get b=some o'
      rw[T.gW _ _ hs hsb (by omega)];exact hb
     .show(h.bl.aV h.nx ob).get b=some o'
      exact absurd (Nat.lt_succ_self b) hsb
    .refine⟨g,IY,λhf=>?_,λ_=>?_⟩
     .rw[oJ IY (hl _),vS]at hf;cases hf
     .rw[hc];refine⟨h.nx,ob,mk,if_pos rfl,?_,T.ah _ _ _,hnone,Nat.lt_succ_self _,inv.ext.nx,λd hd=>hdv _ d hd⟩;unfold yG at *
      rw[XA.congr (λy hy=>qL (hl _) y (Cf (yZ hc) y hy))];exact hv
   .exact absurd hg hfl
  .rename_i hc;rw[gH,hc]at hw;cases hw
theorem Inv.done(inv:Inv P ops nt φ0 h0 w0 ds lJ listed D M tm h own φ a w)(hok:∀q∈ops.toList,fE nt q=true){i:Nat}{o:Oper}(ho:ops[i]? = some o)(hD:bit D i=true)(uk:∀e∈cE o,og listed e){φ':ee}{w':World}{v':Value}(hv:∀d,o.dst=some d->VR φ' (cL tm d) v')(hs:Sub φ φ')(hr':HR P φ' h w')(hx':Ext φ0 φ' h0 h w0 w')(hφ:∀n,own n≠some i->φ n=none->φ' n=none):Inv P ops nt φ0 h0 w0 ds lJ (listed.setIfInBounds i true) D M tm h own φ' (a.put o.dst v') w':=by
 have hil:i<listed.size:=by rw[inv.Xy];exact(Array.getElem?_eq_some_iff.mp ho).1
 refine⟨by simp[inv.Xy],?_,?_,?_,?_,inv.st,inv.small,by rw[ES];exact inv.size,?_,hr',hx',by rw[Kx];exact inv.dfs,?_,inv.keep⟩
 .intro k hk;rcases(gT hil).mp hk with rfl|hk
  .exact hD
  .exact inv.sub k hk
 .intro k q hq hk e he;rw[gT hil];rcases(gT hil).mp hk with rfl|hk
  .rw[ho]at hq;cases hq;exact .inr (uk e he)
  .exact .inr (inv.clo k q hq hk e he)
 .intro k q hq hk Zg;rw[gT hil];exact .inr (inv.wr k q hq hk Zg)
 .intro k hk;rw[gT hil];exact .inr (inv.mS k hk)
 .intro t ht hno;rw[EP (by rw[inv.size];exact ht)];by_cases hd:o.dst=some t
  .rw[if_pos hd];exact hv t hd
  .rw[if_neg hd];refine(inv.rel t ht λk q hq hk w8=>?_).mono hs;by_cases hki:k=i
   .subst hki;rw[ho]at hq;cases hq;exact hd
   .exact hno k q hq hk (λhh=>by rcases(gT hil).mp hh with h1|h1<;>contradiction)
 .intro k q hq hk w8;rw[gT hil]at w8;have hki:k≠i:=λe=>w8 (.inl e);have PD:¬og listed k:=λe=>w8 (.inr e);refine(inv.mg k q hq hk PD).keep (λ_ _=>rfl) (λ_ _=>rfl) (λx v g _ _ _ e1 e2=>⟨v,e1,e2⟩) ?_;intro n ob e1 e2 e3 e4 e5;exact⟨e1,e2,hφ n (by rw[e1];intro hh;cases hh;exact hki rfl) e3,e4⟩
theorem Inv.looks(inv:Inv P ops nt φ0 h0 w0 ds lJ listed D M tm h own φ a w)(hok:∀q∈ops.toList,fE nt q=true){i:Nat}{o:Oper}(ho:ops[i]? = some o)(hst:Stat P ops i o)(uk:∀e∈cE o,og listed e):∀t∈c_ ops.toList o,t<a.tmps.size/\VR φ (cL tm t) (a.tmps.getD t undef):=by
 intro t ht;have hlt:=mF hok (y8 ho) ht;refine⟨by rw[inv.size];exact hlt,inv.rel t hlt λk q hq hk w8 hqd=>w8 (uk k (hst.k1 k q hq ?_ t ht hqd))⟩;cases PB:gH P q with
 |false=>rfl
 |true=>exact absurd (inv.wr k q hq hk PB) w8
theorem Inv.afR(inv:Inv P ops nt φ0 h0 w0 ds lJ listed D M tm h own φ a w)(hok:∀q∈ops.toList,fE nt q=true){i:Nat}{o:Oper}(ho:ops[i]? = some o)(hst:Stat P ops i o)(uk:∀e∈cE o,og listed e):∀y∈o.op.operands.toList,VR φ (fM tm y) (a.eval y):=by
 intro y hy;have hyo:=sV (hok o (y8 ho)) y hy;cases y with
 |tmp t=>exact(inv.looks hok ho hst uk t (sC hy)).2
 |const v=>exact lV hyo
 |func f=>exact VR.func' .nil .nil
 |global g=>cases hyo
theorem Inv.wanted(inv:Inv P ops nt φ0 h0 w0 ds lJ listed D M tm h own φ a w)(hok:∀q∈ops.toList,fE nt q=true){i:Nat}{o:Oper}(ho:ops[i]? = some o)(hst:Stat P ops i o)(uk:∀e∈cE o,og listed e){g:Option (Nat × Bool)}(hg:guardOf ops.toList o=some g):Region.wanted o (yielded ops a.tmps)=iB tm g:=
 Cd (φ:=φ) hg λs _ _ hs=>inv.looks hok ho hst uk s hs
theorem Inv.late(inv:Inv P ops nt φ0 h0 w0 ds lJ listed D M tm h own φ a w)(hok:∀q∈ops.toList,fE nt q=true){i:Nat}{o:Oper}(ho:ops[i]? = some o)(hD:bit D i=true)(Kw:¬og listed i)(uk:∀e∈cE o,og listed e){Q:Exit->Act->World->Prop}{K:Act->World->Prop}{r0:Option Nat}(hK:∀φ' a' w',Inv P ops nt φ0 h0 w0 ds lJ (listed.setIfInBounds i true) D M tm h own φ' a' w'->K a' w'):wpOpIn (FR r0) 0 P ops Q i K a w:=by
 obtain⟨hst,_⟩:=inv.st i o ho hD;obtain⟨g,hg,h1,h2⟩:=inv.mg i o ho hD Kw;have hlt:∀d,o.dst=some d->d<nt:=λd hd=>by have:=dQ (hok o (y8 ho));rw[hd]at this;exact dP this
 simp only[wpOpIn,ho];rw[inv.wanted hok ho hst uk hg];cases hw:iB tm g with
 |false=>
  rw[if_neg (by simp)];exact⟨lX,hK φ _ w (inv.done hok ho hD uk (λd hd=>by rw[h1 hw d hd];exact VR.undef) (Sub.refl φ) inv.hr inv.ext (λ_ _ e=>e))⟩
 |true=>
  rw[if_pos rfl];have h2:=h2 hw;have hρ:=inv.afR hok ho hst uk;cases hc:iC P o.op with
  |rd x=>
   rw[hc]at h2;obtain⟨v,k1,k2⟩:=h2;obtain⟨v0,v',e1,e2,e3⟩:=wW (β:=Option Value) (fl:=none) (good:=λr=>r=some v) (by simp) (qK hc) hρ inv.hr (V:=λv _=>some v) k1 rfl;cases e1;refine⟨lX,?_⟩;rw[Oper.semAt_eq _ _ _ (λc hcd=>by rw[hcd]at hc;cases hc),e3];exact hK φ _ w (inv.done hok ho hD uk (λd hd=>by rw[k2 d hd];exact e2) (Sub.refl φ) inv.hr inv.ext (λ_ _ e=>e))
  |al x=>
   rw[hc]at h2;obtain⟨n,ob,mk,k1,k2,k3,k4,k5,k6,k7⟩:=h2;obtain⟨ob',mk',O,e1,e2,e3,e4,e5⟩:=wY (β:=Option (bD × (Nat->Value))) (fl:=none) (good:=λr=>r=some (ob,mk)) (P:=P) (w:=w) (by simp) (yZ hc) hρ (V:=λo mk=>some (o,mk)) k2 rfl;cases e1;refine⟨lX,?_⟩;rw[Oper.semAt_eq _ _ _ (λc hcd=>by rw[hcd]at hc;cases hc),e5];refine hK (iD φ n ⟨w.heap.size,0,0⟩) _ _ (inv.done hok ho hD uk (λd hd=>by rw[k7 d hd];exact e4 _ _ _ (eO _ _ _)) (rC k4) (inv.hr.Et k3 k4 k5 0 0 (e3 _)) (inv.ext.Et k4 k6 O (tX (e3 ⟨0,0,0⟩) e2) 0 0) ?_);intro m hm1 hm2;unfold iD;rw[if_neg]
   .exact hm2
   .intro he;subst he;exact hm1 k1
  |wr=>rw[hc]at h2;exact h2.elim
end Go.Vai

namespace Go.Vai
open Go
variable {β:Type}{fl:β}{good:β->Prop}{pr:ko β}{P:Program}{φ:ee}{h h':Heap}{w:World}{t:TypeId}
variable {ops:Array Oper}{nt:Nat}{φ0:ee}{h0:Heap}{w0:World}{ds:List Deferred}{listed:Array Bool}{D M:Nat}{tm lJ:T Value}{own:Nat->Option Nat}{a:Act}
theorem ET:∀(vD:List It),wR P ops.toList D M tm h vD=true->∀k q,(k,q)∈vD->bit D k=true->bit M k=false->∀x g,iC P q.op=.rd x->guardOf ops.toList q=some g->iB tm g=true->
  ∃v,k_ x tm h=some v/\∀d,q.dst=some d->cL tm d=v:=by
 intro vD
 induction vD with
 |nil=>intro _ k q hm;cases hm
 |cons it vD ih=>
  obtain⟨j,o⟩:=it;intro hs k q hm hD hM x g hc hg hw;simp only[List.mem_cons]at hm;unfold wR at hs;rcases hm with e|hm
  .cases e;simp only[hD,hM,hc,hg,hw,Bool.not_false,Bool.and_true,Bool.and_eq_true]at hs;have hs:=hs.1;split at hs
   .rename_i v d hv hd;refine⟨v,hv,λd' hd'=>?_⟩;rw[hd]at hd';cases hd';exact(IU 8 _ _ hs).symm
   .rename_i v hv hd;exact⟨v,hv,λd' hd'=>by rw[hd]at hd';cases hd'⟩
   .cases hs
  .refine ih ?_ k q hm hD hM x g hc hg hw;split at hs
   .simp only[Bool.and_eq_true]at hs;exact hs.2
   .exact hs
theorem EU{vD:List It}(ha:B6 P D M vD=false){k:Nat}{q:Oper}(hm:(k,q)∈vD)(hD:bit D k=true)(hM:bit M k=false){x:Xm}(hc:iC P q.op=.rd x):False:=by
 unfold B6 at ha;rw[List.any_eq_false]at ha;have:=ha _ hm;simp[hD,hM,hc]at this
theorem Inv.wrote(inv:Inv P ops nt φ0 h0 w0 ds lJ listed D M tm h own φ a w)(hok:∀q∈ops.toList,fE nt q=true){i:Nat}{o:Oper}(ho:ops[i]? = some o)(hD:bit D i=false)(uk:∀e∈cE o,og listed e)(hst:Stat P ops i o)(hw:gH P o=true){M':Nat}(hM:∀k,bit M' k=true->og listed k)(hno:∀k q,ops[k]? = some q->bit D k=true->gH P q=false->bit M' k=false->∀d,o.dst=some d->q.dst≠some d/\d∉c_ ops.toList q){φ':ee}{w':World}{v v':Value}{h':Heap}(hv:VR φ' v v')(hr':HR P φ' h' w')(hx:Ext φ φ' h h' w w')(hre:∀k q,ops[k]? = some q->bit D k=true->bit M' k=false->¬og listed k->∀x g,iC P q.op=.rd x->guardOf ops.toList q=some g->iB (jK tm o.dst v) g=true->
   ∃v1,k_ x (jK tm o.dst v) h'=some v1/\∀d,q.dst=some d->cL (jK tm o.dst v) d=v1):Inv P ops nt φ0 h0 w0 ds lJ (listed.setIfInBounds i true) (fP D i) M' (jK tm o.dst v) h' own φ' (a.put o.dst v') w':=by
 have hil:i<listed.size:=by rw[inv.Xy];exact(Array.getElem?_eq_some_iff.mp ho).1
 have qM:=dQ (hok o (y8 ho));have afT:∀{k q},ops[k]? = some q->bit (fP D i) k=true->¬og (listed.setIfInBounds i true) k->bit D k=true/\¬og listed k/\gH P q=false/\bit M' k=false:=by
  intro k q hq hk w8;rw[gT hil]at w8;have hki:k≠i:=λe=>w8 (.inl e);have PD:¬og listed k:=λe=>w8 (.inr e);rw[dH,Bool.or_eq_true]at hk;have hk:bit D k=true:=by
   rcases hk with hk|hk
   .exact hk
   .exact absurd (by simpa using hk:i=k).symm hki
  refine⟨hk,PD,?_,?_⟩
  .cases PB:gH P q with
   |false=>rfl
   |true=>exact absurd (inv.wr k q hq hk PB) PD
  .cases hm:bit M' k with
   |false=>rfl
   |true=>exact absurd (hM k hm) PD
 refine⟨by simp[inv.Xy],?_,?_,?_,?_,?_,inv.small,by rw[ES];exact inv.size,?_,hr',inv.ext.trans hx,by rw[Kx];exact inv.dfs,?_,λt ht hno=>by rw[gP inv.small qM ht,if_neg (hno i o ho)];exact inv.keep t ht hno⟩
 .intro k hk;rw[dH];rcases(gT hil).mp hk with rfl|hk
  .simp
  .rw[inv.sub k hk];rfl
 .intro k q hq hk e he;rw[gT hil];rcases(gT hil).mp hk with rfl|hk
  .rw[ho]at hq;cases hq;exact .inr (uk e he)
  .exact .inr (inv.clo k q hq hk e he)
 .intro k q hq hk Zg;rw[gT hil];rw[dH,Bool.or_eq_true]at hk;rcases hk with hk|hk
  .exact .inr (inv.wr k q hq hk Zg)
  .exact .inl (by simpa using hk:i=k).symm
 .intro k hk;rw[gT hil];exact .inr (hM k hk)
 .intro k q hq hk;rw[dH,Bool.or_eq_true]at hk;have up:∀{e},bit D e=true->bit (fP D i) e=true:=λhe=>by rw[dH,he];rfl
  rcases hk with hk|hk
  .exact⟨(inv.st k q hq hk).1,λe he=>up ((inv.st k q hq hk).2 e he)⟩
  .have hk:i=k:=by simpa using hk
   subst hk;rw[ho]at hq;cases hq;exact⟨hst,λe he=>up (inv.sub e (uk e he))⟩
 .intro t ht hnot;rw[EP (by rw[inv.size];exact ht),gP inv.small qM ht];by_cases hd:o.dst=some t
  .rw[if_pos hd,if_pos hd];exact hv
  .rw[if_neg hd,if_neg hd];refine(inv.rel t ht λk q hq hk w8=>hnot k q hq (by rw[dH,hk];rfl) ?_).mono hx.sub;rw[gT hil];rintro(rfl|hh)
   .rw[hk]at hD;cases hD
   .exact w8 hh
 ·intro k q hq hk w8;obtain⟨dB,hk2,vT,vm⟩:=afT hq hk w8;have hl:∀t∈c_ ops.toList q,cL (jK tm o.dst v) t=cL tm t:=by
   intro t ht;rw[gP inv.small qM (mF hok (y8 hq) ht),if_neg];intro he;exact(hno k q hq dB vT vm t he).2 ht
  have hd:∀d,q.dst=some d->cL (jK tm o.dst v) d=cL tm d:=by
   intro d Ef;have hlt:d<nt:=by have:=dQ (hok q (y8 hq));rw[Ef]at this;exact dP this
   rw[gP inv.small qM hlt,if_neg];intro he;exact(hno k q hq dB vT vm d he).1 Ef
  refine(inv.mg k q hq dB hk2).keep hl hd (λx v1 g hc hg vS _ _=>hre k q hq dB vm hk2 x g hc hg vS) ?_;intro n ob e1 e2 e3 e4 e5;refine⟨e1,by rw[hx.B9 n e4 e3];exact e2,?_,Nat.lt_of_lt_of_le e4 hx.nx⟩;cases hp:φ' n with
  |none=>rfl
  |some pl=>have:=(hx.new n pl e3 hp).1;omega
theorem Inv.write(hfl:¬good fl)(hp:gQ good pr P){rec:Rec β}(fF:mE good P rec)(inv:Inv P ops nt φ0 h0 w0 ds lJ listed D M tm h own φ a w)(hok:∀q∈ops.toList,fE nt q=true){i:Nat}{o:Oper}(ho:ops[i]? = some o)(hD:bit D i=false)(uk:∀e∈cE o,og listed e)(hst:Stat P ops i o)(hw:gH P o=true){M':Nat}(hM:∀k,bit M' k=true->og listed k)(hno:∀k q,ops[k]? = some q->bit D k=true->gH P q=false->bit M' k=false->∀d,o.dst=some d->q.dst≠some d/\d∉c_ ops.toList q){V:T Value->Heap->β}(hg:good (kq fl pr P rec ops.toList D M' o tm h V)){Q:Exit->Act->World->Prop}{K:Act->World->Prop}{r0:Option Nat}(hK:∀cQ h' φ' a' w',Inv P ops nt φ0 h0 w0 ds lJ (listed.setIfInBounds i true) (fP D i) M' cQ h' own φ' a' w'->good (V cQ h')->K a' w'):wpOpIn (FR r0) 0 P ops Q i K a w:=by
 simp only[wpOpIn,ho];unfold kq at hg;split at hg
 .exact absurd hg hfl
 rename_i g IY;rw[inv.wanted hok ho hst uk IY];split at hg
 ·rename_i vS;rw[gO]at hg;rw[vS,if_neg (by simp)];refine⟨lX,?_⟩;refine hK _ _ φ _ w (inv.wrote hok ho hD uk hst hw hM hno VR.undef inv.hr (Ext.refl _ _ _) ?_) hg;intro k q hq hk hkM w8 x g' hc hg' Uv;have vT:=I5 hc;have qM:=dQ (hok o (y8 ho));have hl:∀t∈c_ ops.toList q,cL (jK tm o.dst undef) t=cL tm t:=by
   intro t ht;rw[gP inv.small qM (mF hok (y8 hq) ht),if_neg];intro he;exact(hno k q hq hk vT hkM t he).2 ht
  obtain⟨g2,e1,e2,e3⟩:=inv.mg k q hq hk w8;rw[hg']at e1;cases e1;have e3:=e3 (by rw[<-oJ hg' hl];exact Uv);rw[hc]at e3;obtain⟨v,k1,k2⟩:=e3;refine⟨v,?_,λd Ef=>?_⟩
  .unfold k_ at *
   rw[XI.congr (λy hy=>qL hl y (vQ (qK hc) y hy))];exact k1
  .have hlt:d<nt:=by have:=dQ (hok q (y8 hq));rw[Ef]at this;exact dP this
   rw[gP inv.small qM hlt,if_neg]
   .exact k2 d Ef
   .intro he;exact(hno k q hq hk vT hkM d he).1 Ef
 .rename_i vS;rw[vS,if_pos rfl];rw[M7 hw]at hg;refine EJ hfl hp fF (inv.afR hok ho hst uk) inv.hr hg ?_;intro φ' v v' h' w' g1 g2 g3 g4;rw[gO]at g1;split at g1
  .rename_i ha;refine hK _ _ φ' _ w' (inv.wrote hok ho hD uk hst hw hM hno g2 g3 g4 ?_) g1;intro k q hq hk hkM w8 x g' hc hg' Uv;exact(EU ha (EM hq) hk hkM hc).elim
  .split at g1
   .rename_i um;refine hK _ _ φ' _ w' (inv.wrote hok ho hD uk hst hw hM hno g2 g3 g4 ?_) g1;intro k q hq hk hkM w8 x g' hc hg' Uv;exact ET _ um k q (EM hq) hk hkM x g' hc hg' Uv
   .exact absurd g1 hfl
theorem y9{S:Nat->Prop}:∀(l:List Nat)(m:Nat),(∀k,bit m k=true->S k)->(∀e∈l,S e)->∀k,bit (l.foldl fP m) k=true->S k:=by
 intro l
 induction l with
 |nil=>intro m h1 _ k hk;exact h1 k hk
 |cons e l ih=>
  intro m h1 h2 k hk;refine ih (fP m e) ?_ (λx hx=>h2 x (by simp[hx])) k hk;intro x hx;rw[dH,Bool.or_eq_true]at hx;rcases hx with hx|hx
  .exact h1 x hx
  .have:e=x:=by simpa using hx
   subst this;exact h2 e (by simp)
theorem M8{S:Nat->Prop}{os:List Oper}(hc:∀i o,os[i]? = some o->S i->∀e∈cE o,S e):∀(i m:Nat),(∀k,bit m k=true->S k)->∀k,bit (O9 os i m) k=true->S k:=by
 intro i
 induction i with
 |zero=>intro m h1 k hk;exact h1 k hk
 |succ i ih=>
  intro m h1 k hk;unfold O9 at hk;split at hk
  .rename_i o hb ho;exact ih _ (y9 _ _ h1 (hc i o ho (h1 i hb))) k hk
  .exact ih m h1 k hk
theorem I6{S:Nat->Prop}{os:List Oper}(hc:∀i o,os[i]? = some o->S i->∀e∈cE o,S e){i:Nat}{o:Oper}(ho:os[i]? = some o)(hp:∀e∈cE o,S e):∀k,bit (sn os i) k=true->S k:=by
 unfold sn;rw[ho];exact M8 hc i _ (y9 _ _ (λk hk=>by rw[EL]at hk;cases hk) hp)
theorem Cg{i:Nat}(hi:i∈Region.ready .any ops listed):∃o,ops[i]? = some o/\¬og listed i/\∀e∈cE o,og listed e:=by
 unfold Region.ready at hi;simp only[List.mem_filter,List.mem_range,Bool.and_eq_true]at hi;obtain⟨h1,h2,h3⟩:=hi;have ho:ops[i]? = some ops[i]:=by simp[h1]
 refine⟨ops[i],ho,?_,?_⟩
 .intro hh;unfold og at hh;simp only[Array.getD_eq_getD_getElem?]at hh h2;cases hl:listed[i]? with
  |none=>rw[hl]at hh;simp at hh
  |some b=>rw[hl]at hh h2;simp at hh h2;rw[hh]at h2;cases h2
 .intro e he;rw[ho]at h3;simp only[Option.map_some,Option.getD_some,Array.all_eq_true']at h3;unfold cE at he;simp only[List.mem_map,List.mem_filter]at he;obtain⟨x,⟨hx,hb⟩,rfl⟩:=he;have:=h3 x (by simpa using hx);rw[hb]at this;simp only[Bool.not_true,Bool.false_or]at this;exact this
theorem mem_ready{i:Nat}{o:Oper}(ho:ops[i]? = some o)(hsz:listed.size=ops.size)(hn:¬og listed i)(hp:∀e∈cE o,og listed e):i∈Region.ready .any ops listed:=by
 have hlt:i<ops.size:=(Array.getElem?_eq_some_iff.mp ho).1;unfold Region.ready;simp only[List.mem_filter,List.mem_range,Bool.and_eq_true];refine⟨hlt,?_,?_⟩
 .have hll:i<listed.size:=by omega
  unfold og at hn;simp only[Array.getD_eq_getD_getElem?,getElem?_pos listed i hll]at hn ⊢;simpa using hn
 .rw[ho];simp only[Option.map_some,Option.getD_some,Array.all_eq_true'];intro e he;cases hb:Region.binds .any e with
  |false=>rfl
  |true=>
   have:=hp e.on (by unfold cE;simp only[List.mem_map,List.mem_filter];exact⟨e,⟨by simpa using he,hb⟩,rfl⟩);simp only[Bool.not_true,Bool.false_or];exact this
section
variable {nt:Nat}{V:T Value->Heap->β}{Q:Exit->Act->World->Prop}{r0:Option Nat}
theorem Zh{own:Nat->Option Nat}(inv:Inv P ops nt φ0 h0 w0 ds lJ listed D M tm h own φ a w)(hidx:∀i o,ops[i]? = some o->∀e∈cE o,e<i)(hr:Region.ready .any ops listed=[]):∀i o,ops[i]? = some o->og listed i:=by
 intro i
 induction i using Nat.strongRecOn with
 |_ i ih=>
  intro o ho;by_cases hi:og listed i
  .exact hi
  ·have hlt:i<ops.size:=(Array.getElem?_eq_some_iff.mp ho).1;have:=mem_ready ho inv.Xy hi λe he=>by
    have hei:=hidx i o ho e he;exact ih e hei ops[e] (by simp)
   rw[hr]at this;cases this
theorem Inv.full{own:Nat->Option Nat}(inv:Inv P ops nt φ0 h0 w0 ds lJ listed D M tm h own φ a w)(hall:∀i o,ops[i]? = some o->og listed i):TR φ nt tm a:=
 ⟨inv.size,inv.small,λt ht=>inv.rel t ht λi o ho _ hS=>absurd (hall i o ho) hS⟩
theorem qN{i:Nat}{is:List Nat}{D M:Nat}(hp:nT P ops.toList (i::is) D M=true):∃o,ops[i]? = some o/\
  Ui P ops.toList (fN ops.toList 0) D (match gH P o with|true=>Nat.lor M (sn ops.toList i)|false=>M) i o=true/\
  nT P ops.toList is (fP D i) (match gH P o with|true=>Nat.lor M (sn ops.toList i)|false=>M)=true:=by
 unfold nT at hp;split at hp<;>try contradiction
 rename_i o ho;rw[Array.getElem?_toList]at ho;simp only[Bool.and_eq_true]at hp;exact⟨o,ho,hp.1,hp.2⟩
theorem alL(hfl:¬good fl)(hok:∀q∈ops.toList,fE nt q=true){rec:Rec β}{i:Nat}{o:Oper}(ho:ops[i]? = some o)(Kw:¬og listed i)(uk:∀e∈cE o,og listed e):∀(l:List Nat)(D M:Nat)(tm:T Value)(h:Heap)(own:Nat->Option Nat),Inv P ops nt φ0 h0 w0 ds lJ listed D M tm h own φ a w->nT P ops.toList l D M=true->good (jx fl pr P rec ops.toList l D M tm h V)->
   ∃l' D' cQ h' sY,Inv P ops nt φ0 h0 w0 ds lJ listed D' M cQ h' sY φ a w/\nT P ops.toList l' D' M=true/\good (jx fl pr P rec ops.toList l' D' M cQ h' V)/\
    (bit D' i=true\/(gH P o=true/\∃js,l'=i::js)):=by
 intro l
 induction l with
 |nil=>
  intro D M tm h own inv hp hg;refine⟨[],D,tm,h,own,inv,hp,hg,.inl ?_⟩;unfold nT at hp;rw[List.all_eq_true]at hp;exact hp _ (EM ho)
 |cons j js ih=>
  intro D M tm h own inv hp hg;by_cases Zi:bit D i=true
  .exact⟨j::js,D,tm,h,own,inv,hp,hg,.inl Zi⟩
  have Zi:bit D i=false:=by simpa using Zi
  obtain⟨q,hq,qm,qd⟩:=qN hp;obtain⟨k1,k2,k3,k4,k5⟩:=sX qm;cases hw:gH P q with
  |true=>
   have hij:i=j:=by
    by_cases hij:i=j
    .exact hij
    .have:=(k5 hw).1 i o ho hij Zi;have hrd:qw D o=true:=by unfold qw;rw[List.all_eq_true];exact λe he=>inv.sub e (uk e he)
     rw[hrd]at this;cases this
   subst hij;rw[ho]at hq;cases hq;exact⟨i::js,D,tm,h,own,inv,hp,hg,.inr ⟨hw,js,rfl⟩⟩
  |false=>
   rw[hw]at qd qm;simp only at qd;unfold jx at hg;rw[Array.getElem?_toList,hq]at hg;simp only[hw]at hg;obtain⟨cQ,h',sY,inv',hg'⟩:=inv.advance hfl hok hq k1 k2 k4 hw hg;exact ih _ M cQ h' sY inv' qd hg'
theorem Uw(hfl:¬good fl)(hp:gQ good pr P){rec:Rec β}(fF:mE good P rec)(hok:∀q∈ops.toList,fE nt q=true)(hidx:∀i o,ops[i]? = some o->∀e∈cE o,e<i)(hQ:∀cQ h' φ' a' w',good (V cQ h')->TR φ' nt cQ a'->HR P φ' h' w'->Ext φ0 φ' h0 h' w0 w'->a'.defers=ds->(∀t,t<nt->(∀(i:Nat)(o:Oper),ops[i]? = some o->o.dst≠some t)->cL cQ t=cL lJ t)->Q .normal a' w'):∀(fuel:Nat)(listed:Array Bool)(l:List Nat)(D M:Nat)(tm:T Value)(h:Heap)(own:Nat->Option Nat)(φ:ee)(a:Act) (w:World),listed.toList.count false<=fuel->Inv P ops nt φ0 h0 w0 ds lJ listed D M tm h own φ a w->
   nT P ops.toList l D M=true->good (jx fl pr P rec ops.toList l D M tm h V)->wpAnyIn (FR r0) 0 P .any ops Q fuel listed a w:=by
 have fin:∀(listed:Array Bool)(l:List Nat)(D M:Nat)(tm:T Value)(h:Heap)(own:Nat->Option Nat)(φ:ee)(a:Act)(w:World),Inv P ops nt φ0 h0 w0 ds lJ listed D M tm h own φ a w->
   nT P ops.toList l D M=true->good (jx fl pr P rec ops.toList l D M tm h V)->Region.ready .any ops listed=[]->Q .normal a w:=by
  intro listed l D M tm h own φ a w inv Ph hg hr;have hall:=Zh inv hidx hr;cases l with
  |nil=>exact hQ tm h φ a w hg (inv.full hall) inv.hr inv.ext inv.dfs inv.keep
  |cons j js=>
   obtain⟨q,hq,qm,_⟩:=qN Ph;have:=(sX qm).1;rw[inv.sub j (hall j q hq)]at this;cases this
 intro fuel
 induction fuel with
 |zero=>
  intro listed l D M tm h own φ a w hc inv Ph hg;have hr:Region.ready .any ops listed=[]:=by
   cases hr:Region.ready .any ops listed with
   |nil=>rfl
   |cons i is=>
    obtain⟨o,ho,Kw,_⟩:=Cg (listed:=listed) (ops:=ops) (i:=i) (by rw[hr];exact List.mem_cons_self);have hlt:i<listed.size:=by rw[inv.Xy];exact(Array.getElem?_eq_some_iff.mp ho).1
    have:false∈listed.toList:=by
     unfold og at Kw;simp only[Array.getD_eq_getD_getElem?,getElem?_pos listed i hlt,Option.getD_some]at Kw;have:listed[i]=false:=by simpa using Kw
     rw[<-this];exact Array.getElem_mem_toList hlt
    have:=List.count_pos_iff.mpr this;omega
  exact⟨hr,fin listed l D M tm h own φ a w inv Ph hg hr⟩
 |succ fuel ih=>
  intro listed l D M tm h own φ a w hc inv Ph hg;refine⟨fin listed l D M tm h own φ a w inv Ph hg,λi hi=>?_⟩;obtain⟨o,ho,Kw,uk⟩:=Cg hi;have hlt:i<listed.size:=by rw[inv.Xy];exact(Array.getElem?_eq_some_iff.mp ho).1
  have afU:(listed.setIfInBounds i true).toList.count false<=fuel:=by
   have hfi:listed.toList[i]'(by simpa using hlt)=false:=by
    unfold og at Kw;simp only[Array.getD_eq_getD_getElem?,getElem?_pos listed i hlt,Option.getD_some]at Kw;simpa using Kw
   rw[Array.toList_setIfInBounds,List.count_set (by simpa using hlt),hfi];change listed.toList.count false-1+0<=fuel;omega
  obtain⟨l',D',cQ,h',sY,inv',afV,hg',hend⟩:=alL hfl hok ho Kw uk l D M tm h own inv Ph hg;by_cases Zi:bit D' i=true
  .exact inv'.late hok ho Zi Kw uk λφ' a' w' inv2=>ih _ l' D' M cQ h' sY φ' a' w' afU inv2 afV hg'
  .rcases hend with hend|⟨hw,js,rfl⟩
   .exact absurd hend Zi
   obtain⟨q,hq,qm,qd⟩:=qN afV;rw[ho]at hq;cases hq;rw[hw]at qm qd;simp only at qm qd;obtain⟨k1,k2,k3,k4,k5⟩:=sX qm;unfold jx at hg';rw[Array.getElem?_toList,ho]at hg';simp only[hw]at hg';refine inv'.write hfl hp fF hok ho k1 uk k4 hw ?_ (k5 hw).2 hg' λtm2 h2 φ2 a2 w2 inv2 hg2=>ih _ js _ _ tm2 h2 sY φ2 a2 w2 afU inv2 qd hg2;intro k hk;rw[Zf,Bool.or_eq_true]at hk;rcases hk with hk|hk
   .exact inv'.mS k hk
   .exact I6 (S:=og listed) (os:=ops.toList) (λj q hq hj=>inv'.clo j q (by rw[<-Array.getElem?_toList];exact hq) hj) (by rw[Array.getElem?_toList];exact ho) uk k hk
end
theorem s9(hfl:¬good fl)(hp:gQ good pr P)(hm:P.follows .mixedOrders=true):IZ good fl pr P:=by
 intro rec fF ops id nt hok φ tm h a w V ht hr hg r0 Q hQ;unfold lU at hg;split at hg
 .contradiction
 split at hg
 .rename_i l hl;unfold C2 at hl;split at hl<;>try contradiction
  split at hl<;>try contradiction
  rename_i Zj;cases hl;simp only[Bool.and_eq_true]at Zj;refine wpIn_region_any hm ?_;have Uq:∀i,¬og (Array.replicate ops.size false) i:=by
   intro i hi;unfold og at hi;simp only[Array.getD_eq_getD_getElem?,Array.getElem?_replicate]at hi;split at hi<;>simp at hi
  refine Uw (φ0:=φ) (h0:=h) (w0:=w) (ds:=a.defers) (lJ:=tm) hfl hp fF hok ?_ hQ ops.size _ l 0 0 tm h (λ_=>none) φ a { w with drawn:=w.drawn+1 } ?_ ?_ Zj.1 hg
  .intro i o ho e he;have:=Zj.2;rw[List.all_eq_true]at this;have:=this _ (EM ho);simp only[List.all_eq_true]at this;exact dP (this e he)
  .refine Nat.le_trans List.count_le_length (by simp)
  .have nb:∀k,bit 0 k=true->False:=λk hb=>by rw[EL]at hb;cases hb
   exact⟨by simp,λi hi=>absurd hi (Uq i),λi o _ hi=>absurd hi (Uq i),λi o _ hb=>(nb i hb).elim,λi hb=>(nb i hb).elim,λi o _ hb=>(nb i hb).elim,
    ht.small,ht.size,λt hlt _=>ht.rel t hlt,hr.drew,(Ext.refl φ h w).drew,rfl,λi o _ hb=>(nb i hb).elim,λ_ _ _=>rfl⟩
 .exact absurd hg hfl
end Go.Vai

namespace Go.Vai
open Go
variable {pr:ko Bool}{P:Program}{w:World}
theorem HR.start(w:World):HR P (λ_=>none) ⟨0,.nil,0⟩ w:=
 ⟨λ_ _ _ _ e=>(by cases e),λ_ _ e=>(by cases e),λb o _ e=>(by rw[T.get_nil]at e;cases e),by decide,λ_ _ _ _ _ _ _ _ _ _ e=>(by cases e),Nat.le_refl _⟩
def yes(b:Bool):Prop:=b=true
def Ux:ko Bool:=⟨λ_=>none,λa b=>match a with|true=>b|false=>false⟩
theorem Dj:gQ yes Ux P:=⟨λx y hxy=>by cases x<;>simp[Ux,yes]at hxy ⊢;exact hxy,λf g hg=>by cases hg⟩
end Go.Vai

namespace Go.Vai
open Go Go.RowKit
variable {P:Program}
theorem VR.ot{φ:ee}{v:Value}(hv:kj v=true):VR φ v v:=by
 cases v<;>first|exact VR.bool _|exact VR.int _ _|exact VR.string _|cases hv
theorem VR.Uy{φ:ee}{v v':Value}(hv:kj v=true)(h:VR φ v v'):v'=v:=by
 cases h<;>first|rfl|cases hv
theorem F2.ot{φ:ee}:∀{l:List Value},l.all kj=true->F2 (VR φ) l l:=by
 intro l
 induction l with
 |nil=>intro _;exact .nil
 |cons v l ih=>
  intro h;simp only[List.all_cons,Bool.and_eq_true]at h;exact .cons (VR.ot h.1) (ih h.2)
end Go.Vai

namespace Go.Vai
open Go
def CallW(P:Program)(f:FuncId)(args:List Value)(h:Heap)(V:KQ):Prop:=
 ∀(φ:ee)(w:World)(args':List Value),F2 (VR φ) args args'->HR P φ h w->vN (λp:Prop=>p) P φ h w V f args'.toArray
def Eg(P:Program):ko Prop:=⟨λf=>some (CallW P f),And⟩
def jC:Rec Prop:=λ_ _ _ _=>False
abbrev Zk(i:XI Prop)(tm:T Value)(h:Heap)(V:KQ):Prop:=
 XI.rec (motive:=λ_=>Prop) (λf=>f h V) (λx f=>f (fM tm x) h V) (λx y f=>f (fM tm x) (fM tm y) h V)
  (λx y z f=>f (fM tm x) (fM tm y) (fM tm z) h V) (λxs f=>f (xs.map (fM tm)) h V) i
abbrev afW(i:XA Prop)(tm:T Value)(V:bD->(Nat->Value)->Prop):Prop:=
 XA.rec (motive:=λ_=>Prop) (λf=>f V) (λx f=>f (fM tm x) V) (λx y f=>f (fM tm x) (fM tm y) V) (λxs f=>f (xs.map (fM tm)) V) i
def fJ(P:Program)(fv:Value)(args:List Value)(h:Heap)(V:KQ):Prop:=sk False (Eg P) P jC fv args h V
def CallI(P:Program)(name:String)(r:Value)(args:List Value)(h:Heap)(V:KQ):Prop:=O6 False (Eg P) P jC name r args h V
def Dk(P:Program)(c:Call)(tm:T Value)(h:Heap)(V:KQ):Prop:=
 match c.callee with
 | .value (.func f)=>CallW P f (c.args.toList.map (fM tm)) h V
 | .value x=>fJ P (fM tm x) (c.args.toList.map (fM tm)) h V
 | .invoke r name=>CallI P name (fM tm r) (c.args.toList.map (fM tm)) h V
 | .builtin _=>False
def mG(P:Program)(op:Op)(tm:T Value)(h:Heap)(V:KQ):Prop:=
 match qb False P op with
 |some i=>Zk i tm h V
 |none=>match sj False P op with
  |some i=>afW i tm λo mk=>ax False o h λb h=>V (mk b) h
  |none=>match B3 False P op with
   |some i=>Zk i tm h V
   |none=>match op with
    | .call c=>Dk P c tm h V
    | .next it false=>oz False And (fM tm it) h V
    |_=>False
def au(v:Value)(w:Bool):Bool:=match v,w with | .bool true,true=>true | .bool false,false=>true|_,_=>false
def af(b:Bool)(f:(Value->Heap->Prop)->Prop)(h:Heap)(V:KQ):Prop:=match b with|true=>f V|false=>V undef h
noncomputable abbrev PE(P:Program)(all os:List Oper):T Value->Heap->(T Value->Heap->Prop)->Prop:=
 List.rec (motive:=λ_=>T Value->Heap->(T Value->Heap->Prop)->Prop) (λtm h V=>V tm h)
  (λo _ ih tm h V=>Option.rec (motive:=λ_=>Prop) False
   (λg=>Option.rec (motive:=λ_=>Prop) (mG P o.op tm h λv h=>ih (jK tm o.dst v) h V)
    (λsw=>af (au (cL tm sw.1) sw.2) (λκ'=>mG P o.op tm h κ') h λv h=>ih (jK tm o.dst v) h V) g) (guardOf all o)) os
def az(o:Option Value)(h:Heap)(V:KQ):Prop:=match o with|some v=>V v h|none=>False
def y_(o:Option (bD × (Nat->Value)))(h:Heap)(V:KQ):Prop:=match o with|some (b,mk)=>ax False b h λn h=>V (mk n) h|none=>False
def bP(b:Bool)(p:Prop):Prop:=match b with|true=>p|false=>False
def bW(o:Option Value)(v:Value):Bool:=match o with|some u=>kY 8 u v|none=>false
def reN(o:Option Value):Bool:=match o with|some _=>true|none=>false
def reG(b r:Bool):Bool:=match b with|true=>r|false=>true
def Uz(x:Xm)(tm:T Value)(h:Heap):Option Value:=
 XI.rec (motive:=λ_=>Option Value) (λf=>f h λv _=>some v) (λx f=>f (fM tm x) h λv _=>some v) (λx y f=>f (fM tm x) (fM tm y) h λv _=>some v)
  (λx y z f=>f (fM tm x) (fM tm y) (fM tm z) h λv _=>some v) (λxs f=>f (xs.map (fM tm)) h λv _=>some v) x
def mkW(x:OXA)(tm:T Value):Option (bD × (Nat->Value)):=
 XA.rec (motive:=λ_=>Option (bD × (Nat->Value))) (λf=>f λo mk=>some (o,mk)) (λx f=>f (fM tm x) λo mk=>some (o,mk)) (λx y f=>f (fM tm x) (fM tm y) λo mk=>some (o,mk)) (λxs f=>f (xs.map (fM tm)) λo mk=>some (o,mk)) x
def EV(P:Program)(os:List Oper)(D M:Nat)(tm:T Value)(h:Heap):List It->Bool
 | []=>true
 |(k,q)::vD=>match bit D k && !bit M k,iC P q.op with
  |true,.rd x=>(match guardOf os q with
   |some none=>(match q.dst with|some d=>bW (Uz x tm h) (cL tm d)|none=>reN (Uz x tm h))
   |some (some (s,w))=>reG (au (cL tm s) w) (match q.dst with|some d=>bW (Uz x tm h) (cL tm d)|none=>reN (Uz x tm h))
   |none=>false) && EV P os D M tm h vD
  |_,_=>EV P os D M tm h vD
def Ky(P:Program)(os:List Oper)(D M:Nat)(o:Oper)(tm:T Value)(h:Heap)(V:KQ):Prop:=
 match iC P o.op with
 | .rd x=>az (Uz x tm h) h V
 | .al x=>y_ (mkW x tm) h V
 | .wr=>match B6 P D M (fN os 0)with
  |false=>mG P o.op tm h V
  |true=>mG P o.op tm h λv h=>bP (EV P os D M (jK tm o.dst v) h (fN os 0)) (V v h)
def EW(P:Program)(os:List Oper):List Nat->Nat->Nat->T Value->Heap->(T Value->Heap->Prop)->Prop
 | [],_,_,tm,h,V=>V tm h
 |i::is,D,M,tm,h,V=>match os[i]? with
  |none=>False
  |some o=>match guardOf os o with
   |none=>False
   |some none=>Ky P os D (match gH P o with|true=>Nat.lor M (sn os i)|false=>M) o tm h λv h=>EW P os is (fP D i) (match gH P o with|true=>Nat.lor M (sn os i)|false=>M) (jK tm o.dst v) h V
   |some (some (s,w))=>af (au (cL tm s) w) (λκ'=>Ky P os D (match gH P o with|true=>Nat.lor M (sn os i)|false=>M) o tm h κ') h λv h=>EW P os is (fP D i) (match gH P o with|true=>Nat.lor M (sn os i)|false=>M) (jK tm o.dst v) h V
def UA(P:Program)(os:List Oper)(draw:Bool)(tm:T Value)(h:Heap)(V:T Value->Heap->Prop):Prop:=
 match draw with
 |false=>PE P os os tm h V
 |true=>match C2 P os with
  |some l=>EW P os l 0 0 tm h V
  |none=>False
def M9(n:Nat)(l:List Nat):List Nat:=match l.any (Nat.beq n)with|true=>l|false=>n::l
def s_(l:List Oper):List Nat:=l.foldr (λo r=>match o.dst with|some d=>M9 d r|none=>r) []
def Kz(l m:List Nat):List Nat:=l.foldr M9 m
def tO:Code->List Nat
 | .region _ os _=>s_ os.toList
 | .seq a b | .cond _ a b=>Kz (tO a) (tO b)
 | .block _ c | .loop c | .scope c=>tO c
 |_=>[]
def KB(id:Nat):Code->Nat
 | .exit i=>match Nat.beq i id with|true=>1|false=>0
 | .seq a b | .cond _ a b=>KB id a+KB id b
 | .block _ c | .loop c | .scope c=>KB id c
 |_=>0
def ways:Code->Nat
 | .seq a b=>ways a*ways b
 | .cond _ a b=>ways a+ways b
 | .block id c=>ways c+KB id c
 | .loop _=>0
 | .scope c=>ways c
 | .exit _ | .ret=>0
 |_=>1
def slot(l:List Value)(i:Nat):Value:=l.getD i undef
def PF:Nat->List Nat->List Value->T Value->T Value
 |_,[],_,tm=>tm
 |i,s::ss,l,tm=>PF (i+1) ss l (tm.aV s (slot l i))
def M_(ss:List Nat)(l:List Value)(tm:T Value):T Value:=PF 0 ss l tm
abbrev KT:=Ex->T Value->Heap->Prop
abbrev toN(N:List Value->Heap->Prop)(ss:List Nat)(V:KT):KT:=λe tm h=>Ex.rec (motive:=λ_=>Prop) (N (ss.map (cL tm)) h) (λi=>V (.exit i) tm h) (V .ret tm h) e
def cO(A:(List Value->Heap->Prop)->Prop)(B:List Value->Heap->Prop):Prop:=
 ∃J:List Value->Heap->Prop,A J/\∀l h,J l h->B l h
def dU(l0:List Value)(h0:Heap)(body:List Value->Heap->(List Value->Heap->Prop)->Prop):Prop:=
 ∃I:Nat->List Value->Heap->Prop,(∃n,I n l0 h0)/\∀n l h,I n l h->body l h λl' h'=>∃m,m<n/\I m l' h'
def aJ(v:Value)(A B:Prop):Prop:=match v with | .bool true=>A | .bool false=>B|_=>False
abbrev alP(B:T Value->Heap->KT->Prop)(V:KT):KT:=λe tm h=>Ex.rec (motive:=λ_=>Prop) (B tm h V) (λi=>V (.exit i) tm h) (V .ret tm h) e
abbrev Zl(id:Nat)(V:KT):KT:=λe tm h=>Ex.rec (motive:=λ_=>Prop) (V .normal tm h) (λi=>Bool.rec (motive:=λ_=>Prop) (V (.exit i) tm h) (V .normal tm h) (Nat.beq i id)) (V .ret tm h) e
def WP(P:Program):Code->T Value->Heap->KT->Prop
 | .skip,tm,h,V=>V .normal tm h
 | .label _,tm,h,V=>V .normal tm h
 | .region _ os draw,tm,h,V=>UA P os.toList draw tm h λtm h=>V .normal tm h
 | .seq a b,tm,h,V=>match Nat.ble (ways a) 1 with
  |true=>WP P a tm h (alP (WP P b) V)
  |false=>cO (λN=>WP P a tm h (toN N (tO a) V)) λl h=>WP P b (M_ (tO a) l tm) h V
 | .cond c a b,tm,h,V=>aJ (fM tm c) (WP P a tm h V) (WP P b tm h V)
 | .block id c,tm,h,V=>WP P c tm h (Zl id V)
 | .scope c,tm,h,V=>WP P c tm h V
 | .loop c,tm,h,V=>dU ((tO c).map (cL tm)) h λl h N=>WP P c (M_ (tO c) l tm) h (toN N (tO c) V)
 | .exit id,tm,h,V=>V (.exit id) tm h
 | .ret,tm,h,V=>V .ret tm h
 |_,_,_,_=>False
abbrev Na(h:Heap)(tm:T Value):List sO->(List Value->Prop)->Prop:=
 List.rec (motive:=λ_=>(List Value->Prop)->Prop) (λV=>V [])
  (λr _ ih V=>sO.rec (motive:=λ_=>Prop) (λt=>ih λvs=>V (cL tm t::vs)) (λa=>load1 False (cL tm a) h λv _=>ih λvs=>V (v::vs))
   (λa s=>aF False s (cL tm a) h λv _=>ih λvs=>V (v::vs)) False r)
abbrev UB(V:KQ)(h:Heap)(vs:List Value):Prop:=
 List.rec (motive:=λ_=>Prop) (V (.tuple #[]) h) (λv vs' _=>List.rec (motive:=λ_=>Prop) (V v h) (λ_ _ _=>V (.tuple ⟨vs⟩) h) vs') vs
abbrev alQ(rs:List sO)(V:KQ):KT:=λe tm h=>Ex.rec (motive:=λ_=>Prop) (Na h tm rs λvs=>UB V h vs) (λ_=>False) (Na h tm rs λvs=>UB V h vs) e
def aM(P:Program)(f:FuncId)(args:List Value)(h:Heap)(V:KQ):Prop:=
 match yE P f with
 | .none=>False
 | .mk c rs nt=>match Nat.ble args.length nt with
  |true=>WP P c (lay args .nil 0) h (alQ rs V)
  |false=>False
variable {P:Program}
theorem KC(i:XI Prop)(tm:T Value)(h:Heap)(V:KQ):i.run tm h V=Zk i tm h V:=by
 cases i with
 |k0 f=>rfl
 |k1 x f=>exact XI.cB ..
 |k2 x y f=>exact XI.dK ..
 |k3 x y z f=>exact XI.sQ ..
 |kn xs f=>exact XI.iG ..
theorem UC(i:XA Prop)(tm:T Value)(V:bD->(Nat->Value)->Prop):i.run tm V=afW i tm V:=by
 cases i with
 |k0 f=>rfl
 |k1 x f=>exact XA.cB ..
 |k2 x y f=>exact XA.dK ..
 |kn xs f=>exact XA.iG ..
theorem PG(x:Xm)(tm:T Value)(h:Heap):k_ x tm h=Uz x tm h:=by
 unfold k_;cases x with
 |k0 f=>rfl
 |k1 x f=>exact XI.cB ..
 |k2 x y f=>exact XI.dK ..
 |k3 x y z f=>exact XI.sQ ..
 |kn xs f=>exact XI.iG ..
theorem Zm(x:OXA)(tm:T Value):yG x tm=mkW x tm:=by
 unfold yG;cases x with
 |k0 f=>rfl
 |k1 x f=>exact XA.cB ..
 |k2 x y f=>exact XA.dK ..
 |kn xs f=>exact XA.iG ..
theorem I7(c:Call)(tm:T Value)(h:Heap)(V:KQ):oB False (Eg P) P c jC tm h V=Dk P c tm h V:=by
 unfold oB Dk;cases c.callee with
 |value x=>cases x<;>(simp only[sP,e_];rfl)
 |invoke r name=>simp only[sP,e_];rfl
 |builtin b=>rfl
theorem Dl(op:Op)(tm:T Value)(h:Heap)(V:KQ):qu False (Eg P) P op jC tm h V=mG P op tm h V:=by
 unfold qu mG;cases hR:qb False P op with
 |some i=>exact KC ..
 |none=>
  cases hA:sj False P op with
  |some i=>exact UC ..
  |none=>
   cases hW:B3 False P op with
   |some i=>exact KC ..
   |none=>
    cases op<;>try rfl
    case call c=>exact I7 ..
    case next it s=>cases s<;>first|rfl|(simp only[e_];rfl)
theorem ta(tm:T Value)(s:Nat)(w:Bool):iB tm (some (s,w))=au (cL tm s) w:=rfl
theorem Zn(f:(Value->Heap->Prop)->Prop)(tm:T Value)(h:Heap)(s:Nat)(w:Bool)(d:Option Nat)(k:T Value->Heap->Prop):af (au (cL tm s) w) f h (λv h=>k (jK tm d v) h)=Bool.rec (motive:=λ_=>Prop) (qi tm d undef h k) (f λv h=>qi tm d v h k) (iB tm (some (s,w))):=by
 rw[ta];cases au (cL tm s) w with
 |true=>show f _=f _;simp only[gO]
 |false=>show k _ h=qi tm d undef h k;rw[gO]
theorem UD(all:List Oper):∀(os:List Oper)(tm:T Value)(h:Heap)(V:T Value->Heap->Prop),PE P all os tm h V=pL False (Eg P) P jC all os tm h V:=by
 intro os
 induction os with
 |nil=>intro tm h V;rfl
 |cons o os ih=>
  intro tm h V;have ih':(λtm h=>PE P all os tm h V)=λtm h=>pL False (Eg P) P jC all os tm h V:=by funext tm h;exact ih tm h V
  show Option.rec (motive:=λ_=>Prop) False (λg=>Option.rec (motive:=λ_=>Prop) (mG P o.op tm h λv h=>(λtm h=>PE P all os tm h V) (jK tm o.dst v) h)
    (λsw=>af (au (cL tm sw.1) sw.2) (λκ'=>mG P o.op tm h κ') h λv h=>(λtm h=>PE P all os tm h V) (jK tm o.dst v) h) g) (guardOf all o)=XO.rec (motive:=λ_=>Prop)
   (λg d f=>Bool.rec (motive:=λ_=>Prop) (qi tm d undef h λtm h=>pL False (Eg P) P jC all os tm h V)
    (f jC tm h λv h=>qi tm d v h λtm h=>pL False (Eg P) P jC all os tm h V) (iB tm g)) (B4 False (Eg P) P all o)
  rw[ih'];unfold B4;cases guardOf all o with
  |none=>rfl
  |some g=>
   cases g with
   |none=>
    show mG P o.op tm h _=qu False (Eg P) P o.op jC tm h λv h=>qi tm o.dst v h _
    simp only[gO];rw[Dl]
   |some sw=>
    obtain⟨s,w⟩:=sw
    show af (au (cL tm s) w) (λκ'=>mG P o.op tm h κ') h _=Bool.rec (motive:=λ_=>Prop) _ (qu False (Eg P) P o.op jC tm h _) _
    refine(Zn (λκ'=>mG P o.op tm h κ') tm h s w o.dst λtm h=>pL False (Eg P) P jC all os tm h V).trans ?_;simp only[Dl]
theorem PI(os:List Oper)(D M:Nat)(tm:T Value)(h:Heap):∀vD:List It,EV P os D M tm h vD=wR P os D M tm h vD:=by
 intro vD
 induction vD with
 |nil=>rfl
 |cons it vD ih=>
  obtain⟨k,q⟩:=it;unfold EV wR;cases bit D k && !bit M k with
  |false=>exact ih
  |true=>
   cases iC P q.op with
   |rd x=>
    simp only[ih,PG]
    congr 1
    cases guardOf os q with
    |none=>rfl
    |some g=>
     cases g with
     |none=>
      cases Uz x tm h<;>cases q.dst<;>rfl
     |some sw=>
      obtain⟨s,w⟩:=sw;simp only[ta];cases au (cL tm s) w
      .rfl
      .cases Uz x tm h<;>cases q.dst<;>rfl
   |al x=>exact ih
   |wr=>exact ih
theorem I8(os:List Oper)(D M:Nat)(o:Oper)(tm:T Value)(h:Heap)(k:T Value->Heap->Prop):Ky P os D M o tm h (λv h=>k (jK tm o.dst v) h)=(match iC P o.op with
   | .rd x=>match k_ x tm h with
    |some v=>qi tm o.dst v h k
    |none=>False
   | .al x=>match yG x tm with
    |some (b,mk)=>ax False b h λn h=>qi tm o.dst (mk n) h k
    |none=>False
   | .wr=>qu False (Eg P) P o.op jC tm h λv h=>qi tm o.dst v h λtm h=>
     match B6 P D M (fN os 0)with
     |false=>k tm h
     |true=>match wR P os D M tm h (fN os 0)with
      |true=>k tm h
      |false=>False):=by
 unfold Ky;cases iC P o.op with
 |rd x=>
  simp only[PG,gO];cases Uz x tm h<;>rfl
 |al x=>
  simp only[Zm,gO];cases mkW x tm<;>rfl
 |wr=>
  simp only[gO,Dl];cases B6 P D M (fN os 0)with
  |false=>rfl
  |true=>simp only[PI];rfl
theorem PJ(os:List Oper):∀(l:List Nat)(D M:Nat)(tm:T Value)(h:Heap)(V:T Value->Heap->Prop),EW P os l D M tm h V=jx False (Eg P) P jC os l D M tm h V:=by
 intro l
 induction l with
 |nil=>intro D M tm h V;rfl
 |cons i is ih=>
  intro D M tm h V;unfold EW jx;cases os[i]? with
  |none=>rfl
  |some o=>
   simp only[ih];cases hg:guardOf os o with
   |none=>simp only[kq,hg]
   |some g=>
    have hk:=λM'=>I8 (P:=P) os D M' o tm h λtm h=>jx False (Eg P) P jC os is (fP D i) M' tm h V;cases g with
    |none=>
     refine(hk _).trans ?_;simp only[kq,hg];rfl
    |some sw=>
     obtain⟨s,w⟩:=sw;simp only[kq,hg,ta];cases au (cL tm s) w with
     |true=>exact hk _
     |false=>simp only[gO];rfl
theorem UE(os:List Oper)(draw:Bool)(tm:T Value)(h:Heap)(V:T Value->Heap->Prop):UA P os draw tm h V=lU False (Eg P) P jC os draw tm h V:=by
 cases draw with
 |false=>exact UD os os tm h V
 |true=>
  unfold UA lU;cases C2 P os with
  |none=>rfl
  |some l=>exact PJ os l 0 0 tm h V
end Go.Vai

namespace Go.Vai
open Go
variable {P:Program}{φ:ee}{h:Heap}{w:World}
abbrev ok(p:Prop):Prop:=p
theorem uo:¬ok False:=id
theorem PK:gQ ok (Eg P) P:=
 ⟨λ_ _ h=>h,λf g hg args args' h φ w V ha hr hgd=>by cases hg;exact hgd φ w args' ha hr⟩
theorem EX:mE ok P jC:=by
 intro c r tm h V φ w nt a _ _ _ _ hg;exact False.elim hg
def I9(ss:List Nat)(nt:Nat)(tm cQ:T Value):Prop:=∀t,t<nt->t∉ss->cL cQ t=cL tm t
def sD(P:Program)(nt:Nat)(φ:ee)(h:Heap)(w:World)(ds:List Deferred)(V:KT)(ss:List Nat)(tm:T Value)(e:Exit)(a':Act)(w':World):Prop:=
 ∃x cQ h' φ',e=Pw x/\V x cQ h'/\TR φ' nt cQ a'/\HR P φ' h' w'/\Ext φ φ' h h' w w'/\a'.defers=ds/\I9 ss nt tm cQ
theorem sD.after{nt:Nat}{φ1:ee}{h1:Heap}{w1:World}{ds ds1:List Deferred}{V:KT}{ss ss1 ss2:List Nat}{tm tm1 afX:T Value}{e:Exit}{a2:Act}{w2:World}(hx:Ext φ φ1 h h1 w w1)(hd:ds1=ds)(hk:I9 ss1 nt tm tm1)(hk':∀t,t<nt->cL afX t=cL tm1 t)(hs:∀t,t∉ss->t∉ss1/\t∉ss2)(hp:sD P nt φ1 h1 w1 ds1 V ss2 afX e a2 w2):sD P nt φ h w ds V ss tm e a2 w2:=by
 obtain⟨x,tm2,h2,φ2,rfl,k1,k2,k3,k4,k5,k6⟩:=hp;exact⟨x,tm2,h2,φ2,rfl,k1,k2,k3,hx.trans k4,k5.trans hd,λt ht hn=>(k6 t ht (hs t hn).2).trans ((hk' t ht).trans (hk t ht (hs t hn).1))⟩
theorem EY{n t:Nat}{l:List Nat}:t∈M9 n l<->t=n\/t∈l:=by
 unfold M9;split
 .rename_i h;obtain⟨x,hx,he⟩:=List.any_eq_true.mp h;have:=cz he;subst this;constructor
  .exact .inr
  .rintro(rfl|h')<;>assumption
 .simp
theorem rF{t:Nat}{l m:List Nat}:t∈Kz l m<->t∈l\/t∈m:=by
 induction l with
 |nil=>simp[Kz]
 |cons a l ih=>
  show t∈M9 a (Kz l m)<->_
  rw[EY,ih];simp[or_assoc]
theorem zb{t:Nat}:∀{l:List Oper},t∈s_ l<->∃o∈l,o.dst=some t:=by
 intro l
 induction l with
 |nil=>simp[s_]
 |cons o l ih=>
  have:s_ (o::l)=match o.dst with|some d=>M9 d (s_ l)|none=>s_ l:=rfl
  rw[this];cases hd:o.dst with
  | none=>simp only[ih];constructor
          .rintro⟨q,hq,e⟩;exact⟨q,.tail _ hq,e⟩
          .rintro⟨q,hq,e⟩;cases hq with
           |head=>rw[hd]at e;cases e
           |tail _ hq=>exact⟨q,hq,e⟩
  |some d=>
   simp only[EY,ih];constructor
   .rintro(rfl|⟨q,hq,e⟩)
    .exact⟨o,.head _,hd⟩
    .exact⟨q,.tail _ hq,e⟩
   .rintro⟨q,hq,e⟩;cases hq with
    |head=>rw[hd]at e;cases e;exact .inl rfl
    |tail _ hq=>exact .inr ⟨q,hq,e⟩
theorem PL{nt:Nat}:∀(ss:List Nat)(pre:List Value)(f:Nat->Value)(tm:T Value)(t:Nat),(∀s∈ss,s<nt)->t<nt->cL (PF pre.length ss (pre++ss.map f) tm) t=if t∈ss then f t else cL tm t:=by
 intro ss
 induction ss with
 |nil=>intro pre f tm t _ _;simp[PF]
 |cons s ss ih=>
  intro pre f tm t hs ht;simp only[List.map_cons,PF];have hsl:slot (pre++f s::ss.map f) pre.length=f s:=by simp[slot]
  rw[hsl];have hih:=ih (pre++[f s]) f (tm.aV s (f s)) t (λs hs'=>hs s (.tail _ hs')) ht;simp only[List.length_append,List.length_cons,List.length_nil,List.append_assoc,List.cons_append,List.nil_append,Nat.zero_add]at hih;rw[hih];by_cases h1:t∈ss
  .rw[if_pos h1,if_pos (.tail _ h1)]
  ·rw[if_neg h1];have h2:cL (tm.aV s (f s)) t=if s=t then f s else cL tm t:=by
    simp only[cL];rw[T.nk _ _ (Nat.lt_succ_self _) (Nat.lt_succ_self _)];by_cases hst:s=t
    .rw[if_pos hst,if_pos hst]
    .rw[if_neg hst,if_neg hst]
   rw[h2];by_cases h3:s=t
   .subst h3;rw[if_pos rfl,if_pos (.head _)]
   .rw[if_neg h3,if_neg (by simp[h1,Ne.symm h3])]
theorem PM{nt:Nat}(ss:List Nat)(f:Nat->Value)(tm:T Value)(t:Nat)(hs:∀s∈ss,s<nt)(ht:t<nt):cL (M_ ss (ss.map f) tm) t=if t∈ss then f t else cL tm t:=
 PL ss [] f tm t hs ht
theorem vU{nt:Nat}{ss:List Nat}{tm cQ:T Value}(hs:∀s∈ss,s<nt)(hk:I9 ss nt tm cQ):∀t,t<nt->cL (M_ ss (ss.map (cL cQ)) tm) t=cL cQ t:=by
 intro t ht;rw[PM ss _ _ t hs ht];split
 .rfl
 .rename_i h;exact(hk t ht h).symm
theorem TR.Xz{nt:Nat}{ss:List Nat}{tm cQ:T Value}{a:Act}(hs:∀s∈ss,s<nt)(hk:I9 ss nt tm cQ)(ht:TR φ nt cQ a):TR φ nt (M_ ss (ss.map (cL cQ)) tm) a:=
 ⟨ht.size,ht.small,λt hlt=>by rw[vU hs hk t hlt];exact ht.rel t hlt⟩
theorem PN{nt:Nat}:∀{c:Code},codeOk nt c=true->∀s∈tO c,s<nt:=by
 intro c
 induction c with
 |region id os d=>
  intro hc s hs;simp only[codeOk,List.all_eq_true]at hc;obtain⟨o,ho,he⟩:=zb.mp hs;have:=dQ (hc o ho);rw[he]at this;exact dP this
 |seq a b iha ihb=>
  intro hc s hs;simp only[codeOk,Bool.and_eq_true]at hc;rcases rF.mp hs with h|h
  .exact iha hc.1 s h
  .exact ihb hc.2 s h
 |cond x a b iha ihb=>
  intro hc s hs;simp only[codeOk,Bool.and_eq_true]at hc;rcases rF.mp hs with h|h
  .exact iha hc.1.2 s h
  .exact ihb hc.2 s h
 |block id c ih=>intro hc s hs;exact ih hc s hs
 |loop c ih=>intro hc s hs;exact ih hc s hs
 |scope c ih=>intro hc s hs;exact ih hc s hs
 |_=>intro _ s hs;simp[tO]at hs
theorem I_{os:Array Oper}{t:Nat}(h:t∉s_ os.toList):∀(i:Nat)(o:Oper),os[i]? = some o->o.dst≠some t:=by
 intro i o ho hd;exact h (zb.mpr ⟨o,List.mem_of_getElem? (by rw[Array.getElem?_toList];exact ho),hd⟩)
theorem Ja{c:Code}{r:Option Nat}{nt:Nat}{V:KT}{lJ:T Value}(hn:r=none\/qt c=true)(hc:codeOk nt c=true)(ih:∀(tm:T Value)(h:Heap)(V:KT)(φ:ee)(w:World)(a:Act),TR φ nt tm a->HR P φ h w->WP P c tm h V->c.wpIn (FR r) 0 P (sD P nt φ h w a.defers V (tO c) tm) a w)(I:Nat->List Value->Heap->Prop)(hI:∀n l h,I n l h->WP P c (M_ (tO c) l lJ) h (toN (λl' h'=>∃m,m<n/\I m l' h') (tO c) V)):∀(n:Nat)(tm:T Value)(h:Heap)(φ:ee)(w:World)(a:Act),I9 (tO c) nt lJ tm->TR φ nt tm a->HR P φ h w->I n ((tO c).map (cL tm)) h->kS r P c (sD P nt φ h w a.defers V (tO c) tm) a w:=by
 intro n
 induction n using Nat.strongRecOn with
 |ind n ihn=>
  intro tm h φ w a hk ht hr hi;have hs:=PN hc;refine kS.round (wpIn_mono (ih _ h _ φ w a (ht.Xz hs hk) hr (hI n _ h hi)) ?_);rintro e a' w' ⟨x,cQ,h',φ',rfl,g1,g2,g3,g4,g5,g6⟩;have hkeep:I9 (tO c) nt tm cQ:=λt htn hnt=>(g6 t htn hnt).trans (vU hs hk t htn);cases x with
  |normal=>
   obtain⟨m,hm,hi'⟩:=g1;have hk2:I9 (tO c) nt lJ cQ:=λt htn hnt=>(hkeep t htn hnt).trans (hk t htn hnt);exact(ihn m hm cQ h' φ' w' a' hk2 g2 g3 hi').mono λe a2 w2 hp=>sD.after g4 g5 hkeep (λ_ _=>rfl) (λt ht=>⟨ht,ht⟩) hp
  |exit i=>exact⟨.exit i,cQ,h',φ',rfl,g1,g2,g3,g4,g5,hkeep⟩
  |ret=>exact⟨.ret,cQ,h',φ',rfl,g1,g2,g3,g4,g5,hkeep⟩
theorem PO(hm:P.follows .mixedOrders=true):∀(c:Code)(r:Option Nat)(nt:Nat),(r=none\/qt c=true)->codeOk nt c=true->∀(tm:T Value)(h:Heap)(V:KT)(φ:ee)(w:World)(a:Act),
  TR φ nt tm a->HR P φ h w->WP P c tm h V->c.wpIn (FR r) 0 P (sD P nt φ h w a.defers V (tO c) tm) a w:=by
 intro c
 induction c with
 |skip=>intro r nt hn hc tm h V φ w a ht hr hg;exact wpIn_skip ⟨.normal,tm,h,φ,rfl,hg,ht,hr,Ext.refl _ _ _,rfl,λ_ _ _=>rfl⟩
 |label l=>intro r nt hn hc tm h V φ w a ht hr hg;exact wpIn_label ⟨.normal,tm,h,φ,rfl,hg,ht,hr,Ext.refl _ _ _,rfl,λ_ _ _=>rfl⟩
 |ret=>intro r nt hn hc tm h V φ w a ht hr hg;exact wpIn_ret ⟨.ret,tm,h,φ,rfl,hg,ht,hr,Ext.refl _ _ _,rfl,λ_ _ _=>rfl⟩
 |exit id=>intro r nt hn hc tm h V φ w a ht hr hg;exact wpIn_exit ⟨.exit id,tm,h,φ,rfl,hg,ht,hr,Ext.refl _ _ _,rfl,λ_ _ _=>rfl⟩
 |region id os draw=>
  intro r nt hn hc tm h V φ w a ht hr hg;have hok:∀q∈os.toList,fE nt q=true:=by
   simp only[codeOk,List.all_eq_true]at hc;exact hc
  have hg':ok (lU False (Eg P) P jC os.toList draw tm h λtm h=>V .normal tm h):=by
   have:UA P os.toList draw tm h (λtm h=>V .normal tm h):=hg
   rwa [UE]at this
  have hQ:∀cQ h' φ' a' w',ok ((λtm h=>V .normal tm h) cQ h')->TR φ' nt cQ a'->HR P φ' h' w'->Ext φ φ' h h' w w'->a'.defers=a.defers->
    (∀t,t<nt->(∀(i:Nat)(o:Oper),os[i]? = some o->o.dst≠some t)->cL cQ t=cL tm t)->sD P nt φ h w a.defers V (tO (.region id os draw)) tm .normal a' w':=
   λcQ h' φ' a' w' g1 g2 g3 g4 g5 g6=>⟨.normal,cQ,h',φ',rfl,g1,g2,g3,g4,g5,λt ht hnt=>g6 t ht (I_ hnt)⟩
  cases draw with
  |false=>
   refine wpIn_region ?_;rw[List.range_eq_range'];have:=uj (r0:=r) (lJ:=tm) uo PK EX hok hQ os.toList 0 φ tm h a w (λk=>by simp) ht hr (Ext.refl _ _ _) rfl (λ_ _ _=>rfl) hg';simpa using this
  |true=>exact s9 (good:=ok) uo PK hm jC EX os id nt hok φ tm h a w _ ht hr hg' r _ hQ
 |seq x y ihx ihy=>
  intro r nt hn hc tm h V φ w a ht hr hg;simp only[codeOk,Bool.and_eq_true]at hc;obtain⟨xL,hn2⟩:=x8 (x:=x) (y:=y) hn rfl;have hmem:∀t,t∉tO (.seq x y)->t∉tO x/\t∉tO y:=λt ht=>by
   have:¬(t∈tO x\/t∈tO y):=λhh=>ht (rF.mpr hh);exact not_or.mp this
  unfold WP at hg;split at hg
  .refine wpIn_seq (wpIn_mono (ihx r nt xL hc.1 tm h _ φ w a ht hr hg) ?_);rintro e a' w' ⟨e0,cQ,h',φ',rfl,g1,g2,g3,g4,g5,g6⟩;cases e0 with
   |normal=>exact wpIn_mono (ihy r nt hn2 hc.2 cQ h' V φ' w' a' g2 g3 g1) λe a2 w2 hp=>sD.after g4 g5 g6 (λ_ _=>rfl) hmem hp
   |exit i=>exact⟨.exit i,cQ,h',φ',rfl,g1,g2,g3,g4,g5,λt ht hnt=>g6 t ht (hmem t hnt).1⟩
   |ret=>exact⟨.ret,cQ,h',φ',rfl,g1,g2,g3,g4,g5,λt ht hnt=>g6 t ht (hmem t hnt).1⟩
  .obtain⟨J,hA,hB⟩:=hg;refine wpIn_seq (wpIn_mono (ihx r nt xL hc.1 tm h _ φ w a ht hr hA) ?_);rintro e a' w' ⟨e0,cQ,h',φ',rfl,g1,g2,g3,g4,g5,g6⟩;have hs:=PN hc.1;cases e0 with
   |normal=>exact wpIn_mono (ihy r nt hn2 hc.2 _ h' V φ' w' a' (g2.Xz hs g6) g3 (hB _ _ g1)) λe a2 w2 hp=>sD.after g4 g5 g6 (vU hs g6) hmem hp
   |exit i=>exact⟨.exit i,cQ,h',φ',rfl,g1,g2,g3,g4,g5,λt ht hnt=>g6 t ht (hmem t hnt).1⟩
   |ret=>exact⟨.ret,cQ,h',φ',rfl,g1,g2,g3,g4,g5,λt ht hnt=>g6 t ht (hmem t hnt).1⟩
 |cond x c1 c2 ih1 ih2=>
  intro r nt hn hc tm h V φ w a ht hr hg;simp only[codeOk,Bool.and_eq_true]at hc;obtain⟨xL,hn2⟩:=x8 (x:=c1) (y:=c2) hn rfl;have hmem:∀t,t∉tO (.cond x c1 c2)->t∉tO c1/\t∉tO c2:=λt ht=>by
   have:¬(t∈tO c1\/t∈tO c2):=λhh=>ht (rF.mpr hh);exact not_or.mp this
  have hg':aJ (fM tm x) (WP P c1 tm h V) (WP P c2 tm h V):=hg;have hx:=ht.eval hc.1.1;unfold aJ at hg';split at hg'<;>try exact hg'.elim
  .rename_i hv;rw[hv]at hx;refine wpIn_cond_true (by generalize a.eval x=z at hx;cases hx;rfl) (wpIn_mono (ih1 r nt xL hc.1.2 tm h V φ w a ht hr hg') ?_);rintro e a' w' ⟨e0,cQ,h',φ',rfl,g1,g2,g3,g4,g5,g6⟩;exact⟨e0,cQ,h',φ',rfl,g1,g2,g3,g4,g5,λt ht hnt=>g6 t ht (hmem t hnt).1⟩
  .rename_i hv;rw[hv]at hx;refine wpIn_cond_false (by generalize a.eval x=z at hx;cases hx;rfl) (wpIn_mono (ih2 r nt hn2 hc.2 tm h V φ w a ht hr hg') ?_);rintro e a' w' ⟨e0,cQ,h',φ',rfl,g1,g2,g3,g4,g5,g6⟩;exact⟨e0,cQ,h',φ',rfl,g1,g2,g3,g4,g5,λt ht hnt=>g6 t ht (hmem t hnt).2⟩
 |block id c ih=>
  intro r nt hn hc tm h V φ w a ht hr hg;refine wpIn_block (wpIn_mono (ih r nt hn hc tm h _ φ w a ht hr hg) ?_);rintro e a' w' ⟨e0,cQ,h',φ',rfl,g1,g2,g3,g4,g5,g6⟩;cases e0 with
  |normal=>exact⟨.normal,cQ,h',φ',rfl,g1,g2,g3,g4,g5,g6⟩
  |ret=>exact⟨.ret,cQ,h',φ',rfl,g1,g2,g3,g4,g5,g6⟩
  |exit i=>
   have TO:Bool.rec (motive:=λ_=>Prop) (V (.exit i) cQ h') (V .normal cQ h') (Nat.beq i id):=g1;simp only[Pw,Exit.inBlock];cases hb:Nat.beq i id with
   |true=>
    rw[hb]at TO;rw[if_pos (cz hb)];exact⟨.normal,cQ,h',φ',rfl,TO,g2,g3,g4,g5,g6⟩
   |false=>
    rw[hb]at TO;rw[if_neg (oE hb)];exact⟨.exit i,cQ,h',φ',rfl,TO,g2,g3,g4,g5,g6⟩
 |scope c ih=>
  intro r nt hn hc tm h V φ w a ht hr hg;refine yU (ih r nt hn hc tm h V φ w a ht hr hg) ?_;rintro l a' w' ⟨x,cQ,h',φ',hx,_⟩;cases x<;>cases hx
 |loop c ih=>
  intro r nt hn hc tm h V φ w a ht hr hg;obtain⟨I,⟨n,h0⟩,hI⟩:=hg;exact(Ja (c:=c) (V:=V) (lJ:=tm) hn hc (λtm h V φ w a=>ih r nt hn hc tm h V φ w a) I hI n tm h φ w a (λ_ _ _=>rfl) ht hr h0).wp
 |_=>intro r nt hn hc tm h V φ w a ht hr hg;exact False.elim hg
theorem UG(h:Heap)(tm:T Value):∀(rs:List sO)(V:List Value->Prop),Na h tm rs V=dX False h tm rs V:=by
 intro rs
 induction rs with
 |nil=>intro V;rfl
 |cons r rs ih=>
  intro V;cases r with
  |tmp t=>simp only[dX,e_];exact ih _
  |one a=>simp only[dX,e_];show load1 False (cL tm a) h (λv _=>Na h tm rs λvs=>V (v::vs))=_;simp only[ih];rfl
  |agg a s=>simp only[dX,e_];show aF False s (cL tm a) h (λv _=>Na h tm rs λvs=>V (v::vs))=_;simp only[ih];rfl
  |bad=>rfl
theorem UH(V:KQ)(h:Heap)(vs:List Value):UB V h vs=O5 V h vs:=by
 cases vs with
 |nil=>rfl
 |cons v vs=>cases vs<;>rfl
theorem av(hm:P.follows .mixedOrders=true){f:FuncId}{args:List Value}{h:Heap}{V:KQ}(hg:aM P f args h V):CallW P f args h V:=by
 intro φ w args' ha hr;unfold aM at hg;split at hg
 .exact hg.elim
 .rename_i c rs nt hc;obtain⟨fn,hf,hb,rfl,rfl,Ee,hrk,hnt,yR⟩:=ug hc;split at hg<;>try exact hg.elim
  rename_i hle;refine⟨yR _ _,?_⟩;have hst:=TR.start (nt:=fn.ntmps) ha hnt (cF hle);refine x7 (r:=none) (n:=0) |>.1 (callsIn_of_wp_marks hf hb trivial (wpIn_mono (PO hm c none _ (.inl rfl) Ee _ h _ φ w _ hst hr hg) ?_))
  rintro e a' w' ⟨x,cQ,h',φ',rfl,g1,g2,g3,g4,g5,_⟩;have OZ:a'.defers=[]:=g5
  have fin:Na h' cQ (fn.results.toList.map (wQ P)) (λvs=>UB V h' vs)->
    LeavesInM (FR none) 0 P fn a'.tmps (λe w'=>∃φ' v v' h',e=.returned v'/\ok (V v h')/\VR φ' v v'/\HR P φ' h' w'/\Ext φ φ' h h' w w') a'.defers .returning w':=by
   intro k;rw[UG]at k;simp only[UH]at k;rw[OZ];refine qI (a:=a') (φ':=φ') (h':=h') ?_ [] w'.heap.size w' trivial g3 g4;intro w2 M5 hx2;obtain⟨vs,vs',k1,k2,k3⟩:=qH (good:=ok) uo M5 g2 _ hrk k;refine⟨_,uf k3,?_⟩;cases k2 with
   |nil=>exact⟨φ',_,_,h',rfl,k1,VR.tuple' .nil,M5,hx2⟩
   |cons hv hvs=>
    cases hvs with
    |nil=>exact⟨φ',_,_,h',rfl,k1,hv,M5,hx2⟩
    |cons Un hvs=>exact⟨φ',_,_,h',rfl,k1,VR.tuple' (.cons hv (.cons Un hvs)),M5,hx2⟩
  cases x with
  |normal=>exact fin g1
  |exit i=>exact False.elim g1
  |ret=>exact fin g1
theorem CallW.mono{f:FuncId}{args:List Value}{V κ':Value->Heap->Prop}(hc:CallW P f args h V)(hk:∀v h',V v h'->κ' v h'):CallW P f args h κ':=by
 intro φ w args' ha hr;obtain⟨h1,h2⟩:=hc φ w args' ha hr;refine⟨h1,h2.mono ?_⟩;rintro e w' ⟨φ',v,v',h',rfl,g1,g2,g3,g4⟩;exact⟨φ',v,v',h',rfl,hk _ _ g1,g2,g3,g4⟩
end Go.Vai

namespace Go.Vai
open Go
variable {β:Type}{fl:β}
theorem T.Nb{α:Type}(a a':α)(p:List Bool):∀t:T α,T.pM a' p (T.pM a p t)=T.pM a' p t:=by
 induction p with
 |nil=>intro t;cases t<;>rfl
 |cons b p ih=>intro t;cases t<;>cases b<;>simp only[T.pM]<;>rw[ih]
theorem T.Nc{α:Type}(a b:α):∀(p q:List Bool)(t:T α),p≠q->T.pM a p (T.pM b q t)=T.pM b q (T.pM a p t):=by
 intro p
 induction p with
 |nil=>
  intro q t hpq;cases q with
  |nil=>exact absurd rfl hpq
  |cons c q=>cases t<;>cases c<;>rfl
 |cons x p ih=>
  intro q t hpq;cases q with
  |nil=>cases t<;>cases x<;>rfl
  |cons c q=>
   have h:x=c->p≠q:=λe e'=>hpq (by rw[e,e']);cases x<;>cases c<;>cases t<;>simp only[T.pM]<;>first|rfl|rw[ih _ _ (h rfl)]
theorem Zo{a b:Nat}(h:a≠b):key a≠key b:=λe=>h (key_inj (Nat.lt_succ_self _) (Nat.lt_succ_self _) e)
theorem T.zc{α:Type}(t:T α)(n:Nat)(a a':α):(t.aV n a).aV n a'=t.aV n a':=T.Nb a a' (key n) t
theorem T.EZ{α:Type}(t:T α){n m:Nat}(a b:α)(h:n≠m):(t.aV n a).aV m b=(t.aV m b).aV n a:=(T.Nc a b (key n) (key m) t (Zo h)).symm
theorem T.aj{α:Type}(t:T α){n m:Nat}(a:α)(h:n≠m):(t.aV n a).get m=t.get m:=T.gW t a (Nat.lt_succ_self _) (Nat.lt_succ_self _) h
theorem Jb(vs:List Value):∀(t:T Value)(off n:Nat)(a:Value),n<off->lay vs (t.aV n a) off=(lay vs t off).aV n a:=by
 induction vs with
 |nil=>intro t off n a _;rfl
 |cons v vs ih=>
  intro t off n a h;simp only[lay];rw[T.EZ t a v (by omega),ih _ _ _ _ (by omega)]
theorem UI(vs:List Value):∀(t:T Value)(off i:Nat)(a:Value),i<vs.length->(lay vs t off).aV (off+i) a=lay (vs.set i a) t off:=by
 induction vs with
 |nil=>intro t off i a h;simp at h
 |cons v vs ih=>
  intro t off i a h;cases i with
  |zero=>
   simp only[List.set_cons_zero,lay,Nat.add_zero];rw[<-Jb vs _ _ _ _ (Nat.lt_succ_self off),T.zc]
  |succ i=>
   simp only[List.set_cons_succ,lay];rw[<-ih _ _ _ _ (by simpa using h),show off+(i+1)=off+1+i by omega]
def over(vs:List Value)(o:Nat)(ws:List Value):List Value:=vs.take o++ws++vs.drop (o+ws.length)
theorem nF{vs:List Value}{o:Nat}{ws:List Value}(h:o+ws.length<=vs.length):(over vs o ws).length=vs.length:=by
 simp[over];omega
theorem E0(vs:List Value)(o:Nat):over vs o []=vs:=by simp[over]
theorem Nd(vs:List Value)(o:Nat)(w:Value)(ws:List Value)(h:o<vs.length):over vs o (w::ws)=over (vs.set o w) (o+1) ws:=by
 simp only[over,List.length_cons];rw[List.take_succ_eq_append_getElem (by simpa using h)];simp only[List.getElem_set_self];rw[List.take_set_of_le (Nat.le_refl _),List.drop_set_of_lt (by omega)];simp[Nat.add_comm,Nat.add_left_comm]
theorem Dm(ws:List Value):∀(vs:List Value)(o:Nat),o+ws.length<=vs.length->lay ws (lay vs .nil 0) o=lay (over vs o ws) .nil 0:=by
 induction ws with
 |nil=>intro vs o _;rw[E0];rfl
 |cons w ws ih=>
  intro vs o h;simp only[List.length_cons]at h;have h1:=UI vs .nil 0 o w (by omega);rw[Nat.zero_add]at h1;rw[Nd vs o w ws (by omega),<-ih _ _ (by simp;omega),<-h1];rfl
def aa(vs:List Value)(e:TypeId)(op:Bool):bD:=.cells vs.length (lay vs .nil 0) e op
def roO(vs:List Value)(e:TypeId):bD:=.ro vs.length (lay vs .nil 0) e
theorem PR(vs:List Value):∀(c:T Value)(off:Nat)(i:Nat),(lay vs c off).get i=if off<=i/\i<off+vs.length then vs[i-off]? else c.get i:=by
 induction vs with
 |nil=>intro c off i;simp[lay];omega
 |cons v vs ih=>
  intro c off i;rw[lay,ih];by_cases h1:off+1<=i/\i<off+1+vs.length
  .rw[if_pos h1,if_pos (by simp;omega),show i-off=(i-(off+1))+1 by omega];simp
  .rw[if_neg h1];by_cases h2:off=i
   .subst h2;rw[T.ah];simp
   .rw[T.aj _ _ h2,if_neg (by simp;omega)]
theorem oK(vs:List Value)(i:Nat):(lay vs .nil 0).get i=vs[i]?:=by
 rw[PR];by_cases h:i<vs.length
 .rw[if_pos ⟨Nat.zero_le _,by omega⟩,Nat.sub_zero]
 .rw[if_neg (by omega),T.get_nil];symm;simp;omega
def Jc(fl:β)(o:Option Value)(V:Value->β):β:=match o with|some v=>V v|none=>fl
theorem Ch(v:Value)(V:Value->β):Jc fl (some v) V=V v:=id rfl
def w9(fl:β)(ob:Option bD)(o:Nat)(V:Value->β):β:=match ob with
 |some (.cells n c _ _)=>match Nat.ble (Nat.succ o) n,c.get o with
  |true,some v=>V v
  |_,_=>fl
 |some (.ro n c _)=>match Nat.ble (Nat.succ o) n,c.get o with
  |true,some v=>V v
  |_,_=>fl
 |_=>fl
theorem E1(b o:Nat)(h:Heap)(V:Z7 β):load1 fl (.pointer (some ⟨b,o,none⟩)) h V=w9 fl (h.bl.get b) o λv=>V v h:=by
 unfold load1 w9;dsimp only;generalize h.bl.get b=z;cases z with
 |none=>rfl
 |some ob=>cases ob<;>rfl
theorem rG(vs:List Value)(e:TypeId)(op:Bool)(o:Nat)(V:Value->β):w9 fl (some (aa vs e op)) o V=Jc fl vs[o]? V:=by
 unfold w9 aa;simp only[oK];by_cases h:o<vs.length
 .rw[show Nat.ble (Nat.succ o) vs.length=true from Nat.ble_eq_true_of_le h,List.getElem?_eq_getElem h];rfl
 ·have:Nat.ble (Nat.succ o) vs.length=false:=by
   cases hb:Nat.ble (Nat.succ o) vs.length with
   |false=>rfl
   |true=>exact absurd (Nat.le_of_ble_eq_true hb) h
  rw[this,List.getElem?_eq_none (by omega)];rfl
theorem PS(vs:List Value)(e:TypeId)(o:Nat)(V:Value->β):w9 fl (some (roO vs e)) o V=Jc fl vs[o]? V:=rG vs e false o V
theorem Jd(vs:List Value)(off:Nat):∀(n:Nat)(acc:List Value)(V:List Value->β),off+n<=vs.length->mj fl (lay vs .nil 0) off n acc V=V ((vs.drop off).take n++acc):=by
 intro n
 induction n with
 |zero=>intro acc V _;simp;rfl
 |succ n ih=>
  intro acc V h
  show Option.rec (motive:=λ_=>β) fl (λv=>mj fl (lay vs .nil 0) off n (v::acc) V) ((lay vs .nil 0).get (Nat.add off n))=_
  rw[oK,show Nat.add off n=off+n from rfl,List.getElem?_eq_getElem (by omega)]
  show mj fl (lay vs .nil 0) off n (vs[off+n]::acc) V=_
  rw[ih _ _ (by omega),List.take_succ_eq_append_getElem (by simp;omega)];simp
def x9(fl:β)(ob:Option bD)(o s:Nat)(V:List Value->β):β:=match ob with
 |some (.cells n c _ _)=>match Nat.ble (Nat.add o s) n with
  |true=>mj fl c o s [] V
  |false=>fl
 |some (.ro n c _)=>match Nat.ble (Nat.add o s) n with
  |true=>mj fl c o s [] V
  |false=>fl
 |_=>fl
theorem E2(s b o:Nat)(h:Heap)(V:Z7 β):aF fl s (.pointer (some ⟨b,o,none⟩)) h V=x9 fl (h.bl.get b) o s λl=>V (.agg ⟨l⟩) h:=by
 unfold aF x9;dsimp only;generalize h.bl.get b=z;cases z with
 |none=>rfl
 |some ob=>cases ob<;>rfl
theorem vV(vs:List Value)(e:TypeId)(op:Bool)(o s:Nat)(V:List Value->β)(h:o+s<=vs.length):x9 fl (some (aa vs e op)) o s V=V ((vs.drop o).take s):=by
 unfold x9 aa;simp only;rw[show Nat.ble (Nat.add o s) vs.length=true from Nat.ble_eq_true_of_le h];simp only;rw[Jd _ _ _ _ _ h,List.append_nil]
theorem PT(vs:List Value)(e:TypeId)(o s:Nat)(V:List Value->β)(h:o+s<=vs.length):x9 fl (some (roO vs e)) o s V=V ((vs.drop o).take s):=vV vs e false o s V h
theorem di(o:bD)(h:Heap)(V:Nat->Heap->β):ax fl o h V=V h.nx ⟨h.nx+1,h.bl.aV h.nx o,h.lo⟩:=by
 unfold ax;rw[T.cg,b6]
theorem bB(b:Nat)(o:bD)(h:Heap)(V:Heap->β)(hlo:h.lo<=b):setBlock fl b o h V=V ⟨h.nx,h.bl.aV b o,h.lo⟩:=by
 unfold setBlock;rw[Nat.ble_eq_true_of_le hlo,T.cg]
theorem jj(vs:List Value)(e:TypeId)(op:Bool)(V:bD->β)(hl:vs.length<=1000000000000):aH fl vs e op V=V (aa vs e op):=by
 unfold aH;rw[x5];simp only[Nat.zero_add];rw[Nat.ble_eq_true_of_le hl];rfl
theorem vW(n:Nat):∀(ws:List Value)(c:T Value)(o:Nat)(V:T Value->β),o+ws.length<=n->(ws.all dJ)=true->nR fl n ws c o V=V (lay ws c o):=by
 intro ws
 induction ws with
 |nil=>intro c o V _ _;rfl
 |cons v ws ih=>
  intro c o V h1 h2;simp only[List.all_cons,Bool.and_eq_true,List.length_cons]at h1 h2
  show Bool.rec (motive:=λ_=>β) fl (Bool.rec (motive:=λ_=>β) fl (T.set c o v λc=>nR fl n ws c (Nat.succ o) V) (Nat.ble (Nat.succ o) n)) (dJ v)=_
  rw[h2.1,Nat.ble_eq_true_of_le (by omega)];simp only[T.cg];rw[ih _ _ _ (by omega) h2.2];rfl
def UJ(fl:β)(ob:Option bD)(s b o:Nat)(ws:List Value)(h:Heap)(V:Heap->β):β:=match ob with
 |some (.cells n c e op)=>match Nat.beq ws.length s with
  |true=>nR fl n ws c o λc=>setBlock fl b (.cells n c e op) h V
  |false=>fl
 |_=>fl
theorem Ci(s b o:Nat)(v:Value)(h:Heap)(V:Z7 β):aI fl s (.pointer (some ⟨b,o,none⟩)) v h V=UJ fl (h.bl.get b) s b o v.cells.toList h λh=>V undef h:=by
 unfold aI UJ;dsimp only;generalize h.bl.get b=z;cases z with
 |none=>rfl
 |some ob=>cases ob<;>rfl
theorem oL(vs:List Value)(e:TypeId)(op:Bool)(s b o:Nat)(ws:List Value)(h:Heap)(V:Heap->β)(h1:ws.length=s)(h2:ws.all dJ=true)(h3:o+s<=vs.length)(hlo:h.lo<=b):UJ fl (some (aa vs e op)) s b o ws h V=V ⟨h.nx,h.bl.aV b (aa (over vs o ws) e op),h.lo⟩:=by
 subst h1;unfold UJ aa;simp only;rw[show Nat.beq ws.length ws.length=true from Nat.beq_refl _];simp only;rw[vW _ _ _ _ _ h3 h2,bB _ _ _ _ hlo,Dm _ _ _ h3,nF h3]
theorem E3(v:Value)(h:Heap)(V:KQ):az (some v) h V=V v h:=id rfl
theorem zd(o:bD)(mk:Nat->Value)(h:Heap)(V:KQ):y_ (some (o,mk)) h V=V (mk h.nx) ⟨h.nx+1,h.bl.aV h.nx o,h.lo⟩:=by
 show ax False o h (λn h=>V (mk n) h)=_;rw[di]
theorem ze(p:Prop):bP true p=p:=id rfl
theorem zf(b:Bool):au (.bool b) true=b:=by cases b<;>exact id rfl
theorem w_(b:Bool):au (.bool b) false=!b:=by cases b<;>exact id rfl
theorem xb(f:(Value->Heap->Prop)->Prop)(h:Heap)(V:KQ):af true f h V=f V:=id rfl
theorem uq(f:(Value->Heap->Prop)->Prop)(h:Heap)(V:KQ):af false f h V=V undef h:=id rfl
theorem zg(A B:Prop):aJ (.bool true) A B=A:=id rfl
theorem xe(A B:Prop):aJ (.bool false) A B=B:=id rfl
theorem KD(n:Int)(h : -9223372036854775808<=n/\n<=9223372036854775807):IntKind.i64.wrap n=n:=IntWalk.i64_in _ h
theorem KE(P:Program)(t:TypeId)(cn gd:Bool)(a b:Int)(h:Heap)(V:Z7 β):ay fl P .add t cn gd (.int .i64 a) (.int .i64 b) h V=V (.int .i64 (IntKind.i64.wrap (a+b))) h:=by
 simp only[ay,iV,ox,iF,eN];rfl
theorem KF(P:Program)(t:TypeId)(cn gd:Bool)(a b:Int)(h:Heap)(V:Z7 β):ay fl P .sub t cn gd (.int .i64 a) (.int .i64 b) h V=V (.int .i64 (IntKind.i64.wrap (a-b))) h:=by
 simp only[ay,iV,ox,iF,eN];rfl
theorem KG(P:Program)(t:TypeId)(cn gd:Bool)(a b:Int)(h:Heap)(V:Z7 β):ay fl P .mul t cn gd (.int .i64 a) (.int .i64 b) h V=V (.int .i64 (IntKind.i64.wrap (a*b))) h:=by
 simp only[ay,iV,ox,iF,eN];rfl
theorem KH(P:Program)(t:TypeId)(cn gd:Bool)(a b:Int)(h:Heap)(V:Z7 β)(hb:b≠0):ay fl P .quo t cn gd (.int .i64 a) (.int .i64 b) h V=V (.int .i64 (IntKind.i64.wrap (Int.tdiv a b))) h:=by
 simp only[ay,iV,ox,iF,eN,iq,hb,decide_false]
theorem KI(P:Program)(t:TypeId)(cn gd:Bool)(k:IntKind)(a b:Int)(h:Heap)(V:Z7 β):ay fl P .eql t cn gd (.int k a) (.int k b) h V=V (.bool (decide (a=b))) h:=by
 simp only[ay,gz,decide_true,ox,bK,iq]
theorem KJ(P:Program)(t:TypeId)(cn gd:Bool)(k:IntKind)(a b:Int)(h:Heap)(V:Z7 β):ay fl P .neq t cn gd (.int k a) (.int k b) h V=V (.bool (!decide (a=b))) h:=by
 simp only[ay,gz,decide_true,ox,bK,iq]
theorem KK(P:Program)(t:TypeId)(cn gd:Bool)(k:IntKind)(a b:Int)(h:Heap)(V:Z7 β):ay fl P .lss t cn gd (.int k a) (.int k b) h V=V (.bool (decide (a<b))) h:=by
 simp only[ay,gz,decide_true,ox,bK,gN]
theorem KL(P:Program)(t:TypeId)(cn gd:Bool)(k:IntKind)(a b:Int)(h:Heap)(V:Z7 β):ay fl P .gtr t cn gd (.int k a) (.int k b) h V=V (.bool (decide (b<a))) h:=by
 simp only[ay,gz,decide_true,ox,bK,gN]
theorem KM(P:Program)(t:TypeId)(cn gd:Bool)(k:IntKind)(a b:Int)(h:Heap)(V:Z7 β):ay fl P .leq t cn gd (.int k a) (.int k b) h V=V (.bool (!decide (b<a))) h:=by
 simp only[ay,gz,decide_true,ox,bK,gN]
theorem KN(P:Program)(t:TypeId)(cn gd:Bool)(k:IntKind)(a b:Int)(h:Heap)(V:Z7 β):ay fl P .geq t cn gd (.int k a) (.int k b) h V=V (.bool (!decide (a<b))) h:=by
 simp only[ay,gz,decide_true,ox,bK,gN]
theorem PU(b:Bool)(h:Heap)(V:Z7 β):jf fl .not (.bool b) h V=V (.bool (!b)) h:=by simp only[jf,bK]
theorem PV(a:Int)(h:Heap)(V:Z7 β):jf fl .neg (.int .i64 a) h V=V (.int .i64 (IntKind.i64.wrap (0-a))) h:=by simp only[jf,iF,eN];rfl
theorem E4(k:IntKind)(a:Int)(h:Heap)(V:Z7 β):mu fl .i64 (.int k a) h V=V (.int .i64 (IntKind.i64.wrap a)) h:=by simp only[mu,iF,eN]
theorem Cj(a b:Value)(h:Heap)(V:Z7 β):aY fl (.bool true) a b h V=V a h:=id rfl
theorem zh(a b:Value)(h:Heap)(V:Z7 β):aY fl (.bool false) a b h V=V b h:=id rfl
theorem iu(x:Option Addr)(n c:Nat)(h:Heap)(V:Z7 β):bJ fl (.slice x n c) h V=V (.int .i64 (n:Int)) h:=id rfl
theorem ur(off b o:Nat)(h:Heap)(V:Z7 β):fieldAddrB fl off (.pointer (some ⟨b,o,none⟩)) h V=V (.pointer (some ⟨b,o+off,none⟩)) h:=by simp only[fieldAddrB,b6];rfl
theorem KO(a:Addr)(h:Heap)(V:Z7 β):aN fl (.pointer (some a)) h V=V (.pointer (some a)) h:=id rfl
theorem pO(f:FuncId)(a b:Array Value)(h:Heap)(V:Z7 β):aN fl (.func (.func f) a b) h V=V (.func (.func f) a b) h:=id rfl
theorem Ck(a:Value)(l:List Value)(h:Heap)(V:Z7 β):aD fl 0 (.tuple ⟨a::l⟩) h V=V a h:=id rfl
theorem Cl(a b:Value)(l:List Value)(h:Heap)(V:Z7 β):aD fl 1 (.tuple ⟨a::b::l⟩) h V=V b h:=id rfl
theorem Cm(a b c:Value)(l:List Value)(h:Heap)(V:Z7 β):aD fl 2 (.tuple ⟨a::b::c::l⟩) h V=V c h:=id rfl
theorem bh(s b o n c i:Nat)(h:Heap)(V:Z7 β)(hi:i<n):aK fl s (.slice (some ⟨b,o,none⟩) n c) (.int .i64 (i:Int)) h V=V (.pointer (some ⟨b,o+i*s,none⟩)) h:=by
 show(match Nat.ble (Nat.succ i) n with|true=>_|_=>_)=_
 rw[show Nat.ble (Nat.succ i) n=true from Nat.ble_eq_true_of_le hi];simp only[b6];rfl
theorem E5(P:Program)(f:FuncId)(a b:Array Value)(args:List Value)(h:Heap)(V:KQ):fJ P (.func (.func f) a b) args h V=CallW P f (a.toList++args++b.toList) h V:=id rfl
theorem br{p:Prop}[Decidable p](h:p):decide p=true:=decide_eq_true h
theorem aZ{p:Prop}[Decidable p](h:¬p):decide p=false:=decide_eq_false h
theorem fV{a b:Int}(h:a<b):decide (a<b)=true:=decide_eq_true h
theorem dL{a b:Int}(h:b<=a):decide (a<b)=false:=decide_eq_false (by omega)
theorem afZ{a b:Int}(h:a=b):decide (a=b)=true:=decide_eq_true h
theorem PW{a b:Int}(h:a<b):decide (a=b)=false:=decide_eq_false (by omega)
theorem XB{a b:Int}(h:b<a):decide (a=b)=false:=decide_eq_false (by omega)
structure Le(h h':Heap):Prop where
 nx:h.nx<=h'.nx
 lo:h'.lo=h.lo
 get:∀b,b<h.nx->h'.bl.get b=h.bl.get b
theorem Le.refl(h:Heap):Le h h:=⟨Nat.le_refl _,rfl,λ_ _=>rfl⟩
theorem Le.trans{a b c:Heap}(x:Le a b)(y:Le b c):Le a c:=⟨Nat.le_trans x.nx y.nx,y.lo.trans x.lo,λi hi=>(y.get i (Nat.lt_of_lt_of_le hi x.nx)).trans (x.get i hi)⟩
theorem Le.new{a h:Heap}(x:Le a h)(o:bD):Le a ⟨h.nx+1,h.bl.aV h.nx o,h.lo⟩:=
 ⟨Nat.le_succ_of_le x.nx,x.lo,λi hi=>(T.aj _ _ (by have:=x.nx;omega)).trans (x.get i hi)⟩
theorem Le.set{a h:Heap}(x:Le a h){b:Nat}(hb:a.nx<=b)(o:bD):Le a ⟨h.nx,h.bl.aV b o,h.lo⟩:=
 ⟨x.nx,x.lo,λi hi=>(T.aj _ _ (by omega)).trans (x.get i hi)⟩
theorem kf(h:Heap)(o:bD):∃A:Heap,A=⟨h.nx+1,h.bl.aV h.nx o,h.lo⟩/\Le h A/\A.bl.get h.nx=some o/\A.nx=h.nx+1/\A.lo=h.lo:=
 ⟨_,rfl,(Le.refl h).new _,T.ah _ _ _,rfl,rfl⟩
theorem BF(h:Heap)(o p:bD):∃A:Heap,A=⟨h.nx+1+1,(h.bl.aV h.nx o).aV (h.nx+1) p,h.lo⟩/\Le h A/\A.bl.get h.nx=some o/\A.bl.get (h.nx+1)=some p/\A.nx=h.nx+1+1/\A.lo=h.lo:=
 ⟨_,rfl,((Le.refl h).new _).new _,(T.aj _ _ (by omega)).trans (T.ah _ _ _),T.ah _ _ _,rfl,rfl⟩
abbrev ZJ(v : Value)(_ : Heap):Option Value := some v
theorem Le.up{h h' : Heap}(x : Le h h'){b : Nat}{o : Option bD}(g : h.bl.get b = o)(k : b < h.nx := by omega):h'.bl.get b = o := (x.get _ k).trans g
end Go.Vai

namespace Go.Vai
open Go Go.RowKit
variable {β:Type}{fl:β}{P:Program}
theorem Dn{φ:ee}{v:Value}(hv:ot v=true):VR φ v v:=by
 cases v<;>first|exact VR.ot hv|(exact VR.vF (F2.ot hv))|cases hv
theorem PX{φ:ee}:∀{l l':List Value},l.all kj=true->F2 (VR φ) l l'->l'=l:=by
 intro l
 induction l with
 |nil=>intro l' _ h;cases h;rfl
 |cons v l ih=>
  intro l' hs h;simp only[List.all_cons,Bool.and_eq_true]at hs;cases h with
  |cons h1 h2=>rw[ih hs.2 h2,VR.Uy hs.1 h1]
theorem pP{φ:ee}{v v':Value}(hv:ot v=true)(h:VR φ v v'):v'=v:=by
 cases h with
 |agg a a' ha vE=>
  have:=PX (l':=a'.toList) hv (F2.mz ha vE);obtain⟨l⟩:=a;obtain⟨l'⟩:=a';simp only at this;rw[this]
 |bool=>rfl
 |int=>rfl
 |string=>rfl
 |_=>cases hv
theorem E6{φ:ee}:∀{l:List Value},l.all ot=true->F2 (VR φ) l l:=by
 intro l
 induction l with
 |nil=>intro _;exact .nil
 |cons v l ih=>
  intro h;simp only[List.all_cons,Bool.and_eq_true]at h;exact .cons (Dn h.1) (ih h.2)
theorem E7{φ:ee}:∀{l l':List Value},l.all ot=true->F2 (VR φ) l l'->l'=l:=by
 intro l
 induction l with
 |nil=>intro l' _ h;cases h;rfl
 |cons v l ih=>
  intro l' hs h;simp only[List.all_cons,Bool.and_eq_true]at hs;cases h with
  |cons h1 h2=>rw[ih hs.2 h2,pP hs.1 h1]
def bE(P:Program)(n:Nat)(f:FuncId)(args:List Value)(v:Value):Bool:=
 args.all ot && ot v && iA false Ux P (run false Ux P n) f args ⟨0,.nil,0⟩ λv' _=>kY 8 v' v
theorem rH(hm:P.follows .mixedOrders=true){n:Nat}{f:FuncId}{args:List Value}{v:Value}(ha:bE P n f args v=true){h:Heap}{V:KQ}(hk:V v h):CallW P f args h V:=by
 intro φ w args' hf hr;have hfl:¬yes false:=by simp[yes]
 simp only[bE,Bool.and_eq_true]at ha;obtain⟨⟨ha1,hv⟩,ha2⟩:=ha;have:=E7 ha1 hf;subst this;have hc:=fW (good:=yes) (w:=w) hfl (Dj (P:=P)) (Ce (good:=yes) hfl Dj (s9 hfl Dj hm) n).1 (E6 ha1) (HR.start w) ha2;refine⟨hc.1,Calls.mono hc.2 ?_⟩;rintro e w' ⟨φ',v1,v',h',rfl,g1,g2,g3,g4⟩;have e1:=IU 8 _ _ g1;subst e1;have hfr:∀B,B<w.heap.size->w'.heap[B]? = w.heap[B]?:=λB hB=>g4.Bs B hB λb pl e=>by cases e
 refine⟨φ,v1,v',h,rfl,hk,by rw[pP hv g2];exact Dn hv,?_,?_⟩
 .exact⟨λb o pl h1 h2=>by rw[hfr _ (hr.dom b pl h2).2];exact hr.obj b o pl h1 h2,λb pl h1=>⟨(hr.dom b pl h1).1,Nat.lt_of_lt_of_le (hr.dom b pl h1).2 g4.size⟩,hr.keys,hr.Pb,hr.inj,hr.lo⟩
 .exact⟨Sub.refl φ,λb pl e e'=>(by rw[e]at e';cases e'),Nat.le_refl _,g4.size,λB hB _=>hfr B hB,λ_ _ _=>rfl,g4.tape,g4.os,g4.output,λ_ _=>trivial,rfl,λ_ _=>rfl,λb o pl _ _ _ _ hB=>hfr _ hB,g4.dr⟩
def Dp(v:Value)(_h:Heap):Prop:=v=.bool true
def Has(ob:Option bD)(o:Nat)(ws:List Value):Prop:=
 ∃n c e,(ob=some (.ro n c e)\/∃op,ob=some (.cells n c e op))/\o+ws.length<=n/\∀j v,ws[j]? = some v->c.get (o+j)=some v
theorem Has.cells{vs:List Value}{e:TypeId}{op:Bool}{o k:Nat}(h:o+k<=vs.length):Has (some (aa vs e op)) o ((vs.drop o).take k):=by
 refine⟨vs.length,lay vs .nil 0,e,.inr ⟨op,rfl⟩,by simp;omega,λj v hj=>?_⟩;rw[oK];rw[List.getElem?_take]at hj;split at hj
 .simpa[List.getElem?_drop]using hj
 .cases hj
theorem Has.all{vs:List Value}{e:TypeId}{op:Bool}:Has (some (aa vs e op)) 0 vs:=by
 have:=Has.cells (vs:=vs) (e:=e) (op:=op) (o:=0) (k:=vs.length) (by omega);simpa using this
theorem Has.sub{ob:Option bD}{o:Nat}{ws:List Value}(h:Has ob o ws)(i k:Nat)(hk:i+k<=ws.length):Has ob (o+i) ((ws.drop i).take k):=by
 obtain⟨n,c,e,h1,h2,h3⟩:=h;refine⟨n,c,e,h1,by simp;omega,λj v hj=>?_⟩;rw[List.getElem?_take]at hj;split at hj
 .rw[List.getElem?_drop]at hj;rw[Nat.add_assoc];exact h3 _ _ hj
 .cases hj
theorem eY{ob:Option bD}{o:Nat}{ws:List Value}(h:Has ob o ws)(j:Nat)(V:Value->β):j<ws.length->w9 fl ob (o+j) V=Jc fl ws[j]? V:=by
 intro hj;obtain⟨n,c,e,h1,h2,h3⟩:=h;have hle:Nat.ble (Nat.succ (o+j)) n=true:=Nat.ble_eq_true_of_le (by omega);have hv:=h3 j _ (List.getElem?_eq_getElem hj);rw[List.getElem?_eq_getElem hj];rcases h1 with rfl|⟨op,rfl⟩<;>simp only[w9,hle,hv,Jc]
theorem Cn(c:T Value)(ws:List Value)(off:Nat):∀(n:Nat)(acc:List Value)(V:List Value->β),n<=ws.length->(∀j v,ws[j]? = some v->c.get (off+j)=some v)->mj fl c off n acc V=V (ws.take n++acc):=by
 intro n
 induction n with
 |zero=>intro acc V _ _;simp;rfl
 |succ n ih=>
  intro acc V h hc
  show Option.rec (motive:=λ_=>β) fl (λv=>mj fl c off n (v::acc) V) (c.get (Nat.add off n))=_
  rw[show Nat.add off n=off+n from rfl,hc n _ (List.getElem?_eq_getElem (by omega))]
  show mj fl c off n (ws[n]::acc) V=_
  rw[ih _ _ (by omega) hc,List.take_succ_eq_append_getElem (by omega)];simp only[List.append_assoc,List.cons_append,List.nil_append]
theorem pQ{ob:Option bD}{o:Nat}{ws:List Value}(h:Has ob o ws)(s:Nat)(V:List Value->β)(hs:s=ws.length):x9 fl ob o s V=V ws:=by
 obtain⟨n,c,e,h1,h2,h3⟩:=h;subst hs;have hle:Nat.ble (Nat.add o ws.length) n=true:=Nat.ble_eq_true_of_le h2;rcases h1 with rfl|⟨op,rfl⟩<;>simp only[x9,hle]<;>rw[Cn c ws o _ _ _ (Nat.le_refl _) h3]<;>simp
theorem kH(h:Heap)(size n:Nat)(x:Value)(V:List Value->β)(h0:n*size=0):d_ fl h size n x V=V []:=by
 unfold d_;rw[show Nat.mul n size=0 from h0]
theorem jQ{h:Heap}{b o:Nat}{ws:List Value}(hh:Has (h.bl.get b) o ws)(size n l c:Nat)(V:List Value->β)(hn:n*size=ws.length):d_ fl h size n (.slice (some ⟨b,o,none⟩) l c) V=V ws:=by
 unfold d_;rw[show Nat.mul n size=ws.length from hn];cases hw:ws with
 |nil=>rfl
 |cons w0 ws0=>
  obtain⟨nn,cc,e,h1,h2,h3⟩:=hh;rw[hw]at h2 h3;have hle:Nat.ble (Nat.add o (Nat.succ ws0.length)) nn=true:=Nat.ble_eq_true_of_le (by simpa using h2);have fin:mj fl cc o (Nat.succ ws0.length) [] V=V (w0::ws0):=by
   rw[Cn cc (w0::ws0) o _ _ _ (by simp) h3]
   congr 1
   simp
  rcases h1 with h1|⟨op,h1⟩<;>simp only[List.length_cons,h1,hle]<;>exact fin
section
variable {α:Type}(enc:α->List Value)(s:Nat)
def Sl(h:Heap)(v:Value)(L:List α):Prop:=
 ∃x cap,v=.slice x L.length cap/\(L≠[]->∃b o,x=some ⟨b,o,none⟩/\b<h.nx/\Has (h.bl.get b) o (L.flatMap enc))
variable {enc s}
theorem Sl.le{h h':Heap}{v:Value}{L:List α}(hs:Sl enc h v L)(hl:Le h h'):Sl enc h' v L:=by
 obtain⟨x,cap,h1,h2⟩:=hs;refine⟨x,cap,h1,λhn=>?_⟩;obtain⟨b,o,e1,e2,e3⟩:=h2 hn;exact⟨b,o,e1,Nat.lt_of_lt_of_le e2 hl.nx,by rw[hl.get b e2];exact e3⟩
theorem Sl.nil(h:Heap)(x:Option Addr)(cap:Nat):Sl enc h (.slice x 0 cap) ([]:List α):=⟨x,cap,rfl,λhn=>absurd rfl hn⟩
theorem bu(he:∀a:α,(enc a).length=s)(L:List α):(L.flatMap enc).length=L.length*s:=by
 induction L with
 |nil=>simp
 |cons a L ih=>simp[he,ih,Nat.succ_mul,Nat.add_comm]
theorem x_(he:∀a:α,(enc a).length=s):∀(L:List α)(i:Nat)(hi:i<L.length),((L.flatMap enc).drop (i*s)).take s=enc L[i]:=by
 intro L
 induction L with
 |nil=>intro i hi;simp at hi
 |cons a L ih=>
  intro i hi;cases i with
  |zero=>simp[List.take_append,he]
  |succ i=>
   have:=ih i (by simpa using hi);simp only[List.flatMap_cons,List.getElem_cons_succ];rw[<-this,List.drop_append,show(enc a).drop ((i+1)*s)=[]from List.drop_eq_nil_of_le (by rw[he,Nat.succ_mul];omega),he,show(i+1)*s-s=i*s by rw[Nat.succ_mul];omega];rfl
theorem Sl.elem{h:Heap}{v:Value}{L:List α}(hs:Sl enc h v L)(he:∀a:α,(enc a).length=s)(i:Nat)(hi:i<L.length):∃b o cap,v=.slice (some ⟨b,o,none⟩) L.length cap/\b<h.nx/\Has (h.bl.get b) (o+i*s) (enc L[i]):=by
 obtain⟨x,cap,h1,h2⟩:=hs;obtain⟨b,o,e1,e2,e3⟩:=h2 (by intro e;rw[e]at hi;simp at hi);subst e1;refine⟨b,o,cap,h1,e2,?_⟩;have hle:i*s+s<=(L.flatMap enc).length:=by
  rw[bu he,<-Nat.succ_mul];exact Nat.mul_le_mul_right _ hi
 have:=e3.sub (i*s) s hle
 rwa [x_ he L i hi]at this
theorem Sl.len{h:Heap}{v:Value}{L:List α}(hs:Sl enc h v L)(V:Z7 β)(h':Heap):bJ fl v h' V=V (.int .i64 (L.length:Int)) h':=by
 obtain⟨x,cap,rfl,_⟩:=hs;rfl
theorem Sl.at{h:Heap}{v:Value}{L:List α}(hs:Sl enc h v L)(he:∀a:α,(enc a).length=s)(i:Nat)(hi:i<L.length):∃b o,b<h.nx/\Has (h.bl.get b) o (enc L[i])/\∀(β:Type)(fl:β)(h':Heap)(V:Z7 β),aK fl s v (.int .i64 (i:Int)) h' V=V (.pointer (some ⟨b,o,none⟩)) h':=by
 obtain⟨b,o,cap,rfl,h1,h2⟩:=hs.elem he i hi;exact⟨b,o+i*s,h1,h2,λβ fl h' V=>bh s b o _ cap i h' V hi⟩
theorem Sl.ld{h:Heap}{v:Value}{L:List α}(hs:Sl enc h v L)(he:∀a:α,(enc a).length=s)(i:Nat){p:α}(hp:L[i]? = some p):∃b o,b<h.nx/\(∀(β:Type)(fl:β)(h':Heap)(V:Z7 β),aK fl s v (.int .i64 (i:Int)) h' V=V (.pointer (some ⟨b,o,none⟩)) h')/\
   (∀(β:Type)(fl:β)(V:List Value->β),x9 fl (h.bl.get b) o s V=V (enc p))/\Has (h.bl.get b) o (enc p):=by
 obtain⟨hi,rfl⟩:=List.getElem?_eq_some_iff.1 hp;obtain⟨b,o,h1,h2,h3⟩:=hs.at he i hi;exact⟨b,o,h1,h3,λβ fl V=>pQ h2 s V (he _).symm,h2⟩
theorem Sl.first{h:Heap}{v:Value}{L:List α}(hs:Sl enc h v L)(he:∀a:α,(enc a).length=s)(V:List Value->β):d_ fl h s L.length v V=V (L.flatMap enc):=by
 by_cases hn:L=[]
 .subst hn;rw[kH _ _ _ _ _ (by simp)];rfl
 .obtain⟨x,cap,rfl,h2⟩:=hs;obtain⟨b,o,rfl,e2,e3⟩:=h2 hn;exact jQ e3 _ _ _ _ _ (bu he L).symm
theorem Sl.new{h:Heap}{b:Nat}{L:List α}{e:TypeId}{op:Bool}(hb:b<h.nx)(hg:h.bl.get b=some (aa (L.flatMap enc) e op))(cap:Nat):Sl enc h (.slice (some ⟨b,0,none⟩) L.length cap) L:=
 ⟨_,cap,rfl,λ_=>⟨b,0,rfl,hb,by rw[hg];exact Has.all⟩⟩
variable (enc)
def fC(a:Heap)(e:TypeId)(h:Heap)(v:Value)(L:List α):Prop:=
 (L=[]/\(v=.slice none 0 0\/∃b o,v=.slice (some ⟨b,o,none⟩) 0 0))\/∃b,v=.slice (some ⟨b,0,none⟩) L.length aS/\a.nx<=b/\b<h.nx/\h.lo<=b/\h.bl.get b=some (aa (L.flatMap enc) e true)
variable {enc}
theorem fC.sl{a h:Heap}{e:TypeId}{v:Value}{L:List α}(ho:fC enc a e h v L):Sl enc h v L:=by
 rcases ho with⟨rfl,rfl|⟨b,o,rfl⟩⟩|⟨b,rfl,h1,h2,h3,h4⟩
 .exact Sl.nil _ _ _
 .exact Sl.nil _ _ _
 .exact Sl.new h2 h4 _
theorem fC.le{a h h':Heap}{e:TypeId}{v:Value}{L:List α}(ho:fC enc a e h v L)(hl:Le h h'):fC enc a e h' v L:=by
 rcases ho with ho|⟨b,h0,h1,h2,h3,h4⟩
 .exact .inl ho
 .exact .inr ⟨b,h0,h1,Nat.lt_of_lt_of_le h2 hl.nx,by rw[hl.lo];exact h3,by rw[hl.get b h2];exact h4⟩
theorem append_nil{h:Heap}{e:TypeId}{z:List Value}{v x:Value}(hx:Sl enc h x ([]:List α))(hv:∃b n c,v=.slice b n c)(V:Z7 β):bR fl e s z false v x h V=V v h:=by
 obtain⟨b,n,c,rfl⟩:=hv;obtain⟨y,cap,rfl,_⟩:=hx;simp only[bR,nh,List.length_nil];rw[kH _ _ _ _ _ (by simp)]
set_option maxRecDepth 20000 in
theorem jR{a h:Heap}{e:TypeId}{z:List Value}{v x:Value}{L M:List α}(he:∀a:α,(enc a).length=s)(hone:∀a:α,(enc a).all dJ=true)(hs0:0<s)(hs1:s<=100)(ho:fC enc a e h v L)(hx:Sl enc h x M)(hle:Le a h)(hb:L.length+M.length<=1000000)(hal:h.lo<=h.nx)(V:KQ)(hk:∀v' h',fC enc a e h' v' (L++M)->Le a h'->h'.nx<=h.nx+1->h.nx<=h'.nx->V v' h'):bR False e s z false v x h V:=by
 by_cases hM:M=[]
 .subst hM;rw[append_nil hx (by rcases ho with⟨rfl,rfl|⟨b,o,rfl⟩⟩|⟨b,rfl,_⟩<;>exact⟨_,_,_,rfl⟩)];exact hk v h (by simpa using ho) hle (Nat.le_succ _) (Nat.le_refl _)
 .obtain⟨m,hm⟩:∃m,M.length=m+1:=⟨M.length-1,by have:=List.length_pos_iff.2 hM;omega⟩
  have hfl:=bu (enc:=enc) he;have jS:=hx.first (β:=Prop) (fl:=False) he;obtain⟨y,cap,rfl,h2⟩:=hx;have hml:∀K:List α,K.length<=1000000->(K.flatMap enc).length<=1000000000000:=λK hK=>by
   rw[hfl];have:=Nat.mul_le_mul hK hs1;omega
  have fresh:∀(hh:Heap)(ws:List Value),ws=(L++M).flatMap enc->Le a hh->hh.nx=h.nx->hh.lo=h.lo->dF False ws e true hh λb h'=>V (.slice (some ⟨b,0,none⟩) (L.length+M.length) aS) h':=by
   intro hh ws hw XC sZ hlo;subst hw;unfold dF;rw[jj _ _ _ _ (hml _ (by simp;omega)),di];refine hk _ _ (.inr ⟨hh.nx,by simp,XC.nx,Nat.lt_succ_self _,by show hh.lo<=_;omega,T.ah _ _ _⟩) (XC.new _) (by show hh.nx+1<=_;omega) (by show h.nx<=hh.nx+1;omega)
  rcases ho with⟨rfl,hv⟩|⟨b,rfl,h3,h4,h5,h6⟩
  .have hF:=fresh h (M.flatMap enc) (by simp) hle rfl rfl;simp only[List.length_nil,Nat.zero_add]at hF;rcases hv with rfl|⟨b,o,rfl⟩
   .unfold bR nh;simp only;rw[jS];simp only[hm,b6];rw[show Nat.ble (Nat.add 0 (m+1)) 1000000000=true from Nat.ble_eq_true_of_le (by show 0+(m+1)<=_;omega)];rw[hm]at hF;have e1:Nat.add 0 (m+1)=m+1:=by show 0+(m+1)=_;omega
    rw[e1];exact hF
   .unfold bR nh;simp only;rw[jS];simp only[hm,b6];have e1:Nat.add 0 (m+1)=m+1:=by show 0+(m+1)=_;omega
    rw[e1,show Nat.ble (m+1) 1000000000=true from Nat.ble_eq_true_of_le (by omega)];rw[hm]at hF
    show d_ False h s 0 _ _
    rw[kH _ _ _ _ _ (by simp)];exact hF
  .unfold bR nh;simp only;rw[jS];simp only[hm,b6];have e1:Nat.add L.length (m+1)=L.length+(m+1):=rfl;rw[e1,show Nat.ble (L.length+(m+1)) 1000000000=true from Nat.ble_eq_true_of_le (by omega)];have e2:Nat.beq aS gG=false:=by decide
   have e3:Nat.beq aS aS=true:=Nat.beq_refl _;simp only[e2,e3,h6];have e4:Nat.ble (Nat.add 0 (Nat.mul (L.length+(m+1)) s)) (L.flatMap enc).length=false:=by
    rw[hfl];cases UK:Nat.ble (Nat.add 0 (Nat.mul (L.length+(m+1)) s)) (L.length*s)with
    |false=>rfl
    |true=>
     have h7:0+(L.length+(m+1))*s<=L.length*s:=Nat.le_of_ble_eq_true UK;rw[Nat.add_mul,Nat.succ_mul]at h7;omega
   have e5:(M.flatMap enc).all dJ=true:=by
    rw[List.all_flatMap];simp only[List.all_eq_true];intro x _;exact List.all_eq_true.1 (hone x)
   simp only[aa,Nat.beq_refl,e4,e5,Bool.and_self];have hh:Has (h.bl.get b) 0 (L.flatMap enc):=by rw[h6];exact Has.all
   rw[jQ hh s L.length _ _ _ (hfl L).symm,bB _ _ _ _ h5];have hF:=fresh ⟨h.nx,h.bl.aV b (.dead (L.flatMap enc).length e),h.lo⟩ (L.flatMap enc++M.flatMap enc) (by simp) (hle.set h3 _) rfl rfl;rw[hm]at hF;exact hF
end
end Go.Vai
namespace Go.Vai
open Go
theorem Co(zs:List Value):a_ zs 1=zs:=by simp[a_]
theorem xg(w:Bool):au undef w=false:=by cases w<;>rfl
theorem PY(a:Value)(l:List Value):slot (a::l) 0=a:=id rfl
theorem PZ(a:Value)(l:List Value)(n:Nat):slot (a::l) (n+1)=slot l n:=id rfl
theorem rI(l:List Value):(Value.cells (.agg ⟨l⟩)).toList=l:=id rfl
theorem rJ(k:IntKind)(n:Int):(Value.cells (.int k n)).toList=[.int k n]:=id rfl
theorem pR(b:Bool):(Value.cells (.bool b)).toList=[.bool b]:=id rfl
theorem rK(a:Option Addr):(Value.cells (.pointer a)).toList=[.pointer a]:=id rfl
theorem nG(a:Option Addr)(n c:Nat):(Value.cells (.slice a n c)).toList=[.slice a n c]:=id rfl
theorem KP(k:IntKind)(n:Int):dJ (.int k n)=true:=id rfl
theorem E8(b:Bool):dJ (.bool b)=true:=id rfl
theorem KS(s:ByteArray):dJ (.string s)=true:=id rfl
theorem KU(a:Option Addr):dJ (.pointer a)=true:=id rfl
theorem KV(a:Option Addr)(n c:Nat):dJ (.slice a n c)=true:=id rfl
theorem KW(a:Option Nat):dJ (.map a)=true:=id rfl
theorem KX(f:Fn)(a b:Array Value):dJ (.func f a b)=true:=id rfl
theorem KY(t:TypeId)(v:Value):dJ (.iface t v)=true:=id rfl
theorem qO(vs ws:List Value)(h:ws.length=vs.length):over vs 0 ws=ws:=by simp[over,h]
variable {β:Type}{fl:β}
theorem P0:∀(new old:List Value)(V:List Value->β),new.length<=old.length->tU fl new old V=V (over old 0 new):=by
 intro new
 induction new with
 |nil=>intro old V _;rw[E0];cases old<;>rfl
 |cons v new ih=>
  intro old V h;cases old with
  |nil=>simp at h
  |cons o old=>
   simp only[tU];rw[ih old _ (by simpa using h)];simp[over]
theorem UL(new:List Value):∀(o:Nat)(old:List Value)(V:List Value->β),o+new.length<=old.length->cM fl new o old V=V (over old o new):=by
 intro o
 induction o with
 |zero=>
  intro old V h;have:cM fl new 0 old V=tU fl new old V:=by cases old<;>rfl
  rw[this,P0 _ _ _ (by simpa using h)]
 |succ o ih=>
  intro old V h;cases old with
  |nil=>simp at h
  |cons v old=>
   simp only[cM];rw[ih old _ (by simp at h;omega)];simp[over,Nat.add_right_comm]
theorem qP(cs:List Value)(V:List Value->β):bg fl [] [] cs V=V cs:=id rfl
theorem oM(off size:Nat)(ps:List (Nat × Nat))(v:Value)(vs cs:List Value)(V:List Value->β)(h1:v.cells.toList.length=size)(h2:off+size<=cs.length):bg fl ((off,size)::ps) (v::vs) cs V=bg fl ps vs (over cs off v.cells.toList) V:=by
 subst h1
 show(match Nat.beq v.cells.toList.length v.cells.toList.length with|false=>fl|true=>cM fl v.cells.toList off cs λcs=>bg fl ps vs cs V)=_
 rw[Nat.beq_refl];simp only;rw[UL _ _ _ _ h2]
theorem P4(size:Nat)(v:Value)(cs:List Value)(V:List Value->β)(h1:v.cells.toList.length=size)(h2:cs.length=size):bg fl [(0,size)] [v] cs V=V v.cells.toList:=by
 rw[oM _ _ _ _ _ _ _ h1 (by omega),qP,qO _ _ (by omega)]
end Go.Vai

namespace Go.Vai
open Go
section
variable {β:Type}{fl:β}{P:Program}{h h':Heap}{V:Z7 β}{a a' b b' c c':Value}
@[congr] theorem Zp{op:BinOp}{t:TypeId}{cn gd:Bool}(ha:a=a')(hb:b=b'):ay fl P op t cn gd a b h V=ay fl P op t cn gd a' b' h V:=by rw[ha,hb]
@[congr] theorem aeW{op:UnOp}(ha:a=a'):jf fl op a h V=jf fl op a' h V:=by rw[ha]
@[congr] theorem XD{k:IntKind}(ha:a=a'):mu fl k a h V=mu fl k a' h V:=by rw[ha]
@[congr] theorem XE(hc:c=c')(ha:a=a')(hb:b=b'):aY fl c a b h V=aY fl c' a' b' h V:=by rw[ha,hb,hc]
@[congr] theorem Zq(ha:a=a'):aN fl a h V=aN fl a' h V:=by rw[ha]
@[congr] theorem Nf{o:Nat}(ha:a=a'):fieldAddrB fl o a h V=fieldAddrB fl o a' h V:=by rw[ha]
@[congr] theorem Ng{s:Nat}(ha:a=a')(hb:b=b'):aK fl s a b h V=aK fl s a' b' h V:=by rw[ha,hb]
@[congr] theorem Nh{n s:Nat}(ha:a=a')(hb:b=b'):mq fl n s a b h V=mq fl n s a' b' h V:=by rw[ha,hb]
@[congr] theorem UM{g:Bool}{s o:Nat}(ha:a=a'):sM fl g s o a h V=sM fl g s o a' h V:=by rw[ha]
@[congr] theorem UN{g:Bool}{n s:Nat}(ha:a=a')(hb:b=b'):yC fl g n s a b h V=yC fl g n s a' b' h V:=by rw[ha,hb]
@[congr] theorem UO(ha:a=a')(hb:b=b'):yD fl a b h V=yD fl a' b' h V:=by rw[ha,hb]
@[congr] theorem P5{i:Nat}(ha:a=a'):aD fl i a h V=aD fl i a' h V:=by rw[ha]
@[congr] theorem XG(ha:a=a'):load1 fl a h V=load1 fl a' h V:=by rw[ha]
@[congr] theorem XH{s:Nat}(ha:a=a'):aF fl s a h V=aF fl s a' h V:=by rw[ha]
@[congr] theorem UP{s:Nat}(ha:a=a')(hb:b=b'):aI fl s a b h V=aI fl s a' b' h V:=by rw[ha,hb]
@[congr] theorem aeX{o o':Option bD}{i:Nat}{k:Value→β}(ho:o=o'):w9 fl o i k=w9 fl o' i k:=by rw[ho]
@[congr] theorem aeY{o o':Option bD}{i s:Nat}{k:List Value→β}(ho:o=o'):x9 fl o i s k=x9 fl o' i s k:=by rw[ho]
@[congr] theorem aeZ{o o':Option bD}{s i j:Nat}{ws O0:List Value}{k:Heap→β}(ho:o=o')(hw:ws=O0)(hh:h=h'):UJ fl o s i j ws h k=UJ fl o' s i j O0 h' k:=by rw[ho,hw,hh]
@[congr] theorem Zr{o o':Option Value}{k:Value→β}(ho:o=o'):Jc fl o k=Jc fl o' k:=by rw[ho]
@[congr] theorem P6{o:bD}{k:Nat→Heap→β}(hh:h=h'):ax fl o h k=ax fl o h' k:=by rw[hh]
@[congr] theorem P7{i:Nat}{o:bD}{k:Heap→β}(hh:h=h'):setBlock fl i o h k=setBlock fl i o h' k:=by rw[hh]
@[congr] theorem UQ{ws O0:List Value}{e:TypeId}{g:Bool}{k:bD→β}(hw:ws=O0):aH fl ws e g k=aH fl O0 e g k:=by rw[hw]
@[congr] theorem P8{ws O0:List Value}{e:TypeId}{g:Bool}{k:Nat→Heap→β}(hw:ws=O0)(hh:h=h'):dF fl ws e g h k=dF fl O0 e g h' k:=by rw[hw,hh]
@[congr] theorem XJ{ps:List (Nat × Nat)}{vs vs' cs cs':List Value}{k:List Value→β}(hv:vs=vs')(hc:cs=cs'):bg fl ps vs cs k=bg fl ps vs' cs' k:=by rw[hv,hc]
@[congr] theorem UR{e s:Nat}{l u m l' u' m':Option Value}(ha:a=a')(hl:l=l')(hu:u=u')(hm:m=m'):sliceB fl e s a l u m h V=sliceB fl e s a' l' u' m' h V:=by rw[ha,hl,hu,hm]
@[congr] theorem US{l u m l' u' m':Option Value}(ha:a=a')(hl:l=l')(hu:u=u')(hm:m=m'):yA fl a l u m h V=yA fl a' l' u' m' h V:=by rw[ha,hl,hu,hm]
@[congr] theorem TP{e s:Nat}{z:List Value}{g:Bool}(ha:a=a')(hb:b=b')(hh:h=h'):bR fl e s z g a b h V=bR fl e s z g a' b' h' V:=by rw[ha,hb,hh]
@[congr] theorem XK{s:Nat}(ha:a=a')(hb:b=b'):Ei fl s a b h V=Ei fl s a' b' h V:=by rw[ha,hb]
@[congr] theorem UT{z:List Value}(ha:a=a'):kP fl z a h V=kP fl z a' h V:=by rw[ha]
@[congr] theorem UU(ha:a=a'):bJ fl a h V=bJ fl a' h V:=by rw[ha]
@[congr] theorem UW(ha:a=a'):yB fl a h V=yB fl a' h V:=by rw[ha]
@[congr] theorem UX(ha:a=a'):pK fl a h V=pK fl a' h V:=by rw[ha]
@[congr] theorem TQ{t:TypeId}{z:Value}{g:Bool}(ha:a=a')(hb:b=b'):cr fl P t z g a b h V=cr fl P t z g a' b' h V:=by rw[ha,hb]
@[congr] theorem Ni{t:TypeId}(ha:a=a')(hb:b=b')(hc:c=c'):bS fl P t a b c h V=bS fl P t a' b' c' h V:=by rw[ha,hb,hc]
@[congr] theorem TS{t:TypeId}(ha:a=a')(hb:b=b'):jw fl P t a b h V=jw fl P t a' b' h V:=by rw[ha,hb]
@[congr] theorem UY(ha:a=a'):nS fl a h V=nS fl a' h V:=by rw[ha]
@[congr] theorem XL{f:β→β→β}(ha:a=a'):oz fl f a h V=oz fl f a' h V:=by rw[ha]
@[congr] theorem UZ(ha:a=a'):kQ fl a h V=kQ fl a' h V:=by rw[ha]
@[congr] theorem KZ{t:TypeId}{z:Value}{g:Bool}(ha:a=a'):fh fl t z g a h V=fh fl t z g a' h V:=by rw[ha]
@[congr] theorem Zs(ha:a=a')(hb:b=b'):O3 fl a b h V=O3 fl a' b' h V:=by rw[ha,hb]
@[congr] theorem Zt(ha:a=a')(hb:b=b'):CY fl a b h V=CY fl a' b' h V:=by rw[ha,hb]
end
section
variable {P:Program}{h h':Heap}{V:KQ}
@[congr] theorem ae0{o o':Option Value}(ho:o=o'):az o h V=az o' h V:=by rw[ho]
@[congr] theorem ae1{o o':Option (bD × (Nat→Value))}(ho:o=o'):y_ o h V=y_ o' h V:=by rw[ho]
@[congr] theorem U0{b b':Bool}{f:(Value→Heap→Prop)→Prop}(hb:b=b'):af b f h V=af b' f h V:=by rw[hb]
@[congr] theorem XM{b b':Bool}{p:Prop}(hb:b=b'):bP b p=bP b' p:=by rw[hb]
@[congr] theorem XN{v v':Value}{A B:Prop}(hv:v=v'):aJ v A B=aJ v' A B:=by rw[hv]
@[congr] theorem XP{A:(List Value→Heap→Prop)→Prop}{B:List Value→Heap→Prop}:cO A B=cO A B:=rfl
@[congr] theorem XQ{l l':List Value}{body:List Value→Heap→(List Value→Heap→Prop)→Prop}(hh:h=h'):dU l h body=dU l h' body:=by rw[hh]
@[congr] theorem XR{f:FuncId}{l l':List Value}(hl:l=l')(hh:h=h'):CallW P f l h V=CallW P f l' h' V:=by rw[hl,hh]
@[congr] theorem XS{v v':Value}{l l':List Value}(hv:v=v')(hl:l=l')(hh:h=h'):fJ P v l h V=fJ P v' l' h' V:=by rw[hv,hl,hh]
@[congr] theorem XT{n:String}{v v':Value}{l l':List Value}(hv:v=v')(hl:l=l')(hh:h=h'):CallI P n v l h V=CallI P n v' l' h' V:=by rw[hv,hl,hh]
end
end Go.Vai

namespace Go.Vai
open Go Go.RowKit Go.WideShapes Go.ChangeShapes
variable {P:Program}
theorem P9{φ φ':ee}{h h':Heap}{w w':World}(hx:Ext φ φ' h h' w w')(hro:∀b pl,φ b=some pl->b<h.lo/\∃o,h.bl.get b=some o/\o.live):Below w.heap.size w w':=by
 refine⟨hx.os,hx.tape,hx.output,hx.size,λB hB=>?_⟩;by_cases he:∃b pl,φ b=some pl/\pl.B=B
 .obtain⟨b,pl,h1,rfl⟩:=he;obtain⟨h2,o,h3,h4⟩:=hro b pl h1;exact hx.IC b o pl h2 h3 h4 h1 hB
 .exact hx.Bs B hB λb pl h1 h2=>he ⟨b,pl,h1,h2⟩
theorem U2{f:FuncId}{args args':List Value}{φ:ee}{h:Heap}{w:World}(hc:CallW P f args h Dp)(ha:F2 (VR φ) args args')(hr:HR P φ h w)(hro:∀b pl,φ b=some pl->b<h.lo/\∃o,h.bl.get b=some o/\o.live):Calls P f args'.toArray w λe w'=>e=.returned (.bool true)/\Below w.heap.size w w':=by
 refine Calls.mono (hc φ w args' ha hr).2 ?_;rintro e w' ⟨φ',v,v',h',rfl,g1,g2,g3,g4⟩;have g1:v=.bool true:=g1;subst g1;cases g2;exact⟨rfl,P9 g4 hro⟩
section
variable {α:Type}{dm:α->List Value}{s:Nat}
def lq(dm:α->List Value)(w:World)(v:Value)(L:List α):Prop:=
 (L=[]/\(v=.slice none 0 0\/∃a cap,v=.slice (some a) 0 cap))\/
 ∃B o cap C e fz,v=.slice (some ⟨B,o,none⟩) L.length cap/\L.length<=cap/\cap<=maxLen/\w.heap[B]? = some (.cells C e fz)/\o+(L.flatMap dm).length<=C.size/\∀j u,(L.flatMap dm)[j]? = some u->C[o+j]? = some u
theorem E9{n:Nat}{p:Nat->α->Prop}(h:∀i,i<n->∃x,p i x):∃L:List α,L.length=n/\∀i a,L[i]? = some a->p i a:=by
 induction n with
 |zero=>exact⟨[],rfl,λi a e=>by simp at e⟩
 |succ n ih=>
  obtain⟨L,h1,h2⟩:=ih λi hi=>h i (Nat.lt_succ_of_lt hi);obtain⟨a,ha⟩:=h n (Nat.lt_succ_self n);refine⟨L++[a],by simp[h1],λi b e=>?_⟩;rcases Nat.lt_or_ge i n with hi|hi
  .rw[List.getElem?_append_left (by omega)]at e;exact h2 i b e
  ·have:i=n:=by
    have:=(List.getElem?_eq_some_iff.1 e).1;simp[h1]at this;omega
   subst this;rw[List.getElem?_append_right (by omega),h1]at e;simp at e;subst e;exact ha
theorem Dq(he:∀a:α,(dm a).length=s)(hs:0<s):∀(L:List α)(j:Nat)(u:Value),(L.flatMap dm)[j]? = some u->∃a,L[j / s]? = some a/\(dm a)[j % s]? = some u:=by
 intro L
 induction L with
 |nil=>intro j u e;simp at e
 |cons a L ih=>
  intro j u e;simp only[List.flatMap_cons]at e;rcases Nat.lt_or_ge j s with hj|hj
  .rw[List.getElem?_append_left (by rw[he];exact hj)]at e;rw[Nat.div_eq_of_lt hj,Nat.mod_eq_of_lt hj];exact⟨a,rfl,e⟩
  .rw[List.getElem?_append_right (by rw[he];exact hj),he]at e;obtain⟨b,h1,h2⟩:=ih (j-s) u e;refine⟨b,?_,?_⟩
   .rw[Nat.div_eq_sub_div hs hj];simpa using h1
   .rw[Nat.mod_eq_sub_mod hj];exact h2
theorem P_{H:Type}{enc:TypeId × Value->H}{w:World}{t e:TypeId}{fuel:Nat}{v:Value}{x:DataW H × List MemPlace}(he:∀a:α,(dm a).length=s)(hs:0<s)(ht:P.underlying t=some (.slice e))(hc:P.cellsOf e=s)(Je:∀(n:Nat)(cs:List Value)(d:DataW H × List MemPlace),cs.length=s->DataW.trod enc P w 0 (λ_=>true) true n e cs=some d->∃a:α,cs=dm a)(h:DataW.trod enc P w 0 (λ_=>true) true fuel t [v]=some x):∃L:List α,lq dm w v L:=by
 rcases Go.Deep.open_slice ht h with⟨h1,_⟩|⟨a,len,cap,m,n,D,Pl,h1,hb,hl,hm,hmm,hx,hi⟩
 .cases h1;exact⟨[],.inl ⟨rfl,.inl rfl⟩⟩
 .cases h1;simp only[if_true]at hmm;subst hmm;by_cases hlen:len=0
  .subst hlen;exact⟨[],.inl ⟨rfl,.inr ⟨a,_,rfl⟩⟩⟩
  ·have hel:∀i,i<len->∃p:α,∀j u,(dm p)[j]? = some u->w.cell? (a.add (i*s+j))=some u:=by
    intro i hil;obtain⟨cs,h2,h3⟩:=hi i (by omega);rw[hc]at h2;obtain⟨_,h4,h5⟩:=World.cells?_some h2;obtain⟨p,rfl⟩:=Je n cs _ h4 h3;refine⟨p,λj u hj=>?_⟩;have hjs:j<s:=by have:=(List.getElem?_eq_some_iff.1 hj).1;rwa [he]at this
    have:=h5 j hjs;rw[Go.Deep.add_add]at this;rw[this,hj]
   obtain⟨L,hL,hp⟩:=E9 hel;have hcell:∀j u,(L.flatMap dm)[j]? = some u->w.cell? (a.add j)=some u:=by
    intro j u hj;obtain⟨p,g1,g2⟩:=Dq he hs L j u hj;have:=hp _ p g1 _ u g2
    rwa [Nat.mul_comm,Nat.div_add_mod]at this
   have hfl:=bu (enc:=dm) he L;have hpos:0<(L.flatMap dm).length:=by rw[hfl,hL];exact Nat.mul_pos (by omega) hs
   have h0:=hcell 0 _ (List.getElem?_eq_getElem hpos);have ha0:a.add 0=a:=by simp[Addr.add]
   rw[ha0]at h0;obtain⟨B,o,sp⟩:=a;unfold World.cell? at h0;split at h0<;>try contradiction
   rename_i C e' fz hC;cases sp with
   |some q=>simp at h0
   |none=>
    refine⟨L,.inr ⟨B,o,m,C,e',fz,by rw[hL],by omega,hm,hC,?_,?_⟩⟩
    .have E_:=hcell ((L.flatMap dm).length-1) _ (List.getElem?_eq_getElem (by omega));have Pd:(⟨B,o,none⟩:Addr).add ((L.flatMap dm).length-1)=⟨B,o+((L.flatMap dm).length-1),none⟩:=by unfold Addr.add;split<;>simp_all
     rw[Pd]at E_;simp only[World.cell?,hC]at E_;have:=(Array.getElem?_eq_some_iff.1 E_).1;omega
    .intro j u hj;have hx:=hcell j u hj;have Pd:(⟨B,o,none⟩:Addr).add j=⟨B,o+j,none⟩:=by unfold Addr.add;split<;>simp_all
     rw[Pd]at hx;simpa[World.cell?,hC]using hx
def zi:Heap:=⟨0,.nil,0⟩
def af0:ee:=λ_=>none
theorem Qa(w:World):HR P af0 zi w:=HR.start w
end
section
variable {H:Type}{enc:TypeId × Value->H}
theorem post_of_law{f:Func}{s:ChangeSpec}{apart fresh handsOn again:Bool}{W W':World}{args:Array Value}{v:Value}{ds gs:List (DataW H)}{before pa pv:List MemPlace}(hW:DataW.Whole enc P f.params.toList s.vars apart W args.toList ds gs before)(hres:∀(b:Nat)(sp:Nat->Bool)(hd:Bool),DataW.TrodAll enc P W' b sp hd f.resultTypes.toList (v.resultList f.resultTypes.size) (s.fn H (ds++gs)).results [])(hargs:∀sp:Nat->Bool,(∀p∈before,sp p.block=true)->DataW.TrodAll enc P W' 0 sp true f.params.toList args.toList (s.fn H (ds++gs)).args pa)(hvars:∀sp:Nat->Bool,(∀p∈before,sp p.block=true)->DataW.TrodVars enc P W' sp s.vars (s.fn H (ds++gs)).vars pv)(hps:before=pa++pv)(hb:Below W.heap.size W W')(hok:∀(j:Nat)(t:TypeId)(r:Value),f.resultTypes[j]? = some t->(v.resultList f.resultTypes.size)[j]? = some r->Value.okWide P W' .any 0 t r):s.post enc P f apart fresh handsOn again W args v W':=by
 have hlt:∀p∈before,p.block<W.heap.size:=λp hp=>hW.lt p hp;have hold:∀p∈before,(λb=>decide (b<W.heap.size)) p.block=true:=λp hp=>by simpa using hlt p hp
 refine⟨ds,gs,before,[],pa,pv,hW,hres _ _ _,hargs _ hold,hvars _ hold,World.keptBut_mono (λp hp=>⟨hp,?_⟩) (hb.frame (·∈before)),λ_=>?_⟩
 .rw[hps,List.mem_append]at hp;exact Or.inr hp
 .obtain⟨_,_,_,_,_,hz,hn⟩:=hW;refine⟨hok,_,_,([]++pa)++pv,⟨[]++pa,pv,trodAll_append (hargs _ (λ_ _=>rfl)) (hres _ _ _),hvars _ (λ_ _=>rfl),rfl,?_,?_⟩,?_⟩
  .intro b off hp;have hin:MemPlace.cell b off∈before:=by rw[hps];simpa using hp
   rw[hb.frozen (hlt _ hin)];exact hz b off hin
  .intro ha;have:=hn ha;rw[hps]at this;simpa using this
  .intro p hp _;rw[hps];simpa using hp
theorem arg_stays{t:TypeId}(hl:laidOutB P=true)(hr:P.readableRec t=true)(hrow:t<P.types.size){W W':World}{v:Value}{d:DataW H}{ps:List MemPlace}(h:DataW.Trod enc P W 0 (λ_=>true) true t v d ps)(hb:Below W.heap.size W W')(hlt:∀x∈ps,x.block<W.heap.size){sp:Nat->Bool}(hsp:∀x∈ps,sp x.block=true):DataW.Trod enc P W' 0 sp true t v d ps:=
 WideElems.Trod_stays hl hr hrow h (λx hx=>hb.same (hlt x hx)) (λx hx=>by simpa using hsp x hx)
end
end Go.Vai
namespace Go.Vai
open Go Go.RowKit
variable {P:Program}
theorem jD{f:FuncId}{args:List Value}{v:Value}(ha:args.all ot=true)(hv:ot v=true)(hc:CallW P f args zi λu _=>u=v){h:Heap}{V:KQ}(hk:V v h):CallW P f args h V:=by
 intro φ w args' hf hr;have:=E7 ha hf;subst this;obtain⟨c1,c2⟩:=hc af0 w args' (E6 ha) (Qa w);refine⟨c1,c2.mono ?_⟩;rintro e w' ⟨φ',v1,v',h',rfl,rfl,g2,g3,g4⟩;have hfr:∀B,B<w.heap.size->w'.heap[B]? = w.heap[B]?:=λB hB=>g4.Bs B hB λb pl e=>by cases e
 refine⟨φ,v1,v',h,rfl,hk,by rw[pP hv g2];exact Dn hv,?_,?_⟩
 .exact⟨λb o pl h1 h2=>by rw[hfr _ (hr.dom b pl h2).2];exact hr.obj b o pl h1 h2,λb pl h1=>⟨(hr.dom b pl h1).1,Nat.lt_of_lt_of_le (hr.dom b pl h1).2 g4.size⟩,hr.keys,hr.Pb,hr.inj,hr.lo⟩
 .exact⟨Sub.refl φ,λb pl e e'=>(by rw[e]at e';cases e'),Nat.le_refl _,g4.size,λB hB _=>hfr B hB,λ_ _ _=>rfl,g4.tape,g4.os,g4.output,λ_ _=>trivial,rfl,λ_ _=>rfl,λb o pl _ _ _ _ hB=>hfr _ hB,g4.dr⟩
theorem Fa(u v:Value):bW (some u) v=kY 8 u v:=id rfl
theorem Cp(zs:List Value):a_ zs 0=[]:=id rfl
theorem Cq(a:Value):a_ [a] 2=[a,a]:=by simp[a_]
theorem Qb(a:Value)(l:List Value)(n:Nat)(ws:List Value):over (a::l) (n+1) ws=a::over l n ws:=by simp[over,Nat.add_right_comm]
theorem Qc(a w:Value)(l ws:List Value):over (a::l) 0 (w::ws)=w::over l 0 ws:=by simp[over]
theorem Qd(l:List Value):over l 0 []=l:=by simp[over]
theorem Fb(u:Value):reN (some u)=true:=id rfl
theorem Fc(r:Bool):reG true r=r:=id rfl
theorem Cr(r:Bool):reG false r=true:=id rfl
theorem gY(n:Nat):Nat.beq n n=true:=Nat.beq_refl n
theorem Cs(n:Int):tT n n=true:=by rw[iq];simp
theorem xh(k:IntKind):iV k k=true:=by rw[gz];simp
theorem U3(n:Nat)(k:IntKind)(a:Int):kY (n+1) (.int k a) (.int k a)=true:=by unfold kY;simp[xh,Cs]
theorem pS(k:IntKind)(a:Int):kY 8 (.int k a) (.int k a)=true:=U3 7 k a
theorem oN(a:Bool):kY 8 (.bool a) (.bool a)=true:=by unfold kY;simp
theorem K0(b o:Nat):kY 8 (.pointer (some ⟨b,o,none⟩)) (.pointer (some ⟨b,o,none⟩))=true:=by unfold kY;simp[gY]
theorem iR(b o n c:Nat):kY 8 (.slice (some ⟨b,o,none⟩) n c) (.slice (some ⟨b,o,none⟩) n c)=true:=by unfold kY;simp[gY]
theorem uu(n c:Nat):kY 8 (.slice none n c) (.slice none n c)=true:=by unfold kY;simp[gY]
theorem vX(n:Nat)(l:List Int):xH (kY (n+1)) (l.map (Value.int .i64)) (l.map (Value.int .i64))=true:=by
 induction l with
 |nil=>rfl
 |cons a l ih=>simp only[List.map_cons,xH,U3,ih,Bool.and_self]
theorem zj(l:List Int):kY 8 (.agg ⟨l.map (.int .i64)⟩) (.agg ⟨l.map (.int .i64)⟩)=true:=by
 unfold kY;exact vX 6 l
theorem XU(a b:Int):kY 8 (.agg ⟨[.int .i64 a,.int .i64 b]⟩) (.agg ⟨[.int .i64 a,.int .i64 b]⟩)=true:=zj [a,b]
theorem XV(a b c d:Int):kY 8 (.agg ⟨[.int .i64 a,.int .i64 b,.int .i64 c,.int .i64 d]⟩) (.agg ⟨[.int .i64 a,.int .i64 b,.int .i64 c,.int .i64 d]⟩)=true:=zj [a,b,c,d]
end Go.Vai
namespace Go.Vai
open Go
variable {β:Type}{fl:β}
theorem zk(n:Nat)(d:Nat)(V:Nat->β):CW fl (some (.int .i64 (n:Int))) d V=V n:=id rfl
theorem vY(d:Nat)(V:Nat->β):CW fl none d V=V d:=id rfl
theorem Jf{h:Heap}{e s b n i:Nat}{vs:List Value}(hs:0<s)(hb:h.bl.get b=some (aa vs e true))(hvs:vs.length=n*s)(hi:i<n)(V:Z7 β):sliceB fl e s (.slice (some ⟨b,0,none⟩) n aS) (some (.int .i64 (i:Int))) none none h V=V (.slice (some ⟨b,i*s,none⟩) (n-i) aS) h:=by
 obtain⟨s,rfl⟩:∃k,s=k+1:=⟨s-1,by omega⟩
 have hk:gM h e b=some (n*(s+1)):=by unfold gM;rw[hb];simp only[aa,gY,hvs]
 have hd:Nat.div (Nat.sub (n*(s+1)) 0) (s+1)=n:=by show(n*(s+1)-0) / (s+1)=n;rw[Nat.sub_zero,Nat.mul_div_cancel _ (by omega)]
 have e1:Nat.beq aS gG=false:=by decide
 have e2:Nat.beq aS aS=true:=Nat.beq_refl _;have e3:Nat.ble 0 (n*(s+1))=true:=Nat.ble_eq_true_of_le (Nat.zero_le _);have e4:Nat.ble i n=true:=Nat.ble_eq_true_of_le (by omega);have e5:Nat.ble n n=true:=Nat.ble_eq_true_of_le (Nat.le_refl _);have e6:Nat.beq i n=false:=by
  cases hq:Nat.beq i n with
  |false=>rfl
  |true=>have:=cz hq;omega
 unfold sliceB iQ;simp only[e1,e2,hk,e3,hd,zk,vY,e4,e5,e6,b6]
 show V (.slice (some ⟨b,0+i*(s+1),none⟩) (n-i) aS) h=_
 rw[Nat.zero_add]
theorem zl{h:Heap}{e s b n m i:Nat}{vs:List Value}(hs:0<s)(hb:h.bl.get b=some (aa vs e true))(hvs:vs.length=n*s)(hn:0<n)(hi:i<=n)(V:Z7 β):sliceB fl e s (.slice (some ⟨b,0,none⟩) m aS) none (some (.int .i64 (i:Int))) none h V=V (.slice (some ⟨b,0,none⟩) i aS) h:=by
 obtain⟨s,rfl⟩:∃k,s=k+1:=⟨s-1,by omega⟩
 have hk:gM h e b=some (n*(s+1)):=by unfold gM;rw[hb];simp only[aa,gY,hvs]
 have hd:Nat.div (Nat.sub (n*(s+1)) 0) (s+1)=n:=by show(n*(s+1)-0) / (s+1)=n;rw[Nat.sub_zero,Nat.mul_div_cancel _ (by omega)]
 have e1:Nat.beq aS gG=false:=by decide
 have e2:Nat.beq aS aS=true:=Nat.beq_refl _;have e3:Nat.ble 0 (n*(s+1))=true:=Nat.ble_eq_true_of_le (Nat.zero_le _);have e4:Nat.ble 0 i=true:=Nat.ble_eq_true_of_le (Nat.zero_le _);have e5:Nat.ble i n=true:=Nat.ble_eq_true_of_le hi;have e6:Nat.beq 0 n=false:=by
  cases hq:Nat.beq 0 n with
  |false=>rfl
  |true=>have:=cz hq;omega
 unfold sliceB iQ;simp only[e1,e2,hk,e3,hd,zk,vY,e4,e5,e6,b6]
 show V (.slice (some ⟨b,0+0*(s+1),none⟩) (i-0) aS) h=_
 rw[Nat.zero_mul,Nat.sub_zero]
theorem xk{h:Heap}{b o n c e:Nat}{op:Bool}{vs zero:List Value}(hb:h.bl.get b=some (aa vs e op))(hn:0<n)(hl:o+(a_ zero n).length<=vs.length)(h1:(a_ zero n).all dJ=true)(hlo:h.lo<=b)(V:Z7 β):kP fl zero (.slice (some ⟨b,o,none⟩) n c) h V=V (.tuple #[]) ⟨h.nx,h.bl.aV b (aa (over vs o (a_ zero n)) e op),h.lo⟩:=by
 obtain⟨n,rfl⟩:∃k,n=k+1:=⟨n-1,by omega⟩
 unfold kP;simp only[hb,aa];rw[vW _ _ _ _ _ hl h1,bB _ _ _ _ hlo,Dm _ _ _ hl,nF hl]
end Go.Vai
namespace Go.Vai
open Go Go.RowKit Go.WideShapes Go.ChangeShapes
section
variable {P:Program}{α:Type}{dm:α->List Value}{s:Nat}{H:Type}{enc:TypeId × Value->H}
theorem open_sliceArg{W:World}{t e:TypeId}{v:Value}{d:DataW H}{p:List MemPlace}{base:Nat}(he:∀a:α,(dm a).length=s)(hs:0<s)(ht:P.underlying t=some (.slice e))(hc:P.cellsOf e=s)(Je:∀(n:Nat)(cs:List Value)(d:DataW H × List MemPlace),cs.length=s->DataW.trod enc P W 0 (λ_=>true) true n e cs=some d->∃a:α,cs=dm a)(hw:Value.okWide P W .any base t v)(h:DataW.Trod enc P W 0 (λ_=>true) true t v d p):∃L:List α,lq dm W v L:=by
 obtain⟨fuel,hf⟩:=h;have hcs:v.cells.toList=[v]:=by
  unfold Value.okWide at hw;rw[ht]at hw;simp only at hw;unfold Cell.okWide Cell.ok at hw;rw[ht]at hw;cases v<;>first|rfl|(simp at hw)
 rw[hcs]at hf;exact P_ he hs ht hc Je hf
end
end Go.Vai

namespace Go.Vai
open Go
theorem XW:(!true)=false:=id rfl
theorem XX:(!false)=true:=id rfl
theorem af1:decide True=true:=by simp
theorem af2:decide False=false:=by simp
theorem Ld0(l:List Value):l.drop 0=l:=id rfl
theorem Lts(a:Value)(l:List Value)(n:Nat):(a::l).take (n+1)=a::l.take n:=id rfl
theorem Lt0(l:List Value):l.take 0=[]:=id rfl
theorem Lds(a:Value)(l:List Value)(n:Nat):(a::l).drop (n+1)=l.drop n:=id rfl
theorem Lg0(a:Value)(l:List Value):(a::l)[0]? = some a:=id rfl
theorem Lgs(a:Value)(l:List Value)(n:Nat):(a::l)[n+1]? = l[n]?:=id rfl
theorem XY(b:Bool):(b && true)=b:=by cases b<;>rfl
theorem XZ(b:Bool):(true && b)=b:=by cases b<;>rfl
theorem X1(b:Bool):(b && b)=b:=by cases b<;>rfl
theorem Lac(p:Value->Bool)(a:Value)(l:List Value):(a::l).all p=(p a && l.all p):=id rfl
theorem Lan(p:Value->Bool):([]:List Value).all p=true:=id rfl
theorem Llc(a:Value)(l:List Value):(a::l).length=l.length+1:=id rfl
theorem Lln:([]:List Value).length=0:=id rfl
theorem Nza(n:Nat):0+n=n:=by omega
theorem Naz(n:Nat):n+0=n:=by omega
theorem Wz2:type_of% (And.intro (And.intro (And.intro (And.intro (And.intro (And.intro @E1 @E2) (And.intro @Ci (And.intro @di @rG))) (And.intro (And.intro @PS (And.intro @vV @PT)) (And.intro @oL (And.intro @jj @Ch)))) (And.intro (And.intro (And.intro @E3 (And.intro @zd @ze)) (And.intro @zf (And.intro @w_ @xg))) (And.intro (And.intro @xb (And.intro @uq @zg)) (And.intro @xe (And.intro @KD @KE))))) (And.intro (And.intro (And.intro (And.intro @KF (And.intro @KG @KI)) (And.intro @KJ (And.intro @KK @KL))) (And.intro (And.intro @KM (And.intro @KN @PU)) (And.intro @PV (And.intro @E4 @Cj)))) (And.intro (And.intro (And.intro @zh (And.intro @iu @ur)) (And.intro @KO (And.intro @pO @Ck))) (And.intro (And.intro @Cl (And.intro @Cm @E5)) (And.intro @fV (And.intro @dL @afZ)))))) (And.intro (And.intro (And.intro (And.intro (And.intro @PW @XB) (And.intro @T.ah (And.intro @T.aj @T.zc))) (And.intro (And.intro @XW (And.intro @XX @af1)) (And.intro @af2 (And.intro @Ld0 @Lts)))) (And.intro (And.intro (And.intro @Lt0 (And.intro @Lds @Lg0)) (And.intro @Lgs (And.intro @Nza @Naz))) (And.intro (And.intro @PY (And.intro @PZ @rI)) (And.intro @rJ (And.intro @pR @rK))))) (And.intro (And.intro (And.intro (And.intro @nG (And.intro @qO @P4)) (And.intro @qP (And.intro @oM @Cp))) (And.intro (And.intro @Co (And.intro @Cq @Qb)) (And.intro @Qc (And.intro @Qd @Fa)))) (And.intro (And.intro (And.intro @Fb (And.intro @Fc @Cr)) (And.intro @pS (And.intro @oN @K0))) (And.intro (And.intro @iR (And.intro @uu @XU)) (And.intro @XV (And.intro @XY @XZ))))))):=(And.intro (And.intro (And.intro (And.intro (And.intro (And.intro @E1 @E2) (And.intro @Ci (And.intro @di @rG))) (And.intro (And.intro @PS (And.intro @vV @PT)) (And.intro @oL (And.intro @jj @Ch)))) (And.intro (And.intro (And.intro @E3 (And.intro @zd @ze)) (And.intro @zf (And.intro @w_ @xg))) (And.intro (And.intro @xb (And.intro @uq @zg)) (And.intro @xe (And.intro @KD @KE))))) (And.intro (And.intro (And.intro (And.intro @KF (And.intro @KG @KI)) (And.intro @KJ (And.intro @KK @KL))) (And.intro (And.intro @KM (And.intro @KN @PU)) (And.intro @PV (And.intro @E4 @Cj)))) (And.intro (And.intro (And.intro @zh (And.intro @iu @ur)) (And.intro @KO (And.intro @pO @Ck))) (And.intro (And.intro @Cl (And.intro @Cm @E5)) (And.intro @fV (And.intro @dL @afZ)))))) (And.intro (And.intro (And.intro (And.intro (And.intro @PW @XB) (And.intro @T.ah (And.intro @T.aj @T.zc))) (And.intro (And.intro @XW (And.intro @XX @af1)) (And.intro @af2 (And.intro @Ld0 @Lts)))) (And.intro (And.intro (And.intro @Lt0 (And.intro @Lds @Lg0)) (And.intro @Lgs (And.intro @Nza @Naz))) (And.intro (And.intro @PY (And.intro @PZ @rI)) (And.intro @rJ (And.intro @pR @rK))))) (And.intro (And.intro (And.intro (And.intro @nG (And.intro @qO @P4)) (And.intro @qP (And.intro @oM @Cp))) (And.intro (And.intro @Co (And.intro @Cq @Qb)) (And.intro @Qc (And.intro @Qd @Fa)))) (And.intro (And.intro (And.intro @Fb (And.intro @Fc @Cr)) (And.intro @pS (And.intro @oN @K0))) (And.intro (And.intro @iR (And.intro @uu @XU)) (And.intro @XV (And.intro @XY @XZ)))))))
theorem Wx:type_of% (And.intro (And.intro (And.intro @Lac @Lan) (And.intro @KP (And.intro @E8 @KS))) (And.intro (And.intro @KU (And.intro @KV @KW)) (And.intro @KX (And.intro @KY @X1)))):=(And.intro (And.intro (And.intro @Lac @Lan) (And.intro @KP (And.intro @E8 @KS))) (And.intro (And.intro @KU (And.intro @KV @KW)) (And.intro @KX (And.intro @KY @X1))))
theorem Wy:type_of% (And.intro (And.intro @rI (And.intro @rJ @pR)) (And.intro (And.intro @rK @nG) (And.intro @Llc @Lln))):=(And.intro (And.intro @rI (And.intro @rJ @pR)) (And.intro (And.intro @rK @nG) (And.intro @Llc @Lln)))
theorem Wv:type_of% (And.intro @Llc @Lln):=(And.intro @Llc @Lln)
theorem Wz0(b:Nat):ptrTo b=.pointer (some ⟨b,0,none⟩):=id rfl
theorem Wz1(n c b:Nat):sliceTo n c b=.slice (some ⟨b,0,none⟩) n c:=id rfl
theorem Z6(v : Value)(h : Heap):ZJ v h = some v := id rfl
theorem Wz:type_of% (And.intro (And.intro @Wz0 @Wz1) (And.intro @Z6 Wz2)):=And.intro (And.intro @Wz0 @Wz1) (And.intro @Z6 Wz2)
theorem Wd:type_of% (And.intro Wx Wy):=And.intro Wx Wy
theorem Y{P : Prop}(h : P := by first|omega|simp only[Wd]<;>omega|rfl):P := h
theorem ZK{P : Prop}(h : P := by first|omega|simp only[Wd]<;>omega|with_unfolding_all rfl):P := h
end Go.Vai

namespace Go.Vai
open Go Go.RowKit
section
variable {α:Type}{s:Nat}{enc:α->List Value}
def Cut(e s:Nat)(h:Heap)(v:Value)(k:Nat):Prop:=
 (k=0/\v=.slice none 0 0)\/(k=0/\∃b o,v=.slice (some ⟨b,o,none⟩) 0 gG)\/
 (∃b o cap,v=.slice (some ⟨b,o,none⟩) k cap/\k<=cap/\cap<=9223372036854775807)\/
 ∃b vs n,v=.slice (some ⟨b,0,none⟩) k aS/\b<h.nx/\h.bl.get b=some (aa vs e true)/\vs.length=n*s/\k<=n
theorem Cut.le{e s:Nat}{h h':Heap}{v:Value}{k:Nat}(c:Cut e s h v k)(l:Le h h'):Cut e s h' v k:=by
 rcases c with c|c|c|⟨b,vs,n,c1,c2,c3,c4,c5⟩
 .exact .inl c
 .exact .inr (.inl c)
 .exact .inr (.inr (.inl c))
 .exact .inr (.inr (.inr ⟨b,vs,n,c1,Nat.lt_of_lt_of_le c2 l.nx,(l.get b c2).trans c3,c4,c5⟩))
theorem Cut.own{a h:Heap}{e:TypeId}{v:Value}{L:List α}(he:∀a:α,(enc a).length=s)(ho:fC enc a e h v L):Cut e s h v L.length:=by
 rcases ho with⟨rfl,rfl|⟨b,o,rfl⟩⟩|⟨b,rfl,h1,h2,h3,h4⟩
 .exact .inl ⟨rfl,rfl⟩
 .exact .inr (.inr (.inl ⟨b,o,0,rfl,Nat.le_refl _,by omega⟩))
 .exact .inr (.inr (.inr ⟨b,_,L.length,rfl,h2,h4,bu he L,Nat.le_refl _⟩))
theorem pT(he:∀a:α,(enc a).length=s)(L:List α):∀i,(L.flatMap enc).take (i*s)=(L.take i).flatMap enc:=by
 induction L with
 |nil=>intro i;simp
 |cons a L ih=>
  intro i;cases i with
  |zero=>simp
  |succ i=>
   simp only[List.flatMap_cons,List.take_succ_cons];rw[List.take_append,<-ih i,he,List.take_of_length_le (by rw[he,Nat.succ_mul];omega),show(i+1)*s-s=i*s by rw[Nat.succ_mul];omega]
end
end Go.Vai

namespace Go.Vai
open Go Go.RowKit
open Classical
variable {P:Program}
def K_(w:World)(B:Nat):Prop:=∃C e fz,w.heap[B]? = some (.cells C e fz)
def qe(w:World)(v:Value):Prop:=
 kj v=true\/v=.slice none 0 0\/(∃a c,v=.slice (some a) 0 c)\/∃B o n c,v=.slice (some ⟨B,o,none⟩) n c/\n<=c/\c<=maxLen/\K_ w B
def nV:Value->Value
 | .slice (some a) 0 c=>.slice (some ⟨0,0,none⟩) 0 gG
 |v=>v
def goodA(w:World):Value->Prop
 | .agg cs=>∀v∈cs.toList,qe w v
 |v=>qe w v
def absA:Value->Value
 | .agg cs=>.agg ⟨cs.toList.map nV⟩
 |v=>nV v
theorem Ct{v:Value}(h:kj v=true):nV v=v:=by cases v<;>first|rfl|cases h
def BG(w:World):ee:=λb=>if K_ w b then some ⟨b,0,0⟩else none
def BH(w:World)(v:Value)(t:T Value)(o:Nat):T Value:=if qe w v then t.aV o (nV v)else t
theorem La(w:World)(v:Value)(t:T Value){o i:Nat}(h:o≠i):(BH w v t o).get i=t.get i:=by
 unfold BH;by_cases hg:qe w v
 .rw[if_pos hg];exact T.aj _ _ h
 .rw[if_neg hg]
theorem Cu{w:World}{v:Value}(hg:qe w v)(t:T Value)(o:Nat):(BH w v t o).get o=some (nV v):=by
 unfold BH;rw[if_pos hg];exact T.ah _ _ _
theorem Qe{w:World}{v:Value}(hg:¬qe w v)(t:T Value)(o:Nat):(BH w v t o)=t:=by
 unfold BH;rw[if_neg hg]
def oO(w:World):List Value->T Value->Nat->T Value
 | [],t,_=>t
 |v::vs,t,o=>oO w vs (BH w v t o) (o+1)
theorem Cv(w:World)(vs:List Value):∀(t:T Value)(o i:Nat),i<o->(oO w vs t o).get i=t.get i:=by
 induction vs with
 |nil=>intro t o i _;rfl
 |cons v vs ih=>
  intro t o i h
  show(oO w vs (BH w v t o) (o+1)).get i=_
  rw[ih _ _ _ (by omega),La _ _ _ (by omega)]
theorem Jg(w:World)(vs:List Value):∀(t:T Value)(o i:Nat)(v:Value),vs[i]? = some v->qe w v->(oO w vs t o).get (o+i)=some (nV v):=by
 induction vs with
 |nil=>intro t o i v h;simp at h
 |cons u vs ih=>
  intro t o i v h hg
  show(oO w vs (BH w u t o) (o+1)).get _=_
  cases i with
  |zero=>
   simp only[List.getElem?_cons_zero,Option.some.injEq]at h;subst h;rw[Cv _ _ _ _ _ (by omega)];exact Cu hg _ _
  |succ i=>
   rw[show o+(i+1)=(o+1)+i by omega];exact ih _ _ _ _ (by simpa using h) hg
theorem Jh(w:World)(vs:List Value):∀(t:T Value)(o i:Nat)(u:Value),(∀j,o<=j->t.get j=none)->(oO w vs t o).get (o+i)=some u->∃v,vs[i]? = some v/\qe w v/\u=nV v:=by
 induction vs with
 |nil=>intro t o i u ht h;rw[show(oO w [] t o)=t from rfl,ht _ (by omega)]at h;cases h
 |cons x vs ih=>
  intro t o i u ht h;have h:(oO w vs (BH w x t o) (o+1)).get (o+i)=some u:=h;cases i with
  |zero=>
   rw[Cv _ _ _ _ _ (by omega)]at h;by_cases hg:qe w x
   .rw[Nat.add_zero,Cu hg]at h;cases h;exact⟨x,rfl,hg,rfl⟩
   .rw[Qe hg,ht _ (by omega)]at h;cases h
  |succ i=>
   rw[show o+(i+1)=(o+1)+i by omega]at h;obtain⟨v,h1,h2,h3⟩:=ih _ _ _ _ (λj hj=>by rw[La _ _ _ (by omega)];exact ht j (by omega)) h;exact⟨v,by simpa using h1,h2,h3⟩
def BJ(w:World):Nat->T bD
 |0=>.nil
 |n+1=>match w.heap[n]? with
  |some (.cells C e _)=>(BJ w n).aV n (.ro C.size (oO w C.toList .nil 0) e)
  |_=>BJ w n
theorem Fe(w:World):∀n b,(BJ w n).get b=if b<n then(match w.heap[b]? with|some (.cells C e _)=>some (.ro C.size (oO w C.toList .nil 0) e)|_=>none)else none:=by
 intro n
 induction n with
 |zero=>intro b;rw[if_neg (by omega)];exact T.get_nil _
 |succ n ih=>
  intro b;unfold BJ;by_cases h0:n=b
  .subst h0;rw[if_pos (by omega)];split
   .rw[T.ah]
   .rw[ih,if_neg (by omega)]
  ·have:(match w.heap[n]? with|some (.cells C e _)=>(BJ w n).aV n (.ro C.size (oO w C.toList .nil 0) e)|_=>BJ w n).get b=(BJ w n).get b:=by
    split
    .exact T.aj _ _ h0
    .rfl
   rw[this,ih];by_cases h1:b<n
   .rw[if_pos h1,if_pos (by omega)]
   .rw[if_neg h1,if_neg (by omega)]
def memH(w:World):Heap:=⟨w.heap.size,BJ w w.heap.size,w.heap.size⟩
theorem Ff{w:World}{B:Nat}{C:Array Value}{e:TypeId}{fz:Nat × Nat}(h:w.heap[B]? = some (.cells C e fz)):(memH w).bl.get B=some (.ro C.size (oO w C.toList .nil 0) e):=by
 have hB:B<w.heap.size:=(Array.getElem?_eq_some_iff.1 h).1
 show(BJ w _).get B=_
 rw[Fe,if_pos hB,h]
theorem rL{w:World}{b:Nat}{o:bD}(h:(memH w).bl.get b=some o):∃C e fz,w.heap[b]? = some (.cells C e fz)/\o=.ro C.size (oO w C.toList .nil 0) e:=by
 have h:(BJ w _).get b=some o:=h;rw[Fe]at h;split at h
 .split at h
  .cases h;exact⟨_,_,_,by assumption,rfl⟩
  .cases h
 .cases h
theorem Dr{w:World}{v:Value}(h:qe w v):VR (BG w) (nV v) v:=by
 rcases h with h|rfl|⟨a,c,rfl⟩|⟨B,o,n,c,rfl,hn,hc,hB⟩
 .rw[Ct h];exact VR.ot h
 .exact VR.fQ (Nat.le_refl _)
 .exact VR.cU _ _ _
 .cases n with
  |zero=>exact VR.cU _ _ _
  |succ n=>
   have hp:BG w B=some ⟨B,0,0⟩:=if_pos hB;exact VR.slice hp hn (by unfold maxLen at hc;unfold aS;omega)
theorem U4{w:World}{v:Value}(h:goodA w v):VR (BG w) (absA v) v:=by
 cases v with
 |agg cs=>
  refine VR.vF ?_
  show F2 (VR (BG w)) (cs.toList.map nV) cs.toList
  have:F2 (VR (BG w)) (cs.toList.map nV) (cs.toList.map id):=F2.map cs.toList λx hx=>Dr (h x hx)
  rwa [List.map_id]at this
 |_=>exact Dr h
theorem af3(w:World):HR P (BG w) (memH w) w:=by
 have dom:∀b pl,BG w b=some pl->pl=⟨b,0,0⟩/\K_ w b:=by
  intro b pl h;unfold BG at h;split at h
  .cases h;exact⟨rfl,by assumption⟩
  .cases h
 have lt:∀b,K_ w b->b<w.heap.size:=λb ⟨C,e,fz,h⟩=>(Array.getElem?_eq_some_iff.1 h).1;refine⟨?_,?_,?_,Nat.lt_succ_self _,?_,Nat.le_refl _⟩
 .intro b o pl h1 h2;obtain⟨rfl,_⟩:=dom b pl h2;obtain⟨C,e,fz,h3,rfl⟩:=rL h1;rw[h3];refine⟨rfl,Nat.le_refl _,λi v hv hi=>?_⟩;obtain⟨u,h4,h5,rfl⟩:=Jh w C.toList .nil 0 i v (λj _=>T.get_nil _) (by rw[Nat.zero_add];exact hv);rw[Array.getElem?_toList]at h4;exact⟨u,h4,Dr h5⟩
 .intro b pl h;obtain⟨rfl,h2⟩:=dom b pl h;exact⟨lt b h2,lt b h2⟩
 .intro b o _ h;obtain⟨C,e,fz,h3,_⟩:=rL h;exact lt b ⟨C,e,fz,h3⟩
 .intro b b' o o' pl mX _ _ _ _ h1 h2 h3;obtain⟨rfl,_⟩:=dom b pl h1;obtain⟨rfl,_⟩:=dom b' mX h2;exact h3
theorem law_mem{f:FuncId}{args:List Value}{w:World}(hg:∀v∈args,goodA w v)(hc:(memH w).lo<=(memH w).nx->CallW P f (args.map absA) (memH w) Dp):Calls P f args.toArray w λe w'=>e=.returned (.bool true)/\Below w.heap.size w w':=by
 have ha:F2 (VR (BG w)) (args.map absA) (args.map id):=F2.map args λx hx=>U4 (hg x hx);rw[List.map_id]at ha;refine U2 (hc (Nat.le_refl _)) ha (af3 w) ?_;intro b pl h;unfold BG at h;split at h
 .rename_i hm;obtain⟨C,e,fz,h3⟩:=hm;exact⟨(Array.getElem?_eq_some_iff.1 h3).1,_,Ff h3,trivial⟩
 .cases h
section
variable {α:Type}{dm:α->List Value}{s:Nat}
theorem lq.good{w:World}{v:Value}{L:List α}(hv:lq dm w v L):qe w v:=by
 rcases hv with⟨rfl,rfl|⟨a,cap,rfl⟩⟩|⟨B,o,cap,C,e,fz,rfl,hl,hm,hC,hle,hcell⟩
 .exact .inr (.inl rfl)
 .exact .inr (.inr (.inl ⟨a,cap,rfl⟩))
 .exact .inr (.inr (.inr ⟨B,o,_,cap,rfl,hl,hm,C,e,fz,hC⟩))
theorem lq.abs{w:World}{v:Value}{L:List α}(hv:lq dm w v L)(hg:∀a∈L,∀u∈dm a,qe w u):Sl (λa=>(dm a).map nV) (memH w) (nV v) L/\∀e,Cut e s (memH w) (nV v) L.length:=by
 rcases hv with⟨rfl,rfl|⟨a,cap,rfl⟩⟩|⟨B,o,cap,C,e,fz,rfl,hl,hm,hC,hle,hcell⟩
 .exact⟨Sl.nil _ _ _,λe=>.inl ⟨rfl,rfl⟩⟩
 .exact⟨Sl.nil _ _ _,λe=>.inr (.inl ⟨rfl,0,0,rfl⟩)⟩
 .cases hL:L with
  |nil=>exact⟨Sl.nil _ _ _,λe=>.inr (.inl ⟨rfl,0,0,rfl⟩)⟩
  |cons x L'=>
   have e1:nV (.slice (some ⟨B,o,none⟩) L.length cap)=.slice (some ⟨B,o,none⟩) L.length cap:=by rw[hL];rfl
   rw[<-hL,e1];refine⟨⟨_,cap,rfl,λ_=>⟨B,o,rfl,(Array.getElem?_eq_some_iff.1 hC).1,?_⟩⟩,λe=>.inr (.inr (.inl ⟨B,o,cap,rfl,hl,by unfold maxLen at hm;omega⟩))⟩;rw[Ff hC];have efl:L.flatMap (λa=>(dm a).map nV)=(L.flatMap dm).map nV:=by rw[List.map_flatMap]
   rw[efl];refine⟨C.size,_,e,.inl rfl,by rw[List.length_map];exact hle,λj u hj=>?_⟩;rw[List.getElem?_map,Option.map_eq_some_iff]at hj;obtain⟨u',h1,rfl⟩:=hj;have h2:=hcell j u' h1;have hm:=List.mem_of_getElem? h1;rw[List.mem_flatMap]at hm;obtain⟨a,ha,hu⟩:=hm;have:=Jg w C.toList .nil 0 (o+j) u' (by rw[Array.getElem?_toList];exact h2) (hg a ha u' hu)
   rwa [Nat.zero_add]at this
theorem Qf{l:List Value}(h:l.all kj=true):l.map nV=l:=by
 induction l with
 |nil=>rfl
 |cons a l ih=>simp only[List.all_cons,Bool.and_eq_true]at h;rw[List.map_cons,Ct h.1,ih h.2]
theorem lq.af4{w:World}{v:Value}{L:List α}(hv:lq dm w v L)(hone:∀a:α,(dm a).all kj=true):Sl dm (memH w) (nV v) L/\∀e,Cut e s (memH w) (nV v) L.length:=by
 have:=hv.abs (s:=s) λa _ u hu=>.inl (List.all_eq_true.1 (hone a) u hu);have e:(λa=>(dm a).map nV)=dm:=by funext a;exact Qf (hone a)
 rwa [e]at this
end
end Go.Vai

namespace Go.Vai
open Go Go.RowKit Go.WideShapes Go.ChangeShapes
variable {P:Program}
inductive CK where
 |i (k:IntKind)
 |b
 |s
 |sl (t:TypeId)
def Ds(P:Program)(fl:TypeId->Option (List CK)):List Field->Nat->Option (List CK)
 | [],_=>some []
 |f::fs,off=>match fl f.type with
  |some l=>match Nat.beq f.offset off,Nat.beq (P.cellsOf f.type) l.length with
   |true,true=>match Ds P fl fs (off+l.length)with
    |some r=>some (l++r)
    |none=>none
   |_,_=>none
  |none=>none
def flatK(P:Program):Nat->TypeId->Option (List CK)
 |0,_=>none
 |n+1,t=>match P.underlying t with
  |some (.int k)=>some [.i k]
  |some .bool=>some [.b]
  |some .string=>some [.s]
  |some (.slice _)=>some [.sl t]
  |some (.struct fs)=>match Ds P (flatK P n) fs.toList 0 with
   |some l=>match Nat.beq (P.cellsOf t) l.length with
    |true=>some l
    |false=>none
   |none=>none
  |_=>none
section
variable {H:Type}{enc:TypeId × Value->H}{w:World}
def Zu(enc:TypeId × Value->H)(P:Program)(w:World)(k:CK)(v:Value):Prop:=match k with
 | .i kk=>∃n,v=.int kk n/\(Lit.int kk n).wf=true
 | .b=>∃b,v=.bool b
 | .s=>∃s,v=.string s
 | .sl t=>∃fuel x,DataW.trod enc P w 0 (λ_=>true) true fuel t [v]=some x
theorem U5{fl:TypeId->Option (List CK)}(ih:∀t ks,fl t=some ks->∀fuel cs x,DataW.trod enc P w 0 (λ_=>true) true fuel t cs=some x->F2 (Zu enc P w) ks cs)(m:Nat)(cs:List Value):∀(fs:List Field)(off:Nat)(r:List CK),Ds P fl fs off=some r->(∀f∈fs,∃x,DataW.trod enc P w 0 (λ_=>true) true m f.type ((cs.drop f.offset).take (P.cellsOf f.type))=some x)->
   off+r.length=cs.length->F2 (Zu enc P w) r (cs.drop off):=by
 intro fs
 induction fs with
 |nil=>
  intro off r h _ hl;cases h;rw[List.drop_of_length_le (by simp at hl;omega)];exact .nil
 |cons f fs ihf=>
  intro off r h hf hl;unfold Ds at h;split at h<;>try contradiction
  rename_i l qn;split at h<;>try contradiction
  rename_i h1 h2;split at h<;>try contradiction
  rename_i r' hr;cases h;have h1:=cz h1;have h2:=cz h2;obtain⟨x,hx⟩:=hf f (.head _);have k1:=ih _ _ qn _ _ _ hx;rw[h1,h2]at k1;rw[List.length_append]at hl;have k2:=ihf (off+l.length) r' hr (λg hg=>hf g (.tail _ hg)) (by omega);have e:cs.drop off=(cs.drop off).take l.length++cs.drop (off+l.length):=by
   rw[<-List.drop_drop,List.take_append_drop]
  rw[e];exact k1.append k2
theorem Qg:∀(n:Nat)(t:TypeId)(ks:List CK),flatK P n t=some ks->∀fuel cs x,DataW.trod enc P w 0 (λ_=>true) true fuel t cs=some x->F2 (Zu enc P w) ks cs:=by
 intro n
 induction n with
 |zero=>intro t ks h;cases h
 |succ n ih=>
  intro t ks h fuel cs x hx;unfold flatK at h;split at h
  .rename_i k hu;cases h;obtain⟨n,rfl,_,hwf⟩:=DataW.trod_int hu hx;exact .cons ⟨n,rfl,hwf⟩ .nil
  .rename_i hu;cases h;obtain⟨n,rfl,_⟩:=DataW.trod_bool hu hx;exact .cons ⟨n,rfl⟩ .nil
  .rename_i hu;cases h;obtain⟨n,rfl,_⟩:=DataW.trod_string hu hx;exact .cons ⟨n,rfl⟩ .nil
  ·rename_i e hu;cases h;have:∃v,cs=[v]:=by
    rcases DataW.trod_slice hu hx with h|h
    .exact⟨_,h.1⟩
    .obtain⟨a,len,cap,_,_,_,_,h,_⟩:=h;exact⟨_,h⟩
   obtain⟨v,rfl⟩:=this;exact .cons ⟨fuel,x,hx⟩ .nil
  .rename_i fs hu;split at h<;>try contradiction
   rename_i l hl;split at h<;>try contradiction
   rename_i hc;cases h;have hc:=cz hc;obtain⟨xs,m,_,_,rM,hlen,hf⟩:=DataW.trod_struct hu hx;have key:=U5 ih m cs fs.toList 0 ks hl (λf hf'=>?_) (by omega)
   .rw[List.drop_zero]at key;exact key
   .obtain⟨i,hi,rfl⟩:=List.getElem_of_mem hf';have h1:=hf i (fs.toList[i]) (by simp at hi ⊢);obtain⟨y,hy⟩:∃y,xs[i]? = some y:=⟨_,List.getElem?_eq_getElem (by simp at hi;omega)⟩
    rw[hy]at h1;exact⟨y,h1⟩
  .cases h
theorem F2.vZ{α γ:Type}{R:α->γ->Prop}{a:α}{l:List α}{m:List γ}(h:F2 R (a::l) m):∃b m',m=b::m'/\R a b/\F2 R l m':=by
 cases h with
 |cons h t=>exact⟨_,_,rfl,h,t⟩
theorem F2.af5{α γ:Type}{R:α->γ->Prop}{m:List γ}(h:F2 R [] m):m=[]:=by cases h;rfl
end
section
variable {α:Type}{dm:α->List Value}{s:Nat}
theorem lq.absA{w:World}{v:Value}{L:List α}(hv:lq dm w v L):Go.Vai.absA v=nV v:=by
 rcases hv with⟨rfl,rfl|⟨a,cap,rfl⟩⟩|⟨B,o,cap,C,e,fz,rfl,_⟩<;>rfl
theorem lq.goodA{w:World}{v:Value}{L:List α}(hv:lq dm w v L):Go.Vai.goodA w v:=by
 have h:=hv.good;rcases hv with⟨rfl,rfl|⟨a,cap,rfl⟩⟩|⟨B,o,cap,C,e,fz,rfl,_⟩<;>exact h
theorem lq.read{w:World}{v:Value}{L:List α}(hv:lq dm w v L)(hone:∀a:α,(dm a).all kj=true):Sl dm (memH w) (Go.Vai.absA v) L:=by
 rw[hv.absA];exact(hv.af4 (s:=1) hone).1
theorem lq.cut{w:World}{v:Value}{L:List α}(hv:lq dm w v L)(hone:∀a:α,(dm a).all kj=true){e:TypeId}{s:Nat}:Cut e s (memH w) (Go.Vai.absA v) L.length:=by
 rw[hv.absA];exact(hv.af4 (s:=s) hone).2 e
end
end Go.Vai

namespace Go.Vai
open Go Go.RowKit
section
variable {α:Type}{s:Nat}{enc:α->List Value}
theorem pU(he:∀a:α,(enc a).length=s)(L:List α):∀i,(L.flatMap enc).drop (i*s)=(L.drop i).flatMap enc:=by
 induction L with
 |nil=>intro i;simp
 |cons a L ih=>
  intro i;cases i with
  |zero=>simp
  |succ i=>
   simp only[List.flatMap_cons,List.drop_succ_cons];rw[List.drop_append,<-ih i,he,List.drop_of_length_le (by rw[he,Nat.succ_mul];omega),show(i+1)*s-s=i*s by rw[Nat.succ_mul];omega];rfl
theorem zm{β:Type}{fl:β}{len lim cap i:Nat}(hi:i<=len)(hl:len<=lim)(V:Nat->Nat->Nat->β):iQ fl len lim cap (some (.int .i64 (i:Int))) none none V=V i len cap:=by
 have e1:Nat.ble i len=true:=Nat.ble_eq_true_of_le hi;have e2:Nat.ble len lim=true:=Nat.ble_eq_true_of_le hl;unfold iQ;simp only[zk,vY,e1,e2]
end
end Go.Vai

namespace Go.Vai
open Go Go.RowKit
def gj:Option Nat->Int|some i=>i|none=>-1
def HQ(a b:Heap):Prop:=a=b
theorem Qh{α:Type}(L:List α)(F:α->Bool):(decide (0<=gj (L.findIdx? F)))=L.any F:=by
 cases hf:L.findIdx? F with
 |none=>
  rw[List.findIdx?_eq_none_iff]at hf;have:L.any F=false:=by rw[List.any_eq_false];intro x hx;simp[hf x hx]
  rw[this];rfl
 |some i=>
  rw[List.findIdx?_eq_some_iff_getElem]at hf;obtain⟨hi,h1,_⟩:=hf;have:L.any F=true:=List.any_eq_true.2 ⟨_,List.getElem_mem hi,h1⟩;rw[this];exact decide_eq_true (by show(0:Int)<=(i:Int);omega)
theorem mH{α:Type}(L:List α)(F:α->Bool):(L.findIdx? F=none/\∀x∈L,F x=false)\/∃(i:Nat)(p:α),L.findIdx? F=some i/\L[i]? = some p/\F p=true/\∀(j:Nat)(q:α),j<i->L[j]? = some q->F q=false:=by
 cases hf:L.findIdx? F with
 |none=>
  rw[List.findIdx?_eq_none_iff]at hf;exact .inl ⟨rfl,hf⟩
 |some i=>
  rw[List.findIdx?_eq_some_iff_getElem]at hf;obtain⟨hi,h1,h2⟩:=hf;refine .inr ⟨i,L[i],rfl,List.getElem?_eq_getElem hi,h1,λj q hj hq=>?_⟩;have:=h2 j hj;rw[(List.getElem?_eq_some_iff.1 hq).2]at this;simpa using this
theorem Qi{α:Type}{L:List α}{F:α->Bool}{i:Nat}{p:α}(hp:L[i]? = some p)(h1:F p=true)(h2:∀(j:Nat)(q:α),j<i->L[j]? = some q->F q=false):L.findIdx? F=some i:=by
 rw[List.findIdx?_eq_some_iff_getElem];obtain⟨dB,hk2⟩:=List.getElem?_eq_some_iff.1 hp;refine⟨dB,by rw[hk2];exact h1,λj hj=>?_⟩;simpa using h2 j _ hj (List.getElem?_eq_getElem (by omega))
theorem Qj{α:Type}{L:List α}{F:α->Bool}(h2:∀(j:Nat)(q:α),L[j]? = some q->F q=false):L.findIdx? F=none:=by
 rw[List.findIdx?_eq_none_iff];intro p hp;obtain⟨j,hj⟩:=List.getElem?_of_mem hp;exact h2 j p hj
theorem gE{α:Type}{F:α->Bool}{L:List α}{j:Nat}{p:α}(hp:L[j]? = some p):(L.take (j+1)).filter F=(L.take j).filter F++if F p then[p]else[]:=by
 obtain⟨hj,rfl⟩:=List.getElem?_eq_some_iff.1 hp;rw[List.take_succ_eq_append_getElem hj,List.filter_append];cases h:F L[j]<;>simp[h]
def ew(P:Program)(ti:TypeId)(s:Nat)(a0 a1:Value)(h:Heap)(V:KQ):Prop:=
 bJ False a0 h λv0 h=>
 dU [undef,undef,undef,undef,undef,undef,undef,undef,undef,undef,(Value.int .i64 (0)),undef,(Value.int .i64 (0))] h λl2 h N1=>
 ay False P .lss ti false false (slot l2 12) v0 h λv3 h=>
 aJ v3 (
 aK False s a0 (slot l2 12) h λv4 h=>
 aF False s v4 h λv5 h=>
 fJ P a1 [v5] h λv6 h=>
 aJ v6 (
 V (slot l2 12) h) (
 ay False P .add ti true false (slot l2 12) (Value.int .i64 (1)) h λv7 h=>
 N1 [v3,(slot l2 12),(slot l2 12),a1,a0,(slot l2 12),v4,v5,v6,(slot l2 9),(slot l2 10),v7,v7] h)) (
 V (Value.int .i64 (-1)) h)
def jE(P:Program)(ti:TypeId)(g:FuncId)(a0 a1:Value)(h:Heap)(V:KQ):Prop:=
 CallW P g [a0,a1] h λv0 h=>
 ay False P .geq ti true false v0 (Value.int .i64 (0)) h λv1 h=>
 V v1 h
def uv(P:Program)(tS e s:Nat)(z:List Value)(a0:Value)(h:Heap)(V:KQ):Prop:=
 ay False P .eql tS true false a0 (Value.slice none 0 0) h λv0 h=>
 aJ v0 (
 V (Value.slice none 0 0) h) (
 bg False [] [] (a_ z 0) λJi=>aH False Ji e false λo1=>ax False o1 h λb2 h=>
 bR False e s z false (sliceTo 0 0 b2) a0 h λv4 h=>
 V v4 h)
def ej(P:Program)(ti:TypeId)(g:FuncId)(e s:Nat)(z:List Value)(a0 a1:Value)(h:Heap)(V:KQ):Prop:=
 CallW P g [a0,a1] h λv0 h=>
 ay False P .eql ti true false v0 (Value.int .i64 (-1)) h λv1 h=>
 aJ v1 (
 V a0 h) (
 ay False P .add ti true false v0 (Value.int .i64 (1)) h λv2 h=>
 dU [undef,undef,undef,undef,undef,undef,undef,undef,undef,undef,undef,undef,undef,undef,undef,undef,undef,undef,undef,v0,undef,undef,v2] h λl4 h N3=>
 bJ False a0 h λv5 h=>
 ay False P .lss ti false false (slot l4 22) v5 h λv6 h=>
 aJ v6 (
 cO (λN7=>
 aK False s a0 (slot l4 22) h λv9 h=>
 aF False s v9 h λv10 h=>
 aH False z e false λo11=>ax False o11 h λya h=>
 aI False s (ptrTo ya) v10 h λbA h=>
 aF False s (ptrTo ya) h λbC h=>
 fJ P a1 [bC] h λbF h=>
 jf False .not bF h λv16 h=>
 aJ v16 (
 aF False s (ptrTo ya) h λv17 h=>
 aK False s a0 (slot l4 19) h λbU h=>
 aI False s bU v17 h λv19 h=>
 ay False P .add ti true false (slot l4 19) (Value.int .i64 (1)) h λv20 h=>
 N7 [a0,(slot l4 22),v9,v10,(ptrTo ya),a1,bC,bF,v16,a0,(slot l4 19),v17,bU,(slot l4 19),v20,v20] h) (
 N7 [a0,(slot l4 22),v9,v10,(ptrTo ya),a1,bC,bF,v16,(slot l4 13),(slot l4 14),(slot l4 15),(slot l4 16),(slot l4 17),(slot l4 18),(slot l4 19)] h)) λl8 h=>
 ay False P .add ti true false (slot l4 22) (Value.int .i64 (1)) h λv21 h=>
 N3 [(slot l4 22),a0,v5,v6,(slot l8 0),(slot l8 1),(slot l8 2),(slot l8 3),(slot l8 4),(slot l8 5),(slot l8 6),(slot l8 7),(slot l8 8),(slot l8 9),(slot l8 10),(slot l8 11),(slot l8 12),(slot l8 13),(slot l8 14),(slot l8 15),(slot l4 22),v21,v21] h) (
 sliceB False e s a0 (some (slot l4 19)) none none h λv22 h=>
 kP False z v22 h λv23 h=>
 sliceB False e s a0 none (some (slot l4 19)) none h λv24 h=>
 V v24 h))
section
variable {P:Program}{α:Type}{enc:α->List Value}{s:Nat}{ti:TypeId}{f g:FuncId}
def Dt(enc:α->List Value)(p:α):Value:=.agg ⟨enc p⟩
theorem mI(mix:P.follows .mixedOrders=true)(he:∀a:α,(enc a).length=s)(hb:∀a0 a1 h V,aM P f [a0,a1] h V=ew P ti s a0 a1 h V)(L:List α)(F:α->Bool)(h:Heap)(v fv:Value)(V:KQ)(hv:Sl enc h v L)(hlen:L.length<=1000000)(hF:∀p,p∈L->∀(h1:Heap)(κ1:Value->Heap->Prop),Le h h1->(∀h2,Le h1 h2->κ1 (.bool (F p)) h2)->fJ P fv [Dt enc p] h1 κ1)(hk:∀h',Le h h'->V (.int .i64 (gj (L.findIdx? F))) h'):CallW P f [v,fv] h V:=by
 refine av mix ?_;rw[hb];unfold ew;simp only[hv.len];refine⟨λn l h1=>Le h h1/\∃k:Nat,slot l 12=.int .i64 (k:Int)/\k<=L.length/\n=L.length-k/\∀(j:Nat) p,j<k->L[j]? = some p->F p=false,⟨_,Le.refl _,0,rfl,Nat.zero_le _,rfl,by omega⟩,?_⟩;rintro n l h1 ⟨hle,k,hs,hkl,rfl,hno⟩;by_cases hlt:k<L.length
 .obtain⟨p,hp⟩:∃p,L[k]? = some p:=⟨_,List.getElem?_eq_getElem hlt⟩
  obtain⟨b,o,hb,qm,oP,_⟩:=(hv.le hle).ld he k hp;simp(disch:=try exact Y)only[Wz,hs,qm,oP];refine hF p (List.mem_of_getElem? hp) h1 _ hle ?_;intro h2 hle2;cases hc:F p with
  |true=>
   simp(disch:=try exact Y)only[Wz,hs];have hk2:=hk h2 (hle.trans hle2);rw[Qi hp hc hno]at hk2;exact hk2
  |false=>
   simp(disch:=try exact Y)only[Wz,hs];refine⟨_,by omega,hle.trans hle2,k+1,rfl,by omega,rfl,λj q hj hq=>?_⟩;rcases Nat.lt_or_ge j k with h4|h4
   .exact hno j q h4 hq
   .obtain rfl:j=k:=by omega
    rw[hp]at hq;cases hq;exact hc
 .simp(disch:=try exact Y)only[Wz,hs];have hk2:=hk h1 hle;rw[Qj λj q hq=>hno j q (by have:=(List.getElem?_eq_some_iff.1 hq).1;omega) hq]at hk2;exact hk2
theorem sE(mix:P.follows .mixedOrders=true)(he:∀a:α,(enc a).length=s)(hg:∀a0 a1 h V,aM P g [a0,a1] h V=ew P ti s a0 a1 h V)(hb:∀a0 a1 h V,aM P f [a0,a1] h V=jE P ti g a0 a1 h V)(L:List α)(F:α->Bool)(h:Heap)(v fv:Value)(V:KQ)(hv:Sl enc h v L)(hlen:L.length<=1000000)(hF:∀p,p∈L->∀(h1:Heap)(κ1:Value->Heap->Prop),Le h h1->(∀h2,Le h1 h2->κ1 (.bool (F p)) h2)->fJ P fv [Dt enc p] h1 κ1)(hk:∀h',Le h h'->V (.bool (L.any F)) h'):CallW P f [v,fv] h V:=by
 refine av mix ?_;rw[hb];unfold jE;refine mI mix he hg L F h v fv _ hv hlen hF ?_;intro h' hl;have:=hk h' hl;rw[<-Qh]at this;by_cases h0:gj (L.findIdx? F)<0
 .simp(disch:=try exact Y)only[Wz]
  rwa [aZ (by omega)]at this
 .simp(disch:=try exact Y)only[Wz]
  rwa [br (by omega)]at this
def Cw(P:Program)(tS:TypeId):Prop:=(∀(h:Heap)(n c n' c':Nat),lT P h 100 tS (.slice none n c) (.slice none n' c')=some true)/\∀(h:Heap)(a:Addr)(n c n' c':Nat),lT P h 100 tS (.slice (some a) n c) (.slice none n' c')=some false
theorem Qk{β:Type}{fl:β}{tS:TypeId}(he:Cw P tS)(cn:Bool)(n c n' c':Nat)(h:Heap)(V:Z7 β):ay fl P .eql tS cn false (.slice none n c) (.slice none n' c') h V=V (.bool true) h:=by
 simp only[ay,he.1,bK]
theorem Ql{β:Type}{fl:β}{tS:TypeId}(he:Cw P tS)(cn:Bool)(a:Addr)(n c n' c':Nat)(h:Heap)(V:Z7 β):ay fl P .eql tS cn false (.slice (some a) n c) (.slice none n' c') h V=V (.bool false) h:=by
 simp only[ay,he.2,bK]
theorem Jj(mix:P.follows .mixedOrders=true)(he:∀a:α,(enc a).length=s)(hone:∀a:α,(enc a).all dJ=true)(hs0:0<s)(hs1:s<=100){tS e:TypeId}{z:List Value}(hq:Cw P tS)(hb:∀a0 h V,aM P f [a0] h V=uv P tS e s z a0 h V)(L:List α)(h:Heap)(v:Value)(V:KQ)(hv:Sl enc h v L)(hlen:L.length<=1000000)(hlo:h.lo<=h.nx)(hk:∀v' h',fC enc h e h' v' L->Le h h'->V v' h'):CallW P f [v] h V:=by
 refine av mix ?_;rw[hb];unfold uv;have hv0:=hv;obtain⟨x,cap,rfl,hx⟩:=hv;cases x with
 |none=>
  simp(disch:=try exact Y)only[Wz,Qk hq];by_cases hL:L=[]
  .exact hk _ _ (.inl ⟨hL,.inl rfl⟩) (Le.refl _)
  .obtain⟨b,o,e,_⟩:=hx hL;cases e
 |some a=>
  simp(disch:=try exact Y)only[Wz,Ql hq];have hle:=(Le.refl h).new (aa [] e false);refine jR (enc:=enc) (a:=h) (L:=[]) (M:=L) he hone hs0 hs1 (.inl ⟨rfl,.inr ⟨_,_,rfl⟩⟩) (hv0.le hle) hle (by simpa using hlen) (by show h.lo<=h.nx+1;omega) _ ?_;intro v' h' ho hl _ _;exact hk v' h' (by simpa using ho) hl
theorem td(he:∀a:α,(enc a).length=s)(L:List α)(i:Nat)(p:α)(hi:i<L.length):over (L.flatMap enc) (i*s) (enc p)=(L.set i p).flatMap enc:=by
 have e:L.set i p=L.take i++[p]++L.drop (i+1):=by
  rw[List.set_eq_take_append_cons_drop,if_pos hi];simp
 rw[e];simp only[over,he,List.flatMap_append,List.flatMap_cons,List.flatMap_nil,List.append_nil];rw[pT he,show i*s+s=(i+1)*s by rw[Nat.succ_mul],pU he]
theorem Lb{z:List Value}(hz:z.length=s)(n:Nat):(a_ z n).length=n*s:=by
 induction n with
 |zero=>simp[a_]
 |succ n ih=>simp only[a_,List.length_append,ih,hz];rw[Nat.succ_mul];omega
theorem Lc{z:List Value}(hz:z.all dJ=true)(n:Nat):(a_ z n).all dJ=true:=by
 induction n with
 |zero=>rfl
 |succ n ih=>simp only[a_,List.all_append,ih,hz];rfl
theorem stG(he:∀a:α,(enc a).length=s)(hone:∀a:α,(enc a).all dJ=true)(p:α){vs:List Value}{e:TypeId}{op:Bool}{b o:Nat}{h:Heap}{V:Heap->Prop}(h3:o+s<=vs.length)(hlo:h.lo<=b):UJ False (some (aa vs e op)) s b o (enc p) h V=V ⟨h.nx,h.bl.aV b (aa (over vs o (enc p)) e op),h.lo⟩:=oL _ _ _ _ _ _ _ _ _ (he p) (hone p) h3 hlo
def yb(e:TypeId)(h:Heap)(v:Value):Prop:=∀b o n c,v=.slice (some ⟨b,o,none⟩) n c->n≠0->b<h.nx/\∃vs op,h.bl.get b=some (aa vs e op)
theorem yb.le{e:TypeId}{h h':Heap}{v:Value}(t:yb e h v)(l:Le h h'):yb e h' v:=λb o n c hv hn=>by
 obtain⟨h1,vs,op,h2⟩:=t b o n c hv hn;exact⟨Nat.lt_of_lt_of_le h1 l.nx,vs,op,(l.get b h1).trans h2⟩
theorem yb.own{a h:Heap}{e:TypeId}{v:Value}{L:List α}(ho:fC enc a e h v L):yb e h v:=by
 intro b o n c hv hn;rcases ho with⟨_,rfl|⟨b',o',rfl⟩⟩|⟨b',rfl,h1,h2,h3,h4⟩
 .cases hv
 .cases hv;exact absurd rfl hn
 .cases hv;exact⟨h2,_,_,h4⟩
theorem yb.put{e:TypeId}{h:Heap}{v:Value}(t:yb e h v){d:Nat}(hd:∀vs op,h.bl.get d≠some (aa vs e op))(o':bD):yb e ⟨h.nx,h.bl.aV d o',h.lo⟩ v:=by
 intro b o n c hv hn;obtain⟨h1,vs,op,h2⟩:=t b o n c hv hn;refine⟨h1,vs,op,(T.aj _ _ ?_).trans h2⟩;rintro rfl;exact hd vs op h2
theorem Sl.put{e:TypeId}{h:Heap}{v:Value}{L:List α}(hs:Sl enc h v L)(t:yb e h v){d:Nat}(hd:∀vs op,h.bl.get d≠some (aa vs e op))(o':bD):Sl enc ⟨h.nx,h.bl.aV d o',h.lo⟩ v L:=by
 obtain⟨x,cap,rfl,h2⟩:=hs;refine⟨x,cap,rfl,λhn=>?_⟩;obtain⟨b,o,rfl,h3,h4⟩:=h2 hn;obtain⟨h1,vs,op,h5⟩:=t b o _ cap rfl (by intro h0;exact hn (List.eq_nil_of_length_eq_zero h0));refine⟨b,o,rfl,h3,?_⟩;have:(h.bl.aV d o').get b=h.bl.get b:=T.aj _ _ (by rintro rfl;exact hd vs op h5)
 show Has ((h.bl.aV d o').get b) _ _
 rw[this];exact h4
theorem tf(mix:P.follows .mixedOrders=true)(he:∀a:α,(enc a).length=s)(hone:∀a:α,(enc a).all dJ=true)(hs0:0<s){e:TypeId}{z:List Value}(hz:z.length=s)(hz1:z.all dJ=true)(hs1:s<=1000)(hg:∀a0 a1 h V,aM P g [a0,a1] h V=ew P ti s a0 a1 h V)(hb:∀a0 a1 h V,aM P f [a0,a1] h V=ej P ti g e s z a0 a1 h V)(a h:Heap)(L:List α)(F:α->Bool)(v fv:Value)(V:KQ)(hle:Le a h)(ho:fC enc a e h v L)(hlen:L.length<=100000)(hlo:a.lo<=a.nx)(hF:∀p,∀(h1:Heap)(κ1:Value->Heap->Prop),Le a h1->(h.nx<=h1.nx/\∀c,c<h.nx->h.bl.get c≠some (aa (L.flatMap enc) e true)->h1.bl.get c=h.bl.get c)->(∀h2,Le h1 h2->κ1 (.bool (F p)) h2)->fJ P fv [Dt enc p] h1 κ1)(hk:∀v' h',Sl enc h' v' (L.filter λp=>!F p)->Cut e s h' v' (L.filter λp=>!F p).length->Le a h'->(h.nx<=h'.nx/\∀c,c<h.nx->h.bl.get c≠some (aa (L.flatMap enc) e true)->h'.bl.get c=h.bl.get c)->yb e h' v'->V v' h'):CallW P f [v,fv] h V:=by
 refine av mix ?_;rw[hb];unfold ej;refine mI mix he hg L F h v fv _ ho.sl (by omega) (λp _ h1 κ1 hl dB=>hF p h1 κ1 (hle.trans hl) ⟨hl.nx,λc hc _=>hl.get c hc⟩ dB) ?_;intro h1 hle1;have Ld:=hle.trans hle1;have n1:=Ld.nx;have l1:=Ld.lo;rcases mH L F with⟨e1,e2⟩|⟨i0,p0,e1,e2,e3,e4⟩
 .simp only[e1,gj];simp(disch:=try exact Y)only[Wz];have:(L.filter λp=>!F p)=L:=List.filter_eq_self.2 λp hp=>by simp[e2 p hp]
  rw[this]at hk;exact hk v h1 (ho.sl.le hle1) ((Cut.own he ho).le hle1) Ld ⟨hle1.nx,λc hc _=>hle1.get c hc⟩ (yb.own (ho.le hle1))
 ·simp only[e1,gj];have hi0:i0<L.length:=(List.getElem?_eq_some_iff.1 e2).1;have Du:(L.take i0).filter (λp=>!F p)=L.take i0:=List.filter_eq_self.2 λp hp=>by
   obtain⟨j,hj⟩:=List.getElem?_of_mem hp;have hj':j<i0:=by have:=(List.getElem?_eq_some_iff.1 hj).1;simp at this;omega
   rw[List.getElem?_take_of_lt hj']at hj;simp[e4 j p hj' hj]
  rcases ho with⟨rfl,_⟩|⟨b,rfl,b1,Zv,b30,U6⟩
  .simp at hi0
  have m1:=hle1.nx;have b2:b<h1.nx:=by omega
  have b3:h1.lo<=b:=by rw[hle1.lo];exact b30
  have b4:h1.bl.get b=some (aa (L.flatMap enc) e true):=(hle1.get b Zv).trans U6;simp(disch:=try exact Y)only[Wz]
  refine ⟨λn l h2=>Le a h2/\b<h2.nx/\(h.nx<=h2.nx/\∀c,c<h.nx->c≠b->h2.bl.get c=h.bl.get c)/\∃(j i:Nat)(K:List α),slot l 22=.int .i64 (j:Int)/\slot l 19=.int .i64 (i:Int)/\j<=L.length/\i<j/\n=L.length-j/\K.length=L.length/\
    K.take i=(L.take j).filter (λp=>!F p)/\K.drop j=L.drop j/\h2.bl.get b=some (aa (K.flatMap enc) e true),
   ⟨_,Ld,b2,⟨m1,λc hc _=>hle1.get c hc⟩,i0+1,i0,L,rfl,rfl,by omega,by omega,rfl,rfl,?_,rfl,b4⟩,?_⟩
  .rw[gE e2,Du,e3];simp
  rintro n l h2 ⟨hle2,hb2,hfr,j,i,K,s1,s2,hj,hij,rfl,hK,Qm,X2,hg2⟩;have n2:=hle2.nx;have l2:=hle2.lo;have hfl:=bu (enc:=enc) he K;by_cases hlt:j<L.length
  .obtain⟨p,hp⟩:∃p,L[j]? = some p:=⟨_,List.getElem?_eq_getElem hlt⟩
   have hpK:K[j]? = some p:=by
    have:(K.drop j)[0]? = (L.drop j)[0]?:=by rw[X2]
    simpa[hp]using this
   have Zw:Sl enc h2 (.slice (some ⟨b,0,none⟩) L.length aS) K:=⟨_,aS,by rw[hK],λ_=>⟨b,0,rfl,hb2,by rw[hg2];exact Has.all⟩⟩
   obtain⟨b',o',hb',qm,oP,_⟩:=Zw.ld he j hpK;have bat:=qm Nat 0 h2 λv _=>match v with | .pointer (some a)=>a.block|_=>0
   rw[bh _ _ _ _ _ _ _ _ hlt]at bat;have UK:b=b':=bat;subst UK;have hep:=he p;have hop:=hone p;have htk:(enc p).take s=enc p:=by rw[<-hep,List.take_length]
   have Ur:=qO z (enc p) (by omega);simp(disch:=try exact Y)only[Wz,s1,s2,qm,oP];refine⟨λl h'=>Le a h'/\b<h'.nx/\(h.nx<=h'.nx/\∀c,c<h.nx->c≠b->h'.bl.get c=h.bl.get c)/\∃(i':Nat)(K':List α),slot l 15=.int .i64 (i':Int)/\i'<j+1/\K'.length=L.length/\
    K'.take i'=(L.take (j+1)).filter (λp=>!F p)/\K'.drop (j+1)=L.drop (j+1)/\h'.bl.get b=some (aa (K'.flatMap enc) e true),?_,?_⟩
   ·simp(disch:=try exact Y)only[Wz,s1,s2,qm,oP,stG he hone p,htk,Ur];have Zx:=hle2.new (aa (enc p) e false);refine hF p _ _ Zx ⟨by have:=hfr.1;show h.nx<=h2.nx+1;omega,λc hc hne=>(T.aj _ _ (by have:=hfr.1;omega)).trans (hfr.2 c hc (λe=>hne (by rw[e];exact U6)))⟩ ?_;intro h3 bX;have n3:=bX.nx;have l3:=bX.lo;dsimp only at n3 l3;have g3:h3.bl.get h2.nx=some (aa (enc p) e false):=(bX.get h2.nx (Nat.lt_succ_self _)).trans (T.ah _ _ _);have Zy:h3.bl.get b=some (aa (K.flatMap enc) e true):=by
     rw[bX.get b (by show b<h2.nx+1;omega)]
     show(h2.bl.aV h2.nx _).get b=_
     rw[T.aj _ _ (by omega)];exact hg2
    have nH:=Zx.trans bX;have zn:h.nx<=h3.nx/\∀c,c<h.nx->c≠b->h3.bl.get c=h.bl.get c:=by
     have q0:=hfr.1;refine⟨by omega,λc hc hne=>?_⟩;have e1:(h2.bl.aV h2.nx (aa (enc p) e false)).get c=h2.bl.get c:=T.aj _ _ (by omega);exact(bX.get c (by show c<h2.nx+1;omega)).trans (e1.trans (hfr.2 c hc hne))
    cases hc:F p with
    |true=>
     simp(disch:=try exact Y)only[Wz,s2];exact⟨nH,by omega,zn,i,K,rfl,by omega,hK,by rw[gE hp,hc];simpa using Qm,by rw[<-List.drop_drop,X2,List.drop_drop],Zy⟩
    |false=>
     have Dv:=td he K i p (by omega);have hbd:i*s+s<=(K.flatMap enc).length:=by rw[hfl,<-Nat.succ_mul];exact Nat.mul_le_mul_right _ (by omega)
     simp(disch:=try exact Y)only[Wz,s2,g3,Zy,bh,stG he hone p,htk,Dv];refine⟨nH.set b1 _,by omega,⟨zn.1,λc hc hne=>(T.aj _ _ (λe=>hne e.symm)).trans (zn.2 c hc hne)⟩,i+1,K.set i p,rfl,by omega,by simpa using hK,?_,?_,rfl⟩
     .rw[gE hp,hc,<-Qm];have hiK:i<K.length:=by omega
      rw[List.take_succ_eq_append_getElem (by simpa using hiK)];simp[List.take_set_of_le]
     .rw[List.drop_set_of_lt (by omega),<-List.drop_drop,X2,List.drop_drop]
   .rintro l8 h3 ⟨bX,hb3,zn,i',K',s3,hi',hK',Zz,ZA,hg3⟩;simp(disch:=try exact Y)only[Wz,s1,s3];exact⟨_,by omega,bX,hb3,zn,j+1,i',K',rfl,rfl,by omega,hi',rfl,hK',Zz,ZA,hg3⟩
  .have hjL:j=L.length:=by omega
   subst hjL;rw[List.take_length]at Qm;have r1:=Lb hz (L.length-i);have r2:=Lc hz1 (L.length-i);have hbd:i*s+(L.length-i)*s=L.length*s:=by rw[<-Nat.add_mul];congr 1;omega
   simp(disch:=try exact Y)only[Wz,s1,s2,Jf (n:=L.length) (i:=i) hs0 hg2 (by rw[hfl,hK]) (by omega)];rw[xk hg2 (by omega) (by rw[r1,hfl,hK];omega) r2 (by omega)];have Qn:(over (K.flatMap enc) (i*s) (a_ z (L.length-i))).length=L.length*s:=by
    rw[nF (by rw[r1,hfl,hK];omega),hfl,hK]
   rw[zl (n:=L.length) (i:=i) (vs:=over (K.flatMap enc) (i*s) (a_ z (L.length-i))) hs0 (T.ah _ _ _) Qn (by omega) (by omega)];have Fg:(L.filter λp=>!F p).length=i:=by rw[<-Qm];simp;omega
   refine hk _ _ ⟨_,aS,by rw[Fg],λ_=>⟨b,0,rfl,hb2,?_⟩⟩ (.inr (.inr (.inr ⟨b,_,L.length,by rw[Fg],hb2,T.ah _ _ _,Qn,by omega⟩))) (hle2.set b1 _) ⟨hfr.1,λc hc hne=>(T.aj _ _ (λe=>hne (by rw[<-e];exact U6))).trans (hfr.2 c hc (λe=>hne (by rw[e];exact U6)))⟩ ?_
   rotate_left
   .intro b' o' n' c' wS _;cases wS;exact⟨hb2,_,_,T.ah _ _ _⟩
   have hh:Has (some (aa (over (K.flatMap enc) (i*s) (a_ z (L.length-i))) e true)) 0 (((over (K.flatMap enc) (i*s) (a_ z (L.length-i))).drop 0).take (i*s)):=Has.cells (by rw[Qn];exact Nat.le_trans (by omega) (Nat.le_refl _));have e9:((over (K.flatMap enc) (i*s) (a_ z (L.length-i))).drop 0).take (i*s)=(L.filter λp=>!F p).flatMap enc:=by
    have ar9:i*s<=K.length*s:=Nat.mul_le_mul_right _ (by omega);rw[<-Qm,List.drop_zero,over,List.append_assoc,List.take_append_of_le_length (by rw[List.length_take,hfl];omega),List.take_take,Nat.min_self,pT he]
   rw[e9]at hh
   show Has ((h2.bl.aV b _).get b) 0 _
   rw[T.ah];exact hh
end
end Go.Vai
end
