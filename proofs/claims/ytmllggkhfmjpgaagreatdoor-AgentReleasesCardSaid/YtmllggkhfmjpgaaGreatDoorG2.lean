/-
  PROVED HERE: a part of the proof (VaiS15, VaiS16, VaiS17, VaiS18, VaiK, VaiW, VaiW2, VaiL, VaiM, VaiN, VaiZ, VaiO, VaiQ, VaiT, VaiU, VaiV).
-/
import Derived.Test.YtmllggkhfmjpgaaGreatDoorG1
import Derived.RowKit3
import Derived.ChangeSame
import Derived.Below
import Derived.Deep.Slices
import Derived.Carry
import Derived.ProofKit
set_option linter.unusedVariables false
set_option linter.unusedSimpArgs false
namespace Go.Vai
open Go
variable {β:Type} {fl:β} {good:β→Prop} {pr:ki β} {P:Program} {φ:dG} {h h':Heap} {w:World} {t:TypeId}
theorem Cz:∀(os:List Oper) (n k:Nat) (q:Oper),os[k]? = some q→(n+k,q)∈eO os n:=by
 intro os
 induction os with
 | nil=>intro n k q h; simp at h
 | cons o os ih=>
  intro n k q h
  cases k with
  | zero=>simp at h; subst h; exact List.mem_cons_self
  | succ k=>
   simp at h
   have:=ih (n+1) k q h
   rw[show n+(k+1)=n+1+k by omega]
   exact List.mem_cons_of_mem _ this
theorem cM (D i k:Nat):bit (eP D i) k=(bit D k || decide (i=k)):=by
 show Nat.testBit (D ||| 2 ^ i) k=_
 rw[Nat.testBit_or,Nat.testBit_two_pow]
 rfl
theorem U4 (D M k:Nat):bit (Nat.lor D M) k=(bit D k || bit M k):=Nat.testBit_or ..
theorem CA (k:Nat):bit 0 k=false:=Nat.zero_testBit k
theorem oz {op:Op} {x:Tj} (h:gz P op=.rd x):nI none P op=some x:=by
 unfold gz at h
 split at h<;>try contradiction
 split at h
 ·rename_i e; cases h; exact e
 ·split at h<;>contradiction
theorem wL {op:Op} {x:OXA} (h:gz P op=.al x):p_ none P op=some x:=by
 unfold gz at h
 split at h<;>try contradiction
 split at h<;>try contradiction
 split at h<;>try contradiction
 rename_i e; cases h; exact e
structure Stat (P:Program) (ops:Array Oper) (i:Nat) (o:Oper):Prop where
 k1:∀j q,ops[j]? = some q→fu P q=false→∀t∈cB ops.toList o,q.dst=some t→j∈cg o
 k2:fu P o=false→∀j q,ops[j]? = some q→j≠i→fu P q=false→∀d,o.dst=some d→q.dst≠some d
theorem CB {ops:Array Oper} {j:Nat} {q:Oper} (h:ops[j]? = some q):(j,q)∈eO ops.toList 0:=by
 have:=Cz ops.toList 0 j q (by rw[Array.getElem?_toList]; exact h)
 simpa using this
theorem sZ {o:Oper} {t:Nat}:zS o t=true↔o.dst=some t:=by
 unfold zS
 cases o.dst with
 | none=>simp
 | some d=>simp
theorem qB {ops:Array Oper} {D M i:Nat} {o:Oper} (h:Qn P ops.toList (eO ops.toList 0) D M i o=true) :
  bit D i=false∧(∀e∈cg o,bit D e=true)∧(∃g,guardOf ops.toList o=some g)∧Stat P ops i o∧
  (fu P o=true→(∀k q,ops[k]? = some q→k≠i→bit D k=false→og D q=false)∧
   ∀k q,ops[k]? = some q→bit D k=true→fu P q=false→bit M k=false→∀d,o.dst=some d→q.dst≠some d∧d∉cB ops.toList q):=by
 unfold Qn at h
 simp only[Bool.and_eq_true] at h
 obtain ⟨⟨⟨⟨h1,h2⟩,h3⟩,h4⟩,h5⟩:=h
 simp only[List.all_eq_true] at h4
 refine ⟨by simpa using h1,?_,Option.isSome_iff_exists.mp h3,⟨?_,?_⟩,?_⟩
 ·simpa[og,List.all_eq_true] using h2
 ·intro j q hq hw t ht hd
  have:=h4 _ (CB hq)
  simp only[Bool.or_eq_true] at this
  rcases this with (this | this) | this
  ·rw[hw] at this; cases this
  ·have hx:(cB ops.toList o).any (zS q)=true:=List.any_eq_true.mpr ⟨t,ht,sZ.mpr hd⟩
   rw[hx] at this; cases this
  ·simpa using this
 ·intro hw j q hq hji L9 d hd hqd
  rw[hw] at h5
  simp only[List.all_eq_true] at h5
  have:=h5 _ (CB hq)
  simp only[Bool.or_eq_true] at this
  rcases this with (this | this) | this
  ·exact hji (by simpa using this)
  ·rw[L9] at this; cases this
  ·rw[hd] at this; simp[sZ.mpr hqd] at this
 ·intro hw
  rw[hw] at h5
  simp only[Bool.and_eq_true,List.all_eq_true] at h5
  refine ⟨?_,?_⟩
  ·intro k q hq hki hk
   have:=h5.1 _ (CB hq)
   simp only[Bool.or_eq_true] at this
   rcases this with (this | this) | this
   ·exact absurd (by simpa using this) hki
   ·rw[hk] at this; cases this
   ·simpa using this
  ·intro k q hq hk L9 hm d hd
   have:=h5.2 _ (CB hq)
   simp only[Bool.or_eq_true] at this
   rcases this with ((this | this) | this) | this
   ·rw[hk] at this; cases this
   ·rw[L9] at this; cases this
   ·rw[hm] at this; cases this
   ·rw[hd] at this
    simp only[Bool.and_eq_true] at this
    refine ⟨fun e=>?_,fun hmem=>?_⟩
    ·rw[sZ.mpr e] at this; simp at this
    ·have hx:(cB ops.toList q).any (Nat.beq d)=true:=List.any_eq_true.mpr ⟨d,hmem,by simp⟩
     rw[hx] at this; simp at this
theorem CC {ops:Array Oper} {o:Oper} {s:Nat} {b:Bool} (hg:guardOf ops.toList o=some (some (s,b))):s∈cB ops.toList o:=by
 unfold guardOf at hg
 split at hg
 ·cases hg
 rename_i j w ZO
 split at hg<;>try contradiction
 rename_i hq
 cases hg
 simp only[cB,ZO,List.mem_append]
 right
 rw[hq]; simp
theorem qh {os:List Oper} {o:Oper} {t:Nat} (h:Operand.tmp t∈o.op.operands.toList):t∈cB os o:=by
 simp only[cB,List.mem_append,List.mem_filterMap]
 exact .inl ⟨_,h,rfl⟩
theorem oA {os:List Oper} {o:Oper} {tm cC:T Value} (h:∀t∈cB os o,di cC t=di tm t):∀y∈o.op.operands.toList,eN cC y=eN tm y:=by
 intro y hy
 cases y with
 | tmp t=>exact h t (qh hy)
 | _=>rfl
theorem mE {ops:Array Oper} {o:Oper} {g:Option (Nat × Bool)} (hg:guardOf ops.toList o=some g) {tm cC:T Value} (h:∀t∈cB ops.toList o,di cC t=di tm t):ij cC g=ij tm g:=by
 cases g with
 | none=>rfl
 | some p=>obtain ⟨s,b⟩:=p; simp only[ij,h s (CC hg)]
def L_ (P:Program) (ops:Array Oper) (own:Nat→Option Nat) (h0:Heap) (φ:dG) (h:Heap) (tm:T Value) (i:Nat) (o:Oper):Prop:=
 ∃g,guardOf ops.toList o=some g∧(ij tm g=false→∀d,o.dst=some d→di tm d=undef)∧
  (ij tm g=true→match gz P o.op with
   | .rd x=>∃v,jL x tm h=some v∧∀d,o.dst=some d→di tm d=v
   | .al x=>∃n ob mk,own n=some i∧vY x tm=some (ob,mk)∧h.bl.get n=some ob∧φ n=none∧n<h.nx∧h0.nx≤n∧∀d,o.dst=some d→di tm d=mk n
   | .wr=>False)
theorem L_.keep {ops:Array Oper} {own qC:Nat→Option Nat} {h0:Heap} {φ':dG} {tm cC:T Value} {i:Nat} {o:Oper} (hp:L_ P ops own h0 φ h tm i o)
  (hl:∀t∈cB ops.toList o,di cC t=di tm t) (hd:∀d,o.dst=some d→di cC d=di tm d)
  (hrd:∀x v g,gz P o.op=.rd x→guardOf ops.toList o=some g→ij cC g=true→jL x tm h=some v→(∀d,o.dst=some d→di cC d=v)→∃v',jL x cC h'=some v'∧∀d,o.dst=some d→di cC d=v')
  (hal:∀n ob,own n=some i→h.bl.get n=some ob→φ n=none→n<h.nx→h0.nx≤n→qC n=some i∧h'.bl.get n=some ob∧φ' n=none∧n<h'.nx) :
  L_ P ops qC h0 φ' h' cC i o:=by
 obtain ⟨g,hg,h1,h2⟩:=hp
 have hw:=mE hg hl
 refine ⟨g,hg,fun hf d B6=>by rw[hd d B6]; exact h1 (hw▸hf) d B6,fun ht=>?_⟩
 have h2:=h2 (hw▸ht)
 cases hc:gz P o.op with
 | rd x=>
  rw[hc] at h2
  obtain ⟨v,k1,k2⟩:=h2
  exact hrd x v g hc hg ht k1 fun d B6=>by rw[hd d B6]; exact k2 d B6
 | al x=>
  rw[hc] at h2
  obtain ⟨n,ob,mk,k1,k2,k3,k4,k5,k6,k7⟩:=h2
  obtain ⟨j1,j2,j3,j4⟩:=hal n ob k1 k3 k4 k5 k6
  refine ⟨n,ob,mk,j1,?_,j2,j3,j4,k6,fun d B6=>by rw[hd d B6]; exact k7 d B6⟩
  unfold vY at *
  rw[XA.congr (fun y hy=>oA hl y (z6 (wL hc) y hy))]
  exact k2
 | wr=>rw[hc] at h2; exact h2.elim
abbrev lZ (listed:Array Bool) (i:Nat):Prop:=listed.getD i false=true
structure Inv (P:Program) (ops:Array Oper) (nt:Nat) (φ0:dG) (h0:Heap) (w0:World) (ds:List Deferred) (jR:T Value) (listed:Array Bool) (D M:Nat) (tm:T Value) (h:Heap) (own:Nat→Option Nat) (φ:dG) (a:Act) (w:World):Prop where
 Tv:listed.size=ops.size
 sub:∀i,lZ listed i→bit D i=true
 clo:∀i o,ops[i]? = some o→lZ listed i→∀e∈cg o,lZ listed e
 wr:∀i o,ops[i]? = some o→bit D i=true→fu P o=true→lZ listed i
 mS:∀i,bit M i=true→lZ listed i
 st:∀i o,ops[i]? = some o→bit D i=true→Stat P ops i o∧∀e∈cg o,bit D e=true
 small:nt≤1000000000000
 size:a.tmps.size=nt
 rel:∀t,t<nt→(∀i o,ops[i]? = some o→bit D i=true→¬lZ listed i→o.dst≠some t)→VR φ (di tm t) (a.tmps.getD t undef)
 hr:HR P φ h w
 ext:Ext φ0 φ h0 h w0 w
 dfs:a.defers=ds
 j8:∀i o,ops[i]? = some o→bit D i=true→¬lZ listed i→L_ P ops own h0 φ h tm i o
 keep:∀t,t<nt→(∀(i:Nat) (o:Oper),ops[i]? = some o→o.dst≠some t)→di tm t=di jR t
section
variable {ops:Array Oper} {nt:Nat} {φ0:dG} {h0:Heap} {w0:World} {ds:List Deferred} {listed:Array Bool} {D M:Nat} {tm jR:T Value} {own:Nat→Option Nat} {a:Act}
theorem Inv.ahead (inv:Inv P ops nt φ0 h0 w0 ds jR listed D M tm h own φ a w) (hok:∀q∈ops.toList,ew nt q=true) {i:Nat} {o:Oper} (ho:ops[i]? = some o) (hD:bit D i=false) (PX:∀e∈cg o,bit D e=true)
  (hst:Stat P ops i o) (hw:fu P o=false) {v:Value} {h':Heap} {qC:Nat→Option Nat} (hr':HR P φ h' w) (hx':Ext φ0 φ h0 h' w0 w) (hm:zo h h') (ZP:h.nx≤h'.nx) (hown:∀n,n<h.nx→qC n=own n)
  (hpe:L_ P ops qC h0 φ h' (iL tm o.dst v) i o):Inv P ops nt φ0 h0 w0 ds jR listed (eP D i) M (iL tm o.dst v) h' qC φ a w:=by
 have hmem:o∈ops.toList:=List.mem_of_getElem? (by rw[Array.getElem?_toList]; exact ho)
 have HV:¬lZ listed i:=fun hs=>by rw[inv.sub i hs] at hD; cases hD
 have oB:=dg (hok o hmem)
 refine ⟨inv.Tv,?_,inv.clo,?_,inv.mS,?_,inv.small,inv.size,?_,hr',hx',inv.dfs,?_,fun t ht hno=>by rw[fM inv.small oB ht,if_neg (hno i o ho)]; exact inv.keep t ht hno⟩
 ·intro k hk; rw[cM,inv.sub k hk]; rfl
 ·intro k q hq hk U5
  rw[cM,Bool.or_eq_true] at hk
  rcases hk with hk | hk
  ·exact inv.wr k q hq hk U5
  ·have hk:i=k:=by simpa using hk
   subst hk; rw[ho] at hq; cases hq; rw[hw] at U5; cases U5
 ·intro k q hq hk
  rw[cM,Bool.or_eq_true] at hk
  have up:∀{e},bit D e=true→bit (eP D i) e=true:=fun he=>by rw[cM,he]; rfl
  rcases hk with hk | hk
  ·exact ⟨(inv.st k q hq hk).1,fun e he=>up ((inv.st k q hq hk).2 e he)⟩
  ·have hk:i=k:=by simpa using hk
   subst hk; rw[ho] at hq; cases hq; exact ⟨hst,fun e he=>up (PX e he)⟩
 ·intro t ht hno
  have h1:o.dst≠some t:=hno i o ho (by rw[cM]; simp) HV
  rw[fM inv.small oB ht,if_neg h1]
  exact inv.rel t ht fun k q hq hk uq=>hno k q hq (by rw[cM,hk]; rfl) uq
 ·intro k q hq hk uq
  rw[cM,Bool.or_eq_true] at hk
  by_cases hki:i=k
  ·subst hki; rw[ho] at hq; cases hq; exact hpe
  ·have hk:bit D k=true:=by
    rcases hk with hk | hk
    ·exact hk
    ·exact absurd (by simpa using hk) hki
   have L9:fu P q=false:=by
    cases L9:fu P q with
    | false=>rfl
    | true=>exact absurd (inv.wr k q hq hk L9) uq
   have hqm:q∈ops.toList:=List.mem_of_getElem? (by rw[Array.getElem?_toList]; exact hq)
   have hl:∀t∈cB ops.toList q,di (iL tm o.dst v) t=di tm t:=by
    intro t ht
    rw[fM inv.small oB (kE hok hqm ht),if_neg]
    intro he
    have:=(inv.st k q hq hk).2 i ((inv.st k q hq hk).1.k1 i o ho hw t ht he)
    rw[this] at hD; cases hD
   have hd:∀d,q.dst=some d→di (iL tm o.dst v) d=di tm d:=by
    intro d B6
    have hlt:d<nt:=by have:=dg (hok q hqm); rw[B6] at this; exact de this
    rw[fM inv.small oB hlt,if_neg]
    intro he
    exact hst.k2 hw k q hq (fun e=>hki e.symm) L9 d he B6
   refine (inv.j8 k q hq hk uq).keep hl hd ?_ ?_
   ·intro x v' g hc hg s9 hrd hdv
    refine ⟨v',?_,hdv⟩
    have:=F_ (oz hc) hm hrd
    unfold jL at *
    rw[XI.congr (fun y hy=>oA hl y (sY (oz hc) y hy))]
    exact this
   ·intro n ob e1 e2 e3 e4 e5
    exact ⟨by rw[hown n e4]; exact e1,hm n ob e2,e3,Nat.lt_of_lt_of_le e4 ZP⟩
end
end Go.Vai

namespace Go.Vai
open Go
variable {β:Type} {fl:β} {good:β→Prop} {pr:ki β} {P:Program} {φ:dG} {h h':Heap} {w:World} {t:TypeId}
variable {ops:Array Oper} {nt:Nat} {φ0:dG} {h0:Heap} {w0:World} {ds:List Deferred} {listed:Array Bool} {D M:Nat} {tm jR:T Value} {own:Nat→Option Nat} {a:Act}
theorem zo.refl (h:Heap):zo h h:=fun _ _ e=>e
theorem fO {i k:Nat} (hi:i<listed.size):lZ (listed.setIfInBounds i true) k↔k=i∨lZ listed k:=by
 unfold lZ
 simp only[Array.getD_eq_getD_getElem?]
 by_cases he:i=k
 ·subst he; simp[Array.getElem?_setIfInBounds_self_of_lt hi]
 ·rw[Array.getElem?_setIfInBounds_ne he]
  constructor
  ·exact fun h=>.inr h
  ·rintro (h | h)
   ·exact absurd h.symm he
   ·exact h
theorem CE {a:Act} {d:Option Nat} {v:Value} {t:Nat} (ht:t<a.tmps.size):(a.put d v).tmps.getD t undef=if d=some t then v else a.tmps.getD t undef:=by
 cases d with
 | none=>simp[Act.put]
 | some d=>
  simp only[Act.put,Array.getD_eq_getD_getElem?]
  by_cases he:d=t
  ·subst he; rw[if_pos rfl,Array.getElem?_setIfInBounds_self_of_lt ht]; rfl
  ·rw[if_neg (by simpa using he),Array.getElem?_setIfInBounds_ne he]
theorem CF {a:Act} {d:Option Nat} {v:Value}:(a.put d v).tmps.size=a.tmps.size:=by cases d<;>simp[Act.put]
theorem HW {a:Act} {d:Option Nat} {v:Value}:(a.put d v).defers=a.defers:=by cases d<;>rfl
theorem Ga {o:Oper} {x:Tj} (h:gz P o.op=.rd x):fu P o=false:=by unfold fu; rw[h]
theorem JQ {o:Oper} (h:fu P o=true):gz P o.op=.wr:=by
 unfold fu at h
 split at h
 ·assumption
 ·cases h
theorem wM {i:Nat} {o:Oper} (ho:ops[i]? = some o):o∈ops.toList:=List.mem_of_getElem? (by rw[Array.getElem?_toList]; exact ho)
theorem Inv.advance (hfl:¬good fl) (inv:Inv P ops nt φ0 h0 w0 ds jR listed D M tm h own φ a w) (hok:∀q∈ops.toList,ew nt q=true) {rec:Rec β} {i:Nat} {o:Oper} (ho:ops[i]? = some o) (hD:bit D i=false)
  (PX:∀e∈cg o,bit D e=true) (hst:Stat P ops i o) (hw:fu P o=false) {M':Nat} {κ:T Value→Heap→β} (hg:good (jh fl pr P rec ops.toList D M' o tm h κ)) :
  ∃cC h' qC,Inv P ops nt φ0 h0 w0 ds jR listed (eP D i) M cC h' qC φ a w∧good (κ cC h'):=by
 have oB:=dg (hok o (wM ho))
 have hl:∀v,∀t∈cB ops.toList o,di (iL tm o.dst v) t=di tm t:=by
  intro v t ht
  rw[fM inv.small oB (kE hok (wM ho) ht),if_neg]
  intro he
  have:=PX i (hst.k1 i o ho hw t ht he)
  rw[this] at hD; cases hD
 have hdv:∀v d,o.dst=some d→di (iL tm o.dst v) d=v:=by
  intro v d hd
  have hlt:d<nt:=by rw[hd] at oB; exact de oB
  rw[fM inv.small oB hlt,if_pos hd]
 unfold jh at hg
 split at hg
 ·exact absurd hg hfl
 rename_i g Lr
 split at hg
 ·rename_i s9
  rw[fL] at hg
  refine ⟨_,_,own,inv.ahead hok ho hD PX hst hw inv.hr inv.ext (zo.refl h) (Nat.le_refl _) (fun _ _=>rfl) ?_,hg⟩
  refine ⟨g,Lr,fun _ d hd=>hdv _ d hd,fun ht=>?_⟩
  rw[mE Lr (hl _),s9] at ht; cases ht
 ·rename_i s9
  split at hg
  ·rename_i x hc
   split at hg
   ·rename_i v hv
    rw[fL] at hg
    refine ⟨_,_,own,inv.ahead hok ho hD PX hst hw inv.hr inv.ext (zo.refl h) (Nat.le_refl _) (fun _ _=>rfl) ?_,hg⟩
    refine ⟨g,Lr,fun hf=>?_,fun _=>?_⟩
    ·rw[mE Lr (hl _),s9] at hf; cases hf
    ·rw[hc]
     refine ⟨v,?_,fun d hd=>hdv _ d hd⟩
     unfold jL at *
     rw[XI.congr (fun y hy=>oA (hl v) y (sY (oz hc) y hy))]
     exact hv
   ·exact absurd hg hfl
  ·rename_i x hc
   split at hg
   ·rename_i ob mk hv
    obtain ⟨hn,hg⟩:=cI hfl hg
    rw[fL] at hg
    have hs:Small h.nx:=by unfold Small; omega
    have hnone:φ h.nx=none:=by
     cases hp:φ h.nx with
     | none=>rfl
     | some pl=>have:=(inv.hr.dom _ _ hp).1; omega
    refine ⟨_,_,(fun n=>if n=h.nx then some i else own n),inv.ahead hok ho hD PX hst hw (inv.hr.wz hn ob) (inv.ext.wz inv.hr.lo hn ob) ?_ (Nat.le_succ _) (fun n hn=>if_neg (by omega)) ?_,hg⟩
    ·intro b o' hb
     by_cases hsb:Small b
     ·have:=inv.hr.keys b o' hsb hb
      show (h.bl.aT h.nx ob).get b=some o'
      rw[T.fS _ _ hs hsb (by omega)]
      exact hb
     ·show (h.bl.aT h.nx ob).get b=some o'
      exact absurd (Nat.lt_succ_self b) hsb
    ·refine ⟨g,Lr,fun hf=>?_,fun _=>?_⟩
     ·rw[mE Lr (hl _),s9] at hf; cases hf
     ·rw[hc]
      refine ⟨h.nx,ob,mk,if_pos rfl,?_,T.af _ _ _,hnone,Nat.lt_succ_self _,inv.ext.nx,fun d hd=>hdv _ d hd⟩
      unfold vY at *
      rw[XA.congr (fun y hy=>oA (hl _) y (z6 (wL hc) y hy))]
      exact hv
   ·exact absurd hg hfl
  ·rename_i hc
   rw[fu,hc] at hw; cases hw
theorem Inv.done (inv:Inv P ops nt φ0 h0 w0 ds jR listed D M tm h own φ a w) (hok:∀q∈ops.toList,ew nt q=true) {i:Nat} {o:Oper} (ho:ops[i]? = some o) (hD:bit D i=true) (rF:∀e∈cg o,lZ listed e)
  {φ':dG} {w':World} {v':Value} (hv:∀d,o.dst=some d→VR φ' (di tm d) v') (hs:Sub φ φ') (hr':HR P φ' h w') (hx':Ext φ0 φ' h0 h w0 w') (hφ:∀n,own n≠some i→φ n=none→φ' n=none) :
  Inv P ops nt φ0 h0 w0 ds jR (listed.setIfInBounds i true) D M tm h own φ' (a.put o.dst v') w':=by
 have hil:i<listed.size:=by rw[inv.Tv]; exact (Array.getElem?_eq_some_iff.mp ho).1
 refine ⟨by simp[inv.Tv],?_,?_,?_,?_,inv.st,inv.small,by rw[CF]; exact inv.size,?_,hr',hx',by rw[HW]; exact inv.dfs,?_,inv.keep⟩
 ·intro k hk
  rcases (fO hil).mp hk with rfl | hk
  ·exact hD
  ·exact inv.sub k hk
 ·intro k q hq hk e he
  rw[fO hil]
  rcases (fO hil).mp hk with rfl | hk
  ·rw[ho] at hq; cases hq; exact .inr (rF e he)
  ·exact .inr (inv.clo k q hq hk e he)
 ·intro k q hq hk U5; rw[fO hil]; exact .inr (inv.wr k q hq hk U5)
 ·intro k hk; rw[fO hil]; exact .inr (inv.mS k hk)
 ·intro t ht hno
  rw[CE (by rw[inv.size]; exact ht)]
  by_cases hd:o.dst=some t
  ·rw[if_pos hd]; exact hv t hd
  ·rw[if_neg hd]
   refine (inv.rel t ht fun k q hq hk uq=>?_).mono hs
   by_cases hki:k=i
   ·subst hki; rw[ho] at hq; cases hq; exact hd
   ·exact hno k q hq hk (fun hh=>by rcases (fO hil).mp hh with h1 | h1<;>contradiction)
 ·intro k q hq hk uq
  rw[fO hil] at uq
  have hki:k≠i:=fun e=>uq (.inl e)
  have Ma:¬lZ listed k:=fun e=>uq (.inr e)
  refine (inv.j8 k q hq hk Ma).keep (fun _ _=>rfl) (fun _ _=>rfl) (fun x v g _ _ _ e1 e2=>⟨v,e1,e2⟩) ?_
  intro n ob e1 e2 e3 e4 e5
  exact ⟨e1,e2,hφ n (by rw[e1]; intro hh; cases hh; exact hki rfl) e3,e4⟩
theorem Inv.looks (inv:Inv P ops nt φ0 h0 w0 ds jR listed D M tm h own φ a w) (hok:∀q∈ops.toList,ew nt q=true) {i:Nat} {o:Oper} (ho:ops[i]? = some o) (hst:Stat P ops i o) (rF:∀e∈cg o,lZ listed e) :
  ∀t∈cB ops.toList o,t<a.tmps.size∧VR φ (di tm t) (a.tmps.getD t undef):=by
 intro t ht
 have hlt:=kE hok (wM ho) ht
 refine ⟨by rw[inv.size]; exact hlt,inv.rel t hlt fun k q hq hk uq hqd=>uq (rF k (hst.k1 k q hq ?_ t ht hqd))⟩
 cases L9:fu P q with
 | false=>rfl
 | true=>exact absurd (inv.wr k q hq hk L9) uq
theorem Inv.aaJ (inv:Inv P ops nt φ0 h0 w0 ds jR listed D M tm h own φ a w) (hok:∀q∈ops.toList,ew nt q=true) {i:Nat} {o:Oper} (ho:ops[i]? = some o) (hst:Stat P ops i o) (rF:∀e∈cg o,lZ listed e) :
  ∀y∈o.op.operands.toList,VR φ (eN tm y) (a.eval y):=by
 intro y hy
 have hyo:=qA (hok o (wM ho)) y hy
 cases y with
 | tmp t=>exact (inv.looks hok ho hst rF t (qh hy)).2
 | const v=>exact jZ hyo
 | func f=>exact VR.func' .nil .nil
 | global g=>cases hyo
theorem Inv.wanted (inv:Inv P ops nt φ0 h0 w0 ds jR listed D M tm h own φ a w) (hok:∀q∈ops.toList,ew nt q=true) {i:Nat} {o:Oper} (ho:ops[i]? = some o) (hst:Stat P ops i o) (rF:∀e∈cg o,lZ listed e)
  {g:Option (Nat × Bool)} (hg:guardOf ops.toList o=some g):Region.wanted o (yielded ops a.tmps)=ij tm g:=
 zZ (φ:=φ) hg fun s _ _ hs=>inv.looks hok ho hst rF s hs
theorem Inv.late (inv:Inv P ops nt φ0 h0 w0 ds jR listed D M tm h own φ a w) (hok:∀q∈ops.toList,ew nt q=true) {i:Nat} {o:Oper} (ho:ops[i]? = some o) (hD:bit D i=true) (HV:¬lZ listed i) (rF:∀e∈cg o,lZ listed e)
  {Q:Exit→Act→World→Prop} {K:Act→World→Prop} {r0:Option Nat} (hK:∀φ' a' w',Inv P ops nt φ0 h0 w0 ds jR (listed.setIfInBounds i true) D M tm h own φ' a' w'→K a' w'):wpOpIn (FR r0) 0 P ops Q i K a w:=by
 obtain ⟨hst,_⟩:=inv.st i o ho hD
 obtain ⟨g,hg,h1,h2⟩:=inv.j8 i o ho hD HV
 have hlt:∀d,o.dst=some d→d<nt:=fun d hd=>by have:=dg (hok o (wM ho)); rw[hd] at this; exact de this
 simp only[wpOpIn,ho]
 rw[inv.wanted hok ho hst rF hg]
 cases hw:ij tm g with
 | false=>
  rw[if_neg (by simp)]
  exact ⟨j7,hK φ _ w (inv.done hok ho hD rF (fun d hd=>by rw[h1 hw d hd]; exact VR.undef) (Sub.refl φ) inv.hr inv.ext (fun _ _ e=>e))⟩
 | true=>
  rw[if_pos rfl]
  have h2:=h2 hw
  have hρ:=inv.aaJ hok ho hst rF
  cases hc:gz P o.op with
  | rd x=>
   rw[hc] at h2
   obtain ⟨v,k1,k2⟩:=h2
   obtain ⟨v0,v',e1,e2,e3⟩:=uh (β:=Option Value) (fl:=none) (good:=fun r=>r=some v) (by simp) (oz hc) hρ inv.hr (κ:=fun v _=>some v) k1 rfl
   cases e1
   refine ⟨j7,?_⟩
   rw[Oper.semAt_eq _ _ _ (fun c hcd=>by rw[hcd] at hc; cases hc),e3]
   exact hK φ _ w (inv.done hok ho hD rF (fun d hd=>by rw[k2 d hd]; exact e2) (Sub.refl φ) inv.hr inv.ext (fun _ _ e=>e))
  | al x=>
   rw[hc] at h2
   obtain ⟨n,ob,mk,k1,k2,k3,k4,k5,k6,k7⟩:=h2
   obtain ⟨ob',mk',O,e1,e2,e3,e4,e5⟩:=uk (β:=Option (bC × (Nat→Value))) (fl:=none) (good:=fun r=>r=some (ob,mk)) (P:=P) (w:=w) (by simp) (wL hc) hρ (κ:=fun o mk=>some (o,mk)) k2 rfl
   cases e1
   refine ⟨j7,?_⟩
   rw[Oper.semAt_eq _ _ _ (fun c hcd=>by rw[hcd] at hc; cases hc),e5]
   refine hK (gE φ n ⟨w.heap.size,0,0⟩) _ _ (inv.done hok ho hD rF (fun d hd=>by rw[k7 d hd]; exact e4 _ _ _ (dO _ _ _)) (o5 k4) (inv.hr.Ci k3 k4 k5 0 0 (e3 _)) (inv.ext.Ci k4 k6 O (rj (e3 ⟨0,0,0⟩) e2) 0 0) ?_)
   intro m hm1 hm2
   unfold gE
   rw[if_neg]
   ·exact hm2
   ·intro he; subst he; exact hm1 k1
  | wr=>rw[hc] at h2; exact h2.elim
end Go.Vai

namespace Go.Vai
open Go
variable {β:Type} {fl:β} {good:β→Prop} {pr:ki β} {P:Program} {φ:dG} {h h':Heap} {w:World} {t:TypeId}
variable {ops:Array Oper} {nt:Nat} {φ0:dG} {h0:Heap} {w0:World} {ds:List Deferred} {listed:Array Bool} {D M:Nat} {tm jR:T Value} {own:Nat→Option Nat} {a:Act}
theorem CG:∀(sL:List It),ua P ops.toList D M tm h sL=true→∀k q,(k,q)∈sL→bit D k=true→bit M k=false→∀x g,gz P q.op=.rd x→guardOf ops.toList q=some g→ij tm g=true→
  ∃v,jL x tm h=some v∧∀d,q.dst=some d→di tm d=v:=by
 intro sL
 induction sL with
 | nil=>intro _ k q hm; cases hm
 | cons it sL ih=>
  obtain ⟨j,o⟩:=it
  intro hs k q hm hD hM x g hc hg hw
  simp only[List.mem_cons] at hm
  unfold ua at hs
  rcases hm with e | hm
  ·cases e
   simp only[hD,hM,hc,hg,hw,Bool.not_false,Bool.and_true,Bool.and_eq_true] at hs
   have hs:=hs.1
   split at hs
   ·rename_i v d hv hd
    refine ⟨v,hv,fun d' hd'=>?_⟩
    rw[hd] at hd'; cases hd'
    exact (F4 8 _ _ hs).symm
   ·rename_i v hv hd
    exact ⟨v,hv,fun d' hd'=>by rw[hd] at hd'; cases hd'⟩
   ·cases hs
  ·refine ih ?_ k q hm hD hM x g hc hg hw
   split at hs
   ·simp only[Bool.and_eq_true] at hs; exact hs.2
   ·exact hs
theorem CH {sL:List It} (ha:zT P D M sL=false) {k:Nat} {q:Oper} (hm:(k,q)∈sL) (hD:bit D k=true) (hM:bit M k=false) {x:Tj} (hc:gz P q.op=.rd x):False:=by
 unfold zT at ha
 rw[List.any_eq_false] at ha
 have:=ha _ hm
 simp[hD,hM,hc] at this
theorem Inv.wrote (inv:Inv P ops nt φ0 h0 w0 ds jR listed D M tm h own φ a w) (hok:∀q∈ops.toList,ew nt q=true) {i:Nat} {o:Oper} (ho:ops[i]? = some o) (hD:bit D i=false) (rF:∀e∈cg o,lZ listed e)
  (hst:Stat P ops i o) (hw:fu P o=true) {M':Nat} (hM:∀k,bit M' k=true→lZ listed k)
  (hno:∀k q,ops[k]? = some q→bit D k=true→fu P q=false→bit M' k=false→∀d,o.dst=some d→q.dst≠some d∧d∉cB ops.toList q)
  {φ':dG} {w':World} {v v':Value} {h':Heap} (hv:VR φ' v v') (hr':HR P φ' h' w') (hx:Ext φ φ' h h' w w')
  (hre:∀k q,ops[k]? = some q→bit D k=true→bit M' k=false→¬lZ listed k→∀x g,gz P q.op=.rd x→guardOf ops.toList q=some g→ij (iL tm o.dst v) g=true→
   ∃v1,jL x (iL tm o.dst v) h'=some v1∧∀d,q.dst=some d→di (iL tm o.dst v) d=v1) :
  Inv P ops nt φ0 h0 w0 ds jR (listed.setIfInBounds i true) (eP D i) M' (iL tm o.dst v) h' own φ' (a.put o.dst v') w':=by
 have hil:i<listed.size:=by rw[inv.Tv]; exact (Array.getElem?_eq_some_iff.mp ho).1
 have oB:=dg (hok o (wM ho))
 have aaL:∀{k q},ops[k]? = some q→bit (eP D i) k=true→¬lZ (listed.setIfInBounds i true) k→bit D k=true∧¬lZ listed k∧fu P q=false∧bit M' k=false:=by
  intro k q hq hk uq
  rw[fO hil] at uq
  have hki:k≠i:=fun e=>uq (.inl e)
  have Ma:¬lZ listed k:=fun e=>uq (.inr e)
  rw[cM,Bool.or_eq_true] at hk
  have hk:bit D k=true:=by
   rcases hk with hk | hk
   ·exact hk
   ·exact absurd (by simpa using hk:i=k).symm hki
  refine ⟨hk,Ma,?_,?_⟩
  ·cases L9:fu P q with
   | false=>rfl
   | true=>exact absurd (inv.wr k q hq hk L9) Ma
  ·cases hm:bit M' k with
   | false=>rfl
   | true=>exact absurd (hM k hm) Ma
 refine ⟨by simp[inv.Tv],?_,?_,?_,?_,?_,inv.small,by rw[CF]; exact inv.size,?_,hr',inv.ext.trans hx,by rw[HW]; exact inv.dfs,?_,fun t ht hno=>by rw[fM inv.small oB ht,if_neg (hno i o ho)]; exact inv.keep t ht hno⟩
 ·intro k hk
  rw[cM]
  rcases (fO hil).mp hk with rfl | hk
  ·simp
  ·rw[inv.sub k hk]; rfl
 ·intro k q hq hk e he
  rw[fO hil]
  rcases (fO hil).mp hk with rfl | hk
  ·rw[ho] at hq; cases hq; exact .inr (rF e he)
  ·exact .inr (inv.clo k q hq hk e he)
 ·intro k q hq hk U5
  rw[fO hil]
  rw[cM,Bool.or_eq_true] at hk
  rcases hk with hk | hk
  ·exact .inr (inv.wr k q hq hk U5)
  ·exact .inl (by simpa using hk:i=k).symm
 ·intro k hk; rw[fO hil]; exact .inr (hM k hk)
 ·intro k q hq hk
  rw[cM,Bool.or_eq_true] at hk
  have up:∀{e},bit D e=true→bit (eP D i) e=true:=fun he=>by rw[cM,he]; rfl
  rcases hk with hk | hk
  ·exact ⟨(inv.st k q hq hk).1,fun e he=>up ((inv.st k q hq hk).2 e he)⟩
  ·have hk:i=k:=by simpa using hk
   subst hk; rw[ho] at hq; cases hq; exact ⟨hst,fun e he=>up (inv.sub e (rF e he))⟩
 ·intro t ht hnot
  rw[CE (by rw[inv.size]; exact ht),fM inv.small oB ht]
  by_cases hd:o.dst=some t
  ·rw[if_pos hd,if_pos hd]; exact hv
  ·rw[if_neg hd,if_neg hd]
   refine (inv.rel t ht fun k q hq hk uq=>hnot k q hq (by rw[cM,hk]; rfl) ?_).mono hx.sub
   rw[fO hil]
   rintro (rfl | hh)
   ·rw[hk] at hD; cases hD
   ·exact uq hh
 ·intro k q hq hk uq
  obtain ⟨dy,hk2,y3,z7⟩:=aaL hq hk uq
  have hl:∀t∈cB ops.toList q,di (iL tm o.dst v) t=di tm t:=by
   intro t ht
   rw[fM inv.small oB (kE hok (wM hq) ht),if_neg]
   intro he
   exact (hno k q hq dy y3 z7 t he).2 ht
  have hd:∀d,q.dst=some d→di (iL tm o.dst v) d=di tm d:=by
   intro d B6
   have hlt:d<nt:=by have:=dg (hok q (wM hq)); rw[B6] at this; exact de this
   rw[fM inv.small oB hlt,if_neg]
   intro he
   exact (hno k q hq dy y3 z7 d he).1 B6
  refine (inv.j8 k q hq dy hk2).keep hl hd (fun x v1 g hc hg s9 _ _=>hre k q hq dy z7 hk2 x g hc hg s9) ?_
  intro n ob e1 e2 e3 e4 e5
  refine ⟨e1,by rw[hx.B1 n e4 e3]; exact e2,?_,Nat.lt_of_lt_of_le e4 hx.nx⟩
  cases hp:φ' n with
  | none=>rfl
  | some pl=>have:=(hx.new n pl e3 hp).1; omega
theorem Inv.write (hfl:¬good fl) (hp:fN good pr P) {rec:Rec β} (ez:kz good P rec) (inv:Inv P ops nt φ0 h0 w0 ds jR listed D M tm h own φ a w) (hok:∀q∈ops.toList,ew nt q=true) {i:Nat} {o:Oper} (ho:ops[i]? = some o)
  (hD:bit D i=false) (rF:∀e∈cg o,lZ listed e) (hst:Stat P ops i o) (hw:fu P o=true) {M':Nat} (hM:∀k,bit M' k=true→lZ listed k)
  (hno:∀k q,ops[k]? = some q→bit D k=true→fu P q=false→bit M' k=false→∀d,o.dst=some d→q.dst≠some d∧d∉cB ops.toList q)
  {κ:T Value→Heap→β} (hg:good (jh fl pr P rec ops.toList D M' o tm h κ)) {Q:Exit→Act→World→Prop} {K:Act→World→Prop} {r0:Option Nat}
  (hK:∀cC h' φ' a' w',Inv P ops nt φ0 h0 w0 ds jR (listed.setIfInBounds i true) (eP D i) M' cC h' own φ' a' w'→good (κ cC h')→K a' w'):wpOpIn (FR r0) 0 P ops Q i K a w:=by
 simp only[wpOpIn,ho]
 unfold jh at hg
 split at hg
 ·exact absurd hg hfl
 rename_i g Lr
 rw[inv.wanted hok ho hst rF Lr]
 split at hg
 ·rename_i s9
  rw[fL] at hg
  rw[s9,if_neg (by simp)]
  refine ⟨j7,?_⟩
  refine hK _ _ φ _ w (inv.wrote hok ho hD rF hst hw hM hno VR.undef inv.hr (Ext.refl _ _ _) ?_) hg
  intro k q hq hk ZQ uq x g' hc hg' QA
  have y3:=Ga hc
  have oB:=dg (hok o (wM ho))
  have hl:∀t∈cB ops.toList q,di (iL tm o.dst undef) t=di tm t:=by
   intro t ht
   rw[fM inv.small oB (kE hok (wM hq) ht),if_neg]
   intro he
   exact (hno k q hq hk y3 ZQ t he).2 ht
  obtain ⟨g2,e1,e2,e3⟩:=inv.j8 k q hq hk uq
  rw[hg'] at e1; cases e1
  have e3:=e3 (by rw[←mE hg' hl]; exact QA)
  rw[hc] at e3
  obtain ⟨v,k1,k2⟩:=e3
  refine ⟨v,?_,fun d B6=>?_⟩
  ·unfold jL at *
   rw[XI.congr (fun y hy=>oA hl y (sY (oz hc) y hy))]
   exact k1
  ·have hlt:d<nt:=by have:=dg (hok q (wM hq)); rw[B6] at this; exact de this
   rw[fM inv.small oB hlt,if_neg]
   ·exact k2 d B6
   ·intro he
    exact (hno k q hq hk y3 ZQ d he).1 B6
 ·rename_i s9
  rw[s9,if_pos rfl]
  rw[JQ hw] at hg
  refine Cx hfl hp ez (inv.aaJ hok ho hst rF) inv.hr hg ?_
  intro φ' v v' h' w' g1 g2 g3 g4
  rw[fL] at g1
  split at g1
  ·rename_i ha
   refine hK _ _ φ' _ w' (inv.wrote hok ho hD rF hst hw hM hno g2 g3 g4 ?_) g1
   intro k q hq hk ZQ uq x g' hc hg' QA
   exact (CH ha (CB hq) hk ZQ hc).elim
  ·split at g1
   ·rename_i rG
    refine hK _ _ φ' _ w' (inv.wrote hok ho hD rF hst hw hM hno g2 g3 g4 ?_) g1
    intro k q hq hk ZQ uq x g' hc hg' QA
    exact CG _ rG k q (CB hq) hk ZQ x g' hc hg' QA
   ·exact absurd g1 hfl
theorem wN {S:Nat→Prop}:∀(l:List Nat) (m:Nat),(∀k,bit m k=true→S k)→(∀e∈l,S e)→∀k,bit (l.foldl eP m) k=true→S k:=by
 intro l
 induction l with
 | nil=>intro m h1 _ k hk; exact h1 k hk
 | cons e l ih=>
  intro m h1 h2 k hk
  refine ih (eP m e) ?_ (fun x hx=>h2 x (by simp[hx])) k hk
  intro x hx
  rw[cM,Bool.or_eq_true] at hx
  rcases hx with hx | hx
  ·exact h1 x hx
  ·have:e=x:=by simpa using hx
   subst this; exact h2 e (by simp)
theorem JR {S:Nat→Prop} {os:List Oper} (hc:∀i o,os[i]? = some o→S i→∀e∈cg o,S e):∀(i m:Nat),(∀k,bit m k=true→S k)→∀k,bit (LG os i m) k=true→S k:=by
 intro i
 induction i with
 | zero=>intro m h1 k hk; exact h1 k hk
 | succ i ih=>
  intro m h1 k hk
  unfold LG at hk
  split at hk
  ·rename_i o hb ho
   exact ih _ (wN _ _ h1 (hc i o ho (h1 i hb))) k hk
  ·exact ih m h1 k hk
theorem Gb {S:Nat→Prop} {os:List Oper} (hc:∀i o,os[i]? = some o→S i→∀e∈cg o,S e) {i:Nat} {o:Oper} (ho:os[i]? = some o) (hp:∀e∈cg o,S e):∀k,bit (qa os i) k=true→S k:=by
 unfold qa
 rw[ho]
 exact JR hc i _ (wN _ _ (fun k hk=>by rw[CA] at hk; cases hk) hp)
theorem z8 {i:Nat} (hi:i∈Region.ready .any ops listed):∃o,ops[i]? = some o∧¬lZ listed i∧∀e∈cg o,lZ listed e:=by
 unfold Region.ready at hi
 simp only[List.mem_filter,List.mem_range,Bool.and_eq_true] at hi
 obtain ⟨h1,h2,h3⟩:=hi
 have ho:ops[i]? = some ops[i]:=by simp[h1]
 refine ⟨ops[i],ho,?_,?_⟩
 ·intro hh
  unfold lZ at hh
  simp only[Array.getD_eq_getD_getElem?] at hh h2
  cases hl:listed[i]? with
  | none=>rw[hl] at hh; simp at hh
  | some b=>rw[hl] at hh h2; simp at hh h2; rw[hh] at h2; cases h2
 ·intro e he
  rw[ho] at h3
  simp only[Option.map_some,Option.getD_some,Array.all_eq_true'] at h3
  unfold cg at he
  simp only[List.mem_map,List.mem_filter] at he
  obtain ⟨x,⟨hx,hb⟩,rfl⟩:=he
  have:=h3 x (by simpa using hx)
  rw[hb] at this
  simp only[Bool.not_true,Bool.false_or] at this
  exact this
theorem mem_ready {i:Nat} {o:Oper} (ho:ops[i]? = some o) (hsz:listed.size=ops.size) (hn:¬lZ listed i) (hp:∀e∈cg o,lZ listed e):i∈Region.ready .any ops listed:=by
 have hlt:i<ops.size:=(Array.getElem?_eq_some_iff.mp ho).1
 unfold Region.ready
 simp only[List.mem_filter,List.mem_range,Bool.and_eq_true]
 refine ⟨hlt,?_,?_⟩
 ·have hll:i<listed.size:=by omega
  unfold lZ at hn
  simp only[Array.getD_eq_getD_getElem?,getElem?_pos listed i hll] at hn ⊢
  simpa using hn
 ·rw[ho]
  simp only[Option.map_some,Option.getD_some,Array.all_eq_true']
  intro e he
  cases hb:Region.binds .any e with
  | false=>rfl
  | true=>
   have:=hp e.on (by unfold cg; simp only[List.mem_map,List.mem_filter]; exact ⟨e,⟨by simpa using he,hb⟩,rfl⟩)
   simp only[Bool.not_true,Bool.false_or]
   exact this
section
variable {nt:Nat} {κ:T Value→Heap→β} {Q:Exit→Act→World→Prop} {r0:Option Nat}
theorem U6 {own:Nat→Option Nat} (inv:Inv P ops nt φ0 h0 w0 ds jR listed D M tm h own φ a w) (hidx:∀i o,ops[i]? = some o→∀e∈cg o,e<i) (hr:Region.ready .any ops listed=[]):∀i o,ops[i]? = some o→lZ listed i:=by
 intro i
 induction i using Nat.strongRecOn with
 | _ i ih=>
  intro o ho
  by_cases hi:lZ listed i
  ·exact hi
  ·have hlt:i<ops.size:=(Array.getElem?_eq_some_iff.mp ho).1
   have:=mem_ready ho inv.Tv hi fun e he=>by
    have hei:=hidx i o ho e he
    exact ih e hei ops[e] (by simp)
   rw[hr] at this; cases this
theorem Inv.full {own:Nat→Option Nat} (inv:Inv P ops nt φ0 h0 w0 ds jR listed D M tm h own φ a w) (hall:∀i o,ops[i]? = some o→lZ listed i):TR φ nt tm a:=
 ⟨inv.size,inv.small,fun t ht=>inv.rel t ht fun i o ho _ hS=>absurd (hall i o ho) hS⟩
theorem oC {i:Nat} {is:List Nat} {D M:Nat} (hp:lQ P ops.toList (i::is) D M=true):∃o,ops[i]? = some o∧
  Qn P ops.toList (eO ops.toList 0) D (match fu P o with | true=>Nat.lor M (qa ops.toList i) | false=>M) i o=true∧
  lQ P ops.toList is (eP D i) (match fu P o with | true=>Nat.lor M (qa ops.toList i) | false=>M)=true:=by
 unfold lQ at hp
 split at hp<;>try contradiction
 rename_i o ho
 rw[Array.getElem?_toList] at ho
 simp only[Bool.and_eq_true] at hp
 exact ⟨o,ho,hp.1,hp.2⟩
theorem afb (hfl:¬good fl) (hok:∀q∈ops.toList,ew nt q=true) {rec:Rec β} {i:Nat} {o:Oper} (ho:ops[i]? = some o) (HV:¬lZ listed i) (rF:∀e∈cg o,lZ listed e) :
  ∀(l:List Nat) (D M:Nat) (tm:T Value) (h:Heap) (own:Nat→Option Nat),Inv P ops nt φ0 h0 w0 ds jR listed D M tm h own φ a w→lQ P ops.toList l D M=true→good (iC fl pr P rec ops.toList l D M tm h κ)→
   ∃l' D' cC h' qC,Inv P ops nt φ0 h0 w0 ds jR listed D' M cC h' qC φ a w∧lQ P ops.toList l' D' M=true∧good (iC fl pr P rec ops.toList l' D' M cC h' κ)∧
    (bit D' i=true∨(fu P o=true∧∃js,l'=i::js)):=by
 intro l
 induction l with
 | nil=>
  intro D M tm h own inv hp hg
  refine ⟨[],D,tm,h,own,inv,hp,hg,.inl ?_⟩
  unfold lQ at hp
  rw[List.all_eq_true] at hp
  exact hp _ (CB ho)
 | cons j js ih=>
  intro D M tm h own inv hp hg
  by_cases U7:bit D i=true
  ·exact ⟨j::js,D,tm,h,own,inv,hp,hg,.inl U7⟩
  have U7:bit D i=false:=by simpa using U7
  obtain ⟨q,hq,nT,nJ⟩:=oC hp
  obtain ⟨k1,k2,k3,k4,k5⟩:=qB nT
  cases hw:fu P q with
  | true=>
   have hij:i=j:=by
    by_cases hij:i=j
    ·exact hij
    ·have:=(k5 hw).1 i o ho hij U7
     have hrd:og D o=true:=by unfold og; rw[List.all_eq_true]; exact fun e he=>inv.sub e (rF e he)
     rw[hrd] at this; cases this
   subst hij
   rw[ho] at hq; cases hq
   exact ⟨i::js,D,tm,h,own,inv,hp,hg,.inr ⟨hw,js,rfl⟩⟩
  | false=>
   rw[hw] at nJ nT
   simp only at nJ
   unfold iC at hg
   rw[Array.getElem?_toList,hq] at hg
   simp only[hw] at hg
   obtain ⟨cC,h',qC,inv',hg'⟩:=inv.advance hfl hok hq k1 k2 k4 hw hg
   exact ih _ M cC h' qC inv' nJ hg'
theorem QB (hfl:¬good fl) (hp:fN good pr P) {rec:Rec β} (ez:kz good P rec) (hok:∀q∈ops.toList,ew nt q=true) (hidx:∀i o,ops[i]? = some o→∀e∈cg o,e<i)
  (hQ:∀cC h' φ' a' w',good (κ cC h')→TR φ' nt cC a'→HR P φ' h' w'→Ext φ0 φ' h0 h' w0 w'→a'.defers=ds→(∀t,t<nt→(∀(i:Nat) (o:Oper),ops[i]? = some o→o.dst≠some t)→di cC t=di jR t)→Q .normal a' w') :
  ∀(fuel:Nat) (listed:Array Bool) (l:List Nat) (D M:Nat) (tm:T Value) (h:Heap) (own:Nat→Option Nat) (φ:dG) (a:Act) (w:World),listed.toList.count false≤fuel→Inv P ops nt φ0 h0 w0 ds jR listed D M tm h own φ a w→
   lQ P ops.toList l D M=true→good (iC fl pr P rec ops.toList l D M tm h κ)→wpAnyIn (FR r0) 0 P .any ops Q fuel listed a w:=by
 have fin:∀(listed:Array Bool) (l:List Nat) (D M:Nat) (tm:T Value) (h:Heap) (own:Nat→Option Nat) (φ:dG) (a:Act) (w:World),Inv P ops nt φ0 h0 w0 ds jR listed D M tm h own φ a w→
   lQ P ops.toList l D M=true→good (iC fl pr P rec ops.toList l D M tm h κ)→Region.ready .any ops listed=[]→Q .normal a w:=by
  intro listed l D M tm h own φ a w inv PZ hg hr
  have hall:=U6 inv hidx hr
  cases l with
  | nil=>exact hQ tm h φ a w hg (inv.full hall) inv.hr inv.ext inv.dfs inv.keep
  | cons j js=>
   obtain ⟨q,hq,nT,_⟩:=oC PZ
   have:=(qB nT).1
   rw[inv.sub j (hall j q hq)] at this; cases this
 intro fuel
 induction fuel with
 | zero=>
  intro listed l D M tm h own φ a w hc inv PZ hg
  have hr:Region.ready .any ops listed=[]:=by
   cases hr:Region.ready .any ops listed with
   | nil=>rfl
   | cons i is=>
    obtain ⟨o,ho,HV,_⟩:=z8 (listed:=listed) (ops:=ops) (i:=i) (by rw[hr]; exact List.mem_cons_self)
    have hlt:i<listed.size:=by rw[inv.Tv]; exact (Array.getElem?_eq_some_iff.mp ho).1
    have:false∈listed.toList:=by
     unfold lZ at HV
     simp only[Array.getD_eq_getD_getElem?,getElem?_pos listed i hlt,Option.getD_some] at HV
     have:listed[i]=false:=by simpa using HV
     rw[←this]
     exact Array.getElem_mem_toList hlt
    have:=List.count_pos_iff.mpr this
    omega
  exact ⟨hr,fin listed l D M tm h own φ a w inv PZ hg hr⟩
 | succ fuel ih=>
  intro listed l D M tm h own φ a w hc inv PZ hg
  refine ⟨fin listed l D M tm h own φ a w inv PZ hg,fun i hi=>?_⟩
  obtain ⟨o,ho,HV,rF⟩:=z8 hi
  have hlt:i<listed.size:=by rw[inv.Tv]; exact (Array.getElem?_eq_some_iff.mp ho).1
  have aaM:(listed.setIfInBounds i true).toList.count false≤fuel:=by
   have hfi:listed.toList[i]'(by simpa using hlt)=false:=by
    unfold lZ at HV
    simp only[Array.getD_eq_getD_getElem?,getElem?_pos listed i hlt,Option.getD_some] at HV
    simpa using HV
   rw[Array.toList_setIfInBounds,List.count_set (by simpa using hlt),hfi]
   change listed.toList.count false-1+0≤fuel
   omega
  obtain ⟨l',D',cC,h',qC,inv',aaN,hg',hend⟩:=afb hfl hok ho HV rF l D M tm h own inv PZ hg
  by_cases U7:bit D' i=true
  ·exact inv'.late hok ho U7 HV rF fun φ' a' w' inv2=>ih _ l' D' M cC h' qC φ' a' w' aaM inv2 aaN hg'
  ·rcases hend with hend | ⟨hw,js,rfl⟩
   ·exact absurd hend U7
   obtain ⟨q,hq,nT,nJ⟩:=oC aaN
   rw[ho] at hq; cases hq
   rw[hw] at nT nJ
   simp only at nT nJ
   obtain ⟨k1,k2,k3,k4,k5⟩:=qB nT
   unfold iC at hg'
   rw[Array.getElem?_toList,ho] at hg'
   simp only[hw] at hg'
   refine inv'.write hfl hp ez hok ho k1 rF k4 hw ?_ (k5 hw).2 hg' fun ZJ h2 φ2 a2 w2 inv2 hg2=>ih _ js _ _ ZJ h2 qC φ2 a2 w2 aaM inv2 nJ hg2
   intro k hk
   rw[U4,Bool.or_eq_true] at hk
   rcases hk with hk | hk
   ·exact inv'.mS k hk
   ·exact Gb (S:=lZ listed) (os:=ops.toList) (fun j q hq hj=>inv'.clo j q (by rw[←Array.getElem?_toList]; exact hq) hj) (by rw[Array.getElem?_toList]; exact ho) rF k hk
end
theorem qD (hfl:¬good fl) (hp:fN good pr P) (hm:P.follows .mixedOrders=true):F8 good fl pr P:=by
 intro rec ez ops id nt hok φ tm h a w κ ht hr hg r0 Q hQ
 unfold jY at hg
 split at hg
 ·contradiction
 split at hg
 ·rename_i l hl
  unfold AQ at hl
  split at hl<;>try contradiction
  split at hl<;>try contradiction
  rename_i U8
  cases hl
  simp only[Bool.and_eq_true] at U8
  refine wpIn_region_any hm ?_
  have Qu:∀i,¬lZ (Array.replicate ops.size false) i:=by
   intro i hi
   unfold lZ at hi
   simp only[Array.getD_eq_getD_getElem?,Array.getElem?_replicate] at hi
   split at hi<;>simp at hi
  refine QB (φ0:=φ) (h0:=h) (w0:=w) (ds:=a.defers) (jR:=tm) hfl hp ez hok ?_ hQ ops.size _ l 0 0 tm h (fun _=>none) φ a { w with drawn:=w.drawn+1 } ?_ ?_ U8.1 hg
  ·intro i o ho e he
   have:=U8.2
   rw[List.all_eq_true] at this
   have:=this _ (CB ho)
   simp only[List.all_eq_true] at this
   exact de (this e he)
  ·refine Nat.le_trans List.count_le_length (by simp)
  ·have nb:∀k,bit 0 k=true→False:=fun k hb=>by rw[CA] at hb; cases hb
   exact ⟨by simp,fun i hi=>absurd hi (Qu i),fun i o _ hi=>absurd hi (Qu i),fun i o _ hb=>(nb i hb).elim,fun i hb=>(nb i hb).elim,fun i o _ hb=>(nb i hb).elim,
    ht.small,ht.size,fun t hlt _=>ht.rel t hlt,hr.drew,(Ext.refl φ h w).drew,rfl,fun i o _ hb=>(nb i hb).elim,fun _ _ _=>rfl⟩
 ·exact absurd hg hfl
end Go.Vai

namespace Go.Vai
open Go
variable {pr:ki Bool} {P:Program} {w:World}
theorem HR.start (w:World):HR P (fun _=>none) ⟨0,.nil,0⟩ w:=
 ⟨fun _ _ _ _ e=>(by cases e),fun _ _ e=>(by cases e),fun b o _ e=>(by rw[T.get_nil] at e; cases e),by decide,fun _ _ _ _ _ _ _ _ _ _ e=>(by cases e),Nat.le_refl _⟩
def yes (b:Bool):Prop:=b=true
def QC:ki Bool:=⟨fun _=>none,fun a b=>match a with | true=>b | false=>false⟩
theorem A8:fN yes QC P:=⟨fun x y hxy=>by cases x<;>simp[QC,yes] at hxy ⊢; exact hxy,fun f g hg=>by cases hg⟩
end Go.Vai

namespace Go.Vai
open Go Go.RowKit
variable {P:Program}
theorem VR.mj {φ:dG} {v:Value} (hv:jg v=true):VR φ v v:=by
 cases v<;>first | exact VR.bool _ | exact VR.int _ _ | exact VR.string _ | cases hv
theorem VR.QD {φ:dG} {v v':Value} (hv:jg v=true) (h:VR φ v v'):v'=v:=by
 cases h<;>first | rfl | cases hv
theorem F2.mj {φ:dG}:∀{l:List Value},l.all jg=true→F2 (VR φ) l l:=by
 intro l
 induction l with
 | nil=>intro _; exact .nil
 | cons v l ih=>
  intro h
  simp only[List.all_cons,Bool.and_eq_true] at h
  exact .cons (VR.mj h.1) (ih h.2)
end Go.Vai

namespace Go.Vai
open Go
def CallW (P:Program) (f:FuncId) (args:List Value) (h:Heap) (κ:KQ):Prop:=
 ∀(φ:dG) (w:World) (args':List Value),F2 (VR φ) args args'→HR P φ h w→sU (fun p:Prop=>p) P φ h w κ f args'.toArray
def B7 (P:Program):ki Prop:=⟨fun f=>some (CallW P f),And⟩
def iG:Rec Prop:=fun _ _ _ _=>False
abbrev U9 (i:XI Prop) (tm:T Value) (h:Heap) (κ:KQ):Prop:=
 XI.rec (motive:=fun _=>Prop) (fun f=>f h κ) (fun x f=>f (eN tm x) h κ) (fun x y f=>f (eN tm x) (eN tm y) h κ)
  (fun x y z f=>f (eN tm x) (eN tm y) (eN tm z) h κ) (fun xs f=>f (xs.map (eN tm)) h κ) i
abbrev aaO (i:XA Prop) (tm:T Value) (κ:bC→(Nat→Value)→Prop):Prop:=
 XA.rec (motive:=fun _=>Prop) (fun f=>f κ) (fun x f=>f (eN tm x) κ) (fun x y f=>f (eN tm x) (eN tm y) κ) (fun xs f=>f (xs.map (eN tm)) κ) i
def eU (P:Program) (fv:Value) (args:List Value) (h:Heap) (κ:KQ):Prop:=zP False (B7 P) P iG fv args h κ
def CallI (P:Program) (name:String) (r:Value) (args:List Value) (h:Heap) (κ:KQ):Prop:=LC False (B7 P) P iG name r args h κ
noncomputable def A9 (P:Program) (c:Call) (tm:T Value) (h:Heap) (κ:KQ):Prop:=
 match c.callee with
 | .value (.func f)=>CallW P f (c.args.toList.map (eN tm)) h κ
 | .value x=>eU P (eN tm x) (c.args.toList.map (eN tm)) h κ
 | .invoke r name=>CallI P name (eN tm r) (c.args.toList.map (eN tm)) h κ
 | .builtin _=>False
noncomputable def kF (P:Program) (op:Op) (tm:T Value) (h:Heap) (κ:KQ):Prop:=
 match nI False P op with
 | some i=>U9 i tm h κ
 | none=>match p_ False P op with
  | some i=>aaO i tm fun o mk=>aq False o h fun b h=>κ (mk b) h
  | none=>match zO False P op with
   | some i=>U9 i tm h κ
   | none=>match op with
    | .call c=>A9 P c tm h κ
    | .next it false=>p9 False And (eN tm it) h κ
    | _=>False
def aj (v:Value) (w:Bool):Bool:=match v,w with | .bool true,true=>true | .bool false,false=>true | _,_=>false
def ah (b:Bool) (f:(Value→Heap→Prop)→Prop) (h:Heap) (κ:KQ):Prop:=match b with | true=>f κ | false=>κ undef h
noncomputable abbrev Mb (P:Program) (all os:List Oper):T Value→Heap→(T Value→Heap→Prop)→Prop:=
 List.rec (motive:=fun _=>T Value→Heap→(T Value→Heap→Prop)→Prop) (fun tm h κ=>κ tm h)
  (fun o _ ih tm h κ=>Option.rec (motive:=fun _=>Prop) False
   (fun g=>Option.rec (motive:=fun _=>Prop) (kF P o.op tm h fun v h=>ih (iL tm o.dst v) h κ)
    (fun sw=>ah (aj (di tm sw.1) sw.2) (fun κ'=>kF P o.op tm h κ') h fun v h=>ih (iL tm o.dst v) h κ) g) (guardOf all o)) os
def av (o:Option Value) (h:Heap) (κ:KQ):Prop:=match o with | some v=>κ v h | none=>False
noncomputable def B8 (o:Option (bC × (Nat→Value))) (h:Heap) (κ:KQ):Prop:=match o with | some (b,mk)=>aq False b h fun n h=>κ (mk n) h | none=>False
def bK (b:Bool) (p:Prop):Prop:=match b with | true=>p | false=>False
noncomputable def bP (o:Option Value) (v:Value):Bool:=match o with | some u=>jX 8 u v | none=>false
def reN (o:Option Value):Bool:=match o with | some _=>true | none=>false
def reG (b r:Bool):Bool:=match b with | true=>r | false=>true
noncomputable def QE (x:Tj) (tm:T Value) (h:Heap):Option Value:=
 XI.rec (motive:=fun _=>Option Value) (fun f=>f h fun v _=>some v) (fun x f=>f (eN tm x) h fun v _=>some v) (fun x y f=>f (eN tm x) (eN tm y) h fun v _=>some v)
  (fun x y z f=>f (eN tm x) (eN tm y) (eN tm z) h fun v _=>some v) (fun xs f=>f (xs.map (eN tm)) h fun v _=>some v) x
noncomputable def mkW (x:OXA) (tm:T Value):Option (bC × (Nat→Value)):=
 XA.rec (motive:=fun _=>Option (bC × (Nat→Value))) (fun f=>f fun o mk=>some (o,mk)) (fun x f=>f (eN tm x) fun o mk=>some (o,mk)) (fun x y f=>f (eN tm x) (eN tm y) fun o mk=>some (o,mk)) (fun xs f=>f (xs.map (eN tm)) fun o mk=>some (o,mk)) x
noncomputable def CI (P:Program) (os:List Oper) (D M:Nat) (tm:T Value) (h:Heap):List It→Bool
 | []=>true
 | (k,q)::sL=>match bit D k && !bit M k,gz P q.op with
  | true,.rd x=>(match guardOf os q with
   | some none=>(match q.dst with | some d=>bP (QE x tm h) (di tm d) | none=>reN (QE x tm h))
   | some (some (s,w))=>reG (aj (di tm s) w) (match q.dst with | some d=>bP (QE x tm h) (di tm d) | none=>reN (QE x tm h))
   | none=>false) && CI P os D M tm h sL
  | _,_=>CI P os D M tm h sL
noncomputable def HX (P:Program) (os:List Oper) (D M:Nat) (o:Oper) (tm:T Value) (h:Heap) (κ:KQ):Prop:=
 match gz P o.op with
 | .rd x=>av (QE x tm h) h κ
 | .al x=>B8 (mkW x tm) h κ
 | .wr=>match zT P D M (eO os 0) with
  | false=>kF P o.op tm h κ
  | true=>kF P o.op tm h fun v h=>bK (CI P os D M (iL tm o.dst v) h (eO os 0)) (κ v h)
noncomputable def CJ (P:Program) (os:List Oper):List Nat→Nat→Nat→T Value→Heap→(T Value→Heap→Prop)→Prop
 | [],_,_,tm,h,κ=>κ tm h
 | i::is,D,M,tm,h,κ=>match os[i]? with
  | none=>False
  | some o=>match guardOf os o with
   | none=>False
   | some none=>HX P os D (match fu P o with | true=>Nat.lor M (qa os i) | false=>M) o tm h fun v h=>CJ P os is (eP D i) (match fu P o with | true=>Nat.lor M (qa os i) | false=>M) (iL tm o.dst v) h κ
   | some (some (s,w))=>ah (aj (di tm s) w) (fun κ'=>HX P os D (match fu P o with | true=>Nat.lor M (qa os i) | false=>M) o tm h κ') h fun v h=>CJ P os is (eP D i) (match fu P o with | true=>Nat.lor M (qa os i) | false=>M) (iL tm o.dst v) h κ
noncomputable def QF (P:Program) (os:List Oper) (draw:Bool) (tm:T Value) (h:Heap) (κ:T Value→Heap→Prop):Prop:=
 match draw with
 | false=>Mb P os os tm h κ
 | true=>match AQ P os with
  | some l=>CJ P os l 0 0 tm h κ
  | none=>False
def JS (n:Nat) (l:List Nat):List Nat:=match l.any (Nat.beq n) with | true=>l | false=>n::l
def qE (l:List Oper):List Nat:=l.foldr (fun o r=>match o.dst with | some d=>JS d r | none=>r) []
def HY (l m:List Nat):List Nat:=l.foldr JS m
def qX:Code→List Nat
 | .region _ os _=>qE os.toList
 | .seq a b | .cond _ a b=>HY (qX a) (qX b)
 | .block _ c | .loop c | .scope c=>qX c
 | _=>[]
def HZ (id:Nat):Code→Nat
 | .exit i=>match Nat.beq i id with | true=>1 | false=>0
 | .seq a b | .cond _ a b=>HZ id a+HZ id b
 | .block _ c | .loop c | .scope c=>HZ id c
 | _=>0
def ways:Code→Nat
 | .seq a b=>ways a*ways b
 | .cond _ a b=>ways a+ways b
 | .block id c=>ways c+HZ id c
 | .loop _=>0
 | .scope c=>ways c
 | .exit _ | .ret=>0
 | _=>1
def slot (l:List Value) (i:Nat):Value:=l.getD i undef
noncomputable def Mc:Nat→List Nat→List Value→T Value→T Value
 | _,[],_,tm=>tm
 | i,s::ss,l,tm=>Mc (i+1) ss l (tm.aT s (slot l i))
noncomputable def JT (ss:List Nat) (l:List Value) (tm:T Value):T Value:=Mc 0 ss l tm
abbrev KT:=Ex→T Value→Heap→Prop
abbrev toN (N:List Value→Heap→Prop) (ss:List Nat) (κ:KT):KT:=fun e tm h=>Ex.rec (motive:=fun _=>Prop) (N (ss.map (di tm)) h) (fun i=>κ (.exit i) tm h) (κ .ret tm h) e
def cT (A:(List Value→Heap→Prop)→Prop) (B:List Value→Heap→Prop):Prop:=
 ∃J:List Value→Heap→Prop,A J∧∀l h,J l h→B l h
def dw (l0:List Value) (h0:Heap) (body:List Value→Heap→(List Value→Heap→Prop)→Prop):Prop:=
 ∃I:Nat→List Value→Heap→Prop,(∃n,I n l0 h0)∧∀n l h,I n l h→body l h fun l' h'=>∃m,m<n∧I m l' h'
def aG (v:Value) (A B:Prop):Prop:=match v with | .bool true=>A | .bool false=>B | _=>False
abbrev aff (B:T Value→Heap→KT→Prop) (κ:KT):KT:=fun e tm h=>Ex.rec (motive:=fun _=>Prop) (B tm h κ) (fun i=>κ (.exit i) tm h) (κ .ret tm h) e
abbrev U_ (id:Nat) (κ:KT):KT:=fun e tm h=>Ex.rec (motive:=fun _=>Prop) (κ .normal tm h) (fun i=>Bool.rec (motive:=fun _=>Prop) (κ (.exit i) tm h) (κ .normal tm h) (Nat.beq i id)) (κ .ret tm h) e
noncomputable def WP (P:Program):Code→T Value→Heap→KT→Prop
 | .skip,tm,h,κ=>κ .normal tm h
 | .label _,tm,h,κ=>κ .normal tm h
 | .region _ os draw,tm,h,κ=>QF P os.toList draw tm h fun tm h=>κ .normal tm h
 | .seq a b,tm,h,κ=>match Nat.ble (ways a) 1 with
  | true=>WP P a tm h (aff (WP P b) κ)
  | false=>cT (fun N=>WP P a tm h (toN N (qX a) κ)) fun l h=>WP P b (JT (qX a) l tm) h κ
 | .cond c a b,tm,h,κ=>aG (eN tm c) (WP P a tm h κ) (WP P b tm h κ)
 | .block id c,tm,h,κ=>WP P c tm h (U_ id κ)
 | .scope c,tm,h,κ=>WP P c tm h κ
 | .loop c,tm,h,κ=>dw ((qX c).map (di tm)) h fun l h N=>WP P c (JT (qX c) l tm) h (toN N (qX c) κ)
 | .exit id,tm,h,κ=>κ (.exit id) tm h
 | .ret,tm,h,κ=>κ .ret tm h
 | _,_,_,_=>False
abbrev JU (h:Heap) (tm:T Value):List zc→(List Value→Prop)→Prop:=
 List.rec (motive:=fun _=>(List Value→Prop)→Prop) (fun κ=>κ [])
  (fun r _ ih κ=>zc.rec (motive:=fun _=>Prop) (fun t=>ih fun vs=>κ (di tm t::vs)) (fun a=>load1 False (di tm a) h fun v _=>ih fun vs=>κ (v::vs))
   (fun a s=>ay False s (di tm a) h fun v _=>ih fun vs=>κ (v::vs)) False r)
abbrev QG (κ:KQ) (h:Heap) (vs:List Value):Prop:=
 List.rec (motive:=fun _=>Prop) (κ (.tuple #[]) h) (fun v vs' _=>List.rec (motive:=fun _=>Prop) (κ v h) (fun _ _ _=>κ (.tuple ⟨vs⟩) h) vs') vs
abbrev afg (rs:List zc) (κ:KQ):KT:=fun e tm h=>Ex.rec (motive:=fun _=>Prop) (JU h tm rs fun vs=>QG κ h vs) (fun _=>False) (JU h tm rs fun vs=>QG κ h vs) e
noncomputable def aK (P:Program) (f:FuncId) (args:List Value) (h:Heap) (κ:KQ):Prop:=
 match vU P f with
 | .none=>False
 | .mk c rs nt=>match Nat.ble args.length nt with
  | true=>WP P c (lay args .nil 0) h (afg rs κ)
  | false=>False
variable {P:Program}
theorem H6 (i:XI Prop) (tm:T Value) (h:Heap) (κ:KQ):i.run tm h κ=U9 i tm h κ:=by
 cases i with
 | k0 f=>rfl
 | k1 x f=>exact XI.bZ ..
 | k2 x y f=>exact XI.cU ..
 | k3 x y z f=>exact XI.qt ..
 | kn xs f=>exact XI.gJ ..
theorem QH (i:XA Prop) (tm:T Value) (κ:bC→(Nat→Value)→Prop):i.run tm κ=aaO i tm κ:=by
 cases i with
 | k0 f=>rfl
 | k1 x f=>exact XA.bZ ..
 | k2 x y f=>exact XA.cU ..
 | kn xs f=>exact XA.gJ ..
theorem Md (x:Tj) (tm:T Value) (h:Heap):jL x tm h=QE x tm h:=by
 unfold jL
 cases x with
 | k0 f=>rfl
 | k1 x f=>exact XI.bZ ..
 | k2 x y f=>exact XI.cU ..
 | k3 x y z f=>exact XI.qt ..
 | kn xs f=>exact XI.gJ ..
theorem Va (x:OXA) (tm:T Value):vY x tm=mkW x tm:=by
 unfold vY
 cases x with
 | k0 f=>rfl
 | k1 x f=>exact XA.bZ ..
 | k2 x y f=>exact XA.cU ..
 | kn xs f=>exact XA.gJ ..
theorem Gc (c:Call) (tm:T Value) (h:Heap) (κ:KQ):mz False (B7 P) P c iG tm h κ=A9 P c tm h κ:=by
 unfold mz A9
 cases c.callee with
 | value x=>cases x<;>(simp only[qs,fJ]; rfl)
 | invoke r name=>simp only[qs,fJ]; rfl
 | builtin b=>rfl
theorem A_ (op:Op) (tm:T Value) (h:Heap) (κ:KQ):oc False (B7 P) P op iG tm h κ=kF P op tm h κ:=by
 unfold oc kF
 cases hR:nI False P op with
 | some i=>exact H6 ..
 | none=>
  cases hA:p_ False P op with
  | some i=>exact QH ..
  | none=>
   cases hW:zO False P op with
   | some i=>exact H6 ..
   | none=>
    cases op<;>try rfl
    case call c=>exact Gc ..
    case next it s=>cases s<;>first | rfl | (simp only[fJ]; rfl)
theorem qF (tm:T Value) (s:Nat) (w:Bool):ij tm (some (s,w))=aj (di tm s) w:=rfl
theorem Vb (f:(Value→Heap→Prop)→Prop) (tm:T Value) (h:Heap) (s:Nat) (w:Bool) (d:Option Nat) (k:T Value→Heap→Prop) :
  ah (aj (di tm s) w) f h (fun v h=>k (iL tm d v) h)=Bool.rec (motive:=fun _=>Prop) (nS tm d undef h k) (f fun v h=>nS tm d v h k) (ij tm (some (s,w))):=by
 rw[qF]
 cases aj (di tm s) w with
 | true=>show f _=f _; simp only[fL]
 | false=>show k _ h=nS tm d undef h k; rw[fL]
theorem QI (all:List Oper):∀(os:List Oper) (tm:T Value) (h:Heap) (κ:T Value→Heap→Prop),Mb P all os tm h κ=nh False (B7 P) P iG all os tm h κ:=by
 intro os
 induction os with
 | nil=>intro tm h κ; rfl
 | cons o os ih=>
  intro tm h κ
  have ih':(fun tm h=>Mb P all os tm h κ)=fun tm h=>nh False (B7 P) P iG all os tm h κ:=by funext tm h; exact ih tm h κ
  show Option.rec (motive:=fun _=>Prop) False (fun g=>Option.rec (motive:=fun _=>Prop) (kF P o.op tm h fun v h=>(fun tm h=>Mb P all os tm h κ) (iL tm o.dst v) h)
    (fun sw=>ah (aj (di tm sw.1) sw.2) (fun κ'=>kF P o.op tm h κ') h fun v h=>(fun tm h=>Mb P all os tm h κ) (iL tm o.dst v) h) g) (guardOf all o)=XO.rec (motive:=fun _=>Prop)
   (fun g d f=>Bool.rec (motive:=fun _=>Prop) (nS tm d undef h fun tm h=>nh False (B7 P) P iG all os tm h κ)
    (f iG tm h fun v h=>nS tm d v h fun tm h=>nh False (B7 P) P iG all os tm h κ) (ij tm g)) (zQ False (B7 P) P all o)
  rw[ih']
  unfold zQ
  cases guardOf all o with
  | none=>rfl
  | some g=>
   cases g with
   | none=>
    show kF P o.op tm h _=oc False (B7 P) P o.op iG tm h fun v h=>nS tm o.dst v h _
    simp only[fL]; rw[A_]
   | some sw=>
    obtain ⟨s,w⟩:=sw
    show ah (aj (di tm s) w) (fun κ'=>kF P o.op tm h κ') h _=Bool.rec (motive:=fun _=>Prop) _ (oc False (B7 P) P o.op iG tm h _) _
    refine (Vb (fun κ'=>kF P o.op tm h κ') tm h s w o.dst fun tm h=>nh False (B7 P) P iG all os tm h κ).trans ?_
    simp only[A_]
theorem Me (os:List Oper) (D M:Nat) (tm:T Value) (h:Heap):∀sL:List It,CI P os D M tm h sL=ua P os D M tm h sL:=by
 intro sL
 induction sL with
 | nil=>rfl
 | cons it sL ih=>
  obtain ⟨k,q⟩:=it
  unfold CI ua
  cases bit D k && !bit M k with
  | false=>exact ih
  | true=>
   cases gz P q.op with
   | rd x=>
    simp only[ih,Md]
    congr 1
    cases guardOf os q with
    | none=>rfl
    | some g=>
     cases g with
     | none=>
      cases QE x tm h<;>cases q.dst<;>rfl
     | some sw=>
      obtain ⟨s,w⟩:=sw
      simp only[qF]
      cases aj (di tm s) w
      ·rfl
      ·cases QE x tm h<;>cases q.dst<;>rfl
   | al x=>exact ih
   | wr=>exact ih
theorem Gd (os:List Oper) (D M:Nat) (o:Oper) (tm:T Value) (h:Heap) (k:T Value→Heap→Prop) :
  HX P os D M o tm h (fun v h=>k (iL tm o.dst v) h)=(match gz P o.op with
   | .rd x=>match jL x tm h with
    | some v=>nS tm o.dst v h k
    | none=>False
   | .al x=>match vY x tm with
    | some (b,mk)=>aq False b h fun n h=>nS tm o.dst (mk n) h k
    | none=>False
   | .wr=>oc False (B7 P) P o.op iG tm h fun v h=>nS tm o.dst v h fun tm h=>
     match zT P D M (eO os 0) with
     | false=>k tm h
     | true=>match ua P os D M tm h (eO os 0) with
      | true=>k tm h
      | false=>False):=by
 unfold HX
 cases gz P o.op with
 | rd x=>
  simp only[Md,fL]
  cases QE x tm h<;>rfl
 | al x=>
  simp only[Va,fL]
  cases mkW x tm<;>rfl
 | wr=>
  simp only[fL,A_]
  cases zT P D M (eO os 0) with
  | false=>rfl
  | true=>simp only[Me]; rfl
theorem Mf (os:List Oper):∀(l:List Nat) (D M:Nat) (tm:T Value) (h:Heap) (κ:T Value→Heap→Prop),CJ P os l D M tm h κ=iC False (B7 P) P iG os l D M tm h κ:=by
 intro l
 induction l with
 | nil=>intro D M tm h κ; rfl
 | cons i is ih=>
  intro D M tm h κ
  unfold CJ iC
  cases os[i]? with
  | none=>rfl
  | some o=>
   simp only[ih]
   cases hg:guardOf os o with
   | none=>simp only[jh,hg]
   | some g=>
    have hk:=fun M'=>Gd (P:=P) os D M' o tm h fun tm h=>iC False (B7 P) P iG os is (eP D i) M' tm h κ
    cases g with
    | none=>
     refine (hk _).trans ?_
     simp only[jh,hg]; rfl
    | some sw=>
     obtain ⟨s,w⟩:=sw
     simp only[jh,hg,qF]
     cases aj (di tm s) w with
     | true=>exact hk _
     | false=>simp only[fL]; rfl
theorem QJ (os:List Oper) (draw:Bool) (tm:T Value) (h:Heap) (κ:T Value→Heap→Prop):QF P os draw tm h κ=jY False (B7 P) P iG os draw tm h κ:=by
 cases draw with
 | false=>exact QI os os tm h κ
 | true=>
  unfold QF jY
  cases AQ P os with
  | none=>rfl
  | some l=>exact Mf os l 0 0 tm h κ
end Go.Vai

namespace Go.Vai
open Go
variable {P:Program} {φ:dG} {h:Heap} {w:World}
abbrev ok (p:Prop):Prop:=p
theorem rH:¬ok False:=id
theorem Mg:fN ok (B7 P) P:=
 ⟨fun _ _ h=>h,fun f g hg args args' h φ w κ ha hr hgd=>by cases hg; exact hgd φ w args' ha hr⟩
theorem CL:kz ok P iG:=by
 intro c r tm h κ φ w nt a _ _ _ _ hg
 exact False.elim hg
def Ge (ss:List Nat) (nt:Nat) (tm cC:T Value):Prop:=∀t,t<nt→t∉ss→di cC t=di tm t
def qi (P:Program) (nt:Nat) (φ:dG) (h:Heap) (w:World) (ds:List Deferred) (κ:KT) (ss:List Nat) (tm:T Value) (e:Exit) (a':Act) (w':World):Prop:=
 ∃x cC h' φ',e=LZ x∧κ x cC h'∧TR φ' nt cC a'∧HR P φ' h' w'∧Ext φ φ' h h' w w'∧a'.defers=ds∧Ge ss nt tm cC
theorem qi.after {nt:Nat} {φ1:dG} {h1:Heap} {w1:World} {ds ds1:List Deferred} {κ:KT} {ss ss1 ss2:List Nat} {tm tm1 aaP:T Value} {e:Exit} {a2:Act} {w2:World} (hx:Ext φ φ1 h h1 w w1)
  (hd:ds1=ds) (hk:Ge ss1 nt tm tm1) (hk':∀t,t<nt→di aaP t=di tm1 t) (hs:∀t,t∉ss→t∉ss1∧t∉ss2) (hp:qi P nt φ1 h1 w1 ds1 κ ss2 aaP e a2 w2):qi P nt φ h w ds κ ss tm e a2 w2:=by
 obtain ⟨x,ZJ,h2,φ2,rfl,k1,k2,k3,k4,k5,k6⟩:=hp
 exact ⟨x,ZJ,h2,φ2,rfl,k1,k2,k3,hx.trans k4,k5.trans hd,fun t ht hn=>(k6 t ht (hs t hn).2).trans ((hk' t ht).trans (hk t ht (hs t hn).1))⟩
theorem CM {n t:Nat} {l:List Nat}:t∈JS n l↔t=n∨t∈l:=by
 unfold JS
 split
 ·rename_i h
  obtain ⟨x,hx,he⟩:=List.any_eq_true.mp h
  have:=bY he
  subst this
  constructor
  ·exact .inr
  ·rintro (rfl | h')<;>assumption
 ·simp
theorem pn {t:Nat} {l m:List Nat}:t∈HY l m↔t∈l∨t∈m:=by
 induction l with
 | nil=>simp[HY]
 | cons a l ih=>
  show t∈JS a (HY l m)↔_
  rw[CM,ih]; simp[or_assoc]
theorem wO {t:Nat}:∀{l:List Oper},t∈qE l↔∃o∈l,o.dst=some t:=by
 intro l
 induction l with
 | nil=>simp[qE]
 | cons o l ih=>
  have:qE (o::l)=match o.dst with | some d=>JS d (qE l) | none=>qE l:=rfl
  rw[this]
  cases hd:o.dst with
  | none=>simp only[ih]; constructor
          ·rintro ⟨q,hq,e⟩; exact ⟨q,.tail _ hq,e⟩
          ·rintro ⟨q,hq,e⟩
           cases hq with
           | head=>rw[hd] at e; cases e
           | tail _ hq=>exact ⟨q,hq,e⟩
  | some d=>
   simp only[CM,ih]
   constructor
   ·rintro (rfl | ⟨q,hq,e⟩)
    ·exact ⟨o,.head _,hd⟩
    ·exact ⟨q,.tail _ hq,e⟩
   ·rintro ⟨q,hq,e⟩
    cases hq with
    | head=>rw[hd] at e; cases e; exact .inl rfl
    | tail _ hq=>exact .inr ⟨q,hq,e⟩
theorem Mh {nt:Nat}:∀(ss:List Nat) (pre:List Value) (f:Nat→Value) (tm:T Value) (t:Nat),(∀s∈ss,s<nt)→t<nt→di (Mc pre.length ss (pre++ss.map f) tm) t=if t∈ss then f t else di tm t:=by
 intro ss
 induction ss with
 | nil=>intro pre f tm t _ _; simp[Mc]
 | cons s ss ih=>
  intro pre f tm t hs ht
  simp only[List.map_cons,Mc]
  have hsl:slot (pre++f s::ss.map f) pre.length=f s:=by simp[slot]
  rw[hsl]
  have hih:=ih (pre++[f s]) f (tm.aT s (f s)) t (fun s hs'=>hs s (.tail _ hs')) ht
  simp only[List.length_append,List.length_cons,List.length_nil,List.append_assoc,List.cons_append,List.nil_append,Nat.zero_add] at hih
  rw[hih]
  by_cases h1:t∈ss
  ·rw[if_pos h1,if_pos (.tail _ h1)]
  ·rw[if_neg h1]
   have h2:di (tm.aT s (f s)) t=if s=t then f s else di tm t:=by
    simp only[di]
    rw[T.kZ _ _ (Nat.lt_succ_self _) (Nat.lt_succ_self _)]
    by_cases hst:s=t
    ·rw[if_pos hst,if_pos hst]
    ·rw[if_neg hst,if_neg hst]
   rw[h2]
   by_cases h3:s=t
   ·subst h3; rw[if_pos rfl,if_pos (.head _)]
   ·rw[if_neg h3,if_neg (by simp[h1,Ne.symm h3])]
theorem Mi {nt:Nat} (ss:List Nat) (f:Nat→Value) (tm:T Value) (t:Nat) (hs:∀s∈ss,s<nt) (ht:t<nt):di (JT ss (ss.map f) tm) t=if t∈ss then f t else di tm t:=
 Mh ss [] f tm t hs ht
theorem s_ {nt:Nat} {ss:List Nat} {tm cC:T Value} (hs:∀s∈ss,s<nt) (hk:Ge ss nt tm cC):∀t,t<nt→di (JT ss (ss.map (di cC)) tm) t=di cC t:=by
 intro t ht
 rw[Mi ss _ _ t hs ht]
 split
 ·rfl
 ·rename_i h; exact (hk t ht h).symm
theorem TR.Tw {nt:Nat} {ss:List Nat} {tm cC:T Value} {a:Act} (hs:∀s∈ss,s<nt) (hk:Ge ss nt tm cC) (ht:TR φ nt cC a):TR φ nt (JT ss (ss.map (di cC)) tm) a:=
 ⟨ht.size,ht.small,fun t hlt=>by rw[s_ hs hk t hlt]; exact ht.rel t hlt⟩
theorem Mj {nt:Nat}:∀{c:Code},codeOk nt c=true→∀s∈qX c,s<nt:=by
 intro c
 induction c with
 | region id os d=>
  intro hc s hs
  simp only[codeOk,List.all_eq_true] at hc
  obtain ⟨o,ho,he⟩:=wO.mp hs
  have:=dg (hc o ho)
  rw[he] at this
  exact de this
 | seq a b iha ihb=>
  intro hc s hs
  simp only[codeOk,Bool.and_eq_true] at hc
  rcases pn.mp hs with h | h
  ·exact iha hc.1 s h
  ·exact ihb hc.2 s h
 | cond x a b iha ihb=>
  intro hc s hs
  simp only[codeOk,Bool.and_eq_true] at hc
  rcases pn.mp hs with h | h
  ·exact iha hc.1.2 s h
  ·exact ihb hc.2 s h
 | block id c ih=>intro hc s hs; exact ih hc s hs
 | loop c ih=>intro hc s hs; exact ih hc s hs
 | scope c ih=>intro hc s hs; exact ih hc s hs
 | _=>intro _ s hs; simp[qX] at hs
theorem Gf {os:Array Oper} {t:Nat} (h:t∉qE os.toList):∀(i:Nat) (o:Oper),os[i]? = some o→o.dst≠some t:=by
 intro i o ho hd
 exact h (wO.mpr ⟨o,List.mem_of_getElem? (by rw[Array.getElem?_toList]; exact ho),hd⟩)
theorem Gg {c:Code} {r:Option Nat} {nt:Nat} {κ:KT} {jR:T Value} (hn:r=none∨n_ c=true) (hc:codeOk nt c=true)
  (ih:∀(tm:T Value) (h:Heap) (κ:KT) (φ:dG) (w:World) (a:Act),TR φ nt tm a→HR P φ h w→WP P c tm h κ→c.wpIn (FR r) 0 P (qi P nt φ h w a.defers κ (qX c) tm) a w)
  (I:Nat→List Value→Heap→Prop) (hI:∀n l h,I n l h→WP P c (JT (qX c) l jR) h (toN (fun l' h'=>∃m,m<n∧I m l' h') (qX c) κ)) :
  ∀(n:Nat) (tm:T Value) (h:Heap) (φ:dG) (w:World) (a:Act),Ge (qX c) nt jR tm→TR φ nt tm a→HR P φ h w→I n ((qX c).map (di tm)) h→jE r P c (qi P nt φ h w a.defers κ (qX c) tm) a w:=by
 intro n
 induction n using Nat.strongRecOn with
 | ind n ihn=>
  intro tm h φ w a hk ht hr hi
  have hs:=Mj hc
  refine jE.round (wpIn_mono (ih _ h _ φ w a (ht.Tw hs hk) hr (hI n _ h hi)) ?_)
  rintro e a' w' ⟨x,cC,h',φ',rfl,g1,g2,g3,g4,g5,g6⟩
  have hkeep:Ge (qX c) nt tm cC:=fun t htn hnt=>(g6 t htn hnt).trans (s_ hs hk t htn)
  cases x with
  | normal=>
   obtain ⟨m,hm,hi'⟩:=g1
   have hk2:Ge (qX c) nt jR cC:=fun t htn hnt=>(hkeep t htn hnt).trans (hk t htn hnt)
   exact (ihn m hm cC h' φ' w' a' hk2 g2 g3 hi').mono fun e a2 w2 hp=>qi.after g4 g5 hkeep (fun _ _=>rfl) (fun t ht=>⟨ht,ht⟩) hp
  | exit i=>exact ⟨.exit i,cC,h',φ',rfl,g1,g2,g3,g4,g5,hkeep⟩
  | ret=>exact ⟨.ret,cC,h',φ',rfl,g1,g2,g3,g4,g5,hkeep⟩
theorem Mk (hm:P.follows .mixedOrders=true):∀(c:Code) (r:Option Nat) (nt:Nat),(r=none∨n_ c=true)→codeOk nt c=true→∀(tm:T Value) (h:Heap) (κ:KT) (φ:dG) (w:World) (a:Act),
  TR φ nt tm a→HR P φ h w→WP P c tm h κ→c.wpIn (FR r) 0 P (qi P nt φ h w a.defers κ (qX c) tm) a w:=by
 intro c
 induction c with
 | skip=>intro r nt hn hc tm h κ φ w a ht hr hg; exact wpIn_skip ⟨.normal,tm,h,φ,rfl,hg,ht,hr,Ext.refl _ _ _,rfl,fun _ _ _=>rfl⟩
 | label l=>intro r nt hn hc tm h κ φ w a ht hr hg; exact wpIn_label ⟨.normal,tm,h,φ,rfl,hg,ht,hr,Ext.refl _ _ _,rfl,fun _ _ _=>rfl⟩
 | ret=>intro r nt hn hc tm h κ φ w a ht hr hg; exact wpIn_ret ⟨.ret,tm,h,φ,rfl,hg,ht,hr,Ext.refl _ _ _,rfl,fun _ _ _=>rfl⟩
 | exit id=>intro r nt hn hc tm h κ φ w a ht hr hg; exact wpIn_exit ⟨.exit id,tm,h,φ,rfl,hg,ht,hr,Ext.refl _ _ _,rfl,fun _ _ _=>rfl⟩
 | region id os draw=>
  intro r nt hn hc tm h κ φ w a ht hr hg
  have hok:∀q∈os.toList,ew nt q=true:=by
   simp only[codeOk,List.all_eq_true] at hc; exact hc
  have hg':ok (jY False (B7 P) P iG os.toList draw tm h fun tm h=>κ .normal tm h):=by
   have:QF P os.toList draw tm h (fun tm h=>κ .normal tm h):=hg
   rwa [QJ] at this
  have hQ:∀cC h' φ' a' w',ok ((fun tm h=>κ .normal tm h) cC h')→TR φ' nt cC a'→HR P φ' h' w'→Ext φ φ' h h' w w'→a'.defers=a.defers→
    (∀t,t<nt→(∀(i:Nat) (o:Oper),os[i]? = some o→o.dst≠some t)→di cC t=di tm t)→qi P nt φ h w a.defers κ (qX (.region id os draw)) tm .normal a' w':=
   fun cC h' φ' a' w' g1 g2 g3 g4 g5 g6=>⟨.normal,cC,h',φ',rfl,g1,g2,g3,g4,g5,fun t ht hnt=>g6 t ht (Gf hnt)⟩
  cases draw with
  | false=>
   refine wpIn_region ?_
   rw[List.range_eq_range']
   have:=rE (r0:=r) (jR:=tm) rH Mg CL hok hQ os.toList 0 φ tm h a w (fun k=>by simp) ht hr (Ext.refl _ _ _) rfl (fun _ _ _=>rfl) hg'
   simpa using this
  | true=>exact qD (good:=ok) rH Mg hm iG CL os id nt hok φ tm h a w _ ht hr hg' r _ hQ
 | seq x y ihx ihy=>
  intro r nt hn hc tm h κ φ w a ht hr hg
  simp only[codeOk,Bool.and_eq_true] at hc
  obtain ⟨uT,hn2⟩:=vw (x:=x) (y:=y) hn rfl
  have hmem:∀t,t∉qX (.seq x y)→t∉qX x∧t∉qX y:=fun t ht=>by
   have:¬(t∈qX x∨t∈qX y):=fun hh=>ht (pn.mpr hh)
   exact not_or.mp this
  unfold WP at hg
  split at hg
  ·refine wpIn_seq (wpIn_mono (ihx r nt uT hc.1 tm h _ φ w a ht hr hg) ?_)
   rintro e a' w' ⟨e0,cC,h',φ',rfl,g1,g2,g3,g4,g5,g6⟩
   cases e0 with
   | normal=>exact wpIn_mono (ihy r nt hn2 hc.2 cC h' κ φ' w' a' g2 g3 g1) fun e a2 w2 hp=>qi.after g4 g5 g6 (fun _ _=>rfl) hmem hp
   | exit i=>exact ⟨.exit i,cC,h',φ',rfl,g1,g2,g3,g4,g5,fun t ht hnt=>g6 t ht (hmem t hnt).1⟩
   | ret=>exact ⟨.ret,cC,h',φ',rfl,g1,g2,g3,g4,g5,fun t ht hnt=>g6 t ht (hmem t hnt).1⟩
  ·obtain ⟨J,hA,hB⟩:=hg
   refine wpIn_seq (wpIn_mono (ihx r nt uT hc.1 tm h _ φ w a ht hr hA) ?_)
   rintro e a' w' ⟨e0,cC,h',φ',rfl,g1,g2,g3,g4,g5,g6⟩
   have hs:=Mj hc.1
   cases e0 with
   | normal=>exact wpIn_mono (ihy r nt hn2 hc.2 _ h' κ φ' w' a' (g2.Tw hs g6) g3 (hB _ _ g1)) fun e a2 w2 hp=>qi.after g4 g5 g6 (s_ hs g6) hmem hp
   | exit i=>exact ⟨.exit i,cC,h',φ',rfl,g1,g2,g3,g4,g5,fun t ht hnt=>g6 t ht (hmem t hnt).1⟩
   | ret=>exact ⟨.ret,cC,h',φ',rfl,g1,g2,g3,g4,g5,fun t ht hnt=>g6 t ht (hmem t hnt).1⟩
 | cond x c1 c2 ih1 ih2=>
  intro r nt hn hc tm h κ φ w a ht hr hg
  simp only[codeOk,Bool.and_eq_true] at hc
  obtain ⟨uT,hn2⟩:=vw (x:=c1) (y:=c2) hn rfl
  have hmem:∀t,t∉qX (.cond x c1 c2)→t∉qX c1∧t∉qX c2:=fun t ht=>by
   have:¬(t∈qX c1∨t∈qX c2):=fun hh=>ht (pn.mpr hh)
   exact not_or.mp this
  have hg':aG (eN tm x) (WP P c1 tm h κ) (WP P c2 tm h κ):=hg
  have hx:=ht.eval hc.1.1
  unfold aG at hg'
  split at hg'<;>try exact hg'.elim
  ·rename_i hv
   rw[hv] at hx
   refine wpIn_cond_true (by generalize a.eval x=z at hx; cases hx; rfl) (wpIn_mono (ih1 r nt uT hc.1.2 tm h κ φ w a ht hr hg') ?_)
   rintro e a' w' ⟨e0,cC,h',φ',rfl,g1,g2,g3,g4,g5,g6⟩
   exact ⟨e0,cC,h',φ',rfl,g1,g2,g3,g4,g5,fun t ht hnt=>g6 t ht (hmem t hnt).1⟩
  ·rename_i hv
   rw[hv] at hx
   refine wpIn_cond_false (by generalize a.eval x=z at hx; cases hx; rfl) (wpIn_mono (ih2 r nt hn2 hc.2 tm h κ φ w a ht hr hg') ?_)
   rintro e a' w' ⟨e0,cC,h',φ',rfl,g1,g2,g3,g4,g5,g6⟩
   exact ⟨e0,cC,h',φ',rfl,g1,g2,g3,g4,g5,fun t ht hnt=>g6 t ht (hmem t hnt).2⟩
 | block id c ih=>
  intro r nt hn hc tm h κ φ w a ht hr hg
  refine wpIn_block (wpIn_mono (ih r nt hn hc tm h _ φ w a ht hr hg) ?_)
  rintro e a' w' ⟨e0,cC,h',φ',rfl,g1,g2,g3,g4,g5,g6⟩
  cases e0 with
  | normal=>exact ⟨.normal,cC,h',φ',rfl,g1,g2,g3,g4,g5,g6⟩
  | ret=>exact ⟨.ret,cC,h',φ',rfl,g1,g2,g3,g4,g5,g6⟩
  | exit i=>
   have PY:Bool.rec (motive:=fun _=>Prop) (κ (.exit i) cC h') (κ .normal cC h') (Nat.beq i id):=g1
   simp only[LZ,Exit.inBlock]
   cases hb:Nat.beq i id with
   | true=>
    rw[hb] at PY
    rw[if_pos (bY hb)]
    exact ⟨.normal,cC,h',φ',rfl,PY,g2,g3,g4,g5,g6⟩
   | false=>
    rw[hb] at PY
    rw[if_neg (mA hb)]
    exact ⟨.exit i,cC,h',φ',rfl,PY,g2,g3,g4,g5,g6⟩
 | scope c ih=>
  intro r nt hn hc tm h κ φ w a ht hr hg
  refine wG (ih r nt hn hc tm h κ φ w a ht hr hg) ?_
  rintro l a' w' ⟨x,cC,h',φ',hx,_⟩
  cases x<;>cases hx
 | loop c ih=>
  intro r nt hn hc tm h κ φ w a ht hr hg
  obtain ⟨I,⟨n,h0⟩,hI⟩:=hg
  exact (Gg (c:=c) (κ:=κ) (jR:=tm) hn hc (fun tm h κ φ w a=>ih r nt hn hc tm h κ φ w a) I hI n tm h φ w a (fun _ _ _=>rfl) ht hr h0).wp
 | _=>intro r nt hn hc tm h κ φ w a ht hr hg; exact False.elim hg
theorem QK (h:Heap) (tm:T Value):∀(rs:List zc) (κ:List Value→Prop),JU h tm rs κ=dB False h tm rs κ:=by
 intro rs
 induction rs with
 | nil=>intro κ; rfl
 | cons r rs ih=>
  intro κ
  cases r with
  | tmp t=>simp only[dB,fJ]; exact ih _
  | one a=>simp only[dB,fJ]; show load1 False (di tm a) h (fun v _=>JU h tm rs fun vs=>κ (v::vs))=_; simp only[ih]; rfl
  | agg a s=>simp only[dB,fJ]; show ay False s (di tm a) h (fun v _=>JU h tm rs fun vs=>κ (v::vs))=_; simp only[ih]; rfl
  | bad=>rfl
theorem QL (κ:KQ) (h:Heap) (vs:List Value):QG κ h vs=LB κ h vs:=by
 cases vs with
 | nil=>rfl
 | cons v vs=>cases vs<;>rfl
theorem an (hm:P.follows .mixedOrders=true) {f:FuncId} {args:List Value} {h:Heap} {κ:Value→Heap→Prop} (hg:aK P f args h κ):CallW P f args h κ:=by
 intro φ w args' ha hr
 unfold aK at hg
 split at hg
 ·exact hg.elim
 ·rename_i c rs nt hc
  obtain ⟨fn,hf,hb,rfl,rfl,B2,hrk,hnt,wD⟩:=rC hc
  split at hg<;>try exact hg.elim
  rename_i hle
  refine ⟨wD _ _,?_⟩
  have hst:=TR.start (nt:=fn.ntmps) ha hnt (ck hle)
  refine vv (r:=none) (n:=0) |>.1 (callsIn_of_wp_marks hf hb trivial (wpIn_mono (Mk hm c none _ (.inl rfl) B2 _ h _ φ w _ hst hr hg) ?_))
  rintro e a' w' ⟨x,cC,h',φ',rfl,g1,g2,g3,g4,g5,_⟩
  have P4:a'.defers=[]:=g5
  have fin:JU h' cC (fn.results.toList.map (t_ P)) (fun vs=>QG κ h' vs)→
    LeavesInM (FR none) 0 P fn a'.tmps (fun e w'=>∃φ' v v' h',e=.returned v'∧ok (κ v h')∧VR φ' v v'∧HR P φ' h' w'∧Ext φ φ' h h' w w') a'.defers .returning w':=by
   intro k
   rw[QK] at k
   simp only[QL] at k
   rw[P4]
   refine ow (a:=a') (φ':=φ') (h':=h') ?_ [] w'.heap.size w' trivial g3 g4
   intro w2 HU hx2
   obtain ⟨vs,vs',k1,k2,k3⟩:=ou (good:=ok) rH HU g2 _ hrk k
   refine ⟨_,rB k3,?_⟩
   cases k2 with
   | nil=>exact ⟨φ',_,_,h',rfl,k1,VR.tuple' .nil,HU,hx2⟩
   | cons hv hvs=>
    cases hvs with
    | nil=>exact ⟨φ',_,_,h',rfl,k1,hv,HU,hx2⟩
    | cons Qs hvs=>exact ⟨φ',_,_,h',rfl,k1,VR.tuple' (.cons hv (.cons Qs hvs)),HU,hx2⟩
  cases x with
  | normal=>exact fin g1
  | exit i=>exact False.elim g1
  | ret=>exact fin g1
theorem CallW.mono {f:FuncId} {args:List Value} {κ κ':Value→Heap→Prop} (hc:CallW P f args h κ) (hk:∀v h',κ v h'→κ' v h'):CallW P f args h κ':=by
 intro φ w args' ha hr
 obtain ⟨h1,h2⟩:=hc φ w args' ha hr
 refine ⟨h1,h2.mono ?_⟩
 rintro e w' ⟨φ',v,v',h',rfl,g1,g2,g3,g4⟩
 exact ⟨φ',v,v',h',rfl,hk _ _ g1,g2,g3,g4⟩
end Go.Vai

namespace Go.Vai
open Go
variable {β:Type} {fl:β}
theorem T.JV {α:Type} (a a':α) (p:List Bool):∀t:T α,T.ni a' p (T.ni a p t)=T.ni a' p t:=by
 induction p with
 | nil=>intro t; cases t<;>rfl
 | cons b p ih=>intro t; cases t<;>cases b<;>simp only[T.ni]<;>rw[ih]
theorem T.JW {α:Type} (a b:α):∀(p q:List Bool) (t:T α),p≠q→T.ni a p (T.ni b q t)=T.ni b q (T.ni a p t):=by
 intro p
 induction p with
 | nil=>
  intro q t hpq
  cases q with
  | nil=>exact absurd rfl hpq
  | cons c q=>cases t<;>cases c<;>rfl
 | cons x p ih=>
  intro q t hpq
  cases q with
  | nil=>cases t<;>cases x<;>rfl
  | cons c q=>
   have h:x=c→p≠q:=fun e e'=>hpq (by rw[e,e'])
   cases x<;>cases c<;>cases t<;>simp only[T.ni]<;>first | rfl | rw[ih _ _ (h rfl)]
theorem Gh {a b:Nat} (h:a≠b):key a≠key b:=fun e=>h (key_inj (Nat.lt_succ_self _) (Nat.lt_succ_self _) e)
theorem T.wP {α:Type} (t:T α) (n:Nat) (a a':α):(t.aT n a).aT n a'=t.aT n a':=T.JV a a' (key n) t
theorem T.CN {α:Type} (t:T α) {n m:Nat} (a b:α) (h:n≠m):(t.aT n a).aT m b=(t.aT m b).aT n a:=(T.JW a b (key n) (key m) t (Gh h)).symm
theorem T.ai {α:Type} (t:T α) {n m:Nat} (a:α) (h:n≠m):(t.aT n a).get m=t.get m:=T.fS t a (Nat.lt_succ_self _) (Nat.lt_succ_self _) h
theorem Gi (vs:List Value):∀(t:T Value) (off n:Nat) (a:Value),n<off→lay vs (t.aT n a) off=(lay vs t off).aT n a:=by
 induction vs with
 | nil=>intro t off n a _; rfl
 | cons v vs ih=>
  intro t off n a h
  simp only[lay]
  rw[T.CN t a v (by omega),ih _ _ _ _ (by omega)]
theorem QM (vs:List Value):∀(t:T Value) (off i:Nat) (a:Value),i<vs.length→(lay vs t off).aT (off+i) a=lay (vs.set i a) t off:=by
 induction vs with
 | nil=>intro t off i a h; simp at h
 | cons v vs ih=>
  intro t off i a h
  cases i with
  | zero=>
   simp only[List.set_cons_zero,lay,Nat.add_zero]
   rw[←Gi vs _ _ _ _ (Nat.lt_succ_self off),T.wP]
  | succ i=>
   simp only[List.set_cons_succ,lay]
   rw[←ih _ _ _ _ (by simpa using h),show off+(i+1)=off+1+i by omega]
def over (vs:List Value) (o:Nat) (ws:List Value):List Value:=vs.take o++ws++vs.drop (o+ws.length)
theorem lu {vs:List Value} {o:Nat} {ws:List Value} (h:o+ws.length≤vs.length):(over vs o ws).length=vs.length:=by
 simp[over]; omega
theorem CO (vs:List Value) (o:Nat):over vs o []=vs:=by simp[over]
theorem JX (vs:List Value) (o:Nat) (w:Value) (ws:List Value) (h:o<vs.length):over vs o (w::ws)=over (vs.set o w) (o+1) ws:=by
 simp only[over,List.length_cons]
 rw[List.take_succ_eq_append_getElem (by simpa using h)]
 simp only[List.getElem_set_self]
 rw[List.take_set_of_le (Nat.le_refl _),List.drop_set_of_lt (by omega)]
 simp[Nat.add_comm,Nat.add_left_comm]
theorem Ba (ws:List Value):∀(vs:List Value) (o:Nat),o+ws.length≤vs.length→lay ws (lay vs .nil 0) o=lay (over vs o ws) .nil 0:=by
 induction ws with
 | nil=>intro vs o _; rw[CO]; rfl
 | cons w ws ih=>
  intro vs o h
  simp only[List.length_cons] at h
  have h1:=QM vs .nil 0 o w (by omega)
  rw[Nat.zero_add] at h1
  rw[JX vs o w ws (by omega),←ih _ _ (by simp; omega),←h1]
  rfl
noncomputable def aa (vs:List Value) (e:TypeId) (op:Bool):bC:=.cells vs.length (lay vs .nil 0) e op
noncomputable def roO (vs:List Value) (e:TypeId):bC:=.ro vs.length (lay vs .nil 0) e
theorem Ml (vs:List Value):∀(c:T Value) (off:Nat) (i:Nat),(lay vs c off).get i=if off≤i∧i<off+vs.length then vs[i-off]? else c.get i:=by
 induction vs with
 | nil=>intro c off i; simp[lay]; omega
 | cons v vs ih=>
  intro c off i
  rw[lay,ih]
  by_cases h1:off+1≤i∧i<off+1+vs.length
  ·rw[if_pos h1,if_pos (by simp; omega),show i-off=(i-(off+1))+1 by omega]; simp
  ·rw[if_neg h1]
   by_cases h2:off=i
   ·subst h2; rw[T.af]; simp
   ·rw[T.ai _ _ h2,if_neg (by simp; omega)]
theorem mF (vs:List Value) (i:Nat):(lay vs .nil 0).get i=vs[i]?:=by
 rw[Ml]
 by_cases h:i<vs.length
 ·rw[if_pos ⟨Nat.zero_le _,by omega⟩,Nat.sub_zero]
 ·rw[if_neg (by omega),T.get_nil]; symm; simp; omega
def Gj (fl:β) (o:Option Value) (κ:Value→β):β:=match o with | some v=>κ v | none=>fl
theorem z_ (v:Value) (κ:Value→β):Gj fl (some v) κ=κ v:=id rfl
noncomputable def sF (fl:β) (ob:Option bC) (o:Nat) (κ:Value→β):β:=match ob with
 | some (.cells n c _ _)=>match Nat.ble (Nat.succ o) n,c.get o with
  | true,some v=>κ v
  | _,_=>fl
 | some (.ro n c _)=>match Nat.ble (Nat.succ o) n,c.get o with
  | true,some v=>κ v
  | _,_=>fl
 | _=>fl
theorem CP (b o:Nat) (h:Heap) (κ:Value→Heap→β):load1 fl (.pointer (some ⟨b,o,none⟩)) h κ=sF fl (h.bl.get b) o fun v=>κ v h:=by
 unfold load1 sF
 dsimp only
 generalize h.bl.get b=z
 cases z with
 | none=>rfl
 | some ob=>cases ob<;>rfl
theorem pq (vs:List Value) (e:TypeId) (op:Bool) (o:Nat) (κ:Value→β):sF fl (some (aa vs e op)) o κ=Gj fl vs[o]? κ:=by
 unfold sF aa
 simp only[mF]
 by_cases h:o<vs.length
 ·rw[show Nat.ble (Nat.succ o) vs.length=true from Nat.ble_eq_true_of_le h,List.getElem?_eq_getElem h]; rfl
 ·have:Nat.ble (Nat.succ o) vs.length=false:=by
   cases hb:Nat.ble (Nat.succ o) vs.length with
   | false=>rfl
   | true=>exact absurd (Nat.le_of_ble_eq_true hb) h
  rw[this,List.getElem?_eq_none (by omega)]; rfl
theorem Mm (vs:List Value) (e:TypeId) (o:Nat) (κ:Value→β):sF fl (some (roO vs e)) o κ=Gj fl vs[o]? κ:=pq vs e false o κ
theorem Gk (vs:List Value) (off:Nat):∀(n:Nat) (acc:List Value) (κ:List Value→β),off+n≤vs.length→j_ fl (lay vs .nil 0) off n acc κ=κ ((vs.drop off).take n++acc):=by
 intro n
 induction n with
 | zero=>intro acc κ _; simp; rfl
 | succ n ih=>
  intro acc κ h
  show Option.rec (motive:=fun _=>β) fl (fun v=>j_ fl (lay vs .nil 0) off n (v::acc) κ) ((lay vs .nil 0).get (Nat.add off n))=_
  rw[mF,show Nat.add off n=off+n from rfl,List.getElem?_eq_getElem (by omega)]
  show j_ fl (lay vs .nil 0) off n (vs[off+n]::acc) κ=_
  rw[ih _ _ (by omega),List.take_succ_eq_append_getElem (by simp; omega)]
  simp
noncomputable def vz (fl:β) (ob:Option bC) (o s:Nat) (κ:List Value→β):β:=match ob with
 | some (.cells n c _ _)=>match Nat.ble (Nat.add o s) n with
  | true=>j_ fl c o s [] κ
  | false=>fl
 | some (.ro n c _)=>match Nat.ble (Nat.add o s) n with
  | true=>j_ fl c o s [] κ
  | false=>fl
 | _=>fl
theorem CQ (s b o:Nat) (h:Heap) (κ:Value→Heap→β):ay fl s (.pointer (some ⟨b,o,none⟩)) h κ=vz fl (h.bl.get b) o s fun l=>κ (.agg ⟨l⟩) h:=by
 unfold ay vz
 dsimp only
 generalize h.bl.get b=z
 cases z with
 | none=>rfl
 | some ob=>cases ob<;>rfl
theorem ta (vs:List Value) (e:TypeId) (op:Bool) (o s:Nat) (κ:List Value→β) (h:o+s≤vs.length):vz fl (some (aa vs e op)) o s κ=κ ((vs.drop o).take s):=by
 unfold vz aa
 simp only
 rw[show Nat.ble (Nat.add o s) vs.length=true from Nat.ble_eq_true_of_le h]
 simp only
 rw[Gk _ _ _ _ _ h,List.append_nil]
theorem Mn (vs:List Value) (e:TypeId) (o s:Nat) (κ:List Value→β) (h:o+s≤vs.length):vz fl (some (roO vs e)) o s κ=κ ((vs.drop o).take s):=ta vs e false o s κ h
theorem dx (o:bC) (h:Heap) (κ:Nat→Heap→β):aq fl o h κ=κ h.nx ⟨h.nx+1,h.bl.aT h.nx o,h.lo⟩:=by
 unfold aq; rw[T.fC,bT]
theorem bU (b:Nat) (o:bC) (h:Heap) (κ:Heap→β) (hlo:h.lo≤b):setBlock fl b o h κ=κ ⟨h.nx,h.bl.aT b o,h.lo⟩:=by
 unfold setBlock; rw[Nat.ble_eq_true_of_le hlo,T.fC]
theorem iu (vs:List Value) (e:TypeId) (op:Bool) (κ:bC→β) (hl:vs.length≤1000000000000):aF fl vs e op κ=κ (aa vs e op):=by
 unfold aF; rw[vm]
 simp only[Nat.zero_add]
 rw[Nat.ble_eq_true_of_le hl]; rfl
theorem tc (n:Nat):∀(ws:List Value) (c:T Value) (o:Nat) (κ:T Value→β),o+ws.length≤n→(ws.all cZ)=true→lN fl n ws c o κ=κ (lay ws c o):=by
 intro ws
 induction ws with
 | nil=>intro c o κ _ _; rfl
 | cons v ws ih=>
  intro c o κ h1 h2
  simp only[List.all_cons,Bool.and_eq_true,List.length_cons] at h1 h2
  show Bool.rec (motive:=fun _=>β) fl (Bool.rec (motive:=fun _=>β) fl (T.set c o v fun c=>lN fl n ws c (Nat.succ o) κ) (Nat.ble (Nat.succ o) n)) (cZ v)=_
  rw[h2.1,Nat.ble_eq_true_of_le (by omega)]
  simp only[T.fC]
  rw[ih _ _ _ (by omega) h2.2]; rfl
noncomputable def QN (fl:β) (ob:Option bC) (s b o:Nat) (ws:List Value) (h:Heap) (κ:Heap→β):β:=match ob with
 | some (.cells n c e op)=>match Nat.beq ws.length s with
  | true=>lN fl n ws c o fun c=>setBlock fl b (.cells n c e op) h κ
  | false=>fl
 | _=>fl
theorem Aa (s b o:Nat) (v:Value) (h:Heap) (κ:Value→Heap→β):aI fl s (.pointer (some ⟨b,o,none⟩)) v h κ=QN fl (h.bl.get b) s b o v.cells.toList h fun h=>κ undef h:=by
 unfold aI QN
 dsimp only
 generalize h.bl.get b=z
 cases z with
 | none=>rfl
 | some ob=>cases ob<;>rfl
theorem td (vs:List Value) (e:TypeId) (op:Bool) (s b o:Nat) (ws:List Value) (h:Heap) (κ:Heap→β) (h1:ws.length=s) (h2:ws.all cZ=true) (h3:o+s≤vs.length) (hlo:h.lo≤b) :
  QN fl (some (aa vs e op)) s b o ws h κ=κ ⟨h.nx,h.bl.aT b (aa (over vs o ws) e op),h.lo⟩:=by
 subst h1
 unfold QN aa
 simp only
 rw[show Nat.beq ws.length ws.length=true from Nat.beq_refl _]
 simp only
 rw[tc _ _ _ _ _ h3 h2,bU _ _ _ _ hlo,Ba _ _ _ h3,lu h3]
theorem CS (v:Value) (h:Heap) (κ:KQ):av (some v) h κ=κ v h:=id rfl
theorem wQ (o:bC) (mk:Nat→Value) (h:Heap) (κ:KQ):B8 (some (o,mk)) h κ=κ (mk h.nx) ⟨h.nx+1,h.bl.aT h.nx o,h.lo⟩:=by
 show aq False o h (fun n h=>κ (mk n) h)=_; rw[dx]
theorem wR (p:Prop):bK true p=p:=id rfl
theorem wS (b:Bool):aj (.bool b) true=b:=by cases b<;>exact id rfl
theorem ur (b:Bool):aj (.bool b) false=!b:=by cases b<;>exact id rfl
theorem uu (f:(Value→Heap→Prop)→Prop) (h:Heap) (κ:KQ):ah true f h κ=f κ:=id rfl
theorem rI (f:(Value→Heap→Prop)→Prop) (h:Heap) (κ:KQ):ah false f h κ=κ undef h:=id rfl
theorem wT (A B:Prop):aG (.bool true) A B=A:=id rfl
theorem uv (A B:Prop):aG (.bool false) A B=B:=id rfl
theorem H7 (n:Int) (h : -9223372036854775808≤n∧n≤9223372036854775807):IntKind.i64.wrap n=n:=IntWalk.i64_in _ h
theorem H8 (P:Program) (t:TypeId) (cn gd:Bool) (a b:Int) (h:Heap) (κ:Value→Heap→β):au fl P .add t cn gd (.int .i64 a) (.int .i64 b) h κ=κ (.int .i64 (IntKind.i64.wrap (a+b))) h:=by
 simp only[au,gI,lP,fT,dN]; rfl
theorem H9 (P:Program) (t:TypeId) (cn gd:Bool) (a b:Int) (h:Heap) (κ:Value→Heap→β):au fl P .sub t cn gd (.int .i64 a) (.int .i64 b) h κ=κ (.int .i64 (IntKind.i64.wrap (a-b))) h:=by
 simp only[au,gI,lP,fT,dN]; rfl
theorem H_ (P:Program) (t:TypeId) (cn gd:Bool) (a b:Int) (h:Heap) (κ:Value→Heap→β):au fl P .mul t cn gd (.int .i64 a) (.int .i64 b) h κ=κ (.int .i64 (IntKind.i64.wrap (a*b))) h:=by
 simp only[au,gI,lP,fT,dN]; rfl
theorem Bb (P:Program) (t:TypeId) (cn gd:Bool) (a b:Int) (h:Heap) (κ:Value→Heap→β) (hb:b≠0):au fl P .quo t cn gd (.int .i64 a) (.int .i64 b) h κ=κ (.int .i64 (IntKind.i64.wrap (Int.tdiv a b))) h:=by
 simp only[au,gI,lP,fT,dN,fI,hb,decide_false]
theorem Bc (P:Program) (t:TypeId) (cn gd:Bool) (a b:Int) (h:Heap) (κ:Value→Heap→β) (hb:b≠0):au fl P .rem t cn gd (.int .i64 a) (.int .i64 b) h κ=κ (.int .i64 (Int.tmod a b)) h:=by
 simp only[au,gI,lP,fT,fI,hb,decide_false]
theorem Ia (P:Program) (t:TypeId) (cn gd:Bool) (k:IntKind) (a b:Int) (h:Heap) (κ:Value→Heap→β):au fl P .eql t cn gd (.int k a) (.int k b) h κ=κ (.bool (decide (a=b))) h:=by
 simp only[au,fm,decide_true,lP,bM,fI]
theorem Ib (P:Program) (t:TypeId) (cn gd:Bool) (k:IntKind) (a b:Int) (h:Heap) (κ:Value→Heap→β):au fl P .neq t cn gd (.int k a) (.int k b) h κ=κ (.bool (!decide (a=b))) h:=by
 simp only[au,fm,decide_true,lP,bM,fI]
theorem Ic (P:Program) (t:TypeId) (cn gd:Bool) (k:IntKind) (a b:Int) (h:Heap) (κ:Value→Heap→β):au fl P .lss t cn gd (.int k a) (.int k b) h κ=κ (.bool (decide (a<b))) h:=by
 simp only[au,fm,decide_true,lP,bM,fH]
theorem Ie (P:Program) (t:TypeId) (cn gd:Bool) (k:IntKind) (a b:Int) (h:Heap) (κ:Value→Heap→β):au fl P .gtr t cn gd (.int k a) (.int k b) h κ=κ (.bool (decide (b<a))) h:=by
 simp only[au,fm,decide_true,lP,bM,fH]
theorem Ig (P:Program) (t:TypeId) (cn gd:Bool) (k:IntKind) (a b:Int) (h:Heap) (κ:Value→Heap→β):au fl P .leq t cn gd (.int k a) (.int k b) h κ=κ (.bool (!decide (b<a))) h:=by
 simp only[au,fm,decide_true,lP,bM,fH]
theorem Ih (P:Program) (t:TypeId) (cn gd:Bool) (k:IntKind) (a b:Int) (h:Heap) (κ:Value→Heap→β):au fl P .geq t cn gd (.int k a) (.int k b) h κ=κ (.bool (!decide (a<b))) h:=by
 simp only[au,fm,decide_true,lP,bM,fH]
theorem Mo (b:Bool) (h:Heap) (κ:Value→Heap→β):jA fl .not (.bool b) h κ=κ (.bool (!b)) h:=by simp only[jA,bM]
theorem Mp (a:Int) (h:Heap) (κ:Value→Heap→β):jA fl .neg (.int .i64 a) h κ=κ (.int .i64 (IntKind.i64.wrap (0-a))) h:=by simp only[jA,fT,dN]; rfl
theorem CT (k:IntKind) (a:Int) (h:Heap) (κ:Value→Heap→β):kg fl .i64 (.int k a) h κ=κ (.int .i64 (IntKind.i64.wrap a)) h:=by simp only[kg,fT,dN]
theorem Ab (a b:Value) (h:Heap) (κ:Value→Heap→β):aX fl (.bool true) a b h κ=κ a h:=id rfl
theorem wU (a b:Value) (h:Heap) (κ:Value→Heap→β):aX fl (.bool false) a b h κ=κ b h:=id rfl
theorem eV (x:Option Addr) (n c:Nat) (h:Heap) (κ:Value→Heap→β):bB fl (.slice x n c) h κ=κ (.int .i64 (n:Int)) h:=id rfl
theorem rJ (off b o:Nat) (h:Heap) (κ:Value→Heap→β):fieldAddrB fl off (.pointer (some ⟨b,o,none⟩)) h κ=κ (.pointer (some ⟨b,o+off,none⟩)) h:=by simp only[fieldAddrB,bT]; rfl
theorem Ii (a:Addr) (h:Heap) (κ:Value→Heap→β):aJ fl (.pointer (some a)) h κ=κ (.pointer (some a)) h:=id rfl
theorem nj (f:FuncId) (a b:Array Value) (h:Heap) (κ:Value→Heap→β):aJ fl (.func (.func f) a b) h κ=κ (.func (.func f) a b) h:=id rfl
theorem Ac (a:Value) (l:List Value) (h:Heap) (κ:Value→Heap→β):ax fl 0 (.tuple ⟨a::l⟩) h κ=κ a h:=id rfl
theorem Ad (a b:Value) (l:List Value) (h:Heap) (κ:Value→Heap→β):ax fl 1 (.tuple ⟨a::b::l⟩) h κ=κ b h:=id rfl
theorem Ae (a b c:Value) (l:List Value) (h:Heap) (κ:Value→Heap→β):ax fl 2 (.tuple ⟨a::b::c::l⟩) h κ=κ c h:=id rfl
theorem aW (s b o n c i:Nat) (h:Heap) (κ:Value→Heap→β) (hi:i<n):aD fl s (.slice (some ⟨b,o,none⟩) n c) (.int .i64 (i:Int)) h κ=κ (.pointer (some ⟨b,o+i*s,none⟩)) h:=by
 show (match Nat.ble (Nat.succ i) n with | true=>_ | _=>_)=_
 rw[show Nat.ble (Nat.succ i) n=true from Nat.ble_eq_true_of_le hi]
 simp only[bT]; rfl
theorem CU (P:Program) (f:FuncId) (a b:Array Value) (args:List Value) (h:Heap) (κ:KQ):eU P (.func (.func f) a b) args h κ=CallW P f (a.toList++args++b.toList) h κ:=id rfl
theorem bg {p:Prop} [Decidable p] (h:p):decide p=true:=decide_eq_true h
theorem aV {p:Prop} [Decidable p] (h:¬p):decide p=false:=decide_eq_false h
theorem eY {a b:Int} (h:a<b):decide (a<b)=true:=decide_eq_true h
theorem cW {a b:Int} (h:b≤a):decide (a<b)=false:=decide_eq_false (by omega)
theorem aaR {a b:Int} (h:a=b):decide (a=b)=true:=decide_eq_true h
theorem Mq {a b:Int} (h:a<b):decide (a=b)=false:=decide_eq_false (by omega)
theorem Tx {a b:Int} (h:b<a):decide (a=b)=false:=decide_eq_false (by omega)
structure Le (h h':Heap):Prop where
 nx:h.nx≤h'.nx
 lo:h'.lo=h.lo
 get:∀b,b<h.nx→h'.bl.get b=h.bl.get b
theorem Le.refl (h:Heap):Le h h:=⟨Nat.le_refl _,rfl,fun _ _=>rfl⟩
theorem Le.trans {a b c:Heap} (x:Le a b) (y:Le b c):Le a c:=⟨Nat.le_trans x.nx y.nx,y.lo.trans x.lo,fun i hi=>(y.get i (Nat.lt_of_lt_of_le hi x.nx)).trans (x.get i hi)⟩
theorem Le.new {a h:Heap} (x:Le a h) (o:bC):Le a ⟨h.nx+1,h.bl.aT h.nx o,h.lo⟩:=
 ⟨Nat.le_succ_of_le x.nx,x.lo,fun i hi=>(T.ai _ _ (by have:=x.nx; omega)).trans (x.get i hi)⟩
theorem Le.set {a h:Heap} (x:Le a h) {b:Nat} (hb:a.nx≤b) (o:bC):Le a ⟨h.nx,h.bl.aT b o,h.lo⟩:=
 ⟨x.nx,x.lo,fun i hi=>(T.ai _ _ (by omega)).trans (x.get i hi)⟩
end Go.Vai

namespace Go.Vai
open Go Go.RowKit
variable {β:Type} {fl:β} {P:Program}
theorem Bd {φ:dG} {v:Value} (hv:mj v=true):VR φ v v:=by
 cases v<;>first | exact VR.mj hv | (exact VR.qu (F2.mj hv)) | cases hv
theorem Mr {φ:dG}:∀{l l':List Value},l.all jg=true→F2 (VR φ) l l'→l'=l:=by
 intro l
 induction l with
 | nil=>intro l' _ h; cases h; rfl
 | cons v l ih=>
  intro l' hs h
  simp only[List.all_cons,Bool.and_eq_true] at hs
  cases h with
  | cons h1 h2=>rw[ih hs.2 h2,VR.QD hs.1 h1]
theorem nk {φ:dG} {v v':Value} (hv:mj v=true) (h:VR φ v v'):v'=v:=by
 cases h with
 | agg a a' ha vj=>
  have:=Mr (l':=a'.toList) hv (F2.kj ha vj)
  obtain ⟨l⟩:=a; obtain ⟨l'⟩:=a'
  simp only at this; rw[this]
 | bool=>rfl
 | int=>rfl
 | string=>rfl
 | _=>cases hv
theorem CV {φ:dG}:∀{l:List Value},l.all mj=true→F2 (VR φ) l l:=by
 intro l
 induction l with
 | nil=>intro _; exact .nil
 | cons v l ih=>
  intro h
  simp only[List.all_cons,Bool.and_eq_true] at h
  exact .cons (Bd h.1) (ih h.2)
theorem CW {φ:dG}:∀{l l':List Value},l.all mj=true→F2 (VR φ) l l'→l'=l:=by
 intro l
 induction l with
 | nil=>intro l' _ h; cases h; rfl
 | cons v l ih=>
  intro l' hs h
  simp only[List.all_cons,Bool.and_eq_true] at hs
  cases h with
  | cons h1 h2=>rw[ih hs.2 h2,nk hs.1 h1]
noncomputable def bx (P:Program) (n:Nat) (f:FuncId) (args:List Value) (v:Value):Bool:=
 args.all mj && mj v && kY false QC P (run false QC P n) f args ⟨0,.nil,0⟩ fun v' _=>jX 8 v' v
theorem rK (hm:P.follows .mixedOrders=true) {n:Nat} {f:FuncId} {args:List Value} {v:Value} (ha:bx P n f args v=true) {h:Heap} {κ:Value→Heap→Prop} (hk:κ v h):CallW P f args h κ:=by
 intro φ w args' hf hr
 have hfl:¬yes false:=by simp[yes]
 simp only[bx,Bool.and_eq_true] at ha
 obtain ⟨⟨ha1,hv⟩,ha2⟩:=ha
 have:=CW ha1 hf
 subst this
 have hc:=e_ (good:=yes) (w:=w) hfl (A8 (P:=P)) (z1 (good:=yes) hfl A8 (qD hfl A8 hm) n).1 (CV ha1) (HR.start w) ha2
 refine ⟨hc.1,Calls.mono hc.2 ?_⟩
 rintro e w' ⟨φ',v1,v',h',rfl,g1,g2,g3,g4⟩
 have e1:=F4 8 _ _ g1
 subst e1
 have hfr:∀B,B<w.heap.size→w'.heap[B]? = w.heap[B]?:=fun B hB=>g4.ze B hB fun b pl e=>by cases e
 refine ⟨φ,v1,v',h,rfl,hk,by rw[nk hv g2]; exact Bd hv,?_,?_⟩
 ·exact ⟨fun b o pl h1 h2=>by rw[hfr _ (hr.dom b pl h2).2]; exact hr.obj b o pl h1 h2,fun b pl h1=>⟨(hr.dom b pl h1).1,Nat.lt_of_lt_of_le (hr.dom b pl h1).2 g4.size⟩,hr.keys,hr.LI,hr.inj,hr.lo⟩
 ·exact ⟨Sub.refl φ,fun b pl e e'=>(by rw[e] at e'; cases e'),Nat.le_refl _,g4.size,fun B hB _=>hfr B hB,fun _ _ _=>rfl,g4.tape,g4.os,g4.output,fun _ _=>trivial,rfl,fun _ _=>rfl,fun b o pl _ _ _ _ hB=>hfr _ hB,g4.dr⟩
def Be (v:Value) (_h:Heap):Prop:=v=.bool true
def Has (ob:Option bC) (o:Nat) (ws:List Value):Prop:=
 ∃n c e,(ob=some (.ro n c e)∨∃op,ob=some (.cells n c e op))∧o+ws.length≤n∧∀j v,ws[j]? = some v→c.get (o+j)=some v
theorem Has.cells {vs:List Value} {e:TypeId} {op:Bool} {o k:Nat} (h:o+k≤vs.length):Has (some (aa vs e op)) o ((vs.drop o).take k):=by
 refine ⟨vs.length,lay vs .nil 0,e,.inr ⟨op,rfl⟩,by simp; omega,fun j v hj=>?_⟩
 rw[mF]
 rw[List.getElem?_take] at hj
 split at hj
 ·simpa[List.getElem?_drop] using hj
 ·cases hj
theorem Has.all {vs:List Value} {e:TypeId} {op:Bool}:Has (some (aa vs e op)) 0 vs:=by
 have:=Has.cells (vs:=vs) (e:=e) (op:=op) (o:=0) (k:=vs.length) (by omega)
 simpa using this
theorem Has.sub {ob:Option bC} {o:Nat} {ws:List Value} (h:Has ob o ws) (i k:Nat) (hk:i+k≤ws.length):Has ob (o+i) ((ws.drop i).take k):=by
 obtain ⟨n,c,e,h1,h2,h3⟩:=h
 refine ⟨n,c,e,h1,by simp; omega,fun j v hj=>?_⟩
 rw[List.getElem?_take] at hj
 split at hj
 ·rw[List.getElem?_drop] at hj
  rw[Nat.add_assoc]; exact h3 _ _ hj
 ·cases hj
theorem dR {ob:Option bC} {o:Nat} {ws:List Value} (h:Has ob o ws) (j:Nat) (κ:Value→β):j<ws.length→sF fl ob (o+j) κ=Gj fl ws[j]? κ:=by
 intro hj
 obtain ⟨n,c,e,h1,h2,h3⟩:=h
 have hle:Nat.ble (Nat.succ (o+j)) n=true:=Nat.ble_eq_true_of_le (by omega)
 have hv:=h3 j _ (List.getElem?_eq_getElem hj)
 rw[List.getElem?_eq_getElem hj]
 rcases h1 with rfl | ⟨op,rfl⟩<;>simp only[sF,hle,hv,Gj]
theorem Af (c:T Value) (ws:List Value) (off:Nat):∀(n:Nat) (acc:List Value) (κ:List Value→β),n≤ws.length→(∀j v,ws[j]? = some v→c.get (off+j)=some v)→j_ fl c off n acc κ=κ (ws.take n++acc):=by
 intro n
 induction n with
 | zero=>intro acc κ _ _; simp; rfl
 | succ n ih=>
  intro acc κ h hc
  show Option.rec (motive:=fun _=>β) fl (fun v=>j_ fl c off n (v::acc) κ) (c.get (Nat.add off n))=_
  rw[show Nat.add off n=off+n from rfl,hc n _ (List.getElem?_eq_getElem (by omega))]
  show j_ fl c off n (ws[n]::acc) κ=_
  rw[ih _ _ (by omega) hc,List.take_succ_eq_append_getElem (by omega)]
  simp only[List.append_assoc,List.cons_append,List.nil_append]
theorem nq {ob:Option bC} {o:Nat} {ws:List Value} (h:Has ob o ws) (s:Nat) (κ:List Value→β) (hs:s=ws.length):vz fl ob o s κ=κ ws:=by
 obtain ⟨n,c,e,h1,h2,h3⟩:=h
 subst hs
 have hle:Nat.ble (Nat.add o ws.length) n=true:=Nat.ble_eq_true_of_le h2
 rcases h1 with rfl | ⟨op,rfl⟩<;>simp only[vz,hle]<;>rw[Af c ws o _ _ _ (Nat.le_refl _) h3]<;>simp
theorem jm (h:Heap) (size n:Nat) (x:Value) (κ:List Value→β) (h0:n*size=0):dH fl h size n x κ=κ []:=by
 unfold dH
 rw[show Nat.mul n size=0 from h0]
theorem iR {h:Heap} {b o:Nat} {ws:List Value} (hh:Has (h.bl.get b) o ws) (size n l c:Nat) (κ:List Value→β) (hn:n*size=ws.length):dH fl h size n (.slice (some ⟨b,o,none⟩) l c) κ=κ ws:=by
 unfold dH
 rw[show Nat.mul n size=ws.length from hn]
 cases hw:ws with
 | nil=>rfl
 | cons w0 ws0=>
  obtain ⟨nn,cc,e,h1,h2,h3⟩:=hh
  rw[hw] at h2 h3
  have hle:Nat.ble (Nat.add o (Nat.succ ws0.length)) nn=true:=Nat.ble_eq_true_of_le (by simpa using h2)
  have fin:j_ fl cc o (Nat.succ ws0.length) [] κ=κ (w0::ws0):=by
   rw[Af cc (w0::ws0) o _ _ _ (by simp) h3]
   congr 1
   simp
  rcases h1 with h1 | ⟨op,h1⟩<;>simp only[List.length_cons,h1,hle]<;>exact fin
section
variable {α:Type} (enc:α→List Value) (s:Nat)
def Sl (h:Heap) (v:Value) (L:List α):Prop:=
 ∃x cap,v=.slice x L.length cap∧(L≠[]→∃b o,x=some ⟨b,o,none⟩∧b<h.nx∧Has (h.bl.get b) o (L.flatMap enc))
variable {enc s}
theorem Sl.le {h h':Heap} {v:Value} {L:List α} (hs:Sl enc h v L) (hl:Le h h'):Sl enc h' v L:=by
 obtain ⟨x,cap,h1,h2⟩:=hs
 refine ⟨x,cap,h1,fun hn=>?_⟩
 obtain ⟨b,o,e1,e2,e3⟩:=h2 hn
 exact ⟨b,o,e1,Nat.lt_of_lt_of_le e2 hl.nx,by rw[hl.get b e2]; exact e3⟩
theorem Sl.nil (h:Heap) (x:Option Addr) (cap:Nat):Sl enc h (.slice x 0 cap) ([]:List α):=⟨x,cap,rfl,fun hn=>absurd rfl hn⟩
theorem bf (he:∀a:α,(enc a).length=s) (L:List α):(L.flatMap enc).length=L.length*s:=by
 induction L with
 | nil=>simp
 | cons a L ih=>simp[he,ih,Nat.succ_mul,Nat.add_comm]
theorem vA (he:∀a:α,(enc a).length=s):∀(L:List α) (i:Nat) (hi:i<L.length),((L.flatMap enc).drop (i*s)).take s=enc L[i]:=by
 intro L
 induction L with
 | nil=>intro i hi; simp at hi
 | cons a L ih=>
  intro i hi
  cases i with
  | zero=>simp[List.take_append,he]
  | succ i=>
   have:=ih i (by simpa using hi)
   simp only[List.flatMap_cons,List.getElem_cons_succ]
   rw[←this,List.drop_append,show (enc a).drop ((i+1)*s)=[] from List.drop_eq_nil_of_le (by rw[he,Nat.succ_mul]; omega),he,show (i+1)*s-s=i*s by rw[Nat.succ_mul]; omega]
   rfl
theorem Sl.elem {h:Heap} {v:Value} {L:List α} (hs:Sl enc h v L) (he:∀a:α,(enc a).length=s) (i:Nat) (hi:i<L.length) :
  ∃b o cap,v=.slice (some ⟨b,o,none⟩) L.length cap∧b<h.nx∧Has (h.bl.get b) (o+i*s) (enc L[i]):=by
 obtain ⟨x,cap,h1,h2⟩:=hs
 obtain ⟨b,o,e1,e2,e3⟩:=h2 (by intro e; rw[e] at hi; simp at hi)
 subst e1
 refine ⟨b,o,cap,h1,e2,?_⟩
 have hle:i*s+s≤(L.flatMap enc).length:=by
  rw[bf he,←Nat.succ_mul]; exact Nat.mul_le_mul_right _ hi
 have:=e3.sub (i*s) s hle
 rwa [vA he L i hi] at this
theorem Sl.len {h:Heap} {v:Value} {L:List α} (hs:Sl enc h v L) (κ:Value→Heap→β) (h':Heap):bB fl v h' κ=κ (.int .i64 (L.length:Int)) h':=by
 obtain ⟨x,cap,rfl,_⟩:=hs; rfl
theorem Sl.at {h:Heap} {v:Value} {L:List α} (hs:Sl enc h v L) (he:∀a:α,(enc a).length=s) (i:Nat) (hi:i<L.length) :
  ∃b o,b<h.nx∧Has (h.bl.get b) o (enc L[i])∧∀(β:Type) (fl:β) (h':Heap) (κ:Value→Heap→β),aD fl s v (.int .i64 (i:Int)) h' κ=κ (.pointer (some ⟨b,o,none⟩)) h':=by
 obtain ⟨b,o,cap,rfl,h1,h2⟩:=hs.elem he i hi
 exact ⟨b,o+i*s,h1,h2,fun β fl h' κ=>aW s b o _ cap i h' κ hi⟩
theorem Sl.ld {h:Heap} {v:Value} {L:List α} (hs:Sl enc h v L) (he:∀a:α,(enc a).length=s) (i:Nat) {p:α} (hp:L[i]? = some p) :
  ∃b o,b<h.nx∧(∀(β:Type) (fl:β) (h':Heap) (κ:Value→Heap→β),aD fl s v (.int .i64 (i:Int)) h' κ=κ (.pointer (some ⟨b,o,none⟩)) h')∧
   (∀(β:Type) (fl:β) (κ:List Value→β),vz fl (h.bl.get b) o s κ=κ (enc p))∧Has (h.bl.get b) o (enc p):=by
 obtain ⟨hi,rfl⟩:=List.getElem?_eq_some_iff.1 hp
 obtain ⟨b,o,h1,h2,h3⟩:=hs.at he i hi
 exact ⟨b,o,h1,h3,fun β fl κ=>nq h2 s κ (he _).symm,h2⟩
theorem Sl.first {h:Heap} {v:Value} {L:List α} (hs:Sl enc h v L) (he:∀a:α,(enc a).length=s) (κ:List Value→β):dH fl h s L.length v κ=κ (L.flatMap enc):=by
 by_cases hn:L=[]
 ·subst hn; rw[jm _ _ _ _ _ (by simp)]; rfl
 ·obtain ⟨x,cap,rfl,h2⟩:=hs
  obtain ⟨b,o,rfl,e2,e3⟩:=h2 hn
  exact iR e3 _ _ _ _ _ (bf he L).symm
theorem Sl.new {h:Heap} {b:Nat} {L:List α} {e:TypeId} {op:Bool} (hb:b<h.nx) (hg:h.bl.get b=some (aa (L.flatMap enc) e op)) (cap:Nat):Sl enc h (.slice (some ⟨b,0,none⟩) L.length cap) L:=
 ⟨_,cap,rfl,fun _=>⟨b,0,rfl,hb,by rw[hg]; exact Has.all⟩⟩
variable (enc)
def gL (a:Heap) (e:TypeId) (h:Heap) (v:Value) (L:List α):Prop:=
 (L=[]∧(v=.slice none 0 0∨∃b o,v=.slice (some ⟨b,o,none⟩) 0 0))∨∃b,v=.slice (some ⟨b,0,none⟩) L.length aM∧a.nx≤b∧b<h.nx∧h.lo≤b∧h.bl.get b=some (aa (L.flatMap enc) e true)
variable {enc}
theorem gL.sl {a h:Heap} {e:TypeId} {v:Value} {L:List α} (ho:gL enc a e h v L):Sl enc h v L:=by
 rcases ho with ⟨rfl,rfl | ⟨b,o,rfl⟩⟩ | ⟨b,rfl,h1,h2,h3,h4⟩
 ·exact Sl.nil _ _ _
 ·exact Sl.nil _ _ _
 ·exact Sl.new h2 h4 _
theorem gL.le {a h h':Heap} {e:TypeId} {v:Value} {L:List α} (ho:gL enc a e h v L) (hl:Le h h'):gL enc a e h' v L:=by
 rcases ho with ho | ⟨b,h0,h1,h2,h3,h4⟩
 ·exact .inl ho
 ·exact .inr ⟨b,h0,h1,Nat.lt_of_lt_of_le h2 hl.nx,by rw[hl.lo]; exact h3,by rw[hl.get b h2]; exact h4⟩
theorem append_nil {h:Heap} {e:TypeId} {z:List Value} {v x:Value} (hx:Sl enc h x ([]:List α)) (hv:∃b n c,v=.slice b n c) (κ:Value→Heap→β):bL fl e s z false v x h κ=κ v h:=by
 obtain ⟨b,n,c,rfl⟩:=hv
 obtain ⟨y,cap,rfl,_⟩:=hx
 simp only[bL,kV,List.length_nil]
 rw[jm _ _ _ _ _ (by simp)]
set_option maxRecDepth 20000 in
theorem kG {a h:Heap} {e:TypeId} {z:List Value} {v x:Value} {L M:List α} (he:∀a:α,(enc a).length=s) (hone:∀a:α,(enc a).all cZ=true) (hs0:0<s) (hs1:s≤100) (ho:gL enc a e h v L) (hx:Sl enc h x M)
  (hle:Le a h) (hb:L.length+M.length≤1000000) (hal:h.lo≤h.nx) (κ:KQ)
  (hk:∀v' h',gL enc a e h' v' (L++M)→Le a h'→h'.nx≤h.nx+1→h.nx≤h'.nx→κ v' h'):bL False e s z false v x h κ:=by
 by_cases hM:M=[]
 ·subst hM
  rw[append_nil hx (by rcases ho with ⟨rfl,rfl | ⟨b,o,rfl⟩⟩ | ⟨b,rfl,_⟩<;>exact ⟨_,_,_,rfl⟩)]
  exact hk v h (by simpa using ho) hle (Nat.le_succ _) (Nat.le_refl _)
 ·obtain ⟨m,hm⟩:∃m,M.length=m+1:=⟨M.length-1,by have:=List.length_pos_iff.2 hM; omega⟩
  have hfl:=bf (enc:=enc) he
  have iS:=hx.first (β:=Prop) (fl:=False) he
  obtain ⟨y,cap,rfl,h2⟩:=hx
  have hml:∀K:List α,K.length≤1000000→(K.flatMap enc).length≤1000000000000:=fun K hK=>by
   rw[hfl]
   have:=Nat.mul_le_mul hK hs1
   omega
  have fresh:∀(hh:Heap) (ws:List Value),ws=(L++M).flatMap enc→Le a hh→hh.nx=h.nx→hh.lo=h.lo→cL False ws e true hh fun b h'=>κ (.slice (some ⟨b,0,none⟩) (L.length+M.length) aM) h':=by
   intro hh ws hw Ty ZP hlo
   subst hw
   unfold cL
   rw[iu _ _ _ _ (hml _ (by simp; omega)),dx]
   refine hk _ _ (.inr ⟨hh.nx,by simp,Ty.nx,Nat.lt_succ_self _,by show hh.lo≤_; omega,T.af _ _ _⟩) (Ty.new _) (by show hh.nx+1≤_; omega) (by show h.nx≤hh.nx+1; omega)
  rcases ho with ⟨rfl,hv⟩ | ⟨b,rfl,h3,h4,h5,h6⟩
  ·have hF:=fresh h (M.flatMap enc) (by simp) hle rfl rfl
   simp only[List.length_nil,Nat.zero_add] at hF
   rcases hv with rfl | ⟨b,o,rfl⟩
   ·unfold bL kV
    simp only
    rw[iS]
    simp only[hm,bT]
    rw[show Nat.ble (Nat.add 0 (m+1)) 1000000000=true from Nat.ble_eq_true_of_le (by show 0+(m+1)≤_; omega)]
    rw[hm] at hF
    have e1:Nat.add 0 (m+1)=m+1:=by show 0+(m+1)=_; omega
    rw[e1]
    exact hF
   ·unfold bL kV
    simp only
    rw[iS]
    simp only[hm,bT]
    have e1:Nat.add 0 (m+1)=m+1:=by show 0+(m+1)=_; omega
    rw[e1,show Nat.ble (m+1) 1000000000=true from Nat.ble_eq_true_of_le (by omega)]
    rw[hm] at hF
    show dH False h s 0 _ _
    rw[jm _ _ _ _ _ (by simp)]
    exact hF
  ·unfold bL kV
   simp only
   rw[iS]
   simp only[hm,bT]
   have e1:Nat.add L.length (m+1)=L.length+(m+1):=rfl
   rw[e1,show Nat.ble (L.length+(m+1)) 1000000000=true from Nat.ble_eq_true_of_le (by omega)]
   have e2:Nat.beq aM fq=false:=by decide
   have e3:Nat.beq aM aM=true:=Nat.beq_refl _
   simp only[e2,e3,h6]
   have e4:Nat.ble (Nat.add 0 (Nat.mul (L.length+(m+1)) s)) (L.flatMap enc).length=false:=by
    rw[hfl]
    cases QO:Nat.ble (Nat.add 0 (Nat.mul (L.length+(m+1)) s)) (L.length*s) with
    | false=>rfl
    | true=>
     have h7:0+(L.length+(m+1))*s≤L.length*s:=Nat.le_of_ble_eq_true QO
     rw[Nat.add_mul,Nat.succ_mul] at h7
     omega
   have e5:(M.flatMap enc).all cZ=true:=by
    rw[List.all_flatMap]; simp only[List.all_eq_true]; intro x _; exact List.all_eq_true.1 (hone x)
   simp only[aa,Nat.beq_refl,e4,e5,Bool.and_self]
   have hh:Has (h.bl.get b) 0 (L.flatMap enc):=by rw[h6]; exact Has.all
   rw[iR hh s L.length _ _ _ (hfl L).symm,bU _ _ _ _ h5]
   have hF:=fresh ⟨h.nx,h.bl.aT b (.dead (L.flatMap enc).length e),h.lo⟩ (L.flatMap enc++M.flatMap enc) (by simp) (hle.set h3 _) rfl rfl
   rw[hm] at hF
   exact hF
end
end Go.Vai
namespace Go.Vai
open Go
theorem Ag (zs:List Value):aU zs 1=zs:=by simp[aU]
theorem uw (w:Bool):aj undef w=false:=by cases w<;>rfl
theorem Ms (a:Value) (l:List Value):slot (a::l) 0=a:=id rfl
theorem Mt (a:Value) (l:List Value) (n:Nat):slot (a::l) (n+1)=slot l n:=id rfl
theorem pz (l:List Value):(Value.cells (.agg ⟨l⟩)).toList=l:=id rfl
theorem pE (k:IntKind) (n:Int):(Value.cells (.int k n)).toList=[.int k n]:=id rfl
theorem nr (b:Bool):(Value.cells (.bool b)).toList=[.bool b]:=id rfl
theorem pF (a:Option Addr):(Value.cells (.pointer a)).toList=[.pointer a]:=id rfl
theorem lz (a:Option Addr) (n c:Nat):(Value.cells (.slice a n c)).toList=[.slice a n c]:=id rfl
theorem Ij (k:IntKind) (n:Int):cZ (.int k n)=true:=id rfl
theorem CX (b:Bool):cZ (.bool b)=true:=id rfl
theorem Ik (s:ByteArray):cZ (.string s)=true:=id rfl
theorem Il (a:Option Addr):cZ (.pointer a)=true:=id rfl
theorem Im (a:Option Addr) (n c:Nat):cZ (.slice a n c)=true:=id rfl
theorem Io (a:Option Nat):cZ (.map a)=true:=id rfl
theorem Ip (f:Fn) (a b:Array Value):cZ (.func f a b)=true:=id rfl
theorem Iq (t:TypeId) (v:Value):cZ (.iface t v)=true:=id rfl
theorem oD (vs ws:List Value) (h:ws.length=vs.length):over vs 0 ws=ws:=by simp[over,h]
variable {β:Type} {fl:β}
theorem Mu:∀(new old:List Value) (κ:List Value→β),new.length≤old.length→q9 fl new old κ=κ (over old 0 new):=by
 intro new
 induction new with
 | nil=>intro old κ _; rw[CO]; cases old<;>rfl
 | cons v new ih=>
  intro old κ h
  cases old with
  | nil=>simp at h
  | cons o old=>
   simp only[q9]
   rw[ih old _ (by simpa using h)]
   simp[over]
theorem QS (new:List Value):∀(o:Nat) (old:List Value) (κ:List Value→β),o+new.length≤old.length→cD fl new o old κ=κ (over old o new):=by
 intro o
 induction o with
 | zero=>
  intro old κ h
  have:cD fl new 0 old κ=q9 fl new old κ:=by cases old<;>rfl
  rw[this,Mu _ _ _ (by simpa using h)]
 | succ o ih=>
  intro old κ h
  cases old with
  | nil=>simp at h
  | cons v old=>
   simp only[cD]
   rw[ih old _ (by simp at h; omega)]
   simp[over,Nat.add_right_comm]
theorem rL (cs:List Value) (κ:List Value→β):br fl [] [] cs κ=κ cs:=id rfl
theorem pG (off size:Nat) (ps:List (Nat × Nat)) (v:Value) (vs cs:List Value) (κ:List Value→β) (h1:v.cells.toList.length=size) (h2:off+size≤cs.length) :
  br fl ((off,size)::ps) (v::vs) cs κ=br fl ps vs (over cs off v.cells.toList) κ:=by
 subst h1
 show (match Nat.beq v.cells.toList.length v.cells.toList.length with | false=>fl | true=>cD fl v.cells.toList off cs fun cs=>br fl ps vs cs κ)=_
 rw[Nat.beq_refl]
 simp only
 rw[QS _ _ _ _ h2]
theorem Mv (size:Nat) (v:Value) (cs:List Value) (κ:List Value→β) (h1:v.cells.toList.length=size) (h2:cs.length=size):br fl [(0,size)] [v] cs κ=κ v.cells.toList:=by
 rw[pG _ _ _ _ _ _ _ h1 (by omega),rL,oD _ _ (by omega)]
end Go.Vai

namespace Go.Vai
open Go
section
variable {β:Type} {fl:β} {P:Program} {h h':Heap} {κ:Value→Heap→β} {a a' b b' c c':Value}
@[congr] theorem Vc {op:BinOp} {t:TypeId} {cn gd:Bool} (ha:a=a') (hb:b=b'):au fl P op t cn gd a b h κ=au fl P op t cn gd a' b' h κ:=by rw[ha,hb]
@[congr] theorem ZR {op:UnOp} (ha:a=a'):jA fl op a h κ=jA fl op a' h κ:=by rw[ha]
@[congr] theorem Tz {k:IntKind} (ha:a=a'):kg fl k a h κ=kg fl k a' h κ:=by rw[ha]
@[congr] theorem TC (hc:c=c') (ha:a=a') (hb:b=b'):aX fl c a b h κ=aX fl c' a' b' h κ:=by rw[ha,hb,hc]
@[congr] theorem Vd (ha:a=a'):aJ fl a h κ=aJ fl a' h κ:=by rw[ha]
@[congr] theorem JY {o:Nat} (ha:a=a'):fieldAddrB fl o a h κ=fieldAddrB fl o a' h κ:=by rw[ha]
@[congr] theorem JZ {s:Nat} (ha:a=a') (hb:b=b'):aD fl s a b h κ=aD fl s a' b' h κ:=by rw[ha,hb]
@[congr] theorem J1 {n s:Nat} (ha:a=a') (hb:b=b'):kf fl n s a b h κ=kf fl n s a' b' h κ:=by rw[ha,hb]
@[congr] theorem QT {g:Bool} {s o:Nat} (ha:a=a'):qq fl g s o a h κ=qq fl g s o a' h κ:=by rw[ha]
@[congr] theorem QU {g:Bool} {n s:Nat} (ha:a=a') (hb:b=b'):vS fl g n s a b h κ=vS fl g n s a' b' h κ:=by rw[ha,hb]
@[congr] theorem QW (ha:a=a') (hb:b=b'):vT fl a b h κ=vT fl a' b' h κ:=by rw[ha,hb]
@[congr] theorem Mw {i:Nat} (ha:a=a'):ax fl i a h κ=ax fl i a' h κ:=by rw[ha]
@[congr] theorem TE (ha:a=a'):load1 fl a h κ=load1 fl a' h κ:=by rw[ha]
@[congr] theorem TF {s:Nat} (ha:a=a'):ay fl s a h κ=ay fl s a' h κ:=by rw[ha]
@[congr] theorem QX {s:Nat} (ha:a=a') (hb:b=b'):aI fl s a b h κ=aI fl s a' b' h κ:=by rw[ha,hb]
@[congr] theorem ZS {o o':Option bC} {i:Nat} {k:Value→β} (ho:o=o'):sF fl o i k=sF fl o' i k:=by rw[ho]
@[congr] theorem ZT {o o':Option bC} {i s:Nat} {k:List Value→β} (ho:o=o'):vz fl o i s k=vz fl o' i s k:=by rw[ho]
@[congr] theorem ZU {o o':Option bC} {s i j:Nat} {ws TG:List Value} {k:Heap→β} (ho:o=o') (hw:ws=TG) (hh:h=h'):QN fl o s i j ws h k=QN fl o' s i j TG h' k:=by rw[ho,hw,hh]
@[congr] theorem Ve {o o':Option Value} {k:Value→β} (ho:o=o'):Gj fl o k=Gj fl o' k:=by rw[ho]
@[congr] theorem Mx {o:bC} {k:Nat→Heap→β} (hh:h=h'):aq fl o h k=aq fl o h' k:=by rw[hh]
@[congr] theorem My {i:Nat} {o:bC} {k:Heap→β} (hh:h=h'):setBlock fl i o h k=setBlock fl i o h' k:=by rw[hh]
@[congr] theorem QY {ws TG:List Value} {e:TypeId} {g:Bool} {k:bC→β} (hw:ws=TG):aF fl ws e g k=aF fl TG e g k:=by rw[hw]
@[congr] theorem Mz {ws TG:List Value} {e:TypeId} {g:Bool} {k:Nat→Heap→β} (hw:ws=TG) (hh:h=h'):cL fl ws e g h k=cL fl TG e g h' k:=by rw[hw,hh]
@[congr] theorem TI {ps:List (Nat × Nat)} {vs vs' cs cs':List Value} {k:List Value→β} (hv:vs=vs') (hc:cs=cs'):br fl ps vs cs k=br fl ps vs' cs' k:=by rw[hv,hc]
@[congr] theorem QZ {e s:Nat} {l u m l' u' m':Option Value} (ha:a=a') (hl:l=l') (hu:u=u') (hm:m=m'):sliceB fl e s a l u m h κ=sliceB fl e s a' l' u' m' h κ:=by rw[ha,hl,hu,hm]
@[congr] theorem Q0 {l u m l' u' m':Option Value} (ha:a=a') (hl:l=l') (hu:u=u') (hm:m=m'):vQ fl a l u m h κ=vQ fl a' l' u' m' h κ:=by rw[ha,hl,hu,hm]
@[congr] theorem P5 {e s:Nat} {z:List Value} {g:Bool} (ha:a=a') (hb:b=b') (hh:h=h'):bL fl e s z g a b h κ=bL fl e s z g a' b' h' κ:=by rw[ha,hb,hh]
@[congr] theorem TJ {s:Nat} (ha:a=a') (hb:b=b'):B9 fl s a b h κ=B9 fl s a' b' h κ:=by rw[ha,hb]
@[congr] theorem Q3 {z:List Value} (ha:a=a'):jD fl z a h κ=jD fl z a' h κ:=by rw[ha]
@[congr] theorem Q4 (ha:a=a'):bB fl a h κ=bB fl a' h κ:=by rw[ha]
@[congr] theorem Q5 (ha:a=a'):vR fl a h κ=vR fl a' h κ:=by rw[ha]
@[congr] theorem Q6 (ha:a=a'):mZ fl a h κ=mZ fl a' h κ:=by rw[ha]
@[congr] theorem P6 {t:TypeId} {z:Value} {g:Bool} (ha:a=a') (hb:b=b'):cV fl P t z g a b h κ=cV fl P t z g a' b' h κ:=by rw[ha,hb]
@[congr] theorem J2 {t:TypeId} (ha:a=a') (hb:b=b') (hc:c=c'):cw fl P t a b c h κ=cw fl P t a' b' c' h κ:=by rw[ha,hb,hc]
@[congr] theorem P7 {t:TypeId} (ha:a=a') (hb:b=b'):kW fl P t a b h κ=kW fl P t a' b' h κ:=by rw[ha,hb]
@[congr] theorem Q7 (ha:a=a'):m_ fl a h κ=m_ fl a' h κ:=by rw[ha]
@[congr] theorem TK {f:β→β→β} (ha:a=a'):p9 fl f a h κ=p9 fl f a' h κ:=by rw[ha]
@[congr] theorem Q8 (ha:a=a'):ng fl a h κ=ng fl a' h κ:=by rw[ha]
@[congr] theorem Ir {t:TypeId} {z:Value} {g:Bool} (ha:a=a'):dV fl t z g a h κ=dV fl t z g a' h κ:=by rw[ha]
@[congr] theorem Vf (ha:a=a') (hb:b=b'):Ly fl a b h κ=Ly fl a' b' h κ:=by rw[ha,hb]
@[congr] theorem Vg (ha:a=a') (hb:b=b'):AM fl a b h κ=AM fl a' b' h κ:=by rw[ha,hb]
end
section
variable {P:Program} {h h':Heap} {κ:Value→Heap→Prop}
@[congr] theorem ZV {o o':Option Value} (ho:o=o'):av o h κ=av o' h κ:=by rw[ho]
@[congr] theorem ZW {o o':Option (bC × (Nat→Value))} (ho:o=o'):B8 o h κ=B8 o' h κ:=by rw[ho]
@[congr] theorem Q9 {b b':Bool} {f:(Value→Heap→Prop)→Prop} (hb:b=b'):ah b f h κ=ah b' f h κ:=by rw[hb]
@[congr] theorem TL {b b':Bool} {p:Prop} (hb:b=b'):bK b p=bK b' p:=by rw[hb]
@[congr] theorem TM {v v':Value} {A B:Prop} (hv:v=v'):aG v A B=aG v' A B:=by rw[hv]
@[congr] theorem TN {A:(List Value→Heap→Prop)→Prop} {B:List Value→Heap→Prop}:cT A B=cT A B:=rfl
@[congr] theorem TO {l l':List Value} {body:List Value→Heap→(List Value→Heap→Prop)→Prop} (hh:h=h'):dw l h body=dw l h' body:=by rw[hh]
@[congr] theorem TP {f:FuncId} {l l':List Value} (hl:l=l') (hh:h=h'):CallW P f l h κ=CallW P f l' h' κ:=by rw[hl,hh]
@[congr] theorem TQ {v v':Value} {l l':List Value} (hv:v=v') (hl:l=l') (hh:h=h'):eU P v l h κ=eU P v' l' h' κ:=by rw[hv,hl,hh]
@[congr] theorem TS {n:String} {v v':Value} {l l':List Value} (hv:v=v') (hl:l=l') (hh:h=h'):CallI P n v l h κ=CallI P n v' l' h' κ:=by rw[hv,hl,hh]
end
end Go.Vai

namespace Go.Vai
open Go Go.RowKit Go.WideShapes Go.ChangeShapes
variable {P:Program}
theorem MA {φ φ':dG} {h h':Heap} {w w':World} (hx:Ext φ φ' h h' w w') (hro:∀b pl,φ b=some pl→b<h.lo∧∃o,h.bl.get b=some o∧o.live):Below w.heap.size w w':=by
 refine ⟨hx.os,hx.tape,hx.output,hx.size,fun B hB=>?_⟩
 by_cases he:∃b pl,φ b=some pl∧pl.B=B
 ·obtain ⟨b,pl,h1,rfl⟩:=he
  obtain ⟨h2,o,h3,h4⟩:=hro b pl h1
  exact hx.FI b o pl h2 h3 h4 h1 hB
 ·exact hx.ze B hB fun b pl h1 h2=>he ⟨b,pl,h1,h2⟩
theorem Q_ {f:FuncId} {args args':List Value} {φ:dG} {h:Heap} {w:World} (hc:CallW P f args h Be) (ha:F2 (VR φ) args args') (hr:HR P φ h w) (hro:∀b pl,φ b=some pl→b<h.lo∧∃o,h.bl.get b=some o∧o.live) :
  Calls P f args'.toArray w fun e w'=>e=.returned (.bool true)∧Below w.heap.size w w':=by
 refine Calls.mono (hc φ w args' ha hr).2 ?_
 rintro e w' ⟨φ',v,v',h',rfl,g1,g2,g3,g4⟩
 have g1:v=.bool true:=g1
 subst g1
 cases g2
 exact ⟨rfl,MA g4 hro⟩
section
variable {α:Type} {cE:α→List Value} {s:Nat}
def jM (cE:α→List Value) (w:World) (v:Value) (L:List α):Prop:=
 (L=[]∧(v=.slice none 0 0∨∃a cap,v=.slice (some a) 0 cap))∨
 ∃B o cap C e fz,v=.slice (some ⟨B,o,none⟩) L.length cap∧L.length≤cap∧cap≤maxLen∧w.heap[B]? = some (.cells C e fz)∧o+(L.flatMap cE).length≤C.size∧∀j u,(L.flatMap cE)[j]? = some u→C[o+j]? = some u
theorem CY {n:Nat} {p:Nat→α→Prop} (h:∀i,i<n→∃x,p i x):∃L:List α,L.length=n∧∀i a,L[i]? = some a→p i a:=by
 induction n with
 | zero=>exact ⟨[],rfl,fun i a e=>by simp at e⟩
 | succ n ih=>
  obtain ⟨L,h1,h2⟩:=ih fun i hi=>h i (Nat.lt_succ_of_lt hi)
  obtain ⟨a,ha⟩:=h n (Nat.lt_succ_self n)
  refine ⟨L++[a],by simp[h1],fun i b e=>?_⟩
  rcases Nat.lt_or_ge i n with hi | hi
  ·rw[List.getElem?_append_left (by omega)] at e; exact h2 i b e
  ·have:i=n:=by
    have:=(List.getElem?_eq_some_iff.1 e).1
    simp[h1] at this; omega
   subst this
   rw[List.getElem?_append_right (by omega),h1] at e
   simp at e; subst e; exact ha
theorem Bf (he:∀a:α,(cE a).length=s) (hs:0<s):∀(L:List α) (j:Nat) (u:Value),(L.flatMap cE)[j]? = some u→∃a,L[j / s]? = some a∧(cE a)[j % s]? = some u:=by
 intro L
 induction L with
 | nil=>intro j u e; simp at e
 | cons a L ih=>
  intro j u e
  simp only[List.flatMap_cons] at e
  rcases Nat.lt_or_ge j s with hj | hj
  ·rw[List.getElem?_append_left (by rw[he]; exact hj)] at e
   rw[Nat.div_eq_of_lt hj,Nat.mod_eq_of_lt hj]
   exact ⟨a,rfl,e⟩
  ·rw[List.getElem?_append_right (by rw[he]; exact hj),he] at e
   obtain ⟨b,h1,h2⟩:=ih (j-s) u e
   refine ⟨b,?_,?_⟩
   ·rw[Nat.div_eq_sub_div hs hj]; simpa using h1
   ·rw[Nat.mod_eq_sub_mod hj]; exact h2
theorem MB {H:Type} {enc:TypeId × Value→H} {w:World} {t e:TypeId} {fuel:Nat} {v:Value} {x:DataW H × List MemPlace} (he:∀a:α,(cE a).length=s) (hs:0<s) (ht:P.underlying t=some (.slice e)) (hc:P.cellsOf e=s)
  (Gl:∀(n:Nat) (cs:List Value) (d:DataW H × List MemPlace),cs.length=s→DataW.trod enc P w 0 (fun _=>true) true n e cs=some d→∃a:α,cs=cE a)
  (h:DataW.trod enc P w 0 (fun _=>true) true fuel t [v]=some x):∃L:List α,jM cE w v L:=by
 rcases Go.Deep.open_slice ht h with ⟨h1,_⟩ | ⟨a,len,cap,m,n,D,Pl,h1,hb,hl,hm,ZN,hx,hi⟩
 ·cases h1; exact ⟨[],.inl ⟨rfl,.inl rfl⟩⟩
 ·cases h1
  simp only[if_true] at ZN
  subst ZN
  by_cases hlen:len=0
  ·subst hlen; exact ⟨[],.inl ⟨rfl,.inr ⟨a,_,rfl⟩⟩⟩
  ·have hel:∀i,i<len→∃p:α,∀j u,(cE p)[j]? = some u→w.cell? (a.add (i*s+j))=some u:=by
    intro i hil
    obtain ⟨cs,h2,h3⟩:=hi i (by omega)
    rw[hc] at h2
    obtain ⟨_,h4,h5⟩:=World.cells?_some h2
    obtain ⟨p,rfl⟩:=Gl n cs _ h4 h3
    refine ⟨p,fun j u hj=>?_⟩
    have hjs:j<s:=by have:=(List.getElem?_eq_some_iff.1 hj).1; rwa [he] at this
    have:=h5 j hjs
    rw[Go.Deep.add_add] at this
    rw[this,hj]
   obtain ⟨L,hL,hp⟩:=CY hel
   have hcell:∀j u,(L.flatMap cE)[j]? = some u→w.cell? (a.add j)=some u:=by
    intro j u hj
    obtain ⟨p,g1,g2⟩:=Bf he hs L j u hj
    have:=hp _ p g1 _ u g2
    rwa [Nat.mul_comm,Nat.div_add_mod] at this
   have hfl:=bf (enc:=cE) he L
   have hpos:0<(L.flatMap cE).length:=by rw[hfl,hL]; exact Nat.mul_pos (by omega) hs
   have h0:=hcell 0 _ (List.getElem?_eq_getElem hpos)
   have ha0:a.add 0=a:=by simp[Addr.add]
   rw[ha0] at h0
   obtain ⟨B,o,sp⟩:=a
   unfold World.cell? at h0
   split at h0<;>try contradiction
   rename_i C e' fz hC
   cases sp with
   | some q=>simp at h0
   | none=>
    refine ⟨L,.inr ⟨B,o,m,C,e',fz,by rw[hL],by omega,hm,hC,?_,?_⟩⟩
    ·have CZ:=hcell ((L.flatMap cE).length-1) _ (List.getElem?_eq_getElem (by omega))
     have LK:(⟨B,o,none⟩:Addr).add ((L.flatMap cE).length-1)=⟨B,o+((L.flatMap cE).length-1),none⟩:=by unfold Addr.add; split<;>simp_all
     rw[LK] at CZ
     simp only[World.cell?,hC] at CZ
     have:=(Array.getElem?_eq_some_iff.1 CZ).1
     omega
    ·intro j u hj
     have hx:=hcell j u hj
     have LK:(⟨B,o,none⟩:Addr).add j=⟨B,o+j,none⟩:=by unfold Addr.add; split<;>simp_all
     rw[LK] at hx
     simpa[World.cell?,hC] using hx
def wV:Heap:=⟨0,.nil,0⟩
def aaS:dG:=fun _=>none
theorem MC (w:World):HR P aaS wV w:=HR.start w
end
section
variable {H:Type} {enc:TypeId × Value→H}
theorem post_of_law {f:Func} {s:ChangeSpec} {apart fresh handsOn again:Bool} {W W':World} {args:Array Value} {v:Value} {ds gs:List (DataW H)} {before pa pv:List MemPlace}
  (hW:DataW.Whole enc P f.params.toList s.vars apart W args.toList ds gs before)
  (hres:∀(b:Nat) (sp:Nat→Bool) (hd:Bool),DataW.TrodAll enc P W' b sp hd f.resultTypes.toList (v.resultList f.resultTypes.size) (s.fn H (ds++gs)).results [])
  (hargs:∀sp:Nat→Bool,(∀p∈before,sp p.block=true)→DataW.TrodAll enc P W' 0 sp true f.params.toList args.toList (s.fn H (ds++gs)).args pa)
  (hvars:∀sp:Nat→Bool,(∀p∈before,sp p.block=true)→DataW.TrodVars enc P W' sp s.vars (s.fn H (ds++gs)).vars pv)
  (hps:before=pa++pv) (hb:Below W.heap.size W W')
  (hok:∀(j:Nat) (t:TypeId) (r:Value),f.resultTypes[j]? = some t→(v.resultList f.resultTypes.size)[j]? = some r→Value.okWide P W' .any 0 t r) :
  s.post enc P f apart fresh handsOn again W args v W':=by
 have hlt:∀p∈before,p.block<W.heap.size:=fun p hp=>hW.lt p hp
 have hold:∀p∈before,(fun b=>decide (b<W.heap.size)) p.block=true:=fun p hp=>by simpa using hlt p hp
 refine ⟨ds,gs,before,[],pa,pv,hW,hres _ _ _,hargs _ hold,hvars _ hold,World.keptBut_mono (fun p hp=>⟨hp,?_⟩) (hb.frame (·∈before)),fun _=>?_⟩
 ·rw[hps,List.mem_append] at hp
  exact Or.inr hp
 ·obtain ⟨_,_,_,_,_,hz,hn⟩:=hW
  refine ⟨hok,_,_,([]++pa)++pv,⟨[]++pa,pv,trodAll_append (hargs _ (fun _ _=>rfl)) (hres _ _ _),hvars _ (fun _ _=>rfl),rfl,?_,?_⟩,?_⟩
  ·intro b off hp
   have hin:MemPlace.cell b off∈before:=by rw[hps]; simpa using hp
   rw[hb.frozen (hlt _ hin)]
   exact hz b off hin
  ·intro ha
   have:=hn ha
   rw[hps] at this
   simpa using this
  ·intro p hp _
   rw[hps]
   simpa using hp
theorem arg_stays {t:TypeId} (hl:laidOutB P=true) (hr:P.readableRec t=true) (hrow:t<P.types.size) {W W':World} {v:Value} {d:DataW H} {ps:List MemPlace}
  (h:DataW.Trod enc P W 0 (fun _=>true) true t v d ps) (hb:Below W.heap.size W W') (hlt:∀x∈ps,x.block<W.heap.size) {sp:Nat→Bool} (hsp:∀x∈ps,sp x.block=true) :
  DataW.Trod enc P W' 0 sp true t v d ps:=
 WideElems.Trod_stays hl hr hrow h (fun x hx=>hb.same (hlt x hx)) (fun x hx=>by simpa using hsp x hx)
end
end Go.Vai
namespace Go.Vai
open Go Go.RowKit
variable {P:Program}
theorem gT {f:FuncId} {args:List Value} {v:Value} (ha:args.all mj=true) (hv:mj v=true) (hc:CallW P f args wV fun u _=>u=v) {h:Heap} {κ:Value→Heap→Prop} (hk:κ v h):CallW P f args h κ:=by
 intro φ w args' hf hr
 have:=CW ha hf
 subst this
 obtain ⟨c1,c2⟩:=hc aaS w args' (CV ha) (MC w)
 refine ⟨c1,c2.mono ?_⟩
 rintro e w' ⟨φ',v1,v',h',rfl,rfl,g2,g3,g4⟩
 have hfr:∀B,B<w.heap.size→w'.heap[B]? = w.heap[B]?:=fun B hB=>g4.ze B hB fun b pl e=>by cases e
 refine ⟨φ,v1,v',h,rfl,hk,by rw[nk hv g2]; exact Bd hv,?_,?_⟩
 ·exact ⟨fun b o pl h1 h2=>by rw[hfr _ (hr.dom b pl h2).2]; exact hr.obj b o pl h1 h2,fun b pl h1=>⟨(hr.dom b pl h1).1,Nat.lt_of_lt_of_le (hr.dom b pl h1).2 g4.size⟩,hr.keys,hr.LI,hr.inj,hr.lo⟩
 ·exact ⟨Sub.refl φ,fun b pl e e'=>(by rw[e] at e'; cases e'),Nat.le_refl _,g4.size,fun B hB _=>hfr B hB,fun _ _ _=>rfl,g4.tape,g4.os,g4.output,fun _ _=>trivial,rfl,fun _ _=>rfl,fun b o pl _ _ _ _ hB=>hfr _ hB,g4.dr⟩
theorem C0 (u v:Value):bP (some u) v=jX 8 u v:=id rfl
theorem Ah (zs:List Value):aU zs 0=[]:=id rfl
theorem Ai (a:Value):aU [a] 2=[a,a]:=by simp[aU]
theorem MD (a:Value) (l:List Value) (n:Nat) (ws:List Value):over (a::l) (n+1) ws=a::over l n ws:=by simp[over,Nat.add_right_comm]
theorem ME (a w:Value) (l ws:List Value):over (a::l) 0 (w::ws)=w::over l 0 ws:=by simp[over]
theorem MF (l:List Value):over l 0 []=l:=by simp[over]
theorem C1 (u:Value):reN (some u)=true:=id rfl
theorem C2 (r:Bool):reG true r=r:=id rfl
theorem Aj (r:Bool):reG false r=true:=id rfl
theorem h_ (n:Nat):Nat.beq n n=true:=Nat.beq_refl n
theorem J4 (n:Int):q8 n n=true:=by rw[fI]; simp
theorem C3 (k:IntKind):gI k k=true:=by rw[fm]; simp
theorem Ra (n:Nat) (k:IntKind) (a:Int):jX (n+1) (.int k a) (.int k a)=true:=by unfold jX; simp[C3,J4]
theorem nu (k:IntKind) (a:Int):jX 8 (.int k a) (.int k a)=true:=Ra 7 k a
theorem mG (a:Bool):jX 8 (.bool a) (.bool a)=true:=by unfold jX; simp
theorem Is (b o:Nat):jX 8 (.pointer (some ⟨b,o,none⟩)) (.pointer (some ⟨b,o,none⟩))=true:=by unfold jX; simp[h_]
theorem gu (b o n c:Nat):jX 8 (.slice (some ⟨b,o,none⟩) n c) (.slice (some ⟨b,o,none⟩) n c)=true:=by unfold jX; simp[h_]
theorem rM (n c:Nat):jX 8 (.slice none n c) (.slice none n c)=true:=by unfold jX; simp[h_]
theorem tf (n:Nat) (l:List Int):vO (jX (n+1)) (l.map (Value.int .i64)) (l.map (Value.int .i64))=true:=by
 induction l with
 | nil=>rfl
 | cons a l ih=>simp only[List.map_cons,vO,Ra,ih,Bool.and_self]
theorem C4 (l:List Int):jX 8 (.agg ⟨l.map (.int .i64)⟩) (.agg ⟨l.map (.int .i64)⟩)=true:=by
 unfold jX; exact tf 6 l
theorem TT (a b:Int):jX 8 (.agg ⟨[.int .i64 a,.int .i64 b]⟩) (.agg ⟨[.int .i64 a,.int .i64 b]⟩)=true:=C4 [a,b]
theorem TU (a b c d:Int):jX 8 (.agg ⟨[.int .i64 a,.int .i64 b,.int .i64 c,.int .i64 d]⟩) (.agg ⟨[.int .i64 a,.int .i64 b,.int .i64 c,.int .i64 d]⟩)=true:=C4 [a,b,c,d]
end Go.Vai
namespace Go.Vai
open Go
variable {β:Type} {fl:β}
theorem wW (n:Nat) (d:Nat) (κ:Nat→β):AL fl (some (.int .i64 (n:Int))) d κ=κ n:=id rfl
theorem tg (d:Nat) (κ:Nat→β):AL fl none d κ=κ d:=id rfl
theorem Gm {h:Heap} {e s b n i:Nat} {vs:List Value} (hs:0<s) (hb:h.bl.get b=some (aa vs e true)) (hvs:vs.length=n*s) (hi:i<n) (κ:Value→Heap→β) :
  sliceB fl e s (.slice (some ⟨b,0,none⟩) n aM) (some (.int .i64 (i:Int))) none none h κ=κ (.slice (some ⟨b,i*s,none⟩) (n-i) aM) h:=by
 obtain ⟨s,rfl⟩:∃k,s=k+1:=⟨s-1,by omega⟩
 have hk:fG h e b=some (n*(s+1)):=by unfold fG; rw[hb]; simp only[aa,h_,hvs]
 have hd:Nat.div (Nat.sub (n*(s+1)) 0) (s+1)=n:=by show (n*(s+1)-0) / (s+1)=n; rw[Nat.sub_zero,Nat.mul_div_cancel _ (by omega)]
 have e1:Nat.beq aM fq=false:=by decide
 have e2:Nat.beq aM aM=true:=Nat.beq_refl _
 have e3:Nat.ble 0 (n*(s+1))=true:=Nat.ble_eq_true_of_le (Nat.zero_le _)
 have e4:Nat.ble i n=true:=Nat.ble_eq_true_of_le (by omega)
 have e5:Nat.ble n n=true:=Nat.ble_eq_true_of_le (Nat.le_refl _)
 have e6:Nat.beq i n=false:=by
  cases hq:Nat.beq i n with
  | false=>rfl
  | true=>have:=bY hq; omega
 unfold sliceB gW
 simp only[e1,e2,hk,e3,hd,wW,tg,e4,e5,e6,bT]
 show κ (.slice (some ⟨b,0+i*(s+1),none⟩) (n-i) aM) h=_
 rw[Nat.zero_add]
theorem wX {h:Heap} {e s b n m i:Nat} {vs:List Value} (hs:0<s) (hb:h.bl.get b=some (aa vs e true)) (hvs:vs.length=n*s) (hn:0<n) (hi:i≤n) (κ:Value→Heap→β) :
  sliceB fl e s (.slice (some ⟨b,0,none⟩) m aM) none (some (.int .i64 (i:Int))) none h κ=κ (.slice (some ⟨b,0,none⟩) i aM) h:=by
 obtain ⟨s,rfl⟩:∃k,s=k+1:=⟨s-1,by omega⟩
 have hk:fG h e b=some (n*(s+1)):=by unfold fG; rw[hb]; simp only[aa,h_,hvs]
 have hd:Nat.div (Nat.sub (n*(s+1)) 0) (s+1)=n:=by show (n*(s+1)-0) / (s+1)=n; rw[Nat.sub_zero,Nat.mul_div_cancel _ (by omega)]
 have e1:Nat.beq aM fq=false:=by decide
 have e2:Nat.beq aM aM=true:=Nat.beq_refl _
 have e3:Nat.ble 0 (n*(s+1))=true:=Nat.ble_eq_true_of_le (Nat.zero_le _)
 have e4:Nat.ble 0 i=true:=Nat.ble_eq_true_of_le (Nat.zero_le _)
 have e5:Nat.ble i n=true:=Nat.ble_eq_true_of_le hi
 have e6:Nat.beq 0 n=false:=by
  cases hq:Nat.beq 0 n with
  | false=>rfl
  | true=>have:=bY hq; omega
 unfold sliceB gW
 simp only[e1,e2,hk,e3,hd,wW,tg,e4,e5,e6,bT]
 show κ (.slice (some ⟨b,0+0*(s+1),none⟩) (i-0) aM) h=_
 rw[Nat.zero_mul,Nat.sub_zero]
theorem uy {h:Heap} {b o n c e:Nat} {op:Bool} {vs zero:List Value} (hb:h.bl.get b=some (aa vs e op)) (hn:0<n) (hl:o+(aU zero n).length≤vs.length) (h1:(aU zero n).all cZ=true) (hlo:h.lo≤b) (κ:Value→Heap→β) :
  jD fl zero (.slice (some ⟨b,o,none⟩) n c) h κ=κ (.tuple #[]) ⟨h.nx,h.bl.aT b (aa (over vs o (aU zero n)) e op),h.lo⟩:=by
 obtain ⟨n,rfl⟩:∃k,n=k+1:=⟨n-1,by omega⟩
 unfold jD
 simp only[hb,aa]
 rw[tc _ _ _ _ _ hl h1,bU _ _ _ _ hlo,Ba _ _ _ hl,lu hl]
end Go.Vai
namespace Go.Vai
open Go Go.RowKit Go.WideShapes Go.ChangeShapes
section
variable {P:Program} {α:Type} {cE:α→List Value} {s:Nat} {H:Type} {enc:TypeId × Value→H}
theorem open_sliceArg {W:World} {t e:TypeId} {v:Value} {d:DataW H} {p:List MemPlace} {base:Nat} (he:∀a:α,(cE a).length=s) (hs:0<s) (ht:P.underlying t=some (.slice e)) (hc:P.cellsOf e=s)
  (Gl:∀(n:Nat) (cs:List Value) (d:DataW H × List MemPlace),cs.length=s→DataW.trod enc P W 0 (fun _=>true) true n e cs=some d→∃a:α,cs=cE a)
  (hw:Value.okWide P W .any base t v) (h:DataW.Trod enc P W 0 (fun _=>true) true t v d p):∃L:List α,jM cE W v L:=by
 obtain ⟨fuel,hf⟩:=h
 have hcs:v.cells.toList=[v]:=by
  unfold Value.okWide at hw
  rw[ht] at hw
  simp only at hw
  unfold Cell.okWide Cell.ok at hw
  rw[ht] at hw
  cases v<;>first | rfl | (simp at hw)
 rw[hcs] at hf
 exact MB he hs ht hc Gl hf
end
end Go.Vai

namespace Go.Vai
open Go
theorem TV:(!true)=false:=id rfl
theorem TW:(!false)=true:=id rfl
theorem aaT:decide True=true:=by simp
theorem aaU:decide False=false:=by simp
theorem Ld0 (l:List Value):l.drop 0=l:=id rfl
theorem Lts (a:Value) (l:List Value) (n:Nat):(a::l).take (n+1)=a::l.take n:=id rfl
theorem Lt0 (l:List Value):l.take 0=[]:=id rfl
theorem Lds (a:Value) (l:List Value) (n:Nat):(a::l).drop (n+1)=l.drop n:=id rfl
theorem Lg0 (a:Value) (l:List Value):(a::l)[0]? = some a:=id rfl
theorem Lgs (a:Value) (l:List Value) (n:Nat):(a::l)[n+1]? = l[n]?:=id rfl
theorem TX (b:Bool):(b && true)=b:=by cases b<;>rfl
theorem TY (b:Bool):(true && b)=b:=by cases b<;>rfl
theorem TZ (b:Bool):(b && b)=b:=by cases b<;>rfl
theorem Lac (p:Value→Bool) (a:Value) (l:List Value):(a::l).all p=(p a && l.all p):=id rfl
theorem Lan (p:Value→Bool):([]:List Value).all p=true:=id rfl
theorem Llc (a:Value) (l:List Value):(a::l).length=l.length+1:=id rfl
theorem Lln:([]:List Value).length=0:=id rfl
theorem Nza (n:Nat):0+n=n:=by omega
theorem Naz (n:Nat):n+0=n:=by omega
theorem Wz2:type_of% (And.intro (And.intro (And.intro (And.intro (And.intro (And.intro @CP @CQ) (And.intro @Aa (And.intro @dx @pq))) (And.intro (And.intro @Mm (And.intro @ta @Mn)) (And.intro @td (And.intro @iu @z_)))) (And.intro (And.intro (And.intro @CS (And.intro @wQ @wR)) (And.intro @wS (And.intro @ur @uw))) (And.intro (And.intro @uu (And.intro @rI @wT)) (And.intro @uv (And.intro @H7 @H8))))) (And.intro (And.intro (And.intro (And.intro @H9 (And.intro @H_ @Ia)) (And.intro @Ib (And.intro @Ic @Ie))) (And.intro (And.intro @Ig (And.intro @Ih @Mo)) (And.intro @Mp (And.intro @CT @Ab)))) (And.intro (And.intro (And.intro @wU (And.intro @eV @rJ)) (And.intro @Ii (And.intro @nj @Ac))) (And.intro (And.intro @Ad (And.intro @Ae @CU)) (And.intro @eY (And.intro @cW @aaR)))))) (And.intro (And.intro (And.intro (And.intro (And.intro @Mq @Tx) (And.intro @T.af (And.intro @T.ai @T.wP))) (And.intro (And.intro @TV (And.intro @TW @aaT)) (And.intro @aaU (And.intro @Ld0 @Lts)))) (And.intro (And.intro (And.intro @Lt0 (And.intro @Lds @Lg0)) (And.intro @Lgs (And.intro @Nza @Naz))) (And.intro (And.intro @Ms (And.intro @Mt @pz)) (And.intro @pE (And.intro @nr @pF))))) (And.intro (And.intro (And.intro (And.intro @lz (And.intro @oD @Mv)) (And.intro @rL (And.intro @pG @Ah))) (And.intro (And.intro @Ag (And.intro @Ai @MD)) (And.intro @ME (And.intro @MF @C0)))) (And.intro (And.intro (And.intro @C1 (And.intro @C2 @Aj)) (And.intro @nu (And.intro @mG @Is))) (And.intro (And.intro @gu (And.intro @rM @TT)) (And.intro @TU (And.intro @TX @TY))))))):=(And.intro (And.intro (And.intro (And.intro (And.intro (And.intro @CP @CQ) (And.intro @Aa (And.intro @dx @pq))) (And.intro (And.intro @Mm (And.intro @ta @Mn)) (And.intro @td (And.intro @iu @z_)))) (And.intro (And.intro (And.intro @CS (And.intro @wQ @wR)) (And.intro @wS (And.intro @ur @uw))) (And.intro (And.intro @uu (And.intro @rI @wT)) (And.intro @uv (And.intro @H7 @H8))))) (And.intro (And.intro (And.intro (And.intro @H9 (And.intro @H_ @Ia)) (And.intro @Ib (And.intro @Ic @Ie))) (And.intro (And.intro @Ig (And.intro @Ih @Mo)) (And.intro @Mp (And.intro @CT @Ab)))) (And.intro (And.intro (And.intro @wU (And.intro @eV @rJ)) (And.intro @Ii (And.intro @nj @Ac))) (And.intro (And.intro @Ad (And.intro @Ae @CU)) (And.intro @eY (And.intro @cW @aaR)))))) (And.intro (And.intro (And.intro (And.intro (And.intro @Mq @Tx) (And.intro @T.af (And.intro @T.ai @T.wP))) (And.intro (And.intro @TV (And.intro @TW @aaT)) (And.intro @aaU (And.intro @Ld0 @Lts)))) (And.intro (And.intro (And.intro @Lt0 (And.intro @Lds @Lg0)) (And.intro @Lgs (And.intro @Nza @Naz))) (And.intro (And.intro @Ms (And.intro @Mt @pz)) (And.intro @pE (And.intro @nr @pF))))) (And.intro (And.intro (And.intro (And.intro @lz (And.intro @oD @Mv)) (And.intro @rL (And.intro @pG @Ah))) (And.intro (And.intro @Ag (And.intro @Ai @MD)) (And.intro @ME (And.intro @MF @C0)))) (And.intro (And.intro (And.intro @C1 (And.intro @C2 @Aj)) (And.intro @nu (And.intro @mG @Is))) (And.intro (And.intro @gu (And.intro @rM @TT)) (And.intro @TU (And.intro @TX @TY)))))))
theorem Wx:type_of% (And.intro (And.intro (And.intro @Lac @Lan) (And.intro @Ij (And.intro @CX @Ik))) (And.intro (And.intro @Il (And.intro @Im @Io)) (And.intro @Ip (And.intro @Iq @TZ)))):=(And.intro (And.intro (And.intro @Lac @Lan) (And.intro @Ij (And.intro @CX @Ik))) (And.intro (And.intro @Il (And.intro @Im @Io)) (And.intro @Ip (And.intro @Iq @TZ))))
theorem Wy:type_of% (And.intro (And.intro @pz (And.intro @pE @nr)) (And.intro (And.intro @pF @lz) (And.intro @Llc @Lln))):=(And.intro (And.intro @pz (And.intro @pE @nr)) (And.intro (And.intro @pF @lz) (And.intro @Llc @Lln)))
theorem Wv:type_of% (And.intro @Llc @Lln):=(And.intro @Llc @Lln)
theorem Wz0 (b:Nat):ptrTo b=.pointer (some ⟨b,0,none⟩):=id rfl
theorem Wz1 (n c b:Nat):sliceTo n c b=.slice (some ⟨b,0,none⟩) n c:=id rfl
theorem Wz:type_of% (And.intro (And.intro @Wz0 @Wz1) Wz2):=And.intro (And.intro @Wz0 @Wz1) Wz2
theorem Wd:type_of% (And.intro Wx Wy):=And.intro Wx Wy
end Go.Vai

namespace Go.Vai
open Go Go.RowKit
section
variable {α:Type} {s:Nat} {enc:α→List Value}
def Cut (e s:Nat) (h:Heap) (v:Value) (k:Nat):Prop:=
 (k=0∧v=.slice none 0 0)∨(k=0∧∃b o,v=.slice (some ⟨b,o,none⟩) 0 fq)∨
 (∃b o cap,v=.slice (some ⟨b,o,none⟩) k cap∧k≤cap∧cap≤9223372036854775807)∨
 ∃b vs n,v=.slice (some ⟨b,0,none⟩) k aM∧b<h.nx∧h.bl.get b=some (aa vs e true)∧vs.length=n*s∧k≤n
theorem Cut.le {e s:Nat} {h h':Heap} {v:Value} {k:Nat} (c:Cut e s h v k) (l:Le h h'):Cut e s h' v k:=by
 rcases c with c | c | c | ⟨b,vs,n,c1,c2,c3,c4,c5⟩
 ·exact .inl c
 ·exact .inr (.inl c)
 ·exact .inr (.inr (.inl c))
 ·exact .inr (.inr (.inr ⟨b,vs,n,c1,Nat.lt_of_lt_of_le c2 l.nx,(l.get b c2).trans c3,c4,c5⟩))
theorem Cut.own {a h:Heap} {e:TypeId} {v:Value} {L:List α} (he:∀a:α,(enc a).length=s) (ho:gL enc a e h v L):Cut e s h v L.length:=by
 rcases ho with ⟨rfl,rfl | ⟨b,o,rfl⟩⟩ | ⟨b,rfl,h1,h2,h3,h4⟩
 ·exact .inl ⟨rfl,rfl⟩
 ·exact .inr (.inr (.inl ⟨b,o,0,rfl,Nat.le_refl _,by omega⟩))
 ·exact .inr (.inr (.inr ⟨b,_,L.length,rfl,h2,h4,bf he L,Nat.le_refl _⟩))
theorem ny (he:∀a:α,(enc a).length=s) (L:List α):∀i,(L.flatMap enc).take (i*s)=(L.take i).flatMap enc:=by
 induction L with
 | nil=>intro i; simp
 | cons a L ih=>
  intro i
  cases i with
  | zero=>simp
  | succ i=>
   simp only[List.flatMap_cons,List.take_succ_cons]
   rw[List.take_append,←ih i,he,List.take_of_length_le (by rw[he,Nat.succ_mul]; omega),show (i+1)*s-s=i*s by rw[Nat.succ_mul]; omega]
end
end Go.Vai

namespace Go.Vai
open Go Go.RowKit
open Classical
variable {P:Program}
def Iu (w:World) (B:Nat):Prop:=∃C e fz,w.heap[B]? = some (.cells C e fz)
def nK (w:World) (v:Value):Prop:=
 jg v=true∨v=.slice none 0 0∨(∃a c,v=.slice (some a) 0 c)∨∃B o n c,v=.slice (some ⟨B,o,none⟩) n c∧n≤c∧c≤maxLen∧Iu w B
def lS:Value→Value
 | .slice (some a) 0 c=>.slice (some ⟨0,0,none⟩) 0 fq
 | v=>v
def goodA (w:World):Value→Prop
 | .agg cs=>∀v∈cs.toList,nK w v
 | v=>nK w v
def absA:Value→Value
 | .agg cs=>.agg ⟨cs.toList.map lS⟩
 | v=>lS v
theorem Ak {v:Value} (h:jg v=true):lS v=v:=by cases v<;>first | rfl | cases h
noncomputable def zp (w:World):dG:=fun b=>if Iu w b then some ⟨b,0,0⟩ else none
noncomputable def zq (w:World) (v:Value) (t:T Value) (o:Nat):T Value:=if nK w v then t.aT o (lS v) else t
theorem Iv (w:World) (v:Value) (t:T Value) {o i:Nat} (h:o≠i):(zq w v t o).get i=t.get i:=by
 unfold zq
 by_cases hg:nK w v
 ·rw[if_pos hg]; exact T.ai _ _ h
 ·rw[if_neg hg]
theorem Al {w:World} {v:Value} (hg:nK w v) (t:T Value) (o:Nat):(zq w v t o).get o=some (lS v):=by
 unfold zq; rw[if_pos hg]; exact T.af _ _ _
theorem MG {w:World} {v:Value} (hg:¬nK w v) (t:T Value) (o:Nat):(zq w v t o)=t:=by
 unfold zq; rw[if_neg hg]
noncomputable def mH (w:World):List Value→T Value→Nat→T Value
 | [],t,_=>t
 | v::vs,t,o=>mH w vs (zq w v t o) (o+1)
theorem Am (w:World) (vs:List Value):∀(t:T Value) (o i:Nat),i<o→(mH w vs t o).get i=t.get i:=by
 induction vs with
 | nil=>intro t o i _; rfl
 | cons v vs ih=>
  intro t o i h
  show (mH w vs (zq w v t o) (o+1)).get i=_
  rw[ih _ _ _ (by omega),Iv _ _ _ (by omega)]
theorem Gp (w:World) (vs:List Value):∀(t:T Value) (o i:Nat) (v:Value),vs[i]? = some v→nK w v→(mH w vs t o).get (o+i)=some (lS v):=by
 induction vs with
 | nil=>intro t o i v h; simp at h
 | cons u vs ih=>
  intro t o i v h hg
  show (mH w vs (zq w u t o) (o+1)).get _=_
  cases i with
  | zero=>
   simp only[List.getElem?_cons_zero,Option.some.injEq] at h
   subst h
   rw[Am _ _ _ _ _ (by omega)]
   exact Al hg _ _
  | succ i=>
   rw[show o+(i+1)=(o+1)+i by omega]
   exact ih _ _ _ _ (by simpa using h) hg
theorem Gq (w:World) (vs:List Value):∀(t:T Value) (o i:Nat) (u:Value),(∀j,o≤j→t.get j=none)→(mH w vs t o).get (o+i)=some u→∃v,vs[i]? = some v∧nK w v∧u=lS v:=by
 induction vs with
 | nil=>intro t o i u ht h; rw[show (mH w [] t o)=t from rfl,ht _ (by omega)] at h; cases h
 | cons x vs ih=>
  intro t o i u ht h
  have h:(mH w vs (zq w x t o) (o+1)).get (o+i)=some u:=h
  cases i with
  | zero=>
   rw[Am _ _ _ _ _ (by omega)] at h
   by_cases hg:nK w x
   ·rw[Nat.add_zero,Al hg] at h; cases h; exact ⟨x,rfl,hg,rfl⟩
   ·rw[MG hg,ht _ (by omega)] at h; cases h
  | succ i=>
   rw[show o+(i+1)=(o+1)+i by omega] at h
   obtain ⟨v,h1,h2,h3⟩:=ih _ _ _ _ (fun j hj=>by rw[Iv _ _ _ (by omega)]; exact ht j (by omega)) h
   exact ⟨v,by simpa using h1,h2,h3⟩
noncomputable def zu (w:World):Nat→T bC
 | 0=>.nil
 | n+1=>match w.heap[n]? with
  | some (.cells C e _)=>(zu w n).aT n (.ro C.size (mH w C.toList .nil 0) e)
  | _=>zu w n
theorem C5 (w:World):∀n b,(zu w n).get b=if b<n then (match w.heap[b]? with | some (.cells C e _)=>some (.ro C.size (mH w C.toList .nil 0) e) | _=>none) else none:=by
 intro n
 induction n with
 | zero=>intro b; rw[if_neg (by omega)]; exact T.get_nil _
 | succ n ih=>
  intro b
  unfold zu
  by_cases h0:n=b
  ·subst h0
   rw[if_pos (by omega)]
   split
   ·rw[T.af]
   ·rw[ih,if_neg (by omega)]
  ·have:(match w.heap[n]? with | some (.cells C e _)=>(zu w n).aT n (.ro C.size (mH w C.toList .nil 0) e) | _=>zu w n).get b=(zu w n).get b:=by
    split
    ·exact T.ai _ _ h0
    ·rfl
   rw[this,ih]
   by_cases h1:b<n
   ·rw[if_pos h1,if_pos (by omega)]
   ·rw[if_neg h1,if_neg (by omega)]
noncomputable def memH (w:World):Heap:=⟨w.heap.size,zu w w.heap.size,w.heap.size⟩
theorem C6 {w:World} {B:Nat} {C:Array Value} {e:TypeId} {fz:Nat × Nat} (h:w.heap[B]? = some (.cells C e fz)):(memH w).bl.get B=some (.ro C.size (mH w C.toList .nil 0) e):=by
 have hB:B<w.heap.size:=(Array.getElem?_eq_some_iff.1 h).1
 show (zu w _).get B=_
 rw[C5,if_pos hB,h]
theorem pH {w:World} {b:Nat} {o:bC} (h:(memH w).bl.get b=some o):∃C e fz,w.heap[b]? = some (.cells C e fz)∧o=.ro C.size (mH w C.toList .nil 0) e:=by
 have h:(zu w _).get b=some o:=h
 rw[C5] at h
 split at h
 ·split at h
  ·cases h; exact ⟨_,_,_,by assumption,rfl⟩
  ·cases h
 ·cases h
theorem Bg {w:World} {v:Value} (h:nK w v):VR (zp w) (lS v) v:=by
 rcases h with h | rfl | ⟨a,c,rfl⟩ | ⟨B,o,n,c,rfl,hn,hc,hB⟩
 ·rw[Ak h]; exact VR.mj h
 ·exact VR.eT (Nat.le_refl _)
 ·exact VR.cz _ _ _
 ·cases n with
  | zero=>exact VR.cz _ _ _
  | succ n=>
   have hp:zp w B=some ⟨B,0,0⟩:=if_pos hB
   exact VR.slice hp hn (by unfold maxLen at hc; unfold aM; omega)
theorem Rb {w:World} {v:Value} (h:goodA w v):VR (zp w) (absA v) v:=by
 cases v with
 | agg cs=>
  refine VR.qu ?_
  show F2 (VR (zp w)) (cs.toList.map lS) cs.toList
  have:F2 (VR (zp w)) (cs.toList.map lS) (cs.toList.map id):=F2.map cs.toList fun x hx=>Bg (h x hx)
  rwa [List.map_id] at this
 | _=>exact Bg h
theorem aaV (w:World):HR P (zp w) (memH w) w:=by
 have dom:∀b pl,zp w b=some pl→pl=⟨b,0,0⟩∧Iu w b:=by
  intro b pl h
  unfold zp at h
  split at h
  ·cases h; exact ⟨rfl,by assumption⟩
  ·cases h
 have lt:∀b,Iu w b→b<w.heap.size:=fun b ⟨C,e,fz,h⟩=>(Array.getElem?_eq_some_iff.1 h).1
 refine ⟨?_,?_,?_,Nat.lt_succ_self _,?_,Nat.le_refl _⟩
 ·intro b o pl h1 h2
  obtain ⟨rfl,_⟩:=dom b pl h2
  obtain ⟨C,e,fz,h3,rfl⟩:=pH h1
  rw[h3]
  refine ⟨rfl,Nat.le_refl _,fun i v hv hi=>?_⟩
  obtain ⟨u,h4,h5,rfl⟩:=Gq w C.toList .nil 0 i v (fun j _=>T.get_nil _) (by rw[Nat.zero_add]; exact hv)
  rw[Array.getElem?_toList] at h4
  exact ⟨u,h4,Bg h5⟩
 ·intro b pl h
  obtain ⟨rfl,h2⟩:=dom b pl h
  exact ⟨lt b h2,lt b h2⟩
 ·intro b o _ h
  obtain ⟨C,e,fz,h3,_⟩:=pH h
  exact lt b ⟨C,e,fz,h3⟩
 ·intro b b' o o' pl kS _ _ _ _ h1 h2 h3
  obtain ⟨rfl,_⟩:=dom b pl h1
  obtain ⟨rfl,_⟩:=dom b' kS h2
  exact h3
theorem law_mem {f:FuncId} {args:List Value} {w:World} (hg:∀v∈args,goodA w v) (hc:(memH w).lo≤(memH w).nx→CallW P f (args.map absA) (memH w) Be) :
  Calls P f args.toArray w fun e w'=>e=.returned (.bool true)∧Below w.heap.size w w':=by
 have ha:F2 (VR (zp w)) (args.map absA) (args.map id):=F2.map args fun x hx=>Rb (hg x hx)
 rw[List.map_id] at ha
 refine Q_ (hc (Nat.le_refl _)) ha (aaV w) ?_
 intro b pl h
 unfold zp at h
 split at h
 ·rename_i hm
  obtain ⟨C,e,fz,h3⟩:=hm
  exact ⟨(Array.getElem?_eq_some_iff.1 h3).1,_,C6 h3,trivial⟩
 ·cases h
section
variable {α:Type} {cE:α→List Value} {s:Nat}
theorem jM.good {w:World} {v:Value} {L:List α} (hv:jM cE w v L):nK w v:=by
 rcases hv with ⟨rfl,rfl | ⟨a,cap,rfl⟩⟩ | ⟨B,o,cap,C,e,fz,rfl,hl,hm,hC,hle,hcell⟩
 ·exact .inr (.inl rfl)
 ·exact .inr (.inr (.inl ⟨a,cap,rfl⟩))
 ·exact .inr (.inr (.inr ⟨B,o,_,cap,rfl,hl,hm,C,e,fz,hC⟩))
theorem jM.abs {w:World} {v:Value} {L:List α} (hv:jM cE w v L) (hg:∀a∈L,∀u∈cE a,nK w u) :
  Sl (fun a=>(cE a).map lS) (memH w) (lS v) L∧∀e,Cut e s (memH w) (lS v) L.length:=by
 rcases hv with ⟨rfl,rfl | ⟨a,cap,rfl⟩⟩ | ⟨B,o,cap,C,e,fz,rfl,hl,hm,hC,hle,hcell⟩
 ·exact ⟨Sl.nil _ _ _,fun e=>.inl ⟨rfl,rfl⟩⟩
 ·exact ⟨Sl.nil _ _ _,fun e=>.inr (.inl ⟨rfl,0,0,rfl⟩)⟩
 ·cases hL:L with
  | nil=>exact ⟨Sl.nil _ _ _,fun e=>.inr (.inl ⟨rfl,0,0,rfl⟩)⟩
  | cons x L'=>
   have e1:lS (.slice (some ⟨B,o,none⟩) L.length cap)=.slice (some ⟨B,o,none⟩) L.length cap:=by rw[hL]; rfl
   rw[←hL,e1]
   refine ⟨⟨_,cap,rfl,fun _=>⟨B,o,rfl,(Array.getElem?_eq_some_iff.1 hC).1,?_⟩⟩,fun e=>.inr (.inr (.inl ⟨B,o,cap,rfl,hl,by unfold maxLen at hm; omega⟩))⟩
   rw[C6 hC]
   have efl:L.flatMap (fun a=>(cE a).map lS)=(L.flatMap cE).map lS:=by rw[List.map_flatMap]
   rw[efl]
   refine ⟨C.size,_,e,.inl rfl,by rw[List.length_map]; exact hle,fun j u hj=>?_⟩
   rw[List.getElem?_map,Option.map_eq_some_iff] at hj
   obtain ⟨u',h1,rfl⟩:=hj
   have h2:=hcell j u' h1
   have hm:=List.mem_of_getElem? h1
   rw[List.mem_flatMap] at hm
   obtain ⟨a,ha,hu⟩:=hm
   have:=Gp w C.toList .nil 0 (o+j) u' (by rw[Array.getElem?_toList]; exact h2) (hg a ha u' hu)
   rwa [Nat.zero_add] at this
theorem MH {l:List Value} (h:l.all jg=true):l.map lS=l:=by
 induction l with
 | nil=>rfl
 | cons a l ih=>simp only[List.all_cons,Bool.and_eq_true] at h; rw[List.map_cons,Ak h.1,ih h.2]
theorem jM.aaW {w:World} {v:Value} {L:List α} (hv:jM cE w v L) (hone:∀a:α,(cE a).all jg=true):Sl cE (memH w) (lS v) L∧∀e,Cut e s (memH w) (lS v) L.length:=by
 have:=hv.abs (s:=s) fun a _ u hu=>.inl (List.all_eq_true.1 (hone a) u hu)
 have e:(fun a=>(cE a).map lS)=cE:=by funext a; exact MH (hone a)
 rwa [e] at this
end
end Go.Vai

namespace Go.Vai
open Go Go.RowKit Go.WideShapes Go.ChangeShapes
variable {P:Program}
inductive CK where
 | i (k:IntKind)
 | b
 | s
 | sl (t:TypeId)
def Bh (P:Program) (fl:TypeId→Option (List CK)):List Field→Nat→Option (List CK)
 | [],_=>some []
 | f::fs,off=>match fl f.type with
  | some l=>match Nat.beq f.offset off,Nat.beq (P.cellsOf f.type) l.length with
   | true,true=>match Bh P fl fs (off+l.length) with
    | some r=>some (l++r)
    | none=>none
   | _,_=>none
  | none=>none
def flatK (P:Program):Nat→TypeId→Option (List CK)
 | 0,_=>none
 | n+1,t=>match P.underlying t with
  | some (.int k)=>some [.i k]
  | some .bool=>some [.b]
  | some .string=>some [.s]
  | some (.slice _)=>some [.sl t]
  | some (.struct fs)=>match Bh P (flatK P n) fs.toList 0 with
   | some l=>match Nat.beq (P.cellsOf t) l.length with
    | true=>some l
    | false=>none
   | none=>none
  | _=>none
section
variable {H:Type} {enc:TypeId × Value→H} {w:World}
def Vh (enc:TypeId × Value→H) (P:Program) (w:World) (k:CK) (v:Value):Prop:=match k with
 | .i kk=>∃n,v=.int kk n∧(Lit.int kk n).wf=true
 | .b=>∃b,v=.bool b
 | .s=>∃s,v=.string s
 | .sl t=>∃fuel x,DataW.trod enc P w 0 (fun _=>true) true fuel t [v]=some x
theorem Rc {fl:TypeId→Option (List CK)} (ih:∀t ks,fl t=some ks→∀fuel cs x,DataW.trod enc P w 0 (fun _=>true) true fuel t cs=some x→F2 (Vh enc P w) ks cs) (m:Nat) (cs:List Value) :
  ∀(fs:List Field) (off:Nat) (r:List CK),Bh P fl fs off=some r→(∀f∈fs,∃x,DataW.trod enc P w 0 (fun _=>true) true m f.type ((cs.drop f.offset).take (P.cellsOf f.type))=some x)→
   off+r.length=cs.length→F2 (Vh enc P w) r (cs.drop off):=by
 intro fs
 induction fs with
 | nil=>
  intro off r h _ hl
  cases h
  rw[List.drop_of_length_le (by simp at hl; omega)]
  exact .nil
 | cons f fs ihf=>
  intro off r h hf hl
  unfold Bh at h
  split at h<;>try contradiction
  rename_i l nY
  split at h<;>try contradiction
  rename_i h1 h2
  split at h<;>try contradiction
  rename_i r' hr
  cases h
  have h1:=bY h1
  have h2:=bY h2
  obtain ⟨x,hx⟩:=hf f (.head _)
  have k1:=ih _ _ nY _ _ _ hx
  rw[h1,h2] at k1
  rw[List.length_append] at hl
  have k2:=ihf (off+l.length) r' hr (fun g hg=>hf g (.tail _ hg)) (by omega)
  have e:cs.drop off=(cs.drop off).take l.length++cs.drop (off+l.length):=by
   rw[←List.drop_drop,List.take_append_drop]
  rw[e]
  exact k1.append k2
theorem MI:∀(n:Nat) (t:TypeId) (ks:List CK),flatK P n t=some ks→∀fuel cs x,DataW.trod enc P w 0 (fun _=>true) true fuel t cs=some x→F2 (Vh enc P w) ks cs:=by
 intro n
 induction n with
 | zero=>intro t ks h; cases h
 | succ n ih=>
  intro t ks h fuel cs x hx
  unfold flatK at h
  split at h
  ·rename_i k hu
   cases h
   obtain ⟨n,rfl,_,hwf⟩:=DataW.trod_int hu hx
   exact .cons ⟨n,rfl,hwf⟩ .nil
  ·rename_i hu
   cases h
   obtain ⟨n,rfl,_⟩:=DataW.trod_bool hu hx
   exact .cons ⟨n,rfl⟩ .nil
  ·rename_i hu
   cases h
   obtain ⟨n,rfl,_⟩:=DataW.trod_string hu hx
   exact .cons ⟨n,rfl⟩ .nil
  ·rename_i e hu
   cases h
   have:∃v,cs=[v]:=by
    rcases DataW.trod_slice hu hx with h | h
    ·exact ⟨_,h.1⟩
    ·obtain ⟨a,len,cap,_,_,_,_,h,_⟩:=h
     exact ⟨_,h⟩
   obtain ⟨v,rfl⟩:=this
   exact .cons ⟨fuel,x,hx⟩ .nil
  ·rename_i fs hu
   split at h<;>try contradiction
   rename_i l hl
   split at h<;>try contradiction
   rename_i hc
   cases h
   have hc:=bY hc
   obtain ⟨xs,m,_,_,nL,hlen,hf⟩:=DataW.trod_struct hu hx
   have key:=Rc ih m cs fs.toList 0 ks hl (fun f hf'=>?_) (by omega)
   ·rw[List.drop_zero] at key; exact key
   ·obtain ⟨i,hi,rfl⟩:=List.getElem_of_mem hf'
    have h1:=hf i (fs.toList[i]) (by simp at hi ⊢)
    obtain ⟨y,hy⟩:∃y,xs[i]? = some y:=⟨_,List.getElem?_eq_getElem (by simp at hi; omega)⟩
    rw[hy] at h1
    exact ⟨y,h1⟩
  ·cases h
theorem F2.MJ {α γ:Type} {R:α→γ→Prop} {a:α} {l:List α} {m:List γ} (h:F2 R (a::l) m):∃b m',m=b::m'∧R a b∧F2 R l m':=by
 cases h with
 | cons h t=>exact ⟨_,_,rfl,h,t⟩
theorem F2.aaX {α γ:Type} {R:α→γ→Prop} {m:List γ} (h:F2 R [] m):m=[]:=by cases h; rfl
end
section
variable {α:Type} {cE:α→List Value} {s:Nat}
theorem jM.absA {w:World} {v:Value} {L:List α} (hv:jM cE w v L):Go.Vai.absA v=lS v:=by
 rcases hv with ⟨rfl,rfl | ⟨a,cap,rfl⟩⟩ | ⟨B,o,cap,C,e,fz,rfl,_⟩<;>rfl
theorem jM.goodA {w:World} {v:Value} {L:List α} (hv:jM cE w v L):Go.Vai.goodA w v:=by
 have h:=hv.good
 rcases hv with ⟨rfl,rfl | ⟨a,cap,rfl⟩⟩ | ⟨B,o,cap,C,e,fz,rfl,_⟩<;>exact h
theorem jM.read {w:World} {v:Value} {L:List α} (hv:jM cE w v L) (hone:∀a:α,(cE a).all jg=true):Sl cE (memH w) (Go.Vai.absA v) L:=by
 rw[hv.absA]; exact (hv.aaW (s:=1) hone).1
theorem jM.cut {w:World} {v:Value} {L:List α} (hv:jM cE w v L) (hone:∀a:α,(cE a).all jg=true) {e:TypeId} {s:Nat}:Cut e s (memH w) (Go.Vai.absA v) L.length:=by
 rw[hv.absA]; exact (hv.aaW (s:=s) hone).2 e
theorem goodA_int {w:World} {k:IntKind} {n:Int}:goodA w (.int k n):=.inl rfl
end
end Go.Vai

namespace Go.Vai
open Go Go.RowKit
section
variable {α:Type} {s:Nat} {enc:α→List Value}
theorem nD (he:∀a:α,(enc a).length=s) (L:List α):∀i,(L.flatMap enc).drop (i*s)=(L.drop i).flatMap enc:=by
 induction L with
 | nil=>intro i; simp
 | cons a L ih=>
  intro i
  cases i with
  | zero=>simp
  | succ i=>
   simp only[List.flatMap_cons,List.drop_succ_cons]
   rw[List.drop_append,←ih i,he,List.drop_of_length_le (by rw[he,Nat.succ_mul]; omega),show (i+1)*s-s=i*s by rw[Nat.succ_mul]; omega]
   rfl
theorem wY {β:Type} {fl:β} {len lim cap i:Nat} (hi:i≤len) (hl:len≤lim) (κ:Nat→Nat→Nat→β):gW fl len lim cap (some (.int .i64 (i:Int))) none none κ=κ i len cap:=by
 have e1:Nat.ble i len=true:=Nat.ble_eq_true_of_le hi
 have e2:Nat.ble len lim=true:=Nat.ble_eq_true_of_le hl
 unfold gW
 simp only[wW,tg,e1,e2]
end
end Go.Vai
