/-
  PROVED HERE: a part of the proof (VaiS15, VaiS16, VaiS17, VaiS18, VaiK, VaiW, VaiW2, VaiL, VaiM, VaiN, VaiZ, VaiO, VaiQ, VaiT, VaiU, VaiV).
-/
import Derived.Test.YtmjghbjpdoeemaaGreatDoorG1
import Derived.RowKit3
import Derived.ChangeSame
import Derived.Below
import Derived.Deep.Slices
import Derived.Carry
import Derived.ProofKit
set_option linter.unusedVariables false
set_option linter.unusedSimpArgs false
namespace Go.Vai
open Go
variable {β:Type} {fl:β} {good:β→Prop} {pr:jg β} {P:Program} {φ:dm} {h h':Heap} {w:World} {t:TypeId}
theorem AU:∀(os:List Oper) (n k:Nat) (q:Oper),os[k]? = some q→(n+k,q)∈dW os n:=by
 intro os
 induction os with
 | nil=>intro n k q h; simp at h
 | cons o os ih=>
  intro n k q h
  cases k with
  | zero=>simp at h; subst h; exact List.mem_cons_self
  | succ k=>
   simp at h
   have:=ih (n+1) k q h
   rw[show n+(k+1)=n+1+k by omega]
   exact List.mem_cons_of_mem _ this
theorem cB (D i k:Nat):bit (ee D i) k=(bit D k || decide (i=k)):=by
 show Nat.testBit (D ||| 2 ^ i) k=_
 rw[Nat.testBit_or,Nat.testBit_two_pow]
 rfl
theorem Rw (D M k:Nat):bit (Nat.lor D M) k=(bit D k || bit M k):=Nat.testBit_or ..
theorem AV (k:Nat):bit 0 k=false:=Nat.zero_testBit k
theorem nu {op:Op} {x:PC} (h:fN P op=.rd x):mE none P op=some x:=by
 unfold fN at h
 split at h<;>try contradiction
 split at h
 ·rename_i e; cases h; exact e
 ·split at h<;>contradiction
theorem u_ {op:Op} {x:Vy} (h:fN P op=.al x):oQ none P op=some x:=by
 unfold fN at h
 split at h<;>try contradiction
 split at h<;>try contradiction
 split at h<;>try contradiction
 rename_i e; cases h; exact e
structure Stat (P:Program) (ops:Array Oper) (i:Nat) (o:Oper):Prop where
 k1:∀j q,ops[j]? = some q→e_ P q=false→∀t∈b_ ops.toList o,q.dst=some t→j∈bV o
 k2:e_ P o=false→∀j q,ops[j]? = some q→j≠i→e_ P q=false→∀d,o.dst=some d→q.dst≠some d
theorem AW {ops:Array Oper} {j:Nat} {q:Oper} (h:ops[j]? = some q):(j,q)∈dW ops.toList 0:=by
 have:=AU ops.toList 0 j q (by rw[Array.getElem?_toList]; exact h)
 simpa using this
theorem sg {o:Oper} {t:Nat}:xW o t=true↔o.dst=some t:=by
 unfold xW
 cases o.dst with
 | none=>simp
 | some d=>simp
theorem pL {ops:Array Oper} {D M i:Nat} {o:Oper} (h:MV P ops.toList (dW ops.toList 0) D M i o=true) :
  bit D i=false∧(∀e∈bV o,bit D e=true)∧(∃g,guardOf ops.toList o=some g)∧Stat P ops i o∧
  (e_ P o=true→(∀k q,ops[k]? = some q→k≠i→bit D k=false→mY D q=false)∧
   ∀k q,ops[k]? = some q→bit D k=true→e_ P q=false→bit M k=false→∀d,o.dst=some d→q.dst≠some d∧d∉b_ ops.toList q):=by
 unfold MV at h
 simp only[Bool.and_eq_true] at h
 obtain ⟨⟨⟨⟨h1,h2⟩,h3⟩,h4⟩,h5⟩:=h
 simp only[List.all_eq_true] at h4
 refine ⟨by simpa using h1,?_,Option.isSome_iff_exists.mp h3,⟨?_,?_⟩,?_⟩
 ·simpa[mY,List.all_eq_true] using h2
 ·intro j q hq hw t ht hd
  have:=h4 _ (AW hq)
  simp only[Bool.or_eq_true] at this
  rcases this with (this | this) | this
  ·rw[hw] at this; cases this
  ·have hx:(b_ ops.toList o).any (xW q)=true:=List.any_eq_true.mpr ⟨t,ht,sg.mpr hd⟩
   rw[hx] at this; cases this
  ·simpa using this
 ·intro hw j q hq hji I9 d hd hqd
  rw[hw] at h5
  simp only[List.all_eq_true] at h5
  have:=h5 _ (AW hq)
  simp only[Bool.or_eq_true] at this
  rcases this with (this | this) | this
  ·exact hji (by simpa using this)
  ·rw[I9] at this; cases this
  ·rw[hd] at this; simp[sg.mpr hqd] at this
 ·intro hw
  rw[hw] at h5
  simp only[Bool.and_eq_true,List.all_eq_true] at h5
  refine ⟨?_,?_⟩
  ·intro k q hq hki hk
   have:=h5.1 _ (AW hq)
   simp only[Bool.or_eq_true] at this
   rcases this with (this | this) | this
   ·exact absurd (by simpa using this) hki
   ·rw[hk] at this; cases this
   ·simpa using this
  ·intro k q hq hk I9 hm d hd
   have:=h5.2 _ (AW hq)
   simp only[Bool.or_eq_true] at this
   rcases this with ((this | this) | this) | this
   ·rw[hk] at this; cases this
   ·rw[I9] at this; cases this
   ·rw[hm] at this; cases this
   ·rw[hd] at this
    simp only[Bool.and_eq_true] at this
    refine ⟨fun e=>?_,fun hmem=>?_⟩
    ·rw[sg.mpr e] at this; simp at this
    ·have hx:(b_ ops.toList q).any (Nat.beq d)=true:=List.any_eq_true.mpr ⟨d,hmem,by simp⟩
     rw[hx] at this; simp at this
theorem AX {ops:Array Oper} {o:Oper} {s:Nat} {b:Bool} (hg:guardOf ops.toList o=some (some (s,b))):s∈b_ ops.toList o:=by
 unfold guardOf at hg
 split at hg
 ·cases hg
 rename_i j w U0
 split at hg<;>try contradiction
 rename_i hq
 cases hg
 simp only[b_,U0,List.mem_append]
 right
 rw[hq]; simp
theorem oZ {os:List Oper} {o:Oper} {t:Nat} (h:Operand.tmp t∈o.op.operands.toList):t∈b_ os o:=by
 simp only[b_,List.mem_append,List.mem_filterMap]
 exact .inl ⟨_,h,rfl⟩
theorem nv {os:List Oper} {o:Oper} {tm bU:T Value} (h:∀t∈b_ os o,bX bU t=bX tm t):∀y∈o.op.operands.toList,dV bU y=dV tm y:=by
 intro y hy
 cases y with
 | tmp t=>exact h t (oZ hy)
 | _=>rfl
theorem lz {ops:Array Oper} {o:Oper} {g:Option (Nat × Bool)} (hg:guardOf ops.toList o=some g) {tm bU:T Value} (h:∀t∈b_ ops.toList o,bX bU t=bX tm t):eD bU g=eD tm g:=by
 cases g with
 | none=>rfl
 | some p=>obtain ⟨s,b⟩:=p; simp only[eD,h s (AX hg)]
def I_ (P:Program) (ops:Array Oper) (own:Nat→Option Nat) (h0:Heap) (φ:dm) (h:Heap) (tm:T Value) (i:Nat) (o:Oper):Prop:=
 ∃g,guardOf ops.toList o=some g∧(eD tm g=false→∀d,o.dst=some d→bX tm d=undef)∧
  (eD tm g=true→match fN P o.op with
   | .rd x=>∃v,jh x tm h=some v∧∀d,o.dst=some d→bX tm d=v
   | .al x=>∃n ob mk,own n=some i∧uL x tm=some (ob,mk)∧h.bl.get n=some ob∧φ n=none∧n<h.nx∧h0.nx≤n∧∀d,o.dst=some d→bX tm d=mk n
   | .wr=>False)
theorem I_.keep {ops:Array Oper} {own pM:Nat→Option Nat} {h0:Heap} {φ':dm} {tm bU:T Value} {i:Nat} {o:Oper} (hp:I_ P ops own h0 φ h tm i o)
  (hl:∀t∈b_ ops.toList o,bX bU t=bX tm t) (hd:∀d,o.dst=some d→bX bU d=bX tm d)
  (hrd:∀x v g,fN P o.op=.rd x→guardOf ops.toList o=some g→eD bU g=true→jh x tm h=some v→(∀d,o.dst=some d→bX bU d=v)→∃v',jh x bU h'=some v'∧∀d,o.dst=some d→bX bU d=v')
  (hal:∀n ob,own n=some i→h.bl.get n=some ob→φ n=none→n<h.nx→h0.nx≤n→pM n=some i∧h'.bl.get n=some ob∧φ' n=none∧n<h'.nx) :
  I_ P ops pM h0 φ' h' bU i o:=by
 obtain ⟨g,hg,h1,h2⟩:=hp
 have hw:=lz hg hl
 refine ⟨g,hg,fun hf d Ao=>by rw[hd d Ao]; exact h1 (hw▸hf) d Ao,fun ht=>?_⟩
 have h2:=h2 (hw▸ht)
 cases hc:fN P o.op with
 | rd x=>
  rw[hc] at h2
  obtain ⟨v,k1,k2⟩:=h2
  exact hrd x v g hc hg ht k1 fun d Ao=>by rw[hd d Ao]; exact k2 d Ao
 | al x=>
  rw[hc] at h2
  obtain ⟨n,ob,mk,k1,k2,k3,k4,k5,k6,k7⟩:=h2
  obtain ⟨j1,j2,j3,j4⟩:=hal n ob k1 k3 k4 k5 k6
  refine ⟨n,ob,mk,j1,?_,j2,j3,j4,k6,fun d Ao=>by rw[hd d Ao]; exact k7 d Ao⟩
  unfold uL at *
  rw[XA.congr (fun y hy=>nv hl y (x_ (u_ hc) y hy))]
  exact k2
 | wr=>rw[hc] at h2; exact h2.elim
abbrev kV (listed:Array Bool) (i:Nat):Prop:=listed.getD i false=true
structure Inv (P:Program) (ops:Array Oper) (nt:Nat) (φ0:dm) (h0:Heap) (w0:World) (ds:List Deferred) (jo:T Value) (listed:Array Bool) (D M:Nat) (tm:T Value) (h:Heap) (own:Nat→Option Nat) (φ:dm) (a:Act) (w:World):Prop where
 PT:listed.size=ops.size
 sub:∀i,kV listed i→bit D i=true
 Zf:∀i o,ops[i]? = some o→kV listed i→∀e∈bV o,kV listed e
 wr:∀i o,ops[i]? = some o→bit D i=true→e_ P o=true→kV listed i
 mS:∀i,bit M i=true→kV listed i
 st:∀i o,ops[i]? = some o→bit D i=true→Stat P ops i o∧∀e∈bV o,bit D e=true
 small:nt≤1000000000000
 size:a.tmps.size=nt
 rel:∀t,t<nt→(∀i o,ops[i]? = some o→bit D i=true→¬kV listed i→o.dst≠some t)→VR φ (bX tm t) (a.tmps.getD t undef)
 hr:HR P φ h w
 ext:Ext φ0 φ h0 h w0 w
 Zg:a.defers=ds
 dY:∀i o,ops[i]? = some o→bit D i=true→¬kV listed i→I_ P ops own h0 φ h tm i o
 keep:∀t,t<nt→(∀(i:Nat) (o:Oper),ops[i]? = some o→o.dst≠some t)→bX tm t=bX jo t
section
variable {ops:Array Oper} {nt:Nat} {φ0:dm} {h0:Heap} {w0:World} {ds:List Deferred} {listed:Array Bool} {D M:Nat} {tm jo:T Value} {own:Nat→Option Nat} {a:Act}
theorem Inv.ahead (inv:Inv P ops nt φ0 h0 w0 ds jo listed D M tm h own φ a w) (hok:∀q∈ops.toList,dP nt q=true) {i:Nat} {o:Oper} (ho:ops[i]? = some o) (hD:bit D i=false) (MC:∀e∈bV o,bit D e=true)
  (hst:Stat P ops i o) (hw:e_ P o=false) {v:Value} {h':Heap} {pM:Nat→Option Nat} (hr':HR P φ h' w) (hx':Ext φ0 φ h0 h' w0 w) (hm:xE h h') (Zh:h.nx≤h'.nx) (hown:∀n,n<h.nx→pM n=own n)
  (hpe:I_ P ops pM h0 φ h' (g_ tm o.dst v) i o):Inv P ops nt φ0 h0 w0 ds jo listed (ee D i) M (g_ tm o.dst v) h' pM φ a w:=by
 have hmem:o∈ops.toList:=List.mem_of_getElem? (by rw[Array.getElem?_toList]; exact ho)
 have E_:¬kV listed i:=fun hs=>by rw[inv.sub i hs] at hD; cases hD
 have ny:=cQ (hok o hmem)
 refine ⟨inv.PT,?_,inv.Zf,?_,inv.mS,?_,inv.small,inv.size,?_,hr',hx',inv.Zg,?_,fun t ht hno=>by rw[fk inv.small ny ht,if_neg (hno i o ho)]; exact inv.keep t ht hno⟩
 ·intro k hk; rw[cB,inv.sub k hk]; rfl
 ·intro k q hq hk Rx
  rw[cB,Bool.or_eq_true] at hk
  rcases hk with hk | hk
  ·exact inv.wr k q hq hk Rx
  ·have hk:i=k:=by simpa using hk
   subst hk; rw[ho] at hq; cases hq; rw[hw] at Rx; cases Rx
 ·intro k q hq hk
  rw[cB,Bool.or_eq_true] at hk
  have up:∀{e},bit D e=true→bit (ee D i) e=true:=fun he=>by rw[cB,he]; rfl
  rcases hk with hk | hk
  ·exact ⟨(inv.st k q hq hk).1,fun e he=>up ((inv.st k q hq hk).2 e he)⟩
  ·have hk:i=k:=by simpa using hk
   subst hk; rw[ho] at hq; cases hq; exact ⟨hst,fun e he=>up (MC e he)⟩
 ·intro t ht hno
  have h1:o.dst≠some t:=hno i o ho (by rw[cB]; simp) E_
  rw[fk inv.small ny ht,if_neg h1]
  exact inv.rel t ht fun k q hq hk td=>hno k q hq (by rw[cB,hk]; rfl) td
 ·intro k q hq hk td
  rw[cB,Bool.or_eq_true] at hk
  by_cases hki:i=k
  ·subst hki; rw[ho] at hq; cases hq; exact hpe
  ·have hk:bit D k=true:=by
    rcases hk with hk | hk
    ·exact hk
    ·exact absurd (by simpa using hk) hki
   have I9:e_ P q=false:=by
    cases I9:e_ P q with
    | false=>rfl
    | true=>exact absurd (inv.wr k q hq hk I9) td
   have hqm:q∈ops.toList:=List.mem_of_getElem? (by rw[Array.getElem?_toList]; exact hq)
   have hl:∀t∈b_ ops.toList q,bX (g_ tm o.dst v) t=bX tm t:=by
    intro t ht
    rw[fk inv.small ny (jO hok hqm ht),if_neg]
    intro he
    have:=(inv.st k q hq hk).2 i ((inv.st k q hq hk).1.k1 i o ho hw t ht he)
    rw[this] at hD; cases hD
   have hd:∀d,q.dst=some d→bX (g_ tm o.dst v) d=bX tm d:=by
    intro d Ao
    have hlt:d<nt:=by have:=cQ (hok q hqm); rw[Ao] at this; exact cO this
    rw[fk inv.small ny hlt,if_neg]
    intro he
    exact hst.k2 hw k q hq (fun e=>hki e.symm) I9 d he Ao
   refine (inv.dY k q hq hk td).keep hl hd ?_ ?_
   ·intro x v' g hc hg jZ hrd VY
    refine ⟨v',?_,VY⟩
    have:=DU (nu hc) hm hrd
    unfold jh at *
    rw[XI.congr (fun y hy=>nv hl y (r_ (nu hc) y hy))]
    exact this
   ·intro n ob e1 e2 e3 e4 e5
    exact ⟨by rw[hown n e4]; exact e1,hm n ob e2,e3,Nat.lt_of_lt_of_le e4 Zh⟩
end
end Go.Vai

namespace Go.Vai
open Go
variable {β:Type} {fl:β} {good:β→Prop} {pr:jg β} {P:Program} {φ:dm} {h h':Heap} {w:World} {t:TypeId}
variable {ops:Array Oper} {nt:Nat} {φ0:dm} {h0:Heap} {w0:World} {ds:List Deferred} {listed:Array Bool} {D M:Nat} {tm jo:T Value} {own:Nat→Option Nat} {a:Act}
theorem xE.refl (h:Heap):xE h h:=fun _ _ e=>e
theorem fo {i k:Nat} (hi:i<listed.size):kV (listed.setIfInBounds i true) k↔k=i∨kV listed k:=by
 unfold kV
 simp only[Array.getD_eq_getD_getElem?]
 by_cases he:i=k
 ·subst he; simp[Array.getElem?_setIfInBounds_self_of_lt hi]
 ·rw[Array.getElem?_setIfInBounds_ne he]
  constructor
  ·exact fun h=>.inr h
  ·rintro (h | h)
   ·exact absurd h.symm he
   ·exact h
theorem AY {a:Act} {d:Option Nat} {v:Value} {t:Nat} (ht:t<a.tmps.size):(a.put d v).tmps.getD t undef=if d=some t then v else a.tmps.getD t undef:=by
 cases d with
 | none=>simp[Act.put]
 | some d=>
  simp only[Act.put,Array.getD_eq_getD_getElem?]
  by_cases he:d=t
  ·subst he; rw[if_pos rfl,Array.getElem?_setIfInBounds_self_of_lt ht]; rfl
  ·rw[if_neg (by simpa using he),Array.getElem?_setIfInBounds_ne he]
theorem AZ {a:Act} {d:Option Nat} {v:Value}:(a.put d v).tmps.size=a.tmps.size:=by cases d<;>simp[Act.put]
theorem Fa {a:Act} {d:Option Nat} {v:Value}:(a.put d v).defers=a.defers:=by cases d<;>rfl
theorem DV {o:Oper} {x:PC} (h:fN P o.op=.rd x):e_ P o=false:=by unfold e_; rw[h]
theorem GU {o:Oper} (h:e_ P o=true):fN P o.op=.wr:=by
 unfold e_ at h
 split at h
 ·assumption
 ·cases h
theorem ve {i:Nat} {o:Oper} (ho:ops[i]? = some o):o∈ops.toList:=List.mem_of_getElem? (by rw[Array.getElem?_toList]; exact ho)
theorem Inv.advance (hfl:¬good fl) (inv:Inv P ops nt φ0 h0 w0 ds jo listed D M tm h own φ a w) (hok:∀q∈ops.toList,dP nt q=true) {rec:Rec β} {i:Nat} {o:Oper} (ho:ops[i]? = some o) (hD:bit D i=false)
  (MC:∀e∈bV o,bit D e=true) (hst:Stat P ops i o) (hw:e_ P o=false) {M':Nat} {κ:T Value→Heap→β} (hg:good (iJ fl pr P rec ops.toList D M' o tm h κ)) :
  ∃bU h' pM,Inv P ops nt φ0 h0 w0 ds jo listed (ee D i) M bU h' pM φ a w∧good (κ bU h'):=by
 have ny:=cQ (hok o (ve ho))
 have hl:∀v,∀t∈b_ ops.toList o,bX (g_ tm o.dst v) t=bX tm t:=by
  intro v t ht
  rw[fk inv.small ny (jO hok (ve ho) ht),if_neg]
  intro he
  have:=MC i (hst.k1 i o ho hw t ht he)
  rw[this] at hD; cases hD
 have VY:∀v d,o.dst=some d→bX (g_ tm o.dst v) d=v:=by
  intro v d hd
  have hlt:d<nt:=by rw[hd] at ny; exact cO ny
  rw[fk inv.small ny hlt,if_pos hd]
 unfold iJ at hg
 split at hg
 ·exact absurd hg hfl
 rename_i g Iy
 split at hg
 ·rename_i jZ
  rw[fh] at hg
  refine ⟨_,_,own,inv.ahead hok ho hD MC hst hw inv.hr inv.ext (xE.refl h) (Nat.le_refl _) (fun _ _=>rfl) ?_,hg⟩
  refine ⟨g,Iy,fun _ d hd=>VY _ d hd,fun ht=>?_⟩
  rw[lz Iy (hl _),jZ] at ht; cases ht
 ·rename_i jZ
  split at hg
  ·rename_i x hc
   split at hg
   ·rename_i v hv
    rw[fh] at hg
    refine ⟨_,_,own,inv.ahead hok ho hD MC hst hw inv.hr inv.ext (xE.refl h) (Nat.le_refl _) (fun _ _=>rfl) ?_,hg⟩
    refine ⟨g,Iy,fun hf=>?_,fun _=>?_⟩
    ·rw[lz Iy (hl _),jZ] at hf; cases hf
    ·rw[hc]
     refine ⟨v,?_,fun d hd=>VY _ d hd⟩
     unfold jh at *
     rw[XI.congr (fun y hy=>nv (hl v) y (r_ (nu hc) y hy))]
     exact hv
   ·exact absurd hg hfl
  ·rename_i x hc
   split at hg
   ·rename_i ob mk hv
    obtain ⟨hn,hg⟩:=dn hfl hg
    rw[fh] at hg
    have hs:Small h.nx:=by unfold Small; omega
    have hnone:φ h.nx=none:=by
     cases hp:φ h.nx with
     | none=>rfl
     | some pl=>have:=(inv.hr.dom _ _ hp).1; omega
    refine ⟨_,_,(fun n=>if n=h.nx then some i else own n),inv.ahead hok ho hD MC hst hw (inv.hr.uS hn ob) (inv.ext.uS inv.hr.lo hn ob) ?_ (Nat.le_succ _) (fun n hn=>if_neg (by omega)) ?_,hg⟩
    ·intro b o' hb
     by_cases hsb:Small b
     ·have:=inv.hr.keys b o' hsb hb
      show (h.bl.aS h.nx ob).get b=some o'
      rw[T.fE _ _ hs hsb (by omega)]
      exact hb
     ·show (h.bl.aS h.nx ob).get b=some o'
      exact absurd (Nat.lt_succ_self b) hsb
    ·refine ⟨g,Iy,fun hf=>?_,fun _=>?_⟩
     ·rw[lz Iy (hl _),jZ] at hf; cases hf
     ·rw[hc]
      refine ⟨h.nx,ob,mk,if_pos rfl,?_,T.af _ _ _,hnone,Nat.lt_succ_self _,inv.ext.nx,fun d hd=>VY _ d hd⟩
      unfold uL at *
      rw[XA.congr (fun y hy=>nv (hl _) y (x_ (u_ hc) y hy))]
      exact hv
   ·exact absurd hg hfl
  ·rename_i hc
   rw[e_,hc] at hw; cases hw
theorem Inv.done (inv:Inv P ops nt φ0 h0 w0 ds jo listed D M tm h own φ a w) (hok:∀q∈ops.toList,dP nt q=true) {i:Nat} {o:Oper} (ho:ops[i]? = some o) (hD:bit D i=true) (qI:∀e∈bV o,kV listed e)
  {φ':dm} {w':World} {v':Value} (hv:∀d,o.dst=some d→VR φ' (bX tm d) v') (hs:Sub φ φ') (hr':HR P φ' h w') (hx':Ext φ0 φ' h0 h w0 w') (hφ:∀n,own n≠some i→φ n=none→φ' n=none) :
  Inv P ops nt φ0 h0 w0 ds jo (listed.setIfInBounds i true) D M tm h own φ' (a.put o.dst v') w':=by
 have hil:i<listed.size:=by rw[inv.PT]; exact (Array.getElem?_eq_some_iff.mp ho).1
 refine ⟨by simp[inv.PT],?_,?_,?_,?_,inv.st,inv.small,by rw[AZ]; exact inv.size,?_,hr',hx',by rw[Fa]; exact inv.Zg,?_,inv.keep⟩
 ·intro k hk
  rcases (fo hil).mp hk with rfl | hk
  ·exact hD
  ·exact inv.sub k hk
 ·intro k q hq hk e he
  rw[fo hil]
  rcases (fo hil).mp hk with rfl | hk
  ·rw[ho] at hq; cases hq; exact .inr (qI e he)
  ·exact .inr (inv.Zf k q hq hk e he)
 ·intro k q hq hk Rx; rw[fo hil]; exact .inr (inv.wr k q hq hk Rx)
 ·intro k hk; rw[fo hil]; exact .inr (inv.mS k hk)
 ·intro t ht hno
  rw[AY (by rw[inv.size]; exact ht)]
  by_cases hd:o.dst=some t
  ·rw[if_pos hd]; exact hv t hd
  ·rw[if_neg hd]
   refine (inv.rel t ht fun k q hq hk td=>?_).mono hs
   by_cases hki:k=i
   ·subst hki; rw[ho] at hq; cases hq; exact hd
   ·exact hno k q hq hk (fun hh=>by rcases (fo hil).mp hh with h1 | h1<;>contradiction)
 ·intro k q hq hk td
  rw[fo hil] at td
  have hki:k≠i:=fun e=>td (.inl e)
  have Ja:¬kV listed k:=fun e=>td (.inr e)
  refine (inv.dY k q hq hk Ja).keep (fun _ _=>rfl) (fun _ _=>rfl) (fun x v g _ _ _ e1 e2=>⟨v,e1,e2⟩) ?_
  intro n ob e1 e2 e3 e4 e5
  exact ⟨e1,e2,hφ n (by rw[e1]; intro hh; cases hh; exact hki rfl) e3,e4⟩
theorem Inv.looks (inv:Inv P ops nt φ0 h0 w0 ds jo listed D M tm h own φ a w) (hok:∀q∈ops.toList,dP nt q=true) {i:Nat} {o:Oper} (ho:ops[i]? = some o) (hst:Stat P ops i o) (qI:∀e∈bV o,kV listed e) :
  ∀t∈b_ ops.toList o,t<a.tmps.size∧VR φ (bX tm t) (a.tmps.getD t undef):=by
 intro t ht
 have hlt:=jO hok (ve ho) ht
 refine ⟨by rw[inv.size]; exact hlt,inv.rel t hlt fun k q hq hk td hqd=>td (qI k (hst.k1 k q hq ?_ t ht hqd))⟩
 cases I9:e_ P q with
 | false=>rfl
 | true=>exact absurd (inv.wr k q hq hk I9) td
theorem Inv.VZ (inv:Inv P ops nt φ0 h0 w0 ds jo listed D M tm h own φ a w) (hok:∀q∈ops.toList,dP nt q=true) {i:Nat} {o:Oper} (ho:ops[i]? = some o) (hst:Stat P ops i o) (qI:∀e∈bV o,kV listed e) :
  ∀y∈o.op.operands.toList,VR φ (dV tm y) (a.eval y):=by
 intro y hy
 have hyo:=pK (hok o (ve ho)) y hy
 cases y with
 | tmp t=>exact (inv.looks hok ho hst qI t (oZ hy)).2
 | const v=>exact jy hyo
 | func f=>exact VR.func' .nil .nil
 | global g=>cases hyo
theorem Inv.wanted (inv:Inv P ops nt φ0 h0 w0 ds jo listed D M tm h own φ a w) (hok:∀q∈ops.toList,dP nt q=true) {i:Nat} {o:Oper} (ho:ops[i]? = some o) (hst:Stat P ops i o) (qI:∀e∈bV o,kV listed e)
  {g:Option (Nat × Bool)} (hg:guardOf ops.toList o=some g):Region.wanted o (yielded ops a.tmps)=eD tm g:=
 x8 (φ:=φ) hg fun s _ _ hs=>inv.looks hok ho hst qI s hs
theorem Inv.late (inv:Inv P ops nt φ0 h0 w0 ds jo listed D M tm h own φ a w) (hok:∀q∈ops.toList,dP nt q=true) {i:Nat} {o:Oper} (ho:ops[i]? = some o) (hD:bit D i=true) (E_:¬kV listed i) (qI:∀e∈bV o,kV listed e)
  {Q:Exit→Act→World→Prop} {K:Act→World→Prop} {r0:Option Nat} (hK:∀φ' a' w',Inv P ops nt φ0 h0 w0 ds jo (listed.setIfInBounds i true) D M tm h own φ' a' w'→K a' w'):wpOpIn (FR r0) 0 P ops Q i K a w:=by
 obtain ⟨hst,_⟩:=inv.st i o ho hD
 obtain ⟨g,hg,h1,h2⟩:=inv.dY i o ho hD E_
 have hlt:∀d,o.dst=some d→d<nt:=fun d hd=>by have:=cQ (hok o (ve ho)); rw[hd] at this; exact cO this
 simp only[wpOpIn,ho]
 rw[inv.wanted hok ho hst qI hg]
 cases hw:eD tm g with
 | false=>
  rw[if_neg (by simp)]
  exact ⟨jA,hK φ _ w (inv.done hok ho hD qI (fun d hd=>by rw[h1 hw d hd]; exact VR.undef) (Sub.refl φ) inv.hr inv.ext (fun _ _ e=>e))⟩
 | true=>
  rw[if_pos rfl]
  have h2:=h2 hw
  have hρ:=inv.VZ hok ho hst qI
  cases hc:fN P o.op with
  | rd x=>
   rw[hc] at h2
   obtain ⟨v,k1,k2⟩:=h2
   obtain ⟨v0,v',e1,e2,e3⟩:=s9 (β:=Option Value) (fl:=none) (good:=fun r=>r=some v) (by simp) (nu hc) hρ inv.hr (κ:=fun v _=>some v) k1 rfl
   cases e1
   refine ⟨jA,?_⟩
   rw[Oper.semAt_eq _ _ _ (fun c hcd=>by rw[hcd] at hc; cases hc),e3]
   exact hK φ _ w (inv.done hok ho hD qI (fun d hd=>by rw[k2 d hd]; exact e2) (Sub.refl φ) inv.hr inv.ext (fun _ _ e=>e))
  | al x=>
   rw[hc] at h2
   obtain ⟨n,ob,mk,k1,k2,k3,k4,k5,k6,k7⟩:=h2
   obtain ⟨ob',mk',O,e1,e2,e3,e4,e5⟩:=ta (β:=Option (bt × (Nat→Value))) (fl:=none) (good:=fun r=>r=some (ob,mk)) (P:=P) (w:=w) (by simp) (u_ hc) hρ (κ:=fun o mk=>some (o,mk)) k2 rfl
   cases e1
   refine ⟨jA,?_⟩
   rw[Oper.semAt_eq _ _ _ (fun c hcd=>by rw[hcd] at hc; cases hc),e5]
   refine hK (fO φ n ⟨w.heap.size,0,0⟩) _ _ (inv.done hok ho hD qI (fun d hd=>by rw[k7 d hd]; exact e4 _ _ _ (fG _ _ _)) (oc k4) (inv.hr.AF k3 k4 k5 0 0 (e3 _)) (inv.ext.AF k4 k6 O (qz (e3 ⟨0,0,0⟩) e2) 0 0) ?_)
   intro m mH hm2
   unfold fO
   rw[if_neg]
   ·exact hm2
   ·intro he; subst he; exact mH k1
  | wr=>rw[hc] at h2; exact h2.elim
end Go.Vai

namespace Go.Vai
open Go
variable {β:Type} {fl:β} {good:β→Prop} {pr:jg β} {P:Program} {φ:dm} {h h':Heap} {w:World} {t:TypeId}
variable {ops:Array Oper} {nt:Nat} {φ0:dm} {h0:Heap} {w0:World} {ds:List Deferred} {listed:Array Bool} {D M:Nat} {tm jo:T Value} {own:Nat→Option Nat} {a:Act}
theorem A0:∀(rV:List It),sV P ops.toList D M tm h rV=true→∀k q,(k,q)∈rV→bit D k=true→bit M k=false→∀x g,fN P q.op=.rd x→guardOf ops.toList q=some g→eD tm g=true→
  ∃v,jh x tm h=some v∧∀d,q.dst=some d→bX tm d=v:=by
 intro rV
 induction rV with
 | nil=>intro _ k q hm; cases hm
 | cons it rV ih=>
  obtain ⟨j,o⟩:=it
  intro hs k q hm hD hM x g hc hg hw
  simp only[List.mem_cons] at hm
  unfold sV at hs
  rcases hm with e | hm
  ·cases e
   simp only[hD,hM,hc,hg,hw,Bool.not_false,Bool.and_true,Bool.and_eq_true] at hs
   have hs:=hs.1
   split at hs
   ·rename_i v d hv hd
    refine ⟨v,hv,fun d' hd'=>?_⟩
    rw[hd] at hd'; cases hd'
    exact (DP 8 _ _ hs).symm
   ·rename_i v hv hd
    exact ⟨v,hv,fun d' hd'=>by rw[hd] at hd'; cases hd'⟩
   ·cases hs
  ·refine ih ?_ k q hm hD hM x g hc hg hw
   split at hs
   ·simp only[Bool.and_eq_true] at hs; exact hs.2
   ·exact hs
theorem A3 {rV:List It} (ha:xX P D M rV=false) {k:Nat} {q:Oper} (hm:(k,q)∈rV) (hD:bit D k=true) (hM:bit M k=false) {x:PC} (hc:fN P q.op=.rd x):False:=by
 unfold xX at ha
 rw[List.any_eq_false] at ha
 have:=ha _ hm
 simp[hD,hM,hc] at this
theorem Inv.wrote (inv:Inv P ops nt φ0 h0 w0 ds jo listed D M tm h own φ a w) (hok:∀q∈ops.toList,dP nt q=true) {i:Nat} {o:Oper} (ho:ops[i]? = some o) (hD:bit D i=false) (qI:∀e∈bV o,kV listed e)
  (hst:Stat P ops i o) (hw:e_ P o=true) {M':Nat} (hM:∀k,bit M' k=true→kV listed k)
  (hno:∀k q,ops[k]? = some q→bit D k=true→e_ P q=false→bit M' k=false→∀d,o.dst=some d→q.dst≠some d∧d∉b_ ops.toList q)
  {φ':dm} {w':World} {v v':Value} {h':Heap} (hv:VR φ' v v') (hr':HR P φ' h' w') (hx:Ext φ φ' h h' w w')
  (hre:∀k q,ops[k]? = some q→bit D k=true→bit M' k=false→¬kV listed k→∀x g,fN P q.op=.rd x→guardOf ops.toList q=some g→eD (g_ tm o.dst v) g=true→
   ∃v1,jh x (g_ tm o.dst v) h'=some v1∧∀d,q.dst=some d→bX (g_ tm o.dst v) d=v1) :
  Inv P ops nt φ0 h0 w0 ds jo (listed.setIfInBounds i true) (ee D i) M' (g_ tm o.dst v) h' own φ' (a.put o.dst v') w':=by
 have hil:i<listed.size:=by rw[inv.PT]; exact (Array.getElem?_eq_some_iff.mp ho).1
 have ny:=cQ (hok o (ve ho))
 have V0:∀{k q},ops[k]? = some q→bit (ee D i) k=true→¬kV (listed.setIfInBounds i true) k→bit D k=true∧¬kV listed k∧e_ P q=false∧bit M' k=false:=by
  intro k q hq hk td
  rw[fo hil] at td
  have hki:k≠i:=fun e=>td (.inl e)
  have Ja:¬kV listed k:=fun e=>td (.inr e)
  rw[cB,Bool.or_eq_true] at hk
  have hk:bit D k=true:=by
   rcases hk with hk | hk
   ·exact hk
   ·exact absurd (by simpa using hk:i=k).symm hki
  refine ⟨hk,Ja,?_,?_⟩
  ·cases I9:e_ P q with
   | false=>rfl
   | true=>exact absurd (inv.wr k q hq hk I9) Ja
  ·cases hm:bit M' k with
   | false=>rfl
   | true=>exact absurd (hM k hm) Ja
 refine ⟨by simp[inv.PT],?_,?_,?_,?_,?_,inv.small,by rw[AZ]; exact inv.size,?_,hr',inv.ext.trans hx,by rw[Fa]; exact inv.Zg,?_,fun t ht hno=>by rw[fk inv.small ny ht,if_neg (hno i o ho)]; exact inv.keep t ht hno⟩
 ·intro k hk
  rw[cB]
  rcases (fo hil).mp hk with rfl | hk
  ·simp
  ·rw[inv.sub k hk]; rfl
 ·intro k q hq hk e he
  rw[fo hil]
  rcases (fo hil).mp hk with rfl | hk
  ·rw[ho] at hq; cases hq; exact .inr (qI e he)
  ·exact .inr (inv.Zf k q hq hk e he)
 ·intro k q hq hk Rx
  rw[fo hil]
  rw[cB,Bool.or_eq_true] at hk
  rcases hk with hk | hk
  ·exact .inr (inv.wr k q hq hk Rx)
  ·exact .inl (by simpa using hk:i=k).symm
 ·intro k hk; rw[fo hil]; exact .inr (hM k hk)
 ·intro k q hq hk
  rw[cB,Bool.or_eq_true] at hk
  have up:∀{e},bit D e=true→bit (ee D i) e=true:=fun he=>by rw[cB,he]; rfl
  rcases hk with hk | hk
  ·exact ⟨(inv.st k q hq hk).1,fun e he=>up ((inv.st k q hq hk).2 e he)⟩
  ·have hk:i=k:=by simpa using hk
   subst hk; rw[ho] at hq; cases hq; exact ⟨hst,fun e he=>up (inv.sub e (qI e he))⟩
 ·intro t ht hnot
  rw[AY (by rw[inv.size]; exact ht),fk inv.small ny ht]
  by_cases hd:o.dst=some t
  ·rw[if_pos hd,if_pos hd]; exact hv
  ·rw[if_neg hd,if_neg hd]
   refine (inv.rel t ht fun k q hq hk td=>hnot k q hq (by rw[cB,hk]; rfl) ?_).mono hx.sub
   rw[fo hil]
   rintro (rfl | hh)
   ·rw[hk] at hD; cases hD
   ·exact td hh
 ·intro k q hq hk td
  obtain ⟨fQ,hk2,MH,Ry⟩:=V0 hq hk td
  have hl:∀t∈b_ ops.toList q,bX (g_ tm o.dst v) t=bX tm t:=by
   intro t ht
   rw[fk inv.small ny (jO hok (ve hq) ht),if_neg]
   intro he
   exact (hno k q hq fQ MH Ry t he).2 ht
  have hd:∀d,q.dst=some d→bX (g_ tm o.dst v) d=bX tm d:=by
   intro d Ao
   have hlt:d<nt:=by have:=cQ (hok q (ve hq)); rw[Ao] at this; exact cO this
   rw[fk inv.small ny hlt,if_neg]
   intro he
   exact (hno k q hq fQ MH Ry d he).1 Ao
  refine (inv.dY k q hq fQ hk2).keep hl hd (fun x v1 g hc hg jZ _ _=>hre k q hq fQ Ry hk2 x g hc hg jZ) ?_
  intro n ob e1 e2 e3 e4 e5
  refine ⟨e1,by rw[hx.Dx n e4 e3]; exact e2,?_,Nat.lt_of_lt_of_le e4 hx.nx⟩
  cases hp:φ' n with
  | none=>rfl
  | some pl=>have:=(hx.new n pl e3 hp).1; omega
theorem Inv.write (hfl:¬good fl) (hp:fm good pr P) {rec:Rec β} (dR:jN good P rec) (inv:Inv P ops nt φ0 h0 w0 ds jo listed D M tm h own φ a w) (hok:∀q∈ops.toList,dP nt q=true) {i:Nat} {o:Oper} (ho:ops[i]? = some o)
  (hD:bit D i=false) (qI:∀e∈bV o,kV listed e) (hst:Stat P ops i o) (hw:e_ P o=true) {M':Nat} (hM:∀k,bit M' k=true→kV listed k)
  (hno:∀k q,ops[k]? = some q→bit D k=true→e_ P q=false→bit M' k=false→∀d,o.dst=some d→q.dst≠some d∧d∉b_ ops.toList q)
  {κ:T Value→Heap→β} (hg:good (iJ fl pr P rec ops.toList D M' o tm h κ)) {Q:Exit→Act→World→Prop} {K:Act→World→Prop} {r0:Option Nat}
  (hK:∀bU h' φ' a' w',Inv P ops nt φ0 h0 w0 ds jo (listed.setIfInBounds i true) (ee D i) M' bU h' own φ' a' w'→good (κ bU h')→K a' w'):wpOpIn (FR r0) 0 P ops Q i K a w:=by
 simp only[wpOpIn,ho]
 unfold iJ at hg
 split at hg
 ·exact absurd hg hfl
 rename_i g Iy
 rw[inv.wanted hok ho hst qI Iy]
 split at hg
 ·rename_i jZ
  rw[fh] at hg
  rw[jZ,if_neg (by simp)]
  refine ⟨jA,?_⟩
  refine hK _ _ φ _ w (inv.wrote hok ho hD qI hst hw hM hno VR.undef inv.hr (Ext.refl _ _ _) ?_) hg
  intro k q hq hk U2 td x g' hc hg' M8
  have MH:=DV hc
  have ny:=cQ (hok o (ve ho))
  have hl:∀t∈b_ ops.toList q,bX (g_ tm o.dst undef) t=bX tm t:=by
   intro t ht
   rw[fk inv.small ny (jO hok (ve hq) ht),if_neg]
   intro he
   exact (hno k q hq hk MH U2 t he).2 ht
  obtain ⟨g2,e1,e2,e3⟩:=inv.dY k q hq hk td
  rw[hg'] at e1; cases e1
  have e3:=e3 (by rw[←lz hg' hl]; exact M8)
  rw[hc] at e3
  obtain ⟨v,k1,k2⟩:=e3
  refine ⟨v,?_,fun d Ao=>?_⟩
  ·unfold jh at *
   rw[XI.congr (fun y hy=>nv hl y (r_ (nu hc) y hy))]
   exact k1
  ·have hlt:d<nt:=by have:=cQ (hok q (ve hq)); rw[Ao] at this; exact cO this
   rw[fk inv.small ny hlt,if_neg]
   ·exact k2 d Ao
   ·intro he
    exact (hno k q hq hk MH U2 d he).1 Ao
 ·rename_i jZ
  rw[jZ,if_pos rfl]
  rw[GU hw] at hg
  refine AT hfl hp dR (inv.VZ hok ho hst qI) inv.hr hg ?_
  intro φ' v v' h' w' g1 g2 g3 g4
  rw[fh] at g1
  split at g1
  ·rename_i ha
   refine hK _ _ φ' _ w' (inv.wrote hok ho hD qI hst hw hM hno g2 g3 g4 ?_) g1
   intro k q hq hk U2 td x g' hc hg' M8
   exact (A3 ha (AW hq) hk U2 hc).elim
  ·split at g1
   ·rename_i GV
    refine hK _ _ φ' _ w' (inv.wrote hok ho hD qI hst hw hM hno g2 g3 g4 ?_) g1
    intro k q hq hk U2 td x g' hc hg' M8
    exact A0 _ GV k q (AW hq) hk U2 x g' hc hg' M8
   ·exact absurd g1 hfl
theorem vf {S:Nat→Prop}:∀(l:List Nat) (m:Nat),(∀k,bit m k=true→S k)→(∀e∈l,S e)→∀k,bit (l.foldl ee m) k=true→S k:=by
 intro l
 induction l with
 | nil=>intro m h1 _ k hk; exact h1 k hk
 | cons e l ih=>
  intro m h1 h2 k hk
  refine ih (ee m e) ?_ (fun x hx=>h2 x (by simp[hx])) k hk
  intro x hx
  rw[cB,Bool.or_eq_true] at hx
  rcases hx with hx | hx
  ·exact h1 x hx
  ·have:e=x:=by simpa using hx
   subst this; exact h2 e (by simp)
theorem GX {S:Nat→Prop} {os:List Oper} (hc:∀i o,os[i]? = some o→S i→∀e∈bV o,S e):∀(i m:Nat),(∀k,bit m k=true→S k)→∀k,bit (IL os i m) k=true→S k:=by
 intro i
 induction i with
 | zero=>intro m h1 k hk; exact h1 k hk
 | succ i ih=>
  intro m h1 k hk
  unfold IL at hk
  split at hk
  ·rename_i o hb ho
   exact ih _ (vf _ _ h1 (hc i o ho (h1 i hb))) k hk
  ·exact ih m h1 k hk
theorem DW {S:Nat→Prop} {os:List Oper} (hc:∀i o,os[i]? = some o→S i→∀e∈bV o,S e) {i:Nat} {o:Oper} (ho:os[i]? = some o) (hp:∀e∈bV o,S e):∀k,bit (oS os i) k=true→S k:=by
 unfold oS
 rw[ho]
 exact GX hc i _ (vf _ _ (fun k hk=>by rw[AV] at hk; cases hk) hp)
theorem ya {i:Nat} (hi:i∈Region.ready .any ops listed):∃o,ops[i]? = some o∧¬kV listed i∧∀e∈bV o,kV listed e:=by
 unfold Region.ready at hi
 simp only[List.mem_filter,List.mem_range,Bool.and_eq_true] at hi
 obtain ⟨h1,h2,h3⟩:=hi
 have ho:ops[i]? = some ops[i]:=by simp[h1]
 refine ⟨ops[i],ho,?_,?_⟩
 ·intro hh
  unfold kV at hh
  simp only[Array.getD_eq_getD_getElem?] at hh h2
  cases hl:listed[i]? with
  | none=>rw[hl] at hh; simp at hh
  | some b=>rw[hl] at hh h2; simp at hh h2; rw[hh] at h2; cases h2
 ·intro e he
  rw[ho] at h3
  simp only[Option.map_some,Option.getD_some,Array.all_eq_true'] at h3
  unfold bV at he
  simp only[List.mem_map,List.mem_filter] at he
  obtain ⟨x,⟨hx,hb⟩,rfl⟩:=he
  have:=h3 x (by simpa using hx)
  rw[hb] at this
  simp only[Bool.not_true,Bool.false_or] at this
  exact this
theorem mem_ready {i:Nat} {o:Oper} (ho:ops[i]? = some o) (hsz:listed.size=ops.size) (hn:¬kV listed i) (hp:∀e∈bV o,kV listed e):i∈Region.ready .any ops listed:=by
 have hlt:i<ops.size:=(Array.getElem?_eq_some_iff.mp ho).1
 unfold Region.ready
 simp only[List.mem_filter,List.mem_range,Bool.and_eq_true]
 refine ⟨hlt,?_,?_⟩
 ·have V1:i<listed.size:=by omega
  unfold kV at hn
  simp only[Array.getD_eq_getD_getElem?,getElem?_pos listed i V1] at hn ⊢
  simpa using hn
 ·rw[ho]
  simp only[Option.map_some,Option.getD_some,Array.all_eq_true']
  intro e he
  cases hb:Region.binds .any e with
  | false=>rfl
  | true=>
   have:=hp e.on (by unfold bV; simp only[List.mem_map,List.mem_filter]; exact ⟨e,⟨by simpa using he,hb⟩,rfl⟩)
   simp only[Bool.not_true,Bool.false_or]
   exact this
section
variable {nt:Nat} {κ:T Value→Heap→β} {Q:Exit→Act→World→Prop} {r0:Option Nat}
theorem Rz {own:Nat→Option Nat} (inv:Inv P ops nt φ0 h0 w0 ds jo listed D M tm h own φ a w) (hidx:∀i o,ops[i]? = some o→∀e∈bV o,e<i) (hr:Region.ready .any ops listed=[]):∀i o,ops[i]? = some o→kV listed i:=by
 intro i
 induction i using Nat.strongRecOn with
 | _ i ih=>
  intro o ho
  by_cases hi:kV listed i
  ·exact hi
  ·have hlt:i<ops.size:=(Array.getElem?_eq_some_iff.mp ho).1
   have:=mem_ready ho inv.PT hi fun e he=>by
    have hei:=hidx i o ho e he
    exact ih e hei ops[e] (by simp)
   rw[hr] at this; cases this
theorem Inv.full {own:Nat→Option Nat} (inv:Inv P ops nt φ0 h0 w0 ds jo listed D M tm h own φ a w) (hall:∀i o,ops[i]? = some o→kV listed i):TR φ nt tm a:=
 ⟨inv.size,inv.small,fun t ht=>inv.rel t ht fun i o ho _ hS=>absurd (hall i o ho) hS⟩
theorem nD {i:Nat} {is:List Nat} {D M:Nat} (hp:kQ P ops.toList (i::is) D M=true):∃o,ops[i]? = some o∧
  MV P ops.toList (dW ops.toList 0) D (match e_ P o with | true=>Nat.lor M (oS ops.toList i) | false=>M) i o=true∧
  kQ P ops.toList is (ee D i) (match e_ P o with | true=>Nat.lor M (oS ops.toList i) | false=>M)=true:=by
 unfold kQ at hp
 split at hp<;>try contradiction
 rename_i o ho
 rw[Array.getElem?_toList] at ho
 simp only[Bool.and_eq_true] at hp
 exact ⟨o,ho,hp.1,hp.2⟩
theorem aac (hfl:¬good fl) (hok:∀q∈ops.toList,dP nt q=true) {rec:Rec β} {i:Nat} {o:Oper} (ho:ops[i]? = some o) (E_:¬kV listed i) (qI:∀e∈bV o,kV listed e) :
  ∀(l:List Nat) (D M:Nat) (tm:T Value) (h:Heap) (own:Nat→Option Nat),Inv P ops nt φ0 h0 w0 ds jo listed D M tm h own φ a w→kQ P ops.toList l D M=true→good (gM fl pr P rec ops.toList l D M tm h κ)→
   ∃l' D' bU h' pM,Inv P ops nt φ0 h0 w0 ds jo listed D' M bU h' pM φ a w∧kQ P ops.toList l' D' M=true∧good (gM fl pr P rec ops.toList l' D' M bU h' κ)∧
    (bit D' i=true∨(e_ P o=true∧∃js,l'=i::js)):=by
 intro l
 induction l with
 | nil=>
  intro D M tm h own inv hp hg
  refine ⟨[],D,tm,h,own,inv,hp,hg,.inl ?_⟩
  unfold kQ at hp
  rw[List.all_eq_true] at hp
  exact hp _ (AW ho)
 | cons j js ih=>
  intro D M tm h own inv hp hg
  by_cases RA:bit D i=true
  ·exact ⟨j::js,D,tm,h,own,inv,hp,hg,.inl RA⟩
  have RA:bit D i=false:=by simpa using RA
  obtain ⟨q,hq,tf,mF⟩:=nD hp
  obtain ⟨k1,k2,k3,k4,k5⟩:=pL tf
  cases hw:e_ P q with
  | true=>
   have hij:i=j:=by
    by_cases hij:i=j
    ·exact hij
    ·have:=(k5 hw).1 i o ho hij RA
     have hrd:mY D o=true:=by unfold mY; rw[List.all_eq_true]; exact fun e he=>inv.sub e (qI e he)
     rw[hrd] at this; cases this
   subst hij
   rw[ho] at hq; cases hq
   exact ⟨i::js,D,tm,h,own,inv,hp,hg,.inr ⟨hw,js,rfl⟩⟩
  | false=>
   rw[hw] at mF tf
   simp only at mF
   unfold gM at hg
   rw[Array.getElem?_toList,hq] at hg
   simp only[hw] at hg
   obtain ⟨bU,h',pM,inv',hg'⟩:=inv.advance hfl hok hq k1 k2 k4 hw hg
   exact ih _ M bU h' pM inv' mF hg'
theorem M9 (hfl:¬good fl) (hp:fm good pr P) {rec:Rec β} (dR:jN good P rec) (hok:∀q∈ops.toList,dP nt q=true) (hidx:∀i o,ops[i]? = some o→∀e∈bV o,e<i)
  (hQ:∀bU h' φ' a' w',good (κ bU h')→TR φ' nt bU a'→HR P φ' h' w'→Ext φ0 φ' h0 h' w0 w'→a'.defers=ds→(∀t,t<nt→(∀(i:Nat) (o:Oper),ops[i]? = some o→o.dst≠some t)→bX bU t=bX jo t)→Q .normal a' w') :
  ∀(fuel:Nat) (listed:Array Bool) (l:List Nat) (D M:Nat) (tm:T Value) (h:Heap) (own:Nat→Option Nat) (φ:dm) (a:Act) (w:World),listed.toList.count false≤fuel→Inv P ops nt φ0 h0 w0 ds jo listed D M tm h own φ a w→
   kQ P ops.toList l D M=true→good (gM fl pr P rec ops.toList l D M tm h κ)→wpAnyIn (FR r0) 0 P .any ops Q fuel listed a w:=by
 have fin:∀(listed:Array Bool) (l:List Nat) (D M:Nat) (tm:T Value) (h:Heap) (own:Nat→Option Nat) (φ:dm) (a:Act) (w:World),Inv P ops nt φ0 h0 w0 ds jo listed D M tm h own φ a w→
   kQ P ops.toList l D M=true→good (gM fl pr P rec ops.toList l D M tm h κ)→Region.ready .any ops listed=[]→Q .normal a w:=by
  intro listed l D M tm h own φ a w inv M0 hg hr
  have hall:=Rz inv hidx hr
  cases l with
  | nil=>exact hQ tm h φ a w hg (inv.full hall) inv.hr inv.ext inv.Zg inv.keep
  | cons j js=>
   obtain ⟨q,hq,tf,_⟩:=nD M0
   have:=(pL tf).1
   rw[inv.sub j (hall j q hq)] at this; cases this
 intro fuel
 induction fuel with
 | zero=>
  intro listed l D M tm h own φ a w hc inv M0 hg
  have hr:Region.ready .any ops listed=[]:=by
   cases hr:Region.ready .any ops listed with
   | nil=>rfl
   | cons i is=>
    obtain ⟨o,ho,E_,_⟩:=ya (listed:=listed) (ops:=ops) (i:=i) (by rw[hr]; exact List.mem_cons_self)
    have hlt:i<listed.size:=by rw[inv.PT]; exact (Array.getElem?_eq_some_iff.mp ho).1
    have:false∈listed.toList:=by
     unfold kV at E_
     simp only[Array.getD_eq_getD_getElem?,getElem?_pos listed i hlt,Option.getD_some] at E_
     have:listed[i]=false:=by simpa using E_
     rw[←this]
     exact Array.getElem_mem_toList hlt
    have:=List.count_pos_iff.mpr this
    omega
  exact ⟨hr,fin listed l D M tm h own φ a w inv M0 hg hr⟩
 | succ fuel ih=>
  intro listed l D M tm h own φ a w hc inv M0 hg
  refine ⟨fin listed l D M tm h own φ a w inv M0 hg,fun i hi=>?_⟩
  obtain ⟨o,ho,E_,qI⟩:=ya hi
  have hlt:i<listed.size:=by rw[inv.PT]; exact (Array.getElem?_eq_some_iff.mp ho).1
  have V2:(listed.setIfInBounds i true).toList.count false≤fuel:=by
   have RC:listed.toList[i]'(by simpa using hlt)=false:=by
    unfold kV at E_
    simp only[Array.getD_eq_getD_getElem?,getElem?_pos listed i hlt,Option.getD_some] at E_
    simpa using E_
   rw[Array.toList_setIfInBounds,List.count_set (by simpa using hlt),RC]
   change listed.toList.count false-1+0≤fuel
   omega
  obtain ⟨l',D',bU,h',pM,inv',V3,hg',hend⟩:=aac hfl hok ho E_ qI l D M tm h own inv M0 hg
  by_cases RA:bit D' i=true
  ·exact inv'.late hok ho RA E_ qI fun φ' a' w' inv2=>ih _ l' D' M bU h' pM φ' a' w' V2 inv2 V3 hg'
  ·rcases hend with hend | ⟨hw,js,rfl⟩
   ·exact absurd hend RA
   obtain ⟨q,hq,tf,mF⟩:=nD V3
   rw[ho] at hq; cases hq
   rw[hw] at tf mF
   simp only at tf mF
   obtain ⟨k1,k2,k3,k4,k5⟩:=pL tf
   unfold gM at hg'
   rw[Array.getElem?_toList,ho] at hg'
   simp only[hw] at hg'
   refine inv'.write hfl hp dR hok ho k1 qI k4 hw ?_ (k5 hw).2 hg' fun PS h2 φ2 a2 w2 inv2 hg2=>ih _ js _ _ PS h2 pM φ2 a2 w2 V2 inv2 mF hg2
   intro k hk
   rw[Rw,Bool.or_eq_true] at hk
   rcases hk with hk | hk
   ·exact inv'.mS k hk
   ·exact DW (S:=kV listed) (os:=ops.toList) (fun j q hq hj=>inv'.Zf j q (by rw[←Array.getElem?_toList]; exact hq) hj) (by rw[Array.getElem?_toList]; exact ho) qI k hk
end
theorem pO (hfl:¬good fl) (hp:fm good pr P) (hm:P.follows .mixedOrders=true):DS good fl pr P:=by
 intro rec dR ops id nt hok φ tm h a w κ ht hr hg r0 Q hQ
 unfold jx at hg
 split at hg
 ·contradiction
 split at hg
 ·rename_i l hl
  unfold yU at hl
  split at hl<;>try contradiction
  split at hl<;>try contradiction
  rename_i RE
  cases hl
  simp only[Bool.and_eq_true] at RE
  refine wpIn_region_any hm ?_
  have M3:∀i,¬kV (Array.replicate ops.size false) i:=by
   intro i hi
   unfold kV at hi
   simp only[Array.getD_eq_getD_getElem?,Array.getElem?_replicate] at hi
   split at hi<;>simp at hi
  refine M9 (φ0:=φ) (h0:=h) (w0:=w) (ds:=a.defers) (jo:=tm) hfl hp dR hok ?_ hQ ops.size _ l 0 0 tm h (fun _=>none) φ a { w with drawn:=w.drawn+1 } ?_ ?_ RE.1 hg
  ·intro i o ho e he
   have:=RE.2
   rw[List.all_eq_true] at this
   have:=this _ (AW ho)
   simp only[List.all_eq_true] at this
   exact cO (this e he)
  ·refine Nat.le_trans List.count_le_length (by simp)
  ·have nb:∀k,bit 0 k=true→False:=fun k hb=>by rw[AV] at hb; cases hb
   exact ⟨by simp,fun i hi=>absurd hi (M3 i),fun i o _ hi=>absurd hi (M3 i),fun i o _ hb=>(nb i hb).elim,fun i hb=>(nb i hb).elim,fun i o _ hb=>(nb i hb).elim,
    ht.small,ht.size,fun t hlt _=>ht.rel t hlt,hr.drew,(Ext.refl φ h w).drew,rfl,fun i o _ hb=>(nb i hb).elim,fun _ _ _=>rfl⟩
 ·exact absurd hg hfl
end Go.Vai

namespace Go.Vai
open Go
variable {pr:jg Bool} {P:Program} {w:World}
theorem HR.start (w:World):HR P (fun _=>none) ⟨0,.nil,0⟩ w:=
 ⟨fun _ _ _ _ e=>(by cases e),fun _ _ e=>(by cases e),fun b o _ e=>(by rw[T.get_nil] at e; cases e),by decide,fun _ _ _ _ _ _ _ _ _ _ e=>(by cases e),Nat.le_refl _⟩
def yes (b:Bool):Prop:=b=true
def M_:jg Bool:=⟨fun _=>none,fun a b=>match a with | true=>b | false=>false⟩
theorem zi:fm yes M_ P:=⟨fun x y hxy=>by cases x<;>simp[M_,yes] at hxy ⊢; exact hxy,fun f g hg=>by cases hg⟩
end Go.Vai

namespace Go.Vai
open Go Go.RowKit
variable {P:Program}
theorem VR.k9 {φ:dm} {v:Value} (hv:kZ v=true):VR φ v v:=by
 cases v<;>first | exact VR.bool _ | exact VR.int _ _ | exact VR.string _ | cases hv
theorem VR.Na {φ:dm} {v v':Value} (hv:kZ v=true) (h:VR φ v v'):v'=v:=by
 cases h<;>first | rfl | cases hv
theorem F2.k9 {φ:dm}:∀{l:List Value},l.all kZ=true→F2 (VR φ) l l:=by
 intro l
 induction l with
 | nil=>intro _; exact .nil
 | cons v l ih=>
  intro h
  simp only[List.all_cons,Bool.and_eq_true] at h
  exact .cons (VR.k9 h.1) (ih h.2)
end Go.Vai

namespace Go.Vai
open Go
def CallW (P:Program) (f:FuncId) (args:List Value) (h:Heap) (κ:KQ):Prop:=
 ∀(φ:dm) (w:World) (args':List Value),F2 (VR φ) args args'→HR P φ h w→zf (fun p:Prop=>p) P φ h w κ f args'.toArray
def Ap (P:Program):jg Prop:=⟨fun f=>some (CallW P f),And⟩
def gQ:Rec Prop:=fun _ _ _ _=>False
abbrev RF (i:XI Prop) (tm:T Value) (h:Heap) (κ:KQ):Prop:=
 XI.rec (motive:=fun _=>Prop) (fun f=>f h κ) (fun x f=>f (dV tm x) h κ) (fun x y f=>f (dV tm x) (dV tm y) h κ)
  (fun x y z f=>f (dV tm x) (dV tm y) (dV tm z) h κ) (fun xs f=>f (xs.map (dV tm)) h κ) i
abbrev V4 (i:XA Prop) (tm:T Value) (κ:bt→(Nat→Value)→Prop):Prop:=
 XA.rec (motive:=fun _=>Prop) (fun f=>f κ) (fun x f=>f (dV tm x) κ) (fun x y f=>f (dV tm x) (dV tm y) κ) (fun xs f=>f (xs.map (dV tm)) κ) i
def ic (P:Program) (fv:Value) (args:List Value) (h:Heap) (κ:KQ):Prop:=sU False (Ap P) P gQ fv args h κ
def CallI (P:Program) (name:String) (r:Value) (args:List Value) (h:Heap) (κ:KQ):Prop:=II False (Ap P) P gQ name r args h κ
noncomputable def zj (P:Program) (c:Call) (tm:T Value) (h:Heap) (κ:KQ):Prop:=
 match c.callee with
 | .value (.func f)=>CallW P f (c.args.toList.map (dV tm)) h κ
 | .value x=>ic P (dV tm x) (c.args.toList.map (dV tm)) h κ
 | .invoke r name=>CallI P name (dV tm r) (c.args.toList.map (dV tm)) h κ
 | .builtin _=>False
noncomputable def jP (P:Program) (op:Op) (tm:T Value) (h:Heap) (κ:KQ):Prop:=
 match mE False P op with
 | some i=>RF i tm h κ
 | none=>match oQ False P op with
  | some i=>V4 i tm fun o mk=>an False o h fun b h=>κ (mk b) h
  | none=>match xU False P op with
   | some i=>RF i tm h κ
   | none=>match op with
    | .call c=>zj P c tm h κ
    | .next it false=>oP False And (dV tm it) h κ
    | _=>False
def ai (v:Value) (w:Bool):Bool:=match v,w with | .bool true,true=>true | .bool false,false=>true | _,_=>false
def ag (b:Bool) (f:(Value→Heap→Prop)→Prop) (h:Heap) (κ:KQ):Prop:=match b with | true=>f κ | false=>κ undef h
noncomputable abbrev Jb (P:Program) (all os:List Oper):T Value→Heap→(T Value→Heap→Prop)→Prop:=
 List.rec (motive:=fun _=>T Value→Heap→(T Value→Heap→Prop)→Prop) (fun tm h κ=>κ tm h)
  (fun o _ ih tm h κ=>Option.rec (motive:=fun _=>Prop) False
   (fun g=>Option.rec (motive:=fun _=>Prop) (jP P o.op tm h fun v h=>ih (g_ tm o.dst v) h κ)
    (fun sw=>ag (ai (bX tm sw.1) sw.2) (fun κ'=>jP P o.op tm h κ') h fun v h=>ih (g_ tm o.dst v) h κ) g) (guardOf all o)) os
def ay (o:Option Value) (h:Heap) (κ:KQ):Prop:=match o with | some v=>κ v h | none=>False
noncomputable def Dy (o:Option (bt × (Nat→Value))) (h:Heap) (κ:KQ):Prop:=match o with | some (b,mk)=>an False b h fun n h=>κ (mk n) h | none=>False
def cZ (b:Bool) (p:Prop):Prop:=match b with | true=>p | false=>False
noncomputable def eU (o:Option Value) (v:Value):Bool:=match o with | some u=>iI 8 u v | none=>false
def reN (o:Option Value):Bool:=match o with | some _=>true | none=>false
def reG (b r:Bool):Bool:=match b with | true=>r | false=>true
noncomputable def Nb (x:PC) (tm:T Value) (h:Heap):Option Value:=
 XI.rec (motive:=fun _=>Option Value) (fun f=>f h fun v _=>some v) (fun x f=>f (dV tm x) h fun v _=>some v) (fun x y f=>f (dV tm x) (dV tm y) h fun v _=>some v)
  (fun x y z f=>f (dV tm x) (dV tm y) (dV tm z) h fun v _=>some v) (fun xs f=>f (xs.map (dV tm)) h fun v _=>some v) x
noncomputable def mkW (x:Vy) (tm:T Value):Option (bt × (Nat→Value)):=
 XA.rec (motive:=fun _=>Option (bt × (Nat→Value))) (fun f=>f fun o mk=>some (o,mk)) (fun x f=>f (dV tm x) fun o mk=>some (o,mk)) (fun x y f=>f (dV tm x) (dV tm y) fun o mk=>some (o,mk)) (fun xs f=>f (xs.map (dV tm)) fun o mk=>some (o,mk)) x
noncomputable def A4 (P:Program) (os:List Oper) (D M:Nat) (tm:T Value) (h:Heap):List It→Bool
 | []=>true
 | (k,q)::rV=>match bit D k && !bit M k,fN P q.op with
  | true,.rd x=>(match guardOf os q with
   | some none=>(match q.dst with | some d=>eU (Nb x tm h) (bX tm d) | none=>reN (Nb x tm h))
   | some (some (s,w))=>reG (ai (bX tm s) w) (match q.dst with | some d=>eU (Nb x tm h) (bX tm d) | none=>reN (Nb x tm h))
   | none=>false) && A4 P os D M tm h rV
  | _,_=>A4 P os D M tm h rV
noncomputable def Fb (P:Program) (os:List Oper) (D M:Nat) (o:Oper) (tm:T Value) (h:Heap) (κ:KQ):Prop:=
 match fN P o.op with
 | .rd x=>ay (Nb x tm h) h κ
 | .al x=>Dy (mkW x tm) h κ
 | .wr=>match xX P D M (dW os 0) with
  | false=>jP P o.op tm h κ
  | true=>jP P o.op tm h fun v h=>cZ (A4 P os D M (g_ tm o.dst v) h (dW os 0)) (κ v h)
noncomputable def A6 (P:Program) (os:List Oper):List Nat→Nat→Nat→T Value→Heap→(T Value→Heap→Prop)→Prop
 | [],_,_,tm,h,κ=>κ tm h
 | i::is,D,M,tm,h,κ=>match os[i]? with
  | none=>False
  | some o=>match guardOf os o with
   | none=>False
   | some none=>Fb P os D (match e_ P o with | true=>Nat.lor M (oS os i) | false=>M) o tm h fun v h=>A6 P os is (ee D i) (match e_ P o with | true=>Nat.lor M (oS os i) | false=>M) (g_ tm o.dst v) h κ
   | some (some (s,w))=>ag (ai (bX tm s) w) (fun κ'=>Fb P os D (match e_ P o with | true=>Nat.lor M (oS os i) | false=>M) o tm h κ') h fun v h=>A6 P os is (ee D i) (match e_ P o with | true=>Nat.lor M (oS os i) | false=>M) (g_ tm o.dst v) h κ
noncomputable def Nc (P:Program) (os:List Oper) (draw:Bool) (tm:T Value) (h:Heap) (κ:T Value→Heap→Prop):Prop:=
 match draw with
 | false=>Jb P os os tm h κ
 | true=>match yU P os with
  | some l=>A6 P os l 0 0 tm h κ
  | none=>False
def GY (n:Nat) (l:List Nat):List Nat:=match l.any (Nat.beq n) with | true=>l | false=>n::l
def pQ (l:List Oper):List Nat:=l.foldr (fun o r=>match o.dst with | some d=>GY d r | none=>r) []
def Fc (l m:List Nat):List Nat:=l.foldr GY m
def qq:Code→List Nat
 | .region _ os _=>pQ os.toList
 | .seq a b | .cond _ a b=>Fc (qq a) (qq b)
 | .block _ c | .loop c | .scope c=>qq c
 | _=>[]
def Fe (id:Nat):Code→Nat
 | .exit i=>match Nat.beq i id with | true=>1 | false=>0
 | .seq a b | .cond _ a b=>Fe id a+Fe id b
 | .block _ c | .loop c | .scope c=>Fe id c
 | _=>0
def ways:Code→Nat
 | .seq a b=>ways a*ways b
 | .cond _ a b=>ways a+ways b
 | .block id c=>ways c+Fe id c
 | .loop _=>0
 | .scope c=>ways c
 | .exit _ | .ret=>0
 | _=>1
def slot (l:List Value) (i:Nat):Value:=l.getD i undef
noncomputable def Jc:Nat→List Nat→List Value→T Value→T Value
 | _,[],_,tm=>tm
 | i,s::ss,l,tm=>Jc (i+1) ss l (tm.aS s (slot l i))
noncomputable def GZ (ss:List Nat) (l:List Value) (tm:T Value):T Value:=Jc 0 ss l tm
abbrev KT:=Ex→T Value→Heap→Prop
abbrev toN (N:List Value→Heap→Prop) (ss:List Nat) (κ:KT):KT:=fun e tm h=>Ex.rec (motive:=fun _=>Prop) (N (ss.map (bX tm)) h) (fun i=>κ (.exit i) tm h) (κ .ret tm h) e
def dw (A:(List Value→Heap→Prop)→Prop) (B:List Value→Heap→Prop):Prop:=
 ∃J:List Value→Heap→Prop,A J∧∀l h,J l h→B l h
def ej (l0:List Value) (h0:Heap) (body:List Value→Heap→(List Value→Heap→Prop)→Prop):Prop:=
 ∃I:Nat→List Value→Heap→Prop,(∃n,I n l0 h0)∧∀n l h,I n l h→body l h fun l' h'=>∃m,m<n∧I m l' h'
def az (v:Value) (A B:Prop):Prop:=match v with | .bool true=>A | .bool false=>B | _=>False
abbrev aah (B:T Value→Heap→KT→Prop) (κ:KT):KT:=fun e tm h=>Ex.rec (motive:=fun _=>Prop) (B tm h κ) (fun i=>κ (.exit i) tm h) (κ .ret tm h) e
abbrev RG (id:Nat) (κ:KT):KT:=fun e tm h=>Ex.rec (motive:=fun _=>Prop) (κ .normal tm h) (fun i=>Bool.rec (motive:=fun _=>Prop) (κ (.exit i) tm h) (κ .normal tm h) (Nat.beq i id)) (κ .ret tm h) e
noncomputable def WP (P:Program):Code→T Value→Heap→KT→Prop
 | .skip,tm,h,κ=>κ .normal tm h
 | .label _,tm,h,κ=>κ .normal tm h
 | .region _ os draw,tm,h,κ=>Nc P os.toList draw tm h fun tm h=>κ .normal tm h
 | .seq a b,tm,h,κ=>match Nat.ble (ways a) 1 with
  | true=>WP P a tm h (aah (WP P b) κ)
  | false=>dw (fun N=>WP P a tm h (toN N (qq a) κ)) fun l h=>WP P b (GZ (qq a) l tm) h κ
 | .cond c a b,tm,h,κ=>az (dV tm c) (WP P a tm h κ) (WP P b tm h κ)
 | .block id c,tm,h,κ=>WP P c tm h (RG id κ)
 | .scope c,tm,h,κ=>WP P c tm h κ
 | .loop c,tm,h,κ=>ej ((qq c).map (bX tm)) h fun l h N=>WP P c (GZ (qq c) l tm) h (toN N (qq c) κ)
 | .exit id,tm,h,κ=>κ (.exit id) tm h
 | .ret,tm,h,κ=>κ .ret tm h
 | _,_,_,_=>False
abbrev G0 (h:Heap) (tm:T Value):List xo→(List Value→Prop)→Prop:=
 List.rec (motive:=fun _=>(List Value→Prop)→Prop) (fun κ=>κ [])
  (fun r _ ih κ=>xo.rec (motive:=fun _=>Prop) (fun t=>ih fun vs=>κ (bX tm t::vs)) (fun a=>load1 False (bX tm a) h fun v _=>ih fun vs=>κ (v::vs))
   (fun a s=>aI False s (bX tm a) h fun v _=>ih fun vs=>κ (v::vs)) False r)
abbrev Nd (κ:KQ) (h:Heap) (vs:List Value):Prop:=
 List.rec (motive:=fun _=>Prop) (κ (.tuple #[]) h) (fun v vs' _=>List.rec (motive:=fun _=>Prop) (κ v h) (fun _ _ _=>κ (.tuple ⟨vs⟩) h) vs') vs
abbrev aai (rs:List xo) (κ:KQ):KT:=fun e tm h=>Ex.rec (motive:=fun _=>Prop) (G0 h tm rs fun vs=>Nd κ h vs) (fun _=>False) (G0 h tm rs fun vs=>Nd κ h vs) e
noncomputable def aJ (P:Program) (f:FuncId) (args:List Value) (h:Heap) (κ:KQ):Prop:=
 match uJ P f with
 | .none=>False
 | .mk c rs nt=>match Nat.ble args.length nt with
  | true=>WP P c (lay args .nil 0) h (aai rs κ)
  | false=>False
variable {P:Program}
theorem Ff (i:XI Prop) (tm:T Value) (h:Heap) (κ:KQ):i.run tm h κ=RF i tm h κ:=by
 cases i with
 | k0 f=>rfl
 | k1 x f=>exact XI.bS ..
 | k2 x y f=>exact XI.cG ..
 | k3 x y z f=>exact XI.pz ..
 | kn xs f=>exact XI.fS ..
theorem Nf (i:XA Prop) (tm:T Value) (κ:bt→(Nat→Value)→Prop):i.run tm κ=V4 i tm κ:=by
 cases i with
 | k0 f=>rfl
 | k1 x f=>exact XA.bS ..
 | k2 x y f=>exact XA.cG ..
 | kn xs f=>exact XA.fS ..
theorem Jd (x:PC) (tm:T Value) (h:Heap):jh x tm h=Nb x tm h:=by
 unfold jh
 cases x with
 | k0 f=>rfl
 | k1 x f=>exact XI.bS ..
 | k2 x y f=>exact XI.cG ..
 | k3 x y z f=>exact XI.pz ..
 | kn xs f=>exact XI.fS ..
theorem RH (x:Vy) (tm:T Value):uL x tm=mkW x tm:=by
 unfold uL
 cases x with
 | k0 f=>rfl
 | k1 x f=>exact XA.bS ..
 | k2 x y f=>exact XA.cG ..
 | kn xs f=>exact XA.fS ..
theorem DX (c:Call) (tm:T Value) (h:Heap) (κ:KQ):lp False (Ap P) P c gQ tm h κ=zj P c tm h κ:=by
 unfold lp zj
 cases c.callee with
 | value x=>cases x<;>(simp only[pq,eE]; rfl)
 | invoke r name=>simp only[pq,eE]; rfl
 | builtin b=>rfl
theorem zk (op:Op) (tm:T Value) (h:Heap) (κ:KQ):mX False (Ap P) P op gQ tm h κ=jP P op tm h κ:=by
 unfold mX jP
 cases hR:mE False P op with
 | some i=>exact Ff ..
 | none=>
  cases hA:oQ False P op with
  | some i=>exact Nf ..
  | none=>
   cases hW:xU False P op with
   | some i=>exact Ff ..
   | none=>
    cases op<;>try rfl
    case call c=>exact DX ..
    case next it s=>cases s<;>first | rfl | (simp only[eE]; rfl)
theorem pT (tm:T Value) (s:Nat) (w:Bool):eD tm (some (s,w))=ai (bX tm s) w:=rfl
theorem RI (f:(Value→Heap→Prop)→Prop) (tm:T Value) (h:Heap) (s:Nat) (w:Bool) (d:Option Nat) (k:T Value→Heap→Prop) :
  ag (ai (bX tm s) w) f h (fun v h=>k (g_ tm d v) h)=Bool.rec (motive:=fun _=>Prop) (mK tm d undef h k) (f fun v h=>mK tm d v h k) (eD tm (some (s,w))):=by
 rw[pT]
 cases ai (bX tm s) w with
 | true=>show f _=f _; simp only[fh]
 | false=>show k _ h=mK tm d undef h k; rw[fh]
theorem Ng (all:List Oper):∀(os:List Oper) (tm:T Value) (h:Heap) (κ:T Value→Heap→Prop),Jb P all os tm h κ=lX False (Ap P) P gQ all os tm h κ:=by
 intro os
 induction os with
 | nil=>intro tm h κ; rfl
 | cons o os ih=>
  intro tm h κ
  have ih':(fun tm h=>Jb P all os tm h κ)=fun tm h=>lX False (Ap P) P gQ all os tm h κ:=by funext tm h; exact ih tm h κ
  show Option.rec (motive:=fun _=>Prop) False (fun g=>Option.rec (motive:=fun _=>Prop) (jP P o.op tm h fun v h=>(fun tm h=>Jb P all os tm h κ) (g_ tm o.dst v) h)
    (fun sw=>ag (ai (bX tm sw.1) sw.2) (fun κ'=>jP P o.op tm h κ') h fun v h=>(fun tm h=>Jb P all os tm h κ) (g_ tm o.dst v) h) g) (guardOf all o)=XO.rec (motive:=fun _=>Prop)
   (fun g d f=>Bool.rec (motive:=fun _=>Prop) (mK tm d undef h fun tm h=>lX False (Ap P) P gQ all os tm h κ)
    (f gQ tm h fun v h=>mK tm d v h fun tm h=>lX False (Ap P) P gQ all os tm h κ) (eD tm g)) (xV False (Ap P) P all o)
  rw[ih']
  unfold xV
  cases guardOf all o with
  | none=>rfl
  | some g=>
   cases g with
   | none=>
    show jP P o.op tm h _=mX False (Ap P) P o.op gQ tm h fun v h=>mK tm o.dst v h _
    simp only[fh]; rw[zk]
   | some sw=>
    obtain ⟨s,w⟩:=sw
    show ag (ai (bX tm s) w) (fun κ'=>jP P o.op tm h κ') h _=Bool.rec (motive:=fun _=>Prop) _ (mX False (Ap P) P o.op gQ tm h _) _
    refine (RI (fun κ'=>jP P o.op tm h κ') tm h s w o.dst fun tm h=>lX False (Ap P) P gQ all os tm h κ).trans ?_
    simp only[zk]
theorem Je (os:List Oper) (D M:Nat) (tm:T Value) (h:Heap):∀rV:List It,A4 P os D M tm h rV=sV P os D M tm h rV:=by
 intro rV
 induction rV with
 | nil=>rfl
 | cons it rV ih=>
  obtain ⟨k,q⟩:=it
  unfold A4 sV
  cases bit D k && !bit M k with
  | false=>exact ih
  | true=>
   cases fN P q.op with
   | rd x=>
    simp only[ih,Jd]
    congr 1
    cases guardOf os q with
    | none=>rfl
    | some g=>
     cases g with
     | none=>
      cases Nb x tm h<;>cases q.dst<;>rfl
     | some sw=>
      obtain ⟨s,w⟩:=sw
      simp only[pT]
      cases ai (bX tm s) w
      ·rfl
      ·cases Nb x tm h<;>cases q.dst<;>rfl
   | al x=>exact ih
   | wr=>exact ih
theorem DY (os:List Oper) (D M:Nat) (o:Oper) (tm:T Value) (h:Heap) (k:T Value→Heap→Prop) :
  Fb P os D M o tm h (fun v h=>k (g_ tm o.dst v) h)=(match fN P o.op with
   | .rd x=>match jh x tm h with
    | some v=>mK tm o.dst v h k
    | none=>False
   | .al x=>match uL x tm with
    | some (b,mk)=>an False b h fun n h=>mK tm o.dst (mk n) h k
    | none=>False
   | .wr=>mX False (Ap P) P o.op gQ tm h fun v h=>mK tm o.dst v h fun tm h=>
     match xX P D M (dW os 0) with
     | false=>k tm h
     | true=>match sV P os D M tm h (dW os 0) with
      | true=>k tm h
      | false=>False):=by
 unfold Fb
 cases fN P o.op with
 | rd x=>
  simp only[Jd,fh]
  cases Nb x tm h<;>rfl
 | al x=>
  simp only[RH,fh]
  cases mkW x tm<;>rfl
 | wr=>
  simp only[fh,zk]
  cases xX P D M (dW os 0) with
  | false=>rfl
  | true=>simp only[Je]; rfl
theorem Jf (os:List Oper):∀(l:List Nat) (D M:Nat) (tm:T Value) (h:Heap) (κ:T Value→Heap→Prop),A6 P os l D M tm h κ=gM False (Ap P) P gQ os l D M tm h κ:=by
 intro l
 induction l with
 | nil=>intro D M tm h κ; rfl
 | cons i is ih=>
  intro D M tm h κ
  unfold A6 gM
  cases os[i]? with
  | none=>rfl
  | some o=>
   simp only[ih]
   cases hg:guardOf os o with
   | none=>simp only[iJ,hg]
   | some g=>
    have hk:=fun M'=>DY (P:=P) os D M' o tm h fun tm h=>gM False (Ap P) P gQ os is (ee D i) M' tm h κ
    cases g with
    | none=>
     refine (hk _).trans ?_
     simp only[iJ,hg]; rfl
    | some sw=>
     obtain ⟨s,w⟩:=sw
     simp only[iJ,hg,pT]
     cases ai (bX tm s) w with
     | true=>exact hk _
     | false=>simp only[fh]; rfl
theorem Nh (os:List Oper) (draw:Bool) (tm:T Value) (h:Heap) (κ:T Value→Heap→Prop):Nc P os draw tm h κ=jx False (Ap P) P gQ os draw tm h κ:=by
 cases draw with
 | false=>exact Ng os os tm h κ
 | true=>
  unfold Nc jx
  cases yU P os with
  | none=>rfl
  | some l=>exact Jf os l 0 0 tm h κ
end Go.Vai

namespace Go.Vai
open Go
variable {P:Program} {φ:dm} {h:Heap} {w:World}
abbrev ok (p:Prop):Prop:=p
theorem vg:¬ok False:=id
theorem Jg:fm ok (Ap P) P:=
 ⟨fun _ _ h=>h,fun f g hg args args' h φ w κ ha hr hgd=>by cases hg; exact hgd φ w args' ha hr⟩
theorem A7:jN ok P gQ:=by
 intro c r tm h κ φ w nt a _ _ _ _ hg
 exact False.elim hg
def DZ (ss:List Nat) (nt:Nat) (tm bU:T Value):Prop:=∀t,t<nt→t∉ss→bX bU t=bX tm t
def o5 (P:Program) (nt:Nat) (φ:dm) (h:Heap) (w:World) (ds:List Deferred) (κ:KT) (ss:List Nat) (tm:T Value) (e:Exit) (a':Act) (w':World):Prop:=
 ∃x bU h' φ',e=I4 x∧κ x bU h'∧TR φ' nt bU a'∧HR P φ' h' w'∧Ext φ φ' h h' w w'∧a'.defers=ds∧DZ ss nt tm bU
theorem o5.after {nt:Nat} {φ1:dm} {h1:Heap} {w1:World} {ds ds1:List Deferred} {κ:KT} {ss ss1 ss2:List Nat} {tm M6 V5:T Value} {e:Exit} {a2:Act} {w2:World} (hx:Ext φ φ1 h h1 w w1)
  (hd:ds1=ds) (hk:DZ ss1 nt tm M6) (hk':∀t,t<nt→bX V5 t=bX M6 t) (hs:∀t,t∉ss→t∉ss1∧t∉ss2) (hp:o5 P nt φ1 h1 w1 ds1 κ ss2 V5 e a2 w2):o5 P nt φ h w ds κ ss tm e a2 w2:=by
 obtain ⟨x,PS,h2,φ2,rfl,k1,k2,k3,k4,k5,k6⟩:=hp
 exact ⟨x,PS,h2,φ2,rfl,k1,k2,k3,hx.trans k4,k5.trans hd,fun t ht hn=>(k6 t ht (hs t hn).2).trans ((hk' t ht).trans (hk t ht (hs t hn).1))⟩
theorem A8 {n t:Nat} {l:List Nat}:t∈GY n l↔t=n∨t∈l:=by
 unfold GY
 split
 ·rename_i h
  obtain ⟨x,hx,he⟩:=List.any_eq_true.mp h
  have:=cF he
  subst this
  constructor
  ·exact .inr
  ·rintro (rfl | h')<;>assumption
 ·simp
theorem om {t:Nat} {l m:List Nat}:t∈Fc l m↔t∈l∨t∈m:=by
 induction l with
 | nil=>simp[Fc]
 | cons a l ih=>
  show t∈GY a (Fc l m)↔_
  rw[A8,ih]; simp[or_assoc]
theorem vh {t:Nat}:∀{l:List Oper},t∈pQ l↔∃o∈l,o.dst=some t:=by
 intro l
 induction l with
 | nil=>simp[pQ]
 | cons o l ih=>
  have:pQ (o::l)=match o.dst with | some d=>GY d (pQ l) | none=>pQ l:=rfl
  rw[this]
  cases hd:o.dst with
  | none=>simp only[ih]; constructor
          ·rintro ⟨q,hq,e⟩; exact ⟨q,.tail _ hq,e⟩
          ·rintro ⟨q,hq,e⟩
           cases hq with
           | head=>rw[hd] at e; cases e
           | tail _ hq=>exact ⟨q,hq,e⟩
  | some d=>
   simp only[A8,ih]
   constructor
   ·rintro (rfl | ⟨q,hq,e⟩)
    ·exact ⟨o,.head _,hd⟩
    ·exact ⟨q,.tail _ hq,e⟩
   ·rintro ⟨q,hq,e⟩
    cases hq with
    | head=>rw[hd] at e; cases e; exact .inl rfl
    | tail _ hq=>exact .inr ⟨q,hq,e⟩
theorem Jh {nt:Nat}:∀(ss:List Nat) (pre:List Value) (f:Nat→Value) (tm:T Value) (t:Nat),(∀s∈ss,s<nt)→t<nt→bX (Jc pre.length ss (pre++ss.map f) tm) t=if t∈ss then f t else bX tm t:=by
 intro ss
 induction ss with
 | nil=>intro pre f tm t _ _; simp[Jc]
 | cons s ss ih=>
  intro pre f tm t hs ht
  simp only[List.map_cons,Jc]
  have VL:slot (pre++f s::ss.map f) pre.length=f s:=by simp[slot]
  rw[VL]
  have hih:=ih (pre++[f s]) f (tm.aS s (f s)) t (fun s hs'=>hs s (.tail _ hs')) ht
  simp only[List.length_append,List.length_cons,List.length_nil,List.append_assoc,List.cons_append,List.nil_append,Nat.zero_add] at hih
  rw[hih]
  by_cases h1:t∈ss
  ·rw[if_pos h1,if_pos (.tail _ h1)]
  ·rw[if_neg h1]
   have h2:bX (tm.aS s (f s)) t=if s=t then f s else bX tm t:=by
    simp only[bX]
    rw[T.kj _ _ (Nat.lt_succ_self _) (Nat.lt_succ_self _)]
    by_cases hst:s=t
    ·rw[if_pos hst,if_pos hst]
    ·rw[if_neg hst,if_neg hst]
   rw[h2]
   by_cases h3:s=t
   ·subst h3; rw[if_pos rfl,if_pos (.head _)]
   ·rw[if_neg h3,if_neg (by simp[h1,Ne.symm h3])]
theorem Ji {nt:Nat} (ss:List Nat) (f:Nat→Value) (tm:T Value) (t:Nat) (hs:∀s∈ss,s<nt) (ht:t<nt):bX (GZ ss (ss.map f) tm) t=if t∈ss then f t else bX tm t:=
 Jh ss [] f tm t hs ht
theorem si {nt:Nat} {ss:List Nat} {tm bU:T Value} (hs:∀s∈ss,s<nt) (hk:DZ ss nt tm bU):∀t,t<nt→bX (GZ ss (ss.map (bX bU)) tm) t=bX bU t:=by
 intro t ht
 rw[Ji ss _ _ t hs ht]
 split
 ·rfl
 ·rename_i h; exact (hk t ht h).symm
theorem TR.PU {nt:Nat} {ss:List Nat} {tm bU:T Value} {a:Act} (hs:∀s∈ss,s<nt) (hk:DZ ss nt tm bU) (ht:TR φ nt bU a):TR φ nt (GZ ss (ss.map (bX bU)) tm) a:=
 ⟨ht.size,ht.small,fun t hlt=>by rw[si hs hk t hlt]; exact ht.rel t hlt⟩
theorem Jj {nt:Nat}:∀{c:Code},codeOk nt c=true→∀s∈qq c,s<nt:=by
 intro c
 induction c with
 | region id os d=>
  intro hc s hs
  simp only[codeOk,List.all_eq_true] at hc
  obtain ⟨o,ho,he⟩:=vh.mp hs
  have:=cQ (hc o ho)
  rw[he] at this
  exact cO this
 | seq a b VA VB=>
  intro hc s hs
  simp only[codeOk,Bool.and_eq_true] at hc
  rcases om.mp hs with h | h
  ·exact VA hc.1 s h
  ·exact VB hc.2 s h
 | cond x a b VA VB=>
  intro hc s hs
  simp only[codeOk,Bool.and_eq_true] at hc
  rcases om.mp hs with h | h
  ·exact VA hc.1.2 s h
  ·exact VB hc.2 s h
 | block id c ih=>intro hc s hs; exact ih hc s hs
 | loop c ih=>intro hc s hs; exact ih hc s hs
 | scope c ih=>intro hc s hs; exact ih hc s hs
 | _=>intro _ s hs; simp[qq] at hs
theorem D0 {os:Array Oper} {t:Nat} (h:t∉pQ os.toList):∀(i:Nat) (o:Oper),os[i]? = some o→o.dst≠some t:=by
 intro i o ho hd
 exact h (vh.mpr ⟨o,List.mem_of_getElem? (by rw[Array.getElem?_toList]; exact ho),hd⟩)
theorem D1 {c:Code} {r:Option Nat} {nt:Nat} {κ:KT} {jo:T Value} (hn:r=none∨mW c=true) (hc:codeOk nt c=true)
  (ih:∀(tm:T Value) (h:Heap) (κ:KT) (φ:dm) (w:World) (a:Act),TR φ nt tm a→HR P φ h w→WP P c tm h κ→c.wpIn (FR r) 0 P (o5 P nt φ h w a.defers κ (qq c) tm) a w)
  (I:Nat→List Value→Heap→Prop) (hI:∀n l h,I n l h→WP P c (GZ (qq c) l jo) h (toN (fun l' h'=>∃m,m<n∧I m l' h') (qq c) κ)) :
  ∀(n:Nat) (tm:T Value) (h:Heap) (φ:dm) (w:World) (a:Act),DZ (qq c) nt jo tm→TR φ nt tm a→HR P φ h w→I n ((qq c).map (bX tm)) h→iZ r P c (o5 P nt φ h w a.defers κ (qq c) tm) a w:=by
 intro n
 induction n using Nat.strongRecOn with
 | ind n ihn=>
  intro tm h φ w a hk ht hr hi
  have hs:=Jj hc
  refine iZ.round (wpIn_mono (ih _ h _ φ w a (ht.PU hs hk) hr (hI n _ h hi)) ?_)
  rintro e a' w' ⟨x,bU,h',φ',rfl,g1,g2,g3,g4,g5,g6⟩
  have hkeep:DZ (qq c) nt tm bU:=fun t htn hnt=>(g6 t htn hnt).trans (si hs hk t htn)
  cases x with
  | normal=>
   obtain ⟨m,hm,hi'⟩:=g1
   have hk2:DZ (qq c) nt jo bU:=fun t htn hnt=>(hkeep t htn hnt).trans (hk t htn hnt)
   exact (ihn m hm bU h' φ' w' a' hk2 g2 g3 hi').mono fun e a2 w2 hp=>o5.after g4 g5 hkeep (fun _ _=>rfl) (fun t ht=>⟨ht,ht⟩) hp
  | exit i=>exact ⟨.exit i,bU,h',φ',rfl,g1,g2,g3,g4,g5,hkeep⟩
  | ret=>exact ⟨.ret,bU,h',φ',rfl,g1,g2,g3,g4,g5,hkeep⟩
theorem Jk (hm:P.follows .mixedOrders=true):∀(c:Code) (r:Option Nat) (nt:Nat),(r=none∨mW c=true)→codeOk nt c=true→∀(tm:T Value) (h:Heap) (κ:KT) (φ:dm) (w:World) (a:Act),
  TR φ nt tm a→HR P φ h w→WP P c tm h κ→c.wpIn (FR r) 0 P (o5 P nt φ h w a.defers κ (qq c) tm) a w:=by
 intro c
 induction c with
 | skip=>intro r nt hn hc tm h κ φ w a ht hr hg; exact wpIn_skip ⟨.normal,tm,h,φ,rfl,hg,ht,hr,Ext.refl _ _ _,rfl,fun _ _ _=>rfl⟩
 | label l=>intro r nt hn hc tm h κ φ w a ht hr hg; exact wpIn_label ⟨.normal,tm,h,φ,rfl,hg,ht,hr,Ext.refl _ _ _,rfl,fun _ _ _=>rfl⟩
 | ret=>intro r nt hn hc tm h κ φ w a ht hr hg; exact wpIn_ret ⟨.ret,tm,h,φ,rfl,hg,ht,hr,Ext.refl _ _ _,rfl,fun _ _ _=>rfl⟩
 | exit id=>intro r nt hn hc tm h κ φ w a ht hr hg; exact wpIn_exit ⟨.exit id,tm,h,φ,rfl,hg,ht,hr,Ext.refl _ _ _,rfl,fun _ _ _=>rfl⟩
 | region id os draw=>
  intro r nt hn hc tm h κ φ w a ht hr hg
  have hok:∀q∈os.toList,dP nt q=true:=by
   simp only[codeOk,List.all_eq_true] at hc; exact hc
  have hg':ok (jx False (Ap P) P gQ os.toList draw tm h fun tm h=>κ .normal tm h):=by
   have:Nc P os.toList draw tm h (fun tm h=>κ .normal tm h):=hg
   rwa [Nh] at this
  have hQ:∀bU h' φ' a' w',ok ((fun tm h=>κ .normal tm h) bU h')→TR φ' nt bU a'→HR P φ' h' w'→Ext φ φ' h h' w w'→a'.defers=a.defers→
    (∀t,t<nt→(∀(i:Nat) (o:Oper),os[i]? = some o→o.dst≠some t)→bX bU t=bX tm t)→o5 P nt φ h w a.defers κ (qq (.region id os draw)) tm .normal a' w':=
   fun bU h' φ' a' w' g1 g2 g3 g4 g5 g6=>⟨.normal,bU,h',φ',rfl,g1,g2,g3,g4,g5,fun t ht hnt=>g6 t ht (D0 hnt)⟩
  cases draw with
  | false=>
   refine wpIn_region ?_
   rw[List.range_eq_range']
   have:=qH (r0:=r) (jo:=tm) vg Jg A7 hok hQ os.toList 0 φ tm h a w (fun k=>by simp) ht hr (Ext.refl _ _ _) rfl (fun _ _ _=>rfl) hg'
   simpa using this
  | true=>exact pO (good:=ok) vg Jg hm gQ A7 os id nt hok φ tm h a w _ ht hr hg' r _ hQ
 | seq x y ihx ihy=>
  intro r nt hn hc tm h κ φ w a ht hr hg
  simp only[codeOk,Bool.and_eq_true] at hc
  obtain ⟨y_,hn2⟩:=uf (x:=x) (y:=y) hn rfl
  have hmem:∀t,t∉qq (.seq x y)→t∉qq x∧t∉qq y:=fun t ht=>by
   have:¬(t∈qq x∨t∈qq y):=fun hh=>ht (om.mpr hh)
   exact not_or.mp this
  unfold WP at hg
  split at hg
  ·refine wpIn_seq (wpIn_mono (ihx r nt y_ hc.1 tm h _ φ w a ht hr hg) ?_)
   rintro e a' w' ⟨e0,bU,h',φ',rfl,g1,g2,g3,g4,g5,g6⟩
   cases e0 with
   | normal=>exact wpIn_mono (ihy r nt hn2 hc.2 bU h' κ φ' w' a' g2 g3 g1) fun e a2 w2 hp=>o5.after g4 g5 g6 (fun _ _=>rfl) hmem hp
   | exit i=>exact ⟨.exit i,bU,h',φ',rfl,g1,g2,g3,g4,g5,fun t ht hnt=>g6 t ht (hmem t hnt).1⟩
   | ret=>exact ⟨.ret,bU,h',φ',rfl,g1,g2,g3,g4,g5,fun t ht hnt=>g6 t ht (hmem t hnt).1⟩
  ·obtain ⟨J,hA,hB⟩:=hg
   refine wpIn_seq (wpIn_mono (ihx r nt y_ hc.1 tm h _ φ w a ht hr hA) ?_)
   rintro e a' w' ⟨e0,bU,h',φ',rfl,g1,g2,g3,g4,g5,g6⟩
   have hs:=Jj hc.1
   cases e0 with
   | normal=>exact wpIn_mono (ihy r nt hn2 hc.2 _ h' κ φ' w' a' (g2.PU hs g6) g3 (hB _ _ g1)) fun e a2 w2 hp=>o5.after g4 g5 g6 (si hs g6) hmem hp
   | exit i=>exact ⟨.exit i,bU,h',φ',rfl,g1,g2,g3,g4,g5,fun t ht hnt=>g6 t ht (hmem t hnt).1⟩
   | ret=>exact ⟨.ret,bU,h',φ',rfl,g1,g2,g3,g4,g5,fun t ht hnt=>g6 t ht (hmem t hnt).1⟩
 | cond x c1 c2 ih1 ih2=>
  intro r nt hn hc tm h κ φ w a ht hr hg
  simp only[codeOk,Bool.and_eq_true] at hc
  obtain ⟨y_,hn2⟩:=uf (x:=c1) (y:=c2) hn rfl
  have hmem:∀t,t∉qq (.cond x c1 c2)→t∉qq c1∧t∉qq c2:=fun t ht=>by
   have:¬(t∈qq c1∨t∈qq c2):=fun hh=>ht (om.mpr hh)
   exact not_or.mp this
  have hg':az (dV tm x) (WP P c1 tm h κ) (WP P c2 tm h κ):=hg
  have hx:=ht.eval hc.1.1
  unfold az at hg'
  split at hg'<;>try exact hg'.elim
  ·rename_i hv
   rw[hv] at hx
   refine wpIn_cond_true (by generalize a.eval x=z at hx; cases hx; rfl) (wpIn_mono (ih1 r nt y_ hc.1.2 tm h κ φ w a ht hr hg') ?_)
   rintro e a' w' ⟨e0,bU,h',φ',rfl,g1,g2,g3,g4,g5,g6⟩
   exact ⟨e0,bU,h',φ',rfl,g1,g2,g3,g4,g5,fun t ht hnt=>g6 t ht (hmem t hnt).1⟩
  ·rename_i hv
   rw[hv] at hx
   refine wpIn_cond_false (by generalize a.eval x=z at hx; cases hx; rfl) (wpIn_mono (ih2 r nt hn2 hc.2 tm h κ φ w a ht hr hg') ?_)
   rintro e a' w' ⟨e0,bU,h',φ',rfl,g1,g2,g3,g4,g5,g6⟩
   exact ⟨e0,bU,h',φ',rfl,g1,g2,g3,g4,g5,fun t ht hnt=>g6 t ht (hmem t hnt).2⟩
 | block id c ih=>
  intro r nt hn hc tm h κ φ w a ht hr hg
  refine wpIn_block (wpIn_mono (ih r nt hn hc tm h _ φ w a ht hr hg) ?_)
  rintro e a' w' ⟨e0,bU,h',φ',rfl,g1,g2,g3,g4,g5,g6⟩
  cases e0 with
  | normal=>exact ⟨.normal,bU,h',φ',rfl,g1,g2,g3,g4,g5,g6⟩
  | ret=>exact ⟨.ret,bU,h',φ',rfl,g1,g2,g3,g4,g5,g6⟩
  | exit i=>
   have US:Bool.rec (motive:=fun _=>Prop) (κ (.exit i) bU h') (κ .normal bU h') (Nat.beq i id):=g1
   simp only[I4,Exit.inBlock]
   cases hb:Nat.beq i id with
   | true=>
    rw[hb] at US
    rw[if_pos (cF hb)]
    exact ⟨.normal,bU,h',φ',rfl,US,g2,g3,g4,g5,g6⟩
   | false=>
    rw[hb] at US
    rw[if_neg (m_ hb)]
    exact ⟨.exit i,bU,h',φ',rfl,US,g2,g3,g4,g5,g6⟩
 | scope c ih=>
  intro r nt hn hc tm h κ φ w a ht hr hg
  refine u0 (ih r nt hn hc tm h κ φ w a ht hr hg) ?_
  rintro l a' w' ⟨x,bU,h',φ',hx,_⟩
  cases x<;>cases hx
 | loop c ih=>
  intro r nt hn hc tm h κ φ w a ht hr hg
  obtain ⟨I,⟨n,h0⟩,hI⟩:=hg
  exact (D1 (c:=c) (κ:=κ) (jo:=tm) hn hc (fun tm h κ φ w a=>ih r nt hn hc tm h κ φ w a) I hI n tm h φ w a (fun _ _ _=>rfl) ht hr h0).wp
 | _=>intro r nt hn hc tm h κ φ w a ht hr hg; exact False.elim hg
theorem Ni (h:Heap) (tm:T Value):∀(rs:List xo) (κ:List Value→Prop),G0 h tm rs κ=dh False h tm rs κ:=by
 intro rs
 induction rs with
 | nil=>intro κ; rfl
 | cons r rs ih=>
  intro κ
  cases r with
  | tmp t=>simp only[dh,eE]; exact ih _
  | one a=>simp only[dh,eE]; show load1 False (bX tm a) h (fun v _=>G0 h tm rs fun vs=>κ (v::vs))=_; simp only[ih]; rfl
  | agg a s=>simp only[dh,eE]; show aI False s (bX tm a) h (fun v _=>G0 h tm rs fun vs=>κ (v::vs))=_; simp only[ih]; rfl
  | bad=>rfl
theorem Nj (κ:KQ) (h:Heap) (vs:List Value):Nd κ h vs=IG κ h vs:=by
 cases vs with
 | nil=>rfl
 | cons v vs=>cases vs<;>rfl
theorem aj (hm:P.follows .mixedOrders=true) {f:FuncId} {args:List Value} {h:Heap} {κ:Value→Heap→Prop} (hg:aJ P f args h κ):CallW P f args h κ:=by
 intro φ w args' ha hr
 unfold aJ at hg
 split at hg
 ·exact hg.elim
 ·rename_i c rs nt hc
  obtain ⟨fn,hf,hb,rfl,rfl,Am,Z4,hnt,uX⟩:=qF hc
  split at hg<;>try exact hg.elim
  rename_i hle
  refine ⟨uX _ _,?_⟩
  have hst:=TR.start (nt:=fn.ntmps) ha hnt (cu hle)
  refine ue (r:=none) (n:=0) |>.1 (callsIn_of_wp_marks hf hb trivial (wpIn_mono (Jk hm c none _ (.inl rfl) Am _ h _ φ w _ hst hr hg) ?_))
  rintro e a' w' ⟨x,bU,h',φ',rfl,g1,g2,g3,g4,g5,_⟩
  have MG:a'.defers=[]:=g5
  have fin:G0 h' bU (fn.results.toList.map (sS P)) (fun vs=>Nd κ h' vs)→
    LeavesInM (FR none) 0 P fn a'.tmps (fun e w'=>∃φ' v v' h',e=.returned v'∧ok (κ v h')∧VR φ' v v'∧HR P φ' h' w'∧Ext φ φ' h h' w w') a'.defers .returning w':=by
   intro k
   rw[Ni] at k
   simp only[Nj] at k
   rw[MG]
   refine nq (a:=a') (φ':=φ') (h':=h') ?_ [] w'.heap.size w' trivial g3 g4
   intro w2 Ix hx2
   obtain ⟨vs,vs',k1,k2,k3⟩:=nk (good:=ok) vg Ix g2 _ Z4 k
   refine ⟨_,qE k3,?_⟩
   cases k2 with
   | nil=>exact ⟨φ',_,_,h',rfl,k1,VR.tuple' .nil,Ix,hx2⟩
   | cons hv hvs=>
    cases hvs with
    | nil=>exact ⟨φ',_,_,h',rfl,k1,hv,Ix,hx2⟩
    | cons Rf hvs=>exact ⟨φ',_,_,h',rfl,k1,VR.tuple' (.cons hv (.cons Rf hvs)),Ix,hx2⟩
  cases x with
  | normal=>exact fin g1
  | exit i=>exact False.elim g1
  | ret=>exact fin g1
end Go.Vai

namespace Go.Vai
open Go
variable {β:Type} {fl:β}
theorem T.G1 {α:Type} (a a':α) (p:List Bool):∀t:T α,T.lY a' p (T.lY a p t)=T.lY a' p t:=by
 induction p with
 | nil=>intro t; cases t<;>rfl
 | cons b p ih=>intro t; cases t<;>cases b<;>simp only[T.lY]<;>rw[ih]
theorem T.G2 {α:Type} (a b:α):∀(p q:List Bool) (t:T α),p≠q→T.lY a p (T.lY b q t)=T.lY b q (T.lY a p t):=by
 intro p
 induction p with
 | nil=>
  intro q t hpq
  cases q with
  | nil=>exact absurd rfl hpq
  | cons c q=>cases t<;>cases c<;>rfl
 | cons x p ih=>
  intro q t hpq
  cases q with
  | nil=>cases t<;>cases x<;>rfl
  | cons c q=>
   have h:x=c→p≠q:=fun e e'=>hpq (by rw[e,e'])
   cases x<;>cases c<;>cases t<;>simp only[T.lY]<;>first | rfl | rw[ih _ _ (h rfl)]
theorem RJ {a b:Nat} (h:a≠b):key a≠key b:=fun e=>h (key_inj (Nat.lt_succ_self _) (Nat.lt_succ_self _) e)
theorem T.vj {α:Type} (t:T α) (n:Nat) (a a':α):(t.aS n a).aS n a'=t.aS n a':=T.G1 a a' (key n) t
theorem T.A9 {α:Type} (t:T α) {n m:Nat} (a b:α) (h:n≠m):(t.aS n a).aS m b=(t.aS m b).aS n a:=(T.G2 a b (key n) (key m) t (RJ h)).symm
theorem T.ah {α:Type} (t:T α) {n m:Nat} (a:α) (h:n≠m):(t.aS n a).get m=t.get m:=T.fE t a (Nat.lt_succ_self _) (Nat.lt_succ_self _) h
theorem D2 (vs:List Value):∀(t:T Value) (off n:Nat) (a:Value),n<off→lay vs (t.aS n a) off=(lay vs t off).aS n a:=by
 induction vs with
 | nil=>intro t off n a _; rfl
 | cons v vs ih=>
  intro t off n a h
  simp only[lay]
  rw[T.A9 t a v (by omega),ih _ _ _ _ (by omega)]
theorem Nk (vs:List Value):∀(t:T Value) (off i:Nat) (a:Value),i<vs.length→(lay vs t off).aS (off+i) a=lay (vs.set i a) t off:=by
 induction vs with
 | nil=>intro t off i a h; simp at h
 | cons v vs ih=>
  intro t off i a h
  cases i with
  | zero=>
   simp only[List.set_cons_zero,lay,Nat.add_zero]
   rw[←D2 vs _ _ _ _ (Nat.lt_succ_self off),T.vj]
  | succ i=>
   simp only[List.set_cons_succ,lay]
   rw[←ih _ _ _ _ (by simpa using h),show off+(i+1)=off+1+i by omega]
def over (vs:List Value) (o:Nat) (ws:List Value):List Value:=vs.take o++ws++vs.drop (o+ws.length)
theorem nE {vs:List Value} {o:Nat} {ws:List Value} (h:o+ws.length≤vs.length):(over vs o ws).length=vs.length:=by
 simp[over]; omega
theorem A_ (vs:List Value) (o:Nat):over vs o []=vs:=by simp[over]
theorem G3 (vs:List Value) (o:Nat) (w:Value) (ws:List Value) (h:o<vs.length):over vs o (w::ws)=over (vs.set o w) (o+1) ws:=by
 simp only[over,List.length_cons]
 rw[List.take_succ_eq_append_getElem (by simpa using h)]
 simp only[List.getElem_set_self]
 rw[List.take_set_of_le (Nat.le_refl _),List.drop_set_of_lt (by omega)]
 simp[Nat.add_comm,Nat.add_left_comm]
theorem zl (ws:List Value):∀(vs:List Value) (o:Nat),o+ws.length≤vs.length→lay ws (lay vs .nil 0) o=lay (over vs o ws) .nil 0:=by
 induction ws with
 | nil=>intro vs o _; rw[A_]; rfl
 | cons w ws ih=>
  intro vs o h
  simp only[List.length_cons] at h
  have h1:=Nk vs .nil 0 o w (by omega)
  rw[Nat.zero_add] at h1
  rw[G3 vs o w ws (by omega),←ih _ _ (by simp; omega),←h1]
  rfl
noncomputable def aa (vs:List Value) (e:TypeId) (op:Bool):bt:=.cells vs.length (lay vs .nil 0) e op
noncomputable def V6 (vs:List Value) (e:TypeId):bt:=.ro vs.length (lay vs .nil 0) e
theorem Jl (vs:List Value):∀(c:T Value) (off:Nat) (i:Nat),(lay vs c off).get i=if off≤i∧i<off+vs.length then vs[i-off]? else c.get i:=by
 induction vs with
 | nil=>intro c off i; simp[lay]; omega
 | cons v vs ih=>
  intro c off i
  rw[lay,ih]
  by_cases h1:off+1≤i∧i<off+1+vs.length
  ·rw[if_pos h1,if_pos (by simp; omega),show i-off=(i-(off+1))+1 by omega]; simp
  ·rw[if_neg h1]
   by_cases h2:off=i
   ·subst h2; rw[T.af]; simp
   ·rw[T.ah _ _ h2,if_neg (by simp; omega)]
theorem lD (vs:List Value) (i:Nat):(lay vs .nil 0).get i=vs[i]?:=by
 rw[Jl]
 by_cases h:i<vs.length
 ·rw[if_pos ⟨Nat.zero_le _,by omega⟩,Nat.sub_zero]
 ·rw[if_neg (by omega),T.get_nil]; symm; simp; omega
def D3 (fl:β) (o:Option Value) (κ:Value→β):β:=match o with | some v=>κ v | none=>fl
theorem yb (v:Value) (κ:Value→β):D3 fl (some v) κ=κ v:=id rfl
noncomputable def yc (fl:β) (ob:Option bt) (o:Nat) (κ:Value→β):β:=match ob with
 | some (.cells n c _ _)=>match Nat.ble (Nat.succ o) n,c.get o with
  | true,some v=>κ v
  | _,_=>fl
 | some (.ro n c _)=>match Nat.ble (Nat.succ o) n,c.get o with
  | true,some v=>κ v
  | _,_=>fl
 | _=>fl
theorem Ba (b o:Nat) (h:Heap) (κ:Value→Heap→β):load1 fl (.pointer (some ⟨b,o,none⟩)) h κ=yc fl (h.bl.get b) o fun v=>κ v h:=by
 unfold load1 yc
 dsimp only
 generalize h.bl.get b=z
 cases z with
 | none=>rfl
 | some ob=>cases ob<;>rfl
theorem oq (vs:List Value) (e:TypeId) (op:Bool) (o:Nat) (κ:Value→β):yc fl (some (aa vs e op)) o κ=D3 fl vs[o]? κ:=by
 unfold yc aa
 simp only[lD]
 by_cases h:o<vs.length
 ·rw[show Nat.ble (Nat.succ o) vs.length=true from Nat.ble_eq_true_of_le h,List.getElem?_eq_getElem h]; rfl
 ·have:Nat.ble (Nat.succ o) vs.length=false:=by
   cases hb:Nat.ble (Nat.succ o) vs.length with
   | false=>rfl
   | true=>exact absurd (Nat.le_of_ble_eq_true hb) h
  rw[this,List.getElem?_eq_none (by omega)]; rfl
theorem Jm (vs:List Value) (e:TypeId) (o:Nat) (κ:Value→β):yc fl (some (V6 vs e)) o κ=D3 fl vs[o]? κ:=oq vs e false o κ
theorem D4 (vs:List Value) (off:Nat):∀(n:Nat) (acc:List Value) (κ:List Value→β),off+n≤vs.length→jE fl (lay vs .nil 0) off n acc κ=κ ((vs.drop off).take n++acc):=by
 intro n
 induction n with
 | zero=>intro acc κ _; simp; rfl
 | succ n ih=>
  intro acc κ h
  show Option.rec (motive:=fun _=>β) fl (fun v=>jE fl (lay vs .nil 0) off n (v::acc) κ) ((lay vs .nil 0).get (Nat.add off n))=_
  rw[lD,show Nat.add off n=off+n from rfl,List.getElem?_eq_getElem (by omega)]
  show jE fl (lay vs .nil 0) off n (vs[off+n]::acc) κ=_
  rw[ih _ _ (by omega),List.take_succ_eq_append_getElem (by simp; omega)]
  simp
noncomputable def Bb (fl:β) (ob:Option bt) (o s:Nat) (κ:List Value→β):β:=match ob with
 | some (.cells n c _ _)=>match Nat.ble (Nat.add o s) n with
  | true=>jE fl c o s [] κ
  | false=>fl
 | some (.ro n c _)=>match Nat.ble (Nat.add o s) n with
  | true=>jE fl c o s [] κ
  | false=>fl
 | _=>fl
theorem Bc (s b o:Nat) (h:Heap) (κ:Value→Heap→β):aI fl s (.pointer (some ⟨b,o,none⟩)) h κ=Bb fl (h.bl.get b) o s fun l=>κ (.agg ⟨l⟩) h:=by
 unfold aI Bb
 dsimp only
 generalize h.bl.get b=z
 cases z with
 | none=>rfl
 | some ob=>cases ob<;>rfl
theorem sj (vs:List Value) (e:TypeId) (op:Bool) (o s:Nat) (κ:List Value→β) (h:o+s≤vs.length):Bb fl (some (aa vs e op)) o s κ=κ ((vs.drop o).take s):=by
 unfold Bb aa
 simp only
 rw[show Nat.ble (Nat.add o s) vs.length=true from Nat.ble_eq_true_of_le h]
 simp only
 rw[D4 _ _ _ _ _ h,List.append_nil]
theorem Jn (vs:List Value) (e:TypeId) (o s:Nat) (κ:List Value→β) (h:o+s≤vs.length):Bb fl (some (V6 vs e)) o s κ=κ ((vs.drop o).take s):=sj vs e false o s κ h
theorem c6 (o:bt) (h:Heap) (κ:Nat→Heap→β):an fl o h κ=κ h.nx ⟨h.nx+1,h.bl.aS h.nx o,h.lo⟩:=by
 unfold an; rw[T.b6,bL]
theorem bD (b:Nat) (o:bt) (h:Heap) (κ:Heap→β) (hlo:h.lo≤b):setBlock fl b o h κ=κ ⟨h.nx,h.bl.aS b o,h.lo⟩:=by
 unfold setBlock; rw[Nat.ble_eq_true_of_le hlo,T.b6]
theorem iz (vs:List Value) (e:TypeId) (op:Bool) (κ:bt→β) (hl:vs.length≤1000000000000):aF fl vs e op κ=κ (aa vs e op):=by
 unfold aF; rw[uc]
 simp only[Nat.zero_add]
 rw[Nat.ble_eq_true_of_le hl]; rfl
theorem sk (n:Nat):∀(ws:List Value) (c:T Value) (o:Nat) (κ:T Value→β),o+ws.length≤n→(ws.all d_)=true→kP fl n ws c o κ=κ (lay ws c o):=by
 intro ws
 induction ws with
 | nil=>intro c o κ _ _; rfl
 | cons v ws ih=>
  intro c o κ h1 h2
  simp only[List.all_cons,Bool.and_eq_true,List.length_cons] at h1 h2
  show Bool.rec (motive:=fun _=>β) fl (Bool.rec (motive:=fun _=>β) fl (T.set c o v fun c=>kP fl n ws c (Nat.succ o) κ) (Nat.ble (Nat.succ o) n)) (d_ v)=_
  rw[h2.1,Nat.ble_eq_true_of_le (by omega)]
  simp only[T.b6]
  rw[ih _ _ _ (by omega) h2.2]; rfl
noncomputable def Nl (fl:β) (ob:Option bt) (s b o:Nat) (ws:List Value) (h:Heap) (κ:Heap→β):β:=match ob with
 | some (.cells n c e op)=>match Nat.beq ws.length s with
  | true=>kP fl n ws c o fun c=>setBlock fl b (.cells n c e op) h κ
  | false=>fl
 | _=>fl
theorem yd (s b o:Nat) (v:Value) (h:Heap) (κ:Value→Heap→β):aG fl s (.pointer (some ⟨b,o,none⟩)) v h κ=Nl fl (h.bl.get b) s b o v.cells.toList h fun h=>κ undef h:=by
 unfold aG Nl
 dsimp only
 generalize h.bl.get b=z
 cases z with
 | none=>rfl
 | some ob=>cases ob<;>rfl
theorem sn (vs:List Value) (e:TypeId) (op:Bool) (s b o:Nat) (ws:List Value) (h:Heap) (κ:Heap→β) (h1:ws.length=s) (h2:ws.all d_=true) (h3:o+s≤vs.length) (hlo:h.lo≤b) :
  Nl fl (some (aa vs e op)) s b o ws h κ=κ ⟨h.nx,h.bl.aS b (aa (over vs o ws) e op),h.lo⟩:=by
 subst h1
 unfold Nl aa
 simp only
 rw[show Nat.beq ws.length ws.length=true from Nat.beq_refl _]
 simp only
 rw[sk _ _ _ _ _ h3 h2,bD _ _ _ _ hlo,zl _ _ _ h3,nE h3]
theorem Bd (v:Value) (h:Heap) (κ:KQ):ay (some v) h κ=κ v h:=id rfl
theorem vl (o:bt) (mk:Nat→Value) (h:Heap) (κ:KQ):Dy (some (o,mk)) h κ=κ (mk h.nx) ⟨h.nx+1,h.bl.aS h.nx o,h.lo⟩:=by
 show an False o h (fun n h=>κ (mk n) h)=_; rw[c6]
theorem vm (p:Prop):cZ true p=p:=id rfl
theorem vo (b:Bool):ai (.bool b) true=b:=by cases b<;>exact id rfl
theorem tg (b:Bool):ai (.bool b) false=!b:=by cases b<;>exact id rfl
theorem tj (f:(Value→Heap→Prop)→Prop) (h:Heap) (κ:KQ):ag true f h κ=f κ:=id rfl
theorem qJ (f:(Value→Heap→Prop)→Prop) (h:Heap) (κ:KQ):ag false f h κ=κ undef h:=id rfl
theorem vp (A B:Prop):az (.bool true) A B=A:=id rfl
theorem tq (A B:Prop):az (.bool false) A B=B:=id rfl
theorem Fg (n:Int) (h : -9223372036854775808≤n∧n≤9223372036854775807):IntKind.i64.wrap n=n:=IntWalk.i64_in _ h
theorem Fh (P:Program) (t:TypeId) (cn gd:Bool) (a b:Int) (h:Heap) (κ:Value→Heap→β):au fl P .add t cn gd (.int .i64 a) (.int .i64 b) h κ=κ (.int .i64 (IntKind.i64.wrap (a+b))) h:=by
 simp only[au,eN,jF,eO,cW]; rfl
theorem Fi (P:Program) (t:TypeId) (cn gd:Bool) (a b:Int) (h:Heap) (κ:Value→Heap→β):au fl P .sub t cn gd (.int .i64 a) (.int .i64 b) h κ=κ (.int .i64 (IntKind.i64.wrap (a-b))) h:=by
 simp only[au,eN,jF,eO,cW]; rfl
theorem Fj (P:Program) (t:TypeId) (cn gd:Bool) (a b:Int) (h:Heap) (κ:Value→Heap→β):au fl P .mul t cn gd (.int .i64 a) (.int .i64 b) h κ=κ (.int .i64 (IntKind.i64.wrap (a*b))) h:=by
 simp only[au,eN,jF,eO,cW]; rfl
theorem zm (P:Program) (t:TypeId) (cn gd:Bool) (a b:Int) (h:Heap) (κ:Value→Heap→β) (hb:b≠0):au fl P .quo t cn gd (.int .i64 a) (.int .i64 b) h κ=κ (.int .i64 (IntKind.i64.wrap (Int.tdiv a b))) h:=by
 simp only[au,eN,jF,eO,cW,eP,hb,decide_false]
theorem Nn (P:Program) (t:TypeId) (cn gd:Bool) (a b:Int) (h:Heap) (κ:Value→Heap→β) (hb:b≠0):au fl P .rem t cn gd (.int .i64 a) (.int .i64 b) h κ=κ (.int .i64 (Int.tmod a b)) h:=by
 simp only[au,eN,jF,eO,eP,hb,decide_false]
theorem Fk (P:Program) (t:TypeId) (cn gd:Bool) (k:IntKind) (a b:Int) (h:Heap) (κ:Value→Heap→β):au fl P .eql t cn gd (.int k a) (.int k b) h κ=κ (.bool (decide (a=b))) h:=by
 simp only[au,eX,decide_true,jF,bP,eP]
theorem Fl (P:Program) (t:TypeId) (cn gd:Bool) (k:IntKind) (a b:Int) (h:Heap) (κ:Value→Heap→β):au fl P .neq t cn gd (.int k a) (.int k b) h κ=κ (.bool (!decide (a=b))) h:=by
 simp only[au,eX,decide_true,jF,bP,eP]
theorem Fm (P:Program) (t:TypeId) (cn gd:Bool) (k:IntKind) (a b:Int) (h:Heap) (κ:Value→Heap→β):au fl P .lss t cn gd (.int k a) (.int k b) h κ=κ (.bool (decide (a<b))) h:=by
 simp only[au,eX,decide_true,jF,bP,ff]
theorem Fo (P:Program) (t:TypeId) (cn gd:Bool) (k:IntKind) (a b:Int) (h:Heap) (κ:Value→Heap→β):au fl P .gtr t cn gd (.int k a) (.int k b) h κ=κ (.bool (decide (b<a))) h:=by
 simp only[au,eX,decide_true,jF,bP,ff]
theorem Fp (P:Program) (t:TypeId) (cn gd:Bool) (k:IntKind) (a b:Int) (h:Heap) (κ:Value→Heap→β):au fl P .leq t cn gd (.int k a) (.int k b) h κ=κ (.bool (!decide (b<a))) h:=by
 simp only[au,eX,decide_true,jF,bP,ff]
theorem Fq (P:Program) (t:TypeId) (cn gd:Bool) (k:IntKind) (a b:Int) (h:Heap) (κ:Value→Heap→β):au fl P .geq t cn gd (.int k a) (.int k b) h κ=κ (.bool (!decide (a<b))) h:=by
 simp only[au,eX,decide_true,jF,bP,ff]
theorem Jo (b:Bool) (h:Heap) (κ:Value→Heap→β):iX fl .not (.bool b) h κ=κ (.bool (!b)) h:=by simp only[iX,bP]
theorem Jp (a:Int) (h:Heap) (κ:Value→Heap→β):iX fl .neg (.int .i64 a) h κ=κ (.int .i64 (IntKind.i64.wrap (0-a))) h:=by simp only[iX,eO,cW]; rfl
theorem Be (k:IntKind) (a:Int) (h:Heap) (κ:Value→Heap→β):jI fl .i64 (.int k a) h κ=κ (.int .i64 (IntKind.i64.wrap a)) h:=by simp only[jI,eO,cW]
theorem ye (a b:Value) (h:Heap) (κ:Value→Heap→β):aW fl (.bool true) a b h κ=κ a h:=id rfl
theorem vt (a b:Value) (h:Heap) (κ:Value→Heap→β):aW fl (.bool false) a b h κ=κ b h:=id rfl
theorem eY (x:Option Addr) (n c:Nat) (h:Heap) (κ:Value→Heap→β):bz fl (.slice x n c) h κ=κ (.int .i64 (n:Int)) h:=id rfl
theorem qK (off b o:Nat) (h:Heap) (κ:Value→Heap→β):fieldAddrB fl off (.pointer (some ⟨b,o,none⟩)) h κ=κ (.pointer (some ⟨b,o+off,none⟩)) h:=by simp only[fieldAddrB,bL]; rfl
theorem Fs (a:Addr) (h:Heap) (κ:Value→Heap→β):aM fl (.pointer (some a)) h κ=κ (.pointer (some a)) h:=id rfl
theorem jq (f:FuncId) (a b:Array Value) (h:Heap) (κ:Value→Heap→β):aM fl (.func (.func f) a b) h κ=κ (.func (.func f) a b) h:=id rfl
theorem yf (a:Value) (l:List Value) (h:Heap) (κ:Value→Heap→β):aq fl 0 (.tuple ⟨a::l⟩) h κ=κ a h:=id rfl
theorem yg (a b:Value) (l:List Value) (h:Heap) (κ:Value→Heap→β):aq fl 1 (.tuple ⟨a::b::l⟩) h κ=κ b h:=id rfl
theorem yh (a b c:Value) (l:List Value) (h:Heap) (κ:Value→Heap→β):aq fl 2 (.tuple ⟨a::b::c::l⟩) h κ=κ c h:=id rfl
theorem aN (s b o n c i:Nat) (h:Heap) (κ:Value→Heap→β) (hi:i<n):av fl s (.slice (some ⟨b,o,none⟩) n c) (.int .i64 (i:Int)) h κ=κ (.pointer (some ⟨b,o+i*s,none⟩)) h:=by
 show (match Nat.ble (Nat.succ i) n with | true=>_ | _=>_)=_
 rw[show Nat.ble (Nat.succ i) n=true from Nat.ble_eq_true_of_le hi]
 simp only[bL]; rfl
theorem Bf (P:Program) (f:FuncId) (a b:Array Value) (args:List Value) (h:Heap) (κ:KQ):ic P (.func (.func f) a b) args h κ=CallW P f (a.toList++args++b.toList) h κ:=id rfl
theorem bf {p:Prop} [Decidable p] (h:p):decide p=true:=decide_eq_true h
theorem a_ {p:Prop} [Decidable p] (h:¬p):decide p=false:=decide_eq_false h
theorem fH {a b:Int} (h:a<b):decide (a<b)=true:=decide_eq_true h
theorem cg {a b:Int} (h:b≤a):decide (a<b)=false:=decide_eq_false (by omega)
theorem V7 {a b:Int} (h:a=b):decide (a=b)=true:=decide_eq_true h
theorem Jq {a b:Int} (h:a<b):decide (a=b)=false:=decide_eq_false (by omega)
theorem PV {a b:Int} (h:b<a):decide (a=b)=false:=decide_eq_false (by omega)
structure Le (h h':Heap):Prop where
 nx:h.nx≤h'.nx
 lo:h'.lo=h.lo
 get:∀b,b<h.nx→h'.bl.get b=h.bl.get b
theorem Le.refl (h:Heap):Le h h:=⟨Nat.le_refl _,rfl,fun _ _=>rfl⟩
theorem Le.trans {a b c:Heap} (x:Le a b) (y:Le b c):Le a c:=⟨Nat.le_trans x.nx y.nx,y.lo.trans x.lo,fun i hi=>(y.get i (Nat.lt_of_lt_of_le hi x.nx)).trans (x.get i hi)⟩
theorem Le.new {a h:Heap} (x:Le a h) (o:bt):Le a ⟨h.nx+1,h.bl.aS h.nx o,h.lo⟩:=
 ⟨Nat.le_succ_of_le x.nx,x.lo,fun i hi=>(T.ah _ _ (by have:=x.nx; omega)).trans (x.get i hi)⟩
theorem Le.set {a h:Heap} (x:Le a h) {b:Nat} (hb:a.nx≤b) (o:bt):Le a ⟨h.nx,h.bl.aS b o,h.lo⟩:=
 ⟨x.nx,x.lo,fun i hi=>(T.ah _ _ (by omega)).trans (x.get i hi)⟩
end Go.Vai

namespace Go.Vai
open Go Go.RowKit
variable {β:Type} {fl:β} {P:Program}
theorem zn {φ:dm} {v:Value} (hv:k9 v=true):VR φ v v:=by
 cases v<;>first | exact VR.k9 hv | (exact VR.pE (F2.k9 hv)) | cases hv
theorem Jr {φ:dm}:∀{l l':List Value},l.all kZ=true→F2 (VR φ) l l'→l'=l:=by
 intro l
 induction l with
 | nil=>intro l' _ h; cases h; rfl
 | cons v l ih=>
  intro l' hs h
  simp only[List.all_cons,Bool.and_eq_true] at hs
  cases h with
  | cons h1 h2=>rw[ih hs.2 h2,VR.Na hs.1 h1]
theorem l_ {φ:dm} {v v':Value} (hv:k9 v=true) (h:VR φ v v'):v'=v:=by
 cases h with
 | agg a a' ha Dw=>
  have:=Jr (l':=a'.toList) hv (F2.lZ ha Dw)
  obtain ⟨l⟩:=a; obtain ⟨l'⟩:=a'
  simp only at this; rw[this]
 | bool=>rfl
 | int=>rfl
 | string=>rfl
 | _=>cases hv
theorem Bg {φ:dm}:∀{l:List Value},l.all k9=true→F2 (VR φ) l l:=by
 intro l
 induction l with
 | nil=>intro _; exact .nil
 | cons v l ih=>
  intro h
  simp only[List.all_cons,Bool.and_eq_true] at h
  exact .cons (zn h.1) (ih h.2)
theorem Bh {φ:dm}:∀{l l':List Value},l.all k9=true→F2 (VR φ) l l'→l'=l:=by
 intro l
 induction l with
 | nil=>intro l' _ h; cases h; rfl
 | cons v l ih=>
  intro l' hs h
  simp only[List.all_cons,Bool.and_eq_true] at hs
  cases h with
  | cons h1 h2=>rw[ih hs.2 h2,l_ hs.1 h1]
noncomputable def bA (P:Program) (n:Nat) (f:FuncId) (args:List Value) (v:Value):Bool:=
 args.all k9 && k9 v && ia false M_ P (run false M_ P n) f args ⟨0,.nil,0⟩ fun v' _=>iI 8 v' v
theorem zo (hm:P.follows .mixedOrders=true) {n:Nat} {f:FuncId} {args:List Value} {v:Value} (ha:bA P n f args v=true) {h:Heap} {κ:Value→Heap→Prop} (hk:κ v h):CallW P f args h κ:=by
 intro φ w args' hf hr
 have hfl:¬yes false:=by simp[yes]
 simp only[bA,Bool.and_eq_true] at ha
 obtain ⟨⟨ha1,hv⟩,ha2⟩:=ha
 have:=Bh ha1 hf
 subst this
 have hc:=eG (good:=yes) (w:=w) hfl (zi (P:=P)) (x9 (good:=yes) hfl zi (pO hfl zi hm) n).1 (Bg ha1) (HR.start w) ha2
 refine ⟨hc.1,Calls.mono hc.2 ?_⟩
 rintro e w' ⟨φ',v1,v',h',rfl,g1,g2,g3,g4⟩
 have e1:=DP 8 _ _ g1
 subst e1
 have hfr:∀B,B<w.heap.size→w'.heap[B]? = w.heap[B]?:=fun B hB=>g4.yW B hB fun b pl e=>by cases e
 refine ⟨φ,v1,v',h,rfl,hk,by rw[l_ hv g2]; exact zn hv,?_,?_⟩
 ·exact ⟨fun b o pl h1 h2=>by rw[hfr _ (hr.dom b pl h2).2]; exact hr.obj b o pl h1 h2,fun b pl h1=>⟨(hr.dom b pl h1).1,Nat.lt_of_lt_of_le (hr.dom b pl h1).2 g4.size⟩,hr.keys,hr.MX,hr.inj,hr.lo⟩
 ·exact ⟨Sub.refl φ,fun b pl e e'=>(by rw[e] at e'; cases e'),Nat.le_refl _,g4.size,fun B hB _=>hfr B hB,fun _ _ _=>rfl,g4.tape,g4.os,g4.output,fun _ _=>trivial,rfl,fun _ _=>rfl,fun b o pl _ _ _ _ hB=>hfr _ hB,g4.dr⟩
def zp (v:Value) (_h:Heap):Prop:=v=.bool true
def Has (ob:Option bt) (o:Nat) (ws:List Value):Prop:=
 ∃n c e,(ob=some (.ro n c e)∨∃op,ob=some (.cells n c e op))∧o+ws.length≤n∧∀j v,ws[j]? = some v→c.get (o+j)=some v
theorem Has.cells {vs:List Value} {e:TypeId} {op:Bool} {o k:Nat} (h:o+k≤vs.length):Has (some (aa vs e op)) o ((vs.drop o).take k):=by
 refine ⟨vs.length,lay vs .nil 0,e,.inr ⟨op,rfl⟩,by simp; omega,fun j v hj=>?_⟩
 rw[lD]
 rw[List.getElem?_take] at hj
 split at hj
 ·simpa[List.getElem?_drop] using hj
 ·cases hj
theorem Has.all {vs:List Value} {e:TypeId} {op:Bool}:Has (some (aa vs e op)) 0 vs:=by
 have:=Has.cells (vs:=vs) (e:=e) (op:=op) (o:=0) (k:=vs.length) (by omega)
 simpa using this
theorem Has.sub {ob:Option bt} {o:Nat} {ws:List Value} (h:Has ob o ws) (i k:Nat) (hk:i+k≤ws.length):Has ob (o+i) ((ws.drop i).take k):=by
 obtain ⟨n,c,e,h1,h2,h3⟩:=h
 refine ⟨n,c,e,h1,by simp; omega,fun j v hj=>?_⟩
 rw[List.getElem?_take] at hj
 split at hj
 ·rw[List.getElem?_drop] at hj
  rw[Nat.add_assoc]; exact h3 _ _ hj
 ·cases hj
theorem ga {ob:Option bt} {o:Nat} {ws:List Value} (h:Has ob o ws) (j:Nat) (κ:Value→β):j<ws.length→yc fl ob (o+j) κ=D3 fl ws[j]? κ:=by
 intro hj
 obtain ⟨n,c,e,h1,h2,h3⟩:=h
 have hle:Nat.ble (Nat.succ (o+j)) n=true:=Nat.ble_eq_true_of_le (by omega)
 have hv:=h3 j _ (List.getElem?_eq_getElem hj)
 rw[List.getElem?_eq_getElem hj]
 rcases h1 with rfl | ⟨op,rfl⟩<;>simp only[yc,hle,hv,D3]
theorem yj (c:T Value) (ws:List Value) (off:Nat):∀(n:Nat) (acc:List Value) (κ:List Value→β),n≤ws.length→(∀j v,ws[j]? = some v→c.get (off+j)=some v)→jE fl c off n acc κ=κ (ws.take n++acc):=by
 intro n
 induction n with
 | zero=>intro acc κ _ _; simp; rfl
 | succ n ih=>
  intro acc κ h hc
  show Option.rec (motive:=fun _=>β) fl (fun v=>jE fl c off n (v::acc) κ) (c.get (Nat.add off n))=_
  rw[show Nat.add off n=off+n from rfl,hc n _ (List.getElem?_eq_getElem (by omega))]
  show jE fl c off n (ws[n]::acc) κ=_
  rw[ih _ _ (by omega) hc,List.take_succ_eq_append_getElem (by omega)]
  simp only[List.append_assoc,List.cons_append,List.nil_append]
theorem ug {ob:Option bt} {o:Nat} {ws:List Value} (h:Has ob o ws) (s:Nat) (κ:List Value→β) (hs:s=ws.length):Bb fl ob o s κ=κ ws:=by
 obtain ⟨n,c,e,h1,h2,h3⟩:=h
 subst hs
 have hle:Nat.ble (Nat.add o ws.length) n=true:=Nat.ble_eq_true_of_le h2
 rcases h1 with rfl | ⟨op,rfl⟩<;>simp only[Bb,hle]<;>rw[yj c ws o _ _ _ (Nat.le_refl _) h3]<;>simp
theorem iO (h:Heap) (size n:Nat) (x:Value) (κ:List Value→β) (h0:n*size=0):e8 fl h size n x κ=κ []:=by
 unfold e8
 rw[show Nat.mul n size=0 from h0]
theorem me {h:Heap} {b o:Nat} {ws:List Value} (hh:Has (h.bl.get b) o ws) (size n l c:Nat) (κ:List Value→β) (hn:n*size=ws.length):e8 fl h size n (.slice (some ⟨b,o,none⟩) l c) κ=κ ws:=by
 unfold e8
 rw[show Nat.mul n size=ws.length from hn]
 cases hw:ws with
 | nil=>rfl
 | cons w0 Zi=>
  obtain ⟨nn,cc,e,h1,h2,h3⟩:=hh
  rw[hw] at h2 h3
  have hle:Nat.ble (Nat.add o (Nat.succ Zi.length)) nn=true:=Nat.ble_eq_true_of_le (by simpa using h2)
  have fin:jE fl cc o (Nat.succ Zi.length) [] κ=κ (w0::Zi):=by
   rw[yj cc (w0::Zi) o _ _ _ (by simp) h3]
   congr 1
   simp
  rcases h1 with h1 | ⟨op,h1⟩<;>simp only[List.length_cons,h1,hle]<;>exact fin
section
variable {α:Type} (enc:α→List Value) (s:Nat)
def Sl (h:Heap) (v:Value) (L:List α):Prop:=
 ∃x cap,v=.slice x L.length cap∧(L≠[]→∃b o,x=some ⟨b,o,none⟩∧b<h.nx∧Has (h.bl.get b) o (L.flatMap enc))
variable {enc s}
theorem Sl.le {h h':Heap} {v:Value} {L:List α} (hs:Sl enc h v L) (hl:Le h h'):Sl enc h' v L:=by
 obtain ⟨x,cap,h1,h2⟩:=hs
 refine ⟨x,cap,h1,fun hn=>?_⟩
 obtain ⟨b,o,e1,e2,e3⟩:=h2 hn
 exact ⟨b,o,e1,Nat.lt_of_lt_of_le e2 hl.nx,by rw[hl.get b e2]; exact e3⟩
theorem Sl.nil (h:Heap) (x:Option Addr) (cap:Nat):Sl enc h (.slice x 0 cap) ([]:List α):=⟨x,cap,rfl,fun hn=>absurd rfl hn⟩
theorem br (he:∀a:α,(enc a).length=s) (L:List α):(L.flatMap enc).length=L.length*s:=by
 induction L with
 | nil=>simp
 | cons a L ih=>simp[he,ih,Nat.succ_mul,Nat.add_comm]
theorem zq (he:∀a:α,(enc a).length=s):∀(L:List α) (i:Nat) (hi:i<L.length),((L.flatMap enc).drop (i*s)).take s=enc L[i]:=by
 intro L
 induction L with
 | nil=>intro i hi; simp at hi
 | cons a L ih=>
  intro i hi
  cases i with
  | zero=>simp[List.take_append,he]
  | succ i=>
   have:=ih i (by simpa using hi)
   simp only[List.flatMap_cons,List.getElem_cons_succ]
   rw[←this,List.drop_append,show (enc a).drop ((i+1)*s)=[] from List.drop_eq_nil_of_le (by rw[he,Nat.succ_mul]; omega),he,show (i+1)*s-s=i*s by rw[Nat.succ_mul]; omega]
   rfl
theorem Sl.elem {h:Heap} {v:Value} {L:List α} (hs:Sl enc h v L) (he:∀a:α,(enc a).length=s) (i:Nat) (hi:i<L.length) :
  ∃b o cap,v=.slice (some ⟨b,o,none⟩) L.length cap∧b<h.nx∧Has (h.bl.get b) (o+i*s) (enc L[i]):=by
 obtain ⟨x,cap,h1,h2⟩:=hs
 obtain ⟨b,o,e1,e2,e3⟩:=h2 (by intro e; rw[e] at hi; simp at hi)
 subst e1
 refine ⟨b,o,cap,h1,e2,?_⟩
 have hle:i*s+s≤(L.flatMap enc).length:=by
  rw[br he,←Nat.succ_mul]; exact Nat.mul_le_mul_right _ hi
 have:=e3.sub (i*s) s hle
 rwa [zq he L i hi] at this
theorem Sl.len {h:Heap} {v:Value} {L:List α} (hs:Sl enc h v L) (κ:Value→Heap→β) (h':Heap):bz fl v h' κ=κ (.int .i64 (L.length:Int)) h':=by
 obtain ⟨x,cap,rfl,_⟩:=hs; rfl
theorem Sl.at {h:Heap} {v:Value} {L:List α} (hs:Sl enc h v L) (he:∀a:α,(enc a).length=s) (i:Nat) (hi:i<L.length) :
  ∃b o,b<h.nx∧Has (h.bl.get b) o (enc L[i])∧∀(β:Type) (fl:β) (h':Heap) (κ:Value→Heap→β),av fl s v (.int .i64 (i:Int)) h' κ=κ (.pointer (some ⟨b,o,none⟩)) h':=by
 obtain ⟨b,o,cap,rfl,h1,h2⟩:=hs.elem he i hi
 exact ⟨b,o+i*s,h1,h2,fun β fl h' κ=>aN s b o _ cap i h' κ hi⟩
theorem Sl.ld {h:Heap} {v:Value} {L:List α} (hs:Sl enc h v L) (he:∀a:α,(enc a).length=s) (i:Nat) {p:α} (hp:L[i]? = some p) :
  ∃b o,b<h.nx∧(∀(β:Type) (fl:β) (h':Heap) (κ:Value→Heap→β),av fl s v (.int .i64 (i:Int)) h' κ=κ (.pointer (some ⟨b,o,none⟩)) h')∧
   (∀(β:Type) (fl:β) (κ:List Value→β),Bb fl (h.bl.get b) o s κ=κ (enc p))∧Has (h.bl.get b) o (enc p):=by
 obtain ⟨hi,rfl⟩:=List.getElem?_eq_some_iff.1 hp
 obtain ⟨b,o,h1,h2,h3⟩:=hs.at he i hi
 exact ⟨b,o,h1,h3,fun β fl κ=>ug h2 s κ (he _).symm,h2⟩
theorem Sl.first {h:Heap} {v:Value} {L:List α} (hs:Sl enc h v L) (he:∀a:α,(enc a).length=s) (κ:List Value→β):e8 fl h s L.length v κ=κ (L.flatMap enc):=by
 by_cases hn:L=[]
 ·subst hn; rw[iO _ _ _ _ _ (by simp)]; rfl
 ·obtain ⟨x,cap,rfl,h2⟩:=hs
  obtain ⟨b,o,rfl,e2,e3⟩:=h2 hn
  exact me e3 _ _ _ _ _ (br he L).symm
theorem Sl.new {h:Heap} {b:Nat} {L:List α} {e:TypeId} {op:Bool} (hb:b<h.nx) (hg:h.bl.get b=some (aa (L.flatMap enc) e op)) (cap:Nat):Sl enc h (.slice (some ⟨b,0,none⟩) L.length cap) L:=
 ⟨_,cap,rfl,fun _=>⟨b,0,rfl,hb,by rw[hg]; exact Has.all⟩⟩
variable (enc)
def fu (a:Heap) (e:TypeId) (h:Heap) (v:Value) (L:List α):Prop:=
 (L=[]∧(v=.slice none 0 0∨∃b o,v=.slice (some ⟨b,o,none⟩) 0 0))∨∃b,v=.slice (some ⟨b,0,none⟩) L.length aD∧a.nx≤b∧b<h.nx∧h.lo≤b∧h.bl.get b=some (aa (L.flatMap enc) e true)
variable {enc}
theorem fu.sl {a h:Heap} {e:TypeId} {v:Value} {L:List α} (ho:fu enc a e h v L):Sl enc h v L:=by
 rcases ho with ⟨rfl,rfl | ⟨b,o,rfl⟩⟩ | ⟨b,rfl,h1,h2,h3,h4⟩
 ·exact Sl.nil _ _ _
 ·exact Sl.nil _ _ _
 ·exact Sl.new h2 h4 _
theorem fu.le {a h h':Heap} {e:TypeId} {v:Value} {L:List α} (ho:fu enc a e h v L) (hl:Le h h'):fu enc a e h' v L:=by
 rcases ho with ho | ⟨b,h0,h1,h2,h3,h4⟩
 ·exact .inl ho
 ·exact .inr ⟨b,h0,h1,Nat.lt_of_lt_of_le h2 hl.nx,by rw[hl.lo]; exact h3,by rw[hl.get b h2]; exact h4⟩
theorem append_nil {h:Heap} {e:TypeId} {z:List Value} {v x:Value} (hx:Sl enc h x ([]:List α)) (hv:∃b n c,v=.slice b n c) (κ:Value→Heap→β):bG fl e s z false v x h κ=κ v h:=by
 obtain ⟨b,n,c,rfl⟩:=hv
 obtain ⟨y,cap,rfl,_⟩:=hx
 simp only[bG,kf,List.length_nil]
 rw[iO _ _ _ _ _ (by simp)]
set_option maxRecDepth 20000 in
theorem mg {a h:Heap} {e:TypeId} {z:List Value} {v x:Value} {L M:List α} (he:∀a:α,(enc a).length=s) (hone:∀a:α,(enc a).all d_=true) (hs0:0<s) (hs1:s≤100) (ho:fu enc a e h v L) (hx:Sl enc h x M)
  (hle:Le a h) (hb:L.length+M.length≤1000000) (hal:h.lo≤h.nx) (κ:KQ)
  (hk:∀v' h',fu enc a e h' v' (L++M)→Le a h'→h'.nx≤h.nx+1→h.nx≤h'.nx→κ v' h'):bG False e s z false v x h κ:=by
 by_cases hM:M=[]
 ·subst hM
  rw[append_nil hx (by rcases ho with ⟨rfl,rfl | ⟨b,o,rfl⟩⟩ | ⟨b,rfl,_⟩<;>exact ⟨_,_,_,rfl⟩)]
  exact hk v h (by simpa using ho) hle (Nat.le_succ _) (Nat.le_refl _)
 ·obtain ⟨m,hm⟩:∃m,M.length=m+1:=⟨M.length-1,by have:=List.length_pos_iff.2 hM; omega⟩
  have hfl:=br (enc:=enc) he
  have gj:=hx.first (β:=Prop) (fl:=False) he
  obtain ⟨y,cap,rfl,h2⟩:=hx
  have hml:∀K:List α,K.length≤1000000→(K.flatMap enc).length≤1000000000000:=fun K hK=>by
   rw[hfl]
   have:=Nat.mul_le_mul hK hs1
   omega
  have fresh:∀(hh:Heap) (ws:List Value),ws=(L++M).flatMap enc→Le a hh→hh.nx=h.nx→hh.lo=h.lo→dI False ws e true hh fun b h'=>κ (.slice (some ⟨b,0,none⟩) (L.length+M.length) aD) h':=by
   intro hh ws hw PW Zh hlo
   subst hw
   unfold dI
   rw[iz _ _ _ _ (hml _ (by simp; omega)),c6]
   refine hk _ _ (.inr ⟨hh.nx,by simp,PW.nx,Nat.lt_succ_self _,by show hh.lo≤_; omega,T.af _ _ _⟩) (PW.new _) (by show hh.nx+1≤_; omega) (by show h.nx≤hh.nx+1; omega)
  rcases ho with ⟨rfl,hv⟩ | ⟨b,rfl,h3,h4,h5,h6⟩
  ·have hF:=fresh h (M.flatMap enc) (by simp) hle rfl rfl
   simp only[List.length_nil,Nat.zero_add] at hF
   rcases hv with rfl | ⟨b,o,rfl⟩
   ·unfold bG kf
    simp only
    rw[gj]
    simp only[hm,bL]
    rw[show Nat.ble (Nat.add 0 (m+1)) 1000000000=true from Nat.ble_eq_true_of_le (by show 0+(m+1)≤_; omega)]
    rw[hm] at hF
    have e1:Nat.add 0 (m+1)=m+1:=by show 0+(m+1)=_; omega
    rw[e1]
    exact hF
   ·unfold bG kf
    simp only
    rw[gj]
    simp only[hm,bL]
    have e1:Nat.add 0 (m+1)=m+1:=by show 0+(m+1)=_; omega
    rw[e1,show Nat.ble (m+1) 1000000000=true from Nat.ble_eq_true_of_le (by omega)]
    rw[hm] at hF
    show e8 False h s 0 _ _
    rw[iO _ _ _ _ _ (by simp)]
    exact hF
  ·unfold bG kf
   simp only
   rw[gj]
   simp only[hm,bL]
   have e1:Nat.add L.length (m+1)=L.length+(m+1):=rfl
   rw[e1,show Nat.ble (L.length+(m+1)) 1000000000=true from Nat.ble_eq_true_of_le (by omega)]
   have e2:Nat.beq aD fR=false:=by decide
   have e3:Nat.beq aD aD=true:=Nat.beq_refl _
   simp only[e2,e3,h6]
   have e4:Nat.ble (Nat.add 0 (Nat.mul (L.length+(m+1)) s)) (L.flatMap enc).length=false:=by
    rw[hfl]
    cases RK:Nat.ble (Nat.add 0 (Nat.mul (L.length+(m+1)) s)) (L.length*s) with
    | false=>rfl
    | true=>
     have h7:0+(L.length+(m+1))*s≤L.length*s:=Nat.le_of_ble_eq_true RK
     rw[Nat.add_mul,Nat.succ_mul] at h7
     omega
   have e5:(M.flatMap enc).all d_=true:=by
    rw[List.all_flatMap]; simp only[List.all_eq_true]; intro x _; exact List.all_eq_true.1 (hone x)
   simp only[aa,Nat.beq_refl,e4,e5,Bool.and_self]
   have hh:Has (h.bl.get b) 0 (L.flatMap enc):=by rw[h6]; exact Has.all
   rw[me hh s L.length _ _ _ (hfl L).symm,bD _ _ _ _ h5]
   have hF:=fresh ⟨h.nx,h.bl.aS b (.dead (L.flatMap enc).length e),h.lo⟩ (L.flatMap enc++M.flatMap enc) (by simp) (hle.set h3 _) rfl rfl
   rw[hm] at hF
   exact hF
end
end Go.Vai
namespace Go.Vai
open Go
theorem yl (zs:List Value):aT zs 1=zs:=by simp[aT]
theorem tr (w:Bool):ai undef w=false:=by cases w<;>rfl
theorem Js (a:Value) (l:List Value):slot (a::l) 0=a:=id rfl
theorem Jt (a:Value) (l:List Value) (n:Nat):slot (a::l) (n+1)=slot l n:=id rfl
theorem ot (l:List Value):(Value.cells (.agg ⟨l⟩)).toList=l:=id rfl
theorem ou (k:IntKind) (n:Int):(Value.cells (.int k n)).toList=[.int k n]:=id rfl
theorem mh (b:Bool):(Value.cells (.bool b)).toList=[.bool b]:=id rfl
theorem lE (a:Option Addr):(Value.cells (.pointer a)).toList=[.pointer a]:=id rfl
theorem ku (a:Option Addr) (n c:Nat):(Value.cells (.slice a n c)).toList=[.slice a n c]:=id rfl
theorem Ft (k:IntKind) (n:Int):d_ (.int k n)=true:=id rfl
theorem Bi (b:Bool):d_ (.bool b)=true:=id rfl
theorem Fu (s:ByteArray):d_ (.string s)=true:=id rfl
theorem Fv (a:Option Addr):d_ (.pointer a)=true:=id rfl
theorem Fw (a:Option Addr) (n c:Nat):d_ (.slice a n c)=true:=id rfl
theorem Fx (a:Option Nat):d_ (.map a)=true:=id rfl
theorem Fy (f:Fn) (a b:Array Value):d_ (.func f a b)=true:=id rfl
theorem Fz (t:TypeId) (v:Value):d_ (.iface t v)=true:=id rfl
theorem qL (vs ws:List Value) (h:ws.length=vs.length):over vs 0 ws=ws:=by simp[over,h]
variable {β:Type} {fl:β}
theorem Ju:∀(new old:List Value) (κ:List Value→β),new.length≤old.length→qt fl new old κ=κ (over old 0 new):=by
 intro new
 induction new with
 | nil=>intro old κ _; rw[A_]; cases old<;>rfl
 | cons v new ih=>
  intro old κ h
  cases old with
  | nil=>simp at h
  | cons o old=>
   simp only[qt]
   rw[ih old _ (by simpa using h)]
   simp[over]
theorem No (new:List Value):∀(o:Nat) (old:List Value) (κ:List Value→β),o+new.length≤old.length→xm fl new o old κ=κ (over old o new):=by
 intro o
 induction o with
 | zero=>
  intro old κ h
  have:xm fl new 0 old κ=qt fl new old κ:=by cases old<;>rfl
  rw[this,Ju _ _ _ (by simpa using h)]
 | succ o ih=>
  intro old κ h
  cases old with
  | nil=>simp at h
  | cons v old=>
   simp only[xm]
   rw[ih old _ (by simp at h; omega)]
   simp[over,Nat.add_right_comm]
theorem qM (cs:List Value) (κ:List Value→β):bJ fl [] [] cs κ=κ cs:=id rfl
theorem ow (off size:Nat) (ps:List (Nat × Nat)) (v:Value) (vs cs:List Value) (κ:List Value→β) (h1:v.cells.toList.length=size) (h2:off+size≤cs.length) :
  bJ fl ((off,size)::ps) (v::vs) cs κ=bJ fl ps vs (over cs off v.cells.toList) κ:=by
 subst h1
 show (match Nat.beq v.cells.toList.length v.cells.toList.length with | false=>fl | true=>xm fl v.cells.toList off cs fun cs=>bJ fl ps vs cs κ)=_
 rw[Nat.beq_refl]
 simp only
 rw[No _ _ _ _ h2]
theorem Jv (size:Nat) (v:Value) (cs:List Value) (κ:List Value→β) (h1:v.cells.toList.length=size) (h2:cs.length=size):bJ fl [(0,size)] [v] cs κ=κ v.cells.toList:=by
 rw[ow _ _ _ _ _ _ _ h1 (by omega),qM,qL _ _ (by omega)]
end Go.Vai

namespace Go.Vai
open Go
section
variable {β:Type} {fl:β} {P:Program} {h h':Heap} {κ:Value→Heap→β} {a a' b b' c c':Value}
@[congr] theorem RL {op:BinOp} {t:TypeId} {cn gd:Bool} (ha:a=a') (hb:b=b'):au fl P op t cn gd a b h κ=au fl P op t cn gd a' b' h κ:=by rw[ha,hb]
@[congr] theorem U3 {op:UnOp} (ha:a=a'):iX fl op a h κ=iX fl op a' h κ:=by rw[ha]
@[congr] theorem PX {k:IntKind} (ha:a=a'):jI fl k a h κ=jI fl k a' h κ:=by rw[ha]
@[congr] theorem PY (hc:c=c') (ha:a=a') (hb:b=b'):aW fl c a b h κ=aW fl c' a' b' h κ:=by rw[ha,hb,hc]
@[congr] theorem RM (ha:a=a'):aM fl a h κ=aM fl a' h κ:=by rw[ha]
@[congr] theorem G4 {o:Nat} (ha:a=a'):fieldAddrB fl o a h κ=fieldAddrB fl o a' h κ:=by rw[ha]
@[congr] theorem G5 {s:Nat} (ha:a=a') (hb:b=b'):av fl s a b h κ=av fl s a' b' h κ:=by rw[ha,hb]
@[congr] theorem G7 {n s:Nat} (ha:a=a') (hb:b=b'):jH fl n s a b h κ=jH fl n s a' b' h κ:=by rw[ha,hb]
@[congr] theorem Np {g:Bool} {s o:Nat} (ha:a=a'):uG fl g s o a h κ=uG fl g s o a' h κ:=by rw[ha]
@[congr] theorem Nq {g:Bool} {n s:Nat} (ha:a=a') (hb:b=b'):uH fl g n s a b h κ=uH fl g n s a' b' h κ:=by rw[ha,hb]
@[congr] theorem Nr (ha:a=a') (hb:b=b'):uI fl a b h κ=uI fl a' b' h κ:=by rw[ha,hb]
@[congr] theorem Jw {i:Nat} (ha:a=a'):aq fl i a h κ=aq fl i a' h κ:=by rw[ha]
@[congr] theorem PZ (ha:a=a'):load1 fl a h κ=load1 fl a' h κ:=by rw[ha]
@[congr] theorem P3 {s:Nat} (ha:a=a'):aI fl s a h κ=aI fl s a' h κ:=by rw[ha]
@[congr] theorem Ns {s:Nat} (ha:a=a') (hb:b=b'):aG fl s a b h κ=aG fl s a' b' h κ:=by rw[ha,hb]
@[congr] theorem U4 {o o':Option bt} {i:Nat} {k:Value→β} (ho:o=o'):yc fl o i k=yc fl o' i k:=by rw[ho]
@[congr] theorem U5 {o o':Option bt} {i s:Nat} {k:List Value→β} (ho:o=o'):Bb fl o i s k=Bb fl o' i s k:=by rw[ho]
@[congr] theorem U6 {o o':Option bt} {s i j:Nat} {ws P4:List Value} {k:Heap→β} (ho:o=o') (hw:ws=P4) (hh:h=h'):Nl fl o s i j ws h k=Nl fl o' s i j P4 h' k:=by rw[ho,hw,hh]
@[congr] theorem RO {o o':Option Value} {k:Value→β} (ho:o=o'):D3 fl o k=D3 fl o' k:=by rw[ho]
@[congr] theorem Jx {o:bt} {k:Nat→Heap→β} (hh:h=h'):an fl o h k=an fl o h' k:=by rw[hh]
@[congr] theorem Jy {i:Nat} {o:bt} {k:Heap→β} (hh:h=h'):setBlock fl i o h k=setBlock fl i o h' k:=by rw[hh]
@[congr] theorem Nt {ws P4:List Value} {e:TypeId} {g:Bool} {k:bt→β} (hw:ws=P4):aF fl ws e g k=aF fl P4 e g k:=by rw[hw]
@[congr] theorem Jz {ws P4:List Value} {e:TypeId} {g:Bool} {k:Nat→Heap→β} (hw:ws=P4) (hh:h=h'):dI fl ws e g h k=dI fl P4 e g h' k:=by rw[hw,hh]
@[congr] theorem P5 {ps:List (Nat × Nat)} {vs vs' cs cs':List Value} {k:List Value→β} (hv:vs=vs') (hc:cs=cs'):bJ fl ps vs cs k=bJ fl ps vs' cs' k:=by rw[hv,hc]
@[congr] theorem Nu {e s:Nat} {l u m l' u' m':Option Value} (ha:a=a') (hl:l=l') (hu:u=u') (hm:m=m'):sliceB fl e s a l u m h κ=sliceB fl e s a' l' u' m' h κ:=by rw[ha,hl,hu,hm]
@[congr] theorem Nv {l u m l' u' m':Option Value} (ha:a=a') (hl:l=l') (hu:u=u') (hm:m=m'):uE fl a l u m h κ=uE fl a' l' u' m' h κ:=by rw[ha,hl,hu,hm]
@[congr] theorem MI {e s:Nat} {z:List Value} {g:Bool} (ha:a=a') (hb:b=b') (hh:h=h'):bG fl e s z g a b h κ=bG fl e s z g a' b' h' κ:=by rw[ha,hb,hh]
@[congr] theorem P6 {s:Nat} (ha:a=a') (hb:b=b'):As fl s a b h κ=As fl s a' b' h κ:=by rw[ha,hb]
@[congr] theorem Nw {z:List Value} (ha:a=a'):iY fl z a h κ=iY fl z a' h κ:=by rw[ha]
@[congr] theorem Nx (ha:a=a'):bz fl a h κ=bz fl a' h κ:=by rw[ha]
@[congr] theorem Ny (ha:a=a'):uF fl a h κ=uF fl a' h κ:=by rw[ha]
@[congr] theorem Nz (ha:a=a'):jG fl a h κ=jG fl a' h κ:=by rw[ha]
@[congr] theorem MJ {t:TypeId} {z:Value} {g:Bool} (ha:a=a') (hb:b=b'):c8 fl P t z g a b h κ=c8 fl P t z g a' b' h κ:=by rw[ha,hb]
@[congr] theorem G8 {t:TypeId} (ha:a=a') (hb:b=b') (hc:c=c'):bW fl P t a b c h κ=bW fl P t a' b' c' h κ:=by rw[ha,hb,hc]
@[congr] theorem MK {t:TypeId} (ha:a=a') (hb:b=b'):kg fl P t a b h κ=kg fl P t a' b' h κ:=by rw[ha,hb]
@[congr] theorem NA (ha:a=a'):lU fl a h κ=lU fl a' h κ:=by rw[ha]
@[congr] theorem P7 {f:β→β→β} (ha:a=a'):oP fl f a h κ=oP fl f a' h κ:=by rw[ha]
@[congr] theorem NB (ha:a=a'):lV fl a h κ=lV fl a' h κ:=by rw[ha]
@[congr] theorem FA {t:TypeId} {z:Value} {g:Bool} (ha:a=a'):cq fl t z g a h κ=cq fl t z g a' h κ:=by rw[ha]
@[congr] theorem RQ (ha:a=a') (hb:b=b'):Aw fl a b h κ=Aw fl a' b' h κ:=by rw[ha,hb]
@[congr] theorem RR (ha:a=a') (hb:b=b'):ID fl a b h κ=ID fl a' b' h κ:=by rw[ha,hb]
end
section
variable {P:Program} {h h':Heap} {κ:Value→Heap→Prop}
@[congr] theorem U7 {o o':Option Value} (ho:o=o'):ay o h κ=ay o' h κ:=by rw[ho]
@[congr] theorem U8 {o o':Option (bt × (Nat→Value))} (ho:o=o'):Dy o h κ=Dy o' h κ:=by rw[ho]
@[congr] theorem NC {b b':Bool} {f:(Value→Heap→Prop)→Prop} (hb:b=b'):ag b f h κ=ag b' f h κ:=by rw[hb]
@[congr] theorem P8 {b b':Bool} {p:Prop} (hb:b=b'):cZ b p=cZ b' p:=by rw[hb]
@[congr] theorem P9 {v v':Value} {A B:Prop} (hv:v=v'):az v A B=az v' A B:=by rw[hv]
@[congr] theorem P_ {A:(List Value→Heap→Prop)→Prop} {B:List Value→Heap→Prop}:dw A B=dw A B:=rfl
@[congr] theorem Qa {l l':List Value} {body:List Value→Heap→(List Value→Heap→Prop)→Prop} (hh:h=h'):ej l h body=ej l h' body:=by rw[hh]
@[congr] theorem Qb {f:FuncId} {l l':List Value} (hl:l=l') (hh:h=h'):CallW P f l h κ=CallW P f l' h' κ:=by rw[hl,hh]
@[congr] theorem Qc {v v':Value} {l l':List Value} (hv:v=v') (hl:l=l') (hh:h=h'):ic P v l h κ=ic P v' l' h' κ:=by rw[hv,hl,hh]
@[congr] theorem Qd {n:String} {v v':Value} {l l':List Value} (hv:v=v') (hl:l=l') (hh:h=h'):CallI P n v l h κ=CallI P n v' l' h' κ:=by rw[hv,hl,hh]
end
end Go.Vai

namespace Go.Vai
open Go Go.RowKit Go.WideShapes Go.ChangeShapes
variable {P:Program}
theorem JA {φ φ':dm} {h h':Heap} {w w':World} (hx:Ext φ φ' h h' w w') (hro:∀b pl,φ b=some pl→b<h.lo∧∃o,h.bl.get b=some o∧o.live):Below w.heap.size w w':=by
 refine ⟨hx.os,hx.tape,hx.output,hx.size,fun B hB=>?_⟩
 by_cases he:∃b pl,φ b=some pl∧pl.B=B
 ·obtain ⟨b,pl,h1,rfl⟩:=he
  obtain ⟨h2,o,h3,h4⟩:=hro b pl h1
  exact hx.E2 b o pl h2 h3 h4 h1 hB
 ·exact hx.yW B hB fun b pl h1 h2=>he ⟨b,pl,h1,h2⟩
theorem ND {f:FuncId} {args args':List Value} {φ:dm} {h:Heap} {w:World} (hc:CallW P f args h zp) (ha:F2 (VR φ) args args') (hr:HR P φ h w) (hro:∀b pl,φ b=some pl→b<h.lo∧∃o,h.bl.get b=some o∧o.live) :
  Calls P f args'.toArray w fun e w'=>e=.returned (.bool true)∧Below w.heap.size w w':=by
 refine Calls.mono (hc φ w args' ha hr).2 ?_
 rintro e w' ⟨φ',v,v',h',rfl,g1,g2,g3,g4⟩
 have g1:v=.bool true:=g1
 subst g1
 cases g2
 exact ⟨rfl,JA g4 hro⟩
section
variable {α:Type} {iP:α→List Value} {s:Nat}
def vv:Heap:=⟨0,.nil,0⟩
def V8:dm:=fun _=>none
theorem JB (w:World):HR P V8 vv w:=HR.start w
end
section
variable {H:Type} {enc:TypeId × Value→H}
theorem post_of_law {f:Func} {s:ChangeSpec} {apart fresh handsOn again:Bool} {W W':World} {args:Array Value} {v:Value} {ds gs:List (DataW H)} {before pa pv:List MemPlace}
  (hW:DataW.Whole enc P f.params.toList s.vars apart W args.toList ds gs before)
  (hres:∀(b:Nat) (sp:Nat→Bool) (hd:Bool),DataW.TrodAll enc P W' b sp hd f.resultTypes.toList (v.resultList f.resultTypes.size) (s.fn H (ds++gs)).results [])
  (hargs:∀sp:Nat→Bool,(∀p∈before,sp p.block=true)→DataW.TrodAll enc P W' 0 sp true f.params.toList args.toList (s.fn H (ds++gs)).args pa)
  (hvars:∀sp:Nat→Bool,(∀p∈before,sp p.block=true)→DataW.TrodVars enc P W' sp s.vars (s.fn H (ds++gs)).vars pv)
  (hps:before=pa++pv) (hb:Below W.heap.size W W')
  (hok:∀(j:Nat) (t:TypeId) (r:Value),f.resultTypes[j]? = some t→(v.resultList f.resultTypes.size)[j]? = some r→Value.okWide P W' .any 0 t r) :
  s.post enc P f apart fresh handsOn again W args v W':=by
 have hlt:∀p∈before,p.block<W.heap.size:=fun p hp=>hW.lt p hp
 have hold:∀p∈before,(fun b=>decide (b<W.heap.size)) p.block=true:=fun p hp=>by simpa using hlt p hp
 refine ⟨ds,gs,before,[],pa,pv,hW,hres _ _ _,hargs _ hold,hvars _ hold,World.keptBut_mono (fun p hp=>⟨hp,?_⟩) (hb.frame (·∈before)),fun _=>?_⟩
 ·rw[hps,List.mem_append] at hp
  exact Or.inr hp
 ·obtain ⟨_,_,_,_,_,hz,hn⟩:=hW
  refine ⟨hok,_,_,([]++pa)++pv,⟨[]++pa,pv,trodAll_append (hargs _ (fun _ _=>rfl)) (hres _ _ _),hvars _ (fun _ _=>rfl),rfl,?_,?_⟩,?_⟩
  ·intro b off hp
   have hin:MemPlace.cell b off∈before:=by rw[hps]; simpa using hp
   rw[hb.frozen (hlt _ hin)]
   exact hz b off hin
  ·intro ha
   have:=hn ha
   rw[hps] at this
   simpa using this
  ·intro p hp _
   rw[hps]
   simpa using hp
theorem arg_stays {t:TypeId} (hl:laidOutB P=true) (hr:P.readableRec t=true) (hrow:t<P.types.size) {W W':World} {v:Value} {d:DataW H} {ps:List MemPlace}
  (h:DataW.Trod enc P W 0 (fun _=>true) true t v d ps) (hb:Below W.heap.size W W') (hlt:∀x∈ps,x.block<W.heap.size) {sp:Nat→Bool} (hsp:∀x∈ps,sp x.block=true) :
  DataW.Trod enc P W' 0 sp true t v d ps:=
 WideElems.Trod_stays hl hr hrow h (fun x hx=>hb.same (hlt x hx)) (fun x hx=>by simpa using hsp x hx)
end
end Go.Vai
namespace Go.Vai
open Go Go.RowKit
variable {P:Program}
theorem gU {f:FuncId} {args:List Value} {v:Value} (ha:args.all k9=true) (hv:k9 v=true) (hc:CallW P f args vv fun u _=>u=v) {h:Heap} {κ:Value→Heap→Prop} (hk:κ v h):CallW P f args h κ:=by
 intro φ w args' hf hr
 have:=Bh ha hf
 subst this
 obtain ⟨c1,c2⟩:=hc V8 w args' (Bg ha) (JB w)
 refine ⟨c1,c2.mono ?_⟩
 rintro e w' ⟨φ',v1,v',h',rfl,rfl,g2,g3,g4⟩
 have hfr:∀B,B<w.heap.size→w'.heap[B]? = w.heap[B]?:=fun B hB=>g4.yW B hB fun b pl e=>by cases e
 refine ⟨φ,v1,v',h,rfl,hk,by rw[l_ hv g2]; exact zn hv,?_,?_⟩
 ·exact ⟨fun b o pl h1 h2=>by rw[hfr _ (hr.dom b pl h2).2]; exact hr.obj b o pl h1 h2,fun b pl h1=>⟨(hr.dom b pl h1).1,Nat.lt_of_lt_of_le (hr.dom b pl h1).2 g4.size⟩,hr.keys,hr.MX,hr.inj,hr.lo⟩
 ·exact ⟨Sub.refl φ,fun b pl e e'=>(by rw[e] at e'; cases e'),Nat.le_refl _,g4.size,fun B hB _=>hfr B hB,fun _ _ _=>rfl,g4.tape,g4.os,g4.output,fun _ _=>trivial,rfl,fun _ _=>rfl,fun b o pl _ _ _ _ hB=>hfr _ hB,g4.dr⟩
theorem Bj (u v:Value):eU (some u) v=iI 8 u v:=id rfl
theorem ym (zs:List Value):aT zs 0=[]:=id rfl
theorem yo (a:Value):aT [a] 2=[a,a]:=by simp[aT]
theorem JC (a:Value) (l:List Value) (n:Nat) (ws:List Value):over (a::l) (n+1) ws=a::over l n ws:=by simp[over,Nat.add_right_comm]
theorem JD (a w:Value) (l ws:List Value):over (a::l) 0 (w::ws)=w::over l 0 ws:=by simp[over]
theorem JE (l:List Value):over l 0 []=l:=by simp[over]
theorem Bk (u:Value):reN (some u)=true:=id rfl
theorem Bl (r:Bool):reG true r=r:=id rfl
theorem yp (r:Bool):reG false r=true:=id rfl
theorem iA (n:Nat):Nat.beq n n=true:=Nat.beq_refl n
theorem G9 (n:Int):pg n n=true:=by rw[eP]; simp
theorem Bm (k:IntKind):eN k k=true:=by rw[eX]; simp
theorem NF (n:Nat) (k:IntKind) (a:Int):iI (n+1) (.int k a) (.int k a)=true:=by unfold iI; simp[Bm,G9]
theorem mj (k:IntKind) (a:Int):iI 8 (.int k a) (.int k a)=true:=NF 7 k a
theorem lF (a:Bool):iI 8 (.bool a) (.bool a)=true:=by unfold iI; simp
theorem FC (b o:Nat):iI 8 (.pointer (some ⟨b,o,none⟩)) (.pointer (some ⟨b,o,none⟩))=true:=by unfold iI; simp[iA]
theorem uh (b o n c:Nat):iI 8 (.slice (some ⟨b,o,none⟩) n c) (.slice (some ⟨b,o,none⟩) n c)=true:=by unfold iI; simp[iA]
theorem zu (n c:Nat):iI 8 (.slice none n c) (.slice none n c)=true:=by unfold iI; simp[iA]
theorem sq (n:Nat) (l:List Int):uC (iI (n+1)) (l.map (Value.int .i64)) (l.map (Value.int .i64))=true:=by
 induction l with
 | nil=>rfl
 | cons a l ih=>simp only[List.map_cons,uC,NF,ih,Bool.and_self]
theorem Bn (l:List Int):iI 8 (.agg ⟨l.map (.int .i64)⟩) (.agg ⟨l.map (.int .i64)⟩)=true:=by
 unfold iI; exact sq 6 l
theorem Qe (a b:Int):iI 8 (.agg ⟨[.int .i64 a,.int .i64 b]⟩) (.agg ⟨[.int .i64 a,.int .i64 b]⟩)=true:=Bn [a,b]
theorem Qf (a b c d:Int):iI 8 (.agg ⟨[.int .i64 a,.int .i64 b,.int .i64 c,.int .i64 d]⟩) (.agg ⟨[.int .i64 a,.int .i64 b,.int .i64 c,.int .i64 d]⟩)=true:=Bn [a,b,c,d]
end Go.Vai
namespace Go.Vai
open Go
variable {β:Type} {fl:β}
theorem Bo (n:Nat) (d:Nat) (κ:Nat→β):yQ fl (some (.int .i64 (n:Int))) d κ=κ n:=id rfl
theorem yq (d:Nat) (κ:Nat→β):yQ fl none d κ=κ d:=id rfl
theorem D5 {h:Heap} {e s b n i:Nat} {vs:List Value} (hs:0<s) (hb:h.bl.get b=some (aa vs e true)) (hvs:vs.length=n*s) (hi:i<n) (κ:Value→Heap→β) :
  sliceB fl e s (.slice (some ⟨b,0,none⟩) n aD) (some (.int .i64 (i:Int))) none none h κ=κ (.slice (some ⟨b,i*s,none⟩) (n-i) aD) h:=by
 obtain ⟨s,rfl⟩:∃k,s=k+1:=⟨s-1,by omega⟩
 have hk:f_ h e b=some (n*(s+1)):=by unfold f_; rw[hb]; simp only[aa,iA,hvs]
 have hd:Nat.div (Nat.sub (n*(s+1)) 0) (s+1)=n:=by show (n*(s+1)-0) / (s+1)=n; rw[Nat.sub_zero,Nat.mul_div_cancel _ (by omega)]
 have e1:Nat.beq aD fR=false:=by decide
 have e2:Nat.beq aD aD=true:=Nat.beq_refl _
 have e3:Nat.ble 0 (n*(s+1))=true:=Nat.ble_eq_true_of_le (Nat.zero_le _)
 have e4:Nat.ble i n=true:=Nat.ble_eq_true_of_le (by omega)
 have e5:Nat.ble n n=true:=Nat.ble_eq_true_of_le (Nat.le_refl _)
 have e6:Nat.beq i n=false:=by
  cases hq:Nat.beq i n with
  | false=>rfl
  | true=>have:=cF hq; omega
 unfold sliceB iF
 simp only[e1,e2,hk,e3,hd,Bo,yq,e4,e5,e6,bL]
 show κ (.slice (some ⟨b,0+i*(s+1),none⟩) (n-i) aD) h=_
 rw[Nat.zero_add]
theorem Bp {h:Heap} {e s b n m i:Nat} {vs:List Value} (hs:0<s) (hb:h.bl.get b=some (aa vs e true)) (hvs:vs.length=n*s) (hn:0<n) (hi:i≤n) (κ:Value→Heap→β) :
  sliceB fl e s (.slice (some ⟨b,0,none⟩) m aD) none (some (.int .i64 (i:Int))) none h κ=κ (.slice (some ⟨b,0,none⟩) i aD) h:=by
 obtain ⟨s,rfl⟩:∃k,s=k+1:=⟨s-1,by omega⟩
 have hk:f_ h e b=some (n*(s+1)):=by unfold f_; rw[hb]; simp only[aa,iA,hvs]
 have hd:Nat.div (Nat.sub (n*(s+1)) 0) (s+1)=n:=by show (n*(s+1)-0) / (s+1)=n; rw[Nat.sub_zero,Nat.mul_div_cancel _ (by omega)]
 have e1:Nat.beq aD fR=false:=by decide
 have e2:Nat.beq aD aD=true:=Nat.beq_refl _
 have e3:Nat.ble 0 (n*(s+1))=true:=Nat.ble_eq_true_of_le (Nat.zero_le _)
 have e4:Nat.ble 0 i=true:=Nat.ble_eq_true_of_le (Nat.zero_le _)
 have e5:Nat.ble i n=true:=Nat.ble_eq_true_of_le hi
 have e6:Nat.beq 0 n=false:=by
  cases hq:Nat.beq 0 n with
  | false=>rfl
  | true=>have:=cF hq; omega
 unfold sliceB iF
 simp only[e1,e2,hk,e3,hd,Bo,yq,e4,e5,e6,bL]
 show κ (.slice (some ⟨b,0+0*(s+1),none⟩) (i-0) aD) h=_
 rw[Nat.zero_mul,Nat.sub_zero]
theorem Bq {h:Heap} {b o n c e:Nat} {op:Bool} {vs zero:List Value} (hb:h.bl.get b=some (aa vs e op)) (hn:0<n) (hl:o+(aT zero n).length≤vs.length) (h1:(aT zero n).all d_=true) (hlo:h.lo≤b) (κ:Value→Heap→β) :
  iY fl zero (.slice (some ⟨b,o,none⟩) n c) h κ=κ (.tuple #[]) ⟨h.nx,h.bl.aS b (aa (over vs o (aT zero n)) e op),h.lo⟩:=by
 obtain ⟨n,rfl⟩:∃k,n=k+1:=⟨n-1,by omega⟩
 unfold iY
 simp only[hb,aa]
 rw[sk _ _ _ _ _ hl h1,bD _ _ _ _ hlo,zl _ _ _ hl,nE hl]
end Go.Vai
namespace Go.Vai
open Go Go.RowKit Go.WideShapes Go.ChangeShapes
section
variable {P:Program} {α:Type} {iP:α→List Value} {s:Nat} {H:Type} {enc:TypeId × Value→H}
end
end Go.Vai

namespace Go.Vai
open Go
theorem Qg:(!true)=false:=id rfl
theorem Qh:(!false)=true:=id rfl
theorem V9:decide True=true:=by simp
theorem V_:decide False=false:=by simp
theorem Ld0 (l:List Value):l.drop 0=l:=id rfl
theorem Lts (a:Value) (l:List Value) (n:Nat):(a::l).take (n+1)=a::l.take n:=id rfl
theorem Lt0 (l:List Value):l.take 0=[]:=id rfl
theorem Lds (a:Value) (l:List Value) (n:Nat):(a::l).drop (n+1)=l.drop n:=id rfl
theorem Lg0 (a:Value) (l:List Value):(a::l)[0]? = some a:=id rfl
theorem Lgs (a:Value) (l:List Value) (n:Nat):(a::l)[n+1]? = l[n]?:=id rfl
theorem Qi (b:Bool):(b && true)=b:=by cases b<;>rfl
theorem Qj (b:Bool):(true && b)=b:=by cases b<;>rfl
theorem Qk (b:Bool):(b && b)=b:=by cases b<;>rfl
theorem Lac (p:Value→Bool) (a:Value) (l:List Value):(a::l).all p=(p a && l.all p):=id rfl
theorem Lan (p:Value→Bool):([]:List Value).all p=true:=id rfl
theorem Zj (a:Value) (l:List Value):(a::l).length=l.length+1:=id rfl
theorem Zk:([]:List Value).length=0:=id rfl
theorem Nza (n:Nat):0+n=n:=by omega
theorem Naz (n:Nat):n+0=n:=by omega
theorem Wz2:type_of% (And.intro (And.intro (And.intro (And.intro (And.intro (And.intro @Ba @Bc) (And.intro @yd (And.intro @c6 @oq))) (And.intro (And.intro @Jm (And.intro @sj @Jn)) (And.intro @sn (And.intro @iz @yb)))) (And.intro (And.intro (And.intro @Bd (And.intro @vl @vm)) (And.intro @vo (And.intro @tg @tr))) (And.intro (And.intro @tj (And.intro @qJ @vp)) (And.intro @tq (And.intro @Fg @Fh))))) (And.intro (And.intro (And.intro (And.intro @Fi (And.intro @Fj @Fk)) (And.intro @Fl (And.intro @Fm @Fo))) (And.intro (And.intro @Fp (And.intro @Fq @Jo)) (And.intro @Jp (And.intro @Be @ye)))) (And.intro (And.intro (And.intro @vt (And.intro @eY @qK)) (And.intro @Fs (And.intro @jq @yf))) (And.intro (And.intro @yg (And.intro @yh @Bf)) (And.intro @fH (And.intro @cg @V7)))))) (And.intro (And.intro (And.intro (And.intro (And.intro @Jq @PV) (And.intro @T.af (And.intro @T.ah @T.vj))) (And.intro (And.intro @Qg (And.intro @Qh @V9)) (And.intro @V_ (And.intro @Ld0 @Lts)))) (And.intro (And.intro (And.intro @Lt0 (And.intro @Lds @Lg0)) (And.intro @Lgs (And.intro @Nza @Naz))) (And.intro (And.intro @Js (And.intro @Jt @ot)) (And.intro @ou (And.intro @mh @lE))))) (And.intro (And.intro (And.intro (And.intro @ku (And.intro @qL @Jv)) (And.intro @qM (And.intro @ow @ym))) (And.intro (And.intro @yl (And.intro @yo @JC)) (And.intro @JD (And.intro @JE @Bj)))) (And.intro (And.intro (And.intro @Bk (And.intro @Bl @yp)) (And.intro @mj (And.intro @lF @FC))) (And.intro (And.intro @uh (And.intro @zu @Qe)) (And.intro @Qf (And.intro @Qi @Qj))))))):=(And.intro (And.intro (And.intro (And.intro (And.intro (And.intro @Ba @Bc) (And.intro @yd (And.intro @c6 @oq))) (And.intro (And.intro @Jm (And.intro @sj @Jn)) (And.intro @sn (And.intro @iz @yb)))) (And.intro (And.intro (And.intro @Bd (And.intro @vl @vm)) (And.intro @vo (And.intro @tg @tr))) (And.intro (And.intro @tj (And.intro @qJ @vp)) (And.intro @tq (And.intro @Fg @Fh))))) (And.intro (And.intro (And.intro (And.intro @Fi (And.intro @Fj @Fk)) (And.intro @Fl (And.intro @Fm @Fo))) (And.intro (And.intro @Fp (And.intro @Fq @Jo)) (And.intro @Jp (And.intro @Be @ye)))) (And.intro (And.intro (And.intro @vt (And.intro @eY @qK)) (And.intro @Fs (And.intro @jq @yf))) (And.intro (And.intro @yg (And.intro @yh @Bf)) (And.intro @fH (And.intro @cg @V7)))))) (And.intro (And.intro (And.intro (And.intro (And.intro @Jq @PV) (And.intro @T.af (And.intro @T.ah @T.vj))) (And.intro (And.intro @Qg (And.intro @Qh @V9)) (And.intro @V_ (And.intro @Ld0 @Lts)))) (And.intro (And.intro (And.intro @Lt0 (And.intro @Lds @Lg0)) (And.intro @Lgs (And.intro @Nza @Naz))) (And.intro (And.intro @Js (And.intro @Jt @ot)) (And.intro @ou (And.intro @mh @lE))))) (And.intro (And.intro (And.intro (And.intro @ku (And.intro @qL @Jv)) (And.intro @qM (And.intro @ow @ym))) (And.intro (And.intro @yl (And.intro @yo @JC)) (And.intro @JD (And.intro @JE @Bj)))) (And.intro (And.intro (And.intro @Bk (And.intro @Bl @yp)) (And.intro @mj (And.intro @lF @FC))) (And.intro (And.intro @uh (And.intro @zu @Qe)) (And.intro @Qf (And.intro @Qi @Qj)))))))
theorem Wx:type_of% (And.intro (And.intro (And.intro @Lac @Lan) (And.intro @Ft (And.intro @Bi @Fu))) (And.intro (And.intro @Fv (And.intro @Fw @Fx)) (And.intro @Fy (And.intro @Fz @Qk)))):=(And.intro (And.intro (And.intro @Lac @Lan) (And.intro @Ft (And.intro @Bi @Fu))) (And.intro (And.intro @Fv (And.intro @Fw @Fx)) (And.intro @Fy (And.intro @Fz @Qk))))
theorem Wy:type_of% (And.intro (And.intro @ot (And.intro @ou @mh)) (And.intro (And.intro @lE @ku) (And.intro @Zj @Zk))):=(And.intro (And.intro @ot (And.intro @ou @mh)) (And.intro (And.intro @lE @ku) (And.intro @Zj @Zk)))
theorem Wv:type_of% (And.intro @Zj @Zk):=(And.intro @Zj @Zk)
theorem Wz0 (b:Nat):ptrTo b=.pointer (some ⟨b,0,none⟩):=id rfl
theorem Wz1 (n c b:Nat):sliceTo n c b=.slice (some ⟨b,0,none⟩) n c:=id rfl
theorem Wz:type_of% (And.intro (And.intro @Wz0 @Wz1) Wz2):=And.intro (And.intro @Wz0 @Wz1) Wz2
theorem Wd:type_of% (And.intro Wx Wy):=And.intro Wx Wy
end Go.Vai

namespace Go.Vai
open Go Go.RowKit
section
variable {α:Type} {s:Nat} {enc:α→List Value}
def Cut (e s:Nat) (h:Heap) (v:Value) (k:Nat):Prop:=
 (k=0∧v=.slice none 0 0)∨(k=0∧∃b o,v=.slice (some ⟨b,o,none⟩) 0 fR)∨
 (∃b o cap,v=.slice (some ⟨b,o,none⟩) k cap∧k≤cap∧cap≤9223372036854775807)∨
 ∃b vs n,v=.slice (some ⟨b,0,none⟩) k aD∧b<h.nx∧h.bl.get b=some (aa vs e true)∧vs.length=n*s∧k≤n
theorem Cut.le {e s:Nat} {h h':Heap} {v:Value} {k:Nat} (c:Cut e s h v k) (l:Le h h'):Cut e s h' v k:=by
 rcases c with c | c | c | ⟨b,vs,n,c1,c2,c3,c4,c5⟩
 ·exact .inl c
 ·exact .inr (.inl c)
 ·exact .inr (.inr (.inl c))
 ·exact .inr (.inr (.inr ⟨b,vs,n,c1,Nat.lt_of_lt_of_le c2 l.nx,(l.get b c2).trans c3,c4,c5⟩))
theorem Cut.own {a h:Heap} {e:TypeId} {v:Value} {L:List α} (he:∀a:α,(enc a).length=s) (ho:fu enc a e h v L):Cut e s h v L.length:=by
 rcases ho with ⟨rfl,rfl | ⟨b,o,rfl⟩⟩ | ⟨b,rfl,h1,h2,h3,h4⟩
 ·exact .inl ⟨rfl,rfl⟩
 ·exact .inr (.inr (.inl ⟨b,o,0,rfl,Nat.le_refl _,by omega⟩))
 ·exact .inr (.inr (.inr ⟨b,_,L.length,rfl,h2,h4,br he L,Nat.le_refl _⟩))
theorem vw (he:∀a:α,(enc a).length=s) (L:List α):∀i,(L.flatMap enc).take (i*s)=(L.take i).flatMap enc:=by
 induction L with
 | nil=>intro i; simp
 | cons a L ih=>
  intro i
  cases i with
  | zero=>simp
  | succ i=>
   simp only[List.flatMap_cons,List.take_succ_cons]
   rw[List.take_append,←ih i,he,List.take_of_length_le (by rw[he,Nat.succ_mul]; omega),show (i+1)*s-s=i*s by rw[Nat.succ_mul]; omega]
end
end Go.Vai

namespace Go.Vai
open Go Go.RowKit
open Classical
variable {P:Program}
def FD (w:World) (B:Nat):Prop:=∃C e fz,w.heap[B]? = some (.cells C e fz)
def qN (w:World) (v:Value):Prop:=
 kZ v=true∨v=.slice none 0 0∨(∃a c,v=.slice (some a) 0 c)∨∃B o n c,v=.slice (some ⟨B,o,none⟩) n c∧n≤c∧c≤maxLen∧FD w B
def zw:Value→Value
 | .slice (some a) 0 c=>.slice (some ⟨0,0,none⟩) 0 fR
 | v=>v
def goodA (w:World):Value→Prop
 | .agg cs=>∀v∈cs.toList,qN w v
 | v=>qN w v
def RS:Value→Value
 | .agg cs=>.agg ⟨cs.toList.map zw⟩
 | v=>zw v
theorem G_ {v:Value} (h:kZ v=true):zw v=v:=by cases v<;>first | rfl | cases h
noncomputable def xF (w:World):dm:=fun b=>if FD w b then some ⟨b,0,0⟩ else none
noncomputable def zx (w:World) (v:Value) (t:T Value) (o:Nat):T Value:=if qN w v then t.aS o (zw v) else t
theorem FE (w:World) (v:Value) (t:T Value) {o i:Nat} (h:o≠i):(zx w v t o).get i=t.get i:=by
 unfold zx
 by_cases hg:qN w v
 ·rw[if_pos hg]; exact T.ah _ _ h
 ·rw[if_neg hg]
theorem He {w:World} {v:Value} (hg:qN w v) (t:T Value) (o:Nat):(zx w v t o).get o=some (zw v):=by
 unfold zx; rw[if_pos hg]; exact T.af _ _ _
theorem JF {w:World} {v:Value} (hg:¬qN w v) (t:T Value) (o:Nat):(zx w v t o)=t:=by
 unfold zx; rw[if_neg hg]
noncomputable def nF (w:World):List Value→T Value→Nat→T Value
 | [],t,_=>t
 | v::vs,t,o=>nF w vs (zx w v t o) (o+1)
theorem Hf (w:World) (vs:List Value):∀(t:T Value) (o i:Nat),i<o→(nF w vs t o).get i=t.get i:=by
 induction vs with
 | nil=>intro t o i _; rfl
 | cons v vs ih=>
  intro t o i h
  show (nF w vs (zx w v t o) (o+1)).get i=_
  rw[ih _ _ _ (by omega),FE _ _ _ (by omega)]
theorem D6 (w:World) (vs:List Value):∀(t:T Value) (o i:Nat) (u:Value),(∀j,o≤j→t.get j=none)→(nF w vs t o).get (o+i)=some u→∃v,vs[i]? = some v∧qN w v∧u=zw v:=by
 induction vs with
 | nil=>intro t o i u ht h; rw[show (nF w [] t o)=t from rfl,ht _ (by omega)] at h; cases h
 | cons x vs ih=>
  intro t o i u ht h
  have h:(nF w vs (zx w x t o) (o+1)).get (o+i)=some u:=h
  cases i with
  | zero=>
   rw[Hf _ _ _ _ _ (by omega)] at h
   by_cases hg:qN w x
   ·rw[Nat.add_zero,He hg] at h; cases h; exact ⟨x,rfl,hg,rfl⟩
   ·rw[JF hg,ht _ (by omega)] at h; cases h
  | succ i=>
   rw[show o+(i+1)=(o+1)+i by omega] at h
   obtain ⟨v,h1,h2,h3⟩:=ih _ _ _ _ (fun j hj=>by rw[FE _ _ _ (by omega)]; exact ht j (by omega)) h
   exact ⟨v,by simpa using h1,h2,h3⟩
noncomputable def xG (w:World):Nat→T bt
 | 0=>.nil
 | n+1=>match w.heap[n]? with
  | some (.cells C e _)=>(xG w n).aS n (.ro C.size (nF w C.toList .nil 0) e)
  | _=>xG w n
theorem Br (w:World):∀n b,(xG w n).get b=if b<n then (match w.heap[b]? with | some (.cells C e _)=>some (.ro C.size (nF w C.toList .nil 0) e) | _=>none) else none:=by
 intro n
 induction n with
 | zero=>intro b; rw[if_neg (by omega)]; exact T.get_nil _
 | succ n ih=>
  intro b
  unfold xG
  by_cases h0:n=b
  ·subst h0
   rw[if_pos (by omega)]
   split
   ·rw[T.af]
   ·rw[ih,if_neg (by omega)]
  ·have:(match w.heap[n]? with | some (.cells C e _)=>(xG w n).aS n (.ro C.size (nF w C.toList .nil 0) e) | _=>xG w n).get b=(xG w n).get b:=by
    split
    ·exact T.ah _ _ h0
    ·rfl
   rw[this,ih]
   by_cases h1:b<n
   ·rw[if_pos h1,if_pos (by omega)]
   ·rw[if_neg h1,if_neg (by omega)]
noncomputable def memH (w:World):Heap:=⟨w.heap.size,xG w w.heap.size,w.heap.size⟩
theorem JG {w:World} {B:Nat} {C:Array Value} {e:TypeId} {fz:Nat × Nat} (h:w.heap[B]? = some (.cells C e fz)):(memH w).bl.get B=some (.ro C.size (nF w C.toList .nil 0) e):=by
 have hB:B<w.heap.size:=(Array.getElem?_eq_some_iff.1 h).1
 show (xG w _).get B=_
 rw[Br,if_pos hB,h]
theorem oz {w:World} {b:Nat} {o:bt} (h:(memH w).bl.get b=some o):∃C e fz,w.heap[b]? = some (.cells C e fz)∧o=.ro C.size (nF w C.toList .nil 0) e:=by
 have h:(xG w _).get b=some o:=h
 rw[Br] at h
 split at h
 ·split at h
  ·cases h; exact ⟨_,_,_,by assumption,rfl⟩
  ·cases h
 ·cases h
theorem zy {w:World} {v:Value} (h:qN w v):VR (xF w) (zw v) v:=by
 rcases h with h | rfl | ⟨a,c,rfl⟩ | ⟨B,o,n,c,rfl,hn,hc,hB⟩
 ·rw[G_ h]; exact VR.k9 h
 ·exact VR.ef (Nat.le_refl _)
 ·exact VR.cr _ _ _
 ·cases n with
  | zero=>exact VR.cr _ _ _
  | succ n=>
   have hp:xF w B=some ⟨B,0,0⟩:=if_pos hB
   exact VR.slice hp hn (by unfold maxLen at hc; unfold aD; omega)
theorem NG {w:World} {v:Value} (h:goodA w v):VR (xF w) (RS v) v:=by
 cases v with
 | agg cs=>
  refine VR.pE ?_
  show F2 (VR (xF w)) (cs.toList.map zw) cs.toList
  have:F2 (VR (xF w)) (cs.toList.map zw) (cs.toList.map id):=F2.map cs.toList fun x hx=>zy (h x hx)
  rwa [List.map_id] at this
 | _=>exact zy h
theorem Wa (w:World):HR P (xF w) (memH w) w:=by
 have dom:∀b pl,xF w b=some pl→pl=⟨b,0,0⟩∧FD w b:=by
  intro b pl h
  unfold xF at h
  split at h
  ·cases h; exact ⟨rfl,by assumption⟩
  ·cases h
 have lt:∀b,FD w b→b<w.heap.size:=fun b ⟨C,e,fz,h⟩=>(Array.getElem?_eq_some_iff.1 h).1
 refine ⟨?_,?_,?_,Nat.lt_succ_self _,?_,Nat.le_refl _⟩
 ·intro b o pl h1 h2
  obtain ⟨rfl,_⟩:=dom b pl h2
  obtain ⟨C,e,fz,h3,rfl⟩:=oz h1
  rw[h3]
  refine ⟨rfl,Nat.le_refl _,fun i v hv hi=>?_⟩
  obtain ⟨u,h4,h5,rfl⟩:=D6 w C.toList .nil 0 i v (fun j _=>T.get_nil _) (by rw[Nat.zero_add]; exact hv)
  rw[Array.getElem?_toList] at h4
  exact ⟨u,h4,zy h5⟩
 ·intro b pl h
  obtain ⟨rfl,h2⟩:=dom b pl h
  exact ⟨lt b h2,lt b h2⟩
 ·intro b o _ h
  obtain ⟨C,e,fz,h3,_⟩:=oz h
  exact lt b ⟨C,e,fz,h3⟩
 ·intro b b' o o' pl jY _ _ _ _ h1 h2 h3
  obtain ⟨rfl,_⟩:=dom b pl h1
  obtain ⟨rfl,_⟩:=dom b' jY h2
  exact h3
theorem law_mem {f:FuncId} {args:List Value} {w:World} (hg:∀v∈args,goodA w v) (hc:(memH w).lo≤(memH w).nx→CallW P f (args.map RS) (memH w) zp) :
  Calls P f args.toArray w fun e w'=>e=.returned (.bool true)∧Below w.heap.size w w':=by
 have ha:F2 (VR (xF w)) (args.map RS) (args.map id):=F2.map args fun x hx=>NG (hg x hx)
 rw[List.map_id] at ha
 refine ND (hc (Nat.le_refl _)) ha (Wa w) ?_
 intro b pl h
 unfold xF at h
 split at h
 ·rename_i hm
  obtain ⟨C,e,fz,h3⟩:=hm
  exact ⟨(Array.getElem?_eq_some_iff.1 h3).1,_,JG h3,trivial⟩
 ·cases h
section
variable {α:Type} {iP:α→List Value} {s:Nat}
end
end Go.Vai

namespace Go.Vai
open Go Go.RowKit Go.WideShapes Go.ChangeShapes
variable {P:Program}
inductive CK where
 | i (k:IntKind)
 | b
 | s
 | sl (t:TypeId)
def JH (P:Program) (fl:TypeId→Option (List CK)):List Field→Nat→Option (List CK)
 | [],_=>some []
 | f::fs,off=>match fl f.type with
  | some l=>match Nat.beq f.offset off,Nat.beq (P.cellsOf f.type) l.length with
   | true,true=>match JH P fl fs (off+l.length) with
    | some r=>some (l++r)
    | none=>none
   | _,_=>none
  | none=>none
def flatK (P:Program):Nat→TypeId→Option (List CK)
 | 0,_=>none
 | n+1,t=>match P.underlying t with
  | some (.int k)=>some [.i k]
  | some .bool=>some [.b]
  | some .string=>some [.s]
  | some (.slice _)=>some [.sl t]
  | some (.struct fs)=>match JH P (flatK P n) fs.toList 0 with
   | some l=>match Nat.beq (P.cellsOf t) l.length with
    | true=>some l
    | false=>none
   | none=>none
  | _=>none
section
variable {H:Type} {enc:TypeId × Value→H} {w:World}
end
section
variable {α:Type} {iP:α→List Value} {s:Nat}
theorem goodA_int {w:World} {k:IntKind} {n:Int}:goodA w (.int k n):=.inl rfl
end
end Go.Vai

namespace Go.Vai
open Go Go.RowKit
section
variable {α:Type} {s:Nat} {enc:α→List Value}
theorem D7 (he:∀a:α,(enc a).length=s) (L:List α):∀i,(L.flatMap enc).drop (i*s)=(L.drop i).flatMap enc:=by
 induction L with
 | nil=>intro i; simp
 | cons a L ih=>
  intro i
  cases i with
  | zero=>simp
  | succ i=>
   simp only[List.flatMap_cons,List.drop_succ_cons]
   rw[List.drop_append,←ih i,he,List.drop_of_length_le (by rw[he,Nat.succ_mul]; omega),show (i+1)*s-s=i*s by rw[Nat.succ_mul]; omega]
   rfl
end
end Go.Vai
