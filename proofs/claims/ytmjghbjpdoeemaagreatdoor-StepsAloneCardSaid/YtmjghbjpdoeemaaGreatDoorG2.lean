/-
  PROVED HERE: a part of the proof (VaiS15, VaiS16, VaiS17, VaiS18, VaiK, VaiW, VaiW2, VaiL, VaiM, VaiN, VaiZ, VaiO, VaiQ, VaiT, VaiU, VaiV).
-/
import Derived.Test.YtmjghbjpdoeemaaGreatDoorG1
import Derived.RowKit3
import Derived.ChangeSame
import Derived.Below
import Derived.Deep.Slices
import Derived.Carry
import Derived.ProofKit
set_option linter.unusedVariables false
set_option linter.unusedSimpArgs false
namespace Go.Vai
open Go
variable {β:Type} {fl:β} {good:β→Prop} {pr:kF β} {P:Program} {φ:dQ} {h h':Heap} {w:World} {t:TypeId}
theorem C3:∀(os:List Oper) (n k:Nat) (q:Oper),os[k]? = some q→(n+k,q)∈eZ os n:=by
 intro os
 induction os with
 | nil=>intro n k q h; simp at h
 | cons o os ih=>
  intro n k q h
  cases k with
  | zero=>simp at h; subst h; exact List.mem_cons_self
  | succ k=>
   simp at h
   have:=ih (n+1) k q h
   rw[show n+(k+1)=n+1+k by omega]
   exact List.mem_cons_of_mem _ this
theorem de (D i k:Nat):bit (ff D i) k=(bit D k || decide (i=k)):=by
 show Nat.testBit (D ||| 2 ^ i) k=_
 rw[Nat.testBit_or,Nat.testBit_two_pow]
 rfl
theorem Uu (D M k:Nat):bit (Nat.lor D M) k=(bit D k || bit M k):=Nat.testBit_or ..
theorem C4 (k:Nat):bit 0 k=false:=Nat.zero_testBit k
theorem oK {op:Op} {x:Sz} (h:gW P op=.rd x):nN none P op=some x:=by
 unfold gW at h
 split at h<;>try contradiction
 split at h
 ·rename_i e; cases h; exact e
 ·split at h<;>contradiction
theorem wC {op:Op} {x:YL} (h:gW P op=.al x):qA none P op=some x:=by
 unfold gW at h
 split at h<;>try contradiction
 split at h<;>try contradiction
 split at h<;>try contradiction
 rename_i e; cases h; exact e
structure Stat (P:Program) (ops:Array Oper) (i:Nat) (o:Oper):Prop where
 k1:∀j q,ops[j]? = some q→fV P q=false→∀t∈cL ops.toList o,q.dst=some t→j∈cr o
 k2:fV P o=false→∀j q,ops[j]? = some q→j≠i→fV P q=false→∀d,o.dst=some d→q.dst≠some d
theorem C5 {ops:Array Oper} {j:Nat} {q:Oper} (h:ops[j]? = some q):(j,q)∈eZ ops.toList 0:=by
 have:=C3 ops.toList 0 j q (by rw[Array.getElem?_toList]; exact h)
 simpa using this
theorem tD {o:Oper} {t:Nat}:zH o t=true↔o.dst=some t:=by
 unfold zH
 cases o.dst with
 | none=>simp
 | some d=>simp
theorem qZ {ops:Array Oper} {D M i:Nat} {o:Oper} (h:PX P ops.toList (eZ ops.toList 0) D M i o=true) :
  bit D i=false∧(∀e∈cr o,bit D e=true)∧(∃g,guardOf ops.toList o=some g)∧Stat P ops i o∧
  (fV P o=true→(∀k q,ops[k]? = some q→k≠i→bit D k=false→oB D q=false)∧
   ∀k q,ops[k]? = some q→bit D k=true→fV P q=false→bit M k=false→∀d,o.dst=some d→q.dst≠some d∧d∉cL ops.toList q):=by
 unfold PX at h
 simp only[Bool.and_eq_true] at h
 obtain ⟨⟨⟨⟨h1,h2⟩,h3⟩,h4⟩,h5⟩:=h
 simp only[List.all_eq_true] at h4
 refine ⟨by simpa using h1,?_,Option.isSome_iff_exists.mp h3,⟨?_,?_⟩,?_⟩
 ·simpa[oB,List.all_eq_true] using h2
 ·intro j q hq hw t ht hd
  have:=h4 _ (C5 hq)
  simp only[Bool.or_eq_true] at this
  rcases this with (this | this) | this
  ·rw[hw] at this; cases this
  ·have hx:(cL ops.toList o).any (zH q)=true:=List.any_eq_true.mpr ⟨t,ht,tD.mpr hd⟩
   rw[hx] at this; cases this
  ·simpa using this
 ·intro hw j q hq hji Mb d hd hqd
  rw[hw] at h5
  simp only[List.all_eq_true] at h5
  have:=h5 _ (C5 hq)
  simp only[Bool.or_eq_true] at this
  rcases this with (this | this) | this
  ·exact hji (by simpa using this)
  ·rw[Mb] at this; cases this
  ·rw[hd] at this; simp[tD.mpr hqd] at this
 ·intro hw
  rw[hw] at h5
  simp only[Bool.and_eq_true,List.all_eq_true] at h5
  refine ⟨?_,?_⟩
  ·intro k q hq hki hk
   have:=h5.1 _ (C5 hq)
   simp only[Bool.or_eq_true] at this
   rcases this with (this | this) | this
   ·exact absurd (by simpa using this) hki
   ·rw[hk] at this; cases this
   ·simpa using this
  ·intro k q hq hk Mb hm d hd
   have:=h5.2 _ (C5 hq)
   simp only[Bool.or_eq_true] at this
   rcases this with ((this | this) | this) | this
   ·rw[hk] at this; cases this
   ·rw[Mb] at this; cases this
   ·rw[hm] at this; cases this
   ·rw[hd] at this
    simp only[Bool.and_eq_true] at this
    refine ⟨fun e=>?_,fun hmem=>?_⟩
    ·rw[tD.mpr e] at this; simp at this
    ·have hx:(cL ops.toList q).any (Nat.beq d)=true:=List.any_eq_true.mpr ⟨d,hmem,by simp⟩
     rw[hx] at this; simp at this
theorem C6 {ops:Array Oper} {o:Oper} {s:Nat} {b:Bool} (hg:guardOf ops.toList o=some (some (s,b))):s∈cL ops.toList o:=by
 unfold guardOf at hg
 split at hg
 ·cases hg
 rename_i j w Yg
 split at hg<;>try contradiction
 rename_i hq
 cases hg
 simp only[cL,Yg,List.mem_append]
 right
 rw[hq]; simp
theorem qG {os:List Oper} {o:Oper} {t:Nat} (h:Operand.tmp t∈o.op.operands.toList):t∈cL os o:=by
 simp only[cL,List.mem_append,List.mem_filterMap]
 exact .inl ⟨_,h,rfl⟩
theorem oL {os:List Oper} {o:Oper} {tm cM:T Value} (h:∀t∈cL os o,dA cM t=dA tm t):∀y∈o.op.operands.toList,eY cM y=eY tm y:=by
 intro y hy
 cases y with
 | tmp t=>exact h t (qG hy)
 | _=>rfl
theorem mI {ops:Array Oper} {o:Oper} {g:Option (Nat × Bool)} (hg:guardOf ops.toList o=some g) {tm cM:T Value} (h:∀t∈cL ops.toList o,dA cM t=dA tm t):iG cM g=iG tm g:=by
 cases g with
 | none=>rfl
 | some p=>obtain ⟨s,b⟩:=p; simp only[iG,h s (C6 hg)]
def Mc (P:Program) (ops:Array Oper) (own:Nat→Option Nat) (h0:Heap) (φ:dQ) (h:Heap) (tm:T Value) (i:Nat) (o:Oper):Prop:=
 ∃g,guardOf ops.toList o=some g∧(iG tm g=false→∀d,o.dst=some d→dA tm d=undef)∧
  (iG tm g=true→match gW P o.op with
   | .rd x=>∃v,jV x tm h=some v∧∀d,o.dst=some d→dA tm d=v
   | .al x=>∃n ob mk,own n=some i∧vR x tm=some (ob,mk)∧h.bl.get n=some ob∧φ n=none∧n<h.nx∧h0.nx≤n∧∀d,o.dst=some d→dA tm d=mk n
   | .wr=>False)
theorem Mc.keep {ops:Array Oper} {own q8:Nat→Option Nat} {h0:Heap} {φ':dQ} {tm cM:T Value} {i:Nat} {o:Oper} (hp:Mc P ops own h0 φ h tm i o)
  (hl:∀t∈cL ops.toList o,dA cM t=dA tm t) (hd:∀d,o.dst=some d→dA cM d=dA tm d)
  (hrd:∀x v g,gW P o.op=.rd x→guardOf ops.toList o=some g→iG cM g=true→jV x tm h=some v→(∀d,o.dst=some d→dA cM d=v)→∃v',jV x cM h'=some v'∧∀d,o.dst=some d→dA cM d=v')
  (hal:∀n ob,own n=some i→h.bl.get n=some ob→φ n=none→n<h.nx→h0.nx≤n→q8 n=some i∧h'.bl.get n=some ob∧φ' n=none∧n<h'.nx) :
  Mc P ops q8 h0 φ' h' cM i o:=by
 obtain ⟨g,hg,h1,h2⟩:=hp
 have hw:=mI hg hl
 refine ⟨g,hg,fun hf d Cu=>by rw[hd d Cu]; exact h1 (hw▸hf) d Cu,fun ht=>?_⟩
 have h2:=h2 (hw▸ht)
 cases hc:gW P o.op with
 | rd x=>
  rw[hc] at h2
  obtain ⟨v,k1,k2⟩:=h2
  exact hrd x v g hc hg ht k1 fun d Cu=>by rw[hd d Cu]; exact k2 d Cu
 | al x=>
  rw[hc] at h2
  obtain ⟨n,ob,mk,k1,k2,k3,k4,k5,k6,k7⟩:=h2
  obtain ⟨j1,j2,j3,j4⟩:=hal n ob k1 k3 k4 k5 k6
  refine ⟨n,ob,mk,j1,?_,j2,j3,j4,k6,fun d Cu=>by rw[hd d Cu]; exact k7 d Cu⟩
  unfold vR at *
  rw[XA.congr (fun y hy=>oL hl y (zS (wC hc) y hy))]
  exact k2
 | wr=>rw[hc] at h2; exact h2.elim
abbrev mq (listed:Array Bool) (i:Nat):Prop:=listed.getD i false=true
structure Inv (P:Program) (ops:Array Oper) (nt:Nat) (φ0:dQ) (h0:Heap) (w0:World) (ds:List Deferred) (jZ:T Value) (listed:Array Bool) (D M:Nat) (tm:T Value) (h:Heap) (own:Nat→Option Nat) (φ:dQ) (a:Act) (w:World):Prop where
 SP:listed.size=ops.size
 sub:∀i,mq listed i→bit D i=true
 clo:∀i o,ops[i]? = some o→mq listed i→∀e∈cr o,mq listed e
 wr:∀i o,ops[i]? = some o→bit D i=true→fV P o=true→mq listed i
 mS:∀i,bit M i=true→mq listed i
 st:∀i o,ops[i]? = some o→bit D i=true→Stat P ops i o∧∀e∈cr o,bit D e=true
 small:nt≤1000000000000
 size:a.tmps.size=nt
 rel:∀t,t<nt→(∀i o,ops[i]? = some o→bit D i=true→¬mq listed i→o.dst≠some t)→VR φ (dA tm t) (a.tmps.getD t undef)
 hr:HR P φ h w
 ext:Ext φ0 φ h0 h w0 w
 dfs:a.defers=ds
 fc:∀i o,ops[i]? = some o→bit D i=true→¬mq listed i→Mc P ops own h0 φ h tm i o
 keep:∀t,t<nt→(∀(i:Nat) (o:Oper),ops[i]? = some o→o.dst≠some t)→dA tm t=dA jZ t
section
variable {ops:Array Oper} {nt:Nat} {φ0:dQ} {h0:Heap} {w0:World} {ds:List Deferred} {listed:Array Bool} {D M:Nat} {tm jZ:T Value} {own:Nat→Option Nat} {a:Act}
theorem Inv.ahead (inv:Inv P ops nt φ0 h0 w0 ds jZ listed D M tm h own φ a w) (hok:∀q∈ops.toList,eV nt q=true) {i:Nat} {o:Oper} (ho:ops[i]? = some o) (hD:bit D i=false) (Pz:∀e∈cr o,bit D e=true)
  (hst:Stat P ops i o) (hw:fV P o=false) {v:Value} {h':Heap} {q8:Nat→Option Nat} (hr':HR P φ h' w) (hx':Ext φ0 φ h0 h' w0 w) (hm:zh h h') (hnx:h.nx≤h'.nx) (hown:∀n,n<h.nx→q8 n=own n)
  (hpe:Mc P ops q8 h0 φ h' (i_ tm o.dst v) i o):Inv P ops nt φ0 h0 w0 ds jZ listed (ff D i) M (i_ tm o.dst v) h' q8 φ a w:=by
 have hmem:o∈ops.toList:=List.mem_of_getElem? (by rw[Array.getElem?_toList]; exact ho)
 have HD:¬mq listed i:=fun hs=>by rw[inv.sub i hs] at hD; cases hD
 have oM:=dz (hok o hmem)
 refine ⟨inv.SP,?_,inv.clo,?_,inv.mS,?_,inv.small,inv.size,?_,hr',hx',inv.dfs,?_,fun t ht hno=>by rw[gq inv.small oM ht,if_neg (hno i o ho)]; exact inv.keep t ht hno⟩
 ·intro k hk; rw[de,inv.sub k hk]; rfl
 ·intro k q hq hk Uv
  rw[de,Bool.or_eq_true] at hk
  rcases hk with hk | hk
  ·exact inv.wr k q hq hk Uv
  ·have hk:i=k:=by simpa using hk
   subst hk; rw[ho] at hq; cases hq; rw[hw] at Uv; cases Uv
 ·intro k q hq hk
  rw[de,Bool.or_eq_true] at hk
  have up:∀{e},bit D e=true→bit (ff D i) e=true:=fun he=>by rw[de,he]; rfl
  rcases hk with hk | hk
  ·exact ⟨(inv.st k q hq hk).1,fun e he=>up ((inv.st k q hq hk).2 e he)⟩
  ·have hk:i=k:=by simpa using hk
   subst hk; rw[ho] at hq; cases hq; exact ⟨hst,fun e he=>up (Pz e he)⟩
 ·intro t ht hno
  have h1:o.dst≠some t:=hno i o ho (by rw[de]; simp) HD
  rw[gq inv.small oM ht,if_neg h1]
  exact inv.rel t ht fun k q hq hk nZ=>hno k q hq (by rw[de,hk]; rfl) nZ
 ·intro k q hq hk nZ
  rw[de,Bool.or_eq_true] at hk
  by_cases hki:i=k
  ·subst hki; rw[ho] at hq; cases hq; exact hpe
  ·have hk:bit D k=true:=by
    rcases hk with hk | hk
    ·exact hk
    ·exact absurd (by simpa using hk) hki
   have Mb:fV P q=false:=by
    cases Mb:fV P q with
    | false=>rfl
    | true=>exact absurd (inv.wr k q hq hk Mb) nZ
   have hqm:q∈ops.toList:=List.mem_of_getElem? (by rw[Array.getElem?_toList]; exact hq)
   have hl:∀t∈cL ops.toList q,dA (i_ tm o.dst v) t=dA tm t:=by
    intro t ht
    rw[gq inv.small oM (kN hok hqm ht),if_neg]
    intro he
    have:=(inv.st k q hq hk).2 i ((inv.st k q hq hk).1.k1 i o ho hw t ht he)
    rw[this] at hD; cases hD
   have hd:∀d,q.dst=some d→dA (i_ tm o.dst v) d=dA tm d:=by
    intro d Cu
    have hlt:d<nt:=by have:=dz (hok q hqm); rw[Cu] at this; exact dy this
    rw[gq inv.small oM hlt,if_neg]
    intro he
    exact hst.k2 hw k q hq (fun e=>hki e.symm) Mb d he Cu
   refine (inv.fc k q hq hk nZ).keep hl hd ?_ ?_
   ·intro x v' g hc hg yV hrd Y9
    refine ⟨v',?_,Y9⟩
    have:=F3 (oK hc) hm hrd
    unfold jV at *
    rw[XI.congr (fun y hy=>oL hl y (tC (oK hc) y hy))]
    exact this
   ·intro n ob e1 e2 e3 e4 e5
    exact ⟨by rw[hown n e4]; exact e1,hm n ob e2,e3,Nat.lt_of_lt_of_le e4 hnx⟩
end
end Go.Vai

namespace Go.Vai
open Go
variable {β:Type} {fl:β} {good:β→Prop} {pr:kF β} {P:Program} {φ:dQ} {h h':Heap} {w:World} {t:TypeId}
variable {ops:Array Oper} {nt:Nat} {φ0:dQ} {h0:Heap} {w0:World} {ds:List Deferred} {listed:Array Bool} {D M:Nat} {tm jZ:T Value} {own:Nat→Option Nat} {a:Act}
theorem zh.refl (h:Heap):zh h h:=fun _ _ e=>e
theorem gu {i k:Nat} (hi:i<listed.size):mq (listed.setIfInBounds i true) k↔k=i∨mq listed k:=by
 unfold mq
 simp only[Array.getD_eq_getD_getElem?]
 by_cases he:i=k
 ·subst he; simp[Array.getElem?_setIfInBounds_self_of_lt hi]
 ·rw[Array.getElem?_setIfInBounds_ne he]
  constructor
  ·exact fun h=>.inr h
  ·rintro (h | h)
   ·exact absurd h.symm he
   ·exact h
theorem C7 {a:Act} {d:Option Nat} {v:Value} {t:Nat} (ht:t<a.tmps.size):(a.put d v).tmps.getD t undef=if d=some t then v else a.tmps.getD t undef:=by
 cases d with
 | none=>simp[Act.put]
 | some d=>
  simp only[Act.put,Array.getD_eq_getD_getElem?]
  by_cases he:d=t
  ·subst he; rw[if_pos rfl,Array.getElem?_setIfInBounds_self_of_lt ht]; rfl
  ·rw[if_neg (by simpa using he),Array.getElem?_setIfInBounds_ne he]
theorem C8 {a:Act} {d:Option Nat} {v:Value}:(a.put d v).tmps.size=a.tmps.size:=by cases d<;>simp[Act.put]
theorem HF {a:Act} {d:Option Nat} {v:Value}:(a.put d v).defers=a.defers:=by cases d<;>rfl
theorem F4 {o:Oper} {x:Sz} (h:gW P o.op=.rd x):fV P o=false:=by unfold fV; rw[h]
theorem J5 {o:Oper} (h:fV P o=true):gW P o.op=.wr:=by
 unfold fV at h
 split at h
 ·assumption
 ·cases h
theorem wD {i:Nat} {o:Oper} (ho:ops[i]? = some o):o∈ops.toList:=List.mem_of_getElem? (by rw[Array.getElem?_toList]; exact ho)
theorem Inv.advance (hfl:¬good fl) (inv:Inv P ops nt φ0 h0 w0 ds jZ listed D M tm h own φ a w) (hok:∀q∈ops.toList,eV nt q=true) {rec:Rec β} {i:Nat} {o:Oper} (ho:ops[i]? = some o) (hD:bit D i=false)
  (Pz:∀e∈cr o,bit D e=true) (hst:Stat P ops i o) (hw:fV P o=false) {M':Nat} {κ:T Value→Heap→β} (hg:good (jw fl pr P rec ops.toList D M' o tm h κ)) :
  ∃cM h' q8,Inv P ops nt φ0 h0 w0 ds jZ listed (ff D i) M cM h' q8 φ a w∧good (κ cM h'):=by
 have oM:=dz (hok o (wD ho))
 have hl:∀v,∀t∈cL ops.toList o,dA (i_ tm o.dst v) t=dA tm t:=by
  intro v t ht
  rw[gq inv.small oM (kN hok (wD ho) ht),if_neg]
  intro he
  have:=Pz i (hst.k1 i o ho hw t ht he)
  rw[this] at hD; cases hD
 have Y9:∀v d,o.dst=some d→dA (i_ tm o.dst v) d=v:=by
  intro v d hd
  have hlt:d<nt:=by rw[hd] at oM; exact dy oM
  rw[gq inv.small oM hlt,if_pos hd]
 unfold jw at hg
 split at hg
 ·exact absurd hg hfl
 rename_i g Ls
 split at hg
 ·rename_i yV
  rw[gj] at hg
  refine ⟨_,_,own,inv.ahead hok ho hD Pz hst hw inv.hr inv.ext (zh.refl h) (Nat.le_refl _) (fun _ _=>rfl) ?_,hg⟩
  refine ⟨g,Ls,fun _ d hd=>Y9 _ d hd,fun ht=>?_⟩
  rw[mI Ls (hl _),yV] at ht; cases ht
 ·rename_i yV
  split at hg
  ·rename_i x hc
   split at hg
   ·rename_i v hv
    rw[gj] at hg
    refine ⟨_,_,own,inv.ahead hok ho hD Pz hst hw inv.hr inv.ext (zh.refl h) (Nat.le_refl _) (fun _ _=>rfl) ?_,hg⟩
    refine ⟨g,Ls,fun hf=>?_,fun _=>?_⟩
    ·rw[mI Ls (hl _),yV] at hf; cases hf
    ·rw[hc]
     refine ⟨v,?_,fun d hd=>Y9 _ d hd⟩
     unfold jV at *
     rw[XI.congr (fun y hy=>oL (hl v) y (tC (oK hc) y hy))]
     exact hv
   ·exact absurd hg hfl
  ·rename_i x hc
   split at hg
   ·rename_i ob mk hv
    obtain ⟨hn,hg⟩:=dU hfl hg
    rw[gj] at hg
    have hs:Small h.nx:=by unfold Small; omega
    have hnone:φ h.nx=none:=by
     cases hp:φ h.nx with
     | none=>rfl
     | some pl=>have:=(inv.hr.dom _ _ hp).1; omega
    refine ⟨_,_,(fun n=>if n=h.nx then some i else own n),inv.ahead hok ho hD Pz hst hw (inv.hr.vZ hn ob) (inv.ext.vZ inv.hr.lo hn ob) ?_ (Nat.le_succ _) (fun n hn=>if_neg (by omega)) ?_,hg⟩
    ·intro b o' hb
     by_cases hsb:Small b
     ·have:=inv.hr.keys b o' hsb hb
      show (h.bl.aY h.nx ob).get b=some o'
      rw[T.gH _ _ hs hsb (by omega)]
      exact hb
     ·show (h.bl.aY h.nx ob).get b=some o'
      exact absurd (Nat.lt_succ_self b) hsb
    ·refine ⟨g,Ls,fun hf=>?_,fun _=>?_⟩
     ·rw[mI Ls (hl _),yV] at hf; cases hf
     ·rw[hc]
      refine ⟨h.nx,ob,mk,if_pos rfl,?_,T.af _ _ _,hnone,Nat.lt_succ_self _,inv.ext.nx,fun d hd=>Y9 _ d hd⟩
      unfold vR at *
      rw[XA.congr (fun y hy=>oL (hl _) y (zS (wC hc) y hy))]
      exact hv
   ·exact absurd hg hfl
  ·rename_i hc
   rw[fV,hc] at hw; cases hw
theorem Inv.done (inv:Inv P ops nt φ0 h0 w0 ds jZ listed D M tm h own φ a w) (hok:∀q∈ops.toList,eV nt q=true) {i:Nat} {o:Oper} (ho:ops[i]? = some o) (hD:bit D i=true) (rZ:∀e∈cr o,mq listed e)
  {φ':dQ} {w':World} {v':Value} (hv:∀d,o.dst=some d→VR φ' (dA tm d) v') (hs:Sub φ φ') (hr':HR P φ' h w') (hx':Ext φ0 φ' h0 h w0 w') (hφ:∀n,own n≠some i→φ n=none→φ' n=none) :
  Inv P ops nt φ0 h0 w0 ds jZ (listed.setIfInBounds i true) D M tm h own φ' (a.put o.dst v') w':=by
 have hil:i<listed.size:=by rw[inv.SP]; exact (Array.getElem?_eq_some_iff.mp ho).1
 refine ⟨by simp[inv.SP],?_,?_,?_,?_,inv.st,inv.small,by rw[C8]; exact inv.size,?_,hr',hx',by rw[HF]; exact inv.dfs,?_,inv.keep⟩
 ·intro k hk
  rcases (gu hil).mp hk with rfl | hk
  ·exact hD
  ·exact inv.sub k hk
 ·intro k q hq hk e he
  rw[gu hil]
  rcases (gu hil).mp hk with rfl | hk
  ·rw[ho] at hq; cases hq; exact .inr (rZ e he)
  ·exact .inr (inv.clo k q hq hk e he)
 ·intro k q hq hk Uv; rw[gu hil]; exact .inr (inv.wr k q hq hk Uv)
 ·intro k hk; rw[gu hil]; exact .inr (inv.mS k hk)
 ·intro t ht hno
  rw[C7 (by rw[inv.size]; exact ht)]
  by_cases hd:o.dst=some t
  ·rw[if_pos hd]; exact hv t hd
  ·rw[if_neg hd]
   refine (inv.rel t ht fun k q hq hk nZ=>?_).mono hs
   by_cases hki:k=i
   ·subst hki; rw[ho] at hq; cases hq; exact hd
   ·exact hno k q hq hk (fun hh=>by rcases (gu hil).mp hh with h1 | h1<;>contradiction)
 ·intro k q hq hk nZ
  rw[gu hil] at nZ
  have hki:k≠i:=fun e=>nZ (.inl e)
  have Md:¬mq listed k:=fun e=>nZ (.inr e)
  refine (inv.fc k q hq hk Md).keep (fun _ _=>rfl) (fun _ _=>rfl) (fun x v g _ _ _ e1 e2=>⟨v,e1,e2⟩) ?_
  intro n ob e1 e2 e3 e4 e5
  exact ⟨e1,e2,hφ n (by rw[e1]; intro hh; cases hh; exact hki rfl) e3,e4⟩
theorem Inv.looks (inv:Inv P ops nt φ0 h0 w0 ds jZ listed D M tm h own φ a w) (hok:∀q∈ops.toList,eV nt q=true) {i:Nat} {o:Oper} (ho:ops[i]? = some o) (hst:Stat P ops i o) (rZ:∀e∈cr o,mq listed e) :
  ∀t∈cL ops.toList o,t<a.tmps.size∧VR φ (dA tm t) (a.tmps.getD t undef):=by
 intro t ht
 have hlt:=kN hok (wD ho) ht
 refine ⟨by rw[inv.size]; exact hlt,inv.rel t hlt fun k q hq hk nZ hqd=>nZ (rZ k (hst.k1 k q hq ?_ t ht hqd))⟩
 cases Mb:fV P q with
 | false=>rfl
 | true=>exact absurd (inv.wr k q hq hk Mb) nZ
theorem Inv.Y_ (inv:Inv P ops nt φ0 h0 w0 ds jZ listed D M tm h own φ a w) (hok:∀q∈ops.toList,eV nt q=true) {i:Nat} {o:Oper} (ho:ops[i]? = some o) (hst:Stat P ops i o) (rZ:∀e∈cr o,mq listed e) :
  ∀y∈o.op.operands.toList,VR φ (eY tm y) (a.eval y):=by
 intro y hy
 have hyo:=qY (hok o (wD ho)) y hy
 cases y with
 | tmp t=>exact (inv.looks hok ho hst rZ t (qG hy)).2
 | const v=>exact j9 hyo
 | func f=>exact VR.func' .nil .nil
 | global g=>cases hyo
theorem Inv.wanted (inv:Inv P ops nt φ0 h0 w0 ds jZ listed D M tm h own φ a w) (hok:∀q∈ops.toList,eV nt q=true) {i:Nat} {o:Oper} (ho:ops[i]? = some o) (hst:Stat P ops i o) (rZ:∀e∈cr o,mq listed e)
  {g:Option (Nat × Bool)} (hg:guardOf ops.toList o=some g):Region.wanted o (yielded ops a.tmps)=iG tm g:=
 zP (φ:=φ) hg fun s _ _ hs=>inv.looks hok ho hst rZ s hs
theorem Inv.late (inv:Inv P ops nt φ0 h0 w0 ds jZ listed D M tm h own φ a w) (hok:∀q∈ops.toList,eV nt q=true) {i:Nat} {o:Oper} (ho:ops[i]? = some o) (hD:bit D i=true) (HD:¬mq listed i) (rZ:∀e∈cr o,mq listed e)
  {Q:Exit→Act→World→Prop} {K:Act→World→Prop} {r0:Option Nat} (hK:∀φ' a' w',Inv P ops nt φ0 h0 w0 ds jZ (listed.setIfInBounds i true) D M tm h own φ' a' w'→K a' w'):wpOpIn (FR r0) 0 P ops Q i K a w:=by
 obtain ⟨hst,_⟩:=inv.st i o ho hD
 obtain ⟨g,hg,h1,h2⟩:=inv.fc i o ho hD HD
 have hlt:∀d,o.dst=some d→d<nt:=fun d hd=>by have:=dz (hok o (wD ho)); rw[hd] at this; exact dy this
 simp only[wpOpIn,ho]
 rw[inv.wanted hok ho hst rZ hg]
 cases hw:iG tm g with
 | false=>
  rw[if_neg (by simp)]
  exact ⟨j_,hK φ _ w (inv.done hok ho hD rZ (fun d hd=>by rw[h1 hw d hd]; exact VR.undef) (Sub.refl φ) inv.hr inv.ext (fun _ _ e=>e))⟩
 | true=>
  rw[if_pos rfl]
  have h2:=h2 hw
  have hρ:=inv.Y_ hok ho hst rZ
  cases hc:gW P o.op with
  | rd x=>
   rw[hc] at h2
   obtain ⟨v,k1,k2⟩:=h2
   obtain ⟨v0,v',e1,e2,e3⟩:=uo (β:=Option Value) (fl:=none) (good:=fun r=>r=some v) (by simp) (oK hc) hρ inv.hr (κ:=fun v _=>some v) k1 rfl
   cases e1
   refine ⟨j_,?_⟩
   rw[Oper.semAt_eq _ _ _ (fun c hcd=>by rw[hcd] at hc; cases hc),e3]
   exact hK φ _ w (inv.done hok ho hD rZ (fun d hd=>by rw[k2 d hd]; exact e2) (Sub.refl φ) inv.hr inv.ext (fun _ _ e=>e))
  | al x=>
   rw[hc] at h2
   obtain ⟨n,ob,mk,k1,k2,k3,k4,k5,k6,k7⟩:=h2
   obtain ⟨ob',mk',O,e1,e2,e3,e4,e5⟩:=uu (β:=Option (bQ × (Nat→Value))) (fl:=none) (good:=fun r=>r=some (ob,mk)) (P:=P) (w:=w) (by simp) (wC hc) hρ (κ:=fun o mk=>some (o,mk)) k2 rfl
   cases e1
   refine ⟨j_,?_⟩
   rw[Oper.semAt_eq _ _ _ (fun c hcd=>by rw[hcd] at hc; cases hc),e5]
   refine hK (gX φ n ⟨w.heap.size,0,0⟩) _ _ (inv.done hok ho hD rZ (fun d hd=>by rw[k7 d hd]; exact e4 _ _ _ (gJ _ _ _)) (pQ k4) (inv.hr.CN k3 k4 k5 0 0 (e3 _)) (inv.ext.CN k4 k6 O (rQ (e3 ⟨0,0,0⟩) e2) 0 0) ?_)
   intro m hm1 hm2
   unfold gX
   rw[if_neg]
   ·exact hm2
   ·intro he; subst he; exact hm1 k1
  | wr=>rw[hc] at h2; exact h2.elim
end Go.Vai

namespace Go.Vai
open Go
variable {β:Type} {fl:β} {good:β→Prop} {pr:kF β} {P:Program} {φ:dQ} {h h':Heap} {w:World} {t:TypeId}
variable {ops:Array Oper} {nt:Nat} {φ0:dQ} {h0:Heap} {w0:World} {ds:List Deferred} {listed:Array Bool} {D M:Nat} {tm jZ:T Value} {own:Nat→Option Nat} {a:Act}
theorem C9:∀(s_:List It),ug P ops.toList D M tm h s_=true→∀k q,(k,q)∈s_→bit D k=true→bit M k=false→∀x g,gW P q.op=.rd x→guardOf ops.toList q=some g→iG tm g=true→
  ∃v,jV x tm h=some v∧∀d,q.dst=some d→dA tm d=v:=by
 intro s_
 induction s_ with
 | nil=>intro _ k q hm; cases hm
 | cons it s_ ih=>
  obtain ⟨j,o⟩:=it
  intro hs k q hm hD hM x g hc hg hw
  simp only[List.mem_cons] at hm
  unfold ug at hs
  rcases hm with e | hm
  ·cases e
   simp only[hD,hM,hc,hg,hw,Bool.not_false,Bool.and_true,Bool.and_eq_true] at hs
   have hs:=hs.1
   split at hs
   ·rename_i v d hv hd
    refine ⟨v,hv,fun d' hd'=>?_⟩
    rw[hd] at hd'; cases hd'
    exact (FV 8 _ _ hs).symm
   ·rename_i v hv hd
    exact ⟨v,hv,fun d' hd'=>by rw[hd] at hd'; cases hd'⟩
   ·cases hs
  ·refine ih ?_ k q hm hD hM x g hc hg hw
   split at hs
   ·simp only[Bool.and_eq_true] at hs; exact hs.2
   ·exact hs
theorem C_ {s_:List It} (ha:zI P D M s_=false) {k:Nat} {q:Oper} (hm:(k,q)∈s_) (hD:bit D k=true) (hM:bit M k=false) {x:Sz} (hc:gW P q.op=.rd x):False:=by
 unfold zI at ha
 rw[List.any_eq_false] at ha
 have:=ha _ hm
 simp[hD,hM,hc] at this
theorem Inv.wrote (inv:Inv P ops nt φ0 h0 w0 ds jZ listed D M tm h own φ a w) (hok:∀q∈ops.toList,eV nt q=true) {i:Nat} {o:Oper} (ho:ops[i]? = some o) (hD:bit D i=false) (rZ:∀e∈cr o,mq listed e)
  (hst:Stat P ops i o) (hw:fV P o=true) {M':Nat} (hM:∀k,bit M' k=true→mq listed k)
  (hno:∀k q,ops[k]? = some q→bit D k=true→fV P q=false→bit M' k=false→∀d,o.dst=some d→q.dst≠some d∧d∉cL ops.toList q)
  {φ':dQ} {w':World} {v v':Value} {h':Heap} (hv:VR φ' v v') (hr':HR P φ' h' w') (hx:Ext φ φ' h h' w w')
  (hre:∀k q,ops[k]? = some q→bit D k=true→bit M' k=false→¬mq listed k→∀x g,gW P q.op=.rd x→guardOf ops.toList q=some g→iG (i_ tm o.dst v) g=true→
   ∃v1,jV x (i_ tm o.dst v) h'=some v1∧∀d,q.dst=some d→dA (i_ tm o.dst v) d=v1) :
  Inv P ops nt φ0 h0 w0 ds jZ (listed.setIfInBounds i true) (ff D i) M' (i_ tm o.dst v) h' own φ' (a.put o.dst v') w':=by
 have hil:i<listed.size:=by rw[inv.SP]; exact (Array.getElem?_eq_some_iff.mp ho).1
 have oM:=dz (hok o (wD ho))
 have Za:∀{k q},ops[k]? = some q→bit (ff D i) k=true→¬mq (listed.setIfInBounds i true) k→bit D k=true∧¬mq listed k∧fV P q=false∧bit M' k=false:=by
  intro k q hq hk nZ
  rw[gu hil] at nZ
  have hki:k≠i:=fun e=>nZ (.inl e)
  have Md:¬mq listed k:=fun e=>nZ (.inr e)
  rw[de,Bool.or_eq_true] at hk
  have hk:bit D k=true:=by
   rcases hk with hk | hk
   ·exact hk
   ·exact absurd (by simpa using hk:i=k).symm hki
  refine ⟨hk,Md,?_,?_⟩
  ·cases Mb:fV P q with
   | false=>rfl
   | true=>exact absurd (inv.wr k q hq hk Mb) Md
  ·cases hm:bit M' k with
   | false=>rfl
   | true=>exact absurd (hM k hm) Md
 refine ⟨by simp[inv.SP],?_,?_,?_,?_,?_,inv.small,by rw[C8]; exact inv.size,?_,hr',inv.ext.trans hx,by rw[HF]; exact inv.dfs,?_,fun t ht hno=>by rw[gq inv.small oM ht,if_neg (hno i o ho)]; exact inv.keep t ht hno⟩
 ·intro k hk
  rw[de]
  rcases (gu hil).mp hk with rfl | hk
  ·simp
  ·rw[inv.sub k hk]; rfl
 ·intro k q hq hk e he
  rw[gu hil]
  rcases (gu hil).mp hk with rfl | hk
  ·rw[ho] at hq; cases hq; exact .inr (rZ e he)
  ·exact .inr (inv.clo k q hq hk e he)
 ·intro k q hq hk Uv
  rw[gu hil]
  rw[de,Bool.or_eq_true] at hk
  rcases hk with hk | hk
  ·exact .inr (inv.wr k q hq hk Uv)
  ·exact .inl (by simpa using hk:i=k).symm
 ·intro k hk; rw[gu hil]; exact .inr (hM k hk)
 ·intro k q hq hk
  rw[de,Bool.or_eq_true] at hk
  have up:∀{e},bit D e=true→bit (ff D i) e=true:=fun he=>by rw[de,he]; rfl
  rcases hk with hk | hk
  ·exact ⟨(inv.st k q hq hk).1,fun e he=>up ((inv.st k q hq hk).2 e he)⟩
  ·have hk:i=k:=by simpa using hk
   subst hk; rw[ho] at hq; cases hq; exact ⟨hst,fun e he=>up (inv.sub e (rZ e he))⟩
 ·intro t ht hnot
  rw[C7 (by rw[inv.size]; exact ht),gq inv.small oM ht]
  by_cases hd:o.dst=some t
  ·rw[if_pos hd,if_pos hd]; exact hv
  ·rw[if_neg hd,if_neg hd]
   refine (inv.rel t ht fun k q hq hk nZ=>hnot k q hq (by rw[de,hk]; rfl) ?_).mono hx.sub
   rw[gu hil]
   rintro (rfl | hh)
   ·rw[hk] at hD; cases hD
   ·exact nZ hh
 ·intro k q hq hk nZ
  obtain ⟨iJ,hk2,SQ,Me⟩:=Za hq hk nZ
  have hl:∀t∈cL ops.toList q,dA (i_ tm o.dst v) t=dA tm t:=by
   intro t ht
   rw[gq inv.small oM (kN hok (wD hq) ht),if_neg]
   intro he
   exact (hno k q hq iJ SQ Me t he).2 ht
  have hd:∀d,q.dst=some d→dA (i_ tm o.dst v) d=dA tm d:=by
   intro d Cu
   have hlt:d<nt:=by have:=dz (hok q (wD hq)); rw[Cu] at this; exact dy this
   rw[gq inv.small oM hlt,if_neg]
   intro he
   exact (hno k q hq iJ SQ Me d he).1 Cu
  refine (inv.fc k q hq iJ hk2).keep hl hd (fun x v1 g hc hg yV _ _=>hre k q hq iJ Me hk2 x g hc hg yV) ?_
  intro n ob e1 e2 e3 e4 e5
  refine ⟨e1,by rw[hx.FD n e4 e3]; exact e2,?_,Nat.lt_of_lt_of_le e4 hx.nx⟩
  cases hp:φ' n with
  | none=>rfl
  | some pl=>have:=(hx.new n pl e3 hp).1; omega
theorem Inv.write (hfl:¬good fl) (hp:gr good pr P) {rec:Rec β} (eW:kM good P rec) (inv:Inv P ops nt φ0 h0 w0 ds jZ listed D M tm h own φ a w) (hok:∀q∈ops.toList,eV nt q=true) {i:Nat} {o:Oper} (ho:ops[i]? = some o)
  (hD:bit D i=false) (rZ:∀e∈cr o,mq listed e) (hst:Stat P ops i o) (hw:fV P o=true) {M':Nat} (hM:∀k,bit M' k=true→mq listed k)
  (hno:∀k q,ops[k]? = some q→bit D k=true→fV P q=false→bit M' k=false→∀d,o.dst=some d→q.dst≠some d∧d∉cL ops.toList q)
  {κ:T Value→Heap→β} (hg:good (jw fl pr P rec ops.toList D M' o tm h κ)) {Q:Exit→Act→World→Prop} {K:Act→World→Prop} {r0:Option Nat}
  (hK:∀cM h' φ' a' w',Inv P ops nt φ0 h0 w0 ds jZ (listed.setIfInBounds i true) (ff D i) M' cM h' own φ' a' w'→good (κ cM h')→K a' w'):wpOpIn (FR r0) 0 P ops Q i K a w:=by
 simp only[wpOpIn,ho]
 unfold jw at hg
 split at hg
 ·exact absurd hg hfl
 rename_i g Ls
 rw[inv.wanted hok ho hst rZ Ls]
 split at hg
 ·rename_i yV
  rw[gj] at hg
  rw[yV,if_neg (by simp)]
  refine ⟨j_,?_⟩
  refine hK _ _ φ _ w (inv.wrote hok ho hD rZ hst hw hM hno VR.undef inv.hr (Ext.refl _ _ _) ?_) hg
  intro k q hq hk Yh nZ x g' hc hg' P8
  have SQ:=F4 hc
  have oM:=dz (hok o (wD ho))
  have hl:∀t∈cL ops.toList q,dA (i_ tm o.dst undef) t=dA tm t:=by
   intro t ht
   rw[gq inv.small oM (kN hok (wD hq) ht),if_neg]
   intro he
   exact (hno k q hq hk SQ Yh t he).2 ht
  obtain ⟨g2,e1,e2,e3⟩:=inv.fc k q hq hk nZ
  rw[hg'] at e1; cases e1
  have e3:=e3 (by rw[←mI hg' hl]; exact P8)
  rw[hc] at e3
  obtain ⟨v,k1,k2⟩:=e3
  refine ⟨v,?_,fun d Cu=>?_⟩
  ·unfold jV at *
   rw[XI.congr (fun y hy=>oL hl y (tC (oK hc) y hy))]
   exact k1
  ·have hlt:d<nt:=by have:=dz (hok q (wD hq)); rw[Cu] at this; exact dy this
   rw[gq inv.small oM hlt,if_neg]
   ·exact k2 d Cu
   ·intro he
    exact (hno k q hq hk SQ Yh d he).1 Cu
 ·rename_i yV
  rw[yV,if_pos rfl]
  rw[J5 hw] at hg
  refine C2 hfl hp eW (inv.Y_ hok ho hst rZ) inv.hr hg ?_
  intro φ' v v' h' w' g1 g2 g3 g4
  rw[gj] at g1
  split at g1
  ·rename_i ha
   refine hK _ _ φ' _ w' (inv.wrote hok ho hD rZ hst hw hM hno g2 g3 g4 ?_) g1
   intro k q hq hk Yh nZ x g' hc hg' P8
   exact (C_ ha (C5 hq) hk Yh hc).elim
  ·split at g1
   ·rename_i Cv
    refine hK _ _ φ' _ w' (inv.wrote hok ho hD rZ hst hw hM hno g2 g3 g4 ?_) g1
    intro k q hq hk Yh nZ x g' hc hg' P8
    exact C9 _ Cv k q (C5 hq) hk Yh x g' hc hg' P8
   ·exact absurd g1 hfl
theorem wE {S:Nat→Prop}:∀(l:List Nat) (m:Nat),(∀k,bit m k=true→S k)→(∀e∈l,S e)→∀k,bit (l.foldl ff m) k=true→S k:=by
 intro l
 induction l with
 | nil=>intro m h1 _ k hk; exact h1 k hk
 | cons e l ih=>
  intro m h1 h2 k hk
  refine ih (ff m e) ?_ (fun x hx=>h2 x (by simp[hx])) k hk
  intro x hx
  rw[de,Bool.or_eq_true] at hx
  rcases hx with hx | hx
  ·exact h1 x hx
  ·have:e=x:=by simpa using hx
   subst this; exact h2 e (by simp)
theorem J6 {S:Nat→Prop} {os:List Oper} (hc:∀i o,os[i]? = some o→S i→∀e∈cr o,S e):∀(i m:Nat),(∀k,bit m k=true→S k)→∀k,bit (LI os i m) k=true→S k:=by
 intro i
 induction i with
 | zero=>intro m h1 k hk; exact h1 k hk
 | succ i ih=>
  intro m h1 k hk
  unfold LI at hk
  split at hk
  ·rename_i o hb ho
   exact ih _ (wE _ _ h1 (hc i o ho (h1 i hb))) k hk
  ·exact ih m h1 k hk
theorem F5 {S:Nat→Prop} {os:List Oper} (hc:∀i o,os[i]? = some o→S i→∀e∈cr o,S e) {i:Nat} {o:Oper} (ho:os[i]? = some o) (hp:∀e∈cr o,S e):∀k,bit (qB os i) k=true→S k:=by
 unfold qB
 rw[ho]
 exact J6 hc i _ (wE _ _ (fun k hk=>by rw[C4] at hk; cases hk) hp)
theorem zT {i:Nat} (hi:i∈Region.ready .any ops listed):∃o,ops[i]? = some o∧¬mq listed i∧∀e∈cr o,mq listed e:=by
 unfold Region.ready at hi
 simp only[List.mem_filter,List.mem_range,Bool.and_eq_true] at hi
 obtain ⟨h1,h2,h3⟩:=hi
 have ho:ops[i]? = some ops[i]:=by simp[h1]
 refine ⟨ops[i],ho,?_,?_⟩
 ·intro hh
  unfold mq at hh
  simp only[Array.getD_eq_getD_getElem?] at hh h2
  cases hl:listed[i]? with
  | none=>rw[hl] at hh; simp at hh
  | some b=>rw[hl] at hh h2; simp at hh h2; rw[hh] at h2; cases h2
 ·intro e he
  rw[ho] at h3
  simp only[Option.map_some,Option.getD_some,Array.all_eq_true'] at h3
  unfold cr at he
  simp only[List.mem_map,List.mem_filter] at he
  obtain ⟨x,⟨hx,hb⟩,rfl⟩:=he
  have:=h3 x (by simpa using hx)
  rw[hb] at this
  simp only[Bool.not_true,Bool.false_or] at this
  exact this
theorem mem_ready {i:Nat} {o:Oper} (ho:ops[i]? = some o) (hsz:listed.size=ops.size) (hn:¬mq listed i) (hp:∀e∈cr o,mq listed e):i∈Region.ready .any ops listed:=by
 have hlt:i<ops.size:=(Array.getElem?_eq_some_iff.mp ho).1
 unfold Region.ready
 simp only[List.mem_filter,List.mem_range,Bool.and_eq_true]
 refine ⟨hlt,?_,?_⟩
 ·have hll:i<listed.size:=by omega
  unfold mq at hn
  simp only[Array.getD_eq_getD_getElem?,getElem?_pos listed i hll] at hn ⊢
  simpa using hn
 ·rw[ho]
  simp only[Option.map_some,Option.getD_some,Array.all_eq_true']
  intro e he
  cases hb:Region.binds .any e with
  | false=>rfl
  | true=>
   have:=hp e.on (by unfold cr; simp only[List.mem_map,List.mem_filter]; exact ⟨e,⟨by simpa using he,hb⟩,rfl⟩)
   simp only[Bool.not_true,Bool.false_or]
   exact this
section
variable {nt:Nat} {κ:T Value→Heap→β} {Q:Exit→Act→World→Prop} {r0:Option Nat}
theorem Uw {own:Nat→Option Nat} (inv:Inv P ops nt φ0 h0 w0 ds jZ listed D M tm h own φ a w) (hidx:∀i o,ops[i]? = some o→∀e∈cr o,e<i) (hr:Region.ready .any ops listed=[]):∀i o,ops[i]? = some o→mq listed i:=by
 intro i
 induction i using Nat.strongRecOn with
 | _ i ih=>
  intro o ho
  by_cases hi:mq listed i
  ·exact hi
  ·have hlt:i<ops.size:=(Array.getElem?_eq_some_iff.mp ho).1
   have:=mem_ready ho inv.SP hi fun e he=>by
    have hei:=hidx i o ho e he
    exact ih e hei ops[e] (by simp)
   rw[hr] at this; cases this
theorem Inv.full {own:Nat→Option Nat} (inv:Inv P ops nt φ0 h0 w0 ds jZ listed D M tm h own φ a w) (hall:∀i o,ops[i]? = some o→mq listed i):TR φ nt tm a:=
 ⟨inv.size,inv.small,fun t ht=>inv.rel t ht fun i o ho _ hS=>absurd (hall i o ho) hS⟩
theorem oN {i:Nat} {is:List Nat} {D M:Nat} (hp:lV P ops.toList (i::is) D M=true):∃o,ops[i]? = some o∧
  PX P ops.toList (eZ ops.toList 0) D (match fV P o with | true=>Nat.lor M (qB ops.toList i) | false=>M) i o=true∧
  lV P ops.toList is (ff D i) (match fV P o with | true=>Nat.lor M (qB ops.toList i) | false=>M)=true:=by
 unfold lV at hp
 split at hp<;>try contradiction
 rename_i o ho
 rw[Array.getElem?_toList] at ho
 simp only[Bool.and_eq_true] at hp
 exact ⟨o,ho,hp.1,hp.2⟩
theorem aew (hfl:¬good fl) (hok:∀q∈ops.toList,eV nt q=true) {rec:Rec β} {i:Nat} {o:Oper} (ho:ops[i]? = some o) (HD:¬mq listed i) (rZ:∀e∈cr o,mq listed e) :
  ∀(l:List Nat) (D M:Nat) (tm:T Value) (h:Heap) (own:Nat→Option Nat),Inv P ops nt φ0 h0 w0 ds jZ listed D M tm h own φ a w→lV P ops.toList l D M=true→good (iR fl pr P rec ops.toList l D M tm h κ)→
   ∃l' D' cM h' q8,Inv P ops nt φ0 h0 w0 ds jZ listed D' M cM h' q8 φ a w∧lV P ops.toList l' D' M=true∧good (iR fl pr P rec ops.toList l' D' M cM h' κ)∧
    (bit D' i=true∨(fV P o=true∧∃js,l'=i::js)):=by
 intro l
 induction l with
 | nil=>
  intro D M tm h own inv hp hg
  refine ⟨[],D,tm,h,own,inv,hp,hg,.inl ?_⟩
  unfold lV at hp
  rw[List.all_eq_true] at hp
  exact hp _ (C5 ho)
 | cons j js ih=>
  intro D M tm h own inv hp hg
  by_cases Ux:bit D i=true
  ·exact ⟨j::js,D,tm,h,own,inv,hp,hg,.inl Ux⟩
  have Ux:bit D i=false:=by simpa using Ux
  obtain ⟨q,hq,fJ,lF⟩:=oN hp
  obtain ⟨k1,k2,k3,k4,k5⟩:=qZ fJ
  cases hw:fV P q with
  | true=>
   have hij:i=j:=by
    by_cases hij:i=j
    ·exact hij
    ·have:=(k5 hw).1 i o ho hij Ux
     have hrd:oB D o=true:=by unfold oB; rw[List.all_eq_true]; exact fun e he=>inv.sub e (rZ e he)
     rw[hrd] at this; cases this
   subst hij
   rw[ho] at hq; cases hq
   exact ⟨i::js,D,tm,h,own,inv,hp,hg,.inr ⟨hw,js,rfl⟩⟩
  | false=>
   rw[hw] at lF fJ
   simp only at lF
   unfold iR at hg
   rw[Array.getElem?_toList,hq] at hg
   simp only[hw] at hg
   obtain ⟨cM,h',q8,inv',hg'⟩:=inv.advance hfl hok hq k1 k2 k4 hw hg
   exact ih _ M cM h' q8 inv' lF hg'
theorem P9 (hfl:¬good fl) (hp:gr good pr P) {rec:Rec β} (eW:kM good P rec) (hok:∀q∈ops.toList,eV nt q=true) (hidx:∀i o,ops[i]? = some o→∀e∈cr o,e<i)
  (hQ:∀cM h' φ' a' w',good (κ cM h')→TR φ' nt cM a'→HR P φ' h' w'→Ext φ0 φ' h0 h' w0 w'→a'.defers=ds→(∀t,t<nt→(∀(i:Nat) (o:Oper),ops[i]? = some o→o.dst≠some t)→dA cM t=dA jZ t)→Q .normal a' w') :
  ∀(fuel:Nat) (listed:Array Bool) (l:List Nat) (D M:Nat) (tm:T Value) (h:Heap) (own:Nat→Option Nat) (φ:dQ) (a:Act) (w:World),listed.toList.count false≤fuel→Inv P ops nt φ0 h0 w0 ds jZ listed D M tm h own φ a w→
   lV P ops.toList l D M=true→good (iR fl pr P rec ops.toList l D M tm h κ)→wpAnyIn (FR r0) 0 P .any ops Q fuel listed a w:=by
 have fin:∀(listed:Array Bool) (l:List Nat) (D M:Nat) (tm:T Value) (h:Heap) (own:Nat→Option Nat) (φ:dQ) (a:Act) (w:World),Inv P ops nt φ0 h0 w0 ds jZ listed D M tm h own φ a w→
   lV P ops.toList l D M=true→good (iR fl pr P rec ops.toList l D M tm h κ)→Region.ready .any ops listed=[]→Q .normal a w:=by
  intro listed l D M tm h own φ a w inv LP hg hr
  have hall:=Uw inv hidx hr
  cases l with
  | nil=>exact hQ tm h φ a w hg (inv.full hall) inv.hr inv.ext inv.dfs inv.keep
  | cons j js=>
   obtain ⟨q,hq,fJ,_⟩:=oN LP
   have:=(qZ fJ).1
   rw[inv.sub j (hall j q hq)] at this; cases this
 intro fuel
 induction fuel with
 | zero=>
  intro listed l D M tm h own φ a w hc inv LP hg
  have hr:Region.ready .any ops listed=[]:=by
   cases hr:Region.ready .any ops listed with
   | nil=>rfl
   | cons i is=>
    obtain ⟨o,ho,HD,_⟩:=zT (listed:=listed) (ops:=ops) (i:=i) (by rw[hr]; exact List.mem_cons_self)
    have hlt:i<listed.size:=by rw[inv.SP]; exact (Array.getElem?_eq_some_iff.mp ho).1
    have:false∈listed.toList:=by
     unfold mq at HD
     simp only[Array.getD_eq_getD_getElem?,getElem?_pos listed i hlt,Option.getD_some] at HD
     have:listed[i]=false:=by simpa using HD
     rw[←this]
     exact Array.getElem_mem_toList hlt
    have:=List.count_pos_iff.mpr this
    omega
  exact ⟨hr,fin listed l D M tm h own φ a w inv LP hg hr⟩
 | succ fuel ih=>
  intro listed l D M tm h own φ a w hc inv LP hg
  refine ⟨fin listed l D M tm h own φ a w inv LP hg,fun i hi=>?_⟩
  obtain ⟨o,ho,HD,rZ⟩:=zT hi
  have hlt:i<listed.size:=by rw[inv.SP]; exact (Array.getElem?_eq_some_iff.mp ho).1
  have Zb:(listed.setIfInBounds i true).toList.count false≤fuel:=by
   have hfi:listed.toList[i]'(by simpa using hlt)=false:=by
    unfold mq at HD
    simp only[Array.getD_eq_getD_getElem?,getElem?_pos listed i hlt,Option.getD_some] at HD
    simpa using HD
   rw[Array.toList_setIfInBounds,List.count_set (by simpa using hlt),hfi]
   change listed.toList.count false-1+0≤fuel
   omega
  obtain ⟨l',D',cM,h',q8,inv',Zc,hg',hend⟩:=aew hfl hok ho HD rZ l D M tm h own inv LP hg
  by_cases Ux:bit D' i=true
  ·exact inv'.late hok ho Ux HD rZ fun φ' a' w' inv2=>ih _ l' D' M cM h' q8 φ' a' w' Zb inv2 Zc hg'
  ·rcases hend with hend | ⟨hw,js,rfl⟩
   ·exact absurd hend Ux
   obtain ⟨q,hq,fJ,lF⟩:=oN Zc
   rw[ho] at hq; cases hq
   rw[hw] at fJ lF
   simp only at fJ lF
   obtain ⟨k1,k2,k3,k4,k5⟩:=qZ fJ
   unfold iR at hg'
   rw[Array.getElem?_toList,ho] at hg'
   simp only[hw] at hg'
   refine inv'.write hfl hp eW hok ho k1 rZ k4 hw ?_ (k5 hw).2 hg' fun Yb h2 φ2 a2 w2 inv2 hg2=>ih _ js _ _ Yb h2 q8 φ2 a2 w2 Zb inv2 lF hg2
   intro k hk
   rw[Uu,Bool.or_eq_true] at hk
   rcases hk with hk | hk
   ·exact inv'.mS k hk
   ·exact F5 (S:=mq listed) (os:=ops.toList) (fun j q hq hj=>inv'.clo j q (by rw[←Array.getElem?_toList]; exact hq) hj) (by rw[Array.getElem?_toList]; exact ho) rZ k hk
end
theorem q9 (hfl:¬good fl) (hp:gr good pr P) (hm:P.follows .mixedOrders=true):FZ good fl pr P:=by
 intro rec eW ops id nt hok φ tm h a w κ ht hr hg r0 Q hQ
 unfold j8 at hg
 split at hg
 ·contradiction
 split at hg
 ·rename_i l hl
  unfold AS at hl
  split at hl<;>try contradiction
  split at hl<;>try contradiction
  rename_i Uy
  cases hl
  simp only[Bool.and_eq_true] at Uy
  refine wpIn_region_any hm ?_
  have P5:∀i,¬mq (Array.replicate ops.size false) i:=by
   intro i hi
   unfold mq at hi
   simp only[Array.getD_eq_getD_getElem?,Array.getElem?_replicate] at hi
   split at hi<;>simp at hi
  refine P9 (φ0:=φ) (h0:=h) (w0:=w) (ds:=a.defers) (jZ:=tm) hfl hp eW hok ?_ hQ ops.size _ l 0 0 tm h (fun _=>none) φ a { w with drawn:=w.drawn+1 } ?_ ?_ Uy.1 hg
  ·intro i o ho e he
   have:=Uy.2
   rw[List.all_eq_true] at this
   have:=this _ (C5 ho)
   simp only[List.all_eq_true] at this
   exact dy (this e he)
  ·refine Nat.le_trans List.count_le_length (by simp)
  ·have nb:∀k,bit 0 k=true→False:=fun k hb=>by rw[C4] at hb; cases hb
   exact ⟨by simp,fun i hi=>absurd hi (P5 i),fun i o _ hi=>absurd hi (P5 i),fun i o _ hb=>(nb i hb).elim,fun i hb=>(nb i hb).elim,fun i o _ hb=>(nb i hb).elim,
    ht.small,ht.size,fun t hlt _=>ht.rel t hlt,hr.drew,(Ext.refl φ h w).drew,rfl,fun i o _ hb=>(nb i hb).elim,fun _ _ _=>rfl⟩
 ·exact absurd hg hfl
end Go.Vai

namespace Go.Vai
open Go
variable {pr:kF Bool} {P:Program} {w:World}
theorem HR.start (w:World):HR P (fun _=>none) ⟨0,.nil,0⟩ w:=
 ⟨fun _ _ _ _ e=>(by cases e),fun _ _ e=>(by cases e),fun b o _ e=>(by rw[T.get_nil] at e; cases e),by decide,fun _ _ _ _ _ _ _ _ _ _ e=>(by cases e),Nat.le_refl _⟩
def yes (b:Bool):Prop:=b=true
def P_:kF Bool:=⟨fun _=>none,fun a b=>match a with | true=>b | false=>false⟩
theorem Be:gr yes P_ P:=⟨fun x y hxy=>by cases x<;>simp[P_,yes] at hxy ⊢; exact hxy,fun f g hg=>by cases hg⟩
end Go.Vai

namespace Go.Vai
open Go Go.RowKit
variable {P:Program}
theorem VR.mA {φ:dQ} {v:Value} (hv:jt v=true):VR φ v v:=by
 cases v<;>first | exact VR.bool _ | exact VR.int _ _ | exact VR.string _ | cases hv
theorem VR.Qa {φ:dQ} {v v':Value} (hv:jt v=true) (h:VR φ v v'):v'=v:=by
 cases h<;>first | rfl | cases hv
theorem F2.mA {φ:dQ}:∀{l:List Value},l.all jt=true→F2 (VR φ) l l:=by
 intro l
 induction l with
 | nil=>intro _; exact .nil
 | cons v l ih=>
  intro h
  simp only[List.all_cons,Bool.and_eq_true] at h
  exact .cons (VR.mA h.1) (ih h.2)
end Go.Vai

namespace Go.Vai
open Go
def CallW (P:Program) (f:FuncId) (args:List Value) (h:Heap) (κ:KQ):Prop:=
 ∀(φ:dQ) (w:World) (args':List Value),F2 (VR φ) args args'→HR P φ h w→Bb (fun p:Prop=>p) P φ h w κ f args'.toArray
def Cw (P:Program):kF Prop:=⟨fun f=>some (CallW P f),And⟩
def iU:Rec Prop:=fun _ _ _ _=>False
abbrev Uz (i:XI Prop) (tm:T Value) (h:Heap) (κ:KQ):Prop:=
 XI.rec (motive:=fun _=>Prop) (fun f=>f h κ) (fun x f=>f (eY tm x) h κ) (fun x y f=>f (eY tm x) (eY tm y) h κ)
  (fun x y z f=>f (eY tm x) (eY tm y) (eY tm z) h κ) (fun xs f=>f (xs.map (eY tm)) h κ) i
abbrev Zd (i:XA Prop) (tm:T Value) (κ:bQ→(Nat→Value)→Prop):Prop:=
 XA.rec (motive:=fun _=>Prop) (fun f=>f κ) (fun x f=>f (eY tm x) κ) (fun x y f=>f (eY tm x) (eY tm y) κ) (fun xs f=>f (xs.map (eY tm)) κ) i
def jC (P:Program) (fv:Value) (args:List Value) (h:Heap) (κ:KQ):Prop:=zF False (Cw P) P iU fv args h κ
def CallI (P:Program) (name:String) (r:Value) (args:List Value) (h:Heap) (κ:KQ):Prop:=LF False (Cw P) P iU name r args h κ
noncomputable def Bf (P:Program) (c:Call) (tm:T Value) (h:Heap) (κ:KQ):Prop:=
 match c.callee with
 | .value (.func f)=>CallW P f (c.args.toList.map (eY tm)) h κ
 | .value x=>jC P (eY tm x) (c.args.toList.map (eY tm)) h κ
 | .invoke r name=>CallI P name (eY tm r) (c.args.toList.map (eY tm)) h κ
 | .builtin _=>False
noncomputable def kO (P:Program) (op:Op) (tm:T Value) (h:Heap) (κ:KQ):Prop:=
 match nN False P op with
 | some i=>Uz i tm h κ
 | none=>match qA False P op with
  | some i=>Zd i tm fun o mk=>aj False o h fun b h=>κ (mk b) h
  | none=>match zD False P op with
   | some i=>Uz i tm h κ
   | none=>match op with
    | .call c=>Bf P c tm h κ
    | .next it false=>qz False And (eY tm it) h κ
    | _=>False
def ah (v:Value) (w:Bool):Bool:=match v,w with | .bool true,true=>true | .bool false,false=>true | _,_=>false
def ag (b:Bool) (f:(Value→Heap→Prop)→Prop) (h:Heap) (κ:KQ):Prop:=match b with | true=>f κ | false=>κ undef h
noncomputable abbrev Mf (P:Program) (all os:List Oper):T Value→Heap→(T Value→Heap→Prop)→Prop:=
 List.rec (motive:=fun _=>T Value→Heap→(T Value→Heap→Prop)→Prop) (fun tm h κ=>κ tm h)
  (fun o _ ih tm h κ=>Option.rec (motive:=fun _=>Prop) False
   (fun g=>Option.rec (motive:=fun _=>Prop) (kO P o.op tm h fun v h=>ih (i_ tm o.dst v) h κ)
    (fun sw=>ag (ah (dA tm sw.1) sw.2) (fun κ'=>kO P o.op tm h κ') h fun v h=>ih (i_ tm o.dst v) h κ) g) (guardOf all o)) os
def aH (o:Option Value) (h:Heap) (κ:KQ):Prop:=match o with | some v=>κ v h | none=>False
noncomputable def J7 (o:Option (bQ × (Nat→Value))) (h:Heap) (κ:KQ):Prop:=match o with | some (b,mk)=>aj False b h fun n h=>κ (mk n) h | none=>False
def dM (b:Bool) (p:Prop):Prop:=match b with | true=>p | false=>False
noncomputable def gz (o:Option Value) (v:Value):Bool:=match o with | some u=>k9 8 u v | none=>false
def reN (o:Option Value):Bool:=match o with | some _=>true | none=>false
def UA (b r:Bool):Bool:=match b with | true=>r | false=>true
noncomputable def Qb (x:Sz) (tm:T Value) (h:Heap):Option Value:=
 XI.rec (motive:=fun _=>Option Value) (fun f=>f h fun v _=>some v) (fun x f=>f (eY tm x) h fun v _=>some v) (fun x y f=>f (eY tm x) (eY tm y) h fun v _=>some v)
  (fun x y z f=>f (eY tm x) (eY tm y) (eY tm z) h fun v _=>some v) (fun xs f=>f (xs.map (eY tm)) h fun v _=>some v) x
noncomputable def mkW (x:YL) (tm:T Value):Option (bQ × (Nat→Value)):=
 XA.rec (motive:=fun _=>Option (bQ × (Nat→Value))) (fun f=>f fun o mk=>some (o,mk)) (fun x f=>f (eY tm x) fun o mk=>some (o,mk)) (fun x y f=>f (eY tm x) (eY tm y) fun o mk=>some (o,mk)) (fun xs f=>f (xs.map (eY tm)) fun o mk=>some (o,mk)) x
noncomputable def Da (P:Program) (os:List Oper) (D M:Nat) (tm:T Value) (h:Heap):List It→Bool
 | []=>true
 | (k,q)::s_=>match bit D k && !bit M k,gW P q.op with
  | true,.rd x=>(match guardOf os q with
   | some none=>(match q.dst with | some d=>gz (Qb x tm h) (dA tm d) | none=>reN (Qb x tm h))
   | some (some (s,w))=>UA (ah (dA tm s) w) (match q.dst with | some d=>gz (Qb x tm h) (dA tm d) | none=>reN (Qb x tm h))
   | none=>false) && Da P os D M tm h s_
  | _,_=>Da P os D M tm h s_
noncomputable def HG (P:Program) (os:List Oper) (D M:Nat) (o:Oper) (tm:T Value) (h:Heap) (κ:KQ):Prop:=
 match gW P o.op with
 | .rd x=>aH (Qb x tm h) h κ
 | .al x=>J7 (mkW x tm) h κ
 | .wr=>match zI P D M (eZ os 0) with
  | false=>kO P o.op tm h κ
  | true=>kO P o.op tm h fun v h=>dM (Da P os D M (i_ tm o.dst v) h (eZ os 0)) (κ v h)
noncomputable def Db (P:Program) (os:List Oper):List Nat→Nat→Nat→T Value→Heap→(T Value→Heap→Prop)→Prop
 | [],_,_,tm,h,κ=>κ tm h
 | i::is,D,M,tm,h,κ=>match os[i]? with
  | none=>False
  | some o=>match guardOf os o with
   | none=>False
   | some none=>HG P os D (match fV P o with | true=>Nat.lor M (qB os i) | false=>M) o tm h fun v h=>Db P os is (ff D i) (match fV P o with | true=>Nat.lor M (qB os i) | false=>M) (i_ tm o.dst v) h κ
   | some (some (s,w))=>ag (ah (dA tm s) w) (fun κ'=>HG P os D (match fV P o with | true=>Nat.lor M (qB os i) | false=>M) o tm h κ') h fun v h=>Db P os is (ff D i) (match fV P o with | true=>Nat.lor M (qB os i) | false=>M) (i_ tm o.dst v) h κ
noncomputable def Qc (P:Program) (os:List Oper) (draw:Bool) (tm:T Value) (h:Heap) (κ:T Value→Heap→Prop):Prop:=
 match draw with
 | false=>Mf P os os tm h κ
 | true=>match AS P os with
  | some l=>Db P os l 0 0 tm h κ
  | none=>False
def J8 (n:Nat) (l:List Nat):List Nat:=match l.any (Nat.beq n) with | true=>l | false=>n::l
def q_ (l:List Oper):List Nat:=l.foldr (fun o r=>match o.dst with | some d=>J8 d r | none=>r) []
def HH (l m:List Nat):List Nat:=l.foldr J8 m
def rM:Code→List Nat
 | .region _ os _=>q_ os.toList
 | .seq a b | .cond _ a b=>HH (rM a) (rM b)
 | .block _ c | .loop c | .scope c=>rM c
 | _=>[]
def HI (id:Nat):Code→Nat
 | .exit i=>match Nat.beq i id with | true=>1 | false=>0
 | .seq a b | .cond _ a b=>HI id a+HI id b
 | .block _ c | .loop c | .scope c=>HI id c
 | _=>0
def ways:Code→Nat
 | .seq a b=>ways a*ways b
 | .cond _ a b=>ways a+ways b
 | .block id c=>ways c+HI id c
 | .loop _=>0
 | .scope c=>ways c
 | .exit _ | .ret=>0
 | _=>1
def slot (l:List Value) (i:Nat):Value:=l.getD i undef
noncomputable def Mg:Nat→List Nat→List Value→T Value→T Value
 | _,[],_,tm=>tm
 | i,s::ss,l,tm=>Mg (i+1) ss l (tm.aY s (slot l i))
noncomputable def J9 (ss:List Nat) (l:List Value) (tm:T Value):T Value:=Mg 0 ss l tm
abbrev KT:=Ex→T Value→Heap→Prop
abbrev toN (N:List Value→Heap→Prop) (ss:List Nat) (κ:KT):KT:=fun e tm h=>Ex.rec (motive:=fun _=>Prop) (N (ss.map (dA tm)) h) (fun i=>κ (.exit i) tm h) (κ .ret tm h) e
def dD (A:(List Value→Heap→Prop)→Prop) (B:List Value→Heap→Prop):Prop:=
 ∃J:List Value→Heap→Prop,A J∧∀l h,J l h→B l h
def b6 (l0:List Value) (h0:Heap) (body:List Value→Heap→(List Value→Heap→Prop)→Prop):Prop:=
 ∃I:Nat→List Value→Heap→Prop,(∃n,I n l0 h0)∧∀n l h,I n l h→body l h fun l' h'=>∃m,m<n∧I m l' h'
def ay (v:Value) (A B:Prop):Prop:=match v with | .bool true=>A | .bool false=>B | _=>False
abbrev aeA (B:T Value→Heap→KT→Prop) (κ:KT):KT:=fun e tm h=>Ex.rec (motive:=fun _=>Prop) (B tm h κ) (fun i=>κ (.exit i) tm h) (κ .ret tm h) e
abbrev UB (id:Nat) (κ:KT):KT:=fun e tm h=>Ex.rec (motive:=fun _=>Prop) (κ .normal tm h) (fun i=>Bool.rec (motive:=fun _=>Prop) (κ (.exit i) tm h) (κ .normal tm h) (Nat.beq i id)) (κ .ret tm h) e
noncomputable def WP (P:Program):Code→T Value→Heap→KT→Prop
 | .skip,tm,h,κ=>κ .normal tm h
 | .label _,tm,h,κ=>κ .normal tm h
 | .region _ os draw,tm,h,κ=>Qc P os.toList draw tm h fun tm h=>κ .normal tm h
 | .seq a b,tm,h,κ=>match Nat.ble (ways a) 1 with
  | true=>WP P a tm h (aeA (WP P b) κ)
  | false=>dD (fun N=>WP P a tm h (toN N (rM a) κ)) fun l h=>WP P b (J9 (rM a) l tm) h κ
 | .cond c a b,tm,h,κ=>ay (eY tm c) (WP P a tm h κ) (WP P b tm h κ)
 | .block id c,tm,h,κ=>WP P c tm h (UB id κ)
 | .scope c,tm,h,κ=>WP P c tm h κ
 | .loop c,tm,h,κ=>b6 ((rM c).map (dA tm)) h fun l h N=>WP P c (J9 (rM c) l tm) h (toN N (rM c) κ)
 | .exit id,tm,h,κ=>κ (.exit id) tm h
 | .ret,tm,h,κ=>κ .ret tm h
 | _,_,_,_=>False
abbrev J_ (h:Heap) (tm:T Value):List yZ→(List Value→Prop)→Prop:=
 List.rec (motive:=fun _=>(List Value→Prop)→Prop) (fun κ=>κ [])
  (fun r _ ih κ=>yZ.rec (motive:=fun _=>Prop) (fun t=>ih fun vs=>κ (dA tm t::vs)) (fun a=>load1 False (dA tm a) h fun v _=>ih fun vs=>κ (v::vs))
   (fun a s=>aD False s (dA tm a) h fun v _=>ih fun vs=>κ (v::vs)) False r)
abbrev Qd (κ:KQ) (h:Heap) (vs:List Value):Prop:=
 List.rec (motive:=fun _=>Prop) (κ (.tuple #[]) h) (fun v vs' _=>List.rec (motive:=fun _=>Prop) (κ v h) (fun _ _ _=>κ (.tuple ⟨vs⟩) h) vs') vs
abbrev aeB (rs:List yZ) (κ:KQ):KT:=fun e tm h=>Ex.rec (motive:=fun _=>Prop) (J_ h tm rs fun vs=>Qd κ h vs) (fun _=>False) (J_ h tm rs fun vs=>Qd κ h vs) e
noncomputable def aM (P:Program) (f:FuncId) (args:List Value) (h:Heap) (κ:KQ):Prop:=
 match vM P f with
 | .none=>False
 | .mk c rs nt=>match Nat.ble args.length nt with
  | true=>WP P c (lay args .nil 0) h (aeB rs κ)
  | false=>False
variable {P:Program}
theorem HJ (i:XI Prop) (tm:T Value) (h:Heap) (κ:KQ):i.run tm h κ=Uz i tm h κ:=by
 cases i with
 | k0 f=>rfl
 | k1 x f=>exact XI.b_ ..
 | k2 x y f=>exact XI.dm ..
 | k3 x y z f=>exact XI.qT ..
 | kn xs f=>exact XI.g_ ..
theorem Qe (i:XA Prop) (tm:T Value) (κ:bQ→(Nat→Value)→Prop):i.run tm κ=Zd i tm κ:=by
 cases i with
 | k0 f=>rfl
 | k1 x f=>exact XA.b_ ..
 | k2 x y f=>exact XA.dm ..
 | kn xs f=>exact XA.g_ ..
theorem Mh (x:Sz) (tm:T Value) (h:Heap):jV x tm h=Qb x tm h:=by
 unfold jV
 cases x with
 | k0 f=>rfl
 | k1 x f=>exact XI.b_ ..
 | k2 x y f=>exact XI.dm ..
 | k3 x y z f=>exact XI.qT ..
 | kn xs f=>exact XI.g_ ..
theorem UC (x:YL) (tm:T Value):vR x tm=mkW x tm:=by
 unfold vR
 cases x with
 | k0 f=>rfl
 | k1 x f=>exact XA.b_ ..
 | k2 x y f=>exact XA.dm ..
 | kn xs f=>exact XA.g_ ..
theorem F6 (c:Call) (tm:T Value) (h:Heap) (κ:KQ):mF False (Cw P) P c iU tm h κ=Bf P c tm h κ:=by
 unfold mF Bf
 cases c.callee with
 | value x=>cases x<;>(simp only[qS,gf]; rfl)
 | invoke r name=>simp only[qS,gf]; rfl
 | builtin b=>rfl
theorem Bg (op:Op) (tm:T Value) (h:Heap) (κ:KQ):ow False (Cw P) P op iU tm h κ=kO P op tm h κ:=by
 unfold ow kO
 cases hR:nN False P op with
 | some i=>exact HJ ..
 | none=>
  cases hA:qA False P op with
  | some i=>exact Qe ..
  | none=>
   cases hW:zD False P op with
   | some i=>exact HJ ..
   | none=>
    cases op<;>try rfl
    case call c=>exact F6 ..
    case next it s=>cases s<;>first | rfl | (simp only[gf]; rfl)
theorem ri (tm:T Value) (s:Nat) (w:Bool):iG tm (some (s,w))=ah (dA tm s) w:=rfl
theorem UD (f:(Value→Heap→Prop)→Prop) (tm:T Value) (h:Heap) (s:Nat) (w:Bool) (d:Option Nat) (k:T Value→Heap→Prop) :
  ag (ah (dA tm s) w) f h (fun v h=>k (i_ tm d v) h)=Bool.rec (motive:=fun _=>Prop) (nY tm d undef h k) (f fun v h=>nY tm d v h k) (iG tm (some (s,w))):=by
 rw[ri]
 cases ah (dA tm s) w with
 | true=>show f _=f _; simp only[gj]
 | false=>show k _ h=nY tm d undef h k; rw[gj]
theorem Qf (all:List Oper):∀(os:List Oper) (tm:T Value) (h:Heap) (κ:T Value→Heap→Prop),Mf P all os tm h κ=ni False (Cw P) P iU all os tm h κ:=by
 intro os
 induction os with
 | nil=>intro tm h κ; rfl
 | cons o os ih=>
  intro tm h κ
  have ih':(fun tm h=>Mf P all os tm h κ)=fun tm h=>ni False (Cw P) P iU all os tm h κ:=by funext tm h; exact ih tm h κ
  show Option.rec (motive:=fun _=>Prop) False (fun g=>Option.rec (motive:=fun _=>Prop) (kO P o.op tm h fun v h=>(fun tm h=>Mf P all os tm h κ) (i_ tm o.dst v) h)
    (fun sw=>ag (ah (dA tm sw.1) sw.2) (fun κ'=>kO P o.op tm h κ') h fun v h=>(fun tm h=>Mf P all os tm h κ) (i_ tm o.dst v) h) g) (guardOf all o)=XO.rec (motive:=fun _=>Prop)
   (fun g d f=>Bool.rec (motive:=fun _=>Prop) (nY tm d undef h fun tm h=>ni False (Cw P) P iU all os tm h κ)
    (f iU tm h fun v h=>nY tm d v h fun tm h=>ni False (Cw P) P iU all os tm h κ) (iG tm g)) (zG False (Cw P) P all o)
  rw[ih']
  unfold zG
  cases guardOf all o with
  | none=>rfl
  | some g=>
   cases g with
   | none=>
    show kO P o.op tm h _=ow False (Cw P) P o.op iU tm h fun v h=>nY tm o.dst v h _
    simp only[gj]; rw[Bg]
   | some sw=>
    obtain ⟨s,w⟩:=sw
    show ag (ah (dA tm s) w) (fun κ'=>kO P o.op tm h κ') h _=Bool.rec (motive:=fun _=>Prop) _ (ow False (Cw P) P o.op iU tm h _) _
    refine (UD (fun κ'=>kO P o.op tm h κ') tm h s w o.dst fun tm h=>ni False (Cw P) P iU all os tm h κ).trans ?_
    simp only[Bg]
theorem Mi (os:List Oper) (D M:Nat) (tm:T Value) (h:Heap):∀s_:List It,Da P os D M tm h s_=ug P os D M tm h s_:=by
 intro s_
 induction s_ with
 | nil=>rfl
 | cons it s_ ih=>
  obtain ⟨k,q⟩:=it
  unfold Da ug
  cases bit D k && !bit M k with
  | false=>exact ih
  | true=>
   cases gW P q.op with
   | rd x=>
    simp only[ih,Mh]
    congr 1
    cases guardOf os q with
    | none=>rfl
    | some g=>
     cases g with
     | none=>
      cases Qb x tm h<;>cases q.dst<;>rfl
     | some sw=>
      obtain ⟨s,w⟩:=sw
      simp only[ri]
      cases ah (dA tm s) w
      ·rfl
      ·cases Qb x tm h<;>cases q.dst<;>rfl
   | al x=>exact ih
   | wr=>exact ih
theorem F7 (os:List Oper) (D M:Nat) (o:Oper) (tm:T Value) (h:Heap) (k:T Value→Heap→Prop) :
  HG P os D M o tm h (fun v h=>k (i_ tm o.dst v) h)=(match gW P o.op with
   | .rd x=>match jV x tm h with
    | some v=>nY tm o.dst v h k
    | none=>False
   | .al x=>match vR x tm with
    | some (b,mk)=>aj False b h fun n h=>nY tm o.dst (mk n) h k
    | none=>False
   | .wr=>ow False (Cw P) P o.op iU tm h fun v h=>nY tm o.dst v h fun tm h=>
     match zI P D M (eZ os 0) with
     | false=>k tm h
     | true=>match ug P os D M tm h (eZ os 0) with
      | true=>k tm h
      | false=>False):=by
 unfold HG
 cases gW P o.op with
 | rd x=>
  simp only[Mh,gj]
  cases Qb x tm h<;>rfl
 | al x=>
  simp only[UC,gj]
  cases mkW x tm<;>rfl
 | wr=>
  simp only[gj,Bg]
  cases zI P D M (eZ os 0) with
  | false=>rfl
  | true=>simp only[Mi]; rfl
theorem Mj (os:List Oper):∀(l:List Nat) (D M:Nat) (tm:T Value) (h:Heap) (κ:T Value→Heap→Prop),Db P os l D M tm h κ=iR False (Cw P) P iU os l D M tm h κ:=by
 intro l
 induction l with
 | nil=>intro D M tm h κ; rfl
 | cons i is ih=>
  intro D M tm h κ
  unfold Db iR
  cases os[i]? with
  | none=>rfl
  | some o=>
   simp only[ih]
   cases hg:guardOf os o with
   | none=>simp only[jw,hg]
   | some g=>
    have hk:=fun M'=>F7 (P:=P) os D M' o tm h fun tm h=>iR False (Cw P) P iU os is (ff D i) M' tm h κ
    cases g with
    | none=>
     refine (hk _).trans ?_
     simp only[jw,hg]; rfl
    | some sw=>
     obtain ⟨s,w⟩:=sw
     simp only[jw,hg,ri]
     cases ah (dA tm s) w with
     | true=>exact hk _
     | false=>simp only[gj]; rfl
theorem Qg (os:List Oper) (draw:Bool) (tm:T Value) (h:Heap) (κ:T Value→Heap→Prop):Qc P os draw tm h κ=j8 False (Cw P) P iU os draw tm h κ:=by
 cases draw with
 | false=>exact Qf os os tm h κ
 | true=>
  unfold Qc j8
  cases AS P os with
  | none=>rfl
  | some l=>exact Mj os l 0 0 tm h κ
end Go.Vai

namespace Go.Vai
open Go
variable {P:Program} {φ:dQ} {h:Heap} {w:World}
abbrev ok (p:Prop):Prop:=p
theorem wF:¬ok False:=id
theorem Mk:gr ok (Cw P) P:=
 ⟨fun _ _ h=>h,fun f g hg args args' h φ w κ ha hr hgd=>by cases hg; exact hgd φ w args' ha hr⟩
theorem Dc:kM ok P iU:=by
 intro c r tm h κ φ w nt a _ _ _ _ hg
 exact False.elim hg
def F8 (ss:List Nat) (nt:Nat) (tm cM:T Value):Prop:=∀t,t<nt→t∉ss→dA cM t=dA tm t
def qH (P:Program) (nt:Nat) (φ:dQ) (h:Heap) (w:World) (ds:List Deferred) (κ:KT) (ss:List Nat) (tm:T Value) (e:Exit) (a':Act) (w':World):Prop:=
 ∃x cM h' φ',e=L7 x∧κ x cM h'∧TR φ' nt cM a'∧HR P φ' h' w'∧Ext φ φ' h h' w w'∧a'.defers=ds∧F8 ss nt tm cM
theorem qH.after {nt:Nat} {φ1:dQ} {h1:Heap} {w1:World} {ds ds1:List Deferred} {κ:KT} {ss ss1 ss2:List Nat} {tm Y1 Ze:T Value} {e:Exit} {a2:Act} {w2:World} (hx:Ext φ φ1 h h1 w w1)
  (hd:ds1=ds) (hk:F8 ss1 nt tm Y1) (hk':∀t,t<nt→dA Ze t=dA Y1 t) (hs:∀t,t∉ss→t∉ss1∧t∉ss2) (hp:qH P nt φ1 h1 w1 ds1 κ ss2 Ze e a2 w2):qH P nt φ h w ds κ ss tm e a2 w2:=by
 obtain ⟨x,Yb,h2,φ2,rfl,k1,k2,k3,k4,k5,k6⟩:=hp
 exact ⟨x,Yb,h2,φ2,rfl,k1,k2,k3,hx.trans k4,k5.trans hd,fun t ht hn=>(k6 t ht (hs t hn).2).trans ((hk' t ht).trans (hk t ht (hs t hn).1))⟩
theorem Dd {n t:Nat} {l:List Nat}:t∈J8 n l↔t=n∨t∈l:=by
 unfold J8
 split
 ·rename_i h
  obtain ⟨x,hx,he⟩:=List.any_eq_true.mp h
  have:=cT he
  subst this
  constructor
  ·exact .inr
  ·rintro (rfl | h')<;>assumption
 ·simp
theorem pU {t:Nat} {l m:List Nat}:t∈HH l m↔t∈l∨t∈m:=by
 induction l with
 | nil=>simp[HH]
 | cons a l ih=>
  show t∈J8 a (HH l m)↔_
  rw[Dd,ih]; simp[or_assoc]
theorem wG {t:Nat}:∀{l:List Oper},t∈q_ l↔∃o∈l,o.dst=some t:=by
 intro l
 induction l with
 | nil=>simp[q_]
 | cons o l ih=>
  have:q_ (o::l)=match o.dst with | some d=>J8 d (q_ l) | none=>q_ l:=rfl
  rw[this]
  cases hd:o.dst with
  | none=>simp only[ih]; constructor
          ·rintro ⟨q,hq,e⟩; exact ⟨q,.tail _ hq,e⟩
          ·rintro ⟨q,hq,e⟩
           cases hq with
           | head=>rw[hd] at e; cases e
           | tail _ hq=>exact ⟨q,hq,e⟩
  | some d=>
   simp only[Dd,ih]
   constructor
   ·rintro (rfl | ⟨q,hq,e⟩)
    ·exact ⟨o,.head _,hd⟩
    ·exact ⟨q,.tail _ hq,e⟩
   ·rintro ⟨q,hq,e⟩
    cases hq with
    | head=>rw[hd] at e; cases e; exact .inl rfl
    | tail _ hq=>exact .inr ⟨q,hq,e⟩
theorem Ml {nt:Nat}:∀(ss:List Nat) (pre:List Value) (f:Nat→Value) (tm:T Value) (t:Nat),(∀s∈ss,s<nt)→t<nt→dA (Mg pre.length ss (pre++ss.map f) tm) t=if t∈ss then f t else dA tm t:=by
 intro ss
 induction ss with
 | nil=>intro pre f tm t _ _; simp[Mg]
 | cons s ss ih=>
  intro pre f tm t hs ht
  simp only[List.map_cons,Mg]
  have HA:slot (pre++f s::ss.map f) pre.length=f s:=by simp[slot]
  rw[HA]
  have hih:=ih (pre++[f s]) f (tm.aY s (f s)) t (fun s hs'=>hs s (.tail _ hs')) ht
  simp only[List.length_append,List.length_cons,List.length_nil,List.append_assoc,List.cons_append,List.nil_append,Nat.zero_add] at hih
  rw[hih]
  by_cases h1:t∈ss
  ·rw[if_pos h1,if_pos (.tail _ h1)]
  ·rw[if_neg h1]
   have h2:dA (tm.aY s (f s)) t=if s=t then f s else dA tm t:=by
    simp only[dA]
    rw[T.lD _ _ (Nat.lt_succ_self _) (Nat.lt_succ_self _)]
    by_cases hst:s=t
    ·rw[if_pos hst,if_pos hst]
    ·rw[if_neg hst,if_neg hst]
   rw[h2]
   by_cases h3:s=t
   ·subst h3; rw[if_pos rfl,if_pos (.head _)]
   ·rw[if_neg h3,if_neg (by simp[h1,Ne.symm h3])]
theorem Mm {nt:Nat} (ss:List Nat) (f:Nat→Value) (tm:T Value) (t:Nat) (hs:∀s∈ss,s<nt) (ht:t<nt):dA (J9 ss (ss.map f) tm) t=if t∈ss then f t else dA tm t:=
 Ml ss [] f tm t hs ht
theorem tE {nt:Nat} {ss:List Nat} {tm cM:T Value} (hs:∀s∈ss,s<nt) (hk:F8 ss nt tm cM):∀t,t<nt→dA (J9 ss (ss.map (dA cM)) tm) t=dA cM t:=by
 intro t ht
 rw[Mm ss _ _ t hs ht]
 split
 ·rfl
 ·rename_i h; exact (hk t ht h).symm
theorem TR.SR {nt:Nat} {ss:List Nat} {tm cM:T Value} {a:Act} (hs:∀s∈ss,s<nt) (hk:F8 ss nt tm cM) (ht:TR φ nt cM a):TR φ nt (J9 ss (ss.map (dA cM)) tm) a:=
 ⟨ht.size,ht.small,fun t hlt=>by rw[tE hs hk t hlt]; exact ht.rel t hlt⟩
theorem Mn {nt:Nat}:∀{c:Code},codeOk nt c=true→∀s∈rM c,s<nt:=by
 intro c
 induction c with
 | region id os d=>
  intro hc s hs
  simp only[codeOk,List.all_eq_true] at hc
  obtain ⟨o,ho,he⟩:=wG.mp hs
  have:=dz (hc o ho)
  rw[he] at this
  exact dy this
 | seq a b YN YO=>
  intro hc s hs
  simp only[codeOk,Bool.and_eq_true] at hc
  rcases pU.mp hs with h | h
  ·exact YN hc.1 s h
  ·exact YO hc.2 s h
 | cond x a b YN YO=>
  intro hc s hs
  simp only[codeOk,Bool.and_eq_true] at hc
  rcases pU.mp hs with h | h
  ·exact YN hc.1.2 s h
  ·exact YO hc.2 s h
 | block id c ih=>intro hc s hs; exact ih hc s hs
 | loop c ih=>intro hc s hs; exact ih hc s hs
 | scope c ih=>intro hc s hs; exact ih hc s hs
 | _=>intro _ s hs; simp[rM] at hs
theorem F9 {os:Array Oper} {t:Nat} (h:t∉q_ os.toList):∀(i:Nat) (o:Oper),os[i]? = some o→o.dst≠some t:=by
 intro i o ho hd
 exact h (wG.mpr ⟨o,List.mem_of_getElem? (by rw[Array.getElem?_toList]; exact ho),hd⟩)
theorem F_ {c:Code} {r:Option Nat} {nt:Nat} {κ:KT} {jZ:T Value} (hn:r=none∨ou c=true) (hc:codeOk nt c=true)
  (ih:∀(tm:T Value) (h:Heap) (κ:KT) (φ:dQ) (w:World) (a:Act),TR φ nt tm a→HR P φ h w→WP P c tm h κ→c.wpIn (FR r) 0 P (qH P nt φ h w a.defers κ (rM c) tm) a w)
  (I:Nat→List Value→Heap→Prop) (hI:∀n l h,I n l h→WP P c (J9 (rM c) l jZ) h (toN (fun l' h'=>∃m,m<n∧I m l' h') (rM c) κ)) :
  ∀(n:Nat) (tm:T Value) (h:Heap) (φ:dQ) (w:World) (a:Act),F8 (rM c) nt jZ tm→TR φ nt tm a→HR P φ h w→I n ((rM c).map (dA tm)) h→jS r P c (qH P nt φ h w a.defers κ (rM c) tm) a w:=by
 intro n
 induction n using Nat.strongRecOn with
 | ind n ihn=>
  intro tm h φ w a hk ht hr hi
  have hs:=Mn hc
  refine jS.round (wpIn_mono (ih _ h _ φ w a (ht.SR hs hk) hr (hI n _ h hi)) ?_)
  rintro e a' w' ⟨x,cM,h',φ',rfl,g1,g2,g3,g4,g5,g6⟩
  have hkeep:F8 (rM c) nt tm cM:=fun t htn hnt=>(g6 t htn hnt).trans (tE hs hk t htn)
  cases x with
  | normal=>
   obtain ⟨m,hm,hi'⟩:=g1
   have hk2:F8 (rM c) nt jZ cM:=fun t htn hnt=>(hkeep t htn hnt).trans (hk t htn hnt)
   exact (ihn m hm cM h' φ' w' a' hk2 g2 g3 hi').mono fun e a2 w2 hp=>qH.after g4 g5 hkeep (fun _ _=>rfl) (fun t ht=>⟨ht,ht⟩) hp
  | exit i=>exact ⟨.exit i,cM,h',φ',rfl,g1,g2,g3,g4,g5,hkeep⟩
  | ret=>exact ⟨.ret,cM,h',φ',rfl,g1,g2,g3,g4,g5,hkeep⟩
theorem Mo (hm:P.follows .mixedOrders=true):∀(c:Code) (r:Option Nat) (nt:Nat),(r=none∨ou c=true)→codeOk nt c=true→∀(tm:T Value) (h:Heap) (κ:KT) (φ:dQ) (w:World) (a:Act),
  TR φ nt tm a→HR P φ h w→WP P c tm h κ→c.wpIn (FR r) 0 P (qH P nt φ h w a.defers κ (rM c) tm) a w:=by
 intro c
 induction c with
 | skip=>intro r nt hn hc tm h κ φ w a ht hr hg; exact wpIn_skip ⟨.normal,tm,h,φ,rfl,hg,ht,hr,Ext.refl _ _ _,rfl,fun _ _ _=>rfl⟩
 | label l=>intro r nt hn hc tm h κ φ w a ht hr hg; exact wpIn_label ⟨.normal,tm,h,φ,rfl,hg,ht,hr,Ext.refl _ _ _,rfl,fun _ _ _=>rfl⟩
 | ret=>intro r nt hn hc tm h κ φ w a ht hr hg; exact wpIn_ret ⟨.ret,tm,h,φ,rfl,hg,ht,hr,Ext.refl _ _ _,rfl,fun _ _ _=>rfl⟩
 | exit id=>intro r nt hn hc tm h κ φ w a ht hr hg; exact wpIn_exit ⟨.exit id,tm,h,φ,rfl,hg,ht,hr,Ext.refl _ _ _,rfl,fun _ _ _=>rfl⟩
 | region id os draw=>
  intro r nt hn hc tm h κ φ w a ht hr hg
  have hok:∀q∈os.toList,eV nt q=true:=by
   simp only[codeOk,List.all_eq_true] at hc; exact hc
  have hg':ok (j8 False (Cw P) P iU os.toList draw tm h fun tm h=>κ .normal tm h):=by
   have:Qc P os.toList draw tm h (fun tm h=>κ .normal tm h):=hg
   rwa [Qg] at this
  have hQ:∀cM h' φ' a' w',ok ((fun tm h=>κ .normal tm h) cM h')→TR φ' nt cM a'→HR P φ' h' w'→Ext φ φ' h h' w w'→a'.defers=a.defers→
    (∀t,t<nt→(∀(i:Nat) (o:Oper),os[i]? = some o→o.dst≠some t)→dA cM t=dA tm t)→qH P nt φ h w a.defers κ (rM (.region id os draw)) tm .normal a' w':=
   fun cM h' φ' a' w' g1 g2 g3 g4 g5 g6=>⟨.normal,cM,h',φ',rfl,g1,g2,g3,g4,g5,fun t ht hnt=>g6 t ht (F9 hnt)⟩
  cases draw with
  | false=>
   refine wpIn_region ?_
   rw[List.range_eq_range']
   have:=rY (r0:=r) (jZ:=tm) wF Mk Dc hok hQ os.toList 0 φ tm h a w (fun k=>by simp) ht hr (Ext.refl _ _ _) rfl (fun _ _ _=>rfl) hg'
   simpa using this
  | true=>exact q9 (good:=ok) wF Mk hm iU Dc os id nt hok φ tm h a w _ ht hr hg' r _ hQ
 | seq x y ihx ihy=>
  intro r nt hn hc tm h κ φ w a ht hr hg
  simp only[codeOk,Bool.and_eq_true] at hc
  obtain ⟨y_,hn2⟩:=vf (x:=x) (y:=y) hn rfl
  have hmem:∀t,t∉rM (.seq x y)→t∉rM x∧t∉rM y:=fun t ht=>by
   have:¬(t∈rM x∨t∈rM y):=fun hh=>ht (pU.mpr hh)
   exact not_or.mp this
  unfold WP at hg
  split at hg
  ·refine wpIn_seq (wpIn_mono (ihx r nt y_ hc.1 tm h _ φ w a ht hr hg) ?_)
   rintro e a' w' ⟨e0,cM,h',φ',rfl,g1,g2,g3,g4,g5,g6⟩
   cases e0 with
   | normal=>exact wpIn_mono (ihy r nt hn2 hc.2 cM h' κ φ' w' a' g2 g3 g1) fun e a2 w2 hp=>qH.after g4 g5 g6 (fun _ _=>rfl) hmem hp
   | exit i=>exact ⟨.exit i,cM,h',φ',rfl,g1,g2,g3,g4,g5,fun t ht hnt=>g6 t ht (hmem t hnt).1⟩
   | ret=>exact ⟨.ret,cM,h',φ',rfl,g1,g2,g3,g4,g5,fun t ht hnt=>g6 t ht (hmem t hnt).1⟩
  ·obtain ⟨J,hA,hB⟩:=hg
   refine wpIn_seq (wpIn_mono (ihx r nt y_ hc.1 tm h _ φ w a ht hr hA) ?_)
   rintro e a' w' ⟨e0,cM,h',φ',rfl,g1,g2,g3,g4,g5,g6⟩
   have hs:=Mn hc.1
   cases e0 with
   | normal=>exact wpIn_mono (ihy r nt hn2 hc.2 _ h' κ φ' w' a' (g2.SR hs g6) g3 (hB _ _ g1)) fun e a2 w2 hp=>qH.after g4 g5 g6 (tE hs g6) hmem hp
   | exit i=>exact ⟨.exit i,cM,h',φ',rfl,g1,g2,g3,g4,g5,fun t ht hnt=>g6 t ht (hmem t hnt).1⟩
   | ret=>exact ⟨.ret,cM,h',φ',rfl,g1,g2,g3,g4,g5,fun t ht hnt=>g6 t ht (hmem t hnt).1⟩
 | cond x c1 c2 ih1 ih2=>
  intro r nt hn hc tm h κ φ w a ht hr hg
  simp only[codeOk,Bool.and_eq_true] at hc
  obtain ⟨y_,hn2⟩:=vf (x:=c1) (y:=c2) hn rfl
  have hmem:∀t,t∉rM (.cond x c1 c2)→t∉rM c1∧t∉rM c2:=fun t ht=>by
   have:¬(t∈rM c1∨t∈rM c2):=fun hh=>ht (pU.mpr hh)
   exact not_or.mp this
  have hg':ay (eY tm x) (WP P c1 tm h κ) (WP P c2 tm h κ):=hg
  have hx:=ht.eval hc.1.1
  unfold ay at hg'
  split at hg'<;>try exact hg'.elim
  ·rename_i hv
   rw[hv] at hx
   refine wpIn_cond_true (by generalize a.eval x=z at hx; cases hx; rfl) (wpIn_mono (ih1 r nt y_ hc.1.2 tm h κ φ w a ht hr hg') ?_)
   rintro e a' w' ⟨e0,cM,h',φ',rfl,g1,g2,g3,g4,g5,g6⟩
   exact ⟨e0,cM,h',φ',rfl,g1,g2,g3,g4,g5,fun t ht hnt=>g6 t ht (hmem t hnt).1⟩
  ·rename_i hv
   rw[hv] at hx
   refine wpIn_cond_false (by generalize a.eval x=z at hx; cases hx; rfl) (wpIn_mono (ih2 r nt hn2 hc.2 tm h κ φ w a ht hr hg') ?_)
   rintro e a' w' ⟨e0,cM,h',φ',rfl,g1,g2,g3,g4,g5,g6⟩
   exact ⟨e0,cM,h',φ',rfl,g1,g2,g3,g4,g5,fun t ht hnt=>g6 t ht (hmem t hnt).2⟩
 | block id c ih=>
  intro r nt hn hc tm h κ φ w a ht hr hg
  refine wpIn_block (wpIn_mono (ih r nt hn hc tm h _ φ w a ht hr hg) ?_)
  rintro e a' w' ⟨e0,cM,h',φ',rfl,g1,g2,g3,g4,g5,g6⟩
  cases e0 with
  | normal=>exact ⟨.normal,cM,h',φ',rfl,g1,g2,g3,g4,g5,g6⟩
  | ret=>exact ⟨.ret,cM,h',φ',rfl,g1,g2,g3,g4,g5,g6⟩
  | exit i=>
   have X6:Bool.rec (motive:=fun _=>Prop) (κ (.exit i) cM h') (κ .normal cM h') (Nat.beq i id):=g1
   simp only[L7,Exit.inBlock]
   cases hb:Nat.beq i id with
   | true=>
    rw[hb] at X6
    rw[if_pos (cT hb)]
    exact ⟨.normal,cM,h',φ',rfl,X6,g2,g3,g4,g5,g6⟩
   | false=>
    rw[hb] at X6
    rw[if_neg (oD hb)]
    exact ⟨.exit i,cM,h',φ',rfl,X6,g2,g3,g4,g5,g6⟩
 | scope c ih=>
  intro r nt hn hc tm h κ φ w a ht hr hg
  refine wq (ih r nt hn hc tm h κ φ w a ht hr hg) ?_
  rintro l a' w' ⟨x,cM,h',φ',hx,_⟩
  cases x<;>cases hx
 | loop c ih=>
  intro r nt hn hc tm h κ φ w a ht hr hg
  obtain ⟨I,⟨n,h0⟩,hI⟩:=hg
  exact (F_ (c:=c) (κ:=κ) (jZ:=tm) hn hc (fun tm h κ φ w a=>ih r nt hn hc tm h κ φ w a) I hI n tm h φ w a (fun _ _ _=>rfl) ht hr h0).wp
 | _=>intro r nt hn hc tm h κ φ w a ht hr hg; exact False.elim hg
theorem Qh (h:Heap) (tm:T Value):∀(rs:List yZ) (κ:List Value→Prop),J_ h tm rs κ=dL False h tm rs κ:=by
 intro rs
 induction rs with
 | nil=>intro κ; rfl
 | cons r rs ih=>
  intro κ
  cases r with
  | tmp t=>simp only[dL,gf]; exact ih _
  | one a=>simp only[dL,gf]; show load1 False (dA tm a) h (fun v _=>J_ h tm rs fun vs=>κ (v::vs))=_; simp only[ih]; rfl
  | agg a s=>simp only[dL,gf]; show aD False s (dA tm a) h (fun v _=>J_ h tm rs fun vs=>κ (v::vs))=_; simp only[ih]; rfl
  | bad=>rfl
theorem Qi (κ:KQ) (h:Heap) (vs:List Value):Qd κ h vs=LD κ h vs:=by
 cases vs with
 | nil=>rfl
 | cons v vs=>cases vs<;>rfl
theorem an (hm:P.follows .mixedOrders=true) {f:FuncId} {args:List Value} {h:Heap} {κ:Value→Heap→Prop} (hg:aM P f args h κ):CallW P f args h κ:=by
 intro φ w args' ha hr
 unfold aM at hg
 split at hg
 ·exact hg.elim
 ·rename_i c rs nt hc
  obtain ⟨fn,hf,hb,rfl,rfl,Cr,hrk,hnt,wj⟩:=rW hc
  split at hg<;>try exact hg.elim
  rename_i hle
  refine ⟨wj _ _,?_⟩
  have hst:=TR.start (nt:=fn.ntmps) ha hnt (c_ hle)
  refine ve (r:=none) (n:=0) |>.1 (callsIn_of_wp_marks hf hb trivial (wpIn_mono (Mo hm c none _ (.inl rfl) Cr _ h _ φ w _ hst hr hg) ?_))
  rintro e a' w' ⟨x,cM,h',φ',rfl,g1,g2,g3,g4,g5,_⟩
  have PB:a'.defers=[]:=g5
  have fin:J_ h' cM (fn.results.toList.map (uf P)) (fun vs=>Qd κ h' vs)→
    LeavesInM (FR none) 0 P fn a'.tmps (fun e w'=>∃φ' v v' h',e=.returned v'∧ok (κ v h')∧VR φ' v v'∧HR P φ' h' w'∧Ext φ φ' h h' w w') a'.defers .returning w':=by
   intro k
   rw[Qh] at k
   simp only[Qi] at k
   rw[PB]
   refine oI (a:=a') (φ':=φ') (h':=h') ?_ [] w'.heap.size w' trivial g3 g4
   intro w2 HB hx2
   obtain ⟨vs,vs',k1,k2,k3⟩:=oH (good:=ok) wF HB g2 _ hrk k
   refine ⟨_,rV k3,?_⟩
   cases k2 with
   | nil=>exact ⟨φ',_,_,h',rfl,k1,VR.tuple' .nil,HB,hx2⟩
   | cons hv hvs=>
    cases hvs with
    | nil=>exact ⟨φ',_,_,h',rfl,k1,hv,HB,hx2⟩
    | cons Uf hvs=>exact ⟨φ',_,_,h',rfl,k1,VR.tuple' (.cons hv (.cons Uf hvs)),HB,hx2⟩
  cases x with
  | normal=>exact fin g1
  | exit i=>exact False.elim g1
  | ret=>exact fin g1
end Go.Vai

namespace Go.Vai
open Go
variable {β:Type} {fl:β}
theorem T.Ka {α:Type} (a a':α) (p:List Bool):∀t:T α,T.nj a' p (T.nj a p t)=T.nj a' p t:=by
 induction p with
 | nil=>intro t; cases t<;>rfl
 | cons b p ih=>intro t; cases t<;>cases b<;>simp only[T.nj]<;>rw[ih]
theorem T.Kb {α:Type} (a b:α):∀(p q:List Bool) (t:T α),p≠q→T.nj a p (T.nj b q t)=T.nj b q (T.nj a p t):=by
 intro p
 induction p with
 | nil=>
  intro q t hpq
  cases q with
  | nil=>exact absurd rfl hpq
  | cons c q=>cases t<;>cases c<;>rfl
 | cons x p ih=>
  intro q t hpq
  cases q with
  | nil=>cases t<;>cases x<;>rfl
  | cons c q=>
   have h:x=c→p≠q:=fun e e'=>hpq (by rw[e,e'])
   cases x<;>cases c<;>cases t<;>simp only[T.nj]<;>first | rfl | rw[ih _ _ (h rfl)]
theorem UE {a b:Nat} (h:a≠b):key a≠key b:=fun e=>h (key_inj (Nat.lt_succ_self _) (Nat.lt_succ_self _) e)
theorem T.wH {α:Type} (t:T α) (n:Nat) (a a':α):(t.aY n a).aY n a'=t.aY n a':=T.Ka a a' (key n) t
theorem T.De {α:Type} (t:T α) {n m:Nat} (a b:α) (h:n≠m):(t.aY n a).aY m b=(t.aY m b).aY n a:=(T.Kb a b (key n) (key m) t (UE h)).symm
theorem T.ai {α:Type} (t:T α) {n m:Nat} (a:α) (h:n≠m):(t.aY n a).get m=t.get m:=T.gH t a (Nat.lt_succ_self _) (Nat.lt_succ_self _) h
theorem Ga (vs:List Value):∀(t:T Value) (off n:Nat) (a:Value),n<off→lay vs (t.aY n a) off=(lay vs t off).aY n a:=by
 induction vs with
 | nil=>intro t off n a _; rfl
 | cons v vs ih=>
  intro t off n a h
  simp only[lay]
  rw[T.De t a v (by omega),ih _ _ _ _ (by omega)]
theorem Qj (vs:List Value):∀(t:T Value) (off i:Nat) (a:Value),i<vs.length→(lay vs t off).aY (off+i) a=lay (vs.set i a) t off:=by
 induction vs with
 | nil=>intro t off i a h; simp at h
 | cons v vs ih=>
  intro t off i a h
  cases i with
  | zero=>
   simp only[List.set_cons_zero,lay,Nat.add_zero]
   rw[←Ga vs _ _ _ _ (Nat.lt_succ_self off),T.wH]
  | succ i=>
   simp only[List.set_cons_succ,lay]
   rw[←ih _ _ _ _ (by simpa using h),show off+(i+1)=off+1+i by omega]
def over (vs:List Value) (o:Nat) (ws:List Value):List Value:=vs.take o++ws++vs.drop (o+ws.length)
theorem jD {vs:List Value} {o:Nat} {ws:List Value} (h:o+ws.length≤vs.length):(over vs o ws).length=vs.length:=by
 simp[over]; omega
theorem Df (vs:List Value) (o:Nat):over vs o []=vs:=by simp[over]
theorem Kc (vs:List Value) (o:Nat) (w:Value) (ws:List Value) (h:o<vs.length):over vs o (w::ws)=over (vs.set o w) (o+1) ws:=by
 simp only[over,List.length_cons]
 rw[List.take_succ_eq_append_getElem (by simpa using h)]
 simp only[List.getElem_set_self]
 rw[List.take_set_of_le (Nat.le_refl _),List.drop_set_of_lt (by omega)]
 simp[Nat.add_comm,Nat.add_left_comm]
theorem vg (ws:List Value):∀(vs:List Value) (o:Nat),o+ws.length≤vs.length→lay ws (lay vs .nil 0) o=lay (over vs o ws) .nil 0:=by
 induction ws with
 | nil=>intro vs o _; rw[Df]; rfl
 | cons w ws ih=>
  intro vs o h
  simp only[List.length_cons] at h
  have h1:=Qj vs .nil 0 o w (by omega)
  rw[Nat.zero_add] at h1
  rw[Kc vs o w ws (by omega),←ih _ _ (by simp; omega),←h1]
  rfl
noncomputable def aa (vs:List Value) (e:TypeId) (op:Bool):bQ:=.cells vs.length (lay vs .nil 0) e op
noncomputable def Zf (vs:List Value) (e:TypeId):bQ:=.ro vs.length (lay vs .nil 0) e
theorem Mp (vs:List Value):∀(c:T Value) (off:Nat) (i:Nat),(lay vs c off).get i=if off≤i∧i<off+vs.length then vs[i-off]? else c.get i:=by
 induction vs with
 | nil=>intro c off i; simp[lay]; omega
 | cons v vs ih=>
  intro c off i
  rw[lay,ih]
  by_cases h1:off+1≤i∧i<off+1+vs.length
  ·rw[if_pos h1,if_pos (by simp; omega),show i-off=(i-(off+1))+1 by omega]; simp
  ·rw[if_neg h1]
   by_cases h2:off=i
   ·subst h2; rw[T.af]; simp
   ·rw[T.ai _ _ h2,if_neg (by simp; omega)]
theorem mJ (vs:List Value) (i:Nat):(lay vs .nil 0).get i=vs[i]?:=by
 rw[Mp]
 by_cases h:i<vs.length
 ·rw[if_pos ⟨Nat.zero_le _,by omega⟩,Nat.sub_zero]
 ·rw[if_neg (by omega),T.get_nil]; symm; simp; omega
def Gb (fl:β) (o:Option Value) (κ:Value→β):β:=match o with | some v=>κ v | none=>fl
theorem zU (v:Value) (κ:Value→β):Gb fl (some v) κ=κ v:=id rfl
noncomputable def sV (fl:β) (ob:Option bQ) (o:Nat) (κ:Value→β):β:=match ob with
 | some (.cells n c _ _)=>match Nat.ble (Nat.succ o) n,c.get o with
  | true,some v=>κ v
  | _,_=>fl
 | some (.ro n c _)=>match Nat.ble (Nat.succ o) n,c.get o with
  | true,some v=>κ v
  | _,_=>fl
 | _=>fl
theorem Dg (b o:Nat) (h:Heap) (κ:Value→Heap→β):load1 fl (.pointer (some ⟨b,o,none⟩)) h κ=sV fl (h.bl.get b) o fun v=>κ v h:=by
 unfold load1 sV
 dsimp only
 generalize h.bl.get b=z
 cases z with
 | none=>rfl
 | some ob=>cases ob<;>rfl
theorem pV (vs:List Value) (e:TypeId) (op:Bool) (o:Nat) (κ:Value→β):sV fl (some (aa vs e op)) o κ=Gb fl vs[o]? κ:=by
 unfold sV aa
 simp only[mJ]
 by_cases h:o<vs.length
 ·rw[show Nat.ble (Nat.succ o) vs.length=true from Nat.ble_eq_true_of_le h,List.getElem?_eq_getElem h]; rfl
 ·have:Nat.ble (Nat.succ o) vs.length=false:=by
   cases hb:Nat.ble (Nat.succ o) vs.length with
   | false=>rfl
   | true=>exact absurd (Nat.le_of_ble_eq_true hb) h
  rw[this,List.getElem?_eq_none (by omega)]; rfl
theorem Mq (vs:List Value) (e:TypeId) (o:Nat) (κ:Value→β):sV fl (some (Zf vs e)) o κ=Gb fl vs[o]? κ:=pV vs e false o κ
theorem Gc (vs:List Value) (off:Nat):∀(n:Nat) (acc:List Value) (κ:List Value→β),off+n≤vs.length→ku fl (lay vs .nil 0) off n acc κ=κ ((vs.drop off).take n++acc):=by
 intro n
 induction n with
 | zero=>intro acc κ _; simp; rfl
 | succ n ih=>
  intro acc κ h
  show Option.rec (motive:=fun _=>β) fl (fun v=>ku fl (lay vs .nil 0) off n (v::acc) κ) ((lay vs .nil 0).get (Nat.add off n))=_
  rw[mJ,show Nat.add off n=off+n from rfl,List.getElem?_eq_getElem (by omega)]
  show ku fl (lay vs .nil 0) off n (vs[off+n]::acc) κ=_
  rw[ih _ _ (by omega),List.take_succ_eq_append_getElem (by simp; omega)]
  simp
noncomputable def zi (fl:β) (ob:Option bQ) (o s:Nat) (κ:List Value→β):β:=match ob with
 | some (.cells n c _ _)=>match Nat.ble (Nat.add o s) n with
  | true=>ku fl c o s [] κ
  | false=>fl
 | some (.ro n c _)=>match Nat.ble (Nat.add o s) n with
  | true=>ku fl c o s [] κ
  | false=>fl
 | _=>fl
theorem Dh (s b o:Nat) (h:Heap) (κ:Value→Heap→β):aD fl s (.pointer (some ⟨b,o,none⟩)) h κ=zi fl (h.bl.get b) o s fun l=>κ (.agg ⟨l⟩) h:=by
 unfold aD zi
 dsimp only
 generalize h.bl.get b=z
 cases z with
 | none=>rfl
 | some ob=>cases ob<;>rfl
theorem tF (vs:List Value) (e:TypeId) (op:Bool) (o s:Nat) (κ:List Value→β) (h:o+s≤vs.length):zi fl (some (aa vs e op)) o s κ=κ ((vs.drop o).take s):=by
 unfold zi aa
 simp only
 rw[show Nat.ble (Nat.add o s) vs.length=true from Nat.ble_eq_true_of_le h]
 simp only
 rw[Gc _ _ _ _ _ h,List.append_nil]
theorem Mr (vs:List Value) (e:TypeId) (o s:Nat) (κ:List Value→β) (h:o+s≤vs.length):zi fl (some (Zf vs e)) o s κ=κ ((vs.drop o).take s):=tF vs e false o s κ h
theorem dV (o:bQ) (h:Heap) (κ:Nat→Heap→β):aj fl o h κ=κ h.nx ⟨h.nx+1,h.bl.aY h.nx o,h.lo⟩:=by
 unfold aj; rw[T.fW,bS]
theorem bU (b:Nat) (o:bQ) (h:Heap) (κ:Heap→β) (hlo:h.lo≤b):setBlock fl b o h κ=κ ⟨h.nx,h.bl.aY b o,h.lo⟩:=by
 unfold setBlock; rw[Nat.ble_eq_true_of_le hlo,T.fW]
theorem jf (vs:List Value) (e:TypeId) (op:Bool) (κ:bQ→β) (hl:vs.length≤1000000000000):ax fl vs e op κ=κ (aa vs e op):=by
 unfold ax; rw[u9]
 simp only[Nat.zero_add]
 rw[Nat.ble_eq_true_of_le hl]; rfl
theorem pW (n:Nat):∀(ws:List Value) (c:T Value) (o:Nat) (κ:T Value→β),o+ws.length≤n→(ws.all ew)=true→lU fl n ws c o κ=κ (lay ws c o):=by
 intro ws
 induction ws with
 | nil=>intro c o κ _ _; rfl
 | cons v ws ih=>
  intro c o κ h1 h2
  simp only[List.all_cons,Bool.and_eq_true,List.length_cons] at h1 h2
  show Bool.rec (motive:=fun _=>β) fl (Bool.rec (motive:=fun _=>β) fl (T.set c o v fun c=>lU fl n ws c (Nat.succ o) κ) (Nat.ble (Nat.succ o) n)) (ew v)=_
  rw[h2.1,Nat.ble_eq_true_of_le (by omega)]
  simp only[T.fW]
  rw[ih _ _ _ (by omega) h2.2]; rfl
noncomputable def Qk (fl:β) (ob:Option bQ) (s b o:Nat) (ws:List Value) (h:Heap) (κ:Heap→β):β:=match ob with
 | some (.cells n c e op)=>match Nat.beq ws.length s with
  | true=>lU fl n ws c o fun c=>setBlock fl b (.cells n c e op) h κ
  | false=>fl
 | _=>fl
theorem zV (s b o:Nat) (v:Value) (h:Heap) (κ:Value→Heap→β):aI fl s (.pointer (some ⟨b,o,none⟩)) v h κ=Qk fl (h.bl.get b) s b o v.cells.toList h fun h=>κ undef h:=by
 unfold aI Qk
 dsimp only
 generalize h.bl.get b=z
 cases z with
 | none=>rfl
 | some ob=>cases ob<;>rfl
theorem tG (vs:List Value) (e:TypeId) (op:Bool) (s b o:Nat) (ws:List Value) (h:Heap) (κ:Heap→β) (h1:ws.length=s) (h2:ws.all ew=true) (h3:o+s≤vs.length) (hlo:h.lo≤b) :
  Qk fl (some (aa vs e op)) s b o ws h κ=κ ⟨h.nx,h.bl.aY b (aa (over vs o ws) e op),h.lo⟩:=by
 subst h1
 unfold Qk aa
 simp only
 rw[show Nat.beq ws.length ws.length=true from Nat.beq_refl _]
 simp only
 rw[pW _ _ _ _ _ h3 h2,bU _ _ _ _ hlo,vg _ _ _ h3,jD h3]
theorem Di (v:Value) (h:Heap) (κ:KQ):aH (some v) h κ=κ v h:=id rfl
theorem wI (o:bQ) (mk:Nat→Value) (h:Heap) (κ:KQ):J7 (some (o,mk)) h κ=κ (mk h.nx) ⟨h.nx+1,h.bl.aY h.nx o,h.lo⟩:=by
 show aj False o h (fun n h=>κ (mk n) h)=_; rw[dV]
theorem wJ (p:Prop):dM true p=p:=id rfl
theorem wK (b:Bool):ah (.bool b) true=b:=by cases b<;>exact id rfl
theorem uw (b:Bool):ah (.bool b) false=!b:=by cases b<;>exact id rfl
theorem ux (f:(Value→Heap→Prop)→Prop) (h:Heap) (κ:KQ):ag true f h κ=f κ:=id rfl
theorem r4 (f:(Value→Heap→Prop)→Prop) (h:Heap) (κ:KQ):ag false f h κ=κ undef h:=id rfl
theorem wL (A B:Prop):ay (.bool true) A B=A:=id rfl
theorem uy (A B:Prop):ay (.bool false) A B=B:=id rfl
theorem HK (n:Int) (h : -9223372036854775808≤n∧n≤9223372036854775807):IntKind.i64.wrap n=n:=IntWalk.i64_in _ h
theorem HL (P:Program) (t:TypeId) (cn gd:Bool) (a b:Int) (h:Heap) (κ:Value→Heap→β):au fl P .add t cn gd (.int .i64 a) (.int .i64 b) h κ=κ (.int .i64 (IntKind.i64.wrap (a+b))) h:=by
 simp only[au,iy,mC,gZ,dZ]; rfl
theorem HM (P:Program) (t:TypeId) (cn gd:Bool) (a b:Int) (h:Heap) (κ:Value→Heap→β):au fl P .sub t cn gd (.int .i64 a) (.int .i64 b) h κ=κ (.int .i64 (IntKind.i64.wrap (a-b))) h:=by
 simp only[au,iy,mC,gZ,dZ]; rfl
theorem HO (P:Program) (t:TypeId) (cn gd:Bool) (a b:Int) (h:Heap) (κ:Value→Heap→β):au fl P .mul t cn gd (.int .i64 a) (.int .i64 b) h κ=κ (.int .i64 (IntKind.i64.wrap (a*b))) h:=by
 simp only[au,iy,mC,gZ,dZ]; rfl
theorem HS (P:Program) (t:TypeId) (cn gd:Bool) (a b:Int) (h:Heap) (κ:Value→Heap→β) (hb:b≠0):au fl P .quo t cn gd (.int .i64 a) (.int .i64 b) h κ=κ (.int .i64 (IntKind.i64.wrap (Int.tdiv a b))) h:=by
 simp only[au,iy,mC,gZ,dZ,ga,hb,decide_false]
theorem HT (P:Program) (t:TypeId) (cn gd:Bool) (k:IntKind) (a b:Int) (h:Heap) (κ:Value→Heap→β):au fl P .eql t cn gd (.int k a) (.int k b) h κ=κ (.bool (decide (a=b))) h:=by
 simp only[au,fR,decide_true,mC,bV,ga]
theorem HU (P:Program) (t:TypeId) (cn gd:Bool) (k:IntKind) (a b:Int) (h:Heap) (κ:Value→Heap→β):au fl P .neq t cn gd (.int k a) (.int k b) h κ=κ (.bool (!decide (a=b))) h:=by
 simp only[au,fR,decide_true,mC,bV,ga]
theorem HV (P:Program) (t:TypeId) (cn gd:Bool) (k:IntKind) (a b:Int) (h:Heap) (κ:Value→Heap→β):au fl P .lss t cn gd (.int k a) (.int k b) h κ=κ (.bool (decide (a<b))) h:=by
 simp only[au,fR,decide_true,mC,bV,gR]
theorem HW (P:Program) (t:TypeId) (cn gd:Bool) (k:IntKind) (a b:Int) (h:Heap) (κ:Value→Heap→β):au fl P .gtr t cn gd (.int k a) (.int k b) h κ=κ (.bool (decide (b<a))) h:=by
 simp only[au,fR,decide_true,mC,bV,gR]
theorem HX (P:Program) (t:TypeId) (cn gd:Bool) (k:IntKind) (a b:Int) (h:Heap) (κ:Value→Heap→β):au fl P .leq t cn gd (.int k a) (.int k b) h κ=κ (.bool (!decide (b<a))) h:=by
 simp only[au,fR,decide_true,mC,bV,gR]
theorem HY (P:Program) (t:TypeId) (cn gd:Bool) (k:IntKind) (a b:Int) (h:Heap) (κ:Value→Heap→β):au fl P .geq t cn gd (.int k a) (.int k b) h κ=κ (.bool (!decide (a<b))) h:=by
 simp only[au,fR,decide_true,mC,bV,gR]
theorem Ms (b:Bool) (h:Heap) (κ:Value→Heap→β):jv fl .not (.bool b) h κ=κ (.bool (!b)) h:=by simp only[jv,bV]
theorem Mt (a:Int) (h:Heap) (κ:Value→Heap→β):jv fl .neg (.int .i64 a) h κ=κ (.int .i64 (IntKind.i64.wrap (0-a))) h:=by simp only[jv,gZ,dZ]; rfl
theorem Dj (k:IntKind) (a:Int) (h:Heap) (κ:Value→Heap→β):jb fl .i64 (.int k a) h κ=κ (.int .i64 (IntKind.i64.wrap a)) h:=by simp only[jb,gZ,dZ]
theorem zW (a b:Value) (h:Heap) (κ:Value→Heap→β):bf fl (.bool true) a b h κ=κ a h:=id rfl
theorem wM (a b:Value) (h:Heap) (κ:Value→Heap→β):bf fl (.bool false) a b h κ=κ b h:=id rfl
theorem iK (x:Option Addr) (n c:Nat) (h:Heap) (κ:Value→Heap→β):br fl (.slice x n c) h κ=κ (.int .i64 (n:Int)) h:=id rfl
theorem r5 (off b o:Nat) (h:Heap) (κ:Value→Heap→β):fieldAddrB fl off (.pointer (some ⟨b,o,none⟩)) h κ=κ (.pointer (some ⟨b,o+off,none⟩)) h:=by simp only[fieldAddrB,bS]; rfl
theorem HZ (a:Addr) (h:Heap) (κ:Value→Heap→β):aV fl (.pointer (some a)) h κ=κ (.pointer (some a)) h:=id rfl
theorem pX (f:FuncId) (a b:Array Value) (h:Heap) (κ:Value→Heap→β):aV fl (.func (.func f) a b) h κ=κ (.func (.func f) a b) h:=id rfl
theorem zX (a:Value) (l:List Value) (h:Heap) (κ:Value→Heap→β):av fl 0 (.tuple ⟨a::l⟩) h κ=κ a h:=id rfl
theorem zY (a b:Value) (l:List Value) (h:Heap) (κ:Value→Heap→β):av fl 1 (.tuple ⟨a::b::l⟩) h κ=κ b h:=id rfl
theorem zZ (a b c:Value) (l:List Value) (h:Heap) (κ:Value→Heap→β):av fl 2 (.tuple ⟨a::b::c::l⟩) h κ=κ c h:=id rfl
theorem aW (s b o n c i:Nat) (h:Heap) (κ:Value→Heap→β) (hi:i<n):aq fl s (.slice (some ⟨b,o,none⟩) n c) (.int .i64 (i:Int)) h κ=κ (.pointer (some ⟨b,o+i*s,none⟩)) h:=by
 show (match Nat.ble (Nat.succ i) n with | true=>_ | _=>_)=_
 rw[show Nat.ble (Nat.succ i) n=true from Nat.ble_eq_true_of_le hi]
 simp only[bS]; rfl
theorem Dk (P:Program) (f:FuncId) (a b:Array Value) (args:List Value) (h:Heap) (κ:KQ):jC P (.func (.func f) a b) args h κ=CallW P f (a.toList++args++b.toList) h κ:=id rfl
theorem a_ {p:Prop} [Decidable p] (h:p):decide p=true:=decide_eq_true h
theorem aN {p:Prop} [Decidable p] (h:¬p):decide p=false:=decide_eq_false h
theorem cq {a b:Int} (h:a<b):decide (a<b)=true:=decide_eq_true h
theorem bP {a b:Int} (h:b≤a):decide (a<b)=false:=decide_eq_false (by omega)
theorem Zg {a b:Int} (h:a=b):decide (a=b)=true:=decide_eq_true h
theorem Mu {a b:Int} (h:a<b):decide (a=b)=false:=decide_eq_false (by omega)
theorem SS {a b:Int} (h:b<a):decide (a=b)=false:=decide_eq_false (by omega)
structure Le (h h':Heap):Prop where
 nx:h.nx≤h'.nx
 lo:h'.lo=h.lo
 get:∀b,b<h.nx→h'.bl.get b=h.bl.get b
theorem Le.refl (h:Heap):Le h h:=⟨Nat.le_refl _,rfl,fun _ _=>rfl⟩
theorem Le.trans {a b c:Heap} (x:Le a b) (y:Le b c):Le a c:=⟨Nat.le_trans x.nx y.nx,y.lo.trans x.lo,fun i hi=>(y.get i (Nat.lt_of_lt_of_le hi x.nx)).trans (x.get i hi)⟩
theorem Le.new {a h:Heap} (x:Le a h) (o:bQ):Le a ⟨h.nx+1,h.bl.aY h.nx o,h.lo⟩:=
 ⟨Nat.le_succ_of_le x.nx,x.lo,fun i hi=>(T.ai _ _ (by have:=x.nx; omega)).trans (x.get i hi)⟩
theorem Le.set {a h:Heap} (x:Le a h) {b:Nat} (hb:a.nx≤b) (o:bQ):Le a ⟨h.nx,h.bl.aY b o,h.lo⟩:=
 ⟨x.nx,x.lo,fun i hi=>(T.ai _ _ (by omega)).trans (x.get i hi)⟩
end Go.Vai

namespace Go.Vai
open Go Go.RowKit
variable {β:Type} {fl:β} {P:Program}
theorem Bh {φ:dQ} {v:Value} (hv:mA v=true):VR φ v v:=by
 cases v<;>first | exact VR.mA hv | (exact VR.qU (F2.mA hv)) | cases hv
theorem Mv {φ:dQ}:∀{l l':List Value},l.all jt=true→F2 (VR φ) l l'→l'=l:=by
 intro l
 induction l with
 | nil=>intro l' _ h; cases h; rfl
 | cons v l ih=>
  intro l' hs h
  simp only[List.all_cons,Bool.and_eq_true] at hs
  cases h with
  | cons h1 h2=>rw[ih hs.2 h2,VR.Qa hs.1 h1]
theorem nq {φ:dQ} {v v':Value} (hv:mA v=true) (h:VR φ v v'):v'=v:=by
 cases h with
 | agg a a' ha FC=>
  have:=Mv (l':=a'.toList) hv (F2.nk ha FC)
  obtain ⟨l⟩:=a; obtain ⟨l'⟩:=a'
  simp only at this; rw[this]
 | bool=>rfl
 | int=>rfl
 | string=>rfl
 | _=>cases hv
theorem Dl {φ:dQ}:∀{l:List Value},l.all mA=true→F2 (VR φ) l l:=by
 intro l
 induction l with
 | nil=>intro _; exact .nil
 | cons v l ih=>
  intro h
  simp only[List.all_cons,Bool.and_eq_true] at h
  exact .cons (Bh h.1) (ih h.2)
theorem Dm {φ:dQ}:∀{l l':List Value},l.all mA=true→F2 (VR φ) l l'→l'=l:=by
 intro l
 induction l with
 | nil=>intro l' _ h; cases h; rfl
 | cons v l ih=>
  intro l' hs h
  simp only[List.all_cons,Bool.and_eq_true] at hs
  cases h with
  | cons h1 h2=>rw[ih hs.2 h2,nq hs.1 h1]
noncomputable def bF (P:Program) (n:Nat) (f:FuncId) (args:List Value) (v:Value):Bool:=
 args.all mA && mA v && lz false P_ P (run false P_ P n) f args ⟨0,.nil,0⟩ fun v' _=>k9 8 v' v
theorem vh (hm:P.follows .mixedOrders=true) {n:Nat} {f:FuncId} {args:List Value} {v:Value} (ha:bF P n f args v=true) {h:Heap} {κ:Value→Heap→Prop} (hk:κ v h):CallW P f args h κ:=by
 intro φ w args' hf hr
 have hfl:¬yes false:=by simp[yes]
 simp only[bF,Bool.and_eq_true] at ha
 obtain ⟨⟨ha1,hv⟩,ha2⟩:=ha
 have:=Dm ha1 hf
 subst this
 have hc:=fE (good:=yes) (w:=w) hfl (Be (P:=P)) (zQ (good:=yes) hfl Be (q9 hfl Be hm) n).1 (Dl ha1) (HR.start w) ha2
 refine ⟨hc.1,Calls.mono hc.2 ?_⟩
 rintro e w' ⟨φ',v1,v',h',rfl,g1,g2,g3,g4⟩
 have e1:=FV 8 _ _ g1
 subst e1
 have hfr:∀B,B<w.heap.size→w'.heap[B]? = w.heap[B]?:=fun B hB=>g4.AU B hB fun b pl e=>by cases e
 refine ⟨φ,v1,v',h,rfl,hk,by rw[nq hv g2]; exact Bh hv,?_,?_⟩
 ·exact ⟨fun b o pl h1 h2=>by rw[hfr _ (hr.dom b pl h2).2]; exact hr.obj b o pl h1 h2,fun b pl h1=>⟨(hr.dom b pl h1).1,Nat.lt_of_lt_of_le (hr.dom b pl h1).2 g4.size⟩,hr.keys,hr.PZ,hr.inj,hr.lo⟩
 ·exact ⟨Sub.refl φ,fun b pl e e'=>(by rw[e] at e'; cases e'),Nat.le_refl _,g4.size,fun B hB _=>hfr B hB,fun _ _ _=>rfl,g4.tape,g4.os,g4.output,fun _ _=>trivial,rfl,fun _ _=>rfl,fun b o pl _ _ _ _ hB=>hfr _ hB,g4.dr⟩
def Bi (v:Value) (_h:Heap):Prop:=v=.bool true
def Has (ob:Option bQ) (o:Nat) (ws:List Value):Prop:=
 ∃n c e,(ob=some (.ro n c e)∨∃op,ob=some (.cells n c e op))∧o+ws.length≤n∧∀j v,ws[j]? = some v→c.get (o+j)=some v
theorem Has.cells {vs:List Value} {e:TypeId} {op:Bool} {o k:Nat} (h:o+k≤vs.length):Has (some (aa vs e op)) o ((vs.drop o).take k):=by
 refine ⟨vs.length,lay vs .nil 0,e,.inr ⟨op,rfl⟩,by simp; omega,fun j v hj=>?_⟩
 rw[mJ]
 rw[List.getElem?_take] at hj
 split at hj
 ·simpa[List.getElem?_drop] using hj
 ·cases hj
theorem Has.all {vs:List Value} {e:TypeId} {op:Bool}:Has (some (aa vs e op)) 0 vs:=by
 have:=Has.cells (vs:=vs) (e:=e) (op:=op) (o:=0) (k:=vs.length) (by omega)
 simpa using this
theorem Has.sub {ob:Option bQ} {o:Nat} {ws:List Value} (h:Has ob o ws) (i k:Nat) (hk:i+k≤ws.length):Has ob (o+i) ((ws.drop i).take k):=by
 obtain ⟨n,c,e,h1,h2,h3⟩:=h
 refine ⟨n,c,e,h1,by simp; omega,fun j v hj=>?_⟩
 rw[List.getElem?_take] at hj
 split at hj
 ·rw[List.getElem?_drop] at hj
  rw[Nat.add_assoc]; exact h3 _ _ hj
 ·cases hj
theorem e8 {ob:Option bQ} {o:Nat} {ws:List Value} (h:Has ob o ws) (j:Nat) (κ:Value→β):j<ws.length→sV fl ob (o+j) κ=Gb fl ws[j]? κ:=by
 intro hj
 obtain ⟨n,c,e,h1,h2,h3⟩:=h
 have hle:Nat.ble (Nat.succ (o+j)) n=true:=Nat.ble_eq_true_of_le (by omega)
 have hv:=h3 j _ (List.getElem?_eq_getElem hj)
 rw[List.getElem?_eq_getElem hj]
 rcases h1 with rfl | ⟨op,rfl⟩<;>simp only[sV,hle,hv,Gb]
theorem z7 (c:T Value) (ws:List Value) (off:Nat):∀(n:Nat) (acc:List Value) (κ:List Value→β),n≤ws.length→(∀j v,ws[j]? = some v→c.get (off+j)=some v)→ku fl c off n acc κ=κ (ws.take n++acc):=by
 intro n
 induction n with
 | zero=>intro acc κ _ _; simp; rfl
 | succ n ih=>
  intro acc κ h hc
  show Option.rec (motive:=fun _=>β) fl (fun v=>ku fl c off n (v::acc) κ) (c.get (Nat.add off n))=_
  rw[show Nat.add off n=off+n from rfl,hc n _ (List.getElem?_eq_getElem (by omega))]
  show ku fl c off n (ws[n]::acc) κ=_
  rw[ih _ _ (by omega) hc,List.take_succ_eq_append_getElem (by omega)]
  simp only[List.append_assoc,List.cons_append,List.nil_append]
theorem pY {ob:Option bQ} {o:Nat} {ws:List Value} (h:Has ob o ws) (s:Nat) (κ:List Value→β) (hs:s=ws.length):zi fl ob o s κ=κ ws:=by
 obtain ⟨n,c,e,h1,h2,h3⟩:=h
 subst hs
 have hle:Nat.ble (Nat.add o ws.length) n=true:=Nat.ble_eq_true_of_le h2
 rcases h1 with rfl | ⟨op,rfl⟩<;>simp only[zi,hle]<;>rw[z7 c ws o _ _ _ (Nat.le_refl _) h3]<;>simp
theorem jE (h:Heap) (size n:Nat) (x:Value) (κ:List Value→β) (h0:n*size=0):fU fl h size n x κ=κ []:=by
 unfold fU
 rw[show Nat.mul n size=0 from h0]
theorem nr {h:Heap} {b o:Nat} {ws:List Value} (hh:Has (h.bl.get b) o ws) (size n l c:Nat) (κ:List Value→β) (hn:n*size=ws.length):fU fl h size n (.slice (some ⟨b,o,none⟩) l c) κ=κ ws:=by
 unfold fU
 rw[show Nat.mul n size=ws.length from hn]
 cases hw:ws with
 | nil=>rfl
 | cons w0 ws0=>
  obtain ⟨nn,cc,e,h1,h2,h3⟩:=hh
  rw[hw] at h2 h3
  have hle:Nat.ble (Nat.add o (Nat.succ ws0.length)) nn=true:=Nat.ble_eq_true_of_le (by simpa using h2)
  have fin:ku fl cc o (Nat.succ ws0.length) [] κ=κ (w0::ws0):=by
   rw[z7 cc (w0::ws0) o _ _ _ (by simp) h3]
   congr 1
   simp
  rcases h1 with h1 | ⟨op,h1⟩<;>simp only[List.length_cons,h1,hle]<;>exact fin
section
variable {α:Type} (enc:α→List Value) (s:Nat)
def Sl (h:Heap) (v:Value) (L:List α):Prop:=
 ∃x cap,v=.slice x L.length cap∧(L≠[]→∃b o,x=some ⟨b,o,none⟩∧b<h.nx∧Has (h.bl.get b) o (L.flatMap enc))
variable {enc s}
theorem Sl.le {h h':Heap} {v:Value} {L:List α} (hs:Sl enc h v L) (hl:Le h h'):Sl enc h' v L:=by
 obtain ⟨x,cap,h1,h2⟩:=hs
 refine ⟨x,cap,h1,fun hn=>?_⟩
 obtain ⟨b,o,e1,e2,e3⟩:=h2 hn
 exact ⟨b,o,e1,Nat.lt_of_lt_of_le e2 hl.nx,by rw[hl.get b e2]; exact e3⟩
theorem Sl.nil (h:Heap) (x:Option Addr) (cap:Nat):Sl enc h (.slice x 0 cap) ([]:List α):=⟨x,cap,rfl,fun hn=>absurd rfl hn⟩
theorem aX (he:∀a:α,(enc a).length=s) (L:List α):(L.flatMap enc).length=L.length*s:=by
 induction L with
 | nil=>simp
 | cons a L ih=>simp[he,ih,Nat.succ_mul,Nat.add_comm]
theorem Bj (he:∀a:α,(enc a).length=s):∀(L:List α) (i:Nat) (hi:i<L.length),((L.flatMap enc).drop (i*s)).take s=enc L[i]:=by
 intro L
 induction L with
 | nil=>intro i hi; simp at hi
 | cons a L ih=>
  intro i hi
  cases i with
  | zero=>simp[List.take_append,he]
  | succ i=>
   have:=ih i (by simpa using hi)
   simp only[List.flatMap_cons,List.getElem_cons_succ]
   rw[←this,List.drop_append,show (enc a).drop ((i+1)*s)=[] from List.drop_eq_nil_of_le (by rw[he,Nat.succ_mul]; omega),he,show (i+1)*s-s=i*s by rw[Nat.succ_mul]; omega]
   rfl
theorem Sl.elem {h:Heap} {v:Value} {L:List α} (hs:Sl enc h v L) (he:∀a:α,(enc a).length=s) (i:Nat) (hi:i<L.length) :
  ∃b o cap,v=.slice (some ⟨b,o,none⟩) L.length cap∧b<h.nx∧Has (h.bl.get b) (o+i*s) (enc L[i]):=by
 obtain ⟨x,cap,h1,h2⟩:=hs
 obtain ⟨b,o,e1,e2,e3⟩:=h2 (by intro e; rw[e] at hi; simp at hi)
 subst e1
 refine ⟨b,o,cap,h1,e2,?_⟩
 have hle:i*s+s≤(L.flatMap enc).length:=by
  rw[aX he,←Nat.succ_mul]; exact Nat.mul_le_mul_right _ hi
 have:=e3.sub (i*s) s hle
 rwa [Bj he L i hi] at this
theorem Sl.len {h:Heap} {v:Value} {L:List α} (hs:Sl enc h v L) (κ:Value→Heap→β) (h':Heap):br fl v h' κ=κ (.int .i64 (L.length:Int)) h':=by
 obtain ⟨x,cap,rfl,_⟩:=hs; rfl
theorem Sl.at {h:Heap} {v:Value} {L:List α} (hs:Sl enc h v L) (he:∀a:α,(enc a).length=s) (i:Nat) (hi:i<L.length) :
  ∃b o,b<h.nx∧Has (h.bl.get b) o (enc L[i])∧∀(β:Type) (fl:β) (h':Heap) (κ:Value→Heap→β),aq fl s v (.int .i64 (i:Int)) h' κ=κ (.pointer (some ⟨b,o,none⟩)) h':=by
 obtain ⟨b,o,cap,rfl,h1,h2⟩:=hs.elem he i hi
 exact ⟨b,o+i*s,h1,h2,fun β fl h' κ=>aW s b o _ cap i h' κ hi⟩
theorem Sl.ld {h:Heap} {v:Value} {L:List α} (hs:Sl enc h v L) (he:∀a:α,(enc a).length=s) (i:Nat) {p:α} (hp:L[i]? = some p) :
  ∃b o,b<h.nx∧(∀(β:Type) (fl:β) (h':Heap) (κ:Value→Heap→β),aq fl s v (.int .i64 (i:Int)) h' κ=κ (.pointer (some ⟨b,o,none⟩)) h')∧
   (∀(β:Type) (fl:β) (κ:List Value→β),zi fl (h.bl.get b) o s κ=κ (enc p))∧Has (h.bl.get b) o (enc p):=by
 obtain ⟨hi,rfl⟩:=List.getElem?_eq_some_iff.1 hp
 obtain ⟨b,o,h1,h2,h3⟩:=hs.at he i hi
 exact ⟨b,o,h1,h3,fun β fl κ=>pY h2 s κ (he _).symm,h2⟩
theorem Sl.first {h:Heap} {v:Value} {L:List α} (hs:Sl enc h v L) (he:∀a:α,(enc a).length=s) (κ:List Value→β):fU fl h s L.length v κ=κ (L.flatMap enc):=by
 by_cases hn:L=[]
 ·subst hn; rw[jE _ _ _ _ _ (by simp)]; rfl
 ·obtain ⟨x,cap,rfl,h2⟩:=hs
  obtain ⟨b,o,rfl,e2,e3⟩:=h2 hn
  exact nr e3 _ _ _ _ _ (aX he L).symm
theorem Sl.new {h:Heap} {b:Nat} {L:List α} {e:TypeId} {op:Bool} (hb:b<h.nx) (hg:h.bl.get b=some (aa (L.flatMap enc) e op)) (cap:Nat):Sl enc h (.slice (some ⟨b,0,none⟩) L.length cap) L:=
 ⟨_,cap,rfl,fun _=>⟨b,0,rfl,hb,by rw[hg]; exact Has.all⟩⟩
variable (enc)
def dh (a:Heap) (e:TypeId) (h:Heap) (v:Value) (L:List α):Prop:=
 (L=[]∧(v=.slice none 0 0∨∃b o,v=.slice (some ⟨b,o,none⟩) 0 0))∨∃b,v=.slice (some ⟨b,0,none⟩) L.length aO∧a.nx≤b∧b<h.nx∧h.lo≤b∧h.bl.get b=some (aa (L.flatMap enc) e true)
variable {enc}
theorem dh.sl {a h:Heap} {e:TypeId} {v:Value} {L:List α} (ho:dh enc a e h v L):Sl enc h v L:=by
 rcases ho with ⟨rfl,rfl | ⟨b,o,rfl⟩⟩ | ⟨b,rfl,h1,h2,h3,h4⟩
 ·exact Sl.nil _ _ _
 ·exact Sl.nil _ _ _
 ·exact Sl.new h2 h4 _
theorem dh.le {a h h':Heap} {e:TypeId} {v:Value} {L:List α} (ho:dh enc a e h v L) (hl:Le h h'):dh enc a e h' v L:=by
 rcases ho with ho | ⟨b,h0,h1,h2,h3,h4⟩
 ·exact .inl ho
 ·exact .inr ⟨b,h0,h1,Nat.lt_of_lt_of_le h2 hl.nx,by rw[hl.lo]; exact h3,by rw[hl.get b h2]; exact h4⟩
theorem append_nil {h:Heap} {e:TypeId} {z:List Value} {v x:Value} (hx:Sl enc h x ([]:List α)) (hv:∃b n c,v=.slice b n c) (κ:Value→Heap→β):bu fl e s z false v x h κ=κ v h:=by
 obtain ⟨b,n,c,rfl⟩:=hv
 obtain ⟨y,cap,rfl,_⟩:=hx
 simp only[bu,kz,List.length_nil]
 rw[jE _ _ _ _ _ (by simp)]
set_option maxRecDepth 20000 in
theorem Gd {a h:Heap} {e:TypeId} {z:List Value} {v x:Value} {L M:List α} (he:∀a:α,(enc a).length=s) (hone:∀a:α,(enc a).all ew=true) (hs0:0<s) (hs1:s≤100) (ho:dh enc a e h v L) (hx:Sl enc h x M)
  (hle:Le a h) (hb:L.length+M.length≤1000000) (hal:h.lo≤h.nx) (κ:KQ)
  (hk:∀v' h',dh enc a e h' v' (L++M)→Le a h'→h'.nx≤h.nx+1→h.nx≤h'.nx→κ v' h'):bu False e s z false v x h κ:=by
 by_cases hM:M=[]
 ·subst hM
  rw[append_nil hx (by rcases ho with ⟨rfl,rfl | ⟨b,o,rfl⟩⟩ | ⟨b,rfl,_⟩<;>exact ⟨_,_,_,rfl⟩)]
  exact hk v h (by simpa using ho) hle (Nat.le_succ _) (Nat.le_refl _)
 ·obtain ⟨m,hm⟩:∃m,M.length=m+1:=⟨M.length-1,by have:=List.length_pos_iff.2 hM; omega⟩
  have hfl:=aX (enc:=enc) he
  have iB:=hx.first (β:=Prop) (fl:=False) he
  obtain ⟨y,cap,rfl,h2⟩:=hx
  have hml:∀K:List α,K.length≤1000000→(K.flatMap enc).length≤1000000000000:=fun K hK=>by
   rw[hfl]
   have:=Nat.mul_le_mul hK hs1
   omega
  have fresh:∀(hh:Heap) (ws:List Value),ws=(L++M).flatMap enc→Le a hh→hh.nx=h.nx→hh.lo=h.lo→ez False ws e true hh fun b h'=>κ (.slice (some ⟨b,0,none⟩) (L.length+M.length) aO) h':=by
   intro hh ws hw SU hnx hlo
   subst hw
   unfold ez
   rw[jf _ _ _ _ (hml _ (by simp; omega)),dV]
   refine hk _ _ (.inr ⟨hh.nx,by simp,SU.nx,Nat.lt_succ_self _,by show hh.lo≤_; omega,T.af _ _ _⟩) (SU.new _) (by show hh.nx+1≤_; omega) (by show h.nx≤hh.nx+1; omega)
  rcases ho with ⟨rfl,hv⟩ | ⟨b,rfl,h3,h4,h5,h6⟩
  ·have hF:=fresh h (M.flatMap enc) (by simp) hle rfl rfl
   simp only[List.length_nil,Nat.zero_add] at hF
   rcases hv with rfl | ⟨b,o,rfl⟩
   ·unfold bu kz
    simp only
    rw[iB]
    simp only[hm,bS]
    rw[show Nat.ble (Nat.add 0 (m+1)) 1000000000=true from Nat.ble_eq_true_of_le (by show 0+(m+1)≤_; omega)]
    rw[hm] at hF
    have e1:Nat.add 0 (m+1)=m+1:=by show 0+(m+1)=_; omega
    rw[e1]
    exact hF
   ·unfold bu kz
    simp only
    rw[iB]
    simp only[hm,bS]
    have e1:Nat.add 0 (m+1)=m+1:=by show 0+(m+1)=_; omega
    rw[e1,show Nat.ble (m+1) 1000000000=true from Nat.ble_eq_true_of_le (by omega)]
    rw[hm] at hF
    show fU False h s 0 _ _
    rw[jE _ _ _ _ _ (by simp)]
    exact hF
  ·unfold bu kz
   simp only
   rw[iB]
   simp only[hm,bS]
   have e1:Nat.add L.length (m+1)=L.length+(m+1):=rfl
   rw[e1,show Nat.ble (L.length+(m+1)) 1000000000=true from Nat.ble_eq_true_of_le (by omega)]
   have e2:Nat.beq aO fT=false:=by decide
   have e3:Nat.beq aO aO=true:=Nat.beq_refl _
   simp only[e2,e3,h6]
   have e4:Nat.ble (Nat.add 0 (Nat.mul (L.length+(m+1)) s)) (L.flatMap enc).length=false:=by
    rw[hfl]
    cases SV:Nat.ble (Nat.add 0 (Nat.mul (L.length+(m+1)) s)) (L.length*s) with
    | false=>rfl
    | true=>
     have h7:0+(L.length+(m+1))*s≤L.length*s:=Nat.le_of_ble_eq_true SV
     rw[Nat.add_mul,Nat.succ_mul] at h7
     omega
   have e5:(M.flatMap enc).all ew=true:=by
    rw[List.all_flatMap]; simp only[List.all_eq_true]; intro x _; exact List.all_eq_true.1 (hone x)
   simp only[aa,Nat.beq_refl,e4,e5,Bool.and_self]
   have hh:Has (h.bl.get b) 0 (L.flatMap enc):=by rw[h6]; exact Has.all
   rw[nr hh s L.length _ _ _ (hfl L).symm,bU _ _ _ _ h5]
   have hF:=fresh ⟨h.nx,h.bl.aY b (.dead (L.flatMap enc).length e),h.lo⟩ (L.flatMap enc++M.flatMap enc) (by simp) (hle.set h3 _) rfl rfl
   rw[hm] at hF
   exact hF
end
end Go.Vai
namespace Go.Vai
open Go
theorem z_ (zs:List Value):aU zs 1=zs:=by simp[aU]
theorem uz (w:Bool):ah undef w=false:=by cases w<;>rfl
theorem Mw (a:Value) (l:List Value):slot (a::l) 0=a:=id rfl
theorem Mx (a:Value) (l:List Value) (n:Nat):slot (a::l) (n+1)=slot l n:=id rfl
theorem pZ (l:List Value):(Value.cells (.agg ⟨l⟩)).toList=l:=id rfl
theorem p5 (k:IntKind) (n:Int):(Value.cells (.int k n)).toList=[.int k n]:=id rfl
theorem nu (b:Bool):(Value.cells (.bool b)).toList=[.bool b]:=id rfl
theorem p7 (a:Option Addr):(Value.cells (.pointer a)).toList=[.pointer a]:=id rfl
theorem lI (a:Option Addr) (n c:Nat):(Value.cells (.slice a n c)).toList=[.slice a n c]:=id rfl
theorem H6 (k:IntKind) (n:Int):ew (.int k n)=true:=id rfl
theorem Dn (b:Bool):ew (.bool b)=true:=id rfl
theorem H7 (s:ByteArray):ew (.string s)=true:=id rfl
theorem H8 (a:Option Addr):ew (.pointer a)=true:=id rfl
theorem H9 (a:Option Addr) (n c:Nat):ew (.slice a n c)=true:=id rfl
theorem H_ (a:Option Nat):ew (.map a)=true:=id rfl
theorem Ia (f:Fn) (a b:Array Value):ew (.func f a b)=true:=id rfl
theorem Ib (t:TypeId) (v:Value):ew (.iface t v)=true:=id rfl
theorem oO (vs ws:List Value) (h:ws.length=vs.length):over vs 0 ws=ws:=by simp[over,h]
variable {β:Type} {fl:β}
theorem My:∀(new old:List Value) (κ:List Value→β),new.length≤old.length→rN fl new old κ=κ (over old 0 new):=by
 intro new
 induction new with
 | nil=>intro old κ _; rw[Df]; cases old<;>rfl
 | cons v new ih=>
  intro old κ h
  cases old with
  | nil=>simp at h
  | cons o old=>
   simp only[rN]
   rw[ih old _ (by simpa using h)]
   simp[over]
theorem Ql (new:List Value):∀(o:Nat) (old:List Value) (κ:List Value→β),o+new.length≤old.length→yY fl new o old κ=κ (over old o new):=by
 intro o
 induction o with
 | zero=>
  intro old κ h
  have:yY fl new 0 old κ=rN fl new old κ:=by cases old<;>rfl
  rw[this,My _ _ _ (by simpa using h)]
 | succ o ih=>
  intro old κ h
  cases old with
  | nil=>simp at h
  | cons v old=>
   simp only[yY]
   rw[ih old _ (by simp at h; omega)]
   simp[over,Nat.add_right_comm]
theorem r6 (cs:List Value) (κ:List Value→β):bC fl [] [] cs κ=κ cs:=id rfl
theorem p9 (off size:Nat) (ps:List (Nat × Nat)) (v:Value) (vs cs:List Value) (κ:List Value→β) (h1:v.cells.toList.length=size) (h2:off+size≤cs.length) :
  bC fl ((off,size)::ps) (v::vs) cs κ=bC fl ps vs (over cs off v.cells.toList) κ:=by
 subst h1
 show (match Nat.beq v.cells.toList.length v.cells.toList.length with | false=>fl | true=>yY fl v.cells.toList off cs fun cs=>bC fl ps vs cs κ)=_
 rw[Nat.beq_refl]
 simp only
 rw[Ql _ _ _ _ h2]
theorem Mz (size:Nat) (v:Value) (cs:List Value) (κ:List Value→β) (h1:v.cells.toList.length=size) (h2:cs.length=size):bC fl [(0,size)] [v] cs κ=κ v.cells.toList:=by
 rw[p9 _ _ _ _ _ _ _ h1 (by omega),r6,oO _ _ (by omega)]
end Go.Vai

namespace Go.Vai
open Go
section
variable {β:Type} {fl:β} {P:Program} {h h':Heap} {κ:Value→Heap→β} {a a' b b' c c':Value}
@[congr] theorem UG {op:BinOp} {t:TypeId} {cn gd:Bool} (ha:a=a') (hb:b=b'):au fl P op t cn gd a b h κ=au fl P op t cn gd a' b' h κ:=by rw[ha,hb]
@[congr] theorem Yi {op:UnOp} (ha:a=a'):jv fl op a h κ=jv fl op a' h κ:=by rw[ha]
@[congr] theorem SX {k:IntKind} (ha:a=a'):jb fl k a h κ=jb fl k a' h κ:=by rw[ha]
@[congr] theorem SY (hc:c=c') (ha:a=a') (hb:b=b'):bf fl c a b h κ=bf fl c' a' b' h κ:=by rw[ha,hb,hc]
@[congr] theorem UH (ha:a=a'):aV fl a h κ=aV fl a' h κ:=by rw[ha]
@[congr] theorem Kd {o:Nat} (ha:a=a'):fieldAddrB fl o a h κ=fieldAddrB fl o a' h κ:=by rw[ha]
@[congr] theorem Ke {s:Nat} (ha:a=a') (hb:b=b'):aq fl s a b h κ=aq fl s a' b' h κ:=by rw[ha,hb]
@[congr] theorem Kf {n s:Nat} (ha:a=a') (hb:b=b'):kE fl n s a b h κ=kE fl n s a' b' h κ:=by rw[ha,hb]
@[congr] theorem Qm {g:Bool} {s o:Nat} (ha:a=a'):vJ fl g s o a h κ=vJ fl g s o a' h κ:=by rw[ha]
@[congr] theorem Qn {g:Bool} {n s:Nat} (ha:a=a') (hb:b=b'):vK fl g n s a b h κ=vK fl g n s a' b' h κ:=by rw[ha,hb]
@[congr] theorem Qo (ha:a=a') (hb:b=b'):qR fl a b h κ=qR fl a' b' h κ:=by rw[ha,hb]
@[congr] theorem MA {i:Nat} (ha:a=a'):av fl i a h κ=av fl i a' h κ:=by rw[ha]
@[congr] theorem SZ (ha:a=a'):load1 fl a h κ=load1 fl a' h κ:=by rw[ha]
@[congr] theorem S0 {s:Nat} (ha:a=a'):aD fl s a h κ=aD fl s a' h κ:=by rw[ha]
@[congr] theorem Qp {s:Nat} (ha:a=a') (hb:b=b'):aI fl s a b h κ=aI fl s a' b' h κ:=by rw[ha,hb]
@[congr] theorem Yj {o o':Option bQ} {i:Nat} {k:Value→β} (ho:o=o'):sV fl o i k=sV fl o' i k:=by rw[ho]
@[congr] theorem Yk {o o':Option bQ} {i s:Nat} {k:List Value→β} (ho:o=o'):zi fl o i s k=zi fl o' i s k:=by rw[ho]
@[congr] theorem Yl {o o':Option bQ} {s i j:Nat} {ws S1:List Value} {k:Heap→β} (ho:o=o') (hw:ws=S1) (hh:h=h'):Qk fl o s i j ws h k=Qk fl o' s i j S1 h' k:=by rw[ho,hw,hh]
@[congr] theorem UI {o o':Option Value} {k:Value→β} (ho:o=o'):Gb fl o k=Gb fl o' k:=by rw[ho]
@[congr] theorem MB {o:bQ} {k:Nat→Heap→β} (hh:h=h'):aj fl o h k=aj fl o h' k:=by rw[hh]
@[congr] theorem MC {i:Nat} {o:bQ} {k:Heap→β} (hh:h=h'):setBlock fl i o h k=setBlock fl i o h' k:=by rw[hh]
@[congr] theorem Qq {ws S1:List Value} {e:TypeId} {g:Bool} {k:bQ→β} (hw:ws=S1):ax fl ws e g k=ax fl S1 e g k:=by rw[hw]
@[congr] theorem MD {ws S1:List Value} {e:TypeId} {g:Bool} {k:Nat→Heap→β} (hw:ws=S1) (hh:h=h'):ez fl ws e g h k=ez fl S1 e g h' k:=by rw[hw,hh]
@[congr] theorem S2 {ps:List (Nat × Nat)} {vs vs' cs cs':List Value} {k:List Value→β} (hv:vs=vs') (hc:cs=cs'):bC fl ps vs cs k=bC fl ps vs' cs' k:=by rw[hv,hc]
@[congr] theorem Qr {e s:Nat} {l u m l' u' m':Option Value} (ha:a=a') (hl:l=l') (hu:u=u') (hm:m=m'):sliceB fl e s a l u m h κ=sliceB fl e s a' l' u' m' h κ:=by rw[ha,hl,hu,hm]
@[congr] theorem Qs {l u m l' u' m':Option Value} (ha:a=a') (hl:l=l') (hu:u=u') (hm:m=m'):vI fl a l u m h κ=vI fl a' l' u' m' h κ:=by rw[ha,hl,hu,hm]
@[congr] theorem PC {e s:Nat} {z:List Value} {g:Bool} (ha:a=a') (hb:b=b') (hh:h=h'):bu fl e s z g a b h κ=bu fl e s z g a' b' h' κ:=by rw[ha,hb,hh]
@[congr] theorem S3 {s:Nat} (ha:a=a') (hb:b=b'):CC fl s a b h κ=CC fl s a' b' h κ:=by rw[ha,hb]
@[congr] theorem Qt {z:List Value} (ha:a=a'):jR fl z a h κ=jR fl z a' h κ:=by rw[ha]
@[congr] theorem Qu (ha:a=a'):br fl a h κ=br fl a' h κ:=by rw[ha]
@[congr] theorem Qv (ha:a=a'):om fl a h κ=om fl a' h κ:=by rw[ha]
@[congr] theorem Qw (ha:a=a'):mZ fl a h κ=mZ fl a' h κ:=by rw[ha]
@[congr] theorem PD {t:TypeId} {z:Value} {g:Bool} (ha:a=a') (hb:b=b'):dG fl P t z g a b h κ=dG fl P t z g a' b' h κ:=by rw[ha,hb]
@[congr] theorem Kg {t:TypeId} (ha:a=a') (hb:b=b') (hc:c=c'):cI fl P t a b c h κ=cI fl P t a' b' c' h κ:=by rw[ha,hb,hc]
@[congr] theorem PE {t:TypeId} (ha:a=a') (hb:b=b'):lq fl P t a b h κ=lq fl P t a' b' h κ:=by rw[ha,hb]
@[congr] theorem Qx (ha:a=a'):m_ fl a h κ=m_ fl a' h κ:=by rw[ha]
@[congr] theorem S4 {f:β→β→β} (ha:a=a'):qz fl f a h κ=qz fl f a' h κ:=by rw[ha]
@[congr] theorem Qy (ha:a=a'):ng fl a h κ=ng fl a' h κ:=by rw[ha]
@[congr] theorem Ic {t:TypeId} {z:Value} {g:Bool} (ha:a=a'):eD fl t z g a h κ=eD fl t z g a' h κ:=by rw[ha]
@[congr] theorem UJ (ha:a=a') (hb:b=b'):LA fl a b h κ=LA fl a' b' h κ:=by rw[ha,hb]
@[congr] theorem UK (ha:a=a') (hb:b=b'):LB fl a b h κ=LB fl a' b' h κ:=by rw[ha,hb]
end
section
variable {P:Program} {h h':Heap} {κ:Value→Heap→Prop}
@[congr] theorem Ym {o o':Option Value} (ho:o=o'):aH o h κ=aH o' h κ:=by rw[ho]
@[congr] theorem Yn {o o':Option (bQ × (Nat→Value))} (ho:o=o'):J7 o h κ=J7 o' h κ:=by rw[ho]
@[congr] theorem Qz {b b':Bool} {f:(Value→Heap→Prop)→Prop} (hb:b=b'):ag b f h κ=ag b' f h κ:=by rw[hb]
@[congr] theorem S5 {b b':Bool} {p:Prop} (hb:b=b'):dM b p=dM b' p:=by rw[hb]
@[congr] theorem S6 {v v':Value} {A B:Prop} (hv:v=v'):ay v A B=ay v' A B:=by rw[hv]
@[congr] theorem S7 {A:(List Value→Heap→Prop)→Prop} {B:List Value→Heap→Prop}:dD A B=dD A B:=rfl
@[congr] theorem S8 {l l':List Value} {body:List Value→Heap→(List Value→Heap→Prop)→Prop} (hh:h=h'):b6 l h body=b6 l h' body:=by rw[hh]
@[congr] theorem S9 {f:FuncId} {l l':List Value} (hl:l=l') (hh:h=h'):CallW P f l h κ=CallW P f l' h' κ:=by rw[hl,hh]
@[congr] theorem S_ {v v':Value} {l l':List Value} (hv:v=v') (hl:l=l') (hh:h=h'):jC P v l h κ=jC P v' l' h' κ:=by rw[hv,hl,hh]
@[congr] theorem Ta {n:String} {v v':Value} {l l':List Value} (hv:v=v') (hl:l=l') (hh:h=h'):CallI P n v l h κ=CallI P n v' l' h' κ:=by rw[hv,hl,hh]
end
end Go.Vai

namespace Go.Vai
open Go Go.RowKit Go.WideShapes Go.ChangeShapes
variable {P:Program}
theorem ME {φ φ':dQ} {h h':Heap} {w w':World} (hx:Ext φ φ' h h' w w') (hro:∀b pl,φ b=some pl→b<h.lo∧∃o,h.bl.get b=some o∧o.live):Below w.heap.size w w':=by
 refine ⟨hx.os,hx.tape,hx.output,hx.size,fun B hB=>?_⟩
 by_cases he:∃b pl,φ b=some pl∧pl.B=B
 ·obtain ⟨b,pl,h1,rfl⟩:=he
  obtain ⟨h2,o,h3,h4⟩:=hro b pl h1
  exact hx.Hs b o pl h2 h3 h4 h1 hB
 ·exact hx.AU B hB fun b pl h1 h2=>he ⟨b,pl,h1,h2⟩
theorem QA {f:FuncId} {args args':List Value} {φ:dQ} {h:Heap} {w:World} (hc:CallW P f args h Bi) (ha:F2 (VR φ) args args') (hr:HR P φ h w) (hro:∀b pl,φ b=some pl→b<h.lo∧∃o,h.bl.get b=some o∧o.live) :
  Calls P f args'.toArray w fun e w'=>e=.returned (.bool true)∧Below w.heap.size w w':=by
 refine Calls.mono (hc φ w args' ha hr).2 ?_
 rintro e w' ⟨φ',v,v',h',rfl,g1,g2,g3,g4⟩
 have g1:v=.bool true:=g1
 subst g1
 cases g2
 exact ⟨rfl,ME g4 hro⟩
section
variable {α:Type} {cN:α→List Value} {s:Nat}
def jW (cN:α→List Value) (w:World) (v:Value) (L:List α):Prop:=
 (L=[]∧(v=.slice none 0 0∨∃a cap,v=.slice (some a) 0 cap))∨
 ∃B o cap C e fz,v=.slice (some ⟨B,o,none⟩) L.length cap∧L.length≤cap∧cap≤maxLen∧w.heap[B]? = some (.cells C e fz)∧o+(L.flatMap cN).length≤C.size∧∀j u,(L.flatMap cN)[j]? = some u→C[o+j]? = some u
theorem Dp {n:Nat} {p:Nat→α→Prop} (h:∀i,i<n→∃x,p i x):∃L:List α,L.length=n∧∀i a,L[i]? = some a→p i a:=by
 induction n with
 | zero=>exact ⟨[],rfl,fun i a e=>by simp at e⟩
 | succ n ih=>
  obtain ⟨L,h1,h2⟩:=ih fun i hi=>h i (Nat.lt_succ_of_lt hi)
  obtain ⟨a,ha⟩:=h n (Nat.lt_succ_self n)
  refine ⟨L++[a],by simp[h1],fun i b e=>?_⟩
  rcases Nat.lt_or_ge i n with hi | hi
  ·rw[List.getElem?_append_left (by omega)] at e; exact h2 i b e
  ·have:i=n:=by
    have:=(List.getElem?_eq_some_iff.1 e).1
    simp[h1] at this; omega
   subst this
   rw[List.getElem?_append_right (by omega),h1] at e
   simp at e; subst e; exact ha
theorem Bk (he:∀a:α,(cN a).length=s) (hs:0<s):∀(L:List α) (j:Nat) (u:Value),(L.flatMap cN)[j]? = some u→∃a,L[j / s]? = some a∧(cN a)[j % s]? = some u:=by
 intro L
 induction L with
 | nil=>intro j u e; simp at e
 | cons a L ih=>
  intro j u e
  simp only[List.flatMap_cons] at e
  rcases Nat.lt_or_ge j s with hj | hj
  ·rw[List.getElem?_append_left (by rw[he]; exact hj)] at e
   rw[Nat.div_eq_of_lt hj,Nat.mod_eq_of_lt hj]
   exact ⟨a,rfl,e⟩
  ·rw[List.getElem?_append_right (by rw[he]; exact hj),he] at e
   obtain ⟨b,h1,h2⟩:=ih (j-s) u e
   refine ⟨b,?_,?_⟩
   ·rw[Nat.div_eq_sub_div hs hj]; simpa using h1
   ·rw[Nat.mod_eq_sub_mod hj]; exact h2
theorem MF {H:Type} {enc:TypeId × Value→H} {w:World} {t e:TypeId} {fuel:Nat} {v:Value} {x:DataW H × List MemPlace} (he:∀a:α,(cN a).length=s) (hs:0<s) (ht:P.underlying t=some (.slice e)) (hc:P.cellsOf e=s)
  (Ge:∀(n:Nat) (cs:List Value) (d:DataW H × List MemPlace),cs.length=s→DataW.trod enc P w 0 (fun _=>true) true n e cs=some d→∃a:α,cs=cN a)
  (h:DataW.trod enc P w 0 (fun _=>true) true fuel t [v]=some x):∃L:List α,jW cN w v L:=by
 rcases Go.Deep.open_slice ht h with ⟨h1,_⟩ | ⟨a,len,cap,m,n,D,Pl,h1,hb,hl,hm,Yf,hx,hi⟩
 ·cases h1; exact ⟨[],.inl ⟨rfl,.inl rfl⟩⟩
 ·cases h1
  simp only[if_true] at Yf
  subst Yf
  by_cases hlen:len=0
  ·subst hlen; exact ⟨[],.inl ⟨rfl,.inr ⟨a,_,rfl⟩⟩⟩
  ·have hel:∀i,i<len→∃p:α,∀j u,(cN p)[j]? = some u→w.cell? (a.add (i*s+j))=some u:=by
    intro i hil
    obtain ⟨cs,h2,h3⟩:=hi i (by omega)
    rw[hc] at h2
    obtain ⟨_,h4,h5⟩:=World.cells?_some h2
    obtain ⟨p,rfl⟩:=Ge n cs _ h4 h3
    refine ⟨p,fun j u hj=>?_⟩
    have hjs:j<s:=by have:=(List.getElem?_eq_some_iff.1 hj).1; rwa [he] at this
    have:=h5 j hjs
    rw[Go.Deep.add_add] at this
    rw[this,hj]
   obtain ⟨L,hL,hp⟩:=Dp hel
   have hcell:∀j u,(L.flatMap cN)[j]? = some u→w.cell? (a.add j)=some u:=by
    intro j u hj
    obtain ⟨p,g1,g2⟩:=Bk he hs L j u hj
    have:=hp _ p g1 _ u g2
    rwa [Nat.mul_comm,Nat.div_add_mod] at this
   have hfl:=aX (enc:=cN) he L
   have hpos:0<(L.flatMap cN).length:=by rw[hfl,hL]; exact Nat.mul_pos (by omega) hs
   have h0:=hcell 0 _ (List.getElem?_eq_getElem hpos)
   have ha0:a.add 0=a:=by simp[Addr.add]
   rw[ha0] at h0
   obtain ⟨B,o,sp⟩:=a
   unfold World.cell? at h0
   split at h0<;>try contradiction
   rename_i C e' fz hC
   cases sp with
   | some q=>simp at h0
   | none=>
    refine ⟨L,.inr ⟨B,o,m,C,e',fz,by rw[hL],by omega,hm,hC,?_,?_⟩⟩
    ·have Dq:=hcell ((L.flatMap cN).length-1) _ (List.getElem?_eq_getElem (by omega))
     have LL:(⟨B,o,none⟩:Addr).add ((L.flatMap cN).length-1)=⟨B,o+((L.flatMap cN).length-1),none⟩:=by unfold Addr.add; split<;>simp_all
     rw[LL] at Dq
     simp only[World.cell?,hC] at Dq
     have:=(Array.getElem?_eq_some_iff.1 Dq).1
     omega
    ·intro j u hj
     have hx:=hcell j u hj
     have LL:(⟨B,o,none⟩:Addr).add j=⟨B,o+j,none⟩:=by unfold Addr.add; split<;>simp_all
     rw[LL] at hx
     simpa[World.cell?,hC] using hx
def uA:Heap:=⟨0,.nil,0⟩
def Zh:dQ:=fun _=>none
theorem MG (w:World):HR P Zh uA w:=HR.start w
end
section
variable {H:Type} {enc:TypeId × Value→H}
theorem post_of_law {f:Func} {s:ChangeSpec} {apart fresh handsOn again:Bool} {W W':World} {args:Array Value} {v:Value} {ds gs:List (DataW H)} {before pa pv:List MemPlace}
  (hW:DataW.Whole enc P f.params.toList s.vars apart W args.toList ds gs before)
  (hres:∀(b:Nat) (sp:Nat→Bool) (hd:Bool),DataW.TrodAll enc P W' b sp hd f.resultTypes.toList (v.resultList f.resultTypes.size) (s.fn H (ds++gs)).results [])
  (hargs:∀sp:Nat→Bool,(∀p∈before,sp p.block=true)→DataW.TrodAll enc P W' 0 sp true f.params.toList args.toList (s.fn H (ds++gs)).args pa)
  (hvars:∀sp:Nat→Bool,(∀p∈before,sp p.block=true)→DataW.TrodVars enc P W' sp s.vars (s.fn H (ds++gs)).vars pv)
  (hps:before=pa++pv) (hb:Below W.heap.size W W')
  (hok:∀(j:Nat) (t:TypeId) (r:Value),f.resultTypes[j]? = some t→(v.resultList f.resultTypes.size)[j]? = some r→Value.okWide P W' .any 0 t r) :
  s.post enc P f apart fresh handsOn again W args v W':=by
 have hlt:∀p∈before,p.block<W.heap.size:=fun p hp=>hW.lt p hp
 have hold:∀p∈before,(fun b=>decide (b<W.heap.size)) p.block=true:=fun p hp=>by simpa using hlt p hp
 refine ⟨ds,gs,before,[],pa,pv,hW,hres _ _ _,hargs _ hold,hvars _ hold,World.keptBut_mono (fun p hp=>⟨hp,?_⟩) (hb.frame (·∈before)),fun _=>?_⟩
 ·rw[hps,List.mem_append] at hp
  exact Or.inr hp
 ·obtain ⟨_,_,_,_,_,hz,hn⟩:=hW
  refine ⟨hok,_,_,([]++pa)++pv,⟨[]++pa,pv,trodAll_append (hargs _ (fun _ _=>rfl)) (hres _ _ _),hvars _ (fun _ _=>rfl),rfl,?_,?_⟩,?_⟩
  ·intro b off hp
   have hin:MemPlace.cell b off∈before:=by rw[hps]; simpa using hp
   rw[hb.frozen (hlt _ hin)]
   exact hz b off hin
  ·intro ha
   have:=hn ha
   rw[hps] at this
   simpa using this
  ·intro p hp _
   rw[hps]
   simpa using hp
theorem arg_stays {t:TypeId} (hl:laidOutB P=true) (hr:P.readableRec t=true) (hrow:t<P.types.size) {W W':World} {v:Value} {d:DataW H} {ps:List MemPlace}
  (h:DataW.Trod enc P W 0 (fun _=>true) true t v d ps) (hb:Below W.heap.size W W') (hlt:∀x∈ps,x.block<W.heap.size) {sp:Nat→Bool} (hsp:∀x∈ps,sp x.block=true) :
  DataW.Trod enc P W' 0 sp true t v d ps:=
 WideElems.Trod_stays hl hr hrow h (fun x hx=>hb.same (hlt x hx)) (fun x hx=>by simpa using hsp x hx)
end
end Go.Vai
namespace Go.Vai
open Go Go.RowKit
variable {P:Program}
theorem fF {f:FuncId} {args:List Value} {v:Value} (ha:args.all mA=true) (hv:mA v=true) (hc:CallW P f args uA fun u _=>u=v) {h:Heap} {κ:Value→Heap→Prop} (hk:κ v h):CallW P f args h κ:=by
 intro φ w args' hf hr
 have:=Dm ha hf
 subst this
 obtain ⟨c1,c2⟩:=hc Zh w args' (Dl ha) (MG w)
 refine ⟨c1,c2.mono ?_⟩
 rintro e w' ⟨φ',v1,v',h',rfl,rfl,g2,g3,g4⟩
 have hfr:∀B,B<w.heap.size→w'.heap[B]? = w.heap[B]?:=fun B hB=>g4.AU B hB fun b pl e=>by cases e
 refine ⟨φ,v1,v',h,rfl,hk,by rw[nq hv g2]; exact Bh hv,?_,?_⟩
 ·exact ⟨fun b o pl h1 h2=>by rw[hfr _ (hr.dom b pl h2).2]; exact hr.obj b o pl h1 h2,fun b pl h1=>⟨(hr.dom b pl h1).1,Nat.lt_of_lt_of_le (hr.dom b pl h1).2 g4.size⟩,hr.keys,hr.PZ,hr.inj,hr.lo⟩
 ·exact ⟨Sub.refl φ,fun b pl e e'=>(by rw[e] at e'; cases e'),Nat.le_refl _,g4.size,fun B hB _=>hfr B hB,fun _ _ _=>rfl,g4.tape,g4.os,g4.output,fun _ _=>trivial,rfl,fun _ _=>rfl,fun b o pl _ _ _ _ hB=>hfr _ hB,g4.dr⟩
theorem Dr (u v:Value):gz (some u) v=k9 8 u v:=id rfl
theorem Aa (zs:List Value):aU zs 0=[]:=id rfl
theorem Ab (a:Value):aU [a] 2=[a,a]:=by simp[aU]
theorem MH (a:Value) (l:List Value) (n:Nat) (ws:List Value):over (a::l) (n+1) ws=a::over l n ws:=by simp[over,Nat.add_right_comm]
theorem MI (a w:Value) (l ws:List Value):over (a::l) 0 (w::ws)=w::over l 0 ws:=by simp[over]
theorem MJ (l:List Value):over l 0 []=l:=by simp[over]
theorem Ds (u:Value):reN (some u)=true:=id rfl
theorem Dt (r:Bool):UA true r=r:=id rfl
theorem Ac (r:Bool):UA false r=true:=id rfl
theorem jg (n:Nat):Nat.beq n n=true:=Nat.beq_refl n
theorem Kh (n:Int):nX n n=true:=by rw[ga]; simp
theorem Du (k:IntKind):iy k k=true:=by rw[fR]; simp
theorem QB (n:Nat) (k:IntKind) (a:Int):k9 (n+1) (.int k a) (.int k a)=true:=by unfold k9; simp[Du,Kh]
theorem lJ (k:IntKind) (a:Int):k9 8 (.int k a) (.int k a)=true:=QB 7 k a
theorem mK (a:Bool):k9 8 (.bool a) (.bool a)=true:=by unfold k9; simp
theorem Ie (b o:Nat):k9 8 (.pointer (some ⟨b,o,none⟩)) (.pointer (some ⟨b,o,none⟩))=true:=by unfold k9; simp[jg]
theorem vj (b o n c:Nat):k9 8 (.slice (some ⟨b,o,none⟩) n c) (.slice (some ⟨b,o,none⟩) n c)=true:=by unfold k9; simp[jg]
theorem Bl (n c:Nat):k9 8 (.slice none n c) (.slice none n c)=true:=by unfold k9; simp[jg]
theorem tH (n:Nat) (l:List Int):vG (k9 (n+1)) (l.map (Value.int .i64)) (l.map (Value.int .i64))=true:=by
 induction l with
 | nil=>rfl
 | cons a l ih=>simp only[List.map_cons,vG,QB,ih,Bool.and_self]
theorem Dv (l:List Int):k9 8 (.agg ⟨l.map (.int .i64)⟩) (.agg ⟨l.map (.int .i64)⟩)=true:=by
 unfold k9; exact tH 6 l
theorem Tb (a b:Int):k9 8 (.agg ⟨[.int .i64 a,.int .i64 b]⟩) (.agg ⟨[.int .i64 a,.int .i64 b]⟩)=true:=Dv [a,b]
theorem Tc (a b c d:Int):k9 8 (.agg ⟨[.int .i64 a,.int .i64 b,.int .i64 c,.int .i64 d]⟩) (.agg ⟨[.int .i64 a,.int .i64 b,.int .i64 c,.int .i64 d]⟩)=true:=Dv [a,b,c,d]
end Go.Vai
namespace Go.Vai
open Go
variable {β:Type} {fl:β}
theorem wN (n:Nat) (d:Nat) (κ:Nat→β):AO fl (some (.int .i64 (n:Int))) d κ=κ n:=id rfl
theorem tI (d:Nat) (κ:Nat→β):AO fl none d κ=κ d:=id rfl
theorem wO {h:Heap} {e s b n i:Nat} {vs:List Value} (hs:0<s) (hb:h.bl.get b=some (aa vs e true)) (hvs:vs.length=n*s) (hi:i<n) (κ:Value→Heap→β) :
  sliceB fl e s (.slice (some ⟨b,0,none⟩) n aO) (some (.int .i64 (i:Int))) none none h κ=κ (.slice (some ⟨b,i*s,none⟩) (n-i) aO) h:=by
 obtain ⟨s,rfl⟩:∃k,s=k+1:=⟨s-1,by omega⟩
 have hk:iu h e b=some (n*(s+1)):=by unfold iu; rw[hb]; simp only[aa,jg,hvs]
 have hd:Nat.div (Nat.sub (n*(s+1)) 0) (s+1)=n:=by show (n*(s+1)-0) / (s+1)=n; rw[Nat.sub_zero,Nat.mul_div_cancel _ (by omega)]
 have e1:Nat.beq aO fT=false:=by decide
 have e2:Nat.beq aO aO=true:=Nat.beq_refl _
 have e3:Nat.ble 0 (n*(s+1))=true:=Nat.ble_eq_true_of_le (Nat.zero_le _)
 have e4:Nat.ble i n=true:=Nat.ble_eq_true_of_le (by omega)
 have e5:Nat.ble n n=true:=Nat.ble_eq_true_of_le (Nat.le_refl _)
 have e6:Nat.beq i n=false:=by
  cases hq:Nat.beq i n with
  | false=>rfl
  | true=>have:=cT hq; omega
 unfold sliceB jo
 simp only[e1,e2,hk,e3,hd,wN,tI,e4,e5,e6,bS]
 show κ (.slice (some ⟨b,0+i*(s+1),none⟩) (n-i) aO) h=_
 rw[Nat.zero_add]
theorem r7 {h:Heap} {e s b n m i:Nat} {vs:List Value} (hs:0<s) (hb:h.bl.get b=some (aa vs e true)) (hvs:vs.length=n*s) (hn:0<n) (hi:i≤n) (κ:Value→Heap→β) :
  sliceB fl e s (.slice (some ⟨b,0,none⟩) m aO) none (some (.int .i64 (i:Int))) none h κ=κ (.slice (some ⟨b,0,none⟩) i aO) h:=by
 obtain ⟨s,rfl⟩:∃k,s=k+1:=⟨s-1,by omega⟩
 have hk:iu h e b=some (n*(s+1)):=by unfold iu; rw[hb]; simp only[aa,jg,hvs]
 have hd:Nat.div (Nat.sub (n*(s+1)) 0) (s+1)=n:=by show (n*(s+1)-0) / (s+1)=n; rw[Nat.sub_zero,Nat.mul_div_cancel _ (by omega)]
 have e1:Nat.beq aO fT=false:=by decide
 have e2:Nat.beq aO aO=true:=Nat.beq_refl _
 have e3:Nat.ble 0 (n*(s+1))=true:=Nat.ble_eq_true_of_le (Nat.zero_le _)
 have e4:Nat.ble 0 i=true:=Nat.ble_eq_true_of_le (Nat.zero_le _)
 have e5:Nat.ble i n=true:=Nat.ble_eq_true_of_le hi
 have e6:Nat.beq 0 n=false:=by
  cases hq:Nat.beq 0 n with
  | false=>rfl
  | true=>have:=cT hq; omega
 unfold sliceB jo
 simp only[e1,e2,hk,e3,hd,wN,tI,e4,e5,e6,bS]
 show κ (.slice (some ⟨b,0+0*(s+1),none⟩) (i-0) aO) h=_
 rw[Nat.zero_mul,Nat.sub_zero]
theorem Dw {h:Heap} {b o n c e:Nat} {op:Bool} {vs zero:List Value} (hb:h.bl.get b=some (aa vs e op)) (hn:0<n) (hl:o+(aU zero n).length≤vs.length) (h1:(aU zero n).all ew=true) (hlo:h.lo≤b) (κ:Value→Heap→β) :
  jR fl zero (.slice (some ⟨b,o,none⟩) n c) h κ=κ (.tuple #[]) ⟨h.nx,h.bl.aY b (aa (over vs o (aU zero n)) e op),h.lo⟩:=by
 obtain ⟨n,rfl⟩:∃k,n=k+1:=⟨n-1,by omega⟩
 unfold jR
 simp only[hb,aa]
 rw[pW _ _ _ _ _ hl h1,bU _ _ _ _ hlo,vg _ _ _ hl,jD hl]
end Go.Vai
namespace Go.Vai
open Go Go.RowKit Go.WideShapes Go.ChangeShapes
section
variable {P:Program} {α:Type} {cN:α→List Value} {s:Nat} {H:Type} {enc:TypeId × Value→H}
theorem open_sliceArg {W:World} {t e:TypeId} {v:Value} {d:DataW H} {p:List MemPlace} {base:Nat} (he:∀a:α,(cN a).length=s) (hs:0<s) (ht:P.underlying t=some (.slice e)) (hc:P.cellsOf e=s)
  (Ge:∀(n:Nat) (cs:List Value) (d:DataW H × List MemPlace),cs.length=s→DataW.trod enc P W 0 (fun _=>true) true n e cs=some d→∃a:α,cs=cN a)
  (hw:Value.okWide P W .any base t v) (h:DataW.Trod enc P W 0 (fun _=>true) true t v d p):∃L:List α,jW cN W v L:=by
 obtain ⟨fuel,hf⟩:=h
 have hcs:v.cells.toList=[v]:=by
  unfold Value.okWide at hw
  rw[ht] at hw
  simp only at hw
  unfold Cell.okWide Cell.ok at hw
  rw[ht] at hw
  cases v<;>first | rfl | (simp at hw)
 rw[hcs] at hf
 exact MF he hs ht hc Ge hf
end
end Go.Vai

namespace Go.Vai
open Go
theorem Td:(!true)=false:=id rfl
theorem Te:(!false)=true:=id rfl
theorem Zi:decide True=true:=by simp
theorem Zj:decide False=false:=by simp
theorem Ld0 (l:List Value):l.drop 0=l:=id rfl
theorem Lts (a:Value) (l:List Value) (n:Nat):(a::l).take (n+1)=a::l.take n:=id rfl
theorem Lt0 (l:List Value):l.take 0=[]:=id rfl
theorem Lds (a:Value) (l:List Value) (n:Nat):(a::l).drop (n+1)=l.drop n:=id rfl
theorem Lg0 (a:Value) (l:List Value):(a::l)[0]? = some a:=id rfl
theorem Lgs (a:Value) (l:List Value) (n:Nat):(a::l)[n+1]? = l[n]?:=id rfl
theorem Tf (b:Bool):(b && true)=b:=by cases b<;>rfl
theorem Tg (b:Bool):(true && b)=b:=by cases b<;>rfl
theorem Th (b:Bool):(b && b)=b:=by cases b<;>rfl
theorem Lac (p:Value→Bool) (a:Value) (l:List Value):(a::l).all p=(p a && l.all p):=id rfl
theorem Lan (p:Value→Bool):([]:List Value).all p=true:=id rfl
theorem Llc (a:Value) (l:List Value):(a::l).length=l.length+1:=id rfl
theorem Lln:([]:List Value).length=0:=id rfl
theorem Nza (n:Nat):0+n=n:=by omega
theorem Naz (n:Nat):n+0=n:=by omega
theorem Wz2:type_of% (And.intro (And.intro (And.intro (And.intro (And.intro (And.intro @Dg @Dh) (And.intro @zV (And.intro @dV @pV))) (And.intro (And.intro @Mq (And.intro @tF @Mr)) (And.intro @tG (And.intro @jf @zU)))) (And.intro (And.intro (And.intro @Di (And.intro @wI @wJ)) (And.intro @wK (And.intro @uw @uz))) (And.intro (And.intro @ux (And.intro @r4 @wL)) (And.intro @uy (And.intro @HK @HL))))) (And.intro (And.intro (And.intro (And.intro @HM (And.intro @HO @HT)) (And.intro @HU (And.intro @HV @HW))) (And.intro (And.intro @HX (And.intro @HY @Ms)) (And.intro @Mt (And.intro @Dj @zW)))) (And.intro (And.intro (And.intro @wM (And.intro @iK @r5)) (And.intro @HZ (And.intro @pX @zX))) (And.intro (And.intro @zY (And.intro @zZ @Dk)) (And.intro @cq (And.intro @bP @Zg)))))) (And.intro (And.intro (And.intro (And.intro (And.intro @Mu @SS) (And.intro @T.af (And.intro @T.ai @T.wH))) (And.intro (And.intro @Td (And.intro @Te @Zi)) (And.intro @Zj (And.intro @Ld0 @Lts)))) (And.intro (And.intro (And.intro @Lt0 (And.intro @Lds @Lg0)) (And.intro @Lgs (And.intro @Nza @Naz))) (And.intro (And.intro @Mw (And.intro @Mx @pZ)) (And.intro @p5 (And.intro @nu @p7))))) (And.intro (And.intro (And.intro (And.intro @lI (And.intro @oO @Mz)) (And.intro @r6 (And.intro @p9 @Aa))) (And.intro (And.intro @z_ (And.intro @Ab @MH)) (And.intro @MI (And.intro @MJ @Dr)))) (And.intro (And.intro (And.intro @Ds (And.intro @Dt @Ac)) (And.intro @lJ (And.intro @mK @Ie))) (And.intro (And.intro @vj (And.intro @Bl @Tb)) (And.intro @Tc (And.intro @Tf @Tg))))))):=(And.intro (And.intro (And.intro (And.intro (And.intro (And.intro @Dg @Dh) (And.intro @zV (And.intro @dV @pV))) (And.intro (And.intro @Mq (And.intro @tF @Mr)) (And.intro @tG (And.intro @jf @zU)))) (And.intro (And.intro (And.intro @Di (And.intro @wI @wJ)) (And.intro @wK (And.intro @uw @uz))) (And.intro (And.intro @ux (And.intro @r4 @wL)) (And.intro @uy (And.intro @HK @HL))))) (And.intro (And.intro (And.intro (And.intro @HM (And.intro @HO @HT)) (And.intro @HU (And.intro @HV @HW))) (And.intro (And.intro @HX (And.intro @HY @Ms)) (And.intro @Mt (And.intro @Dj @zW)))) (And.intro (And.intro (And.intro @wM (And.intro @iK @r5)) (And.intro @HZ (And.intro @pX @zX))) (And.intro (And.intro @zY (And.intro @zZ @Dk)) (And.intro @cq (And.intro @bP @Zg)))))) (And.intro (And.intro (And.intro (And.intro (And.intro @Mu @SS) (And.intro @T.af (And.intro @T.ai @T.wH))) (And.intro (And.intro @Td (And.intro @Te @Zi)) (And.intro @Zj (And.intro @Ld0 @Lts)))) (And.intro (And.intro (And.intro @Lt0 (And.intro @Lds @Lg0)) (And.intro @Lgs (And.intro @Nza @Naz))) (And.intro (And.intro @Mw (And.intro @Mx @pZ)) (And.intro @p5 (And.intro @nu @p7))))) (And.intro (And.intro (And.intro (And.intro @lI (And.intro @oO @Mz)) (And.intro @r6 (And.intro @p9 @Aa))) (And.intro (And.intro @z_ (And.intro @Ab @MH)) (And.intro @MI (And.intro @MJ @Dr)))) (And.intro (And.intro (And.intro @Ds (And.intro @Dt @Ac)) (And.intro @lJ (And.intro @mK @Ie))) (And.intro (And.intro @vj (And.intro @Bl @Tb)) (And.intro @Tc (And.intro @Tf @Tg)))))))
theorem Wx:type_of% (And.intro (And.intro (And.intro @Lac @Lan) (And.intro @H6 (And.intro @Dn @H7))) (And.intro (And.intro @H8 (And.intro @H9 @H_)) (And.intro @Ia (And.intro @Ib @Th)))):=(And.intro (And.intro (And.intro @Lac @Lan) (And.intro @H6 (And.intro @Dn @H7))) (And.intro (And.intro @H8 (And.intro @H9 @H_)) (And.intro @Ia (And.intro @Ib @Th))))
theorem Wy:type_of% (And.intro (And.intro @pZ (And.intro @p5 @nu)) (And.intro (And.intro @p7 @lI) (And.intro @Llc @Lln))):=(And.intro (And.intro @pZ (And.intro @p5 @nu)) (And.intro (And.intro @p7 @lI) (And.intro @Llc @Lln)))
theorem Wv:type_of% (And.intro @Llc @Lln):=(And.intro @Llc @Lln)
theorem Wz0 (b:Nat):ptrTo b=.pointer (some ⟨b,0,none⟩):=id rfl
theorem Wz1 (n c b:Nat):sliceTo n c b=.slice (some ⟨b,0,none⟩) n c:=id rfl
theorem Wz:type_of% (And.intro (And.intro @Wz0 @Wz1) Wz2):=And.intro (And.intro @Wz0 @Wz1) Wz2
theorem Wd:type_of% (And.intro Wx Wy):=And.intro Wx Wy
end Go.Vai

namespace Go.Vai
open Go Go.RowKit
section
variable {α:Type} {s:Nat} {enc:α→List Value}
def Cut (e s:Nat) (h:Heap) (v:Value) (k:Nat):Prop:=
 (k=0∧v=.slice none 0 0)∨(k=0∧∃b o,v=.slice (some ⟨b,o,none⟩) 0 fT)∨
 (∃b o cap,v=.slice (some ⟨b,o,none⟩) k cap∧k≤cap∧cap≤9223372036854775807)∨
 ∃b vs n,v=.slice (some ⟨b,0,none⟩) k aO∧b<h.nx∧h.bl.get b=some (aa vs e true)∧vs.length=n*s∧k≤n
theorem Cut.le {e s:Nat} {h h':Heap} {v:Value} {k:Nat} (c:Cut e s h v k) (l:Le h h'):Cut e s h' v k:=by
 rcases c with c | c | c | ⟨b,vs,n,c1,c2,c3,c4,c5⟩
 ·exact .inl c
 ·exact .inr (.inl c)
 ·exact .inr (.inr (.inl c))
 ·exact .inr (.inr (.inr ⟨b,vs,n,c1,Nat.lt_of_lt_of_le c2 l.nx,(l.get b c2).trans c3,c4,c5⟩))
theorem Cut.own {a h:Heap} {e:TypeId} {v:Value} {L:List α} (he:∀a:α,(enc a).length=s) (ho:dh enc a e h v L):Cut e s h v L.length:=by
 rcases ho with ⟨rfl,rfl | ⟨b,o,rfl⟩⟩ | ⟨b,rfl,h1,h2,h3,h4⟩
 ·exact .inl ⟨rfl,rfl⟩
 ·exact .inr (.inr (.inl ⟨b,o,0,rfl,Nat.le_refl _,by omega⟩))
 ·exact .inr (.inr (.inr ⟨b,_,L.length,rfl,h2,h4,aX he L,Nat.le_refl _⟩))
theorem wP (he:∀a:α,(enc a).length=s) (L:List α):∀i,(L.flatMap enc).take (i*s)=(L.take i).flatMap enc:=by
 induction L with
 | nil=>intro i; simp
 | cons a L ih=>
  intro i
  cases i with
  | zero=>simp
  | succ i=>
   simp only[List.flatMap_cons,List.take_succ_cons]
   rw[List.take_append,←ih i,he,List.take_of_length_le (by rw[he,Nat.succ_mul]; omega),show (i+1)*s-s=i*s by rw[Nat.succ_mul]; omega]
end
end Go.Vai

namespace Go.Vai
open Go Go.RowKit
open Classical
variable {P:Program}
def Ig (w:World) (B:Nat):Prop:=∃C e fz,w.heap[B]? = some (.cells C e fz)
def nP (w:World) (v:Value):Prop:=
 jt v=true∨v=.slice none 0 0∨(∃a c,v=.slice (some a) 0 c)∨∃B o n c,v=.slice (some ⟨B,o,none⟩) n c∧n≤c∧c≤maxLen∧Ig w B
def lX:Value→Value
 | .slice (some a) 0 c=>.slice (some ⟨0,0,none⟩) 0 fT
 | v=>v
def goodA (w:World):Value→Prop
 | .agg cs=>∀v∈cs.toList,nP w v
 | v=>nP w v
def absA:Value→Value
 | .agg cs=>.agg ⟨cs.toList.map lX⟩
 | v=>lX v
theorem Ad {v:Value} (h:jt v=true):lX v=v:=by cases v<;>first | rfl | cases h
noncomputable def zj (w:World):dQ:=fun b=>if Ig w b then some ⟨b,0,0⟩ else none
noncomputable def zk (w:World) (v:Value) (t:T Value) (o:Nat):T Value:=if nP w v then t.aY o (lX v) else t
theorem Ih (w:World) (v:Value) (t:T Value) {o i:Nat} (h:o≠i):(zk w v t o).get i=t.get i:=by
 unfold zk
 by_cases hg:nP w v
 ·rw[if_pos hg]; exact T.ai _ _ h
 ·rw[if_neg hg]
theorem Ae {w:World} {v:Value} (hg:nP w v) (t:T Value) (o:Nat):(zk w v t o).get o=some (lX v):=by
 unfold zk; rw[if_pos hg]; exact T.af _ _ _
theorem MK {w:World} {v:Value} (hg:¬nP w v) (t:T Value) (o:Nat):(zk w v t o)=t:=by
 unfold zk; rw[if_neg hg]
noncomputable def mL (w:World):List Value→T Value→Nat→T Value
 | [],t,_=>t
 | v::vs,t,o=>mL w vs (zk w v t o) (o+1)
theorem Af (w:World) (vs:List Value):∀(t:T Value) (o i:Nat),i<o→(mL w vs t o).get i=t.get i:=by
 induction vs with
 | nil=>intro t o i _; rfl
 | cons v vs ih=>
  intro t o i h
  show (mL w vs (zk w v t o) (o+1)).get i=_
  rw[ih _ _ _ (by omega),Ih _ _ _ (by omega)]
theorem Gf (w:World) (vs:List Value):∀(t:T Value) (o i:Nat) (v:Value),vs[i]? = some v→nP w v→(mL w vs t o).get (o+i)=some (lX v):=by
 induction vs with
 | nil=>intro t o i v h; simp at h
 | cons u vs ih=>
  intro t o i v h hg
  show (mL w vs (zk w u t o) (o+1)).get _=_
  cases i with
  | zero=>
   simp only[List.getElem?_cons_zero,Option.some.injEq] at h
   subst h
   rw[Af _ _ _ _ _ (by omega)]
   exact Ae hg _ _
  | succ i=>
   rw[show o+(i+1)=(o+1)+i by omega]
   exact ih _ _ _ _ (by simpa using h) hg
theorem Gg (w:World) (vs:List Value):∀(t:T Value) (o i:Nat) (u:Value),(∀j,o≤j→t.get j=none)→(mL w vs t o).get (o+i)=some u→∃v,vs[i]? = some v∧nP w v∧u=lX v:=by
 induction vs with
 | nil=>intro t o i u ht h; rw[show (mL w [] t o)=t from rfl,ht _ (by omega)] at h; cases h
 | cons x vs ih=>
  intro t o i u ht h
  have h:(mL w vs (zk w x t o) (o+1)).get (o+i)=some u:=h
  cases i with
  | zero=>
   rw[Af _ _ _ _ _ (by omega)] at h
   by_cases hg:nP w x
   ·rw[Nat.add_zero,Ae hg] at h; cases h; exact ⟨x,rfl,hg,rfl⟩
   ·rw[MK hg,ht _ (by omega)] at h; cases h
  | succ i=>
   rw[show o+(i+1)=(o+1)+i by omega] at h
   obtain ⟨v,h1,h2,h3⟩:=ih _ _ _ _ (fun j hj=>by rw[Ih _ _ _ (by omega)]; exact ht j (by omega)) h
   exact ⟨v,by simpa using h1,h2,h3⟩
noncomputable def zl (w:World):Nat→T bQ
 | 0=>.nil
 | n+1=>match w.heap[n]? with
  | some (.cells C e _)=>(zl w n).aY n (.ro C.size (mL w C.toList .nil 0) e)
  | _=>zl w n
theorem Dx (w:World):∀n b,(zl w n).get b=if b<n then (match w.heap[b]? with | some (.cells C e _)=>some (.ro C.size (mL w C.toList .nil 0) e) | _=>none) else none:=by
 intro n
 induction n with
 | zero=>intro b; rw[if_neg (by omega)]; exact T.get_nil _
 | succ n ih=>
  intro b
  unfold zl
  by_cases h0:n=b
  ·subst h0
   rw[if_pos (by omega)]
   split
   ·rw[T.af]
   ·rw[ih,if_neg (by omega)]
  ·have:(match w.heap[n]? with | some (.cells C e _)=>(zl w n).aY n (.ro C.size (mL w C.toList .nil 0) e) | _=>zl w n).get b=(zl w n).get b:=by
    split
    ·exact T.ai _ _ h0
    ·rfl
   rw[this,ih]
   by_cases h1:b<n
   ·rw[if_pos h1,if_pos (by omega)]
   ·rw[if_neg h1,if_neg (by omega)]
noncomputable def memH (w:World):Heap:=⟨w.heap.size,zl w w.heap.size,w.heap.size⟩
theorem Dy {w:World} {B:Nat} {C:Array Value} {e:TypeId} {fz:Nat × Nat} (h:w.heap[B]? = some (.cells C e fz)):(memH w).bl.get B=some (.ro C.size (mL w C.toList .nil 0) e):=by
 have hB:B<w.heap.size:=(Array.getElem?_eq_some_iff.1 h).1
 show (zl w _).get B=_
 rw[Dx,if_pos hB,h]
theorem p_ {w:World} {b:Nat} {o:bQ} (h:(memH w).bl.get b=some o):∃C e fz,w.heap[b]? = some (.cells C e fz)∧o=.ro C.size (mL w C.toList .nil 0) e:=by
 have h:(zl w _).get b=some o:=h
 rw[Dx] at h
 split at h
 ·split at h
  ·cases h; exact ⟨_,_,_,by assumption,rfl⟩
  ·cases h
 ·cases h
theorem Bm {w:World} {v:Value} (h:nP w v):VR (zj w) (lX v) v:=by
 rcases h with h | rfl | ⟨a,c,rfl⟩ | ⟨B,o,n,c,rfl,hn,hc,hB⟩
 ·rw[Ad h]; exact VR.mA h
 ·exact VR.fh (Nat.le_refl _)
 ·exact VR.cQ _ _ _
 ·cases n with
  | zero=>exact VR.cQ _ _ _
  | succ n=>
   have hp:zj w B=some ⟨B,0,0⟩:=if_pos hB
   exact VR.slice hp hn (by unfold maxLen at hc; unfold aO; omega)
theorem QC {w:World} {v:Value} (h:goodA w v):VR (zj w) (absA v) v:=by
 cases v with
 | agg cs=>
  refine VR.qU ?_
  show F2 (VR (zj w)) (cs.toList.map lX) cs.toList
  have:F2 (VR (zj w)) (cs.toList.map lX) (cs.toList.map id):=F2.map cs.toList fun x hx=>Bm (h x hx)
  rwa [List.map_id] at this
 | _=>exact Bm h
theorem Zk (w:World):HR P (zj w) (memH w) w:=by
 have dom:∀b pl,zj w b=some pl→pl=⟨b,0,0⟩∧Ig w b:=by
  intro b pl h
  unfold zj at h
  split at h
  ·cases h; exact ⟨rfl,by assumption⟩
  ·cases h
 have lt:∀b,Ig w b→b<w.heap.size:=fun b ⟨C,e,fz,h⟩=>(Array.getElem?_eq_some_iff.1 h).1
 refine ⟨?_,?_,?_,Nat.lt_succ_self _,?_,Nat.le_refl _⟩
 ·intro b o pl h1 h2
  obtain ⟨rfl,_⟩:=dom b pl h2
  obtain ⟨C,e,fz,h3,rfl⟩:=p_ h1
  rw[h3]
  refine ⟨rfl,Nat.le_refl _,fun i v hv hi=>?_⟩
  obtain ⟨u,h4,h5,rfl⟩:=Gg w C.toList .nil 0 i v (fun j _=>T.get_nil _) (by rw[Nat.zero_add]; exact hv)
  rw[Array.getElem?_toList] at h4
  exact ⟨u,h4,Bm h5⟩
 ·intro b pl h
  obtain ⟨rfl,h2⟩:=dom b pl h
  exact ⟨lt b h2,lt b h2⟩
 ·intro b o _ h
  obtain ⟨C,e,fz,h3,_⟩:=p_ h
  exact lt b ⟨C,e,fz,h3⟩
 ·intro b b' o o' pl kZ _ _ _ _ h1 h2 h3
  obtain ⟨rfl,_⟩:=dom b pl h1
  obtain ⟨rfl,_⟩:=dom b' kZ h2
  exact h3
theorem law_mem {f:FuncId} {args:List Value} {w:World} (hg:∀v∈args,goodA w v) (hc:(memH w).lo≤(memH w).nx→CallW P f (args.map absA) (memH w) Bi) :
  Calls P f args.toArray w fun e w'=>e=.returned (.bool true)∧Below w.heap.size w w':=by
 have ha:F2 (VR (zj w)) (args.map absA) (args.map id):=F2.map args fun x hx=>QC (hg x hx)
 rw[List.map_id] at ha
 refine QA (hc (Nat.le_refl _)) ha (Zk w) ?_
 intro b pl h
 unfold zj at h
 split at h
 ·rename_i hm
  obtain ⟨C,e,fz,h3⟩:=hm
  exact ⟨(Array.getElem?_eq_some_iff.1 h3).1,_,Dy h3,trivial⟩
 ·cases h
section
variable {α:Type} {cN:α→List Value} {s:Nat}
theorem jW.good {w:World} {v:Value} {L:List α} (hv:jW cN w v L):nP w v:=by
 rcases hv with ⟨rfl,rfl | ⟨a,cap,rfl⟩⟩ | ⟨B,o,cap,C,e,fz,rfl,hl,hm,hC,hle,hcell⟩
 ·exact .inr (.inl rfl)
 ·exact .inr (.inr (.inl ⟨a,cap,rfl⟩))
 ·exact .inr (.inr (.inr ⟨B,o,_,cap,rfl,hl,hm,C,e,fz,hC⟩))
theorem jW.abs {w:World} {v:Value} {L:List α} (hv:jW cN w v L) (hg:∀a∈L,∀u∈cN a,nP w u) :
  Sl (fun a=>(cN a).map lX) (memH w) (lX v) L∧∀e,Cut e s (memH w) (lX v) L.length:=by
 rcases hv with ⟨rfl,rfl | ⟨a,cap,rfl⟩⟩ | ⟨B,o,cap,C,e,fz,rfl,hl,hm,hC,hle,hcell⟩
 ·exact ⟨Sl.nil _ _ _,fun e=>.inl ⟨rfl,rfl⟩⟩
 ·exact ⟨Sl.nil _ _ _,fun e=>.inr (.inl ⟨rfl,0,0,rfl⟩)⟩
 ·cases hL:L with
  | nil=>exact ⟨Sl.nil _ _ _,fun e=>.inr (.inl ⟨rfl,0,0,rfl⟩)⟩
  | cons x L'=>
   have e1:lX (.slice (some ⟨B,o,none⟩) L.length cap)=.slice (some ⟨B,o,none⟩) L.length cap:=by rw[hL]; rfl
   rw[←hL,e1]
   refine ⟨⟨_,cap,rfl,fun _=>⟨B,o,rfl,(Array.getElem?_eq_some_iff.1 hC).1,?_⟩⟩,fun e=>.inr (.inr (.inl ⟨B,o,cap,rfl,hl,by unfold maxLen at hm; omega⟩))⟩
   rw[Dy hC]
   have efl:L.flatMap (fun a=>(cN a).map lX)=(L.flatMap cN).map lX:=by rw[List.map_flatMap]
   rw[efl]
   refine ⟨C.size,_,e,.inl rfl,by rw[List.length_map]; exact hle,fun j u hj=>?_⟩
   rw[List.getElem?_map,Option.map_eq_some_iff] at hj
   obtain ⟨u',h1,rfl⟩:=hj
   have h2:=hcell j u' h1
   have hm:=List.mem_of_getElem? h1
   rw[List.mem_flatMap] at hm
   obtain ⟨a,ha,hu⟩:=hm
   have:=Gf w C.toList .nil 0 (o+j) u' (by rw[Array.getElem?_toList]; exact h2) (hg a ha u' hu)
   rwa [Nat.zero_add] at this
theorem ML {l:List Value} (h:l.all jt=true):l.map lX=l:=by
 induction l with
 | nil=>rfl
 | cons a l ih=>simp only[List.all_cons,Bool.and_eq_true] at h; rw[List.map_cons,Ad h.1,ih h.2]
theorem jW.Zl {w:World} {v:Value} {L:List α} (hv:jW cN w v L) (hone:∀a:α,(cN a).all jt=true):Sl cN (memH w) (lX v) L∧∀e,Cut e s (memH w) (lX v) L.length:=by
 have:=hv.abs (s:=s) fun a _ u hu=>.inl (List.all_eq_true.1 (hone a) u hu)
 have e:(fun a=>(cN a).map lX)=cN:=by funext a; exact ML (hone a)
 rwa [e] at this
end
end Go.Vai

namespace Go.Vai
open Go Go.RowKit Go.WideShapes Go.ChangeShapes
variable {P:Program}
inductive CK where
 | i (k:IntKind)
 | b
 | s
 | sl (t:TypeId)
def Bn (P:Program) (fl:TypeId→Option (List CK)):List Field→Nat→Option (List CK)
 | [],_=>some []
 | f::fs,off=>match fl f.type with
  | some l=>match Nat.beq f.offset off,Nat.beq (P.cellsOf f.type) l.length with
   | true,true=>match Bn P fl fs (off+l.length) with
    | some r=>some (l++r)
    | none=>none
   | _,_=>none
  | none=>none
def flatK (P:Program):Nat→TypeId→Option (List CK)
 | 0,_=>none
 | n+1,t=>match P.underlying t with
  | some (.int k)=>some [.i k]
  | some .bool=>some [.b]
  | some .string=>some [.s]
  | some (.slice _)=>some [.sl t]
  | some (.struct fs)=>match Bn P (flatK P n) fs.toList 0 with
   | some l=>match Nat.beq (P.cellsOf t) l.length with
    | true=>some l
    | false=>none
   | none=>none
  | _=>none
section
variable {H:Type} {enc:TypeId × Value→H} {w:World}
def UL (enc:TypeId × Value→H) (P:Program) (w:World) (k:CK) (v:Value):Prop:=match k with
 | .i kk=>∃n,v=.int kk n∧(Lit.int kk n).wf=true
 | .b=>∃b,v=.bool b
 | .s=>∃s,v=.string s
 | .sl t=>∃fuel x,DataW.trod enc P w 0 (fun _=>true) true fuel t [v]=some x
theorem QD {fl:TypeId→Option (List CK)} (ih:∀t ks,fl t=some ks→∀fuel cs x,DataW.trod enc P w 0 (fun _=>true) true fuel t cs=some x→F2 (UL enc P w) ks cs) (m:Nat) (cs:List Value) :
  ∀(fs:List Field) (off:Nat) (r:List CK),Bn P fl fs off=some r→(∀f∈fs,∃x,DataW.trod enc P w 0 (fun _=>true) true m f.type ((cs.drop f.offset).take (P.cellsOf f.type))=some x)→
   off+r.length=cs.length→F2 (UL enc P w) r (cs.drop off):=by
 intro fs
 induction fs with
 | nil=>
  intro off r h _ hl
  cases h
  rw[List.drop_of_length_le (by simp at hl; omega)]
  exact .nil
 | cons f fs ihf=>
  intro off r h hf hl
  unfold Bn at h
  split at h<;>try contradiction
  rename_i l wQ
  split at h<;>try contradiction
  rename_i h1 h2
  split at h<;>try contradiction
  rename_i r' hr
  cases h
  have h1:=cT h1
  have h2:=cT h2
  obtain ⟨x,hx⟩:=hf f (.head _)
  have k1:=ih _ _ wQ _ _ _ hx
  rw[h1,h2] at k1
  rw[List.length_append] at hl
  have k2:=ihf (off+l.length) r' hr (fun g hg=>hf g (.tail _ hg)) (by omega)
  have e:cs.drop off=(cs.drop off).take l.length++cs.drop (off+l.length):=by
   rw[←List.drop_drop,List.take_append_drop]
  rw[e]
  exact k1.append k2
theorem MM:∀(n:Nat) (t:TypeId) (ks:List CK),flatK P n t=some ks→∀fuel cs x,DataW.trod enc P w 0 (fun _=>true) true fuel t cs=some x→F2 (UL enc P w) ks cs:=by
 intro n
 induction n with
 | zero=>intro t ks h; cases h
 | succ n ih=>
  intro t ks h fuel cs x hx
  unfold flatK at h
  split at h
  ·rename_i k hu
   cases h
   obtain ⟨n,rfl,_,hwf⟩:=DataW.trod_int hu hx
   exact .cons ⟨n,rfl,hwf⟩ .nil
  ·rename_i hu
   cases h
   obtain ⟨n,rfl,_⟩:=DataW.trod_bool hu hx
   exact .cons ⟨n,rfl⟩ .nil
  ·rename_i hu
   cases h
   obtain ⟨n,rfl,_⟩:=DataW.trod_string hu hx
   exact .cons ⟨n,rfl⟩ .nil
  ·rename_i e hu
   cases h
   have:∃v,cs=[v]:=by
    rcases DataW.trod_slice hu hx with h | h
    ·exact ⟨_,h.1⟩
    ·obtain ⟨a,len,cap,_,_,_,_,h,_⟩:=h
     exact ⟨_,h⟩
   obtain ⟨v,rfl⟩:=this
   exact .cons ⟨fuel,x,hx⟩ .nil
  ·rename_i fs hu
   split at h<;>try contradiction
   rename_i l hl
   split at h<;>try contradiction
   rename_i hc
   cases h
   have hc:=cT hc
   obtain ⟨xs,m,_,_,Lt,hlen,hf⟩:=DataW.trod_struct hu hx
   have key:=QD ih m cs fs.toList 0 ks hl (fun f hf'=>?_) (by omega)
   ·rw[List.drop_zero] at key; exact key
   ·obtain ⟨i,hi,rfl⟩:=List.getElem_of_mem hf'
    have h1:=hf i (fs.toList[i]) (by simp at hi ⊢)
    obtain ⟨y,hy⟩:∃y,xs[i]? = some y:=⟨_,List.getElem?_eq_getElem (by simp at hi; omega)⟩
    rw[hy] at h1
    exact ⟨y,h1⟩
  ·cases h
theorem F2.rj {α γ:Type} {R:α→γ→Prop} {a:α} {l:List α} {m:List γ} (h:F2 R (a::l) m):∃b m',m=b::m'∧R a b∧F2 R l m':=by
 cases h with
 | cons h t=>exact ⟨_,_,rfl,h,t⟩
theorem F2.Zm {α γ:Type} {R:α→γ→Prop} {m:List γ} (h:F2 R [] m):m=[]:=by cases h; rfl
end
section
variable {α:Type} {cN:α→List Value} {s:Nat}
theorem jW.absA {w:World} {v:Value} {L:List α} (hv:jW cN w v L):Go.Vai.absA v=lX v:=by
 rcases hv with ⟨rfl,rfl | ⟨a,cap,rfl⟩⟩ | ⟨B,o,cap,C,e,fz,rfl,_⟩<;>rfl
theorem jW.goodA {w:World} {v:Value} {L:List α} (hv:jW cN w v L):Go.Vai.goodA w v:=by
 have h:=hv.good
 rcases hv with ⟨rfl,rfl | ⟨a,cap,rfl⟩⟩ | ⟨B,o,cap,C,e,fz,rfl,_⟩<;>exact h
theorem jW.read {w:World} {v:Value} {L:List α} (hv:jW cN w v L) (hone:∀a:α,(cN a).all jt=true):Sl cN (memH w) (Go.Vai.absA v) L:=by
 rw[hv.absA]; exact (hv.Zl (s:=1) hone).1
theorem jW.cut {w:World} {v:Value} {L:List α} (hv:jW cN w v L) (hone:∀a:α,(cN a).all jt=true) {e:TypeId} {s:Nat}:Cut e s (memH w) (Go.Vai.absA v) L.length:=by
 rw[hv.absA]; exact (hv.Zl (s:=s) hone).2 e
end
end Go.Vai

namespace Go.Vai
open Go Go.RowKit
section
variable {α:Type} {s:Nat} {enc:α→List Value}
theorem Gh (he:∀a:α,(enc a).length=s) (L:List α):∀i,(L.flatMap enc).drop (i*s)=(L.drop i).flatMap enc:=by
 induction L with
 | nil=>intro i; simp
 | cons a L ih=>
  intro i
  cases i with
  | zero=>simp
  | succ i=>
   simp only[List.flatMap_cons,List.drop_succ_cons]
   rw[List.drop_append,←ih i,he,List.drop_of_length_le (by rw[he,Nat.succ_mul]; omega),show (i+1)*s-s=i*s by rw[Nat.succ_mul]; omega]
   rfl
end
end Go.Vai
