/-
  PROVED HERE: a part of the proof (VaiG, Plain, PM, Q1, Q2, VaiH).
-/
import Derived.Test.YtmjghbjpdoeemaaGreatDoorG2
set_option linter.unusedVariables false
set_option linter.unusedSimpArgs false
set_option maxRecDepth 100000
namespace Go.Vai
open Go Go.RowKit
def dN:Option Nat→Int | some i=>i | none=>-1
def HQ (a b:Heap):Prop:=a=b
theorem MN {α:Type} (L:List α) (F:α→Bool):(decide (0≤dN (L.findIdx? F)))=L.any F:=by
 cases hf:L.findIdx? F with
 | none=>
  rw[List.findIdx?_eq_none_iff] at hf
  have:L.any F=false:=by rw[List.any_eq_false]; intro x hx; simp[hf x hx]
  rw[this]; rfl
 | some i=>
  rw[List.findIdx?_eq_some_iff_getElem] at hf
  obtain ⟨hi,h1,_⟩:=hf
  have:L.any F=true:=List.any_eq_true.2 ⟨_,List.getElem_mem hi,h1⟩
  rw[this]
  exact decide_eq_true (by show (0:Int)≤(i:Int); omega)
theorem jh {α:Type} (L:List α) (F:α→Bool):(L.findIdx? F=none∧∀x∈L,F x=false)∨∃(i:Nat) (p:α),L.findIdx? F=some i∧L[i]? = some p∧F p=true∧∀(j:Nat) (q:α),j<i→L[j]? = some q→F q=false:=by
 cases hf:L.findIdx? F with
 | none=>
  rw[List.findIdx?_eq_none_iff] at hf
  exact .inl ⟨rfl,hf⟩
 | some i=>
  rw[List.findIdx?_eq_some_iff_getElem] at hf
  obtain ⟨hi,h1,h2⟩:=hf
  refine .inr ⟨i,L[i],rfl,List.getElem?_eq_getElem hi,h1,fun j q hj hq=>?_⟩
  have:=h2 j hj
  rw[(List.getElem?_eq_some_iff.1 hq).2] at this
  simpa using this
theorem MO {α:Type} {L:List α} {F:α→Bool} {i:Nat} {p:α} (hp:L[i]? = some p) (h1:F p=true) (h2:∀(j:Nat) (q:α),j<i→L[j]? = some q→F q=false):L.findIdx? F=some i:=by
 rw[List.findIdx?_eq_some_iff_getElem]
 obtain ⟨iJ,hk2⟩:=List.getElem?_eq_some_iff.1 hp
 refine ⟨iJ,by rw[hk2]; exact h1,fun j hj=>?_⟩
 simpa using h2 j _ hj (List.getElem?_eq_getElem (by omega))
theorem MP {α:Type} {L:List α} {F:α→Bool} (h2:∀(j:Nat) (q:α),L[j]? = some q→F q=false):L.findIdx? F=none:=by
 rw[List.findIdx?_eq_none_iff]
 intro p hp
 obtain ⟨j,hj⟩:=List.getElem?_of_mem hp
 exact h2 j p hj
theorem lY {α:Type} {F:α→Bool} {L:List α} {j:Nat} {p:α} (hp:L[j]? = some p):(L.take (j+1)).filter F=(L.take j).filter F++if F p then [p] else []:=by
 obtain ⟨hj,rfl⟩:=List.getElem?_eq_some_iff.1 hp
 rw[List.take_succ_eq_append_getElem hj,List.filter_append]
 cases h:F L[j]<;>simp[h]
noncomputable def jF (P:Program) (ti:TypeId) (s:Nat) (a0 a1:Value) (h:Heap) (κ:KQ):Prop:=
 br False a0 h fun v0 h=>
 b6 [undef,undef,undef,undef,undef,undef,undef,undef,undef,undef,(Value.int .i64 (0)),undef,(Value.int .i64 (0))] h fun l2 h N1=>
 au False P .lss ti false false (slot l2 12) v0 h fun v3 h=>
 ay v3 (
 aq False s a0 (slot l2 12) h fun v4 h=>
 aD False s v4 h fun v5 h=>
 jC P a1 [v5] h fun v6 h=>
 ay v6 (
 κ (slot l2 12) h) (
 au False P .add ti true false (slot l2 12) (Value.int .i64 (1)) h fun v7 h=>
 N1 [v3,(slot l2 12),(slot l2 12),a1,a0,(slot l2 12),v4,v5,v6,(slot l2 9),(slot l2 10),v7,v7] h)) (
 κ (Value.int .i64 (-1)) h)
noncomputable def kP (P:Program) (ti:TypeId) (g:FuncId) (a0 a1:Value) (h:Heap) (κ:KQ):Prop:=
 CallW P g [a0,a1] h fun v0 h=>
 au False P .geq ti true false v0 (Value.int .i64 (0)) h fun v1 h=>
 κ v1 h
noncomputable def Bo (P:Program) (tS e s:Nat) (z:List Value) (a0:Value) (h:Heap) (κ:KQ):Prop:=
 au False P .eql tS true false a0 (Value.slice none 0 0) h fun v0 h=>
 ay v0 (
 κ (Value.slice none 0 0) h) (
 bC False [] [] (aU z 0) fun cs3=>ax False cs3 e false fun o1=>aj False o1 h fun b2 h=>
 bu False e s z false (sliceTo 0 0 b2) a0 h fun v4 h=>
 κ v4 h)
noncomputable def nv (P:Program) (ti:TypeId) (g:FuncId) (e s:Nat) (z:List Value) (a0 a1:Value) (h:Heap) (κ:KQ):Prop:=
 CallW P g [a0,a1] h fun v0 h=>
 au False P .eql ti true false v0 (Value.int .i64 (-1)) h fun v1 h=>
 ay v1 (
 κ a0 h) (
 au False P .add ti true false v0 (Value.int .i64 (1)) h fun v2 h=>
 b6 [undef,undef,undef,undef,undef,undef,undef,undef,undef,undef,undef,undef,undef,undef,undef,undef,undef,undef,undef,v0,undef,undef,v2] h fun l4 h N3=>
 br False a0 h fun v5 h=>
 au False P .lss ti false false (slot l4 22) v5 h fun v6 h=>
 ay v6 (
 dD (fun N7=>
 aq False s a0 (slot l4 22) h fun v9 h=>
 aD False s v9 h fun v10 h=>
 ax False z e false fun o11=>aj False o11 h fun vl h=>
 aI False s (ptrTo vl) v10 h fun bI h=>
 aD False s (ptrTo vl) h fun bO h=>
 jC P a1 [bO] h fun bN h=>
 jv False .not bN h fun v16 h=>
 ay v16 (
 aD False s (ptrTo vl) h fun v17 h=>
 aq False s a0 (slot l4 19) h fun bR h=>
 aI False s bR v17 h fun v19 h=>
 au False P .add ti true false (slot l4 19) (Value.int .i64 (1)) h fun v20 h=>
 N7 [a0,(slot l4 22),v9,v10,(ptrTo vl),a1,bO,bN,v16,a0,(slot l4 19),v17,bR,(slot l4 19),v20,v20] h) (
 N7 [a0,(slot l4 22),v9,v10,(ptrTo vl),a1,bO,bN,v16,(slot l4 13),(slot l4 14),(slot l4 15),(slot l4 16),(slot l4 17),(slot l4 18),(slot l4 19)] h)) fun l8 h=>
 au False P .add ti true false (slot l4 22) (Value.int .i64 (1)) h fun v21 h=>
 N3 [(slot l4 22),a0,v5,v6,(slot l8 0),(slot l8 1),(slot l8 2),(slot l8 3),(slot l8 4),(slot l8 5),(slot l8 6),(slot l8 7),(slot l8 8),(slot l8 9),(slot l8 10),(slot l8 11),(slot l8 12),(slot l8 13),(slot l8 14),(slot l8 15),(slot l4 22),v21,v21] h) (
 sliceB False e s a0 (some (slot l4 19)) none none h fun v22 h=>
 jR False z v22 h fun v23 h=>
 sliceB False e s a0 none (some (slot l4 19)) none h fun v24 h=>
 κ v24 h))
section
variable {P:Program} {α:Type} {enc:α→List Value} {s:Nat} {ti:TypeId} {f g:FuncId}
def UM (enc:α→List Value) (p:α):Value:=.agg ⟨enc p⟩
theorem rm (mix:P.follows .mixedOrders=true) (he:∀a:α,(enc a).length=s) (hb:∀a0 a1 h κ,aM P f [a0,a1] h κ=jF P ti s a0 a1 h κ)
  (L:List α) (F:α→Bool) (h:Heap) (v fv:Value) (κ:KQ) (hv:Sl enc h v L) (hlen:L.length≤1000000)
  (hF:∀p,p∈L→∀(h1:Heap) (κ1:Value→Heap→Prop),Le h h1→(∀h2,Le h1 h2→κ1 (.bool (F p)) h2)→jC P fv [UM enc p] h1 κ1)
  (hk:∀h',Le h h'→κ (.int .i64 (dN (L.findIdx? F))) h'):CallW P f [v,fv] h κ:=by
 refine an mix ?_
 rw[hb]
 unfold jF
 simp only[hv.len]
 refine ⟨fun n l h1=>Le h h1∧∃k:Nat,slot l 12=.int .i64 (k:Int)∧k≤L.length∧n=L.length-k∧∀(j:Nat) p,j<k→L[j]? = some p→F p=false,⟨_,Le.refl _,0,rfl,Nat.zero_le _,rfl,by omega⟩,?_⟩
 rintro n l h1 ⟨hle,k,hs,Ti,rfl,hno⟩
 by_cases hlt:k<L.length
 ·obtain ⟨p,hp⟩:∃p,L[k]? = some p:=⟨_,List.getElem?_eq_getElem hlt⟩
  obtain ⟨b,o,hb,fJ,eX,_⟩:=(hv.le hle).ld he k hp
  simp(disch:=first|omega|simp only[Wd]<;>omega|rfl)only[Wz,hs,fJ,eX]
  refine hF p (List.mem_of_getElem? hp) h1 _ hle ?_
  intro h2 hle2
  cases hc:F p with
  | true=>
   simp(disch:=first|omega|simp only[Wd]<;>omega|rfl)only[Wz,hs]
   have hk2:=hk h2 (hle.trans hle2)
   rw[MO hp hc hno] at hk2
   exact hk2
  | false=>
   simp(disch:=first|omega|simp only[Wd]<;>omega|rfl)only[Wz,hs]
   refine ⟨_,by omega,hle.trans hle2,k+1,rfl,by omega,rfl,fun j q hj hq=>?_⟩
   rcases Nat.lt_or_ge j k with h4 | h4
   ·exact hno j q h4 hq
   ·obtain rfl:j=k:=by omega
    rw[hp] at hq; cases hq; exact hc
 ·simp(disch:=first|omega|simp only[Wd]<;>omega|rfl)only[Wz,hs]
  have hk2:=hk h1 hle
  rw[MP fun j q hq=>hno j q (by have:=(List.getElem?_eq_some_iff.1 hq).1; omega) hq] at hk2
  exact hk2
theorem zm (mix:P.follows .mixedOrders=true) (he:∀a:α,(enc a).length=s) (hg:∀a0 a1 h κ,aM P g [a0,a1] h κ=jF P ti s a0 a1 h κ) (hb:∀a0 a1 h κ,aM P f [a0,a1] h κ=kP P ti g a0 a1 h κ)
  (L:List α) (F:α→Bool) (h:Heap) (v fv:Value) (κ:KQ) (hv:Sl enc h v L) (hlen:L.length≤1000000)
  (hF:∀p,p∈L→∀(h1:Heap) (κ1:Value→Heap→Prop),Le h h1→(∀h2,Le h1 h2→κ1 (.bool (F p)) h2)→jC P fv [UM enc p] h1 κ1)
  (hk:∀h',Le h h'→κ (.bool (L.any F)) h'):CallW P f [v,fv] h κ:=by
 refine an mix ?_
 rw[hb]
 unfold kP
 refine rm mix he hg L F h v fv _ hv hlen hF ?_
 intro h' hl
 have:=hk h' hl
 rw[←MN] at this
 by_cases h0:dN (L.findIdx? F)<0
 ·simp(disch:=first|omega|simp only[Wd]<;>omega|rfl)only[Wz]
  rwa [aN (by omega)] at this
 ·simp(disch:=first|omega|simp only[Wd]<;>omega|rfl)only[Wz]
  rwa [a_ (by omega)] at this
def Ii (P:Program) (tS:TypeId):Prop:=(∀(h:Heap) (n c n' c':Nat),lT P h 100 tS (.slice none n c) (.slice none n' c')=some true)∧∀(h:Heap) (a:Addr) (n c n' c':Nat),lT P h 100 tS (.slice (some a) n c) (.slice none n' c')=some false
theorem MQ {β:Type} {fl:β} {tS:TypeId} (he:Ii P tS) (cn:Bool) (n c n' c':Nat) (h:Heap) (κ:Value→Heap→β):au fl P .eql tS cn false (.slice none n c) (.slice none n' c') h κ=κ (.bool true) h:=by
 simp only[au,he.1,bV]
theorem MR {β:Type} {fl:β} {tS:TypeId} (he:Ii P tS) (cn:Bool) (a:Addr) (n c n' c':Nat) (h:Heap) (κ:Value→Heap→β):au fl P .eql tS cn false (.slice (some a) n c) (.slice none n' c') h κ=κ (.bool false) h:=by
 simp only[au,he.2,bV]
theorem UN (mix:P.follows .mixedOrders=true) (he:∀a:α,(enc a).length=s) (hone:∀a:α,(enc a).all ew=true) (hs0:0<s) (hs1:s≤100) {tS e:TypeId} {z:List Value} (hq:Ii P tS) (hb:∀a0 h κ,aM P f [a0] h κ=Bo P tS e s z a0 h κ)
  (L:List α) (h:Heap) (v:Value) (κ:KQ) (hv:Sl enc h v L) (hlen:L.length≤1000000) (hlo:h.lo≤h.nx) (hk:∀v' h',dh enc h e h' v' L→Le h h'→κ v' h'):CallW P f [v] h κ:=by
 refine an mix ?_
 rw[hb]
 unfold Bo
 have hv0:=hv
 obtain ⟨x,cap,rfl,hx⟩:=hv
 cases x with
 | none=>
  simp(disch:=first|omega|simp only[Wd]<;>omega|rfl)only[Wz,MQ hq]
  by_cases hL:L=[]
  ·exact hk _ _ (.inl ⟨hL,.inl rfl⟩) (Le.refl _)
  ·obtain ⟨b,o,e,_⟩:=hx hL; cases e
 | some a=>
  simp(disch:=first|omega|simp only[Wd]<;>omega|rfl)only[Wz,MR hq]
  have hle:=(Le.refl h).new (aa [] e false)
  refine Gd (enc:=enc) (a:=h) (L:=[]) (M:=L) he hone hs0 hs1 (.inl ⟨rfl,.inr ⟨_,_,rfl⟩⟩) (hv0.le hle) hle (by simpa using hlen) (by show h.lo≤h.nx+1; omega) _ ?_
  intro v' h' ho hl _ _
  exact hk v' h' (by simpa using ho) hl
theorem Gi (he:∀a:α,(enc a).length=s) (L:List α) (i:Nat) (p:α) (hi:i<L.length):over (L.flatMap enc) (i*s) (enc p)=(L.set i p).flatMap enc:=by
 have e:L.set i p=L.take i++[p]++L.drop (i+1):=by
  rw[List.set_eq_take_append_cons_drop,if_pos hi]; simp
 rw[e]
 simp only[over,he,List.flatMap_append,List.flatMap_cons,List.flatMap_nil,List.append_nil]
 rw[wP he,show i*s+s=(i+1)*s by rw[Nat.succ_mul],Gh he]
theorem QE {z:List Value} (hz:z.length=s) (n:Nat):(aU z n).length=n*s:=by
 induction n with
 | zero=>simp[aU]
 | succ n ih=>simp only[aU,List.length_append,ih,hz]; rw[Nat.succ_mul]; omega
theorem QF {z:List Value} (hz:z.all ew=true) (n:Nat):(aU z n).all ew=true:=by
 induction n with
 | zero=>rfl
 | succ n ih=>simp only[aU,List.all_append,ih,hz]; rfl
theorem stG (he:∀a:α,(enc a).length=s) (hone:∀a:α,(enc a).all ew=true) (p:α) {vs:List Value} {e:TypeId} {op:Bool} {b o:Nat} {h:Heap} {κ:Heap→Prop} (h3:o+s≤vs.length) (hlo:h.lo≤b) :
  Qk False (some (aa vs e op)) s b o (enc p) h κ=κ ⟨h.nx,h.bl.aY b (aa (over vs o (enc p)) e op),h.lo⟩:=tG _ _ _ _ _ _ _ _ _ (he p) (hone p) h3 hlo
def uR (e:TypeId) (h:Heap) (v:Value):Prop:=∀b o n c,v=.slice (some ⟨b,o,none⟩) n c→n≠0→b<h.nx∧∃vs op,h.bl.get b=some (aa vs e op)
theorem uR.le {e:TypeId} {h h':Heap} {v:Value} (t:uR e h v) (l:Le h h'):uR e h' v:=fun b o n c hv hn=>by
 obtain ⟨h1,vs,op,h2⟩:=t b o n c hv hn
 exact ⟨Nat.lt_of_lt_of_le h1 l.nx,vs,op,(l.get b h1).trans h2⟩
theorem uR.own {a h:Heap} {e:TypeId} {v:Value} {L:List α} (ho:dh enc a e h v L):uR e h v:=by
 intro b o n c hv hn
 rcases ho with ⟨_,rfl | ⟨b',o',rfl⟩⟩ | ⟨b',rfl,h1,h2,h3,h4⟩
 ·cases hv
 ·cases hv; exact absurd rfl hn
 ·cases hv; exact ⟨h2,_,_,h4⟩
theorem uR.put {e:TypeId} {h:Heap} {v:Value} (t:uR e h v) {d:Nat} (hd:∀vs op,h.bl.get d≠some (aa vs e op)) (o':bQ):uR e ⟨h.nx,h.bl.aY d o',h.lo⟩ v:=by
 intro b o n c hv hn
 obtain ⟨h1,vs,op,h2⟩:=t b o n c hv hn
 refine ⟨h1,vs,op,(T.ai _ _ ?_).trans h2⟩
 rintro rfl
 exact hd vs op h2
theorem Sl.put {e:TypeId} {h:Heap} {v:Value} {L:List α} (hs:Sl enc h v L) (t:uR e h v) {d:Nat} (hd:∀vs op,h.bl.get d≠some (aa vs e op)) (o':bQ):Sl enc ⟨h.nx,h.bl.aY d o',h.lo⟩ v L:=by
 obtain ⟨x,cap,rfl,h2⟩:=hs
 refine ⟨x,cap,rfl,fun hn=>?_⟩
 obtain ⟨b,o,rfl,h3,h4⟩:=h2 hn
 obtain ⟨h1,vs,op,h5⟩:=t b o _ cap rfl (by intro h0; exact hn (List.eq_nil_of_length_eq_zero h0))
 refine ⟨b,o,rfl,h3,?_⟩
 have:(h.bl.aY d o').get b=h.bl.get b:=T.ai _ _ (by rintro rfl; exact hd vs op h5)
 show Has ((h.bl.aY d o').get b) _ _
 rw[this]; exact h4
theorem Gj (mix:P.follows .mixedOrders=true) (he:∀a:α,(enc a).length=s) (hone:∀a:α,(enc a).all ew=true) (hs0:0<s) {e:TypeId} {z:List Value} (hz:z.length=s) (hz1:z.all ew=true) (hs1:s≤1000)
  (hg:∀a0 a1 h κ,aM P g [a0,a1] h κ=jF P ti s a0 a1 h κ) (hb:∀a0 a1 h κ,aM P f [a0,a1] h κ=nv P ti g e s z a0 a1 h κ)
  (a h:Heap) (L:List α) (F:α→Bool) (v fv:Value) (κ:KQ) (hle:Le a h) (ho:dh enc a e h v L) (hlen:L.length≤100000) (hlo:a.lo≤a.nx)
  (hF:∀p,∀(h1:Heap) (κ1:Value→Heap→Prop),Le a h1→(h.nx≤h1.nx∧∀c,c<h.nx→h.bl.get c≠some (aa (L.flatMap enc) e true)→h1.bl.get c=h.bl.get c)→(∀h2,Le h1 h2→κ1 (.bool (F p)) h2)→jC P fv [UM enc p] h1 κ1)
  (hk:∀v' h',Sl enc h' v' (L.filter fun p=>!F p)→Cut e s h' v' (L.filter fun p=>!F p).length→Le a h'→(h.nx≤h'.nx∧∀c,c<h.nx→h.bl.get c≠some (aa (L.flatMap enc) e true)→h'.bl.get c=h.bl.get c)→uR e h' v'→κ v' h'):CallW P f [v,fv] h κ:=by
 refine an mix ?_
 rw[hb]
 unfold nv
 refine rm mix he hg L F h v fv _ ho.sl (by omega) (fun p _ h1 κ1 hl iJ=>hF p h1 κ1 (hle.trans hl) ⟨hl.nx,fun c hc _=>hl.get c hc⟩ iJ) ?_
 intro h1 hle1
 have Ij:=hle.trans hle1
 have n1:=Ij.nx
 have l1:=Ij.lo
 rcases jh L F with ⟨e1,e2⟩ | ⟨i0,p0,e1,e2,e3,e4⟩
 ·simp only[e1,dN]
  simp(disch:=first|omega|simp only[Wd]<;>omega|rfl)only[Wz]
  have:(L.filter fun p=>!F p)=L:=List.filter_eq_self.2 fun p hp=>by simp[e2 p hp]
  rw[this] at hk
  exact hk v h1 (ho.sl.le hle1) ((Cut.own he ho).le hle1) Ij ⟨hle1.nx,fun c hc _=>hle1.get c hc⟩ (uR.own (ho.le hle1))
 ·simp only[e1,dN]
  have hi0:i0<L.length:=(List.getElem?_eq_some_iff.1 e2).1
  have QG:(L.take i0).filter (fun p=>!F p)=L.take i0:=List.filter_eq_self.2 fun p hp=>by
   obtain ⟨j,hj⟩:=List.getElem?_of_mem hp
   have hj':j<i0:=by have:=(List.getElem?_eq_some_iff.1 hj).1; simp at this; omega
   rw[List.getElem?_take_of_lt hj'] at hj
   simp[e4 j p hj' hj]
  rcases ho with ⟨rfl,_⟩ | ⟨b,rfl,b1,Yo,b30,UO⟩
  ·simp at hi0
  have m1:=hle1.nx
  have b2:b<h1.nx:=by omega
  have b3:h1.lo≤b:=by rw[hle1.lo]; exact b30
  have b4:h1.bl.get b=some (aa (L.flatMap enc) e true):=(hle1.get b Yo).trans UO
  simp(disch:=first|omega|simp only[Wd]<;>omega|rfl)only[Wz]
  refine ⟨fun n l h2=>Le a h2∧b<h2.nx∧(h.nx≤h2.nx∧∀c,c<h.nx→c≠b→h2.bl.get c=h.bl.get c)∧∃(j i:Nat) (K:List α),slot l 22=.int .i64 (j:Int)∧slot l 19=.int .i64 (i:Int)∧j≤L.length∧i<j∧n=L.length-j∧K.length=L.length∧
    K.take i=(L.take j).filter (fun p=>!F p)∧K.drop j=L.drop j∧h2.bl.get b=some (aa (K.flatMap enc) e true),
   ⟨_,Ij,b2,⟨m1,fun c hc _=>hle1.get c hc⟩,i0+1,i0,L,rfl,rfl,by omega,by omega,rfl,rfl,?_,rfl,b4⟩,?_⟩
  ·rw[lY e2,QG,e3]; simp
  rintro n l h2 ⟨hle2,hb2,hfr,j,i,K,s1,s2,hj,hij,rfl,hK,Zn,Tj,hg2⟩
  have n2:=hle2.nx
  have l2:=hle2.lo
  have hfl:=aX (enc:=enc) he K
  by_cases hlt:j<L.length
  ·obtain ⟨p,hp⟩:∃p,L[j]? = some p:=⟨_,List.getElem?_eq_getElem hlt⟩
   have hpK:K[j]? = some p:=by
    have:(K.drop j)[0]? = (L.drop j)[0]?:=by rw[Tj]
    simpa[hp] using this
   have aeD:Sl enc h2 (.slice (some ⟨b,0,none⟩) L.length aO) K:=⟨_,aO,by rw[hK],fun _=>⟨b,0,rfl,hb2,by rw[hg2]; exact Has.all⟩⟩
   obtain ⟨b',o',hb',fJ,eX,_⟩:=aeD.ld he j hpK
   have bat:=fJ Nat 0 h2 fun v _=>match v with | .pointer (some a)=>a.block | _=>0
   rw[aW _ _ _ _ _ _ _ _ hlt] at bat
   have SV:b=b':=bat
   subst SV
   have hep:=he p
   have hop:=hone p
   have htk:(enc p).take s=enc p:=by rw[←hep,List.take_length]
   have Un:=oO z (enc p) (by omega)
   simp(disch:=first|omega|simp only[Wd]<;>omega|rfl)only[Wz,s1,s2,fJ,eX]
   refine ⟨fun l h'=>Le a h'∧b<h'.nx∧(h.nx≤h'.nx∧∀c,c<h.nx→c≠b→h'.bl.get c=h.bl.get c)∧∃(i':Nat) (K':List α),slot l 15=.int .i64 (i':Int)∧i'<j+1∧K'.length=L.length∧
    K'.take i'=(L.take (j+1)).filter (fun p=>!F p)∧K'.drop (j+1)=L.drop (j+1)∧h'.bl.get b=some (aa (K'.flatMap enc) e true),?_,?_⟩
   ·simp(disch:=first|omega|simp only[Wd]<;>omega|rfl)only[Wz,s1,s2,fJ,eX,stG he hone p,htk,Un]
    have Zo:=hle2.new (aa (enc p) e false)
    refine hF p _ _ Zo ⟨by have:=hfr.1; show h.nx≤h2.nx+1; omega,fun c hc hne=>(T.ai _ _ (by have:=hfr.1; omega)).trans (hfr.2 c hc (fun e=>hne (by rw[e]; exact UO)))⟩ ?_
    intro h3 fk
    have n3:=fk.nx
    have l3:=fk.lo
    dsimp only at n3 l3
    have g3:h3.bl.get h2.nx=some (aa (enc p) e false):=(fk.get h2.nx (Nat.lt_succ_self _)).trans (T.af _ _ _)
    have gb3:h3.bl.get b=some (aa (K.flatMap enc) e true):=by
     rw[fk.get b (by show b<h2.nx+1; omega)]
     show (h2.bl.aY h2.nx _).get b=_
     rw[T.ai _ _ (by omega)]; exact hg2
    have Ag:=Zo.trans fk
    have MS:h.nx≤h3.nx∧∀c,c<h.nx→c≠b→h3.bl.get c=h.bl.get c:=by
     have q0:=hfr.1
     refine ⟨by omega,fun c hc hne=>?_⟩
     have e1:(h2.bl.aY h2.nx (aa (enc p) e false)).get c=h2.bl.get c:=T.ai _ _ (by omega)
     exact (fk.get c (by show c<h2.nx+1; omega)).trans (e1.trans (hfr.2 c hc hne))
    cases hc:F p with
    | true=>
     simp(disch:=first|omega|simp only[Wd]<;>omega|rfl)only[Wz,s2]
     exact ⟨Ag,by omega,MS,i,K,rfl,by omega,hK,by rw[lY hp,hc]; simpa using Zn,by rw[←List.drop_drop,Tj,List.drop_drop],gb3⟩
    | false=>
     have Ah:=Gi he K i p (by omega)
     have hbd:i*s+s≤(K.flatMap enc).length:=by rw[hfl,←Nat.succ_mul]; exact Nat.mul_le_mul_right _ (by omega)
     simp(disch:=first|omega|simp only[Wd]<;>omega|rfl)only[Wz,s2,g3,gb3,aW,stG he hone p,htk,Ah]
     refine ⟨Ag.set b1 _,by omega,⟨MS.1,fun c hc hne=>(T.ai _ _ (fun e=>hne e.symm)).trans (MS.2 c hc hne)⟩,i+1,K.set i p,rfl,by omega,by simpa using hK,?_,?_,rfl⟩
     ·rw[lY hp,hc,←Zn]
      have hiK:i<K.length:=by omega
      rw[List.take_succ_eq_append_getElem (by simpa using hiK)]
      simp[List.take_set_of_le]
     ·rw[List.drop_set_of_lt (by omega),←List.drop_drop,Tj,List.drop_drop]
   ·rintro l8 h3 ⟨fk,hb3,MS,i',K',s3,hi',hK',aeE,aeF,hg3⟩
    simp(disch:=first|omega|simp only[Wd]<;>omega|rfl)only[Wz,s1,s3]
    exact ⟨_,by omega,fk,hb3,MS,j+1,i',K',rfl,rfl,by omega,hi',rfl,hK',aeE,aeF,hg3⟩
  ·have hjL:j=L.length:=by omega
   subst hjL
   rw[List.take_length] at Zn
   have r1:=QE hz (L.length-i)
   have r2:=QF hz1 (L.length-i)
   have hbd:i*s+(L.length-i)*s=L.length*s:=by rw[←Nat.add_mul]; congr 1; omega
   simp(disch:=first|omega|simp only[Wd]<;>omega|rfl)only[Wz,s1,s2,wO (n:=L.length) (i:=i) hs0 hg2 (by rw[hfl,hK]) (by omega)]
   rw[Dw hg2 (by omega) (by rw[r1,hfl,hK]; omega) r2 (by omega)]
   have UP:(over (K.flatMap enc) (i*s) (aU z (L.length-i))).length=L.length*s:=by
    rw[jD (by rw[r1,hfl,hK]; omega),hfl,hK]
   rw[r7 (n:=L.length) (i:=i) (vs:=over (K.flatMap enc) (i*s) (aU z (L.length-i))) hs0 (T.af _ _ _) UP (by omega) (by omega)]
   have Tk:(L.filter fun p=>!F p).length=i:=by rw[←Zn]; simp; omega
   refine hk _ _ ⟨_,aO,by rw[Tk],fun _=>⟨b,0,rfl,hb2,?_⟩⟩ (.inr (.inr (.inr ⟨b,_,L.length,by rw[Tk],hb2,T.af _ _ _,UP,by omega⟩))) (hle2.set b1 _) ⟨hfr.1,fun c hc hne=>(T.ai _ _ (fun e=>hne (by rw[←e]; exact UO))).trans (hfr.2 c hc (fun e=>hne (by rw[e]; exact UO)))⟩ ?_
   rotate_left
   ·intro b' o' n' c' yU _
    cases yU
    exact ⟨hb2,_,_,T.af _ _ _⟩
   have hh:Has (some (aa (over (K.flatMap enc) (i*s) (aU z (L.length-i))) e true)) 0 (((over (K.flatMap enc) (i*s) (aU z (L.length-i))).drop 0).take (i*s)):=Has.cells (by rw[UP]; exact Nat.le_trans (by omega) (Nat.le_refl _))
   have e9:((over (K.flatMap enc) (i*s) (aU z (L.length-i))).drop 0).take (i*s)=(L.filter fun p=>!F p).flatMap enc:=by
    have akc:i*s≤K.length*s:=Nat.mul_le_mul_right _ (by omega)
    rw[←Zn,List.drop_zero,over,List.append_assoc,List.take_append_of_le_length (by rw[List.length_take,hfl]; omega),List.take_take,Nat.min_self,wP he]
   rw[e9] at hh
   show Has ((h2.bl.aY b _).get b) 0 _
   rw[T.af]; exact hh
end
end Go.Vai

namespace Go.Clashes
structure H4 where
 x:Int
 t:Int
 r:Int
 m:Int
def tab:List (List Bool):=[
 [true,true,true,true,true,true,true],
 [true,true,true,true,true,true,false],
 [true,true,true,false,false,false,false],
 [true,true,false,true,false,true,false],
 [true,true,false,false,false,false,false],
 [true,true,false,true,false,false,false],
 [true,false,false,false,false,false,false]]
def cmp (a b:Int):Bool:=decide (0≤a) && decide (a≤6) && decide (0≤b) && decide (b≤6) && ((tab.getD a.toNat []).getD b.toNat false)
theorem r8 (a b:Int):cmp a b=cmp b a:=by
 by_cases h:(0≤a∧a≤6)∧(0≤b∧b≤6)
 ·have key:∀i,i<7→∀j,j<7→cmp (i:Nat) (j:Nat)=cmp (j:Nat) (i:Nat):=by decide
  have:=key a.toNat (by omega) b.toNat (by omega)
  rwa [show ((a.toNat:Nat):Int)=a by omega,show ((b.toNat:Nat):Int)=b by omega] at this
 ·have h1:cmp a b=false:=by
   cases hq:cmp a b with
   | false=>rfl
   | true=>simp[cmp] at hq; omega
  have h2:cmp b a=false:=by
   cases hq:cmp b a with
   | false=>rfl
   | true=>simp[cmp] at hq; omega
  rw[h1,h2]
def bad (p q:H4):Bool:=(p.t == q.t && p.r == q.r) && !(p.x == q.x) && !cmp p.m q.m
end Go.Clashes

namespace Go.Vai
open Go Go.Clashes
def kn (m:Int):Bool:=decide (0≤m) && decide (m≤6)
def aeG:List (List Bool):=[
 [true,false,false,false,false,false,false],
 [true,true,false,false,false,false,false],
 [true,true,true,false,false,false,false],
 [true,true,false,true,false,false,false],
 [true,true,true,true,true,false,false],
 [true,true,false,true,false,true,false],
 [true,true,true,true,true,true,true]]
def ny (a b:Int):Bool:=kn a && kn b && ((aeG.getD a.toNat []).getD b.toNat false)
def cU (a b:Int):Int:=if (kn a && kn b)=true then (if ny a b then a else if ny b a then b else if ny 4 a && ny 4 b then 4 else 6) else 0
theorem lZ (n:Nat):kn (.negSucc n)=false:=by
 have h:¬(0:Int)≤.negSucc n:=by omega
 unfold kn; rw[aN h]; rfl
theorem l_ (n:Nat):kn (.ofNat (n+7))=false:=by
 have h:¬(Int.ofNat (n+7))≤6:=by show ¬((n+7:Nat):Int)≤6; omega
 unfold kn; rw[aN h,Bool.and_false]
theorem Bp {a b:Int} (h:ny a b=true):kn a=true∧kn b=true:=by
 simp only[ny,Bool.and_eq_true] at h; exact h.1
theorem Tl {a b:Int} (h:kn a=false):ny a b=false:=by simp[ny,h]
theorem Tm {a b:Int} (h:kn b=false):ny a b=false:=by simp[ny,h]
theorem Bq {a b:Int} (h:kn a=false):cU a b=0:=by simp[cU,h]
theorem Br {a b:Int} (h:kn b=false):cU a b=0:=by simp[cU,h]
theorem Dz {a b:Int} (h:kn a=false):cmp a b=false:=by
 unfold cmp; unfold kn at h; rw[h]; rfl
theorem Ik {a b:Int} (h:kn b=false):cmp a b=false:=by rw[r8]; exact Dz h
theorem Ai (a:Int):(∃i:Nat,i<7∧a=Int.ofNat i)∨(∃n:Nat,a=Int.negSucc n)∨∃n:Nat,a=Int.ofNat (n+7):=by
 cases a with
 | negSucc n=>exact .inr (.inl ⟨n,rfl⟩)
 | ofNat i=>
  rcases Nat.lt_or_ge i 7 with h | h
  ·exact .inl ⟨i,h,rfl⟩
  ·exact .inr (.inr ⟨i-7,by congr 1; omega⟩)
theorem seven {p:Nat→Prop} (h0:p 0) (h1:p 1) (h2:p 2) (h3:p 3) (h4:p 4) (h5:p 5) (h6:p 6):∀i,i<7→p i:=by
 intro i hi
 have:i=0∨i=1∨i=2∨i=3∨i=4∨i=5∨i=6:=by omega
 rcases this with rfl | rfl | rfl | rfl | rfl | rfl | rfl<;>assumption
theorem mM {P:Program} (mix:P.follows .mixedOrders=true) {f:FuncId} {F:Int→Int→Value} (h1:∀i,i<7→∀j,j<7→bF P 200 f [.int .i64 (.ofNat i),.int .i64 (.ofNat j)] (F (.ofNat i) (.ofNat j))=true)
  (h2:∀(n:Nat) (b:Int),bF P 200 f [.int .i64 (.negSucc n),.int .i64 b] (F (.negSucc n) b)=true) (h3:∀(n:Nat) (b:Int),bF P 200 f [.int .i64 (.ofNat (n+7)),.int .i64 b] (F (.ofNat (n+7)) b)=true)
  (h4:∀i,i<7→∀n:Nat,bF P 200 f [.int .i64 (.ofNat i),.int .i64 (.negSucc n)] (F (.ofNat i) (.negSucc n))=true) (h5:∀i,i<7→∀n:Nat,bF P 200 f [.int .i64 (.ofNat i),.int .i64 (.ofNat (n+7))] (F (.ofNat i) (.ofNat (n+7)))=true)
  (a b:Int) {h:Heap} {κ:Value→Heap→Prop} (hk:κ (F a b) h):CallW P f [.int .i64 a,.int .i64 b] h κ:=by
 refine vh mix (n:=200) ?_ hk
 rcases Ai a with ⟨i,hi,rfl⟩ | ⟨n,rfl⟩ | ⟨n,rfl⟩
 ·rcases Ai b with ⟨j,hj,rfl⟩ | ⟨m,rfl⟩ | ⟨m,rfl⟩
  ·exact h1 i hi j hj
  ·exact h4 i hi m
  ·exact h5 i hi m
 ·exact h2 n b
 ·exact h3 n b
theorem nD {a:Int} (h:kn a=true):∃i:Nat,i<7∧a=(i:Int):=by
 unfold kn at h
 simp only[Bool.and_eq_true,decide_eq_true_eq] at h
 exact ⟨a.toNat,by omega,by omega⟩
theorem QH:∀i,i<7→∀j,j<7→ny (i:Nat) (j:Nat)=true→ny (j:Nat) (i:Nat)=true→i=j:=by decide +kernel
theorem MT {a b:Int} (h1:ny a b=true) (h2:ny b a=true):a=b:=by
 obtain ⟨i,hi,rfl⟩:=nD (Bp h1).1
 obtain ⟨j,hj,rfl⟩:=nD (Bp h1).2
 rw[QH i hi j hj h1 h2]
theorem QI:∀i,i<7→ny (i:Nat) 0=true:=by decide +kernel
theorem MU {a:Int} (h:kn a=true):ny a 0=true:=by
 obtain ⟨i,hi,rfl⟩:=nD h
 exact QI i hi
theorem UQ:∀i,i<7→∀j,j<7→(ny (i:Nat) (cU (i:Nat) (j:Nat))=true→ny (i:Nat) (j:Nat)=true)∧ny (cU (i:Nat) (j:Nat)) (i:Nat)=true∧ny (cU (i:Nat) (j:Nat)) (j:Nat)=true∧(j≠0→cU (i:Nat) (j:Nat)≠0)∧(ny (i:Nat) (j:Nat)=true→cU (i:Nat) (j:Nat)=(i:Nat)):=by decide +kernel
theorem MV {a b:Int} (ha:kn a=true) (hb:kn b=true):(ny a (cU a b)=true→ny a b=true)∧ny (cU a b) a=true∧ny (cU a b) b=true∧(b≠0→cU a b≠0)∧(ny a b=true→cU a b=a):=by
 obtain ⟨i,hi,rfl⟩:=nD ha
 obtain ⟨j,hj,rfl⟩:=nD hb
 obtain ⟨h1,h2,h3,h4,h5⟩:=UQ i hi j hj
 exact ⟨h1,h2,h3,fun hb=>h4 (by omega),h5⟩
theorem UR {a b:Int} (ha:kn a=true) (hb:kn b=true):kn (cU a b)=true:=(Bp (MV ha hb).2.1).1
end Go.Vai

namespace Go.Vai
open Go Go.Clashes
structure R5 where
 id:Int
 x:Int
 m:Int
 w:Int
 s:Int
def bq (r:R5):List Value:=[.int .i64 r.id,.int .i64 r.x,.int .i64 r.m,.int .i64 r.w,.int .i64 r.s]
theorem bz (r:R5):(bq r).length=5:=rfl
theorem jG (r:R5):(bq r).all ew=true:=rfl
theorem US {p q:R5}:p=q↔(p.id=q.id∧p.x=q.x∧p.m=q.m∧p.w=q.w∧p.s=q.s):=by
 cases p; cases q; simp
instance:DecidableEq R5:=fun p q=>decidable_of_iff _ US.symm
def nQ (r:R5):Bool:=decide (r.m≠0) && decide (0<r.s)
theorem r9 (r:R5):nQ r=true↔r.m≠0∧0<r.s:=by simp[nQ]
def r_ (Q:List R5) (r:R5) (o:Option Nat):Bool:=match o with
 | none=>true
 | some b=>match Q[b]? with
  | some q=>decide (r.s<q.s)
  | none=>false
def best (Q:List R5):Nat→Option Nat
 | 0=>none
 | i+1=>match Q[i]? with
  | some r=>if (nQ r && r_ Q r (best Q i))=true then some i else best Q i
  | none=>best Q i
def cW (Q:List R5):Option Nat:=match best Q Q.length with | some b=>some b | none=>Q.findIdx? (fun r=>decide (r.m=0))
def ej (Q:List R5) (r:R5):Bool:=!Q.any fun o=>decide (o.id≠r.id) && decide (o.m≠0) && !cmp o.m r.w
theorem vm (Q:List R5):∀i b,best Q i=some b→b<i∧∃r,Q[b]? = some r∧nQ r=true:=by
 intro i
 induction i with
 | zero=>intro b h; cases h
 | succ i ih=>
  intro b h
  unfold best at h
  split at h
  ·rename_i r hr
   split at h
   ·rename_i hc
    cases h
    rw[Bool.and_eq_true] at hc
    exact ⟨Nat.lt_succ_self _,r,hr,hc.1⟩
   ·obtain ⟨h1,h2⟩:=ih b h
    exact ⟨by omega,h2⟩
  ·obtain ⟨h1,h2⟩:=ih b h
   exact ⟨by omega,h2⟩
theorem tJ (Q:List R5):∀i,best Q i=none→∀(j:Nat) (r:R5),j<i→Q[j]? = some r→nQ r=false:=by
 intro i
 induction i with
 | zero=>intro _ j r h; omega
 | succ i ih=>
  intro h j r hj hr
  unfold best at h
  split at h
  ·rename_i q hq
   split at h
   ·cases h
   ·rename_i hc
    by_cases hji:j=i
    ·subst hji
     rw[hq] at hr; cases hr
     rw[h] at hc
     simpa[r_] using hc
    ·exact ih h j r (by omega) hr
  ·rename_i hq
   by_cases hji:j=i
   ·subst hji; rw[hq] at hr; cases hr
   ·exact ih h j r (by omega) hr
theorem Gk {Q:List R5} (h:cW Q=none):∀r∈Q,r.m≠0∧¬0<r.s:=by
 unfold cW at h
 split at h
 ·cases h
 ·rename_i hb
  rw[List.findIdx?_eq_none_iff] at h
  intro r hr
  obtain ⟨j,hj⟩:=List.getElem?_of_mem hr
  have h1:=tJ Q _ hb j r (List.getElem?_eq_some_iff.1 hj).1 hj
  have h2:r.m≠0:=by simpa using h r hr
  refine ⟨h2,fun h3=>?_⟩
  rw[(r9 r).2 ⟨h2,h3⟩] at h1; cases h1
theorem nE {Q:List R5} {i:Nat} (h:cW Q=some i):∃r,Q[i]? = some r∧(nQ r=true∨(r.m=0∧(∀q∈Q,nQ q=false)∧∀(j:Nat) (q:R5),j<i→Q[j]? = some q→q.m≠0)):=by
 unfold cW at h
 split at h
 ·rename_i b hb
  cases h
  obtain ⟨_,r,h1,h2⟩:=vm Q _ _ hb
  exact ⟨r,h1,.inl h2⟩
 ·rename_i hb
  have hno:∀q∈Q,nQ q=false:=fun q hq=>by
   obtain ⟨j,hj⟩:=List.getElem?_of_mem hq
   exact tJ Q _ hb j q (List.getElem?_eq_some_iff.1 hj).1 hj
  rcases jh Q (fun r=>decide (r.m=0)) with ⟨e,_⟩ | ⟨k,p,e,hp,h1,h2⟩
  ·rw[e] at h; cases h
  ·rw[e] at h; cases h
   exact ⟨p,hp,.inr ⟨by simpa using h1,hno,fun j q hj hq=>by simpa using h2 j q hj hq⟩⟩
theorem iL (Q:List R5) (r:R5):ej Q r=true↔∀o∈Q,o.id≠r.id→o.m≠0→cmp o.m r.w=true:=by
 unfold ej
 rw[Bool.not_eq_true',List.any_eq_false]
 constructor
 ·intro h o ho h1 h2
  have:=h o ho
  simpa[h1,h2] using this
 ·intro h o ho hc
  simp only[Bool.and_eq_true,decide_eq_true_eq,Bool.not_eq_true'] at hc
  rw[h o ho hc.1.1 hc.1.2] at hc
  cases hc.2
structure MW (W:Int) (r:R5):Prop where
 id:0≤r.id
 km:kn r.m=true
 kw:kn r.w=true
 s0:0≤r.s
 sW:r.s≤W
 wait:0<r.s→ny r.m r.w=false
 hold:r.s=0→r.m≠0∧r.w=r.m
structure iC (a b:R5):Prop where
 id:a.id≠b.id
 x:a.x≠b.x
 s:0<a.s→a.s≠b.s
 cm:a.m≠0→b.m≠0→cmp a.m b.m=true
 ord:a.m=0→b.m=0∧a.s<b.s
structure VQ (Q:List R5) (W:Int):Prop where
 w0:0≤W
 right:∀r∈Q,MW W r
 pair:Q.Pairwise iC
theorem cZ {α:Type} {R:α→α→Prop} {L:List α}:L.Pairwise R↔∀(i j:Nat) (p q:α),i<j→L[i]? = some p→L[j]? = some q→R p q:=by
 rw[List.pairwise_iff_getElem]
 constructor
 ·intro h i j p q hij hp hq
  obtain ⟨hi,rfl⟩:=List.getElem?_eq_some_iff.1 hp
  obtain ⟨hj,rfl⟩:=List.getElem?_eq_some_iff.1 hq
  exact h i j hi hj hij
 ·intro h i j hi hj hij
  exact h i j _ _ hij (List.getElem?_eq_getElem hi) (List.getElem?_eq_getElem hj)
theorem rq {α:Type} {R:α→α→Prop} {L:List α} {i:Nat} {p:α} (h:L.Pairwise R) (h1:∀(j:Nat) (q:α),j<i→L[j]? = some q→R q p) (h2:∀(j:Nat) (q:α),i<j→L[j]? = some q→R p q):(L.set i p).Pairwise R:=by
 rw[cZ] at *
 intro a b u v hab hu hv
 rw[List.getElem?_set] at hu hv
 by_cases ha:i=a
 ·subst ha
  rw[if_pos rfl] at hu
  rw[if_neg (by omega)] at hv
  split at hu
  ·cases hu; exact h2 b v hab hv
  ·cases hu
 ·rw[if_neg ha] at hu
  by_cases hb:i=b
  ·subst hb
   rw[if_pos rfl] at hv
   split at hv
   ·cases hv; exact h1 a u hab hu
   ·cases hv
  ·rw[if_neg hb] at hv
   exact h a b u v hab hu hv
theorem mem_set {α:Type} {L:List α} {i:Nat} {p q:α} (h:q∈L.set i p):q=p∨q∈L:=by
 rcases List.mem_or_eq_of_mem_set h with h | h
 ·exact .inr h
 ·exact .inl h
theorem wR {Q:List R5} (h:Q.Pairwise iC) {i j:Nat} {p q:R5} (hp:Q[i]? = some p) (hq:Q[j]? = some q) (he:p.id=q.id):i=j:=by
 rcases Nat.lt_trichotomy i j with h1 | h1 | h1
 ·exact absurd he (cZ.1 h i j p q h1 hp hq).id
 ·exact h1
 ·exact absurd he.symm (cZ.1 h j i q p h1 hq hp).id
theorem UT {Q:List R5} (h:Q.Pairwise iC) {p q:R5} (hp:p∈Q) (hq:q∈Q) (he:p.id=q.id):p=q:=by
 obtain ⟨i,hi⟩:=List.getElem?_of_mem hp
 obtain ⟨j,hj⟩:=List.getElem?_of_mem hq
 have:=wR h hi hj he
 subst this
 rw[hi] at hj; cases hj; rfl
theorem VQ.mono {Q:List R5} {W W':Int} (v:VQ Q W) (h:W≤W'):VQ Q W':=
 ⟨Int.le_trans v.w0 h,fun r hr=>let a:=v.right r hr; ⟨a.id,a.km,a.kw,a.s0,Int.le_trans a.sW h,a.wait,a.hold⟩,v.pair⟩
theorem VQ.nil:VQ [] 0:=⟨Int.le_refl _,fun r hr=>(by cases hr),List.Pairwise.nil⟩
theorem VQ.filter {Q:List R5} {W:Int} (v:VQ Q W) (F:R5→Bool):VQ (Q.filter F) W:=
 ⟨v.w0,fun r hr=>v.right r (List.mem_filter.1 hr).1,v.pair.sublist List.filter_sublist⟩
theorem wS {W:Int} {r:R5} (h:MW W r) (hs:0<r.s):r.w≠0:=by
 intro e
 have:=h.wait hs
 rw[e,MU h.km] at this; cases this
def cz (r:R5):R5:=⟨r.id,r.x,r.w,r.w,0⟩
theorem VQ.Il {Q:List R5} {W:Int} (v:VQ Q W) {i:Nat} {r:R5} (hf:cW Q=some i) (hr:Q[i]? = some r) (hfit:ej Q r=true):VQ (Q.set i (cz r)) W:=by
 obtain ⟨r',hr',oP⟩:=nE hf
 rw[hr] at hr'; cases hr'
 have R:=v.right r (List.mem_of_getElem? hr)
 have hs:0<r.s:=by
  rcases oP with h | ⟨h,_⟩
  ·exact ((r9 r).1 h).2
  ·rcases Int.lt_or_eq_of_le R.s0 with h0 | h0
   ·exact h0
   ·exact absurd h (R.hold h0.symm).1
 have hw:=wS R hs
 rw[iL] at hfit
 refine ⟨v.w0,?_,?_⟩
 ·intro q hq
  rcases mem_set hq with rfl | hq
  ·exact ⟨R.id,R.kw,R.kw,Int.le_refl _,v.w0,fun h=>absurd h (Int.lt_irrefl _),fun _=>⟨hw,rfl⟩⟩
  ·exact v.right q hq
 ·refine rq v.pair ?_ ?_
  ·intro j q hj hq
   have P:=cZ.1 v.pair j i q r hj hq hr
   have hm:q.m≠0:=by
    rcases oP with h | ⟨_,_,h⟩
    ·intro e; exact ((r9 r).1 h).1 (P.ord e).1
    ·exact h j q hj hq
   exact ⟨P.id,P.x,fun h=>(fun e:q.s=0=>by omega),fun h1 _=>hfit q (List.mem_of_getElem? hq) P.id h1,fun e=>absurd e hm⟩
  ·intro j q hj hq
   have P:=cZ.1 v.pair i j r q hj hr hq
   refine ⟨P.id,P.x,fun h=>absurd h (Int.lt_irrefl _),fun _ h2=>?_,fun e=>absurd e hw⟩
   rw[r8]
   exact hfit q (List.mem_of_getElem? hq) (fun e=>P.id e.symm) h2
def dO (Q:List R5):Nat:=(Q.filter fun r=>decide (0<r.s)).length
theorem nF {Q:List R5} {i:Nat} {r:R5} (hr:Q[i]? = some r) (hs:0<r.s):dO (Q.set i (cz r))+1=dO Q:=by
 obtain ⟨hi,rfl⟩:=List.getElem?_eq_some_iff.1 hr
 have e1:Q=Q.take i++Q[i]::Q.drop (i+1):=by
  rw[List.getElem_cons_drop,List.take_append_drop]
 have e2:Q.set i (cz Q[i])=Q.take i++cz Q[i]::Q.drop (i+1):=by
  rw[List.set_eq_take_append_cons_drop,if_pos hi]
 have hg:decide (0<(cz Q[i]).s)=false:=by simp[cz]
 have h1:dO Q=((Q.take i).filter fun r=>decide (0<r.s)).length+(((Q.drop (i+1)).filter fun r=>decide (0<r.s)).length+1):=by
  conv=>lhs; rw[e1]
  unfold dO
  rw[List.filter_append,List.filter_cons,if_pos (by simpa using hs)]
  simp
 rw[e2,h1]
 unfold dO
 rw[List.filter_append,List.filter_cons,if_neg (by rw[hg]; simp)]
 simp; omega
def cw:Nat→List R5→List R5 × List Int
 | 0,Q=>(Q,[])
 | n+1,Q=>match cW Q with
  | none=>(Q,[])
  | some i=>match Q[i]? with
   | none=>(Q,[])
   | some r=>if ej Q r=true then ((cw n (Q.set i (cz r))).1,r.id::(cw n (Q.set i (cz r))).2) else (Q,[])
def oQ (Q:List R5):Prop:=∀i r,cW Q=some i→Q[i]? = some r→ej Q r=false
def Gl (r:R5):Int × Int:=(r.id,r.x)
theorem iM {Q:List R5} {W:Int} (v:VQ Q W) {i:Nat} {r:R5} (hf:cW Q=some i) (hr:Q[i]? = some r):0<r.s:=by
 obtain ⟨r',hr',oP⟩:=nE hf
 rw[hr] at hr'; cases hr'
 have R:=v.right r (List.mem_of_getElem? hr)
 rcases oP with h | ⟨h,_⟩
 ·exact ((r9 r).1 h).2
 ·rcases Int.lt_or_eq_of_le R.s0 with h0 | h0
  ·exact h0
  ·exact absurd h (R.hold h0.symm).1
theorem Ki {W:Int}:∀(n:Nat) {Q:List R5},VQ Q W→∀q∈Q,q.s=0→q∈(cw n Q).1:=by
 intro n
 induction n with
 | zero=>intro Q v q hq _; exact hq
 | succ n ih=>
  intro Q v q hq h0
  unfold cw
  split
  ·exact hq
  ·rename_i i hf
   split
   ·exact hq
   ·rename_i r hr
    by_cases hfit:ej Q r=true
    ·rw[if_pos hfit]
     refine ih (v.Il hf hr hfit) q ?_ h0
     obtain ⟨k,hk⟩:=List.getElem?_of_mem hq
     have hne:i≠k:=by
      rintro rfl
      rw[hr] at hk; cases hk
      have:=iM v hf hr
      omega
     exact List.mem_of_getElem? (i:=k) (by rw[List.getElem?_set,if_neg hne]; exact hk)
    ·rw[if_neg hfit]; exact hq
theorem vo {W:Int}:∀(n:Nat) {Q:List R5},VQ Q W→VQ (cw n Q).1 W∧(cw n Q).1.map Gl=Q.map Gl∧(dO Q<n→oQ (cw n Q).1)∧(∀i∈(cw n Q).2,∃r∈(cw n Q).1,r.id=i∧r.m≠0∧r.s=0):=by
 intro n
 induction n with
 | zero=>intro Q v; exact ⟨v,rfl,fun h=>(by omega),fun i h=>(by cases h)⟩
 | succ n ih=>
  intro Q v
  unfold cw
  split
  ·rename_i hf
   refine ⟨v,rfl,fun _=>?_,fun i h=>(by cases h)⟩
   intro i r h _
   rw[hf] at h; cases h
  ·rename_i i hf
   split
   ·rename_i hr
    refine ⟨v,rfl,fun _=>?_,fun i h=>(by cases h)⟩
    intro j r h h2
    rw[hf] at h; cases h; rw[hr] at h2; cases h2
   ·rename_i r hr
    by_cases hfit:ej Q r=true
    ·rw[if_pos hfit]
     have v2:=v.Il hf hr hfit
     obtain ⟨h1,h2,h3,h4⟩:=ih v2
     have hc:=nF hr (iM v hf hr)
     have hkey:(Q.set i (cz r)).map Gl=Q.map Gl:=by
      rw[List.map_set]
      have:Gl (cz r)=Gl r:=rfl
      rw[this]
      apply List.ext_getElem?
      intro k
      rw[List.getElem?_set]
      by_cases hik:i=k
      ·subst hik
       have hil:=(List.getElem?_eq_some_iff.1 hr).1
       rw[if_pos rfl,if_pos (by simpa using hil),List.getElem?_map,hr]; rfl
      ·rw[if_neg hik]
     refine ⟨h1,h2.trans hkey,fun h=>h3 (by omega),fun j hj=>?_⟩
     rcases List.mem_cons.1 hj with rfl | hj
     ·refine ⟨cz r,Ki n v2 (cz r) ?_ rfl,rfl,?_,rfl⟩
      ·have hil:=(List.getElem?_eq_some_iff.1 hr).1
       exact List.mem_of_getElem? (i:=i) (by rw[List.getElem?_set,if_pos rfl,if_pos hil])
      ·exact wS (v.right r (List.mem_of_getElem? hr)) (iM v hf hr)
     ·exact h4 j hj
    ·rw[if_neg hfit]
     refine ⟨v,rfl,fun _=>?_,fun i h=>(by cases h)⟩
     intro j q h h2
     rw[hf] at h; cases h; rw[hr] at h2; cases h2; simpa using hfit
theorem wT {Q:List R5} (h:oQ Q) (n:Nat):cw n Q=(Q,[]):=by
 cases n with
 | zero=>rfl
 | succ n=>
  unfold cw
  split
  ·rfl
  ·rename_i i hf
   split
   ·rfl
   ·rename_i r hr
    rw[if_neg (by rw[h i r hf hr]; simp)]
end Go.Vai

namespace Go.Vai
open Go Go.Clashes
def aZ (m:Int):Bool:=decide (m≠0) && kn m
theorem cu (m:Int):aZ m=true↔m≠0∧kn m=true:=by simp[aZ]
def bD (id:Int) (r:R5):Bool:=decide (r.id=id)
def bJ (Q:List R5) (id:Int):Option R5:=Q.find? (bD id)
theorem gK {Q:List R5} {id:Int} {r:R5} (h:bJ Q id=some r):r∈Q∧r.id=id:=by
 unfold bJ at h
 have:=List.find?_some h
 exact ⟨List.mem_of_find?_eq_some h,by simpa[bD] using this⟩
theorem Gm {Q:List R5} {id:Int} (h:bJ Q id=none):∀r∈Q,r.id≠id:=by
 unfold bJ at h
 rw[List.find?_eq_none] at h
 intro r hr e
 exact h r hr (by simp[bD,e])
theorem Kj {Q:List R5} (hp:Q.Pairwise iC) {r:R5} (hr:r∈Q):bJ Q r.id=some r:=by
 cases h:bJ Q r.id with
 | none=>exact absurd rfl (Gm h r hr)
 | some q=>
  obtain ⟨h1,h2⟩:=gK h
  rw[UT hp h1 hr h2]
def dI (Q:List R5) (W id x m:Int):R5 × Int × Bool:=
 if (decide (cW Q=none) && ej Q ⟨id,x,0,m,0⟩)=true then (⟨id,x,m,m,0⟩,W,true) else (⟨id,x,0,m,W+1⟩,W+1,false)
theorem UU {m:Int} (h:ny 0 m=true):m=0:=by
 have key:∀j,j<7→ny 0 (j:Nat)=true→j=0:=by decide +kernel
 obtain ⟨j,hj,rfl⟩:=nD (Bp h).2
 rw[key j hj h]; rfl
theorem sg {α:Type} {R:α→α→Prop} {L:List α} {p:α} (h:L.Pairwise R) (h1:∀q∈L,R q p):(L++[p]).Pairwise R:=by
 rw[List.pairwise_append]
 exact ⟨h,List.pairwise_singleton _ _,fun q hq r hr=>by rw[List.mem_singleton] at hr; subst hr; exact h1 q hq⟩
theorem VQ.ask {Q:List R5} {W:Int} (v:VQ Q W) {id x m:Int} (hid:0≤id) (hm:aZ m=true) (hn:∀q∈Q,q.id≠id∧q.x≠x):VQ (Q++[(dI Q W id x m).1]) (dI Q W id x m).2.1:=by
 obtain ⟨m0,km⟩:=(cu m).1 hm
 unfold dI
 by_cases hc:(decide (cW Q=none) && ej Q ⟨id,x,0,m,0⟩)=true
 ·rw[if_pos hc]
  rw[Bool.and_eq_true,decide_eq_true_eq,iL] at hc
  have hall:=Gk hc.1
  refine ⟨v.w0,?_,sg v.pair ?_⟩
  ·intro r hr
   rcases List.mem_append.1 hr with hr | hr
   ·exact v.right r hr
   ·rw[List.mem_singleton] at hr; subst hr
    exact ⟨hid,km,km,Int.le_refl _,v.w0,fun h=>absurd h (Int.lt_irrefl _),fun _=>⟨m0,rfl⟩⟩
  ·intro q hq
   exact ⟨(hn q hq).1,(hn q hq).2,fun h=>absurd h (hall q hq).2,fun h1 _=>hc.2 q hq (hn q hq).1 h1,fun e=>absurd e (hall q hq).1⟩
 ·rw[if_neg hc]
  have v2:=v.mono (W':=W+1) (by omega)
  refine ⟨v2.w0,?_,sg v.pair ?_⟩
  ·intro r hr
   rcases List.mem_append.1 hr with hr | hr
   ·exact v2.right r hr
   ·rw[List.mem_singleton] at hr; subst hr
    refine ⟨hid,rfl,km,v2.w0,Int.le_refl _,fun _=>?_,fun h=>?_⟩
    ·cases hcv:ny 0 m with
     | false=>rfl
     | true=>exact absurd (UU hcv) m0
    ·have:=v.w0; have h:W+1=0:=h; omega
  ·intro q hq
   have:=(v.right q hq).sW
   exact ⟨(hn q hq).1,(hn q hq).2,fun _=>(fun e:q.s=W+1=>by omega),fun _ h=>absurd rfl h,fun _=>⟨rfl,by show q.s<W+1; omega⟩⟩
def dP (Q:List R5) (W:Int) (r:R5) (m:Int):R5 × Int × Bool:=
 if (decide (cU r.m m=r.m) || (ej Q ⟨r.id,r.x,r.m,cU r.m m,r.s⟩ && !Q.any nQ))=true then (⟨r.id,r.x,cU r.m m,cU r.m m,r.s⟩,W,true) else (⟨r.id,r.x,r.m,cU r.m m,W+1⟩,W+1,false)
theorem VQ.upg {Q:List R5} {W:Int} (v:VQ Q W) {i:Nat} {r:R5} {m:Int} (hr:Q[i]? = some r) (hs:¬0<r.s) (hm:aZ m=true):VQ (Q.set i (dP Q W r m).1) (dP Q W r m).2.1:=by
 obtain ⟨m0,km⟩:=(cu m).1 hm
 have R:=v.right r (List.mem_of_getElem? hr)
 have hs0:r.s=0:=by have:=R.s0; omega
 obtain ⟨rm0,rw⟩:=R.hold hs0
 obtain ⟨_,c1,c2,c3,_⟩:=MV R.km km
 have ks:=UR R.km km
 have before:∀(j:Nat) (q:R5),j<i→Q[j]? = some q→q.m≠0:=fun j q hj hq e=>rm0 ((cZ.1 v.pair j i q r hj hq hr).ord e).1
 unfold dP
 by_cases hc:(decide (cU r.m m=r.m) || (ej Q ⟨r.id,r.x,r.m,cU r.m m,r.s⟩ && !Q.any nQ))=true
 ·rw[if_pos hc]
  have hfit:∀o∈Q,o.id≠r.id→o.m≠0→cmp o.m (cU r.m m)=true:=by
   intro o ho h1 h2
   rw[Bool.or_eq_true,decide_eq_true_eq,Bool.and_eq_true,iL] at hc
   rcases hc with e | ⟨h,_⟩
   ·rw[e]
    obtain ⟨k,hk⟩:=List.getElem?_of_mem ho
    rcases Nat.lt_trichotomy k i with iJ | iJ | iJ
    ·exact (cZ.1 v.pair k i o r iJ hk hr).cm h2 rm0
    ·subst iJ; rw[hr] at hk; cases hk; exact absurd rfl h1
    ·rw[r8]; exact (cZ.1 v.pair i k r o iJ hr hk).cm rm0 h2
   ·exact h o ho h1 h2
  refine ⟨v.w0,?_,rq v.pair ?_ ?_⟩
  ·intro q hq
   rcases mem_set hq with rfl | hq
   ·exact ⟨R.id,ks,ks,R.s0,R.sW,fun h=>absurd h hs,fun _=>⟨c3 m0,rfl⟩⟩
   ·exact v.right q hq
  ·intro j q hj hq
   have P:=cZ.1 v.pair j i q r hj hq hr
   exact ⟨P.id,P.x,P.s,fun h1 _=>hfit q (List.mem_of_getElem? hq) P.id h1,fun e=>absurd e (before j q hj hq)⟩
  ·intro j q hj hq
   have P:=cZ.1 v.pair i j r q hj hr hq
   exact ⟨P.id,P.x,P.s,fun _ h2=>by rw[r8]; exact hfit q (List.mem_of_getElem? hq) (fun e=>P.id e.symm) h2,fun e=>absurd e (c3 m0)⟩
 ·rw[if_neg hc]
  have v2:=v.mono (W':=W+1) (by omega)
  rw[Bool.or_eq_true,decide_eq_true_eq] at hc
  refine ⟨v2.w0,?_,rq v.pair ?_ ?_⟩
  ·intro q hq
   rcases mem_set hq with rfl | hq
   ·refine ⟨R.id,R.km,ks,v2.w0,Int.le_refl _,fun _=>?_,fun h=>?_⟩
    ·cases hcv:ny r.m (cU r.m m) with
     | false=>rfl
     | true=>exact absurd (.inl (MT c1 hcv)) hc
    ·have:=v.w0; have h:W+1=0:=h; omega
   ·exact v2.right q hq
  ·intro j q hj hq
   have P:=cZ.1 v.pair j i q r hj hq hr
   have:=(v.right q (List.mem_of_getElem? hq)).sW
   exact ⟨P.id,P.x,fun _=>(fun e:q.s=W+1=>by omega),P.cm,fun e=>absurd e (before j q hj hq)⟩
  ·intro j q hj hq
   have P:=cZ.1 v.pair i j r q hj hr hq
   have:=(v.right q (List.mem_of_getElem? hq)).sW
   exact ⟨P.id,P.x,fun _=>(fun e:W+1=q.s=>by omega),P.cm,fun e=>absurd e rm0⟩
end Go.Vai

namespace Go.Vai
open Go
variable {β:Type} {fl:β}
noncomputable def MX (fl:β) (l c:Value) (z:List Value) (e:TypeId) (h:Heap) (κ:Value→Heap→β):β:=
 match l,c with
 | .int _ (.ofNat l),.int _ (.ofNat c)=>match Nat.ble l c,Nat.ble c 1000000 with
  | true,true=>ax fl (aU z c) e false fun o=>aj fl o h fun b h=>κ (sliceTo l c b) h
  | _,_=>fl
 | _,_=>fl
theorem vp (n:Nat) (z:List Value) (e:TypeId) (h:Heap) (κ:Value→Heap→β) (hn:n≤1000000) (hl:(aU z n).length≤1000000000000) :
  MX fl (.int .i64 (n:Int)) (.int .i64 (n:Int)) z e h κ=κ (.slice (some ⟨h.nx,0,none⟩) n n) ⟨h.nx+1,h.bl.aY h.nx (aa (aU z n) e false),h.lo⟩:=by
 have e1:Nat.ble n n=true:=Nat.ble_eq_true_of_le (Nat.le_refl _)
 have e2:Nat.ble n 1000000=true:=Nat.ble_eq_true_of_le hn
 show (match Nat.ble n n,Nat.ble n 1000000 with | true,true=>_ | _,_=>fl)=_
 rw[e1,e2]
 simp only
 rw[jf _ _ _ _ hl,dV]; rfl
end Go.Vai
