/-
  PROVED HERE: a part of the proof (VaiG, VaiA, VaiF, Srt, AA0, Plain, PM, Q1, Q2, VaiH).
-/
import Derived.Test.YtmllggkhfmjpgaaGreatDoorG2
set_option linter.unusedVariables false
set_option linter.unusedSimpArgs false
set_option maxRecDepth 100000
namespace Go.Vai
open Go Go.RowKit
def eZ:Option Nat→Int | some i=>i | none=>-1
def HQ (a b:Heap):Prop:=a=b
theorem C7 {α:Type} (L:List α) (F:α→Bool):(decide (0≤eZ (L.findIdx? F)))=L.any F:=by
 cases hf:L.findIdx? F with
 | none=>
  rw[List.findIdx?_eq_none_iff] at hf
  have:L.any F=false:=by rw[List.any_eq_false]; intro x hx; simp[hf x hx]
  rw[this]; rfl
 | some i=>
  rw[List.findIdx?_eq_some_iff_getElem] at hf
  obtain ⟨hi,h1,_⟩:=hf
  have:L.any F=true:=List.any_eq_true.2 ⟨_,List.getElem_mem hi,h1⟩
  rw[this]
  exact decide_eq_true (by show (0:Int)≤(i:Int); omega)
theorem kH {α:Type} (L:List α) (F:α→Bool):(L.findIdx? F=none∧∀x∈L,F x=false)∨∃(i:Nat) (p:α),L.findIdx? F=some i∧L[i]? = some p∧F p=true∧∀(j:Nat) (q:α),j<i→L[j]? = some q→F q=false:=by
 cases hf:L.findIdx? F with
 | none=>
  rw[List.findIdx?_eq_none_iff] at hf
  exact .inl ⟨rfl,hf⟩
 | some i=>
  rw[List.findIdx?_eq_some_iff_getElem] at hf
  obtain ⟨hi,h1,h2⟩:=hf
  refine .inr ⟨i,L[i],rfl,List.getElem?_eq_getElem hi,h1,fun j q hj hq=>?_⟩
  have:=h2 j hj
  rw[(List.getElem?_eq_some_iff.1 hq).2] at this
  simpa using this
theorem MK {α:Type} {L:List α} {F:α→Bool} {i:Nat} {p:α} (hp:L[i]? = some p) (h1:F p=true) (h2:∀(j:Nat) (q:α),j<i→L[j]? = some q→F q=false):L.findIdx? F=some i:=by
 rw[List.findIdx?_eq_some_iff_getElem]
 obtain ⟨dy,hk2⟩:=List.getElem?_eq_some_iff.1 hp
 refine ⟨dy,by rw[hk2]; exact h1,fun j hj=>?_⟩
 simpa using h2 j _ hj (List.getElem?_eq_getElem (by omega))
theorem ML {α:Type} {L:List α} {F:α→Bool} (h2:∀(j:Nat) (q:α),L[j]? = some q→F q=false):L.findIdx? F=none:=by
 rw[List.findIdx?_eq_none_iff]
 intro p hp
 obtain ⟨j,hj⟩:=List.getElem?_of_mem hp
 exact h2 j p hj
theorem fo {α:Type} {F:α→Bool} {L:List α} {j:Nat} {p:α} (hp:L[j]? = some p):(L.take (j+1)).filter F=(L.take j).filter F++if F p then [p] else []:=by
 obtain ⟨hj,rfl⟩:=List.getElem?_eq_some_iff.1 hp
 rw[List.take_succ_eq_append_getElem hj,List.filter_append]
 cases h:F L[j]<;>simp[h]
noncomputable def dX (P:Program) (ti:TypeId) (s:Nat) (a0 a1:Value) (h:Heap) (κ:KQ):Prop:=
 bB False a0 h fun v0 h=>
 dw [undef,undef,undef,undef,undef,undef,undef,undef,undef,undef,(Value.int .i64 (0)),undef,(Value.int .i64 (0))] h fun l2 h N1=>
 au False P .lss ti false false (slot l2 12) v0 h fun v3 h=>
 aG v3 (
 aD False s a0 (slot l2 12) h fun v4 h=>
 ay False s v4 h fun v5 h=>
 eU P a1 [v5] h fun v6 h=>
 aG v6 (
 κ (slot l2 12) h) (
 au False P .add ti true false (slot l2 12) (Value.int .i64 (1)) h fun v7 h=>
 N1 [v3,(slot l2 12),(slot l2 12),a1,a0,(slot l2 12),v4,v5,v6,(slot l2 9),(slot l2 10),v7,v7] h)) (
 κ (Value.int .i64 (-1)) h)
noncomputable def fV (P:Program) (ti:TypeId) (g:FuncId) (a0 a1:Value) (h:Heap) (κ:KQ):Prop:=
 CallW P g [a0,a1] h fun v0 h=>
 au False P .geq ti true false v0 (Value.int .i64 (0)) h fun v1 h=>
 κ v1 h
noncomputable def vB (P:Program) (tS e s:Nat) (z:List Value) (a0:Value) (h:Heap) (κ:KQ):Prop:=
 au False P .eql tS true false a0 (Value.slice none 0 0) h fun v0 h=>
 aG v0 (
 κ (Value.slice none 0 0) h) (
 br False [] [] (aU z 0) fun cs3=>aF False cs3 e false fun o1=>aq False o1 h fun b2 h=>
 bL False e s z false (sliceTo 0 0 b2) a0 h fun v4 h=>
 κ v4 h)
noncomputable def dY (P:Program) (ti:TypeId) (g:FuncId) (e s:Nat) (z:List Value) (a0 a1:Value) (h:Heap) (κ:KQ):Prop:=
 CallW P g [a0,a1] h fun v0 h=>
 au False P .eql ti true false v0 (Value.int .i64 (-1)) h fun v1 h=>
 aG v1 (
 κ a0 h) (
 au False P .add ti true false v0 (Value.int .i64 (1)) h fun v2 h=>
 dw [undef,undef,undef,undef,undef,undef,undef,undef,undef,undef,undef,undef,undef,undef,undef,undef,undef,undef,undef,v0,undef,undef,v2] h fun l4 h N3=>
 bB False a0 h fun v5 h=>
 au False P .lss ti false false (slot l4 22) v5 h fun v6 h=>
 aG v6 (
 cT (fun N7=>
 aD False s a0 (slot l4 22) h fun v9 h=>
 ay False s v9 h fun v10 h=>
 aF False z e false fun o11=>aq False o11 h fun vC h=>
 aI False s (ptrTo vC) v10 h fun bA h=>
 ay False s (ptrTo vC) h fun bI h=>
 eU P a1 [bI] h fun bG h=>
 jA False .not bG h fun v16 h=>
 aG v16 (
 ay False s (ptrTo vC) h fun v17 h=>
 aD False s a0 (slot l4 19) h fun bW h=>
 aI False s bW v17 h fun v19 h=>
 au False P .add ti true false (slot l4 19) (Value.int .i64 (1)) h fun v20 h=>
 N7 [a0,(slot l4 22),v9,v10,(ptrTo vC),a1,bI,bG,v16,a0,(slot l4 19),v17,bW,(slot l4 19),v20,v20] h) (
 N7 [a0,(slot l4 22),v9,v10,(ptrTo vC),a1,bI,bG,v16,(slot l4 13),(slot l4 14),(slot l4 15),(slot l4 16),(slot l4 17),(slot l4 18),(slot l4 19)] h)) fun l8 h=>
 au False P .add ti true false (slot l4 22) (Value.int .i64 (1)) h fun v21 h=>
 N3 [(slot l4 22),a0,v5,v6,(slot l8 0),(slot l8 1),(slot l8 2),(slot l8 3),(slot l8 4),(slot l8 5),(slot l8 6),(slot l8 7),(slot l8 8),(slot l8 9),(slot l8 10),(slot l8 11),(slot l8 12),(slot l8 13),(slot l8 14),(slot l8 15),(slot l4 22),v21,v21] h) (
 sliceB False e s a0 (some (slot l4 19)) none none h fun v22 h=>
 jD False z v22 h fun v23 h=>
 sliceB False e s a0 none (some (slot l4 19)) none h fun v24 h=>
 κ v24 h))
section
variable {P:Program} {α:Type} {enc:α→List Value} {s:Nat} {ti:TypeId} {f g:FuncId}
def zw (enc:α→List Value) (p:α):Value:=.agg ⟨enc p⟩
theorem kI (mix:P.follows .mixedOrders=true) (he:∀a:α,(enc a).length=s) (hb:∀a0 a1 h κ,aK P f [a0,a1] h κ=dX P ti s a0 a1 h κ)
  (L:List α) (F:α→Bool) (h:Heap) (v fv:Value) (κ:KQ) (hv:Sl enc h v L) (hlen:L.length≤1000000)
  (hF:∀p,p∈L→∀(h1:Heap) (κ1:Value→Heap→Prop),Le h h1→(∀h2,Le h1 h2→κ1 (.bool (F p)) h2)→eU P fv [zw enc p] h1 κ1)
  (hk:∀h',Le h h'→κ (.int .i64 (eZ (L.findIdx? F))) h'):CallW P f [v,fv] h κ:=by
 refine an mix ?_
 rw[hb]
 unfold dX
 simp only[hv.len]
 refine ⟨fun n l h1=>Le h h1∧∃k:Nat,slot l 12=.int .i64 (k:Int)∧k≤L.length∧n=L.length-k∧∀(j:Nat) p,j<k→L[j]? = some p→F p=false,⟨_,Le.refl _,0,rfl,Nat.zero_le _,rfl,by omega⟩,?_⟩
 rintro n l h1 ⟨hle,k,hs,hkl,rfl,hno⟩
 by_cases hlt:k<L.length
 ·obtain ⟨p,hp⟩:∃p,L[k]? = some p:=⟨_,List.getElem?_eq_getElem hlt⟩
  obtain ⟨b,o,hb,nT,l_,_⟩:=(hv.le hle).ld he k hp
  simp(disch:=first|omega|simp only[Wd]<;>omega|rfl)only[Wz,hs,nT,l_]
  refine hF p (List.mem_of_getElem? hp) h1 _ hle ?_
  intro h2 hle2
  cases hc:F p with
  | true=>
   simp(disch:=first|omega|simp only[Wd]<;>omega|rfl)only[Wz,hs]
   have hk2:=hk h2 (hle.trans hle2)
   rw[MK hp hc hno] at hk2
   exact hk2
  | false=>
   simp(disch:=first|omega|simp only[Wd]<;>omega|rfl)only[Wz,hs]
   refine ⟨_,by omega,hle.trans hle2,k+1,rfl,by omega,rfl,fun j q hj hq=>?_⟩
   rcases Nat.lt_or_ge j k with h4 | h4
   ·exact hno j q h4 hq
   ·obtain rfl:j=k:=by omega
    rw[hp] at hq; cases hq; exact hc
 ·simp(disch:=first|omega|simp only[Wd]<;>omega|rfl)only[Wz,hs]
  have hk2:=hk h1 hle
  rw[ML fun j q hq=>hno j q (by have:=(List.getElem?_eq_some_iff.1 hq).1; omega) hq] at hk2
  exact hk2
theorem lT (mix:P.follows .mixedOrders=true) (he:∀a:α,(enc a).length=s) (hg:∀a0 a1 h κ,aK P g [a0,a1] h κ=dX P ti s a0 a1 h κ) (hb:∀a0 a1 h κ,aK P f [a0,a1] h κ=fV P ti g a0 a1 h κ)
  (L:List α) (F:α→Bool) (h:Heap) (v fv:Value) (κ:KQ) (hv:Sl enc h v L) (hlen:L.length≤1000000)
  (hF:∀p,p∈L→∀(h1:Heap) (κ1:Value→Heap→Prop),Le h h1→(∀h2,Le h1 h2→κ1 (.bool (F p)) h2)→eU P fv [zw enc p] h1 κ1)
  (hk:∀h',Le h h'→κ (.bool (L.any F)) h'):CallW P f [v,fv] h κ:=by
 refine an mix ?_
 rw[hb]
 unfold fV
 refine kI mix he hg L F h v fv _ hv hlen hF ?_
 intro h' hl
 have:=hk h' hl
 rw[←C7] at this
 by_cases h0:eZ (L.findIdx? F)<0
 ·simp(disch:=first|omega|simp only[Wd]<;>omega|rfl)only[Wz]
  rwa [aV (by omega)] at this
 ·simp(disch:=first|omega|simp only[Wd]<;>omega|rfl)only[Wz]
  rwa [bg (by omega)] at this
def C8 (P:Program) (tS:TypeId):Prop:=(∀(h:Heap) (n c n' c':Nat),lM P h 100 tS (.slice none n c) (.slice none n' c')=some true)∧∀(h:Heap) (a:Addr) (n c n' c':Nat),lM P h 100 tS (.slice (some a) n c) (.slice none n' c')=some false
theorem MM {β:Type} {fl:β} {tS:TypeId} (he:C8 P tS) (cn:Bool) (n c n' c':Nat) (h:Heap) (κ:Value→Heap→β):au fl P .eql tS cn false (.slice none n c) (.slice none n' c') h κ=κ (.bool true) h:=by
 simp only[au,he.1,bM]
theorem MN {β:Type} {fl:β} {tS:TypeId} (he:C8 P tS) (cn:Bool) (a:Addr) (n c n' c':Nat) (h:Heap) (κ:Value→Heap→β):au fl P .eql tS cn false (.slice (some a) n c) (.slice none n' c') h κ=κ (.bool false) h:=by
 simp only[au,he.2,bM]
theorem MO (mix:P.follows .mixedOrders=true) (he:∀a:α,(enc a).length=s) (hone:∀a:α,(enc a).all cZ=true) (hs0:0<s) (hs1:s≤100) {tS e:TypeId} {z:List Value} (hq:C8 P tS) (hb:∀a0 h κ,aK P f [a0] h κ=vB P tS e s z a0 h κ)
  (L:List α) (h:Heap) (v:Value) (κ:KQ) (hv:Sl enc h v L) (hlen:L.length≤1000000) (hlo:h.lo≤h.nx) (hk:∀v' h',gL enc h e h' v' L→Le h h'→κ v' h'):CallW P f [v] h κ:=by
 refine an mix ?_
 rw[hb]
 unfold vB
 have hv0:=hv
 obtain ⟨x,cap,rfl,hx⟩:=hv
 cases x with
 | none=>
  simp(disch:=first|omega|simp only[Wd]<;>omega|rfl)only[Wz,MM hq]
  by_cases hL:L=[]
  ·exact hk _ _ (.inl ⟨hL,.inl rfl⟩) (Le.refl _)
  ·obtain ⟨b,o,e,_⟩:=hx hL; cases e
 | some a=>
  simp(disch:=first|omega|simp only[Wd]<;>omega|rfl)only[Wz,MN hq]
  have hle:=(Le.refl h).new (aa [] e false)
  refine kG (enc:=enc) (a:=h) (L:=[]) (M:=L) he hone hs0 hs1 (.inl ⟨rfl,.inr ⟨_,_,rfl⟩⟩) (hv0.le hle) hle (by simpa using hlen) (by show h.lo≤h.nx+1; omega) _ ?_
  intro v' h' ho hl _ _
  exact hk v' h' (by simpa using ho) hl
theorem qG (he:∀a:α,(enc a).length=s) (L:List α) (i:Nat) (p:α) (hi:i<L.length):over (L.flatMap enc) (i*s) (enc p)=(L.set i p).flatMap enc:=by
 have e:L.set i p=L.take i++[p]++L.drop (i+1):=by
  rw[List.set_eq_take_append_cons_drop,if_pos hi]; simp
 rw[e]
 simp only[over,he,List.flatMap_append,List.flatMap_cons,List.flatMap_nil,List.append_nil]
 rw[ny he,show i*s+s=(i+1)*s by rw[Nat.succ_mul],nD he]
theorem Iw {z:List Value} (hz:z.length=s) (n:Nat):(aU z n).length=n*s:=by
 induction n with
 | zero=>simp[aU]
 | succ n ih=>simp only[aU,List.length_append,ih,hz]; rw[Nat.succ_mul]; omega
theorem Ix {z:List Value} (hz:z.all cZ=true) (n:Nat):(aU z n).all cZ=true:=by
 induction n with
 | zero=>rfl
 | succ n ih=>simp only[aU,List.all_append,ih,hz]; rfl
theorem stG (he:∀a:α,(enc a).length=s) (hone:∀a:α,(enc a).all cZ=true) (p:α) {vs:List Value} {e:TypeId} {op:Bool} {b o:Nat} {h:Heap} {κ:Heap→Prop} (h3:o+s≤vs.length) (hlo:h.lo≤b) :
  QN False (some (aa vs e op)) s b o (enc p) h κ=κ ⟨h.nx,h.bl.aT b (aa (over vs o (enc p)) e op),h.lo⟩:=td _ _ _ _ _ _ _ _ _ (he p) (hone p) h3 hlo
def uz (e:TypeId) (h:Heap) (v:Value):Prop:=∀b o n c,v=.slice (some ⟨b,o,none⟩) n c→n≠0→b<h.nx∧∃vs op,h.bl.get b=some (aa vs e op)
theorem uz.le {e:TypeId} {h h':Heap} {v:Value} (t:uz e h v) (l:Le h h'):uz e h' v:=fun b o n c hv hn=>by
 obtain ⟨h1,vs,op,h2⟩:=t b o n c hv hn
 exact ⟨Nat.lt_of_lt_of_le h1 l.nx,vs,op,(l.get b h1).trans h2⟩
theorem uz.own {a h:Heap} {e:TypeId} {v:Value} {L:List α} (ho:gL enc a e h v L):uz e h v:=by
 intro b o n c hv hn
 rcases ho with ⟨_,rfl | ⟨b',o',rfl⟩⟩ | ⟨b',rfl,h1,h2,h3,h4⟩
 ·cases hv
 ·cases hv; exact absurd rfl hn
 ·cases hv; exact ⟨h2,_,_,h4⟩
theorem uz.put {e:TypeId} {h:Heap} {v:Value} (t:uz e h v) {d:Nat} (hd:∀vs op,h.bl.get d≠some (aa vs e op)) (o':bC):uz e ⟨h.nx,h.bl.aT d o',h.lo⟩ v:=by
 intro b o n c hv hn
 obtain ⟨h1,vs,op,h2⟩:=t b o n c hv hn
 refine ⟨h1,vs,op,(T.ai _ _ ?_).trans h2⟩
 rintro rfl
 exact hd vs op h2
theorem Sl.put {e:TypeId} {h:Heap} {v:Value} {L:List α} (hs:Sl enc h v L) (t:uz e h v) {d:Nat} (hd:∀vs op,h.bl.get d≠some (aa vs e op)) (o':bC):Sl enc ⟨h.nx,h.bl.aT d o',h.lo⟩ v L:=by
 obtain ⟨x,cap,rfl,h2⟩:=hs
 refine ⟨x,cap,rfl,fun hn=>?_⟩
 obtain ⟨b,o,rfl,h3,h4⟩:=h2 hn
 obtain ⟨h1,vs,op,h5⟩:=t b o _ cap rfl (by intro h0; exact hn (List.eq_nil_of_length_eq_zero h0))
 refine ⟨b,o,rfl,h3,?_⟩
 have:(h.bl.aT d o').get b=h.bl.get b:=T.ai _ _ (by rintro rfl; exact hd vs op h5)
 show Has ((h.bl.aT d o').get b) _ _
 rw[this]; exact h4
theorem wZ (mix:P.follows .mixedOrders=true) (he:∀a:α,(enc a).length=s) (hone:∀a:α,(enc a).all cZ=true) (hs0:0<s) {e:TypeId} {z:List Value} (hz:z.length=s) (hz1:z.all cZ=true) (hs1:s≤1000)
  (hg:∀a0 a1 h κ,aK P g [a0,a1] h κ=dX P ti s a0 a1 h κ) (hb:∀a0 a1 h κ,aK P f [a0,a1] h κ=dY P ti g e s z a0 a1 h κ)
  (a h:Heap) (L:List α) (F:α→Bool) (v fv:Value) (κ:KQ) (hle:Le a h) (ho:gL enc a e h v L) (hlen:L.length≤100000) (hlo:a.lo≤a.nx)
  (hF:∀p,∀(h1:Heap) (κ1:Value→Heap→Prop),Le a h1→(h.nx≤h1.nx∧∀c,c<h.nx→h.bl.get c≠some (aa (L.flatMap enc) e true)→h1.bl.get c=h.bl.get c)→(∀h2,Le h1 h2→κ1 (.bool (F p)) h2)→eU P fv [zw enc p] h1 κ1)
  (hk:∀v' h',Sl enc h' v' (L.filter fun p=>!F p)→Cut e s h' v' (L.filter fun p=>!F p).length→Le a h'→(h.nx≤h'.nx∧∀c,c<h.nx→h.bl.get c≠some (aa (L.flatMap enc) e true)→h'.bl.get c=h.bl.get c)→uz e h' v'→κ v' h'):CallW P f [v,fv] h κ:=by
 refine an mix ?_
 rw[hb]
 unfold dY
 refine kI mix he hg L F h v fv _ ho.sl (by omega) (fun p _ h1 κ1 hl dy=>hF p h1 κ1 (hle.trans hl) ⟨hl.nx,fun c hc _=>hl.get c hc⟩ dy) ?_
 intro h1 hle1
 have Iy:=hle.trans hle1
 have n1:=Iy.nx
 have l1:=Iy.lo
 rcases kH L F with ⟨e1,e2⟩ | ⟨i0,p0,e1,e2,e3,e4⟩
 ·simp only[e1,eZ]
  simp(disch:=first|omega|simp only[Wd]<;>omega|rfl)only[Wz]
  have:(L.filter fun p=>!F p)=L:=List.filter_eq_self.2 fun p hp=>by simp[e2 p hp]
  rw[this] at hk
  exact hk v h1 (ho.sl.le hle1) ((Cut.own he ho).le hle1) Iy ⟨hle1.nx,fun c hc _=>hle1.get c hc⟩ (uz.own (ho.le hle1))
 ·simp only[e1,eZ]
  have hi0:i0<L.length:=(List.getElem?_eq_some_iff.1 e2).1
  have Bi:(L.take i0).filter (fun p=>!F p)=L.take i0:=List.filter_eq_self.2 fun p hp=>by
   obtain ⟨j,hj⟩:=List.getElem?_of_mem hp
   have hj':j<i0:=by have:=(List.getElem?_eq_some_iff.1 hj).1; simp at this; omega
   rw[List.getElem?_take_of_lt hj'] at hj
   simp[e4 j p hj' hj]
  rcases ho with ⟨rfl,_⟩ | ⟨b,rfl,b1,Vi,b30,Re⟩
  ·simp at hi0
  have m1:=hle1.nx
  have b2:b<h1.nx:=by omega
  have b3:h1.lo≤b:=by rw[hle1.lo]; exact b30
  have b4:h1.bl.get b=some (aa (L.flatMap enc) e true):=(hle1.get b Vi).trans Re
  simp(disch:=first|omega|simp only[Wd]<;>omega|rfl)only[Wz]
  refine ⟨fun n l h2=>Le a h2∧b<h2.nx∧(h.nx≤h2.nx∧∀c,c<h.nx→c≠b→h2.bl.get c=h.bl.get c)∧∃(j i:Nat) (K:List α),slot l 22=.int .i64 (j:Int)∧slot l 19=.int .i64 (i:Int)∧j≤L.length∧i<j∧n=L.length-j∧K.length=L.length∧
    K.take i=(L.take j).filter (fun p=>!F p)∧K.drop j=L.drop j∧h2.bl.get b=some (aa (K.flatMap enc) e true),
   ⟨_,Iy,b2,⟨m1,fun c hc _=>hle1.get c hc⟩,i0+1,i0,L,rfl,rfl,by omega,by omega,rfl,rfl,?_,rfl,b4⟩,?_⟩
  ·rw[fo e2,Bi,e3]; simp
  rintro n l h2 ⟨hle2,hb2,hfr,j,i,K,s1,s2,hj,hij,rfl,hK,MP,T0,hg2⟩
  have n2:=hle2.nx
  have l2:=hle2.lo
  have hfl:=bf (enc:=enc) he K
  by_cases hlt:j<L.length
  ·obtain ⟨p,hp⟩:∃p,L[j]? = some p:=⟨_,List.getElem?_eq_getElem hlt⟩
   have hpK:K[j]? = some p:=by
    have:(K.drop j)[0]? = (L.drop j)[0]?:=by rw[T0]
    simpa[hp] using this
   have Vj:Sl enc h2 (.slice (some ⟨b,0,none⟩) L.length aM) K:=⟨_,aM,by rw[hK],fun _=>⟨b,0,rfl,hb2,by rw[hg2]; exact Has.all⟩⟩
   obtain ⟨b',o',hb',nT,l_,_⟩:=Vj.ld he j hpK
   have bat:=nT Nat 0 h2 fun v _=>match v with | .pointer (some a)=>a.block | _=>0
   rw[aW _ _ _ _ _ _ _ _ hlt] at bat
   have QO:b=b':=bat
   subst QO
   have hep:=he p
   have hop:=hone p
   have Vk:(enc p).take s=enc p:=by rw[←hep,List.take_length]
   have Qw:=oD z (enc p) (by omega)
   simp(disch:=first|omega|simp only[Wd]<;>omega|rfl)only[Wz,s1,s2,nT,l_]
   refine ⟨fun l h'=>Le a h'∧b<h'.nx∧(h.nx≤h'.nx∧∀c,c<h.nx→c≠b→h'.bl.get c=h.bl.get c)∧∃(i':Nat) (K':List α),slot l 15=.int .i64 (i':Int)∧i'<j+1∧K'.length=L.length∧
    K'.take i'=(L.take (j+1)).filter (fun p=>!F p)∧K'.drop (j+1)=L.drop (j+1)∧h'.bl.get b=some (aa (K'.flatMap enc) e true),?_,?_⟩
   ·simp(disch:=first|omega|simp only[Wd]<;>omega|rfl)only[Wz,s1,s2,nT,l_,stG he hone p,Vk,Qw]
    have Vl:=hle2.new (aa (enc p) e false)
    refine hF p _ _ Vl ⟨by have:=hfr.1; show h.nx≤h2.nx+1; omega,fun c hc hne=>(T.ai _ _ (by have:=hfr.1; omega)).trans (hfr.2 c hc (fun e=>hne (by rw[e]; exact Re)))⟩ ?_
    intro h3 bE
    have n3:=bE.nx
    have l3:=bE.lo
    dsimp only at n3 l3
    have g3:h3.bl.get h2.nx=some (aa (enc p) e false):=(bE.get h2.nx (Nat.lt_succ_self _)).trans (T.af _ _ _)
    have Vm:h3.bl.get b=some (aa (K.flatMap enc) e true):=by
     rw[bE.get b (by show b<h2.nx+1; omega)]
     show (h2.bl.aT h2.nx _).get b=_
     rw[T.ai _ _ (by omega)]; exact hg2
    have lD:=Vl.trans bE
    have w8:h.nx≤h3.nx∧∀c,c<h.nx→c≠b→h3.bl.get c=h.bl.get c:=by
     have q0:=hfr.1
     refine ⟨by omega,fun c hc hne=>?_⟩
     have e1:(h2.bl.aT h2.nx (aa (enc p) e false)).get c=h2.bl.get c:=T.ai _ _ (by omega)
     exact (bE.get c (by show c<h2.nx+1; omega)).trans (e1.trans (hfr.2 c hc hne))
    cases hc:F p with
    | true=>
     simp(disch:=first|omega|simp only[Wd]<;>omega|rfl)only[Wz,s2]
     exact ⟨lD,by omega,w8,i,K,rfl,by omega,hK,by rw[fo hp,hc]; simpa using MP,by rw[←List.drop_drop,T0,List.drop_drop],Vm⟩
    | false=>
     have Bj:=qG he K i p (by omega)
     have hbd:i*s+s≤(K.flatMap enc).length:=by rw[hfl,←Nat.succ_mul]; exact Nat.mul_le_mul_right _ (by omega)
     simp(disch:=first|omega|simp only[Wd]<;>omega|rfl)only[Wz,s2,g3,Vm,aW,stG he hone p,Vk,Bj]
     refine ⟨lD.set b1 _,by omega,⟨w8.1,fun c hc hne=>(T.ai _ _ (fun e=>hne e.symm)).trans (w8.2 c hc hne)⟩,i+1,K.set i p,rfl,by omega,by simpa using hK,?_,?_,rfl⟩
     ·rw[fo hp,hc,←MP]
      have hiK:i<K.length:=by omega
      rw[List.take_succ_eq_append_getElem (by simpa using hiK)]
      simp[List.take_set_of_le]
     ·rw[List.drop_set_of_lt (by omega),←List.drop_drop,T0,List.drop_drop]
   ·rintro l8 h3 ⟨bE,hb3,w8,i',K',s3,hi',hK',Vn,Vo,hg3⟩
    simp(disch:=first|omega|simp only[Wd]<;>omega|rfl)only[Wz,s1,s3]
    exact ⟨_,by omega,bE,hb3,w8,j+1,i',K',rfl,rfl,by omega,hi',rfl,hK',Vn,Vo,hg3⟩
  ·have hjL:j=L.length:=by omega
   subst hjL
   rw[List.take_length] at MP
   have r1:=Iw hz (L.length-i)
   have r2:=Ix hz1 (L.length-i)
   have hbd:i*s+(L.length-i)*s=L.length*s:=by rw[←Nat.add_mul]; congr 1; omega
   simp(disch:=first|omega|simp only[Wd]<;>omega|rfl)only[Wz,s1,s2,Gm (n:=L.length) (i:=i) hs0 hg2 (by rw[hfl,hK]) (by omega)]
   rw[uy hg2 (by omega) (by rw[r1,hfl,hK]; omega) r2 (by omega)]
   have MQ:(over (K.flatMap enc) (i*s) (aU z (L.length-i))).length=L.length*s:=by
    rw[lu (by rw[r1,hfl,hK]; omega),hfl,hK]
   rw[wX (n:=L.length) (i:=i) (vs:=over (K.flatMap enc) (i*s) (aU z (L.length-i))) hs0 (T.af _ _ _) MQ (by omega) (by omega)]
   have C9:(L.filter fun p=>!F p).length=i:=by rw[←MP]; simp; omega
   refine hk _ _ ⟨_,aM,by rw[C9],fun _=>⟨b,0,rfl,hb2,?_⟩⟩ (.inr (.inr (.inr ⟨b,_,L.length,by rw[C9],hb2,T.af _ _ _,MQ,by omega⟩))) (hle2.set b1 _) ⟨hfr.1,fun c hc hne=>(T.ai _ _ (fun e=>hne (by rw[←e]; exact Re))).trans (hfr.2 c hc (fun e=>hne (by rw[e]; exact Re)))⟩ ?_
   rotate_left
   ·intro b' o' n' c' ud _
    cases ud
    exact ⟨hb2,_,_,T.af _ _ _⟩
   have hh:Has (some (aa (over (K.flatMap enc) (i*s) (aU z (L.length-i))) e true)) 0 (((over (K.flatMap enc) (i*s) (aU z (L.length-i))).drop 0).take (i*s)):=Has.cells (by rw[MQ]; exact Nat.le_trans (by omega) (Nat.le_refl _))
   have e9:((over (K.flatMap enc) (i*s) (aU z (L.length-i))).drop 0).take (i*s)=(L.filter fun p=>!F p).flatMap enc:=by
    have akw:i*s≤K.length*s:=Nat.mul_le_mul_right _ (by omega)
    rw[←MP,List.drop_zero,over,List.append_assoc,List.take_append_of_le_length (by rw[List.length_take,hfl]; omega),List.take_take,Nat.min_self,ny he]
   rw[e9] at hh
   show Has ((h2.bl.aT b _).get b) 0 _
   rw[T.af]; exact hh
end
end Go.Vai

namespace Go.Vai
open Go
section
variable {α:Type} {s:Nat} {enc:α→List Value}
set_option maxRecDepth 20000 in
theorem iT {a h:Heap} {e:TypeId} {z:List Value} {v x:Value} {L M:List α} (he:∀a:α,(enc a).length=s) (hone:∀a:α,(enc a).all cZ=true) (hs0:0<s) (hs1:s≤100) (ho:gL enc a e h v L) (hx:Sl enc h x M)
  (hle:Le a h) (hb:L.length+M.length≤1000000) (hal:h.lo≤h.nx) (κ:KQ)
  (hk:∀v' h',gL enc a e h' v' (L++M)→Le a h'→h'.nx≤h.nx+1→h.nx≤h'.nx→h'.lo=h.lo→(∀b,b<h.nx→h.bl.get b≠some (aa (L.flatMap enc) e true)→h'.bl.get b=h.bl.get b)→κ v' h'):bL False e s z false v x h κ:=by
 by_cases hM:M=[]
 ·subst hM
  rw[append_nil hx (by rcases ho with ⟨rfl,rfl | ⟨b,o,rfl⟩⟩ | ⟨b,rfl,_⟩<;>exact ⟨_,_,_,rfl⟩)]
  exact hk v h (by simpa using ho) hle (Nat.le_succ _) (Nat.le_refl _) rfl (fun _ _ _=>rfl)
 ·obtain ⟨m,hm⟩:∃m,M.length=m+1:=⟨M.length-1,by have:=List.length_pos_iff.2 hM; omega⟩
  have hfl:=bf (enc:=enc) he
  have iS:=hx.first (β:=Prop) (fl:=False) he
  obtain ⟨y,cap,rfl,h2⟩:=hx
  have hml:∀K:List α,K.length≤1000000→(K.flatMap enc).length≤1000000000000:=fun K hK=>by
   rw[hfl]
   have:=Nat.mul_le_mul hK hs1
   omega
  have fresh:∀(hh:Heap) (ws:List Value),ws=(L++M).flatMap enc→Le a hh→hh.nx=h.nx→hh.lo=h.lo→(∀b,b<h.nx→h.bl.get b≠some (aa (L.flatMap enc) e true)→hh.bl.get b=h.bl.get b)→cL False ws e true hh fun b h'=>κ (.slice (some ⟨b,0,none⟩) (L.length+M.length) aM) h':=by
   intro hh ws hw Ty ZP hlo hgt
   subst hw
   unfold cL
   rw[iu _ _ _ _ (hml _ (by simp; omega)),dx]
   refine hk _ _ (.inr ⟨hh.nx,by simp,Ty.nx,Nat.lt_succ_self _,by show hh.lo≤_; omega,T.af _ _ _⟩) (Ty.new _) (by show hh.nx+1≤_; omega) (by show h.nx≤hh.nx+1; omega) hlo (fun b hb hn=>(T.ai _ _ (by omega)).trans (hgt b hb hn))
  rcases ho with ⟨rfl,hv⟩ | ⟨b,rfl,h3,h4,h5,h6⟩
  ·have hF:=fresh h (M.flatMap enc) (by simp) hle rfl rfl (fun _ _ _=>rfl)
   simp only[List.length_nil,Nat.zero_add] at hF
   rcases hv with rfl | ⟨b,o,rfl⟩
   ·unfold bL kV
    simp only
    rw[iS]
    simp only[hm,bT]
    rw[show Nat.ble (Nat.add 0 (m+1)) 1000000000=true from Nat.ble_eq_true_of_le (by show 0+(m+1)≤_; omega)]
    rw[hm] at hF
    have e1:Nat.add 0 (m+1)=m+1:=by show 0+(m+1)=_; omega
    rw[e1]
    exact hF
   ·unfold bL kV
    simp only
    rw[iS]
    simp only[hm,bT]
    have e1:Nat.add 0 (m+1)=m+1:=by show 0+(m+1)=_; omega
    rw[e1,show Nat.ble (m+1) 1000000000=true from Nat.ble_eq_true_of_le (by omega)]
    rw[hm] at hF
    show dH False h s 0 _ _
    rw[jm _ _ _ _ _ (by simp)]
    exact hF
  ·unfold bL kV
   simp only
   rw[iS]
   simp only[hm,bT]
   have e1:Nat.add L.length (m+1)=L.length+(m+1):=rfl
   rw[e1,show Nat.ble (L.length+(m+1)) 1000000000=true from Nat.ble_eq_true_of_le (by omega)]
   have e2:Nat.beq aM fq=false:=by decide
   have e3:Nat.beq aM aM=true:=Nat.beq_refl _
   simp only[e2,e3,h6]
   have e4:Nat.ble (Nat.add 0 (Nat.mul (L.length+(m+1)) s)) (L.flatMap enc).length=false:=by
    rw[hfl]
    cases QO:Nat.ble (Nat.add 0 (Nat.mul (L.length+(m+1)) s)) (L.length*s) with
    | false=>rfl
    | true=>
     have h7:0+(L.length+(m+1))*s≤L.length*s:=Nat.le_of_ble_eq_true QO
     rw[Nat.add_mul,Nat.succ_mul] at h7
     omega
   have e5:(M.flatMap enc).all cZ=true:=by
    rw[List.all_flatMap]; simp only[List.all_eq_true]; intro x _; exact List.all_eq_true.1 (hone x)
   simp only[aa,Nat.beq_refl,e4,e5,Bool.and_self]
   have hh:Has (h.bl.get b) 0 (L.flatMap enc):=by rw[h6]; exact Has.all
   rw[iR hh s L.length _ _ _ (hfl L).symm,bU _ _ _ _ h5]
   have hF:=fresh ⟨h.nx,h.bl.aT b (.dead (L.flatMap enc).length e),h.lo⟩ (L.flatMap enc++M.flatMap enc) (by simp) (hle.set h3 _) rfl rfl (fun b' _ hn=>T.ai _ _ (fun e=>hn (by rw[←e]; exact h6)))
   rw[hm] at hF
   exact hF
end
theorem bh {vs ws:List Value} {e e':TypeId}:(some (aa vs e false):Option bC)≠some (aa ws e' true):=by
 intro h
 unfold aa at h
 simp only[Option.some.injEq,bC.cells.injEq] at h
 exact absurd h.2.2.2 (by decide)
theorem bq {vs ws:List Value} {e e':TypeId} {p p':Bool} (hn:e≠e'):(some (aa vs e p):Option bC)≠some (aa ws e' p'):=by
 intro h
 unfold aa at h
 simp only[Option.some.injEq,bC.cells.injEq] at h
 exact hn h.2.2.1
theorem bQ {es:List MapEntry} {c:Nat} {ws:List Value} {e:TypeId} {p:Bool}:(some (.map es c):Option bC)≠some (aa ws e p):=by
 intro h
 unfold aa at h
 cases h
end Go.Vai

namespace Go.Vai
open Go
section
variable {α:Type} {s:Nat} {enc:α→List Value}
theorem MR (A E C ws:List Value) (j:Nat) (h:j+ws.length≤E.length):over (A++E++C) (A.length+j) ws=A++over E j ws++C:=by
 unfold over
 have e1:(A++E++C).take (A.length+j)=A++E.take j:=by
  rw[List.append_assoc,List.take_append,List.take_of_length_le (by omega),show A.length+j-A.length=j by omega,List.take_append_of_le_length (by omega)]
 have e2:(A++E++C).drop (A.length+j+ws.length)=E.drop (j+ws.length)++C:=by
  rw[List.append_assoc,List.drop_append,List.drop_of_length_le (by omega),List.nil_append,show A.length+j+ws.length-A.length=j+ws.length by omega,List.drop_append_of_le_length h]
 rw[e1,e2]
 simp only[List.append_assoc]
theorem fW (he:∀a:α,(enc a).length=s) {K:List α} {i j:Nat} {p p':α} {ws:List Value} (hp:K[i]? = some p) (hj:j+ws.length≤s) (hw:over (enc p) j ws=enc p'):over (K.flatMap enc) (i*s+j) ws=(K.set i p').flatMap enc:=by
 obtain ⟨hi,rfl⟩:=List.getElem?_eq_some_iff.1 hp
 have e1:K.flatMap enc=(K.take i).flatMap enc++enc K[i]++(K.drop (i+1)).flatMap enc:=by
  have e0:K=K.take i++(K[i]::K.drop (i+1)):=by rw[List.getElem_cons_drop,List.take_append_drop]
  have:=congrArg (List.flatMap enc) e0
  rw[List.flatMap_append,List.flatMap_cons] at this
  rw[List.append_assoc]; exact this
 have e2:(K.set i p').flatMap enc=(K.take i).flatMap enc++enc p'++(K.drop (i+1)).flatMap enc:=by
  rw[List.set_eq_take_append_cons_drop,if_pos hi]
  simp[List.flatMap_append]
 have hl:((K.take i).flatMap enc).length=i*s:=by rw[bf he,List.length_take,Nat.min_eq_left (by omega)]
 rw[e1,e2,←hl,MR _ _ _ _ _ (by rw[he]; exact hj),hw]
theorem iU (he:∀a:α,(enc a).length=s) {K:List α} {i j:Nat} {p:α} (hp:K[i]? = some p) (hj:j<s):(K.flatMap enc)[i*s+j]? = (enc p)[j]?:=by
 obtain ⟨hi,rfl⟩:=List.getElem?_eq_some_iff.1 hp
 have:=vA he K i hi
 have e:((((K.flatMap enc).drop (i*s)).take s)[j]?)=(enc K[i])[j]?:=by rw[this]
 rw[List.getElem?_take_of_lt hj,List.getElem?_drop] at e
 exact e
end
end Go.Vai

namespace Go.Vai
open Go
structure Gr (bl:Nat) (h h':Heap):Prop where
 nx:h.nx≤h'.nx
 lo:h'.lo=h.lo
 get:∀b,b<h.nx→b≠bl→h'.bl.get b=h.bl.get b
theorem Gr.of_le {bl:Nat} {h h':Heap} (l:Le h h'):Gr bl h h':=⟨l.nx,l.lo,fun b hb _=>l.get b hb⟩
theorem Gr.set {bl:Nat} {h h':Heap} (l:Le h h') (o:bC):Gr bl h ⟨h'.nx,h'.bl.aT bl o,h'.lo⟩:=
 ⟨l.nx,l.lo,fun b hb hn=>(T.ai _ _ (Ne.symm hn)).trans (l.get b hb)⟩
theorem Gr.trans {b:Nat} {h1 h2 h3:Heap} (l:Gr b h1 h2) (k:Gr b h2 h3):Gr b h1 h3:=
 ⟨Nat.le_trans l.nx k.nx,k.lo.trans l.lo,fun c hc hn=>(k.get c (Nat.lt_of_lt_of_le hc l.nx) hn).trans (l.get c hc hn)⟩
section
variable {α:Type} {s:Nat} {enc:α→List Value}
theorem rdE (he:∀a:α,(enc a).length=s) {h:Heap} {b:Nat} {D:List α} {e:TypeId} {op:Bool} (hg:h.bl.get b=some (aa (D.flatMap enc) e op)) {i:Nat} {p:α} (hp:D[i]? = some p) (β:Type) (fl:β) (κ:List Value→β) :
  vz fl (h.bl.get b) (i*s) s κ=κ (enc p):=by
 obtain ⟨hi,rfl⟩:=List.getElem?_eq_some_iff.1 hp
 rw[hg]
 have h1:Has (some (aa (D.flatMap enc) e op)) 0 (D.flatMap enc):=Has.all
 have hl:=bf (enc:=enc) he D
 have h3:i*s+s≤D.length*s:=by rw[←Nat.succ_mul]; exact Nat.mul_le_mul_right s hi
 have h2:=h1.sub (i*s) s (by omega)
 rw[Nat.zero_add,vA he D i hi] at h2
 exact nq h2 s κ (he _).symm
theorem C_ (he:∀a:α,(enc a).length=s) {D:List α} {i:Nat} {p p':α} (hp:D[i]? = some p):over (D.flatMap enc) (i*s) (enc p')=(D.set i p').flatMap enc:=by
 have h1:=he p
 have h2:=he p'
 have:=fW (j:=0) (ws:=enc p') he hp (by omega) (show over (enc p) 0 (enc p')=enc p' by unfold over; simp[h1,h2])
 simpa using this
variable (lt:α→α→Prop)
variable {lt}
end
end Go.Vai

namespace Go.Vai
open Go Go.RowKit
section
variable {α:Type} {enc:α→List Value} {s:Nat} {e:TypeId}
def dZ (enc:α→List Value) (s:Nat) (e:TypeId) (h:Heap) (u:Value) (L:List α):Prop:=(L=[]∧∃x c,u=.slice x 0 c)∨∃(b j:Nat) (W:List α),L≠[]∧u=.slice (some ⟨b,j*s,none⟩) L.length aM∧b<h.nx∧h.lo≤b∧h.bl.get b=some (aa (W.flatMap enc) e true)∧W.length=j+L.length∧W.drop j=L
theorem dZ.len {h:Heap} {u:Value} {L:List α} (p:dZ enc s e h u L) {β:Type} {fl:β} (h':Heap) (κ:Value→Heap→β):bB fl u h' κ=κ (.int .i64 (L.length:Int)) h':=by
 rcases p with ⟨rfl,x,c,rfl⟩ | ⟨b,j,W,_,rfl,_⟩
 ·exact eV _ _ _ _ _
 ·exact eV _ _ _ _ _
theorem dZ.cell {h:Heap} {u:Value} {L:List α} (p:dZ enc s e h u L):∃x c,u=.slice x L.length c:=by
 rcases p with ⟨rfl,x,c,rfl⟩ | ⟨b,j,W,_,rfl,_⟩<;>exact ⟨_,_,rfl⟩
theorem dZ.own {a h:Heap} {u:Value} {L:List α} (o:gL enc a e h u L):dZ enc s e h u L:=by
 rcases o with ⟨rfl,rfl | ⟨b,o,rfl⟩⟩ | ⟨b,rfl,h1,h2,h3,h4⟩
 ·exact .inl ⟨rfl,_,_,rfl⟩
 ·exact .inl ⟨rfl,_,_,rfl⟩
 ·by_cases hL:L=[]
  ·subst hL; exact .inl ⟨rfl,_,_,rfl⟩
  ·exact .inr ⟨b,0,L,hL,by rw[Nat.zero_mul],h2,h3,h4,by omega,rfl⟩
theorem dZ.keep {h h':Heap} {u:Value} {L:List α} (p:dZ enc s e h u L) (hn:h.nx≤h'.nx) (hl:h'.lo=h.lo) (hg:∀c vs,c<h.nx→h.bl.get c=some (aa vs e true)→h'.bl.get c=h.bl.get c):dZ enc s e h' u L:=by
 rcases p with p | ⟨b,j,W,h1,h2,h3,h4,h5,h6⟩
 ·exact .inl p
 ·exact .inr ⟨b,j,W,h1,h2,by omega,by omega,(hg b _ h3 h5).trans h5,h6⟩
theorem dZ.head (he:∀a:α,(enc a).length=s) {h:Heap} {u:Value} {x:α} {L:List α} (p:dZ enc s e h u (x::L)):Sl enc h u (x::L):=by
 rcases p with ⟨e,_⟩ | ⟨b,j,W,h1,h2,h3,h4,h5,h6,h7⟩
 ·cases e
 ·refine ⟨_,aM,h2,fun _=>⟨b,j*s,rfl,h3,?_⟩⟩
  have hh:Has (h.bl.get b) 0 (W.flatMap enc):=by rw[h5]; exact Has.all
  have hl:=bf (enc:=enc) he W
  have hle:j*s≤W.length*s:=Nat.mul_le_mul_right _ (by omega)
  have:=hh.sub (j*s) (W.length*s-j*s) (by rw[hl]; omega)
  rw[Nat.zero_add] at this
  have e1:((W.flatMap enc).drop (j*s)).take (W.length*s-j*s)=(x::L).flatMap enc:=by
   rw[nD he,h7,List.take_of_length_le]
   rw[bf (enc:=enc) he,←h7,List.length_drop,Nat.sub_mul]
   exact Nat.le_refl _
  rwa [e1] at this
theorem dZ.tail (he:∀a:α,(enc a).length=s) (hs0:0<s) {h:Heap} {u:Value} {x:α} {L:List α} (p:dZ enc s e h u (x::L)):∃u',dZ enc s e h u' L∧∀(β:Type) (fl:β) (κ:Value→Heap→β),sliceB fl e s u (some (.int .i64 1)) none none h κ=κ u' h:=by
 rcases p with ⟨e,_⟩ | ⟨b,j,W,h1,h2,h3,h4,h5,h6,h7⟩
 ·cases e
 ·obtain ⟨s,rfl⟩:∃k,s=k+1:=⟨s-1,by omega⟩
  have hl:=bf (enc:=enc) he W
  have hk:fG h e b=some (W.length*(s+1)):=by unfold fG; rw[h5]; simp only[aa,h_,hl]
  have hlen:(x::L).length=L.length+1:=rfl
  rw[hlen] at h2 h6
  have hd:Nat.div (Nat.sub (W.length*(s+1)) (j*(s+1))) (s+1)=L.length+1:=by
   show (W.length*(s+1)-j*(s+1)) / (s+1)=_
   rw[←Nat.sub_mul,Nat.mul_div_cancel _ (by omega)]; omega
  have e1:Nat.beq aM fq=false:=by decide
  have e2:Nat.beq aM aM=true:=Nat.beq_refl _
  have e3:Nat.ble (j*(s+1)) (W.length*(s+1))=true:=Nat.ble_eq_true_of_le (Nat.mul_le_mul_right _ (by omega))
  have e5:Nat.ble (L.length+1) (L.length+1)=true:=Nat.ble_eq_true_of_le (Nat.le_refl _)
  have e6:Nat.ble 1 (L.length+1)=true:=Nat.ble_eq_true_of_le (by omega)
  have hb:∀(β:Type) (fl:β) (κ:Nat→Nat→Nat→β) (c:Nat),gW fl (L.length+1) (L.length+1) c (some (.int .i64 1)) none none κ=κ 1 (L.length+1) c:=fun β fl κ c=>by
   have:=wY (fl:=fl) (len:=L.length+1) (lim:=L.length+1) (cap:=c) (i:=1) (by omega) (Nat.le_refl _) κ
   exact this
  by_cases h0:L.length=0
  ·have hL:L=[]:=List.eq_nil_of_length_eq_zero h0
   subst hL
   refine ⟨.slice (some ⟨b,j*(s+1),none⟩) 0 fq,.inl ⟨rfl,_,_,rfl⟩,fun β fl κ=>?_⟩
   rw[h2]
   unfold sliceB
   simp only[e1,e2,hk,e3,hd]
   rw[hb]
   rfl
  ·have e4:Nat.beq 1 (L.length+1)=false:=by
    cases hq:Nat.beq 1 (L.length+1) with
    | false=>rfl
    | true=>have:=bY hq; omega
   refine ⟨.slice (some ⟨b,(j+1)*(s+1),none⟩) L.length aM,.inr ⟨b,j+1,W,by rintro rfl; exact h0 rfl,rfl,h3,h4,h5,by omega,by rw[←List.drop_drop,h7]; rfl⟩,fun β fl κ=>?_⟩
   rw[h2]
   unfold sliceB
   simp only[e1,e2,hk,e3,hd]
   rw[hb]
   simp only[e2,e4,bT]
   show κ (.slice (some ⟨b,j*(s+1)+1*(s+1),none⟩) (L.length+1-1) aM) h=_
   rw[←Nat.add_mul]; rfl
def d_ (enc:α→List Value) (e:TypeId) (h:Heap) (v:Value) (L:List α):Prop:=(L=[]∧v=.slice none 0 0)∨∃(b:Nat) (G:List α),v=.slice (some ⟨b,0,none⟩) L.length aM∧b<h.nx∧h.lo≤b∧h.bl.get b=some (aa ((L++G).flatMap enc) e true)∧0<(L++G).length
theorem d_.sl {h:Heap} {v:Value} {L:List α} (p:d_ enc e h v L):Sl enc h v L:=by
 rcases p with ⟨rfl,rfl⟩ | ⟨b,G,rfl,h1,h2,h3,h4⟩
 ·exact Sl.nil _ _ _
 ·refine ⟨_,_,rfl,fun _=>⟨b,0,rfl,h1,?_⟩⟩
  have hh:Has (h.bl.get b) 0 ((L++G).flatMap enc):=by rw[h3]; exact Has.all
  rw[List.flatMap_append] at hh
  have:=hh.sub 0 (L.flatMap enc).length (by rw[List.length_append]; omega)
  simpa using this
theorem d_.cell {h:Heap} {v:Value} {L:List α} (p:d_ enc e h v L):∃x c,v=.slice x L.length c:=by
 rcases p with ⟨rfl,rfl⟩ | ⟨b,G,rfl,_⟩<;>exact ⟨_,_,rfl⟩
theorem d_.keep {h h':Heap} {v:Value} {L:List α} (p:d_ enc e h v L) (hn:h.nx≤h'.nx) (hl:h'.lo=h.lo) (hg:∀c vs,c<h.nx→h.bl.get c=some (aa vs e true)→h'.bl.get c=h.bl.get c):d_ enc e h' v L:=by
 rcases p with p | ⟨b,G,h2,h3,h4,h5,h6⟩
 ·exact .inl p
 ·exact .inr ⟨b,G,h2,by omega,by omega,(hg b _ h3 h5).trans h5,h6⟩
theorem d_.own {a h:Heap} {v:Value} {L:List α} (o:gL enc a e h v L) (hn:L≠[]):d_ enc e h v L:=by
 rcases o with ⟨rfl,_⟩ | ⟨b,rfl,h1,h2,h3,h4⟩
 ·exact absurd rfl hn
 ·exact .inr ⟨b,[],rfl,h2,h3,by rw[List.append_nil]; exact h4,by rw[List.append_nil]; exact List.length_pos_iff.2 hn⟩
theorem d_.blk {h:Heap} {v:Value} {L:List α} (p:d_ enc e h v L) {d:Nat} (hb:∃o n c,v=.slice (some ⟨d,o,none⟩) n c):d<h.nx∧∃vs,h.bl.get d=some (aa vs e true):=by
 obtain ⟨o,n,c,rfl⟩:=hb
 rcases p with ⟨_,e⟩ | ⟨b,G,e,h1,h2,h3,h4⟩
 ·cases e
 ·simp at e
  obtain ⟨⟨rfl,_⟩,_⟩:=e
  exact ⟨h1,_,h3⟩
theorem d_.le {h h':Heap} {v:Value} {L:List α} (p:d_ enc e h v L) (l:Le h h'):d_ enc e h' v L:=p.keep l.nx l.lo fun d _ hd _=>l.get d hd
theorem dZ.le {h h':Heap} {v:Value} {L:List α} (p:dZ enc s e h v L) (l:Le h h'):dZ enc s e h' v L:=p.keep l.nx l.lo fun d _ hd _=>l.get d hd
def uA (v:Value) (d:Nat):Prop:=∃o n c,v=.slice (some ⟨d,o,none⟩) n c
structure Rf (v:Value) (h h':Heap):Prop where
 nx:h.nx≤h'.nx
 lo:h'.lo=h.lo
 get:∀d,d<h.nx→¬uA v d→h'.bl.get d=h.bl.get d
theorem Rf.of_le {v:Value} {h h':Heap} (l:Le h h'):Rf v h h':=⟨l.nx,l.lo,fun b hb _=>l.get b hb⟩
variable {P:Program} {ti:TypeId} {f g:FuncId}
theorem Da (mix:P.follows .mixedOrders=true) (he:∀a:α,(enc a).length=s) (hone:∀a:α,(enc a).all cZ=true) (hs0:0<s) {z:List Value} {za:α} (hz:z=enc za) (hs1:s≤1000)
  (hg:∀a0 a1 h κ,aK P g [a0,a1] h κ=dX P ti s a0 a1 h κ) (hb:∀a0 a1 h κ,aK P f [a0,a1] h κ=dY P ti g e s z a0 a1 h κ)
  (h:Heap) (L:List α) (F:α→Bool) (v fv:Value) (κ:KQ) (ho:d_ enc e h v L) (hlen:L.length≤100000) (hlo:h.lo≤h.nx)
  (hF:∀p,∀(h1:Heap) (κ1:Value→Heap→Prop),Rf v h h1→(∀h2,Le h1 h2→κ1 (.bool (F p)) h2)→eU P fv [zw enc p] h1 κ1)
  (hk:∀v' h',d_ enc e h' v' (L.filter fun p=>!F p)→Rf v h h'→(v'=v∨∃b n m,v=.slice (some ⟨b,0,none⟩) n aM∧v'=.slice (some ⟨b,0,none⟩) m aM)→κ v' h'):CallW P f [v,fv] h κ:=by
 have hz0:z.length=s:=by rw[hz]; exact he za
 have hz1:z.all cZ=true:=by rw[hz]; exact hone za
 refine an mix ?_
 rw[hb]
 unfold dY
 refine kI mix he hg L F h v fv _ ho.sl (by omega) (fun p _ h1 κ1 hl dy=>hF p h1 κ1 (Rf.of_le hl) dy) ?_
 intro h1 hle1
 have n1:=hle1.nx
 have l1:=hle1.lo
 rcases kH L F with ⟨e1,e2⟩ | ⟨i0,p0,e1,e2,e3,e4⟩
 ·simp only[e1,eZ]
  simp(disch:=first|omega|simp only[Wd]<;>omega|rfl)only[Wz]
  have:(L.filter fun p=>!F p)=L:=List.filter_eq_self.2 fun p hp=>by simp[e2 p hp]
  rw[this] at hk
  exact hk v h1 (ho.keep hle1.nx hle1.lo fun c _ hc _=>hle1.get c hc) (Rf.of_le hle1) (.inl rfl)
 ·simp only[e1,eZ]
  have hi0:i0<L.length:=(List.getElem?_eq_some_iff.1 e2).1
  have Bi:(L.take i0).filter (fun p=>!F p)=L.take i0:=List.filter_eq_self.2 fun p hp=>by
   obtain ⟨j,hj⟩:=List.getElem?_of_mem hp
   have hj':j<i0:=by have:=(List.getElem?_eq_some_iff.1 hj).1; simp at this; omega
   rw[List.getElem?_take_of_lt hj'] at hj
   simp[e4 j p hj' hj]
  rcases ho with ⟨rfl,_⟩ | ⟨b,G,rfl,Vi,b30,Re,ZX⟩
  ·simp at hi0
  have bk:∀d,d≠b→¬uA (.slice (some ⟨b,0,none⟩) L.length aM) d:=by
   rintro d hd ⟨o,n,c,e⟩; cases e; exact hd rfl
  have b2:b<h1.nx:=by omega
  have b3:h1.lo≤b:=by rw[hle1.lo]; exact b30
  have b4:h1.bl.get b=some (aa ((L++G).flatMap enc) e true):=(hle1.get b Vi).trans Re
  simp(disch:=first|omega|simp only[Wd]<;>omega|rfl)only[Wz]
  refine ⟨fun n l h2=>b<h2.nx∧h2.lo=h.lo∧(h.nx≤h2.nx∧∀c,c<h.nx→c≠b→h2.bl.get c=h.bl.get c)∧∃(j i:Nat) (K:List α),slot l 22=.int .i64 (j:Int)∧slot l 19=.int .i64 (i:Int)∧j≤L.length∧i<j∧n=L.length-j∧K.length=L.length∧
    K.take i=(L.take j).filter (fun p=>!F p)∧K.drop j=L.drop j∧h2.bl.get b=some (aa ((K++G).flatMap enc) e true),
   ⟨_,b2,l1,⟨n1,fun c hc _=>hle1.get c hc⟩,i0+1,i0,L,rfl,rfl,by omega,by omega,rfl,rfl,?_,rfl,b4⟩,?_⟩
  ·rw[fo e2,Bi,e3]; simp
  rintro n l h2 ⟨hb2,L8,hfr,j,i,K,s1,s2,hj,hij,rfl,hK,MP,T0,hg2⟩
  have hKG:(K++G).length=(L++G).length:=by rw[List.length_append,List.length_append,hK]
  have hfl:=bf (enc:=enc) he (K++G)
  rw[hKG] at hfl
  have hLG:(L++G).length=L.length+G.length:=List.length_append
  by_cases hlt:j<L.length
  ·obtain ⟨p,hp⟩:∃p,L[j]? = some p:=⟨_,List.getElem?_eq_getElem hlt⟩
   have hpK:K[j]? = some p:=by
    have:(K.drop j)[0]? = (L.drop j)[0]?:=by rw[T0]
    simpa[hp] using this
   have Vj:Sl enc h2 (.slice (some ⟨b,0,none⟩) L.length aM) K:=by
    have:d_ enc e h2 (.slice (some ⟨b,0,none⟩) L.length aM) K:=.inr ⟨b,G,by rw[hK],hb2,by rw[L8]; exact b30,hg2,by rw[hKG]; exact ZX⟩
    exact this.sl
   obtain ⟨b',o',hb',nT,l_,_⟩:=Vj.ld he j hpK
   have bat:=nT Nat 0 h2 fun v _=>match v with | .pointer (some a)=>a.block | _=>0
   rw[aW _ _ _ _ _ _ _ _ hlt] at bat
   have QO:b=b':=bat
   subst QO
   have hep:=he p
   have hop:=hone p
   have Vk:(enc p).take s=enc p:=by rw[←hep,List.take_length]
   have Qw:=oD z (enc p) (by omega)
   simp(disch:=first|omega|simp only[Wd]<;>omega|rfl)only[Wz,s1,s2,nT,l_]
   refine ⟨fun l h'=>b<h'.nx∧h'.lo=h.lo∧(h.nx≤h'.nx∧∀c,c<h.nx→c≠b→h'.bl.get c=h.bl.get c)∧∃(i':Nat) (K':List α),slot l 15=.int .i64 (i':Int)∧i'<j+1∧K'.length=L.length∧
    K'.take i'=(L.take (j+1)).filter (fun p=>!F p)∧K'.drop (j+1)=L.drop (j+1)∧h'.bl.get b=some (aa ((K'++G).flatMap enc) e true),?_,?_⟩
   ·simp(disch:=first|omega|simp only[Wd]<;>omega|rfl)only[Wz,s1,s2,nT,l_,stG he hone p,Vk,Qw]
    have Vl:=(Le.refl h2).new (aa (enc p) e false)
    refine hF p _ _ ⟨by have:=hfr.1; show h.nx≤h2.nx+1; omega,L8,fun c hc hne=>(T.ai _ _ (by have:=hfr.1; omega)).trans (hfr.2 c hc (by rintro rfl; exact hne ⟨_,_,_,rfl⟩))⟩ ?_
    intro h3 bE
    have n3:=bE.nx
    have l3:=bE.lo
    dsimp only at n3 l3
    have g3:h3.bl.get h2.nx=some (aa (enc p) e false):=(bE.get h2.nx (Nat.lt_succ_self _)).trans (T.af _ _ _)
    have Vm:h3.bl.get b=some (aa ((K++G).flatMap enc) e true):=by
     rw[bE.get b (by show b<h2.nx+1; omega)]
     show (h2.bl.aT h2.nx _).get b=_
     rw[T.ai _ _ (by omega)]; exact hg2
    have w8:h.nx≤h3.nx∧∀c,c<h.nx→c≠b→h3.bl.get c=h.bl.get c:=by
     have q0:=hfr.1
     refine ⟨by omega,fun c hc hne=>?_⟩
     have e1:(h2.bl.aT h2.nx (aa (enc p) e false)).get c=h2.bl.get c:=T.ai _ _ (by omega)
     exact (bE.get c (by show c<h2.nx+1; omega)).trans (e1.trans (hfr.2 c hc hne))
    cases hc:F p with
    | true=>
     simp(disch:=first|omega|simp only[Wd]<;>omega|rfl)only[Wz,s2]
     exact ⟨by omega,by omega,w8,i,K,rfl,by omega,hK,by rw[fo hp,hc]; simpa using MP,by rw[←List.drop_drop,T0,List.drop_drop],Vm⟩
    | false=>
     have Bj:=qG he (K++G) i p (by omega)
     rw[List.set_append_left _ _ (by omega)] at Bj
     have hbd:i*s+s≤((K++G).flatMap enc).length:=by rw[hfl,←Nat.succ_mul]; exact Nat.mul_le_mul_right _ (by omega)
     simp(disch:=first|omega|simp only[Wd]<;>omega|rfl)only[Wz,s2,g3,Vm,aW,stG he hone p,Vk,Bj]
     refine ⟨by omega,by omega,⟨w8.1,fun c hc hne=>(T.ai _ _ (fun e=>hne e.symm)).trans (w8.2 c hc hne)⟩,i+1,K.set i p,rfl,by omega,by simpa using hK,?_,?_,rfl⟩
     ·rw[fo hp,hc,←MP]
      have hiK:i<K.length:=by omega
      rw[List.take_succ_eq_append_getElem (by simpa using hiK)]
      simp[List.take_set_of_le]
     ·rw[List.drop_set_of_lt (by omega),←List.drop_drop,T0,List.drop_drop]
   ·rintro l8 h3 ⟨hb3,F7,w8,i',K',s3,hi',hK',Vn,Vo,hg3⟩
    simp(disch:=first|omega|simp only[Wd]<;>omega|rfl)only[Wz,s1,s3]
    exact ⟨_,by omega,hb3,F7,w8,j+1,i',K',rfl,rfl,by omega,hi',rfl,hK',Vn,Vo,hg3⟩
  ·have hjL:j=L.length:=by omega
   subst hjL
   rw[List.take_length] at MP
   have r1:=Iw hz0 (L.length-i)
   have r2:=Ix hz1 (L.length-i)
   have hbd:i*s+(L.length-i)*s=L.length*s:=by rw[←Nat.add_mul]; congr 1; omega
   have aky:L.length*s≤(L++G).length*s:=Nat.mul_le_mul_right _ (by omega)
   have afo:∀n,aU z n=(List.replicate n za).flatMap enc:=by
    intro n
    induction n with
    | zero=>rfl
    | succ n ih=>rw[List.replicate_succ,List.flatMap_cons,←ih,hz]; rfl
   have MS:∃u,(∀κ:Value→Heap→Prop,sliceB False e s (.slice (some ⟨b,0,none⟩) L.length aM) (some (.int .i64 (i:Int))) none none h2 κ=κ (.slice (some ⟨b,i*s,none⟩) (L.length-i) u) h2):=by
    obtain ⟨s,rfl⟩:∃k,s=k+1:=⟨s-1,by omega⟩
    have hk:fG h2 e b=some ((L++G).length*(s+1)):=by unfold fG; rw[hg2]; simp only[aa,h_,hfl]
    have hd:Nat.div (Nat.sub ((L++G).length*(s+1)) 0) (s+1)=(L++G).length:=by show ((L++G).length*(s+1)-0) / (s+1)=_; rw[Nat.sub_zero,Nat.mul_div_cancel _ (by omega)]
    have e1:Nat.beq aM fq=false:=by decide
    have e2:Nat.beq aM aM=true:=Nat.beq_refl _
    have e3:Nat.ble 0 ((L++G).length*(s+1))=true:=Nat.ble_eq_true_of_le (Nat.zero_le _)
    have e4:Nat.beq i (L++G).length=false:=by
     cases hq:Nat.beq i (L++G).length with
     | false=>rfl
     | true=>have:=bY hq; omega
    refine ⟨aM,fun κ=>?_⟩
    unfold sliceB
    simp only[e1,e2,hk,e3,hd]
    rw[wY (by omega) (by omega)]
    simp only[e2,e4,bT]
    show κ (.slice (some ⟨b,0+i*(s+1),none⟩) (L.length-i) aM) h2=_
    rw[Nat.zero_add]
   obtain ⟨uc,MS⟩:=MS
   simp(disch:=first|omega|simp only[Wd]<;>omega|rfl)only[Wz,s1,s2,MS]
   rw[uy hg2 (by omega) (by rw[r1,hfl]; omega) r2 (by omega)]
   have MQ:(over ((K++G).flatMap enc) (i*s) (aU z (L.length-i))).length=(L++G).length*s:=by
    rw[lu (by rw[r1,hfl]; omega),hfl]
   rw[wX (n:=(L++G).length) (i:=i) (vs:=over ((K++G).flatMap enc) (i*s) (aU z (L.length-i))) hs0 (T.af _ _ _) MQ ZX (by omega)]
   have C9:(L.filter fun p=>!F p).length=i:=by rw[←MP]; simp; omega
   have zx:over ((K++G).flatMap enc) (i*s) (aU z (L.length-i))=((L.filter fun p=>!F p)++(List.replicate (L.length-i) za++G)).flatMap enc:=by
    have h1:((K++G).flatMap enc).take (i*s)=(L.filter fun p=>!F p).flatMap enc:=by
     rw[ny he,List.take_append_of_le_length (by omega),MP]
    have h2:((K++G).flatMap enc).drop (i*s+(L.length-i)*s)=G.flatMap enc:=by
     rw[hbd,nD he,←hK,List.drop_left]
    rw[over,r1,h1,h2,afo,List.flatMap_append,List.flatMap_append,List.append_assoc]
   rw[zx]
   refine hk _ _ (.inr ⟨b,List.replicate (L.length-i) za++G,by rw[C9],hb2,by show h2.lo≤b; omega,T.af _ _ _,by rw[List.length_append,List.length_append,List.length_replicate,C9]; omega⟩) ⟨hfr.1,L8,fun c hc hne=>(T.ai _ _ (by rintro rfl; exact hne ⟨_,_,_,rfl⟩)).trans (hfr.2 c hc (by rintro rfl; exact hne ⟨_,_,_,rfl⟩))⟩ (.inr ⟨b,_,_,rfl,rfl⟩)
end
end Go.Vai

namespace Go.Clashes
structure H4 where
 x:Int
 t:Int
 r:Int
 m:Int
def tab:List (List Bool):=[
 [true,true,true,true,true,true,true],
 [true,true,true,true,true,true,false],
 [true,true,true,false,false,false,false],
 [true,true,false,true,false,true,false],
 [true,true,false,false,false,false,false],
 [true,true,false,true,false,false,false],
 [true,false,false,false,false,false,false]]
def cmp (a b:Int):Bool:=decide (0≤a) && decide (a≤6) && decide (0≤b) && decide (b≤6) && ((tab.getD a.toNat []).getD b.toNat false)
theorem rN (a b:Int):cmp a b=cmp b a:=by
 by_cases h:(0≤a∧a≤6)∧(0≤b∧b≤6)
 ·have key:∀i,i<7→∀j,j<7→cmp (i:Nat) (j:Nat)=cmp (j:Nat) (i:Nat):=by decide
  have:=key a.toNat (by omega) b.toNat (by omega)
  rwa [show ((a.toNat:Nat):Int)=a by omega,show ((b.toNat:Nat):Int)=b by omega] at this
 ·have h1:cmp a b=false:=by
   cases hq:cmp a b with
   | false=>rfl
   | true=>simp[cmp] at hq; omega
  have h2:cmp b a=false:=by
   cases hq:cmp b a with
   | false=>rfl
   | true=>simp[cmp] at hq; omega
  rw[h1,h2]
def bad (p q:H4):Bool:=(p.t == q.t && p.r == q.r) && !(p.x == q.x) && !cmp p.m q.m
end Go.Clashes

namespace Go.Vai
open Go Go.Clashes
def kn (m:Int):Bool:=decide (0≤m) && decide (m≤6)
def afp:List (List Bool):=[
 [true,false,false,false,false,false,false],
 [true,true,false,false,false,false,false],
 [true,true,true,false,false,false,false],
 [true,true,false,true,false,false,false],
 [true,true,true,true,true,false,false],
 [true,true,false,true,false,true,false],
 [true,true,true,true,true,true,true]]
def jT (a b:Int):Bool:=kn a && kn b && ((afp.getD a.toNat []).getD b.toNat false)
def bR (a b:Int):Int:=if (kn a && kn b)=true then (if jT a b then a else if jT b a then b else if jT 4 a && jT 4 b then 4 else 6) else 0
theorem tj (n:Nat):kn (.negSucc n)=false:=by
 have h:¬(0:Int)≤.negSucc n:=by omega
 unfold kn; rw[aV h]; rfl
theorem tq (n:Nat):kn (.ofNat (n+7))=false:=by
 have h:¬(Int.ofNat (n+7))≤6:=by show ¬((n+7:Nat):Int)≤6; omega
 unfold kn; rw[aV h,Bool.and_false]
theorem Bk {a b:Int} (h:jT a b=true):kn a=true∧kn b=true:=by
 simp only[jT,Bool.and_eq_true] at h; exact h.1
theorem T1 {a b:Int} (h:kn a=false):jT a b=false:=by simp[jT,h]
theorem T2 {a b:Int} (h:kn b=false):jT a b=false:=by simp[jT,h]
theorem MT {a b:Int} (h:kn a=false):bR a b=0:=by simp[bR,h]
theorem MU {a b:Int} (h:kn b=false):bR a b=0:=by simp[bR,h]
theorem MV {a b:Int} (h:kn a=false):cmp a b=false:=by
 unfold cmp; unfold kn at h; rw[h]; rfl
theorem T3 {a b:Int} (h:kn b=false):cmp a b=false:=by rw[rN]; exact MV h
theorem tr (a:Int):(∃i:Nat,i<7∧a=Int.ofNat i)∨(∃n:Nat,a=Int.negSucc n)∨∃n:Nat,a=Int.ofNat (n+7):=by
 cases a with
 | negSucc n=>exact .inr (.inl ⟨n,rfl⟩)
 | ofNat i=>
  rcases Nat.lt_or_ge i 7 with h | h
  ·exact .inl ⟨i,h,rfl⟩
  ·exact .inr (.inr ⟨i-7,by congr 1; omega⟩)
theorem seven {p:Nat→Prop} (h0:p 0) (h1:p 1) (h2:p 2) (h3:p 3) (h4:p 4) (h5:p 5) (h6:p 6):∀i,i<7→p i:=by
 intro i hi
 have:i=0∨i=1∨i=2∨i=3∨i=4∨i=5∨i=6:=by omega
 rcases this with rfl | rfl | rfl | rfl | rfl | rfl | rfl<;>assumption
theorem pI {P:Program} (mix:P.follows .mixedOrders=true) {f:FuncId} {F:Int→Int→Value} (h1:∀i,i<7→∀j,j<7→bx P 200 f [.int .i64 (.ofNat i),.int .i64 (.ofNat j)] (F (.ofNat i) (.ofNat j))=true)
  (h2:∀(n:Nat) (b:Int),bx P 200 f [.int .i64 (.negSucc n),.int .i64 b] (F (.negSucc n) b)=true) (h3:∀(n:Nat) (b:Int),bx P 200 f [.int .i64 (.ofNat (n+7)),.int .i64 b] (F (.ofNat (n+7)) b)=true)
  (h4:∀i,i<7→∀n:Nat,bx P 200 f [.int .i64 (.ofNat i),.int .i64 (.negSucc n)] (F (.ofNat i) (.negSucc n))=true) (h5:∀i,i<7→∀n:Nat,bx P 200 f [.int .i64 (.ofNat i),.int .i64 (.ofNat (n+7))] (F (.ofNat i) (.ofNat (n+7)))=true)
  (a b:Int) {h:Heap} {κ:Value→Heap→Prop} (hk:κ (F a b) h):CallW P f [.int .i64 a,.int .i64 b] h κ:=by
 refine rK mix (n:=200) ?_ hk
 rcases tr a with ⟨i,hi,rfl⟩ | ⟨n,rfl⟩ | ⟨n,rfl⟩
 ·rcases tr b with ⟨j,hj,rfl⟩ | ⟨m,rfl⟩ | ⟨m,rfl⟩
  ·exact h1 i hi j hj
  ·exact h4 i hi m
  ·exact h5 i hi m
 ·exact h2 n b
 ·exact h3 n b
theorem jF {a:Int} (h:kn a=true):∃i:Nat,i<7∧a=(i:Int):=by
 unfold kn at h
 simp only[Bool.and_eq_true,decide_eq_true_eq] at h
 exact ⟨a.toNat,by omega,by omega⟩
theorem Rg:∀i,i<7→∀j,j<7→jT (i:Nat) (j:Nat)=true→jT (j:Nat) (i:Nat)=true→i=j:=by decide +kernel
theorem MW {a b:Int} (h1:jT a b=true) (h2:jT b a=true):a=b:=by
 obtain ⟨i,hi,rfl⟩:=jF (Bk h1).1
 obtain ⟨j,hj,rfl⟩:=jF (Bk h1).2
 rw[Rg i hi j hj h1 h2]
theorem Rh:∀i,i<7→jT (i:Nat) 0=true:=by decide +kernel
theorem MX {a:Int} (h:kn a=true):jT a 0=true:=by
 obtain ⟨i,hi,rfl⟩:=jF h
 exact Rh i hi
theorem Vp:∀i,i<7→∀j,j<7→(jT (i:Nat) (bR (i:Nat) (j:Nat))=true→jT (i:Nat) (j:Nat)=true)∧jT (bR (i:Nat) (j:Nat)) (i:Nat)=true∧jT (bR (i:Nat) (j:Nat)) (j:Nat)=true∧(j≠0→bR (i:Nat) (j:Nat)≠0)∧(jT (i:Nat) (j:Nat)=true→bR (i:Nat) (j:Nat)=(i:Nat)):=by decide +kernel
theorem MY {a b:Int} (ha:kn a=true) (hb:kn b=true):(jT a (bR a b)=true→jT a b=true)∧jT (bR a b) a=true∧jT (bR a b) b=true∧(b≠0→bR a b≠0)∧(jT a b=true→bR a b=a):=by
 obtain ⟨i,hi,rfl⟩:=jF ha
 obtain ⟨j,hj,rfl⟩:=jF hb
 obtain ⟨h1,h2,h3,h4,h5⟩:=Vp i hi j hj
 exact ⟨h1,h2,h3,fun hb=>h4 (by omega),h5⟩
theorem Vq {a b:Int} (ha:kn a=true) (hb:kn b=true):kn (bR a b)=true:=(Bk (MY ha hb).2.1).1
end Go.Vai

namespace Go.Vai
open Go Go.Clashes
structure R5 where
 id:Int
 x:Int
 m:Int
 w:Int
 s:Int
def bu (r:R5):List Value:=[.int .i64 r.id,.int .i64 r.x,.int .i64 r.m,.int .i64 r.w,.int .i64 r.s]
theorem cq (r:R5):(bu r).length=5:=rfl
theorem w9 (r:R5):(bu r).all cZ=true:=rfl
theorem Vr {p q:R5}:p=q↔(p.id=q.id∧p.x=q.x∧p.m=q.m∧p.w=q.w∧p.s=q.s):=by
 cases p; cases q; simp
instance:DecidableEq R5:=fun p q=>decidable_of_iff _ Vr.symm
def uB (r:R5):Bool:=decide (r.m≠0) && decide (0<r.s)
theorem vD (r:R5):uB r=true↔r.m≠0∧0<r.s:=by simp[uB]
def An (Q:List R5) (r:R5) (o:Option Nat):Bool:=match o with
 | none=>true
 | some b=>match Q[b]? with
  | some q=>decide (r.s<q.s)
  | none=>false
def best (Q:List R5):Nat→Option Nat
 | 0=>none
 | i+1=>match Q[i]? with
  | some r=>if (uB r && An Q r (best Q i))=true then some i else best Q i
  | none=>best Q i
def dP (Q:List R5):Option Nat:=match best Q Q.length with | some b=>some b | none=>Q.findIdx? (fun r=>decide (r.m=0))
def gF (Q:List R5) (r:R5):Bool:=!Q.any fun o=>decide (o.id≠r.id) && decide (o.m≠0) && !cmp o.m r.w
theorem Iz (Q:List R5):∀i b,best Q i=some b→b<i∧∃r,Q[b]? = some r∧uB r=true:=by
 intro i
 induction i with
 | zero=>intro b h; cases h
 | succ i ih=>
  intro b h
  unfold best at h
  split at h
  ·rename_i r hr
   split at h
   ·rename_i hc
    cases h
    rw[Bool.and_eq_true] at hc
    exact ⟨Nat.lt_succ_self _,r,hr,hc.1⟩
   ·obtain ⟨h1,h2⟩:=ih b h
    exact ⟨by omega,h2⟩
  ·obtain ⟨h1,h2⟩:=ih b h
   exact ⟨by omega,h2⟩
theorem Ao (Q:List R5):∀i,best Q i=none→∀(j:Nat) (r:R5),j<i→Q[j]? = some r→uB r=false:=by
 intro i
 induction i with
 | zero=>intro _ j r h; omega
 | succ i ih=>
  intro h j r hj hr
  unfold best at h
  split at h
  ·rename_i q hq
   split at h
   ·cases h
   ·rename_i hc
    by_cases hji:j=i
    ·subst hji
     rw[hq] at hr; cases hr
     rw[h] at hc
     simpa[An] using hc
    ·exact ih h j r (by omega) hr
  ·rename_i hq
   by_cases hji:j=i
   ·subst hji; rw[hq] at hr; cases hr
   ·exact ih h j r (by omega) hr
theorem Gs {Q:List R5} (h:dP Q=none):∀r∈Q,r.m≠0∧¬0<r.s:=by
 unfold dP at h
 split at h
 ·cases h
 ·rename_i hb
  rw[List.findIdx?_eq_none_iff] at h
  intro r hr
  obtain ⟨j,hj⟩:=List.getElem?_of_mem hr
  have h1:=Ao Q _ hb j r (List.getElem?_eq_some_iff.1 hj).1 hj
  have h2:r.m≠0:=by simpa using h r hr
  refine ⟨h2,fun h3=>?_⟩
  rw[(vD r).2 ⟨h2,h3⟩] at h1; cases h1
theorem qH {Q:List R5} {i:Nat} (h:dP Q=some i):∃r,Q[i]? = some r∧(uB r=true∨(r.m=0∧(∀q∈Q,uB q=false)∧∀(j:Nat) (q:R5),j<i→Q[j]? = some q→q.m≠0)):=by
 unfold dP at h
 split at h
 ·rename_i b hb
  cases h
  obtain ⟨_,r,h1,h2⟩:=Iz Q _ _ hb
  exact ⟨r,h1,.inl h2⟩
 ·rename_i hb
  have hno:∀q∈Q,uB q=false:=fun q hq=>by
   obtain ⟨j,hj⟩:=List.getElem?_of_mem hq
   exact Ao Q _ hb j q (List.getElem?_eq_some_iff.1 hj).1 hj
  rcases kH Q (fun r=>decide (r.m=0)) with ⟨e,_⟩ | ⟨k,p,e,hp,h1,h2⟩
  ·rw[e] at h; cases h
  ·rw[e] at h; cases h
   exact ⟨p,hp,.inr ⟨by simpa using h1,hno,fun j q hj hq=>by simpa using h2 j q hj hq⟩⟩
theorem mI (Q:List R5) (r:R5):gF Q r=true↔∀o∈Q,o.id≠r.id→o.m≠0→cmp o.m r.w=true:=by
 unfold gF
 rw[Bool.not_eq_true',List.any_eq_false]
 constructor
 ·intro h o ho h1 h2
  have:=h o ho
  simpa[h1,h2] using this
 ·intro h o ho hc
  simp only[Bool.and_eq_true,decide_eq_true_eq,Bool.not_eq_true'] at hc
  rw[h o ho hc.1.1 hc.1.2] at hc
  cases hc.2
structure MZ (W:Int) (r:R5):Prop where
 id:0≤r.id
 km:kn r.m=true
 kw:kn r.w=true
 s0:0≤r.s
 sW:r.s≤W
 wait:0<r.s→jT r.m r.w=false
 hold:r.s=0→r.m≠0∧r.w=r.m
structure w_ (a b:R5):Prop where
 id:a.id≠b.id
 x:a.x≠b.x
 s:0<a.s→a.s≠b.s
 cm:a.m≠0→b.m≠0→cmp a.m b.m=true
 ord:a.m=0→b.m=0∧a.s<b.s
structure VQ (Q:List R5) (W:Int):Prop where
 w0:0≤W
 right:∀r∈Q,MZ W r
 pair:Q.Pairwise w_
theorem dU {α:Type} {R:α→α→Prop} {L:List α}:L.Pairwise R↔∀(i j:Nat) (p q:α),i<j→L[i]? = some p→L[j]? = some q→R p q:=by
 rw[List.pairwise_iff_getElem]
 constructor
 ·intro h i j p q hij hp hq
  obtain ⟨hi,rfl⟩:=List.getElem?_eq_some_iff.1 hp
  obtain ⟨hj,rfl⟩:=List.getElem?_eq_some_iff.1 hq
  exact h i j hi hj hij
 ·intro h i j hi hj hij
  exact h i j _ _ hij (List.getElem?_eq_getElem hi) (List.getElem?_eq_getElem hj)
theorem qI {α:Type} {R:α→α→Prop} {L:List α} {i:Nat} {p:α} (h:L.Pairwise R) (h1:∀(j:Nat) (q:α),j<i→L[j]? = some q→R q p) (h2:∀(j:Nat) (q:α),i<j→L[j]? = some q→R p q):(L.set i p).Pairwise R:=by
 rw[dU] at *
 intro a b u v hab hu hv
 rw[List.getElem?_set] at hu hv
 by_cases ha:i=a
 ·subst ha
  rw[if_pos rfl] at hu
  rw[if_neg (by omega)] at hv
  split at hu
  ·cases hu; exact h2 b v hab hv
  ·cases hu
 ·rw[if_neg ha] at hu
  by_cases hb:i=b
  ·subst hb
   rw[if_pos rfl] at hv
   split at hv
   ·cases hv; exact h1 a u hab hu
   ·cases hv
  ·rw[if_neg hb] at hv
   exact h a b u v hab hu hv
theorem mem_set {α:Type} {L:List α} {i:Nat} {p q:α} (h:q∈L.set i p):q=p∨q∈L:=by
 rcases List.mem_or_eq_of_mem_set h with h | h
 ·exact .inr h
 ·exact .inl h
theorem M0 {Q:List R5} (h:Q.Pairwise w_) {i j:Nat} {p q:R5} (hp:Q[i]? = some p) (hq:Q[j]? = some q) (he:p.id=q.id):i=j:=by
 rcases Nat.lt_trichotomy i j with h1 | h1 | h1
 ·exact absurd he (dU.1 h i j p q h1 hp hq).id
 ·exact h1
 ·exact absurd he.symm (dU.1 h j i q p h1 hq hp).id
theorem Vs {Q:List R5} (h:Q.Pairwise w_) {p q:R5} (hp:p∈Q) (hq:q∈Q) (he:p.id=q.id):p=q:=by
 obtain ⟨i,hi⟩:=List.getElem?_of_mem hp
 obtain ⟨j,hj⟩:=List.getElem?_of_mem hq
 have:=M0 h hi hj he
 subst this
 rw[hi] at hj; cases hj; rfl
theorem VQ.mono {Q:List R5} {W W':Int} (v:VQ Q W) (h:W≤W'):VQ Q W':=
 ⟨Int.le_trans v.w0 h,fun r hr=>let a:=v.right r hr; ⟨a.id,a.km,a.kw,a.s0,Int.le_trans a.sW h,a.wait,a.hold⟩,v.pair⟩
theorem VQ.nil:VQ [] 0:=⟨Int.le_refl _,fun r hr=>(by cases hr),List.Pairwise.nil⟩
theorem VQ.filter {Q:List R5} {W:Int} (v:VQ Q W) (F:R5→Bool):VQ (Q.filter F) W:=
 ⟨v.w0,fun r hr=>v.right r (List.mem_filter.1 hr).1,v.pair.sublist List.filter_sublist⟩
theorem xb {W:Int} {r:R5} (h:MZ W r) (hs:0<r.s):r.w≠0:=by
 intro e
 have:=h.wait hs
 rw[e,MX h.km] at this; cases this
def dz (r:R5):R5:=⟨r.id,r.x,r.w,r.w,0⟩
theorem VQ.M1 {Q:List R5} {W:Int} (v:VQ Q W) {i:Nat} {r:R5} (hf:dP Q=some i) (hr:Q[i]? = some r) (hfit:gF Q r=true):VQ (Q.set i (dz r)) W:=by
 obtain ⟨r',hr',IA⟩:=qH hf
 rw[hr] at hr'; cases hr'
 have R:=v.right r (List.mem_of_getElem? hr)
 have hs:0<r.s:=by
  rcases IA with h | ⟨h,_⟩
  ·exact ((vD r).1 h).2
  ·rcases Int.lt_or_eq_of_le R.s0 with h0 | h0
   ·exact h0
   ·exact absurd h (R.hold h0.symm).1
 have hw:=xb R hs
 rw[mI] at hfit
 refine ⟨v.w0,?_,?_⟩
 ·intro q hq
  rcases mem_set hq with rfl | hq
  ·exact ⟨R.id,R.kw,R.kw,Int.le_refl _,v.w0,fun h=>absurd h (Int.lt_irrefl _),fun _=>⟨hw,rfl⟩⟩
  ·exact v.right q hq
 ·refine qI v.pair ?_ ?_
  ·intro j q hj hq
   have P:=dU.1 v.pair j i q r hj hq hr
   have hm:q.m≠0:=by
    rcases IA with h | ⟨_,_,h⟩
    ·intro e; exact ((vD r).1 h).1 (P.ord e).1
    ·exact h j q hj hq
   exact ⟨P.id,P.x,fun h=>(fun e:q.s=0=>by omega),fun h1 _=>hfit q (List.mem_of_getElem? hq) P.id h1,fun e=>absurd e hm⟩
  ·intro j q hj hq
   have P:=dU.1 v.pair i j r q hj hr hq
   refine ⟨P.id,P.x,fun h=>absurd h (Int.lt_irrefl _),fun _ h2=>?_,fun e=>absurd e hw⟩
   rw[rN]
   exact hfit q (List.mem_of_getElem? hq) (fun e=>P.id e.symm) h2
def ia (Q:List R5):Nat:=(Q.filter fun r=>decide (0<r.s)).length
theorem qJ {Q:List R5} {i:Nat} {r:R5} (hr:Q[i]? = some r) (hs:0<r.s):ia (Q.set i (dz r))+1=ia Q:=by
 obtain ⟨hi,rfl⟩:=List.getElem?_eq_some_iff.1 hr
 have e1:Q=Q.take i++Q[i]::Q.drop (i+1):=by
  rw[List.getElem_cons_drop,List.take_append_drop]
 have e2:Q.set i (dz Q[i])=Q.take i++dz Q[i]::Q.drop (i+1):=by
  rw[List.set_eq_take_append_cons_drop,if_pos hi]
 have hg:decide (0<(dz Q[i]).s)=false:=by simp[dz]
 have h1:ia Q=((Q.take i).filter fun r=>decide (0<r.s)).length+(((Q.drop (i+1)).filter fun r=>decide (0<r.s)).length+1):=by
  conv=>lhs; rw[e1]
  unfold ia
  rw[List.filter_append,List.filter_cons,if_pos (by simpa using hs)]
  simp
 rw[e2,h1]
 unfold ia
 rw[List.filter_append,List.filter_cons,if_neg (by rw[hg]; simp)]
 simp; omega
def dD:Nat→List R5→List R5 × List Int
 | 0,Q=>(Q,[])
 | n+1,Q=>match dP Q with
  | none=>(Q,[])
  | some i=>match Q[i]? with
   | none=>(Q,[])
   | some r=>if gF Q r=true then ((dD n (Q.set i (dz r))).1,r.id::(dD n (Q.set i (dz r))).2) else (Q,[])
def qK (Q:List R5):Prop:=∀i r,dP Q=some i→Q[i]? = some r→gF Q r=false
def Gt (r:R5):Int × Int:=(r.id,r.x)
theorem jo {Q:List R5} {W:Int} (v:VQ Q W) {i:Nat} {r:R5} (hf:dP Q=some i) (hr:Q[i]? = some r):0<r.s:=by
 obtain ⟨r',hr',IA⟩:=qH hf
 rw[hr] at hr'; cases hr'
 have R:=v.right r (List.mem_of_getElem? hr)
 rcases IA with h | ⟨h,_⟩
 ·exact ((vD r).1 h).2
 ·rcases Int.lt_or_eq_of_le R.s0 with h0 | h0
  ·exact h0
  ·exact absurd h (R.hold h0.symm).1
theorem J5 {W:Int}:∀(n:Nat) {Q:List R5},VQ Q W→∀q∈Q,q.s=0→q∈(dD n Q).1:=by
 intro n
 induction n with
 | zero=>intro Q v q hq _; exact hq
 | succ n ih=>
  intro Q v q hq h0
  unfold dD
  split
  ·exact hq
  ·rename_i i hf
   split
   ·exact hq
   ·rename_i r hr
    by_cases hfit:gF Q r=true
    ·rw[if_pos hfit]
     refine ih (v.M1 hf hr hfit) q ?_ h0
     obtain ⟨k,hk⟩:=List.getElem?_of_mem hq
     have hne:i≠k:=by
      rintro rfl
      rw[hr] at hk; cases hk
      have:=jo v hf hr
      omega
     exact List.mem_of_getElem? (i:=k) (by rw[List.getElem?_set,if_neg hne]; exact hk)
    ·rw[if_neg hfit]; exact hq
theorem Bl {W:Int}:∀(n:Nat) {Q:List R5},VQ Q W→VQ (dD n Q).1 W∧(dD n Q).1.map Gt=Q.map Gt∧(ia Q<n→qK (dD n Q).1)∧(∀i∈(dD n Q).2,∃r∈(dD n Q).1,r.id=i∧r.m≠0∧r.s=0):=by
 intro n
 induction n with
 | zero=>intro Q v; exact ⟨v,rfl,fun h=>(by omega),fun i h=>(by cases h)⟩
 | succ n ih=>
  intro Q v
  unfold dD
  split
  ·rename_i hf
   refine ⟨v,rfl,fun _=>?_,fun i h=>(by cases h)⟩
   intro i r h _
   rw[hf] at h; cases h
  ·rename_i i hf
   split
   ·rename_i hr
    refine ⟨v,rfl,fun _=>?_,fun i h=>(by cases h)⟩
    intro j r h h2
    rw[hf] at h; cases h; rw[hr] at h2; cases h2
   ·rename_i r hr
    by_cases hfit:gF Q r=true
    ·rw[if_pos hfit]
     have v2:=v.M1 hf hr hfit
     obtain ⟨h1,h2,h3,h4⟩:=ih v2
     have hc:=qJ hr (jo v hf hr)
     have hkey:(Q.set i (dz r)).map Gt=Q.map Gt:=by
      rw[List.map_set]
      have:Gt (dz r)=Gt r:=rfl
      rw[this]
      apply List.ext_getElem?
      intro k
      rw[List.getElem?_set]
      by_cases hik:i=k
      ·subst hik
       have hil:=(List.getElem?_eq_some_iff.1 hr).1
       rw[if_pos rfl,if_pos (by simpa using hil),List.getElem?_map,hr]; rfl
      ·rw[if_neg hik]
     refine ⟨h1,h2.trans hkey,fun h=>h3 (by omega),fun j hj=>?_⟩
     rcases List.mem_cons.1 hj with rfl | hj
     ·refine ⟨dz r,J5 n v2 (dz r) ?_ rfl,rfl,?_,rfl⟩
      ·have hil:=(List.getElem?_eq_some_iff.1 hr).1
       exact List.mem_of_getElem? (i:=i) (by rw[List.getElem?_set,if_pos rfl,if_pos hil])
      ·exact xb (v.right r (List.mem_of_getElem? hr)) (jo v hf hr)
     ·exact h4 j hj
    ·rw[if_neg hfit]
     refine ⟨v,rfl,fun _=>?_,fun i h=>(by cases h)⟩
     intro j q h h2
     rw[hf] at h; cases h; rw[hr] at h2; cases h2; simpa using hfit
theorem xe {Q:List R5} (h:qK Q) (n:Nat):dD n Q=(Q,[]):=by
 cases n with
 | zero=>rfl
 | succ n=>
  unfold dD
  split
  ·rfl
  ·rename_i i hf
   split
   ·rfl
   ·rename_i r hr
    rw[if_neg (by rw[h i r hf hr]; simp)]
end Go.Vai

namespace Go.Vai
open Go Go.Clashes
def bN (m:Int):Bool:=decide (m≠0) && kn m
theorem iV (m:Int):bN m=true↔m≠0∧kn m=true:=by simp[bN]
def b6 (id:Int) (r:R5):Bool:=decide (r.id=id)
def bV (Q:List R5) (id:Int):Option R5:=Q.find? (b6 id)
theorem iW {Q:List R5} {id:Int} {r:R5} (h:bV Q id=some r):r∈Q∧r.id=id:=by
 unfold bV at h
 have:=List.find?_some h
 exact ⟨List.mem_of_find?_eq_some h,by simpa[b6] using this⟩
theorem xg {Q:List R5} {id:Int} (h:bV Q id=none):∀r∈Q,r.id≠id:=by
 unfold bV at h
 rw[List.find?_eq_none] at h
 intro r hr e
 exact h r hr (by simp[b6,e])
theorem J6 {Q:List R5} (hp:Q.Pairwise w_) {r:R5} (hr:r∈Q):bV Q r.id=some r:=by
 cases h:bV Q r.id with
 | none=>exact absurd rfl (xg h r hr)
 | some q=>
  obtain ⟨h1,h2⟩:=iW h
  rw[Vs hp h1 hr h2]
def jG (Q:List R5) (W id x m:Int):R5 × Int × Bool:=
 if (decide (dP Q=none) && gF Q ⟨id,x,0,m,0⟩)=true then (⟨id,x,m,m,0⟩,W,true) else (⟨id,x,0,m,W+1⟩,W+1,false)
theorem Vt {m:Int} (h:jT 0 m=true):m=0:=by
 have key:∀j,j<7→jT 0 (j:Nat)=true→j=0:=by decide +kernel
 obtain ⟨j,hj,rfl⟩:=jF (Bk h).2
 rw[key j hj h]; rfl
theorem rO {α:Type} {R:α→α→Prop} {L:List α} {p:α} (h:L.Pairwise R) (h1:∀q∈L,R q p):(L++[p]).Pairwise R:=by
 rw[List.pairwise_append]
 exact ⟨h,List.pairwise_singleton _ _,fun q hq r hr=>by rw[List.mem_singleton] at hr; subst hr; exact h1 q hq⟩
theorem VQ.ask {Q:List R5} {W:Int} (v:VQ Q W) {id x m:Int} (hid:0≤id) (hm:bN m=true) (hn:∀q∈Q,q.id≠id∧q.x≠x):VQ (Q++[(jG Q W id x m).1]) (jG Q W id x m).2.1:=by
 obtain ⟨m0,km⟩:=(iV m).1 hm
 unfold jG
 by_cases hc:(decide (dP Q=none) && gF Q ⟨id,x,0,m,0⟩)=true
 ·rw[if_pos hc]
  rw[Bool.and_eq_true,decide_eq_true_eq,mI] at hc
  have hall:=Gs hc.1
  refine ⟨v.w0,?_,rO v.pair ?_⟩
  ·intro r hr
   rcases List.mem_append.1 hr with hr | hr
   ·exact v.right r hr
   ·rw[List.mem_singleton] at hr; subst hr
    exact ⟨hid,km,km,Int.le_refl _,v.w0,fun h=>absurd h (Int.lt_irrefl _),fun _=>⟨m0,rfl⟩⟩
  ·intro q hq
   exact ⟨(hn q hq).1,(hn q hq).2,fun h=>absurd h (hall q hq).2,fun h1 _=>hc.2 q hq (hn q hq).1 h1,fun e=>absurd e (hall q hq).1⟩
 ·rw[if_neg hc]
  have v2:=v.mono (W':=W+1) (by omega)
  refine ⟨v2.w0,?_,rO v.pair ?_⟩
  ·intro r hr
   rcases List.mem_append.1 hr with hr | hr
   ·exact v2.right r hr
   ·rw[List.mem_singleton] at hr; subst hr
    refine ⟨hid,rfl,km,v2.w0,Int.le_refl _,fun _=>?_,fun h=>?_⟩
    ·cases hcv:jT 0 m with
     | false=>rfl
     | true=>exact absurd (Vt hcv) m0
    ·have:=v.w0; have h:W+1=0:=h; omega
  ·intro q hq
   have:=(v.right q hq).sW
   exact ⟨(hn q hq).1,(hn q hq).2,fun _=>(fun e:q.s=W+1=>by omega),fun _ h=>absurd rfl h,fun _=>⟨rfl,by show q.s<W+1; omega⟩⟩
def iM (Q:List R5) (W:Int) (r:R5) (m:Int):R5 × Int × Bool:=
 if (decide (bR r.m m=r.m) || (gF Q ⟨r.id,r.x,r.m,bR r.m m,r.s⟩ && !Q.any uB))=true then (⟨r.id,r.x,bR r.m m,bR r.m m,r.s⟩,W,true) else (⟨r.id,r.x,r.m,bR r.m m,W+1⟩,W+1,false)
theorem VQ.upg {Q:List R5} {W:Int} (v:VQ Q W) {i:Nat} {r:R5} {m:Int} (hr:Q[i]? = some r) (hs:¬0<r.s) (hm:bN m=true):VQ (Q.set i (iM Q W r m).1) (iM Q W r m).2.1:=by
 obtain ⟨m0,km⟩:=(iV m).1 hm
 have R:=v.right r (List.mem_of_getElem? hr)
 have hs0:r.s=0:=by have:=R.s0; omega
 obtain ⟨rm0,rw⟩:=R.hold hs0
 obtain ⟨_,c1,c2,c3,_⟩:=MY R.km km
 have ks:=Vq R.km km
 have before:∀(j:Nat) (q:R5),j<i→Q[j]? = some q→q.m≠0:=fun j q hj hq e=>rm0 ((dU.1 v.pair j i q r hj hq hr).ord e).1
 unfold iM
 by_cases hc:(decide (bR r.m m=r.m) || (gF Q ⟨r.id,r.x,r.m,bR r.m m,r.s⟩ && !Q.any uB))=true
 ·rw[if_pos hc]
  have hfit:∀o∈Q,o.id≠r.id→o.m≠0→cmp o.m (bR r.m m)=true:=by
   intro o ho h1 h2
   rw[Bool.or_eq_true,decide_eq_true_eq,Bool.and_eq_true,mI] at hc
   rcases hc with e | ⟨h,_⟩
   ·rw[e]
    obtain ⟨k,hk⟩:=List.getElem?_of_mem ho
    rcases Nat.lt_trichotomy k i with dy | dy | dy
    ·exact (dU.1 v.pair k i o r dy hk hr).cm h2 rm0
    ·subst dy; rw[hr] at hk; cases hk; exact absurd rfl h1
    ·rw[rN]; exact (dU.1 v.pair i k r o dy hr hk).cm rm0 h2
   ·exact h o ho h1 h2
  refine ⟨v.w0,?_,qI v.pair ?_ ?_⟩
  ·intro q hq
   rcases mem_set hq with rfl | hq
   ·exact ⟨R.id,ks,ks,R.s0,R.sW,fun h=>absurd h hs,fun _=>⟨c3 m0,rfl⟩⟩
   ·exact v.right q hq
  ·intro j q hj hq
   have P:=dU.1 v.pair j i q r hj hq hr
   exact ⟨P.id,P.x,P.s,fun h1 _=>hfit q (List.mem_of_getElem? hq) P.id h1,fun e=>absurd e (before j q hj hq)⟩
  ·intro j q hj hq
   have P:=dU.1 v.pair i j r q hj hr hq
   exact ⟨P.id,P.x,P.s,fun _ h2=>by rw[rN]; exact hfit q (List.mem_of_getElem? hq) (fun e=>P.id e.symm) h2,fun e=>absurd e (c3 m0)⟩
 ·rw[if_neg hc]
  have v2:=v.mono (W':=W+1) (by omega)
  rw[Bool.or_eq_true,decide_eq_true_eq] at hc
  refine ⟨v2.w0,?_,qI v.pair ?_ ?_⟩
  ·intro q hq
   rcases mem_set hq with rfl | hq
   ·refine ⟨R.id,R.km,ks,v2.w0,Int.le_refl _,fun _=>?_,fun h=>?_⟩
    ·cases hcv:jT r.m (bR r.m m) with
     | false=>rfl
     | true=>exact absurd (.inl (MW c1 hcv)) hc
    ·have:=v.w0; have h:W+1=0:=h; omega
   ·exact v2.right q hq
  ·intro j q hj hq
   have P:=dU.1 v.pair j i q r hj hq hr
   have:=(v.right q (List.mem_of_getElem? hq)).sW
   exact ⟨P.id,P.x,fun _=>(fun e:q.s=W+1=>by omega),P.cm,fun e=>absurd e (before j q hj hq)⟩
  ·intro j q hj hq
   have P:=dU.1 v.pair i j r q hj hr hq
   have:=(v.right q (List.mem_of_getElem? hq)).sW
   exact ⟨P.id,P.x,fun _=>(fun e:W+1=q.s=>by omega),P.cm,fun e=>absurd e rm0⟩
def uC (r:R5) (x:Int):R5:=⟨r.id,x,r.m,r.w,r.s⟩
theorem VQ.hand {Q:List R5} {W:Int} (v:VQ Q W) {i:Nat} {r:R5} {x:Int} (hr:Q[i]? = some r) (hx:∀q∈Q,q.id≠r.id→q.x≠x):VQ (Q.set i (uC r x)) W:=by
 have R:=v.right r (List.mem_of_getElem? hr)
 refine ⟨v.w0,?_,qI v.pair ?_ ?_⟩
 ·intro q hq
  rcases mem_set hq with rfl | hq
  ·exact ⟨R.id,R.km,R.kw,R.s0,R.sW,R.wait,R.hold⟩
  ·exact v.right q hq
 ·intro j q hj hq
  have P:=dU.1 v.pair j i q r hj hq hr
  exact ⟨P.id,hx q (List.mem_of_getElem? hq) P.id,P.s,P.cm,P.ord⟩
 ·intro j q hj hq
  have P:=dU.1 v.pair i j r q hj hr hq
  exact ⟨P.id,fun e=>hx q (List.mem_of_getElem? hq) (fun e=>P.id e.symm) e.symm,P.s,P.cm,P.ord⟩
end Go.Vai

namespace Go.Vai
open Go
variable {β:Type} {fl:β}
noncomputable def Ri (fl:β) (l c:Value) (z:List Value) (e:TypeId) (h:Heap) (κ:Value→Heap→β):β:=
 match l,c with
 | .int _ (.ofNat l),.int _ (.ofNat c)=>match Nat.ble l c,Nat.ble c 1000000 with
  | true,true=>aF fl (aU z c) e false fun o=>aq fl o h fun b h=>κ (sliceTo l c b) h
  | _,_=>fl
 | _,_=>fl
theorem Bm (n:Nat) (z:List Value) (e:TypeId) (h:Heap) (κ:Value→Heap→β) (hn:n≤1000000) (hl:(aU z n).length≤1000000000000) :
  Ri fl (.int .i64 (n:Int)) (.int .i64 (n:Int)) z e h κ=κ (.slice (some ⟨h.nx,0,none⟩) n n) ⟨h.nx+1,h.bl.aT h.nx (aa (aU z n) e false),h.lo⟩:=by
 have e1:Nat.ble n n=true:=Nat.ble_eq_true_of_le (Nat.le_refl _)
 have e2:Nat.ble n 1000000=true:=Nat.ble_eq_true_of_le hn
 show (match Nat.ble n n,Nat.ble n 1000000 with | true,true=>_ | _,_=>fl)=_
 rw[e1,e2]
 simp only
 rw[iu _ _ _ _ hl,dx]; rfl
end Go.Vai
