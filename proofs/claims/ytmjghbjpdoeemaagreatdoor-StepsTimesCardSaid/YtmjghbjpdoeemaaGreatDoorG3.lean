/-
  PROVED HERE: a part of the proof (VaiG, Plain, PM, Q1, Q2, VaiH).
-/
import Derived.Test.YtmjghbjpdoeemaaGreatDoorG2
set_option linter.unusedVariables false
set_option linter.unusedSimpArgs false
set_option maxRecDepth 100000
namespace Go.Vai
open Go Go.RowKit
def iB:Option Nat→Int | some i=>i | none=>-1
def HQ (a b:Heap):Prop:=a=b
theorem JI {α:Type} (L:List α) (F:α→Bool):(decide (0≤iB (L.findIdx? F)))=L.any F:=by
 cases hf:L.findIdx? F with
 | none=>
  rw[List.findIdx?_eq_none_iff] at hf
  have:L.any F=false:=by rw[List.any_eq_false]; intro x hx; simp[hf x hx]
  rw[this]; rfl
 | some i=>
  rw[List.findIdx?_eq_some_iff_getElem] at hf
  obtain ⟨hi,h1,_⟩:=hf
  have:L.any F=true:=List.any_eq_true.2 ⟨_,List.getElem_mem hi,h1⟩
  rw[this]
  exact decide_eq_true (by show (0:Int)≤(i:Int); omega)
theorem mo {α:Type} (L:List α) (F:α→Bool):(L.findIdx? F=none∧∀x∈L,F x=false)∨∃(i:Nat) (p:α),L.findIdx? F=some i∧L[i]? = some p∧F p=true∧∀(j:Nat) (q:α),j<i→L[j]? = some q→F q=false:=by
 cases hf:L.findIdx? F with
 | none=>
  rw[List.findIdx?_eq_none_iff] at hf
  exact .inl ⟨rfl,hf⟩
 | some i=>
  rw[List.findIdx?_eq_some_iff_getElem] at hf
  obtain ⟨hi,h1,h2⟩:=hf
  refine .inr ⟨i,L[i],rfl,List.getElem?_eq_getElem hi,h1,fun j q hj hq=>?_⟩
  have:=h2 j hj
  rw[(List.getElem?_eq_some_iff.1 hq).2] at this
  simpa using this
theorem JJ {α:Type} {L:List α} {F:α→Bool} {i:Nat} {p:α} (hp:L[i]? = some p) (h1:F p=true) (h2:∀(j:Nat) (q:α),j<i→L[j]? = some q→F q=false):L.findIdx? F=some i:=by
 rw[List.findIdx?_eq_some_iff_getElem]
 obtain ⟨fQ,hk2⟩:=List.getElem?_eq_some_iff.1 hp
 refine ⟨fQ,by rw[hk2]; exact h1,fun j hj=>?_⟩
 simpa using h2 j _ hj (List.getElem?_eq_getElem (by omega))
theorem JK {α:Type} {L:List α} {F:α→Bool} (h2:∀(j:Nat) (q:α),L[j]? = some q→F q=false):L.findIdx? F=none:=by
 rw[List.findIdx?_eq_none_iff]
 intro p hp
 obtain ⟨j,hj⟩:=List.getElem?_of_mem hp
 exact h2 j p hj
theorem kS {α:Type} {F:α→Bool} {L:List α} {j:Nat} {p:α} (hp:L[j]? = some p):(L.take (j+1)).filter F=(L.take j).filter F++if F p then [p] else []:=by
 obtain ⟨hj,rfl⟩:=List.getElem?_eq_some_iff.1 hp
 rw[List.take_succ_eq_append_getElem hj,List.filter_append]
 cases h:F L[j]<;>simp[h]
noncomputable def iQ (P:Program) (ti:TypeId) (s:Nat) (a0 a1:Value) (h:Heap) (κ:KQ):Prop:=
 bz False a0 h fun v0 h=>
 ej [undef,undef,undef,undef,undef,undef,undef,undef,undef,undef,(Value.int .i64 (0)),undef,(Value.int .i64 (0))] h fun l2 h N1=>
 au False P .lss ti false false (slot l2 12) v0 h fun v3 h=>
 az v3 (
 av False s a0 (slot l2 12) h fun v4 h=>
 aI False s v4 h fun v5 h=>
 ic P a1 [v5] h fun v6 h=>
 az v6 (
 κ (slot l2 12) h) (
 au False P .add ti true false (slot l2 12) (Value.int .i64 (1)) h fun v7 h=>
 N1 [v3,(slot l2 12),(slot l2 12),a1,a0,(slot l2 12),v4,v5,v6,(slot l2 9),(slot l2 10),v7,v7] h)) (
 κ (Value.int .i64 (-1)) h)
noncomputable def jQ (P:Program) (ti:TypeId) (g:FuncId) (a0 a1:Value) (h:Heap) (κ:KQ):Prop:=
 CallW P g [a0,a1] h fun v0 h=>
 au False P .geq ti true false v0 (Value.int .i64 (0)) h fun v1 h=>
 κ v1 h
noncomputable def zz (P:Program) (tS e s:Nat) (z:List Value) (a0:Value) (h:Heap) (κ:KQ):Prop:=
 au False P .eql tS true false a0 (Value.slice none 0 0) h fun v0 h=>
 az v0 (
 κ (Value.slice none 0 0) h) (
 bJ False [] [] (aT z 0) fun cs3=>aF False cs3 e false fun o1=>an False o1 h fun b2 h=>
 bG False e s z false (sliceTo 0 0 b2) a0 h fun v4 h=>
 κ v4 h)
noncomputable def mq (P:Program) (ti:TypeId) (g:FuncId) (e s:Nat) (z:List Value) (a0 a1:Value) (h:Heap) (κ:KQ):Prop:=
 CallW P g [a0,a1] h fun v0 h=>
 au False P .eql ti true false v0 (Value.int .i64 (-1)) h fun v1 h=>
 az v1 (
 κ a0 h) (
 au False P .add ti true false v0 (Value.int .i64 (1)) h fun v2 h=>
 ej [undef,undef,undef,undef,undef,undef,undef,undef,undef,undef,undef,undef,undef,undef,undef,undef,undef,undef,undef,v0,undef,undef,v2] h fun l4 h N3=>
 bz False a0 h fun v5 h=>
 au False P .lss ti false false (slot l4 22) v5 h fun v6 h=>
 az v6 (
 dw (fun N7=>
 av False s a0 (slot l4 22) h fun v9 h=>
 aI False s v9 h fun v10 h=>
 aF False z e false fun o11=>an False o11 h fun su h=>
 aG False s (ptrTo su) v10 h fun bN h=>
 aI False s (ptrTo su) h fun bM h=>
 ic P a1 [bM] h fun bR h=>
 iX False .not bR h fun v16 h=>
 az v16 (
 aI False s (ptrTo su) h fun v17 h=>
 av False s a0 (slot l4 19) h fun cM h=>
 aG False s cM v17 h fun v19 h=>
 au False P .add ti true false (slot l4 19) (Value.int .i64 (1)) h fun v20 h=>
 N7 [a0,(slot l4 22),v9,v10,(ptrTo su),a1,bM,bR,v16,a0,(slot l4 19),v17,cM,(slot l4 19),v20,v20] h) (
 N7 [a0,(slot l4 22),v9,v10,(ptrTo su),a1,bM,bR,v16,(slot l4 13),(slot l4 14),(slot l4 15),(slot l4 16),(slot l4 17),(slot l4 18),(slot l4 19)] h)) fun l8 h=>
 au False P .add ti true false (slot l4 22) (Value.int .i64 (1)) h fun v21 h=>
 N3 [(slot l4 22),a0,v5,v6,(slot l8 0),(slot l8 1),(slot l8 2),(slot l8 3),(slot l8 4),(slot l8 5),(slot l8 6),(slot l8 7),(slot l8 8),(slot l8 9),(slot l8 10),(slot l8 11),(slot l8 12),(slot l8 13),(slot l8 14),(slot l8 15),(slot l4 22),v21,v21] h) (
 sliceB False e s a0 (some (slot l4 19)) none none h fun v22 h=>
 iY False z v22 h fun v23 h=>
 sliceB False e s a0 none (some (slot l4 19)) none h fun v24 h=>
 κ v24 h))
section
variable {P:Program} {α:Type} {enc:α→List Value} {s:Nat} {ti:TypeId} {f g:FuncId}
def RT (enc:α→List Value) (p:α):Value:=.agg ⟨enc p⟩
theorem pU (mix:P.follows .mixedOrders=true) (he:∀a:α,(enc a).length=s) (hb:∀a0 a1 h κ,aJ P f [a0,a1] h κ=iQ P ti s a0 a1 h κ)
  (L:List α) (F:α→Bool) (h:Heap) (v fv:Value) (κ:KQ) (hv:Sl enc h v L) (hlen:L.length≤1000000)
  (hF:∀p,p∈L→∀(h1:Heap) (κ1:Value→Heap→Prop),Le h h1→(∀h2,Le h1 h2→κ1 (.bool (F p)) h2)→ic P fv [RT enc p] h1 κ1)
  (hk:∀h',Le h h'→κ (.int .i64 (iB (L.findIdx? F))) h'):CallW P f [v,fv] h κ:=by
 refine aj mix ?_
 rw[hb]
 unfold iQ
 simp only[hv.len]
 refine ⟨fun n l h1=>Le h h1∧∃k:Nat,slot l 12=.int .i64 (k:Int)∧k≤L.length∧n=L.length-k∧∀(j:Nat) p,j<k→L[j]? = some p→F p=false,⟨_,Le.refl _,0,rfl,Nat.zero_le _,rfl,by omega⟩,?_⟩
 rintro n l h1 ⟨hle,k,hs,Zl,rfl,hno⟩
 by_cases hlt:k<L.length
 ·obtain ⟨p,hp⟩:∃p,L[k]? = some p:=⟨_,List.getElem?_eq_getElem hlt⟩
  obtain ⟨b,o,hb,tf,nG,_⟩:=(hv.le hle).ld he k hp
  simp(disch:=first|omega|simp only[Wd]<;>omega|with_unfolding_all rfl)only[Wz,hs,tf,nG]
  refine hF p (List.mem_of_getElem? hp) h1 _ hle ?_
  intro h2 hle2
  cases hc:F p with
  | true=>
   simp(disch:=first|omega|simp only[Wd]<;>omega|with_unfolding_all rfl)only[Wz,hs]
   have hk2:=hk h2 (hle.trans hle2)
   rw[JJ hp hc hno] at hk2
   exact hk2
  | false=>
   simp(disch:=first|omega|simp only[Wd]<;>omega|with_unfolding_all rfl)only[Wz,hs]
   refine ⟨_,by omega,hle.trans hle2,k+1,rfl,by omega,rfl,fun j q hj hq=>?_⟩
   rcases Nat.lt_or_ge j k with h4 | h4
   ·exact hno j q h4 hq
   ·obtain rfl:j=k:=by omega
    rw[hp] at hq; cases hq; exact hc
 ·simp(disch:=first|omega|simp only[Wd]<;>omega|with_unfolding_all rfl)only[Wz,hs]
  have hk2:=hk h1 hle
  rw[JK fun j q hq=>hno j q (by have:=(List.getElem?_eq_some_iff.1 hq).1; omega) hq] at hk2
  exact hk2
theorem xH (mix:P.follows .mixedOrders=true) (he:∀a:α,(enc a).length=s) (hg:∀a0 a1 h κ,aJ P g [a0,a1] h κ=iQ P ti s a0 a1 h κ) (hb:∀a0 a1 h κ,aJ P f [a0,a1] h κ=jQ P ti g a0 a1 h κ)
  (L:List α) (F:α→Bool) (h:Heap) (v fv:Value) (κ:KQ) (hv:Sl enc h v L) (hlen:L.length≤1000000)
  (hF:∀p,p∈L→∀(h1:Heap) (κ1:Value→Heap→Prop),Le h h1→(∀h2,Le h1 h2→κ1 (.bool (F p)) h2)→ic P fv [RT enc p] h1 κ1)
  (hk:∀h',Le h h'→κ (.bool (L.any F)) h'):CallW P f [v,fv] h κ:=by
 refine aj mix ?_
 rw[hb]
 unfold jQ
 refine pU mix he hg L F h v fv _ hv hlen hF ?_
 intro h' hl
 have:=hk h' hl
 rw[←JI] at this
 by_cases h0:iB (L.findIdx? F)<0
 ·simp(disch:=first|omega|simp only[Wd]<;>omega|with_unfolding_all rfl)only[Wz]
  rwa [a_ (by omega)] at this
 ·simp(disch:=first|omega|simp only[Wd]<;>omega|with_unfolding_all rfl)only[Wz]
  rwa [bf (by omega)] at this
def FF (P:Program) (tS:TypeId):Prop:=(∀(h:Heap) (n c n' c':Nat),lT P h 100 tS (.slice none n c) (.slice none n' c')=some true)∧∀(h:Heap) (a:Addr) (n c n' c':Nat),lT P h 100 tS (.slice (some a) n c) (.slice none n' c')=some false
theorem JL {β:Type} {fl:β} {tS:TypeId} (he:FF P tS) (cn:Bool) (n c n' c':Nat) (h:Heap) (κ:Value→Heap→β):au fl P .eql tS cn false (.slice none n c) (.slice none n' c') h κ=κ (.bool true) h:=by
 simp only[au,he.1,bP]
theorem JM {β:Type} {fl:β} {tS:TypeId} (he:FF P tS) (cn:Bool) (a:Addr) (n c n' c':Nat) (h:Heap) (κ:Value→Heap→β):au fl P .eql tS cn false (.slice (some a) n c) (.slice none n' c') h κ=κ (.bool false) h:=by
 simp only[au,he.2,bP]
theorem RU (mix:P.follows .mixedOrders=true) (he:∀a:α,(enc a).length=s) (hone:∀a:α,(enc a).all d_=true) (hs0:0<s) (hs1:s≤100) {tS e:TypeId} {z:List Value} (hq:FF P tS) (hb:∀a0 h κ,aJ P f [a0] h κ=zz P tS e s z a0 h κ)
  (L:List α) (h:Heap) (v:Value) (κ:KQ) (hv:Sl enc h v L) (hlen:L.length≤1000000) (hlo:h.lo≤h.nx) (hk:∀v' h',fu enc h e h' v' L→Le h h'→κ v' h'):CallW P f [v] h κ:=by
 refine aj mix ?_
 rw[hb]
 unfold zz
 have hv0:=hv
 obtain ⟨x,cap,rfl,hx⟩:=hv
 cases x with
 | none=>
  simp(disch:=first|omega|simp only[Wd]<;>omega|with_unfolding_all rfl)only[Wz,JL hq]
  by_cases hL:L=[]
  ·exact hk _ _ (.inl ⟨hL,.inl rfl⟩) (Le.refl _)
  ·obtain ⟨b,o,e,_⟩:=hx hL; cases e
 | some a=>
  simp(disch:=first|omega|simp only[Wd]<;>omega|with_unfolding_all rfl)only[Wz,JM hq]
  have hle:=(Le.refl h).new (aa [] e false)
  refine mg (enc:=enc) (a:=h) (L:=[]) (M:=L) he hone hs0 hs1 (.inl ⟨rfl,.inr ⟨_,_,rfl⟩⟩) (hv0.le hle) hle (by simpa using hlen) (by show h.lo≤h.nx+1; omega) _ ?_
  intro v' h' ho hl _ _
  exact hk v' h' (by simpa using ho) hl
theorem D8 (he:∀a:α,(enc a).length=s) (L:List α) (i:Nat) (p:α) (hi:i<L.length):over (L.flatMap enc) (i*s) (enc p)=(L.set i p).flatMap enc:=by
 have e:L.set i p=L.take i++[p]++L.drop (i+1):=by
  rw[List.set_eq_take_append_cons_drop,if_pos hi]; simp
 rw[e]
 simp only[over,he,List.flatMap_append,List.flatMap_cons,List.flatMap_nil,List.append_nil]
 rw[vw he,show i*s+s=(i+1)*s by rw[Nat.succ_mul],D7 he]
theorem NH {z:List Value} (hz:z.length=s) (n:Nat):(aT z n).length=n*s:=by
 induction n with
 | zero=>simp[aT]
 | succ n ih=>simp only[aT,List.length_append,ih,hz]; rw[Nat.succ_mul]; omega
theorem NI {z:List Value} (hz:z.all d_=true) (n:Nat):(aT z n).all d_=true:=by
 induction n with
 | zero=>rfl
 | succ n ih=>simp only[aT,List.all_append,ih,hz]; rfl
theorem stG (he:∀a:α,(enc a).length=s) (hone:∀a:α,(enc a).all d_=true) (p:α) {vs:List Value} {e:TypeId} {op:Bool} {b o:Nat} {h:Heap} {κ:Heap→Prop} (h3:o+s≤vs.length) (hlo:h.lo≤b) :
  Nl False (some (aa vs e op)) s b o (enc p) h κ=κ ⟨h.nx,h.bl.aS b (aa (over vs o (enc p)) e op),h.lo⟩:=sn _ _ _ _ _ _ _ _ _ (he p) (hone p) h3 hlo
def uj (e:TypeId) (h:Heap) (v:Value):Prop:=∀b o n c,v=.slice (some ⟨b,o,none⟩) n c→n≠0→b<h.nx∧∃vs op,h.bl.get b=some (aa vs e op)
theorem uj.le {e:TypeId} {h h':Heap} {v:Value} (t:uj e h v) (l:Le h h'):uj e h' v:=fun b o n c hv hn=>by
 obtain ⟨h1,vs,op,h2⟩:=t b o n c hv hn
 exact ⟨Nat.lt_of_lt_of_le h1 l.nx,vs,op,(l.get b h1).trans h2⟩
theorem uj.own {a h:Heap} {e:TypeId} {v:Value} {L:List α} (ho:fu enc a e h v L):uj e h v:=by
 intro b o n c hv hn
 rcases ho with ⟨_,rfl | ⟨b',o',rfl⟩⟩ | ⟨b',rfl,h1,h2,h3,h4⟩
 ·cases hv
 ·cases hv; exact absurd rfl hn
 ·cases hv; exact ⟨h2,_,_,h4⟩
theorem uj.put {e:TypeId} {h:Heap} {v:Value} (t:uj e h v) {d:Nat} (hd:∀vs op,h.bl.get d≠some (aa vs e op)) (o':bt):uj e ⟨h.nx,h.bl.aS d o',h.lo⟩ v:=by
 intro b o n c hv hn
 obtain ⟨h1,vs,op,h2⟩:=t b o n c hv hn
 refine ⟨h1,vs,op,(T.ah _ _ ?_).trans h2⟩
 rintro rfl
 exact hd vs op h2
theorem Sl.put {e:TypeId} {h:Heap} {v:Value} {L:List α} (hs:Sl enc h v L) (t:uj e h v) {d:Nat} (hd:∀vs op,h.bl.get d≠some (aa vs e op)) (o':bt):Sl enc ⟨h.nx,h.bl.aS d o',h.lo⟩ v L:=by
 obtain ⟨x,cap,rfl,h2⟩:=hs
 refine ⟨x,cap,rfl,fun hn=>?_⟩
 obtain ⟨b,o,rfl,h3,h4⟩:=h2 hn
 obtain ⟨h1,vs,op,h5⟩:=t b o _ cap rfl (by intro h0; exact hn (List.eq_nil_of_length_eq_zero h0))
 refine ⟨b,o,rfl,h3,?_⟩
 have:(h.bl.aS d o').get b=h.bl.get b:=T.ah _ _ (by rintro rfl; exact hd vs op h5)
 show Has ((h.bl.aS d o').get b) _ _
 rw[this]; exact h4
theorem D9 (mix:P.follows .mixedOrders=true) (he:∀a:α,(enc a).length=s) (hone:∀a:α,(enc a).all d_=true) (hs0:0<s) {e:TypeId} {z:List Value} (hz:z.length=s) (hz1:z.all d_=true) (hs1:s≤1000)
  (hg:∀a0 a1 h κ,aJ P g [a0,a1] h κ=iQ P ti s a0 a1 h κ) (hb:∀a0 a1 h κ,aJ P f [a0,a1] h κ=mq P ti g e s z a0 a1 h κ)
  (a h:Heap) (L:List α) (F:α→Bool) (v fv:Value) (κ:KQ) (hle:Le a h) (ho:fu enc a e h v L) (hlen:L.length≤100000) (hlo:a.lo≤a.nx)
  (hF:∀p,∀(h1:Heap) (κ1:Value→Heap→Prop),Le a h1→(h.nx≤h1.nx∧∀c,c<h.nx→h.bl.get c≠some (aa (L.flatMap enc) e true)→h1.bl.get c=h.bl.get c)→(∀h2,Le h1 h2→κ1 (.bool (F p)) h2)→ic P fv [RT enc p] h1 κ1)
  (hk:∀v' h',Sl enc h' v' (L.filter fun p=>!F p)→Cut e s h' v' (L.filter fun p=>!F p).length→Le a h'→(h.nx≤h'.nx∧∀c,c<h.nx→h.bl.get c≠some (aa (L.flatMap enc) e true)→h'.bl.get c=h.bl.get c)→uj e h' v'→κ v' h'):CallW P f [v,fv] h κ:=by
 refine aj mix ?_
 rw[hb]
 unfold mq
 refine pU mix he hg L F h v fv _ ho.sl (by omega) (fun p _ h1 κ1 hl fQ=>hF p h1 κ1 (hle.trans hl) ⟨hl.nx,fun c hc _=>hl.get c hc⟩ fQ) ?_
 intro h1 hle1
 have FG:=hle.trans hle1
 have n1:=FG.nx
 have l1:=FG.lo
 rcases mo L F with ⟨e1,e2⟩ | ⟨i0,p0,e1,e2,e3,e4⟩
 ·simp only[e1,iB]
  simp(disch:=first|omega|simp only[Wd]<;>omega|with_unfolding_all rfl)only[Wz]
  have:(L.filter fun p=>!F p)=L:=List.filter_eq_self.2 fun p hp=>by simp[e2 p hp]
  rw[this] at hk
  exact hk v h1 (ho.sl.le hle1) ((Cut.own he ho).le hle1) FG ⟨hle1.nx,fun c hc _=>hle1.get c hc⟩ (uj.own (ho.le hle1))
 ·simp only[e1,iB]
  have hi0:i0<L.length:=(List.getElem?_eq_some_iff.1 e2).1
  have NJ:(L.take i0).filter (fun p=>!F p)=L.take i0:=List.filter_eq_self.2 fun p hp=>by
   obtain ⟨j,hj⟩:=List.getElem?_of_mem hp
   have hj':j<i0:=by have:=(List.getElem?_eq_some_iff.1 hj).1; simp at this; omega
   rw[List.getElem?_take_of_lt hj'] at hj
   simp[e4 j p hj' hj]
  rcases ho with ⟨rfl,_⟩ | ⟨b,rfl,b1,b20,b30,RV⟩
  ·simp at hi0
  have m1:=hle1.nx
  have b2:b<h1.nx:=by omega
  have b3:h1.lo≤b:=by rw[hle1.lo]; exact b30
  have b4:h1.bl.get b=some (aa (L.flatMap enc) e true):=(hle1.get b b20).trans RV
  simp(disch:=first|omega|simp only[Wd]<;>omega|with_unfolding_all rfl)only[Wz]
  refine ⟨fun n l h2=>Le a h2∧b<h2.nx∧(h.nx≤h2.nx∧∀c,c<h.nx→c≠b→h2.bl.get c=h.bl.get c)∧∃(j i:Nat) (K:List α),slot l 22=.int .i64 (j:Int)∧slot l 19=.int .i64 (i:Int)∧j≤L.length∧i<j∧n=L.length-j∧K.length=L.length∧
    K.take i=(L.take j).filter (fun p=>!F p)∧K.drop j=L.drop j∧h2.bl.get b=some (aa (K.flatMap enc) e true),
   ⟨_,FG,b2,⟨m1,fun c hc _=>hle1.get c hc⟩,i0+1,i0,L,rfl,rfl,by omega,by omega,rfl,rfl,?_,rfl,b4⟩,?_⟩
  ·rw[kS e2,NJ,e3]; simp
  rintro n l h2 ⟨hle2,hb2,hfr,j,i,K,s1,s2,hj,hij,rfl,hK,Wb,Zm,hg2⟩
  have n2:=hle2.nx
  have l2:=hle2.lo
  have hfl:=br (enc:=enc) he K
  by_cases hlt:j<L.length
  ·obtain ⟨p,hp⟩:∃p,L[j]? = some p:=⟨_,List.getElem?_eq_getElem hlt⟩
   have hpK:K[j]? = some p:=by
    have:(K.drop j)[0]? = (L.drop j)[0]?:=by rw[Zm]
    simpa[hp] using this
   have aak:Sl enc h2 (.slice (some ⟨b,0,none⟩) L.length aD) K:=⟨_,aD,by rw[hK],fun _=>⟨b,0,rfl,hb2,by rw[hg2]; exact Has.all⟩⟩
   obtain ⟨b',o',hb',tf,nG,_⟩:=aak.ld he j hpK
   have bat:=tf Nat 0 h2 fun v _=>match v with | .pointer (some a)=>a.block | _=>0
   rw[aN _ _ _ _ _ _ _ _ hlt] at bat
   have RK:b=b':=bat
   subst RK
   have hep:=he p
   have hop:=hone p
   have Zn:(enc p).take s=enc p:=by rw[←hep,List.take_length]
   have Rn:=qL z (enc p) (by omega)
   simp(disch:=first|omega|simp only[Wd]<;>omega|with_unfolding_all rfl)only[Wz,s1,s2,tf,nG]
   refine ⟨fun l h'=>Le a h'∧b<h'.nx∧(h.nx≤h'.nx∧∀c,c<h.nx→c≠b→h'.bl.get c=h.bl.get c)∧∃(i':Nat) (K':List α),slot l 15=.int .i64 (i':Int)∧i'<j+1∧K'.length=L.length∧
    K'.take i'=(L.take (j+1)).filter (fun p=>!F p)∧K'.drop (j+1)=L.drop (j+1)∧h'.bl.get b=some (aa (K'.flatMap enc) e true),?_,?_⟩
   ·simp(disch:=first|omega|simp only[Wd]<;>omega|with_unfolding_all rfl)only[Wz,s1,s2,tf,nG,stG he hone p,Zn,Rn]
    have Wc:=hle2.new (aa (enc p) e false)
    refine hF p _ _ Wc ⟨by have:=hfr.1; show h.nx≤h2.nx+1; omega,fun c hc hne=>(T.ah _ _ (by have:=hfr.1; omega)).trans (hfr.2 c hc (fun e=>hne (by rw[e]; exact RV)))⟩ ?_
    intro h3 dD
    have n3:=dD.nx
    have l3:=dD.lo
    dsimp only at n3 l3
    have g3:h3.bl.get h2.nx=some (aa (enc p) e false):=(dD.get h2.nx (Nat.lt_succ_self _)).trans (T.af _ _ _)
    have U9:h3.bl.get b=some (aa (K.flatMap enc) e true):=by
     rw[dD.get b (by show b<h2.nx+1; omega)]
     show (h2.bl.aS h2.nx _).get b=_
     rw[T.ah _ _ (by omega)]; exact hg2
    have qO:=Wc.trans dD
    have JN:h.nx≤h3.nx∧∀c,c<h.nx→c≠b→h3.bl.get c=h.bl.get c:=by
     have q0:=hfr.1
     refine ⟨by omega,fun c hc hne=>?_⟩
     have e1:(h2.bl.aS h2.nx (aa (enc p) e false)).get c=h2.bl.get c:=T.ah _ _ (by omega)
     exact (dD.get c (by show c<h2.nx+1; omega)).trans (e1.trans (hfr.2 c hc hne))
    cases hc:F p with
    | true=>
     simp(disch:=first|omega|simp only[Wd]<;>omega|with_unfolding_all rfl)only[Wz,s2]
     exact ⟨qO,by omega,JN,i,K,rfl,by omega,hK,by rw[kS hp,hc]; simpa using Wb,by rw[←List.drop_drop,Zm,List.drop_drop],U9⟩
    | false=>
     have JO:=D8 he K i p (by omega)
     have hbd:i*s+s≤(K.flatMap enc).length:=by rw[hfl,←Nat.succ_mul]; exact Nat.mul_le_mul_right _ (by omega)
     simp(disch:=first|omega|simp only[Wd]<;>omega|with_unfolding_all rfl)only[Wz,s2,g3,U9,aN,stG he hone p,Zn,JO]
     refine ⟨qO.set b1 _,by omega,⟨JN.1,fun c hc hne=>(T.ah _ _ (fun e=>hne e.symm)).trans (JN.2 c hc hne)⟩,i+1,K.set i p,rfl,by omega,by simpa using hK,?_,?_,rfl⟩
     ·rw[kS hp,hc,←Wb]
      have hiK:i<K.length:=by omega
      rw[List.take_succ_eq_append_getElem (by simpa using hiK)]
      simp[List.take_set_of_le]
     ·rw[List.drop_set_of_lt (by omega),←List.drop_drop,Zm,List.drop_drop]
   ·rintro l8 h3 ⟨dD,hb3,JN,i',K',s3,hi',hK',aal,aam,hg3⟩
    simp(disch:=first|omega|simp only[Wd]<;>omega|with_unfolding_all rfl)only[Wz,s1,s3]
    exact ⟨_,by omega,dD,hb3,JN,j+1,i',K',rfl,rfl,by omega,hi',rfl,hK',aal,aam,hg3⟩
  ·have hjL:j=L.length:=by omega
   subst hjL
   rw[List.take_length] at Wb
   have r1:=NH hz (L.length-i)
   have r2:=NI hz1 (L.length-i)
   have hbd:i*s+(L.length-i)*s=L.length*s:=by rw[←Nat.add_mul]; congr 1; omega
   simp(disch:=first|omega|simp only[Wd]<;>omega|with_unfolding_all rfl)only[Wz,s1,s2,D5 (n:=L.length) (i:=i) hs0 hg2 (by rw[hfl,hK]) (by omega)]
   rw[Bq hg2 (by omega) (by rw[r1,hfl,hK]; omega) r2 (by omega)]
   have RX:(over (K.flatMap enc) (i*s) (aT z (L.length-i))).length=L.length*s:=by
    rw[nE (by rw[r1,hfl,hK]; omega),hfl,hK]
   rw[Bp (n:=L.length) (i:=i) (vs:=over (K.flatMap enc) (i*s) (aT z (L.length-i))) hs0 (T.af _ _ _) RX (by omega) (by omega)]
   have Ql:(L.filter fun p=>!F p).length=i:=by rw[←Wb]; simp; omega
   refine hk _ _ ⟨_,aD,by rw[Ql],fun _=>⟨b,0,rfl,hb2,?_⟩⟩ (.inr (.inr (.inr ⟨b,_,L.length,by rw[Ql],hb2,T.af _ _ _,RX,by omega⟩))) (hle2.set b1 _) ⟨hfr.1,fun c hc hne=>(T.ah _ _ (fun e=>hne (by rw[←e]; exact RV))).trans (hfr.2 c hc (fun e=>hne (by rw[e]; exact RV)))⟩ ?_
   rotate_left
   ·intro b' o' n' c' w9 _
    cases w9
    exact ⟨hb2,_,_,T.af _ _ _⟩
   have hh:Has (some (aa (over (K.flatMap enc) (i*s) (aT z (L.length-i))) e true)) 0 (((over (K.flatMap enc) (i*s) (aT z (L.length-i))).drop 0).take (i*s)):=Has.cells (by rw[RX]; exact Nat.le_trans (by omega) (Nat.le_refl _))
   have e9:((over (K.flatMap enc) (i*s) (aT z (L.length-i))).drop 0).take (i*s)=(L.filter fun p=>!F p).flatMap enc:=by
    have afT:i*s≤K.length*s:=Nat.mul_le_mul_right _ (by omega)
    rw[←Wb,List.drop_zero,over,List.append_assoc,List.take_append_of_le_length (by rw[List.length_take,hfl]; omega),List.take_take,Nat.min_self,vw he]
   rw[e9] at hh
   show Has ((h2.bl.aS b _).get b) 0 _
   rw[T.af]; exact hh
end
end Go.Vai

namespace Go.Clashes
structure H4 where
 x:Int
 t:Int
 r:Int
 m:Int
def tab:List (List Bool):=[
 [true,true,true,true,true,true,true],
 [true,true,true,true,true,true,false],
 [true,true,true,false,false,false,false],
 [true,true,false,true,false,true,false],
 [true,true,false,false,false,false,false],
 [true,true,false,true,false,false,false],
 [true,false,false,false,false,false,false]]
def cmp (a b:Int):Bool:=decide (0≤a) && decide (a≤6) && decide (0≤b) && decide (b≤6) && ((tab.getD a.toNat []).getD b.toNat false)
theorem qP (a b:Int):cmp a b=cmp b a:=by
 by_cases h:(0≤a∧a≤6)∧(0≤b∧b≤6)
 ·have key:∀i,i<7→∀j,j<7→cmp (i:Nat) (j:Nat)=cmp (j:Nat) (i:Nat):=by decide
  have:=key a.toNat (by omega) b.toNat (by omega)
  rwa [show ((a.toNat:Nat):Int)=a by omega,show ((b.toNat:Nat):Int)=b by omega] at this
 ·have h1:cmp a b=false:=by
   cases hq:cmp a b with
   | false=>rfl
   | true=>simp[cmp] at hq; omega
  have h2:cmp b a=false:=by
   cases hq:cmp b a with
   | false=>rfl
   | true=>simp[cmp] at hq; omega
  rw[h1,h2]
def bad (p q:H4):Bool:=(p.t == q.t && p.r == q.r) && !(p.x == q.x) && !cmp p.m q.m
end Go.Clashes

namespace Go.Vai
open Go Go.Clashes
def kn (m:Int):Bool:=decide (0≤m) && decide (m≤6)
def aan:List (List Bool):=[
 [true,false,false,false,false,false,false],
 [true,true,false,false,false,false,false],
 [true,true,true,false,false,false,false],
 [true,true,false,true,false,false,false],
 [true,true,true,true,true,false,false],
 [true,true,false,true,false,true,false],
 [true,true,true,true,true,true,true]]
def mu (a b:Int):Bool:=kn a && kn b && ((aan.getD a.toNat []).getD b.toNat false)
def cV (a b:Int):Int:=if (kn a && kn b)=true then (if mu a b then a else if mu b a then b else if mu 4 a && mu 4 b then 4 else 6) else 0
theorem nH (n:Nat):kn (.negSucc n)=false:=by
 have h:¬(0:Int)≤.negSucc n:=by omega
 unfold kn; rw[a_ h]; rfl
theorem nI (n:Nat):kn (.ofNat (n+7))=false:=by
 have h:¬(Int.ofNat (n+7))≤6:=by show ¬((n+7:Nat):Int)≤6; omega
 unfold kn; rw[a_ h,Bool.and_false]
theorem zA {a b:Int} (h:mu a b=true):kn a=true∧kn b=true:=by
 simp only[mu,Bool.and_eq_true] at h; exact h.1
theorem Qm {a b:Int} (h:kn a=false):mu a b=false:=by simp[mu,h]
theorem Qn {a b:Int} (h:kn b=false):mu a b=false:=by simp[mu,h]
theorem JP {a b:Int} (h:kn a=false):cV a b=0:=by simp[cV,h]
theorem JQ {a b:Int} (h:kn b=false):cV a b=0:=by simp[cV,h]
theorem Bs {a b:Int} (h:kn a=false):cmp a b=false:=by
 unfold cmp; unfold kn at h; rw[h]; rfl
theorem FH {a b:Int} (h:kn b=false):cmp a b=false:=by rw[qP]; exact Bs h
theorem yu (a:Int):(∃i:Nat,i<7∧a=Int.ofNat i)∨(∃n:Nat,a=Int.negSucc n)∨∃n:Nat,a=Int.ofNat (n+7):=by
 cases a with
 | negSucc n=>exact .inr (.inl ⟨n,rfl⟩)
 | ofNat i=>
  rcases Nat.lt_or_ge i 7 with h | h
  ·exact .inl ⟨i,h,rfl⟩
  ·exact .inr (.inr ⟨i-7,by congr 1; omega⟩)
theorem seven {p:Nat→Prop} (h0:p 0) (h1:p 1) (h2:p 2) (h3:p 3) (h4:p 4) (h5:p 5) (h6:p 6):∀i,i<7→p i:=by
 intro i hi
 have:i=0∨i=1∨i=2∨i=3∨i=4∨i=5∨i=6:=by omega
 rcases this with rfl | rfl | rfl | rfl | rfl | rfl | rfl<;>assumption
theorem oA {P:Program} (mix:P.follows .mixedOrders=true) {f:FuncId} {F:Int→Int→Value} (h1:∀i,i<7→∀j,j<7→bA P 200 f [.int .i64 (.ofNat i),.int .i64 (.ofNat j)] (F (.ofNat i) (.ofNat j))=true)
  (h2:∀(n:Nat) (b:Int),bA P 200 f [.int .i64 (.negSucc n),.int .i64 b] (F (.negSucc n) b)=true) (h3:∀(n:Nat) (b:Int),bA P 200 f [.int .i64 (.ofNat (n+7)),.int .i64 b] (F (.ofNat (n+7)) b)=true)
  (h4:∀i,i<7→∀n:Nat,bA P 200 f [.int .i64 (.ofNat i),.int .i64 (.negSucc n)] (F (.ofNat i) (.negSucc n))=true) (h5:∀i,i<7→∀n:Nat,bA P 200 f [.int .i64 (.ofNat i),.int .i64 (.ofNat (n+7))] (F (.ofNat i) (.ofNat (n+7)))=true)
  (a b:Int) {h:Heap} {κ:Value→Heap→Prop} (hk:κ (F a b) h):CallW P f [.int .i64 a,.int .i64 b] h κ:=by
 refine zo mix (n:=200) ?_ hk
 rcases yu a with ⟨i,hi,rfl⟩ | ⟨n,rfl⟩ | ⟨n,rfl⟩
 ·rcases yu b with ⟨j,hj,rfl⟩ | ⟨m,rfl⟩ | ⟨m,rfl⟩
  ·exact h1 i hi j hj
  ·exact h4 i hi m
  ·exact h5 i hi m
 ·exact h2 n b
 ·exact h3 n b
theorem mz {a:Int} (h:kn a=true):∃i:Nat,i<7∧a=(i:Int):=by
 unfold kn at h
 simp only[Bool.and_eq_true,decide_eq_true_eq] at h
 exact ⟨a.toNat,by omega,by omega⟩
theorem NK:∀i,i<7→∀j,j<7→mu (i:Nat) (j:Nat)=true→mu (j:Nat) (i:Nat)=true→i=j:=by decide +kernel
theorem JR {a b:Int} (h1:mu a b=true) (h2:mu b a=true):a=b:=by
 obtain ⟨i,hi,rfl⟩:=mz (zA h1).1
 obtain ⟨j,hj,rfl⟩:=mz (zA h1).2
 rw[NK i hi j hj h1 h2]
theorem NL:∀i,i<7→mu (i:Nat) 0=true:=by decide +kernel
theorem JS {a:Int} (h:kn a=true):mu a 0=true:=by
 obtain ⟨i,hi,rfl⟩:=mz h
 exact NL i hi
theorem RY:∀i,i<7→∀j,j<7→(mu (i:Nat) (cV (i:Nat) (j:Nat))=true→mu (i:Nat) (j:Nat)=true)∧mu (cV (i:Nat) (j:Nat)) (i:Nat)=true∧mu (cV (i:Nat) (j:Nat)) (j:Nat)=true∧(j≠0→cV (i:Nat) (j:Nat)≠0)∧(mu (i:Nat) (j:Nat)=true→cV (i:Nat) (j:Nat)=(i:Nat)):=by decide +kernel
theorem JT {a b:Int} (ha:kn a=true) (hb:kn b=true):(mu a (cV a b)=true→mu a b=true)∧mu (cV a b) a=true∧mu (cV a b) b=true∧(b≠0→cV a b≠0)∧(mu a b=true→cV a b=a):=by
 obtain ⟨i,hi,rfl⟩:=mz ha
 obtain ⟨j,hj,rfl⟩:=mz hb
 obtain ⟨h1,h2,h3,h4,h5⟩:=RY i hi j hj
 exact ⟨h1,h2,h3,fun hb=>h4 (by omega),h5⟩
theorem RZ {a b:Int} (ha:kn a=true) (hb:kn b=true):kn (cV a b)=true:=(zA (JT ha hb).2.1).1
end Go.Vai

namespace Go.Vai
open Go Go.Clashes
structure R5 where
 id:Int
 x:Int
 m:Int
 w:Int
 s:Int
def aZ (r:R5):List Value:=[.int .i64 r.id,.int .i64 r.x,.int .i64 r.m,.int .i64 r.w,.int .i64 r.s]
theorem bO (r:R5):(aZ r).length=5:=rfl
theorem vz (r:R5):(aZ r).all d_=true:=rfl
theorem R3 {p q:R5}:p=q↔(p.id=q.id∧p.x=q.x∧p.m=q.m∧p.w=q.w∧p.s=q.s):=by
 cases p; cases q; simp
instance:DecidableEq R5:=fun p q=>decidable_of_iff _ R3.symm
def rN (r:R5):Bool:=decide (r.m≠0) && decide (0<r.s)
theorem uk (r:R5):rN r=true↔r.m≠0∧0<r.s:=by simp[rN]
def qQ (Q:List R5) (r:R5) (o:Option Nat):Bool:=match o with
 | none=>true
 | some b=>match Q[b]? with
  | some q=>decide (r.s<q.s)
  | none=>false
def best (Q:List R5):Nat→Option Nat
 | 0=>none
 | i+1=>match Q[i]? with
  | some r=>if (rN r && qQ Q r (best Q i))=true then some i else best Q i
  | none=>best Q i
def cC (Q:List R5):Option Nat:=match best Q Q.length with | some b=>some b | none=>Q.findIdx? (fun r=>decide (r.m=0))
def dU (Q:List R5) (r:R5):Bool:=!Q.any fun o=>decide (o.id≠r.id) && decide (o.m≠0) && !cmp o.m r.w
theorem um (Q:List R5):∀i b,best Q i=some b→b<i∧∃r,Q[b]? = some r∧rN r=true:=by
 intro i
 induction i with
 | zero=>intro b h; cases h
 | succ i ih=>
  intro b h
  unfold best at h
  split at h
  ·rename_i r hr
   split at h
   ·rename_i hc
    cases h
    rw[Bool.and_eq_true] at hc
    exact ⟨Nat.lt_succ_self _,r,hr,hc.1⟩
   ·obtain ⟨h1,h2⟩:=ih b h
    exact ⟨by omega,h2⟩
  ·obtain ⟨h1,h2⟩:=ih b h
   exact ⟨by omega,h2⟩
theorem yw (Q:List R5):∀i,best Q i=none→∀(j:Nat) (r:R5),j<i→Q[j]? = some r→rN r=false:=by
 intro i
 induction i with
 | zero=>intro _ j r h; omega
 | succ i ih=>
  intro h j r hj hr
  unfold best at h
  split at h
  ·rename_i q hq
   split at h
   ·cases h
   ·rename_i hc
    by_cases hji:j=i
    ·subst hji
     rw[hq] at hr; cases hr
     rw[h] at hc
     simpa[qQ] using hc
    ·exact ih h j r (by omega) hr
  ·rename_i hq
   by_cases hji:j=i
   ·subst hji; rw[hq] at hr; cases hr
   ·exact ih h j r (by omega) hr
theorem D_ {Q:List R5} (h:cC Q=none):∀r∈Q,r.m≠0∧¬0<r.s:=by
 unfold cC at h
 split at h
 ·cases h
 ·rename_i hb
  rw[List.findIdx?_eq_none_iff] at h
  intro r hr
  obtain ⟨j,hj⟩:=List.getElem?_of_mem hr
  have h1:=yw Q _ hb j r (List.getElem?_eq_some_iff.1 hj).1 hj
  have h2:r.m≠0:=by simpa using h r hr
  refine ⟨h2,fun h3=>?_⟩
  rw[(uk r).2 ⟨h2,h3⟩] at h1; cases h1
theorem pV {Q:List R5} {i:Nat} (h:cC Q=some i):∃r,Q[i]? = some r∧(rN r=true∨(r.m=0∧(∀q∈Q,rN q=false)∧∀(j:Nat) (q:R5),j<i→Q[j]? = some q→q.m≠0)):=by
 unfold cC at h
 split at h
 ·rename_i b hb
  cases h
  obtain ⟨_,r,h1,h2⟩:=um Q _ _ hb
  exact ⟨r,h1,.inl h2⟩
 ·rename_i hb
  have hno:∀q∈Q,rN q=false:=fun q hq=>by
   obtain ⟨j,hj⟩:=List.getElem?_of_mem hq
   exact yw Q _ hb j q (List.getElem?_eq_some_iff.1 hj).1 hj
  rcases mo Q (fun r=>decide (r.m=0)) with ⟨e,_⟩ | ⟨k,p,e,hp,h1,h2⟩
  ·rw[e] at h; cases h
  ·rw[e] at h; cases h
   exact ⟨p,hp,.inr ⟨by simpa using h1,hno,fun j q hj hq=>by simpa using h2 j q hj hq⟩⟩
theorem lG (Q:List R5) (r:R5):dU Q r=true↔∀o∈Q,o.id≠r.id→o.m≠0→cmp o.m r.w=true:=by
 unfold dU
 rw[Bool.not_eq_true',List.any_eq_false]
 constructor
 ·intro h o ho h1 h2
  have:=h o ho
  simpa[h1,h2] using this
 ·intro h o ho hc
  simp only[Bool.and_eq_true,decide_eq_true_eq,Bool.not_eq_true'] at hc
  rw[h o ho hc.1.1 hc.1.2] at hc
  cases hc.2
structure JU (W:Int) (r:R5):Prop where
 id:0≤r.id
 km:kn r.m=true
 kw:kn r.w=true
 s0:0≤r.s
 sW:r.s≤W
 wait:0<r.s→mu r.m r.w=false
 hold:r.s=0→r.m≠0∧r.w=r.m
structure vA (a b:R5):Prop where
 id:a.id≠b.id
 x:a.x≠b.x
 s:0<a.s→a.s≠b.s
 cm:a.m≠0→b.m≠0→cmp a.m b.m=true
 ord:a.m=0→b.m=0∧a.s<b.s
structure VQ (Q:List R5) (W:Int):Prop where
 w0:0≤W
 right:∀r∈Q,JU W r
 pair:Q.Pairwise vA
theorem dF {α:Type} {R:α→α→Prop} {L:List α}:L.Pairwise R↔∀(i j:Nat) (p q:α),i<j→L[i]? = some p→L[j]? = some q→R p q:=by
 rw[List.pairwise_iff_getElem]
 constructor
 ·intro h i j p q hij hp hq
  obtain ⟨hi,rfl⟩:=List.getElem?_eq_some_iff.1 hp
  obtain ⟨hj,rfl⟩:=List.getElem?_eq_some_iff.1 hq
  exact h i j hi hj hij
 ·intro h i j hi hj hij
  exact h i j _ _ hij (List.getElem?_eq_getElem hi) (List.getElem?_eq_getElem hj)
theorem pW {α:Type} {R:α→α→Prop} {L:List α} {i:Nat} {p:α} (h:L.Pairwise R) (h1:∀(j:Nat) (q:α),j<i→L[j]? = some q→R q p) (h2:∀(j:Nat) (q:α),i<j→L[j]? = some q→R p q):(L.set i p).Pairwise R:=by
 rw[dF] at *
 intro a b u v hab hu hv
 rw[List.getElem?_set] at hu hv
 by_cases ha:i=a
 ·subst ha
  rw[if_pos rfl] at hu
  rw[if_neg (by omega)] at hv
  split at hu
  ·cases hu; exact h2 b v hab hv
  ·cases hu
 ·rw[if_neg ha] at hu
  by_cases hb:i=b
  ·subst hb
   rw[if_pos rfl] at hv
   split at hv
   ·cases hv; exact h1 a u hab hu
   ·cases hv
  ·rw[if_neg hb] at hv
   exact h a b u v hab hu hv
theorem mem_set {α:Type} {L:List α} {i:Nat} {p q:α} (h:q∈L.set i p):q=p∨q∈L:=by
 rcases List.mem_or_eq_of_mem_set h with h | h
 ·exact .inr h
 ·exact .inl h
theorem JV {Q:List R5} (h:Q.Pairwise vA) {i j:Nat} {p q:R5} (hp:Q[i]? = some p) (hq:Q[j]? = some q) (he:p.id=q.id):i=j:=by
 rcases Nat.lt_trichotomy i j with h1 | h1 | h1
 ·exact absurd he (dF.1 h i j p q h1 hp hq).id
 ·exact h1
 ·exact absurd he.symm (dF.1 h j i q p h1 hq hp).id
theorem R6 {Q:List R5} (h:Q.Pairwise vA) {p q:R5} (hp:p∈Q) (hq:q∈Q) (he:p.id=q.id):p=q:=by
 obtain ⟨i,hi⟩:=List.getElem?_of_mem hp
 obtain ⟨j,hj⟩:=List.getElem?_of_mem hq
 have:=JV h hi hj he
 subst this
 rw[hi] at hj; cases hj; rfl
theorem VQ.mono {Q:List R5} {W W':Int} (v:VQ Q W) (h:W≤W'):VQ Q W':=
 ⟨Int.le_trans v.w0 h,fun r hr=>let a:=v.right r hr; ⟨a.id,a.km,a.kw,a.s0,Int.le_trans a.sW h,a.wait,a.hold⟩,v.pair⟩
theorem VQ.nil:VQ [] 0:=⟨Int.le_refl _,fun r hr=>(by cases hr),List.Pairwise.nil⟩
theorem VQ.filter {Q:List R5} {W:Int} (v:VQ Q W) (F:R5→Bool):VQ (Q.filter F) W:=
 ⟨v.w0,fun r hr=>v.right r (List.mem_filter.1 hr).1,v.pair.sublist List.filter_sublist⟩
theorem vB {W:Int} {r:R5} (h:JU W r) (hs:0<r.s):r.w≠0:=by
 intro e
 have:=h.wait hs
 rw[e,JS h.km] at this; cases this
def c_ (r:R5):R5:=⟨r.id,r.x,r.w,r.w,0⟩
theorem VQ.JW {Q:List R5} {W:Int} (v:VQ Q W) {i:Nat} {r:R5} (hf:cC Q=some i) (hr:Q[i]? = some r) (hfit:dU Q r=true):VQ (Q.set i (c_ r)) W:=by
 obtain ⟨r',hr',FI⟩:=pV hf
 rw[hr] at hr'; cases hr'
 have R:=v.right r (List.mem_of_getElem? hr)
 have hs:0<r.s:=by
  rcases FI with h | ⟨h,_⟩
  ·exact ((uk r).1 h).2
  ·rcases Int.lt_or_eq_of_le R.s0 with h0 | h0
   ·exact h0
   ·exact absurd h (R.hold h0.symm).1
 have hw:=vB R hs
 rw[lG] at hfit
 refine ⟨v.w0,?_,?_⟩
 ·intro q hq
  rcases mem_set hq with rfl | hq
  ·exact ⟨R.id,R.kw,R.kw,Int.le_refl _,v.w0,fun h=>absurd h (Int.lt_irrefl _),fun _=>⟨hw,rfl⟩⟩
  ·exact v.right q hq
 ·refine pW v.pair ?_ ?_
  ·intro j q hj hq
   have P:=dF.1 v.pair j i q r hj hq hr
   have hm:q.m≠0:=by
    rcases FI with h | ⟨_,_,h⟩
    ·intro e; exact ((uk r).1 h).1 (P.ord e).1
    ·exact h j q hj hq
   exact ⟨P.id,P.x,fun h=>(fun e:q.s=0=>by omega),fun h1 _=>hfit q (List.mem_of_getElem? hq) P.id h1,fun e=>absurd e hm⟩
  ·intro j q hj hq
   have P:=dF.1 v.pair i j r q hj hr hq
   refine ⟨P.id,P.x,fun h=>absurd h (Int.lt_irrefl _),fun _ h2=>?_,fun e=>absurd e hw⟩
   rw[qP]
   exact hfit q (List.mem_of_getElem? hq) (fun e=>P.id e.symm) h2
def eV (Q:List R5):Nat:=(Q.filter fun r=>decide (0<r.s)).length
theorem pX {Q:List R5} {i:Nat} {r:R5} (hr:Q[i]? = some r) (hs:0<r.s):eV (Q.set i (c_ r))+1=eV Q:=by
 obtain ⟨hi,rfl⟩:=List.getElem?_eq_some_iff.1 hr
 have e1:Q=Q.take i++Q[i]::Q.drop (i+1):=by
  rw[List.getElem_cons_drop,List.take_append_drop]
 have e2:Q.set i (c_ Q[i])=Q.take i++c_ Q[i]::Q.drop (i+1):=by
  rw[List.set_eq_take_append_cons_drop,if_pos hi]
 have hg:decide (0<(c_ Q[i]).s)=false:=by simp[c_]
 have h1:eV Q=((Q.take i).filter fun r=>decide (0<r.s)).length+(((Q.drop (i+1)).filter fun r=>decide (0<r.s)).length+1):=by
  conv=>lhs; rw[e1]
  unfold eV
  rw[List.filter_append,List.filter_cons,if_pos (by simpa using hs)]
  simp
 rw[e2,h1]
 unfold eV
 rw[List.filter_append,List.filter_cons,if_neg (by rw[hg]; simp)]
 simp; omega
def cE:Nat→List R5→List R5 × List Int
 | 0,Q=>(Q,[])
 | n+1,Q=>match cC Q with
  | none=>(Q,[])
  | some i=>match Q[i]? with
   | none=>(Q,[])
   | some r=>if dU Q r=true then ((cE n (Q.set i (c_ r))).1,r.id::(cE n (Q.set i (c_ r))).2) else (Q,[])
def kT (Q:List R5):Prop:=∀i r,cC Q=some i→Q[i]? = some r→dU Q r=false
def Ea (r:R5):Int × Int:=(r.id,r.x)
theorem iR {Q:List R5} {W:Int} (v:VQ Q W) {i:Nat} {r:R5} (hf:cC Q=some i) (hr:Q[i]? = some r):0<r.s:=by
 obtain ⟨r',hr',FI⟩:=pV hf
 rw[hr] at hr'; cases hr'
 have R:=v.right r (List.mem_of_getElem? hr)
 rcases FI with h | ⟨h,_⟩
 ·exact ((uk r).1 h).2
 ·rcases Int.lt_or_eq_of_le R.s0 with h0 | h0
  ·exact h0
  ·exact absurd h (R.hold h0.symm).1
theorem Hg {W:Int}:∀(n:Nat) {Q:List R5},VQ Q W→∀q∈Q,q.s=0→q∈(cE n Q).1:=by
 intro n
 induction n with
 | zero=>intro Q v q hq _; exact hq
 | succ n ih=>
  intro Q v q hq h0
  unfold cE
  split
  ·exact hq
  ·rename_i i hf
   split
   ·exact hq
   ·rename_i r hr
    by_cases hfit:dU Q r=true
    ·rw[if_pos hfit]
     refine ih (v.JW hf hr hfit) q ?_ h0
     obtain ⟨k,hk⟩:=List.getElem?_of_mem hq
     have hne:i≠k:=by
      rintro rfl
      rw[hr] at hk; cases hk
      have:=iR v hf hr
      omega
     exact List.mem_of_getElem? (i:=k) (by rw[List.getElem?_set,if_neg hne]; exact hk)
    ·rw[if_neg hfit]; exact hq
theorem zB {W:Int}:∀(n:Nat) {Q:List R5},VQ Q W→VQ (cE n Q).1 W∧(cE n Q).1.map Ea=Q.map Ea∧(eV Q<n→kT (cE n Q).1)∧(∀i∈(cE n Q).2,∃r∈(cE n Q).1,r.id=i∧r.m≠0∧r.s=0):=by
 intro n
 induction n with
 | zero=>intro Q v; exact ⟨v,rfl,fun h=>(by omega),fun i h=>(by cases h)⟩
 | succ n ih=>
  intro Q v
  unfold cE
  split
  ·rename_i hf
   refine ⟨v,rfl,fun _=>?_,fun i h=>(by cases h)⟩
   intro i r h _
   rw[hf] at h; cases h
  ·rename_i i hf
   split
   ·rename_i hr
    refine ⟨v,rfl,fun _=>?_,fun i h=>(by cases h)⟩
    intro j r h h2
    rw[hf] at h; cases h; rw[hr] at h2; cases h2
   ·rename_i r hr
    by_cases hfit:dU Q r=true
    ·rw[if_pos hfit]
     have v2:=v.JW hf hr hfit
     obtain ⟨h1,h2,h3,h4⟩:=ih v2
     have hc:=pX hr (iR v hf hr)
     have hkey:(Q.set i (c_ r)).map Ea=Q.map Ea:=by
      rw[List.map_set]
      have:Ea (c_ r)=Ea r:=rfl
      rw[this]
      apply List.ext_getElem?
      intro k
      rw[List.getElem?_set]
      by_cases hik:i=k
      ·subst hik
       have hil:=(List.getElem?_eq_some_iff.1 hr).1
       rw[if_pos rfl,if_pos (by simpa using hil),List.getElem?_map,hr]; rfl
      ·rw[if_neg hik]
     refine ⟨h1,h2.trans hkey,fun h=>h3 (by omega),fun j hj=>?_⟩
     rcases List.mem_cons.1 hj with rfl | hj
     ·refine ⟨c_ r,Hg n v2 (c_ r) ?_ rfl,rfl,?_,rfl⟩
      ·have hil:=(List.getElem?_eq_some_iff.1 hr).1
       exact List.mem_of_getElem? (i:=i) (by rw[List.getElem?_set,if_pos rfl,if_pos hil])
      ·exact vB (v.right r (List.mem_of_getElem? hr)) (iR v hf hr)
     ·exact h4 j hj
    ·rw[if_neg hfit]
     refine ⟨v,rfl,fun _=>?_,fun i h=>(by cases h)⟩
     intro j q h h2
     rw[hf] at h; cases h; rw[hr] at h2; cases h2; simpa using hfit
theorem pY {Q:List R5} (h:kT Q) (n:Nat):cE n Q=(Q,[]):=by
 cases n with
 | zero=>rfl
 | succ n=>
  unfold cE
  split
  ·rfl
  ·rename_i i hf
   split
   ·rfl
   ·rename_i r hr
    rw[if_neg (by rw[h i r hf hr]; simp)]
end Go.Vai

namespace Go.Vai
open Go Go.Clashes
def bH (m:Int):Bool:=decide (m≠0) && kn m
theorem gr (m:Int):bH m=true↔m≠0∧kn m=true:=by simp[bH]
def bg (id:Int) (r:R5):Bool:=decide (r.id=id)
def bE (Q:List R5) (id:Int):Option R5:=Q.find? (bg id)
theorem fI {Q:List R5} {id:Int} {r:R5} (h:bE Q id=some r):r∈Q∧r.id=id:=by
 unfold bE at h
 have:=List.find?_some h
 exact ⟨List.mem_of_find?_eq_some h,by simpa[bg] using this⟩
theorem pZ {Q:List R5} {id:Int} (h:bE Q id=none):∀r∈Q,r.id≠id:=by
 unfold bE at h
 rw[List.find?_eq_none] at h
 intro r hr e
 exact h r hr (by simp[bg,e])
theorem Hh {Q:List R5} (hp:Q.Pairwise vA) {r:R5} (hr:r∈Q):bE Q r.id=some r:=by
 cases h:bE Q r.id with
 | none=>exact absurd rfl (pZ h r hr)
 | some q=>
  obtain ⟨h1,h2⟩:=fI h
  rw[R6 hp h1 hr h2]
def dS (Q:List R5) (W id x m:Int):R5 × Int × Bool:=
 if (decide (cC Q=none) && dU Q ⟨id,x,0,m,0⟩)=true then (⟨id,x,m,m,0⟩,W,true) else (⟨id,x,0,m,W+1⟩,W+1,false)
theorem R7 {m:Int} (h:mu 0 m=true):m=0:=by
 have key:∀j,j<7→mu 0 (j:Nat)=true→j=0:=by decide +kernel
 obtain ⟨j,hj,rfl⟩:=mz (zA h).2
 rw[key j hj h]; rfl
theorem qR {α:Type} {R:α→α→Prop} {L:List α} {p:α} (h:L.Pairwise R) (h1:∀q∈L,R q p):(L++[p]).Pairwise R:=by
 rw[List.pairwise_append]
 exact ⟨h,List.pairwise_singleton _ _,fun q hq r hr=>by rw[List.mem_singleton] at hr; subst hr; exact h1 q hq⟩
theorem VQ.ask {Q:List R5} {W:Int} (v:VQ Q W) {id x m:Int} (hid:0≤id) (hm:bH m=true) (hn:∀q∈Q,q.id≠id∧q.x≠x):VQ (Q++[(dS Q W id x m).1]) (dS Q W id x m).2.1:=by
 obtain ⟨m0,km⟩:=(gr m).1 hm
 unfold dS
 by_cases hc:(decide (cC Q=none) && dU Q ⟨id,x,0,m,0⟩)=true
 ·rw[if_pos hc]
  rw[Bool.and_eq_true,decide_eq_true_eq,lG] at hc
  have hall:=D_ hc.1
  refine ⟨v.w0,?_,qR v.pair ?_⟩
  ·intro r hr
   rcases List.mem_append.1 hr with hr | hr
   ·exact v.right r hr
   ·rw[List.mem_singleton] at hr; subst hr
    exact ⟨hid,km,km,Int.le_refl _,v.w0,fun h=>absurd h (Int.lt_irrefl _),fun _=>⟨m0,rfl⟩⟩
  ·intro q hq
   exact ⟨(hn q hq).1,(hn q hq).2,fun h=>absurd h (hall q hq).2,fun h1 _=>hc.2 q hq (hn q hq).1 h1,fun e=>absurd e (hall q hq).1⟩
 ·rw[if_neg hc]
  have v2:=v.mono (W':=W+1) (by omega)
  refine ⟨v2.w0,?_,qR v.pair ?_⟩
  ·intro r hr
   rcases List.mem_append.1 hr with hr | hr
   ·exact v2.right r hr
   ·rw[List.mem_singleton] at hr; subst hr
    refine ⟨hid,rfl,km,v2.w0,Int.le_refl _,fun _=>?_,fun h=>?_⟩
    ·cases hcv:mu 0 m with
     | false=>rfl
     | true=>exact absurd (R7 hcv) m0
    ·have:=v.w0; have h:W+1=0:=h; omega
  ·intro q hq
   have:=(v.right q hq).sW
   exact ⟨(hn q hq).1,(hn q hq).2,fun _=>(fun e:q.s=W+1=>by omega),fun _ h=>absurd rfl h,fun _=>⟨rfl,by show q.s<W+1; omega⟩⟩
def h_ (Q:List R5) (W:Int) (r:R5) (m:Int):R5 × Int × Bool:=
 if (decide (cV r.m m=r.m) || (dU Q ⟨r.id,r.x,r.m,cV r.m m,r.s⟩ && !Q.any rN))=true then (⟨r.id,r.x,cV r.m m,cV r.m m,r.s⟩,W,true) else (⟨r.id,r.x,r.m,cV r.m m,W+1⟩,W+1,false)
theorem VQ.upg {Q:List R5} {W:Int} (v:VQ Q W) {i:Nat} {r:R5} {m:Int} (hr:Q[i]? = some r) (hs:¬0<r.s) (hm:bH m=true):VQ (Q.set i (h_ Q W r m).1) (h_ Q W r m).2.1:=by
 obtain ⟨m0,km⟩:=(gr m).1 hm
 have R:=v.right r (List.mem_of_getElem? hr)
 have hs0:r.s=0:=by have:=R.s0; omega
 obtain ⟨Zo,rw⟩:=R.hold hs0
 obtain ⟨_,c1,c2,c3,_⟩:=JT R.km km
 have ks:=RZ R.km km
 have before:∀(j:Nat) (q:R5),j<i→Q[j]? = some q→q.m≠0:=fun j q hj hq e=>Zo ((dF.1 v.pair j i q r hj hq hr).ord e).1
 unfold h_
 by_cases hc:(decide (cV r.m m=r.m) || (dU Q ⟨r.id,r.x,r.m,cV r.m m,r.s⟩ && !Q.any rN))=true
 ·rw[if_pos hc]
  have hfit:∀o∈Q,o.id≠r.id→o.m≠0→cmp o.m (cV r.m m)=true:=by
   intro o ho h1 h2
   rw[Bool.or_eq_true,decide_eq_true_eq,Bool.and_eq_true,lG] at hc
   rcases hc with e | ⟨h,_⟩
   ·rw[e]
    obtain ⟨k,hk⟩:=List.getElem?_of_mem ho
    rcases Nat.lt_trichotomy k i with fQ | fQ | fQ
    ·exact (dF.1 v.pair k i o r fQ hk hr).cm h2 Zo
    ·subst fQ; rw[hr] at hk; cases hk; exact absurd rfl h1
    ·rw[qP]; exact (dF.1 v.pair i k r o fQ hr hk).cm Zo h2
   ·exact h o ho h1 h2
  refine ⟨v.w0,?_,pW v.pair ?_ ?_⟩
  ·intro q hq
   rcases mem_set hq with rfl | hq
   ·exact ⟨R.id,ks,ks,R.s0,R.sW,fun h=>absurd h hs,fun _=>⟨c3 m0,rfl⟩⟩
   ·exact v.right q hq
  ·intro j q hj hq
   have P:=dF.1 v.pair j i q r hj hq hr
   exact ⟨P.id,P.x,P.s,fun h1 _=>hfit q (List.mem_of_getElem? hq) P.id h1,fun e=>absurd e (before j q hj hq)⟩
  ·intro j q hj hq
   have P:=dF.1 v.pair i j r q hj hr hq
   exact ⟨P.id,P.x,P.s,fun _ h2=>by rw[qP]; exact hfit q (List.mem_of_getElem? hq) (fun e=>P.id e.symm) h2,fun e=>absurd e (c3 m0)⟩
 ·rw[if_neg hc]
  have v2:=v.mono (W':=W+1) (by omega)
  rw[Bool.or_eq_true,decide_eq_true_eq] at hc
  refine ⟨v2.w0,?_,pW v.pair ?_ ?_⟩
  ·intro q hq
   rcases mem_set hq with rfl | hq
   ·refine ⟨R.id,R.km,ks,v2.w0,Int.le_refl _,fun _=>?_,fun h=>?_⟩
    ·cases hcv:mu r.m (cV r.m m) with
     | false=>rfl
     | true=>exact absurd (.inl (JR c1 hcv)) hc
    ·have:=v.w0; have h:W+1=0:=h; omega
   ·exact v2.right q hq
  ·intro j q hj hq
   have P:=dF.1 v.pair j i q r hj hq hr
   have:=(v.right q (List.mem_of_getElem? hq)).sW
   exact ⟨P.id,P.x,fun _=>(fun e:q.s=W+1=>by omega),P.cm,fun e=>absurd e (before j q hj hq)⟩
  ·intro j q hj hq
   have P:=dF.1 v.pair i j r q hj hr hq
   have:=(v.right q (List.mem_of_getElem? hq)).sW
   exact ⟨P.id,P.x,fun _=>(fun e:W+1=q.s=>by omega),P.cm,fun e=>absurd e Zo⟩
def mI (r:R5):R5:=⟨r.id,r.x,r.m,r.m,0⟩
theorem VQ.back {Q:List R5} {W:Int} (v:VQ Q W) {i:Nat} {r:R5} (hr:Q[i]? = some r) (hm:r.m≠0):VQ (Q.set i (mI r)) W:=by
 have R:=v.right r (List.mem_of_getElem? hr)
 refine ⟨v.w0,?_,pW v.pair ?_ ?_⟩
 ·intro q hq
  rcases mem_set hq with rfl | hq
  ·exact ⟨R.id,R.km,R.km,Int.le_refl _,v.w0,fun h=>absurd h (Int.lt_irrefl _),fun _=>⟨hm,rfl⟩⟩
  ·exact v.right q hq
 ·intro j q hj hq
  have P:=dF.1 v.pair j i q r hj hq hr
  exact ⟨P.id,P.x,fun h=>(fun e:q.s=0=>by omega),P.cm,fun e=>absurd (P.ord e).1 hm⟩
 ·intro j q hj hq
  have P:=dF.1 v.pair i j r q hj hr hq
  exact ⟨P.id,P.x,fun h=>absurd h (Int.lt_irrefl _),P.cm,fun e=>absurd e hm⟩
end Go.Vai

namespace Go.Vai
open Go
variable {β:Type} {fl:β}
noncomputable def NM (fl:β) (l c:Value) (z:List Value) (e:TypeId) (h:Heap) (κ:Value→Heap→β):β:=
 match l,c with
 | .int _ (.ofNat l),.int _ (.ofNat c)=>match Nat.ble l c,Nat.ble c 1000000 with
  | true,true=>aF fl (aT z c) e false fun o=>an fl o h fun b h=>κ (sliceTo l c b) h
  | _,_=>fl
 | _,_=>fl
theorem zC (n:Nat) (z:List Value) (e:TypeId) (h:Heap) (κ:Value→Heap→β) (hn:n≤1000000) (hl:(aT z n).length≤1000000000000) :
  NM fl (.int .i64 (n:Int)) (.int .i64 (n:Int)) z e h κ=κ (.slice (some ⟨h.nx,0,none⟩) n n) ⟨h.nx+1,h.bl.aS h.nx (aa (aT z n) e false),h.lo⟩:=by
 have e1:Nat.ble n n=true:=Nat.ble_eq_true_of_le (Nat.le_refl _)
 have e2:Nat.ble n 1000000=true:=Nat.ble_eq_true_of_le hn
 show (match Nat.ble n n,Nat.ble n 1000000 with | true,true=>_ | _,_=>fl)=_
 rw[e1,e2]
 simp only
 rw[iz _ _ _ _ hl,c6]; rfl
end Go.Vai
