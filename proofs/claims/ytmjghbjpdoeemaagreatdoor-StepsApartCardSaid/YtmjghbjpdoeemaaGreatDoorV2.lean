/-
  PROVED HERE: a part of the proof (VaiS8, VaiS9, VaiS10, VaiS11, VaiS12, VaiS13, VaiS14, VaiS15, VaiS16, VaiS17, VaiS18).
-/
import Derived.Test.YtmjghbjpdoeemaaGreatDoorV1
import Derived.Laws.AppendOwn
import Derived.Laws.Small
import Derived.Laws.IdiomStrings
import Derived.Laws.BytesArg
import Derived.OrdersIn
import Derived.RangeFuncRecord
import Derived.RowKit3
import Derived.ChangeSame
set_option linter.unusedVariables false
set_option linter.unusedSimpArgs false
namespace Go.Vai
open Go
variable {β:Type} {fl:β} {good:β→Prop} {P:Program} {φ:di} {h:Heap} {w:World} {t:TypeId}
theorem vR (hfl:¬good fl) {kt et ty:TypeId} {ts:Array TypeId} (ht:ts[0]? = some t) (hu:P.underlying t=some (.map kt et)) (hr:HR P φ h w) {m m' k k':Value} {κ:Value→Heap→β}
  (hg:good (jI fl P kt m k h κ)) (hm:VR φ m m') (hk:VR φ k k') :
  ∃h' w',good (κ (.tuple #[]) h')∧HR P φ h' w'∧Ext φ φ h h' w w'∧(Builtin.delete_ ts ty #[m',k']).run P w=.ok (.tuple #[]) w':=by
 unfold jI at hg
 split at hg<;>try exact absurd hg hfl
 rename_i GY
 have hsc:=oe GY
 have hkk:=rW hsc hk
 subst hkk
 have zh:∀em,(Instr.checkKey em 10000 kt k').run P w=.ok () w:=fun em=>jl 20 10000 (by omega) kt k' em GY
 obtain ⟨u,KM⟩:=qk GY
 cases hm<;>try exact absurd hg hfl
 ·exact ⟨h,w,hg,hr,Ext.refl _ _ _,by simp[Builtin.delete_,ht,aD hu,zh]⟩
 ·rename_i r pl hp
  simp only at hg
  split at hg<;>try exact absurd hg hfl
  rename_i es clock hb
  obtain ⟨es',hO,h2⟩:=hr.nP hb hp
  split at hg
  ·rename_i i e hf
   rw[sX] at hg
   obtain ⟨hlo,hg⟩:=br hfl hg
   obtain ⟨r',g3,g4⟩:=dw hr hk es es'.toList 0 _ h2 hf
   cases r' with
   | none=>exact g4.elim
   | some p=>
    obtain ⟨i',v'⟩:=p
    obtain ⟨rfl,_,g6,_,_⟩:=g4
    have hnew:F2 (ER φ) (es.eraseIdx i') (es'.eraseIdxIfInBounds i').toList:=by
     have:(es'.eraseIdxIfInBounds i').toList=es'.toList.eraseIdx i':=by
      unfold Array.eraseIdxIfInBounds
      split
      ·simp
      ·rename_i hn; rw[List.eraseIdx_of_length_le (by simpa using hn)]
     rw[this]
     exact h2.eraseIdx i'
    obtain ⟨w',k1,k2,k3⟩:=hr.sY hlo (clock':=clock) hb hp hnew
    exact ⟨_,w',hg,k2,k3,by simp[Builtin.delete_,ht,aD hu,cM hO,zh,fu KM g3,k1]⟩
  ·rename_i hf
   obtain ⟨r',g3,g4⟩:=dw hr hk es es'.toList 0 _ h2 hf
   cases r' with
   | some p=>exact g4.elim
   | none=>
    have S2:(setObj pl.B (.map es' clock)).run P w=.ok () w:=by
     have hlt:pl.B<w.heap.size:=(hr.dom r pl hp).2
     simp[setObj,Sem.run,hO]
     have:w.heap.setIfInBounds pl.B (.map es' clock)=w.heap:=by
      apply Array.ext_getElem?
      intro i
      by_cases hi:i=pl.B
      ·subst hi; rw[Array.getElem?_setIfInBounds_self_of_lt hlt,hO]
      ·rw[Array.getElem?_setIfInBounds_ne (Ne.symm hi)]
     rw[this]
    exact ⟨h,w,hg,hr,Ext.refl _ _ _,by simp[Builtin.delete_,ht,aD hu,cM hO,zh,fu KM g3,S2]⟩
  ·exact absurd hg hfl
theorem HR.Cv (hr:HR P φ h w) {b since stepped:Nat} {m:Option Nat} {seen:List Nat} {pl:Pl} (hb:h.bl.get b=some (.dz m since seen stepped)) (hp:φ b=some pl) :
  ∃m' seen',w.heap[pl.B]? = some (.mapIter m' since seen' stepped)∧seen'.toList=seen.reverse∧((m=none∧m'=none)∨∃b jC,m=some b∧φ b=some jC∧m'=some jC.B):=by
 have:=hr.obj b _ pl hb hp
 cases hO:w.heap[pl.B]? with
 | none=>rw[hO] at this; exact this.elim
 | some O=>
  rw[hO] at this
  cases O<;>simp only[OR] at this<;>try exact this.elim
  obtain ⟨rfl,rfl,h3,h4⟩:=this
  exact ⟨_,_,rfl,h3,h4⟩
theorem ye (hfl:¬good fl) {kt et:TypeId} (hu:P.underlying t=some (.map kt et)) (hr:HR P φ h w) {x x':Value} {κ:Value→Heap→β} (hg:good (kX fl x h κ)) (hx:VR φ x x') :
  ∃φ' v v' h' w',good (κ v h')∧VR φ' v v'∧HR P φ' h' w'∧Ext φ φ' h h' w w'∧(Instr.range t x').run P w=.ok v' w':=by
 unfold kX at hg
 split at hg<;>try exact absurd hg hfl
 ·cases hx
  obtain ⟨hn,g1⟩:=dm hfl hg
  obtain ⟨k1,k2⟩:=hr.fresh (o:=.dz none 0 [] 0) (O:=.mapIter none 0 #[] 0) hn 0 0 ⟨rfl,rfl,rfl,.inl ⟨rfl,rfl⟩⟩ trivial
  exact ⟨_,_,.pointer (some ⟨w.heap.size,0,none⟩),_,_,g1,.ptr (fC _ _ _),k1,k2,by simp[Instr.range,aD hu]⟩
 ·split at hg<;>try exact absurd hg hfl
  rename_i r _ es clock hb
  cases hx with
  | map hp=>
   rename_i pl
   obtain ⟨es',hO,h2⟩:=hr.nP hb hp
   obtain ⟨hn,g1⟩:=dm hfl hg
   obtain ⟨k1,k2⟩:=hr.fresh (o:=.dz (some r) clock [] clock) (O:=.mapIter (some pl.B) clock #[] clock) hn 0 0 ⟨rfl,rfl,rfl,.inr ⟨r,pl,rfl,hp,rfl⟩⟩ trivial
   exact ⟨_,_,.pointer (some ⟨w.heap.size,0,none⟩),_,_,g1,.ptr (fC _ _ _),k1,k2,by simp[Instr.range,aD hu,cM hO]⟩
theorem jN {B:Nat} {m:Option Nat} {since stepped:Nat} {seen:Array Nat} (hO:w.heap[B]? = some (.mapIter m since seen stepped)):(getObj B).run P w=.ok (.mapIter m since seen stepped) w:=by
 simp[getObj,Sem.run,hO]
theorem F2.filter {α γ:Type} {R:α→γ→Prop} {f:α→Bool} {g:γ→Bool} {l:List α} {m:List γ} (hl:F2 R l m) (hfg:∀a b,R a b→f a=g b):F2 R (l.filter f) (m.filter g):=by
 induction hl with
 | nil=>exact .nil
 | @cons a b l m hr _ ih=>
  simp only[List.filter_cons,hfg a b hr]
  split
  ·exact .cons hr ih
  ·exact ih
theorem F2.allEq {α γ:Type} {R:α→γ→Prop} {f:α→Bool} {g:γ→Bool} {l:List α} {m:List γ} (hl:F2 R l m) (hfg:∀a b,R a b→f a=g b):l.all f=m.all g:=by
 induction hl with
 | nil=>rfl
 | cons hr _ ih=>simp[hfg _ _ hr,ih]
theorem OE (a b:Nat):Nat.beq a b=(a == b):=by rw[Bool.eq_iff_iff]; simp
theorem OF (a b:Nat):Nat.ble a b=decide (a≤b):=by rw[Bool.eq_iff_iff]; simp[Nat.ble_eq]
theorem yf (hfl:¬good fl) {both:β→β→β} (G2:∀x y,good (both x y)→good x∧good y) {b m since clock:Nat} {seen:List Nat} {κ:Value→Heap→β}:∀(es:List MapEntry) (e:MapEntry),
  good (jJ fl both b m since seen clock h κ e es)→∀(i:Nat) (x:MapEntry),(e::es)[i]? = some x→x.born<since∧h.lo≤b∧good (κ (.tuple #[.bool true,x.key,x.val]) ⟨h.nx,h.bl.aW b (.dz (some m) since (x.born::seen) clock),h.lo⟩):=by
 intro es
 induction es with
 | nil=>
  intro e hg i x hx
  unfold jJ at hg
  split at hg<;>try exact absurd hg hfl
  rename_i hle
  obtain ⟨hlo,hg⟩:=br hfl hg
  cases i with
  | zero=>simp at hx; subst hx; exact ⟨cz hle,hlo,hg⟩
  | succ i=>simp at hx
 | cons e' es ih=>
  intro e hg i x hx
  unfold jJ at hg
  split at hg<;>try exact absurd hg hfl
  rename_i hle
  obtain ⟨g1,g2⟩:=G2 _ _ hg
  obtain ⟨hlo,g1⟩:=br hfl g1
  cases i with
  | zero=>simp at hx; subst hx; exact ⟨cz hle,hlo,g1⟩
  | succ i=>exact ih e' g2 i x (by simpa using hx)
theorem HR.drew (hr:HR P φ h w):HR P φ h w.drew:=⟨hr.obj,hr.dom,hr.keys,hr.KJ,hr.inj,hr.lo⟩
theorem Ext.drew {φ':di} {h':Heap} {w':World} (hx:Ext φ φ' h h' w w'):Ext φ φ' h h' w w'.drew:=⟨hx.sub,hx.new,hx.nx,hx.size,hx.xX,hx.Cf,hx.tape,hx.os,hx.output,hx.fz,hx.lo,hx.DH,hx.DI,Nat.le_succ_of_le hx.dr⟩
theorem Ext.OG {φ':di} {h':Heap} {w':World} (hx:Ext φ φ' h h' w.drew w'):Ext φ φ' h h' w w':=⟨hx.sub,hx.new,hx.nx,hx.size,hx.xX,hx.Cf,hx.tape,hx.os,hx.output,hx.fz,hx.lo,hx.DH,hx.DI,Nat.le_of_succ_le hx.dr⟩
theorem rL (n:Nat) (hn:0<n) (w:World):∃k w',k<n∧(w'=w∨w'=w.drew)∧(choose (.mapNext n)).run P w=.ok k w':=by
 by_cases h1:n≤1
 ·refine ⟨0,w,hn,.inl rfl,?_⟩
  simp[Question.forced,h1]
 ·refine ⟨(Question.mapNext n).cut (w.tape w.drawn (.mapNext n)),w.drew,Nat.mod_lt _ hn,.inr rfl,?_⟩
  simp[choose,Sem.run,Question.forced,h1]
theorem zM (hfl:¬good fl) {both:β→β→β} (G2:∀x y,good (both x y)→good x∧good y) {ty:TypeId} (hr:HR P φ h w) {x x':Value} {κ:Value→Heap→β} (hg:good (nM fl both x h κ)) (hx:VR φ x x') :
  ∃v v' h' w',good (κ v h')∧VR φ v v'∧HR P φ h' w'∧Ext φ φ h h' w w'∧(Instr.next x' false ty).run P w=.ok v' w':=by
 unfold nM at hg
 split at hg<;>try exact absurd hg hfl
 cases hx with
 | ptr hp=>
  rename_i b pl
  split at hg<;>try exact absurd hg hfl
  ·rename_i since seen stepped hb
   obtain ⟨m',seen',hO,_,h4⟩:=hr.Cv hb hp
   rcases h4 with ⟨_,rfl⟩ | ⟨b1,jC,h5,_⟩
   ·exact ⟨_,.tuple #[.bool false],h,w,hg,VR.tuple' (.cons (.bool false) .nil),hr,Ext.refl _ _ _,by simp[Instr.next,jN hO]⟩
   ·cases h5
  ·rename_i m since seen last hb
   obtain ⟨m',seen',hO,zN,h4⟩:=hr.Cv hb hp
   rcases h4 with ⟨h5,_⟩ | ⟨b1,jC,h5,hp',rfl⟩
   ·cases h5
   ·cases h5
    split at hg<;>try exact absurd hg hfl
    rename_i es clock hm
    obtain ⟨es',M6,h2⟩:=hr.nP hm hp'
    split at hg<;>try exact absurd hg hfl
    rename_i XY
    have S3:∀e e':MapEntry,ER φ e e'→(!seen.any (Nat.beq e.born))=(!seen'.contains e'.born):=by
     intro e e' he
     rw[he.born]
     congr 1
     rw[←Array.contains_toList,zN,Bool.eq_iff_iff]
     simp
    have hleft:F2 (ER φ) (es.filter fun e=>!seen.any (Nat.beq e.born)) (es'.filter fun e=>!seen'.contains e.born).toList:=by
     rw[Array.toList_filter]
     exact h2.filter S3
    have KR:seen'.isEmpty=seen.isEmpty:=by
     have:seen'.toList.isEmpty=seen.isEmpty:=by rw[zN]; simp
     rw[←this]; simp
    have XZ:es'.isEmpty=es.isEmpty:=by
     have:es'.toList.isEmpty=es.isEmpty:=by generalize es'.toList=L at h2; cases h2<;>rfl
     rw[←this]; simp
    have hall:es'.all (fun e=>decide (e.born≥last))=es.all (fun e=>Nat.ble last e.born):=by
     rw[←Array.all_toList]
     exact (h2.allEq fun a b hab=>by rw[hab.born,OF]).symm
    have M7:(!seen'.isEmpty && !es'.isEmpty && es'.all (fun e=>decide (e.born≥last)))=false:=by
     rw[KR,XZ,hall]; exact XY
    split at hg
    ·
     rename_i vS
     rw[vS] at hleft
     have hl0:es'.filter (fun e=>!seen'.contains e.born)=#[]:=by
      generalize (es'.filter fun e=>!seen'.contains e.born)=L at hleft
      obtain ⟨L⟩:=L
      cases hleft
      rfl
     refine ⟨_,.tuple #[.bool false],h,w,hg,VR.tuple' (.cons (.bool false) .nil),hr,Ext.refl _ _ _,?_⟩
     simp only[Instr.next,Sem.run_bind,jN hO,cM M6,Result.andThen_ok,M7,hl0]
     simp[Question.forced]
    ·rename_i e0 OH S4
     have M8:=yf hfl G2 OH e0 hg
     rw[S4] at hleft
     have X0:pl.B<w.heap.size:=(hr.dom b pl hp).2
     generalize hL:(es'.filter fun e=>!seen'.contains e.born)=L at hleft
     have hlen:=hleft.length
     have wL:L.size=OH.length+1:=by simpa using hlen.symm
     have M9:∀e'∈L.toList,e'.born<since:=by
      intro e' he'
      obtain ⟨i,hi⟩:=List.getElem?_of_mem he'
      have hi':i<L.toList.length:=(List.getElem?_eq_some_iff.1 hi).1
      obtain ⟨x,hx⟩:∃x,(e0::OH)[i]? = some x:=⟨(e0::OH)[i]'(by omega),List.getElem?_eq_getElem (by omega)⟩
      obtain ⟨e2,h3,h4⟩:=hleft.get i x hx
      rw[hi] at h3; cases h3
      rw[h4.born]
      exact (M8 i x hx).1
     have f1:(L.filter fun e=>decide (e.born<since))=L:=by
      apply Array.ext'
      rw[Array.toList_filter,List.filter_eq_self]
      intro e he; simpa using M9 e he
     have f2:(L.filter fun e=>decide (e.born≥since))=#[]:=by
      apply Array.ext'
      rw[Array.toList_filter,List.filter_eq_nil_iff]
      intro e he; have:=M9 e he; simp; omega
     have hne:L.isEmpty=false:=by
      rw[Array.isEmpty_eq_false_iff]
      intro h0; rw[h0] at wL; simp at wL
     obtain ⟨k,w1,hk,hw1,hch⟩:=rL (P:=P) (OH.length+1) (by omega) w
     obtain ⟨x,hx⟩:∃x,(e0::OH)[k]? = some x:=⟨(e0::OH)[k]'(by simpa using hk),List.getElem?_eq_getElem (by simpa using hk)⟩
     obtain ⟨e',zj,he'⟩:=hleft.get k x hx
     rw[Array.getElem?_toList] at zj
     obtain ⟨M4,hlo,hgood⟩:=M8 k x hx
     have Kl:HR P φ h w1:=by
      rcases hw1 with rfl | rfl
      ·exact hr
      ·exact hr.drew
     have hx1:Ext φ φ h h w w1:=by
      rcases hw1 with rfl | rfl
      ·exact Ext.refl _ _ _
      ·exact (Ext.refl _ _ _).drew
     have WY:w1.heap[pl.B]? = some (.mapIter (some jC.B) since seen' last):=by rcases hw1 with rfl | rfl<;>exact hO
     have S5:w1.heap=w.heap:=by rcases hw1 with rfl | rfl<;>rfl
     have jE:(setObj pl.B (.mapIter (some jC.B) since (seen'.push e'.born) clock)).run P w1=.ok () { w1 with heap:=w1.heap.setIfInBounds pl.B (.mapIter (some jC.B) since (seen'.push e'.born) clock) }:=by
      simp[setObj,Sem.run,WY]
     have M_:=Kl.zJ hlo (o:=.dz (some m) since (x.born::seen) clock) hp ⟨_,hb,trivial⟩
      (w':={ w1 with heap:=w1.heap.setIfInBounds pl.B (.mapIter (some jC.B) since (seen'.push e'.born) clock) }) (by simp)
      (fun k hk=>Array.getElem?_setIfInBounds_ne (Ne.symm hk))
      (by
       show OR P φ _ pl ((w1.heap.setIfInBounds pl.B _)[pl.B]?)
       rw[Array.getElem?_setIfInBounds_self_of_lt (by rw[S5]; exact X0)]
       exact ⟨rfl,rfl,by simp[zN,he'.born],.inr ⟨m,jC,rfl,hp',rfl⟩⟩) rfl rfl rfl (.inl trivial)
     refine ⟨_,.tuple #[.bool true,e'.key,e'.val],_,_,hgood,VR.tuple' (.cons (.bool true) (.cons he'.key (.cons he'.val .nil))),M_.1,hx1.trans M_.2,?_⟩
     simp only[Instr.next,Sem.run_bind,jN hO,cM M6,Result.andThen_ok,M7,hL,f1,f2]
     have hc:((if L.isEmpty=true then #[none] else #[])++(L++#[]).map some:Array (Option MapEntry))=L.map some:=by simp[hne]
     rw[hc]
     simp only[Bool.false_eq_true,if_false,Array.size_map,wL,Sem.run_bind,hch,Result.andThen_ok,Array.getElem?_map,zj,Option.map_some,jE]
     simp
theorem yg (hfl:¬good fl) (hr:HR P φ h w) {x x':Value} {κ:Value→Heap→β} (hg:good (kY fl x h κ)) (hx:VR φ x x') :
  ∃v v',good (κ v h)∧VR φ v v'∧(Instr.entry x').run P w=.ok v' w:=by
 unfold kY at hg
 split at hg<;>try exact absurd hg hfl
 cases hx with
 | ptr hp=>
  rename_i b pl
  split at hg<;>try exact absurd hg hfl
  rename_i m since stamp seen stepped hb
  obtain ⟨m',seen',hO,zN,h4⟩:=hr.Cv hb hp
  rcases h4 with ⟨h5,_⟩ | ⟨b1,jC,h5,hp',rfl⟩
  ·cases h5
  ·cases h5
   split at hg<;>try exact absurd hg hfl
   rename_i es clock hm
   obtain ⟨es',M6,h2⟩:=hr.nP hm hp'
   split at hg<;>try exact absurd hg hfl
   rename_i zh; have zh:=cu zh; subst zh
   split at hg<;>try exact absurd hg hfl
   rename_i e hf
   have S6:seen'.back? = some stamp:=by
    have:seen'=(seen.reverse++[stamp]).toArray:=Array.ext' (by simpa using zN)
    rw[this]; simp
   have hfind:∃e',es'.find? (fun e=>e.born == stamp)=some e'∧ER φ e e':=by
    rw[←Array.find?_toList]
    clear M6 hm
    generalize es'.toList=L at h2
    induction h2 with
    | nil=>simp at hf
    | @cons a c l m hac _ ih=>
     simp only[List.find?_cons] at hf ⊢
     rw[OE] at hf
     rw[hac.born]
     split at hf
     ·rename_i hq; cases hf; exact ⟨_,rfl,hac⟩
     ·exact ih hf
   obtain ⟨e',hf',he'⟩:=hfind
   exact ⟨_,.tuple #[e'.key,e'.val],hg,VR.tuple' (.cons he'.key (.cons he'.val .nil)),by simp[Instr.entry,jN hO,cM M6,S6,hf']⟩
theorem gJ (hfl:¬good fl) (hr:HR P φ h w) {size n:Nat} {x x':Value} {κ:List Value→β} (hg:good (eO fl h size n x κ)) (hx:VR φ x x') (OI:∃a m c,x=.slice a m c∧n≤m) :
  ∃l l',good (κ l)∧F2 (VR φ) l l'∧l.length=n*size∧∀w1:World,w1.heap=w.heap→(Builtin.firstCells size n x').run P w1=.ok l'.toArray w1:=by
 obtain ⟨a,m,c,rfl,hnm⟩:=OI
 unfold eO at hg
 split at hg
 ·rename_i h0
  have h0:n*size=0:=h0
  refine ⟨[],[],hg,.nil,h0.symm,fun w1 hw1=>?_⟩
  cases hx<;>simp[Builtin.firstCells,h0,loadCells,loadCellsFrom]
 ·rename_i k hk
  have hk:n*size=k+1:=hk
  split at hg<;>try exact absurd hg hfl
  rename_i b o _ _ OJ
  cases OJ
  split at hg<;>try exact absurd hg hfl
  ·rename_i nn cc e op hb
   split at hg<;>try exact absurd hg hfl
   rename_i hle; have hle:=cz hle
   obtain ⟨l,h1,h2,h3⟩:=jj hfl _ _ _ _ _ hg
   simp only[List.append_nil] at h1
   have fin:∀pl,φ b=some pl→∃l',F2 (VR φ) l l'∧∀w1:World,w1.heap=w.heap→(loadCells ⟨pl.B,o,none⟩ (n*size)).run P w1=.ok l'.toArray w1:=by
    intro pl hp
    obtain ⟨l',h4,h5⟩:=hr.DJ hb hp (l:=l) (off:=o) (by rw[h2]; exact hle) h3
    exact ⟨l',h4,fun w1 hw1=>by have h5:=h5 w1 hw1; rw[h2] at h5; rw[hk]; exact h5⟩
   cases hx with
   | slice hp hn hc=>
    obtain ⟨l',h4,h5⟩:=fin _ hp
    exact ⟨l,l',h1,h4,by rw[h2,hk],fun w1 hw1=>by simpa[Builtin.firstCells] using h5 w1 hw1⟩
   | bM hp hn hc=>
    obtain ⟨l',h4,h5⟩:=fin _ hp
    exact ⟨l,l',h1,h4,by rw[h2,hk],fun w1 hw1=>by simpa[Builtin.firstCells] using h5 w1 hw1⟩
   | cr _ a' c=>
    have:n=0:=by omega
    subst this; simp at hk
  ·rename_i nn cc e hb
   split at hg<;>try exact absurd hg hfl
   rename_i hle; have hle:=cz hle
   obtain ⟨l,h1,h2,h3⟩:=jj hfl _ _ _ _ _ hg
   simp only[List.append_nil] at h1
   have fin:∀pl,φ b=some pl→∃l',F2 (VR φ) l l'∧∀w1:World,w1.heap=w.heap→(loadCells ⟨pl.B,o,none⟩ (n*size)).run P w1=.ok l'.toArray w1:=by
    intro pl hp
    obtain ⟨l',h4,h5⟩:=hr.DK hb hp (l:=l) (off:=o) (by rw[h2]; exact hle) h3
    exact ⟨l',h4,fun w1 hw1=>by have h5:=h5 w1 hw1; rw[h2] at h5; rw[hk]; exact h5⟩
   cases hx with
   | slice hp hn hc=>
    obtain ⟨l',h4,h5⟩:=fin _ hp
    exact ⟨l,l',h1,h4,by rw[h2,hk],fun w1 hw1=>by simpa[Builtin.firstCells] using h5 w1 hw1⟩
   | bM hp hn hc=>
    obtain ⟨l',h4,h5⟩:=fin _ hp
    exact ⟨l,l',h1,h4,by rw[h2,hk],fun w1 hw1=>by simpa[Builtin.firstCells] using h5 w1 hw1⟩
   | cr _ a' c=>
    have:n=0:=by omega
    subst this; simp at hk
theorem zO (hfl:¬good fl) {e s:Nat} {ty:TypeId} {ts:Array TypeId} (ht:ts[0]? = some t) (hu:P.underlying t=some (.slice e)) (hs:dY P e=some s) (hr:HR P φ h w)
  {d d' x x':Value} {κ:Value→Heap→β} (hg:good (zq fl s d x h κ)) (hd:VR φ d d') (hx:VR φ x x') :
  ∃v h' w',good (κ v h')∧VR φ v v∧HR P φ h' w'∧Ext φ φ h h' w w'∧(Builtin.copy_ ts ty #[d',x']).run P w=.ok v w':=by
 unfold zq at hg
 split at hg<;>try exact absurd hg hfl
 rename_i base dLen dCap
 split at hg<;>try exact absurd hg hfl
 rename_i a n c
 rw[bG] at hg
 obtain ⟨base',Na,hd'⟩:∃base' Na,d'=.slice base' dLen Na:=by cases hd<;>exact ⟨_,_,rfl⟩
 obtain ⟨a',c',hx'⟩:∃a' c',x'=.slice a' n c':=by cases hx<;>exact ⟨_,_,rfl⟩
 split at hg
 ·rename_i h0
  have hf:(Builtin.firstCells s 0 x').run P w=.ok #[] w:=by rw[hx']; cases a'<;>simp[Builtin.firstCells,loadCells,loadCellsFrom]
  have X2:Nat.min n dLen=0:=h0
  refine ⟨_,h,w,hg,.int _ _,hr,Ext.refl _ _ _,?_⟩
  rw[hx'] at hf
  subst hd'; subst hx'
  cases base'<;>simp[Builtin.copy_,ht,aD hu,bW hs,Builtin.lenOf,X2,hf,storeCells,goInt]
 ·rename_i k hk
  split at hg<;>try exact absurd hg hfl
  rename_i b o
  obtain ⟨l,l',g1,g2,g3,g4⟩:=gJ hfl hr hg hx ⟨_,_,_,rfl,Nat.min_le_left _ _⟩
  split at g1<;>try exact absurd g1 hfl
  rename_i nn cc e' op hb
  obtain ⟨k1,k2,k3⟩:=iC hfl _ _ _ _ _ g1
  obtain ⟨hlo,k3⟩:=br hfl k3
  have fin:∀pl,φ b=some pl→base'=some ⟨pl.B,o,none⟩→∃v h' w',good (κ v h')∧VR φ v v∧HR P φ h' w'∧Ext φ φ h h' w w'∧(Builtin.copy_ ts ty #[d',x']).run P w=.ok v w':=by
   intro pl hp hbe
   obtain ⟨w',j1,j2,j3⟩:=hr.storeAt hlo hb hp g2 k1 k2
   refine ⟨_,_,w',k3,.int _ _,j2,j3,?_⟩
   have g5:=g4 w rfl
   clear g4
   rw[hx'] at g5
   subst hd'; subst hx'; subst hbe
   have g4':(Builtin.firstCells s (Nat.min n dLen) (.slice a' n c')).run P w=.ok l'.toArray w:=g5
   simp[Builtin.copy_,ht,aD hu,bW hs,Builtin.lenOf,g4',j1,goInt]
  cases hd with
  | slice hp hn hc=>cases hd'; exact fin _ hp rfl
  | bM hp hn hc=>cases hd'; exact fin _ hp rfl
  | cr a1 a2 c2=>have:Nat.min n 0=0:=Nat.min_zero n; rw[this] at hk; cases hk
theorem og (hfl:¬good fl) {e:Nat} {z:List Value} {ty:TypeId} {ts:Array TypeId} (ht:ts[0]? = some t) (hu:P.underlying t=some (.slice e)) (hz:zeroOf P e=some z) (hr:HR P φ h w)
  {x x':Value} {κ:Value→Heap→β} (hg:good (iO fl z x h κ)) (hx:VR φ x x') :
  ∃h' w',good (κ (.tuple #[]) h')∧HR P φ h' w'∧Ext φ φ h h' w w'∧(Builtin.clear_ ts ty #[x']).run P w=.ok (.tuple #[]) w':=by
 obtain ⟨v,inf,hi,G0,hzl,Ox⟩:=fH hz
 have OK:(Builtin.clear_ ts ty #[x']).run P w=.ok (.tuple #[]) w→good (κ (.tuple #[]) h)→∃h' w',good (κ (.tuple #[]) h')∧HR P φ h' w'∧Ext φ φ h h' w w'∧(Builtin.clear_ ts ty #[x']).run P w=.ok (.tuple #[]) w':=
  fun h1 h2=>⟨h,w,h2,hr,Ext.refl _ _ _,h1⟩
 unfold iO at hg
 split at hg
 ·cases hx; exact OK (by simp[Builtin.clear_,ht,aD hu]) hg
 ·refine OK ?_ hg
  cases hx<;>simp[Builtin.clear_,ht,aD hu]
 ·cases hx; exact OK (by simp[Builtin.clear_,ht,aD hu]) hg
 ·rename_i b o n c hn0
  split at hg<;>try exact absurd hg hfl
  rename_i nn cc e' op hb
  obtain ⟨k1,k2,k3⟩:=iC hfl _ _ _ _ _ hg
  obtain ⟨hlo,k3⟩:=br hfl k3
  have X3:(Builtin.zeroCells v.cells n).toList=aO z n:=by
   unfold Builtin.zeroCells
   rw[oU v.cells n _ rfl,hzl]
  have fin:∀pl c',φ b=some pl→x'=.slice (some ⟨pl.B,o,none⟩) n c'→∃h' w',good (κ (.tuple #[]) h')∧HR P φ h' w'∧Ext φ φ h h' w w'∧(Builtin.clear_ ts ty #[x']).run P w=.ok (.tuple #[]) w':=by
   intro pl c' hp hxe
   obtain ⟨w',j1,j2,j3⟩:=hr.storeAt hlo hb hp (gu (φ:=φ) (iq Ox n)) k1 k2
   refine ⟨_,w',k3,j2,j3,?_⟩
   subst hxe
   cases n with
   | zero=>exact (hn0 rfl).elim
   | succ n=>simp[Builtin.clear_,ht,aD hu,fT hi G0,X3,j1]
  cases hx with
  | slice hp hn hc=>exact fin _ _ hp rfl
  | bM hp hn hc=>exact fin _ _ hp rfl
  | cr a1 a2 c2=>exact (hn0 rfl).elim
 ·split at hg<;>try exact absurd hg hfl
  rename_i r es clock hb
  obtain ⟨hlo,hg⟩:=br hfl hg
  cases hx with
  | map hp=>
   rename_i pl
   obtain ⟨es',hO,h2⟩:=hr.nP hb hp
   obtain ⟨w',j1,j2,j3⟩:=hr.sY hlo (S1:=[]) (Ct:=#[]) (clock':=clock) hb hp .nil
   exact ⟨_,w',hg,j2,j3,by simp[Builtin.clear_,ht,aD hu,cM hO,j1]⟩
 ·exact absurd hg hfl
end Go.Vai

namespace Go.Vai
open Go
variable {β:Type} {fl:β} {good:β→Prop} {P:Program} {φ:di} {h:Heap} {w:World} {t:TypeId}
inductive Comes (P:Program) (ts:Array TypeId) (e size:Nat) (n:Nat) (new':List Value) (w:World):Value→Prop where
 | sl {xt:TypeId} {xd:TypeDesc} {a:Option Addr} {c:Nat} (h1:ts[1]? = some xt) (h2:P.underlying xt=some xd) (h3:nZ xd=false)
   (h4:∀w1:World,w1.heap=w.heap→(Builtin.firstCells size n (.slice a n c)).run P w1=.ok new'.toArray w1):Comes P ts e size n new' w (.slice a n c)
 | mk {xt:TypeId} {k k':IntKind} {inf:TypeInfo} {v:Value} (h1:ts[1]? = some xt) (h2:P.underlying xt=some (.int k')) (h3:n≤1000000) (h4:P.info? e=some inf) (h5:inf.zero=some v)
   (h6:inf.bytes≤10000) (h7:Builtin.zeroCells v.cells n=new'.toArray) (h8:n*size=0→new'=[]):Comes P ts e size n new' w (.int k (n:Int))
theorem zP (hfl:¬good fl) {e size:Nat} {xt:TypeId} {xd:TypeDesc} {inf:TypeInfo} {ts:Array TypeId} {z:List Value} (hz:Ou P e=some (z,size)) (hi:P.info? e=some inf) (hb:inf.bytes≤10000)
  (Sa:ts[1]? = some xt) (Sb:P.underlying xt=some xd) (hr:HR P φ h w) {x x':Value} {κ:Nat→List Value→β}
  (hg:good (jH fl (nZ xd) z h size x κ)) (hx:VR φ x x') :
  ∃n new new',good (κ n new)∧F2 (VR φ) new new'∧new.length=n*size∧Comes P ts e size n new' w x':=by
 obtain ⟨DN,Cs,Oy,SY⟩:=mW hz
 obtain ⟨v,OB,hi',G0,hzl,Ox⟩:=fH DN
 rw[hi] at hi'; cases hi'
 unfold jH at hg
 split at hg
 ·rename_i k n hm
  split at hg<;>try exact absurd hg hfl
  rename_i hle; have hle:=cz hle
  cases hx
  have X3:Builtin.zeroCells v.cells n=(aO z n).toArray:=by
   unfold Builtin.zeroCells
   rw[oU v.cells n _ rfl,hzl]
  obtain ⟨k',rfl⟩:∃k',xd=.int k':=by cases xd<;>first | exact ⟨_,rfl⟩ | cases hm
  refine ⟨n,_,_,hg,gu (iq Ox n),by rw[mg,Oy],.mk Sa Sb hle hi G0 hb X3 ?_⟩
  intro h0
  have hn0:n=0:=by rcases Nat.mul_eq_zero.1 h0 with h | h<;>omega
  subst hn0
  rfl
 ·rename_i a n c hm
  obtain ⟨l,l',g1,g2,g3,g4⟩:=gJ hfl hr hg hx ⟨_,_,_,rfl,Nat.le_refl _⟩
  obtain ⟨a',c',rfl⟩:∃a' c',x'=.slice a' n c':=by cases hx<;>exact ⟨_,_,rfl⟩
  exact ⟨n,l,l',g1,g2,g3,.sl Sa Sb hm g4⟩
 ·exact absurd hg hfl
theorem ir {e size n sLen sCap:Nat} {ty:TypeId} {ts:Array TypeId} {base:Option Addr} {x':Value} {new':List Value} (ht:ts[0]? = some t) (hu:P.underlying t=some (.slice e)) (hs:dY P e=some size)
  (hc:Comes P ts e size n new' w x') (hle:sLen+n≤sCap) {w':World} (hst:∀a,base=some a→(storeCells (a.add (sLen*size)) new').run P w=.ok () w') (hno:base=none→w'=w) :
  (Builtin.append_ ts ty #[.slice base sLen sCap,x']).run P w=.ok (.slice base (sLen+n) sCap) w':=by
 cases hc with
 | @sl xt xd a c h1 h2 h3 h4=>
  have h4:=h4 w rfl
  have key:∀d,P.underlying xt=some d→nZ d=false→(Builtin.append_ ts ty #[.slice base sLen sCap,.slice a n c]).run P w=.ok (.slice base (sLen+n) sCap) w':=by
   intro d hd hdf
   unfold Builtin.append_
   cases d<;>first
    | (cases hdf; done)
    | (simp only[ht,h1,List.getElem?_toArray,List.getElem?_cons_zero,List.getElem?_cons_succ,Sem.run_bind,aD hu,aD hd,Result.andThen_ok,bW hs,Sem.run_pure,Bool.false_eq_true,if_false,
      Builtin.lenOf,hle,Bool.not_false,if_true,h4]
       cases base with
       | none=>rw[hno rfl]; simp only[Sem.run_pure]
       | some b=>simp only[Sem.run_bind,hst b rfl,Result.andThen_ok,Sem.run_pure])
  exact key xd h2 h3
 | @mk xt k k' inf v h1 h2 h3 h4 h5 h6 h7 h8=>
  have w1:IntKind.i64.wrap (n:Int)=n:=IntWalk.i64_in _ ⟨by omega,by omega⟩
  have c1:¬((n:Int)<0):=by omega
  have c2:¬((n:Int)*(inf.bytes:Int) > 2 ^ 48):=by
   have:n*inf.bytes≤1000000*10000:=Nat.mul_le_mul h3 h6
   have h2:(n:Int)*(inf.bytes:Int)=((n*inf.bytes:Nat):Int):=by simp
   rw[h2]; omega
  have hA:(asInt (.int k (n:Int))).run P w=.ok (n:Int) w:=by simp[asInt,asIntOf]
  have hnew:(if n*size=0 then pure #[] else do pure (Builtin.zeroCells (←zeroValue e).cells n):Sem (Array Value)).run P w=.ok new'.toArray w:=by
   by_cases h0:n*size=0
   ·simp only[h0,if_true,h8 h0]; rfl
   ·simp[h0,fT h4 h5,h7]
  simp only[Sem.run_ite,Sem.run_bind,Sem.run_pure] at hnew
  unfold Builtin.append_
  simp only[ht,h1,List.getElem?_toArray,List.getElem?_cons_zero,List.getElem?_cons_succ,Sem.run_bind,aD hu,aD h2,Result.andThen_ok,bW hs,Sem.run_pure,if_true,hA,w1,c1,if_false,
   l9 h4,c2,Int.toNat_natCast,hle,Bool.not_true,Bool.false_eq_true,Sem.run_ite,hnew]
  cases base with
  | none=>rw[hno rfl]; simp
  | some b=>simp[hst b rfl]
theorem G3 {need old:Nat} {e:TypeId} (tp:Nat):need≤(Question.appendCap need old e).cut tp:=by simp[Question.cut]
set_option maxHeartbeats 1000000 in
theorem qm {e size n sLen sCap:Nat} {ty:TypeId} {ts:Array TypeId} {base:Option Addr} {x' v:Value} {new' old':List Value} {inf:TypeInfo} (ht:ts[0]? = some t) (hu:P.underlying t=some (.slice e)) (hs:dY P e=some size)
  (hi:P.info? e=some inf) (hz:inf.zero=some v) (hb:inf.bytes≤10000) (hc:Comes P ts e size n new' w x') (hlt:sCap<sLen+n) (nS:sLen+n≤1000000000)
  (hold:∀w1:World,w1.heap=w.heap→(Builtin.firstCells size sLen (.slice base sLen sCap)).run P w1=.ok old'.toArray w1) :
  ∃fR rest,sLen+n≤fR∧rest.length=(fR-(sLen+n))*v.cells.size∧(Builtin.append_ ts ty #[.slice base sLen sCap,x']).run P w =
   .ok (.slice (some ⟨w.heap.size,0,none⟩) (sLen+n) fR) (w.drew.alloc (.cells (old'++new'++rest).toArray e (0,0))):=by
 have hold:=hold w.drew rfl
 let fR:=(Question.appendCap (sLen+n) sCap e).cut (w.tape w.drawn (.appendCap (sLen+n) sCap e))
 refine ⟨fR,(Builtin.zeroCells v.cells (fR-(sLen+n))).toList,G3 _,by simp[size_zeroCells],?_⟩
 have yc:¬(sLen+n≤sCap):=by omega
 have hn0:¬(((sLen+n:Nat):Int) > IntKind.i64.max):=by rw[IntKind.max_i64]; omega
 have hn3:¬(Builtin.nextslicecap (sLen+n) sCap*inf.bytes > 2 ^ 48):=by
  have h5:=nextslicecap_le hlt
  have:Builtin.nextslicecap (sLen+n) sCap*inf.bytes≤(2*1000000000)*10000:=Nat.mul_le_mul (by omega) hb
  omega
 have nG:∀Z:Array Value,old'.toArray++new'.toArray++Z=(old'++new'++Z.toList).toArray:=fun Z=>Array.ext' (by simp)
 have DN:∀w1:World,(zeroValue e).run P w1=.ok v w1:=fun w1=>fT hi hz
 have hi1:∀w1:World,(typeInfo e).run P w1=.ok inf w1:=fun w1=>l9 hi
 cases hc with
 | @sl xt xd a c h1 h2 h3 h4=>
  have h4:=h4 w.drew rfl
  have hxf:nZ xd=false:=h3
  have key:∀d,P.underlying xt=some d→nZ d=false→(Builtin.append_ ts ty #[.slice base sLen sCap,.slice a n c]).run P w =
    .ok (.slice (some ⟨w.heap.size,0,none⟩) (sLen+n) fR) (w.drew.alloc (.cells (old'++new'++(Builtin.zeroCells v.cells (fR-(sLen+n))).toList).toArray e (0,0))):=by
   intro d hd hdf
   unfold Builtin.append_
   cases d<;>first
    | (cases hdf; done)
    | (simp only[ht,h1,List.getElem?_toArray,List.getElem?_cons_zero,List.getElem?_cons_succ,Sem.run_bind,aD hu,aD hd,Result.andThen_ok,bW hs,Sem.run_pure,Bool.false_eq_true,if_false,
      Builtin.lenOf,yc,hi1,hn0,false_and,hn3,run_choose,Question.forced,World.drew_eq,run_askRoom,hold,Bool.not_false,if_true,h4,DN,newRow,run_newObj]
       rw[nG]; rfl)
  exact key xd h2 hxf
 | @mk xt k k' OB v' h1 h2 h3 h4 h5 h6 h7 h8=>
  rw[hi] at h4; cases h4
  rw[hz] at h5; cases h5
  have w1:IntKind.i64.wrap (n:Int)=n:=IntWalk.i64_in _ ⟨by omega,by omega⟩
  have c1:¬((n:Int)<0):=by omega
  have c2:¬((n:Int)*(inf.bytes:Int) > 2 ^ 48):=by
   have:n*inf.bytes≤1000000*10000:=Nat.mul_le_mul h3 h6
   have h2:(n:Int)*(inf.bytes:Int)=((n*inf.bytes:Nat):Int):=by simp
   rw[h2]; omega
  have hA:(asInt (.int k (n:Int))).run P w=.ok (n:Int) w:=by simp[asInt,asIntOf]
  have hnew:(if n*size=0 then pure #[] else do pure (Builtin.zeroCells (←zeroValue e).cells n):Sem (Array Value)).run P w.drew=.ok new'.toArray w.drew:=by
   by_cases h0:n*size=0
   ·simp only[h0,if_true,h8 h0]; rfl
   ·simp[h0,DN,h7]
  simp only[Sem.run_ite,Sem.run_bind,Sem.run_pure] at hnew
  simp only[DN,Result.andThen_ok] at hnew
  unfold Builtin.append_
  simp only[ht,h1,List.getElem?_toArray,List.getElem?_cons_zero,List.getElem?_cons_succ,Sem.run_bind,aD hu,aD h2,Result.andThen_ok,bW hs,Sem.run_pure,if_true,hA,w1,c1,if_false,
   hi1,c2,Int.toNat_natCast,yc,hn0,false_and,hn3,run_choose,Question.forced,World.drew_eq,run_askRoom,hold,Bool.not_true,Bool.false_eq_true,Sem.run_ite,hnew,DN,newRow,run_newObj]
  rw[nG]; rfl
theorem KS (w:World) {old old' new new' rest:List Value} {e size fR sLen n:Nat} (hs:dY P e=some size) (hz:0<size) (h1:F2 (VR φ) old old') (h2:F2 (VR φ) new new') (l1:old.length=sLen*size) (l2:new.length=n*size)
  (hle:sLen+n≤fR) (hr:rest.length=(fR-(sLen+n))*size) (hlen:(old++new).length≤1000000000000) :
  OR P φ (.cells (old++new).length (lay (old++new) .nil 0) e true) ⟨w.heap.size,fR*size,size⟩ (some (.cells (old'++new'++rest).toArray e (0,0))):=by
 refine GZ (h1.append h2) hlen e _ rest true fun _=>⟨?_,hs,hz⟩
 simp only[List.length_append,hr,←h1.length,←h2.length,l1,l2]
 rw[←Nat.add_mul,←Nat.add_mul]
 congr 1
 omega
theorem yh (hfl:¬good fl) {b o n m c nn e size:Nat} {cc:T Value} {op:Bool} {κ:List Value→β} (hb:h.bl.get b=some (.cells nn cc e op)) (hg:good (eO fl h size n (.slice (some ⟨b,o,none⟩) m c) κ)) :
  ∃l,good (κ l)∧l.length=n*size∧(l≠[]→o+l.length≤nn)∧∀j v,l[j]? = some v→cc.get (o+j)=some v:=by
 unfold eO at hg
 split at hg
 ·rename_i h0
  have h0:n*size=0:=h0
  exact ⟨[],hg,h0.symm,fun hh=>absurd rfl hh,fun j v e=>by simp at e⟩
 ·rename_i k hk
  have hk:n*size=k+1:=hk
  simp only[hb] at hg
  split at hg<;>try exact absurd hg hfl
  rename_i hle; have hle:=cz hle
  obtain ⟨l,h1,h2,h3⟩:=jj hfl _ _ _ _ _ hg
  simp only[List.append_nil] at h1
  exact ⟨l,h1,by rw[h2,hk],fun _=>by rw[h2]; exact hle,h3⟩
theorem HR.OL (hr:HR P φ h w) {b nn e:Nat} (hlo:h.lo≤b) {c:T Value} {op:Bool} {pl:Pl} {ob:bC} {w':World} (hb:h.bl.get b=some (.cells nn c e op)) (hp:φ b=some pl) (hn:h.nx≤h.nx)
  (hsz:w'.heap.size=w.heap.size) (zK:∀k,k≠pl.B→w'.heap[k]? = w.heap[k]?) (ho:OR P φ ob pl w'.heap[pl.B]?) (hd:OR P φ (.dead nn e) pl w'.heap[pl.B]?)
  (ht:w'.tape=w.tape) (hos:w'.os=w.os) (hout:w'.output=w.output) (hlv:ob.live) (Kk:w.drawn≤w'.drawn:=by exact Nat.le_refl _) :
  HR P (fL φ h.nx pl) ⟨h.nx+1,(h.bl.aW b (.dead nn e)).aW h.nx ob,h.lo⟩ w'∧Ext φ (fL φ h.nx pl) h ⟨h.nx+1,(h.bl.aW b (.dead nn e)).aW h.nx ob,h.lo⟩ w w':=by
 obtain ⟨Kl,hx1⟩:=hr.zJ hlo (o:=.dead nn e) hp ⟨_,hb,trivial⟩ hsz zK hd ht hos hout (.inr fun _=>oR ho hlv) Kk
 have hnone:φ h.nx=none:=by
  cases hq:φ h.nx with
  | none=>rfl
  | some pl=>have:=(hr.dom _ _ hq).1; omega
 have hs:Small h.nx:=by unfold Small; omega
 have zG:=(hr.dom b pl hp).1
 have fQ:∀x,x<h.nx→((h.bl.aW b (.dead nn e)).aW h.nx ob).get x=(h.bl.aW b (.dead nn e)).get x:=fun x hx=>T.fo _ _ hs (by unfold Small; omega) (by omega)
 have hsub:=mV (pl:=pl) hnone
 have alone:∀x o px,(h.bl.aW b (.dead nn e)).get x=some o→o.live→φ x=some px→px.B≠pl.B:=by
  intro x o px hx hl hpx hB
  have M5:=(hr.dom x px hpx).1
  rw[T.jL _ _ (by unfold Small; omega) (by unfold Small; omega)] at hx
  split at hx
  ·cases hx; exact hl
  ·rename_i hne
   exact hne (hr.inj x b o _ px pl hx hb hl trivial hpx hp hB).symm
 constructor
 ·refine ⟨?_,?_,?_,?_,?_,Nat.le_succ_of_le hr.lo⟩
  ·intro x o px hx hpx
   unfold fL at hpx
   split at hpx
   ·rename_i he; subst he; cases hpx
    rw[T.af] at hx; cases hx
    exact ho.mono hsub
   ·have M5:=(hr.dom x px hpx).1
    exact (Kl.obj x o px ((fQ x M5)▸hx) hpx).mono hsub
  ·intro x px hpx
   unfold fL at hpx
   split at hpx
   ·rename_i he; subst he; cases hpx; exact ⟨Nat.lt_succ_self _,by rw[hsz]; exact (hr.dom b pl hp).2⟩
   ·have:=Kl.dom x px hpx; exact ⟨Nat.lt_succ_of_lt this.1,this.2⟩
  ·intro x o S0 hx
   show x<h.nx+1
   rw[T.jL _ _ hs S0] at hx
   split at hx
   ·omega
   ·have:=Kl.keys x o S0 hx; exact Nat.lt_succ_of_lt this
  ·show h.nx+1<h.nx+1+1; omega
  ·intro x x' o1 o2 p1 p2 g1 g2 l1 l2 e1 e2 eB
   unfold fL at e1 e2
   split at e1<;>split at e2
   ·omega
   ·rename_i q1 q2; cases e1
    have M5:=(hr.dom x' p2 e2).1
    exact absurd eB.symm (alone x' o2 p2 ((fQ x' M5)▸g2) l2 e2)
   ·rename_i q1 q2; cases e2
    have M5:=(hr.dom x p1 e1).1
    exact absurd eB (alone x o1 p1 ((fQ x M5)▸g1) l1 e1)
   ·have n1:=(hr.dom x p1 e1).1
    have n2:=(hr.dom x' p2 e2).1
    exact Kl.inj x x' o1 o2 p1 p2 ((fQ x n1)▸g1) ((fQ x' n2)▸g2) l1 l2 e1 e2 eB
 ·refine ⟨hsub,?_,Nat.le_succ _,hx1.size,hx1.xX,?_,ht,hos,hout,hx1.fz,rfl,fun x hx=>(fQ x (Nat.lt_of_lt_of_le hx hr.lo)).trans (hx1.DH x hx),hx1.DI,Kk⟩
  ·intro x px e0 e1
   unfold fL at e1
   split at e1
   ·rename_i he; subst he; cases e1; exact ⟨Nat.le_refl _,.inr ⟨b,pl,hp,rfl⟩⟩
   ·rw[e0] at e1; cases e1
  ·intro x hx hpx
   show ((h.bl.aW b (.dead nn e)).aW h.nx ob).get x=_
   rw[fQ x hx]
   exact hx1.Cf x hx hpx
theorem KU {l l':List Value} (g:F2 (VR φ) l l') (h:l.all dR=true):∀v'∈l',v'.oneCell'=true:=by
 induction g with
 | nil=>intro v' rV; cases rV
 | cons hv _ ih=>
  simp only[List.all_cons,Bool.and_eq_true] at h
  intro v' rV
  simp only[List.mem_cons] at rV
  rcases rV with rfl | rV
  ·exact DP h.1 hv
  ·exact ih h.2 v' rV
set_option maxHeartbeats 2000000 in
theorem vT (hfl:¬good fl) {e size:Nat} {ty xt:TypeId} {xd:TypeDesc} {inf:TypeInfo} {ts:Array TypeId} {z:List Value} (ht:ts[0]? = some t) (hu:P.underlying t=some (.slice e))
  (hz:Ou P e=some (z,size)) (hi:P.info? e=some inf) (hby:inf.bytes≤10000) (Sa:ts[1]? = some xt) (Sb:P.underlying xt=some xd) (hr:HR P φ h w) {s s' x x':Value} {κ:Value→Heap→β}
  (hg:good (bE fl e size z (nZ xd) s x h κ)) (Nb:VR φ s s') (hx:VR φ x x') :
  ∃φ' v v' h' w',good (κ v h')∧VR φ' v v'∧HR P φ' h' w'∧Ext φ φ' h h' w w'∧(Builtin.append_ ts ty #[s',x']).run P w=.ok v' w':=by
 obtain ⟨DN,Cs,Oy,SY⟩:=mW hz
 obtain ⟨v,OB,hi',G0,hzl,Ox⟩:=fH DN
 rw[hi] at hi'; cases hi'
 have hvs:v.cells.size=size:=by rw[←Oy,hzl]; simp
 unfold bE at hg
 split at hg<;>try exact absurd hg hfl
 rename_i base sLen sCap
 obtain ⟨n,new,new',g1,g2,g3,g4⟩:=zP hfl hz hi hby Sa Sb hr hg hx
 have G4:=g2.length
 obtain ⟨base',jO,hs'⟩:∃base' jO,s'=.slice base' sLen jO:=by cases Nb<;>exact ⟨_,_,rfl⟩
 have hle':sLen≤jO:=by subst hs'; cases Nb<;>first | assumption | omega
 have fresh:∀{h1:Heap} {w1:World} {old old':List Value} {κ1:Value→Heap→β},HR P φ h1 w.drew→Ext φ φ h h1 w w.drew→sLen+n≤1000000000→jO<sLen+n→
   F2 (VR φ) old old'→old.length=sLen*size→(∀w1:World,w1.heap=w.heap→(Builtin.firstCells size sLen s').run P w1=.ok old'.toArray w1)→
   good (dL fl (old++new) e true h1 fun b h=>κ (.slice (some ⟨b,0,none⟩) (sLen+n) aM) h)→
   ∃φ' v v' h' w',good (κ v h')∧VR φ' v v'∧HR P φ' h' w'∧Ext φ φ' h h' w w'∧(Builtin.append_ ts ty #[s',x']).run P w=.ok v' w':=by
  intro h1 w1 old old' κ1 Kl hx1 nS hlt WZ yj vz hgood
  unfold dL at hgood
  obtain ⟨k1,k2⟩:=me hfl hgood
  obtain ⟨k3,k4⟩:=dm hfl k2
  rw[hs'] at vz
  obtain ⟨fR,rest,j1,j2,j3⟩:=qm (ty:=ty) ht hu Cs hi G0 hby g4 hlt nS vz
  rw[hvs] at j2
  have OM:=KS (P:=P) (φ:=φ) w.drew (fR:=fR) Cs SY WZ g2 yj g3 j1 j2 k1
  obtain ⟨m1,m2⟩:=Kl.fresh k3 (fR*size) size OM trivial
  refine ⟨_,_,_,_,_,k4,.bM (fC _ _ _) j1 (by simp),m1,hx1.trans m2,by rw[hs']; exact j3⟩
 split at g1
 ·
  refine ⟨φ,_,s',h,w,g1,Nb,hr,Ext.refl _ _ _,?_⟩
  have hn0:new=[]:=List.eq_nil_of_length_eq_zero (by rw[g3]; omega)
  subst hn0
  cases g2
  rw[hs']
  exact ir ht hu Cs g4 (by omega) (w':=w) (fun a _=>by simp[storeCells]) (fun _=>rfl)
 ·rename_i n
  rw[bG] at g1
  split at g1<;>try exact absurd g1 hfl
  rename_i nS; have nS:=cz nS
  have nS:sLen+(n+1)≤1000000000:=nS
  split at g1
  ·
   split at g1<;>try exact absurd g1 hfl
   rename_i hc0 hl0
   have hc0:=cu hc0; have hl0:=cu hl0
   subst hc0; subst hl0
   cases Nb with
   | d_ _=>
    cases hs'
    refine fresh (w1:=w) (κ1:=κ) (old:=[]) (old':=[]) hr.drew (Ext.refl _ _ _).drew nS (by omega) .nil (by simp) (fun w1 _=>by simp[Builtin.firstCells]) (by simpa using g1)
  ·rename_i b o
   split at g1<;>try exact absurd g1 hfl
   rename_i ON; have ON:=l_ ON
   split at g1
   ·
    rename_i hop; have hop:=cu hop; subst hop
    obtain ⟨pl,hp,hcap,rfl⟩:∃pl,φ b=some pl∧jO*pl.e+o=pl.sz∧base'=some ⟨pl.B,o,none⟩:=by
     subst hs'
     cases Nb with
     | slice hp hn hc=>exact absurd hc (Nat.lt_irrefl _)
     | bM hp hn hc=>exact ⟨_,hp,hc,rfl⟩
    split at g1<;>try exact absurd g1 hfl
    rename_i nn cc e' hb
    obtain ⟨C,hC,yc,hn2,X4,hcell⟩:=hr.rowAt hb hp
    obtain ⟨o1,o2,o3⟩:=X4 rfl
    split at g1<;>try exact absurd g1 hfl
    ·
     rename_i hee hfit
     have hee:=cu hee; subst hee
     have hfit:o+(sLen+(n+1))*size≤nn:=cz hfit
     have hpe:pl.e=size:=by rw[Cs] at o2; exact (Option.some.inj o2).symm
     have hroom:sLen+(n+1)≤jO:=by
      rw[hpe] at hcap
      have h1:(sLen+(n+1))*size≤jO*size:=by omega
      exact Nat.le_of_mul_le_mul_right h1 SY
     obtain ⟨k1,k2,k3⟩:=iC hfl _ _ _ _ _ g1
     obtain ⟨hlo,k3⟩:=br hfl k3
     obtain ⟨w',j1,j2,j3⟩:=hr.storeAt hlo hb hp g2 k1 k2
     refine ⟨φ,_,.slice (some ⟨pl.B,o,none⟩) (sLen+(n+1)) jO,_,w',k3,.bM hp hroom hcap,j2,j3,?_⟩
     rw[hs']
     exact ir ht hu Cs g4 hroom (fun a ha=>by cases ha; rw[iz]; exact j1) (fun hh=>by cases hh)
    ·
     rename_i hee hfit
     have hee:=cu hee; subst hee
     have hfit:=M1 hfit
     split at g1<;>try exact absurd g1 hfl
     rename_i Sc
     simp only[Bool.and_eq_true] at Sc
     obtain ⟨Sc,S7⟩:=Sc
     have Sc:=cu Sc; subst Sc
     have hpe:pl.e=size:=by rw[Cs] at o2; exact (Option.some.inj o2).symm
     have Nc:=fun hlo:h.lo≤b=>hr.zJ hlo (w':=w) (o:=.dead nn e) hp ⟨_,hb,trivial⟩ rfl (fun _ _=>rfl) (by rw[hC]; exact ⟨by omega,hn2,o2,o3⟩) rfl rfl rfl (.inr id)
     by_cases hroom:sLen+(n+1)≤jO
     ·obtain ⟨old,k1,k3,k5,k6⟩:=yh hfl hb g1
      obtain ⟨hlo,k1⟩:=br hfl k1
      unfold dL at k1
      obtain ⟨m1,m2⟩:=me hfl k1
      obtain ⟨m3,m4⟩:=dm hfl m2
      have hone:∀v'∈new',v'.oneCell'=true:=KU g2 S7
      have S8:sLen*size+new'.length≤C.size:=by
       rw[o1,←hcap,hpe,←G4,g3,←Nat.add_mul]
       exact Nat.le_trans (Nat.mul_le_mul_right _ hroom) (Nat.le_add_right _ _)
      have hrun:=run_storeCells_at P pl.B (sLen*size) e new' 0 C w hC (by simpa using S8) hone
      simp only[Nat.add_zero] at hrun
      have hrow:=setRow_heap w pl.B C (C.toList.take (sLen*size)++new'++C.toList.drop (sLen*size+new'.length)).toArray e _ hC
      have OM:OR P φ (.cells (old++new).length (lay (old++new) .nil 0) e true) pl (some (.cells (C.toList.take (sLen*size)++new'++C.toList.drop (sLen*size+new'.length)).toArray e (0,0))):=by
       refine ⟨rfl,rfl,?_,by omega,fun _=>⟨?_,o2,o3⟩,?_⟩
       ·simp only[List.length_append,k3,List.size_toArray,List.length_take,List.length_drop,Array.length_toList,←G4]
        omega
       ·simp only[List.length_append,List.size_toArray,List.length_take,List.length_drop,Array.length_toList]
        omega
       ·intro i v iB hi
        have hi2:i<sLen*size+new.length:=by simpa[List.length_append,k3] using hi
        rw[oT _ .nil 0 (by omega) i (by unfold Small; omega),if_pos (by omega)] at iB
        simp only[Nat.sub_zero] at iB
        simp only[List.getElem?_toArray,List.append_assoc]
        rcases Nat.lt_or_ge i (sLen*size) with hlt | hge
        ·rw[List.getElem?_append_left (by omega)] at iB
         have hgc:=k6 i v iB
         rw[Nat.zero_add] at hgc
         obtain ⟨v',e1,e2⟩:=hcell i v hgc (by have:=k5 (by intro vS; rw[vS] at k3; simp at k3; omega); omega)
         refine ⟨v',?_,e2⟩
         rw[List.getElem?_append_left (by simp; omega),List.getElem?_take_of_lt hlt]
         simpa using e1
        ·rw[List.getElem?_append_right (by omega),k3] at iB
         obtain ⟨v',e1,e2⟩:=g2.get _ v iB
         refine ⟨v',?_,e2⟩
         have htl:(C.toList.take (sLen*size)).length=sLen*size:=by
          rw[List.length_take,Array.length_toList]; exact Nat.min_eq_left (by omega)
         have hin:i-sLen*size<new'.length:=by rw[←G4]; omega
         rw[List.getElem?_append_right (by rw[htl]; exact hge),htl,List.getElem?_append_left hin]
         exact e1
      obtain ⟨q1,q2⟩:=hr.OL hlo (ob:=.cells (old++new).length (lay (old++new) .nil 0) e true) (w':=w.setRow pl.B (C.toList.take (sLen*size)++new'++C.toList.drop (sLen*size+new'.length)).toArray) hb hp m3
       (setRow_size _ _ _) (fun k hk=>setRow_other _ _ _ _ hk) (by rw[hrow]; exact OM) (by rw[hrow]; exact ⟨by omega,hn2,o2,o3⟩) rfl rfl rfl (by trivial)
      refine ⟨_,_,.slice (some ⟨pl.B,0,none⟩) (sLen+(n+1)) jO,_,_,m4,.bM (fC _ _ _) hroom hcap,q1,q2,?_⟩
      rw[hs']
      exact ir ht hu Cs g4 hroom (fun a ha=>by cases ha; rw[iz,Nat.zero_add]; exact hrun) (fun hh=>by cases hh)
     ·obtain ⟨old,old',k1,k2,k3,k4⟩:=gJ hfl hr g1 Nb ⟨_,_,_,rfl,Nat.le_refl _⟩
      obtain ⟨hlo,k1⟩:=br hfl k1
      exact fresh (w1:=w) (κ1:=κ) (Nc hlo).1.drew (Nc hlo).2.drew nS (by omega) k2 k3 k4 k1
   ·
    rename_i hop; have hop:=l_ hop
    obtain ⟨pl,hp,rfl,rfl,X5⟩:∃pl,φ b=some pl∧jO=sCap∧base'=some ⟨pl.B,o,none⟩∧sCap<aM:=by
     subst hs'
     cases Nb with
     | slice hp hn hc=>exact ⟨_,hp,rfl,rfl,hc⟩
     | bM hp hn hc=>exact absurd rfl hop
     | cr a a' c=>exact absurd rfl ON
    split at g1<;>try exact absurd g1 hfl
    ·rename_i nn cc e' op hle hb
     have hroom:sLen+(n+1)≤jO:=cz hle
     obtain ⟨k1,k2,k3⟩:=iC hfl _ _ _ _ _ g1
     obtain ⟨hlo,k3⟩:=br hfl k3
     obtain ⟨w',j1,j2,j3⟩:=hr.storeAt hlo hb hp g2 k1 k2
     have M3:jO<aM:=X5
     refine ⟨φ,_,.slice (some ⟨pl.B,o,none⟩) (sLen+(n+1)) jO,_,w',k3,.slice hp hroom M3,j2,j3,?_⟩
     rw[hs']
     exact ir ht hu Cs g4 hroom (fun a ha=>by cases ha; rw[iz]; exact j1) (fun hh=>by cases hh)
    ·rename_i hle
     have hlt:=M1 hle
     split at g1<;>try exact absurd g1 hfl
     obtain ⟨old,old',k1,k2,k3,k4⟩:=gJ hfl hr g1 Nb ⟨_,_,_,rfl,Nat.le_refl _⟩
     exact fresh (w1:=w) (κ1:=κ) hr.drew (Ext.refl _ _ _).drew nS hlt k2 k3 k4 k1
  ·exact absurd g1 hfl
end Go.Vai

namespace Go.Vai
open Go
variable {β:Type} {fl:β} {good:β→Prop} {P:Program} {φ:di} {h:Heap} {w:World} {t:TypeId}
theorem zQ {s:Sem Unit} {w':World} (hs:s.run P w=.ok () w'):((do s; pure Next.skip:Sem Next)).run P w=.ok .skip w':=by simp[hs]
theorem qn (hfl:¬good fl) {kt et:TypeId} {ty:TypeId} {ts:Array TypeId} (ht:ts[0]? = some t) (hu:P.underlying t=some (.map kt et)) (hr:HR P φ h w)
  {m:Option Nat} {x':Value} {κ:Value→Heap→β} (hg:good (iO fl [] (.map m) h κ)) (hx:VR φ (.map m) x') :
  ∃h' w',good (κ (.tuple #[]) h')∧HR P φ h' w'∧Ext φ φ h h' w w'∧(Builtin.clear_ ts ty #[x']).run P w=.ok (.tuple #[]) w':=by
 cases m with
 | none=>
  cases hx
  exact ⟨h,w,by simpa[iO] using hg,hr,Ext.refl _ _ _,by simp[Builtin.clear_,ht,aD hu]⟩
 | some r=>
  simp only[iO] at hg
  split at hg<;>try exact absurd hg hfl
  rename_i es clock hb
  obtain ⟨hlo,hg⟩:=br hfl hg
  cases hx with
  | map hp=>
   rename_i pl
   obtain ⟨es',hO,h2⟩:=hr.nP hb hp
   obtain ⟨w',j1,j2,j3⟩:=hr.sY hlo (S1:=[]) (Ct:=#[]) (clock':=clock) hb hp .nil
   exact ⟨_,w',hg,j2,j3,by simp[Builtin.clear_,ht,aD hu,cM hO,j1]⟩
theorem wM (bs:List UInt8) (κ:List Value→β):xS bs κ=κ (bs.map fun b=>.int .u8 (.ofNat b.toNat)):=by
 induction bs generalizing κ with
 | nil=>rfl
 | cons b bs ih=>simp only[xS,bG,ih,List.map_cons]
theorem G5 (hfl:¬good fl):∀(l:List Value) (κ:List UInt8→β),good (WV fl l κ)→∃ns:List Int,l=ns.map (Value.int .u8)∧good (κ (ns.map fun n=>UInt8.ofNat n.toNat)):=by
 intro l
 induction l with
 | nil=>intro κ hg; exact ⟨[],rfl,hg⟩
 | cons v l ih=>
  intro κ hg
  unfold WV at hg
  split at hg
  ·rename_i e; cases e
  ·rename_i n l2 e
   cases e
   obtain ⟨ns,rfl,g⟩:=ih _ hg
   exact ⟨(n:Int)::ns,rfl,g⟩
  ·exact absurd hg hfl
theorem F2.u8:∀{ns:List Int} {l':List Value},F2 (VR φ) (ns.map (Value.int .u8)) l'→l'=ns.map (Value.int .u8):=by
 intro ns
 induction ns with
 | nil=>intro l' h; cases h; rfl
 | cons n ns ih=>
  intro l' h
  cases h with
  | cons h t=>cases h; rw[ih t]; rfl
set_option maxHeartbeats 2000000 in
theorem zS (hfl:¬good fl) {op:Op} {i:XI β} (hc:wD fl P op=some i) {tm:T Value} {ρ:Operand→Value} (hρ:∀y∈op.operands.toList,VR φ (dV tm y) (ρ y)) (hr:HR P φ h w)
  {κ:Value→Heap→β} (hg:good (i.run tm h κ)) {o:Oper} (ho:o.op=op):KP good P φ h w κ ((execOp ρ o).run P w):=by
 have unit:∀{s:Sem Unit},(∃h' w',good (κ undef h')∧HR P φ h' w'∧Ext φ φ h h' w w'∧s.run P w=.ok () w')→execOp ρ o=(do s; pure Next.skip)→
   KP good P φ h w κ ((execOp ρ o).run P w):=by
  intro s ⟨h',w',g1,g2,g3,g4⟩ e
  exact ⟨φ,undef,undef,h',w',.skip,g1,VR.undef,g2,g3,by rw[e]; exact zQ g4,.inr ⟨rfl,rfl⟩⟩
 have val:∀{s:Sem Value},(∃φ' v v' h' w',good (κ v h')∧VR φ' v v'∧HR P φ' h' w'∧Ext φ φ' h h' w w'∧s.run P w=.ok v' w')→execOp ρ o=(do pure (Next.value (←s)))→
   KP good P φ h w κ ((execOp ρ o).run P w):=by
  intro s ⟨φ',v,v',h',w',g1,g2,g3,g4,g5⟩ e
  exact ⟨φ',v,v',h',w',.value v',g1,g2,g3,g4,by rw[e]; exact gW g5,.inl rfl⟩
 cases op<;>simp only[wD] at hc<;>try (cases hc; done)
 case store t a x=>
  split at hc<;>try (cases hc; done)
  rename_i s hs
  cases hc; rw[XI.cG] at hg
  exact unit (yd hfl hs hr hg (hρ a (by simp[Op.operands])) (hρ x (by simp[Op.operands]))) (by simp only[execOp,ho])
 case mapUpdate t m k x=>
  split at hc<;>try (cases hc; done)
  rename_i kt et hu
  cases hc; rw[XI.oa] at hg
  exact unit (kG hfl hu hr hg (hρ m (by simp[Op.operands])) (hρ k (by simp[Op.operands])) (hρ x (by simp[Op.operands]))) (by simp only[execOp,ho])
 case insert t m k x=>
  split at hc<;>try (cases hc; done)
  rename_i kt et hu
  cases hc; rw[XI.oa] at hg
  exact unit (kG hfl hu hr hg (hρ m (by simp[Op.operands])) (hρ k (by simp[Op.operands])) (hρ x (by simp[Op.operands]))) (by simp only[execOp,ho])
 case range t x=>
  split at hc<;>try (cases hc; done)
  rename_i kt et hu
  cases hc; rw[XI.bO] at hg
  exact val (ye hfl hu hr hg (hρ x (by simp[Op.operands]))) (by simp only[execOp,ho])
 case entry it=>
  cases hc; rw[XI.bO] at hg
  obtain ⟨v,v',g1,g2,g3⟩:=yg hfl hr hg (hρ it (by simp[Op.operands]))
  exact val ⟨φ,v,v',h,w,g1,g2,hr,Ext.refl _ _ _,g3⟩ (by simp only[execOp,ho])
 case convert src dst x=>
  split at hc<;>try (cases hc; done)
  ·rename_i e W0 W1
   split at hc<;>try (cases hc; done)
   rename_i Sd hsz
   cases hc; rw[XI.bO] at hg
   have ql:=hρ x (by simp[Op.operands])
   unfold lV at hg
   split at hg<;>try exact absurd hg hfl
   rename_i s hx
   rw[hx] at ql
   generalize hy:ρ x=y at ql
   cases ql
   rw[wM,rX,Nat.zero_add] at hg
   split at hg<;>try exact absurd hg hfl
   rename_i hle; have hle:=cz hle
   obtain ⟨hn,hg⟩:=dm hfl hg
   have hlen:(s.data.toList.map fun b=>Value.int .u8 (.ofNat b.toNat)).length=s.size:=by rw[List.length_map,Array.length_toList]; rfl
   rw[hlen] at hg hle
   have hcap:s.size≤grownCap w s.size 0 e:=G3 _
   have hrow:(bytesRow s (grownCap w s.size 0 e)).size=grownCap w s.size 0 e:=by
    simp only[bytesRow,Array.size_append,Array.size_map,Array.size_replicate]
    show s.size+_=_
    omega
   have OM:OR P φ (.ro s.size (lay (s.data.toList.map fun b=>Value.int .u8 (.ofNat b.toNat)) .nil 0) e) ⟨w.drew.heap.size,grownCap w s.size 0 e,1⟩
     (some (.cells (bytesRow s (grownCap w s.size 0 e)) e ((bytesRow s (grownCap w s.size 0 e)).size,(bytesRow s (grownCap w s.size 0 e)).size+1))):=by
    refine ⟨rfl,by rw[hrow]; exact hcap,fun i v iB hi=>?_⟩
    rw[oT _ .nil 0 (by rw[hlen]; omega) i (by unfold Small; omega),if_pos (by rw[hlen]; omega)] at iB
    simp only[Nat.sub_zero,List.getElem?_map] at iB
    have hi2:i<s.data.size:=hi
    refine ⟨v,?_,?_⟩
    ·simp only[bytesRow]
     rw[Array.getElem?_append_left (by simpa using hi2),Array.getElem?_map,←Array.getElem?_toList]
     exact iB
    ·cases hq:s.data.toList[i]? with
     | none=>rw[hq] at iB; cases iB
     | some b=>rw[hq] at iB; cases iB; exact .int _ _
   obtain ⟨m1,m2⟩:=hr.drew.fresh hn (grownCap w s.size 0 e) 1 OM trivial
   refine val (s:=convert src dst (ρ x)) ⟨_,_,_,_,_,hg,.bM (fC _ _ _) hcap (by simp),m1,m2.OG,?_⟩ (by simp only[execOp,ho])
   rw[hy]
   exact run_bytes_of_string w src dst e s W0 W1 Sd
  ·rename_i e W0 W1
   split at hc<;>try (cases hc; done)
   rename_i Sd
   cases hc; rw[XI.bO] at hg
   have ql:=hρ x (by simp[Op.operands])
   unfold zx at hg
   split at hg<;>try exact absurd hg hfl
   rename_i a n c hx
   rw[hx] at ql
   obtain ⟨l,l',g1,g2,g3,g4⟩:=gJ hfl hr hg ql ⟨_,_,_,rfl,Nat.le_refl _⟩
   obtain ⟨ns,rfl,g5⟩:=G5 hfl _ _ g1
   have hl':=F2.u8 g2
   subst hl'
   have g4:=g4 w rfl
   refine val (s:=convert src dst (ρ x)) ⟨φ,_,_,h,w,g5,.string _,hr,Ext.refl _ _ _,?_⟩ (by simp only[execOp,ho])
   generalize hy:ρ x=y at ql g4
   have fin:∀(a:Addr) (c:Nat),(loadCells a n).run P w=.ok (ns.map (Value.int .u8)).toArray w→(convert src dst (.slice (some a) n c)).run P w=.ok (.string ⟨⟨ns.map fun n=>UInt8.ofNat n.toNat⟩⟩) w:=by
    intro a c hl
    rw[run_convert_bytes_string w src dst e _ n c W0 Sd W1,run_bytesToString w a n c ns hl,foldl_push_bytes]
    simp[ByteArray.empty,ByteArray.emptyWithCapacity]
    rfl
   cases ql with
   | d_ hle=>
    have hn:ns=[]:=by
     have:=g4
     simp[Builtin.firstCells] at this
     simpa using this
    subst hn
    exact run_convert_bytes_nil w src e W0 Sd n c dst W1
   | slice hp hn hc=>exact fin _ _ (by simpa[Builtin.firstCells] using g4)
   | bM hp hn hc=>exact fin _ _ (by simpa[Builtin.firstCells] using g4)
   | cr _ a' c=>exact fin _ _ (by simpa[Builtin.firstCells] using g4)
 case call c=>
  obtain ⟨callee,args,ts⟩:=c
  cases callee<;>(try simp only at hc)<;>try (cases hc; done)
  rename_i b
  cases b<;>(try simp only at hc)<;>try (cases hc; done)
  case append=>
   split at hc<;>try contradiction
   rename_i s x _ hx
   have hargs:args=#[s,x]:=Array.ext' (by simpa using hx)
   split at hc<;>try contradiction
   rename_i st xt ht Sa
   split at hc<;>try contradiction
   rename_i e hu
   split at hc<;>try contradiction
   rename_i inf xd hi Sb
   split at hc<;>try contradiction
   rename_i z size hz hby
   cases hc; rw[XI.cG] at hg
   exact val (vT (ty:=o.type) hfl ht hu hz hi (cz hby) Sa Sb hr hg (hρ s (by simp[Op.operands,Call.operands,hargs])) (hρ x (by simp[Op.operands,Call.operands,hargs])))
    (by simp[execOp,ho,resolve,invoke,builtin,hargs])
  case copy=>
   split at hc<;>try contradiction
   rename_i d x _ hx
   have hargs:args=#[d,x]:=Array.ext' (by simpa using hx)
   split at hc<;>try contradiction
   rename_i t ht
   split at hc<;>try contradiction
   rename_i e hu
   split at hc<;>try contradiction
   rename_i s hs
   cases hc; rw[XI.cG] at hg
   obtain ⟨v,h',w',g⟩:=zO (ty:=o.type) hfl ht hu hs hr hg (hρ d (by simp[Op.operands,Call.operands,hargs])) (hρ x (by simp[Op.operands,Call.operands,hargs]))
   exact val ⟨φ,v,v,h',w',g⟩ (by simp[execOp,ho,resolve,invoke,builtin,hargs])
  case clear=>
   split at hc<;>try contradiction
   rename_i x _ hx
   have hargs:args=#[x]:=Array.ext' (by simpa using hx)
   have ql:VR φ (dV tm x) (ρ x):=hρ x (by simp[Op.operands,Call.operands,hargs])
   split at hc<;>try contradiction
   rename_i t ht
   split at hc<;>try contradiction
   ·rename_i e hu
    split at hc<;>try contradiction
    rename_i z hz
    cases hc; rw[XI.bO] at hg
    obtain ⟨h',w',g1,g2,g3,g4⟩:=og (ty:=o.type) hfl ht hu hz hr hg ql
    exact val ⟨φ,.tuple #[],.tuple #[],h',w',g1,VR.undef,g2,g3,g4⟩ (by simp[execOp,ho,resolve,invoke,builtin,hargs])
   ·rename_i kt et hu
    cases hc; rw[XI.bO] at hg
    split at hg<;>try exact absurd hg hfl
    rename_i m hm
    rw[hm] at ql
    obtain ⟨h',w',g1,g2,g3,g4⟩:=qn (ty:=o.type) hfl ht hu hr hg ql
    exact val ⟨φ,.tuple #[],.tuple #[],h',w',g1,VR.undef,g2,g3,g4⟩ (by simp[execOp,ho,resolve,invoke,builtin,hargs])
  case cap=>
   split at hc<;>try contradiction
   rename_i x _ hx
   have hargs:args=#[x]:=Array.ext' (by simpa using hx)
   have ql:VR φ (dV tm x) (ρ x):=hρ x (by simp[Op.operands,Call.operands,hargs])
   split at hc<;>try contradiction
   rename_i t ht
   split at hc<;>try contradiction
   rename_i e hu
   cases hc; rw[XI.bO] at hg
   have hex:execOp ρ o=(do pure (Next.value (←Builtin.cap_ ts o.type #[ρ x]))):=by simp[execOp,ho,resolve,invoke,builtin,hargs]
   split at hg<;>try exact absurd hg hfl
   rename_i a n c hv
   split at hg<;>try exact absurd hg hfl
   rename_i hle; have hle:=cz hle
   rw[hv] at ql
   obtain ⟨a',e3⟩:∃a',ρ x=.slice a' n c:=by
    generalize ρ x=z at ql
    cases ql with
    | d_ _=>exact ⟨_,rfl⟩
    | slice _ _ _=>exact ⟨_,rfl⟩
    | bM _ _ _=>exact absurd hle (by unfold aM; omega)
    | cr _ _ _=>exact absurd hle (by unfold fk; omega)
   rw[e3] at hex
   exact val ⟨φ,_,_,h,w,hg,.int _ _,hr,Ext.refl _ _ _,by simp[Builtin.cap_,ht,aD hu,goInt]⟩ hex
  case delete=>
   split at hc<;>try contradiction
   rename_i m k _ hx
   have hargs:args=#[m,k]:=Array.ext' (by simpa using hx)
   split at hc<;>try contradiction
   rename_i t ht
   split at hc<;>try contradiction
   rename_i kt et hu
   cases hc; rw[XI.cG] at hg
   obtain ⟨h',w',g1,g2,g3,g4⟩:=vR (ty:=o.type) hfl ht hu hr hg (hρ m (by simp[Op.operands,Call.operands,hargs])) (hρ k (by simp[Op.operands,Call.operands,hargs]))
   exact val ⟨φ,.tuple #[],.tuple #[],h',w',g1,VR.undef,g2,g3,g4⟩ (by simp[execOp,ho,resolve,invoke,builtin,hargs])
  case min=>
   split at hc<;>try contradiction
   rename_i a b _ hx
   have hargs:args=#[a,b]:=Array.ext' (by simpa using hx)
   have ha:VR φ (dV tm a) (ρ a):=hρ a (by simp[Op.operands,Call.operands,hargs])
   have hb:VR φ (dV tm b) (ρ b):=hρ b (by simp[Op.operands,Call.operands,hargs])
   cases hc; rw[XI.cG] at hg
   have hex:execOp ρ o=(do pure (Next.value (←Builtin.min_ ts o.type #[ρ a,ρ b]))):=by simp[execOp,ho,resolve,invoke,builtin,hargs]
   split at hg<;>try exact absurd hg hfl
   rename_i k x k' y e1 e2
   rw[e1] at ha; rw[e2] at hb
   have e3:ρ a=.int k x:=by generalize ρ a=z at ha; cases ha; rfl
   have e4:ρ b=.int k' y:=by generalize ρ b=z at hb; cases hb; rfl
   have hrun:=run_min_int2 (P:=P) (w:=w) ts o.type k k' x y
   rw[e3,e4] at hex
   split at hg
   ·rename_i hlt
    rw[fG,decide_eq_true_eq] at hlt
    rw[if_pos hlt] at hrun
    exact val ⟨φ,_,_,h,w,hg,.int _ _,hr,Ext.refl _ _ _,hrun⟩ hex
   ·rename_i hlt
    rw[fG,decide_eq_false_iff_not] at hlt
    rw[if_neg hlt] at hrun
    exact val ⟨φ,_,_,h,w,hg,.int _ _,hr,Ext.refl _ _ _,hrun⟩ hex
  case max=>
   split at hc<;>try contradiction
   rename_i a b _ hx
   have hargs:args=#[a,b]:=Array.ext' (by simpa using hx)
   have ha:VR φ (dV tm a) (ρ a):=hρ a (by simp[Op.operands,Call.operands,hargs])
   have hb:VR φ (dV tm b) (ρ b):=hρ b (by simp[Op.operands,Call.operands,hargs])
   cases hc; rw[XI.cG] at hg
   have hex:execOp ρ o=(do pure (Next.value (←Builtin.max_ ts o.type #[ρ a,ρ b]))):=by simp[execOp,ho,resolve,invoke,builtin,hargs]
   split at hg<;>try exact absurd hg hfl
   rename_i k x k' y e1 e2
   rw[e1] at ha; rw[e2] at hb
   have e3:ρ a=.int k x:=by generalize ρ a=z at ha; cases ha; rfl
   have e4:ρ b=.int k' y:=by generalize ρ b=z at hb; cases hb; rfl
   have hrun:=run_max_int2 (P:=P) (w:=w) ts o.type k k' x y
   rw[e3,e4] at hex
   split at hg
   ·rename_i hlt
    rw[fG,decide_eq_true_eq] at hlt
    rw[if_pos hlt] at hrun
    exact val ⟨φ,_,_,h,w,hg,.int _ _,hr,Ext.refl _ _ _,hrun⟩ hex
   ·rename_i hlt
    rw[fG,decide_eq_false_iff_not] at hlt
    rw[if_neg hlt] at hrun
    exact val ⟨φ,_,_,h,w,hg,.int _ _,hr,Ext.refl _ _ _,hrun⟩ hex
end Go.Vai

namespace Go.Vai
open Go
variable {β:Type} {fl:β} {good:β→Prop} {P:Program} {φ:di} {h:Heap} {w:World} {t:TypeId}
structure TR (φ:di) (nt:Nat) (tm:T Value) (a:Act):Prop where
 size:a.tmps.size=nt
 small:nt≤1000000000000
 rel:∀t,t<nt→VR φ (cT tm t) (a.tmps.getD t undef)
theorem TR.mono {φ φ':di} {nt:Nat} {tm:T Value} {a:Act} (hs:Sub φ φ') (ht:TR φ nt tm a):TR φ' nt tm a:=⟨ht.size,ht.small,fun t hlt=>(ht.rel t hlt).mono hs⟩
theorem cN {a b:Nat} (h:Nat.ble (Nat.succ a) b=true):a<b:=cz h
theorem TR.eval {nt:Nat} {tm:T Value} {a:Act} (ht:TR φ nt tm a) {x:Operand} (hx:zy nt x=true):VR φ (dV tm x) (a.eval x):=by
 cases x with
 | tmp t=>exact ht.rel t (cN hx)
 | const v=>exact ja hx
 | func f=>exact VR.func' .nil .nil
 | global g=>cases hx
noncomputable def gQ (tm:T Value) (d:Option Nat) (v:Value):T Value:=match d with | some d=>tm.aW d v | none=>tm
theorem eZ (tm:T Value) (d:Option Nat) (v:Value) (h:Heap) (κ:T Value→Heap→β):lQ tm d v h κ=κ (gQ tm d v) h:=by
 cases d with
 | none=>rfl
 | some d=>show T.set tm d v (fun tm=>κ tm h)=_; rw[T.eT]; rfl
def G6 (nt:Nat) (d:Option Nat):Bool:=match d with | some d=>Nat.ble (Nat.succ d) nt | none=>true
theorem mX {nt t:Nat} (hn:nt≤1000000000000) (ht:t<nt):Small t:=by unfold Small; omega
theorem e_ {nt:Nat} {tm:T Value} {d:Option Nat} {v:Value} (hn:nt≤1000000000000) (hd:G6 nt d=true) {t:Nat} (ht:t<nt):cT (gQ tm d v) t=if d=some t then v else cT tm t:=by
 cases d with
 | none=>simp[gQ]
 | some d=>
  have hd':=cN hd
  simp only[gQ,cT]
  rw[T.jL tm v (mX hn hd') (mX hn ht)]
  by_cases he:d=t
  ·simp[he]
  ·simp[he]
theorem TR.put {nt:Nat} {tm:T Value} {a:Act} (ht:TR φ nt tm a) {d:Option Nat} (hd:G6 nt d=true) {v v':Value} (hv:VR φ v v'):TR φ nt (gQ tm d v) (a.put d v'):=by
 refine ⟨?_,ht.small,?_⟩
 ·cases d<;>simp[Act.put,ht.size]
 ·intro t hlt
  rw[e_ ht.small hd hlt]
  have hr:=ht.rel t hlt
  cases d with
  | none=>simpa[Act.put] using hr
  | some d=>
   have hd':=cN hd
   by_cases he:d=t
   ·subst he
    have:d<a.tmps.size:=by rw[ht.size]; exact hd'
    simpa[Act.put,Array.getD,this] using hv
   ·have h1:¬(some d=some t):=by simpa using he
    rw[if_neg h1]
    simp only[Array.getD_eq_getD_getElem?] at hr ⊢
    simp only[Act.put]
    rw[Array.getElem?_setIfInBounds_ne he]
    exact hr
theorem cO {nt:Nat} {o:Oper} (h:dS nt o=true):G6 nt o.dst=true:=by
 simp only[dS,Bool.and_eq_true] at h
 exact h.2
theorem oh {nt:Nat} {o:Oper} (h:dS nt o=true):∀y∈o.op.operands.toList,zy nt y=true:=by
 simp only[dS,Bool.and_eq_true,List.all_eq_true] at h
 exact h.1
def yl (good:β→Prop) (P:Program) (φ:di) (h:Heap) (w:World) (κ:Value→Heap→β) (f:FuncId) (args:Array Value):Prop:=
 (callFunc f args).run P w=.ok (.enter f args) w∧
 Calls P f args w fun e w'=>∃φ' v v' h',e=.returned v'∧good (κ v h')∧VR φ' v v'∧HR P φ' h' w'∧Ext φ φ' h h' w w'
def FR (r:Option Nat):Fence:={ Fence.wide with round:=r }
theorem rZ {r:Option Nat} {n:Nat} {f:FuncId} {args:Array Value} {R:Ending→World→Prop}:CallsIn (FR r) n P f args w R↔Calls P f args w R:=callsIn_wide (n:=n)
def OO (good:β→Prop) (P:Program) (φ:di) (h:Heap) (w:World) (κ:Value→Heap→β) (e:Ending) (w':World):Prop:=
 ∃φ' v v' h',e=.returned v'∧good (κ v h')∧VR φ' v v'∧HR P φ' h' w'∧Ext φ φ' h h' w w'
def qo (good:β→Prop) (P:Program) (φ:di) (h:Heap) (w:World) (κ:Value→Heap→β) (r:Result Next):Prop:=
 KP good P φ h w κ r∨(∃f args,r=.ok (.enter f args) w∧Calls P f args w (OO good P φ h w κ))∨
 ∃l f tmps as bd,r=.ok (.round l f tmps as bd) w∧∀r0:Option Nat,RoundIn (FR r0) 0 P l f tmps as bd w (OO good P φ h w κ)
theorem qo.upon {κ:Value→Heap→β} {r:Result Next} (ho:qo good P φ h w κ r) {o:Oper} {a:Act} {next:Act→World→Prop} {Q:Exit→Act→World→Prop} {r0:Option Nat}
  (hn:∀φ' v v' h' w',good (κ v h')→VR φ' v v'→HR P φ' h' w'→Ext φ φ' h h' w w'→next (a.put o.dst v') w'):o.uponIn (FR r0) 0 P a next Q r:=by
 rcases ho with ⟨φ',v,v',h',w',nx,g1,g2,g3,g4,rfl,g6⟩ | ⟨f,args,rfl,hc⟩ | ⟨l,f,tmps,as,bd,rfl,hc⟩
 ·rcases g6 with rfl | ⟨rfl,rfl⟩
  ·exact hn φ' v v' h' w' g1 g2 g3 g4
  ·exact hn φ' v undef h' w' g1 g2 g3 g4
 ·refine ⟨fun hh=>(by cases hh),rZ.2 (Calls.mono hc ?_)⟩
  rintro e w' ⟨φ',v,v',h',rfl,g1,g2,g3,g4⟩
  exact hn φ' v v' h' w' g1 g2 g3 g4
 ·refine ⟨fun hh=>(by cases hh),(hc r0).mono ?_⟩
  rintro e w' ⟨φ',v,v',h',rfl,g1,g2,g3,g4⟩
  exact hn φ' v v' h' w' g1 g2 g3 g4
theorem jb {r0:Option Nat} {o:Oper} {ρ:Operand→Value}:∀f,o.about P w ρ=some f→(FR r0).fn f:=fun _ _=>trivial
def zT (tmps:Array Value):ResultVar→Sem Value
 | .tmp t=>pure (tmps.getD t undef)
 | .cell c t=>do loadVar t (←asAddr (tmps.getD c undef))
theorem gK {t:TypeId} {ad:Addr}:(Instr.loadAt t (.pointer (some ad))).run P w=(loadVar t ad).run P w:=by
 simp[Instr.loadAt,Instr.sureAddr]
theorem oW {tmps:Array Value} {fn:Func} {vs:List Value} (hm:(fn.results.toList.mapM (zT tmps)).run P w=.ok vs w) :
  (results fn tmps).run P w=.ok (match vs with | [v]=>v | vs=>.tuple ⟨vs⟩) w:=by
 have he:results fn tmps=(do let vs ←fn.results.mapM (zT tmps); pure (if h:vs.size=1 then vs[0] else .tuple vs)):=by
  unfold results
  congr 1
 rw[he,Array.mapM_eq_mapM_toList]
 match vs,hm with
 | [],hm=>simp[hm]
 | [v],hm=>simp[hm]
 | v::v2::vs,hm=>simp[hm]
theorem wN (hfl:¬good fl) {a a':Value} {κ:Value→Heap→β} (hg:good (load1 fl a h κ)) (hv:VR φ a a'):∃ad,a'=.pointer (some ad):=by
 unfold load1 at hg
 split at hg<;>try exact absurd hg hfl
 cases hv; exact ⟨_,rfl⟩
theorem Fp (hfl:¬good fl) {s:Nat} {a a':Value} {κ:Value→Heap→β} (hg:good (aF fl s a h κ)) (hv:VR φ a a'):∃ad,a'=.pointer (some ad):=by
 unfold aF at hg
 split at hg<;>try exact absurd hg hfl
 cases hv; exact ⟨_,rfl⟩
theorem mj (hfl:¬good fl) (hr:HR P φ h w) {nt:Nat} {tm:T Value} {a:Act} (ht:TR φ nt tm a):∀(rs:List ResultVar) {κ:List Value→β},rs.all (GJ nt)=true→
  good (c_ fl h tm (rs.map (qR P)) κ)→∃vs vs',good (κ vs)∧F2 (VR φ) vs vs'∧(rs.mapM (zT a.tmps)).run P w=.ok vs' w:=by
 intro rs
 induction rs with
 | nil=>intro κ _ hg; exact ⟨[],[],hg,.nil,by simp⟩
 | cons r rs ih=>
  intro κ hok hg
  simp only[List.all_cons,Bool.and_eq_true] at hok
  have fin:∀{v v':Value},(zT a.tmps r).run P w=.ok v' w→VR φ v v'→good (c_ fl h tm (rs.map (qR P)) fun vs=>κ (v::vs))→
    ∃vs vs',good (κ vs)∧F2 (VR φ) vs vs'∧((r::rs).mapM (zT a.tmps)).run P w=.ok vs' w:=by
   intro v v' h1 h2 h3
   obtain ⟨vs,vs',g1,g2,g3⟩:=ih hok.2 h3
   exact ⟨_,v'::vs',g1,.cons h2 g2,by simp[List.mapM_cons,g3,h1]⟩
  cases r with
  | tmp t=>
   simp only[List.map_cons,qR,c_,eY] at hg
   exact fin (by simp[zT]) (ht.rel t (cN hok.1)) hg
  | cell c t=>
   have hc:=ht.rel c (cN hok.1)
   simp only[List.map_cons,qR] at hg
   cases hx:kr P t with
   | none=>simp only[hx,c_] at hg; exact absurd hg hfl
   | some b=>
    cases hs:dY P t with
    | none=>cases b<;>simp only[hx,hs,c_] at hg<;>exact absurd hg hfl
    | some s=>
     cases b with
     | true=>
      simp only[hx,hs,c_,eY] at hg
      obtain ⟨ad,had⟩:=Fp hfl hg hc
      obtain ⟨v,v',g1,g2,g3⟩:=qT hfl hx hs hg hc hr
      rw[had,gK] at g3
      exact fin (by simp only[zT,had]; simpa[asAddr] using g3) g2 g1
     | false=>
      simp only[hx,hs,c_,eY] at hg
      obtain ⟨ad,had⟩:=wN hfl hg hc
      obtain ⟨v,v',g1,g2,g3⟩:=jM hfl hx hg hc hr
      rw[had,gK] at g3
      exact fin (by simp only[zT,had]; simpa[asAddr] using g3) g2 g1
theorem vU {name:String} {f:FuncId} (hm:xT P t name=some f) (v:Value):(method (P.types.size+Made.depth) t v name).run P w=.ok (f,v) w:=by
 unfold xT at hm
 split at hm<;>try contradiction
 rename_i i d hi hd
 split at hm<;>try contradiction
 rename_i m hf
 obtain ⟨n,hn⟩:∃n,P.types.size+Made.depth=n+1:=⟨P.types.size+Made.depth-1,by
  have:0<Made.depth:=by decide
  omega⟩
 rw[hn]
 unfold method
 cases hp:m.path.isEmpty with
 | false=>simp[hp] at hm
 | true=>
  have KN:m.path.toList=[]:=by simpa using hp
  cases hfun:m.func with
  | none=>simp[hp,hfun] at hm
  | some p=>
   obtain ⟨f',b⟩:=p
   have hw:f'=f∧∀wr,(receiverAt t (.val v) b (some wr)).run P w=.ok v w:=by
    cases b with
    | true=>
     cases d<;>simp only[hp,hfun] at hm<;>try contradiction
     cases hm
     exact ⟨rfl,fun wr=>by simp[receiverAt,aD hd,Place.get]⟩
    | false=>
     cases d<;>simp only[hp,hfun] at hm<;>try contradiction
     all_goals (cases hm; exact ⟨rfl,fun wr=>by simp[receiverAt,aD hd,Place.get]⟩)
   obtain ⟨rfl,hw⟩:=hw
   have hpe:m.path=#[]:=by simpa using hp
   simp[typeInfo,hi,hf,hpe,follow,hfun,hw]
theorem vV {name:String} {f:FuncId} {off:Nat} {ty:TypeId} (hm:rT P t name=some (f,off,ty)) {ad:Addr} {v:Value} (hl:(loadVar ty (ad.add off)).run P w=.ok v w) :
  kr P ty=some false∧(method (P.types.size+Made.depth) t (.pointer (some ad)) name).run P w=.ok (f,v) w:=by
 unfold rT at hm
 split at hm<;>try contradiction
 rename_i i hi
 split at hm<;>try contradiction
 rename_i m hf
 split at hm<;>try contradiction
 rename_i s f' hp hfun
 split at hm<;>try contradiction
 rename_i fs hd hs
 split at hm<;>try contradiction
 rename_i qb X6
 split at hm<;>try contradiction
 rename_i e hag hsz Sd
 cases hm
 refine ⟨hag,?_⟩
 obtain ⟨n,hn⟩:∃n,P.types.size+Made.depth=n+1:=⟨P.types.size+Made.depth-1,by
  have:0<Made.depth:=by decide
  omega⟩
 rw[hn]
 unfold method
 simp[typeInfo,hi,hf,hp,hfun,follow,aD hs,X6,hd,Place.get,asAddr,fieldPlace,bW hsz,receiverAt,aD Sd,hl]
theorem vW {name:String} {f:FuncId} {ty:TypeId} (hm:rU P t name=some (f,ty)) {ad:Addr} {v:Value} (hl:(loadVar ty ad).run P w=.ok v w) :
  (method (P.types.size+Made.depth) t (.pointer (some ad)) name).run P w=.ok (f,v) w:=by
 unfold rU at hm
 split at hm<;>try contradiction
 rename_i i e hi hu
 split at hm<;>try contradiction
 rename_i m hf
 split at hm<;>try contradiction
 rename_i f' hp hfun hag
 cases hm
 obtain ⟨n,hn⟩:∃n,P.types.size+Made.depth=n+1:=⟨P.types.size+Made.depth-1,by
  have:0<Made.depth:=by decide
  omega⟩
 rw[hn]
 unfold method
 have hpe:m.path=#[]:=by simpa using hp
 have hw:∀a b:String,(Builtin.ssaWrapNilChk_ #[t] t #[.pointer (some ad),strVal a,strVal b]).run P w=.ok (.pointer (some ad)) w:=fun _ _=>rfl
 simp[typeInfo,hi,hf,hpe,hfun,follow,Place.get,asAddr,receiverAt,aD hu,hw,hl]
end Go.Vai

namespace Go.Vai
open Go
variable {β:Type} {fl:β} {good:β→Prop} {pr:ji β} {P:Program} {φ:di} {h:Heap} {w:World} {t:TypeId}
def G7:Ex→Exit
 | .normal=>.normal
 | .exit i=>.exit i
 | .ret=>.ret
def Marks (N:Nat) (φ:di) (w:World):Nat→List Deferred→Prop
 | _,[]=>True
 | U,d::l=>∃D,d={ target:=.collected D,args:=#[] }∧N≤D∧D<U∧w.heap[D]? = some (.deferred (some []))∧(∀b pl,φ b=some pl→pl.B≠D)∧Marks N φ w D l
theorem Marks.le {N:Nat}:∀{l:List Deferred} {U U':Nat},Marks N φ w U l→U≤U'→Marks N φ w U' l
 | [],_,_,_,_=>trivial
 | _::_,_,_,⟨D,h1,h2,h3,h4,h5,h6⟩,hU=>⟨D,h1,h2,Nat.lt_of_lt_of_le h3 hU,h4,h5,h6⟩
theorem Ext.Nd {φ':di} {h':Heap} {w':World} (hx:Ext φ φ' h h' w w') {D:Nat} (hD:D<w.heap.size) (hn:∀b pl,φ b=some pl→pl.B≠D):∀b pl,φ' b=some pl→pl.B≠D:=by
 intro b pl hb
 cases h0:φ b with
 | some p=>
  have:=hx.sub b p h0
  rw[hb] at this; cases this
  exact hn b pl h0
 | none=>
  rcases (hx.new b pl h0 hb).2 with h1 | ⟨b0,p0,h1,h2⟩
  ·omega
  ·rw[←h2]; exact hn b0 p0 h1
theorem Marks.mono {N:Nat} {φ':di} {h':Heap} {w':World} (hx:Ext φ φ' h h' w w'):∀{l:List Deferred} {U:Nat},U≤w.heap.size→Marks N φ w U l→Marks N φ' w' U l
 | [],_,_,_=>trivial
 | _::_,_,hU,⟨D,h1,h2,h3,h4,h5,h6⟩=>
  ⟨D,h1,h2,h3,by rw[hx.xX D (by omega) h5]; exact h4,hx.Nd (by omega) h5,Marks.mono hx (by omega) h6⟩
theorem Marks.append {N N2 U1:Nat} {l1:List Deferred} (h1:Marks N φ w U1 l1) (hN:N≤N2) (hU:U1≤N2):∀{l2:List Deferred} {U:Nat},U1≤U→Marks N2 φ w U l2→Marks N φ w U (l2++l1)
 | [],_,hle,_=>h1.le hle
 | _::_,_,_,⟨D,e1,e2,e3,e4,e5,e6⟩=>⟨D,e1,Nat.le_trans hN e2,e3,e4,e5,Marks.append h1 hN hU (Nat.le_trans hU e2) e6⟩
def Post (good:β→Prop) (P:Program) (nt:Nat) (φ:di) (h:Heap) (w:World) (ds:List Deferred) (κ:Ex→T Value→Heap→β) (e:Exit) (a':Act) (w':World):Prop:=
 ∃x cq h' φ',e=G7 x∧good (κ x cq h')∧TR φ' nt cq a'∧HR P φ' h' w'∧Ext φ φ' h h' w w'∧∃ms,a'.defers=ms++ds∧Marks w.heap.size φ' w' w'.heap.size ms
def jm (good:β→Prop) (P:Program) (rec:Rec β):Prop:=
 ∀(c:Code) (r:Option Nat) (tm:T Value) (h:Heap) (κ:Ex→T Value→Heap→β) (φ:di) (w:World) (nt:Nat) (a:Act),(r=none∨lW c=true)→codeOk nt c=true→TR φ nt tm a→HR P φ h w→good (rec c tm h κ)→
  c.wpIn (FR r) 0 P (Post good P nt φ h w a.defers κ) a w
structure fc (good:β→Prop) (pr:ji β) (P:Program):Prop where
 both:∀x y,good (pr.both x y)→good x∧good y
 fn:∀f g,pr.fn f=some g→∀(args args':List Value) (h:Heap) (φ:di) (w:World) (κ:Value→Heap→β),F2 (VR φ) args args'→HR P φ h w→good (g args h κ)→yl good P φ h w κ f args'.toArray
theorem HR.aside (hr:HR P φ h w) {D:Nat} (hn:∀b pl,φ b=some pl→pl.B≠D) (o:Obj):HR P φ h (w.putObj D o):=by
 refine ⟨fun b ob pl h1 h2=>?_,fun b pl h1=>?_,hr.keys,hr.KJ,hr.inj,hr.lo⟩
 ·rw[World.putObj_heap_other (hn b pl h2)]; exact hr.obj b ob pl h1 h2
 ·rw[World.putObj_size]; exact hr.dom b pl h1
theorem Ext.aside {φ':di} {h':Heap} {w0:World} (hx:Ext φ φ' h h' w0 w) {D:Nat} (hD:w0.heap.size≤D) (ds:Option (List Deferred)):Ext φ φ' h h' w0 (w.putObj D (.deferred ds)) where
 sub:=hx.sub
 new:=hx.new
 nx:=hx.nx
 size:=by rw[World.putObj_size]; exact hx.size
 xX:=fun B hB hn=>by rw[World.putObj_heap_other (by omega)]; exact hx.xX B hB hn
 Cf:=hx.Cf
 tape:=hx.tape
 os:=hx.os
 output:=hx.output
 fz:=fun B hB=>by
  by_cases he:B=D
  ·subst he
   by_cases hl:B<w.heap.size
   ·rw[World.putObj_heap_same hl]; trivial
   ·have:(w.putObj B (.deferred ds)).heap[B]? = none:=by simp[World.putObj_size]; omega
    rw[this]; trivial
  ·rw[World.putObj_heap_other he]; exact hx.fz B hB
 lo:=hx.lo
 DH:=hx.DH
 DI:=fun x o pl h1 h2 h3 h4 h5=>by rw[World.putObj_heap_other (by omega)]; exact hx.DI x o pl h1 h2 h3 h4 h5
 dr:=hx.dr
theorem mo {fn:Func} {a:Act} {φ':di} {h':Heap} {w0:World} {R:Ending→World→Prop}
  (hend:∀w':World,HR P φ' h' w'→Ext φ φ' h h' w0 w'→∃v,(results fn a.tmps).run P w'=.ok v w'∧R (.returned v) w') :
  ∀(ms:List Deferred) (U:Nat) (w':World),Marks w0.heap.size φ' w' U ms→HR P φ' h' w'→Ext φ φ' h h' w0 w'→LeavesInM (FR none) 0 P fn a.tmps R ms .returning w'
 | [],_,w',_,hr,hx=>hend w' hr hx
 | _::ms,_,w',⟨D,e1,e2,e3,e4,e5,e6⟩,hr,hx=>by
  subst e1
  have hr':=hr.aside e5 (.deferred none)
  have hx':=hx.aside e2 none
  refine ⟨by simp,.inl ⟨D,w'.putObj D (.deferred none),rfl,run_takeDeferred e4,mo hend ms D _ ?_ hr' hx'⟩⟩
  have keep:∀(l:List Deferred) (U:Nat),U≤D→Marks w0.heap.size φ' w' U l→Marks w0.heap.size φ' (w'.putObj D (.deferred none)) U l:=by
   intro l
   induction l with
   | nil=>intro _ _ _; trivial
   | cons d l ih=>
    rintro U hU ⟨D',f1,f2,f3,f4,f5,f6⟩
    exact ⟨D',f1,f2,f3,by rw[World.putObj_heap_other (by omega)]; exact f4,f5,ih D' (by omega) f6⟩
  exact keep ms D (Nat.le_refl _) e6
theorem oZ {f:FuncId} {c:Code} {rs:List vK} {nt:Nat} (hc:sI P f=.mk c rs nt) :
  ∃fn,P.funcs[f]? = some fn∧fn.body=some c∧fn.ntmps=nt∧rs=fn.results.toList.map (qR P)∧codeOk nt c=true∧fn.results.toList.all (GJ nt)=true∧nt≤1000000000000∧
   ∀(args:Array Value) (w:World),(callFunc f args).run P w=.ok (.enter f args) w:=by
 unfold sI at hc
 split at hc<;>try contradiction
 rename_i fn hf
 split at hc<;>try contradiction
 rename_i hn
 split at hc<;>try contradiction
 rename_i c' hb
 split at hc<;>try contradiction
 rename_i hok
 simp only[Bool.and_eq_true] at hok
 cases hc
 refine ⟨fn,hf,hb,rfl,rfl,hok.1.1,hok.1.2,cz hok.2,fun args w=>?_⟩
 have hn' : ¬ fn.name = "runtime.NumGoroutine" := by simpa using hn
 simp[callFunc,hf,hn',hb]
theorem Cw (vs:List Value):∀(tm:T Value) (i:Nat) (κ:T Value→β),xU vs tm i κ=κ (lay vs tm i):=by
 induction vs with
 | nil=>intro tm i κ; rfl
 | cons v vs ih=>
  intro tm i κ
  show T.set tm i v (fun tm=>xU vs tm (Nat.succ i) κ)=_
  rw[T.eT,ih]
  rfl
theorem TR.start {args args':List Value} {nt:Nat} (ha:F2 (VR φ) args args') (hn:nt≤1000000000000) (hle:args.length≤nt) :
  TR φ nt (lay args .nil 0) { tmps:=args'.toArray++Array.replicate (nt-args'.toArray.size) undef,defers:=[] }:=by
 have hlen:=ha.length
 refine ⟨by simp[←hlen]; omega,hn,fun t ht=>?_⟩
 simp only[cT]
 rw[oT args .nil 0 (by omega) t (by unfold Small; omega)]
 simp only[Array.getD_eq_getD_getElem?]
 by_cases hlt:t<args.length
 ·rw[if_pos (by omega)]
  obtain ⟨v,hv⟩:∃v,args[t]? = some v:=⟨args[t],by simp[hlt]⟩
  obtain ⟨v',e1,e2⟩:=ha.get t v hv
  rw[Array.getElem?_append_left (by simp; omega)]
  simpa[hv,e1] using e2
 ·rw[if_neg (by omega),T.get_nil,Array.getElem?_append_right (by simp; omega),Array.getElem?_replicate]
  have hu:((if t-args'.toArray.size<nt-args'.toArray.size then some undef else none:Option Value).getD undef)=undef:=by split<;>rfl
  rw[hu]
  exact VR.undef
theorem F2.toList {a a':Array Value} (h:a.toList.length=a'.toList.length) (hv:∀(i:Nat) (v v':Value),a.toList[i]? = some v→a'.toList[i]? = some v'→VR φ v v'):F2 (VR φ) a.toList a'.toList:=
 F2.k_ h hv
theorem ez (hfl:¬good fl) (hp:fc good pr P) {rec:Rec β} (dU:jm good P rec) {f:FuncId} {args args':List Value} (ha:F2 (VR φ) args args') (hr:HR P φ h w)
  {κ:Value→Heap→β} (hg:good (jK fl pr P rec f args h κ)):yl good P φ h w κ f args'.toArray:=by
 unfold jK at hg
 split at hg
 ·rename_i g hg'
  exact hp.fn f g hg' args args' h φ w κ ha hr hg
 ·split at hg
  ·exact absurd hg hfl
  ·rename_i c rs nt hc
   obtain ⟨fn,hf,hb,rfl,rfl,zh,X7,hnt,sZ⟩:=oZ hc
   split at hg<;>try exact absurd hg hfl
   rename_i hle
   rw[Cw] at hg
   refine ⟨sZ _ _,?_⟩
   have hst:=TR.start (nt:=fn.ntmps) ha hnt (cz hle)
   refine rZ (r:=none) (n:=0) |>.1 (callsIn_of_wp_marks hf hb trivial (wpIn_mono (dU c none _ h _ φ w fn.ntmps _ (.inl rfl) zh hst hr hg) ?_))
   rintro e a' w' ⟨x,cq,h',φ',rfl,g1,g2,g3,g4,ms,g5,g6⟩
   have Km:a'.defers=ms:=by rw[g5]; simp
   have fin:good (c_ fl h' cq (fn.results.toList.map (qR P)) fun vs=>GK κ h' vs)→
     LeavesInM (FR none) 0 P fn a'.tmps (fun e w'=>∃φ' v v' h',e=.returned v'∧good (κ v h')∧VR φ' v v'∧HR P φ' h' w'∧Ext φ φ' h h' w w') a'.defers .returning w':=by
    intro k
    rw[Km]
    refine mo (a:=a') (φ':=φ') (h':=h') ?_ ms _ w' g6 g3 g4
    intro w2 Gz hx2
    obtain ⟨vs,vs',k1,k2,k3⟩:=mj hfl Gz g2 _ X7 k
    refine ⟨_,oW k3,?_⟩
    cases k2 with
    | nil=>exact ⟨φ',_,_,h',rfl,k1,VR.tuple' .nil,Gz,hx2⟩
    | cons hv hvs=>
     cases hvs with
     | nil=>exact ⟨φ',_,_,h',rfl,k1,hv,Gz,hx2⟩
     | cons OA hvs=>exact ⟨φ',_,_,h',rfl,k1,VR.tuple' (.cons hv (.cons OA hvs)),Gz,hx2⟩
   cases x with
   | normal=>exact fin g1
   | exit i=>exact absurd g1 hfl
   | ret=>exact fin g1
theorem qo.call {κ:Value→Heap→β} {f:FuncId} {args:Array Value} (hc:yl good P φ h w κ f args) {s:Sem Next} (hs:s.run P w=(callFunc f args).run P w):qo good P φ h w κ (s.run P w):=
 .inr (.inl ⟨f,args,by rw[hs,hc.1],hc.2⟩)
theorem HR.s7 (hr:HR P φ h w) {b:Nat} {st:LoopState} {cB:Option Ex} {tm:T Value} {ps:List Nat} {x y:Code} {pl:Pl} (hb:h.bl.get b=some (.loop st cB tm ps x y)) (hp:φ b=some pl) :
  ∃r,w.heap[pl.B]? = some (.loop r)∧r.state=st∧wJ cB r.pending∧r.params.toList=ps∧r.assign=x∧r.body=y∧
   ∃nt,zz nt ps x y∧r.tmps.size=nt∧∀t,t<nt→VR φ (cT tm t) (r.tmps.getD t undef):=by
 have:=hr.obj b _ pl hb hp
 cases hO:w.heap[pl.B]? with
 | none=>rw[hO] at this; exact this.elim
 | some O=>
  rw[hO] at this
  cases O<;>simp only[OR] at this<;>try exact this.elim
  exact ⟨_,rfl,this⟩
theorem HR.o5 (hr:HR P φ h w) {b:Nat} (hlo:h.lo≤b) {st st':LoopState} {cB iD:Option Ex} {tm:T Value} {ps:List Nat} {x y:Code} {pl:Pl} (hb:h.bl.get b=some (.loop st cB tm ps x y)) (hp:φ b=some pl)
  {r:Loop} (hO:w.heap[pl.B]? = some (.loop r)) {pd:Option Code} (OP:wJ iD pd) :
  HR P φ ⟨h.nx,h.bl.aW b (.loop st' iD tm ps x y),h.lo⟩ (w.putObj pl.B (.loop { r with state:=st',pending:=pd }))∧
  Ext φ φ h ⟨h.nx,h.bl.aW b (.loop st' iD tm ps x y),h.lo⟩ w (w.putObj pl.B (.loop { r with state:=st',pending:=pd })):=by
 obtain ⟨r',M6,k1,k2,k3,k4,k5,k6⟩:=hr.s7 hb hp
 rw[hO] at M6; cases M6
 refine hr.zJ hlo hp ⟨_,hb,trivial⟩ (by simp) (fun k hk=>World.putObj_heap_other hk) ?_ rfl rfl rfl (.inl trivial)
 rw[World.putObj_heap_same (hr.dom b pl hp).2]
 exact ⟨rfl,OP,k3,k4,k5,k6⟩
theorem G8:∀(ps:List Nat) (vs:List Value) (tm:T Value) (κ:T Value→β),∃cq,sJ ps vs tm κ=κ cq∧
  ∀{φ:di} {nt:Nat} {vs':List Value} {tmps:Array Value},F2 (VR φ) vs vs'→ps.length=vs.length→ps.all (fun t=>Nat.ble (Nat.succ t) nt)=true→nt≤1000000000000→tmps.size=nt→(∀t,t<nt→VR φ (cT tm t) (tmps.getD t undef))→
   ((ps.zip vs').foldl (fun t (x:Nat × Value)=>t.setIfInBounds x.1 x.2) tmps).size=nt∧∀t,t<nt→VR φ (cT cq t) (((ps.zip vs').foldl (fun t (x:Nat × Value)=>t.setIfInBounds x.1 x.2) tmps).getD t undef):=by
 intro ps
 induction ps with
 | nil=>intro vs tm κ; exact ⟨tm,by cases vs<;>rfl,fun _ _ _ _ h2 h3=>⟨by simpa using h2,by simpa using h3⟩⟩
 | cons p ps ih=>
  intro vs tm κ
  cases vs with
  | nil=>exact ⟨tm,rfl,fun _ h1 _ _ _ _=>by simp at h1⟩
  | cons v vs=>
   obtain ⟨cq,e1,e2⟩:=ih vs (tm.aW p v) κ
   refine ⟨cq,by show T.set tm p v (fun tm=>sJ ps vs tm κ)=_; rw[T.eT]; exact e1,?_⟩
   intro φ nt vs' tmps hv hl hps hnt hsz X8
   cases hv with
   | cons hv hvs=>
    simp only[List.all_cons,Bool.and_eq_true] at hps
    have hp:p<nt:=cN hps.1
    simp only[List.zip_cons_cons,List.foldl_cons]
    refine e2 hvs (by simpa using hl) hps.2 hnt (by simpa using hsz) ?_
    intro t ht
    simp only[cT]
    rw[T.jL tm v (mX hnt hp) (mX hnt ht)]
    have:=X8 t ht
    simp only[Array.getD_eq_getD_getElem?] at this ⊢
    by_cases he:p=t
    ·subst he
     rw[if_pos rfl,Array.getElem?_setIfInBounds_self_of_lt (by omega)]
     exact hv
    ·rw[if_neg he,Array.getElem?_setIfInBounds_ne he]
     exact this
theorem wJ.jump {e:Ex}:∀{c:Option Code},wJ (some e) c→(e=.ret∧c=some .ret)∨∃i,e=.exit i∧c=some (.exit i):=by
 intro c hp
 cases e<;>cases c<;>try exact hp.elim
 all_goals (rename_i c; cases c<;>try exact hp.elim)
 ·exact .inr ⟨_,rfl,by have:_=_:=hp; rw[this]⟩
 ·exact .inl ⟨rfl,rfl⟩
theorem ym (hfl:¬good fl) {rec:Rec β} (dU:jm good P rec) {l:Nat} {pl:Pl} (hp:φ l=some pl) {args args':List Value} (ha:F2 (VR φ) args args') (hr:HR P φ h w)
  {κ:Value→Heap→β} (hg:good (qd fl rec l args h κ)):qo good P φ h w κ ((Instr.yield pl.B args'.toArray).run P w):=by
 unfold qd at hg
 split at hg<;>try exact absurd hg hfl
 rename_i st cB iY ps x y hb
 split at hg<;>try exact absurd hg hfl
 rename_i hlen; have hlen:=cu hlen
 obtain ⟨r,hO,k1,k2,k3,k4,k5,nt,k6,k7,k8⟩:=hr.s7 hb hp
 obtain ⟨S9,e1,e2⟩:=G8 ps args iY (fun tm=>rec x tm h (gq fl rec l y κ))
 rw[e1] at hg
 have hal:=ha.length
 have hps:r.params.size=ps.length:=by rw[←k3]; simp
 have hy:=run_yield (P:=P) (args:=args'.toArray) hO (by simp; omega)
 refine .inr (.inr ⟨pl.B,r.fn,_,r.assign,r.body,hy,fun r0=>?_⟩)
 have S_:(r.params.zip args'.toArray).foldl (fun tmps (x:Nat × Value)=>tmps.setIfInBounds x.1 x.2) r.tmps=(ps.zip args').foldl (fun t (x:Nat × Value)=>t.setIfInBounds x.1 x.2) r.tmps:=by
  rw[←Array.foldl_toList,Array.toList_zip,k3]
 obtain ⟨f1,f2⟩:=e2 ha (by omega) k6.ps k6.small k7 k8
 rw[k4,k5]
 have hst:TR φ nt S9 { tmps:=(r.params.zip args'.toArray).foldl (fun tmps (x:Nat × Value)=>tmps.setIfInBounds x.1 x.2) r.tmps,defers:=[] }:=by
  rw[S_]; exact ⟨f1,k6.small,f2⟩
 have OQ:RoundIn (FR r0) 0 P pl.B r.fn ((r.params.zip args'.toArray).foldl (fun tmps (x:Nat × Value)=>tmps.setIfInBounds x.1 x.2) r.tmps) x y w (OO good P φ h w κ):=by
  refine roundIn_of_wpIn (F:=FR r0) trivial ?_
  refine wpIn_mono (dU x (some pl.B) S9 h _ φ w nt _ (.inr k6.ra) k6.ca hst hr hg) ?_
  rintro e a1 w1 ⟨x1,Se,h1,φ1,rfl,g1,g2,g3,g4,ms,g5,g6⟩
  unfold gq at g1
  split at g1<;>try exact absurd g1 hfl
  split at g1<;>try exact absurd g1 hfl
  rename_i Ta ado ps1 x2 y2 Kn
  obtain ⟨hlo,g1⟩:=br hfl g1
  have hp1:=g4.sub l pl hp
  obtain ⟨r1,WY,q1,q2,q3,q4,q5,q6⟩:=g3.s7 Kn hp1
  obtain ⟨m1,m2⟩:=g3.o5 (st':=.busy) (iD:=Ta) hlo Kn hp1 WY (pd:=r1.pending) q2
  refine ⟨_,run_beginRound WY q1,?_⟩
  refine wpIn_mono (dU y (some pl.B) Se _ _ φ1 _ nt a1 (.inr k6.rb) k6.cb g2 m1 g1) ?_
  rintro e a2 w2 ⟨x3,tm3,h3,φ3,rfl,j1,j2,j3,j4,ms2,j5,j6⟩
  unfold kz at j1
  split at j1<;>try exact absurd j1 hfl
  rename_i st3 abD adp ps3 x4 y4 OS
  have G9:=j4.sub l pl hp1
  obtain ⟨r3,Sf,_⟩:=j3.s7 OS G9
  have hall:=g4.trans (m2.trans j4)
  cases x3 with
  | normal=>
   obtain ⟨G_,j1⟩:=br hfl j1
   obtain ⟨n1,n2⟩:=j3.o5 (st':=.ready) (iD:=none) G_ OS G9 Sf (pd:=none) trivial
   exact ⟨_,_,run_endRound none Sf,φ3,_,_,_,rfl,j1,.bool true,n1,hall.trans n2⟩
  | exit i=>
   obtain ⟨G_,j1⟩:=br hfl j1
   obtain ⟨n1,n2⟩:=j3.o5 (st':=.done) (iD:=some (.exit i)) G_ OS G9 Sf (pd:=some (.exit i)) rfl
   exact ⟨_,_,run_endRound (some (.exit i)) Sf,φ3,_,_,_,rfl,j1,.bool false,n1,hall.trans n2⟩
  | ret=>
   obtain ⟨G_,j1⟩:=br hfl j1
   obtain ⟨n1,n2⟩:=j3.o5 (st':=.done) (iD:=some .ret) G_ OS G9 Sf (pd:=some .ret) trivial
   exact ⟨_,_,run_endRound (some .ret) Sf,φ3,_,_,_,rfl,j1,.bool false,n1,hall.trans n2⟩
 exact OQ
theorem s8 (hfl:¬good fl) (hp:fc good pr P) {rec:Rec β} (dU:jm good P rec) {c:Call} {tm:T Value} {a:Act} (hop:∀y∈c.operands.toList,VR φ (dV tm y) (a.eval y))
  (hr:HR P φ h w) {κ:Value→Heap→β} (hg:good (kE fl pr P c rec tm h κ)) {o:Oper} (ho:o.op=.call c):qo good P φ h w κ ((execOp a.eval o).run P w):=by
 obtain ⟨callee,args,ts⟩:=c
 have hargs:F2 (VR φ) (args.toList.map (dV tm)) (args.toList.map a.eval):=F2.map _ fun y hy=>hop y (by simp[Call.operands] at hy ⊢; exact .inr hy)
 cases callee with
 | builtin b=>exact absurd hg hfl
 | value x=>
  have gen:good (KE tm args.toList fun args=>ev tm x fun fv=>wE fl pr P rec fv args h κ)→qo good P φ h w κ ((execOp a.eval o).run P w):=by
   intro hg
   rw[n_,eY] at hg
   have ql:VR φ (dV tm x) (a.eval x):=hop x (by simp[Call.operands])
   unfold wE at hg
   split at hg<;>try exact absurd hg hfl
   rotate_left
   ·rename_i l first cap hv
    split at hg<;>try exact absurd hg hfl
    rw[hv] at ql
    generalize hz:a.eval x=z at ql
    cases ql with
    | yield hp=>
     have:=ym hfl dU hp hargs hr hg
     have he:(args.toList.map a.eval).toArray=args.map a.eval:=by apply Array.ext'; simp
     rw[he] at this
     simpa[execOp,ho,resolve,hz,Deferred.ofValue,invoke] using this
   rename_i f first cap hv
   rw[hv] at ql
   generalize hz:a.eval x=z at ql
   cases ql with
   | func fn a1 Sg b1 Sh ha hb rH Cl=>
    have hall:=((F2.toList ha rH).append hargs).append (F2.toList hb Cl)
    refine qo.call (ez hfl hp dU hall hr hg) ?_
    have he:(Sg.toList++args.toList.map a.eval++Sh.toList).toArray=Sg++args.map a.eval++Sh:=by apply Array.ext'; simp
    rw[he]
    simp[execOp,ho,resolve,hz,Deferred.ofValue,invoke]
  cases x with
  | func f=>
   simp only[kE,n_] at hg
   refine qo.call (ez hfl hp dU hargs hr hg) ?_
   have he:(args.toList.map a.eval).toArray=args.map a.eval:=by apply Array.ext'; simp
   rw[he]
   simp[execOp,ho,resolve,Act.eval,Deferred.ofValue,invoke]
  | tmp t=>exact gen hg
  | const v=>exact gen hg
  | global g=>exact gen hg
 | invoke r name=>
  simp only[kE,n_,eY] at hg
  have X9:VR φ (dV tm r) (a.eval r):=hop r (by simp[Call.operands])
  unfold GL at hg
  split at hg<;>try exact absurd hg hfl
  rename_i t v hv
  have e0:∀(v':Value),a.eval r=.iface t v'→(execOp a.eval o).run P w=(callMethod (.iface t v') name (args.map a.eval)).run P w:=by
   intro v' hz
   have hx:(#[Value.iface t v']++args.map a.eval).extract 1 (#[Value.iface t v']++args.map a.eval).size=args.map a.eval:=by
    apply Array.ext'; simp; exact List.take_of_length_le (by simp)
   rw[←hx]
   have h0:(#[Value.iface t v']++args.map a.eval)[0]? = some (.iface t v'):=by
    rw[Array.getElem?_append_left (by simp)]; rfl
   simp[execOp,ho,resolve,hz,invoke,h0]
  have he:∀v':Value,(v'::args.toList.map a.eval).toArray=#[v']++args.map a.eval:=fun v'=>by apply Array.ext'; simp
  rw[hv] at X9
  generalize hz:a.eval r=z at X9
  cases X9 with
  | iface _ W2=>
   rename_i v'
   split at hg
   ·rename_i f hm
    refine qo.call (ez hfl hp dU (F2.cons W2 hargs) hr hg) ?_
    have:=vU (P:=P) (w:=w) hm v'
    rw[e0 v' hz,he]
    simp only[callMethod]
    simp
    rw[this]
    simp
   ·split at hg
    rotate_left
    ·split at hg<;>try exact absurd hg hfl
     rename_i f ty hm
     have hag:kr P ty=some false:=by
      unfold rU at hm
      split at hm<;>try contradiction
      split at hm<;>try contradiction
      split at hm<;>try contradiction
      rename_i hag
      cases hm
      exact hag
     obtain ⟨ad,rfl⟩:=wN hfl hg W2
     obtain ⟨v2,v2',g1,g2,g3⟩:=jM hfl hag hg W2 hr
     rw[gK] at g3
     have Si:=vW (P:=P) (w:=w) (ad:=ad) hm g3
     refine qo.call (ez hfl hp dU (F2.cons g2 hargs) hr g1) ?_
     rw[e0 _ hz,he]
     simp only[callMethod]
     simp
     rw[Si]
     simp
    rename_i f off ty hm
    unfold fieldAddrB at hg
    split at hg<;>try exact absurd hg hfl
    rename_i b ob
    rw[bG] at hg
    cases W2 with
    | ptr hpp=>
     rename_i pl
     have hag:kr P ty=some false:=by
      unfold rT at hm
      split at hm<;>try contradiction
      split at hm<;>try contradiction
      split at hm<;>try contradiction
      split at hm<;>try contradiction
      split at hm<;>try contradiction
      split at hm<;>try contradiction
      rename_i hag _ _
      cases hm
      exact hag
     obtain ⟨v2,v2',g1,g2,g3⟩:=jM hfl hag hg (VR.ptr hpp) hr
     rw[gK,show (⟨pl.B,ob.add off,none⟩:Addr)=(⟨pl.B,ob,none⟩:Addr).add off from (by simp[Addr.add])] at g3
     have Si:=(vV (P:=P) (w:=w) (ad:=⟨pl.B,ob,none⟩) hm g3).2
     refine qo.call (ez hfl hp dU (F2.cons g2 hargs) hr g1) ?_
     rw[e0 _ hz,he]
     simp only[callMethod]
     simp
     rw[Si]
     simp
end Go.Vai

namespace Go.Vai
open Go
variable {β:Type} {fl:β} {good:β→Prop} {pr:ji β} {P:Program} {φ:di} {h:Heap} {w:World} {t:TypeId}
theorem zU (hfl:¬good fl) (hp:fc good pr P) {rec:Rec β} (dU:jm good P rec) {op:Op} {tm:T Value} {a:Act} (hρ:∀y∈op.operands.toList,VR φ (dV tm y) (a.eval y))
  (hr:HR P φ h w) {κ:Value→Heap→β} (hg:good (lX fl pr P op rec tm h κ)) {o:Oper} (ho:o.op=op):qo good P φ h w κ ((execOp a.eval o).run P w):=by
 unfold lX at hg
 cases hR:lM fl P op with
 | some i=>
  rw[hR] at hg
  obtain ⟨v,v',g1,g2,g3⟩:=qW hfl hR hρ hr hg ho
  exact .inl ⟨φ,v,v',h,w,.value v',g1,g2,hr,Ext.refl _ _ _,g3,.inl rfl⟩
 | none=>
  cases hA:nN fl P op with
  | some i=>
   simp only[hR,hA] at hg
   obtain ⟨ob,mk,O,g1,g2,g3,g4,g5⟩:=qY (P:=P) (w:=w) (good:=good) hfl hA hρ hg ho
   obtain ⟨k1,k2⟩:=dm hfl g1
   obtain ⟨m1,m2⟩:=hr.fresh k1 0 0 (g3 _) g2
   exact .inl ⟨_,_,_,_,_,.value _,k2,g4 _ _ _ (fC _ _ _),m1,m2,g5,.inl rfl⟩
  | none=>
   cases hW:wD fl P op with
   | some i=>
    simp only[hR,hA,hW] at hg
    exact .inl (zS hfl hW hρ hr hg ho)
   | none=>
    simp only[hR,hA,hW] at hg
    cases op with
    | call c=>exact s8 hfl hp dU hρ hr hg ho
    | next it s=>
     cases s with
     | true=>exact absurd hg hfl
     | false=>
      simp only[eY] at hg
      obtain ⟨v,v',h',w',g1,g2,g3,g4,g5⟩:=zM (ty:=o.type) hfl hp.both hr hg (hρ it (by simp[Op.operands]))
      exact .inl ⟨φ,v,v',h',w',.value v',g1,g2,g3,g4,by simp only[execOp,ho]; exact gW g5,.inl rfl⟩
    | _=>exact absurd hg hfl
theorem zV (hfl:¬good fl) {rec:Rec β} {op:Op} {tm:T Value} {κ:Value→Heap→β} (hg:good (lX fl pr P op rec tm h κ)):∀c,op≠.defer c:=by
 rintro c rfl
 exact hfl hg
theorem zW (hfl:¬good fl) (hp:fc good pr P) {rec:Rec β} (dU:jm good P rec) {o:Oper} {tm:T Value} {a:Act} (hρ:∀y∈o.op.operands.toList,VR φ (dV tm y) (a.eval y))
  (hr:HR P φ h w) {κ:Value→Heap→β} (hg:good (lX fl pr P o.op rec tm h κ)) {next:Act→World→Prop} {Q:Exit→Act→World→Prop} {r0:Option Nat}
  (hn:∀φ' v v' h' w',good (κ v h')→VR φ' v v'→HR P φ' h' w'→Ext φ φ' h h' w w'→next (a.put o.dst v') w'):o.wpIn (FR r0) 0 P a w next Q:=by
 refine ⟨jb,?_⟩
 rw[Oper.semAt_eq _ _ _ (zV hfl hg)]
 exact (zU hfl hp dU hρ hr hg rfl).upon hn
theorem wO {ops:Array Oper} {o:Oper} {g:Option (Nat × Bool)} (hg:guardOf ops.toList o=some g) {tm:T Value} {a:Act}
  (ht:∀s w,g=some (s,w)→s∈cg ops.toList o→s<a.tmps.size∧VR φ (cT tm s) (a.tmps.getD s undef)) :
  Region.wanted o (yielded ops a.tmps)=gr tm g:=by
 unfold guardOf at hg
 unfold Region.wanted
 split at hg
 ·rename_i Sj
  cases hg
  rw[Sj]
  rfl
 ·rename_i j w Sj
  rw[Sj]
  split at hg<;>try contradiction
  rename_i d _ _ _ _ _ hq
  cases hg
  have hlk:d∈cg ops.toList o:=by
   simp[cg,Sj,Array.getElem?_toList] at hq ⊢
   rw[hq]; simp
  obtain ⟨hlt,hr⟩:=ht d w rfl hlk
  rw[Array.getElem?_toList] at hq
  have DM:=hq
  obtain ⟨v',rV⟩:∃v',a.tmps[d]? = some v':=⟨_,getElem?_pos a.tmps d hlt⟩
  rw[Array.getD_eq_getD_getElem?,rV,Option.getD_some] at hr
  simp only[yielded,DM,Option.bind_some,rV,gr]
  generalize cT tm d=v at hr
  cases hr<;>cases w<;>first | rfl | (rename_i b; cases b<;>rfl)
theorem jo {ops:Array Oper} {nt:Nat} (hok:∀q∈ops.toList,dS nt q=true) {o:Oper} (ho:o∈ops.toList) {s:Nat} (hs:s∈cg ops.toList o):s<nt:=by
 simp only[cg,List.mem_append,List.mem_filterMap] at hs
 rcases hs with ⟨y,hy,hys⟩ | hs
 ·have:=oh (hok o ho) y hy
  cases y<;>simp at hys
  subst hys
  exact cN this
 ·split at hs
  ·rename_i g w hg
   cases hq:ops.toList[g]? with
   | none=>rw[hq] at hs; simp at hs
   | some q=>
    rw[hq] at hs
    simp at hs
    have:=cO (hok q (List.mem_of_getElem? hq))
    rw[hs] at this
    exact cN this
  ·cases hs
theorem o7 (hfl:¬good fl) (hp:fc good pr P) {rec:Rec β} (dU:jm good P rec) {ops:Array Oper} {nt:Nat} (hok:∀q∈ops.toList,dS nt q=true) {κ:T Value→Heap→β}
  {r0:Option Nat} {Q:Exit→Act→World→Prop} {ds:List Deferred} {φ0:di} {h0:Heap} {w0:World} {iY:T Value}
  (hQ:∀cq h' φ' a' w',good (κ cq h')→TR φ' nt cq a'→HR P φ' h' w'→Ext φ0 φ' h0 h' w0 w'→a'.defers=ds→(∀t,t<nt→(∀(i:Nat) (o:Oper),ops[i]? = some o→o.dst≠some t)→cT cq t=cT iY t)→Q .normal a' w') :
  ∀(os:List Oper) (i:Nat) (φ:di) (tm:T Value) (h:Heap) (a:Act) (w:World),(∀k,os[k]? = ops[i+k]?)→TR φ nt tm a→HR P φ h w→Ext φ0 φ h0 h w0 w→a.defers=ds→(∀t,t<nt→(∀(i:Nat) (o:Oper),ops[i]? = some o→o.dst≠some t)→cT tm t=cT iY t)→
   good (kZ fl pr P rec ops.toList os tm h κ)→wpOpsIn (FR r0) 0 P ops Q (List.range' i os.length) a w:=by
 intro os
 induction os with
 | nil=>
  intro i φ tm h a w _ ht hr hx hd hkp hg
  exact hQ tm h φ a w hg ht hr hx hd hkp
 | cons o os ih=>
  intro i φ tm h a w hos ht hr hx hd hkp hg
  have ho:ops[i]? = some o:=by have:=hos 0; simpa using this.symm
  have Tb:∀k,os[k]? = ops[i+1+k]?:=fun k=>by have:=hos (k+1); rw[show i+1+k=i+(k+1) by omega]; simpa using this
  have hmem:o∈ops.toList:=by
   have:ops.toList[i]? = some o:=by simpa using ho
   exact List.mem_of_getElem? this
  have W3:=hok o hmem
  show wpOpsIn (FR r0) 0 P ops Q (i::List.range' (i+1) os.length) a w
  simp only[wpOpsIn,ho]
  have hg':good (XO.rec (motive:=fun _=>β)
   (fun g d f=>Bool.rec (motive:=fun _=>β) (lQ tm d undef h fun tm h=>kZ fl pr P rec ops.toList os tm h κ)
    (f rec tm h fun v h=>lQ tm d v h fun tm h=>kZ fl pr P rec ops.toList os tm h κ) (gr tm g))
   (wF fl pr P ops.toList o)):=hg
  have put_defers:∀(d:Option Tmp) (v:Value),(a.put d v).defers=ds:=fun d v=>by cases d<;>exact hd
  have kp:∀(v:Value) (t:Nat),t<nt→(∀(i:Nat) (o:Oper),ops[i]? = some o→o.dst≠some t)→cT (gQ tm o.dst v) t=cT iY t:=fun v t hlt hno=>by
   rw[e_ ht.small (cO W3) hlt,if_neg (hno i o ho)]; exact hkp t hlt hno
  cases GC:guardOf ops.toList o with
  | none=>
   simp only[wF,GC] at hg'
   exact absurd hg' hfl
  | some g=>
   simp only[wF,GC] at hg'
   rw[wO (φ:=φ) (tm:=tm) GC fun s w _ hs=>⟨by rw[ht.size]; exact jo hok hmem hs,ht.rel s (jo hok hmem hs)⟩]
   cases hw:gr tm g with
   | false=>
    rw[hw] at hg'
    simp only[eZ] at hg'
    rw[if_neg (by simp)]
    refine ⟨jb,?_⟩
    exact ih (i+1) φ _ h _ w Tb (ht.put (cO W3) VR.undef) hr hx (put_defers _ _) (kp _) hg'
   | true=>
    rw[hw] at hg'
    simp only[eZ] at hg'
    rw[if_pos rfl]
    refine zW hfl hp dU (fun y hy=>ht.eval (oh W3 y hy)) hr hg' ?_
    intro φ' v v' h' w' g1 g2 g3 g4
    exact ih (i+1) φ' _ h' _ w' Tb ((ht.mono g4.sub).put (cO W3) g2) g3 (hx.trans g4) (put_defers _ _) (kp _) g1
def Cx (good:β→Prop) (fl:β) (pr:ji β) (P:Program):Prop:=
 ∀(rec:Rec β),jm good P rec→∀(ops:Array Oper) (id nt:Nat),(∀q∈ops.toList,dS nt q=true)→∀(φ:di) (tm:T Value) (h:Heap) (a:Act) (w:World) (κ:T Value→Heap→β),TR φ nt tm a→HR P φ h w→
  good (i_ fl pr P rec ops.toList true tm h κ)→∀(r0:Option Nat) (Q:Exit→Act→World→Prop),
   (∀cq h' φ' a' w',good (κ cq h')→TR φ' nt cq a'→HR P φ' h' w'→Ext φ φ' h h' w w'→a'.defers=a.defers→(∀t,t<nt→(∀(i:Nat) (o:Oper),ops[i]? = some o→o.dst≠some t)→cT cq t=cT tm t)→Q .normal a' w')→(Code.region id ops true).wpIn (FR r0) 0 P Q a w
def iP (r:Option Nat) (P:Program) (c:Code) (Q:Exit→Act→World→Prop) (a:Act) (w:World):Prop:=
 ∀(b:Frame) (k:List Item) (cs:List Frame),b.roundOf=r→(FR r).room (cs.length+1+0)→
  ∃e a' w',Q e a' w'∧ArrivesIn (Machine.fenced P (FR r)) P (lone (b.atR a (.code c::.inLoop c::k)) cs w) b k cs e a' w'
variable {ro:Option Nat}
theorem iP.wp {c:Code} {Q:Exit→Act→World→Prop} {a:Act} {w:World} (h:iP ro P c Q a w):(Code.loop c).wpIn (FR ro) 0 P Q a w:=
 fun b k cs hro hb hr=>let ⟨e,a',w',q,r⟩:=h b k cs hro hr; ⟨e,a',w',q,.of_steps (.one (fenced_calm hb hr rfl) stepR_loop) r⟩
theorem iP.mono {c:Code} {Q Q':Exit→Act→World→Prop} {a:Act} {w:World} (h:iP ro P c Q a w) (hq:∀e a w,Q e a w→Q' e a w):iP ro P c Q' a w:=
 fun b k cs hro hr=>let ⟨e,a',w',q,r⟩:=h b k cs hro hr; ⟨e,a',w',hq _ _ _ q,r⟩
theorem iP.round {c:Code} {Q:Exit→Act→World→Prop} {a:Act} {w:World} (h:c.wpIn (FR ro) 0 P (Exit.then (iP ro P c Q) Q) a w):iP ro P c Q a w:=by
 intro b k cs hro hr
 have hb:(FR ro).fn b.fn:=trivial
 obtain ⟨e,a₁,w₁,hq,nG⟩:=h b (.inLoop c::k) cs hro hb hr
 cases e with
 | normal=>
  obtain ⟨e₂,a₂,w₂,hq₂,Tc⟩:=hq b k cs hro hr
  exact ⟨e₂,a₂,w₂,hq₂,.of_steps (StepsIn.trans nG (.one (fenced_calm hb hr rfl) stepR_inLoop)) Tc⟩
 | exit id=>exact ⟨_,a₁,w₁,hq,.pass (x:=.inLoop c) rfl (fun _ _=>.inl (by simp)) nG⟩
 | goto l=>exact ⟨_,a₁,w₁,hq,.pass (x:=.inLoop c) rfl (fun _ _=>.inl (by simp)) nG⟩
 | ret=>exact ⟨_,a₁,w₁,hq,.pass (x:=.inLoop c) rfl (fun _ _=>.inl (by simp)) nG⟩
 | panic ch=>exact ⟨_,a₁,w₁,hq,.pass (x:=.inLoop c) rfl (fun _ _=>.inl (by simp)) nG⟩
 | outgrown=>exact ⟨_,a₁,w₁,hq,.pass (x:=.inLoop c) rfl (fun _ _=>.inl (by simp)) nG⟩
theorem Post.after {nt:Nat} {φ1:di} {h1:Heap} {w1:World} {a1:Act} {ds ms:List Deferred} {κ:Ex→T Value→Heap→β} {e:Exit} {a2:Act} {w2:World} (hx:Ext φ φ1 h h1 w w1) (hd:a1.defers=ms++ds)
  (hm:Marks w.heap.size φ1 w1 w1.heap.size ms) (hp:Post good P nt φ1 h1 w1 a1.defers κ e a2 w2):Post good P nt φ h w ds κ e a2 w2:=by
 obtain ⟨x,tm,h2,φ2,rfl,k1,k2,k3,k4,ms2,k5,k6⟩:=hp
 refine ⟨x,tm,h2,φ2,rfl,k1,k2,k3,hx.trans k4,ms2++ms,by rw[k5,hd,List.append_assoc],?_⟩
 exact (hm.mono k4 (Nat.le_refl _)).append hx.size (Nat.le_refl _) k4.size k6
theorem Post.here {nt:Nat} {tm:T Value} {a:Act} {κ:Ex→T Value→Heap→β} {x:Ex} (ht:TR φ nt tm a) (hr:HR P φ h w) (hg:good (κ x tm h)):Post good P nt φ h w a.defers κ (G7 x) a w:=
 ⟨x,tm,h,φ,rfl,hg,ht,hr,Ext.refl _ _ _,[],rfl,trivial⟩
def mY (good:β→Prop) (P:Program) (rec:Rec β):Prop:=
 ∀(c:Code) (r:Option Nat) (tm:T Value) (h:Heap) (κ:Ex→T Value→Heap→β) (φ:di) (w:World) (nt:Nat) (a:Act),(r=none∨lW c=true)→codeOk nt c=true→TR φ nt tm a→HR P φ h w→good (rec (.loop c) tm h κ)→
  iP r P c (Post good P nt φ h w a.defers κ) a w
theorem mq {rec:Rec β} (dU:jm good P rec) (He:mY good P rec):mY good P (body fl pr P rec):=by
 intro c r tm h κ φ w nt a hn hc ht hr hg
 have hg':good (rec c tm h (vM rec (.loop c) κ)):=hg
 refine iP.round (wpIn_mono (dU c r tm h _ φ w nt a hn hc ht hr hg') ?_)
 rintro e a' w' ⟨e0,cq,h',φ',rfl,g1,g2,g3,g4,ms,g5,g6⟩
 cases e0 with
 | normal=>exact (He c r cq h' κ φ' w' nt a' hn hc g2 g3 g1).mono fun e a2 w2 hp=>Post.after g4 g5 g6 hp
 | exit i=>exact ⟨.exit i,cq,h',φ',rfl,g1,g2,g3,g4,ms,g5,g6⟩
 | ret=>exact ⟨.ret,cq,h',φ',rfl,g1,g2,g3,g4,ms,g5,g6⟩
theorem r4 {r:Option Nat} {x y z:Code} (hn:r=none∨lW z=true) (hz:lW z=(lW x && lW y)):(r=none∨lW x=true)∧(r=none∨lW y=true):=by
 rcases hn with hn | hn
 ·exact ⟨.inl hn,.inl hn⟩
 ·rw[hz,Bool.and_eq_true] at hn; exact ⟨.inr hn.1,.inr hn.2⟩
theorem gx {b:Frame} {a:Act} {k:List Item} {cs:List Frame} {w:World} {c:Code} :
  step P (lone (b.atR a (.code (.scope c)::k)) cs w)=.next (lone (b.atR a (.code c::.inScope c::k)) cs w):=
 step_lone_go (by simp[stepG,stepG.exec,Frame.atR])
theorem vX {b:Frame} {a:Act} {k:List Item} {cs:List Frame} {w:World} {c:Code}:step P (lone (b.atR a (.inScope c::k)) cs w)=.next (lone (b.atR a k) cs w):=
 step_lone_go (by simp[stepG,stepG.exec,Frame.atR])
theorem s9 {F:Fence} {n:Nat} {c:Code} {Q:Exit→Act→World→Prop} {a:Act} {w:World} (h:c.wpIn F n P Q a w) (hg:∀l a w,¬Q (.goto l) a w):(Code.scope c).wpIn F n P Q a w:=by
 intro b k cs hro hb hr
 have h0:(lone (b.atR a (.code (.scope c)::k)) cs w).fenced P F:=fenced_calm hb hr rfl
 obtain ⟨e,a₁,w₁,hq,nG⟩:=h b (.inScope c::k) cs hro hb hr
 cases e with
 | normal=>exact ⟨.normal,a₁,w₁,hq,.head h0 gx (StepsIn.trans nG (.one (fenced_calm hb hr rfl) vX))⟩
 | exit id=>
  have hx:exitTo id (.inScope c::k)=exitTo id k:=by simp[exitTo]
  exact ⟨_,a₁,w₁,hq,fun k' hk=>.head h0 gx (nG.1 k' (by rw[hx]; exact hk)),
   fun hr' hk=>let ⟨k₁,h1,h2⟩:=nG.2 hr' (by rw[hx]; exact hk); ⟨k₁,h1,.head h0 gx h2⟩⟩
 | goto l=>exact absurd hq (hg l a₁ w₁)
 | ret=>exact ⟨_,a₁,w₁,hq,.of_steps (.one h0 gx) nG⟩
 | panic ch=>exact ⟨_,a₁,w₁,hq,.of_steps (.one h0 gx) nG⟩
 | outgrown=>exact ⟨_,a₁,w₁,hq,.of_steps (.one h0 gx) nG⟩
theorem qp (hfl:¬good fl) (hp:fc good pr P) {rec:Rec β} (dU:jm good P rec) {g:Operand} {ps:Array Tmp} {x y:Code} {nt:Nat} {tm:T Value} {a:Act} (hc:codeOk nt (.rangeFunc g ps x y)=true) (ht:TR φ nt tm a) (hr:HR P φ h w)
  {κ:Ex→T Value→Heap→β} (hg:good (ga fl pr P rec ps.toList x y tm h κ (dV tm g))):(Code.rangeFunc g ps x y).wpIn (FR none) 0 P (Post good P nt φ h w a.defers κ) a w:=by
 simp only[codeOk,Bool.and_eq_true] at hc
 obtain ⟨⟨⟨⟨⟨hcg,hcp⟩,hca⟩,hcb⟩,hra⟩,hrb⟩:=hc
 have X_:=ht.eval hcg
 unfold ga at hg
 split at hg<;>try exact absurd hg hfl
 rename_i f first cap hv
 obtain ⟨hn,hg⟩:=dm hfl hg
 rw[hv] at X_
 generalize hz:a.eval g=z at X_
 cases X_ with
 | func fn a1 Sg b1 Sh ha hb rH Cl=>
  refine wpIn_rangeFunc fun fn0 _=>?_
  have hx0:Ext φ φ h h w (w.alloc (.deferred (some []))):=by
   refine ⟨Sub.refl φ,fun b pl e e'=>(by rw[e] at e'; cases e'),Nat.le_refl _,by simp,fun B hB _=>dO hB,fun _ _ _=>rfl,rfl,rfl,rfl,fun B hB=>?_,rfl,fun _ _=>rfl,fun x o pl h1 h2 h3 h4 h5=>dO h5,Nat.le_refl _⟩
   rcases Nat.lt_trichotomy B w.heap.size with hl | hl | hl
   ·rw[dO hl]; exact hB
   ·subst hl; rw[j7]; trivial
   ·have:(w.alloc (.deferred (some []))).heap[B]? = none:=by show (w.heap.push _)[B]? = _; simp; omega
    rw[this]; trivial
  have OT:HR P φ h (w.alloc (.deferred (some []))):=
   ⟨fun b o pl h1 h2=>by rw[dO (hr.dom b pl h2).2]; exact hr.obj b o pl h1 h2,fun b pl h1=>⟨(hr.dom b pl h1).1,by have:=(hr.dom b pl h1).2; simp; omega⟩,hr.keys,hr.KJ,hr.inj,hr.lo⟩
  have OM:OR P φ (.loop .ready none tm ps.toList x y) ⟨(w.alloc (.deferred (some []))).heap.size,0,0⟩ (some (.loop { state:=.ready,pending:=none,fn:=fn0,tmps:=a.tmps,params:=ps,assign:=x,body:=y,defers:=w.heap.size })):=
   ⟨rfl,trivial,rfl,rfl,rfl,nt,⟨ht.small,hcp,hca,hcb,hra,hrb⟩,ht.size,ht.rel⟩
  obtain ⟨Kl,hx1⟩:=OT.fresh hn 0 0 OM trivial
  have Td:=hx0.trans hx1
  have hl:(fL φ h.nx ⟨(w.alloc (.deferred (some []))).heap.size,0,0⟩) h.nx=some ⟨(w.alloc (.deferred (some []))).heap.size,0,0⟩:=fC _ _ _
  have hmk:∀b pl,φ b=some pl→pl.B≠w.heap.size:=fun b pl hb=>by have:=(hr.dom b pl hb).2; omega
  have hD0:(w.alloc (.deferred (some []))).heap[w.heap.size]? = some (.deferred (some [])):=j7
  have hD1:=hx1.xX w.heap.size (by simp) hmk
  have Ya:=hx1.Nd (D:=w.heap.size) (by simp) hmk
  have hargs:=(((F2.toList ha rH).imp fun _ _ r=>r.mono hx1.sub).append (.cons (VR.yield hl) .nil)).append ((F2.toList hb Cl).imp fun _ _ r=>r.mono hx1.sub)
  have sZ:=ez hfl hp dU hargs Kl hg
  have hM1:Marks w.heap.size (fL φ h.nx ⟨(w.alloc (.deferred (some []))).heap.size,0,0⟩) ((w.alloc (.deferred (some []))).alloc (.loop { state:=.ready,pending:=none,fn:=fn0,tmps:=a.tmps,params:=ps,assign:=x,body:=y,defers:=w.heap.size }))
    ((w.alloc (.deferred (some []))).alloc (.loop { state:=.ready,pending:=none,fn:=fn0,tmps:=a.tmps,params:=ps,assign:=x,body:=y,defers:=w.heap.size })).heap.size [{ target:=.collected w.heap.size,args:=#[] }]:=
   ⟨w.heap.size,rfl,Nat.le_refl _,by simp; omega,hD1.trans hD0,Ya,trivial⟩
  have hsz:(w.alloc (.deferred (some []))).heap.size=w.heap.size+1:=by simp
  rw[hsz] at sZ hl hx1 Td hM1
  refine ⟨w.heap.size+1,[{ target:=.collected w.heap.size,args:=#[] }],(w.alloc (.deferred (some []))).alloc (.loop { state:=.ready,pending:=none,fn:=fn0,tmps:=a.tmps,params:=ps,assign:=x,body:=y,defers:=w.heap.size }),
   { target:=.fn (.func f) Sh,args:=Sg++#[.func (.yield (w.heap.size+1)) #[] #[]] },((w.alloc (.deferred (some []))).alloc (.loop { state:=.ready,pending:=none,fn:=fn0,tmps:=a.tmps,params:=ps,assign:=x,body:=y,defers:=w.heap.size })),f,_,((w.alloc (.deferred (some []))).alloc (.loop { state:=.ready,pending:=none,fn:=fn0,tmps:=a.tmps,params:=ps,assign:=x,body:=y,defers:=w.heap.size })),run_enterLoop_outer _ _ _ _ _,?_,fun _ _=>trivial,?_,fun hh=>(by cases hh),rZ.2 (Calls.mono sZ.2 ?_)⟩
  ·have Yb:∀v,a.eval (.const v)=v:=fun _=>rfl
   simp[resolve,hz,Deferred.ofValue,Yb]
  ·have:=sZ.1
   have he:(Sg.toList++[Value.func (.yield (w.heap.size+1)) #[] #[]]++Sh.toList).toArray=Sg++#[.func (.yield (w.heap.size+1)) #[] #[]]++Sh:=by apply Array.ext'; simp
   rw[he] at this ⊢
   simpa[invoke] using this
  ·rintro e w2 ⟨φ2,v,v',h2,rfl,g1,g2,g3,g4⟩
   unfold gV at g1
   split at g1<;>try exact absurd g1 hfl
   rename_i st cB Se ps2 x2 y2 OU
   have hp2:=g4.sub _ _ hl
   obtain ⟨r2,hO2,q1,q2,q3,q4,q5,q6⟩:=g3.s7 OU hp2
   split at g1
   ·exact absurd g1 hfl
   rename_i hst
   obtain ⟨Yc,g1⟩:=br hfl g1
   obtain ⟨n1,n2⟩:=g3.o5 (st':=.exhausted) (iD:=cB) Yc OU hp2 hO2 (pd:=r2.pending) q2
   have hend:=run_endLoop (P:=P) hO2 (by rw[q1]; exact hst)
   have Te:=g4.trans n2
   have hM2:=hM1.mono Te (Nat.le_refl _)
   have s_:=Td.trans Te
   have Yd:TR φ2 nt tm { a with defers:=[{ target:=.collected w.heap.size,args:=#[] }]++a.defers }:=⟨ht.size,ht.small,fun t hlt=>(ht.rel t hlt).mono s_.sub⟩
   have Km:=hM2.le (U':=(w2.putObj (w.heap.size+1) (.loop { r2 with state:=.exhausted,pending:=r2.pending })).heap.size) (by have:=g4.size; simp at this ⊢; omega)
   refine ⟨r2.pending,_,hend,?_⟩
   cases cB with
   | none=>
    have OP:r2.pending=none:=by
     cases hq:r2.pending with
     | none=>rfl
     | some c=>rw[hq] at q2; exact q2.elim
    rw[OP] at n1 s_ Km ⊢
    exact ⟨.normal,tm,_,φ2,rfl,g1,Yd,n1,s_,_,rfl,Km⟩
   | some ex=>
    rcases wJ.jump q2 with ⟨rfl,OP⟩ | ⟨i,rfl,OP⟩
    ·rw[OP] at n1 s_ Km ⊢
     exact wpIn_ret ⟨.ret,tm,_,φ2,rfl,g1,Yd,n1,s_,_,rfl,Km⟩
    ·rw[OP] at n1 s_ Km ⊢
     exact wpIn_exit ⟨.exit i,tm,_,φ2,rfl,g1,Yd,n1,s_,_,rfl,Km⟩
theorem Cy (hfl:¬good fl) (hp:fc good pr P) (Kk:Cx good fl pr P) {rec:Rec β} (dU:jm good P rec) (He:mY good P rec):jm good P (body fl pr P rec):=by
 intro c r tm h κ φ w nt a hn hc ht hr hg
 cases c with
 | skip=>exact wpIn_skip (Post.here (x:=.normal) ht hr hg)
 | label l=>exact wpIn_label (Post.here (x:=.normal) ht hr hg)
 | ret=>exact wpIn_ret (Post.here (x:=.ret) ht hr hg)
 | exit id=>exact wpIn_exit (Post.here (x:=.exit id) ht hr hg)
 | region id os draw=>
  have hok:∀q∈os.toList,dS nt q=true:=by
   simp only[codeOk,List.all_eq_true] at hc; exact hc
  have hQ:∀cq h' φ' a' w',good ((fun tm h=>κ .normal tm h) cq h')→TR φ' nt cq a'→HR P φ' h' w'→Ext φ φ' h h' w w'→a'.defers=a.defers→Post good P nt φ h w a.defers κ .normal a' w':=
   fun cq h' φ' a' w' g1 g2 g3 g4 g5=>⟨.normal,cq,h',φ',rfl,g1,g2,g3,g4,[],g5,trivial⟩
  cases draw with
  | false=>
   refine wpIn_region ?_
   rw[List.range_eq_range']
   have:=o7 (r0:=r) (iY:=tm) hfl hp dU hok (fun cq h' φ' a' w' g1 g2 g3 g4 g5 _=>hQ cq h' φ' a' w' g1 g2 g3 g4 g5) os.toList 0 φ tm h a w (fun k=>by simp) ht hr (Ext.refl _ _ _) rfl (fun _ _ _=>rfl) hg
   simpa using this
  | true=>exact Kk rec dU os id nt hok φ tm h a w _ ht hr hg r _ fun cq h' φ' a' w' g1 g2 g3 g4 g5 _=>hQ cq h' φ' a' w' g1 g2 g3 g4 g5
 | seq x y=>
  simp only[codeOk,Bool.and_eq_true] at hc
  obtain ⟨yc,hn2⟩:=r4 (x:=x) (y:=y) hn rfl
  have hg':good (rec x tm h (vM rec y κ)):=hg
  refine wpIn_seq (wpIn_mono (dU x r tm h _ φ w nt a yc hc.1 ht hr hg') ?_)
  rintro e a' w' ⟨e0,cq,h',φ',rfl,g1,g2,g3,g4,ms,g5,g6⟩
  cases e0 with
  | normal=>exact wpIn_mono (dU y r cq h' κ φ' w' nt a' hn2 hc.2 g2 g3 g1) fun e a2 w2 hp=>Post.after g4 g5 g6 hp
  | exit i=>exact ⟨.exit i,cq,h',φ',rfl,g1,g2,g3,g4,ms,g5,g6⟩
  | ret=>exact ⟨.ret,cq,h',φ',rfl,g1,g2,g3,g4,ms,g5,g6⟩
 | cond x c1 c2=>
  simp only[codeOk,Bool.and_eq_true] at hc
  obtain ⟨yc,hn2⟩:=r4 (x:=c1) (y:=c2) hn rfl
  have hg':good (ev tm x (sK fl rec c1 c2 tm h κ)):=hg
  rw[eY] at hg'
  have hx:=ht.eval hc.1.1
  unfold sK at hg'
  split at hg'<;>try exact absurd hg' hfl
  ·rename_i hv
   rw[hv] at hx
   refine wpIn_cond_true (by generalize a.eval x=z at hx; cases hx; rfl) (dU c1 r tm h κ φ w nt a yc hc.1.2 ht hr hg')
  ·rename_i hv
   rw[hv] at hx
   refine wpIn_cond_false (by generalize a.eval x=z at hx; cases hx; rfl) (dU c2 r tm h κ φ w nt a hn2 hc.2 ht hr hg')
 | block id c=>
  have hg':good (rec c tm h (lY id κ)):=hg
  refine wpIn_block (wpIn_mono (dU c r tm h _ φ w nt a hn hc ht hr hg') ?_)
  rintro e a' w' ⟨e0,cq,h',φ',rfl,g1,g2,g3,g4,ms,g5,g6⟩
  cases e0 with
  | normal=>exact ⟨.normal,cq,h',φ',rfl,g1,g2,g3,g4,ms,g5,g6⟩
  | ret=>exact ⟨.ret,cq,h',φ',rfl,g1,g2,g3,g4,ms,g5,g6⟩
  | exit i=>
   simp only[lY] at g1
   simp only[G7,Exit.inBlock]
   split at g1
   ·rename_i hb; have hb:=cu hb
    rw[if_pos hb]
    exact ⟨.normal,cq,h',φ',rfl,g1,g2,g3,g4,ms,g5,g6⟩
   ·rename_i hb; have hb:=l_ hb
    rw[if_neg hb]
    exact ⟨.exit i,cq,h',φ',rfl,g1,g2,g3,g4,ms,g5,g6⟩
 | scope c=>
  refine s9 (dU c r tm h κ φ w nt a hn hc ht hr hg) ?_
  rintro l a' w' ⟨x,cq,h',φ',hx,_⟩
  cases x<;>cases hx
 | loop c=>
  exact (mq (fl:=fl) (pr:=pr) dU He c r tm h κ φ w nt a hn hc ht hr hg).wp
 | rangeFunc g ps x y=>
  have hg':good (ev tm g (ga fl pr P rec ps.toList x y tm h κ)):=hg
  rw[eY] at hg'
  rcases hn with rfl | hn
  ·exact qp hfl hp dU hc ht hr hg'
  ·cases hn
 | _=>exact absurd hg hfl
theorem wP (hfl:¬good fl) (hp:fc good pr P) (Kk:Cx good fl pr P):∀n,jm good P (run fl pr P n)∧mY good P (run fl pr P n):=by
 intro n
 induction n with
 | zero=>exact ⟨fun c r tm h κ φ w nt a _ _ _ _ hg=>absurd hg hfl,fun c r tm h κ φ w nt a _ _ _ _ hg=>absurd hg hfl⟩
 | succ n ih=>exact ⟨Cy hfl hp Kk ih.1 ih.2,mq ih.1 ih.2⟩
end Go.Vai

namespace Go.Vai
open Go
variable {β:Type} {fl:β} {good:β→Prop} {pr:ji β} {P:Program} {φ:di} {h h':Heap} {w:World} {t:TypeId}
def XI.opsL:XI β→List Operand
 | .k0 _=>[]
 | .k1 x _=>[x]
 | .k2 x y _=>[x,y]
 | .k3 x y z _=>[x,y,z]
 | .kn xs _=>xs
def XA.opsL:XA β→List Operand
 | .k0 _=>[]
 | .k1 x _=>[x]
 | .k2 x y _=>[x,y]
 | .kn xs _=>xs
theorem XI.congr {i:XI β} {tm cq:T Value} (he:∀y∈i.opsL,dV cq y=dV tm y) (h:Heap) (κ:Value→Heap→β):i.run cq h κ=i.run tm h κ:=by
 cases i with
 | k0 f=>rfl
 | k1 x f=>rw[XI.bO,XI.bO,he x (by simp[XI.opsL])]
 | k2 x y f=>rw[XI.cG,XI.cG,he x (by simp[XI.opsL]),he y (by simp[XI.opsL])]
 | k3 x y z f=>rw[XI.oa,XI.oa,he x (by simp[XI.opsL]),he y (by simp[XI.opsL]),he z (by simp[XI.opsL])]
 | kn xs f=>
  have:xs.map (dV cq)=xs.map (dV tm):=List.map_congr_left he
  rw[XI.fP,XI.fP,this]
theorem XA.congr {i:XA β} {tm cq:T Value} (he:∀y∈i.opsL,dV cq y=dV tm y) (κ:bC→(Nat→Value)→β):i.run cq κ=i.run tm κ:=by
 cases i with
 | k0 f=>rfl
 | k1 x f=>rw[XA.bO,XA.bO,he x (by simp[XA.opsL])]
 | k2 x y f=>rw[XA.cG,XA.cG,he x (by simp[XA.opsL]),he y (by simp[XA.opsL])]
 | kn xs f=>
  have:xs.map (dV cq)=xs.map (dV tm):=List.map_congr_left he
  rw[XA.fP,XA.fP,this]
theorem qq {op:Op} {x:XI β} (hc:lM fl P op=some x):∀y∈x.opsL,y∈op.operands.toList:=by
 cases op<;>simp only[lM] at hc<;>(repeat' split at hc)<;>(try contradiction)<;>cases hc<;>
  simp_all [XI.opsL,Op.operands,Call.operands,lU]
theorem wQ {op:Op} {x:XA β} (hc:nN fl P op=some x):∀y∈x.opsL,y∈op.operands.toList:=by
 cases op<;>simp only[nN] at hc<;>(repeat' split at hc)<;>(try contradiction)<;>cases hc<;>
  simp_all [XA.opsL,Op.operands]
def vY (h h':Heap):Prop:=∀b o,h.bl.get b=some o→h'.bl.get b=some o
theorem ta (hm:vY h h') {b:Nat} (hl:sE h b=true):sE h' b=true:=by
 unfold sE at *
 split at hl<;>try contradiction
 rename_i hb
 rw[hm _ _ hb]
theorem Fq {rec Tf:TypeId→Value→Value→Option Bool} (dU:∀t x y r,rec t x y=some r→Tf t x y=some r):∀(fs:List Field) (xs ys:List Value) (r:Bool),
  vH P rec fs xs ys=some r→vH P Tf fs xs ys=some r:=by
 intro fs
 induction fs with
 | nil=>intro xs ys r h; exact h
 | cons f fs ih=>
  intro xs ys r h
  unfold vH at h ⊢
  split at h<;>try contradiction
  rename_i hf
  split at h<;>try contradiction
  ·rename_i s h1 h2
   split at h
   ·rename_i e; simp only[dU _ _ _ _ e]; exact ih _ _ _ h
   ·rename_i r' hr'
    rw[dU _ _ _ _ h]
    cases r with
    | true=>exact absurd h (by simpa using hr')
    | false=>rfl
  ·rename_i s h1 h2
   split at h<;>try contradiction
   rename_i x y hx hy
   split at h
   ·rename_i e; simp only[dU _ _ _ _ e]; exact ih _ _ _ h
   ·rename_i r' hr'
    rw[dU _ _ _ _ h]
    cases r with
    | true=>exact absurd h (by simpa using hr')
    | false=>rfl
theorem td (hm:vY h h'):∀(d:Nat) (t:TypeId) (x y:Value) (r:Bool),kV P h d t x y=some r→kV P h' d t x y=some r:=by
 intro d
 induction d with
 | zero=>intro t x y r h; exact h
 | succ d ih=>
  intro t x y r hh
  unfold kV at hh ⊢
  split at hh<;>try contradiction
  all_goals try exact hh
  ·split at hh<;>try contradiction
   split at hh<;>try contradiction
   rename_i l1 l2
   simp only[ta hm l1,ta hm l2]
   exact hh
  ·split at hh<;>try contradiction
   exact Fq ih _ _ _ _ hh
theorem tf (hm:vY h h') {kt:TypeId} {k:Value}:∀(es:List MapEntry) (i:Nat) (r:Option (Nat × MapEntry)),fm P h kt k es i=some r→fm P h' kt k es i=some r:=by
 intro es
 induction es with
 | nil=>intro i r h; exact h
 | cons e es ih=>
  intro i r hh
  unfold fm at hh ⊢
  split at hh<;>try contradiction
  ·rename_i he; simp only[td hm _ _ _ _ _ he]; exact hh
  ·rename_i he; simp only[td hm _ _ _ _ _ he]; exact ih _ _ hh
theorem yo (hm:vY h h') {e:TypeId} {b n:Nat} (hk:fZ h e b=some n):fZ h' e b=some n:=by
 unfold fZ at *
 split at hk<;>try contradiction
 ·rename_i hb; rw[hm _ _ hb]; exact hk
 ·rename_i hb; rw[hm _ _ hb]; exact hk
theorem Cz {op:Op} {x:M0} (hc:lM none P op=some x) (hm:vY h h') {tm:T Value} {v:Value} (hr:iT x tm h=some v):iT x tm h'=some v:=by
 unfold iT at *
 cases op<;>simp only[lM] at hc<;>try (cases hc; done)
 case load t a=>
  split at hc<;>try contradiction
  ·cases hc; rw[XI.bO] at hr ⊢
   unfold aF at hr ⊢
   split at hr<;>try contradiction
   split at hr<;>try contradiction
   ·rename_i hb
    simp only[hm _ _ hb]; exact hr
   ·rename_i hb
    simp only[hm _ _ hb]; exact hr
  ·cases hc; rw[XI.bO] at hr ⊢
   unfold load1 at hr ⊢
   split at hr<;>try contradiction
   split at hr<;>try contradiction
   ·rename_i hb
    simp only[hm _ _ hb]; exact hr
   ·rename_i hb
    simp only[hm _ _ hb]; exact hr
 case binOp op t x y t2=>
  cases hc; rw[XI.cG] at hr ⊢
  have hq:∀t a b r,kV P h 100 t a b=some r→kV P h' 100 t a b=some r:=td hm 100
  unfold au at hr ⊢
  split at hr<;>try contradiction
  ·exact hr
  ·exact hr
  ·split at hr<;>try contradiction
   ·split at hr<;>try contradiction
    rename_i he; simp only[hq _ _ _ _ he]; exact hr
   ·split at hr<;>try contradiction
    rename_i he; simp only[hq _ _ _ _ he]; exact hr
  ·split at hr<;>try contradiction
   ·split at hr<;>try contradiction
    rename_i he; simp only[hq _ _ _ _ he]; exact hr
   ·split at hr<;>try contradiction
    rename_i he; simp only[hq _ _ _ _ he]; exact hr
 case slice t x lo hi mx=>
  split at hc<;>try contradiction
  ·split at hc<;>try contradiction
   cases hc; rw[XI.fP] at hr ⊢
   split at hr<;>try contradiction
   split at hr<;>try contradiction
   unfold sliceB at hr ⊢
   split at hr<;>try contradiction
   ·exact hr
   ·split at hr<;>try contradiction
    ·exact hr
    ·split at hr<;>try contradiction
     ·exact hr
     ·split at hr<;>try contradiction
      rename_i hk _
      simp only[yo hm hk]
      exact hr
  ·cases hc; rw[XI.fP] at hr ⊢
   exact hr
 case lookup t x i ok=>
  split at hc<;>try contradiction
  split at hc<;>try contradiction
  split at hc<;>try contradiction
  cases hc; rw[XI.cG] at hr ⊢
  unfold cZ iX at hr ⊢
  split at hr<;>try contradiction
  split at hr<;>try contradiction
  ·exact hr
  ·split at hr<;>try contradiction
   rename_i hb
   simp only[hm _ _ hb]
   split at hr<;>try contradiction
   ·rename_i hf; simp only[tf hm _ _ _ hf]; exact hr
   ·rename_i hf; simp only[tf hm _ _ _ hf]; exact hr
 case call c=>
  split at hc<;>try contradiction
  ·split at hc<;>try contradiction
   split at hc<;>try contradiction
   ·cases hc; exact hr
   ·cases hc; exact hr
   ·cases hc; rw[XI.bO] at hr ⊢
    unfold kW at hr ⊢
    split at hr<;>try contradiction
    ·exact hr
    ·split at hr<;>try contradiction
     rename_i hb
     simp only[hm _ _ hb]; exact hr
  ·split at hc<;>try contradiction
   cases hc; rw[XI.cG] at hr ⊢
   unfold GH at hr ⊢
   split at hr<;>try contradiction
   split at hr<;>exact hr
  ·split at hc<;>try contradiction
   cases hc; rw[XI.cG] at hr ⊢
   unfold GI at hr ⊢
   split at hr<;>try contradiction
   split at hr<;>exact hr
 all_goals ((repeat' split at hc)<;>(try contradiction)<;>cases hc<;>exact hr)
end Go.Vai

namespace Go.Vai
open Go
variable {β:Type} {fl:β} {good:β→Prop} {pr:ji β} {P:Program} {φ:di} {h h':Heap} {w:World} {t:TypeId}
theorem zX:∀(os:List Oper) (n k:Nat) (q:Oper),os[k]? = some q→(n+k,q)∈dW os n:=by
 intro os
 induction os with
 | nil=>intro n k q h; simp at h
 | cons o os ih=>
  intro n k q h
  cases k with
  | zero=>simp at h; subst h; exact List.mem_cons_self
  | succ k=>
   simp at h
   have:=ih (n+1) k q h
   rw[show n+(k+1)=n+1+k by omega]
   exact List.mem_cons_of_mem _ this
theorem cC (D i k:Nat):bit (dZ D i) k=(bit D k || decide (i=k)):=by
 show Nat.testBit (D ||| 2 ^ i) k=_
 rw[Nat.testBit_or,Nat.testBit_two_pow]
 rfl
theorem OV (D M k:Nat):bit (Nat.lor D M) k=(bit D k || bit M k):=Nat.testBit_or ..
theorem zY (k:Nat):bit 0 k=false:=Nat.zero_testBit k
theorem mz {op:Op} {x:M0} (h:fJ P op=.rd x):lM none P op=some x:=by
 unfold fJ at h
 split at h<;>try contradiction
 split at h
 ·rename_i e; cases h; exact e
 ·split at h<;>contradiction
theorem tg {op:Op} {x:SS} (h:fJ P op=.al x):nN none P op=some x:=by
 unfold fJ at h
 split at h<;>try contradiction
 split at h<;>try contradiction
 split at h<;>try contradiction
 rename_i e; cases h; exact e
structure Stat (P:Program) (ops:Array Oper) (i:Nat) (o:Oper):Prop where
 k1:∀j q,ops[j]? = some q→eP P q=false→∀t∈cg ops.toList o,q.dst=some t→j∈bS o
 k2:eP P o=false→∀j q,ops[j]? = some q→j≠i→eP P q=false→∀d,o.dst=some d→q.dst≠some d
theorem zZ {ops:Array Oper} {j:Nat} {q:Oper} (h:ops[j]? = some q):(j,q)∈dW ops.toList 0:=by
 have:=zX ops.toList 0 j q (by rw[Array.getElem?_toList]; exact h)
 simpa using this
theorem qs {o:Oper} {t:Nat}:wG o t=true↔o.dst=some t:=by
 unfold wG
 cases o.dst with
 | none=>simp
 | some d=>simp
theorem om {ops:Array Oper} {D M i:Nat} {o:Oper} (h:KH P ops.toList (dW ops.toList 0) D M i o=true) :
  bit D i=false∧(∀e∈bS o,bit D e=true)∧(∃g,guardOf ops.toList o=some g)∧Stat P ops i o∧
  (eP P o=true→(∀k q,ops[k]? = some q→k≠i→bit D k=false→lZ D q=false)∧
   ∀k q,ops[k]? = some q→bit D k=true→eP P q=false→bit M k=false→∀d,o.dst=some d→q.dst≠some d∧d∉cg ops.toList q):=by
 unfold KH at h
 simp only[Bool.and_eq_true] at h
 obtain ⟨⟨⟨⟨h1,h2⟩,h3⟩,h4⟩,h5⟩:=h
 simp only[List.all_eq_true] at h4
 refine ⟨by simpa using h1,?_,Option.isSome_iff_exists.mp h3,⟨?_,?_⟩,?_⟩
 ·simpa[lZ,List.all_eq_true] using h2
 ·intro j q hq hw t ht hd
  have:=h4 _ (zZ hq)
  simp only[Bool.or_eq_true] at this
  rcases this with (this | this) | this
  ·rw[hw] at this; cases this
  ·have hx:(cg ops.toList o).any (wG q)=true:=List.any_eq_true.mpr ⟨t,ht,qs.mpr hd⟩
   rw[hx] at this; cases this
  ·simpa using this
 ·intro hw j q hq hji Hf d hd Ye
  rw[hw] at h5
  simp only[List.all_eq_true] at h5
  have:=h5 _ (zZ hq)
  simp only[Bool.or_eq_true] at this
  rcases this with (this | this) | this
  ·exact hji (by simpa using this)
  ·rw[Hf] at this; cases this
  ·rw[hd] at this; simp[qs.mpr Ye] at this
 ·intro hw
  rw[hw] at h5
  simp only[Bool.and_eq_true,List.all_eq_true] at h5
  refine ⟨?_,?_⟩
  ·intro k q hq hki hk
   have:=h5.1 _ (zZ hq)
   simp only[Bool.or_eq_true] at this
   rcases this with (this | this) | this
   ·exact absurd (by simpa using this) hki
   ·rw[hk] at this; cases this
   ·simpa using this
  ·intro k q hq hk Hf hm d hd
   have:=h5.2 _ (zZ hq)
   simp only[Bool.or_eq_true] at this
   rcases this with ((this | this) | this) | this
   ·rw[hk] at this; cases this
   ·rw[Hf] at this; cases this
   ·rw[hm] at this; cases this
   ·rw[hd] at this
    simp only[Bool.and_eq_true] at this
    refine ⟨fun e=>?_,fun hmem=>?_⟩
    ·rw[qs.mpr e] at this; simp at this
    ·have hx:(cg ops.toList q).any (Nat.beq d)=true:=List.any_eq_true.mpr ⟨d,hmem,by simp⟩
     rw[hx] at this; simp at this
theorem z6 {ops:Array Oper} {o:Oper} {s:Nat} {b:Bool} (hg:guardOf ops.toList o=some (some (s,b))):s∈cg ops.toList o:=by
 unfold guardOf at hg
 split at hg
 ·cases hg
 rename_i j w Sj
 split at hg<;>try contradiction
 rename_i hq
 cases hg
 simp only[cg,Sj,List.mem_append]
 right
 rw[hq]; simp
theorem nT {os:List Oper} {o:Oper} {t:Nat} (h:Operand.tmp t∈o.op.operands.toList):t∈cg os o:=by
 simp only[cg,List.mem_append,List.mem_filterMap]
 exact .inl ⟨_,h,rfl⟩
theorem mA {os:List Oper} {o:Oper} {tm cq:T Value} (h:∀t∈cg os o,cT cq t=cT tm t):∀y∈o.op.operands.toList,dV cq y=dV tm y:=by
 intro y hy
 cases y with
 | tmp t=>exact h t (nT hy)
 | _=>rfl
theorem kH {ops:Array Oper} {o:Oper} {g:Option (Nat × Bool)} (hg:guardOf ops.toList o=some g) {tm cq:T Value} (h:∀t∈cg ops.toList o,cT cq t=cT tm t):gr cq g=gr tm g:=by
 cases g with
 | none=>rfl
 | some p=>obtain ⟨s,b⟩:=p; simp only[gr,h s (z6 hg)]
def Hg (P:Program) (ops:Array Oper) (own:Nat→Option Nat) (h0:Heap) (φ:di) (h:Heap) (tm:T Value) (i:Nat) (o:Oper):Prop:=
 ∃g,guardOf ops.toList o=some g∧(gr tm g=false→∀d,o.dst=some d→cT tm d=undef)∧
  (gr tm g=true→match fJ P o.op with
   | .rd x=>∃v,iT x tm h=some v∧∀d,o.dst=some d→cT tm d=v
   | .al x=>∃n ob mk,own n=some i∧sM x tm=some (ob,mk)∧h.bl.get n=some ob∧φ n=none∧n<h.nx∧h0.nx≤n∧∀d,o.dst=some d→cT tm d=mk n
   | .wr=>False)
theorem Hg.keep {ops:Array Oper} {own oq:Nat→Option Nat} {h0:Heap} {φ':di} {tm cq:T Value} {i:Nat} {o:Oper} (hp:Hg P ops own h0 φ h tm i o)
  (hl:∀t∈cg ops.toList o,cT cq t=cT tm t) (hd:∀d,o.dst=some d→cT cq d=cT tm d)
  (hrd:∀x v g,fJ P o.op=.rd x→guardOf ops.toList o=some g→gr cq g=true→iT x tm h=some v→(∀d,o.dst=some d→cT cq d=v)→∃v',iT x cq h'=some v'∧∀d,o.dst=some d→cT cq d=v')
  (hal:∀n ob,own n=some i→h.bl.get n=some ob→φ n=none→n<h.nx→h0.nx≤n→oq n=some i∧h'.bl.get n=some ob∧φ' n=none∧n<h'.nx) :
  Hg P ops oq h0 φ' h' cq i o:=by
 obtain ⟨g,hg,h1,h2⟩:=hp
 have hw:=kH hg hl
 refine ⟨g,hg,fun hf d zk=>by rw[hd d zk]; exact h1 (hw▸hf) d zk,fun ht=>?_⟩
 have h2:=h2 (hw▸ht)
 cases hc:fJ P o.op with
 | rd x=>
  rw[hc] at h2
  obtain ⟨v,k1,k2⟩:=h2
  exact hrd x v g hc hg ht k1 fun d zk=>by rw[hd d zk]; exact k2 d zk
 | al x=>
  rw[hc] at h2
  obtain ⟨n,ob,mk,k1,k2,k3,k4,k5,k6,k7⟩:=h2
  obtain ⟨j1,j2,j3,j4⟩:=hal n ob k1 k3 k4 k5 k6
  refine ⟨n,ob,mk,j1,?_,j2,j3,j4,k6,fun d zk=>by rw[hd d zk]; exact k7 d zk⟩
  unfold sM at *
  rw[XA.congr (fun y hy=>mA hl y (wQ (tg hc) y hy))]
  exact k2
 | wr=>rw[hc] at h2; exact h2.elim
abbrev kj (listed:Array Bool) (i:Nat):Prop:=listed.getD i false=true
structure Inv (P:Program) (ops:Array Oper) (nt:Nat) (φ0:di) (h0:Heap) (w0:World) (ds:List Deferred) (iY:T Value) (listed:Array Bool) (D M:Nat) (tm:T Value) (h:Heap) (own:Nat→Option Nat) (φ:di) (a:Act) (w:World):Prop where
 Nf:listed.size=ops.size
 sub:∀i,kj listed i→bit D i=true
 W4:∀i o,ops[i]? = some o→kj listed i→∀e∈bS o,kj listed e
 wr:∀i o,ops[i]? = some o→bit D i=true→eP P o=true→kj listed i
 mS:∀i,bit M i=true→kj listed i
 st:∀i o,ops[i]? = some o→bit D i=true→Stat P ops i o∧∀e∈bS o,bit D e=true
 small:nt≤1000000000000
 size:a.tmps.size=nt
 rel:∀t,t<nt→(∀i o,ops[i]? = some o→bit D i=true→¬kj listed i→o.dst≠some t)→VR φ (cT tm t) (a.tmps.getD t undef)
 hr:HR P φ h w
 ext:Ext φ0 φ h0 h w0 w
 W5:a.defers=ds
 cB:∀i o,ops[i]? = some o→bit D i=true→¬kj listed i→Hg P ops own h0 φ h tm i o
 keep:∀t,t<nt→(∀(i:Nat) (o:Oper),ops[i]? = some o→o.dst≠some t)→cT tm t=cT iY t
section
variable {ops:Array Oper} {nt:Nat} {φ0:di} {h0:Heap} {w0:World} {ds:List Deferred} {listed:Array Bool} {D M:Nat} {tm iY:T Value} {own:Nat→Option Nat} {a:Act}
theorem Inv.ahead (inv:Inv P ops nt φ0 h0 w0 ds iY listed D M tm h own φ a w) (hok:∀q∈ops.toList,dS nt q=true) {i:Nat} {o:Oper} (ho:ops[i]? = some o) (hD:bit D i=false) (Ki:∀e∈bS o,bit D e=true)
  (hst:Stat P ops i o) (hw:eP P o=false) {v:Value} {h':Heap} {oq:Nat→Option Nat} (hr':HR P φ h' w) (hx':Ext φ0 φ h0 h' w0 w) (hm:vY h h') (W6:h.nx≤h'.nx) (hown:∀n,n<h.nx→oq n=own n)
  (hpe:Hg P ops oq h0 φ h' (gQ tm o.dst v) i o):Inv P ops nt φ0 h0 w0 ds iY listed (dZ D i) M (gQ tm o.dst v) h' oq φ a w:=by
 have hmem:o∈ops.toList:=List.mem_of_getElem? (by rw[Array.getElem?_toList]; exact ho)
 have DQ:¬kj listed i:=fun hs=>by rw[inv.sub i hs] at hD; cases hD
 have mB:=cO (hok o hmem)
 refine ⟨inv.Nf,?_,inv.W4,?_,inv.mS,?_,inv.small,inv.size,?_,hr',hx',inv.W5,?_,fun t ht hno=>by rw[e_ inv.small mB ht,if_neg (hno i o ho)]; exact inv.keep t ht hno⟩
 ·intro k hk; rw[cC,inv.sub k hk]; rfl
 ·intro k q hq hk OW
  rw[cC,Bool.or_eq_true] at hk
  rcases hk with hk | hk
  ·exact inv.wr k q hq hk OW
  ·have hk:i=k:=by simpa using hk
   subst hk; rw[ho] at hq; cases hq; rw[hw] at OW; cases OW
 ·intro k q hq hk
  rw[cC,Bool.or_eq_true] at hk
  have up:∀{e},bit D e=true→bit (dZ D i) e=true:=fun he=>by rw[cC,he]; rfl
  rcases hk with hk | hk
  ·exact ⟨(inv.st k q hq hk).1,fun e he=>up ((inv.st k q hq hk).2 e he)⟩
  ·have hk:i=k:=by simpa using hk
   subst hk; rw[ho] at hq; cases hq; exact ⟨hst,fun e he=>up (Ki e he)⟩
 ·intro t ht hno
  have h1:o.dst≠some t:=hno i o ho (by rw[cC]; simp) DQ
  rw[e_ inv.small mB ht,if_neg h1]
  exact inv.rel t ht fun k q hq hk qZ=>hno k q hq (by rw[cC,hk]; rfl) qZ
 ·intro k q hq hk qZ
  rw[cC,Bool.or_eq_true] at hk
  by_cases hki:i=k
  ·subst hki; rw[ho] at hq; cases hq; exact hpe
  ·have hk:bit D k=true:=by
    rcases hk with hk | hk
    ·exact hk
    ·exact absurd (by simpa using hk) hki
   have Hf:eP P q=false:=by
    cases Hf:eP P q with
    | false=>rfl
    | true=>exact absurd (inv.wr k q hq hk Hf) qZ
   have hqm:q∈ops.toList:=List.mem_of_getElem? (by rw[Array.getElem?_toList]; exact hq)
   have hl:∀t∈cg ops.toList q,cT (gQ tm o.dst v) t=cT tm t:=by
    intro t ht
    rw[e_ inv.small mB (jo hok hqm ht),if_neg]
    intro he
    have:=(inv.st k q hq hk).2 i ((inv.st k q hq hk).1.k1 i o ho hw t ht he)
    rw[this] at hD; cases hD
   have hd:∀d,q.dst=some d→cT (gQ tm o.dst v) d=cT tm d:=by
    intro d zk
    have hlt:d<nt:=by have:=cO (hok q hqm); rw[zk] at this; exact cN this
    rw[e_ inv.small mB hlt,if_neg]
    intro he
    exact hst.k2 hw k q hq (fun e=>hki e.symm) Hf d he zk
   refine (inv.cB k q hq hk qZ).keep hl hd ?_ ?_
   ·intro x v' g hc hg z7 hrd Tg
    refine ⟨v',?_,Tg⟩
    have:=Cz (mz hc) hm hrd
    unfold iT at *
    rw[XI.congr (fun y hy=>mA hl y (qq (mz hc) y hy))]
    exact this
   ·intro n ob e1 e2 e3 e4 e5
    exact ⟨by rw[hown n e4]; exact e1,hm n ob e2,e3,Nat.lt_of_lt_of_le e4 W6⟩
end
end Go.Vai

namespace Go.Vai
open Go
variable {β:Type} {fl:β} {good:β→Prop} {pr:ji β} {P:Program} {φ:di} {h h':Heap} {w:World} {t:TypeId}
variable {ops:Array Oper} {nt:Nat} {φ0:di} {h0:Heap} {w0:World} {ds:List Deferred} {listed:Array Bool} {D M:Nat} {tm iY:T Value} {own:Nat→Option Nat} {a:Act}
theorem vY.refl (h:Heap):vY h h:=fun _ _ e=>e
theorem fe {i k:Nat} (hi:i<listed.size):kj (listed.setIfInBounds i true) k↔k=i∨kj listed k:=by
 unfold kj
 simp only[Array.getD_eq_getD_getElem?]
 by_cases he:i=k
 ·subst he; simp[Array.getElem?_setIfInBounds_self_of_lt hi]
 ·rw[Array.getElem?_setIfInBounds_ne he]
  constructor
  ·exact fun h=>.inr h
  ·rintro (h | h)
   ·exact absurd h.symm he
   ·exact h
theorem z8 {a:Act} {d:Option Nat} {v:Value} {t:Nat} (ht:t<a.tmps.size):(a.put d v).tmps.getD t undef=if d=some t then v else a.tmps.getD t undef:=by
 cases d with
 | none=>simp[Act.put]
 | some d=>
  simp only[Act.put,Array.getD_eq_getD_getElem?]
  by_cases he:d=t
  ·subst he; rw[if_pos rfl,Array.getElem?_setIfInBounds_self_of_lt ht]; rfl
  ·rw[if_neg (by simpa using he),Array.getElem?_setIfInBounds_ne he]
theorem z_ {a:Act} {d:Option Nat} {v:Value}:(a.put d v).tmps.size=a.tmps.size:=by cases d<;>simp[Act.put]
theorem DR {a:Act} {d:Option Nat} {v:Value}:(a.put d v).defers=a.defers:=by cases d<;>rfl
theorem CA {o:Oper} {x:M0} (h:fJ P o.op=.rd x):eP P o=false:=by unfold eP; rw[h]
theorem Fs {o:Oper} (h:eP P o=true):fJ P o.op=.wr:=by
 unfold eP at h
 split at h
 ·assumption
 ·cases h
theorem tj {i:Nat} {o:Oper} (ho:ops[i]? = some o):o∈ops.toList:=List.mem_of_getElem? (by rw[Array.getElem?_toList]; exact ho)
theorem Inv.advance (hfl:¬good fl) (inv:Inv P ops nt φ0 h0 w0 ds iY listed D M tm h own φ a w) (hok:∀q∈ops.toList,dS nt q=true) {rec:Rec β} {i:Nat} {o:Oper} (ho:ops[i]? = some o) (hD:bit D i=false)
  (Ki:∀e∈bS o,bit D e=true) (hst:Stat P ops i o) (hw:eP P o=false) {M':Nat} {κ:T Value→Heap→β} (hg:good (iw fl pr P rec ops.toList D M' o tm h κ)) :
  ∃cq h' oq,Inv P ops nt φ0 h0 w0 ds iY listed (dZ D i) M cq h' oq φ a w∧good (κ cq h'):=by
 have mB:=cO (hok o (tj ho))
 have hl:∀v,∀t∈cg ops.toList o,cT (gQ tm o.dst v) t=cT tm t:=by
  intro v t ht
  rw[e_ inv.small mB (jo hok (tj ho) ht),if_neg]
  intro he
  have:=Ki i (hst.k1 i o ho hw t ht he)
  rw[this] at hD; cases hD
 have Tg:∀v d,o.dst=some d→cT (gQ tm o.dst v) d=v:=by
  intro v d hd
  have hlt:d<nt:=by rw[hd] at mB; exact cN mB
  rw[e_ inv.small mB hlt,if_pos hd]
 unfold iw at hg
 split at hg
 ·exact absurd hg hfl
 rename_i g GC
 split at hg
 ·rename_i z7
  rw[eZ] at hg
  refine ⟨_,_,own,inv.ahead hok ho hD Ki hst hw inv.hr inv.ext (vY.refl h) (Nat.le_refl _) (fun _ _=>rfl) ?_,hg⟩
  refine ⟨g,GC,fun _ d hd=>Tg _ d hd,fun ht=>?_⟩
  rw[kH GC (hl _),z7] at ht; cases ht
 ·rename_i z7
  split at hg
  ·rename_i x hc
   split at hg
   ·rename_i v hv
    rw[eZ] at hg
    refine ⟨_,_,own,inv.ahead hok ho hD Ki hst hw inv.hr inv.ext (vY.refl h) (Nat.le_refl _) (fun _ _=>rfl) ?_,hg⟩
    refine ⟨g,GC,fun hf=>?_,fun _=>?_⟩
    ·rw[kH GC (hl _),z7] at hf; cases hf
    ·rw[hc]
     refine ⟨v,?_,fun d hd=>Tg _ d hd⟩
     unfold iT at *
     rw[XI.congr (fun y hy=>mA (hl v) y (qq (mz hc) y hy))]
     exact hv
   ·exact absurd hg hfl
  ·rename_i x hc
   split at hg
   ·rename_i ob mk hv
    obtain ⟨hn,hg⟩:=dm hfl hg
    rw[eZ] at hg
    have hs:Small h.nx:=by unfold Small; omega
    have hnone:φ h.nx=none:=by
     cases hp:φ h.nx with
     | none=>rfl
     | some pl=>have:=(inv.hr.dom _ _ hp).1; omega
    refine ⟨_,_,(fun n=>if n=h.nx then some i else own n),inv.ahead hok ho hD Ki hst hw (inv.hr.sV hn ob) (inv.ext.sV inv.hr.lo hn ob) ?_ (Nat.le_succ _) (fun n hn=>if_neg (by omega)) ?_,hg⟩
    ·intro b o' hb
     by_cases KO:Small b
     ·have:=inv.hr.keys b o' KO hb
      show (h.bl.aW h.nx ob).get b=some o'
      rw[T.fo _ _ hs KO (by omega)]
      exact hb
     ·show (h.bl.aW h.nx ob).get b=some o'
      exact absurd (Nat.lt_succ_self b) KO
    ·refine ⟨g,GC,fun hf=>?_,fun _=>?_⟩
     ·rw[kH GC (hl _),z7] at hf; cases hf
     ·rw[hc]
      refine ⟨h.nx,ob,mk,if_pos rfl,?_,T.af _ _ _,hnone,Nat.lt_succ_self _,inv.ext.nx,fun d hd=>Tg _ d hd⟩
      unfold sM at *
      rw[XA.congr (fun y hy=>mA (hl _) y (wQ (tg hc) y hy))]
      exact hv
   ·exact absurd hg hfl
  ·rename_i hc
   rw[eP,hc] at hw; cases hw
theorem Inv.done (inv:Inv P ops nt φ0 h0 w0 ds iY listed D M tm h own φ a w) (hok:∀q∈ops.toList,dS nt q=true) {i:Nat} {o:Oper} (ho:ops[i]? = some o) (hD:bit D i=true) (o9:∀e∈bS o,kj listed e)
  {φ':di} {w':World} {v':Value} (hv:∀d,o.dst=some d→VR φ' (cT tm d) v') (hs:Sub φ φ') (hr':HR P φ' h w') (hx':Ext φ0 φ' h0 h w0 w') (hφ:∀n,own n≠some i→φ n=none→φ' n=none) :
  Inv P ops nt φ0 h0 w0 ds iY (listed.setIfInBounds i true) D M tm h own φ' (a.put o.dst v') w':=by
 have hil:i<listed.size:=by rw[inv.Nf]; exact (Array.getElem?_eq_some_iff.mp ho).1
 refine ⟨by simp[inv.Nf],?_,?_,?_,?_,inv.st,inv.small,by rw[z_]; exact inv.size,?_,hr',hx',by rw[DR]; exact inv.W5,?_,inv.keep⟩
 ·intro k hk
  rcases (fe hil).mp hk with rfl | hk
  ·exact hD
  ·exact inv.sub k hk
 ·intro k q hq hk e he
  rw[fe hil]
  rcases (fe hil).mp hk with rfl | hk
  ·rw[ho] at hq; cases hq; exact .inr (o9 e he)
  ·exact .inr (inv.W4 k q hq hk e he)
 ·intro k q hq hk OW; rw[fe hil]; exact .inr (inv.wr k q hq hk OW)
 ·intro k hk; rw[fe hil]; exact .inr (inv.mS k hk)
 ·intro t ht hno
  rw[z8 (by rw[inv.size]; exact ht)]
  by_cases hd:o.dst=some t
  ·rw[if_pos hd]; exact hv t hd
  ·rw[if_neg hd]
   refine (inv.rel t ht fun k q hq hk qZ=>?_).mono hs
   by_cases hki:k=i
   ·subst hki; rw[ho] at hq; cases hq; exact hd
   ·exact hno k q hq hk (fun hh=>by rcases (fe hil).mp hh with h1 | h1<;>contradiction)
 ·intro k q hq hk qZ
  rw[fe hil] at qZ
  have hki:k≠i:=fun e=>qZ (.inl e)
  have Hh:¬kj listed k:=fun e=>qZ (.inr e)
  refine (inv.cB k q hq hk Hh).keep (fun _ _=>rfl) (fun _ _=>rfl) (fun x v g _ _ _ e1 e2=>⟨v,e1,e2⟩) ?_
  intro n ob e1 e2 e3 e4 e5
  exact ⟨e1,e2,hφ n (by rw[e1]; intro hh; cases hh; exact hki rfl) e3,e4⟩
theorem Inv.looks (inv:Inv P ops nt φ0 h0 w0 ds iY listed D M tm h own φ a w) (hok:∀q∈ops.toList,dS nt q=true) {i:Nat} {o:Oper} (ho:ops[i]? = some o) (hst:Stat P ops i o) (o9:∀e∈bS o,kj listed e) :
  ∀t∈cg ops.toList o,t<a.tmps.size∧VR φ (cT tm t) (a.tmps.getD t undef):=by
 intro t ht
 have hlt:=jo hok (tj ho) ht
 refine ⟨by rw[inv.size]; exact hlt,inv.rel t hlt fun k q hq hk qZ Ye=>qZ (o9 k (hst.k1 k q hq ?_ t ht Ye))⟩
 cases Hf:eP P q with
 | false=>rfl
 | true=>exact absurd (inv.wr k q hq hk Hf) qZ
theorem Inv.Th (inv:Inv P ops nt φ0 h0 w0 ds iY listed D M tm h own φ a w) (hok:∀q∈ops.toList,dS nt q=true) {i:Nat} {o:Oper} (ho:ops[i]? = some o) (hst:Stat P ops i o) (o9:∀e∈bS o,kj listed e) :
  ∀y∈o.op.operands.toList,VR φ (dV tm y) (a.eval y):=by
 intro y hy
 have hyo:=oh (hok o (tj ho)) y hy
 cases y with
 | tmp t=>exact (inv.looks hok ho hst o9 t (nT hy)).2
 | const v=>exact ja hyo
 | func f=>exact VR.func' .nil .nil
 | global g=>cases hyo
theorem Inv.wanted (inv:Inv P ops nt φ0 h0 w0 ds iY listed D M tm h own φ a w) (hok:∀q∈ops.toList,dS nt q=true) {i:Nat} {o:Oper} (ho:ops[i]? = some o) (hst:Stat P ops i o) (o9:∀e∈bS o,kj listed e)
  {g:Option (Nat × Bool)} (hg:guardOf ops.toList o=some g):Region.wanted o (yielded ops a.tmps)=gr tm g:=
 wO (φ:=φ) hg fun s _ _ hs=>inv.looks hok ho hst o9 s hs
theorem Inv.late (inv:Inv P ops nt φ0 h0 w0 ds iY listed D M tm h own φ a w) (hok:∀q∈ops.toList,dS nt q=true) {i:Nat} {o:Oper} (ho:ops[i]? = some o) (hD:bit D i=true) (DQ:¬kj listed i) (o9:∀e∈bS o,kj listed e)
  {Q:Exit→Act→World→Prop} {K:Act→World→Prop} {r0:Option Nat} (hK:∀φ' a' w',Inv P ops nt φ0 h0 w0 ds iY (listed.setIfInBounds i true) D M tm h own φ' a' w'→K a' w'):wpOpIn (FR r0) 0 P ops Q i K a w:=by
 obtain ⟨hst,_⟩:=inv.st i o ho hD
 obtain ⟨g,hg,h1,h2⟩:=inv.cB i o ho hD DQ
 have hlt:∀d,o.dst=some d→d<nt:=fun d hd=>by have:=cO (hok o (tj ho)); rw[hd] at this; exact cN this
 simp only[wpOpIn,ho]
 rw[inv.wanted hok ho hst o9 hg]
 cases hw:gr tm g with
 | false=>
  rw[if_neg (by simp)]
  exact ⟨jb,hK φ _ w (inv.done hok ho hD o9 (fun d hd=>by rw[h1 hw d hd]; exact VR.undef) (Sub.refl φ) inv.hr inv.ext (fun _ _ e=>e))⟩
 | true=>
  rw[if_pos rfl]
  have h2:=h2 hw
  have hρ:=inv.Th hok ho hst o9
  cases hc:fJ P o.op with
  | rd x=>
   rw[hc] at h2
   obtain ⟨v,k1,k2⟩:=h2
   obtain ⟨v0,v',e1,e2,e3⟩:=qW (β:=Option Value) (fl:=none) (good:=fun r=>r=some v) (by simp) (mz hc) hρ inv.hr (κ:=fun v _=>some v) k1 rfl
   cases e1
   refine ⟨jb,?_⟩
   rw[Oper.semAt_eq _ _ _ (fun c hcd=>by rw[hcd] at hc; cases hc),e3]
   exact hK φ _ w (inv.done hok ho hD o9 (fun d hd=>by rw[k2 d hd]; exact e2) (Sub.refl φ) inv.hr inv.ext (fun _ _ e=>e))
  | al x=>
   rw[hc] at h2
   obtain ⟨n,ob,mk,k1,k2,k3,k4,k5,k6,k7⟩:=h2
   obtain ⟨ob',mk',O,e1,e2,e3,e4,e5⟩:=qY (β:=Option (bC × (Nat→Value))) (fl:=none) (good:=fun r=>r=some (ob,mk)) (P:=P) (w:=w) (by simp) (tg hc) hρ (κ:=fun o mk=>some (o,mk)) k2 rfl
   cases e1
   refine ⟨jb,?_⟩
   rw[Oper.semAt_eq _ _ _ (fun c hcd=>by rw[hcd] at hc; cases hc),e5]
   refine hK (fL φ n ⟨w.heap.size,0,0⟩) _ _ (inv.done hok ho hD o9 (fun d hd=>by rw[k7 d hd]; exact e4 _ _ _ (fC _ _ _)) (mV k4) (inv.hr.zF k3 k4 k5 0 0 (e3 _)) (inv.ext.zF k4 k6 O (oR (e3 ⟨0,0,0⟩) e2) 0 0) ?_)
   intro m Yf hm2
   unfold fL
   rw[if_neg]
   ·exact hm2
   ·intro he; subst he; exact Yf k1
  | wr=>rw[hc] at h2; exact h2.elim
end Go.Vai

namespace Go.Vai
open Go
variable {β:Type} {fl:β} {good:β→Prop} {pr:ji β} {P:Program} {φ:di} {h h':Heap} {w:World} {t:TypeId}
variable {ops:Array Oper} {nt:Nat} {φ0:di} {h0:Heap} {w0:World} {ds:List Deferred} {listed:Array Bool} {D M:Nat} {tm iY:T Value} {own:Nat→Option Nat} {a:Act}
theorem Aa:∀(qe:List It),qS P ops.toList D M tm h qe=true→∀k q,(k,q)∈qe→bit D k=true→bit M k=false→∀x g,fJ P q.op=.rd x→guardOf ops.toList q=some g→gr tm g=true→
  ∃v,iT x tm h=some v∧∀d,q.dst=some d→cT tm d=v:=by
 intro qe
 induction qe with
 | nil=>intro _ k q hm; cases hm
 | cons it qe ih=>
  obtain ⟨j,o⟩:=it
  intro hs k q hm hD hM x g hc hg hw
  simp only[List.mem_cons] at hm
  unfold qS at hs
  rcases hm with e | hm
  ·cases e
   simp only[hD,hM,hc,hg,hw,Bool.not_false,Bool.and_true,Bool.and_eq_true] at hs
   have hs:=hs.1
   split at hs
   ·rename_i v d hv hd
    refine ⟨v,hv,fun d' hd'=>?_⟩
    rw[hd] at hd'; cases hd'
    exact (Cu 8 _ _ hs).symm
   ·rename_i v hv hd
    exact ⟨v,hv,fun d' hd'=>by rw[hd] at hd'; cases hd'⟩
   ·cases hs
  ·refine ih ?_ k q hm hD hM x g hc hg hw
   split at hs
   ·simp only[Bool.and_eq_true] at hs; exact hs.2
   ·exact hs
theorem Ab {qe:List It} (ha:wH P D M qe=false) {k:Nat} {q:Oper} (hm:(k,q)∈qe) (hD:bit D k=true) (hM:bit M k=false) {x:M0} (hc:fJ P q.op=.rd x):False:=by
 unfold wH at ha
 rw[List.any_eq_false] at ha
 have:=ha _ hm
 simp[hD,hM,hc] at this
theorem Inv.wrote (inv:Inv P ops nt φ0 h0 w0 ds iY listed D M tm h own φ a w) (hok:∀q∈ops.toList,dS nt q=true) {i:Nat} {o:Oper} (ho:ops[i]? = some o) (hD:bit D i=false) (o9:∀e∈bS o,kj listed e)
  (hst:Stat P ops i o) (hw:eP P o=true) {M':Nat} (hM:∀k,bit M' k=true→kj listed k)
  (hno:∀k q,ops[k]? = some q→bit D k=true→eP P q=false→bit M' k=false→∀d,o.dst=some d→q.dst≠some d∧d∉cg ops.toList q)
  {φ':di} {w':World} {v v':Value} {h':Heap} (hv:VR φ' v v') (hr':HR P φ' h' w') (hx:Ext φ φ' h h' w w')
  (hre:∀k q,ops[k]? = some q→bit D k=true→bit M' k=false→¬kj listed k→∀x g,fJ P q.op=.rd x→guardOf ops.toList q=some g→gr (gQ tm o.dst v) g=true→
   ∃v1,iT x (gQ tm o.dst v) h'=some v1∧∀d,q.dst=some d→cT (gQ tm o.dst v) d=v1) :
  Inv P ops nt φ0 h0 w0 ds iY (listed.setIfInBounds i true) (dZ D i) M' (gQ tm o.dst v) h' own φ' (a.put o.dst v') w':=by
 have hil:i<listed.size:=by rw[inv.Nf]; exact (Array.getElem?_eq_some_iff.mp ho).1
 have mB:=cO (hok o (tj ho))
 have Ti:∀{k q},ops[k]? = some q→bit (dZ D i) k=true→¬kj (listed.setIfInBounds i true) k→bit D k=true∧¬kj listed k∧eP P q=false∧bit M' k=false:=by
  intro k q hq hk qZ
  rw[fe hil] at qZ
  have hki:k≠i:=fun e=>qZ (.inl e)
  have Hh:¬kj listed k:=fun e=>qZ (.inr e)
  rw[cC,Bool.or_eq_true] at hk
  have hk:bit D k=true:=by
   rcases hk with hk | hk
   ·exact hk
   ·exact absurd (by simpa using hk:i=k).symm hki
  refine ⟨hk,Hh,?_,?_⟩
  ·cases Hf:eP P q with
   | false=>rfl
   | true=>exact absurd (inv.wr k q hq hk Hf) Hh
  ·cases hm:bit M' k with
   | false=>rfl
   | true=>exact absurd (hM k hm) Hh
 refine ⟨by simp[inv.Nf],?_,?_,?_,?_,?_,inv.small,by rw[z_]; exact inv.size,?_,hr',inv.ext.trans hx,by rw[DR]; exact inv.W5,?_,fun t ht hno=>by rw[e_ inv.small mB ht,if_neg (hno i o ho)]; exact inv.keep t ht hno⟩
 ·intro k hk
  rw[cC]
  rcases (fe hil).mp hk with rfl | hk
  ·simp
  ·rw[inv.sub k hk]; rfl
 ·intro k q hq hk e he
  rw[fe hil]
  rcases (fe hil).mp hk with rfl | hk
  ·rw[ho] at hq; cases hq; exact .inr (o9 e he)
  ·exact .inr (inv.W4 k q hq hk e he)
 ·intro k q hq hk OW
  rw[fe hil]
  rw[cC,Bool.or_eq_true] at hk
  rcases hk with hk | hk
  ·exact .inr (inv.wr k q hq hk OW)
  ·exact .inl (by simpa using hk:i=k).symm
 ·intro k hk; rw[fe hil]; exact .inr (hM k hk)
 ·intro k q hq hk
  rw[cC,Bool.or_eq_true] at hk
  have up:∀{e},bit D e=true→bit (dZ D i) e=true:=fun he=>by rw[cC,he]; rfl
  rcases hk with hk | hk
  ·exact ⟨(inv.st k q hq hk).1,fun e he=>up ((inv.st k q hq hk).2 e he)⟩
  ·have hk:i=k:=by simpa using hk
   subst hk; rw[ho] at hq; cases hq; exact ⟨hst,fun e he=>up (inv.sub e (o9 e he))⟩
 ·intro t ht hnot
  rw[z8 (by rw[inv.size]; exact ht),e_ inv.small mB ht]
  by_cases hd:o.dst=some t
  ·rw[if_pos hd,if_pos hd]; exact hv
  ·rw[if_neg hd,if_neg hd]
   refine (inv.rel t ht fun k q hq hk qZ=>hnot k q hq (by rw[cC,hk]; rfl) ?_).mono hx.sub
   rw[fe hil]
   rintro (rfl | hh)
   ·rw[hk] at hD; cases hD
   ·exact qZ hh
 ·intro k q hq hk qZ
  obtain ⟨jc,hk2,Ng,OX⟩:=Ti hq hk qZ
  have hl:∀t∈cg ops.toList q,cT (gQ tm o.dst v) t=cT tm t:=by
   intro t ht
   rw[e_ inv.small mB (jo hok (tj hq) ht),if_neg]
   intro he
   exact (hno k q hq jc Ng OX t he).2 ht
  have hd:∀d,q.dst=some d→cT (gQ tm o.dst v) d=cT tm d:=by
   intro d zk
   have hlt:d<nt:=by have:=cO (hok q (tj hq)); rw[zk] at this; exact cN this
   rw[e_ inv.small mB hlt,if_neg]
   intro he
   exact (hno k q hq jc Ng OX d he).1 zk
  refine (inv.cB k q hq jc hk2).keep hl hd (fun x v1 g hc hg z7 _ _=>hre k q hq jc OX hk2 x g hc hg z7) ?_
  intro n ob e1 e2 e3 e4 e5
  refine ⟨e1,by rw[hx.Cf n e4 e3]; exact e2,?_,Nat.lt_of_lt_of_le e4 hx.nx⟩
  cases hp:φ' n with
  | none=>rfl
  | some pl=>have:=(hx.new n pl e3 hp).1; omega
theorem Inv.write (hfl:¬good fl) (hp:fc good pr P) {rec:Rec β} (dU:jm good P rec) (inv:Inv P ops nt φ0 h0 w0 ds iY listed D M tm h own φ a w) (hok:∀q∈ops.toList,dS nt q=true) {i:Nat} {o:Oper} (ho:ops[i]? = some o)
  (hD:bit D i=false) (o9:∀e∈bS o,kj listed e) (hst:Stat P ops i o) (hw:eP P o=true) {M':Nat} (hM:∀k,bit M' k=true→kj listed k)
  (hno:∀k q,ops[k]? = some q→bit D k=true→eP P q=false→bit M' k=false→∀d,o.dst=some d→q.dst≠some d∧d∉cg ops.toList q)
  {κ:T Value→Heap→β} (hg:good (iw fl pr P rec ops.toList D M' o tm h κ)) {Q:Exit→Act→World→Prop} {K:Act→World→Prop} {r0:Option Nat}
  (hK:∀cq h' φ' a' w',Inv P ops nt φ0 h0 w0 ds iY (listed.setIfInBounds i true) (dZ D i) M' cq h' own φ' a' w'→good (κ cq h')→K a' w'):wpOpIn (FR r0) 0 P ops Q i K a w:=by
 simp only[wpOpIn,ho]
 unfold iw at hg
 split at hg
 ·exact absurd hg hfl
 rename_i g GC
 rw[inv.wanted hok ho hst o9 GC]
 split at hg
 ·rename_i z7
  rw[eZ] at hg
  rw[z7,if_neg (by simp)]
  refine ⟨jb,?_⟩
  refine hK _ _ φ _ w (inv.wrote hok ho hD o9 hst hw hM hno VR.undef inv.hr (Ext.refl _ _ _) ?_) hg
  intro k q hq hk Sk qZ x g' hc hg' KV
  have Ng:=CA hc
  have mB:=cO (hok o (tj ho))
  have hl:∀t∈cg ops.toList q,cT (gQ tm o.dst undef) t=cT tm t:=by
   intro t ht
   rw[e_ inv.small mB (jo hok (tj hq) ht),if_neg]
   intro he
   exact (hno k q hq hk Ng Sk t he).2 ht
  obtain ⟨g2,e1,e2,e3⟩:=inv.cB k q hq hk qZ
  rw[hg'] at e1; cases e1
  have e3:=e3 (by rw[←kH hg' hl]; exact KV)
  rw[hc] at e3
  obtain ⟨v,k1,k2⟩:=e3
  refine ⟨v,?_,fun d zk=>?_⟩
  ·unfold iT at *
   rw[XI.congr (fun y hy=>mA hl y (qq (mz hc) y hy))]
   exact k1
  ·have hlt:d<nt:=by have:=cO (hok q (tj hq)); rw[zk] at this; exact cN this
   rw[e_ inv.small mB hlt,if_neg]
   ·exact k2 d zk
   ·intro he
    exact (hno k q hq hk Ng Sk d he).1 zk
 ·rename_i z7
  rw[z7,if_pos rfl]
  rw[Fs hw] at hg
  refine zW hfl hp dU (inv.Th hok ho hst o9) inv.hr hg ?_
  intro φ' v v' h' w' g1 g2 g3 g4
  rw[eZ] at g1
  split at g1
  ·rename_i ha
   refine hK _ _ φ' _ w' (inv.wrote hok ho hD o9 hst hw hM hno g2 g3 g4 ?_) g1
   intro k q hq hk Sk qZ x g' hc hg' KV
   exact (Ab ha (zZ hq) hk Sk hc).elim
  ·split at g1
   ·rename_i Ko
    refine hK _ _ φ' _ w' (inv.wrote hok ho hD o9 hst hw hM hno g2 g3 g4 ?_) g1
    intro k q hq hk Sk qZ x g' hc hg' KV
    exact Aa _ Ko k q (zZ hq) hk Sk x g' hc hg' KV
   ·exact absurd g1 hfl
theorem tn {S:Nat→Prop}:∀(l:List Nat) (m:Nat),(∀k,bit m k=true→S k)→(∀e∈l,S e)→∀k,bit (l.foldl dZ m) k=true→S k:=by
 intro l
 induction l with
 | nil=>intro m h1 _ k hk; exact h1 k hk
 | cons e l ih=>
  intro m h1 h2 k hk
  refine ih (dZ m e) ?_ (fun x hx=>h2 x (by simp[hx])) k hk
  intro x hx
  rw[cC,Bool.or_eq_true] at hx
  rcases hx with hx | hx
  ·exact h1 x hx
  ·have:e=x:=by simpa using hx
   subst this; exact h2 e (by simp)
theorem Ft {S:Nat→Prop} {os:List Oper} (hc:∀i o,os[i]? = some o→S i→∀e∈bS o,S e):∀(i m:Nat),(∀k,bit m k=true→S k)→∀k,bit (GO os i m) k=true→S k:=by
 intro i
 induction i with
 | zero=>intro m h1 k hk; exact h1 k hk
 | succ i ih=>
  intro m h1 k hk
  unfold GO at hk
  split at hk
  ·rename_i o hb ho
   exact ih _ (tn _ _ h1 (hc i o ho (h1 i hb))) k hk
  ·exact ih m h1 k hk
theorem CB {S:Nat→Prop} {os:List Oper} (hc:∀i o,os[i]? = some o→S i→∀e∈bS o,S e) {i:Nat} {o:Oper} (ho:os[i]? = some o) (hp:∀e∈bS o,S e):∀k,bit (nO os i) k=true→S k:=by
 unfold nO
 rw[ho]
 exact Ft hc i _ (tn _ _ (fun k hk=>by rw[zY] at hk; cases hk) hp)
theorem wR {i:Nat} (hi:i∈Region.ready .any ops listed):∃o,ops[i]? = some o∧¬kj listed i∧∀e∈bS o,kj listed e:=by
 unfold Region.ready at hi
 simp only[List.mem_filter,List.mem_range,Bool.and_eq_true] at hi
 obtain ⟨h1,h2,h3⟩:=hi
 have ho:ops[i]? = some ops[i]:=by simp[h1]
 refine ⟨ops[i],ho,?_,?_⟩
 ·intro hh
  unfold kj at hh
  simp only[Array.getD_eq_getD_getElem?] at hh h2
  cases hl:listed[i]? with
  | none=>rw[hl] at hh; simp at hh
  | some b=>rw[hl] at hh h2; simp at hh h2; rw[hh] at h2; cases h2
 ·intro e he
  rw[ho] at h3
  simp only[Option.map_some,Option.getD_some,Array.all_eq_true'] at h3
  unfold bS at he
  simp only[List.mem_map,List.mem_filter] at he
  obtain ⟨x,⟨hx,hb⟩,rfl⟩:=he
  have:=h3 x (by simpa using hx)
  rw[hb] at this
  simp only[Bool.not_true,Bool.false_or] at this
  exact this
theorem mem_ready {i:Nat} {o:Oper} (ho:ops[i]? = some o) (hsz:listed.size=ops.size) (hn:¬kj listed i) (hp:∀e∈bS o,kj listed e):i∈Region.ready .any ops listed:=by
 have hlt:i<ops.size:=(Array.getElem?_eq_some_iff.mp ho).1
 unfold Region.ready
 simp only[List.mem_filter,List.mem_range,Bool.and_eq_true]
 refine ⟨hlt,?_,?_⟩
 ·have hll:i<listed.size:=by omega
  unfold kj at hn
  simp only[Array.getD_eq_getD_getElem?,getElem?_pos listed i hll] at hn ⊢
  simpa using hn
 ·rw[ho]
  simp only[Option.map_some,Option.getD_some,Array.all_eq_true']
  intro e he
  cases hb:Region.binds .any e with
  | false=>rfl
  | true=>
   have:=hp e.on (by unfold bS; simp only[List.mem_map,List.mem_filter]; exact ⟨e,⟨by simpa using he,hb⟩,rfl⟩)
   simp only[Bool.not_true,Bool.false_or]
   exact this
section
variable {nt:Nat} {κ:T Value→Heap→β} {Q:Exit→Act→World→Prop} {r0:Option Nat}
theorem OY {own:Nat→Option Nat} (inv:Inv P ops nt φ0 h0 w0 ds iY listed D M tm h own φ a w) (hidx:∀i o,ops[i]? = some o→∀e∈bS o,e<i) (hr:Region.ready .any ops listed=[]):∀i o,ops[i]? = some o→kj listed i:=by
 intro i
 induction i using Nat.strongRecOn with
 | _ i ih=>
  intro o ho
  by_cases hi:kj listed i
  ·exact hi
  ·have hlt:i<ops.size:=(Array.getElem?_eq_some_iff.mp ho).1
   have:=mem_ready ho inv.Nf hi fun e he=>by
    have hei:=hidx i o ho e he
    exact ih e hei ops[e] (by simp)
   rw[hr] at this; cases this
theorem Inv.full {own:Nat→Option Nat} (inv:Inv P ops nt φ0 h0 w0 ds iY listed D M tm h own φ a w) (hall:∀i o,ops[i]? = some o→kj listed i):TR φ nt tm a:=
 ⟨inv.size,inv.small,fun t ht=>inv.rel t ht fun i o ho _ hS=>absurd (hall i o ho) hS⟩
theorem mC {i:Nat} {is:List Nat} {D M:Nat} (hp:j0 P ops.toList (i::is) D M=true):∃o,ops[i]? = some o∧
  KH P ops.toList (dW ops.toList 0) D (match eP P o with | true=>Nat.lor M (nO ops.toList i) | false=>M) i o=true∧
  j0 P ops.toList is (dZ D i) (match eP P o with | true=>Nat.lor M (nO ops.toList i) | false=>M)=true:=by
 unfold j0 at hp
 split at hp<;>try contradiction
 rename_i o ho
 rw[Array.getElem?_toList] at ho
 simp only[Bool.and_eq_true] at hp
 exact ⟨o,ho,hp.1,hp.2⟩
theorem Yg (hfl:¬good fl) (hok:∀q∈ops.toList,dS nt q=true) {rec:Rec β} {i:Nat} {o:Oper} (ho:ops[i]? = some o) (DQ:¬kj listed i) (o9:∀e∈bS o,kj listed e) :
  ∀(l:List Nat) (D M:Nat) (tm:T Value) (h:Heap) (own:Nat→Option Nat),Inv P ops nt φ0 h0 w0 ds iY listed D M tm h own φ a w→j0 P ops.toList l D M=true→good (gI fl pr P rec ops.toList l D M tm h κ)→
   ∃l' D' cq h' oq,Inv P ops nt φ0 h0 w0 ds iY listed D' M cq h' oq φ a w∧j0 P ops.toList l' D' M=true∧good (gI fl pr P rec ops.toList l' D' M cq h' κ)∧
    (bit D' i=true∨(eP P o=true∧∃js,l'=i::js)):=by
 intro l
 induction l with
 | nil=>
  intro D M tm h own inv hp hg
  refine ⟨[],D,tm,h,own,inv,hp,hg,.inl ?_⟩
  unfold j0 at hp
  rw[List.all_eq_true] at hp
  exact hp _ (zZ ho)
 | cons j js ih=>
  intro D M tm h own inv hp hg
  by_cases OZ:bit D i=true
  ·exact ⟨j::js,D,tm,h,own,inv,hp,hg,.inl OZ⟩
  have OZ:bit D i=false:=by simpa using OZ
  obtain ⟨q,hq,vA,lN⟩:=mC hp
  obtain ⟨k1,k2,k3,k4,k5⟩:=om vA
  cases hw:eP P q with
  | true=>
   have hij:i=j:=by
    by_cases hij:i=j
    ·exact hij
    ·have:=(k5 hw).1 i o ho hij OZ
     have hrd:lZ D o=true:=by unfold lZ; rw[List.all_eq_true]; exact fun e he=>inv.sub e (o9 e he)
     rw[hrd] at this; cases this
   subst hij
   rw[ho] at hq; cases hq
   exact ⟨i::js,D,tm,h,own,inv,hp,hg,.inr ⟨hw,js,rfl⟩⟩
  | false=>
   rw[hw] at lN vA
   simp only at lN
   unfold gI at hg
   rw[Array.getElem?_toList,hq] at hg
   simp only[hw] at hg
   obtain ⟨cq,h',oq,inv',hg'⟩:=inv.advance hfl hok hq k1 k2 k4 hw hg
   exact ih _ M cq h' oq inv' lN hg'
theorem KW (hfl:¬good fl) (hp:fc good pr P) {rec:Rec β} (dU:jm good P rec) (hok:∀q∈ops.toList,dS nt q=true) (hidx:∀i o,ops[i]? = some o→∀e∈bS o,e<i)
  (hQ:∀cq h' φ' a' w',good (κ cq h')→TR φ' nt cq a'→HR P φ' h' w'→Ext φ0 φ' h0 h' w0 w'→a'.defers=ds→(∀t,t<nt→(∀(i:Nat) (o:Oper),ops[i]? = some o→o.dst≠some t)→cT cq t=cT iY t)→Q .normal a' w') :
  ∀(fuel:Nat) (listed:Array Bool) (l:List Nat) (D M:Nat) (tm:T Value) (h:Heap) (own:Nat→Option Nat) (φ:di) (a:Act) (w:World),listed.toList.count false≤fuel→Inv P ops nt φ0 h0 w0 ds iY listed D M tm h own φ a w→
   j0 P ops.toList l D M=true→good (gI fl pr P rec ops.toList l D M tm h κ)→wpAnyIn (FR r0) 0 P .any ops Q fuel listed a w:=by
 have fin:∀(listed:Array Bool) (l:List Nat) (D M:Nat) (tm:T Value) (h:Heap) (own:Nat→Option Nat) (φ:di) (a:Act) (w:World),Inv P ops nt φ0 h0 w0 ds iY listed D M tm h own φ a w→
   j0 P ops.toList l D M=true→good (gI fl pr P rec ops.toList l D M tm h κ)→Region.ready .any ops listed=[]→Q .normal a w:=by
  intro listed l D M tm h own φ a w inv KN hg hr
  have hall:=OY inv hidx hr
  cases l with
  | nil=>exact hQ tm h φ a w hg (inv.full hall) inv.hr inv.ext inv.W5 inv.keep
  | cons j js=>
   obtain ⟨q,hq,vA,_⟩:=mC KN
   have:=(om vA).1
   rw[inv.sub j (hall j q hq)] at this; cases this
 intro fuel
 induction fuel with
 | zero=>
  intro listed l D M tm h own φ a w hc inv KN hg
  have hr:Region.ready .any ops listed=[]:=by
   cases hr:Region.ready .any ops listed with
   | nil=>rfl
   | cons i is=>
    obtain ⟨o,ho,DQ,_⟩:=wR (listed:=listed) (ops:=ops) (i:=i) (by rw[hr]; exact List.mem_cons_self)
    have hlt:i<listed.size:=by rw[inv.Nf]; exact (Array.getElem?_eq_some_iff.mp ho).1
    have:false∈listed.toList:=by
     unfold kj at DQ
     simp only[Array.getD_eq_getD_getElem?,getElem?_pos listed i hlt,Option.getD_some] at DQ
     have:listed[i]=false:=by simpa using DQ
     rw[←this]
     exact Array.getElem_mem_toList hlt
    have:=List.count_pos_iff.mpr this
    omega
  exact ⟨hr,fin listed l D M tm h own φ a w inv KN hg hr⟩
 | succ fuel ih=>
  intro listed l D M tm h own φ a w hc inv KN hg
  refine ⟨fin listed l D M tm h own φ a w inv KN hg,fun i hi=>?_⟩
  obtain ⟨o,ho,DQ,o9⟩:=wR hi
  have hlt:i<listed.size:=by rw[inv.Nf]; exact (Array.getElem?_eq_some_iff.mp ho).1
  have Tj:(listed.setIfInBounds i true).toList.count false≤fuel:=by
   have hfi:listed.toList[i]'(by simpa using hlt)=false:=by
    unfold kj at DQ
    simp only[Array.getD_eq_getD_getElem?,getElem?_pos listed i hlt,Option.getD_some] at DQ
    simpa using DQ
   rw[Array.toList_setIfInBounds,List.count_set (by simpa using hlt),hfi]
   change listed.toList.count false-1+0≤fuel
   omega
  obtain ⟨l',D',cq,h',oq,inv',Tk,hg',hend⟩:=Yg hfl hok ho DQ o9 l D M tm h own inv KN hg
  by_cases OZ:bit D' i=true
  ·exact inv'.late hok ho OZ DQ o9 fun φ' a' w' inv2=>ih _ l' D' M cq h' oq φ' a' w' Tj inv2 Tk hg'
  ·rcases hend with hend | ⟨hw,js,rfl⟩
   ·exact absurd hend OZ
   obtain ⟨q,hq,vA,lN⟩:=mC Tk
   rw[ho] at hq; cases hq
   rw[hw] at vA lN
   simp only at vA lN
   obtain ⟨k1,k2,k3,k4,k5⟩:=om vA
   unfold gI at hg'
   rw[Array.getElem?_toList,ho] at hg'
   simp only[hw] at hg'
   refine inv'.write hfl hp dU hok ho k1 o9 k4 hw ?_ (k5 hw).2 hg' fun Se h2 φ2 a2 w2 inv2 hg2=>ih _ js _ _ Se h2 oq φ2 a2 w2 Tj inv2 lN hg2
   intro k hk
   rw[OV,Bool.or_eq_true] at hk
   rcases hk with hk | hk
   ·exact inv'.mS k hk
   ·exact CB (S:=kj listed) (os:=ops.toList) (fun j q hq hj=>inv'.W4 j q (by rw[←Array.getElem?_toList]; exact hq) hj) (by rw[Array.getElem?_toList]; exact ho) o9 k hk
end
theorem ou (hfl:¬good fl) (hp:fc good pr P) (hm:P.follows .mixedOrders=true):Cx good fl pr P:=by
 intro rec dU ops id nt hok φ tm h a w κ ht hr hg r0 Q hQ
 unfold i_ at hg
 split at hg
 ·contradiction
 split at hg
 ·rename_i l hl
  unfold xV at hl
  split at hl<;>try contradiction
  split at hl<;>try contradiction
  rename_i O0
  cases hl
  simp only[Bool.and_eq_true] at O0
  refine wpIn_region_any hm ?_
  have KR:∀i,¬kj (Array.replicate ops.size false) i:=by
   intro i hi
   unfold kj at hi
   simp only[Array.getD_eq_getD_getElem?,Array.getElem?_replicate] at hi
   split at hi<;>simp at hi
  refine KW (φ0:=φ) (h0:=h) (w0:=w) (ds:=a.defers) (iY:=tm) hfl hp dU hok ?_ hQ ops.size _ l 0 0 tm h (fun _=>none) φ a { w with drawn:=w.drawn+1 } ?_ ?_ O0.1 hg
  ·intro i o ho e he
   have:=O0.2
   rw[List.all_eq_true] at this
   have:=this _ (zZ ho)
   simp only[List.all_eq_true] at this
   exact cN (this e he)
  ·refine Nat.le_trans List.count_le_length (by simp)
  ·have nb:∀k,bit 0 k=true→False:=fun k hb=>by rw[zY] at hb; cases hb
   exact ⟨by simp,fun i hi=>absurd hi (KR i),fun i o _ hi=>absurd hi (KR i),fun i o _ hb=>(nb i hb).elim,fun i hb=>(nb i hb).elim,fun i o _ hb=>(nb i hb).elim,
    ht.small,ht.size,fun t hlt _=>ht.rel t hlt,hr.drew,(Ext.refl φ h w).drew,rfl,fun i o _ hb=>(nb i hb).elim,fun _ _ _=>rfl⟩
 ·exact absurd hg hfl
end Go.Vai

namespace Go.Vai
open Go
variable {pr:ji Bool} {P:Program} {w:World}
theorem HR.start (w:World):HR P (fun _=>none) ⟨0,.nil,0⟩ w:=
 ⟨fun _ _ _ _ e=>(by cases e),fun _ _ e=>(by cases e),fun b o _ e=>(by rw[T.get_nil] at e; cases e),by decide,fun _ _ _ _ _ _ _ _ _ _ e=>(by cases e),Nat.le_refl _⟩
def yes (b:Bool):Prop:=b=true
def KX:ji Bool:=⟨fun _=>none,fun a b=>match a with | true=>b | false=>false⟩
theorem yp:fc yes KX P:=⟨fun x y hxy=>by cases x<;>simp[KX,yes] at hxy ⊢; exact hxy,fun f g hg=>by cases hg⟩
end Go.Vai
