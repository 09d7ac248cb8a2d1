/-
  PROVED HERE: a part of the proof (AA2, AA3, AA4, SB1, SB2, AW1, AW2, AG1, AG2, AG3, AG4, AG5, AG6).
-/
import Derived.Test.YtmllggkhfmjpgaaGreatDoorG7
import Derived.Test.YtmllggkhfmjpgaaGreatDoorG3
set_option linter.unusedVariables false
set_option linter.unusedSimpArgs false
set_option maxRecDepth 100000
set_option maxHeartbeats 4000000
namespace Go.Proofs
open Go.Vai Go.Clashes
def gN (t r:Int) (p:L4):Bool:=decide (p.t=t∧p.r=r)
theorem adC (t r:Int) (p:L4) (b:Nat) (h:Heap) (κ:KQ) (hlo:h.lo≤h.nx) (hb:b<h.nx) (hg:h.bl.get b=some (aa [.int .i64 t,.int .i64 r] 28 false)) (hk:∀h',Le h h'→κ (.bool (gN t r p)) h') :
  CallW Tryz.prog 262 [tT p,ptrTo b] h κ:=by
 refine an mixed ?_
 rw[W3]
 simp(disch:=first|omega|simp only[Wd]<;>omega|rfl)only[Wz,bH,hg,pP]
 exact hk _ ((Le.refl h).new _)
theorem adD (L:List L4) (t r:Int) (h:Heap) (v:Value) (κ:KQ) (hv:Sl bH h v L) (hlen:L.length≤1000000) (hlo:h.lo≤h.nx) (hk:∀h',Le h h'→κ (.int .i64 (eZ (L.findIdx? (gN t r)))) h') :
  CallW Tryz.prog 182 [v,cN t r] h κ:=by
 refine an mixed ?_
 rw[Wm]
 simp(disch:=first|omega|simp only[Wd]<;>omega|rfl)only[Wz,cN]
 have hle:=(Le.refl h).new (aa [.int .i64 t,.int .i64 r] 28 false)
 refine yJ L (gN t r) _ v _ _ (hv.le hle) hlen ?_ fun h' hl=>hk h' (hle.trans hl)
 intro p hp h1 κ1 nY dy
 have uT:=nY.nx
 have hg1:=nY.get
 have Qy:=nY.lo
 dsimp only at uT hg1 Qy
 simp(disch:=first|omega|simp only[Wd]<;>omega|rfl)only[Wz]
 exact adC t r p _ h1 κ1 (by omega) (by omega) (by rw[hg1 _ (Nat.lt_succ_self _),T.af]) dy
def aN (L:List L4) (t r:Int):Int:=match L.find? (gN t r) with | some p=>p.m | none=>0
theorem nH (L:List L4) (F:L4→Bool):(L.findIdx? F=none∧L.find? F=none)∨∃i p,L.findIdx? F=some i∧L[i]? = some p∧F p=true∧L.find? F=some p:=by
 induction L with
 | nil=>exact .inl ⟨rfl,rfl⟩
 | cons a L ih=>
  cases hF:F a with
  | true=>exact .inr ⟨0,a,by simp[List.findIdx?_cons,hF],rfl,hF,by simp[List.find?,hF]⟩
  | false=>
   rcases ih with ⟨h1,h2⟩ | ⟨i,p,h1,h2,h3,h4⟩
   ·exact .inl ⟨by simp[List.findIdx?_cons,hF,h1],by simp[List.find?,hF,h2]⟩
   ·exact .inr ⟨i+1,p,by simp[List.findIdx?_cons,hF,h1],by simpa using h2,h3,by simp[List.find?,hF,h4]⟩
theorem i_ (L:List L4) (t r:Int) (h:Heap) (v:Value) (κ:KQ) (hv:Sl bH h v L) (hlen:L.length≤1000000) (hlo:h.lo≤h.nx) (hk:∀h',Le h h'→κ (.int .i64 (aN L t r)) h') :
  CallW Tryz.prog 130 [v,cN t r] h κ:=by
 refine an mixed ?_
 rw[VU]
 simp(disch:=first|omega|simp only[Wd]<;>omega|rfl)only[Wz,cN]
 have hle:=(Le.refl h).new (aa [.int .i64 t,.int .i64 r] 28 false)
 refine adD L t r _ v _ (hv.le hle) hlen (by show h.lo≤h.nx+1; omega) ?_
 intro h1 nY
 have hle1:=hle.trans nY
 have uT:=hle1.nx
 rcases nH L (gN t r) with ⟨h2,h3⟩ | ⟨i,p,h2,h3,h4,h5⟩
 ·simp only[h2,eZ]
  simp(disch:=first|omega|simp only[Wd]<;>omega|rfl)only[Wz]
  have:=hk h1 hle1
  simpa only [aN,h3] using this
 ·simp only[h2,eZ]
  obtain ⟨b,o,hb,nT,l_⟩:=ldP hv i h3
  simp(disch:=first|omega|simp only[Wd]<;>omega|rfl)only[Wz,nT,hle1.get,l_]
  have:=hk h1 hle1
  simpa only [aN,h5] using this
noncomputable def zHd:List Value:=match Lx Tryz.prog 46 with | some (z,_)=>z | none=>[]
theorem Y1:Lx Tryz.prog 46=some (zHd,4):=by kernel_rfl
theorem Y2:(match Tryz.prog.info? 46 with | some i=>(match i.zero with | some z=>Nat.beq z.cells.size 4 && Nat.ble i.bytes 10000 | none=>false) | none=>false)=true:=by decide +kernel
theorem SI:∃i z,Tryz.prog.info? 46=some i∧i.zero=some z∧z.cells.size=4∧i.bytes≤10000:=by
 have h:=Y2
 split at h<;>try contradiction
 rename_i i hi
 split at h<;>try contradiction
 rename_i z hz
 simp only[Bool.and_eq_true] at h
 exact ⟨i,z,hi,hz,bY h.1,ck h.2⟩
theorem Y3 {args:List Value} {h:Heap} {κ:Value→Heap→Prop} (hg:pV False 46 4 zHd args h κ):CallW Tryz.prog 255 args h κ:=by
 intro φ w args' ha hr
 obtain ⟨i,z,h1,h2,h3,h4⟩:=SI
 exact zK (good:=ok) rH (KX h1 h2 h3 h4 Tryz.underlying3) Tryz.underlying43 Y1 h1 h4 hr ha hg
theorem Pk (L:List L4):(L.flatMap bH).length=L.length*4:=bf bX L
theorem KY (L:List L4):(L.flatMap bH).all cZ=true:=by
 rw[List.all_flatMap]; simp only[List.all_eq_true]; intro x _; exact List.all_eq_true.1 (mU x)
theorem Pm {a h:Heap} {v:Value} {L:List L4} {p:L4} {i:Nat} {vb vc:Nat} (hi:i≤L.length) (ho:qU a h v L) (hle:Le a h) (hlen:L.length≤100000) (hlo:h.lo≤h.nx)
  (hvb:h.bl.get vb=some (aa (bH p) 46 false)) (hvn:vb<h.nx) (hne:i<L.length→∀b n c,v=.slice (some ⟨b,0,none⟩) n c→vb≠b) (κ:KQ)
  (hk:∀v' h',qU a h' v' (L.take i++[p]++L.drop i)→Le a h'→κ v' h'):CallW Tryz.prog 255 [v,.int .i64 (i:Int),.slice (some ⟨vb,0,none⟩) 1 vc] h κ:=by
 refine Y3 ?_
 have hx:Sl bH h (.slice (some ⟨vb,0,none⟩) 1 vc) [p]:=⟨_,vc,rfl,fun _=>⟨vb,0,rfl,hvn,by rw[hvb]; simpa using Has.all⟩⟩
 by_cases he:i=L.length
 ·subst he
  have key:bL False 46 4 zHd false v (.slice (some ⟨vb,0,none⟩) 1 vc) h κ:=by
   refine kG (enc:=bH) (a:=a) (M:=[p]) bX mU (by omega) (by omega) ho hx hle (by simp; omega) hlo _ ?_
   intro v' h' ho' hl' _ _
   refine hk v' h' ?_ hl'
   simpa using ho'
  have fin:∀(base:Option Addr) (cap:Nat),v=.slice base L.length cap→pV False 46 4 zHd [v,.int .i64 (L.length:Int),.slice (some ⟨vb,0,none⟩) 1 vc] h κ:=by
   rintro base cap rfl
   unfold pV
   show (match Nat.beq L.length L.length with | true=>_ | false=>_)
   rw[Nat.beq_refl]; exact key
  rcases ho with ⟨rfl,rfl | ⟨b,o,rfl⟩⟩ | ⟨b,rfl,_⟩
  ·exact fin _ _ rfl
  ·exact fin _ _ rfl
  ·exact fin _ _ rfl
 ·have hlt:i<L.length:=by omega
  rcases ho with ⟨rfl,_⟩ | ⟨b,rfl,h1,h2,h3,h4⟩
  ·simp at hlt
  ·have hne:=hne hlt b _ _ rfl
   unfold pV
   show (match Nat.beq i L.length with | true=>_ | false=>_)
   have e1:Nat.beq i L.length=false:=by
    cases hq:Nat.beq i L.length with
    | false=>rfl
    | true=>exact absurd (bY hq) he
   have e2:Nat.beq aM aM=true:=Nat.beq_refl _
   have e3:Nat.ble (i+1) L.length=true:=Nat.ble_eq_true_of_le hlt
   have e4:Nat.beq vb b=false:=by
    cases hq:Nat.beq vb b with
    | false=>rfl
    | true=>exact absurd (bY hq) hne
   have e5:Nat.ble (L.length+(0+1)) 1000000=true:=Nat.ble_eq_true_of_le (by omega)
   have Qv:Has (h.bl.get b) 0 (L.flatMap bH):=by rw[h4]; exact Has.all
   have hh2:Has (h.bl.get vb) 0 (bH p):=by rw[hvb]; exact Has.all
   have f1:∀κ:List Value→Prop,dH False h 4 L.length (.slice (some ⟨b,0,none⟩) L.length aM) κ=κ (L.flatMap bH):=fun κ=>iR Qv _ _ _ _ κ (Pk L).symm
   have f2:∀κ:List Value→Prop,dH False h 4 (0+1) (.slice (some ⟨vb,0,none⟩) (0+1) vc) κ=κ (bH p):=fun κ=>iR hh2 _ _ _ _ κ rfl
   have e6:((L.flatMap bH).all cZ && (bH p).all cZ)=true:=by rw[KY]; rfl
   have e7:Nat.beq 46 46=true:=rfl
   have g4:=h4
   have gvb:=hvb
   simp only[aa] at g4 gvb
   simp only[e1,e2,e3,e4,g4,gvb,e5,e7,f1,f2,e6]
   rw[bU _ _ _ _ h3]
   unfold cL
   have hfl:((L.flatMap bH).take (i*4)++bH p++(L.flatMap bH).drop (i*4))=(L.take i++[p]++L.drop i).flatMap bH:=by
    rw[ny bX,nD bX]; simp
   rw[hfl,iu _ _ _ _ (by rw[Pk]; simp; omega),dx]
   refine hk _ _ (.inr ⟨h.nx,?_,hle.nx,Nat.lt_succ_self _,hlo,T.af _ _ _⟩) ((hle.set h1 _).new _)
   rw[show (L.take i++[p]++L.drop i).length=L.length+(0+1) by simp; omega]
def qW (p x:L4):Bool:=decide (0<mP x.t x.r p.t p.r)
def cD (L:List L4) (p:L4):List L4:=match L.findIdx? (gN p.t p.r) with
 | some i=>L.set i p
 | none=>match L.findIdx? (qW p) with
  | some i=>L.take i++[p]++L.drop i
  | none=>L++[p]
theorem Y4 (p x:L4) (b:Nat) (h:Heap) (κ:KQ) (hlo:h.lo≤h.nx) (hb:b<h.nx) (hg:h.bl.get b=some (aa (bH p) 46 false)) (hk:∀h',Le h h'→κ (.bool (qW p x)) h') :
  CallW Tryz.prog 254 [tT x,ptrTo b] h κ:=by
 refine an mixed ?_
 rw[WZ]
 simp(disch:=first|omega|simp only[Wd]<;>omega|rfl)only[Wz,bH,hg]
 refine jw _ _ _ _ ?_
 have:=hk _ ((Le.refl h).new (aa (bH x) 46 false))
 by_cases h1:0<mP x.t x.r p.t p.r
 ·simp(disch:=first|omega|simp only[Wd]<;>omega|rfl)only[Wz]
  simp only[qW,bg h1,bH] at this; exact this
 ·simp(disch:=first|omega|simp only[Wd]<;>omega|rfl)only[Wz]
  simp only[qW,aV h1,bH] at this; exact this
def jf (h:Heap) (v:Value) (L:List L4):Prop:=Sl bH h v L∧uz 46 h v∧jX 8 v v=true
theorem jf.le {h h':Heap} {v:Value} {L:List L4} (s:jf h v L) (l:Le h h'):jf h' v L:=⟨s.1.le l,s.2.1.le l,s.2.2⟩
theorem jf.own {a h:Heap} {v:Value} {L:List L4} (o:qU a h v L):jf h v L:=⟨o.sl,uz.own o,o.same⟩
theorem jf.nil (h:Heap):jf h (.slice none 0 0) []:=⟨Sl.nil _ _ _,(fun b o n c e=>by cases e),rM _ _⟩
theorem jf.cell {h:Heap} {v:Value} {L:List L4} (s:jf h v L):∃x c,v=.slice x L.length c:=by
 obtain ⟨x,c,rfl,_⟩:=s.1
 exact ⟨x,c,rfl⟩
theorem jf.keep {h h':Heap} {v:Value} {L:List L4} (s:jf h v L) (hn:h.nx≤h'.nx) (hg:∀c vs op,c<h.nx→h.bl.get c=some (aa vs 46 op)→h'.bl.get c=h.bl.get c):jf h' v L:=by
 obtain ⟨⟨x,cap,rfl,h2⟩,t,q⟩:=s
 refine ⟨⟨x,cap,rfl,fun hn0=>?_⟩,fun b o n c hv hn0=>?_,q⟩
 ·obtain ⟨b,o,rfl,h3,h4⟩:=h2 hn0
  obtain ⟨h1,vs,op,h5⟩:=t b o _ cap rfl (by intro h0; exact hn0 (List.eq_nil_of_length_eq_zero h0))
  exact ⟨b,o,rfl,by omega,by rw[hg b vs op h1 h5]; exact h4⟩
 ·obtain ⟨h1,vs,op,h5⟩:=t b o n c hv hn0
  exact ⟨by omega,vs,op,(hg b vs op h1 h5).trans h5⟩
theorem Pn (L:List L4) (p:L4) (h:Heap) (v:Value) (κ:KQ) (hv:Sl bH h v L) (hlen:L.length≤100000) (hlo:h.lo≤h.nx) (hk:∀v' h',jf h' v' (cD L p)→Le h h'→κ v' h') :
  CallW Tryz.prog 177 [v,tT p] h κ:=by
 refine an mixed ?_
 rw[Wj]
 simp(disch:=first|omega|simp only[Wd]<;>omega|rfl)only[Wz,bH]
 obtain ⟨hA,aH⟩:∃hA:Heap,hA=⟨h.nx+1,(h.bl.aT (h.nx) (aa [.int .i64 p.x,.int .i64 p.t,.int .i64 p.r,.int .i64 p.m] 46 false)),h.lo⟩:=⟨_,rfl⟩
 have aL:Le h hA:=by subst aH; exact ((Le.refl h).new _)
 have gA:hA.bl.get (h.nx)=some (aa [.int .i64 p.x,.int .i64 p.t,.int .i64 p.r,.int .i64 p.m] 46 false):=by subst aH; exact T.af _ _ _
 have ef:hA.nx=h.nx+1:=by subst aH; rfl
 have ej:hA.lo=h.lo:=by subst aH; rfl
 rw[←aH]
 clear aH
 refine sC L hA v _ (hv.le aL) (by omega) (by omega) ?_
 intro v2 h2 lY hle2
 have n2:=hle2.nx
 have l2:=hle2.lo
 have g2:=(hle2.get h.nx (by omega)).trans gA
 simp(disch:=first|omega|simp only[Wd]<;>omega|rfl)only[Wz,g2]
 refine adD L p.t p.r h2 v2 _ lY.sl (by omega) (by omega) ?_
 intro h3 bE
 have n3:=bE.nx
 have l3:=bE.lo
 have g3:=(bE.get h.nx (by omega)).trans g2
 have lD:=hle2.trans bE
 rcases nH L (gN p.t p.r) with ⟨f1,_⟩ | ⟨i,q,f1,f2,_,_⟩
 ·simp only[f1,eZ]
  simp(disch:=first|omega|simp only[Wd]<;>omega|rfl)only[Wz,DB]
  refine yJ L (qW p) h3 v2 _ _ (lY.sl.le bE) (by omega) ?_ ?_
  ·intro x hx h4 κ4 ct z7
   have n4:=ct.nx
   have l4:=ct.lo
   simp(disch:=first|omega|simp only[Wd]<;>omega|rfl)only[Wz]
   exact Y4 p x h.nx h4 κ4 (by omega) (by omega) ((ct.get h.nx (by omega)).trans g3) z7
  ·intro h4 ct
   have n4:=ct.nx
   have l4:=ct.lo
   have g4:=(ct.get h.nx (by omega)).trans g3
   have mM:=lD.trans ct
   refine ⟨fun l h'=>h4=h'∧∃j:Nat,slot l 4=.int .i64 (j:Int)∧j≤L.length∧L.take j++[p]++L.drop j=cD L p,?_,?_⟩
   ·rcases nH L (qW p) with ⟨e1,_⟩ | ⟨j,q,e1,e2,_,_⟩
    ·simp only[e1,eZ]
     simp(disch:=first|omega|simp only[Wd]<;>omega|rfl)only[Wz,lY.sl.len]
     exact ⟨trivial,L.length,rfl,Nat.le_refl _,by simp[cD,f1,e1]⟩
    ·simp only[e1,eZ]
     simp(disch:=first|omega|simp only[Wd]<;>omega|rfl)only[Wz]
     have hj:=(List.getElem?_eq_some_iff.1 e2).1
     exact ⟨trivial,j,rfl,by omega,by simp[cD,f1,e1]⟩
   ·rintro l h' ⟨rfl,j,hs,hj,hput⟩
    simp(disch:=first|omega|simp only[Wd]<;>omega|rfl)only[Wz,hs,g4]
    refine Pm (a:=hA) (L:=L) (p:=p) hj ((lY.le (bE.trans ct)).le ((Le.refl _).new _)) ((mM).new _) hlen (by show h4.lo≤h4.nx+1; omega) (T.af _ _ _) (Nat.lt_succ_self _) ?_ _ ?_
    ·intro hlt b n c e
     subst e
     rcases lY with ⟨e,_⟩ | ⟨b',e,_,b2,_⟩
     ·subst e; simp at hlt
     ·cases e; have:=(bE.trans ct).nx; omega
    ·intro v' h5 rX ee
     rw[hput] at rX
     exact hk v' h5 (.own rX) (aL.trans ee)
 ·simp only[f1,eZ]
  have hi:i<L.length:=(List.getElem?_eq_some_iff.1 f2).1
  have nX:=lY.le bE
  rcases nX with ⟨rfl,_⟩ | ⟨b,rfl,b1,b2,b3,b4⟩
  ·simp at hi
  ·have hfl:=Pk L
   have Bj:=qG bX L i p hi
   simp only[bH] at Bj
   simp(disch:=first|omega|simp only[Wd]<;>omega|rfl)only[Wz,g3,aW,b4,Bj]
   have hput:cD L p=L.set i p:=by simp only[cD,f1]
   rw[hput] at hk
   refine hk _ _ ⟨⟨_,aM,by rw[List.length_set],fun _=>⟨b,0,rfl,b2,by rw[T.af]; exact Has.all⟩⟩,fun b' o' n' c' e _=>?_,gu _ _ _ _⟩ (aL.trans ((lD).set b1 _))
   cases e
   exact ⟨b2,_,_,T.af _ _ _⟩
def bS (L:List L4) (t r:Int):List L4:=L.filter fun p=>!gN t r p
theorem SJ (t r:Int) (p:L4) (b:Nat) (h:Heap) (κ:KQ) (hlo:h.lo≤h.nx) (hb:b<h.nx) (hg:h.bl.get b=some (aa [.int .i64 t,.int .i64 r] 28 false)) (hk:∀h',Le h h'→κ (.bool (gN t r p)) h') :
  CallW Tryz.prog 265 [tT p,ptrTo b] h κ:=by
 refine an mixed ?_
 rw[W4]
 simp(disch:=first|omega|simp only[Wd]<;>omega|rfl)only[Wz,bH,hg,pP]
 exact hk _ ((Le.refl h).new _)
theorem Hu (L:List L4) (t r:Int) (h:Heap) (v:Value) (κ:KQ) (hv:Sl bH h v L) (hlen:L.length≤100000) (hlo:h.lo≤h.nx) (hk:∀v' h',jf h' v' (bS L t r)→Le h h'→κ v' h') :
  CallW Tryz.prog 188 [v,cN t r] h κ:=by
 refine an mixed ?_
 rw[Ws]
 simp(disch:=first|omega|simp only[Wd]<;>omega|rfl)only[Wz,cN]
 obtain ⟨hA,aH⟩:∃hA:Heap,hA=⟨h.nx+1,(h.bl.aT (h.nx) (aa [.int .i64 t,.int .i64 r] 28 false)),h.lo⟩:=⟨_,rfl⟩
 have aL:Le h hA:=by subst aH; exact ((Le.refl h).new _)
 have gA:hA.bl.get (h.nx)=some (aa [.int .i64 t,.int .i64 r] 28 false):=by subst aH; exact T.af _ _ _
 have ef:hA.nx=h.nx+1:=by subst aH; rfl
 have ej:hA.lo=h.lo:=by subst aH; rfl
 rw[←aH]
 clear aH
 refine sC L hA v _ (hv.le aL) (by omega) (by omega) ?_
 intro v2 h2 lY hle2
 have n2:=hle2.nx
 have l2:=hle2.lo
 refine KR hA h2 L (gN t r) v2 _ _ hle2 lY hlen (by omega) ?_ ?_
 ·intro p h3 κ3 bE _ y3
  have n3:=bE.nx
  have l3:=bE.lo
  simp(disch:=first|omega|simp only[Wd]<;>omega|rfl)only[Wz]
  exact SJ t r p h.nx h3 κ3 (by omega) (by omega) ((bE.get h.nx (by omega)).trans gA) y3
 ·intro v' h3 hs MS bE _ ht
  refine hk v' h3 ⟨hs,ht,?_⟩ (aL.trans bE)
  rcases MS with ⟨_,rfl⟩ | ⟨_,b,o,rfl⟩ | ⟨b,o,cap,rfl,_⟩ | ⟨b,vs,n,rfl,_⟩
  ·exact rM _ _
  ·exact gu _ _ _ _
  ·exact gu _ _ _ _
  ·exact gu _ _ _ _
theorem Y5 (a0 a1:Value) (h:Heap) (κ:KQ):aK Tryz.prog 328 [a0,a1] h κ=dX Tryz.prog 3 2 a0 a1 h κ:=by kernel_rfl
theorem Y6 (a0 a1:Value) (h:Heap) (κ:KQ):aK Tryz.prog 259 [a0,a1] h κ=fV Tryz.prog 3 328 a0 a1 h κ:=by kernel_rfl
theorem Fk (L:List N2) (F:N2→Bool) (h:Heap) (v fv:Value) (κ:KQ) (hv:Sl fe h v L) (hlen:L.length≤1000000)
  (hF:∀p,p∈L→∀(h1:Heap) (κ1:Value→Heap→Prop),Le h h1→(∀h2,Le h1 h2→κ1 (.bool (F p)) h2)→eU Tryz.prog fv [zw fe p] h1 κ1)
  (hk:∀h',Le h h'→κ (.bool (L.any F)) h'):CallW Tryz.prog 259 [v,fv] h κ:=lT mixed encN_len Y5 Y6 L F h v fv κ hv hlen hF hk
def qn (a m:Int):Bool:=decide (a=6) || ((decide (a=3) || decide (a=4) || decide (a=5)) && (decide (m=1) || decide (m=3)))
theorem Y7:∀i,i<7→∀j,j<7→bx Tryz.prog 200 261 [.int .i64 (.ofNat i),.int .i64 (.ofNat j)] (.bool (qn (.ofNat i) (.ofNat j)))=true:=by decide +kernel
theorem Y8 (n:Nat) (b:Int):bx Tryz.prog 200 261 [.int .i64 (.negSucc n),.int .i64 b] (.bool (qn (.negSucc n) b))=true:=by kernel_rfl
theorem Y9 (n:Nat) (b:Int):bx Tryz.prog 200 261 [.int .i64 (.ofNat (n+7)),.int .i64 b] (.bool (qn (.ofNat (n+7)) b))=true:=by kernel_rfl
theorem Y_:∀i,i<7→∀n:Nat,bx Tryz.prog 200 261 [.int .i64 (.ofNat i),.int .i64 (.negSucc n)] (.bool (qn (.ofNat i) (.negSucc n)))=true:=by
 refine seven ?_ ?_ ?_ ?_ ?_ ?_ ?_<;>intro n<;>kernel_rfl
theorem Za:∀i,i<7→∀n:Nat,bx Tryz.prog 200 261 [.int .i64 (.ofNat i),.int .i64 (.ofNat (n+7))] (.bool (qn (.ofNat i) (.ofNat (n+7))))=true:=by
 refine seven ?_ ?_ ?_ ?_ ?_ ?_ ?_<;>intro n<;>kernel_rfl
theorem Zb (a b:Int) {h:Heap} {κ:Value→Heap→Prop} (hk:κ (.bool (qn a b)) h):CallW Tryz.prog 261 [.int .i64 a,.int .i64 b] h κ:=
 pI mixed (F:=fun a b=>.bool (qn a b)) Y7 Y8 Y9 Y_ Za a b hk
def Fl (t r m:Int):Bool:=decide (a_ t r≠-1) && kn m && decide (m≠0)
theorem SK (t r m:Int) {h:Heap} {κ:Value→Heap→Prop} (hk:κ (.bool (Fl t r m)) h):CallW Tryz.prog 258 [cN t r,.int .i64 m] h κ:=by
 refine gT (v:=.bool (Fl t r m)) rfl rfl (an mixed ?_) hk
 rw[W0]
 simp(disch:=first|omega|simp only[Wd]<;>omega|rfl)only[Wz,cN]
 refine mQ t r ?_
 by_cases hl:a_ t r = -1
 ·rw[if_pos hl]
  simp(disch:=first|omega|simp only[Wd]<;>omega|rfl)only[Wz,aV (show ¬(2:Int)=0 by decide)]
  simp[Fl,hl]
 ·rw[if_neg hl]
  simp(disch:=first|omega|simp only[Wd]<;>omega|rfl)only[Wz]
  refine nE m ?_
  cases hkn:kn m with
  | false=>simp(disch:=first|omega|simp only[Wd]<;>omega|rfl)only[Wz]; simp[Fl,hl,hkn]
  | true=>
   by_cases h0:m=0
   ·simp(disch:=first|omega|simp only[Wd]<;>omega|rfl)only[Wz,bg h0]; simp[Fl,hl,hkn,h0]
   ·simp(disch:=first|omega|simp only[Wd]<;>omega|rfl)only[Wz,aV h0]; simp[Fl,hl,hkn,h0]
def KZ (f:Int→Int→Int) (t r m:Int):Bool:=!Fl t r m || jT (f t r) m || (me t r).any fun a=>qn (f a.1 a.2) m
theorem Zc (L:List L4) (t r m:Int) (b1 b5:Nat) (h:Heap) (v:Value) (κ:KQ) (hv:Sl bH h v L) (hlen:L.length≤100000) (hlo:h.lo≤h.nx) (n1:b1<h.nx) (n5:b5<h.nx)
  (g1:h.bl.get b1=some (aa [v] 43 false)) (g5:h.bl.get b5=some (aa [.int .i64 m] 29 false)) (hk:∀h',Le h h'→κ (.bool (qn (aN L t r) m)) h'):CallW Tryz.prog 260 [cN t r,ptrTo b1,ptrTo b5] h κ:=by
 refine an mixed ?_
 rw[W2]
 simp(disch:=first|omega|simp only[Wd]<;>omega|rfl)only[Wz,cN,g1,g5]
 have hle:=(Le.refl h).new (aa [.int .i64 t,.int .i64 r] 28 false)
 refine i_ L t r _ v _ (hv.le hle) (by omega) (by show h.lo≤h.nx+1; omega) ?_
 intro h' hl'
 have hall:=hle.trans hl'
 have g5':=(hall.get b5 n5).trans g5
 simp(disch:=first|omega|simp only[Wd]<;>omega|rfl)only[Wz,g5']
 exact Zb _ _ (hk h' hall)
theorem K0 (L:List L4) (t r m:Int) (h:Heap) (v:Value) (κ:KQ) (hv:Sl bH h v L) (hlen:L.length≤100000) (hlo:h.lo≤h.nx) (hk:∀h',Le h h'→κ (.bool (KZ (aN L) t r m)) h') :
  CallW Tryz.prog 179 [v,cN t r,.int .i64 m] h κ:=by
 refine an mixed ?_
 rw[Wk]
 have hv0:=hv
 obtain ⟨x,cap,rfl,hx⟩:=hv
 simp(disch:=first|omega|simp only[Wd]<;>omega|rfl)only[Wz,cN]
 obtain ⟨hA,eA⟩:∃hA:Heap,hA=⟨h.nx+1+1+1,T.aT (T.aT (h.bl.aT h.nx (aa [.slice x L.length cap] 43 false)) (h.nx+1) (aa [.int .i64 t,.int .i64 r] 28 false)) (h.nx+1+1) (aa [.int .i64 m] 29 false),h.lo⟩:=⟨_,rfl⟩
 have iz:Le h hA:=by subst eA; exact (((Le.refl h).new _).new _).new _
 have g1:hA.bl.get h.nx=some (aa [.slice x L.length cap] 43 false):=by subst eA; exact (T.ai _ _ (by omega)).trans ((T.ai _ _ (by omega)).trans (T.af _ _ _))
 have g3:hA.bl.get (h.nx+1)=some (aa [.int .i64 t,.int .i64 r] 28 false):=by subst eA; exact (T.ai _ _ (by omega)).trans (T.af _ _ _)
 have g5:hA.bl.get (h.nx+1+1)=some (aa [.int .i64 m] 29 false):=by subst eA; exact T.af _ _ _
 have nA:hA.nx=h.nx+1+1+1:=by subst eA; rfl
 have lA:hA.lo=h.lo:=by subst eA; rfl
 rw[←eA]
 clear eA
 refine SK t r m ?_
 have hvA:=hv0.le iz
 cases ha:Fl t r m with
 | false=>
  simp(disch:=first|omega|simp only[Wd]<;>omega|rfl)only[Wz]
  have:=hk hA iz
  simpa[KZ,ha] using this
 | true=>
  simp(disch:=first|omega|simp only[Wd]<;>omega|rfl)only[Wz,g1,g3,g5]
  refine i_ L t r hA _ _ hvA (by omega) (by omega) ?_
  intro h2 hle2
  have n2:=hle2.nx
  have l2:=hle2.lo
  have Qq:=(hle2.get _ (by omega)).trans g3
  have g5':=(hle2.get _ (by omega)).trans g5
  have PY:=(hle2.get _ (by omega)).trans g1
  simp(disch:=first|omega|simp only[Wd]<;>omega|rfl)only[Wz,g5']
  refine mL _ _ ?_
  have Fm:=iz.trans hle2
  cases hc:jT (aN L t r) m with
  | true=>
   simp(disch:=first|omega|simp only[Wd]<;>omega|rfl)only[Wz]
   have:=hk h2 Fm
   simpa[KZ,ha,hc] using this
  | false=>
   simp(disch:=first|omega|simp only[Wd]<;>omega|rfl)only[Wz,Qq]
   refine Js t r h2 _ (by omega) ?_
   intro u h3 hu _ bE
   have n3:=bE.nx
   have l3:=bE.lo
   have hlA:(me t r).length≤2:=by unfold me; split<;>(try split)<;>simp
   refine Fk (me t r) (fun a=>qn (aN L a.1 a.2) m) h3 u _ _ hu (by omega) ?_ ?_
   ·intro p hp h4 κ4 ct z7
    have n4:=ct.nx
    have l4:=ct.lo
    simp(disch:=first|omega|simp only[Wd]<;>omega|rfl)only[Wz,List.nil_append,List.cons_append]
    exact Zc L p.1 p.2 m h.nx (h.nx+1+1) h4 _ κ4 (((hvA.le hle2).le bE).le ct) hlen (by omega) (by omega) (by omega)
     ((ct.get _ (by omega)).trans ((bE.get _ (by omega)).trans PY)) ((ct.get _ (by omega)).trans ((bE.get _ (by omega)).trans g5')) z7
   ·intro h4 ct
    have:=hk h4 ((Fm.trans bE).trans ct)
    simpa[KZ,ha,hc] using this
abbrev N3:=Int × Int × Int
def mV (p:N3):List Value:=[.int .i64 p.1,.int .i64 p.2.1,.int .i64 p.2.2]
theorem sD (p:N3):(mV p).length=3:=rfl
theorem yM (p:N3):(mV p).all cZ=true:=rfl
def K_ (f:Int→Int→Int) (m:Int) (A:List N2):List N3:=(A.filter fun a=>!jT (f a.1 a.2) (lX m)).map fun a=>(a.1,a.2,bR (f a.1 a.2) (lX m))
def jx (f:Int→Int→Int) (t r m:Int):List N3:=if KZ f t r m=true then [] else K_ f m (me t r)++[(t,r,bR (f t r) m)]
theorem Fo {f:Int→Int→Int} {m:Int} {A:List N2} {k:Nat} {a:N2} (ha:A[k]? = some a):K_ f m (A.take (k+1))=K_ f m (A.take k)++if jT (f a.1 a.2) (lX m)=true then [] else [(a.1,a.2,bR (f a.1 a.2) (lX m))]:=by
 obtain ⟨hj,rfl⟩:=List.getElem?_eq_some_iff.1 ha
 unfold K_
 rw[List.take_succ_eq_append_getElem hj,List.filter_append,List.map_append]
 cases h:jT (f A[k].1 A[k].2) (lX m)<;>simp[h]
theorem Jv (f:Int→Int→Int) (m:Int) (A:List N2):(K_ f m A).length≤A.length:=by
 unfold K_; rw[List.length_map]; exact List.length_filter_le _ _
theorem Zd (L:List L4) (t r m:Int) (h:Heap) (v:Value) (κ:KQ) (hv:Sl bH h v L) (hlen:L.length≤100000) (hlo:h.lo≤h.nx) (hk:∀v' h',d_ mV 160 h' v' (jx (aN L) t r m)→Le h h'→κ v' h') :
  CallW Tryz.prog 128 [v,cN t r,.int .i64 m] h κ:=by
 refine an mixed ?_
 rw[VT]
 simp(disch:=first|omega|simp only[Wd]<;>omega|rfl)only[Wz,cN]
 obtain ⟨hA,eA⟩:∃hA:Heap,hA=⟨h.nx+1,h.bl.aT h.nx (aa [.int .i64 t,.int .i64 r] 28 false),h.lo⟩:=⟨_,rfl⟩
 have iz:Le h hA:=by subst eA; exact (Le.refl h).new _
 have gA:hA.bl.get h.nx=some (aa [.int .i64 t,.int .i64 r] 28 false):=by subst eA; exact T.af _ _ _
 have nA:hA.nx=h.nx+1:=by subst eA; rfl
 have lA:hA.lo=h.lo:=by subst eA; rfl
 rw[←eA]
 clear eA
 refine K0 L t r m hA v _ (hv.le iz) hlen (by omega) ?_
 intro h2 hle2
 have n2:=hle2.nx
 have l2:=hle2.lo
 have g2:=(hle2.get h.nx (by omega)).trans gA
 have Fm:=iz.trans hle2
 cases himp:KZ (aN L) t r m with
 | true=>
  simp(disch:=first|omega|simp only[Wd]<;>omega|rfl)only[Wz]
  exact hk _ _ (.inl ⟨by simp[jx,himp],rfl⟩) Fm
 | false=>
  simp(disch:=first|omega|simp only[Wd]<;>omega|rfl)only[Wz]
  refine Fi m ?_
  simp(disch:=first|omega|simp only[Wd]<;>omega|rfl)only[Wz,g2]
  refine Js t r h2 _ (by omega) ?_
  intro u h3 hu _ bE
  have n3:=bE.nx
  have l3:=bE.lo
  have hlA:=vM t r
  have lD:=Fm.trans bE
  simp(disch:=first|omega|simp only[Wd]<;>omega|rfl)only[Wz,hu.len]
  refine ⟨fun n l h4=>Le h3 h4∧∃k:Nat,slot l 22=.int .i64 (k:Int)∧k≤(me t r).length∧n=(me t r).length-k∧gL mV h3 160 h4 (slot l 20) (K_ (aN L) m ((me t r).take k)),⟨_,Le.refl _,0,rfl,Nat.zero_le _,rfl,.inl ⟨rfl,.inl rfl⟩⟩,?_⟩
  rintro n l h4 ⟨ct,k,s4,z7,rfl,Lu⟩
  have n4:=ct.nx
  have l4:=ct.lo
  have mM:=lD.trans ct
  have hu4:=Jv (aN L) m ((me t r).take k)
  rw[List.length_take] at hu4
  by_cases hlt:k<(me t r).length
  ·obtain ⟨a,ha⟩:∃a,(me t r)[k]? = some a:=⟨_,List.getElem?_eq_getElem hlt⟩
   obtain ⟨b,o,hb,nT,l_⟩:=ldN (hu.le ct) k ha
   simp(disch:=first|omega|simp only[Wd]<;>omega|rfl)only[Wz,xq,s4]
   refine ⟨fun uD h5=>Le h3 h5∧gL mV h3 160 h5 (slot uD 19) (K_ (aN L) m ((me t r).take (k+1))),?_,?_⟩
   ·simp(disch:=first|omega|simp only[Wd]<;>omega|rfl)only[Wz,Dr,s4,nT,l_,fe]
    obtain ⟨hB,eB⟩:∃hB:Heap,hB=⟨h4.nx+1,h4.bl.aT h4.nx (aa [.int .i64 a.1,.int .i64 a.2] 28 false),h4.lo⟩:=⟨_,rfl⟩
    have qM:Le h4 hB:=by subst eB; exact (Le.refl h4).new _
    have gB:hB.bl.get h4.nx=some (aa [.int .i64 a.1,.int .i64 a.2] 28 false):=by subst eB; exact T.af _ _ _
    have lB:hB.lo=h4.lo:=by subst eB; rfl
    have nB:hB.nx=h4.nx+1:=by subst eB; rfl
    rw[←eB]
    clear eB
    refine i_ L a.1 a.2 hB v _ (hv.le (mM.trans qM)) (by omega) (by omega) ?_
    intro h5 ee
    have n5:=ee.nx
    have l5:=ee.lo
    have g5:=(ee.get h4.nx (by omega)).trans gB
    have qj:=(ct.trans qM).trans ee
    refine mL _ _ ?_
    have rX:=(Lu.le qM).le ee
    cases hc:jT (aN L a.1 a.2) (lX m) with
    | true=>
     simp(disch:=first|omega|simp only[Wd]<;>omega|rfl)only[Wz]
     refine ⟨qj,?_⟩
     rw[Fo ha,if_pos hc,List.append_nil]
     exact rX
    | false=>
     simp(disch:=first|omega|simp only[Wd]<;>omega|rfl)only[Wz,Dq,g5]
     refine uE _ _ ?_
     simp(disch:=first|omega|simp only[Wd]<;>omega|rfl)only[Wz,g5,rX.same]
     have nF:=(Le.refl h5).new (aa [.int .i64 a.1,.int .i64 a.2,.int .i64 (bR (aN L a.1 a.2) (lX m))] 160 false)
     refine kG (enc:=mV) (a:=h3) (L:=K_ (aN L) m ((me t r).take k)) (M:=[(a.1,a.2,bR (aN L a.1 a.2) (lX m))]) sD yM (by omega) (by omega) (rX.le nF) ⟨_,1,rfl,fun _=>⟨h5.nx,0,rfl,Nat.lt_succ_self _,by show Has ((T.aT _ _ _).get _) 0 _; rw[T.af]; exact Has.all⟩⟩ (qj.trans nF)
      (by simp; omega) (by show h5.lo≤h5.nx+1; omega) _ ?_
     intro v' h' ho' hl' _ _
     refine ⟨hl',?_⟩
     rw[Fo ha,hc,if_neg (by simp)]
     exact ho'
   ·rintro uD h5 ⟨Uf,rX⟩
    exact ⟨_,by omega,Uf,k+1,rfl,by omega,rfl,rX⟩
  ·have hkk:k=(me t r).length:=by omega
   subst hkk
   rw[List.take_length] at Lu hu4
   have g4:=(ct.get h.nx (by omega)).trans ((bE.get h.nx (by omega)).trans g2)
   simp(disch:=first|omega|simp only[Wd]<;>omega|rfl)only[Wz,xq,s4,Ds,g4]
   refine i_ L t r h4 v _ (hv.le mM) (by omega) (by omega) ?_
   intro h5 ee
   have n5:=ee.nx
   have l5:=ee.lo
   have g5:=(ee.get h.nx (by omega)).trans g4
   have rX:=Lu.le ee
   have qj:=ct.trans ee
   simp(disch:=first|omega|simp only[Wd]<;>omega|rfl)only[Wz,g5,rX.same]
   refine uE _ _ ?_
   simp(disch:=first|omega|simp only[Wd]<;>omega|rfl)only[Wz,g5,rX.same]
   have nF:=(Le.refl h5).new (aa [.int .i64 t,.int .i64 r,.int .i64 (bR (aN L t r) m)] 160 false)
   refine kG (enc:=mV) (a:=h3) (L:=K_ (aN L) m (me t r)) (M:=[(t,r,bR (aN L t r) m)]) sD yM (by omega) (by omega) (rX.le nF) ⟨_,1,rfl,fun _=>⟨h5.nx,0,rfl,Nat.lt_succ_self _,by show Has ((T.aT _ _ _).get _) 0 _; rw[T.af]; exact Has.all⟩⟩ (qj.trans nF)
    (by simp; omega) (by show h5.lo≤h5.nx+1; omega) _ ?_
   intro v' h' ho' hl' _ _
   have e:jx (aN L) t r m=K_ (aN L) m (me t r)++[(t,r,bR (aN L t r) m)]:=by rw[jx,himp]; simp
   rw[←e] at ho'
   exact hk v' h' (d_.own ho' (by rw[e]; simp)) (lD.trans hl')
theorem Po (L:List N2) (t r:Int) (h:Heap) (v:Value) (κ:KQ) (hv:Sl fe h v L) (hlen:L.length≤1000000)
  (hk:∀h',Le h h'→κ (.int .i64 (eZ (L.findIdx? fun a=>decide (t=a.1∧r=a.2)))) h'):CallW Tryz.prog 329 [v,cN t r] h κ:=by
 refine an mixed ?_
 rw[Xr]
 simp(disch:=first|omega|simp only[Wd]<;>omega|rfl)only[Wz,cN,hv.len]
 obtain ⟨hA,eA⟩:∃hA:Heap,hA=⟨h.nx+1,h.bl.aT h.nx (aa [.int .i64 t,.int .i64 r] 28 false),h.lo⟩:=⟨_,rfl⟩
 have iz:Le h hA:=by subst eA; exact (Le.refl h).new _
 have gA:hA.bl.get h.nx=some (aa [.int .i64 t,.int .i64 r] 28 false):=by subst eA; exact T.af _ _ _
 rw[←eA]
 clear eA
 refine ⟨fun n l h1=>HQ hA h1∧∃k:Nat,slot l 12=.int .i64 (k:Int)∧k≤L.length∧n=L.length-k∧∀(j:Nat) p,j<k→L[j]? = some p→decide (t=p.1∧r=p.2)=false,⟨_,rfl,0,rfl,Nat.zero_le _,rfl,by omega⟩,?_⟩
 rintro n l h1 ⟨hE,k,hs,hkl,rfl,hno⟩
 cases (show hA=h1 from hE)
 by_cases hlt:k<L.length
 ·obtain ⟨p,hp⟩:∃p,L[k]? = some p:=⟨_,List.getElem?_eq_getElem hlt⟩
  obtain ⟨b,o,hb,nT,l_⟩:=ldN (hv.le iz) k hp
  by_cases hc:t=p.1∧r=p.2
  ·simp(disch:=first|omega|simp only[Wd]<;>omega|rfl)only[Wz,hs,xK,gA,nT,l_,fe,pP,bg hc]
   have:L.findIdx? (fun a=>decide (t=a.1∧r=a.2))=some k:=by
    rw[List.findIdx?_eq_some_iff_getElem]
    obtain ⟨dy,hk2⟩:=List.getElem?_eq_some_iff.1 hp
    refine ⟨dy,by rw[hk2]; exact decide_eq_true hc,fun j hj=>?_⟩
    have:=hno j _ hj (List.getElem?_eq_getElem (by omega))
    rw[this]; simp
   have hk2:=hk hA iz
   rw[this] at hk2
   exact hk2
  ·simp(disch:=first|omega|simp only[Wd]<;>omega|rfl)only[Wz,hs,xK,gA,nT,l_,fe,pP,aV hc]
   refine ⟨_,by omega,rfl,k+1,rfl,by omega,rfl,fun j q hj hq=>?_⟩
   rcases Nat.lt_or_ge j k with h4 | h4
   ·exact hno j q h4 hq
   ·obtain rfl:j=k:=by omega
    rw[hp] at hq; cases hq; exact decide_eq_false hc
 ·simp(disch:=first|omega|simp only[Wd]<;>omega|rfl)only[Wz,hs]
  have:L.findIdx? (fun a=>decide (t=a.1∧r=a.2))=none:=by
   rw[List.findIdx?_eq_none_iff]
   intro p hp
   obtain ⟨j,hj,rfl⟩:=List.mem_iff_getElem.1 hp
   exact hno j _ (by omega) (List.getElem?_eq_getElem hj)
  have hk2:=hk hA iz
  rw[this] at hk2
  exact hk2
theorem BV (L:List N2) (t r:Int) (h:Heap) (v:Value) (κ:KQ) (hv:Sl fe h v L) (hlen:L.length≤1000000)
  (hk:∀h',Le h h'→κ (.bool (L.any fun a=>decide (t=a.1∧r=a.2))) h'):CallW Tryz.prog 268 [v,cN t r] h κ:=by
 refine an mixed ?_
 rw[W6]
 simp(disch:=first|omega|simp only[Wd]<;>omega|rfl)only[Wz,cN]
 have hle:=(Le.refl h).new (aa [.int .i64 t,.int .i64 r] 28 false)
 refine Po L t r _ v _ (hv.le hle) hlen ?_
 intro h' hl
 have:=hk h' (hle.trans hl)
 rw[←C7] at this
 by_cases h0:eZ (L.findIdx? fun a=>decide (t=a.1∧r=a.2))<0
 ·simp(disch:=first|omega|simp only[Wd]<;>omega|rfl)only[Wz]
  rwa [aV (by omega)] at this
 ·simp(disch:=first|omega|simp only[Wd]<;>omega|rfl)only[Wz]
  rwa [bg (by omega)] at this
def yN (K:List L4) (t r:Int):Bool:=K.any fun x=>(me x.t x.r).any fun a=>decide (a.1=t∧a.2=r)
theorem Pp (t r:Int) (p:L4) (b:Nat) (h:Heap) (κ:KQ) (hlo:h.lo≤h.nx) (hb:b<h.nx) (hg:h.bl.get b=some (aa [.int .i64 t,.int .i64 r] 28 false))
  (hk:∀h',Le h h'→κ (.bool ((me p.t p.r).any fun a=>decide (t=a.1∧r=a.2))) h'):CallW Tryz.prog 267 [tT p,ptrTo b] h κ:=by
 refine an mixed ?_
 rw[W5]
 simp(disch:=first|omega|simp only[Wd]<;>omega|rfl)only[Wz,bH,hg]
 obtain ⟨hA,eA⟩:∃hA:Heap,hA=⟨h.nx+1,h.bl.aT h.nx (aa [.int .i64 p.x,.int .i64 p.t,.int .i64 p.r,.int .i64 p.m] 46 false),h.lo⟩:=⟨_,rfl⟩
 have iz:Le h hA:=by subst eA; exact (Le.refl h).new _
 have nA:hA.nx=h.nx+1:=by subst eA; rfl
 have lA:hA.lo=h.lo:=by subst eA; rfl
 rw[←eA]
 clear eA
 refine Js p.t p.r hA _ (by omega) ?_
 intro u h2 hu _ hle2
 have g2:=(hle2.get b (by omega)).trans ((iz.get b hb).trans hg)
 have hl:=vM p.t p.r
 simp(disch:=first|omega|simp only[Wd]<;>omega|rfl)only[Wz,g2]
 refine BV _ t r h2 u _ hu (by omega) ?_
 intro h3 bE
 exact hk h3 ((iz.trans hle2).trans bE)
theorem Jw (L:List L4) (t r:Int) (h:Heap) (v:Value) (κ:KQ) (hv:Sl bH h v L) (hlen:L.length≤100000) (hlo:h.lo≤h.nx)
  (hk:∀h',Le h h'→κ (.bool (yN L t r)) h'):CallW Tryz.prog 189 [v,cN t r] h κ:=by
 refine an mixed ?_
 rw[Wt]
 simp(disch:=first|omega|simp only[Wd]<;>omega|rfl)only[Wz,cN]
 have hle:=(Le.refl h).new (aa [.int .i64 t,.int .i64 r] 28 false)
 have e:yN L t r=L.any fun p=>(me p.t p.r).any fun a=>decide (t=a.1∧r=a.2):=by
  unfold yN
  congr 1; funext p; congr 1; funext a
  exact decide_eq_decide.2 ⟨fun h=>⟨h.1.symm,h.2.symm⟩,fun h=>⟨h.1.symm,h.2.symm⟩⟩
 rw[e] at hk
 refine Fj L (fun p=>(me p.t p.r).any fun a=>decide (t=a.1∧r=a.2)) _ v _ _ (hv.le hle) (by omega) ?_ ?_
 ·intro p hp h3 κ3 bE y3
  have n3:=bE.nx
  have l3:=bE.lo
  have n3':h.nx+1≤h3.nx:=n3
  have l3':h3.lo=h.lo:=l3
  simp(disch:=first|omega|simp only[Wd]<;>omega|rfl)only[Wz,List.nil_append,List.cons_append]
  exact Pp t r p h.nx h3 κ3 (by omega) (by omega) ((bE.get h.nx (Nat.lt_succ_self _)).trans (T.af _ _ _)) y3
 ·intro h3 bE
  exact hk h3 (hle.trans bE)
theorem swap_perm {E:List L4} {j:Nat} {x y:L4} (hx:E[j+1]? = some x) (hy:E[j]? = some y):((E.set (j+1) y).set j x).Perm E:=by
 induction E generalizing j with
 | nil=>simp at hx
 | cons a E ih=>
  cases j with
  | zero=>
   cases E with
   | nil=>simp at hx
   | cons c E=>
    simp at hx hy
    subst hx; subst hy
    simpa using List.Perm.swap _ _ _
  | succ j=>
   simp only[List.getElem?_cons_succ] at hx hy
   simpa using ih hx hy
theorem Pq (b:Nat) (L:List L4) (h:Heap) (fv:Value) (κ:KQ) (hb:h.bl.get b=some (aa (L.flatMap bH) 46 true)) (B4:b<h.nx) (Z7:h.lo≤b) (nL:L.length≤100)
  (hF:∀p q (h1:Heap) (κ1:Value→Heap→Prop),Gr b h h1→(∀i h2,Le h1 h2→κ1 (.int .i64 i) h2)→eU Tryz.prog fv [tT p,tT q] h1 κ1)
  (hk:∀(D:List L4) h',D.Perm L→Gr b h h'→h'.bl.get b=some (aa (D.flatMap bH) 46 true)→κ (.tuple ⟨[]⟩) h') :
  CallW Tryz.prog 245 [.slice (some ⟨b,0,none⟩) L.length aM,.int .i64 0,.int .i64 (L.length:Int),fv] h κ:=by
 refine an mixed ?_
 rw[Ny]
 simp(disch:=first|omega|simp only[Wd]<;>omega|rfl)only[Wz]
 refine ⟨fun k l h1=>∃(i:Nat) (D:List L4),slot l 42=.int .i64 (i:Int)∧1≤i∧k=L.length-i∧D.Perm L∧Gr b h h1∧h1.bl.get b=some (aa (D.flatMap bH) 46 true),⟨_,1,L,rfl,Nat.le_refl _,rfl,List.Perm.refl _,Gr.of_le (Le.refl _),hb⟩,?_⟩
 rintro k l h1 ⟨i,D,s1,hi1,rfl,hp1,hle1,g1⟩
 have n1:=hle1.nx
 have l1:=hle1.lo
 by_cases hlt:i<L.length
 ·simp(disch:=first|omega|simp only[Wd]<;>omega|rfl)only[Wz,s1,eY (show (i:Int)<(L.length:Int) by omega)]
  refine ⟨fun k l5 h5=>∃(j:Nat) (D:List L4),slot l5 35=.int .i64 (j:Int)∧j≤i∧k=j∧D.Perm L∧Gr b h h5∧h5.bl.get b=some (aa (D.flatMap bH) 46 true),⟨_,i,D,rfl,Nat.le_refl _,rfl,hp1,hle1,g1⟩,?_⟩
  rintro k l5 h5 ⟨j,E,s5,hj,rfl,hpE,ee,g5⟩
  have n5:=ee.nx
  have l5':=ee.lo
  have hlE:E.length=L.length:=hpE.length_eq
  by_cases hj0:k=0
  ·subst hj0
   simp(disch:=first|omega|simp only[Wd]<;>omega|rfl)only[Wz,xH,s5,s1]
   exact ⟨_,by omega,i+1,E,rfl,by omega,rfl,hpE,ee,g5⟩
  ·obtain ⟨j,rfl⟩:∃j,k=j+1:=⟨k-1,by omega⟩
   have e1:((j+1:Nat):Int)-1=(j:Nat):=by omega
   obtain ⟨x,hx⟩:∃x,E[j+1]? = some x:=⟨_,List.getElem?_eq_getElem (by omega)⟩
   obtain ⟨y,hy⟩:∃y,E[j]? = some y:=⟨_,List.getElem?_eq_getElem (by omega)⟩
   have r1:=rdE bX g5 hx
   have r2:=rdE bX g5 hy
   simp(disch:=first|omega|simp only[Wd]<;>omega|rfl)only[Wz,xH,s5,e1,aW,r1,r2]
   refine hF x y h5 _ ee ?_
   intro c h6 nF
   have n6:=nF.nx
   have l6:=nF.lo
   have g6:=(nF.get b (by omega)).trans g5
   have UG:=ee.trans (Gr.of_le nF)
   by_cases hc:c<0
   ·have Qy:=C_ bX (p':=y) hx
    have hy2:(E.set (j+1) y)[j]? = some y:=by rw[List.getElem?_set,if_neg (by omega)]; exact hy
    have lY:=C_ bX (p':=x) hy2
    have KH:=bf bX E
    have hf2:=bf bX (E.set (j+1) y)
    rw[List.length_set] at hf2
    have r3:=rdE bX g6 hx
    have r4:=rdE bX g6 hy
    simp only[bH] at Qy lY
    simp(disch:=first|omega|simp only[Wd]<;>omega|rfl)only[Wz,bg hc,DZ,s5,e1,aW,r3,r4,bH]
    simp(disch:=first|omega|simp only[Wd]<;>omega|rfl)only[Wz,g6,Qy,lY]
    refine ⟨_,by omega,j,(E.set (j+1) y).set j x,rfl,by omega,rfl,(swap_perm hx hy).trans hpE,UG.trans (Gr.set (Le.refl h6) _),rfl⟩
   ·simp(disch:=first|omega|simp only[Wd]<;>omega|rfl)only[Wz,aV hc,s1]
    exact ⟨_,by omega,i+1,E,rfl,by omega,rfl,hpE,UG,g6⟩
 ·simp(disch:=first|omega|simp only[Wd]<;>omega|rfl)only[Wz,s1,cW (show (L.length:Int)≤(i:Int) by omega)]
  exact hk D h1 hp1 hle1 g1
theorem Ze (p q:L4) (h:Heap) (κ:KQ) (hlo:h.lo≤h.nx) (hk:∀i h',Le h h'→κ (.int .i64 i) h'):CallW Tryz.prog 272 [.agg ⟨[]⟩,tT p,tT q] h κ:=by
 refine an mixed ?_
 rw[W_]
 simp(disch:=first|omega|simp only[Wd]<;>omega|rfl)only[Wz,bH]
 have hle:=(((Le.refl h).new (aa [] 364 false)).new (aa [.int .i64 p.x,.int .i64 p.t,.int .i64 p.r,.int .i64 p.m] 46 false)).new (aa [.int .i64 q.x,.int .i64 q.t,.int .i64 q.r,.int .i64 q.m] 46 false)
 have hk:=fun i=>hk i _ hle
 have c1:=pU p.t p.r
 have c2:=pU q.t q.r
 refine pQ q.t q.r ?_
 simp(disch:=first|omega|simp only[Wd]<;>omega|rfl)only[Wz]
 refine pQ p.t p.r ?_
 by_cases hz:a_ q.t q.r-a_ p.t p.r=0
 ·simp(disch:=first|omega|simp only[Wd]<;>omega|rfl)only[Wz,bg hz]
  exact jw _ _ _ _ (hk _)
 ·simp(disch:=first|omega|simp only[Wd]<;>omega|rfl)only[Wz,aV hz]
  exact hk _
theorem Zf (p q:L4) (b:Nat) (h:Heap) (κ:KQ) (hlo:h.lo≤h.nx) (hb:b<h.nx) (hg:h.bl.get b=some (aa [.func (.func 272) ⟨[]⟩ ⟨[]⟩] 362 false)) (hk:∀i h',Le h h'→κ (.int .i64 i) h'):CallW Tryz.prog 274 [tT p,tT q,ptrTo b] h κ:=by
 refine an mixed ?_
 rw[Xb]
 simp(disch:=first|omega|simp only[Wd]<;>omega|rfl)only[Wz,bH,hg]
 refine Ze p q _ κ (by show h.lo≤h.nx+1+1; omega) ?_
 intro i h' hle
 exact hk i h' ((((Le.refl h).new _).new _).trans hle)
theorem Pr (v fv:Value) (n:Nat) (hn:n<20) (h:Heap) (κ:KQ) (hk:CallW Tryz.prog 245 [v,.int .i64 0,.int .i64 (n:Int),fv] h fun _ h'=>κ (.tuple ⟨[]⟩) h'):CallW Tryz.prog 331 [v,.int .i64 (n:Int),fv] h κ:=by
 refine an mixed ?_
 rw[Xt]
 refine ⟨fun n l h1=>HQ h h1∧slot l 13=.int .i64 20∧slot l 9=.int .i64 0,⟨0,rfl,rfl,rfl⟩,?_⟩
 rintro _ l h1 ⟨hE,s1,s2⟩
 cases (show h=h1 from hE)
 simp(disch:=first|omega|simp only[Wd]<;>omega|rfl)only[Wz,s1,s2,D8]
 refine CallW.mono hk ?_
 intro _ h2 hk2
 refine ⟨fun n l h1=>HQ h2 h1∧slot l 38=.int .i64 20,⟨0,rfl,rfl⟩,?_⟩
 rintro _ l h3 ⟨hE,s1⟩
 cases (show h2=h3 from hE)
 simp(disch:=first|omega|simp only[Wd]<;>omega|rfl)only[Wz,s1]
 exact hk2
theorem Zg (p:L4) (hok:a_ p.t p.r≠-1) (h:Heap) (κ:KQ) (hlo:h.lo≤h.nx) (hk:∀h',Le h h'→κ (.bool false) h'):CallW Tryz.prog 271 [tT p] h κ:=by
 refine an mixed ?_
 rw[W9]
 simp(disch:=first|omega|simp only[Wd]<;>omega|rfl)only[Wz,bH]
 refine mQ p.t p.r ?_
 rw[if_neg hok]
 simp(disch:=first|omega|simp only[Wd]<;>omega|rfl)only[Wz]
 exact hk _ ((Le.refl h).new _)
theorem BW (L:List L4) (h:Heap) (v fv:Value) (κ:KQ) (hv:Sl bH h v L) (hlen:L.length≤100000)
  (hF:∀p,p∈L→∀(h1:Heap) (κ1:Value→Heap→Prop),Le h h1→(∀h2,Le h1 h2→κ1 (.bool false) h2)→eU Tryz.prog fv [tT p] h1 κ1)
  (hk:∀h',Le h h'→κ v h'):CallW Tryz.prog 264 [v,fv] h κ:=by
 refine an mixed ?_
 rw[Ph]
 unfold dY
 refine yJ L (fun _=>false) h v fv _ hv (by omega) hF ?_
 intro h1 hle1
 have e:L.findIdx? (fun _=>false)=none:=by rw[List.findIdx?_eq_none_iff]; intro _ _; rfl
 simp only[e,eZ]
 simp(disch:=first|omega|simp only[Wd]<;>omega|rfl)only[Wz]
 exact hk h1 hle1
theorem oT (f:Fn) (a b:Array Value):(Value.cells (.func f a b)).toList=[.func f a b]:=id rfl
theorem SL (L:List L4) (h:Heap) (v:Value) (κ:KQ) (hv:Sl bH h v L) (hlen:L.length<20) (hlo:h.lo≤h.nx) (hok:∀p∈L,a_ p.t p.r≠-1)
  (hk:∀(D:List L4) v' h',D.Perm L→dZ bH 4 46 h' v' D→Le h h'→κ v' h'):CallW Tryz.prog 192 [v] h κ:=by
 refine an mixed ?_
 rw[WB]
 refine sC L h v _ hv (by omega) hlo ?_
 intro v2 h2 lY hle2
 have n2:=hle2.nx
 have l2:=hle2.lo
 refine BW L h2 v2 _ _ lY.sl (by omega) ?_ ?_
 ·intro p hp h3 κ3 bE y3
  have n3:=bE.nx
  have l3:=bE.lo
  simp(disch:=first|omega|simp only[Wd]<;>omega|rfl)only[Wz,List.nil_append,List.append_nil]
  exact Zg p (hok p hp) h3 κ3 (by omega) y3
 intro h3 bE
 have n3:=bE.nx
 have l3:=bE.lo
 have nX:=lY.le bE
 simp(disch:=first|omega|simp only[Wd]<;>omega|rfl)only[Wz,oT]
 obtain ⟨hA,aH⟩:∃hA:Heap,hA=⟨h3.nx+1,(h3.bl.aT (h3.nx) (aa [.func (.func 272) ⟨[]⟩ ⟨[]⟩] 362 false)),h3.lo⟩:=⟨_,rfl⟩
 have aL:Le h3 hA:=by subst aH; exact ((Le.refl h3).new _)
 have gA:hA.bl.get (h3.nx)=some (aa [.func (.func 272) ⟨[]⟩ ⟨[]⟩] 362 false):=by subst aH; exact T.af _ _ _
 have ef:hA.nx=h3.nx+1:=by subst aH; rfl
 have ej:hA.lo=h3.lo:=by subst aH; rfl
 rw[←aH]
 clear aH
 have Fp:=(hle2.trans bE).trans aL
 refine an mixed ?_
 rw[Xa]
 simp(disch:=first|omega|simp only[Wd]<;>omega|rfl)only[Wz,nX.sl.len]
 refine Pr v2 _ L.length hlen hA _ ?_
 rcases nX.le aL with ⟨rfl,Qs⟩ | ⟨b,rfl,b1,b2,b3,b4⟩
 ·have Zh:∀(v fv:Value) (h:Heap) (κ:KQ),κ (.tuple ⟨[]⟩) h→CallW Tryz.prog 245 [v,.int .i64 0,.int .i64 0,fv] h κ:=by
   intro v fv h κ hk
   refine an mixed ?_
   rw[Ny]
   simp(disch:=first|omega|simp only[Wd]<;>omega|rfl)only[Wz]
   refine ⟨fun n l h1=>HQ h h1∧slot l 42=.int .i64 1,⟨0,rfl,rfl⟩,?_⟩
   rintro n l h1 ⟨hE,s1⟩
   cases (show h=h1 from hE)
   simp(disch:=first|omega|simp only[Wd]<;>omega|rfl)only[Wz,s1]
   exact hk
  refine Zh _ _ _ _ ?_
  exact hk [] v2 hA (List.Perm.refl _) (.own (.inl ⟨rfl,Qs⟩:qU h hA v2 [])) Fp
 ·have hbA:b<h3.nx:=by
   rcases nX with ⟨_,e | ⟨_,_,e⟩⟩ | ⟨b',e,_,c2,_⟩
   ·simp at e
   ·simp[aM] at e
   ·simp at e; omega
  refine Pq b L hA _ _ b4 b2 b3 (by omega) ?_ ?_
  ·intro p q h4 κ4 ct z7
   have n4:=ct.nx
   have l4:=ct.lo
   simp(disch:=first|omega|simp only[Wd]<;>omega|rfl)only[Wz,List.nil_append]
   exact Zf p q h3.nx h4 κ4 (by omega) (by omega) ((ct.get h3.nx (by omega) (by omega)).trans gA) z7
  ·intro D h4 p1 ct g4
   have hlD:=p1.length_eq
   have n4:=ct.nx
   have l4:=ct.lo
   have ah9:Le h h4:=⟨by have:=Fp.nx; omega,by rw[l4]; exact Fp.lo,fun c hc=>(ct.get c (by have:=Fp.nx; omega) (by omega)).trans (Fp.get c hc)⟩
   refine hk D _ h4 p1 (dZ.own (a:=h) (.inr ⟨b,by rw[hlD],b1,by omega,by omega,g4⟩)) ah9
section
variable {h:Heap} {A:WA} {a:TA} {N:Nat} {d:TD} {R:RD} {H X:Int→Int→Int}
theorem SM (s:y8 h a N d) (L:Lone d.Ts H X) (hlo:h.lo≤h.nx) (hN:N≤1000) {k:Nat} {b:TB} (hb:d.Ts[k]? = some b) {t r m:Int} (hst:dm t r a.c.S=(k:Int)) (hH:H t r=0) (am:bN m=true) (hf:d.F=[]∨a.aS≤b.M.length) (κ:KQ)
  (hk:∀h',Le h h'→κ (.tuple ⟨[.int .i64 0,.bool false,.int .i64 8]⟩) h') :
  CallW Tryz.prog 301 [.pointer (some ⟨a.tb,0,none⟩),cN t r,.int .i64 (X t r),.int .i64 m] h κ:=by
 have hno:=L.no hH
 refine Jm s hlo hN t r (X t r) m _ ?_ ?_ ?_ ?_ ?_
 ·intro h' hn; omega
 ·intro k' b' h' _ _ hf; rw[am] at hf; cases hf
 ·intro k' b' h' e p hb' _ _ he ht hr; exact absurd ⟨ht,hr⟩ (hno b' (List.mem_of_getElem? hb') e he)
 ·intro k' b' h' _ _ _ _ _ le; exact hk h' le
 ·intro k' b' M' clock' F' W' yq h0 h1 h' n g hb' zH _ _ _ ak s' fr
  obtain rfl:k'=k:=by omega
  rw[hb] at hb'; cases hb'
  exfalso
  rcases hf with e | e
  ·have:=ak.free.length_eq
   rw[e] at this
   simp at this
  ·obtain ⟨Q,w,hold,_⟩:=ak.set
   rcases hold with ⟨e',he,h1,h2,_⟩ | ⟨_,h2,_⟩
   ·exact hno b (List.mem_of_getElem? hb) e' he ⟨h1.symm,h2.symm⟩
   ·omega
theorem Fq (s:WS h A a N d R) (L:Lone d.Ts H X) (hN:N≤1000) {i k:Nat} {c:CR} (hi:R.cs[i]? = some (some c)) {b:TB} (hb:d.Ts[k]? = some b) (hst:dm c.a.t c.a.r a.c.S=(k:Int)) (hx:c.a.x=X c.a.t c.a.r) (hx0:0≤c.a.x) (km:kn c.a.m=true) (hm:c.a.m≠0) (hH:H c.a.t c.a.r=0) (hf:d.F=[]∨a.aS≤b.M.length)
  (y6:List Value) (hl:slot y6 19=.int .i64 (H c.a.t c.a.r)) (id:Int) (κ:KQ)
  (hk:∀h',WS h' A a N d { R with cs:=R.cs.set i (some { c with out:=5 }) }→WK a h h'→κ (.tuple ⟨[]⟩) h') :
  oI (.pointer (some ⟨c.ca,0,none⟩)) y6 (.int .i64 id) h κ:=by
 obtain ⟨gc,c1,c2⟩:=bD s hi
 have gc':=gc
 unfold bO at gc'
 have gw:=s.r.gw
 unfold oI
 simp(disch:=first|omega|simp only[Wd]<;>omega|rfl)only[Wz,hl,az,gc',gw]
 refine uE _ _ ?_
 simp(disch:=first|omega|simp only[Wd]<;>omega|rfl)only[Wz,az,gc',gw]
 refine yE s L c.a.t c.a.r _ ?_
 intro v Q h1 hQ hv bF
 obtain ⟨vx,vc,ev,_⟩:=(show Sl bu h1 v Q from hv)
 have hlen:∀(β:Type) (fl:β) (h':Heap) (κ:Value→Heap→β),bB fl v h' κ=κ (.int .i64 (Q.length:Int)) h':=fun β fl h' κ=>by rw[ev]; exact eV _ _ _ _ _
 have hQl:Q.length≤1:=by rcases hQ with rfl | ⟨_,_,rfl⟩<;>simp
 simp(disch:=first|omega|simp only[Wd]<;>omega|rfl)only[Wz,hlen]
 refine ⟨fun n l h2=>∃j:Nat,slot l 29=.int .i64 (j:Int)∧n=Q.length-j∧j≤Q.length∧Le h1 h2,⟨_,0,rfl,rfl,by omega,Le.refl _⟩,?_⟩
 rintro n l h2 ⟨j,s1,rfl,hj,bt⟩
 have n2:=bt.nx
 have l2:=bt.lo
 have n1:=bF.nx
 have l1:=bF.lo
 have hlo:=s.lo
 by_cases hlt:j<Q.length
 ·obtain ⟨p,hp⟩:∃p,Q[j]? = some p:=⟨_,List.getElem?_eq_getElem hlt⟩
  obtain ⟨b4,o4,hb4,Uw,Lw,_⟩:=NI hv j hp
  have hpx:0≤p.x:=by
   have hm:=List.mem_of_getElem? hp
   rcases hQ with rfl | ⟨i',m',rfl⟩
   ·nomatch hm
   ·rw[List.mem_singleton] at hm; subst hm; show 0≤X c.a.t c.a.r; omega
  rw[←bt.get _ hb4] at Lw
  simp(disch:=first|omega|simp only[Wd]<;>omega|rfl)only[Wz,oH,s1,eY (show (j:Int)<(Q.length:Int) by omega)]
  refine ⟨fun l' h'=>Le h1 h',?_,?_⟩
  ·simp(disch:=first|omega|simp only[Wd]<;>omega|rfl)only[Wz,xB,s1,Uw,Lw,bu,cW (show (0:Int)≤p.x by omega)]
   exact bt.trans ((Le.refl h2).new _)
  ·intro l' h' le'
   exact ⟨_,by omega,j+1,rfl,rfl,by omega,le'⟩
 ·have jI:=bF.trans bt
  have s2:=s.le jI
  have tJ:=(jI.get _ c1).trans gc
  have tP:=tJ
  unfold bO at tP
  have Qh:=s2.r.gw
  have k02:=s.Jp jI
  simp(disch:=first|omega|simp only[Wd]<;>omega|rfl)only[Wz,oH,s1,cW (show (Q.length:Int)≤(j:Int) by omega),xE,az,tP,hl]
  refine mL _ _ ?_
  have fin:∀h',WS h' A a N d R→WK a h h'→κ (.tuple ⟨[]⟩) ⟨h'.nx,h'.bl.aT c.ca (bO A.wb { c with out:=5 }),h'.lo⟩:=fun h' s' w'=>by
   obtain ⟨sq,_,_⟩:=bD s' hi
   exact hk _ (WS.gX s' hi rfl) (w'.trans (WS.sn s' sq (by simp[lW]) (by decide) _))
  unfold bO at fin
  have Fc:jT (H c.a.t c.a.r) c.a.m=false:=by
   cases hc:jT (H c.a.t c.a.r) c.a.m with
   | false=>rfl
   | true=>rw[hH] at hc; exact absurd (Vt hc) hm
  rw[Fc]
  simp(disch:=first|omega|simp only[Wd]<;>omega|rfl)only[Wz]
  refine ⟨fun l' h'=>slot l' 39=.bool false∧slot l' 40=.int .i64 8∧WS h' A a N d R∧WK a h h',?_,?_⟩
  ·have am:bN c.a.m=true:=(iV _).2 ⟨hm,km⟩
   rw[hH,O8 km]
   simp(disch:=first|omega|simp only[Wd]<;>omega|rfl)only[Wz,hl,hH,xC,az,tP,Qh]
   rw[hx]
   refine SM s2.t L (by omega) hN hb hst hH am hf _ ?_
   intro h3 cr
   simp(disch:=first|omega|simp only[Wd]<;>omega|rfl)only[Wz]
   exact ⟨trivial,trivial,s2.le cr,k02.trans (s2.Jp cr)⟩
  ·rintro l' h3 ⟨e1,e2,s3,k3⟩
   obtain ⟨sq,_,_⟩:=bD s3 hi
   unfold bO at sq
   simp(disch:=first|omega|simp only[Wd]<;>omega|rfl)only[Wz,xD,e2,az,sq]
   exact fin h3 s3 k3
theorem SN (s:WS h A a N d R) (L:Lone d.Ts H X) (hN:N≤1000) {i k:Nat} {c:CR} (hi:R.cs[i]? = some (some c)) {b:TB} (hb:d.Ts[k]? = some b) (hst:dm c.a.t c.a.r a.c.S=(k:Int)) (hx:c.a.x=X c.a.t c.a.r) (hx0:0≤c.a.x) (km:kn c.a.m=true) (hm:c.a.m≠0) (hH:H c.a.t c.a.r=0) (hf:d.F=[]∨a.aS≤b.M.length) (κ:KQ)
  (hk:∀h',WS h' A a N d { R with cs:=R.cs.set i (some { c with out:=5 }) }→WK a h h'→κ (.tuple ⟨[]⟩) h') :
  CallW Tryz.prog 212 [.pointer (some ⟨c.ca,0,none⟩)] h κ:=by
 obtain ⟨gc,c1,c2⟩:=bD s hi
 have gc':=gc
 unfold bO at gc'
 have gw:=s.r.gw
 have hlo:=s.lo
 refine an mixed ?_
 rw[Nx]
 simp(disch:=first|omega|simp only[Wd]<;>omega|rfl)only[Wz,az,gc',gw]
 rw[hx]
 refine sx s.t L hlo c.a.t c.a.r _ ?_ (fun h=>absurd hH h)
 intro _ h1 bF
 have s1:=s.le bF
 simp(disch:=first|omega|simp only[Wd]<;>omega|rfl)only[Wz]
 refine ⟨fun l' h'=>slot l' 19=.int .i64 (H c.a.t c.a.r)∧Le h1 h',⟨by rw[hH]; rfl,Le.refl _⟩,?_⟩
 rintro l' h2 ⟨sl,bt⟩
 exact Fq (s1.le bt) L hN hi hb hst hx hx0 km hm hH hf l' sl 0 κ fun h' s' k'=>hk h' s' ((s.Jp (bF.trans bt)).trans k')
theorem SO (s:WS h A a N d R) (L:Lone d.Ts H X) (hN:N≤1000) {i k:Nat} {c:CR} (hi:R.cs[i]? = some (some c)) (s9:c.wt=false) {b:TB} (hb:d.Ts[k]? = some b) (hst:dm c.a.t c.a.r a.c.S=(k:Int)) (hx:c.a.x=X c.a.t c.a.r) (hx0:0≤c.a.x) (hm:kO c.a=true) (h1:c.a.k=1) (hH:H c.a.t c.a.r=0) (hf:d.F=[]∨a.aS≤b.M.length) (κ:KQ)
  (hk:∀h',WS h' A a N d { R with cs:=R.cs.set i (some { c with ph:=3,out:=5 }) }→WK a h h'→κ (.tuple ⟨[]⟩) h') :
  CallW Tryz.prog 106 [.pointer (some ⟨c.ca,0,none⟩)] h κ:=by
 obtain ⟨gc,c1,c2⟩:=bD s hi
 have gc':=gc
 unfold bO at gc'
 have hlo:=s.lo
 have hil:=(List.getElem?_eq_some_iff.1 hi).1
 unfold kO at hm
 rw[Bool.and_eq_true] at hm
 have hm:=hm.2
 have fin:∀h',WS h' A a N d { R with cs:=R.cs.set i (some { c with out:=5 }) }→WK a h h'→
   CallW Tryz.prog 57 [.pointer (some ⟨c.ca,0,none⟩),.int .i64 3,.func (.func 159) ⟨[.pointer (some ⟨c.ca,0,none⟩)]⟩ ⟨[]⟩] h' (fun _ h=>κ (.tuple ⟨[]⟩) h):=by
  intro h' s' k'
  have hi':(R.cs.set i (some { c with out:=5 }))[i]? = some (some { c with out:=5 }):=by rw[List.getElem?_set,if_pos rfl,if_pos hil]
  obtain ⟨sq,_,c3⟩:=bD s' hi'
  refine BT { c with out:=5 } sq c3 3 _ rfl _ ?_
  have s4:=WS.gX s' hi' (c':={ c with ph:=3,out:=5 }) rfl
  simp only[List.set_set] at s4
  exact hk _ s4 (k'.trans (WS.sn s' sq (by simp[lW]) (by decide) _))
 refine an mixed ?_
 rw[GD]
 refine ⟨fun l' h'=>WS h' A a N d { R with cs:=R.cs.set i (some { c with out:=5 }) }∧WK a h h',?_,?_⟩
 ·simp(disch:=first|omega|simp only[Wd]<;>omega|rfl)only[Wz,rR,az,gc',s9,rQ]
  refine Hj h _ hlo ?_
  intro b0 hz Zi g0
  have s1:=s.le Zi
  have k1:=s.Jp Zi
  have y9:=(Zi.get _ c1).trans gc'
  rw[if_pos h1] at hm
  rw[Bool.and_eq_true,Bool.and_eq_true,decide_eq_true_eq] at hm
  simp(disch:=first|omega|simp only[Wd]<;>omega|rfl)only[Wz,O_ g0 _ _ (.inl ⟨h1,rfl⟩),az,y9,List.nil_append,List.append_nil]
  refine SN s1 L hN hi hb hst hx hx0 hm.1.1 hm.1.2 hH hf _ ?_
  intro h3 s2 k2
  rw[s9] at s2
  exact ⟨s2,k1.trans k2⟩
 ·rintro l' h' ⟨s',k'⟩
  exact fin h' s' k'
theorem Fs (s:WS h A a N d R) (L:Lone d.Ts H X) (hN:N≤1000) {i k:Nat} {c:CR} (hi:R.cs[i]? = some (some c)) (su:c.ph=2) (YB:R.bits[i]? = some 0) (s9:c.wt=false) {b:TB} (hb:d.Ts[k]? = some b) (hst:dm c.a.t c.a.r a.c.S=(k:Int)) (hsk:c.st=(k:Int)) {o:Option (Nat × Int)} (hl:R.dn[k]? = some o) (hx:c.a.x=X c.a.t c.a.r) (hx0:0≤c.a.x) (hm:kO c.a=true) (h1:c.a.k=1) (hH:H c.a.t c.a.r=0) (hf:d.F=[]∨a.aS≤b.M.length) (κ:KQ)
  (hk:∀h',WS h' A a N d { R with cs:=R.cs.set i (some { c with ph:=3,out:=5 }) }→WK a h h'→κ (.tuple ⟨[.bool false,.int .i64 0,.int .i64 0]⟩) h') :
  CallW Tryz.prog 15 [.pointer (some ⟨A.wb,0,none⟩),.int .i64 (i:Int)] h κ:=by
 have gw:=s.r.gw
 have St:=s.r.gc
 have hil:=uM s hi
 have r:(R.cs.map fun o=>cQ (o.map (·.ca)))[i]? = some (.pointer (some ⟨c.ca,0,none⟩)):=iY s hi
 obtain ⟨gc,c1,c2⟩:=bD s hi
 have hlc:(R.cs.map fun o=>cQ (o.map (·.ca))).length=A.n:=by rw[List.length_map]; exact s.r.lc
 have gc':=gc
 unfold bO uL at gc'
 rw[su] at gc'
 have h2:decide (((2:Nat):Int)=1)=false:=by decide
 refine an mixed ?_
 rw[Dd]
 simp(disch:=first|omega|simp only[Wd]<;>omega|rfl)only[Wz,f_,pL]
 refine kP s hil _ ?_
 simp(disch:=first|omega|simp only[Wd]<;>omega|rfl)only[Wz]
 refine lK s hi YB hsk hl _ ?_
 rw[su,h2]
 simp(disch:=first|omega|simp only[Wd]<;>omega|rfl)only[Wz,Bool.not_false,Bool.true_or,pK,az,gw,aW,St,r,gc',Nat.mul_one,nj]
 refine SO s L hN hi s9 hb hst hx hx0 hm h1 hH hf _ ?_
 intro h' s' k'
 have hi':(R.cs.set i (some { c with ph:=3,out:=5 }))[i]? = some (some { c with ph:=3,out:=5 }):=by rw[List.getElem?_set,if_pos rfl,if_pos (by have:=s.r.lc; omega)]
 obtain ⟨tJ,_,_⟩:=bD s' hi'
 unfold bO at tJ
 simp(disch:=first|omega|simp only[Wd]<;>omega|rfl)only[Wz,az,tJ]
 exact hk h' s' k'
end
section
variable {h:Heap} {A:WA} {a:TA} {N:Nat} {d:TD} {R:RD} {H X:Int→Int→Int}
end
section
variable {h:Heap} {a:TA} {N:Nat} {d:TD} {H X:Int→Int→Int}
theorem Pt (s:y8 h a N d) (L:Lone d.Ts H X) (hlo:h.lo≤h.nx) {k:Nat} {b:TB} (hb:d.Ts[k]? = some b) {t r id:Int} (hst:dm t r a.c.S=(k:Int)) {e:HE} (he:e∈b.M) (ht:e.t=t) (hr:e.r=r) (hQ:e.Q=[⟨id,X t r,H t r,H t r,0⟩]) (hH:H t r≠0) (to:Int) (κ:KQ)
  (hk:∀h' d',y8 h' a (N+1) d'→Lone d'.Ts H (gM X t r to)→iZ d d' k→tL d.Ts a.bw a.bp a.bl h h'→d'.Ts.map (·.bm)=d.Ts.map (·.bm)→κ (.int .i64 0) h') :
  CallW Tryz.prog 304 [.pointer (some ⟨a.tb,0,none⟩),.int .i64 id,.int .i64 to] h κ:=by
 have Av:=List.mem_of_getElem? hb
 have UB:∀(b':TB) (e':HE) (p:R5),b'∈d.Ts→e'∈b'.M→bV e'.Q id=some p→b'=b∧e'=e∧p=⟨id,X t r,H t r,H t r,0⟩:=by
  intro b' e' p hb' he' hf
  obtain ⟨i,hi,hid⟩:=oO ((s.is.bk b' hb').good e' he').vq hf
  obtain ⟨rfl,rfl⟩:=s.yc hb' Av he' he (List.mem_of_getElem? hi) (by rw[hQ]; exact .head _) hid
  rw[hQ,iw,if_pos rfl] at hf
  exact ⟨rfl,rfl,(Option.some.inj hf).symm⟩
 refine OV s hlo id to _ ?_ ?_ ?_ ?_
 ·intro hn
  have:=hn b Av e he
  rw[hQ,iw,if_pos rfl] at this
  cases this
 ·intro k' b' h' e' p hb' he' hf ⟨o,ho,hne,_⟩ _
  obtain ⟨rfl,rfl,rfl⟩:=UB b' e' p (List.mem_of_getElem? hb') he' hf
  rw[hQ,List.mem_singleton] at ho
  subst ho
  exact absurd rfl hne
 ·intro k' b' h' e' p hb' he' hf _ hs _
  obtain ⟨rfl,rfl,rfl⟩:=UB b' e' p (List.mem_of_getElem? hb') he' hf
  simp at hs
 ·intro k' b' h' M' clock' e' p i hb' he' hpi hf _ _ mv s'
  obtain ⟨rfl,rfl,rfl⟩:=UB b' e' p (List.mem_of_getElem? hb') he' hf
  have h1:=s.nm k' b' hb' e' he'
  rw[ht,hr,hst] at h1
  obtain rfl:k'=k:=by omega
  have i0:i=0:=by
   have:=(List.getElem?_eq_some_iff.1 hpi).1
   rw[hQ] at this
   simpa using this
  subst i0
  have st:=mv.set
  rw[hQ,List.set_cons_zero,show uC ⟨id,X t r,H t r,H t r,0⟩ to=⟨id,gM X t r to t r,H t r,H t r,0⟩ by rw[pS]; rfl,tN hH,ht,hr] at st
  have L':=L.Jn s hb hst hH clock' st fun t' r' hn=>jV X hn
  rw[tQ] at L'
  have o:=(s.is.bk b' Av).ok
  exact hk h' ⟨_,d.W,d.wc,d.F,d.B⟩ s' L' (sy hb (st.cnt o) _ _ (Nat.le_succ _) _) (tL.Sd Av mv.fr) (BN hb _ _)
end
section
variable {h:Heap} {A:WA} {a:TA} {N:Nat} {d:TD} {R:RD} {H X:Int→Int→Int}
theorem Zj {β:Type} {fl:β} {h:Heap} {b:Nat} (g:h.bl.get b=some Ff) (k:Int) (hk:k=3) (κ:Value→Heap→β) :
  cV fl Tryz.prog 3 Value.nilFunc false (.map (some b)) (.int .i64 k) h κ=κ (.func (.func 214) ⟨[]⟩ ⟨[]⟩) h:=by
 subst hk
 unfold cV ja
 rw[OB]
 simp only[g,Ff]
 rw[findF,if_neg (by decide),findF,if_neg (by decide),findF,if_pos rfl]; rfl
def BX (H X:Int→Int→Int) (a:iA):Int→Int→Int:=if H a.t a.r=0 then X else gM X a.t a.r a.to
theorem SP (s:WS h A a N d R) (L:Lone d.Ts H X) {i k:Nat} {c:CR} (hi:R.cs[i]? = some (some c)) {b:TB} (hb:d.Ts[k]? = some b) (hst:dm c.a.t c.a.r a.c.S=(k:Int)) (hx:c.a.x=X c.a.t c.a.r) (κ:KQ)
  (hk:∀h' d',WS h' A a (N+1) d' { R with cs:=R.cs.set i (some { c with out:=if H c.a.t c.a.r=0 then 6 else 1 }) }→Lone d'.Ts H (BX H X c.a)→iZ d d' k→WK a h h'→κ (.tuple ⟨[]⟩) h') :
  CallW Tryz.prog 214 [.pointer (some ⟨c.ca,0,none⟩)] h κ:=by
 obtain ⟨gc,c1,c2⟩:=bD s hi
 have gc':=gc
 unfold bO at gc'
 have gw:=s.r.gw
 have hlo:=s.lo
 have fin:∀h' d',WS h' A a (N+1) d' R→Lone d'.Ts H (BX H X c.a)→iZ d d' k→WK a h h'→κ (.tuple ⟨[]⟩) ⟨h'.nx,h'.bl.aT c.ca (bO A.wb { c with out:=if H c.a.t c.a.r=0 then 6 else 1 }),h'.lo⟩:=fun h' d' s' L' g' w'=>by
  obtain ⟨sq,_,_⟩:=bD s' hi
  exact hk _ d' (WS.gX s' hi rfl) L' g' (w'.trans (WS.sn s' sq (by simp[lW]) (by decide) _))
 unfold bO at fin
 refine an mixed ?_
 rw[WR]
 simp(disch:=first|omega|simp only[Wd]<;>omega|rfl)only[Wz,az,gc',gw]
 rw[hx]
 refine sx s.t L hlo c.a.t c.a.r _ ?_ ?_
 ·intro hH h1 bF
  have s1:=s.le bF
  obtain ⟨y9,_,_⟩:=bD s1 hi
  unfold bO at y9
  simp(disch:=first|omega|simp only[Wd]<;>omega|rfl)only[Wz,az,y9]
  have:=fin h1 d (s1.up (Nat.le_succ _)) (by unfold BX; rw[if_pos hH]; exact L) (iZ.refl _ _) (s.Jp bF)
  rw[if_pos hH] at this
  exact this
 ·intro hH h1 k' b' e id hb' zH he ht hr hQ bF
  obtain rfl:k'=k:=by omega
  rw[hb] at hb'; cases hb'
  have s1:=s.le bF
  have n1:=bF.nx
  have l1:=bF.lo
  obtain ⟨y9,c11,_⟩:=bD s1 hi
  have Zk:=y9
  unfold bO at Zk
  have Uv:=s1.r.gw
  simp(disch:=first|omega|simp only[Wd]<;>omega|rfl)only[Wz]
  refine ⟨fun l' h'=>Le h1 h',?_,?_⟩
  ·simp(disch:=first|omega|simp only[Wd]<;>omega|rfl)only[Wz,DT,az,Zk]
   by_cases hto:c.a.to<0
   ·simp(disch:=first|omega|simp only[Wd]<;>omega|rfl)only[Wz,eY hto,DS,az,Zk,Uv]
    refine yE s1 L c.a.t c.a.r _ ?_
    intro v Q h2 hQ hv bt
    obtain ⟨vx,vc,ev,_⟩:=(show Sl bu h2 v Q from hv)
    have hlen:∀(β:Type) (fl:β) (h':Heap) (κ:Value→Heap→β),bB fl v h' κ=κ (.int .i64 (Q.length:Int)) h':=fun β fl h' κ=>by rw[ev]; exact eV _ _ _ _ _
    have hQl:Q.length≤1:=by rcases hQ with rfl | ⟨_,_,rfl⟩<;>simp
    have n2:=bt.nx
    have l2:=bt.lo
    simp(disch:=first|omega|simp only[Wd]<;>omega|rfl)only[Wz,hlen]
    refine ⟨fun n l h3=>∃j:Nat,slot l 14=.int .i64 (j:Int)∧n=Q.length-j∧j≤Q.length∧Le h2 h3,⟨_,0,rfl,rfl,by omega,Le.refl _⟩,?_⟩
    rintro n l h3 ⟨j,e1,rfl,hj,cr⟩
    have n3:=cr.nx
    have l3:=cr.lo
    by_cases hlt:j<Q.length
    ·obtain ⟨p,hp⟩:∃p,Q[j]? = some p:=⟨_,List.getElem?_eq_getElem hlt⟩
     obtain ⟨b4,o4,hb4,Uw,Lw,_⟩:=NI hv j hp
     have hps:p.s=0:=by
      have hm:=List.mem_of_getElem? hp
      rcases hQ with rfl | ⟨i',m',rfl⟩
      ·nomatch hm
      ·rw[List.mem_singleton] at hm; subst hm; rfl
     rw[←cr.get _ hb4] at Lw
     simp(disch:=first|omega|simp only[Wd]<;>omega|rfl)only[Wz,e1,eY (show (j:Int)<(Q.length:Int) by omega),DR,Uw,Lw,bu,hps]
     exact ⟨_,by omega,j+1,rfl,rfl,by omega,cr.trans ((Le.refl h3).new _)⟩
    ·simp(disch:=first|omega|simp only[Wd]<;>omega|rfl)only[Wz,e1,cW (show (Q.length:Int)≤(j:Int) by omega)]
     exact bt.trans cr
   ·simp(disch:=first|omega|simp only[Wd]<;>omega|rfl)only[Wz,cW (show 0≤c.a.to by omega)]
    exact Le.refl _
  ·rintro l' h3 cr
   have s3:=s1.le cr
   obtain ⟨sq,c31,_⟩:=bD s3 hi
   have gw3:=s3.r.gw
   have hne:c.ca≠A.wb:=cO sq gw3 (by decide)
   have k3:=(s.Jp (bF.trans cr)).trans (WS.sn s3 sq (by simp[lW]) (by decide) (bO A.wb { c with out:=1 }))
   have s3':=WS.gX s3 hi (c':={ c with out:=1 }) rfl
   have Zl:=s3.lo
   have adE:=sq
   unfold bO at adE s3' k3
   simp(disch:=first|omega|simp only[Wd]<;>omega|rfl)only[Wz,DU,az,adE,gw3]
   refine Pt s3'.t L (by exact Zl) hb hst he ht hr hQ hH c.a.to _ ?_
   intro h4 d4 t4 L4' g4 f4 b4
   simp(disch:=first|omega|simp only[Wd]<;>omega|rfl)only[Wz]
   have s4:=s3'.table t4 f4 b4
   refine hk h4 d4 ?_ (by unfold BX; rw[if_neg hH]; exact L4') g4 (k3.trans (s3'.kfr f4))
   rw[if_neg hH]
   exact s4
theorem SQ (s:WS h A a N d R) (L:Lone d.Ts H X) {i k:Nat} {c:CR} (hi:R.cs[i]? = some (some c)) (s9:c.wt=false) {b:TB} (hb:d.Ts[k]? = some b) (hst:dm c.a.t c.a.r a.c.S=(k:Int)) (hx:c.a.x=X c.a.t c.a.r) (h3:c.a.k=3) (κ:KQ)
  (hk:∀h' d',WS h' A a (N+1) d' { R with cs:=R.cs.set i (some { c with ph:=3,out:=if H c.a.t c.a.r=0 then 6 else 1 }) }→Lone d'.Ts H (BX H X c.a)→iZ d d' k→WK a h h'→κ (.tuple ⟨[]⟩) h') :
  CallW Tryz.prog 106 [.pointer (some ⟨c.ca,0,none⟩)] h κ:=by
 obtain ⟨gc,c1,c2⟩:=bD s hi
 have gc':=gc
 unfold bO at gc'
 have hlo:=s.lo
 have hil:=(List.getElem?_eq_some_iff.1 hi).1
 refine an mixed ?_
 rw[GD]
 refine ⟨fun l' h'=>∃d',WS h' A a (N+1) d' { R with cs:=R.cs.set i (some { c with out:=if H c.a.t c.a.r=0 then 6 else 1 }) }∧Lone d'.Ts H (BX H X c.a)∧iZ d d' k∧WK a h h',?_,?_⟩
 ·simp(disch:=first|omega|simp only[Wd]<;>omega|rfl)only[Wz,rR,az,gc',s9,rQ]
  refine Hj h _ hlo ?_
  intro b0 hz Zi g0
  have s1:=s.le Zi
  have k1:=s.Jp Zi
  have y9:=(Zi.get _ c1).trans gc'
  simp(disch:=first|omega|simp only[Wd]<;>omega|rfl)only[Wz,az,y9,Zj g0 _ h3,List.nil_append,List.append_nil]
  refine SP s1 L hi hb hst hx _ ?_
  intro h4 d4 s4 L4' g4 k4
  rw[s9] at s4
  exact ⟨d4,s4,L4',g4,k1.trans k4⟩
 ·rintro l' h' ⟨d',s',L',g',k'⟩
  have hi':(R.cs.set i (some { c with out:=if H c.a.t c.a.r=0 then 6 else 1 }))[i]? = some (some { c with out:=if H c.a.t c.a.r=0 then 6 else 1 }):=by rw[List.getElem?_set,if_pos rfl,if_pos hil]
  obtain ⟨sq,_,c3⟩:=bD s' hi'
  refine BT { c with out:=if H c.a.t c.a.r=0 then 6 else 1 } sq c3 3 _ rfl _ ?_
  have s4:=WS.gX s' hi' (c':={ c with ph:=3,out:=if H c.a.t c.a.r=0 then 6 else 1 }) rfl
  simp only[List.set_set] at s4
  exact hk _ d' s4 L' g' (k'.trans (WS.sn s' sq (by simp[lW]) (by decide) _))
theorem Ft (s:WS h A a N d R) (L:Lone d.Ts H X) {i k:Nat} {c:CR} (hi:R.cs[i]? = some (some c)) (su:c.ph=2) (YB:R.bits[i]? = some 0) (s9:c.wt=false) {b:TB} (hb:d.Ts[k]? = some b) (hst:dm c.a.t c.a.r a.c.S=(k:Int)) (hsk:c.st=(k:Int)) {o:Option (Nat × Int)} (hl:R.dn[k]? = some o) (hx:c.a.x=X c.a.t c.a.r) (hm:kO c.a=true) (h3:c.a.k=3) (κ:KQ)
  (hk:∀h' d',WS h' A a (N+1) d' { R with cs:=R.cs.set i (some { c with ph:=3,out:=if H c.a.t c.a.r=0 then 6 else 1 }) }→Lone d'.Ts H (BX H X c.a)→iZ d d' k→WK a h h'→κ (.tuple ⟨[.bool false,.int .i64 0,.int .i64 0]⟩) h') :
  CallW Tryz.prog 15 [.pointer (some ⟨A.wb,0,none⟩),.int .i64 (i:Int)] h κ:=by
 have gw:=s.r.gw
 have St:=s.r.gc
 have hil:=uM s hi
 have r:(R.cs.map fun o=>cQ (o.map (·.ca)))[i]? = some (.pointer (some ⟨c.ca,0,none⟩)):=iY s hi
 obtain ⟨gc,c1,c2⟩:=bD s hi
 have hlc:(R.cs.map fun o=>cQ (o.map (·.ca))).length=A.n:=by rw[List.length_map]; exact s.r.lc
 have gc':=gc
 unfold bO uL at gc'
 rw[su] at gc'
 have h2:decide (((2:Nat):Int)=1)=false:=by decide
 refine an mixed ?_
 rw[Dd]
 simp(disch:=first|omega|simp only[Wd]<;>omega|rfl)only[Wz,f_,pL]
 refine kP s hil _ ?_
 simp(disch:=first|omega|simp only[Wd]<;>omega|rfl)only[Wz]
 refine lK s hi YB hsk hl _ ?_
 rw[su,h2]
 simp(disch:=first|omega|simp only[Wd]<;>omega|rfl)only[Wz,Bool.not_false,Bool.true_or,pK,az,gw,aW,St,r,gc',Nat.mul_one,nj]
 refine SQ s L hi s9 hb hst hx h3 _ ?_
 intro h' d' s' L' g' k'
 have hi':(R.cs.set i (some { c with ph:=3,out:=if H c.a.t c.a.r=0 then 6 else 1 }))[i]? = some (some { c with ph:=3,out:=if H c.a.t c.a.r=0 then 6 else 1 }):=by rw[List.getElem?_set,if_pos rfl,if_pos (by have:=s.r.lc; omega)]
 obtain ⟨tJ,_,_⟩:=bD s' hi'
 unfold bO at tJ
 simp(disch:=first|omega|simp only[Wd]<;>omega|rfl)only[Wz,az,tJ]
 exact hk h' d' s' L' g' k'
end
def TH (R:RD) (n:Nat) (x:iA) (out:Int):Prop:=
 (n=0∧R.cs[0]? = some none∧∀k,k<2→R.dn[k]? = some none)∨
 ∃(c:CR) (k:Nat),k<2∧R.cs[0]? = some (some c)∧c.a=x∧c.wt=false∧c.th=((0:Nat):Int)∧c.st=(k:Int)∧dm x.t x.r 2=(k:Int)∧kO x=true∧(∀j,j<2→j≠k→R.dn[j]? = some none)∧
  ((n=3∧c.ph=1∧R.dn[k]? = some none)∨(n=2∧c.ph=2∧∃p,R.dn[k]? = some (some (p,c.th)))∨(n=1∧c.ph=3∧(∃p,R.dn[k]? = some (some (p,c.th)))∧c.out=out∧out≠0))
def Fu (d:TD) (N:Nat):Prop:=(∀b∈d.Ts,b.M.length≤N)∧24≤d.F.length+N
theorem Fu.up {d:TD} {N N':Nat} (c:Fu d N) (h:N≤N'):Fu d N':=⟨fun b hb=>Nat.le_trans (c.1 b hb) h,by have:=c.2; omega⟩
theorem Fu.Zm {d d':TD} {N k:Nat} (c:Fu d N) (g:iZ d d' k):Fu d' (N+1):=by
 refine ⟨fun b' hb'=>?_,by have:=c.2; have:=g.f; omega⟩
 obtain ⟨j,hj⟩:=List.getElem?_of_mem hb'
 obtain ⟨b,hb,hl⟩:=g.m j b' hj
 have:=c.1 b (List.mem_of_getElem? hb)
 split at hl<;>omega
structure WI (h:Heap) (A:WA) (a:TA) (H X:Int→Int→Int) (N n:Nat) (x:iA) (out:Int):Prop where
 w:∃(d:TD) (R:RD) (N0:Nat),WS h A a N0 d R∧Lone d.Ts H X∧R.bits[0]? = some 0∧0≤R.begun∧R.begun≤N∧N0+n / 2≤N∧Fu d N0∧TH R n x out
 cS:a.c.S=2
 hd:a.aS=8
section
variable {h h':Heap} {A:WA} {a:TA} {H X:Int→Int→Int} {N n:Nat} {x:iA} {out:Int}
theorem WI.le (s:WI h A a H X N n x out) (l:Le h h'):WI h' A a H X N n x out:=by
 obtain ⟨⟨d,R,N0,s1,s2⟩,s3,s4⟩:=s
 exact ⟨⟨d,R,N0,s1.le l,s2⟩,s3,s4⟩
theorem WI.lo (s:WI h A a H X N n x out):h.lo≤h.nx:=by
 obtain ⟨⟨d,R,N0,s1,s2⟩,s3,s4⟩:=s
 exact s1.lo
theorem WI.put (s:WI h A a H X N n x out) {b:Nat} {v:List Value} {t:TypeId} {o:Bool} (hg:h.bl.get b=some (aa v t o)) (ht:¬oS t o) (hr:¬lW t o) (ob:bC):WI ⟨h.nx,h.bl.aT b ob,h.lo⟩ A a H X N n x out:=by
 obtain ⟨⟨d,R,N0,s1,s2⟩,s3,s4⟩:=s
 exact ⟨⟨d,R,N0,s1.SC hg ht hr ob,s2⟩,s3,s4⟩
theorem WI.rest (s:WI h A a H X N 0 x out) (x':iA) (out':Int):WI h A a H X N 0 x' out':=by
 obtain ⟨⟨d,R,N0,s1,s2,s3,s4,s5,s6,sc,t⟩,s7,s8⟩:=s
 refine ⟨⟨d,R,N0,s1,s2,s3,s4,s5,s6,sc,?_⟩,s7,s8⟩
 rcases t with t | ⟨c,k,_,_,_,_,_,_,_,_,_,t⟩
 ·exact .inl t
 ·rcases t with ⟨e,_⟩ | ⟨e,_⟩ | ⟨e,_⟩<;>omega
theorem WI.leV (s:WI h A a H X N n x out) {v:Value} (l:Rf v h h') (hv:∀d,uA v d→d<h.nx∧∃vs o,h.bl.get d=some (aa vs 160 o)) (one:∀d d',uA v d→uA v d'→d=d') (hs:∀d,uA v d→∃ob,h'.bl.get d=some ob):WI h' A a H X N n x out:=by
 by_cases hb:∃d,uA v d
 ·obtain ⟨d,hd⟩:=hb
  obtain ⟨h1,vs,o,h2⟩:=hv d hd
  obtain ⟨ob,h3⟩:=hs d hd
  have s1:=s.put h2 (by unfold oS; cases o<;>decide) (by unfold lW; cases o<;>decide) ob
  refine s1.le ⟨l.nx,l.lo,fun c hc=>?_⟩
  by_cases e:c=d
  ·subst e
   rw[h3]; exact (T.af _ _ _).symm
  ·exact (l.get c hc fun hb=>e (one c d hb hd)).trans (T.ai _ _ (fun e'=>e e'.symm)).symm
 ·exact s.le ⟨l.nx,l.lo,fun c hc=>l.get c hc fun hb'=>hb ⟨c,hb'⟩⟩
theorem La (s:WI h A a H X N 0 x out) (hN:N≤900) (y:iA) (hm:kO y=true) (o:Int) (κ:KQ) (hk:∀h',WI h' A a H X (N+1) 3 y o→WK a h h'→κ (.int .i64 0) h') :
  CallW Tryz.prog 11 [.pointer (some ⟨A.wb,0,none⟩),.int .i64 ((0:Nat):Int),.agg ⟨BR y⟩] h κ:=by
 obtain ⟨⟨d,R,N0,s1,s2,s3,s4,s5,s6,sc,t⟩,s7,s8⟩:=s
 obtain ⟨t1,t2⟩:R.cs[0]? = some none∧∀k,k<2→R.dn[k]? = some none:=by
  rcases t with ⟨_,t⟩ | ⟨c,k,_,_,_,_,_,_,_,_,_,t⟩
  ·exact t
  ·rcases t with ⟨e,_⟩ | ⟨e,_⟩ | ⟨e,_⟩<;>omega
 refine Su s1 t1 y ⟨s4,by omega⟩ _ ?_ ?_
 ·intro e; rw[hm] at e; cases e
 ·intro _ h' ca s' k'
  have hl:a_ y.t y.r≠-1:=by
   unfold kO at hm
   rw[Bool.and_eq_true,decide_eq_true_eq] at hm
   exact hm.1
  obtain ⟨k,hk2,hst⟩:=SE hl
  refine hk h' ⟨⟨d,_,N0,s',s2,s3,by show 0≤R.begun+1; omega,by show R.begun+1≤((N+1:Nat):Int); omega,by omega,sc,.inr ⟨_,k,hk2,pT t1,rfl,rfl,rfl,by rw[s7]; exact hst,hst,hm,fun j hj _=>t2 j hj,.inl ⟨rfl,rfl,t2 k hk2⟩⟩⟩,s7,s8⟩ k'
theorem Lb (s:WI h A a H X N n x out) (hn:n≠0) (κ:KQ) (hk:κ (.bool true) h):CallW Tryz.prog 64 [.pointer (some ⟨A.wb,0,none⟩),.int .i64 ((0:Nat):Int)] h κ:=by
 obtain ⟨⟨d,R,N0,s1,s2,s3,s4,s5,s6,sc,t⟩,s7,s8⟩:=s
 rcases t with ⟨e,_⟩ | ⟨c,k,k2,hi,ha,hw,AG,hst,hs2,hm,ho,t⟩
 ·exact absurd e hn
 ·rcases t with ⟨_,su,hl⟩ | ⟨_,su,p,hl⟩ | ⟨_,su,⟨p,hl⟩,_⟩
  ·refine lK s1 hi s3 hst hl _ ?_
   rw[su]; exact hk
  ·refine lK s1 hi s3 hst hl _ ?_
   rw[su]; exact hk
  ·refine lK s1 hi s3 hst hl _ ?_
   rw[su]; exact hk
theorem tU (s:WI h A a H X N 3 x out) (κ:KQ) (hk:∀h',WI h' A a H X N 2 x out→WK a h h'→κ (.tuple ⟨[.bool false,.int .i64 0,.int .i64 0]⟩) h') :
  CallW Tryz.prog 15 [.pointer (some ⟨A.wb,0,none⟩),.int .i64 ((0:Nat):Int)] h κ:=by
 obtain ⟨⟨d,R,N0,s1,s2,s3,s4,s5,s6,sc,t⟩,s7,s8⟩:=s
 rcases t with ⟨e,_⟩ | ⟨c,k,k2,hi,ha,hw,AG,hst,hs2,hm,ho,t⟩
 ·omega
 ·rcases t with ⟨_,su,hl⟩ | ⟨e,_⟩ | ⟨e,_⟩
  ·refine Fb s1 hi su s3 hst ⟨by rw[AG]; omega,by rw[AG]; omega⟩ hl _ ?_
   intro h' s' k'
   exact hk h' ⟨⟨d,_,N0,s',s2,s3,s4,s5,by omega,sc,.inr ⟨_,k,k2,pT hi,ha,hw,AG,hst,hs2,hm,fun j hj hne=>(AH hne).trans (ho j hj hne),.inr (.inl ⟨rfl,rfl,_,pT hl⟩)⟩⟩,s7,s8⟩ k'
  ·omega
  ·omega
theorem Pu (s:WI h A a H X N 1 x out) (κ:KQ) (hk:∀h',WI h' A a H X N 0 x out→WK a h h'→κ (.tuple ⟨[.bool true,.int .i64 out,.int .i64 0]⟩) h') :
  CallW Tryz.prog 15 [.pointer (some ⟨A.wb,0,none⟩),.int .i64 ((0:Nat):Int)] h κ:=by
 obtain ⟨⟨d,R,N0,s1,s2,s3,s4,s5,s6,sc,t⟩,s7,s8⟩:=s
 rcases t with ⟨e,_⟩ | ⟨c,k,k2,hi,ha,hw,AG,hst,hs2,hm,ho,t⟩
 ·omega
 ·rcases t with ⟨e,_⟩ | ⟨e,_⟩ | ⟨_,su,⟨p,hl⟩,hout,hnz⟩
  ·omega
  ·omega
  ·subst hout
   refine Hh s1 hi su s3 hst AG hnz hl _ ?_
   intro h' s' k'
   refine hk h' ⟨⟨d,_,N0,s',s2,s3,s4,s5,by omega,sc,.inl ⟨rfl,pT hi,fun j hj=>?_⟩⟩,s7,s8⟩ k'
   by_cases e:j=k
   ·subst e; exact pT hl
   ·exact (AH e).trans (ho j hj e)
theorem yO (s:WI h A a H X N 2 x out) (hN:N≤1000) (hx:x.x=X x.t x.r) (hx0:x.k≠3→0≤x.x) (κ:KQ)
  (hkL:x.k=1→∀h',WI h' A a (gM H x.t x.r (bR (H x.t x.r) x.m)) X N 1 x 1→WK a h h'→κ (.tuple ⟨[.bool false,.int .i64 0,.int .i64 0]⟩) h')
  (Yf:x.k=1→H x.t x.r=0→8≤N→∀h',WI h' A a H X N 1 x 5→WK a h h'→κ (.tuple ⟨[.bool false,.int .i64 0,.int .i64 0]⟩) h')
  (hkD:x.k=2→∀h',WI h' A a (gM H x.t x.r 0) X N 1 x (if H x.t x.r=0 then 6 else 1)→WK a h h'→κ (.tuple ⟨[.bool false,.int .i64 0,.int .i64 0]⟩) h')
  (hkH:x.k=3→∀h',WI h' A a H (BX H X x) N 1 x (if H x.t x.r=0 then 6 else 1)→WK a h h'→κ (.tuple ⟨[.bool false,.int .i64 0,.int .i64 0]⟩) h') :
  CallW Tryz.prog 15 [.pointer (some ⟨A.wb,0,none⟩),.int .i64 ((0:Nat):Int)] h κ:=by
 obtain ⟨⟨d,R,N0,s1,s2,s3,s4,s5,s6,sc,t⟩,s7,s8⟩:=s
 rcases t with ⟨e,_⟩ | ⟨c,k,k2,hi,ha,hw,AG,hst,hs2,hm,ho,t⟩
 ·omega
 ·rcases t with ⟨e,_⟩ | ⟨_,su,p,hl⟩ | ⟨e,_⟩
  ·omega
  ·subst ha
   have mk:∀h' H' X' o' d' c',c'={ c with ph:=3,out:=o' }→o'≠0→Fu d' (N0+1)→WS h' A a (N0+1) d' { R with cs:=R.cs.set 0 (some c') }→Lone d'.Ts H' X'→WI h' A a H' X' N 1 c.a o':=by
    intro h' H' X' o' d' c' e hz cn s' L'
    subst e
    exact ⟨⟨d',_,N0+1,s',L',s3,s4,s5,by omega,cn,.inr ⟨_,k,k2,pT hi,rfl,hw,AG,hst,hs2,hm,ho,.inr (.inr ⟨rfl,rfl,⟨p,hl⟩,rfl,hz⟩)⟩⟩,s7,s8⟩
   obtain ⟨b,hbk⟩:∃b,d.Ts[k]? = some b:=by
    have h2:=s1.t.is.cS
    rw[s7] at h2
    exact ⟨_,List.getElem?_eq_getElem (by omega)⟩
   have zH:dm c.a.t c.a.r a.c.S=(k:Int):=by rw[s7]; exact hs2
   have hz:(if H c.a.t c.a.r=0 then (6:Int) else 1)≠0:=by split<;>decide
   have aib:c.a.k=1∨c.a.k=2∨c.a.k=3:=by
    have hm2:=hm
    unfold kO at hm2
    rw[Bool.and_eq_true] at hm2
    have hm2:=hm2.2
    split at hm2
    ·exact .inl (by assumption)
    ·split at hm2
     ·exact .inr (.inr (by assumption))
     ·rw[decide_eq_true_eq] at hm2; exact .inr (.inl hm2)
   rcases aib with e1 | e2 | e3
   ·have hx0:=hx0 (by omega)
    by_cases hroom:H c.a.t c.a.r=0∧(d.F=[]∨a.aS≤b.M.length)
    ·obtain ⟨hH,hf⟩:=hroom
     refine Fs s1 s2 (by omega) hi su s3 hw hbk zH hst hl hx hx0 hm e1 hH hf _ ?_
     intro h' s' k'
     refine Yf e1 hH ?_ h' (mk h' H X 5 d _ rfl (by decide) (sc.up (Nat.le_succ _)) (s'.up (Nat.le_succ _)) s2) k'
     rcases hf with e | e
     ·have:=sc.2; rw[e] at this; simp at this; omega
     ·have:=sc.1 b (List.mem_of_getElem? hbk); rw[s8] at e; omega
    ·refine yG s1 s2 (by omega) hi su s3 hw hbk zH hst hl hx hx0 hm (by omega) ?_ ?_ _ ?_
     ·intro _ hH e; exact hroom ⟨hH,.inl e⟩
     ·intro _ hH
      rcases Nat.lt_or_ge b.M.length a.aS with h1 | h1
      ·exact h1
      ·exact absurd ⟨hH,.inr h1⟩ hroom
     ·intro h' d' s' L' g' k'
      unfold tO He at *
      rw[if_pos e1] at s' L'
      exact hkL e1 h' (mk h' _ X 1 d' _ rfl (by decide) (sc.Zm g') s' L') k'
   ·refine yG s1 s2 (by omega) hi su s3 hw hbk zH hst hl hx (hx0 (by omega)) hm (by omega) (fun e=>by omega) (fun e=>by omega) _ ?_
    intro h' d' s' L' g' k'
    unfold tO He at *
    rw[if_neg (by omega)] at s' L'
    exact hkD e2 h' (mk h' _ X _ d' _ rfl hz (sc.Zm g') s' L') k'
   ·refine Ft s1 s2 hi su s3 hw hbk zH hst hl hx hm e3 _ ?_
    intro h' d' s' L' g' k'
    exact hkH e3 h' (mk h' H _ _ d' _ rfl hz (sc.Zm g') s' L') k'
  ·omega
end
abbrev pt (b:Nat):Value:=.pointer (some ⟨b,0,none⟩)
def CTy (t:TypeId):Prop:=t=155∨t=224∨t=288∨t=160
def ATy (t:TypeId):Prop:=CTy t∨t=227∨t=46
theorem ATy.nt {t:TypeId} {o:Bool} (h:ATy t):¬oS t o∧¬lW t o:=by
 rcases h with (rfl | rfl | rfl | rfl) | rfl | rfl<;>refine ⟨?_,?_⟩<;>(first | unfold oS | unfold lW)<;>cases o<;>decide
structure FK (a:TA) (h h':Heap):Prop where
 nx:h.nx≤h'.nx
 lo:h'.lo=h.lo
 ty:∀d vs t o,d<h.nx→h.bl.get d=some (aa vs t o)→¬oS t o→¬lW t o→¬CTy t→h'.bl.get d=h.bl.get d
 ro:∀d,d<h.nx→(∀vs t o,h.bl.get d≠some (aa vs t o))→(∀es c,h.bl.get d≠some (.map es c))→h'.bl.get d=h.bl.get d
theorem FK.trans {a:TA} {h h1 h2:Heap} (x:FK a h h1) (y:FK a h1 h2):FK a h h2 where
 nx:=Nat.le_trans x.nx y.nx
 lo:=y.lo.trans x.lo
 ty d vs t o hd hg h1 h2 h3:=by
  have e:=x.ty d vs t o hd hg h1 h2 h3
  exact (y.ty d vs t o (Nat.lt_of_lt_of_le hd x.nx) (e.trans hg) h1 h2 h3).trans e
 ro d hd h1 h2:=by
  have e:=x.ro d hd h1 h2
  exact (y.ro d (Nat.lt_of_lt_of_le hd x.nx) (fun vs t o=>by rw[e]; exact h1 vs t o) (fun es c=>by rw[e]; exact h2 es c)).trans e
theorem WK.fk {a:TA} {h h':Heap} (k:WK a h h'):FK a h h':=⟨k.nx,k.lo,fun d vs t o hd hg h1 h2 _=>k.ty d vs t o hd hg h1 h2,k.ro⟩
theorem FK.le {a:TA} {h h':Heap} (l:Le h h'):FK a h h':=⟨l.nx,l.lo,fun d _ _ _ hd _ _ _ _=>l.get d hd,fun d hd _ _=>l.get d hd⟩
theorem FK.put {a:TA} {h:Heap} {x:Nat} {v:List Value} {t:TypeId} {o:Bool} (hg:h.bl.get x=some (aa v t o)) (ht:CTy t) (ob:bC):FK a h ⟨h.nx,h.bl.aT x ob,h.lo⟩:=by
 refine ⟨Nat.le_refl _,rfl,fun d vs t' o' _ hgd _ _ hc=>T.ai _ _ ?_,fun d _ h1 _=>T.ai _ _ ?_⟩
 ·rintro rfl
  rw[hg] at hgd
  obtain ⟨rfl,rfl⟩:=nG hgd
  exact hc ht
 ·rintro rfl; exact h1 _ _ _ hg
theorem FK.leV {a:TA} {h h':Heap} {v:Value} (l:Rf v h h') (hv:∀d,uA v d→∃vs o,h.bl.get d=some (aa vs 160 o)):FK a h h':=by
 refine ⟨l.nx,l.lo,fun d vs t' o' hd hgd _ _ hc=>l.get d hd fun hb=>?_,fun d hd h1 _=>l.get d hd fun hb=>?_⟩
 ·obtain ⟨vs',o,e⟩:=hv d hb
  rw[e] at hgd
  obtain ⟨rfl,rfl⟩:=nG hgd
  exact hc (.inr (.inr (.inr rfl)))
 ·obtain ⟨vs',o,e⟩:=hv d hb
  exact h1 _ _ _ e
structure KT (T:TypeId→Prop) (h h':Heap):Prop where
 nx:h.nx≤h'.nx
 lo:h'.lo=h.lo
 ty:∀d vs t o,d<h.nx→h.bl.get d=some (aa vs t o)→T t→h'.bl.get d=h.bl.get d
abbrev KA:=KT ATy
theorem WK.ka {a:TA} {h h':Heap} (k:WK a h h'):KA h h':=⟨k.nx,k.lo,fun d vs t o hd hg ht=>k.ty d vs t o hd hg ht.nt.1 ht.nt.2⟩
theorem KT.le {T:TypeId→Prop} {h h':Heap} (l:Le h h'):KT T h h':=⟨l.nx,l.lo,fun d _ _ _ hd _ _=>l.get d hd⟩
theorem KT.mono {T T':TypeId→Prop} {h h':Heap} (k:KT T h h') (m:∀t,T' t→T t):KT T' h h':=⟨k.nx,k.lo,fun d vs t o hd hg ht=>k.ty d vs t o hd hg (m t ht)⟩
def Lc (t:TypeId):Prop:=t=155∨t=288∨t=227∨t=46
theorem Lc.a {t:TypeId} (h:Lc t):ATy t:=by
 rcases h with h | h | h | h
 ·exact .inl (.inl h)
 ·exact .inl (.inr (.inr (.inl h)))
 ·exact .inr (.inl h)
 ·exact .inr (.inr h)
theorem ktV {α:Type} {enc:α→List Value} {h h':Heap} {v:Value} {L:List α} (l:Rf v h h') (p:d_ enc 160 h v L):KT (fun t=>t≠160) h h':=⟨l.nx,l.lo,fun d vs t o hd hg ht=>l.get d hd fun hb=>by
 obtain ⟨_,vs',e⟩:=p.blk hb
 rw[hg] at e
 exact bq ht e⟩
structure AA where
 ab:Nat
 pb:Nat
 lb:Nat
 wb:Nat
 th:Int
 most:Int
structure AD where
 jJ:Int
 asked:List L4
 has:List L4
 aY:List L4
structure CD where
 k:Int
 t:Int
 r:Int
 m:Int
 w:Int
 ask:iA
 oN:Int
 Zn:FuncId
 AK:Value
 seen:Bool
 code:Int
 dK:List N3
 goes:List L4
structure iN (h:Heap) (z:AA) (D:AD) (cp:Option Nat):Prop where
 y_:z.ab<h.nx∧h.lo≤z.ab
 ga:∃va vh,h.bl.get z.ab=some (aa [pt z.wb,.int .i64 z.th,.int .i64 D.jJ,va,vh,pt z.pb,cQ cp] 155 false)∧jf h va D.asked∧jf h vh D.has
 OX:z.pb<h.nx∧h.lo≤z.pb
 gp:h.bl.get z.pb=some (aa [pt z.lb,.int .i64 (-1-z.th),.int .i64 z.most] 227 false)
 Jo:z.lb<h.nx∧h.lo≤z.lb
 gl:∃vp,h.bl.get z.lb=some (aa [vp] 288 false)∧jf h vp D.aY
noncomputable def agO (z:AA) (D:AD) (va vh:Value) (cp:Option Nat):bC:=aa [pt z.wb,.int .i64 z.th,.int .i64 D.jJ,va,vh,pt z.pb,cQ cp] 155 false
noncomputable def cu (z:AA) (c:CD) (vn vg:Value):bC:=aa [vn,vg,.int .i64 c.k,.int .i64 0,.int .i64 c.t,.int .i64 c.r,.int .i64 c.m,.int .i64 0,.int .i64 c.w,.int .i64 c.ask.k,.int .i64 c.ask.x,.int .i64 c.ask.t,.int .i64 c.ask.r,.int .i64 c.ask.m,.int .i64 c.ask.w,.int .i64 c.ask.to,.int .i64 c.oN,.func (.func c.Zn) ⟨[pt z.ab]⟩ ⟨[]⟩,c.AK,.bool c.seen,.int .i64 c.code] 224 false
structure gO (h:Heap) (z:AA) (kb:Nat) (c:CD):Prop where
 lt:kb<h.nx∧h.lo≤kb
 g:∃vn vg,h.bl.get kb=some (cu z c vn vg)∧d_ mV 160 h vn c.dK∧dZ bH 4 46 h vg c.goes
 AK:cZ c.AK=true
section
variable {h h':Heap} {z:AA} {D:AD} {cp:Option Nat} {kb:Nat} {c:CD}
theorem jf.ka {v:Value} {L:List L4} (s:jf h v L) (k:KT Lc h h'):jf h' v L:=s.keep k.nx fun c vs op hc hg=>k.ty c vs _ op hc hg (.inr (.inr (.inr rfl)))
theorem jf.fk {a:TA} {v:Value} {L:List L4} (s:jf h v L) (k:FK a h h'):jf h' v L:=s.keep k.nx fun c vs op hc hg=>k.ty c vs _ op hc hg (ATy.nt (.inr (.inr rfl))).1 (ATy.nt (.inr (.inr rfl))).2 (by unfold CTy; decide)
theorem iN.kt (s:iN h z D cp) (k:KT Lc h h'):iN h' z D cp:=by
 have n:=k.nx
 have l:=k.lo
 obtain ⟨va,vh,g1,g2,g3⟩:=s.ga
 obtain ⟨vp,q1,q2⟩:=s.gl
 have a1:=s.y_
 have a2:=s.OX
 have a3:=s.Jo
 exact ⟨⟨by omega,by omega⟩,⟨va,vh,(k.ty _ _ _ _ a1.1 g1 (.inl rfl)).trans g1,g2.ka k,g3.ka k⟩,⟨by omega,by omega⟩,(k.ty _ _ _ _ a2.1 s.gp (.inr (.inr (.inl rfl)))).trans s.gp,⟨by omega,by omega⟩,vp,(k.ty _ _ _ _ a3.1 q1 (.inr (.inl rfl))).trans q1,q2.ka k⟩
theorem iN.ka (s:iN h z D cp) (k:KA h h'):iN h' z D cp:=s.kt (k.mono fun _ h=>h.a)
theorem iN.le (s:iN h z D cp) (l:Le h h'):iN h' z D cp:=s.kt (.le l)
theorem gO.ka (s:gO h z kb c) (k:KA h h'):gO h' z kb c:=by
 have n:=k.nx
 have l:=k.lo
 have a1:=s.lt
 obtain ⟨vn,vg,g1,g2,g3⟩:=s.g
 exact ⟨⟨by omega,by omega⟩,⟨vn,vg,(k.ty _ _ _ _ a1.1 g1 (.inl (.inr (.inl rfl)))).trans g1,g2.keep n l fun c vs hc hg=>k.ty c vs _ _ hc hg (.inl (.inr (.inr (.inr rfl)))),g3.keep n l fun c vs hc hg=>k.ty c vs _ _ hc hg (.inr (.inr rfl))⟩,s.AK⟩
theorem gO.le (s:gO h z kb c) (l:Le h h'):gO h' z kb c:=s.ka (.le l)
theorem iN.set (s:iN h z D cp) {D':AD} {Zo:Option Nat} {va vh:Value} (h1:jf h va D'.asked) (h2:jf h vh D'.has) (h3:D'.aY=D.aY):iN ⟨h.nx,h.bl.aT z.ab (agO z D' va vh Zo),h.lo⟩ z D' Zo:=by
 obtain ⟨va0,vh0,g1,_,_⟩:=s.ga
 obtain ⟨vp,q1,q2⟩:=s.gl
 have kt:∀{v:Value} {L:List L4},jf h v L→jf ⟨h.nx,h.bl.aT z.ab (agO z D' va vh Zo),h.lo⟩ v L:=fun s=>s.keep (Nat.le_refl _) fun c vs op hc hg=>T.ai _ _ (cO g1 hg (by decide))
 exact ⟨s.y_,⟨va,vh,T.af _ _ _,kt h1,kt h2⟩,s.OX,(T.ai _ _ (cO g1 s.gp (by decide))).trans s.gp,s.Jo,vp,(T.ai _ _ (cO g1 q1 (by decide))).trans q1,by rw[h3]; exact kt q2⟩
theorem iN.aie (s:iN h z D cp) {vp:Value} {P:List L4} (h1:jf h vp P):iN ⟨h.nx,h.bl.aT z.lb (aa [vp] 288 false),h.lo⟩ z { D with aY:=P } cp:=by
 obtain ⟨va,vh,g1,g2,g3⟩:=s.ga
 obtain ⟨vp0,q1,_⟩:=s.gl
 have kt:∀{v:Value} {L:List L4},jf h v L→jf ⟨h.nx,h.bl.aT z.lb (aa [vp] 288 false),h.lo⟩ v L:=fun s=>s.keep (Nat.le_refl _) fun c vs op hc hg=>T.ai _ _ (cO q1 hg (by decide))
 exact ⟨s.y_,⟨va,vh,(T.ai _ _ (cO q1 g1 (by decide))).trans g1,kt g2,kt g3⟩,s.OX,(T.ai _ _ (cO q1 s.gp (by decide))).trans s.gp,s.Jo,vp,T.af _ _ _,kt h1⟩
theorem iN.put (s:iN h z D cp) {x:Nat} {v:List Value} {t:TypeId} {o:Bool} (hg:h.bl.get x=some (aa v t o)) (ht:t=224∨t=160) (ob:bC):iN ⟨h.nx,h.bl.aT x ob,h.lo⟩ z D cp:=by
 obtain ⟨va,vh,g1,g2,g3⟩:=s.ga
 obtain ⟨vp,q1,q2⟩:=s.gl
 have up:∀{b:Nat} {w:List Value} {t':TypeId} {o':Bool},h.bl.get b=some (aa w t' o')→t≠t'→(h.bl.aT x ob).get b=h.bl.get b:=fun hb hn=>T.ai _ _ (cO hg hb hn)
 have n1:t≠155:=by rcases ht with rfl | rfl<;>decide
 have n2:t≠227:=by rcases ht with rfl | rfl<;>decide
 have n3:t≠288:=by rcases ht with rfl | rfl<;>decide
 have n4:t≠46:=by rcases ht with rfl | rfl<;>decide
 have kt:∀{v:Value} {L:List L4},jf h v L→jf ⟨h.nx,h.bl.aT x ob,h.lo⟩ v L:=fun s=>s.keep (Nat.le_refl _) fun c vs op hc hg=>up hg n4
 exact ⟨s.y_,⟨va,vh,(up g1 n1).trans g1,kt g2,kt g3⟩,s.OX,(up s.gp n2).trans s.gp,s.Jo,vp,(up q1 n3).trans q1,kt q2⟩
theorem gO.put (s:gO h z kb c) {x:Nat} {v:List Value} {t:TypeId} {o:Bool} (hg:h.bl.get x=some (aa v t o)) (ht:t=155∨t=288) (ob:bC):gO ⟨h.nx,h.bl.aT x ob,h.lo⟩ z kb c:=by
 obtain ⟨vn,vg,g1,g2,g3⟩:=s.g
 have up:∀{b:Nat} {w:List Value} {t':TypeId} {o':Bool},h.bl.get b=some (aa w t' o')→t≠t'→(h.bl.aT x ob).get b=h.bl.get b:=fun hb hn=>T.ai _ _ (cO hg hb hn)
 have n1:t≠224:=by rcases ht with rfl | rfl<;>decide
 have n2:t≠160:=by rcases ht with rfl | rfl<;>decide
 have n3:t≠46:=by rcases ht with rfl | rfl<;>decide
 exact ⟨s.lt,⟨vn,vg,(up g1 n1).trans g1,g2.keep (Nat.le_refl _) rfl fun c vs hc hg=>up hg n2,g3.keep (Nat.le_refl _) rfl fun c vs hc hg=>up hg n3⟩,s.AK⟩
theorem gO.mk' (hl:kb<h.nx∧h.lo≤kb) {vs:List Value} {o:Bool} (g1:h.bl.get kb=some (aa vs 224 o)) {c':CD} {vn vg:Value} (h1:d_ mV 160 h vn c'.dK) (h2:dZ bH 4 46 h vg c'.goes) (h3:cZ c'.AK=true):gO ⟨h.nx,h.bl.aT kb (cu z c' vn vg),h.lo⟩ z kb c':=by
 have up:∀{b:Nat} {w:List Value} {t':TypeId} {o':Bool},h.bl.get b=some (aa w t' o')→224≠t'→(h.bl.aT kb (cu z c' vn vg)).get b=h.bl.get b:=fun hb hn=>T.ai _ _ (cO g1 hb hn)
 exact ⟨hl,⟨vn,vg,T.af _ _ _,h1.keep (Nat.le_refl _) rfl fun c vs hc hg=>up hg (by decide),h2.keep (Nat.le_refl _) rfl fun c vs hc hg=>up hg (by decide)⟩,h3⟩
theorem gO.set (s:gO h z kb c) {c':CD} {vn vg:Value} (h1:d_ mV 160 h vn c'.dK) (h2:dZ bH 4 46 h vg c'.goes) (h3:cZ c'.AK=true):gO ⟨h.nx,h.bl.aT kb (cu z c' vn vg),h.lo⟩ z kb c':=by
 obtain ⟨vn0,vg0,g1,_,_⟩:=s.g
 exact .mk' s.lt g1 h1 h2 h3
end
theorem adF (h:Heap) (b o:Nat):lM Tryz.prog h 100 152 (.pointer (some ⟨b,o,none⟩)) (.pointer none)=some false:=by kernel_rfl
theorem UH (h:Heap) (b o:Nat):lM Tryz.prog h 100 225 (.pointer (some ⟨b,o,none⟩)) (.pointer none)=some false:=by kernel_rfl
theorem oU {β:Type} {fl:β} (cn:Bool) (b o:Nat) (h:Heap) (κ:Value→Heap→β):au fl Tryz.prog .eql 152 cn false (.pointer (some ⟨b,o,none⟩)) (.pointer none) h κ=κ (.bool false) h:=by simp only[au,adF,bM]
theorem Pv {β:Type} {fl:β} (cn:Bool) (b o:Nat) (h:Heap) (κ:Value→Heap→β):au fl Tryz.prog .neq 152 cn false (.pointer (some ⟨b,o,none⟩)) (.pointer none) h κ=κ (.bool true) h:=by simp only[au,adF,bM,Bool.not_false]
theorem Pw {β:Type} {fl:β} (cn:Bool) (b o:Nat) (h:Heap) (κ:Value→Heap→β):au fl Tryz.prog .eql 225 cn false (.pointer (some ⟨b,o,none⟩)) (.pointer none) h κ=κ (.bool false) h:=by simp only[au,UH,bM]
theorem Px {β:Type} {fl:β} (cn:Bool) (b o:Nat) (h:Heap) (κ:Value→Heap→β):au fl Tryz.prog .neq 225 cn false (.pointer (some ⟨b,o,none⟩)) (.pointer none) h κ=κ (.bool true) h:=by simp only[au,UH,bM,Bool.not_false]
def tV (t r m:Int):Bool:=(decide (a_ t r=0) || decide (a_ t r=1)) && (decide (m=1) || decide (m=2) || decide (m=3))
theorem yP (t r m:Int) {h:Heap} {κ:Value→Heap→Prop} (hk:κ (.bool (tV t r m)) h):CallW Tryz.prog 275 [cN t r,.int .i64 m] h κ:=by
 refine gT (v:=.bool (tV t r m)) rfl rfl (an mixed ?_) hk
 rw[Xc]
 simp(disch:=first|omega|simp only[Wd]<;>omega|rfl)only[Wz,cN]
 refine pQ t r ?_
 have:(m=1∨m=2∨m=3)∨(m<1∨3<m):=by omega
 rcases pU t r with h1 | h1 | h1 | h1<;>rcases this with (h2 | h2 | h2) | (h2 | h2)<;>simp(disch:=first|omega|simp only[Wd]<;>omega|rfl)only[Wz,h1,h2]<;>simp[tV,h1,h2]<;>omega
section
variable {h:Heap} {z:AA} {D:AD} {cp:Option Nat}
theorem BY (s:iN h z D cp) (hlen:D.aY.length≤100000) (hlo:h.lo≤h.nx) (κ:KQ) (hk:∀v' h',qU h h' v' D.aY→Le h h'→κ v' h'):CallW Tryz.prog 77 [pt z.pb] h κ:=by
 have gp:=s.gp
 obtain ⟨vp,gl,sl⟩:=s.gl
 refine an mixed ?_
 rw[abx]
 simp(disch:=first|omega|simp only[Wd]<;>omega|rfl)only[Wz,oU,az,gp]
 refine an mixed ?_
 rw[V3]
 simp(disch:=first|omega|simp only[Wd]<;>omega|rfl)only[Wz,Pw,az,gl]
 refine kG (enc:=bH) (a:=h) (L:=[]) (M:=D.aY) bX mU (by omega) (by omega) (.inl ⟨rfl,.inl rfl⟩) sl.1 (Le.refl h) (by simp; omega) hlo _ ?_
 intro v' h' ho hl _ _
 exact hk v' h' (by simpa using ho) hl
theorem Zp (s:iN h z D cp) (κ:KQ) (hk:κ (.int .i64 (-1-z.th)) h):CallW Tryz.prog 187 [pt z.pb] h κ:=by
 have gp:=s.gp
 refine an mixed ?_
 rw[Wr]
 simp(disch:=first|omega|simp only[Wd]<;>omega|rfl)only[Wz,oU,az,gp]
 exact hk
theorem Jx (s:iN h z D cp) (hlen:D.aY.length≤100000) (hm:0≤z.most∧z.most≤8) (κ:KQ) (hk:κ (.int .i64 (z.most-D.aY.length)) h):CallW Tryz.prog 276 [pt z.pb] h κ:=by
 have gp:=s.gp
 obtain ⟨vp,gl,sl⟩:=s.gl
 have hlen':=fun (β:Type) (fl:β) κ h'=>sl.1.len (β:=β) (fl:=fl) κ h'
 refine an mixed ?_
 rw[Xd]
 simp(disch:=first|omega|simp only[Wd]<;>omega|rfl)only[Wz,oU,D2,az,gp,gl,hlen']
 exact hk
theorem Py (s:iN h z D cp) (hlen:D.aY.length≤100000) (hlo:h.lo≤h.nx) (t r:Int) (κ:KQ) (hk:∀h',Le h h'→κ (.bool (decide (aN D.aY t r≠0))) h'):CallW Tryz.prog 269 [pt z.pb,cN t r] h κ:=by
 have gp:=s.gp
 have q1:=s.OX
 have q2:=s.Jo
 obtain ⟨vp,gl,sl⟩:=s.gl
 refine an mixed ?_
 rw[W7]
 simp(disch:=first|omega|simp only[Wd]<;>omega|rfl)only[Wz,cN,Pv,az,gp]
 have hle:=(Le.refl h).new (aa [.int .i64 t,.int .i64 r] 28 false)
 refine an mixed ?_
 rw[Xs]
 simp(disch:=first|omega|simp only[Wd]<;>omega|rfl)only[Wz,cN,Px,az,gl]
 have hle2:=hle.new (aa [.int .i64 t,.int .i64 r] 28 false)
 refine i_ D.aY t r _ vp _ (sl.1.le hle2) (by omega) (by show h.lo≤h.nx+1+1; omega) ?_
 intro h' hl
 have hk:=hk h' (hle2.trans hl)
 by_cases h0:aN D.aY t r=0
 ·rw[aV (fun h=>h h0)] at hk
  simp(disch:=first|omega|simp only[Wd]<;>omega|rfl)only[Wz,bg h0]
  exact hk
 ·rw[bg h0] at hk
  simp(disch:=first|omega|simp only[Wd]<;>omega|rfl)only[Wz,aV h0]
  exact hk
def BZ (most x:Int) (L:List L4) (t r m:Int):List L4:=
 if tV t r m=false then L else if aN L t r≠0 then L else if most-L.length=0 then L else cD L ⟨x,t,r,m⟩
theorem Zq (s:iN h z D cp) (hlen:D.aY.length≤100000) (hlo:h.lo≤h.nx) (hm:0≤z.most∧z.most≤8) (t r m:Int) (κ:KQ)
  (hk:∀u h1 h',Le h h1→(h'=h1∨∃vp,h'=⟨h1.nx,h1.bl.aT z.lb (aa [vp] 288 false),h1.lo⟩)→iN h' z { D with aY:=BZ z.most (-1-z.th) D.aY t r m } cp→κ u h') :
  CallW Tryz.prog 270 [pt z.pb,cN t r,.int .i64 m] h κ:=by
 refine an mixed ?_
 rw[W8]
 simp(disch:=first|omega|simp only[Wd]<;>omega|rfl)only[Wz,cN,oU]
 refine yP t r m ?_
 obtain ⟨hA,aH⟩:∃hA:Heap,hA=⟨h.nx+1,(h.bl.aT (h.nx) (aa [.int .i64 t,.int .i64 r] 28 false)),h.lo⟩:=⟨_,rfl⟩
 have aL:Le h hA:=by subst aH; exact ((Le.refl h).new _)
 have gA:hA.bl.get (h.nx)=some (aa [.int .i64 t,.int .i64 r] 28 false):=by subst aH; exact T.af _ _ _
 have ef:hA.nx=h.nx+1:=by subst aH; rfl
 have ej:hA.lo=h.lo:=by subst aH; rfl
 rw[←aH]
 try rw[show (h.bl.aT (h.nx) (aa [.int .i64 t,.int .i64 r] 28 false))=hA.bl by rw[aH]]
 clear aH
 have sA:=s.le aL
 have same:∀(P:List L4),P=D.aY→({ D with aY:=P }:AD)=D:=fun P e=>by subst e; rfl
 cases he:tV t r m with
 | false=>
  simp(disch:=first|omega|simp only[Wd]<;>omega|rfl)only[Wz]
  exact hk _ hA _ aL (.inl rfl) (by rw[same _ (by unfold BZ; rw[if_pos he])]; exact sA)
 | true=>
  simp(disch:=first|omega|simp only[Wd]<;>omega|rfl)only[Wz,D1,gA]
  refine Py sA hlen (by omega) t r _ ?_
  intro h2 hle2
  have xZ:=hle2.nx
  have x5:=hle2.lo
  have gA:=(hle2.get _ (by omega)).trans gA
  have s2:=sA.le hle2
  by_cases hmo:aN D.aY t r=0
  ·simp(disch:=first|omega|simp only[Wd]<;>omega|rfl)only[Wz,aV (not_not_intro hmo)]
   refine Jx s2 hlen hm _ ?_
   by_cases hr:z.most-D.aY.length=0
   ·simp(disch:=first|omega|simp only[Wd]<;>omega|rfl)only[Wz,bg hr]
    exact hk _ h2 _ (aL.trans hle2) (.inl rfl) (by rw[same _ (by unfold BZ; rw[if_neg (by rw[he]; decide),if_neg (fun h=>h hmo),if_pos hr])]; exact s2)
   ·simp(disch:=first|omega|simp only[Wd]<;>omega|rfl)only[Wz,aV hr]
    have gp:=s2.gp
    have q2:=s2.Jo
    obtain ⟨vp,gl,sl⟩:=s2.gl
    simp(disch:=first|omega|simp only[Wd]<;>omega|rfl)only[Wz,D0,az,gp,gl,gA]
    refine Pn D.aY ⟨-1-z.th,t,r,m⟩ h2 vp _ sl.1 hlen (by omega) ?_
    intro v' h3 FM bE
    have s3:=s2.le bE
    have gp3:=s3.gp
    have q3:=s3.Jo
    obtain ⟨vp3,gl3,sl3⟩:=s3.gl
    obtain ⟨x',c',e'⟩:=FM.cell
    subst e'
    simp(disch:=first|omega|simp only[Wd]<;>omega|rfl)only[Wz,az,gp3,gl3]
    exact hk _ h3 _ (aL.trans (hle2.trans bE)) (.inr ⟨_,rfl⟩) (by
     have:=s3.aie FM
     unfold BZ
     rw[if_neg (by rw[he]; decide),if_neg (fun h=>h hmo),if_neg hr]
     exact this)
  ·simp(disch:=first|omega|simp only[Wd]<;>omega|rfl)only[Wz,bg hmo]
   exact hk _ h2 _ (aL.trans hle2) (.inl rfl) (by rw[same _ (by unfold BZ; rw[if_neg (by rw[he]; decide),if_pos hmo])]; exact s2)
theorem Pz (s:iN h z D cp) (hlen:D.aY.length≤100000) (hlo:h.lo≤h.nx) (t r:Int) (h0:aN D.aY t r=0) (κ:KQ) (hk:∀h',Le h h'→κ (.tuple ⟨[.int .i64 0,.bool false]⟩) h'):CallW Tryz.prog 190 [pt z.pb,cN t r] h κ:=by
 refine an mixed ?_
 rw[Wu]
 simp(disch:=first|omega|simp only[Wd]<;>omega|rfl)only[Wz,cN,oU]
 obtain ⟨hA,aH⟩:∃hA:Heap,hA=⟨h.nx+1,(h.bl.aT (h.nx) (aa [.int .i64 t,.int .i64 r] 28 false)),h.lo⟩:=⟨_,rfl⟩
 have aL:Le h hA:=by subst aH; exact ((Le.refl h).new _)
 have gA:hA.bl.get (h.nx)=some (aa [.int .i64 t,.int .i64 r] 28 false):=by subst aH; exact T.af _ _ _
 have ef:hA.nx=h.nx+1:=by subst aH; rfl
 have ej:hA.lo=h.lo:=by subst aH; rfl
 rw[←aH]
 try rw[show (h.bl.aT (h.nx) (aa [.int .i64 t,.int .i64 r] 28 false))=hA.bl by rw[aH]]
 clear aH
 refine Py (s.le aL) hlen (by omega) t r _ ?_
 intro h2 hle2
 rw[aV (fun h=>h h0)]
 simp(disch:=first|omega|simp only[Wd]<;>omega|rfl)only[Wz]
 exact hk h2 (aL.trans hle2)
end
structure EN where
 A:WA
 a:TA
 z:AA
structure AW (h:Heap) (E:EN) (H X:Int→Int→Int) (N n:Nat) (y:iA) (out:Int) (D:AD) (kb:Nat) (c:CD):Prop where
 w:WI h E.A E.a H X N n y out
 g:iN h E.z D (some kb)
 c:gO h E.z kb c
 wb:E.z.wb=E.A.wb
 th:E.z.th=0
section
variable {h h':Heap} {E:EN} {H X:Int→Int→Int} {N n:Nat} {y:iA} {out:Int} {D:AD} {kb:Nat} {c:CD}
theorem AW.le (s:AW h E H X N n y out D kb c) (l:Le h h'):AW h' E H X N n y out D kb c:=⟨s.w.le l,s.g.le l,s.c.le l,s.wb,s.th⟩
theorem AW.lo (s:AW h E H X N n y out D kb c):h.lo≤h.nx:=s.w.lo
theorem AW.wk (s:AW h E H X N n y out D kb c) {H' X':Int→Int→Int} {N' n':Nat} {y':iA} {out':Int} (w:WI h' E.A E.a H' X' N' n' y' out') (k:WK E.a h h'):AW h' E H' X' N' n' y' out' D kb c:=⟨w,s.g.ka k.ka,s.c.ka k.ka,s.wb,s.th⟩
theorem AW.rest (s:AW h E H X N 0 y out D kb c) (y':iA) (out':Int):AW h E H X N 0 y' out' D kb c:=⟨s.w.rest y' out',s.g,s.c,s.wb,s.th⟩
theorem AW.ag (s:AW h E H X N n y out D kb c):∃va vh,h.bl.get E.z.ab=some (aa [pt E.A.wb,.int .i64 0,.int .i64 D.jJ,va,vh,pt E.z.pb,pt kb] 155 false)∧jf h va D.asked∧jf h vh D.has:=by
 obtain ⟨va,vh,g1,g2,g3⟩:=s.g.ga
 rw[s.wb,s.th] at g1
 exact ⟨va,vh,g1,g2,g3⟩
theorem AW.yQ (s:AW h E H X N n y out D kb c) {c':CD} {vn vg:Value} (h1:d_ mV 160 h vn c'.dK) (h2:dZ bH 4 46 h vg c'.goes) (h3:cZ c'.AK=true) :
  AW ⟨h.nx,h.bl.aT kb (cu E.z c' vn vg),h.lo⟩ E H X N n y out D kb c'∧FK E.a h ⟨h.nx,h.bl.aT kb (cu E.z c' vn vg),h.lo⟩:=by
 obtain ⟨vn0,vg0,g1,_,_⟩:=s.c.g
 exact ⟨⟨s.w.put g1 (by unfold oS; decide) (by unfold lW; decide) _,s.g.put g1 (.inl rfl) _,s.c.set h1 h2 h3,s.wb,s.th⟩,FK.put g1 (.inr (.inl rfl)) _⟩
theorem AW.Ld (s:AW h E H X N n y out D kb c) {D':AD} {va vh:Value} (h1:jf h va D'.asked) (h2:jf h vh D'.has) (h3:D'.aY=D.aY) :
  AW ⟨h.nx,h.bl.aT E.z.ab (aa [pt E.A.wb,.int .i64 0,.int .i64 D'.jJ,va,vh,pt E.z.pb,pt kb] 155 false),h.lo⟩ E H X N n y out D' kb c∧FK E.a h ⟨h.nx,h.bl.aT E.z.ab (aa [pt E.A.wb,.int .i64 0,.int .i64 D'.jJ,va,vh,pt E.z.pb,pt kb] 155 false),h.lo⟩:=by
 obtain ⟨va0,vh0,g1,_,_⟩:=s.g.ga
 have q:=s.g.set (Zo:=some kb) h1 h2 h3
 have hp:=fun ob=>s.w.put g1 (by unfold oS; decide) (by unfold lW; decide) ob
 have cp:=fun ob=>s.c.put g1 (.inl rfl) ob
 have fp:=fun ob=>FK.put (a:=E.a) g1 (.inl rfl) ob
 unfold agO at q
 rw[s.wb,s.th] at q
 exact ⟨⟨hp _,q,cp _,s.wb,s.th⟩,fp _⟩
theorem yR (s:AW h E H X N 0 y out D kb c) (hN:N≤900) (x:iA) (hm:kO x=true) (o:Int) (κ:KQ)
  (hk:∀h',AW h' E H X (N+1) 3 x o D kb { c with ask:=x }→FK E.a h h'→κ (.tuple ⟨[]⟩) h') :
  CallW Tryz.prog 186 [pt E.z.ab,.agg ⟨BR x⟩] h κ:=by
 have hlo:=s.lo
 refine an mixed ?_
 rw[Wq]
 simp(disch:=first|omega|simp only[Wd]<;>omega|rfl)only[Wz,BR]
 obtain ⟨hA,aH⟩:∃hA:Heap,hA=⟨h.nx+1,(h.bl.aT (h.nx) (aa [.int .i64 x.k,.int .i64 x.x,.int .i64 x.t,.int .i64 x.r,.int .i64 x.m,.int .i64 x.w,.int .i64 x.to] 31 false)),h.lo⟩:=⟨_,rfl⟩
 have aL:Le h hA:=by subst aH; exact ((Le.refl h).new _)
 have g1:hA.bl.get (h.nx)=some (aa [.int .i64 x.k,.int .i64 x.x,.int .i64 x.t,.int .i64 x.r,.int .i64 x.m,.int .i64 x.w,.int .i64 x.to] 31 false):=by subst aH; exact T.af _ _ _
 have ef:hA.nx=h.nx+1:=by subst aH; rfl
 have ej:hA.lo=h.lo:=by subst aH; rfl
 rw[←aH]
 try rw[show (h.bl.aT (h.nx) (aa [.int .i64 x.k,.int .i64 x.x,.int .i64 x.t,.int .i64 x.r,.int .i64 x.m,.int .i64 x.w,.int .i64 x.to] 31 false))=hA.bl by rw[aH]]
 clear aH
 have sA:=s.le aL
 obtain ⟨va,vh,ga,_,_⟩:=sA.ag
 obtain ⟨vn,vg,gk,p1,p2⟩:=sA.c.g
 have hlt:=sA.c.lt
 have nL:=sA.g.y_
 have hne:kb≠E.z.ab:=cO gk ga (by decide)
 obtain ⟨s2,f2⟩:=sA.yQ (c':={ c with ask:=x }) p1 p2 sA.c.AK
 have hkh:kb≠h.nx:=cO gk g1 (by decide)
 unfold cu at gk s2 f2
 simp(disch:=first|omega|simp only[Wd]<;>omega|rfl)only[Wz,az,ga,gk,g1]
 refine La s2.w hN x hm o _ ?_
 intro h3 w3 k3
 exact hk h3 (s2.wk w3 k3) (((FK.le aL).trans f2).trans k3.fk)
theorem Hv (s:AW h E H X N n y out D kb c) (t r had:Int) (h0:had≠0∨D.aY=[]) (hlen:D.has.length≤100000) (κ:KQ)
  (hk:∀h',Le h h'→κ (.tuple ⟨[.int .i64 0,.bool false]⟩) h'):CallW Tryz.prog 185 [pt E.z.ab,cN t r,.int .i64 had] h κ:=by
 have hlo:=s.lo
 refine an mixed ?_
 rw[Wp]
 simp(disch:=first|omega|simp only[Wd]<;>omega|rfl)only[Wz,cN]
 obtain ⟨hA,aH⟩:∃hA:Heap,hA=⟨h.nx+1,(h.bl.aT (h.nx) (aa [.int .i64 t,.int .i64 r] 28 false)),h.lo⟩:=⟨_,rfl⟩
 have aL:Le h hA:=by subst aH; exact ((Le.refl h).new _)
 have g1:hA.bl.get (h.nx)=some (aa [.int .i64 t,.int .i64 r] 28 false):=by subst aH; exact T.af _ _ _
 have ef:hA.nx=h.nx+1:=by subst aH; rfl
 have ej:hA.lo=h.lo:=by subst aH; rfl
 rw[←aH]
 try rw[show (h.bl.aT (h.nx) (aa [.int .i64 t,.int .i64 r] 28 false))=hA.bl by rw[aH]]
 clear aH
 by_cases hh:had=0
 ·have hp:D.aY=[]:=h0.resolve_left fun e=>e hh
  have sA:=s.le aL
  obtain ⟨va,vh,ga,_,shA⟩:=sA.ag
  simp(disch:=first|omega|simp only[Wd]<;>omega|rfl)only[Wz,aV (show ¬¬had=0 by omega),DE,az,ga,g1]
  refine BY sA.g (by rw[hp]; exact Nat.zero_le _) (by omega) _ ?_
  intro v2 h2 lY bt
  have n2:=bt.nx
  have l2:=bt.lo
  have g2:=(bt.get _ (by omega)).trans g1
  simp(disch:=first|omega|simp only[Wd]<;>omega|rfl)only[Wz,g2]
  refine i_ D.aY t r h2 v2 _ lY.sl (by rw[hp]; exact Nat.zero_le _) (by omega) ?_
  intro h3 cr
  have n3:=cr.nx
  have l3:=cr.lo
  have g3:=(cr.get _ (by omega)).trans g2
  refine Fi _ ?_
  simp(disch:=first|omega|simp only[Wd]<;>omega|rfl)only[Wz,g3]
  refine Js t r h3 _ (by omega) ?_
  intro u h4 hu _ jr
  have n4:=jr.nx
  have l4:=jr.lo
  have hal:=vM t r
  have SR:=aL.trans (bt.trans (cr.trans jr))
  simp(disch:=first|omega|simp only[Wd]<;>omega|rfl)only[Wz,hu.len]
  refine ⟨fun n l h5=>Le h4 h5∧∃k:Nat,slot l 22=.int .i64 (k:Int)∧k≤(me t r).length∧n=(me t r).length-k,⟨_,Le.refl _,0,rfl,Nat.zero_le _,rfl⟩,?_⟩
  rintro n l h5 ⟨jB,k,e1,Lv,rfl⟩
  have n5:=jB.nx
  have l5:=jB.lo
  have s5:=s.le (SR.trans jB)
  obtain ⟨va5,vh5,ga5,_,sh5⟩:=s5.ag
  by_cases hlt:k<(me t r).length
  ·obtain ⟨p,hp5⟩:∃p,(me t r)[k]? = some p:=⟨_,List.getElem?_eq_getElem hlt⟩
   obtain ⟨b,o,hb,nT,l_⟩:=ldN (hu.le jB) k hp5
   simp(disch:=first|omega|simp only[Wd]<;>omega|rfl)only[Wz,e1,DC,nT,l_,fe]
   obtain ⟨hB,dA⟩:∃hB:Heap,hB=⟨h5.nx+1,(h5.bl.aT (h5.nx) (aa [.int .i64 p.1,.int .i64 p.2] 28 false)),h5.lo⟩:=⟨_,rfl⟩
   have cG:Le h5 hB:=by subst dA; exact ((Le.refl h5).new _)
   have g6:hB.bl.get (h5.nx)=some (aa [.int .i64 p.1,.int .i64 p.2] 28 false):=by subst dA; exact T.af _ _ _
   have Kj:hB.nx=h5.nx+1:=by subst dA; rfl
   have Kk:hB.lo=h5.lo:=by subst dA; rfl
   rw[←dA]
   try rw[show (h5.bl.aT (h5.nx) (aa [.int .i64 p.1,.int .i64 p.2] 28 false))=hB.bl by rw[dA]]
   clear dA
   have gaB:=(cG.get _ s5.g.y_.1).trans ga5
   simp(disch:=first|omega|simp only[Wd]<;>omega|rfl)only[Wz,az,gaB,g6]
   refine i_ D.has p.1 p.2 hB vh5 _ (sh5.1.le cG) (by omega) (by omega) ?_
   intro h7 Yp
   have Zr:=jB.trans (cG.trans Yp)
   by_cases hm:aN D.has p.1 p.2=0
   ·simp(disch:=first|omega|simp only[Wd]<;>omega|rfl)only[Wz,bg hm]
    exact hk h7 (SR.trans Zr)
   ·simp(disch:=first|omega|simp only[Wd]<;>omega|rfl)only[Wz,aV hm]
    refine mL _ _ ?_
    cases hc:jT (aN D.has p.1 p.2) (lX (aN D.aY t r)) with
    | false=>
     simp(disch:=first|omega|simp only[Wd]<;>omega|rfl)only[Wz]
     exact hk h7 (SR.trans Zr)
    | true=>
     simp(disch:=first|omega|simp only[Wd]<;>omega|rfl)only[Wz,e1]
     exact ⟨_,by omega,Zr,k+1,rfl,by omega,rfl⟩
  ·have g5:=(jB.get _ (by omega)).trans ((jr.get _ (by omega)).trans g3)
   simp(disch:=first|omega|simp only[Wd]<;>omega|rfl)only[Wz,e1,DD,az,ga5,g5]
   refine Pz s5.g (by rw[hp]; exact Nat.zero_le _) (by omega) t r (by rw[hp]; rfl) _ ?_
   intro h6 BF
   simp(disch:=first|omega|simp only[Wd]<;>omega|rfl)only[Wz]
   exact hk h6 ((SR.trans jB).trans BF)
 ·simp(disch:=first|omega|simp only[Wd]<;>omega|rfl)only[Wz,aV hh]
  exact hk hA aL
def z3:List Value:=[.int .i64 0,.int .i64 0,.int .i64 0]
theorem Zs (a0 a1:Value) (h:Heap) (κ:KQ):aK Tryz.prog 263 [a0,a1] h κ=dX Tryz.prog 3 3 a0 a1 h κ:=by kernel_rfl
theorem Zt (a0 a1:Value) (h:Heap) (κ:KQ):aK Tryz.prog 183 [a0,a1] h κ=dY Tryz.prog 3 263 160 3 z3 a0 a1 h κ:=by kernel_rfl
def kQ (L:List L4) (p:N3):Bool:=decide (aN L p.1 p.2.1≠0) && jT (aN L p.1 p.2.1) p.2.2
theorem SS (p:N3) (L:List L4) (b1 ab:Nat) (h:Heap) (va vh w0 w1 w2 w5 w6:Value) (κ:KQ) (hlo:h.lo≤h.nx) (g1:h.bl.get b1=some (aa [pt ab] 60 false)) (hb1:b1<h.nx)
  (ga:h.bl.get ab=some (aa [w0,w1,w2,va,vh,w5,w6] 155 false)) (hab:ab<h.nx) (hv:Sl bH h vh L) (hlen:L.length≤100000) (hk:∀h',Le h h'→κ (.bool (kQ L p)) h') :
  CallW Tryz.prog 184 [zw mV p,ptrTo b1] h κ:=by
 refine an mixed ?_
 rw[Wn]
 simp(disch:=first|omega|simp only[Wd]<;>omega|rfl)only[Wz,zw,mV]
 obtain ⟨hA,aH⟩:∃hA:Heap,hA=⟨h.nx+1,(h.bl.aT (h.nx) (aa [.int .i64 p.1,.int .i64 p.2.1,.int .i64 p.2.2] 160 false)),h.lo⟩:=⟨_,rfl⟩
 have aL:Le h hA:=by subst aH; exact ((Le.refl h).new _)
 have gA:hA.bl.get (h.nx)=some (aa [.int .i64 p.1,.int .i64 p.2.1,.int .i64 p.2.2] 160 false):=by subst aH; exact T.af _ _ _
 have ef:hA.nx=h.nx+1:=by subst aH; rfl
 have ej:hA.lo=h.lo:=by subst aH; rfl
 rw[←aH]
 try rw[show (h.bl.aT (h.nx) (aa [.int .i64 p.1,.int .i64 p.2.1,.int .i64 p.2.2] 160 false))=hA.bl by rw[aH]]
 clear aH
 have PY:=(aL.get _ hb1).trans g1
 have ga':=(aL.get _ hab).trans ga
 simp(disch:=first|omega|simp only[Wd]<;>omega|rfl)only[Wz,az,g1,ga,PY,ga',gA]
 refine i_ L p.1 p.2.1 hA vh _ (hv.le aL) (by omega) (by omega) ?_
 intro h2 bt
 have uH:=bt.nx
 have uI:=bt.lo
 have gA:=(bt.get _ (by omega)).trans gA
 have hk:=hk h2 (aL.trans bt)
 unfold kQ at hk
 by_cases hm:aN L p.1 p.2.1=0
 ·rw[aV (fun h=>h hm)] at hk
  simp(disch:=first|omega|simp only[Wd]<;>omega|rfl)only[Wz,bg hm]
  exact hk
 ·rw[bg hm,Bool.true_and] at hk
  simp(disch:=first|omega|simp only[Wd]<;>omega|rfl)only[Wz,aV hm,gA]
  refine mL _ _ ?_
  exact hk
end
def nR (D:AD) (c:CD) (p:N3):iA:=⟨1,D.jJ,p.1,p.2.1,bR (aN D.has p.1 p.2.1) p.2.2,c.w,0⟩
def eX (L:List L4) (P:List N3):List N3:=P.filter fun p=>!kQ L p
theorem tW (L:List L4) (P:List N3):(eX L P).length≤P.length:=List.length_filter_le _ _
def pW (P:List N3):Prop:=∀p∈P,a_ p.1 p.2.1≠-1∧kn p.2.2=true∧p.2.2≠0
section
variable {h h':Heap} {E:EN} {H X:Int→Int→Int} {N n:Nat} {y:iA} {out:Int} {D:AD} {kb:Nat} {c:CD}
theorem hdN {v:Value} {p:N3} {P:List N3} (s:d_ mV 160 h v (p::P)):∃b o,b<h.nx∧(∀(β:Type) (fl:β) (h':Heap) (κ:Value→Heap→β),aD fl 3 v (.int .i64 0) h' κ=κ (.pointer (some ⟨b,o,none⟩)) h')∧
  (∀(β:Type) (fl:β) (κ:List Value→β),vz fl (h.bl.get b) o 3 κ=κ (mV p))∧(∀(β:Type) (fl:β) (κ:List Value→β),vz fl (h.bl.get b) o 2 κ=κ [.int .i64 p.1,.int .i64 p.2.1]):=by
 obtain ⟨b,o,h1,h2,h3,hh⟩:=s.sl.ld sD 0 (p:=p) rfl
 have hs:=hh.sub 0 2 (by show 0+2≤3; omega)
 rw[Nat.add_zero] at hs
 exact ⟨b,o,h1,h2,h3,fun β fl κ=>nq hs 2 κ rfl⟩
theorem hdG {v:Value} {g:L4} {G:List L4} (s:dZ bH 4 46 h v (g::G)):∃b o,b<h.nx∧(∀(β:Type) (fl:β) (h':Heap) (κ:Value→Heap→β),aD fl 4 v (.int .i64 0) h' κ=κ (.pointer (some ⟨b,o,none⟩)) h')∧
  (∀(β:Type) (fl:β) (κ:List Value→β),vz fl (h.bl.get b) o 4 κ=κ (bH g)):=by
 obtain ⟨b,o,h1,h2,h3,_⟩:=(s.head bX).ld bX 0 (p:=g) rfl
 exact ⟨b,o,h1,h2,h3⟩
theorem upE {v:Value} {L:List N3} (p:d_ mV 160 h v L) {b:Nat} {ws:List Value} {t:TypeId} {o:Bool} (ga:h.bl.get b=some (aa ws t o)) (ht:t≠160) (ob:bC):d_ mV 160 ⟨h.nx,h.bl.aT b ob,h.lo⟩ v L:=
 p.keep (Nat.le_refl _) rfl fun c vs hc hg=>T.ai _ _ (cO ga hg ht)
theorem upX {v:Value} {L:List L4} (p:dZ bH 4 46 h v L) {b:Nat} {ws:List Value} {t:TypeId} {o:Bool} (ga:h.bl.get b=some (aa ws t o)) (ht:t≠46) (ob:bC):dZ bH 4 46 ⟨h.nx,h.bl.aT b ob,h.lo⟩ v L:=
 p.keep (Nat.le_refl _) rfl fun c vs hc hg=>T.ai _ _ (cO ga hg ht)
theorem jf.up {v:Value} {L:List L4} (s:jf h v L) {b:Nat} {ws:List Value} {t:TypeId} {o:Bool} (ga:h.bl.get b=some (aa ws t o)) (ht:t≠46) (ob:bC):jf ⟨h.nx,h.bl.aT b ob,h.lo⟩ v L:=
 s.keep (Nat.le_refl _) fun c vs op hc hg=>T.ai _ _ (cO ga hg ht)
theorem Lf (hw:0≤c.w) {p:N3} (ok:a_ p.1 p.2.1≠-1∧kn p.2.2=true∧p.2.2≠0) (hk:kn (aN D.has p.1 p.2.1)=true):kO (nR D c p)=true:=by
 obtain ⟨o1,o2,o3⟩:=ok
 obtain ⟨m1,m2,_⟩:=je hk o2 o3
 unfold kO nR
 simp only[o1,m1,m2,hw,if_pos,ne_eq,not_false_eq_true,decide_true,Bool.and_true]
theorem SU (s:AW h E H X N 0 y out D kb c) (l2:D.asked.length≤1000) {b1:Nat} (hb1:b1<h.nx) (g1:h.bl.get b1=some (aa [pt E.z.ab] 60 false)) (κ:KQ)
  (nO:∀h',AW h' E H X N 0 y out { D with asked:=cD D.asked ⟨D.jJ,c.t,c.r,bR (aN D.asked c.t c.r) c.m⟩ } kb { c with code:=1 }→FK E.a h h'→κ (.tuple ⟨[]⟩) h') :
  xu b1 (pt kb) h κ:=by
 have hlo:=s.lo
 obtain ⟨va,vh,ga,sa,sh⟩:=s.ag
 obtain ⟨vn,vg,gk,p1,p2⟩:=s.c.g
 have hlt:=s.c.lt
 have nL:=s.g.y_
 have gk0:=gk
 unfold cu at gk
 unfold xu
 simp(disch:=first|omega|simp only[Wd]<;>omega|rfl)only[Wz,az,g1,ga,gk]
 obtain ⟨hA,aH⟩:∃hA:Heap,hA=⟨h.nx+1,(h.bl.aT (h.nx) (aa [.int .i64 0,.int .i64 0,.int .i64 0,.int .i64 0] 46 false)),h.lo⟩:=⟨_,rfl⟩
 have aL:Le h hA:=by subst aH; exact ((Le.refl h).new _)
 have gA:hA.bl.get (h.nx)=some (aa [.int .i64 0,.int .i64 0,.int .i64 0,.int .i64 0] 46 false):=by subst aH; exact T.af _ _ _
 have ef:hA.nx=h.nx+1:=by subst aH; rfl
 have ej:hA.lo=h.lo:=by subst aH; rfl
 rw[←aH]
 try rw[show (h.bl.aT (h.nx) (aa [.int .i64 0,.int .i64 0,.int .i64 0,.int .i64 0] 46 false))=hA.bl by rw[aH]]
 clear aH
 have SV:=(aL.get _ hb1).trans g1
 have q7:=(aL.get _ nL.1).trans ga
 have vN:=(aL.get _ hlt.1).trans gk
 refine i_ D.asked c.t c.r hA va _ (sa.1.le aL) (by omega) (by omega) ?_
 intro h2 bt
 have n2:=bt.nx
 have lo2:=bt.lo
 have g12:=(bt.get _ (by omega)).trans SV
 have SX:=(bt.get _ (by omega)).trans q7
 have SY:=(bt.get _ (by omega)).trans vN
 have Zu:=(bt.get _ (by omega)).trans gA
 simp(disch:=first|omega|simp only[Wd]<;>omega|rfl)only[Wz,az,g12,SX,SY,Zu]
 refine uE _ _ ?_
 simp(disch:=first|omega|simp only[Wd]<;>omega|rfl)only[Wz,az,g12,SX,SY,Zu]
 have Je:=(aL.trans bt).set (Nat.le_refl h.nx) (aa [.int .i64 D.jJ,.int .i64 c.t,.int .i64 c.r,.int .i64 (bR (aN D.asked c.t c.r) c.m)] 46 false)
 refine Pn D.asked ⟨D.jJ,c.t,c.r,bR (aN D.asked c.t c.r) c.m⟩ _ va _ (sa.1.le Je) (by omega) (by show h2.lo≤h2.nx; omega) ?_
 intro v' h3 FM cr
 have jr:=Je.trans cr
 have s4:=s.le jr
 have lo4:=jr.lo
 have n4:=jr.nx
 obtain ⟨x',c',rfl⟩:=FM.cell
 have g14:=(jr.get _ hb1).trans g1
 have UI:=(jr.get _ nL.1).trans ga
 have gk4:=(jr.get _ hlt.1).trans gk
 have hkb:E.z.ab≠kb:=cO ga gk (by decide)
 simp(disch:=first|omega|simp only[Wd]<;>omega|rfl)only[Wz,az,g14,UI,gk4]
 have q:=s4.Ld (D':={ D with asked:=cD D.asked ⟨D.jJ,c.t,c.r,bR (aN D.asked c.t c.r) c.m⟩ }) FM (sh.le jr) rfl
 have q2:=q.1.yQ (c':={ c with code:=1 }) (upE (p1.le jr) UI (by decide) _) (upX (p2.le jr) UI (by decide) _) s.c.AK
 unfold cu at q2
 exact nO _ q2.1 ((FK.le jr).trans (q.2.trans q2.2))
theorem SZ (s:AW h E H X N 0 y out D kb c) (hN:N≤900) (hp:D.aY=[]) (l1:D.has.length≤1000) (hw:0≤c.w) {p:N3} {P:List N3} (hc:c.dK=p::P) (ok:a_ p.1 p.2.1≠-1∧kn p.2.2=true∧p.2.2≠0) (NZ:∀t r,kn (aN D.has t r)=true) (o:Int) {b1:Nat} (hb1:b1<h.nx) (g1:h.bl.get b1=some (aa [pt E.z.ab] 60 false)) (κ:KQ)
  (dy:∀h',AW h' E H X (N+1) 3 (nR D c p) o D kb { c with ask:=nR D c p }→FK E.a h h'→κ (.tuple ⟨[]⟩) h') :
  xw (pt kb) b1 h κ:=by
 have hlo:=s.lo
 obtain ⟨va,vh,ga,sa,sh⟩:=s.ag
 obtain ⟨vn,vg,gk,p1,p2⟩:=s.c.g
 have hlt:=s.c.lt
 have nL:=s.g.y_
 rw[hc] at p1
 obtain ⟨b0,o0,hb0,hx0,Cy,_⟩:=hdN p1
 have gk0:=gk
 unfold cu at gk
 unfold xw
 simp(disch:=first|omega|simp only[Wd]<;>omega|rfl)only[Wz,az,gk,hx0,Cy,mV,g1,ga]
 obtain ⟨hA,aH⟩:∃hA:Heap,hA=⟨h.nx+1,(h.bl.aT (h.nx) (aa [.int .i64 p.1,.int .i64 p.2.1,.int .i64 p.2.2] 160 false)),h.lo⟩:=⟨_,rfl⟩
 have aL:Le h hA:=by subst aH; exact ((Le.refl h).new _)
 have gA:hA.bl.get (h.nx)=some (aa [.int .i64 p.1,.int .i64 p.2.1,.int .i64 p.2.2] 160 false):=by subst aH; exact T.af _ _ _
 have ef:hA.nx=h.nx+1:=by subst aH; rfl
 have ej:hA.lo=h.lo:=by subst aH; rfl
 rw[←aH]
 try rw[show (h.bl.aT (h.nx) (aa [.int .i64 p.1,.int .i64 p.2.1,.int .i64 p.2.2] 160 false))=hA.bl by rw[aH]]
 clear aH
 have SV:=(aL.get _ hb1).trans g1
 have q7:=(aL.get _ nL.1).trans ga
 have vN:=(aL.get _ hlt.1).trans gk
 refine i_ D.has p.1 p.2.1 hA vh _ (sh.1.le aL) (by omega) (by omega) ?_
 intro h2 bt
 have uH:=bt.nx
 have uI:=bt.lo
 have SV:=(bt.get _ (by omega)).trans SV
 have q7:=(bt.get _ (by omega)).trans q7
 have vN:=(bt.get _ (by omega)).trans vN
 have gA:=(bt.get _ (by omega)).trans gA
 simp(disch:=first|omega|simp only[Wd]<;>omega|rfl)only[Wz,az,SV,gA]
 refine Hv (s.le (aL.trans bt)) p.1 p.2.1 (aN D.has p.1 p.2.1) (.inr hp) (by omega) _ ?_
 intro h3 cr
 have adG:=cr.nx
 have adH:=cr.lo
 have SV:=(cr.get _ (by omega)).trans SV
 have q7:=(cr.get _ (by omega)).trans q7
 have vN:=(cr.get _ (by omega)).trans vN
 have gA:=(cr.get _ (by omega)).trans gA
 have BC:=(aL.trans bt).trans cr
 simp(disch:=first|omega|simp only[Wd]<;>omega|rfl)only[Wz,Dt,az,SV,q7,vN,gA]
 refine uE _ _ ?_
 simp(disch:=first|omega|simp only[Wd]<;>omega|rfl)only[Wz,az,SV,q7,vN,gA]
 refine yR (s.le BC) hN (nR D c p) (Lf hw ok (NZ _ _)) o _ ?_
 intro h4 s4 f4
 exact dy h4 s4 ((FK.le BC).trans f4)
theorem Jy (s:AW h E H X N 0 y out D kb c) (hN:N≤900) (hp:D.aY=[]) (l1:D.has.length≤1000) (l2:D.asked.length≤1000) (l3:c.dK.length≤100) (hw:0≤c.w) (hm:kn c.m=true) (ok:pW c.dK) (NZ:∀t r,kn (aN D.has t r)=true) (o:Int) (κ:KQ)
  (nO:eX D.has c.dK=[]→∀h',AW h' E H X N 0 y out { D with asked:=cD D.asked ⟨D.jJ,c.t,c.r,bR (aN D.asked c.t c.r) c.m⟩ } kb { c with dK:=[],code:=1 }→FK E.a h h'→κ (.tuple ⟨[]⟩) h')
  (dy:∀p P,eX D.has c.dK=p::P→∀h',AW h' E H X (N+1) 3 (nR D c p) o D kb { c with dK:=p::P,ask:=nR D c p }→FK E.a h h'→κ (.tuple ⟨[]⟩) h') :
  CallW Tryz.prog 131 [pt E.z.ab] h κ:=by
 have hlo:=s.lo
 refine an mixed ?_
 rw[VX]
 simp(disch:=first|omega|simp only[Wd]<;>omega|rfl)only[Wz]
 obtain ⟨hA,aH⟩:∃hA:Heap,hA=⟨h.nx+1,(h.bl.aT (h.nx) (aa [pt E.z.ab] 60 false)),h.lo⟩:=⟨_,rfl⟩
 have aL:Le h hA:=by subst aH; exact ((Le.refl h).new _)
 have g1:hA.bl.get (h.nx)=some (aa [pt E.z.ab] 60 false):=by subst aH; exact T.af _ _ _
 have ef:hA.nx=h.nx+1:=by subst aH; rfl
 have ej:hA.lo=h.lo:=by subst aH; rfl
 rw[←aH]
 try rw[show (h.bl.aT (h.nx) (aa [pt E.z.ab] 60 false))=hA.bl by rw[aH]]
 clear aH
 have sA:=s.le aL
 obtain ⟨va,vh,ga,sa,sh⟩:=sA.ag
 obtain ⟨vn,vg,gk,p1,p2⟩:=sA.c.g
 have hlt:=sA.c.lt
 have nL:=sA.g.y_
 unfold cu at gk
 simp(disch:=first|omega|simp only[Wd]<;>omega|rfl)only[Wz,az,g1,ga,gk]
 refine Da mixed sD yM (by decide) (za:=(0,0,0)) rfl (by decide) Zs Zt hA c.dK (kQ D.has) vn _ _ p1 (by omega) (by omega) ?_ ?_
 ·intro p h1 κ1 lv dy
  have n1:=lv.nx
  have lo1:=lv.lo
  have kt:=ktV lv p1
  simp(disch:=first|omega|simp only[Wd]<;>omega|rfl)only[Wz,List.nil_append]
  exact SS p D.has h.nx E.z.ab h1 _ _ _ _ _ _ _ κ1 (by omega) ((kt.ty _ _ _ _ (by omega) g1 (by decide)).trans g1) (by omega) ((kt.ty _ _ _ _ nL.1 ga (by decide)).trans ga) (by omega) (sh.ka (kt.mono fun t ht=>by rintro rfl; revert ht; unfold Lc; decide)).1 (by omega) dy
 ·intro v' h1 pe lv shp
  have n1:=lv.nx
  have lo1:=lv.lo
  have kt:=ktV lv p1
  have w1:WI h1 E.A E.a H X N 0 y out:=by
   refine sA.w.leV lv (fun d hd=>?_) (fun d d' hd hd'=>?_) (fun d hd=>?_)
   ·obtain ⟨q1,vs,q2⟩:=p1.blk hd
    exact ⟨q1,vs,true,q2⟩
   ·obtain ⟨o1,n1,c1,e1⟩:=hd
    obtain ⟨o2,n2,c2,e2⟩:=hd'
    rw[e1] at e2; cases e2; rfl
   ·rcases shp with e | ⟨b,m,m',e1,e2⟩
    ·rw[e] at pe
     exact ⟨_,(pe.blk hd).2.choose_spec⟩
    ·obtain ⟨o1,n1,c1,e3⟩:=hd
     rw[e1] at e3; cases e3
     exact ⟨_,(pe.blk ⟨0,m',aM,e2⟩).2.choose_spec⟩
  have f1:FK E.a hA h1:=FK.leV lv fun d hd=>by
   obtain ⟨_,vs,q2⟩:=p1.blk hd
   exact ⟨vs,true,q2⟩
  have a1:=sA.g.kt (kt.mono fun t ht=>by rintro rfl; revert ht; unfold Lc; decide)
  have Qi:=(kt.ty _ _ _ _ hlt.1 gk (by decide)).trans gk
  have S0:=(kt.ty _ _ _ _ nL.1 ga (by decide)).trans ga
  have g11:=(kt.ty _ _ _ _ (by omega) g1 (by decide)).trans g1
  have p21:dZ bH 4 46 h1 vg c.goes:=p2.keep n1 lo1 fun d vs hd hg=>kt.ty d vs _ _ hd hg (by decide)
  have kl1:kb<h1.nx∧h1.lo≤kb:=⟨by omega,by omega⟩
  have hkb:kb≠h.nx:=cO gk g1 (by decide)
  have hab:E.z.ab≠kb:=fun e=>cO gk ga (by decide) e.symm
  have e7:(eX D.has c.dK).length≤100:=by have:=tW D.has c.dK; omega
  have s2:AW ⟨h1.nx,h1.bl.aT kb (cu E.z { c with dK:=eX D.has c.dK } v' vg),h1.lo⟩ E H X N 0 y out D kb { c with dK:=eX D.has c.dK }:=
   ⟨w1.put Qi (by unfold oS; decide) (by unfold lW; decide) _,a1.put Qi (.inl rfl) _,.mk' kl1 Qi pe p21 s.c.AK,s.wb,s.th⟩
  have f2:=(((FK.le aL).trans f1).trans (FK.put (a:=E.a) Qi (.inr (.inl rfl)) (cu E.z { c with dK:=eX D.has c.dK } v' vg)))
  obtain ⟨x',c',e'⟩:=pe.cell
  have e9:(List.filter (fun p=>!kQ D.has p) c.dK)=eX D.has c.dK:=rfl
  rw[e9] at e' pe
  subst e'
  unfold cu at s2 f2
  cases hL:eX D.has c.dK with
  | nil=>
   rw[hL] at s2 f2
   simp(disch:=first|omega|simp only[Wd]<;>omega|rfl)only[Wz,az,Qi,hL,List.length_nil]
   refine SU s2 l2 (by show h.nx<h1.nx; omega) ((T.ai _ _ hkb).trans g11) _ ?_
   intro h3 s3 f3
   exact nO hL h3 s3 (f2.trans f3)
  | cons p P=>
   rw[hL] at s2 f2
   have okp:=ok p (by
    have:p∈eX D.has c.dK:=by rw[hL]; exact .head _
    exact (List.mem_filter.1 this).1)
   simp(disch:=first|omega|simp only[Wd]<;>omega|rfl)only[Wz,az,Qi,hL,List.length_cons]
   refine SZ s2 hN hp l1 hw rfl okp NZ o (by show h.nx<h1.nx; omega) ((T.ai _ _ hkb).trans g11) _ ?_
   intro h3 s3 f3
   exact dy p P hL h3 s3 (f2.trans f3)
end
section
variable {h h':Heap} {E:EN} {H X:Int→Int→Int} {N n:Nat} {y:iA} {out:Int} {D:AD} {kb:Nat} {c:CD}
theorem Lg (s:AW h E H X N 0 y out D kb c) {p:N3} {P:List N3} (hc:c.dK=p::P) (h3:c.ask.k=1) (l1:D.has.length≤1000) (code:Int) (κ:KQ)
  (Yf:code≠1→∀h',AW h' E H X N 0 y out D kb { c with code:=code }→FK E.a h h'→κ (.tuple ⟨[]⟩) h')
  (hkG:code=1→∀h',AW h' E H X N 0 y out { D with has:=cD D.has ⟨D.jJ,p.1,p.2.1,c.ask.m⟩ } kb c→FK E.a h h'→CallW Tryz.prog 131 [pt E.z.ab] h' fun _ h=>κ (.tuple ⟨[]⟩) h) :
  CallW Tryz.prog 126 [pt E.z.ab,.int .i64 code] h κ:=by
 have hlo:=s.lo
 obtain ⟨va,vh,ga,sa,sh⟩:=s.ag
 obtain ⟨vn,vg,gk,p1,p2⟩:=s.c.g
 have hlt:=s.c.lt
 have nL:=s.g.y_
 have p1':=p1
 rw[hc] at p1'
 obtain ⟨b0,o0,hb0,hx0,_,Cy⟩:=hdN p1'
 have gk0:=gk
 unfold cu at gk
 refine an mixed ?_
 rw[VS]
 simp(disch:=first|omega|simp only[Wd]<;>omega|rfl)only[Wz,az,ga,gk,hx0,Cy]
 obtain ⟨hA,aH⟩:∃hA:Heap,hA=⟨h.nx+1,(h.bl.aT (h.nx) (aa [.int .i64 p.1,.int .i64 p.2.1] 28 false)),h.lo⟩:=⟨_,rfl⟩
 have aL:Le h hA:=by subst aH; exact ((Le.refl h).new _)
 have gA:hA.bl.get (h.nx)=some (aa [.int .i64 p.1,.int .i64 p.2.1] 28 false):=by subst aH; exact T.af _ _ _
 have ef:hA.nx=h.nx+1:=by subst aH; rfl
 have ej:hA.lo=h.lo:=by subst aH; rfl
 rw[←aH]
 try rw[show (h.bl.aT (h.nx) (aa [.int .i64 p.1,.int .i64 p.2.1] 28 false))=hA.bl by rw[aH]]
 clear aH
 have sA:=s.le aL
 have q7:=(aL.get _ nL.1).trans ga
 have vN:=(aL.get _ hlt.1).trans gk
 by_cases Fv:code=1
 ·refine ⟨fun l' h'=>slot l' 10=.int .i64 c.ask.m∧HQ hA h',?_,?_⟩
  ·simp(disch:=first|omega|simp only[Wd]<;>omega|rfl)only[Wz,xo,az,vN,aV (show ¬c.ask.k=3 by omega),xm,bg Fv]
   exact ⟨by first | rfl | trivial,rfl⟩
  ·rintro l' h' ⟨e1,hE⟩
   cases (show hA=h' from hE)
   simp(disch:=first|omega|simp only[Wd]<;>omega|rfl)only[Wz,Dp]
   refine ⟨fun l2 h2=>AW h2 E H X N 0 y out { D with has:=cD D.has ⟨D.jJ,p.1,p.2.1,c.ask.m⟩ } kb c∧FK E.a h h2,?_,?_⟩
   ·simp(disch:=first|omega|simp only[Wd]<;>omega|rfl)only[Wz,bg Fv,Dn,az,q7,gA,e1]
    refine Pn D.has ⟨D.jJ,p.1,p.2.1,c.ask.m⟩ hA vh _ (sh.1.le aL) (by omega) (by omega) ?_
    intro v' h2 hs2 bt
    have n2:=bt.nx
    have lo2:=bt.lo
    have s2:=sA.le bt
    have SX:=(bt.get _ (by omega)).trans q7
    obtain ⟨x',c',rfl⟩:=hs2.cell
    simp(disch:=first|omega|simp only[Wd]<;>omega|rfl)only[Wz,az,SX]
    have q:=s2.Ld (D':={ D with has:=cD D.has ⟨D.jJ,p.1,p.2.1,c.ask.m⟩ }) ((sa.le aL).le bt) hs2 rfl
    exact ⟨q.1,((FK.le aL).trans (FK.le bt)).trans q.2⟩
   ·rintro l2 h2 ⟨s2,f2⟩
    exact hkG Fv h2 s2 f2
 ·refine ⟨fun _ _=>False,?_,fun _ _ hf=>hf.elim⟩
  simp(disch:=first|omega|simp only[Wd]<;>omega|rfl)only[Wz,xo,az,vN,aV (show ¬c.ask.k=3 by omega),xm,aV Fv]
  have q:=sA.yQ (c':={ c with code:=code }) (p1.keep aL.nx aL.lo fun d _ hd _=>aL.get d hd) (p2.keep aL.nx aL.lo fun d _ hd _=>aL.get d hd) s.c.AK
  unfold cu at q
  exact Yf Fv _ q.1 ((FK.le aL).trans q.2)
def yS (D:AD) (t r:Int):iA:=⟨2,D.jJ,t,r,0,0,0⟩
theorem Lh {t r:Int} (h:a_ t r≠-1):kO (yS D t r)=true:=by
 unfold kO yS
 simp[h]
theorem yT (s:AW h E H X N 0 y out D kb c) (hN:N≤900) (l1:D.has.length≤1000) (l2:D.asked.length≤1000) (ok:a_ c.t c.r≠-1) (o:Int) (κ:KQ)
  (hk6:aN D.asked c.t c.r=0→∀h',AW h' E H X N 0 y out D kb { c with code:=6 }→FK E.a h h'→κ (.tuple ⟨[]⟩) h')
  (dy:aN D.asked c.t c.r≠0→∀h',AW h' E H X N 0 y out { D with asked:=bS D.asked c.t c.r } kb { c with code:=1 }→FK E.a h h'→κ (.tuple ⟨[]⟩) h')
  (hkB:aN D.asked c.t c.r≠0→aN D.has c.t c.r≠0→∀h',AW h' E H X (N+1) 3 (yS D c.t c.r) o { D with asked:=bS D.asked c.t c.r } kb { c with ask:=yS D c.t c.r }→FK E.a h h'→κ (.tuple ⟨[]⟩) h') :
  CallW Tryz.prog 134 [pt E.z.ab] h κ:=by
 have hlo:=s.lo
 obtain ⟨va,vh,ga,sa,sh⟩:=s.ag
 obtain ⟨vn,vg,gk,p1,p2⟩:=s.c.g
 have hlt:=s.c.lt
 have nL:=s.g.y_
 unfold cu at gk
 refine an mixed ?_
 rw[V0]
 simp(disch:=first|omega|simp only[Wd]<;>omega|rfl)only[Wz,az,ga,gk]
 obtain ⟨hA,aH⟩:∃hA:Heap,hA=⟨h.nx+1,(h.bl.aT (h.nx) (aa [.int .i64 c.t,.int .i64 c.r] 28 false)),h.lo⟩:=⟨_,rfl⟩
 have aL:Le h hA:=by subst aH; exact ((Le.refl h).new _)
 have gA:hA.bl.get (h.nx)=some (aa [.int .i64 c.t,.int .i64 c.r] 28 false):=by subst aH; exact T.af _ _ _
 have ef:hA.nx=h.nx+1:=by subst aH; rfl
 have ej:hA.lo=h.lo:=by subst aH; rfl
 rw[←aH]
 try rw[show (h.bl.aT (h.nx) (aa [.int .i64 c.t,.int .i64 c.r] 28 false))=hA.bl by rw[aH]]
 clear aH
 have q7:=(aL.get _ nL.1).trans ga
 have vN:=(aL.get _ hlt.1).trans gk
 refine i_ D.asked c.t c.r hA va _ (sa.1.le aL) (by omega) (by omega) ?_
 intro h2 bt
 have uH:=bt.nx
 have uI:=bt.lo
 have gA:=(bt.get _ (by omega)).trans gA
 have q7:=(bt.get _ (by omega)).trans q7
 have vN:=(bt.get _ (by omega)).trans vN
 have s2:=s.le (aL.trans bt)
 have f2:=FK.le (a:=E.a) (aL.trans bt)
 have adI:∀{h1 h2:Heap} (l:Le h1 h2),d_ mV 160 h1 vn c.dK→d_ mV 160 h2 vn c.dK:=fun l p=>p.keep l.nx l.lo fun d _ hd _=>l.get d hd
 have adJ:∀{h1 h2:Heap} (l:Le h1 h2),dZ bH 4 46 h1 vg c.goes→dZ bH 4 46 h2 vg c.goes:=fun l p=>p.keep l.nx l.lo fun d _ hd _=>l.get d hd
 by_cases hm:aN D.asked c.t c.r=0
 ·simp(disch:=first|omega|simp only[Wd]<;>omega|rfl)only[Wz,bg hm,Dv,az,q7,vN]
  have q:=s2.yQ (c':={ c with code:=6 }) (adI (aL.trans bt) p1) (adJ (aL.trans bt) p2) s.c.AK
  unfold cu at q
  exact hk6 hm _ q.1 (f2.trans q.2)
 ·simp(disch:=first|omega|simp only[Wd]<;>omega|rfl)only[Wz,aV hm,Dw,az,q7,gA]
  refine Hu D.asked c.t c.r h2 va _ (sa.1.le (aL.trans bt)) (by omega) (by omega) ?_
  intro v' h3 FM cr
  have s3:=s2.le cr
  obtain ⟨x',c',rfl⟩:=FM.cell
  have adG:=cr.nx
  have adH:=cr.lo
  have gA:=(cr.get _ (by omega)).trans gA
  have q7:=(cr.get _ (by omega)).trans q7
  have vN:=(cr.get _ (by omega)).trans vN
  have BC:=(aL.trans bt).trans cr
  have q3:=s3.Ld (D':={ D with asked:=bS D.asked c.t c.r }) FM (sh.le BC) rfl
  have f3:=(FK.le (a:=E.a) BC).trans q3.2
  have hne:E.z.ab≠h.nx:=cO q7 gA (by decide)
  have hkb:E.z.ab≠kb:=cO q7 vN (by decide)
  have Zl:=s3.lo
  simp(disch:=first|omega|simp only[Wd]<;>omega|rfl)only[Wz,az,q7,gA]
  obtain ⟨h4,e4⟩:∃h4:Heap,h4=⟨h3.nx,h3.bl.aT E.z.ab (aa [pt E.A.wb,.int .i64 0,.int .i64 D.jJ,.slice x' (bS D.asked c.t c.r).length c',vh,pt E.z.pb,pt kb] 155 false),h3.lo⟩:=⟨_,rfl⟩
  have s4:AW h4 E H X N 0 y out { D with asked:=bS D.asked c.t c.r } kb c:=by rw[e4]; exact q3.1
  have f4:FK E.a h h4:=by rw[e4]; exact f3
  have gA4:h4.bl.get h.nx=some (aa [.int .i64 c.t,.int .i64 c.r] 28 false):=by rw[e4]; exact (T.ai _ _ hne).trans gA
  have lt4:h.nx<h4.nx:=by rw[e4]; show h.nx<h3.nx; omega
  have UI:h4.bl.get E.z.ab=some (aa [pt E.A.wb,.int .i64 0,.int .i64 D.jJ,.slice x' (bS D.asked c.t c.r).length c',vh,pt E.z.pb,pt kb] 155 false):=by rw[e4]; exact T.af _ _ _
  have sa4:jf h4 (.slice x' (bS D.asked c.t c.r).length c') (bS D.asked c.t c.r):=by rw[e4]; exact FM.up q7 (by decide) _
  have sh4:jf h4 vh D.has:=by rw[e4]; exact (sh.le BC).up q7 (by decide) _
  rw[←e4]
  clear e4
  obtain ⟨vn4,vg4,gk4,p14,p24⟩:=s4.c.g
  have aik:=s4.c.lt
  have S1:=s4.g.y_
  have lo4:=s4.lo
  unfold cu at gk4
  have Kl:∀h5,Le h4 h5→xx (pt E.z.ab) h5 κ:=by
   intro h5 jB
   have n5:=jB.nx
   have l5:=jB.lo
   have s5:=s4.le jB
   have ga5:=(jB.get _ S1.1).trans UI
   have gk5:=(jB.get _ aik.1).trans gk4
   simp(disch:=first|omega|simp only[Wd]<;>omega|rfl)only[Wz,xx,az,ga5,gk5]
   have q:=s5.yQ (c':={ c with code:=1 }) (p14.keep jB.nx jB.lo fun d _ hd _=>jB.get d hd) (p24.keep jB.nx jB.lo fun d _ hd _=>jB.get d hd) s4.c.AK
   unfold cu at q
   exact dy hm _ q.1 ((f4.trans (FK.le jB)).trans q.2)
  refine i_ D.has c.t c.r h4 vh _ sh4.1 (by omega) (by omega) ?_
  intro h5 jB
  have n5:=jB.nx
  have l5:=jB.lo
  have ga5:=(jB.get _ S1.1).trans UI
  have gA5:=(jB.get _ lt4).trans gA4
  by_cases hh:aN D.has c.t c.r=0
  ·simp(disch:=first|omega|simp only[Wd]<;>omega|rfl)only[Wz,bg hh]
   exact Kl h5 jB
  ·simp(disch:=first|omega|simp only[Wd]<;>omega|rfl)only[Wz,aV hh,az,ga5,gA5]
   refine Jw D.has c.t c.r h5 vh _ (sh4.1.le jB) (by omega) (by omega) ?_
   intro h6 BF
   have n6:=BF.nx
   have l6:=BF.lo
   have PA:=jB.trans BF
   have ga6:=(PA.get _ S1.1).trans UI
   have gA6:=(PA.get _ lt4).trans gA4
   cases hb:yN D.has c.t c.r with
   | true=>
    simp(disch:=first|omega|simp only[Wd]<;>omega|rfl)only[Wz]
    exact Kl h6 PA
   | false=>
    simp(disch:=first|omega|simp only[Wd]<;>omega|rfl)only[Wz,az,ga6,gA6]
    refine Jw (bS D.asked c.t c.r) c.t c.r h6 _ _ (sa4.1.le PA) (by have:(bS D.asked c.t c.r).length≤D.asked.length:=List.length_filter_le _ _; omega) (by omega) ?_
    intro h7 Yp
    have PB:=PA.trans Yp
    have ga7:=(PB.get _ S1.1).trans UI
    have gA7:=(PB.get _ lt4).trans gA4
    cases hb2:yN (bS D.asked c.t c.r) c.t c.r with
    | true=>
     simp(disch:=first|omega|simp only[Wd]<;>omega|rfl)only[Wz]
     exact Kl h7 PB
    | false=>
     simp(disch:=first|omega|simp only[Wd]<;>omega|rfl)only[Wz,Du,az,ga7,gA7]
     refine yR (s4.le PB) hN (yS D c.t c.r) (Lh ok) o _ ?_
     intro h8 s8 f8
     exact hkB hm hh h8 s8 ((f4.trans (FK.le PB)).trans f8)
theorem Fw (s:AW h E H X N 0 y out D kb c) (l1:D.has.length≤1000) (code:Int) (κ:KQ)
  (hk:∀h',AW h' E H X N 0 y out { D with has:=bS D.has c.t c.r } kb { c with code:=1 }→FK E.a h h'→κ (.tuple ⟨[]⟩) h') :
  CallW Tryz.prog 132 [pt E.z.ab,.int .i64 code] h κ:=by
 have hlo:=s.lo
 obtain ⟨va,vh,ga,sa,sh⟩:=s.ag
 obtain ⟨vn,vg,gk,p1,p2⟩:=s.c.g
 have hlt:=s.c.lt
 have nL:=s.g.y_
 unfold cu at gk
 refine an mixed ?_
 rw[VY]
 simp(disch:=first|omega|simp only[Wd]<;>omega|rfl)only[Wz,az,ga,gk]
 refine Hu D.has c.t c.r h vh _ sh.1 (by omega) hlo ?_
 intro v' h3 FM cr
 have s3:=s.le cr
 obtain ⟨x',c',rfl⟩:=FM.cell
 have S2:=(cr.get _ nL.1).trans ga
 have PC:=(cr.get _ hlt.1).trans gk
 have hkb:E.z.ab≠kb:=cO S2 PC (by decide)
 have Zl:=cr.lo
 have n3:=cr.nx
 have q3:=s3.Ld (D':={ D with has:=bS D.has c.t c.r }) (sa.le cr) FM rfl
 simp(disch:=first|omega|simp only[Wd]<;>omega|rfl)only[Wz,az,S2,PC]
 have q:=q3.1.yQ (c':={ c with code:=1 }) (upE (p1.le cr) S2 (by decide) _) (upX (p2.le cr) S2 (by decide) _) s.c.AK
 unfold cu at q
 exact hk _ q.1 (((FK.le cr).trans q3.2).trans q.2)
end
def sH (E:EN) (D:AD) (g:L4):iA:=if tV g.t g.r g.m=true∧0<E.z.most-D.aY.length then ⟨3,D.jJ,g.t,g.r,0,0,-1-E.z.th⟩ else ⟨2,D.jJ,g.t,g.r,0,0,0⟩
section
variable {h h':Heap} {E:EN} {H X:Int→Int→Int} {N n:Nat} {y:iA} {out:Int} {D:AD} {kb:Nat} {c:CD}
theorem S3 {g:L4} (ok:a_ g.t g.r≠-1) (hx:D.jJ≠-1-E.z.th):kO (sH E D g)=true:=by
 unfold kO sH
 split
 ·simp[ok,hx.symm]
 ·simp[ok]
theorem Jz (s:AW h E H X N 0 y out D kb c) (hN:N≤900) (hm:0≤E.z.most∧E.z.most≤8) (lp:D.aY.length≤1000) (lg:c.goes.length≤1000) (okG:∀g∈c.goes,a_ g.t g.r≠-1) (hx:D.jJ≠-1-E.z.th) (o:Int) (κ:KQ)
  (nO:c.goes=[]→∀h',AW h' E H X N 0 y out { D with jJ:=0,asked:=[],has:=[] } kb { c with code:=1 }→FK E.a h h'→κ (.tuple ⟨[]⟩) h')
  (dy:∀g G,c.goes=g::G→∀h',AW h' E H X (N+1) 3 (sH E D g) o D kb { c with ask:=sH E D g }→FK E.a h h'→κ (.tuple ⟨[]⟩) h') :
  CallW Tryz.prog 193 [pt E.z.ab] h κ:=by
 have hlo:=s.lo
 obtain ⟨va,vh,ga,sa,sh⟩:=s.ag
 obtain ⟨vn,vg,gk,p1,p2⟩:=s.c.g
 have hlt:=s.c.lt
 have nL:=s.g.y_
 have hkb:E.z.ab≠kb:=cO ga gk (by decide)
 obtain ⟨vx,vc,ev⟩:=p2.cell
 have hlen:=p2.len (β:=Prop) (fl:=False)
 unfold cu at gk
 refine an mixed ?_
 rw[WC]
 simp(disch:=first|omega|simp only[Wd]<;>omega|rfl)only[Wz,az,ga,gk,hlen]
 cases hc:c.goes with
 | nil=>
  simp(disch:=first|omega|simp only[Wd]<;>omega|rfl)only[Wz,List.length_nil,DI,az,ga,gk]
  have q:=s.Ld (D':={ D with jJ:=0,asked:=[],has:=[] }) (jf.nil h) (jf.nil h) rfl
  have q2:=q.1.yQ (c':={ c with code:=1 }) (upE p1 ga (by decide) _) (upX p2 ga (by decide) _) s.c.AK
  unfold cu at q2
  exact nO hc _ q2.1 (q.2.trans q2.2)
 | cons g G=>
  have p2':=p2
  rw[hc] at p2'
  obtain ⟨b0,o0,hb0,hx0,Cy⟩:=hdG p2'
  have okg:=okG g (by rw[hc]; exact .head _)
  have lG:(g::G).length≤1000:=by rw[←hc]; exact lg
  have lG':G.length+1≤1000:=by simpa using lG
  simp(disch:=first|omega|simp only[Wd]<;>omega|rfl)only[Wz,List.length_cons,DJ,az,ga,gk,hx0,Cy,bH]
  obtain ⟨hA,aH⟩:∃hA:Heap,hA=⟨h.nx+1+1,((h.bl.aT (h.nx) (aa [.int .i64 g.x,.int .i64 g.t,.int .i64 g.r,.int .i64 g.m] 46 false)).aT (h.nx+1) (aa [.int .i64 2,.int .i64 D.jJ,.int .i64 g.t,.int .i64 g.r,.int .i64 0,.int .i64 0,.int .i64 0] 31 false)),h.lo⟩:=⟨_,rfl⟩
  have aL:Le h hA:=by subst aH; exact (((Le.refl h).new _).new _)
  have gA:hA.bl.get (h.nx)=some (aa [.int .i64 g.x,.int .i64 g.t,.int .i64 g.r,.int .i64 g.m] 46 false):=by subst aH; exact (T.ai _ _ (by omega)).trans (T.af _ _ _)
  have gB:hA.bl.get (h.nx+1)=some (aa [.int .i64 2,.int .i64 D.jJ,.int .i64 g.t,.int .i64 g.r,.int .i64 0,.int .i64 0,.int .i64 0] 31 false):=by subst aH; exact T.af _ _ _
  have ef:hA.nx=h.nx+1+1:=by subst aH; rfl
  have ej:hA.lo=h.lo:=by subst aH; rfl
  rw[←aH]
  try rw[show ((h.bl.aT (h.nx) (aa [.int .i64 g.x,.int .i64 g.t,.int .i64 g.r,.int .i64 g.m] 46 false)).aT (h.nx+1) (aa [.int .i64 2,.int .i64 D.jJ,.int .i64 g.t,.int .i64 g.r,.int .i64 0,.int .i64 0,.int .i64 0] 31 false))=hA.bl by rw[aH]]
  clear aH
  have sA:=s.le aL
  have q7:=(aL.get _ nL.1).trans ga
  refine ⟨fun l' h1=>Le h h1∧h.nx+1<h1.nx∧h1.bl.get (h.nx+1)=some (aa (BR (sH E D g)) 31 false),?_,?_⟩
  ·simp(disch:=first|omega|simp only[Wd]<;>omega|rfl)only[Wz,DH,gA]
   refine yP g.t g.r g.m ?_
   cases he:tV g.t g.r g.m with
   | false=>
    have e9:sH E D g=⟨2,D.jJ,g.t,g.r,0,0,0⟩:=by unfold sH; rw[if_neg (by rw[he]; simp)]
    simp(disch:=first|omega|simp only[Wd]<;>omega|rfl)only[Wz]
    rw[e9]
    exact ⟨aL,by omega,gB⟩
   | true=>
    simp(disch:=first|omega|simp only[Wd]<;>omega|rfl)only[Wz,az,q7]
    refine Jx sA.g (by omega) hm _ ?_
    by_cases hr:0<E.z.most-D.aY.length
    ·have e9:sH E D g=⟨3,D.jJ,g.t,g.r,0,0,-1-E.z.th⟩:=by unfold sH; rw[if_pos ⟨he,hr⟩]
     simp(disch:=first|omega|simp only[Wd]<;>omega|rfl)only[Wz,eY hr,DG,az,q7]
     refine Zp sA.g _ ?_
     simp(disch:=first|omega|simp only[Wd]<;>omega|rfl)only[Wz,gB]
     rw[e9]
     exact ⟨aL.set (by omega) _,by omega,rfl⟩
    ·have e9:sH E D g=⟨2,D.jJ,g.t,g.r,0,0,0⟩:=by unfold sH; rw[if_neg (fun e=>hr e.2)]
     simp(disch:=first|omega|simp only[Wd]<;>omega|rfl)only[Wz,cW (show E.z.most-D.aY.length≤0 by omega)]
     rw[e9]
     exact ⟨aL,by omega,gB⟩
  ·rintro l' h1 ⟨bF,lt1,g1⟩
   unfold BR at g1
   simp(disch:=first|omega|simp only[Wd]<;>omega|rfl)only[Wz,g1]
   refine yR (s.le bF) hN (sH E D g) (S3 okg hx) o _ ?_
   intro h8 s8 f8
   exact dy g G hc h8 s8 ((FK.le bF).trans f8)
def qo (E:EN) (D:AD) (c:CD) (g:L4) (code:Int):AD:={ D with has:=bS D.has g.t g.r,aY:=if c.ask.k=3∧code=1 then BZ E.z.most (-1-E.z.th) D.aY g.t g.r g.m else D.aY }
theorem Li (s:AW h E H X N 0 y out D kb c) (hm:0≤E.z.most∧E.z.most≤8) (l1:D.has.length≤1000) (lp:D.aY.length≤1000) {g:L4} {G:List L4} (hc:c.goes=g::G) (code:Int) (κ:KQ)
  (hk:∀h',AW h' E H X N 0 y out (qo E D c g code) kb { c with goes:=G }→FK E.a h h'→CallW Tryz.prog 193 [pt E.z.ab] h' fun _ h=>κ (.tuple ⟨[]⟩) h) :
  CallW Tryz.prog 191 [pt E.z.ab,.int .i64 code] h κ:=by
 have hlo:=s.lo
 obtain ⟨va,vh,ga,sa,sh⟩:=s.ag
 obtain ⟨vn,vg,gk,p1,p2⟩:=s.c.g
 have hlt:=s.c.lt
 have nL:=s.g.y_
 have p2':=p2
 rw[hc] at p2'
 obtain ⟨b0,o0,hb0,hx0,Cy⟩:=hdG p2'
 have gk0:=gk
 unfold cu at gk
 refine an mixed ?_
 rw[Ww]
 simp(disch:=first|omega|simp only[Wd]<;>omega|rfl)only[Wz,az,ga,gk,hx0,Cy,bH]
 obtain ⟨hA,aH⟩:∃hA:Heap,hA=⟨h.nx+1,(h.bl.aT (h.nx) (aa [.int .i64 g.x,.int .i64 g.t,.int .i64 g.r,.int .i64 g.m] 46 false)),h.lo⟩:=⟨_,rfl⟩
 have aL:Le h hA:=by subst aH; exact ((Le.refl h).new _)
 have gA:hA.bl.get (h.nx)=some (aa [.int .i64 g.x,.int .i64 g.t,.int .i64 g.r,.int .i64 g.m] 46 false):=by subst aH; exact T.af _ _ _
 have ef:hA.nx=h.nx+1:=by subst aH; rfl
 have ej:hA.lo=h.lo:=by subst aH; rfl
 rw[←aH]
 try rw[show (h.bl.aT (h.nx) (aa [.int .i64 g.x,.int .i64 g.t,.int .i64 g.r,.int .i64 g.m] 46 false))=hA.bl by rw[aH]]
 clear aH
 have sA:=s.le aL
 have q7:=(aL.get _ nL.1).trans ga
 have vN:=(aL.get _ hlt.1).trans gk
 obtain ⟨u,pu,hu⟩:=(p2'.le aL).tail bX (by decide)
 obtain ⟨ux,uc,eu⟩:=pu.cell
 subst eu
 have q1:=sA.yQ (c':={ c with goes:=G }) (p1.le aL) pu s.c.AK
 have hne:kb≠h.nx:=cO vN gA (by decide)
 have hab:E.z.ab≠kb:=cO q7 vN (by decide)
 have f1:=(FK.le (a:=E.a) aL).trans q1.2
 obtain ⟨h1,e1⟩:∃h1:Heap,h1=⟨hA.nx,hA.bl.aT kb (cu E.z { c with goes:=G } vn (.slice ux G.length uc)),hA.lo⟩:=⟨_,rfl⟩
 have s1:AW h1 E H X N 0 y out D kb { c with goes:=G }:=by rw[e1]; exact q1.1
 have f1:FK E.a h h1:=by rw[e1]; exact f1
 have gA1:h1.bl.get h.nx=some (aa [.int .i64 g.x,.int .i64 g.t,.int .i64 g.r,.int .i64 g.m] 46 false):=by rw[e1]; exact (T.ai _ _ hne).trans gA
 have n1:h.nx<h1.nx:=by rw[e1]; show h.nx<hA.nx; omega
 have S0:h1.bl.get E.z.ab=some (aa [pt E.A.wb,.int .i64 0,.int .i64 D.jJ,va,vh,pt E.z.pb,pt kb] 155 false):=by rw[e1]; exact (T.ai _ _ (fun e=>hab e.symm)).trans q7
 have sa1:jf h1 va D.asked:=by rw[e1]; exact (sa.le aL).up vN (by decide) _
 have sh1:jf h1 vh D.has:=by rw[e1]; exact (sh.le aL).up vN (by decide) _
 unfold cu at e1
 simp(disch:=first|omega|simp only[Wd]<;>omega|rfl)only[Wz,az,vN,hu]
 rw[←e1]
 clear e1
 obtain ⟨vn1,vg1,Qi,p11,p21⟩:=s1.c.g
 have ail:=s1.c.lt
 have aim:=s1.g.y_
 have lo1:=s1.lo
 simp(disch:=first|omega|simp only[Wd]<;>omega|rfl)only[Wz,az,q7,S0,gA1]
 refine Hu D.has g.t g.r h1 vh _ sh1.1 (by omega) (by omega) ?_
 intro v' h2 hs2 bt
 have s2:=s1.le bt
 obtain ⟨x',c',rfl⟩:=hs2.cell
 have SX:=(bt.get _ aim.1).trans S0
 have Zu:=(bt.get _ n1).trans gA1
 have n2:=bt.nx
 have lo2:=bt.lo
 have By:E.z.ab≠h.nx:=cO SX Zu (by decide)
 have q3:=s2.Ld (D':={ D with has:=bS D.has g.t g.r }) (sa1.le bt) hs2 rfl
 have f3:=(f1.trans (FK.le bt)).trans q3.2
 obtain ⟨h3,e3⟩:∃h3:Heap,h3=⟨h2.nx,h2.bl.aT E.z.ab (aa [pt E.A.wb,.int .i64 0,.int .i64 D.jJ,va,.slice x' (bS D.has g.t g.r).length c',pt E.z.pb,pt kb] 155 false),h2.lo⟩:=⟨_,rfl⟩
 have s3:AW h3 E H X N 0 y out { D with has:=bS D.has g.t g.r } kb { c with goes:=G }:=by rw[e3]; exact q3.1
 have f3:FK E.a h h3:=by rw[e3]; exact f3
 have gA3:h3.bl.get h.nx=some (aa [.int .i64 g.x,.int .i64 g.t,.int .i64 g.r,.int .i64 g.m] 46 false):=by rw[e3]; exact (T.ai _ _ By).trans Zu
 have n3:h.nx<h3.nx:=by rw[e3]; show h.nx<h2.nx; omega
 simp(disch:=first|omega|simp only[Wd]<;>omega|rfl)only[Wz,az,SX]
 rw[←e3]
 clear e3
 obtain ⟨va3,vh3,S2,sa3,sh3⟩:=s3.ag
 obtain ⟨vn3,vg3,PC,p13,p23⟩:=s3.c.g
 have Zl:=s3.lo
 unfold cu at PC
 refine ⟨fun l' h'=>AW h' E H X N 0 y out (qo E D c g code) kb { c with goes:=G }∧FK E.a h h',?_,?_⟩
 ·by_cases y3:c.ask.k=3
  ·by_cases hcd:code=1
   ·simp(disch:=first|omega|simp only[Wd]<;>omega|rfl)only[Wz,rU,az,PC,bg y3,bg hcd,DF,S2,gA3]
    refine Zq s3.g (by show D.aY.length≤100000; omega) (by omega) hm g.t g.r g.m _ ?_
    intro u4 h4 h5 jr hor g5
    have s4:=s3.le jr
    obtain ⟨vp,gl,_⟩:=s4.g.gl
    have e5:qo E D c g code={ ({ D with has:=bS D.has g.t g.r }:AD) with aY:=BZ E.z.most (-1-E.z.th) D.aY g.t g.r g.m }:=by unfold qo; rw[if_pos ⟨y3,hcd⟩]
    rcases hor with rfl | ⟨vp',rfl⟩
    ·refine ⟨⟨s4.w,?_,s4.c,s4.wb,s4.th⟩,f3.trans (FK.le jr)⟩
     rw[e5]; exact g5
    ·refine ⟨⟨s4.w.put gl (by unfold oS; decide) (by unfold lW; decide) _,?_,s4.c.put gl (.inr rfl) _,s4.wb,s4.th⟩,(f3.trans (FK.le jr)).trans (FK.put gl (.inr (.inr (.inl rfl))) _)⟩
     rw[e5]; exact g5
   ·have e5:qo E D c g code={ D with has:=bS D.has g.t g.r }:=by unfold qo; rw[if_neg (fun e=>hcd e.2)]
    simp(disch:=first|omega|simp only[Wd]<;>omega|rfl)only[Wz,rU,az,PC,bg y3,aV hcd]
    rw[e5]; exact ⟨s3,f3⟩
  ·have e5:qo E D c g code={ D with has:=bS D.has g.t g.r }:=by unfold qo; rw[if_neg (fun e=>y3 e.1)]
   simp(disch:=first|omega|simp only[Wd]<;>omega|rfl)only[Wz,rU,az,PC,aV y3]
   rw[e5]; exact ⟨s3,f3⟩
 ·rintro l' h' ⟨s',f'⟩
  exact hk h' s' f'
theorem PD (s:AW h E H X N 0 y out D kb c) (hp:D.aY=[]) (l1:D.has.length<20) (okH:∀g∈D.has,a_ g.t g.r≠-1) (κ:KQ)
  (hk:∀O h',O.Perm D.has→AW h' E H X N 0 y out D kb { c with Zn:=191,goes:=O }→FK E.a h h'→CallW Tryz.prog 193 [pt E.z.ab] h' fun _ h=>κ (.tuple ⟨[]⟩) h) :
  CallW Tryz.prog 136 [pt E.z.ab] h κ:=by
 have hlo:=s.lo
 obtain ⟨va,vh,ga,sa,sh⟩:=s.ag
 have nL:=s.g.y_
 refine an mixed ?_
 rw[V1]
 simp(disch:=first|omega|simp only[Wd]<;>omega|rfl)only[Wz,az,ga]
 refine BY s.g (by rw[hp]; exact Nat.zero_le _) hlo _ ?_
 intro v2 h2 lY bt
 have n2:=bt.nx
 have l2:=bt.lo
 rw[hp] at lY
 have hlen:=lY.sl.len (β:=Prop) (fl:=False)
 have s2:=s.le bt
 have SX:=(bt.get _ nL.1).trans ga
 obtain ⟨vn2,vg2,SY,p12,p22⟩:=s2.c.g
 have ain:=s2.c.lt
 unfold cu at SY
 simp(disch:=first|omega|simp only[Wd]<;>omega|rfl)only[Wz,hlen,List.length_nil,Dx,az,SX]
 refine SL D.has h2 vh _ (sh.1.le bt) l1 (by omega) okH ?_
 intro O v3 h3 hO po cr
 have n3:=cr.nx
 have Zl:=cr.lo
 have s3:=s2.le cr
 have PC:=(cr.get _ ain.1).trans SY
 obtain ⟨x3,c3,e3⟩:=po.cell
 subst e3
 have q:=s3.yQ (c':={ c with Zn:=191,goes:=O }) (p12.le cr) po s.c.AK
 unfold cu at q
 simp(disch:=first|omega|simp only[Wd]<;>omega|rfl)only[Wz,az,PC,oT]
 exact hk O _ hO q.1 ((FK.le (bt.trans cr)).trans q.2)
end
end Go.Proofs
