/-
  PROVED HERE: a part of the proof (S20, S21, S22, S23, S24, S25, S26, ST5, ST6, ST7, S6, ST8, ST9, ST10, ST11, ST12, ST13, ST18, ST19, SB1, SB2, N7, N8, N9, SA1, SA2, SA3, SA4, SA5, SB3, SB4, SB5, SB6, SB7, ST20, ST21, ST22, ST23, ST24, A20).
-/
import Derived.Test.YtmjghbjpdoeemaaGreatDoorG7
import Derived.Test.YtmjghbjpdoeemaaGreatDoorRZ
import Derived.Test.YtmjghbjpdoeemaaGreatDoorG2
import Derived.Test.YtmjghbjpdoeemaaGreatDoorRows
set_option linter.unusedVariables false
set_option linter.unusedSimpArgs false
set_option maxRecDepth 100000
set_option maxHeartbeats 4000000
namespace Go.Proofs
open Go.Vai Go.Clashes
theorem Dn (n:Nat):aT [Value.int .i64 0] n=je (List.replicate n 0):=by
 unfold je
 induction n with
 | zero=>rfl
 | succ n ih=>rw[List.replicate_succ,List.map_cons,←ih]; rfl
theorem w6 (n:Nat):aT [Value.pointer none] n=List.replicate n (.pointer none):=by
 induction n with
 | zero=>rfl
 | succ n ih=>rw[List.replicate_succ,←ih]; rfl
theorem qo (v:Value) (n:Nat):(aT [v] n).length=n:=by
 induction n with
 | zero=>rfl
 | succ n ih=>show (v::aT [v] n).length=_; rw[List.length_cons,ih]
theorem Dp (n:Nat) (hn:1≤n∧n≤8) (h:Heap) (κ:KQ)
  (hk:∀h' pb ib,Le h h'→h.nx≤ib→ib<h'.nx→pb<h'.nx→h'.bl.get pb=some (aa [.slice (some ⟨ib,0,none⟩) n n] 193 false)→h'.bl.get ib=some (aa (je (List.replicate n 0)) 3 false)→κ (.tuple ⟨[.pointer (some ⟨pb,0,none⟩),.int .i64 0]⟩) h') :
  CallW Tryz.prog 68 [.int .i64 (n:Int)] h κ:=by
 refine aj mixed ?_
 rw[WR]
 have hrl:=qo (.int .i64 0) n
 simp(disch:=first|omega|simp only[Wd]<;>omega|with_unfolding_all rfl)only[Wz,cg (show (1:Int)≤(n:Int) by omega),cg (show (n:Int)≤8 by omega)]
 rw[zC _ _ _ _ _ (by omega) (by omega),Dn]
 simp(disch:=first|omega|simp only[Wd]<;>omega|with_unfolding_all rfl)only[Wz]
 exact hk _ _ _ (((Le.refl h).new _).new _) (Nat.le_refl _) (by show h.nx<h.nx+1+1; omega) (by show h.nx+1<h.nx+1+1; omega) (T.af _ _ _) ((T.ah _ _ (by omega)).trans (T.af _ _ _))
theorem EV (n:Nat) (hn:1≤n∧n≤16) (h:Heap) (κ:KQ)
  (hk:∀h' lb hb,Le h h'→h.nx≤hb→hb<h'.nx→lb<h'.nx→h'.bl.get lb=some (aa [.slice (some ⟨hb,0,none⟩) n n] 179 false)→h'.bl.get hb=some (aa (List.replicate n (.pointer none)) 176 false)→κ (.tuple ⟨[.pointer (some ⟨lb,0,none⟩),.int .i64 0]⟩) h') :
  CallW Tryz.prog 69 [.int .i64 (n:Int)] h κ:=by
 refine aj mixed ?_
 rw[WU]
 have hrl:=qo (.pointer none) n
 simp(disch:=first|omega|simp only[Wd]<;>omega|with_unfolding_all rfl)only[Wz,cg (show (1:Int)≤(n:Int) by omega),cg (show (n:Int)≤16 by omega)]
 rw[zC _ _ _ _ _ (by omega) (by omega),w6]
 simp(disch:=first|omega|simp only[Wd]<;>omega|with_unfolding_all rfl)only[Wz]
 exact hk _ _ _ (((Le.refl h).new _).new _) (Nat.le_refl _) (by show h.nx<h.nx+1+1; omega) (by show h.nx+1<h.nx+1+1; omega) (T.af _ _ _) ((T.ah _ _ (by omega)).trans (T.af _ _ _))
theorem EW (h:Heap) (κ:KQ)
  (hk:κ (.pointer (some ⟨h.nx,0,none⟩)) ⟨h.nx+1,h.bl.aS h.nx (aa [.int .i64 0,.slice none 0 0] 169 false),h.lo⟩) :
  CallW Tryz.prog 70 [] h κ:=by
 refine aj mixed ?_
 rw[WV]
 simp(disch:=first|omega|simp only[Wd]<;>omega|with_unfolding_all rfl)only[Wz]
 exact hk
theorem Mp {h:Heap} {a:TA} {N:Nat} {d:TD} (s:tW h a N d) (hB:iU d.B=[]):(∀b∈d.Ts,b.M=[])∧d.F.length=d.B.length:=by
 constructor
 ·intro b hb
  cases hM:b.M with
  | nil=>rfl
  | cons e M=>
   exfalso
   have he:e∈b.M:=by rw[hM]; exact .head _
   have ids:=s.ids
   rw[hB] at ids
   have xN:=ids.eq_nil
   have g:=((s.is.bk b hb).good e he)
   cases hQ:e.Q with
   | nil=>exact g.ne hQ
   | cons p Q=>
    have:p.id∈d.Ts.flatMap fun b=>ez b.M:=List.mem_flatMap.2 ⟨b,hb,by
     unfold ez
     exact List.mem_flatMap.2 ⟨e,he,List.mem_map.2 ⟨p,by rw[hQ]; exact .head _,rfl⟩⟩⟩
    rw[xN] at this
    cases this
 ·have:=jT s.is.ck.ok
  rw[hB] at this
  simpa using this
structure Dq (A:WA) (a:TA) (d:TD) (R:RD) (c:dg) (n:Nat):Prop where
 ec:a.c=c
 en:A.n=n
 hd:(a.aH:Int)=c.H
 em:∀b∈d.Ts,b.M=[]
 f:(d.F.length:Int)=c.R
 cs:R.cs=List.replicate n none
 bI:R.bI=List.replicate c.S.toNat none
 bits:R.bits=List.replicate n 0
 begun:R.begun=0
 now:R.now=0
 tv:R.tv=.slice none 0 0
theorem w8 (a:Option Nat):(Value.cells (.map a)).toList=[.map a]:=id rfl
theorem adE (n:Nat) (hn:n≤8) (h:Heap) (κ:KQ) (hk:κ (.slice (some ⟨h.nx,0,none⟩) n n) ⟨h.nx+1,h.bl.aS h.nx (aa (List.replicate n (.pointer none)) 96 false),h.lo⟩) :
  Dy (match Value.int .i64 (n:Int),Value.int .i64 (n:Int) with | .int _ (.ofNat l),.int _ (.ofNat c)=>(match Nat.ble l c,Nat.ble c 1000000 with | true,true=>(aF none (aT [(Value.pointer none)] c) 96 false fun o=>some (o,sliceTo l c)) | _,_=>none) | _,_=>none) h κ:=by
 have e1:Nat.ble n n=true:=by rw[Nat.ble_eq]; exact Nat.le_refl _
 have e2:Nat.ble n 1000000=true:=by rw[Nat.ble_eq]; omega
 have hl:=qo (.pointer none) n
 show Dy (match Nat.ble n n,Nat.ble n 1000000 with | true,true=>(aF none (aT [(Value.pointer none)] n) 96 false fun o=>some (o,sliceTo n n)) | _,_=>none) h κ
 rw[e1,e2]
 simp only
 rw[iz,vl,w6]
 ·exact hk
 ·omega
theorem UD (c:dg) (hc:iE c) (n:Nat) (hn:1≤n∧n≤8) (h:Heap) (hlo:h.lo≤h.nx) (κ:KQ)
  (hk:∀h' A a d R,Dq A a d R c n→WS h' A a 0 d R→Le h h'→(∀x,FB h' a.bp x→h.nx≤x)→κ (.tuple ⟨[.pointer (some ⟨A.wb,0,none⟩),.int .i64 0]⟩) h') :
  CallW Tryz.prog 39 [C5 c,.int .i64 (n:Int)] h κ:=by
 obtain ⟨S,hS⟩:∃S:Nat,c.S=(S:Int):=⟨c.S.toNat,by have:=hc.1; omega⟩
 refine aj mixed ?_
 rw[Wt]
 simp(disch:=first|omega|simp only[Wd]<;>omega|with_unfolding_all rfl)only[Wz,C5]
 obtain ⟨hA,aK⟩:∃hA:Heap,hA=⟨h.nx+1,(h.bl.aS (h.nx) (aa [.int .i64 c.S,.int .i64 c.H,.int .i64 c.R,.int .i64 c.P] 30 false)),h.lo⟩:=⟨_,rfl⟩
 have aO:Le h hA:=by subst aK; exact ((Le.refl h).new _)
 have g1:hA.bl.get (h.nx)=some (aa [.int .i64 c.S,.int .i64 c.H,.int .i64 c.R,.int .i64 c.P] 30 false):=by subst aK; exact T.af _ _ _
 have gH:hA.nx=h.nx+1:=by subst aK; rfl
 have gI:hA.lo=h.lo:=by subst aK; rfl
 rw[←aK]
 clear aK
 refine OW c hA _ (by omega) ?_ ?_
 ·intro h1 e _ hno _; exact absurd hc hno
 intro h1 tb bw bp bl vb aH Ts F _ t1 gbm gbw gbp gbl bK fb1
 have n1:=bK.nx
 have l1:=bK.lo
 have hcS:1≤S∧S≤16:=by have:=hc.1; have:=hc.2.1; omega
 have Y0:=bK.nx
 have Y1:=bK.lo
 have g1:=(bK.get _ (by omega)).trans g1
 simp(disch:=first|omega|simp only[Wd]<;>omega|with_unfolding_all rfl)only[Wz,FV]
 refine Dp n hn h1 _ ?_
 intro h2 pb ib bF i1 i2 p2 gp gi
 have n2:=bF.nx
 have l2:=bF.lo
 have CX:=bF.nx
 have CY:=bF.lo
 have g1:=(bF.get _ (by omega)).trans g1
 simp(disch:=first|omega|simp only[Wd]<;>omega|with_unfolding_all rfl)only[Wz,FU,ax,g1,hS]
 refine EV S hcS h2 _ ?_
 intro h3 lb hb eZ j1 j2 q2 gl gh
 have n3:=eZ.nx
 have l3:=eZ.lo
 simp(disch:=first|omega|simp only[Wd]<;>omega|with_unfolding_all rfl)only[Wz]
 refine adE n hn.2 h3 _ ?_
 simp(disch:=first|omega|simp only[Wd]<;>omega|with_unfolding_all rfl)only[Wz,ptrTo,sliceTo,gL]
 obtain ⟨h4,e4⟩:∃h4:Heap,h4=⟨h3.nx+1+1,(h3.bl.aS h3.nx (aa (List.replicate n (Value.pointer none)) 96 false)).aS (h3.nx+1) (bt.map [] 0),h3.lo⟩:=⟨_,rfl⟩
 have oM:Le h3 h4:=by rw[e4]; exact ((Le.refl h3).new _).new _
 have gc4:h4.bl.get h3.nx=some (aa (List.replicate n (Value.pointer none)) 96 false):=by rw[e4]; exact (T.ah _ _ (by omega)).trans (T.af _ _ _)
 have gm4:h4.bl.get (h3.nx+1)=some (bt.map [] 0):=by rw[e4]; exact T.af _ _ _
 have n4:h4.nx=h3.nx+1+1:=by rw[e4]
 have l4:=oM.lo
 rw[←e4]
 clear e4
 refine EW h4 _ ?_
 obtain ⟨h5,e5⟩:∃h5:Heap,h5=⟨h4.nx+1,h4.bl.aS h4.nx (aa [.int .i64 0,.slice none 0 0] 169 false),h4.lo⟩:=⟨_,rfl⟩
 have Ar:Le h4 h5:=by rw[e5]; exact (Le.refl h4).new _
 have ZK:h5.bl.get h4.nx=some (aa [.int .i64 0,.slice none 0 0] 169 false):=by rw[e5]; exact T.af _ _ _
 have n5:h5.nx=h4.nx+1:=by rw[e5]
 have l5:=Ar.lo
 rw[←e5]
 clear e5
 simp(disch:=first|omega|simp only[Wd]<;>omega|with_unfolding_all rfl)only[Wz]
 rw[ow _ _ _ _ _ _ _ (by rw[w8]; rfl) (Nat.le_of_ble_eq_true rfl),qM]
 simp(disch:=first|omega|simp only[Wd]<;>omega|with_unfolding_all rfl)only[Wz,w8]
 obtain ⟨h6,e6⟩:∃h6:Heap,h6=⟨h5.nx+1,h5.bl.aS h5.nx (aa [.pointer (some ⟨tb,0,none⟩),.pointer (some ⟨lb,0,none⟩),.pointer (some ⟨pb,0,none⟩),.pointer (some ⟨h4.nx,0,none⟩),.slice (some ⟨h3.nx,0,none⟩) n n,.map (some (h3.nx+1)),.int .i64 0] 107 false),h5.lo⟩:=⟨_,rfl⟩
 have sG:Le h5 h6:=by rw[e6]; exact (Le.refl h5).new _
 have gw6:h6.bl.get h5.nx=some (aa [.pointer (some ⟨tb,0,none⟩),.pointer (some ⟨lb,0,none⟩),.pointer (some ⟨pb,0,none⟩),.pointer (some ⟨h4.nx,0,none⟩),.slice (some ⟨h3.nx,0,none⟩) n n,.map (some (h3.nx+1)),.int .i64 0] 107 false):=by rw[e6]; exact T.af _ _ _
 have n6:h6.nx=h5.nx+1:=by rw[e6]
 have l6:=sG.lo
 have hk:=hk h6 ⟨h5.nx,lb,hb,pb,ib,h4.nx,h3.nx,h3.nx+1,n⟩ ⟨tb,bw,bp,bl,c,vb,aH⟩ ⟨Ts,[],0,F,List.replicate c.R.toNat false⟩ ⟨List.replicate S none,List.replicate n 0,0,.slice none 0 0,List.replicate n none,[],0,0⟩
 have t6:=t1.le (bF.trans (eZ.trans (oM.trans (Ar.trans sG))))
 have wF:=oM.trans (Ar.trans sG)
 have Ph:=eZ.trans wF
 have nl:=Mp (a:=⟨tb,bw,bp,bl,c,vb,aH⟩) (d:=⟨Ts,[],0,F,List.replicate c.R.toNat false⟩) t6 (C4 _)
 have hR:=hc.2.2.2.2.1
 have aiv:=t1.is.xg
 rw[e6] at hk
 refine hk ⟨rfl,rfl,t1.cH,nl.1,?_,rfl,?_,rfl,rfl,rfl,rfl⟩ ?_ (aO.trans (bK.trans (bF.trans (Ph.trans (by rw[e6]; exact Le.refl _))))) ?_
 ·have:=nl.2
  simp only[List.length_replicate] at this
  show (F.length:Int)=c.R
  omega
 ·show List.replicate S none=List.replicate c.S.toNat none
  rw[hS]; rfl
 ·rw[←e6]
  have mH:∀(m:Nat) (f:Option CR→Value),f none=.pointer none→(List.replicate m (none:Option CR)).map f=List.replicate m (.pointer none):=fun m f hf=>by rw[List.map_replicate,hf]
  have hm2:∀(m:Nat) (f:Option (Nat × Int)→Value),f none=.pointer none→(List.replicate m (none:Option (Nat × Int))).map f=List.replicate m (.pointer none):=fun m f hf=>by rw[List.map_replicate,hf]
  refine ⟨t6,⟨⟨by show h5.nx<h6.nx; omega,by show h6.lo≤h5.nx; omega⟩,gw6,by show lb<h6.nx; omega,?_,⟨by show hb<h6.nx; omega,by show h6.lo≤hb; omega⟩,?_,?_,by show pb<h6.nx; omega,?_,⟨by show ib<h6.nx; omega,by show h6.lo≤ib; omega⟩,?_,List.length_replicate ..,⟨by show h4.nx<h6.nx; omega,by show h6.lo≤h4.nx; omega⟩,?_,⟨by show h3.nx<h6.nx; omega,by show h6.lo≤h3.nx; omega⟩,?_,List.length_replicate ..,?_,⟨by show h3.nx+1<h6.nx; omega,by show h6.lo≤h3.nx+1; omega⟩,?_,hn,?_⟩,?_,?_,by omega⟩
  ·simp only[List.length_replicate]
   exact (wF.get _ q2).trans gl
  ·rw[hm2 S _ rfl]; exact (wF.get _ j2).trans gh
  ·intro p hp; rw[List.mem_replicate] at hp; nomatch hp.2
  ·exact (Ph.get _ p2).trans gp
  ·exact (Ph.get _ i2).trans gi
  ·exact (sG.get h4.nx (by omega)).trans ZK
  ·show h6.bl.get h3.nx=_
   rw[mH n _ rfl]; exact ((Ar.trans sG).get h3.nx (by omega)).trans gc4
  ·intro p hp; rw[List.mem_replicate] at hp; nomatch hp.2
  ·exact ((Ar.trans sG).get (h3.nx+1) (by omega)).trans gm4
  ·rw[List.pairwise_replicate]
   exact .inr fun c c' e=>nomatch e
  ·show h3.nx+1≠bw; omega
  ·intro b hb'
   have:=(t1.is.bk b hb').rP
   show h3.nx+1≠b.bm; omega
 ·intro x hx
  rw[←e6] at hx
  obtain ⟨_,_,hb1,_⟩:∃fs ls,bp<h1.nx∧h1.bl.get bp=some (aa [fs,ls] 225 false):=by
   obtain ⟨fs,hg,_⟩:=t1.is.ck.fr.cell
   exact ⟨fs,_,t1.is.ck.fr.lt,hg⟩
  have:=fb1 x ((FB.congr ((bF.trans Ph).get bp hb1)).1 hx)
  omega
structure KL (x:Nat) (h h':Heap):Prop where
 nx:h.nx≤h'.nx
 lo:h'.lo=h.lo
 ty:∀d vs t o,d<h.nx→d≠x→h.bl.get d=some (aa vs t o)→¬sL t o→¬jW t o→h'.bl.get d=h.bl.get d
 ro:∀d,d<h.nx→(∀vs t o,h.bl.get d≠some (aa vs t o))→(∀es c,h.bl.get d≠some (.map es c))→h'.bl.get d=h.bl.get d
theorem WK.kl {a:TA} {h h':Heap} (k:WK a h h') (x:Nat):KL x h h':=⟨k.nx,k.lo,fun d vs t o hd _=>k.ty d vs t o hd,k.ro⟩
theorem KL.le {h h':Heap} (l:Le h h') (x:Nat):KL x h h':=⟨l.nx,l.lo,fun d _ _ _ hd _ _ _ _=>l.get d hd,fun d hd _ _=>l.get d hd⟩
theorem KL.trans {b:Nat} {h h1 h2:Heap} (x:KL b h h1) (y:KL b h1 h2):KL b h h2 where
 nx:=Nat.le_trans x.nx y.nx
 lo:=y.lo.trans x.lo
 ty d vs t o hd hb hg ht hr:=by
  have e:=x.ty d vs t o hd hb hg ht hr
  exact (y.ty d vs t o (Nat.lt_of_lt_of_le hd x.nx) hb (e.trans hg) ht hr).trans e
 ro d hd h1 h2:=by
  have e:=x.ro d hd h1 h2
  exact (y.ro d (Nat.lt_of_lt_of_le hd x.nx) (fun vs t o=>by rw[e]; exact h1 vs t o) (fun es c=>by rw[e]; exact h2 es c)).trans e
def Dr (h:Heap):Prop:=∀d,(∀vs t o,h.bl.get d≠some (aa vs t o))∧∀es c,h.bl.get d≠some (.map es c)
theorem KL.entry {x:Nat} {h0 h h':Heap} (r:Dr h0) (l:Le h0 h) (k:KL x h h'):Le h0 h':=by
 refine ⟨Nat.le_trans l.nx k.nx,k.lo.trans l.lo,fun d hd=>?_⟩
 have e:=l.get d hd
 exact (k.ro d (Nat.lt_of_lt_of_le hd l.nx) (fun vs t o=>by rw[e]; exact (r d).1 vs t o) (fun es c=>by rw[e]; exact (r d).2 es c)).trans e
section
variable {h:Heap} {A:WA} {a:TA} {N:Nat} {d:TD} {R:RD}
end
structure OkC (i k:Nat) (x0:Int) (c:CR):Prop where
 wt:c.wt=false
 th:c.th=(i:Int)
 st:c.st=(k:Int)
 nm:bT c.a.t c.a.r 2=(k:Int)
 may:rG c.a=true
 nh:c.a.k≠3
 x:c.a.x=x0
def TS (R:RD) (i k:Nat) (x0:Int) (G Gn:Int→Int→Int) (dY:List Int) (n:Nat):Prop:=
 (n=0∧R.cs[i]? = some none∧R.bI[k]? = some none∧dY=[]∧Gn=G)∨
 ∃c,R.cs[i]? = some (some c)∧OkC i k x0 c∧((n=3∧c.ph=1∧R.bI[k]? = some none∧dY=[jd G c.a]∧Gn=qk G c.a)∨
  (n=2∧c.ph=2∧(∃p,R.bI[k]? = some (some (p,c.th)))∧dY=[jd G c.a]∧Gn=qk G c.a)∨
  (n=1∧c.ph=3∧(∃p,R.bI[k]? = some (some (p,c.th)))∧dY=[c.out]∧c.out≠0∧Gn=G))
theorem TS.idle {R:RD} {i k:Nat} {x0:Int} {G Gn:Int→Int→Int} {dY:List Int} (t:TS R i k x0 G Gn dY 0):R.cs[i]? = some none∧R.bI[k]? = some none∧dY=[]∧Gn=G:=by
 rcases t with ⟨_,h⟩ | ⟨c,h,_,⟨e,_⟩ | ⟨e,_⟩ | ⟨e,_⟩⟩
 ·exact h
 ·omega
 ·omega
 ·omega
structure Aside (R R':RD) (i k:Nat):Prop where
 bits:R'.bits=R.bits
 begun:R'.begun=R.begun
 cs:∀j,j≠i→R'.cs[j]? = R.cs[j]?
 bI:∀j,j≠k→R'.bI[j]? = R.bI[j]?
theorem Gz (H:Int→Int→Int) (a:xR):jd H a≠0:=by
 unfold jd; split
 ·decide
 ·split<;>decide
def gY (k:Nat) (H G:Int→Int→Int):Prop:=∀t r,bT t r 2=(k:Int)→H t r=G t r
theorem gY.out {k:Nat} {H G:Int→Int→Int} (a:gY k H G) {x:xR} (hx:bT x.t x.r 2=(k:Int)):jd H x=jd G x:=by unfold jd; rw[a _ _ hx]
theorem gY.aS {k:Nat} {H G:Int→Int→Int} (a:gY k H G) (t r m:Int):gY k (gu H t r m) (gu G t r m):=by
 intro t' r' h
 unfold gu
 split
 ·rfl
 ·exact a _ _ h
theorem bC {α:Type} {l:List α} {i:Nat} {x y:α} (h:l[i]? = some y):(l.set i x)[i]? = some x:=by rw[List.getElem?_set,if_pos rfl,if_pos (List.getElem?_eq_some_iff.1 h).1]
theorem jC {α:Type} {l:List α} {i j:Nat} {x:α} (h:j≠i):(l.set i x)[j]? = l[j]?:=by rw[List.getElem?_set,if_neg (fun e=>h e.symm)]
section
variable {h:Heap} {A:WA} {a:TA} {N:Nat} {d:TD} {R:RD} {H X Hk Gn:Int→Int→Int}
theorem Pk (s:WS h A a N d R) (L:Lone d.Ts H X) {i k n:Nat} {x0:Int} {dY:List Int} (t:TS R i k x0 Hk Gn dY (n+1)) (hS:a.c.S=2) (Vw:i<8) (hb:R.bits[i]? = some 0) (hX:∀t r,bT t r 2=(k:Int)→X t r=x0) (hx0:0≤x0) (hA:gY k H Hk) (hN:N≤1000) (hF:n=1→d.F≠[]) (hh:n=1→∀b,d.Ts[k]? = some b→b.M.length<a.aH) (κ:KQ)
  (hk:∀h' d' R' N' H' ZL done code mG,WS h' A a N' d' R'→Lone d'.Ts H' X→TS R' i k x0 ZL Gn mG n→((done=false∧mG=dY∧n≠0)∨(done=true∧dY=[code]∧mG=[]∧n=0))→
   ((N'=N∧d'=d∧H'=H∧ZL=Hk∧n≠1)∨(n=1∧N'=N+1∧j_ d d' k∧∃t r m,bT t r 2=(k:Int)∧H'=gu H t r m∧ZL=gu Hk t r m))→gY k H' ZL→Aside R R' i k→WK a h h'→κ (.tuple ⟨[.bool done,.int .i64 code,.int .i64 0]⟩) h') :
  CallW Tryz.prog 14 [.pointer (some ⟨A.wb,0,none⟩),.int .i64 (i:Int)] h κ:=by
 rcases t with ⟨e,_⟩ | ⟨c,hi,ok,⟨e,kX,hl,hp,hn⟩ | ⟨e,kX,⟨p,hl⟩,hp,hn⟩ | ⟨e,kX,⟨p,hl⟩,hp,hout,hn⟩⟩
 ·omega
 ·obtain rfl:n=2:=by omega
  refine iW s hi kX hb ok.st ⟨by rw[ok.th]; omega,by rw[ok.th]; omega⟩ hl _ ?_
  intro h' s' k'
  refine hk h' d _ N H Hk false 0 dY s' L (.inr ⟨{ c with ph:=2 },bC hi,⟨ok.wt,ok.th,ok.st,ok.nm,ok.may,ok.nh,ok.x⟩,.inr (.inl ⟨rfl,rfl,⟨_,bC hl⟩,hp,hn⟩)⟩) (.inl ⟨rfl,rfl,by decide⟩) (.inl ⟨rfl,rfl,rfl,rfl,by decide⟩) hA ⟨rfl,rfl,fun j hj=>jC hj,fun j hj=>jC hj⟩ k'
 ·obtain rfl:n=1:=by omega
  obtain ⟨b,hbk⟩:∃b,d.Ts[k]? = some b:=by
   have h1:=wL (t:=c.a.t) (r:=c.a.r) (s:=2) (by rw[ok.nm]; omega)
   have h2:=s.t.is.cS
   rw[hS] at h2
   rw[ok.nm] at h1
   exact ⟨_,List.getElem?_eq_getElem (by omega)⟩
  refine w5 s L hN hi kX hb ok.wt hbk (by rw[hS]; exact ok.nm) ok.st hl (by rw[ok.x,hX _ _ ok.nm]) (by rw[ok.x]; exact hx0) ok.may ok.nh (fun _ _=>hF rfl) (fun _ _=>hh rfl b hbk) _ ?_
  intro h' d' s' L' g' k'
  have hHk:=hA _ _ ok.nm
  have fin:∀H',H'=qk H c.a→gY k H' Gn→(∃t r m,bT t r 2=(k:Int)∧H'=gu H t r m∧Gn=gu Hk t r m)→κ (.tuple ⟨[.bool false,.int .i64 0,.int .i64 0]⟩) h':=fun H' e1 e2 e3=>by
   subst e1
   exact hk h' d' _ (N+1) _ Gn false 0 dY s' L' (.inr ⟨{ c with ph:=3,out:=jd H c.a },bC hi,⟨ok.wt,ok.th,ok.st,ok.nm,ok.may,ok.nh,ok.x⟩,.inr (.inr ⟨rfl,rfl,⟨p,hl⟩,by rw[hp,hA.out ok.nm],Gz _ _,rfl⟩)⟩) (.inl ⟨rfl,rfl,by decide⟩) (.inr ⟨rfl,rfl,g',e3⟩) e2 ⟨rfl,rfl,fun j hj=>jC hj,fun j hj=>rfl⟩ k'
  unfold qk at hn fin
  by_cases h1:c.a.k=1
  ·rw[if_pos h1] at hn fin
   subst hn
   rw[←hHk] at fin
   exact fin _ rfl (hA.aS _ _ _) ⟨_,_,_,ok.nm,rfl,rfl⟩
  ·rw[if_neg h1] at hn fin
   subst hn
   exact fin _ rfl (hA.aS _ _ _) ⟨_,_,_,ok.nm,rfl,rfl⟩
 ·obtain rfl:n=0:=by omega
  refine mD s hi kX hb ok.st ok.th hout hl _ ?_
  intro h' s' k'
  exact hk h' d _ N H Hk true c.out [] s' L (.inl ⟨rfl,bC hi,bC hl,rfl,hn⟩) (.inr ⟨rfl,hp,rfl,rfl⟩) (.inl ⟨rfl,rfl,rfl,rfl,by decide⟩) hA ⟨rfl,rfl,fun j hj=>jC hj,fun j hj=>jC hj⟩ k'
theorem Mq (s:WS h A a N d R) {i k:Nat} {x0:Int} (t:TS R i k x0 Hk Hk [] 0) (hS:a.c.S=2) (x:xR) (Rn:x.x=x0) (h3:x.k≠3) (hst:bT x.t x.r 2=(k:Int)) (hbg:0≤R.begun∧R.begun≤1000000) (κ:KQ)
  (LJ:rG x=false→∀h',Le h h'→κ (.int .i64 2) h')
  (hk:rG x=true→∀h' R',WS h' A a N d R'→TS R' i k x0 Hk (qk Hk x) [jd Hk x] 3→R'.bits=R.bits→R'.begun=R.begun+1→(∀j,j≠i→R'.cs[j]? = R.cs[j]?)→R'.bI=R.bI→WK a h h'→κ (.int .i64 0) h') :
  CallW Tryz.prog 16 [.pointer (some ⟨A.wb,0,none⟩),.int .i64 (i:Int),.agg ⟨EJ x⟩] h κ:=by
 obtain ⟨hi,hl,_,_⟩:=t.idle
 refine Aj s hi x hbg κ LJ ?_
 intro hm h' ca s' k'
 refine hk hm h' _ s' (.inr ⟨_,bC hi,⟨rfl,rfl,by rw[hS]; exact hst,hst,hm,h3,Rn⟩,.inl ⟨rfl,rfl,hl,rfl,rfl⟩⟩) rfl rfl (fun j hj=>jC hj) rfl k'
end
theorem gY.refl (k:Nat) (H:Int→Int→Int):gY k H H:=fun _ _ _=>rfl
theorem Aside.refl (R:RD) (i k:Nat):Aside R R i k:=⟨rfl,rfl,fun _ _=>rfl,fun _ _=>rfl⟩
theorem Aside.trans {R R1 R2:RD} {i k:Nat} (x:Aside R R1 i k) (y:Aside R1 R2 i k):Aside R R2 i k:=
 ⟨y.bits.trans x.bits,y.begun.trans x.begun,fun j hj=>(y.cs j hj).trans (x.cs j hj),fun j hj=>(y.bI j hj).trans (x.bI j hj)⟩
section
variable {h:Heap} {A:WA} {a:TA} {N:Nat} {d:TD} {R:RD} {H X Hk Gn:Int→Int→Int}
theorem WS.Mr (s:WS h A a N d R):WK a h h:=s.Ai (Le.refl h)
theorem UE (s:WS h A a N d R) (L:Lone d.Ts H X) {i k:Nat} {x0 code:Int} (t:TS R i k x0 Hk Gn [code] 3) (hS:a.c.S=2) (Vw:i<8) (hb:R.bits[i]? = some 0) (hX:∀t r,bT t r 2=(k:Int)→X t r=x0) (hx0:0≤x0) (hA:gY k H Hk) (hN:N≤999) (hF:d.F≠[]) (hh:∀b,d.Ts[k]? = some b→b.M.length<a.aH) (κ:KQ)
  (hk:∀h' d' R' H',WS h' A a (N+1) d' R'→Lone d'.Ts H' X→TS R' i k x0 Gn Gn [] 0→gY k H' Gn→j_ d d' k→Aside R R' i k→WK a h h'→κ (.tuple ⟨[.bool true,.int .i64 code,.int .i64 0]⟩) h') :
  CallW Tryz.prog 17 [.pointer (some ⟨A.wb,0,none⟩),.int .i64 (i:Int),.int .i64 3] h κ:=by
 refine aj mixed ?_
 rw[Qo]
 refine ⟨fun m l h1=>∃(j n:Nat) (d1:TD) (R1:RD) (N1:Nat) (H1 Hk1:Int→Int→Int) (dY:List Int),slot l 15=.int .i64 (j:Int)∧m=n∧j+n=3∧WS h1 A a N1 d1 R1∧Lone d1.Ts H1 X∧TS R1 i k x0 Hk1 Gn dY n∧gY k H1 Hk1∧Aside R R1 i k∧WK a h h1∧
   (n=0→slot l 10=.bool true∧slot l 11=.int .i64 code∧slot l 12=.int .i64 0)∧(n≠0→dY=[code])∧(n≤1→N1=N+1∧j_ d d1 k)∧(1<n→N1=N∧d1=d),
  ⟨_,0,3,d,R,N,H,Hk,[code],rfl,rfl,rfl,s,L,t,hA,Aside.refl _ _ _,s.Mr,by omega,fun _=>rfl,by omega,fun _=>⟨rfl,rfl⟩⟩,?_⟩
 rintro m l h1 ⟨j,n,d1,R1,N1,H1,Hk1,dY,e1,rfl,hjn,s1,L1,t1,A1,as1,k1,f0,f1,f2,f3⟩
 cases m with
 | zero=>
  obtain ⟨g1,g2,g3⟩:=f0 rfl
  obtain ⟨h2,g4⟩:=f2 (by omega)
  subst h2
  obtain ⟨_,_,rfl,e2⟩:=t1.idle
  subst e2
  obtain rfl:j=3:=by omega
  simp(disch:=first|omega|simp only[Wd]<;>omega|with_unfolding_all rfl)only[Wz,qU,e1,cg (show (3:Int)≤((3:Nat):Int) by omega),g1,g2,g3]
  exact hk h1 d1 R1 H1 s1 L1 t1 A1 g4 as1 k1
 | succ m=>
  have ep:=f1 (by omega)
  subst ep
  simp(disch:=first|omega|simp only[Wd]<;>omega|with_unfolding_all rfl)only[Wz,qU,e1,fH (show (j:Int)<3 by omega)]
  refine Pk s1 L1 t1 hS Vw (by rw[as1.bits]; exact hb) hX hx0 A1 ?_ ?_ ?_ _ ?_
  ·by_cases hm:1<m+1
   ·have:=(f3 hm).1; omega
   ·have:=(f2 (by omega)).1; omega
  ·intro e; subst e; rw[(f3 (by omega)).2]; exact hF
  ·intro e; subst e; rw[(f3 (by omega)).2]; exact hh
  ·intro h2 d2 R2 N2 H2 Hk2 done ae7 Y2 s2 L2 t2 hd hg A2 as2 k2
   simp(disch:=first|omega|simp only[Wd]<;>omega|with_unfolding_all rfl)only[Wz,e1]
   refine ⟨_,by omega,j+1,m,d2,R2,N2,H2,Hk2,Y2,rfl,rfl,by omega,s2,L2,t2,A2,as1.trans as2,k1.trans k2,?_,?_,?_,?_⟩
   ·intro e; subst e
    rcases hd with ⟨_,_,e⟩ | ⟨e1,e2,e3,_⟩
    ·exact absurd rfl e
    ·cases e2
     subst e1
     refine ⟨?_,?_,?_⟩<;>first | rfl | trivial
   ·intro e
    rcases hd with ⟨_,e2,_⟩ | ⟨_,_,_,e2⟩
    ·exact e2
    ·exact absurd e2 e
   ·intro e
    rcases hg with ⟨e1,e2,_,_,e5⟩ | ⟨e1,e2,e3,_⟩
    ·obtain rfl:m=0:=by omega
     obtain ⟨g1,g2⟩:=f2 (by omega)
     rw[e1,e2]; exact ⟨g1,g2⟩
    ·obtain ⟨g1,g2⟩:=f3 (by omega)
     subst g2
     exact ⟨by omega,e3⟩
   ·intro e
    rcases hg with ⟨e1,e2,_⟩ | ⟨e1,_⟩
    ·obtain ⟨g1,g2⟩:=f3 (by omega)
     rw[e1,e2]; exact ⟨g1,g2⟩
    ·omega
end
def sR:dg:=⟨2,8,24,2⟩
theorem Pm:iE sR:=by unfold iE sR; decide
theorem Ip (h:Heap) (κ:KQ) (hlo:h.lo≤h.nx) (hk:∀h',Le h h'→κ (C5 sR) h'):CallW Tryz.prog 9 [] h κ:=by
 refine aj mixed ?_
 rw[aaT]
 simp(disch:=first|omega|simp only[Wd]<;>omega|with_unfolding_all rfl)only[Wz]
 exact hk _ ((Le.refl h).new _)
theorem GC (n:Nat) (hn:1≤n∧n≤8) (h:Heap) (κ:KQ) (hlo:h.lo≤h.nx)
  (hk:∀h' A a d R,Dq A a d R sR n→WS h' A a 0 d R→Le h h'→(∀x,FB h' a.bp x→h.nx≤x)→κ (.pointer (some ⟨A.wb,0,none⟩)) h') :
  CallW Tryz.prog 10 [.int .i64 (n:Int)] h κ:=by
 refine aj mixed ?_
 rw[Wj]
 refine Ip h _ hlo ?_
 intro h1 bK
 have n1:=bK.nx
 have l1:=bK.lo
 refine UD sR Pm n hn h1 (by omega) _ ?_
 intro h2 A a d R nw s bF fb
 simp(disch:=first|omega|simp only[Wd]<;>omega|with_unfolding_all rfl)only[Wz]
 exact hk h2 A a d R nw s (bK.trans bF) fun x hx=>Nat.le_trans n1 (fb x hx)
theorem Dq.lone {A:WA} {a:TA} {d:TD} {R:RD} {c:dg} {n:Nat} (nw:Dq A a d R c n) (X:Int→Int→Int):Lone d.Ts (fun _ _=>0) X:=
 ⟨fun b hb e he=>(by rw[nw.em b hb] at he; cases he),fun t r hH=>absurd rfl hH⟩
theorem Dq.ts {A:WA} {a:TA} {d:TD} {R:RD} {n i k:Nat} (nw:Dq A a d R sR n) (hi:i<n) (hk:k<2) (x0:Int):TS R i k x0 (fun _ _=>0) (fun _ _=>0) [] 0:=by
 refine .inl ⟨rfl,?_,?_,rfl,rfl⟩
 ·rw[nw.cs,List.getElem?_replicate,if_pos hi]
 ·rw[nw.bI,List.getElem?_replicate,if_pos (show k<(sR.S).toNat from hk)]
theorem Dq.bit {A:WA} {a:TA} {d:TD} {R:RD} {c:dg} {n i:Nat} (nw:Dq A a d R c n) (hi:i<n):R.bits[i]? = some 0:=by
 rw[nw.bits,List.getElem?_replicate,if_pos hi]
theorem GD {t r:Int} (h:bY t r≠-1):∃k:Nat,k<2∧bT t r 2=(k:Int):=by
 unfold bT
 rw[if_neg (by rintro (h1 | h1 | h1)<;>first | omega | exact h h1)]
 have h1:=Int.tmod_nonneg (a:=sI (iq t r)) 2 (qh _).1
 have h2:=Int.tmod_lt_of_pos (sI (iq t r)) (show (0:Int)<2 by decide)
 exact ⟨((sI (iq t r)).tmod 2).toNat,by omega,by omega⟩
theorem Ms (t:Int) (h:Heap) (κ:KQ) (hlo:h.lo≤h.nx) (hk:∀h',Le h h'→κ (ew t (-1)) h'):CallW Tryz.prog 27 [.int .i64 t] h κ:=by
 refine aj mixed ?_
 rw[Wo]
 simp(disch:=first|omega|simp only[Wd]<;>omega|with_unfolding_all rfl)only[Wz]
 exact hk _ ((Le.refl h).new _)
theorem Ak (x t r m:Int) (h:Heap) (κ:KQ) (hlo:h.lo≤h.nx) (hk:∀h',Le h h'→κ (.agg ⟨EJ ⟨1,x,t,r,m,0,0⟩⟩) h'):CallW Tryz.prog 28 [.int .i64 x,ew t r,.int .i64 m] h κ:=by
 refine aj mixed ?_
 rw[Wp]
 simp(disch:=first|omega|simp only[Wd]<;>omega|with_unfolding_all rfl)only[Wz,ew]
 exact hk _ (((Le.refl h).new _).new _)
theorem Pn (h:Heap) (κ:KQ) (hlo:h.lo≤h.nx) (ro:Dr h) (hk:∀h',Le h h'→κ (.bool true) h'):CallW Tryz.prog 7 [] h κ:=by
 refine aj mixed ?_
 rw[aaS]
 refine GC 2 ⟨by decide,by decide⟩ h _ hlo ?_
 intro h1 A a d R nw s bK _
 have n1:=bK.nx
 have l1:=bK.lo
 have hlv:bY 0 (-1)≠-1:=by decide
 obtain ⟨k,hk2,hst⟩:=GD hlv
 simp(disch:=first|omega|simp only[Wd]<;>omega|with_unfolding_all rfl)only[Wz,er]
 refine Ms 0 h1 _ (by omega) ?_
 intro h2 bF
 have n2:=bF.nx
 have l2:=bF.lo
 refine Ak 1 0 (-1) 6 h2 _ (by omega) ?_
 intro h3 eZ
 have n3:=eZ.nx
 have l3:=eZ.lo
 have s3:=s.le (bF.trans eZ)
 have hS:a.c.S=2:=by rw[nw.ec]; rfl
 refine Mq (Hk:=fun _ _=>0) s3 (nw.ts (i:=0) (by decide) hk2 1) hS ⟨1,1,0,-1,6,0,0⟩ rfl (by decide) hst (by rw[nw.begun]; decide) _ ?_ ?_
 ·intro hm; exact absurd hm (by decide)
 ·intro _ h4 R4 s4 t4 hb4 _ _ _ k4
  simp(disch:=first|omega|simp only[Wd]<;>omega|with_unfolding_all rfl)only[Wz,J3]
  have UG:R4.bits[0]? = some 0:=by rw[hb4]; exact nw.bit (by decide)
  refine UE s4 (nw.lone (fun _ _=>1)) t4 hS (by decide) UG (fun _ _ _=>rfl) (by decide) (gY.refl _ _) (by decide) ?_ ?_ _ ?_
  ·intro e
   have:=nw.f
   rw[e] at this
   exact absurd this (by decide)
  ·intro b hb
   rw[nw.em b (List.mem_of_getElem? hb)]
   have:=nw.hd
   show 0<a.aH
   have h8:sR.H=8:=rfl
   omega
  ·intro h5 d5 R5 H5 s5 L5 t5 A5 g5 as5 k5
   simp(disch:=first|omega|simp only[Wd]<;>omega|with_unfolding_all rfl)only[Wz,jd]
   exact hk h5 (KL.entry ro bK (((KL.le (bF.trans eZ) 0).trans (k4.kl 0)).trans (k5.kl 0)))
section
variable {h:Heap} {pb ib:Nat} {bits:List Int}
theorem Iq (gp:h.bl.get pb=some (aa [.slice (some ⟨ib,0,none⟩) bits.length bits.length] 193 false)) (gi:h.bl.get ib=some (aa (je bits) 3 false)) (hib:ib<h.nx∧h.lo≤ib) {i:Nat} (hi:bits[i]? = some 0) (κ:KQ)
  (hk:κ (.tuple ⟨[.bool false,.int .i64 0]⟩) ⟨h.nx,h.bl.aS ib (aa (je (bits.set i 2)) 3 false),h.lo⟩) :
  CallW Tryz.prog 98 [.pointer (some ⟨pb,0,none⟩),.int .i64 (i:Int)] h κ:=by
 have hil:=(List.getElem?_eq_some_iff.1 hi).1
 have r:=Ag hi
 have Vr:(je bits).length=bits.length:=List.length_map _
 have ov:=wT (bits:=bits) (n:=2) hil
 have z1:ql 0 1=0:=by decide
 have z3:orI 0 2=2:=by decide
 refine aj mixed ?_
 rw[Qu]
 refine rJ gp hil _ ?_
 simp(disch:=first|omega|simp only[Wd]<;>omega|with_unfolding_all rfl)only[Wz,zN]
 refine Dg gp gi hi 1 _ ?_
 simp(disch:=first|omega|simp only[Wd]<;>omega|with_unfolding_all rfl)only[Wz,bf z1,zM,ax,gp,aN,gi,r,Nat.mul_one,Df,z3,ov]
 exact hk
end
section
variable {h:Heap} {A:WA} {a:TA} {N:Nat} {d:TD} {R:RD}
def qp (o:Option CR):Bool:=match o with | none=>false | some c=>c.wt && decide (c.out=0)
theorem rM (s:WS h A a N d R) {i:Nat} {o:Option CR} (hi:R.cs[i]? = some o) (κ:KQ) (hk:κ (.bool (qp o)) h) :
  CallW Tryz.prog 32 [.pointer (some ⟨A.wb,0,none⟩),.int .i64 (i:Int)] h κ:=by
 refine aj mixed ?_
 rw[Wr]
 refine Me s hi _ ?_
 cases o with
 | none=>
  simp(disch:=first|omega|simp only[Wd]<;>omega|with_unfolding_all rfl)only[Wz,Ah,Option.map_none,Option.isSome_none]
  exact hk
 | some c=>
  have Y3:=(s.r.ca c (List.mem_of_getElem? hi)).2.2
  unfold bh at Y3
  simp(disch:=first|omega|simp only[Wd]<;>omega|with_unfolding_all rfl)only[Wz,Ah,Option.map_some,Option.isSome_some]
  have hk:κ (.bool (c.wt && decide (c.out=0))) h:=hk
  cases hw:c.wt with
  | false=>
   rw[hw] at hk Y3
   simp(disch:=first|omega|simp only[Wd]<;>omega|with_unfolding_all rfl)only[Wz,cz,ax,Y3]
   exact hk
  | true=>
   rw[hw,Bool.true_and] at hk
   rw[hw] at Y3
   simp(disch:=first|omega|simp only[Wd]<;>omega|with_unfolding_all rfl)only[Wz,cz,ax,Y3]
   exact hk
theorem GF (s:WS h A a N d R) {i:Nat} {c:CR} (hi:R.cs[i]? = some (some c)) {nb:Int} (hb:R.bits[i]? = some nb) (hnb:nb=0∨nb=1) (yP:Int) (κ:KQ)
  (hk:∀h',WS h' A a N d { R with cs:=R.cs.set i (some { c with cs:=if c.cs=0 then yP else c.cs }),bits:=R.bits.set i (if nb=1 then 0 else 2) }→WK a h h'→κ (.tuple ⟨[]⟩) h') :
  CallW Tryz.prog 60 [.pointer (some ⟨A.wb,0,none⟩),.int .i64 (i:Int),.int .i64 yP] h κ:=by
 have gw:=s.r.gw
 have DD:=s.r.gc
 have hil:=lQ s hi
 have r:(R.cs.map fun o=>cz (o.map (·.ca)))[i]? = some (.pointer (some ⟨c.ca,0,none⟩)):=eu s hi
 have hlc:(R.cs.map fun o=>cz (o.map (·.ca))).length=A.n:=by rw[List.length_map]; exact s.r.lc
 obtain ⟨gc,c1,c2⟩:=aY s hi
 have gc':=gc
 unfold bh at gc'
 refine aj mixed ?_
 rw[WI]
 refine ⟨fun l h'=>WS h' A a N d { R with cs:=R.cs.set i (some { c with cs:=if c.cs=0 then yP else c.cs }) }∧WK a h h',?_,?_⟩
 ·have s1:=WS.dX s hi (c':={ c with cs:=if c.cs=0 then yP else c.cs }) rfl
  have k1:=WS.j9 s gc (by simp[jW]) (by decide) (bh A.wb { c with cs:=if c.cs=0 then yP else c.cs })
  unfold bh at s1 k1
  by_cases h0:c.cs=0
  ·rw[if_pos h0] at s1 k1 ⊢
   simp(disch:=first|omega|simp only[Wd]<;>omega|with_unfolding_all rfl)only[Wz,zH,ax,gw,aN,DD,r,Nat.mul_one,gc',bf h0]
   exact ⟨s1,k1⟩
  ·rw[if_neg h0]
   simp(disch:=first|omega|simp only[Wd]<;>omega|with_unfolding_all rfl)only[Wz,zH,ax,gw,aN,DD,r,Nat.mul_one,gc',a_ h0]
   have hcs:R.cs.set i (some { c with cs:=c.cs })=R.cs:=by
    refine List.ext_getElem? fun j=>?_
    rw[List.getElem?_set]
    split
    ·rename_i e; subst e
     rw[hi,if_pos (List.getElem?_eq_some_iff.1 hi).1]
    ·rfl
   rw[hcs]
   exact ⟨s,s.Mr⟩
 ·rintro l h1 ⟨s1,k1⟩
  have QM:=s1.r.gw
  have Q8:=s1.r.li
  simp(disch:=first|omega|simp only[Wd]<;>omega|with_unfolding_all rfl)only[Wz,ax,QM]
  have fin:∀m,WS ⟨h1.nx,h1.bl.aS A.ib (aa (je (R.bits.set i m)) 3 false),h1.lo⟩ A a N d { R with cs:=R.cs.set i (some { c with cs:=if c.cs=0 then yP else c.cs }),bits:=R.bits.set i m }∧WK a h ⟨h1.nx,h1.bl.aS A.ib (aa (je (R.bits.set i m)) 3 false),h1.lo⟩:=fun m=>
   ⟨s1.uB (R.bits.set i m) (List.length_set ..),k1.trans (WS.j9 s1 s1.r.gi (by simp[jW]) (by decide) _)⟩
  rcases hnb with rfl | rfl
  ·refine Iq (by rw[Q8]; exact s1.r.gp) s1.r.gi s1.r.LZ hb _ ?_
   obtain ⟨f1,f2⟩:=fin 2
   simp(disch:=first|omega|simp only[Wd]<;>omega|with_unfolding_all rfl)only[Wz]
   exact hk _ f1 f2
  ·refine Mc (by rw[Q8]; exact s1.r.gp) s1.r.gi s1.r.LZ hb _ ?_
   obtain ⟨f1,f2⟩:=fin 0
   simp(disch:=first|omega|simp only[Wd]<;>omega|with_unfolding_all rfl)only[Wz]
   exact hk _ f1 f2
end
section
variable {h:Heap} {A:WA} {a:TA} {N:Nat} {d:TD} {R:RD}
theorem Po (s:WS h A a N d R) {i k p:Nat} {c:CR} (hi:R.cs[i]? = some (some c)) (hst:c.st=(k:Int)) (oG:c.th=(i:Int)) (hout:c.out=0) (hl:R.bI[k]? = some (some (p,c.th))) (κ:KQ)
  (hk:∀h',WS h' A a N d { R with bI:=R.bI.set k none,cs:=R.cs.set i (some { c with ph:=5 }) }→WK a h h'→κ (.tuple ⟨[]⟩) h') :
  CallW Tryz.prog 117 [.pointer (some ⟨c.ca,0,none⟩)] h κ:=by
 obtain ⟨gc,c1,c2⟩:=aY s hi
 have gw:=s.r.gw
 have hlo:=s.lo
 have gc':=gc
 have hil:=lQ s hi
 have Y8:=s.r.nn
 unfold bh at gc'
 have gp:=(s.r.ho (p,c.th) (List.mem_of_getElem? hl)).2
 refine aj mixed ?_
 rw[Kc]
 simp(disch:=first|omega|simp only[Wd]<;>omega|with_unfolding_all rfl)only[Wz,ax,gc',gw,hst]
 refine Gv s.r.gl s.r.gh s.r.LY hl gp (by omega) _ ?_
 have s2:=s.wV (R.bI.set k none) (List.length_set ..) (fun q hq=>by
  rcases List.mem_or_eq_of_mem_set hq with hq | hq
  ·exact s.r.ho q hq
  ·cases hq)
 have k2:=EP (h':=⟨h.nx,h.bl.aS A.hb (aa (lN (R.bI.set k none)) 176 false),h.lo⟩) s (fun b hb hn=>T.ah _ _ (fun e=>hn e.symm)) (Nat.le_refl _) rfl
 obtain ⟨h2,e2⟩:∃h2:Heap,h2=⟨h.nx,h.bl.aS A.hb (aa (lN (R.bI.set k none)) 176 false),h.lo⟩:=⟨_,rfl⟩
 have s2:WS h2 A a N d { R with bI:=R.bI.set k none }:=by rw[e2]; exact s2
 have k2:WK a h h2:=by rw[e2]; exact k2
 rw[←e2]
 clear e2
 obtain ⟨jt,ZI,UA⟩:=aY (R:={ R with bI:=R.bI.set k none }) s2 hi
 have lR:=jt
 unfold bh at lR
 refine aj mixed ?_
 rw[Kh]
 simp(disch:=first|omega|simp only[Wd]<;>omega|with_unfolding_all rfl)only[Wz,ax,lR,vK,bf hout]
 refine qm c jt UA 5 _ rfl _ ?_
 exact hk _ (WS.dX (R:={ R with bI:=R.bI.set k none }) s2 hi rfl) (k2.trans (WS.j9 s2 jt (by simp[jW]) (by decide) _))
theorem Ds (s:WS h A a N d R) {i k p:Nat} {c:CR} (hi:R.cs[i]? = some (some c)) (kX:c.ph=3) (hb:R.bits[i]? = some 0) (hst:c.st=(k:Int)) (oG:c.th=(i:Int)) (hout:c.out=0) (hl:R.bI[k]? = some (some (p,c.th))) (κ:KQ)
  (hk:∀h',WS h' A a N d { R with bI:=R.bI.set k none,cs:=R.cs.set i (some { c with ph:=5 }) }→WK a h h'→κ (.tuple ⟨[.bool false,.int .i64 0,.int .i64 0]⟩) h') :
  CallW Tryz.prog 14 [.pointer (some ⟨A.wb,0,none⟩),.int .i64 (i:Int)] h κ:=by
 have gw:=s.r.gw
 have DD:=s.r.gc
 have hil:=lQ s hi
 have r:(R.cs.map fun o=>cz (o.map (·.ca)))[i]? = some (.pointer (some ⟨c.ca,0,none⟩)):=eu s hi
 obtain ⟨gc,c1,c2⟩:=aY s hi
 have hlc:(R.cs.map fun o=>cz (o.map (·.ca))).length=A.n:=by rw[List.length_map]; exact s.r.lc
 have gc':=gc
 unfold bh pe at gc'
 rw[kX] at gc'
 refine aj mixed ?_
 rw[vC]
 simp(disch:=first|omega|simp only[Wd]<;>omega|with_unfolding_all rfl)only[Wz,er,kE]
 refine gX s hil _ ?_
 simp(disch:=first|omega|simp only[Wd]<;>omega|with_unfolding_all rfl)only[Wz]
 refine kO s hi hb hst hl _ ?_
 rw[kX]
 simp(disch:=first|omega|simp only[Wd]<;>omega|with_unfolding_all rfl)only[Wz,Option.isSome_none,Option.isSome_some,Bool.false_or,Bool.true_or,kz,ax,gw,aN,DD,r,gc',Nat.mul_one,jq]
 refine Po s hi hst oG hout hl _ ?_
 intro h' s' k'
 have hi':(R.cs.set i (some { c with ph:=5 }))[i]? = some (some { c with ph:=5 }):=by rw[List.getElem?_set,if_pos rfl,if_pos (by have:=s.r.lc; omega)]
 obtain ⟨jt,_,_⟩:=aY s' hi'
 unfold bh at jt
 simp(disch:=first|omega|simp only[Wd]<;>omega|with_unfolding_all rfl)only[Wz,ax,jt]
 exact hk h' s' k'
theorem Pp (s:WS h A a N d R) {i:Nat} {c:CR} (hi:R.cs[i]? = some (some c)) (hb:R.bits[i]? = some 0) (oG:c.th=(i:Int)) (κ:KQ)
  (hk:∀h',WS h' A a N d { R with bits:=R.bits.set i 1,cs:=R.cs.set i (some { c with ph:=1 }) }→WK a h h'→κ (.tuple ⟨[]⟩) h') :
  CallW Tryz.prog 218 [.pointer (some ⟨c.ca,0,none⟩)] h κ:=by
 obtain ⟨gc,c1,c2⟩:=aY s hi
 have gw:=s.r.gw
 have gc':=gc
 have Q8:=s.r.li
 unfold bh at gc'
 refine aj mixed ?_
 rw[SS]
 simp(disch:=first|omega|simp only[Wd]<;>omega|with_unfolding_all rfl)only[Wz,ax,gc',gw,oG]
 refine Uw (by rw[Q8]; exact s.r.gp) s.r.gi s.r.LZ hb _ ?_
 have s2:=s.uB (R.bits.set i 1) (List.length_set ..)
 have k2:=WS.j9 s s.r.gi (by simp[jW]) (by decide) (aa (je (R.bits.set i 1)) 3 false)
 obtain ⟨jt,ZI,UA⟩:=aY (R:={ R with bits:=R.bits.set i 1 }) s2 hi
 refine qm c jt UA 1 _ rfl _ ?_
 exact hk _ (WS.dX (R:={ R with bits:=R.bits.set i 1 }) s2 hi rfl) (k2.trans (WS.j9 s2 jt (by simp[jW]) (by decide) _))
theorem EX (s:WS h A a N d R) {i k:Nat} {c:CR} (hi:R.cs[i]? = some (some c)) (kX:c.ph=5) (hb:R.bits[i]? = some 0) (hst:c.st=(k:Int)) (oG:c.th=(i:Int)) (hout:c.out=0) {o:Option (Nat × Int)} (hl:R.bI[k]? = some o) (κ:KQ)
  (hk:∀h',WS h' A a N d { R with bits:=R.bits.set i 1,cs:=R.cs.set i (some { c with ph:=1 }) }→WK a h h'→κ (.tuple ⟨[.bool false,.int .i64 0,.int .i64 0]⟩) h') :
  CallW Tryz.prog 14 [.pointer (some ⟨A.wb,0,none⟩),.int .i64 (i:Int)] h κ:=by
 have gw:=s.r.gw
 have DD:=s.r.gc
 have hil:=lQ s hi
 have r:(R.cs.map fun o=>cz (o.map (·.ca)))[i]? = some (.pointer (some ⟨c.ca,0,none⟩)):=eu s hi
 obtain ⟨gc,c1,c2⟩:=aY s hi
 have hlc:(R.cs.map fun o=>cz (o.map (·.ca))).length=A.n:=by rw[List.length_map]; exact s.r.lc
 have gc':=gc
 unfold bh pe at gc'
 rw[kX] at gc'
 have h2:decide (((5:Nat):Int)=1)=false:=by decide
 refine aj mixed ?_
 rw[vC]
 simp(disch:=first|omega|simp only[Wd]<;>omega|with_unfolding_all rfl)only[Wz,er,kE]
 refine gX s hil _ ?_
 simp(disch:=first|omega|simp only[Wd]<;>omega|with_unfolding_all rfl)only[Wz]
 refine kO s hi hb hst hl _ ?_
 rw[kX,h2]
 simp(disch:=first|omega|simp only[Wd]<;>omega|with_unfolding_all rfl)only[Wz,Bool.not_false,Bool.true_or,kz,ax,gw,aN,DD,r,gc',Nat.mul_one,jq]
 refine Pp s hi hb oG _ ?_
 intro h' s' k'
 have hi':(R.cs.set i (some { c with ph:=1 }))[i]? = some (some { c with ph:=1 }):=by rw[List.getElem?_set,if_pos rfl,if_pos (by have:=s.r.lc; omega)]
 obtain ⟨jt,_,_⟩:=aY s' hi'
 unfold bh at jt
 simp(disch:=first|omega|simp only[Wd]<;>omega|with_unfolding_all rfl)only[Wz,ax,jt]
 exact hk h' s' k'
theorem Mt (s:WS h A a N d R) {i:Nat} {c:CR} (hi:R.cs[i]? = some (some c)) (hb:R.bits[i]? = some 1) (κ:KQ) (hk:κ (.bool false) h) :
  CallW Tryz.prog 31 [.pointer (some ⟨A.wb,0,none⟩),.int .i64 (i:Int)] h κ:=by
 have gw:=s.r.gw
 have z1:¬ql 1 1=0:=by decide
 have Q8:=s.r.li
 refine aj mixed ?_
 rw[Qq]
 refine Me s hi _ ?_
 simp(disch:=first|omega|simp only[Wd]<;>omega|with_unfolding_all rfl)only[Wz,Gx,Option.map_some,Option.isNone_some]
 simp(disch:=first|omega|simp only[Wd]<;>omega|with_unfolding_all rfl)only[Wz,ax,gw]
 refine Dh (by rw[Q8]; exact s.r.gp) s.r.gi hb _ ?_
 simp(disch:=first|omega|simp only[Wd]<;>omega|with_unfolding_all rfl)only[Wz,a_ z1]
 exact hk
end
section
variable {h:Heap} {A:WA} {a:TA} {N:Nat} {d:TD} {R:RD}
theorem Mu (s:WS h A a N d R) (t r:Int) {Pq:List R5→Prop} (P0:Pq []) (hP:∀b∈d.Ts,∀e∈b.M,e.t=t→e.r=r→Pq e.Q) (κ:KQ)
  (hk:∀v Q h',Pq Q→Sl aZ h' v Q→Le h h'→κ v h') :
  CallW Tryz.prog 209 [.pointer (some ⟨A.wb,0,none⟩),ew t r] h κ:=by
 have gw0:=s.r.gw
 have hlo:=s.lo
 refine aj mixed ?_
 rw[Kl]
 have xg:=s.r.xg
 simp(disch:=first|omega|simp only[Wd]<;>omega|with_unfolding_all rfl)only[Wz,ew,ax,gw0]
 obtain ⟨hA,aK⟩:∃hA:Heap,hA=⟨h.nx+1,(h.bl.aS (h.nx) (aa [.int .i64 t,.int .i64 r] 36 false)),h.lo⟩:=⟨_,rfl⟩
 have aO:Le h hA:=by subst aK; exact ((Le.refl h).new _)
 have g1:hA.bl.get (h.nx)=some (aa [.int .i64 t,.int .i64 r] 36 false):=by subst aK; exact T.af _ _ _
 have gH:hA.nx=h.nx+1:=by subst aK; rfl
 have gI:hA.lo=h.lo:=by subst aK; rfl
 rw[←aK]
 clear aK
 have sA:=s.le aO
 refine Ac sA.t (by omega) _ ?_
 intro v0 h0 K t0 EI
 have n0:=EI.nx
 have l0:=EI.lo
 obtain ⟨x0,c0,Yx,_⟩:=(show Sl nY h0 v0 K from t0.sl)
 have C6:∀(β:Type) (fl:β) (h':Heap) (κ:Value→Heap→β),bz fl v0 h' κ=κ (.int .i64 (K.length:Int)) h':=fun β fl h' κ=>by rw[Yx]; exact eY _ _ _ _ _
 have On:K.length≤1024:=by
  have h1:=t0.perm.length_eq
  rw[List.length_map] at h1
  rw[h1]
  have h2:=s.t.is.s1.2
  have h3:=s.t.is.hd
  have:∀L:List TB,(∀b∈L,b.M.length≤64)→(L.flatMap fun b=>b.M.map di).length≤64*L.length:=by
   intro L
   induction L with
   | nil=>intro _; simp
   | cons b L ih=>
    intro hL
    rw[List.flatMap_cons,List.length_append,List.length_map,List.length_cons]
    have h1:=ih fun x hx=>hL x (.tail _ hx)
    have h2:=hL b (.head _)
    omega
  have:=this d.Ts fun b hb=>by have:=s.t.len b hb; omega
  omega
 have g10:=(EI.get _ (by omega)).trans g1
 simp(disch:=first|omega|simp only[Wd]<;>omega|with_unfolding_all rfl)only[Wz,C6]
 refine ⟨fun n l h1=>∃i:Nat,slot l 12=.int .i64 (i:Int)∧n=K.length-i∧i≤K.length∧Le h0 h1,
  ⟨_,0,rfl,rfl,by omega,Le.refl _⟩,?_⟩
 rintro n l h1 ⟨i,s1,rfl,hi,bK⟩
 have n1:=bK.nx
 have l1:=bK.lo
 by_cases hlt:i<K.length
 ·obtain ⟨e,he⟩:∃e,K[i]? = some e:=⟨_,List.getElem?_eq_getElem hlt⟩
  have Vo:=List.mem_of_getElem? he
  obtain ⟨⟨b',hb',e',he',se⟩,qv⟩:=t0.each e Vo
  obtain ⟨b0,o0,hb0,hx0,E9⟩:=Uh t0.sl i he (Ey qv.1)
  have R1:=E9 h1 bK
  have QN:=qv.le bK
  obtain ⟨qx,qc,eq,_⟩:=(show Sl aZ h1 e.q e.Q from QN.1)
  have g11:=(bK.get _ (by omega)).trans g10
  rw[eq] at R1
  simp(disch:=first|omega|simp only[Wd]<;>omega|with_unfolding_all rfl)only[Wz,s1,fH (show (i:Int)<(K.length:Int) by omega),vN,hx0,R1,g11]
  rw[z7]
  by_cases hn:e.t=t∧e.r=r
  ·rw[bf hn]
   simp(disch:=first|omega|simp only[Wd]<;>omega|with_unfolding_all rfl)only[Wz]
   refine hk _ e.Q _ ?_ ?_ ((aO.trans (EI.trans bK)).trans ((Le.refl h1).new _))
   ·rw[se.2.2.2]; exact hP b' hb' e' he' (by rw[←se.1]; exact hn.1) (by rw[←se.2.1]; exact hn.2)
   ·rw[←eq]; exact (QN.le ((Le.refl h1).new _)).1
  ·rw[a_ hn]
   simp(disch:=first|omega|simp only[Wd]<;>omega|with_unfolding_all rfl)only[Wz,s1]
   exact ⟨_,by omega,i+1,rfl,rfl,by omega,bK.trans ((Le.refl h1).new _)⟩
 ·simp(disch:=first|omega|simp only[Wd]<;>omega|with_unfolding_all rfl)only[Wz,s1,cg (show (K.length:Int)≤(i:Int) by omega)]
  exact hk _ [] _ P0 (Sl.nil _ _ _) (aO.trans (EI.trans bK))
theorem UH (s:WS h A a N d R) {i:Nat} {c:CR} (hi:R.cs[i]? = some (some c)) (jw:R.now=0) (mO:R.tv=.slice none 0 0) (hW:1≤c.a.w∧c.a.w≤200) (id:Int) (κ:KQ)
  (hk:∀h' b kN dO,WS h' A a N d { R with cs:=R.cs.set i (some { c with wt:=true,id:=id }),tv:=.slice (some ⟨b,0,none⟩) 1 aD,wm:=kN,kW:=dO }→h.nx≤b→b<h'.nx→h'.bl.get b=some (aa [.int .i64 c.a.w,.int .i64 c.th,.int .i64 c.no] 214 true)→WK a h h'→κ (.tuple ⟨[]⟩) h') :
  CallW Tryz.prog 215 [.pointer (some ⟨c.ca,0,none⟩),.int .i64 id] h κ:=by
 obtain ⟨gc,c1,c2⟩:=aY s hi
 have gc':=gc
 unfold bh at gc'
 have gw:=s.r.gw
 have hlo:=s.lo
 have hca:c.ca≠A.wb:=ir gc gw (by decide)
 refine aj mixed ?_
 rw[SR]
 have s1:=WS.dX s hi (c':={ c with wt:=true,id:=id }) rfl
 have k1:=WS.j9 s gc (by simp[jW]) (by decide) (bh A.wb { c with wt:=true,id:=id })
 obtain ⟨h1,e1⟩:∃h1:Heap,h1=⟨h.nx,h.bl.aS c.ca (bh A.wb { c with wt:=true,id:=id }),h.lo⟩:=⟨_,rfl⟩
 rw[←e1] at s1 k1
 have n1:h1.nx=h.nx:=by rw[e1]
 unfold bh at e1
 simp(disch:=first|omega|simp only[Wd]<;>omega|with_unfolding_all rfl)only[Wz,ax,gc',gw]
 rw[←e1]
 clear e1
 refine LB s1.r.gm s1.r.rP.2 id c.th _ ?_
 intro W' clock' _
 have s2:=s1.EN W' clock'
 have k2:=s1.adx (.map (W'.map tT) clock')
 obtain ⟨h2,e2⟩:∃h2:Heap,h2=⟨h1.nx,h1.bl.aS A.mb (.map (W'.map tT) clock'),h1.lo⟩:=⟨_,rfl⟩
 rw[←e2] at s2 k2 ⊢
 have n2:h2.nx=h1.nx:=by rw[e2]
 clear e2
 have hil:=(List.getElem?_eq_some_iff.1 hi).1
 have hi2:(R.cs.set i (some { c with wt:=true,id:=id }))[i]? = some (some { c with wt:=true,id:=id }):=by rw[List.getElem?_set,if_pos rfl,if_pos hil]
 obtain ⟨jt,_,_⟩:=aY s2 hi2
 unfold bh at jt
 have ES:=s2.r.gw
 have O4:h2.bl.get A.kb=some (aa [.int .i64 R.now,R.tv] 169 false):=s2.r.gk
 rw[jw,mO] at O4
 simp(disch:=first|omega|simp only[Wd]<;>omega|with_unfolding_all rfl)only[Wz,ax,jt,ES]
 refine Uq O4 _ ?_
 simp(disch:=first|omega|simp only[Wd]<;>omega|with_unfolding_all rfl)only[Wz,ax,jt,ES,bf (show (0:Int)<c.a.w by omega),bf (show (0:Int)≤9223372036854775807-c.a.w by omega),BW,Int.zero_add]
 refine Us O4 s2.r.Ic c.a.w c.th c.no (by omega) _ ?_
 intro h3 b eZ b1 b2 g3
 have s3:=(s2.le eZ).rL 0 (.slice (some ⟨b,0,none⟩) 1 aD)
 have k3:=(s2.Ai eZ).trans (WS.j9 (s2.le eZ) (s2.le eZ).r.gk (by simp[jW]) (by decide) (aa [.int .i64 0,.slice (some ⟨b,0,none⟩) 1 aD] 169 false))
 have hne:A.kb≠b:=by have:=s2.r.Ic; omega
 have hR:({ R with cs:=R.cs.set i (some { c with wt:=true,id:=id }),wm:=W',kW:=clock',now:=0,tv:=.slice (some ⟨b,0,none⟩) 1 aD }:RD)={ R with cs:=R.cs.set i (some { c with wt:=true,id:=id }),tv:=.slice (some ⟨b,0,none⟩) 1 aD,wm:=W',kW:=clock' }:=by rw[←jw]
 have s3':=s3
 simp only at s3'
 refine hk _ b W' clock' ?_ (by omega) b2 ((T.ah _ _ hne).trans g3) ((k1.trans k2).trans k3)
 rw[←hR]
 exact s3
end
structure cU (Ts:List TB) (t r w:Int) (Q:List R5):Prop where
 nm:∀b∈Ts,∀e∈b.M,e.t=t∧e.r=r∧e.Q=Q∧e.w=w
 ex:Q≠[]→∃b∈Ts,∃e,e∈b.M
section
variable {h:Heap} {tb bw bp bl:Nat} {c:dg} {vb:Value} {aH N:Nat} {Ts:List TB} {W:List IE} {wc:Nat} {F:List Int} {B:List Bool} {t r w:Int} {Q:List R5}
theorem cU.settle (o:cU Ts t r w Q) (s:gK h tb bw bp bl c vb aH N Ts W wc F B) {k:Nat} {b:TB} (hk:Ts[k]? = some b) (hst:bT t r c.S=(k:Int)) {w':Int} {Q':List R5} {M':List HE} (cl:Nat) (st:dN b.M M' t r w' Q') :
  cU (Ts.set k ⟨b.bb,b.bm,M',cl⟩) t r w' Q':=by
 have hil:=(List.getElem?_eq_some_iff.1 hk).1
 have hb:=List.mem_of_getElem? hk
 have hf:b.M.filter (fun x=>!rm t r x)=[]:=by
  rw[List.filter_eq_nil_iff]
  intro e he
  obtain ⟨h1,h2,_⟩:=o.nm b hb e he
  simp[rm,h1,h2]
 constructor
 ·intro b' hb' e he
  obtain ⟨j,hj⟩:=List.getElem?_of_mem hb'
  rcases dH hj with ⟨rfl,rfl⟩ | ⟨hne,hj⟩
  ·by_cases h0:Q'=[]
   ·rw[st.gone h0,hf] at he; nomatch he
   ·obtain ⟨e0,h1,h2,h3,h4,hp⟩:=st.put h0
    rw[hf,List.nil_append] at hp
    have:=List.mem_singleton.1 (hp.mem_iff.1 he)
    subst this
    exact ⟨h1,h2,h4,h3⟩
  ·have hs:=s.nm j b' hj e he
   obtain ⟨h1,h2,_⟩:=o.nm b' (List.mem_of_getElem? hj) e he
   rw[h1,h2,hst] at hs
   omega
 ·intro h0
  obtain ⟨e0,h1,h2,h3,h4,hp⟩:=st.put h0
  exact ⟨_,List.mem_of_getElem? (i:=k) (by rw[List.getElem?_set,if_pos rfl,if_pos hil]),e0,hp.mem_iff.2 (List.mem_append_right _ (.head _))⟩
theorem cU.at (o:cU Ts t r w Q) (s:gK h tb bw bp bl c vb aH N Ts W wc F B) (hQ:Q≠[]):∃(k:Nat) (b:TB) (e:HE),Ts[k]? = some b∧bT t r c.S=(k:Int)∧e∈b.M∧e.t=t∧e.r=r∧e.Q=Q∧e.w=w:=by
 obtain ⟨b,hb,e,he⟩:=o.ex hQ
 obtain ⟨k,hk⟩:=List.getElem?_of_mem hb
 obtain ⟨h1,h2,h3,h4⟩:=o.nm b hb e he
 have:=s.nm k b hk e he
 rw[h1,h2] at this
 exact ⟨k,b,e,hk,this,he,h1,h2,h3,h4⟩
theorem cU.asked (o:cU Ts t r w Q) (s:gK h tb bw bp bl c vb aH N Ts W wc F B) {k:Nat} {b:TB} (hk:Ts[k]? = some b) (hst:bT t r c.S=(k:Int)) {h0 h1:Heap} {M':List HE} {cl:Nat} {F':List Int} {x m:Int} {n:Nat} {g:Bool} (hw:Q=[]→w=0)
  (a:kI h0 h1 b.bb b.bm bp bl aH b.M M' cl F F' B t r x m n g):g=(dS Q w n x m).2.2∧cU (Ts.set k ⟨b.bb,b.bm,M',cl⟩) t r (dS Q w n x m).2.1 (cE (eV (Q++[(dS Q w n x m).1])+1) (Q++[(dS Q w n x m).1])).1:=by
 obtain ⟨Q0,w0,hold,_,_,hg,st⟩:=a.set
 have hb:=List.mem_of_getElem? hk
 have hQ:Q0=Q∧w0=w:=by
  rcases hold with ⟨e,he,h1,h2,rfl,rfl⟩ | ⟨hn,_,rfl,rfl⟩
  ·obtain ⟨_,_,h3,h4⟩:=o.nm b hb e he
   exact ⟨h3,h4⟩
  ·by_cases h0:Q=[]
   ·exact ⟨h0.symm,(hw h0).symm⟩
   ·obtain ⟨j,b',e,hj,hs,he,h1,h2,_⟩:=o.at s h0
    rw[hst] at hs
    have:j=k:=by omega
    subst this
    rw[hk] at hj; cases hj
    exact absurd ⟨h1.symm,h2.symm⟩ (hn e he)
 obtain ⟨rfl,rfl⟩:=hQ
 exact ⟨hg,o.settle s hk hst cl st⟩
theorem cU.sum (o:cU Ts t r w Q) (s:gK h tb bw bp bl c vb aH N Ts W wc F B) {h':Heap} {v:Value} {D:List L4} {K:List HE} (a:Gt h' Ts v D K):D.Perm (jl t r Q):=by
 refine a.perm.trans ?_
 have hK:∀k∈K,k.t=t∧k.r=r∧k.Q=Q:=by
  intro k hk
  obtain ⟨b,hb,e,he,se⟩:=a.each k hk
  obtain ⟨h1,h2,h3,_⟩:=o.nm b hb e he
  exact ⟨se.1.trans h1,se.2.1.trans h2,se.2.2.2.trans h3⟩
 by_cases h0:Q=[]
 ·have:K.flatMap jV=[]:=by
   rw[List.flatMap_eq_nil_iff]
   intro k hk
   have:=(hK k hk).2.2
   unfold jV
   rw[this,h0]; rfl
  rw[this,h0]; exact List.Perm.refl _
 ·obtain ⟨b,hb,e,he⟩:=o.ex h0
  cases ZM:K with
  | nil=>
   have h1:=a.names
   rw[ZM] at h1
   have:di e∈(Ts.flatMap fun b=>b.M.map di):=List.mem_flatMap.2 ⟨b,hb,List.mem_map.2 ⟨e,he,rfl⟩⟩
   have:=h1.mem_iff.2 this
   nomatch this
  | cons k K'=>
   have hk:=hK k (by rw[ZM]; exact .head _)
   have:K'=[]:=by
    cases K' with
    | nil=>rfl
    | cons k' K''=>
     have hs:=a.ac1
     rw[ZM] at hs
     have h1:=(List.pairwise_cons.1 hs).1 (di k') (by simp)
     have hk':=hK k' (by rw[ZM]; exact .tail _ (.head _))
     unfold di tD at h1
     rw[hk.1,hk.2.1,hk'.1,hk'.2.1] at h1
     simp only at h1
     omega
   subst this
   simp only[List.flatMap_cons,List.flatMap_nil,List.append_nil]
   unfold jV
   rw[hk.1,hk.2.1,hk.2.2]
end
def fV (i m1:Int):R5:=⟨i,1,m1,m1,0⟩
def xh (n m1 m w:Int):R5:=if cmp m1 m=true then ⟨n,2,m,m,0⟩ else ⟨n,2,0,m,w⟩
theorem Pr {i n m1 m w:Int} (h1:m1≠0) (hne:i≠n):dS [fV i m1] w n 2 m=if cmp m1 m=true then (⟨n,2,m,m,0⟩,w,true) else (⟨n,2,0,m,w+1⟩,w+1,false):=by
 unfold dS fV
 rw[qj h1]
 unfold dU
 simp[hne,h1]
section
variable {h:Heap} {A:WA} {a:TA} {N:Nat} {d:TD} {R:RD}
theorem Pt (s:tW h a N d) {t r w i m1:Int} (o:cU d.Ts t r w [fV i m1]) (hlo:h.lo≤h.nx) (hN:N≤1000) {k:Nat} (hst:bT t r a.c.S=(k:Int)) (h1:m1≠0) {m:Int} (am:bH m=true) (hF:d.F≠[]) (κ:KQ)
  (hk:∀h' d' (n:Nat),tW h' a (N+1) d'→(i:Int)≠(n:Int)→cU d'.Ts t r (if cmp m1 m=true then w else w+1) [fV i m1,xh n m1 m (w+1)]→rE d.Ts a.bw a.bp a.bl h h'→d'.Ts.map (·.bm)=d.Ts.map (·.bm)→κ (.tuple ⟨[.int .i64 (n:Int),.bool (cmp m1 m),.int .i64 0]⟩) h') :
  CallW Tryz.prog 213 [.pointer (some ⟨a.tb,0,none⟩),ew t r,.int .i64 2,.int .i64 m] h κ:=by
 have hQ:([fV i m1]:List R5)≠[]:=by simp
 obtain ⟨k0,b0,e0,j7,UB,tU,Vv,E9,Mi,hw0⟩:=o.at s hQ
 obtain rfl:k0=k:=by omega
 have hb0:=List.mem_of_getElem? j7
 have vq:VQ [fV i m1] w:=by
  have:=((s.is.bk b0 hb0).good e0 tU).vq
  rwa [Mi,hw0] at this
 have stk:kT [fV i m1]:=qb (qj h1)
 refine Gu s hlo hN t r 2 m _ ?_ ?_ ?_ ?_ ?_
 ·intro h' hn; omega
 ·intro k' b' h' _ _ hf; rw[am] at hf; cases hf
 ·intro k' b' h' e p hb' _ _ he ht hr hp hx
  have:=(o.nm b' (List.mem_of_getElem? hb') e he).2.2.1
  rw[this,List.mem_singleton] at hp
  subst hp
  exact absurd (show (1:Int)=2 from hx) (by decide)
 ·intro k' b' h' hb' Mk _ _ hor
  obtain rfl:k'=k0:=by omega
  rw[j7] at hb'; cases hb'
  rcases hor with h2 | ⟨h2,_⟩
  ·exact absurd h2 hF
  ·exact absurd ⟨Vv.symm,E9.symm⟩ (h2 e0 tU)
 ·intro k' b' M' clock' F' W' tV h0 h1' h' n g hb' Mk _ _ _ ak s' fr
  obtain rfl:k'=k0:=by omega
  rw[j7] at hb'; cases hb'
  have hne:(i:Int)≠(n:Int):=by
   intro e
   have hid:(i:Int)∈ez b0.M:=by
    unfold ez
    exact List.mem_flatMap.2 ⟨e0,tU,List.mem_map.2 ⟨fV i m1,by rw[Mi]; exact .head _,rfl⟩⟩
   have hl:=s.ids.mem_iff.1 (List.mem_flatMap.2 ⟨b0,hb0,hid⟩)
   obtain ⟨n',e',hB⟩:=gW.1 hl
   have:n'=n:=by omega
   subst this
   rw[ak.old] at hB; cases hB
  obtain ⟨hg,o'⟩:=o.asked s j7 hst (fun e=>absurd e hQ) ak
  have hs2:=pY (HT vq stk (id:=(n:Int)) (x:=2) am) (eV ([fV i m1]++[(dS [fV i m1] w n 2 m).1])+1)
  rw[hs2] at o'
  rw[Pr h1 hne] at hg o'
  subst hg
  have Aq:=wN j7 M' clock'
  cases hc:cmp m1 m with
  | true=>
   rw[hc,if_pos rfl] at o'
   have hk:=hk h' ⟨_,W',tV,F',d.B.set n true⟩ n s' hne
   unfold xh at hk
   rw[hc,if_pos rfl,if_pos rfl] at hk
   rw[if_pos rfl]
   exact hk o' fr Aq
  | false=>
   rw[hc,if_neg (by decide)] at o'
   have hk:=hk h' ⟨_,W',tV,F',d.B.set n true⟩ n s' hne
   unfold xh at hk
   rw[hc,if_neg (by decide),if_neg (by decide)] at hk
   rw[if_neg (by decide)]
   exact hk o' fr Aq
theorem Dt (s:tW h a N d) {t r w i m1 m w':Int} {n:Nat} (o:cU d.Ts t r w [fV i m1,⟨n,2,0,m,w'⟩]) (hlo:h.lo≤h.nx) {k:Nat} (hst:bT t r a.c.S=(k:Int)) (h1:m1≠0) (hne:(i:Int)≠(n:Int)) (hw:0<w') (κ:KQ)
  (hk:∀h' d' v',tW h' a (N+1) d'→cU d'.Ts t r w [fV i m1]→qa h h' v' []→rE d.Ts a.bw a.bp a.bl h h'→d'.Ts.map (·.bm)=d.Ts.map (·.bm)→κ (.tuple ⟨[v',.int .i64 0]⟩) h') :
  CallW Tryz.prog 153 [.pointer (some ⟨a.tb,0,none⟩),.int .i64 (n:Int)] h κ:=by
 have hQ:([fV i m1,⟨n,2,0,m,w'⟩]:List R5)≠[]:=by simp
 obtain ⟨k0,b0,e0,j7,UB,tU,Vv,E9,Mi,hw0⟩:=o.at s hQ
 obtain rfl:k0=k:=by omega
 have hb0:=List.mem_of_getElem? j7
 have hf:bE [fV i m1,⟨n,2,0,m,w'⟩] (n:Int)=some ⟨n,2,0,m,w'⟩:=by
  unfold bE fV bg
  simp[hne]
 refine C8 s hlo (n:Int) _ ?_ ?_ ?_ ?_
 ·intro hn
  have:=hn b0 hb0 e0 tU
  rw[Mi,hf] at this; cases this
 ·intro k' b' h' e p hb' he hf' hp
  rw[(o.nm b' (List.mem_of_getElem? hb') e he).2.2.1,hf] at hf'
  cases hf'
  exact absurd hw hp
 ·intro k' b' h' M' clock' F' v' e p n' hb' he hf' hp hm hid hB mv ho s'
  obtain ⟨q1,q2,q3,q4⟩:=o.nm b' (List.mem_of_getElem? hb') e he
  have hk':k'=k0:=by
   have:=s.nm k' b' hb' e he
   rw[q1,q2,hst] at this; omega
  subst hk'
  have hn:n'=n:=by omega
  subst hn
  have UC:(e.Q.filter fun r=>!bg (n':Int) r)=[fV i m1]:=by
   rw[q3]
   unfold fV bg
   simp[hne]
  have st:=mv.set
  rw[UC] at st ho
  have sc:cE (eV [fV i m1]+1) [fV i m1]=([fV i m1],[]):=sK h1
  rw[sc] at st ho
  rw[q1,q2,q4] at st
  exact hk h' ⟨_,d.W,d.wc,F',d.B.set n' false⟩ v' s' (o.settle s hb' hst clock' st) ho (rE.OU (List.mem_of_getElem? hb') mv.fr) (wN hb' _ _)
 ·intro k' b' h' M' clock' v' e p j hb' he hj hf' hp hm
  rw[(o.nm b' (List.mem_of_getElem? hb') e he).2.2.1,hf] at hf'
  cases hf'
  exact absurd rfl hm
end
section
variable {h:Heap} {A:WA} {a:TA} {N:Nat} {d:TD} {R:RD}
theorem Du (s:WS h A a N d R) {i k:Nat} {c:CR} {w i1 m1:Int} (o:cU d.Ts c.a.t c.a.r w [fV i1 m1]) (mH:m1≠0) (hN:N≤1000) (hi:R.cs[i]? = some (some c)) (hst:bT c.a.t c.a.r a.c.S=(k:Int)) (hx:c.a.x=2) (km:kn c.a.m=true) (hm:c.a.m≠0) (hF:d.F≠[]) (jw:R.now=0) (mO:R.tv=.slice none 0 0) (hW:1≤c.a.w∧c.a.w≤200)
  (xb:List Value) (hl:slot xb 19=.int .i64 0) (id:Int) (κ:KQ)
  (UI:cmp m1 c.a.m=true→∀h' d' n,WS h' A a (N+1) d' { R with cs:=R.cs.set i (some { c with out:=1 }) }→cU d'.Ts c.a.t c.a.r w [fV i1 m1,xh n m1 c.a.m (w+1)]→WK a h h'→κ (.tuple ⟨[]⟩) h')
  (UJ:cmp m1 c.a.m=false→∀h' d' (n:Nat) b kN dO,WS h' A a (N+1) d' { R with cs:=R.cs.set i (some { c with wt:=true,id:=(n:Int) }),tv:=.slice (some ⟨b,0,none⟩) 1 aD,wm:=kN,kW:=dO }→cU d'.Ts c.a.t c.a.r (w+1) [fV i1 m1,xh n m1 c.a.m (w+1)]→i1≠(n:Int)→h.nx≤b→b<h'.nx→h'.bl.get b=some (aa [.int .i64 c.a.w,.int .i64 c.th,.int .i64 c.no] 214 true)→WK a h h'→κ (.tuple ⟨[]⟩) h') :
  nM (.pointer (some ⟨c.ca,0,none⟩)) xb (.int .i64 id) h κ:=by
 obtain ⟨gc,c1,c2⟩:=aY s hi
 have gc':=gc
 unfold bh at gc'
 have gw:=s.r.gw
 unfold nM
 simp(disch:=first|omega|simp only[Wd]<;>omega|with_unfolding_all rfl)only[Wz,hl,ax,gc',gw]
 refine KA _ _ ?_
 rw[ET km]
 simp(disch:=first|omega|simp only[Wd]<;>omega|with_unfolding_all rfl)only[Wz,ax,gc',gw]
 refine Mu s c.a.t c.a.r (Pq:=fun Q=>Q.length≤1∧∀p∈Q,0≤p.x) ⟨by simp,fun p hp=>nomatch hp⟩ (fun b hb e he _ _=>by
  rw[(o.nm b hb e he).2.2.1]
  refine ⟨by simp,fun p hp=>?_⟩
  rw[List.mem_singleton] at hp; subst hp
  show (0:Int)≤1; omega) _ ?_
 intro v Q h1 hQ hv bK
 obtain ⟨vx,vc,ev,_⟩:=(show Sl aZ h1 v Q from hv)
 have hlen:∀(β:Type) (fl:β) (h':Heap) (κ:Value→Heap→β),bz fl v h' κ=κ (.int .i64 (Q.length:Int)) h':=fun β fl h' κ=>by rw[ev]; exact eY _ _ _ _ _
 have hQl:=hQ.1
 simp(disch:=first|omega|simp only[Wd]<;>omega|with_unfolding_all rfl)only[Wz,hlen]
 refine ⟨fun n l h2=>∃j:Nat,slot l 29=.int .i64 (j:Int)∧n=Q.length-j∧j≤Q.length∧Le h1 h2,⟨_,0,rfl,rfl,by omega,Le.refl _⟩,?_⟩
 rintro n l h2 ⟨j,s1,rfl,hj,bF⟩
 have n2:=bF.nx
 have l2:=bF.lo
 have n1:=bK.nx
 have l1:=bK.lo
 have hlo:=s.lo
 by_cases hlt:j<Q.length
 ·obtain ⟨p,hp⟩:∃p,Q[j]? = some p:=⟨_,List.getElem?_eq_getElem hlt⟩
  obtain ⟨b4,o4,hb4,Vp,OD,_⟩:=MQ hv j hp
  have hpx:0≤p.x:=hQ.2 p (List.mem_of_getElem? hp)
  rw[←bF.get _ hb4] at OD
  simp(disch:=first|omega|simp only[Wd]<;>omega|with_unfolding_all rfl)only[Wz,nL,s1,fH (show (j:Int)<(Q.length:Int) by omega)]
  refine ⟨fun l' h'=>Le h1 h',?_,?_⟩
  ·simp(disch:=first|omega|simp only[Wd]<;>omega|with_unfolding_all rfl)only[Wz,vH,s1,Vp,OD,aZ,cg (show (0:Int)≤p.x by omega)]
   exact bF.trans ((Le.refl h2).new _)
  ·intro l' h' le'
   exact ⟨_,by omega,j+1,rfl,rfl,by omega,le'⟩
 ·have jb:=bK.trans bF
  have s2:=s.le jb
  have jt:=(jb.get _ c1).trans gc
  have lR:=jt
  unfold bh at lR
  have ES:=s2.r.gw
  have YZ:=s.Ai jb
  simp(disch:=first|omega|simp only[Wd]<;>omega|with_unfolding_all rfl)only[Wz,nL,s1,cg (show (Q.length:Int)≤(j:Int) by omega),vJ,ax,lR,hl]
  refine Ct _ _ ?_
  have Dl:mu 0 c.a.m=false:=by
   cases hc:mu 0 c.a.m with
   | false=>rfl
   | true=>exact absurd (R7 hc) hm
  rw[Dl]
  simp(disch:=first|omega|simp only[Wd]<;>omega|with_unfolding_all rfl)only[Wz]
  refine ⟨fun l' h'=>∃d' n,slot l' 39=.bool (cmp m1 c.a.m)∧slot l' 40=.int .i64 0∧slot l' 25=.int .i64 ((n:Nat):Int)∧WS h' A a (N+1) d' R∧cU d'.Ts c.a.t c.a.r (if cmp m1 c.a.m=true then w else w+1) [fV i1 m1,xh n m1 c.a.m (w+1)]∧i1≠(n:Int)∧WK a h h',?_,?_⟩
  ·have am:bH c.a.m=true:=(gr _).2 ⟨hm,km⟩
   simp(disch:=first|omega|simp only[Wd]<;>omega|with_unfolding_all rfl)only[Wz,hl,vI,ax,lR,ES]
   rw[hx]
   refine Pt s2.t o (by omega) hN hst mH am hF _ ?_
   intro h3 d3 n t3 hne o3 f3 b3
   simp(disch:=first|omega|simp only[Wd]<;>omega|with_unfolding_all rfl)only[Wz]
   exact ⟨d3,n,trivial,trivial,rfl,s2.table t3 f3 b3,o3,hne,YZ.trans (s2.YW f3)⟩
  ·rintro l' h3 ⟨d3,n,e1,e2,e3,s3,o3,hne,k3⟩
   obtain ⟨rQ,c13,_⟩:=aY s3 hi
   have Ir:=rQ
   unfold bh at Ir
   cases hc:cmp m1 c.a.m with
   | true=>
    rw[hc] at e1 o3
    rw[if_pos rfl] at o3
    simp(disch:=first|omega|simp only[Wd]<;>omega|with_unfolding_all rfl)only[Wz,qY,e2,qX,qW,e1,ax,Ir]
    have hk:=UI hc _ d3 n (WS.dX s3 hi (c':={ c with out:=1 }) rfl) o3 (k3.trans (WS.j9 s3 rQ (by simp[jW]) (by decide) _))
    unfold bh at hk
    exact hk
   | false=>
    rw[hc] at e1 o3
    rw[if_neg (by decide)] at o3
    simp(disch:=first|omega|simp only[Wd]<;>omega|with_unfolding_all rfl)only[Wz,qY,e2,qX,qW,e1,e3]
    refine UH s3 hi jw mO hW (n:Int) _ ?_
    intro h4 b kN dO s4 b1 b2 g4 k4
    exact UJ hc h4 d3 n b kN dO s4 o3 hne (Nat.le_trans k3.nx b1) b2 g4 (k3.trans k4)
end
section
variable {h:Heap} {A:WA} {a:TA} {N:Nat} {d:TD} {R:RD}
theorem Pu (s:WS h A a N d R) {i k:Nat} {c:CR} {w i1 m1:Int} (o:cU d.Ts c.a.t c.a.r w [fV i1 m1]) (mH:m1≠0) (hN:N≤1000) (hi:R.cs[i]? = some (some c)) (hst:bT c.a.t c.a.r a.c.S=(k:Int)) (hx:c.a.x=2) (km:kn c.a.m=true) (hm:c.a.m≠0) (hF:d.F≠[]) (jw:R.now=0) (mO:R.tv=.slice none 0 0) (hW:1≤c.a.w∧c.a.w≤200) (κ:KQ)
  (UI:cmp m1 c.a.m=true→∀h' d' n,WS h' A a (N+1) d' { R with cs:=R.cs.set i (some { c with out:=1 }) }→cU d'.Ts c.a.t c.a.r w [fV i1 m1,xh n m1 c.a.m (w+1)]→WK a h h'→κ (.tuple ⟨[]⟩) h')
  (UJ:cmp m1 c.a.m=false→∀h' d' (n:Nat) b kN dO,WS h' A a (N+1) d' { R with cs:=R.cs.set i (some { c with wt:=true,id:=(n:Int) }),tv:=.slice (some ⟨b,0,none⟩) 1 aD,wm:=kN,kW:=dO }→cU d'.Ts c.a.t c.a.r (w+1) [fV i1 m1,xh n m1 c.a.m (w+1)]→i1≠(n:Int)→h.nx≤b→b<h'.nx→h'.bl.get b=some (aa [.int .i64 c.a.w,.int .i64 c.th,.int .i64 c.no] 214 true)→WK a h h'→κ (.tuple ⟨[]⟩) h') :
  CallW Tryz.prog 155 [.pointer (some ⟨c.ca,0,none⟩)] h κ:=by
 obtain ⟨gc,c1,c2⟩:=aY s hi
 have gc':=gc
 unfold bh at gc'
 have gw:=s.r.gw
 have hlo:=s.lo
 refine aj mixed ?_
 rw[Kg]
 simp(disch:=first|omega|simp only[Wd]<;>omega|with_unfolding_all rfl)only[Wz,ax,gc',gw]
 rw[hx]
 refine Dj s.t hlo c.a.t c.a.r 2 _ ?_
 intro h1 id b fi bK
 have hno:id=0∧b=false:=by
  rcases fi with ⟨_,h1,h2⟩ | ⟨k',M,hM,_,⟨_,e,he,_,_,p,hp,hpx,_⟩ | ⟨h1,h2,_⟩⟩
  ·exact ⟨h1,h2⟩
  ·rw[List.getElem?_map] at hM
   cases hb:d.Ts[k']? with
   | none=>rw[hb] at hM; cases hM
   | some b0=>
    rw[hb] at hM; cases hM
    rw[(o.nm b0 (List.mem_of_getElem? hb) e he).2.2.1,List.mem_singleton] at hp
    subst hp
    exact absurd (show (1:Int)=2 from hpx) (by decide)
  ·exact ⟨h2,h1⟩
 obtain ⟨rfl,rfl⟩:=hno
 have s1:=s.le bK
 simp(disch:=first|omega|simp only[Wd]<;>omega|with_unfolding_all rfl)only[Wz]
 refine ⟨fun l' h'=>slot l' 19=.int .i64 0∧Le h1 h',⟨rfl,Le.refl _⟩,?_⟩
 rintro l' h2 ⟨sl,bF⟩
 have n1:=bK.nx
 have n2:=bF.nx
 refine Du (s1.le bF) o mH hN hi hst hx km hm hF jw mO hW l' sl 0 κ ?_ ?_
 ·intro hc h' d' n s' o' k'
  exact UI hc h' d' n s' o' ((s.Ai (bK.trans bF)).trans k')
 ·intro hc h' d' n b kN dO s' o' hne b1 b2 g k'
  exact UJ hc h' d' n b kN dO s' o' hne (by omega) b2 g ((s.Ai (bK.trans bF)).trans k')
theorem Pv (s:WS h A a N d R) {i k:Nat} {c:CR} {w i1 m1:Int} (o:cU d.Ts c.a.t c.a.r w [fV i1 m1]) (mH:m1≠0) (hN:N≤1000) (hi:R.cs[i]? = some (some c)) (jZ:c.wt=false) (fQ:c.a.k=1) (hst:bT c.a.t c.a.r a.c.S=(k:Int)) (hx:c.a.x=2) (km:kn c.a.m=true) (hm:c.a.m≠0) (hF:d.F≠[]) (jw:R.now=0) (mO:R.tv=.slice none 0 0) (hW:1≤c.a.w∧c.a.w≤200) (κ:KQ)
  (UI:cmp m1 c.a.m=true→∀h' d' n,WS h' A a (N+1) d' { R with cs:=R.cs.set i (some { c with ph:=3,out:=1 }) }→cU d'.Ts c.a.t c.a.r w [fV i1 m1,xh n m1 c.a.m (w+1)]→WK a h h'→κ (.tuple ⟨[]⟩) h')
  (UJ:cmp m1 c.a.m=false→∀h' d' (n:Nat) b kN dO,WS h' A a (N+1) d' { R with cs:=R.cs.set i (some { c with ph:=3,wt:=true,id:=(n:Int) }),tv:=.slice (some ⟨b,0,none⟩) 1 aD,wm:=kN,kW:=dO }→cU d'.Ts c.a.t c.a.r (w+1) [fV i1 m1,xh n m1 c.a.m (w+1)]→i1≠(n:Int)→h.nx≤b→b<h'.nx→h'.bl.get b=some (aa [.int .i64 c.a.w,.int .i64 c.th,.int .i64 c.no] 214 true)→WK a h h'→κ (.tuple ⟨[]⟩) h') :
  CallW Tryz.prog 76 [.pointer (some ⟨c.ca,0,none⟩)] h κ:=by
 obtain ⟨gc,c1,c2⟩:=aY s hi
 have gc':=gc
 unfold bh at gc'
 have hlo:=s.lo
 have hil:=(List.getElem?_eq_some_iff.1 hi).1
 refine aj mixed ?_
 rw[J8]
 refine ⟨fun l' h'=>(cmp m1 c.a.m=true∧∃d' n,WS h' A a (N+1) d' { R with cs:=R.cs.set i (some { c with out:=1 }) }∧cU d'.Ts c.a.t c.a.r w [fV i1 m1,xh n m1 c.a.m (w+1)]∧WK a h h')∨
  (cmp m1 c.a.m=false∧∃d' n b kN dO,WS h' A a (N+1) d' { R with cs:=R.cs.set i (some { c with wt:=true,id:=((n:Nat):Int) }),tv:=.slice (some ⟨b,0,none⟩) 1 aD,wm:=kN,kW:=dO }∧cU d'.Ts c.a.t c.a.r (w+1) [fV i1 m1,xh n m1 c.a.m (w+1)]∧i1≠(n:Int)∧h.nx≤b∧b<h'.nx∧h'.bl.get b=some (aa [.int .i64 c.a.w,.int .i64 c.th,.int .i64 c.no] 214 true)∧WK a h h'),?_,?_⟩
 ·simp(disch:=first|omega|simp only[Wd]<;>omega|with_unfolding_all rfl)only[Wz,uq,ax,gc',jZ,zL]
  refine Mn h _ hlo ?_
  intro b0 hz ZN g0
  have s1:=s.le ZN
  have k1:=s.Ai ZN
  have nz:=ZN.nx
  have Di:=(ZN.get _ c1).trans gc'
  simp(disch:=first|omega|simp only[Wd]<;>omega|with_unfolding_all rfl)only[Wz,Mo g0 _ _ (.inl ⟨fQ,rfl⟩),ax,Di,List.nil_append,List.append_nil]
  refine Pu s1 o mH hN hi hst hx km hm hF jw mO hW _ ?_ ?_
  ·intro hc h' d' n s' o' k'
   rw[jZ] at s'
   exact .inl ⟨hc,d',n,s',o',k1.trans k'⟩
  ·intro hc h' d' n b kN dO s' o' hne b1 b2 g k'
   exact .inr ⟨hc,d',n,b,kN,dO,s',o',hne,by omega,b2,g,k1.trans k'⟩
 ·have iy:∀x y:CR,((R.cs.set i (some x)).set i (some y))=R.cs.set i (some y):=fun x y=>List.set_set ..
  rintro l' h' (⟨hc,d',n,s',o',k'⟩ | ⟨hc,d',n,b,kN,dO,s',o',hne,b1,b2,g,k'⟩)
  ·have hi':(R.cs.set i (some { c with out:=1 }))[i]? = some (some { c with out:=1 }):=by rw[List.getElem?_set,if_pos rfl,if_pos hil]
   obtain ⟨rQ,_,c3⟩:=aY s' hi'
   refine qm { c with out:=1 } rQ c3 3 _ rfl _ ?_
   have s4:=WS.dX s' hi' (c':={ c with ph:=3,out:=1 }) rfl
   simp only[List.set_set] at s4
   exact UI hc _ d' n s4 o' (k'.trans (WS.j9 s' rQ (by simp[jW]) (by decide) _))
  ·have hi':(R.cs.set i (some { c with wt:=true,id:=((n:Nat):Int) }))[i]? = some (some { c with wt:=true,id:=((n:Nat):Int) }):=by rw[List.getElem?_set,if_pos rfl,if_pos hil]
   obtain ⟨rQ,_,c3⟩:=aY s' hi'
   refine qm { c with wt:=true,id:=((n:Nat):Int) } rQ c3 3 _ rfl _ ?_
   have s4:=WS.dX s' hi' (c':={ c with ph:=3,wt:=true,id:=((n:Nat):Int) }) rfl
   simp only[List.set_set] at s4
   exact UJ hc _ d' n b kN dO s4 o' hne b1 b2 ((T.ah _ _ (ir rQ g (by decide))).trans g) (k'.trans (WS.j9 s' rQ (by simp[jW]) (by decide) _))
end
theorem Al {wb:Nat} {i n:Nat} (hn:1≤n∧n≤100) {D:Bool} {C:Int} (Pj:Nat→Heap→Prop) {h:Heap} (κ:KQ) (h0:Pj 0 h)
  (hs:∀j,j<n→∀h',Pj j h'→∀κ':Value→Heap→Prop,(∀done code h'',Pj (j+1) h''→(j+1=n→done=D∧code=C)→κ' (.tuple ⟨[.bool done,.int .i64 code,.int .i64 0]⟩) h'')→CallW Tryz.prog 14 [.pointer (some ⟨wb,0,none⟩),.int .i64 (i:Int)] h' κ')
  (hk:∀h',Pj n h'→κ (.tuple ⟨[.bool D,.int .i64 C,.int .i64 0]⟩) h') :
  CallW Tryz.prog 17 [.pointer (some ⟨wb,0,none⟩),.int .i64 (i:Int),.int .i64 (n:Int)] h κ:=by
 refine aj mixed ?_
 rw[Qo]
 refine ⟨fun m l h1=>∃j:Nat,slot l 15=.int .i64 (j:Int)∧m=n-j∧j≤n∧Pj j h1∧(j=n→slot l 10=.bool D∧slot l 11=.int .i64 C∧slot l 12=.int .i64 0),⟨_,0,rfl,rfl,by omega,h0,by omega⟩,?_⟩
 rintro m l h1 ⟨j,e1,rfl,hj,p1,f0⟩
 by_cases hlt:j<n
 ·simp(disch:=first|omega|simp only[Wd]<;>omega|with_unfolding_all rfl)only[Wz,qU,e1,fH (show (j:Int)<(n:Int) by omega)]
  refine hs j hlt h1 p1 _ ?_
  intro done code h2 p2 f2
  simp(disch:=first|omega|simp only[Wd]<;>omega|with_unfolding_all rfl)only[Wz,e1]
  refine ⟨_,by omega,j+1,rfl,rfl,by omega,p2,fun e=>?_⟩
  obtain ⟨rfl,rfl⟩:=f2 e
  refine ⟨?_,?_,?_⟩<;>first | rfl | trivial
 ·obtain rfl:j=n:=by omega
  obtain ⟨g1,g2,g3⟩:=f0 rfl
  simp(disch:=first|omega|simp only[Wd]<;>omega|with_unfolding_all rfl)only[Wz,qU,e1,cg (show (j:Int)≤(j:Int) by omega),g1,g2,g3]
  exact hk h1 p1
section
variable {h:Heap} {A:WA} {a:TA} {N:Nat} {d:TD} {R:RD}
theorem tG (s:WS h A a N d R) {i k:Nat} {c:CR} {w i1 m1:Int} (o:cU d.Ts c.a.t c.a.r w [fV i1 m1]) (mH:m1≠0) (hN:N≤1000) (hi:R.cs[i]? = some (some c)) (kX:c.ph=2) (mM:R.bits[i]? = some 0) (jZ:c.wt=false) (fQ:c.a.k=1) (hst:bT c.a.t c.a.r a.c.S=(k:Int)) (hsk:c.st=(k:Int)) {o':Option (Nat × Int)} (hl:R.bI[k]? = some o') (hx:c.a.x=2) (km:kn c.a.m=true) (hm:c.a.m≠0) (hF:d.F≠[]) (jw:R.now=0) (mO:R.tv=.slice none 0 0) (hW:1≤c.a.w∧c.a.w≤200) (κ:KQ)
  (UI:cmp m1 c.a.m=true→∀h' d' n,WS h' A a (N+1) d' { R with cs:=R.cs.set i (some { c with ph:=3,out:=1 }) }→cU d'.Ts c.a.t c.a.r w [fV i1 m1,xh n m1 c.a.m (w+1)]→WK a h h'→κ (.tuple ⟨[.bool false,.int .i64 0,.int .i64 0]⟩) h')
  (UJ:cmp m1 c.a.m=false→∀h' d' (n:Nat) b kN dO,WS h' A a (N+1) d' { R with cs:=R.cs.set i (some { c with ph:=3,wt:=true,id:=(n:Int) }),tv:=.slice (some ⟨b,0,none⟩) 1 aD,wm:=kN,kW:=dO }→cU d'.Ts c.a.t c.a.r (w+1) [fV i1 m1,xh n m1 c.a.m (w+1)]→i1≠(n:Int)→h.nx≤b→b<h'.nx→h'.bl.get b=some (aa [.int .i64 c.a.w,.int .i64 c.th,.int .i64 c.no] 214 true)→WK a h h'→κ (.tuple ⟨[.bool false,.int .i64 0,.int .i64 0]⟩) h') :
  CallW Tryz.prog 14 [.pointer (some ⟨A.wb,0,none⟩),.int .i64 (i:Int)] h κ:=by
 have gw:=s.r.gw
 have DD:=s.r.gc
 have hil:=lQ s hi
 have r:(R.cs.map fun o=>cz (o.map (·.ca)))[i]? = some (.pointer (some ⟨c.ca,0,none⟩)):=eu s hi
 obtain ⟨gc,c1,c2⟩:=aY s hi
 have hlc:(R.cs.map fun o=>cz (o.map (·.ca))).length=A.n:=by rw[List.length_map]; exact s.r.lc
 have gc':=gc
 unfold bh pe at gc'
 rw[kX] at gc'
 have h2:decide (((2:Nat):Int)=1)=false:=by decide
 have hcl:i<R.cs.length:=by have:=s.r.lc; omega
 refine aj mixed ?_
 rw[vC]
 simp(disch:=first|omega|simp only[Wd]<;>omega|with_unfolding_all rfl)only[Wz,er,kE]
 refine gX s hil _ ?_
 simp(disch:=first|omega|simp only[Wd]<;>omega|with_unfolding_all rfl)only[Wz]
 refine kO s hi mM hsk hl _ ?_
 rw[kX,h2]
 simp(disch:=first|omega|simp only[Wd]<;>omega|with_unfolding_all rfl)only[Wz,Bool.not_false,Bool.true_or,kz,ax,gw,aN,DD,r,gc',Nat.mul_one,jq]
 refine Pv s o mH hN hi jZ fQ hst hx km hm hF jw mO hW _ ?_ ?_
 ·intro hc h' d' n s' o' k'
  have hi':(R.cs.set i (some { c with ph:=3,out:=1 }))[i]? = some (some { c with ph:=3,out:=1 }):=by rw[List.getElem?_set,if_pos rfl,if_pos hcl]
  obtain ⟨jt,_,_⟩:=aY s' hi'
  unfold bh at jt
  simp(disch:=first|omega|simp only[Wd]<;>omega|with_unfolding_all rfl)only[Wz,ax,jt]
  exact UI hc h' d' n s' o' k'
 ·intro hc h' d' n b kN dO s' o' hne b1 b2 g k'
  have hi':(R.cs.set i (some { c with ph:=3,wt:=true,id:=(n:Int) }))[i]? = some (some { c with ph:=3,wt:=true,id:=(n:Int) }):=by rw[List.getElem?_set,if_pos rfl,if_pos hcl]
  obtain ⟨jt,_,_⟩:=aY s' hi'
  unfold bh at jt
  simp(disch:=first|omega|simp only[Wd]<;>omega|with_unfolding_all rfl)only[Wz,ax,jt]
  exact UJ hc h' d' n b kN dO s' o' hne b1 b2 g k'
end
theorem UK (a b c d e:Int):iI 8 (.agg ⟨[.int .i64 a,.int .i64 b,.int .i64 c,.int .i64 d,.int .i64 e]⟩) (.agg ⟨[.int .i64 a,.int .i64 b,.int .i64 c,.int .i64 d,.int .i64 e]⟩)=true:=by
 have v:∀n:Int,iI 7 (.int .i64 n) (.int .i64 n)=true:=fun n=>by
  show (eN .i64 .i64 && pg n n)=true
  rw[eP,bf rfl]; rfl
 show (iI 7 (.int .i64 a) (.int .i64 a) && (iI 7 (.int .i64 b) (.int .i64 b) && (iI 7 (.int .i64 c) (.int .i64 c) && (iI 7 (.int .i64 d) (.int .i64 d) && (iI 7 (.int .i64 e) (.int .i64 e) && true)))))=true
 simp only[v,Bool.and_self]
section
variable {h:Heap} {A:WA} {a:TA} {N:Nat} {d:TD} {R:RD}
theorem Pw (s:WS h A a N d R) {i k:Nat} {c:CR} {w i1 m1 m w':Int} {n:Nat} (o:cU d.Ts c.a.t c.a.r w [fV i1 m1,⟨n,2,0,m,w'⟩]) (mH:m1≠0) (hne:i1≠(n:Int)) (hw:0<w') (hi:R.cs[i]? = some (some c)) (hst:bT c.a.t c.a.r a.c.S=(k:Int)) (hx:c.a.x=2) (hid:c.id=(n:Int)) (hcs:c.cs≠0) {x:Option Addr} {cc:Nat} (mO:R.tv=.slice x 0 cc) (κ:KQ)
  (hk:∀h' d',WS h' A a (N+1) d' { R with cs:=R.cs.set i (some { c with out:=c.cs }) }→cU d'.Ts c.a.t c.a.r w [fV i1 m1]→WK a h h'→κ (.tuple ⟨[]⟩) h') :
  CallW Tryz.prog 115 [.pointer (some ⟨c.ca,0,none⟩)] h κ:=by
 obtain ⟨gc,c1,c2⟩:=aY s hi
 have gc':=gc
 unfold bh at gc'
 have gw:=s.r.gw
 have hlo:=s.lo
 have hf:bE [fV i1 m1,⟨n,2,0,m,w'⟩] (n:Int)=some ⟨n,2,0,m,w'⟩:=by
  unfold bE fV bg
  simp[hne]
 refine aj mixed ?_
 rw[Sq]
 simp(disch:=first|omega|simp only[Wd]<;>omega|with_unfolding_all rfl)only[Wz,ax,gc',gw,hid]
 obtain ⟨hA,aK⟩:∃hA:Heap,hA=⟨h.nx+1+1,((h.bl.aS (h.nx) (aa [.int .i64 0,.int .i64 0] 36 false)).aS (h.nx+1) (aa [.int .i64 0,.int .i64 0,.int .i64 0,.int .i64 0,.int .i64 0] 83 false)),h.lo⟩:=⟨_,rfl⟩
 have aO:Le h hA:=by subst aK; exact (((Le.refl h).new _).new _)
 have g11:hA.bl.get (h.nx)=some (aa [.int .i64 0,.int .i64 0] 36 false):=by subst aK; exact (T.ah _ _ (by omega)).trans (T.af _ _ _)
 have g12:hA.bl.get (h.nx+1)=some (aa [.int .i64 0,.int .i64 0,.int .i64 0,.int .i64 0,.int .i64 0] 83 false):=by subst aK; exact T.af _ _ _
 have gH:hA.nx=h.nx+1+1:=by subst aK; rfl
 have gI:hA.lo=h.lo:=by subst aK; rfl
 rw[←aK]
 clear aK
 have sA:=s.le aO
 refine LW sA.t (by omega) (n:Int) _ ?_ ?_
 ·intro h' hn _
  obtain ⟨k0,b0,e0,j7,_,tU,_,_,Mi,_⟩:=o.at s.t (by simp)
  have:=hn b0 (List.mem_of_getElem? j7) e0 tU
  rw[Mi,hf] at this; cases this
 intro h1 b e p hb he hfp bK
 obtain ⟨q1,q2,q3,q4⟩:=o.nm b hb e he
 rw[q3,hf] at hfp
 cases hfp
 have n1:=bK.nx
 have l1:=bK.lo
 have Y0:=bK.nx
 have Y1:=bK.lo
 have g11:=(bK.get _ (by omega)).trans g11
 have g12:=(bK.get _ (by omega)).trans g12
 have s1:=sA.le bK
 obtain ⟨Di,c11,ZI⟩:=aY s1 hi
 have adH:=Di
 unfold bh at adH
 simp(disch:=first|omega|simp only[Wd]<;>omega|with_unfolding_all rfl)only[Wz,ew,jR,aZ,q1,q2,g11,g12]
 simp(disch:=first|omega|simp only[Wd]<;>omega|with_unfolding_all rfl)only[Wz,UK]
 obtain ⟨h2,e2⟩:∃h2:Heap,h2=⟨h1.nx,(h1.bl.aS h.nx (aa [.int .i64 c.a.t,.int .i64 c.a.r] 36 false)).aS (h.nx+1) (aa [.int .i64 (n:Int),.int .i64 2,.int .i64 0,.int .i64 m,.int .i64 w'] 83 false),h1.lo⟩:=⟨_,rfl⟩
 have bF:Le h h2:=by rw[e2]; exact ((aO.trans bK).set (by omega) _).set (by omega) _
 have g21:h2.bl.get h.nx=some (aa [.int .i64 c.a.t,.int .i64 c.a.r] 36 false):=by rw[e2]; exact (T.ah _ _ (by omega)).trans (T.af _ _ _)
 have g22:h2.bl.get (h.nx+1)=some (aa [.int .i64 (n:Int),.int .i64 2,.int .i64 0,.int .i64 m,.int .i64 w'] 83 false):=by rw[e2]; exact T.af _ _ _
 have n2:h2.nx=h1.nx:=by rw[e2]
 have l2:h2.lo=h1.lo:=by rw[e2]
 rw[←e2]
 clear e2
 have s2:=s.le bF
 obtain ⟨jt,c21,UA⟩:=aY s2 hi
 have lR:=jt
 unfold bh at lR
 have ES:=s2.r.gw
 refine ⟨fun l' h'=>∃d',WS h' A a (N+1) d' { R with cs:=R.cs.set i (some { c with out:=c.cs }) }∧cU d'.Ts c.a.t c.a.r w [fV i1 m1]∧WK a h h',?_,?_⟩
 ·simp(disch:=first|omega|simp only[Wd]<;>omega|with_unfolding_all rfl)only[Wz,BG,g21,g22,ax,lR]
  simp(disch:=first|omega|simp only[Wd]<;>omega|with_unfolding_all rfl)only[Wz,Lv,g22,lR,hx,BF,a_ (show ¬w'=0 by omega),BE,ax,a_ hcs,BD,ES]
  rw[show (Value.int .i64 c.id)=.int .i64 (n:Int) by rw[hid]]
  refine Dt s2.t o (by omega) hst mH hne hw _ ?_
  intro h3 d3 v3 t3 o3 ho f3 b3
  have s3:=s2.table t3 f3 b3
  obtain ⟨rQ,_,_⟩:=aY s3 hi
  have Ir:=rQ
  unfold bh at Ir
  obtain ⟨xv,cv,ev,_⟩:=(show Sl cT h3 v3 [] from ho.sl)
  have VS:∀v:Value,iI 8 (.int .i64 0) (.int .i64 0)=true:=fun _=>rfl
  simp(disch:=first|omega|simp only[Wd]<;>omega|with_unfolding_all rfl)only[Wz,ax,Ir,VS]
  rw[append_nil ho.sl ⟨_,_,_,rfl⟩]
  simp(disch:=first|omega|simp only[Wd]<;>omega|with_unfolding_all rfl)only[Wz,ax,Ir]
  have s4:=WS.dX s3 hi (c':={ c with out:=c.cs }) rfl
  have k4:=((s.Ai bF).trans (s2.YW f3)).trans (WS.j9 s3 rQ (by simp[jW]) (by decide) (bh A.wb { c with out:=c.cs }))
  unfold bh at s4 k4
  exact ⟨d3,s4,o3,k4⟩
 ·rintro l' h' ⟨d',s',o',k'⟩
  have hi':(R.cs.set i (some { c with out:=c.cs }))[i]? = some (some { c with out:=c.cs }):=bC hi
  obtain ⟨gc5,_,_⟩:=aY s' hi'
  unfold bh at gc5
  have gw5:=s'.r.gw
  have ZK:h'.bl.get A.kb=some (aa [.int .i64 R.now,R.tv] 169 false):=s'.r.gk
  rw[mO] at ZK
  simp(disch:=first|omega|simp only[Wd]<;>omega|with_unfolding_all rfl)only[Wz,BH,ax,gc5,gw5]
  refine L8 ZK s'.r.Ic.1 c.th c.no _ ?_
  intro h6 sG
  exact hk h6 d' (s'.le sG) o' (k'.trans (s'.Ai sG))
end
section
variable {h:Heap} {A:WA} {a:TA} {N:Nat} {d:TD} {R:RD}
theorem Px (s:WS h A a N d R) {i k:Nat} {c:CR} {w i1 m1 m w':Int} {n:Nat} (o:cU d.Ts c.a.t c.a.r w [fV i1 m1,⟨n,2,0,m,w'⟩]) (mH:m1≠0) (hne:i1≠(n:Int)) (hw:0<w') (hi:R.cs[i]? = some (some c)) (jZ:c.wt=true) (hst:bT c.a.t c.a.r a.c.S=(k:Int)) (hx:c.a.x=2) (hid:c.id=(n:Int)) (hcs:c.cs≠0) {x:Option Addr} {cc:Nat} (mO:R.tv=.slice x 0 cc) (κ:KQ)
  (hk:∀h' d',WS h' A a (N+1) d' { R with cs:=R.cs.set i (some { c with ph:=3,out:=c.cs }) }→cU d'.Ts c.a.t c.a.r w [fV i1 m1]→WK a h h'→κ (.tuple ⟨[]⟩) h') :
  CallW Tryz.prog 76 [.pointer (some ⟨c.ca,0,none⟩)] h κ:=by
 obtain ⟨gc,c1,c2⟩:=aY s hi
 have gc':=gc
 unfold bh at gc'
 have hil:=(List.getElem?_eq_some_iff.1 hi).1
 refine aj mixed ?_
 rw[J8]
 refine ⟨fun l' h'=>∃d',WS h' A a (N+1) d' { R with cs:=R.cs.set i (some { c with out:=c.cs }) }∧cU d'.Ts c.a.t c.a.r w [fV i1 m1]∧WK a h h',?_,?_⟩
 ·simp(disch:=first|omega|simp only[Wd]<;>omega|with_unfolding_all rfl)only[Wz,uq,ax,gc',jZ]
  refine Pw s o mH hne hw hi hst hx hid hcs mO _ ?_
  intro h' d' s' o' k'
  rw[jZ] at s'
  exact ⟨d',s',o',k'⟩
 ·rintro l' h' ⟨d',s',o',k'⟩
  have hi':(R.cs.set i (some { c with out:=c.cs }))[i]? = some (some { c with out:=c.cs }):=bC hi
  obtain ⟨rQ,_,c3⟩:=aY s' hi'
  refine qm { c with out:=c.cs } rQ c3 3 _ rfl _ ?_
  have s4:=WS.dX s' hi' (c':={ c with ph:=3,out:=c.cs }) rfl
  simp only[List.set_set] at s4
  exact hk _ d' s4 o' (k'.trans (WS.j9 s' rQ (by simp[jW]) (by decide) _))
theorem Dv (s:WS h A a N d R) {i k:Nat} {c:CR} {w i1 m1 m w':Int} {n:Nat} (o:cU d.Ts c.a.t c.a.r w [fV i1 m1,⟨n,2,0,m,w'⟩]) (mH:m1≠0) (hne:i1≠(n:Int)) (hw:0<w') (hi:R.cs[i]? = some (some c)) (kX:c.ph=2) {nb:Int} (mM:R.bits[i]? = some nb) (hz:ql nb 1=0) (jZ:c.wt=true) (hst:bT c.a.t c.a.r a.c.S=(k:Int)) (hsk:c.st=(k:Int)) {o':Option (Nat × Int)} (hl:R.bI[k]? = some o') (hx:c.a.x=2) (hid:c.id=(n:Int)) (hcs:c.cs≠0) {x:Option Addr} {cc:Nat} (mO:R.tv=.slice x 0 cc) (κ:KQ)
  (hk:∀h' d',WS h' A a (N+1) d' { R with cs:=R.cs.set i (some { c with ph:=3,out:=c.cs }) }→cU d'.Ts c.a.t c.a.r w [fV i1 m1]→WK a h h'→κ (.tuple ⟨[.bool false,.int .i64 0,.int .i64 0]⟩) h') :
  CallW Tryz.prog 14 [.pointer (some ⟨A.wb,0,none⟩),.int .i64 (i:Int)] h κ:=by
 have gw:=s.r.gw
 have DD:=s.r.gc
 have hil:=lQ s hi
 have r:(R.cs.map fun o=>cz (o.map (·.ca)))[i]? = some (.pointer (some ⟨c.ca,0,none⟩)):=eu s hi
 obtain ⟨gc,c1,c2⟩:=aY s hi
 have hlc:(R.cs.map fun o=>cz (o.map (·.ca))).length=A.n:=by rw[List.length_map]; exact s.r.lc
 have gc':=gc
 unfold bh pe at gc'
 rw[kX] at gc'
 have h2:decide (((2:Nat):Int)=1)=false:=by decide
 refine aj mixed ?_
 rw[vC]
 simp(disch:=first|omega|simp only[Wd]<;>omega|with_unfolding_all rfl)only[Wz,er,kE]
 refine gX s hil _ ?_
 simp(disch:=first|omega|simp only[Wd]<;>omega|with_unfolding_all rfl)only[Wz]
 refine kO s hi mM hsk hl _ ?_ hz
 rw[kX,h2]
 simp(disch:=first|omega|simp only[Wd]<;>omega|with_unfolding_all rfl)only[Wz,Bool.not_false,Bool.true_or,kz,ax,gw,aN,DD,r,gc',Nat.mul_one,jq]
 refine Px s o mH hne hw hi jZ hst hx hid hcs mO _ ?_
 intro h' d' s' o' k'
 have hi':(R.cs.set i (some { c with ph:=3,out:=c.cs }))[i]? = some (some { c with ph:=3,out:=c.cs }):=bC hi
 obtain ⟨jt,_,_⟩:=aY s' hi'
 unfold bh at jt
 simp(disch:=first|omega|simp only[Wd]<;>omega|with_unfolding_all rfl)only[Wz,ax,jt]
 exact hk h' d' s' o' k'
theorem Is (s:WS h A a N d R) {x:Option Addr} {n cc:Nat} (mO:R.tv=.slice x n cc) (κ:KQ) (hk:∀v1 v2,κ (.tuple ⟨[v1,v2,.int .i64 (n:Int)]⟩) h) :
  CallW Tryz.prog 34 [.pointer (some ⟨A.wb,0,none⟩)] h κ:=by
 have gw:=s.r.gw
 refine aj mixed ?_
 rw[Ws]
 simp(disch:=first|omega|simp only[Wd]<;>omega|with_unfolding_all rfl)only[Wz,er,FT,ax,gw]
 refine Ib s.t _ ?_
 have gk:h.bl.get A.kb=some (aa [.int .i64 R.now,R.tv] 169 false):=s.r.gk
 rw[mO] at gk
 simp(disch:=first|omega|simp only[Wd]<;>omega|with_unfolding_all rfl)only[Wz,ax,gw]
 refine O2 gk _ ?_
 exact hk _ _
end
section
variable {h:Heap} {kb b q:Nat} {now t w m:Int}
theorem Mv (gk:h.bl.get kb=some (aa [.int .i64 now,.slice (some ⟨b,0,none⟩) 1 aD] 169 false)) (hkb:kb<h.nx∧h.lo≤kb) (gb:h.bl.get b=some (aa [.int .i64 t,.int .i64 w,.int .i64 m] 214 true)) (hb:b<h.nx∧h.lo≤b) (x:Int) (hx:0≤x∧x≤1000) (jw:0≤now∧now≤1000000) (κ:KQ)
  (j7:now+x<t→∀h',h.nx≤h'.nx→h'.lo=h.lo→(∀c,c<h.nx→c≠kb→h'.bl.get c=h.bl.get c)→h'.bl.get kb=some (aa [.int .i64 (now+x),.slice (some ⟨b,0,none⟩) 1 aD] 169 false)→κ (.tuple ⟨[.slice none 0 0,.int .i64 0]⟩) h')
  (fQ:t≤now+x→∀h' v',h.nx≤h'.nx→h'.lo=h.lo→(∀c,c<h.nx→c≠kb→h'.bl.get c=h.bl.get c)→h'.bl.get kb=some (aa [.int .i64 (now+x),.slice (some ⟨b,0,none⟩) 0 aD] 169 false)→Sl lP h' v' [(⟨t,w,m⟩:De)]→κ (.tuple ⟨[v',.int .i64 0]⟩) h') :
  CallW Tryz.prog fP [.pointer (some ⟨kb,0,none⟩),.int .i64 x] h κ:=by
 have hkb':kb≠b:=by rintro rfl; rw[gk] at gb; exact aV gb
 refine yE mixed (skip:=QT) 60 ?_
 rw[YN,YG,Ln]
 simp(disch:=first|omega|simp only[Wd]<;>omega|with_unfolding_all rfl)only[Wz,n9,adb,rp0,↓T.b6,dG,bB,ct,oN,oF,ade,rp1,rH,sO,Es,adf,rp3,cg (show (0:Int)≤x by omega)]
 simp(disch:=first|omega|simp only[Wd]<;>omega|with_unfolding_all rfl)only[Wz,Af,bB,ct,QY,O5,dG,↓T.b6,cg (show (x:Int)≤1000 by omega),a_ (show ¬(1000:Int)<x by omega),oN,zW,sO,Es,EM,n9,adg]
 rw[rp5]
 simp(disch:=first|omega|simp only[Wd]<;>omega|with_unfolding_all rfl)only[Wz,dG,bB,ct,rI,↓T.b6,Gw,ax,gk,YO (show x≤9223372036854775807-now by omega),oN,n9,adh,rp6,adi,rp7]
 refine aj mixed ?_
 rw[W4]
 simp(disch:=first|omega|simp only[Wd]<;>omega|with_unfolding_all rfl)only[Wz]
 simp(disch:=first|omega|simp only[Wd]<;>omega|with_unfolding_all rfl)only[Wz,oF,ada,bB,ct,lE]
 obtain ⟨hB,eB⟩:∃hB:Heap,hB=⟨h.nx+1+1,((h.bl.aS kb (aa [.int .i64 (now+x),.slice (some ⟨b,0,none⟩) 1 aD] 169 false)).aS h.nx (aa [.slice none 0 0] 116 false)).aS (h.nx+1) (aa [.pointer (some ⟨kb,0,none⟩)] 103 false),h.lo⟩:=⟨_,rfl⟩
 rw[←eB]
 have nB:hB.nx=h.nx+1+1:=by rw[eB]
 have lB:hB.lo=h.lo:=by rw[eB]
 have gq:hB.bl.get h.nx=some (aa [.slice none 0 0] 116 false):=by rw[eB]; exact (T.ah _ _ (by omega)).trans (T.af _ _ _)
 have Ij:hB.bl.get (h.nx+1)=some (aa [.pointer (some ⟨kb,0,none⟩)] 103 false):=by rw[eB]; exact T.af _ _ _
 have gkB:hB.bl.get kb=some (aa [.int .i64 (now+x),.slice (some ⟨b,0,none⟩) 1 aD] 169 false):=by rw[eB]; exact (T.ah _ _ (by omega)).trans ((T.ah _ _ (by omega)).trans (T.af _ _ _))
 have fB:∀c,c<h.nx→c≠kb→hB.bl.get c=h.bl.get c:=fun c hc hn=>by rw[eB]; exact (T.ah _ _ (by omega)).trans ((T.ah _ _ (by omega)).trans (T.ah _ _ (fun e=>hn e.symm)))
 have gbB:=(fB b hb.1 (fun e=>hkb' e.symm)).trans gb
 clear eB
 by_cases hd:now+x<t
 ·refine Ii (q:=h.nx) _ ?_ (by omega) gq Ij gkB (by omega) gbB (by omega) hd κ ?_
  ·simp (disch:=decide) only [ct,bB]; rfl
  intro h' le
  exact j7 hd h' (by have:=le.nx; omega) (le.lo.trans lB) (fun c hc hn=>(le.get c (by omega)).trans (fB c hc hn)) ((le.get kb (by omega)).trans gkB)
 ·refine Im (q:=h.nx) _ ?_ (by omega) gq Ij gkB (by omega) gbB (by omega) (by omega) κ ?_
  ·simp (disch:=decide) only [ct,bB]; rfl
  intro h' v' n' l' f' gk' sl'
  exact fQ (by omega) h' v' (by omega) (l'.trans lB) (fun c hc hn=>(f' c (by omega) hn (by omega)).trans (fB c hc hn)) gk' sl'
end
section
variable {h h':Heap} {A:WA} {a:TA} {N:Nat} {d:TD} {R:RD}
theorem WS.Mw (s:WS h A a N d R) (hn:h.nx≤h'.nx) (hl:h'.lo=h.lo) (f:∀c,c<h.nx→c≠A.kb→h'.bl.get c=h.bl.get c) {sQ:Int} {Il:Value} (gk':h'.bl.get A.kb=some (aa [.int .i64 sQ,Il] 169 false)):WS h' A a N d { R with now:=sQ,tv:=Il }∧WK a h h':=by
 have s1:=s.rL sQ Il
 have k1:=WS.j9 s s.r.gk (by simp[jW]) (by decide) (aa [.int .i64 sQ,Il] 169 false)
 have le:Le ⟨h.nx,h.bl.aS A.kb (aa [.int .i64 sQ,Il] 169 false),h.lo⟩ h':=by
  refine ⟨hn,hl,fun c hc=>?_⟩
  by_cases e:c=A.kb
  ·subst e; exact gk'.trans (T.af _ _ _).symm
  ·exact (f c hc e).trans (T.ah _ _ (fun x=>e x.symm)).symm
 exact ⟨s1.le le,k1.trans (s1.Ai le)⟩
end
section
variable {h:Heap} {A:WA} {a:TA} {N:Nat} {d:TD} {R:RD}
theorem Mx (s:WS h A a N d R) {b:Nat} {t w m:Int} (mO:R.tv=.slice (some ⟨b,0,none⟩) 1 aD) (gb:h.bl.get b=some (aa [.int .i64 t,.int .i64 w,.int .i64 m] 214 true)) (hb:b<h.nx∧h.lo≤b) (x:Int) (hx:0≤x∧x≤1000) (jw:0≤R.now∧R.now≤1000000) (hd:R.now+x<t) (κ:KQ)
  (hk:∀h',WS h' A a N d { R with now:=R.now+x }→WK a h h'→κ (.tuple ⟨[.slice none 0 0,.int .i64 0]⟩) h') :
  CallW Tryz.prog 30 [.pointer (some ⟨A.wb,0,none⟩),.int .i64 x] h κ:=by
 have gw:=s.r.gw
 have gk:h.bl.get A.kb=some (aa [.int .i64 R.now,R.tv] 169 false):=s.r.gk
 rw[mO] at gk
 refine aj mixed ?_
 rw[Qp]
 simp(disch:=first|omega|simp only[Wd]<;>omega|with_unfolding_all rfl)only[Wz,er,zF,ax,gw]
 refine Mv gk s.r.Ic gb hb x hx jw _ ?_ (fun hn=>by omega)
 intro _ h1 n1 l1 f1 O3
 have c1:=s.Mw n1 l1 f1 O3
 have hR:({ R with now:=R.now+x,tv:=.slice (some ⟨b,0,none⟩) 1 aD }:RD)={ R with now:=R.now+x }:=by rw[←mO]
 rw[hR] at c1
 simp(disch:=first|omega|simp only[Wd]<;>omega|with_unfolding_all rfl)only[Wz]
 refine ⟨fun n l h2=>slot l 35=.int .i64 0∧slot l 33=.slice none 0 0∧h2=h1,⟨0,rfl,rfl,rfl⟩,?_⟩
 rintro n l h2 ⟨e1,e2,rfl⟩
 simp(disch:=first|omega|simp only[Wd]<;>omega|with_unfolding_all rfl)only[Wz,uo,e1,e2,cg (show (0:Int)≤0 by omega)]
 exact hk h2 c1.1 c1.2
theorem My (s:WS h A a N d R) {i:Nat} {c:CR} (hi:R.cs[i]? = some (some c)) (jZ:c.wt=true) (hout:c.out=0) {b:Nat} {t:Int} (mO:R.tv=.slice (some ⟨b,0,none⟩) 1 aD) (gb:h.bl.get b=some (aa [.int .i64 t,.int .i64 (i:Int),.int .i64 c.no] 214 true)) (hb:b<h.nx∧h.lo≤b) (x:Int) (hx:0≤x∧x≤1000) (jw:0≤R.now∧R.now≤1000000) (hd:t≤R.now+x) {nb:Int} (UG:R.bits[i]? = some nb) (hnb:nb=0∨nb=1) (κ:KQ)
  (hk:∀h' y cap,WS h' A a N d { R with now:=R.now+x,tv:=.slice (some ⟨b,0,none⟩) 0 aD,cs:=R.cs.set i (some { c with cs:=if c.cs=0 then 2 else c.cs }),bits:=R.bits.set i (if nb=1 then 0 else 2) }→WK a h h'→κ (.tuple ⟨[.slice y 1 cap,.int .i64 0]⟩) h') :
  CallW Tryz.prog 30 [.pointer (some ⟨A.wb,0,none⟩),.int .i64 x] h κ:=by
 have gw:=s.r.gw
 have gk:h.bl.get A.kb=some (aa [.int .i64 R.now,R.tv] 169 false):=s.r.gk
 rw[mO] at gk
 refine aj mixed ?_
 rw[Qp]
 simp(disch:=first|omega|simp only[Wd]<;>omega|with_unfolding_all rfl)only[Wz,er,zF,ax,gw]
 refine Mv gk s.r.Ic gb hb x hx jw _ (fun hn=>by omega) ?_
 intro _ h1 v1 n1 l1 f1 O3 sl1
 obtain ⟨s1,k1⟩:=s.Mw n1 l1 f1 O3
 have hlen:∀(β:Type) (fl:β) (h':Heap) (κ:Value→Heap→β),bz fl v1 h' κ=κ (.int .i64 1) h':=fun β fl h' κ=>by
  obtain ⟨xv,cv,ev,_⟩:=(show Sl lP h1 v1 _ from sl1)
  rw[ev]; exact eY _ _ _ _ _
 simp(disch:=first|omega|simp only[Wd]<;>omega|with_unfolding_all rfl)only[Wz,hlen]
 refine ⟨fun n l h2=>(slot l 35=.int .i64 0∧n=1∧slot l 33=.slice none 0 0∧h2=h1)∨(slot l 35=.int .i64 1∧n=0∧(∃y cap,slot l 33=.slice y 1 cap)∧WS h2 A a N d { R with now:=R.now+x,tv:=.slice (some ⟨b,0,none⟩) 0 aD,cs:=R.cs.set i (some { c with cs:=if c.cs=0 then 2 else c.cs }),bits:=R.bits.set i (if nb=1 then 0 else 2) }∧WK a h h2),⟨1,.inl ⟨rfl,rfl,rfl,rfl⟩⟩,?_⟩
 rintro n l h2 (⟨e1,rfl,e2,rfl⟩ | ⟨e1,rfl,⟨y,cap,e2⟩,s2,k2⟩)
 ·obtain ⟨bx,ox,hbx,Gf,hrx,_⟩:=sl1.ld sM 0 (p:=(⟨t,(i:Int),c.no⟩:De)) rfl
  have adK:∀(β:Type) (fl:β) (h':Heap) (κ:Value→Heap→β),av fl 3 v1 (.int .i64 0) h' κ=κ (.pointer (some ⟨bx,ox,none⟩)) h':=fun β fl h' κ=>Gf β fl h' κ
  simp(disch:=first|omega|simp only[Wd]<;>omega|with_unfolding_all rfl)only[Wz,uo,e1,fH (show (0:Int)<1 by omega)]
  refine ⟨fun l' h'=>(∃y cap,slot l' 32=.slice y 1 cap)∧WS h' A a N d { R with now:=R.now+x,tv:=.slice (some ⟨b,0,none⟩) 0 aD,cs:=R.cs.set i (some { c with cs:=if c.cs=0 then 2 else c.cs }),bits:=R.bits.set i (if nb=1 then 0 else 2) }∧WK a h h',?_,?_⟩
  ·simp(disch:=first|omega|simp only[Wd]<;>omega|with_unfolding_all rfl)only[Wz,FP,e1,adK,hrx,lP]
   obtain ⟨hA,aK⟩:∃hA:Heap,hA=⟨h2.nx+1,(h2.bl.aS (h2.nx) (aa [.int .i64 t,.int .i64 (i:Int),.int .i64 c.no] 120 false)),h2.lo⟩:=⟨_,rfl⟩
   have aO:Le h2 hA:=by subst aK; exact ((Le.refl h2).new _)
   have gT:hA.bl.get (h2.nx)=some (aa [.int .i64 t,.int .i64 (i:Int),.int .i64 c.no] 120 false):=by subst aK; exact T.af _ _ _
   have gH:hA.nx=h2.nx+1:=by subst aK; rfl
   have gI:hA.lo=h2.lo:=by subst aK; rfl
   rw[←aK]
   clear aK
   have sA:=s1.le aO
   have kA:=k1.trans (s1.Ai aO)
   refine rM sA hi _ ?_
   have ZO:qp (some c)=true:=by unfold qp; simp[jZ,hout]
   rw[ZO]
   have gwA:=sA.r.gw
   have gcA:=sA.r.gc
   obtain ⟨gcc,_,_⟩:=aY sA hi
   unfold bh at gcc
   have r:(R.cs.map fun o=>cz (o.map (·.ca)))[i]? = some (.pointer (some ⟨c.ca,0,none⟩)):=eu s hi
   have hil:=lQ s hi
   have Y8:=s.r.nn
   simp(disch:=first|omega|simp only[Wd]<;>omega|with_unfolding_all rfl)only[Wz,gT,ax,gwA,aN,gcA,r,Nat.mul_one,gcc,FO]
   refine GF sA hi UG hnb 2 _ ?_
   intro h3 s3 k3
   have n3:=k3.nx
   have l3:=k3.lo
   have gT3:=(k3.ty h2.nx _ _ _ (by omega) gT (by unfold sL; decide) (by unfold jW; decide)).trans gT
   have slo:=s3.lo
   rw[e2]
   simp(disch:=first|omega|simp only[Wd]<;>omega|with_unfolding_all rfl)only[Wz,gT3]
   obtain ⟨hB,cI⟩:∃hB:Heap,hB=⟨h3.nx+1,(h3.bl.aS (h3.nx) (aa [.int .i64 (i:Int)] 3 false)),h3.lo⟩:=⟨_,rfl⟩
   have cw:Le h3 hB:=by subst cI; exact ((Le.refl h3).new _)
   have gB:hB.bl.get (h3.nx)=some (aa [.int .i64 (i:Int)] 3 false):=by subst cI; exact T.af _ _ _
   have Ej:hB.nx=h3.nx+1:=by subst cI; rfl
   have Ek:hB.lo=h3.lo:=by subst cI; rfl
   rw[←cI]
   clear cI
   have hone:Sl cT hB (.slice (some ⟨h3.nx,0,none⟩) 1 1) [(i:Int)]:=Sl.new (L:=[(i:Int)]) (e:=3) (op:=false) (by omega) gB _
   refine mg (enc:=cT) (a:=hB) (L:=[]) (M:=[(i:Int)]) dz p_ (by decide) (by decide) (.inl ⟨rfl,.inl rfl⟩) hone (Le.refl hB) (by simp) (by omega) _ ?_
   intro v4 h4 TN oM _ _
   obtain ⟨xv,cv,ev,_⟩:=(show Sl cT h4 v4 _ from TN.sl)
   have s3B:=s3.le cw
   exact ⟨⟨xv,cv,ev⟩,s3B.le oM,((kA.trans k3).trans (s3.Ai cw)).trans (s3B.Ai oM)⟩
  ·rintro l' h3 ⟨⟨y,cap,ey⟩,s3,k3⟩
   exact ⟨0,by omega,.inr ⟨rfl,rfl,⟨y,cap,ey⟩,s3,k3⟩⟩
 ·simp(disch:=first|omega|simp only[Wd]<;>omega|with_unfolding_all rfl)only[Wz,uo,e1,e2,cg (show (1:Int)≤1 by omega)]
  exact hk h2 y cap s2 k2
end
section
variable {h:Heap} {A:WA} {a:TA} {N:Nat} {d:TD} {R:RD} {H X:Int→Int→Int}
end
section
variable {h:Heap} {A:WA} {a:TA} {N:Nat} {d:TD} {R:RD} {H X:Int→Int→Int}
end
section
variable {a0 h:Heap} {c:dg} {aH:Nat} {B:List Bool} {rt rp rl:Nat} {vr:Value} {R:List RB}
end
section
variable {a0 h:Heap} {tb bw bp bl:Nat} {c:dg} {vb:Value} {aH N:Nat} {Ts:List TB} {W:List IE} {wc:Nat} {F:List Int} {B:List Bool} {rt rp rl:Nat} {vr:Value} {R:List RB}
end
def EO (T:List Int) (x:Int) (i:Nat):List Int:=T.take i++x::T.drop i
section
variable {a0 h:Heap} {c:dg} {aH:Nat} {B:List Bool} {rt rp rl:Nat} {vr:Value} {R:List RB}
end
section
variable {a0 h:Heap} {rt rp rl:Nat} {c:dg} {vr:Value} {aH:Nat} {R:List RB} {B:List Bool} {H:Int→Int→Int}
end
section
variable {a0 h:Heap} {rt rp rl:Nat} {c:dg} {vr:Value} {aH:Nat} {R:List RB} {B:List Bool} {H:Int→Int→Int}
end
section
variable {a0 h:Heap} {rt rp rl:Nat} {c:dg} {vr:Value} {aH:Nat} {R:List RB} {B:List Bool} {H:Int→Int→Int}
end
section
variable {a0 h:Heap} {rt rp rl:Nat} {c:dg} {vr:Value} {aH:Nat} {R:List RB} {B:List Bool} {H:Int→Int→Int}
end
section
variable {a0 h:Heap} {rt rp rl:Nat} {c:dg} {vr:Value} {aH:Nat} {R:List RB} {B:List Bool} {H:Int→Int→Int}
end
theorem Mz {α:Type} (L:List α):(L.map fun _=>1).sum=L.length:=by
 induction L with
 | nil=>rfl
 | cons x L ih=>rw[List.map_cons,List.sum_cons,ih,List.length_cons]; omega
section
variable {h:Heap} {a:TA} {N:Nat} {d:TD} {c:dg} {R:List RB} {B:List Bool} {H X:Int→Int→Int}
theorem Iu (s:tW h a N d) (L:Lone d.Ts H X):(iU d.B).length=(d.Ts.map fun b=>b.M.length).sum:=by
 have:=s.ids.length_eq
 rw[←this,List.length_flatMap]
 congr 1
 refine List.map_congr_left fun b hb=>?_
 unfold ez
 rw[List.length_flatMap]
 have:b.M.map (fun e=>(e.Q.map (·.id)).length)=b.M.map fun _=>1:=List.map_congr_left fun e he=>by
  obtain ⟨id,hQ,_⟩:=L.one b hb e he
  rw[hQ]; rfl
 rw[this,Mz]
end
section
variable {h h':Heap} {a:TA} {N:Nat} {d:TD} {c:dg} {R:List RB} {B:List Bool} {H:Int→Int→Int}
end
section
variable {h:Heap} {A:WA} {a:TA} {N:Nat} {d:TD} {Rd:RD} {c:dg} {R:List RB} {B:List Bool} {H X:Int→Int→Int}
theorem UL (s:WS h A a N d Rd) (κ:KQ) (hk:∀v h' D K,Gt h' d.Ts v D K→Le h h'→κ v h'):CallW Tryz.prog 23 [.pointer (some ⟨A.wb,0,none⟩)] h κ:=by
 have gw:=s.r.gw
 refine aj mixed ?_
 rw[Wm]
 simp(disch:=first|omega|simp only[Wd]<;>omega|with_unfolding_all rfl)only[Wz,er,ax,gw]
 refine Uo s.t s.lo _ ?_
 intro v h' D K t le
 exact hk v h' D K t le
end
section
variable {h:Heap} {A:WA} {a:TA} {N:Nat} {d:TD} {R:RD} {H X:Int→Int→Int}
end
section
variable {h:Heap} {A:WA} {a:TA} {N:Nat} {d:TD} {R:RD}
theorem Iv (s:WS h A a N d R) {i:Nat} {c:CR} (hi:R.cs[i]? = some (some c)) (hw:qp (some c)=true) {nb:Int} (hb:R.bits[i]? = some nb) (hnb:nb=0∨nb=1) (κ:KQ)
  (hk:∀h',WS h' A a N d { R with cs:=R.cs.set i (some { c with cs:=if c.cs=0 then 3 else c.cs }),bits:=R.bits.set i (if nb=1 then 0 else 2) }→WK a h h'→κ (.bool true) h') :
  CallW Tryz.prog 33 [.pointer (some ⟨A.wb,0,none⟩),.int .i64 (i:Int)] h κ:=by
 refine aj mixed ?_
 rw[Qr]
 refine rM s hi _ ?_
 rw[hw]
 refine ⟨fun l' h'=>WS h' A a N d { R with cs:=R.cs.set i (some { c with cs:=if c.cs=0 then 3 else c.cs }),bits:=R.bits.set i (if nb=1 then 0 else 2) }∧WK a h h',?_,fun l' h' q=>hk h' q.1 q.2⟩
 simp(disch:=first|omega|simp only[Wd]<;>omega|with_unfolding_all rfl)only[Wz]
 exact GF s hi hb hnb 3 _ fun h' s' k'=>⟨s',k'⟩
theorem EY (s:WS h A a N d R) {i:Nat} (hi:R.cs[i]? = some none) (κ:KQ) (hk:κ (.bool false) h) :
  CallW Tryz.prog 33 [.pointer (some ⟨A.wb,0,none⟩),.int .i64 (i:Int)] h κ:=by
 refine aj mixed ?_
 rw[Qr]
 refine rM s hi _ ?_
 refine ⟨fun l' h'=>h'=h,?_,fun l' h' q=>q▸hk⟩
 simp(disch:=first|omega|simp only[Wd]<;>omega|with_unfolding_all rfl)only[Wz,qp]
theorem Py (s:WS h A a N d R) {i k:Nat} {c:CR} {w i1 m1:Int} (o:cU d.Ts c.a.t c.a.r w [fV i1 m1]) (mH:m1≠0) (hN:N≤1000) (hi:R.cs[i]? = some (some c)) (Vw:i<8) (kX:c.ph=1) (oG:c.th=(i:Int)) (mM:R.bits[i]? = some 0) (jZ:c.wt=false) (fQ:c.a.k=1) (hst:bT c.a.t c.a.r a.c.S=(k:Int)) (hsk:c.st=(k:Int)) (hl:R.bI[k]? = some none) (hx:c.a.x=2) (km:kn c.a.m=true) (hm:c.a.m≠0) (hF:d.F≠[]) (jw:R.now=0) (mO:R.tv=.slice none 0 0) (hW:1≤c.a.w∧c.a.w≤200) (hc:cmp m1 c.a.m=true) (κ:KQ)
  (hk:∀h' d' R' n,WS h' A a (N+1) d' R'→cU d'.Ts c.a.t c.a.r w [fV i1 m1,xh n m1 c.a.m (w+1)]→κ (.tuple ⟨[.bool true,.int .i64 1,.int .i64 0]⟩) h') :
  CallW Tryz.prog 17 [.pointer (some ⟨A.wb,0,none⟩),.int .i64 (i:Int),.int .i64 3] h κ:=by
 have hil:=(List.getElem?_eq_some_iff.1 hi).1
 refine Al (n:=3) (D:=true) (C:=1) (by decide) (fun j h1=>(j=0∧h1=h)∨(j=1∧∃p,WS h1 A a N d { R with bI:=R.bI.set k (some (p,c.th)),cs:=R.cs.set i (some { c with ph:=2 }) })∨
  (j=2∧∃p d' n,WS h1 A a (N+1) d' { R with bI:=R.bI.set k (some (p,c.th)),cs:=R.cs.set i (some { c with ph:=3,out:=1 }) }∧cU d'.Ts c.a.t c.a.r w [fV i1 m1,xh n m1 c.a.m (w+1)])∨
  (j=3∧∃d' R' n,WS h1 A a (N+1) d' R'∧cU d'.Ts c.a.t c.a.r w [fV i1 m1,xh n m1 c.a.m (w+1)])) κ (.inl ⟨rfl,rfl⟩) ?_ ?_
 ·rintro j hj h1 (⟨rfl,rfl⟩ | ⟨rfl,p,s1⟩ | ⟨rfl,p,d1,n,s1,o1⟩ | ⟨rfl,_⟩) κ' hκ
  ·refine iW s hi kX mM hsk (by omega) hl _ ?_
   intro h' s' _
   exact hκ false 0 h' (.inr (.inl ⟨rfl,_,s'⟩)) (by omega)
  ·refine tG s1 (c:={ c with ph:=2 }) o mH hN (bC hi) rfl mM jZ fQ hst hsk (bC hl) hx km hm hF jw mO hW _ ?_ ?_
   ·intro _ h' d' n s' o' _
    simp only[List.set_set] at s'
    exact hκ false 0 h' (.inr (.inr (.inl ⟨rfl,p,d',n,s',o'⟩))) (by omega)
   ·intro hf
    have hf:cmp m1 c.a.m=false:=hf
    rw[hc] at hf; cases hf
  ·refine mD s1 (c:={ c with ph:=3,out:=1 }) (bC hi) rfl mM hsk oG (show (1:Int)≠0 by decide) (bC hl) _ ?_
   intro h' s' _
   exact hκ true 1 h' (.inr (.inr (.inr ⟨rfl,d1,_,n,s',o1⟩))) fun _=>⟨rfl,rfl⟩
  ·omega
 ·rintro h1 (⟨e,_⟩ | ⟨e,_⟩ | ⟨e,_⟩ | ⟨_,d1,R1,n,s1,o1⟩)
  ·omega
  ·omega
  ·omega
  ·exact hk h1 d1 R1 n s1 o1
theorem Pz (s:WS h A a N d R) {i k:Nat} {c:CR} {w i1 m1:Int} (o:cU d.Ts c.a.t c.a.r w [fV i1 m1]) (mH:m1≠0) (hN:N≤1000) (hi:R.cs[i]? = some (some c)) (Vw:i<8) (kX:c.ph=1) (oG:c.th=(i:Int)) (hout:c.out=0) (mM:R.bits[i]? = some 0) (jZ:c.wt=false) (fQ:c.a.k=1) (hst:bT c.a.t c.a.r a.c.S=(k:Int)) (hsk:c.st=(k:Int)) (hl:R.bI[k]? = some none) (hx:c.a.x=2) (km:kn c.a.m=true) (hm:c.a.m≠0) (hF:d.F≠[]) (jw:R.now=0) (mO:R.tv=.slice none 0 0) (hW:1≤c.a.w∧c.a.w≤200) (hc:cmp m1 c.a.m=false) (κ:KQ)
  (hk:∀h' d' (n b:Nat) kN dO,WS h' A a (N+1) d' { R with bI:=R.bI.set k none,bits:=R.bits.set i 1,cs:=R.cs.set i (some { c with ph:=1,wt:=true,id:=(n:Int) }),tv:=.slice (some ⟨b,0,none⟩) 1 aD,wm:=kN,kW:=dO }→cU d'.Ts c.a.t c.a.r (w+1) [fV i1 m1,⟨n,2,0,c.a.m,w+1⟩]→i1≠(n:Int)→b<h'.nx→h'.lo≤b→h'.bl.get b=some (aa [.int .i64 c.a.w,.int .i64 (i:Int),.int .i64 c.no] 214 true)→κ (.tuple ⟨[.bool false,.int .i64 0,.int .i64 0]⟩) h') :
  CallW Tryz.prog 17 [.pointer (some ⟨A.wb,0,none⟩),.int .i64 (i:Int),.int .i64 4] h κ:=by
 have hil:=(List.getElem?_eq_some_iff.1 hi).1
 have hlo:=s.lo
 have hq:∀n:Nat,xh n m1 c.a.m (w+1)=⟨n,2,0,c.a.m,w+1⟩:=fun n=>by unfold xh; rw[hc,if_neg (by decide)]
 refine Al (n:=4) (D:=false) (C:=0) (by decide) (fun j h1=>(j=0∧h1=h)∨(j=1∧WK a h h1∧∃p,WS h1 A a N d { R with bI:=R.bI.set k (some (p,c.th)),cs:=R.cs.set i (some { c with ph:=2 }) })∨
  (∃(d':TD) (n b dO:Nat) (kN:List IE),cU d'.Ts c.a.t c.a.r (w+1) [fV i1 m1,⟨n,2,0,c.a.m,w+1⟩]∧i1≠(n:Int)∧b<h1.nx∧h1.lo≤b∧h1.bl.get b=some (aa [.int .i64 c.a.w,.int .i64 (i:Int),.int .i64 c.no] 214 true)∧
   ((j=2∧∃p,WS h1 A a (N+1) d' { R with bI:=R.bI.set k (some (p,c.th)),cs:=R.cs.set i (some { c with ph:=3,wt:=true,id:=(n:Int) }),tv:=.slice (some ⟨b,0,none⟩) 1 aD,wm:=kN,kW:=dO })∨
    (j=3∧WS h1 A a (N+1) d' { R with bI:=R.bI.set k none,cs:=R.cs.set i (some { c with ph:=5,wt:=true,id:=(n:Int) }),tv:=.slice (some ⟨b,0,none⟩) 1 aD,wm:=kN,kW:=dO })∨
    (j=4∧WS h1 A a (N+1) d' { R with bI:=R.bI.set k none,bits:=R.bits.set i 1,cs:=R.cs.set i (some { c with ph:=1,wt:=true,id:=(n:Int) }),tv:=.slice (some ⟨b,0,none⟩) 1 aD,wm:=kN,kW:=dO })))) κ (.inl ⟨rfl,rfl⟩) ?_ ?_
 ·rintro j hj h1 (⟨rfl,rfl⟩ | ⟨rfl,k1,p,s1⟩ | ⟨d1,n,b,dO,kN,o1,hne,b1,b2,gb,⟨rfl,p,s1⟩ | ⟨rfl,s1⟩ | ⟨rfl,s1⟩⟩) κ' hκ
  ·refine iW s hi kX mM hsk (by omega) hl _ ?_
   intro h' s' k'
   exact hκ false 0 h' (.inr (.inl ⟨rfl,k',_,s'⟩)) (by omega)
  ·refine tG s1 (c:={ c with ph:=2 }) o mH hN (bC hi) rfl mM jZ fQ hst hsk (bC hl) hx km hm hF jw mO hW _ ?_ ?_
   ·intro hf
    have hf:cmp m1 c.a.m=true:=hf
    rw[hc] at hf; cases hf
   ·intro _ h' d' n b kN dO s' o' hne b1 b2 g k'
    simp only[List.set_set] at s'
    have o'':cU d'.Ts c.a.t c.a.r (w+1) [fV i1 m1,xh n m1 c.a.m (w+1)]:=o'
    rw[hq n] at o''
    have g':h'.bl.get b=some (aa [.int .i64 c.a.w,.int .i64 c.th,.int .i64 c.no] 214 true):=g
    rw[oG] at g'
    have l1:=s1.lo
    have l2:=k'.lo
    exact hκ false 0 h' (.inr (.inr ⟨d',n,b,dO,kN,o'',hne,b2,by omega,g',.inl ⟨rfl,p,s'⟩⟩)) (by omega)
  ·refine Ds s1 (c:={ c with ph:=3,wt:=true,id:=(n:Int) }) (bC hi) rfl mM hsk oG hout (bC hl) _ ?_
   intro h' s' k'
   simp only[List.set_set] at s'
   exact hκ false 0 h' (.inr (.inr ⟨d1,n,b,dO,kN,o1,hne,Nat.lt_of_lt_of_le b1 k'.nx,by rw[k'.lo]; exact b2,(k'.ty b _ _ _ b1 gb (by unfold sL; decide) (by unfold jW; decide)).trans gb,.inr (.inl ⟨rfl,s'⟩)⟩)) (by omega)
  ·refine EX s1 (c:={ c with ph:=5,wt:=true,id:=(n:Int) }) (bC hi) rfl mM hsk oG hout (bC hl) _ ?_
   intro h' s' k'
   simp only[List.set_set] at s'
   exact hκ false 0 h' (.inr (.inr ⟨d1,n,b,dO,kN,o1,hne,Nat.lt_of_lt_of_le b1 k'.nx,by rw[k'.lo]; exact b2,(k'.ty b _ _ _ b1 gb (by unfold sL; decide) (by unfold jW; decide)).trans gb,.inr (.inr ⟨rfl,s'⟩)⟩)) (fun _=>⟨rfl,rfl⟩)
  ·omega
 ·rintro h1 (⟨e,_⟩ | ⟨e,_⟩ | ⟨d1,n,b,dO,kN,o1,hne,b1,b2,gb,⟨e,_⟩ | ⟨e,_⟩ | ⟨_,s1⟩⟩)
  ·omega
  ·omega
  ·omega
  ·omega
  ·exact hk h1 d1 n b kN dO s1 o1 hne b1 b2 gb
theorem PA (s:WS h A a N d R) {i k:Nat} {c:CR} {w i1 m1 m w':Int} {n:Nat} (o:cU d.Ts c.a.t c.a.r w [fV i1 m1,⟨n,2,0,m,w'⟩]) (mH:m1≠0) (hne:i1≠(n:Int)) (hw:0<w') (hi:R.cs[i]? = some (some c)) (Vw:i<8) (kX:c.ph=1) (oG:c.th=(i:Int)) {nb:Int} (mM:R.bits[i]? = some nb) (hz:ql nb 1=0) (jZ:c.wt=true) (hst:bT c.a.t c.a.r a.c.S=(k:Int)) (hsk:c.st=(k:Int)) (hl:R.bI[k]? = some none) (hx:c.a.x=2) (hid:c.id=(n:Int)) (hcs:c.cs≠0) {x:Option Addr} {cc:Nat} (mO:R.tv=.slice x 0 cc) (κ:KQ)
  (hk:∀h' d' mN,WS h' A a (N+1) d' { R with bI:=mN,cs:=R.cs.set i none }→cU d'.Ts c.a.t c.a.r w [fV i1 m1]→κ (.tuple ⟨[.bool true,.int .i64 c.cs,.int .i64 0]⟩) h') :
  CallW Tryz.prog 17 [.pointer (some ⟨A.wb,0,none⟩),.int .i64 (i:Int),.int .i64 3] h κ:=by
 refine Al (n:=3) (D:=true) (C:=c.cs) (by decide) (fun j h1=>(j=0∧h1=h)∨(j=1∧∃p,WS h1 A a N d { R with bI:=R.bI.set k (some (p,c.th)),cs:=R.cs.set i (some { c with ph:=2 }) })∨
  (j=2∧∃p d',WS h1 A a (N+1) d' { R with bI:=R.bI.set k (some (p,c.th)),cs:=R.cs.set i (some { c with ph:=3,out:=c.cs }) }∧cU d'.Ts c.a.t c.a.r w [fV i1 m1])∨
  (j=3∧∃d' mN,WS h1 A a (N+1) d' { R with bI:=mN,cs:=R.cs.set i none }∧cU d'.Ts c.a.t c.a.r w [fV i1 m1])) κ (.inl ⟨rfl,rfl⟩) ?_ ?_
 ·rintro j hj h1 (⟨rfl,rfl⟩ | ⟨rfl,p,s1⟩ | ⟨rfl,p,d1,s1,o1⟩ | ⟨rfl,_⟩) κ' hκ
  ·refine iW s hi kX mM hsk (by omega) hl _ ?_ hz
   intro h' s' _
   exact hκ false 0 h' (.inr (.inl ⟨rfl,_,s'⟩)) (by omega)
  ·refine Dv s1 (c:={ c with ph:=2 }) o mH hne hw (bC hi) rfl mM hz jZ hst hsk (bC hl) hx hid hcs mO _ ?_
   intro h' d' s' o' _
   simp only[List.set_set] at s'
   exact hκ false 0 h' (.inr (.inr (.inl ⟨rfl,p,d',s',o'⟩))) (by omega)
  ·refine mD s1 (c:={ c with ph:=3,out:=c.cs }) (bC hi) rfl mM hsk oG hcs (bC hl) _ ?_ hz
   intro h' s' _
   simp only[List.set_set] at s'
   exact hκ true c.cs h' (.inr (.inr (.inr ⟨rfl,d1,_,s',o1⟩))) fun _=>⟨rfl,rfl⟩
  ·omega
 ·rintro h1 (⟨e,_⟩ | ⟨e,_⟩ | ⟨e,_⟩ | ⟨_,d1,mN,s1,o1⟩)
  ·omega
  ·omega
  ·omega
  ·exact hk h1 d1 mN s1 o1
end
theorem MA (n:Int) {m:Int} (hm:1≤m):0≤jj n m∧jj n m<m:=by
 have h2:=Int.tmod_lt_of_pos n (show 0<m by omega)
 have h3:=Int.lt_tmod_of_pos n (show 0<m by omega)
 unfold jj
 rw[if_neg (by omega)]
 split<;>omega
theorem GG (n:Int) {h:Heap} {κ:Value→Heap→Prop} (hk:κ (.int .i64 (1+jj n 6)) h):CallW Tryz.prog 26 [.int .i64 n] h κ:=by
 have:=MA n (show (1:Int)≤6 by decide)
 refine aj mixed ?_
 rw[Wn]
 refine Lu n 6 (by decide) ?_
 simp(disch:=first|omega|simp only[Wd]<;>omega|with_unfolding_all rfl)only[Wz]
 exact hk
section
variable {h:Heap} {A:WA} {a:TA} {N:Nat} {d:TD} {R:RD} {H X:Int→Int→Int}
theorem Lone.adL (s:tW h a N d) {t r m:Int} (L:Lone d.Ts (gu (fun _ _=>0) t r m) (fun _ _=>1)) (hm:m≠0):∃w i1,cU d.Ts t r w [fV i1 m]:=by
 obtain ⟨b0,hb0,e0,tU,t0,r0⟩:=L.all t r (by rw[oE]; exact hm)
 obtain ⟨id,hQ,_⟩:=L.one b0 hb0 e0 tU
 refine ⟨e0.w,id,fun b hb e he=>?_,fun _=>⟨b0,hb0,e0,tU⟩⟩
 obtain ⟨id',hQ',hn⟩:=L.one b hb e he
 have hnm:e.t=t∧e.r=r:=Classical.byContradiction fun hx=>hn (mC _ hx)
 have:=s.uniq hb hb0 he tU (hnm.1.trans t0.symm) (hnm.2.trans r0.symm)
 subst this
 refine ⟨t0,r0,?_,rfl⟩
 rw[hQ,t0,r0,oE]; rfl
theorem UM (s:tW h a N d) (L:Lone d.Ts H X) (hc:a.c=sR) (hh:a.aH=8):d.F≠[]:=by
 have h1:=Iu s L
 have h2:=jT s.is.ck.ok
 have h3:=s.cR
 have h4:=s.is.cS
 rw[hc] at h3 h4
 have e1:sR.R=24:=rfl
 have e2:sR.S=2:=rfl
 have:∀T:List TB,(∀b∈T,b.M.length≤8)→(T.map fun b=>b.M.length).sum≤8*T.length:=by
  intro T
  induction T with
  | nil=>intro _; simp
  | cons b T ih=>
   intro hT
   have h1:=ih fun x hx=>hT x (.tail _ hx)
   have h2:=hT b (.head _)
   rw[List.map_cons,List.sum_cons,List.length_cons]
   omega
 have h5:=this d.Ts fun b hb=>by have:=s.len b hb; omega
 intro e
 rw[e] at h2
 simp only[List.length_nil] at h2
 omega
theorem UN (s:WS h A a N d R) (L:Lone d.Ts H X) (hN:N≤1000) {i k:Nat} {c:CR} (hi:R.cs[i]? = some (some c)) (Vw:i<8) (kX:c.ph=1) (oG:c.th=(i:Int)) (mM:R.bits[i]? = some 0) (jZ:c.wt=false) {b:TB} (hb:d.Ts[k]? = some b) (hst:bT c.a.t c.a.r a.c.S=(k:Int)) (hsk:c.st=(k:Int)) (hl:R.bI[k]? = some none) (hx:c.a.x=X c.a.t c.a.r) (hx0:0≤c.a.x) (hm:rG c.a=true) (h3:c.a.k≠3) (hF:d.F≠[]) (hh:b.M.length<a.aH) (κ:KQ)
  (hk:∀h' d',WS h' A a (N+1) d' { R with bI:=R.bI.set k none,cs:=R.cs.set i none }→Lone d'.Ts (qk H c.a) X→WK a h h'→κ (.tuple ⟨[.bool true,.int .i64 (jd H c.a),.int .i64 0]⟩) h') :
  CallW Tryz.prog 17 [.pointer (some ⟨A.wb,0,none⟩),.int .i64 (i:Int),.int .i64 3] h κ:=by
 refine Al (n:=3) (D:=true) (C:=jd H c.a) (by decide) (fun j h1=>(j=0∧h1=h)∨(j=1∧WK a h h1∧∃p,WS h1 A a N d { R with bI:=R.bI.set k (some (p,c.th)),cs:=R.cs.set i (some { c with ph:=2 }) })∨
  (j=2∧WK a h h1∧∃p d',WS h1 A a (N+1) d' { R with bI:=R.bI.set k (some (p,c.th)),cs:=R.cs.set i (some { c with ph:=3,out:=jd H c.a }) }∧Lone d'.Ts (qk H c.a) X)∨
  (j=3∧WK a h h1∧∃d',WS h1 A a (N+1) d' { R with bI:=R.bI.set k none,cs:=R.cs.set i none }∧Lone d'.Ts (qk H c.a) X)) κ (.inl ⟨rfl,rfl⟩) ?_ ?_
 ·rintro j hj h1 (⟨rfl,rfl⟩ | ⟨rfl,k1,p,s1⟩ | ⟨rfl,k1,p,d1,s1,o1⟩ | ⟨rfl,_⟩) κ' hκ
  ·refine iW s hi kX mM hsk (by omega) hl _ ?_
   intro h' s' k'
   exact hκ false 0 h' (.inr (.inl ⟨rfl,k',_,s'⟩)) (by omega)
  ·refine w5 s1 L hN (c:={ c with ph:=2 }) (bC hi) rfl mM jZ hb hst hsk (bC hl) hx hx0 hm h3 (fun _ _=>hF) (fun _ _=>hh) _ ?_
   intro h' d' s' L' _ k'
   simp only[List.set_set] at s'
   exact hκ false 0 h' (.inr (.inr (.inl ⟨rfl,k1.trans k',p,d',s',L'⟩))) (by omega)
  ·refine mD s1 (c:={ c with ph:=3,out:=jd H c.a }) (bC hi) rfl mM hsk oG (Gz _ _) (bC hl) _ ?_
   intro h' s' k'
   simp only[List.set_set] at s'
   exact hκ true _ h' (.inr (.inr (.inr ⟨rfl,k1.trans k',d1,s',o1⟩))) fun _=>⟨rfl,rfl⟩
  ·omega
 ·rintro h1 (⟨e,_⟩ | ⟨e,_⟩ | ⟨e,_⟩ | ⟨_,k1,d1,s1,o1⟩)
  ·omega
  ·omega
  ·omega
  ·exact hk h1 d1 s1 o1 k1
theorem GH (s:WS h A a N d R) {t r w:Int} {Q:List R5} (o:cU d.Ts t r w Q) (κ:KQ) (hk:∀y cap h',Le h h'→κ (.slice y (jl t r Q).length cap) h'):CallW Tryz.prog 23 [.pointer (some ⟨A.wb,0,none⟩)] h κ:=by
 refine UL s _ ?_
 intro v h' D K tt le
 obtain ⟨y,cap,ev,_⟩:=(show Sl jv h' v D from tt.sl)
 have:=(o.sum s.t tt).length_eq
 rw[ev,this]
 exact hk y cap h' le
end
section
variable {h:Heap} {A:WA} {a:TA} {N:Nat} {d:TD} {R:RD}
theorem Y4 {i1 m1 n m w:Int} {t r:Int} (h1:m1≠0) (hm:m≠0) (hc:cmp m1 m=true):(jl t r [fV i1 m1,xh n m1 m w]).length=2:=by
 unfold jl fV xh
 rw[hc,if_pos rfl]
 simp[h1,hm]
theorem Y5 {i1 m1:Int} {t r:Int} (h1:m1≠0):(jl t r [fV i1 m1]).length=1:=by
 unfold jl fV
 simp[h1]
theorem UO (s:WS h A a N d R) {k:Nat} {c:CR} {w i1 m1:Int} (o:cU d.Ts c.a.t c.a.r w [fV i1 m1]) (mH:m1≠0) (hN:N≤1000) (hi:R.cs[1]? = some (some c)) (kX:c.ph=1) (oG:c.th=((1:Nat):Int)) (mM:R.bits[1]? = some 0) (jZ:c.wt=false) (fQ:c.a.k=1) (hst:bT c.a.t c.a.r a.c.S=(k:Int)) (hsk:c.st=(k:Int)) (hl:R.bI[k]? = some none) (hx:c.a.x=2) (km:kn c.a.m=true) (hm:c.a.m≠0) (hF:d.F≠[]) (jw:R.now=0) (mO:R.tv=.slice none 0 0) (hW:1≤c.a.w∧c.a.w≤200) (hc:cmp m1 c.a.m=true) (κ:KQ) (hk:∀h,κ (.bool true) h) :
  Ef (.pointer (some ⟨A.wb,0,none⟩)) h κ:=by
 unfold Ef
 refine Py s o mH hN hi (by decide) kX oG mM jZ fQ hst hsk hl hx km hm hF jw mO hW hc _ ?_
 intro h' d' R' n s' o'
 simp(disch:=first|omega|simp only[Wd]<;>omega|with_unfolding_all rfl)only[Wz]
 refine GH s' o' _ ?_
 rw[Y4 mH hm hc]
 intro y cap h2 bF
 simp(disch:=first|omega|simp only[Wd]<;>omega|with_unfolding_all rfl)only[Wz]
 exact hk _
theorem UP (s:WS h A a N d R) {k:Nat} {c:CR} {w i1 m1 m w':Int} {n:Nat} (o:cU d.Ts c.a.t c.a.r w [fV i1 m1,⟨n,2,0,m,w'⟩]) (mH:m1≠0) (hne:i1≠(n:Int)) (hw:0<w') (hi:R.cs[1]? = some (some c)) (kX:c.ph=1) (oG:c.th=((1:Nat):Int)) {nb:Int} (mM:R.bits[1]? = some nb) (hz:ql nb 1=0) (jZ:c.wt=true) (hst:bT c.a.t c.a.r a.c.S=(k:Int)) (hsk:c.st=(k:Int)) (hl:R.bI[k]? = some none) (hx:c.a.x=2) (hid:c.id=(n:Int)) (hcs:c.cs≠0) {x:Option Addr} {cc:Nat} (mO:R.tv=.slice x 0 cc) (Iz:List Value) (hs:slot Iz 1=.int .i64 c.cs) (κ:KQ) (hk:∀h,κ (.bool true) h) :
  Eb (.pointer (some ⟨A.wb,0,none⟩)) Iz h κ:=by
 have E7:decide (c.cs=c.cs)=true:=bf rfl
 unfold Eb
 refine PA s o mH hne hw hi (by decide) kX oG mM hz jZ hst hsk hl hx hid hcs mO _ ?_
 intro h' d' mN s' o'
 simp(disch:=first|omega|simp only[Wd]<;>omega|with_unfolding_all rfl)only[Wz]
 refine Is s' mO _ ?_
 intro v1 v2
 simp(disch:=first|omega|simp only[Wd]<;>omega|with_unfolding_all rfl)only[Wz,hs,E7]
 refine GH s' o' _ ?_
 rw[Y5 mH]
 intro y cap h2 bF
 simp(disch:=first|omega|simp only[Wd]<;>omega|with_unfolding_all rfl)only[Wz]
 refine EY (s'.le bF) (bC hi) _ ?_
 simp(disch:=first|omega|simp only[Wd]<;>omega|with_unfolding_all rfl)only[Wz]
 exact hk _
end
section
variable {h:Heap} {A:WA} {a:TA} {N:Nat} {d:TD} {R:RD}
theorem UQ (s:WS h A a N d R) {k:Nat} {c:CR} {w i1 m1 m w':Int} {n:Nat} (o:cU d.Ts c.a.t c.a.r w [fV i1 m1,⟨n,2,0,m,w'⟩]) (mH:m1≠0) (hne:i1≠(n:Int)) (hw:0<w') (hi:R.cs[1]? = some (some c)) (kX:c.ph=1) (oG:c.th=((1:Nat):Int)) (hout:c.out=0) {nb:Int} (mM:R.bits[1]? = some nb) (hnb:nb=0∨nb=1) (jZ:c.wt=true) (hst:bT c.a.t c.a.r a.c.S=(k:Int)) (hsk:c.st=(k:Int)) (hl:R.bI[k]? = some none) (hx:c.a.x=2) (hid:c.id=(n:Int)) {b:Nat} {t:Int} (mO:R.tv=.slice (some ⟨b,0,none⟩) 1 aD) (gb:h.bl.get b=some (aa [.int .i64 t,.int .i64 ((1:Nat):Int),.int .i64 c.no] 214 true)) (hb:b<h.nx∧h.lo≤b) (ht:1≤t∧t≤200) (jw:R.now=t-1) (bc:Bool) (Iz:List Value) (hs:slot Iz 1=.int .i64 (if c.cs=0 then 2 else c.cs)) (κ:KQ) (hk:∀h,κ (.bool true) h) :
  Ed (.pointer (some ⟨A.wb,0,none⟩)) (.bool bc) Iz h κ:=by
 unfold Ed
 refine My s hi jZ hout mO gb hb 1 (by omega) (by omega) (by omega) mM hnb _ ?_
 intro h1 y cap s1 k1
 have hz:ql (if nb=1 then 0 else 2) 1=0:=by split<;>decide
 have KS:=(List.getElem?_eq_some_iff.1 mM).1
 have hb1:(R.bits.set 1 (if nb=1 then 0 else 2))[1]? = some (if nb=1 then 0 else 2):=by rw[List.getElem?_set,if_pos rfl,if_pos KS]
 simp(disch:=first|omega|simp only[Wd]<;>omega|with_unfolding_all rfl)only[Wz,bf (show ((1:Nat):Int)=1 by decide)]
 refine kO s1 (bC hi) hb1 hsk hl _ ?_ hz
 have e1:(!decide ((({ c with cs:=if c.cs=0 then 2 else c.cs }:CR).ph:Int)=1) || !(none:Option (Nat × Int)).isSome)=true:=by simp
 rw[e1]
 simp(disch:=first|omega|simp only[Wd]<;>omega|with_unfolding_all rfl)only[Wz]
 refine UP s1 (c:={ c with cs:=if c.cs=0 then 2 else c.cs }) o mH hne hw (bC hi) kX oG hb1 hz jZ hst hsk hl hx hid ?_ rfl Iz hs κ hk
 show (if c.cs=0 then 2 else c.cs)≠0
 split
 ·decide
 ·assumption
theorem UR (s:WS h A a N d R) {k:Nat} {c:CR} {w i1 m1:Int} (o:cU d.Ts c.a.t c.a.r w [fV i1 m1]) (w0:0≤w) (mH:m1≠0) (hN:N≤1000) (hi:R.cs[1]? = some (some c)) (kX:c.ph=1) (oG:c.th=((1:Nat):Int)) (hout:c.out=0) (hcs:c.cs=0) (mM:R.bits[1]? = some 0) (jZ:c.wt=false) (fQ:c.a.k=1) (hst:bT c.a.t c.a.r a.c.S=(k:Int)) (hsk:c.st=(k:Int)) (hl:R.bI[k]? = some none) (hx:c.a.x=2) (km:kn c.a.m=true) (hm:c.a.m≠0) (hF:d.F≠[]) (jw:R.now=0) (mO:R.tv=.slice none 0 0) (hW:1≤c.a.w∧c.a.w≤200) (hc:cmp m1 c.a.m=false) (bc:Bool) (κ:KQ) (hk:∀h,κ (.bool true) h) :
  Eg (.pointer (some ⟨A.wb,0,none⟩)) (.int .i64 c.a.w) (.bool bc) h κ:=by
 unfold Eg
 refine Pz s o mH hN hi (by decide) kX oG hout mM jZ fQ hst hsk hl hx km hm hF jw mO hW hc _ ?_
 intro h1 d1 n b kN dO s1 o1 hne b1 b2 gb
 simp(disch:=first|omega|simp only[Wd]<;>omega|with_unfolding_all rfl)only[Wz]
 refine Mx s1 (t:=c.a.w) rfl gb ⟨b1,b2⟩ (c.a.w-1) (by omega) (by show 0≤R.now∧R.now≤1000000; omega) (by show R.now+(c.a.w-1)<c.a.w; omega) _ ?_
 intro h2 s2 k2
 have gb2:=(k2.ty b _ _ _ b1 gb (by unfold sL; decide) (by unfold jW; decide)).trans gb
 have su:=Nat.lt_of_lt_of_le b1 k2.nx
 have b22:h2.lo≤b:=by rw[k2.lo]; exact b2
 have KS:=(List.getElem?_eq_some_iff.1 mM).1
 have hb1:(R.bits.set 1 1)[1]? = some 1:=by rw[List.getElem?_set,if_pos rfl,if_pos KS]
 have V1:=(List.getElem?_eq_some_iff.1 hl).1
 have tu:(R.bI.set k none)[k]? = some none:=by rw[List.getElem?_set,if_pos rfl,if_pos V1]
 have ZO:qp (some ({ c with ph:=1,wt:=true,id:=(n:Int) }:CR))=true:=by unfold qp; simp[hout]
 simp(disch:=first|omega|simp only[Wd]<;>omega|with_unfolding_all rfl)only[Wz]
 refine Mt s2 (bC hi) hb1 _ ?_
 simp(disch:=first|omega|simp only[Wd]<;>omega|with_unfolding_all rfl)only[Wz]
 refine rM s2 (bC hi) _ ?_
 rw[ZO]
 simp(disch:=first|omega|simp only[Wd]<;>omega|with_unfolding_all rfl)only[Wz]
 refine ⟨fun l' h'=>∃cs nb,slot l' 1=.int .i64 (if cs=0 then 2 else cs)∧(nb=0∨nb=1)∧WS h' A a (N+1) d1 { R with bI:=R.bI.set k none,bits:=R.bits.set 1 nb,cs:=R.cs.set 1 (some { c with ph:=1,wt:=true,id:=(n:Int),cs:=cs }),tv:=.slice (some ⟨b,0,none⟩) 1 aD,wm:=kN,kW:=dO,now:=R.now+(c.a.w-1) }∧WK a h2 h',?_,?_⟩
 ·unfold JZ
  cases bc with
  | false=>
   simp(disch:=first|omega|simp only[Wd]<;>omega|with_unfolding_all rfl)only[Wz]
   refine ⟨0,1,rfl,.inr rfl,?_,s2.Mr⟩
   rw[hcs] at s2
   exact s2
  | true=>
   simp(disch:=first|omega|simp only[Wd]<;>omega|with_unfolding_all rfl)only[Wz]
   refine Iv s2 (bC hi) ZO hb1 (.inr rfl) _ ?_
   intro h3 s3 k3
   simp(disch:=first|omega|simp only[Wd]<;>omega|with_unfolding_all rfl)only[Wz]
   refine ⟨3,0,rfl,.inl rfl,?_,k3⟩
   simp only[List.set_set,hcs,if_pos] at s3
   exact s3
 ·rintro l' h3 ⟨cs,nb,es,hnb,s3,k3⟩
  have U9:=(k3.ty b _ _ _ su gb2 (by unfold sL; decide) (by unfold jW; decide)).trans gb2
  have hb3:(R.bits.set 1 nb)[1]? = some nb:=by rw[List.getElem?_set,if_pos rfl,if_pos KS]
  exact UQ s3 (c:={ c with ph:=1,wt:=true,id:=(n:Int),cs:=cs }) o1 mH hne (by omega) (bC hi) rfl oG hout hb3 hnb rfl hst hsk tu hx rfl rfl U9 ⟨Nat.lt_of_lt_of_le su k3.nx,by rw[k3.lo]; exact b22⟩ hW (by show R.now+(c.a.w-1)=c.a.w-1; omega) bc l' es κ hk
end
theorem EZ (x1 x2 x3:Int) (bc:Bool) (h:Heap) (hlo:h.lo≤h.nx) (ro:Dr h) (κ:KQ) (hk:∀h,κ (.bool true) h) :
  CallW Tryz.prog 5 [.int .i64 x1,.int .i64 x2,.int .i64 x3,.bool bc] h κ:=by
 obtain ⟨ma,ea⟩:∃ma,ma=1+jj x1 6:=⟨_,rfl⟩
 obtain ⟨mb,eb⟩:∃mb,mb=1+jj x2 6:=⟨_,rfl⟩
 obtain ⟨Tk,eT⟩:∃Tk,Tk=1+jj x3 200:=⟨_,rfl⟩
 have ra:=nZ (n:=x1) (show (0:Int)<6 by decide)
 have rb:=nZ (n:=x2) (show (0:Int)<6 by decide)
 have rT:=nZ (n:=x3) (show (0:Int)<200 by decide)
 have ka:kn ma=true:=by unfold kn; rw[bf (show 0≤ma by omega),bf (show ma≤6 by omega)]; rfl
 have kb:kn mb=true:=by unfold kn; rw[bf (show 0≤mb by omega),bf (show mb≤6 by omega)]; rfl
 have ZP:ma≠0:=by omega
 have mb0:mb≠0:=by omega
 refine aj mixed ?_
 rw[aaR]
 refine Pn h _ hlo ro ?_
 intro h1 bK
 have n1:=bK.nx
 have l1:=bK.lo
 simp(disch:=first|omega|simp only[Wd]<;>omega|with_unfolding_all rfl)only[Wz,J2]
 refine GG x1 ?_
 refine GG x2 ?_
 refine Lu x3 200 (by decide) ?_
 simp(disch:=first|omega|simp only[Wd]<;>omega|with_unfolding_all rfl)only[Wz]
 rw[←ea,←eb,←eT]
 refine GC 2 ⟨by decide,by decide⟩ h1 _ (by omega) ?_
 intro h2 A a d R nw s2 bF _
 have n2:=bF.nx
 have l2:=bF.lo
 have hlv:bY 0 (-1)≠-1:=by decide
 obtain ⟨k,hk2,hst⟩:=GD hlv
 have hS:a.c.S=2:=by rw[nw.ec]; rfl
 have hh:a.aH=8:=by
  have:=nw.hd
  have h8:sR.H=8:=rfl
  omega
 refine Ms 0 h2 _ (by omega) ?_
 intro h3 eZ
 have n3:=eZ.nx
 have l3:=eZ.lo
 simp(disch:=first|omega|simp only[Wd]<;>omega|with_unfolding_all rfl)only[Wz,ew]
 obtain ⟨hA,aK⟩:∃hA:Heap,hA=⟨h3.nx+1,(h3.bl.aS (h3.nx) (aa [.int .i64 0,.int .i64 (-1)] 36 false)),h3.lo⟩:=⟨_,rfl⟩
 have aO:Le h3 hA:=by subst aK; exact ((Le.refl h3).new _)
 have g9:hA.bl.get (h3.nx)=some (aa [.int .i64 0,.int .i64 (-1)] 36 false):=by subst aK; exact T.af _ _ _
 have gH:hA.nx=h3.nx+1:=by subst aK; rfl
 have gI:hA.lo=h3.lo:=by subst aK; rfl
 rw[←aK]
 clear aK
 have nA:=aO.nx
 have lA:=aO.lo
 refine Ak 1 0 (-1) ma hA _ (by omega) ?_
 intro h4 oM
 have n4:=oM.nx
 have l4:=oM.lo
 have s4:=s2.le ((eZ.trans aO).trans oM)
 have g94:=(oM.get _ (by omega)).trans g9
 refine Aj s4 (i:=0) (by rw[nw.cs]; rfl) ⟨1,1,0,-1,ma,0,0⟩ (by rw[nw.begun]; decide) _ ?_ ?_
 ·intro hm
  unfold rG at hm
  simp[hlv,ka,ZP] at hm
 intro hm h5 ca s5 k5
 have g95:=(k5.ty h3.nx _ _ _ (by omega) g94 (by unfold sL; decide) (by unfold jW; decide)).trans g94
 have n5:=k5.nx
 obtain ⟨b,hb⟩:∃b,d.Ts[k]? = some b:=by
  have h2:=s2.t.is.cS
  rw[hS] at h2
  exact ⟨_,List.getElem?_eq_getElem (by omega)⟩
 have hb0:R.cs[0]? = some none:=by rw[nw.cs]; rfl
 refine UN s5 (nw.lone (fun _ _=>1)) (by decide) (c:=⟨ca,⟨1,1,0,-1,ma,0,0⟩,((0:Nat):Int),R.begun,bT 0 (-1) a.c.S,1,false,0,0,0⟩) (bC hb0) (by decide) rfl rfl (nw.bit (by decide)) rfl hb (by rw[hS]; exact hst) (by rw[hS]; exact hst) ?_ rfl (show (0:Int)≤1 by decide) hm (show (1:Int)≠3 by decide) ?_ ?_ _ ?_
 ·rw[nw.bI,List.getElem?_replicate,if_pos (show k<(sR.S).toNat from hk2)]
 ·intro e
  have:=nw.f
  rw[e] at this
  exact absurd this (by decide)
 ·rw[nw.em b (List.mem_of_getElem? hb),hh]; decide
 intro h6 d6 s6 L6 k6
 simp only[List.set_set] at s6
 have n6:=k6.nx
 have g96:=(k6.ty h3.nx _ _ _ (by omega) g95 (by unfold sL; decide) (by unfold jW; decide)).trans g95
 have L6':Lone d6.Ts (gu (fun _ _=>0) 0 (-1) ma) (fun _ _=>1):=by
  have e:qk (fun _ _=>0) ⟨1,1,0,-1,ma,0,0⟩=gu (fun _ _=>0) 0 (-1) ma:=by
   unfold qk
   rw[if_pos rfl]
   show gu (fun _ _=>0) 0 (-1) (cV 0 ma)=_
   rw[ET ka]
  rw[←e]; exact L6
 obtain ⟨w,i1,o6⟩:=L6'.adL s6.t ZP
 have hF:=UM s6.t L6' nw.ec hh
 have w0:0≤w:=by
  obtain ⟨k0,b0,e0,j7,_,tU,_,_,Mi,hw0⟩:=o6.at s6.t (by simp)
  have:=((s6.t.is.bk b0 (List.mem_of_getElem? j7)).good e0 tU).vq
  rw[hw0] at this
  exact this.w0
 have lo6:=s6.lo
 simp(disch:=first|omega|simp only[Wd]<;>omega|with_unfolding_all rfl)only[Wz,g96]
 refine Ak 2 0 (-1) mb h6 _ lo6 ?_
 intro h7 T_
 have n7:=T_.nx
 have l7:=T_.lo
 simp(disch:=first|omega|simp only[Wd]<;>omega|with_unfolding_all rfl)only[Wz,EJ]
 obtain ⟨hB,cI⟩:∃hB:Heap,hB=⟨h7.nx+1,(h7.bl.aS (h7.nx) (aa [.int .i64 1,.int .i64 2,.int .i64 0,.int .i64 (-1),.int .i64 mb,.int .i64 Tk,.int .i64 0] 39 false)),h7.lo⟩:=⟨_,rfl⟩
 have cw:Le h7 hB:=by subst cI; exact ((Le.refl h7).new _)
 have g18:hB.bl.get (h7.nx)=some (aa [.int .i64 1,.int .i64 2,.int .i64 0,.int .i64 (-1),.int .i64 mb,.int .i64 Tk,.int .i64 0] 39 false):=by subst cI; exact T.af _ _ _
 have Ej:hB.nx=h7.nx+1:=by subst cI; rfl
 have Ek:hB.lo=h7.lo:=by subst cI; rfl
 rw[←cI]
 clear cI
 have sB:=s6.le (T_.trans cw)
 have hc1:(R.cs.set 0 none)[1]? = some none:=by rw[nw.cs]; rfl
 have tu:(R.bI.set k none)[k]? = some none:=by rw[nw.bI,List.getElem?_set,if_pos rfl,if_pos (by rw[List.length_replicate]; exact hk2)]
 refine Aj sB (i:=1) hc1 ⟨1,2,0,-1,mb,Tk,0⟩ (by show 0≤R.begun+1∧R.begun+1≤1000000; rw[nw.begun]; decide) _ ?_ ?_
 ·intro hm2
  unfold rG at hm2
  simp[hlv,kb,mb0,show (0:Int)≤Tk by omega] at hm2
 intro hm2 h8 ca2 s8 k8
 simp(disch:=first|omega|simp only[Wd]<;>omega|with_unfolding_all rfl)only[Wz]
 refine HJ ma mb ?_
 cases hc:cmp ma mb with
 | true=>
  simp(disch:=first|omega|simp only[Wd]<;>omega|with_unfolding_all rfl)only[Wz]
  exact UO s8 (c:=⟨ca2,⟨1,2,0,-1,mb,Tk,0⟩,((1:Nat):Int),R.begun+1,bT 0 (-1) a.c.S,1,false,0,0,0⟩) o6 ZP (by decide) (bC hc1) rfl rfl (nw.bit (by decide)) rfl rfl (by rw[hS]; exact hst) (by rw[hS]; exact hst) tu rfl kb mb0 hF nw.now nw.tv (by show 1≤Tk∧Tk≤200; omega) hc κ hk
 | false=>
  simp(disch:=first|omega|simp only[Wd]<;>omega|with_unfolding_all rfl)only[Wz]
  exact UR s8 (c:=⟨ca2,⟨1,2,0,-1,mb,Tk,0⟩,((1:Nat):Int),R.begun+1,bT 0 (-1) a.c.S,1,false,0,0,0⟩) o6 w0 ZP (by decide) (bC hc1) rfl rfl rfl rfl (nw.bit (by decide)) rfl rfl (by rw[hS]; exact hst) (by rw[hS]; exact hst) tu rfl kb mb0 hF nw.now nw.tv (by show 1≤Tk∧Tk≤200; omega) hc bc κ hk
end Go.Proofs

namespace Go.Proofs
open Go.Vai Go.Clashes Go.ChangeShapes Go.WideShapes
theorem laidOut:laidOutB Tryz.prog=true:=by kernel_rfl
theorem memRo (w:World):Dr (memH w):=by
 intro d
 refine ⟨fun vs t o e=>?_,fun es c e=>?_⟩
 ·obtain ⟨C,e',fz,_,h⟩:=oz e
  cases h
 ·obtain ⟨C,e',fz,_,h⟩:=oz e
  cases h
theorem lawTimes_row (x1 x2 x3:Int) (b:Bool) (h:Heap) (hlo:h.lo≤h.nx) (ro:Dr h) :
  CallW Tryz.prog 5 [.int .i64 x1,.int .i64 x2,.int .i64 x3,.bool b] h zp:=EZ x1 x2 x3 b h hlo ro zp fun _=>rfl
end Go.Proofs
