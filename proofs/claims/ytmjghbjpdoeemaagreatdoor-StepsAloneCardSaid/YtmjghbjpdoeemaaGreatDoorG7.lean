/-
  PROVED HERE: a part of the proof (U7, U8, U9, U10, U11, U12, U13, N1, N2, N3, S1, S2, S3, S4, S5, S7, S8, S9, S10, S11, S12, S13, N4, U14).
-/
import Derived.Test.YtmjghbjpdoeemaaGreatDoorG6
import Derived.Shelf.SlSortCmp.NoneTotal
import Derived.Deep.DeepFit
import Derived.Test.YtmjghbjpdoeemaaGreatDoorRZ
set_option linter.unusedVariables false
set_option linter.unusedSimpArgs false
set_option maxRecDepth 100000
set_option maxHeartbeats 4000000
namespace Go.Proofs
open Go.Vai Go.Clashes
theorem G2 {Ts:List TB} {k:Nat} {b:TB} (hk:Ts[k]? = some b) (M':List HE) (clock':Nat):(Ts.set k ⟨b.bb,b.bm,M',clock'⟩).map (·.bm)=Ts.map (·.bm):=by
 obtain ⟨hl,rfl⟩:=List.getElem?_eq_some_iff.1 hk
 rw[List.map_set]
 refine List.ext_getElem? fun i=>?_
 rw[List.getElem?_set]
 split
 ·rename_i e; subst e
  rw[if_pos (by simpa using hl),List.getElem?_map,List.getElem?_eq_getElem hl]; rfl
 ·rfl
section
variable {h h':Heap} {tb bw bp bl:Nat} {c:dF} {vb:Value} {aF N:Nat} {Ts:List TB} {W:List IE} {wc:Nat} {F F':List Int} {B:List Bool}
theorem kj.acA (s:kj h tb bw bp bl c vb aF N Ts W wc F B) {k:Nat} {b:TB} (hk:Ts[k]? = some b) {M':List HE} {clock':Nat} {e:HE} (he:e∈b.M) {Q1:List R5} {w1:Int} (m:lQ h h' b.bb b.bm bp bl aF b.M M' clock' F' B e Q1 w1)
  (hid:Q1.map (·.id)=e.Q.map (·.id)) (hw:w1≤e.w+1):kj h' tb bw bp bl c vb aF (N+1) (Ts.set k ⟨b.bb,b.bm,M',clock'⟩) W wc F' B:=by
 have hb:=List.mem_of_getElem? hk
 have is:=s.is.bk b hb
 have hp:=m.OP is he hid
 have hwe:=s.wb b hb e he
 exact s.step hk m.is m.fr (fun X hX=>(hp.append_right X).trans hX) (fun i hi=>hp.mem_iff.1 hi) (m.sub he) (m.set.wb (s.wb b hb) (by omega)) (m.len is (s.len b hb) he) rfl
theorem kj.left (s:kj h tb bw bp bl c vb aF N Ts W wc F B) {k:Nat} {b:TB} (hk:Ts[k]? = some b) {M':List HE} {clock':Nat} {e:HE} (he:e∈b.M) {p:R5} {n:Nat} (hf:bJ e.Q (n:Int)=some p) (zL:B[n]? = some true) (m:lQ h h' b.bb b.bm bp bl aF b.M M' clock' F' (B.set n false) e (e.Q.filter fun r=>!bD (n:Int) r) e.w) :
  kj h' tb bw bp bl c vb aF (N+1) (Ts.set k ⟨b.bb,b.bm,M',clock'⟩) W wc F' (B.set n false):=by
 have hb:=List.mem_of_getElem? hk
 have is:=s.is.bk b hb
 have hp:=m.OQ is he hf
 have hwe:=s.wb b hb e he
 refine s.step hk m.is m.fr (fun X hX=>?_) (fun i hi=>hp.mem_iff.2 (List.mem_append.2 (.inl hi))) (m.sub he) (m.set.wb (s.wb b hb) (by omega)) (m.len is (s.len b hb) he) (List.length_set ..)
 have h1:=(hp.append_right X).symm.trans (hX.trans (Al zL))
 rw[List.append_assoc] at h1
 have h2:=(List.Perm.append_left (fN M') (List.perm_append_comm (l₁:=X) (l₂:=[(n:Int)]))).trans h1
 rw[←List.append_assoc] at h2
 exact (List.perm_append_right_iff _).1 h2
theorem OU (s:kj h tb bw bp bl c vb aF N Ts W wc F B) (hlo:h.lo≤h.nx) (id:Int) (κ:KQ)
  (EK:(∀b∈Ts,∀e∈b.M,bJ e.Q id=none)→κ (.tuple ⟨[.slice none 0 0,.int .i64 5]⟩) h)
  (ig:∀(k:Nat) (b:TB) h' M' clock' F' v' e p (n:Nat),Ts[k]? = some b→e∈b.M→bJ e.Q id=some p→id=(n:Int)→B[n]? = some true→F'.Perm (F++[(n:Int)])→
   lQ h h' b.bb b.bm bp bl aF b.M M' clock' F' (B.set n false) e (e.Q.filter fun r=>!bD id r) e.w→jM h h' v' (cw (dO (e.Q.filter fun r=>!bD id r)+1) (e.Q.filter fun r=>!bD id r)).2→kj h' tb bw bp bl c vb aF (N+1) (Ts.set k ⟨b.bb,b.bm,M',clock'⟩) W wc F' (B.set n false)→κ (.tuple ⟨[v',.int .i64 0]⟩) h') :
  CallW Tryz.prog 253 [.pointer (some ⟨tb,0,none⟩),.int .i64 id] h κ:=by
 refine an mixed ?_
 rw[Wh]
 refine OT s hlo id _ ?_ ?_
 ·intro hno
  simp(disch:=first|omega|simp only[Wd]<;>omega|rfl)only[Wz,ym]
  refine JH tb h _ ?_
  exact EK hno
 ·intro k b e p hk he hf
  have hb:=List.mem_of_getElem? hk
  simp(disch:=first|omega|simp only[Wd]<;>omega|rfl)only[Wz,iW]
  refine Ky (s.is.bk b hb) hlo (s.OS hk) id _ ?_ ?_
  ·intro h1 hno _
   rw[hno e he] at hf; cases hf
  ·intro h1 M' clock' F' v' e1 p1 n Ct Xy hid zL hpF mv ho
   simp(disch:=first|omega|simp only[Wd]<;>omega|rfl)only[Wz]
   have mv':=mv
   have hf':=Xy
   rw[hid] at hf' mv'
   exact ig k b h1 M' clock' F' v' e1 p1 n hk Ct Xy hid zL hpF mv ho (s.left hk Ct hf' zL mv')
theorem E_ {β:Type} {fl:β} (cn:Bool) (b o:Nat) (h:Heap) (κ:Value→Heap→β):au fl Tryz.prog .neq 100 cn false (.pointer (some ⟨b,o,none⟩)) (.pointer none) h κ=κ (.bool true) h:=by simp only[au,TW,bV,Bool.not_false]
end
theorem dR.yp {h h':Heap} {bp bl:Nat} {F:List Int} {B:List Bool} (p:dR h bp bl F B) (hn:h.nx≤h'.nx) (hl:h'.lo=h.lo) (hc:∀c vs ty op,c<h.nx→ty≠182→ty≠147→h.bl.get c=some (aa vs ty op)→h'.bl.get c=h.bl.get c):dR h' bp bl F B:=by
 have pl:=p.lt
 have fl:=p.fr.lt
 obtain ⟨fs,hg,hpt⟩:=p.fr.cell
 refine ⟨⟨by omega,by rw[hl]; exact p.fr.lo,fs,(hc _ _ _ _ fl (by decide) (by decide) hg).trans hg,?_⟩,by omega,by rw[hl]; exact p.lo,(hc _ _ _ _ pl (by decide) (by decide) p.cell).trans p.cell,p.ok,p.small⟩
 rcases hpt with e | ⟨b,G,e,k1,k2,k3,k4⟩
 ·exact .inl e
 ·exact .inr ⟨b,G,e,by omega,by omega,(hc _ _ _ _ k1 (by decide) (by decide) k3).trans k3,k4⟩
theorem bh.yp {h h':Heap} {bb bm bp bl most clock:Nat} {M:List HE} {F:List Int} {B:List Bool} (s:bh h bb bm bp bl most M clock F B) (hn:h.nx≤h'.nx) (hl:h'.lo=h.lo) (hc:∀c vs ty op,c<h.nx→ty≠182→ty≠147→h.bl.get c=some (aa vs ty op)→h'.bl.get c=h.bl.get c) (hm:h'.bl.get bm=h.bl.get bm):bh h' bb bm bp bl most M clock F B:=by
 have sb:=s.Lv
 have sm:=s.tU
 refine ⟨by omega,by omega,by rw[hl]; exact s.PM,(hc _ _ _ _ sb (by decide) (by decide) s.gN).trans s.gN,hm.trans s.fM,s.ok,fun e he=>?_,s.good,s.bX.yp hn hl hc,s.ne⟩
 have a:=s.aF e he
 have al:=a.lt
 exact ⟨by omega,(hc _ _ _ _ al (by decide) (by decide) a.get).trans a.get,a.qv.frame hn fun c vs op h1 hg=>hc c vs _ op h1 (by decide) (by decide) hg⟩
theorem Fa (H:Int) (bp:Nat) (h:Heap) (κ:KQ) (hh:¬(1≤H∧H≤64)) (hk:κ (.tuple ⟨[.pointer none,.int .i64 2]⟩) h):CallW Tryz.prog 109 [.int .i64 H,.pointer (some ⟨bp,0,none⟩)] h κ:=by
 refine an mixed ?_
 rw[Nf]
 by_cases h1:H<1
 ·simp(disch:=first|omega|simp only[Wd]<;>omega|rfl)only[Wz,a_ h1]
  exact hk
 ·simp(disch:=first|omega|simp only[Wd]<;>omega|rfl)only[Wz,aN h1,cq (show (64:Int)<H by omega)]
  exact hk
theorem KU (R:Int) (h:Heap) (κ:KQ) (hh:128<R) (hk:κ (.tuple ⟨[.pointer none,.int .i64 2]⟩) h):CallW Tryz.prog 108 [.int .i64 R] h κ:=by
 refine an mixed ?_
 rw[Nd]
 simp(disch:=first|omega|simp only[Wd]<;>omega|rfl)only[Wz,bP (show (0:Int)≤R by omega),cq hh]
 exact hk
theorem Rx (S H R P:Int) (bp:Addr) (b:Nat) (κ:List Value→Prop):bC False [(6,1)] [.map (some b)] [.int .i64 S,.int .i64 H,.int .i64 R,.int .i64 P,.pointer (some bp),.slice none 0 0,.map none] κ=κ [.int .i64 S,.int .i64 H,.int .i64 R,.int .i64 P,.pointer (some bp),.slice none 0 0,.map (some b)]:=by kernel_rfl
theorem yq (n:Nat):di (List.replicate n false)=[]:=by
 rw[List.eq_nil_iff_forall_not_mem]
 intro x hx
 obtain ⟨k,_,hn⟩:=jN.1 hx
 rw[List.getElem?_replicate] at hn
 split at hn<;>simp at hn
def yu (c:dF):Value:=.agg ⟨[.int .i64 c.S,.int .i64 c.H,.int .i64 c.R,.int .i64 c.P]⟩
def dK (c:dF):Prop:=1≤c.S∧c.S≤16∧0≤c.P∧c.P≤8∧1≤c.R∧c.R≤128∧1≤c.H∧c.H≤64
theorem Ry (c:dF) (h:Heap) (κ:KQ) (hlo:h.lo≤h.nx)
  (AE:∀h' (e:Int),e=2→¬dK c→Le h h'→κ (.tuple ⟨[.pointer none,.int .i64 e]⟩) h')
  (Cz:∀h' tb bw bp bl vb aF Ts F,dK c→kj h' tb bw bp bl c vb aF 0 Ts [] 0 F (List.replicate c.R.toNat false)→(∀b∈Ts,h.nx≤b.bm)→h.nx≤bw→h.nx≤bp→h.nx≤bl→Le h h'→(∀x,FB h' bp x→h.nx≤x)→κ (.tuple ⟨[.pointer (some ⟨tb,0,none⟩),.int .i64 0]⟩) h') :
  CallW Tryz.prog 67 [yu c] h κ:=by
 refine an mixed ?_
 rw[aad]
 simp(disch:=first|omega|simp only[Wd]<;>omega|rfl)only[Wz,yu]
 obtain ⟨hA,az⟩:∃hA:Heap,hA=⟨h.nx+1,(h.bl.aY (h.nx) (aa [.int .i64 c.S,.int .i64 c.H,.int .i64 c.R,.int .i64 c.P] 30 false)),h.lo⟩:=⟨_,rfl⟩
 have aK:Le h hA:=by subst az; exact ((Le.refl h).new _)
 have g1:hA.bl.get (h.nx)=some (aa [.int .i64 c.S,.int .i64 c.H,.int .i64 c.R,.int .i64 c.P] 30 false):=by subst az; exact T.af _ _ _
 have d_:hA.nx=h.nx+1:=by subst az; rfl
 have ee:hA.lo=h.lo:=by subst az; rfl
 rw[←az]
 clear az
 by_cases YD:c.S<1
 ·simp(disch:=first|omega|simp only[Wd]<;>omega|rfl)only[Wz,a_ YD]
  exact AE _ 2 rfl (by unfold dK; omega) aK
 by_cases hS2:16<c.S
 ·simp(disch:=first|omega|simp only[Wd]<;>omega|rfl)only[Wz,aN YD,g1,a_ hS2]
  exact AE _ 2 rfl (by unfold dK; omega) aK
 by_cases hP1:c.P<0
 ·simp(disch:=first|omega|simp only[Wd]<;>omega|rfl)only[Wz,aN YD,g1,aN hS2,a_ hP1]
  exact AE _ 2 rfl (by unfold dK; omega) aK
 by_cases hP2:8<c.P
 ·simp(disch:=first|omega|simp only[Wd]<;>omega|rfl)only[Wz,aN YD,g1,aN hS2,aN hP1,a_ hP2]
  exact AE _ 2 rfl (by unfold dK; omega) aK
 by_cases hR1:c.R<1
 ·simp(disch:=first|omega|simp only[Wd]<;>omega|rfl)only[Wz,aN YD,g1,aN hS2,aN hP1,aN hP2,a_ hR1]
  exact AE _ 2 rfl (by unfold dK; omega) aK
 simp(disch:=first|omega|simp only[Wd]<;>omega|rfl)only[Wz,aN YD,g1,aN hS2,aN hP1,aN hP2,aN hR1,I6]
 by_cases hR2:128<c.R
 ·refine KU c.R hA _ hR2 ?_
  simp(disch:=first|omega|simp only[Wd]<;>omega|rfl)only[Wz]
  exact AE _ 2 rfl (by unfold dK; omega) aK
 obtain ⟨R,eR⟩:∃R:Nat,c.R=(R:Int):=⟨c.R.toNat,by omega⟩
 rw[eR]
 refine Kv R hA _ (by omega) (by omega) ?_
 intro bp bl h2 F p hne h2p h2l hF zu ag4
 have n2:=zu.nx
 have l2:=zu.lo
 have amg:=p.fr.lt
 have amh:=p.lt
 have g12:=(zu.get h.nx (by omega)).trans g1
 rw[eR] at g12
 simp(disch:=first|omega|simp only[Wd]<;>omega|rfl)only[Wz,I5,g12,Rx,iQ]
 obtain ⟨hB,bK⟩:∃hB:Heap,hB=⟨h2.nx+1+1,((h2.bl.aY (h2.nx) (.map [] 0)).aY (h2.nx+1) (aa [.int .i64 c.S,.int .i64 c.H,.int .i64 (R:Int),.int .i64 c.P,.pointer (some ⟨bp,0,none⟩),.slice none 0 0,.map (some h2.nx)] 147 false)),h2.lo⟩:=⟨_,rfl⟩
 have bG:Le h2 hB:=by subst bK; exact (((Le.refl h2).new _).new _)
 have gw:hB.bl.get (h2.nx)=some (.map [] 0):=by subst bK; exact (T.ai _ _ (by omega)).trans (T.af _ _ _)
 have gt:hB.bl.get (h2.nx+1)=some (aa [.int .i64 c.S,.int .i64 c.H,.int .i64 (R:Int),.int .i64 c.P,.pointer (some ⟨bp,0,none⟩),.slice none 0 0,.map (some h2.nx)] 147 false):=by subst bK; exact T.af _ _ _
 have rz:hB.nx=h2.nx+1+1:=by subst bK; rfl
 have rA:hB.lo=h2.lo:=by subst bK; rfl
 rw[←bK]
 clear bK
 have nI:=bG.nx
 have nJ:=bG.lo
 have g12:=(bG.get _ (by omega)).trans g12
 by_cases hH:1≤c.H∧c.H≤64
 case neg=>
  refine ⟨fun n l h1=>slot l 26=.int .i64 0∧HQ hB h1,⟨0,rfl,rfl⟩,?_⟩
  rintro n l h1 ⟨s1,hq⟩
  cases (show hB=h1 from hq)
  simp(disch:=first|omega|simp only[Wd]<;>omega|rfl)only[Wz,s1,cq (show (0:Int)<c.S by omega),BK,g12]
  refine Fa c.H bp hB _ hH ?_
  simp(disch:=first|omega|simp only[Wd]<;>omega|rfl)only[Wz]
  exact AE _ 2 rfl (by unfold dK; omega) ((aK.trans zu).trans bG)
 obtain ⟨aF,eH⟩:∃n:Nat,c.H=(n:Int):=⟨c.H.toNat,by omega⟩
 obtain ⟨S,eS⟩:∃n:Nat,c.S=(n:Int):=⟨c.S.toNat,by omega⟩
 refine ⟨fun n l h1=>∃(i:Nat) (Ts:List TB) (v:Value),slot l 26=.int .i64 (i:Int)∧n=S-i∧i≤S∧Ts.length=i∧h1.bl.get (h2.nx+1)=some (aa [.int .i64 c.S,.int .i64 c.H,.int .i64 (R:Int),.int .i64 c.P,.pointer (some ⟨bp,0,none⟩),v,.map (some h2.nx)] 147 false)∧
   h1.bl.get h2.nx=some (.map [] 0)∧dh mU h2 182 h1 v Ts∧dR h1 bp bl F (List.replicate R false)∧(∀b∈Ts,bh h1 b.bb b.bm bp bl aF [] 0 F (List.replicate R false)∧b.M=[]∧b.clock=0∧hB.nx≤b.bm)∧Ts.Pairwise (fun a b=>a.bm≠b.bm)∧Le h2 h1∧hB.nx≤h1.nx,
  ⟨_,0,[],_,rfl,rfl,by omega,rfl,gt,gw,.inl ⟨rfl,.inl rfl⟩,p.le bG,fun b hb=>(nomatch hb),List.Pairwise.nil,bG,Nat.le_refl _⟩,?_⟩
 rintro n l h1 ⟨i,Ts,v,s1,rfl,hi,hTl,gt1,YE,ho,p1,hbk,hds,bA,nB⟩
 have n1:=bA.nx
 have l1:=bA.lo
 by_cases hlt:i<S
 ·have ag5:=(bA.get h.nx (by omega)).trans ((zu.get h.nx (by omega)).trans g1)
  simp(disch:=first|omega|simp only[Wd]<;>omega|rfl)only[Wz,s1,cq (show (i:Int)<c.S by omega),BK,ag5,eH]
  refine E1 aF bp h1 _ (by omega) (by omega) ?_
  intro h3 c9 nx3 gm3 gb3
  have n3:=c9.nx
  have l3:=c9.lo
  have gt3:=(c9.get _ (by omega)).trans gt1
  obtain ⟨vx,vc,ev,_⟩:=(show Sl mU h1 v Ts from ho.sl)
  simp(disch:=first|omega|simp only[Wd]<;>omega|rfl)only[Wz,I4,aJ,gt3]
  obtain ⟨h4,e4⟩:∃h4:Heap,h4=⟨h3.nx+1,h3.bl.aY h3.nx (aa [.pointer (some ⟨h1.nx+1,0,none⟩)] 182 false),h3.lo⟩:=⟨_,rfl⟩
  have iw:Le h3 h4:=by rw[e4]; exact (Le.refl h3).new _
  have g4:h4.bl.get h3.nx=some (aa ([(⟨h1.nx+1,h1.nx,[],0⟩:TB)].flatMap mU) 182 false):=by rw[e4]; exact T.af _ _ _
  have nx4:h4.nx=h3.nx+1:=by rw[e4]
  have l4:h4.lo=h3.lo:=by rw[e4]
  try rw[←e4]
  clear e4
  have OV:=c9.trans iw
  have YF:=(iw.get _ (by omega)).trans gt3
  refine cV (enc:=mU) (a:=h2) (L:=Ts) (M:=[(⟨h1.nx+1,h1.nx,[],0⟩:TB)]) AD KS (by decide) (by decide) (ho.le OV) (Sl.new (by omega) g4 _) (bA.trans OV) (by simp; omega) (by omega) _ ?_
  intro v5 h5 tL ji nx5 amj l5 nU
  have gt5:=(nU (h2.nx+1) (by omega) (by rw[YF]; exact aS)).trans YF
  obtain ⟨vx5,vc5,ev5,_⟩:=(show Sl mU h5 v5 _ from tL.sl)
  subst ev5
  simp(disch:=first|omega|simp only[Wd]<;>omega|rfl)only[Wz,aJ,gt5]
  have FF:∀c vs ty op,c<h4.nx→ty≠182→h4.bl.get c=some (aa vs ty op)→h5.bl.get c=h4.bl.get c:=fun c vs ty op hc hty hg=>nU c hc (by rw[hg]; exact aL hty)
  have fm5:∀c es cl,c<h4.nx→h4.bl.get c=some (.map es cl)→h5.bl.get c=h4.bl.get c:=fun c es cl hc hg=>nU c hc (by rw[hg]; exact bE)
  obtain ⟨h6,e6⟩:∃h6:Heap,h6=⟨h5.nx,h5.bl.aY (h2.nx+1) (aa [.int .i64 c.S,.int .i64 c.H,.int .i64 (R:Int),.int .i64 c.P,.pointer (some ⟨bp,0,none⟩),.slice vx5 (Ts++[(⟨h1.nx+1,h1.nx,[],0⟩:TB)]).length vc5,.map (some h2.nx)] 147 false),h5.lo⟩:=⟨_,rfl⟩
  have gt6:h6.bl.get (h2.nx+1)=some (aa [.int .i64 c.S,.int .i64 c.H,.int .i64 (R:Int),.int .i64 c.P,.pointer (some ⟨bp,0,none⟩),.slice vx5 (Ts++[(⟨h1.nx+1,h1.nx,[],0⟩:TB)]).length vc5,.map (some h2.nx)] 147 false):=by rw[e6]; exact T.af _ _ _
  have acC:∀d,d≠h2.nx+1→h6.bl.get d=h5.bl.get d:=fun d hd=>by rw[e6]; exact T.ai _ _ (fun e=>hd e.symm)
  have tM:dh mU h2 182 h6 (.slice vx5 (Ts++[(⟨h1.nx+1,h1.nx,[],0⟩:TB)]).length vc5) (Ts++[(⟨h1.nx+1,h1.nx,[],0⟩:TB)]):=by rw[e6]; exact dh.put tL (by rw[gt5]; exact aS) _
  have qs:Le h2 h6:=by rw[e6]; exact ji.set (b:=h2.nx+1) (by omega) _
  have nx6:h6.nx=h5.nx:=by rw[e6]
  have l6:h6.lo=h5.lo:=by rw[e6]
  rw[←e6]
  clear e6
  have hc6:∀d vs ty op,d<h4.nx→ty≠182→ty≠147→h4.bl.get d=some (aa vs ty op)→h6.bl.get d=h4.bl.get d:=by
   intro d vs ty op hd h1 h2' hg
   refine (acC d ?_).trans (FF d vs ty op hd h1 hg)
   rintro rfl
   rw[hg] at YF
   exact aL h2' YF
  have hm6:∀d es cl,d<h4.nx→h4.bl.get d=some (.map es cl)→h6.bl.get d=h4.bl.get d:=by
   intro d es cl hd hg
   refine (acC d ?_).trans (fm5 d es cl hd hg)
   rintro rfl
   rw[hg] at YF
   exact bE YF
  have gw4:=(OV.get h2.nx (by omega)).trans YE
  have p4:=p1.le OV
  have p6:=p4.yp (by omega) (by omega) hc6
  have tQ:bh h4 (h1.nx+1) h1.nx bp bl aF [] 0 F (List.replicate R false):=⟨by omega,by omega,by omega,(iw.get _ (by omega)).trans gb3,(iw.get _ (by omega)).trans gm3,⟨List.Pairwise.nil,List.Pairwise.nil,fun e he=>(nomatch he)⟩,fun e he=>(nomatch he),fun e he=>(nomatch he),p4,hne⟩
  have Dq:∀b∈Ts,b.bm<h1.nx:=fun b hb=>(hbk b hb).1.tU
  simp(disch:=first|omega|simp only[Wd]<;>omega|rfl)only[Wz,s1]
  refine ⟨_,by omega,i+1,Ts++[⟨h1.nx+1,h1.nx,[],0⟩],.slice vx5 (Ts++[(⟨h1.nx+1,h1.nx,[],0⟩:TB)]).length vc5,rfl,rfl,by omega,by simp; omega,by rw[←eH]; exact gt6,(hm6 _ _ _ (by omega) gw4).trans gw4,tM,p6,?_,?_,qs,by omega⟩
  ·intro b hb
   rcases List.mem_append.1 hb with hb | hb
   ·obtain ⟨k1,k2,k3,k4⟩:=hbk b hb
    have k5:=k1.le OV
    exact ⟨k5.yp (by omega) (by omega) hc6 (hm6 _ _ _ k5.tU k5.fM),k2,k3,k4⟩
   ·rw[List.mem_singleton] at hb; subst hb
    exact ⟨tQ.yp (by omega) (by omega) hc6 (hm6 _ _ _ tQ.tU tQ.fM),rfl,rfl,nB⟩
  ·exact sg hds fun q hq=>Nat.ne_of_lt (Dq q hq)
 ·have hiS:i=S:=by omega
  simp(disch:=first|omega|simp only[Wd]<;>omega|rfl)only[Wz,s1,bP (show c.S≤(i:Int) by omega)]
  have hnil:∀b∈Ts,b.M=[]:=fun b hb=>(hbk b hb).2.1
  have hM:∀(k:Nat) (b:TB),Ts[k]? = some b→b.M=[]:=fun k b hb=>hnil b (List.mem_of_getElem? hb)
  have uW:(Ts.flatMap fun b=>fN b.M)=[]:=by
   rw[List.flatMap_eq_nil_iff]
   intro b hb
   rw[hnil b hb]; rfl
  have eRn:c.R.toNat=R:=by omega
  refine Cz h1 (h2.nx+1) h2.nx bp bl v aF Ts F (by unfold dK; omega) ⟨⟨by omega,by rw[eR]; exact gt1,ho.sl,uR.own ho,by omega,by omega,YE,fun b hb=>?_,hds,fun b hb=>?_,by rw[eRn]; exact p1,by omega,by omega,by omega⟩,?_,?_,?_,?_,?_,?_,by omega⟩ (fun b hb=>?_) (by omega) (by omega) (by omega) ?_ ?_
  ·obtain ⟨k1,k2,k3,k4⟩:=hbk b hb
   rw[k2,k3,eRn]; exact k1
  ·have:=(hbk b hb).2.2.2; omega
  ·rw[uW,yq]
  ·intro k b hk e he; rw[hM k b hk] at he; nomatch he
  ·intro k b hk e he; rw[hM k b hk] at he; nomatch he
  ·intro b hb e he; rw[hnil b hb] at he; nomatch he
  ·intro b hb; rw[hnil b hb]; exact Nat.zero_le _
  ·rw[List.length_replicate]; omega
  ·have:=(hbk b hb).2.2.2; omega
  ·exact aK.trans (zu.trans bA)
  ·intro x hx
   have:=ag4 x ((FB.congr (bA.get bp p.fr.lt)).1 hx)
   omega
structure HC where
 t:Int
 r:Int
 a:Option Addr
 n:Nat
 c:Nat
 w:Int
instance:Inhabited HC:=⟨⟨0,0,none,0,0,0⟩⟩
def yw (x:HC):List Value:=[.int .i64 x.t,.int .i64 x.r,.slice x.a x.n x.c,.int .i64 x.w]
def cfH (x y:HC):Int:=PN (x.t,x.r) (y.t,y.r)
theorem ag8:Go.Sort.SWO (ltOf cfH) where
 irrefl x:=Rj.irrefl (x.t,x.r)
 trans x y z h1 h2:=Rj.trans (x.t,x.r) (y.t,y.r) (z.t,z.r) h1 h2
 ntrans x y z h1 h2:=Rj.ntrans (x.t,x.r) (y.t,y.r) (z.t,z.r) h1 h2
theorem G3 (t r t' r':Int) (W:World):Calls Tryz.prog 92 #[.agg #[.int .i64 t,.int .i64 r],.agg #[.int .i64 t',.int .i64 r']] W fun e w'=>e=.returned (.int .i64 (pz t r t' r'))∧∃q os',w'=Go.Sort.grow (W.drewN q) os':=
 rH (args:=[dn t r,dn t' r']) (args':=[dn t r,dn t' r']) (pE t r t' r' rfl) (.cons (VR.qU (.cons (.int _ _) (.cons (.int _ _) .nil))) (.cons (VR.qU (.cons (.int _ _) (.cons (.int _ _) .nil))) .nil)) rfl W
theorem OW (x y:HC) (W:World):Calls Tryz.prog 105 #[.agg #[.int .i64 x.t,.int .i64 x.r,.slice x.a x.n x.c,.int .i64 x.w],.agg #[.int .i64 y.t,.int .i64 y.r,.slice y.a y.n y.c,.int .i64 y.w]] W fun e w'=>e=.returned (.int .i64 (cfH x y))∧∃q os',w'=Go.Sort.grow (W.drewN q) os':=by
 have acD:=fun W'=>G3 x.t x.r y.t y.r W'
 show Calls _ _ _ _ fun e w'=>e=.returned (.int .i64 (pz x.t x.r y.t y.r))∧_
 generalize pz x.t x.r y.t y.r=v at acD ⊢
 generalize x.t=xt,x.r=xr,y.t=yt,y.r=yr at *
 go_enter Tryz.func105,Tryz.ntmps105
 go_wp2_with (go_at_call 92; refine (acD _).mono ?_; rintro e w' ⟨rfl,q,os',rfl⟩)
 go_ret
 refine ⟨rfl,?_⟩
 rw[Go.Sort.alloc_eq_grow,Go.Sort.alloc_eq_grow,Go.Sort.grow_grow]
 exact ⟨q,_,(show Go.Sort.grow (Go.Sort.grow (W.drewN q) _) os'=_ from Go.Sort.grow_grow _ _ _)⟩
theorem OX (blk size:Nat) (w:World):Go.Proofs.CmpLays Tryz.prog 105 #[] yw 4 cfH blk 0 size w:=by
 intro m os dk _ x y
 exact OW x y _
theorem uH:∀args w,(callFunc 104 args).run Tryz.prog w=.ok (.enter 104 args) w:=enters_of Tryz.func104 (by kernel_rfl) rfl
theorem Ck (blk cap:Nat) (d:Array HC) (w:World) (hH:Go.Sort.HoldsK yw 4 w blk 0 d) (hblk:blk<w.heap.size) (hsz:d.size<4611686018427387904) :
  Calls Tryz.prog 104 #[.slice (some ⟨blk,0,none⟩) d.size cap,.func (.func 105) #[] #[]] w fun e w'=>e=.returned (.tuple #[])∧∃d' n os,Go.Sort.PermIn 0 d.size d d'∧Go.Sort.SortedIn (fun x y=>ltOf PN (x.t,x.r) (y.t,y.r)) 0 d.size d'∧w'=Go.Proofs.sortWorldK yw 4 w blk 0 n d' os:=by
 have eg:∀args w,(callFunc 105 args).run Tryz.prog w=.ok (.enter 105 args) w:=enters_of Tryz.func105 (by kernel_rfl) rfl
 exact Go.Proofs.AnyQ.slices_SortFunc Tryz.EZ 4 Tryz.isAgg81 Tryz.sizeOf81 yw (fun _=>rfl) (fun x v hv=>by simp[yw] at hv; rcases hv with rfl | rfl | rfl | rfl<;>rfl) cfH ag8 105 #[] blk 0 cap d w eg (OX blk d.size w) hH hblk hsz
theorem zw (p:Option Addr) (cap:Nat) (fv:Value) (w:World):Calls Tryz.prog 104 #[.slice p 0 cap,fv] w fun e w'=>e=.returned (.tuple #[])∧w'=w:=Go.Proofs.AnyF.slices_SortFunc_none Tryz.EZ p cap fv w
theorem OY (q:Value):∃a n c,Rm q=.slice a n c:=by
 unfold Rm
 split
 ·exact ⟨_,_,_,rfl⟩
 ·exact ⟨_,_,_,rfl⟩
theorem VR.toSlice {φ:dQ} {a:Option Addr} {n c:Nat} {v:Value} (h:VR φ (.slice a n c) v):∃a' n' c',v=.slice a' n' c':=by
 cases h<;>exact ⟨_,_,_,rfl⟩
theorem ag9 (φ:dQ) (x:HE) (cs:List Value) (h:F2 (VR φ) (fH x) cs):∃y:HC,cs=yw y∧(x.t,x.r)=(y.t,y.r):=by
 obtain ⟨a,n,c,e⟩:=OY x.q
 unfold fH at h
 rw[e] at h
 cases h with | cons h1 h=>
 cases h with | cons h2 h=>
 cases h with | cons h3 h=>
 cases h with | cons h4 h=>
 cases h
 cases h1; cases h2; cases h4
 obtain ⟨a',n',c',rfl⟩:=VR.toSlice h3
 exact ⟨⟨x.t,x.r,a',n',c',x.w⟩,rfl,rfl⟩
theorem Rz (a h:Heap) (K:List HE) (v:Value) (κ:KQ) (ho:sI a h v K) (hle:Le a h) (hl:K.length≤1000000)
  (hk:∀(D:List HE) h',D.Perm K→D.Pairwise (fun x y=>¬fO (y.t,y.r) (x.t,x.r))→sI a h' v D→Le a h'→(h'.nx=h.nx∧∀c,c<h.nx→h.bl.get c≠some (aa (K.flatMap fH) 81 true)→h'.bl.get c=h.bl.get c)→κ (.tuple ⟨[]⟩) h'):CallW Tryz.prog 104 [v,.func (.func 105) #[] #[]] h κ:=by
 rcases ho with ⟨rfl,hv⟩ | ⟨b,hv,h1,h2,h3,h4⟩
 ·exact As uH zw hv (hk [] h (List.Perm.refl _) List.Pairwise.nil (.inl ⟨rfl,hv⟩) hle ⟨rfl,fun _ _ _=>rfl⟩)
 ·cases hv
  refine Ce (by decide) (enc:=yw) (cN:=fH) (fun _=>rfl) cg (kA:=fun x=>(x.t,x.r)) (kC:=fun x=>(x.t,x.r)) (lt:=fun x y=>ltOf PN x y) ag9 uH Ck h4 h3 hl ?_
  intro D hp hs
  refine hk D _ hp (hs.imp fun {x y} h=>Jv.1 h) (.inr ⟨b,by rw[hp.length_eq],h1,h2,h3,T.af _ _ _⟩) ⟨hle.nx,hle.lo,fun c hc=>?_⟩ ⟨rfl,fun c hc hne=>?_⟩
  ·exact (T.ai _ _ (by omega)).trans (hle.get c hc)
  ·refine T.ai _ _ ?_
   rintro rfl
   exact hne h4
structure acE (h:Heap) (Ts:List TB) (v:Value) (K:List HE):Prop where
 perm:(K.map bB).Perm (Ts.flatMap fun b=>b.M.map bB)
 qN:(K.map bB).Pairwise fO
 each:∀k∈K,(∃b∈Ts,∃e∈b.M,Au k e)∧QV h k.q k.Q
 sl:Sl fH h v K
 ty:uR 81 h v
theorem uG.keep {h h':Heap} {tb bw bp bl:Nat} {c:dF} {vb:Value} {aF:Nat} {Ts:List TB} {W:List IE} {wc:Nat} {F:List Int} {B:List Bool} (s:dB h tb bw bp bl c vb aF Ts W wc F B) (f:uG Ts bw bp bl h h') {d:Nat} {vs:List Value} {ty:TypeId} {op:Bool} (hd:d<h.nx) (hg:h.bl.get d=some (aa vs ty op)) (h1:ty≠225) (h2:ty≠4) (h3:ty≠3):h'.bl.get d=h.bl.get d:=by
 obtain ⟨fs,sZ,hpt⟩:=s.bX.fr.cell
 have gl:=s.bX.cell
 have gw:=s.jX
 refine f.get d hd (fun b hb=>?_) (by rintro rfl; rw[hg] at gw; exact bE gw.symm) (by rintro rfl; rw[hg] at sZ; exact aL h1 sZ) (by rintro rfl; rw[hg] at gl; exact aL h2 gl) fun ws=>by rw[hg]; exact aL h3
 rintro rfl
 have gm:=(s.bk b hb).fM
 rw[hg] at gm
 exact bE gm.symm
section
variable {h:Heap} {tb bw bp bl:Nat} {c:dF} {vb:Value} {aF N:Nat} {Ts:List TB} {W:List IE} {wc:Nat} {F:List Int} {B:List Bool}
theorem kj.nodup (s:kj h tb bw bp bl c vb aF N Ts W wc F B):(Ts.flatMap fun b=>b.M.map bB).Nodup:=by
 rw[List.Nodup,List.pairwise_flatMap]
 constructor
 ·intro b hb
  rw[List.pairwise_map]
  exact (s.is.bk b hb).ok.nm.imp fun hn e=>hn ⟨congrArg Prod.fst e,congrArg Prod.snd e⟩
 ·rw[cZ]
  intro i j p q hij hp hq x hx y hy hxy
  obtain ⟨e,he,rfl⟩:=List.mem_map.1 hx
  obtain ⟨f,hf,rfl⟩:=List.mem_map.1 hy
  have h1:=s.nm i p hp e he
  have h2:=s.nm j q hq f hf
  have e1:e.t=f.t:=congrArg Prod.fst hxy
  have e2:e.r=f.r:=congrArg Prod.snd hxy
  rw[e1,e2,h2] at h1
  omega
theorem ko {α β:Type} (f:α→List β) {L:List α} {i:Nat} {b:α} (h:L[i]? = some b):(L.take (i+1)).flatMap f=(L.take i).flatMap f++f b:=by
 rw[List.take_add_one,h,List.flatMap_append]
 simp
theorem JI (s:kj h tb bw bp bl c vb aF N Ts W wc F B) (hlo:h.lo≤h.nx) (κ:KQ) (hk:∀v h' K,acE h' Ts v K→Le h h'→κ v h') :
  CallW Tryz.prog 65 [.pointer (some ⟨tb,0,none⟩)] h κ:=by
 refine an mixed ?_
 rw[aac]
 have gt:=s.is.kV
 have hs1:=s.is.s1
 obtain ⟨vx,vc,ev,_⟩:=(show Sl mU h vb Ts from s.is.sl)
 have acF:∀(β:Type) (fl:β) (h':Heap) (κ:Value→Heap→β),br fl vb h' κ=κ (.int .i64 (Ts.length:Int)) h':=fun β fl h' κ=>by rw[ev]; exact iK _ _ _ _ _
 simp(disch:=first|omega|simp only[Wd]<;>omega|rfl)only[Wz,pI,aJ,gt,acF]
 have amo:=s.is.hd
 refine ⟨fun n l h1=>∃(i:Nat) (K:List HE),slot l 10=.int .i64 (i:Int)∧n=Ts.length-i∧i≤Ts.length∧(K.map bB).Perm ((Ts.take i).flatMap fun b=>b.M.map bB)∧(∀k∈K,(∃b∈Ts,∃e∈b.M,Au k e)∧QV h1 k.q k.Q)∧K.length≤64*i∧sI h h1 (slot l 8) K∧Le h h1,
  ⟨_,0,[],rfl,rfl,by omega,by simp,fun k hk=>(nomatch hk),by simp,.inl ⟨rfl,.inl rfl⟩,Le.refl _⟩,?_⟩
 rintro n l h1 ⟨i,K,s1,rfl,hi,hp,hE,Jk,ho,bA⟩
 have n1:=bA.nx
 have l1:=bA.lo
 by_cases hlt:i<Ts.length
 ·obtain ⟨b,hb⟩:∃b,Ts[i]? = some b:=⟨_,List.getElem?_eq_getElem hlt⟩
  have YC:=List.mem_of_getElem? hb
  obtain ⟨cc,oo,_,Jr,eX⟩:=Rw s.is.sl i hb
  have eX:=eX h1 bA
  have sb:=(s.is.bk b YC).le bA
  have hbl:=s.len b YC
  simp(disch:=first|omega|simp only[Wd]<;>omega|rfl)only[Wz,BJ,s1,cq (show (i:Int)<(Ts.length:Int) by omega),Jr,eX]
  refine KM sb (by omega) (by omega) _ ?_
  intro v2 h2 K2 Tj hp2 hs2 hE2 mo bt
  have n2:=bt.nx
  have l2:=bt.lo
  refine cV (enc:=fH) (a:=h) (L:=K) (M:=K2) cg gO (by decide) (by decide) (ho.le bt) mo.sl (bA.trans bt) (by omega) (by omega) _ ?_
  intro v5 h5 tL ji _ n5 l5 nU
  have FF:∀d vs op,d<h2.nx→h2.bl.get d=some (aa vs 83 op)→h5.bl.get d=h2.bl.get d:=fun d vs op hc hg=>nU d hc (by rw[hg]; exact aL (by decide))
  refine ⟨_,by omega,i+1,K++K2,rfl,rfl,by omega,?_,?_,by rw[List.length_append]; omega,tL,ji⟩
  ·rw[ko _ hb,List.map_append]
   exact hp.append hp2
  ·intro k hk'
   rcases List.mem_append.1 hk' with hk' | hk'
   ·exact ⟨(hE k hk').1,((hE k hk').2.le bt).frame n5 FF⟩
   ·obtain ⟨e,he,se⟩:=(hE2 k hk').1
    exact ⟨⟨b,YC,e,he,se⟩,(hE2 k hk').2.frame n5 FF⟩
 ·have hil:i=Ts.length:=by omega
  subst hil
  rw[List.take_length] at hp
  simp(disch:=first|omega|simp only[Wd]<;>omega|rfl)only[Wz,BJ,s1,bP (show (Ts.length:Int)≤(Ts.length:Int) by omega)]
  refine Rz h h1 K _ _ ho bA (by omega) ?_
  intro D h' hD Xj ho' le' hfr
  have hnd:(D.map bB).Nodup:=(((hD.map bB).trans hp).nodup_iff).2 s.nodup
  refine hk _ h' D ⟨(hD.map bB).trans hp,?_,fun k hk'=>?_,ho'.sl,uR.own ho'⟩ le'
  ·have h1:(D.map bB).Pairwise fun x y=>¬fO y x:=by
    rw[List.pairwise_map]
    exact Xj.imp fun {x y} h=>h
   exact (hnd.and h1).imp fun {x y} ⟨hne,hn⟩=>Jt (fun e=>hne e.symm) hn
  ·have:=hE k (hD.mem_iff.1 hk')
   exact ⟨this.1,this.2.frame (by omega) fun d vs op hc hg=>hfr.2 d hc (by rw[hg]; exact aL (by decide))⟩
end
structure L4 where
 x:Int
 t:Int
 r:Int
 m:Int
theorem Xz {p q:L4}:p=q↔(p.x=q.x∧p.t=q.t∧p.r=q.r∧p.m=q.m):=by cases p; cases q; simp
instance:DecidableEq L4:=fun p q=>decidable_of_iff _ Xz.symm
instance:Inhabited L4:=⟨⟨0,0,0,0⟩⟩
def gV (a:L4):List Value:=[.int .i64 a.x,.int .i64 a.t,.int .i64 a.r,.int .i64 a.m]
theorem mV (a:L4):(gV a).length=4:=rfl
theorem yx (a:L4):(gV a).all ew=true:=rfl
def OZ (a b:L4):Int:=if qt a.x b.x=0 then pz a.t a.r b.t b.r else qt a.x b.x
def qO (a b:L4):Prop:=a.x<b.x∨(a.x=b.x∧fO (a.t,a.r) (b.t,b.r))
theorem Cl (a b:L4):ltOf OZ a b=true↔qO a b:=by
 show decide (OZ a b<0)=true↔_
 rw[decide_eq_true_eq]
 have:=EN (a.t,a.r) (b.t,b.r)
 unfold OZ qO
 split
 ·rename_i h
  have hx:a.x=b.x:=by unfold qt at h; split at h<;>(try split at h)<;>omega
  rw[this]
  constructor
  ·exact fun h=>.inr ⟨hx,h⟩
  ·rintro (h | h)
   ·omega
   ·exact h.2
 ·rename_i h
  unfold qt at *
  split
  ·exact ⟨fun _=>.inl (by assumption),fun _=>by decide⟩
  ·rename_i h1
   rw[if_neg h1] at h
   split
   ·exact ⟨fun h=>by omega,fun h=>by rcases h with h | h<;>omega⟩
   ·rename_i h2; rw[if_neg h2] at h; exact absurd rfl h
theorem O0 {a b:L4}:ltOf OZ a b=false↔¬qO a b:=by rw[←Cl,Bool.not_eq_true]
theorem KV {a b c:L4} (h1:qO a b) (h2:qO b c):qO a c:=by unfold qO fO at *; simp only at *; omega
theorem ag_:Go.Sort.SWO (ltOf OZ) where
 irrefl x:=O0.2 (by unfold qO fO; simp only; omega)
 trans x y z h1 h2:=(Cl _ _).2 (KV ((Cl _ _).1 h1) ((Cl _ _).1 h2))
 ntrans x y z h1 h2:=by
  rw[O0] at *
  unfold qO fO at *
  simp only at *
  omega
theorem XB (a b:L4) {h:Heap} {κ:Value→Heap→Prop} (hk:κ (.int .i64 (OZ a b)) h):CallW Tryz.prog 89 [.agg ⟨gV a⟩,.agg ⟨gV b⟩] h κ:=by
 refine fF (v:=.int .i64 (OZ a b)) rfl rfl (an mixed ?_) hk
 rw[aaB]
 simp(disch:=first|omega|simp only[Wd]<;>omega|rfl)only[Wz,gV]
 refine rE _ _ ?_
 simp(disch:=first|omega|simp only[Wd]<;>omega|rfl)only[Wz]
 refine pE _ _ _ _ ?_
 simp(disch:=first|omega|simp only[Wd]<;>omega|rfl)only[Wz]
 refine abR _ _ _ _ (Sl.new (L:=[qt a.x b.x,pz a.t a.r b.t b.r]) (e:=3) (op:=false) (Nat.lt_succ_self _) (T.af _ _ _) _) _ ?_
 rfl
theorem O1 (blk size:Nat) (w:World):Go.Proofs.CmpLays Tryz.prog 89 #[] gV 4 OZ blk 0 size w:=by
 intro m os dk _ x y
 exact rH (args:=[.agg ⟨gV x⟩,.agg ⟨gV y⟩]) (args':=[.agg ⟨gV x⟩,.agg ⟨gV y⟩]) (XB x y rfl)
  (.cons (VR.qU (.cons (.int _ _) (.cons (.int _ _) (.cons (.int _ _) (.cons (.int _ _) .nil))))) (.cons (VR.qU (.cons (.int _ _) (.cons (.int _ _) (.cons (.int _ _) (.cons (.int _ _) .nil))))) .nil)) rfl _
theorem uI:∀args w,(callFunc 88 args).run Tryz.prog w=.ok (.enter 88 args) w:=enters_of Tryz.func88 (by kernel_rfl) rfl
theorem Cm (blk cap:Nat) (d:Array L4) (w:World) (hH:Go.Sort.HoldsK gV 4 w blk 0 d) (hblk:blk<w.heap.size) (hsz:d.size<4611686018427387904) :
  Calls Tryz.prog 88 #[.slice (some ⟨blk,0,none⟩) d.size cap,.func (.func 89) #[] #[]] w fun e w'=>e=.returned (.tuple #[])∧∃d' n os,Go.Sort.PermIn 0 d.size d d'∧Go.Sort.SortedIn (fun x y=>ltOf OZ x y) 0 d.size d'∧w'=Go.Proofs.sortWorldK gV 4 w blk 0 n d' os:=by
 have eg:∀args w,(callFunc 89 args).run Tryz.prog w=.ok (.enter 89 args) w:=enters_of Tryz.func89 (by kernel_rfl) rfl
 exact Go.Proofs.AnyQ.slices_SortFunc Tryz.E0 4 Tryz.isAgg60 Tryz.sizeOf60 gV (fun _=>rfl) (fun x v hv=>by simp[gV] at hv; rcases hv with rfl | rfl | rfl | rfl<;>rfl) OZ ag_ 89 #[] blk 0 cap d w eg (O1 blk d.size w) hH hblk hsz
theorem zx (p:Option Addr) (cap:Nat) (fv:Value) (w:World):Calls Tryz.prog 88 #[.slice p 0 cap,fv] w fun e w'=>e=.returned (.tuple #[])∧w'=w:=Go.Proofs.AnyF.slices_SortFunc_none Tryz.E0 p cap fv w
theorem aha (φ:dQ) (x:L4) (cs:List Value) (h:F2 (VR φ) (gV x) cs):∃y:L4,cs=gV y∧x=y:=by
 unfold gV at h
 cases h with | cons h1 h=>
 cases h with | cons h2 h=>
 cases h with | cons h3 h=>
 cases h with | cons h4 h=>
 cases h
 cases h1; cases h2; cases h3; cases h4
 exact ⟨x,rfl,rfl⟩
abbrev zy (a h:Heap) (v:Value) (L:List L4):Prop:=dh gV a 60 h v L
theorem RE (a h:Heap) (L:List L4) (v:Value) (κ:KQ) (ho:zy a h v L) (hle:Le a h) (hl:L.length≤1000000)
  (hk:∀(D:List L4) h',D.Perm L→D.Pairwise (fun x y=>¬qO y x)→zy a h' v D→Le a h'→κ (.tuple ⟨[]⟩) h'):CallW Tryz.prog 88 [v,.func (.func 89) #[] #[]] h κ:=by
 rcases ho with ⟨rfl,hv⟩ | ⟨b,hv,h1,h2,h3,h4⟩
 ·exact As uI zx hv (hk [] h (List.Perm.refl _) List.Pairwise.nil (.inl ⟨rfl,hv⟩) hle)
 ·cases hv
  refine Ce (by decide) (enc:=gV) (cN:=gV) mV mV (kA:=id) (kC:=id) (lt:=fun x y=>ltOf OZ x y) aha uI Cm h4 h3 hl ?_
  intro D hp hs
  refine hk D _ hp (hs.imp fun {x y} h=>O0.1 h) (.inr ⟨b,by rw[hp.length_eq],h1,h2,h3,T.af _ _ _⟩) ⟨hle.nx,hle.lo,fun c hc=>?_⟩
  exact (T.ai _ _ (by omega)).trans (hle.get c hc)
def fQ (t r:Int) (Q:List R5):List L4:=(Q.filter fun p=>decide (p.m≠0)).map fun p=>⟨p.x,t,r,p.m⟩
def jc (e:HE):List L4:=fQ e.t e.r e.Q
theorem G4 {t r:Int} {Q:List R5} {j:Nat} {p:R5} (h:Q[j]? = some p):fQ t r (Q.take (j+1))=fQ t r (Q.take j)++(if p.m≠0 then [⟨p.x,t,r,p.m⟩] else []):=by
 unfold fQ
 rw[List.take_add_one,h]
 simp only[Option.toList_some,List.filter_append,List.map_append]
 congr 1
 by_cases hm:p.m≠0
 ·rw[if_pos hm,List.filter_cons_of_pos (by simpa using hm)]; rfl
 ·rw[if_neg hm,List.filter_cons_of_neg (by simpa using hm)]; rfl
theorem qm {t r:Int} (Q:List R5):(fQ t r Q).length≤Q.length:=by
 unfold fQ
 rw[List.length_map]
 exact List.length_filter_le _ _
structure Fb (h:Heap) (Ts:List TB) (v:Value) (D:List L4) (K:List HE):Prop where
 names:(K.map bB).Perm (Ts.flatMap fun b=>b.M.map bB)
 ahb:(K.map bB).Pairwise fO
 each:∀k∈K,∃b∈Ts,∃e∈b.M,Au k e
 perm:D.Perm (K.flatMap jc)
 qN:D.Pairwise fun x y=>¬qO y x
 sl:Sl gV h v D
 ty:uR 60 h v
section
variable {h:Heap} {tb bw bp bl:Nat} {c:dF} {vb:Value} {aF N:Nat} {Ts:List TB} {W:List IE} {wc:Nat} {F:List Int} {B:List Bool}
theorem G6 {K:List HE} {i:Nat} {e:HE} (h:K[i]? = some e):(K.take (i+1)).flatMap jc=(K.take i).flatMap jc++jc e:=ko jc h
theorem yy {K:List HE} (hs:∀k∈K,k.Q.length≤128):(K.flatMap jc).length≤128*K.length:=by
 induction K with
 | nil=>simp
 | cons k K ih=>
  rw[List.flatMap_cons,List.length_append,List.length_cons]
  have h1:=ih fun x hx=>hs x (.tail _ hx)
  have h2:=qm (t:=k.t) (r:=k.r) k.Q
  have h3:=hs k (.head _)
  have h4:(jc k).length≤128:=Nat.le_trans h2 h3
  omega
theorem RF (s:kj h tb bw bp bl c vb aF N Ts W wc F B) (hlo:h.lo≤h.nx) (κ:KQ) (hk:∀v h' D K,Fb h' Ts v D K→zy h h' v D→Le h h'→κ v h') :
  CallW Tryz.prog 53 [.pointer (some ⟨tb,0,none⟩)] h κ:=by
 refine an mixed ?_
 rw[Z2]
 refine JI s hlo _ ?_
 intro v0 h0 K t0 CB
 have n0:=CB.nx
 have l0:=CB.lo
 obtain ⟨x0,c0,ev0,_⟩:=(show Sl fH h0 v0 K from t0.sl)
 have sN:∀(β:Type) (fl:β) (h':Heap) (κ:Value→Heap→β),br fl v0 h' κ=κ (.int .i64 (K.length:Int)) h':=fun β fl h' κ=>by rw[ev0]; exact iK _ _ _ _ _
 have hKs:∀k∈K,k.Q.length≤128:=by
  intro k hk'
  obtain ⟨⟨b,hb,e,he,se⟩,_⟩:=t0.each k hk'
  have:=((s.is.bk b hb).good e he).small
  rw[se.2.2.2]; exact this
 have Jk:K.length≤1024:=by
  have h1:=t0.perm.length_eq
  rw[List.length_map] at h1
  rw[h1]
  have h2:=s.is.s1.2
  have h3:=s.is.hd
  have:∀L:List TB,(∀b∈L,b.M.length≤64)→(L.flatMap fun b=>b.M.map bB).length≤64*L.length:=by
   intro L
   induction L with
   | nil=>intro _; simp
   | cons b L ih=>
    intro hL
    rw[List.flatMap_cons,List.length_append,List.length_map,List.length_cons]
    have h1:=ih fun x hx=>hL x (.tail _ hx)
    have h2:=hL b (.head _)
    omega
  have:=this Ts fun b hb=>by have:=s.len b hb; omega
  omega
 have amq:=yy hKs
 have htk:∀i,((K.take i).flatMap jc).length≤131072:=by
  intro i
  have h1:=yy (K:=K.take i) fun k hk'=>hKs k (List.mem_of_mem_take hk')
  have h2:(K.take i).length≤K.length:=by rw[List.length_take]; omega
  omega
 simp(disch:=first|omega|simp only[Wd]<;>omega|rfl)only[Wz,sN]
 refine ⟨fun n l h1=>∃i:Nat,slot l 28=.int .i64 (i:Int)∧n=K.length-i∧i≤K.length∧zy h0 h1 (slot l 24) ((K.take i).flatMap jc)∧Le h0 h1,
  ⟨_,0,rfl,rfl,by omega,.inl ⟨by simp,.inl rfl⟩,Le.refl _⟩,?_⟩
 rintro n l h1 ⟨i,s1,rfl,hi,ho,bA⟩
 have n1:=bA.nx
 have l1:=bA.lo
 by_cases hlt:i<K.length
 ·obtain ⟨e,he⟩:∃e,K[i]? = some e:=⟨_,List.getElem?_eq_getElem hlt⟩
  have heK:=List.mem_of_getElem? he
  have qv:=(t0.each e heK).2
  obtain ⟨b0,o0,hb0,hx0,Ma⟩:=GV t0.sl i he (pF qv.1)
  have R1:=Ma h1 bA
  have qv1:=qv.le bA
  obtain ⟨qx,qc,eq,_⟩:=(show Sl bq h1 e.q e.Q from qv1.1)
  have Cv:=hKs e heK
  rw[eq] at R1
  simp(disch:=first|omega|simp only[Wd]<;>omega|rfl)only[Wz,s1,cq (show (i:Int)<(K.length:Int) by omega),IW,hx0,R1]
  rw[←eq] at R1
  obtain ⟨h2,e2⟩:∃h2:Heap,h2=⟨h1.nx+1,h1.bl.aY h1.nx (aa [.int .i64 e.t,.int .i64 e.r,.slice qx e.Q.length qc,.int .i64 e.w] 81 false),h1.lo⟩:=⟨_,rfl⟩
  have bt:Le h1 h2:=by rw[e2]; exact (Le.refl h1).new _
  have g2:h2.bl.get h1.nx=some (aa [.int .i64 e.t,.int .i64 e.r,.slice qx e.Q.length qc,.int .i64 e.w] 81 false):=by rw[e2]; exact T.af _ _ _
  have nx2:h2.nx=h1.nx+1:=by rw[e2]
  try rw[←e2]
  clear e2
  have n2:=bt.nx
  have l2:=bt.lo
  have qv2:=qv1.le bt
  refine ⟨fun m l3 h3=>∃j:Nat,slot l3 19=.int .i64 (j:Int)∧m=e.Q.length-j∧j≤e.Q.length∧zy h0 h3 (slot l3 17) ((K.take i).flatMap jc++fQ e.t e.r (e.Q.take j))∧Le h0 h3∧h1.nx<h3.nx∧h3.bl.get h1.nx=some (aa [.int .i64 e.t,.int .i64 e.r,.slice qx e.Q.length qc,.int .i64 e.w] 81 false)∧QV h3 e.q e.Q,
   ⟨_,0,rfl,rfl,by omega,?_,bA.trans bt,by omega,g2,qv2⟩,?_⟩
  ·rw[List.take_zero]
   have:fQ e.t e.r []=[]:=rfl
   rw[this,List.append_nil]
   exact ho.le bt
  rintro m l3 h3 ⟨j,s3,rfl,hj,og,c9,n3,g3,q3⟩
  have n3':=c9.nx
  have l3':=c9.lo
  by_cases hjl:j<e.Q.length
  ·obtain ⟨p,hp⟩:∃p,e.Q[j]? = some p:=⟨_,List.getElem?_eq_getElem hjl⟩
   obtain ⟨b4,o4,_,YG,Rc,_⟩:=xM q3.1 j hp
   rw[eq] at YG
   have hmono:=qm (t:=e.t) (r:=e.r) (e.Q.take j)
   have ams:=htk i
   have htl:(e.Q.take j).length≤e.Q.length:=by rw[List.length_take]; omega
   simp(disch:=first|omega|simp only[Wd]<;>omega|rfl)only[Wz,s3,cq (show (j:Int)<(e.Q.length:Int) by omega),BC]
   refine ⟨fun l' h'=>∃L',L'=(K.take i).flatMap jc++fQ e.t e.r (e.Q.take (j+1))∧zy h0 h' (slot l' 16) L'∧Le h0 h'∧h1.nx<h'.nx∧h'.bl.get h1.nx=some (aa [.int .i64 e.t,.int .i64 e.r,.slice qx e.Q.length qc,.int .i64 e.w] 81 false)∧QV h' e.q e.Q,?_,?_⟩
   rotate_left
   ·rintro l' h' ⟨L',rfl,hL,hle,hn,hg,hq⟩
    exact ⟨_,by omega,j+1,rfl,rfl,by omega,hL,hle,hn,hg,hq⟩
   simp(disch:=first|omega|simp only[Wd]<;>omega|rfl)only[Wz,IV,s3,YG,Rc,bq]
   obtain ⟨h5,e5⟩:∃h5:Heap,h5=⟨h3.nx+1,h3.bl.aY h3.nx (ic p),h3.lo⟩:=⟨_,rfl⟩
   have ji:Le h3 h5:=by rw[e5]; exact (Le.refl h3).new _
   have g5:h5.bl.get h3.nx=some (ic p):=by rw[e5]; exact T.af _ _ _
   have nx5:h5.nx=h3.nx+1:=by rw[e5]
   try rw[←e5]
   clear e5
   have l5:=ji.lo
   have WQ:=(ji.get _ n3).trans g3
   have hstep:=G4 (t:=e.t) (r:=e.r) hp
   by_cases hm:p.m=0
   ·simp(disch:=first|omega|simp only[Wd]<;>omega|rfl)only[Wz,a_ hm]
    refine ⟨_,rfl,?_,c9.trans ji,by omega,?_,q3.le ji⟩
    ·rw[hstep,if_neg (by omega),List.append_nil]
     exact og.le ji
    ·first | exact WQ | exact g3
   ·simp(disch:=first|omega|simp only[Wd]<;>omega|rfl)only[Wz,aN hm,IU,g5,WQ]
    obtain ⟨h6,e6⟩:∃h6:Heap,h6=⟨h5.nx+1,h5.bl.aY h5.nx (aa [.int .i64 p.x,.int .i64 e.t,.int .i64 e.r,.int .i64 p.m] 60 false),h5.lo⟩:=⟨_,rfl⟩
    have qs:Le h5 h6:=by rw[e6]; exact (Le.refl h5).new _
    have g6:h6.bl.get h5.nx=some (aa ([(⟨p.x,e.t,e.r,p.m⟩:L4)].flatMap gV) 60 false):=by rw[e6]; exact T.af _ _ _
    have nx6:h6.nx=h5.nx+1:=by rw[e6]
    have l6:h6.lo=h5.lo:=by rw[e6]
    try rw[←e6]
    clear e6
    have G7:=ji.trans qs
    have g36:=(qs.get _ (by omega)).trans WQ
    refine cV (enc:=gV) (a:=h0) (L:=(K.take i).flatMap jc++fQ e.t e.r (e.Q.take j)) (M:=[(⟨p.x,e.t,e.r,p.m⟩:L4)]) mV yx (by decide) (by decide) (og.le G7) (Sl.new (by omega) g6 _) (c9.trans G7) (by rw[List.length_append]; simp only[List.length_cons,List.length_nil]; omega) (by omega) _ ?_
    intro v7 h7 Oe Ao _ n7 l7 TX
    refine ⟨_,rfl,?_,Ao,by omega,(TX _ (by omega) (by rw[g36]; exact aS)).trans g36,(q3.le G7).frame n7 fun d vs op hc hg=>TX d hc (by rw[hg]; exact aL (by decide))⟩
    rw[hstep,if_pos hm,←List.append_assoc]
    exact Oe
  ·have hjQ:j=e.Q.length:=by omega
   subst hjQ
   simp(disch:=first|omega|simp only[Wd]<;>omega|rfl)only[Wz,s3,bP (show (e.Q.length:Int)≤(e.Q.length:Int) by omega),BC,s1]
   refine ⟨_,by omega,i+1,rfl,rfl,by omega,?_,c9⟩
   rw[G6 he]
   rw[List.take_length] at og
   exact og
 ·have hil:i=K.length:=by omega
  subst hil
  rw[List.take_length] at ho
  simp(disch:=first|omega|simp only[Wd]<;>omega|rfl)only[Wz,s1,bP (show (K.length:Int)≤(K.length:Int) by omega)]
  refine RE h0 h1 _ _ _ ho bA (by omega) ?_
  intro D h' hD Xj ho' le'
  exact hk _ h' D K ⟨t0.perm,t0.qN,fun k hk'=>(t0.each k hk').1,hD,Xj,ho'.sl,uR.own ho'⟩ (dh.base ho' (by omega)) (CB.trans le')
theorem XC (s:kj h tb bw bp bl c vb aF N Ts W wc F B) (hlo:h.lo≤h.nx) (κ:KQ) (hk:∀v h' D K,Fb h' Ts v D K→Le h h'→κ v h') :
  CallW Tryz.prog 53 [.pointer (some ⟨tb,0,none⟩)] h κ:=RF s hlo κ fun v h' D K t _ l=>hk v h' D K t l
end
theorem RG (id:Int) (h:Heap) (κ:KQ) (hk:κ (.pointer none) h):CallW Tryz.prog 243 [.pointer none,.int .i64 id] h κ:=by
 refine an mixed ?_
 rw[Nj]
 simp(disch:=first|omega|simp only[Wd]<;>omega|rfl)only[Wz,ym]
 exact hk
theorem O2 (id:Int) (h:Heap) (κ:KQ) (hlo:h.lo≤h.nx) (hk:∀h',Le h h'→κ (.tuple ⟨[dn 0 0,jI ⟨0,0,0,0,0⟩,.bool false]⟩) h'):CallW Tryz.prog 202 [.pointer none,.int .i64 id] h κ:=by
 refine an mixed ?_
 rw[Ni]
 simp(disch:=first|omega|simp only[Wd]<;>omega|rfl)only[Wz]
 obtain ⟨hA,az⟩:∃hA:Heap,hA=⟨h.nx+1+1,((h.bl.aY (h.nx) (aa [.int .i64 0,.int .i64 0] 36 false)).aY (h.nx+1) (ic ⟨0,0,0,0,0⟩)),h.lo⟩:=⟨_,rfl⟩
 have aK:Le h hA:=by subst az; exact (((Le.refl h).new _).new _)
 have g1:hA.bl.get (h.nx)=some (aa [.int .i64 0,.int .i64 0] 36 false):=by subst az; exact (T.ai _ _ (by omega)).trans (T.af _ _ _)
 have g3:hA.bl.get (h.nx+1)=some (ic ⟨0,0,0,0,0⟩):=by subst az; exact T.af _ _ _
 have d_:hA.nx=h.nx+1+1:=by subst az; rfl
 have ee:hA.lo=h.lo:=by subst az; rfl
 rw[←az]
 clear az
 refine RG id hA _ ?_
 simp(disch:=first|omega|simp only[Wd]<;>omega|rfl)only[Wz,sD,g1,g3,bq]
 exact hk _ ((aK.set (by omega) _).set (by omega) _)
section
variable {h:Heap} {tb bw bp bl:Nat} {c:dF} {vb:Value} {aF N:Nat} {Ts:List TB} {W:List IE} {wc:Nat} {F:List Int} {B:List Bool}
theorem XD (s:kj h tb bw bp bl c vb aF N Ts W wc F B) (hlo:h.lo≤h.nx) (id:Int) (κ:KQ)
  (ig:∀h',(∀b∈Ts,∀e∈b.M,bJ e.Q id=none)→Le h h'→κ (.tuple ⟨[dn 0 0,jI ⟨0,0,0,0,0⟩,.bool false]⟩) h')
  (iJ:∀h' b e p,b∈Ts→e∈b.M→bJ e.Q id=some p→Le h h'→κ (.tuple ⟨[dn e.t e.r,jI p,.bool true]⟩) h') :
  CallW Tryz.prog 152 [.pointer (some ⟨tb,0,none⟩),.int .i64 id] h κ:=by
 refine an mixed ?_
 rw[VM]
 simp(disch:=first|omega|simp only[Wd]<;>omega|rfl)only[Wz]
 obtain ⟨hA,az⟩:∃hA:Heap,hA=⟨h.nx+1+1,((h.bl.aY (h.nx) (aa [.int .i64 0,.int .i64 0] 36 false)).aY (h.nx+1) (ic ⟨0,0,0,0,0⟩)),h.lo⟩:=⟨_,rfl⟩
 have aK:Le h hA:=by subst az; exact (((Le.refl h).new _).new _)
 have g1:hA.bl.get (h.nx)=some (aa [.int .i64 0,.int .i64 0] 36 false):=by subst az; exact (T.ai _ _ (by omega)).trans (T.af _ _ _)
 have g3:hA.bl.get (h.nx+1)=some (ic ⟨0,0,0,0,0⟩):=by subst az; exact T.af _ _ _
 have d_:hA.nx=h.nx+1+1:=by subst az; rfl
 have ee:hA.lo=h.lo:=by subst az; rfl
 rw[←az]
 clear az
 refine OT (s.le aK) (by omega) id _ ?_ ?_
 ·intro hno
  refine O2 id hA _ (by omega) ?_
  intro h2 bt
  have kT:=bt.nx
  have kU:=bt.lo
  have g1:=(bt.get _ (by omega)).trans g1
  have g3:=(bt.get _ (by omega)).trans g3
  simp(disch:=first|omega|simp only[Wd]<;>omega|rfl)only[Wz,dn,bq,g1,g3]
  exact ig _ hno (((aK.trans bt).set (by omega) _).set (by omega) _)
 ·intro k b e p hk he hf
  have hb:=List.mem_of_getElem? hk
  refine Re ((s.le aK).is.bk b hb) (by omega) id _ ?_ ?_
  ·intro h2 hno _
   rw[hno e he] at hf; cases hf
  ·intro h2 e2 p2 he2 hf2 bt
   have kT:=bt.nx
   have kU:=bt.lo
   have g1:=(bt.get _ (by omega)).trans g1
   have g3:=(bt.get _ (by omega)).trans g3
   simp(disch:=first|omega|simp only[Wd]<;>omega|rfl)only[Wz,dn,bq,g1,g3]
   exact iJ _ b e2 p2 hb he2 hf2 (((aK.trans bt).set (by omega) _).set (by omega) _)
end
structure RB where
 rb:Nat
 v:Value
 K:List HE
def pJ (b:RB):List Value:=[.pointer (some ⟨b.rb,0,none⟩)]
theorem AF (b:RB):(pJ b).length=1:=rfl
theorem KW (b:RB):(pJ b).all ew=true:=rfl
def uJ (x y:RB):Prop:=x.rb≠y.rb∧∀c,qM x.v c→¬qM y.v c
theorem uJ.symm {x y:RB} (h:uJ x y):uJ y x:=⟨fun e=>h.1 e.symm,fun c h1 h2=>h.2 c h2 h1⟩
structure fI (a h:Heap) (rt rp rl:Nat) (c:dF) (vr:Value) (aF:Nat) (R:List RB) (B:List Bool):Prop where
 lt:rt<h.nx
 cell:h.bl.get rt=some (aa [.int .i64 c.S,.int .i64 c.H,.int .i64 c.R,.int .i64 c.P,vr,.pointer (some ⟨rp,0,none⟩)] 90 false)
 sl:Sl pJ h vr R
 ty:uR 91 h vr
 bk:∀b∈R,jl a h b.rb rp aF b.v b.K
 sM:R.Pairwise uJ
 bX:cF h rp rl B
 cS:c.S=R.length
 s1:1≤R.length∧R.length≤16
end Go.Proofs
namespace Go.Vai
open Go.Proofs Go.Clashes
theorem dh.acH {α:Type} {enc:α→List Value} {a h h':Heap} {e:TypeId} {v:Value} {L:List α} (ho:dh enc a e h v L) (hn:h.nx≤h'.nx) (hl:h'.lo=h.lo) (hg:∀b,b<h.nx→qM v b→h.bl.get b=some (aa (L.flatMap enc) e true)→h'.bl.get b=h.bl.get b):dh enc a e h' v L:=by
 rcases ho with h1 | ⟨b,rfl,h1,h2,h3,h4⟩
 ·exact .inl h1
 ·exact .inr ⟨b,rfl,h1,Nat.lt_of_lt_of_le h2 hn,by rw[hl]; exact h3,(hg b h2 ⟨_,rfl⟩ h4).trans h4⟩
end Go.Vai
namespace Go.Proofs
open Go.Vai Go.Clashes
theorem jl.aside {a h h':Heap} {rb rp rl most Av rb2 rp2:Nat} {v v2:Value} {K K2:List HE} {B:List Bool} (R:jl a h rb rp most v K) (R2:jl a h rb2 rp2 Av v2 K2) (p:cF h rp rl B) (f:jk (SK rb2 rl v2) h h') (hne:rb≠rb2) (hb:∀c,qM v c→¬qM v2 c):jl a h' rb rp most v K:=by
 have c1:=R.cell
 have c2:=R2.cell
 have cl:=p.gP
 refine ⟨Nat.lt_of_lt_of_le R.lt f.nx,by rw[f.lo]; exact R.lo,(f.get _ R.lt ?_).trans c1,R.own.acH f.nx f.lo fun b hb1 hbv hg=>f.get b hb1 ?_,R.emp,fun k hk=>(R.qv k hk).keep f.nx f.lo fun b vs hb1 hg=>f.get b hb1 ?_⟩
 ·rintro (e | rfl | e)
  ·exact hne e
  ·exact aL (by decide) (c1.symm.trans cl)
  ·exact aL (by decide) (c1.symm.trans (R2.own.blk e).2.2)
 ·rintro (rfl | rfl | e)
  ·exact aL (by decide) (hg.symm.trans c2)
  ·exact aL (by decide) (hg.symm.trans cl)
  ·exact hb b hbv e
 ·rintro (rfl | rfl | e)
  ·exact aL (by decide) (hg.symm.trans c2)
  ·exact aL (by decide) (hg.symm.trans cl)
  ·exact aL (by decide) (hg.symm.trans (R2.own.blk e).2.2)
theorem KX {R:List RB} {k:Nat} {b:RB} (hk:R[k]? = some b) (v':Value) (K':List HE):(R.set k ⟨b.rb,v',K'⟩).flatMap pJ=R.flatMap pJ:=by
 obtain ⟨hl,rfl⟩:=List.getElem?_eq_some_iff.1 hk
 rw[List.flatMap_def,List.flatMap_def,List.map_set]
 congr 1
 refine List.ext_getElem? fun i=>?_
 rw[List.getElem?_set]
 split
 ·rename_i e; subst e
  rw[if_pos (by simpa using hl),List.getElem?_map,List.getElem?_eq_getElem hl]; rfl
 ·rfl
section
variable {a h h':Heap} {rt rp rl:Nat} {c:dF} {vr:Value} {aF:Nat} {R:List RB} {B B':List Bool}
theorem fI.keep (t:fI a h rt rp rl c vr aF R B) (hn:h.nx≤h'.nx) (hl:h'.lo=h.lo)
  (hg:∀d vs ty op,d<h.nx→h.bl.get d=some (aa vs ty op)→(ty=90∨ty=91∨ty=134∨ty=81∨ty=83∨ty=132∨d=rl)→h'.bl.get d=h.bl.get d):fI a h' rt rp rl c vr aF R B:=by
 have k1:=Sl.tZ t.sl t.ty hn fun d vs op hd g=>hg d vs _ op hd g (.inr (.inl rfl))
 refine ⟨Nat.lt_of_lt_of_le t.lt hn,(hg _ _ _ _ t.lt t.cell (.inl rfl)).trans t.cell,k1.1,k1.2,fun b hb=>(t.bk b hb).keep hn hl fun d vs ty op hd g ht=>hg d vs ty op hd g ?_,t.sM,t.bX.keep hn hl (hg _ _ _ _ t.bX.Lw t.bX.nV (.inr (.inr (.inr (.inr (.inr (.inl rfl))))))) (hg _ _ _ _ t.bX.FG t.bX.gP (.inr (.inr (.inr (.inr (.inr (.inr rfl))))))),t.cS,t.s1⟩
 rcases ht with e | ⟨e,_⟩ | e
 ·exact .inr (.inr (.inl e))
 ·exact .inr (.inr (.inr (.inl e)))
 ·exact .inr (.inr (.inr (.inr (.inl e))))
theorem fI.le (t:fI a h rt rp rl c vr aF R B) (l:Le h h'):fI a h' rt rp rl c vr aF R B:=t.keep l.nx l.lo fun d _ _ _ hd _ _=>l.get d hd
theorem fI.real (t:fI a h rt rp rl c vr aF R B) {tb bw bp bl hd wc:Nat} {c2:dF} {vb:Value} {Ts:List TB} {W:List IE} {F:List Int} {B2:List Bool} (s:dB h tb bw bp bl c2 vb hd Ts W wc F B2) (f:uG Ts bw bp bl h h') (hne:rl≠bl):fI a h' rt rp rl c vr aF R B:=by
 refine t.keep f.nx f.lo fun d vs ty op hd g ht=>?_
 by_cases hdl:d=rl
 ·subst hdl
  obtain ⟨fs,sZ,hpt⟩:=s.bX.fr.cell
  have gl:=t.bX.gP
  refine f.get d hd (fun b hb=>?_) (by rintro rfl; exact bE (s.jX.symm.trans gl)) (by rintro rfl; exact aL (by decide) (gl.symm.trans sZ)) hne fun ws=>by rw[gl]; exact aL (by decide)
  rintro rfl
  exact bE ((s.bk b hb).fM.symm.trans gl)
 ·have ht:ty≠225∧ty≠4∧ty≠3:=by
   rcases ht with e | e | e | e | e | e | e
   iterate 6 (subst e; exact ⟨by decide,by decide,by decide⟩)
   exact absurd e hdl
  exact f.keep s hd g ht.1 ht.2.1 ht.2.2
theorem fI.change (t:fI a h rt rp rl c vr aF R B) {k:Nat} {r:RB} (hk:R[k]? = some r) {v':Value} {K':List HE} (R':jl a h' r.rb rp aF v' K') (p':cF h' rp rl B') (f:jk (SK r.rb rl r.v) h h') (nb:mh h r.v v') :
  fI a h' rt rp rl c vr aF (R.set k ⟨r.rb,v',K'⟩) B':=by
 have hr:=t.bk r (List.mem_of_getElem? hk)
 have c1:=hr.cell
 have cl:=t.bX.gP
 have Fc:∀d vs ty op,d<h.nx→h.bl.get d=some (aa vs ty op)→(ty=90∨ty=91)→h'.bl.get d=h.bl.get d:=by
  intro d vs ty op hd g ht
  refine f.get d hd ?_
  rintro (rfl | rfl | e)
  ·rcases ht with rfl | rfl<;>exact aL (by decide) (g.symm.trans c1)
  ·rcases ht with rfl | rfl<;>exact aL (by decide) (g.symm.trans cl)
  ·rcases ht with rfl | rfl<;>exact aL (by decide) (g.symm.trans (hr.own.blk e).2.2)
 have k1:=Sl.tZ t.sl t.ty f.nx fun d vs op hd g=>Fc d vs _ op hd g (.inr rfl)
 have nbs:∀(j:Nat) (q:RB),R[j]? = some q→uJ q r→uJ q ⟨r.rb,v',K'⟩:=by
  intro j q hj hq
  refine ⟨hq.1,fun d hd hd'=>?_⟩
  have hlt:=((t.bk q (List.mem_of_getElem? hj)).own.blk hd).2.1
  exact hq.2 d hd (nb d hlt hd')
 have aps:∀(j:Nat) (q:RB),j≠k→R[j]? = some q→uJ q r:=by
  intro j q hjk hj
  rcases Nat.lt_trichotomy j k with hl | hl | hl
  ·exact cZ.1 t.sM j k q r hl hj hk
  ·exact absurd hl hjk
  ·exact (cZ.1 t.sM k j r q hl hk hj).symm
 refine ⟨Nat.lt_of_lt_of_le t.lt f.nx,(Fc _ _ _ _ t.lt t.cell (.inl rfl)).trans t.cell,Sl.congr k1.1 (List.length_set ..) (KX hk _ _),k1.2,?_,?_,p',by rw[List.length_set]; exact t.cS,by rw[List.length_set]; exact t.s1⟩
 ·intro x hx
  obtain ⟨j,hj⟩:=List.getElem?_of_mem hx
  rw[List.getElem?_set] at hj
  split at hj
  ·split at hj
   ·cases hj; exact R'
   ·cases hj
  ·rename_i hne
   have ap:=aps j x (fun e=>hne e.symm) hj
   exact (t.bk x (List.mem_of_getElem? hj)).aside hr t.bX f ap.1 ap.2
 ·exact rq t.sM (fun j q hj hq=>nbs j q hq (aps j q (by omega) hq)) fun j q hj hq=>(nbs j q hq (aps j q (by omega) hq)).symm
end
theorem dB.frK {a h h':Heap} {tb bw bp bl aF wc most rb rp rl:Nat} {c:dF} {vb v:Value} {Ts:List TB} {W:List IE} {F:List Int} {B B2:List Bool} {K:List HE} (s:dB h tb bw bp bl c vb aF Ts W wc F B) (R:jl a h rb rp most v K) (p:cF h rp rl B2) (hne:rl≠bl) (f:jk (SK rb rl v) h h'):dB h' tb bw bp bl c vb aF Ts W wc F B:=by
 have c1:=R.cell
 have cl:=p.gP
 have Fc:∀d vs ty op,d<h.nx→h.bl.get d=some (aa vs ty op)→(ty=147∨ty=182)→h'.bl.get d=h.bl.get d:=by
  intro d vs ty op hd g ht
  refine f.get d hd ?_
  rintro (rfl | rfl | e)
  ·rcases ht with rfl | rfl<;>exact aL (by decide) (g.symm.trans c1)
  ·rcases ht with rfl | rfl<;>exact aL (by decide) (g.symm.trans cl)
  ·rcases ht with rfl | rfl<;>exact aL (by decide) (g.symm.trans (R.own.blk e).2.2)
 have k1:=Sl.tZ s.sl s.ty f.nx fun d vs op hd g=>Fc d vs _ op hd g (.inr rfl)
 have gw:h'.bl.get bw=h.bl.get bw:=by
  refine f.get _ s.Cj ?_
  rintro (e | e | e)
  ·rw[e] at s; exact bE (s.jX.symm.trans c1)
  ·rw[e] at s; exact bE (s.jX.symm.trans cl)
  ·exact bE (s.jX.symm.trans (R.own.blk e).2.2)
 have bks:∀b∈Ts,bh h' b.bb b.bm bp bl aF b.M b.clock F B:=fun b hb=>(s.bk b hb).frK R p hne f
 have hpos:=s.s1.1
 obtain ⟨b0,hb0⟩:∃b,Ts[0]? = some b:=⟨_,List.getElem?_eq_getElem hpos⟩
 refine ⟨Nat.lt_of_lt_of_le s.TV f.nx,(Fc _ _ _ _ s.TV s.kV (.inl rfl)).trans s.kV,k1.1,k1.2,Nat.lt_of_lt_of_le s.Cj f.nx,by rw[f.lo]; exact s.low,gw.trans s.jX,bks,s.sM,s.Xv,(bks b0 (List.mem_of_getElem? hb0)).bX,s.cS,s.s1,s.hd⟩
section
variable {a h:Heap} {tb bw bp bl:Nat} {c:dF} {vb:Value} {aF N:Nat} {Ts:List TB} {W:List IE} {wc:Nat} {F:List Int} {B:List Bool} {rt rp rl:Nat} {vr:Value} {R:List RB}
end
theorem KY {β:Type} {fl:β} (s:ByteArray) (i:Nat) (h:Heap) (κ:Value→Heap→β) (hi:i<s.data.toList.length):qR fl (.string s) (.int .i64 (i:Int)) h κ=κ (.int .u8 (Int.ofNat (s.data.toList[i]).toNat)) h:=by
 show (match s.data.toList[i]? with | some b=>uL b.toNat fun n=>κ (.int .u8 (.ofNat n)) h | none=>fl)=_
 rw[List.getElem?_eq_getElem hi]
 simp only[bS]
theorem AG {β:Type} {fl:β} (s:ByteArray) (h:Heap) (κ:Value→Heap→β):om fl (.string s) h κ=κ (.int .i64 (s.data.toList.length:Int)) h:=by
 unfold om; simp only[bS]; rfl
theorem Fe (h:Heap) (κ:KQ) (hlo:h.lo≤h.nx) (hk:∀h',Le h h'→κ (dn (-1) (-1)) h'):CallW Tryz.prog 96 [] h κ:=by
 refine an mixed ?_
 rw[aaI]
 simp(disch:=first|omega|simp only[Wd]<;>omega|rfl)only[Wz]
 exact hk _ ((Le.refl h).new _)
theorem KZ (t r:Int) (h:Heap) (κ:KQ) (hlo:h.lo≤h.nx) (hk:∀h',Le h h'→κ (.int .i64 (bM t r)) h'):CallW Tryz.prog 57 [dn t r] h κ:=by
 refine an mixed ?_
 rw[Z_]
 simp(disch:=first|omega|simp only[Wd]<;>omega|rfl)only[Wz,dn]
 obtain ⟨hA,az⟩:∃hA:Heap,hA=⟨h.nx+1,(h.bl.aY (h.nx) (aa [.int .i64 t,.int .i64 r] 36 false)),h.lo⟩:=⟨_,rfl⟩
 have aK:Le h hA:=by subst az; exact ((Le.refl h).new _)
 have g1:hA.bl.get (h.nx)=some (aa [.int .i64 t,.int .i64 r] 36 false):=by subst az; exact T.af _ _ _
 have d_:hA.nx=h.nx+1:=by subst az; rfl
 have ee:hA.lo=h.lo:=by subst az; rfl
 rw[←az]
 clear az
 refine Fe hA _ (by omega) ?_
 intro h2 bt
 have kT:=bt.nx
 have kU:=bt.lo
 have g1:=(bt.get _ (by omega)).trans g1
 have hk:=hk h2 (aK.trans bt)
 simp(disch:=first|omega|simp only[Wd]<;>omega|rfl)only[Wz,dn,g1,lJ,ql]
 by_cases h0:t = -1∧r = -1
 ·simp(disch:=first|omega|simp only[Wd]<;>omega|rfl)only[Wz,a_ h0]
  have e:bM t r=0:=by simp[bM,h0]
  rw[e] at hk; exact hk
 have hl:bM t r=if t<0∨100≤t∨r < -1∨100≤r then -1 else if r = -1 then 1 else 2:=by
  unfold bM CA
  rw[if_neg h0]
  by_cases h1:t<0∨100≤t∨r < -1∨100≤r
  ·rw[if_pos h1,if_neg (by simp; omega),if_neg (by simp; omega)]
  ·rw[if_neg h1]
   by_cases h2:r = -1
   ·rw[if_pos h2,if_pos (by simp; omega)]
   ·rw[if_neg h2,if_neg (by simp; omega),if_pos (by simp; omega)]
 simp(disch:=first|omega|simp only[Wd]<;>omega|rfl)only[Wz,aN h0,I1,g1]
 by_cases a1:t<0
 ·simp(disch:=first|omega|simp only[Wd]<;>omega|rfl)only[Wz,a_ a1]
  rw[hl,if_pos (by omega)] at hk; exact hk
 by_cases a2:100≤t
 ·simp(disch:=first|omega|simp only[Wd]<;>omega|rfl)only[Wz,aN a1,g1,a_ a2]
  rw[hl,if_pos (by omega)] at hk; exact hk
 by_cases a3:r < -1
 ·simp(disch:=first|omega|simp only[Wd]<;>omega|rfl)only[Wz,aN a1,aN a2,a_ a3,g1]
  rw[hl,if_pos (by omega)] at hk; exact hk
 by_cases a4:100≤r
 ·simp(disch:=first|omega|simp only[Wd]<;>omega|rfl)only[Wz,aN a1,aN a2,aN a3,a_ a4,g1]
  rw[hl,if_pos (by omega)] at hk; exact hk
 by_cases a5:r = -1
 ·simp(disch:=first|omega|simp only[Wd]<;>omega|rfl)only[Wz,aN a1,aN a2,aN a3,aN a4,a_ a5,g1]
  rw[hl,if_neg (by omega),if_pos a5] at hk; exact hk
 ·simp(disch:=first|omega|simp only[Wd]<;>omega|rfl)only[Wz,aN a1,aN a2,aN a3,aN a4,aN a5,g1]
  rw[hl,if_neg (by omega),if_neg a5] at hk; exact hk
theorem AH (t r:Int) {h:Heap} {κ:Value→Heap→Prop} (hk:κ (.int .i64 (bM t r)) h):CallW Tryz.prog 57 [dn t r] h κ:=
 fF (v:=.int .i64 (bM t r)) rfl rfl (KZ t r uA _ (Nat.le_refl _) fun _ _=>rfl) hk
theorem K0 (t r:Int):bM t r<0↔bM t r = -1:=by
 unfold bM
 split
 ·omega
 ·split
  ·omega
  ·split<;>omega
theorem AI (t r:Int) {h:Heap} {κ:Value→Heap→Prop} (hk:κ (.int .i64 (if bM t r = -1 then 2 else 0)) h):CallW Tryz.prog 25 [dn t r] h κ:=by
 refine fF (v:=.int .i64 (if bM t r = -1 then 2 else 0)) rfl rfl (an mixed ?_) hk
 rw[ZC]
 simp(disch:=first|omega|simp only[Wd]<;>omega|rfl)only[Wz,dn]
 refine AH t r ?_
 have:=K0 t r
 by_cases h:bM t r = -1
 ·simp(disch:=first|omega|simp only[Wd]<;>omega|rfl)only[Wz,a_ (this.2 h)]; simp[h]
 ·simp(disch:=first|omega|simp only[Wd]<;>omega|rfl)only[Wz,aN (fun x=>h (this.1 x))]; simp[h]
theorem O3:∀n,n<100→bF Tryz.prog 60 147 [.int .i64 (n:Nat)] (.string (fm n))=true:=by
 intro n hn
 have:(List.range 100).all (fun n=>bF Tryz.prog 60 147 [.int .i64 ((n:Nat):Int)] (.string (fm n)))=true:=by kernel_rfl
 exact List.all_eq_true.1 this n (List.mem_range.2 hn)
theorem yz (n:Int) (hn:CA n=true) {h:Heap} {κ:Value→Heap→Prop} (hk:κ (.string (fm n.toNat)) h):CallW Tryz.prog 147 [.int .i64 n] h κ:=by
 have h1:0≤n∧n<100:=by simpa[CA] using hn
 obtain ⟨k,rfl⟩:∃k:Nat,n=(k:Int):=⟨n.toNat,by omega⟩
 rw[Int.toNat_natCast] at hk
 exact vh mixed (O3 k (by omega)) hk
theorem RH (t r:Int) (hl:bM t r≠-1) {h:Heap} {κ:Value→Heap→Prop} (hk:κ (.string (fo t r)) h):CallW Tryz.prog 111 [dn t r] h κ:=by
 refine fF (v:=.string (fo t r)) rfl rfl (an mixed ?_) hk
 rw[Vk]
 simp(disch:=first|omega|simp only[Wd]<;>omega|rfl)only[Wz,dn]
 refine AH t r ?_
 have st:=kg t.toNat
 have sr:=kg r.toNat
 rcases uF hl with e | ⟨e,ht⟩ | ⟨e,ht,hr⟩
 ·rw[e]; simp(disch:=first|omega|simp only[Wd]<;>omega|rfl)only[Wz]; simp[fo,e]
 ·rw[e]
  simp(disch:=first|omega|simp only[Wd]<;>omega|rfl)only[Wz,wY]
  refine yz t ht ?_
  rw[lR _ _ _ _ _ _ _ _ (by show 1+_≤_; omega)]
  simp[fo,e]
 ·rw[e]
  simp(disch:=first|omega|simp only[Wd]<;>omega|rfl)only[Wz,wY,DN]
  have e1:∀(β:Type) (fl:β) (cn gd:Bool) (h:Heap) (κ:Value→Heap→β),au fl Tryz.prog .add 9 cn gd (.string ⟨#[116]⟩) (.string (fm t.toNat)) h κ=κ (.string ((⟨#[116]⟩:ByteArray)++fm t.toNat)) h:=fun β fl cn gd h κ=>lR _ _ _ _ _ _ _ _ (by show 1+_≤_; omega)
  have e2:∀(β:Type) (fl:β) (cn gd:Bool) (h:Heap) (κ:Value→Heap→β),au fl Tryz.prog .add 9 cn gd (.string ((⟨#[116]⟩:ByteArray)++fm t.toNat)) (.string ⟨#[46,114]⟩) h κ=κ (.string ((⟨#[116]⟩:ByteArray)++fm t.toNat++(⟨#[46,114]⟩:ByteArray))) h:=fun β fl cn gd h κ=>lR _ _ _ _ _ _ _ _ (by rw[ByteArray.size_append]; show 1+_+2≤_; omega)
  have e3:∀(β:Type) (fl:β) (cn gd:Bool) (h:Heap) (κ:Value→Heap→β),au fl Tryz.prog .add 9 cn gd (.string ((⟨#[116]⟩:ByteArray)++fm t.toNat++(⟨#[46,114]⟩:ByteArray))) (.string (fm r.toNat)) h κ=κ (.string ((⟨#[116]⟩:ByteArray)++fm t.toNat++(⟨#[46,114]⟩:ByteArray)++fm r.toNat)) h:=fun β fl cn gd h κ=>lR _ _ _ _ _ _ _ _ (by rw[ByteArray.size_append,ByteArray.size_append]; show 1+_+2+_≤_; omega)
  refine yz t ht ?_
  simp(disch:=first|omega|simp only[Wd]<;>omega|rfl)only[Wz,e1,e2]
  refine yz r hr ?_
  simp(disch:=first|omega|simp only[Wd]<;>omega|rfl)only[Wz,e1,e2,e3,JD]
  simp[fo,e]
theorem XE (s:ByteArray) (hs:s.data.toList.length≤1000) {h:Heap} {κ:Value→Heap→Prop} (hk:κ (.int .u32 (pH s)) h):CallW Tryz.prog 110 [.string s] h κ:=by
 refine an mixed ?_
 rw[Vj]
 refine ⟨fun n l h1=>∃i:Nat,slot l 14=.int .i64 (i:Int)∧slot l 11=.int .u32 ((s.data.toList.take i).foldl yj 2166136261)∧i≤s.data.toList.length∧n=s.data.toList.length-i∧HQ h h1,⟨_,0,rfl,rfl,Nat.zero_le _,rfl,rfl⟩,?_⟩
 rintro n l h1 ⟨i,s1,s2,hi,rfl,hq⟩
 cases (show h=h1 from hq)
 by_cases hlt:i<s.data.toList.length
 ·simp(disch:=first|omega|simp only[Wd]<;>omega|rfl)only[Wz,wX,AG,s1,cq (show (i:Int)<(s.data.toList.length:Int) by omega),KY,s2,sK,Ax,Ay]
  refine ⟨_,by omega,i+1,rfl,?_,by omega,rfl,rfl⟩
  rw[List.take_add_one,List.getElem?_eq_getElem hlt]
  simp only[Option.toList_some,List.foldl_append,List.foldl_cons,List.foldl_nil]
  rfl
 ·have hil:i=s.data.toList.length:=by omega
  simp(disch:=first|omega|simp only[Wd]<;>omega|rfl)only[Wz,wX,AG,s1,bP (show (s.data.toList.length:Int)≤(i:Int) by omega),s2]
  rw[hil,List.take_length]; exact hk
theorem RI (t r:Int) (hl:bM t r≠-1) {h:Heap} {κ:Value→Heap→Prop} (hk:κ (.int .u32 (pH (fo t r))) h):CallW Tryz.prog 71 [dn t r] h κ:=by
 refine fF (v:=.int .u32 (pH (fo t r))) rfl rfl (an mixed ?_) hk
 rw[aah]
 simp(disch:=first|omega|simp only[Wd]<;>omega|rfl)only[Wz,dn]
 refine RH t r hl ?_
 refine XE _ (E9 t r) ?_
 rfl
theorem XG (t r s:Int) {h:Heap} {κ:Value→Heap→Prop} (hk:κ (.int .i64 (bT t r s)) h):CallW Tryz.prog 42 [dn t r,.int .i64 s] h κ:=by
 refine fF (v:=.int .i64 (bT t r s)) rfl rfl (an mixed ?_) hk
 rw[ZL]
 simp(disch:=first|omega|simp only[Wd]<;>omega|rfl)only[Wz,dn]
 refine AI t r ?_
 by_cases hl:bM t r = -1
 ·rw[if_pos hl]
  simp(disch:=first|omega|simp only[Wd]<;>omega|rfl)only[Wz,aN (show ¬(2:Int)=0 by decide)]
  simp[bT,hl]
 rw[if_neg hl]
 by_cases h1:s<1
 ·simp(disch:=first|omega|simp only[Wd]<;>omega|rfl)only[Wz,a_ (show (0:Int)=0 from rfl),a_ h1]
  unfold bT; rw[if_pos (by omega)]
 by_cases h2:16<s
 ·simp(disch:=first|omega|simp only[Wd]<;>omega|rfl)only[Wz,a_ (show (0:Int)=0 from rfl),aN h1,a_ h2]
  unfold bT; rw[if_pos (by omega)]
 simp(disch:=first|omega|simp only[Wd]<;>omega|rfl)only[Wz,a_ (show (0:Int)=0 from rfl),aN h1,aN h2]
 refine RI t r hl ?_
 have hr:=nM (fo t r)
 have h2:=Int.tmod_lt_of_pos (pH (fo t r)) (show 0<s by omega)
 have h3:=Int.tmod_nonneg s hr.1
 simp(disch:=first|omega|simp only[Wd]<;>omega|rfl)only[Wz,sK,AA,Az]
 unfold bT
 rw[if_neg (by omega)]
section
variable {h h':Heap} {tb bw bp bl:Nat} {c:dF} {vb:Value} {aF N:Nat} {Ts:List TB} {W:List IE} {wc:Nat} {F F':List Int} {B:List Bool}
theorem JJ (s:kj h tb bw bp bl c vb aF N Ts W wc F B) (hlo:h.lo≤h.nx) (hN:N≤1000) (t r x m:Int) (κ:KQ)
  (nZ:∀h',bT t r c.S<0→Le h h'→κ (.tuple ⟨[.int .i64 0,.bool false,.int .i64 2]⟩) h')
  (hk2:∀(k:Nat) (b:TB) h',Ts[k]? = some b→bT t r c.S=(k:Int)→aZ m=false→Le h h'→κ (.tuple ⟨[.int .i64 0,.bool false,.int .i64 2]⟩) h')
  (Me:∀(k:Nat) (b:TB) h' e p,Ts[k]? = some b→bT t r c.S=(k:Int)→aZ m=true→e∈b.M→t=e.t→r=e.r→p∈e.Q→p.x=x→Le h h'→κ (.tuple ⟨[.int .i64 0,.bool false,.int .i64 4]⟩) h')
  (GK:∀(k:Nat) (b:TB) h',Ts[k]? = some b→bT t r c.S=(k:Int)→aZ m=true→(∀e∈b.M,t=e.t→r=e.r→∀p∈e.Q,p.x≠x)→(F=[]∨((∀e∈b.M,¬(t=e.t∧r=e.r))∧aF≤b.M.length))→Le h h'→κ (.tuple ⟨[.int .i64 0,.bool false,.int .i64 8]⟩) h')
  (Cz:∀(k:Nat) (b:TB) M' clock' F' W' yo h0 h1 h' n g,Ts[k]? = some b→bT t r c.S=(k:Int)→aZ m=true→(∀e∈b.M,t=e.t→r=e.r→∀p∈e.Q,p.x≠x)→bh h0 b.bb b.bm bp bl aF b.M b.clock F B→mQ h0 h1 b.bb b.bm bp bl aF b.M M' clock' F F' B t r x m n g→
   kj h' tb bw bp bl c vb aF (N+1) (Ts.set k ⟨b.bb,b.bm,M',clock'⟩) W' yo F' (B.set n true)→uG Ts bw bp bl h h'→κ (.tuple ⟨[.int .i64 (n:Int),.bool g,.int .i64 0]⟩) h') :
  CallW Tryz.prog 213 [.pointer (some ⟨tb,0,none⟩),dn t r,.int .i64 x,.int .i64 m] h κ:=by
 refine an mixed ?_
 rw[V5]
 simp(disch:=first|omega|simp only[Wd]<;>omega|rfl)only[Wz,dn,pI]
 obtain ⟨hA,az⟩:∃hA:Heap,hA=⟨h.nx+1,(h.bl.aY (h.nx) (aa [.int .i64 t,.int .i64 r] 36 false)),h.lo⟩:=⟨_,rfl⟩
 have aK:Le h hA:=by subst az; exact ((Le.refl h).new _)
 have g1:hA.bl.get (h.nx)=some (aa [.int .i64 t,.int .i64 r] 36 false):=by subst az; exact T.af _ _ _
 have d_:hA.nx=h.nx+1:=by subst az; rfl
 have ee:hA.lo=h.lo:=by subst az; rfl
 rw[←az]
 clear az
 refine t_ (s.le aK).is (by omega) t r _ ?_
 intro h2 bt
 have kT:=bt.nx
 have kU:=bt.lo
 have g1:=(bt.get _ (by omega)).trans g1
 have eN:=aK.trans bt
 have s2:=s.le eN
 by_cases hneg:bT t r c.S<0
 ·simp(disch:=first|omega|simp only[Wd]<;>omega|rfl)only[Wz,a_ hneg]
  exact nZ h2 hneg eN
 obtain ⟨k,b,hst,hk⟩:=acz s.is hneg
 have hb:=List.mem_of_getElem? hk
 have gt:=s2.is.kV
 obtain ⟨cc,oo,_,Jr,eX⟩:=Rw s2.is.sl k hk
 have eX:=eX h2 (Le.refl _)
 rw[hst]
 simp(disch:=first|omega|simp only[Wd]<;>omega|rfl)only[Wz,bP (show (0:Int)≤(k:Int) by omega),D8,aJ,gt,Jr,eX,g1]
 refine Ra (s2.is.bk b hb) (by omega) (s2.OS hk) N (by omega) (s2.wb b hb) t r x m _ ?_ ?_ ?_ ?_
 ·intro h3 GY c9
  simp(disch:=first|omega|simp only[Wd]<;>omega|rfl)only[Wz,lJ,mK]
  refine ⟨fun l h'=>HQ h3 h',?_,?_⟩
  ·simp(disch:=first|omega|simp only[Wd]<;>omega|rfl)only[Wz,oV]
   rfl
  ·rintro l h' hq
   cases (show h3=h' from hq)
   exact hk2 k b h3 hk hst GY (eN.trans c9)
 ·intro h3 e p YH he ht hr hp hx c9
  simp(disch:=first|omega|simp only[Wd]<;>omega|rfl)only[Wz,lJ,mK]
  refine ⟨fun l h'=>HQ h3 h',?_,?_⟩
  ·simp(disch:=first|omega|simp only[Wd]<;>omega|rfl)only[Wz,oV]
   rfl
  ·rintro l h' hq
   cases (show h3=h' from hq)
   exact Me k b h3 e p hk hst YH he ht hr hp hx (eN.trans c9)
 ·intro h3 YH ahh hfull c9
  simp(disch:=first|omega|simp only[Wd]<;>omega|rfl)only[Wz,lJ,mK]
  refine ⟨fun l h'=>HQ h3 h',?_,?_⟩
  ·simp(disch:=first|omega|simp only[Wd]<;>omega|rfl)only[Wz,oV]
   rfl
  ·rintro l h' hq
   cases (show h3=h' from hq)
   exact GK k b h3 hk hst YH ahh hfull (eN.trans c9)
 ·intro M' clock' F' h3 n g am hno ak
  have is3:=s2.is.change hk ak.is ak.fr
  have n3:=ak.fr.nx
  have l3:=ak.fr.lo
  have gt3:=is3.kV
  have ahi:=is3.low
  simp(disch:=first|omega|simp only[Wd]<;>omega|rfl)only[Wz,lJ,mK]
  refine ⟨fun l h'=>∃W' yo,(∀j,KR W' j=if j=(n:Int) then some (k:Int) else KR W j)∧h'=⟨h3.nx,h3.bl.aY bw (.map (W'.map AB) yo),h3.lo⟩,?_,?_⟩
  ·simp(disch:=first|omega|simp only[Wd]<;>omega|rfl)only[Wz,oV,aJ,gt3]
   refine Xu is3.jX ahi _ _ _ ?_
   intro W' yo hW
   exact ⟨W',yo,hW,rfl⟩
  ·rintro l h' ⟨W',yo,hW,rfl⟩
   have fr:uG Ts bw bp bl h ⟨h3.nx,h3.bl.aY bw (.map (W'.map AB) yo),h3.lo⟩:=((uG.of_le eN).trans (uG.Xw hb ak.fr)).trans uG.Xx
   have uW:=mQ.ids (s2.is.bk b hb) ak
   have acI:∀i,i∈di B→i≠(n:Int):=by
    rintro i hi rfl
    obtain ⟨k',e,hk'⟩:=jN.1 hi
    have:k'=n:=(Int.ofNat.inj e).symm
    subst this
    rw[ak.old] at hk'; cases hk'
   have hin:∀i b',b'∈Ts→i∈fN b'.M→i≠(n:Int):=fun i b' hb' hi=>acI i (s.ids.mem_iff.1 (List.mem_flatMap.2 ⟨b',hb',hi⟩))
   refine Cz k b M' clock' F' W' yo h2 h3 _ n g hk hst am hno (s2.is.bk b hb) ak ⟨is3.Xx W' yo,?_,?_,?_,?_,?_,by rw[List.length_set]; exact s.cR,s.cH⟩ fr
   ·obtain ⟨X,hX⟩:=rJ (fun b:TB=>fN b.M) hk
    have h0:=hX b
    rw[yl hk] at h0
    refine (hX _).trans ?_
    refine (uW.append_right X).trans ?_
    rw[List.append_assoc]
    refine ((List.Perm.append_left _ List.perm_append_comm).trans ?_).trans (qe ak.old).symm
    rw[←List.append_assoc]
    exact (h0.symm.trans s.ids).append_right _
   ·intro j y hj e he p hp
    rw[hW]
    rcases fq hj with ⟨rfl,rfl⟩ | ⟨hne,hj⟩
    ·have hpi:=uW.mem_iff.1 (kW.2 ⟨e,he,p,hp,rfl⟩)
     rcases List.mem_append.1 hpi with h1 | h1
     ·obtain ⟨e0,JG,p0,W1,hpe⟩:=kW.1 h1
      rw[if_neg (hin _ b hb h1),←hpe]
      exact s.wh j b hk e0 JG p0 W1
     ·rw[List.mem_singleton] at h1
      rw[if_pos h1]
    ·rw[if_neg (hin _ y (List.mem_of_getElem? hj) (kW.2 ⟨e,he,p,hp,rfl⟩))]
     exact s.wh j y hj e he p hp
   ·intro j y hj e he
    rcases fq hj with ⟨rfl,rfl⟩ | ⟨_,hj⟩
    ·rcases ak.sub e he with ⟨e0,JG,h1,h2⟩ | ⟨h1,h2⟩
     ·rw[←h1,←h2]; exact s.nm j b hk e0 JG
     ·rw[h1,h2]; exact hst
    ·exact s.nm j y hj e he
   ·intro y hy e he
    obtain ⟨j,hj⟩:=List.getElem?_of_mem hy
    rcases fq hj with ⟨rfl,rfl⟩ | ⟨_,hj⟩
    ·exact ak.wb (s.wb b hb) e he
    ·have:=s.wb y (List.mem_of_getElem? hj) e he; omega
   ·intro y hy
    obtain ⟨j,hj⟩:=List.getElem?_of_mem hy
    rcases fq hj with ⟨rfl,rfl⟩ | ⟨_,hj⟩
    ·exact mQ.len (s2.is.bk b hb) (s.len b hb) ak
    ·exact s.len y (List.mem_of_getElem? hj)
theorem Ff (s:kj h tb bw bp bl c vb aF N Ts W wc F B) (hlo:h.lo≤h.nx) (hN:N≤1000) (id m:Int) (κ:KQ)
  (hk2:∀h',aZ m=false→Le h h'→κ (.tuple ⟨[.bool false,.int .i64 2]⟩) h')
  (EK:aZ m=true→(∀b∈Ts,∀e∈b.M,bJ e.Q id=none)→κ (.tuple ⟨[.bool false,.int .i64 5]⟩) h)
  (Rb:∀(k:Nat) (b:TB) h' e p,aZ m=true→Ts[k]? = some b→e∈b.M→bJ e.Q id=some p→0<p.s→Le h h'→κ (.tuple ⟨[.bool false,.int .i64 7]⟩) h')
  (ig:∀(k:Nat) (b:TB) h' M' clock' e p i,aZ m=true→Ts[k]? = some b→e∈b.M→e.Q[i]? = some p→bJ e.Q id=some p→¬0<p.s→lQ h h' b.bb b.bm bp bl aF b.M M' clock' F B e (e.Q.set i (dP e.Q e.w p m).1) (dP e.Q e.w p m).2.1→
   kj h' tb bw bp bl c vb aF (N+1) (Ts.set k ⟨b.bb,b.bm,M',clock'⟩) W wc F B→κ (.tuple ⟨[.bool (dP e.Q e.w p m).2.2,.int .i64 0]⟩) h') :
  CallW Tryz.prog 214 [.pointer (some ⟨tb,0,none⟩),.int .i64 id,.int .i64 m] h κ:=by
 have GY:m=0→aZ m=false:=by intro h0; unfold aZ; simp[h0]
 have YH:m≠0→aZ m=kn m:=by intro h0; unfold aZ; simp[h0]
 refine an mixed ?_
 rw[V6]
 refine OT s hlo id _ ?_ ?_
 ·intro hno
  simp(disch:=first|omega|simp only[Wd]<;>omega|rfl)only[Wz,E_]
  by_cases hm0:m=0
  ·simp(disch:=first|omega|simp only[Wd]<;>omega|rfl)only[Wz,a_ hm0]
   exact hk2 h (GY hm0) (Le.refl _)
  ·simp(disch:=first|omega|simp only[Wd]<;>omega|rfl)only[Wz,aN hm0]
   have am:=YH hm0
   refine sv m ?_
   cases hkn:kn m with
   | false=>simp(disch:=first|omega|simp only[Wd]<;>omega|rfl)only[Wz]; exact hk2 h (am.trans hkn) (Le.refl _)
   | true=>
    simp(disch:=first|omega|simp only[Wd]<;>omega|rfl)only[Wz,xz,ym]
    refine JH tb h _ ?_
    exact EK (am.trans hkn) hno
 ·intro k b e p hkb he hf
  have hb:=List.mem_of_getElem? hkb
  simp(disch:=first|omega|simp only[Wd]<;>omega|rfl)only[Wz,E_]
  by_cases hm0:m=0
  ·simp(disch:=first|omega|simp only[Wd]<;>omega|rfl)only[Wz,a_ hm0]
   exact hk2 h (GY hm0) (Le.refl _)
  ·simp(disch:=first|omega|simp only[Wd]<;>omega|rfl)only[Wz,aN hm0]
   have am:=YH hm0
   refine sv m ?_
   cases hkn:kn m with
   | false=>simp(disch:=first|omega|simp only[Wd]<;>omega|rfl)only[Wz]; exact hk2 h (am.trans hkn) (Le.refl _)
   | true=>
    simp(disch:=first|omega|simp only[Wd]<;>omega|rfl)only[Wz,xz,iW]
    refine EJ (s.is.bk b hb) hlo N (by omega) (s.wb b hb) id m _ ?_ ?_ ?_ ?_
    ·intro h1 am2 bA
     simp(disch:=first|omega|simp only[Wd]<;>omega|rfl)only[Wz]
     exact hk2 h1 am2 bA
    ·intro h1 _ hn _
     rw[hn e he] at hf; cases hf
    ·intro h1 e1 p1 am2 Ct Xy hs1 bA
     simp(disch:=first|omega|simp only[Wd]<;>omega|rfl)only[Wz]
     exact Rb k b h1 e1 p1 am2 hkb Ct Xy hs1 bA
    ·intro h1 M' clock' e1 p1 i am2 Ct hi Xy hs1 mv
     simp(disch:=first|omega|simp only[Wd]<;>omega|rfl)only[Wz]
     exact ig k b h1 M' clock' e1 p1 i am2 hkb Ct hi Xy hs1 mv (s.acA hkb Ct mv (Cg hi (Ro _ _ _ _)) (Xm _ _ _ _))
end
structure Lone (Ts:List TB) (H X:Int→Int→Int):Prop where
 one:∀b∈Ts,∀e∈b.M,∃id,e.Q=[⟨id,X e.t e.r,H e.t e.r,H e.t e.r,0⟩]∧H e.t e.r≠0
 all:∀t r,H t r≠0→∃b∈Ts,∃e∈b.M,e.t=t∧e.r=r
def gQ (H:Int→Int→Int) (t r m:Int):Int→Int→Int:=fun t' r'=>if t'=t∧r'=r then m else H t' r'
theorem qn (H:Int→Int→Int) (t r m:Int):gQ H t r m t r=m:=by simp[gQ]
theorem lS (H:Int→Int→Int) {t r m t' r':Int} (h:¬(t'=t∧r'=r)):gQ H t r m t' r'=H t' r':=by simp[gQ,h]
section
variable {h:Heap} {tb bw bp bl:Nat} {c:dF} {vb:Value} {aF N:Nat} {Ts:List TB} {W:List IE} {wc:Nat} {F:List Int} {B:List Bool} {H X:Int→Int→Int}
theorem Lone.settle (L:Lone Ts H X) (s:kj h tb bw bp bl c vb aF N Ts W wc F B) {k:Nat} {b:TB} (hk:Ts[k]? = some b) {t r w m id:Int} (hst:bT t r c.S=(k:Int)) (hm:m≠0) {M':List HE} (cl:Nat) (st:e_ b.M M' t r w [⟨id,X t r,m,m,0⟩]) :
  Lone (Ts.set k ⟨b.bb,b.bm,M',cl⟩) (gQ H t r m) X:=by
 obtain ⟨e0,h1,h2,h3,h4,hp⟩:=st.put (by simp)
 have hil:=(List.getElem?_eq_some_iff.1 hk).1
 have hb:=List.mem_of_getElem? hk
 constructor
 ·intro b' hb' e he
  obtain ⟨j,hj⟩:=List.getElem?_of_mem hb'
  rcases fq hj with ⟨rfl,rfl⟩ | ⟨hne,hj⟩
  ·rcases List.mem_append.1 (hp.mem_iff.1 he) with he | he
   ·obtain ⟨he,hn⟩:=List.mem_filter.1 he
    have hn:=qJ.1 hn
    rw[lS H (fun e=>hn ⟨e.1.symm,e.2.symm⟩)]
    exact L.one b hb e he
   ·rw[List.mem_singleton] at he; subst he
    rw[h1,h2,qn]
    exact ⟨id,h4,hm⟩
  ·have hs:=s.nm j b' hj e he
   rw[lS H (fun e1=>by rw[e1.1,e1.2,hst] at hs; omega)]
   exact L.one b' (List.mem_of_getElem? hj) e he
 ·intro t' r' hH
  by_cases hn:t'=t∧r'=r
  ·obtain ⟨rfl,rfl⟩:=hn
   exact ⟨_,List.mem_of_getElem? (i:=k) (by rw[List.getElem?_set,if_pos rfl,if_pos hil]),e0,hp.mem_iff.2 (List.mem_append_right _ (.head _)),h1,h2⟩
  ·rw[lS H hn] at hH
   obtain ⟨b1,hb1,e1,Ct,e2,e3⟩:=L.all t' r' hH
   obtain ⟨j,hj⟩:=List.getElem?_of_mem hb1
   by_cases hjk:k=j
   ·subst hjk
    rw[hk] at hj; cases hj
    exact ⟨_,List.mem_of_getElem? (i:=k) (by rw[List.getElem?_set,if_pos rfl,if_pos hil]),e1,hp.mem_iff.2 (List.mem_append_left _ (List.mem_filter.2 ⟨Ct,qJ.2 fun e=>hn ⟨e2.symm.trans e.1.symm,e3.symm.trans e.2.symm⟩⟩)),e2,e3⟩
   ·exact ⟨b1,List.mem_of_getElem? (i:=j) (by rw[List.getElem?_set,if_neg hjk]; exact hj),e1,Ct,e2,e3⟩
theorem Lone.gone (L:Lone Ts H X) (s:kj h tb bw bp bl c vb aF N Ts W wc F B) {k:Nat} {b:TB} (hk:Ts[k]? = some b) {t r w:Int} (hst:bT t r c.S=(k:Int)) {M':List HE} (cl:Nat) (st:e_ b.M M' t r w []) :
  Lone (Ts.set k ⟨b.bb,b.bm,M',cl⟩) (gQ H t r 0) X:=by
 have hM:=st.gone rfl
 have hil:=(List.getElem?_eq_some_iff.1 hk).1
 have hb:=List.mem_of_getElem? hk
 subst hM
 constructor
 ·intro b' hb' e he
  obtain ⟨j,hj⟩:=List.getElem?_of_mem hb'
  rcases fq hj with ⟨rfl,rfl⟩ | ⟨hne,hj⟩
  ·obtain ⟨he,hn⟩:=List.mem_filter.1 he
   have hn:=qJ.1 hn
   rw[lS H (fun e=>hn ⟨e.1.symm,e.2.symm⟩)]
   exact L.one b hb e he
  ·have hs:=s.nm j b' hj e he
   rw[lS H (fun e1=>by rw[e1.1,e1.2,hst] at hs; omega)]
   exact L.one b' (List.mem_of_getElem? hj) e he
 ·intro t' r' hH
  by_cases hn:t'=t∧r'=r
  ·obtain ⟨rfl,rfl⟩:=hn
   rw[qn] at hH; exact absurd rfl hH
  ·rw[lS H hn] at hH
   obtain ⟨b1,hb1,e1,Ct,e2,e3⟩:=L.all t' r' hH
   obtain ⟨j,hj⟩:=List.getElem?_of_mem hb1
   by_cases hjk:k=j
   ·subst hjk
    rw[hk] at hj; cases hj
    exact ⟨_,List.mem_of_getElem? (i:=k) (by rw[List.getElem?_set,if_pos rfl,if_pos hil]),e1,List.mem_filter.2 ⟨Ct,qJ.2 fun e=>hn ⟨e2.symm.trans e.1.symm,e3.symm.trans e.2.symm⟩⟩,e2,e3⟩
   ·exact ⟨b1,List.mem_of_getElem? (i:=j) (by rw[List.getElem?_set,if_neg hjk]; exact hj),e1,Ct,e2,e3⟩
theorem Lone.at (L:Lone Ts H X) (s:kj h tb bw bp bl c vb aF N Ts W wc F B) {t r:Int} (hH:H t r≠0):∃(k:Nat) (b:TB) (e:HE) (id:Int),Ts[k]? = some b∧bT t r c.S=(k:Int)∧e∈b.M∧e.t=t∧e.r=r∧e.Q=[⟨id,X t r,H t r,H t r,0⟩]:=by
 obtain ⟨b,hb,e,he,rfl,rfl⟩:=L.all t r hH
 obtain ⟨k,hk⟩:=List.getElem?_of_mem hb
 obtain ⟨id,hQ,_⟩:=L.one b hb e he
 exact ⟨k,b,e,id,hk,s.nm k b hk e he,he,rfl,rfl,hQ⟩
theorem Lone.no (L:Lone Ts H X) {t r:Int} (hH:H t r=0):∀b∈Ts,∀e∈b.M,¬(t=e.t∧r=e.r):=by
 rintro b hb e he ⟨rfl,rfl⟩
 obtain ⟨id,_,hn⟩:=L.one b hb e he
 exact hn hH
theorem kj.Ak (s:kj h tb bw bp bl c vb aF N Ts W wc F B) {b b':TB} (hb:b∈Ts) (hb':b'∈Ts) {e e':HE} (he:e∈b.M) (he':e'∈b'.M) {p p':R5} (hp:p∈e.Q) (hp':p'∈e'.Q) (hid:p.id=p'.id):b=b'∧e=e':=by
 obtain ⟨k,hk⟩:=List.getElem?_of_mem hb
 obtain ⟨j,hj⟩:=List.getElem?_of_mem hb'
 have h1:=s.wh k b hk e he p hp
 have h2:=s.wh j b' hj e' he' p' hp'
 rw[hid,h2] at h1
 have:j=k:=by have:=Option.some.inj h1; omega
 subst this
 rw[hk] at hj; cases hj
 exact ⟨rfl,(s.OS hk).uniq he he' hp hp' hid⟩
theorem Lone.km (L:Lone Ts H X) (s:kj h tb bw bp bl c vb aF N Ts W wc F B) {t r:Int} (hH:H t r≠0):kn (H t r)=true:=by
 obtain ⟨k,b,e,id,hk,_,he,_,_,hQ⟩:=L.at s hH
 have:=((s.is.bk b (List.mem_of_getElem? hk)).good e he).vq.right ⟨id,X t r,H t r,H t r,0⟩ (by rw[hQ]; exact .head _)
 exact this.km
end
theorem sO {id x m:Int}:dI [] 0 id x m=(⟨id,x,m,m,0⟩,0,true):=rfl
theorem yA {id x m w:Int} (hm:m≠0):cW [⟨id,x,m,w,0⟩]=none:=by
 simp[cW,best,nQ,r_,hm,List.findIdx?,List.findIdx?.go]
theorem AJ {id x m w:Int} (hm:m≠0):cw (dO [⟨id,x,m,w,0⟩]+1) [⟨id,x,m,w,0⟩]=([⟨id,x,m,w,0⟩],[]):=wT (nK (yA hm)) _
theorem sP {id x m w m' W:Int}:(dP [⟨id,x,m,w,0⟩] W ⟨id,x,m,w,0⟩ m')=(⟨id,x,cU m m',cU m m',0⟩,W,true):=by
 unfold dP
 rw[if_pos]
 simp[ej,nQ]
theorem iN {id d x m w s:Int}:bJ [⟨id,x,m,w,s⟩] d=if id=d then some ⟨id,x,m,w,s⟩ else none:=by
 simp only[bJ,bD,List.find?_cons,List.find?_nil]
 split<;>simp_all
theorem e_.cnt {M M':List HE} {clock:Nat} (o:fL M clock) {t r w:Int} {Q:List R5} (st:e_ M M' t r w Q):M'.length≤M.length+1:=by
 have:=st.len
 have h2:=List.length_filter_le (fun x=>!tQ t r x) M
 omega
structure jP where
 k:Int
 x:Int
 t:Int
 r:Int
 m:Int
 w:Int
 to:Int
def ua (a:jP):List Value:=[.int .i64 a.k,.int .i64 a.x,.int .i64 a.t,.int .i64 a.r,.int .i64 a.m,.int .i64 a.w,.int .i64 a.to]
theorem encK_len (a:jP):(ua a).length=7:=rfl
def jP.own (a:jP) (x:Int):jP:=⟨a.k,x,a.t,a.r,a.m,a.w,a.to⟩
def pK (a:jP):Bool:=decide (bM a.t a.r≠-1) && (if a.k=1 then kn a.m && decide (a.m≠0) && decide (0≤a.w) else if a.k=3 then decide (a.to≠a.x) else decide (a.k=2))
def gF (H:Int→Int→Int) (a:jP):Int:=if a.k=1 then 1 else if H a.t a.r=0 then 6 else 1
def mj (H:Int→Int→Int) (a:jP):Int→Int→Int:=if a.k=1 then gQ H a.t a.r (cU (H a.t a.r) a.m) else gQ H a.t a.r 0
def zz (ty:TypeId) (op:Bool):Prop:=ty=147∨ty=182∨ty=220∨ty=81∨ty=83∨ty=225∨ty=4∨(ty=3∧op=true)
theorem dR.only {h h':Heap} {bp bl:Nat} {F:List Int} {B:List Bool} (p:dR h bp bl F B) (hn:h.nx≤h'.nx) (hl:h'.lo=h.lo) (hc:∀c vs ty op,c<h.nx→zz ty op→(ty=3→FB h bp c)→h.bl.get c=some (aa vs ty op)→h'.bl.get c=h.bl.get c):dR h' bp bl F B:=by
 have pl:=p.lt
 have fl:=p.fr.lt
 obtain ⟨fs,hg,hpt⟩:=p.fr.cell
 refine ⟨⟨by omega,by rw[hl]; exact p.fr.lo,fs,(hc _ _ _ _ fl (by simp[zz]) (fun e=>absurd e (by decide)) hg).trans hg,?_⟩,by omega,by rw[hl]; exact p.lo,(hc _ _ _ _ pl (by simp[zz]) (fun e=>absurd e (by decide)) p.cell).trans p.cell,p.ok,p.small⟩
 rcases hpt with e | ⟨b,G,e,k1,k2,k3,k4⟩
 ·exact .inl e
 ·exact .inr ⟨b,G,e,by omega,by omega,(hc _ _ _ _ k1 (by simp[zz]) (fun _=>⟨_,_,_,by rw[hg,e]⟩) k3).trans k3,k4⟩
theorem bh.only {h h':Heap} {bb bm bp bl most clock:Nat} {M:List HE} {F:List Int} {B:List Bool} (s:bh h bb bm bp bl most M clock F B) (hn:h.nx≤h'.nx) (hl:h'.lo=h.lo) (hc:∀c vs ty op,c<h.nx→zz ty op→(ty=3→FB h bp c)→h.bl.get c=some (aa vs ty op)→h'.bl.get c=h.bl.get c) (hm:h'.bl.get bm=h.bl.get bm):bh h' bb bm bp bl most M clock F B:=by
 have sb:=s.Lv
 have sm:=s.tU
 refine ⟨by omega,by omega,by rw[hl]; exact s.PM,(hc _ _ _ _ sb (by simp[zz]) (fun e=>absurd e (by decide)) s.gN).trans s.gN,hm.trans s.fM,s.ok,fun e he=>?_,s.good,s.bX.only hn hl hc,s.ne⟩
 have a:=s.aF e he
 have al:=a.lt
 exact ⟨by omega,(hc _ _ _ _ al (by simp[zz]) (fun e=>absurd e (by decide)) a.get).trans a.get,a.qv.frame hn fun c vs op h1 hg=>hc c vs _ op h1 (by simp[zz]) (fun e=>absurd e (by decide)) hg⟩
section
variable {h h':Heap} {tb bw bp bl:Nat} {c:dF} {vb:Value} {aF N:Nat} {Ts:List TB} {W:List IE} {wc:Nat} {F:List Int} {B:List Bool}
theorem dB.only (s:dB h tb bw bp bl c vb aF Ts W wc F B) (hn:h.nx≤h'.nx) (hl:h'.lo=h.lo) (hc:∀c vs ty op,c<h.nx→zz ty op→(ty=3→FB h bp c)→h.bl.get c=some (aa vs ty op)→h'.bl.get c=h.bl.get c) (hw:h'.bl.get bw=h.bl.get bw) (hm:∀b∈Ts,h'.bl.get b.bm=h.bl.get b.bm):dB h' tb bw bp bl c vb aF Ts W wc F B:=by
 have h1:=s.TV
 have h2:=s.Cj
 have k1:=Sl.tZ (h':=h') s.sl s.ty hn fun c vs op h1 hg=>hc c vs _ op h1 (by simp[zz]) (fun e=>absurd e (by decide)) hg
 exact ⟨by omega,(hc _ _ _ _ h1 (by simp[zz]) (fun e=>absurd e (by decide)) s.kV).trans s.kV,k1.1,k1.2,by omega,by rw[hl]; exact s.low,hw.trans s.jX,fun b hb=>(s.bk b hb).only hn hl hc (hm b hb),s.sM,s.Xv,s.bX.only hn hl hc,s.cS,s.s1,s.hd⟩
theorem kj.only (s:kj h tb bw bp bl c vb aF N Ts W wc F B) (hn:h.nx≤h'.nx) (hl:h'.lo=h.lo) (hc:∀c vs ty op,c<h.nx→zz ty op→(ty=3→FB h bp c)→h.bl.get c=some (aa vs ty op)→h'.bl.get c=h.bl.get c) (hw:h'.bl.get bw=h.bl.get bw) (hm:∀b∈Ts,h'.bl.get b.bm=h.bl.get b.bm):kj h' tb bw bp bl c vb aF N Ts W wc F B:=
 ⟨s.is.only hn hl hc hw hm,s.ids,s.wh,s.nm,s.wb,s.len,s.cR,s.cH⟩
theorem kj.put (s:kj h tb bw bp bl c vb aF N Ts W wc F B) {d:Nat} (o:bQ) (hd:∀vs ty op,zz ty op→h.bl.get d≠some (aa vs ty op)) (hw:d≠bw) (hm:∀b∈Ts,d≠b.bm):kj ⟨h.nx,h.bl.aY d o,h.lo⟩ tb bw bp bl c vb aF N Ts W wc F B:=
 s.only (Nat.le_refl _) rfl (fun c vs ty op _ ht _ hg=>T.ai _ _ (by rintro rfl; exact hd vs ty op ht hg)) (T.ai _ _ hw) fun b hb=>T.ai _ _ (hm b hb)
end
def dS (o:Option Nat):Value:=match o with | some a=>.pointer (some ⟨a,0,none⟩) | none=>.pointer none
structure CR where
 ca:Nat
 a:jP
 th:Int
 no:Int
 st:Int
 ph:Nat
 wt:Bool
 id:Int
 cs:Int
 out:Int
def TY (ph:Nat):FuncId:=if ph=1 then 46 else if ph=2 then 76 else if ph=3 then 117 else if ph=4 then 217 else 218
def yB (ph ca:Nat):Value:=.func (.func (TY ph)) ⟨[.pointer (some ⟨ca,0,none⟩)]⟩ ⟨[]⟩
noncomputable def ck (wb:Nat) (c:CR):bQ:=aa [.int .i64 c.a.k,.int .i64 c.a.x,.int .i64 c.a.t,.int .i64 c.a.r,.int .i64 c.a.m,.int .i64 c.a.w,.int .i64 c.a.to,.pointer (some ⟨wb,0,none⟩),.int .i64 c.th,.int .i64 c.no,.int .i64 c.st,yB c.ph c.ca,.int .i64 (c.ph:Int),.bool c.wt,.int .i64 c.id,.int .i64 c.cs,.int .i64 c.out,.bool false,.slice none 0 0] 99 false
structure WA where
 wb:Nat
 lb:Nat
 hb:Nat
 pb:Nat
 ib:Nat
 kb:Nat
 cb:Nat
 mb:Nat
 n:Nat
structure RW (h:Heap) (A:WA) (tb:Nat) (cG:List (Option (Nat × Int))) (bits:List Int) (now:Int) (tv:Value) (cs:List (Option CR)) (wm:List IE) (yC:Nat) (begun:Int):Prop where
 Cj:A.wb<h.nx∧h.lo≤A.wb
 gw:h.bl.get A.wb=some (aa [.pointer (some ⟨tb,0,none⟩),.pointer (some ⟨A.lb,0,none⟩),.pointer (some ⟨A.pb,0,none⟩),.pointer (some ⟨A.kb,0,none⟩),.slice (some ⟨A.cb,0,none⟩) A.n A.n,.map (some A.mb),.int .i64 begun] 107 false)
 FG:A.lb<h.nx
 gl:h.bl.get A.lb=some (aa [.slice (some ⟨A.hb,0,none⟩) cG.length cG.length] 179 false)
 XH:A.hb<h.nx∧h.lo≤A.hb
 gh:h.bl.get A.hb=some (aa (cG.map fun o=>dS (o.map (·.1))) 176 false)
 ho:∀p,some p∈cG→p.1<h.nx∧h.bl.get p.1=some (aa [.int .i64 p.2] 181 false)
 Lw:A.pb<h.nx
 gp:h.bl.get A.pb=some (aa [.slice (some ⟨A.ib,0,none⟩) A.n A.n] 193 false)
 lti:A.ib<h.nx∧h.lo≤A.ib
 gi:h.bl.get A.ib=some (aa (bits.map fun n=>.int .i64 n) 3 false)
 li:bits.length=A.n
 ltk:A.kb<h.nx∧h.lo≤A.kb
 gk:h.bl.get A.kb=some (aa [.int .i64 now,tv] 169 false)
 TZ:A.cb<h.nx∧h.lo≤A.cb
 gc:h.bl.get A.cb=some (aa (cs.map fun o=>dS (o.map (·.ca))) 96 false)
 lc:cs.length=A.n
 ca:∀c,some c∈cs→c.ca<h.nx∧h.lo≤c.ca∧h.bl.get c.ca=some (ck A.wb c)
 tU:A.mb<h.nx∧h.lo≤A.mb
 gm:h.bl.get A.mb=some (.map (wm.map AB) yC)
 nn:1≤A.n∧A.n≤8
 dc:cs.Pairwise fun o o'=>∀c c',o=some c→o'=some c'→c.ca≠c'.ca
def qu (ty:TypeId) (op:Bool):Prop:=ty=107∨ty=179∨ty=176∨ty=181∨ty=193∨ty=169∨ty=96∨ty=99∨(ty=3∧op=false)
section
variable {h h':Heap} {A:WA} {tb:Nat} {cG:List (Option (Nat × Int))} {bits:List Int} {now:Int} {tv:Value} {cs:List (Option CR)} {wm:List IE} {yC:Nat} {begun:Int}
theorem RW.keep (s:RW h A tb cG bits now tv cs wm yC begun) (hn:h.nx≤h'.nx) (hl:h'.lo=h.lo) (hg:∀d vs ty op,d<h.nx→qu ty op→h.bl.get d=some (aa vs ty op)→h'.bl.get d=h.bl.get d) (hm:h'.bl.get A.mb=h.bl.get A.mb):RW h' A tb cG bits now tv cs wm yC begun:=by
 obtain ⟨⟨a1,a2⟩,a3,b1,b2,⟨c1,c2⟩,c3,c4,d1,d2,⟨e1,e2⟩,e3,e4,⟨f1,f2⟩,f3,⟨g1,g2⟩,g3,g4,g5,⟨i1,i2⟩,i3,i4,i5⟩:=s
 refine ⟨⟨by omega,by omega⟩,(hg _ _ _ _ a1 (by simp[qu]) a3).trans a3,by omega,(hg _ _ _ _ b1 (by simp[qu]) b2).trans b2,⟨by omega,by omega⟩,(hg _ _ _ _ c1 (by simp[qu]) c3).trans c3,fun p hp=>?_,by omega,(hg _ _ _ _ d1 (by simp[qu]) d2).trans d2,⟨by omega,by omega⟩,(hg _ _ _ _ e1 (by simp[qu]) e3).trans e3,e4,⟨by omega,by omega⟩,(hg _ _ _ _ f1 (by simp[qu]) f3).trans f3,⟨by omega,by omega⟩,(hg _ _ _ _ g1 (by simp[qu]) g3).trans g3,g4,fun c hc=>?_,⟨by omega,by omega⟩,hm.trans i3,i4,i5⟩
 ·obtain ⟨k1,k2⟩:=c4 p hp
  exact ⟨by omega,(hg _ _ _ _ k1 (by simp[qu]) k2).trans k2⟩
 ·obtain ⟨k1,k2,k3⟩:=g5 c hc
  exact ⟨by omega,by omega,(hg _ _ _ _ k1 (by simp[qu]) k3).trans k3⟩
theorem RW.le (s:RW h A tb cG bits now tv cs wm yC begun) (l:Le h h'):RW h' A tb cG bits now tv cs wm yC begun:=s.keep l.nx l.lo (fun d _ _ _ hd _ _=>l.get d hd) (l.get _ s.tU.1)
theorem RW.acM (s:RW h A tb cG bits now tv cs wm yC begun) {bw bp bl:Nat} {c:dF} {vb:Value} {aF:Nat} {Ts:List TB} {W:List IE} {wc:Nat} {F:List Int} {B:List Bool} (t:dB h tb bw bp bl c vb aF Ts W wc F B) (f:uG Ts bw bp bl h h') (hw:A.mb≠bw) (hm:∀b∈Ts,A.mb≠b.bm):RW h' A tb cG bits now tv cs wm yC begun:=by
 have gm:=s.gm
 obtain ⟨fs,sZ,hpt⟩:=t.bX.fr.cell
 have gl:=t.bX.cell
 refine s.keep f.nx f.lo (fun d vs ty op hd hr hg=>?_) (f.get _ s.tU.1 hm hw (by rintro e; rw[e,sZ] at gm; exact bE gm.symm) (by rintro e; rw[e,gl] at gm; exact bE gm.symm) fun vs=>by rw[gm]; exact bE)
 rcases hr with e | e | e | e | e | e | e | e | ⟨e,e'⟩<;>subst e
 ·exact f.keep t hd hg (by decide) (by decide) (by decide)
 ·exact f.keep t hd hg (by decide) (by decide) (by decide)
 ·exact f.keep t hd hg (by decide) (by decide) (by decide)
 ·exact f.keep t hd hg (by decide) (by decide) (by decide)
 ·exact f.keep t hd hg (by decide) (by decide) (by decide)
 ·exact f.keep t hd hg (by decide) (by decide) (by decide)
 ·exact f.keep t hd hg (by decide) (by decide) (by decide)
 ·exact f.keep t hd hg (by decide) (by decide) (by decide)
 ·subst e'
  refine f.get d hd (fun b hb=>?_) (by rintro rfl; have:=t.jX; rw[hg] at this; exact bE this.symm) (by rintro rfl; rw[hg] at sZ; exact aL (by decide) sZ) (by rintro rfl; rw[hg] at gl; exact aL (by decide) gl) fun ws=>by rw[hg]; exact aS
  rintro rfl
  have:=(t.bk b hb).fM
  rw[hg] at this
  exact bE this.symm
end
theorem acN (h:Heap) (b o:Nat):lT Tryz.prog h 100 101 (.pointer (some ⟨b,o,none⟩)) (.pointer none)=some false:=by kernel_rfl
theorem O4 {β:Type} {fl:β} (cn:Bool) (b o:Nat) (h:Heap) (κ:Value→Heap→β):au fl Tryz.prog .eql 101 cn false (.pointer (some ⟨b,o,none⟩)) (.pointer none) h κ=κ (.bool false) h:=by simp only[au,acN,bV]
theorem acO (h:Heap) (b o:Nat):lT Tryz.prog h 100 176 (.pointer (some ⟨b,o,none⟩)) (.pointer none)=some false:=by kernel_rfl
theorem acP (h:Heap):lT Tryz.prog h 100 176 (.pointer none) (.pointer none)=some true:=by kernel_rfl
theorem Fg {β:Type} {fl:β} (cn:Bool) (b o:Nat) (h:Heap) (κ:Value→Heap→β):au fl Tryz.prog .eql 176 cn false (.pointer (some ⟨b,o,none⟩)) (.pointer none) h κ=κ (.bool false) h:=by simp only[au,acO,bV]
theorem Fh {β:Type} {fl:β} (cn:Bool) (h:Heap) (κ:Value→Heap→β):au fl Tryz.prog .eql 176 cn false (.pointer none) (.pointer none) h κ=κ (.bool true) h:=by simp only[au,acP,bV]
abbrev oa (cG:List (Option (Nat × Int))):List Value:=cG.map fun o=>dS (o.map (·.1))
section
variable {h:Heap} {lb hb:Nat} {cG:List (Option (Nat × Int))}
theorem yD (gl:h.bl.get lb=some (aa [.slice (some ⟨hb,0,none⟩) cG.length cG.length] 179 false)) {i:Nat} {th:Int} (hi:i<cG.length) (ht:0≤th∧th<8) (κ:KQ) (hk:κ (.int .i64 0) h) :
  CallW Tryz.prog 100 [.pointer (some ⟨lb,0,none⟩),.int .i64 (i:Int),.int .i64 th] h κ:=by
 refine an mixed ?_
 rw[Vg]
 simp(disch:=first|omega|simp only[Wd]<;>omega|rfl)only[Wz,O4,DK,bP (show (0:Int)≤(i:Int) by omega),aJ,gl,bP (show 0≤th by omega),aN (show ¬(cG.length:Int)≤(i:Int) by omega),aN (show ¬(8:Int)≤th by omega)]
 exact hk
theorem G8 {i:Nat} {o:Option (Nat × Int)} (hi:cG[i]? = some o):(oa cG)[i]? = some (dS (o.map (·.1))):=by rw[List.getElem?_map,hi]; rfl
theorem Fi {i:Nat} {o:Option (Nat × Int)} (hi:i<cG.length):over (oa cG) i [dS (o.map (·.1))]=oa (cG.set i o):=by
 unfold over oa
 rw[List.map_set,List.set_eq_take_append_cons_drop,if_pos (by simpa using hi)]
 simp
theorem XJ (gl:h.bl.get lb=some (aa [.slice (some ⟨hb,0,none⟩) cG.length cG.length] 179 false)) (gh:h.bl.get hb=some (aa (oa cG) 176 false)) (hhb:hb<h.nx∧h.lo≤hb) (hlb:lb<h.nx) {i:Nat} {th:Int} (hi:cG[i]? = some none) (ht:0≤th∧th<8) (κ:KQ)
  (hk:κ (.tuple ⟨[.bool true,.int .i64 0]⟩) ⟨h.nx+1,(h.bl.aY h.nx (aa [.int .i64 th] 181 false)).aY hb (aa (oa (cG.set i (some (h.nx,th)))) 176 false),h.lo⟩) :
  CallW Tryz.prog 75 [.pointer (some ⟨lb,0,none⟩),.int .i64 (i:Int),.int .i64 th] h κ:=by
 have hil:=(List.getElem?_eq_some_iff.1 hi).1
 have r:=G8 hi
 have ov:=Fi (cG:=cG) (o:=some (h.nx,th)) hil
 have hln:(oa cG).length=cG.length:=List.length_map _
 refine an mixed ?_
 rw[aal]
 refine yD gl hil ht _ ?_
 simp only[dS,Option.map_none] at r
 simp only[dS,Option.map_some] at ov
 simp(disch:=first|omega|simp only[Wd]<;>omega|rfl)only[Wz,I8,aJ,gl,aW,gh,r,Nat.mul_one,Fh,I7,ov]
 exact hk
theorem RJ (gl:h.bl.get lb=some (aa [.slice (some ⟨hb,0,none⟩) cG.length cG.length] 179 false)) (gh:h.bl.get hb=some (aa (oa cG) 176 false)) (hhb:hb<h.nx∧h.lo≤hb) {i p:Nat} {th:Int} (hi:cG[i]? = some (some (p,th))) (gp:h.bl.get p=some (aa [.int .i64 th] 181 false)) (ht:0≤th∧th<8) (κ:KQ)
  (hk:κ (.int .i64 0) ⟨h.nx,h.bl.aY hb (aa (oa (cG.set i none)) 176 false),h.lo⟩) :
  CallW Tryz.prog 158 [.pointer (some ⟨lb,0,none⟩),.int .i64 (i:Int),.int .i64 th] h κ:=by
 have hil:=(List.getElem?_eq_some_iff.1 hi).1
 have r:=G8 hi
 have ov:=Fi (cG:=cG) (o:=none) hil
 have hln:(oa cG).length=cG.length:=List.length_map _
 refine an mixed ?_
 rw[VP]
 refine yD gl hil ht _ ?_
 simp only[dS,Option.map_some] at r
 simp only[dS,Option.map_none] at ov
 simp(disch:=first|omega|simp only[Wd]<;>omega|rfl)only[Wz,D0,aJ,gl,aW,gh,r,gp,Nat.mul_one,Fg,ov]
 exact hk
theorem K_ (gl:h.bl.get lb=some (aa [.slice (some ⟨hb,0,none⟩) cG.length cG.length] 179 false)) (gh:h.bl.get hb=some (aa (oa cG) 176 false)) {i:Nat} {o:Option (Nat × Int)} (hi:cG[i]? = some o) (gp:∀p,o=some p→h.bl.get p.1=some (aa [.int .i64 p.2] 181 false)) (κ:KQ)
  (hk:∀x,κ (.tuple ⟨[.int .i64 x,.bool o.isSome]⟩) h) :
  CallW Tryz.prog 62 [.pointer (some ⟨lb,0,none⟩),.int .i64 (i:Int)] h κ:=by
 have hil:=(List.getElem?_eq_some_iff.1 hi).1
 have r:=G8 hi
 have hln:(oa cG).length=cG.length:=List.length_map _
 refine an mixed ?_
 rw[aab]
 refine yD gl hil (by omega) _ ?_
 cases o with
 | none=>
  simp only[dS,Option.map_none] at r
  simp(disch:=first|omega|simp only[Wd]<;>omega|rfl)only[Wz,aJ,gl,aW,gh,r,Nat.mul_one,Fh]
  exact hk 0
 | some p=>
  have gp:=gp p rfl
  simp only[dS,Option.map_some] at r
  simp(disch:=first|omega|simp only[Wd]<;>omega|rfl)only[Wz,aJ,gl,aW,gh,r,Nat.mul_one,Fg,I3,gp]
  exact hk p.2
end
theorem acQ (h:Heap) (b o:Nat):lT Tryz.prog h 100 102 (.pointer (some ⟨b,o,none⟩)) (.pointer none)=some false:=by kernel_rfl
theorem O5 {β:Type} {fl:β} (cn:Bool) (b o:Nat) (h:Heap) (κ:Value→Heap→β):au fl Tryz.prog .eql 102 cn false (.pointer (some ⟨b,o,none⟩)) (.pointer none) h κ=κ (.bool false) h:=by simp only[au,acQ,bV]
abbrev G9 (bits:List Int):List Value:=bits.map fun n=>.int .i64 n
def RK (a b:Int):Int:=IntKind.i64.wrap (BitVec.ofInt IntKind.i64.bits a &&& BitVec.ofInt IntKind.i64.bits b).toNat
theorem La {β:Type} {fl:β} (P:Program) (t:TypeId) (cn gd:Bool) (a b:Int) (h:Heap) (κ:Value→Heap→β):au fl P .and t cn gd (.int .i64 a) (.int .i64 b) h κ=κ (.int .i64 (RK a b)) h:=by
 simp only[au,iy,mC,gZ,dZ]; rfl
section
variable {h:Heap} {pb ib:Nat} {bits:List Int}
theorem O6 (gp:h.bl.get pb=some (aa [.slice (some ⟨ib,0,none⟩) bits.length bits.length] 193 false)) {i:Nat} (hi:i<bits.length) (κ:KQ) (hk:κ (.int .i64 0) h) :
  CallW Tryz.prog 136 [.pointer (some ⟨pb,0,none⟩),.int .i64 (i:Int)] h κ:=by
 refine an mixed ?_
 rw[VE]
 simp(disch:=first|omega|simp only[Wd]<;>omega|rfl)only[Wz,O5,DT,bP (show (0:Int)≤(i:Int) by omega),aJ,gp,aN (show ¬(bits.length:Int)≤(i:Int) by omega)]
 exact hk
theorem XK {i:Nat} {n:Int} (hi:bits[i]? = some n):(G9 bits)[i]? = some (.int .i64 n):=by rw[List.getElem?_map,hi]; rfl
theorem acR (gp:h.bl.get pb=some (aa [.slice (some ⟨ib,0,none⟩) bits.length bits.length] 193 false)) (gi:h.bl.get ib=some (aa (G9 bits) 3 false)) {i:Nat} {n:Int} (hi:bits[i]? = some n) (b:Int) (κ:KQ) (hk:κ (.bool (!decide (RK n b=0))) h) :
  CallW Tryz.prog 99 [.pointer (some ⟨pb,0,none⟩),.int .i64 (i:Int),.int .i64 b] h κ:=by
 have hil:=(List.getElem?_eq_some_iff.1 hi).1
 have r:=XK hi
 have hln:(G9 bits).length=bits.length:=List.length_map _
 refine an mixed ?_
 rw[aaJ]
 refine O6 gp hil _ ?_
 simp(disch:=first|omega|simp only[Wd]<;>omega|rfl)only[Wz,aJ,gp,aW,gi,r,Nat.mul_one,La]
 exact hk
theorem O7 (gp:h.bl.get pb=some (aa [.slice (some ⟨ib,0,none⟩) bits.length bits.length] 193 false)) (gi:h.bl.get ib=some (aa (G9 bits) 3 false)) {i:Nat} {n:Int} (hi:bits[i]? = some n) (κ:KQ) (hk:κ (.bool (!decide (RK n 1=0))) h) :
  CallW Tryz.prog 61 [.pointer (some ⟨pb,0,none⟩),.int .i64 (i:Int)] h κ:=by
 refine an mixed ?_
 rw[aaa]
 exact acR gp gi hi 1 _ hk
end
theorem nW {h:Heap} {a b:Nat} {v v':List Value} {t t':TypeId} {o o':Bool} (ha:h.bl.get a=some (aa v t o)) (hb:h.bl.get b=some (aa v' t' o')) (hn:t≠t'):a≠b:=by
 rintro rfl
 rw[ha] at hb
 exact aL hn hb
theorem kX {h:Heap} {a b:Nat} {v:List Value} {t:TypeId} {o:Bool} {es:List MapEntry} {cl:Nat} (ha:h.bl.get a=some (aa v t o)) (hb:h.bl.get b=some (.map es cl)):a≠b:=by
 rintro rfl
 rw[ha] at hb
 exact bE hb.symm
section
variable {h h':Heap} {A:WA} {tb:Nat} {cG:List (Option (Nat × Int))} {bits:List Int} {now:Int} {tv:Value} {cs:List (Option CR)} {wm:List IE} {yC:Nat} {begun:Int}
theorem XL {i:Nat} {c c':CR} (hi:cs[i]? = some (some c)) (hc:c'.ca=c.ca):((cs.set i (some c')).map fun o=>dS (o.map (·.ca)))=cs.map fun o=>dS (o.map (·.ca)):=by
 have hil:=(List.getElem?_eq_some_iff.1 hi).1
 refine List.ext_getElem? fun j=>?_
 rw[List.getElem?_map,List.getElem?_map,List.getElem?_set]
 split
 ·rename_i e; subst e
  rw[hi]
  simp[hc,hil]
 ·rfl
theorem yE {i:Nat} {c:CR} {o:Option CR} (h:some c∈cs.set i o):o=some c∨∃j,j≠i∧cs[j]? = some (some c):=by
 obtain ⟨j,hj⟩:=List.getElem?_of_mem h
 rw[List.getElem?_set] at hj
 split at hj
 ·split at hj
  ·exact .inl (Option.some.inj hj)
  ·cases hj
 ·rename_i hne; exact .inr ⟨j,fun e=>hne e.symm,hj⟩
theorem RW.apart (s:RW h A tb cG bits now tv cs wm yC begun) {i j:Nat} {c c':CR} (hi:cs[i]? = some (some c)) (hj:cs[j]? = some (some c')) (hne:i≠j):c.ca≠c'.ca:=by
 rcases Nat.lt_or_gt_of_ne hne with h1 | h1
 ·exact cZ.1 s.dc i j _ _ h1 hi hj c c' rfl rfl
 ·exact fun e=>cZ.1 s.dc j i _ _ h1 hj hi c' c rfl rfl e.symm
theorem RW.j7 (s:RW h A tb cG bits now tv cs wm yC begun) {i:Nat} {c c':CR} (hi:cs[i]? = some (some c)) (hc:c'.ca=c.ca):RW ⟨h.nx,h.bl.aY c.ca (ck A.wb c'),h.lo⟩ A tb cG bits now tv (cs.set i (some c')) wm yC begun:=by
 obtain ⟨k1,k2,k3⟩:=s.ca c (List.mem_of_getElem? hi)
 have up:∀{b:Nat} {v:List Value} {t:TypeId} {o:Bool},h.bl.get b=some (aa v t o)→99≠t→(h.bl.aY c.ca (ck A.wb c')).get b=some (aa v t o):=fun hb hn=>(T.ai _ _ (nW k3 hb hn)).trans hb
 refine ⟨s.Cj,up s.gw (by decide),s.FG,up s.gl (by decide),s.XH,up s.gh (by decide),fun p hp=>⟨(s.ho p hp).1,up (s.ho p hp).2 (by decide)⟩,s.Lw,up s.gp (by decide),s.lti,up s.gi (by decide),s.li,s.ltk,up s.gk (by decide),s.TZ,?_,?_,?_,s.tU,(T.ai _ _ (kX k3 s.gm)).trans s.gm,s.nn,?_⟩
 ·rw[XL hi hc]; exact up s.gc (by decide)
 ·rw[List.length_set]; exact s.lc
 ·intro d hd
  rcases yE hd with e | ⟨j,hne,hj⟩
  ·cases e
   rw[hc]
   exact ⟨k1,k2,T.af _ _ _⟩
  ·obtain ⟨g1,g2,g3⟩:=s.ca d (List.mem_of_getElem? hj)
   exact ⟨g1,g2,(T.ai _ _ (s.apart hi hj (fun e=>hne e.symm))).trans g3⟩
 ·refine rq s.dc (fun j q hj hq a b ha hb=>?_) (fun j q hj hq a b ha hb=>?_)
  ·subst ha; cases hb; rw[hc]; exact s.apart hq hi (by omega)
  ·subst hb; cases ha; rw[hc]; exact s.apart hi hq (by omega)
theorem RW.sQ (s:RW h A tb cG bits now tv cs wm yC begun) (i:Nat) (o:Option CR) (ho:∀c,o=some c→c.ca<h.nx∧h.lo≤c.ca∧h.bl.get c.ca=some (ck A.wb c)∧∀(j:Nat) (d:CR),j≠i→cs[j]? = some (some d)→d.ca≠c.ca) :
  RW ⟨h.nx,h.bl.aY A.cb (aa ((cs.set i o).map fun o=>dS (o.map (·.ca))) 96 false),h.lo⟩ A tb cG bits now tv (cs.set i o) wm yC begun:=by
 have k3:=s.gc
 have up:∀{b:Nat} {v:List Value} {t:TypeId} {op:Bool},h.bl.get b=some (aa v t op)→96≠t→(h.bl.aY A.cb (aa ((cs.set i o).map fun o=>dS (o.map (·.ca))) 96 false)).get b=some (aa v t op):=fun hb hn=>(T.ai _ _ (nW k3 hb hn)).trans hb
 refine ⟨s.Cj,up s.gw (by decide),s.FG,up s.gl (by decide),s.XH,up s.gh (by decide),fun p hp=>⟨(s.ho p hp).1,up (s.ho p hp).2 (by decide)⟩,s.Lw,up s.gp (by decide),s.lti,up s.gi (by decide),s.li,s.ltk,up s.gk (by decide),s.TZ,T.af _ _ _,?_,?_,s.tU,(T.ai _ _ (kX k3 s.gm)).trans s.gm,s.nn,?_⟩
 ·rw[List.length_set]; exact s.lc
 ·intro d hd
  rcases yE hd with e | ⟨j,hne,hj⟩
  ·obtain ⟨g1,g2,g3,_⟩:=ho d e
   exact ⟨g1,g2,up g3 (by decide)⟩
  ·obtain ⟨g1,g2,g3⟩:=s.ca d (List.mem_of_getElem? hj)
   exact ⟨g1,g2,up g3 (by decide)⟩
 ·refine rq s.dc (fun j q hj hq a b ha hb=>?_) (fun j q hj hq a b ha hb=>?_)
  ·subst ha; exact (ho b hb).2.2.2 j a (by omega) hq
  ·subst hb; exact fun e=>(ho a ha).2.2.2 j b (by omega) hq e.symm
theorem RW.Cn (s:RW h A tb cG bits now tv cs wm yC begun) (yF:List (Option (Nat × Int))) (hl:yF.length=cG.length) (ho:∀p,some p∈yF→p.1<h.nx∧h.bl.get p.1=some (aa [.int .i64 p.2] 181 false)) :
  RW ⟨h.nx,h.bl.aY A.hb (aa (oa yF) 176 false),h.lo⟩ A tb yF bits now tv cs wm yC begun:=by
 have k3:=s.gh
 have up:∀{b:Nat} {v:List Value} {t:TypeId} {op:Bool},h.bl.get b=some (aa v t op)→176≠t→(h.bl.aY A.hb (aa (oa yF) 176 false)).get b=some (aa v t op):=fun hb hn=>(T.ai _ _ (nW k3 hb hn)).trans hb
 exact ⟨s.Cj,up s.gw (by decide),s.FG,by rw[hl]; exact up s.gl (by decide),s.XH,T.af _ _ _,fun p hp=>⟨(ho p hp).1,up (ho p hp).2 (by decide)⟩,s.Lw,up s.gp (by decide),s.lti,up s.gi (by decide),s.li,s.ltk,up s.gk (by decide),s.TZ,up s.gc (by decide),s.lc,fun c hc=>⟨(s.ca c hc).1,(s.ca c hc).2.1,up (s.ca c hc).2.2 (by decide)⟩,s.tU,(T.ai _ _ (kX k3 s.gm)).trans s.gm,s.nn,s.dc⟩
theorem RW.yG (s:RW h A tb cG bits now tv cs wm yC begun) (b':Int) :
  RW ⟨h.nx,h.bl.aY A.wb (aa [.pointer (some ⟨tb,0,none⟩),.pointer (some ⟨A.lb,0,none⟩),.pointer (some ⟨A.pb,0,none⟩),.pointer (some ⟨A.kb,0,none⟩),.slice (some ⟨A.cb,0,none⟩) A.n A.n,.map (some A.mb),.int .i64 b'] 107 false),h.lo⟩ A tb cG bits now tv cs wm yC b':=by
 have k3:=s.gw
 have up:∀(o':bQ) {b:Nat} {v:List Value} {t:TypeId} {op:Bool},h.bl.get b=some (aa v t op)→107≠t→(h.bl.aY A.wb o').get b=some (aa v t op):=fun o' _ _ _ _ hb hn=>(T.ai _ _ (nW k3 hb hn)).trans hb
 exact ⟨s.Cj,T.af _ _ _,s.FG,up _ s.gl (by decide),s.XH,up _ s.gh (by decide),fun p hp=>⟨(s.ho p hp).1,up _ (s.ho p hp).2 (by decide)⟩,s.Lw,up _ s.gp (by decide),s.lti,up _ s.gi (by decide),s.li,s.ltk,up _ s.gk (by decide),s.TZ,up _ s.gc (by decide),s.lc,fun c hc=>⟨(s.ca c hc).1,(s.ca c hc).2.1,up _ (s.ca c hc).2.2 (by decide)⟩,s.tU,(T.ai _ _ (kX k3 s.gm)).trans s.gm,s.nn,s.dc⟩
end
structure TA where
 tb:Nat
 bw:Nat
 bp:Nat
 bl:Nat
 c:dF
 vb:Value
 aF:Nat
structure TD where
 Ts:List TB
 W:List IE
 wc:Nat
 F:List Int
 B:List Bool
structure RD where
 cG:List (Option (Nat × Int))
 bits:List Int
 now:Int
 tv:Value
 cs:List (Option CR)
 wm:List IE
 yC:Nat
 begun:Int
abbrev yH (h:Heap) (a:TA) (N:Nat) (d:TD):Prop:=kj h a.tb a.bw a.bp a.bl a.c a.vb a.aF N d.Ts d.W d.wc d.F d.B
abbrev RWx (h:Heap) (A:WA) (tb:Nat) (R:RD):Prop:=RW h A tb R.cG R.bits R.now R.tv R.cs R.wm R.yC R.begun
structure WS (h:Heap) (A:WA) (a:TA) (N:Nat) (d:TD) (R:RD):Prop where
 t:yH h a N d
 r:RWx h A a.tb R
 mw:A.mb≠a.bw
 mm:∀b∈d.Ts,A.mb≠b.bm
 lo:h.lo≤h.nx
section
variable {h h':Heap} {A:WA} {a:TA} {N:Nat} {d:TD} {R:RD}
theorem WS.le (s:WS h A a N d R) (l:Le h h'):WS h' A a N d R:=⟨s.t.le l,s.r.le l,s.mw,s.mm,by have:=l.nx; have:=l.lo; have:=s.lo; omega⟩
theorem WS.up (s:WS h A a N d R) {N':Nat} (hN:N≤N'):WS h A a N' d R:=⟨s.t.up hN,s.r,s.mw,s.mm,s.lo⟩
theorem WS.table (s:WS h A a N d R) {N':Nat} {d':TD} (t':yH h' a N' d') (f:uG d.Ts a.bw a.bp a.bl h h') (hb:d'.Ts.map (·.bm)=d.Ts.map (·.bm)):WS h' A a N' d' R:=by
 refine ⟨t',s.r.acM s.t.is f s.mw s.mm,s.mw,fun b hb'=>?_,by have:=f.nx; have:=f.lo; have:=s.lo; omega⟩
 have:b.bm∈d.Ts.map (·.bm):=by rw[←hb]; exact List.mem_map.2 ⟨b,hb',rfl⟩
 obtain ⟨b0,hb0,e⟩:=List.mem_map.1 this
 rw[←e]; exact s.mm b0 hb0
theorem yH.uY (s:yH h a N d) {x:Nat} {v:List Value} {t:TypeId} {op:Bool} (hg:h.bl.get x=some (aa v t op)) (hn:∀ty o,zz ty o→t≠ty) (o:bQ):yH ⟨h.nx,h.bl.aY x o,h.lo⟩ a N d:=
 kj.put s o (fun vs ty o' ht e=>by rw[hg] at e; exact aL (hn ty o' ht) e) (kX hg s.is.jX) fun b hb=>kX hg (s.is.bk b hb).fM
theorem nTy {t:TypeId} (h1:t≠147) (h2:t≠182) (h3:t≠220) (h4:t≠81) (h5:t≠83) (h6:t≠225) (h7:t≠4) (h8:t≠3):∀ty o,zz ty o→t≠ty:=by
 rintro ty o (rfl | rfl | rfl | rfl | rfl | rfl | rfl | ⟨rfl,_⟩)<;>assumption
theorem WS.j7 (s:WS h A a N d R) {i:Nat} {c c':CR} (hi:R.cs[i]? = some (some c)) (hc:c'.ca=c.ca):WS ⟨h.nx,h.bl.aY c.ca (ck A.wb c'),h.lo⟩ A a N d { R with cs:=R.cs.set i (some c') }:=
 ⟨yH.uY s.t (s.r.ca c (List.mem_of_getElem? hi)).2.2 (nTy (by decide) (by decide) (by decide) (by decide) (by decide) (by decide) (by decide) (by decide)) _,s.r.j7 hi hc,s.mw,s.mm,s.lo⟩
theorem WS.sQ (s:WS h A a N d R) (i:Nat) (o:Option CR) (ho:∀c,o=some c→c.ca<h.nx∧h.lo≤c.ca∧h.bl.get c.ca=some (ck A.wb c)∧∀(j:Nat) (d:CR),j≠i→R.cs[j]? = some (some d)→d.ca≠c.ca) :
  WS ⟨h.nx,h.bl.aY A.cb (aa ((R.cs.set i o).map fun o=>dS (o.map (·.ca))) 96 false),h.lo⟩ A a N d { R with cs:=R.cs.set i o }:=
 ⟨yH.uY s.t s.r.gc (nTy (by decide) (by decide) (by decide) (by decide) (by decide) (by decide) (by decide) (by decide)) _,s.r.sQ i o ho,s.mw,s.mm,s.lo⟩
theorem WS.Cn (s:WS h A a N d R) (yF:List (Option (Nat × Int))) (hl:yF.length=R.cG.length) (ho:∀p,some p∈yF→p.1<h.nx∧h.bl.get p.1=some (aa [.int .i64 p.2] 181 false)) :
  WS ⟨h.nx,h.bl.aY A.hb (aa (oa yF) 176 false),h.lo⟩ A a N d { R with cG:=yF }:=
 ⟨yH.uY s.t s.r.gh (nTy (by decide) (by decide) (by decide) (by decide) (by decide) (by decide) (by decide) (by decide)) _,s.r.Cn yF hl ho,s.mw,s.mm,s.lo⟩
theorem WS.yG (s:WS h A a N d R) (b':Int) :
  WS ⟨h.nx,h.bl.aY A.wb (aa [.pointer (some ⟨a.tb,0,none⟩),.pointer (some ⟨A.lb,0,none⟩),.pointer (some ⟨A.pb,0,none⟩),.pointer (some ⟨A.kb,0,none⟩),.slice (some ⟨A.cb,0,none⟩) A.n A.n,.map (some A.mb),.int .i64 b'] 107 false),h.lo⟩ A a N d { R with begun:=b' }:=
 ⟨yH.uY s.t s.r.gw (nTy (by decide) (by decide) (by decide) (by decide) (by decide) (by decide) (by decide) (by decide)) _,s.r.yG b',s.mw,s.mm,s.lo⟩
end
theorem acT (h:Heap) (b o:Nat):lT Tryz.prog h 100 32 (.pointer (some ⟨b,o,none⟩)) (.pointer none)=some false:=by kernel_rfl
theorem kY {β:Type} {fl:β} (cn:Bool) (b o:Nat) (h:Heap) (κ:Value→Heap→β):au fl Tryz.prog .eql 32 cn false (.pointer (some ⟨b,o,none⟩)) (.pointer none) h κ=κ (.bool false) h:=by simp only[au,acT,bV]
theorem O8 {β:Type} {fl:β} (cn:Bool) (b o:Nat) (h:Heap) (κ:Value→Heap→β):au fl Tryz.prog .neq 32 cn false (.pointer (some ⟨b,o,none⟩)) (.pointer none) h κ=κ (.bool true) h:=by simp only[au,acT,bV,Bool.not_false]
theorem acU (h:Heap) (b o:Nat):lT Tryz.prog h 100 96 (.pointer (some ⟨b,o,none⟩)) (.pointer none)=some false:=by kernel_rfl
theorem T0 (h:Heap):lT Tryz.prog h 100 96 (.pointer none) (.pointer none)=some true:=by kernel_rfl
theorem RM {β:Type} {fl:β} (cn:Bool) (o:Option Nat) (h:Heap) (κ:Value→Heap→β):au fl Tryz.prog .eql 96 cn false (dS o) (.pointer none) h κ=κ (.bool o.isNone) h:=by
 cases o with
 | none=>simp only[dS,au,T0,bV,Option.isNone]
 | some b=>simp only[dS,au,acU,bV,Option.isNone]
theorem RO {β:Type} {fl:β} (cn:Bool) (o:Option Nat) (h:Heap) (κ:Value→Heap→β):au fl Tryz.prog .neq 96 cn false (dS o) (.pointer none) h κ=κ (.bool o.isSome) h:=by
 cases o with
 | none=>simp only[dS,au,T0,bV,Bool.not_true]; rfl
 | some b=>simp only[dS,au,acU,bV,Bool.not_false]; rfl
section
variable {h:Heap} {A:WA} {a:TA} {N:Nat} {d:TD} {R:RD}
theorem mW (s:WS h A a N d R) {i:Nat} (hi:i<A.n) (κ:KQ) (hk:κ (.bool true) h):CallW Tryz.prog 41 [.pointer (some ⟨A.wb,0,none⟩),.int .i64 (i:Int)] h κ:=by
 have gw:=s.r.gw
 refine an mixed ?_
 rw[ZK]
 simp(disch:=first|omega|simp only[Wd]<;>omega|rfl)only[Wz,O8,a_ (show (0:Int)≤(i:Int) by omega),aJ,gw,cq (show (i:Int)<(A.n:Int) by omega)]
 exact hk
theorem kq (s:WS h A a N d R) {i:Nat} {o:Option CR} (hi:R.cs[i]? = some o):(R.cs.map fun o=>dS (o.map (·.ca)))[i]? = some (dS (o.map (·.ca))):=by rw[List.getElem?_map,hi]; rfl
theorem yI (s:WS h A a N d R) {i:Nat} {o:Option CR} (hi:R.cs[i]? = some o):i<A.n:=by
 have:=(List.getElem?_eq_some_iff.1 hi).1
 have:=s.r.lc
 omega
theorem acV (s:WS h A a N d R) {i:Nat} {o:Option CR} (hi:R.cs[i]? = some o) (κ:KQ) (hk:κ (dS (o.map (·.ca))) h):CallW Tryz.prog 40 [.pointer (some ⟨A.wb,0,none⟩),.int .i64 (i:Int)] h κ:=by
 have gw:=s.r.gw
 have gc:=s.r.gc
 have hil:=yI s hi
 have r:=kq s hi
 refine an mixed ?_
 rw[ZJ]
 refine mW s hil _ ?_
 simp(disch:=first|omega|simp only[Wd]<;>omega|rfl)only[Wz,aJ,gw,aW,gc,r,Nat.mul_one]
 exact hk
theorem XM (a b:Int):(!decide (b<a))=decide (a≤b):=by
 by_cases h:b<a
 ·rw[a_ h,aN (show ¬a≤b by omega)]; rfl
 ·rw[aN h,a_ (show a≤b by omega)]; rfl
theorem XN (x:jP) (h:Heap) (κ:KQ) (hlo:h.lo≤h.nx) (hk:∀h',Le h h'→κ (.bool (pK x)) h'):CallW Tryz.prog 43 [.agg ⟨ua x⟩] h κ:=by
 refine an mixed ?_
 rw[ZM]
 simp(disch:=first|omega|simp only[Wd]<;>omega|rfl)only[Wz,ua]
 obtain ⟨hA,az⟩:∃hA:Heap,hA=⟨h.nx+1,(h.bl.aY (h.nx) (aa [.int .i64 x.k,.int .i64 x.x,.int .i64 x.t,.int .i64 x.r,.int .i64 x.m,.int .i64 x.w,.int .i64 x.to] 39 false)),h.lo⟩:=⟨_,rfl⟩
 have aK:Le h hA:=by subst az; exact ((Le.refl h).new _)
 have g1:hA.bl.get (h.nx)=some (aa [.int .i64 x.k,.int .i64 x.x,.int .i64 x.t,.int .i64 x.r,.int .i64 x.m,.int .i64 x.w,.int .i64 x.to] 39 false):=by subst az; exact T.af _ _ _
 have d_:hA.nx=h.nx+1:=by subst az; rfl
 have ee:hA.lo=h.lo:=by subst az; rfl
 rw[←az]
 clear az
 have hk:=hk hA aK
 unfold pK at hk
 refine E7 x.t x.r ?_
 by_cases hl:bM x.t x.r = -1
 ·rw[if_pos hl]
  rw[aN (fun h=>h hl)] at hk
  simp(disch:=first|omega|simp only[Wd]<;>omega|rfl)only[Wz]
  exact hk
 ·rw[if_neg hl]
  rw[a_ hl,Bool.true_and] at hk
  simp(disch:=first|omega|simp only[Wd]<;>omega|rfl)only[Wz,g1]
  by_cases h1:x.k=1
  ·rw[if_pos h1] at hk
   simp(disch:=first|omega|simp only[Wd]<;>omega|rfl)only[Wz,a_ h1,ID,g1]
   refine sv x.m ?_
   cases hkn:kn x.m with
   | false=>rw[hkn] at hk; simp(disch:=first|omega|simp only[Wd]<;>omega|rfl)only[Wz]; exact hk
   | true=>
    rw[hkn,Bool.true_and] at hk
    simp(disch:=first|omega|simp only[Wd]<;>omega|rfl)only[Wz,g1]
    by_cases hm:x.m=0
    ·rw[aN (fun h=>h hm)] at hk
     simp(disch:=first|omega|simp only[Wd]<;>omega|rfl)only[Wz,a_ hm]; exact hk
    ·rw[a_ hm,Bool.true_and] at hk
     simp(disch:=first|omega|simp only[Wd]<;>omega|rfl)only[Wz,aN hm,g1,XM]
     exact hk
  ·rw[if_neg h1] at hk
   simp(disch:=first|omega|simp only[Wd]<;>omega|rfl)only[Wz,aN h1,IF,g1]
   by_cases h3:x.k=3
   ·rw[if_pos h3] at hk
    simp(disch:=first|omega|simp only[Wd]<;>omega|rfl)only[Wz,a_ h3,g1]
    simpa using hk
   ·rw[if_neg h3] at hk
    simp(disch:=first|omega|simp only[Wd]<;>omega|rfl)only[Wz,aN h3,g1]
    exact hk
end
section
variable {h:Heap} {A:WA} {a:TA} {N:Nat} {d:TD} {R:RD}
theorem AK (f:Fn) (a b:Array Value):(Value.cells (.func f a b)).toList=[.func f a b]:=id rfl
theorem G_ {wb:Nat} (c:CR) (g:h.bl.get c.ca=some (ck wb c)) (hlo:h.lo≤c.ca) (ph:Nat) (f:FuncId) (hf:TY ph=f) (κ:KQ) (hk:κ (.tuple ⟨[]⟩) ⟨h.nx,h.bl.aY c.ca (ck wb { c with ph:=ph }),h.lo⟩) :
  CallW Tryz.prog 45 [.pointer (some ⟨c.ca,0,none⟩),.int .i64 (ph:Int),.func (.func f) ⟨[.pointer (some ⟨c.ca,0,none⟩)]⟩ ⟨[]⟩] h κ:=by
 subst hf
 refine an mixed ?_
 rw[To]
 unfold ck at g hk
 simp(disch:=first|omega|simp only[Wd]<;>omega|rfl)only[Wz,aJ,g,yB,AK]
 exact hk
theorem bY (s:WS h A a N d R) {i:Nat} {c:CR} (hi:R.cs[i]? = some (some c)):h.bl.get c.ca=some (ck A.wb c)∧c.ca<h.nx∧h.lo≤c.ca:=by
 obtain ⟨k1,k2,k3⟩:=s.r.ca c (List.mem_of_getElem? hi)
 exact ⟨k3,k1,k2⟩
theorem vF (s:WS h A a N d R) {i k:Nat} {c:CR} (hi:R.cs[i]? = some (some c)) (hb:R.bits[i]? = some 0) (hst:c.st=(k:Int)) {o:Option (Nat × Int)} (hl:R.cG[k]? = some o) (κ:KQ) (hk:κ (.bool (!decide ((c.ph:Int)=1) || !o.isSome)) h) :
  CallW Tryz.prog 31 [.pointer (some ⟨A.wb,0,none⟩),.int .i64 (i:Int)] h κ:=by
 have gw:=s.r.gw
 obtain ⟨gc,_⟩:=bY s hi
 have z1:RK 0 1=0:=by decide
 have hli:=s.r.li
 refine an mixed ?_
 rw[ZF]
 refine acV s hi _ ?_
 simp(disch:=first|omega|simp only[Wd]<;>omega|rfl)only[Wz,RM,Option.map_some,Option.isNone_some]
 simp(disch:=first|omega|simp only[Wd]<;>omega|rfl)only[Wz,aJ,gw]
 refine O7 (by rw[hli]; exact s.r.gp) s.r.gi hb _ ?_
 simp(disch:=first|omega|simp only[Wd]<;>omega|rfl)only[Wz,a_ z1,Iy,aJ,gw,dS,gc,ck,hst]
 refine K_ s.r.gl s.r.gh hl (fun p e=>by subst e; exact (s.r.ho p (List.mem_of_getElem? hl)).2) _ ?_
 intro x
 simp(disch:=first|omega|simp only[Wd]<;>omega|rfl)only[Wz,aJ,gc,ck]
 by_cases h1:(c.ph:Int)=1
 ·rw[a_ h1] at hk
  simp(disch:=first|omega|simp only[Wd]<;>omega|rfl)only[Wz,a_ h1]
  exact hk
 ·rw[aN h1] at hk
  simp(disch:=first|omega|simp only[Wd]<;>omega|rfl)only[Wz,aN h1]
  exact hk
end
theorem jm {v v':List Value} {t t':TypeId} {o o':Bool} (e:(some (aa v t o):Option bQ)=some (aa v' t' o')):t=t'∧o=o':=by
 have ht:t=t':=Classical.byContradiction fun hn=>aL hn e
 subst ht
 refine ⟨rfl,?_⟩
 cases o<;>cases o'
 ·rfl
 ·exact absurd e aS
 ·exact absurd e.symm aS
 ·rfl
theorem fI.Jx {a0 h h':Heap} {rt rp rl:Nat} {c:dF} {vr:Value} {hd:Nat} {Rs:List RB} {B:List Bool} (t:fI a0 h rt rp rl c vr hd Rs B) (hn:h.nx≤h'.nx) (hl:h'.lo=h.lo) (hk:∀d vs ty op,d<h.nx→h.bl.get d=some (aa vs ty op)→¬qu ty op→h'.bl.get d=h.bl.get d):fI a0 h' rt rp rl c vr hd Rs B:=by
 refine t.keep hn hl fun d vs ty op hd hg ht=>hk d vs ty op hd hg ?_
 rcases ht with rfl | rfl | rfl | rfl | rfl | rfl | rfl
 iterate 6 (unfold qu; cases op<;>decide)
 have:=t.bX.gP
 rw[hg] at this
 obtain ⟨rfl,rfl⟩:=jm this
 unfold qu; decide
structure WK (a:TA) (h h':Heap):Prop where
 nx:h.nx≤h'.nx
 lo:h'.lo=h.lo
 ty:∀d vs t o,d<h.nx→h.bl.get d=some (aa vs t o)→¬zz t o→¬qu t o→h'.bl.get d=h.bl.get d
 oi:∀d vs,d<h.nx→h.bl.get d=some (aa vs 3 true)→¬FB h a.bp d→h'.bl.get d=h.bl.get d
 mv:∀d,d<h.nx→FB h' a.bp d→FB h a.bp d
 ro:∀d,d<h.nx→(∀vs t o,h.bl.get d≠some (aa vs t o))→(∀es c,h.bl.get d≠some (.map es c))→h'.bl.get d=h.bl.get d
 rt:∀(a0:Heap) (rt rp rl:Nat) (c:dF) (vr:Value) (hd:Nat) (Rs:List RB) (B:List Bool),rl≠a.bl→fI a0 h rt rp rl c vr hd Rs B→fI a0 h' rt rp rl c vr hd Rs B
theorem WK.trans {a:TA} {h h1 h2:Heap} (x:WK a h h1) (y:WK a h1 h2):WK a h h2 where
 nx:=Nat.le_trans x.nx y.nx
 lo:=y.lo.trans x.lo
 ty d vs t o hd hg ht hr:=by
  have e:=x.ty d vs t o hd hg ht hr
  exact (y.ty d vs t o (Nat.lt_of_lt_of_le hd x.nx) (e.trans hg) ht hr).trans e
 oi d vs hd hg hf:=by
  have e:=x.oi d vs hd hg hf
  exact (y.oi d vs (Nat.lt_of_lt_of_le hd x.nx) (e.trans hg) (fun f=>hf (x.mv d hd f))).trans e
 mv d hd f:=x.mv d hd (y.mv d (Nat.lt_of_lt_of_le hd x.nx) f)
 ro d hd h1 h2:=by
  have e:=x.ro d hd h1 h2
  exact (y.ro d (Nat.lt_of_lt_of_le hd x.nx) (fun vs t o=>by rw[e]; exact h1 vs t o) (fun es c=>by rw[e]; exact h2 es c)).trans e
 rt a0 rt rp rl c vr hd Rs B hne t:=y.rt a0 rt rp rl c vr hd Rs B hne (x.rt a0 rt rp rl c vr hd Rs B hne t)
section
variable {h h':Heap} {A:WA} {a:TA} {N:Nat} {d:TD} {R:RD}
theorem WS.bp (s:WS h A a N d R):∃fs ls,a.bp<h.nx∧h.bl.get a.bp=some (aa [fs,ls] 225 false):=by
 obtain ⟨fs,hg,_⟩:=s.t.is.bX.fr.cell
 exact ⟨fs,_,s.t.is.bX.fr.lt,hg⟩
theorem WS.Ly (s:WS h A a N d R) (l:Le h h'):WK a h h':=by
 obtain ⟨_,_,hb,_⟩:=s.bp
 exact ⟨l.nx,l.lo,fun d _ _ _ hd _ _ _=>l.get d hd,fun d _ hd _ _=>l.get d hd,fun d _ f=>(FB.congr (l.get _ hb)).1 f,fun d hd _ _=>l.get d hd,fun _ _ _ _ _ _ _ _ _ _ t=>t.le l⟩
theorem WS.yJ (s:WS h A a N d R) {x:Nat} {v:List Value} {t:TypeId} {o:Bool} (hg:h.bl.get x=some (aa v t o)) (hr:qu t o) (hp:t≠225) (ob:bQ):WK a h ⟨h.nx,h.bl.aY x ob,h.lo⟩:=by
 obtain ⟨fs,ls,hb,gb⟩:=s.bp
 have SD:x≠a.bp:=nW hg gb hp
 refine ⟨Nat.le_refl _,rfl,fun d vs t' o' hd hgd _ hn=>T.ai _ _ ?_,fun d vs hd hgd _=>T.ai _ _ ?_,fun d _ f=>(FB.congr (T.ai _ _ SD)).1 f,fun d hd h1 _=>T.ai _ _ ?_,fun _ _ _ _ _ _ _ _ _ _ tt=>tt.Jx (Nat.le_refl _) rfl fun d vs ty op _ hgd hn=>T.ai _ _ (by rintro rfl; rw[hg] at hgd; obtain ⟨rfl,rfl⟩:=jm hgd; exact hn hr)⟩
 ·rintro rfl
  rw[hg] at hgd
  by_cases ht:t=t'
  ·subst ht
   cases o<;>cases o'
   ·exact hn hr
   ·exact aS hgd
   ·exact aS hgd.symm
   ·exact hn hr
  ·exact aL ht hgd
 ·rintro rfl
  rw[hg] at hgd
  rcases hr with e | e | e | e | e | e | e | e | ⟨e,e'⟩<;>subst e<;>first | exact aL (by decide) hgd | (subst e'; exact aS hgd)
 ·rintro rfl; exact h1 _ _ _ hg
theorem WS.kfr (s:WS h A a N d R) (f:uG d.Ts a.bw a.bp a.bl h h'):WK a h h':=by
 obtain ⟨fs,ls,hb,gb⟩:=s.bp
 have gl:=s.t.is.bX.cell
 have gw:=s.t.is.jX
 refine ⟨f.nx,f.lo,fun x vs t o hx hg ht _=>f.get x hx (fun b hb=>kX hg (s.t.is.bk b hb).fM) (kX hg gw) ?_ ?_ ?_,fun x vs hx hg hn=>f.g2 hb x hx (fun b hb=>kX hg (s.t.is.bk b hb).fM) (kX hg gw) (nW hg gb (by decide)) (nW hg gl (by decide)) hn,f.mv hb,fun x hx h1 h2=>f.get x hx ?_ ?_ ?_ ?_ fun vs=>h1 vs _ _,fun _ _ _ _ _ _ _ _ _ hne tt=>tt.real s.t.is f hne⟩
 ·rintro rfl; rw[hg] at gb; exact ht (by
   by_cases e:t=225
   ·subst e; simp[zz]
   ·exact absurd gb (aL e))
 ·rintro rfl; rw[hg] at gl; exact ht (by
   by_cases e:t=4
   ·subst e; simp[zz]
   ·exact absurd gl (aL e))
 ·intro ws hw
  rw[hg] at hw
  by_cases e:t=3
  ·subst e
   cases o
   ·exact aS hw
   ·exact ht (by simp[zz])
  ·exact aL e hw
 ·intro b hb e; subst e; exact h2 _ _ (s.t.is.bk b hb).fM
 ·rintro rfl; exact h2 _ _ gw
 ·rintro rfl; exact h1 _ _ _ gb
 ·rintro rfl; exact h1 _ _ _ gl
theorem O9 (s:WS h A a N d R) (hf:∀b,b<h.nx→b≠A.hb→h'.bl.get b=h.bl.get b) (hn:h.nx≤h'.nx) (hl:h'.lo=h.lo):WK a h h':=by
 obtain ⟨fs,ls,hb,gb⟩:=s.bp
 have gh:=s.r.gh
 refine ⟨hn,hl,fun x vs t o hx hg ht hr=>hf x hx ?_,fun x vs hx hg _=>hf x hx ?_,fun x _ f=>(FB.congr (hf _ hb (nW gb gh (by decide)))).1 f,fun x hx h1 _=>hf x hx ?_,fun _ _ _ _ _ _ _ _ _ _ tt=>tt.Jx hn hl fun x vs ty op hx hgx hr=>hf x hx (by rintro rfl; rw[gh] at hgx; obtain ⟨rfl,rfl⟩:=jm hgx; exact hr (by simp[qu]))⟩
 ·rintro rfl
  rw[gh] at hg
  by_cases e:176=t
  ·subst e; exact hr (by simp[qu])
  ·exact aL e hg
 ·rintro rfl; rw[gh] at hg; exact aL (by decide) hg
 ·rintro rfl; exact h1 _ _ _ gh
end
section
variable {h:Heap} {A:WA} {a:TA} {N:Nat} {d:TD} {R:RD}
theorem O_ (s:WS h A a N d R) {i k:Nat} {c:CR} (hi:R.cs[i]? = some (some c)) (hst:c.st=(k:Int)) (T1:0≤c.th∧c.th<8) (hl:R.cG[k]? = some none) (κ:KQ)
  (hk:∀h',WS h' A a N d { R with cG:=R.cG.set k (some (h.nx,c.th)),cs:=R.cs.set i (some { c with ph:=2 }) }→WK a h h'→κ (.tuple ⟨[]⟩) h') :
  CallW Tryz.prog 46 [.pointer (some ⟨c.ca,0,none⟩)] h κ:=by
 obtain ⟨gc,c1,c2⟩:=bY s hi
 have gw:=s.r.gw
 have hlo:=s.lo
 have gc':=gc
 unfold ck at gc'
 refine an mixed ?_
 rw[ZO]
 simp(disch:=first|omega|simp only[Wd]<;>omega|rfl)only[Wz,aJ,gc',gw,hst]
 refine XJ s.r.gl s.r.gh s.r.XH s.r.FG hl T1 _ ?_
 have s1:=s.le ((Le.refl h).new (aa [.int .i64 c.th] 181 false))
 have s2:=s1.Cn (R.cG.set k (some (h.nx,c.th))) (List.length_set ..) (fun p hp=>by
  rcases List.mem_or_eq_of_mem_set hp with hp | hp
  ·obtain ⟨k1,k2⟩:=s1.r.ho p hp
   exact ⟨k1,k2⟩
  ·cases hp
   exact ⟨Nat.lt_succ_self _,T.af _ _ _⟩)
 obtain ⟨h2,e2⟩:∃h2:Heap,h2=⟨h.nx+1,(h.bl.aY h.nx (aa [.int .i64 c.th] 181 false)).aY A.hb (aa (oa (R.cG.set k (some (h.nx,c.th)))) 176 false),h.lo⟩:=⟨_,rfl⟩
 have s2:WS h2 A a N d { R with cG:=R.cG.set k (some (h.nx,c.th)) }:=by rw[e2]; exact s2
 have f2:∀b,b<h.nx→b≠A.hb→h2.bl.get b=h.bl.get b:=fun b hb hn=>by rw[e2]; exact (T.ai _ _ (fun e=>hn e.symm)).trans (T.ai _ _ (by omega))
 have n2:h2.nx=h.nx+1:=by rw[e2]
 have l2:h2.lo=h.lo:=by rw[e2]
 rw[←e2]
 clear e2
 obtain ⟨vE,c12,c22⟩:=bY (R:={ R with cG:=R.cG.set k (some (h.nx,c.th)) }) s2 hi
 refine G_ c vE c22 2 _ rfl _ ?_
 exact hk _ (WS.j7 (R:={ R with cG:=R.cG.set k (some (h.nx,c.th)) }) s2 hi rfl) ((O9 s f2 (by omega) l2).trans (WS.yJ s2 vE (by simp[qu]) (by decide) _))
theorem RW.other {tb:Nat} {cG:List (Option (Nat × Int))} {bits:List Int} {now:Int} {tv:Value} {cs:List (Option CR)} {wm:List IE} {yC:Nat} {begun:Int} (s:RW h A tb cG bits now tv cs wm yC begun) {x:Nat} {v:List Value} {o:Bool} (hg:h.bl.get x=some (aa v 99 o)) (hn:∀c,some c∈cs→c.ca≠x) (ob:bQ):RW ⟨h.nx,h.bl.aY x ob,h.lo⟩ A tb cG bits now tv cs wm yC begun:=by
 have up:∀{b:Nat} {v:List Value} {t:TypeId} {o:Bool},h.bl.get b=some (aa v t o)→99≠t→(h.bl.aY x ob).get b=some (aa v t o):=fun hb hn=>(T.ai _ _ (nW hg hb hn)).trans hb
 exact ⟨s.Cj,up s.gw (by decide),s.FG,up s.gl (by decide),s.XH,up s.gh (by decide),fun p hp=>⟨(s.ho p hp).1,up (s.ho p hp).2 (by decide)⟩,s.Lw,up s.gp (by decide),s.lti,up s.gi (by decide),s.li,s.ltk,up s.gk (by decide),s.TZ,up s.gc (by decide),s.lc,fun c hc=>⟨(s.ca c hc).1,(s.ca c hc).2.1,(T.ai _ _ (fun e=>hn c hc e.symm)).trans (s.ca c hc).2.2⟩,s.tU,(T.ai _ _ (kX hg s.gm)).trans s.gm,s.nn,s.dc⟩
theorem WS.other (s:WS h A a N d R) {x:Nat} {v:List Value} {o:Bool} (hg:h.bl.get x=some (aa v 99 o)) (hn:∀c,some c∈R.cs→c.ca≠x) (ob:bQ):WS ⟨h.nx,h.bl.aY x ob,h.lo⟩ A a N d R:=
 ⟨yH.uY s.t hg (nTy (by decide) (by decide) (by decide) (by decide) (by decide) (by decide) (by decide) (by decide)) _,s.r.other hg hn ob,s.mw,s.mm,s.lo⟩
noncomputable def yK (wb:Nat) (c:CR):bQ:=aa [.int .i64 c.a.k,.int .i64 c.a.x,.int .i64 c.a.t,.int .i64 c.a.r,.int .i64 c.a.m,.int .i64 c.a.w,.int .i64 c.a.to,.pointer (some ⟨wb,0,none⟩),.int .i64 c.th,.int .i64 c.no,.int .i64 c.st,yB c.ph c.ca,.int .i64 (c.ph:Int),.bool c.wt,.int .i64 c.id,.int .i64 c.cs,.int .i64 c.out,.bool true,.slice none 0 0] 99 false
theorem RP (s:WS h A a N d R) {i k p:Nat} {c:CR} (hi:R.cs[i]? = some (some c)) (hst:c.st=(k:Int)) (T1:c.th=(i:Int)) (hout:c.out≠0) (hl:R.cG[k]? = some (some (p,c.th))) (κ:KQ)
  (hk:∀h',WS h' A a N d { R with cG:=R.cG.set k none,cs:=R.cs.set i none }→h'.bl.get c.ca=some (yK A.wb c)→WK a h h'→κ (.tuple ⟨[]⟩) h') :
  CallW Tryz.prog 117 [.pointer (some ⟨c.ca,0,none⟩)] h κ:=by
 obtain ⟨gc,c1,c2⟩:=bY s hi
 have gw:=s.r.gw
 have hlo:=s.lo
 have gc':=gc
 have hil:=yI s hi
 have Ub:=s.r.nn
 unfold ck at gc'
 have gp:=(s.r.ho (p,c.th) (List.mem_of_getElem? hl)).2
 refine an mixed ?_
 rw[Vp]
 simp(disch:=first|omega|simp only[Wd]<;>omega|rfl)only[Wz,aJ,gc',gw,hst]
 refine RJ s.r.gl s.r.gh s.r.XH hl gp (by omega) _ ?_
 have s2:=s.Cn (R.cG.set k none) (List.length_set ..) (fun q hq=>by
  rcases List.mem_or_eq_of_mem_set hq with hq | hq
  ·exact s.r.ho q hq
  ·cases hq)
 have k2:=O9 (h':=⟨h.nx,h.bl.aY A.hb (aa (oa (R.cG.set k none)) 176 false),h.lo⟩) s (fun b hb hn=>T.ai _ _ (fun e=>hn e.symm)) (Nat.le_refl _) rfl
 obtain ⟨h2,e2⟩:∃h2:Heap,h2=⟨h.nx,h.bl.aY A.hb (aa (oa (R.cG.set k none)) 176 false),h.lo⟩:=⟨_,rfl⟩
 have s2:WS h2 A a N d { R with cG:=R.cG.set k none }:=by rw[e2]; exact s2
 have k2:WK a h h2:=by rw[e2]; exact k2
 rw[←e2]
 clear e2
 obtain ⟨vE,c12,c22⟩:=bY (R:={ R with cG:=R.cG.set k none }) s2 hi
 have uc:=vE
 unfold ck at uc
 have PR:=s2.r.gw
 have Pb:=s2.r.gc
 have cb2:=s2.r.TZ
 refine an mixed ?_
 rw[VS]
 have s3:WS ⟨h2.nx,h2.bl.aY A.cb (aa ((R.cs.set i none).map fun o=>dS (o.map (·.ca))) 96 false),h2.lo⟩ A a N d { R with cG:=R.cG.set k none,cs:=R.cs.set i none }:=WS.sQ (R:={ R with cG:=R.cG.set k none }) s2 i none (fun c e=>(nomatch e))
 have hne:c.ca≠A.cb:=nW vE Pb (by decide)
 have ovc:over (R.cs.map fun o=>dS (o.map (·.ca))) i [.pointer none]=(R.cs.set i none).map fun o=>dS (o.map (·.ca)):=by
  unfold over
  rw[List.map_set,List.set_eq_take_append_cons_drop,if_pos (by rw[List.length_map]; exact (List.getElem?_eq_some_iff.1 hi).1)]
  simp[dS]
 have hlc:(R.cs.map fun o=>dS (o.map (·.ca))).length=A.n:=by rw[List.length_map]; exact s.r.lc
 have hnw:c.ca≠A.wb:=nW vE PR (by decide)
 simp(disch:=first|omega|simp only[Wd]<;>omega|rfl)only[Wz,aJ,uc,D2,aN hout,D1]
 simp(disch:=first|omega|simp only[Wd]<;>omega|rfl)only[Wz,aJ,PR,T1,aW,Pb,Nat.mul_one,ovc]
 have AL:(h2.bl.aY A.cb (aa ((R.cs.set i none).map fun o=>dS (o.map (·.ca))) 96 false)).get c.ca=_:=(T.ai _ _ (fun e=>hne e.symm)).trans uc
 have hno:∀x,some x∈R.cs.set i none→x.ca≠c.ca:=by
  intro x hx
  rcases yE hx with e | ⟨j,hj,e⟩
  ·cases e
  ·exact s.r.apart e hi hj
 have s4:=WS.other s3 AL hno (yK A.wb c)
 have k3:=WS.yJ s2 Pb (by simp[qu]) (by decide) (aa ((R.cs.set i none).map fun o=>dS (o.map (·.ca))) 96 false)
 have k4:=WS.yJ s3 AL (by simp[qu]) (by decide) (yK A.wb c)
 have hk:=hk _ s4 (T.af _ _ _) ((k2.trans k3).trans k4)
 rw[show ((h2.bl.aY A.cb (aa ((R.cs.set i none).map fun o=>dS (o.map (·.ca))) 96 false)).aY c.ca (yK A.wb c))=(h2.bl.aY c.ca (yK A.wb c)).aY A.cb (aa ((R.cs.set i none).map fun o=>dS (o.map (·.ca))) 96 false) from T.De _ _ _ (fun e=>hne e.symm)] at hk
 unfold yK at hk
 rw[T1] at hk
 exact hk
end
section
variable {h:Heap} {A:WA} {a:TA} {N:Nat} {d:TD} {R:RD}
theorem pL (s:WS h A a N d R) {i k:Nat} {c:CR} (hi:R.cs[i]? = some (some c)) (sR:c.ph=1) (hb:R.bits[i]? = some 0) (hst:c.st=(k:Int)) (T1:0≤c.th∧c.th<8) (hl:R.cG[k]? = some none) (κ:KQ)
  (hk:∀h',WS h' A a N d { R with cG:=R.cG.set k (some (h.nx,c.th)),cs:=R.cs.set i (some { c with ph:=2 }) }→WK a h h'→κ (.tuple ⟨[.bool false,.int .i64 0,.int .i64 0]⟩) h') :
  CallW Tryz.prog 14 [.pointer (some ⟨A.wb,0,none⟩),.int .i64 (i:Int)] h κ:=by
 have gw:=s.r.gw
 have XP:=s.r.gc
 have hil:=yI s hi
 have r:(R.cs.map fun o=>dS (o.map (·.ca)))[i]? = some (.pointer (some ⟨c.ca,0,none⟩)):=kq s hi
 obtain ⟨gc,c1,c2⟩:=bY s hi
 have hlc:(R.cs.map fun o=>dS (o.map (·.ca))).length=A.n:=by rw[List.length_map]; exact s.r.lc
 have gc':=gc
 unfold ck yB at gc'
 rw[sR] at gc'
 refine an mixed ?_
 rw[Io]
 simp(disch:=first|omega|simp only[Wd]<;>omega|rfl)only[Wz,kY,sj]
 refine mW s hil _ ?_
 simp(disch:=first|omega|simp only[Wd]<;>omega|rfl)only[Wz]
 refine vF s hi hb hst hl _ ?_
 rw[sR]
 simp(disch:=first|omega|simp only[Wd]<;>omega|rfl)only[Wz,Option.isSome_none,Option.isSome_some,Bool.false_or,Bool.true_or,si,aJ,gw,aW,XP,r,gc',Nat.mul_one,pX]
 refine O_ s hi hst T1 hl _ ?_
 intro h' s' k'
 have hi':(R.cs.set i (some { c with ph:=2 }))[i]? = some (some { c with ph:=2 }):=by rw[List.getElem?_set,if_pos rfl,if_pos (by have:=s.r.lc; omega)]
 obtain ⟨vE,_,_⟩:=bY s' hi'
 unfold ck at vE
 simp(disch:=first|omega|simp only[Wd]<;>omega|rfl)only[Wz,aJ,vE]
 exact hk h' s' k'
theorem rK (s:WS h A a N d R) {i k p:Nat} {c:CR} (hi:R.cs[i]? = some (some c)) (sR:c.ph=3) (hb:R.bits[i]? = some 0) (hst:c.st=(k:Int)) (T1:c.th=(i:Int)) (hout:c.out≠0) (hl:R.cG[k]? = some (some (p,c.th))) (κ:KQ)
  (hk:∀h',WS h' A a N d { R with cG:=R.cG.set k none,cs:=R.cs.set i none }→WK a h h'→κ (.tuple ⟨[.bool true,.int .i64 c.out,.int .i64 0]⟩) h') :
  CallW Tryz.prog 14 [.pointer (some ⟨A.wb,0,none⟩),.int .i64 (i:Int)] h κ:=by
 have gw:=s.r.gw
 have XP:=s.r.gc
 have hil:=yI s hi
 have r:(R.cs.map fun o=>dS (o.map (·.ca)))[i]? = some (.pointer (some ⟨c.ca,0,none⟩)):=kq s hi
 obtain ⟨gc,c1,c2⟩:=bY s hi
 have hlc:(R.cs.map fun o=>dS (o.map (·.ca))).length=A.n:=by rw[List.length_map]; exact s.r.lc
 have gc':=gc
 unfold ck yB at gc'
 rw[sR] at gc'
 refine an mixed ?_
 rw[Io]
 simp(disch:=first|omega|simp only[Wd]<;>omega|rfl)only[Wz,kY,sj]
 refine mW s hil _ ?_
 simp(disch:=first|omega|simp only[Wd]<;>omega|rfl)only[Wz]
 refine vF s hi hb hst hl _ ?_
 rw[sR]
 simp(disch:=first|omega|simp only[Wd]<;>omega|rfl)only[Wz,Option.isSome_none,Option.isSome_some,Bool.false_or,Bool.true_or,si,aJ,gw,aW,XP,r,gc',Nat.mul_one,pX]
 refine RP s hi hst T1 hout hl _ ?_
 intro h' s' g' k'
 unfold yK at g'
 simp(disch:=first|omega|simp only[Wd]<;>omega|rfl)only[Wz,aJ,g']
 exact hk h' s' k'
theorem acW (a b c d e f g:Int):k9 8 (.agg ⟨[.int .i64 a,.int .i64 b,.int .i64 c,.int .i64 d,.int .i64 e,.int .i64 f,.int .i64 g]⟩) (.agg ⟨[.int .i64 a,.int .i64 b,.int .i64 c,.int .i64 d,.int .i64 e,.int .i64 f,.int .i64 g]⟩)=true:=by
 have v:∀n:Int,k9 7 (.int .i64 n) (.int .i64 n)=true:=fun n=>by
  show (iy .i64 .i64 && nX n n)=true
  rw[ga,a_ rfl]; rfl
 show (k9 7 (.int .i64 a) (.int .i64 a) && (k9 7 (.int .i64 b) (.int .i64 b) && (k9 7 (.int .i64 c) (.int .i64 c) && (k9 7 (.int .i64 d) (.int .i64 d) && (k9 7 (.int .i64 e) (.int .i64 e) && (k9 7 (.int .i64 f) (.int .i64 f) && (k9 7 (.int .i64 g) (.int .i64 g) && true)))))))=true
 simp only[v,Bool.and_self]
theorem JK (s:WS h A a N d R) {i:Nat} (hi:R.cs[i]? = some none) (x:jP) (hbg:0≤R.begun∧R.begun≤1000000) (κ:KQ)
  (AE:pK x=false→∀h',Le h h'→κ (.int .i64 2) h')
  (hk:pK x=true→∀h' ca,WS h' A a N d { R with cs:=R.cs.set i (some ⟨ca,x,(i:Int),R.begun,bT x.t x.r a.c.S,1,false,0,0,0⟩),begun:=R.begun+1 }→WK a h h'→κ (.int .i64 0) h') :
  CallW Tryz.prog 16 [.pointer (some ⟨A.wb,0,none⟩),.int .i64 (i:Int),.agg ⟨ua x⟩] h κ:=by
 have hlo:=s.lo
 have hil:=yI s hi
 have r:(R.cs.map fun o=>dS (o.map (·.ca)))[i]? = some (.pointer none):=kq s hi
 have hlc:(R.cs.map fun o=>dS (o.map (·.ca))).length=A.n:=by rw[List.length_map]; exact s.r.lc
 refine an mixed ?_
 rw[Zu]
 simp(disch:=first|omega|simp only[Wd]<;>omega|rfl)only[Wz,ua]
 obtain ⟨hA,az⟩:∃hA:Heap,hA=⟨h.nx+1,(h.bl.aY (h.nx) (aa [.int .i64 x.k,.int .i64 x.x,.int .i64 x.t,.int .i64 x.r,.int .i64 x.m,.int .i64 x.w,.int .i64 x.to] 39 false)),h.lo⟩:=⟨_,rfl⟩
 have aK:Le h hA:=by subst az; exact ((Le.refl h).new _)
 have g1:hA.bl.get (h.nx)=some (aa [.int .i64 x.k,.int .i64 x.x,.int .i64 x.t,.int .i64 x.r,.int .i64 x.m,.int .i64 x.w,.int .i64 x.to] 39 false):=by subst az; exact T.af _ _ _
 have d_:hA.nx=h.nx+1:=by subst az; rfl
 have ee:hA.lo=h.lo:=by subst az; rfl
 rw[←az]
 clear az
 have sA:=s.le aK
 simp(disch:=first|omega|simp only[Wd]<;>omega|rfl)only[Wz,kY,Ir]
 refine mW sA hil _ ?_
 simp(disch:=first|omega|simp only[Wd]<;>omega|rfl)only[Wz,g1]
 refine XN x hA _ (by omega) ?_
 intro h1 bA
 have n1:=bA.nx
 have l1:=bA.lo
 have s1:=sA.le bA
 have g11:=(bA.get _ (by omega)).trans g1
 have YE:=s1.r.gw
 have He:=s1.r.gc
 cases hm:pK x with
 | false=>
  simp(disch:=first|omega|simp only[Wd]<;>omega|rfl)only[Wz]
  exact AE hm h1 (aK.trans bA)
 | true=>
  have hk:=hk hm
  have ahm:∀(β:Type) (fl:β) (cn:Bool) (h:Heap) (κ:Value→Heap→β),au fl Tryz.prog .neq 96 cn false (.pointer none) (.pointer none) h κ=κ (.bool false) h:=fun β fl cn h κ=>RO cn none h κ
  simp(disch:=first|omega|simp only[Wd]<;>omega|rfl)only[Wz,Iq,aJ,YE,aW,He,r,Nat.mul_one,ahm,Ip,g11]
  refine t_ s1.t.is (by omega) x.t x.r _ ?_
  intro h2 bt
  have n2:=bt.nx
  have l2:=bt.lo
  have s2:=s1.le bt
  have g12:=(bt.get _ (by omega)).trans g11
  have PR:=s2.r.gw
  simp(disch:=first|omega|simp only[Wd]<;>omega|rfl)only[Wz,aJ,g12,PR]
  obtain ⟨cc,Hw⟩:∃cc:CR,cc=⟨h2.nx,x,(i:Int),R.begun,bT x.t x.r a.c.S,1,false,0,0,0⟩:=⟨_,rfl⟩
  obtain ⟨h3,e3⟩:∃h3:Heap,h3=⟨h2.nx+1,h2.bl.aY h2.nx (ck A.wb cc),h2.lo⟩:=⟨_,rfl⟩
  have c9:Le h2 h3:=by rw[e3]; exact (Le.refl h2).new _
  have g3:h3.bl.get h2.nx=some (ck A.wb cc):=by rw[e3]; exact T.af _ _ _
  have n3:h3.nx=h2.nx+1:=by rw[e3]
  have l3:h3.lo=h2.lo:=by rw[e3]
  have s3:=s2.le c9
  have e3':h3=⟨h2.nx+1,h2.bl.aY h2.nx (aa [.int .i64 x.k,.int .i64 x.x,.int .i64 x.t,.int .i64 x.r,.int .i64 x.m,.int .i64 x.w,.int .i64 x.to,.pointer (some ⟨A.wb,0,none⟩),.int .i64 (i:Int),.int .i64 R.begun,.int .i64 (bT x.t x.r a.c.S),.func (.func 46) ⟨[.pointer (some ⟨h2.nx,0,none⟩)]⟩ ⟨[]⟩,.int .i64 1,.bool false,.int .i64 0,.int .i64 0,.int .i64 0,.bool false,.slice none 0 0] 99 false),h2.lo⟩:=by rw[e3,Hw]; rfl
  have gw3:=s3.r.gw
  have lw3:=s3.r.Cj
  have lc3:=s3.r.TZ
  have s4:=s3.yG (R.begun+1)
  have k4:=WS.yJ s3 gw3 (by simp[qu]) (by decide) (aa [.pointer (some ⟨a.tb,0,none⟩),.pointer (some ⟨A.lb,0,none⟩),.pointer (some ⟨A.pb,0,none⟩),.pointer (some ⟨A.kb,0,none⟩),.slice (some ⟨A.cb,0,none⟩) A.n A.n,.map (some A.mb),.int .i64 (R.begun+1)] 107 false)
  have ahn:=s4.r.gc
  have ovc:over (R.cs.map fun o=>dS (o.map (·.ca))) i [.pointer (some ⟨h2.nx,0,none⟩)]=(R.cs.set i (some cc)).map fun o=>dS (o.map (·.ca)):=by
   unfold over
   rw[List.map_set,List.set_eq_take_append_cons_drop,if_pos (by rw[List.length_map]; have:=s.r.lc; omega),Hw]
   simp[dS]
  have s5:=WS.sQ (R:={ R with begun:=R.begun+1 }) s4 i (some cc) (fun c e=>by
   cases e
   refine ⟨by rw[Hw]; show h2.nx<h3.nx; omega,by rw[Hw]; show h3.lo≤h2.nx; omega,?_,fun j d' hj hd=>?_⟩
   ·have e9:cc.ca=h2.nx:=by rw[Hw]
    rw[e9]
    exact (T.ai _ _ (by have:=(s2.r.Cj).1; omega)).trans g3
   ·have:=(s2.r.ca d' (List.mem_of_getElem? hd)).1
    rw[Hw]; show d'.ca≠h2.nx; omega)
  have k5:=WS.yJ s4 ahn (by simp[qu]) (by decide) (aa ((R.cs.set i (some cc)).map fun o=>dS (o.map (·.ca))) 96 false)
  have hne:A.wb≠A.cb:=nW gw3 s3.r.gc (by decide)
  have amz:=s3.r.gc
  have Pb:=s2.r.gc
  have lw2:=s2.r.Cj
  have lc2:=s2.r.TZ
  simp(disch:=first|omega|simp only[Wd]<;>omega|rfl)only[Wz,acW]
  refine an mixed ?_
  rw[To]
  simp(disch:=first|omega|simp only[Wd]<;>omega|rfl)only[Wz,aJ,AK,PR,aW,Pb,Nat.mul_one,ovc]
  have hk:=fun h'=>hk h' h2.nx
  simp only[←Hw] at hk
  have hk:=hk _ s5 (((s.Ly ((aK.trans bA).trans (bt.trans c9))).trans k4).trans k5)
  rw[e3'] at hk
  exact hk
end
structure pM (R:List RB):Prop where
 good:∀r∈R,∀k∈r.K,kR k
 len:∀r∈R,r.K.length≤64
 qN:∀r∈R,(r.K.map bB).Pairwise fO
theorem RQ {h:Heap} {v:Value} {R:List RB} (hs:Sl pJ h v R) (i:Nat) {b:RB} (hp:R[i]? = some b) :
  ∃c o,c<h.nx∧(∀(β:Type) (fl:β) (h':Heap) (κ:Value→Heap→β),aq fl 1 v (.int .i64 (i:Int)) h' κ=κ (.pointer (some ⟨c,o,none⟩)) h')∧
   ∀h',Le h h'→∀(β:Type) (fl:β) (κ:Value→β),sV fl (h'.bl.get c) o κ=κ (.pointer (some ⟨b.rb,0,none⟩)):=by
 obtain ⟨c,o,h1,h2,h3,hh⟩:=hs.ld AF i hp
 refine ⟨c,o,h1,h2,fun h' le β fl κ=>?_⟩
 rw[←le.get c h1] at hh
 exact e8 (fl:=fl) hh 0 κ (by show 0<1; omega)
theorem acX (h:Heap):lT Tryz.prog h 100 91 (.pointer none) (.pointer none)=some true:=by kernel_rfl
theorem Fj {β:Type} {fl:β} (cn:Bool) (h:Heap) (κ:Value→Heap→β):au fl Tryz.prog .eql 91 cn false (.pointer none) (.pointer none) h κ=κ (.bool true) h:=by simp only[au,acX,bV]
theorem acY (h:Heap) (b o:Nat):lT Tryz.prog h 100 91 (.pointer (some ⟨b,o,none⟩)) (.pointer none)=some false:=by kernel_rfl
theorem Fk {β:Type} {fl:β} (cn:Bool) (b o:Nat) (h:Heap) (κ:Value→Heap→β):au fl Tryz.prog .eql 91 cn false (.pointer (some ⟨b,o,none⟩)) (.pointer none) h κ=κ (.bool false) h:=by simp only[au,acY,bV]
theorem RR {a h:Heap} {rb rp most:Nat} {v:Value} {K:List HE} (R:jl a h rb rp most v K) (hlo:h.lo≤h.nx) (hl:K.length≤1000) (gd:∀k∈K,kR k) (d:Int) (κ:KQ)
  (ig:∀h',(∀k∈K,bJ k.Q d=none)→Le h h'→κ (.bool false) h')
  (iJ:∀h' (k:HE) (p:R5),k∈K→bJ k.Q d=some p→Le h h'→κ (.bool true) h') :
  CallW Tryz.prog 78 [.pointer (some ⟨rb,0,none⟩),.int .i64 d] h κ:=by
 refine an mixed ?_
 rw[aan]
 refine OB R hlo hl gd d _ ?_ ?_
 ·intro h' hn l
  simp(disch:=first|omega|simp only[Wd]<;>omega|rfl)only[Wz,aN (show ¬(0:Int)≤-1 by decide)]
  exact ig h' hn l
 ·intro i k p h' hi hf l
  simp(disch:=first|omega|simp only[Wd]<;>omega|rfl)only[Wz,a_ (show (0:Int)≤(i:Int) by omega)]
  exact iJ h' k p (List.mem_of_getElem? hi) hf l
section
variable {a h:Heap} {rt rp rl:Nat} {c:dF} {vr:Value} {aF:Nat} {R:List RB} {B:List Bool}
theorem yL (t:fI a h rt rp rl c vr aF R B) (hlo:h.lo≤h.nx) (x y:Int) (κ:KQ) (hk:∀h',Le h h'→κ (.int .i64 (bT x y c.S)) h') :
  CallW Tryz.prog 15 [.pointer (some ⟨rt,0,none⟩),dn x y] h κ:=by
 refine an mixed ?_
 rw[Zt]
 have c0:=t.cell
 have hlt:=t.lt
 simp(disch:=first|omega|simp only[Wd]<;>omega|rfl)only[Wz,dn,aJ,c0]
 refine XG x y c.S ?_
 exact hk _ ((Le.refl h).new _)
theorem Pc (t:fI a h rt rp rl c vr aF R B) (g:pM R) (hlo:h.lo≤h.nx) (d:Int) (κ:KQ)
  (ig:∀h',(∀r∈R,∀k∈r.K,bJ k.Q d=none)→Le h h'→κ (.pointer none) h')
  (iJ:∀h' (j:Nat) (r:RB) k p,R[j]? = some r→k∈r.K→bJ k.Q d=some p→Le h h'→κ (.pointer (some ⟨r.rb,0,none⟩)) h') :
  CallW Tryz.prog 48 [.pointer (some ⟨rt,0,none⟩),.int .i64 d] h κ:=by
 refine an mixed ?_
 rw[ZQ]
 have hs1:=t.s1
 refine ⟨fun n l h1=>∃i:Nat,slot l 26=.int .i64 (i:Int)∧i≤R.length∧n=R.length-i∧(∀(j:Nat) (r:RB),j<i→R[j]? = some r→∀k∈r.K,bJ k.Q d=none)∧Le h h1,⟨_,0,rfl,Nat.zero_le _,rfl,fun j k hj=>(by omega),Le.refl _⟩,?_⟩
 rintro n l h1 ⟨i,s1,hi,rfl,hall,bA⟩
 have n1:=bA.nx
 have l1:=bA.lo
 have t1:=t.le bA
 have c1:=t1.cell
 have hlen:∀(β:Type) (fl:β) (h':Heap) (κ:Value→Heap→β),br fl vr h' κ=κ (.int .i64 (R.length:Int)) h':=fun β fl h' κ=>t1.sl.len κ h'
 by_cases hlt:i<R.length
 ·obtain ⟨r,hr⟩:∃r,R[i]? = some r:=⟨_,List.getElem?_eq_getElem hlt⟩
  have uZ:=List.mem_of_getElem? hr
  obtain ⟨b,o,hb,fJ,eX⟩:=RQ t.sl i hr
  have L1:=eX h1 bA
  have hl:=g.len r uZ
  simp(disch:=first|omega|simp only[Wd]<;>omega|rfl)only[Wz,Bz,aJ,c1,hlen,s1,cq (show (i:Int)<(R.length:Int) by omega),IJ,fJ,L1]
  refine RR (t1.bk r uZ) (by omega) (by omega) (g.good r uZ) d _ ?_ ?_
  ·intro h2 hn bt
   simp(disch:=first|omega|simp only[Wd]<;>omega|rfl)only[Wz,s1]
   refine ⟨_,by omega,i+1,rfl,by omega,rfl,fun j r' hj hr'=>?_,bA.trans bt⟩
   by_cases e:j=i
   ·subst e; rw[hr] at hr'; cases hr'; exact hn
   ·exact hall j r' (by omega) hr'
  ·intro h2 k p hk hf bt
   have c2:=(t1.le bt).cell
   have L2:=eX h2 (bA.trans bt)
   simp(disch:=first|omega|simp only[Wd]<;>omega|rfl)only[Wz,aJ,c2,s1,fJ,L2]
   exact iJ h2 i r k p hr hk hf (bA.trans bt)
 ·have hil:i=R.length:=by omega
  subst hil
  simp(disch:=first|omega|simp only[Wd]<;>omega|rfl)only[Wz,Bz,aJ,c1,hlen,s1,bP (show (R.length:Int)≤(R.length:Int) by omega)]
  refine ig h1 (fun r hr k hk=>?_) bA
  obtain ⟨j,hj⟩:=List.getElem?_of_mem hr
  exact hall j r (List.getElem?_eq_some_iff.1 hj).1 hj k hk
theorem Fl (t:fI a h rt rp rl c vr aF R B) (g:pM R) (hlo:h.lo≤h.nx) (la:a.nx≤h.nx) (hw:∀r∈R,∀k∈r.K,k.w≤100000) (d m:Int) (κ:KQ)
  (hk2:∀h',aZ m=false→Le h h'→κ (.tuple ⟨[.bool false,.int .i64 2]⟩) h')
  (EK:∀h',aZ m=true→(∀r∈R,∀k∈r.K,bJ k.Q d=none)→Le h h'→κ (.tuple ⟨[.bool false,.int .i64 5]⟩) h')
  (Rb:∀h' (j:Nat) (r:RB) k p,aZ m=true→R[j]? = some r→k∈r.K→bJ k.Q d=some p→0<p.s→Le h h'→κ (.tuple ⟨[.bool false,.int .i64 7]⟩) h')
  (ig:∀(j:Nat) (r:RB) q' h' (i:Nat) (k:HE) (p:R5) (jj:Nat),aZ m=true→R[j]? = some r→r.K[i]? = some k→k.Q[jj]? = some p→bJ k.Q d=some p→¬0<p.s→jl a h' r.rb rp aF r.v (r.K.set i ⟨k.t,k.r,0,0,q',(dP k.Q k.w p m).2.1,k.Q.set jj (dP k.Q k.w p m).1⟩)→cF h' rp rl B→jk (SK r.rb rl r.v) h h'→κ (.tuple ⟨[.bool (dP k.Q k.w p m).2.2,.int .i64 0]⟩) h') :
  CallW Tryz.prog 20 [.pointer (some ⟨rt,0,none⟩),.int .i64 d,.int .i64 m] h κ:=by
 refine an mixed ?_
 rw[Zx]
 by_cases am:aZ m=true
 case neg=>
  have GY:aZ m=false:=by simpa using am
  by_cases h0:m=0
  ·simp(disch:=first|omega|simp only[Wd]<;>omega|rfl)only[Wz,a_ h0]
   exact hk2 _ GY (Le.refl _)
  ·simp(disch:=first|omega|simp only[Wd]<;>omega|rfl)only[Wz,aN h0]
   refine oW m ?_
   have:kn m=false:=by
    have:aZ m=kn m:=by unfold aZ; simp[h0]
    rw[←this]; exact GY
   rw[this]
   simp(disch:=first|omega|simp only[Wd]<;>omega|rfl)only[Wz]
   exact hk2 _ GY (Le.refl _)
 obtain ⟨m0,km⟩:=(cu m).1 am
 simp(disch:=first|omega|simp only[Wd]<;>omega|rfl)only[Wz,aN m0]
 refine oW m ?_
 rw[km]
 simp(disch:=first|omega|simp only[Wd]<;>omega|rfl)only[Wz,Iu]
 refine Pc t g hlo d _ ?_ ?_
 ·intro h1 hn bA
  simp(disch:=first|omega|simp only[Wd]<;>omega|rfl)only[Wz,Fj]
  exact EK h1 am hn bA
 ·intro h1 j r k0 p0 hr XQ TE bA
  have n1:=bA.nx
  have l1:=bA.lo
  have t1:=t.le bA
  have uZ:=List.mem_of_getElem? hr
  have hl:=g.len r uZ
  simp(disch:=first|omega|simp only[Wd]<;>omega|rfl)only[Wz,Fk]
  refine E5 (t1.bk r uZ) t1.bX (by omega) (by omega) (by omega) (g.good r uZ) (hw r uZ) d m _ ?_ ?_ ?_ ?_
  ·intro h2 GY; rw[am] at GY; cases GY
  ·intro h2 _ hn; rw[hn k0 XQ] at TE; cases TE
  ·intro h2 k p _ hk hf hs bt
   simp(disch:=first|omega|simp only[Wd]<;>omega|rfl)only[Wz]
   exact Rb h2 j r k p am hr hk hf hs (bA.trans bt)
  ·intro q' h2 i k p jj _ hi hj hf hs R2 p2 f2
   simp(disch:=first|omega|simp only[Wd]<;>omega|rfl)only[Wz]
   exact ig j r q' h2 i k p jj am hr hi hj hf hs R2 p2 ((jk.of_le bA).trans f2 fun _ _ x=>x)
theorem Lb (t:fI a h rt rp rl c vr aF R B) (g:pM R) (hlo:h.lo≤h.nx) (la:a.nx≤h.nx) (ids:∀(j:Nat) (r:RB),R[j]? = some r→∀k∈r.K,∀p∈k.Q,∃n:Nat,p.id=(n:Int)∧B[n]? = some true) (d:Int) (κ:KQ)
  (EK:∀h',(∀r∈R,∀k∈r.K,bJ k.Q d=none)→Le h h'→κ (.tuple ⟨[.slice none 0 0,.int .i64 5]⟩) h')
  (ig:∀(j:Nat) (r:RB) vi v' K' h' (i:Nat) (k:HE) (p:R5) (n:Nat),R[j]? = some r→r.K[i]? = some k→bJ k.Q d=some p→d=(n:Int)→B[n]? = some true→JA r.K K' i k k.w (cw (dO (k.Q.filter fun r=>!bD d r)+1) (k.Q.filter fun r=>!bD d r)).1→jl a h' r.rb rp aF v' K'→cF h' rp rl (B.set n false)→jk (SK r.rb rl r.v) h h'→mh h r.v v'→
   jM h h' vi (cw (dO (k.Q.filter fun r=>!bD d r)+1) (k.Q.filter fun r=>!bD d r)).2→κ (.tuple ⟨[vi,.int .i64 0]⟩) h') :
  CallW Tryz.prog 19 [.pointer (some ⟨rt,0,none⟩),.int .i64 d] h κ:=by
 refine an mixed ?_
 rw[Zw]
 refine Pc t g hlo d _ ?_ ?_
 ·intro h1 hn bA
  simp(disch:=first|omega|simp only[Wd]<;>omega|rfl)only[Wz,Fj]
  exact EK h1 hn bA
 ·intro h1 j r k0 p0 hr XQ TE bA
  have n1:=bA.nx
  have l1:=bA.lo
  have t1:=t.le bA
  have uZ:=List.mem_of_getElem? hr
  have hl:=g.len r uZ
  simp(disch:=first|omega|simp only[Wd]<;>omega|rfl)only[Wz,Fk]
  refine KO (t1.bk r uZ) t1.bX (by omega) (by omega) (by omega) (g.good r uZ) (ids j r hr) d _ ?_ ?_
  ·intro h2 hn; rw[hn k0 XQ] at TE; cases TE
  ·intro vi v' K' h2 i k p n hi hf hid hb en R2 p2 f2 nb o2
   simp(disch:=first|omega|simp only[Wd]<;>omega|rfl)only[Wz]
   exact ig j r vi v' K' h2 i k p n hr hi hf hid hb en R2 p2 ((jk.of_le bA).trans f2 fun _ _ x=>x) (nb.up n1) (dh.base o2 n1)
theorem acZ (t:fI a h rt rp rl c vr aF R B) {x y:Int} (hn:¬bT x y c.S<0):∃(k:Nat) (r:RB),bT x y c.S=(k:Int)∧R[k]? = some r:=by
 have hr:=rI (t:=x) (r:=y) (s:=c.S) (by omega)
 have hS:=t.cS
 refine ⟨(bT x y c.S).toNat,R[(bT x y c.S).toNat]'(by omega),by omega,List.getElem?_eq_getElem _⟩
theorem RT (t:fI a h rt rp rl c vr aF R B) (g:pM R) (hlo:h.lo≤h.nx) (la:a.nx≤h.nx) (hw:∀r∈R,∀k∈r.K,k.w≤100000) (ids:∀(j:Nat) (r:RB),R[j]? = some r→∀k∈r.K,∀p∈k.Q,∃n:Nat,p.id=(n:Int)∧B[n]? = some true) (x y z m:Int) (κ:KQ)
  (nZ:∀h',bT x y c.S<0→Le h h'→κ (.tuple ⟨[.int .i64 0,.bool false,.int .i64 2]⟩) h')
  (hk2:∀h',aZ m=false→Le h h'→κ (.tuple ⟨[.int .i64 0,.bool false,.int .i64 2]⟩) h')
  (Me:∀h' (j:Nat) (r:RB) k p,R[j]? = some r→bT x y c.S=(j:Int)→aZ m=true→k∈r.K→x=k.t→y=k.r→p∈k.Q→p.x=z→Le h h'→κ (.tuple ⟨[.int .i64 0,.bool false,.int .i64 4]⟩) h')
  (GK:∀h' (j:Nat) (r:RB),R[j]? = some r→bT x y c.S=(j:Int)→aZ m=true→(∀k∈r.K,x=k.t→y=k.r→∀p∈k.Q,p.x≠z)→(B.length≤(di B).length∨((∀k∈r.K,¬(x=k.t∧y=k.r))∧aF≤r.K.length))→Le h h'→κ (.tuple ⟨[.int .i64 0,.bool false,.int .i64 8]⟩) h')
  (Cz:∀(j:Nat) (r:RB) (n i:Nat) k q' v' h',R[j]? = some r→bT x y c.S=(j:Int)→aZ m=true→(∀k∈r.K,x=k.t→y=k.r→∀p∈k.Q,p.x≠z)→B[n]? = some false→(∀k,k<n→B[k]? = some true)→r.K[i]? = some k→k.t=x→k.r=y→
   jl a h' r.rb rp aF v' (r.K.set i ⟨x,y,0,0,q',(dI k.Q k.w n z m).2.1,k.Q++[(dI k.Q k.w n z m).1]⟩)→cF h' rp rl (B.set n true)→jk (SK r.rb rl r.v) h h'→mh h r.v v'→κ (.tuple ⟨[.int .i64 (n:Int),.bool (dI k.Q k.w n z m).2.2,.int .i64 0]⟩) h')
  (hkN:∀(j:Nat) (r:RB) (n i:Nat) q' v' h',R[j]? = some r→bT x y c.S=(j:Int)→aZ m=true→(∀k∈r.K,¬(x=k.t∧y=k.r))→r.K.length<aF→B[n]? = some false→(∀k,k<n→B[k]? = some true)→(∀(j:Nat) (k:HE),j<i→r.K[j]? = some k→fO (bB k) (x,y))→(∀(j:Nat) (k:HE),i≤j→r.K[j]? = some k→fO (x,y) (bB k))→
   jl a h' r.rb rp aF v' (r.K.take i++⟨x,y,0,0,q',(dI [] 0 n z m).2.1,[]++[(dI [] 0 n z m).1]⟩::r.K.drop i)→cF h' rp rl (B.set n true)→jk (SK r.rb rl r.v) h h'→mh h r.v v'→κ (.tuple ⟨[.int .i64 (n:Int),.bool (dI [] 0 n z m).2.2,.int .i64 0]⟩) h') :
  CallW Tryz.prog 21 [.pointer (some ⟨rt,0,none⟩),dn x y,.int .i64 z,.int .i64 m] h κ:=by
 refine an mixed ?_
 rw[Zy]
 simp(disch:=first|omega|simp only[Wd]<;>omega|rfl)only[Wz,dn]
 obtain ⟨hA,az⟩:∃hA:Heap,hA=⟨h.nx+1,(h.bl.aY (h.nx) (aa [.int .i64 x,.int .i64 y] 36 false)),h.lo⟩:=⟨_,rfl⟩
 have aK:Le h hA:=by subst az; exact ((Le.refl h).new _)
 have g1:hA.bl.get (h.nx)=some (aa [.int .i64 x,.int .i64 y] 36 false):=by subst az; exact T.af _ _ _
 have d_:hA.nx=h.nx+1:=by subst az; rfl
 have ee:hA.lo=h.lo:=by subst az; rfl
 rw[←az]
 clear az
 refine yL (t.le aK) (by omega) x y _ ?_
 intro h1 bA
 have Aq:=bA.nx
 have Ar:=bA.lo
 have g1:=(bA.get _ (by omega)).trans g1
 have sJ:=aK.trans bA
 by_cases hneg:bT x y c.S<0
 ·simp(disch:=first|omega|simp only[Wd]<;>omega|rfl)only[Wz,a_ hneg]
  exact nZ h1 hneg sJ
 obtain ⟨j,r,hst,hr⟩:=acZ t hneg
 have uZ:=List.mem_of_getElem? hr
 have hl:=g.len r uZ
 have t1:=t.le sJ
 have c1:=t1.cell
 obtain ⟨b,o,hb,fJ,eX⟩:=RQ t.sl j hr
 have L1:=eX h1 sJ
 rw[hst]
 simp(disch:=first|omega|simp only[Wd]<;>omega|rfl)only[Wz,bP (show (0:Int)≤(j:Int) by omega),Iv,aJ,c1,fJ,L1,g1]
 have n01:=sJ.nx
 refine Rt (t1.bk r uZ) t1.bX (by omega) (by omega) (by omega) (g.good r uZ) (g.qN r uZ) (hw r uZ) (ids j r hr) x y z m _ ?_ ?_ ?_ ?_ ?_
 ·intro h2 am bt
  simp(disch:=first|omega|simp only[Wd]<;>omega|rfl)only[Wz]
  exact hk2 h2 am (sJ.trans bt)
 ·intro h2 k p am hk hx hy hp hz bt
  simp(disch:=first|omega|simp only[Wd]<;>omega|rfl)only[Wz]
  exact Me h2 j r k p hr hst am hk hx hy hp hz (sJ.trans bt)
 ·intro h2 am hno hf bt
  simp(disch:=first|omega|simp only[Wd]<;>omega|rfl)only[Wz]
  exact GK h2 j r hr hst am hno hf (sJ.trans bt)
 ·intro n i k q' v' h2 am hno hb xW hi hx hy R2 p2 f2 nb
  simp(disch:=first|omega|simp only[Wd]<;>omega|rfl)only[Wz]
  exact Cz j r n i k q' v' h2 hr hst am hno hb xW hi hx hy R2 p2 ((jk.of_le sJ).trans f2 fun _ _ x=>x) (nb.up n01)
 ·intro n i q' v' h2 am hno hlt hb xW h3 h4 R2 p2 f2 nb
  simp(disch:=first|omega|simp only[Wd]<;>omega|rfl)only[Wz]
  exact hkN j r n i q' v' h2 hr hst am hno hlt hb xW h3 h4 R2 p2 ((jk.of_le sJ).trans f2 fun _ _ x=>x) (nb.up n01)
end
theorem uK {α:Type} {R:α→α→Prop}:∀{L1 L2:List α},L1.Perm L2→L1.Pairwise R→L2.Pairwise R→(∀a∈L1,∀b∈L1,R a b→R b a→a=b)→L1=L2:=by
 intro L1
 induction L1 with
 | nil=>intro L2 h _ _ _; exact (List.nil_perm.1 h).symm
 | cons a L1 ih=>
  intro L2 h h1 h2 anti
  cases L2 with
  | nil=>exact absurd h.length_eq (by simp)
  | cons b L2=>
   rw[List.pairwise_cons] at h1 h2
   have hab:a=b:=by
    rcases List.mem_cons.1 (h.mem_iff.1 (.head _)) with e | ha
    ·exact e
    rcases List.mem_cons.1 (h.mem_iff.2 (.head _)) with e | hb
    ·exact e.symm
    exact anti a (.head _) b (.tail _ hb) (h1.1 b hb) (h2.1 a ha)
   subst hab
   rw[ih (List.Perm.cons_inv h) h1.2 h2.2 fun x hx y hy=>anti x (.tail _ hx) y (.tail _ hy)]
theorem RU {a b:L4} (h1:¬qO a b) (h2:¬qO b a):a.x=b.x∧a.t=b.t∧a.r=b.r:=by
 unfold qO fO at *; simp only at *; omega
section
variable {h h2:Heap} {tb bw bp bl:Nat} {c:dF} {vb:Value} {aF N:Nat} {Ts Ts2:List TB} {W:List IE} {wc:Nat} {F:List Int} {B:List Bool}
end
end Go.Proofs
