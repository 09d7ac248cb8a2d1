/-
  PROVED HERE: a part of the proof (S22, S23, S24, S25, S26).
-/
import Derived.Test.YtmjghbjpdoeemaaGreatDoorTE
import Derived.Test.YtmjghbjpdoeemaaGreatDoorRZ
set_option linter.unusedVariables false
set_option linter.unusedSimpArgs false
set_option maxRecDepth 100000
set_option maxHeartbeats 2000000
namespace Go.Proofs
open Go.Vai Go.Clashes
def eM (h:Heap) (u:Value) (L:List cF):Prop:=(L=[]∧∃x c,u=.slice x 0 c)∨∃(b j:Nat) (W:List cF),L≠[]∧u=.slice (some ⟨b,j*7,none⟩) L.length aM∧b<h.nx∧h.lo≤b∧h.bl.get b=some (aa (W.flatMap fE) 39 true)∧W.length=j+L.length∧W.drop j=L
theorem eM.len {h:Heap} {u:Value} {L:List cF} (p:eM h u L) {β:Type} {fl:β} (h':Heap) (κ:Value→Heap→β):bA fl u h' κ=κ (.int .i64 (L.length:Int)) h':=by
 rcases p with ⟨rfl,x,c,rfl⟩ | ⟨b,j,W,_,rfl,_⟩
 ·exact dx _ _ _ _ _
 ·exact dx _ _ _ _ _
theorem eM.own {a h:Heap} {u:Value} {L:List cF} (o:fS fE a 39 h u L):eM h u L:=by
 rcases o with ⟨rfl,rfl | ⟨b,o,rfl⟩⟩ | ⟨b,rfl,h1,h2,h3,h4⟩
 ·exact .inl ⟨rfl,_,_,rfl⟩
 ·exact .inl ⟨rfl,_,_,rfl⟩
 ·by_cases hL:L=[]
  ·subst hL; exact .inl ⟨rfl,_,_,rfl⟩
  ·exact .inr ⟨b,0,L,hL,by rw[Nat.zero_mul],h2,h3,h4,by omega,rfl⟩
theorem eM.keep {h h':Heap} {u:Value} {L:List cF} (p:eM h u L) (hn:h.nx≤h'.nx) (hl:h'.lo=h.lo) (hg:∀c vs,c<h.nx→h.bl.get c=some (aa vs 39 true)→h'.bl.get c=h.bl.get c):eM h' u L:=by
 rcases p with p | ⟨b,j,W,h1,h2,h3,h4,h5,h6⟩
 ·exact .inl p
 ·exact .inr ⟨b,j,W,h1,h2,by omega,by omega,(hg b _ h3 h5).trans h5,h6⟩
theorem eM.head {h:Heap} {u:Value} {x:cF} {L:List cF} (p:eM h u (x::L)):∃b j,b<h.nx∧(∀(β:Type) (fl:β) (h':Heap) (κ:Value→Heap→β),ax fl 7 u (.int .i64 0) h' κ=κ (.pointer (some ⟨b,j,none⟩)) h')∧(∀(β:Type) (fl:β) (κ:List Value→β),zm fl (h.bl.get b) j 7 κ=κ (fE x)):=by
 rcases p with ⟨e,_⟩ | ⟨b,j,W,h1,h2,h3,h4,h5,h6,h7⟩
 ·cases e
 ·have hs:Sl fE h u (x::L):=by
   refine ⟨_,aM,h2,fun _=>⟨b,j*7,rfl,h3,?_⟩⟩
   have hh:Has (h.bl.get b) 0 (W.flatMap fE):=by rw[h5]; exact Has.all
   have hl:=bh (enc:=fE) encK_len W
   have hle:j*7≤W.length*7:=Nat.mul_le_mul_right _ (by omega)
   have:=hh.sub (j*7) (W.length*7-j*7) (by rw[hl]; omega)
   rw[Nat.zero_add] at this
   have e1:((W.flatMap fE).drop (j*7)).take (W.length*7-j*7)=(x::L).flatMap fE:=by
    rw[Dh encK_len,h7,List.take_of_length_le]
    rw[bh (enc:=fE) encK_len,←h7,List.length_drop,Nat.sub_mul]
    exact Nat.le_refl _
   rwa [e1] at this
  obtain ⟨b',o',q1,q2,q3,hh⟩:=hs.ld encK_len 0 (p:=x) rfl
  exact ⟨b',o',q1,q2,fun β fl κ=>pq hh 7 κ rfl⟩
theorem eM.tail {h:Heap} {u:Value} {x:cF} {L:List cF} (p:eM h u (x::L)):∃u',eM h u' L∧dR u'=true∧u'.cells.toList=[u']∧∀(β:Type) (fl:β) (κ:Value→Heap→β),sliceB fl 39 7 u (some (.int .i64 1)) none none h κ=κ u' h:=by
 rcases p with ⟨e,_⟩ | ⟨b,j,W,h1,h2,h3,h4,h5,h6,h7⟩
 ·cases e
 ·have hl:=bh (enc:=fE) encK_len W
  have hk:fZ h 39 b=some (W.length*7):=by unfold fZ; rw[h5]; simp only[aa,gZ,hl]
  have hlen:(x::L).length=L.length+1:=rfl
  rw[hlen] at h2 h6
  have hd:Nat.div (Nat.sub (W.length*7) (j*7)) (6+1)=L.length+1:=by
   show (W.length*7-j*7) / 7=_
   rw[←Nat.sub_mul,Nat.mul_div_cancel _ (by omega)]; omega
  have e1:Nat.beq aM fk=false:=by decide
  have e2:Nat.beq aM aM=true:=Nat.beq_refl _
  have e3:Nat.ble (j*7) (W.length*7)=true:=Nat.ble_eq_true_of_le (Nat.mul_le_mul_right _ (by omega))
  have e5:Nat.ble (L.length+1) (L.length+1)=true:=Nat.ble_eq_true_of_le (Nat.le_refl _)
  have e6:Nat.ble 1 (L.length+1)=true:=Nat.ble_eq_true_of_le (by omega)
  have e8:∀{β:Type} {fl:β} (κ:Nat→β),vJ fl (some (Value.int .i64 1)) 0 κ=κ 1:=fun κ=>tG 1 0 κ
  by_cases hL:L=[]
  ·subst hL
   refine ⟨.slice (some ⟨b,j*7,none⟩) 0 fk,.inl ⟨rfl,_,_,rfl⟩,rfl,rfl,fun β fl κ=>?_⟩
   subst h2
   have e9:Nat.beq 1 ([]:List cF).length.succ=true:=rfl
   unfold sliceB gG
   simp only[e1,e2,hk,e3,hd,e8,nq,e5,e6,e9,Nat.beq_refl,List.length_nil]
  ·refine ⟨.slice (some ⟨b,(j+1)*7,none⟩) L.length aM,.inr ⟨b,j+1,W,hL,rfl,h3,h4,h5,by omega,?_⟩,rfl,rfl,fun β fl κ=>?_⟩
   ·have:=congrArg (List.drop 1) h7
    rw[List.drop_drop] at this
    simpa using this
   ·subst h2
    have e9:Nat.beq 1 (L.length+1)=false:=by
     have:L.length≠0:=fun e=>hL (List.eq_nil_of_length_eq_zero e)
     cases hb:Nat.beq 1 (L.length+1) with
     | false=>rfl
     | true=>have:=Nat.eq_of_beq_eq_true hb; omega
    have e10:Nat.add (j*7) (Nat.mul 1 (6+1))=(j+1)*7:=by show j*7+1*7=_; omega
    have e11:Nat.sub (L.length+1) 1=L.length:=by show L.length+1-1=_; omega
    unfold sliceB gG
    simp only[e1,e2,hk,e3,hd,e8,nq,e5,e6,e9,Nat.beq_refl,bG,e10,e11]
structure KL (x:Nat) (h h':Heap):Prop where
 nx:h.nx≤h'.nx
 lo:h'.lo=h.lo
 ty:∀d vs t o,d<h.nx→d≠x→h.bl.get d=some (aa vs t o)→¬oM t o→¬nK t o→h'.bl.get d=h.bl.get d
 ro:∀d,d<h.nx→(∀vs t o,h.bl.get d≠some (aa vs t o))→(∀es c,h.bl.get d≠some (.map es c))→h'.bl.get d=h.bl.get d
theorem WK.kl {a:TA} {h h':Heap} (k:WK a h h') (x:Nat):KL x h h':=⟨k.nx,k.lo,fun d vs t o hd _=>k.ty d vs t o hd,k.ro⟩
theorem KL.le {h h':Heap} (l:Le h h') (x:Nat):KL x h h':=⟨l.nx,l.lo,fun d _ _ _ hd _ _ _ _=>l.get d hd,fun d hd _ _=>l.get d hd⟩
theorem KL.trans {b:Nat} {h h1 h2:Heap} (x:KL b h h1) (y:KL b h1 h2):KL b h h2 where
 nx:=Nat.le_trans x.nx y.nx
 lo:=y.lo.trans x.lo
 ty d vs t o hd hb hg ht hr:=by
  have e:=x.ty d vs t o hd hb hg ht hr
  exact (y.ty d vs t o (Nat.lt_of_lt_of_le hd x.nx) hb (e.trans hg) ht hr).trans e
 ro d hd h1 h2:=by
  have e:=x.ro d hd h1 h2
  exact (y.ro d (Nat.lt_of_lt_of_le hd x.nx) (fun vs t o=>by rw[e]; exact h1 vs t o) (fun es c=>by rw[e]; exact h2 es c)).trans e
def jB (h:Heap):Prop:=∀d,(∀vs t o,h.bl.get d≠some (aa vs t o))∧∀es c,h.bl.get d≠some (.map es c)
theorem KL.entry {x:Nat} {h0 h h':Heap} (r:jB h0) (l:Le h0 h) (k:KL x h h'):Le h0 h':=by
 refine ⟨Nat.le_trans l.nx k.nx,k.lo.trans l.lo,fun d hd=>?_⟩
 have e:=l.get d hd
 exact (k.ro d (Nat.lt_of_lt_of_le hd l.nx) (fun vs t o=>by rw[e]; exact (r d).1 vs t o) (fun es c=>by rw[e]; exact (r d).2 es c)).trans e
theorem KL.part {x:Nat} {h h':Heap} (k:KL x h h') (hx:∀vs,h.bl.get x≠some (aa vs 39 true)) {u:Value} {L:List cF} (p:eM h u L):eM h' u L:=
 p.keep k.nx k.lo fun c vs hc hg=>k.ty c vs _ _ hc (by rintro rfl; exact hx _ hg) hg (by unfold oM; decide) (by unfold nK; decide)
structure CO (h:Heap) (bp b8:Nat) (v:Nat→Value) (C:Nat→List Int):Prop where
 lt:b8<h.nx
 lo:h.lo≤b8
 cell:h.bl.get b8=some (aa [v 0,v 1] 41 false)
 p:∀k,k<2→jv h (v k) (C k)
 nf:∀k,k<2→∀c n cap,v k=.slice (some ⟨c,0,none⟩) n cap→¬FB h bp c
 ap:∀j k,j<2→k<2→j≠k→∀c n cap n' cap',v j=.slice (some ⟨c,0,none⟩) n cap→v k≠.slice (some ⟨c,0,none⟩) n' cap'
theorem CO.wk {h h':Heap} {a:TA} {b8:Nat} {v:Nat→Value} {C:Nat→List Int} (c:CO h a.bp b8 v C) (k:WK a h h'):CO h' a.bp b8 v C:=by
 have n:=k.nx
 have l:=k.lo
 have hlt:=c.lt
 refine ⟨by omega,by have:=c.lo; omega,(k.ty _ _ _ _ c.lt c.cell (by unfold oM; decide) (by unfold nK; decide)).trans c.cell,fun j hj=>?_,fun j hj x m cap e hf=>?_,c.ap⟩
 ·have nf:=c.nf j hj
  rcases c.p j hj with p | ⟨b,G,e,h1,h2,h3,h4⟩
  ·exact .inl p
  ·exact .inr ⟨b,G,e,by omega,by omega,(k.oi b _ h1 h3 (nf b _ _ e)).trans h3,h4⟩
 ·rcases c.p j hj with p | ⟨b,G,e',h1,_⟩
  ·rw[p.2] at e; cases e
  ·rw[e'] at e; cases e
   exact c.nf j hj _ _ _ e' (k.mv _ h1 hf)
theorem CO.new {h h':Heap} {bp bp' b8:Nat} {v:Nat→Value} {C:Nat→List Int} (c:CO h bp b8 v C) (l:Le h h') (hf:∀x,FB h' bp' x→h.nx≤x):CO h' bp' b8 v C:=by
 have n:=l.nx
 have l':=l.lo
 have hlt:=c.lt
 refine ⟨by omega,by have:=c.lo; omega,(l.get _ c.lt).trans c.cell,fun j hj=>?_,fun j hj x m cap e hb=>?_,c.ap⟩
 ·rcases c.p j hj with p | ⟨b,G,e,h1,h2,h3,h4⟩
  ·exact .inl p
  ·exact .inr ⟨b,G,e,by omega,by omega,(l.get b h1).trans h3,h4⟩
 ·rcases c.p j hj with p | ⟨b,G,e',h1,_⟩
  ·rw[p.2] at e; cases e
  ·rw[e'] at e; cases e
   have:=hf _ hb
   omega
theorem DC {a b a' b':Value} {t:TypeId} {o:Bool} (e:(some (aa [a,b] t o):Option bC)=some (aa [a',b'] t o)):a=a':=by
 have h1:Has (some (aa [a,b] t o)) 0 [a,b]:=Has.all
 have h2:Has (some (aa [a',b'] t o)) 0 [a',b']:=Has.all
 rw[←e] at h2
 have k1:=cL (β:=Option Value) (fl:=none) h1 0 some (by show 0<2; omega)
 have k2:=cL (β:=Option Value) (fl:=none) h2 0 some (by show 0<2; omega)
 exact Option.some.inj (k1.symm.trans k2)
theorem lK {v v':List Value} {t t':TypeId} {o o':Bool} (e:(some (aa v t o):Option bC)=some (aa v' t' o')):t=t'∧o=o':=by
 have ht:t=t':=Classical.byContradiction fun hn=>aT hn e
 subst ht
 refine ⟨rfl,?_⟩
 cases o<;>cases o'
 ·rfl
 ·exact absurd e bf
 ·exact absurd e.symm bf
 ·rfl
section
variable {h:Heap} {A:WA} {a:TA} {N:Nat} {d:TD} {R:RD}
theorem WS.sy (s:WS h A a N d R) {x:Nat} {v:List Value} {t:TypeId} {o:Bool} (hg:h.bl.get x=some (aa v t o)) (ht:¬oM t o) (hr:¬nK t o) (ob:bC):WS ⟨h.nx,h.bl.aW x ob,h.lo⟩ A a N d R:=by
 refine ⟨jx.put s.t ob (fun vs ty op h1 e=>?_) (gO hg s.t.is.kS) fun b hb=>gO hg (s.t.is.bk b hb).eG,s.r.keep (Nat.le_refl _) rfl (fun c vs ty op _ h1 e=>T.ai _ _ ?_) (T.ai _ _ (gO hg s.r.gm)),s.mw,s.mm,s.lo⟩
 ·rw[hg] at e
  obtain ⟨rfl,rfl⟩:=lK e
  exact ht h1
 ·rintro rfl
  rw[hg] at e
  obtain ⟨rfl,rfl⟩:=lK e
  exact hr h1
theorem WS.ints (s:WS h A a N d R) {h':Heap} (hn:h.nx≤h'.nx) (hl:h'.lo=h.lo) (Gf:∀c,c<h.nx→(∀vs,h.bl.get c≠some (aa vs 3 true))→h'.bl.get c=h.bl.get c) (hfb:∀c,c<h.nx→FB h a.bp c→h'.bl.get c=h.bl.get c):WS h' A a N d R:=by
 have gw:=s.t.is.kS
 have gm:=s.r.gm
 have hlo:=s.lo
 refine ⟨s.t.only hn hl (fun c vs ty op hc ht hf hg=>?_) (Gf _ s.t.is.zp fun vs e=>by rw[gw] at e; exact bB e) (fun b hb=>Gf _ (s.t.is.bk b hb).rz fun vs e=>by rw[(s.t.is.bk b hb).eG] at e; exact bB e),s.r.keep hn hl (fun c vs ty op hc hr hg=>Gf c hc fun vs' e=>?_) (Gf _ s.r.rz.1 fun vs e=>by rw[gm] at e; exact bB e),s.mw,s.mm,by omega⟩
 ·by_cases e:ty=3
  ·exact hfb c hc (hf e)
  ·exact Gf c hc fun vs' e'=>by rw[hg] at e'; exact aT e e'
 ·rw[hg] at e
  obtain ⟨rfl,rfl⟩:=lK e
  revert hr
  unfold nK
  decide
theorem WS.WC (s:WS h A a N d R) {x:Nat} (hf:FB h a.bp x):x<h.nx:=by
 obtain ⟨n,cap,ls,hg⟩:=hf
 obtain ⟨fs,hg',hp⟩:=s.t.is.dh.fr.cell
 rw[hg] at hg'
 have:=DC hg'
 rcases hp with ⟨_,e⟩ | ⟨b,G,e,h1,_⟩
 ·rw[e] at this; cases this
 ·rw[e] at this; cases this; exact h1
theorem CO.push (s:WS h A a N d R) {b8:Nat} {v:Nat→Value} {C:Nat→List Int} (c:CO h a.bp b8 v C) {k:Nat} (hk2:k<2) {x:Int} {b7 c7:Nat} (Vf:b7<h.nx) (ZR:h.bl.get b7=some (aa [.int .i64 x] 3 false)) (hlen:(C k).length≤100000) (κ:KQ)
  (hk:∀v' h' b' n',v'=.slice (some ⟨b',0,none⟩) n' aM→h'.bl.get b8=h.bl.get b8→h.nx≤h'.nx→h'.lo=h.lo→WS ⟨h'.nx,h'.bl.aW b8 (aa [if k=0 then v' else v 0,if k=1 then v' else v 1] 41 false),h'.lo⟩ A a N d R→CO ⟨h'.nx,h'.bl.aW b8 (aa [if k=0 then v' else v 0,if k=1 then v' else v 1] 41 false),h'.lo⟩ a.bp b8 (fun j=>if k=j then v' else v j) (fun j=>if k=j then C k++[x] else C j)→KL b8 h ⟨h'.nx,h'.bl.aW b8 (aa [if k=0 then v' else v 0,if k=1 then v' else v 1] 41 false),h'.lo⟩→κ v' h') :
  bE False 3 1 [.int .i64 0] false (v k) (.slice (some ⟨b7,0,none⟩) 1 c7) h κ:=by
 refine ry (c.p k hk2) Vf ZR hlen s.lo κ ?_
 intro v' h' hp hn hl Gf Je rV
 have s1:WS h' A a N d R:=s.ints hn hl Gf fun x hx hf=>Je x hx fun n cap e=>c.nf k hk2 _ _ _ e hf
 have SN:h'.bl.get b8=h.bl.get b8:=Gf b8 c.lt fun vs e=>by rw[c.cell] at e; exact aT (by decide) e
 have Gv:=SN.trans c.cell
 obtain ⟨b',G',e',p1,p2,p3,p4⟩:∃b G,v'=.slice (some ⟨b,0,none⟩) (C k++[x]).length aM∧b<h'.nx∧h'.lo≤b∧h'.bl.get b=some (aa ((C k++[x]++G).flatMap bQ) 3 true)∧0<(C k++[x]++G).length:=by
  rcases hp with ⟨e,_⟩ | ⟨b,G,h1,h2,h3,h4,h5⟩
  ·simp at e
  ·exact ⟨b,G,h1,h2,h3,h4,h5⟩
 have hnb:b'≠b8:=fF p3 Gv (by decide)
 obtain ⟨fs,ls,Vv,SC⟩:=s.bp
 have WD:h'.bl.get a.bp=h.bl.get a.bp:=Gf _ Vv fun vs e=>by rw[SC] at e; exact aT (by decide) e
 have hpb:b8≠a.bp:=fF Gv (WD.trans SC) (by decide)
 have fbe:∀y,FB ⟨h'.nx,h'.bl.aW b8 (aa [if k=0 then v' else v 0,if k=1 then v' else v 1] 41 false),h'.lo⟩ a.bp y→FB h a.bp y:=fun y hf=>(FB.congr WD).1 ((FB.congr (T.ai _ _ hpb)).1 hf)
 have hlt:∀j,j<2→∀y n cap,v j=.slice (some ⟨y,0,none⟩) n cap→y<h.nx:=fun j hj y n cap e=>by
  rcases c.p j hj with p | ⟨b,G,e',h1,_⟩
  ·rw[p.2] at e; cases e
  ·rw[e'] at e; cases e; exact h1
 have old:∀y n cap,v'=.slice (some ⟨y,0,none⟩) n cap→y<h.nx→∃n cap,v k=.slice (some ⟨y,0,none⟩) n cap:=fun y n cap e hy=>rV y n cap hy e
 have hlo:=c.lo
 have agk:=c.lt
 refine hk v' h' b' _ e' SN hn hl (s1.sy Gv (by unfold oM; decide) (by unfold nK; decide) _) ⟨Nat.lt_of_lt_of_le c.lt hn,by show h'.lo≤b8; omega,T.af _ _ _,fun j hj=>?_,fun j hj y n cap e hf=>?_,fun i j hi hj hne y n cap n' cap' e1 e2=>?_⟩ ⟨hn,hl,fun y vs t o hy hx hg ht hr=>?_,fun y hy h1 h2=>?_⟩
 ·by_cases e:k=j
  ·simp only[if_pos e]
   subst e
   exact .inr ⟨b',G',e',p1,p2,(T.ai _ _ (fun e=>hnb e.symm)).trans p3,p4⟩
  ·simp only[if_neg e]
   rcases c.p j hj with p | ⟨b,G,e2,h1,h2,h3,h4⟩
   ·exact .inl p
   ·have g1:h'.bl.get b=h.bl.get b:=Je b h1 fun n cap e3=>c.ap k j hk2 hj e _ _ _ _ _ e3 e2
    have:b≠b8:=fF h3 c.cell (by decide)
    exact .inr ⟨b,G,e2,Nat.lt_of_lt_of_le h1 hn,by show h'.lo≤b; omega,(T.ai _ _ (fun e=>this e.symm)).trans (g1.trans h3),h4⟩
 ·have hf:=fbe y hf
  have hy:=s.WC hf
  by_cases ek:k=j
  ·simp only[if_pos ek] at e
   obtain ⟨n',cap',e2⟩:=old y n cap e hy
   exact c.nf k hk2 _ _ _ e2 hf
  ·simp only[if_neg ek] at e
   exact c.nf j hj _ _ _ e hf
 ·by_cases ei:k=i
  ·have ej:k≠j:=by omega
   simp only[if_pos ei] at e1
   simp only[if_neg ej] at e2
   obtain ⟨n2,aa2,e3⟩:=old y n cap e1 (hlt j hj _ _ _ e2)
   exact c.ap k j hk2 hj ej _ _ _ _ _ e3 e2
  ·simp only[if_neg ei] at e1
   by_cases ej:k=j
   ·simp only[if_pos ej] at e2
    obtain ⟨n2,aa2,e3⟩:=old y n' cap' e2 (hlt i hi _ _ _ e1)
    exact c.ap i k hi hk2 (fun e=>ei e.symm) _ _ _ _ _ e1 e3
   ·simp only[if_neg ej] at e2
    exact c.ap i j hi hj hne _ _ _ _ _ e1 e2
 ·refine (T.ai _ _ (fun e=>hx e.symm)).trans (Gf y hy fun vs' e=>?_)
  rw[hg] at e
  obtain ⟨rfl,rfl⟩:=lK e
  exact ht (by simp[oM])
 ·refine (T.ai _ _ ?_).trans (Gf y hy fun vs'=>h1 _ _ _)
  rintro rfl
  exact h1 _ _ _ c.cell
end
structure OkC (i k:Nat) (x0:Int) (c:CR):Prop where
 wt:c.wt=false
 th:c.th=(i:Int)
 st:c.st=(k:Int)
 nm:ck c.a.t c.a.r 2=(k:Int)
 may:qQ c.a=true
 nh:c.a.k≠3
 x:c.a.x=x0
def TS (R:RD) (i k:Nat) (x0:Int) (G Gn:Int→Int→Int) (cB:List Int) (n:Nat):Prop:=
 (n=0∧R.cs[i]? = some none∧R.cI[k]? = some none∧cB=[]∧Gn=G)∨
 ∃c,R.cs[i]? = some (some c)∧OkC i k x0 c∧((n=3∧c.ph=1∧R.cI[k]? = some none∧cB=[gT G c.a]∧Gn=p8 G c.a)∨
  (n=2∧c.ph=2∧(∃p,R.cI[k]? = some (some (p,c.th)))∧cB=[gT G c.a]∧Gn=p8 G c.a)∨
  (n=1∧c.ph=3∧(∃p,R.cI[k]? = some (some (p,c.th)))∧cB=[c.out]∧c.out≠0∧Gn=G))
theorem TS.ph {R:RD} {i k:Nat} {x0:Int} {G Gn:Int→Int→Int} {cB:List Int} {n:Nat} (t:TS R i k x0 G Gn cB n):∃o,R.cs[i]? = some o∧(B7 o=0↔n=0):=by
 rcases t with ⟨rfl,h,_⟩ | ⟨c,h,_,⟨rfl,h1,_⟩ | ⟨rfl,h1,_⟩ | ⟨rfl,h1,_⟩⟩
 ·exact ⟨_,h,by simp[B7]⟩
 ·exact ⟨_,h,by simp[B7,h1]⟩
 ·exact ⟨_,h,by simp[B7,h1]⟩
 ·exact ⟨_,h,by simp[B7,h1]⟩
theorem TS.idle {R:RD} {i k:Nat} {x0:Int} {G Gn:Int→Int→Int} {cB:List Int} (t:TS R i k x0 G Gn cB 0):R.cs[i]? = some none∧R.cI[k]? = some none∧cB=[]∧Gn=G:=by
 rcases t with ⟨_,h⟩ | ⟨c,h,_,⟨e,_⟩ | ⟨e,_⟩ | ⟨e,_⟩⟩
 ·exact h
 ·omega
 ·omega
 ·omega
structure Aside (R R':RD) (i k:Nat):Prop where
 bits:R'.bits=R.bits
 begun:R'.begun=R.begun
 cs:∀j,j≠i→R'.cs[j]? = R.cs[j]?
 cI:∀j,j≠k→R'.cI[j]? = R.cI[j]?
theorem TS.aside {R R':RD} {i k j l:Nat} (a:Aside R R' i k) (hj:j≠i) (hl:l≠k) {x0:Int} {G Gn:Int→Int→Int} {cB:List Int} {n:Nat} (t:TS R j l x0 G Gn cB n):TS R' j l x0 G Gn cB n:=by
 unfold TS at *
 rw[a.cs j hj,a.cI l hl]
 exact t
theorem MP (H:Int→Int→Int) (a:cF):gT H a≠0:=by
 unfold gT; split
 ·decide
 ·split<;>decide
def dF (k:Nat) (H G:Int→Int→Int):Prop:=∀t r,ck t r 2=(k:Int)→H t r=G t r
theorem dF.out {k:Nat} {H G:Int→Int→Int} (a:dF k H G) {x:cF} (hx:ck x.t x.r 2=(k:Int)):gT H x=gT G x:=by unfold gT; rw[a _ _ hx]
theorem dF.aW {k:Nat} {H G:Int→Int→Int} (a:dF k H G) (t r m:Int):dF k (gF H t r m) (gF G t r m):=by
 intro t' r' h
 unfold gF
 split
 ·rfl
 ·exact a _ _ h
theorem nF {α:Type} {l:List α} {i:Nat} {x y:α} (h:l[i]? = some y):(l.set i x)[i]? = some x:=by rw[List.getElem?_set,if_pos rfl,if_pos (List.getElem?_eq_some_iff.1 h).1]
theorem jf {α:Type} {l:List α} {i j:Nat} {x:α} (h:j≠i):(l.set i x)[j]? = l[j]?:=by rw[List.getElem?_set,if_neg (fun e=>h e.symm)]
section
variable {h:Heap} {A:WA} {a:TA} {N:Nat} {d:TD} {R:RD} {H X Hk Gn:Int→Int→Int}
theorem E_ (s:WS h A a N d R) (L:Lone d.Ts H X) {i k n:Nat} {x0:Int} {cB:List Int} (t:TS R i k x0 Hk Gn cB (n+1)) (hS:a.c.S=2) (hi8:i<8) (hb:R.bits[i]? = some 0) (hX:∀t r,ck t r 2=(k:Int)→X t r=x0) (hx0:0≤x0) (hA:dF k H Hk) (hN:N≤1000) (hF:n=1→d.F≠[]) (hh:n=1→∀b,d.Ts[k]? = some b→b.M.length<a.aH) (κ:KQ)
  (hk:∀h' d' R' N' H' Fa done code iD,WS h' A a N' d' R'→Lone d'.Ts H' X→TS R' i k x0 Fa Gn iD n→((done=false∧iD=cB∧n≠0)∨(done=true∧cB=[code]∧iD=[]∧n=0))→
   ((N'=N∧d'=d∧H'=H∧Fa=Hk∧n≠1)∨(n=1∧N'=N+1∧jA d d' k∧∃t r m,ck t r 2=(k:Int)∧H'=gF H t r m∧Fa=gF Hk t r m))→dF k H' Fa→Aside R R' i k→WK a h h'→κ (.tuple ⟨[.bool done,.int .i64 code,.int .i64 0]⟩) h') :
  CallW Tryz.prog 14 [.pointer (some ⟨A.wb,0,none⟩),.int .i64 (i:Int)] h κ:=by
 rcases t with ⟨e,_⟩ | ⟨c,hi,ok,⟨e,wA,hl,hp,hn⟩ | ⟨e,wA,⟨p,hl⟩,hp,hn⟩ | ⟨e,wA,⟨p,hl⟩,hp,hout,hn⟩⟩
 ·omega
 ·obtain rfl:n=2:=by omega
  refine B8 s hi wA hb ok.st ⟨by rw[ok.th]; omega,by rw[ok.th]; omega⟩ hl _ ?_
  intro h' s' k'
  refine hk h' d _ N H Hk false 0 cB s' L (.inr ⟨{ c with ph:=2 },nF hi,⟨ok.wt,ok.th,ok.st,ok.nm,ok.may,ok.nh,ok.x⟩,.inr (.inl ⟨rfl,rfl,⟨_,nF hl⟩,hp,hn⟩)⟩) (.inl ⟨rfl,rfl,by decide⟩) (.inl ⟨rfl,rfl,rfl,rfl,by decide⟩) hA ⟨rfl,rfl,fun j hj=>jf hj,fun j hj=>jf hj⟩ k'
 ·obtain rfl:n=1:=by omega
  obtain ⟨b,hbk⟩:∃b,d.Ts[k]? = some b:=by
   have h1:=uZ (t:=c.a.t) (r:=c.a.r) (s:=2) (by rw[ok.nm]; omega)
   have h2:=s.t.is.cS
   rw[hS] at h2
   rw[ok.nm] at h1
   exact ⟨_,List.getElem?_eq_getElem (by omega)⟩
  refine Dz s L hN hi wA hb ok.wt hbk (by rw[hS]; exact ok.nm) ok.st hl (by rw[ok.x,hX _ _ ok.nm]) (by rw[ok.x]; exact hx0) ok.may ok.nh (hF rfl) (hh rfl b hbk) _ ?_
  intro h' d' s' L' g' k'
  have hHk:=hA _ _ ok.nm
  have fin:∀H',H'=p8 H c.a→dF k H' Gn→(∃t r m,ck t r 2=(k:Int)∧H'=gF H t r m∧Gn=gF Hk t r m)→κ (.tuple ⟨[.bool false,.int .i64 0,.int .i64 0]⟩) h':=fun H' e1 e2 e3=>by
   subst e1
   exact hk h' d' _ (N+1) _ Gn false 0 cB s' L' (.inr ⟨{ c with ph:=3,out:=gT H c.a },nF hi,⟨ok.wt,ok.th,ok.st,ok.nm,ok.may,ok.nh,ok.x⟩,.inr (.inr ⟨rfl,rfl,⟨p,hl⟩,by rw[hp,hA.out ok.nm],MP _ _,rfl⟩)⟩) (.inl ⟨rfl,rfl,by decide⟩) (.inr ⟨rfl,rfl,g',e3⟩) e2 ⟨rfl,rfl,fun j hj=>jf hj,fun j hj=>rfl⟩ k'
  unfold p8 at hn fin
  by_cases h1:c.a.k=1
  ·rw[if_pos h1] at hn fin
   subst hn
   rw[←hHk] at fin
   exact fin _ rfl (hA.aW _ _ _) ⟨_,_,_,ok.nm,rfl,rfl⟩
  ·rw[if_neg h1] at hn fin
   subst hn
   exact fin _ rfl (hA.aW _ _ _) ⟨_,_,_,ok.nm,rfl,rfl⟩
 ·obtain rfl:n=0:=by omega
  refine Dx s hi wA hb ok.st ok.th hout hl _ ?_
  intro h' s' k'
  exact hk h' d _ N H Hk true c.out [] s' L (.inl ⟨rfl,nF hi,nF hl,rfl,hn⟩) (.inr ⟨rfl,hp,rfl,rfl⟩) (.inl ⟨rfl,rfl,rfl,rfl,by decide⟩) hA ⟨rfl,rfl,fun j hj=>jf hj,fun j hj=>jf hj⟩ k'
theorem vw (s:WS h A a N d R) {i k:Nat} {x0:Int} (t:TS R i k x0 Hk Hk [] 0) (hS:a.c.S=2) (x:cF) (OJ:x.x=x0) (h3:x.k≠3) (hst:ck x.t x.r 2=(k:Int)) (Gr:0≤R.begun∧R.begun≤1000000) (κ:KQ)
  (xH:qQ x=false→∀h',Le h h'→κ (.int .i64 2) h')
  (hk:qQ x=true→∀h' R',WS h' A a N d R'→TS R' i k x0 Hk (p8 Hk x) [gT Hk x] 3→R'.bits=R.bits→R'.begun=R.begun+1→(∀j,j≠i→R'.cs[j]? = R.cs[j]?)→R'.cI=R.cI→WK a h h'→κ (.int .i64 0) h') :
  CallW Tryz.prog 16 [.pointer (some ⟨A.wb,0,none⟩),.int .i64 (i:Int),.agg ⟨fE x⟩] h κ:=by
 obtain ⟨hi,hl,_,_⟩:=t.idle
 refine MH s hi x Gr κ xH ?_
 intro hm h' ca s' k'
 refine hk hm h' _ s' (.inr ⟨_,nF hi,⟨rfl,rfl,by rw[hS]; exact hst,hst,hm,h3,OJ⟩,.inl ⟨rfl,rfl,hl,rfl,rfl⟩⟩) rfl rfl (fun j hj=>jf hj) rfl k'
end
theorem dF.refl (k:Nat) (H:Int→Int→Int):dF k H H:=fun _ _ _=>rfl
theorem Aside.refl (R:RD) (i k:Nat):Aside R R i k:=⟨rfl,rfl,fun _ _=>rfl,fun _ _=>rfl⟩
theorem Aside.trans {R R1 R2:RD} {i k:Nat} (x:Aside R R1 i k) (y:Aside R1 R2 i k):Aside R R2 i k:=
 ⟨y.bits.trans x.bits,y.begun.trans x.begun,fun j hj=>(y.cs j hj).trans (x.cs j hj),fun j hj=>(y.cI j hj).trans (x.cI j hj)⟩
section
variable {h:Heap} {A:WA} {a:TA} {N:Nat} {d:TD} {R:RD} {H X Hk Gn:Int→Int→Int}
theorem WS.WE (s:WS h A a N d R):WK a h h:=s.KB (Le.refl h)
theorem Kb (s:WS h A a N d R) (L:Lone d.Ts H X) {i k:Nat} {x0 code:Int} (t:TS R i k x0 Hk Gn [code] 3) (hS:a.c.S=2) (hi8:i<8) (hb:R.bits[i]? = some 0) (hX:∀t r,ck t r 2=(k:Int)→X t r=x0) (hx0:0≤x0) (hA:dF k H Hk) (hN:N≤999) (hF:d.F≠[]) (hh:∀b,d.Ts[k]? = some b→b.M.length<a.aH) (κ:KQ)
  (hk:∀h' d' R' H',WS h' A a (N+1) d' R'→Lone d'.Ts H' X→TS R' i k x0 Gn Gn [] 0→dF k H' Gn→jA d d' k→Aside R R' i k→WK a h h'→κ (.tuple ⟨[.bool true,.int .i64 code,.int .i64 0]⟩) h') :
  CallW Tryz.prog 17 [.pointer (some ⟨A.wb,0,none⟩),.int .i64 (i:Int),.int .i64 3] h κ:=by
 refine aq mixed ?_
 rw[T9]
 refine ⟨fun m l h1=>∃(j n:Nat) (d1:TD) (R1:RD) (N1:Nat) (H1 Hk1:Int→Int→Int) (cB:List Int),slot l 15=.int .i64 (j:Int)∧m=n∧j+n=3∧WS h1 A a N1 d1 R1∧Lone d1.Ts H1 X∧TS R1 i k x0 Hk1 Gn cB n∧dF k H1 Hk1∧Aside R R1 i k∧WK a h h1∧
   (n=0→slot l 10=.bool true∧slot l 11=.int .i64 code∧slot l 12=.int .i64 0)∧(n≠0→cB=[code])∧(n≤1→N1=N+1∧jA d d1 k)∧(1<n→N1=N∧d1=d),
  ⟨_,0,3,d,R,N,H,Hk,[code],rfl,rfl,rfl,s,L,t,hA,Aside.refl _ _ _,s.WE,by omega,fun _=>rfl,by omega,fun _=>⟨rfl,rfl⟩⟩,?_⟩
 rintro m l h1 ⟨j,n,d1,R1,N1,H1,Hk1,cB,e1,rfl,hjn,s1,L1,t1,A1,as1,k1,f0,f1,f2,f3⟩
 cases m with
 | zero=>
  obtain ⟨g1,g2,g3⟩:=f0 rfl
  obtain ⟨h2,g4⟩:=f2 (by omega)
  subst h2
  obtain ⟨_,_,rfl,e2⟩:=t1.idle
  subst e2
  obtain rfl:j=3:=by omega
  simp(disch:=first|omega|simp only[Wd]<;>omega|with_unfolding_all rfl)only[Wz,yM,e1,c6 (show (3:Int)≤((3:Nat):Int) by omega),g1,g2,g3]
  exact hk h1 d1 R1 H1 s1 L1 t1 A1 g4 as1 k1
 | succ m=>
  have ep:=f1 (by omega)
  subst ep
  simp(disch:=first|omega|simp only[Wd]<;>omega|with_unfolding_all rfl)only[Wz,yM,e1,fI (show (j:Int)<3 by omega)]
  refine E_ s1 L1 t1 hS hi8 (by rw[as1.bits]; exact hb) hX hx0 A1 ?_ ?_ ?_ _ ?_
  ·by_cases hm:1<m+1
   ·have:=(f3 hm).1; omega
   ·have:=(f2 (by omega)).1; omega
  ·intro e; subst e; rw[(f3 (by omega)).2]; exact hF
  ·intro e; subst e; rw[(f3 (by omega)).2]; exact hh
  ·intro h2 d2 R2 N2 H2 Hk2 done acQ WG s2 L2 t2 hd hg A2 as2 k2
   simp(disch:=first|omega|simp only[Wd]<;>omega|with_unfolding_all rfl)only[Wz,e1]
   refine ⟨_,by omega,j+1,m,d2,R2,N2,H2,Hk2,WG,rfl,rfl,by omega,s2,L2,t2,A2,as1.trans as2,k1.trans k2,?_,?_,?_,?_⟩
   ·intro e; subst e
    rcases hd with ⟨_,_,e⟩ | ⟨e1,e2,e3,_⟩
    ·exact absurd rfl e
    ·cases e2
     subst e1
     refine ⟨?_,?_,?_⟩<;>first | rfl | trivial
   ·intro e
    rcases hd with ⟨_,e2,_⟩ | ⟨_,_,_,e2⟩
    ·exact e2
    ·exact absurd e2 e
   ·intro e
    rcases hg with ⟨e1,e2,_,_,e5⟩ | ⟨e1,e2,e3,_⟩
    ·obtain rfl:m=0:=by omega
     obtain ⟨g1,g2⟩:=f2 (by omega)
     rw[e1,e2]; exact ⟨g1,g2⟩
    ·obtain ⟨g1,g2⟩:=f3 (by omega)
     subst g2
     exact ⟨by omega,e3⟩
   ·intro e
    rcases hg with ⟨e1,e2,_⟩ | ⟨e1,_⟩
    ·obtain ⟨g1,g2⟩:=f3 (by omega)
     rw[e1,e2]; exact ⟨g1,g2⟩
    ·omega
end
def mR:fW:=⟨2,8,24,2⟩
theorem Fb:c9 mR:=by unfold c9 mR; decide
theorem xQ (h:Heap) (κ:KQ) (hlo:h.lo≤h.nx) (hk:∀h',Le h h'→κ (u7 mR) h'):CallW Tryz.prog 9 [] h κ:=by
 refine aq mixed ?_
 rw[Y9]
 simp(disch:=first|omega|simp only[Wd]<;>omega|with_unfolding_all rfl)only[Wz]
 exact hk _ ((Le.refl h).new _)
theorem zg (n:Nat) (hn:1≤n∧n≤8) (h:Heap) (κ:KQ) (hlo:h.lo≤h.nx)
  (hk:∀h' A a d R,Cc A a d R mR n→WS h' A a 0 d R→Le h h'→(∀x,FB h' a.bp x→h.nx≤x)→κ (.pointer (some ⟨A.wb,0,none⟩)) h') :
  CallW Tryz.prog 10 [.int .i64 (n:Int)] h κ:=by
 refine aq mixed ?_
 rw[T3]
 refine xQ h _ hlo ?_
 intro h1 b_
 have n1:=b_.nx
 have l1:=b_.lo
 refine RU mR Fb n hn h1 (by omega) _ ?_
 intro h2 A a d R nw s bF fb
 simp(disch:=first|omega|simp only[Wd]<;>omega|with_unfolding_all rfl)only[Wz]
 exact hk h2 A a d R nw s (b_.trans bF) fun x hx=>Nat.le_trans n1 (fb x hx)
theorem Cc.lone {A:WA} {a:TA} {d:TD} {R:RD} {c:fW} {n:Nat} (nw:Cc A a d R c n) (X:Int→Int→Int):Lone d.Ts (fun _ _=>0) X:=
 ⟨fun b hb e he=>(by rw[nw.em b hb] at he; cases he),fun t r hH=>absurd rfl hH⟩
theorem Cc.ts {A:WA} {a:TA} {d:TD} {R:RD} {n i k:Nat} (nw:Cc A a d R mR n) (hi:i<n) (hk:k<2) (x0:Int):TS R i k x0 (fun _ _=>0) (fun _ _=>0) [] 0:=by
 refine .inl ⟨rfl,?_,?_,rfl,rfl⟩
 ·rw[nw.cs,List.getElem?_replicate,if_pos hi]
 ·rw[nw.cI,List.getElem?_replicate,if_pos (show k<(mR.S).toNat from hk)]
theorem Cc.bit {A:WA} {a:TA} {d:TD} {R:RD} {c:fW} {n i:Nat} (nw:Cc A a d R c n) (hi:i<n):R.bits[i]? = some 0:=by
 rw[nw.bits,List.getElem?_replicate,if_pos hi]
theorem MQ {t r:Int} (h:bz t r≠-1):∃k:Nat,k<2∧ck t r 2=(k:Int):=by
 unfold ck
 rw[if_neg (by rintro (h1 | h1 | h1)<;>first | omega | exact h h1)]
 have h1:=Int.tmod_nonneg (a:=mN (er t r)) 2 (lH _).1
 have h2:=Int.tmod_lt_of_pos (mN (er t r)) (show (0:Int)<2 by decide)
 exact ⟨((mN (er t r)).tmod 2).toNat,by omega,by omega⟩
theorem RX (t:Int) (h:Heap) (κ:KQ) (hlo:h.lo≤h.nx) (hk:∀h',Le h h'→κ (dK t (-1)) h'):CallW Tryz.prog 27 [.int .i64 t] h κ:=by
 refine aq mixed ?_
 rw[Ua]
 simp(disch:=first|omega|simp only[Wd]<;>omega|with_unfolding_all rfl)only[Wz]
 exact hk _ ((Le.refl h).new _)
theorem MR (x t r m:Int) (h:Heap) (κ:KQ) (hlo:h.lo≤h.nx) (hk:∀h',Le h h'→κ (.agg ⟨fE ⟨1,x,t,r,m,0,0⟩⟩) h'):CallW Tryz.prog 28 [.int .i64 x,dK t r,.int .i64 m] h κ:=by
 refine aq mixed ?_
 rw[Ub]
 simp(disch:=first|omega|simp only[Wd]<;>omega|with_unfolding_all rfl)only[Wz,dK]
 exact hk _ (((Le.refl h).new _).new _)
theorem MS (h:Heap) (κ:KQ) (hlo:h.lo≤h.nx) (ro:jB h) (hk:∀h',Le h h'→κ (.bool true) h'):CallW Tryz.prog 7 [] h κ:=by
 refine aq mixed ?_
 rw[Y3]
 refine zg 2 ⟨by decide,by decide⟩ h _ hlo ?_
 intro h1 A a d R nw s b_ _
 have n1:=b_.nx
 have l1:=b_.lo
 have hlv:bz 0 (-1)≠-1:=by decide
 obtain ⟨k,hk2,hst⟩:=MQ hlv
 simp(disch:=first|omega|simp only[Wd]<;>omega|with_unfolding_all rfl)only[Wz,mP]
 refine RX 0 h1 _ (by omega) ?_
 intro h2 bF
 have n2:=bF.nx
 have l2:=bF.lo
 refine MR 1 0 (-1) 6 h2 _ (by omega) ?_
 intro h3 f_
 have n3:=f_.nx
 have l3:=f_.lo
 have s3:=s.le (bF.trans f_)
 have hS:a.c.S=2:=by rw[nw.ec]; rfl
 refine vw (Hk:=fun _ _=>0) s3 (nw.ts (i:=0) (by decide) hk2 1) hS ⟨1,1,0,-1,6,0,0⟩ rfl (by decide) hst (by rw[nw.begun]; decide) _ ?_ ?_
 ·intro hm; exact absurd hm (by decide)
 ·intro _ h4 R4 s4 t4 hb4 _ _ _ k4
  simp(disch:=first|omega|simp only[Wd]<;>omega|with_unfolding_all rfl)only[Wz,Iz]
  have aa5:R4.bits[0]? = some 0:=by rw[hb4]; exact nw.bit (by decide)
  refine Kb s4 (nw.lone (fun _ _=>1)) t4 hS (by decide) aa5 (fun _ _ _=>rfl) (by decide) (dF.refl _ _) (by decide) ?_ ?_ _ ?_
  ·intro e
   have:=nw.f
   rw[e] at this
   exact absurd this (by decide)
  ·intro b hb
   rw[nw.em b (List.mem_of_getElem? hb)]
   have:=nw.hd
   show 0<a.aH
   have h8:mR.H=8:=rfl
   omega
  ·intro h5 d5 R5 H5 s5 L5 t5 A5 g5 XE k5
   simp(disch:=first|omega|simp only[Wd]<;>omega|with_unfolding_all rfl)only[Wz,gT]
   exact hk h5 (KL.entry ro b_ (((KL.le (bF.trans f_) 0).trans (k4.kl 0)).trans (k5.kl 0)))
end Go.Proofs
