/-
  PROVED HERE: a part of the proof (S27, S28, S29, S30).
-/
import Derived.Test.YtmjghbjpdoeemaaGreatDoorTF
set_option linter.unusedVariables false
set_option linter.unusedSimpArgs false
set_option maxRecDepth 100000
set_option maxHeartbeats 4000000
namespace Go.Proofs
open Go.Vai Go.Clashes
abbrev WH (a h:Heap) (v:Value) (L:List RB):Prop:=fS rE a 91 h v L
theorem MT (S H R P:Int) (p:Addr) (κ:List Value→Prop):bD False [(0,4),(5,1)] [.agg ⟨[.int .i64 S,.int .i64 H,.int .i64 R,.int .i64 P]⟩,.pointer (some p)] [.int .i64 0,.int .i64 0,.int .i64 0,.int .i64 0,.slice none 0 0,.pointer none] κ=κ [.int .i64 S,.int .i64 H,.int .i64 R,.int .i64 P,.slice none 0 0,.pointer (some p)]:=by kernel_rfl
theorem MU (c:fW) (a h:Heap) (κ:KQ) (hlo:h.lo≤h.nx)
  (xH:¬c9 c→∀h',Le h h'→κ (.tuple ⟨[.pointer none,.int .i64 2]⟩) h')
  (Kz:∀h' rt rp rl vr R (aH:Nat),c9 c→(aH:Int)=c.H→aaN a h' rt rp rl c vr aH R (List.replicate c.R.toNat false)→(∀r∈R,r.K=[]∧h.nx≤r.rb)→h.nx≤rl→Le h h'→κ (.tuple ⟨[.pointer (some ⟨rt,0,none⟩),.int .i64 0]⟩) h') :
  CallW Tryz.prog 8 [u7 c] h κ:=by
 refine aq mixed ?_
 rw[Y6]
 simp(disch:=first|omega|simp only[Wd]<;>omega|with_unfolding_all rfl)only[Wz,u7]
 obtain ⟨hA,aJ⟩:∃hA:Heap,hA=⟨h.nx+1,(h.bl.aW (h.nx) (aa [.int .i64 c.S,.int .i64 c.H,.int .i64 c.R,.int .i64 c.P] 30 false)),h.lo⟩:=⟨_,rfl⟩
 have aU:Le h hA:=by subst aJ; exact ((Le.refl h).new _)
 have g1:hA.bl.get (h.nx)=some (aa [.int .i64 c.S,.int .i64 c.H,.int .i64 c.R,.int .i64 c.P] 30 false):=by subst aJ; exact T.af _ _ _
 have ig:hA.nx=h.nx+1:=by subst aJ; rfl
 have ij:hA.lo=h.lo:=by subst aJ; rfl
 rw[←aJ]
 clear aJ
 by_cases a1:c.S<1
 ·simp(disch:=first|omega|simp only[Wd]<;>omega|with_unfolding_all rfl)only[Wz,aZ a1]
  exact xH (by unfold c9; omega) _ aU
 by_cases a2:16<c.S
 ·simp(disch:=first|omega|simp only[Wd]<;>omega|with_unfolding_all rfl)only[Wz,aG a1,g1,aZ a2]
  exact xH (by unfold c9; omega) _ aU
 by_cases a3:c.H<1
 ·simp(disch:=first|omega|simp only[Wd]<;>omega|with_unfolding_all rfl)only[Wz,aG a1,g1,aG a2,aZ a3]
  exact xH (by unfold c9; omega) _ aU
 by_cases a4:64<c.H
 ·simp(disch:=first|omega|simp only[Wd]<;>omega|with_unfolding_all rfl)only[Wz,aG a1,g1,aG a2,aG a3,aZ a4]
  exact xH (by unfold c9; omega) _ aU
 by_cases a5:c.R<1
 ·simp(disch:=first|omega|simp only[Wd]<;>omega|with_unfolding_all rfl)only[Wz,aG a1,g1,aG a2,aG a3,aG a4,aZ a5]
  exact xH (by unfold c9; omega) _ aU
 by_cases a6:128<c.R
 ·simp(disch:=first|omega|simp only[Wd]<;>omega|with_unfolding_all rfl)only[Wz,aG a1,g1,aG a2,aG a3,aG a4,aG a5,aZ a6]
  exact xH (by unfold c9; omega) _ aU
 by_cases a7:c.P<0
 ·simp(disch:=first|omega|simp only[Wd]<;>omega|with_unfolding_all rfl)only[Wz,aG a1,g1,aG a2,aG a3,aG a4,aG a5,aG a6,aZ a7]
  exact xH (by unfold c9; omega) _ aU
 by_cases a8:8<c.P
 ·simp(disch:=first|omega|simp only[Wd]<;>omega|with_unfolding_all rfl)only[Wz,aG a1,g1,aG a2,aG a3,aG a4,aG a5,aG a6,aG a7,aZ a8]
  exact xH (by unfold c9; omega) _ aU
 have cok:c9 c:=by unfold c9; omega
 obtain ⟨n,eS⟩:∃n:Nat,c.S=(n:Int):=⟨c.S.toNat,by omega⟩
 obtain ⟨H,eH⟩:∃n:Nat,c.H=(n:Int):=⟨c.H.toNat,by omega⟩
 obtain ⟨Rn,eR⟩:∃n:Nat,c.R=(n:Int):=⟨c.R.toNat,by omega⟩
 have Xy:c.R.toNat=Rn:=by omega
 simp(disch:=first|omega|simp only[Wd]<;>omega|with_unfolding_all rfl)only[Wz,aG a1,g1,aG a2,aG a3,aG a4,aG a5,aG a6,aG a7,aG a8,IB]
 rw[eR]
 refine JC Rn hA _ (by omega) (by omega) ?_
 intro rp rl h1 p1 grp grl b_
 have Ww:=b_.nx
 have WB:=b_.lo
 have g1:=(b_.get _ (by omega)).trans g1
 rw[eR] at g1
 simp(disch:=first|omega|simp only[Wd]<;>omega|with_unfolding_all rfl)only[Wz,g1,MT]
 obtain ⟨hB,b6⟩:∃hB:Heap,hB=⟨h1.nx+1,(h1.bl.aW (h1.nx) (aa [.int .i64 c.S,.int .i64 c.H,.int .i64 (Rn:Int),.int .i64 c.P,.slice none 0 0,.pointer (some ⟨rp,0,none⟩)] 90 false)),h1.lo⟩:=⟨_,rfl⟩
 have bJ:Le h1 hB:=by subst b6; exact ((Le.refl h1).new _)
 have gB:hB.bl.get (h1.nx)=some (aa [.int .i64 c.S,.int .i64 c.H,.int .i64 (Rn:Int),.int .i64 c.P,.slice none 0 0,.pointer (some ⟨rp,0,none⟩)] 90 false):=by subst b6; exact T.af _ _ _
 have BD:hB.nx=h1.nx+1:=by subst b6; rfl
 have BE:hB.lo=h1.lo:=by subst b6; rfl
 rw[←b6]
 clear b6
 have sn:=bJ.nx
 have sq:=bJ.lo
 have g1:=(bJ.get _ (by omega)).trans g1
 have pB:=p1.le bJ
 have l1:=b_.lo
 refine ⟨fun m l h2=>∃(i:Nat) (v:Value) (L:List RB),slot l 25=.int .i64 (i:Int)∧m=n-i∧i≤n∧L.length=i∧WH h1 h2 v L∧Le h1 h2∧h1.nx<h2.nx∧
   h2.bl.get h1.nx=some (aa [.int .i64 c.S,.int .i64 c.H,.int .i64 (Rn:Int),.int .i64 c.P,v,.pointer (some ⟨rp,0,none⟩)] 90 false)∧(∀r∈L,JB a h2 r.rb rp H r.v r.K∧r.K=[]∧r.v=.slice none 0 0∧h1.nx≤r.rb)∧L.Pairwise Og,
  ⟨_,0,.slice none 0 0,[],rfl,rfl,by omega,rfl,.inl ⟨rfl,.inl rfl⟩,bJ,by omega,gB,fun r hr=>(nomatch hr),List.Pairwise.nil⟩,?_⟩
 rintro m l h2 ⟨i,v,L,s1,rfl,hi,hL,ho,bF,hn2,hg,hbk,hd⟩
 have n2:=bF.nx
 have l2:=bF.lo
 have WI:h.nx<h1.nx:=by have:=b_.nx; omega
 have g12:=(bF.get h.nx WI).trans ((bJ.get h.nx WI).symm.trans g1)
 by_cases hlt:i<n
 case neg=>
  have hin:i=n:=by omega
  simp(disch:=first|omega|simp only[Wd]<;>omega|with_unfolding_all rfl)only[Wz,g12,s1,eS,c6 (show (n:Int)≤(i:Int) by omega)]
  rw[←eR] at hg
  refine Kz h2 h1.nx rp rl v L H cok eH.symm ⟨hn2,hg,ho.sl,tJ.own ho,fun r hr=>(hbk r hr).1,hd,?_,by omega,by omega⟩ (fun r hr=>⟨(hbk r hr).2.1,by have:=(hbk r hr).2.2.2; omega⟩) (by omega) ((aU.trans b_).trans bF)
  rw[Xy]
  exact p1.le bF
 obtain ⟨vx,vc,ev,_⟩:=(show Sl rE h2 v L from ho.sl)
 simp(disch:=first|omega|simp only[Wd]<;>omega|with_unfolding_all rfl)only[Wz,g12,s1,eS,fI (show (i:Int)<(n:Int) by omega),IA]
 rw[eH]
 refine JE (H:Int) rp a h2 _ (by omega) (fun agq=>by omega) ?_
 intro rb h3 H2 eH2 _ R3 grb f_
 obtain rfl:H2=H:=by omega
 have n3:=f_.nx
 have l3:=f_.lo
 have hg3:=(f_.get _ hn2).trans hg
 rw[ev] at hg3
 simp(disch:=first|omega|simp only[Wd]<;>omega|with_unfolding_all rfl)only[Wz,aN,hg3]
 obtain ⟨hC,Gw⟩:∃hC:Heap,hC=⟨h3.nx+1,(h3.bl.aW (h3.nx) (aa [.pointer (some ⟨rb,0,none⟩)] 91 false)),h3.lo⟩:=⟨_,rfl⟩
 have Cd:Le h3 hC:=by subst Gw; exact ((Le.refl h3).new _)
 have gC:hC.bl.get (h3.nx)=some (aa [.pointer (some ⟨rb,0,none⟩)] 91 false):=by subst Gw; exact T.af _ _ _
 have agr:hC.nx=h3.nx+1:=by subst Gw; rfl
 have ags:hC.lo=h3.lo:=by subst Gw; rfl
 rw[←Gw]
 clear Gw
 have hone:Sl rE hC (.slice (some ⟨h3.nx,0,none⟩) 1 1) [(⟨rb,.slice none 0 0,[]⟩:RB)]:=Sl.new (L:=[(⟨rb,.slice none 0 0,[]⟩:RB)]) (e:=91) (op:=false) (by omega) gC _
 rw[←ev] at hg3 ⊢
 refine h_ (enc:=rE) (a:=h1) (L:=L) (M:=[(⟨rb,.slice none 0 0,[]⟩:RB)]) Gh Gi (by decide) (by decide) ((ho.le f_).le Cd) hone ((bF.trans f_).trans Cd) (by simp only[List.length_cons,List.length_nil]; omega) (by omega) _ ?_
 intro v5 h5 yT xy _ n5 l5 nY
 have hgC:=(Cd.get _ (by omega)).trans hg3
 have Sy:h5.bl.get h1.nx=some (aa [.int .i64 c.S,.int .i64 c.H,.int .i64 (Rn:Int),.int .i64 c.P,v,.pointer (some ⟨rp,0,none⟩)] 90 false):=(nY _ (by omega) (by rw[hgC]; exact aT (by decide))).trans hgC
 obtain ⟨x5,c5,Xx,_⟩:=(show Sl rE h5 v5 _ from yT.sl)
 rw[ev] at Sy
 rw[Xx]
 simp(disch:=first|omega|simp only[Wd]<;>omega|with_unfolding_all rfl)only[Wz,aN,Sy]
 have I_:=fS.put yT (c:=h1.nx) (by rw[Sy]; exact bf) (aa [.int .i64 c.S,.int .i64 c.H,.int .i64 (Rn:Int),.int .i64 c.P,v5,.pointer (some ⟨rp,0,none⟩)] 90 false)
 have WJ:Le h1 ⟨h5.nx,h5.bl.aW h1.nx (aa [.int .i64 c.S,.int .i64 c.H,.int .i64 (Rn:Int),.int .i64 c.P,v5,.pointer (some ⟨rp,0,none⟩)] 90 false),h5.lo⟩:=xy.set (b:=h1.nx) (Nat.le_refl _) _
 have keep:∀(r:RB),JB a hC r.rb rp H2 r.v r.K→JB a ⟨h5.nx,h5.bl.aW h1.nx (aa [.int .i64 c.S,.int .i64 c.H,.int .i64 (Rn:Int),.int .i64 c.P,v5,.pointer (some ⟨rp,0,none⟩)] 90 false),h5.lo⟩ r.rb rp H2 r.v r.K:=by
  intro r hr
  refine hr.keep n5 l5 fun d vs ty op hd hgd ht=>?_
  have hne:h1.nx≠d:=by
   rintro rfl
   rcases ht with e | ⟨e,_⟩ | e<;>subst e<;>exact aT (by decide) (hgd.symm.trans hgC)
  refine (T.ai _ _ hne).trans (nY d hd ?_)
  rw[hgd]
  rcases ht with e | ⟨e,_⟩ | e<;>subst e<;>exact aT (by decide)
 rw[Xx] at I_ WJ keep
 refine ⟨_,by omega,i+1,_,L++[(⟨rb,.slice none 0 0,[]⟩:RB)],rfl,rfl,by omega,by simp; omega,I_,WJ,by show h1.nx<h5.nx; omega,by rw[eS,eH],?_,?_⟩
 ·intro r hr
  rcases List.mem_append.1 hr with hr | hr
  ·obtain ⟨q1,q2,q3,q4⟩:=hbk r hr
   exact ⟨keep r ((q1.le f_).le Cd),q2,q3,q4⟩
  ·rw[List.mem_singleton] at hr
   subst hr
   exact ⟨keep _ (R3.le Cd),rfl,rfl,by show h1.nx≤rb; omega⟩
 ·rw[List.pairwise_append]
  refine ⟨hd,List.pairwise_singleton _ _,fun r hr r' hr'=>?_⟩
  rw[List.mem_singleton] at hr'
  subst hr'
  obtain ⟨q1,q2,q3,q4⟩:=hbk r hr
  have:=q1.lt
  refine ⟨by show r.rb≠rb; omega,fun d h1 h2=>?_⟩
  obtain ⟨k,hk⟩:=h2
  cases hk
section
variable {a h:Heap} {rt rp rl:Nat} {c:fW} {vr:Value} {aH:Nat} {R:List RB} {B:List Bool}
end
theorem jv.sl {h:Heap} {v:Value} {F:List Int} (p:jv h v F):Sl bQ h v F:=by
 rcases p with ⟨rfl,rfl⟩ | ⟨b,G,rfl,h1,_,h3,_⟩
 ·exact Sl.nil _ _ _
 ·refine ⟨_,aM,rfl,fun _=>⟨b,0,rfl,h1,?_⟩⟩
  have hh:Has (h.bl.get b) 0 ((F++G).flatMap bQ):=by rw[h3]; exact Has.all
  have hl:=bh (enc:=bQ) encNum_len F
  have:=hh.sub 0 F.length (by rw[bh (enc:=bQ) encNum_len]; simp)
  have e1:(((F++G).flatMap bQ).drop 0).take F.length=F.flatMap bQ:=by
   rw[List.drop_zero,List.flatMap_append,List.take_append_of_le_length (by rw[hl]; omega),List.take_of_length_le (by rw[hl]; omega)]
  rw[e1] at this
  exact this
theorem xR {h:Heap} {rt:Nat} {c:fW} {vr q:Value} (hlt:rt<h.nx) (c0:h.bl.get rt=some (aa [.int .i64 c.S,.int .i64 c.H,.int .i64 c.R,.int .i64 c.P,vr,q] 90 false)) (x y:Int) (κ:KQ) (hk:∀h',Le h h'→κ (.int .i64 (ck x y c.S)) h') :
  CallW Tryz.prog 15 [.pointer (some ⟨rt,0,none⟩),dK x y] h κ:=by
 refine aq mixed ?_
 rw[T7]
 simp(disch:=first|omega|simp only[Wd]<;>omega|with_unfolding_all rfl)only[Wz,dK,aN,c0]
 refine RI x y c.S ?_
 exact hk _ ((Le.refl h).new _)
theorem Kc {h:Heap} {v:Value} {L:List cF} (hv:Sl fE h v L) (hl:L.length≤100) (hlo:h.lo≤h.nx) (κ:KQ) (hk:∀v' h',eM h' v' L→dR v'=true→v'.cells.toList=[v']→Le h h'→κ v' h') :
  CallW Tryz.prog 11 [v] h κ:=by
 refine aq mixed ?_
 rw[T4]
 simp(disch:=first|omega|simp only[Wd]<;>omega|with_unfolding_all rfl)only[Wz,aO]
 refine tF (enc:=fE) (a:=h) (L:=[]) (M:=L) encK_len JW (by decide) (by decide) (.inl ⟨rfl,.inr ⟨_,_,rfl⟩⟩) (hv.le ((Le.refl h).new _)) ((Le.refl h).new _) (by simp; omega) (by show h.lo≤h.nx+1; omega) _ ?_
 intro v' h' ho le' _ _
 have p:=eM.own ho
 refine hk v' h' p ?_ ?_ le'
 ·rcases p with ⟨_,x,c,rfl⟩ | ⟨b,j,W,_,rfl,_⟩<;>rfl
 ·rcases p with ⟨_,x,c,rfl⟩ | ⟨b,j,W,_,rfl,_⟩<;>rfl
def gE (k:Nat) (L:List cF):List cF:=(L.filter (iM k)).map fun a=>a.own ((k:Int)+1)
theorem Fc {k:Nat} {x:cF} {L:List cF} (h:iM k x=true):gE k (x::L)=x.own ((k:Int)+1)::gE k L:=by unfold gE; rw[List.filter_cons,if_pos h]; rfl
theorem Fe {k:Nat} {x:cF} {L:List cF} (h:iM k x=false):gE k (x::L)=gE k L:=by unfold gE; rw[List.filter_cons,if_neg (by rw[h]; decide)]
theorem iN (k:Nat) (x:cF):iM k x=(decide (x.k≠3) && decide (ck x.t x.r 2=(k:Int)) && qQ (x.own ((k:Int)+1))):=rfl
def DD (h:Heap) (rt:Nat):Prop:=rt<h.nx∧∃vr q,h.bl.get rt=some (aa [.int .i64 2,.int .i64 8,.int .i64 24,.int .i64 2,vr,q] 90 false)
theorem DD.kl {h h':Heap} {rt x:Nat} (t:DD h rt) (k:KL x h h') (hx:∀vs,h.bl.get x≠some (aa vs 90 false)):DD h' rt:=by
 obtain ⟨h1,vr,q,g⟩:=t
 exact ⟨Nat.lt_of_lt_of_le h1 k.nx,vr,q,(k.ty _ _ _ _ h1 (by rintro rfl; exact hx _ g) g (by unfold oM; decide) (by unfold nK; decide)).trans g⟩
theorem DD.le {h h':Heap} {rt:Nat} (t:DD h rt) (l:Le h h'):DD h' rt:=by
 obtain ⟨h1,vr,q,g⟩:=t
 exact ⟨Nat.lt_of_lt_of_le h1 l.nx,vr,q,(l.get _ h1).trans g⟩
def KC (h0:Heap) (rt b8:Nat) (v:Nat→Value) (C:Nat→List Int) (k:Nat) (A:WA) (a:TA) (L:List cF) (h:Heap) (i n:Nat):Prop:=
 ∃(N:Nat) (d:TD) (R:RD) (H Hk:Int→Int→Int),WS h A a N d R∧Lone d.Ts H (fun _ _=>(k:Int)+1)∧TS R 0 k ((k:Int)+1) Hk Hk [] 0∧dF k H Hk∧R.bits[0]? = some 0∧(0≤R.begun∧R.begun≤i)∧N≤i∧24≤d.F.length+N∧(∀b,d.Ts[k]? = some b→b.M.length≤N)∧
  CO h a.bp b8 v C∧Le h0 h∧DD h rt∧n≤(C k).length∧(C k).drop n=iW Hk (gE k (L.drop i))
theorem KC.le {h0 h h':Heap} {rt b8:Nat} {v:Nat→Value} {C:Nat→List Int} {k:Nat} {A:WA} {a:TA} {L:List cF} {i n:Nat} (s:KC h0 rt b8 v C k A a L h i n) (l:Le h h'):KC h0 rt b8 v C k A a L h' i n:=by
 obtain ⟨N,d,R,H,Hk,s,L',t,ag,hb,Gr,hN,hF,hM,co,le,rc,hn,hC⟩:=s
 exact ⟨N,d,R,H,Hk,s.le l,L',t,ag,hb,Gr,hN,hF,hM,co.wk (s.KB l),le.trans l,rc.le l,hn,hC⟩
theorem KC.skip {h0 h:Heap} {rt b8:Nat} {v:Nat→Value} {C:Nat→List Int} {k:Nat} {A:WA} {a:TA} {L:List cF} {i n:Nat} (s:KC h0 rt b8 v C k A a L h i n) {x:cF} (hx:L[i]? = some x) (hm:iM k x=false):KC h0 rt b8 v C k A a L h (i+1) n:=by
 obtain ⟨N,d,R,H,Hk,s,L',t,ag,hb,Gr,hN,hF,hM,co,le,rc,hn,hC⟩:=s
 refine ⟨N,d,R,H,Hk,s,L',t,ag,hb,⟨Gr.1,by omega⟩,by omega,hF,hM,co,le,rc,hn,?_⟩
 obtain ⟨hl,rfl⟩:=List.getElem?_eq_some_iff.1 hx
 rw[hC,List.drop_eq_getElem_cons hl,Fe hm]
theorem Kd {β:Type} {fl:β} {k:Nat} (hk:k<2) (b:Nat) (h:Heap) (κ:Value→Heap→β):dA fl 2 1 (.pointer (some ⟨b,0,none⟩)) (.int .i64 (k:Int)) h κ=κ (.pointer (some ⟨b,k,none⟩)) h:=by
 rcases (show k=0∨k=1 by omega) with rfl | rfl<;>rfl
theorem CO.ld {h:Heap} {bp b8:Nat} {v:Nat→Value} {C:Nat→List Int} (c:CO h bp b8 v C) {k:Nat} (hk:k<2) {β:Type} {fl:β} (κ:Value→β):o_ fl (h.bl.get b8) k κ=κ (v k):=by
 have hh:Has (h.bl.get b8) 0 [v 0,v 1]:=by rw[c.cell]; exact Has.all
 rcases (show k=0∨k=1 by omega) with rfl | rfl
 ·exact cL (fl:=fl) hh 0 κ (by show 0<2; omega)
 ·exact cL (fl:=fl) hh 1 κ (by show 1<2; omega)
theorem CO.len {h:Heap} {bp b8:Nat} {v:Nat→Value} {C:Nat→List Int} (c:CO h bp b8 v C) {k:Nat} (hk:k<2) {β:Type} {fl:β} (h':Heap) (κ:Value→Heap→β):bA fl (v k) h' κ=κ (.int .i64 ((C k).length:Int)) h':=by
 obtain ⟨x,cp,e,_⟩:=(c.p k hk).sl
 rw[e]; exact dx _ _ _ _ _
theorem Ff {h0 h:Heap} (ro:jB h0) {rt b8:Nat} {v:Nat→Value} {C:Nat→List Int} {k:Nat} (hk2:k<2) {A:WA} {a:TA} {L:List cF} (hL:L.length≤6) {vL:Value} (hv:Sl fE h0 vL L) (hS:a.c.S=2) (hh:a.aH=8) (hC:(C k).length≤100) (st:KC h0 rt b8 v C k A a L h 0 0)
  (bH:List Value) (h80:slot bH 80=.int .i64 (k:Int)) (v131 a0 a1 tQ:Value) (AF:Nat) (init:List Value) (i57:slot init 57=.int .i64 0) (i60:slot init 60=.int .i64 0) (pI:List Value→Heap→Prop) (κ:KQ)
  (hN:∀l' h',slot l' 80=.int .i64 ((k:Int)+1)→CO h' a.bp b8 v C→Le h0 h'→DD h' rt→h'.lo≤h'.nx→pI l' h') :
  dP init h fun bq h Iy=>sg vL bq bH (.pointer (some ⟨rt,0,none⟩)) (.pointer (some ⟨A.wb,0,none⟩)) b8 Iy pI v131 a0 a1 AF tQ h κ:=by
 obtain ⟨vx,vc,ev,_⟩:=(show Sl fE h0 vL L from hv)
 have wL:∀(β:Type) (fl:β) (h':Heap) (κ:Value→Heap→β),bA fl vL h' κ=κ (.int .i64 (L.length:Int)) h':=fun β fl h' κ=>by rw[ev]; exact dx _ _ _ _ _
 refine ⟨fun m l h1=>∃i n:Nat,slot l 60=.int .i64 (i:Int)∧slot l 57=.int .i64 (n:Int)∧m=L.length-i∧i≤L.length∧KC h0 rt b8 v C k A a L h1 i n,⟨_,0,0,i60,i57,rfl,by omega,st⟩,?_⟩
 rintro m l h1 ⟨i,n,e60,WL,rfl,hi,st1⟩
 by_cases hlt:i<L.length
 ·obtain ⟨x,hx⟩:∃x,L[i]? = some x:=⟨_,List.getElem?_eq_getElem hlt⟩
  obtain ⟨bx,ox,hbx,EY,XG,_⟩:=hv.ld encK_len i hx
  have leh:Le h0 h1:=by obtain ⟨N,d,R,H,Hk,s,L',t,ag,hb,Gr,hN,hF,hM,co,le,rc,hn,hC⟩:=st1; exact le
  have lo1:h1.lo≤h1.nx:=by obtain ⟨N,d,R,H,Hk,s,_⟩:=st1; exact s.lo
  rw[←leh.get bx hbx] at XG
  simp(disch:=first|omega|simp only[Wd]<;>omega|with_unfolding_all rfl)only[Wz,sg,wL,e60,fI (show (i:Int)<(L.length:Int) by omega)]
  refine ⟨fun l' h'=>∃n':Nat,slot l' 53=.int .i64 (n':Int)∧KC h0 rt b8 v C k A a L h' (i+1) n',?_,?_⟩
  ·simp(disch:=first|omega|simp only[Wd]<;>omega|with_unfolding_all rfl)only[Wz,Ix,e60,EY,XG,fE,h80]
   obtain ⟨hA,aJ⟩:∃hA:Heap,hA=⟨h1.nx+1,(h1.bl.aW (h1.nx) (aa [.int .i64 x.k,.int .i64 ((k:Int)+1),.int .i64 x.t,.int .i64 x.r,.int .i64 x.m,.int .i64 x.w,.int .i64 x.to] 39 false)),h1.lo⟩:=⟨_,rfl⟩
   have aU:Le h1 hA:=by subst aJ; exact ((Le.refl h1).new _)
   have g1:hA.bl.get (h1.nx)=some (aa [.int .i64 x.k,.int .i64 ((k:Int)+1),.int .i64 x.t,.int .i64 x.r,.int .i64 x.m,.int .i64 x.w,.int .i64 x.to] 39 false):=by subst aJ; exact T.af _ _ _
   have ig:hA.nx=h1.nx+1:=by subst aJ; rfl
   have ij:hA.lo=h1.lo:=by subst aJ; rfl
   rw[←aJ]
   clear aJ
   have XH:=st1.le aU
   by_cases h3:x.k=3
   ·have hm:iM k x=false:=by rw[iN,aG (fun e=>e h3)]; rfl
    simp(disch:=first|omega|simp only[Wd]<;>omega|with_unfolding_all rfl)only[Wz,aZ h3,WL]
    exact ⟨n,rfl,XH.skip hx hm⟩
   ·have rcA:DD hA rt:=by obtain ⟨N,d,R,H,Hk,s,L',t,ag,hb,Gr,hN,hF,hM,co,le,rc,hn,hC⟩:=XH; exact rc
    obtain ⟨WM,vr,q,grt⟩:=rcA
    simp(disch:=first|omega|simp only[Wd]<;>omega|with_unfolding_all rfl)only[Wz,aG h3,g1]
    refine xR (c:=mR) WM grt x.t x.r _ ?_
    rw[show mR.S=2 from rfl]
    intro h2 bF
    have n2:=bF.nx
    have l2:=bF.lo
    have st2:=XH.le bF
    have g12:=(bF.get _ (by omega)).trans g1
    by_cases hs:ck x.t x.r 2=(k:Int)
    ·obtain ⟨N,d,R,H,Hk,s2,L2,t2,ag,hb,Gr,hN2,hF,hM,co,le,rc,hn,SO⟩:=st2
     simp(disch:=first|omega|simp only[Wd]<;>omega|with_unfolding_all rfl)only[Wz,aZ hs,g12]
     refine vw s2 t2 hS (x.own ((k:Int)+1)) rfl h3 hs (by omega) _ ?_ ?_
     ·intro hm h4 su
      have hm':iM k x=false:=by rw[iN,hm,Bool.and_false]
      simp(disch:=first|omega|simp only[Wd]<;>omega|with_unfolding_all rfl)only[Wz,WL]
      exact ⟨n,rfl,((XH.le bF).le su).skip hx hm'⟩
     ·intro hm h4 R4 s4 t4 hb4 MV _ _ k4
      have hm':iM k x=true:=by rw[iN,hm,aZ h3,aZ hs]; rfl
      have Kk:L.drop i=x::L.drop (i+1):=by
       obtain ⟨hl,rfl⟩:=List.getElem?_eq_some_iff.1 hx
       exact List.drop_eq_getElem_cons hl
      rw[Kk,Fc hm'] at SO
      have iB:(C k)[n]? = some (gT Hk (x.own ((k:Int)+1))):=by
       have:=congrArg (fun l=>l[0]?) SO
       simpa[List.getElem?_drop,iW] using this
      have hnl:=(List.getElem?_eq_some_iff.1 iB).1
      have aa_:(C k).drop (n+1)=iW (p8 Hk (x.own ((k:Int)+1))) (gE k (L.drop (i+1))):=by
       have:=congrArg (List.drop 1) SO
       rw[List.drop_drop] at this
       simpa[iW] using this
      simp(disch:=first|omega|simp only[Wd]<;>omega|with_unfolding_all rfl)only[Wz,Ir]
      refine Kb s4 L2 t4 hS (by decide) (by rw[hb4]; exact hb) (fun _ _ _=>rfl) (by omega) ag (by omega) (fun e=>by rw[e] at hF; simp at hF; omega) (fun b hb'=>by have:=hM b hb'; omega) _ ?_
      intro h5 d5 R5 H5 s5 L5 t5 A5 g5 XE k5
      have XJ:=(co.wk k4).wk k5
      have kl5:=(k4.kl b8).trans (k5.kl b8)
      obtain ⟨bc,oc,hbc,aba,_,hhc⟩:=(XJ.p k hk2).sl.ld encNum_len n iB
      have hrc:∀(β:Type) (fl:β) (κ:Value→β),o_ fl (h5.bl.get bc) oc κ=κ (.int .i64 (gT Hk (x.own ((k:Int)+1)))):=fun β fl κ=>cL (fl:=fl) hhc 0 κ (by show 0<1; omega)
      have DO:decide (gT Hk (x.own ((k:Int)+1))=gT Hk (x.own ((k:Int)+1)))=true:=aZ rfl
      have nu:∀(β:Type) (fl:β) (κ:Value→β),o_ fl (h5.bl.get b8) k κ=κ (v k):=fun β fl κ=>XJ.ld hk2 κ
      have RL:∀(β:Type) (fl:β) (h':Heap) (κ:Value→Heap→β),bA fl (v k) h' κ=κ (.int .i64 ((C k).length:Int)) h':=fun β fl h' κ=>XJ.len hk2 h' κ
      simp(disch:=first|omega|simp only[Wd]<;>omega|with_unfolding_all rfl)only[Wz,h80,WL,Kd hk2,nu,RL,fI (show (n:Int)<((C k).length:Int) by omega),aba,hrc,DO]
      refine ⟨n+1,rfl,N+1,d5,R5,H5,_,s5,L5,t5,A5,by rw[XE.bits,hb4]; exact hb,⟨by rw[XE.begun,MV]; omega,by rw[XE.begun,MV]; omega⟩,by omega,by have:=g5.f; omega,fun b' hb'=>?_,XJ,KL.entry ro le kl5,rc.kl kl5 (fun vs e=>by rw[co.cell] at e; exact aT (by decide) e),by omega,aa_⟩
      obtain ⟨b0,hb0,hlen⟩:=g5.m k b' hb'
      rw[if_pos rfl] at hlen
      have:=hM b0 hb0
      omega
    ·have hm:iM k x=false:=by rw[iN,aG hs,Bool.and_false,Bool.false_and]
     simp(disch:=first|omega|simp only[Wd]<;>omega|with_unfolding_all rfl)only[Wz,aG hs,WL]
     exact ⟨n,rfl,st2.skip hx hm⟩
  ·rintro l' h2 ⟨n',e53,st2⟩
   exact ⟨_,by omega,i+1,n',rfl,e53,rfl,by omega,st2⟩
 ·have hil:i=L.length:=by omega
  obtain ⟨N,d,R,H,Hk,s,L',t,ag,hb,Gr,hN',hF,hM,co,le,rc,hn,SO⟩:=st1
  have hd:L.drop i=[]:=List.drop_of_length_le (by omega)
  rw[hd] at SO
  have hCl:(C k).length=n:=by
   have:=congrArg List.length SO
   rw[List.length_drop] at this
   simp[gE,iW] at this
   omega
  have nu:∀(β:Type) (fl:β) (κ:Value→β),o_ fl (h1.bl.get b8) k κ=κ (v k):=fun β fl κ=>co.ld hk2 κ
  have RL:∀(β:Type) (fl:β) (h':Heap) (κ:Value→Heap→β),bA fl (v k) h' κ=κ (.int .i64 ((C k).length:Int)) h':=fun β fl h' κ=>co.len hk2 h' κ
  simp(disch:=first|omega|simp only[Wd]<;>omega|with_unfolding_all rfl)only[Wz,sg,wL,e60,c6 (show (L.length:Int)≤(i:Int) by omega),Ep,h80,Kd hk2,nu,RL,WL,aZ (show (n:Int)=((C k).length:Int) by omega)]
  exact hN _ h1 rfl co le rc s.lo
theorem Ke {h0 h:Heap} (ro:jB h0) {rt b8:Nat} {v:Nat→Value} {C:Nat→List Int} {La Lb:List cF} (ha:La.length≤6) (hb:Lb.length≤6) {va vb:Value} (rH:Sl fE h0 va La) (Cl:Sl fE h0 vb Lb)
  {A:WA} {a:TA} {N:Nat} {d:TD} {R:RD} (s:WS h A a N d R) (hc0:R.cs[0]? = some none) (hc1:R.cs[1]? = some none) (co:CO h a.bp b8 v C) (le:Le h0 h) (rc:DD h rt) (e0:C 0=iW (fun _ _=>0) (gE 0 La)) (e1:C 1=iW (fun _ _=>0) (gE 1 Lb)) (TW:List Value) (κ:KQ) (hk:∀h,κ (.bool true) h) :
  yL (.pointer (some ⟨A.wb,0,none⟩)) TW va vb (.pointer (some ⟨rt,0,none⟩)) b8 h κ:=by
 obtain ⟨xa,ca,XK,_⟩:=(show Sl fE h0 va La from rH)
 obtain ⟨xb,cb,XL,_⟩:=(show Sl fE h0 vb Lb from Cl)
 have hC0:(C 0).length≤100:=by rw[e0,nE]; unfold gE; rw[List.length_map]; have:=List.length_filter_le (iM 0) La; omega
 have hC1:(C 1).length≤100:=by rw[e1,nE]; unfold gE; rw[List.length_map]; have:=List.length_filter_le (iM 1) Lb; omega
 unfold yL
 refine sx (i:=0) s hc0 _ ?_
 simp(disch:=first|omega|simp only[Wd]<;>omega|with_unfolding_all rfl)only[Wz,B7]
 refine sx (i:=1) s hc1 _ ?_
 simp(disch:=first|omega|simp only[Wd]<;>omega|with_unfolding_all rfl)only[Wz,B7]
 refine ⟨fun m l h1=>∃(k bp:Nat),slot l 80=.int .i64 (k:Int)∧m=2-k∧k≤2∧CO h1 bp b8 v C∧Le h0 h1∧DD h1 rt∧h1.lo≤h1.nx,⟨_,0,a.bp,rfl,rfl,by omega,co,le,rc,s.lo⟩,?_⟩
 rintro m l h1 ⟨k,bp,SP,rfl,hk2,co1,b_,rc1,lo1⟩
 by_cases hlt:k<2
 ·simp(disch:=first|omega|simp only[Wd]<;>omega|with_unfolding_all rfl)only[Wz,yK,SP,fI (show (k:Int)<2 by omega)]
  refine zg 1 ⟨by decide,by decide⟩ h1 _ lo1 ?_
  intro h2 A2 a2 d2 R2 nw s2 bF fb2
  have n2:=bF.nx
  have l2:=bF.lo
  have hS:a2.c.S=2:=by rw[nw.ec]; rfl
  have hh:a2.aH=8:=by
   have:=nw.hd
   have h8:mR.H=8:=rfl
   omega
  have SE:d2.F.length=24:=by
   have:=nw.f
   have h8:mR.R=24:=rfl
   omega
  have co2:=co1.new bF fb2
  have st:∀(k:Nat) (L:List cF),k<2→C k=iW (fun _ _=>0) (gE k L)→KC h0 rt b8 v C k A2 a2 L h2 0 0:=fun k L hk e=>⟨0,d2,R2,_,_,s2,nw.lone _,nw.ts (by decide) hk _,dF.refl _ _,nw.bit (by decide),⟨by rw[nw.begun]; decide,by rw[nw.begun]; decide⟩,Nat.le_refl _,by omega,fun b hb=>by rw[nw.em b (List.mem_of_getElem? hb)]; exact Nat.le_refl _,co2,b_.trans bF,rc1.le bF,Nat.zero_le _,by rw[List.drop_zero,List.drop_zero]; exact e⟩
  have fin:∀(k:Nat) (l:List Value) (pI:List Value→Heap→Prop),(∀l' h',(∃m,m<2-k∧∃(k bp:Nat),slot l' 80=.int .i64 (k:Int)∧m=2-k∧k≤2∧CO h' bp b8 v C∧Le h0 h'∧DD h' rt∧h'.lo≤h'.nx)→pI l' h')→k<2→∀l' h',slot l' 80=.int .i64 ((k:Int)+1)→CO h' a2.bp b8 v C→Le h0 h'→DD h' rt→h'.lo≤h'.nx→pI l' h':=fun k l pI hN hk l' h' q1 q2 q3 q4 q5=>hN l' h' ⟨2-(k+1),by omega,k+1,a2.bp,q1,rfl,by omega,q2,q3,q4,q5⟩
  rcases (show k=0∨k=1 by omega) with rfl | rfl
  ·subst XK XL
   have e81:slot l 80=.int .i64 0:=SP
   simp(disch:=first|omega|simp only[Wd]<;>omega|with_unfolding_all rfl)only[Wz,aS,Nat.zero_mul,Nat.one_mul,Nat.add_zero,Nat.zero_add]
   refine Ff ro (v:=v) (k:=0) (by decide) ha rH hS hh hC0 ?_ l SP _ _ _ _ _ _ ?_ ?_ _ _ ?_
   ·exact (st 0 La (by decide) e0).le ((Le.refl h2).new _)
   ·rfl
   ·rfl
   ·exact fin 0 l _ (fun l' h' q=>q) (by decide)
  ·subst XK XL
   have e81:slot l 80=.int .i64 1:=SP
   simp(disch:=first|omega|simp only[Wd]<;>omega|with_unfolding_all rfl)only[Wz,aS,Nat.zero_mul,Nat.one_mul,Nat.add_zero,Nat.zero_add]
   refine Ff ro (v:=v) (k:=1) (by decide) hb Cl hS hh hC1 ?_ l SP _ _ _ _ _ _ ?_ ?_ _ _ ?_
   ·exact (st 1 Lb (by decide) e1).le ((Le.refl h2).new _)
   ·rfl
   ·rfl
   ·exact fin 1 l _ (fun l' h' q=>q) (by decide)
 ·obtain rfl:k=2:=by omega
  simp(disch:=first|omega|simp only[Wd]<;>omega|with_unfolding_all rfl)only[Wz,yK,SP,c6 (show (2:Int)≤((2:Nat):Int) by omega)]
  exact hk h1
end Go.Proofs
