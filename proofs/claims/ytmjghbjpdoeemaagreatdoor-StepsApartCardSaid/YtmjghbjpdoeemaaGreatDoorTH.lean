/-
  PROVED HERE: a part of the proof (S31, S32, S33, S34, S35, S36).
-/
import Derived.Test.YtmjghbjpdoeemaaGreatDoorTG
set_option linter.unusedVariables false
set_option linter.unusedSimpArgs false
set_option maxRecDepth 100000
set_option maxHeartbeats 4000000
namespace Go.Proofs
open Go.Vai Go.Clashes
def X1 (t r:Int):Int:=ck t r 2+1
def bU {α:Type} (f:Nat→α) (k:Nat) (x:α):Nat→α:=fun j=>if k=j then x else f j
theorem cQ {α:Type} (f:Nat→α) (k:Nat) (x:α):bU f k x k=x:=by simp[bU]
theorem ff {α:Type} (f:Nat→α) {k j:Nat} (x:α) (h:j≠k):bU f k x j=f j:=by unfold bU; rw[if_neg (fun e=>h e.symm)]
structure D1 where
 N:Nat
 d:TD
 R:RD
 H:Int→Int→Int
 G:Nat→Int→Int→Int
 Gn:Nat→Int→Int→Int
 cB:Nat→List Int
 n:Nat→Nat
 q:Nat→Nat
 u:Nat→Value
 L:Nat→List cF
 v:Nat→Value
 C:Nat→List Int
def D1.mu (D:D1):Nat:=4*(D.L 0).length+4*(D.L 1).length+D.n 0+D.n 1
structure nL (h0:Heap) (rt fh b8:Nat) (A:WA) (a:TA) (h:Heap) (D:D1):Prop where
 s:WS h A a D.N D.d D.R
 l:Lone D.d.Ts D.H X1
 ts:∀k,k<2→TS D.R k k ((k:Int)+1) (D.G k) (D.Gn k) (D.cB k) (D.n k)
 ag:∀k,k<2→dF k D.H (D.G k)
 bits:∀k,k<2→D.R.bits[k]? = some 0
 bg:0≤D.R.begun∧D.R.begun+(D.L 0).length+(D.L 1).length≤12
 hN:D.N≤D.q 0+D.q 1
 hq:∀k,k<2→D.q k+(D.L k).length+(if 2≤D.n k then 1 else 0)≤6
 hF:24≤D.d.F.length+D.q 0+D.q 1
 hM:∀k,k<2→∀b,D.d.Ts[k]? = some b→b.M.length≤D.q k
 co:CO h a.bp b8 D.v D.C
 le:Le h0 h
 rc:DD h rt
 bl:fh<h.nx∧h.lo≤fh
 p_:h.bl.get fh=some (aa [D.u 0,D.u 1] 22 false)
 pa:∀k,k<2→eM h (D.u k) (D.L k)
def Kf (E:Nat→List Int) (D:D1):Prop:=∀k,k<2→D.C k++(D.cB k++iW (D.Gn k) (gE k (D.L k)))=E k
section
variable {h0 h h':Heap} {rt fh b8:Nat} {A:WA} {a:TA} {D:D1}
theorem CO.RY {h:Heap} {bp b8:Nat} {v:Nat→Value} {C:Nat→List Int} (c:CO h bp b8 v C):∀vs,h.bl.get b8≠some (aa vs 90 false):=fun vs e=>by rw[c.cell] at e; exact aT (by decide) e
theorem nL.le' (s:nL h0 rt fh b8 A a h D) (l:Le h h'):nL h0 rt fh b8 A a h' D:=by
 have n:=l.nx
 have lo:=l.lo
 have b:=s.bl
 exact ⟨s.s.le l,s.l,s.ts,s.ag,s.bits,s.bg,s.hN,s.hq,s.hF,s.hM,s.co.wk (s.s.KB l),s.le.trans l,s.rc.le l,⟨by omega,by omega⟩,(l.get _ s.bl.1).trans s.p_,fun k hk=>(s.pa k hk).keep l.nx l.lo fun c vs hc _=>l.get c hc⟩
theorem dF.other {k j:Nat} {H G:Int→Int→Int} (ag:dF j H G) {t r m:Int} (hs:ck t r 2=(k:Int)) (hne:j≠k):dF j (gF H t r m) G:=by
 intro t' r' h
 rw[lI _ (by rintro ⟨rfl,rfl⟩; omega)]
 exact ag _ _ h
theorem nL.stepped (ro:jB h0) (s:nL h0 rt fh b8 A a h D) {k n:Nat} (hk2:k<2) (hn:D.n k=n+1) {d':TD} {R':RD} {N':Nat} {H' Fa:Int→Int→Int} {iD:List Int} (s':WS h' A a N' d' R') (L':Lone d'.Ts H' X1) (t':TS R' k k ((k:Int)+1) Fa (D.Gn k) iD n)
  (hd:(N'=D.N∧d'=D.d∧H'=D.H∧Fa=D.G k∧n≠1)∨(n=1∧N'=D.N+1∧jA D.d d' k∧∃t r m,ck t r 2=(k:Int)∧H'=gF D.H t r m∧Fa=gF (D.G k) t r m)) (ag':dF k H' Fa) (as':Aside D.R R' k k) (k':WK a h h') :
  ∃q',nL h0 rt fh b8 A a h' { D with N:=N',d:=d',R:=R',H:=H',G:=bU D.G k Fa,cB:=bU D.cB k iD,n:=bU D.n k n,q:=q' }:=by
 have kl:=k'.kl b8
 have Je:=s.bl
 have kn:=k'.nx
 have klo:=k'.lo
 have Ce:fh≠b8:=fF s.p_ s.co.cell (by decide)
 have base:∀q':Nat→Nat,N'≤q' 0+q' 1→(∀j,j<2→q' j+(D.L j).length+(if 2≤bU D.n k n j then 1 else 0)≤6)→24≤d'.F.length+q' 0+q' 1→(∀j,j<2→∀b,d'.Ts[j]? = some b→b.M.length≤q' j)→(∀j,j<2→j≠k→dF j H' (D.G j))→
   nL h0 rt fh b8 A a h' { D with N:=N',d:=d',R:=R',H:=H',G:=bU D.G k Fa,cB:=bU D.cB k iD,n:=bU D.n k n,q:=q' }:=fun q' q1 q2 q3 q4 q5=>by
  refine ⟨s',L',fun j hj=>?_,fun j hj=>?_,fun j hj=>by show R'.bits[j]? = _; rw[as'.bits]; exact s.bits j hj,by show 0≤R'.begun∧R'.begun+_+_≤12; rw[as'.begun]; exact s.bg,q1,q2,q3,q4,s.co.wk k',KL.entry ro s.le kl,s.rc.kl kl s.co.RY,⟨by omega,by omega⟩,(kl.ty _ _ _ _ s.bl.1 Ce s.p_ (by unfold oM; decide) (by unfold nK; decide)).trans s.p_,fun j hj=>kl.part (fun vs e=>by rw[s.co.cell] at e; exact aT (by decide) e) (s.pa j hj)⟩
  ·by_cases e:j=k
   ·subst e; simp only[cQ]; exact t'
   ·simp only[ff _ _ e]; exact (s.ts j hj).aside as' e e
  ·by_cases e:j=k
   ·subst e; simp only[cQ]; exact ag'
   ·simp only[ff _ _ e]; exact q5 j hj e
 rcases hd with ⟨e1,e2,e3,e4,e5⟩ | ⟨e1,e2,g,t,r,m,e3,e4,e5⟩
 ·subst e1 e2 e3
  refine ⟨D.q,base D.q s.hN (fun j hj=>?_) s.hF s.hM fun j hj _=>s.ag j hj⟩
  have:=s.hq j hj
  by_cases e:j=k
  ·subst e
   rw[cQ]
   rw[hn] at this
   split at this<;>split<;>omega
  ·rw[ff _ _ e]; exact this
 ·subst e4
  have h01:bU D.q k (D.q k+1) 0+bU D.q k (D.q k+1) 1=D.q 0+D.q 1+1:=by
   rcases (show k=0∨k=1 by omega) with rfl | rfl<;>simp[bU]<;>omega
  refine ⟨bU D.q k (D.q k+1),base _ (by have:=s.hN; omega) (fun j hj=>?_) (by have:=s.hF; have:=g.f; omega) (fun j hj b hb=>?_) fun j hj e=>(s.ag j hj).other e3 e⟩
  ·have:=s.hq j hj
   by_cases e:j=k
   ·subst e
    rw[cQ,cQ]
    rw[hn] at this
    subst e1
    rw[if_pos (by omega)] at this
    rw[if_neg (by omega)]
    omega
   ·rw[ff _ _ e,ff _ _ e]; exact this
  ·obtain ⟨b0,hb0,hl⟩:=g.m j b hb
   have:=s.hM j hj b0 hb0
   by_cases e:j=k
   ·subst e
    rw[if_pos rfl] at hl
    rw[cQ]; omega
   ·rw[if_neg e] at hl
    rw[ff _ _ e]; omega
theorem nL.WN (ro:jB h0) (s:nL h0 rt fh b8 A a h D) {v':Nat→Value} {C':Nat→List Int} (s':WS h' A a D.N D.d D.R) (co':CO h' a.bp b8 v' C') (kl:KL b8 h h'):nL h0 rt fh b8 A a h' { D with v:=v',C:=C' }:=by
 have Je:=s.bl
 have kn:=kl.nx
 have klo:=kl.lo
 have Ce:fh≠b8:=fF s.p_ s.co.cell (by decide)
 exact ⟨s',s.l,s.ts,s.ag,s.bits,s.bg,s.hN,s.hq,s.hF,s.hM,co',KL.entry ro s.le kl,s.rc.kl kl s.co.RY,⟨by omega,by omega⟩,(kl.ty _ _ _ _ s.bl.1 Ce s.p_ (by unfold oM; decide) (by unfold nK; decide)).trans s.p_,fun j hj=>kl.part (fun vs e=>by rw[s.co.cell] at e; exact aT (by decide) e) (s.pa j hj)⟩
end
theorem eM.form {h:Heap} {u:Value} {L:List cF} (p:eM h u L):∃x n c,u=.slice x n c:=by
 rcases p with ⟨_,x,c,rfl⟩ | ⟨b,j,W,_,rfl,_⟩
 ·exact ⟨_,_,_,rfl⟩
 ·exact ⟨_,_,_,rfl⟩
section
variable {h0 h h':Heap} {rt fh b8:Nat} {A:WA} {a:TA} {D:D1}
theorem CO.sy {N:Nat} {d:TD} {R:RD} (s:WS h A a N d R) {v:Nat→Value} {C:Nat→List Int} (c:CO h a.bp b8 v C) {x:Nat} {vs:List Value} {t:TypeId} {o:Bool} (hg:h.bl.get x=some (aa vs t o)) (h1:t≠41) (h2:t≠3) (h3:t≠225) (ob:bC):CO ⟨h.nx,h.bl.aW x ob,h.lo⟩ a.bp b8 v C:=by
 obtain ⟨fs,ls,hb,gb⟩:=s.bp
 refine ⟨c.lt,c.lo,(T.ai _ _ (fF hg c.cell h1)).trans c.cell,fun k hk=>?_,fun k hk y n cap e hf=>c.nf k hk y n cap e ((FB.congr (T.ai _ _ (fF hg gb h3))).1 hf),c.ap⟩
 rcases c.p k hk with p | ⟨b,G,e,q1,q2,q3,q4⟩
 ·exact .inl p
 ·exact .inr ⟨b,G,e,q1,q2,(T.ai _ _ (fF hg q3 h2)).trans q3,q4⟩
theorem nL.WO (ro:jB h0) (s:nL h0 rt fh b8 A a h D):h0.nx≤fh:=by
 refine Nat.le_of_not_lt fun hlt=>?_
 have:=s.p_
 rw[s.le.get _ hlt] at this
 exact (ro fh).1 _ _ _ this
theorem nL.RZ (ro:jB h0) (s:nL h0 rt fh b8 A a h D) {k:Nat} (hk2:k<2) {x:cF} {L':List cF} (hL:D.L k=x::L') {u':Value} (hp:eM h u' L') :
  nL h0 rt fh b8 A a ⟨h.nx,h.bl.aW fh (aa [bU D.u k u' 0,bU D.u k u' 1] 22 false),h.lo⟩ { D with u:=bU D.u k u',L:=bU D.L k L' }:=by
 have hlen:(D.L k).length=L'.length+1:=by rw[hL]; rfl
 have hL2:(bU D.L k L' 0).length+(bU D.L k L' 1).length+1=(D.L 0).length+(D.L 1).length:=by
  rcases (show k=0∨k=1 by omega) with rfl | rfl<;>simp[bU]<;>omega
 have MW:=s.p_
 obtain ⟨rl,vr,q,rg⟩:=s.rc
 have Gr:=s.bg
 have part:∀{u:Value} {L:List cF},eM h u L→eM ⟨h.nx,h.bl.aW fh (aa [bU D.u k u' 0,bU D.u k u' 1] 22 false),h.lo⟩ u L:=fun p=>p.keep (Nat.le_refl _) rfl fun c vs _ hg=>T.ai _ _ (fF MW hg (by decide))
 refine ⟨s.s.sy MW (by unfold oM; decide) (by unfold nK; decide) _,s.l,s.ts,s.ag,s.bits,⟨Gr.1,?_⟩,s.hN,fun j hj=>?_,s.hF,s.hM,CO.sy s.s s.co MW (by decide) (by decide) (by decide) _,s.le.set (s.WO ro) _,⟨rl,vr,q,(T.ai _ _ (fF MW rg (by decide))).trans rg⟩,s.bl,T.af _ _ _,fun j hj=>?_⟩
 ·show D.R.begun+((bU D.L k L' 0).length:Nat)+((bU D.L k L' 1).length:Nat)≤12
  omega
 ·have:=s.hq j hj
  by_cases e:j=k
  ·subst e
   simp only[cQ]
   omega
  ·simp only[ff _ _ e]; exact this
 ·by_cases e:j=k
  ·subst e; simp only[cQ]; exact part hp
  ·simp only[ff _ _ e]; exact part (s.pa j hj)
theorem nL.begun (ro:jB h0) (s:nL h0 rt fh b8 A a h D) {k:Nat} (hk2:k<2) {x':cF} {R':RD} (s':WS h' A a D.N D.d R') (t':TS R' k k ((k:Int)+1) (D.G k) (p8 (D.G k) x') [gT (D.G k) x'] 3) (hb:R'.bits=D.R.bits) (Gr:R'.begun=D.R.begun+1) (hcs:∀j,j≠k→R'.cs[j]? = D.R.cs[j]?) (abe:R'.cI=D.R.cI) (k':WK a h h')
  (hq:D.q k+(D.L k).length+1≤6) (abf:D.R.begun+(D.L 0).length+(D.L 1).length+1≤12) :
  nL h0 rt fh b8 A a h' { D with R:=R',Gn:=bU D.Gn k (p8 (D.G k) x'),cB:=bU D.cB k [gT (D.G k) x'],n:=bU D.n k 3 }:=by
 have kl:=k'.kl b8
 have Je:=s.bl
 have kn:=kl.nx
 have klo:=kl.lo
 have Ce:fh≠b8:=fF s.p_ s.co.cell (by decide)
 have agE:=s.bg
 refine ⟨s',s.l,fun j hj=>?_,s.ag,fun j hj=>by show R'.bits[j]? = _; rw[hb]; exact s.bits j hj,⟨by show 0≤R'.begun; omega,by show R'.begun+((D.L 0).length:Nat)+((D.L 1).length:Nat)≤12; omega⟩,s.hN,fun j hj=>?_,s.hF,s.hM,s.co.wk k',KL.entry ro s.le kl,s.rc.kl kl s.co.RY,⟨by omega,by omega⟩,(kl.ty _ _ _ _ s.bl.1 Ce s.p_ (by unfold oM; decide) (by unfold nK; decide)).trans s.p_,fun j hj=>kl.part (fun vs e=>by rw[s.co.cell] at e; exact aT (by decide) e) (s.pa j hj)⟩
 ·by_cases e:j=k
  ·subst e; simp only[cQ]; exact t'
  ·simp only[ff _ _ e]
   have:=s.ts j hj
   unfold TS at this ⊢
   rw[hcs j e,abe]
   exact this
 ·by_cases e:j=k
  ·subst e
   simp only[cQ]
   rw[if_pos (by decide)]
   exact hq
  ·simp only[ff _ _ e]; exact s.hq j hj
end
section
variable {h0 h h':Heap} {rt fh b8:Nat} {A:WA} {a:TA} {D:D1} {E:Nat→List Int}
theorem MX {n:Nat→Nat} {k m:Nat} (hk:k<2) (e:n k=m+1):bU n k m 0+bU n k m 1+1=n 0+n 1:=by
 rcases (show k=0∨k=1 by omega) with rfl | rfl<;>simp[bU]<;>omega
theorem DE (ro:jB h0) (s:nL h0 rt fh b8 A a h D) (he:Kf E D) {k:Nat} (hk2:k<2) (hn0:D.n k≠0) (hS:a.c.S=2) (hh:a.aH=8) (hE:∀k,k<2→(E k).length≤100) (cE aY fN:List Value) (Oq:slot cE 14=.int .i64 (k:Int)) (jR v66:Value) (zn:List Value→Heap→Prop) (κ:KQ)
  (hN:∀l' h' D',nL h0 rt fh b8 A a h' D'→Kf E D'→D'.mu+1=D.mu→zn l' h') :
  CX (.pointer (some ⟨A.wb,0,none⟩)) cE b8 aY zn fN jR v66 h κ:=by
 obtain ⟨n,hn⟩:∃n,D.n k=n+1:=⟨D.n k-1,by omega⟩
 have hqk:=s.hq k hk2
 have hq0:=s.hq 0 (by decide)
 have hq1:=s.hq 1 (by decide)
 have hFF:=s.hF
 have hNN:=s.hN
 have t:=s.ts k hk2
 rw[hn] at t
 unfold CX
 simp(disch:=first|omega|simp only[Wd]<;>omega|with_unfolding_all rfl)only[Wz,Oq]
 refine E_ s.s s.l t hS (by omega) (s.bits k hk2) (fun t r e=>by unfold X1; rw[e]) (by omega) (s.ag k hk2) (by omega) (fun _ e=>by rw[e] at hFF; simp at hFF; omega) (fun e b hb=>?_) _ ?_
 ·have:=s.hM k hk2 b hb
  omega
 intro h1 d' R' N' H' Fa done code iD s' L' t' WQ hgrow ag' as' k'
 obtain ⟨q',s1⟩:=s.stepped ro hk2 hn s' L' t' hgrow ag' as' k'
 have hmu:=MX hk2 hn
 simp(disch:=first|omega|simp only[Wd]<;>omega|with_unfolding_all rfl)only[Wz]
 refine ⟨fun l' h2=>∃D',nL h0 rt fh b8 A a h2 D'∧Kf E D'∧D'.mu+1=D.mu,?_,?_⟩
 ·rcases WQ with ⟨rfl,e2,_⟩ | ⟨rfl,e2,e3,_⟩
  ·simp(disch:=first|omega|simp only[Wd]<;>omega|with_unfolding_all rfl)only[Wz]
   refine ⟨_,s1,fun j hj=>?_,by unfold D1.mu; show 4*(D.L 0).length+4*(D.L 1).length+bU D.n k n 0+bU D.n k n 1+1=_; omega⟩
   have:=he j hj
   by_cases e:j=k
   ·subst e; simp only[cQ]; rw[e2]; exact this
   ·simp only[ff _ _ e]; exact this
  ·subst e3
   have R6:=he k hk2
   have hEk:=hE k hk2
   rw[←R6,e2] at hEk
   simp only[List.length_append] at hEk
   have co1:=s1.co
   have nu:∀(β:Type) (fl:β) (κ:Value→β),o_ fl (h1.bl.get b8) k κ=κ (D.v k):=fun β fl κ=>co1.ld hk2 κ
   simp(disch:=first|omega|simp only[Wd]<;>omega|with_unfolding_all rfl)only[Wz,Ik,Oq,Kd hk2,nu,aO]
   obtain ⟨hB,b6⟩:∃hB:Heap,hB=⟨h1.nx+1,(h1.bl.aW (h1.nx) (aa [.int .i64 code] 3 false)),h1.lo⟩:=⟨_,rfl⟩
   have bJ:Le h1 hB:=by subst b6; exact ((Le.refl h1).new _)
   have g7:hB.bl.get (h1.nx)=some (aa [.int .i64 code] 3 false):=by subst b6; exact T.af _ _ _
   have BD:hB.nx=h1.nx+1:=by subst b6; rfl
   have BE:hB.lo=h1.lo:=by subst b6; rfl
   rw[←b6]
   clear b6
   have SQ:=s1.le' bJ
   refine CO.push SQ.s SQ.co hk2 (by show h1.nx<hB.nx; omega) g7 (by show (D.C k).length≤100000; omega) _ ?_
   intro v' h2 b2 n2 ev SN hn2 FG s2 co2 kl2
   have fin:=SQ.WN ro s2 co2 kl2
   have Gv:=SN.trans SQ.co.cell
   have agH:=SQ.co.lt
   have acX:=SQ.co.lo
   have hEq:Kf E { D with N:=N',d:=d',R:=R',H:=H',G:=bU D.G k Fa,cB:=bU D.cB k [],n:=bU D.n k n,q:=q',v:=fun j=>if k=j then v' else D.v j,C:=fun j=>if k=j then D.C k++[code] else D.C j }:=by
    intro j hj
    have:=he j hj
    by_cases e:j=k
    ·subst e
     simp only[cQ,if_pos]
     rw[e2] at this
     simpa using this
    ·have e':¬k=j:=fun x=>e x.symm
     simp only[ff _ _ e,if_neg e']
     exact this
   have hMu:D1.mu { D with N:=N',d:=d',R:=R',H:=H',G:=bU D.G k Fa,cB:=bU D.cB k [],n:=bU D.n k n,q:=q',v:=fun j=>if k=j then v' else D.v j,C:=fun j=>if k=j then D.C k++[code] else D.C j }+1=D.mu:=by unfold D1.mu; show 4*(D.L 0).length+4*(D.L 1).length+bU D.n k n 0+bU D.n k n 1+1=_; omega
   rcases (show k=0∨k=1 by omega) with rfl | rfl
   ·subst ev
    simp(disch:=first|omega|simp only[Wd]<;>omega|with_unfolding_all rfl)only[Wz,Oq,Kd (k:=0) (by decide),Gv]
    exact ⟨_,fin,hEq,hMu⟩
   ·subst ev
    simp(disch:=first|omega|simp only[Wd]<;>omega|with_unfolding_all rfl)only[Wz,Oq,Kd (k:=1) (by decide),Gv]
    exact ⟨_,fin,hEq,hMu⟩
 ·rintro l' h2 ⟨D',s2,e2,m2⟩
  exact hN _ h2 D' s2 e2 m2
end
theorem abh {h:Heap} {b k:Nat} (hk:k<2) {u:Nat→Value} {ty:TypeId} (hg:h.bl.get b=some (aa [u 0,u 1] ty false)) (hlo:h.lo≤b) (x:Option Addr) (n c:Nat) (κ:Heap→Prop):Kp False (h.bl.get b) 1 b k [.slice x n c] h κ=κ ⟨h.nx,h.bl.aW b (aa [bU u k (.slice x n c) 0,bU u k (.slice x n c) 1] ty false),h.lo⟩:=by
 rcases (show k=0∨k=1 by omega) with rfl | rfl
 ·simp(disch:=first|omega|simp only[Wd]<;>omega|with_unfolding_all rfl)only[Wz,hg]
  rfl
 ·simp(disch:=first|omega|simp only[Wd]<;>omega|with_unfolding_all rfl)only[Wz,hg]
  rfl
section
variable {h0 h h':Heap} {rt fh b8:Nat} {A:WA} {a:TA} {D:D1} {E:Nat→List Int}
theorem Kg {L:Nat→List cF} {n:Nat→Nat} {k m:Nat} (hk:k<2) {x:cF} {L':List cF} (e:L k=x::L') (hn:n k=0) (hm:m≤3):4*(bU L k L' 0).length+4*(bU L k L' 1).length+bU n k m 0+bU n k m 1+1≤4*(L 0).length+4*(L 1).length+n 0+n 1:=by
 have hl:(L k).length=L'.length+1:=by rw[e]; rfl
 rcases (show k=0∨k=1 by omega) with rfl | rfl<;>simp[bU]<;>omega
theorem Gx {α:Type} (f:Nat→α) (k:Nat):bU f k (f k)=f:=by
 funext j
 unfold bU
 split
 ·rename_i e; rw[e]
 ·rfl
theorem Gy (ro:jB h0) (s:nL h0 rt fh b8 A a h D) (he:Kf E D) {k:Nat} (hk2:k<2) (hn0:D.n k=0) (hS:a.c.S=2) (cE aY fN:List Value) (Oq:slot cE 14=.int .i64 (k:Int)) (v35 jR v66:Value) (Eo zn:List Value→Heap→Prop)
  (h31:D.L k=[]→∀l',Eo l' h) (hN:∀l' h' D',nL h0 rt fh b8 A a h' D'→Kf E D'→D'.mu+1≤D.mu→zn l' h') :
  CY fh cE Eo aY v35 fN (.pointer (some ⟨A.wb,0,none⟩)) jR v66 (.pointer (some ⟨rt,0,none⟩)) zn h:=by
 obtain ⟨abi,acZ⟩:=s.bl
 have MW:=s.p_
 have hu:∀(h:Heap),h.bl.get fh=some (aa [D.u 0,D.u 1] 22 false)→∀(β:Type) (fl:β) (κ:Value→β),o_ fl (h.bl.get fh) k κ=κ (D.u k):=fun h hg β fl κ=>by
  have hh:Has (h.bl.get fh) 0 [D.u 0,D.u 1]:=by rw[hg]; exact Has.all
  rcases (show k=0∨k=1 by omega) with rfl | rfl
  ·exact cL (fl:=fl) hh 0 κ (by show 0<2; omega)
  ·exact cL (fl:=fl) hh 1 κ (by show 1<2; omega)
 have R7:=hu h MW
 have pk:=s.pa k hk2
 have hlen:∀(β:Type) (fl:β) (h':Heap) (κ:Value→Heap→β),bA fl (D.u k) h' κ=κ (.int .i64 ((D.L k).length:Int)) h':=fun β fl h' κ=>pk.len h' κ
 unfold CY
 cases hL:D.L k with
 | nil=>
  rw[hL] at hlen
  have e0:decide (((([]:List cF).length:Nat):Int)=0)=true:=by decide
  simp(disch:=first|omega|simp only[Wd]<;>omega|with_unfolding_all rfl)only[Wz,Oq,aS,Nat.mul_one,Nat.zero_add,R7,hlen,e0]
  exact h31 hL _
 | cons x L'=>
  rw[hL] at hlen pk
  have e0:decide ((((x::L').length:Nat):Int)=0)=false:=aG (by simp only[List.length_cons]; omega)
  obtain ⟨bx,ox,hbx,EY,XG⟩:=pk.head
  simp(disch:=first|omega|simp only[Wd]<;>omega|with_unfolding_all rfl)only[Wz,Oq,aS,Nat.mul_one,Nat.zero_add,R7,hlen,e0]
  unfold Il
  simp(disch:=first|omega|simp only[Wd]<;>omega|with_unfolding_all rfl)only[Wz,Oq,aS,Nat.mul_one,Nat.zero_add,R7]
  simp(disch:=first|omega|simp only[Wd]<;>omega|with_unfolding_all rfl)only[Wz,EY,XG,fE,R7]
  obtain ⟨hB,b6⟩:∃hB:Heap,hB=⟨h.nx+1,(h.bl.aW (h.nx) (aa [.int .i64 x.k,.int .i64 x.x,.int .i64 x.t,.int .i64 x.r,.int .i64 x.m,.int .i64 x.w,.int .i64 x.to] 39 false)),h.lo⟩:=⟨_,rfl⟩
  have bJ:Le h hB:=by subst b6; exact ((Le.refl h).new _)
  have g1:hB.bl.get (h.nx)=some (aa [.int .i64 x.k,.int .i64 x.x,.int .i64 x.t,.int .i64 x.r,.int .i64 x.m,.int .i64 x.w,.int .i64 x.to] 39 false):=by subst b6; exact T.af _ _ _
  have BD:hB.nx=h.nx+1:=by subst b6; rfl
  have BE:hB.lo=h.lo:=by subst b6; rfl
  rw[←b6]
  clear b6
  have WR:=(bJ.get fh abi).trans MW
  have huB:=hu hB WR
  obtain ⟨u',hp',one',cells',OI⟩:=(show eM hB (D.u k) (x::L') from pk.keep bJ.nx bJ.lo fun c vs hc _=>bJ.get c hc).tail
  simp(disch:=first|omega|simp only[Wd]<;>omega|with_unfolding_all rfl)only[Wz,OI]
  obtain ⟨ux,un,uc,eu⟩:=hp'.form
  subst eu
  have hst:=abh hk2 WR (by omega) ux un uc
  have hnB:=bJ.nx
  have XM:=bJ.lo
  have lo0:=s.s.lo
  have leY:Le h ⟨hB.nx,hB.bl.aW h.nx (aa [.int .i64 x.k,.int .i64 ((k:Int)+1),.int .i64 x.t,.int .i64 x.r,.int .i64 x.m,.int .i64 x.w,.int .i64 x.to] 39 false),hB.lo⟩:=bJ.set (Nat.le_refl _) _
  have pY:eM ⟨hB.nx,hB.bl.aW h.nx (aa [.int .i64 x.k,.int .i64 ((k:Int)+1),.int .i64 x.t,.int .i64 x.r,.int .i64 x.m,.int .i64 x.w,.int .i64 x.to] 39 false),hB.lo⟩ (.slice ux un uc) L':=hp'.keep (Nat.le_refl _) rfl fun c vs hc hg=>T.ai _ _ (by rintro rfl; rw[g1] at hg; exact bf hg)
  have sP:=(s.le' leY).RZ ro hk2 hL pY
  obtain ⟨hC,eC⟩:∃hC:Heap,hC=⟨hB.nx,(hB.bl.aW fh (aa [bU D.u k (Value.slice ux un uc) 0,bU D.u k (Value.slice ux un uc) 1] 22 false)).aW h.nx (aa [.int .i64 x.k,.int .i64 ((k:Int)+1),.int .i64 x.t,.int .i64 x.r,.int .i64 x.m,.int .i64 x.w,.int .i64 x.to] 39 false),hB.lo⟩:=⟨_,rfl⟩
  have sC:nL h0 rt fh b8 A a hC { D with u:=bU D.u k (.slice ux un uc),L:=bU D.L k L' }:=by
   rw[eC,T.tw _ _ _ (by omega)]
   exact sP
  have gC:hC.bl.get h.nx=some (aa [.int .i64 x.k,.int .i64 ((k:Int)+1),.int .i64 x.t,.int .i64 x.r,.int .i64 x.m,.int .i64 x.w,.int .i64 x.to] 39 false):=by rw[eC]; exact T.af _ _ _
  have nC:hC.nx=hB.nx:=by rw[eC]
  simp(disch:=first|omega|simp only[Wd]<;>omega|with_unfolding_all rfl)only[Wz,hst]
  simp(disch:=first|omega|simp only[Wd]<;>omega|with_unfolding_all rfl)only[Wz,g1]
  rw[←eC]
  clear eC sP
  have Tx:=s.ts k hk2
  rw[hn0] at Tx
  obtain ⟨hic,hil,hip,hig⟩:=Tx.idle
  have R6:=he k hk2
  rw[hip,hig,hL,List.nil_append] at R6
  have mu0:D1.mu { D with u:=bU D.u k (.slice ux un uc),L:=bU D.L k L' }+1≤D.mu:=by
   have:=Kg hk2 hL hn0 (m:=0) (by omega)
   have e:=Gx D.n k
   rw[hn0] at e
   rw[e] at this
   exact this
  have skip:∀(h2:Heap) (l':List Value),iM k x=false→Le hC h2→zn l' h2:=fun h2 l' hm bF=>by
   refine hN l' h2 _ (sC.le' bF) (fun j hj=>?_) mu0
   by_cases e:j=k
   ·subst e
    simp only[cQ]
    rw[Fe hm] at R6
    rw[hip,hig,List.nil_append]
    exact R6
   ·simp only[ff _ _ e]; exact he j hj
  by_cases h3:x.k=3
  ·have hm:iM k x=false:=by rw[iN,aG (fun e=>e h3)]; rfl
   simp(disch:=first|omega|simp only[Wd]<;>omega|with_unfolding_all rfl)only[Wz,gC,aZ h3]
   exact skip _ _ hm (Le.refl _)
  ·obtain ⟨WM,vr,q,grt⟩:=sC.rc
   simp(disch:=first|omega|simp only[Wd]<;>omega|with_unfolding_all rfl)only[Wz,gC,aG h3]
   refine xR (c:=mR) WM grt x.t x.r _ ?_
   rw[show mR.S=2 from rfl]
   intro h2 bF
   have n2:=bF.nx
   have l2:=bF.lo
   have s2:=sC.le' bF
   have g12:=(bF.get h.nx (by omega)).trans gC
   by_cases hs:ck x.t x.r 2=(k:Int)
   ·simp(disch:=first|omega|simp only[Wd]<;>omega|with_unfolding_all rfl)only[Wz,aZ hs,g12]
    have abf:=s.bg
    have hqk:=s.hq k hk2
    have hlL:(D.L k).length=L'.length+1:=by rw[hL]; rfl
    have hL2:(bU D.L k L' 0).length+(bU D.L k L' 1).length+1=(D.L 0).length+(D.L 1).length:=by
     rcases (show k=0∨k=1 by omega) with rfl | rfl<;>simp[bU]<;>omega
    refine vw (Hk:=D.G k) s2.s (.inl ⟨rfl,hic,hil,rfl,rfl⟩) hS (x.own ((k:Int)+1)) rfl h3 hs (by show 0≤D.R.begun∧D.R.begun≤1000000; omega) _ ?_ ?_
    ·intro hm h4 su
     have hm':iM k x=false:=by rw[iN,hm,Bool.and_false]
     exact skip _ _ hm' (bF.trans su)
    ·intro hm h4 R4 s4 t4 hb4 MV abj WT k4
     have hm':iM k x=true:=by rw[iN,hm,aZ h3,aZ hs]; rfl
     refine hN _ h4 _ (nL.begun ro s2 hk2 s4 t4 hb4 MV abj WT k4 ?_ ?_) (fun j hj=>?_) (Kg hk2 hL hn0 (by omega))
     ·show D.q k+(bU D.L k L' k).length+1≤6
      rw[cQ]
      omega
     ·show D.R.begun+((bU D.L k L' 0).length:Nat)+((bU D.L k L' 1).length:Nat)+1≤12
      omega
     ·by_cases e:j=k
      ·subst e
       simp only[cQ]
       rw[Fc hm'] at R6
       exact R6
      ·simp only[ff _ _ e]; exact he j hj
   ·have hm:iM k x=false:=by rw[iN,aG hs,Bool.and_false,Bool.false_and]
    simp(disch:=first|omega|simp only[Wd]<;>omega|with_unfolding_all rfl)only[Wz,aG hs]
    exact skip _ _ hm bF
end
section
variable {h0 h h':Heap} {rt fh b8:Nat} {A:WA} {a:TA} {D:D1} {E:Nat→List Int}
theorem nL.ldu (s:nL h0 rt fh b8 A a h D) {k:Nat} (hk2:k<2) {β:Type} {fl:β} (κ:Value→β):o_ fl (h.bl.get fh) k κ=κ (D.u k):=by
 have hh:Has (h.bl.get fh) 0 [D.u 0,D.u 1]:=by rw[s.p_]; exact Has.all
 rcases (show k=0∨k=1 by omega) with rfl | rfl
 ·exact cL (fl:=fl) hh 0 κ (by show 0<2; omega)
 ·exact cL (fl:=fl) hh 1 κ (by show 1<2; omega)
def Idle (D:D1):Prop:=∀j,j<2→D.n j=0∧D.L j=[]
theorem MY (ro:jB h0) {T:List Int} {vt:Value} (R8:Sl bQ h0 vt T) (hT:T.length≤60) (s:nL h0 rt fh b8 A a h D) (he:Kf E D) (hS:a.c.S=2) (hh:a.aH=8) (hE:∀k,k<2→(E k).length≤100) (hmu:D.mu≤48) (init:List Value) (i95:slot init 95=.int .i64 0) (Eo:List Value→Heap→Prop) (κ:KQ)
  (hk:∀l' h' D',nL h0 rt fh b8 A a h' D'→Kf E D'→Idle D'→Eo l' h') :
  dP init h fun aY h TG=>C1 aY vt (.pointer (some ⟨A.wb,0,none⟩)) fh b8 Eo (.pointer (some ⟨rt,0,none⟩)) TG h κ:=by
 obtain ⟨tx,tc,evt,_⟩:=(show Sl bQ h0 vt T from R8)
 have Ot:∀(β:Type) (fl:β) (h':Heap) (κ:Value→Heap→β),bA fl vt h' κ=κ (.int .i64 (T.length:Int)) h':=fun β fl h' κ=>by rw[evt]; exact dx _ _ _ _ _
 refine ⟨fun m l h1=>∃(i:Nat) (D:D1),slot l 95=.int .i64 (i:Int)∧m=D.mu∧i+D.mu≤48∧nL h0 rt fh b8 A a h1 D∧Kf E D,⟨_,0,D,i95,rfl,by omega,s,he⟩,?_⟩
 clear s he hmu
 rintro m l h1 ⟨i,D,e95,rfl,hmu,s,he⟩
 simp(disch:=first|omega|simp only[Wd]<;>omega|with_unfolding_all rfl)only[Wz,C1,e95,fI (show (i:Int)<400 by omega)]
 refine ⟨fun l' h'=>∃D',nL h0 rt fh b8 A a h' D'∧Kf E D'∧D'.mu+1≤D.mu,?_,?_⟩
 ·refine ⟨fun l' h'=>∃k0:Nat,k0<2∧slot l' 11=.int .i64 (k0:Int)∧HQ h1 h',?_,?_⟩
  ·cases T with
   | nil=>
    have e0:decide (0<((([]:List Int).length:Nat):Int))=false:=by decide
    simp(disch:=first|omega|simp only[Wd]<;>omega|with_unfolding_all rfl)only[Wz,C0,Ot,e0]
    exact ⟨0,by decide,rfl,rfl⟩
   | cons t T'=>
    have hTl:(t::T').length=T'.length+1:=rfl
    have e0:decide (0<(((t::T').length:Nat):Int))=true:=aZ (by omega)
    have hlt:i % (t::T').length<(t::T').length:=Nat.mod_lt _ (by omega)
    obtain ⟨y,hy⟩:∃y,(t::T')[i % (t::T').length]? = some y:=⟨_,List.getElem?_eq_getElem hlt⟩
    obtain ⟨bt,ot,hbt,hit,_,hht⟩:=R8.ld encNum_len _ hy
    rw[←s.le.get bt hbt] at hht
    have WM:∀(β:Type) (fl:β) (κ:Value→β),o_ fl (h1.bl.get bt) ot κ=κ (.int .i64 y):=fun β fl κ=>cL (fl:=fl) hht 0 κ (by show 0<1; omega)
    have hne:(((t::T').length:Nat):Int)≠0:=by omega
    have abl:∀(β:Type) (fl:β) (h:Heap) (κ:Value→Heap→β),au fl Tryz.prog .rem 3 false false (.int .i64 (i:Int)) (.int .i64 (((t::T').length:Nat):Int)) h κ=κ (.int .i64 ((i % (t::T').length:Nat):Int)) h:=fun β fl h κ=>D2 _ _ _ _ _ _ _ _ hne
    simp(disch:=first|omega|simp only[Wd]<;>omega|with_unfolding_all rfl)only[Wz,C0,Ot,e0,e95,abl,hit,WM]
    refine Rw y 2 (by decide) ?_
    obtain ⟨p1,p2⟩:=BS (n:=y) (m:=2) (by decide)
    obtain ⟨k0,lF⟩:∃k0:Nat,mM y 2=(k0:Int):=⟨(mM y 2).toNat,by omega⟩
    simp(disch:=first|omega|simp only[Wd]<;>omega|with_unfolding_all rfl)only[Wz,lF]
    exact ⟨k0,by omega,rfl,rfl⟩
  ·rintro fN h2 ⟨k0,lF,e11,hq⟩
   cases (show h1=h2 from hq)
   unfold Ip
   refine ⟨fun l' h'=>∃k:Nat,k<2∧slot l' 14=.int .i64 (k:Int)∧HQ h1 h'∧(D.n k=0→D.L k=[]→Idle D),?_,?_⟩
   ·obtain ⟨o,ho,wA⟩:=(s.ts k0 lF).ph
    have R7:∀(β:Type) (fl:β) (κ:Value→β),o_ fl (h1.bl.get fh) k0 κ=κ (D.u k0):=fun β fl κ=>s.ldu lF κ
    have hlen:∀(β:Type) (fl:β) (h':Heap) (κ:Value→Heap→β),bA fl (D.u k0) h' κ=κ (.int .i64 ((D.L k0).length:Int)) h':=fun β fl h' κ=>(s.pa k0 lF).len h' κ
    simp(disch:=first|omega|simp only[Wd]<;>omega|with_unfolding_all rfl)only[Wz,Io,e11]
    refine sx s.s ho _ ?_
    by_cases hn:D.n k0=0
    ·by_cases hL:D.L k0=[]
     ·have e0:decide ((((D.L k0).length:Nat):Int)=0)=true:=by rw[hL]; rfl
      simp(disch:=first|omega|simp only[Wd]<;>omega|with_unfolding_all rfl)only[Wz,aZ (wA.2 hn),aS,Nat.mul_one,Nat.zero_add,R7,hlen,e0]
      refine ⟨1-k0,by omega,?_,rfl,fun h1 h2 j hj=>?_⟩
      ·rcases (show k0=0∨k0=1 by omega) with rfl | rfl<;>rfl
      ·rcases (show j=k0∨j=1-k0 by omega) with rfl | rfl
       ·exact ⟨hn,hL⟩
       ·exact ⟨h1,h2⟩
     ·have e0:decide ((((D.L k0).length:Nat):Int)=0)=false:=aG fun e=>hL (List.eq_nil_of_length_eq_zero (by omega))
      simp(disch:=first|omega|simp only[Wd]<;>omega|with_unfolding_all rfl)only[Wz,aZ (wA.2 hn),aS,Nat.mul_one,Nat.zero_add,R7,hlen,e0]
      exact ⟨k0,lF,rfl,rfl,fun _ e=>absurd e hL⟩
    ·simp(disch:=first|omega|simp only[Wd]<;>omega|with_unfolding_all rfl)only[Wz,aG (fun e=>hn (wA.1 e))]
     exact ⟨k0,lF,rfl,rfl,fun e=>absurd e hn⟩
   ·rintro cE h2 ⟨k,hk2,e14,zL,WU⟩
    cases (show h1=h2 from zL)
    obtain ⟨o,ho,wA⟩:=(s.ts k hk2).ph
    simp(disch:=first|omega|simp only[Wd]<;>omega|with_unfolding_all rfl)only[Wz,e14]
    refine sx s.s ho _ ?_
    by_cases hn:D.n k=0
    ·simp(disch:=first|omega|simp only[Wd]<;>omega|with_unfolding_all rfl)only[Wz,aZ (wA.2 hn)]
     refine Gy ro s he hk2 hn hS cE l fN e14 _ _ _ _ _ (fun hL l'=>hk l' h1 D s he (WU hn hL)) ?_
     intro l' h' D' s' e' m'
     exact ⟨D',s',e',m'⟩
    ·simp(disch:=first|omega|simp only[Wd]<;>omega|with_unfolding_all rfl)only[Wz,aG (fun e=>hn (wA.1 e))]
     refine DE ro s he hk2 hn hS hh hE cE l fN e14 _ _ _ κ ?_
     intro l' h' D' s' e' m'
     exact ⟨D',s',e',Nat.le_of_eq m'⟩
 ·rintro l' h2 ⟨D',s2,e2,m2⟩
  exact ⟨_,by omega,i+1,D',rfl,rfl,by omega,s2,e2⟩
end
theorem DF (La Lb:List cF) (Tn:List Int) (h:Heap) (va vb vt:Value) (rH:Sl fE h va La) (Cl:Sl fE h vb Lb) (R8:Sl bQ h vt Tn) (hlo:h.lo≤h.nx) (ro:jB h) (κ:KQ) (hk:∀h,κ (.bool true) h) :
  CallW Tryz.prog 3 [va,vb,vt] h κ:=by
 obtain ⟨xa,ca,XK,_⟩:=(show Sl fE h va La from rH)
 obtain ⟨xb,cb,XL,_⟩:=(show Sl fE h vb Lb from Cl)
 obtain ⟨xt,ct,evt,_⟩:=(show Sl bQ h vt Tn from R8)
 have XN:∀(β:Type) (fl:β) (h':Heap) (κ:Value→Heap→β),bA fl va h' κ=κ (.int .i64 (La.length:Int)) h':=fun β fl h' κ=>by rw[XK]; exact dx _ _ _ _ _
 have XM:∀(β:Type) (fl:β) (h':Heap) (κ:Value→Heap→β),bA fl vb h' κ=κ (.int .i64 (Lb.length:Int)) h':=fun β fl h' κ=>by rw[XL]; exact dx _ _ _ _ _
 have hlT:∀(β:Type) (fl:β) (h':Heap) (κ:Value→Heap→β),bA fl vt h' κ=κ (.int .i64 (Tn.length:Int)) h':=fun β fl h' κ=>by rw[evt]; exact dx _ _ _ _ _
 refine aq mixed ?_
 rw[Y2]
 refine MS h _ hlo ro ?_
 intro h1 b_
 have n1:=b_.nx
 have l1:=b_.lo
 by_cases a1:6<La.length
 ·simp(disch:=first|omega|simp only[Wd]<;>omega|with_unfolding_all rfl)only[Wz,pJ,XN,aZ (show (6:Int)<(La.length:Int) by omega)]
  exact hk _
 by_cases a2:6<Lb.length
 ·simp(disch:=first|omega|simp only[Wd]<;>omega|with_unfolding_all rfl)only[Wz,pJ,XN,XM,aG (show ¬(6:Int)<(La.length:Int) by omega),aZ (show (6:Int)<(Lb.length:Int) by omega)]
  exact hk _
 by_cases a3:60<Tn.length
 ·simp(disch:=first|omega|simp only[Wd]<;>omega|with_unfolding_all rfl)only[Wz,pJ,XN,XM,hlT,aG (show ¬(6:Int)<(La.length:Int) by omega),aG (show ¬(6:Int)<(Lb.length:Int) by omega),aZ (show (60:Int)<(Tn.length:Int) by omega)]
  exact hk _
 simp(disch:=first|omega|simp only[Wd]<;>omega|with_unfolding_all rfl)only[Wz,pJ,XN,XM,hlT,aG (show ¬(6:Int)<(La.length:Int) by omega),aG (show ¬(6:Int)<(Lb.length:Int) by omega),aG (show ¬(60:Int)<(Tn.length:Int) by omega),Es]
 refine xQ h1 _ (by omega) ?_
 intro h2 bF
 have n2:=bF.nx
 have l2:=bF.lo
 refine MU mR h2 h2 _ (by omega) (fun hn=>absurd Fb hn) ?_
 intro h3 rt rp rl vr R0 hd0 _ _ Xd _ _ f_
 have n3:=f_.nx
 have l3:=f_.lo
 have rc3:DD h3 rt:=⟨Xd.lt,vr,_,Xd.cell⟩
 simp(disch:=first|omega|simp only[Wd]<;>omega|with_unfolding_all rfl)only[Wz,Er]
 refine zg 2 ⟨by decide,by decide⟩ h3 _ (by omega) ?_
 intro h4 A a d R nw s4 su _
 have n4:=su.nx
 have l4:=su.lo
 have hS:a.c.S=2:=by rw[nw.ec]; rfl
 have hh:a.aH=8:=by
  have:=nw.hd
  have h8:mR.H=8:=rfl
  omega
 have SE:d.F.length=24:=by
  have:=nw.f
  have h8:mR.R=24:=rfl
  omega
 have R9:=b_.trans (bF.trans (f_.trans su))
 refine Kc (rH.le R9) (by omega) (by omega) _ ?_
 intro ua h5 pa ac5 XP xy
 have n5:=xy.nx
 have l5:=xy.lo
 refine Kc (Cl.le (R9.trans xy)) (by omega) (by omega) _ ?_
 intro ub h6 pb ac6 XQ yZ
 have n6:=yZ.nx
 have l6:=yZ.lo
 obtain ⟨xua,nua,cua,eua⟩:=pa.form
 obtain ⟨xub,nub,cub,eub⟩:=pb.form
 subst eua eub
 simp(disch:=first|omega|simp only[Wd]<;>omega|with_unfolding_all rfl)only[Wz,aO]
 obtain ⟨hB,b6⟩:∃hB:Heap,hB=⟨h6.nx+1+1,((h6.bl.aW (h6.nx) (aa [.slice xua nua cua,.slice xub nub cub] 22 false)).aW (h6.nx+1) (aa [.slice none 0 0,.slice none 0 0] 41 false)),h6.lo⟩:=⟨_,rfl⟩
 have bJ:Le h6 hB:=by subst b6; exact (((Le.refl h6).new _).new _)
 have MW:hB.bl.get (h6.nx)=some (aa [.slice xua nua cua,.slice xub nub cub] 22 false):=by subst b6; exact (T.ai _ _ (by omega)).trans (T.af _ _ _)
 have SN:hB.bl.get (h6.nx+1)=some (aa [.slice none 0 0,.slice none 0 0] 41 false):=by subst b6; exact T.af _ _ _
 have BD:hB.nx=h6.nx+1+1:=by subst b6; rfl
 have BE:hB.lo=h6.lo:=by subst b6; rfl
 rw[←b6]
 clear b6
 have nB:=bJ.nx
 have lB:=bJ.lo
 have s6:=((s4.le xy).le yZ).le bJ
 have abu:=((R9.trans xy).trans yZ).trans bJ
 have hE0:∀k,k<2→(iW (fun _ _=>0) (gE k (if k=0 then La else Lb))).length≤100:=fun k _=>by
  rw[nE]; unfold gE; rw[List.length_map]
  have h1:=List.length_filter_le (iM k) (if k=0 then La else Lb)
  have h2:(if k=0 then La else Lb).length≤6:=by split<;>omega
  omega
 have i0:nL h rt h6.nx (h6.nx+1) A a hB ⟨0,d,R,fun _ _=>0,fun _ _ _=>0,fun _ _ _=>0,fun _=>[],fun _=>0,fun _=>0,fun k=>if k=0 then .slice xua nua cua else .slice xub nub cub,fun k=>if k=0 then La else Lb,fun _=>.slice none 0 0,fun _=>[]⟩:=by
  refine ⟨s6,nw.lone _,fun k hk=>nw.ts hk hk _,fun k _=>dF.refl _ _,fun k hk=>nw.bit hk,⟨by show 0≤R.begun; rw[nw.begun]; decide,?_⟩,Nat.zero_le _,fun k hk=>?_,by show 24≤d.F.length+0+0; omega,fun k hk b hb=>by rw[nw.em b (List.mem_of_getElem? hb)]; exact Nat.le_refl _,⟨by omega,by omega,SN,fun k _=>.inl ⟨rfl,rfl⟩,fun k _ c n cap e=>(nomatch e),fun j k _ _ _ c n cap n' cap' e=>(nomatch e)⟩,abu,rc3.le (((su.trans xy).trans yZ).trans bJ),⟨by omega,by omega⟩,MW,fun k hk=>?_⟩
  ·show R.begun+((La.length:Nat):Int)+((Lb.length:Nat):Int)≤12
   rw[nw.begun]; omega
  ·show 0+(if k=0 then La else Lb).length+0≤6
   split<;>omega
  ·show eM hB (if k=0 then _ else _) (if k=0 then La else Lb)
   split
   ·exact (pa.keep yZ.nx yZ.lo fun c vs hc _=>yZ.get c hc).keep bJ.nx bJ.lo fun c vs hc _=>bJ.get c hc
   ·exact pb.keep bJ.nx bJ.lo fun c vs hc _=>bJ.get c hc
 refine ⟨fun l' h'=>∃D',nL h rt h6.nx (h6.nx+1) A a h' D'∧Kf (fun k=>iW (fun _ _=>0) (gE k (if k=0 then La else Lb))) D'∧Idle D',?_,?_⟩
 ·refine MY ro R8 (by omega) i0 (fun k hk=>rfl) hS hh hE0 ?_ _ rfl _ _ ?_
  ·show 4*La.length+4*Lb.length+0+0≤48
   omega
  ·intro l' h' D' s' e' id'
   exact ⟨D',s',e',id'⟩
 ·rintro l' h' ⟨D',s',e',id'⟩
  have hc:∀k,k<2→D'.R.cs[k]? = some none∧D'.C k=iW (fun _ _=>0) (gE k (if k=0 then La else Lb)):=fun k hk=>by
   have t:=s'.ts k hk
   rw[(id' k hk).1] at t
   obtain ⟨q1,_,q3,_⟩:=t.idle
   have:=e' k hk
   rw[q3,(id' k hk).2] at this
   have e0:gE k ([]:List cF)=[]:=rfl
   rw[e0] at this
   simp only[iW,List.append_nil] at this
   exact ⟨q1,this⟩
  exact Ke ro (by omega) (by omega) rH Cl s'.s (hc 0 (by decide)).1 (hc 1 (by decide)).1 s'.co s'.le s'.rc (hc 0 (by decide)).2 (hc 1 (by decide)).2 l' κ hk
end Go.Proofs
