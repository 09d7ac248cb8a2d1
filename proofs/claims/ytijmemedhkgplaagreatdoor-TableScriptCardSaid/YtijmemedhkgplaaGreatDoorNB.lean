/-
  PROVED HERE: a part of the proof (N5, N6, N7).
-/
import Derived.Test.YtijmemedhkgplaaGreatDoorNA
import Derived.Test.YtijmemedhkgplaaGreatDoorUC
import Derived.Test.YtijmemedhkgplaaGreatDoorRZ
set_option linter.unusedVariables false
set_option linter.unusedSimpArgs false
set_option maxRecDepth 100000
set_option maxHeartbeats 4000000
namespace Go.Proofs
open Go.Vai Go.Clashes
section
variable {a0 h:Heap} {tb bw bp bl:Nat} {c:fI} {vb:Value} {aG N:Nat} {Ts:List TB} {W:List IE} {wc:Nat} {F:List Int} {B:List Bool} {rt rp rl:Nat} {vr:Value} {R:List RB}
theorem bS.same (J:bS a0 h tb bw bp bl c vb aG N Ts W wc F B rt rp rl vr R) {k j:Nat} {b:TB} {r:RB} {e k0:HE} {d:Int} {p p0:R5} (hb:Ts[k]? = some b) (he:e∈b.M) (hf:bq e.Q d=some p) (hr:R[j]? = some r) (hk:k0∈r.K) (d_:bq k0.Q d=some p0):j=k∧k0.t=e.t∧k0.r=e.r∧k0.w=e.w∧k0.Q=e.Q∧p0=p:=by
 obtain ⟨b2,zP,l⟩:=J.atR hr
 obtain ⟨e2,td,h1,h2,h3,h4⟩:=l.each k0 hk
 rw[h4] at d_
 obtain ⟨rfl,rfl,rfl⟩:=J.st.Xe hb zP he td (c9 hf).1 (c9 d_).1 (by rw[(c9 d_).2,(c9 hf).2])
 rw[hf] at d_
 exact ⟨rfl,h1,h2,h3,h4,(Option.some.inj d_).symm⟩
theorem bS.none (J:bS a0 h tb bw bp bl c vb aG N Ts W wc F B rt rp rl vr R) {d:Int}:(∀b∈Ts,∀e∈b.M,bq e.Q d=none)↔∀r∈R,∀k∈r.K,bq k.Q d=none:=by
 constructor
 ·intro hn r hr k hk
  obtain ⟨j,hj⟩:=List.getElem?_of_mem hr
  obtain ⟨b,hb,l⟩:=J.atR hj
  obtain ⟨e2,td,h1,h2,h3,h4⟩:=l.each k hk
  rw[h4]; exact hn b (List.mem_of_getElem? hb) e2 td
 ·intro hn b hb e he
  obtain ⟨j,hj⟩:=List.getElem?_of_mem hb
  obtain ⟨r,hr,l⟩:=J.at hj
  obtain ⟨k,hk,h1,h2,h3,h4⟩:=l.yC (J.lk hj).is.ok he
  rw[←h4]; exact hn r (List.mem_of_getElem? hr) k hk
def s_ (h h':Heap):Prop:=h.nx≤h'.nx∧∀d vs,d<h.nx→h.bl.get d=some (af vs 35 false)→h'.bl.get d=some (af vs 35 false)
theorem s_.le {h h':Heap} (l:Le h h'):s_ h h':=⟨l.nx,fun d vs hd g=>(l.get d hd).trans g⟩
theorem lM {h0 h1 h2:Heap} {most rb:Nat} {v:Value} {K:List HE} {B2:List Bool} (GH:Le h0 h) (s:dW h tb bw bp bl c vb aG Ts W wc F B) (fT:uq Ts bw bp bl h h1) (R1:iz a0 h1 rb rp most v K) (p1:bT h1 rp rl B2) (f2:gH (SK rb rl v) h1 h2):s_ h0 h2:=by
 have n0:=GH.nx
 have n1:=fT.nx
 have n2:=f2.nx
 refine ⟨by omega,fun d vs hd g=>?_⟩
 have g0:=(GH.get d hd).trans g
 have g1:=(fT.keep s (by omega) g0 (by decide) (by decide) (by decide)).trans g0
 refine (f2.get d (by omega) ?_).trans g1
 rintro (rfl | rfl | hb)
 ·exact aL (by decide) (g1.symm.trans R1.cell)
 ·exact aL (by decide) (g1.symm.trans p1.iq)
 ·exact aL (by decide) (g1.symm.trans (R1.own.blk hb).2.2)
theorem RV (J:bS a0 h tb bw bp bl c vb aG N Ts W wc F B rt rp rl vr R) (hN:N≤1000) (hlo:h.lo≤h.nx) (a:Act) (κ:KQ)
  (hk:∀h' Ts' W' uu F' B' R',bS a0 h' tb bw bp bl c vb aG (N+1) Ts' W' uu F' B' rt rp rl vr R'→s_ h h'→κ (.bool true) h') :
  CallW Tryz.prog 29 [.pointer (some ⟨tb,0,none⟩),.pointer (some ⟨rt,0,none⟩),.agg ⟨dc a⟩] h κ:=by
 refine aq mixed ?_
 rw[Zx]
 simp(disch:=first|omega|simp only[Wd]<;>omega|with_unfolding_all rfl)only[Wz,dc]
 obtain ⟨hA,az⟩:∃hA:Heap,hA=⟨h.nx+1,(h.bl.bf (h.nx) (af [.int .i64 a.k,.int .i64 a.t,.int .i64 a.r,.int .i64 a.id,.int .i64 a.x,.int .i64 a.m] 35 false)),h.lo⟩:=⟨_,rfl⟩
 have aH:Le h hA:=by subst az; exact ((Le.refl h).new _)
 have ga:hA.bl.get (h.nx)=some (af [.int .i64 a.k,.int .i64 a.t,.int .i64 a.r,.int .i64 a.id,.int .i64 a.x,.int .i64 a.m] 35 false):=by subst az; exact T.aa _ _ _
 have dF:hA.nx=h.nx+1:=by subst az; rfl
 have dG:hA.lo=h.lo:=by subst az; rfl
 rw[←az]
 clear az
 have JA:=J.Cm aH
 clear J
 have s:=JA.st
 have hle:=JA.le.nx
 have hg:=JA.rg
 have lR:=fun (j:Nat) (r:RB) (hj:R[j]? = some r)=>JA.ids hj
 have RW:∀r∈R,∀k∈r.K,k.w≤100000:=fun r hr k hk=>by
  obtain ⟨j,hj⟩:=List.getElem?_of_mem hr
  have:=JA.wb hj k hk; omega
 have same:∀h',Le hA h'→κ (.bool true) h':=fun h' l=>hk h' Ts W wc F B R ((JA.Cm l).up (by omega)) (s_.le (aH.trans l))
 have hno:=JA.none (d:=a.id)
 have good:∀{k:Nat} {b:TB} {e:HE},Ts[k]? = some b→e∈b.M→iM e:=fun hb he=>(s.is.bk _ (List.mem_of_getElem? hb)).good _ he
 refine WX a.k 6 (by omega) ?_
 by_cases c2:qQ a.k 6=2
 ·simp(disch:=first|omega|simp only[Wd]<;>omega|with_unfolding_all rfl)only[Wz,c2,Ik,ga]
  refine E5 s (by omega) hN a.id a.m _ ?_ ?_ ?_ ?_
  ·intro h1 am l1
   have E6:=l1.nx
   have E7:=l1.lo
   have ga:=(l1.get _ (by omega)).trans ga
   simp(disch:=first|omega|simp only[Wd]<;>omega|with_unfolding_all rfl)only[Wz,ga]
   refine mC (JA.rt.le l1) hg (by omega) (by omega) RW a.id a.m _ ?_ ?_ ?_ ?_
   ·intro h2 _ l2
    simp(disch:=first|omega|simp only[Wd]<;>omega|with_unfolding_all rfl)only[Wz,yB,aM (show false=false from rfl),aM (show (2:Int)=2 from rfl)]
    exact same h2 (l1.trans l2)
   ·intro h2 mB; rw[am] at mB; cases mB
   ·intro h2 _ _ _ _ mB; rw[am] at mB; cases mB
   ·intro _ _ _ h2 _ _ _ _ mB; rw[am] at mB; cases mB
  ·intro am hn
   simp(disch:=first|omega|simp only[Wd]<;>omega|with_unfolding_all rfl)only[Wz,ga]
   refine mC JA.rt hg (by omega) (by omega) RW a.id a.m _ ?_ ?_ ?_ ?_
   ·intro h2 mB; rw[am] at mB; cases mB
   ·intro h2 _ _ l2
    simp(disch:=first|omega|simp only[Wd]<;>omega|with_unfolding_all rfl)only[Wz,yB,aM (show false=false from rfl),aM (show (5:Int)=5 from rfl)]
    exact same h2 l2
   ·intro h2 j r k p0 _ hr gI d_; rw[hno.1 hn r (List.mem_of_getElem? hr) k gI] at d_; cases d_
   ·intro j r _ h2 i k p0 _ _ hr hik _ d_; rw[hno.1 hn r (List.mem_of_getElem? hr) k (List.mem_of_getElem? hik)] at d_; cases d_
  ·intro k b h1 e p am hb he hf hps l1
   have E6:=l1.nx
   have E7:=l1.lo
   have ga:=(l1.get _ (by omega)).trans ga
   simp(disch:=first|omega|simp only[Wd]<;>omega|with_unfolding_all rfl)only[Wz,ga]
   refine mC (JA.rt.le l1) hg (by omega) (by omega) RW a.id a.m _ ?_ ?_ ?_ ?_
   ·intro h2 mB; rw[am] at mB; cases mB
   ·intro h2 _ hn _; rw[hno.2 hn b (List.mem_of_getElem? hb) e he] at hf; cases hf
   ·intro h2 j r k0 p0 _ hr gI d_ _ l2
    simp(disch:=first|omega|simp only[Wd]<;>omega|with_unfolding_all rfl)only[Wz,yB,aM (show false=false from rfl),aM (show (7:Int)=7 from rfl)]
    exact same h2 (l1.trans l2)
   ·intro j r _ h2 i k0 p0 _ _ hr hik _ d_ qC
    obtain ⟨_,_,_,_,_,rfl⟩:=JA.same hb he hf hr (List.mem_of_getElem? hik) d_
    exact absurd hps qC
  ·intro k b h1 M' clock' e p i am hb he hi hf hps mv st1
   have n1:=mv.fr.nx
   have l1:=mv.fr.lo
   have fT:=uq.Lb (bw:=bw) (List.mem_of_getElem? hb) mv.fr
   have ga:=(fT.keep s.is (by omega) ga (by decide) (by decide) (by decide)).trans ga
   have t1:=JA.rt.real s.is fT JA.ne
   simp(disch:=first|omega|simp only[Wd]<;>omega|with_unfolding_all rfl)only[Wz,ga]
   refine mC t1 hg (by omega) (by omega) RW a.id a.m _ ?_ ?_ ?_ ?_
   ·intro h2 mB; rw[am] at mB; cases mB
   ·intro h2 _ hn _; rw[hno.2 hn b (List.mem_of_getElem? hb) e he] at hf; cases hf
   ·intro h2 j r k0 p0 _ hr gI d_ qC _
    obtain ⟨_,_,_,_,_,rfl⟩:=JA.same hb he hf hr gI d_
    exact absurd qC hps
   ·intro j r q' h2 i2 k0 p0 jj _ hr hik hj d_ qC R2 p2 f2
    obtain ⟨rfl,kt,kr,kw,kQ,rfl⟩:=JA.same hb he hf hr (List.mem_of_getElem? hik) d_
    rw[kQ] at hj
    have hij:=OK (good hb he).vq hi hj rfl
    subst hij
    rw[kQ,kw] at R2 ⊢
    simp(disch:=first|omega|simp only[Wd]<;>omega|with_unfolding_all rfl)only[Wz,yB,aM (show (dB e.Q e.w p0 a.m).2.2=(dB e.Q e.w p0 a.m).2.2 from rfl),aM (show (0:Int)=0 from rfl)]
    refine hk h2 _ W wc F B _ (JA.step hb hr st1 fT R2 p2 f2 (jB.refl _ _) ?_) (lM aH s.is fT (t1.bk r (List.mem_of_getElem? hr)) t1.bM f2)
    exact (JA.like j b r hb hr).putAt (JA.lk hb) mv.set (KM (good hb he).vq (good hb he).stuck hi hps am) (set_nil hi) hik kt kr ⟨rfl,rfl,rfl,rfl⟩
 by_cases c3:qQ a.k 6=3
 ·simp(disch:=first|omega|simp only[Wd]<;>omega|with_unfolding_all rfl)only[Wz,c3,Ij,ga]
  refine O0 s (by omega) a.id _ ?_ ?_
  ·intro hn
   simp(disch:=first|omega|simp only[Wd]<;>omega|with_unfolding_all rfl)only[Wz,ga]
   refine Az JA.rt hg (by omega) (by omega) lR a.id _ ?_ ?_
   ·intro h2 _ l2
    simp(disch:=first|omega|simp only[Wd]<;>omega|with_unfolding_all rfl)only[Wz]
    refine qu [] _ _ h2 _ (Sl.nil _ _ _) (Sl.nil _ _ _) (by simp) ?_
    simp(disch:=first|omega|simp only[Wd]<;>omega|with_unfolding_all rfl)only[Wz,aM (show (5:Int)=5 from rfl)]
    exact same h2 l2
   ·intro j r _ _ _ h2 i k p0 _ hr hik d_; rw[hno.1 hn r (List.mem_of_getElem? hr) k (List.mem_of_getElem? hik)] at d_; cases d_
  ·intro k b h1 M' clock' F' vv e p n hb he hf hid oa _ mv oi st1
   have n1:=mv.fr.nx
   have l1:=mv.fr.lo
   have fT:=uq.Lb (bw:=bw) (List.mem_of_getElem? hb) mv.fr
   have ga:=(fT.keep s.is (by omega) ga (by decide) (by decide) (by decide)).trans ga
   have t1:=JA.rt.real s.is fT JA.ne
   simp(disch:=first|omega|simp only[Wd]<;>omega|with_unfolding_all rfl)only[Wz,ga]
   refine Az t1 hg (by omega) (by omega) lR a.id _ ?_ ?_
   ·intro h2 hn _; rw[hno.2 hn b (List.mem_of_getElem? hb) e he] at hf; cases hf
   ·intro j r vi v' K' h2 i k0 p0 n0 hr hik d_ ag8 hb0 en R2 p2 f2 nb o2
    obtain ⟨rfl,kt,kr,kw,kQ,rfl⟩:=JA.same hb he hf hr (List.mem_of_getElem? hik) d_
    obtain rfl:n0=n:=by omega
    rw[kQ] at en o2
    simp(disch:=first|omega|simp only[Wd]<;>omega|with_unfolding_all rfl)only[Wz]
    refine qu _ _ _ h2 _ (um (t1.bk r (List.mem_of_getElem? hr)) t1.bM oi f2).sl o2.sl ?_ ?_
    ·have:=nX (cF (e.Q.filter fun r=>!aV a.id r)+1) (e.Q.filter fun r=>!aV a.id r)
     have:=B3 (e.Q.filter fun r=>!aV a.id r)
     have:=(good hb he).small
     have:=List.length_filter_le (fun r=>!aV a.id r) e.Q
     omega
    simp(disch:=first|omega|simp only[Wd]<;>omega|with_unfolding_all rfl)only[Wz,aM (show (0:Int)=0 from rfl)]
    have hl:=(JA.like j b r hb hr).ended (JA.lk hb) mv.set hik kt kr kw rfl en
    exact hk h2 _ W wc F' _ _ (JA.step hb hr st1 fT R2 p2 f2 nb hl) (lM aH s.is fT (t1.bk r (List.mem_of_getElem? hr)) t1.bM f2)
 by_cases c4:qQ a.k 6=4
 ·simp(disch:=first|omega|simp only[Wd]<;>omega|with_unfolding_all rfl)only[Wz,c4,vL,Ii,ga]
  refine E4 s (by omega) a.id _ ?_ ?_ ?_ ?_
  ·intro hn
   simp(disch:=first|omega|simp only[Wd]<;>omega|with_unfolding_all rfl)only[Wz,ga]
   refine mD JA.rt hg (by omega) (by omega) lR a.id _ ?_ ?_ ?_ ?_
   ·intro h2 _ l2
    simp(disch:=first|omega|simp only[Wd]<;>omega|with_unfolding_all rfl)only[Wz]
    refine qu [] _ _ h2 _ (Sl.nil _ _ _) (Sl.nil _ _ _) (by simp) ?_
    simp(disch:=first|omega|simp only[Wd]<;>omega|with_unfolding_all rfl)only[Wz,aM (show (5:Int)=5 from rfl)]
    exact same h2 l2
   ·intro h2 j r k p0 hr gI d_; rw[hno.1 hn r (List.mem_of_getElem? hr) k gI] at d_; cases d_
   ·intro j r _ _ _ h2 i k p0 _ hr hik d_; rw[hno.1 hn r (List.mem_of_getElem? hr) k (List.mem_of_getElem? hik)] at d_; cases d_
   ·intro j r _ _ _ h2 i k p0 _ hr hik _ d_; rw[hno.1 hn r (List.mem_of_getElem? hr) k (List.mem_of_getElem? hik)] at d_; cases d_
  ·intro k b h1 e p hb he hf hps l1
   have E6:=l1.nx
   have E7:=l1.lo
   have ga:=(l1.get _ (by omega)).trans ga
   simp(disch:=first|omega|simp only[Wd]<;>omega|with_unfolding_all rfl)only[Wz,ga]
   refine mD (JA.rt.le l1) hg (by omega) (by omega) lR a.id _ ?_ ?_ ?_ ?_
   ·intro h2 hn _; rw[hno.2 hn b (List.mem_of_getElem? hb) e he] at hf; cases hf
   ·intro h2 j r k0 p0 hr gI d_ _ l2
    simp(disch:=first|omega|simp only[Wd]<;>omega|with_unfolding_all rfl)only[Wz]
    refine qu [] _ _ h2 _ (Sl.nil _ _ _) (Sl.nil _ _ _) (by simp) ?_
    simp(disch:=first|omega|simp only[Wd]<;>omega|with_unfolding_all rfl)only[Wz,aM (show (7:Int)=7 from rfl)]
    exact same h2 (l1.trans l2)
   ·intro j r _ _ _ h2 i k0 p0 _ hr hik d_ qC
    obtain ⟨_,_,_,_,_,rfl⟩:=JA.same hb he hf hr (List.mem_of_getElem? hik) d_
    exact absurd qC hps
   ·intro j r _ _ _ h2 i k0 p0 _ hr hik _ d_ qC
    obtain ⟨_,_,_,_,_,rfl⟩:=JA.same hb he hf hr (List.mem_of_getElem? hik) d_
    exact absurd qC hps
  ·intro k b h1 M' clock' F' vv e p n hb he hf hps yU hid oa mv oi st1
   have n1:=mv.fr.nx
   have l1:=mv.fr.lo
   have fT:=uq.Lb (bw:=bw) (List.mem_of_getElem? hb) mv.fr
   have ga:=(fT.keep s.is (by omega) ga (by decide) (by decide) (by decide)).trans ga
   have t1:=JA.rt.real s.is fT JA.ne
   simp(disch:=first|omega|simp only[Wd]<;>omega|with_unfolding_all rfl)only[Wz,ga]
   refine mD t1 hg (by omega) (by omega) lR a.id _ ?_ ?_ ?_ ?_
   ·intro h2 hn _; rw[hno.2 hn b (List.mem_of_getElem? hb) e he] at hf; cases hf
   ·intro h2 j r k0 p0 hr gI d_ qC
    obtain ⟨_,_,_,_,_,rfl⟩:=JA.same hb he hf hr gI d_
    exact absurd hps qC
   ·intro j r vi v' K' h2 i k0 p0 n0 hr hik d_ _ _ ag8 hb0 en R2 p2 f2 nb o2
    obtain ⟨rfl,kt,kr,kw,kQ,rfl⟩:=JA.same hb he hf hr (List.mem_of_getElem? hik) d_
    obtain rfl:n0=n:=by omega
    rw[kQ] at en o2
    simp(disch:=first|omega|simp only[Wd]<;>omega|with_unfolding_all rfl)only[Wz]
    refine qu _ _ _ h2 _ (um (t1.bk r (List.mem_of_getElem? hr)) t1.bM oi f2).sl o2.sl ?_ ?_
    ·have:=nX (cF (e.Q.filter fun r=>!aV a.id r)+1) (e.Q.filter fun r=>!aV a.id r)
     have:=B3 (e.Q.filter fun r=>!aV a.id r)
     have:=(good hb he).small
     have:=List.length_filter_le (fun r=>!aV a.id r) e.Q
     omega
    simp(disch:=first|omega|simp only[Wd]<;>omega|with_unfolding_all rfl)only[Wz,aM (show (0:Int)=0 from rfl)]
    have hl:=(JA.like j b r hb hr).ended (JA.lk hb) mv.set hik kt kr kw rfl en
    exact hk h2 _ W wc F' _ _ (JA.step hb hr st1 fT R2 p2 f2 nb hl) (lM aH s.is fT (t1.bk r (List.mem_of_getElem? hr)) t1.bM f2)
   ·intro j r _ _ _ h2 i k0 p0 _ hr hik _ d_ _ hm0
    obtain ⟨_,_,_,_,_,rfl⟩:=JA.same hb he hf hr (List.mem_of_getElem? hik) d_
    exact absurd yU hm0
  ·intro k b h1 M' clock' vv e p i hb he hi hf hps yU mv oi st1
   have n1:=mv.fr.nx
   have l1:=mv.fr.lo
   have fT:=uq.Lb (bw:=bw) (List.mem_of_getElem? hb) mv.fr
   have ga:=(fT.keep s.is (by omega) ga (by decide) (by decide) (by decide)).trans ga
   have t1:=JA.rt.real s.is fT JA.ne
   simp(disch:=first|omega|simp only[Wd]<;>omega|with_unfolding_all rfl)only[Wz,ga]
   refine mD t1 hg (by omega) (by omega) lR a.id _ ?_ ?_ ?_ ?_
   ·intro h2 hn _; rw[hno.2 hn b (List.mem_of_getElem? hb) e he] at hf; cases hf
   ·intro h2 j r k0 p0 hr gI d_ qC
    obtain ⟨_,_,_,_,_,rfl⟩:=JA.same hb he hf hr gI d_
    exact absurd hps qC
   ·intro j r _ _ _ h2 i k0 p0 _ hr hik d_ _ hm0
    obtain ⟨_,_,_,_,_,rfl⟩:=JA.same hb he hf hr (List.mem_of_getElem? hik) d_
    exact absurd hm0 yU
   ·intro j r vi v' K' h2 i2 k0 p0 jj hr hik hj d_ _ _ en R2 p2 f2 nb o2
    obtain ⟨rfl,kt,kr,kw,kQ,rfl⟩:=JA.same hb he hf hr (List.mem_of_getElem? hik) d_
    rw[kQ] at hj
    have hij:=OK (good hb he).vq hi hj rfl
    subst hij
    rw[kQ] at en o2
    simp(disch:=first|omega|simp only[Wd]<;>omega|with_unfolding_all rfl)only[Wz]
    refine qu _ _ _ h2 _ (um (t1.bk r (List.mem_of_getElem? hr)) t1.bM oi f2).sl o2.sl ?_ ?_
    ·have:=nX (cF (e.Q.set i (dZ p0))+1) (e.Q.set i (dZ p0))
     have:=B3 (e.Q.set i (dZ p0))
     have:=(good hb he).small
     have:(e.Q.set i (dZ p0)).length=e.Q.length:=List.length_set ..
     omega
    simp(disch:=first|omega|simp only[Wd]<;>omega|with_unfolding_all rfl)only[Wz,aM (show (0:Int)=0 from rfl)]
    have hl:=(JA.like j b r hb hr).ended (JA.lk hb) mv.set hik kt kr kw rfl en
    exact hk h2 _ W wc F B _ (JA.step hb hr st1 fT R2 p2 f2 nb hl) (lM aH s.is fT (t1.bk r (List.mem_of_getElem? hr)) t1.bM f2)
 by_cases c5:qQ a.k 6=5
 ·simp(disch:=first|omega|simp only[Wd]<;>omega|with_unfolding_all rfl)only[Wz,c5,vL,Ig,ga]
  refine Pa s (by omega) a.id a.x _ ?_ ?_ ?_ ?_
  ·intro hn
   simp(disch:=first|omega|simp only[Wd]<;>omega|with_unfolding_all rfl)only[Wz,ga]
   refine s8 JA.rt hg (by omega) (by omega) a.id a.x _ ?_ ?_ ?_ ?_
   ·intro h2 _ l2
    simp(disch:=first|omega|simp only[Wd]<;>omega|with_unfolding_all rfl)only[Wz,aM (show (5:Int)=5 from rfl)]
    exact same h2 l2
   ·intro h2 j r k p0 hr gI d_; rw[hno.1 hn r (List.mem_of_getElem? hr) k gI] at d_; cases d_
   ·intro h2 j r k p0 hr gI d_; rw[hno.1 hn r (List.mem_of_getElem? hr) k gI] at d_; cases d_
   ·intro j r _ h2 i k p0 _ hr hik _ d_; rw[hno.1 hn r (List.mem_of_getElem? hr) k (List.mem_of_getElem? hik)] at d_; cases d_
  ·intro k b h1 e p hb he hf hx l1
   have E6:=l1.nx
   have E7:=l1.lo
   have ga:=(l1.get _ (by omega)).trans ga
   simp(disch:=first|omega|simp only[Wd]<;>omega|with_unfolding_all rfl)only[Wz,ga]
   refine s8 (JA.rt.le l1) hg (by omega) (by omega) a.id a.x _ ?_ ?_ ?_ ?_
   ·intro h2 hn _; rw[hno.2 hn b (List.mem_of_getElem? hb) e he] at hf; cases hf
   ·intro h2 j r k0 p0 hr gI d_ _ l2
    simp(disch:=first|omega|simp only[Wd]<;>omega|with_unfolding_all rfl)only[Wz,aM (show (4:Int)=4 from rfl)]
    exact same h2 (l1.trans l2)
   ·intro h2 j r k0 p0 hr gI d_ hx0
    obtain ⟨_,_,_,_,kQ,rfl⟩:=JA.same hb he hf hr gI d_
    obtain ⟨o,ho,h3,h4⟩:=hx
    exact absurd h4 (hx0 o (by rw[kQ]; exact ho) h3)
   ·intro j r _ h2 i k0 p0 _ hr hik _ d_ hx0
    obtain ⟨_,_,_,_,kQ,rfl⟩:=JA.same hb he hf hr (List.mem_of_getElem? hik) d_
    obtain ⟨o,ho,h3,h4⟩:=hx
    exact absurd h4 (hx0 o (by rw[kQ]; exact ho) h3)
  ·intro k b h1 e p hb he hf hx hps l1
   have E6:=l1.nx
   have E7:=l1.lo
   have ga:=(l1.get _ (by omega)).trans ga
   simp(disch:=first|omega|simp only[Wd]<;>omega|with_unfolding_all rfl)only[Wz,ga]
   refine s8 (JA.rt.le l1) hg (by omega) (by omega) a.id a.x _ ?_ ?_ ?_ ?_
   ·intro h2 hn _; rw[hno.2 hn b (List.mem_of_getElem? hb) e he] at hf; cases hf
   ·intro h2 j r k0 p0 hr gI d_ hx0
    obtain ⟨_,_,_,_,kQ,rfl⟩:=JA.same hb he hf hr gI d_
    obtain ⟨o,ho,h3,h4⟩:=hx0
    exact absurd h4 (hx o (by rw[←kQ]; exact ho) h3)
   ·intro h2 j r k0 p0 hr gI d_ _ _ l2
    simp(disch:=first|omega|simp only[Wd]<;>omega|with_unfolding_all rfl)only[Wz,aM (show (7:Int)=7 from rfl)]
    exact same h2 (l1.trans l2)
   ·intro j r _ h2 i k0 p0 _ hr hik _ d_ _ qC
    obtain ⟨_,_,_,_,kQ,rfl⟩:=JA.same hb he hf hr (List.mem_of_getElem? hik) d_
    exact absurd hps qC
  ·intro k b h1 M' clock' e p i hb he hi hf hx hps mv st1
   have n1:=mv.fr.nx
   have l1:=mv.fr.lo
   have fT:=uq.Lb (bw:=bw) (List.mem_of_getElem? hb) mv.fr
   have ga:=(fT.keep s.is (by omega) ga (by decide) (by decide) (by decide)).trans ga
   have t1:=JA.rt.real s.is fT JA.ne
   simp(disch:=first|omega|simp only[Wd]<;>omega|with_unfolding_all rfl)only[Wz,ga]
   refine s8 t1 hg (by omega) (by omega) a.id a.x _ ?_ ?_ ?_ ?_
   ·intro h2 hn _; rw[hno.2 hn b (List.mem_of_getElem? hb) e he] at hf; cases hf
   ·intro h2 j r k0 p0 hr gI d_ hx0
    obtain ⟨_,_,_,_,kQ,rfl⟩:=JA.same hb he hf hr gI d_
    obtain ⟨o,ho,h3,h4⟩:=hx0
    exact absurd h4 (hx o (by rw[←kQ]; exact ho) h3)
   ·intro h2 j r k0 p0 hr gI d_ _ qC
    obtain ⟨_,_,_,_,kQ,rfl⟩:=JA.same hb he hf hr gI d_
    exact absurd qC hps
   ·intro j r q' h2 i2 k0 p0 jj hr hik hj d_ _ _ R2 p2 f2
    obtain ⟨rfl,kt,kr,kw,kQ,rfl⟩:=JA.same hb he hf hr (List.mem_of_getElem? hik) d_
    rw[kQ] at hj
    have hij:=OK (good hb he).vq hi hj rfl
    subst hij
    rw[kQ] at R2
    simp(disch:=first|omega|simp only[Wd]<;>omega|with_unfolding_all rfl)only[Wz,aM (show (0:Int)=0 from rfl)]
    refine hk h2 _ W wc F B _ (JA.step hb hr st1 fT R2 p2 f2 (jB.refl _ _) ?_) (lM aH s.is fT (t1.bk r (List.mem_of_getElem? hr)) t1.bM f2)
    exact (JA.like j b r hb hr).putAt (JA.lk hb) mv.set (Gw hi a.x (good hb he).stuck) (set_nil hi) hik kt kr ⟨rfl,rfl,kw,rfl⟩
 ·simp(disch:=first|omega|simp only[Wd]<;>omega|with_unfolding_all rfl)only[Wz,aK c2,aK c3,aK c4,aK c5,vL,Ih,ga]
  have WH:=jV s.is.bM.ok
  have zz:∀{k j:Nat} {b:TB},Ts[k]? = some b→dY a.t a.r c.S=(k:Int)→dY a.t a.r c.S=(j:Int)→j=k:=fun _ h1 h2=>by omega
  have hnm:∀{k:Nat} {b:TB} {r:RB},Ts[k]? = some b→R[k]? = some r→((∀e∈b.M,¬(a.t=e.t∧a.r=e.r))↔∀k∈r.K,¬(a.t=k.t∧a.r=k.r)):=fun hb hr=>(JA.like _ _ _ hb hr).names (JA.lk hb)
  have P3:∀{k:Nat} {b:TB} {r:RB},Ts[k]? = some b→R[k]? = some r→((∀e∈b.M,a.t=e.t→a.r=e.r→∀p∈e.Q,p.x≠a.x)↔∀k∈r.K,a.t=k.t→a.r=k.r→∀p∈k.Q,p.x≠a.x):=by
   intro k b r hb hr
   have l:=JA.like k b r hb hr
   constructor
   ·intro hx k gI h1 h2 p hp
    obtain ⟨e,he,q1,q2,q3,q4⟩:=l.each k gI
    exact hx e he (h1.trans q1) (h2.trans q2) p (by rw[←q4]; exact hp)
   ·intro hx e he h1 h2 p hp
    obtain ⟨k,gI,q1,q2,q3,q4⟩:=l.yC (JA.lk hb).is.ok he
    exact hx k gI (h1.trans q1.symm) (h2.trans q2.symm) p (by rw[q4]; exact hp)
  refine RO s (by omega) hN a.t a.r a.x a.m _ ?_ ?_ ?_ ?_ ?_
  ·intro h1 hneg l1
   have E6:=l1.nx
   have E7:=l1.lo
   have ga:=(l1.get _ (by omega)).trans ga
   simp(disch:=first|omega|simp only[Wd]<;>omega|with_unfolding_all rfl)only[Wz,ga]
   refine s9 (JA.rt.le l1) hg (by omega) (by omega) RW lR a.t a.r a.x a.m _ ?_ ?_ ?_ ?_ ?_ ?_
   ·intro h2 _ l2
    simp(disch:=first|omega|simp only[Wd]<;>omega|with_unfolding_all rfl)only[Wz,yB,aM (show false=false from rfl),aM (show (0:Int)=0 from rfl),aM (show (2:Int)=2 from rfl)]
    exact same h2 (l1.trans l2)
   ·intro h2 _ l2
    simp(disch:=first|omega|simp only[Wd]<;>omega|with_unfolding_all rfl)only[Wz,yB,aM (show false=false from rfl),aM (show (0:Int)=0 from rfl),aM (show (2:Int)=2 from rfl)]
    exact same h2 (l1.trans l2)
   ·intro h2 j r k p _ hj; omega
   ·intro h2 j r _ hj; omega
   ·intro j r n i k _ _ h2 _ hj; omega
   ·intro j r n i _ _ h2 _ hj; omega
  ·intro k b h1 hb hst am l1
   have E6:=l1.nx
   have E7:=l1.lo
   have ga:=(l1.get _ (by omega)).trans ga
   simp(disch:=first|omega|simp only[Wd]<;>omega|with_unfolding_all rfl)only[Wz,ga]
   refine s9 (JA.rt.le l1) hg (by omega) (by omega) RW lR a.t a.r a.x a.m _ ?_ ?_ ?_ ?_ ?_ ?_
   ·intro h2 hneg; omega
   ·intro h2 _ l2
    simp(disch:=first|omega|simp only[Wd]<;>omega|with_unfolding_all rfl)only[Wz,yB,aM (show false=false from rfl),aM (show (0:Int)=0 from rfl),aM (show (2:Int)=2 from rfl)]
    exact same h2 (l1.trans l2)
   ·intro h2 j r k p _ _ mB; rw[am] at mB; cases mB
   ·intro h2 j r _ _ mB; rw[am] at mB; cases mB
   ·intro j r n i k _ _ h2 _ _ mB; rw[am] at mB; cases mB
   ·intro j r n i _ _ h2 _ _ mB; rw[am] at mB; cases mB
  ·intro k b h1 e p hb hst am he ht hr hp hx l1
   have E6:=l1.nx
   have E7:=l1.lo
   have ga:=(l1.get _ (by omega)).trans ga
   simp(disch:=first|omega|simp only[Wd]<;>omega|with_unfolding_all rfl)only[Wz,ga]
   have bad:∀{r:RB},R[k]? = some r→¬∀k∈r.K,a.t=k.t→a.r=k.r→∀p∈k.Q,p.x≠a.x:=fun u6 hn=>(P3 hb u6).2 hn e he ht hr p hp hx
   refine s9 (JA.rt.le l1) hg (by omega) (by omega) RW lR a.t a.r a.x a.m _ ?_ ?_ ?_ ?_ ?_ ?_
   ·intro h2 hneg; omega
   ·intro h2 mB; rw[am] at mB; cases mB
   ·intro h2 j r _ _ _ _ _ _ _ _ _ _ l2
    simp(disch:=first|omega|simp only[Wd]<;>omega|with_unfolding_all rfl)only[Wz,yB,aM (show false=false from rfl),aM (show (0:Int)=0 from rfl),aM (show (4:Int)=4 from rfl)]
    exact same h2 (l1.trans l2)
   ·intro h2 j r u6 hj _ hn
    obtain rfl:=zz hb hst hj
    exact absurd hn (bad u6)
   ·intro j r _ _ _ _ _ h2 u6 hj _ hn
    obtain rfl:=zz hb hst hj
    exact absurd hn (bad u6)
   ·intro j r _ _ _ _ h2 u6 hj _ hn
    obtain rfl:=zz hb hst hj
    exact absurd ⟨ht,hr⟩ ((hnm hb u6).2 hn e he)
  ·intro k b h1 hb hst am hx hfull l1
   have E6:=l1.nx
   have E7:=l1.lo
   have ga:=(l1.get _ (by omega)).trans ga
   simp(disch:=first|omega|simp only[Wd]<;>omega|with_unfolding_all rfl)only[Wz,ga]
   refine s9 (JA.rt.le l1) hg (by omega) (by omega) RW lR a.t a.r a.x a.m _ ?_ ?_ ?_ ?_ ?_ ?_
   ·intro h2 hneg; omega
   ·intro h2 mB; rw[am] at mB; cases mB
   ·intro h2 j r k0 p u6 hj _ gI ht hr hp hpx
    obtain rfl:=zz hb hst hj
    exact absurd hpx ((P3 hb u6).1 hx k0 gI ht hr p hp)
   ·intro h2 j r _ _ _ _ _ l2
    simp(disch:=first|omega|simp only[Wd]<;>omega|with_unfolding_all rfl)only[Wz,yB,aM (show false=false from rfl),aM (show (0:Int)=0 from rfl),aM (show (8:Int)=8 from rfl)]
    exact same h2 (l1.trans l2)
   ·intro j r n i k0 _ _ h2 u6 hj _ _ oa _ hik ht hr
    exfalso
    obtain rfl:=zz hb hst hj
    rcases hfull with h0 | ⟨h0,_⟩
    ·have:=(s.is.bM.ok.mem n).2 oa
     rw[h0] at this; nomatch this
    ·exact (hnm hb u6).1 h0 k0 (List.mem_of_getElem? hik) ⟨ht.symm,hr.symm⟩
   ·intro j r n i _ _ h2 u6 hj _ aci hlt oa
    exfalso
    obtain rfl:=zz hb hst hj
    have:=(JA.like j b r hb u6).len
    rcases hfull with h0 | ⟨_,h0⟩
    ·have:=(s.is.bM.ok.mem n).2 oa
     rw[h0] at this; nomatch this
    ·omega
  ·intro k b M' clock' F' W' uu hX h0 h1 n g hb hst am hx is0 ak st1 fT
   have n1:=fT.nx
   have l1:=fT.lo
   have ga:=(fT.keep s.is (by omega) ga (by decide) (by decide) (by decide)).trans ga
   have t1:=JA.rt.real s.is fT JA.ne
   have hFp:=ak.free.length_eq
   rw[List.length_cons] at hFp
   have lk0:Ry hX b.bb b.bm bp bl aG b.M b.clock F B:=⟨is0,s.Au hb⟩
   simp(disch:=first|omega|simp only[Wd]<;>omega|with_unfolding_all rfl)only[Wz,ga]
   refine s9 t1 hg (by omega) (by omega) RW lR a.t a.r a.x a.m _ ?_ ?_ ?_ ?_ ?_ ?_
   ·intro h2 hneg; omega
   ·intro h2 mB; rw[am] at mB; cases mB
   ·intro h2 j r k0 p u6 hj _ gI ht hr hp hpx
    obtain rfl:=zz hb hst hj
    exact absurd hpx ((P3 hb u6).1 hx k0 gI ht hr p hp)
   ·intro h2 j r u6 hj _ _ hfull
    exfalso
    obtain rfl:=zz hb hst hj
    have:=(JA.like j b r hb u6).len
    rcases hfull with h0 | ⟨h0,h3⟩
    ·omega
    ·obtain ⟨Q,w,hold,_⟩:=ak.set
     rcases hold with ⟨e,he,q1,q2,_,_⟩ | ⟨_,q1,_,_⟩
     ·exact (hnm hb u6).2 h0 e he ⟨q1.symm,q2.symm⟩
     ·omega
   ·intro j r n2 i k0 q' v' h2 u6 hj _ _ oa rA hik ht hr R2 p2 f2 nb
    obtain rfl:=zz hb hst hj
    obtain rfl:=EM oa rA ak.old ak.least
    obtain ⟨eg,hl⟩:=(JA.like j b r hb u6).asked lk0 am ak hik ht hr
    subst eg
    simp(disch:=first|omega|simp only[Wd]<;>omega|with_unfolding_all rfl)only[Wz,yB,aM (show (n2:Int)=(n2:Int) from rfl),aM (show (cv k0.Q k0.w n2 a.x a.m).2.2=(cv k0.Q k0.w n2 a.x a.m).2.2 from rfl),aM (show (0:Int)=0 from rfl)]
    exact hk h2 _ W' uu F' _ _ (JA.step hb u6 st1 fT R2 p2 f2 nb (hl _ ⟨rfl,rfl,rfl,rfl⟩)) (lM aH s.is fT (t1.bk r (List.mem_of_getElem? u6)) t1.bM f2)
   ·intro j r n2 i q' v' h2 u6 hj _ aci hlt oa rA Fb zP R2 p2 f2 nb
    obtain rfl:=zz hb hst hj
    obtain rfl:=EM oa rA ak.old ak.least
    obtain ⟨eg,hl⟩:=(JA.like j b r hb u6).W3 lk0 am ak aci Fb zP
    subst eg
    simp(disch:=first|omega|simp only[Wd]<;>omega|with_unfolding_all rfl)only[Wz,yB,aM (show (n2:Int)=(n2:Int) from rfl),aM (show (cv [] 0 n2 a.x a.m).2.2=(cv [] 0 n2 a.x a.m).2.2 from rfl),aM (show (0:Int)=0 from rfl)]
    exact hk h2 _ W' uu F' _ _ (JA.step hb u6 st1 fT R2 p2 f2 nb (hl _ ⟨rfl,rfl,rfl,rfl⟩)) (lM aH s.is fT (t1.bk r (List.mem_of_getElem? u6)) t1.bM f2)
end
def Jq (Ts:List (List HE)) (s t r x id:Int) (b:Bool):Prop:=(dY t r s<0∧id=0∧b=false)∨∃(k:Nat) (M:List HE),Ts[k]? = some M∧dY t r s=(k:Int)∧yF M t r x id b
section
variable {a0 h:Heap} {tb bw bp bl:Nat} {c:fI} {vb:Value} {aG N:Nat} {Ts:List TB} {W:List IE} {wc:Nat} {F:List Int} {B:List Bool} {rt rp rl:Nat} {vr:Value} {R:List RB}
theorem RX (s:iW h tb bw bp bl c vb aG N Ts W wc F B) (hlo:h.lo≤h.nx) (d:Int) (κ:KQ)
  (hk:∀h' t r p b,Jj (Ts.flatMap (·.M)) d t r p b→Le h h'→κ (.tuple ⟨[dz t r,ji p,.bool b]⟩) h') :
  CallW Tryz.prog 27 [.pointer (some ⟨tb,0,none⟩),.int .i64 d] h κ:=by
 refine Xb s hlo d _ ?_ ?_
 ·intro h' hn l
  refine hk h' 0 0 _ false (.inr ⟨rfl,fun e he=>?_,rfl,rfl,rfl⟩) l
  obtain ⟨b,hb,he⟩:=List.mem_flatMap.1 he
  exact hn b hb e he
 ·intro h' b e p hb he hf l; exact hk h' _ _ p true (.inl ⟨rfl,e,List.mem_flatMap.2 ⟨b,hb,he⟩,hf,rfl,rfl⟩) l
theorem Ph (t:iZ a0 h rt rp rl c vr aG R B) (g:lK R) (hlo:h.lo≤h.nx) (d:Int) (κ:KQ)
  (hk:∀h' t r p b,Jj (R.flatMap (·.K)) d t r p b→Le h h'→κ (.tuple ⟨[dz t r,ji p,.bool b]⟩) h') :
  CallW Tryz.prog 35 [.pointer (some ⟨rt,0,none⟩),.int .i64 d] h κ:=by
 refine aq mixed ?_
 rw[ZH]
 simp(disch:=first|omega|simp only[Wd]<;>omega|with_unfolding_all rfl)only[Wz]
 obtain ⟨hA,az⟩:∃hA:Heap,hA=⟨h.nx+1+1,((h.bl.bf (h.nx) (af [.int .i64 0,.int .i64 0] 24 false)).bf (h.nx+1) (af [.int .i64 0,.int .i64 0,.int .i64 0,.int .i64 0,.int .i64 0] 54 false)),h.lo⟩:=⟨_,rfl⟩
 have aH:Le h hA:=by subst az; exact (((Le.refl h).new _).new _)
 have g1:hA.bl.get (h.nx)=some (af [.int .i64 0,.int .i64 0] 24 false):=by subst az; exact (T.aj _ _ (by omega)).trans (T.aa _ _ _)
 have g3:hA.bl.get (h.nx+1)=some (af [.int .i64 0,.int .i64 0,.int .i64 0,.int .i64 0,.int .i64 0] 54 false):=by subst az; exact T.aa _ _ _
 have dF:hA.nx=h.nx+1+1:=by subst az; rfl
 have dG:hA.lo=h.lo:=by subst az; rfl
 rw[←az]
 clear az
 refine yQ (t.le aH) g (by omega) d _ ?_ ?_
 ·intro h2 hno aZ
  have iU:=aZ.nx
  have iV:=aZ.lo
  have g1:=(aZ.get _ (by omega)).trans g1
  have g3:=(aZ.get _ (by omega)).trans g3
  simp(disch:=first|omega|simp only[Wd]<;>omega|with_unfolding_all rfl)only[Wz,pW,g1,g3]
  refine hk _ 0 0 ⟨0,0,0,0,0⟩ false (.inr ⟨rfl,fun e he=>?_,rfl,rfl,rfl⟩) (((aH.trans aZ).set (by omega) _).set (by omega) _)
  obtain ⟨r,hr,he⟩:=List.mem_flatMap.1 he
  exact hno r hr e he
 ·intro h2 j r k0 p0 hr dK d_ aZ
  have iU:=aZ.nx
  have iV:=aZ.lo
  have g1:=(aZ.get _ (by omega)).trans g1
  have g3:=(aZ.get _ (by omega)).trans g3
  have oq:=List.mem_of_getElem? hr
  have hl:=g.len r oq
  simp(disch:=first|omega|simp only[Wd]<;>omega|with_unfolding_all rfl)only[Wz,pX,Iq]
  refine Rx (((t.le aH).le aZ).bk r oq) (by omega) (by omega) (g.good r oq) d _ ?_ ?_
  ·intro h3 hn; rw[hn k0 dK] at d_; cases d_
  ·intro h3 k p fF hf cL
   have Oq:=cL.nx
   have Ot:=cL.lo
   have g1:=(cL.get _ (by omega)).trans g1
   have g3:=(cL.get _ (by omega)).trans g3
   simp(disch:=first|omega|simp only[Wd]<;>omega|with_unfolding_all rfl)only[Wz,dz,aW,g1,g3]
   exact hk _ _ _ p true (.inl ⟨rfl,k,List.mem_flatMap.2 ⟨r,oq,fF⟩,hf,rfl,rfl⟩) ((((aH.trans aZ).trans cL).set (by omega) _).set (by omega) _)
theorem bS.get (J:bS a0 h tb bw bp bl c vb aG N Ts W wc F B rt rp rl vr R) {d t r t' r':Int} {p p':R5} {b b':Bool} (g:Jj (Ts.flatMap (·.M)) d t r p b) (g':Jj (R.flatMap (·.K)) d t' r' p' b'):t'=t∧r'=r∧p'=p∧b'=b:=by
 have hno:=J.none (d:=d)
 rcases g with ⟨rfl,e,he,hf,rfl,rfl⟩ | ⟨rfl,hn,rfl,rfl,rfl⟩
 ·obtain ⟨b0,hb0,he⟩:=List.mem_flatMap.1 he
  obtain ⟨k,hk⟩:=List.getElem?_of_mem hb0
  rcases g' with ⟨rfl,k0,dK,hf',rfl,rfl⟩ | ⟨rfl,hn,_⟩
  ·obtain ⟨r0,TZ,dK⟩:=List.mem_flatMap.1 dK
   obtain ⟨j,hj⟩:=List.getElem?_of_mem TZ
   obtain ⟨_,h1,h2,_,_,h3⟩:=J.same hk he hf hj dK hf'
   exact ⟨h1,h2,h3,rfl⟩
  ·rw[hno.2 (fun r hr k hk=>hn k (List.mem_flatMap.2 ⟨r,hr,hk⟩)) b0 hb0 e he] at hf; cases hf
 ·rcases g' with ⟨rfl,k0,dK,hf',rfl,rfl⟩ | ⟨rfl,_,rfl,rfl,rfl⟩
  ·obtain ⟨r0,TZ,dK⟩:=List.mem_flatMap.1 dK
   rw[hno.1 (fun b hb e he=>hn e (List.mem_flatMap.2 ⟨b,hb,he⟩)) r0 TZ k0 dK] at hf'; cases hf'
  ·exact ⟨rfl,rfl,rfl,rfl⟩
theorem Pj (s:iW h tb bw bp bl c vb aG N Ts W wc F B) (hlo:h.lo≤h.nx) (t r x:Int) (κ:KQ)
  (hk:∀h' id b,Jq (Ts.map (·.M)) c.S t r x id b→Le h h'→κ (.tuple ⟨[.int .i64 id,.bool b]⟩) h') :
  CallW Tryz.prog 36 [.pointer (some ⟨tb,0,none⟩),dz t r,.int .i64 x] h κ:=by
 refine aq mixed ?_
 rw[ZI]
 simp(disch:=first|omega|simp only[Wd]<;>omega|with_unfolding_all rfl)only[Wz,dz]
 obtain ⟨hA,az⟩:∃hA:Heap,hA=⟨h.nx+1,(h.bl.bf (h.nx) (af [.int .i64 t,.int .i64 r] 24 false)),h.lo⟩:=⟨_,rfl⟩
 have aH:Le h hA:=by subst az; exact ((Le.refl h).new _)
 have g1:hA.bl.get (h.nx)=some (af [.int .i64 t,.int .i64 r] 24 false):=by subst az; exact T.aa _ _ _
 have dF:hA.nx=h.nx+1:=by subst az; rfl
 have dG:hA.lo=h.lo:=by subst az; rfl
 rw[←az]
 clear az
 refine ur (s.le aH).is (by omega) t r _ ?_
 intro h2 aZ
 have iU:=aZ.nx
 have iV:=aZ.lo
 have g1:=(aZ.get _ (by omega)).trans g1
 have fM:=aH.trans aZ
 have s2:=s.le fM
 by_cases hneg:dY t r c.S<0
 ·simp(disch:=first|omega|simp only[Wd]<;>omega|with_unfolding_all rfl)only[Wz,aM hneg]
  exact hk h2 0 false (.inl ⟨hneg,rfl,rfl⟩) fM
 obtain ⟨k,b,hst,hb⟩:=ab5 s.is hneg
 have gt:=s2.is.lH
 obtain ⟨cc,oo,_,Fh,dg⟩:=OY s2.is.sl k hb
 have dg:=dg h2 (Le.refl _)
 rw[hst]
 simp(disch:=first|omega|simp only[Wd]<;>omega|with_unfolding_all rfl)only[Wz,bL (show (0:Int)≤(k:Int) by omega),Ir,aU,gt,Fh,dg,g1]
 refine RE (s2.is.bk b (List.mem_of_getElem? hb)) (by omega) t r x _ ?_
 intro h3 id bb fi cL
 simp(disch:=first|omega|simp only[Wd]<;>omega|with_unfolding_all rfl)only[Wz]
 exact hk h3 id bb (.inr ⟨k,b.M,by rw[List.getElem?_map,hb]; rfl,hst,fi⟩) (fM.trans cL)
theorem Lq (t':iZ a0 h rt rp rl c vr aG R B) (g:lK R) (hlo:h.lo≤h.nx) (t r x:Int) (κ:KQ)
  (hk:∀h' id b,Jq (R.map (·.K)) c.S t r x id b→Le h h'→κ (.tuple ⟨[.int .i64 id,.bool b]⟩) h') :
  CallW Tryz.prog 37 [.pointer (some ⟨rt,0,none⟩),dz t r,.int .i64 x] h κ:=by
 refine aq mixed ?_
 rw[ZJ]
 simp(disch:=first|omega|simp only[Wd]<;>omega|with_unfolding_all rfl)only[Wz,dz]
 obtain ⟨hA,az⟩:∃hA:Heap,hA=⟨h.nx+1,(h.bl.bf (h.nx) (af [.int .i64 t,.int .i64 r] 24 false)),h.lo⟩:=⟨_,rfl⟩
 have aH:Le h hA:=by subst az; exact ((Le.refl h).new _)
 have g1:hA.bl.get (h.nx)=some (af [.int .i64 t,.int .i64 r] 24 false):=by subst az; exact T.aa _ _ _
 have dF:hA.nx=h.nx+1:=by subst az; rfl
 have dG:hA.lo=h.lo:=by subst az; rfl
 rw[←az]
 clear az
 refine rI (t'.le aH) (by omega) t r _ ?_
 intro h2 aZ
 have iU:=aZ.nx
 have iV:=aZ.lo
 have g1:=(aZ.get _ (by omega)).trans g1
 have fM:=aH.trans aZ
 have t2:=t'.le fM
 by_cases hneg:dY t r c.S<0
 ·simp(disch:=first|omega|simp only[Wd]<;>omega|with_unfolding_all rfl)only[Wz,aM hneg]
  exact hk h2 0 false (.inl ⟨hneg,rfl,rfl⟩) fM
 obtain ⟨k,b,hst,hb⟩:=acg t' hneg
 have KJ:=List.mem_of_getElem? hb
 have hl:=g.len b KJ
 have gt:=t2.cell
 obtain ⟨cc,oo,_,Fh,dg⟩:=Pb t2.sl k hb
 have dg:=dg h2 (Le.refl _)
 rw[hst]
 simp(disch:=first|omega|simp only[Wd]<;>omega|with_unfolding_all rfl)only[Wz,bL (show (0:Int)≤(k:Int) by omega),Is,aU,gt,Fh,dg,g1]
 refine OP (t2.bk b KJ) (by omega) (by omega) (g.good b KJ) (g.qB b KJ) t r x _ ?_
 intro h3 id bb fi cL
 simp(disch:=first|omega|simp only[Wd]<;>omega|with_unfolding_all rfl)only[Wz]
 exact hk h3 id bb (.inr ⟨k,b.K,by rw[List.getElem?_map,hb]; rfl,hst,fi⟩) (fM.trans cL)
theorem bS.find (J:bS a0 h tb bw bp bl c vb aG N Ts W wc F B rt rp rl vr R) {t r x id id':Int} {b b':Bool} (g:Jq (Ts.map (·.M)) c.S t r x id b) (g':Jq (R.map (·.K)) c.S t r x id' b'):id'=id∧b'=b:=by
 rcases g with ⟨h1,rfl,rfl⟩ | ⟨k,M,hM,h1,fi⟩
 ·rcases g' with ⟨_,rfl,rfl⟩ | ⟨j,K,hK,h2,_⟩
  ·exact ⟨rfl,rfl⟩
  ·omega
 ·rcases g' with ⟨h2,_,_⟩ | ⟨j,K,hK,h2,fi'⟩
  ·omega
  ·obtain rfl:j=k:=by omega
   rw[List.getElem?_map] at hM hK
   cases hb:Ts[j]? with
   | none=>rw[hb] at hM; cases hM
   | some b0=>
    cases hr:R[j]? with
    | none=>rw[hr] at hK; cases hK
    | some r0=>
     rw[hb] at hM; rw[hr] at hK
     cases hM; cases hK
     exact (J.like j b0 r0 hb hr).find (J.lk hb) fi fi'
def yR (R:List RB):Nat:=(R.map fun r=>r.K.length).sum
theorem Lr {R:List RB} {i:Nat} {r:RB} (h:R[i]? = some r):yR (R.take (i+1))=yR (R.take i)+r.K.length:=by
 unfold yR
 rw[List.take_add_one,h]
 simp
theorem RY (R:List RB) (hl:∀r∈R,r.K.length≤64):yR R≤64*R.length:=by
 unfold yR
 induction R with
 | nil=>simp
 | cons r R ih=>
  have h1:=ih fun x hx=>hl x (.tail _ hx)
  have h2:=hl r (.head _)
  simp only[List.map_cons,List.sum_cons,List.length_cons]
  omega
theorem GK (t:iZ a0 h rt rp rl c vr aG R B) (g:lK R) (hlo:h.lo≤h.nx) (κ:KQ) (hk:∀h',Le h h'→κ (.tuple ⟨[.int .i64 (yR R:Nat),.int .i64 ((eW B).length:Int)]⟩) h') :
  CallW Tryz.prog 38 [.pointer (some ⟨rt,0,none⟩)] h κ:=by
 refine aq mixed ?_
 rw[ZK]
 have gt:=t.cell
 have hs1:=t.s1
 have hlen:∀(β:Type) (fl:β) (h':Heap) (κ:Value→Heap→β),bh fl vr h' κ=κ (.int .i64 (R.length:Int)) h':=fun β fl h' κ=>t.sl.len κ h'
 have hbd:∀i,yR (R.take i)≤1024:=by
  intro i
  have:=RY (R.take i) fun r hr=>g.len r (List.mem_of_mem_take hr)
  have h2:(R.take i).length≤R.length:=by rw[List.length_take]; omega
  omega
 refine ⟨fun n l h1=>∃i:Nat,slot l 20=.int .i64 (i:Int)∧slot l 17=.int .i64 (yR (R.take i):Nat)∧n=R.length-i∧i≤R.length∧HQ h h1,⟨_,0,rfl,rfl,rfl,by omega,rfl⟩,?_⟩
 rintro n l h1 ⟨i,s1,s2,rfl,hi,hq⟩
 cases (show h=h1 from hq)
 by_cases hlt:i<R.length
 ·obtain ⟨r,hr⟩:∃r,R[i]? = some r:=⟨_,List.getElem?_eq_getElem hlt⟩
  have oq:=List.mem_of_getElem? hr
  obtain ⟨cc,oo,_,Fh,dg⟩:=Pb t.sl i hr
  have dg:=dg h (Le.refl _)
  have hst:=Lr hr
  have hbi:=hbd i
  have hrl:=g.len r oq
  simp(disch:=first|omega|simp only[Wd]<;>omega|with_unfolding_all rfl)only[Wz,Bw,aU,gt,hlen,s1,s2,bZ (show (i:Int)<(R.length:Int) by omega),Iu,Fh,dg]
  refine Rw (t.bk r oq) _ ?_
  simp(disch:=first|omega|simp only[Wd]<;>omega|with_unfolding_all rfl)only[Wz,s1]
  refine ⟨_,by omega,i+1,rfl,?_,rfl,by omega,rfl⟩
  rw[hst]; rfl
 ·have hil:i=R.length:=by omega
  subst hil
  rw[List.take_length] at s2
  simp(disch:=first|omega|simp only[Wd]<;>omega|with_unfolding_all rfl)only[Wz,Bw,aU,gt,hlen,s1,s2,bL (show (R.length:Int)≤(R.length:Int) by omega)]
  refine B1 t.bM hlo _ ?_
  exact hk
theorem bS.ag9 (J:bS a0 h tb bw bp bl c vb aG N Ts W wc F B rt rp rl vr R):yR R=yO Ts:=by
 unfold yR yO
 congr 1
 refine List.ext_getElem? fun i=>?_
 rw[List.getElem?_map,List.getElem?_map]
 cases hb:Ts[i]? with
 | none=>
  have:R[i]? = Option.none:=by
   have:=J.len
   rw[List.getElem?_eq_none_iff] at hb ⊢
   omega
  rw[this]; rfl
 | some b=>
  obtain ⟨r,hr,l⟩:=J.at hb
  rw[hr]
  exact congrArg some l.len
end
theorem GL {O:List HE} {x:HE} {n:Nat} (hs:(O.map a_).Pairwise fH) (h1:∀(j:Nat) (e:HE),j<n→O[j]? = some e→fH (a_ e) (a_ x)) (h2:∀e,O[n]? = some e→fH (a_ x) (a_ e)):((O.take n++x::O.drop n).map a_).Pairwise fH:=by
 have hall:∀(j:Nat) (e:HE),n≤j→O[j]? = some e→fH (a_ x) (a_ e):=by
  intro j e hj he
  have hil:n<O.length:=by have:=(List.getElem?_eq_some_iff.1 he).1; omega
  obtain ⟨e0,Je⟩:∃e0,O[n]? = some e0:=⟨_,List.getElem?_eq_getElem hil⟩
  by_cases e1:n=j
  ·subst e1; exact h2 e he
  ·have G:=cr.1 hs
   exact jy (h2 e0 Je) (G n j _ _ (by omega) (by rw[List.getElem?_map,Je]; rfl) (by rw[List.getElem?_map,he]; rfl))
 have hs':=hs
 rw[←List.take_append_drop n O,List.map_append,List.pairwise_append] at hs'
 obtain ⟨s1,s2,s3⟩:=hs'
 have up:∀b∈(O.drop n).map a_,fH (a_ x) b:=by
  intro b hb
  obtain ⟨a,ha,rfl⟩:=List.mem_map.1 hb
  obtain ⟨j,hj⟩:=List.getElem?_of_mem ha
  rw[List.getElem?_drop] at hj
  exact hall (n+j) a (by omega) hj
 rw[List.map_append,List.map_cons,List.pairwise_append,List.pairwise_cons]
 refine ⟨s1,⟨up,s2⟩,fun a ha b hb=>?_⟩
 obtain ⟨a',ha',rfl⟩:=List.mem_map.1 ha
 obtain ⟨j,hj⟩:=List.getElem?_of_mem ha'
 rw[List.getElem?_take] at hj
 split at hj
 ·rename_i hji
  have h3:=h1 j a' hji hj
  rcases List.mem_cons.1 hb with rfl | hb
  ·exact h3
  ·exact jy h3 (up b hb)
 ·cases hj
theorem Pk {O:List HE} {x:HE} {n:Nat}:((O.take n++x::O.drop n).map dX).Perm (O.map dX++[dX x]):=by
 rw[List.map_append,List.map_cons]
 refine List.perm_middle.trans ?_
 rw[←List.map_append,List.take_append_drop]
 exact (List.perm_append_singleton _ _).symm
section
variable {a0 h:Heap} {c:fI} {aG:Nat} {B:List Bool} {rt rp rl:Nat} {vr:Value} {R:List RB}
theorem Pm (t:iZ a0 h rt rp rl c vr aG R B) (g:lK R) (hlo:h.lo≤h.nx) (dj:(R.flatMap fun r=>r.K.map a_).Nodup) (κ:KQ)
  (hk:∀v h' O,(O.map dX).Perm (R.flatMap fun r=>r.K.map dX)→(O.map a_).Pairwise fH→(∀k∈O,QV h' k.q k.Q)→rG h h' v O→Le h h'→κ v h') :
  CallW Tryz.prog 30 [.pointer (some ⟨rt,0,none⟩)] h κ:=by
 refine aq mixed ?_
 rw[ZA]
 have hs1:=t.s1
 refine ⟨fun n l h1=>∃(i:Nat) (O:List HE),slot l 65=.int .i64 (i:Int)∧n=R.length-i∧i≤R.length∧(O.map dX).Perm ((R.take i).flatMap fun r=>r.K.map dX)∧(O.map a_).Pairwise fH∧(∀k∈O,QV h1 k.q k.Q)∧O.length≤64*i∧rG h h1 (slot l 59) O∧vw O (slot l 59)∧Le h h1,
  ⟨_,0,[],rfl,rfl,by omega,by simp,List.Pairwise.nil,fun k hk=>(nomatch hk),by simp,.inl ⟨rfl,.inl rfl⟩,fun _=>.inl rfl,Le.refl _⟩,?_⟩
 rintro n l h1 ⟨i,O,s1,rfl,hi,hp,hsO,hQ,hOl,ho,em,bu⟩
 have n1:=bu.nx
 have l1:=bu.lo
 have t1:=t.le bu
 have c1:=t1.cell
 have hlen:∀(β:Type) (fl:β) (h':Heap) (κ:Value→Heap→β),bh fl vr h' κ=κ (.int .i64 (R.length:Int)) h':=fun β fl h' κ=>t1.sl.len κ h'
 by_cases hlt:i<R.length
 case neg=>
  have hil:i=R.length:=by omega
  subst hil
  rw[List.take_length] at hp
  simp(disch:=first|omega|simp only[Wd]<;>omega|with_unfolding_all rfl)only[Wz,Bq,aU,c1,hlen,s1,bL (show (R.length:Int)≤(R.length:Int) by omega)]
  exact hk _ h1 O hp hsO hQ ho bu
 obtain ⟨r,hr⟩:∃r,R[i]? = some r:=⟨_,List.getElem?_eq_getElem hlt⟩
 have oq:=List.mem_of_getElem? hr
 obtain ⟨bb,oo,SD,dM,dg⟩:=Pb t.sl i hr
 have L1:=dg h1 bu
 have hrl:=g.len r oq
 simp(disch:=first|omega|simp only[Wd]<;>omega|with_unfolding_all rfl)only[Wz,Bq,aU,c1,hlen,s1,bZ (show (i:Int)<(R.length:Int) by omega),Il,dM,L1]
 refine OO (t1.bk r oq) (by omega) (by omega) (fun k hk'=>by have:=(g.good r oq k hk').small; omega) _ ?_
 intro v2 h2 K2 S6 hQ2 jv aZ
 have n2:=aZ.nx
 have l2:=aZ.lo
 have amh:K2.length=r.K.length:=by have:=congrArg List.length S6; simpa using this
 have NN:∀(β:Type) (fl:β) (h':Heap) (κ:Value→Heap→β),bh fl v2 h' κ=κ (.int .i64 (K2.length:Int)) h':=fun β fl h' κ=>jv.sl.len κ h'
 refine ⟨fun m l3 h3=>∃(k:Nat) (P:List HE),slot l3 46=.int .i64 (k:Int)∧m=K2.length-k∧k≤K2.length∧(P.map dX).Perm (((R.take i).flatMap fun r=>r.K.map dX)++(K2.take k).map dX)∧(P.map a_).Pairwise fH∧(∀k∈P,QV h3 k.q k.Q)∧P.length≤64*i+k∧rG h h3 (slot l3 43) P∧vw P (slot l3 43)∧Le h2 h3,
  ⟨_,0,O,rfl,rfl,by omega,by simpa using hp,hsO,fun k hk'=>(hQ k hk').le aZ,by omega,ho.le aZ,em,Le.refl _⟩,?_⟩
 rintro m l3 h3 ⟨k,P,s3,rfl,hki,hpP,hsP,hQP,hPl,hoP,emP,cL⟩
 have n3:=cL.nx
 have l3':=cL.lo
 by_cases PB:k<K2.length
 case neg=>
  have gI:k=K2.length:=by omega
  subst gI
  rw[List.take_length,S6] at hpP
  simp(disch:=first|omega|simp only[Wd]<;>omega|with_unfolding_all rfl)only[Wz,Bp,NN,s3,s1,bL (show (K2.length:Int)≤(K2.length:Int) by omega)]
  refine ⟨_,by omega,i+1,P,rfl,rfl,by omega,?_,hsP,hQP,by omega,hoP,emP,(bu.trans aZ).trans cL⟩
  rw[kN _ hr]
  exact hpP
 obtain ⟨x,hx⟩:∃x,K2[k]? = some x:=⟨_,List.getElem?_eq_getElem PB⟩
 have hxK:=List.mem_of_getElem? hx
 have qx:=hQ2 x hxK
 obtain ⟨bx,ox,hbx,acj,ack⟩:=KX jv.sl k hx (nV qx.1)
 have amj:P.length≤1100:=by omega
 simp(disch:=first|omega|simp only[Wd]<;>omega|with_unfolding_all rfl)only[Wz,Bp,NN,s3,bZ (show (k:Int)<(K2.length:Int) by omega)]
 refine ⟨fun mm l4 h4=>∃q:Nat,slot l4 20=.int .i64 (q:Int)∧mm=P.length-q∧q≤P.length∧(∀(j:Nat) (e:HE),j<q→P[j]? = some e→fH (a_ e) (a_ x))∧Le h3 h4,⟨_,0,rfl,rfl,by omega,fun j e hj=>(by omega),Le.refl _⟩,?_⟩
 rintro mm l4 h4 ⟨q,s4,rfl,hq,hall,gK⟩
 have n4:=gK.nx
 have l4':=gK.lo
 have acm:=cL.trans gK
 have oP4:=hoP.le gK
 have TC:∀(β:Type) (fl:β) (h':Heap) (κ:Value→Heap→β),bh fl (slot l3 43) h' κ=κ (.int .i64 (P.length:Int)) h':=fun β fl h' κ=>oP4.sl.len κ h'
 have Lx:=ack h4 acm
 have done:(∀e,P[q]? = some e→fH (a_ x) (a_ e))→∀(h5:Heap),Le h4 h5→∀(xx:List Value→Heap→Prop) (bG v16 v19 v20 v21 v22 v23 v25 v27 gN v31 v33 v35 v37 v39 v41 j7 v45 j0 mN:Value),
   (∀l h',slot l 46=.int .i64 ((k+1:Nat):Int)→(∃P',(P'.map dX).Perm (((R.take i).flatMap fun r=>r.K.map dX)++(K2.take (k+1)).map dX)∧(P'.map a_).Pairwise fH∧(∀k∈P',QV h' k.q k.Q)∧P'.length≤64*i+(k+1)∧rG h h' (slot l 43) P'∧vw P' (slot l 43)∧Le h2 h')→xx l h')→
   Bn l3 l4 v2 xx bG v16 v19 v20 v21 v22 v23 v25 v27 gN v31 v33 v35 v37 v39 v41 j7 v45 j0 mN h5:=by
  intro Xg h5 iY xx bG v16 v19 v20 v21 v22 v23 v25 v27 gN v31 v33 v35 v37 v39 v41 j7 v45 j0 mN hN
  have n5:=iY.nx
  have l5:=iY.lo
  have aha:=acm.trans iY
  have acn:=gK.trans iY
  obtain ⟨vP,eP⟩:∃vP,slot l3 43=vP:=⟨_,rfl⟩
  rw[eP] at hoP emP
  obtain ⟨xq,xc,exq,_⟩:=(show Sl aW h2 x.q x.Q from qx.1)
  simp(disch:=first|omega|simp only[Wd]<;>omega|with_unfolding_all rfl)only[Wz,Bn,qs,eP,s4]
  obtain ⟨hA,az⟩:∃hA:Heap,hA=⟨h5.nx+1,(h5.bl.bf (h5.nx) (af [] 51 false)),h5.lo⟩:=⟨_,rfl⟩
  have aH:Le h5 hA:=by subst az; exact ((Le.refl h5).new _)
  have ge:hA.bl.get (h5.nx)=some (af [] 51 false):=by subst az; exact T.aa _ _ _
  have dF:hA.nx=h5.nx+1:=by subst az; rfl
  have dG:hA.lo=h5.lo:=by subst az; rfl
  rw[←az]
  clear az
  have oPA:=(hoP.le acn).le aH
  rw[qt b6 (by decide) oPA emP q (by omega)]
  have hf:=sN b6 oPA q (by omega)
  refine fN (enc:=eX) (a:=hA) (L:=[]) (M:=P.take q) b6 gW (by decide) (by decide) (.inl ⟨rfl,.inr ⟨_,_,rfl⟩⟩) (fun _=>.inr ⟨_,_,rfl⟩) hf (Le.refl _) (by simp; omega) (by omega) _ ?_
  intro v6 h6 tY W0 oz _
  rw[List.nil_append] at tY W0
  have n6:=oz.nx
  have l6:=oz.lo
  have L6:=ack h6 ((aha.trans aH).trans oz)
  simp only[exq] at L6
  simp(disch:=first|omega|simp only[Wd]<;>omega|with_unfolding_all rfl)only[Wz,s3,acj,L6]
  obtain ⟨hB,bF⟩:∃hB:Heap,hB=⟨h6.nx+1,(h6.bl.bf (h6.nx) (af [.int .i64 x.t,.int .i64 x.r,.slice xq x.Q.length xc,.int .i64 x.w] 51 false)),h6.lo⟩:=⟨_,rfl⟩
  have bD:Le h6 hB:=by subst bF; exact ((Le.refl h6).new _)
  have gB:hB.bl.get (h6.nx)=some (af [.int .i64 x.t,.int .i64 x.r,.slice xq x.Q.length xc,.int .i64 x.w] 51 false):=by subst bF; exact T.aa _ _ _
  have pE:hB.nx=h6.nx+1:=by subst bF; rfl
  have pF:hB.lo=h6.lo:=by subst bF; rfl
  rw[←bF]
  clear bF
  have hone:Sl eX hB (.slice (some ⟨h6.nx,0,none⟩) 1 1) [x]:=Sl.new (L:=[x]) (e:=51) (op:=false) (by omega) (by
   show _=some (af (eX x++[]) 51 false)
   rw[gB]; unfold eX; rw[exq]; rfl) _
  refine fN (enc:=eX) (a:=hA) (L:=P.take q) (M:=[x]) b6 gW (by decide) (by decide) (tY.le bD) W0 hone (oz.trans bD) (by simp; omega) (by omega) _ ?_
  intro v7 h7 Fj em7 uR _
  have n7:=uR.nx
  have l7:=uR.lo
  obtain ⟨u,hu,eu⟩:=(oPA.le uR).tail b6 (by decide) q (by omega)
  simp(disch:=first|omega|simp only[Wd]<;>omega|with_unfolding_all rfl)only[Wz,s3,eu]
  refine fN (enc:=eX) (a:=hA) (L:=P.take q++[x]) (M:=P.drop q) b6 gW (by decide) (by decide) Fj em7 hu uR (by simp; omega) (by omega) _ ?_
  intro v8 h8 PK Tw Fl _
  have n8:=Fl.nx
  have l8:=Fl.lo
  have Gs:=(acn.trans aH).trans Fl
  have eL:P.take q++[x]++P.drop q=P.take q++x::P.drop q:=by simp
  rw[eL] at PK Tw
  refine hN _ _ rfl ⟨P.take q++x::P.drop q,?_,GL hsP hall Xg,?_,?_,cU.base PK (by omega),Tw,cL.trans Gs⟩
  ·refine Pk.trans ?_
   refine (hpP.append_right _).trans ?_
   rw[List.append_assoc]
   rw[List.take_add_one,hx,List.map_append]
   exact List.Perm.refl _
  ·intro e he
   rcases List.mem_append.1 he with he | he
   ·exact (hQP e (List.mem_of_mem_take he)).le Gs
   ·rcases List.mem_cons.1 he with rfl | he
    ·exact qx.le (cL.trans Gs)
    ·exact (hQP e (List.mem_of_mem_drop he)).le Gs
  ·simp; omega
 by_cases hql:q<P.length
 case neg=>
  simp(disch:=first|omega|simp only[Wd]<;>omega|with_unfolding_all rfl)only[Wz,Bo,s4,TC,bL (show (P.length:Int)≤(q:Int) by omega)]
  refine done (fun e he=>?_) h4 (Le.refl _) _ _ _ _ _ _ _ _ _ _ _ _ _ _ _ _ _ _ _ _ _ ?_
  ·have:=(List.getElem?_eq_some_iff.1 he).1; omega
  ·rintro l h' e1 ⟨P',q1,q2,q3,q4,q5,q6,q7⟩
   exact ⟨_,by omega,k+1,P',e1,rfl,by omega,q1,q2,q3,q4,q5,q6,q7⟩
 obtain ⟨e,he⟩:∃e,P[q]? = some e:=⟨_,List.getElem?_eq_getElem hql⟩
 have heP:=List.mem_of_getElem? he
 obtain ⟨be,oe,hbe,ahc,ahd⟩:=KX oP4.sl q he (nV ((hQP e heP).le gK).1)
 have Le4:=ahd h4 (Le.refl _)
 simp(disch:=first|omega|simp only[Wd]<;>omega|with_unfolding_all rfl)only[Wz,Bo,s4,TC,bZ (show (q:Int)<(P.length:Int) by omega),ahc,Le4,s3,acj,Lx]
 refine OF e.t e.r x.t x.r h4 _ ?_ ?_ ?_
 ·intro WZ h5 iY
  simp(disch:=first|omega|simp only[Wd]<;>omega|with_unfolding_all rfl)only[Wz,s4]
  refine ⟨_,by omega,q+1,rfl,rfl,by omega,fun j f hj hf=>?_,gK.trans iY⟩
  by_cases e1:j=q
  ·subst e1; rw[he] at hf; cases hf; exact WZ
  ·exact hall j f (by omega) hf
 ·intro e1 e2 h5 iY
  exfalso
  have hin:a_ e∈((R.take i).flatMap fun r=>r.K.map a_)++(K2.take k).map a_:=by
   have h0:dX e∈P.map dX:=List.mem_map.2 ⟨e,heP,rfl⟩
   have h1:=hpP.mem_iff.1 h0
   rcases List.mem_append.1 h1 with h1 | h1
   ·obtain ⟨r1,Cf,h2⟩:=List.mem_flatMap.1 h1
    obtain ⟨y,hy,h3⟩:=List.mem_map.1 h2
    have sm:=uk h3
    exact List.mem_append.2 (.inl (List.mem_flatMap.2 ⟨r1,Cf,List.mem_map.2 ⟨y,hy,Prod.ext sm.1 sm.2.1⟩⟩))
   ·obtain ⟨y,hy,h3⟩:=List.mem_map.1 h1
    have sm:=uk h3
    exact List.mem_append.2 (.inr (List.mem_map.2 ⟨y,hy,Prod.ext sm.1 sm.2.1⟩))
  have hnm:K2.map a_=r.K.map a_:=by
   have:=congrArg (List.map fun x:Int × Int × Int × List Vai.R5=>(x.1,x.2.1)) S6
   rw[List.map_map,List.map_map] at this
   exact this
  have hnd:(((R.take (i+1)).flatMap fun r=>r.K.map a_)).Nodup:=by
   rw[←List.take_append_drop (i+1) R,List.flatMap_append] at dj
   exact (List.nodup_append.1 dj).1
  rw[kN _ hr,←hnm] at hnd
  have hsp:K2.map a_=(K2.take k).map a_++(a_ x::(K2.drop (k+1)).map a_):=by
   have hd:K2.drop k=x::K2.drop (k+1):=by
    rw[List.drop_eq_getElem_cons PB]
    obtain ⟨_,h2⟩:=List.getElem?_eq_some_iff.1 hx
    rw[h2]
   rw[←List.map_cons,←hd,←List.map_append,List.take_append_drop]
  rw[hsp,←List.append_assoc] at hnd
  have:=(List.nodup_append.1 hnd).2.2 (a_ e) hin (a_ x) (.head _)
  exact this (Prod.ext e1 e2)
 ·intro hgt h5 iY
  simp(disch:=first|omega|simp only[Wd]<;>omega|with_unfolding_all rfl)only[Wz,s4]
  refine done (fun f hf=>?_) h5 iY _ _ _ _ _ _ _ _ _ _ _ _ _ _ _ _ _ _ _ _ _ ?_
  ·rw[he] at hf; cases hf; exact hgt
  ·rintro l h' e1 ⟨P',q1,q2,q3,q4,q5,q6,q7⟩
   exact ⟨_,by omega,k+1,P',e1,rfl,by omega,q1,q2,q3,q4,q5,q6,q7⟩
end
end Go.Proofs
