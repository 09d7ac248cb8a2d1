/-
  PROVED HERE: a part of the proof.
-/
import Derived.Test.YtmjghbjpdoeemaaGreatDoorG8
import Derived.Test.YtmjghbjpdoeemaaGreatDoorG2
import Derived.Test.YtmjghbjpdoeemaaGreatDoorRows
set_option linter.unusedVariables false
set_option linter.unusedSimpArgs false
set_option maxRecDepth 100000
set_option maxHeartbeats 4000000
namespace Go.Proofs
open Go.Vai Go.Clashes
section
variable {h h':Heap} {a:TA} {N:Nat} {d:TD} {c:dF} {R:List RB} {B:List Bool} {H:Int→Int→Int}
theorem eT.nodup (L:eT R H c.S B):((R.flatMap fun r=>r.K.map gE).map oc).Nodup:=by
 have e:(R.flatMap fun r=>r.K.map gE).map oc=R.flatMap fun r=>r.K.map bB:=by
  rw[List.map_flatMap]
  congr 1
  funext r
  rw[List.map_map]; rfl
 rw[e,List.Nodup,List.pairwise_flatMap]
 constructor
 ·intro r hr; exact sS (L.qN r hr)
 ·rw[cZ]
  intro i j p q hij hp hq x hx y hy hxy
  obtain ⟨e,he,rfl⟩:=List.mem_map.1 hx
  obtain ⟨f,hf,rfl⟩:=List.mem_map.1 hy
  have h1:=L.nm i p hp e he
  have h2:=L.nm j q hq f hf
  have e1:e.t=f.t:=congrArg Prod.fst hxy
  have e2:e.r=f.r:=congrArg Prod.snd hxy
  rw[e1,e2,h2] at h1
  omega
def gL (H:Int→Int→Int) (y:Int × Int):L4:=⟨1,y.1,y.2,H y.1 y.2⟩
theorem eT.snap (L:eT R H c.S B) (hR:R.length≤2):∃S,ue R S∧S.flatMap dw=(S.map oc).map (gL H)∧∀y,y∈S.map oc↔H y.1 y.2≠0:=by
 obtain ⟨S,hp,hs⟩:=FA L.nodup
 have each:∀k∈S,∃r∈R,∃e∈r.K,k=gE e:=fun k hk=>by
  obtain ⟨r,hr,hk⟩:=List.mem_flatMap.1 (hp.mem_iff.1 hk)
  obtain ⟨e,he,rfl⟩:=List.mem_map.1 hk
  exact ⟨r,hr,e,he,rfl⟩
 have one:∀k∈S,k.2.2.2.length=1∧dw k=[gL H (oc k)]∧H (oc k).1 (oc k).2≠0∧k.2.2.2.Pairwise iC:=fun k hk=>by
  obtain ⟨r,hr,e,he,rfl⟩:=each k hk
  obtain ⟨_,am,n,hQ,_⟩:=L.one r hr e he
  have hn:=((cu _).1 am).1
  refine ⟨by show e.Q.length=1; rw[hQ]; rfl,?_,hn,by show e.Q.Pairwise iC; rw[hQ]; exact List.pairwise_singleton _ _⟩
  show fQ e.t e.r e.Q=_
  rw[hQ]
  unfold fQ
  simp[hn,gL,oc,gE]
 have hlen:S.length≤128:=by
  rw[hp.length_eq,List.length_flatMap]
  have:∀R':List RB,(∀r∈R',r.K.length≤64)→(R'.map fun r=>(r.K.map gE).length).sum≤64*R'.length:=by
   intro R'
   induction R' with
   | nil=>intro _; simp
   | cons r R' ih=>
    intro hl
    have h1:=ih fun x hx=>hl x (.tail _ hx)
    have h2:=hl r (.head _)
    rw[List.map_cons,List.sum_cons,List.length_map,List.length_cons]
    omega
  have:=this R L.len
  omega
 refine ⟨S,⟨hp,hs,?_,fun k hk=>(one k hk).2.2.2⟩,?_,fun y=>⟨fun hy=>?_,fun hy=>?_⟩⟩
 ·have:S.map (fun k=>k.2.2.2.length)=S.map fun _=>1:=List.map_congr_left fun k hk=>(one k hk).1
  rw[this,Fy]; exact hlen
 ·have:∀S':List qw,(∀k∈S',dw k=[gL H (oc k)])→S'.flatMap dw=(S'.map oc).map (gL H):=by
   intro S'
   induction S' with
   | nil=>intro _; rfl
   | cons k S' ih=>
    intro hh
    rw[List.flatMap_cons,hh k (.head _),ih fun x hx=>hh x (.tail _ hx)]
    rfl
  exact this S fun k hk=>(one k hk).2.1
 ·obtain ⟨k,hk,rfl⟩:=List.mem_map.1 hy
  exact (one k hk).2.2.1
 ·obtain ⟨b,hb,e,he,e1,e2⟩:=L.all y.1 y.2 hy
  refine List.mem_map.2 ⟨gE e,hp.mem_iff.2 (List.mem_flatMap.2 ⟨b,hb,List.mem_map.2 ⟨e,he,rfl⟩⟩),?_⟩
  exact Prod.ext e1 e2
theorem Pw (s:yH h a N d) (L:Lone d.Ts H fun _ _=>1) {v:Value} {D A:List L4} {K:List HE} (t:Fb h' d.Ts v D K) {S:List qw} (hS:ue R S) (e:S.flatMap dw=(S.map oc).map (gL H)) (m:∀y,y∈S.map oc↔H y.1 y.2≠0) (hA:A.Perm (S.flatMap dw)) (Og:A.Pairwise qO):D=A:=by
 have one:∀k∈K,jc k=[gL H (bB k)]∧H (bB k).1 (bB k).2≠0:=fun k hk=>by
  obtain ⟨b,hb,f,hf,e1,e2,_,e4⟩:=t.each k hk
  obtain ⟨id,hQ,hn⟩:=L.one b hb f hf
  unfold jc fQ
  rw[e1,e2,e4,hQ]
  refine ⟨by simp[hn,gL,bB,e1,e2],?_⟩
  show H k.t k.r≠0
  rw[e1,e2]; exact hn
 have hK:K.flatMap jc=(K.map bB).map (gL H):=by
  have:∀K':List HE,(∀k∈K',jc k=[gL H (bB k)])→K'.flatMap jc=(K'.map bB).map (gL H):=by
   intro K'
   induction K' with
   | nil=>intro _; rfl
   | cons k K' ih=>
    intro hh
    rw[List.flatMap_cons,hh k (.head _),ih fun x hx=>hh x (.tail _ hx)]
    rfl
  exact this K fun k hk=>(one k hk).1
 have hp:(K.map bB).Perm (S.map oc):=by
  refine (List.perm_ext_iff_of_nodup (sS t.ahb) (sS hS.qN)).2 fun y=>?_
  rw[m y]
  constructor
  ·intro hy
   obtain ⟨k,hk,rfl⟩:=List.mem_map.1 hy
   exact (one k hk).2
  ·intro hy
   obtain ⟨b,hb,f,hf,e1,e2⟩:=L.all y.1 y.2 hy
   refine t.names.mem_iff.2 (List.mem_flatMap.2 ⟨b,hb,List.mem_map.2 ⟨f,hf,?_⟩⟩)
   exact Prod.ext e1 e2
 have hDA:D.Perm A:=t.perm.trans ((by rw[hK]; exact hp.map _:(K.flatMap jc).Perm ((S.map oc).map (gL H))).trans (by rw[e] at hA; exact hA.symm))
 have hD:D.Pairwise qO:=by
  refine Fw (L:=S.flatMap dw) (JQ hS.qN hS.bes) (hDA.trans hA) t.qN
 exact Li hDA hD Og
end
section
variable {h:Heap} {A:WA} {a:TA} {N:Nat} {d:TD} {Rd:RD} {c:dF} {R:List RB} {B:List Bool} {H X:Int→Int→Int}
theorem Lp (s:yH h a N d) (L:Lone d.Ts H X) (RL:eT R H c.S B) (hc:Lm R B) (hS:a.c.S=c.S) (hR:R.length=d.Ts.length) (hB:B.length=d.B.length):d.F=[]↔B.length≤(di B).length:=by
 have h1:=Lo s L
 have h2:(d.Ts.map fun b=>b.M.length)=R.map fun r=>r.K.length:=by
  refine List.ext_getElem? fun i=>?_
  rw[List.getElem?_map,List.getElem?_map]
  cases hb:d.Ts[i]? with
  | none=>
   have:R[i]? = none:=by
    rw[List.getElem?_eq_none_iff] at hb ⊢
    omega
   rw[this]; rfl
  | some b=>
   have hi:=(List.getElem?_eq_some_iff.1 hb).1
   obtain ⟨r,hr⟩:∃r,R[i]? = some r:=⟨_,List.getElem?_eq_getElem (by omega)⟩
   rw[hr]
   exact congrArg some (Fz s L RL hS hb hr)
 rw[h2,←hc] at h1
 have h3:=pg s.is.bX.ok
 rw[h1] at h3
 constructor
 ·intro e
  rw[e] at h3
  simp at h3
  omega
 ·intro e
  exact List.eq_nil_of_length_eq_zero (by omega)
theorem X0 (s:WS h A a N d Rd) (κ:KQ) (hk:∀v h' D K,Fb h' d.Ts v D K→Le h h'→κ v h'):CallW Tryz.prog 23 [.pointer (some ⟨A.wb,0,none⟩)] h κ:=by
 have gw:=s.r.gw
 refine an mixed ?_
 rw[ZA]
 simp(disch:=first|omega|simp only[Wd]<;>omega|rfl)only[Wz,kY,aJ,gw]
 refine XC s.t s.lo _ ?_
 intro v h' D K t le
 exact hk v h' D K t le
end
def FN (R:RD) (i k:Nat) (x0:Int) (x:jP) (o:Int) (n:Nat):Prop:=
 (n=0∧R.cs[i]? = some none∧R.cG[k]? = some none)∨
 ∃c,R.cs[i]? = some (some c)∧OkC i k x0 c∧c.a=x∧((n=3∧c.ph=1∧R.cG[k]? = some none)∨(n=2∧c.ph=2∧∃p,R.cG[k]? = some (some (p,c.th)))∨(n=1∧c.ph=3∧(∃p,R.cG[k]? = some (some (p,c.th)))∧c.out=o))
section
variable {h:Heap} {A:WA} {a:TA} {N:Nat} {d:TD} {R:RD} {H X:Int→Int→Int}
theorem Sr (s:WS h A a N d R) (L:Lone d.Ts H X) {i k:Nat} {x0:Int} {x:jP} (t:FN R i k x0 x (gF H x) 3) (hS:a.c.S=2) (YI:i<8) (hb:R.bits[i]? = some 0) (hX:∀t r,bT t r 2=(k:Int)→X t r=x0) (hx0:0≤x0) (hN:N≤999) {b:TB} (hbk:d.Ts[k]? = some b) (hF:x.k=1→H x.t x.r=0→d.F≠[]) (hh:x.k=1→H x.t x.r=0→b.M.length<a.aF) (κ:KQ)
  (hk:∀h' d' R',WS h' A a (N+1) d' R'→Lone d'.Ts (mj H x) X→R'.cs[i]? = some none→R'.cG[k]? = some none→Aside R R' i k→WK a h h'→κ (.tuple ⟨[.bool true,.int .i64 (gF H x),.int .i64 0]⟩) h') :
  CallW Tryz.prog 17 [.pointer (some ⟨A.wb,0,none⟩),.int .i64 (i:Int),.int .i64 3] h κ:=by
 refine an mixed ?_
 rw[Na]
 refine ⟨fun m l h1=>∃(j n:Nat) (N1:Nat) (d1:TD) (R1:RD),slot l 15=.int .i64 (j:Int)∧m=n∧j+n=3∧WS h1 A a N1 d1 R1∧FN R1 i k x0 x (gF H x) n∧Aside R R1 i k∧WK a h h1∧(n=0→slot l 10=.bool true∧slot l 11=.int .i64 (gF H x)∧slot l 12=.int .i64 0)∧(1<n→N1=N∧d1=d)∧(n≤1→N1=N+1∧Lone d1.Ts (mj H x) X),
  ⟨_,0,3,N,d,R,rfl,rfl,rfl,s,t,Aside.refl _ _ _,s.Pm,by omega,fun _=>⟨rfl,rfl⟩,by omega⟩,?_⟩
 rintro m l h1 ⟨j,n,N1,d1,R1,e1,rfl,hjn,s1,t1,Lf,k1,f0,f1,f2⟩
 cases m with
 | zero=>
  obtain ⟨g1,g2,g3⟩:=f0 rfl
  obtain ⟨hN1,hL1⟩:=f2 (by omega)
  subst hN1
  obtain rfl:j=3:=by omega
  simp(disch:=first|omega|simp only[Wd]<;>omega|rfl)only[Wz,nG,e1,bP (show (3:Int)≤((3:Nat):Int) by omega),g1,g2,g3]
  rcases t1 with ⟨_,q1,q2⟩ | ⟨c,_,_,_,⟨e,_⟩ | ⟨e,_⟩ | ⟨e,_⟩⟩
  ·exact hk h1 d1 R1 s1 hL1 q1 q2 Lf k1
  ·omega
  ·omega
  ·omega
 | succ m=>
  have hb1:R1.bits[i]? = some 0:=by rw[Lf.bits]; exact hb
  simp(disch:=first|omega|simp only[Wd]<;>omega|rfl)only[Wz,nG,e1,cq (show (j:Int)<3 by omega)]
  rcases t1 with ⟨e,_⟩ | ⟨c,hi,ok,hcx,⟨e,sR,hl⟩ | ⟨e,sR,p,hl⟩ | ⟨e,sR,⟨p,hl⟩,hout⟩⟩
  ·omega
  ·obtain rfl:m=2:=by omega
   refine pL s1 hi sR hb1 ok.st ⟨by rw[ok.th]; omega,by rw[ok.th]; omega⟩ hl _ ?_
   intro h2 s2 k2
   simp(disch:=first|omega|simp only[Wd]<;>omega|rfl)only[Wz,e1]
   exact ⟨_,by omega,j+1,2,N1,d1,_,rfl,rfl,by omega,s2,.inr ⟨{ c with ph:=2 },dH hi,⟨ok.wt,ok.th,ok.st,ok.nm,ok.may,ok.nh,ok.x⟩,hcx,.inr (.inl ⟨rfl,rfl,_,dH hl⟩)⟩,Lf.trans ⟨rfl,rfl,fun j hj=>dg hj,fun j hj=>dg hj⟩,k1.trans k2,fun e=>absurd e (by decide),fun _=>f1 (by omega),by omega⟩
  ·obtain rfl:m=1:=by omega
   obtain ⟨q1,q2⟩:=f1 (by omega)
   subst q1 q2 hcx
   refine yP s1 L (by omega) hi sR hb1 ok.wt hbk (by rw[hS]; exact ok.nm) ok.st hl (by rw[ok.x,hX _ _ ok.nm]) (by rw[ok.x]; exact hx0) ok.may ok.nh hF hh _ ?_
   intro h2 d2 s2 L2 g2 k2
   simp(disch:=first|omega|simp only[Wd]<;>omega|rfl)only[Wz,e1]
   exact ⟨_,by omega,j+1,1,_,d2,_,rfl,rfl,by omega,s2,.inr ⟨{ c with ph:=3,out:=gF H c.a },dH hi,⟨ok.wt,ok.th,ok.st,ok.nm,ok.may,ok.nh,ok.x⟩,rfl,.inr (.inr ⟨rfl,rfl,⟨p,hl⟩,rfl⟩)⟩,Lf.trans ⟨rfl,rfl,fun j hj=>dg hj,fun j hj=>rfl⟩,k1.trans k2,fun e=>absurd e (by decide),by omega,fun _=>⟨rfl,L2⟩⟩
  ·obtain rfl:m=0:=by omega
   refine rK s1 hi sR hb1 ok.st ok.th (by rw[hout]; exact JL _ _) hl _ ?_
   intro h2 s2 k2
   simp(disch:=first|omega|simp only[Wd]<;>omega|rfl)only[Wz,e1]
   exact ⟨_,by omega,j+1,0,N1,d1,_,rfl,rfl,by omega,s2,.inl ⟨rfl,dH hi,dH hl⟩,Lf.trans ⟨rfl,rfl,fun j hj=>dg hj,fun j hj=>dg hj⟩,k1.trans k2,fun _=>⟨by first | rfl | trivial,by first | rw[hout] | trivial,by first | rfl | trivial⟩,by omega,fun _=>f2 (by omega)⟩
end
theorem Ss (B:List Bool):(di B).length≤B.length:=by
 unfold di
 rw[List.length_map]
 exact Nat.le_trans (List.length_filter_le _ _) (by rw[List.length_range]; exact Nat.le_refl _)
theorem St {B:List Bool} {n:Nat} (h:B[n]? = some false):(di B).length<B.length:=by
 have h1:=(qe h).length_eq
 have h2:=Ss (B.set n true)
 rw[List.length_append,List.length_singleton] at h1
 rw[List.length_set] at h2
 omega
structure qy (h0 a0:Heap) (A:WA) (a:TA) (rt rp rl:Nat) (vr:Value) (h:Heap) (i N:Nat) (d:TD) (Rd:RD) (R:List RB) (B:List Bool) (H G:Int→Int→Int):Prop where
 s:WS h A a N d Rd
 L:Lone d.Ts H (fun _ _=>1)
 c0:Rd.cs[0]? = some none
 cG:∀k,k<2→Rd.cG[k]? = some none
 bit:Rd.bits[0]? = some 0
 bg:0≤Rd.begun∧Rd.begun≤i
 n:N≤i
 t:fI a0 h rt rp rl iZ vr 8 R B
 RL:eT R G iZ.S B
 cn:Lm R B
 lB:B.length=24
 le:Le h0 h
 la:a0.nx≤h.nx
section
variable {h0 a0 h h':Heap} {A:WA} {a:TA} {rt rp rl:Nat} {vr:Value} {i N:Nat} {d:TD} {Rd:RD} {R:List RB} {B:List Bool} {H G:Int→Int→Int}
theorem qy.up (s:qy h0 a0 A a rt rp rl vr h i N d Rd R B H G) (l:Le h h'):qy h0 a0 A a rt rp rl vr h' i N d Rd R B H G:=
 ⟨s.s.le l,s.L,s.c0,s.cG,s.bit,s.bg,s.n,s.t.le l,s.RL,s.cn,s.lB,s.le.trans l,Nat.le_trans s.la l.nx⟩
theorem qy.next (s:qy h0 a0 A a rt rp rl vr h i N d Rd R B H G):qy h0 a0 A a rt rp rl vr h (i+1) N d Rd R B H G:=
 ⟨s.s,s.L,s.c0,s.cG,s.bit,⟨s.bg.1,by have:=s.bg.2; omega⟩,Nat.le_succ_of_le s.n,s.t,s.RL,s.cn,s.lB,s.le,s.la⟩
theorem qy.doc (s:qy h0 a0 A a rt rp rl vr h i N d Rd R B H G) (ro:qP h0) (hne:rl≠a.bl) {R':List RB} {B':List Bool} {H':Int→Int→Int} (k:PS rl h h') (t':fI a0 h' rt rp rl iZ vr 8 R' B') (X1:eT R' H' iZ.S B') (X2:Lm R' B') (lB':B'.length=24):qy h0 a0 A a rt rp rl vr h' i N d Rd R' B' H H':=
 ⟨k.ws _ _ _ _ _ hne s.s,s.L,s.c0,s.cG,s.bit,s.bg,s.n,t',X1,X2,lB',k.ent _ ro s.le,Nat.le_trans s.la k.nx⟩
theorem qy.X3 (s:qy h0 a0 A a rt rp rl vr h i N d Rd R B H G) (hc:a.c=iZ):R.length=2∧d.Ts.length=2:=by
 have h1:=s.t.cS
 have h2:=s.s.t.is.cS
 rw[hc] at h2
 have h3:iZ.S=2:=rfl
 omega
theorem qy.all (s:qy h0 a0 A a rt rp rl vr h i N d Rd R B H H) (hc:a.c=iZ):∃S,ue R S∧∀(h':Heap) (v:Value) (D A':List L4) (K:List HE),Fb h' d.Ts v D K→A'.Perm (S.flatMap dw)→A'.Pairwise qO→D=A'∧D.length≤1000000:=by
 obtain ⟨S,h1,h2,h3⟩:=s.RL.snap (Nat.le_of_eq (s.X3 hc).1)
 refine ⟨S,h1,fun h' v D A' K t p q=>?_⟩
 have e:=Pw s.s.t s.L t h1 h2 h3 p q
 refine ⟨e,?_⟩
 rw[e,p.length_eq,h2,List.length_map,List.length_map]
 have:=yT s.t s.RL.good h1.perm
 omega
theorem qy.full (s:qy h0 a0 A a rt rp rl vr h i N d Rd R B H H) (hc:a.c=iZ):d.F=[]↔B.length≤(di B).length:=by
 refine Lp s.s.t s.L s.RL s.cn (by rw[hc]) ?_ ?_
 ·have:=s.X3 hc; omega
 ·have h1:=s.s.t.cR
  rw[hc] at h1
  have h3:iZ.R=24:=rfl
  have:=s.lB
  omega
theorem qy.X4 (s:qy h0 a0 A a rt rp rl vr h i N d Rd R B H H) (hc:a.c=iZ) {k:Nat} (hk:k<2):∃b r,d.Ts[k]? = some b∧R[k]? = some r∧b.M.length=r.K.length:=by
 have hl:=s.X3 hc
 have h1:d.Ts[k]? = some (d.Ts[k]'(by omega)):=List.getElem?_eq_getElem _
 have h2:R[k]? = some (R[k]'(by omega)):=List.getElem?_eq_getElem _
 exact ⟨_,_,h1,h2,Fz s.s.t s.L s.RL (by rw[hc]) h1 h2⟩
theorem Ho (s:qy h0 a0 A a rt rp rl vr h i N d Rd R B H H) (hc:a.c=iZ) {x:jP} {n9:Nat} (hlv:bM x.t x.r≠-1) (gb:h.bl.get n9=some (aa [.int .i64 x.k,.int .i64 1,.int .i64 x.t,.int .i64 x.r,.int .i64 x.m,.int .i64 x.w,.int .i64 x.to] 39 false)) (hb:n9<h.nx) {code:Int} {kf:List Value} (hs:slot kf 36=.int .i64 code) (vL:Value) (bL:List Value) (v16 v17 v21 v23 v24 v25 v27 fG v31 v33 gY v35 v39 v40 v41 iD gM:Value) (DA:List Value→Heap→Prop) (κ:KQ)
  (hN:∀l' h',qy h0 a0 A a rt rp rl vr h' i N d Rd R B H H→DA l' h') :
  wV (.bool true) (.int .i64 0) (.int .i64 code) kf (.pointer (some ⟨A.wb,0,none⟩)) (.pointer (some ⟨rt,0,none⟩)) n9 DA vL bL v16 v17 v21 v23 v24 v25 v27 fG v31 v33 gY v35 v39 v40 v41 iD gM h κ:=by
 obtain ⟨S,hS,hall⟩:=s.all hc
 have hlo:=s.s.lo
 have Hw:decide (code=code)=true:=a_ rfl
 unfold wV
 simp(disch:=first|omega|simp only[Wd]<;>omega|rfl)only[Wz,hs,Hw]
 refine X0 s.s _ ?_
 intro v1 h1 D K at1 bA
 have s1:=s.up bA
 refine Sn s1.t s1.RL.good s1.s.lo hS _ ?_
 intro v2 h2 A' pA ltA sl2 bt
 obtain ⟨e,hl⟩:=hall h1 v1 D A' K at1 pA ltA
 subst e
 have n1:=bA.nx
 have n2:=bt.nx
 have gb2:=((bA.trans bt).get _ hb).trans gb
 refine RX D v1 v2 h2 _ (at1.sl.le bt) sl2 hl ?_
 simp(disch:=first|omega|simp only[Wd]<;>omega|rfl)only[Wz,gb2]
 refine AI x.t x.r ?_
 rw[if_neg hlv]
 simp(disch:=first|omega|simp only[Wd]<;>omega|rfl)only[Wz]
 exact hN _ h2 (s1.up bt)
def sU (R:List RB) (B:List Bool) (k:Nat):Prop:=B.length≤(di B).length∨∃b,R[k]? = some b∧8≤b.K.length
theorem Lq {R:List RB} {B:List Bool} {k n:Nat} {b:RB} (hb:R[k]? = some b) (h1:b.K.length<8) (h2:B[n]? = some false):¬sU R B k:=by
 rintro (h | ⟨b',hb',h⟩)
 ·have:=St h2; omega
 ·rw[hb] at hb'; cases hb'; omega
theorem qy.ada (s:qy h0 a0 A a rt rp rl vr h i N d Rd R B H H) (hc:a.c=iZ) {k:Nat} (hk:k<2):∃b,d.Ts[k]? = some b∧(sU R B k↔(d.F=[]∨8≤b.M.length)):=by
 obtain ⟨b,r,hb,hr,e⟩:=s.X4 hc hk
 refine ⟨b,hb,?_⟩
 unfold sU
 rw[s.full hc,e]
 refine or_congr Iff.rfl ⟨?_,fun h=>⟨r,hr,h⟩⟩
 rintro ⟨r',hr',h⟩
 rw[hr] at hr'; cases hr'; exact h
theorem Px (s:qy h0 a0 A a rt rp rl vr h i N d Rd R B H G) (ro:qP h0) (hne:rl≠a.bl) {x:jP} {n9 k:Nat} (hm:pK (x.own 1)=true) (h3:x.k≠3) (hk2:k<2) (hst:bT x.t x.r 2=(k:Int)) (gb:h.bl.get n9=some (aa [.int .i64 x.k,.int .i64 1,.int .i64 x.t,.int .i64 x.r,.int .i64 x.m,.int .i64 x.w,.int .i64 x.to] 39 false)) (hb:n9<h.nx) {code:Int}
  (oP:(code=5∧H=G∧x.k=1∧G x.t x.r=0∧sU R B k)∨(code=gF G (x.own 1)∧H=mj G (x.own 1)∧(x.k=1→G x.t x.r=0→¬sU R B k)))
  (bL:List Value) (id:Int) (is:Bool) (hid:(G x.t x.r=0∧is=false)∨(is=true∧G x.t x.r≠0∧∃(j:Nat) (b:RB) (e:HE) (n:Nat),id=(n:Int)∧R[j]? = some b∧e∈b.K∧e.t=x.t∧e.r=x.r∧e.Q=[⟨(n:Int),1,G x.t x.r,G x.t x.r,0⟩])) (Cx:List Value→Heap→Prop)
  (hN:∀l' h' R' B',slot l' 36=.int .i64 code→qy h0 a0 A a rt rp rl vr h' i N d Rd R' B' H H→h.nx≤h'.nx→h'.bl.get n9=h.bl.get n9→Cx l' h') :
  wU n9 (.bool is) (.pointer (some ⟨rt,0,none⟩)) (.int .i64 id) Cx bL h:=by
 have hlo:=s.s.lo
 have hm':=hm
 unfold pK at hm'
 rw[Bool.and_eq_true] at hm'
 have hm2:=hm'.2
 have e1:(x.own 1).k=x.k:=rfl
 have e2:(x.own 1).m=x.m:=rfl
 rw[e1,e2] at hm2
 have ek:∀{R':List RB} {h':Heap},PS rl h h'→h'.bl.get n9=h.bl.get n9:=fun k=>k.ask n9 _ hb gb
 unfold wU
 by_cases h1:x.k=1
 ·rw[if_pos h1,Bool.and_eq_true,Bool.and_eq_true,decide_eq_true_eq] at hm2
  have am:aZ x.m=true:=(cu _).2 ⟨hm2.1.2,hm2.1.1⟩
  simp(disch:=first|omega|simp only[Wd]<;>omega|rfl)only[Wz,gb,aN (show ¬x.k=2 by omega),Gp]
  rcases hid with ⟨hG,rfl⟩ | ⟨rfl,hG,j,b,e,n,rfl,hj,he,et,er,eQ⟩
  ·simp(disch:=first|omega|simp only[Wd]<;>omega|rfl)only[Wz,MY,gb]
   refine Pv s.t s.RL hlo s.la (by decide) (by have h2:iZ.S=2:=rfl; rw[h2,hst]; omega) hG am _ ?_ ?_
   ·intro h' j b hj hs hor le
    obtain rfl:j=k:=by have:iZ.S=2:=rfl; rw[this] at hs; omega
    have df:sU R B j:=hor.imp (fun h=>h) fun h=>⟨b,hj,h⟩
    rcases oP with ⟨rfl,rfl,_⟩ | ⟨_,_,hn⟩
    ·simp(disch:=first|omega|simp only[Wd]<;>omega|rfl)only[Wz]
     refine hN _ h' R B rfl (s.up le) le.nx (le.get _ hb)
    ·exact absurd df (hn h1 hG)
   ·intro h' R' j b n hj hs hl hBn t' X1 X2 kp
    obtain rfl:j=k:=by have:iZ.S=2:=rfl; rw[this] at hs; omega
    have nf:=Lq hj hl hBn
    rcases oP with ⟨_,_,_,_,df⟩ | ⟨rfl,rfl,_⟩
    ·exact absurd df nf
    ·simp(disch:=first|omega|simp only[Wd]<;>omega|rfl)only[Wz]
     have e3:mj G (x.own 1)=gQ G x.t x.r x.m:=by
      unfold mj
      rw[if_pos (show (x.own 1).k=1 from h1)]
      show gQ G x.t x.r (cU (G x.t x.r) x.m)=_
      rw[hG,Hf hm2.1.1]
     have e4:gF G (x.own 1)=1:=by unfold gF; rw[if_pos (show (x.own 1).k=1 from h1)]
     have i':=s.doc ro hne kp t' X1 (X2 s.cn) (by rw[List.length_set]; exact s.lB)
     rw[←e3] at i'
     rw[e4] at hN
     exact hN _ h' R' _ rfl i' kp.nx (ek (R':=R') kp)
  ·rcases oP with ⟨_,_,_,h0,_⟩ | ⟨rfl,rfl,_⟩
   ·exact absurd h0 hG
   ·simp(disch:=first|omega|simp only[Wd]<;>omega|rfl)only[Wz,gb]
    have aG:=(s.RL.one b (List.mem_of_getElem? hj) e he).2.1
    rw[et,er] at aG
    refine Pu s.t s.RL hlo s.la (List.mem_of_getElem? hj) he et er eQ hG ((cu _).1 aG).2 am _ ?_
    intro h' R' t' X1 X2 kp
    have e3:mj G (x.own 1)=gQ G x.t x.r (cU (G x.t x.r) x.m):=by
     unfold mj
     rw[if_pos (show (x.own 1).k=1 from h1)]; rfl
    have e4:gF G (x.own 1)=1:=by unfold gF; rw[if_pos (show (x.own 1).k=1 from h1)]
    have i':=s.doc ro hne kp t' X1 (X2 s.cn) s.lB
    rw[←e3] at i'
    rw[e4] at hN
    exact hN _ h' R' _ rfl i' kp.nx (ek (R':=R') kp)
 ·rw[if_neg h1,if_neg h3,decide_eq_true_eq] at hm2
  rcases oP with ⟨_,_,hx,_⟩ | ⟨rfl,rfl,_⟩
  ·exact absurd hx h1
  have e3:mj G (x.own 1)=gQ G x.t x.r 0:=by
   unfold mj
   rw[if_neg (show ¬(x.own 1).k=1 from h1)]; rfl
  rcases hid with ⟨hG,rfl⟩ | ⟨rfl,hG,j,b,e,n,rfl,hj,he,et,er,eQ⟩
  ·have e4:gF G (x.own 1)=6:=by unfold gF; rw[if_neg (show ¬(x.own 1).k=1 from h1),if_pos (show G (x.own 1).t (x.own 1).r=0 from hG)]
   have e5:mj G (x.own 1)=G:=by rw[e3,←hG]; exact ud _ _ _
   rw[e4,e5] at hN
   rw[e5] at s
   simp(disch:=first|omega|simp only[Wd]<;>omega|rfl)only[Wz,gb,a_ hm2,Gp]
   exact hN _ h R B rfl s (Nat.le_refl _) rfl
  ·have e4:gF G (x.own 1)=1:=by unfold gF; rw[if_neg (show ¬(x.own 1).k=1 from h1),if_neg (show ¬G (x.own 1).t (x.own 1).r=0 from hG)]
   simp(disch:=first|omega|simp only[Wd]<;>omega|rfl)only[Wz,gb,a_ hm2]
   refine Hj s.t s.RL hlo s.la (List.mem_of_getElem? hj) he et er eQ _ ?_
   intro h' R' v t' X1 X2 kp
   have i':=s.doc ro hne kp t' X1 (X2 s.cn) (by rw[List.length_set]; exact s.lB)
   rw[←e3] at i'
   rw[e4] at hN
   exact hN _ h' R' _ rfl i' kp.nx (ek (R':=R') kp)
end
abbrev adb (a h:Heap) (v:Value) (L:List RB):Prop:=dh pJ a 91 h v L
theorem Su (S H R P:Int) (p:Addr) (κ:List Value→Prop):bC False [(0,4),(5,1)] [.agg ⟨[.int .i64 S,.int .i64 H,.int .i64 R,.int .i64 P]⟩,.pointer (some p)] [.int .i64 0,.int .i64 0,.int .i64 0,.int .i64 0,.slice none 0 0,.pointer none] κ=κ [.int .i64 S,.int .i64 H,.int .i64 R,.int .i64 P,.slice none 0 0,.pointer (some p)]:=by kernel_rfl
theorem Sv (c:dF) (a h:Heap) (κ:KQ) (hlo:h.lo≤h.nx)
  (AE:¬dK c→∀h',Le h h'→κ (.tuple ⟨[.pointer none,.int .i64 2]⟩) h')
  (Cz:∀h' rt rp rl vr R (aF:Nat),dK c→(aF:Int)=c.H→fI a h' rt rp rl c vr aF R (List.replicate c.R.toNat false)→(∀r∈R,r.K=[]∧h.nx≤r.rb)→h.nx≤rl→Le h h'→κ (.tuple ⟨[.pointer (some ⟨rt,0,none⟩),.int .i64 0]⟩) h') :
  CallW Tryz.prog 8 [yu c] h κ:=by
 refine an mixed ?_
 rw[aeU]
 simp(disch:=first|omega|simp only[Wd]<;>omega|rfl)only[Wz,yu]
 obtain ⟨hA,az⟩:∃hA:Heap,hA=⟨h.nx+1,(h.bl.aY (h.nx) (aa [.int .i64 c.S,.int .i64 c.H,.int .i64 c.R,.int .i64 c.P] 30 false)),h.lo⟩:=⟨_,rfl⟩
 have aK:Le h hA:=by subst az; exact ((Le.refl h).new _)
 have g1:hA.bl.get (h.nx)=some (aa [.int .i64 c.S,.int .i64 c.H,.int .i64 c.R,.int .i64 c.P] 30 false):=by subst az; exact T.af _ _ _
 have d_:hA.nx=h.nx+1:=by subst az; rfl
 have ee:hA.lo=h.lo:=by subst az; rfl
 rw[←az]
 clear az
 by_cases a1:c.S<1
 ·simp(disch:=first|omega|simp only[Wd]<;>omega|rfl)only[Wz,a_ a1]
  exact AE (by unfold dK; omega) _ aK
 by_cases a2:16<c.S
 ·simp(disch:=first|omega|simp only[Wd]<;>omega|rfl)only[Wz,aN a1,g1,a_ a2]
  exact AE (by unfold dK; omega) _ aK
 by_cases a3:c.H<1
 ·simp(disch:=first|omega|simp only[Wd]<;>omega|rfl)only[Wz,aN a1,g1,aN a2,a_ a3]
  exact AE (by unfold dK; omega) _ aK
 by_cases a4:64<c.H
 ·simp(disch:=first|omega|simp only[Wd]<;>omega|rfl)only[Wz,aN a1,g1,aN a2,aN a3,a_ a4]
  exact AE (by unfold dK; omega) _ aK
 by_cases a5:c.R<1
 ·simp(disch:=first|omega|simp only[Wd]<;>omega|rfl)only[Wz,aN a1,g1,aN a2,aN a3,aN a4,a_ a5]
  exact AE (by unfold dK; omega) _ aK
 by_cases a6:128<c.R
 ·simp(disch:=first|omega|simp only[Wd]<;>omega|rfl)only[Wz,aN a1,g1,aN a2,aN a3,aN a4,aN a5,a_ a6]
  exact AE (by unfold dK; omega) _ aK
 by_cases a7:c.P<0
 ·simp(disch:=first|omega|simp only[Wd]<;>omega|rfl)only[Wz,aN a1,g1,aN a2,aN a3,aN a4,aN a5,aN a6,a_ a7]
  exact AE (by unfold dK; omega) _ aK
 by_cases a8:8<c.P
 ·simp(disch:=first|omega|simp only[Wd]<;>omega|rfl)only[Wz,aN a1,g1,aN a2,aN a3,aN a4,aN a5,aN a6,aN a7,a_ a8]
  exact AE (by unfold dK; omega) _ aK
 have cok:dK c:=by unfold dK; omega
 obtain ⟨n,eS⟩:∃n:Nat,c.S=(n:Int):=⟨c.S.toNat,by omega⟩
 obtain ⟨H,eH⟩:∃n:Nat,c.H=(n:Int):=⟨c.H.toNat,by omega⟩
 obtain ⟨Rn,eR⟩:∃n:Nat,c.R=(n:Int):=⟨c.R.toNat,by omega⟩
 have eRn:c.R.toNat=Rn:=by omega
 simp(disch:=first|omega|simp only[Wd]<;>omega|rfl)only[Wz,aN a1,g1,aN a2,aN a3,aN a4,aN a5,aN a6,aN a7,aN a8,M_]
 rw[eR]
 refine OG Rn hA _ (by omega) (by omega) ?_
 intro rp rl h1 p1 grp grl bA
 have Aq:=bA.nx
 have Ar:=bA.lo
 have g1:=(bA.get _ (by omega)).trans g1
 rw[eR] at g1
 simp(disch:=first|omega|simp only[Wd]<;>omega|rfl)only[Wz,g1,Su]
 obtain ⟨hB,bK⟩:∃hB:Heap,hB=⟨h1.nx+1,(h1.bl.aY (h1.nx) (aa [.int .i64 c.S,.int .i64 c.H,.int .i64 (Rn:Int),.int .i64 c.P,.slice none 0 0,.pointer (some ⟨rp,0,none⟩)] 90 false)),h1.lo⟩:=⟨_,rfl⟩
 have bG:Le h1 hB:=by subst bK; exact ((Le.refl h1).new _)
 have gB:hB.bl.get (h1.nx)=some (aa [.int .i64 c.S,.int .i64 c.H,.int .i64 (Rn:Int),.int .i64 c.P,.slice none 0 0,.pointer (some ⟨rp,0,none⟩)] 90 false):=by subst bK; exact T.af _ _ _
 have rz:hB.nx=h1.nx+1:=by subst bK; rfl
 have rA:hB.lo=h1.lo:=by subst bK; rfl
 rw[←bK]
 clear bK
 have nI:=bG.nx
 have nJ:=bG.lo
 have g1:=(bG.get _ (by omega)).trans g1
 have pB:=p1.le bG
 have l1:=bA.lo
 refine ⟨fun m l h2=>∃(i:Nat) (v:Value) (L:List RB),slot l 25=.int .i64 (i:Int)∧m=n-i∧i≤n∧L.length=i∧adb h1 h2 v L∧Le h1 h2∧h1.nx<h2.nx∧
   h2.bl.get h1.nx=some (aa [.int .i64 c.S,.int .i64 c.H,.int .i64 (Rn:Int),.int .i64 c.P,v,.pointer (some ⟨rp,0,none⟩)] 90 false)∧(∀r∈L,jl a h2 r.rb rp H r.v r.K∧r.K=[]∧r.v=.slice none 0 0∧h1.nx≤r.rb)∧L.Pairwise uJ,
  ⟨_,0,.slice none 0 0,[],rfl,rfl,by omega,rfl,.inl ⟨rfl,.inl rfl⟩,bG,by omega,gB,fun r hr=>(nomatch hr),List.Pairwise.nil⟩,?_⟩
 rintro m l h2 ⟨i,v,L,s1,rfl,hi,hL,ho,bt,hn2,hg,hbk,hd⟩
 have n2:=bt.nx
 have l2:=bt.lo
 have ade:h.nx<h1.nx:=by have:=bA.nx; omega
 have g12:=(bt.get h.nx ade).trans ((bG.get h.nx ade).symm.trans g1)
 by_cases hlt:i<n
 case neg=>
  have hin:i=n:=by omega
  simp(disch:=first|omega|simp only[Wd]<;>omega|rfl)only[Wz,g12,s1,eS,bP (show (n:Int)≤(i:Int) by omega)]
  rw[←eR] at hg
  refine Cz h2 h1.nx rp rl v L H cok eH.symm ⟨hn2,hg,ho.sl,uR.own ho,fun r hr=>(hbk r hr).1,hd,?_,by omega,by omega⟩ (fun r hr=>⟨(hbk r hr).2.1,by have:=(hbk r hr).2.2.2; omega⟩) (by omega) ((aK.trans bA).trans bt)
  rw[eRn]
  exact p1.le bt
 obtain ⟨vx,vc,ev,_⟩:=(show Sl pJ h2 v L from ho.sl)
 simp(disch:=first|omega|simp only[Wd]<;>omega|rfl)only[Wz,g12,s1,eS,cq (show (i:Int)<(n:Int) by omega),M9]
 rw[eH]
 refine OI (H:Int) rp a h2 _ (by omega) (fun ang=>by omega) ?_
 intro rb h3 H2 eH2 _ R3 grb c9
 obtain rfl:H2=H:=by omega
 have n3:=c9.nx
 have l3:=c9.lo
 have hg3:=(c9.get _ hn2).trans hg
 rw[ev] at hg3
 simp(disch:=first|omega|simp only[Wd]<;>omega|rfl)only[Wz,aJ,hg3]
 obtain ⟨hC,tX⟩:∃hC:Heap,hC=⟨h3.nx+1,(h3.bl.aY (h3.nx) (aa [.pointer (some ⟨rb,0,none⟩)] 91 false)),h3.lo⟩:=⟨_,rfl⟩
 have nT:Le h3 hC:=by subst tX; exact ((Le.refl h3).new _)
 have gC:hC.bl.get (h3.nx)=some (aa [.pointer (some ⟨rb,0,none⟩)] 91 false):=by subst tX; exact T.af _ _ _
 have agD:hC.nx=h3.nx+1:=by subst tX; rfl
 have agE:hC.lo=h3.lo:=by subst tX; rfl
 rw[←tX]
 clear tX
 have hone:Sl pJ hC (.slice (some ⟨h3.nx,0,none⟩) 1 1) [(⟨rb,.slice none 0 0,[]⟩:RB)]:=Sl.new (L:=[(⟨rb,.slice none 0 0,[]⟩:RB)]) (e:=91) (op:=false) (by omega) gC _
 rw[←ev] at hg3 ⊢
 refine cV (enc:=pJ) (a:=h1) (L:=L) (M:=[(⟨rb,.slice none 0 0,[]⟩:RB)]) AF KW (by decide) (by decide) ((ho.le c9).le nT) hone ((bt.trans c9).trans nT) (by simp only[List.length_cons,List.length_nil]; omega) (by omega) _ ?_
 intro v5 h5 tL ji _ n5 l5 nU
 have hgC:=(nT.get _ (by omega)).trans hg3
 have Ys:h5.bl.get h1.nx=some (aa [.int .i64 c.S,.int .i64 c.H,.int .i64 (Rn:Int),.int .i64 c.P,v,.pointer (some ⟨rp,0,none⟩)] 90 false):=(nU _ (by omega) (by rw[hgC]; exact aL (by decide))).trans hgC
 obtain ⟨x5,c5,ev5,_⟩:=(show Sl pJ h5 v5 _ from tL.sl)
 rw[ev] at Ys
 rw[ev5]
 simp(disch:=first|omega|simp only[Wd]<;>omega|rfl)only[Wz,aJ,Ys]
 have tM:=dh.put tL (c:=h1.nx) (by rw[Ys]; exact aS) (aa [.int .i64 c.S,.int .i64 c.H,.int .i64 (Rn:Int),.int .i64 c.P,v5,.pointer (some ⟨rp,0,none⟩)] 90 false)
 have adf:Le h1 ⟨h5.nx,h5.bl.aY h1.nx (aa [.int .i64 c.S,.int .i64 c.H,.int .i64 (Rn:Int),.int .i64 c.P,v5,.pointer (some ⟨rp,0,none⟩)] 90 false),h5.lo⟩:=ji.set (b:=h1.nx) (Nat.le_refl _) _
 have keep:∀(r:RB),jl a hC r.rb rp H2 r.v r.K→jl a ⟨h5.nx,h5.bl.aY h1.nx (aa [.int .i64 c.S,.int .i64 c.H,.int .i64 (Rn:Int),.int .i64 c.P,v5,.pointer (some ⟨rp,0,none⟩)] 90 false),h5.lo⟩ r.rb rp H2 r.v r.K:=by
  intro r hr
  refine hr.keep n5 l5 fun d vs ty op hd hgd ht=>?_
  have hne:h1.nx≠d:=by
   rintro rfl
   rcases ht with e | ⟨e,_⟩ | e<;>subst e<;>exact aL (by decide) (hgd.symm.trans hgC)
  refine (T.ai _ _ hne).trans (nU d hd ?_)
  rw[hgd]
  rcases ht with e | ⟨e,_⟩ | e<;>subst e<;>exact aL (by decide)
 rw[ev5] at tM adf keep
 refine ⟨_,by omega,i+1,_,L++[(⟨rb,.slice none 0 0,[]⟩:RB)],rfl,rfl,by omega,by simp; omega,tM,adf,by show h1.nx<h5.nx; omega,by rw[eS,eH],?_,?_⟩
 ·intro r hr
  rcases List.mem_append.1 hr with hr | hr
  ·obtain ⟨q1,q2,q3,q4⟩:=hbk r hr
   exact ⟨keep r ((q1.le c9).le nT),q2,q3,q4⟩
  ·rw[List.mem_singleton] at hr
   subst hr
   exact ⟨keep _ (R3.le nT),rfl,rfl,by show h1.nx≤rb; omega⟩
 ·rw[List.pairwise_append]
  refine ⟨hd,List.pairwise_singleton _ _,fun r hr r' hr'=>?_⟩
  rw[List.mem_singleton] at hr'
  subst hr'
  obtain ⟨q1,q2,q3,q4⟩:=hbk r hr
  have:=q1.lt
  refine ⟨by show r.rb≠rb; omega,fun d h1 h2=>?_⟩
  obtain ⟨k,hk⟩:=h2
  cases hk
section
variable {h0 a0 h h2:Heap} {A:WA} {a:TA} {rt rp rl:Nat} {vr:Value} {i N:Nat} {d:TD} {Rd:RD} {R:List RB} {B:List Bool} {H G:Int→Int→Int}
theorem qy.ran (s:qy h0 a0 A a rt rp rl vr h i N d Rd R B G G) (ro:qP h0) (hne:rl≠a.bl) {R1 R3:RD} {k N3:Nat} {d3:TD} {h3:Heap} (e1:R1.cG=Rd.cG) (e2:R1.bits=Rd.bits) (e3:R1.begun=Rd.begun+1) (k2:WK a h h2) (k3:WK a h2 h3) (s3:WS h3 A a N3 d3 R3) (L3:Lone d3.Ts H (fun _ _=>1)) (c3:R3.cs[0]? = some none) (l3:R3.cG[k]? = some none) (X5:Aside R1 R3 0 k) (hN:N3≤i+1) :
  qy h0 a0 A a rt rp rl vr h3 (i+1) N3 d3 R3 R B H G:=by
 have k23:=k2.trans k3
 refine ⟨s3,L3,c3,fun j hj=>?_,by rw[X5.bits,e2]; exact s.bit,?_,hN,k23.rt _ _ _ _ _ _ _ _ _ hne s.t,s.RL,s.cn,s.lB,KL.entry ro s.le (k23.kl 0),Nat.le_trans s.la k23.nx⟩
 ·by_cases e:j=k
  ·subst e; exact l3
  ·rw[X5.cG j e,e1]; exact s.cG j hj
 ·rw[X5.begun,e3]
  have:=s.bg
  omega
theorem Sw (s:qy h0 a0 A a rt rp rl vr h i N d Rd R B G G) (hc:a.c=iZ) (hh:a.aF=8) (hne:rl≠a.bl) (ro:qP h0) (hi:i<40) {L:List jP} {vL:Value} (hv:Sl ua h0 vL L) {x:jP} (hx:L[i]? = some x) (bL:List Value) (e:slot bL 102=.int .i64 (i:Int)) (DA:List Value→Heap→Prop) (κ:KQ)
  (hN:∀l' h',(∃N d Rd R B G,qy h0 a0 A a rt rp rl vr h' (i+1) N d Rd R B G G)→DA l' h') :
  Gq vL bL (.pointer (some ⟨A.wb,0,none⟩)) DA (.pointer (some ⟨rt,0,none⟩)) h κ:=by
 obtain ⟨bx,ox,hbx,Jr,hrx,_⟩:=hv.ld encK_len i hx
 rw[←s.le.get bx hbx] at hrx
 have lo1:=s.s.lo
 unfold Gq
 simp(disch:=first|omega|simp only[Wd]<;>omega|rfl)only[Wz,e,Jr,hrx,ua]
 obtain ⟨hA,az⟩:∃hA:Heap,hA=⟨h.nx+1,(h.bl.aY (h.nx) (aa [.int .i64 x.k,.int .i64 1,.int .i64 x.t,.int .i64 x.r,.int .i64 x.m,.int .i64 x.w,.int .i64 x.to] 39 false)),h.lo⟩:=⟨_,rfl⟩
 have aK:Le h hA:=by subst az; exact ((Le.refl h).new _)
 have g1:hA.bl.get (h.nx)=some (aa [.int .i64 x.k,.int .i64 1,.int .i64 x.t,.int .i64 x.r,.int .i64 x.m,.int .i64 x.w,.int .i64 x.to] 39 false):=by subst az; exact T.af _ _ _
 have d_:hA.nx=h.nx+1:=by subst az; rfl
 have ee:hA.lo=h.lo:=by subst az; rfl
 rw[←az]
 clear az
 have sA:=s.up aK
 have nA:=aK.nx
 by_cases h3x:x.k=3
 ·simp(disch:=first|omega|simp only[Wd]<;>omega|rfl)only[Wz,a_ h3x]
  exact hN _ _ ⟨_,_,_,_,_,_,sA.next⟩
 simp(disch:=first|omega|simp only[Wd]<;>omega|rfl)only[Wz,aN h3x,g1]
 have bgA:=sA.bg
 refine JK sA.s sA.c0 (x.own 1) (by omega) _ ?_ ?_
 ·intro hm h2 bt
  simp(disch:=first|omega|simp only[Wd]<;>omega|rfl)only[Wz]
  exact hN _ _ ⟨_,_,_,_,_,_,(sA.up bt).next⟩
 intro hm h2 ca s2 k2
 have hlv:bM x.t x.r≠-1:=by
  unfold pK at hm
  rw[Bool.and_eq_true,decide_eq_true_eq] at hm
  exact hm.1
 obtain ⟨k,hk2,hst⟩:=JO hlv
 obtain ⟨b,hb,df⟩:=sA.ada hc hk2
 have hS:a.c.S=2:=by rw[hc]; rfl
 have n2:=k2.nx
 have ok:OkC 0 k 1 ⟨ca,x.own 1,((0:Nat):Int),Rd.begun,bT x.t x.r a.c.S,1,false,0,0,0⟩:=⟨rfl,rfl,by rw[hS]; exact hst,hst,hm,h3x,rfl⟩
 have mk:∀(b0:Nat) (h3:Heap) (code:Int) (H:Int→Int→Int) (N3:Nat) (d3:TD) (R3:RD),qy h0 a0 A a rt rp rl vr h3 (i+1) N3 d3 R3 R B H G→h3.bl.get b0=hA.bl.get h.nx→b0<h3.nx→
   ((code=5∧H=G∧x.k=1∧G x.t x.r=0∧sU R B k)∨(code=gF G (x.own 1)∧H=mj G (x.own 1)∧(x.k=1→G x.t x.r=0→¬sU R B k)))→∀(v16 v17 v21 v23 v24 v25 v27 fG v31 v33 gY v35 v39 v40:Value),
   CallW Tryz.prog 18 [.pointer (some ⟨rt,0,none⟩),dn x.t x.r,.int .i64 1] h3 (fun v41 h=>av False 0 v41 h fun iD h=>av False 1 v41 h fun gM h=>dD (fun Cx=>wU b0 gM (.pointer (some ⟨rt,0,none⟩)) iD Cx bL h) fun kf h=>
    wV (.bool true) (.int .i64 0) (.int .i64 code) kf (.pointer (some ⟨A.wb,0,none⟩)) (.pointer (some ⟨rt,0,none⟩)) b0 DA vL bL v16 v17 v21 v23 v24 v25 v27 fG v31 v33 gY v35 v39 v40 v41 iD gM h κ):=by
  intro b0 h3 code H N3 d3 R3 s3 g3 l3 oP v16 v17 v21 v23 v24 v25 v27 fG v31 v33 gY v35 v39 v40
  have gb:=g3.trans g1
  have fin:∀(id:Int) (is:Bool) (v41:Value) (h4:Heap),Le h3 h4→((G x.t x.r=0∧is=false)∨(is=true∧G x.t x.r≠0∧∃(j:Nat) (b:RB) (e:HE) (n:Nat),id=(n:Int)∧R[j]? = some b∧e∈b.K∧e.t=x.t∧e.r=x.r∧e.Q=[⟨(n:Int),1,G x.t x.r,G x.t x.r,0⟩]))→
    dD (fun Cx=>wU b0 (.bool is) (.pointer (some ⟨rt,0,none⟩)) (.int .i64 id) Cx bL h4) fun kf h=>
    wV (.bool true) (.int .i64 0) (.int .i64 code) kf (.pointer (some ⟨A.wb,0,none⟩)) (.pointer (some ⟨rt,0,none⟩)) b0 DA vL bL v16 v17 v21 v23 v24 v25 v27 fG v31 v33 gY v35 v39 v40 v41 (.int .i64 id) (.bool is) h κ:=by
   intro id is v41 h4 iw hid
   have gb4:=(iw.get _ l3).trans gb
   have n4:=iw.nx
   refine ⟨fun l' h'=>slot l' 36=.int .i64 code∧(∃R' B',qy h0 a0 A a rt rp rl vr h' (i+1) N3 d3 R3 R' B' H H)∧b0<h'.nx∧h'.bl.get b0=some (aa [.int .i64 x.k,.int .i64 1,.int .i64 x.t,.int .i64 x.r,.int .i64 x.m,.int .i64 x.w,.int .i64 x.to] 39 false),?_,?_⟩
   ·exact Px (s3.up iw) ro hne hm h3x hk2 hst gb4 (by omega) oP bL id is hid _ fun l' h' R' B' q1 q2 q3 q4=>⟨q1,⟨R',B',q2⟩,by omega,q4.trans gb4⟩
   ·rintro l' h5 ⟨q1,⟨R',B',q2⟩,q3,q4⟩
    exact Ho (x:=x) (code:=code) (n9:=b0) (kf:=l') q2 hc hlv q4 q3 q1 vL bL v16 v17 v21 v23 v24 v25 v27 fG v31 v33 gY v35 v39 v40 v41 (.int .i64 id) (.bool is) DA κ fun l' h' s'=>hN l' h' ⟨_,_,_,_,_,_,s'⟩
  refine Ll s3.t s3.RL s3.s.lo x.t x.r _ ?_ ?_
  ·intro hG h4 iw
   simp(disch:=first|omega|simp only[Wd]<;>omega|rfl)only[Wz]
   exact fin 0 false _ h4 iw (.inl ⟨hG,rfl⟩)
  ·intro hG h4 j b e n hj he et er eQ iw
   simp(disch:=first|omega|simp only[Wd]<;>omega|rfl)only[Wz]
   exact fin n true _ h4 iw (.inr ⟨rfl,hG,j,b,e,n,rfl,hj,he,et,er,eQ⟩)
 have keep:∀h3,WK a h2 h3→h3.bl.get h.nx=hA.bl.get h.nx:=fun h3 k3=>(k2.trans k3).ty h.nx _ _ _ (by omega) g1 (by unfold zz; decide) (by unfold qu; decide)
 have hn:=sA.n
 unfold M5
 by_cases Sx:x.k=1∧G x.t x.r=0∧sU R B k
 ·refine Sk s2 sA.L (x:=x.own 1) (.inr ⟨_,dH sA.c0,ok,rfl,.inl ⟨rfl,rfl,sA.cG k hk2⟩⟩) hS (by decide) sA.bit (fun _ _ _=>rfl) (by decide) (by omega) hb Sx.1 Sx.2.1 (by rw[hh]; exact df.1 Sx.2.2) _ ?_
  intro h3 R3 s3 c3 l3 X5 k3
  have g13:=(keep h3 k3).trans g1
  have n3:=k3.nx
  simp(disch:=first|omega|simp only[Wd]<;>omega|rfl)only[Wz,g13]
  exact mk h.nx h3 5 G N d R3 (sA.ran (R1:={ Rd with cs:=Rd.cs.set 0 (some ⟨ca,x.own 1,((0:Nat):Int),Rd.begun,bT x.t x.r a.c.S,1,false,0,0,0⟩),begun:=Rd.begun+1 }) ro hne rfl rfl rfl k2 k3 s3 sA.L c3 l3 X5 (by omega)) (keep h3 k3) (by omega) (.inl ⟨rfl,rfl,Sx.1,Sx.2.1,Sx.2.2⟩) _ _ _ _ _ _ _ _ _ _ _ _ _ _
 ·refine Sr s2 sA.L (x:=x.own 1) (.inr ⟨_,dH sA.c0,ok,rfl,.inl ⟨rfl,rfl,sA.cG k hk2⟩⟩) hS (by decide) sA.bit (fun _ _ _=>rfl) (by decide) (by omega) hb (fun p q r=>Sx ⟨p,q,df.2 (.inl r)⟩) (fun p q=>by rw[hh]; exact Nat.lt_of_not_le fun r=>Sx ⟨p,q,df.2 (.inr r)⟩) _ ?_
  intro h3 d3 R3 s3 L3 c3 l3 X5 k3
  have g13:=(keep h3 k3).trans g1
  have n3:=k3.nx
  simp(disch:=first|omega|simp only[Wd]<;>omega|rfl)only[Wz,g13]
  exact mk h.nx h3 _ _ _ d3 R3 (sA.ran (R1:={ Rd with cs:=Rd.cs.set 0 (some ⟨ca,x.own 1,((0:Nat):Int),Rd.begun,bT x.t x.r a.c.S,1,false,0,0,0⟩),begun:=Rd.begun+1 }) ro hne rfl rfl rfl k2 k3 s3 L3 c3 l3 X5 (by omega)) (keep h3 k3) (by omega) (.inr ⟨rfl,rfl,fun p q r=>Sx ⟨p,q,r⟩⟩) _ _ _ _ _ _ _ _ _ _ _ _ _ _
end
theorem Hp (L:List jP) (h:Heap) (v:Value) (hv:Sl ua h v L) (hlo:h.lo≤h.nx) (ro:qP h) (κ:KQ) (hk:∀h,κ (.bool true) h) :
  CallW Tryz.prog 4 [v] h κ:=by
 obtain ⟨xa,ca,ev,_⟩:=(show Sl ua h v L from hv)
 have hlen:∀(β:Type) (fl:β) (h':Heap) (κ:Value→Heap→β),br fl v h' κ=κ (.int .i64 (L.length:Int)) h':=fun β fl h' κ=>by rw[ev]; exact iK _ _ _ _ _
 refine an mixed ?_
 rw[aeP]
 refine Sj h _ hlo ro ?_
 intro h1 bA
 have n1:=bA.nx
 have l1:=bA.lo
 by_cases a1:40<L.length
 ·simp(disch:=first|omega|simp only[Wd]<;>omega|rfl)only[Wz,hlen,a_ (show (40:Int)<(L.length:Int) by omega)]
  exact hk _
 simp(disch:=first|omega|simp only[Wd]<;>omega|rfl)only[Wz,hlen,aN (show ¬(40:Int)<(L.length:Int) by omega),M6]
 refine JN 1 ⟨by decide,by decide⟩ h1 _ (by omega) ?_
 intro h2 A a d Rd nw s2 bt _
 have n2:=bt.nx
 have l2:=bt.lo
 refine AM h2 _ (by omega) ?_
 intro h3 c9
 have n3:=c9.nx
 have l3:=c9.lo
 refine Sv iZ h3 h3 _ (by omega) (fun hn=>absurd JM hn) ?_
 intro h4 rt rp rl vr R hd _ ehd tab emp hrl iw
 have n4:=iw.nx
 have hd8:hd=8:=by
  have h8:iZ.H=8:=rfl
  omega
 subst hd8
 have hh:a.aF=8:=by
  have:=nw.hd
  have h8:iZ.H=8:=rfl
  omega
 have hne:rl≠a.bl:=by
  have:=s2.t.is.bX.lt
  omega
 have Lr:∀r∈R,r.K=[]:=fun r hr=>(emp r hr).1
 have i0:qy h h3 A a rt rp rl vr h4 0 0 d Rd R (List.replicate iZ.R.toNat false) (fun _ _=>0) (fun _ _=>0):=by
  refine ⟨(s2.le c9).le iw,nw.lone _,?_,fun k hk=>?_,nw.bit (by decide),by rw[nw.begun]; decide,Nat.le_refl _,tab,⟨fun r hr k hk=>?_,fun t r hH=>absurd rfl hH,fun j r hj k hk=>?_,fun r hr=>?_,fun r hr=>?_,fun r hr k hk=>?_⟩,?_,by rw[List.length_replicate]; rfl,bA.trans (bt.trans (c9.trans iw)),n4⟩
  ·rw[nw.cs]; rfl
  ·rw[nw.cG,List.getElem?_replicate,if_pos (show k<(iZ.S).toNat from hk)]
  ·rw[Lr r hr] at hk; cases hk
  ·rw[Lr r (List.mem_of_getElem? hj)] at hk; cases hk
  ·rw[Lr r hr]; exact List.Pairwise.nil
  ·rw[Lr r hr]; exact Nat.zero_le _
  ·rw[Lr r hr] at hk; cases hk
  ·unfold Lm
   rw[show (R.map fun r=>r.K.length)=R.map fun _=>0 from List.map_congr_left fun r hr=>by rw[Lr r hr]; rfl,yq]
   have:∀R:List RB,(R.map fun _=>0).sum=0:=fun R=>by
    induction R with
    | nil=>rfl
    | cons r R ih=>rw[List.map_cons,List.sum_cons,ih]
   rw[this]; rfl
 simp(disch:=first|omega|simp only[Wd]<;>omega|rfl)only[Wz]
 refine ⟨fun m l h5=>∃i:Nat,slot l 102=.int .i64 (i:Int)∧m=L.length-i∧i≤L.length∧∃N d Rd R B G,qy h h3 A a rt rp rl vr h5 i N d Rd R B G G,⟨_,0,rfl,rfl,by omega,_,_,_,_,_,_,i0⟩,?_⟩
 rintro m l h5 ⟨i,e,rfl,hi,N,d5,Rd5,R5,B5,G5,s5⟩
 by_cases hlt:i<L.length
 ·obtain ⟨x,hx⟩:∃x,L[i]? = some x:=⟨_,List.getElem?_eq_getElem hlt⟩
  simp(disch:=first|omega|simp only[Wd]<;>omega|rfl)only[Wz,Gs,hlen,e,cq (show (i:Int)<(L.length:Int) by omega)]
  refine ⟨fun l' h'=>∃N d Rd R B G,qy h h3 A a rt rp rl vr h' (i+1) N d Rd R B G G,?_,?_⟩
  ·exact Sw s5 nw.ec hh hne ro (by omega) hv hx l e _ κ fun l' h' q=>q
  ·rintro l' h6 q
   exact ⟨_,by omega,i+1,rfl,rfl,by omega,q⟩
 ·simp(disch:=first|omega|simp only[Wd]<;>omega|rfl)only[Wz,Gs,hlen,e,bP (show (L.length:Int)≤(i:Int) by omega)]
  exact hk _
end Go.Proofs

namespace Go.Proofs
open Go.Vai Go.Clashes Go.ChangeShapes Go.WideShapes
theorem laidOut:laidOutB Tryz.prog=true:=by kernel_rfl
theorem decK {H:Type} {enc:TypeId × Value→H} {w:World} (n:Nat) (cs:List Value) (d:DataW H × List MemPlace) (hl:cs.length=7) (h:DataW.trod enc Tryz.prog w 0 (fun _=>true) true n 39 cs=some d):∃p:jP,cs=ua p:=by
 have k0:=MM (P:=Tryz.prog) 10 39 [.i .i64,.i .i64,.i .i64,.i .i64,.i .i64,.i .i64,.i .i64] (by kernel_rfl) _ _ _ h
 clear h
 obtain ⟨_,_,rfl,⟨n0,rfl,_⟩,k1⟩:=k0.rj
 obtain ⟨_,_,rfl,⟨n1,rfl,_⟩,k2⟩:=k1.rj
 obtain ⟨_,_,rfl,⟨n2,rfl,_⟩,k3⟩:=k2.rj
 obtain ⟨_,_,rfl,⟨n3,rfl,_⟩,k4⟩:=k3.rj
 obtain ⟨_,_,rfl,⟨n4,rfl,_⟩,k5⟩:=k4.rj
 obtain ⟨_,_,rfl,⟨n5,rfl,_⟩,k6⟩:=k5.rj
 obtain ⟨_,_,rfl,⟨n6,rfl,_⟩,k7⟩:=k6.rj
 cases k7.Zm
 exact ⟨⟨_,_,_,_,_,_,_⟩,rfl⟩
theorem memRo (w:World):qP (memH w):=by
 intro d
 refine ⟨fun vs t o e=>?_,fun es c e=>?_⟩
 ·obtain ⟨C,e',fz,_,h⟩:=p_ e
  cases h
 ·obtain ⟨C,e',fz,_,h⟩:=p_ e
  cases h
theorem lawAlone_row (L:List jP) (h:Heap) (v:Value) (hv:Sl ua h v L) (cv:Cut 39 7 h v L.length) (hlo:h.lo≤h.nx) (ro:qP h) :
  CallW Tryz.prog 4 [v] h Bi:=Hp L h v hv hlo ro Bi fun _=>rfl
end Go.Proofs
