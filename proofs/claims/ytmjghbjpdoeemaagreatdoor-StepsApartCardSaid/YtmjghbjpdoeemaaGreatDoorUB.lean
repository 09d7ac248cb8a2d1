/-
  PROVED HERE: a part of the proof (U9, U10, U11, U12, U13).
-/
import Derived.Test.YtmjghbjpdoeemaaGreatDoorUA
import Derived.Test.YtmjghbjpdoeemaaGreatDoorKE
import Derived.Test.YtmjghbjpdoeemaaGreatDoorKF
import Derived.Shelf.SlSortCmp.NoneTotal
import Derived.Deep.DeepFit
import Derived.Test.YtmjghbjpdoeemaaGreatDoorKG
set_option linter.unusedVariables false
set_option linter.unusedSimpArgs false
set_option maxRecDepth 100000
set_option maxHeartbeats 4000000
namespace Go.Proofs
open Go.Vai Go.Clashes
structure HC where
 t:Int
 r:Int
 a:Option Addr
 n:Nat
 c:Nat
 w:Int
instance:Inhabited HC:=⟨⟨0,0,none,0,0,0⟩⟩
def u9 (x:HC):List Value:=[.int .i64 x.t,.int .i64 x.r,.slice x.a x.n x.c,.int .i64 x.w]
def Xz (x y:HC):Int:=KA (x.t,x.r) (y.t,y.r)
theorem aaL:Go.Sort.SWO (ltOf Xz) where
 irrefl x:=Mn.irrefl (x.t,x.r)
 trans x y z h1 h2:=Mn.trans (x.t,x.r) (y.t,y.r) (z.t,z.r) h1 h2
 ntrans x y z h1 h2:=Mn.ntrans (x.t,x.r) (y.t,y.r) (z.t,z.r) h1 h2
theorem Dt (t r t' r':Int) (W:World):Calls Tryz.prog 92 #[.agg #[.int .i64 t,.int .i64 r],.agg #[.int .i64 t',.int .i64 r']] W fun e w'=>e=.returned (.int .i64 (pX t r t' r'))∧∃q os',w'=Go.Sort.grow (W.drewN q) os':=
 uW (args:=[dK t r,dK t' r']) (args':=[dK t r,dK t' r']) (rA t r t' r' rfl) (.cons (VR.qf (.cons (.int _ _) (.cons (.int _ _) .nil))) (.cons (VR.qf (.cons (.int _ _) (.cons (.int _ _) .nil))) .nil)) rfl W
theorem JQ (x y:HC) (W:World):Calls Tryz.prog 105 #[.agg #[.int .i64 x.t,.int .i64 x.r,.slice x.a x.n x.c,.int .i64 x.w],.agg #[.int .i64 y.t,.int .i64 y.r,.slice y.a y.n y.c,.int .i64 y.w]] W fun e w'=>e=.returned (.int .i64 (Xz x y))∧∃q os',w'=Go.Sort.grow (W.drewN q) os':=by
 have V_:=fun W'=>Dt x.t x.r y.t y.r W'
 show Calls _ _ _ _ fun e w'=>e=.returned (.int .i64 (pX x.t x.r y.t y.r))∧_
 generalize pX x.t x.r y.t y.r=v at V_ ⊢
 generalize x.t=xt,x.r=xr,y.t=yt,y.r=yr at *
 go_enter Tryz.func105,Tryz.ntmps105
 go_wp2_with (go_at_call 92; refine (V_ _).mono ?_; rintro e w' ⟨rfl,q,os',rfl⟩)
 go_ret
 refine ⟨rfl,?_⟩
 rw[Go.Sort.alloc_eq_grow,Go.Sort.alloc_eq_grow,Go.Sort.grow_grow]
 exact ⟨q,_,(show Go.Sort.grow (Go.Sort.grow (W.drewN q) _) os'=_ from Go.Sort.grow_grow _ _ _)⟩
theorem JR (blk size:Nat) (w:World):Go.Proofs.CmpLays Tryz.prog 105 #[] u9 4 Xz blk 0 size w:=by
 intro m os dk _ x y
 exact JQ x y _
theorem rD:∀args w,(callFunc 104 args).run Tryz.prog w=.ok (.enter 104 args) w:=enters_of Tryz.func104 (by kernel_rfl) rfl
theorem za (blk cap:Nat) (d:Array HC) (w:World) (hH:Go.Sort.HoldsK u9 4 w blk 0 d) (hblk:blk<w.heap.size) (hsz:d.size<4611686018427387904) :
  Calls Tryz.prog 104 #[.slice (some ⟨blk,0,none⟩) d.size cap,.func (.func 105) #[] #[]] w fun e w'=>e=.returned (.tuple #[])∧∃d' n os,Go.Sort.PermIn 0 d.size d d'∧Go.Sort.SortedIn (fun x y=>ltOf KA (x.t,x.r) (y.t,y.r)) 0 d.size d'∧w'=Go.Proofs.sortWorldK u9 4 w blk 0 n d' os:=by
 have eg:∀args w,(callFunc 105 args).run Tryz.prog w=.ok (.enter 105 args) w:=enters_of Tryz.func105 (by kernel_rfl) rfl
 exact Go.Proofs.AnyQ.slices_SortFunc Tryz.BP 4 Tryz.isAgg81 Tryz.sizeOf81 u9 (fun _=>rfl) (fun x v hv=>by simp[u9] at hv; rcases hv with rfl | rfl | rfl | rfl<;>rfl) Xz aaL 105 #[] blk 0 cap d w eg (JR blk d.size w) hH hblk hsz
theorem wz (p:Option Addr) (cap:Nat) (fv:Value) (w:World):Calls Tryz.prog 104 #[.slice p 0 cap,fv] w fun e w'=>e=.returned (.tuple #[])∧w'=w:=Go.Proofs.AnyF.slices_SortFunc_none Tryz.BP p cap fv w
theorem JS (q:Value):∃a n c,Rs q=.slice a n c:=by
 unfold Rs
 split
 ·exact ⟨_,_,_,rfl⟩
 ·exact ⟨_,_,_,rfl⟩
theorem VR.toSlice {φ:di} {a:Option Addr} {n c:Nat} {v:Value} (h:VR φ (.slice a n c) v):∃a' n' c',v=.slice a' n' c':=by
 cases h<;>exact ⟨_,_,_,rfl⟩
theorem aaM (φ:di) (x:HE) (cs:List Value) (h:F2 (VR φ) (oH x) cs):∃y:HC,cs=u9 y∧(x.t,x.r)=(y.t,y.r):=by
 obtain ⟨a,n,c,e⟩:=JS x.q
 unfold oH at h
 rw[e] at h
 cases h with | cons h1 h=>
 cases h with | cons h2 h=>
 cases h with | cons h3 h=>
 cases h with | cons h4 h=>
 cases h
 cases h1; cases h2; cases h4
 obtain ⟨a',n',c',rfl⟩:=VR.toSlice h3
 exact ⟨⟨x.t,x.r,a',n',c',x.w⟩,rfl,rfl⟩
theorem Mx (a h:Heap) (K:List HE) (v:Value) (κ:KQ) (ho:Ga a h v K) (hle:Le a h) (hl:K.length≤1000000)
  (hk:∀(D:List HE) h',D.Perm K→D.Pairwise (fun x y=>¬xx (y.t,y.r) (x.t,x.r))→Ga a h' v D→Le a h'→(h'.nx=h.nx∧∀c,c<h.nx→h.bl.get c≠some (aa (K.flatMap oH) 81 true)→h'.bl.get c=h.bl.get c)→κ (.tuple ⟨[]⟩) h'):CallW Tryz.prog 104 [v,.func (.func 105) #[] #[]] h κ:=by
 rcases ho with ⟨rfl,hv⟩ | ⟨b,hv,h1,h2,h3,h4⟩
 ·exact F9 rD wz hv (hk [] h (List.Perm.refl _) List.Pairwise.nil (.inl ⟨rfl,hv⟩) hle ⟨rfl,fun _ _ _=>rfl⟩)
 ·cases hv
  refine E1 (by decide) (enc:=u9) (cv:=oH) (fun _=>rfl) pZ (kA:=fun x=>(x.t,x.r)) (kC:=fun x=>(x.t,x.r)) (lt:=fun x y=>ltOf KA x y) aaM rD za h4 h3 hl ?_
  intro D hp hs
  refine hk D _ hp (hs.imp fun {x y} h=>E2.1 h) (.inr ⟨b,by rw[hp.length_eq],h1,h2,h3,T.af _ _ _⟩) ⟨hle.nx,hle.lo,fun c hc=>?_⟩ ⟨rfl,fun c hc hne=>?_⟩
  ·exact (T.ai _ _ (by omega)).trans (hle.get c hc)
  ·refine T.ai _ _ ?_
   rintro rfl
   exact hne h4
structure Wa (h:Heap) (Ts:List TB) (v:Value) (K:List HE):Prop where
 perm:(K.map ef).Perm (Ts.flatMap fun b=>b.M.map ef)
 srt:(K.map ef).Pairwise xx
 each:∀k∈K,(∃b∈Ts,∃e∈b.M,E3 k e)∧QV h k.q k.Q
 sl:Sl oH h v K
 ty:tJ 81 h v
theorem rR.keep {h h':Heap} {tb bw bp bl:Nat} {c:fW} {vb:Value} {aH:Nat} {Ts:List TB} {W:List IE} {wc:Nat} {F:List Int} {B:List Bool} (s:dQ h tb bw bp bl c vb aH Ts W wc F B) (f:rR Ts bw bp bl h h') {d:Nat} {vs:List Value} {ty:TypeId} {op:Bool} (hd:d<h.nx) (hg:h.bl.get d=some (aa vs ty op)) (h1:ty≠225) (h2:ty≠4) (h3:ty≠3):h'.bl.get d=h.bl.get d:=by
 obtain ⟨fs,uL,hpt⟩:=s.dh.fr.cell
 have gl:=s.dh.cell
 have gw:=s.kS
 refine f.get d hd (fun b hb=>?_) (by rintro rfl; rw[hg] at gw; exact bB gw.symm) (by rintro rfl; rw[hg] at uL; exact aT h1 uL) (by rintro rfl; rw[hg] at gl; exact aT h2 gl) fun ws=>by rw[hg]; exact aT h3
 rintro rfl
 have gm:=(s.bk b hb).eG
 rw[hg] at gm
 exact bB gm.symm
section
variable {h:Heap} {tb bw bp bl:Nat} {c:fW} {vb:Value} {aH N:Nat} {Ts:List TB} {W:List IE} {wc:Nat} {F:List Int} {B:List Bool}
theorem jx.nodup (s:jx h tb bw bp bl c vb aH N Ts W wc F B):(Ts.flatMap fun b=>b.M.map ef).Nodup:=by
 rw[List.Nodup,List.pairwise_flatMap]
 constructor
 ·intro b hb
  rw[List.pairwise_map]
  exact (s.is.bk b hb).ok.nm.imp fun hn e=>hn ⟨congrArg Prod.fst e,congrArg Prod.snd e⟩
 ·rw[ee]
  intro i j p q hij hp hq x hx y hy hxy
  obtain ⟨e,he,rfl⟩:=List.mem_map.1 hx
  obtain ⟨f,hf,rfl⟩:=List.mem_map.1 hy
  have h1:=s.nm i p hp e he
  have h2:=s.nm j q hq f hf
  have e1:e.t=f.t:=congrArg Prod.fst hxy
  have e2:e.r=f.r:=congrArg Prod.snd hxy
  rw[e1,e2,h2] at h1
  omega
theorem Gg {α β:Type} (f:α→List β) {L:List α} {i:Nat} {b:α} (h:L[i]? = some b):(L.take (i+1)).flatMap f=(L.take i).flatMap f++f b:=by
 rw[List.take_add_one,h,List.flatMap_append]
 simp
theorem My (s:jx h tb bw bp bl c vb aH N Ts W wc F B) (hlo:h.lo≤h.nx) (κ:KQ) (hk:∀v h' K,Wa h' Ts v K→Le h h'→κ v h') :
  CallW Tryz.prog 65 [.pointer (some ⟨tb,0,none⟩)] h κ:=by
 refine aq mixed ?_
 rw[Uq]
 have gt:=s.is.kR
 have hs1:=s.is.s1
 obtain ⟨vx,vc,ev,_⟩:=(show Sl kQ h vb Ts from s.is.sl)
 have Wb:∀(β:Type) (fl:β) (h':Heap) (κ:Value→Heap→β),bA fl vb h' κ=κ (.int .i64 (Ts.length:Int)) h':=fun β fl h' κ=>by rw[ev]; exact dx _ _ _ _ _
 simp(disch:=first|omega|simp only[Wd]<;>omega|with_unfolding_all rfl)only[Wz,mO,aN,gt,Wb]
 have afT:=s.is.hd
 refine ⟨fun n l h1=>∃(i:Nat) (K:List HE),slot l 10=.int .i64 (i:Int)∧n=Ts.length-i∧i≤Ts.length∧(K.map ef).Perm ((Ts.take i).flatMap fun b=>b.M.map ef)∧(∀k∈K,(∃b∈Ts,∃e∈b.M,E3 k e)∧QV h1 k.q k.Q)∧K.length≤64*i∧Ga h h1 (slot l 8) K∧Le h h1,
  ⟨_,0,[],rfl,rfl,by omega,by simp,fun k hk=>(nomatch hk),by simp,.inl ⟨rfl,.inl rfl⟩,Le.refl _⟩,?_⟩
 rintro n l h1 ⟨i,K,s1,rfl,hi,hp,hE,Q6,ho,b_⟩
 have n1:=b_.nx
 have l1:=b_.lo
 by_cases hlt:i<Ts.length
 ·obtain ⟨b,hb⟩:∃b,Ts[i]? = some b:=⟨_,List.getElem?_eq_getElem hlt⟩
  have SH:=List.mem_of_getElem? hb
  obtain ⟨cc,oo,_,EY,nu⟩:=Mu s.is.sl i hb
  have nu:=nu h1 b_
  have sb:=(s.is.bk b SH).le b_
  have Je:=s.len b SH
  simp(disch:=first|omega|simp only[Wd]<;>omega|with_unfolding_all rfl)only[Wz,yN,s1,fI (show (i:Int)<(Ts.length:Int) by omega),EY,nu]
  refine Gb sb (by omega) (by omega) _ ?_
  intro v2 h2 K2 Xb hp2 hs2 hE2 yj bF
  have n2:=bF.nx
  have l2:=bF.lo
  refine h_ (enc:=oH) (a:=h) (L:=K) (M:=K2) pZ BQ (by decide) (by decide) (ho.le bF) yj.sl (b_.trans bF) (by omega) (by omega) _ ?_
  intro v5 h5 yT xy _ n5 l5 nY
  have FZ:∀d vs op,d<h2.nx→h2.bl.get d=some (aa vs 83 op)→h5.bl.get d=h2.bl.get d:=fun d vs op hc hg=>nY d hc (by rw[hg]; exact aT (by decide))
  refine ⟨_,by omega,i+1,K++K2,rfl,rfl,by omega,?_,?_,by rw[List.length_append]; omega,yT,xy⟩
  ·rw[Gg _ hb,List.map_append]
   exact hp.append hp2
  ·intro k hk'
   rcases List.mem_append.1 hk' with hk' | hk'
   ·exact ⟨(hE k hk').1,((hE k hk').2.le bF).frame n5 FZ⟩
   ·obtain ⟨e,he,se⟩:=(hE2 k hk').1
    exact ⟨⟨b,SH,e,he,se⟩,(hE2 k hk').2.frame n5 FZ⟩
 ·have hil:i=Ts.length:=by omega
  subst hil
  rw[List.take_length] at hp
  simp(disch:=first|omega|simp only[Wd]<;>omega|with_unfolding_all rfl)only[Wz,yN,s1,c6 (show (Ts.length:Int)≤(Ts.length:Int) by omega)]
  refine Mx h h1 K _ _ ho b_ (by omega) ?_
  intro D h' hD hpw ho' le' hfr
  have hnd:(D.map ef).Nodup:=(((hD.map ef).trans hp).nodup_iff).2 s.nodup
  refine hk _ h' D ⟨(hD.map ef).trans hp,?_,fun k hk'=>?_,ho'.sl,tJ.own ho'⟩ le'
  ·have h1:(D.map ef).Pairwise fun x y=>¬xx y x:=by
    rw[List.pairwise_map]
    exact hpw.imp fun {x y} h=>h
   exact (hnd.and h1).imp fun {x y} ⟨hne,hn⟩=>E0 (fun e=>hne e.symm) hn
  ·have:=hE k (hD.mem_iff.1 hk')
   exact ⟨this.1,this.2.frame (by omega) fun d vs op hc hg=>hfr.2 d hc (by rw[hg]; exact aT (by decide))⟩
end
structure L4 where
 x:Int
 t:Int
 r:Int
 m:Int
theorem RF {p q:L4}:p=q↔(p.x=q.x∧p.t=q.t∧p.r=q.r∧p.m=q.m):=by cases p; cases q; simp
instance:DecidableEq L4:=fun p q=>decidable_of_iff _ RF.symm
instance:Inhabited L4:=⟨⟨0,0,0,0⟩⟩
section
variable {h:Heap} {tb bw bp bl:Nat} {c:fW} {vb:Value} {aH N:Nat} {Ts:List TB} {W:List IE} {wc:Nat} {F:List Int} {B:List Bool}
end
theorem Mz (id:Int) (h:Heap) (κ:KQ) (hk:κ (.pointer none) h):CallW Tryz.prog 243 [.pointer none,.int .i64 id] h κ:=by
 refine aq mixed ?_
 rw[IN]
 simp(disch:=first|omega|simp only[Wd]<;>omega|with_unfolding_all rfl)only[Wz,u5]
 exact hk
theorem JT (id:Int) (h:Heap) (κ:KQ) (hlo:h.lo≤h.nx) (hk:∀h',Le h h'→κ (.tuple ⟨[dK 0 0,jF ⟨0,0,0,0,0⟩,.bool false]⟩) h'):CallW Tryz.prog 202 [.pointer none,.int .i64 id] h κ:=by
 refine aq mixed ?_
 rw[IM]
 simp(disch:=first|omega|simp only[Wd]<;>omega|with_unfolding_all rfl)only[Wz]
 obtain ⟨hA,aJ⟩:∃hA:Heap,hA=⟨h.nx+1+1,((h.bl.aW (h.nx) (aa [.int .i64 0,.int .i64 0] 36 false)).aW (h.nx+1) (hG ⟨0,0,0,0,0⟩)),h.lo⟩:=⟨_,rfl⟩
 have aU:Le h hA:=by subst aJ; exact (((Le.refl h).new _).new _)
 have g1:hA.bl.get (h.nx)=some (aa [.int .i64 0,.int .i64 0] 36 false):=by subst aJ; exact (T.ai _ _ (by omega)).trans (T.af _ _ _)
 have g3:hA.bl.get (h.nx+1)=some (hG ⟨0,0,0,0,0⟩):=by subst aJ; exact T.af _ _ _
 have ig:hA.nx=h.nx+1+1:=by subst aJ; rfl
 have ij:hA.lo=h.lo:=by subst aJ; rfl
 rw[←aJ]
 clear aJ
 refine Mz id hA _ ?_
 simp(disch:=first|omega|simp only[Wd]<;>omega|with_unfolding_all rfl)only[Wz,pT,g1,g3,bu]
 exact hk _ ((aU.set (by omega) _).set (by omega) _)
section
variable {h:Heap} {tb bw bp bl:Nat} {c:fW} {vb:Value} {aH N:Nat} {Ts:List TB} {W:List IE} {wc:Nat} {F:List Int} {B:List Bool}
theorem RG (s:jx h tb bw bp bl c vb aH N Ts W wc F B) (hlo:h.lo≤h.nx) (id:Int) (κ:KQ)
  (lF:∀h',(∀b∈Ts,∀e∈b.M,bT e.Q id=none)→Le h h'→κ (.tuple ⟨[dK 0 0,jF ⟨0,0,0,0,0⟩,.bool false]⟩) h')
  (jc:∀h' b e p,b∈Ts→e∈b.M→bT e.Q id=some p→Le h h'→κ (.tuple ⟨[dK e.t e.r,jF p,.bool true]⟩) h') :
  CallW Tryz.prog 152 [.pointer (some ⟨tb,0,none⟩),.int .i64 id] h κ:=by
 refine aq mixed ?_
 rw[PW]
 simp(disch:=first|omega|simp only[Wd]<;>omega|with_unfolding_all rfl)only[Wz]
 obtain ⟨hA,aJ⟩:∃hA:Heap,hA=⟨h.nx+1+1,((h.bl.aW (h.nx) (aa [.int .i64 0,.int .i64 0] 36 false)).aW (h.nx+1) (hG ⟨0,0,0,0,0⟩)),h.lo⟩:=⟨_,rfl⟩
 have aU:Le h hA:=by subst aJ; exact (((Le.refl h).new _).new _)
 have g1:hA.bl.get (h.nx)=some (aa [.int .i64 0,.int .i64 0] 36 false):=by subst aJ; exact (T.ai _ _ (by omega)).trans (T.af _ _ _)
 have g3:hA.bl.get (h.nx+1)=some (hG ⟨0,0,0,0,0⟩):=by subst aJ; exact T.af _ _ _
 have ig:hA.nx=h.nx+1+1:=by subst aJ; rfl
 have ij:hA.lo=h.lo:=by subst aJ; rfl
 rw[←aJ]
 clear aJ
 refine JN (s.le aU) (by omega) id _ ?_ ?_
 ·intro hno
  refine JT id hA _ (by omega) ?_
  intro h2 bF
  have xD:=bF.nx
  have xE:=bF.lo
  have g1:=(bF.get _ (by omega)).trans g1
  have g3:=(bF.get _ (by omega)).trans g3
  simp(disch:=first|omega|simp only[Wd]<;>omega|with_unfolding_all rfl)only[Wz,dK,bu,g1,g3]
  exact lF _ hno (((aU.trans bF).set (by omega) _).set (by omega) _)
 ·intro k b e p hk he hf
  have hb:=List.mem_of_getElem? hk
  refine Mi ((s.le aU).is.bk b hb) (by omega) id _ ?_ ?_
  ·intro h2 hno _
   rw[hno e he] at hf; cases hf
  ·intro h2 e2 p2 XX hf2 bF
   have xD:=bF.nx
   have xE:=bF.lo
   have g1:=(bF.get _ (by omega)).trans g1
   have g3:=(bF.get _ (by omega)).trans g3
   simp(disch:=first|omega|simp only[Wd]<;>omega|with_unfolding_all rfl)only[Wz,dK,bu,g1,g3]
   exact jc _ b e2 p2 hb XX hf2 (((aU.trans bF).set (by omega) _).set (by omega) _)
end
end Go.Proofs
