/-
  PROVED HERE: a part of the proof (U9, U10, U11, U12, U13).
-/
import Derived.Test.YtijmemedhkgplaaGreatDoorUA
import Derived.Test.YtijmemedhkgplaaGreatDoorKE
import Derived.Test.YtijmemedhkgplaaGreatDoorKF
import Derived.Shelf.SlSortCmp.NoneTotal
import Derived.Deep.DeepFit
import Derived.Test.YtijmemedhkgplaaGreatDoorKG
set_option linter.unusedVariables false
set_option linter.unusedSimpArgs false
set_option maxRecDepth 100000
set_option maxHeartbeats 4000000
namespace Go.Proofs
open Go.Vai Go.Clashes
structure HC where
 t:Int
 r:Int
 a:Option Addr
 n:Nat
 c:Nat
 w:Int
instance:Inhabited HC:=⟨⟨0,0,none,0,0,0⟩⟩
def yL (x:HC):List Value:=[.int .i64 x.t,.int .i64 x.r,.slice x.a x.n x.c,.int .i64 x.w]
def cfH (x y:HC):Int:=PG (x.t,x.r) (y.t,y.r)
theorem agU:Go.Sort.SWO (ltOf cfH) where
 irrefl x:=Ro.irrefl (x.t,x.r)
 trans x y z h1 h2:=Ro.trans (x.t,x.r) (y.t,y.r) (z.t,z.r) h1 h2
 ntrans x y z h1 h2:=Ro.ntrans (x.t,x.r) (y.t,y.r) (z.t,z.r) h1 h2
theorem GD (t r t' r':Int) (W:World):Calls Tryz.prog 54 #[.agg #[.int .i64 t,.int .i64 r],.agg #[.int .i64 t',.int .i64 r']] W fun e w'=>e=.returned (.int .i64 (pP t r t' r'))∧∃q os',w'=Go.Sort.grow (W.drewN q) os':=
 rF (args:=[dz t r,dz t' r']) (args':=[dz t r,dz t' r']) (pQ t r t' r' rfl) (.cons (VR.qX (.cons (.int _ _) (.cons (.int _ _) .nil))) (.cons (VR.qX (.cons (.int _ _) (.cons (.int _ _) .nil))) .nil)) rfl W
theorem O1 (x y:HC) (W:World):Calls Tryz.prog 53 #[.agg #[.int .i64 x.t,.int .i64 x.r,.slice x.a x.n x.c,.int .i64 x.w],.agg #[.int .i64 y.t,.int .i64 y.r,.slice y.a y.n y.c,.int .i64 y.w]] W fun e w'=>e=.returned (.int .i64 (cfH x y))∧∃q os',w'=Go.Sort.grow (W.drewN q) os':=by
 have ab9:=fun W'=>GD x.t x.r y.t y.r W'
 show Calls _ _ _ _ fun e w'=>e=.returned (.int .i64 (pP x.t x.r y.t y.r))∧_
 generalize pP x.t x.r y.t y.r=v at ab9 ⊢
 generalize x.t=xt,x.r=xr,y.t=yt,y.r=yr at *
 go_enter Tryz.func53,Tryz.ntmps53
 go_wp2_with (go_at_call 54; refine (ab9 _).mono ?_; rintro e w' ⟨rfl,q,os',rfl⟩)
 go_ret
 refine ⟨rfl,?_⟩
 rw[Go.Sort.alloc_eq_grow,Go.Sort.alloc_eq_grow,Go.Sort.grow_grow]
 exact ⟨q,_,(show Go.Sort.grow (Go.Sort.grow (W.drewN q) _) os'=_ from Go.Sort.grow_grow _ _ _)⟩
theorem O2 (blk size:Nat) (w:World):Go.Proofs.CmpLays Tryz.prog 53 #[] yL 4 cfH blk 0 size w:=by
 intro m os dk _ x y
 exact O1 x y _
theorem uX:∀args w,(callFunc 52 args).run Tryz.prog w=.ok (.enter 52 args) w:=enters_of Tryz.func52 (by kernel_rfl) rfl
theorem B6 (blk cap:Nat) (d:Array HC) (w:World) (hH:Go.Sort.HoldsK yL 4 w blk 0 d) (hblk:blk<w.heap.size) (hsz:d.size<4611686018427387904) :
  Calls Tryz.prog 52 #[.slice (some ⟨blk,0,none⟩) d.size cap,.func (.func 53) #[] #[]] w fun e w'=>e=.returned (.tuple #[])∧∃d' n os,Go.Sort.PermIn 0 d.size d d'∧Go.Sort.SortedIn (fun x y=>ltOf PG (x.t,x.r) (y.t,y.r)) 0 d.size d'∧w'=Go.Proofs.sortWorldK yL 4 w blk 0 n d' os:=by
 have eg:∀args w,(callFunc 53 args).run Tryz.prog w=.ok (.enter 53 args) w:=enters_of Tryz.func53 (by kernel_rfl) rfl
 exact Go.Proofs.AnyQ.slices_SortFunc Tryz.EI 4 Tryz.isAgg51 Tryz.sizeOf51 yL (fun _=>rfl) (fun x v hv=>by simp[yL] at hv; rcases hv with rfl | rfl | rfl | rfl<;>rfl) cfH agU 53 #[] blk 0 cap d w eg (O2 blk d.size w) hH hblk hsz
theorem zw (p:Option Addr) (cap:Nat) (fv:Value) (w:World):Calls Tryz.prog 52 #[.slice p 0 cap,fv] w fun e w'=>e=.returned (.tuple #[])∧w'=w:=Go.Proofs.AnyF.slices_SortFunc_none Tryz.EI p cap fv w
theorem O3 (q:Value):∃a n c,PI q=.slice a n c:=by
 unfold PI
 split
 ·exact ⟨_,_,_,rfl⟩
 ·exact ⟨_,_,_,rfl⟩
theorem VR.toSlice {φ:dJ} {a:Option Addr} {n c:Nat} {v:Value} (h:VR φ (.slice a n c) v):∃a' n' c',v=.slice a' n' c':=by
 cases h<;>exact ⟨_,_,_,rfl⟩
theorem agV (φ:dJ) (x:HE) (cs:List Value) (h:F2 (VR φ) (eX x) cs):∃y:HC,cs=yL y∧(x.t,x.r)=(y.t,y.r):=by
 obtain ⟨a,n,c,e⟩:=O3 x.q
 unfold eX at h
 rw[e] at h
 cases h with | cons h1 h=>
 cases h with | cons h2 h=>
 cases h with | cons h3 h=>
 cases h with | cons h4 h=>
 cases h
 cases h1; cases h2; cases h4
 obtain ⟨a',n',c',rfl⟩:=VR.toSlice h3
 exact ⟨⟨x.t,x.r,a',n',c',x.w⟩,rfl,rfl⟩
theorem RH (a h:Heap) (K:List HE) (v:Value) (κ:KQ) (ho:rG a h v K) (hle:Le a h) (hl:K.length≤1000000)
  (hk:∀(D:List HE) h',D.Perm K→D.Pairwise (fun x y=>¬fH (y.t,y.r) (x.t,x.r))→rG a h' v D→Le a h'→(h'.nx=h.nx∧∀c,c<h.nx→h.bl.get c≠some (af (K.flatMap eX) 51 true)→h'.bl.get c=h.bl.get c)→κ (.tuple ⟨[]⟩) h'):CallW Tryz.prog 52 [v,.func (.func 53) #[] #[]] h κ:=by
 rcases ho with ⟨rfl,hv⟩ | ⟨b,hv,h1,h2,h3,h4⟩
 ·exact Aj uX zw hv (hk [] h (List.Perm.refl _) List.Pairwise.nil (.inl ⟨rfl,hv⟩) hle ⟨rfl,fun _ _ _=>rfl⟩)
 ·cases hv
  refine BZ (by decide) (enc:=yL) (dc:=eX) (fun _=>rfl) b6 (kA:=fun x=>(x.t,x.r)) (kC:=fun x=>(x.t,x.r)) (lt:=fun x y=>ltOf PG x y) agV uX B6 h4 h3 hl ?_
  intro D hp hs
  refine hk D _ hp (hs.imp fun {x y} h=>Jb.1 h) (.inr ⟨b,by rw[hp.length_eq],h1,h2,h3,T.aa _ _ _⟩) ⟨hle.nx,hle.lo,fun c hc=>?_⟩ ⟨rfl,fun c hc hne=>?_⟩
  ·exact (T.aj _ _ (by omega)).trans (hle.get c hc)
  ·refine T.aj _ _ ?_
   rintro rfl
   exact hne h4
structure ny (h:Heap) (Ts:List TB) (v:Value) (K:List HE):Prop where
 perm:(K.map a_).Perm (Ts.flatMap fun b=>b.M.map a_)
 qB:(K.map a_).Pairwise fH
 each:∀k∈K,(∃b∈Ts,∃e∈b.M,nw k e)∧QV h k.q k.Q
 sl:Sl eX h v K
 ty:uK 51 h v
theorem ny.le {h h':Heap} {Ts:List TB} {v:Value} {K:List HE} (t:ny h Ts v K) (l:Le h h'):ny h' Ts v K:=
 ⟨t.perm,t.qB,fun k hk=>⟨(t.each k hk).1,(t.each k hk).2.le l⟩,t.sl.le l,t.ty.le l⟩
theorem uq.keep {h h':Heap} {tb bw bp bl:Nat} {c:fI} {vb:Value} {aG:Nat} {Ts:List TB} {W:List IE} {wc:Nat} {F:List Int} {B:List Bool} (s:dW h tb bw bp bl c vb aG Ts W wc F B) (f:uq Ts bw bp bl h h') {d:Nat} {vs:List Value} {ty:TypeId} {op:Bool} (hd:d<h.nx) (hg:h.bl.get d=some (af vs ty op)) (h1:ty≠132) (h2:ty≠4) (h3:ty≠3):h'.bl.get d=h.bl.get d:=by
 obtain ⟨fs,v_,hpt⟩:=s.bM.fr.cell
 have gl:=s.bM.cell
 have gw:=s.om
 refine f.get d hd (fun b hb=>?_) (by rintro rfl; rw[hg] at gw; exact bN gw.symm) (by rintro rfl; rw[hg] at v_; exact aL h1 v_) (by rintro rfl; rw[hg] at gl; exact aL h2 gl) fun ws=>by rw[hg]; exact aL h3
 rintro rfl
 have gm:=(s.bk b hb).iT
 rw[hg] at gm
 exact bN gm.symm
section
variable {h:Heap} {tb bw bp bl:Nat} {c:fI} {vb:Value} {aG N:Nat} {Ts:List TB} {W:List IE} {wc:Nat} {F:List Int} {B:List Bool}
theorem iW.nodup (s:iW h tb bw bp bl c vb aG N Ts W wc F B):(Ts.flatMap fun b=>b.M.map a_).Nodup:=by
 rw[List.Nodup,List.pairwise_flatMap]
 constructor
 ·intro b hb
  rw[List.pairwise_map]
  exact (s.is.bk b hb).ok.nm.imp fun hn e=>hn ⟨congrArg Prod.fst e,congrArg Prod.snd e⟩
 ·rw[cr]
  intro i j p q hij hp hq x hx y hy hxy
  obtain ⟨e,he,rfl⟩:=List.mem_map.1 hx
  obtain ⟨f,hf,rfl⟩:=List.mem_map.1 hy
  have h1:=s.nm i p hp e he
  have h2:=s.nm j q hq f hf
  have e1:e.t=f.t:=congrArg Prod.fst hxy
  have e2:e.r=f.r:=congrArg Prod.snd hxy
  rw[e1,e2,h2] at h1
  omega
theorem kN {α β:Type} (f:α→List β) {L:List α} {i:Nat} {b:α} (h:L[i]? = some b):(L.take (i+1)).flatMap f=(L.take i).flatMap f++f b:=by
 rw[List.take_add_one,h,List.flatMap_append]
 simp
theorem Jn (s:iW h tb bw bp bl c vb aG N Ts W wc F B) (hlo:h.lo≤h.nx) (κ:KQ) (hk:∀v h' K,ny h' Ts v K→Le h h'→κ v h') :
  CallW Tryz.prog 15 [.pointer (some ⟨tb,0,none⟩)] h κ:=by
 refine aq mixed ?_
 rw[Zf]
 have gt:=s.is.lH
 have hs1:=s.is.s1
 obtain ⟨vx,vc,ev,_⟩:=(show Sl mA h vb Ts from s.is.sl)
 have O4:∀(β:Type) (fl:β) (h':Heap) (κ:Value→Heap→β),bh fl vb h' κ=κ (.int .i64 (Ts.length:Int)) h':=fun β fl h' κ=>by rw[ev]; exact m_ _ _ _ _ _
 simp(disch:=first|omega|simp only[Wd]<;>omega|with_unfolding_all rfl)only[Wz,lI,aU,gt,O4]
 have agW:=s.is.hd
 refine ⟨fun n l h1=>∃(i:Nat) (K:List HE),slot l 10=.int .i64 (i:Int)∧n=Ts.length-i∧i≤Ts.length∧(K.map a_).Perm ((Ts.take i).flatMap fun b=>b.M.map a_)∧(∀k∈K,(∃b∈Ts,∃e∈b.M,nw k e)∧QV h1 k.q k.Q)∧K.length≤64*i∧rG h h1 (slot l 8) K∧Le h h1,
  ⟨_,0,[],rfl,rfl,by omega,by simp,fun k hk=>(nomatch hk),by simp,.inl ⟨rfl,.inl rfl⟩,Le.refl _⟩,?_⟩
 rintro n l h1 ⟨i,K,s1,rfl,hi,hp,hE,Ku,ho,bu⟩
 have n1:=bu.nx
 have l1:=bu.lo
 by_cases hlt:i<Ts.length
 ·obtain ⟨b,hb⟩:∃b,Ts[i]? = some b:=⟨_,List.getElem?_eq_getElem hlt⟩
  have X5:=List.mem_of_getElem? hb
  obtain ⟨cc,oo,_,Fh,dg⟩:=OY s.is.sl i hb
  have dg:=dg h1 bu
  have sb:=(s.is.bk b X5).le bu
  have XV:=s.len b X5
  simp(disch:=first|omega|simp only[Wd]<;>omega|with_unfolding_all rfl)only[Wz,Bh,s1,bZ (show (i:Int)<(Ts.length:Int) by omega),Fh,dg]
  refine KU sb (by omega) (by omega) _ ?_
  intro v2 h2 K2 S6 hp2 hs2 hE2 jv aZ
  have n2:=aZ.nx
  have l2:=aZ.lo
  refine cT (enc:=eX) (a:=h) (L:=K) (M:=K2) b6 gW (by decide) (by decide) (ho.le aZ) jv.sl (bu.trans aZ) (by omega) (by omega) _ ?_
  intro v5 h5 tV iY _ n5 l5 og
  have Fi:∀d vs op,d<h2.nx→h2.bl.get d=some (af vs 54 op)→h5.bl.get d=h2.bl.get d:=fun d vs op hc hg=>og d hc (by rw[hg]; exact aL (by decide))
  refine ⟨_,by omega,i+1,K++K2,rfl,rfl,by omega,?_,?_,by rw[List.length_append]; omega,tV,iY⟩
  ·rw[kN _ hb,List.map_append]
   exact hp.append hp2
  ·intro k hk'
   rcases List.mem_append.1 hk' with hk' | hk'
   ·exact ⟨(hE k hk').1,((hE k hk').2.le aZ).frame n5 Fi⟩
   ·obtain ⟨e,he,se⟩:=(hE2 k hk').1
    exact ⟨⟨b,X5,e,he,se⟩,(hE2 k hk').2.frame n5 Fi⟩
 ·have hil:i=Ts.length:=by omega
  subst hil
  rw[List.take_length] at hp
  simp(disch:=first|omega|simp only[Wd]<;>omega|with_unfolding_all rfl)only[Wz,Bh,s1,bL (show (Ts.length:Int)≤(Ts.length:Int) by omega)]
  refine RH h h1 K _ _ ho bu (by omega) ?_
  intro D h' hD Ow ho' le' hfr
  have hnd:(D.map a_).Nodup:=(((hD.map a_).trans hp).nodup_iff).2 s.nodup
  refine hk _ h' D ⟨(hD.map a_).trans hp,?_,fun k hk'=>?_,ho'.sl,uK.own ho'⟩ le'
  ·have h1:(D.map a_).Pairwise fun x y=>¬fH y x:=by
    rw[List.pairwise_map]
    exact Ow.imp fun {x y} h=>h
   exact (hnd.and h1).imp fun {x y} ⟨hne,hn⟩=>I_ (fun e=>hne e.symm) hn
  ·have:=hE k (hD.mem_iff.1 hk')
   exact ⟨this.1,this.2.frame (by omega) fun d vs op hc hg=>hfr.2 d hc (by rw[hg]; exact aL (by decide))⟩
end
structure L4 where
 x:Int
 t:Int
 r:Int
 m:Int
theorem W9 {p q:L4}:p=q↔(p.x=q.x∧p.t=q.t∧p.r=q.r∧p.m=q.m):=by cases p; cases q; simp
instance:DecidableEq L4:=fun p q=>decidable_of_iff _ W9.symm
instance:Inhabited L4:=⟨⟨0,0,0,0⟩⟩
def gf (a:L4):List Value:=[.int .i64 a.x,.int .i64 a.t,.int .i64 a.r,.int .i64 a.m]
theorem lJ (a:L4):(gf a).length=4:=rfl
theorem sZ (a:L4):(gf a).all ef=true:=rfl
def O5 (a b:L4):Int:=if qA a.x b.x=0 then pP a.t a.r b.t b.r else qA a.x b.x
def qS (a b:L4):Prop:=a.x<b.x∨(a.x=b.x∧fH (a.t,a.r) (b.t,b.r))
theorem B7 (a b:L4):ltOf O5 a b=true↔qS a b:=by
 show decide (O5 a b<0)=true↔_
 rw[decide_eq_true_eq]
 have:=Ew (a.t,a.r) (b.t,b.r)
 unfold O5 qS
 split
 ·rename_i h
  have hx:a.x=b.x:=by unfold qA at h; split at h<;>(try split at h)<;>omega
  rw[this]
  constructor
  ·exact fun h=>.inr ⟨hx,h⟩
  ·rintro (h | h)
   ·omega
   ·exact h.2
 ·rename_i h
  unfold qA at *
  split
  ·exact ⟨fun _=>.inl (by assumption),fun _=>by decide⟩
  ·rename_i h1
   rw[if_neg h1] at h
   split
   ·exact ⟨fun h=>by omega,fun h=>by rcases h with h | h<;>omega⟩
   ·rename_i h2; rw[if_neg h2] at h; exact absurd rfl h
theorem O6 {a b:L4}:ltOf O5 a b=false↔¬qS a b:=by rw[←B7,Bool.not_eq_true]
theorem Ld {a b c:L4} (h1:qS a b) (h2:qS b c):qS a c:=by unfold qS fH at *; simp only at *; omega
theorem agX:Go.Sort.SWO (ltOf O5) where
 irrefl x:=O6.2 (by unfold qS fH; simp only; omega)
 trans x y z h1 h2:=(B7 _ _).2 (Ld ((B7 _ _).1 h1) ((B7 _ _).1 h2))
 ntrans x y z h1 h2:=by
  rw[O6] at *
  unfold qS fH at *
  simp only at *
  omega
theorem W_ (a b:L4) {h:Heap} {κ:Value→Heap→Prop} (hk:κ (.int .i64 (O5 a b)) h):CallW Tryz.prog 56 [.agg ⟨gf a⟩,.agg ⟨gf b⟩] h κ:=by
 refine fo (v:=.int .i64 (O5 a b)) rfl rfl (aq mixed ?_) hk
 rw[ZW]
 simp(disch:=first|omega|simp only[Wd]<;>omega|with_unfolding_all rfl)only[Wz,gf]
 refine rD _ _ ?_
 simp(disch:=first|omega|simp only[Wd]<;>omega|with_unfolding_all rfl)only[Wz]
 refine pQ _ _ _ _ ?_
 simp(disch:=first|omega|simp only[Wd]<;>omega|with_unfolding_all rfl)only[Wz]
 refine abh _ _ _ _ (Sl.new (L:=[qA a.x b.x,pP a.t a.r b.t b.r]) (e:=3) (op:=false) (Nat.lt_succ_self _) (T.aa _ _ _) _) _ ?_
 rfl
theorem O8 (blk size:Nat) (w:World):Go.Proofs.CmpLays Tryz.prog 56 #[] gf 4 O5 blk 0 size w:=by
 intro m os dk _ x y
 exact rF (args:=[.agg ⟨gf x⟩,.agg ⟨gf y⟩]) (args':=[.agg ⟨gf x⟩,.agg ⟨gf y⟩]) (W_ x y rfl)
  (.cons (VR.qX (.cons (.int _ _) (.cons (.int _ _) (.cons (.int _ _) (.cons (.int _ _) .nil))))) (.cons (VR.qX (.cons (.int _ _) (.cons (.int _ _) (.cons (.int _ _) (.cons (.int _ _) .nil))))) .nil)) rfl _
theorem uY:∀args w,(callFunc 55 args).run Tryz.prog w=.ok (.enter 55 args) w:=enters_of Tryz.func55 (by kernel_rfl) rfl
theorem B8 (blk cap:Nat) (d:Array L4) (w:World) (hH:Go.Sort.HoldsK gf 4 w blk 0 d) (hblk:blk<w.heap.size) (hsz:d.size<4611686018427387904) :
  Calls Tryz.prog 55 #[.slice (some ⟨blk,0,none⟩) d.size cap,.func (.func 56) #[] #[]] w fun e w'=>e=.returned (.tuple #[])∧∃d' n os,Go.Sort.PermIn 0 d.size d d'∧Go.Sort.SortedIn (fun x y=>ltOf O5 x y) 0 d.size d'∧w'=Go.Proofs.sortWorldK gf 4 w blk 0 n d' os:=by
 have eg:∀args w,(callFunc 56 args).run Tryz.prog w=.ok (.enter 56 args) w:=enters_of Tryz.func56 (by kernel_rfl) rfl
 exact Go.Proofs.AnyQ.slices_SortFunc Tryz.EJ 4 Tryz.isAgg57 Tryz.sizeOf57 gf (fun _=>rfl) (fun x v hv=>by simp[gf] at hv; rcases hv with rfl | rfl | rfl | rfl<;>rfl) O5 agX 56 #[] blk 0 cap d w eg (O8 blk d.size w) hH hblk hsz
theorem zx (p:Option Addr) (cap:Nat) (fv:Value) (w:World):Calls Tryz.prog 55 #[.slice p 0 cap,fv] w fun e w'=>e=.returned (.tuple #[])∧w'=w:=Go.Proofs.AnyF.slices_SortFunc_none Tryz.EJ p cap fv w
theorem agY (φ:dJ) (x:L4) (cs:List Value) (h:F2 (VR φ) (gf x) cs):∃y:L4,cs=gf y∧x=y:=by
 unfold gf at h
 cases h with | cons h1 h=>
 cases h with | cons h2 h=>
 cases h with | cons h3 h=>
 cases h with | cons h4 h=>
 cases h
 cases h1; cases h2; cases h3; cases h4
 exact ⟨x,rfl,rfl⟩
abbrev zy (a h:Heap) (v:Value) (L:List L4):Prop:=cU gf a 57 h v L
theorem RI (a h:Heap) (L:List L4) (v:Value) (κ:KQ) (ho:zy a h v L) (hle:Le a h) (hl:L.length≤1000000)
  (hk:∀(D:List L4) h',D.Perm L→D.Pairwise (fun x y=>¬qS y x)→zy a h' v D→Le a h'→κ (.tuple ⟨[]⟩) h'):CallW Tryz.prog 55 [v,.func (.func 56) #[] #[]] h κ:=by
 rcases ho with ⟨rfl,hv⟩ | ⟨b,hv,h1,h2,h3,h4⟩
 ·exact Aj uY zx hv (hk [] h (List.Perm.refl _) List.Pairwise.nil (.inl ⟨rfl,hv⟩) hle)
 ·cases hv
  refine BZ (by decide) (enc:=gf) (dc:=gf) lJ lJ (kA:=id) (kC:=id) (lt:=fun x y=>ltOf O5 x y) agY uY B8 h4 h3 hl ?_
  intro D hp hs
  refine hk D _ hp (hs.imp fun {x y} h=>O6.1 h) (.inr ⟨b,by rw[hp.length_eq],h1,h2,h3,T.aa _ _ _⟩) ⟨hle.nx,hle.lo,fun c hc=>?_⟩
  exact (T.aj _ _ (by omega)).trans (hle.get c hc)
def gX (t r:Int) (Q:List R5):List L4:=(Q.filter fun p=>decide (p.m≠0)).map fun p=>⟨p.x,t,r,p.m⟩
def jY (e:HE):List L4:=gX e.t e.r e.Q
theorem GF {t r:Int} {Q:List R5} {j:Nat} {p:R5} (h:Q[j]? = some p):gX t r (Q.take (j+1))=gX t r (Q.take j)++(if p.m≠0 then [⟨p.x,t,r,p.m⟩] else []):=by
 unfold gX
 rw[List.take_add_one,h]
 simp only[Option.toList_some,List.filter_append,List.map_append]
 congr 1
 by_cases hm:p.m≠0
 ·rw[if_pos hm,List.filter_cons_of_pos (by simpa using hm)]; rfl
 ·rw[if_neg hm,List.filter_cons_of_neg (by simpa using hm)]; rfl
theorem nF {t r:Int} (Q:List R5):(gX t r Q).length≤Q.length:=by
 unfold gX
 rw[List.length_map]
 exact List.length_filter_le _ _
structure uZ (h:Heap) (Ts:List TB) (v:Value) (D:List L4) (K:List HE):Prop where
 names:(K.map a_).Perm (Ts.flatMap fun b=>b.M.map a_)
 agZ:(K.map a_).Pairwise fH
 each:∀k∈K,∃b∈Ts,∃e∈b.M,nw k e
 perm:D.Perm (K.flatMap jY)
 qB:D.Pairwise fun x y=>¬qS y x
 sl:Sl gf h v D
 ty:uK 57 h v
section
variable {h:Heap} {tb bw bp bl:Nat} {c:fI} {vb:Value} {aG N:Nat} {Ts:List TB} {W:List IE} {wc:Nat} {F:List Int} {B:List Bool}
theorem GG {K:List HE} {i:Nat} {e:HE} (h:K[i]? = some e):(K.take (i+1)).flatMap jY=(K.take i).flatMap jY++jY e:=kN jY h
theorem yM {K:List HE} (hs:∀k∈K,k.Q.length≤128):(K.flatMap jY).length≤128*K.length:=by
 induction K with
 | nil=>simp
 | cons k K ih=>
  rw[List.flatMap_cons,List.length_append,List.length_cons]
  have h1:=ih fun x hx=>hs x (.tail _ hx)
  have h2:=nF (t:=k.t) (r:=k.r) k.Q
  have h3:=hs k (.head _)
  have h4:(jY k).length≤128:=Nat.le_trans h2 h3
  omega
theorem Jo (s:iW h tb bw bp bl c vb aG N Ts W wc F B) (hlo:h.lo≤h.nx) (κ:KQ) (hk:∀v h' D K,uZ h' Ts v D K→zy h h' v D→Le h h'→κ v h') :
  CallW Tryz.prog 16 [.pointer (some ⟨tb,0,none⟩)] h κ:=by
 refine aq mixed ?_
 rw[Zh]
 refine Jn s hlo _ ?_
 intro v0 h0 K t0 GH
 have n0:=GH.nx
 have l0:=GH.lo
 obtain ⟨x0,c0,ev0,_⟩:=(show Sl eX h0 v0 K from t0.sl)
 have yN:∀(β:Type) (fl:β) (h':Heap) (κ:Value→Heap→β),bh fl v0 h' κ=κ (.int .i64 (K.length:Int)) h':=fun β fl h' κ=>by rw[ev0]; exact m_ _ _ _ _ _
 have hKs:∀k∈K,k.Q.length≤128:=by
  intro k hk'
  obtain ⟨⟨b,hb,e,he,se⟩,_⟩:=t0.each k hk'
  have:=((s.is.bk b hb).good e he).small
  rw[se.2.2.2]; exact this
 have Ku:K.length≤1024:=by
  have h1:=t0.perm.length_eq
  rw[List.length_map] at h1
  rw[h1]
  have h2:=s.is.s1.2
  have h3:=s.is.hd
  have:∀L:List TB,(∀b∈L,b.M.length≤64)→(L.flatMap fun b=>b.M.map a_).length≤64*L.length:=by
   intro L
   induction L with
   | nil=>intro _; simp
   | cons b L ih=>
    intro hL
    rw[List.flatMap_cons,List.length_append,List.length_map,List.length_cons]
    have h1:=ih fun x hx=>hL x (.tail _ hx)
    have h2:=hL b (.head _)
    omega
  have:=this Ts fun b hb=>by have:=s.len b hb; omega
  omega
 have al8:=yM hKs
 have htk:∀i,((K.take i).flatMap jY).length≤131072:=by
  intro i
  have h1:=yM (K:=K.take i) fun k hk'=>hKs k (List.mem_of_mem_take hk')
  have h2:(K.take i).length≤K.length:=by rw[List.length_take]; omega
  omega
 simp(disch:=first|omega|simp only[Wd]<;>omega|with_unfolding_all rfl)only[Wz,yN]
 refine ⟨fun n l h1=>∃i:Nat,slot l 28=.int .i64 (i:Int)∧n=K.length-i∧i≤K.length∧zy h0 h1 (slot l 24) ((K.take i).flatMap jY)∧Le h0 h1,
  ⟨_,0,rfl,rfl,by omega,.inl ⟨by simp,.inl rfl⟩,Le.refl _⟩,?_⟩
 rintro n l h1 ⟨i,s1,rfl,hi,ho,bu⟩
 have n1:=bu.nx
 have l1:=bu.lo
 by_cases hlt:i<K.length
 ·obtain ⟨e,he⟩:∃e,K[i]? = some e:=⟨_,List.getElem?_eq_getElem hlt⟩
  have heK:=List.mem_of_getElem? he
  have qv:=(t0.each e heK).2
  obtain ⟨b0,o0,hb0,hx0,TZ⟩:=KX t0.sl i he (nV qv.1)
  have R1:=TZ h1 bu
  have qv1:=qv.le bu
  obtain ⟨qx,qc,eq,_⟩:=(show Sl aW h1 e.q e.Q from qv1.1)
  have vl:=hKs e heK
  rw[eq] at R1
  simp(disch:=first|omega|simp only[Wd]<;>omega|with_unfolding_all rfl)only[Wz,s1,bZ (show (i:Int)<(K.length:Int) by omega),HY,hx0,R1]
  rw[←eq] at R1
  obtain ⟨h2,e2⟩:∃h2:Heap,h2=⟨h1.nx+1,h1.bl.bf h1.nx (af [.int .i64 e.t,.int .i64 e.r,.slice qx e.Q.length qc,.int .i64 e.w] 51 false),h1.lo⟩:=⟨_,rfl⟩
  have aZ:Le h1 h2:=by rw[e2]; exact (Le.refl h1).new _
  have g2:h2.bl.get h1.nx=some (af [.int .i64 e.t,.int .i64 e.r,.slice qx e.Q.length qc,.int .i64 e.w] 51 false):=by rw[e2]; exact T.aa _ _ _
  have nx2:h2.nx=h1.nx+1:=by rw[e2]
  try rw[←e2]
  clear e2
  have n2:=aZ.nx
  have l2:=aZ.lo
  have qv2:=qv1.le aZ
  refine ⟨fun m l3 h3=>∃j:Nat,slot l3 19=.int .i64 (j:Int)∧m=e.Q.length-j∧j≤e.Q.length∧zy h0 h3 (slot l3 17) ((K.take i).flatMap jY++gX e.t e.r (e.Q.take j))∧Le h0 h3∧h1.nx<h3.nx∧h3.bl.get h1.nx=some (af [.int .i64 e.t,.int .i64 e.r,.slice qx e.Q.length qc,.int .i64 e.w] 51 false)∧QV h3 e.q e.Q,
   ⟨_,0,rfl,rfl,by omega,?_,bu.trans aZ,by omega,g2,qv2⟩,?_⟩
  ·rw[List.take_zero]
   have:gX e.t e.r []=[]:=rfl
   rw[this,List.append_nil]
   exact ho.le aZ
  rintro m l3 h3 ⟨j,s3,rfl,hj,mH,cL,n3,g3,q3⟩
  have n3':=cL.nx
  have l3':=cL.lo
  by_cases hjl:j<e.Q.length
  ·obtain ⟨p,hp⟩:∃p,e.Q[j]? = some p:=⟨_,List.getElem?_eq_getElem hjl⟩
   obtain ⟨b4,o4,_,hx4,hp4,_⟩:=tf q3.1 j hp
   rw[eq] at hx4
   have hmono:=nF (t:=e.t) (r:=e.r) (e.Q.take j)
   have al_:=htk i
   have htl:(e.Q.take j).length≤e.Q.length:=by rw[List.length_take]; omega
   simp(disch:=first|omega|simp only[Wd]<;>omega|with_unfolding_all rfl)only[Wz,s3,bZ (show (j:Int)<(e.Q.length:Int) by omega),Bi]
   refine ⟨fun l' h'=>∃L',L'=(K.take i).flatMap jY++gX e.t e.r (e.Q.take (j+1))∧zy h0 h' (slot l' 16) L'∧Le h0 h'∧h1.nx<h'.nx∧h'.bl.get h1.nx=some (af [.int .i64 e.t,.int .i64 e.r,.slice qx e.Q.length qc,.int .i64 e.w] 51 false)∧QV h' e.q e.Q,?_,?_⟩
   rotate_left
   ·rintro l' h' ⟨L',rfl,hL,hle,hn,hg,hq⟩
    exact ⟨_,by omega,j+1,rfl,rfl,by omega,hL,hle,hn,hg,hq⟩
   simp(disch:=first|omega|simp only[Wd]<;>omega|with_unfolding_all rfl)only[Wz,HX,s3,hx4,hp4,aW]
   obtain ⟨h5,e5⟩:∃h5:Heap,h5=⟨h3.nx+1,h3.bl.bf h3.nx (fq p),h3.lo⟩:=⟨_,rfl⟩
   have iY:Le h3 h5:=by rw[e5]; exact (Le.refl h3).new _
   have g5:h5.bl.get h3.nx=some (fq p):=by rw[e5]; exact T.aa _ _ _
   have nx5:h5.nx=h3.nx+1:=by rw[e5]
   try rw[←e5]
   clear e5
   have l5:=iY.lo
   have Wm:=(iY.get _ n3).trans g3
   have hstep:=GF (t:=e.t) (r:=e.r) hp
   by_cases hm:p.m=0
   ·simp(disch:=first|omega|simp only[Wd]<;>omega|with_unfolding_all rfl)only[Wz,aM hm]
    refine ⟨_,rfl,?_,cL.trans iY,by omega,?_,q3.le iY⟩
    ·rw[hstep,if_neg (by omega),List.append_nil]
     exact mH.le iY
    ·first | exact Wm | exact g3
   ·simp(disch:=first|omega|simp only[Wd]<;>omega|with_unfolding_all rfl)only[Wz,aK hm,HW,g5,Wm]
    obtain ⟨h6,e6⟩:∃h6:Heap,h6=⟨h5.nx+1,h5.bl.bf h5.nx (af [.int .i64 p.x,.int .i64 e.t,.int .i64 e.r,.int .i64 p.m] 57 false),h5.lo⟩:=⟨_,rfl⟩
    have oz:Le h5 h6:=by rw[e6]; exact (Le.refl h5).new _
    have g6:h6.bl.get h5.nx=some (af ([(⟨p.x,e.t,e.r,p.m⟩:L4)].flatMap gf) 57 false):=by rw[e6]; exact T.aa _ _ _
    have nx6:h6.nx=h5.nx+1:=by rw[e6]
    have l6:h6.lo=h5.lo:=by rw[e6]
    try rw[←e6]
    clear e6
    have Gg:=iY.trans oz
    have g36:=(oz.get _ (by omega)).trans Wm
    refine cT (enc:=gf) (a:=h0) (L:=(K.take i).flatMap jY++gX e.t e.r (e.Q.take j)) (M:=[(⟨p.x,e.t,e.r,p.m⟩:L4)]) lJ sZ (by decide) (by decide) (mH.le Gg) (Sl.new (by omega) g6 _) (cL.trans Gg) (by rw[List.length_append]; simp only[List.length_cons,List.length_nil]; omega) (by omega) _ ?_
    intro v7 h7 Fj uR _ n7 l7 TA
    refine ⟨_,rfl,?_,uR,by omega,(TA _ (by omega) (by rw[g36]; exact aO)).trans g36,(q3.le Gg).frame n7 fun d vs op hc hg=>TA d hc (by rw[hg]; exact aL (by decide))⟩
    rw[hstep,if_pos hm,←List.append_assoc]
    exact Fj
  ·have hjQ:j=e.Q.length:=by omega
   subst hjQ
   simp(disch:=first|omega|simp only[Wd]<;>omega|with_unfolding_all rfl)only[Wz,s3,bL (show (e.Q.length:Int)≤(e.Q.length:Int) by omega),Bi,s1]
   refine ⟨_,by omega,i+1,rfl,rfl,by omega,?_,cL⟩
   rw[GG he]
   rw[List.take_length] at mH
   exact mH
 ·have hil:i=K.length:=by omega
  subst hil
  rw[List.take_length] at ho
  simp(disch:=first|omega|simp only[Wd]<;>omega|with_unfolding_all rfl)only[Wz,s1,bL (show (K.length:Int)≤(K.length:Int) by omega)]
  refine RI h0 h1 _ _ _ ho bu (by omega) ?_
  intro D h' hD Ow ho' le'
  exact hk _ h' D K ⟨t0.perm,t0.qB,fun k hk'=>(t0.each k hk').1,hD,Ow,ho'.sl,uK.own ho'⟩ (cU.base ho' (by omega)) (GH.trans le')
theorem Xa (s:iW h tb bw bp bl c vb aG N Ts W wc F B) (hlo:h.lo≤h.nx) (κ:KQ) (hk:∀v h' D K,uZ h' Ts v D K→Le h h'→κ v h') :
  CallW Tryz.prog 16 [.pointer (some ⟨tb,0,none⟩)] h κ:=Jo s hlo κ fun v h' D K t _ l=>hk v h' D K t l
end
theorem RJ (id:Int) (h:Heap) (κ:KQ) (hk:κ (.pointer none) h):CallW Tryz.prog 113 [.pointer none,.int .i64 id] h κ:=by
 refine aq mixed ?_
 rw[Nk]
 simp(disch:=first|omega|simp only[Wd]<;>omega|with_unfolding_all rfl)only[Wz,pU]
 exact hk
theorem O9 (id:Int) (h:Heap) (κ:KQ) (hlo:h.lo≤h.nx) (hk:∀h',Le h h'→κ (.tuple ⟨[dz 0 0,ji ⟨0,0,0,0,0⟩,.bool false]⟩) h'):CallW Tryz.prog 73 [.pointer none,.int .i64 id] h κ:=by
 refine aq mixed ?_
 rw[Tb]
 simp(disch:=first|omega|simp only[Wd]<;>omega|with_unfolding_all rfl)only[Wz]
 obtain ⟨hA,az⟩:∃hA:Heap,hA=⟨h.nx+1+1,((h.bl.bf (h.nx) (af [.int .i64 0,.int .i64 0] 24 false)).bf (h.nx+1) (fq ⟨0,0,0,0,0⟩)),h.lo⟩:=⟨_,rfl⟩
 have aH:Le h hA:=by subst az; exact (((Le.refl h).new _).new _)
 have g1:hA.bl.get (h.nx)=some (af [.int .i64 0,.int .i64 0] 24 false):=by subst az; exact (T.aj _ _ (by omega)).trans (T.aa _ _ _)
 have g3:hA.bl.get (h.nx+1)=some (fq ⟨0,0,0,0,0⟩):=by subst az; exact T.aa _ _ _
 have dF:hA.nx=h.nx+1+1:=by subst az; rfl
 have dG:hA.lo=h.lo:=by subst az; rfl
 rw[←az]
 clear az
 refine RJ id hA _ ?_
 simp(disch:=first|omega|simp only[Wd]<;>omega|with_unfolding_all rfl)only[Wz,nk,g1,g3,aW]
 exact hk _ ((aH.set (by omega) _).set (by omega) _)
section
variable {h:Heap} {tb bw bp bl:Nat} {c:fI} {vb:Value} {aG N:Nat} {Ts:List TB} {W:List IE} {wc:Nat} {F:List Int} {B:List Bool}
theorem Xb (s:iW h tb bw bp bl c vb aG N Ts W wc F B) (hlo:h.lo≤h.nx) (id:Int) (κ:KQ)
  (dK:∀h',(∀b∈Ts,∀e∈b.M,bq e.Q id=none)→Le h h'→κ (.tuple ⟨[dz 0 0,ji ⟨0,0,0,0,0⟩,.bool false]⟩) h')
  (fF:∀h' b e p,b∈Ts→e∈b.M→bq e.Q id=some p→Le h h'→κ (.tuple ⟨[dz e.t e.r,ji p,.bool true]⟩) h') :
  CallW Tryz.prog 27 [.pointer (some ⟨tb,0,none⟩),.int .i64 id] h κ:=by
 refine aq mixed ?_
 rw[Zv]
 simp(disch:=first|omega|simp only[Wd]<;>omega|with_unfolding_all rfl)only[Wz]
 obtain ⟨hA,az⟩:∃hA:Heap,hA=⟨h.nx+1+1,((h.bl.bf (h.nx) (af [.int .i64 0,.int .i64 0] 24 false)).bf (h.nx+1) (fq ⟨0,0,0,0,0⟩)),h.lo⟩:=⟨_,rfl⟩
 have aH:Le h hA:=by subst az; exact (((Le.refl h).new _).new _)
 have g1:hA.bl.get (h.nx)=some (af [.int .i64 0,.int .i64 0] 24 false):=by subst az; exact (T.aj _ _ (by omega)).trans (T.aa _ _ _)
 have g3:hA.bl.get (h.nx+1)=some (fq ⟨0,0,0,0,0⟩):=by subst az; exact T.aa _ _ _
 have dF:hA.nx=h.nx+1+1:=by subst az; rfl
 have dG:hA.lo=h.lo:=by subst az; rfl
 rw[←az]
 clear az
 refine EY (s.le aH) (by omega) id _ ?_ ?_
 ·intro hno
  refine O9 id hA _ (by omega) ?_
  intro h2 aZ
  have iU:=aZ.nx
  have iV:=aZ.lo
  have g1:=(aZ.get _ (by omega)).trans g1
  have g3:=(aZ.get _ (by omega)).trans g3
  simp(disch:=first|omega|simp only[Wd]<;>omega|with_unfolding_all rfl)only[Wz,dz,aW,g1,g3]
  exact dK _ hno (((aH.trans aZ).set (by omega) _).set (by omega) _)
 ·intro k b e p hk he hf
  have hb:=List.mem_of_getElem? hk
  refine Rh ((s.le aH).is.bk b hb) (by omega) id _ ?_ ?_
  ·intro h2 hno _
   rw[hno e he] at hf; cases hf
  ·intro h2 e2 p2 td hf2 aZ
   have iU:=aZ.nx
   have iV:=aZ.lo
   have g1:=(aZ.get _ (by omega)).trans g1
   have g3:=(aZ.get _ (by omega)).trans g3
   simp(disch:=first|omega|simp only[Wd]<;>omega|with_unfolding_all rfl)only[Wz,dz,aW,g1,g3]
   exact fF _ b e2 p2 hb td hf2 (((aH.trans aZ).set (by omega) _).set (by omega) _)
def yO (Ts:List TB):Nat:=(Ts.map fun b=>b.M.length).sum
theorem Lf {Ts:List TB} {i:Nat} {b:TB} (h:Ts[i]? = some b):yO (Ts.take (i+1))=yO (Ts.take i)+b.M.length:=by
 unfold yO
 rw[List.take_add_one,h]
 simp
theorem RK (Ts:List TB) (hl:∀b∈Ts,b.M.length≤64):yO Ts≤64*Ts.length:=by
 unfold yO
 induction Ts with
 | nil=>simp
 | cons b Ts ih=>
  have h1:=ih fun x hx=>hl x (.tail _ hx)
  have h2:=hl b (.head _)
  simp only[List.map_cons,List.sum_cons,List.length_cons]
  omega
theorem Lg (s:iW h tb bw bp bl c vb aG N Ts W wc F B) (κ:KQ) (hk:κ (.tuple ⟨[.int .i64 (yO Ts:Nat),.int .i64 ((B.length:Int)-F.length)]⟩) h) :
  CallW Tryz.prog 25 [.pointer (some ⟨tb,0,none⟩)] h κ:=by
 refine aq mixed ?_
 rw[Zt]
 have gt:=s.is.lH
 have hs1:=s.is.s1
 have agW:=s.is.hd
 have P8:=jV s.is.bM.ok
 have vl:=s.is.bM.small
 obtain ⟨vx,vc,ev,_⟩:=(show Sl mA h vb Ts from s.is.sl)
 have O4:∀(β:Type) (fl:β) (h':Heap) (κ:Value→Heap→β),bh fl vb h' κ=κ (.int .i64 (Ts.length:Int)) h':=fun β fl h' κ=>by rw[ev]; exact m_ _ _ _ _ _
 have hbd:∀i,yO (Ts.take i)≤1024:=by
  intro i
  have:=RK (Ts.take i) fun b hb=>by have:=s.len b (List.mem_of_mem_take hb); omega
  have h2:(Ts.take i).length≤Ts.length:=by rw[List.length_take]; omega
  omega
 simp(disch:=first|omega|simp only[Wd]<;>omega|with_unfolding_all rfl)only[Wz,lI,aU,gt,O4]
 refine ⟨fun n l h1=>∃i:Nat,slot l 10=.int .i64 (i:Int)∧slot l 8=.int .i64 (yO (Ts.take i):Nat)∧n=Ts.length-i∧i≤Ts.length∧HQ h h1,⟨_,0,rfl,rfl,rfl,by omega,rfl⟩,?_⟩
 rintro n l h1 ⟨i,s1,s2,rfl,hi,hq⟩
 cases (show h=h1 from hq)
 by_cases hlt:i<Ts.length
 ·obtain ⟨b,hb⟩:∃b,Ts[i]? = some b:=⟨_,List.getElem?_eq_getElem hlt⟩
  obtain ⟨cc,oo,_,Fh,dg⟩:=OY s.is.sl i hb
  have dg:=dg h (Le.refl _)
  have XV:=s.len b (List.mem_of_getElem? hb)
  have hst:=Lf hb
  have hbi:=hbd i
  simp(disch:=first|omega|simp only[Wd]<;>omega|with_unfolding_all rfl)only[Wz,Bm,s1,s2,bZ (show (i:Int)<(Ts.length:Int) by omega),Fh,dg]
  refine Rc (s.is.bk b (List.mem_of_getElem? hb)) _ ?_
  simp(disch:=first|omega|simp only[Wd]<;>omega|with_unfolding_all rfl)only[Wz,s1]
  refine ⟨_,by omega,i+1,rfl,?_,rfl,by omega,rfl⟩
  rw[hst]; rfl
 ·have hil:i=Ts.length:=by omega
  subst hil
  rw[List.take_length] at s2
  simp(disch:=first|omega|simp only[Wd]<;>omega|with_unfolding_all rfl)only[Wz,Bm,s1,s2,bL (show (Ts.length:Int)≤(Ts.length:Int) by omega),aU,gt]
  refine WB bp bl F B h _ s.is.bM (by omega) ?_
  exact hk
end
end Go.Proofs
