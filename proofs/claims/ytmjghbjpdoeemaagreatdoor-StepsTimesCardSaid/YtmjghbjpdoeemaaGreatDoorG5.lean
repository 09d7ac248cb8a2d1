/-
  PROVED HERE: a part of the proof (K18, K19, K20, K21, K22, K23, K24, K25, K26, VaiY, K27, K28, K29, Srt, K30, K31, K42, K43, L1, VaiE, L2, L3, L4, L7).
-/
import Derived.Test.YtmjghbjpdoeemaaGreatDoorG4
import Derived.Test.YtmjghbjpdoeemaaGreatDoorG2
set_option linter.unusedVariables false
set_option linter.unusedSimpArgs false
set_option maxRecDepth 100000
namespace Go.Proofs
open Go.Vai Go.Clashes
structure mT (bm bp bl:Nat) (h h':Heap):Prop where
 nx:h.nx≤h'.nx
 lo:h'.lo=h.lo
 get:∀c,c<h.nx→c≠bm→c≠bp→c≠bl→(∀vs,h.bl.get c≠some (aa vs 3 true))→h'.bl.get c=h.bl.get c
 g2:bp<h.nx→∀c,c<h.nx→c≠bm→c≠bp→c≠bl→¬FB h bp c→h'.bl.get c=h.bl.get c
 mv:bp<h.nx→∀c,c<h.nx→FB h' bp c→FB h bp c
theorem mT.trans {bm bp bl:Nat} {h h' h'':Heap} (a:mT bm bp bl h h') (b:mT bm bp bl h' h''):mT bm bp bl h h'':=
 ⟨Nat.le_trans a.nx b.nx,b.lo.trans a.lo,fun c hc hm hn hl hi=>(b.get c (Nat.lt_of_lt_of_le hc a.nx) hm hn hl (fun vs=>by rw[a.get c hc hm hn hl hi]; exact hi vs)).trans (a.get c hc hm hn hl hi),
  fun hb c hc hm hn hl hi=>(b.g2 (Nat.lt_of_lt_of_le hb a.nx) c (Nat.lt_of_lt_of_le hc a.nx) hm hn hl fun x=>hi (a.mv hb c hc x)).trans (a.g2 hb c hc hm hn hl hi),
  fun hb c hc x=>a.mv hb c hc (b.mv (Nat.lt_of_lt_of_le hb a.nx) c (Nat.lt_of_lt_of_le hc a.nx) x)⟩
theorem mT.of_le {bm bp bl:Nat} {h h':Heap} (l:Le h h'):mT bm bp bl h h':=⟨l.nx,l.lo,fun c hc _ _ _ _=>l.get c hc,fun _ c hc _ _ _ _=>l.get c hc,fun hb c _ x=>(FB.congr (l.get bp hb)).1 x⟩
theorem mT.T2 {bm bp bl:Nat} {h h':Heap} (f:Gc bp bl h h'):mT bm bp bl h h':=⟨f.nx,f.lo,fun c hc _ hn hl hi=>f.get c hc hn hl hi,fun hb c hc _ hn hl hi=>f.g2 hb c hc hn hl hi,f.mv⟩
theorem mT.of_map {bm bp bl:Nat} (h:Heap) {es:List MapEntry} {cl:Nat}:mT bm bp bl h ⟨h.nx,h.bl.aS bm (.map es cl),h.lo⟩:=by
 refine ⟨Nat.le_refl _,rfl,fun c _ hm _ _ _=>T.ah _ _ (fun e=>hm e.symm),fun _ c _ hm _ _ _=>T.ah _ _ (fun e=>hm e.symm),fun _ c _ hx=>?_⟩
 by_cases e:bm=bp
 ·subst e
  obtain ⟨n,cap,ls,hx⟩:=hx
  exact absurd ((T.af _ _ _).symm.trans hx) bu
 ·exact (FB.congr (T.ah _ _ e)).1 hx
theorem aU.put {h:Heap} {bb bm bp bl most:Nat} {M M':List HE} {clock clock':Nat} {F:List Int} {B:List Bool} (s:aU h bb bm bp bl most M clock F B) (o:eW M' clock')
  (hh:∀e∈M',ja h e) (hg:∀e∈M',KX e):aU ⟨h.nx,h.bl.aS bm (.map (M'.map jS) clock'),h.lo⟩ bb bm bp bl most M' clock' F B:=by
 have gm:=s.eM
 have ne:∀c,(h.bl.get c≠some (.map (M.map jS) clock))→(h.bl.aS bm (.map (M'.map jS) clock')).get c=h.bl.get c:=fun c hc=>T.ah _ _ (by rintro rfl; exact hc gm)
 have nc:∀{vs ty op},(some (aa vs ty op):Option bt)≠some (.map (M.map jS) clock):=fun h=>bu h.symm
 obtain ⟨fs,tQ,hpt⟩:=s.ck.fr.cell
 have k1:(h.bl.aS bm (.map (M'.map jS) clock')).get bb=h.bl.get bb:=ne bb (by rw[s.fq]; exact nc)
 have k2:(h.bl.aS bm (.map (M'.map jS) clock')).get bp=h.bl.get bp:=ne bp (by rw[tQ]; exact nc)
 have k3:(h.bl.aS bm (.map (M'.map jS) clock')).get bl=h.bl.get bl:=ne bl (by rw[s.ck.cell]; exact nc)
 refine ⟨s.IB,s.rP,s.Ox,k1.trans s.fq,T.af _ _ _,o,fun e he=>?_,hg,⟨⟨s.ck.fr.lt,s.ck.fr.lo,fs,k2.trans tQ,?_⟩,s.ck.lt,s.ck.lo,k3.trans s.ck.cell,s.ck.ok,s.ck.small⟩,s.ne⟩
 ·have a:=hh e he
  exact ⟨a.lt,(ne _ (by rw[a.get]; exact nc)).trans a.get,a.qv.put (fun vs op=>by rw[gm]; exact bu) _⟩
 ·rcases hpt with e | ⟨b,G,e,h1,h2,h3,h4⟩
  ·exact .inl e
  ·exact .inr ⟨b,G,e,h1,h2,(ne b (by rw[h3]; exact nc)).trans h3,h4⟩
theorem KZ {Q:List R5} {W:Int} (v:VQ Q W) (n:Nat):(cE n Q).1.length=Q.length:=by
 have:=congrArg List.length (zB n v).2.1
 simpa using this
structure dN (M M':List HE) (t r w:Int) (Q:List R5):Prop where
 gone:Q=[]→M'=M.filter fun x=>!rm t r x
 put:Q≠[]→∃e,e.t=t∧e.r=r∧e.w=w∧e.Q=Q∧M'.Perm (M.filter (fun x=>!rm t r x)++[e])
theorem nT {h:Heap} {bb bm bp bl most:Nat} {M:List HE} {clock:Nat} {F:List Int} {B:List Bool} (s:aU h bb bm bp bl most M clock F B) (hlo:h.lo≤h.nx) (t r:Int) (q:Value) (w:Int) (Q:List R5) (κ:KQ)
  (hq:Sl aZ h q Q) (vq:VQ Q w) (hlen:Q.length≤128)
  (hk:∀M' clock' v' h',aU h' bb bm bp bl most M' clock' F B→dN M M' t r w (cE (eV Q+1) Q).1→qa h h' v' (cE (eV Q+1) Q).2→mT bm bp bl h h'→κ v' h') :
  CallW Tryz.prog 247 [.pointer (some ⟨bb,0,none⟩),iC t r q w] h κ:=by
 obtain ⟨qx,qc,rfl,_⟩:=(show Sl aZ h q Q from hq)
 refine aj mixed ?_
 rw[S5]
 simp(disch:=first|omega|simp only[Wd]<;>omega|with_unfolding_all rfl)only[Wz,iC]
 obtain ⟨hA,aK⟩:∃hA:Heap,hA=⟨h.nx+1,(h.bl.aS (h.nx) (cL t r (.slice qx Q.length qc) w)),h.lo⟩:=⟨_,rfl⟩
 have aO:Le h hA:=by subst aK; exact ((Le.refl h).new _)
 have g1:hA.bl.get (h.nx)=some (cL t r (.slice qx Q.length qc) w):=by subst aK; exact T.af _ _ _
 have gH:hA.nx=h.nx+1:=by subst aK; rfl
 have gI:hA.lo=h.lo:=by subst aK; rfl
 rw[←aK]
 clear aK
 refine TQ t r _ w Q hA _ (hq.le aO) (by omega) (by omega) vq ?_
 intro q2 v2 h2 uU w_ bF
 obtain ⟨vq2,hkey,hst,hgr⟩:=zB (eV Q+1) vq
 have KE:=KZ vq (eV Q+1)
 generalize hQ2:(cE (eV Q+1) Q).1=Q2 at *
 generalize hI2:(cE (eV Q+1) Q).2=I2 at *
 obtain ⟨mQ,mR,rfl,_⟩:=(show Sl aZ h2 q2 Q2 from uU.1)
 have n2:=bF.nx
 have l2:=bF.lo
 have g1:=(bF.get _ (by omega)).trans g1
 have ab5:=hst (Nat.lt_succ_self _)
 simp(disch:=first|omega|simp only[Wd]<;>omega|with_unfolding_all rfl)only[Wz,iC,g1]
 obtain ⟨h3,e3⟩:∃h3:Heap,h3=⟨h2.nx,h2.bl.aS h.nx (cL t r (.slice mQ Q2.length mR) w),h2.lo⟩:=⟨_,rfl⟩
 have eZ:Le h h3:=by rw[e3]; exact (aO.trans bF).set (by omega) _
 have g3:h3.bl.get h.nx=some (cL t r (.slice mQ Q2.length mR) w):=by rw[e3]; exact T.af _ _ _
 have n3:h3.nx=h2.nx:=by rw[e3]
 have l3:h3.lo=h2.lo:=by rw[e3]
 have hq3:QV h3 (.slice mQ Q2.length mR) Q2:=by rw[e3]; exact uU.put (fun vs op=>by rw[g1]; exact aX (by decide)) _
 have pJ:qa h h3 v2 I2:=by
  rw[e3]
  exact fu.put (fu.base w_ (by omega)) (by rw[g1]; exact aV) _
 rw[←e3]
 clear e3
 have s3:=s.le eZ
 have gb:=s3.fq
 have gm:=s3.eM
 refine ⟨fun l h'=>κ v2 h',?_,fun l h' hk'=>hk'⟩
 by_cases h0:Q2=[]
 ·subst h0
  simp(disch:=first|omega|simp only[Wd]<;>omega|with_unfolding_all rfl)only[Wz,vP,g3,B4,ax,gb]
  refine T1 s3.ok gm (by have:=s3.Ox; omega) t r _ ?_
  intro h4 hc
  have iy:dN M (M.filter fun x=>!rm t r x) t r w []:=⟨fun _=>rfl,fun hn=>absurd rfl hn⟩
  rcases hc with rfl | ⟨rfl,hM⟩
  ·exact hk _ clock v2 _ (s3.put (s3.ok.filter _) (fun e he=>s3.aH e (List.mem_filter.1 he).1) fun e he=>s3.good e (List.mem_filter.1 he).1) iy (fu.put pJ (by rw[gm]; exact bu) _) ((mT.of_le eZ).trans (mT.of_map _))
  ·rw[hM] at iy
   exact hk _ clock v2 _ s3 iy pJ (mT.of_le eZ)
 ·have hpos:0<Q2.length:=List.length_pos_iff.2 h0
  simp(disch:=first|omega|simp only[Wd]<;>omega|with_unfolding_all rfl)only[Wz,vP,g3,a_ (show ¬(Q2.length:Int)=0 by omega),B5,ax,gb]
  refine T0 s3.ok gm (by have:=s3.Ox; omega) t r h.nx (.slice mQ Q2.length mR) w Q2 _ ?_
  intro M' clock' born o' hp
  have hsub:∀x∈M',x∈M∨x=⟨t,r,h.nx,born,.slice mQ Q2.length mR,w,Q2⟩:=fun x hx=>by
   rcases List.mem_append.1 (hp.mem_iff.1 hx) with hx | hx
   ·exact .inl (List.mem_filter.1 hx).1
   ·exact .inr (List.mem_singleton.1 hx)
  refine hk M' clock' v2 _ (s3.put o' (fun e he=>?_) fun e he=>?_) ⟨fun hn=>absurd hn h0,fun _=>⟨_,rfl,rfl,rfl,rfl,hp⟩⟩ (fu.put pJ (by rw[gm]; exact bu) _) ((mT.of_le eZ).trans (mT.of_map _))
  ·rcases hsub e he with h1 | rfl
   ·exact s3.aH e h1
   ·exact ⟨by show h.nx<h3.nx; omega,g3,hq3⟩
  ·rcases hsub e he with h1 | rfl
   ·exact s3.good e h1
   ·exact ⟨h0,vq2,ab5,by show Q2.length≤128; omega⟩
theorem OA (x:Int) (r:R5) (b:Nat) (h:Heap) (κ:KQ) (hlo:h.lo≤h.nx) (hb:b<h.nx) (hg:h.bl.get b=some (aa [.int .i64 x] 3 false)) (hk:∀h',Le h h'→κ (.bool (decide (r.x=x))) h') :
  CallW Tryz.prog 290 [jR r,ptrTo b] h κ:=by
 have hk:=hk _ ((Le.refl h).new (gG r))
 refine aj mixed ?_
 rw[Ti]
 simp(disch:=first|omega|simp only[Wd]<;>omega|with_unfolding_all rfl)only[Wz,aZ,hg]
 exact hk
theorem CH {h:Heap} {bb bm bp bl most:Nat} {M:List HE} {clock:Nat} {F:List Int} {B:List Bool} (s:aU h bb bm bp bl most M clock F B) (hlo:h.lo≤h.nx) (t r x:Int) (κ:KQ)
  (j7:∀h',(∀e∈M,t=e.t→r=e.r→∀p∈e.Q,p.x≠x)→Le h h'→κ (.tuple ⟨[.int .i64 0,.bool false]⟩) h')
  (fQ:∀h' e p,e∈M→t=e.t→r=e.r→p∈e.Q→p.x=x→Le h h'→κ (.tuple ⟨[.int .i64 p.id,.bool true]⟩) h') :
  CallW Tryz.prog 250 [.pointer (some ⟨bb,0,none⟩),ew t r,.int .i64 x] h κ:=by
 refine aj mixed ?_
 rw[S7]
 simp(disch:=first|omega|simp only[Wd]<;>omega|with_unfolding_all rfl)only[Wz,ew]
 obtain ⟨hA,aK⟩:∃hA:Heap,hA=⟨h.nx+1+1,((h.bl.aS (h.nx) (aa [.int .i64 t,.int .i64 r] 36 false)).aS (h.nx+1) (aa [.int .i64 x] 3 false)),h.lo⟩:=⟨_,rfl⟩
 have aO:Le h hA:=by subst aK; exact (((Le.refl h).new _).new _)
 have g1:hA.bl.get (h.nx)=some (aa [.int .i64 t,.int .i64 r] 36 false):=by subst aK; exact (T.ah _ _ (by omega)).trans (T.af _ _ _)
 have g3:hA.bl.get (h.nx+1)=some (aa [.int .i64 x] 3 false):=by subst aK; exact T.af _ _ _
 have gH:hA.nx=h.nx+1+1:=by subst aK; rfl
 have gI:hA.lo=h.lo:=by subst aK; rfl
 rw[←aK]
 clear aK
 have sA:=s.le aO
 have gb:=sA.fq
 have gm:=sA.eM
 by_cases hc:∃e∈M,t=e.t∧r=e.r
 case neg=>
  have hn:∀e∈M,¬(t=e.t∧r=e.r):=fun e he h=>hc ⟨e,he,h⟩
  have eL:=yz (β:=Option Value) (fl:=none) gm t r hn
  unfold ew at eL
  simp(disch:=first|omega|simp only[Wd]<;>omega|with_unfolding_all rfl)only[Wz,fL,vQ,ax,gb,g1,eL]
  exact j7 _ (fun e he h1 h2=>absurd ⟨h1,h2⟩ (hn e he)) aO
 obtain ⟨e,he,rfl,rfl⟩:=hc
 have eL:=CF (β:=Option Value) (fl:=none) sA.ok gm he
 unfold ew at eL
 have H:=sA.aH e he
 have hlt:=H.lt
 have gd:=sA.good e he
 have GV:=gd.small
 obtain ⟨qx,qc,eq,_⟩:=(show Sl aZ hA e.q e.Q from H.qv.1)
 have gh:=H.get
 rw[eq] at gh
 simp(disch:=first|omega|simp only[Wd]<;>omega|with_unfolding_all rfl)only[Wz,fL,vQ,ax,gb,g1,eL,B7,gh]
 rw[←eq]
 refine v_ e.Q (fun p=>decide (p.x=x)) hA _ _ _ H.qv.1 (by omega) ?_ ?_
 ·intro p _ h1 κ1 l1 fQ
  simp(disch:=first|omega|simp only[Wd]<;>omega|with_unfolding_all rfl)only[Wz,List.nil_append,List.cons_append]
  refine OA x p (h.nx+1) h1 κ1 (by have:=l1.lo; have:=l1.nx; omega) (by have:=l1.nx; omega) ((l1.get _ (by omega)).trans g3) fQ
 intro h2 bF
 have gh2:=(bF.get _ hlt).trans gh
 have jb:=aO.trans bF
 rcases mo e.Q (fun p=>decide (p.x=x)) with ⟨ei,hf⟩ | ⟨i,p,ei,hp,h1,h2⟩
 ·rw[ei]
  simp(disch:=first|omega|simp only[Wd]<;>omega|with_unfolding_all rfl)only[Wz,iB]
  exact j7 h2 (fun e' he' h1 h2 p hp=>by rw[sA.ok.uniq he' he h1.symm h2.symm] at hp; have:=hf p hp; simpa using this) jb
 ·rw[ei]
  obtain ⟨b,o,hb,Gf,_,hid,_⟩:=MQ (H.qv.1.le bF) i hp
  rw[eq] at Gf
  simp(disch:=first|omega|simp only[Wd]<;>omega|with_unfolding_all rfl)only[Wz,iB,cg (show (0:Int)≤(i:Int) by omega),B6,ax,gh2,Gf,hid]
  exact fQ _ e p he rfl rfl (List.mem_of_getElem? hp) (by simpa using h1) jb
def ez (M:List HE):List Int:=M.flatMap fun e=>e.Q.map (·.id)
def iU (B:List Bool):List Int:=((List.range B.length).filter fun n=>(B[n]?).getD false).map fun n:Nat=>(n:Int)
theorem gW {B:List Bool} {x:Int}:x∈iU B↔∃n:Nat,x=(n:Int)∧B[n]? = some true:=by
 unfold iU
 rw[List.mem_map]
 constructor
 ·rintro ⟨n,hn,rfl⟩
  rw[List.mem_filter,List.mem_range] at hn
  refine ⟨n,rfl,?_⟩
  have h2:=hn.2
  rw[List.getElem?_eq_getElem hn.1] at h2 ⊢
  simpa using h2
 ·rintro ⟨n,rfl,h⟩
  refine ⟨n,List.mem_filter.2 ⟨List.mem_range.2 (List.getElem?_eq_some_iff.1 h).1,by rw[h]; rfl⟩,rfl⟩
theorem wC {L:List Nat} (h:L.Nodup):(L.map fun n:Nat=>(n:Int)).Nodup:=by
 rw[List.Nodup,List.pairwise_map]
 exact h.imp fun hne e=>hne (Int.ofNat.inj e)
theorem qe (B:List Bool):(iU B).Nodup:=wC (List.nodup_range.filter _)
theorem wD {L:List Int} {x:Int} (h:L.Nodup) (hx:x∉L):(L++[x]).Nodup:=by
 rw[List.nodup_append]
 refine ⟨h,by simp,fun a ha b hb=>?_⟩
 rw[List.mem_singleton] at hb; subst hb
 rintro rfl; exact hx ha
theorem yB {B:List Bool} {n:Nat} (h:B[n]? = some false):(iU (B.set n true)).Perm (iU B++[(n:Int)]):=by
 have hn:n<B.length:=(List.getElem?_eq_some_iff.1 h).1
 refine (List.perm_ext_iff_of_nodup (qe _) (wD (qe _) fun hm=>?_)).2 fun x=>?_
 ·obtain ⟨k,e,hk⟩:=gW.1 hm
  have:k=n:=(Int.ofNat.inj e).symm
  subst this; rw[h] at hk; cases hk
 ·rw[List.mem_append,List.mem_singleton,gW,gW]
  constructor
  ·rintro ⟨k,rfl,hk⟩
   by_cases hkn:k=n
   ·exact .inr (by rw[hkn])
   ·rw[List.getElem?_set,if_neg (fun e=>hkn e.symm)] at hk
    exact .inl ⟨k,rfl,hk⟩
  ·rintro (⟨k,rfl,hk⟩ | rfl)
   ·refine ⟨k,rfl,?_⟩
    rw[List.getElem?_set]
    split
    ·rename_i e; exact absurd (by rw[←e,h] at hk; exact hk:some false=some true) (by simp)
    ·exact hk
   ·exact ⟨n,rfl,by rw[List.getElem?_set,if_pos rfl,if_pos hn]⟩
theorem HB {B:List Bool} {n:Nat} (h:B[n]? = some true):(iU B).Perm (iU (B.set n false)++[(n:Int)]):=by
 have hn:n<B.length:=(List.getElem?_eq_some_iff.1 h).1
 have:=yB (B:=B.set n false) (n:=n) (by rw[List.getElem?_set,if_pos rfl,if_pos hn])
 rw[List.set_set] at this
 have e:B.set n true=B:=by
  refine List.ext_getElem? fun k=>?_
  rw[List.getElem?_set]
  split
  ·rename_i e; rw[←e,h]
  ·rfl
 rwa [e] at this
theorem jT {F:List Int} {B:List Bool} (o:i_ F B):(iU B).length+F.length=B.length:=by
 have hp:F.Perm (((List.range B.length).filter fun n=>!(B[n]?).getD false).map fun n:Nat=>(n:Int)):=by
  refine (List.perm_ext_iff_of_nodup o.nodup (wC (List.nodup_range.filter _))).2 fun x=>?_
  rw[List.mem_map]
  constructor
  ·intro hx
   obtain ⟨n,rfl⟩:∃n:Nat,x=(n:Int):=⟨x.toNat,by have:=o.pos x hx; omega⟩
   have hb:=(o.mem n).1 hx
   exact ⟨n,List.mem_filter.2 ⟨List.mem_range.2 (List.getElem?_eq_some_iff.1 hb).1,by rw[hb]; rfl⟩,rfl⟩
  ·rintro ⟨n,hn,rfl⟩
   rw[List.mem_filter,List.mem_range] at hn
   refine (o.mem n).2 ?_
   have h2:=hn.2
   rw[List.getElem?_eq_getElem hn.1] at h2 ⊢
   simpa using h2
 rw[hp.length_eq]
 unfold iU
 rw[List.length_map,List.length_map,←List.countP_eq_length_filter,←List.countP_eq_length_filter]
 have:=List.length_eq_countP_add_countP (fun n=>(B[n]?).getD false) (l:=List.range B.length)
 rw[List.length_range] at this
 have e2:List.countP (fun n=>!(B[n]?).getD false) (List.range B.length)=List.countP (fun a=>decide ¬(B[a]?).getD false=true) (List.range B.length):=List.countP_congr fun x _=>by simp
 omega
theorem kH (M N:List HE):ez (M++N)=ez M++ez N:=List.flatMap_append
theorem oB {M N:List HE} (h:M.Perm N):(ez M).Perm (ez N):=h.flatMap_right _
theorem ru (e:HE):ez [e]=e.Q.map (·.id):=by simp[ez]
theorem oC {M:List HE} {clock:Nat} (o:eW M clock) {e:HE} (he:e∈M):M.Perm (M.filter (fun x=>!rm e.t e.r x)++[e]):=by
 obtain ⟨j,hj,rfl⟩:=List.mem_iff_getElem.1 he
 rw[←erase_filter o.nm (List.getElem?_eq_getElem hj)]
 have:M=M.set j M[j]:=by simp
 refine (List.Perm.of_eq this).trans ?_
 rw[List.set_eq_take_append_cons_drop,if_pos hj,List.eraseIdx_eq_take_drop_succ]
 exact (List.perm_middle).trans (List.perm_append_singleton _ _).symm
theorem yC {M:List HE} {t r:Int} (hn:∀e∈M,¬(t=e.t∧r=e.r)):M.filter (fun x=>!rm t r x)=M:=List.filter_eq_self.2 fun x hx=>o_.2 (hn x hx)
theorem dN.ids {M M':List HE} {t r w:Int} {Q:List R5} (s:dN M M' t r w Q):(ez M').Perm (ez (M.filter fun x=>!rm t r x)++Q.map (·.id)):=by
 by_cases h0:Q=[]
 ·rw[s.gone h0,h0]; simp
 ·obtain ⟨e,_,_,_,eq,hp⟩:=s.put h0
  have:=oB hp
  rw[kH,ru,eq] at this
  exact this
theorem wE {Q:List R5} {W:Int} (v:VQ Q W) (n:Nat):(cE n Q).1.map (·.id)=Q.map (·.id):=by
 have:=congrArg (List.map Prod.fst) (zB n v).2.1
 simpa[List.map_map,Function.comp_def,Ea] using this
def nU (M:List HE) (B:List Bool):Prop:=∃X,(ez M++X).Perm (iU B)
theorem nU.find {M:List HE} {B:List Bool} (i:nU M B) {e:HE} (he:e∈M) {p:R5} (hp:p∈e.Q):∃n:Nat,p.id=(n:Int)∧B[n]? = some true:=by
 obtain ⟨X,hX⟩:=i
 exact gW.1 (hX.mem_iff.1 (List.mem_append.2 (.inl (List.mem_flatMap.2 ⟨e,he,List.mem_map.2 ⟨p,hp,rfl⟩⟩))))
theorem QV.frame {h h':Heap} {q:Value} {Q:List R5} (v:QV h q Q) (hn:h.nx≤h'.nx) (hg:∀c vs op,c<h.nx→h.bl.get c=some (aa vs 83 op)→h'.bl.get c=h.bl.get c):QV h' q Q:=by
 obtain ⟨hs,ht⟩:=v
 constructor
 ·obtain ⟨x,cap,rfl,h2⟩:=hs
  refine ⟨x,cap,rfl,fun hne=>?_⟩
  obtain ⟨b,o,rfl,h3,h4⟩:=h2 hne
  obtain ⟨h1,vs,op,h5⟩:=ht b o _ cap rfl (by intro h0; exact hne (List.eq_nil_of_length_eq_zero h0))
  refine ⟨b,o,rfl,Nat.lt_of_lt_of_le h3 hn,?_⟩
  rw[hg b vs op h1 h5]; exact h4
 ·intro b o n c hv hn0
  obtain ⟨h1,vs,op,h2⟩:=ht b o n c hv hn0
  exact ⟨Nat.lt_of_lt_of_le h1 hn,vs,op,(hg b vs op h1 h2).trans h2⟩
theorem ja.nV {h h':Heap} {bp bl:Nat} {F:List Int} {B:List Bool} {e:HE} (a:ja h e) (p:de h bp bl F B) (f:Gc bp bl h h'):ja h' e:=by
 have fn:=f.nx
 obtain ⟨fs,tQ,hpt⟩:=p.fr.cell
 have gl:=p.cell
 have key:∀c vs ty,c<h.nx→h.bl.get c=some (aa vs ty false)→ty≠225→ty≠4→h'.bl.get c=h.bl.get c:=fun c vs ty hc hg h1 h2=>
  f.get c hc (by rintro rfl; rw[hg] at tQ; exact aX h1 tQ) (by rintro rfl; rw[hg] at gl; exact aX h2 gl) fun ws=>by rw[hg]; exact aV
 have al:=a.lt
 refine ⟨by omega,(key _ _ _ al a.get (by decide) (by decide)).trans a.get,a.qv.frame fn fun c vs op hc hg=>?_⟩
 exact f.get c hc (by rintro rfl; rw[hg] at tQ; exact aX (by decide) tQ) (by rintro rfl; rw[hg] at gl; exact aX (by decide) gl) fun ws=>by rw[hg]; exact aX (by decide)
theorem aU.nV {h h':Heap} {bb bm bp bl most:Nat} {M:List HE} {clock:Nat} {F F':List Int} {B B':List Bool} (s:aU h bb bm bp bl most M clock F B) (p:de h' bp bl F' B') (f:Gc bp bl h h'):aU h' bb bm bp bl most M clock F' B':=by
 have fn:=f.nx
 have fl:=f.lo
 have sb:=s.IB
 have sm:=s.rP
 obtain ⟨fs,tQ,hpt⟩:=s.ck.fr.cell
 have gl:=s.ck.cell
 have key:∀c vs ty,c<h.nx→h.bl.get c=some (aa vs ty false)→ty≠225→ty≠4→h'.bl.get c=h.bl.get c:=fun c vs ty hc hg h1 h2=>
  f.get c hc (by rintro rfl; rw[hg] at tQ; exact aX h1 tQ) (by rintro rfl; rw[hg] at gl; exact aX h2 gl) fun ws=>by rw[hg]; exact aV
 have gm:=s.eM
 have km:h'.bl.get bm=h.bl.get bm:=f.get bm sm (by rintro rfl; rw[tQ] at gm; exact bu gm.symm) (by rintro rfl; rw[gl] at gm; exact bu gm.symm) fun ws=>by rw[gm]; exact bu
 refine ⟨by omega,by omega,by rw[fl]; exact s.Ox,(key bb _ _ sb s.fq (by decide) (by decide)).trans s.fq,km.trans gm,s.ok,fun e he=>?_,s.good,p,s.ne⟩
 exact (s.aH e he).nV s.ck f
theorem OB (Q:List R5) (W id x m:Int):(dS Q W id x m).1.id=id:=by unfold dS; split<;>rfl
structure kI (h h':Heap) (bb bm bp bl most:Nat) (M M':List HE) (clock':Nat) (F F':List Int) (B:List Bool) (t r x m:Int) (n:Nat) (g:Bool):Prop where
 is:aU h' bb bm bp bl most M' clock' F' (B.set n true)
 free:((n:Int)::F').Perm F
 old:B[n]? = some false
 least:∀k,k<n→B[k]? = some true
 fr:mT bm bp bl h h'
 set:∃Q w,((∃e∈M,e.t=t∧e.r=r∧e.Q=Q∧e.w=w)∨((∀e∈M,¬(t=e.t∧r=e.r))∧M.length<most∧Q=[]∧w=0))∧VQ Q w∧VQ (Q++[(dS Q w n x m).1]) (dS Q w n x m).2.1∧g=(dS Q w n x m).2.2∧
  dN M M' t r (dS Q w n x m).2.1 (cE (eV (Q++[(dS Q w n x m).1])+1) (Q++[(dS Q w n x m).1])).1
theorem yD {h h0:Heap} {bb bm bp bl most:Nat} {M:List HE} {clock:Nat} {F:List Int} {B:List Bool} (s:aU h bb bm bp bl most M clock F B) (hlo:h.lo≤h.nx) (l0:Le h0 h) (ids:nU M B) (hF:F.length≤1000) (N:Nat) (hN:N≤100000) (hw:∀e∈M,e.w≤N) (t r x m:Int) (am:bH m=true) (l:List Value) (ph:Nat) (Q:List R5) (q:Value) (w:Int)
  (hl:slot l 18=.pointer (some ⟨ph,0,none⟩)) (hp:ph<h.nx) (gp:h.bl.get ph=some (cL t r q w)) (hq:QV h q Q) (vq:VQ Q w) (GV:F≠[]→Q.length≤127) (hwN:w≤N) (hx:∀p∈Q,p.x≠x) (xN:∀p∈Q,∃k:Nat,p.id=(k:Int)∧B[k]? = some true)
  (hold:((∃e∈M,e.t=t∧e.r=r∧e.Q=Q∧e.w=w)∨((∀e∈M,¬(t=e.t∧r=e.r))∧M.length<most∧Q=[]∧w=0)))
  (κ:KQ)
  (hkF:∀h',F=[]→Le h0 h'→κ (.tuple ⟨[.int .i64 0,.bool false,.int .i64 8]⟩) h')
  (QD:∀M' clock' F' h' n g,kI h0 h' bb bm bp bl most M M' clock' F F' B t r x m n g→κ (.tuple ⟨[.int .i64 (n:Int),.bool g,.int .i64 0]⟩) h') :
  vS (.pointer (some ⟨bb,0,none⟩)) l (.int .i64 x) (.int .i64 m) h κ:=by
 have gb:=s.fq
 simp(disch:=first|omega|simp only[Wd]<;>omega|with_unfolding_all rfl)only[Wz,vS,ax,gb]
 refine TY bp bl F B h _ s.ck hF hlo s.ne ?_ ?_
 ·intro h0'
  simp(disch:=first|omega|simp only[Wd]<;>omega|with_unfolding_all rfl)only[Wz]
  exact hkF h h0' l0
 intro h2 F' n p2 hp2 hb TZ xM
 have s2:=s.nV p2 xM
 have n2:=xM.nx
 have l2:=xM.lo
 have hF0:F≠[]:=by rintro rfl; have:=hp2.length_eq; simp at this
 have GV:=GV hF0
 have H2:=ja.nV (e:=⟨t,r,ph,0,q,w,Q⟩) ⟨hp,gp,hq⟩ s.ck xM
 have g2:h2.bl.get ph=some (cL t r q w):=H2.get
 have uU:QV h2 q Q:=H2.qv
 obtain ⟨qx,qc,rfl,_⟩:=(show Sl aZ h2 q Q from uU.1)
 simp(disch:=first|omega|simp only[Wd]<;>omega|with_unfolding_all rfl)only[Wz,B8,hl,ax,g2]
 have hn:∀p∈Q,p.id≠(n:Int)∧p.x≠x:=fun p hp'=>⟨fun e=>by
  obtain ⟨k,e1,e2⟩:=xN p hp'
  have:k=n:=by omega
  rw[this,hb] at e2
  exact absurd e2 (by simp),hx p hp'⟩
 refine XL t r _ w (n:Int) x m Q h2 _ uU.1 (by omega) (by omega) ⟨vq.w0,by omega⟩ (by omega) am hn ?_
 intro q3 h3 pJ eZ
 have n3:=eZ.nx
 have l3:=eZ.lo
 have v3:=vq.ask (id:=(n:Int)) (x:=x) (m:=m) (by omega) am hn
 obtain ⟨Cy,Cz,rfl,_⟩:=(show Sl aZ h3 q3 _ from pJ.sl)
 simp(disch:=first|omega|simp only[Wd]<;>omega|with_unfolding_all rfl)only[Wz,iC]
 have oM:Le h2 ⟨h3.nx+1,h3.bl.aS h3.nx (cL t r (.slice Cy (Q++[(dS Q w n x m).1]).length Cz) (dS Q w n x m).2.1),h3.lo⟩:=eZ.new _
 have lh4:Le h3 ⟨h3.nx+1,h3.bl.aS h3.nx (cL t r (.slice Cy (Q++[(dS Q w n x m).1]).length Cz) (dS Q w n x m).2.1),h3.lo⟩:=(Le.refl h3).new _
 have s4:=s2.le oM
 refine nT s4 (by show h3.lo≤h3.nx+1; omega) t r _ _ _ _ ((pJ.sl).le lh4) v3 (by simp; omega) ?_
 intro M' clock' v' h' s5 iy DC HD
 exact QD M' clock' F' h' n _ ⟨s5,hp2,hb,TZ,(mT.of_le l0).trans ((mT.T2 xM).trans ((mT.of_le oM).trans HD)),Q,w,hold,vq,v3,rfl,iy⟩
theorem nU.len {M:List HE} {F:List Int} {B:List Bool} (i:nU M B) (o:i_ F B) {e:HE} (he:e∈M):e.Q.length+F.length≤B.length:=by
 have h1:=jT o
 obtain ⟨X,hX⟩:=i
 have h2:=hX.length_eq
 rw[List.length_append] at h2
 have:e.Q.length≤(ez M).length:=by
  have hs:=List.append_of_mem he
  obtain ⟨s,t,rfl⟩:=hs
  simp[ez]; omega
 omega
theorem OC {h:Heap} {bb bm bp bl most:Nat} {M:List HE} {clock:Nat} {F:List Int} {B:List Bool} (s:aU h bb bm bp bl most M clock F B) (hlo:h.lo≤h.nx) (ids:nU M B) (N:Nat) (hN:N≤100000) (hw:∀e∈M,e.w≤N) (t r x m:Int) (κ:KQ)
  (hk2:∀h',bH m=false→Le h h'→κ (.tuple ⟨[.int .i64 0,.bool false,.int .i64 2]⟩) h')
  (Ry:∀h' e p,bH m=true→e∈M→t=e.t→r=e.r→p∈e.Q→p.x=x→Le h h'→κ (.tuple ⟨[.int .i64 0,.bool false,.int .i64 4]⟩) h')
  (X2:∀h',bH m=true→(∀e∈M,t=e.t→r=e.r→∀p∈e.Q,p.x≠x)→(F=[]∨((∀e∈M,¬(t=e.t∧r=e.r))∧most≤M.length))→Le h h'→κ (.tuple ⟨[.int .i64 0,.bool false,.int .i64 8]⟩) h')
  (QD:∀M' clock' F' h' n g,bH m=true→(∀e∈M,t=e.t→r=e.r→∀p∈e.Q,p.x≠x)→kI h h' bb bm bp bl most M M' clock' F F' B t r x m n g→κ (.tuple ⟨[.int .i64 (n:Int),.bool g,.int .i64 0]⟩) h') :
  CallW Tryz.prog 255 [.pointer (some ⟨bb,0,none⟩),ew t r,.int .i64 x,.int .i64 m] h κ:=by
 refine aj mixed ?_
 rw[S9]
 have Vh:F.length≤1000:=by have:=jT s.ck.ok; have:=s.ck.small; omega
 simp(disch:=first|omega|simp only[Wd]<;>omega|with_unfolding_all rfl)only[Wz,ew]
 obtain ⟨hA,aK⟩:∃hA:Heap,hA=⟨h.nx+1,(h.bl.aS (h.nx) (aa [.int .i64 t,.int .i64 r] 36 false)),h.lo⟩:=⟨_,rfl⟩
 have aO:Le h hA:=by subst aK; exact ((Le.refl h).new _)
 have g1:hA.bl.get (h.nx)=some (aa [.int .i64 t,.int .i64 r] 36 false):=by subst aK; exact T.af _ _ _
 have gH:hA.nx=h.nx+1:=by subst aK; rfl
 have gI:hA.lo=h.lo:=by subst aK; rfl
 rw[←aK]
 clear aK
 have sA:=s.le aO
 simp(disch:=first|omega|simp only[Wd]<;>omega|with_unfolding_all rfl)only[Wz,fL,B_]
 by_cases h0:m=0
 ·simp(disch:=first|omega|simp only[Wd]<;>omega|with_unfolding_all rfl)only[Wz,bf h0]
  exact hk2 _ (by simp[bH,h0]) aO
 simp(disch:=first|omega|simp only[Wd]<;>omega|with_unfolding_all rfl)only[Wz,a_ h0]
 refine q9 m ?_
 cases hkn:kn m with
 | false=>
  simp(disch:=first|omega|simp only[Wd]<;>omega|with_unfolding_all rfl)only[Wz]
  exact hk2 _ (by simp[bH,hkn]) aO
 | true=>
 have am:bH m=true:=by simp[bH,hkn,h0]
 simp(disch:=first|omega|simp only[Wd]<;>omega|with_unfolding_all rfl)only[Wz,B9,g1]
 refine CH sA (by omega) t r x _ ?_ ?_
 case _=>
  intro h2 hno bF
  have jb:=aO.trans bF
  have s2:=sA.le bF
  have n2:=bF.nx
  have l2:=bF.lo
  have gb:=s2.fq
  have gm:=s2.eM
  have g1:=(bF.get _ (by omega)).trans g1
  by_cases hc:∃e∈M,t=e.t∧r=e.r
  ·obtain ⟨e,he,rfl,rfl⟩:=hc
   have eL:=CF (β:=Option Value) (fl:=none) s2.ok gm he
   unfold ew at eL
   have H:=s2.aH e he
   have hgd:=s2.good e he
   simp(disch:=first|omega|simp only[Wd]<;>omega|with_unfolding_all rfl)only[Wz,vT,ax,gb,g1,eL]
   refine ⟨fun l h'=>slot l 18=.pointer (some ⟨e.hb,0,none⟩)∧HQ h2 h',⟨rfl,rfl⟩,?_⟩
   rintro l h' ⟨hl,hq⟩
   cases (show h2=h' from hq)
   refine yD s2 (by omega) jb ids Vh N hN hw e.t e.r x m am l e.hb e.Q e.q e.w hl H.lt H.get H.qv hgd.vq (fun hF0=>?_) (hw e he) (hno e he rfl rfl) (fun p hp=>ids.find he hp) (.inl ⟨e,he,rfl,rfl,rfl,rfl⟩) κ (fun h' h1 h3=>X2 h' am hno (.inl h1) h3) fun M' clock' F' h' n g hA=>QD M' clock' F' h' n g am hno hA
   have:=ids.len s.ck.ok he
   have:=s.ck.small
   have:=List.length_pos_iff.2 hF0
   omega
  ·have hn:∀e∈M,¬(t=e.t∧r=e.r):=fun e he h=>hc ⟨e,he,h⟩
   have eL:=yz (β:=Option Value) (fl:=none) gm t r hn
   unfold ew at eL
   simp(disch:=first|omega|simp only[Wd]<;>omega|with_unfolding_all rfl)only[Wz,vT,ax,gb,g1,eL]
   by_cases hfull:M.length<most
   ·obtain ⟨hB,eB⟩:∃hB:Heap,hB=⟨h2.nx+1,h2.bl.aS h2.nx (cL t r (.slice none 0 0) 0),h2.lo⟩:=⟨_,rfl⟩
    have leB:Le h2 hB:=by rw[eB]; exact (Le.refl h2).new _
    have gB:hB.bl.get h2.nx=some (cL t r (.slice none 0 0) 0):=by rw[eB]; exact T.af _ _ _
    have nB:hB.nx=h2.nx+1:=by rw[eB]
    have lB:hB.lo=h2.lo:=by rw[eB]
    refine ⟨fun l h'=>slot l 18=.pointer (some ⟨h2.nx,0,none⟩)∧HQ hB h',?_,?_⟩
    ·simp(disch:=first|omega|simp only[Wd]<;>omega|with_unfolding_all rfl)only[Wz,vR,ax,gb,g1,jG,gm,bL,List.length_map,bf (show Int.ofNat M.length<(most:Int) from by show (M.length:Int)<_; omega),Bool.not_true]
     exact ⟨trivial,eB⟩
    ·rintro l h' ⟨hl,hq⟩
     cases (show hB=h' from hq)
     have sB:=s2.le leB
     exact yD sB (by omega) (jb.trans leB) ids Vh N hN hw t r x m am l h2.nx [] (.slice none 0 0) 0 hl (by omega) gB ⟨Sl.nil _ _ _,fun b o n c hv _=>nomatch hv⟩ VQ.nil (fun _=>by simp) (by omega) (fun p hp=>nomatch hp) (fun p hp=>nomatch hp) (.inr ⟨hn,hfull,rfl,rfl⟩) κ (fun h' h1 h3=>X2 h' am hno (.inl h1) h3) fun M' clock' F' h' n g hA=>QD M' clock' F' h' n g am hno hA
   ·refine ⟨fun l h'=>False,?_,fun _ _ h=>h.elim⟩
    simp(disch:=first|omega|simp only[Wd]<;>omega|with_unfolding_all rfl)only[Wz,vR,ax,gb,g1,jG,gm,bL,List.length_map,a_ (show ¬Int.ofNat M.length<(most:Int) from by show ¬(M.length:Int)<_; omega),Bool.not_false]
    exact X2 h2 am hno (.inr ⟨hn,by omega⟩) jb
 case _=>
  intro h2 e p he ht hr hp hx bF
  simp(disch:=first|omega|simp only[Wd]<;>omega|with_unfolding_all rfl)only[Wz]
  exact Ry h2 e p am he ht hr hp hx (aO.trans bF)
structure ij (h h':Heap) (bb bm bp bl most:Nat) (M M':List HE) (clock':Nat) (F':List Int) (B':List Bool) (e:HE) (Q1:List R5) (w1:Int):Prop where
 is:aU h' bb bm bp bl most M' clock' F' B'
 fr:mT bm bp bl h h'
 vq:VQ Q1 w1
 set:dN M M' e.t e.r w1 (cE (eV Q1+1) Q1).1
theorem ry {Q:List R5} {W:Int} (v:VQ Q W) {id:Int} {p:R5} (hf:bE Q id=some p):∃i:Nat,Q[i]? = some p∧p.id=id:=by
 obtain ⟨h1,h2⟩:=fI hf
 obtain ⟨i,hi⟩:=List.mem_iff_getElem?.1 h1
 exact ⟨i,hi,h2⟩
theorem CI {h:Heap} {bb bm bp bl most:Nat} {M:List HE} {clock:Nat} {F:List Int} {B:List Bool} (s:aU h bb bm bp bl most M clock F B) (hlo:h.lo≤h.nx) (N:Nat) (hN:N≤100000) (hw:∀e∈M,e.w≤N) (id m:Int) (κ:KQ)
  (hk2:∀h',bH m=false→Le h h'→κ (.tuple ⟨[.bool false,.int .i64 2]⟩) h')
  (K0:∀h',bH m=true→(∀e∈M,bE e.Q id=none)→Le h h'→κ (.tuple ⟨[.bool false,.int .i64 5]⟩) h')
  (T3:∀h' e p,bH m=true→e∈M→bE e.Q id=some p→0<p.s→Le h h'→κ (.tuple ⟨[.bool false,.int .i64 7]⟩) h')
  (j7:∀h' M' clock' e p i,bH m=true→e∈M→e.Q[i]? = some p→bE e.Q id=some p→¬0<p.s→ij h h' bb bm bp bl most M M' clock' F B e (e.Q.set i (h_ e.Q e.w p m).1) (h_ e.Q e.w p m).2.1→κ (.tuple ⟨[.bool (h_ e.Q e.w p m).2.2,.int .i64 0]⟩) h') :
  CallW Tryz.prog 256 [.pointer (some ⟨bb,0,none⟩),.int .i64 id,.int .i64 m] h κ:=by
 refine aj mixed ?_
 rw[S_]
 simp(disch:=first|omega|simp only[Wd]<;>omega|with_unfolding_all rfl)only[Wz,fL,Ca]
 refine Oz s hlo id _ ?_ ?_
 ·intro h1 hno bK
  have n1:=bK.nx
  have l1:=bK.lo
  simp(disch:=first|omega|simp only[Wd]<;>omega|with_unfolding_all rfl)only[Wz,nS]
  obtain ⟨hA,aK⟩:∃hA:Heap,hA=⟨h1.nx+1,(h1.bl.aS (h1.nx) (cL 0 0 (.slice none 0 0) 0)),h1.lo⟩:=⟨_,rfl⟩
  have aO:Le h1 hA:=by subst aK; exact ((Le.refl h1).new _)
  have g7:hA.bl.get (h1.nx)=some (cL 0 0 (.slice none 0 0) 0):=by subst aK; exact T.af _ _ _
  have gH:hA.nx=h1.nx+1:=by subst aK; rfl
  have gI:hA.lo=h1.lo:=by subst aK; rfl
  rw[←aK]
  clear aK
  refine ⟨fun l h'=>slot l 4=.pointer (some ⟨h1.nx,0,none⟩)∧HQ hA h',⟨rfl,rfl⟩,?_⟩
  rintro l h' ⟨hl,hq⟩
  cases (show hA=h' from hq)
  simp(disch:=first|omega|simp only[Wd]<;>omega|with_unfolding_all rfl)only[Wz,vU,hl,ax,g7]
  refine wq 0 0 _ 0 id m [] hA _ (Sl.nil _ _ _) (by simp) (by omega) (by omega) ?_ ?_ ?_ ?_
  ·intro ha h2 bF
   have:=bF.nx
   have:=bF.lo
   simp(disch:=first|omega|simp only[Wd]<;>omega|with_unfolding_all rfl)only[Wz,iC]
   exact hk2 _ ha (((bK.trans aO).trans bF).new _)
  ·intro ha _ h2 bF
   have:=bF.nx
   have:=bF.lo
   simp(disch:=first|omega|simp only[Wd]<;>omega|with_unfolding_all rfl)only[Wz,iC]
   exact K0 _ ha hno (((bK.trans aO).trans bF).new _)
  ·intro ha p hf; cases hf
  ·intro ha i p hi; simp at hi
 ·intro h1 e p0 he hf0 bK
  have n1:=bK.nx
  have l1:=bK.lo
  have s1:=s.le bK
  have H:=s1.aH e he
  have hlt:=H.lt
  have gd:=s1.good e he
  have GV:=gd.small
  obtain ⟨qx,qc,eq,_⟩:=(show Sl aZ h1 e.q e.Q from H.qv.1)
  have gh:=H.get
  rw[eq] at gh
  have we:=hw e he
  simp(disch:=first|omega|simp only[Wd]<;>omega|with_unfolding_all rfl)only[Wz,rq]
  refine ⟨fun l h'=>slot l 4=.pointer (some ⟨e.hb,0,none⟩)∧HQ h1 h',⟨rfl,rfl⟩,?_⟩
  rintro l h' ⟨hl,hq⟩
  cases (show h1=h' from hq)
  simp(disch:=first|omega|simp only[Wd]<;>omega|with_unfolding_all rfl)only[Wz,vU,hl,ax,gh]
  refine wq e.t e.r _ e.w id m e.Q h1 _ (by rw[←eq]; exact H.qv.1) (by omega) (by omega) ⟨gd.vq.w0,by omega⟩ ?_ ?_ ?_ ?_
  ·intro ha h2 bF
   have:=bF.nx
   have:=bF.lo
   simp(disch:=first|omega|simp only[Wd]<;>omega|with_unfolding_all rfl)only[Wz,iC]
   exact hk2 _ ha ((bK.trans bF).new _)
  ·intro ha hf; rw[hf] at hf0; cases hf0
  ·intro ha p hf hs h2 bF
   have:=bF.nx
   have:=bF.lo
   simp(disch:=first|omega|simp only[Wd]<;>omega|with_unfolding_all rfl)only[Wz,iC]
   exact T3 _ e p ha he hf hs ((bK.trans bF).new _)
  ·intro ha i p hi hf hs q' h2 uU bF
   have n2:=bF.nx
   have l2:=bF.lo
   obtain ⟨mQ,mR,rfl,_⟩:=(show Sl aZ h2 q' _ from uU.1)
   have vu:=gd.vq.upg hi hs ha
   simp(disch:=first|omega|simp only[Wd]<;>omega|with_unfolding_all rfl)only[Wz,iC]
   have eZ:Le h1 ⟨h2.nx+1,h2.bl.aS h2.nx (cL e.t e.r (.slice mQ (e.Q.set i (h_ e.Q e.w p m).1).length mR) (h_ e.Q e.w p m).2.1),h2.lo⟩:=bF.new _
   have lh3:Le h2 ⟨h2.nx+1,h2.bl.aS h2.nx (cL e.t e.r (.slice mQ (e.Q.set i (h_ e.Q e.w p m).1).length mR) (h_ e.Q e.w p m).2.1),h2.lo⟩:=(Le.refl h2).new _
   refine nT (s1.le eZ) (by show h2.lo≤h2.nx+1; omega) e.t e.r _ _ _ _ (uU.1.le lh3) vu (by rw[List.length_set]; omega) ?_
   intro M' clock' v' h' s5 iy _ HD
   exact j7 h' M' clock' e p i ha he hi hf hs ⟨s5,(mT.of_le (bK.trans eZ)).trans HD,vu,iy⟩
theorem HF {h:Heap} {bb bm bp bl most:Nat} {M:List HE} {clock:Nat} {F:List Int} {B:List Bool} (s:aU h bb bm bp bl most M clock F B) (hlo:h.lo≤h.nx) (ids:nU M B) (id:Int) (κ:KQ)
  (K0:∀h',(∀e∈M,bE e.Q id=none)→Le h h'→κ (.tuple ⟨[.slice none 0 0,.int .i64 5]⟩) h')
  (j7:∀h' M' clock' F' v' e p (n:Nat),e∈M→bE e.Q id=some p→id=(n:Int)→B[n]? = some true→F'.Perm (F++[(n:Int)])→ij h h' bb bm bp bl most M M' clock' F' (B.set n false) e (e.Q.filter fun r=>!bg id r) e.w→qa h h' v' (cE (eV (e.Q.filter fun r=>!bg id r)+1) (e.Q.filter fun r=>!bg id r)).2→κ (.tuple ⟨[v',.int .i64 0]⟩) h') :
  CallW Tryz.prog 291 [.pointer (some ⟨bb,0,none⟩),.int .i64 id] h κ:=by
 refine aj mixed ?_
 rw[Tj]
 refine Oz s hlo id _ ?_ ?_
 ·intro h1 hno bK
  simp(disch:=first|omega|simp only[Wd]<;>omega|with_unfolding_all rfl)only[Wz,nS]
  refine KY bb h1 _ ?_
  exact K0 h1 hno bK
 ·intro h1 e p he hf bK
  have n1:=bK.nx
  have l1:=bK.lo
  have s1:=s.le bK
  have H:=s1.aH e he
  have hlt:=H.lt
  have gd:=s1.good e he
  have GV:=gd.small
  obtain ⟨qx,qc,eq,_⟩:=(show Sl aZ h1 e.q e.Q from H.qv.1)
  have gh:=H.get
  rw[eq] at gh
  obtain ⟨n,en,uT⟩:=ids.find he (fI hf).1
  have QA:id=(n:Int):=by rw[←en]; exact (fI hf).2.symm
  have Vh:F.length≤1000:=by have:=jT s.ck.ok; have:=s.ck.small; omega
  simp(disch:=first|omega|simp only[Wd]<;>omega|with_unfolding_all rfl)only[Wz,rq,Ci,ax,gh]
  refine Om e.t e.r _ e.w id e.Q h1 _ (by rw[←eq]; exact H.qv.1) (by omega) (by omega) (by rw[hf]; simp) ?_
  intro q' h2 uU bF
  have n2:=bF.nx
  have l2:=bF.lo
  obtain ⟨mQ,mR,rfl,_⟩:=(show Sl aZ h2 q' _ from uU.1)
  have s2:=s1.le bF
  have gb:=s2.fq
  have hlb:=s2.IB
  simp(disch:=first|omega|simp only[Wd]<;>omega|with_unfolding_all rfl)only[Wz,iC]
  obtain ⟨h3,e3⟩:∃h3:Heap,h3=⟨h2.nx+1,h2.bl.aS h2.nx (cL e.t e.r (.slice mQ (e.Q.filter fun r=>!bg id r).length mR) e.w),h2.lo⟩:=⟨_,rfl⟩
  have eZ:Le h2 h3:=by rw[e3]; exact (Le.refl h2).new _
  have g3:h3.bl.get h2.nx=some (cL e.t e.r (.slice mQ (e.Q.filter fun r=>!bg id r).length mR) e.w):=by rw[e3]; exact T.af _ _ _
  have n3:h3.nx=h2.nx+1:=by rw[e3]
  have l3:h3.lo=h2.lo:=by rw[e3]
  rw[←e3]
  clear e3
  have s3:=s2.le eZ
  have hl:=gd.vq.filter fun r=>!bg id r
  simp(disch:=first|omega|simp only[Wd]<;>omega|with_unfolding_all rfl)only[Wz,gb,QA]
  refine KU bp bl F B n h3 _ s3.ck Vh (by omega) s3.ne uT ?_
  intro h4 F' p4 OD X3
  have n4:=X3.nx
  have l4:=X3.lo
  have H4:=ja.nV (e:=⟨e.t,e.r,h2.nx,0,_,e.w,_⟩) ⟨by show h2.nx<h3.nx; omega,g3,uU.le eZ⟩ s3.ck X3
  have g4:=H4.get
  simp(disch:=first|omega|simp only[Wd]<;>omega|with_unfolding_all rfl)only[Wz,g4]
  have lf:(e.Q.filter fun r=>!bg id r).length≤e.Q.length:=List.length_filter_le _ _
  refine nT (s3.nV p4 X3) (by omega) e.t e.r _ _ _ _ H4.qv.1 hl (by show (e.Q.filter fun r=>!bg id r).length≤128; omega) ?_
  intro M' clock' v' h' s5 iy DC HD
  have IA:qa h h' v' _:=fu.base DC (by have:=bK.nx; omega)
  exact j7 h' M' clock' F' v' e p n he hf QA uT OD ⟨s5,(mT.of_le ((bK.trans bF).trans eZ)).trans ((mT.T2 X3).trans HD),hl,iy⟩ IA
theorem CJ (Q:List R5) (id:Int):bE (Q.filter fun r=>!bg id r) id=none:=by
 unfold bE
 rw[List.find?_eq_none]
 intro x hx
 rw[List.mem_filter] at hx
 have:=hx.2
 cases h:bg id x with
 | false=>simp
 | true=>rw[h] at this; cases this
theorem K_ {Q:List R5} {W:Int} (v:VQ Q W) {i:Nat} {p p':R5} {id:Int} (hi:Q[i]? = some p) (hid:p.id=id) (hp:p'.id=p.id):∃o,bE (Q.set i p') id=some o:=by
 cases h:bE (Q.set i p') id with
 | some o=>exact ⟨o,rfl⟩
 | none=>
  obtain ⟨hl,_⟩:=List.getElem?_eq_some_iff.1 hi
  exact absurd (hp.trans hid) (pZ h p' (List.mem_of_getElem? (i:=i) (by rw[List.getElem?_set,if_pos rfl,if_pos hl])))
theorem CL {h:Heap} {bb bm bp bl most:Nat} {M:List HE} {clock:Nat} {F:List Int} {B:List Bool} (s:aU h bb bm bp bl most M clock F B) (hlo:h.lo≤h.nx) (ids:nU M B) (id:Int) (κ:KQ)
  (K0:∀h',(∀e∈M,bE e.Q id=none)→Le h h'→κ (.tuple ⟨[.slice none 0 0,.int .i64 5]⟩) h')
  (T3:∀h' e p,e∈M→bE e.Q id=some p→¬0<p.s→Le h h'→κ (.tuple ⟨[.slice none 0 0,.int .i64 7]⟩) h')
  (j7:∀h' M' clock' F' v' e p (n:Nat),e∈M→bE e.Q id=some p→0<p.s→p.m=0→id=(n:Int)→B[n]? = some true→F'.Perm (F++[(n:Int)])→ij h h' bb bm bp bl most M M' clock' F' (B.set n false) e (e.Q.filter fun r=>!bg id r) e.w→qa h h' v' (cE (eV (e.Q.filter fun r=>!bg id r)+1) (e.Q.filter fun r=>!bg id r)).2→κ (.tuple ⟨[v',.int .i64 0]⟩) h')
  (fQ:∀h' M' clock' v' e p i,e∈M→e.Q[i]? = some p→bE e.Q id=some p→0<p.s→p.m≠0→ij h h' bb bm bp bl most M M' clock' F B e (e.Q.set i (mI p)) e.w→qa h h' v' (cE (eV (e.Q.set i (mI p))+1) (e.Q.set i (mI p))).2→κ (.tuple ⟨[v',.int .i64 0]⟩) h') :
  CallW Tryz.prog 204 [.pointer (some ⟨bb,0,none⟩),.int .i64 id] h κ:=by
 refine aj mixed ?_
 rw[SL]
 refine Oz s hlo id _ ?_ ?_
 ·intro h1 hno bK
  simp(disch:=first|omega|simp only[Wd]<;>omega|with_unfolding_all rfl)only[Wz,nS]
  refine KY bb h1 _ ?_
  exact K0 h1 hno bK
 ·intro h1 e p he hf bK
  have n1:=bK.nx
  have l1:=bK.lo
  have s1:=s.le bK
  have H:=s1.aH e he
  have hlt:=H.lt
  have gd:=s1.good e he
  have GV:=gd.small
  obtain ⟨qx,qc,eq,_⟩:=(show Sl aZ h1 e.q e.Q from H.qv.1)
  have gh:=H.get
  rw[eq] at gh
  obtain ⟨n,en,uT⟩:=ids.find he (fI hf).1
  have QA:id=(n:Int):=by rw[←en]; exact (fI hf).2.symm
  have Vh:F.length≤1000:=by have:=jT s.ck.ok; have:=s.ck.small; omega
  obtain ⟨i,hi,TP⟩:=ry gd.vq hf
  simp(disch:=first|omega|simp only[Wd]<;>omega|with_unfolding_all rfl)only[Wz,rq,BT,ax,gh]
  refine Hw e.t e.r _ e.w id e.Q h1 _ (by rw[←eq]; exact H.qv.1) (by omega) (by omega) gd.vq.pair hi TP ?_ ?_ ?_
  ·intro hs h2 bF
   have:=bF.nx
   have:=bF.lo
   simp(disch:=first|omega|simp only[Wd]<;>omega|with_unfolding_all rfl)only[Wz,iC]
   exact T3 _ e p he hf hs ((bK.trans bF).new _)
  ·intro hs hm0 q' h2 uU bF
   have n2:=bF.nx
   have l2:=bF.lo
   obtain ⟨mQ,mR,rfl,_⟩:=(show Sl aZ h2 q' _ from uU.1)
   have s2:=s1.le bF
   have gb:=s2.fq
   have hlb:=s2.IB
   simp(disch:=first|omega|simp only[Wd]<;>omega|with_unfolding_all rfl)only[Wz,iC]
   obtain ⟨h3,e3⟩:∃h3:Heap,h3=⟨h2.nx+1,h2.bl.aS h2.nx (cL e.t e.r (.slice mQ (e.Q.filter fun r=>!bg id r).length mR) e.w),h2.lo⟩:=⟨_,rfl⟩
   have eZ:Le h2 h3:=by rw[e3]; exact (Le.refl h2).new _
   have g3:h3.bl.get h2.nx=some (cL e.t e.r (.slice mQ (e.Q.filter fun r=>!bg id r).length mR) e.w):=by rw[e3]; exact T.af _ _ _
   have n3:h3.nx=h2.nx+1:=by rw[e3]
   have l3:h3.lo=h2.lo:=by rw[e3]
   rw[←e3]
   clear e3
   have hlv:=gd.vq.filter fun r=>!bg id r
   have lf:(e.Q.filter fun r=>!bg id r).length≤e.Q.length:=List.length_filter_le _ _
   refine ⟨fun l h'=>∃F',F'.Perm (F++[(n:Int)])∧aU h' bb bm bp bl most M clock F' (B.set n false)∧h'.bl.get h2.nx=some (cL e.t e.r (.slice mQ (e.Q.filter fun r=>!bg id r).length mR) e.w)∧QV h' (.slice mQ (e.Q.filter fun r=>!bg id r).length mR) (e.Q.filter fun r=>!bg id r)∧mT bm bp bl h h'∧h3.nx≤h'.nx,?_,?_⟩
   ·simp(disch:=first|omega|simp only[Wd]<;>omega|with_unfolding_all rfl)only[Wz,vM,g3]
    refine ux e.t e.r _ e.w id _ h3 _ (uU.1.le eZ) (by omega) (by omega) ?_
    intro h4 oM
    have n4:=oM.nx
    have l4:=oM.lo
    rw[CJ]
    have s4:=(s2.le eZ).le oM
    have gb4:=s4.fq
    have ag9:=s4.IB
    have s5:=s4.le ((Le.refl h4).new (gG ⟨0,0,0,0,0⟩))
    simp(disch:=first|omega|simp only[Wd]<;>omega|with_unfolding_all rfl)only[Wz,aZ,ax,gb4,QA]
    refine KU bp bl F B n _ _ s5.ck Vh (by show h4.lo≤h4.nx+1; omega) s5.ne uT ?_
    intro h6 F' p6 hp6 T4
    have n6:h4.nx+1≤h6.nx:=T4.nx
    have H6:=ja.nV (e:=⟨e.t,e.r,h2.nx,0,_,e.w,_⟩) (ja.le ⟨by show h2.nx<h3.nx; omega,g3,uU.le eZ⟩ (oM.new _)) s5.ck T4
    have G6:=H6.get
    have Q6:=H6.qv
    simp only[QA] at G6 Q6
    exact ⟨F',hp6,s5.nV p6 T4,G6,Q6,(mT.of_le (((bK.trans bF).trans eZ).trans (oM.new _))).trans (mT.T2 T4),by omega⟩
   ·rintro l h6 ⟨F',hp6,s6,g6,hq6,T4,n6⟩
    have l6:=T4.lo
    simp(disch:=first|omega|simp only[Wd]<;>omega|with_unfolding_all rfl)only[Wz,g6]
    refine nT s6 (by omega) e.t e.r _ _ _ _ hq6.1 hlv (by omega) ?_
    intro M' clock' v' h' s7 iy OE fr7
    exact j7 h' M' clock' F' v' e p n he hf hs hm0 QA uT hp6 ⟨s7,T4.trans fr7,hlv,iy⟩ (fu.base OE (by omega))
  ·intro hs hm0 q' h2 uU bF
   have n2:=bF.nx
   have l2:=bF.lo
   obtain ⟨mQ,mR,rfl,_⟩:=(show Sl aZ h2 q' _ from uU.1)
   have s2:=s1.le bF
   simp(disch:=first|omega|simp only[Wd]<;>omega|with_unfolding_all rfl)only[Wz,iC]
   obtain ⟨h3,e3⟩:∃h3:Heap,h3=⟨h2.nx+1,h2.bl.aS h2.nx (cL e.t e.r (.slice mQ (e.Q.set i (mI p)).length mR) e.w),h2.lo⟩:=⟨_,rfl⟩
   have eZ:Le h2 h3:=by rw[e3]; exact (Le.refl h2).new _
   have g3:h3.bl.get h2.nx=some (cL e.t e.r (.slice mQ (e.Q.set i (mI p)).length mR) e.w):=by rw[e3]; exact T.af _ _ _
   have n3:h3.nx=h2.nx+1:=by rw[e3]
   have l3:h3.lo=h2.lo:=by rw[e3]
   rw[←e3]
   clear e3
   have hlv:=gd.vq.back hi hm0
   obtain ⟨o,ho⟩:=K_ gd.vq hi TP (p':=mI p) rfl
   refine ⟨fun l h'=>Le h3 h',?_,?_⟩
   ·simp(disch:=first|omega|simp only[Wd]<;>omega|with_unfolding_all rfl)only[Wz,vM,g3]
    refine ux e.t e.r _ e.w id _ h3 _ (uU.1.le eZ) (by rw[List.length_set]; omega) (by omega) ?_
    intro h4 oM
    have n4:=oM.nx
    have l4:=oM.lo
    rw[ho]
    simp(disch:=first|omega|simp only[Wd]<;>omega|with_unfolding_all rfl)only[Wz,aZ]
    exact oM.new _
   ·intro l h6 sG
    have n6:=sG.nx
    have l6:=sG.lo
    have g6:=(sG.get _ (by omega)).trans g3
    simp(disch:=first|omega|simp only[Wd]<;>omega|with_unfolding_all rfl)only[Wz,g6]
    have wF:=eZ.trans sG
    refine nT (s2.le wF) (by omega) e.t e.r _ _ _ _ (uU.1.le wF) hlv (by rw[List.length_set]; omega) ?_
    intro M' clock' v' h' s7 iy OE fr7
    exact fQ h' M' clock' v' e p i he hi hf hs hm0 ⟨s7,(mT.of_le ((bK.trans bF).trans wF)).trans fr7,hlv,iy⟩ (fu.base OE (by omega))
theorem ab_ (a b c d e:Int):iI 8 (.agg ⟨[.int .i64 a,.int .i64 b,.int .i64 c,.int .i64 d,.int .i64 e]⟩) (.agg ⟨[.int .i64 a,.int .i64 b,.int .i64 c,.int .i64 d,.int .i64 e]⟩)=true:=by unfold iI; exact sq 6 [a,b,c,d,e]
theorem OF {h:Heap} {bb bm bp bl most:Nat} {M:List HE} {clock:Nat} {F:List Int} {B:List Bool} (s:aU h bb bm bp bl most M clock F B) (hlo:h.lo≤h.nx) (id:Int) (κ:KQ)
  (j7:∀h',(∀e∈M,bE e.Q id=none)→Le h h'→κ (.tuple ⟨[ew 0 0,jR ⟨0,0,0,0,0⟩,.bool false]⟩) h')
  (fQ:∀h' e p,e∈M→bE e.Q id=some p→Le h h'→κ (.tuple ⟨[ew e.t e.r,jR p,.bool true]⟩) h') :
  CallW Tryz.prog 202 [.pointer (some ⟨bb,0,none⟩),.int .i64 id] h κ:=by
 refine aj mixed ?_
 rw[Kk]
 simp(disch:=first|omega|simp only[Wd]<;>omega|with_unfolding_all rfl)only[Wz]
 obtain ⟨hA,aK⟩:∃hA:Heap,hA=⟨h.nx+1+1,((h.bl.aS (h.nx) (aa [.int .i64 0,.int .i64 0] 36 false)).aS (h.nx+1) (gG ⟨0,0,0,0,0⟩)),h.lo⟩:=⟨_,rfl⟩
 have aO:Le h hA:=by subst aK; exact (((Le.refl h).new _).new _)
 have g1:hA.bl.get (h.nx)=some (aa [.int .i64 0,.int .i64 0] 36 false):=by subst aK; exact (T.ah _ _ (by omega)).trans (T.af _ _ _)
 have g3:hA.bl.get (h.nx+1)=some (gG ⟨0,0,0,0,0⟩):=by subst aK; exact T.af _ _ _
 have gH:hA.nx=h.nx+1+1:=by subst aK; rfl
 have gI:hA.lo=h.lo:=by subst aK; rfl
 rw[←aK]
 clear aK
 refine Oz (s.le aO) (by omega) id _ ?_ ?_
 ·intro h1 hno bK
  have n1:=bK.nx
  have l1:=bK.lo
  have g1:=(bK.get _ (by omega)).trans g1
  have g3:=(bK.get _ (by omega)).trans g3
  simp(disch:=first|omega|simp only[Wd]<;>omega|with_unfolding_all rfl)only[Wz,nS,g1,g3,aZ]
  exact j7 _ hno ((((aO.trans bK).set (by omega) _)).set (by omega) _)
 ·intro h1 e p he hf bK
  have n1:=bK.nx
  have l1:=bK.lo
  have g1:=(bK.get _ (by omega)).trans g1
  have g3:=(bK.get _ (by omega)).trans g3
  have s1:=(s.le aO).le bK
  have H:=s1.aH e he
  have hlt:=H.lt
  have gd:=s1.good e he
  have GV:=gd.small
  obtain ⟨qx,qc,eq,_⟩:=(show Sl aZ h1 e.q e.Q from H.qv.1)
  have gh:=H.get
  rw[eq] at gh
  simp(disch:=first|omega|simp only[Wd]<;>omega|with_unfolding_all rfl)only[Wz,rq,BS,ax,gh]
  refine ux e.t e.r _ e.w id _ h1 _ (by rw[←eq]; exact H.qv.1) (by omega) (by omega) ?_
  intro h2 bF
  have n2:=bF.nx
  have l2:=bF.lo
  have g1:=(bF.get _ (by omega)).trans g1
  have g3:=(bF.get _ (by omega)).trans g3
  have gh2:=(bF.get _ hlt).trans gh
  rw[hf]
  simp(disch:=first|omega|simp only[Wd]<;>omega|with_unfolding_all rfl)only[Wz,aZ,g1,g3,gh2,ax,ab_]
  exact fQ _ e p he hf (((((aO.trans bK).trans bF).new _).set (by omega) _).set (by omega) _)
end Go.Proofs

namespace Go.Vai
open Go
def Vi (P:Program) (skip:FuncId→Bool):jg Prop:=⟨fun f=>match skip f with | true=>none | false=>some (CallW P f),And⟩
theorem Er (P:Program) (skip:FuncId→Bool):fm (fun p:Prop=>p) (Vi P skip) P:=by
 refine ⟨fun x y h=>h,fun f g hg args args' h φ w κ ha hr hgood=>?_⟩
 unfold Vi at hg
 simp only at hg
 split at hg
 ·cases hg
 ·cases hg
  exact hgood φ w args' ha hr
theorem yE {P:Program} (hm:P.follows .mixedOrders=true) {skip:FuncId→Bool} {f:FuncId} {args:List Value} {h:Heap} {κ:Value→Heap→Prop} (n:Nat)
  (hg:ia False (Vi P skip) P (run False (Vi P skip) P n) f args h κ):CallW P f args h κ:=by
 intro φ w args' ha hr
 exact eG (good:=fun p:Prop=>p) (fl:=False) (fun h=>h) (Er P skip) (x9 (fun h=>h) (Er P skip) (pO (fun h=>h) (Er P skip) hm) n).1 ha hr hg
def zV (P:Program) (f:FuncId):Code:=match uJ P f with | .mk c _ _=>c | .none=>.skip
def jc:Code→Code | .seq a _=>a | c=>c
def j8:Code→Code | .seq _ b=>b | c=>c
def La:Code→Code | .block _ c=>c | .loop c=>c | .scope c=>c | c=>c
def rfA:Code→Code | .rangeFunc _ _ a _=>a | c=>c
def rfB:Code→Code | .rangeFunc _ _ _ b=>b | c=>c
end Go.Vai

namespace Go.Proofs
open Go.Vai Go.Clashes
abbrev fK:FuncId:=227
abbrev fA:FuncId:=262
def QE (f:FuncId):Bool:=Nat.beq f fK || Nat.beq f fA
noncomputable abbrev pN:jg Prop:=Vi Tryz.prog QE
noncomputable abbrev RN (n:Nat):Rec Prop:=run False pN Tryz.prog n
noncomputable def cK:Code:=zV Tryz.prog fK
noncomputable def cA:Code:=zV Tryz.prog fA
noncomputable def kA:Code:=jc cK
noncomputable def kL:Code:=La (La (j8 cK))
noncomputable def kB:Code:=jc kL
noncomputable def QF:Code:=La (j8 (j8 kL))
noncomputable def kC:Code:=jc QF
noncomputable def kD:Code:=jc (j8 QF)
theorem X4:cK=.seq kA (.block 0 (.loop (.seq kB (.seq (.cond (.tmp 7) .skip (.exit 0)) (.block 1 (.seq kC (.seq kD (.cond (.tmp 13) .ret .skip)))))))):=by kernel_rfl
noncomputable def aA:Code:=jc cA
noncomputable def aB:Code:=jc (jc (j8 cA))
noncomputable def aR:Code:=La (j8 (jc (j8 cA)))
noncomputable def aP:Code:=rfA aR
noncomputable def aQ:Code:=La (rfB aR)
noncomputable def aC:Code:=jc (j8 (j8 cA))
theorem X5:cA=.seq aA (.seq (.seq aB (.block 0 (.rangeFunc (.tmp 6) #[7] aP (.block 1 aQ)))) (.seq aC .ret)):=by kernel_rfl
variable (rec:Rec Prop) (tm:T Value) (h:Heap)
theorem rkA (κ:Ex→T Value→Heap→Prop):body False pN Tryz.prog rec kA tm h κ =
  ev tm (.tmp 1) fun x=>load1 False x h fun v h=>T.set tm 4 v fun tm=>ev tm (.tmp 4) fun x=>lU False x h fun v h=>T.set tm 5 v fun tm=>κ .normal tm h:=by kernel_rfl
theorem rkB (κ:Ex→T Value→Heap→Prop):body False pN Tryz.prog rec kB tm h κ =
  ev tm (.tmp 5) fun x=>oP False And x h fun v h=>T.set tm 6 v fun tm=>ev tm (.tmp 6) fun x=>aq False 0 x h fun v h=>T.set tm 7 v fun tm=>κ .normal tm h:=by kernel_rfl
theorem rkC (κ:Ex→T Value→Heap→Prop):body False pN Tryz.prog rec kC tm h κ =
  ev tm (.tmp 5) fun x=>lV False x h fun v h=>T.set tm 8 v fun tm=>ev tm (.tmp 8) fun x=>aq False 0 x h fun v h=>T.set tm 9 v fun tm=>
   an False (aa [.int .i64 0,.int .i64 0] 36 false) h fun b h=>T.set tm 3 (ptrTo b) fun tm=>ev tm (.tmp 3) fun a=>ev tm (.tmp 9) fun v=>aG False 2 a v h fun v h=>κ .normal tm h:=by kernel_rfl
theorem rkD (κ:Ex→T Value→Heap→Prop):body False pN Tryz.prog rec kD tm h κ =
  ev tm (.tmp 0) fun fv=>T.set tm 10 fv fun tm=>ev tm (.tmp 3) fun x=>aI False 2 x h fun v h=>T.set tm 11 v fun tm=>
   ev tm (.tmp 11) fun x=>ev tm (.tmp 10) fun fv=>sU False pN Tryz.prog rec fv [x] h fun v h=>T.set tm 12 v fun tm=>ev tm (.tmp 12) fun x=>iX False .not x h fun v h=>T.set tm 13 v fun tm=>κ .normal tm h:=by kernel_rfl
theorem acd (κ:Ex→T Value→Heap→Prop):body False pN Tryz.prog rec aA tm h κ =
  ev tm (.tmp 0) fun s=>aF False (Value.cells s).toList 226 false fun o=>an False o h fun b h=>T.set tm 2 (ptrTo b) fun tm=>T.set tm 4 (.slice none 0 0) fun tm=>κ .normal tm h:=by kernel_rfl
theorem ace (κ:Ex→T Value→Heap→Prop):body False pN Tryz.prog rec aB tm h κ=ev tm (.tmp 1) fun g=>T.set tm 6 g fun tm=>κ .normal tm h:=by kernel_rfl
theorem acf (κ:Ex→T Value→Heap→Prop):body False pN Tryz.prog rec aP tm h κ =
  an False (aa [.int .i64 0,.int .i64 0] 36 false) h fun b h=>T.set tm 5 (ptrTo b) fun tm=>ev tm (.tmp 5) fun a=>ev tm (.tmp 7) fun v=>aG False 2 a v h fun v h=>κ .normal tm h:=by kernel_rfl
theorem acg (κ:Ex→T Value→Heap→Prop):body False pN Tryz.prog rec aQ tm h κ =
  ev tm (.tmp 2) fun x=>load1 False x h fun v h=>T.set tm 8 v fun tm=>ev tm (.tmp 5) fun x=>aI False 2 x h fun v h=>T.set tm 9 v fun tm=>
   ev tm (.tmp 9) fun v=>bJ False [(0,2)] [v] [.int .i64 0,.int .i64 0] fun cs=>aF False cs 36 false fun o=>an False o h fun b h=>T.set tm 10 (sliceTo 1 1 b) fun tm=>
   ev tm (.tmp 8) fun s=>ev tm (.tmp 10) fun x=>bG False 36 2 [.int .i64 0,.int .i64 0] false s x h fun v h=>T.set tm 11 v fun tm=>ev tm (.tmp 2) fun a=>ev tm (.tmp 11) fun v=>aG False 1 a v h fun v h=>κ .normal tm h:=by kernel_rfl
theorem ach (κ:Ex→T Value→Heap→Prop):body False pN Tryz.prog rec aC tm h κ =
  ev tm (.tmp 2) fun x=>load1 False x h fun v h=>T.set tm 12 v fun tm=>ev tm (.tmp 12) fun v=>T.set tm 4 v fun tm=>κ .normal tm h:=by kernel_rfl
theorem X6 (s g:Value) (κ:KQ):ia False pN Tryz.prog rec fA [s,g] h κ=rec cA (lay [s,g] .nil 0) h (rU False [.tmp 4] κ):=by kernel_rfl
theorem X7 (y m:Value) (κ:KQ):ia False pN Tryz.prog rec fK [y,m] h κ=rec cK (lay [y,m] .nil 0) h (rU False [] κ):=by kernel_rfl
theorem bB (t:T Value) (n:Nat) (v:Value):bX (t.aS n v) n=v:=by unfold bX; rw[T.af]
theorem ct (t:T Value) {n m:Nat} (v:Value) (h:n≠m):bX (t.aS n v) m=bX t m:=by unfold bX; rw[T.ah _ _ h]
theorem dG {β:Type} (tm:T Value) (t:Nat) (κ:Value→β):ev tm (.tmp t) κ=κ (bX tm t):=eE _ _ _
section
variable (n:Nat) (a b:Code) (tm:T Value) (h:Heap) (κ:Ex→T Value→Heap→Prop)
theorem CM:RN (n+1) (.seq a b) tm h κ=RN n a tm h (oH (RN n) b κ):=id rfl
theorem Lb (t:Nat):RN (n+1) (.cond (.tmp t) a b) tm h κ=qw False (RN n) a b tm h κ (bX tm t):=eE tm (.tmp t) (qw False (RN n) a b tm h κ)
theorem uz (i:Nat):RN (n+1) (.block i a) tm h κ=RN n a tm h (iu i κ):=id rfl
theorem T6:RN (n+1) (.loop a) tm h κ=RN n a tm h (oH (RN n) (.loop a) κ):=id rfl
theorem Lc (i:Nat):RN (n+1) (.exit i) tm h κ=κ (.exit i) tm h:=id rfl
theorem X8:RN (n+1) .ret tm h κ=κ .ret tm h:=id rfl
theorem Ld:RN (n+1) .skip tm h κ=κ .normal tm h:=id rfl
theorem aci (t:Nat) (ps:Array Tmp):RN (n+1) (.rangeFunc (.tmp t) ps a b) tm h κ=c9 False pN Tryz.prog (RN n) ps.toList a b tm h κ (bX tm t):=eE tm (.tmp t) (c9 False pN Tryz.prog (RN n) ps.toList a b tm h κ)
theorem acj:RN (n+1) kA tm h κ=body False pN Tryz.prog (RN n) kA tm h κ:=id rfl
theorem ack:RN (n+1) kB tm h κ=body False pN Tryz.prog (RN n) kB tm h κ:=id rfl
theorem acm:RN (n+1) kC tm h κ=body False pN Tryz.prog (RN n) kC tm h κ:=id rfl
theorem acn:RN (n+1) kD tm h κ=body False pN Tryz.prog (RN n) kD tm h κ:=id rfl
theorem aco:RN (n+1) aA tm h κ=body False pN Tryz.prog (RN n) aA tm h κ:=id rfl
theorem acp:RN (n+1) aB tm h κ=body False pN Tryz.prog (RN n) aB tm h κ:=id rfl
theorem acq:RN (n+1) aP tm h κ=body False pN Tryz.prog (RN n) aP tm h κ:=id rfl
theorem acr:RN (n+1) aQ tm h κ=body False pN Tryz.prog (RN n) aQ tm h κ:=id rfl
theorem acs:RN (n+1) aC tm h κ=body False pN Tryz.prog (RN n) aC tm h κ:=id rfl
theorem oN (rec:Rec Prop):oH rec b κ .normal tm h=rec b tm h κ:=id rfl
theorem OG (rec:Rec Prop) (i:Nat):oH rec b κ (.exit i) tm h=κ (.exit i) tm h:=id rfl
theorem OH (rec:Rec Prop):oH rec b κ .ret tm h=κ .ret tm h:=id rfl
theorem zW (i:Nat):iu i κ .normal tm h=κ .normal tm h:=id rfl
theorem acu (i:Nat):iu i κ .ret tm h=κ .ret tm h:=id rfl
theorem Gg:iu 0 κ (.exit 0) tm h=κ .normal tm h:=id rfl
theorem X9 (rec:Rec Prop):qw False rec a b tm h κ (.bool true)=rec a tm h κ:=id rfl
theorem Es (rec:Rec Prop):qw False rec a b tm h κ (.bool false)=rec b tm h κ:=id rfl
end
noncomputable abbrev Lf:Code:=.seq kB (.seq (.cond (.tmp 7) .skip (.exit 0)) (.block 1 (.seq kC (.seq kD (.cond (.tmp 13) .ret .skip)))))
noncomputable abbrev iV (st:LoopState) (gJ:T Value):bt:=.loop st none gJ [7] aP (.block 1 aQ)
def mB (p:Int × Int):List Value:=[.int .i64 p.1,.int .i64 p.2]
theorem rz (p:Int × Int):(mB p).length=2:=rfl
theorem Lg (p:Int × Int):(mB p).all d_=true:=rfl
def di (e:HE):Int × Int:=(e.t,e.r)
abbrev wG (a h:Heap) (v:Value) (L:List (Int × Int)):Prop:=fu mB a 36 h v L
structure T7 (a:Heap) (bm:Nat) (clock:Nat) (M:List HE) (gJ:T Value) (seen:List Nat) (tm:T Value) (h1:Heap) (v:Value) (L:List HE):Prop where
 le:Le a h1
 nx:a.nx+3≤h1.nx
 gs:h1.bl.get a.nx=some (aa [v] 226 false)
 gl:h1.bl.get (a.nx+1)=some (iV .ready gJ)
 gi:h1.bl.get (a.nx+2)=some (.dy (some bm) clock seen clock)
 own:wG a h1 v (L.map di)
 perm:L.Perm (M.filter fun e=>seen.any (Nat.beq e.born))
 t0:bX tm 0=.func (.yield (a.nx+1)) #[] #[]
 t5:bX tm 5=ptrTo (a.nx+2)
theorem T8 (rec:Rec Prop) (l:Nat) (x:Value) (h:Heap) (κ:KQ):sU False pN Tryz.prog rec (.func (.yield l) #[] #[]) [x] h κ=lW False rec l [x] h κ:=id rfl
theorem round_eq {rec:Rec Prop} {l:Nat} {x:Value} {h:Heap} {κ:Value→Heap→Prop} {st:LoopState} {gJ:T Value} (hl:h.bl.get l=some (iV st gJ)):lW False rec l [x] h κ=rec aP (gJ.aS 7 x) h (dJ False rec l (.block 1 aQ) κ):=by
 unfold lW
 simp only[hl,List.length_cons,List.length_nil]
 show oR [7] [x] gJ _=_
 unfold oR
 rw[T.b6]
 unfold oR
 rfl
theorem Lh {rec:Rec Prop} {l:Nat} {bd:Code} {tm:T Value} {h:Heap} {κ:Value→Heap→Prop} {gJ:T Value} (hl:h.bl.get l=some (iV .ready gJ)) (hlo:h.lo≤l):dJ False rec l bd κ .normal tm h=rec bd tm ⟨h.nx,h.bl.aS l (iV .busy gJ),h.lo⟩ (gx False l κ):=by
 unfold dJ
 simp only[hl,bD _ _ _ _ hlo]
theorem T9 {l:Nat} {tm:T Value} {h:Heap} {κ:Value→Heap→Prop} {st:LoopState} {gJ:T Value} (hl:h.bl.get l=some (iV st gJ)) (hlo:h.lo≤l):gx False l κ .normal tm h=κ (.bool true) ⟨h.nx,h.bl.aS l (iV .ready gJ),h.lo⟩:=by
 unfold gx
 simp only[hl,bD _ _ _ _ hlo]
theorem HG {M:List HE} {clock:Nat} (o:eW M clock) {e:HE} (he:e∈M) {seen:List Nat} (hn:seen.any (Nat.beq e.born)=false):(M.filter fun x=>(e.born::seen).any (Nat.beq x.born)).Perm (M.filter (fun x=>seen.any (Nat.beq x.born))++[e]):=by
 have hnd:M.Nodup:=o.bn.imp fun h e=>h (by rw[e])
 refine (List.perm_ext_iff_of_nodup (hnd.filter _) ?_).2 fun x=>?_
 ·rw[List.nodup_append]
  refine ⟨hnd.filter _,by simp,fun x hx y hy=>?_⟩
  rw[List.mem_singleton] at hy; subst hy
  rintro rfl
  rw[List.mem_filter,hn] at hx
  exact absurd hx.2 (by simp)
 ·rw[List.mem_filter,List.mem_append,List.mem_filter,List.mem_singleton,List.any_cons,Bool.or_eq_true]
  constructor
  ·rintro ⟨h1,h2 | h2⟩
   ·exact .inr (o.yA h1 he (Nat.eq_of_beq_eq_true h2))
   ·exact .inl ⟨h1,h2⟩
  ·rintro (⟨h1,h2⟩ | rfl)
   ·exact ⟨h1,.inr h2⟩
   ·exact ⟨he,.inl (Nat.beq_refl _)⟩
theorem HH (a:Heap) (bm clock:Nat) (M:List HE) (gJ:T Value) (o:eW M clock) (g:a.bl.get bm=some (.map (M.map jS) clock)) (Aq:bm<a.nx) (hlo:a.lo≤a.nx) (hM:M.length≤1000) (hA:bX gJ 2=ptrTo a.nx) (κ:Ex→T Value→Heap→Prop)
  (hk:∀(tm:T Value) (h1:Heap) (v:Value) (L:List HE),L.Perm M→wG a h1 v (L.map di)→Le a h1→a.nx+3≤h1.nx→h1.bl.get a.nx=some (aa [v] 226 false)→h1.bl.get (a.nx+1)=some (iV .ready gJ)→κ (.exit 0) tm h1) :
  ∀(k:Nat) (seen:List Nat) (tm:T Value) (h1:Heap) (v:Value) (L:List HE),zU M seen≤k→T7 a bm clock M gJ seen tm h1 v L→RN (k+12) (.loop Lf) tm h1 κ:=by
 have step:∀(k:Nat) (seen:List Nat) (tm:T Value) (h1:Heap) (v:Value) (L:List HE),T7 a bm clock M gJ seen tm h1 v L→
   (∀e∈M,seen.any (Nat.beq e.born)=false→∀(tm:T Value) (h1:Heap) (v:Value) (L:List HE),T7 a bm clock M gJ (e.born::seen) tm h1 v L→RN (k+11) (.loop Lf) tm h1 κ)→RN (k+12) (.loop Lf) tm h1 κ:=by
  intro k seen tm h1 v L I hnext
  have n1:=I.nx
  have l1:=I.le.lo
  have gm:=(I.le.get bm Aq).trans g
  rw[show k+12=k+11+1 from by omega,T6]
  simp(disch:=first|omega|simp only[Wd]<;>omega|with_unfolding_all rfl)only[Wz,CM,ack,rkB,dG,T.b6,bB,ct,oN,OG,OH,zW,acu,Gg,I.t5]
  refine KW o I.gi gm (by omega) _ ?_ ?_
  ·intro hall
   simp(disch:=first|omega|simp only[Wd]<;>omega|with_unfolding_all rfl)only[Wz,Lb,bB,Es,Lc,OG]
   have hf:M.filter (fun e=>seen.any (Nat.beq e.born))=M:=List.filter_eq_self.2 hall
   exact hk _ h1 v L (hf▸I.perm) I.own I.le n1 I.gs I.gl
  ·intro e he MD
   obtain ⟨h2,e2⟩:∃h2:Heap,h2=⟨h1.nx,h1.bl.aS (a.nx+2) (.dy (some bm) clock (e.born::seen) clock),h1.lo⟩:=⟨_,rfl⟩
   have bF:Le a h2:=by rw[e2]; exact I.le.set (by omega) _
   have n2:h2.nx=h1.nx:=by rw[e2]
   have l2:h2.lo=h1.lo:=by rw[e2]
   have gi2:h2.bl.get (a.nx+2)=some (.dy (some bm) clock (e.born::seen) clock):=by rw[e2]; exact T.af _ _ _
   have gs2:h2.bl.get a.nx=some (aa [v] 226 false):=by rw[e2]; exact (T.ah _ _ (by omega)).trans I.gs
   have gl2:h2.bl.get (a.nx+1)=some (iV .ready gJ):=by rw[e2]; exact (T.ah _ _ (by omega)).trans I.gl
   have w_:wG a h2 v (L.map di):=by rw[e2]; exact fu.put I.own (by rw[I.gi]; intro hc; unfold aa at hc; cases hc) _
   rw[←e2]
   clear e2
   have X0:=(bF.get bm Aq).trans g
   simp(disch:=first|omega|simp only[Wd]<;>omega|with_unfolding_all rfl)only[Wz,Lb,Ld,CM,uz,bB,ct,X9,Lc,oN,acm,rkC,dG,T.b6,I.t5,Ge o he gi2 X0,ew,acn,rkD,I.t0]
   have n3:a.nx+3≤h2.nx:=by omega
   obtain ⟨h3,e3⟩:∃h3:Heap,h3=⟨h2.nx+1,h2.bl.aS h2.nx (aa [.int .i64 e.t,.int .i64 e.r] 36 false),h2.lo⟩:=⟨_,rfl⟩
   have Li:Le h2 h3:=by rw[e3]; exact (Le.refl h2).new _
   have nx3:h3.nx=h2.nx+1:=by rw[e3]
   have l3:h3.lo=h2.lo:=by rw[e3]
   have X_:=(Li.get _ (by omega)).trans gl2
   rw[←e3,T8,round_eq X_]
   clear e3
   simp(disch:=first|omega|simp only[Wd]<;>omega|with_unfolding_all rfl)only[Wz,acq,acf,T.b6,dG,bB,ct]
   obtain ⟨h4,e4⟩:∃h4:Heap,h4=⟨h3.nx+1,h3.bl.aS h3.nx (aa [.int .i64 e.t,.int .i64 e.r] 36 false),h3.lo⟩:=⟨_,rfl⟩
   have Lj:Le h3 h4:=by rw[e4]; exact (Le.refl h3).new _
   have nx4:h4.nx=h3.nx+1:=by rw[e4]
   have l4:h4.lo=h3.lo:=by rw[e4]
   have gn4:h4.bl.get h3.nx=some (aa [.int .i64 e.t,.int .i64 e.r] 36 false):=by rw[e4]; exact T.af _ _ _
   have gl4:=(Lj.get _ (by omega)).trans X_
   have gs4:=((Li.trans Lj).get _ (by omega)).trans gs2
   have gi4:=((Li.trans Lj).get _ (by omega)).trans gi2
   have TN:wG a h4 v (L.map di):=w_.le (Li.trans Lj)
   rw[←e4,Lh gl4 (by omega)]
   clear e4
   have Ya:(h4.bl.aS (a.nx+1) (iV .busy gJ)).get a.nx=_:=(T.ah _ _ (by omega)).trans gs4
   have gn5:(h4.bl.aS (a.nx+1) (iV .busy gJ)).get h3.nx=_:=(T.ah _ _ (by omega)).trans gn4
   simp(disch:=first|omega|simp only[Wd]<;>omega|with_unfolding_all rfl)only[Wz,uz,acr,acg,T.b6,dG,bB,ct,hA,Ya,gn5]
   obtain ⟨h5,e5⟩:∃h5:Heap,h5=⟨h4.nx+1,(h4.bl.aS (a.nx+1) (iV .busy gJ)).aS h4.nx (aa [.int .i64 e.t,.int .i64 e.r] 36 false),h4.lo⟩:=⟨_,rfl⟩
   have acw:Le a h5:=by rw[e5]; exact (((bF.trans Li).trans Lj).set (b:=a.nx+1) (by omega) _).new _
   have nx5:h5.nx=h4.nx+1:=by rw[e5]
   have l5:h5.lo=h4.lo:=by rw[e5]
   have Ya:h5.bl.get a.nx=some (aa [v] 226 false):=by rw[e5]; exact (T.ah _ _ (by omega)).trans Ya
   have Zy:h5.bl.get (a.nx+1)=some (iV .busy gJ):=by rw[e5]; exact (T.ah _ _ (by omega)).trans (T.af _ _ _)
   have gi5:h5.bl.get (a.nx+2)=some (.dy (some bm) clock (e.born::seen) clock):=by rw[e5]; exact (T.ah _ _ (by omega)).trans ((T.ah _ _ (by omega)).trans gi4)
   have gx5:h5.bl.get h4.nx=some (aa ([di e].flatMap mB) 36 false):=by rw[e5]; exact T.af _ _ _
   have DC:wG a h5 v (L.map di):=by
    rw[e5]
    exact fu.le (fu.put TN (by rw[gl4]; intro hc; unfold aa at hc; cases hc) _) ((Le.refl _).new _)
   have hLl:L.length≤1000:=by
    rw[I.perm.length_eq]
    exact Nat.le_trans (List.length_filter_le _ _) hM
   rw[←e5]
   clear e5
   refine iD (enc:=mB) (a:=a) (L:=L.map di) (M:=[di e]) rz Lg (by decide) (by decide) DC (Sl.new (by omega) gx5 _) acw (by simp; omega) (by omega) _ ?_
   intro v' h6 IA sG _ n6 l6 Ll
   have gs6:=(Ll a.nx (by omega) (by rw[Ya]; exact aV)).trans Ya
   have gl6:=(Ll (a.nx+1) (by omega) (by rw[Zy]; intro hc; unfold aa at hc; cases hc)).trans Zy
   have gi6:=(Ll (a.nx+2) (by omega) (by rw[gi5]; intro hc; unfold aa at hc; cases hc)).trans gi5
   obtain ⟨x',c',rfl,_⟩:=(show Sl mB h6 v' _ from IA.sl)
   simp(disch:=first|omega|simp only[Wd]<;>omega|with_unfolding_all rfl)only[Wz,gs6]
   obtain ⟨h7,e7⟩:∃h7:Heap,h7=⟨h6.nx,h6.bl.aS a.nx (aa [.slice x' (L.map di++[di e]).length c'] 226 false),h6.lo⟩:=⟨_,rfl⟩
   have Yb:h7.bl.get (a.nx+1)=some (iV .busy gJ):=by rw[e7]; exact (T.ah _ _ (by omega)).trans gl6
   have nx7:h7.nx=h6.nx:=by rw[e7]
   have l7:h7.lo=h6.lo:=by rw[e7]
   have gs7:h7.bl.get a.nx=some (aa [.slice x' (L.map di++[di e]).length c'] 226 false):=by rw[e7]; exact T.af _ _ _
   have gi7:h7.bl.get (a.nx+2)=some (.dy (some bm) clock (e.born::seen) clock):=by rw[e7]; exact (T.ah _ _ (by omega)).trans gi6
   have T_:Le a h7:=by rw[e7]; exact sG.set (by omega) _
   have OE:wG a h7 (.slice x' (L.map di++[di e]).length c') (L.map di++[di e]):=by rw[e7]; exact fu.put IA (by rw[gs6]; exact aV) _
   rw[←e7,zW,T9 Yb (by omega)]
   clear e7
   simp(disch:=first|omega|simp only[Wd]<;>omega|with_unfolding_all rfl)only[Wz,Es,Ld,zW,oN]
   have fr:∀c,c≠a.nx+1→(h7.bl.aS (a.nx+1) (iV .ready gJ)).get c=h7.bl.get c:=fun c hc=>T.ah _ _ (fun e=>hc e.symm)
   refine hnext e he MD _ _ (.slice x' (L.map di++[di e]).length c') (L++[e]) ⟨T_.set (by omega) _,by show a.nx+3≤h7.nx; omega,(fr _ (by omega)).trans gs7,T.af _ _ _,(fr _ (by omega)).trans gi7,?_,(I.perm.append_right _).trans (HG o he MD).symm,?_,?_⟩
   ·rw[List.map_append]
    exact fu.put OE (by rw[Yb]; intro hc; unfold aa at hc; cases hc) _
   ·simp (disch:=decide) only [ct]; exact I.t0
   ·simp (disch:=decide) only [ct]; exact I.t5
 intro k
 induction k with
 | zero=>
  intro seen tm h1 v L hu I
  refine step 0 seen tm h1 v L I fun e he MD=>?_
  have:=sF he MD
  omega
 | succ k ih=>
  intro seen tm h1 v L hu I
  refine step (k+1) seen tm h1 v L I fun e he MD bU h1' v' L' I'=>ih (e.born::seen) bU h1' v' L' ?_ I'
  have:=sF he MD
  omega
theorem Yc (rec:Rec Prop) (ps:List Nat) (x y:Code) (tm:T Value) (h:Heap) (κ:Ex→T Value→Heap→Prop) (c:Value) :
  c9 False pN Tryz.prog rec ps x y tm h κ (.func (.func fK) #[] #[c])=ia False pN Tryz.prog rec fK [.func (.yield h.nx) #[] #[],c] ⟨h.nx+1,h.bl.aS h.nx (.loop .ready none tm ps x y),h.lo⟩ (dQ False h.nx tm κ):=c6 (fl:=False) (.loop .ready none tm ps x y) h (fun l h=>ia False pN Tryz.prog rec fK [.func (.yield l) #[] #[],c] h (dQ False l tm κ))
theorem Eo (tm:T Value) (h:Heap) (κ:KQ):rU False [] κ .normal tm h=κ (.tuple ⟨[]⟩) h:=id rfl
theorem acA (tm:T Value) (h:Heap) (κ:KQ):rU False [.tmp 4] κ .ret tm h=κ (bX tm 4) h:=eE tm (.tmp 4) fun v=>κ v h
theorem Lm {l:Nat} {tm gJ:T Value} {v:Value} {h:Heap} {κ:Ex→T Value→Heap→Prop} (hl:h.bl.get l=some (iV .ready gJ)) (hlo:h.lo≤l):∃o,dQ False l tm κ v h=κ .normal tm ⟨h.nx,h.bl.aS l o,h.lo⟩:=by
 refine ⟨.loop .exhausted none gJ [7] aP (.block 1 aQ),?_⟩
 unfold dQ
 simp only[hl,bD _ _ _ _ hlo]
theorem Ln (s g:Value):lay [s,g] .nil 0=((T.nil:T Value).aS 0 s).aS 1 g:=by kernel_rfl
theorem CN (M:List HE) (clock bm mc:Nat) (a:Heap) (o:eW M clock) (g:a.bl.get bm=some (.map (M.map jS) clock)) (Aq:bm<a.nx) (gc:a.bl.get mc=some (aa [.map (some bm)] 218 false)) (hmc:mc<a.nx) (hlo:a.lo≤a.nx) (hM:M.length≤1000) (κ:KQ)
  (hk:∀v h' (L:List HE),L.Perm M→wG a h' v (L.map di)→Le a h'→κ v h') :
  CallW Tryz.prog fA [.slice none 0 0,.func (.func fK) #[] #[.pointer (some ⟨mc,0,none⟩)]] a κ:=by
 refine yE mixed (skip:=QE) (M.length+60) ?_
 rw[X6,X5,Ln]
 simp(disch:=first|omega|simp only[Wd]<;>omega|with_unfolding_all rfl)only[Wz,CM,aco,acd,T.b6,dG,bB,ct,oN,acp,ace,uz,aci,Yc]
 generalize htm:(((((T.nil:T Value).aS 0 (Value.slice none 0 0)).aS 1 (Value.func (Fn.func fK) #[] #[Value.pointer (some ⟨mc,0,none⟩)])).aS 2 (Value.pointer (some ⟨a.nx,0,none⟩))).aS 4 (Value.slice none 0 0)).aS 6 (Value.func (Fn.func fK) #[] #[Value.pointer (some ⟨mc,0,none⟩)])=gJ
 have hA:bX gJ 2=ptrTo a.nx:=by rw[←htm]; simp (disch:=decide) only [ct,bB]; rfl
 obtain ⟨OI,wH⟩:∃OI:Heap,OI=⟨a.nx+1+1,((a.bl.aS (a.nx) (aa [.slice none 0 0] 226 false)).aS (a.nx+1) (iV .ready gJ)),a.lo⟩:=⟨_,rfl⟩
 have Et:Le a OI:=by subst wH; exact (((Le.refl a).new _).new _)
 have gs:OI.bl.get (a.nx)=some (aa [.slice none 0 0] 226 false):=by subst wH; exact (T.ah _ _ (by omega)).trans (T.af _ _ _)
 have gl:OI.bl.get (a.nx+1)=some (iV .ready gJ):=by subst wH; exact T.af _ _ _
 have aeI:OI.nx=a.nx+1+1:=by subst wH; rfl
 have aeJ:OI.lo=a.lo:=by subst wH; rfl
 rw[←wH]
 clear wH
 have jt:=(Et.get _ hmc).trans gc
 have X0:=(Et.get _ Aq).trans g
 rw[X7,X4,Ln]
 simp(disch:=first|omega|simp only[Wd]<;>omega|with_unfolding_all rfl)only[Wz,CM,acj,rkA,T.b6,dG,bB,ct,oN,jt,CG X0,uz]
 refine HH a bm clock M gJ o g Aq hlo hM hA _ ?_ (M.length+41) [] _ _ (.slice none 0 0) [] ?_ ?_
 ·intro tm h1 v L hp ho bK n1 g1 gl1
  have l1:=bK.lo
  obtain ⟨ob,ea⟩:=Lm (tm:=gJ) (v:=.tuple ⟨[]⟩) (κ:=iu 0 (oH (RN (M.length+58)) (aC.seq Code.ret) (rU False [xo.tmp 4] κ))) gl1 (by omega)
  rw[Gg,Eo,ea]
  have gs1:(h1.bl.aS (a.nx+1) ob).get a.nx=some (aa [v] 226 false):=(T.ah _ _ (by omega)).trans g1
  simp(disch:=first|omega|simp only[Wd]<;>omega|with_unfolding_all rfl)only[Wz,zW,oN,CM,acs,ach,T.b6,dG,bB,ct,hA,gs1,X8,OH,acA]
  exact hk v _ L hp (fu.put ho (by rw[gl1]; intro hc; unfold aa at hc; cases hc) _) (bK.set (by omega) _)
 ·exact Nat.le_trans (List.countP_le_length) (by omega)
 ·have e2:OI.nx=a.nx+2:=by omega
  refine ⟨Et.new _,by show a.nx+3≤OI.nx+1; omega,(T.ah _ _ (by omega)).trans gs,(T.ah _ _ (by omega)).trans gl,by rw[←e2]; exact T.af _ _ _,.inl ⟨rfl,.inl rfl⟩,?_,?_,?_⟩
  ·rw[List.filter_eq_nil_iff.2 (fun x _=>by simp)]
  ·simp (disch:=decide) only [ct,bB]
  ·rw[bB,e2]; rfl
end Go.Proofs

namespace Go.Vai
open Go
section
variable {α:Type} {s:Nat} {enc:α→List Value}
variable (lt:α→α→Prop)
variable {lt}
end
end Go.Vai

namespace Go.Proofs
open Go.Vai Go.Clashes
def oO (a b:Int):Int:=if a<b then -1 else if b<a then 1 else 0
def nW (t r t' r':Int):Int:=if oO t t'=0 then oO r r' else oO t t'
theorem Gh (a:Int) {h:Heap} {κ:Value→Heap→Prop} (hk:κ (.bool false) h):CallW Tryz.prog 133 [.int .i64 a] h κ:=by
 refine gU (v:=.bool false) rfl rfl (aj mixed ?_) hk
 rw[Ss]; simp(disch:=first|omega|simp only[Wd]<;>omega|with_unfolding_all rfl)only[Wz]
theorem qf (a b:Int) {h:Heap} {κ:Value→Heap→Prop} (hk:κ (.int .i64 (oO a b)) h):CallW Tryz.prog 91 [.int .i64 a,.int .i64 b] h κ:=by
 refine gU (v:=.int .i64 (oO a b)) rfl rfl (aj mixed ?_) hk
 rw[W2]
 refine Gh _ (Gh _ ?_)
 rcases Int.lt_trichotomy a b with h1 | h1 | h1
 ·simp(disch:=first|omega|simp only[Wd]<;>omega|with_unfolding_all rfl)only[Wz,ur]; simp[oO,h1]
 ·simp(disch:=first|omega|simp only[Wd]<;>omega|with_unfolding_all rfl)only[Wz,ur]; simp[oO,h1]
 ·simp(disch:=first|omega|simp only[Wd]<;>omega|with_unfolding_all rfl)only[Wz,ur]; simp[oO,h1]; omega
theorem Yd (a b:Int) (h:Heap) (v:Value) (hv:Sl (fun n=>[Value.int .i64 n]) h v [a,b]) (κ:KQ) (hk:κ (.int .i64 (if a=0 then b else a)) h):CallW Tryz.prog 90 [v] h κ:=by
 refine aj mixed ?_
 rw[W1]
 simp only[hv.len]
 have he:∀n:Int,((fun n=>[Value.int .i64 n]) n).length=1:=fun _=>rfl
 have f0:=hv.ld he 0 (p:=a) rfl
 have f1:=hv.ld he 1 (p:=b) rfl
 obtain ⟨b0,o0,hb0,Ye,_,hh0⟩:=f0
 obtain ⟨b1,o1,hb1,OJ,_,VJ⟩:=f1
 have hx0:=fun (β:Type) (fl:β) κ=>ga (fl:=fl) hh0 0 κ (Nat.lt_succ_self _)
 have hx1:=fun (β:Type) (fl:β) κ=>ga (fl:=fl) VJ 0 κ (Nat.lt_succ_self _)
 simp only[Nat.add_zero] at hx0 hx1
 refine ⟨fun n l h1=>h1=h∧∃k:Nat,slot l 10=.int .i64 (k:Int)∧k≤2∧n=2-k∧(0<k→a=0)∧(1<k→b=0),⟨2,rfl,0,rfl,by omega,by omega,by omega,by omega⟩,?_⟩
 rintro n l h1 ⟨rfl,k,hs,hk2,rfl,ha,hb⟩
 have:k=0∨k=1∨k=2:=by omega
 rcases this with rfl | rfl | rfl
 ·by_cases h1:a=0
  ·simp(disch:=first|omega|simp only[Wd]<;>omega|with_unfolding_all rfl)only[Wz,hv.len,hs,qV,Ye,hx0,h1,List.length_cons,List.length_nil]
   exact ⟨1,by omega,trivial,1,rfl,by omega,by omega,fun _=>trivial,fun h=>by omega⟩
  ·simp(disch:=first|omega|simp only[Wd]<;>omega|with_unfolding_all rfl)only[Wz,hv.len,hs,qV,Ye,hx0,a_ h1,List.length_cons,List.length_nil]
   simpa[h1] using hk
 ·have ha:=ha (by omega)
  by_cases h1:b=0
  ·simp(disch:=first|omega|simp only[Wd]<;>omega|with_unfolding_all rfl)only[Wz,hv.len,hs,qV,OJ,hx1,h1,List.length_cons,List.length_nil]
   exact ⟨0,by omega,trivial,2,rfl,by omega,by omega,fun _=>ha,fun h=>trivial⟩
  ·simp(disch:=first|omega|simp only[Wd]<;>omega|with_unfolding_all rfl)only[Wz,hv.len,hs,qV,OJ,hx1,a_ h1,List.length_cons,List.length_nil]
   simpa[ha] using hk
 ·simp(disch:=first|omega|simp only[Wd]<;>omega|with_unfolding_all rfl)only[Wz,hv.len,hs,List.length_cons,List.length_nil]
  have ha:=ha (by omega)
  have hb:=hb (by omega)
  simpa[ha,hb] using hk
theorem nX (t r t' r':Int) {h:Heap} {κ:Value→Heap→Prop} (hk:κ (.int .i64 (nW t r t' r')) h):CallW Tryz.prog 92 [ew t r,ew t' r'] h κ:=by
 refine gU (v:=.int .i64 (nW t r t' r')) rfl rfl (aj mixed ?_) hk
 rw[W3]
 simp(disch:=first|omega|simp only[Wd]<;>omega|with_unfolding_all rfl)only[Wz,ew]
 refine qf _ _ ?_
 simp(disch:=first|omega|simp only[Wd]<;>omega|with_unfolding_all rfl)only[Wz]
 refine qf _ _ ?_
 simp(disch:=first|omega|simp only[Wd]<;>omega|with_unfolding_all rfl)only[Wz]
 refine Yd _ _ _ _ (Sl.new (L:=[oO t t',oO r r']) (e:=3) (op:=false) (Nat.lt_succ_self _) (T.af _ _ _) _) _ ?_
 rfl
def tD (p q:Int × Int):Prop:=p.1<q.1∨(p.1=q.1∧p.2<q.2)
theorem HI {a b c:Int × Int} (h1:tD a b) (h2:tD b c):tD a c:=by unfold tD at *; omega
theorem CO (p q:Int × Int):nW p.1 p.2 q.1 q.2<0↔tD p q:=by
 unfold nW oO tD
 split<;>split<;>(try split)<;>(try split)<;>omega
theorem Gi {p q:Int × Int} (h:p≠q) (hn:¬tD p q):tD q p:=by
 unfold tD at *
 have:¬(p.1=q.1∧p.2=q.2):=fun ⟨a,b⟩=>h (Prod.ext a b)
 omega
theorem acB:∀i,i<7→∀j,j<7→bA Tryz.prog 200 29 [.int .i64 (.ofNat i),.int .i64 (.ofNat j)] (.bool (cmp (.ofNat i) (.ofNat j)))=true:=by decide +kernel
theorem acC (n:Nat) (b:Int):bA Tryz.prog 200 29 [.int .i64 (.negSucc n),.int .i64 b] (.bool false)=true:=by kernel_rfl
theorem acD (n:Nat) (b:Int):bA Tryz.prog 200 29 [.int .i64 (.ofNat (n+7)),.int .i64 b] (.bool false)=true:=by kernel_rfl
theorem acE:∀i,i<7→∀n:Nat,bA Tryz.prog 200 29 [.int .i64 (.ofNat i),.int .i64 (.negSucc n)] (.bool false)=true:=by
 refine seven ?_ ?_ ?_ ?_ ?_ ?_ ?_<;>intro n<;>kernel_rfl
theorem acF:∀i,i<7→∀n:Nat,bA Tryz.prog 200 29 [.int .i64 (.ofNat i),.int .i64 (.ofNat (n+7))] (.bool false)=true:=by
 refine seven ?_ ?_ ?_ ?_ ?_ ?_ ?_<;>intro n<;>kernel_rfl
theorem HJ (a b:Int) {h:Heap} {κ:Value→Heap→Prop} (hk:κ (.bool (cmp a b)) h):CallW Tryz.prog 29 [.int .i64 a,.int .i64 b] h κ:=
 oA mixed (F:=fun a b=>.bool (cmp a b)) acB (fun n b=>by rw[Bs (nH n)]; exact acC n b) (fun n b=>by rw[Bs (nI n)]; exact acD n b) (fun i hi n=>by rw[FH (nH n)]; exact acE i hi n) (fun i hi n=>by rw[FH (nI n)]; exact acF i hi n) a b hk
end Go.Proofs

namespace Go.Vai
open Go
section
variable {α:Type} {s:Nat} {enc:α→List Value}
end
end Go.Vai
namespace Go.Vai
open Go
section
variable {β:Type} {fl:β} {α:Type} {s:Nat} {enc:α→List Value}
theorem fu.same {a h:Heap} {e:TypeId} {v:Value} {L:List α} (ho:fu enc a e h v L):iI 8 v v=true:=by
 rcases ho with ⟨rfl,rfl | ⟨b,o,rfl⟩⟩ | ⟨b,rfl,h1,h2,h3,h4⟩
 ·rw[zu]
 ·rw[uh]
 ·rw[uh]
def acG (L:List α) (v:Value):Prop:=L=[]→(v=.slice none 0 0∨∃b o,v=.slice (some ⟨b,o,none⟩) 0 0)
end
end Go.Vai

namespace Go.Proofs
open Go.Vai Go.Clashes
end Go.Proofs
