/-
  PROVED HERE: a part of the proof (N1, N2, N3, N4).
-/
import Derived.Test.YtijmemedhkgplaaGreatDoorLD
import Derived.Test.YtijmemedhkgplaaGreatDoorUB
set_option linter.unusedVariables false
set_option linter.unusedSimpArgs false
set_option maxRecDepth 100000
set_option maxHeartbeats 1000000
namespace Go.Proofs
open Go.Vai Go.Clashes
structure RB where
 rb:Nat
 v:Value
 K:List HE
def pV (b:RB):List Value:=[.pointer (some ⟨b.rb,0,none⟩)]
theorem Aw (b:RB):(pV b).length=1:=rfl
theorem Lh (b:RB):(pV b).all ef=true:=rfl
def u0 (x y:RB):Prop:=x.rb≠y.rb∧∀c,qR x.v c→¬qR y.v c
theorem u0.symm {x y:RB} (h:u0 x y):u0 y x:=⟨fun e=>h.1 e.symm,fun c h1 h2=>h.2 c h2 h1⟩
structure iZ (a h:Heap) (rt rp rl:Nat) (c:fI) (vr:Value) (aG:Nat) (R:List RB) (B:List Bool):Prop where
 lt:rt<h.nx
 cell:h.bl.get rt=some (af [.int .i64 c.S,.int .i64 c.H,.int .i64 c.R,.int .i64 c.P,vr,.pointer (some ⟨rp,0,none⟩)] 117 false)
 sl:Sl pV h vr R
 ty:uK 118 h vr
 bk:∀b∈R,iz a h b.rb rp aG b.v b.K
 uo:R.Pairwise u0
 bM:bT h rp rl B
 cS:c.S=R.length
 s1:1≤R.length∧R.length≤16
end Go.Proofs
namespace Go.Vai
open Go.Proofs Go.Clashes
theorem cU.ab_ {α:Type} {enc:α→List Value} {a h h':Heap} {e:TypeId} {v:Value} {L:List α} (ho:cU enc a e h v L) (hn:h.nx≤h'.nx) (hl:h'.lo=h.lo) (hg:∀b,b<h.nx→qR v b→h.bl.get b=some (af (L.flatMap enc) e true)→h'.bl.get b=h.bl.get b):cU enc a e h' v L:=by
 rcases ho with h1 | ⟨b,rfl,h1,h2,h3,h4⟩
 ·exact .inl h1
 ·exact .inr ⟨b,rfl,h1,Nat.lt_of_lt_of_le h2 hn,by rw[hl]; exact h3,(hg b h2 ⟨_,rfl⟩ h4).trans h4⟩
end Go.Vai
namespace Go.Proofs
open Go.Vai Go.Clashes
theorem iz.aside {a h h':Heap} {rb rp rl most Am rb2 rp2:Nat} {v v2:Value} {K K2:List HE} {B:List Bool} (R:iz a h rb rp most v K) (R2:iz a h rb2 rp2 Am v2 K2) (p:bT h rp rl B) (f:gH (SK rb2 rl v2) h h') (hne:rb≠rb2) (hb:∀c,qR v c→¬qR v2 c):iz a h' rb rp most v K:=by
 have c1:=R.cell
 have c2:=R2.cell
 have cl:=p.iq
 refine ⟨Nat.lt_of_lt_of_le R.lt f.nx,by rw[f.lo]; exact R.lo,(f.get _ R.lt ?_).trans c1,R.own.ab_ f.nx f.lo fun b Fb hbv hg=>f.get b Fb ?_,R.emp,fun k hk=>(R.qv k hk).keep f.nx f.lo fun b vs Fb hg=>f.get b Fb ?_⟩
 ·rintro (e | rfl | e)
  ·exact hne e
  ·exact aL (by decide) (c1.symm.trans cl)
  ·exact aL (by decide) (c1.symm.trans (R2.own.blk e).2.2)
 ·rintro (rfl | rfl | e)
  ·exact aL (by decide) (hg.symm.trans c2)
  ·exact aL (by decide) (hg.symm.trans cl)
  ·exact hb b hbv e
 ·rintro (rfl | rfl | e)
  ·exact aL (by decide) (hg.symm.trans c2)
  ·exact aL (by decide) (hg.symm.trans cl)
  ·exact aL (by decide) (hg.symm.trans (R2.own.blk e).2.2)
theorem Li {R:List RB} {k:Nat} {b:RB} (hk:R[k]? = some b) (v':Value) (K':List HE):(R.set k ⟨b.rb,v',K'⟩).flatMap pV=R.flatMap pV:=by
 obtain ⟨hl,rfl⟩:=List.getElem?_eq_some_iff.1 hk
 rw[List.flatMap_def,List.flatMap_def,List.map_set]
 congr 1
 refine List.ext_getElem? fun i=>?_
 rw[List.getElem?_set]
 split
 ·rename_i e; subst e
  rw[if_pos (by simpa using hl),List.getElem?_map,List.getElem?_eq_getElem hl]; rfl
 ·rfl
section
variable {a h h':Heap} {rt rp rl:Nat} {c:fI} {vr:Value} {aG:Nat} {R:List RB} {B B':List Bool}
theorem iZ.keep (t:iZ a h rt rp rl c vr aG R B) (hn:h.nx≤h'.nx) (hl:h'.lo=h.lo)
  (hg:∀d vs ty op,d<h.nx→h.bl.get d=some (af vs ty op)→(ty=117∨ty=118∨ty=165∨ty=51∨ty=54∨ty=163∨d=rl)→h'.bl.get d=h.bl.get d):iZ a h' rt rp rl c vr aG R B:=by
 have k1:=Sl.yJ t.sl t.ty hn fun d vs op hd g=>hg d vs _ op hd g (.inr (.inl rfl))
 refine ⟨Nat.lt_of_lt_of_le t.lt hn,(hg _ _ _ _ t.lt t.cell (.inl rfl)).trans t.cell,k1.1,k1.2,fun b hb=>(t.bk b hb).keep hn hl fun d vs ty op hd g ht=>hg d vs ty op hd g ?_,t.uo,t.bM.keep hn hl (hg _ _ _ _ t.bM.X2 t.bM.oh (.inr (.inr (.inr (.inr (.inr (.inl rfl))))))) (hg _ _ _ _ t.bM.PJ t.bM.iq (.inr (.inr (.inr (.inr (.inr (.inr rfl))))))),t.cS,t.s1⟩
 rcases ht with e | ⟨e,_⟩ | e
 ·exact .inr (.inr (.inl e))
 ·exact .inr (.inr (.inr (.inl e)))
 ·exact .inr (.inr (.inr (.inr (.inl e))))
theorem iZ.le (t:iZ a h rt rp rl c vr aG R B) (l:Le h h'):iZ a h' rt rp rl c vr aG R B:=t.keep l.nx l.lo fun d _ _ _ hd _ _=>l.get d hd
theorem iZ.real (t:iZ a h rt rp rl c vr aG R B) {tb bw bp bl hd wc:Nat} {c2:fI} {vb:Value} {Ts:List TB} {W:List IE} {F:List Int} {B2:List Bool} (s:dW h tb bw bp bl c2 vb hd Ts W wc F B2) (f:uq Ts bw bp bl h h') (hne:rl≠bl):iZ a h' rt rp rl c vr aG R B:=by
 refine t.keep f.nx f.lo fun d vs ty op hd g ht=>?_
 by_cases hdl:d=rl
 ·subst hdl
  obtain ⟨fs,v_,hpt⟩:=s.bM.fr.cell
  have gl:=t.bM.iq
  refine f.get d hd (fun b hb=>?_) (by rintro rfl; exact bN (s.om.symm.trans gl)) (by rintro rfl; exact aL (by decide) (gl.symm.trans v_)) hne fun ws=>by rw[gl]; exact aL (by decide)
  rintro rfl
  exact bN ((s.bk b hb).iT.symm.trans gl)
 ·have ht:ty≠132∧ty≠4∧ty≠3:=by
   rcases ht with e | e | e | e | e | e | e
   iterate 6 (subst e; exact ⟨by decide,by decide,by decide⟩)
   exact absurd e hdl
  exact f.keep s hd g ht.1 ht.2.1 ht.2.2
theorem iZ.change (t:iZ a h rt rp rl c vr aG R B) {k:Nat} {r:RB} (hk:R[k]? = some r) {v':Value} {K':List HE} (R':iz a h' r.rb rp aG v' K') (p':bT h' rp rl B') (f:gH (SK r.rb rl r.v) h h') (nb:jB h r.v v') :
  iZ a h' rt rp rl c vr aG (R.set k ⟨r.rb,v',K'⟩) B':=by
 have hr:=t.bk r (List.mem_of_getElem? hk)
 have c1:=hr.cell
 have cl:=t.bM.iq
 have E2:∀d vs ty op,d<h.nx→h.bl.get d=some (af vs ty op)→(ty=117∨ty=118)→h'.bl.get d=h.bl.get d:=by
  intro d vs ty op hd g ht
  refine f.get d hd ?_
  rintro (rfl | rfl | e)
  ·rcases ht with rfl | rfl<;>exact aL (by decide) (g.symm.trans c1)
  ·rcases ht with rfl | rfl<;>exact aL (by decide) (g.symm.trans cl)
  ·rcases ht with rfl | rfl<;>exact aL (by decide) (g.symm.trans (hr.own.blk e).2.2)
 have k1:=Sl.yJ t.sl t.ty f.nx fun d vs op hd g=>E2 d vs _ op hd g (.inr rfl)
 have nbs:∀(j:Nat) (q:RB),R[j]? = some q→u0 q r→u0 q ⟨r.rb,v',K'⟩:=by
  intro j q hj hq
  refine ⟨hq.1,fun d hd hd'=>?_⟩
  have hlt:=((t.bk q (List.mem_of_getElem? hj)).own.blk hd).2.1
  exact hq.2 d hd (nb d hlt hd')
 have aps:∀(j:Nat) (q:RB),j≠k→R[j]? = some q→u0 q r:=by
  intro j q hjk hj
  rcases Nat.lt_trichotomy j k with hl | hl | hl
  ·exact cr.1 t.uo j k q r hl hj hk
  ·exact absurd hl hjk
  ·exact (cr.1 t.uo k j r q hl hk hj).symm
 refine ⟨Nat.lt_of_lt_of_le t.lt f.nx,(E2 _ _ _ _ t.lt t.cell (.inl rfl)).trans t.cell,Sl.congr k1.1 (List.length_set ..) (Li hk _ _),k1.2,?_,?_,p',by rw[List.length_set]; exact t.cS,by rw[List.length_set]; exact t.s1⟩
 ·intro x hx
  obtain ⟨j,hj⟩:=List.getElem?_of_mem hx
  rw[List.getElem?_set] at hj
  split at hj
  ·split at hj
   ·cases hj; exact R'
   ·cases hj
  ·rename_i hne
   have ap:=aps j x (fun e=>hne e.symm) hj
   exact (t.bk x (List.mem_of_getElem? hj)).aside hr t.bM f ap.1 ap.2
 ·exact ry t.uo (fun j q hj hq=>nbs j q hq (aps j q (by omega) hq)) fun j q hj hq=>(nbs j q hq (aps j q (by omega) hq)).symm
end
theorem dW.frK {a h h':Heap} {tb bw bp bl aG wc most rb rp rl:Nat} {c:fI} {vb v:Value} {Ts:List TB} {W:List IE} {F:List Int} {B B2:List Bool} {K:List HE} (s:dW h tb bw bp bl c vb aG Ts W wc F B) (R:iz a h rb rp most v K) (p:bT h rp rl B2) (hne:rl≠bl) (f:gH (SK rb rl v) h h'):dW h' tb bw bp bl c vb aG Ts W wc F B:=by
 have c1:=R.cell
 have cl:=p.iq
 have E2:∀d vs ty op,d<h.nx→h.bl.get d=some (af vs ty op)→(ty=88∨ty=89)→h'.bl.get d=h.bl.get d:=by
  intro d vs ty op hd g ht
  refine f.get d hd ?_
  rintro (rfl | rfl | e)
  ·rcases ht with rfl | rfl<;>exact aL (by decide) (g.symm.trans c1)
  ·rcases ht with rfl | rfl<;>exact aL (by decide) (g.symm.trans cl)
  ·rcases ht with rfl | rfl<;>exact aL (by decide) (g.symm.trans (R.own.blk e).2.2)
 have k1:=Sl.yJ s.sl s.ty f.nx fun d vs op hd g=>E2 d vs _ op hd g (.inr rfl)
 have gw:h'.bl.get bw=h.bl.get bw:=by
  refine f.get _ s.X3 ?_
  rintro (e | e | e)
  ·rw[e] at s; exact bN (s.om.symm.trans c1)
  ·rw[e] at s; exact bN (s.om.symm.trans cl)
  ·exact bN (s.om.symm.trans (R.own.blk e).2.2)
 have bks:∀b∈Ts,bg h' b.bb b.bm bp bl aG b.M b.clock F B:=fun b hb=>(s.bk b hb).frK R p hne f
 have hpos:=s.s1.1
 obtain ⟨b0,hb0⟩:∃b,Ts[0]? = some b:=⟨_,List.getElem?_eq_getElem hpos⟩
 refine ⟨Nat.lt_of_lt_of_le s.Ty f.nx,(E2 _ _ _ _ s.Ty s.lH (.inl rfl)).trans s.lH,k1.1,k1.2,Nat.lt_of_lt_of_le s.X3 f.nx,by rw[f.lo]; exact s.low,gw.trans s.om,bks,s.uo,s.X4,(bks b0 (List.mem_of_getElem? hb0)).bM,s.cS,s.s1,s.hd⟩
structure bS (a h:Heap) (tb bw bp bl:Nat) (c:fI) (vb:Value) (aG N:Nat) (Ts:List TB) (W:List IE) (wc:Nat) (F:List Int) (B:List Bool) (rt rp rl:Nat) (vr:Value) (R:List RB):Prop where
 st:iW h tb bw bp bl c vb aG N Ts W wc F B
 rt:iZ a h rt rp rl c vr aG R B
 like:∀(k:Nat) (b:TB) (r:RB),Ts[k]? = some b→R[k]? = some r→gL b.M r.K
 ne:rl≠bl
 le:Le a h
 hno:∀c vs t,a.bl.get c≠some (af vs t true)
 am:∀b∈Ts,a.nx≤b.bm
 aw:a.nx≤bw
 ap:a.nx≤bp
 al:a.nx≤bl
 ar:∀r∈R,a.nx≤r.rb
 ac:a.nx≤rl
theorem uq.leA {a h h':Heap} {Ts:List TB} {bw bp bl:Nat} (f:uq Ts bw bp bl h h') (l:Le a h) (hno:∀c vs t,a.bl.get c≠some (af vs t true)) (hm:∀b∈Ts,a.nx≤b.bm) (hw:a.nx≤bw) (hp:a.nx≤bp) (hl:a.nx≤bl):Le a h':=
 ⟨Nat.le_trans l.nx f.nx,f.lo.trans l.lo,fun c hc=>(f.get c (Nat.lt_of_lt_of_le hc l.nx) (fun b hb=>by have:=hm b hb; omega) (by omega) (by omega) (by omega) fun vs=>by rw[l.get c hc]; exact hno c vs _).trans (l.get c hc)⟩
section
variable {a h:Heap} {tb bw bp bl:Nat} {c:fI} {vb:Value} {aG N:Nat} {Ts:List TB} {W:List IE} {wc:Nat} {F:List Int} {B:List Bool} {rt rp rl:Nat} {vr:Value} {R:List RB}
theorem bS.len (J:bS a h tb bw bp bl c vb aG N Ts W wc F B rt rp rl vr R):R.length=Ts.length:=by
 have h1:=J.st.is.cS
 have h2:=J.rt.cS
 omega
theorem bS.at (J:bS a h tb bw bp bl c vb aG N Ts W wc F B rt rp rl vr R) {k:Nat} {b:TB} (hk:Ts[k]? = some b):∃r,R[k]? = some r∧gL b.M r.K:=by
 have:=(List.getElem?_eq_some_iff.1 hk).1
 have hl:=J.len
 obtain ⟨r,hr⟩:∃r,R[k]? = some r:=⟨_,List.getElem?_eq_getElem (by omega)⟩
 exact ⟨r,hr,J.like k b r hk hr⟩
theorem bS.atR (J:bS a h tb bw bp bl c vb aG N Ts W wc F B rt rp rl vr R) {k:Nat} {r:RB} (hk:R[k]? = some r):∃b,Ts[k]? = some b∧gL b.M r.K:=by
 have:=(List.getElem?_eq_some_iff.1 hk).1
 have hl:=J.len
 obtain ⟨b,hb⟩:∃b,Ts[k]? = some b:=⟨_,List.getElem?_eq_getElem (by omega)⟩
 exact ⟨b,hb,J.like k b r hb hk⟩
theorem bS.Cm (J:bS a h tb bw bp bl c vb aG N Ts W wc F B rt rp rl vr R) {h':Heap} (l:Le h h'):bS a h' tb bw bp bl c vb aG N Ts W wc F B rt rp rl vr R:=
 ⟨J.st.le l,J.rt.le l,J.like,J.ne,J.le.trans l,J.hno,J.am,J.aw,J.ap,J.al,J.ar,J.ac⟩
theorem bS.up (J:bS a h tb bw bp bl c vb aG N Ts W wc F B rt rp rl vr R) {N':Nat} (hn:N≤N'):bS a h tb bw bp bl c vb aG N' Ts W wc F B rt rp rl vr R:=
 ⟨J.st.up hn,J.rt,J.like,J.ne,J.le,J.hno,J.am,J.aw,J.ap,J.al,J.ar,J.ac⟩
theorem bS.lk (J:bS a h tb bw bp bl c vb aG N Ts W wc F B rt rp rl vr R) {k:Nat} {b:TB} (hk:Ts[k]? = some b):Ry h b.bb b.bm bp bl aG b.M b.clock F B:=⟨J.st.is.bk b (List.mem_of_getElem? hk),J.st.Au hk⟩
theorem bS.good (J:bS a h tb bw bp bl c vb aG N Ts W wc F B rt rp rl vr R):∀r∈R,∀k∈r.K,iM k:=by
 intro r hr k hk
 obtain ⟨i,hi⟩:=List.getElem?_of_mem hr
 obtain ⟨b,hb,l⟩:=J.atR hi
 obtain ⟨e,he,s⟩:=l.each k hk
 have g:=(J.st.is.bk b (List.mem_of_getElem? hb)).good e he
 obtain ⟨h1,h2,h3,h4⟩:=s
 exact ⟨by rw[h4]; exact g.ne,by rw[h3,h4]; exact g.vq,by rw[h4]; exact g.stuck,by rw[h4]; exact g.small⟩
theorem bS.ids (J:bS a h tb bw bp bl c vb aG N Ts W wc F B rt rp rl vr R) {k:Nat} {r:RB} (hk:R[k]? = some r):∀e∈r.K,∀p∈e.Q,∃n:Nat,p.id=(n:Int)∧B[n]? = some true:=by
 intro e he p hp
 obtain ⟨b,hb,l⟩:=J.atR hk
 obtain ⟨e2,td,s⟩:=l.each e he
 rw[s.2.2.2] at hp
 exact (J.st.Au hb).find td hp
theorem bS.wb (J:bS a h tb bw bp bl c vb aG N Ts W wc F B rt rp rl vr R) {k:Nat} {r:RB} (hk:R[k]? = some r):∀e∈r.K,e.w≤N:=by
 intro e he
 obtain ⟨b,hb,l⟩:=J.atR hk
 obtain ⟨e2,td,s⟩:=l.each e he
 rw[s.2.2.1]
 exact J.st.wb b (List.mem_of_getElem? hb) e2 td
theorem bS.ag4 (J:bS a h tb bw bp bl c vb aG N Ts W wc F B rt rp rl vr R):∀r∈R,r.K.length≤64:=by
 intro r hr
 obtain ⟨i,hi⟩:=List.getElem?_of_mem hr
 obtain ⟨b,hb,l⟩:=J.atR hi
 have:=J.st.len b (List.mem_of_getElem? hb)
 have:=J.st.is.hd
 have:=l.len
 omega
theorem bS.step (J:bS a h tb bw bp bl c vb aG N Ts W wc F B rt rp rl vr R) {h1 h2:Heap} {N' uu clock' k:Nat} {b:TB} {r:RB} {M':List HE} {W':List IE} {F':List Int} {B':List Bool} {v':Value} {K':List HE} (hb:Ts[k]? = some b) (hr:R[k]? = some r)
  (s1:iW h1 tb bw bp bl c vb aG N' (Ts.set k ⟨b.bb,b.bm,M',clock'⟩) W' uu F' B') (f1:uq Ts bw bp bl h h1) (R2:iz a h2 r.rb rp aG v' K') (p2:bT h2 rp rl B') (f2:gH (SK r.rb rl r.v) h1 h2) (nb:jB h1 r.v v') (l:gL M' K') :
  bS a h2 tb bw bp bl c vb aG N' (Ts.set k ⟨b.bb,b.bm,M',clock'⟩) W' uu F' B' rt rp rl vr (R.set k ⟨r.rb,v',K'⟩):=by
 have t1:=J.rt.real J.st.is f1 J.ne
 have R1:=t1.bk r (List.mem_of_getElem? hr)
 have is2:=s1.is.frK R1 t1.bM J.ne f2
 have mm:∀x∈Ts.set k ⟨b.bb,b.bm,M',clock'⟩,a.nx≤x.bm:=by
  intro x hx
  obtain ⟨j,hj⟩:=List.getElem?_of_mem hx
  rcases dR hj with ⟨rfl,rfl⟩ | ⟨_,hj⟩
  ·exact J.am b (List.mem_of_getElem? hb)
  ·exact J.am x (List.mem_of_getElem? hj)
 have rr:∀x∈R.set k ⟨r.rb,v',K'⟩,a.nx≤x.rb:=by
  intro x hx
  obtain ⟨j,hj⟩:=List.getElem?_of_mem hx
  rcases dR hj with ⟨rfl,rfl⟩ | ⟨_,hj⟩
  ·exact J.ar r (List.mem_of_getElem? hr)
  ·exact J.ar x (List.mem_of_getElem? hj)
 refine ⟨⟨is2,s1.ids,s1.wh,s1.nm,s1.wb,s1.len,s1.cR,s1.cH⟩,t1.change hr R2 p2 f2 nb,?_,J.ne,f2.le (f1.leA J.le J.hno J.am J.aw J.ap J.al) ?_,J.hno,mm,J.aw,J.ap,J.al,rr,J.ac⟩
 ·intro j x y hx hy
  rcases dR hx with ⟨rfl,rfl⟩ | ⟨hne,hx⟩
  ·rcases dR hy with ⟨_,rfl⟩ | ⟨hne,_⟩
   ·exact l
   ·exact absurd rfl hne
  ·rcases dR hy with ⟨e,rfl⟩ | ⟨_,hy⟩
   ·exact absurd e hne
   ·exact J.like j x y hx hy
 ·rintro d (rfl | rfl | e)
  ·exact J.ar r (List.mem_of_getElem? hr)
  ·exact J.ac
  ·exact (R1.own.blk e).1
end
theorem Lj {β:Type} {fl:β} (s:ByteArray) (i:Nat) (h:Heap) (κ:Value→Heap→β) (hi:i<s.data.toList.length):qU fl (.string s) (.int .i64 (i:Int)) h κ=κ (.int .u8 (Int.ofNat (s.data.toList[i]).toNat)) h:=by
 show (match s.data.toList[i]? with | some b=>u9 b.toNat fun n=>κ (.int .u8 (.ofNat n)) h | none=>fl)=_
 rw[List.getElem?_eq_getElem hi]
 simp only[bR]
theorem Ax {β:Type} {fl:β} (s:ByteArray) (h:Heap) (κ:Value→Heap→β):oC fl (.string s) h κ=κ (.int .i64 (s.data.toList.length:Int)) h:=by
 unfold oC; simp only[bR]; rfl
theorem E3 (h:Heap) (κ:KQ) (hlo:h.lo≤h.nx) (hk:∀h',Le h h'→κ (dz (-1) (-1)) h'):CallW Tryz.prog 94 [] h κ:=by
 refine aq mixed ?_
 rw[aat]
 simp(disch:=first|omega|simp only[Wd]<;>omega|with_unfolding_all rfl)only[Wz]
 exact hk _ ((Le.refl h).new _)
theorem Ll (t r:Int) (h:Heap) (κ:KQ) (hlo:h.lo≤h.nx) (hk:∀h',Le h h'→κ (.int .i64 (bO t r)) h'):CallW Tryz.prog 43 [dz t r] h κ:=by
 refine aq mixed ?_
 rw[ZM]
 simp(disch:=first|omega|simp only[Wd]<;>omega|with_unfolding_all rfl)only[Wz,dz]
 obtain ⟨hA,az⟩:∃hA:Heap,hA=⟨h.nx+1,(h.bl.bf (h.nx) (af [.int .i64 t,.int .i64 r] 24 false)),h.lo⟩:=⟨_,rfl⟩
 have aH:Le h hA:=by subst az; exact ((Le.refl h).new _)
 have g1:hA.bl.get (h.nx)=some (af [.int .i64 t,.int .i64 r] 24 false):=by subst az; exact T.aa _ _ _
 have dF:hA.nx=h.nx+1:=by subst az; rfl
 have dG:hA.lo=h.lo:=by subst az; rfl
 rw[←az]
 clear az
 refine E3 hA _ (by omega) ?_
 intro h2 aZ
 have iU:=aZ.nx
 have iV:=aZ.lo
 have g1:=(aZ.get _ (by omega)).trans g1
 have hk:=hk h2 (aH.trans aZ)
 simp(disch:=first|omega|simp only[Wd]<;>omega|with_unfolding_all rfl)only[Wz,dz,g1,jg,sP]
 by_cases h0:t = -1∧r = -1
 ·simp(disch:=first|omega|simp only[Wd]<;>omega|with_unfolding_all rfl)only[Wz,aM h0]
  have e:bO t r=0:=by simp[bO,h0]
  rw[e] at hk; exact hk
 have hl:bO t r=if t<0∨100≤t∨r < -1∨100≤r then -1 else if r = -1 then 1 else 2:=by
  unfold bO Cl
  rw[if_neg h0]
  by_cases h1:t<0∨100≤t∨r < -1∨100≤r
  ·rw[if_pos h1,if_neg (by simp; omega),if_neg (by simp; omega)]
  ·rw[if_neg h1]
   by_cases h2:r = -1
   ·rw[if_pos h2,if_pos (by simp; omega)]
   ·rw[if_neg h2,if_neg (by simp; omega),if_pos (by simp; omega)]
 simp(disch:=first|omega|simp only[Wd]<;>omega|with_unfolding_all rfl)only[Wz,aK h0,Iv,g1]
 by_cases a1:t<0
 ·simp(disch:=first|omega|simp only[Wd]<;>omega|with_unfolding_all rfl)only[Wz,aM a1]
  rw[hl,if_pos (by omega)] at hk; exact hk
 by_cases a2:100≤t
 ·simp(disch:=first|omega|simp only[Wd]<;>omega|with_unfolding_all rfl)only[Wz,aK a1,g1,aM a2]
  rw[hl,if_pos (by omega)] at hk; exact hk
 by_cases a3:r < -1
 ·simp(disch:=first|omega|simp only[Wd]<;>omega|with_unfolding_all rfl)only[Wz,aK a1,aK a2,aM a3,g1]
  rw[hl,if_pos (by omega)] at hk; exact hk
 by_cases a4:100≤r
 ·simp(disch:=first|omega|simp only[Wd]<;>omega|with_unfolding_all rfl)only[Wz,aK a1,aK a2,aK a3,aM a4,g1]
  rw[hl,if_pos (by omega)] at hk; exact hk
 by_cases a5:r = -1
 ·simp(disch:=first|omega|simp only[Wd]<;>omega|with_unfolding_all rfl)only[Wz,aK a1,aK a2,aK a3,aK a4,aM a5,g1]
  rw[hl,if_neg (by omega),if_pos a5] at hk; exact hk
 ·simp(disch:=first|omega|simp only[Wd]<;>omega|with_unfolding_all rfl)only[Wz,aK a1,aK a2,aK a3,aK a4,aK a5,g1]
  rw[hl,if_neg (by omega),if_neg a5] at hk; exact hk
theorem Ay (t r:Int) {h:Heap} {κ:Value→Heap→Prop} (hk:κ (.int .i64 (bO t r)) h):CallW Tryz.prog 43 [dz t r] h κ:=
 fo (v:=.int .i64 (bO t r)) rfl rfl (Ll t r uJ _ (Nat.le_refl _) fun _ _=>rfl) hk
theorem Lm (t r:Int):bO t r<0↔bO t r = -1:=by
 unfold bO
 split
 ·omega
 ·split
  ·omega
  ·split<;>omega
theorem Ln (t r:Int) {h:Heap} {κ:Value→Heap→Prop} (hk:κ (.int .i64 (if bO t r = -1 then 2 else 0)) h):CallW Tryz.prog 9 [dz t r] h κ:=by
 refine fo (v:=.int .i64 (if bO t r = -1 then 2 else 0)) rfl rfl (aq mixed ?_) hk
 rw[aeC]
 simp(disch:=first|omega|simp only[Wd]<;>omega|with_unfolding_all rfl)only[Wz,dz]
 refine Ay t r ?_
 have:=Lm t r
 by_cases h:bO t r = -1
 ·simp(disch:=first|omega|simp only[Wd]<;>omega|with_unfolding_all rfl)only[Wz,aM (this.2 h)]; simp[h]
 ·simp(disch:=first|omega|simp only[Wd]<;>omega|with_unfolding_all rfl)only[Wz,aK (fun x=>h (this.1 x))]; simp[h]
theorem O_:∀n,n<100→bK Tryz.prog 60 214 [.int .i64 (n:Nat)] (.string (fD n))=true:=by
 intro n hn
 have:(List.range 100).all (fun n=>bK Tryz.prog 60 214 [.int .i64 ((n:Nat):Int)] (.string (fD n)))=true:=by kernel_rfl
 exact List.all_eq_true.1 this n (List.mem_range.2 hn)
theorem yP (n:Int) (hn:Cl n=true) {h:Heap} {κ:Value→Heap→Prop} (hk:κ (.string (fD n.toNat)) h):CallW Tryz.prog 214 [.int .i64 n] h κ:=by
 have h1:0≤n∧n<100:=by simpa[Cl] using hn
 obtain ⟨k,rfl⟩:∃k:Nat,n=(k:Int):=⟨n.toNat,by omega⟩
 rw[Int.toNat_natCast] at hk
 exact r7 mixed (O_ k (by omega)) hk
theorem RL (t r:Int) (hl:bO t r≠-1) {h:Heap} {κ:Value→Heap→Prop} (hk:κ (.string (gJ t r)) h):CallW Tryz.prog 182 [dz t r] h κ:=by
 refine fo (v:=.string (gJ t r)) rfl rfl (aq mixed ?_) hk
 rw[VX]
 simp(disch:=first|omega|simp only[Wd]<;>omega|with_unfolding_all rfl)only[Wz,dz]
 refine Ay t r ?_
 have st:=kM t.toNat
 have sr:=kM r.toNat
 rcases uW hl with e | ⟨e,ht⟩ | ⟨e,ht,hr⟩
 ·rw[e]; simp(disch:=first|omega|simp only[Wd]<;>omega|with_unfolding_all rfl)only[Wz]; simp[gJ,e]
 ·rw[e]
  simp(disch:=first|omega|simp only[Wd]<;>omega|with_unfolding_all rfl)only[Wz,xY]
  refine yP t ht ?_
  rw[mz _ _ _ _ _ _ _ _ (by show 1+_≤_; omega)]
  simp[gJ,e]
 ·rw[e]
  simp(disch:=first|omega|simp only[Wd]<;>omega|with_unfolding_all rfl)only[Wz,xY,Ed]
  have e1:∀(β:Type) (fl:β) (cn gd:Bool) (h:Heap) (κ:Value→Heap→β),av fl Tryz.prog .add 9 cn gd (.string ⟨#[116]⟩) (.string (fD t.toNat)) h κ=κ (.string ((⟨#[116]⟩:ByteArray)++fD t.toNat)) h:=fun β fl cn gd h κ=>mz _ _ _ _ _ _ _ _ (by show 1+_≤_; omega)
  have e2:∀(β:Type) (fl:β) (cn gd:Bool) (h:Heap) (κ:Value→Heap→β),av fl Tryz.prog .add 9 cn gd (.string ((⟨#[116]⟩:ByteArray)++fD t.toNat)) (.string ⟨#[46,114]⟩) h κ=κ (.string ((⟨#[116]⟩:ByteArray)++fD t.toNat++(⟨#[46,114]⟩:ByteArray))) h:=fun β fl cn gd h κ=>mz _ _ _ _ _ _ _ _ (by rw[ByteArray.size_append]; show 1+_+2≤_; omega)
  have e3:∀(β:Type) (fl:β) (cn gd:Bool) (h:Heap) (κ:Value→Heap→β),av fl Tryz.prog .add 9 cn gd (.string ((⟨#[116]⟩:ByteArray)++fD t.toNat++(⟨#[46,114]⟩:ByteArray))) (.string (fD r.toNat)) h κ=κ (.string ((⟨#[116]⟩:ByteArray)++fD t.toNat++(⟨#[46,114]⟩:ByteArray)++fD r.toNat)) h:=fun β fl cn gd h κ=>mz _ _ _ _ _ _ _ _ (by rw[ByteArray.size_append,ByteArray.size_append]; show 1+_+2+_≤_; omega)
  refine yP t ht ?_
  simp(disch:=first|omega|simp only[Wd]<;>omega|with_unfolding_all rfl)only[Wz,e1,e2]
  refine yP r hr ?_
  simp(disch:=first|omega|simp only[Wd]<;>omega|with_unfolding_all rfl)only[Wz,e1,e2,e3,Jk]
  simp[gJ,e]
theorem Xc (s:ByteArray) (hs:s.data.toList.length≤1000) {h:Heap} {κ:Value→Heap→Prop} (hk:κ (.int .u32 (sV s)) h):CallW Tryz.prog 181 [.string s] h κ:=by
 refine aq mixed ?_
 rw[VW]
 refine ⟨fun n l h1=>∃i:Nat,slot l 14=.int .i64 (i:Int)∧slot l 11=.int .u32 ((s.data.toList.take i).foldl yH 2166136261)∧i≤s.data.toList.length∧n=s.data.toList.length-i∧HQ h h1,⟨_,0,rfl,rfl,Nat.zero_le _,rfl,rfl⟩,?_⟩
 rintro n l h1 ⟨i,s1,s2,hi,rfl,hq⟩
 cases (show h=h1 from hq)
 by_cases hlt:i<s.data.toList.length
 ·simp(disch:=first|omega|simp only[Wd]<;>omega|with_unfolding_all rfl)only[Wz,xX,Ax,s1,bZ (show (i:Int)<(s.data.toList.length:Int) by omega),Lj,s2,sS,Ao,Ap]
  refine ⟨_,by omega,i+1,rfl,?_,by omega,rfl,rfl⟩
  rw[List.take_add_one,List.getElem?_eq_getElem hlt]
  simp only[Option.toList_some,List.foldl_append,List.foldl_cons,List.foldl_nil]
  rfl
 ·have hil:i=s.data.toList.length:=by omega
  simp(disch:=first|omega|simp only[Wd]<;>omega|with_unfolding_all rfl)only[Wz,xX,Ax,s1,bL (show (s.data.toList.length:Int)≤(i:Int) by omega),s2]
  rw[hil,List.take_length]; exact hk
theorem RM (t r:Int) (hl:bO t r≠-1) {h:Heap} {κ:Value→Heap→Prop} (hk:κ (.int .u32 (sV (gJ t r))) h):CallW Tryz.prog 126 [dz t r] h κ:=by
 refine fo (v:=.int .u32 (sV (gJ t r))) rfl rfl (aq mixed ?_) hk
 rw[Vl]
 simp(disch:=first|omega|simp only[Wd]<;>omega|with_unfolding_all rfl)only[Wz,dz]
 refine RL t r hl ?_
 refine Xc _ (EX t r) ?_
 rfl
theorem Xd (t r s:Int) {h:Heap} {κ:Value→Heap→Prop} (hk:κ (.int .i64 (dY t r s)) h):CallW Tryz.prog 87 [dz t r,.int .i64 s] h κ:=by
 refine fo (v:=.int .i64 (dY t r s)) rfl rfl (aq mixed ?_) hk
 rw[aam]
 simp(disch:=first|omega|simp only[Wd]<;>omega|with_unfolding_all rfl)only[Wz,dz]
 refine Ln t r ?_
 by_cases hl:bO t r = -1
 ·rw[if_pos hl]
  simp(disch:=first|omega|simp only[Wd]<;>omega|with_unfolding_all rfl)only[Wz,aK (show ¬(2:Int)=0 by decide)]
  simp[dY,hl]
 rw[if_neg hl]
 by_cases h1:s<1
 ·simp(disch:=first|omega|simp only[Wd]<;>omega|with_unfolding_all rfl)only[Wz,aM (show (0:Int)=0 from rfl),aM h1]
  unfold dY; rw[if_pos (by omega)]
 by_cases h2:16<s
 ·simp(disch:=first|omega|simp only[Wd]<;>omega|with_unfolding_all rfl)only[Wz,aM (show (0:Int)=0 from rfl),aK h1,aM h2]
  unfold dY; rw[if_pos (by omega)]
 simp(disch:=first|omega|simp only[Wd]<;>omega|with_unfolding_all rfl)only[Wz,aM (show (0:Int)=0 from rfl),aK h1,aK h2]
 refine RM t r hl ?_
 have hr:=rH (gJ t r)
 have h2:=Int.tmod_lt_of_pos (sV (gJ t r)) (show 0<s by omega)
 have h3:=Int.tmod_nonneg s hr.1
 simp(disch:=first|omega|simp only[Wd]<;>omega|with_unfolding_all rfl)only[Wz,sS,Ar,Aq]
 unfold dY
 rw[if_neg (by omega)]
section
variable {h h':Heap} {tb bw bp bl:Nat} {c:fI} {vb:Value} {aG N:Nat} {Ts:List TB} {W:List IE} {wc:Nat} {F F':List Int} {B:List Bool}
theorem RO (s:iW h tb bw bp bl c vb aG N Ts W wc F B) (hlo:h.lo≤h.nx) (hN:N≤1000) (t r x m:Int) (κ:KQ)
  (ou:∀h',dY t r c.S<0→Le h h'→κ (.tuple ⟨[.int .i64 0,.bool false,.int .i64 2]⟩) h')
  (hk2:∀(k:Nat) (b:TB) h',Ts[k]? = some b→dY t r c.S=(k:Int)→br m=false→Le h h'→κ (.tuple ⟨[.int .i64 0,.bool false,.int .i64 2]⟩) h')
  (wY:∀(k:Nat) (b:TB) h' e p,Ts[k]? = some b→dY t r c.S=(k:Int)→br m=true→e∈b.M→t=e.t→r=e.r→p∈e.Q→p.x=x→Le h h'→κ (.tuple ⟨[.int .i64 0,.bool false,.int .i64 4]⟩) h')
  (KD:∀(k:Nat) (b:TB) h',Ts[k]? = some b→dY t r c.S=(k:Int)→br m=true→(∀e∈b.M,t=e.t→r=e.r→∀p∈e.Q,p.x≠x)→(F=[]∨((∀e∈b.M,¬(t=e.t∧r=e.r))∧aG≤b.M.length))→Le h h'→κ (.tuple ⟨[.int .i64 0,.bool false,.int .i64 8]⟩) h')
  (Ck:∀(k:Nat) (b:TB) M' clock' F' W' uu h0 h1 h' n g,Ts[k]? = some b→dY t r c.S=(k:Int)→br m=true→(∀e∈b.M,t=e.t→r=e.r→∀p∈e.Q,p.x≠x)→bg h0 b.bb b.bm bp bl aG b.M b.clock F B→lF h0 h1 b.bb b.bm bp bl aG b.M M' clock' F F' B t r x m n g→
   iW h' tb bw bp bl c vb aG (N+1) (Ts.set k ⟨b.bb,b.bm,M',clock'⟩) W' uu F' (B.set n true)→uq Ts bw bp bl h h'→κ (.tuple ⟨[.int .i64 (n:Int),.bool g,.int .i64 0]⟩) h') :
  CallW Tryz.prog 11 [.pointer (some ⟨tb,0,none⟩),dz t r,.int .i64 x,.int .i64 m] h κ:=by
 refine aq mixed ?_
 rw[Zd]
 simp(disch:=first|omega|simp only[Wd]<;>omega|with_unfolding_all rfl)only[Wz,dz,lI]
 obtain ⟨hA,az⟩:∃hA:Heap,hA=⟨h.nx+1,(h.bl.bf (h.nx) (af [.int .i64 t,.int .i64 r] 24 false)),h.lo⟩:=⟨_,rfl⟩
 have aH:Le h hA:=by subst az; exact ((Le.refl h).new _)
 have g1:hA.bl.get (h.nx)=some (af [.int .i64 t,.int .i64 r] 24 false):=by subst az; exact T.aa _ _ _
 have dF:hA.nx=h.nx+1:=by subst az; rfl
 have dG:hA.lo=h.lo:=by subst az; rfl
 rw[←az]
 clear az
 refine ur (s.le aH).is (by omega) t r _ ?_
 intro h2 aZ
 have iU:=aZ.nx
 have iV:=aZ.lo
 have g1:=(aZ.get _ (by omega)).trans g1
 have fM:=aH.trans aZ
 have s2:=s.le fM
 by_cases hneg:dY t r c.S<0
 ·simp(disch:=first|omega|simp only[Wd]<;>omega|with_unfolding_all rfl)only[Wz,aM hneg]
  exact ou h2 hneg fM
 obtain ⟨k,b,hst,hk⟩:=ab5 s.is hneg
 have hb:=List.mem_of_getElem? hk
 have gt:=s2.is.lH
 obtain ⟨cc,oo,_,Fh,dg⟩:=OY s2.is.sl k hk
 have dg:=dg h2 (Le.refl _)
 rw[hst]
 simp(disch:=first|omega|simp only[Wd]<;>omega|with_unfolding_all rfl)only[Wz,bL (show (0:Int)≤(k:Int) by omega),HU,aU,gt,Fh,dg,g1]
 refine Rg (s2.is.bk b hb) (by omega) (s2.Au hk) N (by omega) (s2.wb b hb) t r x m _ ?_ ?_ ?_ ?_
 ·intro h3 Gx cL
  simp(disch:=first|omega|simp only[Wd]<;>omega|with_unfolding_all rfl)only[Wz,jg,ng]
  refine ⟨fun l h'=>HQ h3 h',?_,?_⟩
  ·simp(disch:=first|omega|simp only[Wd]<;>omega|with_unfolding_all rfl)only[Wz,sq]
   rfl
  ·rintro l h' hq
   cases (show h3=h' from hq)
   exact hk2 k b h3 hk hst Gx (fM.trans cL)
 ·intro h3 e p X8 he ht hr hp hx cL
  simp(disch:=first|omega|simp only[Wd]<;>omega|with_unfolding_all rfl)only[Wz,jg,ng]
  refine ⟨fun l h'=>HQ h3 h',?_,?_⟩
  ·simp(disch:=first|omega|simp only[Wd]<;>omega|with_unfolding_all rfl)only[Wz,sq]
   rfl
  ·rintro l h' hq
   cases (show h3=h' from hq)
   exact wY k b h3 e p hk hst X8 he ht hr hp hx (fM.trans cL)
 ·intro h3 X8 ag5 hfull cL
  simp(disch:=first|omega|simp only[Wd]<;>omega|with_unfolding_all rfl)only[Wz,jg,ng]
  refine ⟨fun l h'=>HQ h3 h',?_,?_⟩
  ·simp(disch:=first|omega|simp only[Wd]<;>omega|with_unfolding_all rfl)only[Wz,sq]
   rfl
  ·rintro l h' hq
   cases (show h3=h' from hq)
   exact KD k b h3 hk hst X8 ag5 hfull (fM.trans cL)
 ·intro M' clock' F' h3 n g am hno ak
  have is3:=s2.is.change hk ak.is ak.fr
  have n3:=ak.fr.nx
  have l3:=ak.fr.lo
  have gt3:=is3.lH
  have ag6:=is3.low
  simp(disch:=first|omega|simp only[Wd]<;>omega|with_unfolding_all rfl)only[Wz,jg,ng]
  refine ⟨fun l h'=>∃W' uu,(∀j,K_ W' j=if j=(n:Int) then some (k:Int) else K_ W j)∧h'=⟨h3.nx,h3.bl.bf bw (.map (W'.map B5) uu),h3.lo⟩,?_,?_⟩
  ·simp(disch:=first|omega|simp only[Wd]<;>omega|with_unfolding_all rfl)only[Wz,sq,aU,gt3]
   refine W7 is3.om ag6 _ _ _ ?_
   intro W' uu hW
   exact ⟨W',uu,hW,rfl⟩
  ·rintro l h' ⟨W',uu,hW,rfl⟩
   have fr:uq Ts bw bp bl h ⟨h3.nx,h3.bl.bf bw (.map (W'.map B5) uu),h3.lo⟩:=((uq.of_le fM).trans (uq.Lb hb ak.fr)).trans uq.W8
   have lR:=lF.ids (s2.is.bk b hb) ak
   have acd:∀i,i∈eW B→i≠(n:Int):=by
    rintro i hi rfl
    obtain ⟨k',e,hk'⟩:=jU.1 hi
    have:k'=n:=(Int.ofNat.inj e).symm
    subst this
    rw[ak.old] at hk'; cases hk'
   have hin:∀i b',b'∈Ts→i∈eT b'.M→i≠(n:Int):=fun i b' hb' hi=>acd i (s.ids.mem_iff.1 (List.mem_flatMap.2 ⟨b',hb',hi⟩))
   refine Ck k b M' clock' F' W' uu h2 h3 _ n g hk hst am hno (s2.is.bk b hb) ak ⟨is3.W8 W' uu,?_,?_,?_,?_,?_,by rw[List.length_set]; exact s.cR,s.cH⟩ fr
   ·obtain ⟨X,hX⟩:=nY (fun b:TB=>eT b.M) hk
    have h0:=hX b
    rw[sX hk] at h0
    refine (hX _).trans ?_
    refine (lR.append_right X).trans ?_
    rw[List.append_assoc]
    refine ((List.Perm.append_left _ List.perm_append_comm).trans ?_).trans (Ag ak.old).symm
    rw[←List.append_assoc]
    exact (h0.symm.trans s.ids).append_right _
   ·intro j y hj e he p hp
    rw[hW]
    rcases dR hj with ⟨rfl,rfl⟩ | ⟨hne,hj⟩
    ·have hpi:=lR.mem_iff.1 (jX.2 ⟨e,he,p,hp,rfl⟩)
     rcases List.mem_append.1 hpi with h1 | h1
     ·obtain ⟨e0,Je,p0,Wt,hpe⟩:=jX.1 h1
      rw[if_neg (hin _ b hb h1),←hpe]
      exact s.wh j b hk e0 Je p0 Wt
     ·rw[List.mem_singleton] at h1
      rw[if_pos h1]
    ·rw[if_neg (hin _ y (List.mem_of_getElem? hj) (jX.2 ⟨e,he,p,hp,rfl⟩))]
     exact s.wh j y hj e he p hp
   ·intro j y hj e he
    rcases dR hj with ⟨rfl,rfl⟩ | ⟨_,hj⟩
    ·rcases ak.sub e he with ⟨e0,Je,h1,h2⟩ | ⟨h1,h2⟩
     ·rw[←h1,←h2]; exact s.nm j b hk e0 Je
     ·rw[h1,h2]; exact hst
    ·exact s.nm j y hj e he
   ·intro y hy e he
    obtain ⟨j,hj⟩:=List.getElem?_of_mem hy
    rcases dR hj with ⟨rfl,rfl⟩ | ⟨_,hj⟩
    ·exact ak.wb (s.wb b hb) e he
    ·have:=s.wb y (List.mem_of_getElem? hj) e he; omega
   ·intro y hy
    obtain ⟨j,hj⟩:=List.getElem?_of_mem hy
    rcases dR hj with ⟨rfl,rfl⟩ | ⟨_,hj⟩
    ·exact lF.len (s2.is.bk b hb) (s.len b hb) ak
    ·exact s.len y (List.mem_of_getElem? hj)
theorem E4 (s:iW h tb bw bp bl c vb aG N Ts W wc F B) (hlo:h.lo≤h.nx) (id:Int) (κ:KQ)
  (qz:(∀b∈Ts,∀e∈b.M,bq e.Q id=none)→κ (.tuple ⟨[.slice none 0 0,.int .i64 5]⟩) h)
  (sI:∀(k:Nat) (b:TB) h' e p,Ts[k]? = some b→e∈b.M→bq e.Q id=some p→¬0<p.s→Le h h'→κ (.tuple ⟨[.slice none 0 0,.int .i64 7]⟩) h')
  (dK:∀(k:Nat) (b:TB) h' M' clock' F' v' e p (n:Nat),Ts[k]? = some b→e∈b.M→bq e.Q id=some p→0<p.s→p.m=0→id=(n:Int)→B[n]? = some true→
   iF h h' b.bb b.bm bp bl aG b.M M' clock' F' (B.set n false) e (e.Q.filter fun r=>!aV id r) e.w→gV h h' v' (bP (cF (e.Q.filter fun r=>!aV id r)+1) (e.Q.filter fun r=>!aV id r)).2→iW h' tb bw bp bl c vb aG (N+1) (Ts.set k ⟨b.bb,b.bm,M',clock'⟩) W wc F' (B.set n false)→κ (.tuple ⟨[v',.int .i64 0]⟩) h')
  (fF:∀(k:Nat) (b:TB) h' M' clock' v' e p i,Ts[k]? = some b→e∈b.M→e.Q[i]? = some p→bq e.Q id=some p→0<p.s→p.m≠0→iF h h' b.bb b.bm bp bl aG b.M M' clock' F B e (e.Q.set i (dZ p)) e.w→
   gV h h' v' (bP (cF (e.Q.set i (dZ p))+1) (e.Q.set i (dZ p))).2→iW h' tb bw bp bl c vb aG (N+1) (Ts.set k ⟨b.bb,b.bm,M',clock'⟩) W wc F B→κ (.tuple ⟨[v',.int .i64 0]⟩) h') :
  CallW Tryz.prog 49 [.pointer (some ⟨tb,0,none⟩),.int .i64 id] h κ:=by
 refine aq mixed ?_
 rw[ZS]
 refine EY s hlo id _ ?_ ?_
 ·intro hno
  simp(disch:=first|omega|simp only[Wd]<;>omega|with_unfolding_all rfl)only[Wz,pU]
  refine wj tb h _ ?_
  exact qz hno
 ·intro k b e p hkb he hf
  have hb:=List.mem_of_getElem? hkb
  simp(disch:=first|omega|simp only[Wd]<;>omega|with_unfolding_all rfl)only[Wz,fL]
  refine Et (s.is.bk b hb) hlo (s.Au hkb) id _ ?_ ?_ ?_ ?_
  ·intro h1 hno _
   rw[hno e he] at hf; cases hf
  ·intro h1 e1 p1 tC Av hs1 bu
   simp(disch:=first|omega|simp only[Wd]<;>omega|with_unfolding_all rfl)only[Wz]
   exact sI k b h1 e1 p1 hkb tC Av hs1 bu
  ·intro h1 M' clock' F' v' e1 p1 n tC Av hs1 YA hid oa hpF mv ho
   simp(disch:=first|omega|simp only[Wd]<;>omega|with_unfolding_all rfl)only[Wz]
   have mv':=mv
   have hf':=Av
   rw[hid] at hf' mv'
   exact dK k b h1 M' clock' F' v' e1 p1 n hkb tC Av hs1 YA hid oa mv ho (s.left hkb tC hf' oa mv')
  ·intro h1 M' clock' v' e1 p1 i tC hi Av hs1 YA mv ho
   simp(disch:=first|omega|simp only[Wd]<;>omega|with_unfolding_all rfl)only[Wz]
   exact fF k b h1 M' clock' v' e1 p1 i hkb tC hi Av hs1 YA mv ho (s.OZ hkb tC mv (nW hi rfl) (by omega))
theorem Pa (s:iW h tb bw bp bl c vb aG N Ts W wc F B) (hlo:h.lo≤h.nx) (id x:Int) (κ:KQ)
  (qz:(∀b∈Ts,∀e∈b.M,bq e.Q id=none)→κ (.int .i64 5) h)
  (wY:∀(k:Nat) (b:TB) h' e p,Ts[k]? = some b→e∈b.M→bq e.Q id=some p→(∃o∈e.Q,o.id≠id∧o.x=x)→Le h h'→κ (.int .i64 4) h')
  (sI:∀(k:Nat) (b:TB) h' e p,Ts[k]? = some b→e∈b.M→bq e.Q id=some p→(∀o∈e.Q,o.id≠id→o.x≠x)→0<p.s→Le h h'→κ (.int .i64 7) h')
  (dK:∀(k:Nat) (b:TB) h' M' clock' e p i,Ts[k]? = some b→e∈b.M→e.Q[i]? = some p→bq e.Q id=some p→(∀o∈e.Q,o.id≠id→o.x≠x)→¬0<p.s→iF h h' b.bb b.bm bp bl aG b.M M' clock' F B e (e.Q.set i (jh p x)) e.w→
   iW h' tb bw bp bl c vb aG (N+1) (Ts.set k ⟨b.bb,b.bm,M',clock'⟩) W wc F B→κ (.int .i64 0) h') :
  CallW Tryz.prog 50 [.pointer (some ⟨tb,0,none⟩),.int .i64 id,.int .i64 x] h κ:=by
 refine aq mixed ?_
 rw[ZT]
 refine EY s hlo id _ ?_ ?_
 ·intro hno
  simp(disch:=first|omega|simp only[Wd]<;>omega|with_unfolding_all rfl)only[Wz,pU]
  refine wj tb h _ ?_
  exact qz hno
 ·intro k b e p hkb he hf
  have hb:=List.mem_of_getElem? hkb
  simp(disch:=first|omega|simp only[Wd]<;>omega|with_unfolding_all rfl)only[Wz,fL]
  refine NY (s.is.bk b hb) hlo id x _ ?_ ?_ ?_ ?_
  ·intro h1 hno _
   rw[hno e he] at hf; cases hf
  ·intro h1 e1 p1 tC Av hx bu
   exact wY k b h1 e1 p1 hkb tC Av hx bu
  ·intro h1 e1 p1 tC Av hx hs1 bu
   exact sI k b h1 e1 p1 hkb tC Av hx hs1 bu
  ·intro h1 M' clock' e1 p1 i tC hi Av hx hs1 mv
   exact dK k b h1 M' clock' e1 p1 i hkb tC hi Av hx hs1 mv (s.OZ hkb tC mv (nW hi rfl) (by omega))
theorem E5 (s:iW h tb bw bp bl c vb aG N Ts W wc F B) (hlo:h.lo≤h.nx) (hN:N≤1000) (id m:Int) (κ:KQ)
  (hk2:∀h',br m=false→Le h h'→κ (.tuple ⟨[.bool false,.int .i64 2]⟩) h')
  (qz:br m=true→(∀b∈Ts,∀e∈b.M,bq e.Q id=none)→κ (.tuple ⟨[.bool false,.int .i64 5]⟩) h)
  (sI:∀(k:Nat) (b:TB) h' e p,br m=true→Ts[k]? = some b→e∈b.M→bq e.Q id=some p→0<p.s→Le h h'→κ (.tuple ⟨[.bool false,.int .i64 7]⟩) h')
  (dK:∀(k:Nat) (b:TB) h' M' clock' e p i,br m=true→Ts[k]? = some b→e∈b.M→e.Q[i]? = some p→bq e.Q id=some p→¬0<p.s→iF h h' b.bb b.bm bp bl aG b.M M' clock' F B e (e.Q.set i (dB e.Q e.w p m).1) (dB e.Q e.w p m).2.1→
   iW h' tb bw bp bl c vb aG (N+1) (Ts.set k ⟨b.bb,b.bm,M',clock'⟩) W wc F B→κ (.tuple ⟨[.bool (dB e.Q e.w p m).2.2,.int .i64 0]⟩) h') :
  CallW Tryz.prog 48 [.pointer (some ⟨tb,0,none⟩),.int .i64 id,.int .i64 m] h κ:=by
 have Gx:m=0→br m=false:=by intro h0; unfold br; simp[h0]
 have X8:m≠0→br m=kn m:=by intro h0; unfold br; simp[h0]
 refine aq mixed ?_
 rw[ZR]
 refine EY s hlo id _ ?_ ?_
 ·intro hno
  simp(disch:=first|omega|simp only[Wd]<;>omega|with_unfolding_all rfl)only[Wz,EZ]
  by_cases hm0:m=0
  ·simp(disch:=first|omega|simp only[Wd]<;>omega|with_unfolding_all rfl)only[Wz,aM hm0]
   exact hk2 h (Gx hm0) (Le.refl _)
  ·simp(disch:=first|omega|simp only[Wd]<;>omega|with_unfolding_all rfl)only[Wz,aK hm0]
   have am:=X8 hm0
   refine vS m ?_
   cases hkn:kn m with
   | false=>simp(disch:=first|omega|simp only[Wd]<;>omega|with_unfolding_all rfl)only[Wz]; exact hk2 h (am.trans hkn) (Le.refl _)
   | true=>
    simp(disch:=first|omega|simp only[Wd]<;>omega|with_unfolding_all rfl)only[Wz,BB,pU]
    refine wj tb h _ ?_
    exact qz (am.trans hkn) hno
 ·intro k b e p hkb he hf
  have hb:=List.mem_of_getElem? hkb
  simp(disch:=first|omega|simp only[Wd]<;>omega|with_unfolding_all rfl)only[Wz,EZ]
  by_cases hm0:m=0
  ·simp(disch:=first|omega|simp only[Wd]<;>omega|with_unfolding_all rfl)only[Wz,aM hm0]
   exact hk2 h (Gx hm0) (Le.refl _)
  ·simp(disch:=first|omega|simp only[Wd]<;>omega|with_unfolding_all rfl)only[Wz,aK hm0]
   have am:=X8 hm0
   refine vS m ?_
   cases hkn:kn m with
   | false=>simp(disch:=first|omega|simp only[Wd]<;>omega|with_unfolding_all rfl)only[Wz]; exact hk2 h (am.trans hkn) (Le.refl _)
   | true=>
    simp(disch:=first|omega|simp only[Wd]<;>omega|with_unfolding_all rfl)only[Wz,BB,fL]
    refine Er (s.is.bk b hb) hlo N (by omega) (s.wb b hb) id m _ ?_ ?_ ?_ ?_
    ·intro h1 mB bu
     simp(disch:=first|omega|simp only[Wd]<;>omega|with_unfolding_all rfl)only[Wz]
     exact hk2 h1 mB bu
    ·intro h1 _ hn _
     rw[hn e he] at hf; cases hf
    ·intro h1 e1 p1 mB tC Av hs1 bu
     simp(disch:=first|omega|simp only[Wd]<;>omega|with_unfolding_all rfl)only[Wz]
     exact sI k b h1 e1 p1 mB hkb tC Av hs1 bu
    ·intro h1 M' clock' e1 p1 i mB tC hi Av hs1 mv
     simp(disch:=first|omega|simp only[Wd]<;>omega|with_unfolding_all rfl)only[Wz]
     exact dK k b h1 M' clock' e1 p1 i mB hkb tC hi Av hs1 mv (s.OZ hkb tC mv (nW hi (Rr _ _ _ _)) (WV _ _ _ _))
end
structure lK (R:List RB):Prop where
 good:∀r∈R,∀k∈r.K,iM k
 len:∀r∈R,r.K.length≤64
 qB:∀r∈R,(r.K.map a_).Pairwise fH
theorem bS.rg {a h:Heap} {tb bw bp bl:Nat} {c:fI} {vb:Value} {aG N:Nat} {Ts:List TB} {W:List IE} {wc:Nat} {F:List Int} {B:List Bool} {rt rp rl:Nat} {vr:Value} {R:List RB} (J:bS a h tb bw bp bl c vb aG N Ts W wc F B rt rp rl vr R):lK R:=by
 refine ⟨J.good,J.ag4,fun r hr=>?_⟩
 obtain ⟨i,hi⟩:=List.getElem?_of_mem hr
 obtain ⟨b,hb,l⟩:=J.atR hi
 exact l.qB
theorem Pb {h:Heap} {v:Value} {R:List RB} (hs:Sl pV h v R) (i:Nat) {b:RB} (hp:R[i]? = some b) :
  ∃c o,c<h.nx∧(∀(β:Type) (fl:β) (h':Heap) (κ:Value→Heap→β),an fl 1 v (.int .i64 (i:Int)) h' κ=κ (.pointer (some ⟨c,o,none⟩)) h')∧
   ∀h',Le h h'→∀(β:Type) (fl:β) (κ:Value→β),qM fl (h'.bl.get c) o κ=κ (.pointer (some ⟨b.rb,0,none⟩)):=by
 obtain ⟨c,o,h1,h2,h3,hh⟩:=hs.ld Aw i hp
 refine ⟨c,o,h1,h2,fun h' le β fl κ=>?_⟩
 rw[←le.get c h1] at hh
 exact dD (fl:=fl) hh 0 κ (by show 0<1; omega)
theorem ace (h:Heap):lP Tryz.prog h 100 118 (.pointer none) (.pointer none)=some true:=by kernel_rfl
theorem pW {β:Type} {fl:β} (cn:Bool) (h:Heap) (κ:Value→Heap→β):av fl Tryz.prog .eql 118 cn false (.pointer none) (.pointer none) h κ=κ (.bool true) h:=by simp only[av,ace,cq]
theorem acf (h:Heap) (b o:Nat):lP Tryz.prog h 100 118 (.pointer (some ⟨b,o,none⟩)) (.pointer none)=some false:=by kernel_rfl
theorem pX {β:Type} {fl:β} (cn:Bool) (b o:Nat) (h:Heap) (κ:Value→Heap→β):av fl Tryz.prog .eql 118 cn false (.pointer (some ⟨b,o,none⟩)) (.pointer none) h κ=κ (.bool false) h:=by simp only[av,acf,cq]
theorem RP {a h:Heap} {rb rp most:Nat} {v:Value} {K:List HE} (R:iz a h rb rp most v K) (hlo:h.lo≤h.nx) (hl:K.length≤1000) (gd:∀k∈K,iM k) (d:Int) (κ:KQ)
  (dK:∀h',(∀k∈K,bq k.Q d=none)→Le h h'→κ (.bool false) h')
  (fF:∀h' (k:HE) (p:R5),k∈K→bq k.Q d=some p→Le h h'→κ (.bool true) h') :
  CallW Tryz.prog 127 [.pointer (some ⟨rb,0,none⟩),.int .i64 d] h κ:=by
 refine aq mixed ?_
 rw[Vm]
 refine An R hlo hl gd d _ ?_ ?_
 ·intro h' hn l
  simp(disch:=first|omega|simp only[Wd]<;>omega|with_unfolding_all rfl)only[Wz,aK (show ¬(0:Int)≤-1 by decide)]
  exact dK h' hn l
 ·intro i k p h' hi hf l
  simp(disch:=first|omega|simp only[Wd]<;>omega|with_unfolding_all rfl)only[Wz,aM (show (0:Int)≤(i:Int) by omega)]
  exact fF h' k p (List.mem_of_getElem? hi) hf l
section
variable {a h:Heap} {rt rp rl:Nat} {c:fI} {vr:Value} {aG:Nat} {R:List RB} {B:List Bool}
theorem rI (t:iZ a h rt rp rl c vr aG R B) (hlo:h.lo≤h.nx) (x y:Int) (κ:KQ) (hk:∀h',Le h h'→κ (.int .i64 (dY x y c.S)) h') :
  CallW Tryz.prog 34 [.pointer (some ⟨rt,0,none⟩),dz x y] h κ:=by
 refine aq mixed ?_
 rw[ZG]
 have c0:=t.cell
 have hlt:=t.lt
 simp(disch:=first|omega|simp only[Wd]<;>omega|with_unfolding_all rfl)only[Wz,dz,aU,c0]
 refine Xd x y c.S ?_
 exact hk _ ((Le.refl h).new _)
theorem yQ (t:iZ a h rt rp rl c vr aG R B) (g:lK R) (hlo:h.lo≤h.nx) (d:Int) (κ:KQ)
  (dK:∀h',(∀r∈R,∀k∈r.K,bq k.Q d=none)→Le h h'→κ (.pointer none) h')
  (fF:∀h' (j:Nat) (r:RB) k p,R[j]? = some r→k∈r.K→bq k.Q d=some p→Le h h'→κ (.pointer (some ⟨r.rb,0,none⟩)) h') :
  CallW Tryz.prog 88 [.pointer (some ⟨rt,0,none⟩),.int .i64 d] h κ:=by
 refine aq mixed ?_
 rw[aan]
 have hs1:=t.s1
 refine ⟨fun n l h1=>∃i:Nat,slot l 26=.int .i64 (i:Int)∧i≤R.length∧n=R.length-i∧(∀(j:Nat) (r:RB),j<i→R[j]? = some r→∀k∈r.K,bq k.Q d=none)∧Le h h1,⟨_,0,rfl,Nat.zero_le _,rfl,fun j k hj=>(by omega),Le.refl _⟩,?_⟩
 rintro n l h1 ⟨i,s1,hi,rfl,hall,bu⟩
 have n1:=bu.nx
 have l1:=bu.lo
 have t1:=t.le bu
 have c1:=t1.cell
 have hlen:∀(β:Type) (fl:β) (h':Heap) (κ:Value→Heap→β),bh fl vr h' κ=κ (.int .i64 (R.length:Int)) h':=fun β fl h' κ=>t1.sl.len κ h'
 by_cases hlt:i<R.length
 ·obtain ⟨r,hr⟩:∃r,R[i]? = some r:=⟨_,List.getElem?_eq_getElem hlt⟩
  have oq:=List.mem_of_getElem? hr
  obtain ⟨b,o,hb,dM,dg⟩:=Pb t.sl i hr
  have L1:=dg h1 bu
  have hl:=g.len r oq
  simp(disch:=first|omega|simp only[Wd]<;>omega|with_unfolding_all rfl)only[Wz,BJ,aU,c1,hlen,s1,bZ (show (i:Int)<(R.length:Int) by omega),IP,dM,L1]
  refine RP (t1.bk r oq) (by omega) (by omega) (g.good r oq) d _ ?_ ?_
  ·intro h2 hn aZ
   simp(disch:=first|omega|simp only[Wd]<;>omega|with_unfolding_all rfl)only[Wz,s1]
   refine ⟨_,by omega,i+1,rfl,by omega,rfl,fun j r' hj hr'=>?_,bu.trans aZ⟩
   by_cases e:j=i
   ·subst e; rw[hr] at hr'; cases hr'; exact hn
   ·exact hall j r' (by omega) hr'
  ·intro h2 k p hk hf aZ
   have c2:=(t1.le aZ).cell
   have L2:=dg h2 (bu.trans aZ)
   simp(disch:=first|omega|simp only[Wd]<;>omega|with_unfolding_all rfl)only[Wz,aU,c2,s1,dM,L2]
   exact fF h2 i r k p hr hk hf (bu.trans aZ)
 ·have hil:i=R.length:=by omega
  subst hil
  simp(disch:=first|omega|simp only[Wd]<;>omega|with_unfolding_all rfl)only[Wz,BJ,aU,c1,hlen,s1,bL (show (R.length:Int)≤(R.length:Int) by omega)]
  refine dK h1 (fun r hr k hk=>?_) bu
  obtain ⟨j,hj⟩:=List.getElem?_of_mem hr
  exact hall j r (List.getElem?_eq_some_iff.1 hj).1 hj k hk
theorem mC (t:iZ a h rt rp rl c vr aG R B) (g:lK R) (hlo:h.lo≤h.nx) (la:a.nx≤h.nx) (hw:∀r∈R,∀k∈r.K,k.w≤100000) (d m:Int) (κ:KQ)
  (hk2:∀h',br m=false→Le h h'→κ (.tuple ⟨[.bool false,.int .i64 2]⟩) h')
  (qz:∀h',br m=true→(∀r∈R,∀k∈r.K,bq k.Q d=none)→Le h h'→κ (.tuple ⟨[.bool false,.int .i64 5]⟩) h')
  (sI:∀h' (j:Nat) (r:RB) k p,br m=true→R[j]? = some r→k∈r.K→bq k.Q d=some p→0<p.s→Le h h'→κ (.tuple ⟨[.bool false,.int .i64 7]⟩) h')
  (dK:∀(j:Nat) (r:RB) q' h' (i:Nat) (k:HE) (p:R5) (jj:Nat),br m=true→R[j]? = some r→r.K[i]? = some k→k.Q[jj]? = some p→bq k.Q d=some p→¬0<p.s→iz a h' r.rb rp aG r.v (r.K.set i ⟨k.t,k.r,0,0,q',(dB k.Q k.w p m).2.1,k.Q.set jj (dB k.Q k.w p m).1⟩)→bT h' rp rl B→gH (SK r.rb rl r.v) h h'→κ (.tuple ⟨[.bool (dB k.Q k.w p m).2.2,.int .i64 0]⟩) h') :
  CallW Tryz.prog 76 [.pointer (some ⟨rt,0,none⟩),.int .i64 d,.int .i64 m] h κ:=by
 refine aq mixed ?_
 rw[aac]
 by_cases am:br m=true
 case neg=>
  have Gx:br m=false:=by simpa using am
  by_cases h0:m=0
  ·simp(disch:=first|omega|simp only[Wd]<;>omega|with_unfolding_all rfl)only[Wz,aM h0]
   exact hk2 _ Gx (Le.refl _)
  ·simp(disch:=first|omega|simp only[Wd]<;>omega|with_unfolding_all rfl)only[Wz,aK h0]
   refine pg m ?_
   have:kn m=false:=by
    have:br m=kn m:=by unfold br; simp[h0]
    rw[←this]; exact Gx
   rw[this]
   simp(disch:=first|omega|simp only[Wd]<;>omega|with_unfolding_all rfl)only[Wz]
   exact hk2 _ Gx (Le.refl _)
 obtain ⟨m0,km⟩:=(jx m).1 am
 simp(disch:=first|omega|simp only[Wd]<;>omega|with_unfolding_all rfl)only[Wz,aK m0]
 refine pg m ?_
 rw[km]
 simp(disch:=first|omega|simp only[Wd]<;>omega|with_unfolding_all rfl)only[Wz,IK]
 refine yQ t g hlo d _ ?_ ?_
 ·intro h1 hn bu
  simp(disch:=first|omega|simp only[Wd]<;>omega|with_unfolding_all rfl)only[Wz,pW]
  exact qz h1 am hn bu
 ·intro h1 j r k0 p0 hr GI d_ bu
  have n1:=bu.nx
  have l1:=bu.lo
  have t1:=t.le bu
  have oq:=List.mem_of_getElem? hr
  have hl:=g.len r oq
  simp(disch:=first|omega|simp only[Wd]<;>omega|with_unfolding_all rfl)only[Wz,pX]
  refine EU (t1.bk r oq) t1.bM (by omega) (by omega) (by omega) (g.good r oq) (hw r oq) d m _ ?_ ?_ ?_ ?_
  ·intro h2 Gx; rw[am] at Gx; cases Gx
  ·intro h2 _ hn; rw[hn k0 GI] at d_; cases d_
  ·intro h2 k p _ hk hf hs aZ
   simp(disch:=first|omega|simp only[Wd]<;>omega|with_unfolding_all rfl)only[Wz]
   exact sI h2 j r k p am hr hk hf hs (bu.trans aZ)
  ·intro q' h2 i k p jj _ hi hj hf hs R2 p2 f2
   simp(disch:=first|omega|simp only[Wd]<;>omega|with_unfolding_all rfl)only[Wz]
   exact dK j r q' h2 i k p jj am hr hi hj hf hs R2 p2 ((gH.of_le bu).trans f2 fun _ _ x=>x)
theorem Az (t:iZ a h rt rp rl c vr aG R B) (g:lK R) (hlo:h.lo≤h.nx) (la:a.nx≤h.nx) (ids:∀(j:Nat) (r:RB),R[j]? = some r→∀k∈r.K,∀p∈k.Q,∃n:Nat,p.id=(n:Int)∧B[n]? = some true) (d:Int) (κ:KQ)
  (qz:∀h',(∀r∈R,∀k∈r.K,bq k.Q d=none)→Le h h'→κ (.tuple ⟨[.slice none 0 0,.int .i64 5]⟩) h')
  (dK:∀(j:Nat) (r:RB) vi v' K' h' (i:Nat) (k:HE) (p:R5) (n:Nat),R[j]? = some r→r.K[i]? = some k→bq k.Q d=some p→d=(n:Int)→B[n]? = some true→sR r.K K' i k k.w (bP (cF (k.Q.filter fun r=>!aV d r)+1) (k.Q.filter fun r=>!aV d r)).1→iz a h' r.rb rp aG v' K'→bT h' rp rl (B.set n false)→gH (SK r.rb rl r.v) h h'→jB h r.v v'→
   gV h h' vi (bP (cF (k.Q.filter fun r=>!aV d r)+1) (k.Q.filter fun r=>!aV d r)).2→κ (.tuple ⟨[vi,.int .i64 0]⟩) h') :
  CallW Tryz.prog 77 [.pointer (some ⟨rt,0,none⟩),.int .i64 d] h κ:=by
 refine aq mixed ?_
 rw[aad]
 refine yQ t g hlo d _ ?_ ?_
 ·intro h1 hn bu
  simp(disch:=first|omega|simp only[Wd]<;>omega|with_unfolding_all rfl)only[Wz,pW]
  exact qz h1 hn bu
 ·intro h1 j r k0 p0 hr GI d_ bu
  have n1:=bu.nx
  have l1:=bu.lo
  have t1:=t.le bu
  have oq:=List.mem_of_getElem? hr
  have hl:=g.len r oq
  simp(disch:=first|omega|simp only[Wd]<;>omega|with_unfolding_all rfl)only[Wz,pX]
  refine KZ (t1.bk r oq) t1.bM (by omega) (by omega) (by omega) (g.good r oq) (ids j r hr) d _ ?_ ?_
  ·intro h2 hn; rw[hn k0 GI] at d_; cases d_
  ·intro vi v' K' h2 i k p n hi hf hid hb en R2 p2 f2 nb o2
   simp(disch:=first|omega|simp only[Wd]<;>omega|with_unfolding_all rfl)only[Wz]
   exact dK j r vi v' K' h2 i k p n hr hi hf hid hb en R2 p2 ((gH.of_le bu).trans f2 fun _ _ x=>x) (nb.up n1) (cU.base o2 n1)
theorem mD (t:iZ a h rt rp rl c vr aG R B) (g:lK R) (hlo:h.lo≤h.nx) (la:a.nx≤h.nx) (ids:∀(j:Nat) (r:RB),R[j]? = some r→∀k∈r.K,∀p∈k.Q,∃n:Nat,p.id=(n:Int)∧B[n]? = some true) (d:Int) (κ:KQ)
  (qz:∀h',(∀r∈R,∀k∈r.K,bq k.Q d=none)→Le h h'→κ (.tuple ⟨[.slice none 0 0,.int .i64 5]⟩) h')
  (sI:∀h' (j:Nat) (r:RB) k p,R[j]? = some r→k∈r.K→bq k.Q d=some p→¬0<p.s→Le h h'→κ (.tuple ⟨[.slice none 0 0,.int .i64 7]⟩) h')
  (dK:∀(j:Nat) (r:RB) vi v' K' h' (i:Nat) (k:HE) (p:R5) (n:Nat),R[j]? = some r→r.K[i]? = some k→bq k.Q d=some p→0<p.s→p.m=0→d=(n:Int)→B[n]? = some true→sR r.K K' i k k.w (bP (cF (k.Q.filter fun r=>!aV d r)+1) (k.Q.filter fun r=>!aV d r)).1→iz a h' r.rb rp aG v' K'→bT h' rp rl (B.set n false)→gH (SK r.rb rl r.v) h h'→jB h r.v v'→
   gV h h' vi (bP (cF (k.Q.filter fun r=>!aV d r)+1) (k.Q.filter fun r=>!aV d r)).2→κ (.tuple ⟨[vi,.int .i64 0]⟩) h')
  (fF:∀(j:Nat) (r:RB) vi v' K' h' (i:Nat) (k:HE) (p:R5) (jj:Nat),R[j]? = some r→r.K[i]? = some k→k.Q[jj]? = some p→bq k.Q d=some p→0<p.s→p.m≠0→sR r.K K' i k k.w (bP (cF (k.Q.set jj (dZ p))+1) (k.Q.set jj (dZ p))).1→iz a h' r.rb rp aG v' K'→bT h' rp rl B→gH (SK r.rb rl r.v) h h'→jB h r.v v'→
   gV h h' vi (bP (cF (k.Q.set jj (dZ p))+1) (k.Q.set jj (dZ p))).2→κ (.tuple ⟨[vi,.int .i64 0]⟩) h') :
  CallW Tryz.prog 79 [.pointer (some ⟨rt,0,none⟩),.int .i64 d] h κ:=by
 refine aq mixed ?_
 rw[aaf]
 refine yQ t g hlo d _ ?_ ?_
 ·intro h1 hn bu
  simp(disch:=first|omega|simp only[Wd]<;>omega|with_unfolding_all rfl)only[Wz,pW]
  exact qz h1 hn bu
 ·intro h1 j r k0 p0 hr GI d_ bu
  have n1:=bu.nx
  have l1:=bu.lo
  have t1:=t.le bu
  have oq:=List.mem_of_getElem? hr
  have hl:=g.len r oq
  simp(disch:=first|omega|simp only[Wd]<;>omega|with_unfolding_all rfl)only[Wz,pX]
  refine ET (t1.bk r oq) t1.bM (by omega) (by omega) (by omega) (g.good r oq) (ids j r hr) d _ ?_ ?_ ?_ ?_
  ·intro h2 hn; rw[hn k0 GI] at d_; cases d_
  ·intro h2 k p hk hf hs aZ
   simp(disch:=first|omega|simp only[Wd]<;>omega|with_unfolding_all rfl)only[Wz]
   exact sI h2 j r k p hr hk hf hs (bu.trans aZ)
  ·intro vi v' K' h2 i k p n hi hf hs hm hid hb en R2 p2 f2 nb o2
   simp(disch:=first|omega|simp only[Wd]<;>omega|with_unfolding_all rfl)only[Wz]
   exact dK j r vi v' K' h2 i k p n hr hi hf hs hm hid hb en R2 p2 ((gH.of_le bu).trans f2 fun _ _ x=>x) (nb.up n1) (cU.base o2 n1)
  ·intro vi v' K' h2 i k p jj hi hj hf hs hm en R2 p2 f2 nb o2
   simp(disch:=first|omega|simp only[Wd]<;>omega|with_unfolding_all rfl)only[Wz]
   exact fF j r vi v' K' h2 i k p jj hr hi hj hf hs hm en R2 p2 ((gH.of_le bu).trans f2 fun _ _ x=>x) (nb.up n1) (cU.base o2 n1)
theorem s8 (t:iZ a h rt rp rl c vr aG R B) (g:lK R) (hlo:h.lo≤h.nx) (la:a.nx≤h.nx) (d x:Int) (κ:KQ)
  (qz:∀h',(∀r∈R,∀k∈r.K,bq k.Q d=none)→Le h h'→κ (.int .i64 5) h')
  (wY:∀h' (j:Nat) (r:RB) k p,R[j]? = some r→k∈r.K→bq k.Q d=some p→(∃o∈k.Q,o.id≠d∧o.x=x)→Le h h'→κ (.int .i64 4) h')
  (sI:∀h' (j:Nat) (r:RB) k p,R[j]? = some r→k∈r.K→bq k.Q d=some p→(∀o∈k.Q,o.id≠d→o.x≠x)→0<p.s→Le h h'→κ (.int .i64 7) h')
  (dK:∀(j:Nat) (r:RB) q' h' (i:Nat) (k:HE) (p:R5) (jj:Nat),R[j]? = some r→r.K[i]? = some k→k.Q[jj]? = some p→bq k.Q d=some p→(∀o∈k.Q,o.id≠d→o.x≠x)→¬0<p.s→iz a h' r.rb rp aG r.v (r.K.set i ⟨k.t,k.r,0,0,q',k.w,k.Q.set jj (jh p x)⟩)→bT h' rp rl B→gH (SK r.rb rl r.v) h h'→κ (.int .i64 0) h') :
  CallW Tryz.prog 80 [.pointer (some ⟨rt,0,none⟩),.int .i64 d,.int .i64 x] h κ:=by
 refine aq mixed ?_
 rw[aag]
 refine yQ t g hlo d _ ?_ ?_
 ·intro h1 hn bu
  simp(disch:=first|omega|simp only[Wd]<;>omega|with_unfolding_all rfl)only[Wz,pW]
  exact qz h1 hn bu
 ·intro h1 j r k0 p0 hr GI d_ bu
  have n1:=bu.nx
  have l1:=bu.lo
  have t1:=t.le bu
  have oq:=List.mem_of_getElem? hr
  have hl:=g.len r oq
  simp(disch:=first|omega|simp only[Wd]<;>omega|with_unfolding_all rfl)only[Wz,pX]
  refine OI (t1.bk r oq) t1.bM (by omega) (by omega) (by omega) (g.good r oq) d x _ ?_ ?_ ?_ ?_
  ·intro h2 hn; rw[hn k0 GI] at d_; cases d_
  ·intro h2 k p hk hf hx aZ
   exact wY h2 j r k p hr hk hf hx (bu.trans aZ)
  ·intro h2 k p hk hf hx hs aZ
   exact sI h2 j r k p hr hk hf hx hs (bu.trans aZ)
  ·intro q' h2 i k p jj hi hj hf hx hs R2 p2 f2
   exact dK j r q' h2 i k p jj hr hi hj hf hx hs R2 p2 ((gH.of_le bu).trans f2 fun _ _ x=>x)
theorem acg (t:iZ a h rt rp rl c vr aG R B) {x y:Int} (hn:¬dY x y c.S<0):∃(k:Nat) (r:RB),dY x y c.S=(k:Int)∧R[k]? = some r:=by
 have hr:=yI (t:=x) (r:=y) (s:=c.S) (by omega)
 have hS:=t.cS
 refine ⟨(dY x y c.S).toNat,R[(dY x y c.S).toNat]'(by omega),by omega,List.getElem?_eq_getElem _⟩
theorem s9 (t:iZ a h rt rp rl c vr aG R B) (g:lK R) (hlo:h.lo≤h.nx) (la:a.nx≤h.nx) (hw:∀r∈R,∀k∈r.K,k.w≤100000) (ids:∀(j:Nat) (r:RB),R[j]? = some r→∀k∈r.K,∀p∈k.Q,∃n:Nat,p.id=(n:Int)∧B[n]? = some true) (x y z m:Int) (κ:KQ)
  (ou:∀h',dY x y c.S<0→Le h h'→κ (.tuple ⟨[.int .i64 0,.bool false,.int .i64 2]⟩) h')
  (hk2:∀h',br m=false→Le h h'→κ (.tuple ⟨[.int .i64 0,.bool false,.int .i64 2]⟩) h')
  (wY:∀h' (j:Nat) (r:RB) k p,R[j]? = some r→dY x y c.S=(j:Int)→br m=true→k∈r.K→x=k.t→y=k.r→p∈k.Q→p.x=z→Le h h'→κ (.tuple ⟨[.int .i64 0,.bool false,.int .i64 4]⟩) h')
  (KD:∀h' (j:Nat) (r:RB),R[j]? = some r→dY x y c.S=(j:Int)→br m=true→(∀k∈r.K,x=k.t→y=k.r→∀p∈k.Q,p.x≠z)→(B.length≤(eW B).length∨((∀k∈r.K,¬(x=k.t∧y=k.r))∧aG≤r.K.length))→Le h h'→κ (.tuple ⟨[.int .i64 0,.bool false,.int .i64 8]⟩) h')
  (Ck:∀(j:Nat) (r:RB) (n i:Nat) k q' v' h',R[j]? = some r→dY x y c.S=(j:Int)→br m=true→(∀k∈r.K,x=k.t→y=k.r→∀p∈k.Q,p.x≠z)→B[n]? = some false→(∀k,k<n→B[k]? = some true)→r.K[i]? = some k→k.t=x→k.r=y→
   iz a h' r.rb rp aG v' (r.K.set i ⟨x,y,0,0,q',(cv k.Q k.w n z m).2.1,k.Q++[(cv k.Q k.w n z m).1]⟩)→bT h' rp rl (B.set n true)→gH (SK r.rb rl r.v) h h'→jB h r.v v'→κ (.tuple ⟨[.int .i64 (n:Int),.bool (cv k.Q k.w n z m).2.2,.int .i64 0]⟩) h')
  (hkN:∀(j:Nat) (r:RB) (n i:Nat) q' v' h',R[j]? = some r→dY x y c.S=(j:Int)→br m=true→(∀k∈r.K,¬(x=k.t∧y=k.r))→r.K.length<aG→B[n]? = some false→(∀k,k<n→B[k]? = some true)→(∀(j:Nat) (k:HE),j<i→r.K[j]? = some k→fH (a_ k) (x,y))→(∀(j:Nat) (k:HE),i≤j→r.K[j]? = some k→fH (x,y) (a_ k))→
   iz a h' r.rb rp aG v' (r.K.take i++⟨x,y,0,0,q',(cv [] 0 n z m).2.1,[]++[(cv [] 0 n z m).1]⟩::r.K.drop i)→bT h' rp rl (B.set n true)→gH (SK r.rb rl r.v) h h'→jB h r.v v'→κ (.tuple ⟨[.int .i64 (n:Int),.bool (cv [] 0 n z m).2.2,.int .i64 0]⟩) h') :
  CallW Tryz.prog 81 [.pointer (some ⟨rt,0,none⟩),dz x y,.int .i64 z,.int .i64 m] h κ:=by
 refine aq mixed ?_
 rw[aah]
 simp(disch:=first|omega|simp only[Wd]<;>omega|with_unfolding_all rfl)only[Wz,dz]
 obtain ⟨hA,az⟩:∃hA:Heap,hA=⟨h.nx+1,(h.bl.bf (h.nx) (af [.int .i64 x,.int .i64 y] 24 false)),h.lo⟩:=⟨_,rfl⟩
 have aH:Le h hA:=by subst az; exact ((Le.refl h).new _)
 have g1:hA.bl.get (h.nx)=some (af [.int .i64 x,.int .i64 y] 24 false):=by subst az; exact T.aa _ _ _
 have dF:hA.nx=h.nx+1:=by subst az; rfl
 have dG:hA.lo=h.lo:=by subst az; rfl
 rw[←az]
 clear az
 refine rI (t.le aH) (by omega) x y _ ?_
 intro h1 bu
 have pR:=bu.nx
 have pS:=bu.lo
 have g1:=(bu.get _ (by omega)).trans g1
 have sQ:=aH.trans bu
 by_cases hneg:dY x y c.S<0
 ·simp(disch:=first|omega|simp only[Wd]<;>omega|with_unfolding_all rfl)only[Wz,aM hneg]
  exact ou h1 hneg sQ
 obtain ⟨j,r,hst,hr⟩:=acg t hneg
 have oq:=List.mem_of_getElem? hr
 have hl:=g.len r oq
 have t1:=t.le sQ
 have c1:=t1.cell
 obtain ⟨b,o,hb,dM,dg⟩:=Pb t.sl j hr
 have L1:=dg h1 sQ
 rw[hst]
 simp(disch:=first|omega|simp only[Wd]<;>omega|with_unfolding_all rfl)only[Wz,bL (show (0:Int)≤(j:Int) by omega),IM,aU,c1,dM,L1,g1]
 have n01:=sQ.nx
 refine Rz (t1.bk r oq) t1.bM (by omega) (by omega) (by omega) (g.good r oq) (g.qB r oq) (hw r oq) (ids j r hr) x y z m _ ?_ ?_ ?_ ?_ ?_
 ·intro h2 am aZ
  simp(disch:=first|omega|simp only[Wd]<;>omega|with_unfolding_all rfl)only[Wz]
  exact hk2 h2 am (sQ.trans aZ)
 ·intro h2 k p am hk hx hy hp hz aZ
  simp(disch:=first|omega|simp only[Wd]<;>omega|with_unfolding_all rfl)only[Wz]
  exact wY h2 j r k p hr hst am hk hx hy hp hz (sQ.trans aZ)
 ·intro h2 am hno hf aZ
  simp(disch:=first|omega|simp only[Wd]<;>omega|with_unfolding_all rfl)only[Wz]
  exact KD h2 j r hr hst am hno hf (sQ.trans aZ)
 ·intro n i k q' v' h2 am hno hb rA hi hx hy R2 p2 f2 nb
  simp(disch:=first|omega|simp only[Wd]<;>omega|with_unfolding_all rfl)only[Wz]
  exact Ck j r n i k q' v' h2 hr hst am hno hb rA hi hx hy R2 p2 ((gH.of_le sQ).trans f2 fun _ _ x=>x) (nb.up n01)
 ·intro n i q' v' h2 am hno hlt hb rA h3 h4 R2 p2 f2 nb
  simp(disch:=first|omega|simp only[Wd]<;>omega|with_unfolding_all rfl)only[Wz]
  exact hkN j r n i q' v' h2 hr hst am hno hlt hb rA h3 h4 R2 p2 ((gH.of_le sQ).trans f2 fun _ _ x=>x) (nb.up n01)
end
end Go.Proofs
