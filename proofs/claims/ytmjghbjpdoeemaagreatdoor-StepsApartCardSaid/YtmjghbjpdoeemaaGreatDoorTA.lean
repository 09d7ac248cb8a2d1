/-
  PROVED HERE: a part of the proof (S1, S2, S3, S4).
-/
import Derived.Test.YtmjghbjpdoeemaaGreatDoorNA
set_option linter.unusedVariables false
set_option linter.unusedSimpArgs false
set_option maxRecDepth 100000
namespace Go.Proofs
open Go.Vai Go.Clashes
structure Lone (Ts:List TB) (H X:Int→Int→Int):Prop where
 one:∀b∈Ts,∀e∈b.M,∃id,e.Q=[⟨id,X e.t e.r,H e.t e.r,H e.t e.r,0⟩]∧H e.t e.r≠0
 all:∀t r,H t r≠0→∃b∈Ts,∃e∈b.M,e.t=t∧e.r=r
def gF (H:Int→Int→Int) (t r m:Int):Int→Int→Int:=fun t' r'=>if t'=t∧r'=r then m else H t' r'
theorem xK (H:Int→Int→Int) (t r m:Int):gF H t r m t r=m:=by simp[gF]
theorem lI (H:Int→Int→Int) {t r m t' r':Int} (h:¬(t'=t∧r'=r)):gF H t r m t' r'=H t' r':=by simp[gF,h]
section
variable {h:Heap} {tb bw bp bl:Nat} {c:fW} {vb:Value} {aH N:Nat} {Ts:List TB} {W:List IE} {wc:Nat} {F:List Int} {B:List Bool} {H X:Int→Int→Int}
theorem Lone.settle (L:Lone Ts H X) (s:jx h tb bw bp bl c vb aH N Ts W wc F B) {k:Nat} {b:TB} (hk:Ts[k]? = some b) {t r w m id:Int} (hst:ck t r c.S=(k:Int)) (hm:m≠0) {M':List HE} (cl:Nat) (st:dX b.M M' t r w [⟨id,X t r,m,m,0⟩]) :
  Lone (Ts.set k ⟨b.bb,b.bm,M',cl⟩) (gF H t r m) X:=by
 obtain ⟨e0,h1,h2,h3,h4,hp⟩:=st.put (by simp)
 have hil:=(List.getElem?_eq_some_iff.1 hk).1
 have hb:=List.mem_of_getElem? hk
 constructor
 ·intro b' hb' e he
  obtain ⟨j,hj⟩:=List.getElem?_of_mem hb'
  rcases ew hj with ⟨rfl,rfl⟩ | ⟨hne,hj⟩
  ·rcases List.mem_append.1 (hp.mem_iff.1 he) with he | he
   ·obtain ⟨he,hn⟩:=List.mem_filter.1 he
    have hn:=nV.1 hn
    rw[lI H (fun e=>hn ⟨e.1.symm,e.2.symm⟩)]
    exact L.one b hb e he
   ·rw[List.mem_singleton] at he; subst he
    rw[h1,h2,xK]
    exact ⟨id,h4,hm⟩
  ·have hs:=s.nm j b' hj e he
   rw[lI H (fun e1=>by rw[e1.1,e1.2,hst] at hs; omega)]
   exact L.one b' (List.mem_of_getElem? hj) e he
 ·intro t' r' hH
  by_cases hn:t'=t∧r'=r
  ·obtain ⟨rfl,rfl⟩:=hn
   exact ⟨_,List.mem_of_getElem? (i:=k) (by rw[List.getElem?_set,if_pos rfl,if_pos hil]),e0,hp.mem_iff.2 (List.mem_append_right _ (.head _)),h1,h2⟩
  ·rw[lI H hn] at hH
   obtain ⟨b1,Kn,e1,zj,e2,e3⟩:=L.all t' r' hH
   obtain ⟨j,hj⟩:=List.getElem?_of_mem Kn
   by_cases hjk:k=j
   ·subst hjk
    rw[hk] at hj; cases hj
    exact ⟨_,List.mem_of_getElem? (i:=k) (by rw[List.getElem?_set,if_pos rfl,if_pos hil]),e1,hp.mem_iff.2 (List.mem_append_left _ (List.mem_filter.2 ⟨zj,nV.2 fun e=>hn ⟨e2.symm.trans e.1.symm,e3.symm.trans e.2.symm⟩⟩)),e2,e3⟩
   ·exact ⟨b1,List.mem_of_getElem? (i:=j) (by rw[List.getElem?_set,if_neg hjk]; exact hj),e1,zj,e2,e3⟩
theorem Lone.gone (L:Lone Ts H X) (s:jx h tb bw bp bl c vb aH N Ts W wc F B) {k:Nat} {b:TB} (hk:Ts[k]? = some b) {t r w:Int} (hst:ck t r c.S=(k:Int)) {M':List HE} (cl:Nat) (st:dX b.M M' t r w []) :
  Lone (Ts.set k ⟨b.bb,b.bm,M',cl⟩) (gF H t r 0) X:=by
 have hM:=st.gone rfl
 have hil:=(List.getElem?_eq_some_iff.1 hk).1
 have hb:=List.mem_of_getElem? hk
 subst hM
 constructor
 ·intro b' hb' e he
  obtain ⟨j,hj⟩:=List.getElem?_of_mem hb'
  rcases ew hj with ⟨rfl,rfl⟩ | ⟨hne,hj⟩
  ·obtain ⟨he,hn⟩:=List.mem_filter.1 he
   have hn:=nV.1 hn
   rw[lI H (fun e=>hn ⟨e.1.symm,e.2.symm⟩)]
   exact L.one b hb e he
  ·have hs:=s.nm j b' hj e he
   rw[lI H (fun e1=>by rw[e1.1,e1.2,hst] at hs; omega)]
   exact L.one b' (List.mem_of_getElem? hj) e he
 ·intro t' r' hH
  by_cases hn:t'=t∧r'=r
  ·obtain ⟨rfl,rfl⟩:=hn
   rw[xK] at hH; exact absurd rfl hH
  ·rw[lI H hn] at hH
   obtain ⟨b1,Kn,e1,zj,e2,e3⟩:=L.all t' r' hH
   obtain ⟨j,hj⟩:=List.getElem?_of_mem Kn
   by_cases hjk:k=j
   ·subst hjk
    rw[hk] at hj; cases hj
    exact ⟨_,List.mem_of_getElem? (i:=k) (by rw[List.getElem?_set,if_pos rfl,if_pos hil]),e1,List.mem_filter.2 ⟨zj,nV.2 fun e=>hn ⟨e2.symm.trans e.1.symm,e3.symm.trans e.2.symm⟩⟩,e2,e3⟩
   ·exact ⟨b1,List.mem_of_getElem? (i:=j) (by rw[List.getElem?_set,if_neg hjk]; exact hj),e1,zj,e2,e3⟩
theorem Lone.at (L:Lone Ts H X) (s:jx h tb bw bp bl c vb aH N Ts W wc F B) {t r:Int} (hH:H t r≠0):∃(k:Nat) (b:TB) (e:HE) (id:Int),Ts[k]? = some b∧ck t r c.S=(k:Int)∧e∈b.M∧e.t=t∧e.r=r∧e.Q=[⟨id,X t r,H t r,H t r,0⟩]:=by
 obtain ⟨b,hb,e,he,rfl,rfl⟩:=L.all t r hH
 obtain ⟨k,hk⟩:=List.getElem?_of_mem hb
 obtain ⟨id,hQ,_⟩:=L.one b hb e he
 exact ⟨k,b,e,id,hk,s.nm k b hk e he,he,rfl,rfl,hQ⟩
theorem Lone.no (L:Lone Ts H X) {t r:Int} (hH:H t r=0):∀b∈Ts,∀e∈b.M,¬(t=e.t∧r=e.r):=by
 rintro b hb e he ⟨rfl,rfl⟩
 obtain ⟨id,_,hn⟩:=L.one b hb e he
 exact hn hH
theorem jx.uniq (s:jx h tb bw bp bl c vb aH N Ts W wc F B) {b b':TB} (hb:b∈Ts) (hb':b'∈Ts) {e e':HE} (he:e∈b.M) (he':e'∈b'.M) {p p':R5} (hp:p∈e.Q) (hp':p'∈e'.Q) (hid:p.id=p'.id):b=b'∧e=e':=by
 obtain ⟨k,hk⟩:=List.getElem?_of_mem hb
 obtain ⟨j,hj⟩:=List.getElem?_of_mem hb'
 have h1:=s.wh k b hk e he p hp
 have h2:=s.wh j b' hj e' he' p' hp'
 rw[hid,h2] at h1
 have:j=k:=by have:=Option.some.inj h1; omega
 subst this
 rw[hk] at hj; cases hj
 exact ⟨rfl,(s.JL hk).uniq he he' hp hp' hid⟩
theorem Lone.km (L:Lone Ts H X) (s:jx h tb bw bp bl c vb aH N Ts W wc F B) {t r:Int} (hH:H t r≠0):kn (H t r)=true:=by
 obtain ⟨k,b,e,id,hk,_,he,_,_,hQ⟩:=L.at s hH
 have:=((s.is.bk b (List.mem_of_getElem? hk)).good e he).vq.right ⟨id,X t r,H t r,H t r,0⟩ (by rw[hQ]; exact .head _)
 exact this.km
end
theorem JV {id x m:Int}:iQ [] 0 id x m=(⟨id,x,m,m,0⟩,0,true):=rfl
theorem Du {id x m w:Int} (hm:m≠0):dD [⟨id,x,m,w,0⟩]=none:=by
 simp[dD,best,rj,xk,hm,List.findIdx?,List.findIdx?.go]
theorem xL {id x m w:Int} (hm:m≠0):de (gj [⟨id,x,m,w,0⟩]+1) [⟨id,x,m,w,0⟩]=([⟨id,x,m,w,0⟩],[]):=tM (uE (Du hm)) _
theorem B2 {id x m w m' W:Int}:(gR [⟨id,x,m,w,0⟩] W ⟨id,x,m,w,0⟩ m')=(⟨id,x,cV m m',cV m m',0⟩,W,true):=by
 unfold gR
 rw[if_pos]
 simp[fM,rj]
theorem je {id d x m w s:Int}:bT [⟨id,x,m,w,s⟩] d=if id=d then some ⟨id,x,m,w,s⟩ else none:=by
 simp only[bT,bP,List.find?_cons,List.find?_nil]
 split<;>simp_all
theorem dX.cnt {M M':List HE} {clock:Nat} (o:eE M clock) {t r w:Int} {Q:List R5} (st:dX M M' t r w Q):M'.length≤M.length+1:=by
 have:=st.len
 have h2:=List.length_filter_le (fun x=>!qM t r x) M
 omega
structure cF where
 k:Int
 x:Int
 t:Int
 r:Int
 m:Int
 w:Int
 to:Int
def fE (a:cF):List Value:=[.int .i64 a.k,.int .i64 a.x,.int .i64 a.t,.int .i64 a.r,.int .i64 a.m,.int .i64 a.w,.int .i64 a.to]
theorem encK_len (a:cF):(fE a).length=7:=rfl
theorem JW (a:cF):(fE a).all dR=true:=rfl
def cF.own (a:cF) (x:Int):cF:=⟨a.k,x,a.t,a.r,a.m,a.w,a.to⟩
def qQ (a:cF):Bool:=decide (bz a.t a.r≠-1) && (if a.k=1 then kn a.m && decide (a.m≠0) && decide (0≤a.w) else if a.k=3 then decide (a.to≠a.x) else decide (a.k=2))
def gT (H:Int→Int→Int) (a:cF):Int:=if a.k=1 then 1 else if H a.t a.r=0 then 6 else 1
def p8 (H:Int→Int→Int) (a:cF):Int→Int→Int:=if a.k=1 then gF H a.t a.r (cV (H a.t a.r) a.m) else gF H a.t a.r 0
def iW:(Int→Int→Int)→List cF→List Int
 | _,[]=>[]
 | H,a::l=>gT H a::iW (p8 H a) l
theorem nE:∀(H:Int→Int→Int) (l:List cF),(iW H l).length=l.length
 | _,[]=>rfl
 | H,a::l=>by simp[iW,nE _ l]
def iM (k:Nat) (a:cF):Bool:=decide (a.k≠3) && decide (ck a.t a.r 2=(k:Int)) && qQ (a.own (k+1:Nat))
def oM (ty:TypeId) (op:Bool):Prop:=ty=147∨ty=182∨ty=220∨ty=81∨ty=83∨ty=225∨ty=4∨(ty=3∧op=true)
theorem dg.only {h h':Heap} {bp bl:Nat} {F:List Int} {B:List Bool} (p:dg h bp bl F B) (hn:h.nx≤h'.nx) (hl:h'.lo=h.lo) (hc:∀c vs ty op,c<h.nx→oM ty op→(ty=3→FB h bp c)→h.bl.get c=some (aa vs ty op)→h'.bl.get c=h.bl.get c):dg h' bp bl F B:=by
 have pl:=p.lt
 have fl:=p.fr.lt
 obtain ⟨fs,hg,hpt⟩:=p.fr.cell
 refine ⟨⟨by omega,by rw[hl]; exact p.fr.lo,fs,(hc _ _ _ _ fl (by simp[oM]) (fun e=>absurd e (by decide)) hg).trans hg,?_⟩,by omega,by rw[hl]; exact p.lo,(hc _ _ _ _ pl (by simp[oM]) (fun e=>absurd e (by decide)) p.cell).trans p.cell,p.ok,p.small⟩
 rcases hpt with e | ⟨b,G,e,k1,k2,k3,k4⟩
 ·exact .inl e
 ·exact .inr ⟨b,G,e,by omega,by omega,(hc _ _ _ _ k1 (by simp[oM]) (fun _=>⟨_,_,_,by rw[hg,e]⟩) k3).trans k3,k4⟩
theorem aV.only {h h':Heap} {bb bm bp bl most clock:Nat} {M:List HE} {F:List Int} {B:List Bool} (s:aV h bb bm bp bl most M clock F B) (hn:h.nx≤h'.nx) (hl:h'.lo=h.lo) (hc:∀c vs ty op,c<h.nx→oM ty op→(ty=3→FB h bp c)→h.bl.get c=some (aa vs ty op)→h'.bl.get c=h.bl.get c) (hm:h'.bl.get bm=h.bl.get bm):aV h' bb bm bp bl most M clock F B:=by
 have sb:=s.Ky
 have sm:=s.rz
 refine ⟨by omega,by omega,by rw[hl]; exact s.Me,(hc _ _ _ _ sb (by simp[oM]) (fun e=>absurd e (by decide)) s.fV).trans s.fV,hm.trans s.eG,s.ok,fun e he=>?_,s.good,s.dh.only hn hl hc,s.ne⟩
 have a:=s.aH e he
 have al:=a.lt
 exact ⟨by omega,(hc _ _ _ _ al (by simp[oM]) (fun e=>absurd e (by decide)) a.get).trans a.get,a.qv.frame hn fun c vs op h1 hg=>hc c vs _ op h1 (by simp[oM]) (fun e=>absurd e (by decide)) hg⟩
section
variable {h h':Heap} {tb bw bp bl:Nat} {c:fW} {vb:Value} {aH N:Nat} {Ts:List TB} {W:List IE} {wc:Nat} {F:List Int} {B:List Bool}
theorem dQ.only (s:dQ h tb bw bp bl c vb aH Ts W wc F B) (hn:h.nx≤h'.nx) (hl:h'.lo=h.lo) (hc:∀c vs ty op,c<h.nx→oM ty op→(ty=3→FB h bp c)→h.bl.get c=some (aa vs ty op)→h'.bl.get c=h.bl.get c) (hw:h'.bl.get bw=h.bl.get bw) (hm:∀b∈Ts,h'.bl.get b.bm=h.bl.get b.bm):dQ h' tb bw bp bl c vb aH Ts W wc F B:=by
 have h1:=s.SF
 have h2:=s.zp
 have k1:=Sl.Dr (h':=h') s.sl s.ty hn fun c vs op h1 hg=>hc c vs _ op h1 (by simp[oM]) (fun e=>absurd e (by decide)) hg
 exact ⟨by omega,(hc _ _ _ _ h1 (by simp[oM]) (fun e=>absurd e (by decide)) s.kR).trans s.kR,k1.1,k1.2,by omega,by rw[hl]; exact s.low,hw.trans s.kS,fun b hb=>(s.bk b hb).only hn hl hc (hm b hb),s.y_,s.SG,s.dh.only hn hl hc,s.cS,s.s1,s.hd⟩
theorem jx.only (s:jx h tb bw bp bl c vb aH N Ts W wc F B) (hn:h.nx≤h'.nx) (hl:h'.lo=h.lo) (hc:∀c vs ty op,c<h.nx→oM ty op→(ty=3→FB h bp c)→h.bl.get c=some (aa vs ty op)→h'.bl.get c=h.bl.get c) (hw:h'.bl.get bw=h.bl.get bw) (hm:∀b∈Ts,h'.bl.get b.bm=h.bl.get b.bm):jx h' tb bw bp bl c vb aH N Ts W wc F B:=
 ⟨s.is.only hn hl hc hw hm,s.ids,s.wh,s.nm,s.wb,s.len,s.cR,s.cH⟩
theorem jx.put (s:jx h tb bw bp bl c vb aH N Ts W wc F B) {d:Nat} (o:bC) (hd:∀vs ty op,oM ty op→h.bl.get d≠some (aa vs ty op)) (hw:d≠bw) (hm:∀b∈Ts,d≠b.bm):jx ⟨h.nx,h.bl.aW d o,h.lo⟩ tb bw bp bl c vb aH N Ts W wc F B:=
 s.only (Nat.le_refl _) rfl (fun c vs ty op _ ht _ hg=>T.ai _ _ (by rintro rfl; exact hd vs ty op ht hg)) (T.ai _ _ hw) fun b hb=>T.ai _ _ (hm b hb)
end
def dy (o:Option Nat):Value:=match o with | some a=>.pointer (some ⟨a,0,none⟩) | none=>.pointer none
structure CR where
 ca:Nat
 a:cF
 th:Int
 no:Int
 st:Int
 ph:Nat
 wt:Bool
 id:Int
 cs:Int
 out:Int
def Oh (ph:Nat):FuncId:=if ph=1 then 46 else if ph=2 then 76 else if ph=3 then 117 else if ph=4 then 217 else 218
def xM (ph ca:Nat):Value:=.func (.func (Oh ph)) ⟨[.pointer (some ⟨ca,0,none⟩)]⟩ ⟨[]⟩
noncomputable def cw (wb:Nat) (c:CR):bC:=aa [.int .i64 c.a.k,.int .i64 c.a.x,.int .i64 c.a.t,.int .i64 c.a.r,.int .i64 c.a.m,.int .i64 c.a.w,.int .i64 c.a.to,.pointer (some ⟨wb,0,none⟩),.int .i64 c.th,.int .i64 c.no,.int .i64 c.st,xM c.ph c.ca,.int .i64 (c.ph:Int),.bool c.wt,.int .i64 c.id,.int .i64 c.cs,.int .i64 c.out,.bool false,.slice none 0 0] 99 false
structure WA where
 wb:Nat
 lb:Nat
 hb:Nat
 pb:Nat
 ib:Nat
 kb:Nat
 cb:Nat
 mb:Nat
 n:Nat
structure RW (h:Heap) (A:WA) (tb:Nat) (cI:List (Option (Nat × Int))) (bits:List Int) (now:Int) (tv:Value) (cs:List (Option CR)) (wm:List IE) (ve:Nat) (begun:Int):Prop where
 zp:A.wb<h.nx∧h.lo≤A.wb
 gw:h.bl.get A.wb=some (aa [.pointer (some ⟨tb,0,none⟩),.pointer (some ⟨A.lb,0,none⟩),.pointer (some ⟨A.pb,0,none⟩),.pointer (some ⟨A.kb,0,none⟩),.slice (some ⟨A.cb,0,none⟩) A.n A.n,.map (some A.mb),.int .i64 begun] 107 false)
 Mr:A.lb<h.nx
 gl:h.bl.get A.lb=some (aa [.slice (some ⟨A.hb,0,none⟩) cI.length cI.length] 179 false)
 RJ:A.hb<h.nx∧h.lo≤A.hb
 gh:h.bl.get A.hb=some (aa (cI.map fun o=>dy (o.map (·.1))) 176 false)
 ho:∀p,some p∈cI→p.1<h.nx∧h.bl.get p.1=some (aa [.int .i64 p.2] 181 false)
 Oc:A.pb<h.nx
 gp:h.bl.get A.pb=some (aa [.slice (some ⟨A.ib,0,none⟩) A.n A.n] 193 false)
 Wf:A.ib<h.nx∧h.lo≤A.ib
 gi:h.bl.get A.ib=some (aa (bits.map fun n=>.int .i64 n) 3 false)
 li:bits.length=A.n
 Wg:A.kb<h.nx∧h.lo≤A.kb
 gk:h.bl.get A.kb=some (aa [.int .i64 now,tv] 169 false)
 Oi:A.cb<h.nx∧h.lo≤A.cb
 gc:h.bl.get A.cb=some (aa (cs.map fun o=>dy (o.map (·.ca))) 96 false)
 lc:cs.length=A.n
 ca:∀c,some c∈cs→c.ca<h.nx∧h.lo≤c.ca∧h.bl.get c.ca=some (cw A.wb c)
 rz:A.mb<h.nx∧h.lo≤A.mb
 gm:h.bl.get A.mb=some (.map (wm.map xF) ve)
 nn:1≤A.n∧A.n≤8
 dc:cs.Pairwise fun o o'=>∀c c',o=some c→o'=some c'→c.ca≠c'.ca
def nK (ty:TypeId) (op:Bool):Prop:=ty=107∨ty=179∨ty=176∨ty=181∨ty=193∨ty=169∨ty=96∨ty=99∨(ty=3∧op=false)
section
variable {h h':Heap} {A:WA} {tb:Nat} {cI:List (Option (Nat × Int))} {bits:List Int} {now:Int} {tv:Value} {cs:List (Option CR)} {wm:List IE} {ve:Nat} {begun:Int}
theorem RW.keep (s:RW h A tb cI bits now tv cs wm ve begun) (hn:h.nx≤h'.nx) (hl:h'.lo=h.lo) (hg:∀d vs ty op,d<h.nx→nK ty op→h.bl.get d=some (aa vs ty op)→h'.bl.get d=h.bl.get d) (hm:h'.bl.get A.mb=h.bl.get A.mb):RW h' A tb cI bits now tv cs wm ve begun:=by
 obtain ⟨⟨a1,a2⟩,a3,b1,b2,⟨c1,c2⟩,c3,c4,d1,d2,⟨e1,e2⟩,e3,e4,⟨f1,f2⟩,f3,⟨g1,g2⟩,g3,g4,g5,⟨i1,i2⟩,i3,i4,i5⟩:=s
 refine ⟨⟨by omega,by omega⟩,(hg _ _ _ _ a1 (by simp[nK]) a3).trans a3,by omega,(hg _ _ _ _ b1 (by simp[nK]) b2).trans b2,⟨by omega,by omega⟩,(hg _ _ _ _ c1 (by simp[nK]) c3).trans c3,fun p hp=>?_,by omega,(hg _ _ _ _ d1 (by simp[nK]) d2).trans d2,⟨by omega,by omega⟩,(hg _ _ _ _ e1 (by simp[nK]) e3).trans e3,e4,⟨by omega,by omega⟩,(hg _ _ _ _ f1 (by simp[nK]) f3).trans f3,⟨by omega,by omega⟩,(hg _ _ _ _ g1 (by simp[nK]) g3).trans g3,g4,fun c hc=>?_,⟨by omega,by omega⟩,hm.trans i3,i4,i5⟩
 ·obtain ⟨k1,k2⟩:=c4 p hp
  exact ⟨by omega,(hg _ _ _ _ k1 (by simp[nK]) k2).trans k2⟩
 ·obtain ⟨k1,k2,k3⟩:=g5 c hc
  exact ⟨by omega,by omega,(hg _ _ _ _ k1 (by simp[nK]) k3).trans k3⟩
theorem RW.le (s:RW h A tb cI bits now tv cs wm ve begun) (l:Le h h'):RW h' A tb cI bits now tv cs wm ve begun:=s.keep l.nx l.lo (fun d _ _ _ hd _ _=>l.get d hd) (l.get _ s.rz.1)
theorem RW.Wh (s:RW h A tb cI bits now tv cs wm ve begun) {bw bp bl:Nat} {c:fW} {vb:Value} {aH:Nat} {Ts:List TB} {W:List IE} {wc:Nat} {F:List Int} {B:List Bool} (t:dQ h tb bw bp bl c vb aH Ts W wc F B) (f:rR Ts bw bp bl h h') (hw:A.mb≠bw) (hm:∀b∈Ts,A.mb≠b.bm):RW h' A tb cI bits now tv cs wm ve begun:=by
 have gm:=s.gm
 obtain ⟨fs,uL,hpt⟩:=t.dh.fr.cell
 have gl:=t.dh.cell
 refine s.keep f.nx f.lo (fun d vs ty op hd hr hg=>?_) (f.get _ s.rz.1 hm hw (by rintro e; rw[e,uL] at gm; exact bB gm.symm) (by rintro e; rw[e,gl] at gm; exact bB gm.symm) fun vs=>by rw[gm]; exact bB)
 rcases hr with e | e | e | e | e | e | e | e | ⟨e,e'⟩<;>subst e
 ·exact f.keep t hd hg (by decide) (by decide) (by decide)
 ·exact f.keep t hd hg (by decide) (by decide) (by decide)
 ·exact f.keep t hd hg (by decide) (by decide) (by decide)
 ·exact f.keep t hd hg (by decide) (by decide) (by decide)
 ·exact f.keep t hd hg (by decide) (by decide) (by decide)
 ·exact f.keep t hd hg (by decide) (by decide) (by decide)
 ·exact f.keep t hd hg (by decide) (by decide) (by decide)
 ·exact f.keep t hd hg (by decide) (by decide) (by decide)
 ·subst e'
  refine f.get d hd (fun b hb=>?_) (by rintro rfl; have:=t.kS; rw[hg] at this; exact bB this.symm) (by rintro rfl; rw[hg] at uL; exact aT (by decide) uL) (by rintro rfl; rw[hg] at gl; exact aT (by decide) gl) fun ws=>by rw[hg]; exact bf
  rintro rfl
  have:=(t.bk b hb).eG
  rw[hg] at this
  exact bB this.symm
end
end Go.Proofs
