/-
  PROVED HERE: a part of the proof (S1, S2, S3, S4, S5, ST1, ST2, ST3, ST4, ST14, ST15, ST16, S7, S8, ST17, S9, S10, S11, S12, S13, N4, U14, U15, U16, U18, N5, N6, S14, S15, S16, S17, S18, S19).
-/
import Derived.Test.YtmjghbjpdoeemaaGreatDoorG6
import Derived.Test.YtmjghbjpdoeemaaGreatDoorRZ
import Derived.Test.YtmjghbjpdoeemaaGreatDoorG4
import Derived.Test.YtmjghbjpdoeemaaGreatDoorG5
set_option linter.unusedVariables false
set_option linter.unusedSimpArgs false
set_option maxRecDepth 100000
set_option maxHeartbeats 4000000
namespace Go.Proofs
open Go.Vai Go.Clashes
structure Lone (Ts:List TB) (H X:Int→Int→Int):Prop where
 one:∀b∈Ts,∀e∈b.M,∃id,e.Q=[⟨id,X e.t e.r,H e.t e.r,H e.t e.r,0⟩]∧H e.t e.r≠0
 all:∀t r,H t r≠0→∃b∈Ts,∃e∈b.M,e.t=t∧e.r=r
def gu (H:Int→Int→Int) (t r m:Int):Int→Int→Int:=fun t' r'=>if t'=t∧r'=r then m else H t' r'
theorem oE (H:Int→Int→Int) (t r m:Int):gu H t r m t r=m:=by simp[gu]
theorem mC (H:Int→Int→Int) {t r m t' r':Int} (h:¬(t'=t∧r'=r)):gu H t r m t' r'=H t' r':=by simp[gu,h]
section
variable {h:Heap} {tb bw bp bl:Nat} {c:dg} {vb:Value} {aH N:Nat} {Ts:List TB} {W:List IE} {wc:Nat} {F:List Int} {B:List Bool} {H X:Int→Int→Int}
theorem Lone.settle (L:Lone Ts H X) (s:gK h tb bw bp bl c vb aH N Ts W wc F B) {k:Nat} {b:TB} (hk:Ts[k]? = some b) {t r w m id:Int} (hst:bT t r c.S=(k:Int)) (hm:m≠0) {M':List HE} (cl:Nat) (st:dN b.M M' t r w [⟨id,X t r,m,m,0⟩]) :
  Lone (Ts.set k ⟨b.bb,b.bm,M',cl⟩) (gu H t r m) X:=by
 obtain ⟨e0,h1,h2,h3,h4,hp⟩:=st.put (by simp)
 have hil:=(List.getElem?_eq_some_iff.1 hk).1
 have hb:=List.mem_of_getElem? hk
 constructor
 ·intro b' hb' e he
  obtain ⟨j,hj⟩:=List.getElem?_of_mem hb'
  rcases dH hj with ⟨rfl,rfl⟩ | ⟨hne,hj⟩
  ·rcases List.mem_append.1 (hp.mem_iff.1 he) with he | he
   ·obtain ⟨he,hn⟩:=List.mem_filter.1 he
    have hn:=o_.1 hn
    rw[mC H (fun e=>hn ⟨e.1.symm,e.2.symm⟩)]
    exact L.one b hb e he
   ·rw[List.mem_singleton] at he; subst he
    rw[h1,h2,oE]
    exact ⟨id,h4,hm⟩
  ·have hs:=s.nm j b' hj e he
   rw[mC H (fun e1=>by rw[e1.1,e1.2,hst] at hs; omega)]
   exact L.one b' (List.mem_of_getElem? hj) e he
 ·intro t' r' hH
  by_cases hn:t'=t∧r'=r
  ·obtain ⟨rfl,rfl⟩:=hn
   exact ⟨_,List.mem_of_getElem? (i:=k) (by rw[List.getElem?_set,if_pos rfl,if_pos hil]),e0,hp.mem_iff.2 (List.mem_append_right _ (.head _)),h1,h2⟩
  ·rw[mC H hn] at hH
   obtain ⟨b1,hb1,e1,tc,e2,e3⟩:=L.all t' r' hH
   obtain ⟨j,hj⟩:=List.getElem?_of_mem hb1
   by_cases hjk:k=j
   ·subst hjk
    rw[hk] at hj; cases hj
    exact ⟨_,List.mem_of_getElem? (i:=k) (by rw[List.getElem?_set,if_pos rfl,if_pos hil]),e1,hp.mem_iff.2 (List.mem_append_left _ (List.mem_filter.2 ⟨tc,o_.2 fun e=>hn ⟨e2.symm.trans e.1.symm,e3.symm.trans e.2.symm⟩⟩)),e2,e3⟩
   ·exact ⟨b1,List.mem_of_getElem? (i:=j) (by rw[List.getElem?_set,if_neg hjk]; exact hj),e1,tc,e2,e3⟩
theorem Lone.gone (L:Lone Ts H X) (s:gK h tb bw bp bl c vb aH N Ts W wc F B) {k:Nat} {b:TB} (hk:Ts[k]? = some b) {t r w:Int} (hst:bT t r c.S=(k:Int)) {M':List HE} (cl:Nat) (st:dN b.M M' t r w []) :
  Lone (Ts.set k ⟨b.bb,b.bm,M',cl⟩) (gu H t r 0) X:=by
 have hM:=st.gone rfl
 have hil:=(List.getElem?_eq_some_iff.1 hk).1
 have hb:=List.mem_of_getElem? hk
 subst hM
 constructor
 ·intro b' hb' e he
  obtain ⟨j,hj⟩:=List.getElem?_of_mem hb'
  rcases dH hj with ⟨rfl,rfl⟩ | ⟨hne,hj⟩
  ·obtain ⟨he,hn⟩:=List.mem_filter.1 he
   have hn:=o_.1 hn
   rw[mC H (fun e=>hn ⟨e.1.symm,e.2.symm⟩)]
   exact L.one b hb e he
  ·have hs:=s.nm j b' hj e he
   rw[mC H (fun e1=>by rw[e1.1,e1.2,hst] at hs; omega)]
   exact L.one b' (List.mem_of_getElem? hj) e he
 ·intro t' r' hH
  by_cases hn:t'=t∧r'=r
  ·obtain ⟨rfl,rfl⟩:=hn
   rw[oE] at hH; exact absurd rfl hH
  ·rw[mC H hn] at hH
   obtain ⟨b1,hb1,e1,tc,e2,e3⟩:=L.all t' r' hH
   obtain ⟨j,hj⟩:=List.getElem?_of_mem hb1
   by_cases hjk:k=j
   ·subst hjk
    rw[hk] at hj; cases hj
    exact ⟨_,List.mem_of_getElem? (i:=k) (by rw[List.getElem?_set,if_pos rfl,if_pos hil]),e1,List.mem_filter.2 ⟨tc,o_.2 fun e=>hn ⟨e2.symm.trans e.1.symm,e3.symm.trans e.2.symm⟩⟩,e2,e3⟩
   ·exact ⟨b1,List.mem_of_getElem? (i:=j) (by rw[List.getElem?_set,if_neg hjk]; exact hj),e1,tc,e2,e3⟩
theorem Lone.at (L:Lone Ts H X) (s:gK h tb bw bp bl c vb aH N Ts W wc F B) {t r:Int} (hH:H t r≠0):∃(k:Nat) (b:TB) (e:HE) (id:Int),Ts[k]? = some b∧bT t r c.S=(k:Int)∧e∈b.M∧e.t=t∧e.r=r∧e.Q=[⟨id,X t r,H t r,H t r,0⟩]:=by
 obtain ⟨b,hb,e,he,rfl,rfl⟩:=L.all t r hH
 obtain ⟨k,hk⟩:=List.getElem?_of_mem hb
 obtain ⟨id,hQ,_⟩:=L.one b hb e he
 exact ⟨k,b,e,id,hk,s.nm k b hk e he,he,rfl,rfl,hQ⟩
theorem Lone.no (L:Lone Ts H X) {t r:Int} (hH:H t r=0):∀b∈Ts,∀e∈b.M,¬(t=e.t∧r=e.r):=by
 rintro b hb e he ⟨rfl,rfl⟩
 obtain ⟨id,_,hn⟩:=L.one b hb e he
 exact hn hH
theorem gK.yA (s:gK h tb bw bp bl c vb aH N Ts W wc F B) {b b':TB} (hb:b∈Ts) (hb':b'∈Ts) {e e':HE} (he:e∈b.M) (he':e'∈b'.M) {p p':R5} (hp:p∈e.Q) (hp':p'∈e'.Q) (hid:p.id=p'.id):b=b'∧e=e':=by
 obtain ⟨k,hk⟩:=List.getElem?_of_mem hb
 obtain ⟨j,hj⟩:=List.getElem?_of_mem hb'
 have h1:=s.wh k b hk e he p hp
 have h2:=s.wh j b' hj e' he' p' hp'
 rw[hid,h2] at h1
 have:j=k:=by have:=Option.some.inj h1; omega
 subst this
 rw[hk] at hj; cases hj
 exact ⟨rfl,(s.Gr hk).uniq he he' hp hp' hid⟩
theorem Lone.km (L:Lone Ts H X) (s:gK h tb bw bp bl c vb aH N Ts W wc F B) {t r:Int} (hH:H t r≠0):kn (H t r)=true:=by
 obtain ⟨k,b,e,id,hk,_,he,_,_,hQ⟩:=L.at s hH
 have:=((s.is.bk b (List.mem_of_getElem? hk)).good e he).vq.right ⟨id,X t r,H t r,H t r,0⟩ (by rw[hQ]; exact .head _)
 exact this.km
end
theorem LX {id x m:Int}:dS [] 0 id x m=(⟨id,x,m,m,0⟩,0,true):=rfl
theorem qj {id x m w:Int} (hm:m≠0):cC [⟨id,x,m,w,0⟩]=none:=by
 simp[cC,best,rN,qQ,hm,List.findIdx?,List.findIdx?.go]
theorem sK {id x m w:Int} (hm:m≠0):cE (eV [⟨id,x,m,w,0⟩]+1) [⟨id,x,m,w,0⟩]=([⟨id,x,m,w,0⟩],[]):=pY (qb (qj hm)) _
theorem C_ {id x m w m' W:Int}:(h_ [⟨id,x,m,w,0⟩] W ⟨id,x,m,w,0⟩ m')=(⟨id,x,cV m m',cV m m',0⟩,W,true):=by
 unfold h_
 rw[if_pos]
 simp[dU,rN]
theorem jB {id d x m w s:Int}:bE [⟨id,x,m,w,s⟩] d=if id=d then some ⟨id,x,m,w,s⟩ else none:=by
 simp only[bE,bg,List.find?_cons,List.find?_nil]
 split<;>simp_all
theorem dN.cnt {M M':List HE} {clock:Nat} (o:eW M clock) {t r w:Int} {Q:List R5} (st:dN M M' t r w Q):M'.length≤M.length+1:=by
 have:=st.len
 have h2:=List.length_filter_le (fun x=>!rm t r x) M
 omega
structure xR where
 k:Int
 x:Int
 t:Int
 r:Int
 m:Int
 w:Int
 to:Int
def EJ (a:xR):List Value:=[.int .i64 a.k,.int .i64 a.x,.int .i64 a.t,.int .i64 a.r,.int .i64 a.m,.int .i64 a.w,.int .i64 a.to]
def rG (a:xR):Bool:=decide (bY a.t a.r≠-1) && (if a.k=1 then kn a.m && decide (a.m≠0) && decide (0≤a.w) else if a.k=3 then decide (a.to≠a.x) else decide (a.k=2))
def jd (H:Int→Int→Int) (a:xR):Int:=if a.k=1 then 1 else if H a.t a.r=0 then 6 else 1
def qk (H:Int→Int→Int) (a:xR):Int→Int→Int:=if a.k=1 then gu H a.t a.r (cV (H a.t a.r) a.m) else gu H a.t a.r 0
def sL (ty:TypeId) (op:Bool):Prop:=ty=147∨ty=182∨ty=220∨ty=81∨ty=83∨ty=225∨ty=4∨(ty=3∧op=true)
theorem de.only {h h':Heap} {bp bl:Nat} {F:List Int} {B:List Bool} (p:de h bp bl F B) (hn:h.nx≤h'.nx) (hl:h'.lo=h.lo) (hc:∀c vs ty op,c<h.nx→sL ty op→(ty=3→FB h bp c)→h.bl.get c=some (aa vs ty op)→h'.bl.get c=h.bl.get c):de h' bp bl F B:=by
 have pl:=p.lt
 have fl:=p.fr.lt
 obtain ⟨fs,hg,hpt⟩:=p.fr.cell
 refine ⟨⟨by omega,by rw[hl]; exact p.fr.lo,fs,(hc _ _ _ _ fl (by simp[sL]) (fun e=>absurd e (by decide)) hg).trans hg,?_⟩,by omega,by rw[hl]; exact p.lo,(hc _ _ _ _ pl (by simp[sL]) (fun e=>absurd e (by decide)) p.cell).trans p.cell,p.ok,p.small⟩
 rcases hpt with e | ⟨b,G,e,k1,k2,k3,k4⟩
 ·exact .inl e
 ·exact .inr ⟨b,G,e,by omega,by omega,(hc _ _ _ _ k1 (by simp[sL]) (fun _=>⟨_,_,_,by rw[hg,e]⟩) k3).trans k3,k4⟩
theorem aU.only {h h':Heap} {bb bm bp bl most clock:Nat} {M:List HE} {F:List Int} {B:List Bool} (s:aU h bb bm bp bl most M clock F B) (hn:h.nx≤h'.nx) (hl:h'.lo=h.lo) (hc:∀c vs ty op,c<h.nx→sL ty op→(ty=3→FB h bp c)→h.bl.get c=some (aa vs ty op)→h'.bl.get c=h.bl.get c) (hm:h'.bl.get bm=h.bl.get bm):aU h' bb bm bp bl most M clock F B:=by
 have sb:=s.IB
 have sm:=s.rP
 refine ⟨by omega,by omega,by rw[hl]; exact s.Ox,(hc _ _ _ _ sb (by simp[sL]) (fun e=>absurd e (by decide)) s.fq).trans s.fq,hm.trans s.eM,s.ok,fun e he=>?_,s.good,s.ck.only hn hl hc,s.ne⟩
 have a:=s.aH e he
 have al:=a.lt
 exact ⟨by omega,(hc _ _ _ _ al (by simp[sL]) (fun e=>absurd e (by decide)) a.get).trans a.get,a.qv.frame hn fun c vs op h1 hg=>hc c vs _ op h1 (by simp[sL]) (fun e=>absurd e (by decide)) hg⟩
section
variable {h h':Heap} {tb bw bp bl:Nat} {c:dg} {vb:Value} {aH N:Nat} {Ts:List TB} {W:List IE} {wc:Nat} {F:List Int} {B:List Bool}
theorem dA.only (s:dA h tb bw bp bl c vb aH Ts W wc F B) (hn:h.nx≤h'.nx) (hl:h'.lo=h.lo) (hc:∀c vs ty op,c<h.nx→sL ty op→(ty=3→FB h bp c)→h.bl.get c=some (aa vs ty op)→h'.bl.get c=h.bl.get c) (hw:h'.bl.get bw=h.bl.get bw) (hm:∀b∈Ts,h'.bl.get b.bm=h.bl.get b.bm):dA h' tb bw bp bl c vb aH Ts W wc F B:=by
 have h1:=s.Vj
 have h2:=s.xg
 have k1:=Sl.z_ (h':=h') s.sl s.ty hn fun c vs op h1 hg=>hc c vs _ op h1 (by simp[sL]) (fun e=>absurd e (by decide)) hg
 exact ⟨by omega,(hc _ _ _ _ h1 (by simp[sL]) (fun e=>absurd e (by decide)) s.kK).trans s.kK,k1.1,k1.2,by omega,by rw[hl]; exact s.low,hw.trans s.lK,fun b hb=>(s.bk b hb).only hn hl hc (hm b hb),s.xO,s.Vk,s.ck.only hn hl hc,s.cS,s.s1,s.hd⟩
theorem gK.only (s:gK h tb bw bp bl c vb aH N Ts W wc F B) (hn:h.nx≤h'.nx) (hl:h'.lo=h.lo) (hc:∀c vs ty op,c<h.nx→sL ty op→(ty=3→FB h bp c)→h.bl.get c=some (aa vs ty op)→h'.bl.get c=h.bl.get c) (hw:h'.bl.get bw=h.bl.get bw) (hm:∀b∈Ts,h'.bl.get b.bm=h.bl.get b.bm):gK h' tb bw bp bl c vb aH N Ts W wc F B:=
 ⟨s.is.only hn hl hc hw hm,s.ids,s.wh,s.nm,s.wb,s.len,s.cR,s.cH⟩
theorem gK.put (s:gK h tb bw bp bl c vb aH N Ts W wc F B) {d:Nat} (o:bt) (hd:∀vs ty op,sL ty op→h.bl.get d≠some (aa vs ty op)) (hw:d≠bw) (hm:∀b∈Ts,d≠b.bm):gK ⟨h.nx,h.bl.aS d o,h.lo⟩ tb bw bp bl c vb aH N Ts W wc F B:=
 s.only (Nat.le_refl _) rfl (fun c vs ty op _ ht _ hg=>T.ah _ _ (by rintro rfl; exact hd vs ty op ht hg)) (T.ah _ _ hw) fun b hb=>T.ah _ _ (hm b hb)
end
def cz (o:Option Nat):Value:=match o with | some a=>.pointer (some ⟨a,0,none⟩) | none=>.pointer none
structure CR where
 ca:Nat
 a:xR
 th:Int
 no:Int
 st:Int
 ph:Nat
 wt:Bool
 id:Int
 cs:Int
 out:Int
def QS (ph:Nat):FuncId:=if ph=1 then 46 else if ph=2 then 76 else if ph=3 then 117 else if ph=4 then 217 else 218
def pe (ph ca:Nat):Value:=.func (.func (QS ph)) ⟨[.pointer (some ⟨ca,0,none⟩)]⟩ ⟨[]⟩
noncomputable def bh (wb:Nat) (c:CR):bt:=aa [.int .i64 c.a.k,.int .i64 c.a.x,.int .i64 c.a.t,.int .i64 c.a.r,.int .i64 c.a.m,.int .i64 c.a.w,.int .i64 c.a.to,.pointer (some ⟨wb,0,none⟩),.int .i64 c.th,.int .i64 c.no,.int .i64 c.st,pe c.ph c.ca,.int .i64 (c.ph:Int),.bool c.wt,.int .i64 c.id,.int .i64 c.cs,.int .i64 c.out,.bool false,.slice none 0 0] 99 false
structure WA where
 wb:Nat
 lb:Nat
 hb:Nat
 pb:Nat
 ib:Nat
 kb:Nat
 cb:Nat
 mb:Nat
 n:Nat
structure RW (h:Heap) (A:WA) (tb:Nat) (bI:List (Option (Nat × Int))) (bits:List Int) (now:Int) (tv:Value) (cs:List (Option CR)) (wm:List IE) (kW:Nat) (begun:Int):Prop where
 xg:A.wb<h.nx∧h.lo≤A.wb
 gw:h.bl.get A.wb=some (aa [.pointer (some ⟨tb,0,none⟩),.pointer (some ⟨A.lb,0,none⟩),.pointer (some ⟨A.pb,0,none⟩),.pointer (some ⟨A.kb,0,none⟩),.slice (some ⟨A.cb,0,none⟩) A.n A.n,.map (some A.mb),.int .i64 begun] 107 false)
 IC:A.lb<h.nx
 gl:h.bl.get A.lb=some (aa [.slice (some ⟨A.hb,0,none⟩) bI.length bI.length] 179 false)
 LY:A.hb<h.nx∧h.lo≤A.hb
 gh:h.bl.get A.hb=some (aa (bI.map fun o=>cz (o.map (·.1))) 176 false)
 ho:∀p,some p∈bI→p.1<h.nx∧h.bl.get p.1=some (aa [.int .i64 p.2] 181 false)
 Lw:A.pb<h.nx
 gp:h.bl.get A.pb=some (aa [.slice (some ⟨A.ib,0,none⟩) A.n A.n] 193 false)
 LZ:A.ib<h.nx∧h.lo≤A.ib
 gi:h.bl.get A.ib=some (aa (bits.map fun n=>.int .i64 n) 3 false)
 li:bits.length=A.n
 Ic:A.kb<h.nx∧h.lo≤A.kb
 gk:h.bl.get A.kb=some (aa [.int .i64 now,tv] 169 false)
 L0:A.cb<h.nx∧h.lo≤A.cb
 gc:h.bl.get A.cb=some (aa (cs.map fun o=>cz (o.map (·.ca))) 96 false)
 lc:cs.length=A.n
 ca:∀c,some c∈cs→c.ca<h.nx∧h.lo≤c.ca∧h.bl.get c.ca=some (bh A.wb c)
 rP:A.mb<h.nx∧h.lo≤A.mb
 gm:h.bl.get A.mb=some (.map (wm.map tT) kW)
 nn:1≤A.n∧A.n≤8
 dc:cs.Pairwise fun o o'=>∀c c',o=some c→o'=some c'→c.ca≠c'.ca
def jW (ty:TypeId) (op:Bool):Prop:=ty=107∨ty=179∨ty=176∨ty=181∨ty=193∨ty=169∨ty=96∨ty=99∨(ty=3∧op=false)
section
variable {h h':Heap} {A:WA} {tb:Nat} {bI:List (Option (Nat × Int))} {bits:List Int} {now:Int} {tv:Value} {cs:List (Option CR)} {wm:List IE} {kW:Nat} {begun:Int}
theorem RW.keep (s:RW h A tb bI bits now tv cs wm kW begun) (hn:h.nx≤h'.nx) (hl:h'.lo=h.lo) (hg:∀d vs ty op,d<h.nx→jW ty op→h.bl.get d=some (aa vs ty op)→h'.bl.get d=h.bl.get d) (hm:h'.bl.get A.mb=h.bl.get A.mb):RW h' A tb bI bits now tv cs wm kW begun:=by
 obtain ⟨⟨a1,a2⟩,a3,b1,b2,⟨c1,c2⟩,c3,c4,d1,d2,⟨e1,e2⟩,e3,e4,⟨f1,f2⟩,f3,⟨g1,g2⟩,g3,g4,g5,⟨i1,i2⟩,i3,i4,i5⟩:=s
 refine ⟨⟨by omega,by omega⟩,(hg _ _ _ _ a1 (by simp[jW]) a3).trans a3,by omega,(hg _ _ _ _ b1 (by simp[jW]) b2).trans b2,⟨by omega,by omega⟩,(hg _ _ _ _ c1 (by simp[jW]) c3).trans c3,fun p hp=>?_,by omega,(hg _ _ _ _ d1 (by simp[jW]) d2).trans d2,⟨by omega,by omega⟩,(hg _ _ _ _ e1 (by simp[jW]) e3).trans e3,e4,⟨by omega,by omega⟩,(hg _ _ _ _ f1 (by simp[jW]) f3).trans f3,⟨by omega,by omega⟩,(hg _ _ _ _ g1 (by simp[jW]) g3).trans g3,g4,fun c hc=>?_,⟨by omega,by omega⟩,hm.trans i3,i4,i5⟩
 ·obtain ⟨k1,k2⟩:=c4 p hp
  exact ⟨by omega,(hg _ _ _ _ k1 (by simp[jW]) k2).trans k2⟩
 ·obtain ⟨k1,k2,k3⟩:=g5 c hc
  exact ⟨by omega,by omega,(hg _ _ _ _ k1 (by simp[jW]) k3).trans k3⟩
theorem RW.le (s:RW h A tb bI bits now tv cs wm kW begun) (l:Le h h'):RW h' A tb bI bits now tv cs wm kW begun:=s.keep l.nx l.lo (fun d _ _ _ hd _ _=>l.get d hd) (l.get _ s.rP.1)
theorem RW.YC (s:RW h A tb bI bits now tv cs wm kW begun) {bw bp bl:Nat} {c:dg} {vb:Value} {aH:Nat} {Ts:List TB} {W:List IE} {wc:Nat} {F:List Int} {B:List Bool} (t:dA h tb bw bp bl c vb aH Ts W wc F B) (f:rE Ts bw bp bl h h') (hw:A.mb≠bw) (hm:∀b∈Ts,A.mb≠b.bm):RW h' A tb bI bits now tv cs wm kW begun:=by
 have gm:=s.gm
 obtain ⟨fs,tQ,hpt⟩:=t.ck.fr.cell
 have gl:=t.ck.cell
 refine s.keep f.nx f.lo (fun d vs ty op hd hr hg=>?_) (f.get _ s.rP.1 hm hw (by rintro e; rw[e,tQ] at gm; exact bu gm.symm) (by rintro e; rw[e,gl] at gm; exact bu gm.symm) fun vs=>by rw[gm]; exact bu)
 rcases hr with e | e | e | e | e | e | e | e | ⟨e,e'⟩<;>subst e
 ·exact f.keep t hd hg (by decide) (by decide) (by decide)
 ·exact f.keep t hd hg (by decide) (by decide) (by decide)
 ·exact f.keep t hd hg (by decide) (by decide) (by decide)
 ·exact f.keep t hd hg (by decide) (by decide) (by decide)
 ·exact f.keep t hd hg (by decide) (by decide) (by decide)
 ·exact f.keep t hd hg (by decide) (by decide) (by decide)
 ·exact f.keep t hd hg (by decide) (by decide) (by decide)
 ·exact f.keep t hd hg (by decide) (by decide) (by decide)
 ·subst e'
  refine f.get d hd (fun b hb=>?_) (by rintro rfl; have:=t.lK; rw[hg] at this; exact bu this.symm) (by rintro rfl; rw[hg] at tQ; exact aX (by decide) tQ) (by rintro rfl; rw[hg] at gl; exact aX (by decide) gl) fun ws=>by rw[hg]; exact aV
  rintro rfl
  have:=(t.bk b hb).eM
  rw[hg] at this
  exact bu this.symm
end
theorem YD (h:Heap) (b o:Nat):lT Tryz.prog h 100 101 (.pointer (some ⟨b,o,none⟩)) (.pointer none)=some false:=by kernel_rfl
theorem L7 {β:Type} {fl:β} (cn:Bool) (b o:Nat) (h:Heap) (κ:Value→Heap→β):au fl Tryz.prog .eql 101 cn false (.pointer (some ⟨b,o,none⟩)) (.pointer none) h κ=κ (.bool false) h:=by simp only[au,YD,bP]
theorem YE (h:Heap) (b o:Nat):lT Tryz.prog h 100 176 (.pointer (some ⟨b,o,none⟩)) (.pointer none)=some false:=by kernel_rfl
theorem YF (h:Heap):lT Tryz.prog h 100 176 (.pointer none) (.pointer none)=some true:=by kernel_rfl
theorem Da {β:Type} {fl:β} (cn:Bool) (b o:Nat) (h:Heap) (κ:Value→Heap→β):au fl Tryz.prog .eql 176 cn false (.pointer (some ⟨b,o,none⟩)) (.pointer none) h κ=κ (.bool false) h:=by simp only[au,YE,bP]
theorem Db {β:Type} {fl:β} (cn:Bool) (h:Heap) (κ:Value→Heap→β):au fl Tryz.prog .eql 176 cn false (.pointer none) (.pointer none) h κ=κ (.bool true) h:=by simp only[au,YF,bP]
abbrev lN (bI:List (Option (Nat × Int))):List Value:=bI.map fun o=>cz (o.map (·.1))
section
variable {h:Heap} {lb hb:Nat} {bI:List (Option (Nat × Int))}
theorem wS (gl:h.bl.get lb=some (aa [.slice (some ⟨hb,0,none⟩) bI.length bI.length] 179 false)) {i:Nat} {th:Int} (hi:i<bI.length) (ht:0≤th∧th<8) (κ:KQ) (hk:κ (.int .i64 0) h) :
  CallW Tryz.prog 100 [.pointer (some ⟨lb,0,none⟩),.int .i64 (i:Int),.int .i64 th] h κ:=by
 refine aj mixed ?_
 rw[Sf]
 simp(disch:=first|omega|simp only[Wd]<;>omega|with_unfolding_all rfl)only[Wz,L7,By,cg (show (0:Int)≤(i:Int) by omega),ax,gl,cg (show 0≤th by omega),a_ (show ¬(bI.length:Int)≤(i:Int) by omega),a_ (show ¬(8:Int)≤th by omega)]
 exact hk
theorem EK {i:Nat} {o:Option (Nat × Int)} (hi:bI[i]? = some o):(lN bI)[i]? = some (cz (o.map (·.1))):=by rw[List.getElem?_map,hi]; rfl
theorem Dc {i:Nat} {o:Option (Nat × Int)} (hi:i<bI.length):over (lN bI) i [cz (o.map (·.1))]=lN (bI.set i o):=by
 unfold over lN
 rw[List.map_set,List.set_eq_take_append_cons_drop,if_pos (by simpa using hi)]
 simp
theorem Up (gl:h.bl.get lb=some (aa [.slice (some ⟨hb,0,none⟩) bI.length bI.length] 179 false)) (gh:h.bl.get hb=some (aa (lN bI) 176 false)) (hhb:hb<h.nx∧h.lo≤hb) (hlb:lb<h.nx) {i:Nat} {th:Int} (hi:bI[i]? = some none) (ht:0≤th∧th<8) (κ:KQ)
  (hk:κ (.tuple ⟨[.bool true,.int .i64 0]⟩) ⟨h.nx+1,(h.bl.aS h.nx (aa [.int .i64 th] 181 false)).aS hb (aa (lN (bI.set i (some (h.nx,th)))) 176 false),h.lo⟩) :
  CallW Tryz.prog 75 [.pointer (some ⟨lb,0,none⟩),.int .i64 (i:Int),.int .i64 th] h κ:=by
 have hil:=(List.getElem?_eq_some_iff.1 hi).1
 have r:=EK hi
 have ov:=Dc (bI:=bI) (o:=some (h.nx,th)) hil
 have Vr:(lN bI).length=bI.length:=List.length_map _
 refine aj mixed ?_
 rw[WZ]
 refine wS gl hil ht _ ?_
 simp only[cz,Option.map_none] at r
 simp only[cz,Option.map_some] at ov
 simp(disch:=first|omega|simp only[Wd]<;>omega|with_unfolding_all rfl)only[Wz,F9,ax,gl,aN,gh,r,Nat.mul_one,Db,F8,ov]
 exact hk
theorem Gv (gl:h.bl.get lb=some (aa [.slice (some ⟨hb,0,none⟩) bI.length bI.length] 179 false)) (gh:h.bl.get hb=some (aa (lN bI) 176 false)) (hhb:hb<h.nx∧h.lo≤hb) {i p:Nat} {th:Int} (hi:bI[i]? = some (some (p,th))) (gp:h.bl.get p=some (aa [.int .i64 th] 181 false)) (ht:0≤th∧th<8) (κ:KQ)
  (hk:κ (.int .i64 0) ⟨h.nx,h.bl.aS hb (aa (lN (bI.set i none)) 176 false),h.lo⟩) :
  CallW Tryz.prog 158 [.pointer (some ⟨lb,0,none⟩),.int .i64 (i:Int),.int .i64 th] h κ:=by
 have hil:=(List.getElem?_eq_some_iff.1 hi).1
 have r:=EK hi
 have ov:=Dc (bI:=bI) (o:=none) hil
 have Vr:(lN bI).length=bI.length:=List.length_map _
 refine aj mixed ?_
 rw[SE]
 refine wS gl hil ht _ ?_
 simp only[cz,Option.map_some] at r
 simp only[cz,Option.map_none] at ov
 simp(disch:=first|omega|simp only[Wd]<;>omega|with_unfolding_all rfl)only[Wz,BO,ax,gl,aN,gh,r,gp,Nat.mul_one,Da,ov]
 exact hk
theorem Ie (gl:h.bl.get lb=some (aa [.slice (some ⟨hb,0,none⟩) bI.length bI.length] 179 false)) (gh:h.bl.get hb=some (aa (lN bI) 176 false)) {i:Nat} {o:Option (Nat × Int)} (hi:bI[i]? = some o) (gp:∀p,o=some p→h.bl.get p.1=some (aa [.int .i64 p.2] 181 false)) (κ:KQ)
  (hk:∀x,κ (.tuple ⟨[.int .i64 x,.bool o.isSome]⟩) h) :
  CallW Tryz.prog 62 [.pointer (some ⟨lb,0,none⟩),.int .i64 (i:Int)] h κ:=by
 have hil:=(List.getElem?_eq_some_iff.1 hi).1
 have r:=EK hi
 have Vr:(lN bI).length=bI.length:=List.length_map _
 refine aj mixed ?_
 rw[WL]
 refine wS gl hil (by omega) _ ?_
 cases o with
 | none=>
  simp only[cz,Option.map_none] at r
  simp(disch:=first|omega|simp only[Wd]<;>omega|with_unfolding_all rfl)only[Wz,ax,gl,aN,gh,r,Nat.mul_one,Db]
  exact hk 0
 | some p=>
  have gp:=gp p rfl
  simp only[cz,Option.map_some] at r
  simp(disch:=first|omega|simp only[Wd]<;>omega|with_unfolding_all rfl)only[Wz,ax,gl,aN,gh,r,Nat.mul_one,Da,F4,gp]
  exact hk p.2
end
theorem ac5 (h:Heap) (b o:Nat):lT Tryz.prog h 100 103 (.pointer (some ⟨b,o,none⟩)) (.pointer none)=some false:=by kernel_rfl
theorem rH {β:Type} {fl:β} (cn:Bool) (b o:Nat) (h:Heap) (κ:Value→Heap→β):au fl Tryz.prog .eql 103 cn false (.pointer (some ⟨b,o,none⟩)) (.pointer none) h κ=κ (.bool false) h:=by simp only[au,ac5,bP]
def tmV (b:Nat):Value:=.iface 217 (.pointer (some ⟨b,1,none⟩))
theorem ct_len (b : Nat) (h : Heap) (κ : Value → Heap → Prop) : CallI Tryz.prog "Len" (tmV b) [] h κ = (load1 False (.pointer (some ⟨b, 1, none⟩)) h fun v h => CallW Tryz.prog 360 [v] h κ) := by kernel_rfl
theorem ct_swap (b : Nat) (i j : Value) (h : Heap) (κ : Value → Heap → Prop) : CallI Tryz.prog "Swap" (tmV b) [i, j] h κ = (load1 False (.pointer (some ⟨b, 1, none⟩)) h fun v h => CallW Tryz.prog 362 [v, i, j] h κ) := by kernel_rfl
theorem ct_push (b : Nat) (x : Value) (h : Heap) (κ : Value → Heap → Prop) : CallI Tryz.prog "Push" (tmV b) [x] h κ = CallW Tryz.prog 365 [.pointer (some ⟨b, 1, none⟩), x] h κ := by kernel_rfl
theorem ct_pop (b : Nat) (h : Heap) (κ : Value → Heap → Prop) : CallI Tryz.prog "Pop" (tmV b) [] h κ = CallW Tryz.prog 364 [.pointer (some ⟨b, 1, none⟩)] h κ := by kernel_rfl
section
variable {h:Heap} {kb:Nat} {now:Int}
theorem Dd {x:Option Addr} {c:Nat} (gk:h.bl.get kb=some (aa [.int .i64 now,.slice x 0 c] 169 false)) (hkb:kb<h.nx) (who mark:Int) (κ:KQ) (hk:∀h',Le h h'→κ (.int .i64 (-1)) h') :
  CallW Tryz.prog 205 [.pointer (some ⟨kb,0,none⟩),.int .i64 who,.int .i64 mark] h κ:=by
 refine aj mixed ?_
 rw[SM]
 simp(disch:=first|omega|simp only[Wd]<;>omega|with_unfolding_all rfl)only[Wz,ax,gk]
 refine aj mixed ?_
 rw[S6]
 simp(disch:=first|omega|simp only[Wd]<;>omega|with_unfolding_all rfl)only[Wz]
 refine ⟨fun n l h'=>slot l 12=.int .i64 0∧Le h h',⟨0,rfl,((Le.refl h).new _).new _⟩,?_⟩
 rintro n l h' ⟨s1,le⟩
 simp(disch:=first|omega|simp only[Wd]<;>omega|with_unfolding_all rfl)only[Wz,s1,cg (show (0:Int)≤0 by omega)]
 exact hk h' le
theorem O2 {x:Option Addr} {c:Nat} {n:Nat} (gk:h.bl.get kb=some (aa [.int .i64 now,.slice x n c] 169 false)) (κ:KQ) (hk:κ (.int .i64 (n:Int)) h) :
  CallW Tryz.prog 64 [.pointer (some ⟨kb,0,none⟩)] h κ:=by
 refine aj mixed ?_
 rw[WN]
 simp(disch:=first|omega|simp only[Wd]<;>omega|with_unfolding_all rfl)only[Wz,rH,ax,gk]
 exact hk
theorem Uq {tv:Value} (gk:h.bl.get kb=some (aa [.int .i64 now,tv] 169 false)) (κ:KQ) (hk:κ (.int .i64 now) h) :
  CallW Tryz.prog 257 [.pointer (some ⟨kb,0,none⟩)] h κ:=by
 refine aj mixed ?_
 rw[Ta]
 simp(disch:=first|omega|simp only[Wd]<;>omega|with_unfolding_all rfl)only[Wz,rH,ax,gk]
 exact hk
theorem L8 {x:Option Addr} {c:Nat} (gk:h.bl.get kb=some (aa [.int .i64 now,.slice x 0 c] 169 false)) (hkb:kb<h.nx) (who mark:Int) (κ:KQ) (hk:∀h',Le h h'→κ (.bool false) h') :
  CallW Tryz.prog 154 [.pointer (some ⟨kb,0,none⟩),.int .i64 who,.int .i64 mark] h κ:=by
 refine aj mixed ?_
 rw[SC]
 simp(disch:=first|omega|simp only[Wd]<;>omega|with_unfolding_all rfl)only[Wz,rH]
 refine Dd gk hkb who mark _ ?_
 intro h1 bK
 refine ⟨fun l h'=>h'=h1,?_,?_⟩
 ·simp(disch:=first|omega|simp only[Wd]<;>omega|with_unfolding_all rfl)only[Wz,BL,cg (show (-1:Int)<0 by omega)]
 ·rintro l h' rfl
  simp(disch:=first|omega|simp only[Wd]<;>omega|with_unfolding_all rfl)only[Wz]
  exact hk _ bK
theorem Ur (b:Nat) (h:Heap) (κ:KQ) (hk:κ (.tuple ⟨[]⟩) h):CallW Tryz.prog 199 [tmV b,.int .i64 0] h κ:=by
 refine aj mixed ?_
 rw[Kj]
 refine ⟨fun n l h'=>slot l 19=.int .i64 0∧h'=h,⟨0,rfl,rfl⟩,?_⟩
 rintro n l h' ⟨s1,rfl⟩
 simp(disch:=first|omega|simp only[Wd]<;>omega|with_unfolding_all rfl)only[Wz,q7,s1,zm]
 exact hk
end
structure De where
 t:Int
 w:Int
 m:Int
def lP (x:De):List Value:=[.int .i64 x.t,.int .i64 x.w,.int .i64 x.m]
theorem sM (x:De):(lP x).length=3:=rfl
theorem yL (x:De):(lP x).all d_=true:=rfl
section
variable {h:Heap} {kb:Nat} {now:Int}
theorem Us (gk:h.bl.get kb=some (aa [.int .i64 now,.slice none 0 0] 169 false)) (hkb:kb<h.nx∧h.lo≤kb) (at' who mark:Int) (tf:now<at') (κ:KQ)
  (hk:∀h2 b,Le h h2→h.nx≤b→b<h2.nx→h2.bl.get b=some (aa [.int .i64 at',.int .i64 who,.int .i64 mark] 214 true)→κ (.int .i64 0) ⟨h2.nx,h2.bl.aS kb (aa [.int .i64 now,.slice (some ⟨b,0,none⟩) 1 aD] 169 false),h2.lo⟩) :
  CallW Tryz.prog 258 [.pointer (some ⟨kb,0,none⟩),.int .i64 at',.int .i64 who,.int .i64 mark] h κ:=by
 have hlo:h.lo≤h.nx:=by omega
 refine aj mixed ?_
 rw[Tb]
 simp(disch:=first|omega|simp only[Wd]<;>omega|with_unfolding_all rfl)only[Wz,rH,Cc,ax,gk,cg (show now<at' by omega),a_ (show ¬at'≤now by omega),Cb]
 refine Dd gk hkb.1 who mark _ ?_
 intro h1 bK
 have n1:=bK.nx
 have l1:=bK.lo
 have O3:=(bK.get kb hkb.1).trans gk
 simp(disch:=first|omega|simp only[Wd]<;>omega|with_unfolding_all rfl)only[Wz,cg (show (-1:Int)<0 by omega),ax]
 refine aj mixed ?_
 rw[Ke]
 rw[show (Value.iface 217 (.pointer (some ⟨kb,1,none⟩)))=tmV kb from rfl,ct_push]
 refine aj mixed ?_
 rw[TG]
 simp(disch:=first|omega|simp only[Wd]<;>omega|with_unfolding_all rfl)only[Wz,cq,Cr,ax,O3]
 obtain ⟨hA,aK⟩:∃hA:Heap,hA=⟨h1.nx+1+1,((h1.bl.aS (h1.nx) (aa [.int .i64 at',.int .i64 who,.int .i64 mark] 214 false)).aS (h1.nx+1) (aa [.int .i64 at',.int .i64 who,.int .i64 mark] 214 false)),h1.lo⟩:=⟨_,rfl⟩
 have aO:Le h1 hA:=by subst aK; exact (((Le.refl h1).new _).new _)
 have g0:hA.bl.get (h1.nx)=some (aa [.int .i64 at',.int .i64 who,.int .i64 mark] 214 false):=by subst aK; exact (T.ah _ _ (by omega)).trans (T.af _ _ _)
 have g1:hA.bl.get (h1.nx+1)=some (aa [.int .i64 at',.int .i64 who,.int .i64 mark] 214 false):=by subst aK; exact T.af _ _ _
 have gH:hA.nx=h1.nx+1+1:=by subst aK; rfl
 have gI:hA.lo=h1.lo:=by subst aK; rfl
 rw[←aK]
 clear aK
 have gkA:=(aO.get kb (by omega)).trans O3
 have hone:Sl lP hA (.slice (some ⟨h1.nx+1,0,none⟩) 1 1) [(⟨at',who,mark⟩:De)]:=Sl.new (L:=[(⟨at',who,mark⟩:De)]) (e:=214) (op:=false) (by omega) g1 _
 refine mg (enc:=lP) (a:=hA) (L:=[]) (M:=[(⟨at',who,mark⟩:De)]) sM yL (by decide) (by decide) (.inl ⟨rfl,.inl rfl⟩) hone (Le.refl hA) (by simp) (by omega) _ ?_
 intro v2 h2 ho bF _ _
 have n2:=bF.nx
 have l2:=bF.lo
 have O4:=(bF.get kb (by omega)).trans gkA
 rcases ho with ⟨e,_⟩ | ⟨b,rfl,b1,b2,b3,b4⟩
 ·cases e
 have ek:(h2.bl.aS kb (aa [.int .i64 now,.slice (some ⟨b,0,none⟩) 1 aD] 169 false)).get kb=some (aa [.int .i64 now,.slice (some ⟨b,0,none⟩) 1 aD] 169 false):=T.af _ _ _
 simp(disch:=first|omega|simp only[Wd]<;>omega|with_unfolding_all rfl)only[Wz,O4,List.nil_append,ct_len]
 refine aj mixed ?_
 rw[Ky]
 simp(disch:=first|omega|simp only[Wd]<;>omega|with_unfolding_all rfl)only[Wz]
 refine Ur kb _ _ ?_
 exact hk h2 b ((bK.trans aO).trans bF) (by omega) b2 b4
end
section
variable {h:Heap} {kb b:Nat} {now t w m:Int}
theorem ac7 {β:Type} {fl:β} (gb:h.bl.get b=some (aa [.int .i64 t,.int .i64 w,.int .i64 m] 214 true)) (κ:Value→Heap→β) :
  sliceB fl 214 3 (.slice (some ⟨b,0,none⟩) 1 aD) none (some (.int .i64 0)) none h κ=κ (.slice (some ⟨b,0,none⟩) 0 aD) h:=by
 have hk:f_ h 214 b=some 3:=by unfold f_; rw[gb]; simp only[aa,iA]; rfl
 have e1:Nat.beq aD fR=false:=by decide
 have e2:Nat.beq aD aD=true:=Nat.beq_refl _
 unfold sliceB iF
 simp only[e1,e2,hk]
 rfl
theorem Ut {x:Option Addr} {n c:Nat} (κ:KQ) (hk:κ (.int .i64 (n:Int)) h):CallW Tryz.prog 360 [.slice x n c] h κ:=by
 refine aj mixed ?_
 rw[Ky]
 simp(disch:=first|omega|simp only[Wd]<;>omega|with_unfolding_all rfl)only[Wz]
 exact hk
theorem Uu (gk:h.bl.get kb=some (aa [.int .i64 now,.slice (some ⟨b,0,none⟩) 1 aD] 169 false)) (hkb:kb<h.nx∧h.lo≤kb) (gb:h.bl.get b=some (aa [.int .i64 t,.int .i64 w,.int .i64 m] 214 true)) (hb:b<h.nx∧h.lo≤b) (κ:KQ)
  (hk:∀h',h.nx≤h'.nx→h'.lo=h.lo→(∀c,c<h.nx→c≠kb→h'.bl.get c=h.bl.get c)→h'.bl.get kb=some (aa [.int .i64 now,.slice (some ⟨b,0,none⟩) 0 aD] 169 false)→κ (.iface 214 (.agg ⟨[.int .i64 t,.int .i64 w,.int .i64 m]⟩)) h') :
  CallW Tryz.prog 135 [tmV kb] h κ:=by
 have hne:kb≠b:=by
  rintro rfl
  rw[gk] at gb
  exact aV gb
 refine aj mixed ?_
 rw[Kd]
 simp(disch:=first|omega|simp only[Wd]<;>omega|with_unfolding_all rfl)only[Wz,ct_len,gk]
 refine Ut _ ?_
 have e0:((1:Nat):Int)-1=0:=by decide
 simp(disch:=first|omega|simp only[Wd]<;>omega|with_unfolding_all rfl)only[Wz,e0,ct_swap,gk]
 refine aj mixed ?_
 rw[TE]
 have r0:∀(β:Type) (fl:β) (h':Heap) (κ:Value→Heap→β),av fl 3 (.slice (some ⟨b,0,none⟩) 1 aD) (.int .i64 0) h' κ=κ (.pointer (some ⟨b,0,none⟩)) h':=fun β fl h' κ=>rfl
 simp(disch:=first|omega|simp only[Wd]<;>omega|with_unfolding_all rfl)only[Wz,r0,gb]
 obtain ⟨h1,e1⟩:∃h1:Heap,h1=⟨h.nx,h.bl.aS b (aa [.int .i64 t,.int .i64 w,.int .i64 m] 214 true),h.lo⟩:=⟨_,rfl⟩
 rw[←e1]
 have O3:h1.bl.get kb=some (aa [.int .i64 now,.slice (some ⟨b,0,none⟩) 1 aD] 169 false):=by rw[e1]; exact (T.ah _ _ (fun e=>hne e.symm)).trans gk
 have gb1:h1.bl.get b=some (aa [.int .i64 t,.int .i64 w,.int .i64 m] 214 true):=by rw[e1]; exact T.af _ _ _
 have f1:∀c,c≠b→h1.bl.get c=h.bl.get c:=fun c hc=>by rw[e1]; exact T.ah _ _ (fun e=>hc e.symm)
 have n1:h1.nx=h.nx:=by rw[e1]
 have l1:h1.lo=h.lo:=by rw[e1]
 clear e1
 refine aj mixed ?_
 rw[Ki]
 refine ⟨fun l h'=>slot l 36=.int .i64 0∧h'=h1,?_,?_⟩
 ·refine ⟨fun n l h'=>slot l 36=.int .i64 0∧h'=h1,⟨0,rfl,rfl⟩,?_⟩
  rintro n l h' ⟨s1,rfl⟩
  simp(disch:=first|omega|simp only[Wd]<;>omega|with_unfolding_all rfl)only[Wz,qZ,s1,cg (show (0:Int)≤1 by omega),bf (show (0:Int)≤1 by omega)]
  exact ⟨trivial,trivial⟩
 ·rintro l h2 ⟨s1,rfl⟩
  simp(disch:=first|omega|simp only[Wd]<;>omega|with_unfolding_all rfl)only[Wz,s1,ct_pop]
  refine aj mixed ?_
  rw[TF]
  simp(disch:=first|omega|simp only[Wd]<;>omega|with_unfolding_all rfl)only[Wz,ax,O3,e0,r0,gb1]
  obtain ⟨hA,aK⟩:∃hA:Heap,hA=⟨h2.nx+1,(h2.bl.aS (h2.nx) (aa [.int .i64 t,.int .i64 w,.int .i64 m] 214 false)),h2.lo⟩:=⟨_,rfl⟩
  have aO:Le h2 hA:=by subst aK; exact ((Le.refl h2).new _)
  have gA:hA.bl.get (h2.nx)=some (aa [.int .i64 t,.int .i64 w,.int .i64 m] 214 false):=by subst aK; exact T.af _ _ _
  have gH:hA.nx=h2.nx+1:=by subst aK; rfl
  have gI:hA.lo=h2.lo:=by subst aK; rfl
  rw[←aK]
  clear aK
  have gkA:=(aO.get kb (by omega)).trans O3
  have gbA:=(aO.get b (by omega)).trans gb1
  rw[ac7 gbA]
  simp(disch:=first|omega|simp only[Wd]<;>omega|with_unfolding_all rfl)only[Wz,gkA,gA]
  refine hk _ (by show h.nx≤hA.nx; omega) (by show hA.lo=h.lo; omega) (fun c hc h1=>(T.ah _ _ (fun e=>h1 e.symm)).trans ((aO.get c (by omega)).trans (by
   by_cases e:c=b
   ·subst e; exact gb1.trans gb.symm
   ·exact f1 c e))) (T.af _ _ _)
end
abbrev fP:FuncId:=59
abbrev fD:FuncId:=134
def QT (f:FuncId):Bool:=Nat.beq f fP || Nat.beq f fD
noncomputable abbrev pP:jg Prop:=Vi Tryz.prog QT
noncomputable abbrev RP (n:Nat):Rec Prop:=run False pP Tryz.prog n
noncomputable def cP:Code:=zV Tryz.prog fP
noncomputable def cD:Code:=zV Tryz.prog fD
noncomputable def p0:Code:=jc cP
noncomputable def pB:Code:=La (jc (j8 cP))
noncomputable def p1:Code:=jc pB
def cdA:Code→Code | .cond _ a _=>a | c=>c
def cdB:Code→Code | .cond _ _ b=>b | c=>c
noncomputable def p2:Code:=jc (cdA (j8 pB))
noncomputable def pC:Code:=cdB (j8 pB)
noncomputable def p3:Code:=jc pC
noncomputable def p4:Code:=jc (cdA (j8 pC))
noncomputable def pR:Code:=j8 (j8 cP)
noncomputable def p5:Code:=jc pR
noncomputable def p6:Code:=jc (j8 pR)
noncomputable def pS:Code:=j8 (j8 pR)
noncomputable def p7:Code:=jc (jc pS)
noncomputable def pF:Code:=La (j8 (jc pS))
noncomputable def p8:Code:=rfA pF
noncomputable def p9:Code:=La (rfB pF)
noncomputable def QU:Code:=jc (j8 pS)
theorem YG:cP=.seq p0 (.seq (.block 0 (.seq p1 (.cond (.tmp 8) (.seq p2 .ret) (.seq p3 (.cond (.tmp 11) (.seq p4 .ret) .skip))))) (.seq p5 (.seq p6 (.seq (.seq p7 (.block 1 (.rangeFunc (.tmp 33) #[34] p8 (.block 2 p9)))) (.seq QU .ret))))):=by kernel_rfl
noncomputable def dL:Code:=La (La cD)
noncomputable def d0:Code:=jc (jc dL)
noncomputable def dB:Code:=La (j8 dL)
noncomputable def d1:Code:=jc dB
noncomputable def d2:Code:=jc (j8 dB)
theorem QW:cD=.block 0 (.loop (.seq (.seq d0 (.cond (.tmp 24) .skip (.exit 0))) (.block 1 (.seq d1 (.seq d2 (.cond (.tmp 41) .ret .skip)))))):=by kernel_rfl
def sN (o:Option Value) (κ:Value→Prop):Prop:=match o with | some v=>κ v | none=>False
noncomputable def gB (b:Bool) (x y:Prop):Prop:=Bool.rec (motive:=fun _=>Prop) x y b
def so (v:Value) (_:Heap):Option Value:=some v
variable (rec:Rec Prop) (tm:T Value) (h:Heap)
theorem rp0 (κ:Ex→T Value→Heap→Prop):body False pP Tryz.prog rec p0 tm h κ=T.set tm 4 (.slice none 0 0) fun tm=>T.set tm 5 (.int .i64 0) fun tm=>κ .normal tm h:=by kernel_rfl
theorem rp1 (κ:Ex→T Value→Heap→Prop):body False pP Tryz.prog rec p1 tm h κ =
  ev tm (.tmp 0) fun x=>T.set tm 9 x fun tm=>ev tm (.tmp 9) fun x=>au False Tryz.prog .eql 103 true false x (.pointer none) h fun v h=>T.set tm 10 v fun tm=>ev tm (.tmp 10) fun v=>T.set tm 8 v fun tm=>κ .normal tm h:=by kernel_rfl
theorem rp3 (κ:Ex→T Value→Heap→Prop):body False pP Tryz.prog rec p3 tm h κ =
  ev tm (.tmp 1) fun x=>T.set tm 12 x fun tm=>ev tm (.tmp 12) fun x=>au False Tryz.prog .lss 3 true false x (.int .i64 0) h fun v h=>T.set tm 13 v fun tm=>ev tm (.tmp 13) fun v=>T.set tm 14 v fun tm=>
   gB (eD tm (some (14,false))) (T.set tm 15 undef fun tm=>gB (eD tm (some (14,false))) (T.set tm 16 undef fun tm=>(fun tm=>ev tm (.tmp 14) fun a=>ev tm (.tmp 16) fun b=>aW False a (.bool true) b h fun v h=>T.set tm 17 v fun tm=>ev tm (.tmp 17) fun v=>T.set tm 11 v fun tm=>κ .normal tm h) tm) (ev tm (.tmp 15) fun x=>au False Tryz.prog .gtr 3 true false x (.int .i64 1000) h fun v h=>T.set tm 16 v fun tm=>ev tm (.tmp 14) fun a=>ev tm (.tmp 16) fun b=>aW False a (.bool true) b h fun v h=>T.set tm 17 v fun tm=>ev tm (.tmp 17) fun v=>T.set tm 11 v fun tm=>κ .normal tm h))
    (ev tm (.tmp 1) fun x=>T.set tm 15 x fun tm=>gB (eD tm (some (14,false))) (T.set tm 16 undef fun tm=>ev tm (.tmp 14) fun a=>ev tm (.tmp 16) fun b=>aW False a (.bool true) b h fun v h=>T.set tm 17 v fun tm=>ev tm (.tmp 17) fun v=>T.set tm 11 v fun tm=>κ .normal tm h) (ev tm (.tmp 15) fun x=>au False Tryz.prog .gtr 3 true false x (.int .i64 1000) h fun v h=>T.set tm 16 v fun tm=>ev tm (.tmp 14) fun a=>ev tm (.tmp 16) fun b=>aW False a (.bool true) b h fun v h=>T.set tm 17 v fun tm=>ev tm (.tmp 17) fun v=>T.set tm 11 v fun tm=>κ .normal tm h)):=by kernel_rfl
theorem rp5 (κ:Ex→T Value→Heap→Prop):body False pP Tryz.prog rec p5 tm h κ =
  sN (ev tm (.tmp 0) fun x=>some x) fun v=>T.set tm 18 v fun tm=>sN (ev tm (.tmp 18) fun x=>aM none x h so) fun v=>T.set tm 19 v fun tm=>sN (ev tm (.tmp 19) fun x=>fieldAddrB none 0 x h so) fun v=>T.set tm 20 v fun tm=>sN (ev tm (.tmp 20) fun x=>load1 none x h so) fun v=>T.set tm 21 v fun tm=>
  sN (ev tm (.tmp 1) fun x=>some x) fun v=>T.set tm 22 v fun tm=>sN (ev tm (.tmp 0) fun x=>some x) fun v=>T.set tm 23 v fun tm=>sN (ev tm (.tmp 23) fun x=>aM none x h so) fun v=>T.set tm 24 v fun tm=>sN (ev tm (.tmp 24) fun x=>fieldAddrB none 0 x h so) fun v=>T.set tm 25 v fun tm=>sN (ev tm (.tmp 25) fun x=>load1 none x h so) fun v=>T.set tm 26 v fun tm=>
  sN (ev tm (.tmp 26) fun x=>au none Tryz.prog .sub 2 true false (.int .i64 9223372036854775807) x h so) fun v=>T.set tm 27 v fun tm=>sN (ev tm (.tmp 22) fun a=>ev tm (.tmp 27) fun b=>Aw none a b h so) fun v=>T.set tm 28 v fun tm=>sN (ev tm (.tmp 21) fun a=>ev tm (.tmp 28) fun b=>au none Tryz.prog .add 2 false false a b h so) fun v=>T.set tm 29 v fun tm=>
  sN (ev tm (.tmp 18) fun x=>aM none x h so) fun v=>T.set tm 30 v fun tm=>sN (ev tm (.tmp 30) fun x=>fieldAddrB none 0 x h so) fun v=>T.set tm 31 v fun tm=>ev tm (.tmp 31) fun a=>ev tm (.tmp 29) fun v=>aG False 1 a v h fun v h=>κ .normal tm h:=by kernel_rfl
theorem rp6 (κ:Ex→T Value→Heap→Prop):body False pP Tryz.prog rec p6 tm h κ=an False (aa [.slice none 0 0] 116 false) h fun b h=>T.set tm 6 (ptrTo b) fun tm=>κ .normal tm h:=by kernel_rfl
theorem rp7 (κ:Ex→T Value→Heap→Prop):body False pP Tryz.prog rec p7 tm h κ=ev tm (.tmp 0) fun x=>T.set tm 32 x fun tm=>ev tm (.tmp 32) fun x=>CallW Tryz.prog 97 [x] h fun v h=>T.set tm 33 v fun tm=>κ .normal tm h:=by kernel_rfl
theorem rp8 (κ:Ex→T Value→Heap→Prop):body False pP Tryz.prog rec p8 tm h κ=an False (aa [.int .i64 0,.int .i64 0,.int .i64 0] 120 false) h fun b h=>T.set tm 7 (ptrTo b) fun tm=>ev tm (.tmp 7) fun a=>ev tm (.tmp 34) fun v=>aG False 3 a v h fun v h=>κ .normal tm h:=by kernel_rfl
theorem rp9 (κ:Ex→T Value→Heap→Prop):body False pP Tryz.prog rec p9 tm h κ =
  ev tm (.tmp 6) fun x=>load1 False x h fun v h=>T.set tm 35 v fun tm=>ev tm (.tmp 7) fun x=>aI False 3 x h fun v h=>T.set tm 36 v fun tm=>ev tm (.tmp 36) fun v=>bJ False [(0,3)] [v] [.int .i64 0,.int .i64 0,.int .i64 0] fun cs=>aF False cs 120 false fun o=>an False o h fun b h=>T.set tm 37 (sliceTo 1 1 b) fun tm=>
   ev tm (.tmp 35) fun s=>ev tm (.tmp 37) fun x=>bG False 120 3 [.int .i64 0,.int .i64 0,.int .i64 0] false s x h fun v h=>T.set tm 38 v fun tm=>ev tm (.tmp 6) fun a=>ev tm (.tmp 38) fun v=>aG False 1 a v h fun v h=>κ .normal tm h:=by kernel_rfl
theorem YH (κ:Ex→T Value→Heap→Prop):body False pP Tryz.prog rec QU tm h κ=ev tm (.tmp 6) fun x=>load1 False x h fun v h=>T.set tm 39 v fun tm=>ev tm (.tmp 39) fun v=>T.set tm 4 v fun tm=>T.set tm 5 (.int .i64 0) fun tm=>κ .normal tm h:=by kernel_rfl
noncomputable def gR (g:Option (Nat × Bool)) (d:Nat) (tm:T Value) (o:Option Value) (K:T Value→Prop):Prop:=gB (eD tm g) (T.set tm d undef K) (sN o fun v=>T.set tm d v K)
noncomputable def gO (g:Option (Nat × Bool)) (d:Nat) (tm:T Value) (h:Heap) (f:(Value→Heap→Prop)→Prop) (K:T Value→Heap→Prop):Prop:=gB (eD tm g) (T.set tm d undef fun tm=>K tm h) (f fun v h=>T.set tm d v fun tm=>K tm h)
theorem rd0 (κ:Ex→T Value→Heap→Prop):body False pP Tryz.prog rec d0 tm h κ =
  sN (ev tm (.tmp 1) fun x=>load1 none x h so) fun v=>T.set tm 5 v fun tm=>
  sN (ev tm (.tmp 5) fun x=>aM none x h so) fun v=>T.set tm 6 v fun tm=>
  sN (ev tm (.tmp 6) fun x=>fieldAddrB none 1 x h so) fun v=>T.set tm 7 v fun tm=>
  sN (ev tm (.tmp 7) fun x=>load1 none x h so) fun v=>T.set tm 8 v fun tm=>
  sN (ev tm (.tmp 8) fun x=>bz none x h so) fun v=>T.set tm 9 v fun tm=>
  sN (ev tm (.tmp 9) fun x=>au none Tryz.prog .gtr 3 true false x (.int .i64 0) h so) fun v=>T.set tm 10 v fun tm=>
  sN (ev tm (.tmp 10) fun x=>some x) fun v=>T.set tm 11 v fun tm=>
  gR (some (11,true)) 12 tm (ev tm (.tmp 1) fun x=>load1 none x h so) fun tm=>
  gR (some (11,true)) 13 tm (ev tm (.tmp 12) fun x=>aM none x h so) fun tm=>
  gR (some (11,true)) 14 tm (ev tm (.tmp 13) fun x=>fieldAddrB none 1 x h so) fun tm=>
  gR (some (11,true)) 15 tm (ev tm (.tmp 14) fun x=>load1 none x h so) fun tm=>
  gR (some (11,true)) 16 tm (ev tm (.tmp 15) fun x=>av none 3 x (.int .i64 0) h so) fun tm=>
  gR (some (11,true)) 17 tm (ev tm (.tmp 16) fun x=>fieldAddrB none 0 x h so) fun tm=>
  gR (some (11,true)) 18 tm (ev tm (.tmp 17) fun x=>load1 none x h so) fun tm=>
  gR (some (11,true)) 19 tm (ev tm (.tmp 1) fun x=>load1 none x h so) fun tm=>
  gR (some (11,true)) 20 tm (ev tm (.tmp 19) fun x=>aM none x h so) fun tm=>
  gR (some (11,true)) 21 tm (ev tm (.tmp 20) fun x=>fieldAddrB none 0 x h so) fun tm=>
  gR (some (11,true)) 22 tm (ev tm (.tmp 21) fun x=>load1 none x h so) fun tm=>
  gR (some (11,true)) 23 tm (ev tm (.tmp 18) fun a=>ev tm (.tmp 22) fun b=>au none Tryz.prog .leq 2 false false a b h so) fun tm=>
  sN (ev tm (.tmp 11) fun a=>ev tm (.tmp 23) fun b=>aW none a b (.bool false) h so) fun v=>T.set tm 24 v fun tm=>κ .normal tm h:=by kernel_rfl
theorem rd1 (κ:Ex→T Value→Heap→Prop):body False pP Tryz.prog rec d1 tm h κ =
  ev tm (.tmp 1) fun x=>load1 False x h fun v h=>T.set tm 26 v fun tm=>ev tm (.tmp 26) fun x=>aM False x h fun v h=>T.set tm 27 v fun tm=>ev tm (.tmp 27) fun x=>fieldAddrB False 1 x h fun v h=>T.set tm 28 v fun tm=>ev tm (.tmp 28) fun x=>T.set tm 29 (.iface 217 x) fun tm=>ev tm (.tmp 29) fun x=>CallW Tryz.prog 135 [x] h fun v h=>T.set tm 30 v fun tm=>
  ev tm (.tmp 30) fun x=>cq False 214 (.agg ⟨[.int .i64 0,.int .i64 0,.int .i64 0]⟩) true x h fun v h=>T.set tm 31 v fun tm=>ev tm (.tmp 31) fun x=>T.set tm 25 x fun tm=>ev tm (.tmp 25) fun x=>aq False 0 x h fun v h=>T.set tm 32 v fun tm=>ev tm (.tmp 25) fun x=>aq False 1 x h fun v h=>T.set tm 33 v fun tm=>
  an False (aa [.int .i64 0,.int .i64 0,.int .i64 0] 214 false) h fun b h=>T.set tm 3 (ptrTo b) fun tm=>ev tm (.tmp 3) fun a=>ev tm (.tmp 32) fun v=>aG False 3 a v h fun v h=>ev tm (.tmp 33) fun v=>T.set tm 4 v fun tm=>κ .normal tm h:=by kernel_rfl
theorem rd2 (κ:Ex→T Value→Heap→Prop):body False pP Tryz.prog rec d2 tm h κ =
  ev tm (.tmp 4) fun x=>T.set tm 34 x fun tm=>ev tm (.tmp 34) fun x=>iX False .not x h fun v h=>T.set tm 35 v fun tm=>ev tm (.tmp 35) fun x=>T.set tm 36 x fun tm=>
  gO (some (36,false)) 37 tm h (fun k=>ev tm (.tmp 0) fun x=>k x h) fun tm h=>gO (some (36,false)) 38 tm h (fun k=>ev tm (.tmp 3) fun x=>aI False 3 x h k) fun tm h=>gO (some (36,false)) 39 tm h (fun k=>ev tm (.tmp 38) fun x=>ev tm (.tmp 37) fun f=>sU False pP Tryz.prog rec f [x] h k) fun tm h=>gO (some (36,false)) 40 tm h (fun k=>ev tm (.tmp 39) fun x=>iX False .not x h k) fun tm h=>
  ev tm (.tmp 36) fun a=>ev tm (.tmp 40) fun b=>aW False a (.bool true) b h fun v h=>T.set tm 41 v fun tm=>κ .normal tm h:=by kernel_rfl
theorem rI (v:Value) (κ:Value→Prop):sN (some v) κ=κ v:=id rfl
theorem Gw (v:Value) (h:Heap):so v h=some v:=id rfl
theorem O5 (x y:Prop):gB true x y=y:=id rfl
theorem ac_ (x y:Prop):gB false x y=x:=id rfl
def Vs (v:Value) (w:Bool):Bool:=match v,w with | .bool true,true=>true | .bool false,false=>true | _,_=>false
theorem Af (tm:T Value) (s:Nat) (w:Bool):eD tm (some (s,w))=Vs (bX tm s) w:=by kernel_rfl
theorem QX:Vs (.bool true) true=true:=id rfl
theorem YI:Vs (.bool false) true=false:=id rfl
theorem QY:Vs (.bool false) false=true:=id rfl
@[congr] theorem YJ {b b':Bool} {x y:Prop} (e:b=b'):gB b x y=gB b' x y:=by rw[e]
@[congr] theorem Vt {o o':Option Value} {κ:Value→Prop} (e:o=o'):sN o κ=sN o' κ:=by rw[e]
@[congr] theorem YK {g:Option (Nat × Bool)} {d:Nat} {tm:T Value} {o:Option Value} {K:T Value→Prop}:gR g d tm o K=gR g d tm o K:=rfl
@[congr] theorem YL {g:Option (Nat × Bool)} {d:Nat} {tm:T Value} {h:Heap} {f:(Value→Heap→Prop)→Prop} {K:T Value→Heap→Prop}:gO g d tm h f K=gO g d tm h f K:=rfl
theorem L9 (s:Nat) (w:Bool) (d:Nat) (tm:T Value) (o:Option Value) (K:T Value→Prop):gR (some (s,w)) d tm o K=gB (Vs (bX tm s) w) (T.set tm d undef K) (sN o fun v=>T.set tm d v K):=by
 unfold gR
 rw[Af]
theorem YM (s:Nat) (w:Bool) (d:Nat) (tm:T Value) (h:Heap) (f:(Value→Heap→Prop)→Prop) (K:T Value→Heap→Prop):gO (some (s,w)) d tm h f K=gB (Vs (bX tm s) w) (T.set tm d undef fun tm=>K tm h) (f fun v h=>T.set tm d v fun tm=>K tm h):=by
 unfold gO
 rw[Af]
section
variable (n:Nat) (a b:Code) (tm:T Value) (h:Heap) (κ:Ex→T Value→Heap→Prop)
theorem n9:RP (n+1) (.seq a b) tm h κ=RP n a tm h (oH (RP n) b κ):=id rfl
theorem sO (t:Nat):RP (n+1) (.cond (.tmp t) a b) tm h κ=qw False (RP n) a b tm h κ (bX tm t):=eE tm (.tmp t) (qw False (RP n) a b tm h κ)
theorem oF (i:Nat):RP (n+1) (.block i a) tm h κ=RP n a tm h (iu i κ):=id rfl
theorem EL:RP (n+1) (.loop a) tm h κ=RP n a tm h (oH (RP n) (.loop a) κ):=id rfl
theorem L_ (i:Nat):RP (n+1) (.exit i) tm h κ=κ (.exit i) tm h:=id rfl
theorem QZ:RP (n+1) .ret tm h κ=κ .ret tm h:=id rfl
theorem EM:RP (n+1) .skip tm h κ=κ .normal tm h:=id rfl
theorem ada (t:Nat) (ps:Array Tmp):RP (n+1) (.rangeFunc (.tmp t) ps a b) tm h κ=c9 False pP Tryz.prog (RP n) ps.toList a b tm h κ (bX tm t):=eE tm (.tmp t) (c9 False pP Tryz.prog (RP n) ps.toList a b tm h κ)
theorem adb:RP (n+1) p0 tm h κ=body False pP Tryz.prog (RP n) p0 tm h κ:=id rfl
theorem ade:RP (n+1) p1 tm h κ=body False pP Tryz.prog (RP n) p1 tm h κ:=id rfl
theorem adf:RP (n+1) p3 tm h κ=body False pP Tryz.prog (RP n) p3 tm h κ:=id rfl
theorem adg:RP (n+1) p5 tm h κ=body False pP Tryz.prog (RP n) p5 tm h κ:=id rfl
theorem adh:RP (n+1) p6 tm h κ=body False pP Tryz.prog (RP n) p6 tm h κ:=id rfl
theorem adi:RP (n+1) p7 tm h κ=body False pP Tryz.prog (RP n) p7 tm h κ:=id rfl
theorem adj:RP (n+1) p8 tm h κ=body False pP Tryz.prog (RP n) p8 tm h κ:=id rfl
theorem adk:RP (n+1) p9 tm h κ=body False pP Tryz.prog (RP n) p9 tm h κ:=id rfl
theorem Q3:RP (n+1) QU tm h κ=body False pP Tryz.prog (RP n) QU tm h κ:=id rfl
theorem Uv:RP (n+1) d0 tm h κ=body False pP Tryz.prog (RP n) d0 tm h κ:=id rfl
theorem adl:RP (n+1) d1 tm h κ=body False pP Tryz.prog (RP n) d1 tm h κ:=id rfl
theorem adm:RP (n+1) d2 tm h κ=body False pP Tryz.prog (RP n) d2 tm h κ:=id rfl
end
theorem YN (rec:Rec Prop) (c x:Value) (h:Heap) (κ:KQ):ia False pP Tryz.prog rec fP [c,x] h κ=rec cP (lay [c,x] .nil 0) h (rU False [.tmp 4,.tmp 5] κ):=by kernel_rfl
theorem Q4 (rec:Rec Prop) (y m:Value) (h:Heap) (κ:KQ):ia False pP Tryz.prog rec fD [y,m] h κ=rec cD (lay [y,m] .nil 0) h (rU False [] κ):=by kernel_rfl
theorem rfP (rec:Rec Prop) (ps:List Nat) (x y:Code) (tm:T Value) (h:Heap) (κ:Ex→T Value→Heap→Prop) (c:Value) :
  c9 False pP Tryz.prog rec ps x y tm h κ (.func (.func fD) ⟨[]⟩ ⟨[c]⟩)=ia False pP Tryz.prog rec fD [.func (.yield h.nx) #[] #[],c] ⟨h.nx+1,h.bl.aS h.nx (.loop .ready none tm ps x y),h.lo⟩ (dQ False h.nx tm κ):=c6 (fl:=False) (.loop .ready none tm ps x y) h (fun l h=>ia False pP Tryz.prog rec fD [.func (.yield l) #[] #[],c] h (dQ False l tm κ))
theorem Q5 (tm:T Value) (h:Heap) (κ:KQ):rU False [.tmp 4,.tmp 5] κ .ret tm h=κ (.tuple ⟨[bX tm 4,bX tm 5]⟩) h:=by
 show Iw tm [.tmp 4,.tmp 5] _=_
 unfold Iw
 rw[dG]
 unfold Iw
 rw[dG]
 rfl
noncomputable abbrev kM (st:LoopState) (gJ:T Value):bt:=.loop st none gJ [34] p8 (.block 2 p9)
theorem YO {β:Type} {fl:β} {a b:Int} (hab:a≤b) (h:Heap) (κ:Value→Heap→β):Aw fl (.int .i64 a) (.int .i64 b) h κ=κ (.int .i64 a) h:=by
 unfold Aw
 simp only[ff,a_ (show ¬b<a by omega)]
theorem yM {l:Nat} {tm gJ:T Value} {v:Value} {h:Heap} {κ:Ex→T Value→Heap→Prop} (hl:h.bl.get l=some (kM .ready gJ)) (hlo:h.lo≤l):∃o,dQ False l tm κ v h=κ .normal tm ⟨h.nx,h.bl.aS l o,h.lo⟩:=by
 refine ⟨.loop .exhausted none gJ [34] p8 (.block 2 p9),?_⟩
 unfold dQ
 simp only[hl,bD _ _ _ _ hlo]
theorem O6 (rec:Rec Prop) (l:Nat) (x:Value) (h:Heap) (κ:KQ):sU False pP Tryz.prog rec (.func (.yield l) #[] #[]) [x] h κ=lW False rec l [x] h κ:=id rfl
theorem Ig {rec:Rec Prop} {l:Nat} {x:Value} {h:Heap} {κ:Value→Heap→Prop} {st:LoopState} {gJ:T Value} (hl:h.bl.get l=some (kM st gJ)):lW False rec l [x] h κ=rec p8 (gJ.aS 34 x) h (dJ False rec l (.block 2 p9) κ):=by
 unfold lW
 simp only[hl,List.length_cons,List.length_nil]
 show oR [34] [x] gJ _=_
 unfold oR
 rw[T.b6]
 unfold oR
 rfl
theorem Ih {rec:Rec Prop} {l:Nat} {bd:Code} {tm:T Value} {h:Heap} {κ:Value→Heap→Prop} {gJ:T Value} (hl:h.bl.get l=some (kM .ready gJ)) (hlo:h.lo≤l):dJ False rec l bd κ .normal tm h=rec bd tm ⟨h.nx,h.bl.aS l (kM .busy gJ),h.lo⟩ (gx False l κ):=by
 unfold dJ
 simp only[hl,bD _ _ _ _ hlo]
theorem O7 {l:Nat} {tm:T Value} {h:Heap} {κ:Value→Heap→Prop} {st:LoopState} {gJ:T Value} (hl:h.bl.get l=some (kM st gJ)) (hlo:h.lo≤l):gx False l κ .normal tm h=κ (.bool true) ⟨h.nx,h.bl.aS l (kM .ready gJ),h.lo⟩:=by
 unfold gx
 simp only[hl,bD _ _ _ _ hlo]
section
variable {h:Heap} {kb b q:Nat} {now t w m:Int}
theorem Ii (tm:T Value) (h6:bX tm 6=ptrTo q) (hq:q+1<h.nx∧h.lo≤q) (gq:h.bl.get q=some (aa [.slice none 0 0] 116 false)) (Ij:h.bl.get (q+1)=some (aa [.pointer (some ⟨kb,0,none⟩)] 103 false)) (gk:h.bl.get kb=some (aa [.int .i64 now,.slice (some ⟨b,0,none⟩) 1 aD] 169 false)) (hkb:kb<h.nx) (gb:h.bl.get b=some (aa [.int .i64 t,.int .i64 w,.int .i64 m] 214 true)) (hb:b<h.nx) (hd:now<t) (κ:KQ)
  (hk:∀h',Le h h'→κ (.tuple ⟨[.slice none 0 0,.int .i64 0]⟩) h') :
  c9 False pP Tryz.prog (RP 52) [34] p8 (.block 2 p9) tm h (iu 1 (oH (RP 55) (QU.seq .ret) (rU False [.tmp 4,.tmp 5] κ))) (.func (.func fD) ⟨[]⟩ ⟨[.pointer (some ⟨q+1,0,none⟩)]⟩):=by
 rw[rfP,Q4,QW,Ln]
 obtain ⟨hL,sP⟩:∃hL:Heap,hL=⟨h.nx+1,(h.bl.aS (h.nx) (bt.loop .ready none tm [34] p8 (Code.block 2 p9))),h.lo⟩:=⟨_,rfl⟩
 have jX:Le h hL:=by subst sP; exact ((Le.refl h).new _)
 have gl:hL.bl.get (h.nx)=some (bt.loop .ready none tm [34] p8 (Code.block 2 p9)):=by subst sP; exact T.af _ _ _
 have adn:hL.nx=h.nx+1:=by subst sP; rfl
 have ado:hL.lo=h.lo:=by subst sP; rfl
 rw[←sP]
 clear sP
 have O8:=jX.nx
 have O9:=jX.lo
 have gq:=(jX.get _ (by omega)).trans gq
 have Ij:=(jX.get _ (by omega)).trans Ij
 have gk:=(jX.get _ (by omega)).trans gk
 have gb:=(jX.get _ (by omega)).trans gb
 have r0:∀(β:Type) (fl:β) (h':Heap) (κ:Value→Heap→β),av fl 3 (.slice (some ⟨b,0,none⟩) 1 aD) (.int .i64 0) h' κ=κ (.pointer (some ⟨b,0,none⟩)) h':=fun β fl h' κ=>rfl
 simp(disch:=first|omega|simp only[Wd]<;>omega|with_unfolding_all rfl)only[Wz,oF,EL,n9,Uv]
 rw[rd0]
 simp(disch:=first|omega|simp only[Wd]<;>omega|with_unfolding_all rfl)only[Wz,dG,bB,ct,rI,Gw,↓T.b6,↓L9,QX,O5,Ij,ax,gk,r0,gb,cg (show now<t by omega),a_ (show ¬t≤now by omega)]
 simp(disch:=first|omega|simp only[Wd]<;>omega|with_unfolding_all rfl)only[Wz,n9,sO,oN,bB,ct,Es,L_,OG,Gg,Eo]
 obtain ⟨ob,ea⟩:=yM (tm:=tm) (v:=.tuple ⟨[]⟩) (κ:=iu 1 (oH (RP 55) (QU.seq .ret) (rU False [.tmp 4,.tmp 5] κ))) gl (by omega)
 rw[ea]
 have gq2:(hL.bl.aS h.nx ob).get q=some (aa [.slice none 0 0] 116 false):=(T.ah _ _ (by omega)).trans gq
 simp(disch:=first|omega|simp only[Wd]<;>omega|with_unfolding_all rfl)only[Wz,zW,oN,n9,Q3,YH,↓T.b6,dG,bB,ct,h6,gq2,QZ,OH,Q5]
 exact hk _ (jX.set (by omega) _)
end
theorem YP (h:Heap) (b o:Nat):lT Tryz.prog h 100 102 (.pointer (some ⟨b,o,none⟩)) (.pointer none)=some false:=by kernel_rfl
theorem Ma {β:Type} {fl:β} (cn:Bool) (b o:Nat) (h:Heap) (κ:Value→Heap→β):au fl Tryz.prog .eql 102 cn false (.pointer (some ⟨b,o,none⟩)) (.pointer none) h κ=κ (.bool false) h:=by simp only[au,YP,bP]
abbrev je (bits:List Int):List Value:=bits.map fun n=>.int .i64 n
def ql (a b:Int):Int:=IntKind.i64.wrap (BitVec.ofInt IntKind.i64.bits a &&& BitVec.ofInt IntKind.i64.bits b).toNat
theorem Ik {β:Type} {fl:β} (P:Program) (t:TypeId) (cn gd:Bool) (a b:Int) (h:Heap) (κ:Value→Heap→β):au fl P .and t cn gd (.int .i64 a) (.int .i64 b) h κ=κ (.int .i64 (ql a b)) h:=by
 simp only[au,eN,jF,eO,cW]; rfl
def orI (a b:Int):Int:=IntKind.i64.wrap (BitVec.ofInt IntKind.i64.bits a ||| BitVec.ofInt IntKind.i64.bits b).toNat
theorem Df {β:Type} {fl:β} (P:Program) (t:TypeId) (cn gd:Bool) (a b:Int) (h:Heap) (κ:Value→Heap→β):au fl P .or t cn gd (.int .i64 a) (.int .i64 b) h κ=κ (.int .i64 (orI a b)) h:=by
 simp only[au,eN,jF,eO,cW]; rfl
def anI (a b:Int):Int:=IntKind.i64.wrap (BitVec.ofInt IntKind.i64.bits a &&& ~~~ (BitVec.ofInt IntKind.i64.bits b)).toNat
theorem Mb {β:Type} {fl:β} (P:Program) (t:TypeId) (cn gd:Bool) (a b:Int) (h:Heap) (κ:Value→Heap→β):au fl P .andNot t cn gd (.int .i64 a) (.int .i64 b) h κ=κ (.int .i64 (anI a b)) h:=by
 simp only[au,eN,jF,eO,cW]; rfl
section
variable {h:Heap} {pb ib:Nat} {bits:List Int}
theorem rJ (gp:h.bl.get pb=some (aa [.slice (some ⟨ib,0,none⟩) bits.length bits.length] 193 false)) {i:Nat} (hi:i<bits.length) (κ:KQ) (hk:κ (.int .i64 0) h) :
  CallW Tryz.prog 136 [.pointer (some ⟨pb,0,none⟩),.int .i64 (i:Int)] h κ:=by
 refine aj mixed ?_
 rw[St]
 simp(disch:=first|omega|simp only[Wd]<;>omega|with_unfolding_all rfl)only[Wz,Ma,BI,cg (show (0:Int)≤(i:Int) by omega),ax,gp,a_ (show ¬(bits.length:Int)≤(i:Int) by omega)]
 exact hk
theorem Ag {i:Nat} {n:Int} (hi:bits[i]? = some n):(je bits)[i]? = some (.int .i64 n):=by rw[List.getElem?_map,hi]; rfl
theorem wT {i:Nat} {n:Int} (hi:i<bits.length):over (je bits) i [.int .i64 n]=je (bits.set i n):=by
 unfold over je
 rw[List.map_set,List.set_eq_take_append_cons_drop,if_pos (by simpa using hi)]
 simp
theorem Dg (gp:h.bl.get pb=some (aa [.slice (some ⟨ib,0,none⟩) bits.length bits.length] 193 false)) (gi:h.bl.get ib=some (aa (je bits) 3 false)) {i:Nat} {n:Int} (hi:bits[i]? = some n) (b:Int) (κ:KQ) (hk:κ (.bool (!decide (ql n b=0))) h) :
  CallW Tryz.prog 99 [.pointer (some ⟨pb,0,none⟩),.int .i64 (i:Int),.int .i64 b] h κ:=by
 have hil:=(List.getElem?_eq_some_iff.1 hi).1
 have r:=Ag hi
 have Vr:(je bits).length=bits.length:=List.length_map _
 refine aj mixed ?_
 rw[W5]
 refine rJ gp hil _ ?_
 simp(disch:=first|omega|simp only[Wd]<;>omega|with_unfolding_all rfl)only[Wz,ax,gp,aN,gi,r,Nat.mul_one,Ik]
 exact hk
theorem Dh (gp:h.bl.get pb=some (aa [.slice (some ⟨ib,0,none⟩) bits.length bits.length] 193 false)) (gi:h.bl.get ib=some (aa (je bits) 3 false)) {i:Nat} {n:Int} (hi:bits[i]? = some n) (κ:KQ) (hk:κ (.bool (!decide (ql n 1=0))) h) :
  CallW Tryz.prog 61 [.pointer (some ⟨pb,0,none⟩),.int .i64 (i:Int)] h κ:=by
 refine aj mixed ?_
 rw[WJ]
 exact Dg gp gi hi 1 _ hk
theorem Uw (gp:h.bl.get pb=some (aa [.slice (some ⟨ib,0,none⟩) bits.length bits.length] 193 false)) (gi:h.bl.get ib=some (aa (je bits) 3 false)) (hib:ib<h.nx∧h.lo≤ib) {i:Nat} (hi:bits[i]? = some 0) (κ:KQ)
  (hk:κ (.tuple ⟨[.bool false,.int .i64 0]⟩) ⟨h.nx,h.bl.aS ib (aa (je (bits.set i 1)) 3 false),h.lo⟩) :
  CallW Tryz.prog 260 [.pointer (some ⟨pb,0,none⟩),.int .i64 (i:Int)] h κ:=by
 have hil:=(List.getElem?_eq_some_iff.1 hi).1
 have r:=Ag hi
 have Vr:(je bits).length=bits.length:=List.length_map _
 have ov:=wT (bits:=bits) (n:=1) hil
 have z1:ql 0 1=0:=by decide
 have z2:ql 0 2=0:=by decide
 have z3:orI 0 1=1:=by decide
 refine aj mixed ?_
 rw[Tc]
 refine rJ gp hil _ ?_
 simp(disch:=first|omega|simp only[Wd]<;>omega|with_unfolding_all rfl)only[Wz,Ce]
 refine Dg gp gi hi 1 _ ?_
 simp(disch:=first|omega|simp only[Wd]<;>omega|with_unfolding_all rfl)only[Wz,bf z1]
 refine aj mixed ?_
 rw[Tp]
 refine aj mixed ?_
 rw[Ty]
 refine Dg gp gi hi 2 _ ?_
 simp(disch:=first|omega|simp only[Wd]<;>omega|with_unfolding_all rfl)only[Wz,bf z2,Cd,ax,gp,aN,gi,r,Nat.mul_one,Df,z3,ov]
 exact hk
theorem Mc (gp:h.bl.get pb=some (aa [.slice (some ⟨ib,0,none⟩) bits.length bits.length] 193 false)) (gi:h.bl.get ib=some (aa (je bits) 3 false)) (hib:ib<h.nx∧h.lo≤ib) {i:Nat} (hi:bits[i]? = some 1) (κ:KQ)
  (hk:κ (.tuple ⟨[.bool true,.int .i64 0]⟩) ⟨h.nx,h.bl.aS ib (aa (je (bits.set i 0)) 3 false),h.lo⟩) :
  CallW Tryz.prog 98 [.pointer (some ⟨pb,0,none⟩),.int .i64 (i:Int)] h κ:=by
 have hil:=(List.getElem?_eq_some_iff.1 hi).1
 have r:=Ag hi
 have Vr:(je bits).length=bits.length:=List.length_map _
 have ov:=wT (bits:=bits) (n:=0) hil
 have z1:¬ql 1 1=0:=by decide
 have z3:anI 1 1=0:=by decide
 refine aj mixed ?_
 rw[Qu]
 refine rJ gp hil _ ?_
 simp(disch:=first|omega|simp only[Wd]<;>omega|with_unfolding_all rfl)only[Wz,zN]
 refine Dg gp gi hi 1 _ ?_
 simp(disch:=first|omega|simp only[Wd]<;>omega|with_unfolding_all rfl)only[Wz,a_ z1,zM,ax,gp,aN,gi,r,Nat.mul_one,Mb,z3,ov]
 exact hk
end
theorem ir {h:Heap} {a b:Nat} {v v':List Value} {t t':TypeId} {o o':Bool} (ha:h.bl.get a=some (aa v t o)) (hb:h.bl.get b=some (aa v' t' o')) (hn:t≠t'):a≠b:=by
 rintro rfl
 rw[ha] at hb
 exact aX hn hb
theorem eo {h:Heap} {a b:Nat} {v:List Value} {t:TypeId} {o:Bool} {es:List MapEntry} {cl:Nat} (ha:h.bl.get a=some (aa v t o)) (hb:h.bl.get b=some (.map es cl)):a≠b:=by
 rintro rfl
 rw[ha] at hb
 exact bu hb.symm
section
variable {h h':Heap} {A:WA} {tb:Nat} {bI:List (Option (Nat × Int))} {bits:List Int} {now:Int} {tv:Value} {cs:List (Option CR)} {wm:List IE} {kW:Nat} {begun:Int}
theorem Ux {i:Nat} {c c':CR} (hi:cs[i]? = some (some c)) (hc:c'.ca=c.ca):((cs.set i (some c')).map fun o=>cz (o.map (·.ca)))=cs.map fun o=>cz (o.map (·.ca)):=by
 have hil:=(List.getElem?_eq_some_iff.1 hi).1
 refine List.ext_getElem? fun j=>?_
 rw[List.getElem?_map,List.getElem?_map,List.getElem?_set]
 split
 ·rename_i e; subst e
  rw[hi]
  simp[hc,hil]
 ·rfl
theorem wU {i:Nat} {c:CR} {o:Option CR} (h:some c∈cs.set i o):o=some c∨∃j,j≠i∧cs[j]? = some (some c):=by
 obtain ⟨j,hj⟩:=List.getElem?_of_mem h
 rw[List.getElem?_set] at hj
 split at hj
 ·split at hj
  ·exact .inl (Option.some.inj hj)
  ·cases hj
 ·rename_i hne; exact .inr ⟨j,fun e=>hne e.symm,hj⟩
theorem RW.apart (s:RW h A tb bI bits now tv cs wm kW begun) {i j:Nat} {c c':CR} (hi:cs[i]? = some (some c)) (hj:cs[j]? = some (some c')) (hne:i≠j):c.ca≠c'.ca:=by
 rcases Nat.lt_or_gt_of_ne hne with h1 | h1
 ·exact dF.1 s.dc i j _ _ h1 hi hj c c' rfl rfl
 ·exact fun e=>dF.1 s.dc j i _ _ h1 hj hi c' c rfl rfl e.symm
theorem RW.dX (s:RW h A tb bI bits now tv cs wm kW begun) {i:Nat} {c c':CR} (hi:cs[i]? = some (some c)) (hc:c'.ca=c.ca):RW ⟨h.nx,h.bl.aS c.ca (bh A.wb c'),h.lo⟩ A tb bI bits now tv (cs.set i (some c')) wm kW begun:=by
 obtain ⟨k1,k2,k3⟩:=s.ca c (List.mem_of_getElem? hi)
 have up:∀{b:Nat} {v:List Value} {t:TypeId} {o:Bool},h.bl.get b=some (aa v t o)→99≠t→(h.bl.aS c.ca (bh A.wb c')).get b=some (aa v t o):=fun hb hn=>(T.ah _ _ (ir k3 hb hn)).trans hb
 refine ⟨s.xg,up s.gw (by decide),s.IC,up s.gl (by decide),s.LY,up s.gh (by decide),fun p hp=>⟨(s.ho p hp).1,up (s.ho p hp).2 (by decide)⟩,s.Lw,up s.gp (by decide),s.LZ,up s.gi (by decide),s.li,s.Ic,up s.gk (by decide),s.L0,?_,?_,?_,s.rP,(T.ah _ _ (eo k3 s.gm)).trans s.gm,s.nn,?_⟩
 ·rw[Ux hi hc]; exact up s.gc (by decide)
 ·rw[List.length_set]; exact s.lc
 ·intro d hd
  rcases wU hd with e | ⟨j,hne,hj⟩
  ·cases e
   rw[hc]
   exact ⟨k1,k2,T.af _ _ _⟩
  ·obtain ⟨g1,g2,g3⟩:=s.ca d (List.mem_of_getElem? hj)
   exact ⟨g1,g2,(T.ah _ _ (s.apart hi hj (fun e=>hne e.symm))).trans g3⟩
 ·refine pW s.dc (fun j q hj hq a b ha hb=>?_) (fun j q hj hq a b ha hb=>?_)
  ·subst ha; cases hb; rw[hc]; exact s.apart hq hi (by omega)
  ·subst hb; cases ha; rw[hc]; exact s.apart hi hq (by omega)
theorem RW.rK (s:RW h A tb bI bits now tv cs wm kW begun) (i:Nat) (o:Option CR) (ho:∀c,o=some c→c.ca<h.nx∧h.lo≤c.ca∧h.bl.get c.ca=some (bh A.wb c)∧∀(j:Nat) (d:CR),j≠i→cs[j]? = some (some d)→d.ca≠c.ca) :
  RW ⟨h.nx,h.bl.aS A.cb (aa ((cs.set i o).map fun o=>cz (o.map (·.ca))) 96 false),h.lo⟩ A tb bI bits now tv (cs.set i o) wm kW begun:=by
 have k3:=s.gc
 have up:∀{b:Nat} {v:List Value} {t:TypeId} {op:Bool},h.bl.get b=some (aa v t op)→96≠t→(h.bl.aS A.cb (aa ((cs.set i o).map fun o=>cz (o.map (·.ca))) 96 false)).get b=some (aa v t op):=fun hb hn=>(T.ah _ _ (ir k3 hb hn)).trans hb
 refine ⟨s.xg,up s.gw (by decide),s.IC,up s.gl (by decide),s.LY,up s.gh (by decide),fun p hp=>⟨(s.ho p hp).1,up (s.ho p hp).2 (by decide)⟩,s.Lw,up s.gp (by decide),s.LZ,up s.gi (by decide),s.li,s.Ic,up s.gk (by decide),s.L0,T.af _ _ _,?_,?_,s.rP,(T.ah _ _ (eo k3 s.gm)).trans s.gm,s.nn,?_⟩
 ·rw[List.length_set]; exact s.lc
 ·intro d hd
  rcases wU hd with e | ⟨j,hne,hj⟩
  ·obtain ⟨g1,g2,g3,_⟩:=ho d e
   exact ⟨g1,g2,up g3 (by decide)⟩
  ·obtain ⟨g1,g2,g3⟩:=s.ca d (List.mem_of_getElem? hj)
   exact ⟨g1,g2,up g3 (by decide)⟩
 ·refine pW s.dc (fun j q hj hq a b ha hb=>?_) (fun j q hj hq a b ha hb=>?_)
  ·subst ha; exact (ho b hb).2.2.2 j a (by omega) hq
  ·subst hb; exact fun e=>(ho a ha).2.2.2 j b (by omega) hq e.symm
theorem RW.wV (s:RW h A tb bI bits now tv cs wm kW begun) (mN:List (Option (Nat × Int))) (hl:mN.length=bI.length) (ho:∀p,some p∈mN→p.1<h.nx∧h.bl.get p.1=some (aa [.int .i64 p.2] 181 false)) :
  RW ⟨h.nx,h.bl.aS A.hb (aa (lN mN) 176 false),h.lo⟩ A tb mN bits now tv cs wm kW begun:=by
 have k3:=s.gh
 have up:∀{b:Nat} {v:List Value} {t:TypeId} {op:Bool},h.bl.get b=some (aa v t op)→176≠t→(h.bl.aS A.hb (aa (lN mN) 176 false)).get b=some (aa v t op):=fun hb hn=>(T.ah _ _ (ir k3 hb hn)).trans hb
 exact ⟨s.xg,up s.gw (by decide),s.IC,by rw[hl]; exact up s.gl (by decide),s.LY,T.af _ _ _,fun p hp=>⟨(ho p hp).1,up (ho p hp).2 (by decide)⟩,s.Lw,up s.gp (by decide),s.LZ,up s.gi (by decide),s.li,s.Ic,up s.gk (by decide),s.L0,up s.gc (by decide),s.lc,fun c hc=>⟨(s.ca c hc).1,(s.ca c hc).2.1,up (s.ca c hc).2.2 (by decide)⟩,s.rP,(T.ah _ _ (eo k3 s.gm)).trans s.gm,s.nn,s.dc⟩
theorem RW.uB (s:RW h A tb bI bits now tv cs wm kW begun) (bits':List Int) (hl:bits'.length=bits.length) :
  RW ⟨h.nx,h.bl.aS A.ib (aa (je bits') 3 false),h.lo⟩ A tb bI bits' now tv cs wm kW begun:=by
 have k3:=s.gi
 have up:∀{b:Nat} {v:List Value} {t:TypeId} {op:Bool},h.bl.get b=some (aa v t op)→3≠t→(h.bl.aS A.ib (aa (je bits') 3 false)).get b=some (aa v t op):=fun hb hn=>(T.ah _ _ (ir k3 hb hn)).trans hb
 exact ⟨s.xg,up s.gw (by decide),s.IC,up s.gl (by decide),s.LY,up s.gh (by decide),fun p hp=>⟨(s.ho p hp).1,up (s.ho p hp).2 (by decide)⟩,s.Lw,up s.gp (by decide),s.LZ,T.af _ _ _,hl.trans s.li,s.Ic,up s.gk (by decide),s.L0,up s.gc (by decide),s.lc,fun c hc=>⟨(s.ca c hc).1,(s.ca c hc).2.1,up (s.ca c hc).2.2 (by decide)⟩,s.rP,(T.ah _ _ (eo k3 s.gm)).trans s.gm,s.nn,s.dc⟩
theorem RW.rL (s:RW h A tb bI bits now tv cs wm kW begun) (sQ:Int) (Il:Value) :
  RW ⟨h.nx,h.bl.aS A.kb (aa [.int .i64 sQ,Il] 169 false),h.lo⟩ A tb bI bits sQ Il cs wm kW begun:=by
 have k3:=s.gk
 have up:∀{b:Nat} {v:List Value} {t:TypeId} {op:Bool},h.bl.get b=some (aa v t op)→169≠t→(h.bl.aS A.kb (aa [.int .i64 sQ,Il] 169 false)).get b=some (aa v t op):=fun hb hn=>(T.ah _ _ (ir k3 hb hn)).trans hb
 exact ⟨s.xg,up s.gw (by decide),s.IC,up s.gl (by decide),s.LY,up s.gh (by decide),fun p hp=>⟨(s.ho p hp).1,up (s.ho p hp).2 (by decide)⟩,s.Lw,up s.gp (by decide),s.LZ,up s.gi (by decide),s.li,s.Ic,T.af _ _ _,s.L0,up s.gc (by decide),s.lc,fun c hc=>⟨(s.ca c hc).1,(s.ca c hc).2.1,up (s.ca c hc).2.2 (by decide)⟩,s.rP,(T.ah _ _ (eo k3 s.gm)).trans s.gm,s.nn,s.dc⟩
theorem RW.wW (s:RW h A tb bI bits now tv cs wm kW begun) (b':Int) :
  RW ⟨h.nx,h.bl.aS A.wb (aa [.pointer (some ⟨tb,0,none⟩),.pointer (some ⟨A.lb,0,none⟩),.pointer (some ⟨A.pb,0,none⟩),.pointer (some ⟨A.kb,0,none⟩),.slice (some ⟨A.cb,0,none⟩) A.n A.n,.map (some A.mb),.int .i64 b'] 107 false),h.lo⟩ A tb bI bits now tv cs wm kW b':=by
 have k3:=s.gw
 have up:∀(o':bt) {b:Nat} {v:List Value} {t:TypeId} {op:Bool},h.bl.get b=some (aa v t op)→107≠t→(h.bl.aS A.wb o').get b=some (aa v t op):=fun o' _ _ _ _ hb hn=>(T.ah _ _ (ir k3 hb hn)).trans hb
 exact ⟨s.xg,T.af _ _ _,s.IC,up _ s.gl (by decide),s.LY,up _ s.gh (by decide),fun p hp=>⟨(s.ho p hp).1,up _ (s.ho p hp).2 (by decide)⟩,s.Lw,up _ s.gp (by decide),s.LZ,up _ s.gi (by decide),s.li,s.Ic,up _ s.gk (by decide),s.L0,up _ s.gc (by decide),s.lc,fun c hc=>⟨(s.ca c hc).1,(s.ca c hc).2.1,up _ (s.ca c hc).2.2 (by decide)⟩,s.rP,(T.ah _ _ (eo k3 s.gm)).trans s.gm,s.nn,s.dc⟩
theorem RW.EN (s:RW h A tb bI bits now tv cs wm kW begun) (kN:List IE) (dO:Nat) :
  RW ⟨h.nx,h.bl.aS A.mb (.map (kN.map tT) dO),h.lo⟩ A tb bI bits now tv cs kN dO begun:=by
 have k3:=s.gm
 have up:∀{b:Nat} {v:List Value} {t:TypeId} {op:Bool},h.bl.get b=some (aa v t op)→(h.bl.aS A.mb (.map (kN.map tT) dO)).get b=some (aa v t op):=fun hb=>(T.ah _ _ (fun e=>eo hb k3 e.symm)).trans hb
 exact ⟨s.xg,up s.gw,s.IC,up s.gl,s.LY,up s.gh,fun p hp=>⟨(s.ho p hp).1,up (s.ho p hp).2⟩,s.Lw,up s.gp,s.LZ,up s.gi,s.li,s.Ic,up s.gk,s.L0,up s.gc,s.lc,fun c hc=>⟨(s.ca c hc).1,(s.ca c hc).2.1,up (s.ca c hc).2.2⟩,s.rP,T.af _ _ _,s.nn,s.dc⟩
end
section
variable {h:Heap} {kb b q:Nat} {now t w m:Int} {rec:Rec Prop}
theorem YQ (kb:Nat):(Value.iface 217 (.pointer (some ⟨kb,1,none⟩)))=tmV kb:=rfl
theorem adr (tm:T Value) (h1:bX tm 1=.pointer (some ⟨q,0,none⟩)) (gq:h.bl.get q=some (aa [.pointer (some ⟨kb,0,none⟩)] 103 false)) (gk:h.bl.get kb=some (aa [.int .i64 now,.slice (some ⟨b,0,none⟩) 1 aD] 169 false)) (gb:h.bl.get b=some (aa [.int .i64 t,.int .i64 w,.int .i64 m] 214 true)) (κ:Ex→T Value→Heap→Prop)
  (hk:∀bU,bX bU 0=bX tm 0→bX bU 1=bX tm 1→bX bU 24=.bool (decide (t≤now))→κ .normal bU h):body False pP Tryz.prog rec d0 tm h κ:=by
 have r0:∀(β:Type) (fl:β) (h':Heap) (κ:Value→Heap→β),av fl 3 (.slice (some ⟨b,0,none⟩) 1 aD) (.int .i64 0) h' κ=κ (.pointer (some ⟨b,0,none⟩)) h':=fun β fl h' κ=>rfl
 rw[rd0]
 simp(disch:=first|omega|simp only[Wd]<;>omega|with_unfolding_all rfl)only[Wz,dG,h1,bB,ct,rI,Gw,↓T.b6,↓L9,QX,O5,gq,ax,gk,r0,gb]
 refine hk _ ?_ ?_ ?_
 ·simp (disch:=decide) only [ct]
 ·simp (disch:=decide) only [ct]
 ·simp (disch:=decide) only [ct,bB]
  by_cases e:now<t
  ·rw[bf e,a_ (show ¬t≤now by omega)]; rfl
  ·rw[a_ e,bf (show t≤now by omega)]; rfl
theorem YR {x:Option Addr} {cc:Nat} (tm:T Value) (h1:bX tm 1=.pointer (some ⟨q,0,none⟩)) (gq:h.bl.get q=some (aa [.pointer (some ⟨kb,0,none⟩)] 103 false)) (gk:h.bl.get kb=some (aa [.int .i64 now,.slice x 0 cc] 169 false)) (κ:Ex→T Value→Heap→Prop)
  (hk:∀bU,bX bU 24=.bool false→κ .normal bU h):body False pP Tryz.prog rec d0 tm h κ:=by
 rw[rd0]
 simp(disch:=first|omega|simp only[Wd]<;>omega|with_unfolding_all rfl)only[Wz,dG,h1,bB,ct,rI,Gw,↓T.b6,↓L9,YI,ac_,gq,ax,gk,cg (show (0:Int)≤0 by omega)]
 refine hk _ ?_
 simp (disch:=decide) only [ct,bB]
theorem ads (tm:T Value) (h1:bX tm 1=.pointer (some ⟨q,0,none⟩)) (hq:q<h.nx) (hqk:q≠kb) (gq:h.bl.get q=some (aa [.pointer (some ⟨kb,0,none⟩)] 103 false)) (gk:h.bl.get kb=some (aa [.int .i64 now,.slice (some ⟨b,0,none⟩) 1 aD] 169 false)) (hkb:kb<h.nx∧h.lo≤kb) (gb:h.bl.get b=some (aa [.int .i64 t,.int .i64 w,.int .i64 m] 214 true)) (hb:b<h.nx∧h.lo≤b) (κ:Ex→T Value→Heap→Prop)
  (hk:∀bU h' p,bX bU 0=bX tm 0→bX bU 1=bX tm 1→bX bU 4=.bool true→bX bU 3=.pointer (some ⟨p,0,none⟩)→h.nx≤p→p<h'.nx→h'.bl.get p=some (aa [.int .i64 t,.int .i64 w,.int .i64 m] 214 false)→h'.lo=h.lo→(∀c,c<h.nx→c≠kb→h'.bl.get c=h.bl.get c)→h'.bl.get kb=some (aa [.int .i64 now,.slice (some ⟨b,0,none⟩) 0 aD] 169 false)→κ .normal bU h'):body False pP Tryz.prog rec d1 tm h κ:=by
 rw[rd1]
 simp(disch:=first|omega|simp only[Wd]<;>omega|with_unfolding_all rfl)only[Wz,dG,h1,bB,ct,↓T.b6,gq,ax,YQ]
 refine Uu gk hkb gb hb _ ?_
 intro h2 n2 l2 f2 O4
 simp(disch:=first|omega|simp only[Wd]<;>omega|with_unfolding_all rfl)only[Wz,dG,bB,ct,↓T.b6,cq]
 refine hk _ _ h2.nx ?_ ?_ ?_ ?_ n2 (Nat.lt_succ_self _) (T.af _ _ _) l2 (fun c hc hn=>(T.ah _ _ (by omega)).trans (f2 c hc hn)) ((T.ah _ _ (by omega)).trans O4)
 ·simp (disch:=decide) only [ct]
 ·simp (disch:=decide) only [ct]
 ·simp (disch:=decide) only [ct,bB]
 ·simp (disch:=decide) only [ct,bB]
theorem adu {l o p n:Nat} {gJ:T Value} (tm:T Value) (h4:bX tm 4=.bool true) (h0:bX tm 0=.func (.yield l) #[] #[]) (h3:bX tm 3=.pointer (some ⟨p,0,none⟩)) (gp:h.bl.get p=some (aa [.int .i64 t,.int .i64 w,.int .i64 m] 214 false)) (gl:h.bl.get l=some (kM .ready gJ)) (hl:l<h.nx∧h.lo≤l) (h6:bX gJ 6=ptrTo o) (ho:o<h.nx∧h.lo≤o) (go:h.bl.get o=some (aa [.slice none 0 0] 116 false)) (κ:Ex→T Value→Heap→Prop)
  (hk:∀bU h' v',bX bU 41=.bool false→bX bU 1=bX tm 1→h.nx≤h'.nx→h'.lo=h.lo→(∀c,c<h.nx→c≠o→c≠l→h'.bl.get c=h.bl.get c)→h'.bl.get l=some (kM .ready gJ)→h'.bl.get o=some (aa [v'] 116 false)→(∃a,fu lP a 120 h' v' [(⟨t,w,m⟩:De)])→κ .normal bU h'):body False pP Tryz.prog (RP (n+6)) d2 tm h κ:=by
 have hlo:l≠o:=by rintro rfl; rw[gl] at go; unfold aa at go; cases go
 rw[rd2]
 simp(disch:=first|omega|simp only[Wd]<;>omega|with_unfolding_all rfl)only[Wz,dG,h4,h0,h3,gp,bB,ct,↓T.b6,↓YM,QY,O5,O6,Ig gl,adj]
 rw[rp8]
 simp(disch:=first|omega|simp only[Wd]<;>omega|with_unfolding_all rfl)only[Wz,dG,bB,ct,↓T.b6]
 obtain ⟨hA,aK⟩:∃hA:Heap,hA=⟨h.nx+1,(h.bl.aS (h.nx) (aa [.int .i64 t,.int .i64 w,.int .i64 m] 120 false)),h.lo⟩:=⟨_,rfl⟩
 have aO:Le h hA:=by subst aK; exact ((Le.refl h).new _)
 have gA:hA.bl.get (h.nx)=some (aa [.int .i64 t,.int .i64 w,.int .i64 m] 120 false):=by subst aK; exact T.af _ _ _
 have gH:hA.nx=h.nx+1:=by subst aK; rfl
 have gI:hA.lo=h.lo:=by subst aK; rfl
 rw[←aK]
 clear aK
 have glA:=(aO.get l hl.1).trans gl
 have goA:=(aO.get o ho.1).trans go
 rw[Ih glA (by omega)]
 simp(disch:=first|omega|simp only[Wd]<;>omega|with_unfolding_all rfl)only[Wz,oF,adk]
 rw[rp9]
 have go1:(hA.bl.aS l (kM .busy gJ)).get o=_:=(T.ah _ _ hlo).trans goA
 have gA1:(hA.bl.aS l (kM .busy gJ)).get h.nx=_:=(T.ah _ _ (by omega)).trans gA
 simp(disch:=first|omega|simp only[Wd]<;>omega|with_unfolding_all rfl)only[Wz,dG,bB,ct,↓T.b6,h6,go1,gA1]
 obtain ⟨h5,e5⟩:∃h5:Heap,h5=⟨hA.nx+1,(hA.bl.aS l (kM .busy gJ)).aS hA.nx (aa [.int .i64 t,.int .i64 w,.int .i64 m] 120 false),hA.lo⟩:=⟨_,rfl⟩
 have n5:h5.nx=hA.nx+1:=by rw[e5]
 have l5:h5.lo=hA.lo:=by rw[e5]
 have go5:h5.bl.get o=some (aa [.slice none 0 0] 116 false):=by rw[e5]; exact (T.ah _ _ (by omega)).trans go1
 have Zy:h5.bl.get l=some (kM .busy gJ):=by rw[e5]; exact (T.ah _ _ (by omega)).trans (T.af _ _ _)
 have gx5:h5.bl.get hA.nx=some (aa ([(⟨t,w,m⟩:De)].flatMap lP) 120 false):=by rw[e5]; exact T.af _ _ _
 have f5:∀c,c<h.nx→c≠l→h5.bl.get c=h.bl.get c:=fun c hc hn=>by rw[e5]; exact (T.ah _ _ (by omega)).trans ((T.ah _ _ (fun e=>hn e.symm)).trans (aO.get c hc))
 rw[←e5]
 clear e5
 have hone:Sl lP h5 (.slice (some ⟨hA.nx,0,none⟩) 1 1) [(⟨t,w,m⟩:De)]:=Sl.new (L:=[(⟨t,w,m⟩:De)]) (e:=120) (op:=false) (by omega) gx5 _
 refine mg (enc:=lP) (a:=h5) (L:=[]) (M:=[(⟨t,w,m⟩:De)]) sM yL (by decide) (by decide) (.inl ⟨rfl,.inl rfl⟩) hone (Le.refl h5) (by simp) (by omega) _ ?_
 intro v6 YS IA sG _ _
 rw[List.nil_append] at IA
 have n6:=sG.nx
 have l6:=sG.lo
 have go6:=(sG.get o (by omega)).trans go5
 have gl6:=(sG.get l (by omega)).trans Zy
 obtain ⟨xv,cv,ev6,_⟩:=(show Sl lP YS v6 _ from IA.sl)
 subst ev6
 simp(disch:=first|omega|simp only[Wd]<;>omega|with_unfolding_all rfl)only[Wz,go6]
 have Yb:(YS.bl.aS o (aa [.slice xv [(⟨t,w,m⟩:De)].length cv] 116 false)).get l=some (kM .busy gJ):=(T.ah _ _ (fun e=>hlo e.symm)).trans gl6
 rw[zW,O7 Yb (by show YS.lo≤l; omega)]
 simp(disch:=first|omega|simp only[Wd]<;>omega|with_unfolding_all rfl)only[Wz]
 have OE:=fu.put IA (c:=o) (by rw[go6]; exact aV) (aa [.slice xv [(⟨t,w,m⟩:De)].length cv] 116 false)
 have ho8:=fu.put OE (c:=l) (by rw[Yb]; intro hc; unfold aa at hc; cases hc) (kM .ready gJ)
 refine hk _ _ (.slice xv [(⟨t,w,m⟩:De)].length cv) ?_ ?_ (by show h.nx≤YS.nx; omega) (by show YS.lo=h.lo; omega) (fun c hc h1 h2=>(T.ah _ _ (fun e=>h2 e.symm)).trans ((T.ah _ _ (fun e=>h1 e.symm)).trans ((sG.get c (by omega)).trans (f5 c hc h2)))) (T.af _ _ _) ((T.ah _ _ hlo).trans (T.af _ _ _)) ⟨_,ho8⟩
 ·simp (disch:=decide) only [ct,bB]
 ·simp (disch:=decide) only [ct,bB]
theorem Im (tm:T Value) (h6:bX tm 6=ptrTo q) (hq:q+1<h.nx∧h.lo≤q) (gq:h.bl.get q=some (aa [.slice none 0 0] 116 false)) (Ij:h.bl.get (q+1)=some (aa [.pointer (some ⟨kb,0,none⟩)] 103 false)) (gk:h.bl.get kb=some (aa [.int .i64 now,.slice (some ⟨b,0,none⟩) 1 aD] 169 false)) (hkb:kb<h.nx∧h.lo≤kb) (gb:h.bl.get b=some (aa [.int .i64 t,.int .i64 w,.int .i64 m] 214 true)) (hb:b<h.nx∧h.lo≤b) (hd:t≤now) (κ:KQ)
  (hk:∀h' v',h.nx≤h'.nx→h'.lo=h.lo→(∀c,c<h.nx→c≠kb→c≠q→h'.bl.get c=h.bl.get c)→h'.bl.get kb=some (aa [.int .i64 now,.slice (some ⟨b,0,none⟩) 0 aD] 169 false)→Sl lP h' v' [(⟨t,w,m⟩:De)]→κ (.tuple ⟨[v',.int .i64 0]⟩) h') :
  c9 False pP Tryz.prog (RP 52) [34] p8 (.block 2 p9) tm h (iu 1 (oH (RP 55) (QU.seq .ret) (rU False [.tmp 4,.tmp 5] κ))) (.func (.func fD) ⟨[]⟩ ⟨[.pointer (some ⟨q+1,0,none⟩)]⟩):=by
 have hqk:q≠kb:=ir gq gk (by decide)
 have YT:q+1≠kb:=ir Ij gk (by decide)
 rw[rfP,Q4,QW,Ln]
 obtain ⟨hL,sP⟩:∃hL:Heap,hL=⟨h.nx+1,(h.bl.aS (h.nx) (bt.loop .ready none tm [34] p8 (Code.block 2 p9))),h.lo⟩:=⟨_,rfl⟩
 have jX:Le h hL:=by subst sP; exact ((Le.refl h).new _)
 have gl:hL.bl.get (h.nx)=some (bt.loop .ready none tm [34] p8 (Code.block 2 p9)):=by subst sP; exact T.af _ _ _
 have adn:hL.nx=h.nx+1:=by subst sP; rfl
 have ado:hL.lo=h.lo:=by subst sP; rfl
 rw[←sP]
 clear sP
 have O8:=jX.nx
 have O9:=jX.lo
 have gq:=(jX.get _ (by omega)).trans gq
 have Ij:=(jX.get _ (by omega)).trans Ij
 have gk:=(jX.get _ (by omega)).trans gk
 have gb:=(jX.get _ (by omega)).trans gb
 simp(disch:=first|omega|simp only[Wd]<;>omega|with_unfolding_all rfl)only[Wz,oF,EL,n9,Uv]
 refine adr (q:=q+1) _ ?_ Ij gk gb _ ?_
 ·simp (disch:=decide) only [ct,bB]
 intro M6 a0 a1 a24
 have a0':bX M6 0=.func (.yield h.nx) #[] #[]:=by rw[a0]; simp (disch:=decide) only [ct,bB]
 have M7:bX M6 1=.pointer (some ⟨q+1,0,none⟩):=by rw[a1]; simp (disch:=decide) only [ct,bB]
 rw[bf hd] at a24
 simp(disch:=first|omega|simp only[Wd]<;>omega|with_unfolding_all rfl)only[Wz,oN,sO,a24,X9,EM,oF,n9,adl]
 refine ads M6 M7 (by omega) YT Ij gk (by omega) gb (by omega) _ ?_
 intro PS h2 p b0 b1 b4 b3 p1 p2 gp l2 f2 O4
 have gl2:=(f2 h.nx (by omega) (by omega)).trans gl
 have gq2:=(f2 q (by omega) hqk).trans gq
 have adv:=(f2 (q+1) (by omega) YT).trans Ij
 simp(disch:=first|omega|simp only[Wd]<;>omega|with_unfolding_all rfl)only[Wz,oN,n9,adm]
 refine adu (n:=39) PS b4 (b0.trans a0') b3 gp gl2 (by omega) h6 (by omega) gq2 _ ?_
 intro tm3 h3 v3 c41 c1 n3 l3 f3 X_ gq3 sl3
 have gk3:=(f3 kb (by omega) (fun e=>hqk e.symm) (by omega)).trans O4
 have adw:=(f3 (q+1) (by omega) (by omega) (by omega)).trans adv
 simp(disch:=first|omega|simp only[Wd]<;>omega|with_unfolding_all rfl)only[Wz,oN,sO,c41,Es,EM,zW,EL,n9,Uv]
 refine YR (q:=q+1) tm3 (c1.trans (b1.trans M7)) adw gk3 _ ?_
 intro tm4 e24
 simp(disch:=first|omega|simp only[Wd]<;>omega|with_unfolding_all rfl)only[Wz,oN,sO,e24,Es,L_,OG,Gg,Eo]
 obtain ⟨ob,ea⟩:=yM (tm:=tm) (v:=.tuple ⟨[]⟩) (κ:=iu 1 (oH (RP 55) (QU.seq .ret) (rU False [.tmp 4,.tmp 5] κ))) X_ (by omega)
 rw[ea]
 have gq4:(h3.bl.aS h.nx ob).get q=some (aa [v3] 116 false):=(T.ah _ _ (by omega)).trans gq3
 simp(disch:=first|omega|simp only[Wd]<;>omega|with_unfolding_all rfl)only[Wz,zW,oN,n9,Q3,YH,↓T.b6,dG,bB,ct,h6,gq4,QZ,OH,Q5]
 refine hk _ v3 (by show h.nx≤h3.nx; omega) (by show h3.lo=h.lo; omega) (fun c hc h1 h2=>(T.ah _ _ (by omega)).trans ((f3 c (by omega) h2 (by omega)).trans ((f2 c (by omega) h1).trans (jX.get c hc)))) ((T.ah _ _ (by omega)).trans gk3) ?_
 obtain ⟨a3,ow3⟩:=sl3
 exact (fu.put ow3 (c:=h.nx) (by rw[X_]; intro hc; unfold aa at hc; cases hc) ob).sl
end
structure TA where
 tb:Nat
 bw:Nat
 bp:Nat
 bl:Nat
 c:dg
 vb:Value
 aH:Nat
structure TD where
 Ts:List TB
 W:List IE
 wc:Nat
 F:List Int
 B:List Bool
structure RD where
 bI:List (Option (Nat × Int))
 bits:List Int
 now:Int
 tv:Value
 cs:List (Option CR)
 wm:List IE
 kW:Nat
 begun:Int
abbrev tW (h:Heap) (a:TA) (N:Nat) (d:TD):Prop:=gK h a.tb a.bw a.bp a.bl a.c a.vb a.aH N d.Ts d.W d.wc d.F d.B
abbrev RWx (h:Heap) (A:WA) (tb:Nat) (R:RD):Prop:=RW h A tb R.bI R.bits R.now R.tv R.cs R.wm R.kW R.begun
structure WS (h:Heap) (A:WA) (a:TA) (N:Nat) (d:TD) (R:RD):Prop where
 t:tW h a N d
 r:RWx h A a.tb R
 mw:A.mb≠a.bw
 mm:∀b∈d.Ts,A.mb≠b.bm
 lo:h.lo≤h.nx
section
variable {h h':Heap} {A:WA} {a:TA} {N:Nat} {d:TD} {R:RD}
theorem WS.le (s:WS h A a N d R) (l:Le h h'):WS h' A a N d R:=⟨s.t.le l,s.r.le l,s.mw,s.mm,by have:=l.nx; have:=l.lo; have:=s.lo; omega⟩
theorem WS.up (s:WS h A a N d R) {N':Nat} (hN:N≤N'):WS h A a N' d R:=⟨s.t.up hN,s.r,s.mw,s.mm,s.lo⟩
theorem WS.table (s:WS h A a N d R) {N':Nat} {d':TD} (t':tW h' a N' d') (f:rE d.Ts a.bw a.bp a.bl h h') (hb:d'.Ts.map (·.bm)=d.Ts.map (·.bm)):WS h' A a N' d' R:=by
 refine ⟨t',s.r.YC s.t.is f s.mw s.mm,s.mw,fun b hb'=>?_,by have:=f.nx; have:=f.lo; have:=s.lo; omega⟩
 have:b.bm∈d.Ts.map (·.bm):=by rw[←hb]; exact List.mem_map.2 ⟨b,hb',rfl⟩
 obtain ⟨b0,hb0,e⟩:=List.mem_map.1 this
 rw[←e]; exact s.mm b0 hb0
theorem tW.EO (s:tW h a N d) {x:Nat} {v:List Value} {t:TypeId} {op:Bool} (hg:h.bl.get x=some (aa v t op)) (hn:∀ty o,sL ty o→t≠ty) (o:bt):tW ⟨h.nx,h.bl.aS x o,h.lo⟩ a N d:=
 gK.put s o (fun vs ty o' ht e=>by rw[hg] at e; exact aX (hn ty o' ht) e) (eo hg s.is.lK) fun b hb=>eo hg (s.is.bk b hb).eM
theorem Vu {t:TypeId} (h1:t≠147) (h2:t≠182) (h3:t≠220) (h4:t≠81) (h5:t≠83) (h6:t≠225) (h7:t≠4) (h8:t≠3):∀ty o,sL ty o→t≠ty:=by
 rintro ty o (rfl | rfl | rfl | rfl | rfl | rfl | rfl | ⟨rfl,_⟩)<;>assumption
theorem WS.dX (s:WS h A a N d R) {i:Nat} {c c':CR} (hi:R.cs[i]? = some (some c)) (hc:c'.ca=c.ca):WS ⟨h.nx,h.bl.aS c.ca (bh A.wb c'),h.lo⟩ A a N d { R with cs:=R.cs.set i (some c') }:=
 ⟨tW.EO s.t (s.r.ca c (List.mem_of_getElem? hi)).2.2 (Vu (by decide) (by decide) (by decide) (by decide) (by decide) (by decide) (by decide) (by decide)) _,s.r.dX hi hc,s.mw,s.mm,s.lo⟩
theorem WS.rK (s:WS h A a N d R) (i:Nat) (o:Option CR) (ho:∀c,o=some c→c.ca<h.nx∧h.lo≤c.ca∧h.bl.get c.ca=some (bh A.wb c)∧∀(j:Nat) (d:CR),j≠i→R.cs[j]? = some (some d)→d.ca≠c.ca) :
  WS ⟨h.nx,h.bl.aS A.cb (aa ((R.cs.set i o).map fun o=>cz (o.map (·.ca))) 96 false),h.lo⟩ A a N d { R with cs:=R.cs.set i o }:=
 ⟨tW.EO s.t s.r.gc (Vu (by decide) (by decide) (by decide) (by decide) (by decide) (by decide) (by decide) (by decide)) _,s.r.rK i o ho,s.mw,s.mm,s.lo⟩
theorem WS.wV (s:WS h A a N d R) (mN:List (Option (Nat × Int))) (hl:mN.length=R.bI.length) (ho:∀p,some p∈mN→p.1<h.nx∧h.bl.get p.1=some (aa [.int .i64 p.2] 181 false)) :
  WS ⟨h.nx,h.bl.aS A.hb (aa (lN mN) 176 false),h.lo⟩ A a N d { R with bI:=mN }:=
 ⟨tW.EO s.t s.r.gh (Vu (by decide) (by decide) (by decide) (by decide) (by decide) (by decide) (by decide) (by decide)) _,s.r.wV mN hl ho,s.mw,s.mm,s.lo⟩
theorem WS.uB (s:WS h A a N d R) (bits':List Int) (hl:bits'.length=R.bits.length) :
  WS ⟨h.nx,h.bl.aS A.ib (aa (je bits') 3 false),h.lo⟩ A a N d { R with bits:=bits' }:=by
 have g:=s.r.gi
 refine ⟨gK.put s.t _ ?_ (eo g s.t.is.lK) fun b hb=>eo g (s.t.is.bk b hb).eM,s.r.uB bits' hl,s.mw,s.mm,s.lo⟩
 rintro vs ty op (rfl | rfl | rfl | rfl | rfl | rfl | rfl | ⟨rfl,rfl⟩)<;>rw[g]<;>first | exact aV | exact aX (by decide)
theorem WS.rL (s:WS h A a N d R) (sQ:Int) (Il:Value) :
  WS ⟨h.nx,h.bl.aS A.kb (aa [.int .i64 sQ,Il] 169 false),h.lo⟩ A a N d { R with now:=sQ,tv:=Il }:=
 ⟨tW.EO s.t s.r.gk (Vu (by decide) (by decide) (by decide) (by decide) (by decide) (by decide) (by decide) (by decide)) _,s.r.rL sQ Il,s.mw,s.mm,s.lo⟩
theorem WS.wW (s:WS h A a N d R) (b':Int) :
  WS ⟨h.nx,h.bl.aS A.wb (aa [.pointer (some ⟨a.tb,0,none⟩),.pointer (some ⟨A.lb,0,none⟩),.pointer (some ⟨A.pb,0,none⟩),.pointer (some ⟨A.kb,0,none⟩),.slice (some ⟨A.cb,0,none⟩) A.n A.n,.map (some A.mb),.int .i64 b'] 107 false),h.lo⟩ A a N d { R with begun:=b' }:=
 ⟨tW.EO s.t s.r.gw (Vu (by decide) (by decide) (by decide) (by decide) (by decide) (by decide) (by decide) (by decide)) _,s.r.wW b',s.mw,s.mm,s.lo⟩
theorem WS.EN (s:WS h A a N d R) (kN:List IE) (dO:Nat) :
  WS ⟨h.nx,h.bl.aS A.mb (.map (kN.map tT) dO),h.lo⟩ A a N d { R with wm:=kN,kW:=dO }:=by
 have g:=s.r.gm
 exact ⟨gK.put s.t _ (fun vs ty op _=>by rw[g]; exact bu) s.mw s.mm,s.r.EN kN dO,s.mw,s.mm,s.lo⟩
end
theorem YU (h:Heap) (b o:Nat):lT Tryz.prog h 100 32 (.pointer (some ⟨b,o,none⟩)) (.pointer none)=some false:=by kernel_rfl
theorem er {β:Type} {fl:β} (cn:Bool) (b o:Nat) (h:Heap) (κ:Value→Heap→β):au fl Tryz.prog .eql 32 cn false (.pointer (some ⟨b,o,none⟩)) (.pointer none) h κ=κ (.bool false) h:=by simp only[au,YU,bP]
theorem Md {β:Type} {fl:β} (cn:Bool) (b o:Nat) (h:Heap) (κ:Value→Heap→β):au fl Tryz.prog .neq 32 cn false (.pointer (some ⟨b,o,none⟩)) (.pointer none) h κ=κ (.bool true) h:=by simp only[au,YU,bP,Bool.not_false]
theorem YV (h:Heap) (b o:Nat):lT Tryz.prog h 100 96 (.pointer (some ⟨b,o,none⟩)) (.pointer none)=some false:=by kernel_rfl
theorem Q7 (h:Heap):lT Tryz.prog h 100 96 (.pointer none) (.pointer none)=some true:=by kernel_rfl
theorem Gx {β:Type} {fl:β} (cn:Bool) (o:Option Nat) (h:Heap) (κ:Value→Heap→β):au fl Tryz.prog .eql 96 cn false (cz o) (.pointer none) h κ=κ (.bool o.isNone) h:=by
 cases o with
 | none=>simp only[cz,au,Q7,bP,Option.isNone]
 | some b=>simp only[cz,au,YV,bP,Option.isNone]
theorem Ah {β:Type} {fl:β} (cn:Bool) (o:Option Nat) (h:Heap) (κ:Value→Heap→β):au fl Tryz.prog .neq 96 cn false (cz o) (.pointer none) h κ=κ (.bool o.isSome) h:=by
 cases o with
 | none=>simp only[cz,au,Q7,bP,Bool.not_true]; rfl
 | some b=>simp only[cz,au,YV,bP,Bool.not_false]; rfl
section
variable {h:Heap} {A:WA} {a:TA} {N:Nat} {d:TD} {R:RD}
theorem gX (s:WS h A a N d R) {i:Nat} (hi:i<A.n) (κ:KQ) (hk:κ (.bool true) h):CallW Tryz.prog 41 [.pointer (some ⟨A.wb,0,none⟩),.int .i64 (i:Int)] h κ:=by
 have gw:=s.r.gw
 refine aj mixed ?_
 rw[Ww]
 simp(disch:=first|omega|simp only[Wd]<;>omega|with_unfolding_all rfl)only[Wz,Md,bf (show (0:Int)≤(i:Int) by omega),ax,gw,fH (show (i:Int)<(A.n:Int) by omega)]
 exact hk
theorem eu (s:WS h A a N d R) {i:Nat} {o:Option CR} (hi:R.cs[i]? = some o):(R.cs.map fun o=>cz (o.map (·.ca)))[i]? = some (cz (o.map (·.ca))):=by rw[List.getElem?_map,hi]; rfl
theorem lQ (s:WS h A a N d R) {i:Nat} {o:Option CR} (hi:R.cs[i]? = some o):i<A.n:=by
 have:=(List.getElem?_eq_some_iff.1 hi).1
 have:=s.r.lc
 omega
theorem Me (s:WS h A a N d R) {i:Nat} {o:Option CR} (hi:R.cs[i]? = some o) (κ:KQ) (hk:κ (cz (o.map (·.ca))) h):CallW Tryz.prog 40 [.pointer (some ⟨A.wb,0,none⟩),.int .i64 (i:Int)] h κ:=by
 have gw:=s.r.gw
 have gc:=s.r.gc
 have hil:=lQ s hi
 have r:=eu s hi
 refine aj mixed ?_
 rw[Wu]
 refine gX s hil _ ?_
 simp(disch:=first|omega|simp only[Wd]<;>omega|with_unfolding_all rfl)only[Wz,ax,gw,aN,gc,r,Nat.mul_one]
 exact hk
theorem Uy (a b:Int):(!decide (b<a))=decide (a≤b):=by
 by_cases h:b<a
 ·rw[bf h,a_ (show ¬a≤b by omega)]; rfl
 ·rw[a_ h,bf (show a≤b by omega)]; rfl
theorem Uz (x:xR) (h:Heap) (κ:KQ) (hlo:h.lo≤h.nx) (hk:∀h',Le h h'→κ (.bool (rG x)) h'):CallW Tryz.prog 43 [.agg ⟨EJ x⟩] h κ:=by
 refine aj mixed ?_
 rw[WB]
 simp(disch:=first|omega|simp only[Wd]<;>omega|with_unfolding_all rfl)only[Wz,EJ]
 obtain ⟨hA,aK⟩:∃hA:Heap,hA=⟨h.nx+1,(h.bl.aS (h.nx) (aa [.int .i64 x.k,.int .i64 x.x,.int .i64 x.t,.int .i64 x.r,.int .i64 x.m,.int .i64 x.w,.int .i64 x.to] 39 false)),h.lo⟩:=⟨_,rfl⟩
 have aO:Le h hA:=by subst aK; exact ((Le.refl h).new _)
 have g1:hA.bl.get (h.nx)=some (aa [.int .i64 x.k,.int .i64 x.x,.int .i64 x.t,.int .i64 x.r,.int .i64 x.m,.int .i64 x.w,.int .i64 x.to] 39 false):=by subst aK; exact T.af _ _ _
 have gH:hA.nx=h.nx+1:=by subst aK; rfl
 have gI:hA.lo=h.lo:=by subst aK; rfl
 rw[←aK]
 clear aK
 have hk:=hk hA aO
 unfold rG at hk
 refine CZ x.t x.r ?_
 by_cases hl:bY x.t x.r = -1
 ·rw[if_pos hl]
  rw[a_ (fun h=>h hl)] at hk
  simp(disch:=first|omega|simp only[Wd]<;>omega|with_unfolding_all rfl)only[Wz]
  exact hk
 ·rw[if_neg hl]
  rw[bf hl,Bool.true_and] at hk
  simp(disch:=first|omega|simp only[Wd]<;>omega|with_unfolding_all rfl)only[Wz,g1]
  by_cases h1:x.k=1
  ·rw[if_pos h1] at hk
   simp(disch:=first|omega|simp only[Wd]<;>omega|with_unfolding_all rfl)only[Wz,bf h1,FW,g1]
   refine q9 x.m ?_
   cases hkn:kn x.m with
   | false=>rw[hkn] at hk; simp(disch:=first|omega|simp only[Wd]<;>omega|with_unfolding_all rfl)only[Wz]; exact hk
   | true=>
    rw[hkn,Bool.true_and] at hk
    simp(disch:=first|omega|simp only[Wd]<;>omega|with_unfolding_all rfl)only[Wz,g1]
    by_cases hm:x.m=0
    ·rw[a_ (fun h=>h hm)] at hk
     simp(disch:=first|omega|simp only[Wd]<;>omega|with_unfolding_all rfl)only[Wz,bf hm]; exact hk
    ·rw[bf hm,Bool.true_and] at hk
     simp(disch:=first|omega|simp only[Wd]<;>omega|with_unfolding_all rfl)only[Wz,a_ hm,g1,Uy]
     exact hk
  ·rw[if_neg h1] at hk
   simp(disch:=first|omega|simp only[Wd]<;>omega|with_unfolding_all rfl)only[Wz,a_ h1,FX,g1]
   by_cases h3:x.k=3
   ·rw[if_pos h3] at hk
    simp(disch:=first|omega|simp only[Wd]<;>omega|with_unfolding_all rfl)only[Wz,bf h3,g1]
    simpa using hk
   ·rw[if_neg h3] at hk
    simp(disch:=first|omega|simp only[Wd]<;>omega|with_unfolding_all rfl)only[Wz,a_ h3,g1]
    exact hk
end
section
variable {h:Heap} {A:WA} {a:TA} {N:Nat} {d:TD} {R:RD}
theorem yN (f:Fn) (a b:Array Value):(Value.cells (.func f a b)).toList=[.func f a b]:=id rfl
theorem qm {wb:Nat} (c:CR) (g:h.bl.get c.ca=some (bh wb c)) (hlo:h.lo≤c.ca) (ph:Nat) (f:FuncId) (hf:QS ph=f) (κ:KQ) (hk:κ (.tuple ⟨[]⟩) ⟨h.nx,h.bl.aS c.ca (bh wb { c with ph:=ph }),h.lo⟩) :
  CallW Tryz.prog 45 [.pointer (some ⟨c.ca,0,none⟩),.int .i64 (ph:Int),.func (.func f) ⟨[.pointer (some ⟨c.ca,0,none⟩)]⟩ ⟨[]⟩] h κ:=by
 subst hf
 refine aj mixed ?_
 rw[Qs]
 unfold bh at g hk
 simp(disch:=first|omega|simp only[Wd]<;>omega|with_unfolding_all rfl)only[Wz,ax,g,pe,yN]
 exact hk
theorem aY (s:WS h A a N d R) {i:Nat} {c:CR} (hi:R.cs[i]? = some (some c)):h.bl.get c.ca=some (bh A.wb c)∧c.ca<h.nx∧h.lo≤c.ca:=by
 obtain ⟨k1,k2,k3⟩:=s.r.ca c (List.mem_of_getElem? hi)
 exact ⟨k3,k1,k2⟩
theorem kO (s:WS h A a N d R) {i k:Nat} {c:CR} (hi:R.cs[i]? = some (some c)) {nb:Int} (hb:R.bits[i]? = some nb) (hst:c.st=(k:Int)) {o:Option (Nat × Int)} (hl:R.bI[k]? = some o) (κ:KQ) (hk:κ (.bool (!decide ((c.ph:Int)=1) || !o.isSome)) h) (hz:ql nb 1=0:=by decide) :
  CallW Tryz.prog 31 [.pointer (some ⟨A.wb,0,none⟩),.int .i64 (i:Int)] h κ:=by
 have gw:=s.r.gw
 obtain ⟨gc,_⟩:=aY s hi
 have Q8:=s.r.li
 refine aj mixed ?_
 rw[Qq]
 refine Me s hi _ ?_
 simp(disch:=first|omega|simp only[Wd]<;>omega|with_unfolding_all rfl)only[Wz,Gx,Option.map_some,Option.isNone_some]
 simp(disch:=first|omega|simp only[Wd]<;>omega|with_unfolding_all rfl)only[Wz,ax,gw]
 refine Dh (by rw[Q8]; exact s.r.gp) s.r.gi hb _ ?_
 simp(disch:=first|omega|simp only[Wd]<;>omega|with_unfolding_all rfl)only[Wz,bf hz,FQ,ax,gw,cz,gc,bh,hst]
 refine Ie s.r.gl s.r.gh hl (fun p e=>by subst e; exact (s.r.ho p (List.mem_of_getElem? hl)).2) _ ?_
 intro x
 simp(disch:=first|omega|simp only[Wd]<;>omega|with_unfolding_all rfl)only[Wz,ax,gc,bh]
 by_cases h1:(c.ph:Int)=1
 ·rw[bf h1] at hk
  simp(disch:=first|omega|simp only[Wd]<;>omega|with_unfolding_all rfl)only[Wz,bf h1]
  exact hk
 ·rw[a_ h1] at hk
  simp(disch:=first|omega|simp only[Wd]<;>omega|with_unfolding_all rfl)only[Wz,a_ h1]
  exact hk
end
theorem qn {v v':List Value} {t t':TypeId} {o o':Bool} (e:(some (aa v t o):Option bt)=some (aa v' t' o')):t=t'∧o=o':=by
 have ht:t=t':=Classical.byContradiction fun hn=>aX hn e
 subst ht
 refine ⟨rfl,?_⟩
 cases o<;>cases o'
 ·rfl
 ·exact absurd e aV
 ·exact absurd e.symm aV
 ·rfl
theorem rF.Mf {a0 h h':Heap} {rt rp rl:Nat} {c:dg} {vr:Value} {hd:Nat} {Rs:List RB} {B:List Bool} (t:rF a0 h rt rp rl c vr hd Rs B) (hn:h.nx≤h'.nx) (hl:h'.lo=h.lo) (hk:∀d vs ty op,d<h.nx→h.bl.get d=some (aa vs ty op)→¬jW ty op→h'.bl.get d=h.bl.get d):rF a0 h' rt rp rl c vr hd Rs B:=by
 refine t.keep hn hl fun d vs ty op hd hg ht=>hk d vs ty op hd hg ?_
 rcases ht with rfl | rfl | rfl | rfl | rfl | rfl | rfl
 iterate 6 (unfold jW; cases op<;>decide)
 have:=t.ck.Gm
 rw[hg] at this
 obtain ⟨rfl,rfl⟩:=qn this
 unfold jW; decide
structure WK (a:TA) (h h':Heap):Prop where
 nx:h.nx≤h'.nx
 lo:h'.lo=h.lo
 ty:∀d vs t o,d<h.nx→h.bl.get d=some (aa vs t o)→¬sL t o→¬jW t o→h'.bl.get d=h.bl.get d
 oi:∀d vs,d<h.nx→h.bl.get d=some (aa vs 3 true)→¬FB h a.bp d→h'.bl.get d=h.bl.get d
 mv:∀d,d<h.nx→FB h' a.bp d→FB h a.bp d
 ro:∀d,d<h.nx→(∀vs t o,h.bl.get d≠some (aa vs t o))→(∀es c,h.bl.get d≠some (.map es c))→h'.bl.get d=h.bl.get d
 rt:∀(a0:Heap) (rt rp rl:Nat) (c:dg) (vr:Value) (hd:Nat) (Rs:List RB) (B:List Bool),rl≠a.bl→rF a0 h rt rp rl c vr hd Rs B→rF a0 h' rt rp rl c vr hd Rs B
theorem WK.trans {a:TA} {h h1 h2:Heap} (x:WK a h h1) (y:WK a h1 h2):WK a h h2 where
 nx:=Nat.le_trans x.nx y.nx
 lo:=y.lo.trans x.lo
 ty d vs t o hd hg ht hr:=by
  have e:=x.ty d vs t o hd hg ht hr
  exact (y.ty d vs t o (Nat.lt_of_lt_of_le hd x.nx) (e.trans hg) ht hr).trans e
 oi d vs hd hg hf:=by
  have e:=x.oi d vs hd hg hf
  exact (y.oi d vs (Nat.lt_of_lt_of_le hd x.nx) (e.trans hg) (fun f=>hf (x.mv d hd f))).trans e
 mv d hd f:=x.mv d hd (y.mv d (Nat.lt_of_lt_of_le hd x.nx) f)
 ro d hd h1 h2:=by
  have e:=x.ro d hd h1 h2
  exact (y.ro d (Nat.lt_of_lt_of_le hd x.nx) (fun vs t o=>by rw[e]; exact h1 vs t o) (fun es c=>by rw[e]; exact h2 es c)).trans e
 rt a0 rt rp rl c vr hd Rs B hne t:=y.rt a0 rt rp rl c vr hd Rs B hne (x.rt a0 rt rp rl c vr hd Rs B hne t)
section
variable {h h':Heap} {A:WA} {a:TA} {N:Nat} {d:TD} {R:RD}
theorem WS.bp (s:WS h A a N d R):∃fs ls,a.bp<h.nx∧h.bl.get a.bp=some (aa [fs,ls] 225 false):=by
 obtain ⟨fs,hg,_⟩:=s.t.is.ck.fr.cell
 exact ⟨fs,_,s.t.is.ck.fr.lt,hg⟩
theorem WS.Ai (s:WS h A a N d R) (l:Le h h'):WK a h h':=by
 obtain ⟨_,_,hb,_⟩:=s.bp
 exact ⟨l.nx,l.lo,fun d _ _ _ hd _ _ _=>l.get d hd,fun d _ hd _ _=>l.get d hd,fun d _ f=>(FB.congr (l.get _ hb)).1 f,fun d hd _ _=>l.get d hd,fun _ _ _ _ _ _ _ _ _ _ t=>t.le l⟩
theorem WS.j9 (s:WS h A a N d R) {x:Nat} {v:List Value} {t:TypeId} {o:Bool} (hg:h.bl.get x=some (aa v t o)) (hr:jW t o) (hp:t≠225) (ob:bt):WK a h ⟨h.nx,h.bl.aS x ob,h.lo⟩:=by
 obtain ⟨fs,ls,hb,gb⟩:=s.bp
 have ME:x≠a.bp:=ir hg gb hp
 refine ⟨Nat.le_refl _,rfl,fun d vs t' o' hd hgd _ hn=>T.ah _ _ ?_,fun d vs hd hgd _=>T.ah _ _ ?_,fun d _ f=>(FB.congr (T.ah _ _ ME)).1 f,fun d hd h1 _=>T.ah _ _ ?_,fun _ _ _ _ _ _ _ _ _ _ tt=>tt.Mf (Nat.le_refl _) rfl fun d vs ty op _ hgd hn=>T.ah _ _ (by rintro rfl; rw[hg] at hgd; obtain ⟨rfl,rfl⟩:=qn hgd; exact hn hr)⟩
 ·rintro rfl
  rw[hg] at hgd
  by_cases ht:t=t'
  ·subst ht
   cases o<;>cases o'
   ·exact hn hr
   ·exact aV hgd
   ·exact aV hgd.symm
   ·exact hn hr
  ·exact aX ht hgd
 ·rintro rfl
  rw[hg] at hgd
  rcases hr with e | e | e | e | e | e | e | e | ⟨e,e'⟩<;>subst e<;>first | exact aX (by decide) hgd | (subst e'; exact aV hgd)
 ·rintro rfl; exact h1 _ _ _ hg
theorem WS.adx (s:WS h A a N d R) (ob:bt):WK a h ⟨h.nx,h.bl.aS A.mb ob,h.lo⟩:=by
 obtain ⟨fs,ls,hb,gb⟩:=s.bp
 have gm:=s.r.gm
 have ME:A.mb≠a.bp:=fun e=>eo gb gm e.symm
 refine ⟨Nat.le_refl _,rfl,fun d vs t' o' hd hgd _ hn=>T.ah _ _ (fun e=>eo hgd gm e.symm),fun d vs hd hgd _=>T.ah _ _ (fun e=>eo hgd gm e.symm),fun d _ f=>(FB.congr (T.ah _ _ ME)).1 f,fun d hd _ h2=>T.ah _ _ ?_,fun _ _ _ _ _ _ _ _ _ _ tt=>tt.Mf (Nat.le_refl _) rfl fun d vs ty op _ hgd _=>T.ah _ _ (fun e=>eo hgd gm e.symm)⟩
 rintro rfl; exact h2 _ _ gm
theorem WS.YW (s:WS h A a N d R) (f:rE d.Ts a.bw a.bp a.bl h h'):WK a h h':=by
 obtain ⟨fs,ls,hb,gb⟩:=s.bp
 have gl:=s.t.is.ck.cell
 have gw:=s.t.is.lK
 refine ⟨f.nx,f.lo,fun x vs t o hx hg ht _=>f.get x hx (fun b hb=>eo hg (s.t.is.bk b hb).eM) (eo hg gw) ?_ ?_ ?_,fun x vs hx hg hn=>f.g2 hb x hx (fun b hb=>eo hg (s.t.is.bk b hb).eM) (eo hg gw) (ir hg gb (by decide)) (ir hg gl (by decide)) hn,f.mv hb,fun x hx h1 h2=>f.get x hx ?_ ?_ ?_ ?_ fun vs=>h1 vs _ _,fun _ _ _ _ _ _ _ _ _ hne tt=>tt.real s.t.is f hne⟩
 ·rintro rfl; rw[hg] at gb; exact ht (by
   by_cases e:t=225
   ·subst e; simp[sL]
   ·exact absurd gb (aX e))
 ·rintro rfl; rw[hg] at gl; exact ht (by
   by_cases e:t=4
   ·subst e; simp[sL]
   ·exact absurd gl (aX e))
 ·intro ws hw
  rw[hg] at hw
  by_cases e:t=3
  ·subst e
   cases o
   ·exact aV hw
   ·exact ht (by simp[sL])
  ·exact aX e hw
 ·intro b hb e; subst e; exact h2 _ _ (s.t.is.bk b hb).eM
 ·rintro rfl; exact h2 _ _ gw
 ·rintro rfl; exact h1 _ _ _ gb
 ·rintro rfl; exact h1 _ _ _ gl
theorem EP (s:WS h A a N d R) (hf:∀b,b<h.nx→b≠A.hb→h'.bl.get b=h.bl.get b) (hn:h.nx≤h'.nx) (hl:h'.lo=h.lo):WK a h h':=by
 obtain ⟨fs,ls,hb,gb⟩:=s.bp
 have gh:=s.r.gh
 refine ⟨hn,hl,fun x vs t o hx hg ht hr=>hf x hx ?_,fun x vs hx hg _=>hf x hx ?_,fun x _ f=>(FB.congr (hf _ hb (ir gb gh (by decide)))).1 f,fun x hx h1 _=>hf x hx ?_,fun _ _ _ _ _ _ _ _ _ _ tt=>tt.Mf hn hl fun x vs ty op hx hgx hr=>hf x hx (by rintro rfl; rw[gh] at hgx; obtain ⟨rfl,rfl⟩:=qn hgx; exact hr (by simp[jW]))⟩
 ·rintro rfl
  rw[gh] at hg
  by_cases e:176=t
  ·subst e; exact hr (by simp[jW])
  ·exact aX e hg
 ·rintro rfl; rw[gh] at hg; exact aX (by decide) hg
 ·rintro rfl; exact h1 _ _ _ gh
end
section
variable {h:Heap} {A:WA} {a:TA} {N:Nat} {d:TD} {R:RD}
theorem Mg (s:WS h A a N d R) {i k:Nat} {c:CR} (hi:R.cs[i]? = some (some c)) (hst:c.st=(k:Int)) (oG:0≤c.th∧c.th<8) (hl:R.bI[k]? = some none) (κ:KQ)
  (hk:∀h',WS h' A a N d { R with bI:=R.bI.set k (some (h.nx,c.th)),cs:=R.cs.set i (some { c with ph:=2 }) }→WK a h h'→κ (.tuple ⟨[]⟩) h') :
  CallW Tryz.prog 46 [.pointer (some ⟨c.ca,0,none⟩)] h κ:=by
 obtain ⟨gc,c1,c2⟩:=aY s hi
 have gw:=s.r.gw
 have hlo:=s.lo
 have gc':=gc
 unfold bh at gc'
 refine aj mixed ?_
 rw[WD]
 simp(disch:=first|omega|simp only[Wd]<;>omega|with_unfolding_all rfl)only[Wz,ax,gc',gw,hst]
 refine Up s.r.gl s.r.gh s.r.LY s.r.IC hl oG _ ?_
 have s1:=s.le ((Le.refl h).new (aa [.int .i64 c.th] 181 false))
 have s2:=s1.wV (R.bI.set k (some (h.nx,c.th))) (List.length_set ..) (fun p hp=>by
  rcases List.mem_or_eq_of_mem_set hp with hp | hp
  ·obtain ⟨k1,k2⟩:=s1.r.ho p hp
   exact ⟨k1,k2⟩
  ·cases hp
   exact ⟨Nat.lt_succ_self _,T.af _ _ _⟩)
 obtain ⟨h2,e2⟩:∃h2:Heap,h2=⟨h.nx+1,(h.bl.aS h.nx (aa [.int .i64 c.th] 181 false)).aS A.hb (aa (lN (R.bI.set k (some (h.nx,c.th)))) 176 false),h.lo⟩:=⟨_,rfl⟩
 have s2:WS h2 A a N d { R with bI:=R.bI.set k (some (h.nx,c.th)) }:=by rw[e2]; exact s2
 have f2:∀b,b<h.nx→b≠A.hb→h2.bl.get b=h.bl.get b:=fun b hb hn=>by rw[e2]; exact (T.ah _ _ (fun e=>hn e.symm)).trans (T.ah _ _ (by omega))
 have n2:h2.nx=h.nx+1:=by rw[e2]
 have l2:h2.lo=h.lo:=by rw[e2]
 rw[←e2]
 clear e2
 obtain ⟨jt,ZI,UA⟩:=aY (R:={ R with bI:=R.bI.set k (some (h.nx,c.th)) }) s2 hi
 refine qm c jt UA 2 _ rfl _ ?_
 exact hk _ (WS.dX (R:={ R with bI:=R.bI.set k (some (h.nx,c.th)) }) s2 hi rfl) ((EP s f2 (by omega) l2).trans (WS.j9 s2 jt (by simp[jW]) (by decide) _))
theorem RW.other {tb:Nat} {bI:List (Option (Nat × Int))} {bits:List Int} {now:Int} {tv:Value} {cs:List (Option CR)} {wm:List IE} {kW:Nat} {begun:Int} (s:RW h A tb bI bits now tv cs wm kW begun) {x:Nat} {v:List Value} {o:Bool} (hg:h.bl.get x=some (aa v 99 o)) (hn:∀c,some c∈cs→c.ca≠x) (ob:bt):RW ⟨h.nx,h.bl.aS x ob,h.lo⟩ A tb bI bits now tv cs wm kW begun:=by
 have up:∀{b:Nat} {v:List Value} {t:TypeId} {o:Bool},h.bl.get b=some (aa v t o)→99≠t→(h.bl.aS x ob).get b=some (aa v t o):=fun hb hn=>(T.ah _ _ (ir hg hb hn)).trans hb
 exact ⟨s.xg,up s.gw (by decide),s.IC,up s.gl (by decide),s.LY,up s.gh (by decide),fun p hp=>⟨(s.ho p hp).1,up (s.ho p hp).2 (by decide)⟩,s.Lw,up s.gp (by decide),s.LZ,up s.gi (by decide),s.li,s.Ic,up s.gk (by decide),s.L0,up s.gc (by decide),s.lc,fun c hc=>⟨(s.ca c hc).1,(s.ca c hc).2.1,(T.ah _ _ (fun e=>hn c hc e.symm)).trans (s.ca c hc).2.2⟩,s.rP,(T.ah _ _ (eo hg s.gm)).trans s.gm,s.nn,s.dc⟩
theorem WS.other (s:WS h A a N d R) {x:Nat} {v:List Value} {o:Bool} (hg:h.bl.get x=some (aa v 99 o)) (hn:∀c,some c∈R.cs→c.ca≠x) (ob:bt):WS ⟨h.nx,h.bl.aS x ob,h.lo⟩ A a N d R:=
 ⟨tW.EO s.t hg (Vu (by decide) (by decide) (by decide) (by decide) (by decide) (by decide) (by decide) (by decide)) _,s.r.other hg hn ob,s.mw,s.mm,s.lo⟩
noncomputable def wX (wb:Nat) (c:CR):bt:=aa [.int .i64 c.a.k,.int .i64 c.a.x,.int .i64 c.a.t,.int .i64 c.a.r,.int .i64 c.a.m,.int .i64 c.a.w,.int .i64 c.a.to,.pointer (some ⟨wb,0,none⟩),.int .i64 c.th,.int .i64 c.no,.int .i64 c.st,pe c.ph c.ca,.int .i64 (c.ph:Int),.bool c.wt,.int .i64 c.id,.int .i64 c.cs,.int .i64 c.out,.bool true,.slice none 0 0] 99 false
theorem O_ (s:WS h A a N d R) {i k p:Nat} {c:CR} (hi:R.cs[i]? = some (some c)) (hst:c.st=(k:Int)) (oG:c.th=(i:Int)) (hout:c.out≠0) (hl:R.bI[k]? = some (some (p,c.th))) (κ:KQ)
  (hk:∀h',WS h' A a N d { R with bI:=R.bI.set k none,cs:=R.cs.set i none }→h'.bl.get c.ca=some (wX A.wb c)→WK a h h'→κ (.tuple ⟨[]⟩) h') :
  CallW Tryz.prog 117 [.pointer (some ⟨c.ca,0,none⟩)] h κ:=by
 obtain ⟨gc,c1,c2⟩:=aY s hi
 have gw:=s.r.gw
 have hlo:=s.lo
 have gc':=gc
 have hil:=lQ s hi
 have Y8:=s.r.nn
 unfold bh at gc'
 have gp:=(s.r.ho (p,c.th) (List.mem_of_getElem? hl)).2
 refine aj mixed ?_
 rw[Kc]
 simp(disch:=first|omega|simp only[Wd]<;>omega|with_unfolding_all rfl)only[Wz,ax,gc',gw,hst]
 refine Gv s.r.gl s.r.gh s.r.LY hl gp (by omega) _ ?_
 have s2:=s.wV (R.bI.set k none) (List.length_set ..) (fun q hq=>by
  rcases List.mem_or_eq_of_mem_set hq with hq | hq
  ·exact s.r.ho q hq
  ·cases hq)
 have k2:=EP (h':=⟨h.nx,h.bl.aS A.hb (aa (lN (R.bI.set k none)) 176 false),h.lo⟩) s (fun b hb hn=>T.ah _ _ (fun e=>hn e.symm)) (Nat.le_refl _) rfl
 obtain ⟨h2,e2⟩:∃h2:Heap,h2=⟨h.nx,h.bl.aS A.hb (aa (lN (R.bI.set k none)) 176 false),h.lo⟩:=⟨_,rfl⟩
 have s2:WS h2 A a N d { R with bI:=R.bI.set k none }:=by rw[e2]; exact s2
 have k2:WK a h h2:=by rw[e2]; exact k2
 rw[←e2]
 clear e2
 obtain ⟨jt,ZI,UA⟩:=aY (R:={ R with bI:=R.bI.set k none }) s2 hi
 have lR:=jt
 unfold bh at lR
 have ES:=s2.r.gw
 have Mh:=s2.r.gc
 have cb2:=s2.r.L0
 refine aj mixed ?_
 rw[Kh]
 have s3:WS ⟨h2.nx,h2.bl.aS A.cb (aa ((R.cs.set i none).map fun o=>cz (o.map (·.ca))) 96 false),h2.lo⟩ A a N d { R with bI:=R.bI.set k none,cs:=R.cs.set i none }:=WS.rK (R:={ R with bI:=R.bI.set k none }) s2 i none (fun c e=>(nomatch e))
 have hne:c.ca≠A.cb:=ir jt Mh (by decide)
 have ovc:over (R.cs.map fun o=>cz (o.map (·.ca))) i [.pointer none]=(R.cs.set i none).map fun o=>cz (o.map (·.ca)):=by
  unfold over
  rw[List.map_set,List.set_eq_take_append_cons_drop,if_pos (by rw[List.length_map]; exact (List.getElem?_eq_some_iff.1 hi).1)]
  simp[cz]
 have hlc:(R.cs.map fun o=>cz (o.map (·.ca))).length=A.n:=by rw[List.length_map]; exact s.r.lc
 have hnw:c.ca≠A.wb:=ir jt ES (by decide)
 simp(disch:=first|omega|simp only[Wd]<;>omega|with_unfolding_all rfl)only[Wz,ax,lR,vK,a_ hout,BP]
 simp(disch:=first|omega|simp only[Wd]<;>omega|with_unfolding_all rfl)only[Wz,ax,ES,oG,aN,Mh,Nat.mul_one,ovc]
 have rQ:(h2.bl.aS A.cb (aa ((R.cs.set i none).map fun o=>cz (o.map (·.ca))) 96 false)).get c.ca=_:=(T.ah _ _ (fun e=>hne e.symm)).trans lR
 have hno:∀x,some x∈R.cs.set i none→x.ca≠c.ca:=by
  intro x hx
  rcases wU hx with e | ⟨j,hj,e⟩
  ·cases e
  ·exact s.r.apart e hi hj
 have s4:=WS.other s3 rQ hno (wX A.wb c)
 have k3:=WS.j9 s2 Mh (by simp[jW]) (by decide) (aa ((R.cs.set i none).map fun o=>cz (o.map (·.ca))) 96 false)
 have k4:=WS.j9 s3 rQ (by simp[jW]) (by decide) (wX A.wb c)
 have hk:=hk _ s4 (T.af _ _ _) ((k2.trans k3).trans k4)
 rw[show ((h2.bl.aS A.cb (aa ((R.cs.set i none).map fun o=>cz (o.map (·.ca))) 96 false)).aS c.ca (wX A.wb c))=(h2.bl.aS c.ca (wX A.wb c)).aS A.cb (aa ((R.cs.set i none).map fun o=>cz (o.map (·.ca))) 96 false) from T.A9 _ _ _ (fun e=>hne e.symm)] at hk
 unfold wX at hk
 rw[oG] at hk
 exact hk
end
section
variable {h:Heap} {A:WA} {a:TA} {N:Nat} {d:TD} {R:RD}
theorem iW (s:WS h A a N d R) {i k:Nat} {c:CR} (hi:R.cs[i]? = some (some c)) (kX:c.ph=1) {nb:Int} (hb:R.bits[i]? = some nb) (hst:c.st=(k:Int)) (oG:0≤c.th∧c.th<8) (hl:R.bI[k]? = some none) (κ:KQ)
  (hk:∀h',WS h' A a N d { R with bI:=R.bI.set k (some (h.nx,c.th)),cs:=R.cs.set i (some { c with ph:=2 }) }→WK a h h'→κ (.tuple ⟨[.bool false,.int .i64 0,.int .i64 0]⟩) h') (hz:ql nb 1=0:=by decide) :
  CallW Tryz.prog 14 [.pointer (some ⟨A.wb,0,none⟩),.int .i64 (i:Int)] h κ:=by
 have gw:=s.r.gw
 have DD:=s.r.gc
 have hil:=lQ s hi
 have r:(R.cs.map fun o=>cz (o.map (·.ca)))[i]? = some (.pointer (some ⟨c.ca,0,none⟩)):=eu s hi
 obtain ⟨gc,c1,c2⟩:=aY s hi
 have hlc:(R.cs.map fun o=>cz (o.map (·.ca))).length=A.n:=by rw[List.length_map]; exact s.r.lc
 have gc':=gc
 unfold bh pe at gc'
 rw[kX] at gc'
 refine aj mixed ?_
 rw[vC]
 simp(disch:=first|omega|simp only[Wd]<;>omega|with_unfolding_all rfl)only[Wz,er,kE]
 refine gX s hil _ ?_
 simp(disch:=first|omega|simp only[Wd]<;>omega|with_unfolding_all rfl)only[Wz]
 refine kO s hi hb hst hl _ ?_ hz
 rw[kX]
 simp(disch:=first|omega|simp only[Wd]<;>omega|with_unfolding_all rfl)only[Wz,Option.isSome_none,Option.isSome_some,Bool.false_or,Bool.true_or,kz,ax,gw,aN,DD,r,gc',Nat.mul_one,jq]
 refine Mg s hi hst oG hl _ ?_
 intro h' s' k'
 have hi':(R.cs.set i (some { c with ph:=2 }))[i]? = some (some { c with ph:=2 }):=by rw[List.getElem?_set,if_pos rfl,if_pos (by have:=s.r.lc; omega)]
 obtain ⟨jt,_,_⟩:=aY s' hi'
 unfold bh at jt
 simp(disch:=first|omega|simp only[Wd]<;>omega|with_unfolding_all rfl)only[Wz,ax,jt]
 exact hk h' s' k'
theorem mD (s:WS h A a N d R) {i k p:Nat} {c:CR} (hi:R.cs[i]? = some (some c)) (kX:c.ph=3) {nb:Int} (hb:R.bits[i]? = some nb) (hst:c.st=(k:Int)) (oG:c.th=(i:Int)) (hout:c.out≠0) (hl:R.bI[k]? = some (some (p,c.th))) (κ:KQ)
  (hk:∀h',WS h' A a N d { R with bI:=R.bI.set k none,cs:=R.cs.set i none }→WK a h h'→κ (.tuple ⟨[.bool true,.int .i64 c.out,.int .i64 0]⟩) h') (hz:ql nb 1=0:=by decide) :
  CallW Tryz.prog 14 [.pointer (some ⟨A.wb,0,none⟩),.int .i64 (i:Int)] h κ:=by
 have gw:=s.r.gw
 have DD:=s.r.gc
 have hil:=lQ s hi
 have r:(R.cs.map fun o=>cz (o.map (·.ca)))[i]? = some (.pointer (some ⟨c.ca,0,none⟩)):=eu s hi
 obtain ⟨gc,c1,c2⟩:=aY s hi
 have hlc:(R.cs.map fun o=>cz (o.map (·.ca))).length=A.n:=by rw[List.length_map]; exact s.r.lc
 have gc':=gc
 unfold bh pe at gc'
 rw[kX] at gc'
 refine aj mixed ?_
 rw[vC]
 simp(disch:=first|omega|simp only[Wd]<;>omega|with_unfolding_all rfl)only[Wz,er,kE]
 refine gX s hil _ ?_
 simp(disch:=first|omega|simp only[Wd]<;>omega|with_unfolding_all rfl)only[Wz]
 refine kO s hi hb hst hl _ ?_ hz
 rw[kX]
 simp(disch:=first|omega|simp only[Wd]<;>omega|with_unfolding_all rfl)only[Wz,Option.isSome_none,Option.isSome_some,Bool.false_or,Bool.true_or,kz,ax,gw,aN,DD,r,gc',Nat.mul_one,jq]
 refine O_ s hi hst oG hout hl _ ?_
 intro h' s' g' k'
 unfold wX at g'
 simp(disch:=first|omega|simp only[Wd]<;>omega|with_unfolding_all rfl)only[Wz,ax,g']
 exact hk h' s' k'
theorem YX (a b c d e f g:Int):iI 8 (.agg ⟨[.int .i64 a,.int .i64 b,.int .i64 c,.int .i64 d,.int .i64 e,.int .i64 f,.int .i64 g]⟩) (.agg ⟨[.int .i64 a,.int .i64 b,.int .i64 c,.int .i64 d,.int .i64 e,.int .i64 f,.int .i64 g]⟩)=true:=by
 have v:∀n:Int,iI 7 (.int .i64 n) (.int .i64 n)=true:=fun n=>by
  show (eN .i64 .i64 && pg n n)=true
  rw[eP,bf rfl]; rfl
 show (iI 7 (.int .i64 a) (.int .i64 a) && (iI 7 (.int .i64 b) (.int .i64 b) && (iI 7 (.int .i64 c) (.int .i64 c) && (iI 7 (.int .i64 d) (.int .i64 d) && (iI 7 (.int .i64 e) (.int .i64 e) && (iI 7 (.int .i64 f) (.int .i64 f) && (iI 7 (.int .i64 g) (.int .i64 g) && true)))))))=true
 simp only[v,Bool.and_self]
theorem Aj (s:WS h A a N d R) {i:Nat} (hi:R.cs[i]? = some none) (x:xR) (hbg:0≤R.begun∧R.begun≤1000000) (κ:KQ)
  (LJ:rG x=false→∀h',Le h h'→κ (.int .i64 2) h')
  (hk:rG x=true→∀h' ca,WS h' A a N d { R with cs:=R.cs.set i (some ⟨ca,x,(i:Int),R.begun,bT x.t x.r a.c.S,1,false,0,0,0⟩),begun:=R.begun+1 }→WK a h h'→κ (.int .i64 0) h') :
  CallW Tryz.prog 16 [.pointer (some ⟨A.wb,0,none⟩),.int .i64 (i:Int),.agg ⟨EJ x⟩] h κ:=by
 have hlo:=s.lo
 have hil:=lQ s hi
 have r:(R.cs.map fun o=>cz (o.map (·.ca)))[i]? = some (.pointer none):=eu s hi
 have hlc:(R.cs.map fun o=>cz (o.map (·.ca))).length=A.n:=by rw[List.length_map]; exact s.r.lc
 refine aj mixed ?_
 rw[Wl]
 simp(disch:=first|omega|simp only[Wd]<;>omega|with_unfolding_all rfl)only[Wz,EJ]
 obtain ⟨hA,aK⟩:∃hA:Heap,hA=⟨h.nx+1,(h.bl.aS (h.nx) (aa [.int .i64 x.k,.int .i64 x.x,.int .i64 x.t,.int .i64 x.r,.int .i64 x.m,.int .i64 x.w,.int .i64 x.to] 39 false)),h.lo⟩:=⟨_,rfl⟩
 have aO:Le h hA:=by subst aK; exact ((Le.refl h).new _)
 have g1:hA.bl.get (h.nx)=some (aa [.int .i64 x.k,.int .i64 x.x,.int .i64 x.t,.int .i64 x.r,.int .i64 x.m,.int .i64 x.w,.int .i64 x.to] 39 false):=by subst aK; exact T.af _ _ _
 have gH:hA.nx=h.nx+1:=by subst aK; rfl
 have gI:hA.lo=h.lo:=by subst aK; rfl
 rw[←aK]
 clear aK
 have sA:=s.le aO
 simp(disch:=first|omega|simp only[Wd]<;>omega|with_unfolding_all rfl)only[Wz,er,FN]
 refine gX sA hil _ ?_
 simp(disch:=first|omega|simp only[Wd]<;>omega|with_unfolding_all rfl)only[Wz,g1]
 refine Uz x hA _ (by omega) ?_
 intro h1 bK
 have n1:=bK.nx
 have l1:=bK.lo
 have s1:=sA.le bK
 have g11:=(bK.get _ (by omega)).trans g1
 have QM:=s1.r.gw
 have Di:=s1.r.gc
 cases hm:rG x with
 | false=>
  simp(disch:=first|omega|simp only[Wd]<;>omega|with_unfolding_all rfl)only[Wz]
  exact LJ hm h1 (aO.trans bK)
 | true=>
  have hk:=hk hm
  have adz:∀(β:Type) (fl:β) (cn:Bool) (h:Heap) (κ:Value→Heap→β),au fl Tryz.prog .neq 96 cn false (.pointer none) (.pointer none) h κ=κ (.bool false) h:=fun β fl cn h κ=>Ah cn none h κ
  simp(disch:=first|omega|simp only[Wd]<;>omega|with_unfolding_all rfl)only[Wz,FM,ax,QM,aN,Di,r,Nat.mul_one,adz,FL,g11]
  refine sJ s1.t.is (by omega) x.t x.r _ ?_
  intro h2 bF
  have n2:=bF.nx
  have l2:=bF.lo
  have s2:=s1.le bF
  have g12:=(bF.get _ (by omega)).trans g11
  have ES:=s2.r.gw
  simp(disch:=first|omega|simp only[Wd]<;>omega|with_unfolding_all rfl)only[Wz,ax,g12,ES]
  obtain ⟨cc,E7⟩:∃cc:CR,cc=⟨h2.nx,x,(i:Int),R.begun,bT x.t x.r a.c.S,1,false,0,0,0⟩:=⟨_,rfl⟩
  obtain ⟨h3,e3⟩:∃h3:Heap,h3=⟨h2.nx+1,h2.bl.aS h2.nx (bh A.wb cc),h2.lo⟩:=⟨_,rfl⟩
  have eZ:Le h2 h3:=by rw[e3]; exact (Le.refl h2).new _
  have g3:h3.bl.get h2.nx=some (bh A.wb cc):=by rw[e3]; exact T.af _ _ _
  have n3:h3.nx=h2.nx+1:=by rw[e3]
  have l3:h3.lo=h2.lo:=by rw[e3]
  have s3:=s2.le eZ
  have e3':h3=⟨h2.nx+1,h2.bl.aS h2.nx (aa [.int .i64 x.k,.int .i64 x.x,.int .i64 x.t,.int .i64 x.r,.int .i64 x.m,.int .i64 x.w,.int .i64 x.to,.pointer (some ⟨A.wb,0,none⟩),.int .i64 (i:Int),.int .i64 R.begun,.int .i64 (bT x.t x.r a.c.S),.func (.func 46) ⟨[.pointer (some ⟨h2.nx,0,none⟩)]⟩ ⟨[]⟩,.int .i64 1,.bool false,.int .i64 0,.int .i64 0,.int .i64 0,.bool false,.slice none 0 0] 99 false),h2.lo⟩:=by rw[e3,E7]; rfl
  have gw3:=s3.r.gw
  have lw3:=s3.r.xg
  have lc3:=s3.r.L0
  have s4:=s3.wW (R.begun+1)
  have k4:=WS.j9 s3 gw3 (by simp[jW]) (by decide) (aa [.pointer (some ⟨a.tb,0,none⟩),.pointer (some ⟨A.lb,0,none⟩),.pointer (some ⟨A.pb,0,none⟩),.pointer (some ⟨A.kb,0,none⟩),.slice (some ⟨A.cb,0,none⟩) A.n A.n,.map (some A.mb),.int .i64 (R.begun+1)] 107 false)
  have adA:=s4.r.gc
  have ovc:over (R.cs.map fun o=>cz (o.map (·.ca))) i [.pointer (some ⟨h2.nx,0,none⟩)]=(R.cs.set i (some cc)).map fun o=>cz (o.map (·.ca)):=by
   unfold over
   rw[List.map_set,List.set_eq_take_append_cons_drop,if_pos (by rw[List.length_map]; have:=s.r.lc; omega),E7]
   simp[cz]
  have s5:=WS.rK (R:={ R with begun:=R.begun+1 }) s4 i (some cc) (fun c e=>by
   cases e
   refine ⟨by rw[E7]; show h2.nx<h3.nx; omega,by rw[E7]; show h3.lo≤h2.nx; omega,?_,fun j d' hj hd=>?_⟩
   ·have e9:cc.ca=h2.nx:=by rw[E7]
    rw[e9]
    exact (T.ah _ _ (by have:=(s2.r.xg).1; omega)).trans g3
   ·have:=(s2.r.ca d' (List.mem_of_getElem? hd)).1
    rw[E7]; show d'.ca≠h2.nx; omega)
  have k5:=WS.j9 s4 adA (by simp[jW]) (by decide) (aa ((R.cs.set i (some cc)).map fun o=>cz (o.map (·.ca))) 96 false)
  have hne:A.wb≠A.cb:=ir gw3 s3.r.gc (by decide)
  have ail:=s3.r.gc
  have Mh:=s2.r.gc
  have lw2:=s2.r.xg
  have lc2:=s2.r.L0
  simp(disch:=first|omega|simp only[Wd]<;>omega|with_unfolding_all rfl)only[Wz,YX]
  refine aj mixed ?_
  rw[Qs]
  simp(disch:=first|omega|simp only[Wd]<;>omega|with_unfolding_all rfl)only[Wz,ax,yN,ES,aN,Mh,Nat.mul_one,ovc]
  have hk:=fun h'=>hk h' h2.nx
  simp only[←E7] at hk
  have hk:=hk _ s5 (((s.Ai ((aO.trans bK).trans (bF.trans eZ))).trans k4).trans k5)
  rw[e3'] at hk
  exact hk
end
section
variable {a h:Heap} {rt rp rl:Nat} {c:dg} {vr:Value} {aH:Nat} {R:List RB} {B:List Bool}
end
section
variable {h h2:Heap} {tb bw bp bl:Nat} {c:dg} {vb:Value} {aH N:Nat} {Ts Ts2:List TB} {W:List IE} {wc:Nat} {F:List Int} {B:List Bool}
theorem gK.uniq (s:gK h tb bw bp bl c vb aH N Ts W wc F B) {b b':TB} {e f:HE} (hb:b∈Ts) (hb':b'∈Ts) (he:e∈b.M) (hf:f∈b'.M) (ht:e.t=f.t) (hr:e.r=f.r):e=f:=by
 obtain ⟨i,hi⟩:=List.getElem?_of_mem hb
 obtain ⟨j,hj⟩:=List.getElem?_of_mem hb'
 have h1:=s.nm i b hi e he
 have h2:=s.nm j b' hj f hf
 rw[ht,hr,h2] at h1
 have:j=i:=by omega
 subst this
 rw[hi] at hj; cases hj
 exact (s.is.bk b hb).ok.uniq he hf ht hr
end
section
variable {h h':Heap} {bb bm bp bl most:Nat} {M M':List HE} {clock clock':Nat} {F F':List Int} {B:List Bool}
end
section
variable {h:Heap} {tb bw bp bl:Nat} {c:dg} {vb:Value} {aH N:Nat} {Ts:List TB} {W:List IE} {wc:Nat} {F:List Int} {B:List Bool}
end
section
variable {h:Heap} {tb bw bp bl:Nat} {c:dg} {vb:Value} {aH N:Nat} {Ts:List TB} {W:List IE} {wc:Nat} {F:List Int} {B:List Bool}
end
section
variable {h:Heap} {tb bw bp bl:Nat} {c:dg} {vb:Value} {aH N:Nat} {Ts:List TB} {W:List IE} {wc:Nat} {F:List Int} {B:List Bool}
end
section
variable {a0 h:Heap} {tb bw bp bl:Nat} {c:dg} {vb:Value} {aH N:Nat} {Ts:List TB} {W:List IE} {wc:Nat} {F:List Int} {B:List Bool} {rt rp rl:Nat} {vr:Value} {R:List RB}
end
def YY (Ts:List (List HE)) (s t r x id:Int) (b:Bool):Prop:=(bT t r s<0∧id=0∧b=false)∨∃(k:Nat) (M:List HE),Ts[k]? = some M∧bT t r s=(k:Int)∧EA M t r x id b
section
variable {a0 h:Heap} {tb bw bp bl:Nat} {c:dg} {vb:Value} {aH N:Nat} {Ts:List TB} {W:List IE} {wc:Nat} {F:List Int} {B:List Bool} {rt rp rl:Nat} {vr:Value} {R:List RB}
theorem Dj (s:gK h tb bw bp bl c vb aH N Ts W wc F B) (hlo:h.lo≤h.nx) (t r x:Int) (κ:KQ)
  (hk:∀h' id b,YY (Ts.map (·.M)) c.S t r x id b→Le h h'→κ (.tuple ⟨[.int .i64 id,.bool b]⟩) h') :
  CallW Tryz.prog 207 [.pointer (some ⟨tb,0,none⟩),ew t r,.int .i64 x] h κ:=by
 refine aj mixed ?_
 rw[SN]
 simp(disch:=first|omega|simp only[Wd]<;>omega|with_unfolding_all rfl)only[Wz,ew]
 obtain ⟨hA,aK⟩:∃hA:Heap,hA=⟨h.nx+1,(h.bl.aS (h.nx) (aa [.int .i64 t,.int .i64 r] 36 false)),h.lo⟩:=⟨_,rfl⟩
 have aO:Le h hA:=by subst aK; exact ((Le.refl h).new _)
 have g1:hA.bl.get (h.nx)=some (aa [.int .i64 t,.int .i64 r] 36 false):=by subst aK; exact T.af _ _ _
 have gH:hA.nx=h.nx+1:=by subst aK; rfl
 have gI:hA.lo=h.lo:=by subst aK; rfl
 rw[←aK]
 clear aK
 refine sJ (s.le aO).is (by omega) t r _ ?_
 intro h2 bF
 have CX:=bF.nx
 have CY:=bF.lo
 have g1:=(bF.get _ (by omega)).trans g1
 have jb:=aO.trans bF
 have s2:=s.le jb
 by_cases hneg:bT t r c.S<0
 ·simp(disch:=first|omega|simp only[Wd]<;>omega|with_unfolding_all rfl)only[Wz,bf hneg]
  exact hk h2 0 false (.inl ⟨hneg,rfl,rfl⟩) jb
 obtain ⟨k,b,hst,hb⟩:=Yq s.is hneg
 have gt:=s2.is.kK
 obtain ⟨cc,oo,_,Gf,nG⟩:=LH s2.is.sl k hb
 have nG:=nG h2 (Le.refl _)
 rw[hst]
 simp(disch:=first|omega|simp only[Wd]<;>omega|with_unfolding_all rfl)only[Wz,cg (show (0:Int)≤(k:Int) by omega),BU,ax,gt,Gf,nG,g1]
 refine OQ (s2.is.bk b (List.mem_of_getElem? hb)) (by omega) t r x _ ?_
 intro h3 id bb fi eZ
 simp(disch:=first|omega|simp only[Wd]<;>omega|with_unfolding_all rfl)only[Wz]
 exact hk h3 id bb (.inr ⟨k,b.M,by rw[List.getElem?_map,hb]; rfl,hst,fi⟩) (jb.trans eZ)
end
section
variable {h:Heap} {tb bw bp bl:Nat} {c:dg} {vb:Value} {aH N:Nat} {Ts:List TB} {W:List IE} {wc:Nat} {F:List Int} {B:List Bool} {H X:Int→Int→Int}
theorem Dk (s:gK h tb bw bp bl c vb aH N Ts W wc F B) (L:Lone Ts H X) (hlo:h.lo≤h.nx) (t r:Int) (κ:KQ)
  (j7:H t r=0→∀h',Le h h'→κ (.tuple ⟨[.int .i64 0,.bool false]⟩) h')
  (fQ:H t r≠0→∀h' (k:Nat) (b:TB) (e:HE) (id:Int),Ts[k]? = some b→bT t r c.S=(k:Int)→e∈b.M→e.t=t→e.r=r→e.Q=[⟨id,X t r,H t r,H t r,0⟩]→Le h h'→κ (.tuple ⟨[.int .i64 id,.bool true]⟩) h') :
  CallW Tryz.prog 207 [.pointer (some ⟨tb,0,none⟩),ew t r,.int .i64 (X t r)] h κ:=by
 refine Dj s hlo t r (X t r) _ ?_
 intro h' id b fi le
 by_cases hH:H t r=0
 ·have hno:=L.no hH
  rcases fi with ⟨_,rfl,rfl⟩ | ⟨k,M,hM,hst,⟨rfl,e,he,ht,hr,_⟩ | ⟨rfl,rfl,_⟩⟩
  ·exact j7 hH h' le
  ·rw[List.getElem?_map] at hM
   cases hb:Ts[k]? with
   | none=>rw[hb] at hM; cases hM
   | some b0=>
    rw[hb] at hM; cases hM
    exact absurd ⟨ht,hr⟩ (hno b0 (List.mem_of_getElem? hb) e he)
  ·exact j7 hH h' le
 ·obtain ⟨k0,b0,e0,id0,hb0,UB,tU,Vv,E9,Mi⟩:=L.at s hH
  have fin:∀(id:Int) (b:Bool),EA b0.M t r (X t r) id b→id=id0∧b=true:=by
   rintro id b (⟨rfl,e,he,ht,hr,p,hp,hx,rfl⟩ | ⟨_,_,hn⟩)
   ·have:=(s.is.bk b0 (List.mem_of_getElem? hb0)).ok.uniq he tU (by rw[←ht,Vv]) (by rw[←hr,E9])
    subst this
    rw[Mi,List.mem_singleton] at hp
    subst hp
    exact ⟨rfl,rfl⟩
   ·exact absurd rfl (hn e0 tU Vv.symm E9.symm ⟨id0,X t r,H t r,H t r,0⟩ (by rw[Mi]; exact .head _))
  rcases fi with ⟨h1,_⟩ | ⟨k,M,hM,hst,fi⟩
  ·omega
  ·obtain rfl:k=k0:=by omega
   rw[List.getElem?_map,hb0] at hM; cases hM
   obtain ⟨rfl,rfl⟩:=fin id b fi
   exact fQ hH h' k b0 e0 id hb0 UB tU Vv E9 Mi le
theorem Pb (s:gK h tb bw bp bl c vb aH N Ts W wc F B) (hlo:h.lo≤h.nx) {b:TB} (hb:b∈Ts) {e:HE} (he:e∈b.M) {id x m:Int} (hQ:e.Q=[⟨id,x,m,m,0⟩]) (κ:KQ)
  (hk:∀h',Le h h'→κ (.tuple ⟨[ew e.t e.r,jR ⟨id,x,m,m,0⟩,.bool true]⟩) h') :
  CallW Tryz.prog 152 [.pointer (some ⟨tb,0,none⟩),.int .i64 id] h κ:=by
 refine LW s hlo id _ ?_ ?_
 ·intro h' hn le
  have:=hn b hb e he
  rw[hQ,jB,if_pos rfl] at this
  cases this
 ·intro h' b' e' p hb' he' hf le
  obtain ⟨i,hi,hid⟩:=ry ((s.is.bk b' hb').good e' he').vq hf
  obtain ⟨rfl,rfl⟩:=s.yA hb' hb he' he (List.mem_of_getElem? hi) (by rw[hQ]; exact .head _) hid
  rw[hQ,jB,if_pos rfl] at hf
  cases hf
  exact hk h' le
end
section
variable {h:Heap} {A:WA} {a:TA} {N:Nat} {d:TD} {R:RD} {H X:Int→Int→Int}
theorem Mj (s:WS h A a N d R) (L:Lone d.Ts H X) (t r:Int) (κ:KQ)
  (hk:∀v Q h',(Q=[]∨∃id m,Q=[⟨id,X t r,m,m,0⟩])→Sl aZ h' v Q→Le h h'→κ v h') :
  CallW Tryz.prog 209 [.pointer (some ⟨A.wb,0,none⟩),ew t r] h κ:=by
 have gw0:=s.r.gw
 have hlo:=s.lo
 refine aj mixed ?_
 rw[Kl]
 have xg:=s.r.xg
 simp(disch:=first|omega|simp only[Wd]<;>omega|with_unfolding_all rfl)only[Wz,ew,ax,gw0]
 obtain ⟨hA,aK⟩:∃hA:Heap,hA=⟨h.nx+1,(h.bl.aS (h.nx) (aa [.int .i64 t,.int .i64 r] 36 false)),h.lo⟩:=⟨_,rfl⟩
 have aO:Le h hA:=by subst aK; exact ((Le.refl h).new _)
 have g1:hA.bl.get (h.nx)=some (aa [.int .i64 t,.int .i64 r] 36 false):=by subst aK; exact T.af _ _ _
 have gH:hA.nx=h.nx+1:=by subst aK; rfl
 have gI:hA.lo=h.lo:=by subst aK; rfl
 rw[←aK]
 clear aK
 have sA:=s.le aO
 refine Ac sA.t (by omega) _ ?_
 intro v0 h0 K t0 EI
 have n0:=EI.nx
 have l0:=EI.lo
 obtain ⟨x0,c0,Yx,_⟩:=(show Sl nY h0 v0 K from t0.sl)
 have C6:∀(β:Type) (fl:β) (h':Heap) (κ:Value→Heap→β),bz fl v0 h' κ=κ (.int .i64 (K.length:Int)) h':=fun β fl h' κ=>by rw[Yx]; exact eY _ _ _ _ _
 have On:K.length≤1024:=by
  have h1:=t0.perm.length_eq
  rw[List.length_map] at h1
  rw[h1]
  have h2:=s.t.is.s1.2
  have h3:=s.t.is.hd
  have:∀L:List TB,(∀b∈L,b.M.length≤64)→(L.flatMap fun b=>b.M.map di).length≤64*L.length:=by
   intro L
   induction L with
   | nil=>intro _; simp
   | cons b L ih=>
    intro hL
    rw[List.flatMap_cons,List.length_append,List.length_map,List.length_cons]
    have h1:=ih fun x hx=>hL x (.tail _ hx)
    have h2:=hL b (.head _)
    omega
  have:=this d.Ts fun b hb=>by have:=s.t.len b hb; omega
  omega
 have g10:=(EI.get _ (by omega)).trans g1
 simp(disch:=first|omega|simp only[Wd]<;>omega|with_unfolding_all rfl)only[Wz,C6]
 refine ⟨fun n l h1=>∃i:Nat,slot l 12=.int .i64 (i:Int)∧n=K.length-i∧i≤K.length∧Le h0 h1,
  ⟨_,0,rfl,rfl,by omega,Le.refl _⟩,?_⟩
 rintro n l h1 ⟨i,s1,rfl,hi,bK⟩
 have n1:=bK.nx
 have l1:=bK.lo
 by_cases hlt:i<K.length
 ·obtain ⟨e,he⟩:∃e,K[i]? = some e:=⟨_,List.getElem?_eq_getElem hlt⟩
  have Vo:=List.mem_of_getElem? he
  obtain ⟨⟨b',hb',e',he',se⟩,qv⟩:=t0.each e Vo
  obtain ⟨b0,o0,hb0,hx0,E9⟩:=Uh t0.sl i he (Ey qv.1)
  have R1:=E9 h1 bK
  have QN:=qv.le bK
  obtain ⟨qx,qc,eq,_⟩:=(show Sl aZ h1 e.q e.Q from QN.1)
  have g11:=(bK.get _ (by omega)).trans g10
  rw[eq] at R1
  simp(disch:=first|omega|simp only[Wd]<;>omega|with_unfolding_all rfl)only[Wz,s1,fH (show (i:Int)<(K.length:Int) by omega),vN,hx0,R1,g11]
  rw[z7]
  by_cases hn:e.t=t∧e.r=r
  ·rw[bf hn]
   simp(disch:=first|omega|simp only[Wd]<;>omega|with_unfolding_all rfl)only[Wz]
   obtain ⟨id,hQ,hm⟩:=L.one b' hb' e' he'
   refine hk _ e.Q _ ?_ ?_ ((aO.trans (EI.trans bK)).trans ((Le.refl h1).new _))
   ·refine .inr ⟨id,H e'.t e'.r,?_⟩
    rw[se.2.2.2,hQ,←se.1,←se.2.1,hn.1,hn.2]
   ·rw[←eq]; exact (QN.le ((Le.refl h1).new _)).1
  ·rw[a_ hn]
   simp(disch:=first|omega|simp only[Wd]<;>omega|with_unfolding_all rfl)only[Wz,s1]
   exact ⟨_,by omega,i+1,rfl,rfl,by omega,bK.trans ((Le.refl h1).new _)⟩
 ·simp(disch:=first|omega|simp only[Wd]<;>omega|with_unfolding_all rfl)only[Wz,s1,cg (show (K.length:Int)≤(i:Int) by omega)]
  exact hk _ [] _ (.inl rfl) (Sl.nil _ _ _) (aO.trans (EI.trans bK))
end
theorem ET {m:Int} (h:kn m=true):cV 0 m=m:=by
 have key:∀j,j<7→cV 0 (j:Nat)=(j:Nat):=by decide +kernel
 obtain ⟨j,hj,rfl⟩:=mz h
 exact key j hj
theorem Gy {a b:Int} (ha:kn a=true) (hb:kn b=true) (h0:b≠0):cV a b≠0∧kn (cV a b)=true∧cV a (cV a b)=cV a b∧(mu a b=true→cV a b=a):=by
 have key:∀i:Nat,i<7→∀j:Nat,j<7→(j:Int)≠0→cV (i:Nat) (j:Nat)≠0∧kn (cV (i:Nat) (j:Nat))=true∧cV (i:Nat) (cV (i:Nat) (j:Nat))=cV (i:Nat) (j:Nat)∧(mu (i:Nat) (j:Nat)=true→cV (i:Nat) (j:Nat)=(i:Nat)):=by decide +kernel
 obtain ⟨i,hi,rfl⟩:=mz ha
 obtain ⟨j,hj,rfl⟩:=mz hb
 exact key i hi j hj h0
structure j_ (d d':TD) (k:Nat):Prop where
 f:d.F.length≤d'.F.length+1
 m:∀(j:Nat) (b':TB),d'.Ts[j]? = some b'→∃b,d.Ts[j]? = some b∧b'.M.length≤b.M.length+if j=k then 1 else 0
theorem wY {d:TD} {k:Nat} {b:TB} (hk:d.Ts[k]? = some b) {M':List HE} {cl:Nat} (hl:M'.length≤b.M.length+1) (W':List IE) (tV:Nat) {F':List Int} (hF:d.F.length≤F'.length+1) (B':List Bool):j_ d ⟨d.Ts.set k ⟨b.bb,b.bm,M',cl⟩,W',tV,F',B'⟩ k:=by
 refine ⟨hF,fun j b' hj=>?_⟩
 rcases dH hj with ⟨rfl,rfl⟩ | ⟨hne,hj⟩
 ·exact ⟨b,hk,by rw[if_pos rfl]; exact hl⟩
 ·exact ⟨b',hj,by omega⟩
section
variable {h:Heap} {a:TA} {N:Nat} {d:TD} {H X:Int→Int→Int}
theorem Pc (s:tW h a N d) (L:Lone d.Ts H X) (hlo:h.lo≤h.nx) (hN:N≤1000) {k:Nat} {b:TB} (hb:d.Ts[k]? = some b) {t r m:Int} (hst:bT t r a.c.S=(k:Int)) (hH:H t r=0) (am:bH m=true) (hF:d.F≠[]) (hh:b.M.length<a.aH) (κ:KQ)
  (hk:∀h' d' id,tW h' a (N+1) d'→Lone d'.Ts (gu H t r m) X→j_ d d' k→rE d.Ts a.bw a.bp a.bl h h'→d'.Ts.map (·.bm)=d.Ts.map (·.bm)→κ (.tuple ⟨[.int .i64 id,.bool true,.int .i64 0]⟩) h') :
  CallW Tryz.prog 213 [.pointer (some ⟨a.tb,0,none⟩),ew t r,.int .i64 (X t r),.int .i64 m] h κ:=by
 have hno:=L.no hH
 obtain ⟨hm,km⟩:=(gr m).1 am
 refine Gu s hlo hN t r (X t r) m _ ?_ ?_ ?_ ?_ ?_
 ·intro h' hn; omega
 ·intro k' b' h' _ _ hf; rw[am] at hf; cases hf
 ·intro k' b' h' e p hb' _ _ he ht hr; exact absurd ⟨ht,hr⟩ (hno b' (List.mem_of_getElem? hb') e he)
 ·intro k' b' h' hb' Mk _ _ hor
  obtain rfl:k'=k:=by omega
  rw[hb] at hb'; cases hb'
  rcases hor with h1 | ⟨_,h1⟩
  ·exact absurd h1 hF
  ·omega
 ·intro k' b' M' clock' F' W' tV h0 h1 h' n g hb' Mk _ _ _ ak s' fr
  obtain rfl:k'=k:=by omega
  rw[hb] at hb'; cases hb'
  obtain ⟨Q,w,hold,_,_,hg,st⟩:=ak.set
  rcases hold with ⟨e,he,h1,h2,_⟩ | ⟨_,_,rfl,rfl⟩
  ·exact absurd ⟨h1.symm,h2.symm⟩ (hno b (List.mem_of_getElem? hb) e he)
  ·rw[LX] at hg st
   rw[List.nil_append,sK hm] at st
   subst hg
   have L':=L.settle s hb hst hm clock' st
   have o:=(s.is.bk b (List.mem_of_getElem? hb)).ok
   refine hk h' ⟨_,W',tV,F',d.B.set n true⟩ n s' L' (wY hb (st.cnt o) W' tV ?_ _) fr (wN hb _ _)
   have:=ak.free.length_eq
   rw[List.length_cons] at this
   omega
theorem Pd (s:tW h a N d) (L:Lone d.Ts H X) (hlo:h.lo≤h.nx) (hN:N≤1000) {k:Nat} {b:TB} (hb:d.Ts[k]? = some b) {t r m id:Int} (hst:bT t r a.c.S=(k:Int)) {e:HE} (he:e∈b.M) (ht:e.t=t) (hr:e.r=r) (hQ:e.Q=[⟨id,X t r,H t r,H t r,0⟩]) (hH:H t r≠0) (km:kn m=true) (hm:m≠0) (κ:KQ)
  (hk:∀h' d',tW h' a (N+1) d'→Lone d'.Ts (gu H t r (cV (H t r) m)) X→j_ d d' k→rE d.Ts a.bw a.bp a.bl h h'→d'.Ts.map (·.bm)=d.Ts.map (·.bm)→κ (.tuple ⟨[.bool true,.int .i64 0]⟩) h') :
  CallW Tryz.prog 214 [.pointer (some ⟨a.tb,0,none⟩),.int .i64 id,.int .i64 (cV (H t r) m)] h κ:=by
 have Aq:=List.mem_of_getElem? hb
 obtain ⟨n0,kns,idem,_⟩:=Gy (L.km s hH) km hm
 have am:bH (cV (H t r) m)=true:=(gr _).2 ⟨n0,kns⟩
 have ZJ:∀(k':Nat) (b':TB) (e':HE) (p:R5),d.Ts[k']? = some b'→e'∈b'.M→bE e'.Q id=some p→k'=k∧b'=b∧e'=e∧p=⟨id,X t r,H t r,H t r,0⟩:=by
  intro k' b' e' p hb' he' hf
  obtain ⟨i,hi,hid⟩:=ry ((s.is.bk b' (List.mem_of_getElem? hb')).good e' he').vq hf
  obtain ⟨rfl,rfl⟩:=s.yA (List.mem_of_getElem? hb') Aq he' he (List.mem_of_getElem? hi) (by rw[hQ]; exact .head _) hid
  rw[hQ,jB,if_pos rfl] at hf
  have h1:=s.nm k' b' hb' e' he'
  rw[ht,hr] at h1
  exact ⟨by omega,rfl,rfl,(Option.some.inj hf).symm⟩
 refine C9 s hlo hN id _ _ ?_ ?_ ?_ ?_
 ·intro h' hf; rw[am] at hf; cases hf
 ·intro _ hn
  have:=hn b Aq e he
  rw[hQ,jB,if_pos rfl] at this
  cases this
 ·intro k' b' h' e' p _ hb' he' hf hp
  obtain ⟨_,_,_,rfl⟩:=ZJ k' b' e' p hb' he' hf
  simp at hp
 ·intro k' b' h' M' clock' e' p i _ hb' he' hpi hf _ mv s'
  obtain ⟨rfl,rfl,rfl,rfl⟩:=ZJ k' b' e' p hb' he' hf
  have i0:i=0:=by
   have:=(List.getElem?_eq_some_iff.1 hpi).1
   rw[hQ] at this
   simpa using this
  subst i0
  have st:=mv.set
  rw[hQ,C_,idem,List.set_cons_zero,sK n0,ht,hr] at st
  rw[hQ,C_]
  have L':=L.settle s hb hst n0 clock' st
  have o:=(s.is.bk b' Aq).ok
  exact hk h' ⟨_,d.W,d.wc,d.F,d.B⟩ s' L' (wY hb (st.cnt o) _ _ (Nat.le_succ _) _) (rE.OU Aq mv.fr) (wN hb _ _)
theorem Io (s:tW h a N d) (L:Lone d.Ts H X) (hlo:h.lo≤h.nx) {k:Nat} {b:TB} (hb:d.Ts[k]? = some b) {t r id:Int} (hst:bT t r a.c.S=(k:Int)) {e:HE} (he:e∈b.M) (ht:e.t=t) (hr:e.r=r) (hQ:e.Q=[⟨id,X t r,H t r,H t r,0⟩]) (κ:KQ)
  (hk:∀h' d' v',qa h h' v' []→tW h' a (N+1) d'→Lone d'.Ts (gu H t r 0) X→j_ d d' k→rE d.Ts a.bw a.bp a.bl h h'→d'.Ts.map (·.bm)=d.Ts.map (·.bm)→κ (.tuple ⟨[v',.int .i64 0]⟩) h') :
  CallW Tryz.prog 253 [.pointer (some ⟨a.tb,0,none⟩),.int .i64 id] h κ:=by
 have Aq:=List.mem_of_getElem? hb
 have ZJ:∀(k':Nat) (b':TB) (e':HE) (p:R5),d.Ts[k']? = some b'→e'∈b'.M→bE e'.Q id=some p→k'=k∧b'=b∧e'=e∧p=⟨id,X t r,H t r,H t r,0⟩:=by
  intro k' b' e' p hb' he' hf
  obtain ⟨i,hi,hid⟩:=ry ((s.is.bk b' (List.mem_of_getElem? hb')).good e' he').vq hf
  obtain ⟨rfl,rfl⟩:=s.yA (List.mem_of_getElem? hb') Aq he' he (List.mem_of_getElem? hi) (by rw[hQ]; exact .head _) hid
  rw[hQ,jB,if_pos rfl] at hf
  have h1:=s.nm k' b' hb' e' he'
  rw[ht,hr] at h1
  exact ⟨by omega,rfl,rfl,(Option.some.inj hf).symm⟩
 refine LI s hlo id _ ?_ ?_
 ·intro hn
  have:=hn b Aq e he
  rw[hQ,jB,if_pos rfl] at this
  cases this
 ·intro k' b' h' M' clock' F' v' e' p n hb' he' hf hid uT ZA mv ho s'
  obtain ⟨rfl,rfl,rfl,rfl⟩:=ZJ k' b' e' p hb' he' hf
  have UC:(e'.Q.filter fun r=>!bg id r)=[]:=by rw[hQ]; simp[bg]
  have st:=mv.set
  rw[UC] at st ho
  rw[ht,hr] at st
  have L':=L.gone s hb hst clock' st
  have o:=(s.is.bk b' Aq).ok
  refine hk h' ⟨_,d.W,d.wc,F',d.B.set n false⟩ v' ho s' L' (wY hb (st.cnt o) _ _ ?_ _) (rE.OU Aq mv.fr) (wN hb _ _)
  have:=ZA.length_eq
  rw[List.length_append,List.length_singleton] at this
  omega
end
theorem yO (H:Int→Int→Int) (t r:Int):gu H t r (H t r)=H:=by
 funext t' r'
 unfold gu
 split
 ·rename_i e; rw[e.1,e.2]
 ·rfl
theorem j_.refl (d:TD) (k:Nat):j_ d d k:=⟨Nat.le_succ _,fun j b' hj=>⟨b',hj,Nat.le_add_right _ _⟩⟩
section
variable {h:Heap} {A:WA} {a:TA} {N:Nat} {d:TD} {R:RD} {H X:Int→Int→Int}
theorem wZ (s:WS h A a N d R) (L:Lone d.Ts H X) (hN:N≤1000) {i k:Nat} {c:CR} (hi:R.cs[i]? = some (some c)) {b:TB} (hb:d.Ts[k]? = some b) (hst:bT c.a.t c.a.r a.c.S=(k:Int)) (hx:c.a.x=X c.a.t c.a.r) (hx0:0≤c.a.x) (km:kn c.a.m=true) (hm:c.a.m≠0) (hF:H c.a.t c.a.r=0→d.F≠[]) (hh:H c.a.t c.a.r=0→b.M.length<a.aH)
  (xb:List Value) (hl:slot xb 19=.int .i64 (H c.a.t c.a.r)) (id:Int) (hid:H c.a.t c.a.r≠0→∃e∈b.M,e.t=c.a.t∧e.r=c.a.r∧e.Q=[⟨id,X c.a.t c.a.r,H c.a.t c.a.r,H c.a.t c.a.r,0⟩]) (κ:KQ)
  (hk:∀h' d',WS h' A a (N+1) d' { R with cs:=R.cs.set i (some { c with out:=1 }) }→Lone d'.Ts (gu H c.a.t c.a.r (cV (H c.a.t c.a.r) c.a.m)) X→j_ d d' k→WK a h h'→κ (.tuple ⟨[]⟩) h') :
  nM (.pointer (some ⟨c.ca,0,none⟩)) xb (.int .i64 id) h κ:=by
 obtain ⟨gc,c1,c2⟩:=aY s hi
 have gc':=gc
 unfold bh at gc'
 have gw:=s.r.gw
 unfold nM
 simp(disch:=first|omega|simp only[Wd]<;>omega|with_unfolding_all rfl)only[Wz,hl,ax,gc',gw]
 refine KA _ _ ?_
 simp(disch:=first|omega|simp only[Wd]<;>omega|with_unfolding_all rfl)only[Wz,ax,gc',gw]
 refine Mj s L c.a.t c.a.r _ ?_
 intro v Q h1 hQ hv bK
 obtain ⟨vx,vc,ev,_⟩:=(show Sl aZ h1 v Q from hv)
 have hlen:∀(β:Type) (fl:β) (h':Heap) (κ:Value→Heap→β),bz fl v h' κ=κ (.int .i64 (Q.length:Int)) h':=fun β fl h' κ=>by rw[ev]; exact eY _ _ _ _ _
 have hQl:Q.length≤1:=by rcases hQ with rfl | ⟨_,_,rfl⟩<;>simp
 simp(disch:=first|omega|simp only[Wd]<;>omega|with_unfolding_all rfl)only[Wz,hlen]
 refine ⟨fun n l h2=>∃j:Nat,slot l 29=.int .i64 (j:Int)∧n=Q.length-j∧j≤Q.length∧Le h1 h2,⟨_,0,rfl,rfl,by omega,Le.refl _⟩,?_⟩
 rintro n l h2 ⟨j,s1,rfl,hj,bF⟩
 have n2:=bF.nx
 have l2:=bF.lo
 have n1:=bK.nx
 have l1:=bK.lo
 have hlo:=s.lo
 by_cases hlt:j<Q.length
 ·obtain ⟨p,hp⟩:∃p,Q[j]? = some p:=⟨_,List.getElem?_eq_getElem hlt⟩
  obtain ⟨b4,o4,hb4,Vp,OD,_⟩:=MQ hv j hp
  have hpx:0≤p.x:=by
   have hm:=List.mem_of_getElem? hp
   rcases hQ with rfl | ⟨i',m',rfl⟩
   ·nomatch hm
   ·rw[List.mem_singleton] at hm; subst hm; show 0≤X c.a.t c.a.r; omega
  rw[←bF.get _ hb4] at OD
  simp(disch:=first|omega|simp only[Wd]<;>omega|with_unfolding_all rfl)only[Wz,nL,s1,fH (show (j:Int)<(Q.length:Int) by omega)]
  refine ⟨fun l' h'=>Le h1 h',?_,?_⟩
  ·simp(disch:=first|omega|simp only[Wd]<;>omega|with_unfolding_all rfl)only[Wz,vH,s1,Vp,OD,aZ,cg (show (0:Int)≤p.x by omega)]
   exact bF.trans ((Le.refl h2).new _)
  ·intro l' h' le'
   exact ⟨_,by omega,j+1,rfl,rfl,by omega,le'⟩
 ·have jb:=bK.trans bF
  have s2:=s.le jb
  have jt:=(jb.get _ c1).trans gc
  have lR:=jt
  unfold bh at lR
  have ES:=s2.r.gw
  have YZ:=s.Ai jb
  simp(disch:=first|omega|simp only[Wd]<;>omega|with_unfolding_all rfl)only[Wz,nL,s1,cg (show (Q.length:Int)≤(j:Int) by omega),vJ,ax,lR,hl]
  refine Ct _ _ ?_
  have fin:∀h' d',WS h' A a (N+1) d' R→Lone d'.Ts (gu H c.a.t c.a.r (cV (H c.a.t c.a.r) c.a.m)) X→j_ d d' k→WK a h h'→κ (.tuple ⟨[]⟩) ⟨h'.nx,h'.bl.aS c.ca (bh A.wb { c with out:=1 }),h'.lo⟩:=fun h' d' s' L' g' w'=>by
   obtain ⟨rQ,_,_⟩:=aY s' hi
   exact hk _ d' (WS.dX s' hi rfl) L' g' (w'.trans (WS.j9 s' rQ (by simp[jW]) (by decide) _))
  unfold bh at fin
  by_cases Dl:mu (H c.a.t c.a.r) c.a.m=true
  ·have hH:H c.a.t c.a.r≠0:=fun h0=>by rw[h0] at Dl; exact hm (R7 Dl)
   have hs:=(Gy (L.km s.t hH) km hm).2.2.2 Dl
   rw[Dl]
   simp(disch:=first|omega|simp only[Wd]<;>omega|with_unfolding_all rfl)only[Wz,ax,lR]
   refine fin h2 d (s2.up (Nat.le_succ _)) (by rw[hs,yO]; exact L) (j_.refl _ _) YZ
  ·rw[Bool.not_eq_true] at Dl
   rw[Dl]
   simp(disch:=first|omega|simp only[Wd]<;>omega|with_unfolding_all rfl)only[Wz]
   refine ⟨fun l' h'=>∃d',slot l' 39=.bool true∧slot l' 40=.int .i64 0∧WS h' A a (N+1) d' R∧Lone d'.Ts (gu H c.a.t c.a.r (cV (H c.a.t c.a.r) c.a.m)) X∧j_ d d' k∧WK a h h',?_,?_⟩
   ·by_cases hH:H c.a.t c.a.r=0
    ·have am:bH c.a.m=true:=(gr _).2 ⟨hm,km⟩
     rw[hH,ET km]
     simp(disch:=first|omega|simp only[Wd]<;>omega|with_unfolding_all rfl)only[Wz,hl,hH,vI,ax,lR,ES]
     rw[hx]
     refine Pc s2.t L (by omega) hN hb hst hH am (hF hH) (hh hH) _ ?_
     intro h3 d3 id3 t3 L3 g3 f3 b3
     simp(disch:=first|omega|simp only[Wd]<;>omega|with_unfolding_all rfl)only[Wz]
     exact ⟨d3,trivial,trivial,s2.table t3 f3 b3,L3,g3,YZ.trans (s2.YW f3)⟩
    ·simp(disch:=first|omega|simp only[Wd]<;>omega|with_unfolding_all rfl)only[Wz,hl,a_ hH,BN,ax,lR,ES]
     obtain ⟨e,he,het,her,heQ⟩:=hid hH
     refine Pd s2.t L (by omega) hN hb hst he het her heQ hH km hm _ ?_
     intro h3 d3 t3 L3 g3 f3 b3
     simp(disch:=first|omega|simp only[Wd]<;>omega|with_unfolding_all rfl)only[Wz]
     exact ⟨d3,trivial,trivial,s2.table t3 f3 b3,L3,g3,YZ.trans (s2.YW f3)⟩
   ·rintro l' h3 ⟨d3,e1,e2,s3,L3,g3,k3⟩
    obtain ⟨rQ,_,_⟩:=aY s3 hi
    unfold bh at rQ
    simp(disch:=first|omega|simp only[Wd]<;>omega|with_unfolding_all rfl)only[Wz,qY,e2,qX,qW,e1,ax,rQ]
    exact fin h3 d3 s3 L3 g3 k3
end
section
variable {h:Heap} {A:WA} {a:TA} {N:Nat} {d:TD} {R:RD} {H X:Int→Int→Int}
theorem Pe (s:WS h A a N d R) (L:Lone d.Ts H X) (hN:N≤1000) {i k:Nat} {c:CR} (hi:R.cs[i]? = some (some c)) {b:TB} (hb:d.Ts[k]? = some b) (hst:bT c.a.t c.a.r a.c.S=(k:Int)) (hx:c.a.x=X c.a.t c.a.r) (hx0:0≤c.a.x) (km:kn c.a.m=true) (hm:c.a.m≠0) (hF:H c.a.t c.a.r=0→d.F≠[]) (hh:H c.a.t c.a.r=0→b.M.length<a.aH) (κ:KQ)
  (hk:∀h' d',WS h' A a (N+1) d' { R with cs:=R.cs.set i (some { c with out:=1 }) }→Lone d'.Ts (gu H c.a.t c.a.r (cV (H c.a.t c.a.r) c.a.m)) X→j_ d d' k→WK a h h'→κ (.tuple ⟨[]⟩) h') :
  CallW Tryz.prog 155 [.pointer (some ⟨c.ca,0,none⟩)] h κ:=by
 obtain ⟨gc,c1,c2⟩:=aY s hi
 have gc':=gc
 unfold bh at gc'
 have gw:=s.r.gw
 have hlo:=s.lo
 refine aj mixed ?_
 rw[Kg]
 simp(disch:=first|omega|simp only[Wd]<;>omega|with_unfolding_all rfl)only[Wz,ax,gc',gw]
 rw[hx]
 refine Dk s.t L hlo c.a.t c.a.r _ ?_ ?_
 ·intro hH h1 bK
  have s1:=s.le bK
  simp(disch:=first|omega|simp only[Wd]<;>omega|with_unfolding_all rfl)only[Wz]
  refine ⟨fun l' h'=>slot l' 19=.int .i64 (H c.a.t c.a.r)∧Le h1 h',⟨by rw[hH]; rfl,Le.refl _⟩,?_⟩
  rintro l' h2 ⟨sl,bF⟩
  exact wZ (s1.le bF) L hN hi hb hst hx hx0 km hm hF hh l' sl 0 (fun h0=>absurd hH h0) κ fun h' d' s' L' g' k'=>hk h' d' s' L' g' ((s.Ai (bK.trans bF)).trans k')
 ·intro hH h1 k' b' e id hb' Mk he ht hr hQ bK
  obtain rfl:k'=k:=by omega
  rw[hb] at hb'; cases hb'
  have s1:=s.le bK
  obtain ⟨Di,_,_⟩:=aY s1 hi
  unfold bh at Di
  have QM:=s1.r.gw
  have n1:=bK.nx
  have l1:=bK.lo
  simp(disch:=first|omega|simp only[Wd]<;>omega|with_unfolding_all rfl)only[Wz]
  refine ⟨fun l' h'=>slot l' 19=.int .i64 (H c.a.t c.a.r)∧Le h1 h',?_,?_⟩
  ·simp(disch:=first|omega|simp only[Wd]<;>omega|with_unfolding_all rfl)only[Wz,BM,ax,Di,QM]
   refine Pb s1.t (by omega) (List.mem_of_getElem? hb) he hQ _ ?_
   intro h2 bF
   have n2:=bF.nx
   have l2:=bF.lo
   simp(disch:=first|omega|simp only[Wd]<;>omega|with_unfolding_all rfl)only[Wz,ew,jR,aZ]
   exact ⟨trivial,(((bF.new _).new _).set (by omega) _).set (by show h1.nx≤h2.nx+1; omega) _⟩
  ·rintro l' h2 ⟨sl,bF⟩
   exact wZ (s1.le bF) L hN hi hb hst hx hx0 km hm hF hh l' sl id (fun _=>⟨e,he,ht,hr,hQ⟩) κ fun h' d' s' L' g' k'=>hk h' d' s' L' g' ((s.Ai (bK.trans bF)).trans k')
theorem Ml (s:WS h A a N d R) (L:Lone d.Ts H X) {i k:Nat} {c:CR} (hi:R.cs[i]? = some (some c)) {b:TB} (hb:d.Ts[k]? = some b) (hst:bT c.a.t c.a.r a.c.S=(k:Int)) {id:Int} {e:HE} (he:e∈b.M) (ht:e.t=c.a.t) (hr:e.r=c.a.r) (hQ:e.Q=[⟨id,X c.a.t c.a.r,H c.a.t c.a.r,H c.a.t c.a.r,0⟩]) (κ:KQ)
  (hk:∀h' d',WS h' A a (N+1) d' R→Lone d'.Ts (gu H c.a.t c.a.r 0) X→j_ d d' k→WK a h h'→κ (.tuple ⟨[]⟩) h') :
  CallW Tryz.prog 211 [.pointer (some ⟨c.ca,0,none⟩),.int .i64 id] h κ:=by
 obtain ⟨gc,c1,c2⟩:=aY s hi
 have gc':=gc
 unfold bh at gc'
 have gw:=s.r.gw
 have hlo:=s.lo
 refine aj mixed ?_
 rw[SO]
 simp(disch:=first|omega|simp only[Wd]<;>omega|with_unfolding_all rfl)only[Wz,ax,gc',gw]
 refine Io s.t L hlo hb hst he ht hr hQ _ ?_
 intro h1 d1 v1 ho t1 L1 g1 f1 b1
 have s1:=s.table t1 f1 b1
 obtain ⟨Di,k1,k2⟩:=aY s1 hi
 have gcx:=Di
 unfold bh at gcx
 have e1:(h1.bl.aS c.ca (bh A.wb c))=h1.bl.aS c.ca (bh A.wb c):=rfl
 simp(disch:=first|omega|simp only[Wd]<;>omega|with_unfolding_all rfl)only[Wz,ax,gcx]
 rw[append_nil ho.sl ⟨_,_,_,rfl⟩]
 simp(disch:=first|omega|simp only[Wd]<;>omega|with_unfolding_all rfl)only[Wz,ax,gcx]
 have s2:=WS.dX s1 hi (c':=c) rfl
 have hcs:R.cs.set i (some c)=R.cs:=by
  refine List.ext_getElem? fun j=>?_
  rw[List.getElem?_set]
  split
  ·rename_i e; subst e
   rw[hi,if_pos (List.getElem?_eq_some_iff.1 hi).1]
  ·rfl
 rw[hcs] at s2
 have hk:=hk _ d1 s2 L1 g1 ((s.YW f1).trans (WS.j9 s1 Di (by simp[jW]) (by decide) _))
 unfold bh at hk
 exact hk
theorem Pf (s:WS h A a N d R) (L:Lone d.Ts H X) {i k:Nat} {c:CR} (hi:R.cs[i]? = some (some c)) {b:TB} (hb:d.Ts[k]? = some b) (hst:bT c.a.t c.a.r a.c.S=(k:Int)) (hx:c.a.x=X c.a.t c.a.r) (κ:KQ)
  (hk:∀h' d',WS h' A a (N+1) d' { R with cs:=R.cs.set i (some { c with out:=if H c.a.t c.a.r=0 then 6 else 1 }) }→Lone d'.Ts (gu H c.a.t c.a.r 0) X→j_ d d' k→WK a h h'→κ (.tuple ⟨[]⟩) h') :
  CallW Tryz.prog 156 [.pointer (some ⟨c.ca,0,none⟩)] h κ:=by
 obtain ⟨gc,c1,c2⟩:=aY s hi
 have gc':=gc
 unfold bh at gc'
 have gw:=s.r.gw
 have hlo:=s.lo
 have fin:∀h' d',WS h' A a (N+1) d' R→Lone d'.Ts (gu H c.a.t c.a.r 0) X→j_ d d' k→WK a h h'→κ (.tuple ⟨[]⟩) ⟨h'.nx,h'.bl.aS c.ca (bh A.wb { c with out:=if H c.a.t c.a.r=0 then 6 else 1 }),h'.lo⟩:=fun h' d' s' L' g' w'=>by
  obtain ⟨rQ,_,_⟩:=aY s' hi
  exact hk _ d' (WS.dX s' hi rfl) L' g' (w'.trans (WS.j9 s' rQ (by simp[jW]) (by decide) _))
 unfold bh at fin
 refine aj mixed ?_
 rw[SD]
 simp(disch:=first|omega|simp only[Wd]<;>omega|with_unfolding_all rfl)only[Wz,ax,gc',gw]
 rw[hx]
 refine Dk s.t L hlo c.a.t c.a.r _ ?_ ?_
 ·intro hH h1 bK
  have s1:=s.le bK
  obtain ⟨Di,_,_⟩:=aY s1 hi
  unfold bh at Di
  simp(disch:=first|omega|simp only[Wd]<;>omega|with_unfolding_all rfl)only[Wz,ax,Di]
  have:=fin h1 d (s1.up (Nat.le_succ _)) (by have:=yO H c.a.t c.a.r; rw[hH] at this; rw[this]; exact L) (j_.refl _ _) (s.Ai bK)
  rw[if_pos hH] at this
  exact this
 ·intro hH h1 k' b' e id hb' Mk he ht hr hQ bK
  obtain rfl:k'=k:=by omega
  rw[hb] at hb'; cases hb'
  have s1:=s.le bK
  simp(disch:=first|omega|simp only[Wd]<;>omega|with_unfolding_all rfl)only[Wz]
  refine Ml s1 L hi hb hst he ht hr hQ _ ?_
  intro h2 d2 s2 L2 g2 k2
  obtain ⟨jt,_,_⟩:=aY s2 hi
  unfold bh at jt
  simp(disch:=first|omega|simp only[Wd]<;>omega|with_unfolding_all rfl)only[Wz,ax,jt]
  have:=fin h2 d2 s2 L2 g2 ((s.Ai bK).trans k2)
  rw[if_neg hH] at this
  exact this
end
def Dm (k:Int) (f:FuncId) (n:Nat):MapEntry:={ key:=.int .i64 k,val:=.func (.func f) ⟨[]⟩ ⟨[]⟩,born:=n }
noncomputable def Mm:bt:=.map [Dm 1 155 0,Dm 2 156 1,Dm 3 157 2] 3
theorem findF (h:Heap) (k k':Int) (f:FuncId) (n:Nat) (es:List MapEntry) (i:Nat):fC Tryz.prog h 3 (.int .i64 k) (Dm k' f n::es) i=if k=k' then some (some (i,Dm k' f n)) else fC Tryz.prog h 3 (.int .i64 k) es (Nat.succ i):=by
 have hf:fC Tryz.prog h 3 (.int .i64 k) (Dm k' f n::es) i=(match (some (decide (k=k')):Option Bool) with | some true=>some (some (i,Dm k' f n)) | some false=>fC Tryz.prog h 3 (.int .i64 k) es (Nat.succ i) | none=>none):=by
  rw[←eqI h]; rfl
 rw[hf]
 by_cases e:k=k'
 ·rw[bf e,if_pos e]
 ·rw[a_ e,if_neg e]
theorem EU {es:List MapEntry} {clock:Nat} {h:Heap} {b:Nat} (g:h.bl.get b=some (.map es clock)) (hlo:h.lo≤b) (k:Int) (f:FuncId) (hf:∀h:Heap,fC Tryz.prog h 3 (.int .i64 k) es 0=some none) (κ:KQ)
  (hk:κ undef ⟨h.nx,h.bl.aS b (.map (es++[Dm k f clock]) (clock+1)),h.lo⟩) :
  bW False Tryz.prog 3 (.map (some b)) (.int .i64 k) (.func (.func f) ⟨[]⟩ ⟨[]⟩) h κ:=by
 unfold bW
 rw[OT]
 simp only[g,hf]
 rw[nj]
 simp only[bL]
 rw[bD _ _ _ _ hlo]
 exact hk
theorem Mn (h:Heap) (κ:KQ) (hlo:h.lo≤h.nx) (hk:∀b h',Le h h'→h'.bl.get b=some Mm→κ (.map (some b)) h'):CallW Tryz.prog 116 [] h κ:=by
 refine aj mixed ?_
 rw[Sr]
 simp(disch:=first|omega|simp only[Wd]<;>omega|with_unfolding_all rfl)only[Wz,gL]
 refine EU (es:=[]) (T.af _ _ _) (by exact hlo) 1 155 (fun h=>rfl) _ ?_
 refine EU (T.af _ _ _) (by exact hlo) 2 156 (fun h=>by rw[List.nil_append,findF,if_neg (by decide)]; rfl) _ ?_
 refine EU (T.af _ _ _) (by exact hlo) 3 157 (fun h=>by rw[List.nil_append,List.singleton_append,findF,if_neg (by decide),findF,if_neg (by decide)]; rfl) _ ?_
 exact hk h.nx _ ((((Le.refl h).new _).set (Nat.le_refl _) _).set (Nat.le_refl _) _ |>.set (Nat.le_refl _) _) (T.af _ _ _)
theorem Mo {β:Type} {fl:β} {h:Heap} {b:Nat} (g:h.bl.get b=some Mm) (k:Int) (f:FuncId) (hk:(k=1∧f=155)∨(k=2∧f=156)) (κ:Value→Heap→β) :
  c8 fl Tryz.prog 3 Value.nilFunc false (.map (some b)) (.int .i64 k) h κ=κ (.func (.func f) ⟨[]⟩ ⟨[]⟩) h:=by
 unfold c8 jm
 rw[OT]
 simp only[g,Mm]
 rcases hk with ⟨rfl,rfl⟩ | ⟨rfl,rfl⟩
 ·rw[findF,if_pos rfl]; rfl
 ·rw[findF,if_neg (by decide),findF,if_pos rfl]; rfl
section
variable {h:Heap} {A:WA} {a:TA} {N:Nat} {d:TD} {R:RD} {H X:Int→Int→Int}
theorem Pg (s:WS h A a N d R) (L:Lone d.Ts H X) (hN:N≤1000) {i k:Nat} {c:CR} (hi:R.cs[i]? = some (some c)) (jZ:c.wt=false) {b:TB} (hb:d.Ts[k]? = some b) (hst:bT c.a.t c.a.r a.c.S=(k:Int)) (hx:c.a.x=X c.a.t c.a.r) (hx0:0≤c.a.x) (hm:rG c.a=true) (h3:c.a.k≠3) (hF:c.a.k=1→H c.a.t c.a.r=0→d.F≠[]) (hh:c.a.k=1→H c.a.t c.a.r=0→b.M.length<a.aH) (κ:KQ)
  (hk:∀h' d',WS h' A a (N+1) d' { R with cs:=R.cs.set i (some { c with ph:=3,out:=jd H c.a }) }→Lone d'.Ts (qk H c.a) X→j_ d d' k→WK a h h'→κ (.tuple ⟨[]⟩) h') :
  CallW Tryz.prog 76 [.pointer (some ⟨c.ca,0,none⟩)] h κ:=by
 obtain ⟨gc,c1,c2⟩:=aY s hi
 have gc':=gc
 unfold bh at gc'
 have hlo:=s.lo
 have hil:=(List.getElem?_eq_some_iff.1 hi).1
 unfold rG at hm
 rw[Bool.and_eq_true] at hm
 have hm:=hm.2
 have fin:∀h' d',WS h' A a (N+1) d' { R with cs:=R.cs.set i (some { c with out:=jd H c.a }) }→Lone d'.Ts (qk H c.a) X→j_ d d' k→WK a h h'→
   CallW Tryz.prog 45 [.pointer (some ⟨c.ca,0,none⟩),.int .i64 3,.func (.func 117) ⟨[.pointer (some ⟨c.ca,0,none⟩)]⟩ ⟨[]⟩] h' (fun _ h=>κ (.tuple ⟨[]⟩) h):=by
  intro h' d' s' L' g' k'
  have hi':(R.cs.set i (some { c with out:=jd H c.a }))[i]? = some (some { c with out:=jd H c.a }):=by rw[List.getElem?_set,if_pos rfl,if_pos hil]
  obtain ⟨rQ,_,c3⟩:=aY s' hi'
  refine qm { c with out:=jd H c.a } rQ c3 3 _ rfl _ ?_
  have s4:=WS.dX s' hi' (c':={ c with ph:=3,out:=jd H c.a }) rfl
  simp only[List.set_set] at s4
  exact hk _ d' s4 L' g' (k'.trans (WS.j9 s' rQ (by simp[jW]) (by decide) _))
 refine aj mixed ?_
 rw[J8]
 refine ⟨fun l' h'=>∃d',WS h' A a (N+1) d' { R with cs:=R.cs.set i (some { c with out:=jd H c.a }) }∧Lone d'.Ts (qk H c.a) X∧j_ d d' k∧WK a h h',?_,?_⟩
 ·simp(disch:=first|omega|simp only[Wd]<;>omega|with_unfolding_all rfl)only[Wz,uq,ax,gc',jZ,zL]
  refine Mn h _ hlo ?_
  intro b0 h1 bK g0
  have s1:=s.le bK
  have k1:=s.Ai bK
  have Di:=(bK.get _ c1).trans gc'
  unfold jd qk
  by_cases ha:c.a.k=1
  ·rw[if_pos ha] at hm ⊢
   rw[if_pos ha]
   rw[Bool.and_eq_true,Bool.and_eq_true,decide_eq_true_eq] at hm
   simp(disch:=first|omega|simp only[Wd]<;>omega|with_unfolding_all rfl)only[Wz,Mo g0 _ _ (.inl ⟨ha,rfl⟩),ax,Di,List.nil_append,List.append_nil]
   refine Pe s1 L hN hi hb hst hx hx0 hm.1.1 hm.1.2 (hF ha) (hh ha) _ ?_
   intro h2 d2 s2 L2 g2 k2
   rw[jZ] at s2
   exact ⟨d2,s2,L2,g2,k1.trans k2⟩
  ·rw[if_neg ha,if_neg h3,decide_eq_true_eq] at hm
   rw[if_neg ha,if_neg ha]
   simp(disch:=first|omega|simp only[Wd]<;>omega|with_unfolding_all rfl)only[Wz,Mo g0 _ _ (.inr ⟨hm,rfl⟩),ax,Di,List.nil_append,List.append_nil]
   refine Pf s1 L hi hb hst hx _ ?_
   intro h2 d2 s2 L2 g2 k2
   rw[jZ] at s2
   exact ⟨d2,s2,L2,g2,k1.trans k2⟩
 ·rintro l' h' ⟨d',s',L',g',k'⟩
  exact fin h' d' s' L' g' k'
theorem w5 (s:WS h A a N d R) (L:Lone d.Ts H X) (hN:N≤1000) {i k:Nat} {c:CR} (hi:R.cs[i]? = some (some c)) (kX:c.ph=2) (mM:R.bits[i]? = some 0) (jZ:c.wt=false) {b:TB} (hb:d.Ts[k]? = some b) (hst:bT c.a.t c.a.r a.c.S=(k:Int)) (hsk:c.st=(k:Int)) {o:Option (Nat × Int)} (hl:R.bI[k]? = some o) (hx:c.a.x=X c.a.t c.a.r) (hx0:0≤c.a.x) (hm:rG c.a=true) (h3:c.a.k≠3) (hF:c.a.k=1→H c.a.t c.a.r=0→d.F≠[]) (hh:c.a.k=1→H c.a.t c.a.r=0→b.M.length<a.aH) (κ:KQ)
  (hk:∀h' d',WS h' A a (N+1) d' { R with cs:=R.cs.set i (some { c with ph:=3,out:=jd H c.a }) }→Lone d'.Ts (qk H c.a) X→j_ d d' k→WK a h h'→κ (.tuple ⟨[.bool false,.int .i64 0,.int .i64 0]⟩) h') :
  CallW Tryz.prog 14 [.pointer (some ⟨A.wb,0,none⟩),.int .i64 (i:Int)] h κ:=by
 have gw:=s.r.gw
 have DD:=s.r.gc
 have hil:=lQ s hi
 have r:(R.cs.map fun o=>cz (o.map (·.ca)))[i]? = some (.pointer (some ⟨c.ca,0,none⟩)):=eu s hi
 obtain ⟨gc,c1,c2⟩:=aY s hi
 have hlc:(R.cs.map fun o=>cz (o.map (·.ca))).length=A.n:=by rw[List.length_map]; exact s.r.lc
 have gc':=gc
 unfold bh pe at gc'
 rw[kX] at gc'
 have h1:decide (((2:Nat):Int)=1)=false:=by decide
 refine aj mixed ?_
 rw[vC]
 simp(disch:=first|omega|simp only[Wd]<;>omega|with_unfolding_all rfl)only[Wz,er,kE]
 refine gX s hil _ ?_
 simp(disch:=first|omega|simp only[Wd]<;>omega|with_unfolding_all rfl)only[Wz]
 refine kO s hi mM hsk hl _ ?_
 rw[kX,h1]
 simp(disch:=first|omega|simp only[Wd]<;>omega|with_unfolding_all rfl)only[Wz,Bool.not_false,Bool.true_or,kz,ax,gw,aN,DD,r,gc',Nat.mul_one,jq]
 refine Pg s L hN hi jZ hb hst hx hx0 hm h3 hF hh _ ?_
 intro h' d' s' L' g' k'
 have hi':(R.cs.set i (some { c with ph:=3,out:=jd H c.a }))[i]? = some (some { c with ph:=3,out:=jd H c.a }):=by rw[List.getElem?_set,if_pos rfl,if_pos (by have:=s.r.lc; omega)]
 obtain ⟨jt,_,_⟩:=aY s' hi'
 unfold bh at jt
 simp(disch:=first|omega|simp only[Wd]<;>omega|with_unfolding_all rfl)only[Wz,ax,jt]
 exact hk h' d' s' L' g' k'
end
end Go.Proofs
