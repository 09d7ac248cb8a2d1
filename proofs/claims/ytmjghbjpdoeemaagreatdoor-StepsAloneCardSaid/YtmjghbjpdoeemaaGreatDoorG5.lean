/-
  PROVED HERE: a part of the proof (K20, K21, K22, K23, K24, K25, K26, VaiY, K27, K28, K29, Srt, K30, K31, K42, K43, L1, VaiE, L2, L3, L4, L7).
-/
import Derived.Test.YtmjghbjpdoeemaaGreatDoorG4
import Derived.Test.YtmjghbjpdoeemaaGreatDoorG2
set_option linter.unusedVariables false
set_option linter.unusedSimpArgs false
set_option maxRecDepth 100000
namespace Go.Proofs
open Go.Vai Go.Clashes
def fN (M:List HE):List Int:=M.flatMap fun e=>e.Q.map (·.id)
def di (B:List Bool):List Int:=((List.range B.length).filter fun n=>(B[n]?).getD false).map fun n:Nat=>(n:Int)
theorem jN {B:List Bool} {x:Int}:x∈di B↔∃n:Nat,x=(n:Int)∧B[n]? = some true:=by
 unfold di
 rw[List.mem_map]
 constructor
 ·rintro ⟨n,hn,rfl⟩
  rw[List.mem_filter,List.mem_range] at hn
  refine ⟨n,rfl,?_⟩
  have h2:=hn.2
  rw[List.getElem?_eq_getElem hn.1] at h2 ⊢
  simpa using h2
 ·rintro ⟨n,rfl,h⟩
  refine ⟨n,List.mem_filter.2 ⟨List.mem_range.2 (List.getElem?_eq_some_iff.1 h).1,by rw[h]; rfl⟩,rfl⟩
theorem xZ {L:List Nat} (h:L.Nodup):(L.map fun n:Nat=>(n:Int)).Nodup:=by
 rw[List.Nodup,List.pairwise_map]
 exact h.imp fun hne e=>hne (Int.ofNat.inj e)
theorem rC (B:List Bool):(di B).Nodup:=xZ (List.nodup_range.filter _)
theorem x7 {L:List Int} {x:Int} (h:L.Nodup) (hx:x∉L):(L++[x]).Nodup:=by
 rw[List.nodup_append]
 refine ⟨h,by simp,fun a ha b hb=>?_⟩
 rw[List.mem_singleton] at hb; subst hb
 rintro rfl; exact hx ha
theorem qe {B:List Bool} {n:Nat} (h:B[n]? = some false):(di (B.set n true)).Perm (di B++[(n:Int)]):=by
 have hn:n<B.length:=(List.getElem?_eq_some_iff.1 h).1
 refine (List.perm_ext_iff_of_nodup (rC _) (x7 (rC _) fun hm=>?_)).2 fun x=>?_
 ·obtain ⟨k,e,hk⟩:=jN.1 hm
  have:k=n:=(Int.ofNat.inj e).symm
  subst this; rw[h] at hk; cases hk
 ·rw[List.mem_append,List.mem_singleton,jN,jN]
  constructor
  ·rintro ⟨k,rfl,hk⟩
   by_cases hkn:k=n
   ·exact .inr (by rw[hkn])
   ·rw[List.getElem?_set,if_neg (fun e=>hkn e.symm)] at hk
    exact .inl ⟨k,rfl,hk⟩
  ·rintro (⟨k,rfl,hk⟩ | rfl)
   ·refine ⟨k,rfl,?_⟩
    rw[List.getElem?_set]
    split
    ·rename_i e; exact absurd (by rw[←e,h] at hk; exact hk:some false=some true) (by simp)
    ·exact hk
   ·exact ⟨n,rfl,by rw[List.getElem?_set,if_pos rfl,if_pos hn]⟩
theorem Al {B:List Bool} {n:Nat} (h:B[n]? = some true):(di B).Perm (di (B.set n false)++[(n:Int)]):=by
 have hn:n<B.length:=(List.getElem?_eq_some_iff.1 h).1
 have:=qe (B:=B.set n false) (n:=n) (by rw[List.getElem?_set,if_pos rfl,if_pos hn])
 rw[List.set_set] at this
 have e:B.set n true=B:=by
  refine List.ext_getElem? fun k=>?_
  rw[List.getElem?_set]
  split
  ·rename_i e; rw[←e,h]
  ·rfl
 rwa [e] at this
theorem pg {F:List Int} {B:List Bool} (o:jT F B):(di B).length+F.length=B.length:=by
 have hp:F.Perm (((List.range B.length).filter fun n=>!(B[n]?).getD false).map fun n:Nat=>(n:Int)):=by
  refine (List.perm_ext_iff_of_nodup o.nodup (xZ (List.nodup_range.filter _))).2 fun x=>?_
  rw[List.mem_map]
  constructor
  ·intro hx
   obtain ⟨n,rfl⟩:∃n:Nat,x=(n:Int):=⟨x.toNat,by have:=o.pos x hx; omega⟩
   have hb:=(o.mem n).1 hx
   exact ⟨n,List.mem_filter.2 ⟨List.mem_range.2 (List.getElem?_eq_some_iff.1 hb).1,by rw[hb]; rfl⟩,rfl⟩
  ·rintro ⟨n,hn,rfl⟩
   rw[List.mem_filter,List.mem_range] at hn
   refine (o.mem n).2 ?_
   have h2:=hn.2
   rw[List.getElem?_eq_getElem hn.1] at h2 ⊢
   simpa using h2
 rw[hp.length_eq]
 unfold di
 rw[List.length_map,List.length_map,←List.countP_eq_length_filter,←List.countP_eq_length_filter]
 have:=List.length_eq_countP_add_countP (fun n=>(B[n]?).getD false) (l:=List.range B.length)
 rw[List.length_range] at this
 have e2:List.countP (fun n=>!(B[n]?).getD false) (List.range B.length)=List.countP (fun a=>decide ¬(B[a]?).getD false=true) (List.range B.length):=List.countP_congr fun x _=>by simp
 omega
theorem lP (M N:List HE):fN (M++N)=fN M++fN N:=List.flatMap_append
theorem qf {M N:List HE} (h:M.Perm N):(fN M).Perm (fN N):=h.flatMap_right _
theorem sE (e:HE):fN [e]=e.Q.map (·.id):=by simp[fN]
theorem qg {M:List HE} {clock:Nat} (o:fL M clock) {e:HE} (he:e∈M):M.Perm (M.filter (fun x=>!tQ e.t e.r x)++[e]):=by
 obtain ⟨j,hj,rfl⟩:=List.mem_iff_getElem.1 he
 rw[←erase_filter o.nm (List.getElem?_eq_getElem hj)]
 have:M=M.set j M[j]:=by simp
 refine (List.Perm.of_eq this).trans ?_
 rw[List.set_eq_take_append_cons_drop,if_pos hj,List.eraseIdx_eq_take_drop_succ]
 exact (List.perm_middle).trans (List.perm_append_singleton _ _).symm
theorem Am {M:List HE} {t r:Int} (hn:∀e∈M,¬(t=e.t∧r=e.r)):M.filter (fun x=>!tQ t r x)=M:=List.filter_eq_self.2 fun x hx=>qJ.2 (hn x hx)
theorem e_.ids {M M':List HE} {t r w:Int} {Q:List R5} (s:e_ M M' t r w Q):(fN M').Perm (fN (M.filter fun x=>!tQ t r x)++Q.map (·.id)):=by
 by_cases h0:Q=[]
 ·rw[s.gone h0,h0]; simp
 ·obtain ⟨e,_,_,_,eq,hp⟩:=s.put h0
  have:=qf hp
  rw[lP,sE,eq] at this
  exact this
theorem x9 {Q:List R5} {W:Int} (v:VQ Q W) (n:Nat):(cw n Q).1.map (·.id)=Q.map (·.id):=by
 have:=congrArg (List.map Prod.fst) (vo n v).2.1
 simpa[List.map_map,Function.comp_def,Gl] using this
def qL (M:List HE) (B:List Bool):Prop:=∃X,(fN M++X).Perm (di B)
theorem qL.find {M:List HE} {B:List Bool} (i:qL M B) {e:HE} (he:e∈M) {p:R5} (hp:p∈e.Q):∃n:Nat,p.id=(n:Int)∧B[n]? = some true:=by
 obtain ⟨X,hX⟩:=i
 exact jN.1 (hX.mem_iff.1 (List.mem_append.2 (.inl (List.mem_flatMap.2 ⟨e,he,List.mem_map.2 ⟨p,hp,rfl⟩⟩))))
theorem QV.frame {h h':Heap} {q:Value} {Q:List R5} (v:QV h q Q) (hn:h.nx≤h'.nx) (hg:∀c vs op,c<h.nx→h.bl.get c=some (aa vs 83 op)→h'.bl.get c=h.bl.get c):QV h' q Q:=by
 obtain ⟨hs,ht⟩:=v
 constructor
 ·obtain ⟨x,cap,rfl,h2⟩:=hs
  refine ⟨x,cap,rfl,fun hne=>?_⟩
  obtain ⟨b,o,rfl,h3,h4⟩:=h2 hne
  obtain ⟨h1,vs,op,h5⟩:=ht b o _ cap rfl (by intro h0; exact hne (List.eq_nil_of_length_eq_zero h0))
  refine ⟨b,o,rfl,Nat.lt_of_lt_of_le h3 hn,?_⟩
  rw[hg b vs op h1 h5]; exact h4
 ·intro b o n c hv hn0
  obtain ⟨h1,vs,op,h2⟩:=ht b o n c hv hn0
  exact ⟨Nat.lt_of_lt_of_le h1 hn,vs,op,(hg b vs op h1 h2).trans h2⟩
theorem mg.tV {h h':Heap} {bp bl:Nat} {F:List Int} {B:List Bool} {e:HE} (a:mg h e) (p:dR h bp bl F B) (f:Jo bp bl h h'):mg h' e:=by
 have fn:=f.nx
 obtain ⟨fs,sZ,hpt⟩:=p.fr.cell
 have gl:=p.cell
 have key:∀c vs ty,c<h.nx→h.bl.get c=some (aa vs ty false)→ty≠225→ty≠4→h'.bl.get c=h.bl.get c:=fun c vs ty hc hg h1 h2=>
  f.get c hc (by rintro rfl; rw[hg] at sZ; exact aL h1 sZ) (by rintro rfl; rw[hg] at gl; exact aL h2 gl) fun ws=>by rw[hg]; exact aS
 have al:=a.lt
 refine ⟨by omega,(key _ _ _ al a.get (by decide) (by decide)).trans a.get,a.qv.frame fn fun c vs op hc hg=>?_⟩
 exact f.get c hc (by rintro rfl; rw[hg] at sZ; exact aL (by decide) sZ) (by rintro rfl; rw[hg] at gl; exact aL (by decide) gl) fun ws=>by rw[hg]; exact aL (by decide)
theorem bh.tV {h h':Heap} {bb bm bp bl most:Nat} {M:List HE} {clock:Nat} {F F':List Int} {B B':List Bool} (s:bh h bb bm bp bl most M clock F B) (p:dR h' bp bl F' B') (f:Jo bp bl h h'):bh h' bb bm bp bl most M clock F' B':=by
 have fn:=f.nx
 have fl:=f.lo
 have sb:=s.Lv
 have sm:=s.tU
 obtain ⟨fs,sZ,hpt⟩:=s.bX.fr.cell
 have gl:=s.bX.cell
 have key:∀c vs ty,c<h.nx→h.bl.get c=some (aa vs ty false)→ty≠225→ty≠4→h'.bl.get c=h.bl.get c:=fun c vs ty hc hg h1 h2=>
  f.get c hc (by rintro rfl; rw[hg] at sZ; exact aL h1 sZ) (by rintro rfl; rw[hg] at gl; exact aL h2 gl) fun ws=>by rw[hg]; exact aS
 have gm:=s.fM
 have km:h'.bl.get bm=h.bl.get bm:=f.get bm sm (by rintro rfl; rw[sZ] at gm; exact bE gm.symm) (by rintro rfl; rw[gl] at gm; exact bE gm.symm) fun ws=>by rw[gm]; exact bE
 refine ⟨by omega,by omega,by rw[fl]; exact s.PM,(key bb _ _ sb s.gN (by decide) (by decide)).trans s.gN,km.trans gm,s.ok,fun e he=>?_,s.good,p,s.ne⟩
 exact (s.aF e he).tV s.bX f
theorem Q_ (Q:List R5) (W id x m:Int):(dI Q W id x m).1.id=id:=by unfold dI; split<;>rfl
structure mQ (h h':Heap) (bb bm bp bl most:Nat) (M M':List HE) (clock':Nat) (F F':List Int) (B:List Bool) (t r x m:Int) (n:Nat) (g:Bool):Prop where
 is:bh h' bb bm bp bl most M' clock' F' (B.set n true)
 free:((n:Int)::F').Perm F
 old:B[n]? = some false
 least:∀k,k<n→B[k]? = some true
 fr:qK bm bp bl h h'
 set:∃Q w,((∃e∈M,e.t=t∧e.r=r∧e.Q=Q∧e.w=w)∨((∀e∈M,¬(t=e.t∧r=e.r))∧M.length<most∧Q=[]∧w=0))∧VQ Q w∧VQ (Q++[(dI Q w n x m).1]) (dI Q w n x m).2.1∧g=(dI Q w n x m).2.2∧
  e_ M M' t r (dI Q w n x m).2.1 (cw (dO (Q++[(dI Q w n x m).1])+1) (Q++[(dI Q w n x m).1])).1
theorem An {h h0:Heap} {bb bm bp bl most:Nat} {M:List HE} {clock:Nat} {F:List Int} {B:List Bool} (s:bh h bb bm bp bl most M clock F B) (hlo:h.lo≤h.nx) (l0:Le h0 h) (ids:qL M B) (hF:F.length≤1000) (N:Nat) (hN:N≤100000) (hw:∀e∈M,e.w≤N) (t r x m:Int) (am:aZ m=true) (l:List Value) (ph:Nat) (Q:List R5) (q:Value) (w:Int)
  (hl:slot l 18=.pointer (some ⟨ph,0,none⟩)) (hp:ph<h.nx) (gp:h.bl.get ph=some (eo t r q w)) (hq:QV h q Q) (vq:VQ Q w) (Cv:F≠[]→Q.length≤127) (hwN:w≤N) (hx:∀p∈Q,p.x≠x) (uW:∀p∈Q,∃k:Nat,p.id=(k:Int)∧B[k]? = some true)
  (hold:((∃e∈M,e.t=t∧e.r=r∧e.Q=Q∧e.w=w)∨((∀e∈M,¬(t=e.t∧r=e.r))∧M.length<most∧Q=[]∧w=0)))
  (κ:KQ)
  (hkF:∀h',F=[]→Le h0 h'→κ (.tuple ⟨[.int .i64 0,.bool false,.int .i64 8]⟩) h')
  (Cz:∀M' clock' F' h' n g,mQ h0 h' bb bm bp bl most M M' clock' F F' B t r x m n g→κ (.tuple ⟨[.int .i64 (n:Int),.bool g,.int .i64 0]⟩) h') :
  xD (.pointer (some ⟨bb,0,none⟩)) l (.int .i64 x) (.int .i64 m) h κ:=by
 have gb:=s.gN
 simp(disch:=first|omega|simp only[Wd]<;>omega|rfl)only[Wz,xD,aJ,gb]
 refine W5 bp bl F B h _ s.bX hF hlo s.ne ?_ ?_
 ·intro h0'
  simp(disch:=first|omega|simp only[Wd]<;>omega|rfl)only[Wz]
  exact hkF h h0' l0
 intro h2 F' n p2 hp2 hb xW zu
 have s2:=s.tV p2 zu
 have n2:=zu.nx
 have l2:=zu.lo
 have hF0:F≠[]:=by rintro rfl; have:=hp2.length_eq; simp at this
 have Cv:=Cv hF0
 have H2:=mg.tV (e:=⟨t,r,ph,0,q,w,Q⟩) ⟨hp,gp,hq⟩ s.bX zu
 have g2:h2.bl.get ph=some (eo t r q w):=H2.get
 have uv:QV h2 q Q:=H2.qv
 obtain ⟨qx,qc,rfl,_⟩:=(show Sl bq h2 q Q from uv.1)
 simp(disch:=first|omega|simp only[Wd]<;>omega|rfl)only[Wz,Ef,hl,aJ,g2]
 have hn:∀p∈Q,p.id≠(n:Int)∧p.x≠x:=fun p hp'=>⟨fun e=>by
  obtain ⟨k,e1,e2⟩:=uW p hp'
  have:k=n:=by omega
  rw[this,hb] at e2
  exact absurd e2 (by simp),hx p hp'⟩
 refine abq t r _ w (n:Int) x m Q h2 _ uv.1 (by omega) (by omega) ⟨vq.w0,by omega⟩ (by omega) am hn ?_
 intro q3 h3 og c9
 have n3:=c9.nx
 have l3:=c9.lo
 have v3:=vq.ask (id:=(n:Int)) (x:=x) (m:=m) (by omega) am hn
 obtain ⟨vB,vC,rfl,_⟩:=(show Sl bq h3 q3 _ from og.sl)
 simp(disch:=first|omega|simp only[Wd]<;>omega|rfl)only[Wz,ef]
 have iw:Le h2 ⟨h3.nx+1,h3.bl.aY h3.nx (eo t r (.slice vB (Q++[(dI Q w n x m).1]).length vC) (dI Q w n x m).2.1),h3.lo⟩:=c9.new _
 have lh4:Le h3 ⟨h3.nx+1,h3.bl.aY h3.nx (eo t r (.slice vB (Q++[(dI Q w n x m).1]).length vC) (dI Q w n x m).2.1),h3.lo⟩:=(Le.refl h3).new _
 have s4:=s2.le iw
 refine xY s4 (by show h3.lo≤h3.nx+1; omega) t r _ _ _ _ ((og.sl).le lh4) v3 (by simp; omega) ?_
 intro M' clock' v' h' s5 k_ tL FF
 exact Cz M' clock' F' h' n _ ⟨s5,hp2,hb,xW,(qK.of_le l0).trans ((qK.abC zu).trans ((qK.of_le iw).trans FF)),Q,w,hold,vq,v3,rfl,k_⟩
theorem qL.len {M:List HE} {F:List Int} {B:List Bool} (i:qL M B) (o:jT F B) {e:HE} (he:e∈M):e.Q.length+F.length≤B.length:=by
 have h1:=pg o
 obtain ⟨X,hX⟩:=i
 have h2:=hX.length_eq
 rw[List.length_append] at h2
 have:e.Q.length≤(fN M).length:=by
  have hs:=List.append_of_mem he
  obtain ⟨s,t,rfl⟩:=hs
  simp[fN]; omega
 omega
theorem Ra {h:Heap} {bb bm bp bl most:Nat} {M:List HE} {clock:Nat} {F:List Int} {B:List Bool} (s:bh h bb bm bp bl most M clock F B) (hlo:h.lo≤h.nx) (ids:qL M B) (N:Nat) (hN:N≤100000) (hw:∀e∈M,e.w≤N) (t r x m:Int) (κ:KQ)
  (hk2:∀h',aZ m=false→Le h h'→κ (.tuple ⟨[.int .i64 0,.bool false,.int .i64 2]⟩) h')
  (Me:∀h' e p,aZ m=true→e∈M→t=e.t→r=e.r→p∈e.Q→p.x=x→Le h h'→κ (.tuple ⟨[.int .i64 0,.bool false,.int .i64 4]⟩) h')
  (GK:∀h',aZ m=true→(∀e∈M,t=e.t→r=e.r→∀p∈e.Q,p.x≠x)→(F=[]∨((∀e∈M,¬(t=e.t∧r=e.r))∧most≤M.length))→Le h h'→κ (.tuple ⟨[.int .i64 0,.bool false,.int .i64 8]⟩) h')
  (Cz:∀M' clock' F' h' n g,aZ m=true→(∀e∈M,t=e.t→r=e.r→∀p∈e.Q,p.x≠x)→mQ h h' bb bm bp bl most M M' clock' F F' B t r x m n g→κ (.tuple ⟨[.int .i64 (n:Int),.bool g,.int .i64 0]⟩) h') :
  CallW Tryz.prog 255 [.pointer (some ⟨bb,0,none⟩),dn t r,.int .i64 x,.int .i64 m] h κ:=by
 refine an mixed ?_
 rw[Wi]
 have hFl:F.length≤1000:=by have:=pg s.bX.ok; have:=s.bX.small; omega
 simp(disch:=first|omega|simp only[Wd]<;>omega|rfl)only[Wz,dn]
 obtain ⟨hA,az⟩:∃hA:Heap,hA=⟨h.nx+1,(h.bl.aY (h.nx) (aa [.int .i64 t,.int .i64 r] 36 false)),h.lo⟩:=⟨_,rfl⟩
 have aK:Le h hA:=by subst az; exact ((Le.refl h).new _)
 have g1:hA.bl.get (h.nx)=some (aa [.int .i64 t,.int .i64 r] 36 false):=by subst az; exact T.af _ _ _
 have d_:hA.nx=h.nx+1:=by subst az; rfl
 have ee:hA.lo=h.lo:=by subst az; rfl
 rw[←az]
 clear az
 have sA:=s.le aK
 simp(disch:=first|omega|simp only[Wd]<;>omega|rfl)only[Wz,iW,Eh]
 by_cases h0:m=0
 ·simp(disch:=first|omega|simp only[Wd]<;>omega|rfl)only[Wz,a_ h0]
  exact hk2 _ (by simp[aZ,h0]) aK
 simp(disch:=first|omega|simp only[Wd]<;>omega|rfl)only[Wz,aN h0]
 refine sv m ?_
 cases hkn:kn m with
 | false=>
  simp(disch:=first|omega|simp only[Wd]<;>omega|rfl)only[Wz]
  exact hk2 _ (by simp[aZ,hkn]) aK
 | true=>
 have am:aZ m=true:=by simp[aZ,hkn,h0]
 simp(disch:=first|omega|simp only[Wd]<;>omega|rfl)only[Wz,Eg,g1]
 refine EI sA (by omega) t r x _ ?_ ?_
 case _=>
  intro h2 hno bt
  have eN:=aK.trans bt
  have s2:=sA.le bt
  have n2:=bt.nx
  have l2:=bt.lo
  have gb:=s2.gN
  have gm:=s2.fM
  have g1:=(bt.get _ (by omega)).trans g1
  by_cases hc:∃e∈M,t=e.t∧r=e.r
  ·obtain ⟨e,he,rfl,rfl⟩:=hc
   have eL:=EG (β:=Option Value) (fl:=none) s2.ok gm he
   unfold dn at eL
   have H:=s2.aF e he
   have hgd:=s2.good e he
   simp(disch:=first|omega|simp only[Wd]<;>omega|rfl)only[Wz,xE,aJ,gb,g1,eL]
   refine ⟨fun l h'=>slot l 18=.pointer (some ⟨e.hb,0,none⟩)∧HQ h2 h',⟨rfl,rfl⟩,?_⟩
   rintro l h' ⟨hl,hq⟩
   cases (show h2=h' from hq)
   refine An s2 (by omega) eN ids hFl N hN hw e.t e.r x m am l e.hb e.Q e.q e.w hl H.lt H.get H.qv hgd.vq (fun hF0=>?_) (hw e he) (hno e he rfl rfl) (fun p hp=>ids.find he hp) (.inl ⟨e,he,rfl,rfl,rfl,rfl⟩) κ (fun h' h1 h3=>GK h' am hno (.inl h1) h3) fun M' clock' F' h' n g hA=>Cz M' clock' F' h' n g am hno hA
   have:=ids.len s.bX.ok he
   have:=s.bX.small
   have:=List.length_pos_iff.2 hF0
   omega
  ·have hn:∀e∈M,¬(t=e.t∧r=e.r):=fun e he h=>hc ⟨e,he,h⟩
   have eL:=Aj (β:=Option Value) (fl:=none) gm t r hn
   unfold dn at eL
   simp(disch:=first|omega|simp only[Wd]<;>omega|rfl)only[Wz,xE,aJ,gb,g1,eL]
   by_cases hfull:M.length<most
   ·obtain ⟨hB,eB⟩:∃hB:Heap,hB=⟨h2.nx+1,h2.bl.aY h2.nx (eo t r (.slice none 0 0) 0),h2.lo⟩:=⟨_,rfl⟩
    have NT:Le h2 hB:=by rw[eB]; exact (Le.refl h2).new _
    have gB:hB.bl.get h2.nx=some (eo t r (.slice none 0 0) 0):=by rw[eB]; exact T.af _ _ _
    have nB:hB.nx=h2.nx+1:=by rw[eB]
    have lB:hB.lo=h2.lo:=by rw[eB]
    refine ⟨fun l h'=>slot l 18=.pointer (some ⟨h2.nx,0,none⟩)∧HQ hB h',?_,?_⟩
    ·simp(disch:=first|omega|simp only[Wd]<;>omega|rfl)only[Wz,xC,aJ,gb,g1,mZ,gm,bS,List.length_map,a_ (show Int.ofNat M.length<(most:Int) from by show (M.length:Int)<_; omega),Bool.not_true]
     exact ⟨trivial,eB⟩
    ·rintro l h' ⟨hl,hq⟩
     cases (show hB=h' from hq)
     have sB:=s2.le NT
     exact An sB (by omega) (eN.trans NT) ids hFl N hN hw t r x m am l h2.nx [] (.slice none 0 0) 0 hl (by omega) gB ⟨Sl.nil _ _ _,fun b o n c hv _=>nomatch hv⟩ VQ.nil (fun _=>by simp) (by omega) (fun p hp=>nomatch hp) (fun p hp=>nomatch hp) (.inr ⟨hn,hfull,rfl,rfl⟩) κ (fun h' h1 h3=>GK h' am hno (.inl h1) h3) fun M' clock' F' h' n g hA=>Cz M' clock' F' h' n g am hno hA
   ·refine ⟨fun l h'=>False,?_,fun _ _ h=>h.elim⟩
    simp(disch:=first|omega|simp only[Wd]<;>omega|rfl)only[Wz,xC,aJ,gb,g1,mZ,gm,bS,List.length_map,aN (show ¬Int.ofNat M.length<(most:Int) from by show ¬(M.length:Int)<_; omega),Bool.not_false]
    exact GK h2 am hno (.inr ⟨hn,by omega⟩) eN
 case _=>
  intro h2 e p he ht hr hp hx bt
  simp(disch:=first|omega|simp only[Wd]<;>omega|rfl)only[Wz]
  exact Me h2 e p am he ht hr hp hx (aK.trans bt)
structure lQ (h h':Heap) (bb bm bp bl most:Nat) (M M':List HE) (clock':Nat) (F':List Int) (B':List Bool) (e:HE) (Q1:List R5) (w1:Int):Prop where
 is:bh h' bb bm bp bl most M' clock' F' B'
 fr:qK bm bp bl h h'
 vq:VQ Q1 w1
 set:e_ M M' e.t e.r w1 (cw (dO Q1+1) Q1).1
theorem sF {Q:List R5} {W:Int} (v:VQ Q W) {id:Int} {p:R5} (hf:bJ Q id=some p):∃i:Nat,Q[i]? = some p∧p.id=id:=by
 obtain ⟨h1,h2⟩:=gK hf
 obtain ⟨i,hi⟩:=List.mem_iff_getElem?.1 h1
 exact ⟨i,hi,h2⟩
theorem EJ {h:Heap} {bb bm bp bl most:Nat} {M:List HE} {clock:Nat} {F:List Int} {B:List Bool} (s:bh h bb bm bp bl most M clock F B) (hlo:h.lo≤h.nx) (N:Nat) (hN:N≤100000) (hw:∀e∈M,e.w≤N) (id m:Int) (κ:KQ)
  (hk2:∀h',aZ m=false→Le h h'→κ (.tuple ⟨[.bool false,.int .i64 2]⟩) h')
  (EK:∀h',aZ m=true→(∀e∈M,bJ e.Q id=none)→Le h h'→κ (.tuple ⟨[.bool false,.int .i64 5]⟩) h')
  (Rb:∀h' e p,aZ m=true→e∈M→bJ e.Q id=some p→0<p.s→Le h h'→κ (.tuple ⟨[.bool false,.int .i64 7]⟩) h')
  (ig:∀h' M' clock' e p i,aZ m=true→e∈M→e.Q[i]? = some p→bJ e.Q id=some p→¬0<p.s→lQ h h' bb bm bp bl most M M' clock' F B e (e.Q.set i (dP e.Q e.w p m).1) (dP e.Q e.w p m).2.1→κ (.tuple ⟨[.bool (dP e.Q e.w p m).2.2,.int .i64 0]⟩) h') :
  CallW Tryz.prog 256 [.pointer (some ⟨bb,0,none⟩),.int .i64 id,.int .i64 m] h κ:=by
 refine an mixed ?_
 rw[Wj]
 simp(disch:=first|omega|simp only[Wd]<;>omega|rfl)only[Wz,iW,Ei]
 refine W_ s hlo id _ ?_ ?_
 ·intro h1 hno bA
  have n1:=bA.nx
  have l1:=bA.lo
  simp(disch:=first|omega|simp only[Wd]<;>omega|rfl)only[Wz,sD]
  obtain ⟨hA,az⟩:∃hA:Heap,hA=⟨h1.nx+1,(h1.bl.aY (h1.nx) (eo 0 0 (.slice none 0 0) 0)),h1.lo⟩:=⟨_,rfl⟩
  have aK:Le h1 hA:=by subst az; exact ((Le.refl h1).new _)
  have g7:hA.bl.get (h1.nx)=some (eo 0 0 (.slice none 0 0) 0):=by subst az; exact T.af _ _ _
  have d_:hA.nx=h1.nx+1:=by subst az; rfl
  have ee:hA.lo=h1.lo:=by subst az; rfl
  rw[←az]
  clear az
  refine ⟨fun l h'=>slot l 4=.pointer (some ⟨h1.nx,0,none⟩)∧HQ hA h',⟨rfl,rfl⟩,?_⟩
  rintro l h' ⟨hl,hq⟩
  cases (show hA=h' from hq)
  simp(disch:=first|omega|simp only[Wd]<;>omega|rfl)only[Wz,xF,hl,aJ,g7]
  refine xR 0 0 _ 0 id m [] hA _ (Sl.nil _ _ _) (by simp) (by omega) (by omega) ?_ ?_ ?_ ?_
  ·intro ha h2 bt
   have:=bt.nx
   have:=bt.lo
   simp(disch:=first|omega|simp only[Wd]<;>omega|rfl)only[Wz,ef]
   exact hk2 _ ha (((bA.trans aK).trans bt).new _)
  ·intro ha _ h2 bt
   have:=bt.nx
   have:=bt.lo
   simp(disch:=first|omega|simp only[Wd]<;>omega|rfl)only[Wz,ef]
   exact EK _ ha hno (((bA.trans aK).trans bt).new _)
  ·intro ha p hf; cases hf
  ·intro ha i p hi; simp at hi
 ·intro h1 e p0 he TE bA
  have n1:=bA.nx
  have l1:=bA.lo
  have s1:=s.le bA
  have H:=s1.aF e he
  have hlt:=H.lt
  have gd:=s1.good e he
  have Cv:=gd.small
  obtain ⟨qx,qc,eq,_⟩:=(show Sl bq h1 e.q e.Q from H.qv.1)
  have gh:=H.get
  rw[eq] at gh
  have we:=hw e he
  simp(disch:=first|omega|simp only[Wd]<;>omega|rfl)only[Wz,xX]
  refine ⟨fun l h'=>slot l 4=.pointer (some ⟨e.hb,0,none⟩)∧HQ h1 h',⟨rfl,rfl⟩,?_⟩
  rintro l h' ⟨hl,hq⟩
  cases (show h1=h' from hq)
  simp(disch:=first|omega|simp only[Wd]<;>omega|rfl)only[Wz,xF,hl,aJ,gh]
  refine xR e.t e.r _ e.w id m e.Q h1 _ (by rw[←eq]; exact H.qv.1) (by omega) (by omega) ⟨gd.vq.w0,by omega⟩ ?_ ?_ ?_ ?_
  ·intro ha h2 bt
   have:=bt.nx
   have:=bt.lo
   simp(disch:=first|omega|simp only[Wd]<;>omega|rfl)only[Wz,ef]
   exact hk2 _ ha ((bA.trans bt).new _)
  ·intro ha hf; rw[hf] at TE; cases TE
  ·intro ha p hf hs h2 bt
   have:=bt.nx
   have:=bt.lo
   simp(disch:=first|omega|simp only[Wd]<;>omega|rfl)only[Wz,ef]
   exact Rb _ e p ha he hf hs ((bA.trans bt).new _)
  ·intro ha i p hi hf hs q' h2 uv bt
   have n2:=bt.nx
   have l2:=bt.lo
   obtain ⟨fu,fD,rfl,_⟩:=(show Sl bq h2 q' _ from uv.1)
   have vu:=gd.vq.upg hi hs ha
   simp(disch:=first|omega|simp only[Wd]<;>omega|rfl)only[Wz,ef]
   have c9:Le h1 ⟨h2.nx+1,h2.bl.aY h2.nx (eo e.t e.r (.slice fu (e.Q.set i (dP e.Q e.w p m).1).length fD) (dP e.Q e.w p m).2.1),h2.lo⟩:=bt.new _
   have lh3:Le h2 ⟨h2.nx+1,h2.bl.aY h2.nx (eo e.t e.r (.slice fu (e.Q.set i (dP e.Q e.w p m).1).length fD) (dP e.Q e.w p m).2.1),h2.lo⟩:=(Le.refl h2).new _
   refine xY (s1.le c9) (by show h2.lo≤h2.nx+1; omega) e.t e.r _ _ _ _ (uv.1.le lh3) vu (by rw[List.length_set]; omega) ?_
   intro M' clock' v' h' s5 k_ _ FF
   exact ig h' M' clock' e p i ha he hi hf hs ⟨s5,(qK.of_le (bA.trans c9)).trans FF,vu,k_⟩
theorem Ky {h:Heap} {bb bm bp bl most:Nat} {M:List HE} {clock:Nat} {F:List Int} {B:List Bool} (s:bh h bb bm bp bl most M clock F B) (hlo:h.lo≤h.nx) (ids:qL M B) (id:Int) (κ:KQ)
  (EK:∀h',(∀e∈M,bJ e.Q id=none)→Le h h'→κ (.tuple ⟨[.slice none 0 0,.int .i64 5]⟩) h')
  (ig:∀h' M' clock' F' v' e p (n:Nat),e∈M→bJ e.Q id=some p→id=(n:Int)→B[n]? = some true→F'.Perm (F++[(n:Int)])→lQ h h' bb bm bp bl most M M' clock' F' (B.set n false) e (e.Q.filter fun r=>!bD id r) e.w→jM h h' v' (cw (dO (e.Q.filter fun r=>!bD id r)+1) (e.Q.filter fun r=>!bD id r)).2→κ (.tuple ⟨[v',.int .i64 0]⟩) h') :
  CallW Tryz.prog 291 [.pointer (some ⟨bb,0,none⟩),.int .i64 id] h κ:=by
 refine an mixed ?_
 rw[Wq]
 refine W_ s hlo id _ ?_ ?_
 ·intro h1 hno bA
  simp(disch:=first|omega|simp only[Wd]<;>omega|rfl)only[Wz,sD]
  refine W9 bb h1 _ ?_
  exact EK h1 hno bA
 ·intro h1 e p he hf bA
  have n1:=bA.nx
  have l1:=bA.lo
  have s1:=s.le bA
  have H:=s1.aF e he
  have hlt:=H.lt
  have gd:=s1.good e he
  have Cv:=gd.small
  obtain ⟨qx,qc,eq,_⟩:=(show Sl bq h1 e.q e.Q from H.qv.1)
  have gh:=H.get
  rw[eq] at gh
  obtain ⟨n,en,zL⟩:=ids.find he (gK hf).1
  have W0:id=(n:Int):=by rw[←en]; exact (gK hf).2.symm
  have hFl:F.length≤1000:=by have:=pg s.bX.ok; have:=s.bX.small; omega
  simp(disch:=first|omega|simp only[Wd]<;>omega|rfl)only[Wz,xX,Em,aJ,gh]
  refine Q6 e.t e.r _ e.w id e.Q h1 _ (by rw[←eq]; exact H.qv.1) (by omega) (by omega) (by rw[hf]; simp) ?_
  intro q' h2 uv bt
  have n2:=bt.nx
  have l2:=bt.lo
  obtain ⟨fu,fD,rfl,_⟩:=(show Sl bq h2 q' _ from uv.1)
  have s2:=s1.le bt
  have gb:=s2.gN
  have hlb:=s2.Lv
  simp(disch:=first|omega|simp only[Wd]<;>omega|rfl)only[Wz,ef]
  obtain ⟨h3,e3⟩:∃h3:Heap,h3=⟨h2.nx+1,h2.bl.aY h2.nx (eo e.t e.r (.slice fu (e.Q.filter fun r=>!bD id r).length fD) e.w),h2.lo⟩:=⟨_,rfl⟩
  have c9:Le h2 h3:=by rw[e3]; exact (Le.refl h2).new _
  have g3:h3.bl.get h2.nx=some (eo e.t e.r (.slice fu (e.Q.filter fun r=>!bD id r).length fD) e.w):=by rw[e3]; exact T.af _ _ _
  have n3:h3.nx=h2.nx+1:=by rw[e3]
  have l3:h3.lo=h2.lo:=by rw[e3]
  rw[←e3]
  clear e3
  have s3:=s2.le c9
  have hl:=gd.vq.filter fun r=>!bD id r
  simp(disch:=first|omega|simp only[Wd]<;>omega|rfl)only[Wz,gb,W0]
  refine W6 bp bl F B n h3 _ s3.bX hFl (by omega) s3.ne zL ?_
  intro h4 F' p4 Rc fr4
  have n4:=fr4.nx
  have l4:=fr4.lo
  have H4:=mg.tV (e:=⟨e.t,e.r,h2.nx,0,_,e.w,_⟩) ⟨by show h2.nx<h3.nx; omega,g3,uv.le c9⟩ s3.bX fr4
  have g4:=H4.get
  simp(disch:=first|omega|simp only[Wd]<;>omega|rfl)only[Wz,g4]
  have lf:(e.Q.filter fun r=>!bD id r).length≤e.Q.length:=List.length_filter_le _ _
  refine xY (s3.tV p4 fr4) (by omega) e.t e.r _ _ _ _ H4.qv.1 hl (by show (e.Q.filter fun r=>!bD id r).length≤128; omega) ?_
  intro M' clock' v' h' s5 k_ tL FF
  have tM:jM h h' v' _:=dh.base tL (by have:=bA.nx; omega)
  exact ig h' M' clock' F' v' e p n he hf W0 zL Rc ⟨s5,(qK.of_le ((bA.trans bt).trans c9)).trans ((qK.abC fr4).trans FF),hl,k_⟩ tM
theorem agc (a b c d e:Int):k9 8 (.agg ⟨[.int .i64 a,.int .i64 b,.int .i64 c,.int .i64 d,.int .i64 e]⟩) (.agg ⟨[.int .i64 a,.int .i64 b,.int .i64 c,.int .i64 d,.int .i64 e]⟩)=true:=by unfold k9; exact tH 6 [a,b,c,d,e]
theorem Re {h:Heap} {bb bm bp bl most:Nat} {M:List HE} {clock:Nat} {F:List Int} {B:List Bool} (s:bh h bb bm bp bl most M clock F B) (hlo:h.lo≤h.nx) (id:Int) (κ:KQ)
  (ig:∀h',(∀e∈M,bJ e.Q id=none)→Le h h'→κ (.tuple ⟨[dn 0 0,jI ⟨0,0,0,0,0⟩,.bool false]⟩) h')
  (iJ:∀h' e p,e∈M→bJ e.Q id=some p→Le h h'→κ (.tuple ⟨[dn e.t e.r,jI p,.bool true]⟩) h') :
  CallW Tryz.prog 202 [.pointer (some ⟨bb,0,none⟩),.int .i64 id] h κ:=by
 refine an mixed ?_
 rw[Ni]
 simp(disch:=first|omega|simp only[Wd]<;>omega|rfl)only[Wz]
 obtain ⟨hA,az⟩:∃hA:Heap,hA=⟨h.nx+1+1,((h.bl.aY (h.nx) (aa [.int .i64 0,.int .i64 0] 36 false)).aY (h.nx+1) (ic ⟨0,0,0,0,0⟩)),h.lo⟩:=⟨_,rfl⟩
 have aK:Le h hA:=by subst az; exact (((Le.refl h).new _).new _)
 have g1:hA.bl.get (h.nx)=some (aa [.int .i64 0,.int .i64 0] 36 false):=by subst az; exact (T.ai _ _ (by omega)).trans (T.af _ _ _)
 have g3:hA.bl.get (h.nx+1)=some (ic ⟨0,0,0,0,0⟩):=by subst az; exact T.af _ _ _
 have d_:hA.nx=h.nx+1+1:=by subst az; rfl
 have ee:hA.lo=h.lo:=by subst az; rfl
 rw[←az]
 clear az
 refine W_ (s.le aK) (by omega) id _ ?_ ?_
 ·intro h1 hno bA
  have n1:=bA.nx
  have l1:=bA.lo
  have g1:=(bA.get _ (by omega)).trans g1
  have g3:=(bA.get _ (by omega)).trans g3
  simp(disch:=first|omega|simp only[Wd]<;>omega|rfl)only[Wz,sD,g1,g3,bq]
  exact ig _ hno ((((aK.trans bA).set (by omega) _)).set (by omega) _)
 ·intro h1 e p he hf bA
  have n1:=bA.nx
  have l1:=bA.lo
  have g1:=(bA.get _ (by omega)).trans g1
  have g3:=(bA.get _ (by omega)).trans g3
  have s1:=(s.le aK).le bA
  have H:=s1.aF e he
  have hlt:=H.lt
  have gd:=s1.good e he
  have Cv:=gd.small
  obtain ⟨qx,qc,eq,_⟩:=(show Sl bq h1 e.q e.Q from H.qv.1)
  have gh:=H.get
  rw[eq] at gh
  simp(disch:=first|omega|simp only[Wd]<;>omega|rfl)only[Wz,xX,D5,aJ,gh]
  refine Jl e.t e.r _ e.w id _ h1 _ (by rw[←eq]; exact H.qv.1) (by omega) (by omega) ?_
  intro h2 bt
  have n2:=bt.nx
  have l2:=bt.lo
  have g1:=(bt.get _ (by omega)).trans g1
  have g3:=(bt.get _ (by omega)).trans g3
  have gh2:=(bt.get _ hlt).trans gh
  rw[hf]
  simp(disch:=first|omega|simp only[Wd]<;>omega|rfl)only[Wz,bq,g1,g3,gh2,aJ,agc]
  exact iJ _ e p he hf (((((aK.trans bA).trans bt).new _).set (by omega) _).set (by omega) _)
end Go.Proofs

namespace Go.Vai
open Go
def prK (P:Program) (skip:FuncId→Bool):kF Prop:=⟨fun f=>match skip f with | true=>none | false=>some (CallW P f),And⟩
theorem GL (P:Program) (skip:FuncId→Bool):gr (fun p:Prop=>p) (prK P skip) P:=by
 refine ⟨fun x y h=>h,fun f g hg args args' h φ w κ ha hr hgood=>?_⟩
 unfold prK at hg
 simp only at hg
 split at hg
 ·cases hg
 ·cases hg
  exact hgood φ w args' ha hr
theorem Kz {P:Program} (hm:P.follows .mixedOrders=true) {skip:FuncId→Bool} {f:FuncId} {args:List Value} {h:Heap} {κ:Value→Heap→Prop} (n:Nat)
  (hg:lz False (prK P skip) P (run False (prK P skip) P n) f args h κ):CallW P f args h κ:=by
 intro φ w args' ha hr
 exact fE (good:=fun p:Prop=>p) (fl:=False) (fun h=>h) (GL P skip) (zQ (fun h=>h) (GL P skip) (q9 (fun h=>h) (GL P skip) hm) n).1 ha hr hg
def NU (P:Program) (f:FuncId):Code:=match vM P f with | .mk c _ _=>c | .none=>.skip
def B8:Code→Code | .seq a _=>a | c=>c
def B9:Code→Code | .seq _ b=>b | c=>c
def inC:Code→Code | .block _ c=>c | .loop c=>c | .scope c=>c | c=>c
def rfA:Code→Code | .rangeFunc _ _ a _=>a | c=>c
def rfB:Code→Code | .rangeFunc _ _ _ b=>b | c=>c
end Go.Vai

namespace Go.Proofs
open Go.Vai Go.Clashes
abbrev fK:FuncId:=227
abbrev fA:FuncId:=262
def TF (f:FuncId):Bool:=Nat.beq f fK || Nat.beq f fA
noncomputable abbrev pN:kF Prop:=prK Tryz.prog TF
noncomputable abbrev RN (n:Nat):Rec Prop:=run False pN Tryz.prog n
noncomputable def cK:Code:=NU Tryz.prog fK
noncomputable def cA:Code:=NU Tryz.prog fA
noncomputable def kA:Code:=B8 cK
noncomputable def kL:Code:=inC (inC (B9 cK))
noncomputable def kB:Code:=B8 kL
noncomputable def TG:Code:=inC (B9 (B9 kL))
noncomputable def kC:Code:=B8 TG
noncomputable def kD:Code:=B8 (B9 TG)
theorem abG:cK=.seq kA (.block 0 (.loop (.seq kB (.seq (.cond (.tmp 7) .skip (.exit 0)) (.block 1 (.seq kC (.seq kD (.cond (.tmp 13) .ret .skip)))))))):=by kernel_rfl
noncomputable def aA:Code:=B8 cA
noncomputable def aB:Code:=B8 (B8 (B9 cA))
noncomputable def aR:Code:=inC (B9 (B8 (B9 cA)))
noncomputable def aP:Code:=rfA aR
noncomputable def aQ:Code:=inC (rfB aR)
noncomputable def aC:Code:=B8 (B9 (B9 cA))
theorem abH:cA=.seq aA (.seq (.seq aB (.block 0 (.rangeFunc (.tmp 6) #[7] aP (.block 1 aQ)))) (.seq aC .ret)):=by kernel_rfl
variable (rec:Rec Prop) (tm:T Value) (h:Heap)
theorem rkA (κ:Ex→T Value→Heap→Prop):body False pN Tryz.prog rec kA tm h κ =
  ev tm (.tmp 1) fun x=>load1 False x h fun v h=>T.set tm 4 v fun tm=>ev tm (.tmp 4) fun x=>m_ False x h fun v h=>T.set tm 5 v fun tm=>κ .normal tm h:=by kernel_rfl
theorem rkB (κ:Ex→T Value→Heap→Prop):body False pN Tryz.prog rec kB tm h κ =
  ev tm (.tmp 5) fun x=>qz False And x h fun v h=>T.set tm 6 v fun tm=>ev tm (.tmp 6) fun x=>av False 0 x h fun v h=>T.set tm 7 v fun tm=>κ .normal tm h:=by kernel_rfl
theorem rkC (κ:Ex→T Value→Heap→Prop):body False pN Tryz.prog rec kC tm h κ =
  ev tm (.tmp 5) fun x=>ng False x h fun v h=>T.set tm 8 v fun tm=>ev tm (.tmp 8) fun x=>av False 0 x h fun v h=>T.set tm 9 v fun tm=>
   aj False (aa [.int .i64 0,.int .i64 0] 36 false) h fun b h=>T.set tm 3 (ptrTo b) fun tm=>ev tm (.tmp 3) fun a=>ev tm (.tmp 9) fun v=>aI False 2 a v h fun v h=>κ .normal tm h:=by kernel_rfl
theorem rkD (κ:Ex→T Value→Heap→Prop):body False pN Tryz.prog rec kD tm h κ =
  ev tm (.tmp 0) fun fv=>T.set tm 10 fv fun tm=>ev tm (.tmp 3) fun x=>aD False 2 x h fun v h=>T.set tm 11 v fun tm=>
   ev tm (.tmp 11) fun x=>ev tm (.tmp 10) fun fv=>zF False pN Tryz.prog rec fv [x] h fun v h=>T.set tm 12 v fun tm=>ev tm (.tmp 12) fun x=>jv False .not x h fun v h=>T.set tm 13 v fun tm=>κ .normal tm h:=by kernel_rfl
theorem agd (κ:Ex→T Value→Heap→Prop):body False pN Tryz.prog rec aA tm h κ =
  ev tm (.tmp 0) fun s=>ax False (Value.cells s).toList 226 false fun o=>aj False o h fun b h=>T.set tm 2 (ptrTo b) fun tm=>T.set tm 4 (.slice none 0 0) fun tm=>κ .normal tm h:=by kernel_rfl
theorem age (κ:Ex→T Value→Heap→Prop):body False pN Tryz.prog rec aB tm h κ=ev tm (.tmp 1) fun g=>T.set tm 6 g fun tm=>κ .normal tm h:=by kernel_rfl
theorem agf (κ:Ex→T Value→Heap→Prop):body False pN Tryz.prog rec aP tm h κ =
  aj False (aa [.int .i64 0,.int .i64 0] 36 false) h fun b h=>T.set tm 5 (ptrTo b) fun tm=>ev tm (.tmp 5) fun a=>ev tm (.tmp 7) fun v=>aI False 2 a v h fun v h=>κ .normal tm h:=by kernel_rfl
theorem agh (κ:Ex→T Value→Heap→Prop):body False pN Tryz.prog rec aQ tm h κ =
  ev tm (.tmp 2) fun x=>load1 False x h fun v h=>T.set tm 8 v fun tm=>ev tm (.tmp 5) fun x=>aD False 2 x h fun v h=>T.set tm 9 v fun tm=>
   ev tm (.tmp 9) fun v=>bC False [(0,2)] [v] [.int .i64 0,.int .i64 0] fun cs=>ax False cs 36 false fun o=>aj False o h fun b h=>T.set tm 10 (sliceTo 1 1 b) fun tm=>
   ev tm (.tmp 8) fun s=>ev tm (.tmp 10) fun x=>bu False 36 2 [.int .i64 0,.int .i64 0] false s x h fun v h=>T.set tm 11 v fun tm=>ev tm (.tmp 2) fun a=>ev tm (.tmp 11) fun v=>aI False 1 a v h fun v h=>κ .normal tm h:=by kernel_rfl
theorem agi (κ:Ex→T Value→Heap→Prop):body False pN Tryz.prog rec aC tm h κ =
  ev tm (.tmp 2) fun x=>load1 False x h fun v h=>T.set tm 12 v fun tm=>ev tm (.tmp 12) fun v=>T.set tm 4 v fun tm=>κ .normal tm h:=by kernel_rfl
theorem abI (s g:Value) (κ:KQ):lz False pN Tryz.prog rec fA [s,g] h κ=rec cA (lay [s,g] .nil 0) h (JU False [.tmp 4] κ):=by kernel_rfl
theorem abJ (y m:Value) (κ:KQ):lz False pN Tryz.prog rec fK [y,m] h κ=rec cK (lay [y,m] .nil 0) h (JU False [] κ):=by kernel_rfl
theorem iX (t:T Value) (n:Nat) (v:Value):dA (t.aY n v) n=v:=by unfold dA; rw[T.af]
theorem pn (t:T Value) {n m:Nat} (v:Value) (h:n≠m):dA (t.aY n v) m=dA t m:=by unfold dA; rw[T.ai _ _ h]
theorem rD {β:Type} (tm:T Value) (t:Nat) (κ:Value→β):ev tm (.tmp t) κ=κ (dA tm t):=gf _ _ _
section
variable (n:Nat) (a b:Code) (tm:T Value) (h:Heap) (κ:Ex→T Value→Heap→Prop)
theorem EL:RN (n+1) (.seq a b) tm h κ=RN n a tm h (y3 (RN n) b κ):=id rfl
theorem NV (t:Nat):RN (n+1) (.cond (.tmp t) a b) tm h κ=vO False (RN n) a b tm h κ (dA tm t):=gf tm (.tmp t) (vO False (RN n) a b tm h κ)
theorem vD (i:Nat):RN (n+1) (.block i a) tm h κ=RN n a tm h (oz i κ):=id rfl
theorem Xa:RN (n+1) (.loop a) tm h κ=RN n a tm h (y3 (RN n) (.loop a) κ):=id rfl
theorem NW (i:Nat):RN (n+1) (.exit i) tm h κ=κ (.exit i) tm h:=id rfl
theorem abK:RN (n+1) .ret tm h κ=κ .ret tm h:=id rfl
theorem NY:RN (n+1) .skip tm h κ=κ .normal tm h:=id rfl
theorem agj (t:Nat) (ps:Array Tmp):RN (n+1) (.rangeFunc (.tmp t) ps a b) tm h κ=iz False pN Tryz.prog (RN n) ps.toList a b tm h κ (dA tm t):=gf tm (.tmp t) (iz False pN Tryz.prog (RN n) ps.toList a b tm h κ)
theorem agk:RN (n+1) kA tm h κ=body False pN Tryz.prog (RN n) kA tm h κ:=id rfl
theorem agl:RN (n+1) kB tm h κ=body False pN Tryz.prog (RN n) kB tm h κ:=id rfl
theorem agm:RN (n+1) kC tm h κ=body False pN Tryz.prog (RN n) kC tm h κ:=id rfl
theorem agn:RN (n+1) kD tm h κ=body False pN Tryz.prog (RN n) kD tm h κ:=id rfl
theorem ago:RN (n+1) aA tm h κ=body False pN Tryz.prog (RN n) aA tm h κ:=id rfl
theorem agp:RN (n+1) aB tm h κ=body False pN Tryz.prog (RN n) aB tm h κ:=id rfl
theorem agq:RN (n+1) aP tm h κ=body False pN Tryz.prog (RN n) aP tm h κ:=id rfl
theorem agr:RN (n+1) aQ tm h κ=body False pN Tryz.prog (RN n) aQ tm h κ:=id rfl
theorem ags:RN (n+1) aC tm h κ=body False pN Tryz.prog (RN n) aC tm h κ:=id rfl
theorem KA (rec:Rec Prop):y3 rec b κ .normal tm h=rec b tm h κ:=id rfl
theorem abL (rec:Rec Prop) (i:Nat):y3 rec b κ (.exit i) tm h=κ (.exit i) tm h:=id rfl
theorem abM (rec:Rec Prop):y3 rec b κ .ret tm h=κ .ret tm h:=id rfl
theorem Rf (i:Nat):oz i κ .normal tm h=κ .normal tm h:=id rfl
theorem agt (i:Nat):oz i κ .ret tm h=κ .ret tm h:=id rfl
theorem TH:oz 0 κ (.exit 0) tm h=κ .normal tm h:=id rfl
theorem agu (rec:Rec Prop):vO False rec a b tm h κ (.bool true)=rec a tm h κ:=id rfl
theorem abN (rec:Rec Prop):vO False rec a b tm h κ (.bool false)=rec b tm h κ:=id rfl
end
noncomputable abbrev NZ:Code:=.seq kB (.seq (.cond (.tmp 7) .skip (.exit 0)) (.block 1 (.seq kC (.seq kD (.cond (.tmp 13) .ret .skip)))))
noncomputable abbrev jO (st:LoopState) (pq:T Value):bQ:=.loop st none pq [7] aP (.block 1 aQ)
def nL (p:Int × Int):List Value:=[.int .i64 p.1,.int .i64 p.2]
theorem sG (p:Int × Int):(nL p).length=2:=rfl
theorem N_ (p:Int × Int):(nL p).all ew=true:=rfl
def bB (e:HE):Int × Int:=(e.t,e.r)
abbrev x_ (a h:Heap) (v:Value) (L:List (Int × Int)):Prop:=dh nL a 36 h v L
structure Xb (a:Heap) (bm:Nat) (clock:Nat) (M:List HE) (pq:T Value) (seen:List Nat) (tm:T Value) (h1:Heap) (v:Value) (L:List HE):Prop where
 le:Le a h1
 nx:a.nx+3≤h1.nx
 gs:h1.bl.get a.nx=some (aa [v] 226 false)
 gl:h1.bl.get (a.nx+1)=some (jO .ready pq)
 gi:h1.bl.get (a.nx+2)=some (.dY (some bm) clock seen clock)
 own:x_ a h1 v (L.map bB)
 perm:L.Perm (M.filter fun e=>seen.any (Nat.beq e.born))
 t0:dA tm 0=.func (.yield (a.nx+1)) #[] #[]
 t5:dA tm 5=ptrTo (a.nx+2)
theorem Xc (rec:Rec Prop) (l:Nat) (x:Value) (h:Heap) (κ:KQ):zF False pN Tryz.prog rec (.func (.yield l) #[] #[]) [x] h κ=s9 False rec l [x] h κ:=id rfl
theorem round_eq {rec:Rec Prop} {l:Nat} {x:Value} {h:Heap} {κ:Value→Heap→Prop} {st:LoopState} {pq:T Value} (hl:h.bl.get l=some (jO st pq)):s9 False rec l [x] h κ=rec aP (pq.aY 7 x) h (iF False rec l (.block 1 aQ) κ):=by
 unfold s9
 simp only[hl,List.length_cons,List.length_nil]
 show vN [7] [x] pq _=_
 unfold vN
 rw[T.fW]
 unfold vN
 rfl
theorem Oa {rec:Rec Prop} {l:Nat} {bd:Code} {tm:T Value} {h:Heap} {κ:Value→Heap→Prop} {pq:T Value} (hl:h.bl.get l=some (jO .ready pq)) (hlo:h.lo≤l):iF False rec l bd κ .normal tm h=rec bd tm ⟨h.nx,h.bl.aY l (jO .busy pq),h.lo⟩ (mE False l κ):=by
 unfold iF
 simp only[hl,bU _ _ _ _ hlo]
theorem Xd {l:Nat} {tm:T Value} {h:Heap} {κ:Value→Heap→Prop} {st:LoopState} {pq:T Value} (hl:h.bl.get l=some (jO st pq)) (hlo:h.lo≤l):mE False l κ .normal tm h=κ (.bool true) ⟨h.nx,h.bl.aY l (jO .ready pq),h.lo⟩:=by
 unfold mE
 simp only[hl,bU _ _ _ _ hlo]
theorem KB {M:List HE} {clock:Nat} (o:fL M clock) {e:HE} (he:e∈M) {seen:List Nat} (hn:seen.any (Nat.beq e.born)=false):(M.filter fun x=>(e.born::seen).any (Nat.beq x.born)).Perm (M.filter (fun x=>seen.any (Nat.beq x.born))++[e]):=by
 have hnd:M.Nodup:=o.bn.imp fun h e=>h (by rw[e])
 refine (List.perm_ext_iff_of_nodup (hnd.filter _) ?_).2 fun x=>?_
 ·rw[List.nodup_append]
  refine ⟨hnd.filter _,by simp,fun x hx y hy=>?_⟩
  rw[List.mem_singleton] at hy; subst hy
  rintro rfl
  rw[List.mem_filter,hn] at hx
  exact absurd hx.2 (by simp)
 ·rw[List.mem_filter,List.mem_append,List.mem_filter,List.mem_singleton,List.any_cons,Bool.or_eq_true]
  constructor
  ·rintro ⟨h1,h2 | h2⟩
   ·exact .inr (o.Ak h1 he (Nat.eq_of_beq_eq_true h2))
   ·exact .inl ⟨h1,h2⟩
  ·rintro (⟨h1,h2⟩ | rfl)
   ·exact ⟨h1,.inr h2⟩
   ·exact ⟨he,.inl (Nat.beq_refl _)⟩
theorem KC (a:Heap) (bm clock:Nat) (M:List HE) (pq:T Value) (o:fL M clock) (g:a.bl.get bm=some (.map (M.map kQ) clock)) (ya:bm<a.nx) (hlo:a.lo≤a.nx) (hM:M.length≤1000) (hA:dA pq 2=ptrTo a.nx) (κ:Ex→T Value→Heap→Prop)
  (hk:∀(tm:T Value) (h1:Heap) (v:Value) (L:List HE),L.Perm M→x_ a h1 v (L.map bB)→Le a h1→a.nx+3≤h1.nx→h1.bl.get a.nx=some (aa [v] 226 false)→h1.bl.get (a.nx+1)=some (jO .ready pq)→κ (.exit 0) tm h1) :
  ∀(k:Nat) (seen:List Nat) (tm:T Value) (h1:Heap) (v:Value) (L:List HE),B7 M seen≤k→Xb a bm clock M pq seen tm h1 v L→RN (k+12) (.loop NZ) tm h1 κ:=by
 have step:∀(k:Nat) (seen:List Nat) (tm:T Value) (h1:Heap) (v:Value) (L:List HE),Xb a bm clock M pq seen tm h1 v L→
   (∀e∈M,seen.any (Nat.beq e.born)=false→∀(tm:T Value) (h1:Heap) (v:Value) (L:List HE),Xb a bm clock M pq (e.born::seen) tm h1 v L→RN (k+11) (.loop NZ) tm h1 κ)→RN (k+12) (.loop NZ) tm h1 κ:=by
  intro k seen tm h1 v L I hnext
  have n1:=I.nx
  have l1:=I.le.lo
  have gm:=(I.le.get bm ya).trans g
  rw[show k+12=k+11+1 from by omega,Xa]
  simp(disch:=first|omega|simp only[Wd]<;>omega|rfl)only[Wz,EL,agl,rkB,rD,T.fW,iX,pn,KA,abL,abM,Rf,agt,TH,I.t5]
  refine NR o I.gi gm (by omega) _ ?_ ?_
  ·intro hall
   simp(disch:=first|omega|simp only[Wd]<;>omega|rfl)only[Wz,NV,iX,abN,NW,abL]
   have hf:M.filter (fun e=>seen.any (Nat.beq e.born))=M:=List.filter_eq_self.2 hall
   exact hk _ h1 v L (hf▸I.perm) I.own I.le n1 I.gs I.gl
  ·intro e he PA
   obtain ⟨h2,e2⟩:∃h2:Heap,h2=⟨h1.nx,h1.bl.aY (a.nx+2) (.dY (some bm) clock (e.born::seen) clock),h1.lo⟩:=⟨_,rfl⟩
   have bt:Le a h2:=by rw[e2]; exact I.le.set (by omega) _
   have n2:h2.nx=h1.nx:=by rw[e2]
   have l2:h2.lo=h1.lo:=by rw[e2]
   have gi2:h2.bl.get (a.nx+2)=some (.dY (some bm) clock (e.born::seen) clock):=by rw[e2]; exact T.af _ _ _
   have gs2:h2.bl.get a.nx=some (aa [v] 226 false):=by rw[e2]; exact (T.ai _ _ (by omega)).trans I.gs
   have gl2:h2.bl.get (a.nx+1)=some (jO .ready pq):=by rw[e2]; exact (T.ai _ _ (by omega)).trans I.gl
   have mo:x_ a h2 v (L.map bB):=by rw[e2]; exact dh.put I.own (by rw[I.gi]; intro hc; unfold aa at hc; cases hc) _
   rw[←e2]
   clear e2
   have gm2:=(bt.get bm ya).trans g
   simp(disch:=first|omega|simp only[Wd]<;>omega|rfl)only[Wz,NV,NY,EL,vD,iX,pn,agu,NW,KA,agm,rkC,rD,T.fW,I.t5,Jq o he gi2 gm2,dn,agn,rkD,I.t0]
   have n3:a.nx+3≤h2.nx:=by omega
   obtain ⟨h3,e3⟩:∃h3:Heap,h3=⟨h2.nx+1,h2.bl.aY h2.nx (aa [.int .i64 e.t,.int .i64 e.r] 36 false),h2.lo⟩:=⟨_,rfl⟩
   have Ob:Le h2 h3:=by rw[e3]; exact (Le.refl h2).new _
   have nx3:h3.nx=h2.nx+1:=by rw[e3]
   have l3:h3.lo=h2.lo:=by rw[e3]
   have gl3:=(Ob.get _ (by omega)).trans gl2
   rw[←e3,Xc,round_eq gl3]
   clear e3
   simp(disch:=first|omega|simp only[Wd]<;>omega|rfl)only[Wz,agq,agf,T.fW,rD,iX,pn]
   obtain ⟨h4,e4⟩:∃h4:Heap,h4=⟨h3.nx+1,h3.bl.aY h3.nx (aa [.int .i64 e.t,.int .i64 e.r] 36 false),h3.lo⟩:=⟨_,rfl⟩
   have Oc:Le h3 h4:=by rw[e4]; exact (Le.refl h3).new _
   have nx4:h4.nx=h3.nx+1:=by rw[e4]
   have l4:h4.lo=h3.lo:=by rw[e4]
   have gn4:h4.bl.get h3.nx=some (aa [.int .i64 e.t,.int .i64 e.r] 36 false):=by rw[e4]; exact T.af _ _ _
   have gl4:=(Oc.get _ (by omega)).trans gl3
   have gs4:=((Ob.trans Oc).get _ (by omega)).trans gs2
   have gi4:=((Ob.trans Oc).get _ (by omega)).trans gi2
   have ho4:x_ a h4 v (L.map bB):=mo.le (Ob.trans Oc)
   rw[←e4,Oa gl4 (by omega)]
   clear e4
   have gs5:(h4.bl.aY (a.nx+1) (jO .busy pq)).get a.nx=_:=(T.ai _ _ (by omega)).trans gs4
   have gn5:(h4.bl.aY (a.nx+1) (jO .busy pq)).get h3.nx=_:=(T.ai _ _ (by omega)).trans gn4
   simp(disch:=first|omega|simp only[Wd]<;>omega|rfl)only[Wz,vD,agr,agh,T.fW,rD,iX,pn,hA,gs5,gn5]
   obtain ⟨h5,e5⟩:∃h5:Heap,h5=⟨h4.nx+1,(h4.bl.aY (a.nx+1) (jO .busy pq)).aY h4.nx (aa [.int .i64 e.t,.int .i64 e.r] 36 false),h4.lo⟩:=⟨_,rfl⟩
   have agv:Le a h5:=by rw[e5]; exact (((bt.trans Ob).trans Oc).set (b:=a.nx+1) (by omega) _).new _
   have nx5:h5.nx=h4.nx+1:=by rw[e5]
   have l5:h5.lo=h4.lo:=by rw[e5]
   have gs5:h5.bl.get a.nx=some (aa [v] 226 false):=by rw[e5]; exact (T.ai _ _ (by omega)).trans gs5
   have gl5:h5.bl.get (a.nx+1)=some (jO .busy pq):=by rw[e5]; exact (T.ai _ _ (by omega)).trans (T.af _ _ _)
   have gi5:h5.bl.get (a.nx+2)=some (.dY (some bm) clock (e.born::seen) clock):=by rw[e5]; exact (T.ai _ _ (by omega)).trans ((T.ai _ _ (by omega)).trans gi4)
   have gx5:h5.bl.get h4.nx=some (aa ([bB e].flatMap nL) 36 false):=by rw[e5]; exact T.af _ _ _
   have tL:x_ a h5 v (L.map bB):=by
    rw[e5]
    exact dh.le (dh.put ho4 (by rw[gl4]; intro hc; unfold aa at hc; cases hc) _) ((Le.refl _).new _)
   have hLl:L.length≤1000:=by
    rw[I.perm.length_eq]
    exact Nat.le_trans (List.length_filter_le _ _) hM
   rw[←e5]
   clear e5
   refine cV (enc:=nL) (a:=a) (L:=L.map bB) (M:=[bB e]) sG N_ (by decide) (by decide) tL (Sl.new (by omega) gx5 _) agv (by simp; omega) (by omega) _ ?_
   intro v' h6 tM qs _ n6 l6 Od
   have gs6:=(Od a.nx (by omega) (by rw[gs5]; exact aS)).trans gs5
   have gl6:=(Od (a.nx+1) (by omega) (by rw[gl5]; intro hc; unfold aa at hc; cases hc)).trans gl5
   have gi6:=(Od (a.nx+2) (by omega) (by rw[gi5]; intro hc; unfold aa at hc; cases hc)).trans gi5
   obtain ⟨x',c',rfl,_⟩:=(show Sl nL h6 v' _ from tM.sl)
   simp(disch:=first|omega|simp only[Wd]<;>omega|rfl)only[Wz,gs6]
   obtain ⟨h7,e7⟩:∃h7:Heap,h7=⟨h6.nx,h6.bl.aY a.nx (aa [.slice x' (L.map bB++[bB e]).length c'] 226 false),h6.lo⟩:=⟨_,rfl⟩
   have gl7:h7.bl.get (a.nx+1)=some (jO .busy pq):=by rw[e7]; exact (T.ai _ _ (by omega)).trans gl6
   have nx7:h7.nx=h6.nx:=by rw[e7]
   have l7:h7.lo=h6.lo:=by rw[e7]
   have gs7:h7.bl.get a.nx=some (aa [.slice x' (L.map bB++[bB e]).length c'] 226 false):=by rw[e7]; exact T.af _ _ _
   have gi7:h7.bl.get (a.nx+2)=some (.dY (some bm) clock (e.born::seen) clock):=by rw[e7]; exact (T.ai _ _ (by omega)).trans gi6
   have Ao:Le a h7:=by rw[e7]; exact qs.set (by omega) _
   have Oe:x_ a h7 (.slice x' (L.map bB++[bB e]).length c') (L.map bB++[bB e]):=by rw[e7]; exact dh.put tM (by rw[gs6]; exact aS) _
   rw[←e7,Rf,Xd gl7 (by omega)]
   clear e7
   simp(disch:=first|omega|simp only[Wd]<;>omega|rfl)only[Wz,abN,NY,Rf,KA]
   have fr:∀c,c≠a.nx+1→(h7.bl.aY (a.nx+1) (jO .ready pq)).get c=h7.bl.get c:=fun c hc=>T.ai _ _ (fun e=>hc e.symm)
   refine hnext e he PA _ _ (.slice x' (L.map bB++[bB e]).length c') (L++[e]) ⟨Ao.set (by omega) _,by show a.nx+3≤h7.nx; omega,(fr _ (by omega)).trans gs7,T.af _ _ _,(fr _ (by omega)).trans gi7,?_,(I.perm.append_right _).trans (KB o he PA).symm,?_,?_⟩
   ·rw[List.map_append]
    exact dh.put Oe (by rw[gl7]; intro hc; unfold aa at hc; cases hc) _
   ·simp (disch:=decide) only [pn]; exact I.t0
   ·simp (disch:=decide) only [pn]; exact I.t5
 intro k
 induction k with
 | zero=>
  intro seen tm h1 v L hu I
  refine step 0 seen tm h1 v L I fun e he PA=>?_
  have:=tT he PA
  omega
 | succ k ih=>
  intro seen tm h1 v L hu I
  refine step (k+1) seen tm h1 v L I fun e he PA cM h1' v' L' I'=>ih (e.born::seen) cM h1' v' L' ?_ I'
  have:=tT he PA
  omega
theorem abP (rec:Rec Prop) (ps:List Nat) (x y:Code) (tm:T Value) (h:Heap) (κ:Ex→T Value→Heap→Prop) (c:Value) :
  iz False pN Tryz.prog rec ps x y tm h κ (.func (.func fK) #[] #[c])=lz False pN Tryz.prog rec fK [.func (.yield h.nx) #[] #[],c] ⟨h.nx+1,h.bl.aY h.nx (.loop .ready none tm ps x y),h.lo⟩ (jd False h.nx tm κ):=dV (fl:=False) (.loop .ready none tm ps x y) h (fun l h=>lz False pN Tryz.prog rec fK [.func (.yield l) #[] #[],c] h (jd False l tm κ))
theorem NN (tm:T Value) (h:Heap) (κ:KQ):JU False [] κ .normal tm h=κ (.tuple ⟨[]⟩) h:=id rfl
theorem agw (tm:T Value) (h:Heap) (κ:KQ):JU False [.tmp 4] κ .ret tm h=κ (dA tm 4) h:=gf tm (.tmp 4) fun v=>κ v h
theorem Of {l:Nat} {tm pq:T Value} {v:Value} {h:Heap} {κ:Ex→T Value→Heap→Prop} (hl:h.bl.get l=some (jO .ready pq)) (hlo:h.lo≤l):∃o,jd False l tm κ v h=κ .normal tm ⟨h.nx,h.bl.aY l o,h.lo⟩:=by
 refine ⟨.loop .exhausted none pq [7] aP (.block 1 aQ),?_⟩
 unfold jd
 simp only[hl,bU _ _ _ _ hlo]
theorem abQ (s g:Value):lay [s,g] .nil 0=((T.nil:T Value).aY 0 s).aY 1 g:=by kernel_rfl
theorem EM (M:List HE) (clock bm mc:Nat) (a:Heap) (o:fL M clock) (g:a.bl.get bm=some (.map (M.map kQ) clock)) (ya:bm<a.nx) (gc:a.bl.get mc=some (aa [.map (some bm)] 218 false)) (hmc:mc<a.nx) (hlo:a.lo≤a.nx) (hM:M.length≤1000) (κ:KQ)
  (hk:∀v h' (L:List HE),L.Perm M→x_ a h' v (L.map bB)→Le a h'→κ v h') :
  CallW Tryz.prog fA [.slice none 0 0,.func (.func fK) #[] #[.pointer (some ⟨mc,0,none⟩)]] a κ:=by
 refine Kz mixed (skip:=TF) (M.length+60) ?_
 rw[abI,abH,abQ]
 simp(disch:=first|omega|simp only[Wd]<;>omega|rfl)only[Wz,EL,ago,agd,T.fW,rD,iX,pn,KA,agp,age,vD,agj,abP]
 generalize htm:(((((T.nil:T Value).aY 0 (Value.slice none 0 0)).aY 1 (Value.func (Fn.func fK) #[] #[Value.pointer (some ⟨mc,0,none⟩)])).aY 2 (Value.pointer (some ⟨a.nx,0,none⟩))).aY 4 (Value.slice none 0 0)).aY 6 (Value.func (Fn.func fK) #[] #[Value.pointer (some ⟨mc,0,none⟩)])=pq
 have hA:dA pq 2=ptrTo a.nx:=by rw[←htm]; simp (disch:=decide) only [pn,iX]; rfl
 obtain ⟨Og,yb⟩:∃Og:Heap,Og=⟨a.nx+1+1,((a.bl.aY (a.nx) (aa [.slice none 0 0] 226 false)).aY (a.nx+1) (jO .ready pq)),a.lo⟩:=⟨_,rfl⟩
 have GM:Le a Og:=by subst yb; exact (((Le.refl a).new _).new _)
 have gs:Og.bl.get (a.nx)=some (aa [.slice none 0 0] 226 false):=by subst yb; exact (T.ai _ _ (by omega)).trans (T.af _ _ _)
 have gl:Og.bl.get (a.nx+1)=some (jO .ready pq):=by subst yb; exact T.af _ _ _
 have aiR:Og.nx=a.nx+1+1:=by subst yb; rfl
 have aiS:Og.lo=a.lo:=by subst yb; rfl
 rw[←yb]
 clear yb
 have vE:=(GM.get _ hmc).trans gc
 have gm2:=(GM.get _ ya).trans g
 rw[abJ,abG,abQ]
 simp(disch:=first|omega|simp only[Wd]<;>omega|rfl)only[Wz,EL,agk,rkA,T.fW,rD,iX,pn,KA,vE,EH gm2,vD]
 refine KC a bm clock M pq o g ya hlo hM hA _ ?_ (M.length+41) [] _ _ (.slice none 0 0) [] ?_ ?_
 ·intro tm h1 v L hp ho bA n1 g1 gl1
  have l1:=bA.lo
  obtain ⟨ob,ea⟩:=Of (tm:=pq) (v:=.tuple ⟨[]⟩) (κ:=oz 0 (y3 (RN (M.length+58)) (aC.seq Code.ret) (JU False [yZ.tmp 4] κ))) gl1 (by omega)
  rw[TH,NN,ea]
  have gs1:(h1.bl.aY (a.nx+1) ob).get a.nx=some (aa [v] 226 false):=(T.ai _ _ (by omega)).trans g1
  simp(disch:=first|omega|simp only[Wd]<;>omega|rfl)only[Wz,Rf,KA,EL,ags,agi,T.fW,rD,iX,pn,hA,gs1,abK,abM,agw]
  exact hk v _ L hp (dh.put ho (by rw[gl1]; intro hc; unfold aa at hc; cases hc) _) (bA.set (by omega) _)
 ·exact Nat.le_trans (List.countP_le_length) (by omega)
 ·have e2:Og.nx=a.nx+2:=by omega
  refine ⟨GM.new _,by show a.nx+3≤Og.nx+1; omega,(T.ai _ _ (by omega)).trans gs,(T.ai _ _ (by omega)).trans gl,by rw[←e2]; exact T.af _ _ _,.inl ⟨rfl,.inl rfl⟩,?_,?_,?_⟩
  ·rw[List.filter_eq_nil_iff.2 (fun x _=>by simp)]
  ·simp (disch:=decide) only [pn,iX]
  ·rw[iX,e2]; rfl
end Go.Proofs

namespace Go.Vai
open Go
section
variable {α:Type} {s:Nat} {enc:α→List Value}
variable (lt:α→α→Prop)
variable {lt}
end
end Go.Vai

namespace Go.Proofs
open Go.Vai Go.Clashes
def qt (a b:Int):Int:=if a<b then -1 else if b<a then 1 else 0
def pz (t r t' r':Int):Int:=if qt t t'=0 then qt r r' else qt t t'
theorem Js (a:Int) {h:Heap} {κ:Value→Heap→Prop} (hk:κ (.bool false) h):CallW Tryz.prog 133 [.int .i64 a] h κ:=by
 refine fF (v:=.bool false) rfl rfl (an mixed ?_) hk
 rw[VC]; simp(disch:=first|omega|simp only[Wd]<;>omega|rfl)only[Wz]
theorem rE (a b:Int) {h:Heap} {κ:Value→Heap→Prop} (hk:κ (.int .i64 (qt a b)) h):CallW Tryz.prog 91 [.int .i64 a,.int .i64 b] h κ:=by
 refine fF (v:=.int .i64 (qt a b)) rfl rfl (an mixed ?_) hk
 rw[aaD]
 refine Js _ (Js _ ?_)
 rcases Int.lt_trichotomy a b with h1 | h1 | h1
 ·simp(disch:=first|omega|simp only[Wd]<;>omega|rfl)only[Wz,vz]; simp[qt,h1]
 ·simp(disch:=first|omega|simp only[Wd]<;>omega|rfl)only[Wz,vz]; simp[qt,h1]
 ·simp(disch:=first|omega|simp only[Wd]<;>omega|rfl)only[Wz,vz]; simp[qt,h1]; omega
theorem abR (a b:Int) (h:Heap) (v:Value) (hv:Sl (fun n=>[Value.int .i64 n]) h v [a,b]) (κ:KQ) (hk:κ (.int .i64 (if a=0 then b else a)) h):CallW Tryz.prog 90 [v] h κ:=by
 refine an mixed ?_
 rw[aaC]
 simp only[hv.len]
 have he:∀n:Int,((fun n=>[Value.int .i64 n]) n).length=1:=fun _=>rfl
 have f0:=hv.ld he 0 (p:=a) rfl
 have f1:=hv.ld he 1 (p:=b) rfl
 obtain ⟨b0,o0,hb0,abS,_,hh0⟩:=f0
 obtain ⟨b1,o1,hb1,Rg,_,YX⟩:=f1
 have hx0:=fun (β:Type) (fl:β) κ=>e8 (fl:=fl) hh0 0 κ (Nat.lt_succ_self _)
 have hx1:=fun (β:Type) (fl:β) κ=>e8 (fl:=fl) YX 0 κ (Nat.lt_succ_self _)
 simp only[Nat.add_zero] at hx0 hx1
 refine ⟨fun n l h1=>h1=h∧∃k:Nat,slot l 10=.int .i64 (k:Int)∧k≤2∧n=2-k∧(0<k→a=0)∧(1<k→b=0),⟨2,rfl,0,rfl,by omega,by omega,by omega,by omega⟩,?_⟩
 rintro n l h1 ⟨rfl,k,hs,hk2,rfl,ha,hb⟩
 have:k=0∨k=1∨k=2:=by omega
 rcases this with rfl | rfl | rfl
 ·by_cases h1:a=0
  ·simp(disch:=first|omega|simp only[Wd]<;>omega|rfl)only[Wz,hv.len,hs,sn,abS,hx0,h1,List.length_cons,List.length_nil]
   exact ⟨1,by omega,trivial,1,rfl,by omega,by omega,fun _=>trivial,fun h=>by omega⟩
  ·simp(disch:=first|omega|simp only[Wd]<;>omega|rfl)only[Wz,hv.len,hs,sn,abS,hx0,aN h1,List.length_cons,List.length_nil]
   simpa[h1] using hk
 ·have ha:=ha (by omega)
  by_cases h1:b=0
  ·simp(disch:=first|omega|simp only[Wd]<;>omega|rfl)only[Wz,hv.len,hs,sn,Rg,hx1,h1,List.length_cons,List.length_nil]
   exact ⟨0,by omega,trivial,2,rfl,by omega,by omega,fun _=>ha,fun h=>trivial⟩
  ·simp(disch:=first|omega|simp only[Wd]<;>omega|rfl)only[Wz,hv.len,hs,sn,Rg,hx1,aN h1,List.length_cons,List.length_nil]
   simpa[ha] using hk
 ·simp(disch:=first|omega|simp only[Wd]<;>omega|rfl)only[Wz,hv.len,hs,List.length_cons,List.length_nil]
  have ha:=ha (by omega)
  have hb:=hb (by omega)
  simpa[ha,hb] using hk
theorem pE (t r t' r':Int) {h:Heap} {κ:Value→Heap→Prop} (hk:κ (.int .i64 (pz t r t' r')) h):CallW Tryz.prog 92 [dn t r,dn t' r'] h κ:=by
 refine fF (v:=.int .i64 (pz t r t' r')) rfl rfl (an mixed ?_) hk
 rw[aaE]
 simp(disch:=first|omega|simp only[Wd]<;>omega|rfl)only[Wz,dn]
 refine rE _ _ ?_
 simp(disch:=first|omega|simp only[Wd]<;>omega|rfl)only[Wz]
 refine rE _ _ ?_
 simp(disch:=first|omega|simp only[Wd]<;>omega|rfl)only[Wz]
 refine abR _ _ _ _ (Sl.new (L:=[qt t t',qt r r']) (e:=3) (op:=false) (Nat.lt_succ_self _) (T.af _ _ _) _) _ ?_
 rfl
def fO (p q:Int × Int):Prop:=p.1<q.1∨(p.1=q.1∧p.2<q.2)
theorem mR {a b c:Int × Int} (h1:fO a b) (h2:fO b c):fO a c:=by unfold fO at *; omega
theorem EN (p q:Int × Int):pz p.1 p.2 q.1 q.2<0↔fO p q:=by
 unfold pz qt fO
 split<;>split<;>(try split)<;>(try split)<;>omega
theorem Jt {p q:Int × Int} (h:p≠q) (hn:¬fO p q):fO q p:=by
 unfold fO at *
 have:¬(p.1=q.1∧p.2=q.2):=fun ⟨a,b⟩=>h (Prod.ext a b)
 omega
theorem agx:∀i,i<7→∀j,j<7→bF Tryz.prog 200 29 [.int .i64 (.ofNat i),.int .i64 (.ofNat j)] (.bool (cmp (.ofNat i) (.ofNat j)))=true:=by decide +kernel
theorem agy (n:Nat) (b:Int):bF Tryz.prog 200 29 [.int .i64 (.negSucc n),.int .i64 b] (.bool false)=true:=by kernel_rfl
theorem agz (n:Nat) (b:Int):bF Tryz.prog 200 29 [.int .i64 (.ofNat (n+7)),.int .i64 b] (.bool false)=true:=by kernel_rfl
theorem agA:∀i,i<7→∀n:Nat,bF Tryz.prog 200 29 [.int .i64 (.ofNat i),.int .i64 (.negSucc n)] (.bool false)=true:=by
 refine seven ?_ ?_ ?_ ?_ ?_ ?_ ?_<;>intro n<;>kernel_rfl
theorem agB:∀i,i<7→∀n:Nat,bF Tryz.prog 200 29 [.int .i64 (.ofNat i),.int .i64 (.ofNat (n+7))] (.bool false)=true:=by
 refine seven ?_ ?_ ?_ ?_ ?_ ?_ ?_<;>intro n<;>kernel_rfl
theorem KD (a b:Int) {h:Heap} {κ:Value→Heap→Prop} (hk:κ (.bool (cmp a b)) h):CallW Tryz.prog 29 [.int .i64 a,.int .i64 b] h κ:=
 mM mixed (F:=fun a b=>.bool (cmp a b)) agx (fun n b=>by rw[Dz (lZ n)]; exact agy n b) (fun n b=>by rw[Dz (l_ n)]; exact agz n b) (fun i hi n=>by rw[Ik (lZ n)]; exact agA i hi n) (fun i hi n=>by rw[Ik (l_ n)]; exact agB i hi n) a b hk
theorem yc (r:R5) {h:Heap} {κ:Value→Heap→Prop} (hk:κ (.bool (decide (r.m≠0))) h):CallW Tryz.prog 161 [jI r] h κ:=by
 refine fF (v:=.bool (decide (r.m≠0))) rfl rfl (an mixed ?_) hk
 rw[VT]
 simp(disch:=first|omega|simp only[Wd]<;>omega|rfl)only[Wz,bq]
 simp
theorem EO (r:R5) {h:Heap} {κ:Value→Heap→Prop} (hk:κ (.bool (decide (0<r.s))) h):CallW Tryz.prog 124 [jI r] h κ:=by
 refine fF (v:=.bool (decide (0<r.s))) rfl rfl (an mixed ?_) hk
 rw[Vw]
 simp(disch:=first|omega|simp only[Wd]<;>omega|rfl)only[Wz,bq]
theorem Oh (t r':Int) (q:Value) (w:Int) (Q:List R5) (h:Heap) (κ:KQ) (hq:Sl bq h q Q) (hlen:Q.length≤1000000) (hlo:h.lo≤h.nx) (hk:∀h',Le h h'→κ (.int .i64 (dN (best Q Q.length))) h') :
  CallW Tryz.prog 128 [ef t r' q w] h κ:=by
 obtain ⟨hc,ho⟩:=jJ hq
 refine an mixed ?_
 rw[Vz]
 simp(disch:=first|omega|simp only[Wd]<;>omega|rfl)only[Wz,ef]
 obtain ⟨hA,az⟩:∃hA:Heap,hA=⟨h.nx+1,(h.bl.aY (h.nx) (aa [.int .i64 t,.int .i64 r',q,.int .i64 w] 81 false)),h.lo⟩:=⟨_,rfl⟩
 have aK:Le h hA:=by subst az; exact ((Le.refl h).new _)
 have gA:hA.bl.get (h.nx)=some (aa [.int .i64 t,.int .i64 r',q,.int .i64 w] 81 false):=by subst az; exact T.af _ _ _
 have d_:hA.nx=h.nx+1:=by subst az; rfl
 have ee:hA.lo=h.lo:=by subst az; rfl
 rw[←az]
 clear az
 refine ⟨fun n l h1=>∃i:Nat,slot l 36=.int .i64 (i:Int)∧slot l 33=.int .i64 (dN (best Q i))∧i≤Q.length∧n=Q.length-i∧Le hA h1,⟨_,0,rfl,rfl,Nat.zero_le _,rfl,Le.refl _⟩,?_⟩
 rintro n l h1 ⟨i,s1,s2,hi,rfl,hle⟩
 have n1:=hle.nx
 have l1:=hle.lo
 have g1:=(hle.get h.nx (by omega)).trans gA
 have hq1:=hq.le (aK.trans hle)
 by_cases hlt:i<Q.length
 ·obtain ⟨p,hp⟩:∃p,Q[i]? = some p:=⟨_,List.getElem?_eq_getElem hlt⟩
  obtain ⟨b,o,hb,fJ,eX⟩:=xM hq1 i hp
  have qI:best Q (i+1)=if (nQ p && r_ Q p (best Q i))=true then some i else best Q i:=by
   show (match Q[i]? with | some r=>_ | none=>_)=_
   rw[hp]
  simp(disch:=first|omega|simp only[Wd]<;>omega|rfl)only[Wz,w_,s1,g1,hq1.len]
  refine ⟨fun l' h'=>slot l' 28=.int .i64 (dN (best Q (i+1)))∧Le hA h',?_,?_⟩
  ·simp(disch:=first|omega|simp only[Wd]<;>omega|rfl)only[Wz,DR,s1,s2,g1,fJ,eX,bq]
   obtain ⟨hB,eB⟩:∃hB:Heap,hB=⟨h1.nx+1,h1.bl.aY h1.nx (ic p),h1.lo⟩:=⟨_,rfl⟩
   have nH:Le h1 hB:=by subst eB; exact (Le.refl h1).new _
   have gB:hB.bl.get h1.nx=some (ic p):=by subst eB; exact T.af _ _ _
   have gB1:=(nH.get h.nx (by omega)).trans g1
   have nB:hB.nx=h1.nx+1:=by subst eB; rfl
   have lB:hB.lo=h1.lo:=by subst eB; rfl
   rw[←eB]
   clear eB
   refine yc p ?_
   by_cases hm:p.m=0
   ·simp(disch:=first|omega|simp only[Wd]<;>omega|rfl)only[Wz,aN (show ¬p.m≠0 by omega),s2]
    refine ⟨?_,hle.trans nH⟩
    rw[qI,show nQ p=false by simp[nQ,hm]]; simp
   ·simp(disch:=first|omega|simp only[Wd]<;>omega|rfl)only[Wz,a_ (show p.m≠0 from hm),gB]
    refine EO p ?_
    by_cases hs0:0<p.s
    ·have hu:nQ p=true:=(r9 p).2 ⟨hm,hs0⟩
     cases mO:best Q i with
     | none=>
      simp(disch:=first|omega|simp only[Wd]<;>omega|rfl)only[Wz,a_ hs0,s2,dN,cq (show (-1:Int)<0 by decide),mO]
      refine ⟨?_,hle.trans nH⟩
      rw[qI,hu,mO]; rfl
     | some k=>
      obtain ⟨Ti,pk,hpk,_⟩:=vm Q i k mO
      obtain ⟨b',o',hb',Ny,Nz⟩:=xM (hq1.le nH) k hpk
      have EC:r_ Q p (some k)=decide (p.s<pk.s):=by simp only[r_,hpk]
      simp(disch:=first|omega|simp only[Wd]<;>omega|rfl)only[Wz,a_ hs0,s2,dN,bP (show (0:Int)≤(k:Int) by omega),mO,gB,gB1,Ny,Nz]
      by_cases hs:p.s<pk.s
      ·simp(disch:=first|omega|simp only[Wd]<;>omega|rfl)only[Wz,a_ hs]
       refine ⟨?_,hle.trans nH⟩
       rw[qI,hu,mO,EC,a_ hs]; rfl
      ·simp(disch:=first|omega|simp only[Wd]<;>omega|rfl)only[Wz,aN hs]
       refine ⟨?_,hle.trans nH⟩
       rw[qI,hu,mO,EC,aN hs]
       first | rfl | (rw[s2,mO]; rfl)
    ·simp(disch:=first|omega|simp only[Wd]<;>omega|rfl)only[Wz,aN hs0,s2]
     refine ⟨?_,hle.trans nH⟩
     rw[qI,show nQ p=false by simp[nQ,hs0]]; simp
  ·rintro l' h' ⟨k1,k2⟩
   exact ⟨_,by omega,i+1,rfl,k1,by omega,rfl,k2⟩
 ·have hil:i=Q.length:=by omega
  subst hil
  simp(disch:=first|omega|simp only[Wd]<;>omega|rfl)only[Wz,w_,s1,s2,g1,hq1.len]
  exact hk h1 (aK.trans hle)
theorem rF {Q:List R5} {F:R5→Bool} {i:Nat} {p:R5} (hp:Q[i]? = some p) (hF:F p=true) (hn:∀(j:Nat) (q:R5),j<i→Q[j]? = some q→F q=false):Q.findIdx? F=some i:=by
 rcases jh Q F with ⟨e,h⟩ | ⟨k,q,e,hq,h1,h2⟩
 ·have:=h p (List.mem_of_getElem? hp)
  rw[hF] at this; cases this
 ·rw[e]
  rcases Nat.lt_trichotomy k i with h3 | h3 | h3
  ·have:=hn k q h3 hq; rw[h1] at this; cases this
  ·rw[h3]
  ·have:=h2 i p h3 hp; rw[hF] at this; cases this
theorem Ju {Q:List R5} {F:R5→Bool} (hn:∀(j:Nat) (q:R5),j<Q.length→Q[j]? = some q→F q=false):Q.findIdx? F=none:=by
 rcases jh Q F with ⟨e,h⟩ | ⟨k,q,e,hq,h1,h2⟩
 ·exact e
 ·have:=hn k q (List.getElem?_eq_some_iff.1 hq).1 hq
  rw[h1] at this; cases this
theorem yd (t r':Int) (q:Value) (w:Int) (Q:List R5) (h:Heap) (κ:KQ) (hq:Sl bq h q Q) (hlen:Q.length≤1000000) (hlo:h.lo≤h.nx) (hk:∀h',Le h h'→κ (.int .i64 (dN (Q.findIdx? fun r=>decide (r.m=0)))) h') :
  CallW Tryz.prog 130 [ef t r' q w] h κ:=by
 obtain ⟨hc,ho⟩:=jJ hq
 refine an mixed ?_
 rw[VB]
 simp(disch:=first|omega|simp only[Wd]<;>omega|rfl)only[Wz,ef]
 obtain ⟨hA,az⟩:∃hA:Heap,hA=⟨h.nx+1,(h.bl.aY (h.nx) (aa [.int .i64 t,.int .i64 r',q,.int .i64 w] 81 false)),h.lo⟩:=⟨_,rfl⟩
 have aK:Le h hA:=by subst az; exact ((Le.refl h).new _)
 have gA:hA.bl.get (h.nx)=some (aa [.int .i64 t,.int .i64 r',q,.int .i64 w] 81 false):=by subst az; exact T.af _ _ _
 have d_:hA.nx=h.nx+1:=by subst az; rfl
 have ee:hA.lo=h.lo:=by subst az; rfl
 rw[←az]
 clear az
 have s6:=hq.le aK
 refine ⟨fun n l h1=>∃i:Nat,slot l 16=.int .i64 (i:Int)∧(∀(j:Nat) (p:R5),j<i→Q[j]? = some p→decide (p.m=0)=false)∧i≤Q.length∧n=Q.length-i∧HQ hA h1,⟨_,0,rfl,fun j p h=>(by omega),Nat.zero_le _,rfl,rfl⟩,?_⟩
 rintro n l h1 ⟨i,s1,hn,hi,rfl,hle⟩
 cases (show hA=h1 from hle)
 by_cases hlt:i<Q.length
 ·obtain ⟨p,hp⟩:∃p,Q[i]? = some p:=⟨_,List.getElem?_eq_getElem hlt⟩
  obtain ⟨b,o,hb,fJ,eX⟩:=xM s6 i hp
  simp(disch:=first|omega|simp only[Wd]<;>omega|rfl)only[Wz,xg,s1,gA,s6.len,DS,fJ,eX,bq]
  refine yc p ?_
  by_cases hm:p.m=0
  ·simp(disch:=first|omega|simp only[Wd]<;>omega|rfl)only[Wz,aN (show ¬p.m≠0 by omega)]
   have:=hk hA aK
   rw[rF hp (by simp[hm]) hn] at this
   exact this
  ·simp(disch:=first|omega|simp only[Wd]<;>omega|rfl)only[Wz,a_ (show p.m≠0 from hm)]
   refine ⟨_,by omega,i+1,rfl,fun j q hj hq=>?_,by omega,rfl,rfl⟩
   by_cases hji:j=i
   ·subst hji; rw[hp] at hq; cases hq; simp[hm]
   ·exact hn j q (by omega) hq
 ·have hil:i=Q.length:=by omega
  subst hil
  simp(disch:=first|omega|simp only[Wd]<;>omega|rfl)only[Wz,xg,s1,gA,s6.len]
  have:=hk hA aK
  rw[Ju hn] at this
  exact this
def kS (Q:List R5) (m but:Int):Nat→Bool
 | 0=>true
 | n+1=>kS Q m but n && (match Q[n]? with | some p=>decide ((n:Int)=but) || decide (p.m=0) || cmp p.m m | none=>true)
theorem EP {Q:List R5} {m but:Int} {n:Nat} (h:kS Q m but n=false):∀k,n≤k→kS Q m but k=false:=by
 intro k hk
 induction k with
 | zero=>have:n=0:=by omega
         subst this; exact h
 | succ k ih=>
  by_cases e:n=k+1
  ·subst e; exact h
  ·unfold kS; rw[ih (by omega)]; rfl
theorem tW {Q:List R5} {m but:Int}:∀n,kS Q m but n=true↔∀(j:Nat) (p:R5),j<n→Q[j]? = some p→(j:Int)≠but→p.m≠0→cmp p.m m=true:=by
 intro n
 induction n with
 | zero=>exact ⟨fun _ j p h=>(by omega),fun _=>rfl⟩
 | succ n ih=>
  unfold kS
  rw[Bool.and_eq_true,ih]
  constructor
  ·rintro ⟨h1,h2⟩ j p hj hp hb hm
   by_cases e:j=n
   ·subst e; rw[hp] at h2; simpa[hb,hm] using h2
   ·exact h1 j p (by omega) hp hb hm
  ·intro h
   refine ⟨fun j p hj hp hb hm=>h j p (by omega) hp hb hm,?_⟩
   split
   ·rename_i p hp
    by_cases hb:(n:Int)=but
    ·simp[hb]
    ·by_cases hm:p.m=0
     ·simp[hm]
     ·simp[h n p (by omega) hp hb hm]
   ·rfl
theorem Oi {Q:List R5} (hp:Q.Pairwise iC) {i:Nat} {r:R5} (hr:Q[i]? = some r):kS Q r.w i Q.length=ej Q r:=by
 rw[Bool.eq_iff_iff,tW,iL]
 constructor
 ·intro h o ho h1 h2
  obtain ⟨j,hj⟩:=List.getElem?_of_mem ho
  refine h j o (List.getElem?_eq_some_iff.1 hj).1 hj (fun e=>h1 ?_) h2
  have:j=i:=by omega
  subst this; rw[hr] at hj; cases hj; rfl
 ·intro h j p hj TI hb hm
  exact h p (List.mem_of_getElem? TI) (fun e=>hb (by rw[wR hp TI hr e])) hm
theorem B_ (t r':Int) (q:Value) (w m but:Int) (Q:List R5) (h:Heap) (κ:KQ) (hq:Sl bq h q Q) (hlen:Q.length≤1000000) (hlo:h.lo≤h.nx) (hk:∀h',Le h h'→κ (.bool (kS Q m but Q.length)) h') :
  CallW Tryz.prog 127 [ef t r' q w,.int .i64 m,.int .i64 but] h κ:=by
 obtain ⟨hc,ho⟩:=jJ hq
 refine an mixed ?_
 rw[Vy]
 simp(disch:=first|omega|simp only[Wd]<;>omega|rfl)only[Wz,ef]
 obtain ⟨hA,az⟩:∃hA:Heap,hA=⟨h.nx+1,(h.bl.aY (h.nx) (aa [.int .i64 t,.int .i64 r',q,.int .i64 w] 81 false)),h.lo⟩:=⟨_,rfl⟩
 have aK:Le h hA:=by subst az; exact ((Le.refl h).new _)
 have gA:hA.bl.get (h.nx)=some (aa [.int .i64 t,.int .i64 r',q,.int .i64 w] 81 false):=by subst az; exact T.af _ _ _
 have d_:hA.nx=h.nx+1:=by subst az; rfl
 have ee:hA.lo=h.lo:=by subst az; rfl
 rw[←az]
 clear az
 have s6:=hq.le aK
 have hk:=hk hA aK
 refine ⟨fun n l h1=>∃i:Nat,slot l 30=.int .i64 (i:Int)∧kS Q m but i=true∧i≤Q.length∧n=Q.length-i∧HQ hA h1,⟨_,0,rfl,rfl,Nat.zero_le _,rfl,rfl⟩,?_⟩
 rintro n l h1 ⟨i,s1,hn,hi,rfl,hle⟩
 cases (show hA=h1 from hle)
 by_cases hlt:i<Q.length
 ·obtain ⟨p,hp⟩:∃p,Q[i]? = some p:=⟨_,List.getElem?_eq_getElem hlt⟩
  obtain ⟨b,o,hb,fJ,eX⟩:=xM s6 i hp
  have TJ:kS Q m but (i+1)=(kS Q m but i && (decide ((i:Int)=but) || decide (p.m=0) || cmp p.m m)):=by
   show (kS Q m but i && (match Q[i]? with | some p=>_ | none=>_))=_
   rw[hp]
  have next:(decide ((i:Int)=but) || decide (p.m=0) || cmp p.m m)=true→kS Q m but (i+1)=true:=fun h=>by rw[TJ,hn,h]; rfl
  simp(disch:=first|omega|simp only[Wd]<;>omega|rfl)only[Wz,w9,s1,gA,s6.len]
  by_cases Rh:(i:Int)=but
  ·simp(disch:=first|omega|simp only[Wd]<;>omega|rfl)only[Wz,w8,s1,a_ Rh]
   exact ⟨_,by omega,i+1,rfl,next (by simp[Rh]),by omega,rfl,rfl⟩
  ·simp(disch:=first|omega|simp only[Wd]<;>omega|rfl)only[Wz,w8,s1,aN Rh,gA,fJ,eX,bq]
   refine yc p ?_
   by_cases hm:p.m=0
   ·simp(disch:=first|omega|simp only[Wd]<;>omega|rfl)only[Wz,aN (show ¬p.m≠0 by omega),s1]
    exact ⟨_,by omega,i+1,rfl,next (by simp[hm]),by omega,rfl,rfl⟩
   ·simp(disch:=first|omega|simp only[Wd]<;>omega|rfl)only[Wz,a_ (show p.m≠0 from hm),gA,s1,fJ,eX]
    refine KD _ _ ?_
    cases hcm:cmp p.m m with
    | true=>
     simp(disch:=first|omega|simp only[Wd]<;>omega|rfl)only[Wz,s1]
     exact ⟨_,by omega,i+1,rfl,next (by simp[hcm]),by omega,rfl,rfl⟩
    | false=>
     simp(disch:=first|omega|simp only[Wd]<;>omega|rfl)only[Wz]
     rw[EP (n:=i+1) (by rw[TJ,hcm]; simp[Rh,hm]) Q.length (by omega)] at hk
     exact hk
 ·have hil:i=Q.length:=by omega
  subst hil
  simp(disch:=first|omega|simp only[Wd]<;>omega|rfl)only[Wz,w9,s1,gA,s6.len]
  rw[hn] at hk
  exact hk
theorem qh {zs:List Value} (κ:List Value→Prop):bC False [] [] (aU zs 0) κ=κ []:=id rfl
theorem qi (t r:Int) (q:Value) (w:Int) (Q:List R5) (h:Heap) (κ:KQ) (hq:Sl bq h q Q) (hlen:Q.length≤100000) (hlo:h.lo≤h.nx) (hk:∀q' h',iV h h' q' Q→Le h h'→κ (ef t r q' w) h') :
  CallW Tryz.prog 125 [ef t r q w] h κ:=by
 obtain ⟨qx,qc,rfl,_⟩:=id hq
 refine an mixed ?_
 rw[Vx]
 simp(disch:=first|omega|simp only[Wd]<;>omega|rfl)only[Wz,ef,qh]
 obtain ⟨hA,az⟩:∃hA:Heap,hA=⟨h.nx+1+1+1,(((h.bl.aY (h.nx) (aa [.int .i64 t,.int .i64 r,.slice qx Q.length qc,.int .i64 w] 81 false)).aY (h.nx+1) (aa [.int .i64 0,.int .i64 0,.slice none 0 0,.int .i64 0] 81 false)).aY (h.nx+1+1) (aa [] 83 false)),h.lo⟩:=⟨_,rfl⟩
 have aK:Le h hA:=by subst az; exact ((((Le.refl h).new _).new _).new _)
 have g1:hA.bl.get (h.nx)=some (aa [.int .i64 t,.int .i64 r,.slice qx Q.length qc,.int .i64 w] 81 false):=by subst az; exact (T.ai _ _ (by omega)).trans ((T.ai _ _ (by omega)).trans (T.af _ _ _))
 have g3:hA.bl.get (h.nx+1)=some (aa [.int .i64 0,.int .i64 0,.slice none 0 0,.int .i64 0] 81 false):=by subst az; exact (T.ai _ _ (by omega)).trans (T.af _ _ _)
 have g5:hA.bl.get (h.nx+1+1)=some (aa [] 83 false):=by subst az; exact T.af _ _ _
 have d_:hA.nx=h.nx+1+1+1:=by subst az; rfl
 have ee:hA.lo=h.lo:=by subst az; rfl
 rw[←az]
 clear az
 refine cV (enc:=bq) (a:=h) (L:=[]) (M:=Q) bz jG (by decide) (by decide) (.inl ⟨rfl,.inr ⟨_,_,rfl⟩⟩) (hq.le aK) aK (by simp; omega) (by omega) _ ?_
 intro v' h' ho' hle' _ hn2 hl' hsame
 have g1:=(hsame h.nx (by omega) (by rw[g1]; exact aS)).trans g1
 have g3:=(hsame (h.nx+1) (by omega) (by rw[g3]; exact aS)).trans g3
 rw[List.nil_append] at ho'
 obtain ⟨Tu,Tv,rfl,_⟩:=id ho'.sl
 simp(disch:=first|omega|simp only[Wd]<;>omega|rfl)only[Wz,g1]
 simp(disch:=first|omega|simp only[Wd]<;>omega|rfl)only[Wz,g3]
 refine hk _ _ ?_ ?_
 ·refine dh.put (dh.put ho' (by rw[g1]; exact aS) _) ?_ _
  show (h'.bl.aY h.nx _).get (h.nx+1)≠_
  rw[T.ai _ _ (by omega),g3]; exact aS
 ·exact (hle'.set (b:=h.nx) (by omega) _).set (b:=h.nx+1) (by omega) _
theorem mT {Q:List R5}:cW Q=(match best Q Q.length with | some b=>some b | none=>Q.findIdx? (fun r=>decide (r.m=0))):=rfl
theorem KE {Q:List R5} {n j:Nat} {p:R5} (hj:j<n) (hp:Q[j]? = some p) (hu:nQ p=true):∃b,best Q n=some b:=by
 cases hb:best Q n with
 | some b=>exact ⟨b,rfl⟩
 | none=>
  have:=tJ Q n hb j p hj hp
  rw[hu] at this; cases this
theorem ES {Q:List R5}:Q.any nQ=true↔∃b,best Q Q.length=some b:=by
 rw[List.any_eq_true]
 constructor
 ·rintro ⟨p,hp,hu⟩
  obtain ⟨j,hj⟩:=List.getElem?_of_mem hp
  exact KE (List.getElem?_eq_some_iff.1 hj).1 hj hu
 ·rintro ⟨b,hb⟩
  obtain ⟨_,p,hp,hu⟩:=vm Q _ b hb
  exact ⟨p,List.mem_of_getElem? hp,hu⟩
theorem Oj {Q:List R5} (hp:Q.Pairwise iC) {i:Nat} {r:R5} (hr:Q[i]? = some r) (m:Int):kS Q m i Q.length=ej Q ⟨r.id,r.x,r.m,m,r.s⟩:=by
 rw[Bool.eq_iff_iff,tW,iL]
 constructor
 ·intro h o ho h1 h2
  obtain ⟨j,hj⟩:=List.getElem?_of_mem ho
  refine h j o (List.getElem?_eq_some_iff.1 hj).1 hj (fun e=>h1 ?_) h2
  have:j=i:=by omega
  subst this; rw[hr] at hj; cases hj; rfl
 ·intro h j p hj TI hb hm
  exact h p (List.mem_of_getElem? TI) (fun e=>hb (by rw[wR hp TI hr e])) hm
theorem Ol {Q:List R5} {id x m:Int} (hn:∀q∈Q,q.id≠id):kS Q m (-1) Q.length=ej Q ⟨id,x,0,m,0⟩:=by
 rw[Bool.eq_iff_iff,tW,iL]
 constructor
 ·intro h o ho h1 h2
  obtain ⟨j,hj⟩:=List.getElem?_of_mem ho
  exact h j o (List.getElem?_eq_some_iff.1 hj).1 hj (by omega) h2
 ·intro h j p hj TI hb hm
  exact h p (List.mem_of_getElem? TI) (hn p (List.mem_of_getElem? TI)) hm
theorem ET {Q:List R5} (hp:Q.Pairwise iC) {i:Nat} {p:R5} (hi:Q[i]? = some p):Q.filter (fun r=>!bD p.id r)=Q.take i++Q.drop (i+1):=by
 have hil:=(List.getElem?_eq_some_iff.1 hi).1
 have e0:Q=Q.take i++p::Q.drop (i+1):=by
  conv=>lhs; rw[←List.take_append_drop i Q]
  rw[List.drop_eq_getElem_cons hil]
  rw[List.getElem?_eq_getElem hil] at hi
  cases hi; rfl
 have far:∀(j:Nat) (q:R5),Q[j]? = some q→j≠i→bD p.id q=false:=by
  intro j q hj hne
  unfold bD
  exact aN fun e=>hne (wR hp hj hi e)
 conv=>lhs; rw[e0]
 rw[List.filter_append,List.filter_cons]
 have e1:(!bD p.id p)=false:=by unfold bD; rw[a_ rfl]; rfl
 rw[e1,if_neg (by simp)]
 congr 1
 ·rw[List.filter_eq_self]
  intro q hq
  obtain ⟨j,hj⟩:=List.getElem?_of_mem hq
  rw[List.getElem?_take] at hj
  split at hj
  ·rw[far j q hj (by omega)]; rfl
  ·cases hj
 ·rw[List.filter_eq_self]
  intro q hq
  obtain ⟨j,hj⟩:=List.getElem?_of_mem hq
  rw[List.getElem?_drop] at hj
  rw[far (i+1+j) q hj (by omega)]; rfl
end Go.Proofs

namespace Go.Vai
open Go
section
variable {α:Type} {s:Nat} {enc:α→List Value}
set_option maxRecDepth 20000 in
theorem Ca {h:Heap} {e:TypeId} {z vs:List Value} {x:Value} {M:List α} {b k:Nat} (he:∀a:α,(enc a).length=s) (hone:∀a:α,(enc a).all ew=true) (hx:Sl enc h x M) (hM:M≠[])
  (hg:h.bl.get b=some (aa vs e true)) (hlo:h.lo≤b) (hr:(k+M.length)*s≤vs.length) (hb:k+M.length≤1000000) (κ:KQ)
  (hk:κ (.slice (some ⟨b,0,none⟩) (k+M.length) aO) ⟨h.nx,h.bl.aY b (aa (over vs (k*s) (M.flatMap enc)) e true),h.lo⟩):bu False e s z false (.slice (some ⟨b,0,none⟩) k aO) x h κ:=by
 obtain ⟨m,hm⟩:∃m,M.length=m+1:=⟨M.length-1,by have:=List.length_pos_iff.2 hM; omega⟩
 have hfl:=aX (enc:=enc) he
 have iB:=hx.first (β:=Prop) (fl:=False) he
 obtain ⟨y,cap,rfl,h2⟩:=hx
 unfold bu kz
 simp only
 rw[iB]
 simp only[hm,bS]
 have e1:Nat.add k (m+1)=k+(m+1):=rfl
 rw[e1,show Nat.ble (k+(m+1)) 1000000000=true from Nat.ble_eq_true_of_le (by omega)]
 have e2:Nat.beq aO fT=false:=by decide
 have e3:Nat.beq aO aO=true:=Nat.beq_refl _
 simp only[e2,e3,hg]
 have e4:Nat.ble (Nat.add 0 (Nat.mul (k+(m+1)) s)) vs.length=true:=Nat.ble_eq_true_of_le (by show 0+(k+(m+1))*s≤_; rw[hm] at hr; omega)
 have e5:(M.flatMap enc).all ew=true:=by
  rw[List.all_flatMap]; simp only[List.all_eq_true]; intro x _; exact List.all_eq_true.1 (hone x)
 have e6:Nat.add 0 (Nat.mul k s)=k*s:=by show 0+k*s=_; omega
 have e7:k*s+(M.flatMap enc).length≤vs.length:=by rw[hfl,←Nat.add_mul]; exact hr
 simp only[aa,Nat.beq_refl,e4,e6]
 rw[pW _ _ _ _ _ e7 e5,bU _ _ _ _ hlo,vg _ _ _ e7]
 rw[hm] at hk
 have:=jD e7
 simp only[aa,this] at hk
 exact hk
end
end Go.Vai
namespace Go.Vai
open Go
section
variable {β:Type} {fl:β} {α:Type} {s:Nat} {enc:α→List Value}
theorem EU (e s:Nat) (h:Heap) (κ:Value→Heap→β):sliceB fl e s (.slice none 0 0) (some (.int .i64 0)) none none h κ=κ (.slice none 0 0) h:=id rfl
theorem EV (e s:Nat) (h:Heap) (κ:Value→Heap→β):sliceB fl e s (.slice none 0 0) none (some (.int .i64 0)) none h κ=κ (.slice none 0 0) h:=id rfl
theorem EW (e s b o:Nat) (h:Heap) (κ:Value→Heap→β):sliceB fl e s (.slice (some ⟨b,o,none⟩) 0 0) (some (.int .i64 0)) none none h κ=κ (.slice (some ⟨b,o,none⟩) 0 0) h:=id rfl
theorem EX (e s b o:Nat) (h:Heap) (κ:Value→Heap→β):sliceB fl e s (.slice (some ⟨b,o,none⟩) 0 0) none (some (.int .i64 0)) none h κ=κ (.slice (some ⟨b,o,none⟩) 0 0) h:=id rfl
theorem KF {h:Heap} {e s b n:Nat} {vs:List Value} (hs:0<s) (hb:h.bl.get b=some (aa vs e true)) (hvs:vs.length=n*s) (κ:Value→Heap→β) :
  sliceB fl e s (.slice (some ⟨b,0,none⟩) n aO) (some (.int .i64 (n:Int))) none none h κ=κ (.slice (some ⟨b,0,none⟩) 0 fT) h:=by
 obtain ⟨s,rfl⟩:∃k,s=k+1:=⟨s-1,by omega⟩
 have hk:iu h e b=some (n*(s+1)):=by unfold iu; rw[hb]; simp only[aa,jg,hvs]
 have hd:Nat.div (Nat.sub (n*(s+1)) 0) (s+1)=n:=by show (n*(s+1)-0) / (s+1)=n; rw[Nat.sub_zero,Nat.mul_div_cancel _ (by omega)]
 have e1:Nat.beq aO fT=false:=by decide
 have e2:Nat.beq aO aO=true:=Nat.beq_refl _
 have e3:Nat.ble 0 (n*(s+1))=true:=Nat.ble_eq_true_of_le (Nat.zero_le _)
 have e5:Nat.ble n n=true:=Nat.ble_eq_true_of_le (Nat.le_refl _)
 unfold sliceB jo
 simp only[e1,e2,hk,e3,hd,wN,tI,e5,Nat.beq_refl]
theorem dh.tail {a h:Heap} {e:TypeId} {v:Value} {L:List α} (he:∀a:α,(enc a).length=s) (hs:0<s) (ho:dh enc a e h v L) (i:Nat) (hi:i≤L.length) :
  ∃u,Sl enc h u (L.drop i)∧∀(β:Type) (fl:β) (κ:Value→Heap→β),sliceB fl e s v (some (.int .i64 (i:Int))) none none h κ=κ u h:=by
 rcases ho with ⟨rfl,rfl | ⟨b,o,rfl⟩⟩ | ⟨b,rfl,h1,h2,h3,h4⟩
 ·obtain rfl:i=0:=by simpa using hi
  exact ⟨_,Sl.nil _ _ _,fun β fl κ=>EU ..⟩
 ·obtain rfl:i=0:=by simpa using hi
  exact ⟨_,Sl.nil _ _ _,fun β fl κ=>EW ..⟩
 ·by_cases hlt:i<L.length
  ·refine ⟨_,?_,fun β fl κ=>wO hs h4 (aX he L) hlt κ⟩
   refine ⟨_,aO,by rw[List.length_drop],fun _=>⟨b,i*s,rfl,h2,?_⟩⟩
   have hh:Has (h.bl.get b) 0 (L.flatMap enc):=by rw[h4]; exact Has.all
   have hl:=aX he L
   have hle:i*s≤L.length*s:=Nat.mul_le_mul_right _ (by omega)
   have:=hh.sub (i*s) (L.length*s-i*s) (by omega)
   rw[Nat.zero_add] at this
   have e1:((L.flatMap enc).drop (i*s)).take (L.length*s-i*s)=(L.drop i).flatMap enc:=by
    have e2:(L.flatMap enc).drop (i*s)=(L.drop i).flatMap enc:=by
     conv=>lhs; rw[←List.take_append_drop i L,List.flatMap_append]
     rw[List.drop_append,aX he]
     simp only[List.length_take,Nat.min_eq_left hi,Nat.sub_self,List.drop_zero]
     rw[List.drop_of_length_le (by rw[aX he]; simp[Nat.min_eq_left hi])]
     rfl
    rw[e2,List.take_of_length_le (by rw[aX he,List.length_drop,Nat.sub_mul]; exact Nat.le_refl _)]
   rwa [e1] at this
  ·obtain rfl:i=L.length:=by omega
   refine ⟨_,?_,fun β fl κ=>KF hs h4 (aX he L) κ⟩
   rw[List.drop_length]
   exact Sl.nil _ _ _
theorem dh.same {a h:Heap} {e:TypeId} {v:Value} {L:List α} (ho:dh enc a e h v L):k9 8 v v=true:=by
 rcases ho with ⟨rfl,rfl | ⟨b,o,rfl⟩⟩ | ⟨b,rfl,h1,h2,h3,h4⟩
 ·rw[Bl]
 ·rw[vj]
 ·rw[vj]
def Cb (v:Value) (i:Nat):Value:=match v with | .slice x _ c=>.slice x i c | v=>v
theorem dh.head {a h:Heap} {e:TypeId} {v:Value} {L:List α} (he:∀a:α,(enc a).length=s) (hs0:0<s) (ho:dh enc a e h v L) (hL:L=[]→(v=.slice none 0 0∨∃b o,v=.slice (some ⟨b,o,none⟩) 0 0)) (i:Nat) (hi:i≤L.length)
  (κ:Value→Heap→β):sliceB fl e s v none (some (.int .i64 (i:Int))) none h κ=κ (Cb v i) h:=by
 by_cases hn:L=[]
 ·subst hn
  obtain rfl:i=0:=by simpa using hi
  rcases hL rfl with rfl | ⟨b,o,rfl⟩
  ·exact EV ..
  ·exact EX ..
 ·rcases ho with ⟨rfl,_⟩ | ⟨b,rfl,h1,h2,h3,h4⟩
  ·exact absurd rfl hn
  ·exact r7 hs0 h4 (aX he L) (List.length_pos_iff.2 hn) hi κ
theorem rG (he:∀a:α,(enc a).length=s) (L:List α):∀i,(L.flatMap enc).take (i*s)=(L.take i).flatMap enc:=by
 induction L with
 | nil=>intro i; simp
 | cons a L ih=>
  intro i
  cases i with
  | zero=>simp
  | succ i=>
   simp only[List.flatMap_cons,List.take_succ_cons]
   rw[List.take_append,←ih i,he,List.take_of_length_le (by rw[he,Nat.succ_mul]; omega),show (i+1)*s-s=i*s by rw[Nat.succ_mul]; omega]
theorem sH {a h:Heap} {e:TypeId} {v:Value} {L:List α} (he:∀a:α,(enc a).length=s) (ho:dh enc a e h v L) (i:Nat) (hi:i≤L.length):Sl enc h (Cb v i) (L.take i):=by
 by_cases hn:L=[]
 ·subst hn
  obtain rfl:i=0:=by simpa using hi
  rcases ho with ⟨_,rfl | ⟨b,o,rfl⟩⟩ | ⟨b,rfl,_⟩<;>exact Sl.nil _ _ _
 ·have hs:=ho.sl
  obtain ⟨x,cap,rfl,h2⟩:=hs
  obtain ⟨b,o,rfl,h3,h4⟩:=h2 hn
  refine ⟨_,cap,by simp[Cb,Nat.min_eq_left hi],fun _=>⟨b,o,rfl,h3,?_⟩⟩
  have hl:=aX (enc:=enc) he L
  have hle:i*s≤L.length*s:=Nat.mul_le_mul_right _ hi
  have:=h4.sub 0 (i*s) (by omega)
  rw[Nat.add_zero,List.drop_zero,rG he] at this
  exact this
def uX (L:List α) (v:Value):Prop:=L=[]→(v=.slice none 0 0∨∃b o,v=.slice (some ⟨b,o,none⟩) 0 0)
theorem qj {a h:Heap} {e:TypeId} {v:Value} {L:List α} (he:∀a:α,(enc a).length=s) (hs0:0<s) (ho:dh enc a e h v L) (em:uX L v) (i:Nat) (hi:i≤L.length) (κ:Value→Heap→β):sliceB fl e s v none (some (.int .i64 (i:Int))) none h κ=κ (Cb v i) h:=
 dh.head he hs0 ho em i hi κ
theorem fP {a h:Heap} {e:TypeId} {z:List Value} {v x:Value} {L M:List α} (he:∀a:α,(enc a).length=s) (hone:∀a:α,(enc a).all ew=true) (hs0:0<s) (hs1:s≤100) (ho:dh enc a e h v L) (em:uX L v) (hx:Sl enc h x M)
  (hle:Le a h) (hb:L.length+M.length≤1000000) (hal:h.lo≤h.nx) (κ:KQ)
  (hk:∀v' h',dh enc a e h' v' (L++M)→uX (L++M) v'→Le a h'→h.nx≤h'.nx→κ v' h'):bu False e s z false v x h κ:=by
 by_cases hM:M=[]
 ·subst hM
  rw[append_nil hx (by rcases ho with ⟨_,rfl | ⟨b,o,rfl⟩⟩ | ⟨b,rfl,_⟩<;>exact ⟨_,_,_,rfl⟩)]
  exact hk v h (by simpa using ho) (by simpa using em) hle (Nat.le_refl _)
 ·refine cV he hone hs0 hs1 ho hx hle hb hal κ ?_
  intro v' h' ho' hle' _ hn _ _
  exact hk v' h' ho' (fun h=>absurd (List.append_eq_nil_iff.1 h).2 hM) hle' hn
end
end Go.Vai

namespace Go.Proofs
open Go.Vai Go.Clashes
theorem Om (t r':Int) (q:Value) (w id:Int) (Q:List R5) (h:Heap) (κ:KQ) (hq:Sl bq h q Q) (hlen:Q.length≤1000000) (hlo:h.lo≤h.nx) (hk:∀h',Le h h'→κ (.int .i64 (dN (Q.findIdx? (bD id)))) h') :
  CallW Tryz.prog 119 [ef t r' q w,.int .i64 id] h κ:=by
 obtain ⟨hc,ho⟩:=jJ hq
 refine an mixed ?_
 rw[Vr]
 simp(disch:=first|omega|simp only[Wd]<;>omega|rfl)only[Wz,ef]
 obtain ⟨hA,az⟩:∃hA:Heap,hA=⟨h.nx+1,(h.bl.aY (h.nx) (aa [.int .i64 t,.int .i64 r',q,.int .i64 w] 81 false)),h.lo⟩:=⟨_,rfl⟩
 have aK:Le h hA:=by subst az; exact ((Le.refl h).new _)
 have gA:hA.bl.get (h.nx)=some (aa [.int .i64 t,.int .i64 r',q,.int .i64 w] 81 false):=by subst az; exact T.af _ _ _
 have d_:hA.nx=h.nx+1:=by subst az; rfl
 have ee:hA.lo=h.lo:=by subst az; rfl
 rw[←az]
 clear az
 have s6:=hq.le aK
 refine ⟨fun n l h1=>∃i:Nat,slot l 17=.int .i64 (i:Int)∧(∀(j:Nat) (p:R5),j<i→Q[j]? = some p→bD id p=false)∧i≤Q.length∧n=Q.length-i∧HQ hA h1,⟨_,0,rfl,fun j p h=>(by omega),Nat.zero_le _,rfl,rfl⟩,?_⟩
 rintro n l h1 ⟨i,s1,hn,hi,rfl,hle⟩
 cases (show hA=h1 from hle)
 by_cases hlt:i<Q.length
 ·obtain ⟨p,hp⟩:∃p,Q[i]? = some p:=⟨_,List.getElem?_eq_getElem hlt⟩
  obtain ⟨b,o,hb,fJ,eX⟩:=xM s6 i hp
  by_cases hm:p.id=id
  ·simp(disch:=first|omega|simp only[Wd]<;>omega|rfl)only[Wz,sq,s1,gA,s6.len,w5,fJ,eX,a_ hm]
   have:=hk hA aK
   rw[rF hp (show bD id p=true from a_ hm) hn] at this
   exact this
  ·simp(disch:=first|omega|simp only[Wd]<;>omega|rfl)only[Wz,sq,s1,gA,s6.len,w5,fJ,eX,aN hm]
   refine ⟨_,by omega,i+1,rfl,fun j q hj hq=>?_,by omega,rfl,rfl⟩
   by_cases hji:j=i
   ·subst hji; rw[hp] at hq; cases hq; exact aN hm
   ·exact hn j q (by omega) hq
 ·have hil:i=Q.length:=by omega
  subst hil
  simp(disch:=first|omega|simp only[Wd]<;>omega|rfl)only[Wz,sq,s1,gA,s6.len]
  have:=hk hA aK
  rw[Ju hn] at this
  exact this
theorem On (t r:Int) (q:Value) (w id:Int) (Q:List R5) (h:Heap) (κ:KQ) (hq:Sl bq h q Q) (hlen:Q.length≤100000) (hlo:h.lo≤h.nx)
  (hk:∀h',Le h h'→κ (match bJ Q id with | some p=>.tuple ⟨[jI p,.bool true]⟩ | none=>.tuple ⟨[jI ⟨0,0,0,0,0⟩,.bool false]⟩) h') :
  CallW Tryz.prog 118 [ef t r q w,.int .i64 id] h κ:=by
 obtain ⟨hc,ho⟩:=jJ hq
 refine an mixed ?_
 rw[Vq]
 simp(disch:=first|omega|simp only[Wd]<;>omega|rfl)only[Wz,ef]
 obtain ⟨hA,az⟩:∃hA:Heap,hA=⟨h.nx+1+1,((h.bl.aY (h.nx) (aa [.int .i64 t,.int .i64 r,q,.int .i64 w] 81 false)).aY (h.nx+1) (ic ⟨0,0,0,0,0⟩)),h.lo⟩:=⟨_,rfl⟩
 have aK:Le h hA:=by subst az; exact (((Le.refl h).new _).new _)
 have g1:hA.bl.get (h.nx)=some (aa [.int .i64 t,.int .i64 r,q,.int .i64 w] 81 false):=by subst az; exact (T.ai _ _ (by omega)).trans (T.af _ _ _)
 have g3:hA.bl.get (h.nx+1)=some (ic ⟨0,0,0,0,0⟩):=by subst az; exact T.af _ _ _
 have d_:hA.nx=h.nx+1+1:=by subst az; rfl
 have ee:hA.lo=h.lo:=by subst az; rfl
 rw[←az]
 clear az
 refine Om t r q w id Q hA _ (hq.le aK) (by omega) (by omega) ?_
 intro h2 bt
 have kT:=bt.nx
 have kU:=bt.lo
 have g1:=(bt.get _ (by omega)).trans g1
 have g3:=(bt.get _ (by omega)).trans g3
 have uv:=(hq.le aK).le bt
 rcases jL Q id with ⟨e,e2⟩ | ⟨i,p,e,hi,Yw,e2⟩
 ·rw[e]
  rw[e2] at hk
  simp(disch:=first|omega|simp only[Wd]<;>omega|rfl)only[Wz,dN,cq (show (-1:Int)<0 by decide),g3]
  exact hk _ ((aK.trans bt).set (b:=h.nx+1) (by omega) _)
 ·rw[e]
  rw[e2] at hk
  obtain ⟨b,o,hb,fJ,eX⟩:=xM uv i hi
  simp(disch:=first|omega|simp only[Wd]<;>omega|rfl)only[Wz,dN,bP (show (0:Int)≤(i:Int) by omega),g1,fJ,eX,bq,g3]
  exact hk _ ((aK.trans bt).set (b:=h.nx+1) (by omega) _)
theorem Ap (m:Int) {h:Heap} {κ:Value→Heap→Prop} (hk:κ (.bool (aZ m)) h):CallW Tryz.prog 123 [.int .i64 m] h κ:=by
 refine an mixed ?_
 rw[Vv]
 by_cases h0:m=0
 ·have:aZ m=false:=by unfold aZ; simp[h0]
  rw[this] at hk
  simp(disch:=first|omega|simp only[Wd]<;>omega|rfl)only[Wz,a_ h0]
  exact hk
 ·simp(disch:=first|omega|simp only[Wd]<;>omega|rfl)only[Wz,aN h0]
  refine oW m ?_
  have:aZ m=kn m:=by unfold aZ; simp[h0]
  rw[this] at hk
  exact hk
theorem Xe (t r:Int) (q:Value) (w id x m:Int) (Q:List R5) (h:Heap) (κ:KQ) (hq:Sl bq h q Q) (hlen:Q.length≤10000) (hlo:h.lo≤h.nx) (hw:0≤w∧w≤1000000) (hid:0≤id) (hm:aZ m=true) (hn:∀p∈Q,p.id≠id∧p.x≠x)
  (hk:∀q' h',iV h h' q' (Q++[(dI Q w id x m).1])→Le h h'→κ (.tuple ⟨[ef t r q' (dI Q w id x m).2.1,.bool (dI Q w id x m).2.2,.int .i64 0]⟩) h') :
  CallW Tryz.prog 87 [ef t r q w,.int .i64 id,.int .i64 x,.int .i64 m] h κ:=by
 have um:=hq
 obtain ⟨qx,qc,rfl,_⟩:=um
 refine an mixed ?_
 rw[aaA]
 simp(disch:=first|omega|simp only[Wd]<;>omega|rfl)only[Wz,ef]
 obtain ⟨hA,az⟩:∃hA:Heap,hA=⟨h.nx+1+1,((h.bl.aY (h.nx) (aa [.int .i64 t,.int .i64 r,.slice qx Q.length qc,.int .i64 w] 81 false)).aY (h.nx+1) (aa [.int .i64 0,.int .i64 0,.slice none 0 0,.int .i64 0] 81 false)),h.lo⟩:=⟨_,rfl⟩
 have aK:Le h hA:=by subst az; exact (((Le.refl h).new _).new _)
 have g1:hA.bl.get (h.nx)=some (aa [.int .i64 t,.int .i64 r,.slice qx Q.length qc,.int .i64 w] 81 false):=by subst az; exact (T.ai _ _ (by omega)).trans (T.af _ _ _)
 have g3:hA.bl.get (h.nx+1)=some (aa [.int .i64 0,.int .i64 0,.slice none 0 0,.int .i64 0] 81 false):=by subst az; exact T.af _ _ _
 have d_:hA.nx=h.nx+1+1:=by subst az; rfl
 have ee:hA.lo=h.lo:=by subst az; rfl
 rw[←az]
 clear az
 have s6:=hq.le aK
 refine Ap m ?_
 rw[hm]
 simp(disch:=first|omega|simp only[Wd]<;>omega|rfl)only[Wz]
 refine ⟨fun n l h1=>∃i:Nat,slot l 28=.int .i64 (i:Int)∧i≤Q.length∧n=Q.length-i∧HQ hA h1,⟨_,0,rfl,Nat.zero_le _,rfl,rfl⟩,?_⟩
 rintro n l h1 ⟨i,s1,hi,rfl,hle⟩
 cases (show hA=h1 from hle)
 by_cases hlt:i<Q.length
 ·obtain ⟨p,hp⟩:∃p,Q[i]? = some p:=⟨_,List.getElem?_eq_getElem hlt⟩
  obtain ⟨b,o,hb,fJ,eX⟩:=xM s6 i hp
  have hnp:=hn p (List.mem_of_getElem? hp)
  simp(disch:=first|omega|simp only[Wd]<;>omega|rfl)only[Wz,BV,s1,g1,cq (show (i:Int)<(Q.length:Int) by omega),Je,fJ,eX,aN hnp.1,aN hnp.2]
  exact ⟨_,by omega,i+1,rfl,by omega,rfl,rfl⟩
 have hil:i=Q.length:=by omega
 subst hil
 simp(disch:=first|omega|simp only[Wd]<;>omega|rfl)only[Wz,BV,s1,g1,bP (show (Q.length:Int)≤(Q.length:Int) by omega),Jf]
 refine qi t r _ w Q hA _ s6 (by omega) (by omega) ?_
 intro q2 h2 mo bt
 have kT:=bt.nx
 have kU:=bt.lo
 have g1:=(bt.get _ (by omega)).trans g1
 have g3:=(bt.get _ (by omega)).trans g3
 obtain ⟨fu,fD,rfl,_⟩:=mo.sl
 simp(disch:=first|omega|simp only[Wd]<;>omega|rfl)only[Wz,ef,g1]
 obtain ⟨hB,bK⟩:∃hB:Heap,hB=⟨h2.nx+1,(h2.bl.aY (h2.nx) (aa [.int .i64 t,.int .i64 r,.slice fu Q.length fD,.int .i64 w] 81 false)),h2.lo⟩:=⟨_,rfl⟩
 have bG:Le h2 hB:=by subst bK; exact ((Le.refl h2).new _)
 have g5:hB.bl.get (h2.nx)=some (aa [.int .i64 t,.int .i64 r,.slice fu Q.length fD,.int .i64 w] 81 false):=by subst bK; exact T.af _ _ _
 have rz:hB.nx=h2.nx+1:=by subst bK; rfl
 have rA:hB.lo=h2.lo:=by subst bK; rfl
 rw[←bK]
 clear bK
 have nI:=bG.nx
 have nJ:=bG.lo
 have g1:=(bG.get _ (by omega)).trans g1
 have g3:=(bG.get _ (by omega)).trans g3
 refine Oh t r _ w Q hB _ ((s6.le bt).le bG) (by omega) (by omega) ?_
 intro h3 c9
 have TK:=c9.nx
 have TL:=c9.lo
 have g1:=(c9.get _ (by omega)).trans g1
 have g3:=(c9.get _ (by omega)).trans g3
 have g5:=(c9.get _ (by omega)).trans g5
 have hq3:=((s6.le bt).le bG).le c9
 have og:=(mo.le bG).le c9
 have lg:=((aK.trans bt).trans bG).trans c9
 have agC:∀hh,Le h3 hh→dI Q w id x m=(⟨id,x,m,m,0⟩,w,true)→BT h2.nx (.int .i64 id) (.int .i64 x) (.int .i64 m) (h.nx+1) hh κ:=by
  intro hh KG ea
  rw[ea] at hk
  have abT:=KG.nx
  have abU:=KG.lo
  have g3:=(KG.get _ (by omega)).trans g3
  have g5:=(KG.get _ (by omega)).trans g5
  simp(disch:=first|omega|simp only[Wd]<;>omega|rfl)only[Wz,BT,g5]
  obtain ⟨hC,tX⟩:∃hC:Heap,hC=⟨hh.nx+1,(hh.bl.aY (hh.nx) (aa [.int .i64 id,.int .i64 x,.int .i64 m,.int .i64 m,.int .i64 0] 83 false)),hh.lo⟩:=⟨_,rfl⟩
  have nT:Le hh hC:=by subst tX; exact ((Le.refl hh).new _)
  have gC:hC.bl.get (hh.nx)=some (aa [.int .i64 id,.int .i64 x,.int .i64 m,.int .i64 m,.int .i64 0] 83 false):=by subst tX; exact T.af _ _ _
  have agD:hC.nx=hh.nx+1:=by subst tX; rfl
  have agE:hC.lo=hh.lo:=by subst tX; rfl
  rw[←tX]
  clear tX
  have adJ:=nT.nx
  have adK:=nT.lo
  have g3:=(nT.get _ (by omega)).trans g3
  have g5:=(nT.get _ (by omega)).trans g5
  have PL:=(og.le KG).le nT
  refine cV (enc:=bq) (a:=hA) (L:=Q) (M:=[(⟨id,x,m,m,0⟩:R5)]) bz jG (by decide) (by decide) PL (Sl.new (L:=[(⟨id,x,m,m,0⟩:R5)]) (e:=83) (op:=false) (by omega) gC _) (((((bt.trans bG).trans c9).trans KG).trans nT)) (by simp; omega) (by omega) _ ?_
  intro v' h' ho' hle' _ hn2 hl' hsame
  have g5:=(hsame h2.nx (by omega) (by rw[g5]; exact aS)).trans g5
  have g3:=(hsame (h.nx+1) (by omega) (by rw[g3]; exact aS)).trans g3
  obtain ⟨Tu,Tv,rfl,_⟩:=ho'.sl
  simp(disch:=first|omega|simp only[Wd]<;>omega|rfl)only[Wz,g5,g3]
  refine hk _ _ ?_ ?_
  ·refine dh.base (dh.put (dh.put ho' (by rw[g5]; exact aS) _) ?_ _) (by omega)
   show (h'.bl.aY h2.nx _).get (h.nx+1)≠_
   rw[T.ai _ _ (by omega),g3]; exact aS
  ·exact ((aK.trans hle').set (b:=h2.nx) (by omega) _).set (b:=h.nx+1) (by omega) _
 have Xf:∀hh,Le h3 hh→dI Q w id x m=(⟨id,x,0,m,w+1⟩,w+1,false)→BU h2.nx (.int .i64 id) (.int .i64 x) (.int .i64 m) (h.nx+1) hh κ:=by
  intro hh KG ea
  rw[ea] at hk
  have abT:=KG.nx
  have abU:=KG.lo
  have g3:=(KG.get _ (by omega)).trans g3
  have g5:=(KG.get _ (by omega)).trans g5
  simp(disch:=first|omega|simp only[Wd]<;>omega|rfl)only[Wz,BU,g5]
  have bA:Le hA ⟨hh.nx,hh.bl.aY h2.nx (aa [.int .i64 t,.int .i64 r,.slice fu Q.length fD,.int .i64 (w+1)] 81 false),hh.lo⟩:=(((bt.trans bG).trans c9).trans KG).set (b:=h2.nx) (by omega) _
  have X9:iV hA ⟨hh.nx,hh.bl.aY h2.nx (aa [.int .i64 t,.int .i64 r,.slice fu Q.length fD,.int .i64 (w+1)] 81 false),hh.lo⟩ (.slice fu Q.length fD) Q:=dh.put (og.le KG) (by rw[g5]; exact aS) _
  obtain ⟨hC,eC⟩:∃hC:Heap,hC=⟨hh.nx+1,(hh.bl.aY h2.nx (aa [.int .i64 t,.int .i64 r,.slice fu Q.length fD,.int .i64 (w+1)] 81 false)).aY hh.nx (aa [.int .i64 id,.int .i64 x,.int .i64 0,.int .i64 m,.int .i64 (w+1)] 83 false),hh.lo⟩:=⟨_,rfl⟩
  have leC:Le hA hC:=by rw[eC]; exact bA.new _
  have PL:iV hA hC (.slice fu Q.length fD) Q:=by rw[eC]; exact X9.le ((Le.refl _).new _)
  have gC:hC.bl.get hh.nx=some (aa [.int .i64 id,.int .i64 x,.int .i64 0,.int .i64 m,.int .i64 (w+1)] 83 false):=by rw[eC]; exact T.af _ _ _
  have g5:hC.bl.get h2.nx=some (aa [.int .i64 t,.int .i64 r,.slice fu Q.length fD,.int .i64 (w+1)] 81 false):=by rw[eC]; exact (T.ai _ _ (by omega)).trans (T.af _ _ _)
  have g3:hC.bl.get (h.nx+1)=some (aa [.int .i64 0,.int .i64 0,.slice none 0 0,.int .i64 0] 81 false):=by rw[eC]; exact (T.ai _ _ (by omega)).trans ((T.ai _ _ (by omega)).trans g3)
  have nC:hC.nx=hh.nx+1:=by rw[eC]
  have lC:hC.lo=hh.lo:=by rw[eC]
  rw[←eC]
  clear eC
  refine cV (enc:=bq) (a:=hA) (L:=Q) (M:=[(⟨id,x,0,m,w+1⟩:R5)]) bz jG (by decide) (by decide) PL (Sl.new (L:=[(⟨id,x,0,m,w+1⟩:R5)]) (e:=83) (op:=false) (by omega) gC _) leC (by simp; omega) (by omega) _ ?_
  intro v' h' ho' hle' _ hn2 hl' hsame
  have g5:=(hsame h2.nx (by omega) (by rw[g5]; exact aS)).trans g5
  have g3:=(hsame (h.nx+1) (by omega) (by rw[g3]; exact aS)).trans g3
  obtain ⟨Tu,Tv,rfl,_⟩:=ho'.sl
  simp(disch:=first|omega|simp only[Wd]<;>omega|rfl)only[Wz,g5,g3]
  refine hk _ _ ?_ ?_
  ·refine dh.base (dh.put (dh.put ho' (by rw[g5]; exact aS) _) ?_ _) (by omega)
   show (h'.bl.aY h2.nx _).get (h.nx+1)≠_
   rw[T.ai _ _ (by omega),g3]; exact aS
  ·exact ((aK.trans hle').set (b:=h2.nx) (by omega) _).set (b:=h.nx+1) (by omega) _
 have uW:∀p∈Q,p.id≠id:=fun p hp=>(hn p hp).1
 have Yz:¬(cW Q=none∧ej Q ⟨id,x,0,m,0⟩=true)→dI Q w id x m=(⟨id,x,0,m,w+1⟩,w+1,false):=by
  intro hc
  unfold dI
  rw[if_neg (by rw[Bool.and_eq_true,decide_eq_true_eq]; exact hc)]
 cases hb:best Q Q.length with
 | some b=>
  have hf:cW Q≠none:=by rw[mT,hb]; simp
  simp(disch:=first|omega|simp only[Wd]<;>omega|rfl)only[Wz,dN,bP (show (0:Int)≤(b:Int) by omega)]
  exact Xf h3 (Le.refl _) (Yz fun h=>hf h.1)
 | none=>
  simp(disch:=first|omega|simp only[Wd]<;>omega|rfl)only[Wz,dN,cq (show (-1:Int)<0 by decide),g1]
  refine yd t r _ w Q h3 _ hq3 (by omega) (by omega) ?_
  intro h4 iw
  have abV:=iw.nx
  have abW:=iw.lo
  have g1:=(iw.get _ (by omega)).trans g1
  cases hw0:Q.findIdx? (fun r=>decide (r.m=0)) with
  | some b=>
   have hf:cW Q≠none:=by rw[mT,hb]; simp only; rw[hw0]; simp
   simp(disch:=first|omega|simp only[Wd]<;>omega|rfl)only[Wz,dN,bP (show (0:Int)≤(b:Int) by omega)]
   exact Xf h4 iw (Yz fun h=>hf h.1)
  | none=>
   have hf:cW Q=none:=by rw[mT,hb]; exact hw0
   simp(disch:=first|omega|simp only[Wd]<;>omega|rfl)only[Wz,dN,cq (show (-1:Int)<0 by decide),g1]
   refine B_ t r _ w m (-1) Q h4 _ (hq3.le iw) (by omega) (by omega) ?_
   intro h5 ji
   rw[Ol (x:=x) uW]
   cases hfit:ej Q ⟨id,x,0,m,0⟩ with
   | true=>
    simp(disch:=first|omega|simp only[Wd]<;>omega|rfl)only[Wz]
    refine agC h5 (iw.trans ji) ?_
    unfold dI
    rw[if_pos (by rw[hf,hfit]; rfl)]
   | false=>
    simp(disch:=first|omega|simp only[Wd]<;>omega|rfl)only[Wz]
    exact Xf h5 (iw.trans ji) (Yz fun h=>by rw[hfit] at h; exact absurd h.2 (by decide))
theorem abX:∀i,i<7→∀j,j<7→bF Tryz.prog 200 126 [.int .i64 (.ofNat i),.int .i64 (.ofNat j)] (.int .i64 (cU (.ofNat i) (.ofNat j)))=true:=by decide +kernel
theorem abY (n:Nat) (b:Int):bF Tryz.prog 200 126 [.int .i64 (.negSucc n),.int .i64 b] (.int .i64 0)=true:=by kernel_rfl
theorem abZ (n:Nat) (b:Int):bF Tryz.prog 200 126 [.int .i64 (.ofNat (n+7)),.int .i64 b] (.int .i64 0)=true:=by kernel_rfl
theorem ab0:∀i,i<7→∀n:Nat,bF Tryz.prog 200 126 [.int .i64 (.ofNat i),.int .i64 (.negSucc n)] (.int .i64 0)=true:=by
 refine seven ?_ ?_ ?_ ?_ ?_ ?_ ?_<;>intro n<;>kernel_rfl
theorem ab1:∀i,i<7→∀n:Nat,bF Tryz.prog 200 126 [.int .i64 (.ofNat i),.int .i64 (.ofNat (n+7))] (.int .i64 0)=true:=by
 refine seven ?_ ?_ ?_ ?_ ?_ ?_ ?_<;>intro n<;>kernel_rfl
theorem Xg (a b:Int) {h:Heap} {κ:Value→Heap→Prop} (hk:κ (.int .i64 (cU a b)) h):CallW Tryz.prog 126 [.int .i64 a,.int .i64 b] h κ:=
 mM mixed (F:=fun a b=>.int .i64 (cU a b)) abX (fun n b=>by rw[Bq (lZ n)]; exact abY n b) (fun n b=>by rw[Bq (l_ n)]; exact abZ n b) (fun i hi n=>by rw[Br (lZ n)]; exact ab0 i hi n) (fun i hi n=>by rw[Br (l_ n)]; exact ab1 i hi n) a b hk
set_option maxHeartbeats 1000000 in
theorem ye (t r:Int) (q:Value) (w d m:Int) (Q:List R5) (h:Heap) (κ:KQ) (hq:Sl bq h q Q) (hlen:Q.length≤10000) (hlo:h.lo≤h.nx) (hw:0≤w∧w≤1000000) (hp:Q.Pairwise iC)
  (hk2:aZ m=false→∀h',Le h h'→κ (.tuple ⟨[ef 0 0 (.slice none 0 0) 0,.bool false,.int .i64 2]⟩) h')
  (EK:aZ m=true→bJ Q d=none→∀h',Le h h'→κ (.tuple ⟨[ef 0 0 (.slice none 0 0) 0,.bool false,.int .i64 5]⟩) h')
  (Rb:aZ m=true→∀p,bJ Q d=some p→0<p.s→∀h',Le h h'→κ (.tuple ⟨[ef 0 0 (.slice none 0 0) 0,.bool false,.int .i64 7]⟩) h')
  (ig:aZ m=true→∀i p,Q[i]? = some p→bJ Q d=some p→¬0<p.s→∀q' h',iV h h' q' (Q.set i (dP Q w p m).1)→Le h h'→κ (.tuple ⟨[ef t r q' (dP Q w p m).2.1,.bool (dP Q w p m).2.2,.int .i64 0]⟩) h') :
  CallW Tryz.prog 83 [ef t r q w,.int .i64 d,.int .i64 m] h κ:=by
 have um:=hq
 obtain ⟨qx,qc,rfl,_⟩:=um
 refine an mixed ?_
 rw[aat]
 simp(disch:=first|omega|simp only[Wd]<;>omega|rfl)only[Wz,ef]
 obtain ⟨hA,az⟩:∃hA:Heap,hA=⟨h.nx+1+1,((h.bl.aY (h.nx) (aa [.int .i64 t,.int .i64 r,.slice qx Q.length qc,.int .i64 w] 81 false)).aY (h.nx+1) (aa [.int .i64 0,.int .i64 0,.slice none 0 0,.int .i64 0] 81 false)),h.lo⟩:=⟨_,rfl⟩
 have aK:Le h hA:=by subst az; exact (((Le.refl h).new _).new _)
 have g1:hA.bl.get (h.nx)=some (aa [.int .i64 t,.int .i64 r,.slice qx Q.length qc,.int .i64 w] 81 false):=by subst az; exact (T.ai _ _ (by omega)).trans (T.af _ _ _)
 have g3:hA.bl.get (h.nx+1)=some (aa [.int .i64 0,.int .i64 0,.slice none 0 0,.int .i64 0] 81 false):=by subst az; exact T.af _ _ _
 have d_:hA.nx=h.nx+1+1:=by subst az; rfl
 have ee:hA.lo=h.lo:=by subst az; rfl
 rw[←az]
 clear az
 have s6:=hq.le aK
 refine Ap m ?_
 cases ha:aZ m with
 | false=>
  simp(disch:=first|omega|simp only[Wd]<;>omega|rfl)only[Wz,g3]
  exact hk2 ha _ (aK.set (b:=h.nx+1) (by omega) _)
 | true=>
 simp(disch:=first|omega|simp only[Wd]<;>omega|rfl)only[Wz,Jd,g1]
 refine Om t r _ w d Q hA _ s6 (by omega) (by omega) ?_
 intro h1 bA
 have Aq:=bA.nx
 have Ar:=bA.lo
 have g1:=(bA.get _ (by omega)).trans g1
 have g3:=(bA.get _ (by omega)).trans g3
 have hq1:=s6.le bA
 rcases jL Q d with ⟨e,e2⟩ | ⟨i,p,e,hi,Yw,e2⟩
 ·rw[e]
  simp(disch:=first|omega|simp only[Wd]<;>omega|rfl)only[Wz,dN,cq (show (-1:Int)<0 by decide),g3]
  exact EK ha e2 _ ((aK.trans bA).set (b:=h.nx+1) (by omega) _)
 rw[e]
 obtain ⟨b,o,hb,fJ,eX⟩:=xM hq1 i hi
 simp(disch:=first|omega|simp only[Wd]<;>omega|rfl)only[Wz,dN,bP (show (0:Int)≤(i:Int) by omega),Jc,g1,fJ,eX]
 refine EO p ?_
 by_cases hs:0<p.s
 ·simp(disch:=first|omega|simp only[Wd]<;>omega|rfl)only[Wz,a_ hs,g3]
  exact Rb ha p e2 hs _ ((aK.trans bA).set (b:=h.nx+1) (by omega) _)
 simp(disch:=first|omega|simp only[Wd]<;>omega|rfl)only[Wz,aN hs,Jb,g1]
 refine qi t r _ w Q h1 _ hq1 (by omega) (by omega) ?_
 intro q2 h2 mo bt
 have kT:=bt.nx
 have kU:=bt.lo
 have g1:=(bt.get _ (by omega)).trans g1
 have g3:=(bt.get _ (by omega)).trans g3
 obtain ⟨fu,fD,rfl,_⟩:=mo.sl
 obtain ⟨b',o',hb',Ny,Nz⟩:=xM (hq1.le bt) i hi
 simp(disch:=first|omega|simp only[Wd]<;>omega|rfl)only[Wz,ef,g1,Ny,Nz]
 obtain ⟨hB,bK⟩:∃hB:Heap,hB=⟨h2.nx+1,(h2.bl.aY (h2.nx) (aa [.int .i64 t,.int .i64 r,.slice fu Q.length fD,.int .i64 w] 81 false)),h2.lo⟩:=⟨_,rfl⟩
 have bG:Le h2 hB:=by subst bK; exact ((Le.refl h2).new _)
 have g5:hB.bl.get (h2.nx)=some (aa [.int .i64 t,.int .i64 r,.slice fu Q.length fD,.int .i64 w] 81 false):=by subst bK; exact T.af _ _ _
 have rz:hB.nx=h2.nx+1:=by subst bK; rfl
 have rA:hB.lo=h2.lo:=by subst bK; rfl
 rw[←bK]
 clear bK
 have nI:=bG.nx
 have nJ:=bG.lo
 have g1:=(bG.get _ (by omega)).trans g1
 have g3:=(bG.get _ (by omega)).trans g3
 obtain ⟨wt,Jm⟩:∃wt,cU p.m m=wt:=⟨_,rfl⟩
 have FE:=mo.le bG
 have hqB:=(hq1.le bt).le bG
 refine Xg _ _ ?_
 rw[Jm]
 rcases FE with ⟨rfl,_⟩ | ⟨bo,e1,k1,k2,k3,k4⟩
 ·simp at hi
 cases e1
 have hil:i<Q.length:=(List.getElem?_eq_some_iff.1 hi).1
 have hfl:=aX (enc:=bq) bz Q
 obtain ⟨p1,Lu⟩:∃p1:R5,p1=⟨p.id,p.x,p.m,wt,p.s⟩:=⟨_,rfl⟩
 have Ah:=dJ (p':=p1) (ws:=[.int .i64 wt]) (j:=3) bz hi (by show 3+1≤5; omega) (by rw[Lu]; rfl)
 have hp2:(Q.set i p1)[i]? = some p1:=by rw[List.getElem?_set,if_pos rfl,if_pos hil]
 have WY:((Q.set i p1).flatMap bq).length=Q.length*5:=by rw[aX bz,List.length_set]
 have uT:bo≠h2.nx:=by rintro rfl; rw[g5] at k4; exact aS k4
 have n_:bo≠h.nx+1:=by rintro rfl; rw[g3] at k4; exact aS k4
 have agF:bo≠h.nx:=by rintro rfl; rw[g1] at k4; exact aS k4
 simp(disch:=first|omega|simp only[Wd]<;>omega|rfl)only[Wz,g5,aW,k4,Ah,g1]
 obtain ⟨hC,eC⟩:∃hC:Heap,hC=⟨hB.nx,hB.bl.aY bo (aa ((Q.set i p1).flatMap bq) 83 true),hB.lo⟩:=⟨_,rfl⟩
 have leC:Le h1 hC:=by rw[eC]; exact (bt.trans bG).set k1 _
 have nC:hC.nx=hB.nx:=by rw[eC]
 have lC:hC.lo=hB.lo:=by rw[eC]
 have gC:hC.bl.get bo=some (aa ((Q.set i p1).flatMap bq) 83 true):=by rw[eC]; exact T.af _ _ _
 have g1:hC.bl.get h.nx=some (aa [.int .i64 t,.int .i64 r,.slice qx Q.length qc,.int .i64 w] 81 false):=by rw[eC]; exact (T.ai _ _ agF).trans g1
 have g3:hC.bl.get (h.nx+1)=some (aa [.int .i64 0,.int .i64 0,.slice none 0 0,.int .i64 0] 81 false):=by rw[eC]; exact (T.ai _ _ n_).trans g3
 have g5:hC.bl.get h2.nx=some (aa [.int .i64 t,.int .i64 r,.slice (some ⟨bo,0,none⟩) Q.length aO,.int .i64 w] 81 false):=by rw[eC]; exact (T.ai _ _ uT).trans g5
 rw[←eC]
 clear eC
 have YA:=hq1.le leC
 have KH:=(aK.trans bA).trans leC
 have NK:∀(hD:Heap),Le hC hD→dP Q w p m=(⟨p.id,p.x,wt,wt,p.s⟩,w,true)→BQ h2.nx (.int .i64 (i:Int)) (.int .i64 wt) (h.nx+1) hD κ:=by
  intro hD KI he
  have ab2:=KI.nx
  have ab3:=KI.lo
  have gC:=(KI.get _ (by omega)).trans gC
  have g3:=(KI.get _ (by omega)).trans g3
  have g5:=(KI.get _ (by omega)).trans g5
  have key:=ig ha i p hi e2 hs
  rw[he] at key
  have o_:=dJ (p':=⟨p.id,p.x,wt,wt,p.s⟩) (ws:=[.int .i64 wt]) (j:=2) bz hp2 (by show 2+1≤5; omega) (by rw[Lu]; rfl)
  rw[List.set_set] at o_
  simp(disch:=first|omega|simp only[Wd]<;>omega|rfl)only[Wz,BQ,g5,aW,gC,o_,g3]
  refine key _ _ (.inr ⟨bo,by rw[List.length_set],by omega,by show bo<hD.nx; omega,by show hD.lo≤bo; omega,?_⟩) ?_
  ·exact (T.ai _ _ (fun e=>n_ e.symm)).trans (T.af _ _ _)
  ·exact ((KH.trans KI).set (b:=bo) (by omega) _).set (b:=h.nx+1) (by omega) _
 have NL:∀(hD:Heap),Le hC hD→dP Q w p m=(⟨p.id,p.x,p.m,wt,w+1⟩,w+1,false)→BR h2.nx (.int .i64 (i:Int)) (h.nx+1) hD κ:=by
  intro hD KI he
  have ab2:=KI.nx
  have ab3:=KI.lo
  have gC:=(KI.get _ (by omega)).trans gC
  have g3:=(KI.get _ (by omega)).trans g3
  have g5:=(KI.get _ (by omega)).trans g5
  have key:=ig ha i p hi e2 hs
  rw[he] at key
  have o_:=dJ (p':=⟨p.id,p.x,p.m,wt,w+1⟩) (ws:=[.int .i64 (w+1)]) (j:=4) bz hp2 (by show 4+1≤5; omega) (by rw[Lu]; rfl)
  rw[List.set_set] at o_
  simp(disch:=first|omega|simp only[Wd]<;>omega|rfl)only[Wz,BR,g5,aW,gC,o_,g3]
  refine key _ _ (.inr ⟨bo,by rw[List.length_set],by omega,by show bo<hD.nx; omega,by show hD.lo≤bo; omega,?_⟩) ?_
  ·exact (T.ai _ _ (fun e=>n_ e.symm)).trans (T.af _ _ _)
  ·exact (((KH.trans KI).set (b:=h2.nx) (by omega) _).set (b:=bo) (by omega) _).set (b:=h.nx+1) (by omega) _
 obtain ⟨b3,o3,hb3,ab4,ab5⟩:=xM YA i hi
 have Yz:¬(ej Q ⟨p.id,p.x,p.m,wt,p.s⟩=true∧Q.any nQ=false)→wt≠p.m→dP Q w p m=(⟨p.id,p.x,p.m,wt,w+1⟩,w+1,false):=by
  intro hc hne
  unfold dP
  rw[Jm,if_neg]
  rw[Bool.or_eq_true,decide_eq_true_eq,Bool.and_eq_true,Bool.not_eq_true']
  rintro (h | h)
  ·exact hne h
  ·exact hc h
 by_cases hq1:wt=p.m
 ·simp(disch:=first|omega|simp only[Wd]<;>omega|rfl)only[Wz,ab4,ab5,a_ hq1]
  exact NK hC (Le.refl _) (by unfold dP; rw[Jm,if_pos (by simp[hq1])])
 simp(disch:=first|omega|simp only[Wd]<;>omega|rfl)only[Wz,ab4,ab5,aN hq1,g1]
 refine B_ t r _ w wt i Q hC _ YA (by omega) (by omega) ?_
 intro h4 iw
 have abV:=iw.nx
 have abW:=iw.lo
 have g1:=(iw.get _ (by omega)).trans g1
 rw[Oj hp hi]
 cases hft:ej Q ⟨p.id,p.x,p.m,wt,p.s⟩ with
 | false=>
  simp(disch:=first|omega|simp only[Wd]<;>omega|rfl)only[Wz]
  exact NL h4 iw (Yz (fun h=>by rw[hft] at h; exact absurd h.1 (by decide)) hq1)
 | true=>
  simp(disch:=first|omega|simp only[Wd]<;>omega|rfl)only[Wz,g1]
  refine Oh t r _ w Q h4 _ (YA.le iw) (by omega) (by omega) ?_
  intro h5 ji
  cases hb:best Q Q.length with
  | some b9=>
   have FX:Q.any nQ=true:=ES.2 ⟨b9,hb⟩
   simp(disch:=first|omega|simp only[Wd]<;>omega|rfl)only[Wz,dN,bP (show (0:Int)≤(b9:Int) by omega)]
   exact NL h5 (iw.trans ji) (Yz (fun h=>by rw[FX] at h; exact absurd h.2 (by decide)) hq1)
  | none=>
   have FX:Q.any nQ=false:=by
    cases ha:Q.any nQ with
    | false=>rfl
    | true=>obtain ⟨b,hb'⟩:=ES.1 ha; rw[hb] at hb'; cases hb'
   simp(disch:=first|omega|simp only[Wd]<;>omega|rfl)only[Wz,dN,cq (show (-1:Int)<0 by decide)]
   refine NK h5 (iw.trans ji) ?_
   unfold dP
   rw[Jm,if_pos]
   rw[hft,FX]; simp
theorem GN (t r:Int) (q:Value) (w:Int) (i:Nat) (Q:List R5) (a h:Heap) (κ:KQ) (hq:iV a h q Q) (hlen:Q.length≤10000) (hlo:h.lo≤h.nx) (hil:i<Q.length)
  (hk:∀q' h',QV h' q' (Q.take i++Q.drop (i+1))→Le h h'→κ (ef t r q' w) h') :
  CallW Tryz.prog 120 [ef t r q w,.int .i64 (i:Int)] h κ:=by
 obtain ⟨qx,qc,rfl,_⟩:=hq.sl
 refine an mixed ?_
 rw[Vs]
 simp(disch:=first|omega|simp only[Wd]<;>omega|rfl)only[Wz,ef]
 obtain ⟨hA,az⟩:∃hA:Heap,hA=⟨h.nx+1+1,((h.bl.aY (h.nx) (aa [.int .i64 t,.int .i64 r,.slice qx Q.length qc,.int .i64 w] 81 false)).aY (h.nx+1) (aa [.int .i64 0,.int .i64 0,.slice none 0 0,.int .i64 0] 81 false)),h.lo⟩:=⟨_,rfl⟩
 have aK:Le h hA:=by subst az; exact (((Le.refl h).new _).new _)
 have g1:hA.bl.get (h.nx)=some (aa [.int .i64 t,.int .i64 r,.slice qx Q.length qc,.int .i64 w] 81 false):=by subst az; exact (T.ai _ _ (by omega)).trans (T.af _ _ _)
 have g3:hA.bl.get (h.nx+1)=some (aa [.int .i64 0,.int .i64 0,.slice none 0 0,.int .i64 0] 81 false):=by subst az; exact T.af _ _ _
 have d_:hA.nx=h.nx+1+1:=by subst az; rfl
 have ee:hA.lo=h.lo:=by subst az; rfl
 rw[←az]
 clear az
 have s6:=hq.le aK
 refine qi t r _ w Q hA _ s6.sl (by omega) (by omega) ?_
 intro q2 h2 mo bt
 have kT:=bt.nx
 have kU:=bt.lo
 have g1:=(bt.get _ (by omega)).trans g1
 have g3:=(bt.get _ (by omega)).trans g3
 have uv:=s6.le bt
 rcases mo with ⟨rfl,_⟩ | ⟨bo,rfl,k1,k2,k3,k4⟩
 ·simp at hil
 have hfl:=aX (enc:=bq) bz Q
 obtain ⟨hB,eB⟩:∃hB:Heap,hB=⟨h2.nx+1,h2.bl.aY h2.nx (aa [.int .i64 t,.int .i64 r,.slice (some ⟨bo,0,none⟩) Q.length aO,.int .i64 w] 81 false),h2.lo⟩:=⟨_,rfl⟩
 have NT:Le h2 hB:=by rw[eB]; exact (Le.refl h2).new _
 have g5:hB.bl.get h2.nx=some (aa [.int .i64 t,.int .i64 r,.slice (some ⟨bo,0,none⟩) Q.length aO,.int .i64 w] 81 false):=by rw[eB]; exact T.af _ _ _
 have nB:hB.nx=h2.nx+1:=by rw[eB]
 have lB:hB.lo=h2.lo:=by rw[eB]
 have k4:=(NT.get _ k2).trans k4
 have g1:=(NT.get _ (by omega)).trans g1
 have g3:=(NT.get _ (by omega)).trans g3
 have e0:∀{β:Type} {fl:β} (κ:Value→Heap→β),sliceB fl 83 5 (.slice (some ⟨bo,0,none⟩) Q.length aO) none (some (.int .i64 (i:Int))) none hB κ=κ (.slice (some ⟨bo,0,none⟩) i aO) hB:=fun κ=>r7 (by decide) k4 hfl (by omega) (by omega) κ
 obtain ⟨u,hu,eu⟩:=(uv.le NT).tail bz (by decide) (i+1) (by omega)
 have ei:(i:Int)+1=((i+1:Nat):Int):=by omega
 simp(disch:=first|omega|simp only[Wd]<;>omega|rfl)only[Wz,ef]
 rw[←eB]
 simp(disch:=first|omega|simp only[Wd]<;>omega|rfl)only[Wz,g5,g1,e0,ei,eu]
 clear eB
 have hML:(Q.drop (i+1)).length=Q.length-(i+1):=List.length_drop
 have hT:(Q.take i).length=i:=by rw[List.length_take]; omega
 obtain ⟨M,eM⟩:∃M,Q.drop (i+1)=M:=⟨_,rfl⟩
 rw[eM] at hu hML hk
 have uT:bo≠h2.nx:=by omega
 have n_:bo≠h.nx+1:=by omega
 have EY:=(aK.trans bt).trans NT
 by_cases hM:M=[]
 ·rw[append_nil (α:=R5) (enc:=bq) (by rw[hM] at hu; exact hu) ⟨_,_,_,rfl⟩]
  simp(disch:=first|omega|simp only[Wd]<;>omega|rfl)only[Wz,g5,g3]
  refine hk _ _ ?_ ((EY.set (b:=h2.nx) (by omega) _).set (b:=h.nx+1) (by omega) _)
  have ty:((hB.bl.aY h2.nx (aa [.int .i64 t,.int .i64 r,.slice (some ⟨bo,0,none⟩) i aO,.int .i64 w] 81 false)).aY (h.nx+1) (aa [.int .i64 t,.int .i64 r,.slice (some ⟨bo,0,none⟩) i aO,.int .i64 w] 81 false)).get bo=some (aa (Q.flatMap bq) 83 true):=
   (T.ai _ _ (fun e=>n_ e.symm)).trans ((T.ai _ _ (fun e=>uT e.symm)).trans k4)
  refine ⟨?_,fun b' o' n' c' hv _=>by cases hv; exact ⟨by show bo<hB.nx; omega,_,_,ty⟩⟩
  refine ⟨_,aO,by rw[hM,List.append_nil,hT],fun _=>⟨bo,0,rfl,by show bo<hB.nx; omega,?_⟩⟩
  show Has (((hB.bl.aY h2.nx _).aY (h.nx+1) _).get bo) 0 _
  rw[T.ai _ _ (fun e=>n_ e.symm),T.ai _ _ (fun e=>uT e.symm),k4,hM,List.append_nil,←rG bz]
  have:=Has.cells (vs:=Q.flatMap bq) (e:=83) (op:=true) (o:=0) (k:=i*5) (by omega)
  rw[List.drop_zero] at this
  exact this
 ·refine Ca (enc:=bq) (vs:=Q.flatMap bq) bz jG hu hM k4 (by omega) (by rw[hfl,hML]; omega) (by omega) _ ?_
  simp(disch:=first|omega|simp only[Wd]<;>omega|rfl)only[Wz,g5,g3]
  refine hk _ _ ?_ (((EY.set (b:=bo) (by omega) _).set (b:=h2.nx) (by omega) _).set (b:=h.nx+1) (by omega) _)
  have ty:∀o1 o2,(((hB.bl.aY bo (aa (over (Q.flatMap bq) (i*5) (M.flatMap bq)) 83 true)).aY h2.nx o1).aY (h.nx+1) o2).get bo=some (aa (over (Q.flatMap bq) (i*5) (M.flatMap bq)) 83 true):=
   fun o1 o2=>(T.ai _ _ (fun e=>n_ e.symm)).trans ((T.ai _ _ (fun e=>uT e.symm)).trans (T.af _ _ _))
  refine ⟨?_,fun b' o' n' c' hv _=>by cases hv; exact ⟨by show bo<hB.nx; omega,_,_,ty _ _⟩⟩
  refine ⟨_,aO,by rw[List.length_append,hT],fun _=>⟨bo,0,rfl,by show bo<hB.nx; omega,?_⟩⟩
  show Has ((((hB.bl.aY bo _).aY h2.nx _).aY (h.nx+1) _).get bo) 0 _
  rw[T.ai _ _ (fun e=>n_ e.symm),T.ai _ _ (fun e=>uT e.symm),T.af]
  have hfm:=aX (enc:=bq) bz M
  have hol:(over (Q.flatMap bq) (i*5) (M.flatMap bq)).length=Q.length*5:=by rw[jD (by rw[hfm,hfl]; omega),hfl]
  have:=Has.cells (vs:=over (Q.flatMap bq) (i*5) (M.flatMap bq)) (e:=83) (op:=true) (o:=0) (k:=(i+M.length)*5) (by rw[hol,hML]; omega)
  rw[List.drop_zero] at this
  have e9:(over (Q.flatMap bq) (i*5) (M.flatMap bq)).take ((i+M.length)*5)=(Q.take i++M).flatMap bq:=by
   unfold over
   rw[rG bz,List.take_append_of_le_length (by rw[List.length_append,aX bz,aX bz,hT]; omega),List.take_of_length_le (by rw[List.length_append,aX bz,aX bz,hT]; omega),List.flatMap_append]
  rw[e9] at this
  exact this
theorem Oo (t r:Int) (q:Value) (w d:Int) (Q:List R5) (a h:Heap) (κ:KQ) (hq:iV a h q Q) (hlen:Q.length≤10000) (hlo:h.lo≤h.nx) (hp:Q.Pairwise iC) {i:Nat} {p:R5} (hi:Q[i]? = some p) (hid:p.id=d)
  (hk:∀q' h',QV h' q' (Q.filter fun r=>!bD d r)→Le h h'→κ (.tuple ⟨[ef t r q' w,.int .i64 0]⟩) h') :
  CallW Tryz.prog 80 [ef t r q w,.int .i64 d] h κ:=by
 obtain ⟨qx,qc,rfl,_⟩:=hq.sl
 have hil:i<Q.length:=(List.getElem?_eq_some_iff.1 hi).1
 refine an mixed ?_
 rw[aap]
 simp(disch:=first|omega|simp only[Wd]<;>omega|rfl)only[Wz,ef]
 obtain ⟨hA,az⟩:∃hA:Heap,hA=⟨h.nx+1+1,((h.bl.aY (h.nx) (aa [.int .i64 t,.int .i64 r,.slice qx Q.length qc,.int .i64 w] 81 false)).aY (h.nx+1) (aa [.int .i64 0,.int .i64 0,.slice none 0 0,.int .i64 0] 81 false)),h.lo⟩:=⟨_,rfl⟩
 have aK:Le h hA:=by subst az; exact (((Le.refl h).new _).new _)
 have g1:hA.bl.get (h.nx)=some (aa [.int .i64 t,.int .i64 r,.slice qx Q.length qc,.int .i64 w] 81 false):=by subst az; exact (T.ai _ _ (by omega)).trans (T.af _ _ _)
 have g3:hA.bl.get (h.nx+1)=some (aa [.int .i64 0,.int .i64 0,.slice none 0 0,.int .i64 0] 81 false):=by subst az; exact T.af _ _ _
 have d_:hA.nx=h.nx+1+1:=by subst az; rfl
 have ee:hA.lo=h.lo:=by subst az; rfl
 rw[←az]
 clear az
 have s6:=hq.le aK
 refine Om t r _ w d Q hA _ s6.sl (by omega) (by omega) ?_
 intro h1 bA
 have Aq:=bA.nx
 have Ar:=bA.lo
 have g1:=(bA.get _ (by omega)).trans g1
 have g3:=(bA.get _ (by omega)).trans g3
 have ab6:Q.findIdx? (bD d)=some i:=by
  refine rF hi (show bD d p=true from a_ hid) fun j o hj ho=>?_
  exact aN fun e=>by have:=wR hp ho hi (e.trans hid.symm); omega
 rw[ab6]
 simp(disch:=first|omega|simp only[Wd]<;>omega|rfl)only[Wz,dN,bP (show (0:Int)≤(i:Int) by omega),g1]
 refine GN t r _ w i Q a h1 _ (s6.le bA) hlen (by omega) hil ?_
 intro q2 h2 uv bt
 have kT:=bt.nx
 have kU:=bt.lo
 have g3:=(bt.get _ (by omega)).trans g3
 have HA:=uv.1
 obtain ⟨fu,fD,rfl,_⟩:=HA
 rw[←ET hp hi,hid] at uv
 simp(disch:=first|omega|simp only[Wd]<;>omega|rfl)only[Wz,ef,g3]
 have el:(List.take i Q++List.drop (i+1) Q).length=(Q.filter fun r=>!bD d r).length:=by rw[←hid,ET hp hi]
 rw[el]
 exact hk _ _ (uv.put (fun vs op=>by rw[g3]; exact aL (by decide)) _) (((aK.trans bA).trans bt).set (b:=h.nx+1) (by omega) _)
theorem Oq (t r:Int) (q:Value) (w:Int) (Q:List R5) (h:Heap) (κ:KQ) (hq:Sl bq h q Q) (hlen:Q.length≤10000) (hlo:h.lo≤h.nx) (vq:VQ Q w)
  (hk:∀q' v' h',iV h h' q' (cw (dO Q+1) Q).1→jM h h' v' (cw (dO Q+1) Q).2→Le h h'→κ (.tuple ⟨[ef t r q' w,v']⟩) h') :
  CallW Tryz.prog 122 [ef t r q w] h κ:=by
 have um:=hq
 obtain ⟨qx,qc,rfl,_⟩:=um
 refine an mixed ?_
 rw[Vu]
 simp(disch:=first|omega|simp only[Wd]<;>omega|rfl)only[Wz,ef]
 obtain ⟨hA,az⟩:∃hA:Heap,hA=⟨h.nx+1+1,((h.bl.aY (h.nx) (aa [.int .i64 t,.int .i64 r,.slice qx Q.length qc,.int .i64 w] 81 false)).aY (h.nx+1) (aa [.int .i64 0,.int .i64 0,.slice none 0 0,.int .i64 0] 81 false)),h.lo⟩:=⟨_,rfl⟩
 have aK:Le h hA:=by subst az; exact (((Le.refl h).new _).new _)
 have g1:hA.bl.get (h.nx)=some (aa [.int .i64 t,.int .i64 r,.slice qx Q.length qc,.int .i64 w] 81 false):=by subst az; exact (T.ai _ _ (by omega)).trans (T.af _ _ _)
 have g3:hA.bl.get (h.nx+1)=some (aa [.int .i64 0,.int .i64 0,.slice none 0 0,.int .i64 0] 81 false):=by subst az; exact T.af _ _ _
 have d_:hA.nx=h.nx+1+1:=by subst az; rfl
 have ee:hA.lo=h.lo:=by subst az; rfl
 rw[←az]
 clear az
 refine qi t r _ w Q hA _ (hq.le aK) (by omega) (by omega) ?_
 intro q2 h2 mo hle2
 have B0:=hle2.nx
 have B1:=hle2.lo
 have g3:=(hle2.get _ (by omega)).trans g3
 obtain ⟨fu,fD,rfl,_⟩:=mo.sl
 simp(disch:=first|omega|simp only[Wd]<;>omega|rfl)only[Wz,ef]
 obtain ⟨hB,bK⟩:∃hB:Heap,hB=⟨h2.nx+1,(h2.bl.aY (h2.nx) (aa [.int .i64 t,.int .i64 r,.slice fu Q.length fD,.int .i64 w] 81 false)),h2.lo⟩:=⟨_,rfl⟩
 have bG:Le h2 hB:=by subst bK; exact ((Le.refl h2).new _)
 have g7:hB.bl.get (h2.nx)=some (aa [.int .i64 t,.int .i64 r,.slice fu Q.length fD,.int .i64 w] 81 false):=by subst bK; exact T.af _ _ _
 have rz:hB.nx=h2.nx+1:=by subst bK; rfl
 have rA:hB.lo=h2.lo:=by subst bK; rfl
 rw[←bK]
 clear bK
 have nI:=bG.nx
 have nJ:=bG.lo
 have g3:=(bG.get _ (by omega)).trans g3
 have FE:=mo.le bG
 have NF:Le h hB:=(aK.trans hle2).trans bG
 refine ⟨fun n l h1=>∃(K:List R5) (ids:List Int),VQ K w∧n=dO K+1∧cw (dO Q+1) Q=((cw (dO K+1) K).1,ids++(cw (dO K+1) K).2)∧K.length=Q.length∧ids.length+dO K≤dO Q∧
   jM h h1 (slot l 49) ids∧(iV hA h1 (.slice fu K.length fD) K)∧h1.bl.get (h.nx+1)=some (aa [.int .i64 0,.int .i64 0,.slice none 0 0,.int .i64 0] 81 false)∧h1.bl.get h2.nx=some (aa [.int .i64 t,.int .i64 r,.slice fu Q.length fD,.int .i64 w] 81 false)∧Le h h1∧hB.nx≤h1.nx,
  ⟨_,Q,[],vq,rfl,by simp,rfl,by simp,.inl ⟨rfl,.inl rfl⟩,FE,g3,g7,NF,Nat.le_refl _⟩,?_⟩
 rintro n l h3 ⟨K,ids,vk,rfl,hsc,Jk,YP,hoI,Kt,g3,g7,fk,n3⟩
 have l3:=fk.lo
 obtain ⟨vi,ei⟩:∃vi,slot l 49=vi:=⟨_,rfl⟩
 rw[ei] at hoI
 rw[Jk] at Kt
 have hcK:dO K≤K.length:=List.length_filter_le _ _
 have hcQ:dO Q≤Q.length:=List.length_filter_le _ _
 simp(disch:=first|omega|simp only[Wd]<;>omega|rfl)only[Wz,DQ,g7]
 refine Oh t r _ w K h3 _ Kt.sl (by omega) (by omega) ?_
 intro hx3 YB
 have aiX:=YB.nx
 have aiY:=YB.lo
 have g3:=(YB.get _ (by omega)).trans g3
 have g7:=(YB.get _ (by omega)).trans g7
 have ab7:=Kt.le YB
 refine ⟨fun l' h'=>slot l' 4=.int .i64 (dN (cW K))∧Le hx3 h',?_,?_⟩
 ·cases hb:best K K.length with
  | some b=>
   simp(disch:=first|omega|simp only[Wd]<;>omega|rfl)only[Wz,dN,bP (show (0:Int)≤(b:Int) by omega)]
   refine ⟨?_,Le.refl _⟩
   rw[mT,hb]
  | none=>
   simp(disch:=first|omega|simp only[Wd]<;>omega|rfl)only[Wz,dN,cq (show (-1:Int)<0 by decide),g7]
   refine yd t r _ w K hx3 _ ab7.sl (by omega) (by omega) ?_
   intro h4 iw
   refine ⟨?_,iw⟩
   rw[mT,hb]; rfl
 rintro l4 h4 ⟨s4,ja⟩
 have NC:=ja.nx
 have ND:=ja.lo
 have g3:=(ja.get _ (by omega)).trans g3
 have g7:=(ja.get _ (by omega)).trans g7
 have B3:=ab7.le ja
 have TM:=YB.trans ja
 have NG:=hoI.le TM
 have xP:=fk.trans TM
 have finish:∀h',h4.nx≤h'.nx→Le h h'→jM h h' vi ids→iV hA h' (.slice fu Q.length fD) K→h'.bl.get (h.nx+1)=some (aa [.int .i64 0,.int .i64 0,.slice none 0 0,.int .i64 0] 81 false)→oQ K→κ (.tuple ⟨[ef t r (.slice fu Q.length fD) w,vi]⟩) ⟨h'.nx,h'.bl.aY (h.nx+1) (aa [.int .i64 t,.int .i64 r,.slice fu Q.length fD,.int .i64 w] 81 false),h'.lo⟩:=by
  intro h' hn hl hi hr hg hst
  rw[ED hst] at hsc
  rw[hsc,List.append_nil] at hk
  exact hk _ _ _ (dh.put (dh.base hr (by omega)) (by rw[hg]; exact aS) _) (dh.put hi (by rw[hg]; exact aS) _) (hl.set (b:=h.nx+1) (by omega) _)
 cases hf:cW K with
 | none=>
  rw[hf] at s4
  simp(disch:=first|omega|simp only[Wd]<;>omega|rfl)only[Wz,w6,s4,dN,cq (show (-1:Int)<0 by decide),g7,g3,ei]
  exact finish h4 (Nat.le_refl _) xP NG B3 g3 (nK hf)
 | some i=>
  rw[hf] at s4
  obtain ⟨p,hp,_⟩:=nE hf
  obtain ⟨b,o,hb,fJ,eX⟩:=xM B3.sl i hp
  simp(disch:=first|omega|simp only[Wd]<;>omega|rfl)only[Wz,w6,s4,dN,bP (show (0:Int)≤(i:Int) by omega),g7,fJ,eX]
  refine B_ t r _ w p.w i K h4 _ B3.sl (by omega) (by omega) ?_
  intro h5 ir
  have WW:=ir.nx
  have WX:=ir.lo
  have g3:=(ir.get _ (by omega)).trans g3
  have g7:=(ir.get _ (by omega)).trans g7
  have NH:=B3.le ir
  have NI:=NG.le ir
  have uC:=xP.trans ir
  rw[Oi vk.pair hp]
  cases hfit:ej K p with
  | false=>
   simp(disch:=first|omega|simp only[Wd]<;>omega|rfl)only[Wz,g7,g3,ei]
   exact finish h5 (by omega) uC NI NH g3 (xQ hf hp hfit)
  | true=>
   rcases NH with ⟨rfl,_⟩ | ⟨bo,e1,k1,k2,k3,k4⟩
   ·simp at hp
   rw[Jk] at e1
   cases e1
   have hil:i<K.length:=(List.getElem?_eq_some_iff.1 hp).1
   have hfl:=aX (enc:=bq) bz K
   have WY:((K.set i ⟨p.id,p.x,p.w,p.w,p.s⟩).flatMap bq).length=K.length*5:=by rw[aX bz,List.length_set]
   have Ah:=dJ (p':=⟨p.id,p.x,p.w,p.w,p.s⟩) (ws:=[.int .i64 p.w]) (j:=2) bz hp (by show 2+1≤5; omega) rfl
   have hp2:(K.set i ⟨p.id,p.x,p.w,p.w,p.s⟩)[i]? = some ⟨p.id,p.x,p.w,p.w,p.s⟩:=by rw[List.getElem?_set,if_pos rfl,if_pos hil]
   have o_:=dJ (p':=cz p) (ws:=[.int .i64 0]) (j:=4) bz hp2 (by show 4+1≤5; omega) rfl
   rw[List.set_set] at o_
   have uT:bo≠h2.nx:=by rintro rfl; rw[g7] at k4; exact aS k4
   have n_:bo≠h.nx+1:=by rintro rfl; rw[g3] at k4; exact aS k4
   have HA:(K.set i (cz p)).length=K.length:=List.length_set
   rw[Jk] at HA
   have J3:(K.set i (cz p))[i]? = some (cz p):=by rw[List.getElem?_set,if_pos rfl,if_pos hil]
   have r3:=gU (j:=3) bz hp (by decide)
   have r0:=gU (j:=0) bz J3 (by decide)
   have r3:(K.flatMap bq)[i*5+3]? = some (.int .i64 p.w):=r3
   have r0:((K.set i (cz p)).flatMap bq)[i*5]? = some (.int .i64 p.id):=r0
   simp (maxSteps:=3000000) (disch:=first|omega|simp only[Wd]<;>omega|rfl)only[Wz,DP,s4,dN,g7,aW,k4,Ah,o_,ei,r3,r0]
   obtain ⟨hC,eC⟩:∃hC:Heap,hC=⟨h5.nx,h5.bl.aY bo (aa ((K.set i (cz p)).flatMap bq) 83 true),h5.lo⟩:=⟨_,rfl⟩
   have Ku:Le h hC:=by subst eC; exact uC.set (b:=bo) (by omega) _
   have nC:hC.nx=h5.nx:=by rw[eC]
   have lC:hC.lo=h5.lo:=by rw[eC]
   have gC:hC.bl.get bo=some (aa ((K.set i (cz p)).flatMap bq) 83 true):=by subst eC; exact T.af _ _ _
   have Yv:hC.bl.get (h.nx+1)=some (aa [.int .i64 0,.int .i64 0,.slice none 0 0,.int .i64 0] 81 false):=by subst eC; exact (T.ai _ _ n_).trans g3
   have g7C:hC.bl.get h2.nx=some (aa [.int .i64 t,.int .i64 r,.slice (some ⟨bo,0,none⟩) Q.length aO,.int .i64 w] 81 false):=by subst eC; exact (T.ai _ _ uT).trans g7
   have PL:jM h hC vi ids:=by subst eC; exact dh.put NI (by rw[k4]; exact aL (by decide)) _
   have e2:(⟨h5.nx+1,(h5.bl.aY bo (aa ((K.set i (cz p)).flatMap bq) 83 true)).aY h5.nx (aa [.int .i64 p.id] 3 false),h5.lo⟩:Heap)=⟨hC.nx+1,hC.bl.aY hC.nx (aa [.int .i64 p.id] 3 false),hC.lo⟩:=by rw[eC]
   rw[e2,show h5.nx=hC.nx from nC.symm]
   have hle1:=(Le.refl hC).new (aa [.int .i64 p.id] 3 false)
   have vk2:=vk.Il hf hp hfit
   have hcg:=nF hp (iM vk hf hp)
   refine cV (enc:=cO) (a:=h) (L:=ids) (M:=[p.id]) bW iE (by decide) (by decide) (PL.le hle1) (Sl.new (L:=[p.id]) (e:=3) (op:=false) (Nat.lt_succ_self _) (T.af _ _ _) _) (Ku.new _) (by simp; omega) (by show hC.lo≤hC.nx+1; omega) _ ?_
   intro v' h6 tM uU y_ hn2 Ty hsame
   have n6:hC.nx+1≤h6.nx:=hn2
   have keep:∀c o',c<hC.nx→hC.bl.get c=some o'→some o'≠some (aa (ids.flatMap cO) 3 true)→h6.bl.get c=some o':=by
    intro c o' hc hg hne
    have e:(hC.bl.aY hC.nx (aa [.int .i64 p.id] 3 false)).get c=hC.bl.get c:=T.ai _ _ (by omega)
    exact (hsame c (Nat.lt_succ_of_lt hc) (fun k=>hne (by rw[←hg,←e]; exact k))).trans (e.trans hg)
   have afQ:h6.lo=hC.lo:=Ty
   refine ⟨_,by omega,K.set i (cz p),ids++[p.id],vk2,rfl,?_,by simpa using Jk,by simp; omega,tM,?_,?_,?_,uU,by omega⟩
   ·rw[hsc,uD vk hf hp hfit]
    simp
   ·refine .inr ⟨bo,rfl,by omega,by omega,by omega,keep bo _ (by omega) gC (aL (by decide))⟩
   ·exact keep _ _ (by omega) Yv (aL (by decide))
   ·exact keep _ _ (by omega) g7C (aL (by decide))
end Go.Proofs
