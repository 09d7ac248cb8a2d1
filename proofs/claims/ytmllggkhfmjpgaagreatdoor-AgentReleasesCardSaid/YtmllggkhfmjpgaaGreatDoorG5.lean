/-
  PROVED HERE: a part of the proof (K20, K21, K22, K23, K24, K25, K26, VaiY, K27, K28, K29, K30, K31, K42, K43, L1, VaiE, L2, L3, L4, L7).
-/
import Derived.Test.YtmllggkhfmjpgaaGreatDoorG4
import Derived.Test.YtmllggkhfmjpgaaGreatDoorG3
import Derived.Test.YtmllggkhfmjpgaaGreatDoorG2
set_option linter.unusedVariables false
set_option linter.unusedSimpArgs false
set_option maxRecDepth 100000
namespace Go.Proofs
open Go.Vai Go.Clashes
def fE (M:List HE):List Int:=M.flatMap fun e=>e.Q.map (·.id)
def jO (B:List Bool):List Int:=((List.range B.length).filter fun n=>(B[n]?).getD false).map fun n:Nat=>(n:Int)
theorem jq {B:List Bool} {x:Int}:x∈jO B↔∃n:Nat,x=(n:Int)∧B[n]? = some true:=by
 unfold jO
 rw[List.mem_map]
 constructor
 ·rintro ⟨n,hn,rfl⟩
  rw[List.mem_filter,List.mem_range] at hn
  refine ⟨n,rfl,?_⟩
  have h2:=hn.2
  rw[List.getElem?_eq_getElem hn.1] at h2 ⊢
  simpa using h2
 ·rintro ⟨n,rfl,h⟩
  refine ⟨n,List.mem_filter.2 ⟨List.mem_range.2 (List.getElem?_eq_some_iff.1 h).1,by rw[h]; rfl⟩,rfl⟩
theorem ye {L:List Nat} (h:L.Nodup):(L.map fun n:Nat=>(n:Int)).Nodup:=by
 rw[List.Nodup,List.pairwise_map]
 exact h.imp fun hne e=>hne (Int.ofNat.inj e)
theorem qO (B:List Bool):(jO B).Nodup:=ye (List.nodup_range.filter _)
theorem yf {L:List Int} {x:Int} (h:L.Nodup) (hx:x∉L):(L++[x]).Nodup:=by
 rw[List.nodup_append]
 refine ⟨h,by simp,fun a ha b hb=>?_⟩
 rw[List.mem_singleton] at hb; subst hb
 rintro rfl; exact hx ha
theorem Ar {B:List Bool} {n:Nat} (h:B[n]? = some false):(jO (B.set n true)).Perm (jO B++[(n:Int)]):=by
 have hn:n<B.length:=(List.getElem?_eq_some_iff.1 h).1
 refine (List.perm_ext_iff_of_nodup (qO _) (yf (qO _) fun hm=>?_)).2 fun x=>?_
 ·obtain ⟨k,e,hk⟩:=jq.1 hm
  have:k=n:=(Int.ofNat.inj e).symm
  subst this; rw[h] at hk; cases hk
 ·rw[List.mem_append,List.mem_singleton,jq,jq]
  constructor
  ·rintro ⟨k,rfl,hk⟩
   by_cases hkn:k=n
   ·exact .inr (by rw[hkn])
   ·rw[List.getElem?_set,if_neg (fun e=>hkn e.symm)] at hk
    exact .inl ⟨k,rfl,hk⟩
  ·rintro (⟨k,rfl,hk⟩ | rfl)
   ·refine ⟨k,rfl,?_⟩
    rw[List.getElem?_set]
    split
    ·rename_i e; exact absurd (by rw[←e,h] at hk; exact hk:some false=some true) (by simp)
    ·exact hk
   ·exact ⟨n,rfl,by rw[List.getElem?_set,if_pos rfl,if_pos hn]⟩
theorem Kp {B:List Bool} {n:Nat} (h:B[n]? = some true):(jO B).Perm (jO (B.set n false)++[(n:Int)]):=by
 have hn:n<B.length:=(List.getElem?_eq_some_iff.1 h).1
 have:=Ar (B:=B.set n false) (n:=n) (by rw[List.getElem?_set,if_pos rfl,if_pos hn])
 rw[List.set_set] at this
 have e:B.set n true=B:=by
  refine List.ext_getElem? fun k=>?_
  rw[List.getElem?_set]
  split
  ·rename_i e; rw[←e,h]
  ·rfl
 rwa [e] at this
theorem r8 {F:List Int} {B:List Bool} (o:jH F B):(jO B).length+F.length=B.length:=by
 have hp:F.Perm (((List.range B.length).filter fun n=>!(B[n]?).getD false).map fun n:Nat=>(n:Int)):=by
  refine (List.perm_ext_iff_of_nodup o.nodup (ye (List.nodup_range.filter _))).2 fun x=>?_
  rw[List.mem_map]
  constructor
  ·intro hx
   obtain ⟨n,rfl⟩:∃n:Nat,x=(n:Int):=⟨x.toNat,by have:=o.pos x hx; omega⟩
   have hb:=(o.mem n).1 hx
   exact ⟨n,List.mem_filter.2 ⟨List.mem_range.2 (List.getElem?_eq_some_iff.1 hb).1,by rw[hb]; rfl⟩,rfl⟩
  ·rintro ⟨n,hn,rfl⟩
   rw[List.mem_filter,List.mem_range] at hn
   refine (o.mem n).2 ?_
   have h2:=hn.2
   rw[List.getElem?_eq_getElem hn.1] at h2 ⊢
   simpa using h2
 rw[hp.length_eq]
 unfold jO
 rw[List.length_map,List.length_map,←List.countP_eq_length_filter,←List.countP_eq_length_filter]
 have:=List.length_eq_countP_add_countP (fun n=>(B[n]?).getD false) (l:=List.range B.length)
 rw[List.length_range] at this
 have e2:List.countP (fun n=>!(B[n]?).getD false) (List.range B.length)=List.countP (fun a=>decide ¬(B[a]?).getD false=true) (List.range B.length):=List.countP_congr fun x _=>by simp
 omega
theorem lI (M N:List HE):fE (M++N)=fE M++fE N:=List.flatMap_append
theorem pM {M N:List HE} (h:M.Perm N):(fE M).Perm (fE N):=h.flatMap_right _
theorem r9 (e:HE):fE [e]=e.Q.map (·.id):=by simp[fE]
theorem pO {M:List HE} {clock:Nat} (o:fh M clock) {e:HE} (he:e∈M):M.Perm (M.filter (fun x=>!tH e.t e.r x)++[e]):=by
 obtain ⟨j,hj,rfl⟩:=List.mem_iff_getElem.1 he
 rw[←erase_filter o.nm (List.getElem?_eq_getElem hj)]
 have:M=M.set j M[j]:=by simp
 refine (List.Perm.of_eq this).trans ?_
 rw[List.set_eq_take_append_cons_drop,if_pos hj,List.eraseIdx_eq_take_drop_succ]
 exact (List.perm_middle).trans (List.perm_append_singleton _ _).symm
theorem As {M:List HE} {t r:Int} (hn:∀e∈M,¬(t=e.t∧r=e.r)):M.filter (fun x=>!tH t r x)=M:=List.filter_eq_self.2 fun x hx=>qk.2 (hn x hx)
theorem eo.ids {M M':List HE} {t r w:Int} {Q:List R5} (s:eo M M' t r w Q):(fE M').Perm (fE (M.filter fun x=>!tH t r x)++Q.map (·.id)):=by
 by_cases h0:Q=[]
 ·rw[s.gone h0,h0]; simp
 ·obtain ⟨e,_,_,_,eq,hp⟩:=s.put h0
  have:=pM hp
  rw[lI,r9,eq] at this
  exact this
theorem yg {Q:List R5} {W:Int} (v:VQ Q W) (n:Nat):(dD n Q).1.map (·.id)=Q.map (·.id):=by
 have:=congrArg (List.map Prod.fst) (Bl n v).2.1
 simpa[List.map_map,Function.comp_def,Gt] using this
def ql (M:List HE) (B:List Bool):Prop:=∃X,(fE M++X).Perm (jO B)
theorem ql.find {M:List HE} {B:List Bool} (i:ql M B) {e:HE} (he:e∈M) {p:R5} (hp:p∈e.Q):∃n:Nat,p.id=(n:Int)∧B[n]? = some true:=by
 obtain ⟨X,hX⟩:=i
 exact jq.1 (hX.mem_iff.1 (List.mem_append.2 (.inl (List.mem_flatMap.2 ⟨e,he,List.mem_map.2 ⟨p,hp,rfl⟩⟩))))
theorem QV.frame {h h':Heap} {q:Value} {Q:List R5} (v:QV h q Q) (hn:h.nx≤h'.nx) (hg:∀c vs op,c<h.nx→h.bl.get c=some (aa vs 57 op)→h'.bl.get c=h.bl.get c):QV h' q Q:=by
 obtain ⟨hs,ht⟩:=v
 constructor
 ·obtain ⟨x,cap,rfl,h2⟩:=hs
  refine ⟨x,cap,rfl,fun hne=>?_⟩
  obtain ⟨b,o,rfl,h3,h4⟩:=h2 hne
  obtain ⟨h1,vs,op,h5⟩:=ht b o _ cap rfl (by intro h0; exact hne (List.eq_nil_of_length_eq_zero h0))
  refine ⟨b,o,rfl,Nat.lt_of_lt_of_le h3 hn,?_⟩
  rw[hg b vs op h1 h5]; exact h4
 ·intro b o n c hv hn0
  obtain ⟨h1,vs,op,h2⟩:=ht b o n c hv hn0
  exact ⟨Nat.lt_of_lt_of_le h1 hn,vs,op,(hg b vs op h1 h2).trans h2⟩
theorem lV.oN {h h':Heap} {bp bl:Nat} {F:List Int} {B:List Bool} {e:HE} (a:lV h e) (p:dJ h bp bl F B) (f:Jb bp bl h h'):lV h' e:=by
 have fn:=f.nx
 obtain ⟨fs,yd,hpt⟩:=p.fr.cell
 have gl:=p.cell
 have key:∀c vs ty,c<h.nx→h.bl.get c=some (aa vs ty false)→ty≠286→ty≠4→h'.bl.get c=h.bl.get c:=fun c vs ty hc hg h1 h2=>
  f.get c hc (by rintro rfl; rw[hg] at yd; exact bq h1 yd) (by rintro rfl; rw[hg] at gl; exact bq h2 gl) fun ws=>by rw[hg]; exact bh
 have al:=a.lt
 refine ⟨by omega,(key _ _ _ al a.get (by decide) (by decide)).trans a.get,a.qv.frame fn fun c vs op hc hg=>?_⟩
 exact f.get c hc (by rintro rfl; rw[hg] at yd; exact bq (by decide) yd) (by rintro rfl; rw[hg] at gl; exact bq (by decide) gl) fun ws=>by rw[hg]; exact bq (by decide)
theorem aZ.oN {h h':Heap} {bb bm bp bl most:Nat} {M:List HE} {clock:Nat} {F F':List Int} {B B':List Bool} (s:aZ h bb bm bp bl most M clock F B) (p:dJ h' bp bl F' B') (f:Jb bp bl h h'):aZ h' bb bm bp bl most M clock F' B':=by
 have fn:=f.nx
 have fl:=f.lo
 have sb:=s.Qd
 have sm:=s.vJ
 obtain ⟨fs,yd,hpt⟩:=s.aY.fr.cell
 have gl:=s.aY.cell
 have key:∀c vs ty,c<h.nx→h.bl.get c=some (aa vs ty false)→ty≠286→ty≠4→h'.bl.get c=h.bl.get c:=fun c vs ty hc hg h1 h2=>
  f.get c hc (by rintro rfl; rw[hg] at yd; exact bq h1 yd) (by rintro rfl; rw[hg] at gl; exact bq h2 gl) fun ws=>by rw[hg]; exact bh
 have gm:=s.fQ
 have km:h'.bl.get bm=h.bl.get bm:=f.get bm sm (by rintro rfl; rw[yd] at gm; exact bQ gm.symm) (by rintro rfl; rw[gl] at gm; exact bQ gm.symm) fun ws=>by rw[gm]; exact bQ
 refine ⟨by omega,by omega,by rw[fl]; exact s.RU,(key bb _ _ sb s.gU (by decide) (by decide)).trans s.gU,km.trans gm,s.ok,fun e he=>?_,s.good,p,s.ne⟩
 exact (s.aS e he).oN s.aY f
theorem RY (Q:List R5) (W id x m:Int):(jG Q W id x m).1.id=id:=by unfold jG; split<;>rfl
structure mO (h h':Heap) (bb bm bp bl most:Nat) (M M':List HE) (clock':Nat) (F F':List Int) (B:List Bool) (t r x m:Int) (n:Nat) (g:Bool):Prop where
 is:aZ h' bb bm bp bl most M' clock' F' (B.set n true)
 free:((n:Int)::F').Perm F
 old:B[n]? = some false
 least:∀k,k<n→B[k]? = some true
 fr:pZ bm bp bl h h'
 set:∃Q w,((∃e∈M,e.t=t∧e.r=r∧e.Q=Q∧e.w=w)∨((∀e∈M,¬(t=e.t∧r=e.r))∧M.length<most∧Q=[]∧w=0))∧VQ Q w∧VQ (Q++[(jG Q w n x m).1]) (jG Q w n x m).2.1∧g=(jG Q w n x m).2.2∧
  eo M M' t r (jG Q w n x m).2.1 (dD (ia (Q++[(jG Q w n x m).1])+1) (Q++[(jG Q w n x m).1])).1
theorem Au {h h0:Heap} {bb bm bp bl most:Nat} {M:List HE} {clock:Nat} {F:List Int} {B:List Bool} (s:aZ h bb bm bp bl most M clock F B) (hlo:h.lo≤h.nx) (l0:Le h0 h) (ids:ql M B) (hF:F.length≤1000) (N:Nat) (hN:N≤100000) (hw:∀e∈M,e.w≤N) (t r x m:Int) (am:bN m=true) (l:List Value) (ph:Nat) (Q:List R5) (q:Value) (w:Int)
  (hl:slot l 18=.pointer (some ⟨ph,0,none⟩)) (hp:ph<h.nx) (gp:h.bl.get ph=some (dF t r q w)) (hq:QV h q Q) (vq:VQ Q w) (rG:F≠[]→Q.length≤127) (hwN:w≤N) (hx:∀p∈Q,p.x≠x) (zD:∀p∈Q,∃k:Nat,p.id=(k:Int)∧B[k]? = some true)
  (hold:((∃e∈M,e.t=t∧e.r=r∧e.Q=Q∧e.w=w)∨((∀e∈M,¬(t=e.t∧r=e.r))∧M.length<most∧Q=[]∧w=0)))
  (κ:KQ)
  (Yf:∀h',F=[]→Le h0 h'→κ (.tuple ⟨[.int .i64 0,.bool false,.int .i64 8]⟩) h')
  (Um:∀M' clock' F' h' n g,mO h0 h' bb bm bp bl most M M' clock' F F' B t r x m n g→κ (.tuple ⟨[.int .i64 (n:Int),.bool g,.int .i64 0]⟩) h') :
  xO (.pointer (some ⟨bb,0,none⟩)) l (.int .i64 x) (.int .i64 m) h κ:=by
 have gb:=s.gU
 simp(disch:=first|omega|simp only[Wd]<;>omega|rfl)only[Wz,xO,az,gb]
 refine Yg bp bl F B h _ s.aY hF hlo s.ne ?_ ?_
 ·intro h0'
  simp(disch:=first|omega|simp only[Wd]<;>omega|rfl)only[Wz]
  exact Yf h h0' l0
 intro h2 F' n p2 hp2 hb Yh zC
 have s2:=s.oN p2 zC
 have n2:=zC.nx
 have l2:=zC.lo
 have hF0:F≠[]:=by rintro rfl; have:=hp2.length_eq; simp at this
 have rG:=rG hF0
 have H2:=lV.oN (e:=⟨t,r,ph,0,q,w,Q⟩) ⟨hp,gp,hq⟩ s.aY zC
 have g2:h2.bl.get ph=some (dF t r q w):=H2.get
 have B5:QV h2 q Q:=H2.qv
 obtain ⟨qx,qc,rfl,_⟩:=(show Sl bu h2 q Q from B5.1)
 simp(disch:=first|omega|simp only[Wd]<;>omega|rfl)only[Wz,Ef,hl,az,g2]
 have hn:∀p∈Q,p.id≠(n:Int)∧p.x≠x:=fun p hp'=>⟨fun e=>by
  obtain ⟨k,e1,e2⟩:=zD p hp'
  have:k=n:=by omega
  rw[this,hb] at e2
  exact absurd e2 (by simp),hx p hp'⟩
 refine aco t r _ w (n:Int) x m Q h2 _ B5.1 (by omega) (by omega) ⟨vq.w0,by omega⟩ (by omega) am hn ?_
 intro q3 h3 nX cr
 have n3:=cr.nx
 have l3:=cr.lo
 have v3:=vq.ask (id:=(n:Int)) (x:=x) (m:=m) (by omega) am hn
 obtain ⟨EF,EG,rfl,_⟩:=(show Sl bu h3 q3 _ from nX.sl)
 simp(disch:=first|omega|simp only[Wd]<;>omega|rfl)only[Wz,jd]
 have jr:Le h2 ⟨h3.nx+1,h3.bl.aT h3.nx (dF t r (.slice EF (Q++[(jG Q w n x m).1]).length EG) (jG Q w n x m).2.1),h3.lo⟩:=cr.new _
 have lh4:Le h3 ⟨h3.nx+1,h3.bl.aT h3.nx (dF t r (.slice EF (Q++[(jG Q w n x m).1]).length EG) (jG Q w n x m).2.1),h3.lo⟩:=(Le.refl h3).new _
 have s4:=s2.le jr
 refine r7 s4 (by show h3.lo≤h3.nx+1; omega) t r _ _ _ _ ((nX.sl).le lh4) v3 (by simp; omega) ?_
 intro M' clock' v' h' s5 jS rX Kq
 exact Um M' clock' F' h' n _ ⟨s5,hp2,hb,Yh,(pZ.of_le l0).trans ((pZ.acE zC).trans ((pZ.of_le jr).trans Kq)),Q,w,hold,vq,v3,rfl,jS⟩
theorem ql.len {M:List HE} {F:List Int} {B:List Bool} (i:ql M B) (o:jH F B) {e:HE} (he:e∈M):e.Q.length+F.length≤B.length:=by
 have h1:=r8 o
 obtain ⟨X,hX⟩:=i
 have h2:=hX.length_eq
 rw[List.length_append] at h2
 have:e.Q.length≤(fE M).length:=by
  have hs:=List.append_of_mem he
  obtain ⟨s,t,rfl⟩:=hs
  simp[fE]; omega
 omega
theorem RZ {h:Heap} {bb bm bp bl most:Nat} {M:List HE} {clock:Nat} {F:List Int} {B:List Bool} (s:aZ h bb bm bp bl most M clock F B) (hlo:h.lo≤h.nx) (ids:ql M B) (N:Nat) (hN:N≤100000) (hw:∀e∈M,e.w≤N) (t r x m:Int) (κ:KQ)
  (hk2:∀h',bN m=false→Le h h'→κ (.tuple ⟨[.int .i64 0,.bool false,.int .i64 2]⟩) h')
  (z7:∀h' e p,bN m=true→e∈M→t=e.t→r=e.r→p∈e.Q→p.x=x→Le h h'→κ (.tuple ⟨[.int .i64 0,.bool false,.int .i64 4]⟩) h')
  (hk8:∀h',bN m=true→(∀e∈M,t=e.t→r=e.r→∀p∈e.Q,p.x≠x)→(F=[]∨((∀e∈M,¬(t=e.t∧r=e.r))∧most≤M.length))→Le h h'→κ (.tuple ⟨[.int .i64 0,.bool false,.int .i64 8]⟩) h')
  (Um:∀M' clock' F' h' n g,bN m=true→(∀e∈M,t=e.t→r=e.r→∀p∈e.Q,p.x≠x)→mO h h' bb bm bp bl most M M' clock' F F' B t r x m n g→κ (.tuple ⟨[.int .i64 (n:Int),.bool g,.int .i64 0]⟩) h') :
  CallW Tryz.prog 353 [.pointer (some ⟨bb,0,none⟩),cN t r,.int .i64 x,.int .i64 m] h κ:=by
 refine an mixed ?_
 rw[XB]
 have hFl:F.length≤1000:=by have:=r8 s.aY.ok; have:=s.aY.small; omega
 simp(disch:=first|omega|simp only[Wd]<;>omega|rfl)only[Wz,cN]
 obtain ⟨hA,aH⟩:∃hA:Heap,hA=⟨h.nx+1,(h.bl.aT (h.nx) (aa [.int .i64 t,.int .i64 r] 28 false)),h.lo⟩:=⟨_,rfl⟩
 have aL:Le h hA:=by subst aH; exact ((Le.refl h).new _)
 have g1:hA.bl.get (h.nx)=some (aa [.int .i64 t,.int .i64 r] 28 false):=by subst aH; exact T.af _ _ _
 have ef:hA.nx=h.nx+1:=by subst aH; rfl
 have ej:hA.lo=h.lo:=by subst aH; rfl
 rw[←aH]
 clear aH
 have sA:=s.le aL
 simp(disch:=first|omega|simp only[Wd]<;>omega|rfl)only[Wz,gV,Eh]
 by_cases h0:m=0
 ·simp(disch:=first|omega|simp only[Wd]<;>omega|rfl)only[Wz,bg h0]
  exact hk2 _ (by simp[bN,h0]) aL
 simp(disch:=first|omega|simp only[Wd]<;>omega|rfl)only[Wz,aV h0]
 refine nE m ?_
 cases hkn:kn m with
 | false=>
  simp(disch:=first|omega|simp only[Wd]<;>omega|rfl)only[Wz]
  exact hk2 _ (by simp[bN,hkn]) aL
 | true=>
 have am:bN m=true:=by simp[bN,hkn,h0]
 simp(disch:=first|omega|simp only[Wd]<;>omega|rfl)only[Wz,Eg,g1]
 refine EM sA (by omega) t r x _ ?_ ?_
 case _=>
  intro h2 hno bt
  have jI:=aL.trans bt
  have s2:=sA.le bt
  have n2:=bt.nx
  have l2:=bt.lo
  have gb:=s2.gU
  have gm:=s2.fQ
  have g1:=(bt.get _ (by omega)).trans g1
  by_cases hc:∃e∈M,t=e.t∧r=e.r
  ·obtain ⟨e,he,rfl,rfl⟩:=hc
   have eL:=EK (β:=Option Value) (fl:=none) s2.ok gm he
   unfold cN at eL
   have H:=s2.aS e he
   have hgd:=s2.good e he
   simp(disch:=first|omega|simp only[Wd]<;>omega|rfl)only[Wz,xP,az,gb,g1,eL]
   refine ⟨fun l h'=>slot l 18=.pointer (some ⟨e.hb,0,none⟩)∧HQ h2 h',⟨rfl,rfl⟩,?_⟩
   rintro l h' ⟨hl,hq⟩
   cases (show h2=h' from hq)
   refine Au s2 (by omega) jI ids hFl N hN hw e.t e.r x m am l e.hb e.Q e.q e.w hl H.lt H.get H.qv hgd.vq (fun hF0=>?_) (hw e he) (hno e he rfl rfl) (fun p hp=>ids.find he hp) (.inl ⟨e,he,rfl,rfl,rfl,rfl⟩) κ (fun h' h1 h3=>hk8 h' am hno (.inl h1) h3) fun M' clock' F' h' n g hA=>Um M' clock' F' h' n g am hno hA
   have:=ids.len s.aY.ok he
   have:=s.aY.small
   have:=List.length_pos_iff.2 hF0
   omega
  ·have hn:∀e∈M,¬(t=e.t∧r=e.r):=fun e he h=>hc ⟨e,he,h⟩
   have eL:=Aq (β:=Option Value) (fl:=none) gm t r hn
   unfold cN at eL
   simp(disch:=first|omega|simp only[Wd]<;>omega|rfl)only[Wz,xP,az,gb,g1,eL]
   by_cases hfull:M.length<most
   ·obtain ⟨hB,eB⟩:∃hB:Heap,hB=⟨h2.nx+1,h2.bl.aT h2.nx (dF t r (.slice none 0 0) 0),h2.lo⟩:=⟨_,rfl⟩
    have Je:Le h2 hB:=by rw[eB]; exact (Le.refl h2).new _
    have gB:hB.bl.get h2.nx=some (dF t r (.slice none 0 0) 0):=by rw[eB]; exact T.af _ _ _
    have nB:hB.nx=h2.nx+1:=by rw[eB]
    have lB:hB.lo=h2.lo:=by rw[eB]
    refine ⟨fun l h'=>slot l 18=.pointer (some ⟨h2.nx,0,none⟩)∧HQ hB h',?_,?_⟩
    ·simp(disch:=first|omega|simp only[Wd]<;>omega|rfl)only[Wz,xN,az,gb,g1,mZ,gm,bT,List.length_map,bg (show Int.ofNat M.length<(most:Int) from by show (M.length:Int)<_; omega),Bool.not_true]
     exact ⟨trivial,eB⟩
    ·rintro l h' ⟨hl,hq⟩
     cases (show hB=h' from hq)
     have sB:=s2.le Je
     exact Au sB (by omega) (jI.trans Je) ids hFl N hN hw t r x m am l h2.nx [] (.slice none 0 0) 0 hl (by omega) gB ⟨Sl.nil _ _ _,fun b o n c hv _=>nomatch hv⟩ VQ.nil (fun _=>by simp) (by omega) (fun p hp=>nomatch hp) (fun p hp=>nomatch hp) (.inr ⟨hn,hfull,rfl,rfl⟩) κ (fun h' h1 h3=>hk8 h' am hno (.inl h1) h3) fun M' clock' F' h' n g hA=>Um M' clock' F' h' n g am hno hA
   ·refine ⟨fun l h'=>False,?_,fun _ _ h=>h.elim⟩
    simp(disch:=first|omega|simp only[Wd]<;>omega|rfl)only[Wz,xN,az,gb,g1,mZ,gm,bT,List.length_map,aV (show ¬Int.ofNat M.length<(most:Int) from by show ¬(M.length:Int)<_; omega),Bool.not_false]
    exact hk8 h2 am hno (.inr ⟨hn,by omega⟩) jI
 case _=>
  intro h2 e p he ht hr hp hx bt
  simp(disch:=first|omega|simp only[Wd]<;>omega|rfl)only[Wz]
  exact z7 h2 e p am he ht hr hp hx (aL.trans bt)
structure jt (h h':Heap) (bb bm bp bl most:Nat) (M M':List HE) (clock':Nat) (F':List Int) (B':List Bool) (e:HE) (Q1:List R5) (w1:Int):Prop where
 is:aZ h' bb bm bp bl most M' clock' F' B'
 fr:pZ bm bp bl h h'
 vq:VQ Q1 w1
 set:eo M M' e.t e.r w1 (dD (ia Q1+1) Q1).1
theorem oO {Q:List R5} {W:Int} (v:VQ Q W) {id:Int} {p:R5} (hf:bV Q id=some p):∃i:Nat,Q[i]? = some p∧p.id=id:=by
 obtain ⟨h1,h2⟩:=iW hf
 obtain ⟨i,hi⟩:=List.mem_iff_getElem?.1 h1
 exact ⟨i,hi,h2⟩
theorem EO {h:Heap} {bb bm bp bl most:Nat} {M:List HE} {clock:Nat} {F:List Int} {B:List Bool} (s:aZ h bb bm bp bl most M clock F B) (hlo:h.lo≤h.nx) (N:Nat) (hN:N≤100000) (hw:∀e∈M,e.w≤N) (id m:Int) (κ:KQ)
  (hk2:∀h',bN m=false→Le h h'→κ (.tuple ⟨[.bool false,.int .i64 2]⟩) h')
  (Lv:∀h',bN m=true→(∀e∈M,bV e.Q id=none)→Le h h'→κ (.tuple ⟨[.bool false,.int .i64 5]⟩) h')
  (NZ:∀h' e p,bN m=true→e∈M→bV e.Q id=some p→0<p.s→Le h h'→κ (.tuple ⟨[.bool false,.int .i64 7]⟩) h')
  (nO:∀h' M' clock' e p i,bN m=true→e∈M→e.Q[i]? = some p→bV e.Q id=some p→¬0<p.s→jt h h' bb bm bp bl most M M' clock' F B e (e.Q.set i (iM e.Q e.w p m).1) (iM e.Q e.w p m).2.1→κ (.tuple ⟨[.bool (iM e.Q e.w p m).2.2,.int .i64 0]⟩) h') :
  CallW Tryz.prog 354 [.pointer (some ⟨bb,0,none⟩),.int .i64 id,.int .i64 m] h κ:=by
 refine an mixed ?_
 rw[XC]
 simp(disch:=first|omega|simp only[Wd]<;>omega|rfl)only[Wz,gV,Ei]
 refine RV s hlo id _ ?_ ?_
 ·intro h1 hno bF
  have n1:=bF.nx
  have l1:=bF.lo
  simp(disch:=first|omega|simp only[Wd]<;>omega|rfl)only[Wz,oM]
  obtain ⟨hA,aH⟩:∃hA:Heap,hA=⟨h1.nx+1,(h1.bl.aT (h1.nx) (dF 0 0 (.slice none 0 0) 0)),h1.lo⟩:=⟨_,rfl⟩
  have aL:Le h1 hA:=by subst aH; exact ((Le.refl h1).new _)
  have g7:hA.bl.get (h1.nx)=some (dF 0 0 (.slice none 0 0) 0):=by subst aH; exact T.af _ _ _
  have ef:hA.nx=h1.nx+1:=by subst aH; rfl
  have ej:hA.lo=h1.lo:=by subst aH; rfl
  rw[←aH]
  clear aH
  refine ⟨fun l h'=>slot l 4=.pointer (some ⟨h1.nx,0,none⟩)∧HQ hA h',⟨rfl,rfl⟩,?_⟩
  rintro l h' ⟨hl,hq⟩
  cases (show hA=h' from hq)
  simp(disch:=first|omega|simp only[Wd]<;>omega|rfl)only[Wz,xQ,hl,az,g7]
  refine x8 0 0 _ 0 id m [] hA _ (Sl.nil _ _ _) (by simp) (by omega) (by omega) ?_ ?_ ?_ ?_
  ·intro ha h2 bt
   have:=bt.nx
   have:=bt.lo
   simp(disch:=first|omega|simp only[Wd]<;>omega|rfl)only[Wz,jd]
   exact hk2 _ ha (((bF.trans aL).trans bt).new _)
  ·intro ha _ h2 bt
   have:=bt.nx
   have:=bt.lo
   simp(disch:=first|omega|simp only[Wd]<;>omega|rfl)only[Wz,jd]
   exact Lv _ ha hno (((bF.trans aL).trans bt).new _)
  ·intro ha p hf; cases hf
  ·intro ha i p hi; simp at hi
 ·intro h1 e p0 he hf0 bF
  have n1:=bF.nx
  have l1:=bF.lo
  have s1:=s.le bF
  have H:=s1.aS e he
  have hlt:=H.lt
  have gd:=s1.good e he
  have rG:=gd.small
  obtain ⟨qx,qc,eq,_⟩:=(show Sl bu h1 e.q e.Q from H.qv.1)
  have gh:=H.get
  rw[eq] at gh
  have we:=hw e he
  simp(disch:=first|omega|simp only[Wd]<;>omega|rfl)only[Wz,r6]
  refine ⟨fun l h'=>slot l 4=.pointer (some ⟨e.hb,0,none⟩)∧HQ h1 h',⟨rfl,rfl⟩,?_⟩
  rintro l h' ⟨hl,hq⟩
  cases (show h1=h' from hq)
  simp(disch:=first|omega|simp only[Wd]<;>omega|rfl)only[Wz,xQ,hl,az,gh]
  refine x8 e.t e.r _ e.w id m e.Q h1 _ (by rw[←eq]; exact H.qv.1) (by omega) (by omega) ⟨gd.vq.w0,by omega⟩ ?_ ?_ ?_ ?_
  ·intro ha h2 bt
   have:=bt.nx
   have:=bt.lo
   simp(disch:=first|omega|simp only[Wd]<;>omega|rfl)only[Wz,jd]
   exact hk2 _ ha ((bF.trans bt).new _)
  ·intro ha hf; rw[hf] at hf0; cases hf0
  ·intro ha p hf hs h2 bt
   have:=bt.nx
   have:=bt.lo
   simp(disch:=first|omega|simp only[Wd]<;>omega|rfl)only[Wz,jd]
   exact NZ _ e p ha he hf hs ((bF.trans bt).new _)
  ·intro ha i p hi hf hs q' h2 B5 bt
   have n2:=bt.nx
   have l2:=bt.lo
   obtain ⟨qY,qZ,rfl,_⟩:=(show Sl bu h2 q' _ from B5.1)
   have vu:=gd.vq.upg hi hs ha
   simp(disch:=first|omega|simp only[Wd]<;>omega|rfl)only[Wz,jd]
   have cr:Le h1 ⟨h2.nx+1,h2.bl.aT h2.nx (dF e.t e.r (.slice qY (e.Q.set i (iM e.Q e.w p m).1).length qZ) (iM e.Q e.w p m).2.1),h2.lo⟩:=bt.new _
   have lh3:Le h2 ⟨h2.nx+1,h2.bl.aT h2.nx (dF e.t e.r (.slice qY (e.Q.set i (iM e.Q e.w p m).1).length qZ) (iM e.Q e.w p m).2.1),h2.lo⟩:=(Le.refl h2).new _
   refine r7 (s1.le cr) (by show h2.lo≤h2.nx+1; omega) e.t e.r _ _ _ _ (B5.1.le lh3) vu (by rw[List.length_set]; omega) ?_
   intro M' clock' v' h' s5 jS _ Kq
   exact nO h' M' clock' e p i ha he hi hf hs ⟨s5,(pZ.of_le (bF.trans cr)).trans Kq,vu,jS⟩
theorem Kr {h:Heap} {bb bm bp bl most:Nat} {M:List HE} {clock:Nat} {F:List Int} {B:List Bool} (s:aZ h bb bm bp bl most M clock F B) (hlo:h.lo≤h.nx) (ids:ql M B) (id:Int) (κ:KQ)
  (Lv:∀h',(∀e∈M,bV e.Q id=none)→Le h h'→κ (.tuple ⟨[.slice none 0 0,.int .i64 5]⟩) h')
  (nO:∀h' M' clock' F' v' e p (n:Nat),e∈M→bV e.Q id=some p→id=(n:Int)→B[n]? = some true→F'.Perm (F++[(n:Int)])→jt h h' bb bm bp bl most M M' clock' F' (B.set n false) e (e.Q.filter fun r=>!b6 id r) e.w→zB h h' v' (dD (ia (e.Q.filter fun r=>!b6 id r)+1) (e.Q.filter fun r=>!b6 id r)).2→κ (.tuple ⟨[v',.int .i64 0]⟩) h') :
  CallW Tryz.prog 395 [.pointer (some ⟨bb,0,none⟩),.int .i64 id] h κ:=by
 refine an mixed ?_
 rw[XL]
 refine RV s hlo id _ ?_ ?_
 ·intro h1 hno bF
  simp(disch:=first|omega|simp only[Wd]<;>omega|rfl)only[Wz,oM]
  refine NW bb h1 _ ?_
  exact Lv h1 hno bF
 ·intro h1 e p he hf bF
  have n1:=bF.nx
  have l1:=bF.lo
  have s1:=s.le bF
  have H:=s1.aS e he
  have hlt:=H.lt
  have gd:=s1.good e he
  have rG:=gd.small
  obtain ⟨qx,qc,eq,_⟩:=(show Sl bu h1 e.q e.Q from H.qv.1)
  have gh:=H.get
  rw[eq] at gh
  obtain ⟨n,en,B4⟩:=ids.find he (iW hf).1
  have eid:id=(n:Int):=by rw[←en]; exact (iW hf).2.symm
  have hFl:F.length≤1000:=by have:=r8 s.aY.ok; have:=s.aY.small; omega
  simp(disch:=first|omega|simp only[Wd]<;>omega|rfl)only[Wz,r6,Em,az,gh]
  refine RL e.t e.r _ e.w id e.Q h1 _ (by rw[←eq]; exact H.qv.1) (by omega) (by omega) (by rw[hf]; simp) ?_
  intro q' h2 B5 bt
  have n2:=bt.nx
  have l2:=bt.lo
  obtain ⟨qY,qZ,rfl,_⟩:=(show Sl bu h2 q' _ from B5.1)
  have s2:=s1.le bt
  have gb:=s2.gU
  have hlb:=s2.Qd
  simp(disch:=first|omega|simp only[Wd]<;>omega|rfl)only[Wz,jd]
  obtain ⟨h3,e3⟩:∃h3:Heap,h3=⟨h2.nx+1,h2.bl.aT h2.nx (dF e.t e.r (.slice qY (e.Q.filter fun r=>!b6 id r).length qZ) e.w),h2.lo⟩:=⟨_,rfl⟩
  have cr:Le h2 h3:=by rw[e3]; exact (Le.refl h2).new _
  have g3:h3.bl.get h2.nx=some (dF e.t e.r (.slice qY (e.Q.filter fun r=>!b6 id r).length qZ) e.w):=by rw[e3]; exact T.af _ _ _
  have n3:h3.nx=h2.nx+1:=by rw[e3]
  have l3:h3.lo=h2.lo:=by rw[e3]
  rw[←e3]
  clear e3
  have s3:=s2.le cr
  have hl:=gd.vq.filter fun r=>!b6 id r
  simp(disch:=first|omega|simp only[Wd]<;>omega|rfl)only[Wz,gb,eid]
  refine Yi bp bl F B n h3 _ s3.aY hFl (by omega) s3.ne B4 ?_
  intro h4 F' p4 Lw fr4
  have n4:=fr4.nx
  have l4:=fr4.lo
  have H4:=lV.oN (e:=⟨e.t,e.r,h2.nx,0,_,e.w,_⟩) ⟨by show h2.nx<h3.nx; omega,g3,B5.le cr⟩ s3.aY fr4
  have g4:=H4.get
  simp(disch:=first|omega|simp only[Wd]<;>omega|rfl)only[Wz,g4]
  have lf:(e.Q.filter fun r=>!b6 id r).length≤e.Q.length:=List.length_filter_le _ _
  refine r7 (s3.oN p4 fr4) (by omega) e.t e.r _ _ _ _ H4.qv.1 hl (by show (e.Q.filter fun r=>!b6 id r).length≤128; omega) ?_
  intro M' clock' v' h' s5 jS rX Kq
  have Ui:zB h h' v' _:=gL.base rX (by have:=bF.nx; omega)
  exact nO h' M' clock' F' v' e p n he hf eid B4 Lw ⟨s5,(pZ.of_le ((bF.trans bt).trans cr)).trans ((pZ.acE fr4).trans Kq),hl,jS⟩ Ui
theorem N_ {h:Heap} {bb bm bp bl most:Nat} {M:List HE} {clock:Nat} {F:List Int} {B:List Bool} (s:aZ h bb bm bp bl most M clock F B) (hlo:h.lo≤h.nx) (id x:Int) (κ:KQ)
  (Lv:∀h',(∀e∈M,bV e.Q id=none)→Le h h'→κ (.int .i64 5) h')
  (z7:∀h' e p,e∈M→bV e.Q id=some p→(∃o∈e.Q,o.id≠id∧o.x=x)→Le h h'→κ (.int .i64 4) h')
  (NZ:∀h' e p,e∈M→bV e.Q id=some p→(∀o∈e.Q,o.id≠id→o.x≠x)→0<p.s→Le h h'→κ (.int .i64 7) h')
  (nO:∀h' M' clock' e p i,e∈M→e.Q[i]? = some p→bV e.Q id=some p→(∀o∈e.Q,o.id≠id→o.x≠x)→¬0<p.s→jt h h' bb bm bp bl most M M' clock' F B e (e.Q.set i (uC p x)) e.w→κ (.int .i64 0) h') :
  CallW Tryz.prog 357 [.pointer (some ⟨bb,0,none⟩),.int .i64 id,.int .i64 x] h κ:=by
 refine an mixed ?_
 rw[XD]
 refine RV s hlo id _ ?_ ?_
 ·intro h1 hno bF
  simp(disch:=first|omega|simp only[Wd]<;>omega|rfl)only[Wz,oM]
  refine NW bb h1 _ ?_
  exact Lv h1 hno bF
 ·intro h1 e p he hf bF
  have n1:=bF.nx
  have l1:=bF.lo
  have s1:=s.le bF
  have H:=s1.aS e he
  have hlt:=H.lt
  have gd:=s1.good e he
  have rG:=gd.small
  obtain ⟨qx,qc,eq,_⟩:=(show Sl bu h1 e.q e.Q from H.qv.1)
  have gh:=H.get
  rw[eq] at gh
  obtain ⟨i,hi,X9⟩:=oO gd.vq hf
  simp(disch:=first|omega|simp only[Wd]<;>omega|rfl)only[Wz,r6,Ej,az,gh]
  refine X_ e.t e.r _ e.w id x e.Q h1 _ (by rw[←eq]; exact H.qv.1) (by omega) (by omega) gd.vq.pair hi X9 ?_ ?_ ?_
  ·intro hx h2 bt
   have:=bt.nx
   have:=bt.lo
   simp(disch:=first|omega|simp only[Wd]<;>omega|rfl)only[Wz,jd]
   refine ⟨fun l h'=>Le h h',?_,?_⟩
   ·exact (bF.trans bt).new _
   ·intro l h' le'
    exact z7 _ e p he hf hx le'
  ·intro hx hs h2 bt
   have:=bt.nx
   have:=bt.lo
   simp(disch:=first|omega|simp only[Wd]<;>omega|rfl)only[Wz,jd]
   refine ⟨fun l h'=>Le h h',?_,?_⟩
   ·exact (bF.trans bt).new _
   ·intro l h' le'
    exact NZ _ e p he hf hx hs le'
  ·intro hx hs q' h2 B5 bt
   have n2:=bt.nx
   have l2:=bt.lo
   obtain ⟨qY,qZ,rfl,_⟩:=(show Sl bu h2 q' _ from B5.1)
   have s2:=s1.le bt
   simp(disch:=first|omega|simp only[Wd]<;>omega|rfl)only[Wz,jd]
   have cr:Le h2 ⟨h2.nx+1,h2.bl.aT h2.nx (dF e.t e.r (.slice qY (e.Q.set i (uC p x)).length qZ) e.w),h2.lo⟩:=(Le.refl h2).new _
   have hlv:=gd.vq.hand (x:=x) hi (by rw[X9]; exact hx)
   refine ⟨fun l h'=>∃M' clock',jt h h' bb bm bp bl most M M' clock' F B e (e.Q.set i (uC p x)) e.w,?_,?_⟩
   ·refine r7 (s2.le cr) (by show h2.lo≤h2.nx+1; omega) e.t e.r _ _ _ _ (B5.1.le cr) hlv (by rw[List.length_set]; omega) ?_
    intro M' clock' v' h' s7 jS ho7 fr7
    exact ⟨M',clock',s7,(pZ.of_le ((bF.trans bt).trans cr)).trans fr7,hlv,jS⟩
   ·rintro l h' ⟨M',clock',hm⟩
    exact nO h' M' clock' e p i he hi hf hx hs hm
theorem ag7 (a b c d e:Int):jX 8 (.agg ⟨[.int .i64 a,.int .i64 b,.int .i64 c,.int .i64 d,.int .i64 e]⟩) (.agg ⟨[.int .i64 a,.int .i64 b,.int .i64 c,.int .i64 d,.int .i64 e]⟩)=true:=by unfold jX; exact tf 6 [a,b,c,d,e]
theorem R3 {h:Heap} {bb bm bp bl most:Nat} {M:List HE} {clock:Nat} {F:List Int} {B:List Bool} (s:aZ h bb bm bp bl most M clock F B) (hlo:h.lo≤h.nx) (id:Int) (κ:KQ)
  (nO:∀h',(∀e∈M,bV e.Q id=none)→Le h h'→κ (.tuple ⟨[cN 0 0,kK ⟨0,0,0,0,0⟩,.bool false]⟩) h')
  (dy:∀h' e p,e∈M→bV e.Q id=some p→Le h h'→κ (.tuple ⟨[cN e.t e.r,kK p,.bool true]⟩) h') :
  CallW Tryz.prog 292 [.pointer (some ⟨bb,0,none⟩),.int .i64 id] h κ:=by
 refine an mixed ?_
 rw[NB]
 simp(disch:=first|omega|simp only[Wd]<;>omega|rfl)only[Wz]
 obtain ⟨hA,aH⟩:∃hA:Heap,hA=⟨h.nx+1+1,((h.bl.aT (h.nx) (aa [.int .i64 0,.int .i64 0] 28 false)).aT (h.nx+1) (iy ⟨0,0,0,0,0⟩)),h.lo⟩:=⟨_,rfl⟩
 have aL:Le h hA:=by subst aH; exact (((Le.refl h).new _).new _)
 have g1:hA.bl.get (h.nx)=some (aa [.int .i64 0,.int .i64 0] 28 false):=by subst aH; exact (T.ai _ _ (by omega)).trans (T.af _ _ _)
 have g3:hA.bl.get (h.nx+1)=some (iy ⟨0,0,0,0,0⟩):=by subst aH; exact T.af _ _ _
 have ef:hA.nx=h.nx+1+1:=by subst aH; rfl
 have ej:hA.lo=h.lo:=by subst aH; rfl
 rw[←aH]
 clear aH
 refine RV (s.le aL) (by omega) id _ ?_ ?_
 ·intro h1 hno bF
  have n1:=bF.nx
  have l1:=bF.lo
  have g1:=(bF.get _ (by omega)).trans g1
  have g3:=(bF.get _ (by omega)).trans g3
  simp(disch:=first|omega|simp only[Wd]<;>omega|rfl)only[Wz,oM,g1,g3,bu]
  exact nO _ hno ((((aL.trans bF).set (by omega) _)).set (by omega) _)
 ·intro h1 e p he hf bF
  have n1:=bF.nx
  have l1:=bF.lo
  have g1:=(bF.get _ (by omega)).trans g1
  have g3:=(bF.get _ (by omega)).trans g3
  have s1:=(s.le aL).le bF
  have H:=s1.aS e he
  have hlt:=H.lt
  have gd:=s1.good e he
  have rG:=gd.small
  obtain ⟨qx,qc,eq,_⟩:=(show Sl bu h1 e.q e.Q from H.qv.1)
  have gh:=H.get
  rw[eq] at gh
  simp(disch:=first|omega|simp only[Wd]<;>omega|rfl)only[Wz,r6,D4,az,gh]
  refine I_ e.t e.r _ e.w id _ h1 _ (by rw[←eq]; exact H.qv.1) (by omega) (by omega) ?_
  intro h2 bt
  have n2:=bt.nx
  have l2:=bt.lo
  have g1:=(bt.get _ (by omega)).trans g1
  have g3:=(bt.get _ (by omega)).trans g3
  have gh2:=(bt.get _ hlt).trans gh
  rw[hf]
  simp(disch:=first|omega|simp only[Wd]<;>omega|rfl)only[Wz,bu,g1,g3,gh2,az,ag7]
  exact dy _ e p he hf (((((aL.trans bF).trans bt).new _).set (by omega) _).set (by omega) _)
end Go.Proofs

namespace Go.Vai
open Go
def prK (P:Program) (skip:FuncId→Bool):ki Prop:=⟨fun f=>match skip f with | true=>none | false=>some (CallW P f),And⟩
theorem GM (P:Program) (skip:FuncId→Bool):fN (fun p:Prop=>p) (prK P skip) P:=by
 refine ⟨fun x y h=>h,fun f g hg args args' h φ w κ ha hr hgood=>?_⟩
 unfold prK at hg
 simp only at hg
 split at hg
 ·cases hg
 ·cases hg
  exact hgood φ w args' ha hr
theorem Ks {P:Program} (hm:P.follows .mixedOrders=true) {skip:FuncId→Bool} {f:FuncId} {args:List Value} {h:Heap} {κ:Value→Heap→Prop} (n:Nat)
  (hg:kY False (prK P skip) P (run False (prK P skip) P n) f args h κ):CallW P f args h κ:=by
 intro φ w args' ha hr
 exact e_ (good:=fun p:Prop=>p) (fl:=False) (fun h=>h) (GM P skip) (z1 (fun h=>h) (GM P skip) (qD (fun h=>h) (GM P skip) hm) n).1 ha hr hg
def Oa (P:Program) (f:FuncId):Code:=match vU P f with | .mk c _ _=>c | .none=>.skip
def BD:Code→Code | .seq a _=>a | c=>c
def BE:Code→Code | .seq _ b=>b | c=>c
def inC:Code→Code | .block _ c=>c | .loop c=>c | .scope c=>c | c=>c
def rfA:Code→Code | .rangeFunc _ _ a _=>a | c=>c
def rfB:Code→Code | .rangeFunc _ _ _ b=>b | c=>c
end Go.Vai

namespace Go.Proofs
open Go.Vai Go.Clashes
abbrev fK:FuncId:=307
abbrev fA:FuncId:=204
def Un (f:FuncId):Bool:=Nat.beq f fK || Nat.beq f fA
noncomputable abbrev pN:ki Prop:=prK Tryz.prog Un
noncomputable abbrev RN (n:Nat):Rec Prop:=run False pN Tryz.prog n
noncomputable def cK:Code:=Oa Tryz.prog fK
noncomputable def cA:Code:=Oa Tryz.prog fA
noncomputable def kA:Code:=BD cK
noncomputable def kL:Code:=inC (inC (BE cK))
noncomputable def kB:Code:=BD kL
noncomputable def Uo:Code:=inC (BE (BE kL))
noncomputable def kC:Code:=BD Uo
noncomputable def kD:Code:=BD (BE Uo)
theorem acJ:cK=.seq kA (.block 0 (.loop (.seq kB (.seq (.cond (.tmp 7) .skip (.exit 0)) (.block 1 (.seq kC (.seq kD (.cond (.tmp 13) .ret .skip)))))))):=by kernel_rfl
noncomputable def aA:Code:=BD cA
noncomputable def aB:Code:=BD (BD (BE cA))
noncomputable def aR:Code:=inC (BE (BD (BE cA)))
noncomputable def aP:Code:=rfA aR
noncomputable def aQ:Code:=inC (rfB aR)
noncomputable def aC:Code:=BD (BE (BE cA))
theorem acK:cA=.seq aA (.seq (.seq aB (.block 0 (.rangeFunc (.tmp 6) #[7] aP (.block 1 aQ)))) (.seq aC .ret)):=by kernel_rfl
variable (rec:Rec Prop) (tm:T Value) (h:Heap)
theorem rkA (κ:Ex→T Value→Heap→Prop):body False pN Tryz.prog rec kA tm h κ =
  ev tm (.tmp 1) fun x=>load1 False x h fun v h=>T.set tm 4 v fun tm=>ev tm (.tmp 4) fun x=>m_ False x h fun v h=>T.set tm 5 v fun tm=>κ .normal tm h:=by kernel_rfl
theorem rkB (κ:Ex→T Value→Heap→Prop):body False pN Tryz.prog rec kB tm h κ =
  ev tm (.tmp 5) fun x=>p9 False And x h fun v h=>T.set tm 6 v fun tm=>ev tm (.tmp 6) fun x=>ax False 0 x h fun v h=>T.set tm 7 v fun tm=>κ .normal tm h:=by kernel_rfl
theorem rkC (κ:Ex→T Value→Heap→Prop):body False pN Tryz.prog rec kC tm h κ =
  ev tm (.tmp 5) fun x=>ng False x h fun v h=>T.set tm 8 v fun tm=>ev tm (.tmp 8) fun x=>ax False 0 x h fun v h=>T.set tm 9 v fun tm=>
   aq False (aa [.int .i64 0,.int .i64 0] 28 false) h fun b h=>T.set tm 3 (ptrTo b) fun tm=>ev tm (.tmp 3) fun a=>ev tm (.tmp 9) fun v=>aI False 2 a v h fun v h=>κ .normal tm h:=by kernel_rfl
theorem rkD (κ:Ex→T Value→Heap→Prop):body False pN Tryz.prog rec kD tm h κ =
  ev tm (.tmp 0) fun fv=>T.set tm 10 fv fun tm=>ev tm (.tmp 3) fun x=>ay False 2 x h fun v h=>T.set tm 11 v fun tm=>
   ev tm (.tmp 11) fun x=>ev tm (.tmp 10) fun fv=>zP False pN Tryz.prog rec fv [x] h fun v h=>T.set tm 12 v fun tm=>ev tm (.tmp 12) fun x=>jA False .not x h fun v h=>T.set tm 13 v fun tm=>κ .normal tm h:=by kernel_rfl
theorem ag8 (κ:Ex→T Value→Heap→Prop):body False pN Tryz.prog rec aA tm h κ =
  ev tm (.tmp 0) fun s=>aF False (Value.cells s).toList 156 false fun o=>aq False o h fun b h=>T.set tm 2 (ptrTo b) fun tm=>T.set tm 4 (.slice none 0 0) fun tm=>κ .normal tm h:=by kernel_rfl
theorem ag9 (κ:Ex→T Value→Heap→Prop):body False pN Tryz.prog rec aB tm h κ=ev tm (.tmp 1) fun g=>T.set tm 6 g fun tm=>κ .normal tm h:=by kernel_rfl
theorem ag_ (κ:Ex→T Value→Heap→Prop):body False pN Tryz.prog rec aP tm h κ =
  aq False (aa [.int .i64 0,.int .i64 0] 28 false) h fun b h=>T.set tm 5 (ptrTo b) fun tm=>ev tm (.tmp 5) fun a=>ev tm (.tmp 7) fun v=>aI False 2 a v h fun v h=>κ .normal tm h:=by kernel_rfl
theorem aha (κ:Ex→T Value→Heap→Prop):body False pN Tryz.prog rec aQ tm h κ =
  ev tm (.tmp 2) fun x=>load1 False x h fun v h=>T.set tm 8 v fun tm=>ev tm (.tmp 5) fun x=>ay False 2 x h fun v h=>T.set tm 9 v fun tm=>
   ev tm (.tmp 9) fun v=>br False [(0,2)] [v] [.int .i64 0,.int .i64 0] fun cs=>aF False cs 28 false fun o=>aq False o h fun b h=>T.set tm 10 (sliceTo 1 1 b) fun tm=>
   ev tm (.tmp 8) fun s=>ev tm (.tmp 10) fun x=>bL False 28 2 [.int .i64 0,.int .i64 0] false s x h fun v h=>T.set tm 11 v fun tm=>ev tm (.tmp 2) fun a=>ev tm (.tmp 11) fun v=>aI False 1 a v h fun v h=>κ .normal tm h:=by kernel_rfl
theorem ahb (κ:Ex→T Value→Heap→Prop):body False pN Tryz.prog rec aC tm h κ =
  ev tm (.tmp 2) fun x=>load1 False x h fun v h=>T.set tm 12 v fun tm=>ev tm (.tmp 12) fun v=>T.set tm 4 v fun tm=>κ .normal tm h:=by kernel_rfl
theorem acL (s g:Value) (κ:KQ):kY False pN Tryz.prog rec fA [s,g] h κ=rec cA (lay [s,g] .nil 0) h (JE False [.tmp 4] κ):=by kernel_rfl
theorem acM (y m:Value) (κ:KQ):kY False pN Tryz.prog rec fK [y,m] h κ=rec cK (lay [y,m] .nil 0) h (JE False [] κ):=by kernel_rfl
theorem iI (t:T Value) (n:Nat) (v:Value):di (t.aT n v) n=v:=by unfold di; rw[T.af]
theorem oP (t:T Value) {n m:Nat} (v:Value) (h:n≠m):di (t.aT n v) m=di t m:=by unfold di; rw[T.ai _ _ h]
theorem qP {β:Type} (tm:T Value) (t:Nat) (κ:Value→β):ev tm (.tmp t) κ=κ (di tm t):=fJ _ _ _
section
variable (n:Nat) (a b:Code) (tm:T Value) (h:Heap) (κ:Ex→T Value→Heap→Prop)
theorem EP:RN (n+1) (.seq a b) tm h κ=RN n a tm h (zd (RN n) b κ):=id rfl
theorem Ob (t:Nat):RN (n+1) (.cond (.tmp t) a b) tm h κ=vW False (RN n) a b tm h κ (di tm t):=fJ tm (.tmp t) (vW False (RN n) a b tm h κ)
theorem vK (i:Nat):RN (n+1) (.block i a) tm h κ=RN n a tm h (oe i κ):=id rfl
theorem Yl:RN (n+1) (.loop a) tm h κ=RN n a tm h (zd (RN n) (.loop a) κ):=id rfl
theorem Oc (i:Nat):RN (n+1) (.exit i) tm h κ=κ (.exit i) tm h:=id rfl
theorem acN:RN (n+1) .ret tm h κ=κ .ret tm h:=id rfl
theorem Od:RN (n+1) .skip tm h κ=κ .normal tm h:=id rfl
theorem ahc (t:Nat) (ps:Array Tmp):RN (n+1) (.rangeFunc (.tmp t) ps a b) tm h κ=gZ False pN Tryz.prog (RN n) ps.toList a b tm h κ (di tm t):=fJ tm (.tmp t) (gZ False pN Tryz.prog (RN n) ps.toList a b tm h κ)
theorem ahd:RN (n+1) kA tm h κ=body False pN Tryz.prog (RN n) kA tm h κ:=id rfl
theorem ahe:RN (n+1) kB tm h κ=body False pN Tryz.prog (RN n) kB tm h κ:=id rfl
theorem ahf:RN (n+1) kC tm h κ=body False pN Tryz.prog (RN n) kC tm h κ:=id rfl
theorem ahg:RN (n+1) kD tm h κ=body False pN Tryz.prog (RN n) kD tm h κ:=id rfl
theorem ahh:RN (n+1) aA tm h κ=body False pN Tryz.prog (RN n) aA tm h κ:=id rfl
theorem ahi:RN (n+1) aB tm h κ=body False pN Tryz.prog (RN n) aB tm h κ:=id rfl
theorem ahj:RN (n+1) aP tm h κ=body False pN Tryz.prog (RN n) aP tm h κ:=id rfl
theorem ahk:RN (n+1) aQ tm h κ=body False pN Tryz.prog (RN n) aQ tm h κ:=id rfl
theorem ahl:RN (n+1) aC tm h κ=body False pN Tryz.prog (RN n) aC tm h κ:=id rfl
theorem Kt (rec:Rec Prop):zd rec b κ .normal tm h=rec b tm h κ:=id rfl
theorem acO (rec:Rec Prop) (i:Nat):zd rec b κ (.exit i) tm h=κ (.exit i) tm h:=id rfl
theorem acP (rec:Rec Prop):zd rec b κ .ret tm h=κ .ret tm h:=id rfl
theorem R4 (i:Nat):oe i κ .normal tm h=κ .normal tm h:=id rfl
theorem ahm (i:Nat):oe i κ .ret tm h=κ .ret tm h:=id rfl
theorem Up:oe 0 κ (.exit 0) tm h=κ .normal tm h:=id rfl
theorem ahn (rec:Rec Prop):vW False rec a b tm h κ (.bool true)=rec a tm h κ:=id rfl
theorem acQ (rec:Rec Prop):vW False rec a b tm h κ (.bool false)=rec b tm h κ:=id rfl
end
noncomputable abbrev Oe:Code:=.seq kB (.seq (.cond (.tmp 7) .skip (.exit 0)) (.block 1 (.seq kC (.seq kD (.cond (.tmp 13) .ret .skip)))))
noncomputable abbrev jv (st:LoopState) (oQ:T Value):bC:=.loop st none oQ [7] aP (.block 1 aQ)
def fe (p:Int × Int):List Value:=[.int .i64 p.1,.int .i64 p.2]
theorem encN_len (p:Int × Int):(fe p).length=2:=rfl
theorem Of (p:Int × Int):(fe p).all cZ=true:=rfl
def dS (e:HE):Int × Int:=(e.t,e.r)
abbrev yh (a h:Heap) (v:Value) (L:List (Int × Int)):Prop:=gL fe a 28 h v L
structure Ym (a:Heap) (bm:Nat) (clock:Nat) (M:List HE) (oQ:T Value) (seen:List Nat) (tm:T Value) (h1:Heap) (v:Value) (L:List HE):Prop where
 le:Le a h1
 nx:a.nx+3≤h1.nx
 gs:h1.bl.get a.nx=some (aa [v] 156 false)
 gl:h1.bl.get (a.nx+1)=some (jv .ready oQ)
 gi:h1.bl.get (a.nx+2)=some (.dM (some bm) clock seen clock)
 own:yh a h1 v (L.map dS)
 perm:L.Perm (M.filter fun e=>seen.any (Nat.beq e.born))
 t0:di tm 0=.func (.yield (a.nx+1)) #[] #[]
 t5:di tm 5=ptrTo (a.nx+2)
theorem Yn (rec:Rec Prop) (l:Nat) (x:Value) (h:Heap) (κ:KQ):zP False pN Tryz.prog rec (.func (.yield l) #[] #[]) [x] h κ=sK False rec l [x] h κ:=id rfl
theorem round_eq {rec:Rec Prop} {l:Nat} {x:Value} {h:Heap} {κ:Value→Heap→Prop} {st:LoopState} {oQ:T Value} (hl:h.bl.get l=some (jv st oQ)):sK False rec l [x] h κ=rec aP (oQ.aT 7 x) h (ig False rec l (.block 1 aQ) κ):=by
 unfold sK
 simp only[hl,List.length_cons,List.length_nil]
 show vV [7] [x] oQ _=_
 unfold vV
 rw[T.fC]
 unfold vV
 rfl
theorem Og {rec:Rec Prop} {l:Nat} {bd:Code} {tm:T Value} {h:Heap} {κ:Value→Heap→Prop} {oQ:T Value} (hl:h.bl.get l=some (jv .ready oQ)) (hlo:h.lo≤l):ig False rec l bd κ .normal tm h=rec bd tm ⟨h.nx,h.bl.aT l (jv .busy oQ),h.lo⟩ (mu False l κ):=by
 unfold ig
 simp only[hl,bU _ _ _ _ hlo]
theorem Yo {l:Nat} {tm:T Value} {h:Heap} {κ:Value→Heap→Prop} {st:LoopState} {oQ:T Value} (hl:h.bl.get l=some (jv st oQ)) (hlo:h.lo≤l):mu False l κ .normal tm h=κ (.bool true) ⟨h.nx,h.bl.aT l (jv .ready oQ),h.lo⟩:=by
 unfold mu
 simp only[hl,bU _ _ _ _ hlo]
theorem Ku {M:List HE} {clock:Nat} (o:fh M clock) {e:HE} (he:e∈M) {seen:List Nat} (hn:seen.any (Nat.beq e.born)=false):(M.filter fun x=>(e.born::seen).any (Nat.beq x.born)).Perm (M.filter (fun x=>seen.any (Nat.beq x.born))++[e]):=by
 have hnd:M.Nodup:=o.bn.imp fun h e=>h (by rw[e])
 refine (List.perm_ext_iff_of_nodup (hnd.filter _) ?_).2 fun x=>?_
 ·rw[List.nodup_append]
  refine ⟨hnd.filter _,by simp,fun x hx y hy=>?_⟩
  rw[List.mem_singleton] at hy; subst hy
  rintro rfl
  rw[List.mem_filter,hn] at hx
  exact absurd hx.2 (by simp)
 ·rw[List.mem_filter,List.mem_append,List.mem_filter,List.mem_singleton,List.any_cons,Bool.or_eq_true]
  constructor
  ·rintro ⟨h1,h2 | h2⟩
   ·exact .inr (o.yc h1 he (Nat.eq_of_beq_eq_true h2))
   ·exact .inl ⟨h1,h2⟩
  ·rintro (⟨h1,h2⟩ | rfl)
   ·exact ⟨h1,.inr h2⟩
   ·exact ⟨he,.inl (Nat.beq_refl _)⟩
theorem Kv (a:Heap) (bm clock:Nat) (M:List HE) (oQ:T Value) (o:fh M clock) (g:a.bl.get bm=some (.map (M.map kM) clock)) (Av:bm<a.nx) (hlo:a.lo≤a.nx) (hM:M.length≤1000) (hA:di oQ 2=ptrTo a.nx) (κ:Ex→T Value→Heap→Prop)
  (hk:∀(tm:T Value) (h1:Heap) (v:Value) (L:List HE),L.Perm M→yh a h1 v (L.map dS)→Le a h1→a.nx+3≤h1.nx→h1.bl.get a.nx=some (aa [v] 156 false)→h1.bl.get (a.nx+1)=some (jv .ready oQ)→κ (.exit 0) tm h1) :
  ∀(k:Nat) (seen:List Nat) (tm:T Value) (h1:Heap) (v:Value) (L:List HE),BB M seen≤k→Ym a bm clock M oQ seen tm h1 v L→RN (k+12) (.loop Oe) tm h1 κ:=by
 have step:∀(k:Nat) (seen:List Nat) (tm:T Value) (h1:Heap) (v:Value) (L:List HE),Ym a bm clock M oQ seen tm h1 v L→
   (∀e∈M,seen.any (Nat.beq e.born)=false→∀(tm:T Value) (h1:Heap) (v:Value) (L:List HE),Ym a bm clock M oQ (e.born::seen) tm h1 v L→RN (k+11) (.loop Oe) tm h1 κ)→RN (k+12) (.loop Oe) tm h1 κ:=by
  intro k seen tm h1 v L I hnext
  have n1:=I.nx
  have l1:=I.le.lo
  have gm:=(I.le.get bm Av).trans g
  rw[show k+12=k+11+1 from by omega,Yl]
  simp(disch:=first|omega|simp only[Wd]<;>omega|rfl)only[Wz,EP,ahe,rkB,qP,T.fC,iI,oP,Kt,acO,acP,R4,ahm,Up,I.t5]
  refine NU o I.gi gm (by omega) _ ?_ ?_
  ·intro hall
   simp(disch:=first|omega|simp only[Wd]<;>omega|rfl)only[Wz,Ob,iI,acQ,Oc,acO]
   have hf:M.filter (fun e=>seen.any (Nat.beq e.born))=M:=List.filter_eq_self.2 hall
   exact hk _ h1 v L (hf▸I.perm) I.own I.le n1 I.gs I.gl
  ·intro e he HL
   obtain ⟨h2,e2⟩:∃h2:Heap,h2=⟨h1.nx,h1.bl.aT (a.nx+2) (.dM (some bm) clock (e.born::seen) clock),h1.lo⟩:=⟨_,rfl⟩
   have bt:Le a h2:=by rw[e2]; exact I.le.set (by omega) _
   have n2:h2.nx=h1.nx:=by rw[e2]
   have l2:h2.lo=h1.lo:=by rw[e2]
   have gi2:h2.bl.get (a.nx+2)=some (.dM (some bm) clock (e.born::seen) clock):=by rw[e2]; exact T.af _ _ _
   have gs2:h2.bl.get a.nx=some (aa [v] 156 false):=by rw[e2]; exact (T.ai _ _ (by omega)).trans I.gs
   have gl2:h2.bl.get (a.nx+1)=some (jv .ready oQ):=by rw[e2]; exact (T.ai _ _ (by omega)).trans I.gl
   have lY:yh a h2 v (L.map dS):=by rw[e2]; exact gL.put I.own (by rw[I.gi]; intro hc; unfold aa at hc; cases hc) _
   rw[←e2]
   clear e2
   have gm2:=(bt.get bm Av).trans g
   simp(disch:=first|omega|simp only[Wd]<;>omega|rfl)only[Wz,Ob,Od,EP,vK,iI,oP,ahn,Oc,Kt,ahf,rkC,qP,T.fC,I.t5,Jd o he gi2 gm2,cN,ahg,rkD,I.t0]
   have n3:a.nx+3≤h2.nx:=by omega
   obtain ⟨h3,e3⟩:∃h3:Heap,h3=⟨h2.nx+1,h2.bl.aT h2.nx (aa [.int .i64 e.t,.int .i64 e.r] 28 false),h2.lo⟩:=⟨_,rfl⟩
   have Oh:Le h2 h3:=by rw[e3]; exact (Le.refl h2).new _
   have nx3:h3.nx=h2.nx+1:=by rw[e3]
   have l3:h3.lo=h2.lo:=by rw[e3]
   have gl3:=(Oh.get _ (by omega)).trans gl2
   rw[←e3,Yn,round_eq gl3]
   clear e3
   simp(disch:=first|omega|simp only[Wd]<;>omega|rfl)only[Wz,ahj,ag_,T.fC,qP,iI,oP]
   obtain ⟨h4,e4⟩:∃h4:Heap,h4=⟨h3.nx+1,h3.bl.aT h3.nx (aa [.int .i64 e.t,.int .i64 e.r] 28 false),h3.lo⟩:=⟨_,rfl⟩
   have Oi:Le h3 h4:=by rw[e4]; exact (Le.refl h3).new _
   have nx4:h4.nx=h3.nx+1:=by rw[e4]
   have l4:h4.lo=h3.lo:=by rw[e4]
   have gn4:h4.bl.get h3.nx=some (aa [.int .i64 e.t,.int .i64 e.r] 28 false):=by rw[e4]; exact T.af _ _ _
   have gl4:=(Oi.get _ (by omega)).trans gl3
   have gs4:=((Oh.trans Oi).get _ (by omega)).trans gs2
   have gi4:=((Oh.trans Oi).get _ (by omega)).trans gi2
   have Lu:yh a h4 v (L.map dS):=lY.le (Oh.trans Oi)
   rw[←e4,Og gl4 (by omega)]
   clear e4
   have gs5:(h4.bl.aT (a.nx+1) (jv .busy oQ)).get a.nx=_:=(T.ai _ _ (by omega)).trans gs4
   have gn5:(h4.bl.aT (a.nx+1) (jv .busy oQ)).get h3.nx=_:=(T.ai _ _ (by omega)).trans gn4
   simp(disch:=first|omega|simp only[Wd]<;>omega|rfl)only[Wz,vK,ahk,aha,T.fC,qP,iI,oP,hA,gs5,gn5]
   obtain ⟨h5,e5⟩:∃h5:Heap,h5=⟨h4.nx+1,(h4.bl.aT (a.nx+1) (jv .busy oQ)).aT h4.nx (aa [.int .i64 e.t,.int .i64 e.r] 28 false),h4.lo⟩:=⟨_,rfl⟩
   have aho:Le a h5:=by rw[e5]; exact (((bt.trans Oh).trans Oi).set (b:=a.nx+1) (by omega) _).new _
   have nx5:h5.nx=h4.nx+1:=by rw[e5]
   have l5:h5.lo=h4.lo:=by rw[e5]
   have gs5:h5.bl.get a.nx=some (aa [v] 156 false):=by rw[e5]; exact (T.ai _ _ (by omega)).trans gs5
   have gl5:h5.bl.get (a.nx+1)=some (jv .busy oQ):=by rw[e5]; exact (T.ai _ _ (by omega)).trans (T.af _ _ _)
   have gi5:h5.bl.get (a.nx+2)=some (.dM (some bm) clock (e.born::seen) clock):=by rw[e5]; exact (T.ai _ _ (by omega)).trans ((T.ai _ _ (by omega)).trans gi4)
   have gx5:h5.bl.get h4.nx=some (aa ([dS e].flatMap fe) 28 false):=by rw[e5]; exact T.af _ _ _
   have rX:yh a h5 v (L.map dS):=by
    rw[e5]
    exact gL.le (gL.put Lu (by rw[gl4]; intro hc; unfold aa at hc; cases hc) _) ((Le.refl _).new _)
   have hLl:L.length≤1000:=by
    rw[I.perm.length_eq]
    exact Nat.le_trans (List.length_filter_le _ _) hM
   rw[←e5]
   clear e5
   refine iT (enc:=fe) (a:=a) (L:=L.map dS) (M:=[dS e]) encN_len Of (by decide) (by decide) rX (Sl.new (by omega) gx5 _) aho (by simp; omega) (by omega) _ ?_
   intro v' h6 Ui BF _ n6 l6 Oj
   have gs6:=(Oj a.nx (by omega) (by rw[gs5]; exact bh)).trans gs5
   have gl6:=(Oj (a.nx+1) (by omega) (by rw[gl5]; intro hc; unfold aa at hc; cases hc)).trans gl5
   have gi6:=(Oj (a.nx+2) (by omega) (by rw[gi5]; intro hc; unfold aa at hc; cases hc)).trans gi5
   obtain ⟨x',c',rfl,_⟩:=(show Sl fe h6 v' _ from Ui.sl)
   simp(disch:=first|omega|simp only[Wd]<;>omega|rfl)only[Wz,gs6]
   obtain ⟨h7,e7⟩:∃h7:Heap,h7=⟨h6.nx,h6.bl.aT a.nx (aa [.slice x' (L.map dS++[dS e]).length c'] 156 false),h6.lo⟩:=⟨_,rfl⟩
   have gl7:h7.bl.get (a.nx+1)=some (jv .busy oQ):=by rw[e7]; exact (T.ai _ _ (by omega)).trans gl6
   have nx7:h7.nx=h6.nx:=by rw[e7]
   have l7:h7.lo=h6.lo:=by rw[e7]
   have gs7:h7.bl.get a.nx=some (aa [.slice x' (L.map dS++[dS e]).length c'] 156 false):=by rw[e7]; exact T.af _ _ _
   have gi7:h7.bl.get (a.nx+2)=some (.dM (some bm) clock (e.born::seen) clock):=by rw[e7]; exact (T.ai _ _ (by omega)).trans gi6
   have Yp:Le a h7:=by rw[e7]; exact BF.set (by omega) _
   have ho7:yh a h7 (.slice x' (L.map dS++[dS e]).length c') (L.map dS++[dS e]):=by rw[e7]; exact gL.put Ui (by rw[gs6]; exact bh) _
   rw[←e7,R4,Yo gl7 (by omega)]
   clear e7
   simp(disch:=first|omega|simp only[Wd]<;>omega|rfl)only[Wz,acQ,Od,R4,Kt]
   have fr:∀c,c≠a.nx+1→(h7.bl.aT (a.nx+1) (jv .ready oQ)).get c=h7.bl.get c:=fun c hc=>T.ai _ _ (fun e=>hc e.symm)
   refine hnext e he HL _ _ (.slice x' (L.map dS++[dS e]).length c') (L++[e]) ⟨Yp.set (by omega) _,by show a.nx+3≤h7.nx; omega,(fr _ (by omega)).trans gs7,T.af _ _ _,(fr _ (by omega)).trans gi7,?_,(I.perm.append_right _).trans (Ku o he HL).symm,?_,?_⟩
   ·rw[List.map_append]
    exact gL.put ho7 (by rw[gl7]; intro hc; unfold aa at hc; cases hc) _
   ·simp (disch:=decide) only [oP]; exact I.t0
   ·simp (disch:=decide) only [oP]; exact I.t5
 intro k
 induction k with
 | zero=>
  intro seen tm h1 v L hu I
  refine step 0 seen tm h1 v L I fun e he HL=>?_
  have:=tI he HL
  omega
 | succ k ih=>
  intro seen tm h1 v L hu I
  refine step (k+1) seen tm h1 v L I fun e he HL cC h1' v' L' I'=>ih (e.born::seen) cC h1' v' L' ?_ I'
  have:=tI he HL
  omega
theorem acS (rec:Rec Prop) (ps:List Nat) (x y:Code) (tm:T Value) (h:Heap) (κ:Ex→T Value→Heap→Prop) (c:Value) :
  gZ False pN Tryz.prog rec ps x y tm h κ (.func (.func fK) #[] #[c])=kY False pN Tryz.prog rec fK [.func (.yield h.nx) #[] #[],c] ⟨h.nx+1,h.bl.aT h.nx (.loop .ready none tm ps x y),h.lo⟩ (iP False h.nx tm κ):=dx (fl:=False) (.loop .ready none tm ps x y) h (fun l h=>kY False pN Tryz.prog rec fK [.func (.yield l) #[] #[],c] h (iP False l tm κ))
theorem NQ (tm:T Value) (h:Heap) (κ:KQ):JE False [] κ .normal tm h=κ (.tuple ⟨[]⟩) h:=id rfl
theorem ahp (tm:T Value) (h:Heap) (κ:KQ):JE False [.tmp 4] κ .ret tm h=κ (di tm 4) h:=fJ tm (.tmp 4) fun v=>κ v h
theorem Ol {l:Nat} {tm oQ:T Value} {v:Value} {h:Heap} {κ:Ex→T Value→Heap→Prop} (hl:h.bl.get l=some (jv .ready oQ)) (hlo:h.lo≤l):∃o,iP False l tm κ v h=κ .normal tm ⟨h.nx,h.bl.aT l o,h.lo⟩:=by
 refine ⟨.loop .exhausted none oQ [7] aP (.block 1 aQ),?_⟩
 unfold iP
 simp only[hl,bU _ _ _ _ hlo]
theorem acT (s g:Value):lay [s,g] .nil 0=((T.nil:T Value).aT 0 s).aT 1 g:=by kernel_rfl
theorem ES (M:List HE) (clock bm mc:Nat) (a:Heap) (o:fh M clock) (g:a.bl.get bm=some (.map (M.map kM) clock)) (Av:bm<a.nx) (gc:a.bl.get mc=some (aa [.map (some bm)] 265 false)) (hmc:mc<a.nx) (hlo:a.lo≤a.nx) (hM:M.length≤1000) (κ:KQ)
  (hk:∀v h' (L:List HE),L.Perm M→yh a h' v (L.map dS)→Le a h'→κ v h') :
  CallW Tryz.prog fA [.slice none 0 0,.func (.func fK) #[] #[.pointer (some ⟨mc,0,none⟩)]] a κ:=by
 refine Ks mixed (skip:=Un) (M.length+60) ?_
 rw[acL,acK,acT]
 simp(disch:=first|omega|simp only[Wd]<;>omega|rfl)only[Wz,EP,ahh,ag8,T.fC,qP,iI,oP,Kt,ahi,ag9,vK,ahc,acS]
 generalize htm:(((((T.nil:T Value).aT 0 (Value.slice none 0 0)).aT 1 (Value.func (Fn.func fK) #[] #[Value.pointer (some ⟨mc,0,none⟩)])).aT 2 (Value.pointer (some ⟨a.nx,0,none⟩))).aT 4 (Value.slice none 0 0)).aT 6 (Value.func (Fn.func fK) #[] #[Value.pointer (some ⟨mc,0,none⟩)])=oQ
 have hA:di oQ 2=ptrTo a.nx:=by rw[←htm]; simp (disch:=decide) only [oP,iI]; rfl
 obtain ⟨Om,yj⟩:∃Om:Heap,Om=⟨a.nx+1+1,((a.bl.aT (a.nx) (aa [.slice none 0 0] 156 false)).aT (a.nx+1) (jv .ready oQ)),a.lo⟩:=⟨_,rfl⟩
 have GN:Le a Om:=by subst yj; exact (((Le.refl a).new _).new _)
 have gs:Om.bl.get (a.nx)=some (aa [.slice none 0 0] 156 false):=by subst yj; exact (T.ai _ _ (by omega)).trans (T.af _ _ _)
 have gl:Om.bl.get (a.nx+1)=some (jv .ready oQ):=by subst yj; exact T.af _ _ _
 have ajq:Om.nx=a.nx+1+1:=by subst yj; rfl
 have ajr:Om.lo=a.lo:=by subst yj; rfl
 rw[←yj]
 clear yj
 have tJ:=(GN.get _ hmc).trans gc
 have gm2:=(GN.get _ Av).trans g
 rw[acM,acJ,acT]
 simp(disch:=first|omega|simp only[Wd]<;>omega|rfl)only[Wz,EP,ahd,rkA,T.fC,qP,iI,oP,Kt,tJ,EL gm2,vK]
 refine Kv a bm clock M oQ o g Av hlo hM hA _ ?_ (M.length+41) [] _ _ (.slice none 0 0) [] ?_ ?_
 ·intro tm h1 v L hp ho bF n1 g1 gl1
  have l1:=bF.lo
  obtain ⟨ob,ea⟩:=Ol (tm:=oQ) (v:=.tuple ⟨[]⟩) (κ:=oe 0 (zd (RN (M.length+58)) (aC.seq Code.ret) (JE False [zc.tmp 4] κ))) gl1 (by omega)
  rw[Up,NQ,ea]
  have gs1:(h1.bl.aT (a.nx+1) ob).get a.nx=some (aa [v] 156 false):=(T.ai _ _ (by omega)).trans g1
  simp(disch:=first|omega|simp only[Wd]<;>omega|rfl)only[Wz,R4,Kt,EP,ahl,ahb,T.fC,qP,iI,oP,hA,gs1,acN,acP,ahp]
  exact hk v _ L hp (gL.put ho (by rw[gl1]; intro hc; unfold aa at hc; cases hc) _) (bF.set (by omega) _)
 ·exact Nat.le_trans (List.countP_le_length) (by omega)
 ·have e2:Om.nx=a.nx+2:=by omega
  refine ⟨GN.new _,by show a.nx+3≤Om.nx+1; omega,(T.ai _ _ (by omega)).trans gs,(T.ai _ _ (by omega)).trans gl,by rw[←e2]; exact T.af _ _ _,.inl ⟨rfl,.inl rfl⟩,?_,?_,?_⟩
  ·rw[List.filter_eq_nil_iff.2 (fun x _=>by simp)]
  ·simp (disch:=decide) only [oP,iI]
  ·rw[iI,e2]; rfl
def p5 (a b:Int):Int:=if a<b then -1 else if b<a then 1 else 0
def mP (t r t' r':Int):Int:=if p5 t t'=0 then p5 r r' else p5 t t'
theorem Jf (a:Int) {h:Heap} {κ:Value→Heap→Prop} (hk:κ (.bool false) h):CallW Tryz.prog 174 [.int .i64 a] h κ:=by
 refine gT (v:=.bool false) rfl rfl (an mixed ?_) hk
 rw[Wg]; simp(disch:=first|omega|simp only[Wd]<;>omega|rfl)only[Wz]
theorem qQ (a b:Int) {h:Heap} {κ:Value→Heap→Prop} (hk:κ (.int .i64 (p5 a b)) h):CallW Tryz.prog 119 [.int .i64 a,.int .i64 b] h κ:=by
 refine gT (v:=.int .i64 (p5 a b)) rfl rfl (an mixed ?_) hk
 rw[VL]
 refine Jf _ (Jf _ ?_)
 rcases Int.lt_trichotomy a b with h1 | h1 | h1
 ·simp(disch:=first|omega|simp only[Wd]<;>omega|rfl)only[Wz,rS]; simp[p5,h1]
 ·simp(disch:=first|omega|simp only[Wd]<;>omega|rfl)only[Wz,rS]; simp[p5,h1]
 ·simp(disch:=first|omega|simp only[Wd]<;>omega|rfl)only[Wz,rS]; simp[p5,h1]; omega
theorem acU (a b:Int) (h:Heap) (v:Value) (hv:Sl (fun n=>[Value.int .i64 n]) h v [a,b]) (κ:KQ) (hk:κ (.int .i64 (if a=0 then b else a)) h):CallW Tryz.prog 118 [v] h κ:=by
 refine an mixed ?_
 rw[VK]
 simp only[hv.len]
 have he:∀n:Int,((fun n=>[Value.int .i64 n]) n).length=1:=fun _=>rfl
 have f0:=hv.ld he 0 (p:=a) rfl
 have f1:=hv.ld he 1 (p:=b) rfl
 obtain ⟨b0,o0,hb0,acV,_,hh0⟩:=f0
 obtain ⟨b1,o1,hb1,R6,_,Qv⟩:=f1
 have hx0:=fun (β:Type) (fl:β) κ=>dR (fl:=fl) hh0 0 κ (Nat.lt_succ_self _)
 have hx1:=fun (β:Type) (fl:β) κ=>dR (fl:=fl) Qv 0 κ (Nat.lt_succ_self _)
 simp only[Nat.add_zero] at hx0 hx1
 refine ⟨fun n l h1=>h1=h∧∃k:Nat,slot l 10=.int .i64 (k:Int)∧k≤2∧n=2-k∧(0<k→a=0)∧(1<k→b=0),⟨2,rfl,0,rfl,by omega,by omega,by omega,by omega⟩,?_⟩
 rintro n l h1 ⟨rfl,k,hs,hk2,rfl,ha,hb⟩
 have:k=0∨k=1∨k=2:=by omega
 rcases this with rfl | rfl | rfl
 ·by_cases h1:a=0
  ·simp(disch:=first|omega|simp only[Wd]<;>omega|rfl)only[Wz,hv.len,hs,oG,acV,hx0,h1,List.length_cons,List.length_nil]
   exact ⟨1,by omega,trivial,1,rfl,by omega,by omega,fun _=>trivial,fun h=>by omega⟩
  ·simp(disch:=first|omega|simp only[Wd]<;>omega|rfl)only[Wz,hv.len,hs,oG,acV,hx0,aV h1,List.length_cons,List.length_nil]
   simpa[h1] using hk
 ·have ha:=ha (by omega)
  by_cases h1:b=0
  ·simp(disch:=first|omega|simp only[Wd]<;>omega|rfl)only[Wz,hv.len,hs,oG,R6,hx1,h1,List.length_cons,List.length_nil]
   exact ⟨0,by omega,trivial,2,rfl,by omega,by omega,fun _=>ha,fun h=>trivial⟩
  ·simp(disch:=first|omega|simp only[Wd]<;>omega|rfl)only[Wz,hv.len,hs,oG,R6,hx1,aV h1,List.length_cons,List.length_nil]
   simpa[ha] using hk
 ·simp(disch:=first|omega|simp only[Wd]<;>omega|rfl)only[Wz,hv.len,hs,List.length_cons,List.length_nil]
  have ha:=ha (by omega)
  have hb:=hb (by omega)
  simpa[ha,hb] using hk
theorem jw (t r t' r':Int) {h:Heap} {κ:Value→Heap→Prop} (hk:κ (.int .i64 (mP t r t' r')) h):CallW Tryz.prog 96 [cN t r,cN t' r'] h κ:=by
 refine gT (v:=.int .i64 (mP t r t' r')) rfl rfl (an mixed ?_) hk
 rw[abz]
 simp(disch:=first|omega|simp only[Wd]<;>omega|rfl)only[Wz,cN]
 refine qQ _ _ ?_
 simp(disch:=first|omega|simp only[Wd]<;>omega|rfl)only[Wz]
 refine qQ _ _ ?_
 simp(disch:=first|omega|simp only[Wd]<;>omega|rfl)only[Wz]
 refine acU _ _ _ _ (Sl.new (L:=[p5 t t',p5 r r']) (e:=3) (op:=false) (Nat.lt_succ_self _) (T.af _ _ _) _) _ ?_
 rfl
def u7 (p q:Int × Int):Prop:=p.1<q.1∨(p.1=q.1∧p.2<q.2)
theorem Kw {a b c:Int × Int} (h1:u7 a b) (h2:u7 b c):u7 a c:=by unfold u7 at *; omega
theorem ET (p q:Int × Int):mP p.1 p.2 q.1 q.2<0↔u7 p q:=by
 unfold mP p5 u7
 split<;>split<;>(try split)<;>(try split)<;>omega
theorem Jg {p q:Int × Int} (h:p≠q) (hn:¬u7 p q):u7 q p:=by
 unfold u7 at *
 have:¬(p.1=q.1∧p.2=q.2):=fun ⟨a,b⟩=>h (Prod.ext a b)
 omega
end Go.Proofs

namespace Go.Vai
open Go
section
variable {α:Type} {s:Nat} {enc:α→List Value}
end
end Go.Vai
namespace Go.Vai
open Go
section
variable {β:Type} {fl:β} {α:Type} {s:Nat} {enc:α→List Value}
theorem gL.same {a h:Heap} {e:TypeId} {v:Value} {L:List α} (ho:gL enc a e h v L):jX 8 v v=true:=by
 rcases ho with ⟨rfl,rfl | ⟨b,o,rfl⟩⟩ | ⟨b,rfl,h1,h2,h3,h4⟩
 ·rw[rM]
 ·rw[gu]
 ·rw[gu]
end
end Go.Vai

namespace Go.Proofs
open Go.Vai Go.Clashes
end Go.Proofs
