/-
  PROVED HERE: a part of the proof (K0, K1, K2, K3, K4, K5, K6, K7, K8, K9, K10, K11, K12, K13, K14, K15, K16, K17, K18, K19).
-/
import Derived.Test.YtmllggkhfmjpgaaGreatDoorG3
import Derived.Test.YtmllggkhfmjpgaaGreatDoorRZ
set_option linter.unusedVariables false
set_option linter.unusedSimpArgs false
set_option maxRecDepth 100000
namespace Go.Proofs
open Go.Vai Go.Clashes
theorem mixed:Tryz.prog.follows .mixedOrders=true:=by kernel_rfl
def cN (t r:Int):Value:=.agg ⟨[.int .i64 t,.int .i64 r]⟩
theorem abY:∀i,i<7→∀j,j<7→bx Tryz.prog 200 299 [.int .i64 (.ofNat i),.int .i64 (.ofNat j)] (.bool (cmp (.ofNat i) (.ofNat j)))=true:=by decide +kernel
theorem abZ (n:Nat) (b:Int):bx Tryz.prog 200 299 [.int .i64 (.negSucc n),.int .i64 b] (.bool false)=true:=by kernel_rfl
theorem ab0 (n:Nat) (b:Int):bx Tryz.prog 200 299 [.int .i64 (.ofNat (n+7)),.int .i64 b] (.bool false)=true:=by kernel_rfl
theorem ab1:∀i,i<7→∀n:Nat,bx Tryz.prog 200 299 [.int .i64 (.ofNat i),.int .i64 (.negSucc n)] (.bool false)=true:=by
 refine seven ?_ ?_ ?_ ?_ ?_ ?_ ?_<;>intro n<;>kernel_rfl
theorem ab2:∀i,i<7→∀n:Nat,bx Tryz.prog 200 299 [.int .i64 (.ofNat i),.int .i64 (.ofNat (n+7))] (.bool false)=true:=by
 refine seven ?_ ?_ ?_ ?_ ?_ ?_ ?_<;>intro n<;>kernel_rfl
theorem NG (a b:Int) {h:Heap} {κ:Value→Heap→Prop} (hk:κ (.bool (cmp a b)) h):CallW Tryz.prog 299 [.int .i64 a,.int .i64 b] h κ:=
 pI mixed (F:=fun a b=>.bool (cmp a b)) abY (fun n b=>by rw[MV (tj n)]; exact abZ n b) (fun n b=>by rw[MV (tq n)]; exact ab0 n b) (fun i hi n=>by rw[T3 (tj n)]; exact ab1 i hi n) (fun i hi n=>by rw[T3 (tq n)]; exact ab2 i hi n) a b hk
theorem ab3:∀i,i<7→∀j,j<7→bx Tryz.prog 200 178 [.int .i64 (.ofNat i),.int .i64 (.ofNat j)] (.bool (jT (.ofNat i) (.ofNat j)))=true:=by decide +kernel
theorem ab4 (n:Nat) (b:Int):bx Tryz.prog 200 178 [.int .i64 (.negSucc n),.int .i64 b] (.bool false)=true:=by kernel_rfl
theorem ab5 (n:Nat) (b:Int):bx Tryz.prog 200 178 [.int .i64 (.ofNat (n+7)),.int .i64 b] (.bool false)=true:=by kernel_rfl
theorem ab6:∀i,i<7→∀n:Nat,bx Tryz.prog 200 178 [.int .i64 (.ofNat i),.int .i64 (.negSucc n)] (.bool false)=true:=by
 refine seven ?_ ?_ ?_ ?_ ?_ ?_ ?_<;>intro n<;>kernel_rfl
theorem ab7:∀i,i<7→∀n:Nat,bx Tryz.prog 200 178 [.int .i64 (.ofNat i),.int .i64 (.ofNat (n+7))] (.bool false)=true:=by
 refine seven ?_ ?_ ?_ ?_ ?_ ?_ ?_<;>intro n<;>kernel_rfl
theorem mL (a b:Int) {h:Heap} {κ:Value→Heap→Prop} (hk:κ (.bool (jT a b)) h):CallW Tryz.prog 178 [.int .i64 a,.int .i64 b] h κ:=
 pI mixed (F:=fun a b=>.bool (jT a b)) ab3 (fun n b=>by rw[T1 (tj n)]; exact ab4 n b) (fun n b=>by rw[T1 (tq n)]; exact ab5 n b) (fun i hi n=>by rw[T2 (tj n)]; exact ab6 i hi n) (fun i hi n=>by rw[T2 (tq n)]; exact ab7 i hi n) a b hk
theorem ab8:∀i,i<7→∀j,j<7→bx Tryz.prog 200 129 [.int .i64 (.ofNat i),.int .i64 (.ofNat j)] (.int .i64 (bR (.ofNat i) (.ofNat j)))=true:=by decide +kernel
theorem ab9 (n:Nat) (b:Int):bx Tryz.prog 200 129 [.int .i64 (.negSucc n),.int .i64 b] (.int .i64 0)=true:=by kernel_rfl
theorem ab_ (n:Nat) (b:Int):bx Tryz.prog 200 129 [.int .i64 (.ofNat (n+7)),.int .i64 b] (.int .i64 0)=true:=by kernel_rfl
theorem acd:∀i,i<7→∀n:Nat,bx Tryz.prog 200 129 [.int .i64 (.ofNat i),.int .i64 (.negSucc n)] (.int .i64 0)=true:=by
 refine seven ?_ ?_ ?_ ?_ ?_ ?_ ?_<;>intro n<;>kernel_rfl
theorem ace:∀i,i<7→∀n:Nat,bx Tryz.prog 200 129 [.int .i64 (.ofNat i),.int .i64 (.ofNat (n+7))] (.int .i64 0)=true:=by
 refine seven ?_ ?_ ?_ ?_ ?_ ?_ ?_<;>intro n<;>kernel_rfl
theorem uE (a b:Int) {h:Heap} {κ:Value→Heap→Prop} (hk:κ (.int .i64 (bR a b)) h):CallW Tryz.prog 129 [.int .i64 a,.int .i64 b] h κ:=
 pI mixed (F:=fun a b=>.int .i64 (bR a b)) ab8 (fun n b=>by rw[MT (tj n)]; exact ab9 n b) (fun n b=>by rw[MT (tq n)]; exact ab_ n b) (fun i hi n=>by rw[MU (tj n)]; exact acd i hi n) (fun i hi n=>by rw[MU (tq n)]; exact ace i hi n) a b hk
theorem nE (a:Int) {h:Heap} {κ:Value→Heap→Prop} (hk:κ (.bool (kn a)) h):CallW Tryz.prog 103 [.int .i64 a] h κ:=by
 refine gT (v:=.bool (kn a)) rfl rfl (an mixed ?_) hk
 rw[VA]
 by_cases h1:a<0
 ·simp(disch:=first|omega|simp only[Wd]<;>omega|rfl)only[Wz]; simp[kn]; omega
 ·by_cases h2:6<a
  ·simp(disch:=first|omega|simp only[Wd]<;>omega|rfl)only[Wz]; simp[kn]; omega
  ·simp(disch:=first|omega|simp only[Wd]<;>omega|rfl)only[Wz]; simp[kn]; omega
abbrev kK (r:R5):Value:=.agg ⟨bu r⟩
noncomputable abbrev iy (r:R5):bC:=aa [.int .i64 r.id,.int .i64 r.x,.int .i64 r.m,.int .i64 r.w,.int .i64 r.s] 57 false
def zR:List Value:=[.int .i64 0,.int .i64 0,.int .i64 0,.int .i64 0,.int .i64 0]
theorem agB:C8 Tryz.prog 53:=⟨fun h n c n' c'=>by kernel_rfl,fun h a n c n' c'=>by kernel_rfl⟩
theorem NH (a0 a1:Value) (h:Heap) (κ:KQ):aK Tryz.prog 363 [a0,a1] h κ=dX Tryz.prog 3 5 a0 a1 h κ:=by kernel_rfl
theorem acf (a0 a1:Value) (h:Heap) (κ:KQ):aK Tryz.prog 421 [a0,a1] h κ=fV Tryz.prog 3 363 a0 a1 h κ:=by kernel_rfl
theorem acg (a0:Value) (h:Heap) (κ:KQ):aK Tryz.prog 165 [a0] h κ=vB Tryz.prog 53 57 5 zR a0 h κ:=by kernel_rfl
theorem ach (a0 a1:Value) (h:Heap) (κ:KQ):aK Tryz.prog 415 [a0,a1] h κ=dY Tryz.prog 3 363 57 5 zR a0 a1 h κ:=by kernel_rfl
theorem xW (L:List R5) (F:R5→Bool) (h:Heap) (v fv:Value) (κ:KQ) (hv:Sl bu h v L) (hlen:L.length≤1000000)
  (hF:∀p,p∈L→∀(h1:Heap) (κ1:Value→Heap→Prop),Le h h1→(∀h2,Le h1 h2→κ1 (.bool (F p)) h2)→eU Tryz.prog fv [kK p] h1 κ1)
  (hk:∀h',Le h h'→κ (.int .i64 (eZ (L.findIdx? F))) h'):CallW Tryz.prog 363 [v,fv] h κ:=
 kI mixed cq NH L F h v fv κ hv hlen hF hk
theorem lE (L:List R5) (F:R5→Bool) (h:Heap) (v fv:Value) (κ:KQ) (hv:Sl bu h v L) (hlen:L.length≤1000000)
  (hF:∀p,p∈L→∀(h1:Heap) (κ1:Value→Heap→Prop),Le h h1→(∀h2,Le h1 h2→κ1 (.bool (F p)) h2)→eU Tryz.prog fv [kK p] h1 κ1)
  (hk:∀h',Le h h'→κ (.bool (L.any F)) h'):CallW Tryz.prog 421 [v,fv] h κ:=
 lT mixed cq NH acf L F h v fv κ hv hlen hF hk
abbrev u0 (a h:Heap) (v:Value) (L:List R5):Prop:=gL bu a 57 h v L
theorem EB (L:List R5) (h:Heap) (v:Value) (κ:KQ) (hv:Sl bu h v L) (hlen:L.length≤1000000) (hlo:h.lo≤h.nx) (hk:∀v' h',u0 h h' v' L→Le h h'→κ v' h'):CallW Tryz.prog 165 [v] h κ:=
 MO mixed cq w9 (by decide) (by decide) agB acg L h v κ hv hlen hlo hk
theorem Kg (a h:Heap) (L:List R5) (F:R5→Bool) (v fv:Value) (κ:KQ) (hle:Le a h) (ho:u0 a h v L) (hlen:L.length≤100000) (hlo:a.lo≤a.nx)
  (hF:∀p,∀(h1:Heap) (κ1:Value→Heap→Prop),Le a h1→(h.nx≤h1.nx∧∀c,c<h.nx→h.bl.get c≠some (aa (L.flatMap bu) 57 true)→h1.bl.get c=h.bl.get c)→(∀h2,Le h1 h2→κ1 (.bool (F p)) h2)→eU Tryz.prog fv [kK p] h1 κ1)
  (hk:∀v' h',Sl bu h' v' (L.filter fun p=>!F p)→Cut 57 5 h' v' (L.filter fun p=>!F p).length→Le a h'→(h.nx≤h'.nx∧∀c,c<h.nx→h.bl.get c≠some (aa (L.flatMap bu) 57 true)→h'.bl.get c=h.bl.get c)→uz 57 h' v'→κ v' h'):CallW Tryz.prog 415 [v,fv] h κ:=
 wZ mixed cq w9 (by decide) rfl rfl (by decide) NH ach a h L F v fv κ hle ho hlen hlo hF hk
theorem NI {h:Heap} {v:Value} {L:List R5} (hs:Sl bu h v L) (i:Nat) {p:R5} (hp:L[i]? = some p) :
  ∃b o,b<h.nx∧(∀(β:Type) (fl:β) (h':Heap) (κ:Value→Heap→β),aD fl 5 v (.int .i64 (i:Int)) h' κ=κ (.pointer (some ⟨b,o,none⟩)) h')∧
   ((∀(β:Type) (fl:β) (κ:List Value→β),vz fl (h.bl.get b) o 5 κ=κ (bu p))∧
   (∀(β:Type) (fl:β) (κ:Value→β),sF fl (h.bl.get b) o κ=κ (.int .i64 p.id))∧
   (∀(β:Type) (fl:β) (κ:Value→β),sF fl (h.bl.get b) (o+1) κ=κ (.int .i64 p.x))∧
   (∀(β:Type) (fl:β) (κ:Value→β),sF fl (h.bl.get b) (o+2) κ=κ (.int .i64 p.m))∧
   (∀(β:Type) (fl:β) (κ:Value→β),sF fl (h.bl.get b) (o+3) κ=κ (.int .i64 p.w))∧
   (∀(β:Type) (fl:β) (κ:Value→β),sF fl (h.bl.get b) (o+4) κ=κ (.int .i64 p.s))):=by
 obtain ⟨b,o,h1,h2,h3,hh⟩:=hs.ld cq i hp
 have h5:(bu p).length=5:=rfl
 exact ⟨b,o,h1,h2,h3,fun β fl κ=>dR (fl:=fl) hh 0 κ (by omega),fun β fl κ=>dR (fl:=fl) hh 1 κ (by omega),fun β fl κ=>dR (fl:=fl) hh 2 κ (by omega),fun β fl κ=>dR (fl:=fl) hh 3 κ (by omega),fun β fl κ=>dR (fl:=fl) hh 4 κ (by omega)⟩
theorem Bv (r:R5) {h:Heap} {κ:Value→Heap→Prop} (hk:κ (.bool (decide (r.m≠0))) h):CallW Tryz.prog 319 [kK r] h κ:=by
 refine gT (v:=.bool (decide (r.m≠0))) rfl rfl (an mixed ?_) hk
 rw[Xp]
 simp(disch:=first|omega|simp only[Wd]<;>omega|rfl)only[Wz,bu]
 simp
theorem Bw (r:R5) {h:Heap} {κ:Value→Heap→Prop} (hk:κ (.bool (decide (0<r.s))) h):CallW Tryz.prog 238 [kK r] h κ:=by
 refine gT (v:=.bool (decide (0<r.s))) rfl rfl (an mixed ?_) hk
 rw[WY]
 simp(disch:=first|omega|simp only[Wd]<;>omega|rfl)only[Wz,bu]
theorem xX (r:R5) {h:Heap} {κ:Value→Heap→Prop} (hk:κ (.bool (uB r)) h):CallW Tryz.prog 320 [kK r] h κ:=by
 refine gT (v:=.bool (uB r)) rfl rfl (an mixed ?_) hk
 rw[Xq]
 simp(disch:=first|omega|simp only[Wd]<;>omega|rfl)only[Wz,bu]
 refine Bv r ?_
 by_cases h1:r.m=0
 ·simp(disch:=first|omega|simp only[Wd]<;>omega|rfl)only[Wz,aV (show ¬r.m≠0 by omega)]
  simp[uB,h1]
 ·simp(disch:=first|omega|simp only[Wd]<;>omega|rfl)only[Wz,bg (show r.m≠0 from h1)]
  refine Bw r ?_
  simp[uB,h1]
theorem EC (m:Int) {h:Heap} {κ:Value→Heap→Prop} (hk:κ (.bool (bN m)) h):CallW Tryz.prog 420 [.int .i64 m] h κ:=by
 refine gT (v:=.bool (bN m)) rfl rfl (an mixed ?_) hk
 rw[XW]
 by_cases h0:m=0
 ·simp(disch:=first|omega|simp only[Wd]<;>omega|rfl)only[Wz,bg h0]
  simp[bN,h0]
 ·simp(disch:=first|omega|simp only[Wd]<;>omega|rfl)only[Wz,aV h0]
  refine nE m ?_
  simp[bN,h0]
def jd (t r:Int) (q:Value) (w:Int):Value:=.agg ⟨[.int .i64 t,.int .i64 r,q,.int .i64 w]⟩
theorem xY {h:Heap} {q:Value} {Q:List R5} (hq:Sl bu h q Q):q.cells.toList=[q]∧cZ q=true:=by
 obtain ⟨x,cap,rfl,_⟩:=hq; exact ⟨rfl,rfl⟩
theorem NJ (id:Int) (r:R5) (b:Nat) (h:Heap) (κ:KQ) (hlo:h.lo≤h.nx) (hb:b<h.nx) (hg:h.bl.get b=some (aa [.int .i64 id] 3 false)) (hk:∀h',Le h h'→κ (.bool (b6 id r)) h') :
  CallW Tryz.prog 364 [kK r,ptrTo b] h κ:=by
 have hk:=hk _ ((Le.refl h).new (iy r))
 refine an mixed ?_
 rw[XE]
 simp(disch:=first|omega|simp only[Wd]<;>omega|rfl)only[Wz,bu,hg]
 exact hk
theorem rW (t r:Int) (q:Value) (w id:Int) (Q:List R5) (h:Heap) (κ:KQ) (hq:Sl bu h q Q) (hlen:Q.length≤1000000) (hlo:h.lo≤h.nx) (hk:∀h',Le h h'→κ (.int .i64 (eZ (Q.findIdx? (b6 id)))) h') :
  CallW Tryz.prog 318 [jd t r q w,.int .i64 id] h κ:=by
 obtain ⟨hc,ho⟩:=xY hq
 refine an mixed ?_
 rw[Xo]
 simp(disch:=first|omega|simp only[Wd]<;>omega|rfl)only[Wz,jd]
 obtain ⟨hA,eA⟩:∃hA:Heap,hA=⟨h.nx+1+1,(h.bl.aT h.nx (aa [.int .i64 t,.int .i64 r,q,.int .i64 w] 401 false)).aT (h.nx+1) (aa [.int .i64 id] 3 false),h.lo⟩:=⟨_,rfl⟩
 have iz:Le h hA:=by subst eA; exact ((Le.refl h).new _).new _
 have g3:hA.bl.get (h.nx+1)=some (aa [.int .i64 id] 3 false):=by subst eA; exact T.af _ _ _
 have nA:hA.nx=h.nx+1+1:=by subst eA; rfl
 have lA:hA.lo=h.lo:=by subst eA; rfl
 rw[←eA]
 clear eA
 refine xW Q (b6 id) hA q _ _ (hq.le iz) hlen ?_ fun h' hl=>hk h' (iz.trans hl)
 intro p hp h1 κ1 nY dy
 have n1:=nY.nx
 have l1:=nY.lo
 simp(disch:=first|omega|simp only[Wd]<;>omega|rfl)only[Wz,List.nil_append,List.cons_append]
 exact NJ id p (h.nx+1) h1 κ1 (by omega) (by omega) ((nY.get _ (by omega)).trans g3) dy
def uF (r o:R5):Bool:=decide (o.id≠r.id) && decide (o.m≠0) && !cmp o.m r.w
theorem RH (r o:R5) (b:Nat) (h:Heap) (κ:KQ) (hlo:h.lo≤h.nx) (hb:b<h.nx) (hg:h.bl.get b=some (iy r)) (hk:∀h',Le h h'→κ (.bool (uF r o)) h') :
  CallW Tryz.prog 433 [kK o,ptrTo b] h κ:=by
 have hk:=hk _ ((Le.refl h).new (iy o))
 refine an mixed ?_
 rw[XZ]
 by_cases h1:o.id=r.id
 ·simp(disch:=first|omega|simp only[Wd]<;>omega|rfl)only[Wz,bu,hg,bg h1]
  have e:uF r o=false:=by simp[uF,h1]
  rw[e] at hk; exact hk
 ·simp(disch:=first|omega|simp only[Wd]<;>omega|rfl)only[Wz,bu,hg,aV h1]
  refine Bv o ?_
  by_cases h2:o.m=0
  ·simp(disch:=first|omega|simp only[Wd]<;>omega|rfl)only[Wz,aV (show ¬o.m≠0 by omega)]
   have e:uF r o=false:=by simp[uF,h2]
   rw[e] at hk; exact hk
  ·simp(disch:=first|omega|simp only[Wd]<;>omega|rfl)only[Wz,bg (show o.m≠0 from h2),hg]
   refine NG _ _ ?_
   simp(disch:=first|omega|simp only[Wd]<;>omega|rfl)only[Wz]
   have e:uF r o=!cmp o.m r.w:=by simp[uF,h1,h2]
   rw[e] at hk; exact hk
theorem Bx (t r':Int) (q:Value) (w:Int) (r:R5) (Q:List R5) (h:Heap) (κ:KQ) (hq:Sl bu h q Q) (hlen:Q.length≤1000000) (hlo:h.lo≤h.nx) (hk:∀h',Le h h'→κ (.bool (gF Q r)) h') :
  CallW Tryz.prog 417 [jd t r' q w,kK r] h κ:=by
 obtain ⟨hc,ho⟩:=xY hq
 refine an mixed ?_
 rw[XT]
 simp(disch:=first|omega|simp only[Wd]<;>omega|rfl)only[Wz,jd,bu]
 obtain ⟨hA,eA⟩:∃hA:Heap,hA=⟨h.nx+1+1,(h.bl.aT h.nx (aa [.int .i64 t,.int .i64 r',q,.int .i64 w] 401 false)).aT (h.nx+1) (iy r),h.lo⟩:=⟨_,rfl⟩
 have iz:Le h hA:=by subst eA; exact ((Le.refl h).new _).new _
 have g3:hA.bl.get (h.nx+1)=some (iy r):=by subst eA; exact T.af _ _ _
 have nA:hA.nx=h.nx+1+1:=by subst eA; rfl
 have lA:hA.lo=h.lo:=by subst eA; rfl
 rw[←eA]
 clear eA
 refine lE Q (uF r) hA q _ _ (hq.le iz) hlen ?_ ?_
 ·intro p hp h1 κ1 nY dy
  have n1:=nY.nx
  have l1:=nY.lo
  simp(disch:=first|omega|simp only[Wd]<;>omega|rfl)only[Wz,List.nil_append,List.cons_append]
  exact RH r p (h.nx+1) h1 κ1 (by omega) (by omega) ((nY.get _ (by omega)).trans g3) dy
 ·intro h' hl
  simp(disch:=first|omega|simp only[Wd]<;>omega|rfl)only[Wz]
  exact hk h' (iz.trans hl)
theorem NK (r:R5) {h:Heap} {κ:Value→Heap→Prop} (hk:κ (.bool (decide (r.m=0))) h):CallW Tryz.prog 434 [kK r] h κ:=by
 refine gT (v:=.bool (decide (r.m=0))) rfl rfl (an mixed ?_) hk
 rw[X1]
 simp(disch:=first|omega|simp only[Wd]<;>omega|rfl)only[Wz,bu]
 refine Bv r ?_
 simp(disch:=first|omega|simp only[Wd]<;>omega|rfl)only[Wz]
 simp
theorem ED (t r':Int) (q:Value) (w:Int) (Q:List R5) (h:Heap) (κ:KQ) (hq:Sl bu h q Q) (hlen:Q.length≤1000000) (hlo:h.lo≤h.nx) (hk:∀h',Le h h'→κ (.int .i64 (eZ (dP Q))) h') :
  CallW Tryz.prog 418 [jd t r' q w] h κ:=by
 obtain ⟨hc,ho⟩:=xY hq
 refine an mixed ?_
 rw[XU]
 simp(disch:=first|omega|simp only[Wd]<;>omega|rfl)only[Wz,jd]
 obtain ⟨hA,eA⟩:∃hA:Heap,hA=⟨h.nx+1,h.bl.aT h.nx (aa [.int .i64 t,.int .i64 r',q,.int .i64 w] 401 false),h.lo⟩:=⟨_,rfl⟩
 have iz:Le h hA:=by subst eA; exact (Le.refl h).new _
 have gA:hA.bl.get h.nx=some (aa [.int .i64 t,.int .i64 r',q,.int .i64 w] 401 false):=by subst eA; exact T.af _ _ _
 have nA:hA.nx=h.nx+1:=by subst eA; rfl
 have lA:hA.lo=h.lo:=by subst eA; rfl
 rw[←eA]
 clear eA
 simp(disch:=first|omega|simp only[Wd]<;>omega|rfl)only[Wz,hq.len]
 refine ⟨fun n l h1=>∃i:Nat,slot l 27=.int .i64 (i:Int)∧slot l 25=.int .i64 (eZ (best Q i))∧i≤Q.length∧n=Q.length-i∧Le hA h1,⟨_,0,rfl,rfl,Nat.zero_le _,rfl,Le.refl _⟩,?_⟩
 rintro n l h1 ⟨i,s1,s2,hi,rfl,hle⟩
 have n1:=hle.nx
 have l1:=hle.lo
 have g1:=(hle.get h.nx (by omega)).trans gA
 have hq1:=hq.le (iz.trans hle)
 by_cases hlt:i<Q.length
 ·obtain ⟨p,hp⟩:∃p,Q[i]? = some p:=⟨_,List.getElem?_eq_getElem hlt⟩
  obtain ⟨b,o,hb,nT,l_⟩:=NI hq1 i hp
  have I9:best Q (i+1)=if (uB p && An Q p (best Q i))=true then some i else best Q i:=by
   show (match Q[i]? with | some r=>_ | none=>_)=_
   rw[hp]
  simp(disch:=first|omega|simp only[Wd]<;>omega|rfl)only[Wz,s1,xV]
  refine ⟨fun l' h'=>slot l' 24=.int .i64 (eZ (best Q (i+1)))∧Le hA h',?_,?_⟩
  ·simp(disch:=first|omega|simp only[Wd]<;>omega|rfl)only[Wz,Ez,s1,s2,nT,l_,bu]
   obtain ⟨hB,eB⟩:∃hB:Heap,hB=⟨h1.nx+1,h1.bl.aT h1.nx (iy p),h1.lo⟩:=⟨_,rfl⟩
   have qM:Le h1 hB:=by subst eB; exact (Le.refl h1).new _
   have gB:hB.bl.get h1.nx=some (iy p):=by subst eB; exact T.af _ _ _
   have gB1:=(qM.get h.nx (by omega)).trans g1
   have nB:hB.nx=h1.nx+1:=by subst eB; rfl
   have lB:hB.lo=h1.lo:=by subst eB; rfl
   rw[←eB]
   clear eB
   refine xX p ?_
   cases hu:uB p with
   | false=>
    simp(disch:=first|omega|simp only[Wd]<;>omega|rfl)only[Wz,s2]
    refine ⟨?_,hle.trans qM⟩
    rw[I9,hu]; simp[s2]
   | true=>
    cases u5:best Q i with
    | none=>
     simp(disch:=first|omega|simp only[Wd]<;>omega|rfl)only[Wz,s2,eZ,eY (show (-1:Int)<0 by decide),u5]
     refine ⟨?_,hle.trans qM⟩
     rw[I9,hu,u5]; rfl
    | some k=>
     obtain ⟨hkl,pk,hpk,_⟩:=Iz Q i k u5
     obtain ⟨b',o',hb',agC,agD⟩:=NI (hq1.le qM) k hpk
     have Ud:An Q p (some k)=decide (p.s<pk.s):=by simp only[An,hpk]
     simp(disch:=first|omega|simp only[Wd]<;>omega|rfl)only[Wz,s2,eZ,cW (show (0:Int)≤(k:Int) by omega),u5,gB,gB1,agC,agD]
     by_cases hs:p.s<pk.s
     ·simp(disch:=first|omega|simp only[Wd]<;>omega|rfl)only[Wz,bg hs]
      refine ⟨?_,hle.trans qM⟩
      rw[I9,hu,u5,Ud,bg hs]; rfl
     ·simp(disch:=first|omega|simp only[Wd]<;>omega|rfl)only[Wz,aV hs]
      refine ⟨?_,hle.trans qM⟩
      rw[I9,hu,u5,Ud,aV hs]
      first | rfl | (rw[s2,u5]; rfl)
  ·rintro l' h' ⟨k1,k2⟩
   exact ⟨_,by omega,i+1,rfl,k1,by omega,rfl,k2⟩
 ·have hil:i=Q.length:=by omega
  subst hil
  simp(disch:=first|omega|simp only[Wd]<;>omega|rfl)only[Wz,s1,xV]
  refine ⟨fun l' h'=>slot l' 6=.int .i64 (eZ (dP Q))∧Le hA h',?_,?_⟩
  rotate_left
  ·rintro l' h' ⟨k1,k2⟩
   show κ (slot l' 6) h'
   rw[k1]; exact hk h' (iz.trans k2)
  cases u5:best Q Q.length with
  | some k=>
   have e:dP Q=some k:=by simp only[dP,u5]
   simp(disch:=first|omega|simp only[Wd]<;>omega|rfl)only[Wz,xU,s2,u5,eZ,cW (show (0:Int)≤(k:Int) by omega)]
   refine ⟨?_,hle⟩
   rw[e]
  | none=>
   have e:dP Q=Q.findIdx? (fun r=>decide (r.m=0)):=by simp only[dP,u5]
   simp(disch:=first|omega|simp only[Wd]<;>omega|rfl)only[Wz,xU,s2,u5,eZ,eY (show (-1:Int)<0 by decide),g1]
   refine xW Q (fun r=>decide (r.m=0)) h1 q _ _ hq1 hlen ?_ ?_
   ·intro p hp h2 κ2 nL hk2
    simp(disch:=first|omega|simp only[Wd]<;>omega|rfl)only[Wz,List.nil_append,List.append_nil]
    exact NK p (hk2 h2 (Le.refl _))
   ·intro h' hl
    refine ⟨?_,hle.trans hl⟩
    rw[e]; rfl
theorem gL.base {α:Type} {enc:α→List Value} {a a' h:Heap} {e:TypeId} {v:Value} {L:List α} (ho:gL enc a e h v L) (hn:a'.nx≤a.nx):gL enc a' e h v L:=by
 rcases ho with ho | ⟨b,h0,h1,h2⟩
 ·exact .inl ho
 ·exact .inr ⟨b,h0,Nat.le_trans hn h1,h2⟩
theorem gL.same {α:Type} {enc:α→List Value} {a h h':Heap} {e:TypeId} {v:Value} {L:List α} (ho:gL enc a e h v L) (hn:h.nx≤h'.nx) (hl:h'.lo=h.lo) (hs:∀b,a.nx≤b→b<h.nx→h'.bl.get b=h.bl.get b):gL enc a e h' v L:=by
 rcases ho with ho | ⟨b,h0,h1,h2,h3,h4⟩
 ·exact .inl ho
 ·exact .inr ⟨b,h0,h1,Nat.lt_of_lt_of_le h2 hn,by rw[hl]; exact h3,by rw[hs b h1 h2]; exact h4⟩
theorem EE (t r:Int) (q:Value) (w:Int) (Q:List R5) (h:Heap) (κ:KQ) (hq:Sl bu h q Q) (hlen:Q.length≤1000000) (hlo:h.lo≤h.nx) (hk:∀q' h',u0 h h' q' Q→Le h h'→κ (jd t r q' w) h') :
  CallW Tryz.prog 391 [jd t r q w] h κ:=by
 obtain ⟨qx,qc,rfl,_⟩:=id hq
 refine an mixed ?_
 rw[XG]
 simp(disch:=first|omega|simp only[Wd]<;>omega|rfl)only[Wz,jd]
 obtain ⟨hA,eA⟩:∃hA:Heap,hA=⟨h.nx+1+1,(h.bl.aT h.nx (aa [.int .i64 t,.int .i64 r,.slice qx Q.length qc,.int .i64 w] 55 false)).aT (h.nx+1) (aa [.int .i64 0,.int .i64 0,.slice none 0 0,.int .i64 0] 401 false),h.lo⟩:=⟨_,rfl⟩
 have iz:Le h hA:=by subst eA; exact ((Le.refl h).new _).new _
 have g1:hA.bl.get h.nx=some (aa [.int .i64 t,.int .i64 r,.slice qx Q.length qc,.int .i64 w] 55 false):=by subst eA; exact (T.ai _ _ (by omega)).trans (T.af _ _ _)
 have g3:hA.bl.get (h.nx+1)=some (aa [.int .i64 0,.int .i64 0,.slice none 0 0,.int .i64 0] 401 false):=by subst eA; exact T.af _ _ _
 have nA:hA.nx=h.nx+1+1:=by subst eA; rfl
 have lA:hA.lo=h.lo:=by subst eA; rfl
 rw[←eA]
 clear eA
 refine EB Q hA _ _ (hq.le iz) hlen (by omega) ?_
 intro q' h2 lY hle2
 have n2:=hle2.nx
 have l2:=hle2.lo
 have g12:=(hle2.get h.nx (by omega)).trans g1
 have g32:=(hle2.get (h.nx+1) (by omega)).trans g3
 have hle:=(iz.trans hle2)
 obtain ⟨qx',qc',rfl,_⟩:=id lY.sl
 simp(disch:=first|omega|simp only[Wd]<;>omega|rfl)only[Wz,g12,g32]
 refine hk _ _ ?_ ?_
 ·refine gL.base (gL.same lY (Nat.le_refl _) rfl fun b h1 _=>?_) (by omega)
  exact (T.ai _ _ (by omega)).trans (T.ai _ _ (by omega))
 ·exact (hle.set (b:=h.nx) (Nat.le_refl _) _).set (b:=h.nx+1) (Nat.le_succ _) _
def oK (id x:Int) (r:R5):Bool:=decide (r.id=id) || decide (r.x=x)
theorem X6 (id x:Int) (r:R5) (b3 b5:Nat) (h:Heap) (κ:KQ) (hlo:h.lo≤h.nx) (hb3:b3<h.nx) (hb5:b5<h.nx) (hg3:h.bl.get b3=some (aa [.int .i64 id] 3 false)) (hg5:h.bl.get b5=some (aa [.int .i64 x] 3 false))
  (hk:∀h',Le h h'→κ (.bool (oK id x r)) h'):CallW Tryz.prog 422 [kK r,ptrTo b3,ptrTo b5] h κ:=by
 have hk:=hk _ ((Le.refl h).new (iy r))
 refine an mixed ?_
 rw[XX]
 by_cases h1:r.id=id
 ·simp(disch:=first|omega|simp only[Wd]<;>omega|rfl)only[Wz,bu,hg3,hg5,bg h1]
  have e:oK id x r=true:=by simp[oK,h1]
  rw[e] at hk; exact hk
 ·simp(disch:=first|omega|simp only[Wd]<;>omega|rfl)only[Wz,bu,hg3,hg5,aV h1]
  have e:oK id x r=decide (r.x=x):=by simp[oK,h1]
  rw[e] at hk; exact hk
theorem gL.put {α:Type} {enc:α→List Value} {a h:Heap} {e:TypeId} {v:Value} {L:List α} (ho:gL enc a e h v L) {c:Nat} (hc:h.bl.get c≠some (aa (L.flatMap enc) e true)) (o:bC):gL enc a e ⟨h.nx,h.bl.aT c o,h.lo⟩ v L:=by
 rcases ho with ho | ⟨b,h0,h1,h2,h3,h4⟩
 ·exact .inl ho
 ·refine .inr ⟨b,h0,h1,h2,h3,(T.ai _ _ ?_).trans h4⟩
  rintro rfl
  exact hc h4
theorem NL (t r:Int) (qx:Option Addr) (qc:Nat) (w:Int) (p:R5) (g:Bool) (y7 Kf b7:Nat) (Q:List R5) (a h:Heap) (κ:KQ) (ho:u0 a h (.slice qx Q.length qc) Q) (hle:Le a h) (hlen:Q.length≤100000) (hlo:h.lo≤h.nx)
  (agF:y7<h.nx) (alx:Kf<h.nx) (hb7:b7<h.nx) (hd:y7≠b7) (aly:h.lo≤y7) (hl7:h.lo≤b7)
  (g29:h.bl.get y7=some (aa [.int .i64 t,.int .i64 r,.slice qx Q.length qc,.int .i64 w] 401 false)) (X7:h.bl.get Kf=some (iy p)) (g7:h.bl.get b7=some (aa [.int .i64 0,.int .i64 0,.slice none 0 0,.int .i64 0] 55 false))
  (hk:∀q' h',u0 a h' q' (Q++[p])→(h.nx≤h'.nx∧h'.lo=h.lo∧∀b,b<a.nx→b≠y7→b≠b7→h'.bl.get b=a.bl.get b)→κ (.tuple ⟨[jd t r q' w,.bool g,.int .i64 0]⟩) h') :
  rV y7 Kf b7 (.bool g) h κ:=by
 simp(disch:=first|omega|simp only[Wd]<;>omega|rfl)only[Wz,rV,g29,X7]
 have hle1:=(Le.refl h).new (iy p)
 refine iT (enc:=bu) (a:=a) (L:=Q) (M:=[p]) cq w9 (by decide) (by decide) (ho.le hle1) (Sl.new (L:=[p]) (e:=57) (op:=false) (Nat.lt_succ_self _) (T.af _ _ _) _) (hle.new _) (by simp; omega) (by show h.lo≤h.nx+1; omega) _ ?_
 intro v' h' ho' hle' uT hn2 hl' hsame
 obtain ⟨qx',qc',rfl,_⟩:=(show Sl bu h' v' (Q++[p]) from ho'.sl)
 have n1:h.nx+1≤h'.nx:=hn2
 have k1:∀b,b<h.nx→h.bl.get b≠some (aa (Q.flatMap bu) 57 true)→h'.bl.get b=h.bl.get b:=by
  intro b hb hne
  have e:(h.bl.aT h.nx (iy p)).get b=h.bl.get b:=T.ai _ _ (by omega)
  exact (hsame b (Nat.lt_succ_of_lt hb) (fun k=>hne (by rw[←e]; exact k))).trans e
 have acn:=(k1 y7 agF (by rw[g29]; exact bh)).trans g29
 have g7':=(k1 b7 hb7 (by rw[g7]; exact bh)).trans g7
 have nL:h'.lo=h.lo:=hl'
 simp(disch:=first|omega|simp only[Wd]<;>omega|rfl)only[Wz,acn,g7']
 refine hk _ _ ?_ ⟨by show h.nx≤h'.nx; omega,nL,?_⟩
 ·refine gL.put (gL.put ho' (by rw[acn]; exact bh) _) ?_ _
  show (h'.bl.aT y7 _).get b7≠_
  rw[T.ai _ _ hd,g7']
  exact bh
 ·intro b hb h1 h2
  exact (T.ai _ _ (fun e=>h2 e.symm)).trans ((T.ai _ _ (fun e=>h1 e.symm)).trans (hle'.get b hb))
theorem aco (t r:Int) (q:Value) (w id x m:Int) (Q:List R5) (h:Heap) (κ:KQ) (hq:Sl bu h q Q) (hlen:Q.length≤100000) (hlo:h.lo≤h.nx) (hw:0≤w∧w≤1000000) (hid:0≤id) (hm:bN m=true) (hn:∀p∈Q,p.id≠id∧p.x≠x)
  (hk:∀q' h',u0 h h' q' (Q++[(jG Q w id x m).1])→Le h h'→κ (.tuple ⟨[jd t r q' (jG Q w id x m).2.1,.bool (jG Q w id x m).2.2,.int .i64 0]⟩) h') :
  CallW Tryz.prog 397 [jd t r q w,.int .i64 id,.int .i64 x,.int .i64 m] h κ:=by
 obtain ⟨qx,qc,rfl,_⟩:=(show Sl bu h q Q from hq)
 refine an mixed ?_
 rw[XP]
 simp(disch:=first|omega|simp only[Wd]<;>omega|rfl)only[Wz,jd]
 obtain ⟨hA,eA⟩:∃hA:Heap,hA=⟨h.nx+1+1+1+1,(((h.bl.aT h.nx (aa [.int .i64 t,.int .i64 r,.slice qx Q.length qc,.int .i64 w] 55 false)).aT (h.nx+1) (aa [.int .i64 id] 3 false)).aT (h.nx+1+1) (aa [.int .i64 x] 3 false)).aT (h.nx+1+1+1) (aa [.int .i64 0,.int .i64 0,.slice none 0 0,.int .i64 0] 55 false),h.lo⟩:=⟨_,rfl⟩
 have iz:Le h hA:=by subst eA; exact ((((Le.refl h).new _).new _).new _).new _
 have g1:hA.bl.get h.nx=some (aa [.int .i64 t,.int .i64 r,.slice qx Q.length qc,.int .i64 w] 55 false):=by subst eA; exact (T.ai _ _ (by omega)).trans ((T.ai _ _ (by omega)).trans ((T.ai _ _ (by omega)).trans (T.af _ _ _)))
 have g3:hA.bl.get (h.nx+1)=some (aa [.int .i64 id] 3 false):=by subst eA; exact (T.ai _ _ (by omega)).trans ((T.ai _ _ (by omega)).trans (T.af _ _ _))
 have g5:hA.bl.get (h.nx+1+1)=some (aa [.int .i64 x] 3 false):=by subst eA; exact (T.ai _ _ (by omega)).trans (T.af _ _ _)
 have g7:hA.bl.get (h.nx+1+1+1)=some (aa [.int .i64 0,.int .i64 0,.slice none 0 0,.int .i64 0] 55 false):=by subst eA; exact T.af _ _ _
 have nA:hA.nx=h.nx+1+1+1+1:=by subst eA; rfl
 have lA:hA.lo=h.lo:=by subst eA; rfl
 rw[←eA]
 clear eA
 refine EC m ?_
 rw[hm]
 simp(disch:=first|omega|simp only[Wd]<;>omega|rfl)only[Wz,Er,g1,g3,g5]
 refine lE Q (oK id x) hA _ _ _ (hq.le iz) (by omega) ?_ ?_
 ·intro p hp h1 κ1 nY dy
  have n1:=nY.nx
  have l1:=nY.lo
  simp(disch:=first|omega|simp only[Wd]<;>omega|rfl)only[Wz,List.nil_append,List.cons_append]
  exact X6 id x p (h.nx+1) (h.nx+1+1) h1 κ1 (by omega) (by omega) (by omega) ((nY.get _ (by omega)).trans g3) ((nY.get _ (by omega)).trans g5) dy
 intro h2 hle2
 have n2:=hle2.nx
 have l2:=hle2.lo
 have hno:Q.any (oK id x)=false:=by
  rw[List.any_eq_false]
  intro p hp
  simp[oK,(hn p hp).1,(hn p hp).2]
 rw[hno]
 have g12:=(hle2.get h.nx (by omega)).trans g1
 have g32:=(hle2.get (h.nx+1) (by omega)).trans g3
 have g52:=(hle2.get (h.nx+1+1) (by omega)).trans g5
 have g72:=(hle2.get (h.nx+1+1+1) (by omega)).trans g7
 simp(disch:=first|omega|simp only[Wd]<;>omega|rfl)only[Wz,Ep,g12]
 refine EE t r _ w Q h2 _ (hq.le (iz.trans hle2)) (by omega) (by omega) ?_
 intro q3 h3 nX bE
 have n3:=bE.nx
 have l3:=bE.lo
 obtain ⟨EF,EG,rfl,_⟩:=(show Sl bu h3 q3 Q from nX.sl)
 have g33:=(bE.get (h.nx+1) (by omega)).trans g32
 have g53:=(bE.get (h.nx+1+1) (by omega)).trans g52
 have g73:=(bE.get (h.nx+1+1+1) (by omega)).trans g72
 simp(disch:=first|omega|simp only[Wd]<;>omega|rfl)only[Wz,jd,g33,g53]
 obtain ⟨hB,eB⟩:∃hB:Heap,hB=⟨h3.nx+1+1,(h3.bl.aT h3.nx (aa [.int .i64 t,.int .i64 r,.slice EF Q.length EG,.int .i64 w] 401 false)).aT (h3.nx+1) (iy ⟨id,x,0,m,0⟩),h3.lo⟩:=⟨_,rfl⟩
 have qM:Le h3 hB:=by subst eB; exact ((Le.refl h3).new _).new _
 have g29:hB.bl.get h3.nx=some (aa [.int .i64 t,.int .i64 r,.slice EF Q.length EG,.int .i64 w] 401 false):=by subst eB; exact (T.ai _ _ (by omega)).trans (T.af _ _ _)
 have X7:hB.bl.get (h3.nx+1)=some (iy ⟨id,x,0,m,0⟩):=by subst eB; exact T.af _ _ _
 have g7B:=(qM.get (h.nx+1+1+1) (by omega)).trans g73
 have nB:hB.nx=h3.nx+1+1:=by subst eB; rfl
 have lB:hB.lo=h3.lo:=by subst eB; rfl
 rw[←eB]
 clear eB
 have Kh:=nX.le qM
 refine ED t r _ w Q hB _ Kh.sl (by omega) (by omega) ?_
 intro h4 ct
 have n4:=ct.nx
 have l4:=ct.lo
 have hall:Le h h4:=(((iz.trans hle2).trans bE).trans qM).trans ct
 have Ue:Le h2 h4:=(bE.trans qM).trans ct
 have RI:=(ct.get h3.nx (by omega)).trans g29
 have RJ:=(ct.get (h3.nx+1) (by omega)).trans X7
 have g74:=(ct.get (h.nx+1+1+1) (by omega)).trans g7B
 have Lu:=Kh.le ct
 have fin:∀(p:R5) (w':Int) (g:Bool) (h5:Heap),jG Q w id x m=(p,w',g)→u0 h2 h5 (.slice EF Q.length EG) Q→Le h h5→Le h2 h5→h4.nx≤h5.nx→
   h5.bl.get h3.nx=some (aa [.int .i64 t,.int .i64 r,.slice EF Q.length EG,.int .i64 w'] 401 false)→h5.bl.get (h3.nx+1)=some (iy p)→h5.bl.get (h.nx+1+1+1)=some (aa [.int .i64 0,.int .i64 0,.slice none 0 0,.int .i64 0] 55 false)→
   rV h3.nx (h3.nx+1) (h.nx+1+1+1) (.bool g) h5 κ:=by
  intro p w' g h5 he rX Uf agH n5 k1 k2 k3
  have l5:=Uf.lo
  refine NL t r EF EG w' p g _ _ _ Q h2 h5 κ rX agH (by omega) (by omega) (by omega) (by omega) (by omega) (by omega) (by omega) (by omega) k1 k2 k3 ?_
  intro q' h' ho' hfr
  obtain ⟨e1,e2,e3⟩:=hfr
  rw[he] at hk
  have nn:=Uf.nx
  refine hk q' h' (gL.base ho' (by omega)) ⟨by omega,by rw[e2]; exact Uf.lo,fun b hb=>?_⟩
  exact (e3 b (by omega) (by omega) (by omega)).trans ((iz.trans hle2).get b hb)
 have mM:=hall
 cases hf:dP Q with
 | some i=>
  simp(disch:=first|omega|simp only[Wd]<;>omega|rfl)only[Wz,eZ,cW (show (0:Int)≤(i:Int) by omega)]
  obtain ⟨hC,eC⟩:∃hC:Heap,hC=⟨h4.nx,(h4.bl.aT h3.nx (aa [.int .i64 t,.int .i64 r,.slice EF Q.length EG,.int .i64 (w+1)] 401 false)).aT (h3.nx+1) (iy ⟨id,x,0,m,w+1⟩),h4.lo⟩:=⟨_,rfl⟩
  refine ⟨fun l h'=>HQ hC h',?_,?_⟩
  ·simp(disch:=first|omega|simp only[Wd]<;>omega|rfl)only[Wz,xR,RI,RJ]
   exact eC
  ·intro l h' HM
   cases (show hC=h' from HM)
   have nC:hC.nx=h4.nx:=by rw[eC]
   refine fin ⟨id,x,0,m,w+1⟩ (w+1) false hC ?_ ?_ ?_ ?_ (by omega) ?_ ?_ ?_
   ·unfold jG
    rw[if_neg]
    simp[hf]
   ·rw[eC]
    exact gL.put (gL.put Lu (by rw[RI]; exact bh) _) (by show (h4.bl.aT h3.nx _).get (h3.nx+1)≠_; rw[T.ai _ _ (by omega),RJ]; exact bh) _
   ·rw[eC]; exact (mM.set (b:=h3.nx) (by omega) _).set (b:=h3.nx+1) (by omega) _
   ·rw[eC]; exact (Ue.set (b:=h3.nx) (by omega) _).set (b:=h3.nx+1) (by omega) _
   ·rw[eC]; exact (T.ai _ _ (by omega)).trans (T.af _ _ _)
   ·rw[eC]; exact T.af _ _ _
   ·rw[eC]; exact ((T.ai _ _ (by omega)).trans (T.ai _ _ (by omega))).trans g74
 | none=>
  simp(disch:=first|omega|simp only[Wd]<;>omega|rfl)only[Wz,eZ,eY (show (-1:Int)<0 by decide),RI,RJ]
  refine Bx t r _ w ⟨id,x,0,m,0⟩ Q h4 _ Lu.sl (by omega) (by omega) ?_
  intro h5 ee
  have n5:=ee.nx
  have l5:=ee.lo
  have X8:=(ee.get h3.nx (by omega)).trans RI
  have RK:=(ee.get (h3.nx+1) (by omega)).trans RJ
  have g75:=(ee.get (h.nx+1+1+1) (by omega)).trans g74
  have rX:=Lu.le ee
  have qj:=hall.trans ee
  have Ug:=Ue.trans ee
  cases hfit:gF Q ⟨id,x,0,m,0⟩ with
  | false=>
   simp(disch:=first|omega|simp only[Wd]<;>omega|rfl)only[Wz]
   obtain ⟨hC,eC⟩:∃hC:Heap,hC=⟨h5.nx,(h5.bl.aT h3.nx (aa [.int .i64 t,.int .i64 r,.slice EF Q.length EG,.int .i64 (w+1)] 401 false)).aT (h3.nx+1) (iy ⟨id,x,0,m,w+1⟩),h5.lo⟩:=⟨_,rfl⟩
   refine ⟨fun l h'=>HQ hC h',?_,?_⟩
   ·simp(disch:=first|omega|simp only[Wd]<;>omega|rfl)only[Wz,xR,X8,RK]
    exact eC
   ·intro l h' HM
    cases (show hC=h' from HM)
    have nC:hC.nx=h5.nx:=by rw[eC]
    refine fin ⟨id,x,0,m,w+1⟩ (w+1) false hC ?_ ?_ ?_ ?_ (by omega) ?_ ?_ ?_
    ·unfold jG
     rw[if_neg]
     simp[hf,hfit]
    ·rw[eC]
     exact gL.put (gL.put rX (by rw[X8]; exact bh) _) (by show (h5.bl.aT h3.nx _).get (h3.nx+1)≠_; rw[T.ai _ _ (by omega),RK]; exact bh) _
    ·rw[eC]; exact (qj.set (b:=h3.nx) (by omega) _).set (b:=h3.nx+1) (by omega) _
    ·rw[eC]; exact (Ug.set (b:=h3.nx) (by omega) _).set (b:=h3.nx+1) (by omega) _
    ·rw[eC]; exact (T.ai _ _ (by omega)).trans (T.af _ _ _)
    ·rw[eC]; exact T.af _ _ _
    ·rw[eC]; exact ((T.ai _ _ (by omega)).trans (T.ai _ _ (by omega))).trans g75
  | true=>
   simp(disch:=first|omega|simp only[Wd]<;>omega|rfl)only[Wz]
   obtain ⟨hC,eC⟩:∃hC:Heap,hC=⟨h5.nx,h5.bl.aT (h3.nx+1) (iy ⟨id,x,m,m,0⟩),h5.lo⟩:=⟨_,rfl⟩
   refine ⟨fun l h'=>HQ hC h',?_,?_⟩
   ·simp(disch:=first|omega|simp only[Wd]<;>omega|rfl)only[Wz,RK]
    exact eC
   ·intro l h' HM
    cases (show hC=h' from HM)
    have nC:hC.nx=h5.nx:=by rw[eC]
    refine fin ⟨id,x,m,m,0⟩ w true hC ?_ ?_ ?_ ?_ (by omega) ?_ ?_ ?_
    ·unfold jG
     rw[if_pos]
     simp[hf,hfit]
    ·rw[eC]
     exact gL.put rX (by rw[RK]; exact bh) _
    ·rw[eC]; exact qj.set (b:=h3.nx+1) (by omega) _
    ·rw[eC]; exact Ug.set (b:=h3.nx+1) (by omega) _
    ·rw[eC]; exact (T.ai _ _ (by omega)).trans X8
    ·rw[eC]; exact T.af _ _ _
    ·rw[eC]; exact (T.ai _ _ (by omega)).trans g75
noncomputable abbrev iH (t r:Int) (q:Value) (w:Int):bC:=aa [.int .i64 t,.int .i64 r,q,.int .i64 w] 401 false
noncomputable abbrev dF (t r:Int) (q:Value) (w:Int):bC:=aa [.int .i64 t,.int .i64 r,q,.int .i64 w] 55 false
noncomputable abbrev jN:bC:=aa [.int .i64 0,.int .i64 0,.slice none 0 0,.int .i64 0] 55 false
theorem GG (id:Int) (r:R5) (b:Nat) (h:Heap) (κ:KQ) (hlo:h.lo≤h.nx) (hb:b<h.nx) (hg:h.bl.get b=some (aa [.int .i64 id] 3 false)) (hk:∀h',Le h h'→κ (.bool (b6 id r)) h') :
  CallW Tryz.prog 416 [kK r,ptrTo b] h κ:=by
 have hk:=hk _ ((Le.refl h).new (iy r))
 refine an mixed ?_
 rw[XS]
 simp(disch:=first|omega|simp only[Wd]<;>omega|rfl)only[Wz,bu,hg]
 exact hk
theorem Ki (t r:Int) (q:Value) (w id:Int) (Q:List R5) (a h:Heap) (κ:KQ) (ho:u0 a h q Q) (hle:Le a h) (hlen:Q.length≤100000) (hlo:a.lo≤a.nx)
  (hk:∀q' h',Sl bu h' q' (Q.filter fun r=>!b6 id r)→uz 57 h' q'→Le a h'→κ (jd t r q' w) h') :
  CallW Tryz.prog 392 [jd t r q w,.int .i64 id] h κ:=by
 obtain ⟨qx,qc,rfl,_⟩:=(show Sl bu h q Q from ho.sl)
 have n_0:=hle.nx
 have l_0:=hle.lo
 refine an mixed ?_
 rw[XH]
 simp(disch:=first|omega|simp only[Wd]<;>omega|rfl)only[Wz,jd]
 obtain ⟨hA,aH⟩:∃hA:Heap,hA=⟨h.nx+1+1+1,(((h.bl.aT (h.nx) (iH t r (.slice qx Q.length qc) w)).aT (h.nx+1) (aa [.int .i64 id] 3 false)).aT (h.nx+1+1) (jN)),h.lo⟩:=⟨_,rfl⟩
 have aL:Le h hA:=by subst aH; exact ((((Le.refl h).new _).new _).new _)
 have g1:hA.bl.get (h.nx)=some (iH t r (.slice qx Q.length qc) w):=by subst aH; exact (T.ai _ _ (by omega)).trans ((T.ai _ _ (by omega)).trans (T.af _ _ _))
 have g3:hA.bl.get (h.nx+1)=some (aa [.int .i64 id] 3 false):=by subst aH; exact (T.ai _ _ (by omega)).trans (T.af _ _ _)
 have g5:hA.bl.get (h.nx+1+1)=some (jN):=by subst aH; exact T.af _ _ _
 have ef:hA.nx=h.nx+1+1+1:=by subst aH; rfl
 have ej:hA.lo=h.lo:=by subst aH; rfl
 rw[←aH]
 clear aH
 refine Kg a hA Q (b6 id) _ _ _ (hle.trans aL) (ho.le aL) hlen hlo ?_ ?_
 ·intro p h1 κ1 nY hfr dy
  have n1:=hfr.1
  have l1:=nY.lo
  have g3:=(hfr.2 (h.nx+1) (by omega) (by rw[g3]; exact bh)).trans g3
  simp(disch:=first|omega|simp only[Wd]<;>omega|rfl)only[Wz,List.nil_append,List.cons_append]
  exact GG id p (h.nx+1) h1 κ1 (by omega) (by omega) g3 dy
 ·intro q' h2 hs2 _ hle2 hfr ht
  have n2:=hfr.1
  have l2:=hle2.lo
  have g1:=(hfr.2 h.nx (by omega) (by rw[g1]; exact bh)).trans g1
  have g5:=(hfr.2 (h.nx+1+1) (by omega) (by rw[g5]; exact bh)).trans g5
  obtain ⟨qx',qc',rfl,_⟩:=(show Sl bu h2 q' _ from hs2)
  simp(disch:=first|omega|simp only[Wd]<;>omega|rfl)only[Wz,g1,g5]
  have Z4:∀vs op,h2.bl.get h.nx≠some (aa vs 57 op):=fun vs op=>by rw[g1]; exact bq (by decide)
  have FM:=hs2.put ht Z4 (iH t r (.slice qx' (Q.filter fun r=>!b6 id r).length qc') w)
  have ht3:=ht.put Z4 (iH t r (.slice qx' (Q.filter fun r=>!b6 id r).length qc') w)
  have hd2:∀vs op,(h2.bl.aT h.nx (iH t r (.slice qx' (Q.filter fun r=>!b6 id r).length qc') w)).get (h.nx+1+1)≠some (aa vs 57 op):=fun vs op=>by rw[T.ai _ _ (by omega),g5]; exact bq (by decide)
  refine hk _ _ (FM.put ht3 hd2 _) (ht3.put hd2 _) ((hle2.set (b:=h.nx) (by omega) _).set (b:=h.nx+1+1) (by omega) _)
def QV (h:Heap) (q:Value) (Q:List R5):Prop:=Sl bu h q Q∧uz 57 h q
theorem QV.le {h h':Heap} {q:Value} {Q:List R5} (v:QV h q Q) (l:Le h h'):QV h' q Q:=⟨v.1.le l,v.2.le l⟩
theorem QV.put {h:Heap} {q:Value} {Q:List R5} (v:QV h q Q) {d:Nat} (hd:∀vs op,h.bl.get d≠some (aa vs 57 op)) (o:bC):QV ⟨h.nx,h.bl.aT d o,h.lo⟩ q Q:=⟨v.1.put v.2 hd o,v.2.put hd o⟩
theorem QV.own {a h:Heap} {q:Value} {Q:List R5} (ho:u0 a h q Q):QV h q Q:=⟨ho.sl,uz.own ho⟩
theorem lF (Q:List R5) (id:Int):(Q.findIdx? (b6 id)=none∧bV Q id=none)∨∃(i:Nat) (r:R5),Q.findIdx? (b6 id)=some i∧Q[i]? = some r∧r.id=id∧bV Q id=some r:=by
 rcases kH Q (b6 id) with ⟨e,h⟩ | ⟨i,p,e,hp,h1,h2⟩
 ·refine .inl ⟨e,?_⟩
  unfold bV
  rw[List.find?_eq_none]
  intro x hx; rw[h x hx]; simp
 ·refine .inr ⟨i,p,e,hp,by simpa[b6] using h1,?_⟩
  unfold bV
  rw[List.find?_eq_some_iff_getElem]
  obtain ⟨hi,rfl⟩:=List.getElem?_eq_some_iff.1 hp
  exact ⟨h1,i,hi,rfl,fun j hj=>by rw[h2 j _ hj (List.getElem?_eq_getElem (by omega))]; rfl⟩
theorem RL (t r:Int) (q:Value) (w id:Int) (Q:List R5) (h:Heap) (κ:KQ) (hq:Sl bu h q Q) (hlen:Q.length≤100000) (hlo:h.lo≤h.nx) (hf:bV Q id≠none)
  (hk:∀q' h',QV h' q' (Q.filter fun r=>!b6 id r)→Le h h'→κ (.tuple ⟨[jd t r q' w,.int .i64 0]⟩) h') :
  CallW Tryz.prog 419 [jd t r q w,.int .i64 id] h κ:=by
 obtain ⟨qx,qc,rfl,_⟩:=(show Sl bu h q Q from hq)
 refine an mixed ?_
 rw[XV]
 simp(disch:=first|omega|simp only[Wd]<;>omega|rfl)only[Wz,jd]
 obtain ⟨hA,aH⟩:∃hA:Heap,hA=⟨h.nx+1+1,((h.bl.aT (h.nx) (dF t r (.slice qx Q.length qc) w)).aT (h.nx+1) (jN)),h.lo⟩:=⟨_,rfl⟩
 have aL:Le h hA:=by subst aH; exact (((Le.refl h).new _).new _)
 have g1:hA.bl.get (h.nx)=some (dF t r (.slice qx Q.length qc) w):=by subst aH; exact (T.ai _ _ (by omega)).trans (T.af _ _ _)
 have g3:hA.bl.get (h.nx+1)=some (jN):=by subst aH; exact T.af _ _ _
 have ef:hA.nx=h.nx+1+1:=by subst aH; rfl
 have ej:hA.lo=h.lo:=by subst aH; rfl
 rw[←aH]
 clear aH
 have g3A:=g3
 refine EE t r _ w Q hA _ (hq.le aL) (by omega) (by omega) ?_
 intro q2 h2 lY hle2
 have xZ:=hle2.nx
 have x5:=hle2.lo
 have g1:=(hle2.get _ (by omega)).trans g1
 have g3:=(hle2.get _ (by omega)).trans g3
 obtain ⟨qY,qZ,rfl,_⟩:=(show Sl bu h2 q2 Q from lY.sl)
 simp(disch:=first|omega|simp only[Wd]<;>omega|rfl)only[Wz,jd]
 obtain ⟨hB,dA⟩:∃hB:Heap,hB=⟨h2.nx+1,(h2.bl.aT (h2.nx) (iH t r (.slice qY Q.length qZ) w)),h2.lo⟩:=⟨_,rfl⟩
 have cG:Le h2 hB:=by subst dA; exact ((Le.refl h2).new _)
 have g7:hB.bl.get (h2.nx)=some (iH t r (.slice qY Q.length qZ) w):=by subst dA; exact T.af _ _ _
 have Kj:hB.nx=h2.nx+1:=by subst dA; rfl
 have Kk:hB.lo=h2.lo:=by subst dA; rfl
 rw[←dA]
 clear dA
 have vH:=cG.nx
 have vI:=cG.lo
 have g1:=(cG.get _ (by omega)).trans g1
 have g3:=(cG.get _ (by omega)).trans g3
 have Kh:=lY.le cG
 refine rW t r _ w id Q hB _ Kh.sl (by omega) (by omega) ?_
 intro h3 bE
 have NM:=bE.nx
 have NN:=bE.lo
 have g1:=(bE.get _ (by omega)).trans g1
 have g3:=(bE.get _ (by omega)).trans g3
 have g7:=(bE.get _ (by omega)).trans g7
 have nX:=Kh.le bE
 rcases lF Q id with ⟨_,e⟩ | ⟨i,p,e,hp,X9,_⟩
 ·exact absurd e hf
 rw[e]
 simp(disch:=first|omega|simp only[Wd]<;>omega|rfl)only[Wz,eZ,cW (show (0:Int)≤(i:Int) by omega),g7]
 have acp:Le hA h3:=(hle2.trans cG).trans bE
 refine Ki t r _ w id Q hA h3 _ nX acp hlen (by omega) ?_
 intro q4 h4 hs4 ht4 ct
 have GH:=ct.nx
 have GI:=ct.lo
 have g3:=(ct.get _ (by omega)).trans g3A
 obtain ⟨qx4,qc4,rfl,_⟩:=(show Sl bu h4 q4 _ from hs4)
 simp(disch:=first|omega|simp only[Wd]<;>omega|rfl)only[Wz,jd,g3]
 exact hk _ _ (QV.put ⟨hs4,ht4⟩ (fun vs op=>by rw[g3]; exact bq (by decide)) _) ((aL.trans ct).set (b:=h.nx+1) (by omega) _)
theorem RM (id x:Int) (r:R5) (b3 b5:Nat) (h:Heap) (κ:KQ) (hlo:h.lo≤h.nx) (hb3:b3<h.nx) (hb5:b5<h.nx) (hg3:h.bl.get b3=some (aa [.int .i64 id] 3 false)) (hg5:h.bl.get b5=some (aa [.int .i64 x] 3 false))
  (hk:∀h',Le h h'→κ (.bool (decide (r.id≠id) && decide (r.x=x))) h'):CallW Tryz.prog 423 [kK r,ptrTo b3,ptrTo b5] h κ:=by
 have hk:=hk _ ((Le.refl h).new (iy r))
 refine an mixed ?_
 rw[XY]
 by_cases h1:r.id=id
 ·simp(disch:=first|omega|simp only[Wd]<;>omega|rfl)only[Wz,bu,hg3,hg5,bg h1]
  rw[aV (show ¬r.id≠id by simp[h1])] at hk
  exact hk
 ·simp(disch:=first|omega|simp only[Wd]<;>omega|rfl)only[Wz,bu,hg3,hg5,aV h1]
  rw[bg (show r.id≠id from h1)] at hk
  exact hk
theorem QV.blk {h:Heap} {b n:Nat} {L:List R5} (hb:b<h.nx) (hg:h.bl.get b=some (aa (L.flatMap bu) 57 true)) (hn:n=L.length):QV h (.slice (some ⟨b,0,none⟩) n aM) L:=by
 subst hn
 refine ⟨Sl.new hb hg _,fun b' o' n' c' hv _=>?_⟩
 cases hv
 exact ⟨hb,_,_,hg⟩
theorem X_ (t r:Int) (q:Value) (w id x:Int) (Q:List R5) (h:Heap) (κ:KQ) (hq:Sl bu h q Q) (hlen:Q.length≤100000) (hlo:h.lo≤h.nx) (hp:Q.Pairwise w_) {i:Nat} {p:R5} (hi:Q[i]? = some p) (hid:p.id=id)
  (dy:(∃o∈Q,o.id≠id∧o.x=x)→∀h',Le h h'→κ (.tuple ⟨[jd 0 0 (.slice none 0 0) 0,.int .i64 4]⟩) h')
  (hk2:(∀o∈Q,o.id≠id→o.x≠x)→0<p.s→∀h',Le h h'→κ (.tuple ⟨[jd 0 0 (.slice none 0 0) 0,.int .i64 7]⟩) h')
  (y3:(∀o∈Q,o.id≠id→o.x≠x)→¬0<p.s→∀q' h',QV h' q' (Q.set i (uC p x))→Le h h'→κ (.tuple ⟨[jd t r q' w,.int .i64 0]⟩) h') :
  CallW Tryz.prog 399 [jd t r q w,.int .i64 id,.int .i64 x] h κ:=by
 obtain ⟨qx,qc,rfl,_⟩:=(show Sl bu h q Q from hq)
 refine an mixed ?_
 rw[XR]
 simp(disch:=first|omega|simp only[Wd]<;>omega|rfl)only[Wz,jd]
 obtain ⟨hA,aH⟩:∃hA:Heap,hA=⟨h.nx+1+1+1+1,((((h.bl.aT (h.nx) (dF t r (.slice qx Q.length qc) w)).aT (h.nx+1) (aa [.int .i64 id] 3 false)).aT (h.nx+1+1) (aa [.int .i64 x] 3 false)).aT (h.nx+1+1+1) (jN)),h.lo⟩:=⟨_,rfl⟩
 have aL:Le h hA:=by subst aH; exact (((((Le.refl h).new _).new _).new _).new _)
 have g1:hA.bl.get (h.nx)=some (dF t r (.slice qx Q.length qc) w):=by subst aH; exact (T.ai _ _ (by omega)).trans ((T.ai _ _ (by omega)).trans ((T.ai _ _ (by omega)).trans (T.af _ _ _)))
 have g3:hA.bl.get (h.nx+1)=some (aa [.int .i64 id] 3 false):=by subst aH; exact (T.ai _ _ (by omega)).trans ((T.ai _ _ (by omega)).trans (T.af _ _ _))
 have g5:hA.bl.get (h.nx+1+1)=some (aa [.int .i64 x] 3 false):=by subst aH; exact (T.ai _ _ (by omega)).trans (T.af _ _ _)
 have g7:hA.bl.get (h.nx+1+1+1)=some (jN):=by subst aH; exact T.af _ _ _
 have ef:hA.nx=h.nx+1+1+1+1:=by subst aH; rfl
 have ej:hA.lo=h.lo:=by subst aH; rfl
 rw[←aH]
 clear aH
 refine EE t r _ w Q hA _ (hq.le aL) (by omega) (by omega) ?_
 intro q2 h2 lY hle2
 have xZ:=hle2.nx
 have x5:=hle2.lo
 have g3:=(hle2.get _ (by omega)).trans g3
 have g5:=(hle2.get _ (by omega)).trans g5
 have g7:=(hle2.get _ (by omega)).trans g7
 obtain ⟨qY,qZ,rfl,_⟩:=(show Sl bu h2 q2 Q from lY.sl)
 simp(disch:=first|omega|simp only[Wd]<;>omega|rfl)only[Wz,jd,g3]
 obtain ⟨hB,dA⟩:∃hB:Heap,hB=⟨h2.nx+1,(h2.bl.aT (h2.nx) (iH t r (.slice qY Q.length qZ) w)),h2.lo⟩:=⟨_,rfl⟩
 have cG:Le h2 hB:=by subst dA; exact ((Le.refl h2).new _)
 have g11:hB.bl.get (h2.nx)=some (iH t r (.slice qY Q.length qZ) w):=by subst dA; exact T.af _ _ _
 have Kj:hB.nx=h2.nx+1:=by subst dA; rfl
 have Kk:hB.lo=h2.lo:=by subst dA; rfl
 rw[←dA]
 clear dA
 have vH:=cG.nx
 have vI:=cG.lo
 have g3:=(cG.get _ (by omega)).trans g3
 have g5:=(cG.get _ (by omega)).trans g5
 have g7:=(cG.get _ (by omega)).trans g7
 have Kh:=lY.le cG
 refine rW t r _ w id Q hB _ Kh.sl (by omega) (by omega) ?_
 intro h3 bE
 have NM:=bE.nx
 have NN:=bE.lo
 have g3:=(bE.get _ (by omega)).trans g3
 have g5:=(bE.get _ (by omega)).trans g5
 have g7:=(bE.get _ (by omega)).trans g7
 have g11:=(bE.get _ (by omega)).trans g11
 have nX:=Kh.le bE
 have lD:Le h h3:=((aL.trans hle2).trans cG).trans bE
 rcases lF Q id with ⟨_,e⟩ | ⟨j,p',e,hj,hjd,_⟩
 ·exact absurd hid (xg e p (List.mem_of_getElem? hi))
 have hij:j=i:=M0 hp hj hi (by rw[hjd,hid])
 subst hij
 rw[hi] at hj; cases hj
 rw[e]
 simp(disch:=first|omega|simp only[Wd]<;>omega|rfl)only[Wz,eZ,cW (show (0:Int)≤(j:Int) by omega),Ey,g11]
 refine lE Q (fun o=>decide (o.id≠id) && decide (o.x=x)) h3 _ _ _ nX.sl (by omega) ?_ ?_
 ·intro o ho h4 κ4 ct z7
  have GH:=ct.nx
  have GI:=ct.lo
  have g3:=(ct.get _ (by omega)).trans g3
  have g5:=(ct.get _ (by omega)).trans g5
  simp(disch:=first|omega|simp only[Wd]<;>omega|rfl)only[Wz,List.nil_append,List.cons_append]
  exact RM id x o (h.nx+1) (h.nx+1+1) h4 κ4 (by omega) (by omega) (by omega) g3 g5 z7
 intro h4 ct
 have GH:=ct.nx
 have GI:=ct.lo
 have g3:=(ct.get _ (by omega)).trans g3
 have g5:=(ct.get _ (by omega)).trans g5
 have g7:=(ct.get _ (by omega)).trans g7
 have g11:=(ct.get _ (by omega)).trans g11
 have Lu:=nX.le ct
 have mM:=lD.trans ct
 cases Cq:Q.any (fun o=>decide (o.id≠id) && decide (o.x=x)) with
 | true=>
  simp(disch:=first|omega|simp only[Wd]<;>omega|rfl)only[Wz,g7]
  rw[List.any_eq_true] at Cq
  obtain ⟨o,ho,h1⟩:=Cq
  simp only[Bool.and_eq_true,decide_eq_true_eq] at h1
  exact dy ⟨o,ho,h1⟩ _ (mM.set (b:=h.nx+1+1+1) (by omega) _)
 | false=>
  have hno:∀o∈Q,o.id≠id→o.x≠x:=by
   intro o ho h1 h2
   rw[List.any_eq_false] at Cq
   have:=Cq o ho
   simp[h1,h2] at this
  obtain ⟨b,o,hb,nT,l_⟩:=NI Lu.sl j hi
  simp(disch:=first|omega|simp only[Wd]<;>omega|rfl)only[Wz,Ew,g11,nT,l_]
  refine Bw p ?_
  by_cases hs:0<p.s
  ·simp(disch:=first|omega|simp only[Wd]<;>omega|rfl)only[Wz,bg hs,g7]
   exact hk2 hno hs _ (mM.set (b:=h.nx+1+1+1) (by omega) _)
  ·rcases Lu with ⟨rfl,_⟩ | ⟨bo,e1,k1,k2,k3,k4⟩
   ·simp at hi
   cases e1
   have hjl:j<Q.length:=(List.getElem?_eq_some_iff.1 hi).1
   have hfl:=bf (enc:=bu) cq Q
   have Bj:=fW (p':=uC p x) (ws:=[.int .i64 x]) (j:=1) cq hi (by show 1+1≤5; omega) rfl
   have RO:bo≠h2.nx:=by rintro rfl; rw[g11] at k4; exact bh k4
   have By:bo≠h.nx+1+1+1:=by rintro rfl; rw[g7] at k4; exact bh k4
   simp(disch:=first|omega|simp only[Wd]<;>omega|rfl)only[Wz,aV hs,Ev,g11,g5,g7,aW,k4,Bj]
   have k0:hA.nx≤bo:=k1
   refine y3 hno hs _ _ (QV.blk (by show bo<h4.nx; omega) ((T.ai _ _ (fun e=>By e.symm)).trans (T.af _ _ _)) (by simp)) ((mM.set (b:=bo) (by omega) _).set (b:=h.nx+1+1+1) (by omega) _)
def dQ (n:Int):List Value:=[.int .i64 n]
theorem eE (n:Int):(dQ n).length=1:=rfl
theorem x6 (n:Int):(dQ n).all cZ=true:=rfl
abbrev zB (a h:Heap) (v:Value) (L:List Int):Prop:=gL dQ a 3 h v L
theorem EH {Q:List R5} {W:Int} (v:VQ Q W) {i:Nat} {r:R5} (hf:dP Q=some i) (hr:Q[i]? = some r) (hfit:gF Q r=true) :
  dD (ia Q+1) Q=((dD (ia (Q.set i (dz r))+1) (Q.set i (dz r))).1,r.id::(dD (ia (Q.set i (dz r))+1) (Q.set i (dz r))).2):=by
 have hc:=qJ hr (jo v hf hr)
 conv=>lhs; unfold dD
 simp only[hf,hr,hfit,if_true]
 rw[hc]
theorem NO {Q:List R5} (h:qK Q):dD (ia Q+1) Q=(Q,[]):=xe h _
theorem x7 {Q:List R5} (h:dP Q=none):qK Q:=fun i r e=>by rw[h] at e; cases e
theorem GJ {Q:List R5} {i:Nat} {r:R5} (h:dP Q=some i) (hr:Q[i]? = some r) (hf:gF Q r=false):qK Q:=fun j q e hq=>by
 rw[h] at e; cases e; rw[hr] at hq; cases hq; exact hf
set_option maxHeartbeats 2000000 in
theorem Ya (t r:Int) (q:Value) (w:Int) (Q:List R5) (h:Heap) (κ:KQ) (hq:Sl bu h q Q) (hlen:Q.length≤100000) (hlo:h.lo≤h.nx) (vq:VQ Q w)
  (hk:∀q' v' h',QV h' q' (dD (ia Q+1) Q).1→zB h h' v' (dD (ia Q+1) Q).2→Le h h'→κ (.tuple ⟨[jd t r q' w,v']⟩) h') :
  CallW Tryz.prog 393 [jd t r q w] h κ:=by
 obtain ⟨qx,qc,rfl,_⟩:=(show Sl bu h q Q from hq)
 refine an mixed ?_
 rw[XJ]
 simp(disch:=first|omega|simp only[Wd]<;>omega|rfl)only[Wz,jd]
 obtain ⟨hA,aH⟩:∃hA:Heap,hA=⟨h.nx+1+1,((h.bl.aT (h.nx) (dF t r (.slice qx Q.length qc) w)).aT (h.nx+1) (jN)),h.lo⟩:=⟨_,rfl⟩
 have aL:Le h hA:=by subst aH; exact (((Le.refl h).new _).new _)
 have g1:hA.bl.get (h.nx)=some (dF t r (.slice qx Q.length qc) w):=by subst aH; exact (T.ai _ _ (by omega)).trans (T.af _ _ _)
 have g3:hA.bl.get (h.nx+1)=some (jN):=by subst aH; exact T.af _ _ _
 have ef:hA.nx=h.nx+1+1:=by subst aH; rfl
 have ej:hA.lo=h.lo:=by subst aH; rfl
 rw[←aH]
 clear aH
 refine EE t r _ w Q hA _ (hq.le aL) (by omega) (by omega) ?_
 intro q2 h2 lY hle2
 have xZ:=hle2.nx
 have x5:=hle2.lo
 have g3:=(hle2.get _ (by omega)).trans g3
 obtain ⟨qY,qZ,rfl,_⟩:=(show Sl bu h2 q2 Q from lY.sl)
 simp(disch:=first|omega|simp only[Wd]<;>omega|rfl)only[Wz,jd]
 obtain ⟨hB,dA⟩:∃hB:Heap,hB=⟨h2.nx+1,(h2.bl.aT (h2.nx) (iH t r (.slice qY Q.length qZ) w)),h2.lo⟩:=⟨_,rfl⟩
 have cG:Le h2 hB:=by subst dA; exact ((Le.refl h2).new _)
 have g7:hB.bl.get (h2.nx)=some (iH t r (.slice qY Q.length qZ) w):=by subst dA; exact T.af _ _ _
 have Kj:hB.nx=h2.nx+1:=by subst dA; rfl
 have Kk:hB.lo=h2.lo:=by subst dA; rfl
 rw[←dA]
 clear dA
 have vH:=cG.nx
 have vI:=cG.lo
 have g3:=(cG.get _ (by omega)).trans g3
 have Kh:=lY.le cG
 have acq:Le h hB:=(aL.trans hle2).trans cG
 refine ⟨fun n l h1=>∃(K:List R5) (ids:List Int),VQ K w∧n=ia K+1∧dD (ia Q+1) Q=((dD (ia K+1) K).1,ids++(dD (ia K+1) K).2)∧K.length=Q.length∧ids.length+ia K≤ia Q∧
   zB h h1 (slot l 49) ids∧(u0 hA h1 (.slice qY K.length qZ) K)∧h1.bl.get (h.nx+1)=some jN∧h1.bl.get h2.nx=some (iH t r (.slice qY Q.length qZ) w)∧Le h h1∧hB.nx≤h1.nx,
  ⟨_,Q,[],vq,rfl,by simp,rfl,by simp,.inl ⟨rfl,.inl rfl⟩,Kh,g3,g7,acq,Nat.le_refl _⟩,?_⟩
 rintro n l h3 ⟨K,ids,vk,rfl,hsc,Uh,hcn,hoI,Z5,g3,g7,bE,n3⟩
 have l3:=bE.lo
 obtain ⟨vi,ei⟩:∃vi,slot l 49=vi:=⟨_,rfl⟩
 rw[ei] at hoI
 rw[Uh] at Z5
 have hcK:ia K≤K.length:=List.length_filter_le _ _
 have hcQ:ia Q≤Q.length:=List.length_filter_le _ _
 simp(disch:=first|omega|simp only[Wd]<;>omega|rfl)only[Wz,El,g7]
 refine ED t r _ w K h3 _ Z5.sl (by omega) (by omega) ?_
 intro h4 ct
 have GH:=ct.nx
 have GI:=ct.lo
 have g3:=(ct.get _ (by omega)).trans g3
 have g7:=(ct.get _ (by omega)).trans g7
 have RP:=Z5.le ct
 have acr:=hoI.le ct
 have mM:=bE.trans ct
 have finish:∀h',h4.nx≤h'.nx→Le h h'→zB h h' vi ids→u0 hA h' (.slice qY Q.length qZ) K→h'.bl.get (h.nx+1)=some jN→qK K→κ (.tuple ⟨[.agg ⟨[.int .i64 t,.int .i64 r,.slice qY Q.length qZ,.int .i64 w]⟩,vi]⟩) ⟨h'.nx,h'.bl.aT (h.nx+1) (dF t r (.slice qY Q.length qZ) w),h'.lo⟩:=by
  intro h' hn hl hi hr hg hst
  rw[NO hst] at hsc
  rw[hsc,List.append_nil] at hk
  exact hk _ _ _ (QV.put (QV.own hr) (fun vs op=>by rw[hg]; exact bq (by decide)) _) (gL.put hi (by rw[hg]; exact bh) _) (hl.set (b:=h.nx+1) (by omega) _)
 cases hf:dP K with
 | none=>
  simp(disch:=first|omega|simp only[Wd]<;>omega|rfl)only[Wz,eZ,eY (show (-1:Int)<0 by decide),g7,g3,ei]
  exact finish h4 (Nat.le_refl _) mM acr RP g3 (x7 hf)
 | some i=>
  obtain ⟨p,hp,_⟩:=qH hf
  obtain ⟨b,o,hb,nT,l_⟩:=NI RP.sl i hp
  simp(disch:=first|omega|simp only[Wd]<;>omega|rfl)only[Wz,eZ,cW (show (0:Int)≤(i:Int) by omega),g7,nT,l_,List.append_nil,List.cons_append,List.nil_append]
  refine Bx t r _ w p K h4 _ RP.sl (by omega) (by omega) ?_
  intro h5 ee
  have agJ:=ee.nx
  have agK:=ee.lo
  have g3:=(ee.get _ (by omega)).trans g3
  have g7:=(ee.get _ (by omega)).trans g7
  have acs:=RP.le ee
  have acu:=acr.le ee
  have qj:=mM.trans ee
  cases hfit:gF K p with
  | false=>
   simp(disch:=first|omega|simp only[Wd]<;>omega|rfl)only[Wz,g7,g3,ei]
   exact finish h5 (by omega) qj acu acs g3 (GJ hf hp hfit)
  | true=>
   rcases acs with ⟨rfl,_⟩ | ⟨bo,e1,k1,k2,k3,k4⟩
   ·simp at hp
   rw[Uh] at e1
   cases e1
   have hil:i<K.length:=(List.getElem?_eq_some_iff.1 hp).1
   have hfl:=bf (enc:=bu) cq K
   have agL:((K.set i ⟨p.id,p.x,p.w,p.w,p.s⟩).flatMap bu).length=K.length*5:=by rw[bf cq,List.length_set]
   have Bj:=fW (p':=⟨p.id,p.x,p.w,p.w,p.s⟩) (ws:=[.int .i64 p.w]) (j:=2) cq hp (by show 2+1≤5; omega) rfl
   have hp2:(K.set i ⟨p.id,p.x,p.w,p.w,p.s⟩)[i]? = some ⟨p.id,p.x,p.w,p.w,p.s⟩:=by rw[List.getElem?_set,if_pos rfl,if_pos hil]
   have zx:=fW (p':=dz p) (ws:=[.int .i64 0]) (j:=4) cq hp2 (by show 4+1≤5; omega) rfl
   rw[List.set_set] at zx
   have RO:bo≠h2.nx:=by rintro rfl; rw[g7] at k4; exact bh k4
   have By:bo≠h.nx+1:=by rintro rfl; rw[g3] at k4; exact bh k4
   have hsl:(K.set i (dz p)).length=K.length:=List.length_set
   rw[Uh] at hsl
   have L6:(K.set i (dz p))[i]? = some (dz p):=by rw[List.getElem?_set,if_pos rfl,if_pos hil]
   have r3:=iU (j:=3) cq hp (by decide)
   have r0:=iU (j:=0) cq L6 (by decide)
   have r3:(K.flatMap bu)[i*5+3]? = some (.int .i64 p.w):=r3
   have r0:((K.set i (dz p)).flatMap bu)[i*5]? = some (.int .i64 p.id):=r0
   simp(disch:=first|omega|simp only[Wd]<;>omega|rfl)only[Wz,Ek,g7,aW,k4,Bj,zx,ei,r3,r0]
   obtain ⟨hC,eC⟩:∃hC:Heap,hC=⟨h5.nx,h5.bl.aT bo (aa ((K.set i (dz p)).flatMap bu) 57 true),h5.lo⟩:=⟨_,rfl⟩
   have RQ:Le h hC:=by subst eC; exact qj.set (b:=bo) (by omega) _
   have nC:hC.nx=h5.nx:=by rw[eC]
   have lC:hC.lo=h5.lo:=by rw[eC]
   have gC:hC.bl.get bo=some (aa ((K.set i (dz p)).flatMap bu) 57 true):=by subst eC; exact T.af _ _ _
   have g3C:hC.bl.get (h.nx+1)=some jN:=by subst eC; exact (T.ai _ _ By).trans g3
   have g7C:hC.bl.get h2.nx=some (iH t r (.slice (some ⟨bo,0,none⟩) Q.length aM) w):=by subst eC; exact (T.ai _ _ RO).trans g7
   have hoC:zB h hC vi ids:=by subst eC; exact gL.put acu (by rw[k4]; exact bq (by decide)) _
   have e2:(⟨h5.nx+1,(h5.bl.aT bo (aa ((K.set i (dz p)).flatMap bu) 57 true)).aT h5.nx (aa [.int .i64 p.id] 3 false),h5.lo⟩:Heap)=⟨hC.nx+1,hC.bl.aT hC.nx (aa [.int .i64 p.id] 3 false),hC.lo⟩:=by rw[eC]
   rw[e2,show h5.nx=hC.nx from nC.symm]
   have hle1:=(Le.refl hC).new (aa [.int .i64 p.id] 3 false)
   have vk2:=vk.M1 hf hp hfit
   have hcg:=qJ hp (jo vk hf hp)
   refine iT (enc:=dQ) (a:=h) (L:=ids) (M:=[p.id]) eE x6 (by decide) (by decide) (hoC.le hle1) (Sl.new (L:=[p.id]) (e:=3) (op:=false) (Nat.lt_succ_self _) (T.af _ _ _) _) (RQ.new _) (by simp; omega) (by show hC.lo≤hC.nx+1; omega) _ ?_
   intro v' h6 Ui nF uT hn2 hl6 hsame
   have n6:hC.nx+1≤h6.nx:=hn2
   have keep:∀c o',c<hC.nx→hC.bl.get c=some o'→some o'≠some (aa (ids.flatMap dQ) 3 true)→h6.bl.get c=some o':=by
    intro c o' hc hg hne
    have e:(hC.bl.aT hC.nx (aa [.int .i64 p.id] 3 false)).get c=hC.bl.get c:=T.ai _ _ (by omega)
    exact (hsame c (Nat.lt_succ_of_lt hc) (fun k=>hne (by rw[←hg,←e]; exact k))).trans (e.trans hg)
   have alJ:h6.lo=hC.lo:=hl6
   refine ⟨_,by omega,K.set i (dz p),ids++[p.id],vk2,rfl,?_,by simpa using Uh,by simp; omega,Ui,?_,?_,?_,nF,by omega⟩
   ·rw[hsc,EH vk hf hp hfit]
    simp
   ·refine .inr ⟨bo,rfl,by omega,by omega,by omega,keep bo _ (by omega) gC (bq (by decide))⟩
   ·exact keep _ _ (by omega) g3C (bq (by decide))
   ·exact keep _ _ (by omega) g7C (bq (by decide))
theorem I_ (t r:Int) (q:Value) (w id:Int) (Q:List R5) (h:Heap) (κ:KQ) (hq:Sl bu h q Q) (hlen:Q.length≤100000) (hlo:h.lo≤h.nx)
  (hk:∀h',Le h h'→κ (match bV Q id with | some p=>.tuple ⟨[kK p,.bool true]⟩ | none=>.tuple ⟨[kK ⟨0,0,0,0,0⟩,.bool false]⟩) h') :
  CallW Tryz.prog 237 [jd t r q w,.int .i64 id] h κ:=by
 obtain ⟨qx,qc,rfl,_⟩:=(show Sl bu h q Q from hq)
 refine an mixed ?_
 rw[WX]
 simp(disch:=first|omega|simp only[Wd]<;>omega|rfl)only[Wz,jd]
 obtain ⟨hA,aH⟩:∃hA:Heap,hA=⟨h.nx+1+1,((h.bl.aT (h.nx) (dF t r (.slice qx Q.length qc) w)).aT (h.nx+1) (iy ⟨0,0,0,0,0⟩)),h.lo⟩:=⟨_,rfl⟩
 have aL:Le h hA:=by subst aH; exact (((Le.refl h).new _).new _)
 have g1:hA.bl.get (h.nx)=some (dF t r (.slice qx Q.length qc) w):=by subst aH; exact (T.ai _ _ (by omega)).trans (T.af _ _ _)
 have g3:hA.bl.get (h.nx+1)=some (iy ⟨0,0,0,0,0⟩):=by subst aH; exact T.af _ _ _
 have ef:hA.nx=h.nx+1+1:=by subst aH; rfl
 have ej:hA.lo=h.lo:=by subst aH; rfl
 rw[←aH]
 clear aH
 refine rW t r _ w id Q hA _ (hq.le aL) (by omega) (by omega) ?_
 intro h2 hle2
 have xZ:=hle2.nx
 have x5:=hle2.lo
 have g1:=(hle2.get _ (by omega)).trans g1
 have g3:=(hle2.get _ (by omega)).trans g3
 rcases lF Q id with ⟨e,e2⟩ | ⟨i,p,e,hi,hjd,e2⟩
 ·rw[e]
  simp(disch:=first|omega|simp only[Wd]<;>omega|rfl)only[Wz,eZ,eY (show (-1:Int)<0 by decide),g3]
  rw[e2] at hk
  exact hk _ ((aL.trans hle2).set (b:=h.nx+1) (by omega) _)
 ·rw[e]
  obtain ⟨b,o,hb,nT,l_⟩:=NI (hq.le (aL.trans hle2)) i hi
  simp(disch:=first|omega|simp only[Wd]<;>omega|rfl)only[Wz,eZ,cW (show (0:Int)≤(i:Int) by omega),g1,g3,nT,l_,bu]
  rw[e2] at hk
  exact hk _ ((aL.trans hle2).set (b:=h.nx+1) (by omega) _)
theorem NP {Q:List R5} {i:Nat} {p p1:R5} (hi:Q[i]? = some p) (hid:p.id=p1.id):gF (Q.set i p1) p1=gF Q p1:=by
 rw[Bool.eq_iff_iff,mI,mI]
 constructor
 ·intro h o ho h1 h2
  obtain ⟨k,hk⟩:=List.getElem?_of_mem ho
  have hki:i≠k:=by rintro rfl; rw[hi] at hk; cases hk; exact h1 hid
  exact h o (List.mem_of_getElem? (i:=k) (by rw[List.getElem?_set,if_neg hki]; exact hk)) h1 h2
 ·intro h o ho h1 h2
  rcases mem_set ho with rfl | ho
  ·exact absurd rfl h1
  ·exact h o ho h1 h2
theorem RR {Q:List R5} {i:Nat} {p p1:R5} (hi:Q[i]? = some p) (hu:uB p1=uB p):(Q.set i p1).any uB=Q.any uB:=by
 rw[Bool.eq_iff_iff,List.any_eq_true,List.any_eq_true]
 have hil:=(List.getElem?_eq_some_iff.1 hi).1
 constructor
 ·rintro ⟨o,ho,h⟩
  rcases mem_set ho with rfl | ho
  ·exact ⟨p,List.mem_of_getElem? hi,by rw[←hu]; exact h⟩
  ·exact ⟨o,ho,h⟩
 ·rintro ⟨o,ho,h⟩
  obtain ⟨k,hk⟩:=List.getElem?_of_mem ho
  by_cases hki:i=k
  ·subst hki
   rw[hi] at hk; cases hk
   exact ⟨p1,List.mem_of_getElem? (i:=i) (by rw[List.getElem?_set,if_pos rfl,if_pos hil]),by rw[hu]; exact h⟩
  ·exact ⟨o,List.mem_of_getElem? (i:=k) (by rw[List.getElem?_set,if_neg hki]; exact hk),h⟩
theorem az {β:Type} {fl:β} (b o:Nat) (h:Heap) (κ:Value→Heap→β):aJ fl (.pointer (some ⟨b,o,none⟩)) h κ=κ (.pointer (some ⟨b,o,none⟩)) h:=id rfl
set_option maxHeartbeats 2000000 in
theorem x8 (t r:Int) (q:Value) (w id m:Int) (Q:List R5) (h:Heap) (κ:KQ) (hq:Sl bu h q Q) (hlen:Q.length≤100000) (hlo:h.lo≤h.nx) (hw:0≤w∧w≤1000000)
  (nO:bN m=false→∀h',Le h h'→κ (.tuple ⟨[jd 0 0 (.slice none 0 0) 0,.bool false,.int .i64 2]⟩) h')
  (dy:bN m=true→bV Q id=none→∀h',Le h h'→κ (.tuple ⟨[jd 0 0 (.slice none 0 0) 0,.bool false,.int .i64 5]⟩) h')
  (hk2:bN m=true→∀p,bV Q id=some p→0<p.s→∀h',Le h h'→κ (.tuple ⟨[jd 0 0 (.slice none 0 0) 0,.bool false,.int .i64 7]⟩) h')
  (y3:bN m=true→∀i p,Q[i]? = some p→bV Q id=some p→¬0<p.s→∀q' h',QV h' q' (Q.set i (iM Q w p m).1)→Le h h'→κ (.tuple ⟨[jd t r q' (iM Q w p m).2.1,.bool (iM Q w p m).2.2,.int .i64 0]⟩) h') :
  CallW Tryz.prog 398 [jd t r q w,.int .i64 id,.int .i64 m] h κ:=by
 obtain ⟨qx,qc,rfl,_⟩:=(show Sl bu h q Q from hq)
 refine an mixed ?_
 rw[XQ]
 simp(disch:=first|omega|simp only[Wd]<;>omega|rfl)only[Wz,jd]
 obtain ⟨hA,aH⟩:∃hA:Heap,hA=⟨h.nx+1+1,((h.bl.aT (h.nx) (dF t r (.slice qx Q.length qc) w)).aT (h.nx+1) (jN)),h.lo⟩:=⟨_,rfl⟩
 have aL:Le h hA:=by subst aH; exact (((Le.refl h).new _).new _)
 have g1:hA.bl.get (h.nx)=some (dF t r (.slice qx Q.length qc) w):=by subst aH; exact (T.ai _ _ (by omega)).trans (T.af _ _ _)
 have g3:hA.bl.get (h.nx+1)=some (jN):=by subst aH; exact T.af _ _ _
 have ef:hA.nx=h.nx+1+1:=by subst aH; rfl
 have ej:hA.lo=h.lo:=by subst aH; rfl
 rw[←aH]
 clear aH
 refine EC m ?_
 cases ha:bN m with
 | false=>
  simp(disch:=first|omega|simp only[Wd]<;>omega|rfl)only[Wz,g3]
  exact nO ha _ (aL.set (b:=h.nx+1) (by omega) _)
 | true=>
 simp(disch:=first|omega|simp only[Wd]<;>omega|rfl)only[Wz,Eu,g1]
 refine EE t r _ w Q hA _ (hq.le aL) (by omega) (by omega) ?_
 intro q2 h2 lY hle2
 have xZ:=hle2.nx
 have x5:=hle2.lo
 have g3:=(hle2.get _ (by omega)).trans g3
 obtain ⟨qY,qZ,rfl,_⟩:=(show Sl bu h2 q2 Q from lY.sl)
 simp(disch:=first|omega|simp only[Wd]<;>omega|rfl)only[Wz,jd]
 obtain ⟨hB,dA⟩:∃hB:Heap,hB=⟨h2.nx+1,(h2.bl.aT (h2.nx) (iH t r (.slice qY Q.length qZ) w)),h2.lo⟩:=⟨_,rfl⟩
 have cG:Le h2 hB:=by subst dA; exact ((Le.refl h2).new _)
 have g12:hB.bl.get (h2.nx)=some (iH t r (.slice qY Q.length qZ) w):=by subst dA; exact T.af _ _ _
 have Kj:hB.nx=h2.nx+1:=by subst dA; rfl
 have Kk:hB.lo=h2.lo:=by subst dA; rfl
 rw[←dA]
 clear dA
 have vH:=cG.nx
 have vI:=cG.lo
 have g3:=(cG.get _ (by omega)).trans g3
 have Kh:=lY.le cG
 refine rW t r _ w id Q hB _ Kh.sl (by omega) (by omega) ?_
 intro h3 bE
 have NM:=bE.nx
 have NN:=bE.lo
 have g3:=(bE.get _ (by omega)).trans g3
 have g12:=(bE.get _ (by omega)).trans g12
 have nX:=Kh.le bE
 have lD:Le h h3:=((aL.trans hle2).trans cG).trans bE
 rcases lF Q id with ⟨e,e2⟩ | ⟨i,p,e,hi,hjd,e2⟩
 ·rw[e]
  simp(disch:=first|omega|simp only[Wd]<;>omega|rfl)only[Wz,eZ,eY (show (-1:Int)<0 by decide),g3]
  exact dy ha e2 _ (lD.set (b:=h.nx+1) (by omega) _)
 rw[e]
 obtain ⟨b,o,hb,nT,l_⟩:=NI nX.sl i hi
 simp(disch:=first|omega|simp only[Wd]<;>omega|rfl)only[Wz,eZ,cW (show (0:Int)≤(i:Int) by omega),Et,g12,nT,l_]
 refine Bw p ?_
 by_cases hs:0<p.s
 ·simp(disch:=first|omega|simp only[Wd]<;>omega|rfl)only[Wz,bg hs,g3]
  exact hk2 ha p e2 hs _ (lD.set (b:=h.nx+1) (by omega) _)
 rcases nX with ⟨rfl,_⟩ | ⟨bo,e1,k1,k2,k3,k4⟩
 ·simp at hi
 cases e1
 have hil:i<Q.length:=(List.getElem?_eq_some_iff.1 hi).1
 obtain ⟨wt,RS⟩:∃wt,bR p.m m=wt:=⟨_,rfl⟩
 have hfl:=bf (enc:=bu) cq Q
 have r2:(Q.flatMap bu)[i*5+2]? = some (.int .i64 p.m):=iU (j:=2) cq hi (by decide)
 have Bj:=fW (p':=⟨p.id,p.x,p.m,wt,p.s⟩) (ws:=[.int .i64 wt]) (j:=3) cq hi (by show 3+1≤5; omega) rfl
 obtain ⟨p1,Uj⟩:∃p1:R5,p1=⟨p.id,p.x,p.m,wt,p.s⟩:=⟨_,rfl⟩
 rw[←Uj] at Bj
 have hp2:(Q.set i p1)[i]? = some p1:=by rw[List.getElem?_set,if_pos rfl,if_pos hil]
 have agL:((Q.set i p1).flatMap bu).length=Q.length*5:=by rw[bf cq,List.length_set]
 have s2:((Q.set i p1).flatMap bu)[i*5+2]? = some (.int .i64 p.m):=by rw[iU (j:=2) cq hp2 (by decide),Uj]; rfl
 have s3:((Q.set i p1).flatMap bu)[i*5+3]? = some (.int .i64 wt):=by rw[iU (j:=3) cq hp2 (by decide),Uj]; rfl
 have RO:bo≠h2.nx:=by rintro rfl; rw[g12] at k4; exact bh k4
 have By:bo≠h.nx+1:=by rintro rfl; rw[g3] at k4; exact bh k4
 simp(disch:=first|omega|simp only[Wd]<;>omega|rfl)only[Wz,aV hs,Es,g12,aW,az,k4,r2]
 refine uE _ _ ?_
 rw[RS]
 simp(disch:=first|omega|simp only[Wd]<;>omega|rfl)only[Wz,az,k4,Bj,s2,s3]
 obtain ⟨hC,eC⟩:∃hC:Heap,hC=⟨h3.nx,h3.bl.aT bo (aa ((Q.set i p1).flatMap bu) 57 true),h3.lo⟩:=⟨_,rfl⟩
 have RQ:Le h hC:=by subst eC; exact lD.set (b:=bo) (by omega) _
 have nC:hC.nx=h3.nx:=by rw[eC]
 have lC:hC.lo=h3.lo:=by rw[eC]
 have gC:hC.bl.get bo=some (aa ((Q.set i p1).flatMap bu) 57 true):=by subst eC; exact T.af _ _ _
 have g3C:hC.bl.get (h.nx+1)=some jN:=by subst eC; exact (T.ai _ _ By).trans g3
 have Yb:hC.bl.get h2.nx=some (iH t r (.slice (some ⟨bo,0,none⟩) Q.length aM) w):=by subst eC; exact (T.ai _ _ RO).trans g12
 rw[←eC]
 have hoC:u0 hA hC (.slice (some ⟨bo,0,none⟩) Q.length aM) (Q.set i p1):=.inr ⟨bo,by rw[List.length_set],k1,by omega,by omega,gC⟩
 have eid:p.id=p1.id:=by rw[Uj]
 have eup:uB p1=uB p:=by rw[Uj]; rfl
 have agM:=NP hi eid
 have agN:=RR hi eup
 have Kl:∀(g:Bool) (hD:Heap),hD.bl.get bo=some (aa ((Q.set i p1).flatMap bu) 57 true)→hD.bl.get (h.nx+1)=some jN→hD.bl.get h2.nx=some (iH t r (.slice (some ⟨bo,0,none⟩) Q.length aM) w)→Le h hD→hC.nx≤hD.nx→
   iM Q w p m=(⟨p.id,p.x,wt,wt,p.s⟩,w,true)→
   cT (fun Qc=>xS (.pointer (some ⟨bo,i*5,none⟩)) Qc (.bool true) hD) fun l76 h_14=>
    vz False (h_14.bl.get h2.nx) 0 4 fun l=>QN False (h_14.bl.get (h.nx+1)) 4 (h.nx+1) 0 l h_14 fun h_15=>vz False (h_15.bl.get (h.nx+1)) 0 4 fun l=>κ (.tuple ⟨[.agg ⟨l⟩,.bool true,.int .i64 0]⟩) h_15:=by
  intro g hD d1 d2 d3 hl hn he
  have ll:=hl.lo
  have zx:=fW (p':=⟨p.id,p.x,wt,wt,p.s⟩) (ws:=[.int .i64 wt]) (j:=2) cq hp2 (by show 2+1≤5; omega) (by rw[Uj]; rfl)
  rw[List.set_set] at zx
  refine ⟨fun l h'=>HQ ⟨hD.nx,hD.bl.aT bo (aa ((Q.set i ⟨p.id,p.x,wt,wt,p.s⟩).flatMap bu) 57 true),hD.lo⟩ h',?_,?_⟩
  ·simp(disch:=first|omega|simp only[Wd]<;>omega|rfl)only[Wz,xS,az,d1,s3,zx]
   rfl
  ·intro l h' HM
   cases (show _=h' from HM)
   simp(disch:=first|omega|simp only[Wd]<;>omega|rfl)only[Wz,d3,d2]
   have key:=y3 ha i p hi e2 hs
   rw[he] at key
   exact key _ _ (QV.blk (by show bo<hD.nx; omega) ((T.ai _ _ (fun e=>By e.symm)).trans (T.af _ _ _)) (by simp)) ((hl.set (b:=bo) (by omega) _).set (b:=h.nx+1) (by omega) _)
 have acw:∀(hD:Heap),hD.bl.get bo=some (aa ((Q.set i p1).flatMap bu) 57 true)→hD.bl.get (h.nx+1)=some jN→hD.bl.get h2.nx=some (iH t r (.slice (some ⟨bo,0,none⟩) Q.length aM) w)→Le h hD→hC.nx≤hD.nx→
   iM Q w p m=(⟨p.id,p.x,p.m,wt,w+1⟩,w+1,false)→
   cT (fun Qc=>xT h2.nx (.pointer (some ⟨bo,i*5,none⟩)) Qc (.bool false) hD) fun l76 h_14=>
    vz False (h_14.bl.get h2.nx) 0 4 fun l=>QN False (h_14.bl.get (h.nx+1)) 4 (h.nx+1) 0 l h_14 fun h_15=>vz False (h_15.bl.get (h.nx+1)) 0 4 fun l=>κ (.tuple ⟨[.agg ⟨l⟩,.bool false,.int .i64 0]⟩) h_15:=by
  intro hD d1 d2 d3 hl hn he
  have ll:=hl.lo
  have zx:=fW (p':=⟨p.id,p.x,p.m,wt,w+1⟩) (ws:=[.int .i64 (w+1)]) (j:=4) cq hp2 (by show 4+1≤5; omega) (by rw[Uj]; rfl)
  rw[List.set_set] at zx
  refine ⟨fun l h'=>HQ ⟨hD.nx,(hD.bl.aT h2.nx (iH t r (.slice (some ⟨bo,0,none⟩) Q.length aM) (w+1))).aT bo (aa ((Q.set i ⟨p.id,p.x,p.m,wt,w+1⟩).flatMap bu) 57 true),hD.lo⟩ h',?_,?_⟩
  ·simp(disch:=first|omega|simp only[Wd]<;>omega|rfl)only[Wz,xT,az,d1,d3,zx]
   rfl
  ·intro l h' HM
   cases (show _=h' from HM)
   simp(disch:=first|omega|simp only[Wd]<;>omega|rfl)only[Wz,d3,d2]
   have key:=y3 ha i p hi e2 hs
   rw[he] at key
   exact key _ _ (QV.blk (by show bo<hD.nx; omega) ((T.ai _ _ (fun e=>By e.symm)).trans (T.af _ _ _)) (by simp)) (((hl.set (b:=h2.nx) (by omega) _).set (b:=bo) (by omega) _).set (b:=h.nx+1) (by omega) _)
 by_cases hq1:wt=p.m
 ·simp(disch:=first|omega|simp only[Wd]<;>omega|rfl)only[Wz,bg hq1]
  exact Kl true hC gC g3C Yb RQ (Nat.le_refl _) (by unfold iM; rw[RS,if_pos (by simp[hq1])])
 ·have fa:(((Q.set i p1).flatMap bu).drop (i*5)).take 5=bu p1:=by
   have:=vA (enc:=bu) cq (Q.set i p1) i (by simpa using hil)
   rw[this,(List.getElem?_eq_some_iff.1 hp2).2]
  simp(disch:=first|omega|simp only[Wd]<;>omega|rfl)only[Wz,aV hq1,g12,Yb,gC,fa]
  refine Bx t r _ w p1 (Q.set i p1) hC _ hoC.sl (by simp; omega) (by omega) ?_
  intro h5 ee
  have n5:=ee.nx
  have l5:=ee.lo
  have d1:=(ee.get bo (by omega)).trans gC
  have d2:=(ee.get (h.nx+1) (by omega)).trans g3C
  have d3:=(ee.get h2.nx (by omega)).trans Yb
  have Uf:=RQ.trans ee
  rw[agM]
  have acy:gF Q p1=gF Q ⟨p.id,p.x,p.m,bR p.m m,p.s⟩:=by rw[Uj,RS]
  cases hft:gF Q p1 with
  | false=>
   simp(disch:=first|omega|simp only[Wd]<;>omega|rfl)only[Wz]
   refine acw h5 d1 d2 d3 Uf n5 ?_
   unfold iM
   rw[RS,if_neg]
   rw[←RS,←acy,hft,RS]
   simp[hq1]
  | true=>
   simp(disch:=first|omega|simp only[Wd]<;>omega|rfl)only[Wz,d3]
   refine lE (Q.set i p1) uB h5 _ _ _ (hoC.sl.le ee) (by simp; omega) ?_ ?_
   ·intro o ho h6 κ6 hl6 hk6
    simp(disch:=first|omega|simp only[Wd]<;>omega|rfl)only[Wz,List.nil_append,List.append_nil]
    exact xX o (hk6 h6 (Le.refl _))
   ·intro h6 nF
    have n6:=nF.nx
    have l6:=nF.lo
    have d1:=(nF.get bo (by omega)).trans d1
    have d2:=(nF.get (h.nx+1) (by omega)).trans d2
    have d3:=(nF.get h2.nx (by omega)).trans d3
    have hl6:=Uf.trans nF
    rw[agN]
    cases han:Q.any uB with
    | true=>
     simp(disch:=first|omega|simp only[Wd]<;>omega|rfl)only[Wz]
     refine acw h6 d1 d2 d3 hl6 (by omega) ?_
     unfold iM
     rw[RS,if_neg]
     rw[han]
     simp[hq1]
    | false=>
     simp(disch:=first|omega|simp only[Wd]<;>omega|rfl)only[Wz]
     refine Kl true h6 d1 d2 d3 hl6 (by omega) ?_
     unfold iM
     rw[RS,if_pos]
     rw[←RS,←acy,hft,han]
     simp
end Go.Proofs

namespace Go.Vai
section
variable {α:Type} {s:Nat} {enc:α→List Value}
set_option maxRecDepth 20000 in
theorem GK {a h:Heap} {e:TypeId} {z:List Value} {v x:Value} {L M:List α} (he:∀a:α,(enc a).length=s) (hone:∀a:α,(enc a).all cZ=true) (hs0:0<s) (hs1:s≤100) (ho:gL enc a e h v L) (hx:Sl enc h x M)
  (hle:Le a h) (hb:L.length+M.length≤1000000) (hal:h.lo≤h.nx) (κ:KQ)
  (hk:∀v' h',gL enc a e h' v' (L++M)→Le a h'→h'.nx≤h.nx+1→h.nx≤h'.nx→h'.lo=h.lo→(∀b,b<h.nx→h.bl.get b≠some (aa (L.flatMap enc) e true)→h'.bl.get b=h.bl.get b)→(∀b,b<h.nx→(∀n cap,v≠.slice (some ⟨b,0,none⟩) n cap)→h'.bl.get b=h.bl.get b)→(v'=v∨∃b n cap,h.nx≤b∧v'=.slice (some ⟨b,0,none⟩) n cap)→κ v' h'):bL False e s z false v x h κ:=by
 by_cases hM:M=[]
 ·subst hM
  rw[append_nil hx (by rcases ho with ⟨rfl,rfl | ⟨b,o,rfl⟩⟩ | ⟨b,rfl,_⟩<;>exact ⟨_,_,_,rfl⟩)]
  exact hk v h (by simpa using ho) hle (Nat.le_succ _) (Nat.le_refl _) rfl (fun _ _ _=>rfl) (fun _ _ _=>rfl) (.inl rfl)
 ·obtain ⟨m,hm⟩:∃m,M.length=m+1:=⟨M.length-1,by have:=List.length_pos_iff.2 hM; omega⟩
  have hfl:=bf (enc:=enc) he
  have iS:=hx.first (β:=Prop) (fl:=False) he
  obtain ⟨y,cap,rfl,h2⟩:=hx
  have hml:∀K:List α,K.length≤1000000→(K.flatMap enc).length≤1000000000000:=fun K hK=>by
   rw[hfl]
   have:=Nat.mul_le_mul hK hs1
   omega
  have fresh:∀(hh:Heap) (ws:List Value),ws=(L++M).flatMap enc→Le a hh→hh.nx=h.nx→hh.lo=h.lo→(∀b,b<h.nx→h.bl.get b≠some (aa (L.flatMap enc) e true)→hh.bl.get b=h.bl.get b)→(∀b,b<h.nx→(∀n cap,v≠.slice (some ⟨b,0,none⟩) n cap)→hh.bl.get b=h.bl.get b)→cL False ws e true hh fun b h'=>κ (.slice (some ⟨b,0,none⟩) (L.length+M.length) aM) h':=by
   intro hh ws hw Ty ZP hlo hgt agQ
   subst hw
   unfold cL
   rw[iu _ _ _ _ (hml _ (by simp; omega)),dx]
   refine hk _ _ (.inr ⟨hh.nx,by simp,Ty.nx,Nat.lt_succ_self _,by show hh.lo≤_; omega,T.af _ _ _⟩) (Ty.new _) (by show hh.nx+1≤_; omega) (by show h.nx≤hh.nx+1; omega) hlo (fun b hb hn=>(T.ai _ _ (by omega)).trans (hgt b hb hn)) (fun b hb hn=>(T.ai _ _ (by omega)).trans (agQ b hb hn)) (.inr ⟨hh.nx,_,_,by omega,rfl⟩)
  rcases ho with ⟨rfl,hv⟩ | ⟨b,rfl,h3,h4,h5,h6⟩
  ·have hF:=fresh h (M.flatMap enc) (by simp) hle rfl rfl (fun _ _ _=>rfl) (fun _ _ _=>rfl)
   simp only[List.length_nil,Nat.zero_add] at hF
   rcases hv with rfl | ⟨b,o,rfl⟩
   ·unfold bL kV
    simp only
    rw[iS]
    simp only[hm,bT]
    rw[show Nat.ble (Nat.add 0 (m+1)) 1000000000=true from Nat.ble_eq_true_of_le (by show 0+(m+1)≤_; omega)]
    rw[hm] at hF
    have e1:Nat.add 0 (m+1)=m+1:=by show 0+(m+1)=_; omega
    rw[e1]
    exact hF
   ·unfold bL kV
    simp only
    rw[iS]
    simp only[hm,bT]
    have e1:Nat.add 0 (m+1)=m+1:=by show 0+(m+1)=_; omega
    rw[e1,show Nat.ble (m+1) 1000000000=true from Nat.ble_eq_true_of_le (by omega)]
    rw[hm] at hF
    show dH False h s 0 _ _
    rw[jm _ _ _ _ _ (by simp)]
    exact hF
  ·unfold bL kV
   simp only
   rw[iS]
   simp only[hm,bT]
   have e1:Nat.add L.length (m+1)=L.length+(m+1):=rfl
   rw[e1,show Nat.ble (L.length+(m+1)) 1000000000=true from Nat.ble_eq_true_of_le (by omega)]
   have e2:Nat.beq aM fq=false:=by decide
   have e3:Nat.beq aM aM=true:=Nat.beq_refl _
   simp only[e2,e3,h6]
   have e4:Nat.ble (Nat.add 0 (Nat.mul (L.length+(m+1)) s)) (L.flatMap enc).length=false:=by
    rw[hfl]
    cases QO:Nat.ble (Nat.add 0 (Nat.mul (L.length+(m+1)) s)) (L.length*s) with
    | false=>rfl
    | true=>
     have h7:0+(L.length+(m+1))*s≤L.length*s:=Nat.le_of_ble_eq_true QO
     rw[Nat.add_mul,Nat.succ_mul] at h7
     omega
   have e5:(M.flatMap enc).all cZ=true:=by
    rw[List.all_flatMap]; simp only[List.all_eq_true]; intro x _; exact List.all_eq_true.1 (hone x)
   simp only[aa,Nat.beq_refl,e4,e5,Bool.and_self]
   have hh:Has (h.bl.get b) 0 (L.flatMap enc):=by rw[h6]; exact Has.all
   rw[iR hh s L.length _ _ _ (hfl L).symm,bU _ _ _ _ h5]
   have hF:=fresh ⟨h.nx,h.bl.aT b (.dead (L.flatMap enc).length e),h.lo⟩ (L.flatMap enc++M.flatMap enc) (by simp) (hle.set h3 _) rfl rfl (fun b' _ hn=>T.ai _ _ (fun e=>hn (by rw[←e]; exact h6))) (fun b' _ hn=>T.ai _ _ (by rintro rfl; exact hn _ _ rfl))
   rw[hm] at hF
   exact hF
end
theorem lH {v v':Value} {vs vs':List Value} {e e':TypeId} {p p':Bool} (h:(some (aa (v::vs) e p):Option bC)=some (aa (v'::vs') e' p')):v=v':=by
 have h1:=congrArg (fun ob=>sF (none:Option Value) ob 0 some) h
 simp only[pq] at h1
 exact Option.some.inj h1
end Go.Vai
namespace Go.Proofs
open Go.Vai Go.Clashes
def frV (b:Nat):Value:=.iface 306 (.pointer (some ⟨b,0,none⟩))
theorem ci_len (b : Nat) (h : Heap) (κ : Value → Heap → Prop) : CallI Tryz.prog "Len" (frV b) [] h κ = (fieldAddrB False 0 (.pointer (some ⟨b, 0, none⟩)) h fun a h => load1 False a h fun v h => CallW Tryz.prog 175 [v] h κ) := by kernel_rfl
theorem ci_less (b : Nat) (i j : Value) (h : Heap) (κ : Value → Heap → Prop) : CallI Tryz.prog "Less" (frV b) [i, j] h κ = (fieldAddrB False 0 (.pointer (some ⟨b, 0, none⟩)) h fun a h => load1 False a h fun v h => CallW Tryz.prog 465 [v, i, j] h κ) := by kernel_rfl
theorem ci_swap (b : Nat) (i j : Value) (h : Heap) (κ : Value → Heap → Prop) : CallI Tryz.prog "Swap" (frV b) [i, j] h κ = (fieldAddrB False 0 (.pointer (some ⟨b, 0, none⟩)) h fun a h => load1 False a h fun v h => CallW Tryz.prog 467 [v, i, j] h κ) := by kernel_rfl
theorem ci_push (b : Nat) (x : Value) (h : Heap) (κ : Value → Heap → Prop) : CallI Tryz.prog "Push" (frV b) [x] h κ = CallW Tryz.prog 469 [.pointer (some ⟨b, 0, none⟩), x] h κ := by kernel_rfl
theorem ci_pop (b : Nat) (h : Heap) (κ : Value → Heap → Prop) : CallI Tryz.prog "Pop" (frV b) [] h κ = CallW Tryz.prog 468 [.pointer (some ⟨b, 0, none⟩)] h κ := by kernel_rfl
def nP (h:Heap) (v:Value) (F:List Int):Prop:=(F=[]∧v=.slice none 0 0)∨∃b G,v=.slice (some ⟨b,0,none⟩) F.length aM∧b<h.nx∧h.lo≤b∧h.bl.get b=some (aa ((F++G).flatMap dQ) 3 true)∧0<(F++G).length
structure fD (h:Heap) (bp:Nat) (F:List Int) (ls:Value):Prop where
 lt:bp<h.nx
 lo:h.lo≤bp
 cell:∃fs,h.bl.get bp=some (aa [fs,ls] 286 false)∧nP h fs F
def FB (h:Heap) (bp c:Nat):Prop:=∃n cap ls,h.bl.get bp=some (aa [.slice (some ⟨c,0,none⟩) n cap,ls] 286 false)
theorem FB.congr {h h':Heap} {bp c:Nat} (e:h'.bl.get bp=h.bl.get bp):FB h' bp c↔FB h bp c:=by unfold FB; rw[e]
structure x9 (bp:Nat) (h h':Heap):Prop where
 nx:h.nx≤h'.nx
 lo:h'.lo=h.lo
 get:∀c,c<h.nx→c≠bp→(∀vs,h.bl.get c≠some (aa vs 3 true))→h'.bl.get c=h.bl.get c
 g2:bp<h.nx→∀c,c<h.nx→c≠bp→¬FB h bp c→h'.bl.get c=h.bl.get c
 mv:bp<h.nx→∀c,c<h.nx→FB h' bp c→FB h bp c
theorem x9.refl (bp:Nat) (h:Heap):x9 bp h h:=⟨Nat.le_refl _,rfl,fun _ _ _ _=>rfl,fun _ _ _ _ _=>rfl,fun _ _ _ x=>x⟩
theorem x9.trans {bp:Nat} {h h' h'':Heap} (a:x9 bp h h') (b:x9 bp h' h''):x9 bp h h'':=
 ⟨Nat.le_trans a.nx b.nx,b.lo.trans a.lo,fun c hc hn hi=>(b.get c (Nat.lt_of_lt_of_le hc a.nx) hn (fun vs=>by rw[a.get c hc hn hi]; exact hi vs)).trans (a.get c hc hn hi),
  fun hb c hc hn hi=>(b.g2 (Nat.lt_of_lt_of_le hb a.nx) c (Nat.lt_of_lt_of_le hc a.nx) hn fun x=>hi (a.mv hb c hc x)).trans (a.g2 hb c hc hn hi),
  fun hb c hc x=>a.mv hb c hc (b.mv (Nat.lt_of_lt_of_le hb a.nx) c (Nat.lt_of_lt_of_le hc a.nx) x)⟩
theorem x9.swap {bp:Nat} {h h':Heap} {fs ls:Value} (hg:h.bl.get bp=some (aa [fs,ls] 286 false)) (q1:h'.nx=h.nx) (q2:h'.lo=h.lo) (q4:∀c,(∀vs,h.bl.get c≠some (aa vs 3 true))→h'.bl.get c=h.bl.get c) (q5:∀c,(∀n cap,fs≠.slice (some ⟨c,0,none⟩) n cap)→h'.bl.get c=h.bl.get c):x9 bp h h':=
 ⟨by omega,q2,fun c _ _ hi=>q4 c hi,fun _ c _ _ hn=>q5 c fun n cap e=>hn ⟨n,cap,ls,e▸hg⟩,fun _ c _ x=>(FB.congr (q4 bp fun vs=>by rw[hg]; exact bh)).1 x⟩
theorem rY (F:List Int) (h:Heap) (v:Value) (κ:KQ) (hp:nP h v F) (hk:κ (.int .i64 (F.length:Int)) h):CallW Tryz.prog 175 [v] h κ:=by
 refine an mixed ?_
 rw[Wh]
 rcases hp with ⟨rfl,rfl⟩ | ⟨b,G,rfl,_⟩
 ·simp(disch:=first|omega|simp only[Wd]<;>omega|rfl)only[Wz]; exact hk
 ·simp(disch:=first|omega|simp only[Wd]<;>omega|rfl)only[Wz]; exact hk
theorem oL {F G:List Int} {i:Nat} {x:Int} (hx:F[i]? = some x):((F++G).flatMap dQ)[i]? = some (.int .i64 x):=by
 have h1:(F++G)[i]? = some x:=by rw[List.getElem?_append_left (List.getElem?_eq_some_iff.1 hx).1]; exact hx
 have:=iU (j:=0) eE h1 (by decide)
 simpa[dQ] using this
theorem x_ {F G:List Int} {i:Nat} {y:Int} (hi:i<F.length):over ((F++G).flatMap dQ) i [.int .i64 y]=((F.set i y)++G).flatMap dQ:=by
 have h1:(F++G)[i]? = some F[i]:=by rw[List.getElem?_append_left hi]; exact List.getElem?_eq_getElem hi
 have:=fW (p':=y) (ws:=[.int .i64 y]) (j:=0) eE h1 (by show 0+1≤1; omega) rfl
 rw[Nat.mul_one,Nat.add_zero] at this
 rw[this,List.set_append,if_pos hi]
theorem tE (F:List Int) (i j:Nat) (h:Heap) (v:Value) (κ:KQ) (hp:nP h v F) (hi:i<F.length) (hj:j<F.length) (hk:κ (.bool (decide (F[i]<F[j]))) h):CallW Tryz.prog 465 [v,.int .i64 (i:Int),.int .i64 (j:Int)] h κ:=by
 refine an mixed ?_
 rw[X2]
 rcases hp with ⟨rfl,rfl⟩ | ⟨b,G,rfl,h1,h2,h3,h4⟩
 ·simp at hi
 ·have r1:=oL (G:=G) (List.getElem?_eq_getElem hi)
  have r2:=oL (G:=G) (List.getElem?_eq_getElem hj)
  simp(disch:=first|omega|simp only[Wd]<;>omega|rfl)only[Wz,aW,h3,r1,r2,Nat.mul_one]
  exact hk
def mN (F:List Int) (i j:Nat):List Int:=match F[i]?,F[j]? with | some x,some y=>(F.set i y).set j x | _,_=>F
theorem rZ {F:List Int} {i j:Nat} (hi:i<F.length) (hj:j<F.length):mN F i j=(F.set i F[j]).set j F[i]:=by
 simp only[mN,List.getElem?_eq_getElem hi,List.getElem?_eq_getElem hj]
theorem tF (F:List Int) (i j:Nat):(mN F i j).length=F.length:=by
 unfold mN
 split<;>simp
theorem tG (F:List Int) (i j:Nat) (h:Heap) (v:Value) (κ:KQ) (hp:nP h v F) (hi:i<F.length) (hj:j<F.length)
  (hk:∀h',h'.nx=h.nx→h'.lo=h.lo→nP h' v (mN F i j)→(∀c,(∀vs,h.bl.get c≠some (aa vs 3 true))→h'.bl.get c=h.bl.get c)→(∀c,(∀n cap,v≠.slice (some ⟨c,0,none⟩) n cap)→h'.bl.get c=h.bl.get c)→κ (.tuple ⟨[]⟩) h'):CallW Tryz.prog 467 [v,.int .i64 (i:Int),.int .i64 (j:Int)] h κ:=by
 refine an mixed ?_
 rw[X3]
 rcases hp with ⟨rfl,rfl⟩ | ⟨b,G,rfl,h1,h2,h3,h4⟩
 ·simp at hi
 ·have r1:=oL (G:=G) (List.getElem?_eq_getElem hi)
  have r2:=oL (G:=G) (List.getElem?_eq_getElem hj)
  have hl:=bf (enc:=dQ) eE (F++G)
  have nL:=bf (enc:=dQ) eE ((F.set i F[j])++G)
  have ov1:=x_ (G:=G) (y:=F[j]) hi
  have ov2:=x_ (G:=G) (F:=F.set i F[j]) (y:=F[i]) (i:=j) (by simpa using hj)
  have hlen:(F++G).length=F.length+G.length:=List.length_append
  have ajc:((F.set i F[j])++G).length=F.length+G.length:=by simp
  simp(disch:=first|omega|simp only[Wd]<;>omega|rfl)only[Wz,aW,h3,r1,r2,Nat.mul_one,ov1,ov2]
  refine hk _ rfl rfl (.inr ⟨b,G,by rw[tF],h1,h2,?_,?_⟩) ?_ fun c hc=>T.ai _ _ (by rintro rfl; exact hc _ _ rfl)
  ·rw[rZ hi hj]; exact T.af _ _ _
  ·rw[List.length_append,tF]; simpa using h4
  ·intro c hc
   refine T.ai _ _ ?_
   rintro rfl
   exact hc _ h3
theorem qN {F:List Int} {i j:Nat} (hi:i<F.length) (hj:j<F.length):(mN F i j).Perm F:=by
 rw[rZ hi hj]; exact List.set_set_perm hi hj
theorem gD {F:List Int} {i:Nat} (h:i<F.length):F.getD i 0=F[i]:=by
 rw[List.getD_eq_getElem?_getD,List.getElem?_eq_getElem h]; rfl
theorem r5 {F:List Int} {i j:Nat} (hi:i<F.length) (hj:j<F.length) (k:Nat):(mN F i j).getD k 0=if k=j then F.getD i 0 else if k=i then F.getD j 0 else F.getD k 0:=by
 rw[rZ hi hj,gD hi,gD hj]
 simp only[List.getD_eq_getElem?_getD,List.getElem?_set,List.length_set]
 by_cases h1:j=k
 ·subst h1; rw[if_pos rfl,if_pos hj,if_pos rfl]; rfl
 ·have h1':¬k=j:=fun e=>h1 e.symm
  rw[if_neg h1,if_neg h1']
  by_cases h2:i=k
  ·subst h2; rw[if_pos rfl,if_pos hi,if_pos rfl]; rfl
  ·have h2':¬k=i:=fun e=>h2 e.symm
   rw[if_neg h2,if_neg h2']
def HN (F:List Int) (n:Nat):Prop:=∀i,0<i→i<n→F.getD ((i-1) / 2) 0≤F.getD i 0
abbrev HP (F:List Int):Prop:=HN F F.length
structure ya (F:List Int) (j:Nat):Prop where
 a:∀i,0<i→i<F.length→i≠j→F.getD ((i-1) / 2) 0≤F.getD i 0
 b:0<j→∀i,0<i→i<F.length→(i-1) / 2=j→F.getD ((j-1) / 2) 0≤F.getD i 0
structure u6 (F:List Int) (i n:Nat):Prop where
 a:∀k,0<k→k<n→(k-1) / 2≠i→F.getD ((k-1) / 2) 0≤F.getD k 0
 b:0<i→∀k,0<k→k<n→(k-1) / 2=i→F.getD ((i-1) / 2) 0≤F.getD k 0
theorem ya.step {F:List Int} {j:Nat} (u:ya F j) (h0:0<j) (hj:j<F.length) (hlt:F.getD j 0<F.getD ((j-1) / 2) 0):ya (mN F ((j-1) / 2) j) ((j-1) / 2):=by
 have hp:(j-1) / 2<F.length:=by omega
 have G:=r5 (F:=F) hp hj
 have L:=tF F ((j-1) / 2) j
 refine ⟨fun i h1 h2 h3=>?_,fun hp0 i h1 h2 h3=>?_⟩
 ·rw[L] at h2
  rw[G,G]
  by_cases e1:i=j
  ·subst e1
   rw[if_neg (by omega),if_pos rfl,if_pos rfl]; omega
  ·rw[if_neg e1,if_neg h3]
   have A:=u.a i h1 h2 e1
   by_cases e2:(i-1) / 2=j
   ·rw[if_pos e2]; exact u.b h0 i h1 h2 e2
   ·rw[if_neg e2]
    by_cases e3:(i-1) / 2=(j-1) / 2
    ·rw[if_pos e3]; rw[e3] at A; omega
    ·rw[if_neg e3]; exact A
 ·rw[L] at h2
  rw[G,G,if_neg (by omega),if_neg (by omega)]
  have A:=u.a ((j-1) / 2) hp0 hp (by omega)
  by_cases e1:i=j
  ·rw[if_pos e1]; exact A
  ·rw[if_neg e1,if_neg (by omega)]
   have B:=u.a i h1 h2 e1
   rw[h3] at B; omega
theorem ya.NQ {F:List Int} (u:ya F 0):HP F:=fun i h1 h2=>u.a i h1 h2 (by omega)
theorem ya.Yc {F:List Int} {j:Nat} (u:ya F j) (hge:F.getD ((j-1) / 2) 0≤F.getD j 0):HP F:=fun i h1 h2=>by
 by_cases e:i=j
 ·subst e; exact hge
 ·exact u.a i h1 h2 e
theorem HP.push {F:List Int} (u:HP F) (x:Int):ya (F++[x]) F.length:=by
 have G:∀k,k<F.length→(F++[x]).getD k 0=F.getD k 0:=fun k hk=>by
  rw[List.getD_eq_getElem?_getD,List.getElem?_append_left hk,List.getD_eq_getElem?_getD]
 refine ⟨fun i h1 h2 h3=>?_,fun _ i h1 h2 h3=>?_⟩
 ·rw[List.length_append,List.length_singleton] at h2
  rw[G _ (by omega),G _ (by omega)]; exact u i h1 (by omega)
 ·rw[List.length_append,List.length_singleton] at h2; omega
theorem u6.step {F:List Int} {i n c:Nat} (d:u6 F i n) (hn:n≤F.length) (hc:c<n) (hi:(c-1) / 2=i) (hc0:0<c) (hlt:F.getD c 0<F.getD i 0) (hmin:∀k,0<k→k<n→(k-1) / 2=i→F.getD c 0≤F.getD k 0):u6 (mN F i c) c n:=by
 have G:=r5 (F:=F) (i:=i) (j:=c) (by omega) (by omega)
 refine ⟨fun k h1 h2 h3=>?_,fun _ k h1 h2 h3=>?_⟩
 ·rw[G,G]
  by_cases e1:(k-1) / 2=i
  ·rw[if_neg h3,if_pos e1]
   by_cases e2:k=c
   ·rw[if_pos e2]; omega
   ·rw[if_neg e2,if_neg (by omega)]; exact hmin k h1 h2 e1
  ·rw[if_neg h3,if_neg e1]
   have A:=d.a k h1 h2 e1
   by_cases e2:k=c
   ·subst e2; omega
   ·rw[if_neg e2]
    by_cases e3:k=i
    ·subst e3; rw[if_pos rfl]; exact d.b h1 c hc0 hc hi
    ·rw[if_neg e3]; exact A
 ·rw[G,G,hi,if_neg (by omega),if_pos rfl,if_neg (by omega),if_neg (by omega)]
  have A:=d.a k h1 h2 (by omega)
  rw[h3] at A; exact A
theorem u6.NQ {F:List Int} {i n:Nat} (d:u6 F i n) (h:n≤2*i+1):HN F n:=fun k h1 h2=>d.a k h1 h2 (by omega)
theorem u6.Yc {F:List Int} {i n c:Nat} (d:u6 F i n) (hge:F.getD i 0≤F.getD c 0) (hmin:∀k,0<k→k<n→(k-1) / 2=i→F.getD c 0≤F.getD k 0):HN F n:=fun k h1 h2=>by
 by_cases e:(k-1) / 2=i
 ·have:=hmin k h1 h2 e
  rw[e]; omega
 ·exact d.a k h1 h2 e
theorem HP.pop {F:List Int} (u:HP F) (h0:0<F.length):u6 (mN F 0 (F.length-1)) 0 (F.length-1):=by
 have G:=r5 (F:=F) (i:=0) (j:=F.length-1) h0 (by omega)
 refine ⟨fun k h1 h2 h3=>?_,fun h=>by omega⟩
 rw[G,G,if_neg (by omega),if_neg h3,if_neg (by omega),if_neg (by omega)]
 exact u k h1 (by omega)
theorem HP.least {F:List Int} (u:HP F):∀n k,k<n→k<F.length→F.getD 0 0≤F.getD k 0:=by
 intro n
 induction n with
 | zero=>intro k h; omega
 | succ n ih=>
  intro k h1 h2
  by_cases e:k=0
  ·subst e; exact Int.le_refl _
  ·have:=ih ((k-1) / 2) (by omega) (by omega)
   have:=u k (by omega) h2
   omega
theorem HN.take {F:List Int} {n:Nat} (u:HN F n) (hn:n≤F.length):HP (F.take n):=by
 have G:∀k,k<n→(F.take n).getD k 0=F.getD k 0:=fun k hk=>by
  rw[List.getD_eq_getElem?_getD,List.getElem?_take,if_pos hk,List.getD_eq_getElem?_getD]
 intro i h1 h2
 rw[List.length_take] at h2
 rw[G _ (by omega),G _ (by omega)]
 exact u i h1 (by omega)
theorem fD.same {h h':Heap} {bp:Nat} {F F':List Int} {ls fs:Value} (f:fD h bp F ls) (hn:h'.nx=h.nx) (hl:h'.lo=h.lo) (hg:h.bl.get bp=some (aa [fs,ls] 286 false)) (hp:nP h' fs F') (hfr:∀c,(∀vs,h.bl.get c≠some (aa vs 3 true))→h'.bl.get c=h.bl.get c):fD h' bp F' ls:=
 ⟨by rw[hn]; exact f.lt,by rw[hl]; exact f.lo,fs,by rw[hfr bp (fun vs=>by rw[hg]; exact bh)]; exact hg,hp⟩
theorem NR (j:Nat):Int.tdiv ((j:Int)-1) 2=(((j-1) / 2:Nat):Int):=by
 cases j with
 | zero=>rfl
 | succ j=>rw[Int.tdiv_eq_ediv_of_nonneg (by omega)]; omega
theorem agR (bp:Nat) (F:List Int) (ls:Value) (j:Nat) (h:Heap) (κ:KQ) (f:fD h bp F ls) (hj:j<F.length) (hlen:F.length≤100000)
  (hk:∀h' F',fD h' bp F' ls→F'.Perm F→(ya F j→HP F')→x9 bp h h'→κ (.tuple ⟨[]⟩) h'):CallW Tryz.prog 289 [frV bp,.int .i64 (j:Int)] h κ:=by
 refine an mixed ?_
 rw[Xf]
 refine ⟨fun n l h1=>∃(k:Nat) (F1:List Int),slot l 19=.int .i64 (k:Int)∧n=k∧k<F.length∧F1.Perm F∧(ya F j→ya F1 k)∧fD h1 bp F1 ls∧x9 bp h h1,⟨_,j,F,rfl,rfl,hj,List.Perm.refl _,id,f,x9.refl _ _⟩,?_⟩
 rintro n l h1 ⟨k,F1,s1,rfl,dy,hp1,LR,f1,Ja⟩
 have nY:=hp1.length_eq
 have e1:=NR n
 by_cases h0:n=0
 ·subst h0
  simp(disch:=first|omega|simp only[Wd]<;>omega|rfl)only[Wz,xI,s1,Bb,e1]
  exact hk h1 F1 f1 hp1 (fun u=>(LR u).NQ) Ja
 ·obtain ⟨fs,hg,hpt⟩:=f1.cell
  simp(disch:=first|omega|simp only[Wd]<;>omega|rfl)only[Wz,xI,s1,Bb,e1,Mq,ci_less,hg]
  refine tE F1 n ((n-1) / 2) h1 _ _ hpt (by omega) (by omega) ?_
  by_cases hls:F1[n]'(by omega)<F1[(n-1) / 2]'(by omega)
  ·simp(disch:=first|omega|simp only[Wd]<;>omega|rfl)only[Wz,bg hls,ci_swap,hg]
   refine tG F1 ((n-1) / 2) n h1 _ _ hpt (by omega) (by omega) ?_
   intro h2 q1 q2 q3 q4 q5
   refine ⟨_,?_,(n-1) / 2,mN F1 ((n-1) / 2) n,rfl,rfl,by omega,(qN (by omega) (by omega)).trans hp1,fun u=>(LR u).step (by omega) (by omega) (by rw[gD (by omega),gD (by omega)]; exact hls),f1.same q1 q2 hg q3 q4,Ja.trans (.swap hg q1 q2 q4 q5)⟩
   omega
  ·simp(disch:=first|omega|simp only[Wd]<;>omega|rfl)only[Wz,aV hls]
   exact hk h1 F1 f1 hp1 (fun u=>(LR u).Yc (by rw[gD (by omega),gD (by omega)]; omega)) Ja
set_option maxHeartbeats 1000000 in
theorem Yd (bp:Nat) (F:List Int) (ls:Value) (i0 n:Nat) (h:Heap) (κ:KQ) (f:fD h bp F ls) (hn:n≤F.length) (hlen:F.length≤100000) (hi0:i0≤100000)
  (hk:∀r h' F',fD h' bp F' ls→F'.Perm F→(∀k,n≤k→F'[k]? = F[k]?)→(u6 F i0 n→HN F' n)→x9 bp h h'→κ (.bool r) h'):CallW Tryz.prog 217 [frV bp,.int .i64 (i0:Int),.int .i64 (n:Int)] h κ:=by
 refine an mixed ?_
 rw[WV]
 refine ⟨fun l h'=>∃(k:Nat) (F':List Int),slot l 36=.int .i64 (k:Int)∧fD h' bp F' ls∧F'.Perm F∧(∀k,n≤k→F'[k]? = F[k]?)∧(u6 F i0 n→HN F' n)∧x9 bp h h',?_,?_⟩
 rotate_left
 ·rintro l h' ⟨k,F',s1,q1,q2,q3,q4,q5⟩
  simp(disch:=first|omega|simp only[Wd]<;>omega|rfl)only[Wz,s1]
  exact hk _ h' F' q1 q2 q3 q4 q5
 refine ⟨fun m l h1=>∃(i:Nat) (F1:List Int),slot l 36=.int .i64 (i:Int)∧m=200002-i∧i≤200000∧(i<n∨i=i0)∧F1.Perm F∧(∀k,n≤k→F1[k]? = F[k]?)∧(u6 F i0 n→u6 F1 i n)∧fD h1 bp F1 ls∧x9 bp h h1,⟨_,i0,F,rfl,rfl,by omega,.inr rfl,List.Perm.refl _,fun _ _=>rfl,id,f,x9.refl _ _⟩,?_⟩
 rintro m l h1 ⟨i,F1,s1,rfl,hi,hin,hp1,ht1,Z4,f1,Ja⟩
 have nY:=hp1.length_eq
 obtain ⟨fs,hg,hpt⟩:=f1.cell
 by_cases hst:2*i+1<n
 case neg=>
  simp(disch:=first|omega|simp only[Wd]<;>omega|rfl)only[Wz,xG,s1,cW (show (n:Int)≤2*(i:Int)+1 by omega)]
  exact ⟨i,F1,rfl,f1,hp1,ht1,fun d=>(Z4 d).NQ (by omega),Ja⟩
 have c1:(2*(i:Int)+1)=((2*i+1:Nat):Int):=by omega
 simp(disch:=first|omega|simp only[Wd]<;>omega|rfl)only[Wz,xG,s1,c1,eY (show ((2*i+1:Nat):Int)<(n:Int) by omega),cW (show (0:Int)≤((2*i+1:Nat):Int) by omega),DY]
 refine ⟨fun l13 h'=>∃j:Nat,slot l13 13=.int .i64 (j:Int)∧i<j∧j<n∧(j-1) / 2=i∧(∀k,0<k→k<n→(k-1) / 2=i→F1.getD j 0≤F1.getD k 0)∧HQ h1 h',?_,?_⟩
 ·have c2:((2*i+1:Nat):Int)+1=((2*i+2:Nat):Int):=by omega
  by_cases h2:2*i+2<n
  ·simp(disch:=first|omega|simp only[Wd]<;>omega|rfl)only[Wz,xF,c2,eY (show ((2*i+2:Nat):Int)<(n:Int) by omega),ci_less,hg]
   refine tE F1 (2*i+2) (2*i+1) h1 _ _ hpt (by omega) (by omega) ?_
   by_cases hls:F1[2*i+2]'(by omega)<F1[2*i+1]'(by omega)
   ·simp(disch:=first|omega|simp only[Wd]<;>omega|rfl)only[Wz,bg hls]
    exact ⟨2*i+2,rfl,by omega,h2,by omega,fun k k0 k1 k2=>by
     have ek:k=2*i+1∨k=2*i+2:=by omega
     rcases ek with rfl | rfl
     ·rw[gD (by omega),gD (by omega)]; omega
     ·exact Int.le_refl _,rfl⟩
   ·simp(disch:=first|omega|simp only[Wd]<;>omega|rfl)only[Wz,aV hls]
    exact ⟨2*i+1,rfl,by omega,hst,by omega,fun k k0 k1 k2=>by
     have ek:k=2*i+1∨k=2*i+2:=by omega
     rcases ek with rfl | rfl
     ·exact Int.le_refl _
     ·rw[gD (by omega),gD (by omega)]; omega,rfl⟩
  ·simp(disch:=first|omega|simp only[Wd]<;>omega|rfl)only[Wz,xF,c2,cW (show (n:Int)≤((2*i+2:Nat):Int) by omega)]
   exact ⟨2*i+1,rfl,by omega,hst,by omega,fun k k0 k1 k2=>by
    have ek:k=2*i+1:=by omega
    rw[ek]; exact Int.le_refl _,rfl⟩
 ·rintro l13 h' ⟨j,s2,hij,hjn,hjp,hmin,hq⟩
  cases (show h1=h' from hq)
  simp(disch:=first|omega|simp only[Wd]<;>omega|rfl)only[Wz,s1,s2,ci_less,hg]
  refine tE F1 j i h1 _ _ hpt (by omega) (by omega) ?_
  by_cases hls:F1[j]'(by omega)<F1[i]'(by omega)
  ·simp(disch:=first|omega|simp only[Wd]<;>omega|rfl)only[Wz,bg hls,ci_swap,hg,s1,s2]
   refine tG F1 i j h1 _ _ hpt (by omega) (by omega) ?_
   intro h2 q1 q2 q3 q4 q5
   refine ⟨_,?_,j,mN F1 i j,rfl,rfl,by omega,.inl hjn,(qN (by omega) (by omega)).trans hp1,?_,fun d=>(Z4 d).step (by omega) hjn hjp (by omega) (by rw[gD (by omega),gD (by omega)]; exact hls) hmin,f1.same q1 q2 hg q3 q4,Ja.trans (.swap hg q1 q2 q4 q5)⟩
   ·omega
   ·intro k dy
    rw[←ht1 k dy,rZ (by omega) (by omega),List.getElem?_set,if_neg (by omega),List.getElem?_set,if_neg (by omega)]
  ·simp(disch:=first|omega|simp only[Wd]<;>omega|rfl)only[Wz,aV hls,s1]
   exact ⟨i,F1,rfl,f1,hp1,ht1,fun d=>(Z4 d).Yc (by rw[gD (by omega),gD (by omega)]; omega) hmin,Ja⟩
theorem EI {h:Heap} {v:Value} {F:List Int} {x:Int} {b7 c7:Nat} (hp:nP h v F) (hb7:b7<h.nx) (hg7:h.bl.get b7=some (aa [.int .i64 x] 3 false)) (hlen:F.length≤100000) (hal:h.lo≤h.nx) (κ:KQ)
  (hk:∀v' h',nP h' v' (F++[x])→h.nx≤h'.nx→h'.lo=h.lo→(∀c,c<h.nx→(∀vs,h.bl.get c≠some (aa vs 3 true))→h'.bl.get c=h.bl.get c)→(∀c,c<h.nx→(∀n cap,v≠.slice (some ⟨c,0,none⟩) n cap)→h'.bl.get c=h.bl.get c)→(∀c n cap,c<h.nx→v'=.slice (some ⟨c,0,none⟩) n cap→∃n cap,v=.slice (some ⟨c,0,none⟩) n cap)→κ v' h') :
  bL False 3 1 [.int .i64 0] false v (.slice (some ⟨b7,0,none⟩) 1 c7) h κ:=by
 have hx:Sl dQ h (.slice (some ⟨b7,0,none⟩) 1 c7) [x]:=Sl.new (L:=[x]) (e:=3) (op:=false) hb7 (by simpa[dQ] using hg7) _
 have full:gL dQ ⟨0,.nil,h.lo⟩ 3 h v F→(∀v' h',gL dQ ⟨0,.nil,h.lo⟩ 3 h' v' (F++[x])→nP h' v' (F++[x]))→bL False 3 1 [.int .i64 0] false v (.slice (some ⟨b7,0,none⟩) 1 c7) h κ:=by
  intro ho acA
  refine GK (enc:=dQ) (a:=⟨0,.nil,h.lo⟩) (L:=F) (M:=[x]) eE x6 (by decide) (by decide) ho hx ⟨Nat.zero_le _,rfl,fun b hb=>absurd hb (Nat.not_lt_zero _)⟩ (by simp; omega) hal κ ?_
  intro v' h' ho' _ _ hn hl hs hs2 hv
  refine hk v' h' (acA v' h' ho') hn hl (fun c hc hne=>hs c hc (hne _)) hs2 fun c n cap hc e=>?_
  rcases hv with rfl | ⟨b,n',cap',hb,rfl⟩
  ·exact ⟨n,cap,e⟩
  ·injection e with e; injection e with e; injection e with e; omega
 have conv:∀v' h',gL dQ ⟨0,.nil,h.lo⟩ 3 h' v' (F++[x])→nP h' v' (F++[x]):=by
  intro v' h' ho
  rcases ho with ⟨e,_⟩ | ⟨b,e,_,h2,h3,h4⟩
  ·simp at e
  ·exact .inr ⟨b,[],e,h2,h3,by rw[List.append_nil]; exact h4,by simp⟩
 rcases hp with ⟨rfl,rfl⟩ | ⟨b,G,rfl,h1,h2,h3,h4⟩
 ·exact full (.inl ⟨rfl,.inl rfl⟩) conv
 ·cases G with
  | nil=>
   rw[List.append_nil] at h3
   exact full (.inr ⟨b,rfl,Nat.zero_le _,h1,h2,h3⟩) conv
  | cons g G=>
   have iS:∀κ':List Value→Prop,dH False h 1 1 (.slice (some ⟨b7,0,none⟩) 1 c7) κ'=κ' [.int .i64 x]:=fun κ'=>hx.first (β:=Prop) (fl:=False) eE κ'
   have hl:=bf (enc:=dQ) eE (F++g::G)
   have hl':(F++g::G).length=F.length+(G.length+1):=by simp
   have Bj:=x_ (G:=G) (F:=F++[g]) (y:=x) (i:=F.length) (by simp)
   have e0:F++[g]++G=F++g::G:=by simp
   have e00:(F++[g]).set F.length x=F++[x]:=by simp
   rw[e0,e00] at Bj
   unfold bL kV
   simp only
   rw[iS]
   simp only[bT]
   have e2:Nat.beq aM fq=false:=by decide
   have e3:Nat.beq aM aM=true:=Nat.beq_refl _
   have e5:Nat.ble (Nat.add F.length (0+1)) 1000000000=true:=Nat.ble_eq_true_of_le (by show F.length+(0+1)≤_; omega)
   have e4:Nat.ble (Nat.add 0 (Nat.mul (Nat.add F.length (0+1)) 1)) ((F++g::G).flatMap dQ).length=true:=Nat.ble_eq_true_of_le (by rw[hl]; show 0+(F.length+(0+1))*1≤_; omega)
   simp only[e2,e3,e5,h3,aa,Nat.beq_refl,e4]
   rw[tc _ _ _ _ _ (by show 0+F.length*1+1≤_; omega) rfl,bU _ _ _ _ h2]
   have e6:(Nat.add 0 (Nat.mul F.length 1))=F.length:=by show 0+F.length*1=_; omega
   rw[e6,Ba _ _ _ (by show F.length+1≤_; omega),Bj]
   have e7:((F++g::G).flatMap dQ).length=((F++[x]++G).flatMap dQ).length:=by rw[hl,bf eE]; simp
   rw[e7]
   refine hk _ _ (.inr ⟨b,G,by simp,h1,h2,T.af _ _ _,by simp; omega⟩) (Nat.le_refl _) rfl ?_ ?_ ?_
   ·intro c hc hne
    refine T.ai _ _ ?_
    rintro rfl
    exact hne _ h3
   ·intro c hc hne
    refine T.ai _ _ ?_
    rintro rfl
    exact hne _ _ rfl
   ·intro c n cap hc e
    injection e with e; injection e with e; injection e with e
    subst e
    exact ⟨_,_,rfl⟩
theorem NS (bp:Nat) (F:List Int) (ls:Value) (x:Int) (h:Heap) (κ:KQ) (f:fD h bp F ls) (hlen:F.length≤10000) (hlo:h.lo≤h.nx) (hls:∃a n c,ls=.slice a n c)
  (hk:∀h' F',fD h' bp F' ls→F'.Perm (F++[x])→(HP F→HP F')→x9 bp h h'→κ (.tuple ⟨[]⟩) h'):CallW Tryz.prog 206 [frV bp,.iface 3 (.int .i64 x)] h κ:=by
 obtain ⟨la,ln,lc,rfl⟩:=hls
 refine an mixed ?_
 rw[WJ]
 simp(disch:=first|omega|simp only[Wd]<;>omega|rfl)only[Wz,ci_push]
 refine an mixed ?_
 rw[X5]
 obtain ⟨fs,hg,hpt⟩:=f.cell
 have hfs:∃a n c,fs=.slice a n c:=by
  rcases hpt with ⟨_,rfl⟩ | ⟨b,G,rfl,_⟩<;>exact ⟨_,_,_,rfl⟩
 have hbp:=f.lt
 have alP:=f.lo
 simp(disch:=first|omega|simp only[Wd]<;>omega|rfl)only[Wz,dV,EA,az,hg]
 have hle1:=(Le.refl h).new (aa [.int .i64 x] 3 false)
 obtain ⟨hA,eA⟩:∃hA:Heap,hA=⟨h.nx+1,h.bl.aT h.nx (aa [.int .i64 x] 3 false),h.lo⟩:=⟨_,rfl⟩
 rw[←eA] at hle1 ⊢
 have nA:hA.nx=h.nx+1:=by rw[eA]
 have lA:hA.lo=h.lo:=by rw[eA]
 have gA:hA.bl.get h.nx=some (aa [.int .i64 x] 3 false):=by rw[eA]; exact T.af _ _ _
 have gbp:=(hle1.get bp hbp).trans hg
 have agU:nP hA fs F:=by
  rcases hpt with e | ⟨b,G,e,h1,h2,h3,h4⟩
  ·exact .inl e
  ·exact .inr ⟨b,G,e,by omega,by omega,(hle1.get b h1).trans h3,h4⟩
 refine EI agU (by omega) gA (by omega) (by omega) _ ?_
 intro v' h2 hp2 n2 l2 hs2 FM hv3
 have g2:=(hs2 bp (by omega) (fun vs=>by rw[gbp]; exact bh)).trans gbp
 have ud:∃a n c,v'=.slice a n c:=by
  rcases hp2 with ⟨_,rfl⟩ | ⟨b,G,rfl,_⟩<;>exact ⟨_,_,_,rfl⟩
 obtain ⟨va,vn,vc,rfl⟩:=ud
 simp(disch:=first|omega|simp only[Wd]<;>omega|rfl)only[Wz,g2]
 obtain ⟨hB,eB⟩:∃hB:Heap,hB=⟨h2.nx,h2.bl.aT bp (aa [.slice va vn vc,.slice la ln lc] 286 false),h2.lo⟩:=⟨_,rfl⟩
 rw[←eB]
 have nB:hB.nx=h2.nx:=by rw[eB]
 have lB:hB.lo=h2.lo:=by rw[eB]
 have gB:hB.bl.get bp=some (aa [.slice va vn vc,.slice la ln lc] 286 false):=by rw[eB]; exact T.af _ _ _
 have hpB:nP hB (.slice va vn vc) (F++[x]):=by
  rcases hp2 with e | ⟨b,G,e,h1,h2',h3,h4⟩
  ·exact .inl e
  ·refine .inr ⟨b,G,e,by omega,by omega,?_,h4⟩
   rw[eB]
   exact (T.ai _ _ (by rintro rfl; rw[g2] at h3; exact bh h3)).trans h3
 have fB:fD hB bp (F++[x]) (.slice la ln lc):=⟨by omega,by omega,_,gB,hpB⟩
 have frB:x9 bp h hB:=by
  refine ⟨by omega,by omega,fun c hc hn hi=>?_,fun _ c hc hn hi=>?_,fun _ c hc hx=>?_⟩
  ·have e1:hA.bl.get c=h.bl.get c:=hle1.get c hc
   rw[eB]
   exact (T.ai _ _ (fun e=>hn e.symm)).trans ((hs2 c (by omega) (fun vs=>by rw[e1]; exact hi vs)).trans e1)
  ·have e1:hA.bl.get c=h.bl.get c:=hle1.get c hc
   rw[eB]
   exact (T.ai _ _ (fun e=>hn e.symm)).trans ((FM c (by omega) (fun n cap e=>hi ⟨n,cap,_,e▸hg⟩)).trans e1)
  ·obtain ⟨n,cap,ls',hx⟩:=hx
   rw[gB] at hx
   obtain ⟨n',cap',e⟩:=hv3 c n cap (by omega) (lH hx)
   exact ⟨n',cap',_,e▸hg⟩
 simp(disch:=first|omega|simp only[Wd]<;>omega|rfl)only[Wz,ci_len,gB]
 refine rY (F++[x]) hB _ _ hpB ?_
 have el:(((F++[x]).length:Nat):Int)-1=(F.length:Int):=by simp
 have el2:(F++[x]).length=F.length+1:=by simp
 simp(disch:=first|omega|simp only[Wd]<;>omega|rfl)only[Wz,el]
 refine agR bp (F++[x]) _ F.length hB _ fB (by omega) (by omega) ?_
 intro h3 F' f3 L6 hu3 Z6
 exact hk h3 F' f3 L6 (fun u=>hu3 (HP.push u x)) (frB.trans Z6)
theorem acB (bp:Nat) (F:List Int) (ls:Value) (h:Heap) (κ:KQ) (f:fD h bp F ls) (h0:F≠[]) (hlen:F.length≤10000) (hlo:h.lo≤h.nx) (hls:∃a n c,ls=.slice a n c)
  (hk:∀h' F' x,fD h' bp F' ls→(x::F').Perm F→(HP F→HP F'∧∀y∈F',x≤y)→x9 bp h h'→κ (.iface 3 (.int .i64 x)) h'):CallW Tryz.prog 161 [frV bp] h κ:=by
 obtain ⟨la,ln,lc,rfl⟩:=hls
 have hpos:0<F.length:=List.length_pos_iff.2 h0
 refine an mixed ?_
 rw[Wb]
 obtain ⟨fs,hg,hpt⟩:=f.cell
 simp(disch:=first|omega|simp only[Wd]<;>omega|rfl)only[Wz,ci_len,hg]
 refine rY F h _ _ hpt ?_
 have el:((F.length:Nat):Int)-1=((F.length-1:Nat):Int):=by omega
 simp(disch:=first|omega|simp only[Wd]<;>omega|rfl)only[Wz,el,ci_swap,hg]
 refine tG F 0 (F.length-1) h _ _ hpt hpos (by omega) ?_
 intro h1 q1 q2 q3 q4 q5
 have f1:=f.same q1 q2 hg q3 q4
 have B3:=qN (F:=F) (i:=0) (j:=F.length-1) hpos (by omega)
 have nY:=B3.length_eq
 refine Yd bp (mN F 0 (F.length-1)) _ 0 (F.length-1) h1 _ f1 (by omega) (by omega) (by omega) ?_
 intro r h2 F2 f2 hp2 ht2 hd2 zC
 have nL:=hp2.length_eq
 obtain ⟨fs2,hg2,RT⟩:=f2.cell
 have hbp:=f2.lt
 have hlb:=f2.lo
 simp(disch:=first|omega|simp only[Wd]<;>omega|rfl)only[Wz,ci_pop]
 refine an mixed ?_
 rw[X4]
 simp(disch:=first|omega|simp only[Wd]<;>omega|rfl)only[Wz,az,hg2]
 refine rY F2 h2 _ _ RT ?_
 have el2:((F2.length:Nat):Int)-1=((F2.length-1:Nat):Int):=by omega
 rcases RT with ⟨e,_⟩ | ⟨b,G,rfl,k1,k2,k3,k4⟩
 ·rw[e] at nL; simp at nL; omega
 obtain ⟨x,hx⟩:∃x,F2[F2.length-1]? = some x:=⟨_,List.getElem?_eq_getElem (by omega)⟩
 have hr:=oL (G:=G) hx
 have hfl:=bf (enc:=dQ) eE (F2++G)
 have hl3:(F2++G).length=F2.length+G.length:=List.length_append
 simp(disch:=first|omega|simp only[Wd]<;>omega|rfl)only[Wz,el2,hg2,aW,k3,hr,Nat.mul_one,wX (n:=(F2++G).length) (i:=F2.length-1) (Nat.succ_pos 0) k3 (by rw[hfl]) (by omega) (by omega)]
 have hne:b≠bp:=by rintro rfl; rw[hg2] at k3; exact bh k3
 have eF:F2=F2.take (F2.length-1)++[x]:=by
  conv=>lhs; rw[←List.take_append_drop (F2.length-1) F2]
  congr 1
  have hlt:F2.length-1<F2.length:=by omega
  rw[List.drop_eq_getElem_cons hlt,List.drop_of_length_le (by omega)]
  rw[List.getElem?_eq_getElem hlt] at hx
  cases hx; rfl
 refine hk ⟨h2.nx,h2.bl.aT bp (aa [.slice (some ⟨b,0,none⟩) (F2.length-1) aM,.slice la ln lc] 286 false),h2.lo⟩ (F2.take (F2.length-1)) x ⟨hbp,hlb,_,T.af _ _ _,.inr ⟨b,x::G,by simp,k1,k2,?_,by simp; omega⟩⟩ ?_ ?_ ?_
 ·rw[show F2.take (F2.length-1)++x::G=F2++G by conv=>rhs; rw[eF]; simp]
  exact (T.ai _ _ (fun e=>hne e.symm)).trans k3
 ·refine List.Perm.trans ?_ (hp2.trans B3)
  conv=>rhs; rw[eF]
  exact (List.perm_append_singleton x _).symm
 ·intro u
  refine ⟨HN.take (by rw[nL,nY]; exact hd2 (HP.pop u hpos)) (by omega),fun y hy=>?_⟩
  have hyF:y∈F:=by
   refine (hp2.trans B3).mem_iff.1 ?_
   rw[eF]; exact List.mem_append_left _ hy
  obtain ⟨k,dy,rfl⟩:=List.getElem_of_mem hyF
  have Qw:x=F.getD 0 0:=by
   have e1:=ht2 (F.length-1) (Nat.le_refl _)
   rw[nL,nY,e1,List.getElem?_eq_getElem (by omega)] at hx
   have e2:=r5 (F:=F) (i:=0) (j:=F.length-1) hpos (by omega) (F.length-1)
   rw[if_pos rfl,gD (by omega)] at e2
   rw[←e2]
   exact (Option.some.inj hx).symm
  rw[Qw,←gD dy]
  exact HP.least u _ k (Nat.lt_succ_self _) dy
 ·refine x9.trans (x9.trans (.swap hg q1 q2 q4 q5) zC) ⟨Nat.le_refl _,rfl,fun c _ hn _=>T.ai _ _ (fun e=>hn e.symm),fun _ c _ hn _=>T.ai _ _ (fun e=>hn e.symm),fun _ c _ hx=>?_⟩
  obtain ⟨n,cap,ls',hx⟩:=hx
  have e:=lH ((T.af _ _ _).symm.trans hx)
  injection e with e; injection e with e; injection e with e
  subst e
  exact ⟨_,_,_,hg2⟩
structure jH (F:List Int) (B:List Bool):Prop where
 nodup:F.Nodup
 mem:∀n:Nat,(n:Int)∈F↔B[n]? = some false
 pos:∀x∈F,0≤x
 hp:HP F
structure dJ (h:Heap) (bp bl:Nat) (F:List Int) (B:List Bool):Prop where
 fr:fD h bp F (.slice (some ⟨bl,0,none⟩) B.length B.length)
 lt:bl<h.nx
 lo:h.lo≤bl
 cell:h.bl.get bl=some (aa (B.map Value.bool) 4 false)
 ok:jH F B
 small:B.length≤128
theorem jH.take {F F':List Int} {B:List Bool} {x:Int} (o:jH F B) (hp:(x::F').Perm F) (hu:HP F→HP F'∧∀y∈F',x≤y):∃n:Nat,x=(n:Int)∧n<B.length∧B[n]? = some false∧(∀k,k<n→B[k]? = some true)∧jH F' (B.set n true):=by
 have hx:x∈F:=hp.mem_iff.1 (.head _)
 obtain ⟨n,rfl⟩:∃n:Nat,x=(n:Int):=⟨x.toNat,by have:=o.pos x hx; omega⟩
 have hb:=(o.mem n).1 hx
 have hn:n<B.length:=(List.getElem?_eq_some_iff.1 hb).1
 have hnd:((n:Int)::F').Nodup:=(hp.nodup_iff).2 o.nodup
 rw[List.nodup_cons] at hnd
 obtain ⟨LR,US⟩:=hu o.hp
 have Ye:∀k,k<n→B[k]? = some true:=by
  intro k hk
  have hkl:k<B.length:=by omega
  rw[List.getElem?_eq_getElem hkl]
  cases hbk:B[k] with
  | true=>rfl
  | false=>
   have Yf:(k:Int)∈F:=(o.mem k).2 (by rw[List.getElem?_eq_getElem hkl,hbk])
   rcases List.mem_cons.1 (hp.mem_iff.2 Yf) with h | h
   ·omega
   ·have:=US _ h; omega
 refine ⟨n,rfl,hn,hb,Ye,hnd.2,fun k=>?_,fun y hy=>o.pos y (hp.mem_iff.1 (.tail _ hy)),LR⟩
 rw[List.getElem?_set]
 by_cases hk:n=k
 ·subst hk
  rw[if_pos rfl,if_pos hn]
  simp[hnd.1]
 ·rw[if_neg hk,←o.mem k,←hp.mem_iff,List.mem_cons]
  constructor
  ·exact fun h=>.inr h
  ·rintro (h | h)
   ·omega
   ·exact h
theorem jH.agW {F F':List Int} {B:List Bool} {n:Nat} (o:jH F B) (hb:B[n]? = some true) (hp:F'.Perm (F++[(n:Int)])) (hu:HP F→HP F'):jH F' (B.set n false):=by
 have hn:n<B.length:=(List.getElem?_eq_some_iff.1 hb).1
 have hno:(n:Int)∉F:=fun h=>by have:=(o.mem n).1 h; rw[hb] at this; cases this
 refine ⟨(hp.nodup_iff).2 ?_,fun k=>?_,fun y hy=>?_,hu o.hp⟩
 ·rw[List.nodup_append]
  refine ⟨o.nodup,by simp,fun a ha b hb'=>?_⟩
  rw[List.mem_singleton] at hb'
  subst hb'
  rintro rfl
  exact hno ha
 ·rw[hp.mem_iff,List.mem_append,List.mem_singleton,List.getElem?_set]
  by_cases hk:n=k
  ·subst hk; rw[if_pos rfl,if_pos hn]; simp
  ·rw[if_neg hk,←o.mem k]
   constructor
   ·rintro (h | h)
    ·exact h
    ·omega
   ·exact fun h=>.inl h
 ·rcases List.mem_append.1 (hp.mem_iff.1 hy) with h | h
  ·exact o.pos y h
  ·rw[List.mem_singleton] at h; omega
theorem Uk (h:Heap) (b o:Nat):lM Tryz.prog h 100 191 (.pointer (some ⟨b,o,none⟩)) (.pointer none)=some false:=by kernel_rfl
theorem Bz {β:Type} {fl:β} (cn:Bool) (b o:Nat) (h:Heap) (κ:Value→Heap→β):au fl Tryz.prog .eql 191 cn false (.pointer (some ⟨b,o,none⟩)) (.pointer none) h κ=κ (.bool false) h:=by simp only[au,Uk,bM]
theorem BA {β:Type} {fl:β} (cn:Bool) (b o:Nat) (h:Heap) (κ:Value→Heap→β):au fl Tryz.prog .neq 191 cn false (.pointer (some ⟨b,o,none⟩)) (.pointer none) h κ=κ (.bool true) h:=by simp only[au,Uk,bM,Bool.not_false]
theorem Ul (bp bl:Nat) (F:List Int) (B:List Bool) (i:Int) (h:Heap) (κ:KQ) (p:dJ h bp bl F B) (hk:κ (.bool (decide (0≤i) && (B[i.toNat]?).getD false)) h):CallW Tryz.prog 342 [.pointer (some ⟨bp,0,none⟩),.int .i64 i] h κ:=by
 refine an mixed ?_
 rw[Xu]
 obtain ⟨fs,hg,hpt⟩:=p.fr.cell
 by_cases h0:0≤i
 ·obtain ⟨n,rfl⟩:∃n:Nat,i=(n:Int):=⟨i.toNat,by omega⟩
  rw[bg h0,Bool.true_and,Int.toNat_natCast] at hk
  by_cases h1:n<B.length
  ·have hr:(B.map Value.bool)[n]? = some (.bool B[n]):=by rw[List.getElem?_map,List.getElem?_eq_getElem h1]; rfl
   rw[List.getElem?_eq_getElem h1] at hk
   simp(disch:=first|omega|simp only[Wd]<;>omega|rfl)only[Wz,BA,az,hg,cW h0,eY (show (n:Int)<(B.length:Int) by omega),aW,p.cell,hr,Nat.mul_one]
   exact hk
  ·rw[List.getElem?_eq_none (by omega)] at hk
   simp(disch:=first|omega|simp only[Wd]<;>omega|rfl)only[Wz,BA,az,hg,cW h0,cW (show (B.length:Int)≤(n:Int) by omega)]
   exact hk
 ·rw[aV h0,Bool.false_and] at hk
  simp(disch:=first|omega|simp only[Wd]<;>omega|rfl)only[Wz,BA,az,hg,eY (show i<0 by omega)]
  exact hk
structure Jb (bp bl:Nat) (h h':Heap):Prop where
 nx:h.nx≤h'.nx
 lo:h'.lo=h.lo
 get:∀c,c<h.nx→c≠bp→c≠bl→(∀vs,h.bl.get c≠some (aa vs 3 true))→h'.bl.get c=h.bl.get c
 g2:bp<h.nx→∀c,c<h.nx→c≠bp→c≠bl→¬FB h bp c→h'.bl.get c=h.bl.get c
 mv:bp<h.nx→∀c,c<h.nx→FB h' bp c→FB h bp c
theorem Jb.trans {bp bl:Nat} {h h' h'':Heap} (a:Jb bp bl h h') (b:Jb bp bl h' h''):Jb bp bl h h'':=
 ⟨Nat.le_trans a.nx b.nx,b.lo.trans a.lo,fun c hc hn hl hi=>(b.get c (Nat.lt_of_lt_of_le hc a.nx) hn hl (fun vs=>by rw[a.get c hc hn hl hi]; exact hi vs)).trans (a.get c hc hn hl hi),
  fun hb c hc hn hl hi=>(b.g2 (Nat.lt_of_lt_of_le hb a.nx) c (Nat.lt_of_lt_of_le hc a.nx) hn hl fun x=>hi (a.mv hb c hc x)).trans (a.g2 hb c hc hn hl hi),
  fun hb c hc x=>a.mv hb c hc (b.mv (Nat.lt_of_lt_of_le hb a.nx) c (Nat.lt_of_lt_of_le hc a.nx) x)⟩
theorem Jb.acC {bp bl:Nat} {h h':Heap} (f:x9 bp h h'):Jb bp bl h h':=⟨f.nx,f.lo,fun c hc hn _ hi=>f.get c hc hn hi,fun hb c hc hn _ hi=>f.g2 hb c hc hn hi,f.mv⟩
theorem yb (B:List Bool) (n:Nat) (b:Bool):over (B.map Value.bool) n [.bool b]=(if n<B.length then (B.set n b).map Value.bool else over (B.map Value.bool) n [.bool b]):=by
 split
 ·rename_i h
  rw[List.map_set]
  unfold over
  rw[List.set_eq_take_append_cons_drop,if_pos (by simpa using h)]
  simp
 ·rfl
theorem Ap {B:List Bool} {n:Nat} {b:Bool} (h:n<B.length):over (B.map Value.bool) n [.bool b]=(B.set n b).map Value.bool:=by
 rw[yb,if_pos h]
theorem Yg (bp bl:Nat) (F:List Int) (B:List Bool) (h:Heap) (κ:KQ) (p:dJ h bp bl F B) (hF:F.length≤1000) (hlo:h.lo≤h.nx) (hne:bp≠bl)
  (nO:F=[]→κ (.tuple ⟨[.int .i64 0,.int .i64 8]⟩) h)
  (dy:∀h' F' (n:Nat),dJ h' bp bl F' (B.set n true)→((n:Int)::F').Perm F→B[n]? = some false→(∀k,k<n→B[k]? = some true)→Jb bp bl h h'→κ (.tuple ⟨[.int .i64 (n:Int),.int .i64 0]⟩) h'):CallW Tryz.prog 396 [.pointer (some ⟨bp,0,none⟩)] h κ:=by
 refine an mixed ?_
 rw[XM]
 obtain ⟨fs,hg,hpt⟩:=p.fr.cell
 simp(disch:=first|omega|simp only[Wd]<;>omega|rfl)only[Wz,Bz,Eo,az,hg]
 refine rY F h _ _ hpt ?_
 by_cases h0:F=[]
 ·simp(disch:=first|omega|simp only[Wd]<;>omega|rfl)only[Wz,bg (show (F.length:Int)=0 by simp[h0])]
  exact nO h0
 have hpos:0<F.length:=List.length_pos_iff.2 h0
 simp(disch:=first|omega|simp only[Wd]<;>omega|rfl)only[Wz,aV (show ¬(F.length:Int)=0 by omega),En,az]
 refine acB bp F _ h _ p.fr h0 (by omega) hlo ⟨_,_,_,rfl⟩ ?_
 intro h2 F' x f2 hp2 US zC
 obtain ⟨n,rfl,hn,hb,Yh,ho⟩:=p.ok.take hp2 US
 obtain ⟨fs2,hg2,RT⟩:=f2.cell
 have Z7:=p.lt
 have agX:=p.lo
 have n2:=zC.nx
 have l2:=zC.lo
 have hlm:(B.map Value.bool).length=B.length:=by simp
 have gl:=(zC.get bl Z7 (fun e=>hne e.symm) (fun vs=>by rw[p.cell]; exact bh)).trans p.cell
 simp(disch:=first|omega|simp only[Wd]<;>omega|rfl)only[Wz,dV,az,hg2,aW,gl,Nat.mul_one,Ap hn]
 refine dy ⟨h2.nx,h2.bl.aT bl (aa ((B.set n true).map Value.bool) 4 false),h2.lo⟩ F' n ⟨⟨f2.lt,f2.lo,fs2,?_,?_⟩,by show bl<h2.nx; omega,by show h2.lo≤bl; omega,T.af _ _ _,ho,by rw[List.length_set]; exact p.small⟩ hp2 hb Yh ?_
 ·rw[List.length_set]; exact (T.ai _ _ (fun e=>hne e.symm)).trans hg2
 ·rcases RT with e | ⟨b,G,e,k1,k2,k3,k4⟩
  ·exact .inl e
  ·exact .inr ⟨b,G,e,k1,k2,(T.ai _ _ (by rintro rfl; rw[gl] at k3; exact bh k3)).trans k3,k4⟩
 ·exact (Jb.acC zC).trans ⟨Nat.le_refl _,rfl,fun c _ _ hn _=>T.ai _ _ (fun e=>hn e.symm),fun _ c _ _ hn _=>T.ai _ _ (fun e=>hn e.symm),fun _ c _ hx=>(FB.congr (T.ai _ _ (fun e=>hne e.symm))).1 hx⟩
theorem Yi (bp bl:Nat) (F:List Int) (B:List Bool) (n:Nat) (h:Heap) (κ:KQ) (p:dJ h bp bl F B) (hF:F.length≤1000) (hlo:h.lo≤h.nx) (hne:bp≠bl) (hb:B[n]? = some true)
  (hk:∀h' F',dJ h' bp bl F' (B.set n false)→F'.Perm (F++[(n:Int)])→Jb bp bl h h'→κ (.int .i64 0) h'):CallW Tryz.prog 346 [.pointer (some ⟨bp,0,none⟩),.int .i64 (n:Int)] h κ:=by
 refine an mixed ?_
 rw[Xw]
 have hn:n<B.length:=(List.getElem?_eq_some_iff.1 hb).1
 have hlm:(B.map Value.bool).length=B.length:=by simp
 obtain ⟨fs,hg,hpt⟩:=p.fr.cell
 simp(disch:=first|omega|simp only[Wd]<;>omega|rfl)only[Wz,Bz]
 refine Ul bp bl F B (n:Int) h _ p ?_
 have eh:(decide ((0:Int)≤(n:Int)) && (B[((n:Int)).toNat]?).getD false)=true:=by
  rw[bg (by omega),Int.toNat_natCast,hb]; rfl
 rw[eh]
 have Z7:=p.lt
 have agX:=p.lo
 simp(disch:=first|omega|simp only[Wd]<;>omega|rfl)only[Wz,Ea,az,hg,aW,p.cell,Nat.mul_one,Ap hn]
 obtain ⟨hA,eA⟩:∃hA:Heap,hA=⟨h.nx,h.bl.aT bl (aa ((B.set n false).map Value.bool) 4 false),h.lo⟩:=⟨_,rfl⟩
 rw[←eA]
 have nA:hA.nx=h.nx:=by rw[eA]
 have lA:hA.lo=h.lo:=by rw[eA]
 have gbl:hA.bl.get bl=some (aa ((B.set n false).map Value.bool) 4 false):=by rw[eA]; exact T.af _ _ _
 have fA:fD hA bp F (.slice (some ⟨bl,0,none⟩) B.length B.length):=by
  refine ⟨by rw[nA]; exact p.fr.lt,by rw[lA]; exact p.fr.lo,fs,by rw[eA]; exact (T.ai _ _ (fun e=>hne e.symm)).trans hg,?_⟩
  rcases hpt with e | ⟨b,G,e,k1,k2,k3,k4⟩
  ·exact .inl e
  ·refine .inr ⟨b,G,e,by omega,by omega,?_,k4⟩
   rw[eA]
   exact (T.ai _ _ (by rintro rfl; rw[p.cell] at k3; exact bh k3)).trans k3
 have B1:Jb bp bl h hA:=⟨by omega,lA,fun c _ _ hn _=>by rw[eA]; exact T.ai _ _ (fun e=>hn e.symm),fun _ c _ _ hn _=>by rw[eA]; exact T.ai _ _ (fun e=>hn e.symm),fun _ c _ hx=>(FB.congr (by rw[eA]; exact T.ai _ _ (fun e=>hne e.symm))).1 hx⟩
 refine NS bp F _ (n:Int) hA _ fA (by omega) (by omega) ⟨_,_,_,rfl⟩ ?_
 intro h3 F' f3 L6 hu3 Z6
 have n3:=Z6.nx
 have l3:=Z6.lo
 refine hk h3 F' ⟨by rw[List.length_set]; exact f3,by omega,by omega,?_,p.ok.agW hb L6 hu3,by rw[List.length_set]; exact p.small⟩ L6 (B1.trans (Jb.acC Z6))
 exact (Z6.get bl (by omega) (fun e=>hne e.symm) (fun vs=>by rw[gbl]; exact bh)).trans gbl
theorem uG (n:Nat):aU [Value.bool false] n=(List.replicate n false).map Value.bool:=by
 induction n with
 | zero=>rfl
 | succ n ih=>rw[List.replicate_succ,List.map_cons,←ih]; rfl
theorem jH.new (most:Nat) {F:List Int} (hp:F.Perm ((List.range most).map fun n:Nat=>(n:Int))) (hu:HP F):jH F (List.replicate most false):=by
 refine ⟨(hp.nodup_iff).2 ?_,fun n=>?_,fun x hx=>?_,hu⟩
 ·rw[List.Nodup,List.pairwise_map]
  exact List.nodup_range.imp fun hne e=>hne (Int.ofNat.inj e)
 ·rw[hp.mem_iff,List.mem_map,List.getElem?_replicate]
  constructor
  ·rintro ⟨a,ha,e⟩
   have:a=n:=Int.ofNat.inj e
   subst this
   rw[if_pos (List.mem_range.1 ha)]
  ·intro h
   by_cases hn:n<most
   ·exact ⟨n,List.mem_range.2 hn,rfl⟩
   ·rw[if_neg hn] at h; cases h
 ·obtain ⟨a,_,rfl⟩:=List.mem_map.1 (hp.mem_iff.1 hx)
  omega
theorem Km (most:Nat) (h:Heap) (κ:KQ) (hm:most≤128) (hlo:h.lo≤h.nx)
  (hk:∀bp bl h' F,dJ h' bp bl F (List.replicate most false)→bp≠bl→h.nx≤bp→h.nx≤bl→F.length=most→Le h h'→(∀x,FB h' bp x→h.nx≤x)→κ (.tuple ⟨[.pointer (some ⟨bp,0,none⟩),.int .i64 0]⟩) h') :
  CallW Tryz.prog 152 [.int .i64 (most:Int)] h κ:=by
 refine an mixed ?_
 rw[Nn]
 simp(disch:=first|omega|simp only[Wd]<;>omega|rfl)only[Wz,cW (show (0:Int)≤(most:Int) by omega),cW (show (most:Int)≤128 by omega)]
 have hrl:(aU [Value.bool false] most).length=most:=by rw[uG]; simp
 rw[Bm _ _ _ _ _ (by omega) (by omega),uG]
 simp(disch:=first|omega|simp only[Wd]<;>omega|rfl)only[Wz]
 obtain ⟨hA,aH⟩:∃hA:Heap,hA=⟨h.nx+1+1,((h.bl.aT (h.nx) (aa ((List.replicate most false).map Value.bool) 4 false)).aT (h.nx+1) (aa [.slice none 0 0,.slice (some ⟨h.nx,0,none⟩) most most] 286 false)),h.lo⟩:=⟨_,rfl⟩
 have aL:Le h hA:=by subst aH; exact (((Le.refl h).new _).new _)
 have gl:hA.bl.get (h.nx)=some (aa ((List.replicate most false).map Value.bool) 4 false):=by subst aH; exact (T.ai _ _ (by omega)).trans (T.af _ _ _)
 have gp:hA.bl.get (h.nx+1)=some (aa [.slice none 0 0,.slice (some ⟨h.nx,0,none⟩) most most] 286 false):=by subst aH; exact T.af _ _ _
 have ef:hA.nx=h.nx+1+1:=by subst aH; rfl
 have ej:hA.lo=h.lo:=by subst aH; rfl
 rw[←aH]
 clear aH
 refine ⟨fun m l h1=>∃(i:Nat) (F:List Int),slot l 11=.int .i64 (i:Int)∧m=most-i∧i≤most∧fD h1 (h.nx+1) F (.slice (some ⟨h.nx,0,none⟩) most most)∧F.Perm ((List.range i).map fun n:Nat=>(n:Int))∧HP F∧x9 (h.nx+1) hA h1,⟨_,0,[],rfl,rfl,by omega,⟨by omega,by omega,_,gp,.inl ⟨rfl,rfl⟩⟩,List.Perm.refl _,fun i h1 h2=>absurd h2 (Nat.not_lt_zero _),x9.refl _ _⟩,?_⟩
 rintro m l h1 ⟨i,F1,s1,rfl,hi,f1,hp1,LR,Ja⟩
 have n1:=Ja.nx
 have l1:=Ja.lo
 have nY:F1.length=i:=by rw[hp1.length_eq]; simp
 by_cases hst:i<most
 ·simp(disch:=first|omega|simp only[Wd]<;>omega|rfl)only[Wz,xz,s1,eY (show (i:Int)<(most:Int) by omega),az]
  refine NS (h.nx+1) F1 _ (i:Int) h1 _ f1 (by omega) (by omega) ⟨_,_,_,rfl⟩ ?_
  intro h2 F2 f2 hp2 US zC
  refine ⟨_,?_,i+1,F2,rfl,rfl,by omega,f2,?_,US LR,Ja.trans zC⟩
  ·omega
  ·rw[List.range_succ,List.map_append]
   exact hp2.trans (hp1.append_right _)
 ·have hie:i=most:=by omega
  subst hie
  simp(disch:=first|omega|simp only[Wd]<;>omega|rfl)only[Wz,xz,s1,cW (show (i:Int)≤(i:Int) by omega)]
  refine hk (h.nx+1) h.nx h1 F1 ⟨by rw[List.length_replicate]; exact f1,by omega,by omega,?_,jH.new _ hp1 LR,by rw[List.length_replicate]; exact hm⟩ (by omega) (by omega) (by omega) nY ⟨by omega,by omega,fun c hc=>?_⟩ fun x hx=>?_
  ·exact (Ja.get h.nx (by omega) (by omega) (fun vs=>by rw[gl]; exact bh)).trans gl
  ·refine (Ja.g2 (by omega) c (by omega) (by omega) ?_).trans (aL.get c hc)
   rintro ⟨n,cap,ls,hx⟩
   have:=lH (gp.symm.trans hx)
   cases this
  ·rcases Nat.lt_or_ge x h.nx with hlt | hge
   ·obtain ⟨n,cap,ls,hx⟩:=Ja.mv (by omega) x (by omega) hx
    have:=lH (gp.symm.trans hx)
    cases this
   ·exact hge
structure HE where
 t:Int
 r:Int
 hb:Nat
 born:Nat
 q:Value
 w:Int
 Q:List R5
def kM (e:HE):MapEntry:={ key:=cN e.t e.r,val:=.pointer (some ⟨e.hb,0,none⟩),born:=e.born }
def tH (t r:Int) (e:HE):Bool:=decide (t=e.t∧r=e.r)
theorem qk {t r:Int} {x:HE}:(!tH t r x)=true↔¬(t=x.t∧r=x.r):=by unfold tH; rw[Bool.not_eq_true',decide_eq_false_iff_not]
structure fh (M:List HE) (clock:Nat):Prop where
 nm:M.Pairwise fun a b=>¬(a.t=b.t∧a.r=b.r)
 bn:M.Pairwise fun a b=>a.born≠b.born
 lt:∀e∈M,e.born<clock
theorem agZ (h:Heap) (a b c d:Int):lM Tryz.prog h 100 28 (.agg ⟨[.int .i64 a,.int .i64 b]⟩) (.agg ⟨[.int .i64 c,.int .i64 d]⟩) =
  (match (some (q8 a c)) with | some true=>(match some (q8 b d) with | some true=>some true | r=>r) | r=>r):=by kernel_rfl
theorem eqN (h:Heap) (a b c d:Int):lM Tryz.prog h 100 28 (cN a b) (cN c d)=some (decide (a=c∧b=d)):=by
 unfold cN
 rw[agZ,fI,fI]
 by_cases h1:a=c<;>by_cases h2:b=d<;>simp[h1,h2]
theorem NT (t r:Int):jK Tryz.prog 20 28 (cN t r)=true:=by kernel_rfl
theorem ag0 (t r:Int):jX 3 (cN t r) (cN t r)=true:=by unfold jX; exact tf 1 [t,r]
theorem ot (x:MapEntry):∀(l:List MapEntry) (κ:List MapEntry→Prop),B_ x l κ=κ (l++[x]):=by
 intro l
 induction l with
 | nil=>intro κ; rfl
 | cons a l ih=>intro κ; exact ih _
theorem ry (f:MapEntry→MapEntry):∀(l:List MapEntry) (j:Nat) (e:MapEntry) (κ:List MapEntry→Prop),l[j]? = some e→setAt f j l κ=κ (l.set j (f e)):=by
 intro l
 induction l with
 | nil=>intro j e κ h; simp at h
 | cons a l ih=>
  intro j e κ h
  cases j with
  | zero=>rw[List.getElem?_cons_zero] at h; cases h; rfl
  | succ j=>rw[List.getElem?_cons_succ] at h; exact ih j e _ h
theorem wB:∀(l:List MapEntry) (j:Nat) (κ:List MapEntry→Prop),zM j l κ=κ (l.eraseIdx j):=by
 intro l
 induction l with
 | nil=>intro j κ; cases j<;>rfl
 | cons a l ih=>
  intro j κ
  cases j with
  | zero=>rfl
  | succ j=>exact ih j _
theorem EJ (h:Heap) (t r:Int):∀(M:List HE) (i:Nat),(fR Tryz.prog h 28 (cN t r) (M.map kM) i=some none∧∀e∈M,¬(t=e.t∧r=e.r))∨
  ∃(j:Nat) (e:HE),fR Tryz.prog h 28 (cN t r) (M.map kM) i=some (some (i+j,kM e))∧M[j]? = some e∧t=e.t∧r=e.r:=by
 intro M
 induction M with
 | nil=>intro i; exact .inl ⟨rfl,fun e he=>nomatch he⟩
 | cons e M ih=>
  intro i
  have hf:fR Tryz.prog h 28 (cN t r) ((e::M).map kM) i=(match (some (decide (t=e.t∧r=e.r)):Option Bool) with | some true=>some (some (i,kM e)) | some false=>fR Tryz.prog h 28 (cN t r) (M.map kM) (Nat.succ i) | none=>none):=by
   rw[←eqN h]; rfl
  rw[hf]
  by_cases h1:t=e.t∧r=e.r
  ·rw[bg h1]
   exact .inr ⟨0,e,rfl,rfl,h1.1,h1.2⟩
  ·rw[aV h1]
   rcases ih (Nat.succ i) with ⟨g1,g2⟩ | ⟨j,e',g1,g2,g3,g4⟩
   ·exact .inl ⟨g1,fun x hx=>by rcases List.mem_cons.1 hx with rfl | hx; exact h1; exact g2 x hx⟩
   ·exact .inr ⟨j+1,e',by rw[show i+(j+1)=Nat.succ i+j by omega]; exact g1,g2,g3,g4⟩
theorem Aq {β:Type} {fl:β} {M:List HE} {clock:Nat} {h:Heap} {bm:Nat} (g:h.bl.get bm=some (.map (M.map kM) clock)) (t r:Int) (hn:∀e∈M,¬(t=e.t∧r=e.r)) (κ:Value→Heap→β) :
  cV fl Tryz.prog 28 (.pointer none) true (.map (some bm)) (cN t r) h κ=κ (.tuple ⟨[.pointer none,.bool false]⟩) h:=by
 unfold cV ja
 rw[NT]
 simp only[g]
 rcases EJ h t r M 0 with ⟨g1,_⟩ | ⟨j,e,_,g2,g3,g4⟩
 ·rw[g1]
 ·exact absurd (And.intro g3 g4) (hn e (List.mem_of_getElem? g2))
theorem fh.uniq {M:List HE} {clock:Nat} (o:fh M clock) {e e':HE} (h:e∈M) (h':e'∈M) (ht:e.t=e'.t) (hr:e.r=e'.r):e=e':=by
 have:∀(L:List HE),(L.Pairwise fun a b=>¬(a.t=b.t∧a.r=b.r))→e∈L→e'∈L→e=e':=by
  intro L
  induction L with
  | nil=>intro _ h; nomatch h
  | cons a L ih=>
   intro hp h1 h2
   rw[List.pairwise_cons] at hp
   rcases List.mem_cons.1 h1 with rfl | k1<;>rcases List.mem_cons.1 h2 with rfl | k2
   ·rfl
   ·exact absurd ⟨ht,hr⟩ (hp.1 _ k2)
   ·exact absurd ⟨ht.symm,hr.symm⟩ (hp.1 _ k1)
   ·exact ih hp.2 k1 k2
 exact this M o.nm h h'
theorem EK {β:Type} {fl:β} {M:List HE} {clock:Nat} {h:Heap} {bm:Nat} (o:fh M clock) (g:h.bl.get bm=some (.map (M.map kM) clock)) {e:HE} (he:e∈M) (κ:Value→Heap→β) :
  cV fl Tryz.prog 28 (.pointer none) true (.map (some bm)) (cN e.t e.r) h κ=κ (.tuple ⟨[.pointer (some ⟨e.hb,0,none⟩),.bool true]⟩) h:=by
 unfold cV ja
 rw[NT]
 simp only[g]
 rcases EJ h e.t e.r M 0 with ⟨g1,g2⟩ | ⟨j,e',g1,g2,g3,g4⟩
 ·exact absurd ⟨rfl,rfl⟩ (g2 e he)
 ·rw[g1]
  rw[o.uniq he (List.mem_of_getElem? g2) g3 g4]; rfl
theorem erase_filter {M:List HE} (hn:M.Pairwise fun a b=>¬(a.t=b.t∧a.r=b.r)) {j:Nat} {e:HE} (hj:M[j]? = some e):M.eraseIdx j=M.filter fun x=>!tH e.t e.r x:=by
 induction M generalizing j with
 | nil=>simp at hj
 | cons a M ih=>
  rw[List.pairwise_cons] at hn
  cases j with
  | zero=>
   rw[List.getElem?_cons_zero] at hj; cases hj
   rw[List.eraseIdx_cons_zero,List.filter_cons_of_neg (by simp[tH])]
   exact (List.filter_eq_self.2 fun x hx=>qk.2 (hn.1 x hx)).symm
  | succ j=>
   rw[List.getElem?_cons_succ] at hj
   have:=hn.1 e (List.mem_of_getElem? hj)
   rw[List.eraseIdx_cons_succ,List.filter_cons_of_pos (p:=fun x=>!tH e.t e.r x) (qk.2 fun ⟨h1,h2⟩=>this ⟨h1.symm,h2.symm⟩),ih hn.2 hj]
theorem Jc {α:Type} {R:α→α→Prop} (hs:∀{a b},R a b→R b a) {L L':List α} (hp:L.Perm L') (h:L.Pairwise R):L'.Pairwise R:=(hp.pairwise_iff hs).1 h
theorem fh.put {M M':List HE} {clock clock':Nat} (o:fh M clock) (hc:clock≤clock') {e:HE} (hp:M'.Perm (M.filter (fun x=>!tH e.t e.r x)++[e])) (hb:∀x∈M,¬(e.t=x.t∧e.r=x.r)→x.born≠e.born) (hlt:e.born<clock'):fh M' clock':=by
 have hm:∀x∈M.filter (fun x=>!tH e.t e.r x),x∈M∧¬(e.t=x.t∧e.r=x.r):=fun x hx=>by
  rw[List.mem_filter] at hx
  exact ⟨hx.1,qk.1 hx.2⟩
 refine ⟨Jc (fun h=>fun ⟨a,b⟩=>h ⟨a.symm,b.symm⟩) hp.symm (rO (o.nm.filter _) fun x hx=>fun ⟨a,b⟩=>(hm x hx).2 ⟨a.symm,b.symm⟩),Jc (fun h=>h.symm) hp.symm (rO (o.bn.filter _) fun x hx=>hb x (hm x hx).1 (hm x hx).2),fun x hx=>?_⟩
 rcases List.mem_append.1 (hp.mem_iff.1 hx) with h | h
 ·exact Nat.lt_of_lt_of_le (o.lt x (hm x h).1) hc
 ·rw[List.mem_singleton] at h; subst h; exact hlt
theorem Yj {M:List HE} {clock:Nat} {h:Heap} {bm:Nat} (o:fh M clock) (g:h.bl.get bm=some (.map (M.map kM) clock)) (hlo:h.lo≤bm) (t r:Int) (hb:Nat) (q:Value) (w:Int) (Q:List R5) (κ:KQ)
  (hk:∀M' clock' born,fh M' clock'→M'.Perm (M.filter (fun x=>!tH t r x)++[⟨t,r,hb,born,q,w,Q⟩])→κ undef ⟨h.nx,h.bl.aT bm (.map (M'.map kM) clock'),h.lo⟩) :
  cw False Tryz.prog 28 (.map (some bm)) (cN t r) (.pointer (some ⟨hb,0,none⟩)) h κ:=by
 unfold cw
 rw[NT]
 simp only[g]
 rcases EJ h t r M 0 with ⟨g1,g2⟩ | ⟨j,e,g1,g2,g3,g4⟩
 ·rw[g1]
  simp only
  rw[ot]
  simp only[bT]
  rw[bU _ _ _ _ hlo]
  have B3:(M++[(⟨t,r,hb,clock,q,w,Q⟩:HE)]).Perm (M.filter (fun x=>!tH t r x)++[⟨t,r,hb,clock,q,w,Q⟩]):=by
   rw[List.filter_eq_self.2 fun x hx=>qk.2 (g2 x hx)]
  have:=hk (M++[⟨t,r,hb,clock,q,w,Q⟩]) (clock+1) clock (o.put (e:=⟨t,r,hb,clock,q,w,Q⟩) (Nat.le_succ _) B3 (fun x hx _=>Nat.ne_of_lt (o.lt x hx)) (Nat.lt_succ_self _)) B3
  rw[List.map_append] at this
  exact this
 ·rw[g1]
  simp only[kM,g3,g4,ag0]
  rw[Nat.zero_add,ry _ _ j (kM e) _ (by rw[List.getElem?_map,g2]; rfl),bU _ _ _ _ hlo]
  subst g3 g4
  have B3:(M.set j (⟨e.t,e.r,hb,e.born,q,w,Q⟩:HE)).Perm (M.filter (fun x=>!tH e.t e.r x)++[⟨e.t,e.r,hb,e.born,q,w,Q⟩]):=by
   rw[←erase_filter o.nm g2]
   obtain ⟨hj,_⟩:=List.getElem?_eq_some_iff.1 g2
   rw[List.set_eq_take_append_cons_drop,if_pos hj,List.eraseIdx_eq_take_drop_succ]
   exact (List.perm_middle).trans (List.perm_append_singleton _ _).symm
  have hne:∀x∈M,¬(e.t=x.t∧e.r=x.r)→x.born≠e.born:=fun x hx hn B4=>by
   have:∀(L:List HE),(L.Pairwise fun a b=>a.born≠b.born)→e∈L→x∈L→e=x:=by
    intro L
    induction L with
    | nil=>intro _ h; nomatch h
    | cons a L ih=>
     intro hp h1 h2
     rw[List.pairwise_cons] at hp
     rcases List.mem_cons.1 h1 with rfl | k1<;>rcases List.mem_cons.1 h2 with rfl | k2
     ·rfl
     ·exact absurd B4.symm (hp.1 _ k2)
     ·exact absurd B4 (hp.1 _ k1)
     ·exact ih hp.2 k1 k2
   have:=this M o.bn (List.mem_of_getElem? g2) hx
   subst this
   exact hn ⟨rfl,rfl⟩
  have:=hk (M.set j ⟨e.t,e.r,hb,e.born,q,w,Q⟩) clock e.born (o.put (e:=⟨e.t,e.r,hb,e.born,q,w,Q⟩) (Nat.le_refl _) B3 hne (o.lt e (List.mem_of_getElem? g2))) B3
  rw[List.map_set] at this
  exact this
theorem Kn {α β:Type} (f:α→β):∀(l:List α) (j:Nat),(l.eraseIdx j).map f=(l.map f).eraseIdx j:=by
 intro l
 induction l with
 | nil=>intro j; rfl
 | cons a l ih=>
  intro j
  cases j with
  | zero=>rfl
  | succ j=>simp[ih j]
theorem Yk {M:List HE} {clock:Nat} {h:Heap} {bm:Nat} (o:fh M clock) (g:h.bl.get bm=some (.map (M.map kM) clock)) (hlo:h.lo≤bm) (t r:Int) (κ:KQ)
  (hk:∀h',h'=⟨h.nx,h.bl.aT bm (.map ((M.filter (fun x=>!tH t r x)).map kM) clock),h.lo⟩∨(h'=h∧M.filter (fun x=>!tH t r x)=M)→κ (.tuple ⟨[]⟩) h') :
  kW False Tryz.prog 28 (.map (some bm)) (cN t r) h κ:=by
 unfold kW
 rw[NT]
 simp only[g]
 rcases EJ h t r M 0 with ⟨g1,g2⟩ | ⟨j,e,g1,g2,g3,g4⟩
 ·rw[g1]
  exact hk h (.inr ⟨rfl,List.filter_eq_self.2 fun x hx=>qk.2 (g2 x hx)⟩)
 ·rw[g1]
  simp only
  rw[Nat.zero_add,wB,bU _ _ _ _ hlo]
  subst g3 g4
  refine hk _ (.inl ?_)
  rw[←erase_filter o.nm g2,Kn]
theorem fh.filter {M:List HE} {clock:Nat} (o:fh M clock) (p:HE→Bool):fh (M.filter p) clock:=⟨o.nm.filter _,o.bn.filter _,fun e he=>o.lt e (List.mem_filter.1 he).1⟩
def BB (M:List HE) (seen:List Nat):Nat:=M.countP fun e=>!seen.any (Nat.beq e.born)
theorem Ko {α:Type} {p q:α→Bool}:∀(L:List α),(∀x∈L,q x=true→p x=true)→(∃x∈L,p x=true∧q x=false)→L.countP q<L.countP p:=by
 intro L
 induction L with
 | nil=>rintro _ ⟨x,hx,_⟩; nomatch hx
 | cons a L ih=>
  intro h hx
  have hle:L.countP q≤L.countP p:=List.countP_mono_left fun x hx=>h x (.tail _ hx)
  rw[List.countP_cons,List.countP_cons]
  by_cases ha:p a=true∧q a=false
  ·rw[ha.1,ha.2]; simp; omega
  ·have ht:∃x∈L,p x=true∧q x=false:=by
    obtain ⟨x,hx,h1⟩:=hx
    rcases List.mem_cons.1 hx with rfl | hx
    ·exact absurd h1 ha
    ·exact ⟨x,hx,h1⟩
   have:=ih (fun x hx=>h x (.tail _ hx)) ht
   have ha2:=h a (.head _)
   cases hq:q a with
   | false=>simp; omega
   | true=>rw[ha2 hq]; simp; omega
theorem tI {M:List HE} {seen:List Nat} {e:HE} (he:e∈M) (hn:seen.any (Nat.beq e.born)=false):BB M (e.born::seen)<BB M seen:=by
 refine Ko M (fun x _ h=>?_) ⟨e,he,by rw[hn]; rfl,by simp⟩
 rw[List.any_cons,Bool.not_or,Bool.and_eq_true] at h
 exact h.2
theorem GL {b m since:Nat} {seen:List Nat} {clock:Nat} {h:Heap} {κ:Value→Heap→Prop} (hlo:h.lo≤b):∀(es:List MapEntry) (e:MapEntry),(∀x∈e::es,x.born<since)→(∀x∈e::es,κ (.tuple ⟨[.bool true,x.key,x.val]⟩) ⟨h.nx,h.bl.aT b (.dM (some m) since (x.born::seen) clock),h.lo⟩)→kX False And b m since seen clock h κ e es:=by
 intro es
 induction es with
 | nil=>
  intro e hb hk
  unfold kX
  rw[Nat.ble_eq_true_of_le (show Nat.succ e.born≤since from hb e (.head _))]
  simp only
  rw[bU _ _ _ _ hlo]
  exact hk e (.head _)
 | cons a es ih=>
  intro e hb hk
  unfold kX
  rw[Nat.ble_eq_true_of_le (show Nat.succ e.born≤since from hb e (.head _))]
  simp only
  rw[bU _ _ _ _ hlo]
  exact ⟨hk e (.head _),ih a (fun x hx=>hb x (.tail _ hx)) fun x hx=>hk x (.tail _ hx)⟩
theorem NU {M:List HE} {clock b bm:Nat} {seen:List Nat} {h:Heap} (o:fh M clock) (hb:h.bl.get b=some (.dM (some bm) clock seen clock)) (g:h.bl.get bm=some (.map (M.map kM) clock)) (hlo:h.lo≤b) (κ:KQ)
  (nO:(∀e∈M,seen.any (Nat.beq e.born)=true)→κ (.tuple ⟨[.bool false]⟩) h)
  (dy:∀e∈M,seen.any (Nat.beq e.born)=false→κ (.tuple ⟨[.bool true,cN e.t e.r,.pointer (some ⟨e.hb,0,none⟩)]⟩) ⟨h.nx,h.bl.aT b (.dM (some bm) clock (e.born::seen) clock),h.lo⟩) :
  p9 False And (.pointer (some ⟨b,0,none⟩)) h κ:=by
 unfold p9
 simp only[hb,g]
 have e1:(!seen.isEmpty && !(M.map kM).isEmpty && (M.map kM).all (fun e=>Nat.ble clock e.born))=false:=by
  cases M with
  | nil=>simp
  | cons e M=>
   have:Nat.ble clock (kM e).born=false:=by
    have:=o.lt e (.head _)
    cases hc:Nat.ble clock (kM e).born with
    | false=>rfl
    | true=>have:=Nat.le_of_ble_eq_true hc; simp only[kM] at this; omega
   rw[List.map_cons,List.all_cons,this]; simp
 rw[e1]
 simp only
 rw[List.filter_map]
 have hmem:∀x,x∈(M.filter ((fun e:MapEntry=>!seen.any (Nat.beq e.born)) ∘ kM)).map kM→∃e∈M,seen.any (Nat.beq e.born)=false∧x=kM e:=by
  intro x hx
  obtain ⟨e,he,rfl⟩:=List.mem_map.1 hx
  rw[List.mem_filter] at he
  exact ⟨e,he.1,by have:=he.2; simpa[kM] using this,rfl⟩
 split
 ·rename_i hnil
  refine nO fun e he=>?_
  cases hs:seen.any (Nat.beq e.born) with
  | true=>rfl
  | false=>
   have:kM e∈(M.filter ((fun e:MapEntry=>!seen.any (Nat.beq e.born)) ∘ kM)).map kM:=List.mem_map.2 ⟨e,List.mem_filter.2 ⟨he,by simp only[Function.comp,kM,hs]; rfl⟩,rfl⟩
   rw[hnil] at this
   nomatch this
 ·rename_i e es heq
  rw[heq] at hmem
  refine GL hlo es e (fun x hx=>?_) fun x hx=>?_
  ·obtain ⟨y,hy,_,rfl⟩:=hmem x hx
   exact o.lt y hy
  ·obtain ⟨y,hy,h1,rfl⟩:=hmem x hx
   exact dy y hy h1
theorem Jd {β:Type} {fl:β} {M:List HE} {clock b bm:Nat} {seen:List Nat} {h:Heap} (o:fh M clock) {e:HE} (he:e∈M) (hb:h.bl.get b=some (.dM (some bm) clock (e.born::seen) clock)) (g:h.bl.get bm=some (.map (M.map kM) clock)) (κ:Value→Heap→β) :
  ng fl (.pointer (some ⟨b,0,none⟩)) h κ=κ (.tuple ⟨[cN e.t e.r,.pointer (some ⟨e.hb,0,none⟩)]⟩) h:=by
 unfold ng
 simp only[hb,g]
 have e1:Nat.beq clock clock=true:=Nat.beq_refl _
 rw[e1]
 simp only
 have:(M.map kM).find? (fun x=>Nat.beq x.born e.born)=some (kM e):=by
  have key:∀(L:List HE),(L.Pairwise fun a b=>a.born≠b.born)→e∈L→(L.map kM).find? (fun x=>Nat.beq x.born e.born)=some (kM e):=by
   intro L
   induction L with
   | nil=>intro _ h; nomatch h
   | cons a L ih=>
    intro hp h1
    rw[List.pairwise_cons] at hp
    rw[List.map_cons,List.find?_cons]
    rcases List.mem_cons.1 h1 with rfl | k1
    ·have:Nat.beq (kM e).born e.born=true:=Nat.beq_refl _
     rw[this]
    ·have:Nat.beq (kM a).born e.born=false:=by
      cases hc:Nat.beq (kM a).born e.born with
      | false=>rfl
      | true=>exact absurd (Nat.eq_of_beq_eq_true hc) (hp.1 e k1)
     rw[this]
     exact ih hp.2 k1
  exact key M o.bn he
 rw[this]
 rfl
theorem EL {β:Type} {fl:β} {bm clock:Nat} {es:List MapEntry} {h:Heap} (g:h.bl.get bm=some (.map es clock)) (κ:Value→Heap→β) :
  m_ fl (.map (some bm)) h κ=κ (.pointer (some ⟨h.nx,0,none⟩)) ⟨h.nx+1,h.bl.aT h.nx (.dM (some bm) clock [] clock),h.lo⟩:=by
 unfold m_
 simp only[g,dx]
structure lV (h:Heap) (e:HE):Prop where
 lt:e.hb<h.nx
 get:h.bl.get e.hb=some (dF e.t e.r e.q e.w)
 qv:QV h e.q e.Q
structure NV (e:HE):Prop where
 ne:e.Q≠[]
 vq:VQ e.Q e.w
 stuck:qK e.Q
 small:e.Q.length≤128
structure aZ (h:Heap) (bb bm bp bl:Nat) (most:Nat) (M:List HE) (clock:Nat) (F:List Int) (B:List Bool):Prop where
 Qd:bb<h.nx
 vJ:bm<h.nx
 RU:h.lo≤bm
 gU:h.bl.get bb=some (aa [.int .i64 (most:Int),.pointer (some ⟨bp,0,none⟩),.map (some bm)] 267 false)
 fQ:h.bl.get bm=some (.map (M.map kM) clock)
 ok:fh M clock
 aS:∀e∈M,lV h e
 good:∀e∈M,NV e
 aY:dJ h bp bl F B
 ne:bp≠bl
theorem lV.le {h h':Heap} {e:HE} (a:lV h e) (l:Le h h'):lV h' e:=⟨Nat.lt_of_lt_of_le a.lt l.nx,(l.get _ a.lt).trans a.get,a.qv.le l⟩
theorem dJ.le {h h':Heap} {bp bl:Nat} {F:List Int} {B:List Bool} (p:dJ h bp bl F B) (l:Le h h'):dJ h' bp bl F B:=by
 have ln:=l.nx
 have ll:=l.lo
 have pl:=p.lt
 have fl:=p.fr.lt
 obtain ⟨fs,hg,hpt⟩:=p.fr.cell
 refine ⟨⟨by omega,by rw[ll]; exact p.fr.lo,fs,(l.get _ fl).trans hg,?_⟩,by omega,by rw[ll]; exact p.lo,(l.get _ pl).trans p.cell,p.ok,p.small⟩
 rcases hpt with e | ⟨b,G,e,k1,k2,k3,k4⟩
 ·exact .inl e
 ·exact .inr ⟨b,G,e,by omega,by omega,(l.get _ k1).trans k3,k4⟩
theorem aZ.le {h h':Heap} {bb bm bp bl most:Nat} {M:List HE} {clock:Nat} {F:List Int} {B:List Bool} (s:aZ h bb bm bp bl most M clock F B) (l:Le h h'):aZ h' bb bm bp bl most M clock F B:=
 ⟨Nat.lt_of_lt_of_le s.Qd l.nx,Nat.lt_of_lt_of_le s.vJ l.nx,by rw[l.lo]; exact s.RU,(l.get _ s.Qd).trans s.gU,(l.get _ s.vJ).trans s.fQ,s.ok,fun e he=>(s.aS e he).le l,s.good,s.aY.le l,s.ne⟩
theorem ag1 (h:Heap) (b o:Nat):lM Tryz.prog h 100 205 (.pointer (some ⟨b,o,none⟩)) (.pointer none)=some false:=by kernel_rfl
theorem gV {β:Type} {fl:β} (cn:Bool) (b o:Nat) (h:Heap) (κ:Value→Heap→β):au fl Tryz.prog .eql 205 cn false (.pointer (some ⟨b,o,none⟩)) (.pointer none) h κ=κ (.bool false) h:=by simp only[au,ag1,bM]
theorem ag2 (h:Heap) (b o:Nat):lM Tryz.prog h 100 264 (.pointer (some ⟨b,o,none⟩)) (.pointer none)=some false:=by kernel_rfl
theorem r6 {β:Type} {fl:β} (cn:Bool) (b o:Nat) (h:Heap) (κ:Value→Heap→β):au fl Tryz.prog .eql 264 cn false (.pointer (some ⟨b,o,none⟩)) (.pointer none) h κ=κ (.bool false) h:=by simp only[au,ag2,bM]
theorem ag3 (h:Heap):lM Tryz.prog h 100 264 (.pointer none) (.pointer none)=some true:=by kernel_rfl
theorem oM {β:Type} {fl:β} (cn:Bool) (h:Heap) (κ:Value→Heap→β):au fl Tryz.prog .eql 264 cn false (.pointer none) (.pointer none) h κ=κ (.bool true) h:=by simp only[au,ag3,bM]
theorem NW (bb:Nat) (h:Heap) (κ:KQ) (hk:κ (.int .i64 5) h):CallW Tryz.prog 344 [.pointer (some ⟨bb,0,none⟩)] h κ:=by
 refine an mixed ?_
 rw[Xv]
 simp(disch:=first|omega|simp only[Wd]<;>omega|rfl)only[Wz,gV]
 exact hk
theorem fh.yc {M:List HE} {clock:Nat} (o:fh M clock) {e e':HE} (h:e∈M) (h':e'∈M) (hb:e.born=e'.born):e=e':=by
 have:∀(L:List HE),(L.Pairwise fun a b=>a.born≠b.born)→e∈L→e'∈L→e=e':=by
  intro L
  induction L with
  | nil=>intro _ h; nomatch h
  | cons a L ih=>
   intro hp h1 h2
   rw[List.pairwise_cons] at hp
   rcases List.mem_cons.1 h1 with rfl | k1<;>rcases List.mem_cons.1 h2 with rfl | k2
   ·rfl
   ·exact absurd hb (hp.1 _ k2)
   ·exact absurd hb.symm (hp.1 _ k1)
   ·exact ih hp.2 k1 k2
 exact this M o.bn h h'
theorem RV {h:Heap} {bb bm bp bl most:Nat} {M:List HE} {clock:Nat} {F:List Int} {B:List Bool} (s:aZ h bb bm bp bl most M clock F B) (hlo:h.lo≤h.nx) (id:Int) (κ:KQ)
  (nO:∀h',(∀e∈M,bV e.Q id=none)→Le h h'→κ (.pointer none) h')
  (dy:∀h' e p,e∈M→bV e.Q id=some p→Le h h'→κ (.pointer (some ⟨e.hb,0,none⟩)) h') :
  CallW Tryz.prog 343 [.pointer (some ⟨bb,0,none⟩),.int .i64 id] h κ:=by
 refine an mixed ?_
 rw[NF]
 have g:=s.gU
 have gm:=s.fQ
 simp(disch:=first|omega|simp only[Wd]<;>omega|rfl)only[Wz,gV,D_,az,g,EL gm]
 obtain ⟨hA,eA⟩:∃hA:Heap,hA=⟨h.nx+1,h.bl.aT h.nx (.dM (some bm) clock [] clock),h.lo⟩:=⟨_,rfl⟩
 rw[←eA]
 have leA:Le h hA:=by rw[eA]; exact (Le.refl h).new _
 have nA:hA.nx=h.nx+1:=by rw[eA]
 have lA:hA.lo=h.lo:=by rw[eA]
 have gA:hA.bl.get h.nx=some (.dM (some bm) clock [] clock):=by rw[eA]; exact T.af _ _ _
 refine ⟨fun m l h1=>∃seen,m=BB M seen∧h.nx<h1.nx∧Le h h1∧h1.bl.get h.nx=some (.dM (some bm) clock seen clock)∧∀e∈M,seen.any (Nat.beq e.born)=true→bV e.Q id=none,⟨_,[],rfl,by omega,leA,gA,fun e _ he=>by simp at he⟩,?_⟩
 rintro m l h1 ⟨seen,rfl,n1,bF,g1,hs⟩
 have gm1:=(bF.get _ s.vJ).trans gm
 have l1:=bF.lo
 have n1':=bF.nx
 refine NU s.ok g1 gm1 (by omega) _ ?_ ?_
 ·intro hall
  simp(disch:=first|omega|simp only[Wd]<;>omega|rfl)only[Wz]
  exact nO h1 (fun e he=>hs e he (hall e he)) bF
 ·intro e he HL
  have H:=s.aS e he
  have hlt:=H.lt
  have bt:Le h ⟨h1.nx,h1.bl.aT h.nx (.dM (some bm) clock (e.born::seen) clock),h1.lo⟩:=bF.set (by omega) _
  obtain ⟨h2,e2⟩:∃h2:Heap,h2=⟨h1.nx,h1.bl.aT h.nx (.dM (some bm) clock (e.born::seen) clock),h1.lo⟩:=⟨_,rfl⟩
  rw[←e2] at bt ⊢
  have n2:h2.nx=h1.nx:=by rw[e2]
  have g2:h2.bl.get h.nx=some (.dM (some bm) clock (e.born::seen) clock):=by rw[e2]; exact T.af _ _ _
  have gm2:=(bt.get _ s.vJ).trans gm
  have l2:=bt.lo
  obtain ⟨qx,qc,eq,_⟩:=(show Sl bu h e.q e.Q from H.qv.1)
  have gh:=(bt.get _ hlt).trans H.get
  rw[eq] at gh
  simp(disch:=first|omega|simp only[Wd]<;>omega|rfl)only[Wz,D9,Jd s.ok he g2 gm2,az,gh]
  refine I_ e.t e.r _ e.w id e.Q h2 _ (by rw[←eq]; exact H.qv.1.le bt) (by have:=(s.good e he).small; omega) (by omega) ?_
  intro h3 cr
  have n3:=cr.nx
  have l3:=cr.lo
  have g3:=(cr.get h.nx (by omega)).trans g2
  have BC:=bt.trans cr
  cases hf:bV e.Q id with
  | none=>
   simp(disch:=first|omega|simp only[Wd]<;>omega|rfl)only[Wz,bu]
   refine ⟨_,?_,e.born::seen,rfl,?_,BC.new _,?_,?_⟩
   ·exact tI he HL
   ·show h.nx<h3.nx+1; omega
   ·exact g3
   ·intro x hx hxs
    rw[List.any_cons,Bool.or_eq_true] at hxs
    rcases hxs with hb | hb
    ·rw[s.ok.yc hx he (Nat.eq_of_beq_eq_true hb)]; exact hf
    ·exact hs x hx hb
  | some p=>
   simp(disch:=first|omega|simp only[Wd]<;>omega|rfl)only[Wz,bu]
   exact dy _ e p he hf (BC.new _)
structure pZ (bm bp bl:Nat) (h h':Heap):Prop where
 nx:h.nx≤h'.nx
 lo:h'.lo=h.lo
 get:∀c,c<h.nx→c≠bm→c≠bp→c≠bl→(∀vs,h.bl.get c≠some (aa vs 3 true))→h'.bl.get c=h.bl.get c
 g2:bp<h.nx→∀c,c<h.nx→c≠bm→c≠bp→c≠bl→¬FB h bp c→h'.bl.get c=h.bl.get c
 mv:bp<h.nx→∀c,c<h.nx→FB h' bp c→FB h bp c
theorem pZ.trans {bm bp bl:Nat} {h h' h'':Heap} (a:pZ bm bp bl h h') (b:pZ bm bp bl h' h''):pZ bm bp bl h h'':=
 ⟨Nat.le_trans a.nx b.nx,b.lo.trans a.lo,fun c hc hm hn hl hi=>(b.get c (Nat.lt_of_lt_of_le hc a.nx) hm hn hl (fun vs=>by rw[a.get c hc hm hn hl hi]; exact hi vs)).trans (a.get c hc hm hn hl hi),
  fun hb c hc hm hn hl hi=>(b.g2 (Nat.lt_of_lt_of_le hb a.nx) c (Nat.lt_of_lt_of_le hc a.nx) hm hn hl fun x=>hi (a.mv hb c hc x)).trans (a.g2 hb c hc hm hn hl hi),
  fun hb c hc x=>a.mv hb c hc (b.mv (Nat.lt_of_lt_of_le hb a.nx) c (Nat.lt_of_lt_of_le hc a.nx) x)⟩
theorem pZ.of_le {bm bp bl:Nat} {h h':Heap} (l:Le h h'):pZ bm bp bl h h':=⟨l.nx,l.lo,fun c hc _ _ _ _=>l.get c hc,fun _ c hc _ _ _ _=>l.get c hc,fun hb c _ x=>(FB.congr (l.get bp hb)).1 x⟩
theorem pZ.acE {bm bp bl:Nat} {h h':Heap} (f:Jb bp bl h h'):pZ bm bp bl h h':=⟨f.nx,f.lo,fun c hc _ hn hl hi=>f.get c hc hn hl hi,fun hb c hc _ hn hl hi=>f.g2 hb c hc hn hl hi,f.mv⟩
theorem pZ.of_map {bm bp bl:Nat} (h:Heap) {es:List MapEntry} {cl:Nat}:pZ bm bp bl h ⟨h.nx,h.bl.aT bm (.map es cl),h.lo⟩:=by
 refine ⟨Nat.le_refl _,rfl,fun c _ hm _ _ _=>T.ai _ _ (fun e=>hm e.symm),fun _ c _ hm _ _ _=>T.ai _ _ (fun e=>hm e.symm),fun _ c _ hx=>?_⟩
 by_cases e:bm=bp
 ·subst e
  obtain ⟨n,cap,ls,hx⟩:=hx
  exact absurd ((T.af _ _ _).symm.trans hx) bQ
 ·exact (FB.congr (T.ai _ _ e)).1 hx
theorem aZ.put {h:Heap} {bb bm bp bl most:Nat} {M M':List HE} {clock clock':Nat} {F:List Int} {B:List Bool} (s:aZ h bb bm bp bl most M clock F B) (o:fh M' clock')
  (hh:∀e∈M',lV h e) (hg:∀e∈M',NV e):aZ ⟨h.nx,h.bl.aT bm (.map (M'.map kM) clock'),h.lo⟩ bb bm bp bl most M' clock' F B:=by
 have gm:=s.fQ
 have ne:∀c,(h.bl.get c≠some (.map (M.map kM) clock))→(h.bl.aT bm (.map (M'.map kM) clock')).get c=h.bl.get c:=fun c hc=>T.ai _ _ (by rintro rfl; exact hc gm)
 have nc:∀{vs ty op},(some (aa vs ty op):Option bC)≠some (.map (M.map kM) clock):=fun h=>bQ h.symm
 obtain ⟨fs,yd,hpt⟩:=s.aY.fr.cell
 have k1:(h.bl.aT bm (.map (M'.map kM) clock')).get bb=h.bl.get bb:=ne bb (by rw[s.gU]; exact nc)
 have k2:(h.bl.aT bm (.map (M'.map kM) clock')).get bp=h.bl.get bp:=ne bp (by rw[yd]; exact nc)
 have k3:(h.bl.aT bm (.map (M'.map kM) clock')).get bl=h.bl.get bl:=ne bl (by rw[s.aY.cell]; exact nc)
 refine ⟨s.Qd,s.vJ,s.RU,k1.trans s.gU,T.af _ _ _,o,fun e he=>?_,hg,⟨⟨s.aY.fr.lt,s.aY.fr.lo,fs,k2.trans yd,?_⟩,s.aY.lt,s.aY.lo,k3.trans s.aY.cell,s.aY.ok,s.aY.small⟩,s.ne⟩
 ·have a:=hh e he
  exact ⟨a.lt,(ne _ (by rw[a.get]; exact nc)).trans a.get,a.qv.put (fun vs op=>by rw[gm]; exact bQ) _⟩
 ·rcases hpt with e | ⟨b,G,e,h1,h2,h3,h4⟩
  ·exact .inl e
  ·exact .inr ⟨b,G,e,h1,h2,(ne b (by rw[h3]; exact nc)).trans h3,h4⟩
theorem NY {Q:List R5} {W:Int} (v:VQ Q W) (n:Nat):(dD n Q).1.length=Q.length:=by
 have:=congrArg List.length (Bl n v).2.1
 simpa using this
structure eo (M M':List HE) (t r w:Int) (Q:List R5):Prop where
 gone:Q=[]→M'=M.filter fun x=>!tH t r x
 put:Q≠[]→∃e,e.t=t∧e.r=r∧e.w=w∧e.Q=Q∧M'.Perm (M.filter (fun x=>!tH t r x)++[e])
theorem r7 {h:Heap} {bb bm bp bl most:Nat} {M:List HE} {clock:Nat} {F:List Int} {B:List Bool} (s:aZ h bb bm bp bl most M clock F B) (hlo:h.lo≤h.nx) (t r:Int) (q:Value) (w:Int) (Q:List R5) (κ:KQ)
  (hq:Sl bu h q Q) (vq:VQ Q w) (hlen:Q.length≤128)
  (hk:∀M' clock' v' h',aZ h' bb bm bp bl most M' clock' F B→eo M M' t r w (dD (ia Q+1) Q).1→zB h h' v' (dD (ia Q+1) Q).2→pZ bm bp bl h h'→κ v' h') :
  CallW Tryz.prog 347 [.pointer (some ⟨bb,0,none⟩),jd t r q w] h κ:=by
 obtain ⟨qx,qc,rfl,_⟩:=(show Sl bu h q Q from hq)
 refine an mixed ?_
 rw[Xx]
 simp(disch:=first|omega|simp only[Wd]<;>omega|with_unfolding_all rfl)only[Wz,jd]
 obtain ⟨hA,aH⟩:∃hA:Heap,hA=⟨h.nx+1,(h.bl.aT (h.nx) (dF t r (.slice qx Q.length qc) w)),h.lo⟩:=⟨_,rfl⟩
 have aL:Le h hA:=by subst aH; exact ((Le.refl h).new _)
 have g1:hA.bl.get (h.nx)=some (dF t r (.slice qx Q.length qc) w):=by subst aH; exact T.af _ _ _
 have ef:hA.nx=h.nx+1:=by subst aH; rfl
 have ej:hA.lo=h.lo:=by subst aH; rfl
 rw[←aH]
 clear aH
 refine Ya t r _ w Q hA _ (hq.le aL) (by omega) (by omega) vq ?_
 intro q2 v2 h2 B5 lY bt
 obtain ⟨vq2,hkey,hst,hgr⟩:=Bl (ia Q+1) vq
 have nL:=NY vq (ia Q+1)
 generalize hQ2:(dD (ia Q+1) Q).1=Q2 at *
 generalize hI2:(dD (ia Q+1) Q).2=I2 at *
 obtain ⟨qY,qZ,rfl,_⟩:=(show Sl bu h2 q2 Q2 from B5.1)
 have n2:=bt.nx
 have l2:=bt.lo
 have g1:=(bt.get _ (by omega)).trans g1
 have ag4:=hst (Nat.lt_succ_self _)
 simp(disch:=first|omega|simp only[Wd]<;>omega|with_unfolding_all rfl)only[Wz,jd,g1]
 obtain ⟨h3,e3⟩:∃h3:Heap,h3=⟨h2.nx,h2.bl.aT h.nx (dF t r (.slice qY Q2.length qZ) w),h2.lo⟩:=⟨_,rfl⟩
 have cr:Le h h3:=by rw[e3]; exact (aL.trans bt).set (by omega) _
 have g3:h3.bl.get h.nx=some (dF t r (.slice qY Q2.length qZ) w):=by rw[e3]; exact T.af _ _ _
 have n3:h3.nx=h2.nx:=by rw[e3]
 have l3:h3.lo=h2.lo:=by rw[e3]
 have hq3:QV h3 (.slice qY Q2.length qZ) Q2:=by rw[e3]; exact B5.put (fun vs op=>by rw[g1]; exact bq (by decide)) _
 have nX:zB h h3 v2 I2:=by
  rw[e3]
  exact gL.put (gL.base lY (by omega)) (by rw[g1]; exact bh) _
 rw[←e3]
 clear e3
 have s3:=s.le cr
 have gb:=s3.gU
 have gm:=s3.fQ
 refine ⟨fun l h'=>κ v2 h',?_,fun l h' hk'=>hk'⟩
 by_cases h0:Q2=[]
 ·subst h0
  simp(disch:=first|omega|simp only[Wd]<;>omega|with_unfolding_all rfl)only[Wz,xL,g3,Eb,az,gb]
  refine Yk s3.ok gm (by have:=s3.RU; omega) t r _ ?_
  intro h4 hc
  have jS:eo M (M.filter fun x=>!tH t r x) t r w []:=⟨fun _=>rfl,fun hn=>absurd rfl hn⟩
  rcases hc with rfl | ⟨rfl,hM⟩
  ·exact hk _ clock v2 _ (s3.put (s3.ok.filter _) (fun e he=>s3.aS e (List.mem_filter.1 he).1) fun e he=>s3.good e (List.mem_filter.1 he).1) jS (gL.put nX (by rw[gm]; exact bQ) _) ((pZ.of_le cr).trans (pZ.of_map _))
  ·rw[hM] at jS
   exact hk _ clock v2 _ s3 jS nX (pZ.of_le cr)
 ·have hpos:0<Q2.length:=List.length_pos_iff.2 h0
  simp(disch:=first|omega|simp only[Wd]<;>omega|with_unfolding_all rfl)only[Wz,xL,g3,aV (show ¬(Q2.length:Int)=0 by omega),Ec,az,gb]
  refine Yj s3.ok gm (by have:=s3.RU; omega) t r h.nx (.slice qY Q2.length qZ) w Q2 _ ?_
  intro M' clock' born o' hp
  have hsub:∀x∈M',x∈M∨x=⟨t,r,h.nx,born,.slice qY Q2.length qZ,w,Q2⟩:=fun x hx=>by
   rcases List.mem_append.1 (hp.mem_iff.1 hx) with hx | hx
   ·exact .inl (List.mem_filter.1 hx).1
   ·exact .inr (List.mem_singleton.1 hx)
  refine hk M' clock' v2 _ (s3.put o' (fun e he=>?_) fun e he=>?_) ⟨fun hn=>absurd hn h0,fun _=>⟨_,rfl,rfl,rfl,rfl,hp⟩⟩ (gL.put nX (by rw[gm]; exact bQ) _) ((pZ.of_le cr).trans (pZ.of_map _))
  ·rcases hsub e he with h1 | rfl
   ·exact s3.aS e h1
   ·exact ⟨by show h.nx<h3.nx; omega,g3,hq3⟩
  ·rcases hsub e he with h1 | rfl
   ·exact s3.good e h1
   ·exact ⟨h0,vq2,ag4,by show Q2.length≤128; omega⟩
theorem RX (x:Int) (r:R5) (b:Nat) (h:Heap) (κ:KQ) (hlo:h.lo≤h.nx) (hb:b<h.nx) (hg:h.bl.get b=some (aa [.int .i64 x] 3 false)) (hk:∀h',Le h h'→κ (.bool (decide (r.x=x))) h') :
  CallW Tryz.prog 394 [kK r,ptrTo b] h κ:=by
 have hk:=hk _ ((Le.refl h).new (iy r))
 refine an mixed ?_
 rw[XK]
 simp(disch:=first|omega|simp only[Wd]<;>omega|rfl)only[Wz,bu,hg]
 exact hk
theorem EM {h:Heap} {bb bm bp bl most:Nat} {M:List HE} {clock:Nat} {F:List Int} {B:List Bool} (s:aZ h bb bm bp bl most M clock F B) (hlo:h.lo≤h.nx) (t r x:Int) (κ:KQ)
  (nO:∀h',(∀e∈M,t=e.t→r=e.r→∀p∈e.Q,p.x≠x)→Le h h'→κ (.tuple ⟨[.int .i64 0,.bool false]⟩) h')
  (dy:∀h' e p,e∈M→t=e.t→r=e.r→p∈e.Q→p.x=x→Le h h'→κ (.tuple ⟨[.int .i64 p.id,.bool true]⟩) h') :
  CallW Tryz.prog 350 [.pointer (some ⟨bb,0,none⟩),cN t r,.int .i64 x] h κ:=by
 refine an mixed ?_
 rw[Xy]
 simp(disch:=first|omega|simp only[Wd]<;>omega|rfl)only[Wz,cN]
 obtain ⟨hA,aH⟩:∃hA:Heap,hA=⟨h.nx+1+1,((h.bl.aT (h.nx) (aa [.int .i64 t,.int .i64 r] 28 false)).aT (h.nx+1) (aa [.int .i64 x] 3 false)),h.lo⟩:=⟨_,rfl⟩
 have aL:Le h hA:=by subst aH; exact (((Le.refl h).new _).new _)
 have g1:hA.bl.get (h.nx)=some (aa [.int .i64 t,.int .i64 r] 28 false):=by subst aH; exact (T.ai _ _ (by omega)).trans (T.af _ _ _)
 have g3:hA.bl.get (h.nx+1)=some (aa [.int .i64 x] 3 false):=by subst aH; exact T.af _ _ _
 have ef:hA.nx=h.nx+1+1:=by subst aH; rfl
 have ej:hA.lo=h.lo:=by subst aH; rfl
 rw[←aH]
 clear aH
 have sA:=s.le aL
 have gb:=sA.gU
 have gm:=sA.fQ
 by_cases hc:∃e∈M,t=e.t∧r=e.r
 case neg=>
  have hn:∀e∈M,¬(t=e.t∧r=e.r):=fun e he h=>hc ⟨e,he,h⟩
  have eL:=Aq (β:=Option Value) (fl:=none) gm t r hn
  unfold cN at eL
  simp(disch:=first|omega|simp only[Wd]<;>omega|rfl)only[Wz,gV,xM,az,gb,g1,eL]
  exact nO _ (fun e he h1 h2=>absurd ⟨h1,h2⟩ (hn e he)) aL
 obtain ⟨e,he,rfl,rfl⟩:=hc
 have eL:=EK (β:=Option Value) (fl:=none) sA.ok gm he
 unfold cN at eL
 have H:=sA.aS e he
 have hlt:=H.lt
 have gd:=sA.good e he
 have rG:=gd.small
 obtain ⟨qx,qc,eq,_⟩:=(show Sl bu hA e.q e.Q from H.qv.1)
 have gh:=H.get
 rw[eq] at gh
 simp(disch:=first|omega|simp only[Wd]<;>omega|rfl)only[Wz,gV,xM,az,gb,g1,eL,Ee,gh]
 rw[←eq]
 refine xW e.Q (fun p=>decide (p.x=x)) hA _ _ _ H.qv.1 (by omega) ?_ ?_
 ·intro p _ h1 κ1 l1 dy
  simp(disch:=first|omega|simp only[Wd]<;>omega|rfl)only[Wz,List.nil_append,List.cons_append]
  refine RX x p (h.nx+1) h1 κ1 (by have:=l1.lo; have:=l1.nx; omega) (by have:=l1.nx; omega) ((l1.get _ (by omega)).trans g3) dy
 intro h2 bt
 have gh2:=(bt.get _ hlt).trans gh
 have jI:=aL.trans bt
 rcases kH e.Q (fun p=>decide (p.x=x)) with ⟨ei,hf⟩ | ⟨i,p,ei,hp,h1,h2⟩
 ·rw[ei]
  simp(disch:=first|omega|simp only[Wd]<;>omega|rfl)only[Wz,eZ]
  exact nO h2 (fun e' he' h1 h2 p hp=>by rw[sA.ok.uniq he' he h1.symm h2.symm] at hp; have:=hf p hp; simpa using this) jI
 ·rw[ei]
  obtain ⟨b,o,hb,Qe,_,hid,_⟩:=NI (H.qv.1.le bt) i hp
  rw[eq] at Qe
  simp(disch:=first|omega|simp only[Wd]<;>omega|rfl)only[Wz,eZ,cW (show (0:Int)≤(i:Int) by omega),Ed,az,gh2,Qe,hid]
  exact dy _ e p he rfl rfl (List.mem_of_getElem? hp) (by simpa using h1) jI
end Go.Proofs
