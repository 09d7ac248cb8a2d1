/-
  PROVED HERE: a part of the proof (K0, K1, K2, VaiA, K3, VaiF, K4, K5, K6, K7, K8, K9, K10, K11, K12, K13, K14, K15, K16, K17).
-/
import Derived.Test.YtmjghbjpdoeemaaGreatDoorG3
import Derived.Test.YtmjghbjpdoeemaaGreatDoorRZ
set_option linter.unusedVariables false
set_option linter.unusedSimpArgs false
set_option maxRecDepth 100000
namespace Go.Proofs
open Go.Vai Go.Clashes
theorem mixed:Tryz.prog.follows .mixedOrders=true:=by kernel_rfl
def ew (t r:Int):Value:=.agg ⟨[.int .i64 t,.int .i64 r]⟩
theorem Xm:∀i,i<7→∀j,j<7→bA Tryz.prog 200 210 [.int .i64 (.ofNat i),.int .i64 (.ofNat j)] (.bool (cmp (.ofNat i) (.ofNat j)))=true:=by decide +kernel
theorem Xn (n:Nat) (b:Int):bA Tryz.prog 200 210 [.int .i64 (.negSucc n),.int .i64 b] (.bool false)=true:=by kernel_rfl
theorem Xo (n:Nat) (b:Int):bA Tryz.prog 200 210 [.int .i64 (.ofNat (n+7)),.int .i64 b] (.bool false)=true:=by kernel_rfl
theorem Xp:∀i,i<7→∀n:Nat,bA Tryz.prog 200 210 [.int .i64 (.ofNat i),.int .i64 (.negSucc n)] (.bool false)=true:=by
 refine seven ?_ ?_ ?_ ?_ ?_ ?_ ?_<;>intro n<;>kernel_rfl
theorem Xq:∀i,i<7→∀n:Nat,bA Tryz.prog 200 210 [.int .i64 (.ofNat i),.int .i64 (.ofNat (n+7))] (.bool false)=true:=by
 refine seven ?_ ?_ ?_ ?_ ?_ ?_ ?_<;>intro n<;>kernel_rfl
theorem Kz (a b:Int) {h:Heap} {κ:Value→Heap→Prop} (hk:κ (.bool (cmp a b)) h):CallW Tryz.prog 210 [.int .i64 a,.int .i64 b] h κ:=
 oA mixed (F:=fun a b=>.bool (cmp a b)) Xm (fun n b=>by rw[Bs (nH n)]; exact Xn n b) (fun n b=>by rw[Bs (nI n)]; exact Xo n b) (fun i hi n=>by rw[FH (nH n)]; exact Xp i hi n) (fun i hi n=>by rw[FH (nI n)]; exact Xq i hi n) a b hk
theorem Xr:∀i,i<7→∀j,j<7→bA Tryz.prog 200 212 [.int .i64 (.ofNat i),.int .i64 (.ofNat j)] (.bool (mu (.ofNat i) (.ofNat j)))=true:=by decide +kernel
theorem Xs (n:Nat) (b:Int):bA Tryz.prog 200 212 [.int .i64 (.negSucc n),.int .i64 b] (.bool false)=true:=by kernel_rfl
theorem Xt (n:Nat) (b:Int):bA Tryz.prog 200 212 [.int .i64 (.ofNat (n+7)),.int .i64 b] (.bool false)=true:=by kernel_rfl
theorem Xu:∀i,i<7→∀n:Nat,bA Tryz.prog 200 212 [.int .i64 (.ofNat i),.int .i64 (.negSucc n)] (.bool false)=true:=by
 refine seven ?_ ?_ ?_ ?_ ?_ ?_ ?_<;>intro n<;>kernel_rfl
theorem Xv:∀i,i<7→∀n:Nat,bA Tryz.prog 200 212 [.int .i64 (.ofNat i),.int .i64 (.ofNat (n+7))] (.bool false)=true:=by
 refine seven ?_ ?_ ?_ ?_ ?_ ?_ ?_<;>intro n<;>kernel_rfl
theorem Ct (a b:Int) {h:Heap} {κ:Value→Heap→Prop} (hk:κ (.bool (mu a b)) h):CallW Tryz.prog 212 [.int .i64 a,.int .i64 b] h κ:=
 oA mixed (F:=fun a b=>.bool (mu a b)) Xr (fun n b=>by rw[Qm (nH n)]; exact Xs n b) (fun n b=>by rw[Qm (nI n)]; exact Xt n b) (fun i hi n=>by rw[Qn (nH n)]; exact Xu i hi n) (fun i hi n=>by rw[Qn (nI n)]; exact Xv i hi n) a b hk
theorem Xw:∀i,i<7→∀j,j<7→bA Tryz.prog 200 208 [.int .i64 (.ofNat i),.int .i64 (.ofNat j)] (.int .i64 (cV (.ofNat i) (.ofNat j)))=true:=by decide +kernel
theorem Xx (n:Nat) (b:Int):bA Tryz.prog 200 208 [.int .i64 (.negSucc n),.int .i64 b] (.int .i64 0)=true:=by kernel_rfl
theorem Xy (n:Nat) (b:Int):bA Tryz.prog 200 208 [.int .i64 (.ofNat (n+7)),.int .i64 b] (.int .i64 0)=true:=by kernel_rfl
theorem Xz:∀i,i<7→∀n:Nat,bA Tryz.prog 200 208 [.int .i64 (.ofNat i),.int .i64 (.negSucc n)] (.int .i64 0)=true:=by
 refine seven ?_ ?_ ?_ ?_ ?_ ?_ ?_<;>intro n<;>kernel_rfl
theorem XB:∀i,i<7→∀n:Nat,bA Tryz.prog 200 208 [.int .i64 (.ofNat i),.int .i64 (.ofNat (n+7))] (.int .i64 0)=true:=by
 refine seven ?_ ?_ ?_ ?_ ?_ ?_ ?_<;>intro n<;>kernel_rfl
theorem KA (a b:Int) {h:Heap} {κ:Value→Heap→Prop} (hk:κ (.int .i64 (cV a b)) h):CallW Tryz.prog 208 [.int .i64 a,.int .i64 b] h κ:=
 oA mixed (F:=fun a b=>.int .i64 (cV a b)) Xw (fun n b=>by rw[JP (nH n)]; exact Xx n b) (fun n b=>by rw[JP (nI n)]; exact Xy n b) (fun i hi n=>by rw[JQ (nH n)]; exact Xz i hi n) (fun i hi n=>by rw[JQ (nI n)]; exact XB i hi n) a b hk
theorem q9 (a:Int) {h:Heap} {κ:Value→Heap→Prop} (hk:κ (.bool (kn a)) h):CallW Tryz.prog 73 [.int .i64 a] h κ:=by
 refine gU (v:=.bool (kn a)) rfl rfl (aj mixed ?_) hk
 rw[WX]
 by_cases h1:a<0
 ·simp(disch:=first|omega|simp only[Wd]<;>omega|with_unfolding_all rfl)only[Wz]; simp[kn]; omega
 ·by_cases h2:6<a
  ·simp(disch:=first|omega|simp only[Wd]<;>omega|with_unfolding_all rfl)only[Wz]; simp[kn]; omega
  ·simp(disch:=first|omega|simp only[Wd]<;>omega|with_unfolding_all rfl)only[Wz]; simp[kn]; omega
abbrev jR (r:R5):Value:=.agg ⟨aZ r⟩
noncomputable abbrev gG (r:R5):bt:=aa [.int .i64 r.id,.int .i64 r.x,.int .i64 r.m,.int .i64 r.w,.int .i64 r.s] 83 false
def zR:List Value:=[.int .i64 0,.int .i64 0,.int .i64 0,.int .i64 0,.int .i64 0]
theorem abA:FF Tryz.prog 79:=⟨fun h n c n' c'=>by kernel_rfl,fun h a n c n' c'=>by kernel_rfl⟩
theorem KB (a0 a1:Value) (h:Heap) (κ:KQ):aJ Tryz.prog 268 [a0,a1] h κ=iQ Tryz.prog 3 5 a0 a1 h κ:=by kernel_rfl
theorem XC (a0 a1:Value) (h:Heap) (κ:KQ):aJ Tryz.prog 321 [a0,a1] h κ=jQ Tryz.prog 3 268 a0 a1 h κ:=by kernel_rfl
theorem XD (a0:Value) (h:Heap) (κ:KQ):aJ Tryz.prog 139 [a0] h κ=zz Tryz.prog 79 83 5 zR a0 h κ:=by kernel_rfl
theorem XE (a0 a1:Value) (h:Heap) (κ:KQ):aJ Tryz.prog 315 [a0,a1] h κ=mq Tryz.prog 3 268 83 5 zR a0 a1 h κ:=by kernel_rfl
theorem v_ (L:List R5) (F:R5→Bool) (h:Heap) (v fv:Value) (κ:KQ) (hv:Sl aZ h v L) (hlen:L.length≤1000000)
  (hF:∀p,p∈L→∀(h1:Heap) (κ1:Value→Heap→Prop),Le h h1→(∀h2,Le h1 h2→κ1 (.bool (F p)) h2)→ic Tryz.prog fv [jR p] h1 κ1)
  (hk:∀h',Le h h'→κ (.int .i64 (iB (L.findIdx? F))) h'):CallW Tryz.prog 268 [v,fv] h κ:=
 pU mixed bO KB L F h v fv κ hv hlen hF hk
theorem nO (L:List R5) (F:R5→Bool) (h:Heap) (v fv:Value) (κ:KQ) (hv:Sl aZ h v L) (hlen:L.length≤1000000)
  (hF:∀p,p∈L→∀(h1:Heap) (κ1:Value→Heap→Prop),Le h h1→(∀h2,Le h1 h2→κ1 (.bool (F p)) h2)→ic Tryz.prog fv [jR p] h1 κ1)
  (hk:∀h',Le h h'→κ (.bool (L.any F)) h'):CallW Tryz.prog 321 [v,fv] h κ:=
 xH mixed bO KB XC L F h v fv κ hv hlen hF hk
abbrev sy (a h:Heap) (v:Value) (L:List R5):Prop:=fu aZ a 83 h v L
theorem Cu (L:List R5) (h:Heap) (v:Value) (κ:KQ) (hv:Sl aZ h v L) (hlen:L.length≤1000000) (hlo:h.lo≤h.nx) (hk:∀v' h',sy h h' v' L→Le h h'→κ v' h'):CallW Tryz.prog 139 [v] h κ:=
 RU mixed bO vz (by decide) (by decide) abA XD L h v κ hv hlen hlo hk
theorem Hu (a h:Heap) (L:List R5) (F:R5→Bool) (v fv:Value) (κ:KQ) (hle:Le a h) (ho:sy a h v L) (hlen:L.length≤100000) (hlo:a.lo≤a.nx)
  (hF:∀p,∀(h1:Heap) (κ1:Value→Heap→Prop),Le a h1→(h.nx≤h1.nx∧∀c,c<h.nx→h.bl.get c≠some (aa (L.flatMap aZ) 83 true)→h1.bl.get c=h.bl.get c)→(∀h2,Le h1 h2→κ1 (.bool (F p)) h2)→ic Tryz.prog fv [jR p] h1 κ1)
  (hk:∀v' h',Sl aZ h' v' (L.filter fun p=>!F p)→Cut 83 5 h' v' (L.filter fun p=>!F p).length→Le a h'→(h.nx≤h'.nx∧∀c,c<h.nx→h.bl.get c≠some (aa (L.flatMap aZ) 83 true)→h'.bl.get c=h.bl.get c)→uj 83 h' v'→κ v' h'):CallW Tryz.prog 315 [v,fv] h κ:=
 D9 mixed bO vz (by decide) rfl rfl (by decide) KB XE a h L F v fv κ hle ho hlen hlo hF hk
theorem MQ {h:Heap} {v:Value} {L:List R5} (hs:Sl aZ h v L) (i:Nat) {p:R5} (hp:L[i]? = some p) :
  ∃b o,b<h.nx∧(∀(β:Type) (fl:β) (h':Heap) (κ:Value→Heap→β),av fl 5 v (.int .i64 (i:Int)) h' κ=κ (.pointer (some ⟨b,o,none⟩)) h')∧
   ((∀(β:Type) (fl:β) (κ:List Value→β),Bb fl (h.bl.get b) o 5 κ=κ (aZ p))∧
   (∀(β:Type) (fl:β) (κ:Value→β),yc fl (h.bl.get b) o κ=κ (.int .i64 p.id))∧
   (∀(β:Type) (fl:β) (κ:Value→β),yc fl (h.bl.get b) (o+1) κ=κ (.int .i64 p.x))∧
   (∀(β:Type) (fl:β) (κ:Value→β),yc fl (h.bl.get b) (o+2) κ=κ (.int .i64 p.m))∧
   (∀(β:Type) (fl:β) (κ:Value→β),yc fl (h.bl.get b) (o+3) κ=κ (.int .i64 p.w))∧
   (∀(β:Type) (fl:β) (κ:Value→β),yc fl (h.bl.get b) (o+4) κ=κ (.int .i64 p.s))):=by
 obtain ⟨b,o,h1,h2,h3,hh⟩:=hs.ld bO i hp
 have h5:(aZ p).length=5:=rfl
 exact ⟨b,o,h1,h2,h3,fun β fl κ=>ga (fl:=fl) hh 0 κ (by omega),fun β fl κ=>ga (fl:=fl) hh 1 κ (by omega),fun β fl κ=>ga (fl:=fl) hh 2 κ (by omega),fun β fl κ=>ga (fl:=fl) hh 3 κ (by omega),fun β fl κ=>ga (fl:=fl) hh 4 κ (by omega)⟩
theorem uu (r:R5) {h:Heap} {κ:Value→Heap→Prop} (hk:κ (.bool (decide (r.m≠0))) h):CallW Tryz.prog 237 [jR r] h κ:=by
 refine gU (v:=.bool (decide (r.m≠0))) rfl rfl (aj mixed ?_) hk
 rw[SY]
 simp(disch:=first|omega|simp only[Wd]<;>omega|with_unfolding_all rfl)only[Wz,aZ]
 simp
theorem zO (r:R5) {h:Heap} {κ:Value→Heap→Prop} (hk:κ (.bool (decide (0<r.s))) h):CallW Tryz.prog 192 [jR r] h κ:=by
 refine gU (v:=.bool (decide (0<r.s))) rfl rfl (aj mixed ?_) hk
 rw[SI]
 simp(disch:=first|omega|simp only[Wd]<;>omega|with_unfolding_all rfl)only[Wz,aZ]
theorem wg (r:R5) {h:Heap} {κ:Value→Heap→Prop} (hk:κ (.bool (rN r)) h):CallW Tryz.prog 238 [jR r] h κ:=by
 refine gU (v:=.bool (rN r)) rfl rfl (aj mixed ?_) hk
 rw[SZ]
 simp(disch:=first|omega|simp only[Wd]<;>omega|with_unfolding_all rfl)only[Wz,aZ]
 refine uu r ?_
 by_cases h1:r.m=0
 ·simp(disch:=first|omega|simp only[Wd]<;>omega|with_unfolding_all rfl)only[Wz,a_ (show ¬r.m≠0 by omega)]
  simp[rN,h1]
 ·simp(disch:=first|omega|simp only[Wd]<;>omega|with_unfolding_all rfl)only[Wz,bf (show r.m≠0 from h1)]
  refine zO r ?_
  simp[rN,h1]
theorem Cv (m:Int) {h:Heap} {κ:Value→Heap→Prop} (hk:κ (.bool (bH m)) h):CallW Tryz.prog 320 [.int .i64 m] h κ:=by
 refine gU (v:=.bool (bH m)) rfl rfl (aj mixed ?_) hk
 rw[Tw]
 by_cases h0:m=0
 ·simp(disch:=first|omega|simp only[Wd]<;>omega|with_unfolding_all rfl)only[Wz,bf h0]
  simp[bH,h0]
 ·simp(disch:=first|omega|simp only[Wd]<;>omega|with_unfolding_all rfl)only[Wz,a_ h0]
  refine q9 m ?_
  simp[bH,h0]
def iC (t r:Int) (q:Value) (w:Int):Value:=.agg ⟨[.int .i64 t,.int .i64 r,q,.int .i64 w]⟩
theorem wj {h:Heap} {q:Value} {Q:List R5} (hq:Sl aZ h q Q):q.cells.toList=[q]∧d_ q=true:=by
 obtain ⟨x,cap,rfl,_⟩:=hq; exact ⟨rfl,rfl⟩
theorem KC (id:Int) (r:R5) (b:Nat) (h:Heap) (κ:KQ) (hlo:h.lo≤h.nx) (hb:b<h.nx) (hg:h.bl.get b=some (aa [.int .i64 id] 3 false)) (hk:∀h',Le h h'→κ (.bool (bg id r)) h') :
  CallW Tryz.prog 269 [jR r,ptrTo b] h κ:=by
 have hk:=hk _ ((Le.refl h).new (gG r))
 refine aj mixed ?_
 rw[Te]
 simp(disch:=first|omega|simp only[Wd]<;>omega|with_unfolding_all rfl)only[Wz,aZ,hg]
 exact hk
theorem q_ (t r:Int) (q:Value) (w id:Int) (Q:List R5) (h:Heap) (κ:KQ) (hq:Sl aZ h q Q) (hlen:Q.length≤1000000) (hlo:h.lo≤h.nx) (hk:∀h',Le h h'→κ (.int .i64 (iB (Q.findIdx? (bg id)))) h') :
  CallW Tryz.prog 236 [iC t r q w,.int .i64 id] h κ:=by
 obtain ⟨hc,ho⟩:=wj hq
 refine aj mixed ?_
 rw[SX]
 simp(disch:=first|omega|simp only[Wd]<;>omega|with_unfolding_all rfl)only[Wz,iC]
 obtain ⟨hA,eA⟩:∃hA:Heap,hA=⟨h.nx+1+1,(h.bl.aS h.nx (aa [.int .i64 t,.int .i64 r,q,.int .i64 w] 305 false)).aS (h.nx+1) (aa [.int .i64 id] 3 false),h.lo⟩:=⟨_,rfl⟩
 have oL:Le h hA:=by subst eA; exact ((Le.refl h).new _).new _
 have g3:hA.bl.get (h.nx+1)=some (aa [.int .i64 id] 3 false):=by subst eA; exact T.af _ _ _
 have nA:hA.nx=h.nx+1+1:=by subst eA; rfl
 have lA:hA.lo=h.lo:=by subst eA; rfl
 rw[←eA]
 clear eA
 refine v_ Q (bg id) hA q _ _ (hq.le oL) hlen ?_ fun h' hl=>hk h' (oL.trans hl)
 intro p hp h1 κ1 tu fQ
 have n1:=tu.nx
 have l1:=tu.lo
 simp(disch:=first|omega|simp only[Wd]<;>omega|with_unfolding_all rfl)only[Wz,List.nil_append,List.cons_append]
 exact KC id p (h.nx+1) h1 κ1 (by omega) (by omega) ((tu.get _ (by omega)).trans g3) fQ
def tw (r o:R5):Bool:=decide (o.id≠r.id) && decide (o.m≠0) && !cmp o.m r.w
theorem Oh (r o:R5) (b:Nat) (h:Heap) (κ:KQ) (hlo:h.lo≤h.nx) (hb:b<h.nx) (hg:h.bl.get b=some (gG r)) (hk:∀h',Le h h'→κ (.bool (tw r o)) h') :
  CallW Tryz.prog 334 [jR o,ptrTo b] h κ:=by
 have hk:=hk _ ((Le.refl h).new (gG o))
 refine aj mixed ?_
 rw[Tz]
 by_cases h1:o.id=r.id
 ·simp(disch:=first|omega|simp only[Wd]<;>omega|with_unfolding_all rfl)only[Wz,aZ,hg,bf h1]
  have e:tw r o=false:=by simp[tw,h1]
  rw[e] at hk; exact hk
 ·simp(disch:=first|omega|simp only[Wd]<;>omega|with_unfolding_all rfl)only[Wz,aZ,hg,a_ h1]
  refine uu o ?_
  by_cases h2:o.m=0
  ·simp(disch:=first|omega|simp only[Wd]<;>omega|with_unfolding_all rfl)only[Wz,a_ (show ¬o.m≠0 by omega)]
   have e:tw r o=false:=by simp[tw,h2]
   rw[e] at hk; exact hk
  ·simp(disch:=first|omega|simp only[Wd]<;>omega|with_unfolding_all rfl)only[Wz,bf (show o.m≠0 from h2),hg]
   refine Kz _ _ ?_
   simp(disch:=first|omega|simp only[Wd]<;>omega|with_unfolding_all rfl)only[Wz]
   have e:tw r o=!cmp o.m r.w:=by simp[tw,h1,h2]
   rw[e] at hk; exact hk
theorem zP (t r':Int) (q:Value) (w:Int) (r:R5) (Q:List R5) (h:Heap) (κ:KQ) (hq:Sl aZ h q Q) (hlen:Q.length≤1000000) (hlo:h.lo≤h.nx) (hk:∀h',Le h h'→κ (.bool (dU Q r)) h') :
  CallW Tryz.prog 317 [iC t r' q w,jR r] h κ:=by
 obtain ⟨hc,ho⟩:=wj hq
 refine aj mixed ?_
 rw[Tt]
 simp(disch:=first|omega|simp only[Wd]<;>omega|with_unfolding_all rfl)only[Wz,iC,aZ]
 obtain ⟨hA,eA⟩:∃hA:Heap,hA=⟨h.nx+1+1,(h.bl.aS h.nx (aa [.int .i64 t,.int .i64 r',q,.int .i64 w] 305 false)).aS (h.nx+1) (gG r),h.lo⟩:=⟨_,rfl⟩
 have oL:Le h hA:=by subst eA; exact ((Le.refl h).new _).new _
 have g3:hA.bl.get (h.nx+1)=some (gG r):=by subst eA; exact T.af _ _ _
 have nA:hA.nx=h.nx+1+1:=by subst eA; rfl
 have lA:hA.lo=h.lo:=by subst eA; rfl
 rw[←eA]
 clear eA
 refine nO Q (tw r) hA q _ _ (hq.le oL) hlen ?_ ?_
 ·intro p hp h1 κ1 tu fQ
  have n1:=tu.nx
  have l1:=tu.lo
  simp(disch:=first|omega|simp only[Wd]<;>omega|with_unfolding_all rfl)only[Wz,List.nil_append,List.cons_append]
  exact Oh r p (h.nx+1) h1 κ1 (by omega) (by omega) ((tu.get _ (by omega)).trans g3) fQ
 ·intro h' hl
  simp(disch:=first|omega|simp only[Wd]<;>omega|with_unfolding_all rfl)only[Wz]
  exact hk h' (oL.trans hl)
theorem KD (r:R5) {h:Heap} {κ:Value→Heap→Prop} (hk:κ (.bool (decide (r.m=0))) h):CallW Tryz.prog 335 [jR r] h κ:=by
 refine gU (v:=.bool (decide (r.m=0))) rfl rfl (aj mixed ?_) hk
 rw[TC]
 simp(disch:=first|omega|simp only[Wd]<;>omega|with_unfolding_all rfl)only[Wz,aZ]
 refine uu r ?_
 simp(disch:=first|omega|simp only[Wd]<;>omega|with_unfolding_all rfl)only[Wz]
 simp
theorem Cw (t r':Int) (q:Value) (w:Int) (Q:List R5) (h:Heap) (κ:KQ) (hq:Sl aZ h q Q) (hlen:Q.length≤1000000) (hlo:h.lo≤h.nx) (hk:∀h',Le h h'→κ (.int .i64 (iB (cC Q))) h') :
  CallW Tryz.prog 318 [iC t r' q w] h κ:=by
 obtain ⟨hc,ho⟩:=wj hq
 refine aj mixed ?_
 rw[Tu]
 simp(disch:=first|omega|simp only[Wd]<;>omega|with_unfolding_all rfl)only[Wz,iC]
 obtain ⟨hA,eA⟩:∃hA:Heap,hA=⟨h.nx+1,h.bl.aS h.nx (aa [.int .i64 t,.int .i64 r',q,.int .i64 w] 305 false),h.lo⟩:=⟨_,rfl⟩
 have oL:Le h hA:=by subst eA; exact (Le.refl h).new _
 have gA:hA.bl.get h.nx=some (aa [.int .i64 t,.int .i64 r',q,.int .i64 w] 305 false):=by subst eA; exact T.af _ _ _
 have nA:hA.nx=h.nx+1:=by subst eA; rfl
 have lA:hA.lo=h.lo:=by subst eA; rfl
 rw[←eA]
 clear eA
 simp(disch:=first|omega|simp only[Wd]<;>omega|with_unfolding_all rfl)only[Wz,hq.len]
 refine ⟨fun n l h1=>∃i:Nat,slot l 27=.int .i64 (i:Int)∧slot l 25=.int .i64 (iB (best Q i))∧i≤Q.length∧n=Q.length-i∧Le hA h1,⟨_,0,rfl,rfl,Nat.zero_le _,rfl,Le.refl _⟩,?_⟩
 rintro n l h1 ⟨i,s1,s2,hi,rfl,hle⟩
 have n1:=hle.nx
 have l1:=hle.lo
 have g1:=(hle.get h.nx (by omega)).trans gA
 have hq1:=hq.le (oL.trans hle)
 by_cases hlt:i<Q.length
 ·obtain ⟨p,hp⟩:∃p,Q[i]? = some p:=⟨_,List.getElem?_eq_getElem hlt⟩
  obtain ⟨b,o,hb,tf,nG⟩:=MQ hq1 i hp
  have F_:best Q (i+1)=if (rN p && qQ Q p (best Q i))=true then some i else best Q i:=by
   show (match Q[i]? with | some r=>_ | none=>_)=_
   rw[hp]
  simp(disch:=first|omega|simp only[Wd]<;>omega|with_unfolding_all rfl)only[Wz,s1,vZ]
  refine ⟨fun l' h'=>slot l' 24=.int .i64 (iB (best Q (i+1)))∧Le hA h',?_,?_⟩
  ·simp(disch:=first|omega|simp only[Wd]<;>omega|with_unfolding_all rfl)only[Wz,Cq,s1,s2,tf,nG,aZ]
   obtain ⟨hB,eB⟩:∃hB:Heap,hB=⟨h1.nx+1,h1.bl.aS h1.nx (gG p),h1.lo⟩:=⟨_,rfl⟩
   have wk:Le h1 hB:=by subst eB; exact (Le.refl h1).new _
   have gB:hB.bl.get h1.nx=some (gG p):=by subst eB; exact T.af _ _ _
   have gB1:=(wk.get h.nx (by omega)).trans g1
   have nB:hB.nx=h1.nx+1:=by subst eB; rfl
   have lB:hB.lo=h1.lo:=by subst eB; rfl
   rw[←eB]
   clear eB
   refine wg p ?_
   cases hu:rN p with
   | false=>
    simp(disch:=first|omega|simp only[Wd]<;>omega|with_unfolding_all rfl)only[Wz,s2]
    refine ⟨?_,hle.trans wk⟩
    rw[F_,hu]; simp[s2]
   | true=>
    cases tO:best Q i with
    | none=>
     simp(disch:=first|omega|simp only[Wd]<;>omega|with_unfolding_all rfl)only[Wz,s2,iB,fH (show (-1:Int)<0 by decide),tO]
     refine ⟨?_,hle.trans wk⟩
     rw[F_,hu,tO]; rfl
    | some k=>
     obtain ⟨Zl,pk,hpk,_⟩:=um Q i k tO
     obtain ⟨b',o',hb',abB,abC⟩:=MQ (hq1.le wk) k hpk
     have Qw:qQ Q p (some k)=decide (p.s<pk.s):=by simp only[qQ,hpk]
     simp(disch:=first|omega|simp only[Wd]<;>omega|with_unfolding_all rfl)only[Wz,s2,iB,cg (show (0:Int)≤(k:Int) by omega),tO,gB,gB1,abB,abC]
     by_cases hs:p.s<pk.s
     ·simp(disch:=first|omega|simp only[Wd]<;>omega|with_unfolding_all rfl)only[Wz,bf hs]
      refine ⟨?_,hle.trans wk⟩
      rw[F_,hu,tO,Qw,bf hs]; rfl
     ·simp(disch:=first|omega|simp only[Wd]<;>omega|with_unfolding_all rfl)only[Wz,a_ hs]
      refine ⟨?_,hle.trans wk⟩
      rw[F_,hu,tO,Qw,a_ hs]
      first | rfl | (rw[s2,tO]; rfl)
  ·rintro l' h' ⟨k1,k2⟩
   exact ⟨_,by omega,i+1,rfl,k1,by omega,rfl,k2⟩
 ·have hil:i=Q.length:=by omega
  subst hil
  simp(disch:=first|omega|simp only[Wd]<;>omega|with_unfolding_all rfl)only[Wz,s1,vZ]
  refine ⟨fun l' h'=>slot l' 6=.int .i64 (iB (cC Q))∧Le hA h',?_,?_⟩
  rotate_left
  ·rintro l' h' ⟨k1,k2⟩
   show κ (slot l' 6) h'
   rw[k1]; exact hk h' (oL.trans k2)
  cases tO:best Q Q.length with
  | some k=>
   have e:cC Q=some k:=by simp only[cC,tO]
   simp(disch:=first|omega|simp only[Wd]<;>omega|with_unfolding_all rfl)only[Wz,vY,s2,tO,iB,cg (show (0:Int)≤(k:Int) by omega)]
   refine ⟨?_,hle⟩
   rw[e]
  | none=>
   have e:cC Q=Q.findIdx? (fun r=>decide (r.m=0)):=by simp only[cC,tO]
   simp(disch:=first|omega|simp only[Wd]<;>omega|with_unfolding_all rfl)only[Wz,vY,s2,tO,iB,fH (show (-1:Int)<0 by decide),g1]
   refine v_ Q (fun r=>decide (r.m=0)) h1 q _ _ hq1 hlen ?_ ?_
   ·intro p hp h2 κ2 KE hk2
    simp(disch:=first|omega|simp only[Wd]<;>omega|with_unfolding_all rfl)only[Wz,List.nil_append,List.append_nil]
    exact KD p (hk2 h2 (Le.refl _))
   ·intro h' hl
    refine ⟨?_,hle.trans hl⟩
    rw[e]; rfl
end Go.Proofs

namespace Go.Vai
open Go
section
variable {α:Type} {s:Nat} {enc:α→List Value}
set_option maxRecDepth 20000 in
theorem iD {a h:Heap} {e:TypeId} {z:List Value} {v x:Value} {L M:List α} (he:∀a:α,(enc a).length=s) (hone:∀a:α,(enc a).all d_=true) (hs0:0<s) (hs1:s≤100) (ho:fu enc a e h v L) (hx:Sl enc h x M)
  (hle:Le a h) (hb:L.length+M.length≤1000000) (hal:h.lo≤h.nx) (κ:KQ)
  (hk:∀v' h',fu enc a e h' v' (L++M)→Le a h'→h'.nx≤h.nx+1→h.nx≤h'.nx→h'.lo=h.lo→(∀b,b<h.nx→h.bl.get b≠some (aa (L.flatMap enc) e true)→h'.bl.get b=h.bl.get b)→κ v' h'):bG False e s z false v x h κ:=by
 by_cases hM:M=[]
 ·subst hM
  rw[append_nil hx (by rcases ho with ⟨rfl,rfl | ⟨b,o,rfl⟩⟩ | ⟨b,rfl,_⟩<;>exact ⟨_,_,_,rfl⟩)]
  exact hk v h (by simpa using ho) hle (Nat.le_succ _) (Nat.le_refl _) rfl (fun _ _ _=>rfl)
 ·obtain ⟨m,hm⟩:∃m,M.length=m+1:=⟨M.length-1,by have:=List.length_pos_iff.2 hM; omega⟩
  have hfl:=br (enc:=enc) he
  have gj:=hx.first (β:=Prop) (fl:=False) he
  obtain ⟨y,cap,rfl,h2⟩:=hx
  have hml:∀K:List α,K.length≤1000000→(K.flatMap enc).length≤1000000000000:=fun K hK=>by
   rw[hfl]
   have:=Nat.mul_le_mul hK hs1
   omega
  have fresh:∀(hh:Heap) (ws:List Value),ws=(L++M).flatMap enc→Le a hh→hh.nx=h.nx→hh.lo=h.lo→(∀b,b<h.nx→h.bl.get b≠some (aa (L.flatMap enc) e true)→hh.bl.get b=h.bl.get b)→dI False ws e true hh fun b h'=>κ (.slice (some ⟨b,0,none⟩) (L.length+M.length) aD) h':=by
   intro hh ws hw PW Zh hlo hgt
   subst hw
   unfold dI
   rw[iz _ _ _ _ (hml _ (by simp; omega)),c6]
   refine hk _ _ (.inr ⟨hh.nx,by simp,PW.nx,Nat.lt_succ_self _,by show hh.lo≤_; omega,T.af _ _ _⟩) (PW.new _) (by show hh.nx+1≤_; omega) (by show h.nx≤hh.nx+1; omega) hlo (fun b hb hn=>(T.ah _ _ (by omega)).trans (hgt b hb hn))
  rcases ho with ⟨rfl,hv⟩ | ⟨b,rfl,h3,h4,h5,h6⟩
  ·have hF:=fresh h (M.flatMap enc) (by simp) hle rfl rfl (fun _ _ _=>rfl)
   simp only[List.length_nil,Nat.zero_add] at hF
   rcases hv with rfl | ⟨b,o,rfl⟩
   ·unfold bG kf
    simp only
    rw[gj]
    simp only[hm,bL]
    rw[show Nat.ble (Nat.add 0 (m+1)) 1000000000=true from Nat.ble_eq_true_of_le (by show 0+(m+1)≤_; omega)]
    rw[hm] at hF
    have e1:Nat.add 0 (m+1)=m+1:=by show 0+(m+1)=_; omega
    rw[e1]
    exact hF
   ·unfold bG kf
    simp only
    rw[gj]
    simp only[hm,bL]
    have e1:Nat.add 0 (m+1)=m+1:=by show 0+(m+1)=_; omega
    rw[e1,show Nat.ble (m+1) 1000000000=true from Nat.ble_eq_true_of_le (by omega)]
    rw[hm] at hF
    show e8 False h s 0 _ _
    rw[iO _ _ _ _ _ (by simp)]
    exact hF
  ·unfold bG kf
   simp only
   rw[gj]
   simp only[hm,bL]
   have e1:Nat.add L.length (m+1)=L.length+(m+1):=rfl
   rw[e1,show Nat.ble (L.length+(m+1)) 1000000000=true from Nat.ble_eq_true_of_le (by omega)]
   have e2:Nat.beq aD fR=false:=by decide
   have e3:Nat.beq aD aD=true:=Nat.beq_refl _
   simp only[e2,e3,h6]
   have e4:Nat.ble (Nat.add 0 (Nat.mul (L.length+(m+1)) s)) (L.flatMap enc).length=false:=by
    rw[hfl]
    cases RK:Nat.ble (Nat.add 0 (Nat.mul (L.length+(m+1)) s)) (L.length*s) with
    | false=>rfl
    | true=>
     have h7:0+(L.length+(m+1))*s≤L.length*s:=Nat.le_of_ble_eq_true RK
     rw[Nat.add_mul,Nat.succ_mul] at h7
     omega
   have e5:(M.flatMap enc).all d_=true:=by
    rw[List.all_flatMap]; simp only[List.all_eq_true]; intro x _; exact List.all_eq_true.1 (hone x)
   simp only[aa,Nat.beq_refl,e4,e5,Bool.and_self]
   have hh:Has (h.bl.get b) 0 (L.flatMap enc):=by rw[h6]; exact Has.all
   rw[me hh s L.length _ _ _ (hfl L).symm,bD _ _ _ _ h5]
   have hF:=fresh ⟨h.nx,h.bl.aS b (.dead (L.flatMap enc).length e),h.lo⟩ (L.flatMap enc++M.flatMap enc) (by simp) (hle.set h3 _) rfl rfl (fun b' _ hn=>T.ah _ _ (fun e=>hn (by rw[←e]; exact h6)))
   rw[hm] at hF
   exact hF
end
theorem aV {vs ws:List Value} {e e':TypeId}:(some (aa vs e false):Option bt)≠some (aa ws e' true):=by
 intro h
 unfold aa at h
 simp only[Option.some.injEq,bt.cells.injEq] at h
 exact absurd h.2.2.2 (by decide)
theorem aX {vs ws:List Value} {e e':TypeId} {p p':Bool} (hn:e≠e'):(some (aa vs e p):Option bt)≠some (aa ws e' p'):=by
 intro h
 unfold aa at h
 simp only[Option.some.injEq,bt.cells.injEq] at h
 exact hn h.2.2.1
theorem bu {es:List MapEntry} {c:Nat} {ws:List Value} {e:TypeId} {p:Bool}:(some (.map es c):Option bt)≠some (aa ws e p):=by
 intro h
 unfold aa at h
 cases h
end Go.Vai

namespace Go.Proofs
open Go.Vai Go.Clashes
theorem fu.base {α:Type} {enc:α→List Value} {a a' h:Heap} {e:TypeId} {v:Value} {L:List α} (ho:fu enc a e h v L) (hn:a'.nx≤a.nx):fu enc a' e h v L:=by
 rcases ho with ho | ⟨b,h0,h1,h2⟩
 ·exact .inl ho
 ·exact .inr ⟨b,h0,Nat.le_trans hn h1,h2⟩
theorem fu.same {α:Type} {enc:α→List Value} {a h h':Heap} {e:TypeId} {v:Value} {L:List α} (ho:fu enc a e h v L) (hn:h.nx≤h'.nx) (hl:h'.lo=h.lo) (hs:∀b,a.nx≤b→b<h.nx→h'.bl.get b=h.bl.get b):fu enc a e h' v L:=by
 rcases ho with ho | ⟨b,h0,h1,h2,h3,h4⟩
 ·exact .inl ho
 ·exact .inr ⟨b,h0,h1,Nat.lt_of_lt_of_le h2 hn,by rw[hl]; exact h3,by rw[hs b h1 h2]; exact h4⟩
theorem Cx (t r:Int) (q:Value) (w:Int) (Q:List R5) (h:Heap) (κ:KQ) (hq:Sl aZ h q Q) (hlen:Q.length≤1000000) (hlo:h.lo≤h.nx) (hk:∀q' h',sy h h' q' Q→Le h h'→κ (iC t r q' w) h') :
  CallW Tryz.prog 287 [iC t r q w] h κ:=by
 obtain ⟨qx,qc,rfl,_⟩:=id hq
 refine aj mixed ?_
 rw[Tf]
 simp(disch:=first|omega|simp only[Wd]<;>omega|with_unfolding_all rfl)only[Wz,iC]
 obtain ⟨hA,eA⟩:∃hA:Heap,hA=⟨h.nx+1+1,(h.bl.aS h.nx (aa [.int .i64 t,.int .i64 r,.slice qx Q.length qc,.int .i64 w] 81 false)).aS (h.nx+1) (aa [.int .i64 0,.int .i64 0,.slice none 0 0,.int .i64 0] 305 false),h.lo⟩:=⟨_,rfl⟩
 have oL:Le h hA:=by subst eA; exact ((Le.refl h).new _).new _
 have g1:hA.bl.get h.nx=some (aa [.int .i64 t,.int .i64 r,.slice qx Q.length qc,.int .i64 w] 81 false):=by subst eA; exact (T.ah _ _ (by omega)).trans (T.af _ _ _)
 have g3:hA.bl.get (h.nx+1)=some (aa [.int .i64 0,.int .i64 0,.slice none 0 0,.int .i64 0] 305 false):=by subst eA; exact T.af _ _ _
 have nA:hA.nx=h.nx+1+1:=by subst eA; rfl
 have lA:hA.lo=h.lo:=by subst eA; rfl
 rw[←eA]
 clear eA
 refine Cu Q hA _ _ (hq.le oL) hlen (by omega) ?_
 intro q' h2 w_ hle2
 have n2:=hle2.nx
 have l2:=hle2.lo
 have g12:=(hle2.get h.nx (by omega)).trans g1
 have g32:=(hle2.get (h.nx+1) (by omega)).trans g3
 have hle:=(oL.trans hle2)
 obtain ⟨XG,XH,rfl,_⟩:=id w_.sl
 simp(disch:=first|omega|simp only[Wd]<;>omega|with_unfolding_all rfl)only[Wz,g12,g32]
 refine hk _ _ ?_ ?_
 ·refine fu.base (fu.same w_ (Nat.le_refl _) rfl fun b h1 _=>?_) (by omega)
  exact (T.ah _ _ (by omega)).trans (T.ah _ _ (by omega))
 ·exact (hle.set (b:=h.nx) (Nat.le_refl _) _).set (b:=h.nx+1) (Nat.le_succ _) _
def nP (id x:Int) (r:R5):Bool:=decide (r.id=id) || decide (r.x=x)
theorem TL (id x:Int) (r:R5) (b3 b5:Nat) (h:Heap) (κ:KQ) (hlo:h.lo≤h.nx) (hb3:b3<h.nx) (hb5:b5<h.nx) (hg3:h.bl.get b3=some (aa [.int .i64 id] 3 false)) (hg5:h.bl.get b5=some (aa [.int .i64 x] 3 false))
  (hk:∀h',Le h h'→κ (.bool (nP id x r)) h'):CallW Tryz.prog 322 [jR r,ptrTo b3,ptrTo b5] h κ:=by
 have hk:=hk _ ((Le.refl h).new (gG r))
 refine aj mixed ?_
 rw[Tx]
 by_cases h1:r.id=id
 ·simp(disch:=first|omega|simp only[Wd]<;>omega|with_unfolding_all rfl)only[Wz,aZ,hg3,hg5,bf h1]
  have e:nP id x r=true:=by simp[nP,h1]
  rw[e] at hk; exact hk
 ·simp(disch:=first|omega|simp only[Wd]<;>omega|with_unfolding_all rfl)only[Wz,aZ,hg3,hg5,a_ h1]
  have e:nP id x r=decide (r.x=x):=by simp[nP,h1]
  rw[e] at hk; exact hk
theorem fu.put {α:Type} {enc:α→List Value} {a h:Heap} {e:TypeId} {v:Value} {L:List α} (ho:fu enc a e h v L) {c:Nat} (hc:h.bl.get c≠some (aa (L.flatMap enc) e true)) (o:bt):fu enc a e ⟨h.nx,h.bl.aS c o,h.lo⟩ v L:=by
 rcases ho with ho | ⟨b,h0,h1,h2,h3,h4⟩
 ·exact .inl ho
 ·refine .inr ⟨b,h0,h1,h2,h3,(T.ah _ _ ?_).trans h4⟩
  rintro rfl
  exact hc h4
theorem KF (t r:Int) (qx:Option Addr) (qc:Nat) (w:Int) (p:R5) (g:Bool) (xe Ht b7:Nat) (Q:List R5) (a h:Heap) (κ:KQ) (ho:sy a h (.slice qx Q.length qc) Q) (hle:Le a h) (hlen:Q.length≤100000) (hlo:h.lo≤h.nx)
  (abE:xe<h.nx) (agF:Ht<h.nx) (hb7:b7<h.nx) (hd:xe≠b7) (agG:h.lo≤xe) (hl7:h.lo≤b7)
  (XJ:h.bl.get xe=some (aa [.int .i64 t,.int .i64 r,.slice qx Q.length qc,.int .i64 w] 305 false)) (TM:h.bl.get Ht=some (gG p)) (g7:h.bl.get b7=some (aa [.int .i64 0,.int .i64 0,.slice none 0 0,.int .i64 0] 81 false))
  (hk:∀q' h',sy a h' q' (Q++[p])→(h.nx≤h'.nx∧h'.lo=h.lo∧∀b,b<a.nx→b≠xe→b≠b7→h'.bl.get b=a.bl.get b)→κ (.tuple ⟨[iC t r q' w,.bool g,.int .i64 0]⟩) h') :
  q8 xe Ht b7 (.bool g) h κ:=by
 simp(disch:=first|omega|simp only[Wd]<;>omega|with_unfolding_all rfl)only[Wz,q8,XJ,TM]
 have hle1:=(Le.refl h).new (gG p)
 refine iD (enc:=aZ) (a:=a) (L:=Q) (M:=[p]) bO vz (by decide) (by decide) (ho.le hle1) (Sl.new (L:=[p]) (e:=83) (op:=false) (Nat.lt_succ_self _) (T.af _ _ _) _) (hle.new _) (by simp; omega) (by show h.lo≤h.nx+1; omega) _ ?_
 intro v' h' ho' hle' y_ hn2 hl' hsame
 obtain ⟨XG,XH,rfl,_⟩:=(show Sl aZ h' v' (Q++[p]) from ho'.sl)
 have n1:h.nx+1≤h'.nx:=hn2
 have k1:∀b,b<h.nx→h.bl.get b≠some (aa (Q.flatMap aZ) 83 true)→h'.bl.get b=h.bl.get b:=by
  intro b hb hne
  have e:(h.bl.aS h.nx (gG p)).get b=h.bl.get b:=T.ah _ _ (by omega)
  exact (hsame b (Nat.lt_succ_of_lt hb) (fun k=>hne (by rw[←e]; exact k))).trans e
 have XK:=(k1 xe abE (by rw[XJ]; exact aV)).trans XJ
 have g7':=(k1 b7 hb7 (by rw[g7]; exact aV)).trans g7
 have KE:h'.lo=h.lo:=hl'
 simp(disch:=first|omega|simp only[Wd]<;>omega|with_unfolding_all rfl)only[Wz,XK,g7']
 refine hk _ _ ?_ ⟨by show h.nx≤h'.nx; omega,KE,?_⟩
 ·refine fu.put (fu.put ho' (by rw[XK]; exact aV) _) ?_ _
  show (h'.bl.aS xe _).get b7≠_
  rw[T.ah _ _ hd,g7']
  exact aV
 ·intro b hb h1 h2
  exact (T.ah _ _ (fun e=>h2 e.symm)).trans ((T.ah _ _ (fun e=>h1 e.symm)).trans (hle'.get b hb))
theorem XL (t r:Int) (q:Value) (w id x m:Int) (Q:List R5) (h:Heap) (κ:KQ) (hq:Sl aZ h q Q) (hlen:Q.length≤100000) (hlo:h.lo≤h.nx) (hw:0≤w∧w≤1000000) (hid:0≤id) (hm:bH m=true) (hn:∀p∈Q,p.id≠id∧p.x≠x)
  (hk:∀q' h',sy h h' q' (Q++[(dS Q w id x m).1])→Le h h'→κ (.tuple ⟨[iC t r q' (dS Q w id x m).2.1,.bool (dS Q w id x m).2.2,.int .i64 0]⟩) h') :
  CallW Tryz.prog 293 [iC t r q w,.int .i64 id,.int .i64 x,.int .i64 m] h κ:=by
 obtain ⟨qx,qc,rfl,_⟩:=(show Sl aZ h q Q from hq)
 refine aj mixed ?_
 rw[Tm]
 simp(disch:=first|omega|simp only[Wd]<;>omega|with_unfolding_all rfl)only[Wz,iC]
 obtain ⟨hA,eA⟩:∃hA:Heap,hA=⟨h.nx+1+1+1+1,(((h.bl.aS h.nx (aa [.int .i64 t,.int .i64 r,.slice qx Q.length qc,.int .i64 w] 81 false)).aS (h.nx+1) (aa [.int .i64 id] 3 false)).aS (h.nx+1+1) (aa [.int .i64 x] 3 false)).aS (h.nx+1+1+1) (aa [.int .i64 0,.int .i64 0,.slice none 0 0,.int .i64 0] 81 false),h.lo⟩:=⟨_,rfl⟩
 have oL:Le h hA:=by subst eA; exact ((((Le.refl h).new _).new _).new _).new _
 have g1:hA.bl.get h.nx=some (aa [.int .i64 t,.int .i64 r,.slice qx Q.length qc,.int .i64 w] 81 false):=by subst eA; exact (T.ah _ _ (by omega)).trans ((T.ah _ _ (by omega)).trans ((T.ah _ _ (by omega)).trans (T.af _ _ _)))
 have g3:hA.bl.get (h.nx+1)=some (aa [.int .i64 id] 3 false):=by subst eA; exact (T.ah _ _ (by omega)).trans ((T.ah _ _ (by omega)).trans (T.af _ _ _))
 have g5:hA.bl.get (h.nx+1+1)=some (aa [.int .i64 x] 3 false):=by subst eA; exact (T.ah _ _ (by omega)).trans (T.af _ _ _)
 have g7:hA.bl.get (h.nx+1+1+1)=some (aa [.int .i64 0,.int .i64 0,.slice none 0 0,.int .i64 0] 81 false):=by subst eA; exact T.af _ _ _
 have nA:hA.nx=h.nx+1+1+1+1:=by subst eA; rfl
 have lA:hA.lo=h.lo:=by subst eA; rfl
 rw[←eA]
 clear eA
 refine Cv m ?_
 rw[hm]
 simp(disch:=first|omega|simp only[Wd]<;>omega|with_unfolding_all rfl)only[Wz,Cm,g1,g3,g5]
 refine nO Q (nP id x) hA _ _ _ (hq.le oL) (by omega) ?_ ?_
 ·intro p hp h1 κ1 tu fQ
  have n1:=tu.nx
  have l1:=tu.lo
  simp(disch:=first|omega|simp only[Wd]<;>omega|with_unfolding_all rfl)only[Wz,List.nil_append,List.cons_append]
  exact TL id x p (h.nx+1) (h.nx+1+1) h1 κ1 (by omega) (by omega) (by omega) ((tu.get _ (by omega)).trans g3) ((tu.get _ (by omega)).trans g5) fQ
 intro h2 hle2
 have n2:=hle2.nx
 have l2:=hle2.lo
 have hno:Q.any (nP id x)=false:=by
  rw[List.any_eq_false]
  intro p hp
  simp[nP,(hn p hp).1,(hn p hp).2]
 rw[hno]
 have g12:=(hle2.get h.nx (by omega)).trans g1
 have g32:=(hle2.get (h.nx+1) (by omega)).trans g3
 have g52:=(hle2.get (h.nx+1+1) (by omega)).trans g5
 have g72:=(hle2.get (h.nx+1+1+1) (by omega)).trans g7
 simp(disch:=first|omega|simp only[Wd]<;>omega|with_unfolding_all rfl)only[Wz,Cl,g12]
 refine Cx t r _ w Q h2 _ (hq.le (oL.trans hle2)) (by omega) (by omega) ?_
 intro q3 h3 pJ dD
 have n3:=dD.nx
 have l3:=dD.lo
 obtain ⟨Cy,Cz,rfl,_⟩:=(show Sl aZ h3 q3 Q from pJ.sl)
 have g33:=(dD.get (h.nx+1) (by omega)).trans g32
 have g53:=(dD.get (h.nx+1+1) (by omega)).trans g52
 have g73:=(dD.get (h.nx+1+1+1) (by omega)).trans g72
 simp(disch:=first|omega|simp only[Wd]<;>omega|with_unfolding_all rfl)only[Wz,iC,g33,g53]
 obtain ⟨hB,eB⟩:∃hB:Heap,hB=⟨h3.nx+1+1,(h3.bl.aS h3.nx (aa [.int .i64 t,.int .i64 r,.slice Cy Q.length Cz,.int .i64 w] 305 false)).aS (h3.nx+1) (gG ⟨id,x,0,m,0⟩),h3.lo⟩:=⟨_,rfl⟩
 have wk:Le h3 hB:=by subst eB; exact ((Le.refl h3).new _).new _
 have XJ:hB.bl.get h3.nx=some (aa [.int .i64 t,.int .i64 r,.slice Cy Q.length Cz,.int .i64 w] 305 false):=by subst eB; exact (T.ah _ _ (by omega)).trans (T.af _ _ _)
 have TM:hB.bl.get (h3.nx+1)=some (gG ⟨id,x,0,m,0⟩):=by subst eB; exact T.af _ _ _
 have g7B:=(wk.get (h.nx+1+1+1) (by omega)).trans g73
 have nB:hB.nx=h3.nx+1+1:=by subst eB; rfl
 have lB:hB.lo=h3.lo:=by subst eB; rfl
 rw[←eB]
 clear eB
 have Hv:=pJ.le wk
 refine Cw t r _ w Q hB _ Hv.sl (by omega) (by omega) ?_
 intro h4 iT
 have n4:=iT.nx
 have l4:=iT.lo
 have hall:Le h h4:=(((oL.trans hle2).trans dD).trans wk).trans iT
 have Qx:Le h2 h4:=(dD.trans wk).trans iT
 have Oi:=(iT.get h3.nx (by omega)).trans XJ
 have Oj:=(iT.get (h3.nx+1) (by omega)).trans TM
 have g74:=(iT.get (h.nx+1+1+1) (by omega)).trans g7B
 have TN:=Hv.le iT
 have fin:∀(p:R5) (w':Int) (g:Bool) (h5:Heap),dS Q w id x m=(p,w',g)→sy h2 h5 (.slice Cy Q.length Cz) Q→Le h h5→Le h2 h5→h4.nx≤h5.nx→
   h5.bl.get h3.nx=some (aa [.int .i64 t,.int .i64 r,.slice Cy Q.length Cz,.int .i64 w'] 305 false)→h5.bl.get (h3.nx+1)=some (gG p)→h5.bl.get (h.nx+1+1+1)=some (aa [.int .i64 0,.int .i64 0,.slice none 0 0,.int .i64 0] 81 false)→
   q8 h3.nx (h3.nx+1) (h.nx+1+1+1) (.bool g) h5 κ:=by
  intro p w' g h5 he DC Vd abG n5 k1 k2 k3
  have l5:=Vd.lo
  refine KF t r Cy Cz w' p g _ _ _ Q h2 h5 κ DC abG (by omega) (by omega) (by omega) (by omega) (by omega) (by omega) (by omega) (by omega) k1 k2 k3 ?_
  intro q' h' ho' hfr
  obtain ⟨e1,e2,e3⟩:=hfr
  rw[he] at hk
  have nn:=Vd.nx
  refine hk q' h' (fu.base ho' (by omega)) ⟨by omega,by rw[e2]; exact Vd.lo,fun b hb=>?_⟩
  exact (e3 b (by omega) (by omega) (by omega)).trans ((oL.trans hle2).get b hb)
 have Ga:=hall
 cases hf:cC Q with
 | some i=>
  simp(disch:=first|omega|simp only[Wd]<;>omega|with_unfolding_all rfl)only[Wz,iB,cg (show (0:Int)≤(i:Int) by omega)]
  obtain ⟨hC,eC⟩:∃hC:Heap,hC=⟨h4.nx,(h4.bl.aS h3.nx (aa [.int .i64 t,.int .i64 r,.slice Cy Q.length Cz,.int .i64 (w+1)] 305 false)).aS (h3.nx+1) (gG ⟨id,x,0,m,w+1⟩),h4.lo⟩:=⟨_,rfl⟩
  refine ⟨fun l h'=>HQ hC h',?_,?_⟩
  ·simp(disch:=first|omega|simp only[Wd]<;>omega|with_unfolding_all rfl)only[Wz,vV,Oi,Oj]
   exact eC
  ·intro l h' E6
   cases (show hC=h' from E6)
   have nC:hC.nx=h4.nx:=by rw[eC]
   refine fin ⟨id,x,0,m,w+1⟩ (w+1) false hC ?_ ?_ ?_ ?_ (by omega) ?_ ?_ ?_
   ·unfold dS
    rw[if_neg]
    simp[hf]
   ·rw[eC]
    exact fu.put (fu.put TN (by rw[Oi]; exact aV) _) (by show (h4.bl.aS h3.nx _).get (h3.nx+1)≠_; rw[T.ah _ _ (by omega),Oj]; exact aV) _
   ·rw[eC]; exact (Ga.set (b:=h3.nx) (by omega) _).set (b:=h3.nx+1) (by omega) _
   ·rw[eC]; exact (Qx.set (b:=h3.nx) (by omega) _).set (b:=h3.nx+1) (by omega) _
   ·rw[eC]; exact (T.ah _ _ (by omega)).trans (T.af _ _ _)
   ·rw[eC]; exact T.af _ _ _
   ·rw[eC]; exact ((T.ah _ _ (by omega)).trans (T.ah _ _ (by omega))).trans g74
 | none=>
  simp(disch:=first|omega|simp only[Wd]<;>omega|with_unfolding_all rfl)only[Wz,iB,fH (show (-1:Int)<0 by decide),Oi,Oj]
  refine zP t r _ w ⟨id,x,0,m,0⟩ Q h4 _ TN.sl (by omega) (by omega) ?_
  intro h5 jr
  have n5:=jr.nx
  have l5:=jr.lo
  have TO:=(jr.get h3.nx (by omega)).trans Oi
  have Ol:=(jr.get (h3.nx+1) (by omega)).trans Oj
  have g75:=(jr.get (h.nx+1+1+1) (by omega)).trans g74
  have DC:=TN.le jr
  have CA:=hall.trans jr
  have Qy:=Qx.trans jr
  cases hfit:dU Q ⟨id,x,0,m,0⟩ with
  | false=>
   simp(disch:=first|omega|simp only[Wd]<;>omega|with_unfolding_all rfl)only[Wz]
   obtain ⟨hC,eC⟩:∃hC:Heap,hC=⟨h5.nx,(h5.bl.aS h3.nx (aa [.int .i64 t,.int .i64 r,.slice Cy Q.length Cz,.int .i64 (w+1)] 305 false)).aS (h3.nx+1) (gG ⟨id,x,0,m,w+1⟩),h5.lo⟩:=⟨_,rfl⟩
   refine ⟨fun l h'=>HQ hC h',?_,?_⟩
   ·simp(disch:=first|omega|simp only[Wd]<;>omega|with_unfolding_all rfl)only[Wz,vV,TO,Ol]
    exact eC
   ·intro l h' E6
    cases (show hC=h' from E6)
    have nC:hC.nx=h5.nx:=by rw[eC]
    refine fin ⟨id,x,0,m,w+1⟩ (w+1) false hC ?_ ?_ ?_ ?_ (by omega) ?_ ?_ ?_
    ·unfold dS
     rw[if_neg]
     simp[hf,hfit]
    ·rw[eC]
     exact fu.put (fu.put DC (by rw[TO]; exact aV) _) (by show (h5.bl.aS h3.nx _).get (h3.nx+1)≠_; rw[T.ah _ _ (by omega),Ol]; exact aV) _
    ·rw[eC]; exact (CA.set (b:=h3.nx) (by omega) _).set (b:=h3.nx+1) (by omega) _
    ·rw[eC]; exact (Qy.set (b:=h3.nx) (by omega) _).set (b:=h3.nx+1) (by omega) _
    ·rw[eC]; exact (T.ah _ _ (by omega)).trans (T.af _ _ _)
    ·rw[eC]; exact T.af _ _ _
    ·rw[eC]; exact ((T.ah _ _ (by omega)).trans (T.ah _ _ (by omega))).trans g75
  | true=>
   simp(disch:=first|omega|simp only[Wd]<;>omega|with_unfolding_all rfl)only[Wz]
   obtain ⟨hC,eC⟩:∃hC:Heap,hC=⟨h5.nx,h5.bl.aS (h3.nx+1) (gG ⟨id,x,m,m,0⟩),h5.lo⟩:=⟨_,rfl⟩
   refine ⟨fun l h'=>HQ hC h',?_,?_⟩
   ·simp(disch:=first|omega|simp only[Wd]<;>omega|with_unfolding_all rfl)only[Wz,Ol]
    exact eC
   ·intro l h' E6
    cases (show hC=h' from E6)
    have nC:hC.nx=h5.nx:=by rw[eC]
    refine fin ⟨id,x,m,m,0⟩ w true hC ?_ ?_ ?_ ?_ (by omega) ?_ ?_ ?_
    ·unfold dS
     rw[if_pos]
     simp[hf,hfit]
    ·rw[eC]
     exact fu.put DC (by rw[Ol]; exact aV) _
    ·rw[eC]; exact CA.set (b:=h3.nx+1) (by omega) _
    ·rw[eC]; exact Qy.set (b:=h3.nx+1) (by omega) _
    ·rw[eC]; exact (T.ah _ _ (by omega)).trans TO
    ·rw[eC]; exact T.af _ _ _
    ·rw[eC]; exact (T.ah _ _ (by omega)).trans g75
end Go.Proofs

namespace Go.Vai
open Go
section
variable {α:Type} {s:Nat} {enc:α→List Value}
theorem KG (A E C ws:List Value) (j:Nat) (h:j+ws.length≤E.length):over (A++E++C) (A.length+j) ws=A++over E j ws++C:=by
 unfold over
 have e1:(A++E++C).take (A.length+j)=A++E.take j:=by
  rw[List.append_assoc,List.take_append,List.take_of_length_le (by omega),show A.length+j-A.length=j by omega,List.take_append_of_le_length (by omega)]
 have e2:(A++E++C).drop (A.length+j+ws.length)=E.drop (j+ws.length)++C:=by
  rw[List.append_assoc,List.drop_append,List.drop_of_length_le (by omega),List.nil_append,show A.length+j+ws.length-A.length=j+ws.length by omega,List.drop_append_of_le_length h]
 rw[e1,e2]
 simp only[List.append_assoc]
theorem fJ (he:∀a:α,(enc a).length=s) {K:List α} {i j:Nat} {p p':α} {ws:List Value} (hp:K[i]? = some p) (hj:j+ws.length≤s) (hw:over (enc p) j ws=enc p'):over (K.flatMap enc) (i*s+j) ws=(K.set i p').flatMap enc:=by
 obtain ⟨hi,rfl⟩:=List.getElem?_eq_some_iff.1 hp
 have e1:K.flatMap enc=(K.take i).flatMap enc++enc K[i]++(K.drop (i+1)).flatMap enc:=by
  have e0:K=K.take i++(K[i]::K.drop (i+1)):=by rw[List.getElem_cons_drop,List.take_append_drop]
  have:=congrArg (List.flatMap enc) e0
  rw[List.flatMap_append,List.flatMap_cons] at this
  rw[List.append_assoc]; exact this
 have e2:(K.set i p').flatMap enc=(K.take i).flatMap enc++enc p'++(K.drop (i+1)).flatMap enc:=by
  rw[List.set_eq_take_append_cons_drop,if_pos hi]
  simp[List.flatMap_append]
 have hl:((K.take i).flatMap enc).length=i*s:=by rw[br he,List.length_take,Nat.min_eq_left (by omega)]
 rw[e1,e2,←hl,KG _ _ _ _ _ (by rw[he]; exact hj),hw]
theorem gF (he:∀a:α,(enc a).length=s) {K:List α} {i j:Nat} {p:α} (hp:K[i]? = some p) (hj:j<s):(K.flatMap enc)[i*s+j]? = (enc p)[j]?:=by
 obtain ⟨hi,rfl⟩:=List.getElem?_eq_some_iff.1 hp
 have:=zq he K i hi
 have e:((((K.flatMap enc).drop (i*s)).take s)[j]?)=(enc K[i])[j]?:=by rw[this]
 rw[List.getElem?_take_of_lt hj,List.getElem?_drop] at e
 exact e
end
end Go.Vai

namespace Go.Proofs
open Go.Vai Go.Clashes
noncomputable abbrev gV (t r:Int) (q:Value) (w:Int):bt:=aa [.int .i64 t,.int .i64 r,q,.int .i64 w] 305 false
noncomputable abbrev cL (t r:Int) (q:Value) (w:Int):bt:=aa [.int .i64 t,.int .i64 r,q,.int .i64 w] 81 false
noncomputable abbrev ji:bt:=aa [.int .i64 0,.int .i64 0,.slice none 0 0,.int .i64 0] 81 false
theorem Ei (id:Int) (r:R5) (b:Nat) (h:Heap) (κ:KQ) (hlo:h.lo≤h.nx) (hb:b<h.nx) (hg:h.bl.get b=some (aa [.int .i64 id] 3 false)) (hk:∀h',Le h h'→κ (.bool (bg id r)) h') :
  CallW Tryz.prog 316 [jR r,ptrTo b] h κ:=by
 have hk:=hk _ ((Le.refl h).new (gG r))
 refine aj mixed ?_
 rw[Tr]
 simp(disch:=first|omega|simp only[Wd]<;>omega|with_unfolding_all rfl)only[Wz,aZ,hg]
 exact hk
theorem yx (t r:Int) (q:Value) (w id:Int) (Q:List R5) (a h:Heap) (κ:KQ) (ho:sy a h q Q) (hle:Le a h) (hlen:Q.length≤100000) (hlo:a.lo≤a.nx)
  (hk:∀q' h',Sl aZ h' q' (Q.filter fun r=>!bg id r)→uj 83 h' q'→Le a h'→κ (iC t r q' w) h') :
  CallW Tryz.prog 288 [iC t r q w,.int .i64 id] h κ:=by
 obtain ⟨qx,qc,rfl,_⟩:=(show Sl aZ h q Q from ho.sl)
 have n_0:=hle.nx
 have l_0:=hle.lo
 refine aj mixed ?_
 rw[Tg]
 simp(disch:=first|omega|simp only[Wd]<;>omega|with_unfolding_all rfl)only[Wz,iC]
 obtain ⟨hA,aK⟩:∃hA:Heap,hA=⟨h.nx+1+1+1,(((h.bl.aS (h.nx) (gV t r (.slice qx Q.length qc) w)).aS (h.nx+1) (aa [.int .i64 id] 3 false)).aS (h.nx+1+1) (ji)),h.lo⟩:=⟨_,rfl⟩
 have aO:Le h hA:=by subst aK; exact ((((Le.refl h).new _).new _).new _)
 have g1:hA.bl.get (h.nx)=some (gV t r (.slice qx Q.length qc) w):=by subst aK; exact (T.ah _ _ (by omega)).trans ((T.ah _ _ (by omega)).trans (T.af _ _ _))
 have g3:hA.bl.get (h.nx+1)=some (aa [.int .i64 id] 3 false):=by subst aK; exact (T.ah _ _ (by omega)).trans (T.af _ _ _)
 have g5:hA.bl.get (h.nx+1+1)=some (ji):=by subst aK; exact T.af _ _ _
 have gH:hA.nx=h.nx+1+1+1:=by subst aK; rfl
 have gI:hA.lo=h.lo:=by subst aK; rfl
 rw[←aK]
 clear aK
 refine Hu a hA Q (bg id) _ _ _ (hle.trans aO) (ho.le aO) hlen hlo ?_ ?_
 ·intro p h1 κ1 tu hfr fQ
  have n1:=hfr.1
  have l1:=tu.lo
  have g3:=(hfr.2 (h.nx+1) (by omega) (by rw[g3]; exact aV)).trans g3
  simp(disch:=first|omega|simp only[Wd]<;>omega|with_unfolding_all rfl)only[Wz,List.nil_append,List.cons_append]
  exact Ei id p (h.nx+1) h1 κ1 (by omega) (by omega) g3 fQ
 ·intro q' h2 hs2 _ hle2 hfr ht
  have n2:=hfr.1
  have l2:=hle2.lo
  have g1:=(hfr.2 h.nx (by omega) (by rw[g1]; exact aV)).trans g1
  have g5:=(hfr.2 (h.nx+1+1) (by omega) (by rw[g5]; exact aV)).trans g5
  obtain ⟨XG,XH,rfl,_⟩:=(show Sl aZ h2 q' _ from hs2)
  simp(disch:=first|omega|simp only[Wd]<;>omega|with_unfolding_all rfl)only[Wz,g1,g5]
  have Ve:∀vs op,h2.bl.get h.nx≠some (aa vs 83 op):=fun vs op=>by rw[g1]; exact aX (by decide)
  have hs3:=hs2.put ht Ve (gV t r (.slice XG (Q.filter fun r=>!bg id r).length XH) w)
  have ht3:=ht.put Ve (gV t r (.slice XG (Q.filter fun r=>!bg id r).length XH) w)
  have hd2:∀vs op,(h2.bl.aS h.nx (gV t r (.slice XG (Q.filter fun r=>!bg id r).length XH) w)).get (h.nx+1+1)≠some (aa vs 83 op):=fun vs op=>by rw[T.ah _ _ (by omega),g5]; exact aX (by decide)
  refine hk _ _ (hs3.put ht3 hd2 _) (ht3.put hd2 _) ((hle2.set (b:=h.nx) (by omega) _).set (b:=h.nx+1+1) (by omega) _)
def QV (h:Heap) (q:Value) (Q:List R5):Prop:=Sl aZ h q Q∧uj 83 h q
theorem QV.le {h h':Heap} {q:Value} {Q:List R5} (v:QV h q Q) (l:Le h h'):QV h' q Q:=⟨v.1.le l,v.2.le l⟩
theorem QV.put {h:Heap} {q:Value} {Q:List R5} (v:QV h q Q) {d:Nat} (hd:∀vs op,h.bl.get d≠some (aa vs 83 op)) (o:bt):QV ⟨h.nx,h.bl.aS d o,h.lo⟩ q Q:=⟨v.1.put v.2 hd o,v.2.put hd o⟩
theorem QV.own {a h:Heap} {q:Value} {Q:List R5} (ho:sy a h q Q):QV h q Q:=⟨ho.sl,uj.own ho⟩
theorem kF (Q:List R5) (id:Int):(Q.findIdx? (bg id)=none∧bE Q id=none)∨∃(i:Nat) (r:R5),Q.findIdx? (bg id)=some i∧Q[i]? = some r∧r.id=id∧bE Q id=some r:=by
 rcases mo Q (bg id) with ⟨e,h⟩ | ⟨i,p,e,hp,h1,h2⟩
 ·refine .inl ⟨e,?_⟩
  unfold bE
  rw[List.find?_eq_none]
  intro x hx; rw[h x hx]; simp
 ·refine .inr ⟨i,p,e,hp,by simpa[bg] using h1,?_⟩
  unfold bE
  rw[List.find?_eq_some_iff_getElem]
  obtain ⟨hi,rfl⟩:=List.getElem?_eq_some_iff.1 hp
  exact ⟨h1,i,hi,rfl,fun j hj=>by rw[h2 j _ hj (List.getElem?_eq_getElem (by omega))]; rfl⟩
theorem Om (t r:Int) (q:Value) (w id:Int) (Q:List R5) (h:Heap) (κ:KQ) (hq:Sl aZ h q Q) (hlen:Q.length≤100000) (hlo:h.lo≤h.nx) (hf:bE Q id≠none)
  (hk:∀q' h',QV h' q' (Q.filter fun r=>!bg id r)→Le h h'→κ (.tuple ⟨[iC t r q' w,.int .i64 0]⟩) h') :
  CallW Tryz.prog 319 [iC t r q w,.int .i64 id] h κ:=by
 obtain ⟨qx,qc,rfl,_⟩:=(show Sl aZ h q Q from hq)
 refine aj mixed ?_
 rw[Tv]
 simp(disch:=first|omega|simp only[Wd]<;>omega|with_unfolding_all rfl)only[Wz,iC]
 obtain ⟨hA,aK⟩:∃hA:Heap,hA=⟨h.nx+1+1,((h.bl.aS (h.nx) (cL t r (.slice qx Q.length qc) w)).aS (h.nx+1) (ji)),h.lo⟩:=⟨_,rfl⟩
 have aO:Le h hA:=by subst aK; exact (((Le.refl h).new _).new _)
 have g1:hA.bl.get (h.nx)=some (cL t r (.slice qx Q.length qc) w):=by subst aK; exact (T.ah _ _ (by omega)).trans (T.af _ _ _)
 have g3:hA.bl.get (h.nx+1)=some (ji):=by subst aK; exact T.af _ _ _
 have gH:hA.nx=h.nx+1+1:=by subst aK; rfl
 have gI:hA.lo=h.lo:=by subst aK; rfl
 rw[←aK]
 clear aK
 have g3A:=g3
 refine Cx t r _ w Q hA _ (hq.le aO) (by omega) (by omega) ?_
 intro q2 h2 w_ hle2
 have zQ:=hle2.nx
 have zS:=hle2.lo
 have g1:=(hle2.get _ (by omega)).trans g1
 have g3:=(hle2.get _ (by omega)).trans g3
 obtain ⟨mQ,mR,rfl,_⟩:=(show Sl aZ h2 q2 Q from w_.sl)
 simp(disch:=first|omega|simp only[Wd]<;>omega|with_unfolding_all rfl)only[Wz,iC]
 obtain ⟨hB,cI⟩:∃hB:Heap,hB=⟨h2.nx+1,(h2.bl.aS (h2.nx) (gV t r (.slice mQ Q.length mR) w)),h2.lo⟩:=⟨_,rfl⟩
 have cw:Le h2 hB:=by subst cI; exact ((Le.refl h2).new _)
 have g7:hB.bl.get (h2.nx)=some (gV t r (.slice mQ Q.length mR) w):=by subst cI; exact T.af _ _ _
 have Ej:hB.nx=h2.nx+1:=by subst cI; rfl
 have Ek:hB.lo=h2.lo:=by subst cI; rfl
 rw[←cI]
 clear cI
 have uv:=cw.nx
 have uw:=cw.lo
 have g1:=(cw.get _ (by omega)).trans g1
 have g3:=(cw.get _ (by omega)).trans g3
 have Hv:=w_.le cw
 refine q_ t r _ w id Q hB _ Hv.sl (by omega) (by omega) ?_
 intro h3 dD
 have KH:=dD.nx
 have KI:=dD.lo
 have g1:=(dD.get _ (by omega)).trans g1
 have g3:=(dD.get _ (by omega)).trans g3
 have g7:=(dD.get _ (by omega)).trans g7
 have pJ:=Hv.le dD
 rcases kF Q id with ⟨_,e⟩ | ⟨i,p,e,hp,TP,_⟩
 ·exact absurd e hf
 rw[e]
 simp(disch:=first|omega|simp only[Wd]<;>omega|with_unfolding_all rfl)only[Wz,iB,cg (show (0:Int)≤(i:Int) by omega),g7]
 have KJ:Le hA h3:=(hle2.trans cw).trans dD
 refine yx t r _ w id Q hA h3 _ pJ KJ hlen (by omega) ?_
 intro q4 h4 hs4 ht4 iT
 have KK:=iT.nx
 have KM:=iT.lo
 have g3:=(iT.get _ (by omega)).trans g3A
 obtain ⟨qx4,qc4,rfl,_⟩:=(show Sl aZ h4 q4 _ from hs4)
 simp(disch:=first|omega|simp only[Wd]<;>omega|with_unfolding_all rfl)only[Wz,iC,g3]
 exact hk _ _ (QV.put ⟨hs4,ht4⟩ (fun vs op=>by rw[g3]; exact aX (by decide)) _) ((aO.trans iT).set (b:=h.nx+1) (by omega) _)
theorem QV.blk {h:Heap} {b n:Nat} {L:List R5} (hb:b<h.nx) (hg:h.bl.get b=some (aa (L.flatMap aZ) 83 true)) (hn:n=L.length):QV h (.slice (some ⟨b,0,none⟩) n aD) L:=by
 subst hn
 refine ⟨Sl.new hb hg _,fun b' o' n' c' hv _=>?_⟩
 cases hv
 exact ⟨hb,_,_,hg⟩
def cT (n:Int):List Value:=[.int .i64 n]
theorem dz (n:Int):(cT n).length=1:=rfl
theorem p_ (n:Int):(cT n).all d_=true:=rfl
abbrev qa (a h:Heap) (v:Value) (L:List Int):Prop:=fu cT a 3 h v L
theorem CB {Q:List R5} {W:Int} (v:VQ Q W) {i:Nat} {r:R5} (hf:cC Q=some i) (hr:Q[i]? = some r) (hfit:dU Q r=true) :
  cE (eV Q+1) Q=((cE (eV (Q.set i (c_ r))+1) (Q.set i (c_ r))).1,r.id::(cE (eV (Q.set i (c_ r))+1) (Q.set i (c_ r))).2):=by
 have hc:=pX hr (iR v hf hr)
 conv=>lhs; unfold cE
 simp only[hf,hr,hfit,if_true]
 rw[hc]
theorem KN {Q:List R5} (h:kT Q):cE (eV Q+1) Q=(Q,[]):=pY h _
theorem qb {Q:List R5} (h:cC Q=none):kT Q:=fun i r e=>by rw[h] at e; cases e
theorem El {Q:List R5} {i:Nat} {r:R5} (h:cC Q=some i) (hr:Q[i]? = some r) (hf:dU Q r=false):kT Q:=fun j q e hq=>by
 rw[h] at e; cases e; rw[hr] at hq; cases hq; exact hf
set_option maxHeartbeats 2000000 in
theorem TQ (t r:Int) (q:Value) (w:Int) (Q:List R5) (h:Heap) (κ:KQ) (hq:Sl aZ h q Q) (hlen:Q.length≤100000) (hlo:h.lo≤h.nx) (vq:VQ Q w)
  (hk:∀q' v' h',QV h' q' (cE (eV Q+1) Q).1→qa h h' v' (cE (eV Q+1) Q).2→Le h h'→κ (.tuple ⟨[iC t r q' w,v']⟩) h') :
  CallW Tryz.prog 289 [iC t r q w] h κ:=by
 obtain ⟨qx,qc,rfl,_⟩:=(show Sl aZ h q Q from hq)
 refine aj mixed ?_
 rw[Th]
 simp(disch:=first|omega|simp only[Wd]<;>omega|with_unfolding_all rfl)only[Wz,iC]
 obtain ⟨hA,aK⟩:∃hA:Heap,hA=⟨h.nx+1+1,((h.bl.aS (h.nx) (cL t r (.slice qx Q.length qc) w)).aS (h.nx+1) (ji)),h.lo⟩:=⟨_,rfl⟩
 have aO:Le h hA:=by subst aK; exact (((Le.refl h).new _).new _)
 have g1:hA.bl.get (h.nx)=some (cL t r (.slice qx Q.length qc) w):=by subst aK; exact (T.ah _ _ (by omega)).trans (T.af _ _ _)
 have g3:hA.bl.get (h.nx+1)=some (ji):=by subst aK; exact T.af _ _ _
 have gH:hA.nx=h.nx+1+1:=by subst aK; rfl
 have gI:hA.lo=h.lo:=by subst aK; rfl
 rw[←aK]
 clear aK
 refine Cx t r _ w Q hA _ (hq.le aO) (by omega) (by omega) ?_
 intro q2 h2 w_ hle2
 have zQ:=hle2.nx
 have zS:=hle2.lo
 have g3:=(hle2.get _ (by omega)).trans g3
 obtain ⟨mQ,mR,rfl,_⟩:=(show Sl aZ h2 q2 Q from w_.sl)
 simp(disch:=first|omega|simp only[Wd]<;>omega|with_unfolding_all rfl)only[Wz,iC]
 obtain ⟨hB,cI⟩:∃hB:Heap,hB=⟨h2.nx+1,(h2.bl.aS (h2.nx) (gV t r (.slice mQ Q.length mR) w)),h2.lo⟩:=⟨_,rfl⟩
 have cw:Le h2 hB:=by subst cI; exact ((Le.refl h2).new _)
 have g7:hB.bl.get (h2.nx)=some (gV t r (.slice mQ Q.length mR) w):=by subst cI; exact T.af _ _ _
 have Ej:hB.nx=h2.nx+1:=by subst cI; rfl
 have Ek:hB.lo=h2.lo:=by subst cI; rfl
 rw[←cI]
 clear cI
 have uv:=cw.nx
 have uw:=cw.lo
 have g3:=(cw.get _ (by omega)).trans g3
 have Hv:=w_.le cw
 have XM:Le h hB:=(aO.trans hle2).trans cw
 refine ⟨fun n l h1=>∃(K:List R5) (ids:List Int),VQ K w∧n=eV K+1∧cE (eV Q+1) Q=((cE (eV K+1) K).1,ids++(cE (eV K+1) K).2)∧K.length=Q.length∧ids.length+eV K≤eV Q∧
   qa h h1 (slot l 49) ids∧(sy hA h1 (.slice mQ K.length mR) K)∧h1.bl.get (h.nx+1)=some ji∧h1.bl.get h2.nx=some (gV t r (.slice mQ Q.length mR) w)∧Le h h1∧hB.nx≤h1.nx,
  ⟨_,Q,[],vq,rfl,by simp,rfl,by simp,.inl ⟨rfl,.inl rfl⟩,Hv,g3,g7,XM,Nat.le_refl _⟩,?_⟩
 rintro n l h3 ⟨K,ids,vk,rfl,hsc,On,Y9,hoI,Vf,g3,g7,dD,n3⟩
 have l3:=dD.lo
 obtain ⟨vi,ei⟩:∃vi,slot l 49=vi:=⟨_,rfl⟩
 rw[ei] at hoI
 rw[On] at Vf
 have hcK:eV K≤K.length:=List.length_filter_le _ _
 have hcQ:eV Q≤Q.length:=List.length_filter_le _ _
 simp(disch:=first|omega|simp only[Wd]<;>omega|with_unfolding_all rfl)only[Wz,Ch,g7]
 refine Cw t r _ w K h3 _ Vf.sl (by omega) (by omega) ?_
 intro h4 iT
 have KK:=iT.nx
 have KM:=iT.lo
 have g3:=(iT.get _ (by omega)).trans g3
 have g7:=(iT.get _ (by omega)).trans g7
 have Oo:=Vf.le iT
 have XN:=hoI.le iT
 have Ga:=dD.trans iT
 have finish:∀h',h4.nx≤h'.nx→Le h h'→qa h h' vi ids→sy hA h' (.slice mQ Q.length mR) K→h'.bl.get (h.nx+1)=some ji→kT K→κ (.tuple ⟨[.agg ⟨[.int .i64 t,.int .i64 r,.slice mQ Q.length mR,.int .i64 w]⟩,vi]⟩) ⟨h'.nx,h'.bl.aS (h.nx+1) (cL t r (.slice mQ Q.length mR) w),h'.lo⟩:=by
  intro h' hn hl hi hr hg hst
  rw[KN hst] at hsc
  rw[hsc,List.append_nil] at hk
  exact hk _ _ _ (QV.put (QV.own hr) (fun vs op=>by rw[hg]; exact aX (by decide)) _) (fu.put hi (by rw[hg]; exact aV) _) (hl.set (b:=h.nx+1) (by omega) _)
 cases hf:cC K with
 | none=>
  simp(disch:=first|omega|simp only[Wd]<;>omega|with_unfolding_all rfl)only[Wz,iB,fH (show (-1:Int)<0 by decide),g7,g3,ei]
  exact finish h4 (Nat.le_refl _) Ga XN Oo g3 (qb hf)
 | some i=>
  obtain ⟨p,hp,_⟩:=pV hf
  obtain ⟨b,o,hb,tf,nG⟩:=MQ Oo.sl i hp
  simp(disch:=first|omega|simp only[Wd]<;>omega|with_unfolding_all rfl)only[Wz,iB,cg (show (0:Int)≤(i:Int) by omega),g7,tf,nG,List.append_nil,List.cons_append,List.nil_append]
  refine zP t r _ w p K h4 _ Oo.sl (by omega) (by omega) ?_
  intro h5 jr
  have abK:=jr.nx
  have abL:=jr.lo
  have g3:=(jr.get _ (by omega)).trans g3
  have g7:=(jr.get _ (by omega)).trans g7
  have XP:=Oo.le jr
  have XQ:=XN.le jr
  have CA:=Ga.trans jr
  cases hfit:dU K p with
  | false=>
   simp(disch:=first|omega|simp only[Wd]<;>omega|with_unfolding_all rfl)only[Wz,g7,g3,ei]
   exact finish h5 (by omega) CA XQ XP g3 (El hf hp hfit)
  | true=>
   rcases XP with ⟨rfl,_⟩ | ⟨bo,e1,k1,k2,k3,k4⟩
   ·simp at hp
   rw[On] at e1
   cases e1
   have hil:i<K.length:=(List.getElem?_eq_some_iff.1 hp).1
   have hfl:=br (enc:=aZ) bO K
   have XR:((K.set i ⟨p.id,p.x,p.w,p.w,p.s⟩).flatMap aZ).length=K.length*5:=by rw[br bO,List.length_set]
   have JO:=fJ (p':=⟨p.id,p.x,p.w,p.w,p.s⟩) (ws:=[.int .i64 p.w]) (j:=2) bO hp (by show 2+1≤5; omega) rfl
   have hp2:(K.set i ⟨p.id,p.x,p.w,p.w,p.s⟩)[i]? = some ⟨p.id,p.x,p.w,p.w,p.s⟩:=by rw[List.getElem?_set,if_pos rfl,if_pos hil]
   have wo:=fJ (p':=c_ p) (ws:=[.int .i64 0]) (j:=4) bO hp2 (by show 4+1≤5; omega) rfl
   rw[List.set_set] at wo
   have Oq:bo≠h2.nx:=by rintro rfl; rw[g7] at k4; exact aV k4
   have Em:bo≠h.nx+1:=by rintro rfl; rw[g3] at k4; exact aV k4
   have VL:(K.set i (c_ p)).length=K.length:=List.length_set
   rw[On] at VL
   have I6:(K.set i (c_ p))[i]? = some (c_ p):=by rw[List.getElem?_set,if_pos rfl,if_pos hil]
   have r3:=gF (j:=3) bO hp (by decide)
   have r0:=gF (j:=0) bO I6 (by decide)
   have r3:(K.flatMap aZ)[i*5+3]? = some (.int .i64 p.w):=r3
   have r0:((K.set i (c_ p)).flatMap aZ)[i*5]? = some (.int .i64 p.id):=r0
   simp(disch:=first|omega|simp only[Wd]<;>omega|with_unfolding_all rfl)only[Wz,Cg,g7,aN,k4,JO,wo,ei,r3,r0]
   obtain ⟨hC,eC⟩:∃hC:Heap,hC=⟨h5.nx,h5.bl.aS bo (aa ((K.set i (c_ p)).flatMap aZ) 83 true),h5.lo⟩:=⟨_,rfl⟩
   have Ot:Le h hC:=by subst eC; exact CA.set (b:=bo) (by omega) _
   have nC:hC.nx=h5.nx:=by rw[eC]
   have lC:hC.lo=h5.lo:=by rw[eC]
   have gC:hC.bl.get bo=some (aa ((K.set i (c_ p)).flatMap aZ) 83 true):=by subst eC; exact T.af _ _ _
   have Zw:hC.bl.get (h.nx+1)=some ji:=by subst eC; exact (T.ah _ _ Em).trans g3
   have g7C:hC.bl.get h2.nx=some (gV t r (.slice (some ⟨bo,0,none⟩) Q.length aD) w):=by subst eC; exact (T.ah _ _ Oq).trans g7
   have Zx:qa h hC vi ids:=by subst eC; exact fu.put XQ (by rw[k4]; exact aX (by decide)) _
   have e2:(⟨h5.nx+1,(h5.bl.aS bo (aa ((K.set i (c_ p)).flatMap aZ) 83 true)).aS h5.nx (aa [.int .i64 p.id] 3 false),h5.lo⟩:Heap)=⟨hC.nx+1,hC.bl.aS hC.nx (aa [.int .i64 p.id] 3 false),hC.lo⟩:=by rw[eC]
   rw[e2,show h5.nx=hC.nx from nC.symm]
   have hle1:=(Le.refl hC).new (aa [.int .i64 p.id] 3 false)
   have vk2:=vk.JW hf hp hfit
   have hcg:=pX hp (iR vk hf hp)
   refine iD (enc:=cT) (a:=h) (L:=ids) (M:=[p.id]) dz p_ (by decide) (by decide) (Zx.le hle1) (Sl.new (L:=[p.id]) (e:=3) (op:=false) (Nat.lt_succ_self _) (T.af _ _ _) _) (Ot.new _) (by simp; omega) (by show hC.lo≤hC.nx+1; omega) _ ?_
   intro v' h6 IA CC y_ hn2 XS hsame
   have n6:hC.nx+1≤h6.nx:=hn2
   have keep:∀c o',c<hC.nx→hC.bl.get c=some o'→some o'≠some (aa (ids.flatMap cT) 3 true)→h6.bl.get c=some o':=by
    intro c o' hc hg hne
    have e:(hC.bl.aS hC.nx (aa [.int .i64 p.id] 3 false)).get c=hC.bl.get c:=T.ah _ _ (by omega)
    exact (hsame c (Nat.lt_succ_of_lt hc) (fun k=>hne (by rw[←hg,←e]; exact k))).trans (e.trans hg)
   have agR:h6.lo=hC.lo:=XS
   refine ⟨_,by omega,K.set i (c_ p),ids++[p.id],vk2,rfl,?_,by simpa using On,by simp; omega,IA,?_,?_,?_,CC,by omega⟩
   ·rw[hsc,CB vk hf hp hfit]
    simp
   ·refine .inr ⟨bo,rfl,by omega,by omega,by omega,keep bo _ (by omega) gC (aX (by decide))⟩
   ·exact keep _ _ (by omega) Zw (aX (by decide))
   ·exact keep _ _ (by omega) g7C (aX (by decide))
theorem Hw (t r:Int) (q:Value) (w id:Int) (Q:List R5) (h:Heap) (κ:KQ) (hq:Sl aZ h q Q) (hlen:Q.length≤100000) (hlo:h.lo≤h.nx) (hp:Q.Pairwise vA) {i:Nat} {p:R5} (hi:Q[i]? = some p) (hid:p.id=id)
  (fQ:¬0<p.s→∀h',Le h h'→κ (.tuple ⟨[iC 0 0 (.slice none 0 0) 0,.int .i64 7]⟩) h')
  (hk2:0<p.s→p.m=0→∀q' h',QV h' q' (Q.filter fun r=>!bg id r)→Le h h'→κ (.tuple ⟨[iC t r q' w,.int .i64 0]⟩) h')
  (MH:0<p.s→p.m≠0→∀q' h',QV h' q' (Q.set i (mI p))→Le h h'→κ (.tuple ⟨[iC t r q' w,.int .i64 0]⟩) h') :
  CallW Tryz.prog 245 [iC t r q w,.int .i64 id] h κ:=by
 obtain ⟨qx,qc,rfl,_⟩:=(show Sl aZ h q Q from hq)
 refine aj mixed ?_
 rw[S2]
 simp(disch:=first|omega|simp only[Wd]<;>omega|with_unfolding_all rfl)only[Wz,iC]
 obtain ⟨hA,aK⟩:∃hA:Heap,hA=⟨h.nx+1+1,((h.bl.aS (h.nx) (cL t r (.slice qx Q.length qc) w)).aS (h.nx+1) (ji)),h.lo⟩:=⟨_,rfl⟩
 have aO:Le h hA:=by subst aK; exact (((Le.refl h).new _).new _)
 have g1:hA.bl.get (h.nx)=some (cL t r (.slice qx Q.length qc) w):=by subst aK; exact (T.ah _ _ (by omega)).trans (T.af _ _ _)
 have g3:hA.bl.get (h.nx+1)=some (ji):=by subst aK; exact T.af _ _ _
 have gH:hA.nx=h.nx+1+1:=by subst aK; rfl
 have gI:hA.lo=h.lo:=by subst aK; rfl
 rw[←aK]
 clear aK
 have g3A:=g3
 refine Cx t r _ w Q hA _ (hq.le aO) (by omega) (by omega) ?_
 intro q2 h2 w_ hle2
 have zQ:=hle2.nx
 have zS:=hle2.lo
 have g3:=(hle2.get _ (by omega)).trans g3
 obtain ⟨mQ,mR,rfl,_⟩:=(show Sl aZ h2 q2 Q from w_.sl)
 simp(disch:=first|omega|simp only[Wd]<;>omega|with_unfolding_all rfl)only[Wz,iC]
 obtain ⟨hB,cI⟩:∃hB:Heap,hB=⟨h2.nx+1,(h2.bl.aS (h2.nx) (gV t r (.slice mQ Q.length mR) w)),h2.lo⟩:=⟨_,rfl⟩
 have cw:Le h2 hB:=by subst cI; exact ((Le.refl h2).new _)
 have g7:hB.bl.get (h2.nx)=some (gV t r (.slice mQ Q.length mR) w):=by subst cI; exact T.af _ _ _
 have Ej:hB.nx=h2.nx+1:=by subst cI; rfl
 have Ek:hB.lo=h2.lo:=by subst cI; rfl
 rw[←cI]
 clear cI
 have uv:=cw.nx
 have uw:=cw.lo
 have g3:=(cw.get _ (by omega)).trans g3
 have Hv:=w_.le cw
 refine q_ t r _ w id Q hB _ Hv.sl (by omega) (by omega) ?_
 intro h3 dD
 have KH:=dD.nx
 have KI:=dD.lo
 have g3:=(dD.get _ (by omega)).trans g3
 have g7:=(dD.get _ (by omega)).trans g7
 have pJ:=Hv.le dD
 have qO:Le h h3:=((aO.trans hle2).trans cw).trans dD
 rcases kF Q id with ⟨_,e⟩ | ⟨j,p',e,hj,hjd,_⟩
 ·exact absurd hid (pZ e p (List.mem_of_getElem? hi))
 have hij:j=i:=JV hp hj hi (by rw[hjd,hid])
 subst hij
 rw[hi] at hj; cases hj
 rw[e]
 obtain ⟨b,o,hb,tf,nG⟩:=MQ pJ.sl j hi
 simp(disch:=first|omega|simp only[Wd]<;>omega|with_unfolding_all rfl)only[Wz,iB,cg (show (0:Int)≤(j:Int) by omega),B1,g7,tf,nG]
 refine zO p ?_
 by_cases hs:0<p.s
 case neg=>
  simp(disch:=first|omega|simp only[Wd]<;>omega|with_unfolding_all rfl)only[Wz,a_ hs,g3]
  exact fQ hs _ (qO.set (b:=h.nx+1) (by omega) _)
 simp(disch:=first|omega|simp only[Wd]<;>omega|with_unfolding_all rfl)only[Wz,bf hs,B0,g7,tf,nG]
 refine uu p ?_
 by_cases hm:p.m=0
 ·simp(disch:=first|omega|simp only[Wd]<;>omega|with_unfolding_all rfl)only[Wz,a_ (show ¬p.m≠0 by omega),g7]
  have KJ:Le hA h3:=(hle2.trans cw).trans dD
  refine yx t r _ w id Q hA h3 _ pJ KJ hlen (by omega) ?_
  intro q4 h4 hs4 ht4 iT
  have KK:=iT.nx
  have KM:=iT.lo
  have g3:=(iT.get _ (by omega)).trans g3A
  obtain ⟨qx4,qc4,rfl,_⟩:=(show Sl aZ h4 q4 _ from hs4)
  simp(disch:=first|omega|simp only[Wd]<;>omega|with_unfolding_all rfl)only[Wz,iC,g3]
  exact hk2 hs hm _ _ (QV.put ⟨hs4,ht4⟩ (fun vs op=>by rw[g3]; exact aX (by decide)) _) ((aO.trans iT).set (b:=h.nx+1) (by omega) _)
 ·rcases pJ with ⟨rfl,_⟩ | ⟨bo,e1,k1,k2,k3,k4⟩
  ·simp at hi
  cases e1
  have hjl:j<Q.length:=(List.getElem?_eq_some_iff.1 hi).1
  have hfl:=br (enc:=aZ) bO Q
  have XR:((Q.set j ⟨p.id,p.x,p.m,p.m,p.s⟩).flatMap aZ).length=Q.length*5:=by rw[br bO,List.length_set]
  have JO:=fJ (p':=⟨p.id,p.x,p.m,p.m,p.s⟩) (ws:=[.int .i64 p.m]) (j:=3) bO hi (by show 3+1≤5; omega) rfl
  have hp2:(Q.set j ⟨p.id,p.x,p.m,p.m,p.s⟩)[j]? = some ⟨p.id,p.x,p.m,p.m,p.s⟩:=by rw[List.getElem?_set,if_pos rfl,if_pos hjl]
  have wo:=fJ (p':=mI p) (ws:=[.int .i64 0]) (j:=4) bO hp2 (by show 4+1≤5; omega) rfl
  rw[List.set_set] at wo
  have Oq:bo≠h2.nx:=by rintro rfl; rw[g7] at k4; exact aV k4
  have Em:bo≠h.nx+1:=by rintro rfl; rw[g3] at k4; exact aV k4
  have r2:=gF (j:=2) bO hi (by decide)
  have r2:(Q.flatMap aZ)[j*5+2]? = some (.int .i64 p.m):=r2
  simp(disch:=first|omega|simp only[Wd]<;>omega|with_unfolding_all rfl)only[Wz,bf (show p.m≠0 from hm),BZ,g7,g3,aN,k4,JO,wo,r2]
  refine MH hs hm _ _ (QV.blk (by show bo<h3.nx; omega) ((T.ah _ _ (fun e=>Em e.symm)).trans (T.af _ _ _)) (by simp)) ((qO.set (b:=bo) (by omega) _).set (b:=h.nx+1) (by omega) _)
theorem ux (t r:Int) (q:Value) (w id:Int) (Q:List R5) (h:Heap) (κ:KQ) (hq:Sl aZ h q Q) (hlen:Q.length≤100000) (hlo:h.lo≤h.nx)
  (hk:∀h',Le h h'→κ (match bE Q id with | some p=>.tuple ⟨[jR p,.bool true]⟩ | none=>.tuple ⟨[jR ⟨0,0,0,0,0⟩,.bool false]⟩) h') :
  CallW Tryz.prog 191 [iC t r q w,.int .i64 id] h κ:=by
 obtain ⟨qx,qc,rfl,_⟩:=(show Sl aZ h q Q from hq)
 refine aj mixed ?_
 rw[SH]
 simp(disch:=first|omega|simp only[Wd]<;>omega|with_unfolding_all rfl)only[Wz,iC]
 obtain ⟨hA,aK⟩:∃hA:Heap,hA=⟨h.nx+1+1,((h.bl.aS (h.nx) (cL t r (.slice qx Q.length qc) w)).aS (h.nx+1) (gG ⟨0,0,0,0,0⟩)),h.lo⟩:=⟨_,rfl⟩
 have aO:Le h hA:=by subst aK; exact (((Le.refl h).new _).new _)
 have g1:hA.bl.get (h.nx)=some (cL t r (.slice qx Q.length qc) w):=by subst aK; exact (T.ah _ _ (by omega)).trans (T.af _ _ _)
 have g3:hA.bl.get (h.nx+1)=some (gG ⟨0,0,0,0,0⟩):=by subst aK; exact T.af _ _ _
 have gH:hA.nx=h.nx+1+1:=by subst aK; rfl
 have gI:hA.lo=h.lo:=by subst aK; rfl
 rw[←aK]
 clear aK
 refine q_ t r _ w id Q hA _ (hq.le aO) (by omega) (by omega) ?_
 intro h2 hle2
 have zQ:=hle2.nx
 have zS:=hle2.lo
 have g1:=(hle2.get _ (by omega)).trans g1
 have g3:=(hle2.get _ (by omega)).trans g3
 rcases kF Q id with ⟨e,e2⟩ | ⟨i,p,e,hi,hjd,e2⟩
 ·rw[e]
  simp(disch:=first|omega|simp only[Wd]<;>omega|with_unfolding_all rfl)only[Wz,iB,fH (show (-1:Int)<0 by decide),g3]
  rw[e2] at hk
  exact hk _ ((aO.trans hle2).set (b:=h.nx+1) (by omega) _)
 ·rw[e]
  obtain ⟨b,o,hb,tf,nG⟩:=MQ (hq.le (aO.trans hle2)) i hi
  simp(disch:=first|omega|simp only[Wd]<;>omega|with_unfolding_all rfl)only[Wz,iB,cg (show (0:Int)≤(i:Int) by omega),g1,g3,tf,nG,aZ]
  rw[e2] at hk
  exact hk _ ((aO.trans hle2).set (b:=h.nx+1) (by omega) _)
theorem KO {Q:List R5} {i:Nat} {p p1:R5} (hi:Q[i]? = some p) (hid:p.id=p1.id):dU (Q.set i p1) p1=dU Q p1:=by
 rw[Bool.eq_iff_iff,lG,lG]
 constructor
 ·intro h o ho h1 h2
  obtain ⟨k,hk⟩:=List.getElem?_of_mem ho
  have hki:i≠k:=by rintro rfl; rw[hi] at hk; cases hk; exact h1 hid
  exact h o (List.mem_of_getElem? (i:=k) (by rw[List.getElem?_set,if_neg hki]; exact hk)) h1 h2
 ·intro h o ho h1 h2
  rcases mem_set ho with rfl | ho
  ·exact absurd rfl h1
  ·exact h o ho h1 h2
theorem Ou {Q:List R5} {i:Nat} {p p1:R5} (hi:Q[i]? = some p) (hu:rN p1=rN p):(Q.set i p1).any rN=Q.any rN:=by
 rw[Bool.eq_iff_iff,List.any_eq_true,List.any_eq_true]
 have hil:=(List.getElem?_eq_some_iff.1 hi).1
 constructor
 ·rintro ⟨o,ho,h⟩
  rcases mem_set ho with rfl | ho
  ·exact ⟨p,List.mem_of_getElem? hi,by rw[←hu]; exact h⟩
  ·exact ⟨o,ho,h⟩
 ·rintro ⟨o,ho,h⟩
  obtain ⟨k,hk⟩:=List.getElem?_of_mem ho
  by_cases hki:i=k
  ·subst hki
   rw[hi] at hk; cases hk
   exact ⟨p1,List.mem_of_getElem? (i:=i) (by rw[List.getElem?_set,if_pos rfl,if_pos hil]),by rw[hu]; exact h⟩
  ·exact ⟨o,List.mem_of_getElem? (i:=k) (by rw[List.getElem?_set,if_neg hki]; exact hk),h⟩
theorem ax {β:Type} {fl:β} (b o:Nat) (h:Heap) (κ:Value→Heap→β):aM fl (.pointer (some ⟨b,o,none⟩)) h κ=κ (.pointer (some ⟨b,o,none⟩)) h:=id rfl
set_option maxHeartbeats 2000000 in
theorem wq (t r:Int) (q:Value) (w id m:Int) (Q:List R5) (h:Heap) (κ:KQ) (hq:Sl aZ h q Q) (hlen:Q.length≤100000) (hlo:h.lo≤h.nx) (hw:0≤w∧w≤1000000)
  (j7:bH m=false→∀h',Le h h'→κ (.tuple ⟨[iC 0 0 (.slice none 0 0) 0,.bool false,.int .i64 2]⟩) h')
  (fQ:bH m=true→bE Q id=none→∀h',Le h h'→κ (.tuple ⟨[iC 0 0 (.slice none 0 0) 0,.bool false,.int .i64 5]⟩) h')
  (hk2:bH m=true→∀p,bE Q id=some p→0<p.s→∀h',Le h h'→κ (.tuple ⟨[iC 0 0 (.slice none 0 0) 0,.bool false,.int .i64 7]⟩) h')
  (MH:bH m=true→∀i p,Q[i]? = some p→bE Q id=some p→¬0<p.s→∀q' h',QV h' q' (Q.set i (h_ Q w p m).1)→Le h h'→κ (.tuple ⟨[iC t r q' (h_ Q w p m).2.1,.bool (h_ Q w p m).2.2,.int .i64 0]⟩) h') :
  CallW Tryz.prog 294 [iC t r q w,.int .i64 id,.int .i64 m] h κ:=by
 obtain ⟨qx,qc,rfl,_⟩:=(show Sl aZ h q Q from hq)
 refine aj mixed ?_
 rw[To]
 simp(disch:=first|omega|simp only[Wd]<;>omega|with_unfolding_all rfl)only[Wz,iC]
 obtain ⟨hA,aK⟩:∃hA:Heap,hA=⟨h.nx+1+1,((h.bl.aS (h.nx) (cL t r (.slice qx Q.length qc) w)).aS (h.nx+1) (ji)),h.lo⟩:=⟨_,rfl⟩
 have aO:Le h hA:=by subst aK; exact (((Le.refl h).new _).new _)
 have g1:hA.bl.get (h.nx)=some (cL t r (.slice qx Q.length qc) w):=by subst aK; exact (T.ah _ _ (by omega)).trans (T.af _ _ _)
 have g3:hA.bl.get (h.nx+1)=some (ji):=by subst aK; exact T.af _ _ _
 have gH:hA.nx=h.nx+1+1:=by subst aK; rfl
 have gI:hA.lo=h.lo:=by subst aK; rfl
 rw[←aK]
 clear aK
 refine Cv m ?_
 cases ha:bH m with
 | false=>
  simp(disch:=first|omega|simp only[Wd]<;>omega|with_unfolding_all rfl)only[Wz,g3]
  exact j7 ha _ (aO.set (b:=h.nx+1) (by omega) _)
 | true=>
 simp(disch:=first|omega|simp only[Wd]<;>omega|with_unfolding_all rfl)only[Wz,Cp,g1]
 refine Cx t r _ w Q hA _ (hq.le aO) (by omega) (by omega) ?_
 intro q2 h2 w_ hle2
 have zQ:=hle2.nx
 have zS:=hle2.lo
 have g3:=(hle2.get _ (by omega)).trans g3
 obtain ⟨mQ,mR,rfl,_⟩:=(show Sl aZ h2 q2 Q from w_.sl)
 simp(disch:=first|omega|simp only[Wd]<;>omega|with_unfolding_all rfl)only[Wz,iC]
 obtain ⟨hB,cI⟩:∃hB:Heap,hB=⟨h2.nx+1,(h2.bl.aS (h2.nx) (gV t r (.slice mQ Q.length mR) w)),h2.lo⟩:=⟨_,rfl⟩
 have cw:Le h2 hB:=by subst cI; exact ((Le.refl h2).new _)
 have g12:hB.bl.get (h2.nx)=some (gV t r (.slice mQ Q.length mR) w):=by subst cI; exact T.af _ _ _
 have Ej:hB.nx=h2.nx+1:=by subst cI; rfl
 have Ek:hB.lo=h2.lo:=by subst cI; rfl
 rw[←cI]
 clear cI
 have uv:=cw.nx
 have uw:=cw.lo
 have g3:=(cw.get _ (by omega)).trans g3
 have Hv:=w_.le cw
 refine q_ t r _ w id Q hB _ Hv.sl (by omega) (by omega) ?_
 intro h3 dD
 have KH:=dD.nx
 have KI:=dD.lo
 have g3:=(dD.get _ (by omega)).trans g3
 have g12:=(dD.get _ (by omega)).trans g12
 have pJ:=Hv.le dD
 have qO:Le h h3:=((aO.trans hle2).trans cw).trans dD
 rcases kF Q id with ⟨e,e2⟩ | ⟨i,p,e,hi,hjd,e2⟩
 ·rw[e]
  simp(disch:=first|omega|simp only[Wd]<;>omega|with_unfolding_all rfl)only[Wz,iB,fH (show (-1:Int)<0 by decide),g3]
  exact fQ ha e2 _ (qO.set (b:=h.nx+1) (by omega) _)
 rw[e]
 obtain ⟨b,o,hb,tf,nG⟩:=MQ pJ.sl i hi
 simp(disch:=first|omega|simp only[Wd]<;>omega|with_unfolding_all rfl)only[Wz,iB,cg (show (0:Int)≤(i:Int) by omega),Co,g12,tf,nG]
 refine zO p ?_
 by_cases hs:0<p.s
 ·simp(disch:=first|omega|simp only[Wd]<;>omega|with_unfolding_all rfl)only[Wz,bf hs,g3]
  exact hk2 ha p e2 hs _ (qO.set (b:=h.nx+1) (by omega) _)
 rcases pJ with ⟨rfl,_⟩ | ⟨bo,e1,k1,k2,k3,k4⟩
 ·simp at hi
 cases e1
 have hil:i<Q.length:=(List.getElem?_eq_some_iff.1 hi).1
 obtain ⟨wt,Ov⟩:∃wt,cV p.m m=wt:=⟨_,rfl⟩
 have hfl:=br (enc:=aZ) bO Q
 have r2:(Q.flatMap aZ)[i*5+2]? = some (.int .i64 p.m):=gF (j:=2) bO hi (by decide)
 have JO:=fJ (p':=⟨p.id,p.x,p.m,wt,p.s⟩) (ws:=[.int .i64 wt]) (j:=3) bO hi (by show 3+1≤5; omega) rfl
 obtain ⟨p1,Qz⟩:∃p1:R5,p1=⟨p.id,p.x,p.m,wt,p.s⟩:=⟨_,rfl⟩
 rw[←Qz] at JO
 have hp2:(Q.set i p1)[i]? = some p1:=by rw[List.getElem?_set,if_pos rfl,if_pos hil]
 have XR:((Q.set i p1).flatMap aZ).length=Q.length*5:=by rw[br bO,List.length_set]
 have s2:((Q.set i p1).flatMap aZ)[i*5+2]? = some (.int .i64 p.m):=by rw[gF (j:=2) bO hp2 (by decide),Qz]; rfl
 have s3:((Q.set i p1).flatMap aZ)[i*5+3]? = some (.int .i64 wt):=by rw[gF (j:=3) bO hp2 (by decide),Qz]; rfl
 have Oq:bo≠h2.nx:=by rintro rfl; rw[g12] at k4; exact aV k4
 have Em:bo≠h.nx+1:=by rintro rfl; rw[g3] at k4; exact aV k4
 simp(disch:=first|omega|simp only[Wd]<;>omega|with_unfolding_all rfl)only[Wz,a_ hs,Cn,g12,aN,ax,k4,r2]
 refine KA _ _ ?_
 rw[Ov]
 simp(disch:=first|omega|simp only[Wd]<;>omega|with_unfolding_all rfl)only[Wz,ax,k4,JO,s2,s3]
 obtain ⟨hC,eC⟩:∃hC:Heap,hC=⟨h3.nx,h3.bl.aS bo (aa ((Q.set i p1).flatMap aZ) 83 true),h3.lo⟩:=⟨_,rfl⟩
 have Ot:Le h hC:=by subst eC; exact qO.set (b:=bo) (by omega) _
 have nC:hC.nx=h3.nx:=by rw[eC]
 have lC:hC.lo=h3.lo:=by rw[eC]
 have gC:hC.bl.get bo=some (aa ((Q.set i p1).flatMap aZ) 83 true):=by subst eC; exact T.af _ _ _
 have Zw:hC.bl.get (h.nx+1)=some ji:=by subst eC; exact (T.ah _ _ Em).trans g3
 have TT:hC.bl.get h2.nx=some (gV t r (.slice (some ⟨bo,0,none⟩) Q.length aD) w):=by subst eC; exact (T.ah _ _ Oq).trans g12
 rw[←eC]
 have Zx:sy hA hC (.slice (some ⟨bo,0,none⟩) Q.length aD) (Q.set i p1):=.inr ⟨bo,by rw[List.length_set],k1,by omega,by omega,gC⟩
 have QA:p.id=p1.id:=by rw[Qz]
 have eup:rN p1=rN p:=by rw[Qz]; rfl
 have abN:=KO hi QA
 have abO:=Ou hi eup
 have XT:∀(g:Bool) (hD:Heap),hD.bl.get bo=some (aa ((Q.set i p1).flatMap aZ) 83 true)→hD.bl.get (h.nx+1)=some ji→hD.bl.get h2.nx=some (gV t r (.slice (some ⟨bo,0,none⟩) Q.length aD) w)→Le h hD→hC.nx≤hD.nx→
   h_ Q w p m=(⟨p.id,p.x,wt,wt,p.s⟩,w,true)→
   dw (fun MP=>vW (.pointer (some ⟨bo,i*5,none⟩)) MP (.bool true) hD) fun l76 h_14=>
    Bb False (h_14.bl.get h2.nx) 0 4 fun l=>Nl False (h_14.bl.get (h.nx+1)) 4 (h.nx+1) 0 l h_14 fun h_15=>Bb False (h_15.bl.get (h.nx+1)) 0 4 fun l=>κ (.tuple ⟨[.agg ⟨l⟩,.bool true,.int .i64 0]⟩) h_15:=by
  intro g hD d1 d2 d3 hl hn he
  have ll:=hl.lo
  have wo:=fJ (p':=⟨p.id,p.x,wt,wt,p.s⟩) (ws:=[.int .i64 wt]) (j:=2) bO hp2 (by show 2+1≤5; omega) (by rw[Qz]; rfl)
  rw[List.set_set] at wo
  refine ⟨fun l h'=>HQ ⟨hD.nx,hD.bl.aS bo (aa ((Q.set i ⟨p.id,p.x,wt,wt,p.s⟩).flatMap aZ) 83 true),hD.lo⟩ h',?_,?_⟩
  ·simp(disch:=first|omega|simp only[Wd]<;>omega|with_unfolding_all rfl)only[Wz,vW,ax,d1,s3,wo]
   rfl
  ·intro l h' E6
   cases (show _=h' from E6)
   simp(disch:=first|omega|simp only[Wd]<;>omega|with_unfolding_all rfl)only[Wz,d3,d2]
   have key:=MH ha i p hi e2 hs
   rw[he] at key
   exact key _ _ (QV.blk (by show bo<hD.nx; omega) ((T.ah _ _ (fun e=>Em e.symm)).trans (T.af _ _ _)) (by simp)) ((hl.set (b:=bo) (by omega) _).set (b:=h.nx+1) (by omega) _)
 have XU:∀(hD:Heap),hD.bl.get bo=some (aa ((Q.set i p1).flatMap aZ) 83 true)→hD.bl.get (h.nx+1)=some ji→hD.bl.get h2.nx=some (gV t r (.slice (some ⟨bo,0,none⟩) Q.length aD) w)→Le h hD→hC.nx≤hD.nx→
   h_ Q w p m=(⟨p.id,p.x,p.m,wt,w+1⟩,w+1,false)→
   dw (fun MP=>vX h2.nx (.pointer (some ⟨bo,i*5,none⟩)) MP (.bool false) hD) fun l76 h_14=>
    Bb False (h_14.bl.get h2.nx) 0 4 fun l=>Nl False (h_14.bl.get (h.nx+1)) 4 (h.nx+1) 0 l h_14 fun h_15=>Bb False (h_15.bl.get (h.nx+1)) 0 4 fun l=>κ (.tuple ⟨[.agg ⟨l⟩,.bool false,.int .i64 0]⟩) h_15:=by
  intro hD d1 d2 d3 hl hn he
  have ll:=hl.lo
  have wo:=fJ (p':=⟨p.id,p.x,p.m,wt,w+1⟩) (ws:=[.int .i64 (w+1)]) (j:=4) bO hp2 (by show 4+1≤5; omega) (by rw[Qz]; rfl)
  rw[List.set_set] at wo
  refine ⟨fun l h'=>HQ ⟨hD.nx,(hD.bl.aS h2.nx (gV t r (.slice (some ⟨bo,0,none⟩) Q.length aD) (w+1))).aS bo (aa ((Q.set i ⟨p.id,p.x,p.m,wt,w+1⟩).flatMap aZ) 83 true),hD.lo⟩ h',?_,?_⟩
  ·simp(disch:=first|omega|simp only[Wd]<;>omega|with_unfolding_all rfl)only[Wz,vX,ax,d1,d3,wo]
   rfl
  ·intro l h' E6
   cases (show _=h' from E6)
   simp(disch:=first|omega|simp only[Wd]<;>omega|with_unfolding_all rfl)only[Wz,d3,d2]
   have key:=MH ha i p hi e2 hs
   rw[he] at key
   exact key _ _ (QV.blk (by show bo<hD.nx; omega) ((T.ah _ _ (fun e=>Em e.symm)).trans (T.af _ _ _)) (by simp)) (((hl.set (b:=h2.nx) (by omega) _).set (b:=bo) (by omega) _).set (b:=h.nx+1) (by omega) _)
 by_cases hq1:wt=p.m
 ·simp(disch:=first|omega|simp only[Wd]<;>omega|with_unfolding_all rfl)only[Wz,bf hq1]
  exact XT true hC gC Zw TT Ot (Nat.le_refl _) (by unfold h_; rw[Ov,if_pos (by simp[hq1])])
 ·have fa:(((Q.set i p1).flatMap aZ).drop (i*5)).take 5=aZ p1:=by
   have:=zq (enc:=aZ) bO (Q.set i p1) i (by simpa using hil)
   rw[this,(List.getElem?_eq_some_iff.1 hp2).2]
  simp(disch:=first|omega|simp only[Wd]<;>omega|with_unfolding_all rfl)only[Wz,a_ hq1,g12,TT,gC,fa]
  refine zP t r _ w p1 (Q.set i p1) hC _ Zx.sl (by simp; omega) (by omega) ?_
  intro h5 jr
  have n5:=jr.nx
  have l5:=jr.lo
  have d1:=(jr.get bo (by omega)).trans gC
  have d2:=(jr.get (h.nx+1) (by omega)).trans Zw
  have d3:=(jr.get h2.nx (by omega)).trans TT
  have Vd:=Ot.trans jr
  rw[abN]
  have XV:dU Q p1=dU Q ⟨p.id,p.x,p.m,cV p.m m,p.s⟩:=by rw[Qz,Ov]
  cases hft:dU Q p1 with
  | false=>
   simp(disch:=first|omega|simp only[Wd]<;>omega|with_unfolding_all rfl)only[Wz]
   refine XU h5 d1 d2 d3 Vd n5 ?_
   unfold h_
   rw[Ov,if_neg]
   rw[←Ov,←XV,hft,Ov]
   simp[hq1]
  | true=>
   simp(disch:=first|omega|simp only[Wd]<;>omega|with_unfolding_all rfl)only[Wz,d3]
   refine nO (Q.set i p1) rN h5 _ _ _ (Zx.sl.le jr) (by simp; omega) ?_ ?_
   ·intro o ho h6 κ6 XS hk6
    simp(disch:=first|omega|simp only[Wd]<;>omega|with_unfolding_all rfl)only[Wz,List.nil_append,List.append_nil]
    exact wg o (hk6 h6 (Le.refl _))
   ·intro h6 CC
    have n6:=CC.nx
    have l6:=CC.lo
    have d1:=(CC.get bo (by omega)).trans d1
    have d2:=(CC.get (h.nx+1) (by omega)).trans d2
    have d3:=(CC.get h2.nx (by omega)).trans d3
    have XS:=Vd.trans CC
    rw[abO]
    cases han:Q.any rN with
    | true=>
     simp(disch:=first|omega|simp only[Wd]<;>omega|with_unfolding_all rfl)only[Wz]
     refine XU h6 d1 d2 d3 XS (by omega) ?_
     unfold h_
     rw[Ov,if_neg]
     rw[han]
     simp[hq1]
    | false=>
     simp(disch:=first|omega|simp only[Wd]<;>omega|with_unfolding_all rfl)only[Wz]
     refine XT true h6 d1 d2 d3 XS (by omega) ?_
     unfold h_
     rw[Ov,if_pos]
     rw[←Ov,←XV,hft,han]
     simp
end Go.Proofs

namespace Go.Vai
section
variable {α:Type} {s:Nat} {enc:α→List Value}
set_option maxRecDepth 20000 in
theorem En {a h:Heap} {e:TypeId} {z:List Value} {v x:Value} {L M:List α} (he:∀a:α,(enc a).length=s) (hone:∀a:α,(enc a).all d_=true) (hs0:0<s) (hs1:s≤100) (ho:fu enc a e h v L) (hx:Sl enc h x M)
  (hle:Le a h) (hb:L.length+M.length≤1000000) (hal:h.lo≤h.nx) (κ:KQ)
  (hk:∀v' h',fu enc a e h' v' (L++M)→Le a h'→h'.nx≤h.nx+1→h.nx≤h'.nx→h'.lo=h.lo→(∀b,b<h.nx→h.bl.get b≠some (aa (L.flatMap enc) e true)→h'.bl.get b=h.bl.get b)→(∀b,b<h.nx→(∀n cap,v≠.slice (some ⟨b,0,none⟩) n cap)→h'.bl.get b=h.bl.get b)→(v'=v∨∃b n cap,h.nx≤b∧v'=.slice (some ⟨b,0,none⟩) n cap)→κ v' h'):bG False e s z false v x h κ:=by
 by_cases hM:M=[]
 ·subst hM
  rw[append_nil hx (by rcases ho with ⟨rfl,rfl | ⟨b,o,rfl⟩⟩ | ⟨b,rfl,_⟩<;>exact ⟨_,_,_,rfl⟩)]
  exact hk v h (by simpa using ho) hle (Nat.le_succ _) (Nat.le_refl _) rfl (fun _ _ _=>rfl) (fun _ _ _=>rfl) (.inl rfl)
 ·obtain ⟨m,hm⟩:∃m,M.length=m+1:=⟨M.length-1,by have:=List.length_pos_iff.2 hM; omega⟩
  have hfl:=br (enc:=enc) he
  have gj:=hx.first (β:=Prop) (fl:=False) he
  obtain ⟨y,cap,rfl,h2⟩:=hx
  have hml:∀K:List α,K.length≤1000000→(K.flatMap enc).length≤1000000000000:=fun K hK=>by
   rw[hfl]
   have:=Nat.mul_le_mul hK hs1
   omega
  have fresh:∀(hh:Heap) (ws:List Value),ws=(L++M).flatMap enc→Le a hh→hh.nx=h.nx→hh.lo=h.lo→(∀b,b<h.nx→h.bl.get b≠some (aa (L.flatMap enc) e true)→hh.bl.get b=h.bl.get b)→(∀b,b<h.nx→(∀n cap,v≠.slice (some ⟨b,0,none⟩) n cap)→hh.bl.get b=h.bl.get b)→dI False ws e true hh fun b h'=>κ (.slice (some ⟨b,0,none⟩) (L.length+M.length) aD) h':=by
   intro hh ws hw PW Zh hlo hgt abP
   subst hw
   unfold dI
   rw[iz _ _ _ _ (hml _ (by simp; omega)),c6]
   refine hk _ _ (.inr ⟨hh.nx,by simp,PW.nx,Nat.lt_succ_self _,by show hh.lo≤_; omega,T.af _ _ _⟩) (PW.new _) (by show hh.nx+1≤_; omega) (by show h.nx≤hh.nx+1; omega) hlo (fun b hb hn=>(T.ah _ _ (by omega)).trans (hgt b hb hn)) (fun b hb hn=>(T.ah _ _ (by omega)).trans (abP b hb hn)) (.inr ⟨hh.nx,_,_,by omega,rfl⟩)
  rcases ho with ⟨rfl,hv⟩ | ⟨b,rfl,h3,h4,h5,h6⟩
  ·have hF:=fresh h (M.flatMap enc) (by simp) hle rfl rfl (fun _ _ _=>rfl) (fun _ _ _=>rfl)
   simp only[List.length_nil,Nat.zero_add] at hF
   rcases hv with rfl | ⟨b,o,rfl⟩
   ·unfold bG kf
    simp only
    rw[gj]
    simp only[hm,bL]
    rw[show Nat.ble (Nat.add 0 (m+1)) 1000000000=true from Nat.ble_eq_true_of_le (by show 0+(m+1)≤_; omega)]
    rw[hm] at hF
    have e1:Nat.add 0 (m+1)=m+1:=by show 0+(m+1)=_; omega
    rw[e1]
    exact hF
   ·unfold bG kf
    simp only
    rw[gj]
    simp only[hm,bL]
    have e1:Nat.add 0 (m+1)=m+1:=by show 0+(m+1)=_; omega
    rw[e1,show Nat.ble (m+1) 1000000000=true from Nat.ble_eq_true_of_le (by omega)]
    rw[hm] at hF
    show e8 False h s 0 _ _
    rw[iO _ _ _ _ _ (by simp)]
    exact hF
  ·unfold bG kf
   simp only
   rw[gj]
   simp only[hm,bL]
   have e1:Nat.add L.length (m+1)=L.length+(m+1):=rfl
   rw[e1,show Nat.ble (L.length+(m+1)) 1000000000=true from Nat.ble_eq_true_of_le (by omega)]
   have e2:Nat.beq aD fR=false:=by decide
   have e3:Nat.beq aD aD=true:=Nat.beq_refl _
   simp only[e2,e3,h6]
   have e4:Nat.ble (Nat.add 0 (Nat.mul (L.length+(m+1)) s)) (L.flatMap enc).length=false:=by
    rw[hfl]
    cases RK:Nat.ble (Nat.add 0 (Nat.mul (L.length+(m+1)) s)) (L.length*s) with
    | false=>rfl
    | true=>
     have h7:0+(L.length+(m+1))*s≤L.length*s:=Nat.le_of_ble_eq_true RK
     rw[Nat.add_mul,Nat.succ_mul] at h7
     omega
   have e5:(M.flatMap enc).all d_=true:=by
    rw[List.all_flatMap]; simp only[List.all_eq_true]; intro x _; exact List.all_eq_true.1 (hone x)
   simp only[aa,Nat.beq_refl,e4,e5,Bool.and_self]
   have hh:Has (h.bl.get b) 0 (L.flatMap enc):=by rw[h6]; exact Has.all
   rw[me hh s L.length _ _ _ (hfl L).symm,bD _ _ _ _ h5]
   have hF:=fresh ⟨h.nx,h.bl.aS b (.dead (L.flatMap enc).length e),h.lo⟩ (L.flatMap enc++M.flatMap enc) (by simp) (hle.set h3 _) rfl rfl (fun b' _ hn=>T.ah _ _ (fun e=>hn (by rw[←e]; exact h6))) (fun b' _ hn=>T.ah _ _ (by rintro rfl; exact hn _ _ rfl))
   rw[hm] at hF
   exact hF
end
theorem kG {v v':Value} {vs vs':List Value} {e e':TypeId} {p p':Bool} (h:(some (aa (v::vs) e p):Option bt)=some (aa (v'::vs') e' p')):v=v':=by
 have h1:=congrArg (fun ob=>yc (none:Option Value) ob 0 some) h
 simp only[oq] at h1
 exact Option.some.inj h1
end Go.Vai
namespace Go.Proofs
open Go.Vai Go.Clashes
def frV (b:Nat):Value:=.iface 240 (.pointer (some ⟨b,0,none⟩))
theorem ci_len (b : Nat) (h : Heap) (κ : Value → Heap → Prop) : CallI Tryz.prog "Len" (frV b) [] h κ = (fieldAddrB False 0 (.pointer (some ⟨b, 0, none⟩)) h fun a h => load1 False a h fun v h => CallW Tryz.prog 137 [v] h κ) := by kernel_rfl
theorem ci_less (b : Nat) (i j : Value) (h : Heap) (κ : Value → Heap → Prop) : CallI Tryz.prog "Less" (frV b) [i, j] h κ = (fieldAddrB False 0 (.pointer (some ⟨b, 0, none⟩)) h fun a h => load1 False a h fun v h => CallW Tryz.prog 366 [v, i, j] h κ) := by kernel_rfl
theorem ci_swap (b : Nat) (i j : Value) (h : Heap) (κ : Value → Heap → Prop) : CallI Tryz.prog "Swap" (frV b) [i, j] h κ = (fieldAddrB False 0 (.pointer (some ⟨b, 0, none⟩)) h fun a h => load1 False a h fun v h => CallW Tryz.prog 368 [v, i, j] h κ) := by kernel_rfl
theorem ci_push (b : Nat) (x : Value) (h : Heap) (κ : Value → Heap → Prop) : CallI Tryz.prog "Push" (frV b) [x] h κ = CallW Tryz.prog 370 [.pointer (some ⟨b, 0, none⟩), x] h κ := by kernel_rfl
theorem ci_pop (b : Nat) (h : Heap) (κ : Value → Heap → Prop) : CallI Tryz.prog "Pop" (frV b) [] h κ = CallW Tryz.prog 369 [.pointer (some ⟨b, 0, none⟩)] h κ := by kernel_rfl
def mJ (h:Heap) (v:Value) (F:List Int):Prop:=(F=[]∧v=.slice none 0 0)∨∃b G,v=.slice (some ⟨b,0,none⟩) F.length aD∧b<h.nx∧h.lo≤b∧h.bl.get b=some (aa ((F++G).flatMap cT) 3 true)∧0<(F++G).length
structure fc (h:Heap) (bp:Nat) (F:List Int) (ls:Value):Prop where
 lt:bp<h.nx
 lo:h.lo≤bp
 cell:∃fs,h.bl.get bp=some (aa [fs,ls] 225 false)∧mJ h fs F
def FB (h:Heap) (bp c:Nat):Prop:=∃n cap ls,h.bl.get bp=some (aa [.slice (some ⟨c,0,none⟩) n cap,ls] 225 false)
theorem FB.congr {h h':Heap} {bp c:Nat} (e:h'.bl.get bp=h.bl.get bp):FB h' bp c↔FB h bp c:=by unfold FB; rw[e]
structure wu (bp:Nat) (h h':Heap):Prop where
 nx:h.nx≤h'.nx
 lo:h'.lo=h.lo
 get:∀c,c<h.nx→c≠bp→(∀vs,h.bl.get c≠some (aa vs 3 true))→h'.bl.get c=h.bl.get c
 g2:bp<h.nx→∀c,c<h.nx→c≠bp→¬FB h bp c→h'.bl.get c=h.bl.get c
 mv:bp<h.nx→∀c,c<h.nx→FB h' bp c→FB h bp c
theorem wu.refl (bp:Nat) (h:Heap):wu bp h h:=⟨Nat.le_refl _,rfl,fun _ _ _ _=>rfl,fun _ _ _ _ _=>rfl,fun _ _ _ x=>x⟩
theorem wu.trans {bp:Nat} {h h' h'':Heap} (a:wu bp h h') (b:wu bp h' h''):wu bp h h'':=
 ⟨Nat.le_trans a.nx b.nx,b.lo.trans a.lo,fun c hc hn hi=>(b.get c (Nat.lt_of_lt_of_le hc a.nx) hn (fun vs=>by rw[a.get c hc hn hi]; exact hi vs)).trans (a.get c hc hn hi),
  fun hb c hc hn hi=>(b.g2 (Nat.lt_of_lt_of_le hb a.nx) c (Nat.lt_of_lt_of_le hc a.nx) hn fun x=>hi (a.mv hb c hc x)).trans (a.g2 hb c hc hn hi),
  fun hb c hc x=>a.mv hb c hc (b.mv (Nat.lt_of_lt_of_le hb a.nx) c (Nat.lt_of_lt_of_le hc a.nx) x)⟩
theorem wu.swap {bp:Nat} {h h':Heap} {fs ls:Value} (hg:h.bl.get bp=some (aa [fs,ls] 225 false)) (q1:h'.nx=h.nx) (q2:h'.lo=h.lo) (q4:∀c,(∀vs,h.bl.get c≠some (aa vs 3 true))→h'.bl.get c=h.bl.get c) (q5:∀c,(∀n cap,fs≠.slice (some ⟨c,0,none⟩) n cap)→h'.bl.get c=h.bl.get c):wu bp h h':=
 ⟨by omega,q2,fun c _ _ hi=>q4 c hi,fun _ c _ _ hn=>q5 c fun n cap e=>hn ⟨n,cap,ls,e▸hg⟩,fun _ c _ x=>(FB.congr (q4 bp fun vs=>by rw[hg]; exact aV)).1 x⟩
theorem nQ (F:List Int) (h:Heap) (v:Value) (κ:KQ) (hp:mJ h v F) (hk:κ (.int .i64 (F.length:Int)) h):CallW Tryz.prog 137 [v] h κ:=by
 refine aj mixed ?_
 rw[Su]
 rcases hp with ⟨rfl,rfl⟩ | ⟨b,G,rfl,_⟩
 ·simp(disch:=first|omega|simp only[Wd]<;>omega|with_unfolding_all rfl)only[Wz]; exact hk
 ·simp(disch:=first|omega|simp only[Wd]<;>omega|with_unfolding_all rfl)only[Wz]; exact hk
theorem nR {F G:List Int} {i:Nat} {x:Int} (hx:F[i]? = some x):((F++G).flatMap cT)[i]? = some (.int .i64 x):=by
 have h1:(F++G)[i]? = some x:=by rw[List.getElem?_append_left (List.getElem?_eq_some_iff.1 hx).1]; exact hx
 have:=gF (j:=0) dz h1 (by decide)
 simpa[cT] using this
theorem wz {F G:List Int} {i:Nat} {y:Int} (hi:i<F.length):over ((F++G).flatMap cT) i [.int .i64 y]=((F.set i y)++G).flatMap cT:=by
 have h1:(F++G)[i]? = some F[i]:=by rw[List.getElem?_append_left hi]; exact List.getElem?_eq_getElem hi
 have:=fJ (p':=y) (ws:=[.int .i64 y]) (j:=0) dz h1 (by show 0+1≤1; omega) rfl
 rw[Nat.mul_one,Nat.add_zero] at this
 rw[this,List.set_append,if_pos hi]
theorem sC (F:List Int) (i j:Nat) (h:Heap) (v:Value) (κ:KQ) (hp:mJ h v F) (hi:i<F.length) (hj:j<F.length) (hk:κ (.bool (decide (F[i]<F[j]))) h):CallW Tryz.prog 366 [v,.int .i64 (i:Int),.int .i64 (j:Int)] h κ:=by
 refine aj mixed ?_
 rw[TH]
 rcases hp with ⟨rfl,rfl⟩ | ⟨b,G,rfl,h1,h2,h3,h4⟩
 ·simp at hi
 ·have r1:=nR (G:=G) (List.getElem?_eq_getElem hi)
  have r2:=nR (G:=G) (List.getElem?_eq_getElem hj)
  simp(disch:=first|omega|simp only[Wd]<;>omega|with_unfolding_all rfl)only[Wz,aN,h3,r1,r2,Nat.mul_one]
  exact hk
def lJ (F:List Int) (i j:Nat):List Int:=match F[i]?,F[j]? with | some x,some y=>(F.set i y).set j x | _,_=>F
theorem ri {F:List Int} {i j:Nat} (hi:i<F.length) (hj:j<F.length):lJ F i j=(F.set i F[j]).set j F[i]:=by
 simp only[lJ,List.getElem?_eq_getElem hi,List.getElem?_eq_getElem hj]
theorem sD (F:List Int) (i j:Nat):(lJ F i j).length=F.length:=by
 unfold lJ
 split<;>simp
theorem sE (F:List Int) (i j:Nat) (h:Heap) (v:Value) (κ:KQ) (hp:mJ h v F) (hi:i<F.length) (hj:j<F.length)
  (hk:∀h',h'.nx=h.nx→h'.lo=h.lo→mJ h' v (lJ F i j)→(∀c,(∀vs,h.bl.get c≠some (aa vs 3 true))→h'.bl.get c=h.bl.get c)→(∀c,(∀n cap,v≠.slice (some ⟨c,0,none⟩) n cap)→h'.bl.get c=h.bl.get c)→κ (.tuple ⟨[]⟩) h'):CallW Tryz.prog 368 [v,.int .i64 (i:Int),.int .i64 (j:Int)] h κ:=by
 refine aj mixed ?_
 rw[TI]
 rcases hp with ⟨rfl,rfl⟩ | ⟨b,G,rfl,h1,h2,h3,h4⟩
 ·simp at hi
 ·have r1:=nR (G:=G) (List.getElem?_eq_getElem hi)
  have r2:=nR (G:=G) (List.getElem?_eq_getElem hj)
  have hl:=br (enc:=cT) dz (F++G)
  have KE:=br (enc:=cT) dz ((F.set i F[j])++G)
  have ov1:=wz (G:=G) (y:=F[j]) hi
  have ov2:=wz (G:=G) (F:=F.set i F[j]) (y:=F[i]) (i:=j) (by simpa using hj)
  have hlen:(F++G).length=F.length+G.length:=List.length_append
  have aet:((F.set i F[j])++G).length=F.length+G.length:=by simp
  simp(disch:=first|omega|simp only[Wd]<;>omega|with_unfolding_all rfl)only[Wz,aN,h3,r1,r2,Nat.mul_one,ov1,ov2]
  refine hk _ rfl rfl (.inr ⟨b,G,by rw[sD],h1,h2,?_,?_⟩) ?_ fun c hc=>T.ah _ _ (by rintro rfl; exact hc _ _ rfl)
  ·rw[ri hi hj]; exact T.af _ _ _
  ·rw[List.length_append,sD]; simpa using h4
  ·intro c hc
   refine T.ah _ _ ?_
   rintro rfl
   exact hc _ h3
theorem qd {F:List Int} {i j:Nat} (hi:i<F.length) (hj:j<F.length):(lJ F i j).Perm F:=by
 rw[ri hi hj]; exact List.set_set_perm hi hj
theorem gD {F:List Int} {i:Nat} (h:i<F.length):F.getD i 0=F[i]:=by
 rw[List.getD_eq_getElem?_getD,List.getElem?_eq_getElem h]; rfl
theorem rj {F:List Int} {i j:Nat} (hi:i<F.length) (hj:j<F.length) (k:Nat):(lJ F i j).getD k 0=if k=j then F.getD i 0 else if k=i then F.getD j 0 else F.getD k 0:=by
 rw[ri hi hj,gD hi,gD hj]
 simp only[List.getD_eq_getElem?_getD,List.getElem?_set,List.length_set]
 by_cases h1:j=k
 ·subst h1; rw[if_pos rfl,if_pos hj,if_pos rfl]; rfl
 ·have h1':¬k=j:=fun e=>h1 e.symm
  rw[if_neg h1,if_neg h1']
  by_cases h2:i=k
  ·subst h2; rw[if_pos rfl,if_pos hi,if_pos rfl]; rfl
  ·have h2':¬k=i:=fun e=>h2 e.symm
   rw[if_neg h2,if_neg h2']
def HN (F:List Int) (n:Nat):Prop:=∀i,0<i→i<n→F.getD ((i-1) / 2) 0≤F.getD i 0
abbrev HP (F:List Int):Prop:=HN F F.length
structure wA (F:List Int) (j:Nat):Prop where
 a:∀i,0<i→i<F.length→i≠j→F.getD ((i-1) / 2) 0≤F.getD i 0
 b:0<j→∀i,0<i→i<F.length→(i-1) / 2=j→F.getD ((j-1) / 2) 0≤F.getD i 0
structure tP (F:List Int) (i n:Nat):Prop where
 a:∀k,0<k→k<n→(k-1) / 2≠i→F.getD ((k-1) / 2) 0≤F.getD k 0
 b:0<i→∀k,0<k→k<n→(k-1) / 2=i→F.getD ((i-1) / 2) 0≤F.getD k 0
theorem wA.step {F:List Int} {j:Nat} (u:wA F j) (h0:0<j) (hj:j<F.length) (hlt:F.getD j 0<F.getD ((j-1) / 2) 0):wA (lJ F ((j-1) / 2) j) ((j-1) / 2):=by
 have hp:(j-1) / 2<F.length:=by omega
 have G:=rj (F:=F) hp hj
 have L:=sD F ((j-1) / 2) j
 refine ⟨fun i h1 h2 h3=>?_,fun XW i h1 h2 h3=>?_⟩
 ·rw[L] at h2
  rw[G,G]
  by_cases e1:i=j
  ·subst e1
   rw[if_neg (by omega),if_pos rfl,if_pos rfl]; omega
  ·rw[if_neg e1,if_neg h3]
   have A:=u.a i h1 h2 e1
   by_cases e2:(i-1) / 2=j
   ·rw[if_pos e2]; exact u.b h0 i h1 h2 e2
   ·rw[if_neg e2]
    by_cases e3:(i-1) / 2=(j-1) / 2
    ·rw[if_pos e3]; rw[e3] at A; omega
    ·rw[if_neg e3]; exact A
 ·rw[L] at h2
  rw[G,G,if_neg (by omega),if_neg (by omega)]
  have A:=u.a ((j-1) / 2) XW hp (by omega)
  by_cases e1:i=j
  ·rw[if_pos e1]; exact A
  ·rw[if_neg e1,if_neg (by omega)]
   have B:=u.a i h1 h2 e1
   rw[h3] at B; omega
theorem wA.Eo {F:List Int} (u:wA F 0):HP F:=fun i h1 h2=>u.a i h1 h2 (by omega)
theorem wA.TU {F:List Int} {j:Nat} (u:wA F j) (hge:F.getD ((j-1) / 2) 0≤F.getD j 0):HP F:=fun i h1 h2=>by
 by_cases e:i=j
 ·subst e; exact hge
 ·exact u.a i h1 h2 e
theorem HP.push {F:List Int} (u:HP F) (x:Int):wA (F++[x]) F.length:=by
 have G:∀k,k<F.length→(F++[x]).getD k 0=F.getD k 0:=fun k hk=>by
  rw[List.getD_eq_getElem?_getD,List.getElem?_append_left hk,List.getD_eq_getElem?_getD]
 refine ⟨fun i h1 h2 h3=>?_,fun _ i h1 h2 h3=>?_⟩
 ·rw[List.length_append,List.length_singleton] at h2
  rw[G _ (by omega),G _ (by omega)]; exact u i h1 (by omega)
 ·rw[List.length_append,List.length_singleton] at h2; omega
theorem tP.step {F:List Int} {i n c:Nat} (d:tP F i n) (hn:n≤F.length) (hc:c<n) (hi:(c-1) / 2=i) (hc0:0<c) (hlt:F.getD c 0<F.getD i 0) (hmin:∀k,0<k→k<n→(k-1) / 2=i→F.getD c 0≤F.getD k 0):tP (lJ F i c) c n:=by
 have G:=rj (F:=F) (i:=i) (j:=c) (by omega) (by omega)
 refine ⟨fun k h1 h2 h3=>?_,fun _ k h1 h2 h3=>?_⟩
 ·rw[G,G]
  by_cases e1:(k-1) / 2=i
  ·rw[if_neg h3,if_pos e1]
   by_cases e2:k=c
   ·rw[if_pos e2]; omega
   ·rw[if_neg e2,if_neg (by omega)]; exact hmin k h1 h2 e1
  ·rw[if_neg h3,if_neg e1]
   have A:=d.a k h1 h2 e1
   by_cases e2:k=c
   ·subst e2; omega
   ·rw[if_neg e2]
    by_cases e3:k=i
    ·subst e3; rw[if_pos rfl]; exact d.b h1 c hc0 hc hi
    ·rw[if_neg e3]; exact A
 ·rw[G,G,hi,if_neg (by omega),if_pos rfl,if_neg (by omega),if_neg (by omega)]
  have A:=d.a k h1 h2 (by omega)
  rw[h3] at A; exact A
theorem tP.Eo {F:List Int} {i n:Nat} (d:tP F i n) (h:n≤2*i+1):HN F n:=fun k h1 h2=>d.a k h1 h2 (by omega)
theorem tP.TU {F:List Int} {i n c:Nat} (d:tP F i n) (hge:F.getD i 0≤F.getD c 0) (hmin:∀k,0<k→k<n→(k-1) / 2=i→F.getD c 0≤F.getD k 0):HN F n:=fun k h1 h2=>by
 by_cases e:(k-1) / 2=i
 ·have:=hmin k h1 h2 e
  rw[e]; omega
 ·exact d.a k h1 h2 e
theorem HP.pop {F:List Int} (u:HP F) (h0:0<F.length):tP (lJ F 0 (F.length-1)) 0 (F.length-1):=by
 have G:=rj (F:=F) (i:=0) (j:=F.length-1) h0 (by omega)
 refine ⟨fun k h1 h2 h3=>?_,fun h=>by omega⟩
 rw[G,G,if_neg (by omega),if_neg h3,if_neg (by omega),if_neg (by omega)]
 exact u k h1 (by omega)
theorem HP.least {F:List Int} (u:HP F):∀n k,k<n→k<F.length→F.getD 0 0≤F.getD k 0:=by
 intro n
 induction n with
 | zero=>intro k h; omega
 | succ n ih=>
  intro k h1 h2
  by_cases e:k=0
  ·subst e; exact Int.le_refl _
  ·have:=ih ((k-1) / 2) (by omega) (by omega)
   have:=u k (by omega) h2
   omega
theorem HN.take {F:List Int} {n:Nat} (u:HN F n) (hn:n≤F.length):HP (F.take n):=by
 have G:∀k,k<n→(F.take n).getD k 0=F.getD k 0:=fun k hk=>by
  rw[List.getD_eq_getElem?_getD,List.getElem?_take,if_pos hk,List.getD_eq_getElem?_getD]
 intro i h1 h2
 rw[List.length_take] at h2
 rw[G _ (by omega),G _ (by omega)]
 exact u i h1 (by omega)
theorem fc.same {h h':Heap} {bp:Nat} {F F':List Int} {ls fs:Value} (f:fc h bp F ls) (hn:h'.nx=h.nx) (hl:h'.lo=h.lo) (hg:h.bl.get bp=some (aa [fs,ls] 225 false)) (hp:mJ h' fs F') (hfr:∀c,(∀vs,h.bl.get c≠some (aa vs 3 true))→h'.bl.get c=h.bl.get c):fc h' bp F' ls:=
 ⟨by rw[hn]; exact f.lt,by rw[hl]; exact f.lo,fs,by rw[hfr bp (fun vs=>by rw[hg]; exact aV)]; exact hg,hp⟩
theorem KP (j:Nat):Int.tdiv ((j:Int)-1) 2=(((j-1) / 2:Nat):Int):=by
 cases j with
 | zero=>rfl
 | succ j=>rw[Int.tdiv_eq_ediv_of_nonneg (by omega)]; omega
theorem abQ (bp:Nat) (F:List Int) (ls:Value) (j:Nat) (h:Heap) (κ:KQ) (f:fc h bp F ls) (hj:j<F.length) (hlen:F.length≤100000)
  (hk:∀h' F',fc h' bp F' ls→F'.Perm F→(wA F j→HP F')→wu bp h h'→κ (.tuple ⟨[]⟩) h'):CallW Tryz.prog 199 [frV bp,.int .i64 (j:Int)] h κ:=by
 refine aj mixed ?_
 rw[Kj]
 refine ⟨fun n l h1=>∃(k:Nat) (F1:List Int),slot l 19=.int .i64 (k:Int)∧n=k∧k<F.length∧F1.Perm F∧(wA F j→wA F1 k)∧fc h1 bp F1 ls∧wu bp h h1,⟨_,j,F,rfl,rfl,hj,List.Perm.refl _,id,f,wu.refl _ _⟩,?_⟩
 rintro n l h1 ⟨k,F1,s1,rfl,fQ,hp1,IV,f1,Gb⟩
 have tu:=hp1.length_eq
 have e1:=KP n
 by_cases h0:n=0
 ·subst h0
  simp(disch:=first|omega|simp only[Wd]<;>omega|with_unfolding_all rfl)only[Wz,q7,s1,zm,e1]
  exact hk h1 F1 f1 hp1 (fun u=>(IV u).Eo) Gb
 ·obtain ⟨fs,hg,hpt⟩:=f1.cell
  simp(disch:=first|omega|simp only[Wd]<;>omega|with_unfolding_all rfl)only[Wz,q7,s1,zm,e1,Jq,ci_less,hg]
  refine sC F1 n ((n-1) / 2) h1 _ _ hpt (by omega) (by omega) ?_
  by_cases hls:F1[n]'(by omega)<F1[(n-1) / 2]'(by omega)
  ·simp(disch:=first|omega|simp only[Wd]<;>omega|with_unfolding_all rfl)only[Wz,bf hls,ci_swap,hg]
   refine sE F1 ((n-1) / 2) n h1 _ _ hpt (by omega) (by omega) ?_
   intro h2 q1 q2 q3 q4 q5
   refine ⟨_,?_,(n-1) / 2,lJ F1 ((n-1) / 2) n,rfl,rfl,by omega,(qd (by omega) (by omega)).trans hp1,fun u=>(IV u).step (by omega) (by omega) (by rw[gD (by omega),gD (by omega)]; exact hls),f1.same q1 q2 hg q3 q4,Gb.trans (.swap hg q1 q2 q4 q5)⟩
   omega
  ·simp(disch:=first|omega|simp only[Wd]<;>omega|with_unfolding_all rfl)only[Wz,a_ hls]
   exact hk h1 F1 f1 hp1 (fun u=>(IV u).TU (by rw[gD (by omega),gD (by omega)]; omega)) Gb
set_option maxHeartbeats 1000000 in
theorem TV (bp:Nat) (F:List Int) (ls:Value) (i0 n:Nat) (h:Heap) (κ:KQ) (f:fc h bp F ls) (hn:n≤F.length) (hlen:F.length≤100000) (hi0:i0≤100000)
  (hk:∀r h' F',fc h' bp F' ls→F'.Perm F→(∀k,n≤k→F'[k]? = F[k]?)→(tP F i0 n→HN F' n)→wu bp h h'→κ (.bool r) h'):CallW Tryz.prog 172 [frV bp,.int .i64 (i0:Int),.int .i64 (n:Int)] h κ:=by
 refine aj mixed ?_
 rw[Ki]
 refine ⟨fun l h'=>∃(k:Nat) (F':List Int),slot l 36=.int .i64 (k:Int)∧fc h' bp F' ls∧F'.Perm F∧(∀k,n≤k→F'[k]? = F[k]?)∧(tP F i0 n→HN F' n)∧wu bp h h',?_,?_⟩
 rotate_left
 ·rintro l h' ⟨k,F',s1,q1,q2,q3,q4,q5⟩
  simp(disch:=first|omega|simp only[Wd]<;>omega|with_unfolding_all rfl)only[Wz,s1]
  exact hk _ h' F' q1 q2 q3 q4 q5
 refine ⟨fun m l h1=>∃(i:Nat) (F1:List Int),slot l 36=.int .i64 (i:Int)∧m=200002-i∧i≤200000∧(i<n∨i=i0)∧F1.Perm F∧(∀k,n≤k→F1[k]? = F[k]?)∧(tP F i0 n→tP F1 i n)∧fc h1 bp F1 ls∧wu bp h h1,⟨_,i0,F,rfl,rfl,by omega,.inr rfl,List.Perm.refl _,fun _ _=>rfl,id,f,wu.refl _ _⟩,?_⟩
 rintro m l h1 ⟨i,F1,s1,rfl,hi,hin,hp1,ht1,Ve,f1,Gb⟩
 have tu:=hp1.length_eq
 obtain ⟨fs,hg,hpt⟩:=f1.cell
 by_cases hst:2*i+1<n
 case neg=>
  simp(disch:=first|omega|simp only[Wd]<;>omega|with_unfolding_all rfl)only[Wz,qZ,s1,cg (show (n:Int)≤2*(i:Int)+1 by omega)]
  exact ⟨i,F1,rfl,f1,hp1,ht1,fun d=>(Ve d).Eo (by omega),Gb⟩
 have c1:(2*(i:Int)+1)=((2*i+1:Nat):Int):=by omega
 simp(disch:=first|omega|simp only[Wd]<;>omega|with_unfolding_all rfl)only[Wz,qZ,s1,c1,fH (show ((2*i+1:Nat):Int)<(n:Int) by omega),cg (show (0:Int)≤((2*i+1:Nat):Int) by omega),BQ]
 refine ⟨fun l13 h'=>∃j:Nat,slot l13 13=.int .i64 (j:Int)∧i<j∧j<n∧(j-1) / 2=i∧(∀k,0<k→k<n→(k-1) / 2=i→F1.getD j 0≤F1.getD k 0)∧HQ h1 h',?_,?_⟩
 ·have c2:((2*i+1:Nat):Int)+1=((2*i+2:Nat):Int):=by omega
  by_cases h2:2*i+2<n
  ·simp(disch:=first|omega|simp only[Wd]<;>omega|with_unfolding_all rfl)only[Wz,vL,c2,fH (show ((2*i+2:Nat):Int)<(n:Int) by omega),ci_less,hg]
   refine sC F1 (2*i+2) (2*i+1) h1 _ _ hpt (by omega) (by omega) ?_
   by_cases hls:F1[2*i+2]'(by omega)<F1[2*i+1]'(by omega)
   ·simp(disch:=first|omega|simp only[Wd]<;>omega|with_unfolding_all rfl)only[Wz,bf hls]
    exact ⟨2*i+2,rfl,by omega,h2,by omega,fun k k0 k1 k2=>by
     have ek:k=2*i+1∨k=2*i+2:=by omega
     rcases ek with rfl | rfl
     ·rw[gD (by omega),gD (by omega)]; omega
     ·exact Int.le_refl _,rfl⟩
   ·simp(disch:=first|omega|simp only[Wd]<;>omega|with_unfolding_all rfl)only[Wz,a_ hls]
    exact ⟨2*i+1,rfl,by omega,hst,by omega,fun k k0 k1 k2=>by
     have ek:k=2*i+1∨k=2*i+2:=by omega
     rcases ek with rfl | rfl
     ·exact Int.le_refl _
     ·rw[gD (by omega),gD (by omega)]; omega,rfl⟩
  ·simp(disch:=first|omega|simp only[Wd]<;>omega|with_unfolding_all rfl)only[Wz,vL,c2,cg (show (n:Int)≤((2*i+2:Nat):Int) by omega)]
   exact ⟨2*i+1,rfl,by omega,hst,by omega,fun k k0 k1 k2=>by
    have ek:k=2*i+1:=by omega
    rw[ek]; exact Int.le_refl _,rfl⟩
 ·rintro l13 h' ⟨j,s2,hij,hjn,hjp,hmin,hq⟩
  cases (show h1=h' from hq)
  simp(disch:=first|omega|simp only[Wd]<;>omega|with_unfolding_all rfl)only[Wz,s1,s2,ci_less,hg]
  refine sC F1 j i h1 _ _ hpt (by omega) (by omega) ?_
  by_cases hls:F1[j]'(by omega)<F1[i]'(by omega)
  ·simp(disch:=first|omega|simp only[Wd]<;>omega|with_unfolding_all rfl)only[Wz,bf hls,ci_swap,hg,s1,s2]
   refine sE F1 i j h1 _ _ hpt (by omega) (by omega) ?_
   intro h2 q1 q2 q3 q4 q5
   refine ⟨_,?_,j,lJ F1 i j,rfl,rfl,by omega,.inl hjn,(qd (by omega) (by omega)).trans hp1,?_,fun d=>(Ve d).step (by omega) hjn hjp (by omega) (by rw[gD (by omega),gD (by omega)]; exact hls) hmin,f1.same q1 q2 hg q3 q4,Gb.trans (.swap hg q1 q2 q4 q5)⟩
   ·omega
   ·intro k fQ
    rw[←ht1 k fQ,ri (by omega) (by omega),List.getElem?_set,if_neg (by omega),List.getElem?_set,if_neg (by omega)]
  ·simp(disch:=first|omega|simp only[Wd]<;>omega|with_unfolding_all rfl)only[Wz,a_ hls,s1]
   exact ⟨i,F1,rfl,f1,hp1,ht1,fun d=>(Ve d).TU (by rw[gD (by omega),gD (by omega)]; omega) hmin,Gb⟩
theorem CD {h:Heap} {v:Value} {F:List Int} {x:Int} {b7 c7:Nat} (hp:mJ h v F) (hb7:b7<h.nx) (hg7:h.bl.get b7=some (aa [.int .i64 x] 3 false)) (hlen:F.length≤100000) (hal:h.lo≤h.nx) (κ:KQ)
  (hk:∀v' h',mJ h' v' (F++[x])→h.nx≤h'.nx→h'.lo=h.lo→(∀c,c<h.nx→(∀vs,h.bl.get c≠some (aa vs 3 true))→h'.bl.get c=h.bl.get c)→(∀c,c<h.nx→(∀n cap,v≠.slice (some ⟨c,0,none⟩) n cap)→h'.bl.get c=h.bl.get c)→(∀c n cap,c<h.nx→v'=.slice (some ⟨c,0,none⟩) n cap→∃n cap,v=.slice (some ⟨c,0,none⟩) n cap)→κ v' h') :
  bG False 3 1 [.int .i64 0] false v (.slice (some ⟨b7,0,none⟩) 1 c7) h κ:=by
 have hx:Sl cT h (.slice (some ⟨b7,0,none⟩) 1 c7) [x]:=Sl.new (L:=[x]) (e:=3) (op:=false) hb7 (by simpa[cT] using hg7) _
 have full:fu cT ⟨0,.nil,h.lo⟩ 3 h v F→(∀v' h',fu cT ⟨0,.nil,h.lo⟩ 3 h' v' (F++[x])→mJ h' v' (F++[x]))→bG False 3 1 [.int .i64 0] false v (.slice (some ⟨b7,0,none⟩) 1 c7) h κ:=by
  intro ho XX
  refine En (enc:=cT) (a:=⟨0,.nil,h.lo⟩) (L:=F) (M:=[x]) dz p_ (by decide) (by decide) ho hx ⟨Nat.zero_le _,rfl,fun b hb=>absurd hb (Nat.not_lt_zero _)⟩ (by simp; omega) hal κ ?_
  intro v' h' ho' _ _ hn hl hs hs2 hv
  refine hk v' h' (XX v' h' ho') hn hl (fun c hc hne=>hs c hc (hne _)) hs2 fun c n cap hc e=>?_
  rcases hv with rfl | ⟨b,n',cap',hb,rfl⟩
  ·exact ⟨n,cap,e⟩
  ·injection e with e; injection e with e; injection e with e; omega
 have conv:∀v' h',fu cT ⟨0,.nil,h.lo⟩ 3 h' v' (F++[x])→mJ h' v' (F++[x]):=by
  intro v' h' ho
  rcases ho with ⟨e,_⟩ | ⟨b,e,_,h2,h3,h4⟩
  ·simp at e
  ·exact .inr ⟨b,[],e,h2,h3,by rw[List.append_nil]; exact h4,by simp⟩
 rcases hp with ⟨rfl,rfl⟩ | ⟨b,G,rfl,h1,h2,h3,h4⟩
 ·exact full (.inl ⟨rfl,.inl rfl⟩) conv
 ·cases G with
  | nil=>
   rw[List.append_nil] at h3
   exact full (.inr ⟨b,rfl,Nat.zero_le _,h1,h2,h3⟩) conv
  | cons g G=>
   have gj:∀κ':List Value→Prop,e8 False h 1 1 (.slice (some ⟨b7,0,none⟩) 1 c7) κ'=κ' [.int .i64 x]:=fun κ'=>hx.first (β:=Prop) (fl:=False) dz κ'
   have hl:=br (enc:=cT) dz (F++g::G)
   have hl':(F++g::G).length=F.length+(G.length+1):=by simp
   have JO:=wz (G:=G) (F:=F++[g]) (y:=x) (i:=F.length) (by simp)
   have e0:F++[g]++G=F++g::G:=by simp
   have e00:(F++[g]).set F.length x=F++[x]:=by simp
   rw[e0,e00] at JO
   unfold bG kf
   simp only
   rw[gj]
   simp only[bL]
   have e2:Nat.beq aD fR=false:=by decide
   have e3:Nat.beq aD aD=true:=Nat.beq_refl _
   have e5:Nat.ble (Nat.add F.length (0+1)) 1000000000=true:=Nat.ble_eq_true_of_le (by show F.length+(0+1)≤_; omega)
   have e4:Nat.ble (Nat.add 0 (Nat.mul (Nat.add F.length (0+1)) 1)) ((F++g::G).flatMap cT).length=true:=Nat.ble_eq_true_of_le (by rw[hl]; show 0+(F.length+(0+1))*1≤_; omega)
   simp only[e2,e3,e5,h3,aa,Nat.beq_refl,e4]
   rw[sk _ _ _ _ _ (by show 0+F.length*1+1≤_; omega) rfl,bD _ _ _ _ h2]
   have e6:(Nat.add 0 (Nat.mul F.length 1))=F.length:=by show 0+F.length*1=_; omega
   rw[e6,zl _ _ _ (by show F.length+1≤_; omega),JO]
   have e7:((F++g::G).flatMap cT).length=((F++[x]++G).flatMap cT).length:=by rw[hl,br dz]; simp
   rw[e7]
   refine hk _ _ (.inr ⟨b,G,by simp,h1,h2,T.af _ _ _,by simp; omega⟩) (Nat.le_refl _) rfl ?_ ?_ ?_
   ·intro c hc hne
    refine T.ah _ _ ?_
    rintro rfl
    exact hne _ h3
   ·intro c hc hne
    refine T.ah _ _ ?_
    rintro rfl
    exact hne _ _ rfl
   ·intro c n cap hc e
    injection e with e; injection e with e; injection e with e
    subst e
    exact ⟨_,_,rfl⟩
theorem KR (bp:Nat) (F:List Int) (ls:Value) (x:Int) (h:Heap) (κ:KQ) (f:fc h bp F ls) (hlen:F.length≤10000) (hlo:h.lo≤h.nx) (hls:∃a n c,ls=.slice a n c)
  (hk:∀h' F',fc h' bp F' ls→F'.Perm (F++[x])→(HP F→HP F')→wu bp h h'→κ (.tuple ⟨[]⟩) h'):CallW Tryz.prog 146 [frV bp,.iface 3 (.int .i64 x)] h κ:=by
 obtain ⟨la,ln,lc,rfl⟩:=hls
 refine aj mixed ?_
 rw[Ke]
 simp(disch:=first|omega|simp only[Wd]<;>omega|with_unfolding_all rfl)only[Wz,ci_push]
 refine aj mixed ?_
 rw[TK]
 obtain ⟨fs,hg,hpt⟩:=f.cell
 have hfs:∃a n c,fs=.slice a n c:=by
  rcases hpt with ⟨_,rfl⟩ | ⟨b,G,rfl,_⟩<;>exact ⟨_,_,_,rfl⟩
 have hbp:=f.lt
 have agY:=f.lo
 simp(disch:=first|omega|simp only[Wd]<;>omega|with_unfolding_all rfl)only[Wz,cq,Cs,ax,hg]
 have hle1:=(Le.refl h).new (aa [.int .i64 x] 3 false)
 obtain ⟨hA,eA⟩:∃hA:Heap,hA=⟨h.nx+1,h.bl.aS h.nx (aa [.int .i64 x] 3 false),h.lo⟩:=⟨_,rfl⟩
 rw[←eA] at hle1 ⊢
 have nA:hA.nx=h.nx+1:=by rw[eA]
 have lA:hA.lo=h.lo:=by rw[eA]
 have gA:hA.bl.get h.nx=some (aa [.int .i64 x] 3 false):=by rw[eA]; exact T.af _ _ _
 have gbp:=(hle1.get bp hbp).trans hg
 have abT:mJ hA fs F:=by
  rcases hpt with e | ⟨b,G,e,h1,h2,h3,h4⟩
  ·exact .inl e
  ·exact .inr ⟨b,G,e,by omega,by omega,(hle1.get b h1).trans h3,h4⟩
 refine CD abT (by omega) gA (by omega) (by omega) _ ?_
 intro v' h2 hp2 n2 l2 hs2 hs3 hv3
 have g2:=(hs2 bp (by omega) (fun vs=>by rw[gbp]; exact aV)).trans gbp
 have w9:∃a n c,v'=.slice a n c:=by
  rcases hp2 with ⟨_,rfl⟩ | ⟨b,G,rfl,_⟩<;>exact ⟨_,_,_,rfl⟩
 obtain ⟨va,vn,vc,rfl⟩:=w9
 simp(disch:=first|omega|simp only[Wd]<;>omega|with_unfolding_all rfl)only[Wz,g2]
 obtain ⟨hB,eB⟩:∃hB:Heap,hB=⟨h2.nx,h2.bl.aS bp (aa [.slice va vn vc,.slice la ln lc] 225 false),h2.lo⟩:=⟨_,rfl⟩
 rw[←eB]
 have nB:hB.nx=h2.nx:=by rw[eB]
 have lB:hB.lo=h2.lo:=by rw[eB]
 have gB:hB.bl.get bp=some (aa [.slice va vn vc,.slice la ln lc] 225 false):=by rw[eB]; exact T.af _ _ _
 have hpB:mJ hB (.slice va vn vc) (F++[x]):=by
  rcases hp2 with e | ⟨b,G,e,h1,h2',h3,h4⟩
  ·exact .inl e
  ·refine .inr ⟨b,G,e,by omega,by omega,?_,h4⟩
   rw[eB]
   exact (T.ah _ _ (by rintro rfl; rw[g2] at h3; exact aV h3)).trans h3
 have fB:fc hB bp (F++[x]) (.slice la ln lc):=⟨by omega,by omega,_,gB,hpB⟩
 have frB:wu bp h hB:=by
  refine ⟨by omega,by omega,fun c hc hn hi=>?_,fun _ c hc hn hi=>?_,fun _ c hc hx=>?_⟩
  ·have e1:hA.bl.get c=h.bl.get c:=hle1.get c hc
   rw[eB]
   exact (T.ah _ _ (fun e=>hn e.symm)).trans ((hs2 c (by omega) (fun vs=>by rw[e1]; exact hi vs)).trans e1)
  ·have e1:hA.bl.get c=h.bl.get c:=hle1.get c hc
   rw[eB]
   exact (T.ah _ _ (fun e=>hn e.symm)).trans ((hs3 c (by omega) (fun n cap e=>hi ⟨n,cap,_,e▸hg⟩)).trans e1)
  ·obtain ⟨n,cap,ls',hx⟩:=hx
   rw[gB] at hx
   obtain ⟨n',cap',e⟩:=hv3 c n cap (by omega) (kG hx)
   exact ⟨n',cap',_,e▸hg⟩
 simp(disch:=first|omega|simp only[Wd]<;>omega|with_unfolding_all rfl)only[Wz,ci_len,gB]
 refine nQ (F++[x]) hB _ _ hpB ?_
 have el:(((F++[x]).length:Nat):Int)-1=(F.length:Int):=by simp
 have el2:(F++[x]).length=F.length+1:=by simp
 simp(disch:=first|omega|simp only[Wd]<;>omega|with_unfolding_all rfl)only[Wz,el]
 refine abQ bp (F++[x]) _ F.length hB _ fB (by omega) (by omega) ?_
 intro h3 F' f3 I6 hu3 Vg
 exact hk h3 F' f3 I6 (fun u=>hu3 (HP.push u x)) (frB.trans Vg)
theorem XY (bp:Nat) (F:List Int) (ls:Value) (h:Heap) (κ:KQ) (f:fc h bp F ls) (h0:F≠[]) (hlen:F.length≤10000) (hlo:h.lo≤h.nx) (hls:∃a n c,ls=.slice a n c)
  (hk:∀h' F' x,fc h' bp F' ls→(x::F').Perm F→(HP F→HP F'∧∀y∈F',x≤y)→wu bp h h'→κ (.iface 3 (.int .i64 x)) h'):CallW Tryz.prog 135 [frV bp] h κ:=by
 obtain ⟨la,ln,lc,rfl⟩:=hls
 have hpos:0<F.length:=List.length_pos_iff.2 h0
 refine aj mixed ?_
 rw[Kd]
 obtain ⟨fs,hg,hpt⟩:=f.cell
 simp(disch:=first|omega|simp only[Wd]<;>omega|with_unfolding_all rfl)only[Wz,ci_len,hg]
 refine nQ F h _ _ hpt ?_
 have el:((F.length:Nat):Int)-1=((F.length-1:Nat):Int):=by omega
 simp(disch:=first|omega|simp only[Wd]<;>omega|with_unfolding_all rfl)only[Wz,el,ci_swap,hg]
 refine sE F 0 (F.length-1) h _ _ hpt hpos (by omega) ?_
 intro h1 q1 q2 q3 q4 q5
 have f1:=f.same q1 q2 hg q3 q4
 have An:=qd (F:=F) (i:=0) (j:=F.length-1) hpos (by omega)
 have tu:=An.length_eq
 refine TV bp (lJ F 0 (F.length-1)) _ 0 (F.length-1) h1 _ f1 (by omega) (by omega) (by omega) ?_
 intro r h2 F2 f2 hp2 ht2 hd2 xM
 have KE:=hp2.length_eq
 obtain ⟨fs2,hg2,Ow⟩:=f2.cell
 have hbp:=f2.lt
 have hlb:=f2.lo
 simp(disch:=first|omega|simp only[Wd]<;>omega|with_unfolding_all rfl)only[Wz,ci_pop]
 refine aj mixed ?_
 rw[TJ]
 simp(disch:=first|omega|simp only[Wd]<;>omega|with_unfolding_all rfl)only[Wz,ax,hg2]
 refine nQ F2 h2 _ _ Ow ?_
 have el2:((F2.length:Nat):Int)-1=((F2.length-1:Nat):Int):=by omega
 rcases Ow with ⟨e,_⟩ | ⟨b,G,rfl,k1,k2,k3,k4⟩
 ·rw[e] at KE; simp at KE; omega
 obtain ⟨x,hx⟩:∃x,F2[F2.length-1]? = some x:=⟨_,List.getElem?_eq_getElem (by omega)⟩
 have hr:=nR (G:=G) hx
 have hfl:=br (enc:=cT) dz (F2++G)
 have hl3:(F2++G).length=F2.length+G.length:=List.length_append
 simp(disch:=first|omega|simp only[Wd]<;>omega|with_unfolding_all rfl)only[Wz,el2,hg2,aN,k3,hr,Nat.mul_one,Bp (n:=(F2++G).length) (i:=F2.length-1) (Nat.succ_pos 0) k3 (by rw[hfl]) (by omega) (by omega)]
 have hne:b≠bp:=by rintro rfl; rw[hg2] at k3; exact aV k3
 have eF:F2=F2.take (F2.length-1)++[x]:=by
  conv=>lhs; rw[←List.take_append_drop (F2.length-1) F2]
  congr 1
  have hlt:F2.length-1<F2.length:=by omega
  rw[List.drop_eq_getElem_cons hlt,List.drop_of_length_le (by omega)]
  rw[List.getElem?_eq_getElem hlt] at hx
  cases hx; rfl
 refine hk ⟨h2.nx,h2.bl.aS bp (aa [.slice (some ⟨b,0,none⟩) (F2.length-1) aD,.slice la ln lc] 225 false),h2.lo⟩ (F2.take (F2.length-1)) x ⟨hbp,hlb,_,T.af _ _ _,.inr ⟨b,x::G,by simp,k1,k2,?_,by simp; omega⟩⟩ ?_ ?_ ?_
 ·rw[show F2.take (F2.length-1)++x::G=F2++G by conv=>rhs; rw[eF]; simp]
  exact (T.ah _ _ (fun e=>hne e.symm)).trans k3
 ·refine List.Perm.trans ?_ (hp2.trans An)
  conv=>rhs; rw[eF]
  exact (List.perm_append_singleton x _).symm
 ·intro u
  refine ⟨HN.take (by rw[KE,tu]; exact hd2 (HP.pop u hpos)) (by omega),fun y hy=>?_⟩
  have hyF:y∈F:=by
   refine (hp2.trans An).mem_iff.1 ?_
   rw[eF]; exact List.mem_append_left _ hy
  obtain ⟨k,fQ,rfl⟩:=List.getElem_of_mem hyF
  have Rn:x=F.getD 0 0:=by
   have e1:=ht2 (F.length-1) (Nat.le_refl _)
   rw[KE,tu,e1,List.getElem?_eq_getElem (by omega)] at hx
   have e2:=rj (F:=F) (i:=0) (j:=F.length-1) hpos (by omega) (F.length-1)
   rw[if_pos rfl,gD (by omega)] at e2
   rw[←e2]
   exact (Option.some.inj hx).symm
  rw[Rn,←gD fQ]
  exact HP.least u _ k (Nat.lt_succ_self _) fQ
 ·refine wu.trans (wu.trans (.swap hg q1 q2 q4 q5) xM) ⟨Nat.le_refl _,rfl,fun c _ hn _=>T.ah _ _ (fun e=>hn e.symm),fun _ c _ hn _=>T.ah _ _ (fun e=>hn e.symm),fun _ c _ hx=>?_⟩
  obtain ⟨n,cap,ls',hx⟩:=hx
  have e:=kG ((T.af _ _ _).symm.trans hx)
  injection e with e; injection e with e; injection e with e
  subst e
  exact ⟨_,_,_,hg2⟩
structure i_ (F:List Int) (B:List Bool):Prop where
 nodup:F.Nodup
 mem:∀n:Nat,(n:Int)∈F↔B[n]? = some false
 pos:∀x∈F,0≤x
 hp:HP F
structure de (h:Heap) (bp bl:Nat) (F:List Int) (B:List Bool):Prop where
 fr:fc h bp F (.slice (some ⟨bl,0,none⟩) B.length B.length)
 lt:bl<h.nx
 lo:h.lo≤bl
 cell:h.bl.get bl=some (aa (B.map Value.bool) 4 false)
 ok:i_ F B
 small:B.length≤128
theorem i_.take {F F':List Int} {B:List Bool} {x:Int} (o:i_ F B) (hp:(x::F').Perm F) (hu:HP F→HP F'∧∀y∈F',x≤y):∃n:Nat,x=(n:Int)∧n<B.length∧B[n]? = some false∧(∀k,k<n→B[k]? = some true)∧i_ F' (B.set n true):=by
 have hx:x∈F:=hp.mem_iff.1 (.head _)
 obtain ⟨n,rfl⟩:∃n:Nat,x=(n:Int):=⟨x.toNat,by have:=o.pos x hx; omega⟩
 have hb:=(o.mem n).1 hx
 have hn:n<B.length:=(List.getElem?_eq_some_iff.1 hb).1
 have hnd:((n:Int)::F').Nodup:=(hp.nodup_iff).2 o.nodup
 rw[List.nodup_cons] at hnd
 obtain ⟨IV,Rh⟩:=hu o.hp
 have TW:∀k,k<n→B[k]? = some true:=by
  intro k hk
  have Zl:k<B.length:=by omega
  rw[List.getElem?_eq_getElem Zl]
  cases hbk:B[k] with
  | true=>rfl
  | false=>
   have hkF:(k:Int)∈F:=(o.mem k).2 (by rw[List.getElem?_eq_getElem Zl,hbk])
   rcases List.mem_cons.1 (hp.mem_iff.2 hkF) with h | h
   ·omega
   ·have:=Rh _ h; omega
 refine ⟨n,rfl,hn,hb,TW,hnd.2,fun k=>?_,fun y hy=>o.pos y (hp.mem_iff.1 (.tail _ hy)),IV⟩
 rw[List.getElem?_set]
 by_cases hk:n=k
 ·subst hk
  rw[if_pos rfl,if_pos hn]
  simp[hnd.1]
 ·rw[if_neg hk,←o.mem k,←hp.mem_iff,List.mem_cons]
  constructor
  ·exact fun h=>.inr h
  ·rintro (h | h)
   ·omega
   ·exact h
theorem i_.abW {F F':List Int} {B:List Bool} {n:Nat} (o:i_ F B) (hb:B[n]? = some true) (hp:F'.Perm (F++[(n:Int)])) (hu:HP F→HP F'):i_ F' (B.set n false):=by
 have hn:n<B.length:=(List.getElem?_eq_some_iff.1 hb).1
 have hno:(n:Int)∉F:=fun h=>by have:=(o.mem n).1 h; rw[hb] at this; cases this
 refine ⟨(hp.nodup_iff).2 ?_,fun k=>?_,fun y hy=>?_,hu o.hp⟩
 ·rw[List.nodup_append]
  refine ⟨o.nodup,by simp,fun a ha b hb'=>?_⟩
  rw[List.mem_singleton] at hb'
  subst hb'
  rintro rfl
  exact hno ha
 ·rw[hp.mem_iff,List.mem_append,List.mem_singleton,List.getElem?_set]
  by_cases hk:n=k
  ·subst hk; rw[if_pos rfl,if_pos hn]; simp
  ·rw[if_neg hk,←o.mem k]
   constructor
   ·rintro (h | h)
    ·exact h
    ·omega
   ·exact fun h=>.inl h
 ·rcases List.mem_append.1 (hp.mem_iff.1 hy) with h | h
  ·exact o.pos y h
  ·rw[List.mem_singleton] at h; omega
theorem QB (h:Heap) (b o:Nat):lT Tryz.prog h 100 144 (.pointer (some ⟨b,o,none⟩)) (.pointer none)=some false:=by kernel_rfl
theorem uy {β:Type} {fl:β} (cn:Bool) (b o:Nat) (h:Heap) (κ:Value→Heap→β):au fl Tryz.prog .eql 144 cn false (.pointer (some ⟨b,o,none⟩)) (.pointer none) h κ=κ (.bool false) h:=by simp only[au,QB,bP]
theorem zT {β:Type} {fl:β} (cn:Bool) (b o:Nat) (h:Heap) (κ:Value→Heap→β):au fl Tryz.prog .neq 144 cn false (.pointer (some ⟨b,o,none⟩)) (.pointer none) h κ=κ (.bool true) h:=by simp only[au,QB,bP,Bool.not_false]
theorem TX (bp bl:Nat) (F:List Int) (B:List Bool) (h:Heap) (κ:KQ) (p:de h bp bl F B) (hF:F.length≤1000) (hk:κ (.int .i64 ((B.length:Int)-F.length)) h):CallW Tryz.prog 102 [.pointer (some ⟨bp,0,none⟩)] h κ:=by
 refine aj mixed ?_
 rw[Sh]
 obtain ⟨fs,hg,hpt⟩:=p.fr.cell
 have hs:=p.small
 have hfs:∃a n c,fs=.slice a n c:=by
  rcases hpt with ⟨_,rfl⟩ | ⟨b,G,rfl,_⟩<;>exact ⟨_,_,_,rfl⟩
 obtain ⟨va,vn,vc,rfl⟩:=hfs
 simp(disch:=first|omega|simp only[Wd]<;>omega|with_unfolding_all rfl)only[Wz,uy,Bz,ax,hg]
 refine nQ F h _ _ hpt ?_
 simp(disch:=first|omega|simp only[Wd]<;>omega|with_unfolding_all rfl)only[Wz,ax,hg]
 exact hk
theorem QC (bp bl:Nat) (F:List Int) (B:List Bool) (i:Int) (h:Heap) (κ:KQ) (p:de h bp bl F B) (hk:κ (.bool (decide (0≤i) && (B[i.toNat]?).getD false)) h):CallW Tryz.prog 242 [.pointer (some ⟨bp,0,none⟩),.int .i64 i] h κ:=by
 refine aj mixed ?_
 rw[S0]
 obtain ⟨fs,hg,hpt⟩:=p.fr.cell
 by_cases h0:0≤i
 ·obtain ⟨n,rfl⟩:∃n:Nat,i=(n:Int):=⟨i.toNat,by omega⟩
  rw[bf h0,Bool.true_and,Int.toNat_natCast] at hk
  by_cases h1:n<B.length
  ·have hr:(B.map Value.bool)[n]? = some (.bool B[n]):=by rw[List.getElem?_map,List.getElem?_eq_getElem h1]; rfl
   rw[List.getElem?_eq_getElem h1] at hk
   simp(disch:=first|omega|simp only[Wd]<;>omega|with_unfolding_all rfl)only[Wz,zT,ax,hg,cg h0,fH (show (n:Int)<(B.length:Int) by omega),aN,p.cell,hr,Nat.mul_one]
   exact hk
  ·rw[List.getElem?_eq_none (by omega)] at hk
   simp(disch:=first|omega|simp only[Wd]<;>omega|with_unfolding_all rfl)only[Wz,zT,ax,hg,cg h0,cg (show (B.length:Int)≤(n:Int) by omega)]
   exact hk
 ·rw[a_ h0,Bool.false_and] at hk
  simp(disch:=first|omega|simp only[Wd]<;>omega|with_unfolding_all rfl)only[Wz,zT,ax,hg,fH (show i<0 by omega)]
  exact hk
structure Gc (bp bl:Nat) (h h':Heap):Prop where
 nx:h.nx≤h'.nx
 lo:h'.lo=h.lo
 get:∀c,c<h.nx→c≠bp→c≠bl→(∀vs,h.bl.get c≠some (aa vs 3 true))→h'.bl.get c=h.bl.get c
 g2:bp<h.nx→∀c,c<h.nx→c≠bp→c≠bl→¬FB h bp c→h'.bl.get c=h.bl.get c
 mv:bp<h.nx→∀c,c<h.nx→FB h' bp c→FB h bp c
theorem Gc.trans {bp bl:Nat} {h h' h'':Heap} (a:Gc bp bl h h') (b:Gc bp bl h' h''):Gc bp bl h h'':=
 ⟨Nat.le_trans a.nx b.nx,b.lo.trans a.lo,fun c hc hn hl hi=>(b.get c (Nat.lt_of_lt_of_le hc a.nx) hn hl (fun vs=>by rw[a.get c hc hn hl hi]; exact hi vs)).trans (a.get c hc hn hl hi),
  fun hb c hc hn hl hi=>(b.g2 (Nat.lt_of_lt_of_le hb a.nx) c (Nat.lt_of_lt_of_le hc a.nx) hn hl fun x=>hi (a.mv hb c hc x)).trans (a.g2 hb c hc hn hl hi),
  fun hb c hc x=>a.mv hb c hc (b.mv (Nat.lt_of_lt_of_le hb a.nx) c (Nat.lt_of_lt_of_le hc a.nx) x)⟩
theorem Gc.XZ {bp bl:Nat} {h h':Heap} (f:wu bp h h'):Gc bp bl h h':=⟨f.nx,f.lo,fun c hc hn _ hi=>f.get c hc hn hi,fun hb c hc hn _ hi=>f.g2 hb c hc hn hi,f.mv⟩
theorem wB (B:List Bool) (n:Nat) (b:Bool):over (B.map Value.bool) n [.bool b]=(if n<B.length then (B.set n b).map Value.bool else over (B.map Value.bool) n [.bool b]):=by
 split
 ·rename_i h
  rw[List.map_set]
  unfold over
  rw[List.set_eq_take_append_cons_drop,if_pos (by simpa using h)]
  simp
 ·rfl
theorem yy {B:List Bool} {n:Nat} {b:Bool} (h:n<B.length):over (B.map Value.bool) n [.bool b]=(B.set n b).map Value.bool:=by
 rw[wB,if_pos h]
theorem TY (bp bl:Nat) (F:List Int) (B:List Bool) (h:Heap) (κ:KQ) (p:de h bp bl F B) (hF:F.length≤1000) (hlo:h.lo≤h.nx) (hne:bp≠bl)
  (j7:F=[]→κ (.tuple ⟨[.int .i64 0,.int .i64 8]⟩) h)
  (fQ:∀h' F' (n:Nat),de h' bp bl F' (B.set n true)→((n:Int)::F').Perm F→B[n]? = some false→(∀k,k<n→B[k]? = some true)→Gc bp bl h h'→κ (.tuple ⟨[.int .i64 (n:Int),.int .i64 0]⟩) h'):CallW Tryz.prog 292 [.pointer (some ⟨bp,0,none⟩)] h κ:=by
 refine aj mixed ?_
 rw[Tl]
 obtain ⟨fs,hg,hpt⟩:=p.fr.cell
 simp(disch:=first|omega|simp only[Wd]<;>omega|with_unfolding_all rfl)only[Wz,uy,Ck,ax,hg]
 refine nQ F h _ _ hpt ?_
 by_cases h0:F=[]
 ·simp(disch:=first|omega|simp only[Wd]<;>omega|with_unfolding_all rfl)only[Wz,bf (show (F.length:Int)=0 by simp[h0])]
  exact j7 h0
 have hpos:0<F.length:=List.length_pos_iff.2 h0
 simp(disch:=first|omega|simp only[Wd]<;>omega|with_unfolding_all rfl)only[Wz,a_ (show ¬(F.length:Int)=0 by omega),Cj,ax]
 refine XY bp F _ h _ p.fr h0 (by omega) hlo ⟨_,_,_,rfl⟩ ?_
 intro h2 F' x f2 hp2 Rh xM
 obtain ⟨n,rfl,hn,hb,TZ,ho⟩:=p.ok.take hp2 Rh
 obtain ⟨fs2,hg2,Ow⟩:=f2.cell
 have KS:=p.lt
 have abX:=p.lo
 have n2:=xM.nx
 have l2:=xM.lo
 have hlm:(B.map Value.bool).length=B.length:=by simp
 have gl:=(xM.get bl KS (fun e=>hne e.symm) (fun vs=>by rw[p.cell]; exact aV)).trans p.cell
 simp(disch:=first|omega|simp only[Wd]<;>omega|with_unfolding_all rfl)only[Wz,cq,ax,hg2,aN,gl,Nat.mul_one,yy hn]
 refine fQ ⟨h2.nx,h2.bl.aS bl (aa ((B.set n true).map Value.bool) 4 false),h2.lo⟩ F' n ⟨⟨f2.lt,f2.lo,fs2,?_,?_⟩,by show bl<h2.nx; omega,by show h2.lo≤bl; omega,T.af _ _ _,ho,by rw[List.length_set]; exact p.small⟩ hp2 hb TZ ?_
 ·rw[List.length_set]; exact (T.ah _ _ (fun e=>hne e.symm)).trans hg2
 ·rcases Ow with e | ⟨b,G,e,k1,k2,k3,k4⟩
  ·exact .inl e
  ·exact .inr ⟨b,G,e,k1,k2,(T.ah _ _ (by rintro rfl; rw[gl] at k3; exact aV k3)).trans k3,k4⟩
 ·exact (Gc.XZ xM).trans ⟨Nat.le_refl _,rfl,fun c _ _ hn _=>T.ah _ _ (fun e=>hn e.symm),fun _ c _ _ hn _=>T.ah _ _ (fun e=>hn e.symm),fun _ c _ hx=>(FB.congr (T.ah _ _ (fun e=>hne e.symm))).1 hx⟩
theorem KU (bp bl:Nat) (F:List Int) (B:List Bool) (n:Nat) (h:Heap) (κ:KQ) (p:de h bp bl F B) (hF:F.length≤1000) (hlo:h.lo≤h.nx) (hne:bp≠bl) (hb:B[n]? = some true)
  (hk:∀h' F',de h' bp bl F' (B.set n false)→F'.Perm (F++[(n:Int)])→Gc bp bl h h'→κ (.int .i64 0) h'):CallW Tryz.prog 246 [.pointer (some ⟨bp,0,none⟩),.int .i64 (n:Int)] h κ:=by
 refine aj mixed ?_
 rw[S4]
 have hn:n<B.length:=(List.getElem?_eq_some_iff.1 hb).1
 have hlm:(B.map Value.bool).length=B.length:=by simp
 obtain ⟨fs,hg,hpt⟩:=p.fr.cell
 simp(disch:=first|omega|simp only[Wd]<;>omega|with_unfolding_all rfl)only[Wz,uy]
 refine QC bp bl F B (n:Int) h _ p ?_
 have eh:(decide ((0:Int)≤(n:Int)) && (B[((n:Int)).toNat]?).getD false)=true:=by
  rw[bf (by omega),Int.toNat_natCast,hb]; rfl
 rw[eh]
 have KS:=p.lt
 have abX:=p.lo
 simp(disch:=first|omega|simp only[Wd]<;>omega|with_unfolding_all rfl)only[Wz,B3,ax,hg,aN,p.cell,Nat.mul_one,yy hn]
 obtain ⟨hA,eA⟩:∃hA:Heap,hA=⟨h.nx,h.bl.aS bl (aa ((B.set n false).map Value.bool) 4 false),h.lo⟩:=⟨_,rfl⟩
 rw[←eA]
 have nA:hA.nx=h.nx:=by rw[eA]
 have lA:hA.lo=h.lo:=by rw[eA]
 have gbl:hA.bl.get bl=some (aa ((B.set n false).map Value.bool) 4 false):=by rw[eA]; exact T.af _ _ _
 have fA:fc hA bp F (.slice (some ⟨bl,0,none⟩) B.length B.length):=by
  refine ⟨by rw[nA]; exact p.fr.lt,by rw[lA]; exact p.fr.lo,fs,by rw[eA]; exact (T.ah _ _ (fun e=>hne e.symm)).trans hg,?_⟩
  rcases hpt with e | ⟨b,G,e,k1,k2,k3,k4⟩
  ·exact .inl e
  ·refine .inr ⟨b,G,e,by omega,by omega,?_,k4⟩
   rw[eA]
   exact (T.ah _ _ (by rintro rfl; rw[p.cell] at k3; exact aV k3)).trans k3
 have Dx:Gc bp bl h hA:=⟨by omega,lA,fun c _ _ hn _=>by rw[eA]; exact T.ah _ _ (fun e=>hn e.symm),fun _ c _ _ hn _=>by rw[eA]; exact T.ah _ _ (fun e=>hn e.symm),fun _ c _ hx=>(FB.congr (by rw[eA]; exact T.ah _ _ (fun e=>hne e.symm))).1 hx⟩
 refine KR bp F _ (n:Int) hA _ fA (by omega) (by omega) ⟨_,_,_,rfl⟩ ?_
 intro h3 F' f3 I6 hu3 Vg
 have n3:=Vg.nx
 have l3:=Vg.lo
 refine hk h3 F' ⟨by rw[List.length_set]; exact f3,by omega,by omega,?_,p.ok.abW hb I6 hu3,by rw[List.length_set]; exact p.small⟩ I6 (Dx.trans (Gc.XZ Vg))
 exact (Vg.get bl (by omega) (fun e=>hne e.symm) (fun vs=>by rw[gbl]; exact aV)).trans gbl
theorem tC (n:Nat):aT [Value.bool false] n=(List.replicate n false).map Value.bool:=by
 induction n with
 | zero=>rfl
 | succ n ih=>rw[List.replicate_succ,List.map_cons,←ih]; rfl
theorem i_.new (most:Nat) {F:List Int} (hp:F.Perm ((List.range most).map fun n:Nat=>(n:Int))) (hu:HP F):i_ F (List.replicate most false):=by
 refine ⟨(hp.nodup_iff).2 ?_,fun n=>?_,fun x hx=>?_,hu⟩
 ·rw[List.Nodup,List.pairwise_map]
  exact List.nodup_range.imp fun hne e=>hne (Int.ofNat.inj e)
 ·rw[hp.mem_iff,List.mem_map,List.getElem?_replicate]
  constructor
  ·rintro ⟨a,ha,e⟩
   have:a=n:=Int.ofNat.inj e
   subst this
   rw[if_pos (List.mem_range.1 ha)]
  ·intro h
   by_cases hn:n<most
   ·exact ⟨n,List.mem_range.2 hn,rfl⟩
   ·rw[if_neg hn] at h; cases h
 ·obtain ⟨a,_,rfl⟩:=List.mem_map.1 (hp.mem_iff.1 hx)
  omega
theorem Hy (most:Nat) (h:Heap) (κ:KQ) (hm:most≤128) (hlo:h.lo≤h.nx)
  (hk:∀bp bl h' F,de h' bp bl F (List.replicate most false)→bp≠bl→h.nx≤bp→h.nx≤bl→F.length=most→Le h h'→(∀x,FB h' bp x→h.nx≤x)→κ (.tuple ⟨[.pointer (some ⟨bp,0,none⟩),.int .i64 0]⟩) h') :
  CallW Tryz.prog 108 [.int .i64 (most:Int)] h κ:=by
 refine aj mixed ?_
 rw[J_]
 simp(disch:=first|omega|simp only[Wd]<;>omega|with_unfolding_all rfl)only[Wz,cg (show (0:Int)≤(most:Int) by omega),cg (show (most:Int)≤128 by omega)]
 have hrl:(aT [Value.bool false] most).length=most:=by rw[tC]; simp
 rw[zC _ _ _ _ _ (by omega) (by omega),tC]
 simp(disch:=first|omega|simp only[Wd]<;>omega|with_unfolding_all rfl)only[Wz]
 obtain ⟨hA,aK⟩:∃hA:Heap,hA=⟨h.nx+1+1,((h.bl.aS (h.nx) (aa ((List.replicate most false).map Value.bool) 4 false)).aS (h.nx+1) (aa [.slice none 0 0,.slice (some ⟨h.nx,0,none⟩) most most] 225 false)),h.lo⟩:=⟨_,rfl⟩
 have aO:Le h hA:=by subst aK; exact (((Le.refl h).new _).new _)
 have gl:hA.bl.get (h.nx)=some (aa ((List.replicate most false).map Value.bool) 4 false):=by subst aK; exact (T.ah _ _ (by omega)).trans (T.af _ _ _)
 have gp:hA.bl.get (h.nx+1)=some (aa [.slice none 0 0,.slice (some ⟨h.nx,0,none⟩) most most] 225 false):=by subst aK; exact T.af _ _ _
 have gH:hA.nx=h.nx+1+1:=by subst aK; rfl
 have gI:hA.lo=h.lo:=by subst aK; rfl
 rw[←aK]
 clear aK
 refine ⟨fun m l h1=>∃(i:Nat) (F:List Int),slot l 11=.int .i64 (i:Int)∧m=most-i∧i≤most∧fc h1 (h.nx+1) F (.slice (some ⟨h.nx,0,none⟩) most most)∧F.Perm ((List.range i).map fun n:Nat=>(n:Int))∧HP F∧wu (h.nx+1) hA h1,⟨_,0,[],rfl,rfl,by omega,⟨by omega,by omega,_,gp,.inl ⟨rfl,rfl⟩⟩,List.Perm.refl _,fun i h1 h2=>absurd h2 (Nat.not_lt_zero _),wu.refl _ _⟩,?_⟩
 rintro m l h1 ⟨i,F1,s1,rfl,hi,f1,hp1,IV,Gb⟩
 have n1:=Gb.nx
 have l1:=Gb.lo
 have tu:F1.length=i:=by rw[hp1.length_eq]; simp
 by_cases hst:i<most
 ·simp(disch:=first|omega|simp only[Wd]<;>omega|with_unfolding_all rfl)only[Wz,vE,s1,fH (show (i:Int)<(most:Int) by omega),ax]
  refine KR (h.nx+1) F1 _ (i:Int) h1 _ f1 (by omega) (by omega) ⟨_,_,_,rfl⟩ ?_
  intro h2 F2 f2 hp2 Rh xM
  refine ⟨_,?_,i+1,F2,rfl,rfl,by omega,f2,?_,Rh IV,Gb.trans xM⟩
  ·omega
  ·rw[List.range_succ,List.map_append]
   exact hp2.trans (hp1.append_right _)
 ·have hie:i=most:=by omega
  subst hie
  simp(disch:=first|omega|simp only[Wd]<;>omega|with_unfolding_all rfl)only[Wz,vE,s1,cg (show (i:Int)≤(i:Int) by omega)]
  refine hk (h.nx+1) h.nx h1 F1 ⟨by rw[List.length_replicate]; exact f1,by omega,by omega,?_,i_.new _ hp1 IV,by rw[List.length_replicate]; exact hm⟩ (by omega) (by omega) (by omega) tu ⟨by omega,by omega,fun c hc=>?_⟩ fun x hx=>?_
  ·exact (Gb.get h.nx (by omega) (by omega) (fun vs=>by rw[gl]; exact aV)).trans gl
  ·refine (Gb.g2 (by omega) c (by omega) (by omega) ?_).trans (aO.get c hc)
   rintro ⟨n,cap,ls,hx⟩
   have:=kG (gp.symm.trans hx)
   cases this
  ·rcases Nat.lt_or_ge x h.nx with hlt | hge
   ·obtain ⟨n,cap,ls,hx⟩:=Gb.mv (by omega) x (by omega) hx
    have:=kG (gp.symm.trans hx)
    cases this
   ·exact hge
structure HE where
 t:Int
 r:Int
 hb:Nat
 born:Nat
 q:Value
 w:Int
 Q:List R5
def jS (e:HE):MapEntry:={ key:=ew e.t e.r,val:=.pointer (some ⟨e.hb,0,none⟩),born:=e.born }
def rm (t r:Int) (e:HE):Bool:=decide (t=e.t∧r=e.r)
theorem o_ {t r:Int} {x:HE}:(!rm t r x)=true↔¬(t=x.t∧r=x.r):=by unfold rm; rw[Bool.not_eq_true',decide_eq_false_iff_not]
structure eW (M:List HE) (clock:Nat):Prop where
 nm:M.Pairwise fun a b=>¬(a.t=b.t∧a.r=b.r)
 bn:M.Pairwise fun a b=>a.born≠b.born
 lt:∀e∈M,e.born<clock
theorem abZ (h:Heap) (a b c d:Int):lT Tryz.prog h 100 36 (.agg ⟨[.int .i64 a,.int .i64 b]⟩) (.agg ⟨[.int .i64 c,.int .i64 d]⟩) =
  (match (some (pg a c)) with | some true=>(match some (pg b d) with | some true=>some true | r=>r) | r=>r):=by kernel_rfl
theorem eqN (h:Heap) (a b c d:Int):lT Tryz.prog h 100 36 (ew a b) (ew c d)=some (decide (a=c∧b=d)):=by
 unfold ew
 rw[abZ,eP,eP]
 by_cases h1:a=c<;>by_cases h2:b=d<;>simp[h1,h2]
theorem KV (t r:Int):jf Tryz.prog 20 36 (ew t r)=true:=by kernel_rfl
theorem ab1 (t r:Int):iI 3 (ew t r) (ew t r)=true:=by unfold iI; exact sq 1 [t,r]
theorem nj (x:MapEntry):∀(l:List MapEntry) (κ:List MapEntry→Prop),Au x l κ=κ (l++[x]):=by
 intro l
 induction l with
 | nil=>intro κ; rfl
 | cons a l ih=>intro κ; exact ih _
theorem qD (f:MapEntry→MapEntry):∀(l:List MapEntry) (j:Nat) (e:MapEntry) (κ:List MapEntry→Prop),l[j]? = some e→setAt f j l κ=κ (l.set j (f e)):=by
 intro l
 induction l with
 | nil=>intro j e κ h; simp at h
 | cons a l ih=>
  intro j e κ h
  cases j with
  | zero=>rw[List.getElem?_cons_zero] at h; cases h; rfl
  | succ j=>rw[List.getElem?_cons_succ] at h; exact ih j e _ h
theorem uV:∀(l:List MapEntry) (j:Nat) (κ:List MapEntry→Prop),xS j l κ=κ (l.eraseIdx j):=by
 intro l
 induction l with
 | nil=>intro j κ; cases j<;>rfl
 | cons a l ih=>
  intro j κ
  cases j with
  | zero=>rfl
  | succ j=>exact ih j _
theorem CE (h:Heap) (t r:Int):∀(M:List HE) (i:Nat),(fC Tryz.prog h 36 (ew t r) (M.map jS) i=some none∧∀e∈M,¬(t=e.t∧r=e.r))∨
  ∃(j:Nat) (e:HE),fC Tryz.prog h 36 (ew t r) (M.map jS) i=some (some (i+j,jS e))∧M[j]? = some e∧t=e.t∧r=e.r:=by
 intro M
 induction M with
 | nil=>intro i; exact .inl ⟨rfl,fun e he=>nomatch he⟩
 | cons e M ih=>
  intro i
  have hf:fC Tryz.prog h 36 (ew t r) ((e::M).map jS) i=(match (some (decide (t=e.t∧r=e.r)):Option Bool) with | some true=>some (some (i,jS e)) | some false=>fC Tryz.prog h 36 (ew t r) (M.map jS) (Nat.succ i) | none=>none):=by
   rw[←eqN h]; rfl
  rw[hf]
  by_cases h1:t=e.t∧r=e.r
  ·rw[bf h1]
   exact .inr ⟨0,e,rfl,rfl,h1.1,h1.2⟩
  ·rw[a_ h1]
   rcases ih (Nat.succ i) with ⟨g1,g2⟩ | ⟨j,e',g1,g2,g3,g4⟩
   ·exact .inl ⟨g1,fun x hx=>by rcases List.mem_cons.1 hx with rfl | hx; exact h1; exact g2 x hx⟩
   ·exact .inr ⟨j+1,e',by rw[show i+(j+1)=Nat.succ i+j by omega]; exact g1,g2,g3,g4⟩
theorem yz {β:Type} {fl:β} {M:List HE} {clock:Nat} {h:Heap} {bm:Nat} (g:h.bl.get bm=some (.map (M.map jS) clock)) (t r:Int) (hn:∀e∈M,¬(t=e.t∧r=e.r)) (κ:Value→Heap→β) :
  c8 fl Tryz.prog 36 (.pointer none) true (.map (some bm)) (ew t r) h κ=κ (.tuple ⟨[.pointer none,.bool false]⟩) h:=by
 unfold c8 jm
 rw[KV]
 simp only[g]
 rcases CE h t r M 0 with ⟨g1,_⟩ | ⟨j,e,_,g2,g3,g4⟩
 ·rw[g1]
 ·exact absurd (And.intro g3 g4) (hn e (List.mem_of_getElem? g2))
theorem eW.uniq {M:List HE} {clock:Nat} (o:eW M clock) {e e':HE} (h:e∈M) (h':e'∈M) (ht:e.t=e'.t) (hr:e.r=e'.r):e=e':=by
 have:∀(L:List HE),(L.Pairwise fun a b=>¬(a.t=b.t∧a.r=b.r))→e∈L→e'∈L→e=e':=by
  intro L
  induction L with
  | nil=>intro _ h; nomatch h
  | cons a L ih=>
   intro hp h1 h2
   rw[List.pairwise_cons] at hp
   rcases List.mem_cons.1 h1 with rfl | k1<;>rcases List.mem_cons.1 h2 with rfl | k2
   ·rfl
   ·exact absurd ⟨ht,hr⟩ (hp.1 _ k2)
   ·exact absurd ⟨ht.symm,hr.symm⟩ (hp.1 _ k1)
   ·exact ih hp.2 k1 k2
 exact this M o.nm h h'
theorem CF {β:Type} {fl:β} {M:List HE} {clock:Nat} {h:Heap} {bm:Nat} (o:eW M clock) (g:h.bl.get bm=some (.map (M.map jS) clock)) {e:HE} (he:e∈M) (κ:Value→Heap→β) :
  c8 fl Tryz.prog 36 (.pointer none) true (.map (some bm)) (ew e.t e.r) h κ=κ (.tuple ⟨[.pointer (some ⟨e.hb,0,none⟩),.bool true]⟩) h:=by
 unfold c8 jm
 rw[KV]
 simp only[g]
 rcases CE h e.t e.r M 0 with ⟨g1,g2⟩ | ⟨j,e',g1,g2,g3,g4⟩
 ·exact absurd ⟨rfl,rfl⟩ (g2 e he)
 ·rw[g1]
  rw[o.uniq he (List.mem_of_getElem? g2) g3 g4]; rfl
theorem erase_filter {M:List HE} (hn:M.Pairwise fun a b=>¬(a.t=b.t∧a.r=b.r)) {j:Nat} {e:HE} (hj:M[j]? = some e):M.eraseIdx j=M.filter fun x=>!rm e.t e.r x:=by
 induction M generalizing j with
 | nil=>simp at hj
 | cons a M ih=>
  rw[List.pairwise_cons] at hn
  cases j with
  | zero=>
   rw[List.getElem?_cons_zero] at hj; cases hj
   rw[List.eraseIdx_cons_zero,List.filter_cons_of_neg (by simp[rm])]
   exact (List.filter_eq_self.2 fun x hx=>o_.2 (hn.1 x hx)).symm
  | succ j=>
   rw[List.getElem?_cons_succ] at hj
   have:=hn.1 e (List.mem_of_getElem? hj)
   rw[List.eraseIdx_cons_succ,List.filter_cons_of_pos (p:=fun x=>!rm e.t e.r x) (o_.2 fun ⟨h1,h2⟩=>this ⟨h1.symm,h2.symm⟩),ih hn.2 hj]
theorem Gd {α:Type} {R:α→α→Prop} (hs:∀{a b},R a b→R b a) {L L':List α} (hp:L.Perm L') (h:L.Pairwise R):L'.Pairwise R:=(hp.pairwise_iff hs).1 h
theorem eW.put {M M':List HE} {clock clock':Nat} (o:eW M clock) (hc:clock≤clock') {e:HE} (hp:M'.Perm (M.filter (fun x=>!rm e.t e.r x)++[e])) (hb:∀x∈M,¬(e.t=x.t∧e.r=x.r)→x.born≠e.born) (hlt:e.born<clock'):eW M' clock':=by
 have hm:∀x∈M.filter (fun x=>!rm e.t e.r x),x∈M∧¬(e.t=x.t∧e.r=x.r):=fun x hx=>by
  rw[List.mem_filter] at hx
  exact ⟨hx.1,o_.1 hx.2⟩
 refine ⟨Gd (fun h=>fun ⟨a,b⟩=>h ⟨a.symm,b.symm⟩) hp.symm (qR (o.nm.filter _) fun x hx=>fun ⟨a,b⟩=>(hm x hx).2 ⟨a.symm,b.symm⟩),Gd (fun h=>h.symm) hp.symm (qR (o.bn.filter _) fun x hx=>hb x (hm x hx).1 (hm x hx).2),fun x hx=>?_⟩
 rcases List.mem_append.1 (hp.mem_iff.1 hx) with h | h
 ·exact Nat.lt_of_lt_of_le (o.lt x (hm x h).1) hc
 ·rw[List.mem_singleton] at h; subst h; exact hlt
theorem T0 {M:List HE} {clock:Nat} {h:Heap} {bm:Nat} (o:eW M clock) (g:h.bl.get bm=some (.map (M.map jS) clock)) (hlo:h.lo≤bm) (t r:Int) (hb:Nat) (q:Value) (w:Int) (Q:List R5) (κ:KQ)
  (hk:∀M' clock' born,eW M' clock'→M'.Perm (M.filter (fun x=>!rm t r x)++[⟨t,r,hb,born,q,w,Q⟩])→κ undef ⟨h.nx,h.bl.aS bm (.map (M'.map jS) clock'),h.lo⟩) :
  bW False Tryz.prog 36 (.map (some bm)) (ew t r) (.pointer (some ⟨hb,0,none⟩)) h κ:=by
 unfold bW
 rw[KV]
 simp only[g]
 rcases CE h t r M 0 with ⟨g1,g2⟩ | ⟨j,e,g1,g2,g3,g4⟩
 ·rw[g1]
  simp only
  rw[nj]
  simp only[bL]
  rw[bD _ _ _ _ hlo]
  have An:(M++[(⟨t,r,hb,clock,q,w,Q⟩:HE)]).Perm (M.filter (fun x=>!rm t r x)++[⟨t,r,hb,clock,q,w,Q⟩]):=by
   rw[List.filter_eq_self.2 fun x hx=>o_.2 (g2 x hx)]
  have:=hk (M++[⟨t,r,hb,clock,q,w,Q⟩]) (clock+1) clock (o.put (e:=⟨t,r,hb,clock,q,w,Q⟩) (Nat.le_succ _) An (fun x hx _=>Nat.ne_of_lt (o.lt x hx)) (Nat.lt_succ_self _)) An
  rw[List.map_append] at this
  exact this
 ·rw[g1]
  simp only[jS,g3,g4,ab1]
  rw[Nat.zero_add,qD _ _ j (jS e) _ (by rw[List.getElem?_map,g2]; rfl),bD _ _ _ _ hlo]
  subst g3 g4
  have An:(M.set j (⟨e.t,e.r,hb,e.born,q,w,Q⟩:HE)).Perm (M.filter (fun x=>!rm e.t e.r x)++[⟨e.t,e.r,hb,e.born,q,w,Q⟩]):=by
   rw[←erase_filter o.nm g2]
   obtain ⟨hj,_⟩:=List.getElem?_eq_some_iff.1 g2
   rw[List.set_eq_take_append_cons_drop,if_pos hj,List.eraseIdx_eq_take_drop_succ]
   exact (List.perm_middle).trans (List.perm_append_singleton _ _).symm
  have hne:∀x∈M,¬(e.t=x.t∧e.r=x.r)→x.born≠e.born:=fun x hx hn uT=>by
   have:∀(L:List HE),(L.Pairwise fun a b=>a.born≠b.born)→e∈L→x∈L→e=x:=by
    intro L
    induction L with
    | nil=>intro _ h; nomatch h
    | cons a L ih=>
     intro hp h1 h2
     rw[List.pairwise_cons] at hp
     rcases List.mem_cons.1 h1 with rfl | k1<;>rcases List.mem_cons.1 h2 with rfl | k2
     ·rfl
     ·exact absurd uT.symm (hp.1 _ k2)
     ·exact absurd uT (hp.1 _ k1)
     ·exact ih hp.2 k1 k2
   have:=this M o.bn (List.mem_of_getElem? g2) hx
   subst this
   exact hn ⟨rfl,rfl⟩
  have:=hk (M.set j ⟨e.t,e.r,hb,e.born,q,w,Q⟩) clock e.born (o.put (e:=⟨e.t,e.r,hb,e.born,q,w,Q⟩) (Nat.le_refl _) An hne (o.lt e (List.mem_of_getElem? g2))) An
  rw[List.map_set] at this
  exact this
theorem Hz {α β:Type} (f:α→β):∀(l:List α) (j:Nat),(l.eraseIdx j).map f=(l.map f).eraseIdx j:=by
 intro l
 induction l with
 | nil=>intro j; rfl
 | cons a l ih=>
  intro j
  cases j with
  | zero=>rfl
  | succ j=>simp[ih j]
theorem T1 {M:List HE} {clock:Nat} {h:Heap} {bm:Nat} (o:eW M clock) (g:h.bl.get bm=some (.map (M.map jS) clock)) (hlo:h.lo≤bm) (t r:Int) (κ:KQ)
  (hk:∀h',h'=⟨h.nx,h.bl.aS bm (.map ((M.filter (fun x=>!rm t r x)).map jS) clock),h.lo⟩∨(h'=h∧M.filter (fun x=>!rm t r x)=M)→κ (.tuple ⟨[]⟩) h') :
  kg False Tryz.prog 36 (.map (some bm)) (ew t r) h κ:=by
 unfold kg
 rw[KV]
 simp only[g]
 rcases CE h t r M 0 with ⟨g1,g2⟩ | ⟨j,e,g1,g2,g3,g4⟩
 ·rw[g1]
  exact hk h (.inr ⟨rfl,List.filter_eq_self.2 fun x hx=>o_.2 (g2 x hx)⟩)
 ·rw[g1]
  simp only
  rw[Nat.zero_add,uV,bD _ _ _ _ hlo]
  subst g3 g4
  refine hk _ (.inl ?_)
  rw[←erase_filter o.nm g2,Hz]
theorem eW.filter {M:List HE} {clock:Nat} (o:eW M clock) (p:HE→Bool):eW (M.filter p) clock:=⟨o.nm.filter _,o.bn.filter _,fun e he=>o.lt e (List.mem_filter.1 he).1⟩
def zU (M:List HE) (seen:List Nat):Nat:=M.countP fun e=>!seen.any (Nat.beq e.born)
theorem HA {α:Type} {p q:α→Bool}:∀(L:List α),(∀x∈L,q x=true→p x=true)→(∃x∈L,p x=true∧q x=false)→L.countP q<L.countP p:=by
 intro L
 induction L with
 | nil=>rintro _ ⟨x,hx,_⟩; nomatch hx
 | cons a L ih=>
  intro h hx
  have hle:L.countP q≤L.countP p:=List.countP_mono_left fun x hx=>h x (.tail _ hx)
  rw[List.countP_cons,List.countP_cons]
  by_cases ha:p a=true∧q a=false
  ·rw[ha.1,ha.2]; simp; omega
  ·have ht:∃x∈L,p x=true∧q x=false:=by
    obtain ⟨x,hx,h1⟩:=hx
    rcases List.mem_cons.1 hx with rfl | hx
    ·exact absurd h1 ha
    ·exact ⟨x,hx,h1⟩
   have:=ih (fun x hx=>h x (.tail _ hx)) ht
   have ha2:=h a (.head _)
   cases hq:q a with
   | false=>simp; omega
   | true=>rw[ha2 hq]; simp; omega
theorem sF {M:List HE} {seen:List Nat} {e:HE} (he:e∈M) (hn:seen.any (Nat.beq e.born)=false):zU M (e.born::seen)<zU M seen:=by
 refine HA M (fun x _ h=>?_) ⟨e,he,by rw[hn]; rfl,by simp⟩
 rw[List.any_cons,Bool.not_or,Bool.and_eq_true] at h
 exact h.2
theorem Ep {b m since:Nat} {seen:List Nat} {clock:Nat} {h:Heap} {κ:Value→Heap→Prop} (hlo:h.lo≤b):∀(es:List MapEntry) (e:MapEntry),(∀x∈e::es,x.born<since)→(∀x∈e::es,κ (.tuple ⟨[.bool true,x.key,x.val]⟩) ⟨h.nx,h.bl.aS b (.dy (some m) since (x.born::seen) clock),h.lo⟩)→ki False And b m since seen clock h κ e es:=by
 intro es
 induction es with
 | nil=>
  intro e hb hk
  unfold ki
  rw[Nat.ble_eq_true_of_le (show Nat.succ e.born≤since from hb e (.head _))]
  simp only
  rw[bD _ _ _ _ hlo]
  exact hk e (.head _)
 | cons a es ih=>
  intro e hb hk
  unfold ki
  rw[Nat.ble_eq_true_of_le (show Nat.succ e.born≤since from hb e (.head _))]
  simp only
  rw[bD _ _ _ _ hlo]
  exact ⟨hk e (.head _),ih a (fun x hx=>hb x (.tail _ hx)) fun x hx=>hk x (.tail _ hx)⟩
theorem KW {M:List HE} {clock b bm:Nat} {seen:List Nat} {h:Heap} (o:eW M clock) (hb:h.bl.get b=some (.dy (some bm) clock seen clock)) (g:h.bl.get bm=some (.map (M.map jS) clock)) (hlo:h.lo≤b) (κ:KQ)
  (j7:(∀e∈M,seen.any (Nat.beq e.born)=true)→κ (.tuple ⟨[.bool false]⟩) h)
  (fQ:∀e∈M,seen.any (Nat.beq e.born)=false→κ (.tuple ⟨[.bool true,ew e.t e.r,.pointer (some ⟨e.hb,0,none⟩)]⟩) ⟨h.nx,h.bl.aS b (.dy (some bm) clock (e.born::seen) clock),h.lo⟩) :
  oP False And (.pointer (some ⟨b,0,none⟩)) h κ:=by
 unfold oP
 simp only[hb,g]
 have e1:(!seen.isEmpty && !(M.map jS).isEmpty && (M.map jS).all (fun e=>Nat.ble clock e.born))=false:=by
  cases M with
  | nil=>simp
  | cons e M=>
   have:Nat.ble clock (jS e).born=false:=by
    have:=o.lt e (.head _)
    cases hc:Nat.ble clock (jS e).born with
    | false=>rfl
    | true=>have:=Nat.le_of_ble_eq_true hc; simp only[jS] at this; omega
   rw[List.map_cons,List.all_cons,this]; simp
 rw[e1]
 simp only
 rw[List.filter_map]
 have hmem:∀x,x∈(M.filter ((fun e:MapEntry=>!seen.any (Nat.beq e.born)) ∘ jS)).map jS→∃e∈M,seen.any (Nat.beq e.born)=false∧x=jS e:=by
  intro x hx
  obtain ⟨e,he,rfl⟩:=List.mem_map.1 hx
  rw[List.mem_filter] at he
  exact ⟨e,he.1,by have:=he.2; simpa[jS] using this,rfl⟩
 split
 ·rename_i hnil
  refine j7 fun e he=>?_
  cases hs:seen.any (Nat.beq e.born) with
  | true=>rfl
  | false=>
   have:jS e∈(M.filter ((fun e:MapEntry=>!seen.any (Nat.beq e.born)) ∘ jS)).map jS:=List.mem_map.2 ⟨e,List.mem_filter.2 ⟨he,by simp only[Function.comp,jS,hs]; rfl⟩,rfl⟩
   rw[hnil] at this
   nomatch this
 ·rename_i e es heq
  rw[heq] at hmem
  refine Ep hlo es e (fun x hx=>?_) fun x hx=>?_
  ·obtain ⟨y,hy,_,rfl⟩:=hmem x hx
   exact o.lt y hy
  ·obtain ⟨y,hy,h1,rfl⟩:=hmem x hx
   exact fQ y hy h1
theorem Ge {β:Type} {fl:β} {M:List HE} {clock b bm:Nat} {seen:List Nat} {h:Heap} (o:eW M clock) {e:HE} (he:e∈M) (hb:h.bl.get b=some (.dy (some bm) clock (e.born::seen) clock)) (g:h.bl.get bm=some (.map (M.map jS) clock)) (κ:Value→Heap→β) :
  lV fl (.pointer (some ⟨b,0,none⟩)) h κ=κ (.tuple ⟨[ew e.t e.r,.pointer (some ⟨e.hb,0,none⟩)]⟩) h:=by
 unfold lV
 simp only[hb,g]
 have e1:Nat.beq clock clock=true:=Nat.beq_refl _
 rw[e1]
 simp only
 have:(M.map jS).find? (fun x=>Nat.beq x.born e.born)=some (jS e):=by
  have key:∀(L:List HE),(L.Pairwise fun a b=>a.born≠b.born)→e∈L→(L.map jS).find? (fun x=>Nat.beq x.born e.born)=some (jS e):=by
   intro L
   induction L with
   | nil=>intro _ h; nomatch h
   | cons a L ih=>
    intro hp h1
    rw[List.pairwise_cons] at hp
    rw[List.map_cons,List.find?_cons]
    rcases List.mem_cons.1 h1 with rfl | k1
    ·have:Nat.beq (jS e).born e.born=true:=Nat.beq_refl _
     rw[this]
    ·have:Nat.beq (jS a).born e.born=false:=by
      cases hc:Nat.beq (jS a).born e.born with
      | false=>rfl
      | true=>exact absurd (Nat.eq_of_beq_eq_true hc) (hp.1 e k1)
     rw[this]
     exact ih hp.2 k1
  exact key M o.bn he
 rw[this]
 rfl
theorem CG {β:Type} {fl:β} {bm clock:Nat} {es:List MapEntry} {h:Heap} (g:h.bl.get bm=some (.map es clock)) (κ:Value→Heap→β) :
  lU fl (.map (some bm)) h κ=κ (.pointer (some ⟨h.nx,0,none⟩)) ⟨h.nx+1,h.bl.aS h.nx (.dy (some bm) clock [] clock),h.lo⟩:=by
 unfold lU
 simp only[g,c6]
structure ja (h:Heap) (e:HE):Prop where
 lt:e.hb<h.nx
 get:h.bl.get e.hb=some (cL e.t e.r e.q e.w)
 qv:QV h e.q e.Q
structure KX (e:HE):Prop where
 ne:e.Q≠[]
 vq:VQ e.Q e.w
 stuck:kT e.Q
 small:e.Q.length≤128
structure aU (h:Heap) (bb bm bp bl:Nat) (most:Nat) (M:List HE) (clock:Nat) (F:List Int) (B:List Bool):Prop where
 IB:bb<h.nx
 rP:bm<h.nx
 Ox:h.lo≤bm
 fq:h.bl.get bb=some (aa [.int .i64 (most:Int),.pointer (some ⟨bp,0,none⟩),.map (some bm)] 220 false)
 eM:h.bl.get bm=some (.map (M.map jS) clock)
 ok:eW M clock
 aH:∀e∈M,ja h e
 good:∀e∈M,KX e
 ck:de h bp bl F B
 ne:bp≠bl
theorem ja.le {h h':Heap} {e:HE} (a:ja h e) (l:Le h h'):ja h' e:=⟨Nat.lt_of_lt_of_le a.lt l.nx,(l.get _ a.lt).trans a.get,a.qv.le l⟩
theorem de.le {h h':Heap} {bp bl:Nat} {F:List Int} {B:List Bool} (p:de h bp bl F B) (l:Le h h'):de h' bp bl F B:=by
 have ln:=l.nx
 have ll:=l.lo
 have pl:=p.lt
 have fl:=p.fr.lt
 obtain ⟨fs,hg,hpt⟩:=p.fr.cell
 refine ⟨⟨by omega,by rw[ll]; exact p.fr.lo,fs,(l.get _ fl).trans hg,?_⟩,by omega,by rw[ll]; exact p.lo,(l.get _ pl).trans p.cell,p.ok,p.small⟩
 rcases hpt with e | ⟨b,G,e,k1,k2,k3,k4⟩
 ·exact .inl e
 ·exact .inr ⟨b,G,e,by omega,by omega,(l.get _ k1).trans k3,k4⟩
theorem aU.le {h h':Heap} {bb bm bp bl most:Nat} {M:List HE} {clock:Nat} {F:List Int} {B:List Bool} (s:aU h bb bm bp bl most M clock F B) (l:Le h h'):aU h' bb bm bp bl most M clock F B:=
 ⟨Nat.lt_of_lt_of_le s.IB l.nx,Nat.lt_of_lt_of_le s.rP l.nx,by rw[l.lo]; exact s.Ox,(l.get _ s.IB).trans s.fq,(l.get _ s.rP).trans s.eM,s.ok,fun e he=>(s.aH e he).le l,s.good,s.ck.le l,s.ne⟩
theorem ab2 (h:Heap) (b o:Nat):lT Tryz.prog h 100 182 (.pointer (some ⟨b,o,none⟩)) (.pointer none)=some false:=by kernel_rfl
theorem fL {β:Type} {fl:β} (cn:Bool) (b o:Nat) (h:Heap) (κ:Value→Heap→β):au fl Tryz.prog .eql 182 cn false (.pointer (some ⟨b,o,none⟩)) (.pointer none) h κ=κ (.bool false) h:=by simp only[au,ab2,bP]
theorem ab3 (h:Heap) (b o:Nat):lT Tryz.prog h 100 228 (.pointer (some ⟨b,o,none⟩)) (.pointer none)=some false:=by kernel_rfl
theorem rq {β:Type} {fl:β} (cn:Bool) (b o:Nat) (h:Heap) (κ:Value→Heap→β):au fl Tryz.prog .eql 228 cn false (.pointer (some ⟨b,o,none⟩)) (.pointer none) h κ=κ (.bool false) h:=by simp only[au,ab3,bP]
theorem ab4 (h:Heap):lT Tryz.prog h 100 228 (.pointer none) (.pointer none)=some true:=by kernel_rfl
theorem nS {β:Type} {fl:β} (cn:Bool) (h:Heap) (κ:Value→Heap→β):au fl Tryz.prog .eql 228 cn false (.pointer none) (.pointer none) h κ=κ (.bool true) h:=by simp only[au,ab4,bP]
theorem KY (bb:Nat) (h:Heap) (κ:KQ) (hk:κ (.int .i64 5) h):CallW Tryz.prog 244 [.pointer (some ⟨bb,0,none⟩)] h κ:=by
 refine aj mixed ?_
 rw[S1]
 simp(disch:=first|omega|simp only[Wd]<;>omega|with_unfolding_all rfl)only[Wz,fL]
 exact hk
theorem Oy {h:Heap} {bb bm bp bl most:Nat} {M:List HE} {clock:Nat} {F:List Int} {B:List Bool} (s:aU h bb bm bp bl most M clock F B) (κ:KQ) (hk:κ (.int .i64 (M.length:Int)) h) :
  CallW Tryz.prog 101 [.pointer (some ⟨bb,0,none⟩)] h κ:=by
 refine aj mixed ?_
 rw[Sg]
 have g:=s.fq
 have gm:=s.eM
 simp(disch:=first|omega|simp only[Wd]<;>omega|with_unfolding_all rfl)only[Wz,fL,ax,g,jG,gm,bL,List.length_map]
 exact hk
theorem eW.yA {M:List HE} {clock:Nat} (o:eW M clock) {e e':HE} (h:e∈M) (h':e'∈M) (hb:e.born=e'.born):e=e':=by
 have:∀(L:List HE),(L.Pairwise fun a b=>a.born≠b.born)→e∈L→e'∈L→e=e':=by
  intro L
  induction L with
  | nil=>intro _ h; nomatch h
  | cons a L ih=>
   intro hp h1 h2
   rw[List.pairwise_cons] at hp
   rcases List.mem_cons.1 h1 with rfl | k1<;>rcases List.mem_cons.1 h2 with rfl | k2
   ·rfl
   ·exact absurd hb (hp.1 _ k2)
   ·exact absurd hb.symm (hp.1 _ k1)
   ·exact ih hp.2 k1 k2
 exact this M o.bn h h'
theorem Oz {h:Heap} {bb bm bp bl most:Nat} {M:List HE} {clock:Nat} {F:List Int} {B:List Bool} (s:aU h bb bm bp bl most M clock F B) (hlo:h.lo≤h.nx) (id:Int) (κ:KQ)
  (j7:∀h',(∀e∈M,bE e.Q id=none)→Le h h'→κ (.pointer none) h')
  (fQ:∀h' e p,e∈M→bE e.Q id=some p→Le h h'→κ (.pointer (some ⟨e.hb,0,none⟩)) h') :
  CallW Tryz.prog 243 [.pointer (some ⟨bb,0,none⟩),.int .i64 id] h κ:=by
 refine aj mixed ?_
 rw[Km]
 have g:=s.fq
 have gm:=s.eM
 simp(disch:=first|omega|simp only[Wd]<;>omega|with_unfolding_all rfl)only[Wz,fL,BY,ax,g,CG gm]
 obtain ⟨hA,eA⟩:∃hA:Heap,hA=⟨h.nx+1,h.bl.aS h.nx (.dy (some bm) clock [] clock),h.lo⟩:=⟨_,rfl⟩
 rw[←eA]
 have leA:Le h hA:=by rw[eA]; exact (Le.refl h).new _
 have nA:hA.nx=h.nx+1:=by rw[eA]
 have lA:hA.lo=h.lo:=by rw[eA]
 have gA:hA.bl.get h.nx=some (.dy (some bm) clock [] clock):=by rw[eA]; exact T.af _ _ _
 refine ⟨fun m l h1=>∃seen,m=zU M seen∧h.nx<h1.nx∧Le h h1∧h1.bl.get h.nx=some (.dy (some bm) clock seen clock)∧∀e∈M,seen.any (Nat.beq e.born)=true→bE e.Q id=none,⟨_,[],rfl,by omega,leA,gA,fun e _ he=>by simp at he⟩,?_⟩
 rintro m l h1 ⟨seen,rfl,n1,bK,g1,hs⟩
 have gm1:=(bK.get _ s.rP).trans gm
 have l1:=bK.lo
 have n1':=bK.nx
 refine KW s.ok g1 gm1 (by omega) _ ?_ ?_
 ·intro hall
  simp(disch:=first|omega|simp only[Wd]<;>omega|with_unfolding_all rfl)only[Wz]
  exact j7 h1 (fun e he=>hs e he (hall e he)) bK
 ·intro e he MD
  have H:=s.aH e he
  have hlt:=H.lt
  have bF:Le h ⟨h1.nx,h1.bl.aS h.nx (.dy (some bm) clock (e.born::seen) clock),h1.lo⟩:=bK.set (by omega) _
  obtain ⟨h2,e2⟩:∃h2:Heap,h2=⟨h1.nx,h1.bl.aS h.nx (.dy (some bm) clock (e.born::seen) clock),h1.lo⟩:=⟨_,rfl⟩
  rw[←e2] at bF ⊢
  have n2:h2.nx=h1.nx:=by rw[e2]
  have g2:h2.bl.get h.nx=some (.dy (some bm) clock (e.born::seen) clock):=by rw[e2]; exact T.af _ _ _
  have X0:=(bF.get _ s.rP).trans gm
  have l2:=bF.lo
  obtain ⟨qx,qc,eq,_⟩:=(show Sl aZ h e.q e.Q from H.qv.1)
  have gh:=(bF.get _ hlt).trans H.get
  rw[eq] at gh
  simp(disch:=first|omega|simp only[Wd]<;>omega|with_unfolding_all rfl)only[Wz,BX,Ge s.ok he g2 X0,ax,gh]
  refine ux e.t e.r _ e.w id e.Q h2 _ (by rw[←eq]; exact H.qv.1.le bF) (by have:=(s.good e he).small; omega) (by omega) ?_
  intro h3 eZ
  have n3:=eZ.nx
  have l3:=eZ.lo
  have g3:=(eZ.get h.nx (by omega)).trans g2
  have X1:=bF.trans eZ
  cases hf:bE e.Q id with
  | none=>
   simp(disch:=first|omega|simp only[Wd]<;>omega|with_unfolding_all rfl)only[Wz,aZ]
   refine ⟨_,?_,e.born::seen,rfl,?_,X1.new _,?_,?_⟩
   ·exact sF he MD
   ·show h.nx<h3.nx+1; omega
   ·exact g3
   ·intro x hx hxs
    rw[List.any_cons,Bool.or_eq_true] at hxs
    rcases hxs with hb | hb
    ·rw[s.ok.yA hx he (Nat.eq_of_beq_eq_true hb)]; exact hf
    ·exact hs x hx hb
  | some p=>
   simp(disch:=first|omega|simp only[Wd]<;>omega|with_unfolding_all rfl)only[Wz,aZ]
   exact fQ _ e p he hf (X1.new _)
end Go.Proofs
