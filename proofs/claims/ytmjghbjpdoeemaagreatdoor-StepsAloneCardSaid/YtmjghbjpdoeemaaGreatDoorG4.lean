/-
  PROVED HERE: a part of the proof (K0, K1, K2, VaiA, K3, VaiF, K4, K5, K6, K7, K8, K9, K10, K11, K12, K13, K14, K15, K16, K17, K18, K19).
-/
import Derived.Test.YtmjghbjpdoeemaaGreatDoorG3
import Derived.Test.YtmjghbjpdoeemaaGreatDoorRZ
set_option linter.unusedVariables false
set_option linter.unusedSimpArgs false
set_option maxRecDepth 100000
namespace Go.Proofs
open Go.Vai Go.Clashes
theorem mixed:Tryz.prog.follows .mixedOrders=true:=by kernel_rfl
def dn (t r:Int):Value:=.agg ⟨[.int .i64 t,.int .i64 r]⟩
theorem aa7:∀i,i<7→∀j,j<7→bF Tryz.prog 200 210 [.int .i64 (.ofNat i),.int .i64 (.ofNat j)] (.bool (cmp (.ofNat i) (.ofNat j)))=true:=by decide +kernel
theorem aa8 (n:Nat) (b:Int):bF Tryz.prog 200 210 [.int .i64 (.negSucc n),.int .i64 b] (.bool false)=true:=by kernel_rfl
theorem aa9 (n:Nat) (b:Int):bF Tryz.prog 200 210 [.int .i64 (.ofNat (n+7)),.int .i64 b] (.bool false)=true:=by kernel_rfl
theorem aa_:∀i,i<7→∀n:Nat,bF Tryz.prog 200 210 [.int .i64 (.ofNat i),.int .i64 (.negSucc n)] (.bool false)=true:=by
 refine seven ?_ ?_ ?_ ?_ ?_ ?_ ?_<;>intro n<;>kernel_rfl
theorem aba:∀i,i<7→∀n:Nat,bF Tryz.prog 200 210 [.int .i64 (.ofNat i),.int .i64 (.ofNat (n+7))] (.bool false)=true:=by
 refine seven ?_ ?_ ?_ ?_ ?_ ?_ ?_<;>intro n<;>kernel_rfl
theorem Nt (a b:Int) {h:Heap} {κ:Value→Heap→Prop} (hk:κ (.bool (cmp a b)) h):CallW Tryz.prog 210 [.int .i64 a,.int .i64 b] h κ:=
 mM mixed (F:=fun a b=>.bool (cmp a b)) aa7 (fun n b=>by rw[Dz (lZ n)]; exact aa8 n b) (fun n b=>by rw[Dz (l_ n)]; exact aa9 n b) (fun i hi n=>by rw[Ik (lZ n)]; exact aa_ i hi n) (fun i hi n=>by rw[Ik (l_ n)]; exact aba i hi n) a b hk
theorem abb:∀i,i<7→∀j,j<7→bF Tryz.prog 200 212 [.int .i64 (.ofNat i),.int .i64 (.ofNat j)] (.bool (ny (.ofNat i) (.ofNat j)))=true:=by decide +kernel
theorem abc (n:Nat) (b:Int):bF Tryz.prog 200 212 [.int .i64 (.negSucc n),.int .i64 b] (.bool false)=true:=by kernel_rfl
theorem abd (n:Nat) (b:Int):bF Tryz.prog 200 212 [.int .i64 (.ofNat (n+7)),.int .i64 b] (.bool false)=true:=by kernel_rfl
theorem abe:∀i,i<7→∀n:Nat,bF Tryz.prog 200 212 [.int .i64 (.ofNat i),.int .i64 (.negSucc n)] (.bool false)=true:=by
 refine seven ?_ ?_ ?_ ?_ ?_ ?_ ?_<;>intro n<;>kernel_rfl
theorem abf:∀i,i<7→∀n:Nat,bF Tryz.prog 200 212 [.int .i64 (.ofNat i),.int .i64 (.ofNat (n+7))] (.bool false)=true:=by
 refine seven ?_ ?_ ?_ ?_ ?_ ?_ ?_<;>intro n<;>kernel_rfl
theorem Ey (a b:Int) {h:Heap} {κ:Value→Heap→Prop} (hk:κ (.bool (ny a b)) h):CallW Tryz.prog 212 [.int .i64 a,.int .i64 b] h κ:=
 mM mixed (F:=fun a b=>.bool (ny a b)) abb (fun n b=>by rw[Tl (lZ n)]; exact abc n b) (fun n b=>by rw[Tl (l_ n)]; exact abd n b) (fun i hi n=>by rw[Tm (lZ n)]; exact abe i hi n) (fun i hi n=>by rw[Tm (l_ n)]; exact abf i hi n) a b hk
theorem abg:∀i,i<7→∀j,j<7→bF Tryz.prog 200 208 [.int .i64 (.ofNat i),.int .i64 (.ofNat j)] (.int .i64 (cU (.ofNat i) (.ofNat j)))=true:=by decide +kernel
theorem abh (n:Nat) (b:Int):bF Tryz.prog 200 208 [.int .i64 (.negSucc n),.int .i64 b] (.int .i64 0)=true:=by kernel_rfl
theorem abi (n:Nat) (b:Int):bF Tryz.prog 200 208 [.int .i64 (.ofNat (n+7)),.int .i64 b] (.int .i64 0)=true:=by kernel_rfl
theorem abj:∀i,i<7→∀n:Nat,bF Tryz.prog 200 208 [.int .i64 (.ofNat i),.int .i64 (.negSucc n)] (.int .i64 0)=true:=by
 refine seven ?_ ?_ ?_ ?_ ?_ ?_ ?_<;>intro n<;>kernel_rfl
theorem abk:∀i,i<7→∀n:Nat,bF Tryz.prog 200 208 [.int .i64 (.ofNat i),.int .i64 (.ofNat (n+7))] (.int .i64 0)=true:=by
 refine seven ?_ ?_ ?_ ?_ ?_ ?_ ?_<;>intro n<;>kernel_rfl
theorem Nu (a b:Int) {h:Heap} {κ:Value→Heap→Prop} (hk:κ (.int .i64 (cU a b)) h):CallW Tryz.prog 208 [.int .i64 a,.int .i64 b] h κ:=
 mM mixed (F:=fun a b=>.int .i64 (cU a b)) abg (fun n b=>by rw[Bq (lZ n)]; exact abh n b) (fun n b=>by rw[Bq (l_ n)]; exact abi n b) (fun i hi n=>by rw[Br (lZ n)]; exact abj i hi n) (fun i hi n=>by rw[Br (l_ n)]; exact abk i hi n) a b hk
theorem sv (a:Int) {h:Heap} {κ:Value→Heap→Prop} (hk:κ (.bool (kn a)) h):CallW Tryz.prog 73 [.int .i64 a] h κ:=by
 refine fF (v:=.bool (kn a)) rfl rfl (an mixed ?_) hk
 rw[aaj]
 by_cases h1:a<0
 ·simp(disch:=first|omega|simp only[Wd]<;>omega|rfl)only[Wz]; simp[kn]; omega
 ·by_cases h2:6<a
  ·simp(disch:=first|omega|simp only[Wd]<;>omega|rfl)only[Wz]; simp[kn]; omega
  ·simp(disch:=first|omega|simp only[Wd]<;>omega|rfl)only[Wz]; simp[kn]; omega
theorem oW (a:Int) {h:Heap} {κ:Value→Heap→Prop} (hk:κ (.bool (kn a)) h):CallW Tryz.prog 50 [.int .i64 a] h κ:=by
 refine fF (v:=.bool (kn a)) rfl rfl (an mixed ?_) hk
 rw[ZS]
 by_cases h1:a<0
 ·simp(disch:=first|omega|simp only[Wd]<;>omega|rfl)only[Wz]; simp[kn]; omega
 ·by_cases h2:6<a
  ·simp(disch:=first|omega|simp only[Wd]<;>omega|rfl)only[Wz]; simp[kn]; omega
  ·simp(disch:=first|omega|simp only[Wd]<;>omega|rfl)only[Wz]; simp[kn]; omega
abbrev jI (r:R5):Value:=.agg ⟨bq r⟩
noncomputable abbrev ic (r:R5):bQ:=aa [.int .i64 r.id,.int .i64 r.x,.int .i64 r.m,.int .i64 r.w,.int .i64 r.s] 83 false
def zR:List Value:=[.int .i64 0,.int .i64 0,.int .i64 0,.int .i64 0,.int .i64 0]
theorem afI:Ii Tryz.prog 79:=⟨fun h n c n' c'=>by kernel_rfl,fun h a n c n' c'=>by kernel_rfl⟩
theorem Nv (a0 a1:Value) (h:Heap) (κ:KQ):aM Tryz.prog 268 [a0,a1] h κ=jF Tryz.prog 3 5 a0 a1 h κ:=by kernel_rfl
theorem abl (a0 a1:Value) (h:Heap) (κ:KQ):aM Tryz.prog 321 [a0,a1] h κ=kP Tryz.prog 3 268 a0 a1 h κ:=by kernel_rfl
theorem abm (a0:Value) (h:Heap) (κ:KQ):aM Tryz.prog 139 [a0] h κ=Bo Tryz.prog 79 83 5 zR a0 h κ:=by kernel_rfl
theorem abn (a0 a1:Value) (h:Heap) (κ:KQ):aM Tryz.prog 315 [a0,a1] h κ=nv Tryz.prog 3 268 83 5 zR a0 a1 h κ:=by kernel_rfl
theorem xL (L:List R5) (F:R5→Bool) (h:Heap) (v fv:Value) (κ:KQ) (hv:Sl bq h v L) (hlen:L.length≤1000000)
  (hF:∀p,p∈L→∀(h1:Heap) (κ1:Value→Heap→Prop),Le h h1→(∀h2,Le h1 h2→κ1 (.bool (F p)) h2)→jC Tryz.prog fv [jI p] h1 κ1)
  (hk:∀h',Le h h'→κ (.int .i64 (dN (L.findIdx? F))) h'):CallW Tryz.prog 268 [v,fv] h κ:=
 rm mixed bz Nv L F h v fv κ hv hlen hF hk
theorem oZ (L:List R5) (F:R5→Bool) (h:Heap) (v fv:Value) (κ:KQ) (hv:Sl bq h v L) (hlen:L.length≤1000000)
  (hF:∀p,p∈L→∀(h1:Heap) (κ1:Value→Heap→Prop),Le h h1→(∀h2,Le h1 h2→κ1 (.bool (F p)) h2)→jC Tryz.prog fv [jI p] h1 κ1)
  (hk:∀h',Le h h'→κ (.bool (L.any F)) h'):CallW Tryz.prog 321 [v,fv] h κ:=
 zm mixed bz Nv abl L F h v fv κ hv hlen hF hk
abbrev iV (a h:Heap) (v:Value) (L:List R5):Prop:=dh bq a 83 h v L
theorem Ez (L:List R5) (h:Heap) (v:Value) (κ:KQ) (hv:Sl bq h v L) (hlen:L.length≤1000000) (hlo:h.lo≤h.nx) (hk:∀v' h',iV h h' v' L→Le h h'→κ v' h'):CallW Tryz.prog 139 [v] h κ:=
 UN mixed bz jG (by decide) (by decide) afI abm L h v κ hv hlen hlo hk
theorem Kr (a h:Heap) (L:List R5) (F:R5→Bool) (v fv:Value) (κ:KQ) (hle:Le a h) (ho:iV a h v L) (hlen:L.length≤100000) (hlo:a.lo≤a.nx)
  (hF:∀p,∀(h1:Heap) (κ1:Value→Heap→Prop),Le a h1→(h.nx≤h1.nx∧∀c,c<h.nx→h.bl.get c≠some (aa (L.flatMap bq) 83 true)→h1.bl.get c=h.bl.get c)→(∀h2,Le h1 h2→κ1 (.bool (F p)) h2)→jC Tryz.prog fv [jI p] h1 κ1)
  (hk:∀v' h',Sl bq h' v' (L.filter fun p=>!F p)→Cut 83 5 h' v' (L.filter fun p=>!F p).length→Le a h'→(h.nx≤h'.nx∧∀c,c<h.nx→h.bl.get c≠some (aa (L.flatMap bq) 83 true)→h'.bl.get c=h.bl.get c)→uR 83 h' v'→κ v' h'):CallW Tryz.prog 315 [v,fv] h κ:=
 Gj mixed bz jG (by decide) rfl rfl (by decide) Nv abn a h L F v fv κ hle ho hlen hlo hF hk
theorem xM {h:Heap} {v:Value} {L:List R5} (hs:Sl bq h v L) (i:Nat) {p:R5} (hp:L[i]? = some p) :
  ∃b o,b<h.nx∧(∀(β:Type) (fl:β) (h':Heap) (κ:Value→Heap→β),aq fl 5 v (.int .i64 (i:Int)) h' κ=κ (.pointer (some ⟨b,o,none⟩)) h')∧
   ((∀(β:Type) (fl:β) (κ:List Value→β),zi fl (h.bl.get b) o 5 κ=κ (bq p))∧
   (∀(β:Type) (fl:β) (κ:Value→β),sV fl (h.bl.get b) o κ=κ (.int .i64 p.id))∧
   (∀(β:Type) (fl:β) (κ:Value→β),sV fl (h.bl.get b) (o+1) κ=κ (.int .i64 p.x))∧
   (∀(β:Type) (fl:β) (κ:Value→β),sV fl (h.bl.get b) (o+2) κ=κ (.int .i64 p.m))∧
   (∀(β:Type) (fl:β) (κ:Value→β),sV fl (h.bl.get b) (o+3) κ=κ (.int .i64 p.w))∧
   (∀(β:Type) (fl:β) (κ:Value→β),sV fl (h.bl.get b) (o+4) κ=κ (.int .i64 p.s))):=by
 obtain ⟨b,o,h1,h2,h3,hh⟩:=hs.ld bz i hp
 have h5:(bq p).length=5:=rfl
 exact ⟨b,o,h1,h2,h3,fun β fl κ=>e8 (fl:=fl) hh 0 κ (by omega),fun β fl κ=>e8 (fl:=fl) hh 1 κ (by omega),fun β fl κ=>e8 (fl:=fl) hh 2 κ (by omega),fun β fl κ=>e8 (fl:=fl) hh 3 κ (by omega),fun β fl κ=>e8 (fl:=fl) hh 4 κ (by omega)⟩
theorem BY (r:R5) {h:Heap} {κ:Value→Heap→Prop} (hk:κ (.bool (decide (r.m≠0))) h):CallW Tryz.prog 237 [jI r] h κ:=by
 refine fF (v:=.bool (decide (r.m≠0))) rfl rfl (an mixed ?_) hk
 rw[V_]
 simp(disch:=first|omega|simp only[Wd]<;>omega|rfl)only[Wz,bq]
 simp
theorem Ji (r:R5) {h:Heap} {κ:Value→Heap→Prop} (hk:κ (.bool (decide (0<r.s))) h):CallW Tryz.prog 192 [jI r] h κ:=by
 refine fF (v:=.bool (decide (0<r.s))) rfl rfl (an mixed ?_) hk
 rw[VY]
 simp(disch:=first|omega|simp only[Wd]<;>omega|rfl)only[Wz,bq]
theorem xN (r:R5) {h:Heap} {κ:Value→Heap→Prop} (hk:κ (.bool (nQ r)) h):CallW Tryz.prog 238 [jI r] h κ:=by
 refine fF (v:=.bool (nQ r)) rfl rfl (an mixed ?_) hk
 rw[Wa]
 simp(disch:=first|omega|simp only[Wd]<;>omega|rfl)only[Wz,bq]
 refine BY r ?_
 by_cases h1:r.m=0
 ·simp(disch:=first|omega|simp only[Wd]<;>omega|rfl)only[Wz,aN (show ¬r.m≠0 by omega)]
  simp[nQ,h1]
 ·simp(disch:=first|omega|simp only[Wd]<;>omega|rfl)only[Wz,a_ (show r.m≠0 from h1)]
  refine Ji r ?_
  simp[nQ,h1]
theorem EA (m:Int) {h:Heap} {κ:Value→Heap→Prop} (hk:κ (.bool (aZ m)) h):CallW Tryz.prog 320 [.int .i64 m] h κ:=by
 refine fF (v:=.bool (aZ m)) rfl rfl (an mixed ?_) hk
 rw[WE]
 by_cases h0:m=0
 ·simp(disch:=first|omega|simp only[Wd]<;>omega|rfl)only[Wz,a_ h0]
  simp[aZ,h0]
 ·simp(disch:=first|omega|simp only[Wd]<;>omega|rfl)only[Wz,aN h0]
  refine sv m ?_
  simp[aZ,h0]
def ef (t r:Int) (q:Value) (w:Int):Value:=.agg ⟨[.int .i64 t,.int .i64 r,q,.int .i64 w]⟩
theorem jJ {h:Heap} {q:Value} {Q:List R5} (hq:Sl bq h q Q):q.cells.toList=[q]∧ew q=true:=by
 obtain ⟨x,cap,rfl,_⟩:=hq; exact ⟨rfl,rfl⟩
theorem Nw (id:Int) (r:R5) (b:Nat) (h:Heap) (κ:KQ) (hlo:h.lo≤h.nx) (hb:b<h.nx) (hg:h.bl.get b=some (aa [.int .i64 id] 3 false)) (hk:∀h',Le h h'→κ (.bool (bD id r)) h') :
  CallW Tryz.prog 269 [jI r,ptrTo b] h κ:=by
 have hk:=hk _ ((Le.refl h).new (ic r))
 refine an mixed ?_
 rw[Wl]
 simp(disch:=first|omega|simp only[Wd]<;>omega|rfl)only[Wz,bq,hg]
 exact hk
theorem xO (t r:Int) (q:Value) (w id:Int) (Q:List R5) (h:Heap) (κ:KQ) (hq:Sl bq h q Q) (hlen:Q.length≤1000000) (hlo:h.lo≤h.nx) (hk:∀h',Le h h'→κ (.int .i64 (dN (Q.findIdx? (bD id)))) h') :
  CallW Tryz.prog 236 [ef t r q w,.int .i64 id] h κ:=by
 obtain ⟨hc,ho⟩:=jJ hq
 refine an mixed ?_
 rw[V9]
 simp(disch:=first|omega|simp only[Wd]<;>omega|rfl)only[Wz,ef]
 obtain ⟨hA,eA⟩:∃hA:Heap,hA=⟨h.nx+1+1,(h.bl.aY h.nx (aa [.int .i64 t,.int .i64 r,q,.int .i64 w] 305 false)).aY (h.nx+1) (aa [.int .i64 id] 3 false),h.lo⟩:=⟨_,rfl⟩
 have qq:Le h hA:=by subst eA; exact ((Le.refl h).new _).new _
 have g3:hA.bl.get (h.nx+1)=some (aa [.int .i64 id] 3 false):=by subst eA; exact T.af _ _ _
 have nA:hA.nx=h.nx+1+1:=by subst eA; rfl
 have lA:hA.lo=h.lo:=by subst eA; rfl
 rw[←eA]
 clear eA
 refine xL Q (bD id) hA q _ _ (hq.le qq) hlen ?_ fun h' hl=>hk h' (qq.trans hl)
 intro p hp h1 κ1 wQ iJ
 have n1:=wQ.nx
 have l1:=wQ.lo
 simp(disch:=first|omega|simp only[Wd]<;>omega|rfl)only[Wz,List.nil_append,List.cons_append]
 exact Nw id p (h.nx+1) h1 κ1 (by omega) (by omega) ((wQ.get _ (by omega)).trans g3) iJ
def uB (r o:R5):Bool:=decide (o.id≠r.id) && decide (o.m≠0) && !cmp o.m r.w
theorem Q0 (r o:R5) (b:Nat) (h:Heap) (κ:KQ) (hlo:h.lo≤h.nx) (hb:b<h.nx) (hg:h.bl.get b=some (ic r)) (hk:∀h',Le h h'→κ (.bool (uB r o)) h') :
  CallW Tryz.prog 334 [jI o,ptrTo b] h κ:=by
 have hk:=hk _ ((Le.refl h).new (ic o))
 refine an mixed ?_
 rw[WH]
 by_cases h1:o.id=r.id
 ·simp(disch:=first|omega|simp only[Wd]<;>omega|rfl)only[Wz,bq,hg,a_ h1]
  have e:uB r o=false:=by simp[uB,h1]
  rw[e] at hk; exact hk
 ·simp(disch:=first|omega|simp only[Wd]<;>omega|rfl)only[Wz,bq,hg,aN h1]
  refine BY o ?_
  by_cases h2:o.m=0
  ·simp(disch:=first|omega|simp only[Wd]<;>omega|rfl)only[Wz,aN (show ¬o.m≠0 by omega)]
   have e:uB r o=false:=by simp[uB,h2]
   rw[e] at hk; exact hk
  ·simp(disch:=first|omega|simp only[Wd]<;>omega|rfl)only[Wz,a_ (show o.m≠0 from h2),hg]
   refine Nt _ _ ?_
   simp(disch:=first|omega|simp only[Wd]<;>omega|rfl)only[Wz]
   have e:uB r o=!cmp o.m r.w:=by simp[uB,h1,h2]
   rw[e] at hk; exact hk
theorem BZ (t r':Int) (q:Value) (w:Int) (r:R5) (Q:List R5) (h:Heap) (κ:KQ) (hq:Sl bq h q Q) (hlen:Q.length≤1000000) (hlo:h.lo≤h.nx) (hk:∀h',Le h h'→κ (.bool (ej Q r)) h') :
  CallW Tryz.prog 317 [ef t r' q w,jI r] h κ:=by
 obtain ⟨hc,ho⟩:=jJ hq
 refine an mixed ?_
 rw[WB]
 simp(disch:=first|omega|simp only[Wd]<;>omega|rfl)only[Wz,ef,bq]
 obtain ⟨hA,eA⟩:∃hA:Heap,hA=⟨h.nx+1+1,(h.bl.aY h.nx (aa [.int .i64 t,.int .i64 r',q,.int .i64 w] 305 false)).aY (h.nx+1) (ic r),h.lo⟩:=⟨_,rfl⟩
 have qq:Le h hA:=by subst eA; exact ((Le.refl h).new _).new _
 have g3:hA.bl.get (h.nx+1)=some (ic r):=by subst eA; exact T.af _ _ _
 have nA:hA.nx=h.nx+1+1:=by subst eA; rfl
 have lA:hA.lo=h.lo:=by subst eA; rfl
 rw[←eA]
 clear eA
 refine oZ Q (uB r) hA q _ _ (hq.le qq) hlen ?_ ?_
 ·intro p hp h1 κ1 wQ iJ
  have n1:=wQ.nx
  have l1:=wQ.lo
  simp(disch:=first|omega|simp only[Wd]<;>omega|rfl)only[Wz,List.nil_append,List.cons_append]
  exact Q0 r p (h.nx+1) h1 κ1 (by omega) (by omega) ((wQ.get _ (by omega)).trans g3) iJ
 ·intro h' hl
  simp(disch:=first|omega|simp only[Wd]<;>omega|rfl)only[Wz]
  exact hk h' (qq.trans hl)
theorem Nx (r:R5) {h:Heap} {κ:Value→Heap→Prop} (hk:κ (.bool (decide (r.m=0))) h):CallW Tryz.prog 335 [jI r] h κ:=by
 refine fF (v:=.bool (decide (r.m=0))) rfl rfl (an mixed ?_) hk
 rw[WI]
 simp(disch:=first|omega|simp only[Wd]<;>omega|rfl)only[Wz,bq]
 refine BY r ?_
 simp(disch:=first|omega|simp only[Wd]<;>omega|rfl)only[Wz]
 simp
theorem EB (t r':Int) (q:Value) (w:Int) (Q:List R5) (h:Heap) (κ:KQ) (hq:Sl bq h q Q) (hlen:Q.length≤1000000) (hlo:h.lo≤h.nx) (hk:∀h',Le h h'→κ (.int .i64 (dN (cW Q))) h') :
  CallW Tryz.prog 318 [ef t r' q w] h κ:=by
 obtain ⟨hc,ho⟩:=jJ hq
 refine an mixed ?_
 rw[WC]
 simp(disch:=first|omega|simp only[Wd]<;>omega|rfl)only[Wz,ef]
 obtain ⟨hA,eA⟩:∃hA:Heap,hA=⟨h.nx+1,h.bl.aY h.nx (aa [.int .i64 t,.int .i64 r',q,.int .i64 w] 305 false),h.lo⟩:=⟨_,rfl⟩
 have qq:Le h hA:=by subst eA; exact (Le.refl h).new _
 have gA:hA.bl.get h.nx=some (aa [.int .i64 t,.int .i64 r',q,.int .i64 w] 305 false):=by subst eA; exact T.af _ _ _
 have nA:hA.nx=h.nx+1:=by subst eA; rfl
 have lA:hA.lo=h.lo:=by subst eA; rfl
 rw[←eA]
 clear eA
 simp(disch:=first|omega|simp only[Wd]<;>omega|rfl)only[Wz,hq.len]
 refine ⟨fun n l h1=>∃i:Nat,slot l 27=.int .i64 (i:Int)∧slot l 25=.int .i64 (dN (best Q i))∧i≤Q.length∧n=Q.length-i∧Le hA h1,⟨_,0,rfl,rfl,Nat.zero_le _,rfl,Le.refl _⟩,?_⟩
 rintro n l h1 ⟨i,s1,s2,hi,rfl,hle⟩
 have n1:=hle.nx
 have l1:=hle.lo
 have g1:=(hle.get h.nx (by omega)).trans gA
 have hq1:=hq.le (qq.trans hle)
 by_cases hlt:i<Q.length
 ·obtain ⟨p,hp⟩:∃p,Q[i]? = some p:=⟨_,List.getElem?_eq_getElem hlt⟩
  obtain ⟨b,o,hb,fJ,eX⟩:=xM hq1 i hp
  have qI:best Q (i+1)=if (nQ p && r_ Q p (best Q i))=true then some i else best Q i:=by
   show (match Q[i]? with | some r=>_ | none=>_)=_
   rw[hp]
  simp(disch:=first|omega|simp only[Wd]<;>omega|rfl)only[Wz,s1,xK]
  refine ⟨fun l' h'=>slot l' 24=.int .i64 (dN (best Q (i+1)))∧Le hA h',?_,?_⟩
  ·simp(disch:=first|omega|simp only[Wd]<;>omega|rfl)only[Wz,Ev,s1,s2,fJ,eX,bq]
   obtain ⟨hB,eB⟩:∃hB:Heap,hB=⟨h1.nx+1,h1.bl.aY h1.nx (ic p),h1.lo⟩:=⟨_,rfl⟩
   have nH:Le h1 hB:=by subst eB; exact (Le.refl h1).new _
   have gB:hB.bl.get h1.nx=some (ic p):=by subst eB; exact T.af _ _ _
   have gB1:=(nH.get h.nx (by omega)).trans g1
   have nB:hB.nx=h1.nx+1:=by subst eB; rfl
   have lB:hB.lo=h1.lo:=by subst eB; rfl
   rw[←eB]
   clear eB
   refine xN p ?_
   cases hu:nQ p with
   | false=>
    simp(disch:=first|omega|simp only[Wd]<;>omega|rfl)only[Wz,s2]
    refine ⟨?_,hle.trans nH⟩
    rw[qI,hu]; simp[s2]
   | true=>
    cases mO:best Q i with
    | none=>
     simp(disch:=first|omega|simp only[Wd]<;>omega|rfl)only[Wz,s2,dN,cq (show (-1:Int)<0 by decide),mO]
     refine ⟨?_,hle.trans nH⟩
     rw[qI,hu,mO]; rfl
    | some k=>
     obtain ⟨Ti,pk,hpk,_⟩:=vm Q i k mO
     obtain ⟨b',o',hb',Ny,Nz⟩:=xM (hq1.le nH) k hpk
     have EC:r_ Q p (some k)=decide (p.s<pk.s):=by simp only[r_,hpk]
     simp(disch:=first|omega|simp only[Wd]<;>omega|rfl)only[Wz,s2,dN,bP (show (0:Int)≤(k:Int) by omega),mO,gB,gB1,Ny,Nz]
     by_cases hs:p.s<pk.s
     ·simp(disch:=first|omega|simp only[Wd]<;>omega|rfl)only[Wz,a_ hs]
      refine ⟨?_,hle.trans nH⟩
      rw[qI,hu,mO,EC,a_ hs]; rfl
     ·simp(disch:=first|omega|simp only[Wd]<;>omega|rfl)only[Wz,aN hs]
      refine ⟨?_,hle.trans nH⟩
      rw[qI,hu,mO,EC,aN hs]
      first | rfl | (rw[s2,mO]; rfl)
  ·rintro l' h' ⟨k1,k2⟩
   exact ⟨_,by omega,i+1,rfl,k1,by omega,rfl,k2⟩
 ·have hil:i=Q.length:=by omega
  subst hil
  simp(disch:=first|omega|simp only[Wd]<;>omega|rfl)only[Wz,s1,xK]
  refine ⟨fun l' h'=>slot l' 6=.int .i64 (dN (cW Q))∧Le hA h',?_,?_⟩
  rotate_left
  ·rintro l' h' ⟨k1,k2⟩
   show κ (slot l' 6) h'
   rw[k1]; exact hk h' (qq.trans k2)
  cases mO:best Q Q.length with
  | some k=>
   have e:cW Q=some k:=by simp only[cW,mO]
   simp(disch:=first|omega|simp only[Wd]<;>omega|rfl)only[Wz,xJ,s2,mO,dN,bP (show (0:Int)≤(k:Int) by omega)]
   refine ⟨?_,hle⟩
   rw[e]
  | none=>
   have e:cW Q=Q.findIdx? (fun r=>decide (r.m=0)):=by simp only[cW,mO]
   simp(disch:=first|omega|simp only[Wd]<;>omega|rfl)only[Wz,xJ,s2,mO,dN,cq (show (-1:Int)<0 by decide),g1]
   refine xL Q (fun r=>decide (r.m=0)) h1 q _ _ hq1 hlen ?_ ?_
   ·intro p hp h2 κ2 Lt hk2
    simp(disch:=first|omega|simp only[Wd]<;>omega|rfl)only[Wz,List.nil_append,List.append_nil]
    exact Nx p (hk2 h2 (Le.refl _))
   ·intro h' hl
    refine ⟨?_,hle.trans hl⟩
    rw[e]; rfl
end Go.Proofs

namespace Go.Vai
open Go
section
variable {α:Type} {s:Nat} {enc:α→List Value}
set_option maxRecDepth 20000 in
theorem cV {a h:Heap} {e:TypeId} {z:List Value} {v x:Value} {L M:List α} (he:∀a:α,(enc a).length=s) (hone:∀a:α,(enc a).all ew=true) (hs0:0<s) (hs1:s≤100) (ho:dh enc a e h v L) (hx:Sl enc h x M)
  (hle:Le a h) (hb:L.length+M.length≤1000000) (hal:h.lo≤h.nx) (κ:KQ)
  (hk:∀v' h',dh enc a e h' v' (L++M)→Le a h'→h'.nx≤h.nx+1→h.nx≤h'.nx→h'.lo=h.lo→(∀b,b<h.nx→h.bl.get b≠some (aa (L.flatMap enc) e true)→h'.bl.get b=h.bl.get b)→κ v' h'):bu False e s z false v x h κ:=by
 by_cases hM:M=[]
 ·subst hM
  rw[append_nil hx (by rcases ho with ⟨rfl,rfl | ⟨b,o,rfl⟩⟩ | ⟨b,rfl,_⟩<;>exact ⟨_,_,_,rfl⟩)]
  exact hk v h (by simpa using ho) hle (Nat.le_succ _) (Nat.le_refl _) rfl (fun _ _ _=>rfl)
 ·obtain ⟨m,hm⟩:∃m,M.length=m+1:=⟨M.length-1,by have:=List.length_pos_iff.2 hM; omega⟩
  have hfl:=aX (enc:=enc) he
  have iB:=hx.first (β:=Prop) (fl:=False) he
  obtain ⟨y,cap,rfl,h2⟩:=hx
  have hml:∀K:List α,K.length≤1000000→(K.flatMap enc).length≤1000000000000:=fun K hK=>by
   rw[hfl]
   have:=Nat.mul_le_mul hK hs1
   omega
  have fresh:∀(hh:Heap) (ws:List Value),ws=(L++M).flatMap enc→Le a hh→hh.nx=h.nx→hh.lo=h.lo→(∀b,b<h.nx→h.bl.get b≠some (aa (L.flatMap enc) e true)→hh.bl.get b=h.bl.get b)→ez False ws e true hh fun b h'=>κ (.slice (some ⟨b,0,none⟩) (L.length+M.length) aO) h':=by
   intro hh ws hw SU hnx hlo hgt
   subst hw
   unfold ez
   rw[jf _ _ _ _ (hml _ (by simp; omega)),dV]
   refine hk _ _ (.inr ⟨hh.nx,by simp,SU.nx,Nat.lt_succ_self _,by show hh.lo≤_; omega,T.af _ _ _⟩) (SU.new _) (by show hh.nx+1≤_; omega) (by show h.nx≤hh.nx+1; omega) hlo (fun b hb hn=>(T.ai _ _ (by omega)).trans (hgt b hb hn))
  rcases ho with ⟨rfl,hv⟩ | ⟨b,rfl,h3,h4,h5,h6⟩
  ·have hF:=fresh h (M.flatMap enc) (by simp) hle rfl rfl (fun _ _ _=>rfl)
   simp only[List.length_nil,Nat.zero_add] at hF
   rcases hv with rfl | ⟨b,o,rfl⟩
   ·unfold bu kz
    simp only
    rw[iB]
    simp only[hm,bS]
    rw[show Nat.ble (Nat.add 0 (m+1)) 1000000000=true from Nat.ble_eq_true_of_le (by show 0+(m+1)≤_; omega)]
    rw[hm] at hF
    have e1:Nat.add 0 (m+1)=m+1:=by show 0+(m+1)=_; omega
    rw[e1]
    exact hF
   ·unfold bu kz
    simp only
    rw[iB]
    simp only[hm,bS]
    have e1:Nat.add 0 (m+1)=m+1:=by show 0+(m+1)=_; omega
    rw[e1,show Nat.ble (m+1) 1000000000=true from Nat.ble_eq_true_of_le (by omega)]
    rw[hm] at hF
    show fU False h s 0 _ _
    rw[jE _ _ _ _ _ (by simp)]
    exact hF
  ·unfold bu kz
   simp only
   rw[iB]
   simp only[hm,bS]
   have e1:Nat.add L.length (m+1)=L.length+(m+1):=rfl
   rw[e1,show Nat.ble (L.length+(m+1)) 1000000000=true from Nat.ble_eq_true_of_le (by omega)]
   have e2:Nat.beq aO fT=false:=by decide
   have e3:Nat.beq aO aO=true:=Nat.beq_refl _
   simp only[e2,e3,h6]
   have e4:Nat.ble (Nat.add 0 (Nat.mul (L.length+(m+1)) s)) (L.flatMap enc).length=false:=by
    rw[hfl]
    cases SV:Nat.ble (Nat.add 0 (Nat.mul (L.length+(m+1)) s)) (L.length*s) with
    | false=>rfl
    | true=>
     have h7:0+(L.length+(m+1))*s≤L.length*s:=Nat.le_of_ble_eq_true SV
     rw[Nat.add_mul,Nat.succ_mul] at h7
     omega
   have e5:(M.flatMap enc).all ew=true:=by
    rw[List.all_flatMap]; simp only[List.all_eq_true]; intro x _; exact List.all_eq_true.1 (hone x)
   simp only[aa,Nat.beq_refl,e4,e5,Bool.and_self]
   have hh:Has (h.bl.get b) 0 (L.flatMap enc):=by rw[h6]; exact Has.all
   rw[nr hh s L.length _ _ _ (hfl L).symm,bU _ _ _ _ h5]
   have hF:=fresh ⟨h.nx,h.bl.aY b (.dead (L.flatMap enc).length e),h.lo⟩ (L.flatMap enc++M.flatMap enc) (by simp) (hle.set h3 _) rfl rfl (fun b' _ hn=>T.ai _ _ (fun e=>hn (by rw[←e]; exact h6)))
   rw[hm] at hF
   exact hF
end
theorem aS {vs ws:List Value} {e e':TypeId}:(some (aa vs e false):Option bQ)≠some (aa ws e' true):=by
 intro h
 unfold aa at h
 simp only[Option.some.injEq,bQ.cells.injEq] at h
 exact absurd h.2.2.2 (by decide)
theorem aL {vs ws:List Value} {e e':TypeId} {p p':Bool} (hn:e≠e'):(some (aa vs e p):Option bQ)≠some (aa ws e' p'):=by
 intro h
 unfold aa at h
 simp only[Option.some.injEq,bQ.cells.injEq] at h
 exact hn h.2.2.1
theorem bE {es:List MapEntry} {c:Nat} {ws:List Value} {e:TypeId} {p:Bool}:(some (.map es c):Option bQ)≠some (aa ws e p):=by
 intro h
 unfold aa at h
 cases h
end Go.Vai

namespace Go.Proofs
open Go.Vai Go.Clashes
theorem dh.base {α:Type} {enc:α→List Value} {a a' h:Heap} {e:TypeId} {v:Value} {L:List α} (ho:dh enc a e h v L) (hn:a'.nx≤a.nx):dh enc a' e h v L:=by
 rcases ho with ho | ⟨b,h0,h1,h2⟩
 ·exact .inl ho
 ·exact .inr ⟨b,h0,Nat.le_trans hn h1,h2⟩
theorem dh.same {α:Type} {enc:α→List Value} {a h h':Heap} {e:TypeId} {v:Value} {L:List α} (ho:dh enc a e h v L) (hn:h.nx≤h'.nx) (hl:h'.lo=h.lo) (hs:∀b,a.nx≤b→b<h.nx→h'.bl.get b=h.bl.get b):dh enc a e h' v L:=by
 rcases ho with ho | ⟨b,h0,h1,h2,h3,h4⟩
 ·exact .inl ho
 ·exact .inr ⟨b,h0,h1,Nat.lt_of_lt_of_le h2 hn,by rw[hl]; exact h3,by rw[hs b h1 h2]; exact h4⟩
theorem Jj (t r:Int) (q:Value) (w:Int) (Q:List R5) (h:Heap) (κ:KQ) (hq:Sl bq h q Q) (hlen:Q.length≤1000000) (hlo:h.lo≤h.nx) (hk:∀q' h',iV h h' q' Q→Le h h'→κ (ef t r q' w) h') :
  CallW Tryz.prog 287 [ef t r q w] h κ:=by
 obtain ⟨qx,qc,rfl,_⟩:=id hq
 refine an mixed ?_
 rw[Wm]
 simp(disch:=first|omega|simp only[Wd]<;>omega|rfl)only[Wz,ef]
 obtain ⟨hA,eA⟩:∃hA:Heap,hA=⟨h.nx+1+1,(h.bl.aY h.nx (aa [.int .i64 t,.int .i64 r,.slice qx Q.length qc,.int .i64 w] 81 false)).aY (h.nx+1) (aa [.int .i64 0,.int .i64 0,.slice none 0 0,.int .i64 0] 305 false),h.lo⟩:=⟨_,rfl⟩
 have qq:Le h hA:=by subst eA; exact ((Le.refl h).new _).new _
 have g1:hA.bl.get h.nx=some (aa [.int .i64 t,.int .i64 r,.slice qx Q.length qc,.int .i64 w] 81 false):=by subst eA; exact (T.ai _ _ (by omega)).trans (T.af _ _ _)
 have g3:hA.bl.get (h.nx+1)=some (aa [.int .i64 0,.int .i64 0,.slice none 0 0,.int .i64 0] 305 false):=by subst eA; exact T.af _ _ _
 have nA:hA.nx=h.nx+1+1:=by subst eA; rfl
 have lA:hA.lo=h.lo:=by subst eA; rfl
 rw[←eA]
 clear eA
 refine Ez Q hA _ _ (hq.le qq) hlen (by omega) ?_
 intro q' h2 mo hle2
 have n2:=hle2.nx
 have l2:=hle2.lo
 have g12:=(hle2.get h.nx (by omega)).trans g1
 have g32:=(hle2.get (h.nx+1) (by omega)).trans g3
 have hle:=(qq.trans hle2)
 obtain ⟨Tu,Tv,rfl,_⟩:=id mo.sl
 simp(disch:=first|omega|simp only[Wd]<;>omega|rfl)only[Wz,g12,g32]
 refine hk _ _ ?_ ?_
 ·refine dh.base (dh.same mo (Nat.le_refl _) rfl fun b h1 _=>?_) (by omega)
  exact (T.ai _ _ (by omega)).trans (T.ai _ _ (by omega))
 ·exact (hle.set (b:=h.nx) (Nat.le_refl _) _).set (b:=h.nx+1) (Nat.le_succ _) _
def o9 (id x:Int) (r:R5):Bool:=decide (r.id=id) || decide (r.x=x)
theorem WO (id x:Int) (r:R5) (b3 b5:Nat) (h:Heap) (κ:KQ) (hlo:h.lo≤h.nx) (hb3:b3<h.nx) (hb5:b5<h.nx) (hg3:h.bl.get b3=some (aa [.int .i64 id] 3 false)) (Ys:h.bl.get b5=some (aa [.int .i64 x] 3 false))
  (hk:∀h',Le h h'→κ (.bool (o9 id x r)) h'):CallW Tryz.prog 322 [jI r,ptrTo b3,ptrTo b5] h κ:=by
 have hk:=hk _ ((Le.refl h).new (ic r))
 refine an mixed ?_
 rw[WG]
 by_cases h1:r.id=id
 ·simp(disch:=first|omega|simp only[Wd]<;>omega|rfl)only[Wz,bq,hg3,Ys,a_ h1]
  have e:o9 id x r=true:=by simp[o9,h1]
  rw[e] at hk; exact hk
 ·simp(disch:=first|omega|simp only[Wd]<;>omega|rfl)only[Wz,bq,hg3,Ys,aN h1]
  have e:o9 id x r=decide (r.x=x):=by simp[o9,h1]
  rw[e] at hk; exact hk
theorem dh.put {α:Type} {enc:α→List Value} {a h:Heap} {e:TypeId} {v:Value} {L:List α} (ho:dh enc a e h v L) {c:Nat} (hc:h.bl.get c≠some (aa (L.flatMap enc) e true)) (o:bQ):dh enc a e ⟨h.nx,h.bl.aY c o,h.lo⟩ v L:=by
 rcases ho with ho | ⟨b,h0,h1,h2,h3,h4⟩
 ·exact .inl ho
 ·refine .inr ⟨b,h0,h1,h2,h3,(T.ai _ _ ?_).trans h4⟩
  rintro rfl
  exact hc h4
theorem NA (t r:Int) (qx:Option Addr) (qc:Nat) (w:Int) (p:R5) (g:Bool) (yW Kq b7:Nat) (Q:List R5) (a h:Heap) (κ:KQ) (ho:iV a h (.slice qx Q.length qc) Q) (hle:Le a h) (hlen:Q.length≤100000) (hlo:h.lo≤h.nx)
  (afL:yW<h.nx) (ak7:Kq<h.nx) (hb7:b7<h.nx) (hd:yW≠b7) (ak8:h.lo≤yW) (hl7:h.lo≤b7)
  (g29:h.bl.get yW=some (aa [.int .i64 t,.int .i64 r,.slice qx Q.length qc,.int .i64 w] 305 false)) (WQ:h.bl.get Kq=some (ic p)) (g7:h.bl.get b7=some (aa [.int .i64 0,.int .i64 0,.slice none 0 0,.int .i64 0] 81 false))
  (hk:∀q' h',iV a h' q' (Q++[p])→(h.nx≤h'.nx∧h'.lo=h.lo∧∀b,b<a.nx→b≠yW→b≠b7→h'.bl.get b=a.bl.get b)→κ (.tuple ⟨[ef t r q' w,.bool g,.int .i64 0]⟩) h') :
  su yW Kq b7 (.bool g) h κ:=by
 simp(disch:=first|omega|simp only[Wd]<;>omega|rfl)only[Wz,su,g29,WQ]
 have hle1:=(Le.refl h).new (ic p)
 refine cV (enc:=bq) (a:=a) (L:=Q) (M:=[p]) bz jG (by decide) (by decide) (ho.le hle1) (Sl.new (L:=[p]) (e:=83) (op:=false) (Nat.lt_succ_self _) (T.af _ _ _) _) (hle.new _) (by simp; omega) (by show h.lo≤h.nx+1; omega) _ ?_
 intro v' h' ho' hle' y_ hn2 hl' hsame
 obtain ⟨Tu,Tv,rfl,_⟩:=(show Sl bq h' v' (Q++[p]) from ho'.sl)
 have n1:h.nx+1≤h'.nx:=hn2
 have k1:∀b,b<h.nx→h.bl.get b≠some (aa (Q.flatMap bq) 83 true)→h'.bl.get b=h.bl.get b:=by
  intro b hb hne
  have e:(h.bl.aY h.nx (ic p)).get b=h.bl.get b:=T.ai _ _ (by omega)
  exact (hsame b (Nat.lt_succ_of_lt hb) (fun k=>hne (by rw[←e]; exact k))).trans e
 have abp:=(k1 yW afL (by rw[g29]; exact aS)).trans g29
 have g7':=(k1 b7 hb7 (by rw[g7]; exact aS)).trans g7
 have Lt:h'.lo=h.lo:=hl'
 simp(disch:=first|omega|simp only[Wd]<;>omega|rfl)only[Wz,abp,g7']
 refine hk _ _ ?_ ⟨by show h.nx≤h'.nx; omega,Lt,?_⟩
 ·refine dh.put (dh.put ho' (by rw[abp]; exact aS) _) ?_ _
  show (h'.bl.aY yW _).get b7≠_
  rw[T.ai _ _ hd,g7']
  exact aS
 ·intro b hb h1 h2
  exact (T.ai _ _ (fun e=>h2 e.symm)).trans ((T.ai _ _ (fun e=>h1 e.symm)).trans (hle'.get b hb))
theorem abq (t r:Int) (q:Value) (w id x m:Int) (Q:List R5) (h:Heap) (κ:KQ) (hq:Sl bq h q Q) (hlen:Q.length≤100000) (hlo:h.lo≤h.nx) (hw:0≤w∧w≤1000000) (hid:0≤id) (hm:aZ m=true) (hn:∀p∈Q,p.id≠id∧p.x≠x)
  (hk:∀q' h',iV h h' q' (Q++[(dI Q w id x m).1])→Le h h'→κ (.tuple ⟨[ef t r q' (dI Q w id x m).2.1,.bool (dI Q w id x m).2.2,.int .i64 0]⟩) h') :
  CallW Tryz.prog 293 [ef t r q w,.int .i64 id,.int .i64 x,.int .i64 m] h κ:=by
 obtain ⟨qx,qc,rfl,_⟩:=(show Sl bq h q Q from hq)
 refine an mixed ?_
 rw[Ws]
 simp(disch:=first|omega|simp only[Wd]<;>omega|rfl)only[Wz,ef]
 obtain ⟨hA,eA⟩:∃hA:Heap,hA=⟨h.nx+1+1+1+1,(((h.bl.aY h.nx (aa [.int .i64 t,.int .i64 r,.slice qx Q.length qc,.int .i64 w] 81 false)).aY (h.nx+1) (aa [.int .i64 id] 3 false)).aY (h.nx+1+1) (aa [.int .i64 x] 3 false)).aY (h.nx+1+1+1) (aa [.int .i64 0,.int .i64 0,.slice none 0 0,.int .i64 0] 81 false),h.lo⟩:=⟨_,rfl⟩
 have qq:Le h hA:=by subst eA; exact ((((Le.refl h).new _).new _).new _).new _
 have g1:hA.bl.get h.nx=some (aa [.int .i64 t,.int .i64 r,.slice qx Q.length qc,.int .i64 w] 81 false):=by subst eA; exact (T.ai _ _ (by omega)).trans ((T.ai _ _ (by omega)).trans ((T.ai _ _ (by omega)).trans (T.af _ _ _)))
 have g3:hA.bl.get (h.nx+1)=some (aa [.int .i64 id] 3 false):=by subst eA; exact (T.ai _ _ (by omega)).trans ((T.ai _ _ (by omega)).trans (T.af _ _ _))
 have g5:hA.bl.get (h.nx+1+1)=some (aa [.int .i64 x] 3 false):=by subst eA; exact (T.ai _ _ (by omega)).trans (T.af _ _ _)
 have g7:hA.bl.get (h.nx+1+1+1)=some (aa [.int .i64 0,.int .i64 0,.slice none 0 0,.int .i64 0] 81 false):=by subst eA; exact T.af _ _ _
 have nA:hA.nx=h.nx+1+1+1+1:=by subst eA; rfl
 have lA:hA.lo=h.lo:=by subst eA; rfl
 rw[←eA]
 clear eA
 refine EA m ?_
 rw[hm]
 simp(disch:=first|omega|simp only[Wd]<;>omega|rfl)only[Wz,Er,g1,g3,g5]
 refine oZ Q (o9 id x) hA _ _ _ (hq.le qq) (by omega) ?_ ?_
 ·intro p hp h1 κ1 wQ iJ
  have n1:=wQ.nx
  have l1:=wQ.lo
  simp(disch:=first|omega|simp only[Wd]<;>omega|rfl)only[Wz,List.nil_append,List.cons_append]
  exact WO id x p (h.nx+1) (h.nx+1+1) h1 κ1 (by omega) (by omega) (by omega) ((wQ.get _ (by omega)).trans g3) ((wQ.get _ (by omega)).trans g5) iJ
 intro h2 hle2
 have n2:=hle2.nx
 have l2:=hle2.lo
 have hno:Q.any (o9 id x)=false:=by
  rw[List.any_eq_false]
  intro p hp
  simp[o9,(hn p hp).1,(hn p hp).2]
 rw[hno]
 have g12:=(hle2.get h.nx (by omega)).trans g1
 have g32:=(hle2.get (h.nx+1) (by omega)).trans g3
 have g52:=(hle2.get (h.nx+1+1) (by omega)).trans g5
 have g72:=(hle2.get (h.nx+1+1+1) (by omega)).trans g7
 simp(disch:=first|omega|simp only[Wd]<;>omega|rfl)only[Wz,Ep,g12]
 refine Jj t r _ w Q h2 _ (hq.le (qq.trans hle2)) (by omega) (by omega) ?_
 intro q3 h3 og fk
 have n3:=fk.nx
 have l3:=fk.lo
 obtain ⟨vB,vC,rfl,_⟩:=(show Sl bq h3 q3 Q from og.sl)
 have g33:=(fk.get (h.nx+1) (by omega)).trans g32
 have g53:=(fk.get (h.nx+1+1) (by omega)).trans g52
 have g73:=(fk.get (h.nx+1+1+1) (by omega)).trans g72
 simp(disch:=first|omega|simp only[Wd]<;>omega|rfl)only[Wz,ef,g33,g53]
 obtain ⟨hB,eB⟩:∃hB:Heap,hB=⟨h3.nx+1+1,(h3.bl.aY h3.nx (aa [.int .i64 t,.int .i64 r,.slice vB Q.length vC,.int .i64 w] 305 false)).aY (h3.nx+1) (ic ⟨id,x,0,m,0⟩),h3.lo⟩:=⟨_,rfl⟩
 have nH:Le h3 hB:=by subst eB; exact ((Le.refl h3).new _).new _
 have g29:hB.bl.get h3.nx=some (aa [.int .i64 t,.int .i64 r,.slice vB Q.length vC,.int .i64 w] 305 false):=by subst eB; exact (T.ai _ _ (by omega)).trans (T.af _ _ _)
 have WQ:hB.bl.get (h3.nx+1)=some (ic ⟨id,x,0,m,0⟩):=by subst eB; exact T.af _ _ _
 have g7B:=(nH.get (h.nx+1+1+1) (by omega)).trans g73
 have nB:hB.nx=h3.nx+1+1:=by subst eB; rfl
 have lB:hB.lo=h3.lo:=by subst eB; rfl
 rw[←eB]
 clear eB
 have FE:=og.le nH
 refine EB t r _ w Q hB _ FE.sl (by omega) (by omega) ?_
 intro h4 ja
 have n4:=ja.nx
 have l4:=ja.lo
 have hall:Le h h4:=(((qq.trans hle2).trans fk).trans nH).trans ja
 have Tw:Le h2 h4:=(fk.trans nH).trans ja
 have Q3:=(ja.get h3.nx (by omega)).trans g29
 have Q4:=(ja.get (h3.nx+1) (by omega)).trans WQ
 have g74:=(ja.get (h.nx+1+1+1) (by omega)).trans g7B
 have ho4:=FE.le ja
 have fin:∀(p:R5) (w':Int) (g:Bool) (h5:Heap),dI Q w id x m=(p,w',g)→iV h2 h5 (.slice vB Q.length vC) Q→Le h h5→Le h2 h5→h4.nx≤h5.nx→
   h5.bl.get h3.nx=some (aa [.int .i64 t,.int .i64 r,.slice vB Q.length vC,.int .i64 w'] 305 false)→h5.bl.get (h3.nx+1)=some (ic p)→h5.bl.get (h.nx+1+1+1)=some (aa [.int .i64 0,.int .i64 0,.slice none 0 0,.int .i64 0] 81 false)→
   su h3.nx (h3.nx+1) (h.nx+1+1+1) (.bool g) h5 κ:=by
  intro p w' g h5 he tL Yt afN n5 k1 k2 k3
  have l5:=Yt.lo
  refine NA t r vB vC w' p g _ _ _ Q h2 h5 κ tL afN (by omega) (by omega) (by omega) (by omega) (by omega) (by omega) (by omega) (by omega) k1 k2 k3 ?_
  intro q' h' ho' hfr
  obtain ⟨e1,e2,e3⟩:=hfr
  rw[he] at hk
  have nn:=Yt.nx
  refine hk q' h' (dh.base ho' (by omega)) ⟨by omega,by rw[e2]; exact Yt.lo,fun b hb=>?_⟩
  exact (e3 b (by omega) (by omega) (by omega)).trans ((qq.trans hle2).get b hb)
 have xP:=hall
 cases hf:cW Q with
 | some i=>
  simp(disch:=first|omega|simp only[Wd]<;>omega|rfl)only[Wz,dN,bP (show (0:Int)≤(i:Int) by omega)]
  obtain ⟨hC,eC⟩:∃hC:Heap,hC=⟨h4.nx,(h4.bl.aY h3.nx (aa [.int .i64 t,.int .i64 r,.slice vB Q.length vC,.int .i64 (w+1)] 305 false)).aY (h3.nx+1) (ic ⟨id,x,0,m,w+1⟩),h4.lo⟩:=⟨_,rfl⟩
  refine ⟨fun l h'=>HQ hC h',?_,?_⟩
  ·simp(disch:=first|omega|simp only[Wd]<;>omega|rfl)only[Wz,xG,Q3,Q4]
   exact eC
  ·intro l h' um
   cases (show hC=h' from um)
   have nC:hC.nx=h4.nx:=by rw[eC]
   refine fin ⟨id,x,0,m,w+1⟩ (w+1) false hC ?_ ?_ ?_ ?_ (by omega) ?_ ?_ ?_
   ·unfold dI
    rw[if_neg]
    simp[hf]
   ·rw[eC]
    exact dh.put (dh.put ho4 (by rw[Q3]; exact aS) _) (by show (h4.bl.aY h3.nx _).get (h3.nx+1)≠_; rw[T.ai _ _ (by omega),Q4]; exact aS) _
   ·rw[eC]; exact (xP.set (b:=h3.nx) (by omega) _).set (b:=h3.nx+1) (by omega) _
   ·rw[eC]; exact (Tw.set (b:=h3.nx) (by omega) _).set (b:=h3.nx+1) (by omega) _
   ·rw[eC]; exact (T.ai _ _ (by omega)).trans (T.af _ _ _)
   ·rw[eC]; exact T.af _ _ _
   ·rw[eC]; exact ((T.ai _ _ (by omega)).trans (T.ai _ _ (by omega))).trans g74
 | none=>
  simp(disch:=first|omega|simp only[Wd]<;>omega|rfl)only[Wz,dN,cq (show (-1:Int)<0 by decide),Q3,Q4]
  refine BZ t r _ w ⟨id,x,0,m,0⟩ Q h4 _ ho4.sl (by omega) (by omega) ?_
  intro h5 ir
  have n5:=ir.nx
  have l5:=ir.lo
  have WR:=(ir.get h3.nx (by omega)).trans Q3
  have Q5:=(ir.get (h3.nx+1) (by omega)).trans Q4
  have g75:=(ir.get (h.nx+1+1+1) (by omega)).trans g74
  have tL:=ho4.le ir
  have uC:=hall.trans ir
  have Tx:=Tw.trans ir
  cases hfit:ej Q ⟨id,x,0,m,0⟩ with
  | false=>
   simp(disch:=first|omega|simp only[Wd]<;>omega|rfl)only[Wz]
   obtain ⟨hC,eC⟩:∃hC:Heap,hC=⟨h5.nx,(h5.bl.aY h3.nx (aa [.int .i64 t,.int .i64 r,.slice vB Q.length vC,.int .i64 (w+1)] 305 false)).aY (h3.nx+1) (ic ⟨id,x,0,m,w+1⟩),h5.lo⟩:=⟨_,rfl⟩
   refine ⟨fun l h'=>HQ hC h',?_,?_⟩
   ·simp(disch:=first|omega|simp only[Wd]<;>omega|rfl)only[Wz,xG,WR,Q5]
    exact eC
   ·intro l h' um
    cases (show hC=h' from um)
    have nC:hC.nx=h5.nx:=by rw[eC]
    refine fin ⟨id,x,0,m,w+1⟩ (w+1) false hC ?_ ?_ ?_ ?_ (by omega) ?_ ?_ ?_
    ·unfold dI
     rw[if_neg]
     simp[hf,hfit]
    ·rw[eC]
     exact dh.put (dh.put tL (by rw[WR]; exact aS) _) (by show (h5.bl.aY h3.nx _).get (h3.nx+1)≠_; rw[T.ai _ _ (by omega),Q5]; exact aS) _
    ·rw[eC]; exact (uC.set (b:=h3.nx) (by omega) _).set (b:=h3.nx+1) (by omega) _
    ·rw[eC]; exact (Tx.set (b:=h3.nx) (by omega) _).set (b:=h3.nx+1) (by omega) _
    ·rw[eC]; exact (T.ai _ _ (by omega)).trans (T.af _ _ _)
    ·rw[eC]; exact T.af _ _ _
    ·rw[eC]; exact ((T.ai _ _ (by omega)).trans (T.ai _ _ (by omega))).trans g75
  | true=>
   simp(disch:=first|omega|simp only[Wd]<;>omega|rfl)only[Wz]
   obtain ⟨hC,eC⟩:∃hC:Heap,hC=⟨h5.nx,h5.bl.aY (h3.nx+1) (ic ⟨id,x,m,m,0⟩),h5.lo⟩:=⟨_,rfl⟩
   refine ⟨fun l h'=>HQ hC h',?_,?_⟩
   ·simp(disch:=first|omega|simp only[Wd]<;>omega|rfl)only[Wz,Q5]
    exact eC
   ·intro l h' um
    cases (show hC=h' from um)
    have nC:hC.nx=h5.nx:=by rw[eC]
    refine fin ⟨id,x,m,m,0⟩ w true hC ?_ ?_ ?_ ?_ (by omega) ?_ ?_ ?_
    ·unfold dI
     rw[if_pos]
     simp[hf,hfit]
    ·rw[eC]
     exact dh.put tL (by rw[Q5]; exact aS) _
    ·rw[eC]; exact uC.set (b:=h3.nx+1) (by omega) _
    ·rw[eC]; exact Tx.set (b:=h3.nx+1) (by omega) _
    ·rw[eC]; exact (T.ai _ _ (by omega)).trans WR
    ·rw[eC]; exact T.af _ _ _
    ·rw[eC]; exact (T.ai _ _ (by omega)).trans g75
end Go.Proofs

namespace Go.Vai
open Go
section
variable {α:Type} {s:Nat} {enc:α→List Value}
theorem NB (A E C ws:List Value) (j:Nat) (h:j+ws.length≤E.length):over (A++E++C) (A.length+j) ws=A++over E j ws++C:=by
 unfold over
 have e1:(A++E++C).take (A.length+j)=A++E.take j:=by
  rw[List.append_assoc,List.take_append,List.take_of_length_le (by omega),show A.length+j-A.length=j by omega,List.take_append_of_le_length (by omega)]
 have e2:(A++E++C).drop (A.length+j+ws.length)=E.drop (j+ws.length)++C:=by
  rw[List.append_assoc,List.drop_append,List.drop_of_length_le (by omega),List.nil_append,show A.length+j+ws.length-A.length=j+ws.length by omega,List.drop_append_of_le_length h]
 rw[e1,e2]
 simp only[List.append_assoc]
theorem dJ (he:∀a:α,(enc a).length=s) {K:List α} {i j:Nat} {p p':α} {ws:List Value} (hp:K[i]? = some p) (hj:j+ws.length≤s) (hw:over (enc p) j ws=enc p'):over (K.flatMap enc) (i*s+j) ws=(K.set i p').flatMap enc:=by
 obtain ⟨hi,rfl⟩:=List.getElem?_eq_some_iff.1 hp
 have e1:K.flatMap enc=(K.take i).flatMap enc++enc K[i]++(K.drop (i+1)).flatMap enc:=by
  have e0:K=K.take i++(K[i]::K.drop (i+1)):=by rw[List.getElem_cons_drop,List.take_append_drop]
  have:=congrArg (List.flatMap enc) e0
  rw[List.flatMap_append,List.flatMap_cons] at this
  rw[List.append_assoc]; exact this
 have e2:(K.set i p').flatMap enc=(K.take i).flatMap enc++enc p'++(K.drop (i+1)).flatMap enc:=by
  rw[List.set_eq_take_append_cons_drop,if_pos hi]
  simp[List.flatMap_append]
 have hl:((K.take i).flatMap enc).length=i*s:=by rw[aX he,List.length_take,Nat.min_eq_left (by omega)]
 rw[e1,e2,←hl,NB _ _ _ _ _ (by rw[he]; exact hj),hw]
theorem gU (he:∀a:α,(enc a).length=s) {K:List α} {i j:Nat} {p:α} (hp:K[i]? = some p) (hj:j<s):(K.flatMap enc)[i*s+j]? = (enc p)[j]?:=by
 obtain ⟨hi,rfl⟩:=List.getElem?_eq_some_iff.1 hp
 have:=Bj he K i hi
 have e:((((K.flatMap enc).drop (i*s)).take s)[j]?)=(enc K[i])[j]?:=by rw[this]
 rw[List.getElem?_take_of_lt hj,List.getElem?_drop] at e
 exact e
end
end Go.Vai

namespace Go.Proofs
open Go.Vai Go.Clashes
noncomputable abbrev jK (t r:Int) (q:Value) (w:Int):bQ:=aa [.int .i64 t,.int .i64 r,q,.int .i64 w] 305 false
noncomputable abbrev eo (t r:Int) (q:Value) (w:Int):bQ:=aa [.int .i64 t,.int .i64 r,q,.int .i64 w] 81 false
noncomputable abbrev lK:bQ:=aa [.int .i64 0,.int .i64 0,.slice none 0 0,.int .i64 0] 81 false
theorem GG (id:Int) (r:R5) (b:Nat) (h:Heap) (κ:KQ) (hlo:h.lo≤h.nx) (hb:b<h.nx) (hg:h.bl.get b=some (aa [.int .i64 id] 3 false)) (hk:∀h',Le h h'→κ (.bool (bD id r)) h') :
  CallW Tryz.prog 316 [jI r,ptrTo b] h κ:=by
 have hk:=hk _ ((Le.refl h).new (ic r))
 refine an mixed ?_
 rw[Ww]
 simp(disch:=first|omega|simp only[Wd]<;>omega|rfl)only[Wz,bq,hg]
 exact hk
theorem Ks (t r:Int) (q:Value) (w id:Int) (Q:List R5) (a h:Heap) (κ:KQ) (ho:iV a h q Q) (hle:Le a h) (hlen:Q.length≤100000) (hlo:a.lo≤a.nx)
  (hk:∀q' h',Sl bq h' q' (Q.filter fun r=>!bD id r)→uR 83 h' q'→Le a h'→κ (ef t r q' w) h') :
  CallW Tryz.prog 288 [ef t r q w,.int .i64 id] h κ:=by
 obtain ⟨qx,qc,rfl,_⟩:=(show Sl bq h q Q from ho.sl)
 have n_0:=hle.nx
 have l_0:=hle.lo
 refine an mixed ?_
 rw[Wn]
 simp(disch:=first|omega|simp only[Wd]<;>omega|rfl)only[Wz,ef]
 obtain ⟨hA,az⟩:∃hA:Heap,hA=⟨h.nx+1+1+1,(((h.bl.aY (h.nx) (jK t r (.slice qx Q.length qc) w)).aY (h.nx+1) (aa [.int .i64 id] 3 false)).aY (h.nx+1+1) (lK)),h.lo⟩:=⟨_,rfl⟩
 have aK:Le h hA:=by subst az; exact ((((Le.refl h).new _).new _).new _)
 have g1:hA.bl.get (h.nx)=some (jK t r (.slice qx Q.length qc) w):=by subst az; exact (T.ai _ _ (by omega)).trans ((T.ai _ _ (by omega)).trans (T.af _ _ _))
 have g3:hA.bl.get (h.nx+1)=some (aa [.int .i64 id] 3 false):=by subst az; exact (T.ai _ _ (by omega)).trans (T.af _ _ _)
 have g5:hA.bl.get (h.nx+1+1)=some (lK):=by subst az; exact T.af _ _ _
 have d_:hA.nx=h.nx+1+1+1:=by subst az; rfl
 have ee:hA.lo=h.lo:=by subst az; rfl
 rw[←az]
 clear az
 refine Kr a hA Q (bD id) _ _ _ (hle.trans aK) (ho.le aK) hlen hlo ?_ ?_
 ·intro p h1 κ1 wQ hfr iJ
  have n1:=hfr.1
  have l1:=wQ.lo
  have g3:=(hfr.2 (h.nx+1) (by omega) (by rw[g3]; exact aS)).trans g3
  simp(disch:=first|omega|simp only[Wd]<;>omega|rfl)only[Wz,List.nil_append,List.cons_append]
  exact GG id p (h.nx+1) h1 κ1 (by omega) (by omega) g3 iJ
 ·intro q' h2 hs2 _ hle2 hfr ht
  have n2:=hfr.1
  have l2:=hle2.lo
  have g1:=(hfr.2 h.nx (by omega) (by rw[g1]; exact aS)).trans g1
  have g5:=(hfr.2 (h.nx+1+1) (by omega) (by rw[g5]; exact aS)).trans g5
  obtain ⟨Tu,Tv,rfl,_⟩:=(show Sl bq h2 q' _ from hs2)
  simp(disch:=first|omega|simp only[Wd]<;>omega|rfl)only[Wz,g1,g5]
  have Yu:∀vs op,h2.bl.get h.nx≠some (aa vs 83 op):=fun vs op=>by rw[g1]; exact aL (by decide)
  have hs3:=hs2.put ht Yu (jK t r (.slice Tu (Q.filter fun r=>!bD id r).length Tv) w)
  have ht3:=ht.put Yu (jK t r (.slice Tu (Q.filter fun r=>!bD id r).length Tv) w)
  have hd2:∀vs op,(h2.bl.aY h.nx (jK t r (.slice Tu (Q.filter fun r=>!bD id r).length Tv) w)).get (h.nx+1+1)≠some (aa vs 83 op):=fun vs op=>by rw[T.ai _ _ (by omega),g5]; exact aL (by decide)
  refine hk _ _ (hs3.put ht3 hd2 _) (ht3.put hd2 _) ((hle2.set (b:=h.nx) (by omega) _).set (b:=h.nx+1+1) (by omega) _)
def QV (h:Heap) (q:Value) (Q:List R5):Prop:=Sl bq h q Q∧uR 83 h q
theorem QV.le {h h':Heap} {q:Value} {Q:List R5} (v:QV h q Q) (l:Le h h'):QV h' q Q:=⟨v.1.le l,v.2.le l⟩
theorem QV.put {h:Heap} {q:Value} {Q:List R5} (v:QV h q Q) {d:Nat} (hd:∀vs op,h.bl.get d≠some (aa vs 83 op)) (o:bQ):QV ⟨h.nx,h.bl.aY d o,h.lo⟩ q Q:=⟨v.1.put v.2 hd o,v.2.put hd o⟩
theorem QV.own {a h:Heap} {q:Value} {Q:List R5} (ho:iV a h q Q):QV h q Q:=⟨ho.sl,uR.own ho⟩
theorem jL (Q:List R5) (id:Int):(Q.findIdx? (bD id)=none∧bJ Q id=none)∨∃(i:Nat) (r:R5),Q.findIdx? (bD id)=some i∧Q[i]? = some r∧r.id=id∧bJ Q id=some r:=by
 rcases jh Q (bD id) with ⟨e,h⟩ | ⟨i,p,e,hp,h1,h2⟩
 ·refine .inl ⟨e,?_⟩
  unfold bJ
  rw[List.find?_eq_none]
  intro x hx; rw[h x hx]; simp
 ·refine .inr ⟨i,p,e,hp,by simpa[bD] using h1,?_⟩
  unfold bJ
  rw[List.find?_eq_some_iff_getElem]
  obtain ⟨hi,rfl⟩:=List.getElem?_eq_some_iff.1 hp
  exact ⟨h1,i,hi,rfl,fun j hj=>by rw[h2 j _ hj (List.getElem?_eq_getElem (by omega))]; rfl⟩
theorem Q6 (t r:Int) (q:Value) (w id:Int) (Q:List R5) (h:Heap) (κ:KQ) (hq:Sl bq h q Q) (hlen:Q.length≤100000) (hlo:h.lo≤h.nx) (hf:bJ Q id≠none)
  (hk:∀q' h',QV h' q' (Q.filter fun r=>!bD id r)→Le h h'→κ (.tuple ⟨[ef t r q' w,.int .i64 0]⟩) h') :
  CallW Tryz.prog 319 [ef t r q w,.int .i64 id] h κ:=by
 obtain ⟨qx,qc,rfl,_⟩:=(show Sl bq h q Q from hq)
 refine an mixed ?_
 rw[WD]
 simp(disch:=first|omega|simp only[Wd]<;>omega|rfl)only[Wz,ef]
 obtain ⟨hA,az⟩:∃hA:Heap,hA=⟨h.nx+1+1,((h.bl.aY (h.nx) (eo t r (.slice qx Q.length qc) w)).aY (h.nx+1) (lK)),h.lo⟩:=⟨_,rfl⟩
 have aK:Le h hA:=by subst az; exact (((Le.refl h).new _).new _)
 have g1:hA.bl.get (h.nx)=some (eo t r (.slice qx Q.length qc) w):=by subst az; exact (T.ai _ _ (by omega)).trans (T.af _ _ _)
 have g3:hA.bl.get (h.nx+1)=some (lK):=by subst az; exact T.af _ _ _
 have d_:hA.nx=h.nx+1+1:=by subst az; rfl
 have ee:hA.lo=h.lo:=by subst az; rfl
 rw[←az]
 clear az
 have g3A:=g3
 refine Jj t r _ w Q hA _ (hq.le aK) (by omega) (by omega) ?_
 intro q2 h2 mo hle2
 have B0:=hle2.nx
 have B1:=hle2.lo
 have g1:=(hle2.get _ (by omega)).trans g1
 have g3:=(hle2.get _ (by omega)).trans g3
 obtain ⟨fu,fD,rfl,_⟩:=(show Sl bq h2 q2 Q from mo.sl)
 simp(disch:=first|omega|simp only[Wd]<;>omega|rfl)only[Wz,ef]
 obtain ⟨hB,bK⟩:∃hB:Heap,hB=⟨h2.nx+1,(h2.bl.aY (h2.nx) (jK t r (.slice fu Q.length fD) w)),h2.lo⟩:=⟨_,rfl⟩
 have bG:Le h2 hB:=by subst bK; exact ((Le.refl h2).new _)
 have g7:hB.bl.get (h2.nx)=some (jK t r (.slice fu Q.length fD) w):=by subst bK; exact T.af _ _ _
 have rz:hB.nx=h2.nx+1:=by subst bK; rfl
 have rA:hB.lo=h2.lo:=by subst bK; rfl
 rw[←bK]
 clear bK
 have nI:=bG.nx
 have nJ:=bG.lo
 have g1:=(bG.get _ (by omega)).trans g1
 have g3:=(bG.get _ (by omega)).trans g3
 have FE:=mo.le bG
 refine xO t r _ w id Q hB _ FE.sl (by omega) (by omega) ?_
 intro h3 fk
 have WT:=fk.nx
 have WU:=fk.lo
 have g1:=(fk.get _ (by omega)).trans g1
 have g3:=(fk.get _ (by omega)).trans g3
 have g7:=(fk.get _ (by omega)).trans g7
 have og:=FE.le fk
 rcases jL Q id with ⟨_,e⟩ | ⟨i,p,e,hp,alf,_⟩
 ·exact absurd e hf
 rw[e]
 simp(disch:=first|omega|simp only[Wd]<;>omega|rfl)only[Wz,dN,bP (show (0:Int)≤(i:Int) by omega),g7]
 have abu:Le hA h3:=(hle2.trans bG).trans fk
 refine Ks t r _ w id Q hA h3 _ og abu hlen (by omega) ?_
 intro q4 h4 hs4 ht4 ja
 have NC:=ja.nx
 have ND:=ja.lo
 have g3:=(ja.get _ (by omega)).trans g3A
 obtain ⟨qx4,qc4,rfl,_⟩:=(show Sl bq h4 q4 _ from hs4)
 simp(disch:=first|omega|simp only[Wd]<;>omega|rfl)only[Wz,ef,g3]
 exact hk _ _ (QV.put ⟨hs4,ht4⟩ (fun vs op=>by rw[g3]; exact aL (by decide)) _) ((aK.trans ja).set (b:=h.nx+1) (by omega) _)
theorem QV.blk {h:Heap} {b n:Nat} {L:List R5} (hb:b<h.nx) (hg:h.bl.get b=some (aa (L.flatMap bq) 83 true)) (hn:n=L.length):QV h (.slice (some ⟨b,0,none⟩) n aO) L:=by
 subst hn
 refine ⟨Sl.new hb hg _,fun b' o' n' c' hv _=>?_⟩
 cases hv
 exact ⟨hb,_,_,hg⟩
def cO (n:Int):List Value:=[.int .i64 n]
theorem bW (n:Int):(cO n).length=1:=rfl
theorem iE (n:Int):(cO n).all ew=true:=rfl
abbrev jM (a h:Heap) (v:Value) (L:List Int):Prop:=dh cO a 3 h v L
theorem uD {Q:List R5} {W:Int} (v:VQ Q W) {i:Nat} {r:R5} (hf:cW Q=some i) (hr:Q[i]? = some r) (hfit:ej Q r=true) :
  cw (dO Q+1) Q=((cw (dO (Q.set i (cz r))+1) (Q.set i (cz r))).1,r.id::(cw (dO (Q.set i (cz r))+1) (Q.set i (cz r))).2):=by
 have hc:=nF hr (iM v hf hr)
 conv=>lhs; unfold cw
 simp only[hf,hr,hfit,if_true]
 rw[hc]
theorem ED {Q:List R5} (h:oQ Q):cw (dO Q+1) Q=(Q,[]):=wT h _
theorem nK {Q:List R5} (h:cW Q=none):oQ Q:=fun i r e=>by rw[h] at e; cases e
theorem xQ {Q:List R5} {i:Nat} {r:R5} (h:cW Q=some i) (hr:Q[i]? = some r) (hf:ej Q r=false):oQ Q:=fun j q e hq=>by
 rw[h] at e; cases e; rw[hr] at hq; cases hq; exact hf
set_option maxHeartbeats 2000000 in
theorem WV (t r:Int) (q:Value) (w:Int) (Q:List R5) (h:Heap) (κ:KQ) (hq:Sl bq h q Q) (hlen:Q.length≤100000) (hlo:h.lo≤h.nx) (vq:VQ Q w)
  (hk:∀q' v' h',QV h' q' (cw (dO Q+1) Q).1→jM h h' v' (cw (dO Q+1) Q).2→Le h h'→κ (.tuple ⟨[ef t r q' w,v']⟩) h') :
  CallW Tryz.prog 289 [ef t r q w] h κ:=by
 obtain ⟨qx,qc,rfl,_⟩:=(show Sl bq h q Q from hq)
 refine an mixed ?_
 rw[Wo]
 simp(disch:=first|omega|simp only[Wd]<;>omega|rfl)only[Wz,ef]
 obtain ⟨hA,az⟩:∃hA:Heap,hA=⟨h.nx+1+1,((h.bl.aY (h.nx) (eo t r (.slice qx Q.length qc) w)).aY (h.nx+1) (lK)),h.lo⟩:=⟨_,rfl⟩
 have aK:Le h hA:=by subst az; exact (((Le.refl h).new _).new _)
 have g1:hA.bl.get (h.nx)=some (eo t r (.slice qx Q.length qc) w):=by subst az; exact (T.ai _ _ (by omega)).trans (T.af _ _ _)
 have g3:hA.bl.get (h.nx+1)=some (lK):=by subst az; exact T.af _ _ _
 have d_:hA.nx=h.nx+1+1:=by subst az; rfl
 have ee:hA.lo=h.lo:=by subst az; rfl
 rw[←az]
 clear az
 refine Jj t r _ w Q hA _ (hq.le aK) (by omega) (by omega) ?_
 intro q2 h2 mo hle2
 have B0:=hle2.nx
 have B1:=hle2.lo
 have g3:=(hle2.get _ (by omega)).trans g3
 obtain ⟨fu,fD,rfl,_⟩:=(show Sl bq h2 q2 Q from mo.sl)
 simp(disch:=first|omega|simp only[Wd]<;>omega|rfl)only[Wz,ef]
 obtain ⟨hB,bK⟩:∃hB:Heap,hB=⟨h2.nx+1,(h2.bl.aY (h2.nx) (jK t r (.slice fu Q.length fD) w)),h2.lo⟩:=⟨_,rfl⟩
 have bG:Le h2 hB:=by subst bK; exact ((Le.refl h2).new _)
 have g7:hB.bl.get (h2.nx)=some (jK t r (.slice fu Q.length fD) w):=by subst bK; exact T.af _ _ _
 have rz:hB.nx=h2.nx+1:=by subst bK; rfl
 have rA:hB.lo=h2.lo:=by subst bK; rfl
 rw[←bK]
 clear bK
 have nI:=bG.nx
 have nJ:=bG.lo
 have g3:=(bG.get _ (by omega)).trans g3
 have FE:=mo.le bG
 have NF:Le h hB:=(aK.trans hle2).trans bG
 refine ⟨fun n l h1=>∃(K:List R5) (ids:List Int),VQ K w∧n=dO K+1∧cw (dO Q+1) Q=((cw (dO K+1) K).1,ids++(cw (dO K+1) K).2)∧K.length=Q.length∧ids.length+dO K≤dO Q∧
   jM h h1 (slot l 49) ids∧(iV hA h1 (.slice fu K.length fD) K)∧h1.bl.get (h.nx+1)=some lK∧h1.bl.get h2.nx=some (jK t r (.slice fu Q.length fD) w)∧Le h h1∧hB.nx≤h1.nx,
  ⟨_,Q,[],vq,rfl,by simp,rfl,by simp,.inl ⟨rfl,.inl rfl⟩,FE,g3,g7,NF,Nat.le_refl _⟩,?_⟩
 rintro n l h3 ⟨K,ids,vk,rfl,hsc,Jk,YP,hoI,Kt,g3,g7,fk,n3⟩
 have l3:=fk.lo
 obtain ⟨vi,ei⟩:∃vi,slot l 49=vi:=⟨_,rfl⟩
 rw[ei] at hoI
 rw[Jk] at Kt
 have hcK:dO K≤K.length:=List.length_filter_le _ _
 have hcQ:dO Q≤Q.length:=List.length_filter_le _ _
 simp(disch:=first|omega|simp only[Wd]<;>omega|rfl)only[Wz,El,g7]
 refine EB t r _ w K h3 _ Kt.sl (by omega) (by omega) ?_
 intro h4 ja
 have NC:=ja.nx
 have ND:=ja.lo
 have g3:=(ja.get _ (by omega)).trans g3
 have g7:=(ja.get _ (by omega)).trans g7
 have B3:=Kt.le ja
 have NG:=hoI.le ja
 have xP:=fk.trans ja
 have finish:∀h',h4.nx≤h'.nx→Le h h'→jM h h' vi ids→iV hA h' (.slice fu Q.length fD) K→h'.bl.get (h.nx+1)=some lK→oQ K→κ (.tuple ⟨[.agg ⟨[.int .i64 t,.int .i64 r,.slice fu Q.length fD,.int .i64 w]⟩,vi]⟩) ⟨h'.nx,h'.bl.aY (h.nx+1) (eo t r (.slice fu Q.length fD) w),h'.lo⟩:=by
  intro h' hn hl hi hr hg hst
  rw[ED hst] at hsc
  rw[hsc,List.append_nil] at hk
  exact hk _ _ _ (QV.put (QV.own hr) (fun vs op=>by rw[hg]; exact aL (by decide)) _) (dh.put hi (by rw[hg]; exact aS) _) (hl.set (b:=h.nx+1) (by omega) _)
 cases hf:cW K with
 | none=>
  simp(disch:=first|omega|simp only[Wd]<;>omega|rfl)only[Wz,dN,cq (show (-1:Int)<0 by decide),g7,g3,ei]
  exact finish h4 (Nat.le_refl _) xP NG B3 g3 (nK hf)
 | some i=>
  obtain ⟨p,hp,_⟩:=nE hf
  obtain ⟨b,o,hb,fJ,eX⟩:=xM B3.sl i hp
  simp(disch:=first|omega|simp only[Wd]<;>omega|rfl)only[Wz,dN,bP (show (0:Int)≤(i:Int) by omega),g7,fJ,eX,List.append_nil,List.cons_append,List.nil_append]
  refine BZ t r _ w p K h4 _ B3.sl (by omega) (by omega) ?_
  intro h5 ir
  have WW:=ir.nx
  have WX:=ir.lo
  have g3:=(ir.get _ (by omega)).trans g3
  have g7:=(ir.get _ (by omega)).trans g7
  have NH:=B3.le ir
  have NI:=NG.le ir
  have uC:=xP.trans ir
  cases hfit:ej K p with
  | false=>
   simp(disch:=first|omega|simp only[Wd]<;>omega|rfl)only[Wz,g7,g3,ei]
   exact finish h5 (by omega) uC NI NH g3 (xQ hf hp hfit)
  | true=>
   rcases NH with ⟨rfl,_⟩ | ⟨bo,e1,k1,k2,k3,k4⟩
   ·simp at hp
   rw[Jk] at e1
   cases e1
   have hil:i<K.length:=(List.getElem?_eq_some_iff.1 hp).1
   have hfl:=aX (enc:=bq) bz K
   have WY:((K.set i ⟨p.id,p.x,p.w,p.w,p.s⟩).flatMap bq).length=K.length*5:=by rw[aX bz,List.length_set]
   have Ah:=dJ (p':=⟨p.id,p.x,p.w,p.w,p.s⟩) (ws:=[.int .i64 p.w]) (j:=2) bz hp (by show 2+1≤5; omega) rfl
   have hp2:(K.set i ⟨p.id,p.x,p.w,p.w,p.s⟩)[i]? = some ⟨p.id,p.x,p.w,p.w,p.s⟩:=by rw[List.getElem?_set,if_pos rfl,if_pos hil]
   have o_:=dJ (p':=cz p) (ws:=[.int .i64 0]) (j:=4) bz hp2 (by show 4+1≤5; omega) rfl
   rw[List.set_set] at o_
   have uT:bo≠h2.nx:=by rintro rfl; rw[g7] at k4; exact aS k4
   have n_:bo≠h.nx+1:=by rintro rfl; rw[g3] at k4; exact aS k4
   have HA:(K.set i (cz p)).length=K.length:=List.length_set
   rw[Jk] at HA
   have J3:(K.set i (cz p))[i]? = some (cz p):=by rw[List.getElem?_set,if_pos rfl,if_pos hil]
   have r3:=gU (j:=3) bz hp (by decide)
   have r0:=gU (j:=0) bz J3 (by decide)
   have r3:(K.flatMap bq)[i*5+3]? = some (.int .i64 p.w):=r3
   have r0:((K.set i (cz p)).flatMap bq)[i*5]? = some (.int .i64 p.id):=r0
   simp(disch:=first|omega|simp only[Wd]<;>omega|rfl)only[Wz,Ek,g7,aW,k4,Ah,o_,ei,r3,r0]
   obtain ⟨hC,eC⟩:∃hC:Heap,hC=⟨h5.nx,h5.bl.aY bo (aa ((K.set i (cz p)).flatMap bq) 83 true),h5.lo⟩:=⟨_,rfl⟩
   have Ku:Le h hC:=by subst eC; exact uC.set (b:=bo) (by omega) _
   have nC:hC.nx=h5.nx:=by rw[eC]
   have lC:hC.lo=h5.lo:=by rw[eC]
   have gC:hC.bl.get bo=some (aa ((K.set i (cz p)).flatMap bq) 83 true):=by subst eC; exact T.af _ _ _
   have Yv:hC.bl.get (h.nx+1)=some lK:=by subst eC; exact (T.ai _ _ n_).trans g3
   have g7C:hC.bl.get h2.nx=some (jK t r (.slice (some ⟨bo,0,none⟩) Q.length aO) w):=by subst eC; exact (T.ai _ _ uT).trans g7
   have PL:jM h hC vi ids:=by subst eC; exact dh.put NI (by rw[k4]; exact aL (by decide)) _
   have e2:(⟨h5.nx+1,(h5.bl.aY bo (aa ((K.set i (cz p)).flatMap bq) 83 true)).aY h5.nx (aa [.int .i64 p.id] 3 false),h5.lo⟩:Heap)=⟨hC.nx+1,hC.bl.aY hC.nx (aa [.int .i64 p.id] 3 false),hC.lo⟩:=by rw[eC]
   rw[e2,show h5.nx=hC.nx from nC.symm]
   have hle1:=(Le.refl hC).new (aa [.int .i64 p.id] 3 false)
   have vk2:=vk.Il hf hp hfit
   have hcg:=nF hp (iM vk hf hp)
   refine cV (enc:=cO) (a:=h) (L:=ids) (M:=[p.id]) bW iE (by decide) (by decide) (PL.le hle1) (Sl.new (L:=[p.id]) (e:=3) (op:=false) (Nat.lt_succ_self _) (T.af _ _ _) _) (Ku.new _) (by simp; omega) (by show hC.lo≤hC.nx+1; omega) _ ?_
   intro v' h6 tM uU y_ hn2 Ty hsame
   have n6:hC.nx+1≤h6.nx:=hn2
   have keep:∀c o',c<hC.nx→hC.bl.get c=some o'→some o'≠some (aa (ids.flatMap cO) 3 true)→h6.bl.get c=some o':=by
    intro c o' hc hg hne
    have e:(hC.bl.aY hC.nx (aa [.int .i64 p.id] 3 false)).get c=hC.bl.get c:=T.ai _ _ (by omega)
    exact (hsame c (Nat.lt_succ_of_lt hc) (fun k=>hne (by rw[←hg,←e]; exact k))).trans (e.trans hg)
   have afQ:h6.lo=hC.lo:=Ty
   refine ⟨_,by omega,K.set i (cz p),ids++[p.id],vk2,rfl,?_,by simpa using Jk,by simp; omega,tM,?_,?_,?_,uU,by omega⟩
   ·rw[hsc,uD vk hf hp hfit]
    simp
   ·refine .inr ⟨bo,rfl,by omega,by omega,by omega,keep bo _ (by omega) gC (aL (by decide))⟩
   ·exact keep _ _ (by omega) Yv (aL (by decide))
   ·exact keep _ _ (by omega) g7C (aL (by decide))
theorem Jl (t r:Int) (q:Value) (w id:Int) (Q:List R5) (h:Heap) (κ:KQ) (hq:Sl bq h q Q) (hlen:Q.length≤100000) (hlo:h.lo≤h.nx)
  (hk:∀h',Le h h'→κ (match bJ Q id with | some p=>.tuple ⟨[jI p,.bool true]⟩ | none=>.tuple ⟨[jI ⟨0,0,0,0,0⟩,.bool false]⟩) h') :
  CallW Tryz.prog 191 [ef t r q w,.int .i64 id] h κ:=by
 obtain ⟨qx,qc,rfl,_⟩:=(show Sl bq h q Q from hq)
 refine an mixed ?_
 rw[VX]
 simp(disch:=first|omega|simp only[Wd]<;>omega|rfl)only[Wz,ef]
 obtain ⟨hA,az⟩:∃hA:Heap,hA=⟨h.nx+1+1,((h.bl.aY (h.nx) (eo t r (.slice qx Q.length qc) w)).aY (h.nx+1) (ic ⟨0,0,0,0,0⟩)),h.lo⟩:=⟨_,rfl⟩
 have aK:Le h hA:=by subst az; exact (((Le.refl h).new _).new _)
 have g1:hA.bl.get (h.nx)=some (eo t r (.slice qx Q.length qc) w):=by subst az; exact (T.ai _ _ (by omega)).trans (T.af _ _ _)
 have g3:hA.bl.get (h.nx+1)=some (ic ⟨0,0,0,0,0⟩):=by subst az; exact T.af _ _ _
 have d_:hA.nx=h.nx+1+1:=by subst az; rfl
 have ee:hA.lo=h.lo:=by subst az; rfl
 rw[←az]
 clear az
 refine xO t r _ w id Q hA _ (hq.le aK) (by omega) (by omega) ?_
 intro h2 hle2
 have B0:=hle2.nx
 have B1:=hle2.lo
 have g1:=(hle2.get _ (by omega)).trans g1
 have g3:=(hle2.get _ (by omega)).trans g3
 rcases jL Q id with ⟨e,e2⟩ | ⟨i,p,e,hi,Yw,e2⟩
 ·rw[e]
  simp(disch:=first|omega|simp only[Wd]<;>omega|rfl)only[Wz,dN,cq (show (-1:Int)<0 by decide),g3]
  rw[e2] at hk
  exact hk _ ((aK.trans hle2).set (b:=h.nx+1) (by omega) _)
 ·rw[e]
  obtain ⟨b,o,hb,fJ,eX⟩:=xM (hq.le (aK.trans hle2)) i hi
  simp(disch:=first|omega|simp only[Wd]<;>omega|rfl)only[Wz,dN,bP (show (0:Int)≤(i:Int) by omega),g1,g3,fJ,eX,bq]
  rw[e2] at hk
  exact hk _ ((aK.trans hle2).set (b:=h.nx+1) (by omega) _)
theorem NJ {Q:List R5} {i:Nat} {p p1:R5} (hi:Q[i]? = some p) (hid:p.id=p1.id):ej (Q.set i p1) p1=ej Q p1:=by
 rw[Bool.eq_iff_iff,iL,iL]
 constructor
 ·intro h o ho h1 h2
  obtain ⟨k,hk⟩:=List.getElem?_of_mem ho
  have hki:i≠k:=by rintro rfl; rw[hi] at hk; cases hk; exact h1 hid
  exact h o (List.mem_of_getElem? (i:=k) (by rw[List.getElem?_set,if_neg hki]; exact hk)) h1 h2
 ·intro h o ho h1 h2
  rcases mem_set ho with rfl | ho
  ·exact absurd rfl h1
  ·exact h o ho h1 h2
theorem Q7 {Q:List R5} {i:Nat} {p p1:R5} (hi:Q[i]? = some p) (hu:nQ p1=nQ p):(Q.set i p1).any nQ=Q.any nQ:=by
 rw[Bool.eq_iff_iff,List.any_eq_true,List.any_eq_true]
 have hil:=(List.getElem?_eq_some_iff.1 hi).1
 constructor
 ·rintro ⟨o,ho,h⟩
  rcases mem_set ho with rfl | ho
  ·exact ⟨p,List.mem_of_getElem? hi,by rw[←hu]; exact h⟩
  ·exact ⟨o,ho,h⟩
 ·rintro ⟨o,ho,h⟩
  obtain ⟨k,hk⟩:=List.getElem?_of_mem ho
  by_cases hki:i=k
  ·subst hki
   rw[hi] at hk; cases hk
   exact ⟨p1,List.mem_of_getElem? (i:=i) (by rw[List.getElem?_set,if_pos rfl,if_pos hil]),by rw[hu]; exact h⟩
  ·exact ⟨o,List.mem_of_getElem? (i:=k) (by rw[List.getElem?_set,if_neg hki]; exact hk),h⟩
theorem aJ {β:Type} {fl:β} (b o:Nat) (h:Heap) (κ:Value→Heap→β):aV fl (.pointer (some ⟨b,o,none⟩)) h κ=κ (.pointer (some ⟨b,o,none⟩)) h:=id rfl
set_option maxHeartbeats 2000000 in
theorem xR (t r:Int) (q:Value) (w id m:Int) (Q:List R5) (h:Heap) (κ:KQ) (hq:Sl bq h q Q) (hlen:Q.length≤100000) (hlo:h.lo≤h.nx) (hw:0≤w∧w≤1000000)
  (ig:aZ m=false→∀h',Le h h'→κ (.tuple ⟨[ef 0 0 (.slice none 0 0) 0,.bool false,.int .i64 2]⟩) h')
  (iJ:aZ m=true→bJ Q id=none→∀h',Le h h'→κ (.tuple ⟨[ef 0 0 (.slice none 0 0) 0,.bool false,.int .i64 5]⟩) h')
  (hk2:aZ m=true→∀p,bJ Q id=some p→0<p.s→∀h',Le h h'→κ (.tuple ⟨[ef 0 0 (.slice none 0 0) 0,.bool false,.int .i64 7]⟩) h')
  (SQ:aZ m=true→∀i p,Q[i]? = some p→bJ Q id=some p→¬0<p.s→∀q' h',QV h' q' (Q.set i (dP Q w p m).1)→Le h h'→κ (.tuple ⟨[ef t r q' (dP Q w p m).2.1,.bool (dP Q w p m).2.2,.int .i64 0]⟩) h') :
  CallW Tryz.prog 294 [ef t r q w,.int .i64 id,.int .i64 m] h κ:=by
 obtain ⟨qx,qc,rfl,_⟩:=(show Sl bq h q Q from hq)
 refine an mixed ?_
 rw[Wt]
 simp(disch:=first|omega|simp only[Wd]<;>omega|rfl)only[Wz,ef]
 obtain ⟨hA,az⟩:∃hA:Heap,hA=⟨h.nx+1+1,((h.bl.aY (h.nx) (eo t r (.slice qx Q.length qc) w)).aY (h.nx+1) (lK)),h.lo⟩:=⟨_,rfl⟩
 have aK:Le h hA:=by subst az; exact (((Le.refl h).new _).new _)
 have g1:hA.bl.get (h.nx)=some (eo t r (.slice qx Q.length qc) w):=by subst az; exact (T.ai _ _ (by omega)).trans (T.af _ _ _)
 have g3:hA.bl.get (h.nx+1)=some (lK):=by subst az; exact T.af _ _ _
 have d_:hA.nx=h.nx+1+1:=by subst az; rfl
 have ee:hA.lo=h.lo:=by subst az; rfl
 rw[←az]
 clear az
 refine EA m ?_
 cases ha:aZ m with
 | false=>
  simp(disch:=first|omega|simp only[Wd]<;>omega|rfl)only[Wz,g3]
  exact ig ha _ (aK.set (b:=h.nx+1) (by omega) _)
 | true=>
 simp(disch:=first|omega|simp only[Wd]<;>omega|rfl)only[Wz,Eu,g1]
 refine Jj t r _ w Q hA _ (hq.le aK) (by omega) (by omega) ?_
 intro q2 h2 mo hle2
 have B0:=hle2.nx
 have B1:=hle2.lo
 have g3:=(hle2.get _ (by omega)).trans g3
 obtain ⟨fu,fD,rfl,_⟩:=(show Sl bq h2 q2 Q from mo.sl)
 simp(disch:=first|omega|simp only[Wd]<;>omega|rfl)only[Wz,ef]
 obtain ⟨hB,bK⟩:∃hB:Heap,hB=⟨h2.nx+1,(h2.bl.aY (h2.nx) (jK t r (.slice fu Q.length fD) w)),h2.lo⟩:=⟨_,rfl⟩
 have bG:Le h2 hB:=by subst bK; exact ((Le.refl h2).new _)
 have g12:hB.bl.get (h2.nx)=some (jK t r (.slice fu Q.length fD) w):=by subst bK; exact T.af _ _ _
 have rz:hB.nx=h2.nx+1:=by subst bK; rfl
 have rA:hB.lo=h2.lo:=by subst bK; rfl
 rw[←bK]
 clear bK
 have nI:=bG.nx
 have nJ:=bG.lo
 have g3:=(bG.get _ (by omega)).trans g3
 have FE:=mo.le bG
 refine xO t r _ w id Q hB _ FE.sl (by omega) (by omega) ?_
 intro h3 fk
 have WT:=fk.nx
 have WU:=fk.lo
 have g3:=(fk.get _ (by omega)).trans g3
 have g12:=(fk.get _ (by omega)).trans g12
 have og:=FE.le fk
 have Ag:Le h h3:=((aK.trans hle2).trans bG).trans fk
 rcases jL Q id with ⟨e,e2⟩ | ⟨i,p,e,hi,Yw,e2⟩
 ·rw[e]
  simp(disch:=first|omega|simp only[Wd]<;>omega|rfl)only[Wz,dN,cq (show (-1:Int)<0 by decide),g3]
  exact iJ ha e2 _ (Ag.set (b:=h.nx+1) (by omega) _)
 rw[e]
 obtain ⟨b,o,hb,fJ,eX⟩:=xM og.sl i hi
 simp(disch:=first|omega|simp only[Wd]<;>omega|rfl)only[Wz,dN,bP (show (0:Int)≤(i:Int) by omega),Et,g12,fJ,eX]
 refine Ji p ?_
 by_cases hs:0<p.s
 ·simp(disch:=first|omega|simp only[Wd]<;>omega|rfl)only[Wz,a_ hs,g3]
  exact hk2 ha p e2 hs _ (Ag.set (b:=h.nx+1) (by omega) _)
 rcases og with ⟨rfl,_⟩ | ⟨bo,e1,k1,k2,k3,k4⟩
 ·simp at hi
 cases e1
 have hil:i<Q.length:=(List.getElem?_eq_some_iff.1 hi).1
 obtain ⟨wt,Jm⟩:∃wt,cU p.m m=wt:=⟨_,rfl⟩
 have hfl:=aX (enc:=bq) bz Q
 have r2:(Q.flatMap bq)[i*5+2]? = some (.int .i64 p.m):=gU (j:=2) bz hi (by decide)
 have Ah:=dJ (p':=⟨p.id,p.x,p.m,wt,p.s⟩) (ws:=[.int .i64 wt]) (j:=3) bz hi (by show 3+1≤5; omega) rfl
 obtain ⟨p1,Lu⟩:∃p1:R5,p1=⟨p.id,p.x,p.m,wt,p.s⟩:=⟨_,rfl⟩
 rw[←Lu] at Ah
 have hp2:(Q.set i p1)[i]? = some p1:=by rw[List.getElem?_set,if_pos rfl,if_pos hil]
 have WY:((Q.set i p1).flatMap bq).length=Q.length*5:=by rw[aX bz,List.length_set]
 have s2:((Q.set i p1).flatMap bq)[i*5+2]? = some (.int .i64 p.m):=by rw[gU (j:=2) bz hp2 (by decide),Lu]; rfl
 have s3:((Q.set i p1).flatMap bq)[i*5+3]? = some (.int .i64 wt):=by rw[gU (j:=3) bz hp2 (by decide),Lu]; rfl
 have uT:bo≠h2.nx:=by rintro rfl; rw[g12] at k4; exact aS k4
 have n_:bo≠h.nx+1:=by rintro rfl; rw[g3] at k4; exact aS k4
 simp(disch:=first|omega|simp only[Wd]<;>omega|rfl)only[Wz,aN hs,Es,g12,aW,aJ,k4,r2]
 refine Nu _ _ ?_
 rw[Jm]
 simp(disch:=first|omega|simp only[Wd]<;>omega|rfl)only[Wz,aJ,k4,Ah,s2,s3]
 obtain ⟨hC,eC⟩:∃hC:Heap,hC=⟨h3.nx,h3.bl.aY bo (aa ((Q.set i p1).flatMap bq) 83 true),h3.lo⟩:=⟨_,rfl⟩
 have Ku:Le h hC:=by subst eC; exact Ag.set (b:=bo) (by omega) _
 have nC:hC.nx=h3.nx:=by rw[eC]
 have lC:hC.lo=h3.lo:=by rw[eC]
 have gC:hC.bl.get bo=some (aa ((Q.set i p1).flatMap bq) 83 true):=by subst eC; exact T.af _ _ _
 have Yv:hC.bl.get (h.nx+1)=some lK:=by subst eC; exact (T.ai _ _ n_).trans g3
 have WZ:hC.bl.get h2.nx=some (jK t r (.slice (some ⟨bo,0,none⟩) Q.length aO) w):=by subst eC; exact (T.ai _ _ uT).trans g12
 rw[←eC]
 have PL:iV hA hC (.slice (some ⟨bo,0,none⟩) Q.length aO) (Q.set i p1):=.inr ⟨bo,by rw[List.length_set],k1,by omega,by omega,gC⟩
 have W0:p.id=p1.id:=by rw[Lu]
 have eup:nQ p1=nQ p:=by rw[Lu]; rfl
 have afR:=NJ hi W0
 have afS:=Q7 hi eup
 have NK:∀(g:Bool) (hD:Heap),hD.bl.get bo=some (aa ((Q.set i p1).flatMap bq) 83 true)→hD.bl.get (h.nx+1)=some lK→hD.bl.get h2.nx=some (jK t r (.slice (some ⟨bo,0,none⟩) Q.length aO) w)→Le h hD→hC.nx≤hD.nx→
   dP Q w p m=(⟨p.id,p.x,wt,wt,p.s⟩,w,true)→
   dD (fun PK=>xH (.pointer (some ⟨bo,i*5,none⟩)) PK (.bool true) hD) fun l76 h_14=>
    zi False (h_14.bl.get h2.nx) 0 4 fun l=>Qk False (h_14.bl.get (h.nx+1)) 4 (h.nx+1) 0 l h_14 fun h_15=>zi False (h_15.bl.get (h.nx+1)) 0 4 fun l=>κ (.tuple ⟨[.agg ⟨l⟩,.bool true,.int .i64 0]⟩) h_15:=by
  intro g hD d1 d2 d3 hl hn he
  have ll:=hl.lo
  have o_:=dJ (p':=⟨p.id,p.x,wt,wt,p.s⟩) (ws:=[.int .i64 wt]) (j:=2) bz hp2 (by show 2+1≤5; omega) (by rw[Lu]; rfl)
  rw[List.set_set] at o_
  refine ⟨fun l h'=>HQ ⟨hD.nx,hD.bl.aY bo (aa ((Q.set i ⟨p.id,p.x,wt,wt,p.s⟩).flatMap bq) 83 true),hD.lo⟩ h',?_,?_⟩
  ·simp(disch:=first|omega|simp only[Wd]<;>omega|rfl)only[Wz,xH,aJ,d1,s3,o_]
   rfl
  ·intro l h' um
   cases (show _=h' from um)
   simp(disch:=first|omega|simp only[Wd]<;>omega|rfl)only[Wz,d3,d2]
   have key:=SQ ha i p hi e2 hs
   rw[he] at key
   exact key _ _ (QV.blk (by show bo<hD.nx; omega) ((T.ai _ _ (fun e=>n_ e.symm)).trans (T.af _ _ _)) (by simp)) ((hl.set (b:=bo) (by omega) _).set (b:=h.nx+1) (by omega) _)
 have NL:∀(hD:Heap),hD.bl.get bo=some (aa ((Q.set i p1).flatMap bq) 83 true)→hD.bl.get (h.nx+1)=some lK→hD.bl.get h2.nx=some (jK t r (.slice (some ⟨bo,0,none⟩) Q.length aO) w)→Le h hD→hC.nx≤hD.nx→
   dP Q w p m=(⟨p.id,p.x,p.m,wt,w+1⟩,w+1,false)→
   dD (fun PK=>xI h2.nx (.pointer (some ⟨bo,i*5,none⟩)) PK (.bool false) hD) fun l76 h_14=>
    zi False (h_14.bl.get h2.nx) 0 4 fun l=>Qk False (h_14.bl.get (h.nx+1)) 4 (h.nx+1) 0 l h_14 fun h_15=>zi False (h_15.bl.get (h.nx+1)) 0 4 fun l=>κ (.tuple ⟨[.agg ⟨l⟩,.bool false,.int .i64 0]⟩) h_15:=by
  intro hD d1 d2 d3 hl hn he
  have ll:=hl.lo
  have o_:=dJ (p':=⟨p.id,p.x,p.m,wt,w+1⟩) (ws:=[.int .i64 (w+1)]) (j:=4) bz hp2 (by show 4+1≤5; omega) (by rw[Lu]; rfl)
  rw[List.set_set] at o_
  refine ⟨fun l h'=>HQ ⟨hD.nx,(hD.bl.aY h2.nx (jK t r (.slice (some ⟨bo,0,none⟩) Q.length aO) (w+1))).aY bo (aa ((Q.set i ⟨p.id,p.x,p.m,wt,w+1⟩).flatMap bq) 83 true),hD.lo⟩ h',?_,?_⟩
  ·simp(disch:=first|omega|simp only[Wd]<;>omega|rfl)only[Wz,xI,aJ,d1,d3,o_]
   rfl
  ·intro l h' um
   cases (show _=h' from um)
   simp(disch:=first|omega|simp only[Wd]<;>omega|rfl)only[Wz,d3,d2]
   have key:=SQ ha i p hi e2 hs
   rw[he] at key
   exact key _ _ (QV.blk (by show bo<hD.nx; omega) ((T.ai _ _ (fun e=>n_ e.symm)).trans (T.af _ _ _)) (by simp)) (((hl.set (b:=h2.nx) (by omega) _).set (b:=bo) (by omega) _).set (b:=h.nx+1) (by omega) _)
 by_cases hq1:wt=p.m
 ·simp(disch:=first|omega|simp only[Wd]<;>omega|rfl)only[Wz,a_ hq1]
  exact NK true hC gC Yv WZ Ku (Nat.le_refl _) (by unfold dP; rw[Jm,if_pos (by simp[hq1])])
 ·have fa:(((Q.set i p1).flatMap bq).drop (i*5)).take 5=bq p1:=by
   have:=Bj (enc:=bq) bz (Q.set i p1) i (by simpa using hil)
   rw[this,(List.getElem?_eq_some_iff.1 hp2).2]
  simp(disch:=first|omega|simp only[Wd]<;>omega|rfl)only[Wz,aN hq1,g12,WZ,gC,fa]
  refine BZ t r _ w p1 (Q.set i p1) hC _ PL.sl (by simp; omega) (by omega) ?_
  intro h5 ir
  have n5:=ir.nx
  have l5:=ir.lo
  have d1:=(ir.get bo (by omega)).trans gC
  have d2:=(ir.get (h.nx+1) (by omega)).trans Yv
  have d3:=(ir.get h2.nx (by omega)).trans WZ
  have Yt:=Ku.trans ir
  rw[afR]
  have abw:ej Q p1=ej Q ⟨p.id,p.x,p.m,cU p.m m,p.s⟩:=by rw[Lu,Jm]
  cases hft:ej Q p1 with
  | false=>
   simp(disch:=first|omega|simp only[Wd]<;>omega|rfl)only[Wz]
   refine NL h5 d1 d2 d3 Yt n5 ?_
   unfold dP
   rw[Jm,if_neg]
   rw[←Jm,←abw,hft,Jm]
   simp[hq1]
  | true=>
   simp(disch:=first|omega|simp only[Wd]<;>omega|rfl)only[Wz,d3]
   refine oZ (Q.set i p1) nQ h5 _ _ _ (PL.sl.le ir) (by simp; omega) ?_ ?_
   ·intro o ho h6 κ6 Ty hk6
    simp(disch:=first|omega|simp only[Wd]<;>omega|rfl)only[Wz,List.nil_append,List.append_nil]
    exact xN o (hk6 h6 (Le.refl _))
   ·intro h6 uU
    have n6:=uU.nx
    have l6:=uU.lo
    have d1:=(uU.get bo (by omega)).trans d1
    have d2:=(uU.get (h.nx+1) (by omega)).trans d2
    have d3:=(uU.get h2.nx (by omega)).trans d3
    have Ty:=Yt.trans uU
    rw[afS]
    cases han:Q.any nQ with
    | true=>
     simp(disch:=first|omega|simp only[Wd]<;>omega|rfl)only[Wz]
     refine NL h6 d1 d2 d3 Ty (by omega) ?_
     unfold dP
     rw[Jm,if_neg]
     rw[han]
     simp[hq1]
    | false=>
     simp(disch:=first|omega|simp only[Wd]<;>omega|rfl)only[Wz]
     refine NK true h6 d1 d2 d3 Ty (by omega) ?_
     unfold dP
     rw[Jm,if_pos]
     rw[←Jm,←abw,hft,han]
     simp
end Go.Proofs

namespace Go.Vai
section
variable {α:Type} {s:Nat} {enc:α→List Value}
set_option maxRecDepth 20000 in
theorem GH {a h:Heap} {e:TypeId} {z:List Value} {v x:Value} {L M:List α} (he:∀a:α,(enc a).length=s) (hone:∀a:α,(enc a).all ew=true) (hs0:0<s) (hs1:s≤100) (ho:dh enc a e h v L) (hx:Sl enc h x M)
  (hle:Le a h) (hb:L.length+M.length≤1000000) (hal:h.lo≤h.nx) (κ:KQ)
  (hk:∀v' h',dh enc a e h' v' (L++M)→Le a h'→h'.nx≤h.nx+1→h.nx≤h'.nx→h'.lo=h.lo→(∀b,b<h.nx→h.bl.get b≠some (aa (L.flatMap enc) e true)→h'.bl.get b=h.bl.get b)→(∀b,b<h.nx→(∀n cap,v≠.slice (some ⟨b,0,none⟩) n cap)→h'.bl.get b=h.bl.get b)→(v'=v∨∃b n cap,h.nx≤b∧v'=.slice (some ⟨b,0,none⟩) n cap)→κ v' h'):bu False e s z false v x h κ:=by
 by_cases hM:M=[]
 ·subst hM
  rw[append_nil hx (by rcases ho with ⟨rfl,rfl | ⟨b,o,rfl⟩⟩ | ⟨b,rfl,_⟩<;>exact ⟨_,_,_,rfl⟩)]
  exact hk v h (by simpa using ho) hle (Nat.le_succ _) (Nat.le_refl _) rfl (fun _ _ _=>rfl) (fun _ _ _=>rfl) (.inl rfl)
 ·obtain ⟨m,hm⟩:∃m,M.length=m+1:=⟨M.length-1,by have:=List.length_pos_iff.2 hM; omega⟩
  have hfl:=aX (enc:=enc) he
  have iB:=hx.first (β:=Prop) (fl:=False) he
  obtain ⟨y,cap,rfl,h2⟩:=hx
  have hml:∀K:List α,K.length≤1000000→(K.flatMap enc).length≤1000000000000:=fun K hK=>by
   rw[hfl]
   have:=Nat.mul_le_mul hK hs1
   omega
  have fresh:∀(hh:Heap) (ws:List Value),ws=(L++M).flatMap enc→Le a hh→hh.nx=h.nx→hh.lo=h.lo→(∀b,b<h.nx→h.bl.get b≠some (aa (L.flatMap enc) e true)→hh.bl.get b=h.bl.get b)→(∀b,b<h.nx→(∀n cap,v≠.slice (some ⟨b,0,none⟩) n cap)→hh.bl.get b=h.bl.get b)→ez False ws e true hh fun b h'=>κ (.slice (some ⟨b,0,none⟩) (L.length+M.length) aO) h':=by
   intro hh ws hw SU hnx hlo hgt afT
   subst hw
   unfold ez
   rw[jf _ _ _ _ (hml _ (by simp; omega)),dV]
   refine hk _ _ (.inr ⟨hh.nx,by simp,SU.nx,Nat.lt_succ_self _,by show hh.lo≤_; omega,T.af _ _ _⟩) (SU.new _) (by show hh.nx+1≤_; omega) (by show h.nx≤hh.nx+1; omega) hlo (fun b hb hn=>(T.ai _ _ (by omega)).trans (hgt b hb hn)) (fun b hb hn=>(T.ai _ _ (by omega)).trans (afT b hb hn)) (.inr ⟨hh.nx,_,_,by omega,rfl⟩)
  rcases ho with ⟨rfl,hv⟩ | ⟨b,rfl,h3,h4,h5,h6⟩
  ·have hF:=fresh h (M.flatMap enc) (by simp) hle rfl rfl (fun _ _ _=>rfl) (fun _ _ _=>rfl)
   simp only[List.length_nil,Nat.zero_add] at hF
   rcases hv with rfl | ⟨b,o,rfl⟩
   ·unfold bu kz
    simp only
    rw[iB]
    simp only[hm,bS]
    rw[show Nat.ble (Nat.add 0 (m+1)) 1000000000=true from Nat.ble_eq_true_of_le (by show 0+(m+1)≤_; omega)]
    rw[hm] at hF
    have e1:Nat.add 0 (m+1)=m+1:=by show 0+(m+1)=_; omega
    rw[e1]
    exact hF
   ·unfold bu kz
    simp only
    rw[iB]
    simp only[hm,bS]
    have e1:Nat.add 0 (m+1)=m+1:=by show 0+(m+1)=_; omega
    rw[e1,show Nat.ble (m+1) 1000000000=true from Nat.ble_eq_true_of_le (by omega)]
    rw[hm] at hF
    show fU False h s 0 _ _
    rw[jE _ _ _ _ _ (by simp)]
    exact hF
  ·unfold bu kz
   simp only
   rw[iB]
   simp only[hm,bS]
   have e1:Nat.add L.length (m+1)=L.length+(m+1):=rfl
   rw[e1,show Nat.ble (L.length+(m+1)) 1000000000=true from Nat.ble_eq_true_of_le (by omega)]
   have e2:Nat.beq aO fT=false:=by decide
   have e3:Nat.beq aO aO=true:=Nat.beq_refl _
   simp only[e2,e3,h6]
   have e4:Nat.ble (Nat.add 0 (Nat.mul (L.length+(m+1)) s)) (L.flatMap enc).length=false:=by
    rw[hfl]
    cases SV:Nat.ble (Nat.add 0 (Nat.mul (L.length+(m+1)) s)) (L.length*s) with
    | false=>rfl
    | true=>
     have h7:0+(L.length+(m+1))*s≤L.length*s:=Nat.le_of_ble_eq_true SV
     rw[Nat.add_mul,Nat.succ_mul] at h7
     omega
   have e5:(M.flatMap enc).all ew=true:=by
    rw[List.all_flatMap]; simp only[List.all_eq_true]; intro x _; exact List.all_eq_true.1 (hone x)
   simp only[aa,Nat.beq_refl,e4,e5,Bool.and_self]
   have hh:Has (h.bl.get b) 0 (L.flatMap enc):=by rw[h6]; exact Has.all
   rw[nr hh s L.length _ _ _ (hfl L).symm,bU _ _ _ _ h5]
   have hF:=fresh ⟨h.nx,h.bl.aY b (.dead (L.flatMap enc).length e),h.lo⟩ (L.flatMap enc++M.flatMap enc) (by simp) (hle.set h3 _) rfl rfl (fun b' _ hn=>T.ai _ _ (fun e=>hn (by rw[←e]; exact h6))) (fun b' _ hn=>T.ai _ _ (by rintro rfl; exact hn _ _ rfl))
   rw[hm] at hF
   exact hF
end
theorem lM {v v':Value} {vs vs':List Value} {e e':TypeId} {p p':Bool} (h:(some (aa (v::vs) e p):Option bQ)=some (aa (v'::vs') e' p')):v=v':=by
 have h1:=congrArg (fun ob=>sV (none:Option Value) ob 0 some) h
 simp only[pV] at h1
 exact Option.some.inj h1
end Go.Vai
namespace Go.Proofs
open Go.Vai Go.Clashes
def frV (b:Nat):Value:=.iface 240 (.pointer (some ⟨b,0,none⟩))
theorem ci_len (b : Nat) (h : Heap) (κ : Value → Heap → Prop) : CallI Tryz.prog "Len" (frV b) [] h κ = (fieldAddrB False 0 (.pointer (some ⟨b, 0, none⟩)) h fun a h => load1 False a h fun v h => CallW Tryz.prog 137 [v] h κ) := by kernel_rfl
theorem ci_less (b : Nat) (i j : Value) (h : Heap) (κ : Value → Heap → Prop) : CallI Tryz.prog "Less" (frV b) [i, j] h κ = (fieldAddrB False 0 (.pointer (some ⟨b, 0, none⟩)) h fun a h => load1 False a h fun v h => CallW Tryz.prog 366 [v, i, j] h κ) := by kernel_rfl
theorem ci_swap (b : Nat) (i j : Value) (h : Heap) (κ : Value → Heap → Prop) : CallI Tryz.prog "Swap" (frV b) [i, j] h κ = (fieldAddrB False 0 (.pointer (some ⟨b, 0, none⟩)) h fun a h => load1 False a h fun v h => CallW Tryz.prog 368 [v, i, j] h κ) := by kernel_rfl
theorem ci_push (b : Nat) (x : Value) (h : Heap) (κ : Value → Heap → Prop) : CallI Tryz.prog "Push" (frV b) [x] h κ = CallW Tryz.prog 370 [.pointer (some ⟨b, 0, none⟩), x] h κ := by kernel_rfl
theorem ci_pop (b : Nat) (h : Heap) (κ : Value → Heap → Prop) : CallI Tryz.prog "Pop" (frV b) [] h κ = CallW Tryz.prog 369 [.pointer (some ⟨b, 0, none⟩)] h κ := by kernel_rfl
def nS (h:Heap) (v:Value) (F:List Int):Prop:=(F=[]∧v=.slice none 0 0)∨∃b G,v=.slice (some ⟨b,0,none⟩) F.length aO∧b<h.nx∧h.lo≤b∧h.bl.get b=some (aa ((F++G).flatMap cO) 3 true)∧0<(F++G).length
structure fZ (h:Heap) (bp:Nat) (F:List Int) (ls:Value):Prop where
 lt:bp<h.nx
 lo:h.lo≤bp
 cell:∃fs,h.bl.get bp=some (aa [fs,ls] 225 false)∧nS h fs F
def FB (h:Heap) (bp c:Nat):Prop:=∃n cap ls,h.bl.get bp=some (aa [.slice (some ⟨c,0,none⟩) n cap,ls] 225 false)
theorem FB.congr {h h':Heap} {bp c:Nat} (e:h'.bl.get bp=h.bl.get bp):FB h' bp c↔FB h bp c:=by unfold FB; rw[e]
structure xS (bp:Nat) (h h':Heap):Prop where
 nx:h.nx≤h'.nx
 lo:h'.lo=h.lo
 get:∀c,c<h.nx→c≠bp→(∀vs,h.bl.get c≠some (aa vs 3 true))→h'.bl.get c=h.bl.get c
 g2:bp<h.nx→∀c,c<h.nx→c≠bp→¬FB h bp c→h'.bl.get c=h.bl.get c
 mv:bp<h.nx→∀c,c<h.nx→FB h' bp c→FB h bp c
theorem xS.refl (bp:Nat) (h:Heap):xS bp h h:=⟨Nat.le_refl _,rfl,fun _ _ _ _=>rfl,fun _ _ _ _ _=>rfl,fun _ _ _ x=>x⟩
theorem xS.trans {bp:Nat} {h h' h'':Heap} (a:xS bp h h') (b:xS bp h' h''):xS bp h h'':=
 ⟨Nat.le_trans a.nx b.nx,b.lo.trans a.lo,fun c hc hn hi=>(b.get c (Nat.lt_of_lt_of_le hc a.nx) hn (fun vs=>by rw[a.get c hc hn hi]; exact hi vs)).trans (a.get c hc hn hi),
  fun hb c hc hn hi=>(b.g2 (Nat.lt_of_lt_of_le hb a.nx) c (Nat.lt_of_lt_of_le hc a.nx) hn fun x=>hi (a.mv hb c hc x)).trans (a.g2 hb c hc hn hi),
  fun hb c hc x=>a.mv hb c hc (b.mv (Nat.lt_of_lt_of_le hb a.nx) c (Nat.lt_of_lt_of_le hc a.nx) x)⟩
theorem xS.swap {bp:Nat} {h h':Heap} {fs ls:Value} (hg:h.bl.get bp=some (aa [fs,ls] 225 false)) (q1:h'.nx=h.nx) (q2:h'.lo=h.lo) (q4:∀c,(∀vs,h.bl.get c≠some (aa vs 3 true))→h'.bl.get c=h.bl.get c) (q5:∀c,(∀n cap,fs≠.slice (some ⟨c,0,none⟩) n cap)→h'.bl.get c=h.bl.get c):xS bp h h':=
 ⟨by omega,q2,fun c _ _ hi=>q4 c hi,fun _ c _ _ hn=>q5 c fun n cap e=>hn ⟨n,cap,ls,e▸hg⟩,fun _ c _ x=>(FB.congr (q4 bp fun vs=>by rw[hg]; exact aS)).1 x⟩
theorem sx (F:List Int) (h:Heap) (v:Value) (κ:KQ) (hp:nS h v F) (hk:κ (.int .i64 (F.length:Int)) h):CallW Tryz.prog 137 [v] h κ:=by
 refine an mixed ?_
 rw[VF]
 rcases hp with ⟨rfl,rfl⟩ | ⟨b,G,rfl,_⟩
 ·simp(disch:=first|omega|simp only[Wd]<;>omega|rfl)only[Wz]; exact hk
 ·simp(disch:=first|omega|simp only[Wd]<;>omega|rfl)only[Wz]; exact hk
theorem pe {F G:List Int} {i:Nat} {x:Int} (hx:F[i]? = some x):((F++G).flatMap cO)[i]? = some (.int .i64 x):=by
 have h1:(F++G)[i]? = some x:=by rw[List.getElem?_append_left (List.getElem?_eq_some_iff.1 hx).1]; exact hx
 have:=gU (j:=0) bW h1 (by decide)
 simpa[cO] using this
theorem xT {F G:List Int} {i:Nat} {y:Int} (hi:i<F.length):over ((F++G).flatMap cO) i [.int .i64 y]=((F.set i y)++G).flatMap cO:=by
 have h1:(F++G)[i]? = some F[i]:=by rw[List.getElem?_append_left hi]; exact List.getElem?_eq_getElem hi
 have:=dJ (p':=y) (ws:=[.int .i64 y]) (j:=0) bW h1 (by show 0+1≤1; omega) rfl
 rw[Nat.mul_one,Nat.add_zero] at this
 rw[this,List.set_append,if_pos hi]
theorem tN (F:List Int) (i j:Nat) (h:Heap) (v:Value) (κ:KQ) (hp:nS h v F) (hi:i<F.length) (hj:j<F.length) (hk:κ (.bool (decide (F[i]<F[j]))) h):CallW Tryz.prog 366 [v,.int .i64 (i:Int),.int .i64 (j:Int)] h κ:=by
 refine an mixed ?_
 rw[WJ]
 rcases hp with ⟨rfl,rfl⟩ | ⟨b,G,rfl,h1,h2,h3,h4⟩
 ·simp at hi
 ·have r1:=pe (G:=G) (List.getElem?_eq_getElem hi)
  have r2:=pe (G:=G) (List.getElem?_eq_getElem hj)
  simp(disch:=first|omega|simp only[Wd]<;>omega|rfl)only[Wz,aW,h3,r1,r2,Nat.mul_one]
  exact hk
def mP (F:List Int) (i j:Nat):List Int:=match F[i]?,F[j]? with | some x,some y=>(F.set i y).set j x | _,_=>F
theorem sy {F:List Int} {i j:Nat} (hi:i<F.length) (hj:j<F.length):mP F i j=(F.set i F[j]).set j F[i]:=by
 simp only[mP,List.getElem?_eq_getElem hi,List.getElem?_eq_getElem hj]
theorem tO (F:List Int) (i j:Nat):(mP F i j).length=F.length:=by
 unfold mP
 split<;>simp
theorem tP (F:List Int) (i j:Nat) (h:Heap) (v:Value) (κ:KQ) (hp:nS h v F) (hi:i<F.length) (hj:j<F.length)
  (hk:∀h',h'.nx=h.nx→h'.lo=h.lo→nS h' v (mP F i j)→(∀c,(∀vs,h.bl.get c≠some (aa vs 3 true))→h'.bl.get c=h.bl.get c)→(∀c,(∀n cap,v≠.slice (some ⟨c,0,none⟩) n cap)→h'.bl.get c=h.bl.get c)→κ (.tuple ⟨[]⟩) h'):CallW Tryz.prog 368 [v,.int .i64 (i:Int),.int .i64 (j:Int)] h κ:=by
 refine an mixed ?_
 rw[WL]
 rcases hp with ⟨rfl,rfl⟩ | ⟨b,G,rfl,h1,h2,h3,h4⟩
 ·simp at hi
 ·have r1:=pe (G:=G) (List.getElem?_eq_getElem hi)
  have r2:=pe (G:=G) (List.getElem?_eq_getElem hj)
  have hl:=aX (enc:=cO) bW (F++G)
  have Lt:=aX (enc:=cO) bW ((F.set i F[j])++G)
  have ov1:=xT (G:=G) (y:=F[j]) hi
  have ov2:=xT (G:=G) (F:=F.set i F[j]) (y:=F[i]) (i:=j) (by simpa using hj)
  have hlen:(F++G).length=F.length+G.length:=List.length_append
  have NM:((F.set i F[j])++G).length=F.length+G.length:=by simp
  simp(disch:=first|omega|simp only[Wd]<;>omega|rfl)only[Wz,aW,h3,r1,r2,Nat.mul_one,ov1,ov2]
  refine hk _ rfl rfl (.inr ⟨b,G,by rw[tO],h1,h2,?_,?_⟩) ?_ fun c hc=>T.ai _ _ (by rintro rfl; exact hc _ _ rfl)
  ·rw[sy hi hj]; exact T.af _ _ _
  ·rw[List.length_append,tO]; simpa using h4
  ·intro c hc
   refine T.ai _ _ ?_
   rintro rfl
   exact hc _ h3
theorem rB {F:List Int} {i j:Nat} (hi:i<F.length) (hj:j<F.length):(mP F i j).Perm F:=by
 rw[sy hi hj]; exact List.set_set_perm hi hj
theorem gD {F:List Int} {i:Nat} (h:i<F.length):F.getD i 0=F[i]:=by
 rw[List.getD_eq_getElem?_getD,List.getElem?_eq_getElem h]; rfl
theorem sC {F:List Int} {i j:Nat} (hi:i<F.length) (hj:j<F.length) (k:Nat):(mP F i j).getD k 0=if k=j then F.getD i 0 else if k=i then F.getD j 0 else F.getD k 0:=by
 rw[sy hi hj,gD hi,gD hj]
 simp only[List.getD_eq_getElem?_getD,List.getElem?_set,List.length_set]
 by_cases h1:j=k
 ·subst h1; rw[if_pos rfl,if_pos hj,if_pos rfl]; rfl
 ·have h1':¬k=j:=fun e=>h1 e.symm
  rw[if_neg h1,if_neg h1']
  by_cases h2:i=k
  ·subst h2; rw[if_pos rfl,if_pos hi,if_pos rfl]; rfl
  ·have h2':¬k=i:=fun e=>h2 e.symm
   rw[if_neg h2,if_neg h2']
def HN (F:List Int) (n:Nat):Prop:=∀i,0<i→i<n→F.getD ((i-1) / 2) 0≤F.getD i 0
abbrev HP (F:List Int):Prop:=HN F F.length
structure xU (F:List Int) (j:Nat):Prop where
 a:∀i,0<i→i<F.length→i≠j→F.getD ((i-1) / 2) 0≤F.getD i 0
 b:0<j→∀i,0<i→i<F.length→(i-1) / 2=j→F.getD ((j-1) / 2) 0≤F.getD i 0
structure uV (F:List Int) (i n:Nat):Prop where
 a:∀k,0<k→k<n→(k-1) / 2≠i→F.getD ((k-1) / 2) 0≤F.getD k 0
 b:0<i→∀k,0<k→k<n→(k-1) / 2=i→F.getD ((i-1) / 2) 0≤F.getD k 0
theorem xU.step {F:List Int} {j:Nat} (u:xU F j) (h0:0<j) (hj:j<F.length) (hlt:F.getD j 0<F.getD ((j-1) / 2) 0):xU (mP F ((j-1) / 2) j) ((j-1) / 2):=by
 have hp:(j-1) / 2<F.length:=by omega
 have G:=sC (F:=F) hp hj
 have L:=tO F ((j-1) / 2) j
 refine ⟨fun i h1 h2 h3=>?_,fun W1 i h1 h2 h3=>?_⟩
 ·rw[L] at h2
  rw[G,G]
  by_cases e1:i=j
  ·subst e1
   rw[if_neg (by omega),if_pos rfl,if_pos rfl]; omega
  ·rw[if_neg e1,if_neg h3]
   have A:=u.a i h1 h2 e1
   by_cases e2:(i-1) / 2=j
   ·rw[if_pos e2]; exact u.b h0 i h1 h2 e2
   ·rw[if_neg e2]
    by_cases e3:(i-1) / 2=(j-1) / 2
    ·rw[if_pos e3]; rw[e3] at A; omega
    ·rw[if_neg e3]; exact A
 ·rw[L] at h2
  rw[G,G,if_neg (by omega),if_neg (by omega)]
  have A:=u.a ((j-1) / 2) W1 hp (by omega)
  by_cases e1:i=j
  ·rw[if_pos e1]; exact A
  ·rw[if_neg e1,if_neg (by omega)]
   have B:=u.a i h1 h2 e1
   rw[h3] at B; omega
theorem xU.NN {F:List Int} (u:xU F 0):HP F:=fun i h1 h2=>u.a i h1 h2 (by omega)
theorem xU.W3 {F:List Int} {j:Nat} (u:xU F j) (hge:F.getD ((j-1) / 2) 0≤F.getD j 0):HP F:=fun i h1 h2=>by
 by_cases e:i=j
 ·subst e; exact hge
 ·exact u.a i h1 h2 e
theorem HP.push {F:List Int} (u:HP F) (x:Int):xU (F++[x]) F.length:=by
 have G:∀k,k<F.length→(F++[x]).getD k 0=F.getD k 0:=fun k hk=>by
  rw[List.getD_eq_getElem?_getD,List.getElem?_append_left hk,List.getD_eq_getElem?_getD]
 refine ⟨fun i h1 h2 h3=>?_,fun _ i h1 h2 h3=>?_⟩
 ·rw[List.length_append,List.length_singleton] at h2
  rw[G _ (by omega),G _ (by omega)]; exact u i h1 (by omega)
 ·rw[List.length_append,List.length_singleton] at h2; omega
theorem uV.step {F:List Int} {i n c:Nat} (d:uV F i n) (hn:n≤F.length) (hc:c<n) (hi:(c-1) / 2=i) (hc0:0<c) (hlt:F.getD c 0<F.getD i 0) (hmin:∀k,0<k→k<n→(k-1) / 2=i→F.getD c 0≤F.getD k 0):uV (mP F i c) c n:=by
 have G:=sC (F:=F) (i:=i) (j:=c) (by omega) (by omega)
 refine ⟨fun k h1 h2 h3=>?_,fun _ k h1 h2 h3=>?_⟩
 ·rw[G,G]
  by_cases e1:(k-1) / 2=i
  ·rw[if_neg h3,if_pos e1]
   by_cases e2:k=c
   ·rw[if_pos e2]; omega
   ·rw[if_neg e2,if_neg (by omega)]; exact hmin k h1 h2 e1
  ·rw[if_neg h3,if_neg e1]
   have A:=d.a k h1 h2 e1
   by_cases e2:k=c
   ·subst e2; omega
   ·rw[if_neg e2]
    by_cases e3:k=i
    ·subst e3; rw[if_pos rfl]; exact d.b h1 c hc0 hc hi
    ·rw[if_neg e3]; exact A
 ·rw[G,G,hi,if_neg (by omega),if_pos rfl,if_neg (by omega),if_neg (by omega)]
  have A:=d.a k h1 h2 (by omega)
  rw[h3] at A; exact A
theorem uV.NN {F:List Int} {i n:Nat} (d:uV F i n) (h:n≤2*i+1):HN F n:=fun k h1 h2=>d.a k h1 h2 (by omega)
theorem uV.W3 {F:List Int} {i n c:Nat} (d:uV F i n) (hge:F.getD i 0≤F.getD c 0) (hmin:∀k,0<k→k<n→(k-1) / 2=i→F.getD c 0≤F.getD k 0):HN F n:=fun k h1 h2=>by
 by_cases e:(k-1) / 2=i
 ·have:=hmin k h1 h2 e
  rw[e]; omega
 ·exact d.a k h1 h2 e
theorem HP.pop {F:List Int} (u:HP F) (h0:0<F.length):uV (mP F 0 (F.length-1)) 0 (F.length-1):=by
 have G:=sC (F:=F) (i:=0) (j:=F.length-1) h0 (by omega)
 refine ⟨fun k h1 h2 h3=>?_,fun h=>by omega⟩
 rw[G,G,if_neg (by omega),if_neg h3,if_neg (by omega),if_neg (by omega)]
 exact u k h1 (by omega)
theorem HP.least {F:List Int} (u:HP F):∀n k,k<n→k<F.length→F.getD 0 0≤F.getD k 0:=by
 intro n
 induction n with
 | zero=>intro k h; omega
 | succ n ih=>
  intro k h1 h2
  by_cases e:k=0
  ·subst e; exact Int.le_refl _
  ·have:=ih ((k-1) / 2) (by omega) (by omega)
   have:=u k (by omega) h2
   omega
theorem HN.take {F:List Int} {n:Nat} (u:HN F n) (hn:n≤F.length):HP (F.take n):=by
 have G:∀k,k<n→(F.take n).getD k 0=F.getD k 0:=fun k hk=>by
  rw[List.getD_eq_getElem?_getD,List.getElem?_take,if_pos hk,List.getD_eq_getElem?_getD]
 intro i h1 h2
 rw[List.length_take] at h2
 rw[G _ (by omega),G _ (by omega)]
 exact u i h1 (by omega)
theorem fZ.same {h h':Heap} {bp:Nat} {F F':List Int} {ls fs:Value} (f:fZ h bp F ls) (hn:h'.nx=h.nx) (hl:h'.lo=h.lo) (hg:h.bl.get bp=some (aa [fs,ls] 225 false)) (hp:nS h' fs F') (hfr:∀c,(∀vs,h.bl.get c≠some (aa vs 3 true))→h'.bl.get c=h.bl.get c):fZ h' bp F' ls:=
 ⟨by rw[hn]; exact f.lt,by rw[hl]; exact f.lo,fs,by rw[hfr bp (fun vs=>by rw[hg]; exact aS)]; exact hg,hp⟩
theorem NO (j:Nat):Int.tdiv ((j:Int)-1) 2=(((j-1) / 2:Nat):Int):=by
 cases j with
 | zero=>rfl
 | succ j=>rw[Int.tdiv_eq_ediv_of_nonneg (by omega)]; omega
theorem afV (bp:Nat) (F:List Int) (ls:Value) (j:Nat) (h:Heap) (κ:KQ) (f:fZ h bp F ls) (hj:j<F.length) (hlen:F.length≤100000)
  (hk:∀h' F',fZ h' bp F' ls→F'.Perm F→(xU F j→HP F')→xS bp h h'→κ (.tuple ⟨[]⟩) h'):CallW Tryz.prog 199 [frV bp,.int .i64 (j:Int)] h κ:=by
 refine an mixed ?_
 rw[VZ]
 refine ⟨fun n l h1=>∃(k:Nat) (F1:List Int),slot l 19=.int .i64 (k:Int)∧n=k∧k<F.length∧F1.Perm F∧(xU F j→xU F1 k)∧fZ h1 bp F1 ls∧xS bp h h1,⟨_,j,F,rfl,rfl,hj,List.Perm.refl _,id,f,xS.refl _ _⟩,?_⟩
 rintro n l h1 ⟨k,F1,s1,rfl,iJ,hp1,LS,f1,Jn⟩
 have wQ:=hp1.length_eq
 have e1:=NO n
 by_cases h0:n=0
 ·subst h0
  simp(disch:=first|omega|simp only[Wd]<;>omega|rfl)only[Wz,xy,s1,HS,e1]
  exact hk h1 F1 f1 hp1 (fun u=>(LS u).NN) Jn
 ·obtain ⟨fs,hg,hpt⟩:=f1.cell
  simp(disch:=first|omega|simp only[Wd]<;>omega|rfl)only[Wz,xy,s1,HS,e1,Mu,ci_less,hg]
  refine tN F1 n ((n-1) / 2) h1 _ _ hpt (by omega) (by omega) ?_
  by_cases hls:F1[n]'(by omega)<F1[(n-1) / 2]'(by omega)
  ·simp(disch:=first|omega|simp only[Wd]<;>omega|rfl)only[Wz,a_ hls,ci_swap,hg]
   refine tP F1 ((n-1) / 2) n h1 _ _ hpt (by omega) (by omega) ?_
   intro h2 q1 q2 q3 q4 q5
   refine ⟨_,?_,(n-1) / 2,mP F1 ((n-1) / 2) n,rfl,rfl,by omega,(rB (by omega) (by omega)).trans hp1,fun u=>(LS u).step (by omega) (by omega) (by rw[gD (by omega),gD (by omega)]; exact hls),f1.same q1 q2 hg q3 q4,Jn.trans (.swap hg q1 q2 q4 q5)⟩
   omega
  ·simp(disch:=first|omega|simp only[Wd]<;>omega|rfl)only[Wz,aN hls]
   exact hk h1 F1 f1 hp1 (fun u=>(LS u).W3 (by rw[gD (by omega),gD (by omega)]; omega)) Jn
set_option maxHeartbeats 1000000 in
theorem W4 (bp:Nat) (F:List Int) (ls:Value) (i0 n:Nat) (h:Heap) (κ:KQ) (f:fZ h bp F ls) (hn:n≤F.length) (hlen:F.length≤100000) (hi0:i0≤100000)
  (hk:∀r h' F',fZ h' bp F' ls→F'.Perm F→(∀k,n≤k→F'[k]? = F[k]?)→(uV F i0 n→HN F' n)→xS bp h h'→κ (.bool r) h'):CallW Tryz.prog 172 [frV bp,.int .i64 (i0:Int),.int .i64 (n:Int)] h κ:=by
 refine an mixed ?_
 rw[VU]
 refine ⟨fun l h'=>∃(k:Nat) (F':List Int),slot l 36=.int .i64 (k:Int)∧fZ h' bp F' ls∧F'.Perm F∧(∀k,n≤k→F'[k]? = F[k]?)∧(uV F i0 n→HN F' n)∧xS bp h h',?_,?_⟩
 rotate_left
 ·rintro l h' ⟨k,F',s1,q1,q2,q3,q4,q5⟩
  simp(disch:=first|omega|simp only[Wd]<;>omega|rfl)only[Wz,s1]
  exact hk _ h' F' q1 q2 q3 q4 q5
 refine ⟨fun m l h1=>∃(i:Nat) (F1:List Int),slot l 36=.int .i64 (i:Int)∧m=200002-i∧i≤200000∧(i<n∨i=i0)∧F1.Perm F∧(∀k,n≤k→F1[k]? = F[k]?)∧(uV F i0 n→uV F1 i n)∧fZ h1 bp F1 ls∧xS bp h h1,⟨_,i0,F,rfl,rfl,by omega,.inr rfl,List.Perm.refl _,fun _ _=>rfl,id,f,xS.refl _ _⟩,?_⟩
 rintro m l h1 ⟨i,F1,s1,rfl,hi,hin,hp1,ht1,Yu,f1,Jn⟩
 have wQ:=hp1.length_eq
 obtain ⟨fs,hg,hpt⟩:=f1.cell
 by_cases hst:2*i+1<n
 case neg=>
  simp(disch:=first|omega|simp only[Wd]<;>omega|rfl)only[Wz,xx,s1,bP (show (n:Int)≤2*(i:Int)+1 by omega)]
  exact ⟨i,F1,rfl,f1,hp1,ht1,fun d=>(Yu d).NN (by omega),Jn⟩
 have c1:(2*(i:Int)+1)=((2*i+1:Nat):Int):=by omega
 simp(disch:=first|omega|simp only[Wd]<;>omega|rfl)only[Wz,xx,s1,c1,cq (show ((2*i+1:Nat):Int)<(n:Int) by omega),bP (show (0:Int)≤((2*i+1:Nat):Int) by omega),D3]
 refine ⟨fun l13 h'=>∃j:Nat,slot l13 13=.int .i64 (j:Int)∧i<j∧j<n∧(j-1) / 2=i∧(∀k,0<k→k<n→(k-1) / 2=i→F1.getD j 0≤F1.getD k 0)∧HQ h1 h',?_,?_⟩
 ·have c2:((2*i+1:Nat):Int)+1=((2*i+2:Nat):Int):=by omega
  by_cases h2:2*i+2<n
  ·simp(disch:=first|omega|simp only[Wd]<;>omega|rfl)only[Wz,xw,c2,cq (show ((2*i+2:Nat):Int)<(n:Int) by omega),ci_less,hg]
   refine tN F1 (2*i+2) (2*i+1) h1 _ _ hpt (by omega) (by omega) ?_
   by_cases hls:F1[2*i+2]'(by omega)<F1[2*i+1]'(by omega)
   ·simp(disch:=first|omega|simp only[Wd]<;>omega|rfl)only[Wz,a_ hls]
    exact ⟨2*i+2,rfl,by omega,h2,by omega,fun k k0 k1 k2=>by
     have ek:k=2*i+1∨k=2*i+2:=by omega
     rcases ek with rfl | rfl
     ·rw[gD (by omega),gD (by omega)]; omega
     ·exact Int.le_refl _,rfl⟩
   ·simp(disch:=first|omega|simp only[Wd]<;>omega|rfl)only[Wz,aN hls]
    exact ⟨2*i+1,rfl,by omega,hst,by omega,fun k k0 k1 k2=>by
     have ek:k=2*i+1∨k=2*i+2:=by omega
     rcases ek with rfl | rfl
     ·exact Int.le_refl _
     ·rw[gD (by omega),gD (by omega)]; omega,rfl⟩
  ·simp(disch:=first|omega|simp only[Wd]<;>omega|rfl)only[Wz,xw,c2,bP (show (n:Int)≤((2*i+2:Nat):Int) by omega)]
   exact ⟨2*i+1,rfl,by omega,hst,by omega,fun k k0 k1 k2=>by
    have ek:k=2*i+1:=by omega
    rw[ek]; exact Int.le_refl _,rfl⟩
 ·rintro l13 h' ⟨j,s2,hij,hjn,hjp,hmin,hq⟩
  cases (show h1=h' from hq)
  simp(disch:=first|omega|simp only[Wd]<;>omega|rfl)only[Wz,s1,s2,ci_less,hg]
  refine tN F1 j i h1 _ _ hpt (by omega) (by omega) ?_
  by_cases hls:F1[j]'(by omega)<F1[i]'(by omega)
  ·simp(disch:=first|omega|simp only[Wd]<;>omega|rfl)only[Wz,a_ hls,ci_swap,hg,s1,s2]
   refine tP F1 i j h1 _ _ hpt (by omega) (by omega) ?_
   intro h2 q1 q2 q3 q4 q5
   refine ⟨_,?_,j,mP F1 i j,rfl,rfl,by omega,.inl hjn,(rB (by omega) (by omega)).trans hp1,?_,fun d=>(Yu d).step (by omega) hjn hjp (by omega) (by rw[gD (by omega),gD (by omega)]; exact hls) hmin,f1.same q1 q2 hg q3 q4,Jn.trans (.swap hg q1 q2 q4 q5)⟩
   ·omega
   ·intro k iJ
    rw[←ht1 k iJ,sy (by omega) (by omega),List.getElem?_set,if_neg (by omega),List.getElem?_set,if_neg (by omega)]
  ·simp(disch:=first|omega|simp only[Wd]<;>omega|rfl)only[Wz,aN hls,s1]
   exact ⟨i,F1,rfl,f1,hp1,ht1,fun d=>(Yu d).W3 (by rw[gD (by omega),gD (by omega)]; omega) hmin,Jn⟩
theorem EE {h:Heap} {v:Value} {F:List Int} {x:Int} {b7 c7:Nat} (hp:nS h v F) (hb7:b7<h.nx) (hg7:h.bl.get b7=some (aa [.int .i64 x] 3 false)) (hlen:F.length≤100000) (hal:h.lo≤h.nx) (κ:KQ)
  (hk:∀v' h',nS h' v' (F++[x])→h.nx≤h'.nx→h'.lo=h.lo→(∀c,c<h.nx→(∀vs,h.bl.get c≠some (aa vs 3 true))→h'.bl.get c=h.bl.get c)→(∀c,c<h.nx→(∀n cap,v≠.slice (some ⟨c,0,none⟩) n cap)→h'.bl.get c=h.bl.get c)→(∀c n cap,c<h.nx→v'=.slice (some ⟨c,0,none⟩) n cap→∃n cap,v=.slice (some ⟨c,0,none⟩) n cap)→κ v' h') :
  bu False 3 1 [.int .i64 0] false v (.slice (some ⟨b7,0,none⟩) 1 c7) h κ:=by
 have hx:Sl cO h (.slice (some ⟨b7,0,none⟩) 1 c7) [x]:=Sl.new (L:=[x]) (e:=3) (op:=false) hb7 (by simpa[cO] using hg7) _
 have full:dh cO ⟨0,.nil,h.lo⟩ 3 h v F→(∀v' h',dh cO ⟨0,.nil,h.lo⟩ 3 h' v' (F++[x])→nS h' v' (F++[x]))→bu False 3 1 [.int .i64 0] false v (.slice (some ⟨b7,0,none⟩) 1 c7) h κ:=by
  intro ho abx
  refine GH (enc:=cO) (a:=⟨0,.nil,h.lo⟩) (L:=F) (M:=[x]) bW iE (by decide) (by decide) ho hx ⟨Nat.zero_le _,rfl,fun b hb=>absurd hb (Nat.not_lt_zero _)⟩ (by simp; omega) hal κ ?_
  intro v' h' ho' _ _ hn hl hs hs2 hv
  refine hk v' h' (abx v' h' ho') hn hl (fun c hc hne=>hs c hc (hne _)) hs2 fun c n cap hc e=>?_
  rcases hv with rfl | ⟨b,n',cap',hb,rfl⟩
  ·exact ⟨n,cap,e⟩
  ·injection e with e; injection e with e; injection e with e; omega
 have conv:∀v' h',dh cO ⟨0,.nil,h.lo⟩ 3 h' v' (F++[x])→nS h' v' (F++[x]):=by
  intro v' h' ho
  rcases ho with ⟨e,_⟩ | ⟨b,e,_,h2,h3,h4⟩
  ·simp at e
  ·exact .inr ⟨b,[],e,h2,h3,by rw[List.append_nil]; exact h4,by simp⟩
 rcases hp with ⟨rfl,rfl⟩ | ⟨b,G,rfl,h1,h2,h3,h4⟩
 ·exact full (.inl ⟨rfl,.inl rfl⟩) conv
 ·cases G with
  | nil=>
   rw[List.append_nil] at h3
   exact full (.inr ⟨b,rfl,Nat.zero_le _,h1,h2,h3⟩) conv
  | cons g G=>
   have iB:∀κ':List Value→Prop,fU False h 1 1 (.slice (some ⟨b7,0,none⟩) 1 c7) κ'=κ' [.int .i64 x]:=fun κ'=>hx.first (β:=Prop) (fl:=False) bW κ'
   have hl:=aX (enc:=cO) bW (F++g::G)
   have hl':(F++g::G).length=F.length+(G.length+1):=by simp
   have Ah:=xT (G:=G) (F:=F++[g]) (y:=x) (i:=F.length) (by simp)
   have e0:F++[g]++G=F++g::G:=by simp
   have e00:(F++[g]).set F.length x=F++[x]:=by simp
   rw[e0,e00] at Ah
   unfold bu kz
   simp only
   rw[iB]
   simp only[bS]
   have e2:Nat.beq aO fT=false:=by decide
   have e3:Nat.beq aO aO=true:=Nat.beq_refl _
   have e5:Nat.ble (Nat.add F.length (0+1)) 1000000000=true:=Nat.ble_eq_true_of_le (by show F.length+(0+1)≤_; omega)
   have e4:Nat.ble (Nat.add 0 (Nat.mul (Nat.add F.length (0+1)) 1)) ((F++g::G).flatMap cO).length=true:=Nat.ble_eq_true_of_le (by rw[hl]; show 0+(F.length+(0+1))*1≤_; omega)
   simp only[e2,e3,e5,h3,aa,Nat.beq_refl,e4]
   rw[pW _ _ _ _ _ (by show 0+F.length*1+1≤_; omega) rfl,bU _ _ _ _ h2]
   have e6:(Nat.add 0 (Nat.mul F.length 1))=F.length:=by show 0+F.length*1=_; omega
   rw[e6,vg _ _ _ (by show F.length+1≤_; omega),Ah]
   have e7:((F++g::G).flatMap cO).length=((F++[x]++G).flatMap cO).length:=by rw[hl,aX bW]; simp
   rw[e7]
   refine hk _ _ (.inr ⟨b,G,by simp,h1,h2,T.af _ _ _,by simp; omega⟩) (Nat.le_refl _) rfl ?_ ?_ ?_
   ·intro c hc hne
    refine T.ai _ _ ?_
    rintro rfl
    exact hne _ h3
   ·intro c hc hne
    refine T.ai _ _ ?_
    rintro rfl
    exact hne _ _ rfl
   ·intro c n cap hc e
    injection e with e; injection e with e; injection e with e
    subst e
    exact ⟨_,_,rfl⟩
theorem NP (bp:Nat) (F:List Int) (ls:Value) (x:Int) (h:Heap) (κ:KQ) (f:fZ h bp F ls) (hlen:F.length≤10000) (hlo:h.lo≤h.nx) (hls:∃a n c,ls=.slice a n c)
  (hk:∀h' F',fZ h' bp F' ls→F'.Perm (F++[x])→(HP F→HP F')→xS bp h h'→κ (.tuple ⟨[]⟩) h'):CallW Tryz.prog 146 [frV bp,.iface 3 (.int .i64 x)] h κ:=by
 obtain ⟨la,ln,lc,rfl⟩:=hls
 refine an mixed ?_
 rw[VH]
 simp(disch:=first|omega|simp only[Wd]<;>omega|rfl)only[Wz,ci_push]
 refine an mixed ?_
 rw[WN]
 obtain ⟨fs,hg,hpt⟩:=f.cell
 have hfs:∃a n c,fs=.slice a n c:=by
  rcases hpt with ⟨_,rfl⟩ | ⟨b,G,rfl,_⟩<;>exact ⟨_,_,_,rfl⟩
 have hbp:=f.lt
 have alq:=f.lo
 simp(disch:=first|omega|simp only[Wd]<;>omega|rfl)only[Wz,eD,Ew,aJ,hg]
 have hle1:=(Le.refl h).new (aa [.int .i64 x] 3 false)
 obtain ⟨hA,eA⟩:∃hA:Heap,hA=⟨h.nx+1,h.bl.aY h.nx (aa [.int .i64 x] 3 false),h.lo⟩:=⟨_,rfl⟩
 rw[←eA] at hle1 ⊢
 have nA:hA.nx=h.nx+1:=by rw[eA]
 have lA:hA.lo=h.lo:=by rw[eA]
 have gA:hA.bl.get h.nx=some (aa [.int .i64 x] 3 false):=by rw[eA]; exact T.af _ _ _
 have gbp:=(hle1.get bp hbp).trans hg
 have afY:nS hA fs F:=by
  rcases hpt with e | ⟨b,G,e,h1,h2,h3,h4⟩
  ·exact .inl e
  ·exact .inr ⟨b,G,e,by omega,by omega,(hle1.get b h1).trans h3,h4⟩
 refine EE afY (by omega) gA (by omega) (by omega) _ ?_
 intro v' h2 hp2 n2 l2 hs2 hs3 hv3
 have g2:=(hs2 bp (by omega) (fun vs=>by rw[gbp]; exact aS)).trans gbp
 have yU:∃a n c,v'=.slice a n c:=by
  rcases hp2 with ⟨_,rfl⟩ | ⟨b,G,rfl,_⟩<;>exact ⟨_,_,_,rfl⟩
 obtain ⟨va,vn,vc,rfl⟩:=yU
 simp(disch:=first|omega|simp only[Wd]<;>omega|rfl)only[Wz,g2]
 obtain ⟨hB,eB⟩:∃hB:Heap,hB=⟨h2.nx,h2.bl.aY bp (aa [.slice va vn vc,.slice la ln lc] 225 false),h2.lo⟩:=⟨_,rfl⟩
 rw[←eB]
 have nB:hB.nx=h2.nx:=by rw[eB]
 have lB:hB.lo=h2.lo:=by rw[eB]
 have gB:hB.bl.get bp=some (aa [.slice va vn vc,.slice la ln lc] 225 false):=by rw[eB]; exact T.af _ _ _
 have hpB:nS hB (.slice va vn vc) (F++[x]):=by
  rcases hp2 with e | ⟨b,G,e,h1,h2',h3,h4⟩
  ·exact .inl e
  ·refine .inr ⟨b,G,e,by omega,by omega,?_,h4⟩
   rw[eB]
   exact (T.ai _ _ (by rintro rfl; rw[g2] at h3; exact aS h3)).trans h3
 have fB:fZ hB bp (F++[x]) (.slice la ln lc):=⟨by omega,by omega,_,gB,hpB⟩
 have frB:xS bp h hB:=by
  refine ⟨by omega,by omega,fun c hc hn hi=>?_,fun _ c hc hn hi=>?_,fun _ c hc hx=>?_⟩
  ·have e1:hA.bl.get c=h.bl.get c:=hle1.get c hc
   rw[eB]
   exact (T.ai _ _ (fun e=>hn e.symm)).trans ((hs2 c (by omega) (fun vs=>by rw[e1]; exact hi vs)).trans e1)
  ·have e1:hA.bl.get c=h.bl.get c:=hle1.get c hc
   rw[eB]
   exact (T.ai _ _ (fun e=>hn e.symm)).trans ((hs3 c (by omega) (fun n cap e=>hi ⟨n,cap,_,e▸hg⟩)).trans e1)
  ·obtain ⟨n,cap,ls',hx⟩:=hx
   rw[gB] at hx
   obtain ⟨n',cap',e⟩:=hv3 c n cap (by omega) (lM hx)
   exact ⟨n',cap',_,e▸hg⟩
 simp(disch:=first|omega|simp only[Wd]<;>omega|rfl)only[Wz,ci_len,gB]
 refine sx (F++[x]) hB _ _ hpB ?_
 have el:(((F++[x]).length:Nat):Int)-1=(F.length:Int):=by simp
 have el2:(F++[x]).length=F.length+1:=by simp
 simp(disch:=first|omega|simp only[Wd]<;>omega|rfl)only[Wz,el]
 refine afV bp (F++[x]) _ F.length hB _ fB (by omega) (by omega) ?_
 intro h3 F' f3 J3 hu3 Yx
 exact hk h3 F' f3 J3 (fun u=>hu3 (HP.push u x)) (frB.trans Yx)
theorem aby (bp:Nat) (F:List Int) (ls:Value) (h:Heap) (κ:KQ) (f:fZ h bp F ls) (h0:F≠[]) (hlen:F.length≤10000) (hlo:h.lo≤h.nx) (hls:∃a n c,ls=.slice a n c)
  (hk:∀h' F' x,fZ h' bp F' ls→(x::F').Perm F→(HP F→HP F'∧∀y∈F',x≤y)→xS bp h h'→κ (.iface 3 (.int .i64 x)) h'):CallW Tryz.prog 135 [frV bp] h κ:=by
 obtain ⟨la,ln,lc,rfl⟩:=hls
 have hpos:0<F.length:=List.length_pos_iff.2 h0
 refine an mixed ?_
 rw[VD]
 obtain ⟨fs,hg,hpt⟩:=f.cell
 simp(disch:=first|omega|simp only[Wd]<;>omega|rfl)only[Wz,ci_len,hg]
 refine sx F h _ _ hpt ?_
 have el:((F.length:Nat):Int)-1=((F.length-1:Nat):Int):=by omega
 simp(disch:=first|omega|simp only[Wd]<;>omega|rfl)only[Wz,el,ci_swap,hg]
 refine tP F 0 (F.length-1) h _ _ hpt hpos (by omega) ?_
 intro h1 q1 q2 q3 q4 q5
 have f1:=f.same q1 q2 hg q3 q4
 have Cs:=rB (F:=F) (i:=0) (j:=F.length-1) hpos (by omega)
 have wQ:=Cs.length_eq
 refine W4 bp (mP F 0 (F.length-1)) _ 0 (F.length-1) h1 _ f1 (by omega) (by omega) (by omega) ?_
 intro r h2 F2 f2 hp2 ht2 hd2 zu
 have Lt:=hp2.length_eq
 obtain ⟨fs2,hg2,Q8⟩:=f2.cell
 have hbp:=f2.lt
 have hlb:=f2.lo
 simp(disch:=first|omega|simp only[Wd]<;>omega|rfl)only[Wz,ci_pop]
 refine an mixed ?_
 rw[WM]
 simp(disch:=first|omega|simp only[Wd]<;>omega|rfl)only[Wz,aJ,hg2]
 refine sx F2 h2 _ _ Q8 ?_
 have el2:((F2.length:Nat):Int)-1=((F2.length-1:Nat):Int):=by omega
 rcases Q8 with ⟨e,_⟩ | ⟨b,G,rfl,k1,k2,k3,k4⟩
 ·rw[e] at Lt; simp at Lt; omega
 obtain ⟨x,hx⟩:∃x,F2[F2.length-1]? = some x:=⟨_,List.getElem?_eq_getElem (by omega)⟩
 have hr:=pe (G:=G) hx
 have hfl:=aX (enc:=cO) bW (F2++G)
 have hl3:(F2++G).length=F2.length+G.length:=List.length_append
 simp(disch:=first|omega|simp only[Wd]<;>omega|rfl)only[Wz,el2,hg2,aW,k3,hr,Nat.mul_one,r7 (n:=(F2++G).length) (i:=F2.length-1) (Nat.succ_pos 0) k3 (by rw[hfl]) (by omega) (by omega)]
 have hne:b≠bp:=by rintro rfl; rw[hg2] at k3; exact aS k3
 have eF:F2=F2.take (F2.length-1)++[x]:=by
  conv=>lhs; rw[←List.take_append_drop (F2.length-1) F2]
  congr 1
  have hlt:F2.length-1<F2.length:=by omega
  rw[List.drop_eq_getElem_cons hlt,List.drop_of_length_le (by omega)]
  rw[List.getElem?_eq_getElem hlt] at hx
  cases hx; rfl
 refine hk ⟨h2.nx,h2.bl.aY bp (aa [.slice (some ⟨b,0,none⟩) (F2.length-1) aO,.slice la ln lc] 225 false),h2.lo⟩ (F2.take (F2.length-1)) x ⟨hbp,hlb,_,T.af _ _ _,.inr ⟨b,x::G,by simp,k1,k2,?_,by simp; omega⟩⟩ ?_ ?_ ?_
 ·rw[show F2.take (F2.length-1)++x::G=F2++G by conv=>rhs; rw[eF]; simp]
  exact (T.ai _ _ (fun e=>hne e.symm)).trans k3
 ·refine List.Perm.trans ?_ (hp2.trans Cs)
  conv=>rhs; rw[eF]
  exact (List.perm_append_singleton x _).symm
 ·intro u
  refine ⟨HN.take (by rw[Lt,wQ]; exact hd2 (HP.pop u hpos)) (by omega),fun y hy=>?_⟩
  have hyF:y∈F:=by
   refine (hp2.trans Cs).mem_iff.1 ?_
   rw[eF]; exact List.mem_append_left _ hy
  obtain ⟨k,iJ,rfl⟩:=List.getElem_of_mem hyF
  have Un:x=F.getD 0 0:=by
   have e1:=ht2 (F.length-1) (Nat.le_refl _)
   rw[Lt,wQ,e1,List.getElem?_eq_getElem (by omega)] at hx
   have e2:=sC (F:=F) (i:=0) (j:=F.length-1) hpos (by omega) (F.length-1)
   rw[if_pos rfl,gD (by omega)] at e2
   rw[←e2]
   exact (Option.some.inj hx).symm
  rw[Un,←gD iJ]
  exact HP.least u _ k (Nat.lt_succ_self _) iJ
 ·refine xS.trans (xS.trans (.swap hg q1 q2 q4 q5) zu) ⟨Nat.le_refl _,rfl,fun c _ hn _=>T.ai _ _ (fun e=>hn e.symm),fun _ c _ hn _=>T.ai _ _ (fun e=>hn e.symm),fun _ c _ hx=>?_⟩
  obtain ⟨n,cap,ls',hx⟩:=hx
  have e:=lM ((T.af _ _ _).symm.trans hx)
  injection e with e; injection e with e; injection e with e
  subst e
  exact ⟨_,_,_,hg2⟩
structure jT (F:List Int) (B:List Bool):Prop where
 nodup:F.Nodup
 mem:∀n:Nat,(n:Int)∈F↔B[n]? = some false
 pos:∀x∈F,0≤x
 hp:HP F
structure dR (h:Heap) (bp bl:Nat) (F:List Int) (B:List Bool):Prop where
 fr:fZ h bp F (.slice (some ⟨bl,0,none⟩) B.length B.length)
 lt:bl<h.nx
 lo:h.lo≤bl
 cell:h.bl.get bl=some (aa (B.map Value.bool) 4 false)
 ok:jT F B
 small:B.length≤128
theorem jT.take {F F':List Int} {B:List Bool} {x:Int} (o:jT F B) (hp:(x::F').Perm F) (hu:HP F→HP F'∧∀y∈F',x≤y):∃n:Nat,x=(n:Int)∧n<B.length∧B[n]? = some false∧(∀k,k<n→B[k]? = some true)∧jT F' (B.set n true):=by
 have hx:x∈F:=hp.mem_iff.1 (.head _)
 obtain ⟨n,rfl⟩:∃n:Nat,x=(n:Int):=⟨x.toNat,by have:=o.pos x hx; omega⟩
 have hb:=(o.mem n).1 hx
 have hn:n<B.length:=(List.getElem?_eq_some_iff.1 hb).1
 have hnd:((n:Int)::F').Nodup:=(hp.nodup_iff).2 o.nodup
 rw[List.nodup_cons] at hnd
 obtain ⟨LS,Uh⟩:=hu o.hp
 have GI:∀k,k<n→B[k]? = some true:=by
  intro k hk
  have Ti:k<B.length:=by omega
  rw[List.getElem?_eq_getElem Ti]
  cases hbk:B[k] with
  | true=>rfl
  | false=>
   have hkF:(k:Int)∈F:=(o.mem k).2 (by rw[List.getElem?_eq_getElem Ti,hbk])
   rcases List.mem_cons.1 (hp.mem_iff.2 hkF) with h | h
   ·omega
   ·have:=Uh _ h; omega
 refine ⟨n,rfl,hn,hb,GI,hnd.2,fun k=>?_,fun y hy=>o.pos y (hp.mem_iff.1 (.tail _ hy)),LS⟩
 rw[List.getElem?_set]
 by_cases hk:n=k
 ·subst hk
  rw[if_pos rfl,if_pos hn]
  simp[hnd.1]
 ·rw[if_neg hk,←o.mem k,←hp.mem_iff,List.mem_cons]
  constructor
  ·exact fun h=>.inr h
  ·rintro (h | h)
   ·omega
   ·exact h
theorem jT.af1 {F F':List Int} {B:List Bool} {n:Nat} (o:jT F B) (hb:B[n]? = some true) (hp:F'.Perm (F++[(n:Int)])) (hu:HP F→HP F'):jT F' (B.set n false):=by
 have hn:n<B.length:=(List.getElem?_eq_some_iff.1 hb).1
 have hno:(n:Int)∉F:=fun h=>by have:=(o.mem n).1 h; rw[hb] at this; cases this
 refine ⟨(hp.nodup_iff).2 ?_,fun k=>?_,fun y hy=>?_,hu o.hp⟩
 ·rw[List.nodup_append]
  refine ⟨o.nodup,by simp,fun a ha b hb'=>?_⟩
  rw[List.mem_singleton] at hb'
  subst hb'
  rintro rfl
  exact hno ha
 ·rw[hp.mem_iff,List.mem_append,List.mem_singleton,List.getElem?_set]
  by_cases hk:n=k
  ·subst hk; rw[if_pos rfl,if_pos hn]; simp
  ·rw[if_neg hk,←o.mem k]
   constructor
   ·rintro (h | h)
    ·exact h
    ·omega
   ·exact fun h=>.inl h
 ·rcases List.mem_append.1 (hp.mem_iff.1 hy) with h | h
  ·exact o.pos y h
  ·rw[List.mem_singleton] at h; omega
theorem Tz (h:Heap) (b o:Nat):lT Tryz.prog h 100 144 (.pointer (some ⟨b,o,none⟩)) (.pointer none)=some false:=by kernel_rfl
theorem B4 {β:Type} {fl:β} (cn:Bool) (b o:Nat) (h:Heap) (κ:Value→Heap→β):au fl Tryz.prog .eql 144 cn false (.pointer (some ⟨b,o,none⟩)) (.pointer none) h κ=κ (.bool false) h:=by simp only[au,Tz,bV]
theorem B6 {β:Type} {fl:β} (cn:Bool) (b o:Nat) (h:Heap) (κ:Value→Heap→β):au fl Tryz.prog .neq 144 cn false (.pointer (some ⟨b,o,none⟩)) (.pointer none) h κ=κ (.bool true) h:=by simp only[au,Tz,bV,Bool.not_false]
theorem TC (bp bl:Nat) (F:List Int) (B:List Bool) (i:Int) (h:Heap) (κ:KQ) (p:dR h bp bl F B) (hk:κ (.bool (decide (0≤i) && (B[i.toNat]?).getD false)) h):CallW Tryz.prog 242 [.pointer (some ⟨bp,0,none⟩),.int .i64 i] h κ:=by
 refine an mixed ?_
 rw[Wb]
 obtain ⟨fs,hg,hpt⟩:=p.fr.cell
 by_cases h0:0≤i
 ·obtain ⟨n,rfl⟩:∃n:Nat,i=(n:Int):=⟨i.toNat,by omega⟩
  rw[a_ h0,Bool.true_and,Int.toNat_natCast] at hk
  by_cases h1:n<B.length
  ·have hr:(B.map Value.bool)[n]? = some (.bool B[n]):=by rw[List.getElem?_map,List.getElem?_eq_getElem h1]; rfl
   rw[List.getElem?_eq_getElem h1] at hk
   simp(disch:=first|omega|simp only[Wd]<;>omega|rfl)only[Wz,B6,aJ,hg,bP h0,cq (show (n:Int)<(B.length:Int) by omega),aW,p.cell,hr,Nat.mul_one]
   exact hk
  ·rw[List.getElem?_eq_none (by omega)] at hk
   simp(disch:=first|omega|simp only[Wd]<;>omega|rfl)only[Wz,B6,aJ,hg,bP h0,bP (show (B.length:Int)≤(n:Int) by omega)]
   exact hk
 ·rw[aN h0,Bool.false_and] at hk
  simp(disch:=first|omega|simp only[Wd]<;>omega|rfl)only[Wz,B6,aJ,hg,cq (show i<0 by omega)]
  exact hk
structure Jo (bp bl:Nat) (h h':Heap):Prop where
 nx:h.nx≤h'.nx
 lo:h'.lo=h.lo
 get:∀c,c<h.nx→c≠bp→c≠bl→(∀vs,h.bl.get c≠some (aa vs 3 true))→h'.bl.get c=h.bl.get c
 g2:bp<h.nx→∀c,c<h.nx→c≠bp→c≠bl→¬FB h bp c→h'.bl.get c=h.bl.get c
 mv:bp<h.nx→∀c,c<h.nx→FB h' bp c→FB h bp c
theorem Jo.trans {bp bl:Nat} {h h' h'':Heap} (a:Jo bp bl h h') (b:Jo bp bl h' h''):Jo bp bl h h'':=
 ⟨Nat.le_trans a.nx b.nx,b.lo.trans a.lo,fun c hc hn hl hi=>(b.get c (Nat.lt_of_lt_of_le hc a.nx) hn hl (fun vs=>by rw[a.get c hc hn hl hi]; exact hi vs)).trans (a.get c hc hn hl hi),
  fun hb c hc hn hl hi=>(b.g2 (Nat.lt_of_lt_of_le hb a.nx) c (Nat.lt_of_lt_of_le hc a.nx) hn hl fun x=>hi (a.mv hb c hc x)).trans (a.g2 hb c hc hn hl hi),
  fun hb c hc x=>a.mv hb c hc (b.mv (Nat.lt_of_lt_of_le hb a.nx) c (Nat.lt_of_lt_of_le hc a.nx) x)⟩
theorem Jo.abz {bp bl:Nat} {h h':Heap} (f:xS bp h h'):Jo bp bl h h':=⟨f.nx,f.lo,fun c hc hn _ hi=>f.get c hc hn hi,fun hb c hc hn _ hi=>f.g2 hb c hc hn hi,f.mv⟩
theorem xV (B:List Bool) (n:Nat) (b:Bool):over (B.map Value.bool) n [.bool b]=(if n<B.length then (B.set n b).map Value.bool else over (B.map Value.bool) n [.bool b]):=by
 split
 ·rename_i h
  rw[List.map_set]
  unfold over
  rw[List.set_eq_take_append_cons_drop,if_pos (by simpa using h)]
  simp
 ·rfl
theorem qd {B:List Bool} {n:Nat} {b:Bool} (h:n<B.length):over (B.map Value.bool) n [.bool b]=(B.set n b).map Value.bool:=by
 rw[xV,if_pos h]
theorem W5 (bp bl:Nat) (F:List Int) (B:List Bool) (h:Heap) (κ:KQ) (p:dR h bp bl F B) (hF:F.length≤1000) (hlo:h.lo≤h.nx) (hne:bp≠bl)
  (ig:F=[]→κ (.tuple ⟨[.int .i64 0,.int .i64 8]⟩) h)
  (iJ:∀h' F' (n:Nat),dR h' bp bl F' (B.set n true)→((n:Int)::F').Perm F→B[n]? = some false→(∀k,k<n→B[k]? = some true)→Jo bp bl h h'→κ (.tuple ⟨[.int .i64 (n:Int),.int .i64 0]⟩) h'):CallW Tryz.prog 292 [.pointer (some ⟨bp,0,none⟩)] h κ:=by
 refine an mixed ?_
 rw[Wr]
 obtain ⟨fs,hg,hpt⟩:=p.fr.cell
 simp(disch:=first|omega|simp only[Wd]<;>omega|rfl)only[Wz,B4,Eo,aJ,hg]
 refine sx F h _ _ hpt ?_
 by_cases h0:F=[]
 ·simp(disch:=first|omega|simp only[Wd]<;>omega|rfl)only[Wz,a_ (show (F.length:Int)=0 by simp[h0])]
  exact ig h0
 have hpos:0<F.length:=List.length_pos_iff.2 h0
 simp(disch:=first|omega|simp only[Wd]<;>omega|rfl)only[Wz,aN (show ¬(F.length:Int)=0 by omega),En,aJ]
 refine aby bp F _ h _ p.fr h0 (by omega) hlo ⟨_,_,_,rfl⟩ ?_
 intro h2 F' x f2 hp2 Uh zu
 obtain ⟨n,rfl,hn,hb,xW,ho⟩:=p.ok.take hp2 Uh
 obtain ⟨fs2,hg2,Q8⟩:=f2.cell
 have hbl:=p.lt
 have af2:=p.lo
 have n2:=zu.nx
 have l2:=zu.lo
 have Yy:(B.map Value.bool).length=B.length:=by simp
 have gl:=(zu.get bl hbl (fun e=>hne e.symm) (fun vs=>by rw[p.cell]; exact aS)).trans p.cell
 simp(disch:=first|omega|simp only[Wd]<;>omega|rfl)only[Wz,eD,aJ,hg2,aW,gl,Nat.mul_one,qd hn]
 refine iJ ⟨h2.nx,h2.bl.aY bl (aa ((B.set n true).map Value.bool) 4 false),h2.lo⟩ F' n ⟨⟨f2.lt,f2.lo,fs2,?_,?_⟩,by show bl<h2.nx; omega,by show h2.lo≤bl; omega,T.af _ _ _,ho,by rw[List.length_set]; exact p.small⟩ hp2 hb xW ?_
 ·rw[List.length_set]; exact (T.ai _ _ (fun e=>hne e.symm)).trans hg2
 ·rcases Q8 with e | ⟨b,G,e,k1,k2,k3,k4⟩
  ·exact .inl e
  ·exact .inr ⟨b,G,e,k1,k2,(T.ai _ _ (by rintro rfl; rw[gl] at k3; exact aS k3)).trans k3,k4⟩
 ·exact (Jo.abz zu).trans ⟨Nat.le_refl _,rfl,fun c _ _ hn _=>T.ai _ _ (fun e=>hn e.symm),fun _ c _ _ hn _=>T.ai _ _ (fun e=>hn e.symm),fun _ c _ hx=>(FB.congr (T.ai _ _ (fun e=>hne e.symm))).1 hx⟩
theorem W6 (bp bl:Nat) (F:List Int) (B:List Bool) (n:Nat) (h:Heap) (κ:KQ) (p:dR h bp bl F B) (hF:F.length≤1000) (hlo:h.lo≤h.nx) (hne:bp≠bl) (hb:B[n]? = some true)
  (hk:∀h' F',dR h' bp bl F' (B.set n false)→F'.Perm (F++[(n:Int)])→Jo bp bl h h'→κ (.int .i64 0) h'):CallW Tryz.prog 246 [.pointer (some ⟨bp,0,none⟩),.int .i64 (n:Int)] h κ:=by
 refine an mixed ?_
 rw[We]
 have hn:n<B.length:=(List.getElem?_eq_some_iff.1 hb).1
 have Yy:(B.map Value.bool).length=B.length:=by simp
 obtain ⟨fs,hg,hpt⟩:=p.fr.cell
 simp(disch:=first|omega|simp only[Wd]<;>omega|rfl)only[Wz,B4]
 refine TC bp bl F B (n:Int) h _ p ?_
 have eh:(decide ((0:Int)≤(n:Int)) && (B[((n:Int)).toNat]?).getD false)=true:=by
  rw[a_ (by omega),Int.toNat_natCast,hb]; rfl
 rw[eh]
 have hbl:=p.lt
 have af2:=p.lo
 simp(disch:=first|omega|simp only[Wd]<;>omega|rfl)only[Wz,Ea,aJ,hg,aW,p.cell,Nat.mul_one,qd hn]
 obtain ⟨hA,eA⟩:∃hA:Heap,hA=⟨h.nx,h.bl.aY bl (aa ((B.set n false).map Value.bool) 4 false),h.lo⟩:=⟨_,rfl⟩
 rw[←eA]
 have nA:hA.nx=h.nx:=by rw[eA]
 have lA:hA.lo=h.lo:=by rw[eA]
 have gbl:hA.bl.get bl=some (aa ((B.set n false).map Value.bool) 4 false):=by rw[eA]; exact T.af _ _ _
 have fA:fZ hA bp F (.slice (some ⟨bl,0,none⟩) B.length B.length):=by
  refine ⟨by rw[nA]; exact p.fr.lt,by rw[lA]; exact p.fr.lo,fs,by rw[eA]; exact (T.ai _ _ (fun e=>hne e.symm)).trans hg,?_⟩
  rcases hpt with e | ⟨b,G,e,k1,k2,k3,k4⟩
  ·exact .inl e
  ·refine .inr ⟨b,G,e,by omega,by omega,?_,k4⟩
   rw[eA]
   exact (T.ai _ _ (by rintro rfl; rw[p.cell] at k3; exact aS k3)).trans k3
 have FD:Jo bp bl h hA:=⟨by omega,lA,fun c _ _ hn _=>by rw[eA]; exact T.ai _ _ (fun e=>hn e.symm),fun _ c _ _ hn _=>by rw[eA]; exact T.ai _ _ (fun e=>hn e.symm),fun _ c _ hx=>(FB.congr (by rw[eA]; exact T.ai _ _ (fun e=>hne e.symm))).1 hx⟩
 refine NP bp F _ (n:Int) hA _ fA (by omega) (by omega) ⟨_,_,_,rfl⟩ ?_
 intro h3 F' f3 J3 hu3 Yx
 have n3:=Yx.nx
 have l3:=Yx.lo
 refine hk h3 F' ⟨by rw[List.length_set]; exact f3,by omega,by omega,?_,p.ok.af1 hb J3 hu3,by rw[List.length_set]; exact p.small⟩ J3 (FD.trans (Jo.abz Yx))
 exact (Yx.get bl (by omega) (fun e=>hne e.symm) (fun vs=>by rw[gbl]; exact aS)).trans gbl
theorem lN (n:Nat):aU [Value.bool false] n=(List.replicate n false).map Value.bool:=by
 induction n with
 | zero=>rfl
 | succ n ih=>rw[List.replicate_succ,List.map_cons,←ih]; rfl
theorem jT.new (most:Nat) {F:List Int} (hp:F.Perm ((List.range most).map fun n:Nat=>(n:Int))) (hu:HP F):jT F (List.replicate most false):=by
 refine ⟨(hp.nodup_iff).2 ?_,fun n=>?_,fun x hx=>?_,hu⟩
 ·rw[List.Nodup,List.pairwise_map]
  exact List.nodup_range.imp fun hne e=>hne (Int.ofNat.inj e)
 ·rw[hp.mem_iff,List.mem_map,List.getElem?_replicate]
  constructor
  ·rintro ⟨a,ha,e⟩
   have:a=n:=Int.ofNat.inj e
   subst this
   rw[if_pos (List.mem_range.1 ha)]
  ·intro h
   by_cases hn:n<most
   ·exact ⟨n,List.mem_range.2 hn,rfl⟩
   ·rw[if_neg hn] at h; cases h
 ·obtain ⟨a,_,rfl⟩:=List.mem_map.1 (hp.mem_iff.1 hx)
  omega
theorem Kv (most:Nat) (h:Heap) (κ:KQ) (hm:most≤128) (hlo:h.lo≤h.nx)
  (hk:∀bp bl h' F,dR h' bp bl F (List.replicate most false)→bp≠bl→h.nx≤bp→h.nx≤bl→F.length=most→Le h h'→(∀x,FB h' bp x→h.nx≤x)→κ (.tuple ⟨[.pointer (some ⟨bp,0,none⟩),.int .i64 0]⟩) h') :
  CallW Tryz.prog 108 [.int .i64 (most:Int)] h κ:=by
 refine an mixed ?_
 rw[Nd]
 simp(disch:=first|omega|simp only[Wd]<;>omega|rfl)only[Wz,bP (show (0:Int)≤(most:Int) by omega),bP (show (most:Int)≤128 by omega)]
 have hrl:(aU [Value.bool false] most).length=most:=by rw[lN]; simp
 rw[vp _ _ _ _ _ (by omega) (by omega),lN]
 simp(disch:=first|omega|simp only[Wd]<;>omega|rfl)only[Wz]
 obtain ⟨hA,az⟩:∃hA:Heap,hA=⟨h.nx+1+1,((h.bl.aY (h.nx) (aa ((List.replicate most false).map Value.bool) 4 false)).aY (h.nx+1) (aa [.slice none 0 0,.slice (some ⟨h.nx,0,none⟩) most most] 225 false)),h.lo⟩:=⟨_,rfl⟩
 have aK:Le h hA:=by subst az; exact (((Le.refl h).new _).new _)
 have gl:hA.bl.get (h.nx)=some (aa ((List.replicate most false).map Value.bool) 4 false):=by subst az; exact (T.ai _ _ (by omega)).trans (T.af _ _ _)
 have gp:hA.bl.get (h.nx+1)=some (aa [.slice none 0 0,.slice (some ⟨h.nx,0,none⟩) most most] 225 false):=by subst az; exact T.af _ _ _
 have d_:hA.nx=h.nx+1+1:=by subst az; rfl
 have ee:hA.lo=h.lo:=by subst az; rfl
 rw[←az]
 clear az
 refine ⟨fun m l h1=>∃(i:Nat) (F:List Int),slot l 11=.int .i64 (i:Int)∧m=most-i∧i≤most∧fZ h1 (h.nx+1) F (.slice (some ⟨h.nx,0,none⟩) most most)∧F.Perm ((List.range i).map fun n:Nat=>(n:Int))∧HP F∧xS (h.nx+1) hA h1,⟨_,0,[],rfl,rfl,by omega,⟨by omega,by omega,_,gp,.inl ⟨rfl,rfl⟩⟩,List.Perm.refl _,fun i h1 h2=>absurd h2 (Nat.not_lt_zero _),xS.refl _ _⟩,?_⟩
 rintro m l h1 ⟨i,F1,s1,rfl,hi,f1,hp1,LS,Jn⟩
 have n1:=Jn.nx
 have l1:=Jn.lo
 have wQ:F1.length=i:=by rw[hp1.length_eq]; simp
 by_cases hst:i<most
 ·simp(disch:=first|omega|simp only[Wd]<;>omega|rfl)only[Wz,wW,s1,cq (show (i:Int)<(most:Int) by omega),aJ]
  refine NP (h.nx+1) F1 _ (i:Int) h1 _ f1 (by omega) (by omega) ⟨_,_,_,rfl⟩ ?_
  intro h2 F2 f2 hp2 Uh zu
  refine ⟨_,?_,i+1,F2,rfl,rfl,by omega,f2,?_,Uh LS,Jn.trans zu⟩
  ·omega
  ·rw[List.range_succ,List.map_append]
   exact hp2.trans (hp1.append_right _)
 ·have hie:i=most:=by omega
  subst hie
  simp(disch:=first|omega|simp only[Wd]<;>omega|rfl)only[Wz,wW,s1,bP (show (i:Int)≤(i:Int) by omega)]
  refine hk (h.nx+1) h.nx h1 F1 ⟨by rw[List.length_replicate]; exact f1,by omega,by omega,?_,jT.new _ hp1 LS,by rw[List.length_replicate]; exact hm⟩ (by omega) (by omega) (by omega) wQ ⟨by omega,by omega,fun c hc=>?_⟩ fun x hx=>?_
  ·exact (Jn.get h.nx (by omega) (by omega) (fun vs=>by rw[gl]; exact aS)).trans gl
  ·refine (Jn.g2 (by omega) c (by omega) (by omega) ?_).trans (aK.get c hc)
   rintro ⟨n,cap,ls,hx⟩
   have:=lM (gp.symm.trans hx)
   cases this
  ·rcases Nat.lt_or_ge x h.nx with hlt | hge
   ·obtain ⟨n,cap,ls,hx⟩:=Jn.mv (by omega) x (by omega) hx
    have:=lM (gp.symm.trans hx)
    cases this
   ·exact hge
structure HE where
 t:Int
 r:Int
 hb:Nat
 born:Nat
 q:Value
 w:Int
 Q:List R5
def kQ (e:HE):MapEntry:={ key:=dn e.t e.r,val:=.pointer (some ⟨e.hb,0,none⟩),born:=e.born }
def tQ (t r:Int) (e:HE):Bool:=decide (t=e.t∧r=e.r)
theorem qJ {t r:Int} {x:HE}:(!tQ t r x)=true↔¬(t=x.t∧r=x.r):=by unfold tQ; rw[Bool.not_eq_true',decide_eq_false_iff_not]
structure fL (M:List HE) (clock:Nat):Prop where
 nm:M.Pairwise fun a b=>¬(a.t=b.t∧a.r=b.r)
 bn:M.Pairwise fun a b=>a.born≠b.born
 lt:∀e∈M,e.born<clock
theorem af4 (h:Heap) (a b c d:Int):lT Tryz.prog h 100 36 (.agg ⟨[.int .i64 a,.int .i64 b]⟩) (.agg ⟨[.int .i64 c,.int .i64 d]⟩) =
  (match (some (nX a c)) with | some true=>(match some (nX b d) with | some true=>some true | r=>r) | r=>r):=by kernel_rfl
theorem eqN (h:Heap) (a b c d:Int):lT Tryz.prog h 100 36 (dn a b) (dn c d)=some (decide (a=c∧b=d)):=by
 unfold dn
 rw[af4,ga,ga]
 by_cases h1:a=c<;>by_cases h2:b=d<;>simp[h1,h2]
theorem NQ (t r:Int):jU Tryz.prog 20 36 (dn t r)=true:=by kernel_rfl
theorem af5 (t r:Int):k9 3 (dn t r) (dn t r)=true:=by unfold k9; exact tH 1 [t,r]
theorem oG (x:MapEntry):∀(l:List MapEntry) (κ:List MapEntry→Prop),CD x l κ=κ (l++[x]):=by
 intro l
 induction l with
 | nil=>intro κ; rfl
 | cons a l ih=>intro κ; exact ih _
theorem rU (f:MapEntry→MapEntry):∀(l:List MapEntry) (j:Nat) (e:MapEntry) (κ:List MapEntry→Prop),l[j]? = some e→setAt f j l κ=κ (l.set j (f e)):=by
 intro l
 induction l with
 | nil=>intro j e κ h; simp at h
 | cons a l ih=>
  intro j e κ h
  cases j with
  | zero=>rw[List.getElem?_cons_zero] at h; cases h; rfl
  | succ j=>rw[List.getElem?_cons_succ] at h; exact ih j e _ h
theorem v_:∀(l:List MapEntry) (j:Nat) (κ:List MapEntry→Prop),zB j l κ=κ (l.eraseIdx j):=by
 intro l
 induction l with
 | nil=>intro j κ; cases j<;>rfl
 | cons a l ih=>
  intro j κ
  cases j with
  | zero=>rfl
  | succ j=>exact ih j _
theorem EF (h:Heap) (t r:Int):∀(M:List HE) (i:Nat),(gG Tryz.prog h 36 (dn t r) (M.map kQ) i=some none∧∀e∈M,¬(t=e.t∧r=e.r))∨
  ∃(j:Nat) (e:HE),gG Tryz.prog h 36 (dn t r) (M.map kQ) i=some (some (i+j,kQ e))∧M[j]? = some e∧t=e.t∧r=e.r:=by
 intro M
 induction M with
 | nil=>intro i; exact .inl ⟨rfl,fun e he=>nomatch he⟩
 | cons e M ih=>
  intro i
  have hf:gG Tryz.prog h 36 (dn t r) ((e::M).map kQ) i=(match (some (decide (t=e.t∧r=e.r)):Option Bool) with | some true=>some (some (i,kQ e)) | some false=>gG Tryz.prog h 36 (dn t r) (M.map kQ) (Nat.succ i) | none=>none):=by
   rw[←eqN h]; rfl
  rw[hf]
  by_cases h1:t=e.t∧r=e.r
  ·rw[a_ h1]
   exact .inr ⟨0,e,rfl,rfl,h1.1,h1.2⟩
  ·rw[aN h1]
   rcases ih (Nat.succ i) with ⟨g1,g2⟩ | ⟨j,e',g1,g2,g3,g4⟩
   ·exact .inl ⟨g1,fun x hx=>by rcases List.mem_cons.1 hx with rfl | hx; exact h1; exact g2 x hx⟩
   ·exact .inr ⟨j+1,e',by rw[show i+(j+1)=Nat.succ i+j by omega]; exact g1,g2,g3,g4⟩
theorem Aj {β:Type} {fl:β} {M:List HE} {clock:Nat} {h:Heap} {bm:Nat} (g:h.bl.get bm=some (.map (M.map kQ) clock)) (t r:Int) (hn:∀e∈M,¬(t=e.t∧r=e.r)) (κ:Value→Heap→β) :
  dG fl Tryz.prog 36 (.pointer none) true (.map (some bm)) (dn t r) h κ=κ (.tuple ⟨[.pointer none,.bool false]⟩) h:=by
 unfold dG jY
 rw[NQ]
 simp only[g]
 rcases EF h t r M 0 with ⟨g1,_⟩ | ⟨j,e,_,g2,g3,g4⟩
 ·rw[g1]
 ·exact absurd (And.intro g3 g4) (hn e (List.mem_of_getElem? g2))
theorem fL.uniq {M:List HE} {clock:Nat} (o:fL M clock) {e e':HE} (h:e∈M) (h':e'∈M) (ht:e.t=e'.t) (hr:e.r=e'.r):e=e':=by
 have:∀(L:List HE),(L.Pairwise fun a b=>¬(a.t=b.t∧a.r=b.r))→e∈L→e'∈L→e=e':=by
  intro L
  induction L with
  | nil=>intro _ h; nomatch h
  | cons a L ih=>
   intro hp h1 h2
   rw[List.pairwise_cons] at hp
   rcases List.mem_cons.1 h1 with rfl | k1<;>rcases List.mem_cons.1 h2 with rfl | k2
   ·rfl
   ·exact absurd ⟨ht,hr⟩ (hp.1 _ k2)
   ·exact absurd ⟨ht.symm,hr.symm⟩ (hp.1 _ k1)
   ·exact ih hp.2 k1 k2
 exact this M o.nm h h'
theorem EG {β:Type} {fl:β} {M:List HE} {clock:Nat} {h:Heap} {bm:Nat} (o:fL M clock) (g:h.bl.get bm=some (.map (M.map kQ) clock)) {e:HE} (he:e∈M) (κ:Value→Heap→β) :
  dG fl Tryz.prog 36 (.pointer none) true (.map (some bm)) (dn e.t e.r) h κ=κ (.tuple ⟨[.pointer (some ⟨e.hb,0,none⟩),.bool true]⟩) h:=by
 unfold dG jY
 rw[NQ]
 simp only[g]
 rcases EF h e.t e.r M 0 with ⟨g1,g2⟩ | ⟨j,e',g1,g2,g3,g4⟩
 ·exact absurd ⟨rfl,rfl⟩ (g2 e he)
 ·rw[g1]
  rw[o.uniq he (List.mem_of_getElem? g2) g3 g4]; rfl
theorem erase_filter {M:List HE} (hn:M.Pairwise fun a b=>¬(a.t=b.t∧a.r=b.r)) {j:Nat} {e:HE} (hj:M[j]? = some e):M.eraseIdx j=M.filter fun x=>!tQ e.t e.r x:=by
 induction M generalizing j with
 | nil=>simp at hj
 | cons a M ih=>
  rw[List.pairwise_cons] at hn
  cases j with
  | zero=>
   rw[List.getElem?_cons_zero] at hj; cases hj
   rw[List.eraseIdx_cons_zero,List.filter_cons_of_neg (by simp[tQ])]
   exact (List.filter_eq_self.2 fun x hx=>qJ.2 (hn.1 x hx)).symm
  | succ j=>
   rw[List.getElem?_cons_succ] at hj
   have:=hn.1 e (List.mem_of_getElem? hj)
   rw[List.eraseIdx_cons_succ,List.filter_cons_of_pos (p:=fun x=>!tQ e.t e.r x) (qJ.2 fun ⟨h1,h2⟩=>this ⟨h1.symm,h2.symm⟩),ih hn.2 hj]
theorem Jp {α:Type} {R:α→α→Prop} (hs:∀{a b},R a b→R b a) {L L':List α} (hp:L.Perm L') (h:L.Pairwise R):L'.Pairwise R:=(hp.pairwise_iff hs).1 h
theorem fL.put {M M':List HE} {clock clock':Nat} (o:fL M clock) (hc:clock≤clock') {e:HE} (hp:M'.Perm (M.filter (fun x=>!tQ e.t e.r x)++[e])) (hb:∀x∈M,¬(e.t=x.t∧e.r=x.r)→x.born≠e.born) (hlt:e.born<clock'):fL M' clock':=by
 have hm:∀x∈M.filter (fun x=>!tQ e.t e.r x),x∈M∧¬(e.t=x.t∧e.r=x.r):=fun x hx=>by
  rw[List.mem_filter] at hx
  exact ⟨hx.1,qJ.1 hx.2⟩
 refine ⟨Jp (fun h=>fun ⟨a,b⟩=>h ⟨a.symm,b.symm⟩) hp.symm (sg (o.nm.filter _) fun x hx=>fun ⟨a,b⟩=>(hm x hx).2 ⟨a.symm,b.symm⟩),Jp (fun h=>h.symm) hp.symm (sg (o.bn.filter _) fun x hx=>hb x (hm x hx).1 (hm x hx).2),fun x hx=>?_⟩
 rcases List.mem_append.1 (hp.mem_iff.1 hx) with h | h
 ·exact Nat.lt_of_lt_of_le (o.lt x (hm x h).1) hc
 ·rw[List.mem_singleton] at h; subst h; exact hlt
theorem W7 {M:List HE} {clock:Nat} {h:Heap} {bm:Nat} (o:fL M clock) (g:h.bl.get bm=some (.map (M.map kQ) clock)) (hlo:h.lo≤bm) (t r:Int) (hb:Nat) (q:Value) (w:Int) (Q:List R5) (κ:KQ)
  (hk:∀M' clock' born,fL M' clock'→M'.Perm (M.filter (fun x=>!tQ t r x)++[⟨t,r,hb,born,q,w,Q⟩])→κ undef ⟨h.nx,h.bl.aY bm (.map (M'.map kQ) clock'),h.lo⟩) :
  cI False Tryz.prog 36 (.map (some bm)) (dn t r) (.pointer (some ⟨hb,0,none⟩)) h κ:=by
 unfold cI
 rw[NQ]
 simp only[g]
 rcases EF h t r M 0 with ⟨g1,g2⟩ | ⟨j,e,g1,g2,g3,g4⟩
 ·rw[g1]
  simp only
  rw[oG]
  simp only[bS]
  rw[bU _ _ _ _ hlo]
  have Cs:(M++[(⟨t,r,hb,clock,q,w,Q⟩:HE)]).Perm (M.filter (fun x=>!tQ t r x)++[⟨t,r,hb,clock,q,w,Q⟩]):=by
   rw[List.filter_eq_self.2 fun x hx=>qJ.2 (g2 x hx)]
  have:=hk (M++[⟨t,r,hb,clock,q,w,Q⟩]) (clock+1) clock (o.put (e:=⟨t,r,hb,clock,q,w,Q⟩) (Nat.le_succ _) Cs (fun x hx _=>Nat.ne_of_lt (o.lt x hx)) (Nat.lt_succ_self _)) Cs
  rw[List.map_append] at this
  exact this
 ·rw[g1]
  simp only[kQ,g3,g4,af5]
  rw[Nat.zero_add,rU _ _ j (kQ e) _ (by rw[List.getElem?_map,g2]; rfl),bU _ _ _ _ hlo]
  subst g3 g4
  have Cs:(M.set j (⟨e.t,e.r,hb,e.born,q,w,Q⟩:HE)).Perm (M.filter (fun x=>!tQ e.t e.r x)++[⟨e.t,e.r,hb,e.born,q,w,Q⟩]):=by
   rw[←erase_filter o.nm g2]
   obtain ⟨hj,_⟩:=List.getElem?_eq_some_iff.1 g2
   rw[List.set_eq_take_append_cons_drop,if_pos hj,List.eraseIdx_eq_take_drop_succ]
   exact (List.perm_middle).trans (List.perm_append_singleton _ _).symm
  have hne:∀x∈M,¬(e.t=x.t∧e.r=x.r)→x.born≠e.born:=fun x hx hn zL=>by
   have:∀(L:List HE),(L.Pairwise fun a b=>a.born≠b.born)→e∈L→x∈L→e=x:=by
    intro L
    induction L with
    | nil=>intro _ h; nomatch h
    | cons a L ih=>
     intro hp h1 h2
     rw[List.pairwise_cons] at hp
     rcases List.mem_cons.1 h1 with rfl | k1<;>rcases List.mem_cons.1 h2 with rfl | k2
     ·rfl
     ·exact absurd zL.symm (hp.1 _ k2)
     ·exact absurd zL (hp.1 _ k1)
     ·exact ih hp.2 k1 k2
   have:=this M o.bn (List.mem_of_getElem? g2) hx
   subst this
   exact hn ⟨rfl,rfl⟩
  have:=hk (M.set j ⟨e.t,e.r,hb,e.born,q,w,Q⟩) clock e.born (o.put (e:=⟨e.t,e.r,hb,e.born,q,w,Q⟩) (Nat.le_refl _) Cs hne (o.lt e (List.mem_of_getElem? g2))) Cs
  rw[List.map_set] at this
  exact this
theorem Kw {α β:Type} (f:α→β):∀(l:List α) (j:Nat),(l.eraseIdx j).map f=(l.map f).eraseIdx j:=by
 intro l
 induction l with
 | nil=>intro j; rfl
 | cons a l ih=>
  intro j
  cases j with
  | zero=>rfl
  | succ j=>simp[ih j]
theorem W8 {M:List HE} {clock:Nat} {h:Heap} {bm:Nat} (o:fL M clock) (g:h.bl.get bm=some (.map (M.map kQ) clock)) (hlo:h.lo≤bm) (t r:Int) (κ:KQ)
  (hk:∀h',h'=⟨h.nx,h.bl.aY bm (.map ((M.filter (fun x=>!tQ t r x)).map kQ) clock),h.lo⟩∨(h'=h∧M.filter (fun x=>!tQ t r x)=M)→κ (.tuple ⟨[]⟩) h') :
  lq False Tryz.prog 36 (.map (some bm)) (dn t r) h κ:=by
 unfold lq
 rw[NQ]
 simp only[g]
 rcases EF h t r M 0 with ⟨g1,g2⟩ | ⟨j,e,g1,g2,g3,g4⟩
 ·rw[g1]
  exact hk h (.inr ⟨rfl,List.filter_eq_self.2 fun x hx=>qJ.2 (g2 x hx)⟩)
 ·rw[g1]
  simp only
  rw[Nat.zero_add,v_,bU _ _ _ _ hlo]
  subst g3 g4
  refine hk _ (.inl ?_)
  rw[←erase_filter o.nm g2,Kw]
theorem fL.filter {M:List HE} {clock:Nat} (o:fL M clock) (p:HE→Bool):fL (M.filter p) clock:=⟨o.nm.filter _,o.bn.filter _,fun e he=>o.lt e (List.mem_filter.1 he).1⟩
def B7 (M:List HE) (seen:List Nat):Nat:=M.countP fun e=>!seen.any (Nat.beq e.born)
theorem Kx {α:Type} {p q:α→Bool}:∀(L:List α),(∀x∈L,q x=true→p x=true)→(∃x∈L,p x=true∧q x=false)→L.countP q<L.countP p:=by
 intro L
 induction L with
 | nil=>rintro _ ⟨x,hx,_⟩; nomatch hx
 | cons a L ih=>
  intro h hx
  have hle:L.countP q≤L.countP p:=List.countP_mono_left fun x hx=>h x (.tail _ hx)
  rw[List.countP_cons,List.countP_cons]
  by_cases ha:p a=true∧q a=false
  ·rw[ha.1,ha.2]; simp; omega
  ·have ht:∃x∈L,p x=true∧q x=false:=by
    obtain ⟨x,hx,h1⟩:=hx
    rcases List.mem_cons.1 hx with rfl | hx
    ·exact absurd h1 ha
    ·exact ⟨x,hx,h1⟩
   have:=ih (fun x hx=>h x (.tail _ hx)) ht
   have ha2:=h a (.head _)
   cases hq:q a with
   | false=>simp; omega
   | true=>rw[ha2 hq]; simp; omega
theorem tT {M:List HE} {seen:List Nat} {e:HE} (he:e∈M) (hn:seen.any (Nat.beq e.born)=false):B7 M (e.born::seen)<B7 M seen:=by
 refine Kx M (fun x _ h=>?_) ⟨e,he,by rw[hn]; rfl,by simp⟩
 rw[List.any_cons,Bool.not_or,Bool.and_eq_true] at h
 exact h.2
theorem GJ {b m since:Nat} {seen:List Nat} {clock:Nat} {h:Heap} {κ:Value→Heap→Prop} (hlo:h.lo≤b):∀(es:List MapEntry) (e:MapEntry),(∀x∈e::es,x.born<since)→(∀x∈e::es,κ (.tuple ⟨[.bool true,x.key,x.val]⟩) ⟨h.nx,h.bl.aY b (.dY (some m) since (x.born::seen) clock),h.lo⟩)→lu False And b m since seen clock h κ e es:=by
 intro es
 induction es with
 | nil=>
  intro e hb hk
  unfold lu
  rw[Nat.ble_eq_true_of_le (show Nat.succ e.born≤since from hb e (.head _))]
  simp only
  rw[bU _ _ _ _ hlo]
  exact hk e (.head _)
 | cons a es ih=>
  intro e hb hk
  unfold lu
  rw[Nat.ble_eq_true_of_le (show Nat.succ e.born≤since from hb e (.head _))]
  simp only
  rw[bU _ _ _ _ hlo]
  exact ⟨hk e (.head _),ih a (fun x hx=>hb x (.tail _ hx)) fun x hx=>hk x (.tail _ hx)⟩
theorem NR {M:List HE} {clock b bm:Nat} {seen:List Nat} {h:Heap} (o:fL M clock) (hb:h.bl.get b=some (.dY (some bm) clock seen clock)) (g:h.bl.get bm=some (.map (M.map kQ) clock)) (hlo:h.lo≤b) (κ:KQ)
  (ig:(∀e∈M,seen.any (Nat.beq e.born)=true)→κ (.tuple ⟨[.bool false]⟩) h)
  (iJ:∀e∈M,seen.any (Nat.beq e.born)=false→κ (.tuple ⟨[.bool true,dn e.t e.r,.pointer (some ⟨e.hb,0,none⟩)]⟩) ⟨h.nx,h.bl.aY b (.dY (some bm) clock (e.born::seen) clock),h.lo⟩) :
  qz False And (.pointer (some ⟨b,0,none⟩)) h κ:=by
 unfold qz
 simp only[hb,g]
 have e1:(!seen.isEmpty && !(M.map kQ).isEmpty && (M.map kQ).all (fun e=>Nat.ble clock e.born))=false:=by
  cases M with
  | nil=>simp
  | cons e M=>
   have:Nat.ble clock (kQ e).born=false:=by
    have:=o.lt e (.head _)
    cases hc:Nat.ble clock (kQ e).born with
    | false=>rfl
    | true=>have:=Nat.le_of_ble_eq_true hc; simp only[kQ] at this; omega
   rw[List.map_cons,List.all_cons,this]; simp
 rw[e1]
 simp only
 rw[List.filter_map]
 have hmem:∀x,x∈(M.filter ((fun e:MapEntry=>!seen.any (Nat.beq e.born)) ∘ kQ)).map kQ→∃e∈M,seen.any (Nat.beq e.born)=false∧x=kQ e:=by
  intro x hx
  obtain ⟨e,he,rfl⟩:=List.mem_map.1 hx
  rw[List.mem_filter] at he
  exact ⟨e,he.1,by have:=he.2; simpa[kQ] using this,rfl⟩
 split
 ·rename_i hnil
  refine ig fun e he=>?_
  cases hs:seen.any (Nat.beq e.born) with
  | true=>rfl
  | false=>
   have:kQ e∈(M.filter ((fun e:MapEntry=>!seen.any (Nat.beq e.born)) ∘ kQ)).map kQ:=List.mem_map.2 ⟨e,List.mem_filter.2 ⟨he,by simp only[Function.comp,kQ,hs]; rfl⟩,rfl⟩
   rw[hnil] at this
   nomatch this
 ·rename_i e es heq
  rw[heq] at hmem
  refine GJ hlo es e (fun x hx=>?_) fun x hx=>?_
  ·obtain ⟨y,hy,_,rfl⟩:=hmem x hx
   exact o.lt y hy
  ·obtain ⟨y,hy,h1,rfl⟩:=hmem x hx
   exact iJ y hy h1
theorem Jq {β:Type} {fl:β} {M:List HE} {clock b bm:Nat} {seen:List Nat} {h:Heap} (o:fL M clock) {e:HE} (he:e∈M) (hb:h.bl.get b=some (.dY (some bm) clock (e.born::seen) clock)) (g:h.bl.get bm=some (.map (M.map kQ) clock)) (κ:Value→Heap→β) :
  ng fl (.pointer (some ⟨b,0,none⟩)) h κ=κ (.tuple ⟨[dn e.t e.r,.pointer (some ⟨e.hb,0,none⟩)]⟩) h:=by
 unfold ng
 simp only[hb,g]
 have e1:Nat.beq clock clock=true:=Nat.beq_refl _
 rw[e1]
 simp only
 have:(M.map kQ).find? (fun x=>Nat.beq x.born e.born)=some (kQ e):=by
  have key:∀(L:List HE),(L.Pairwise fun a b=>a.born≠b.born)→e∈L→(L.map kQ).find? (fun x=>Nat.beq x.born e.born)=some (kQ e):=by
   intro L
   induction L with
   | nil=>intro _ h; nomatch h
   | cons a L ih=>
    intro hp h1
    rw[List.pairwise_cons] at hp
    rw[List.map_cons,List.find?_cons]
    rcases List.mem_cons.1 h1 with rfl | k1
    ·have:Nat.beq (kQ e).born e.born=true:=Nat.beq_refl _
     rw[this]
    ·have:Nat.beq (kQ a).born e.born=false:=by
      cases hc:Nat.beq (kQ a).born e.born with
      | false=>rfl
      | true=>exact absurd (Nat.eq_of_beq_eq_true hc) (hp.1 e k1)
     rw[this]
     exact ih hp.2 k1
  exact key M o.bn he
 rw[this]
 rfl
theorem EH {β:Type} {fl:β} {bm clock:Nat} {es:List MapEntry} {h:Heap} (g:h.bl.get bm=some (.map es clock)) (κ:Value→Heap→β) :
  m_ fl (.map (some bm)) h κ=κ (.pointer (some ⟨h.nx,0,none⟩)) ⟨h.nx+1,h.bl.aY h.nx (.dY (some bm) clock [] clock),h.lo⟩:=by
 unfold m_
 simp only[g,dV]
structure mg (h:Heap) (e:HE):Prop where
 lt:e.hb<h.nx
 get:h.bl.get e.hb=some (eo e.t e.r e.q e.w)
 qv:QV h e.q e.Q
structure kR (e:HE):Prop where
 ne:e.Q≠[]
 vq:VQ e.Q e.w
 stuck:oQ e.Q
 small:e.Q.length≤128
structure bh (h:Heap) (bb bm bp bl:Nat) (most:Nat) (M:List HE) (clock:Nat) (F:List Int) (B:List Bool):Prop where
 Lv:bb<h.nx
 tU:bm<h.nx
 PM:h.lo≤bm
 gN:h.bl.get bb=some (aa [.int .i64 (most:Int),.pointer (some ⟨bp,0,none⟩),.map (some bm)] 220 false)
 fM:h.bl.get bm=some (.map (M.map kQ) clock)
 ok:fL M clock
 aF:∀e∈M,mg h e
 good:∀e∈M,kR e
 bX:dR h bp bl F B
 ne:bp≠bl
theorem mg.le {h h':Heap} {e:HE} (a:mg h e) (l:Le h h'):mg h' e:=⟨Nat.lt_of_lt_of_le a.lt l.nx,(l.get _ a.lt).trans a.get,a.qv.le l⟩
theorem dR.le {h h':Heap} {bp bl:Nat} {F:List Int} {B:List Bool} (p:dR h bp bl F B) (l:Le h h'):dR h' bp bl F B:=by
 have ln:=l.nx
 have ll:=l.lo
 have pl:=p.lt
 have fl:=p.fr.lt
 obtain ⟨fs,hg,hpt⟩:=p.fr.cell
 refine ⟨⟨by omega,by rw[ll]; exact p.fr.lo,fs,(l.get _ fl).trans hg,?_⟩,by omega,by rw[ll]; exact p.lo,(l.get _ pl).trans p.cell,p.ok,p.small⟩
 rcases hpt with e | ⟨b,G,e,k1,k2,k3,k4⟩
 ·exact .inl e
 ·exact .inr ⟨b,G,e,by omega,by omega,(l.get _ k1).trans k3,k4⟩
theorem bh.le {h h':Heap} {bb bm bp bl most:Nat} {M:List HE} {clock:Nat} {F:List Int} {B:List Bool} (s:bh h bb bm bp bl most M clock F B) (l:Le h h'):bh h' bb bm bp bl most M clock F B:=
 ⟨Nat.lt_of_lt_of_le s.Lv l.nx,Nat.lt_of_lt_of_le s.tU l.nx,by rw[l.lo]; exact s.PM,(l.get _ s.Lv).trans s.gN,(l.get _ s.tU).trans s.fM,s.ok,fun e he=>(s.aF e he).le l,s.good,s.bX.le l,s.ne⟩
theorem af6 (h:Heap) (b o:Nat):lT Tryz.prog h 100 182 (.pointer (some ⟨b,o,none⟩)) (.pointer none)=some false:=by kernel_rfl
theorem iW {β:Type} {fl:β} (cn:Bool) (b o:Nat) (h:Heap) (κ:Value→Heap→β):au fl Tryz.prog .eql 182 cn false (.pointer (some ⟨b,o,none⟩)) (.pointer none) h κ=κ (.bool false) h:=by simp only[au,af6,bV]
theorem af7 (h:Heap) (b o:Nat):lT Tryz.prog h 100 228 (.pointer (some ⟨b,o,none⟩)) (.pointer none)=some false:=by kernel_rfl
theorem xX {β:Type} {fl:β} (cn:Bool) (b o:Nat) (h:Heap) (κ:Value→Heap→β):au fl Tryz.prog .eql 228 cn false (.pointer (some ⟨b,o,none⟩)) (.pointer none) h κ=κ (.bool false) h:=by simp only[au,af7,bV]
theorem af8 (h:Heap):lT Tryz.prog h 100 228 (.pointer none) (.pointer none)=some true:=by kernel_rfl
theorem sD {β:Type} {fl:β} (cn:Bool) (h:Heap) (κ:Value→Heap→β):au fl Tryz.prog .eql 228 cn false (.pointer none) (.pointer none) h κ=κ (.bool true) h:=by simp only[au,af8,bV]
theorem W9 (bb:Nat) (h:Heap) (κ:KQ) (hk:κ (.int .i64 5) h):CallW Tryz.prog 244 [.pointer (some ⟨bb,0,none⟩)] h κ:=by
 refine an mixed ?_
 rw[Wc]
 simp(disch:=first|omega|simp only[Wd]<;>omega|rfl)only[Wz,iW]
 exact hk
theorem fL.Ak {M:List HE} {clock:Nat} (o:fL M clock) {e e':HE} (h:e∈M) (h':e'∈M) (hb:e.born=e'.born):e=e':=by
 have:∀(L:List HE),(L.Pairwise fun a b=>a.born≠b.born)→e∈L→e'∈L→e=e':=by
  intro L
  induction L with
  | nil=>intro _ h; nomatch h
  | cons a L ih=>
   intro hp h1 h2
   rw[List.pairwise_cons] at hp
   rcases List.mem_cons.1 h1 with rfl | k1<;>rcases List.mem_cons.1 h2 with rfl | k2
   ·rfl
   ·exact absurd hb (hp.1 _ k2)
   ·exact absurd hb.symm (hp.1 _ k1)
   ·exact ih hp.2 k1 k2
 exact this M o.bn h h'
theorem W_ {h:Heap} {bb bm bp bl most:Nat} {M:List HE} {clock:Nat} {F:List Int} {B:List Bool} (s:bh h bb bm bp bl most M clock F B) (hlo:h.lo≤h.nx) (id:Int) (κ:KQ)
  (ig:∀h',(∀e∈M,bJ e.Q id=none)→Le h h'→κ (.pointer none) h')
  (iJ:∀h' e p,e∈M→bJ e.Q id=some p→Le h h'→κ (.pointer (some ⟨e.hb,0,none⟩)) h') :
  CallW Tryz.prog 243 [.pointer (some ⟨bb,0,none⟩),.int .i64 id] h κ:=by
 refine an mixed ?_
 rw[Nj]
 have g:=s.gN
 have gm:=s.fM
 simp(disch:=first|omega|simp only[Wd]<;>omega|rfl)only[Wz,iW,D_,aJ,g,EH gm]
 obtain ⟨hA,eA⟩:∃hA:Heap,hA=⟨h.nx+1,h.bl.aY h.nx (.dY (some bm) clock [] clock),h.lo⟩:=⟨_,rfl⟩
 rw[←eA]
 have leA:Le h hA:=by rw[eA]; exact (Le.refl h).new _
 have nA:hA.nx=h.nx+1:=by rw[eA]
 have lA:hA.lo=h.lo:=by rw[eA]
 have gA:hA.bl.get h.nx=some (.dY (some bm) clock [] clock):=by rw[eA]; exact T.af _ _ _
 refine ⟨fun m l h1=>∃seen,m=B7 M seen∧h.nx<h1.nx∧Le h h1∧h1.bl.get h.nx=some (.dY (some bm) clock seen clock)∧∀e∈M,seen.any (Nat.beq e.born)=true→bJ e.Q id=none,⟨_,[],rfl,by omega,leA,gA,fun e _ he=>by simp at he⟩,?_⟩
 rintro m l h1 ⟨seen,rfl,n1,bA,g1,hs⟩
 have gm1:=(bA.get _ s.tU).trans gm
 have l1:=bA.lo
 have n1':=bA.nx
 refine NR s.ok g1 gm1 (by omega) _ ?_ ?_
 ·intro hall
  simp(disch:=first|omega|simp only[Wd]<;>omega|rfl)only[Wz]
  exact ig h1 (fun e he=>hs e he (hall e he)) bA
 ·intro e he PA
  have H:=s.aF e he
  have hlt:=H.lt
  have bt:Le h ⟨h1.nx,h1.bl.aY h.nx (.dY (some bm) clock (e.born::seen) clock),h1.lo⟩:=bA.set (by omega) _
  obtain ⟨h2,e2⟩:∃h2:Heap,h2=⟨h1.nx,h1.bl.aY h.nx (.dY (some bm) clock (e.born::seen) clock),h1.lo⟩:=⟨_,rfl⟩
  rw[←e2] at bt ⊢
  have n2:h2.nx=h1.nx:=by rw[e2]
  have g2:h2.bl.get h.nx=some (.dY (some bm) clock (e.born::seen) clock):=by rw[e2]; exact T.af _ _ _
  have gm2:=(bt.get _ s.tU).trans gm
  have l2:=bt.lo
  obtain ⟨qx,qc,eq,_⟩:=(show Sl bq h e.q e.Q from H.qv.1)
  have gh:=(bt.get _ hlt).trans H.get
  rw[eq] at gh
  simp(disch:=first|omega|simp only[Wd]<;>omega|rfl)only[Wz,D9,Jq s.ok he g2 gm2,aJ,gh]
  refine Jl e.t e.r _ e.w id e.Q h2 _ (by rw[←eq]; exact H.qv.1.le bt) (by have:=(s.good e he).small; omega) (by omega) ?_
  intro h3 c9
  have n3:=c9.nx
  have l3:=c9.lo
  have g3:=(c9.get h.nx (by omega)).trans g2
  have lg:=bt.trans c9
  cases hf:bJ e.Q id with
  | none=>
   simp(disch:=first|omega|simp only[Wd]<;>omega|rfl)only[Wz,bq]
   refine ⟨_,?_,e.born::seen,rfl,?_,lg.new _,?_,?_⟩
   ·exact tT he PA
   ·show h.nx<h3.nx+1; omega
   ·exact g3
   ·intro x hx hxs
    rw[List.any_cons,Bool.or_eq_true] at hxs
    rcases hxs with hb | hb
    ·rw[s.ok.Ak hx he (Nat.eq_of_beq_eq_true hb)]; exact hf
    ·exact hs x hx hb
  | some p=>
   simp(disch:=first|omega|simp only[Wd]<;>omega|rfl)only[Wz,bq]
   exact iJ _ e p he hf (lg.new _)
structure qK (bm bp bl:Nat) (h h':Heap):Prop where
 nx:h.nx≤h'.nx
 lo:h'.lo=h.lo
 get:∀c,c<h.nx→c≠bm→c≠bp→c≠bl→(∀vs,h.bl.get c≠some (aa vs 3 true))→h'.bl.get c=h.bl.get c
 g2:bp<h.nx→∀c,c<h.nx→c≠bm→c≠bp→c≠bl→¬FB h bp c→h'.bl.get c=h.bl.get c
 mv:bp<h.nx→∀c,c<h.nx→FB h' bp c→FB h bp c
theorem qK.trans {bm bp bl:Nat} {h h' h'':Heap} (a:qK bm bp bl h h') (b:qK bm bp bl h' h''):qK bm bp bl h h'':=
 ⟨Nat.le_trans a.nx b.nx,b.lo.trans a.lo,fun c hc hm hn hl hi=>(b.get c (Nat.lt_of_lt_of_le hc a.nx) hm hn hl (fun vs=>by rw[a.get c hc hm hn hl hi]; exact hi vs)).trans (a.get c hc hm hn hl hi),
  fun hb c hc hm hn hl hi=>(b.g2 (Nat.lt_of_lt_of_le hb a.nx) c (Nat.lt_of_lt_of_le hc a.nx) hm hn hl fun x=>hi (a.mv hb c hc x)).trans (a.g2 hb c hc hm hn hl hi),
  fun hb c hc x=>a.mv hb c hc (b.mv (Nat.lt_of_lt_of_le hb a.nx) c (Nat.lt_of_lt_of_le hc a.nx) x)⟩
theorem qK.of_le {bm bp bl:Nat} {h h':Heap} (l:Le h h'):qK bm bp bl h h':=⟨l.nx,l.lo,fun c hc _ _ _ _=>l.get c hc,fun _ c hc _ _ _ _=>l.get c hc,fun hb c _ x=>(FB.congr (l.get bp hb)).1 x⟩
theorem qK.abC {bm bp bl:Nat} {h h':Heap} (f:Jo bp bl h h'):qK bm bp bl h h':=⟨f.nx,f.lo,fun c hc _ hn hl hi=>f.get c hc hn hl hi,fun hb c hc _ hn hl hi=>f.g2 hb c hc hn hl hi,f.mv⟩
theorem qK.of_map {bm bp bl:Nat} (h:Heap) {es:List MapEntry} {cl:Nat}:qK bm bp bl h ⟨h.nx,h.bl.aY bm (.map es cl),h.lo⟩:=by
 refine ⟨Nat.le_refl _,rfl,fun c _ hm _ _ _=>T.ai _ _ (fun e=>hm e.symm),fun _ c _ hm _ _ _=>T.ai _ _ (fun e=>hm e.symm),fun _ c _ hx=>?_⟩
 by_cases e:bm=bp
 ·subst e
  obtain ⟨n,cap,ls,hx⟩:=hx
  exact absurd ((T.af _ _ _).symm.trans hx) bE
 ·exact (FB.congr (T.ai _ _ e)).1 hx
theorem bh.put {h:Heap} {bb bm bp bl most:Nat} {M M':List HE} {clock clock':Nat} {F:List Int} {B:List Bool} (s:bh h bb bm bp bl most M clock F B) (o:fL M' clock')
  (hh:∀e∈M',mg h e) (hg:∀e∈M',kR e):bh ⟨h.nx,h.bl.aY bm (.map (M'.map kQ) clock'),h.lo⟩ bb bm bp bl most M' clock' F B:=by
 have gm:=s.fM
 have ne:∀c,(h.bl.get c≠some (.map (M.map kQ) clock))→(h.bl.aY bm (.map (M'.map kQ) clock')).get c=h.bl.get c:=fun c hc=>T.ai _ _ (by rintro rfl; exact hc gm)
 have nc:∀{vs ty op},(some (aa vs ty op):Option bQ)≠some (.map (M.map kQ) clock):=fun h=>bE h.symm
 obtain ⟨fs,sZ,hpt⟩:=s.bX.fr.cell
 have k1:(h.bl.aY bm (.map (M'.map kQ) clock')).get bb=h.bl.get bb:=ne bb (by rw[s.gN]; exact nc)
 have k2:(h.bl.aY bm (.map (M'.map kQ) clock')).get bp=h.bl.get bp:=ne bp (by rw[sZ]; exact nc)
 have k3:(h.bl.aY bm (.map (M'.map kQ) clock')).get bl=h.bl.get bl:=ne bl (by rw[s.bX.cell]; exact nc)
 refine ⟨s.Lv,s.tU,s.PM,k1.trans s.gN,T.af _ _ _,o,fun e he=>?_,hg,⟨⟨s.bX.fr.lt,s.bX.fr.lo,fs,k2.trans sZ,?_⟩,s.bX.lt,s.bX.lo,k3.trans s.bX.cell,s.bX.ok,s.bX.small⟩,s.ne⟩
 ·have a:=hh e he
  exact ⟨a.lt,(ne _ (by rw[a.get]; exact nc)).trans a.get,a.qv.put (fun vs op=>by rw[gm]; exact bE) _⟩
 ·rcases hpt with e | ⟨b,G,e,h1,h2,h3,h4⟩
  ·exact .inl e
  ·exact .inr ⟨b,G,e,h1,h2,(ne b (by rw[h3]; exact nc)).trans h3,h4⟩
theorem NS {Q:List R5} {W:Int} (v:VQ Q W) (n:Nat):(cw n Q).1.length=Q.length:=by
 have:=congrArg List.length (vo n v).2.1
 simpa using this
structure e_ (M M':List HE) (t r w:Int) (Q:List R5):Prop where
 gone:Q=[]→M'=M.filter fun x=>!tQ t r x
 put:Q≠[]→∃e,e.t=t∧e.r=r∧e.w=w∧e.Q=Q∧M'.Perm (M.filter (fun x=>!tQ t r x)++[e])
theorem xY {h:Heap} {bb bm bp bl most:Nat} {M:List HE} {clock:Nat} {F:List Int} {B:List Bool} (s:bh h bb bm bp bl most M clock F B) (hlo:h.lo≤h.nx) (t r:Int) (q:Value) (w:Int) (Q:List R5) (κ:KQ)
  (hq:Sl bq h q Q) (vq:VQ Q w) (hlen:Q.length≤128)
  (hk:∀M' clock' v' h',bh h' bb bm bp bl most M' clock' F B→e_ M M' t r w (cw (dO Q+1) Q).1→jM h h' v' (cw (dO Q+1) Q).2→qK bm bp bl h h'→κ v' h') :
  CallW Tryz.prog 247 [.pointer (some ⟨bb,0,none⟩),ef t r q w] h κ:=by
 obtain ⟨qx,qc,rfl,_⟩:=(show Sl bq h q Q from hq)
 refine an mixed ?_
 rw[Wf]
 simp(disch:=first|omega|simp only[Wd]<;>omega|with_unfolding_all rfl)only[Wz,ef]
 obtain ⟨hA,az⟩:∃hA:Heap,hA=⟨h.nx+1,(h.bl.aY (h.nx) (eo t r (.slice qx Q.length qc) w)),h.lo⟩:=⟨_,rfl⟩
 have aK:Le h hA:=by subst az; exact ((Le.refl h).new _)
 have g1:hA.bl.get (h.nx)=some (eo t r (.slice qx Q.length qc) w):=by subst az; exact T.af _ _ _
 have d_:hA.nx=h.nx+1:=by subst az; rfl
 have ee:hA.lo=h.lo:=by subst az; rfl
 rw[←az]
 clear az
 refine WV t r _ w Q hA _ (hq.le aK) (by omega) (by omega) vq ?_
 intro q2 v2 h2 uv mo bt
 obtain ⟨vq2,hkey,hst,hgr⟩:=vo (dO Q+1) vq
 have Lt:=NS vq (dO Q+1)
 generalize hQ2:(cw (dO Q+1) Q).1=Q2 at *
 generalize hI2:(cw (dO Q+1) Q).2=I2 at *
 obtain ⟨fu,fD,rfl,_⟩:=(show Sl bq h2 q2 Q2 from uv.1)
 have n2:=bt.nx
 have l2:=bt.lo
 have g1:=(bt.get _ (by omega)).trans g1
 have af_:=hst (Nat.lt_succ_self _)
 simp(disch:=first|omega|simp only[Wd]<;>omega|with_unfolding_all rfl)only[Wz,ef,g1]
 obtain ⟨h3,e3⟩:∃h3:Heap,h3=⟨h2.nx,h2.bl.aY h.nx (eo t r (.slice fu Q2.length fD) w),h2.lo⟩:=⟨_,rfl⟩
 have c9:Le h h3:=by rw[e3]; exact (aK.trans bt).set (by omega) _
 have g3:h3.bl.get h.nx=some (eo t r (.slice fu Q2.length fD) w):=by rw[e3]; exact T.af _ _ _
 have n3:h3.nx=h2.nx:=by rw[e3]
 have l3:h3.lo=h2.lo:=by rw[e3]
 have hq3:QV h3 (.slice fu Q2.length fD) Q2:=by rw[e3]; exact uv.put (fun vs op=>by rw[g1]; exact aL (by decide)) _
 have og:jM h h3 v2 I2:=by
  rw[e3]
  exact dh.put (dh.base mo (by omega)) (by rw[g1]; exact aS) _
 rw[←e3]
 clear e3
 have s3:=s.le c9
 have gb:=s3.gN
 have gm:=s3.fM
 refine ⟨fun l h'=>κ v2 h',?_,fun l h' hk'=>hk'⟩
 by_cases h0:Q2=[]
 ·subst h0
  simp(disch:=first|omega|simp only[Wd]<;>omega|with_unfolding_all rfl)only[Wz,xA,g3,Eb,aJ,gb]
  refine W8 s3.ok gm (by have:=s3.PM; omega) t r _ ?_
  intro h4 hc
  have k_:e_ M (M.filter fun x=>!tQ t r x) t r w []:=⟨fun _=>rfl,fun hn=>absurd rfl hn⟩
  rcases hc with rfl | ⟨rfl,hM⟩
  ·exact hk _ clock v2 _ (s3.put (s3.ok.filter _) (fun e he=>s3.aF e (List.mem_filter.1 he).1) fun e he=>s3.good e (List.mem_filter.1 he).1) k_ (dh.put og (by rw[gm]; exact bE) _) ((qK.of_le c9).trans (qK.of_map _))
  ·rw[hM] at k_
   exact hk _ clock v2 _ s3 k_ og (qK.of_le c9)
 ·have hpos:0<Q2.length:=List.length_pos_iff.2 h0
  simp(disch:=first|omega|simp only[Wd]<;>omega|with_unfolding_all rfl)only[Wz,xA,g3,aN (show ¬(Q2.length:Int)=0 by omega),Ec,aJ,gb]
  refine W7 s3.ok gm (by have:=s3.PM; omega) t r h.nx (.slice fu Q2.length fD) w Q2 _ ?_
  intro M' clock' born o' hp
  have hsub:∀x∈M',x∈M∨x=⟨t,r,h.nx,born,.slice fu Q2.length fD,w,Q2⟩:=fun x hx=>by
   rcases List.mem_append.1 (hp.mem_iff.1 hx) with hx | hx
   ·exact .inl (List.mem_filter.1 hx).1
   ·exact .inr (List.mem_singleton.1 hx)
  refine hk M' clock' v2 _ (s3.put o' (fun e he=>?_) fun e he=>?_) ⟨fun hn=>absurd hn h0,fun _=>⟨_,rfl,rfl,rfl,rfl,hp⟩⟩ (dh.put og (by rw[gm]; exact bE) _) ((qK.of_le c9).trans (qK.of_map _))
  ·rcases hsub e he with h1 | rfl
   ·exact s3.aF e h1
   ·exact ⟨by show h.nx<h3.nx; omega,g3,hq3⟩
  ·rcases hsub e he with h1 | rfl
   ·exact s3.good e h1
   ·exact ⟨h0,vq2,af_,by show Q2.length≤128; omega⟩
theorem Q9 (x:Int) (r:R5) (b:Nat) (h:Heap) (κ:KQ) (hlo:h.lo≤h.nx) (hb:b<h.nx) (hg:h.bl.get b=some (aa [.int .i64 x] 3 false)) (hk:∀h',Le h h'→κ (.bool (decide (r.x=x))) h') :
  CallW Tryz.prog 290 [jI r,ptrTo b] h κ:=by
 have hk:=hk _ ((Le.refl h).new (ic r))
 refine an mixed ?_
 rw[Wp]
 simp(disch:=first|omega|simp only[Wd]<;>omega|rfl)only[Wz,bq,hg]
 exact hk
theorem EI {h:Heap} {bb bm bp bl most:Nat} {M:List HE} {clock:Nat} {F:List Int} {B:List Bool} (s:bh h bb bm bp bl most M clock F B) (hlo:h.lo≤h.nx) (t r x:Int) (κ:KQ)
  (ig:∀h',(∀e∈M,t=e.t→r=e.r→∀p∈e.Q,p.x≠x)→Le h h'→κ (.tuple ⟨[.int .i64 0,.bool false]⟩) h')
  (iJ:∀h' e p,e∈M→t=e.t→r=e.r→p∈e.Q→p.x=x→Le h h'→κ (.tuple ⟨[.int .i64 p.id,.bool true]⟩) h') :
  CallW Tryz.prog 250 [.pointer (some ⟨bb,0,none⟩),dn t r,.int .i64 x] h κ:=by
 refine an mixed ?_
 rw[Wg]
 simp(disch:=first|omega|simp only[Wd]<;>omega|rfl)only[Wz,dn]
 obtain ⟨hA,az⟩:∃hA:Heap,hA=⟨h.nx+1+1,((h.bl.aY (h.nx) (aa [.int .i64 t,.int .i64 r] 36 false)).aY (h.nx+1) (aa [.int .i64 x] 3 false)),h.lo⟩:=⟨_,rfl⟩
 have aK:Le h hA:=by subst az; exact (((Le.refl h).new _).new _)
 have g1:hA.bl.get (h.nx)=some (aa [.int .i64 t,.int .i64 r] 36 false):=by subst az; exact (T.ai _ _ (by omega)).trans (T.af _ _ _)
 have g3:hA.bl.get (h.nx+1)=some (aa [.int .i64 x] 3 false):=by subst az; exact T.af _ _ _
 have d_:hA.nx=h.nx+1+1:=by subst az; rfl
 have ee:hA.lo=h.lo:=by subst az; rfl
 rw[←az]
 clear az
 have sA:=s.le aK
 have gb:=sA.gN
 have gm:=sA.fM
 by_cases hc:∃e∈M,t=e.t∧r=e.r
 case neg=>
  have hn:∀e∈M,¬(t=e.t∧r=e.r):=fun e he h=>hc ⟨e,he,h⟩
  have eL:=Aj (β:=Option Value) (fl:=none) gm t r hn
  unfold dn at eL
  simp(disch:=first|omega|simp only[Wd]<;>omega|rfl)only[Wz,iW,xB,aJ,gb,g1,eL]
  exact ig _ (fun e he h1 h2=>absurd ⟨h1,h2⟩ (hn e he)) aK
 obtain ⟨e,he,rfl,rfl⟩:=hc
 have eL:=EG (β:=Option Value) (fl:=none) sA.ok gm he
 unfold dn at eL
 have H:=sA.aF e he
 have hlt:=H.lt
 have gd:=sA.good e he
 have Cv:=gd.small
 obtain ⟨qx,qc,eq,_⟩:=(show Sl bq hA e.q e.Q from H.qv.1)
 have gh:=H.get
 rw[eq] at gh
 simp(disch:=first|omega|simp only[Wd]<;>omega|rfl)only[Wz,iW,xB,aJ,gb,g1,eL,Ee,gh]
 rw[←eq]
 refine xL e.Q (fun p=>decide (p.x=x)) hA _ _ _ H.qv.1 (by omega) ?_ ?_
 ·intro p _ h1 κ1 l1 iJ
  simp(disch:=first|omega|simp only[Wd]<;>omega|rfl)only[Wz,List.nil_append,List.cons_append]
  refine Q9 x p (h.nx+1) h1 κ1 (by have:=l1.lo; have:=l1.nx; omega) (by have:=l1.nx; omega) ((l1.get _ (by omega)).trans g3) iJ
 intro h2 bt
 have gh2:=(bt.get _ hlt).trans gh
 have eN:=aK.trans bt
 rcases jh e.Q (fun p=>decide (p.x=x)) with ⟨ei,hf⟩ | ⟨i,p,ei,hp,h1,h2⟩
 ·rw[ei]
  simp(disch:=first|omega|simp only[Wd]<;>omega|rfl)only[Wz,dN]
  exact ig h2 (fun e' he' h1 h2 p hp=>by rw[sA.ok.uniq he' he h1.symm h2.symm] at hp; have:=hf p hp; simpa using this) eN
 ·rw[ei]
  obtain ⟨b,o,hb,Jr,_,hid,_⟩:=xM (H.qv.1.le bt) i hp
  rw[eq] at Jr
  simp(disch:=first|omega|simp only[Wd]<;>omega|rfl)only[Wz,dN,bP (show (0:Int)≤(i:Int) by omega),Ed,aJ,gh2,Jr,hid]
  exact iJ _ e p he rfl rfl (List.mem_of_getElem? hp) (by simpa using h1) eN
end Go.Proofs
