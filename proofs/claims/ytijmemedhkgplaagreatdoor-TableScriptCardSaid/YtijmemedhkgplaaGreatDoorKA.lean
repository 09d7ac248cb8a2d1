/-
  PROVED HERE: a part of the proof (K0, K1, K2, K3, K4, K5, K6, K7, K8).
-/
import Derived.Test.YtijmemedhkgplaaGreatDoorV4
import Derived.Test.YtijmemedhkgplaaGreatDoorRZ
import Derived.Test.YtijmemedhkgplaaGreatDoorV5
set_option linter.unusedVariables false
set_option linter.unusedSimpArgs false
set_option maxRecDepth 100000
namespace Go.Proofs
open Go.Vai Go.Clashes
theorem mixed:Tryz.prog.follows .mixedOrders=true:=by kernel_rfl
def dz (t r:Int):Value:=.agg ⟨[.int .i64 t,.int .i64 r]⟩
theorem aaE:∀i,i<7→∀j,j<7→bK Tryz.prog 200 189 [.int .i64 (.ofNat i),.int .i64 (.ofNat j)] (.bool (cmp (.ofNat i) (.ofNat j)))=true:=by decide +kernel
theorem aaF (n:Nat) (b:Int):bK Tryz.prog 200 189 [.int .i64 (.negSucc n),.int .i64 b] (.bool false)=true:=by kernel_rfl
theorem aaG (n:Nat) (b:Int):bK Tryz.prog 200 189 [.int .i64 (.ofNat (n+7)),.int .i64 b] (.bool false)=true:=by kernel_rfl
theorem aaH:∀i,i<7→∀n:Nat,bK Tryz.prog 200 189 [.int .i64 (.ofNat i),.int .i64 (.negSucc n)] (.bool false)=true:=by
 refine seven ?_ ?_ ?_ ?_ ?_ ?_ ?_<;>intro n<;>kernel_rfl
theorem aaI:∀i,i<7→∀n:Nat,bK Tryz.prog 200 189 [.int .i64 (.ofNat i),.int .i64 (.ofNat (n+7))] (.bool false)=true:=by
 refine seven ?_ ?_ ?_ ?_ ?_ ?_ ?_<;>intro n<;>kernel_rfl
theorem Nv (a b:Int) {h:Heap} {κ:Value→Heap→Prop} (hk:κ (.bool (cmp a b)) h):CallW Tryz.prog 189 [.int .i64 a,.int .i64 b] h κ:=
 qm mixed (F:=fun a b=>.bool (cmp a b)) aaE (fun n b=>by rw[Di (oZ n)]; exact aaF n b) (fun n b=>by rw[Di (o9 n)]; exact aaG n b) (fun i hi n=>by rw[HJ (oZ n)]; exact aaH i hi n) (fun i hi n=>by rw[HJ (o9 n)]; exact aaI i hi n) a b hk
theorem aaJ:∀i,i<7→∀j,j<7→bK Tryz.prog 200 194 [.int .i64 (.ofNat i),.int .i64 (.ofNat j)] (.int .i64 (e8 (.ofNat i) (.ofNat j)))=true:=by decide +kernel
theorem aaK (n:Nat) (b:Int):bK Tryz.prog 200 194 [.int .i64 (.negSucc n),.int .i64 b] (.int .i64 0)=true:=by kernel_rfl
theorem aaL (n:Nat) (b:Int):bK Tryz.prog 200 194 [.int .i64 (.ofNat (n+7)),.int .i64 b] (.int .i64 0)=true:=by kernel_rfl
theorem aaM:∀i,i<7→∀n:Nat,bK Tryz.prog 200 194 [.int .i64 (.ofNat i),.int .i64 (.negSucc n)] (.int .i64 0)=true:=by
 refine seven ?_ ?_ ?_ ?_ ?_ ?_ ?_<;>intro n<;>kernel_rfl
theorem aaN:∀i,i<7→∀n:Nat,bK Tryz.prog 200 194 [.int .i64 (.ofNat i),.int .i64 (.ofNat (n+7))] (.int .i64 0)=true:=by
 refine seven ?_ ?_ ?_ ?_ ?_ ?_ ?_<;>intro n<;>kernel_rfl
theorem aaO (a b:Int) {h:Heap} {κ:Value→Heap→Prop} (hk:κ (.int .i64 (e8 a b)) h):CallW Tryz.prog 194 [.int .i64 a,.int .i64 b] h κ:=
 qm mixed (F:=fun a b=>.int .i64 (e8 a b)) aaJ (fun n b=>by rw[Be (oZ n)]; exact aaK n b) (fun n b=>by rw[Be (o9 n)]; exact aaL n b) (fun i hi n=>by rw[Bf (oZ n)]; exact aaM i hi n) (fun i hi n=>by rw[Bf (o9 n)]; exact aaN i hi n) a b hk
theorem vS (a:Int) {h:Heap} {κ:Value→Heap→Prop} (hk:κ (.bool (kn a)) h):CallW Tryz.prog 96 [.int .i64 a] h κ:=by
 refine fo (v:=.bool (kn a)) rfl rfl (aq mixed ?_) hk
 rw[aaw]
 by_cases h1:a<0
 ·simp(disch:=first|omega|simp only[Wd]<;>omega|with_unfolding_all rfl)only[Wz]; simp[kn]; omega
 ·by_cases h2:6<a
  ·simp(disch:=first|omega|simp only[Wd]<;>omega|with_unfolding_all rfl)only[Wz]; simp[kn]; omega
  ·simp(disch:=first|omega|simp only[Wd]<;>omega|with_unfolding_all rfl)only[Wz]; simp[kn]; omega
theorem pg (a:Int) {h:Heap} {κ:Value→Heap→Prop} (hk:κ (.bool (kn a)) h):CallW Tryz.prog 69 [.int .i64 a] h κ:=by
 refine fo (v:=.bool (kn a)) rfl rfl (aq mixed ?_) hk
 rw[Z8]
 by_cases h1:a<0
 ·simp(disch:=first|omega|simp only[Wd]<;>omega|with_unfolding_all rfl)only[Wz]; simp[kn]; omega
 ·by_cases h2:6<a
  ·simp(disch:=first|omega|simp only[Wd]<;>omega|with_unfolding_all rfl)only[Wz]; simp[kn]; omega
  ·simp(disch:=first|omega|simp only[Wd]<;>omega|with_unfolding_all rfl)only[Wz]; simp[kn]; omega
abbrev ji (r:R5):Value:=.agg ⟨aW r⟩
noncomputable abbrev fq (r:R5):bU:=af [.int .i64 r.id,.int .i64 r.x,.int .i64 r.m,.int .i64 r.w,.int .i64 r.s] 54 false
def zR:List Value:=[.int .i64 0,.int .i64 0,.int .i64 0,.int .i64 0,.int .i64 0]
theorem afp:HH Tryz.prog 49:=⟨fun h n c n' c'=>by kernel_rfl,fun h a n c n' c'=>by kernel_rfl⟩
theorem Nw (a0 a1:Value) (h:Heap) (κ:KQ):aJ Tryz.prog 130 [a0,a1] h κ=iS Tryz.prog 3 5 a0 a1 h κ:=by kernel_rfl
theorem aaP (a0 a1:Value) (h:Heap) (κ:KQ):aJ Tryz.prog 137 [a0,a1] h κ=lq Tryz.prog 3 130 a0 a1 h κ:=by kernel_rfl
theorem aaQ (a0:Value) (h:Heap) (κ:KQ):aJ Tryz.prog 107 [a0] h κ=Bd Tryz.prog 49 54 5 zR a0 h κ:=by kernel_rfl
theorem aaR (a0 a1:Value) (h:Heap) (κ:KQ):aJ Tryz.prog 208 [a0,a1] h κ=kq Tryz.prog 3 130 54 5 zR a0 a1 h κ:=by kernel_rfl
theorem x_ (L:List R5) (F:R5→Bool) (h:Heap) (v fv:Value) (κ:KQ) (hv:Sl aW h v L) (hlen:L.length≤1000000)
  (hF:∀p,p∈L→∀(h1:Heap) (κ1:Value→Heap→Prop),Le h h1→(∀h2,Le h1 h2→κ1 (.bool (F p)) h2)→lg Tryz.prog fv [ji p] h1 κ1)
  (hk:∀h',Le h h'→κ (.int .i64 (dy (L.findIdx? F))) h'):CallW Tryz.prog 130 [v,fv] h κ:=
 ru mixed aX Nw L F h v fv κ hv hlen hF hk
theorem mj (L:List R5) (F:R5→Bool) (h:Heap) (v fv:Value) (κ:KQ) (hv:Sl aW h v L) (hlen:L.length≤1000000)
  (hF:∀p,p∈L→∀(h1:Heap) (κ1:Value→Heap→Prop),Le h h1→(∀h2,Le h1 h2→κ1 (.bool (F p)) h2)→lg Tryz.prog fv [ji p] h1 κ1)
  (hk:∀h',Le h h'→κ (.bool (L.any F)) h'):CallW Tryz.prog 137 [v,fv] h κ:=
 zm mixed aX Nw aaP L F h v fv κ hv hlen hF hk
abbrev iK (a h:Heap) (v:Value) (L:List R5):Prop:=cU aW a 54 h v L
theorem Eh (L:List R5) (h:Heap) (v:Value) (κ:KQ) (hv:Sl aW h v L) (hlen:L.length≤1000000) (hlo:h.lo≤h.nx) (hk:∀v' h',iK h h' v' L→Le h h'→κ v' h'):CallW Tryz.prog 107 [v] h κ:=
 Uh mixed aX jR (by decide) (by decide) afp aaQ L h v κ hv hlen hlo hk
theorem Ks (a h:Heap) (L:List R5) (F:R5→Bool) (v fv:Value) (κ:KQ) (hle:Le a h) (ho:iK a h v L) (hlen:L.length≤100000) (hlo:a.lo≤a.nx)
  (hF:∀p,∀(h1:Heap) (κ1:Value→Heap→Prop),Le a h1→(h.nx≤h1.nx∧∀c,c<h.nx→h.bl.get c≠some (af (L.flatMap aW) 54 true)→h1.bl.get c=h.bl.get c)→(∀h2,Le h1 h2→κ1 (.bool (F p)) h2)→lg Tryz.prog fv [ji p] h1 κ1)
  (hk:∀v' h',Sl aW h' v' (L.filter fun p=>!F p)→Cut 54 5 h' v' (L.filter fun p=>!F p).length→Le a h'→(h.nx≤h'.nx∧∀c,c<h.nx→h.bl.get c≠some (af (L.flatMap aW) 54 true)→h'.bl.get c=h.bl.get c)→uK 54 h' v'→κ v' h'):CallW Tryz.prog 208 [v,fv] h κ:=
 xm mixed aX jR (by decide) rfl rfl (by decide) Nw aaR a h L F v fv κ hle ho hlen hlo hF hk
theorem tf {h:Heap} {v:Value} {L:List R5} (hs:Sl aW h v L) (i:Nat) {p:R5} (hp:L[i]? = some p) :
  ∃b o,b<h.nx∧(∀(β:Type) (fl:β) (h':Heap) (κ:Value→Heap→β),an fl 5 v (.int .i64 (i:Int)) h' κ=κ (.pointer (some ⟨b,o,none⟩)) h')∧
   ((∀(β:Type) (fl:β) (κ:List Value→β),vm fl (h.bl.get b) o 5 κ=κ (aW p))∧
   (∀(β:Type) (fl:β) (κ:Value→β),qM fl (h.bl.get b) o κ=κ (.int .i64 p.id))∧
   (∀(β:Type) (fl:β) (κ:Value→β),qM fl (h.bl.get b) (o+1) κ=κ (.int .i64 p.x))∧
   (∀(β:Type) (fl:β) (κ:Value→β),qM fl (h.bl.get b) (o+2) κ=κ (.int .i64 p.m))∧
   (∀(β:Type) (fl:β) (κ:Value→β),qM fl (h.bl.get b) (o+3) κ=κ (.int .i64 p.w))∧
   (∀(β:Type) (fl:β) (κ:Value→β),qM fl (h.bl.get b) (o+4) κ=κ (.int .i64 p.s))):=by
 obtain ⟨b,o,h1,h2,h3,hh⟩:=hs.ld aX i hp
 have h5:(aW p).length=5:=rfl
 exact ⟨b,o,h1,h2,h3,fun β fl κ=>dD (fl:=fl) hh 0 κ (by omega),fun β fl κ=>dD (fl:=fl) hh 1 κ (by omega),fun β fl κ=>dD (fl:=fl) hh 2 κ (by omega),fun β fl κ=>dD (fl:=fl) hh 3 κ (by omega),fun β fl κ=>dD (fl:=fl) hh 4 κ (by omega)⟩
theorem vT (r:R5) {h:Heap} {κ:Value→Heap→Prop} (hk:κ (.bool (decide (r.m≠0))) h):CallW Tryz.prog 187 [ji r] h κ:=by
 refine fo (v:=.bool (decide (r.m≠0))) rfl rfl (aq mixed ?_) hk
 rw[V2]
 simp(disch:=first|omega|simp only[Wd]<;>omega|with_unfolding_all rfl)only[Wz,aW]
 simp
theorem vV (r:R5) {h:Heap} {κ:Value→Heap→Prop} (hk:κ (.bool (decide (0<r.s))) h):CallW Tryz.prog 193 [ji r] h κ:=by
 refine fo (v:=.bool (decide (0<r.s))) rfl rfl (aq mixed ?_) hk
 rw[V6]
 simp(disch:=first|omega|simp only[Wd]<;>omega|with_unfolding_all rfl)only[Wz,aW]
theorem ya (r:R5) {h:Heap} {κ:Value→Heap→Prop} (hk:κ (.bool (ku r)) h):CallW Tryz.prog 185 [ji r] h κ:=by
 refine fo (v:=.bool (ku r)) rfl rfl (aq mixed ?_) hk
 rw[V0]
 simp(disch:=first|omega|simp only[Wd]<;>omega|with_unfolding_all rfl)only[Wz,aW]
 refine vT r ?_
 by_cases h1:r.m=0
 ·simp(disch:=first|omega|simp only[Wd]<;>omega|with_unfolding_all rfl)only[Wz,aK (show ¬r.m≠0 by omega)]
  simp[ku,h1]
 ·simp(disch:=first|omega|simp only[Wd]<;>omega|with_unfolding_all rfl)only[Wz,aM (show r.m≠0 from h1)]
  refine vV r ?_
  simp[ku,h1]
theorem Ei (m:Int) {h:Heap} {κ:Value→Heap→Prop} (hk:κ (.bool (br m)) h):CallW Tryz.prog 136 [.int .i64 m] h κ:=by
 refine fo (v:=.bool (br m)) rfl rfl (aq mixed ?_) hk
 rw[Vv]
 by_cases h0:m=0
 ·simp(disch:=first|omega|simp only[Wd]<;>omega|with_unfolding_all rfl)only[Wz,aM h0]
  simp[br,h0]
 ·simp(disch:=first|omega|simp only[Wd]<;>omega|with_unfolding_all rfl)only[Wz,aK h0]
  refine vS m ?_
  simp[br,h0]
def cG (t r:Int) (q:Value) (w:Int):Value:=.agg ⟨[.int .i64 t,.int .i64 r,q,.int .i64 w]⟩
theorem jS {h:Heap} {q:Value} {Q:List R5} (hq:Sl aW h q Q):q.cells.toList=[q]∧ef q=true:=by
 obtain ⟨x,cap,rfl,_⟩:=hq; exact ⟨rfl,rfl⟩
theorem Nx (id:Int) (r:R5) (b:Nat) (h:Heap) (κ:KQ) (hlo:h.lo≤h.nx) (hb:b<h.nx) (hg:h.bl.get b=some (af [.int .i64 id] 3 false)) (hk:∀h',Le h h'→κ (.bool (aV id r)) h') :
  CallW Tryz.prog 207 [ji r,ptrTo b] h κ:=by
 have hk:=hk _ ((Le.refl h).new (fq r))
 refine aq mixed ?_
 rw[V_]
 simp(disch:=first|omega|simp only[Wd]<;>omega|with_unfolding_all rfl)only[Wz,aW,hg]
 exact hk
theorem pn (t r:Int) (q:Value) (w id:Int) (Q:List R5) (h:Heap) (κ:KQ) (hq:Sl aW h q Q) (hlen:Q.length≤1000000) (hlo:h.lo≤h.nx) (hk:∀h',Le h h'→κ (.int .i64 (dy (Q.findIdx? (aV id)))) h') :
  CallW Tryz.prog 169 [cG t r q w,.int .i64 id] h κ:=by
 obtain ⟨hc,ho⟩:=jS hq
 refine aq mixed ?_
 rw[VJ]
 simp(disch:=first|omega|simp only[Wd]<;>omega|with_unfolding_all rfl)only[Wz,cG]
 obtain ⟨hA,eA⟩:∃hA:Heap,hA=⟨h.nx+1+1,(h.bl.bf h.nx (af [.int .i64 t,.int .i64 r,q,.int .i64 w] 178 false)).bf (h.nx+1) (af [.int .i64 id] 3 false),h.lo⟩:=⟨_,rfl⟩
 have qy:Le h hA:=by subst eA; exact ((Le.refl h).new _).new _
 have g3:hA.bl.get (h.nx+1)=some (af [.int .i64 id] 3 false):=by subst eA; exact T.aa _ _ _
 have nA:hA.nx=h.nx+1+1:=by subst eA; rfl
 have lA:hA.lo=h.lo:=by subst eA; rfl
 rw[←eA]
 clear eA
 refine x_ Q (aV id) hA q _ _ (hq.le qy) hlen ?_ fun h' hl=>hk h' (qy.trans hl)
 intro p hp h1 κ1 vo fF
 have n1:=vo.nx
 have l1:=vo.lo
 simp(disch:=first|omega|simp only[Wd]<;>omega|with_unfolding_all rfl)only[Wz,List.nil_append,List.cons_append]
 exact Nx id p (h.nx+1) h1 κ1 (by omega) (by omega) ((vo.get _ (by omega)).trans g3) fF
def uM (r o:R5):Bool:=decide (o.id≠r.id) && decide (o.m≠0) && !cmp o.m r.w
theorem Q0 (r o:R5) (b:Nat) (h:Heap) (κ:KQ) (hlo:h.lo≤h.nx) (hb:b<h.nx) (hg:h.bl.get b=some (fq r)) (hk:∀h',Le h h'→κ (.bool (uM r o)) h') :
  CallW Tryz.prog 188 [ji o,ptrTo b] h κ:=by
 have hk:=hk _ ((Le.refl h).new (fq o))
 refine aq mixed ?_
 rw[V3]
 by_cases h1:o.id=r.id
 ·simp(disch:=first|omega|simp only[Wd]<;>omega|with_unfolding_all rfl)only[Wz,aW,hg,aM h1]
  have e:uM r o=false:=by simp[uM,h1]
  rw[e] at hk; exact hk
 ·simp(disch:=first|omega|simp only[Wd]<;>omega|with_unfolding_all rfl)only[Wz,aW,hg,aK h1]
  refine vT o ?_
  by_cases h2:o.m=0
  ·simp(disch:=first|omega|simp only[Wd]<;>omega|with_unfolding_all rfl)only[Wz,aK (show ¬o.m≠0 by omega)]
   have e:uM r o=false:=by simp[uM,h2]
   rw[e] at hk; exact hk
  ·simp(disch:=first|omega|simp only[Wd]<;>omega|with_unfolding_all rfl)only[Wz,aM (show o.m≠0 from h2),hg]
   refine Nv _ _ ?_
   simp(disch:=first|omega|simp only[Wd]<;>omega|with_unfolding_all rfl)only[Wz]
   have e:uM r o=!cmp o.m r.w:=by simp[uM,h1,h2]
   rw[e] at hk; exact hk
theorem BO (t r':Int) (q:Value) (w:Int) (r:R5) (Q:List R5) (h:Heap) (κ:KQ) (hq:Sl aW h q Q) (hlen:Q.length≤1000000) (hlo:h.lo≤h.nx) (hk:∀h',Le h h'→κ (.bool (cI Q r)) h') :
  CallW Tryz.prog 141 [cG t r' q w,ji r] h κ:=by
 obtain ⟨hc,ho⟩:=jS hq
 refine aq mixed ?_
 rw[Vz]
 simp(disch:=first|omega|simp only[Wd]<;>omega|with_unfolding_all rfl)only[Wz,cG,aW]
 obtain ⟨hA,eA⟩:∃hA:Heap,hA=⟨h.nx+1+1,(h.bl.bf h.nx (af [.int .i64 t,.int .i64 r',q,.int .i64 w] 178 false)).bf (h.nx+1) (fq r),h.lo⟩:=⟨_,rfl⟩
 have qy:Le h hA:=by subst eA; exact ((Le.refl h).new _).new _
 have g3:hA.bl.get (h.nx+1)=some (fq r):=by subst eA; exact T.aa _ _ _
 have nA:hA.nx=h.nx+1+1:=by subst eA; rfl
 have lA:hA.lo=h.lo:=by subst eA; rfl
 rw[←eA]
 clear eA
 refine mj Q (uM r) hA q _ _ (hq.le qy) hlen ?_ ?_
 ·intro p hp h1 κ1 vo fF
  have n1:=vo.nx
  have l1:=vo.lo
  simp(disch:=first|omega|simp only[Wd]<;>omega|with_unfolding_all rfl)only[Wz,List.nil_append,List.cons_append]
  exact Q0 r p (h.nx+1) h1 κ1 (by omega) (by omega) ((vo.get _ (by omega)).trans g3) fF
 ·intro h' hl
  simp(disch:=first|omega|simp only[Wd]<;>omega|with_unfolding_all rfl)only[Wz]
  exact hk h' (qy.trans hl)
theorem Ny (r:R5) {h:Heap} {κ:Value→Heap→Prop} (hk:κ (.bool (decide (r.m=0))) h):CallW Tryz.prog 186 [ji r] h κ:=by
 refine fo (v:=.bool (decide (r.m=0))) rfl rfl (aq mixed ?_) hk
 rw[V1]
 simp(disch:=first|omega|simp only[Wd]<;>omega|with_unfolding_all rfl)only[Wz,aW]
 refine vT r ?_
 simp(disch:=first|omega|simp only[Wd]<;>omega|with_unfolding_all rfl)only[Wz]
 simp
theorem Ej (t r':Int) (q:Value) (w:Int) (Q:List R5) (h:Heap) (κ:KQ) (hq:Sl aW h q Q) (hlen:Q.length≤1000000) (hlo:h.lo≤h.nx) (hk:∀h',Le h h'→κ (.int .i64 (dy (bX Q))) h') :
  CallW Tryz.prog 140 [cG t r' q w] h κ:=by
 obtain ⟨hc,ho⟩:=jS hq
 refine aq mixed ?_
 rw[Vy]
 simp(disch:=first|omega|simp only[Wd]<;>omega|with_unfolding_all rfl)only[Wz,cG]
 obtain ⟨hA,eA⟩:∃hA:Heap,hA=⟨h.nx+1,h.bl.bf h.nx (af [.int .i64 t,.int .i64 r',q,.int .i64 w] 178 false),h.lo⟩:=⟨_,rfl⟩
 have qy:Le h hA:=by subst eA; exact (Le.refl h).new _
 have gA:hA.bl.get h.nx=some (af [.int .i64 t,.int .i64 r',q,.int .i64 w] 178 false):=by subst eA; exact T.aa _ _ _
 have nA:hA.nx=h.nx+1:=by subst eA; rfl
 have lA:hA.lo=h.lo:=by subst eA; rfl
 rw[←eA]
 clear eA
 simp(disch:=first|omega|simp only[Wd]<;>omega|with_unfolding_all rfl)only[Wz,hq.len]
 refine ⟨fun n l h1=>∃i:Nat,slot l 27=.int .i64 (i:Int)∧slot l 25=.int .i64 (dy (best Q i))∧i≤Q.length∧n=Q.length-i∧Le hA h1,⟨_,0,rfl,rfl,Nat.zero_le _,rfl,Le.refl _⟩,?_⟩
 rintro n l h1 ⟨i,s1,s2,hi,rfl,hle⟩
 have n1:=hle.nx
 have l1:=hle.lo
 have g1:=(hle.get h.nx (by omega)).trans gA
 have hq1:=hq.le (qy.trans hle)
 by_cases hlt:i<Q.length
 ·obtain ⟨p,hp⟩:∃p,Q[i]? = some p:=⟨_,List.getElem?_eq_getElem hlt⟩
  obtain ⟨b,o,hb,dM,dg⟩:=tf hq1 i hp
  have qO:best Q (i+1)=if (ku p && iC Q p (best Q i))=true then some i else best Q i:=by
   show (match Q[i]? with | some r=>_ | none=>_)=_
   rw[hp]
  simp(disch:=first|omega|simp only[Wd]<;>omega|with_unfolding_all rfl)only[Wz,s1,xL]
  refine ⟨fun l' h'=>slot l' 24=.int .i64 (dy (best Q (i+1)))∧Le hA h',?_,?_⟩
  ·simp(disch:=first|omega|simp only[Wd]<;>omega|with_unfolding_all rfl)only[Wz,DM,s1,s2,dM,dg,aW]
   obtain ⟨hB,eB⟩:∃hB:Heap,hB=⟨h1.nx+1,h1.bl.bf h1.nx (fq p),h1.lo⟩:=⟨_,rfl⟩
   have nT:Le h1 hB:=by subst eB; exact (Le.refl h1).new _
   have gB:hB.bl.get h1.nx=some (fq p):=by subst eB; exact T.aa _ _ _
   have gB1:=(nT.get h.nx (by omega)).trans g1
   have nB:hB.nx=h1.nx+1:=by subst eB; rfl
   have lB:hB.lo=h1.lo:=by subst eB; rfl
   rw[←eB]
   clear eB
   refine ya p ?_
   cases hu:ku p with
   | false=>
    simp(disch:=first|omega|simp only[Wd]<;>omega|with_unfolding_all rfl)only[Wz,s2]
    refine ⟨?_,hle.trans nT⟩
    rw[qO,hu]; simp[s2]
   | true=>
    cases ni:best Q i with
    | none=>
     simp(disch:=first|omega|simp only[Wd]<;>omega|with_unfolding_all rfl)only[Wz,s2,dy,bZ (show (-1:Int)<0 by decide),ni]
     refine ⟨?_,hle.trans nT⟩
     rw[qO,hu,ni]; rfl
    | some k=>
     obtain ⟨PB,pk,hpk,_⟩:=jH Q i k ni
     obtain ⟨b',o',hb',Nz,NA⟩:=tf (hq1.le nT) k hpk
     have Ek:iC Q p (some k)=decide (p.s<pk.s):=by simp only[iC,hpk]
     simp(disch:=first|omega|simp only[Wd]<;>omega|with_unfolding_all rfl)only[Wz,s2,dy,bL (show (0:Int)≤(k:Int) by omega),ni,gB,gB1,Nz,NA]
     by_cases hs:p.s<pk.s
     ·simp(disch:=first|omega|simp only[Wd]<;>omega|with_unfolding_all rfl)only[Wz,aM hs]
      refine ⟨?_,hle.trans nT⟩
      rw[qO,hu,ni,Ek,aM hs]; rfl
     ·simp(disch:=first|omega|simp only[Wd]<;>omega|with_unfolding_all rfl)only[Wz,aK hs]
      refine ⟨?_,hle.trans nT⟩
      rw[qO,hu,ni,Ek,aK hs]
      first | rfl | (rw[s2,ni]; rfl)
  ·rintro l' h' ⟨k1,k2⟩
   exact ⟨_,by omega,i+1,rfl,k1,by omega,rfl,k2⟩
 ·have hil:i=Q.length:=by omega
  subst hil
  simp(disch:=first|omega|simp only[Wd]<;>omega|with_unfolding_all rfl)only[Wz,s1,xL]
  refine ⟨fun l' h'=>slot l' 6=.int .i64 (dy (bX Q))∧Le hA h',?_,?_⟩
  rotate_left
  ·rintro l' h' ⟨k1,k2⟩
   show κ (slot l' 6) h'
   rw[k1]; exact hk h' (qy.trans k2)
  cases ni:best Q Q.length with
  | some k=>
   have e:bX Q=some k:=by simp only[bX,ni]
   simp(disch:=first|omega|simp only[Wd]<;>omega|with_unfolding_all rfl)only[Wz,xK,s2,ni,dy,bL (show (0:Int)≤(k:Int) by omega)]
   refine ⟨?_,hle⟩
   rw[e]
  | none=>
   have e:bX Q=Q.findIdx? (fun r=>decide (r.m=0)):=by simp only[bX,ni]
   simp(disch:=first|omega|simp only[Wd]<;>omega|with_unfolding_all rfl)only[Wz,xK,s2,ni,dy,bZ (show (-1:Int)<0 by decide),g1]
   refine x_ Q (fun r=>decide (r.m=0)) h1 q _ _ hq1 hlen ?_ ?_
   ·intro p hp h2 κ2 LC hk2
    simp(disch:=first|omega|simp only[Wd]<;>omega|with_unfolding_all rfl)only[Wz,List.nil_append,List.append_nil]
    exact Ny p (hk2 h2 (Le.refl _))
   ·intro h' hl
    refine ⟨?_,hle.trans hl⟩
    rw[e]; rfl
theorem cU.base {α:Type} {enc:α→List Value} {a a' h:Heap} {e:TypeId} {v:Value} {L:List α} (ho:cU enc a e h v L) (hn:a'.nx≤a.nx):cU enc a' e h v L:=by
 rcases ho with ho | ⟨b,h0,h1,h2⟩
 ·exact .inl ho
 ·exact .inr ⟨b,h0,Nat.le_trans hn h1,h2⟩
theorem cU.same {α:Type} {enc:α→List Value} {a h h':Heap} {e:TypeId} {v:Value} {L:List α} (ho:cU enc a e h v L) (hn:h.nx≤h'.nx) (hl:h'.lo=h.lo) (hs:∀b,a.nx≤b→b<h.nx→h'.bl.get b=h.bl.get b):cU enc a e h' v L:=by
 rcases ho with ho | ⟨b,h0,h1,h2,h3,h4⟩
 ·exact .inl ho
 ·exact .inr ⟨b,h0,h1,Nat.lt_of_lt_of_le h2 hn,by rw[hl]; exact h3,by rw[hs b h1 h2]; exact h4⟩
theorem Ad (t r:Int) (q:Value) (w:Int) (Q:List R5) (h:Heap) (κ:KQ) (hq:Sl aW h q Q) (hlen:Q.length≤1000000) (hlo:h.lo≤h.nx) (hk:∀q' h',iK h h' q' Q→Le h h'→κ (cG t r q' w) h') :
  CallW Tryz.prog 139 [cG t r q w] h κ:=by
 obtain ⟨qx,qc,rfl,_⟩:=id hq
 refine aq mixed ?_
 rw[Vx]
 simp(disch:=first|omega|simp only[Wd]<;>omega|with_unfolding_all rfl)only[Wz,cG]
 obtain ⟨hA,eA⟩:∃hA:Heap,hA=⟨h.nx+1+1,(h.bl.bf h.nx (af [.int .i64 t,.int .i64 r,.slice qx Q.length qc,.int .i64 w] 51 false)).bf (h.nx+1) (af [.int .i64 0,.int .i64 0,.slice none 0 0,.int .i64 0] 178 false),h.lo⟩:=⟨_,rfl⟩
 have qy:Le h hA:=by subst eA; exact ((Le.refl h).new _).new _
 have g1:hA.bl.get h.nx=some (af [.int .i64 t,.int .i64 r,.slice qx Q.length qc,.int .i64 w] 51 false):=by subst eA; exact (T.aj _ _ (by omega)).trans (T.aa _ _ _)
 have g3:hA.bl.get (h.nx+1)=some (af [.int .i64 0,.int .i64 0,.slice none 0 0,.int .i64 0] 178 false):=by subst eA; exact T.aa _ _ _
 have nA:hA.nx=h.nx+1+1:=by subst eA; rfl
 have lA:hA.lo=h.lo:=by subst eA; rfl
 rw[←eA]
 clear eA
 refine Eh Q hA _ _ (hq.le qy) hlen (by omega) ?_
 intro q' h2 jv hle2
 have n2:=hle2.nx
 have l2:=hle2.lo
 have g12:=(hle2.get h.nx (by omega)).trans g1
 have g32:=(hle2.get (h.nx+1) (by omega)).trans g3
 have hle:=(qy.trans hle2)
 obtain ⟨Tc,Td,rfl,_⟩:=id jv.sl
 simp(disch:=first|omega|simp only[Wd]<;>omega|with_unfolding_all rfl)only[Wz,g12,g32]
 refine hk _ _ ?_ ?_
 ·refine cU.base (cU.same jv (Nat.le_refl _) rfl fun b h1 _=>?_) (by omega)
  exact (T.aj _ _ (by omega)).trans (T.aj _ _ (by omega))
 ·exact (hle.set (b:=h.nx) (Nat.le_refl _) _).set (b:=h.nx+1) (Nat.le_succ _) _
def pq (id x:Int) (r:R5):Bool:=decide (r.id=id) || decide (r.x=x)
theorem Wl (id x:Int) (r:R5) (b3 b5:Nat) (h:Heap) (κ:KQ) (hlo:h.lo≤h.nx) (P6:b3<h.nx) (hb5:b5<h.nx) (hg3:h.bl.get b3=some (af [.int .i64 id] 3 false)) (Q3:h.bl.get b5=some (af [.int .i64 x] 3 false))
  (hk:∀h',Le h h'→κ (.bool (pq id x r)) h'):CallW Tryz.prog 138 [ji r,ptrTo b3,ptrTo b5] h κ:=by
 have hk:=hk _ ((Le.refl h).new (fq r))
 refine aq mixed ?_
 rw[Vw]
 by_cases h1:r.id=id
 ·simp(disch:=first|omega|simp only[Wd]<;>omega|with_unfolding_all rfl)only[Wz,aW,hg3,Q3,aM h1]
  have e:pq id x r=true:=by simp[pq,h1]
  rw[e] at hk; exact hk
 ·simp(disch:=first|omega|simp only[Wd]<;>omega|with_unfolding_all rfl)only[Wz,aW,hg3,Q3,aK h1]
  have e:pq id x r=decide (r.x=x):=by simp[pq,h1]
  rw[e] at hk; exact hk
theorem cU.put {α:Type} {enc:α→List Value} {a h:Heap} {e:TypeId} {v:Value} {L:List α} (ho:cU enc a e h v L) {c:Nat} (hc:h.bl.get c≠some (af (L.flatMap enc) e true)) (o:bU):cU enc a e ⟨h.nx,h.bl.bf c o,h.lo⟩ v L:=by
 rcases ho with ho | ⟨b,h0,h1,h2,h3,h4⟩
 ·exact .inl ho
 ·refine .inr ⟨b,h0,h1,h2,h3,(T.aj _ _ ?_).trans h4⟩
  rintro rfl
  exact hc h4
theorem NB (t r:Int) (qx:Option Addr) (qc:Nat) (w:Int) (p:R5) (g:Bool) (yW Kq b7:Nat) (Q:List R5) (a h:Heap) (κ:KQ) (ho:iK a h (.slice qx Q.length qc) Q) (hle:Le a h) (hlen:Q.length≤100000) (hlo:h.lo≤h.nx)
  (afs:yW<h.nx) (akJ:Kq<h.nx) (hb7:b7<h.nx) (hd:yW≠b7) (akK:h.lo≤yW) (hl7:h.lo≤b7)
  (g29:h.bl.get yW=some (af [.int .i64 t,.int .i64 r,.slice qx Q.length qc,.int .i64 w] 178 false)) (Wm:h.bl.get Kq=some (fq p)) (g7:h.bl.get b7=some (af [.int .i64 0,.int .i64 0,.slice none 0 0,.int .i64 0] 51 false))
  (hk:∀q' h',iK a h' q' (Q++[p])→(h.nx≤h'.nx∧h'.lo=h.lo∧∀b,b<a.nx→b≠yW→b≠b7→h'.bl.get b=a.bl.get b)→κ (.tuple ⟨[cG t r q' w,.bool g,.int .i64 0]⟩) h') :
  vR yW Kq b7 (.bool g) h κ:=by
 simp(disch:=first|omega|simp only[Wd]<;>omega|with_unfolding_all rfl)only[Wz,vR,g29,Wm]
 have hle1:=(Le.refl h).new (fq p)
 refine cT (enc:=aW) (a:=a) (L:=Q) (M:=[p]) aX jR (by decide) (by decide) (ho.le hle1) (Sl.new (L:=[p]) (e:=54) (op:=false) (Nat.lt_succ_self _) (T.aa _ _ _) _) (hle.new _) (by simp; omega) (by show h.lo≤h.nx+1; omega) _ ?_
 intro v' h' ho' hle' wK hn2 hl' hsame
 obtain ⟨Tc,Td,rfl,_⟩:=(show Sl aW h' v' (Q++[p]) from ho'.sl)
 have n1:h.nx+1≤h'.nx:=hn2
 have k1:∀b,b<h.nx→h.bl.get b≠some (af (Q.flatMap aW) 54 true)→h'.bl.get b=h.bl.get b:=by
  intro b hb hne
  have e:(h.bl.bf h.nx (fq p)).get b=h.bl.get b:=T.aj _ _ (by omega)
  exact (hsame b (Nat.lt_succ_of_lt hb) (fun k=>hne (by rw[←e]; exact k))).trans e
 have aaT:=(k1 yW afs (by rw[g29]; exact aO)).trans g29
 have g7':=(k1 b7 hb7 (by rw[g7]; exact aO)).trans g7
 have LC:h'.lo=h.lo:=hl'
 simp(disch:=first|omega|simp only[Wd]<;>omega|with_unfolding_all rfl)only[Wz,aaT,g7']
 refine hk _ _ ?_ ⟨by show h.nx≤h'.nx; omega,LC,?_⟩
 ·refine cU.put (cU.put ho' (by rw[aaT]; exact aO) _) ?_ _
  show (h'.bl.bf yW _).get b7≠_
  rw[T.aj _ _ hd,g7']
  exact aO
 ·intro b hb h1 h2
  exact (T.aj _ _ (fun e=>h2 e.symm)).trans ((T.aj _ _ (fun e=>h1 e.symm)).trans (hle'.get b hb))
theorem aaU (t r:Int) (q:Value) (w id x m:Int) (Q:List R5) (h:Heap) (κ:KQ) (hq:Sl aW h q Q) (hlen:Q.length≤100000) (hlo:h.lo≤h.nx) (hw:0≤w∧w≤1000000) (hid:0≤id) (hm:br m=true) (hn:∀p∈Q,p.id≠id∧p.x≠x)
  (hk:∀q' h',iK h h' q' (Q++[(cv Q w id x m).1])→Le h h'→κ (.tuple ⟨[cG t r q' (cv Q w id x m).2.1,.bool (cv Q w id x m).2.2,.int .i64 0]⟩) h') :
  CallW Tryz.prog 98 [cG t r q w,.int .i64 id,.int .i64 x,.int .i64 m] h κ:=by
 obtain ⟨qx,qc,rfl,_⟩:=(show Sl aW h q Q from hq)
 refine aq mixed ?_
 rw[aay]
 simp(disch:=first|omega|simp only[Wd]<;>omega|with_unfolding_all rfl)only[Wz,cG]
 obtain ⟨hA,eA⟩:∃hA:Heap,hA=⟨h.nx+1+1+1+1,(((h.bl.bf h.nx (af [.int .i64 t,.int .i64 r,.slice qx Q.length qc,.int .i64 w] 51 false)).bf (h.nx+1) (af [.int .i64 id] 3 false)).bf (h.nx+1+1) (af [.int .i64 x] 3 false)).bf (h.nx+1+1+1) (af [.int .i64 0,.int .i64 0,.slice none 0 0,.int .i64 0] 51 false),h.lo⟩:=⟨_,rfl⟩
 have qy:Le h hA:=by subst eA; exact ((((Le.refl h).new _).new _).new _).new _
 have g1:hA.bl.get h.nx=some (af [.int .i64 t,.int .i64 r,.slice qx Q.length qc,.int .i64 w] 51 false):=by subst eA; exact (T.aj _ _ (by omega)).trans ((T.aj _ _ (by omega)).trans ((T.aj _ _ (by omega)).trans (T.aa _ _ _)))
 have g3:hA.bl.get (h.nx+1)=some (af [.int .i64 id] 3 false):=by subst eA; exact (T.aj _ _ (by omega)).trans ((T.aj _ _ (by omega)).trans (T.aa _ _ _))
 have g5:hA.bl.get (h.nx+1+1)=some (af [.int .i64 x] 3 false):=by subst eA; exact (T.aj _ _ (by omega)).trans (T.aa _ _ _)
 have g7:hA.bl.get (h.nx+1+1+1)=some (af [.int .i64 0,.int .i64 0,.slice none 0 0,.int .i64 0] 51 false):=by subst eA; exact T.aa _ _ _
 have nA:hA.nx=h.nx+1+1+1+1:=by subst eA; rfl
 have lA:hA.lo=h.lo:=by subst eA; rfl
 rw[←eA]
 clear eA
 refine Ei m ?_
 rw[hm]
 simp(disch:=first|omega|simp only[Wd]<;>omega|with_unfolding_all rfl)only[Wz,IY,g1,g3,g5]
 refine mj Q (pq id x) hA _ _ _ (hq.le qy) (by omega) ?_ ?_
 ·intro p hp h1 κ1 vo fF
  have n1:=vo.nx
  have l1:=vo.lo
  simp(disch:=first|omega|simp only[Wd]<;>omega|with_unfolding_all rfl)only[Wz,List.nil_append,List.cons_append]
  exact Wl id x p (h.nx+1) (h.nx+1+1) h1 κ1 (by omega) (by omega) (by omega) ((vo.get _ (by omega)).trans g3) ((vo.get _ (by omega)).trans g5) fF
 intro h2 hle2
 have n2:=hle2.nx
 have l2:=hle2.lo
 have hno:Q.any (pq id x)=false:=by
  rw[List.any_eq_false]
  intro p hp
  simp[pq,(hn p hp).1,(hn p hp).2]
 rw[hno]
 have g12:=(hle2.get h.nx (by omega)).trans g1
 have g32:=(hle2.get (h.nx+1) (by omega)).trans g3
 have g52:=(hle2.get (h.nx+1+1) (by omega)).trans g5
 have g72:=(hle2.get (h.nx+1+1+1) (by omega)).trans g7
 simp(disch:=first|omega|simp only[Wd]<;>omega|with_unfolding_all rfl)only[Wz,IX,g12]
 refine Ad t r _ w Q h2 _ (hq.le (qy.trans hle2)) (by omega) (by omega) ?_
 intro q3 h3 mH c_
 have n3:=c_.nx
 have l3:=c_.lo
 obtain ⟨vW,vX,rfl,_⟩:=(show Sl aW h3 q3 Q from mH.sl)
 have g33:=(c_.get (h.nx+1) (by omega)).trans g32
 have g53:=(c_.get (h.nx+1+1) (by omega)).trans g52
 have g73:=(c_.get (h.nx+1+1+1) (by omega)).trans g72
 simp(disch:=first|omega|simp only[Wd]<;>omega|with_unfolding_all rfl)only[Wz,cG,g33,g53]
 obtain ⟨hB,eB⟩:∃hB:Heap,hB=⟨h3.nx+1+1,(h3.bl.bf h3.nx (af [.int .i64 t,.int .i64 r,.slice vW Q.length vX,.int .i64 w] 178 false)).bf (h3.nx+1) (fq ⟨id,x,0,m,0⟩),h3.lo⟩:=⟨_,rfl⟩
 have nT:Le h3 hB:=by subst eB; exact ((Le.refl h3).new _).new _
 have g29:hB.bl.get h3.nx=some (af [.int .i64 t,.int .i64 r,.slice vW Q.length vX,.int .i64 w] 178 false):=by subst eB; exact (T.aj _ _ (by omega)).trans (T.aa _ _ _)
 have Wm:hB.bl.get (h3.nx+1)=some (fq ⟨id,x,0,m,0⟩):=by subst eB; exact T.aa _ _ _
 have g7B:=(nT.get (h.nx+1+1+1) (by omega)).trans g73
 have nB:hB.nx=h3.nx+1+1:=by subst eB; rfl
 have lB:hB.lo=h3.lo:=by subst eB; rfl
 rw[←eB]
 clear eB
 have yX:=mH.le nT
 refine Ej t r _ w Q hB _ yX.sl (by omega) (by omega) ?_
 intro h4 dV
 have n4:=dV.nx
 have l4:=dV.lo
 have hall:Le h h4:=(((qy.trans hle2).trans c_).trans nT).trans dV
 have Te:Le h2 h4:=(c_.trans nT).trans dV
 have Q4:=(dV.get h3.nx (by omega)).trans g29
 have Q5:=(dV.get (h3.nx+1) (by omega)).trans Wm
 have g74:=(dV.get (h.nx+1+1+1) (by omega)).trans g7B
 have Tf:=yX.le dV
 have fin:∀(p:R5) (w':Int) (g:Bool) (h5:Heap),cv Q w id x m=(p,w',g)→iK h2 h5 (.slice vW Q.length vX) Q→Le h h5→Le h2 h5→h4.nx≤h5.nx→
   h5.bl.get h3.nx=some (af [.int .i64 t,.int .i64 r,.slice vW Q.length vX,.int .i64 w'] 178 false)→h5.bl.get (h3.nx+1)=some (fq p)→h5.bl.get (h.nx+1+1+1)=some (af [.int .i64 0,.int .i64 0,.slice none 0 0,.int .i64 0] 51 false)→
   vR h3.nx (h3.nx+1) (h.nx+1+1+1) (.bool g) h5 κ:=by
  intro p w' g h5 he tV XR afu n5 k1 k2 k3
  have l5:=XR.lo
  refine NB t r vW vX w' p g _ _ _ Q h2 h5 κ tV afu (by omega) (by omega) (by omega) (by omega) (by omega) (by omega) (by omega) (by omega) k1 k2 k3 ?_
  intro q' h' ho' hfr
  obtain ⟨e1,e2,e3⟩:=hfr
  rw[he] at hk
  have nn:=XR.nx
  refine hk q' h' (cU.base ho' (by omega)) ⟨by omega,by rw[e2]; exact XR.lo,fun b hb=>?_⟩
  exact (e3 b (by omega) (by omega) (by omega)).trans ((qy.trans hle2).get b hb)
 have pz:=hall
 cases hf:bX Q with
 | some i=>
  simp(disch:=first|omega|simp only[Wd]<;>omega|with_unfolding_all rfl)only[Wz,dy,bL (show (0:Int)≤(i:Int) by omega)]
  obtain ⟨hC,eC⟩:∃hC:Heap,hC=⟨h4.nx,(h4.bl.bf h3.nx (af [.int .i64 t,.int .i64 r,.slice vW Q.length vX,.int .i64 (w+1)] 178 false)).bf (h3.nx+1) (fq ⟨id,x,0,m,w+1⟩),h4.lo⟩:=⟨_,rfl⟩
  refine ⟨fun l h'=>HQ hC h',?_,?_⟩
  ·simp(disch:=first|omega|simp only[Wd]<;>omega|with_unfolding_all rfl)only[Wz,BM,Q4,Q5]
   exact eC
  ·intro l h' tc
   cases (show hC=h' from tc)
   have nC:hC.nx=h4.nx:=by rw[eC]
   refine fin ⟨id,x,0,m,w+1⟩ (w+1) false hC ?_ ?_ ?_ ?_ (by omega) ?_ ?_ ?_
   ·unfold cv
    rw[if_neg]
    simp[hf]
   ·rw[eC]
    exact cU.put (cU.put Tf (by rw[Q4]; exact aO) _) (by show (h4.bl.bf h3.nx _).get (h3.nx+1)≠_; rw[T.aj _ _ (by omega),Q5]; exact aO) _
   ·rw[eC]; exact (pz.set (b:=h3.nx) (by omega) _).set (b:=h3.nx+1) (by omega) _
   ·rw[eC]; exact (Te.set (b:=h3.nx) (by omega) _).set (b:=h3.nx+1) (by omega) _
   ·rw[eC]; exact (T.aj _ _ (by omega)).trans (T.aa _ _ _)
   ·rw[eC]; exact T.aa _ _ _
   ·rw[eC]; exact ((T.aj _ _ (by omega)).trans (T.aj _ _ (by omega))).trans g74
 | none=>
  simp(disch:=first|omega|simp only[Wd]<;>omega|with_unfolding_all rfl)only[Wz,dy,bZ (show (-1:Int)<0 by decide),Q4,Q5]
  refine BO t r _ w ⟨id,x,0,m,0⟩ Q h4 _ Tf.sl (by omega) (by omega) ?_
  intro h5 iD
  have n5:=iD.nx
  have l5:=iD.lo
  have Wn:=(iD.get h3.nx (by omega)).trans Q4
  have Q7:=(iD.get (h3.nx+1) (by omega)).trans Q5
  have g75:=(iD.get (h.nx+1+1+1) (by omega)).trans g74
  have tV:=Tf.le iD
  have uN:=hall.trans iD
  have Tg:=Te.trans iD
  cases hfit:cI Q ⟨id,x,0,m,0⟩ with
  | false=>
   simp(disch:=first|omega|simp only[Wd]<;>omega|with_unfolding_all rfl)only[Wz]
   obtain ⟨hC,eC⟩:∃hC:Heap,hC=⟨h5.nx,(h5.bl.bf h3.nx (af [.int .i64 t,.int .i64 r,.slice vW Q.length vX,.int .i64 (w+1)] 178 false)).bf (h3.nx+1) (fq ⟨id,x,0,m,w+1⟩),h5.lo⟩:=⟨_,rfl⟩
   refine ⟨fun l h'=>HQ hC h',?_,?_⟩
   ·simp(disch:=first|omega|simp only[Wd]<;>omega|with_unfolding_all rfl)only[Wz,BM,Wn,Q7]
    exact eC
   ·intro l h' tc
    cases (show hC=h' from tc)
    have nC:hC.nx=h5.nx:=by rw[eC]
    refine fin ⟨id,x,0,m,w+1⟩ (w+1) false hC ?_ ?_ ?_ ?_ (by omega) ?_ ?_ ?_
    ·unfold cv
     rw[if_neg]
     simp[hf,hfit]
    ·rw[eC]
     exact cU.put (cU.put tV (by rw[Wn]; exact aO) _) (by show (h5.bl.bf h3.nx _).get (h3.nx+1)≠_; rw[T.aj _ _ (by omega),Q7]; exact aO) _
    ·rw[eC]; exact (uN.set (b:=h3.nx) (by omega) _).set (b:=h3.nx+1) (by omega) _
    ·rw[eC]; exact (Tg.set (b:=h3.nx) (by omega) _).set (b:=h3.nx+1) (by omega) _
    ·rw[eC]; exact (T.aj _ _ (by omega)).trans (T.aa _ _ _)
    ·rw[eC]; exact T.aa _ _ _
    ·rw[eC]; exact ((T.aj _ _ (by omega)).trans (T.aj _ _ (by omega))).trans g75
  | true=>
   simp(disch:=first|omega|simp only[Wd]<;>omega|with_unfolding_all rfl)only[Wz]
   obtain ⟨hC,eC⟩:∃hC:Heap,hC=⟨h5.nx,h5.bl.bf (h3.nx+1) (fq ⟨id,x,m,m,0⟩),h5.lo⟩:=⟨_,rfl⟩
   refine ⟨fun l h'=>HQ hC h',?_,?_⟩
   ·simp(disch:=first|omega|simp only[Wd]<;>omega|with_unfolding_all rfl)only[Wz,Q7]
    exact eC
   ·intro l h' tc
    cases (show hC=h' from tc)
    have nC:hC.nx=h5.nx:=by rw[eC]
    refine fin ⟨id,x,m,m,0⟩ w true hC ?_ ?_ ?_ ?_ (by omega) ?_ ?_ ?_
    ·unfold cv
     rw[if_pos]
     simp[hf,hfit]
    ·rw[eC]
     exact cU.put tV (by rw[Q7]; exact aO) _
    ·rw[eC]; exact uN.set (b:=h3.nx+1) (by omega) _
    ·rw[eC]; exact Tg.set (b:=h3.nx+1) (by omega) _
    ·rw[eC]; exact (T.aj _ _ (by omega)).trans Wn
    ·rw[eC]; exact T.aa _ _ _
    ·rw[eC]; exact (T.aj _ _ (by omega)).trans g75
noncomputable abbrev iE (t r:Int) (q:Value) (w:Int):bU:=af [.int .i64 t,.int .i64 r,q,.int .i64 w] 178 false
noncomputable abbrev cW (t r:Int) (q:Value) (w:Int):bU:=af [.int .i64 t,.int .i64 r,q,.int .i64 w] 51 false
noncomputable abbrev jq:bU:=af [.int .i64 0,.int .i64 0,.slice none 0 0,.int .i64 0] 51 false
theorem F_ (id:Int) (r:R5) (b:Nat) (h:Heap) (κ:KQ) (hlo:h.lo≤h.nx) (hb:b<h.nx) (hg:h.bl.get b=some (af [.int .i64 id] 3 false)) (hk:∀h',Le h h'→κ (.bool (aV id r)) h') :
  CallW Tryz.prog 209 [ji r,ptrTo b] h κ:=by
 have hk:=hk _ ((Le.refl h).new (fq r))
 refine aq mixed ?_
 rw[Wa]
 simp(disch:=first|omega|simp only[Wd]<;>omega|with_unfolding_all rfl)only[Wz,aW,hg]
 exact hk
theorem Ae (t r:Int) (q:Value) (w id:Int) (Q:List R5) (a h:Heap) (κ:KQ) (ho:iK a h q Q) (hle:Le a h) (hlen:Q.length≤100000) (hlo:a.lo≤a.nx)
  (hk:∀q' h',Sl aW h' q' (Q.filter fun r=>!aV id r)→uK 54 h' q'→Le a h'→κ (cG t r q' w) h') :
  CallW Tryz.prog 170 [cG t r q w,.int .i64 id] h κ:=by
 obtain ⟨qx,qc,rfl,_⟩:=(show Sl aW h q Q from ho.sl)
 have n_0:=hle.nx
 have l_0:=hle.lo
 refine aq mixed ?_
 rw[VK]
 simp(disch:=first|omega|simp only[Wd]<;>omega|with_unfolding_all rfl)only[Wz,cG]
 obtain ⟨hA,az⟩:∃hA:Heap,hA=⟨h.nx+1+1+1,(((h.bl.bf (h.nx) (iE t r (.slice qx Q.length qc) w)).bf (h.nx+1) (af [.int .i64 id] 3 false)).bf (h.nx+1+1) (jq)),h.lo⟩:=⟨_,rfl⟩
 have aH:Le h hA:=by subst az; exact ((((Le.refl h).new _).new _).new _)
 have g1:hA.bl.get (h.nx)=some (iE t r (.slice qx Q.length qc) w):=by subst az; exact (T.aj _ _ (by omega)).trans ((T.aj _ _ (by omega)).trans (T.aa _ _ _))
 have g3:hA.bl.get (h.nx+1)=some (af [.int .i64 id] 3 false):=by subst az; exact (T.aj _ _ (by omega)).trans (T.aa _ _ _)
 have g5:hA.bl.get (h.nx+1+1)=some (jq):=by subst az; exact T.aa _ _ _
 have dF:hA.nx=h.nx+1+1+1:=by subst az; rfl
 have dG:hA.lo=h.lo:=by subst az; rfl
 rw[←az]
 clear az
 refine Ks a hA Q (aV id) _ _ _ (hle.trans aH) (ho.le aH) hlen hlo ?_ ?_
 ·intro p h1 κ1 vo hfr fF
  have n1:=hfr.1
  have l1:=vo.lo
  have g3:=(hfr.2 (h.nx+1) (by omega) (by rw[g3]; exact aO)).trans g3
  simp(disch:=first|omega|simp only[Wd]<;>omega|with_unfolding_all rfl)only[Wz,List.nil_append,List.cons_append]
  exact F_ id p (h.nx+1) h1 κ1 (by omega) (by omega) g3 fF
 ·intro q' h2 hs2 _ hle2 hfr ht
  have n2:=hfr.1
  have l2:=hle2.lo
  have g1:=(hfr.2 h.nx (by omega) (by rw[g1]; exact aO)).trans g1
  have g5:=(hfr.2 (h.nx+1+1) (by omega) (by rw[g5]; exact aO)).trans g5
  obtain ⟨Tc,Td,rfl,_⟩:=(show Sl aW h2 q' _ from hs2)
  simp(disch:=first|omega|simp only[Wd]<;>omega|with_unfolding_all rfl)only[Wz,g1,g5]
  have XS:∀vs op,h2.bl.get h.nx≠some (af vs 54 op):=fun vs op=>by rw[g1]; exact aL (by decide)
  have hs3:=hs2.put ht XS (iE t r (.slice Tc (Q.filter fun r=>!aV id r).length Td) w)
  have ht3:=ht.put XS (iE t r (.slice Tc (Q.filter fun r=>!aV id r).length Td) w)
  have hd2:∀vs op,(h2.bl.bf h.nx (iE t r (.slice Tc (Q.filter fun r=>!aV id r).length Td) w)).get (h.nx+1+1)≠some (af vs 54 op):=fun vs op=>by rw[T.aj _ _ (by omega),g5]; exact aL (by decide)
  refine hk _ _ (hs3.put ht3 hd2 _) (ht3.put hd2 _) ((hle2.set (b:=h.nx) (by omega) _).set (b:=h.nx+1+1) (by omega) _)
def QV (h:Heap) (q:Value) (Q:List R5):Prop:=Sl aW h q Q∧uK 54 h q
theorem QV.le {h h':Heap} {q:Value} {Q:List R5} (v:QV h q Q) (l:Le h h'):QV h' q Q:=⟨v.1.le l,v.2.le l⟩
theorem QV.put {h:Heap} {q:Value} {Q:List R5} (v:QV h q Q) {d:Nat} (hd:∀vs op,h.bl.get d≠some (af vs 54 op)) (o:bU):QV ⟨h.nx,h.bl.bf d o,h.lo⟩ q Q:=⟨v.1.put v.2 hd o,v.2.put hd o⟩
theorem QV.own {a h:Heap} {q:Value} {Q:List R5} (ho:iK a h q Q):QV h q Q:=⟨ho.sl,uK.own ho⟩
theorem gU (Q:List R5) (id:Int):(Q.findIdx? (aV id)=none∧bq Q id=none)∨∃(i:Nat) (r:R5),Q.findIdx? (aV id)=some i∧Q[i]? = some r∧r.id=id∧bq Q id=some r:=by
 rcases iJ Q (aV id) with ⟨e,h⟩ | ⟨i,p,e,hp,h1,h2⟩
 ·refine .inl ⟨e,?_⟩
  unfold bq
  rw[List.find?_eq_none]
  intro x hx; rw[h x hx]; simp
 ·refine .inr ⟨i,p,e,hp,by simpa[aV] using h1,?_⟩
  unfold bq
  rw[List.find?_eq_some_iff_getElem]
  obtain ⟨hi,rfl⟩:=List.getElem?_eq_some_iff.1 hp
  exact ⟨h1,i,hi,rfl,fun j hj=>by rw[h2 j _ hj (List.getElem?_eq_getElem (by omega))]; rfl⟩
theorem Q8 (t r:Int) (q:Value) (w id:Int) (Q:List R5) (h:Heap) (κ:KQ) (hq:Sl aW h q Q) (hlen:Q.length≤100000) (hlo:h.lo≤h.nx) (hf:bq Q id≠none)
  (hk:∀q' h',QV h' q' (Q.filter fun r=>!aV id r)→Le h h'→κ (.tuple ⟨[cG t r q' w,.int .i64 0]⟩) h') :
  CallW Tryz.prog 115 [cG t r q w,.int .i64 id] h κ:=by
 obtain ⟨qx,qc,rfl,_⟩:=(show Sl aW h q Q from hq)
 refine aq mixed ?_
 rw[Va]
 simp(disch:=first|omega|simp only[Wd]<;>omega|with_unfolding_all rfl)only[Wz,cG]
 obtain ⟨hA,az⟩:∃hA:Heap,hA=⟨h.nx+1+1,((h.bl.bf (h.nx) (cW t r (.slice qx Q.length qc) w)).bf (h.nx+1) (jq)),h.lo⟩:=⟨_,rfl⟩
 have aH:Le h hA:=by subst az; exact (((Le.refl h).new _).new _)
 have g1:hA.bl.get (h.nx)=some (cW t r (.slice qx Q.length qc) w):=by subst az; exact (T.aj _ _ (by omega)).trans (T.aa _ _ _)
 have g3:hA.bl.get (h.nx+1)=some (jq):=by subst az; exact T.aa _ _ _
 have dF:hA.nx=h.nx+1+1:=by subst az; rfl
 have dG:hA.lo=h.lo:=by subst az; rfl
 rw[←az]
 clear az
 have g3A:=g3
 refine Ad t r _ w Q hA _ (hq.le aH) (by omega) (by omega) ?_
 intro q2 h2 jv hle2
 have tW:=hle2.nx
 have tX:=hle2.lo
 have g1:=(hle2.get _ (by omega)).trans g1
 have g3:=(hle2.get _ (by omega)).trans g3
 obtain ⟨dn,dw,rfl,_⟩:=(show Sl aW h2 q2 Q from jv.sl)
 simp(disch:=first|omega|simp only[Wd]<;>omega|with_unfolding_all rfl)only[Wz,cG]
 obtain ⟨hB,bF⟩:∃hB:Heap,hB=⟨h2.nx+1,(h2.bl.bf (h2.nx) (iE t r (.slice dn Q.length dw) w)),h2.lo⟩:=⟨_,rfl⟩
 have bD:Le h2 hB:=by subst bF; exact ((Le.refl h2).new _)
 have g7:hB.bl.get (h2.nx)=some (iE t r (.slice dn Q.length dw) w):=by subst bF; exact T.aa _ _ _
 have pE:hB.nx=h2.nx+1:=by subst bF; rfl
 have pF:hB.lo=h2.lo:=by subst bF; rfl
 rw[←bF]
 clear bF
 have kz:=bD.nx
 have kE:=bD.lo
 have g1:=(bD.get _ (by omega)).trans g1
 have g3:=(bD.get _ (by omega)).trans g3
 have yX:=jv.le bD
 refine pn t r _ w id Q hB _ yX.sl (by omega) (by omega) ?_
 intro h3 c_
 have Ga:=c_.nx
 have Gb:=c_.lo
 have g1:=(c_.get _ (by omega)).trans g1
 have g3:=(c_.get _ (by omega)).trans g3
 have g7:=(c_.get _ (by omega)).trans g7
 have mH:=yX.le c_
 rcases gU Q id with ⟨_,e⟩ | ⟨i,p,e,hp,Kt,_⟩
 ·exact absurd e hf
 rw[e]
 simp(disch:=first|omega|simp only[Wd]<;>omega|with_unfolding_all rfl)only[Wz,dy,bL (show (0:Int)≤(i:Int) by omega),g7]
 have ND:Le hA h3:=(hle2.trans bD).trans c_
 refine Ae t r _ w id Q hA h3 _ mH ND hlen (by omega) ?_
 intro q4 h4 hs4 ht4 dV
 have yb:=dV.nx
 have yc:=dV.lo
 have g3:=(dV.get _ (by omega)).trans g3A
 obtain ⟨qx4,qc4,rfl,_⟩:=(show Sl aW h4 q4 _ from hs4)
 simp(disch:=first|omega|simp only[Wd]<;>omega|with_unfolding_all rfl)only[Wz,cG,g3]
 exact hk _ _ (QV.put ⟨hs4,ht4⟩ (fun vs op=>by rw[g3]; exact aL (by decide)) _) ((aH.trans dV).set (b:=h.nx+1) (by omega) _)
theorem Q9 (id x:Int) (r:R5) (b3 b5:Nat) (h:Heap) (κ:KQ) (hlo:h.lo≤h.nx) (P6:b3<h.nx) (hb5:b5<h.nx) (hg3:h.bl.get b3=some (af [.int .i64 id] 3 false)) (Q3:h.bl.get b5=some (af [.int .i64 x] 3 false))
  (hk:∀h',Le h h'→κ (.bool (decide (r.id≠id) && decide (r.x=x))) h'):CallW Tryz.prog 195 [ji r,ptrTo b3,ptrTo b5] h κ:=by
 have hk:=hk _ ((Le.refl h).new (fq r))
 refine aq mixed ?_
 rw[V7]
 by_cases h1:r.id=id
 ·simp(disch:=first|omega|simp only[Wd]<;>omega|with_unfolding_all rfl)only[Wz,aW,hg3,Q3,aM h1]
  rw[aK (show ¬r.id≠id by simp[h1])] at hk
  exact hk
 ·simp(disch:=first|omega|simp only[Wd]<;>omega|with_unfolding_all rfl)only[Wz,aW,hg3,Q3,aK h1]
  rw[aM (show r.id≠id from h1)] at hk
  exact hk
theorem QV.blk {h:Heap} {b n:Nat} {L:List R5} (hb:b<h.nx) (hg:h.bl.get b=some (af (L.flatMap aW) 54 true)) (hn:n=L.length):QV h (.slice (some ⟨b,0,none⟩) n aN) L:=by
 subst hn
 refine ⟨Sl.new hb hg _,fun b' o' n' c' hv _=>?_⟩
 cases hv
 exact ⟨hb,_,_,hg⟩
theorem Wo (t r:Int) (q:Value) (w id x:Int) (Q:List R5) (h:Heap) (κ:KQ) (hq:Sl aW h q Q) (hlen:Q.length≤100000) (hlo:h.lo≤h.nx) (hp:Q.Pairwise fV) {i:Nat} {p:R5} (hi:Q[i]? = some p) (hid:p.id=id)
  (fF:(∃o∈Q,o.id≠id∧o.x=x)→∀h',Le h h'→κ (.tuple ⟨[cG 0 0 (.slice none 0 0) 0,.int .i64 4]⟩) h')
  (hk2:(∀o∈Q,o.id≠id→o.x≠x)→0<p.s→∀h',Le h h'→κ (.tuple ⟨[cG 0 0 (.slice none 0 0) 0,.int .i64 7]⟩) h')
  (LB:(∀o∈Q,o.id≠id→o.x≠x)→¬0<p.s→∀q' h',QV h' q' (Q.set i (jh p x))→Le h h'→κ (.tuple ⟨[cG t r q' w,.int .i64 0]⟩) h') :
  CallW Tryz.prog 148 [cG t r q w,.int .i64 id,.int .i64 x] h κ:=by
 obtain ⟨qx,qc,rfl,_⟩:=(show Sl aW h q Q from hq)
 refine aq mixed ?_
 rw[VG]
 simp(disch:=first|omega|simp only[Wd]<;>omega|with_unfolding_all rfl)only[Wz,cG]
 obtain ⟨hA,az⟩:∃hA:Heap,hA=⟨h.nx+1+1+1+1,((((h.bl.bf (h.nx) (cW t r (.slice qx Q.length qc) w)).bf (h.nx+1) (af [.int .i64 id] 3 false)).bf (h.nx+1+1) (af [.int .i64 x] 3 false)).bf (h.nx+1+1+1) (jq)),h.lo⟩:=⟨_,rfl⟩
 have aH:Le h hA:=by subst az; exact (((((Le.refl h).new _).new _).new _).new _)
 have g1:hA.bl.get (h.nx)=some (cW t r (.slice qx Q.length qc) w):=by subst az; exact (T.aj _ _ (by omega)).trans ((T.aj _ _ (by omega)).trans ((T.aj _ _ (by omega)).trans (T.aa _ _ _)))
 have g3:hA.bl.get (h.nx+1)=some (af [.int .i64 id] 3 false):=by subst az; exact (T.aj _ _ (by omega)).trans ((T.aj _ _ (by omega)).trans (T.aa _ _ _))
 have g5:hA.bl.get (h.nx+1+1)=some (af [.int .i64 x] 3 false):=by subst az; exact (T.aj _ _ (by omega)).trans (T.aa _ _ _)
 have g7:hA.bl.get (h.nx+1+1+1)=some (jq):=by subst az; exact T.aa _ _ _
 have dF:hA.nx=h.nx+1+1+1+1:=by subst az; rfl
 have dG:hA.lo=h.lo:=by subst az; rfl
 rw[←az]
 clear az
 refine Ad t r _ w Q hA _ (hq.le aH) (by omega) (by omega) ?_
 intro q2 h2 jv hle2
 have tW:=hle2.nx
 have tX:=hle2.lo
 have g3:=(hle2.get _ (by omega)).trans g3
 have g5:=(hle2.get _ (by omega)).trans g5
 have g7:=(hle2.get _ (by omega)).trans g7
 obtain ⟨dn,dw,rfl,_⟩:=(show Sl aW h2 q2 Q from jv.sl)
 simp(disch:=first|omega|simp only[Wd]<;>omega|with_unfolding_all rfl)only[Wz,cG,g3]
 obtain ⟨hB,bF⟩:∃hB:Heap,hB=⟨h2.nx+1,(h2.bl.bf (h2.nx) (iE t r (.slice dn Q.length dw) w)),h2.lo⟩:=⟨_,rfl⟩
 have bD:Le h2 hB:=by subst bF; exact ((Le.refl h2).new _)
 have g11:hB.bl.get (h2.nx)=some (iE t r (.slice dn Q.length dw) w):=by subst bF; exact T.aa _ _ _
 have pE:hB.nx=h2.nx+1:=by subst bF; rfl
 have pF:hB.lo=h2.lo:=by subst bF; rfl
 rw[←bF]
 clear bF
 have kz:=bD.nx
 have kE:=bD.lo
 have g3:=(bD.get _ (by omega)).trans g3
 have g5:=(bD.get _ (by omega)).trans g5
 have g7:=(bD.get _ (by omega)).trans g7
 have yX:=jv.le bD
 refine pn t r _ w id Q hB _ yX.sl (by omega) (by omega) ?_
 intro h3 c_
 have Ga:=c_.nx
 have Gb:=c_.lo
 have g3:=(c_.get _ (by omega)).trans g3
 have g5:=(c_.get _ (by omega)).trans g5
 have g7:=(c_.get _ (by omega)).trans g7
 have g11:=(c_.get _ (by omega)).trans g11
 have mH:=yX.le c_
 have oW:Le h h3:=((aH.trans hle2).trans bD).trans c_
 rcases gU Q id with ⟨_,e⟩ | ⟨j,p',e,hj,Ff,_⟩
 ·exact absurd hid (nS e p (List.mem_of_getElem? hi))
 have hij:j=i:=mK hp hj hi (by rw[Ff,hid])
 subst hij
 rw[hi] at hj; cases hj
 rw[e]
 simp(disch:=first|omega|simp only[Wd]<;>omega|with_unfolding_all rfl)only[Wz,dy,bL (show (0:Int)≤(j:Int) by omega),D0,g11]
 refine mj Q (fun o=>decide (o.id≠id) && decide (o.x=x)) h3 _ _ _ mH.sl (by omega) ?_ ?_
 ·intro o ho h4 κ4 dV wY
  have yb:=dV.nx
  have yc:=dV.lo
  have g3:=(dV.get _ (by omega)).trans g3
  have g5:=(dV.get _ (by omega)).trans g5
  simp(disch:=first|omega|simp only[Wd]<;>omega|with_unfolding_all rfl)only[Wz,List.nil_append,List.cons_append]
  exact Q9 id x o (h.nx+1) (h.nx+1+1) h4 κ4 (by omega) (by omega) (by omega) g3 g5 wY
 intro h4 dV
 have yb:=dV.nx
 have yc:=dV.lo
 have g3:=(dV.get _ (by omega)).trans g3
 have g5:=(dV.get _ (by omega)).trans g5
 have g7:=(dV.get _ (by omega)).trans g7
 have g11:=(dV.get _ (by omega)).trans g11
 have Tf:=mH.le dV
 have pz:=oW.trans dV
 cases vj:Q.any (fun o=>decide (o.id≠id) && decide (o.x=x)) with
 | true=>
  simp(disch:=first|omega|simp only[Wd]<;>omega|with_unfolding_all rfl)only[Wz,g7]
  rw[List.any_eq_true] at vj
  obtain ⟨o,ho,h1⟩:=vj
  simp only[Bool.and_eq_true,decide_eq_true_eq] at h1
  exact fF ⟨o,ho,h1⟩ _ (pz.set (b:=h.nx+1+1+1) (by omega) _)
 | false=>
  have hno:∀o∈Q,o.id≠id→o.x≠x:=by
   intro o ho h1 h2
   rw[List.any_eq_false] at vj
   have:=vj o ho
   simp[h1,h2] at this
  obtain ⟨b,o,hb,dM,dg⟩:=tf Tf.sl j hi
  simp(disch:=first|omega|simp only[Wd]<;>omega|with_unfolding_all rfl)only[Wz,DZ,g11,dM,dg]
  refine vV p ?_
  by_cases hs:0<p.s
  ·simp(disch:=first|omega|simp only[Wd]<;>omega|with_unfolding_all rfl)only[Wz,aM hs,g7]
   exact hk2 hno hs _ (pz.set (b:=h.nx+1+1+1) (by omega) _)
  ·rcases Tf with ⟨rfl,_⟩ | ⟨bo,e1,k1,k2,k3,k4⟩
   ·simp at hi
   cases e1
   have hjl:j<Q.length:=(List.getElem?_eq_some_iff.1 hi).1
   have hfl:=aT (enc:=aW) aX Q
   have rL:=ck (p':=jh p x) (ws:=[.int .i64 x]) (j:=1) aX hi (by show 1+1≤5; omega) rfl
   have sE:bo≠h2.nx:=by rintro rfl; rw[g11] at k4; exact aO k4
   have jT:bo≠h.nx+1+1+1:=by rintro rfl; rw[g7] at k4; exact aO k4
   simp(disch:=first|omega|simp only[Wd]<;>omega|with_unfolding_all rfl)only[Wz,aK hs,DY,g11,g5,g7,bA,k4,rL]
   have k0:hA.nx≤bo:=k1
   refine LB hno hs _ _ (QV.blk (by show bo<h4.nx; omega) ((T.aj _ _ (fun e=>jT e.symm)).trans (T.aa _ _ _)) (by simp)) ((pz.set (b:=bo) (by omega) _).set (b:=h.nx+1+1+1) (by omega) _)
def cw (n:Int):List Value:=[.int .i64 n]
theorem bY (n:Int):(cw n).length=1:=rfl
theorem iL (n:Int):(cw n).all ef=true:=rfl
abbrev gV (a h:Heap) (v:Value) (L:List Int):Prop:=cU cw a 3 h v L
theorem uO {Q:List R5} {W:Int} (v:VQ Q W) {i:Nat} {r:R5} (hf:bX Q=some i) (hr:Q[i]? = some r) (hfit:cI Q r=true) :
  bP (cF Q+1) Q=((bP (cF (Q.set i (cz r))+1) (Q.set i (cz r))).1,r.id::(bP (cF (Q.set i (cz r))+1) (Q.set i (cz r))).2):=by
 have hc:=nR hr (gT v hf hr)
 conv=>lhs; unfold bP
 simp only[hf,hr,hfit,if_true]
 rw[hc]
theorem pG {Q:List R5} (h:fG Q):bP (cF Q+1) Q=(Q,[]):=F3 h _
theorem yd {Q:List R5} (h:bX Q=none):fG Q:=fun i r e=>by rw[h] at e; cases e
theorem ye {Q:List R5} {i:Nat} {r:R5} (h:bX Q=some i) (hr:Q[i]? = some r) (hf:cI Q r=false):fG Q:=fun j q e hq=>by
 rw[h] at e; cases e; rw[hr] at hq; cases hq; exact hf
set_option maxHeartbeats 2000000 in
theorem Wp (t r:Int) (q:Value) (w:Int) (Q:List R5) (h:Heap) (κ:KQ) (hq:Sl aW h q Q) (hlen:Q.length≤100000) (hlo:h.lo≤h.nx) (vq:VQ Q w)
  (hk:∀q' v' h',QV h' q' (bP (cF Q+1) Q).1→gV h h' v' (bP (cF Q+1) Q).2→Le h h'→κ (.tuple ⟨[cG t r q' w,v']⟩) h') :
  CallW Tryz.prog 142 [cG t r q w] h κ:=by
 obtain ⟨qx,qc,rfl,_⟩:=(show Sl aW h q Q from hq)
 refine aq mixed ?_
 rw[VA]
 simp(disch:=first|omega|simp only[Wd]<;>omega|with_unfolding_all rfl)only[Wz,cG]
 obtain ⟨hA,az⟩:∃hA:Heap,hA=⟨h.nx+1+1,((h.bl.bf (h.nx) (cW t r (.slice qx Q.length qc) w)).bf (h.nx+1) (jq)),h.lo⟩:=⟨_,rfl⟩
 have aH:Le h hA:=by subst az; exact (((Le.refl h).new _).new _)
 have g1:hA.bl.get (h.nx)=some (cW t r (.slice qx Q.length qc) w):=by subst az; exact (T.aj _ _ (by omega)).trans (T.aa _ _ _)
 have g3:hA.bl.get (h.nx+1)=some (jq):=by subst az; exact T.aa _ _ _
 have dF:hA.nx=h.nx+1+1:=by subst az; rfl
 have dG:hA.lo=h.lo:=by subst az; rfl
 rw[←az]
 clear az
 refine Ad t r _ w Q hA _ (hq.le aH) (by omega) (by omega) ?_
 intro q2 h2 jv hle2
 have tW:=hle2.nx
 have tX:=hle2.lo
 have g3:=(hle2.get _ (by omega)).trans g3
 obtain ⟨dn,dw,rfl,_⟩:=(show Sl aW h2 q2 Q from jv.sl)
 simp(disch:=first|omega|simp only[Wd]<;>omega|with_unfolding_all rfl)only[Wz,cG]
 obtain ⟨hB,bF⟩:∃hB:Heap,hB=⟨h2.nx+1,(h2.bl.bf (h2.nx) (iE t r (.slice dn Q.length dw) w)),h2.lo⟩:=⟨_,rfl⟩
 have bD:Le h2 hB:=by subst bF; exact ((Le.refl h2).new _)
 have g7:hB.bl.get (h2.nx)=some (iE t r (.slice dn Q.length dw) w):=by subst bF; exact T.aa _ _ _
 have pE:hB.nx=h2.nx+1:=by subst bF; rfl
 have pF:hB.lo=h2.lo:=by subst bF; rfl
 rw[←bF]
 clear bF
 have kz:=bD.nx
 have kE:=bD.lo
 have g3:=(bD.get _ (by omega)).trans g3
 have yX:=jv.le bD
 have NF:Le h hB:=(aH.trans hle2).trans bD
 refine ⟨fun n l h1=>∃(K:List R5) (ids:List Int),VQ K w∧n=cF K+1∧bP (cF Q+1) Q=((bP (cF K+1) K).1,ids++(bP (cF K+1) K).2)∧K.length=Q.length∧ids.length+cF K≤cF Q∧
   gV h h1 (slot l 49) ids∧(iK hA h1 (.slice dn K.length dw) K)∧h1.bl.get (h.nx+1)=some jq∧h1.bl.get h2.nx=some (iE t r (.slice dn Q.length dw) w)∧Le h h1∧hB.nx≤h1.nx,
  ⟨_,Q,[],vq,rfl,by simp,rfl,by simp,.inl ⟨rfl,.inl rfl⟩,yX,g3,g7,NF,Nat.le_refl _⟩,?_⟩
 rintro n l h3 ⟨K,ids,vk,rfl,hsc,Ku,Ye,hoI,Kv,g3,g7,c_,n3⟩
 have l3:=c_.lo
 obtain ⟨vi,ei⟩:∃vi,slot l 49=vi:=⟨_,rfl⟩
 rw[ei] at hoI
 rw[Ku] at Kv
 have hcK:cF K≤K.length:=List.length_filter_le _ _
 have hcQ:cF Q≤Q.length:=List.length_filter_le _ _
 simp(disch:=first|omega|simp only[Wd]<;>omega|with_unfolding_all rfl)only[Wz,DO,g7]
 refine Ej t r _ w K h3 _ Kv.sl (by omega) (by omega) ?_
 intro h4 dV
 have yb:=dV.nx
 have yc:=dV.lo
 have g3:=(dV.get _ (by omega)).trans g3
 have g7:=(dV.get _ (by omega)).trans g7
 have BP:=Kv.le dV
 have NG:=hoI.le dV
 have pz:=c_.trans dV
 have finish:∀h',h4.nx≤h'.nx→Le h h'→gV h h' vi ids→iK hA h' (.slice dn Q.length dw) K→h'.bl.get (h.nx+1)=some jq→fG K→κ (.tuple ⟨[.agg ⟨[.int .i64 t,.int .i64 r,.slice dn Q.length dw,.int .i64 w]⟩,vi]⟩) ⟨h'.nx,h'.bl.bf (h.nx+1) (cW t r (.slice dn Q.length dw) w),h'.lo⟩:=by
  intro h' hn hl hi hr hg hst
  rw[pG hst] at hsc
  rw[hsc,List.append_nil] at hk
  exact hk _ _ _ (QV.put (QV.own hr) (fun vs op=>by rw[hg]; exact aL (by decide)) _) (cU.put hi (by rw[hg]; exact aO) _) (hl.set (b:=h.nx+1) (by omega) _)
 cases hf:bX K with
 | none=>
  simp(disch:=first|omega|simp only[Wd]<;>omega|with_unfolding_all rfl)only[Wz,dy,bZ (show (-1:Int)<0 by decide),g7,g3,ei]
  exact finish h4 (Nat.le_refl _) pz NG BP g3 (yd hf)
 | some i=>
  obtain ⟨p,hp,_⟩:=nQ hf
  obtain ⟨b,o,hb,dM,dg⟩:=tf BP.sl i hp
  simp(disch:=first|omega|simp only[Wd]<;>omega|with_unfolding_all rfl)only[Wz,dy,bL (show (0:Int)≤(i:Int) by omega),g7,dM,dg,List.append_nil,List.cons_append,List.nil_append]
  refine BO t r _ w p K h4 _ BP.sl (by omega) (by omega) ?_
  intro h5 iD
  have Wq:=iD.nx
  have Wr:=iD.lo
  have g3:=(iD.get _ (by omega)).trans g3
  have g7:=(iD.get _ (by omega)).trans g7
  have NH:=BP.le iD
  have NI:=NG.le iD
  have uN:=pz.trans iD
  cases hfit:cI K p with
  | false=>
   simp(disch:=first|omega|simp only[Wd]<;>omega|with_unfolding_all rfl)only[Wz,g7,g3,ei]
   exact finish h5 (by omega) uN NI NH g3 (ye hf hp hfit)
  | true=>
   rcases NH with ⟨rfl,_⟩ | ⟨bo,e1,k1,k2,k3,k4⟩
   ·simp at hp
   rw[Ku] at e1
   cases e1
   have hil:i<K.length:=(List.getElem?_eq_some_iff.1 hp).1
   have hfl:=aT (enc:=aW) aX K
   have NJ:((K.set i ⟨p.id,p.x,p.w,p.w,p.s⟩).flatMap aW).length=K.length*5:=by rw[aT aX,List.length_set]
   have rL:=ck (p':=⟨p.id,p.x,p.w,p.w,p.s⟩) (ws:=[.int .i64 p.w]) (j:=2) aX hp (by show 2+1≤5; omega) rfl
   have hp2:(K.set i ⟨p.id,p.x,p.w,p.w,p.s⟩)[i]? = some ⟨p.id,p.x,p.w,p.w,p.s⟩:=by rw[List.getElem?_set,if_pos rfl,if_pos hil]
   have lu:=ck (p':=cz p) (ws:=[.int .i64 0]) (j:=4) aX hp2 (by show 4+1≤5; omega) rfl
   rw[List.set_set] at lu
   have sE:bo≠h2.nx:=by rintro rfl; rw[g7] at k4; exact aO k4
   have jT:bo≠h.nx+1:=by rintro rfl; rw[g3] at k4; exact aO k4
   have wN:(K.set i (cz p)).length=K.length:=List.length_set
   rw[Ku] at wN
   have Fc:(K.set i (cz p))[i]? = some (cz p):=by rw[List.getElem?_set,if_pos rfl,if_pos hil]
   have r3:=fu (j:=3) aX hp (by decide)
   have r0:=fu (j:=0) aX Fc (by decide)
   have r3:(K.flatMap aW)[i*5+3]? = some (.int .i64 p.w):=r3
   have r0:((K.set i (cz p)).flatMap aW)[i*5]? = some (.int .i64 p.id):=r0
   simp(disch:=first|omega|simp only[Wd]<;>omega|with_unfolding_all rfl)only[Wz,DN,g7,bA,k4,rL,lu,ei,r3,r0]
   obtain ⟨hC,eC⟩:∃hC:Heap,hC=⟨h5.nx,h5.bl.bf bo (af ((K.set i (cz p)).flatMap aW) 54 true),h5.lo⟩:=⟨_,rfl⟩
   have Kw:Le h hC:=by subst eC; exact uN.set (b:=bo) (by omega) _
   have nC:hC.nx=h5.nx:=by rw[eC]
   have lC:hC.lo=h5.lo:=by rw[eC]
   have gC:hC.bl.get bo=some (af ((K.set i (cz p)).flatMap aW) 54 true):=by subst eC; exact T.aa _ _ _
   have XT:hC.bl.get (h.nx+1)=some jq:=by subst eC; exact (T.aj _ _ jT).trans g3
   have g7C:hC.bl.get h2.nx=some (iE t r (.slice (some ⟨bo,0,none⟩) Q.length aN) w):=by subst eC; exact (T.aj _ _ sE).trans g7
   have PF:gV h hC vi ids:=by subst eC; exact cU.put NI (by rw[k4]; exact aL (by decide)) _
   have e2:(⟨h5.nx+1,(h5.bl.bf bo (af ((K.set i (cz p)).flatMap aW) 54 true)).bf h5.nx (af [.int .i64 p.id] 3 false),h5.lo⟩:Heap)=⟨hC.nx+1,hC.bl.bf hC.nx (af [.int .i64 p.id] 3 false),hC.lo⟩:=by rw[eC]
   rw[e2,show h5.nx=hC.nx from nC.symm]
   have hle1:=(Le.refl hC).new (af [.int .i64 p.id] 3 false)
   have vk2:=vk.HK hf hp hfit
   have hcg:=nR hp (gT vk hf hp)
   refine cT (enc:=cw) (a:=h) (L:=ids) (M:=[p.id]) bY iL (by decide) (by decide) (PF.le hle1) (Sl.new (L:=[p.id]) (e:=3) (op:=false) (Nat.lt_succ_self _) (T.aa _ _ _) _) (Kw.new _) (by simp; omega) (by show hC.lo≤hC.nx+1; omega) _ ?_
   intro v' h6 tY vp wK hn2 Th hsame
   have n6:hC.nx+1≤h6.nx:=hn2
   have keep:∀c o',c<hC.nx→hC.bl.get c=some o'→some o'≠some (af (ids.flatMap cw) 3 true)→h6.bl.get c=some o':=by
    intro c o' hc hg hne
    have e:(hC.bl.bf hC.nx (af [.int .i64 p.id] 3 false)).get c=hC.bl.get c:=T.aj _ _ (by omega)
    exact (hsame c (Nat.lt_succ_of_lt hc) (fun k=>hne (by rw[←hg,←e]; exact k))).trans (e.trans hg)
   have afz:h6.lo=hC.lo:=Th
   refine ⟨_,by omega,K.set i (cz p),ids++[p.id],vk2,rfl,?_,by simpa using Ku,by simp; omega,tY,?_,?_,?_,vp,by omega⟩
   ·rw[hsc,uO vk hf hp hfit]
    simp
   ·refine .inr ⟨bo,rfl,by omega,by omega,by omega,keep bo _ (by omega) gC (aL (by decide))⟩
   ·exact keep _ _ (by omega) XT (aL (by decide))
   ·exact keep _ _ (by omega) g7C (aL (by decide))
theorem Kx (t r:Int) (q:Value) (w id:Int) (Q:List R5) (h:Heap) (κ:KQ) (hq:Sl aW h q Q) (hlen:Q.length≤100000) (hlo:h.lo≤h.nx) (hp:Q.Pairwise fV) {i:Nat} {p:R5} (hi:Q[i]? = some p) (hid:p.id=id)
  (fF:¬0<p.s→∀h',Le h h'→κ (.tuple ⟨[cG 0 0 (.slice none 0 0) 0,.int .i64 7]⟩) h')
  (hk2:0<p.s→p.m=0→∀q' h',QV h' q' (Q.filter fun r=>!aV id r)→Le h h'→κ (.tuple ⟨[cG t r q' w,.int .i64 0]⟩) h')
  (LB:0<p.s→p.m≠0→∀q' h',QV h' q' (Q.set i (dZ p))→Le h h'→κ (.tuple ⟨[cG t r q' w,.int .i64 0]⟩) h') :
  CallW Tryz.prog 147 [cG t r q w,.int .i64 id] h κ:=by
 obtain ⟨qx,qc,rfl,_⟩:=(show Sl aW h q Q from hq)
 refine aq mixed ?_
 rw[VF]
 simp(disch:=first|omega|simp only[Wd]<;>omega|with_unfolding_all rfl)only[Wz,cG]
 obtain ⟨hA,az⟩:∃hA:Heap,hA=⟨h.nx+1+1,((h.bl.bf (h.nx) (cW t r (.slice qx Q.length qc) w)).bf (h.nx+1) (jq)),h.lo⟩:=⟨_,rfl⟩
 have aH:Le h hA:=by subst az; exact (((Le.refl h).new _).new _)
 have g1:hA.bl.get (h.nx)=some (cW t r (.slice qx Q.length qc) w):=by subst az; exact (T.aj _ _ (by omega)).trans (T.aa _ _ _)
 have g3:hA.bl.get (h.nx+1)=some (jq):=by subst az; exact T.aa _ _ _
 have dF:hA.nx=h.nx+1+1:=by subst az; rfl
 have dG:hA.lo=h.lo:=by subst az; rfl
 rw[←az]
 clear az
 have g3A:=g3
 refine Ad t r _ w Q hA _ (hq.le aH) (by omega) (by omega) ?_
 intro q2 h2 jv hle2
 have tW:=hle2.nx
 have tX:=hle2.lo
 have g3:=(hle2.get _ (by omega)).trans g3
 obtain ⟨dn,dw,rfl,_⟩:=(show Sl aW h2 q2 Q from jv.sl)
 simp(disch:=first|omega|simp only[Wd]<;>omega|with_unfolding_all rfl)only[Wz,cG]
 obtain ⟨hB,bF⟩:∃hB:Heap,hB=⟨h2.nx+1,(h2.bl.bf (h2.nx) (iE t r (.slice dn Q.length dw) w)),h2.lo⟩:=⟨_,rfl⟩
 have bD:Le h2 hB:=by subst bF; exact ((Le.refl h2).new _)
 have g7:hB.bl.get (h2.nx)=some (iE t r (.slice dn Q.length dw) w):=by subst bF; exact T.aa _ _ _
 have pE:hB.nx=h2.nx+1:=by subst bF; rfl
 have pF:hB.lo=h2.lo:=by subst bF; rfl
 rw[←bF]
 clear bF
 have kz:=bD.nx
 have kE:=bD.lo
 have g3:=(bD.get _ (by omega)).trans g3
 have yX:=jv.le bD
 refine pn t r _ w id Q hB _ yX.sl (by omega) (by omega) ?_
 intro h3 c_
 have Ga:=c_.nx
 have Gb:=c_.lo
 have g3:=(c_.get _ (by omega)).trans g3
 have g7:=(c_.get _ (by omega)).trans g7
 have mH:=yX.le c_
 have oW:Le h h3:=((aH.trans hle2).trans bD).trans c_
 rcases gU Q id with ⟨_,e⟩ | ⟨j,p',e,hj,Ff,_⟩
 ·exact absurd hid (nS e p (List.mem_of_getElem? hi))
 have hij:j=i:=mK hp hj hi (by rw[Ff,hid])
 subst hij
 rw[hi] at hj; cases hj
 rw[e]
 obtain ⟨b,o,hb,dM,dg⟩:=tf mH.sl j hi
 simp(disch:=first|omega|simp only[Wd]<;>omega|with_unfolding_all rfl)only[Wz,dy,bL (show (0:Int)≤(j:Int) by omega),DX,g7,dM,dg]
 refine vV p ?_
 by_cases hs:0<p.s
 case neg=>
  simp(disch:=first|omega|simp only[Wd]<;>omega|with_unfolding_all rfl)only[Wz,aK hs,g3]
  exact fF hs _ (oW.set (b:=h.nx+1) (by omega) _)
 simp(disch:=first|omega|simp only[Wd]<;>omega|with_unfolding_all rfl)only[Wz,aM hs,DW,g7,dM,dg]
 refine vT p ?_
 by_cases hm:p.m=0
 ·simp(disch:=first|omega|simp only[Wd]<;>omega|with_unfolding_all rfl)only[Wz,aK (show ¬p.m≠0 by omega),g7]
  have ND:Le hA h3:=(hle2.trans bD).trans c_
  refine Ae t r _ w id Q hA h3 _ mH ND hlen (by omega) ?_
  intro q4 h4 hs4 ht4 dV
  have yb:=dV.nx
  have yc:=dV.lo
  have g3:=(dV.get _ (by omega)).trans g3A
  obtain ⟨qx4,qc4,rfl,_⟩:=(show Sl aW h4 q4 _ from hs4)
  simp(disch:=first|omega|simp only[Wd]<;>omega|with_unfolding_all rfl)only[Wz,cG,g3]
  exact hk2 hs hm _ _ (QV.put ⟨hs4,ht4⟩ (fun vs op=>by rw[g3]; exact aL (by decide)) _) ((aH.trans dV).set (b:=h.nx+1) (by omega) _)
 ·rcases mH with ⟨rfl,_⟩ | ⟨bo,e1,k1,k2,k3,k4⟩
  ·simp at hi
  cases e1
  have hjl:j<Q.length:=(List.getElem?_eq_some_iff.1 hi).1
  have hfl:=aT (enc:=aW) aX Q
  have NJ:((Q.set j ⟨p.id,p.x,p.m,p.m,p.s⟩).flatMap aW).length=Q.length*5:=by rw[aT aX,List.length_set]
  have rL:=ck (p':=⟨p.id,p.x,p.m,p.m,p.s⟩) (ws:=[.int .i64 p.m]) (j:=3) aX hi (by show 3+1≤5; omega) rfl
  have hp2:(Q.set j ⟨p.id,p.x,p.m,p.m,p.s⟩)[j]? = some ⟨p.id,p.x,p.m,p.m,p.s⟩:=by rw[List.getElem?_set,if_pos rfl,if_pos hjl]
  have lu:=ck (p':=dZ p) (ws:=[.int .i64 0]) (j:=4) aX hp2 (by show 4+1≤5; omega) rfl
  rw[List.set_set] at lu
  have sE:bo≠h2.nx:=by rintro rfl; rw[g7] at k4; exact aO k4
  have jT:bo≠h.nx+1:=by rintro rfl; rw[g3] at k4; exact aO k4
  have r2:=fu (j:=2) aX hi (by decide)
  have r2:(Q.flatMap aW)[j*5+2]? = some (.int .i64 p.m):=r2
  simp(disch:=first|omega|simp only[Wd]<;>omega|with_unfolding_all rfl)only[Wz,aM (show p.m≠0 from hm),DV,g7,g3,bA,k4,rL,lu,r2]
  refine LB hs hm _ _ (QV.blk (by show bo<h3.nx; omega) ((T.aj _ _ (fun e=>jT e.symm)).trans (T.aa _ _ _)) (by simp)) ((oW.set (b:=bo) (by omega) _).set (b:=h.nx+1) (by omega) _)
theorem vY (t r:Int) (q:Value) (w id:Int) (Q:List R5) (h:Heap) (κ:KQ) (hq:Sl aW h q Q) (hlen:Q.length≤100000) (hlo:h.lo≤h.nx)
  (hk:∀h',Le h h'→κ (match bq Q id with | some p=>.tuple ⟨[ji p,.bool true]⟩ | none=>.tuple ⟨[ji ⟨0,0,0,0,0⟩,.bool false]⟩) h') :
  CallW Tryz.prog 119 [cG t r q w,.int .i64 id] h κ:=by
 obtain ⟨qx,qc,rfl,_⟩:=(show Sl aW h q Q from hq)
 refine aq mixed ?_
 rw[Vd]
 simp(disch:=first|omega|simp only[Wd]<;>omega|with_unfolding_all rfl)only[Wz,cG]
 obtain ⟨hA,az⟩:∃hA:Heap,hA=⟨h.nx+1+1,((h.bl.bf (h.nx) (cW t r (.slice qx Q.length qc) w)).bf (h.nx+1) (fq ⟨0,0,0,0,0⟩)),h.lo⟩:=⟨_,rfl⟩
 have aH:Le h hA:=by subst az; exact (((Le.refl h).new _).new _)
 have g1:hA.bl.get (h.nx)=some (cW t r (.slice qx Q.length qc) w):=by subst az; exact (T.aj _ _ (by omega)).trans (T.aa _ _ _)
 have g3:hA.bl.get (h.nx+1)=some (fq ⟨0,0,0,0,0⟩):=by subst az; exact T.aa _ _ _
 have dF:hA.nx=h.nx+1+1:=by subst az; rfl
 have dG:hA.lo=h.lo:=by subst az; rfl
 rw[←az]
 clear az
 refine pn t r _ w id Q hA _ (hq.le aH) (by omega) (by omega) ?_
 intro h2 hle2
 have tW:=hle2.nx
 have tX:=hle2.lo
 have g1:=(hle2.get _ (by omega)).trans g1
 have g3:=(hle2.get _ (by omega)).trans g3
 rcases gU Q id with ⟨e,e2⟩ | ⟨i,p,e,hi,Ff,e2⟩
 ·rw[e]
  simp(disch:=first|omega|simp only[Wd]<;>omega|with_unfolding_all rfl)only[Wz,dy,bZ (show (-1:Int)<0 by decide),g3]
  rw[e2] at hk
  exact hk _ ((aH.trans hle2).set (b:=h.nx+1) (by omega) _)
 ·rw[e]
  obtain ⟨b,o,hb,dM,dg⟩:=tf (hq.le (aH.trans hle2)) i hi
  simp(disch:=first|omega|simp only[Wd]<;>omega|with_unfolding_all rfl)only[Wz,dy,bL (show (0:Int)≤(i:Int) by omega),g1,g3,dM,dg,aW]
  rw[e2] at hk
  exact hk _ ((aH.trans hle2).set (b:=h.nx+1) (by omega) _)
theorem NK {Q:List R5} {i:Nat} {p p1:R5} (hi:Q[i]? = some p) (hid:p.id=p1.id):cI (Q.set i p1) p1=cI Q p1:=by
 rw[Bool.eq_iff_iff,dQ,dQ]
 constructor
 ·intro h o ho h1 h2
  obtain ⟨k,hk⟩:=List.getElem?_of_mem ho
  have hki:i≠k:=by rintro rfl; rw[hi] at hk; cases hk; exact h1 hid
  exact h o (List.mem_of_getElem? (i:=k) (by rw[List.getElem?_set,if_neg hki]; exact hk)) h1 h2
 ·intro h o ho h1 h2
  rcases mem_set ho with rfl | ho
  ·exact absurd rfl h1
  ·exact h o ho h1 h2
theorem Q_ {Q:List R5} {i:Nat} {p p1:R5} (hi:Q[i]? = some p) (hu:ku p1=ku p):(Q.set i p1).any ku=Q.any ku:=by
 rw[Bool.eq_iff_iff,List.any_eq_true,List.any_eq_true]
 have hil:=(List.getElem?_eq_some_iff.1 hi).1
 constructor
 ·rintro ⟨o,ho,h⟩
  rcases mem_set ho with rfl | ho
  ·exact ⟨p,List.mem_of_getElem? hi,by rw[←hu]; exact h⟩
  ·exact ⟨o,ho,h⟩
 ·rintro ⟨o,ho,h⟩
  obtain ⟨k,hk⟩:=List.getElem?_of_mem ho
  by_cases hki:i=k
  ·subst hki
   rw[hi] at hk; cases hk
   exact ⟨p1,List.mem_of_getElem? (i:=i) (by rw[List.getElem?_set,if_pos rfl,if_pos hil]),by rw[hu]; exact h⟩
  ·exact ⟨o,List.mem_of_getElem? (i:=k) (by rw[List.getElem?_set,if_neg hki]; exact hk),h⟩
theorem aU {β:Type} {fl:β} (b o:Nat) (h:Heap) (κ:Value→Heap→β):bE fl (.pointer (some ⟨b,o,none⟩)) h κ=κ (.pointer (some ⟨b,o,none⟩)) h:=id rfl
set_option maxHeartbeats 2000000 in
theorem yf (t r:Int) (q:Value) (w id m:Int) (Q:List R5) (h:Heap) (κ:KQ) (hq:Sl aW h q Q) (hlen:Q.length≤100000) (hlo:h.lo≤h.nx) (hw:0≤w∧w≤1000000)
  (dK:br m=false→∀h',Le h h'→κ (.tuple ⟨[cG 0 0 (.slice none 0 0) 0,.bool false,.int .i64 2]⟩) h')
  (fF:br m=true→bq Q id=none→∀h',Le h h'→κ (.tuple ⟨[cG 0 0 (.slice none 0 0) 0,.bool false,.int .i64 5]⟩) h')
  (hk2:br m=true→∀p,bq Q id=some p→0<p.s→∀h',Le h h'→κ (.tuple ⟨[cG 0 0 (.slice none 0 0) 0,.bool false,.int .i64 7]⟩) h')
  (LB:br m=true→∀i p,Q[i]? = some p→bq Q id=some p→¬0<p.s→∀q' h',QV h' q' (Q.set i (dB Q w p m).1)→Le h h'→κ (.tuple ⟨[cG t r q' (dB Q w p m).2.1,.bool (dB Q w p m).2.2,.int .i64 0]⟩) h') :
  CallW Tryz.prog 146 [cG t r q w,.int .i64 id,.int .i64 m] h κ:=by
 obtain ⟨qx,qc,rfl,_⟩:=(show Sl aW h q Q from hq)
 refine aq mixed ?_
 rw[VE]
 simp(disch:=first|omega|simp only[Wd]<;>omega|with_unfolding_all rfl)only[Wz,cG]
 obtain ⟨hA,az⟩:∃hA:Heap,hA=⟨h.nx+1+1,((h.bl.bf (h.nx) (cW t r (.slice qx Q.length qc) w)).bf (h.nx+1) (jq)),h.lo⟩:=⟨_,rfl⟩
 have aH:Le h hA:=by subst az; exact (((Le.refl h).new _).new _)
 have g1:hA.bl.get (h.nx)=some (cW t r (.slice qx Q.length qc) w):=by subst az; exact (T.aj _ _ (by omega)).trans (T.aa _ _ _)
 have g3:hA.bl.get (h.nx+1)=some (jq):=by subst az; exact T.aa _ _ _
 have dF:hA.nx=h.nx+1+1:=by subst az; rfl
 have dG:hA.lo=h.lo:=by subst az; rfl
 rw[←az]
 clear az
 refine Ei m ?_
 cases ha:br m with
 | false=>
  simp(disch:=first|omega|simp only[Wd]<;>omega|with_unfolding_all rfl)only[Wz,g3]
  exact dK ha _ (aH.set (b:=h.nx+1) (by omega) _)
 | true=>
 simp(disch:=first|omega|simp only[Wd]<;>omega|with_unfolding_all rfl)only[Wz,DU,g1]
 refine Ad t r _ w Q hA _ (hq.le aH) (by omega) (by omega) ?_
 intro q2 h2 jv hle2
 have tW:=hle2.nx
 have tX:=hle2.lo
 have g3:=(hle2.get _ (by omega)).trans g3
 obtain ⟨dn,dw,rfl,_⟩:=(show Sl aW h2 q2 Q from jv.sl)
 simp(disch:=first|omega|simp only[Wd]<;>omega|with_unfolding_all rfl)only[Wz,cG]
 obtain ⟨hB,bF⟩:∃hB:Heap,hB=⟨h2.nx+1,(h2.bl.bf (h2.nx) (iE t r (.slice dn Q.length dw) w)),h2.lo⟩:=⟨_,rfl⟩
 have bD:Le h2 hB:=by subst bF; exact ((Le.refl h2).new _)
 have g12:hB.bl.get (h2.nx)=some (iE t r (.slice dn Q.length dw) w):=by subst bF; exact T.aa _ _ _
 have pE:hB.nx=h2.nx+1:=by subst bF; rfl
 have pF:hB.lo=h2.lo:=by subst bF; rfl
 rw[←bF]
 clear bF
 have kz:=bD.nx
 have kE:=bD.lo
 have g3:=(bD.get _ (by omega)).trans g3
 have yX:=jv.le bD
 refine pn t r _ w id Q hB _ yX.sl (by omega) (by omega) ?_
 intro h3 c_
 have Ga:=c_.nx
 have Gb:=c_.lo
 have g3:=(c_.get _ (by omega)).trans g3
 have g12:=(c_.get _ (by omega)).trans g12
 have mH:=yX.le c_
 have oW:Le h h3:=((aH.trans hle2).trans bD).trans c_
 rcases gU Q id with ⟨e,e2⟩ | ⟨i,p,e,hi,Ff,e2⟩
 ·rw[e]
  simp(disch:=first|omega|simp only[Wd]<;>omega|with_unfolding_all rfl)only[Wz,dy,bZ (show (-1:Int)<0 by decide),g3]
  exact fF ha e2 _ (oW.set (b:=h.nx+1) (by omega) _)
 rw[e]
 obtain ⟨b,o,hb,dM,dg⟩:=tf mH.sl i hi
 simp(disch:=first|omega|simp only[Wd]<;>omega|with_unfolding_all rfl)only[Wz,dy,bL (show (0:Int)≤(i:Int) by omega),DT,g12,dM,dg]
 refine vV p ?_
 by_cases hs:0<p.s
 ·simp(disch:=first|omega|simp only[Wd]<;>omega|with_unfolding_all rfl)only[Wz,aM hs,g3]
  exact hk2 ha p e2 hs _ (oW.set (b:=h.nx+1) (by omega) _)
 rcases mH with ⟨rfl,_⟩ | ⟨bo,e1,k1,k2,k3,k4⟩
 ·simp at hi
 cases e1
 have hil:i<Q.length:=(List.getElem?_eq_some_iff.1 hi).1
 obtain ⟨wt,I3⟩:∃wt,e8 p.m m=wt:=⟨_,rfl⟩
 have hfl:=aT (enc:=aW) aX Q
 have r2:(Q.flatMap aW)[i*5+2]? = some (.int .i64 p.m):=fu (j:=2) aX hi (by decide)
 have rL:=ck (p':=⟨p.id,p.x,p.m,wt,p.s⟩) (ws:=[.int .i64 wt]) (j:=3) aX hi (by show 3+1≤5; omega) rfl
 obtain ⟨p1,LF⟩:∃p1:R5,p1=⟨p.id,p.x,p.m,wt,p.s⟩:=⟨_,rfl⟩
 rw[←LF] at rL
 have hp2:(Q.set i p1)[i]? = some p1:=by rw[List.getElem?_set,if_pos rfl,if_pos hil]
 have NJ:((Q.set i p1).flatMap aW).length=Q.length*5:=by rw[aT aX,List.length_set]
 have s2:((Q.set i p1).flatMap aW)[i*5+2]? = some (.int .i64 p.m):=by rw[fu (j:=2) aX hp2 (by decide),LF]; rfl
 have s3:((Q.set i p1).flatMap aW)[i*5+3]? = some (.int .i64 wt):=by rw[fu (j:=3) aX hp2 (by decide),LF]; rfl
 have sE:bo≠h2.nx:=by rintro rfl; rw[g12] at k4; exact aO k4
 have jT:bo≠h.nx+1:=by rintro rfl; rw[g3] at k4; exact aO k4
 simp(disch:=first|omega|simp only[Wd]<;>omega|with_unfolding_all rfl)only[Wz,aK hs,DS,g12,bA,aU,k4,r2]
 refine aaO _ _ ?_
 rw[I3]
 simp(disch:=first|omega|simp only[Wd]<;>omega|with_unfolding_all rfl)only[Wz,aU,k4,rL,s2,s3]
 obtain ⟨hC,eC⟩:∃hC:Heap,hC=⟨h3.nx,h3.bl.bf bo (af ((Q.set i p1).flatMap aW) 54 true),h3.lo⟩:=⟨_,rfl⟩
 have Kw:Le h hC:=by subst eC; exact oW.set (b:=bo) (by omega) _
 have nC:hC.nx=h3.nx:=by rw[eC]
 have lC:hC.lo=h3.lo:=by rw[eC]
 have gC:hC.bl.get bo=some (af ((Q.set i p1).flatMap aW) 54 true):=by subst eC; exact T.aa _ _ _
 have XT:hC.bl.get (h.nx+1)=some jq:=by subst eC; exact (T.aj _ _ jT).trans g3
 have Ws:hC.bl.get h2.nx=some (iE t r (.slice (some ⟨bo,0,none⟩) Q.length aN) w):=by subst eC; exact (T.aj _ _ sE).trans g12
 rw[←eC]
 have PF:iK hA hC (.slice (some ⟨bo,0,none⟩) Q.length aN) (Q.set i p1):=.inr ⟨bo,by rw[List.length_set],k1,by omega,by omega,gC⟩
 have I4:p.id=p1.id:=by rw[LF]
 have eup:ku p1=ku p:=by rw[LF]; rfl
 have afA:=NK hi I4
 have afB:=Q_ hi eup
 have NL:∀(g:Bool) (hD:Heap),hD.bl.get bo=some (af ((Q.set i p1).flatMap aW) 54 true)→hD.bl.get (h.nx+1)=some jq→hD.bl.get h2.nx=some (iE t r (.slice (some ⟨bo,0,none⟩) Q.length aN) w)→Le h hD→hC.nx≤hD.nx→
   dB Q w p m=(⟨p.id,p.x,wt,wt,p.s⟩,w,true)→
   dN (fun PE=>xO (.pointer (some ⟨bo,i*5,none⟩)) PE (.bool true) hD) fun l76 h_14=>
    vm False (h_14.bl.get h2.nx) 0 4 fun l=>Qk False (h_14.bl.get (h.nx+1)) 4 (h.nx+1) 0 l h_14 fun h_15=>vm False (h_15.bl.get (h.nx+1)) 0 4 fun l=>κ (.tuple ⟨[.agg ⟨l⟩,.bool true,.int .i64 0]⟩) h_15:=by
  intro g hD d1 d2 d3 hl hn he
  have ll:=hl.lo
  have lu:=ck (p':=⟨p.id,p.x,wt,wt,p.s⟩) (ws:=[.int .i64 wt]) (j:=2) aX hp2 (by show 2+1≤5; omega) (by rw[LF]; rfl)
  rw[List.set_set] at lu
  refine ⟨fun l h'=>HQ ⟨hD.nx,hD.bl.bf bo (af ((Q.set i ⟨p.id,p.x,wt,wt,p.s⟩).flatMap aW) 54 true),hD.lo⟩ h',?_,?_⟩
  ·simp(disch:=first|omega|simp only[Wd]<;>omega|with_unfolding_all rfl)only[Wz,xO,aU,d1,s3,lu]
   rfl
  ·intro l h' tc
   cases (show _=h' from tc)
   simp(disch:=first|omega|simp only[Wd]<;>omega|with_unfolding_all rfl)only[Wz,d3,d2]
   have key:=LB ha i p hi e2 hs
   rw[he] at key
   exact key _ _ (QV.blk (by show bo<hD.nx; omega) ((T.aj _ _ (fun e=>jT e.symm)).trans (T.aa _ _ _)) (by simp)) ((hl.set (b:=bo) (by omega) _).set (b:=h.nx+1) (by omega) _)
 have NM:∀(hD:Heap),hD.bl.get bo=some (af ((Q.set i p1).flatMap aW) 54 true)→hD.bl.get (h.nx+1)=some jq→hD.bl.get h2.nx=some (iE t r (.slice (some ⟨bo,0,none⟩) Q.length aN) w)→Le h hD→hC.nx≤hD.nx→
   dB Q w p m=(⟨p.id,p.x,p.m,wt,w+1⟩,w+1,false)→
   dN (fun PE=>xP h2.nx (.pointer (some ⟨bo,i*5,none⟩)) PE (.bool false) hD) fun l76 h_14=>
    vm False (h_14.bl.get h2.nx) 0 4 fun l=>Qk False (h_14.bl.get (h.nx+1)) 4 (h.nx+1) 0 l h_14 fun h_15=>vm False (h_15.bl.get (h.nx+1)) 0 4 fun l=>κ (.tuple ⟨[.agg ⟨l⟩,.bool false,.int .i64 0]⟩) h_15:=by
  intro hD d1 d2 d3 hl hn he
  have ll:=hl.lo
  have lu:=ck (p':=⟨p.id,p.x,p.m,wt,w+1⟩) (ws:=[.int .i64 (w+1)]) (j:=4) aX hp2 (by show 4+1≤5; omega) (by rw[LF]; rfl)
  rw[List.set_set] at lu
  refine ⟨fun l h'=>HQ ⟨hD.nx,(hD.bl.bf h2.nx (iE t r (.slice (some ⟨bo,0,none⟩) Q.length aN) (w+1))).bf bo (af ((Q.set i ⟨p.id,p.x,p.m,wt,w+1⟩).flatMap aW) 54 true),hD.lo⟩ h',?_,?_⟩
  ·simp(disch:=first|omega|simp only[Wd]<;>omega|with_unfolding_all rfl)only[Wz,xP,aU,d1,d3,lu]
   rfl
  ·intro l h' tc
   cases (show _=h' from tc)
   simp(disch:=first|omega|simp only[Wd]<;>omega|with_unfolding_all rfl)only[Wz,d3,d2]
   have key:=LB ha i p hi e2 hs
   rw[he] at key
   exact key _ _ (QV.blk (by show bo<hD.nx; omega) ((T.aj _ _ (fun e=>jT e.symm)).trans (T.aa _ _ _)) (by simp)) (((hl.set (b:=h2.nx) (by omega) _).set (b:=bo) (by omega) _).set (b:=h.nx+1) (by omega) _)
 by_cases hq1:wt=p.m
 ·simp(disch:=first|omega|simp only[Wd]<;>omega|with_unfolding_all rfl)only[Wz,aM hq1]
  exact NL true hC gC XT Ws Kw (Nat.le_refl _) (by unfold dB; rw[I3,if_pos (by simp[hq1])])
 ·have fa:(((Q.set i p1).flatMap aW).drop (i*5)).take 5=aW p1:=by
   have:=A6 (enc:=aW) aX (Q.set i p1) i (by simpa using hil)
   rw[this,(List.getElem?_eq_some_iff.1 hp2).2]
  simp(disch:=first|omega|simp only[Wd]<;>omega|with_unfolding_all rfl)only[Wz,aK hq1,g12,Ws,gC,fa]
  refine BO t r _ w p1 (Q.set i p1) hC _ PF.sl (by simp; omega) (by omega) ?_
  intro h5 iD
  have n5:=iD.nx
  have l5:=iD.lo
  have d1:=(iD.get bo (by omega)).trans gC
  have d2:=(iD.get (h.nx+1) (by omega)).trans XT
  have d3:=(iD.get h2.nx (by omega)).trans Ws
  have XR:=Kw.trans iD
  rw[afA]
  have aaX:cI Q p1=cI Q ⟨p.id,p.x,p.m,e8 p.m m,p.s⟩:=by rw[LF,I3]
  cases hft:cI Q p1 with
  | false=>
   simp(disch:=first|omega|simp only[Wd]<;>omega|with_unfolding_all rfl)only[Wz]
   refine NM h5 d1 d2 d3 XR n5 ?_
   unfold dB
   rw[I3,if_neg]
   rw[←I3,←aaX,hft,I3]
   simp[hq1]
  | true=>
   simp(disch:=first|omega|simp only[Wd]<;>omega|with_unfolding_all rfl)only[Wz,d3]
   refine mj (Q.set i p1) ku h5 _ _ _ (PF.sl.le iD) (by simp; omega) ?_ ?_
   ·intro o ho h6 κ6 Th hk6
    simp(disch:=first|omega|simp only[Wd]<;>omega|with_unfolding_all rfl)only[Wz,List.nil_append,List.append_nil]
    exact ya o (hk6 h6 (Le.refl _))
   ·intro h6 vp
    have n6:=vp.nx
    have l6:=vp.lo
    have d1:=(vp.get bo (by omega)).trans d1
    have d2:=(vp.get (h.nx+1) (by omega)).trans d2
    have d3:=(vp.get h2.nx (by omega)).trans d3
    have Th:=XR.trans vp
    rw[afB]
    cases han:Q.any ku with
    | true=>
     simp(disch:=first|omega|simp only[Wd]<;>omega|with_unfolding_all rfl)only[Wz]
     refine NM h6 d1 d2 d3 Th (by omega) ?_
     unfold dB
     rw[I3,if_neg]
     rw[han]
     simp[hq1]
    | false=>
     simp(disch:=first|omega|simp only[Wd]<;>omega|with_unfolding_all rfl)only[Wz]
     refine NL true h6 d1 d2 d3 Th (by omega) ?_
     unfold dB
     rw[I3,if_pos]
     rw[←I3,←aaX,hft,han]
     simp
end Go.Proofs
