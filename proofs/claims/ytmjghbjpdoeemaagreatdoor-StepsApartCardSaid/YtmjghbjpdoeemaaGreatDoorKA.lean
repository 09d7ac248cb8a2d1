/-
  PROVED HERE: a part of the proof (K0, K1, K2, K3, K4, K5, K6, K7, K8).
-/
import Derived.Test.YtmjghbjpdoeemaaGreatDoorV4
import Derived.Test.YtmjghbjpdoeemaaGreatDoorRZ
import Derived.Test.YtmjghbjpdoeemaaGreatDoorV5
set_option linter.unusedVariables false
set_option linter.unusedSimpArgs false
set_option maxRecDepth 100000
namespace Go.Proofs
open Go.Vai Go.Clashes
theorem mixed:Tryz.prog.follows .mixedOrders=true:=by kernel_rfl
def dK (t r:Int):Value:=.agg ⟨[.int .i64 t,.int .i64 r]⟩
theorem UU:∀i,i<7→∀j,j<7→bI Tryz.prog 200 210 [.int .i64 (.ofNat i),.int .i64 (.ofNat j)] (.bool (cmp (.ofNat i) (.ofNat j)))=true:=by decide +kernel
theorem UW (n:Nat) (b:Int):bI Tryz.prog 200 210 [.int .i64 (.negSucc n),.int .i64 b] (.bool false)=true:=by kernel_rfl
theorem UX (n:Nat) (b:Int):bI Tryz.prog 200 210 [.int .i64 (.ofNat (n+7)),.int .i64 b] (.bool false)=true:=by kernel_rfl
theorem UY:∀i,i<7→∀n:Nat,bI Tryz.prog 200 210 [.int .i64 (.ofNat i),.int .i64 (.negSucc n)] (.bool false)=true:=by
 refine seven ?_ ?_ ?_ ?_ ?_ ?_ ?_<;>intro n<;>kernel_rfl
theorem UZ:∀i,i<7→∀n:Nat,bI Tryz.prog 200 210 [.int .i64 (.ofNat i),.int .i64 (.ofNat (n+7))] (.bool false)=true:=by
 refine seven ?_ ?_ ?_ ?_ ?_ ?_ ?_<;>intro n<;>kernel_rfl
theorem IZ (a b:Int) {h:Heap} {κ:Value→Heap→Prop} (hk:κ (.bool (cmp a b)) h):CallW Tryz.prog 210 [.int .i64 a,.int .i64 b] h κ:=
 qC mixed (F:=fun a b=>.bool (cmp a b)) UU (fun n b=>by rw[Ib (qA n)]; exact UW n b) (fun n b=>by rw[Ib (qB n)]; exact UX n b) (fun i hi n=>by rw[NM (qA n)]; exact UY i hi n) (fun i hi n=>by rw[NM (qB n)]; exact UZ i hi n) a b hk
theorem U0:∀i,i<7→∀j,j<7→bI Tryz.prog 200 212 [.int .i64 (.ofNat i),.int .i64 (.ofNat j)] (.bool (lR (.ofNat i) (.ofNat j)))=true:=by decide +kernel
theorem U2 (n:Nat) (b:Int):bI Tryz.prog 200 212 [.int .i64 (.negSucc n),.int .i64 b] (.bool false)=true:=by kernel_rfl
theorem U3 (n:Nat) (b:Int):bI Tryz.prog 200 212 [.int .i64 (.ofNat (n+7)),.int .i64 b] (.bool false)=true:=by kernel_rfl
theorem U4:∀i,i<7→∀n:Nat,bI Tryz.prog 200 212 [.int .i64 (.ofNat i),.int .i64 (.negSucc n)] (.bool false)=true:=by
 refine seven ?_ ?_ ?_ ?_ ?_ ?_ ?_<;>intro n<;>kernel_rfl
theorem U5:∀i,i<7→∀n:Nat,bI Tryz.prog 200 212 [.int .i64 (.ofNat i),.int .i64 (.ofNat (n+7))] (.bool false)=true:=by
 refine seven ?_ ?_ ?_ ?_ ?_ ?_ ?_<;>intro n<;>kernel_rfl
theorem I1 (a b:Int) {h:Heap} {κ:Value→Heap→Prop} (hk:κ (.bool (lR a b)) h):CallW Tryz.prog 212 [.int .i64 a,.int .i64 b] h κ:=
 qC mixed (F:=fun a b=>.bool (lR a b)) U0 (fun n b=>by rw[NK (qA n)]; exact U2 n b) (fun n b=>by rw[NK (qB n)]; exact U3 n b) (fun i hi n=>by rw[NL (qA n)]; exact U4 i hi n) (fun i hi n=>by rw[NL (qB n)]; exact U5 i hi n) a b hk
theorem U6:∀i,i<7→∀j,j<7→bI Tryz.prog 200 208 [.int .i64 (.ofNat i),.int .i64 (.ofNat j)] (.int .i64 (cV (.ofNat i) (.ofNat j)))=true:=by decide +kernel
theorem U7 (n:Nat) (b:Int):bI Tryz.prog 200 208 [.int .i64 (.negSucc n),.int .i64 b] (.int .i64 0)=true:=by kernel_rfl
theorem U8 (n:Nat) (b:Int):bI Tryz.prog 200 208 [.int .i64 (.ofNat (n+7)),.int .i64 b] (.int .i64 0)=true:=by kernel_rfl
theorem U9:∀i,i<7→∀n:Nat,bI Tryz.prog 200 208 [.int .i64 (.ofNat i),.int .i64 (.negSucc n)] (.int .i64 0)=true:=by
 refine seven ?_ ?_ ?_ ?_ ?_ ?_ ?_<;>intro n<;>kernel_rfl
theorem U_:∀i,i<7→∀n:Nat,bI Tryz.prog 200 208 [.int .i64 (.ofNat i),.int .i64 (.ofNat (n+7))] (.int .i64 0)=true:=by
 refine seven ?_ ?_ ?_ ?_ ?_ ?_ ?_<;>intro n<;>kernel_rfl
theorem NR (a b:Int) {h:Heap} {κ:Value→Heap→Prop} (hk:κ (.int .i64 (cV a b)) h):CallW Tryz.prog 208 [.int .i64 a,.int .i64 b] h κ:=
 qC mixed (F:=fun a b=>.int .i64 (cV a b)) U6 (fun n b=>by rw[H_ (qA n)]; exact U7 n b) (fun n b=>by rw[H_ (qB n)]; exact U8 n b) (fun i hi n=>by rw[Ia (qA n)]; exact U9 i hi n) (fun i hi n=>by rw[Ia (qB n)]; exact U_ i hi n) a b hk
theorem pP (a:Int) {h:Heap} {κ:Value→Heap→Prop} (hk:κ (.bool (kn a)) h):CallW Tryz.prog 73 [.int .i64 a] h κ:=by
 refine fD (v:=.bool (kn a)) rfl rfl (aq mixed ?_) hk
 rw[Ux]
 by_cases h1:a<0
 ·simp(disch:=first|omega|simp only[Wd]<;>omega|with_unfolding_all rfl)only[Wz]; simp[kn]; omega
 ·by_cases h2:6<a
  ·simp(disch:=first|omega|simp only[Wd]<;>omega|with_unfolding_all rfl)only[Wz]; simp[kn]; omega
  ·simp(disch:=first|omega|simp only[Wd]<;>omega|with_unfolding_all rfl)only[Wz]; simp[kn]; omega
abbrev jF (r:R5):Value:=.agg ⟨bu r⟩
noncomputable abbrev hG (r:R5):bC:=aa [.int .i64 r.id,.int .i64 r.x,.int .i64 r.m,.int .i64 r.w,.int .i64 r.s] 83 false
def zR:List Value:=[.int .i64 0,.int .i64 0,.int .i64 0,.int .i64 0,.int .i64 0]
theorem ZB:Ek Tryz.prog 79:=⟨fun h n c n' c'=>by kernel_rfl,fun h a n c n' c'=>by kernel_rfl⟩
theorem I3 (a0 a1:Value) (h:Heap) (κ:KQ):aK Tryz.prog 268 [a0,a1] h κ=iH Tryz.prog 3 5 a0 a1 h κ:=by kernel_rfl
theorem Va (a0 a1:Value) (h:Heap) (κ:KQ):aK Tryz.prog 321 [a0,a1] h κ=jr Tryz.prog 3 268 a0 a1 h κ:=by kernel_rfl
theorem Vb (a0:Value) (h:Heap) (κ:KQ):aK Tryz.prog 139 [a0] h κ=yE Tryz.prog 79 83 5 zR a0 h κ:=by kernel_rfl
theorem Vc (a0 a1:Value) (h:Heap) (κ:KQ):aK Tryz.prog 315 [a0,a1] h κ=lz Tryz.prog 3 268 83 5 zR a0 a1 h κ:=by kernel_rfl
theorem uy (L:List R5) (F:R5→Bool) (h:Heap) (v fv:Value) (κ:KQ) (hv:Sl bu h v L) (hlen:L.length≤1000000)
  (hF:∀p,p∈L→∀(h1:Heap) (κ1:Value→Heap→Prop),Le h h1→(∀h2,Le h1 h2→κ1 (.bool (F p)) h2)→iE Tryz.prog fv [jF p] h1 κ1)
  (hk:∀h',Le h h'→κ (.int .i64 (iG (L.findIdx? F))) h'):CallW Tryz.prog 268 [v,fv] h κ:=
 oA mixed bZ I3 L F h v fv κ hv hlen hF hk
theorem mG (L:List R5) (F:R5→Bool) (h:Heap) (v fv:Value) (κ:KQ) (hv:Sl bu h v L) (hlen:L.length≤1000000)
  (hF:∀p,p∈L→∀(h1:Heap) (κ1:Value→Heap→Prop),Le h h1→(∀h2,Le h1 h2→κ1 (.bool (F p)) h2)→iE Tryz.prog fv [jF p] h1 κ1)
  (hk:∀h',Le h h'→κ (.bool (L.any F)) h'):CallW Tryz.prog 321 [v,fv] h κ:=
 wj mixed bZ I3 Va L F h v fv κ hv hlen hF hk
abbrev qI (a h:Heap) (v:Value) (L:List R5):Prop:=fS bu a 83 h v L
theorem Bx (L:List R5) (h:Heap) (v:Value) (κ:KQ) (hv:Sl bu h v L) (hlen:L.length≤1000000) (hlo:h.lo≤h.nx) (hk:∀v' h',qI h h' v' L→Le h h'→κ v' h'):CallW Tryz.prog 139 [v] h κ:=
 Pd mixed bZ tK (by decide) (by decide) ZB Vb L h v κ hv hlen hlo hk
theorem FT (a h:Heap) (L:List R5) (F:R5→Bool) (v fv:Value) (κ:KQ) (hle:Le a h) (ho:qI a h v L) (hlen:L.length≤100000) (hlo:a.lo≤a.nx)
  (hF:∀p,∀(h1:Heap) (κ1:Value→Heap→Prop),Le a h1→(h.nx≤h1.nx∧∀c,c<h.nx→h.bl.get c≠some (aa (L.flatMap bu) 83 true)→h1.bl.get c=h.bl.get c)→(∀h2,Le h1 h2→κ1 (.bool (F p)) h2)→iE Tryz.prog fv [jF p] h1 κ1)
  (hk:∀v' h',Sl bu h' v' (L.filter fun p=>!F p)→Cut 83 5 h' v' (L.filter fun p=>!F p).length→Le a h'→(h.nx≤h'.nx∧∀c,c<h.nx→h.bl.get c≠some (aa (L.flatMap bu) 83 true)→h'.bl.get c=h.bl.get c)→tJ 83 h' v'→κ v' h'):CallW Tryz.prog 315 [v,fv] h κ:=
 CT mixed bZ tK (by decide) rfl rfl (by decide) I3 Vc a h L F v fv κ hle ho hlen hlo hF hk
theorem QW {h:Heap} {v:Value} {L:List R5} (hs:Sl bu h v L) (i:Nat) {p:R5} (hp:L[i]? = some p) :
  ∃b o,b<h.nx∧(∀(β:Type) (fl:β) (h':Heap) (κ:Value→Heap→β),ax fl 5 v (.int .i64 (i:Int)) h' κ=κ (.pointer (some ⟨b,o,none⟩)) h')∧
   ((∀(β:Type) (fl:β) (κ:List Value→β),zm fl (h.bl.get b) o 5 κ=κ (bu p))∧
   (∀(β:Type) (fl:β) (κ:Value→β),o_ fl (h.bl.get b) o κ=κ (.int .i64 p.id))∧
   (∀(β:Type) (fl:β) (κ:Value→β),o_ fl (h.bl.get b) (o+1) κ=κ (.int .i64 p.x))∧
   (∀(β:Type) (fl:β) (κ:Value→β),o_ fl (h.bl.get b) (o+2) κ=κ (.int .i64 p.m))∧
   (∀(β:Type) (fl:β) (κ:Value→β),o_ fl (h.bl.get b) (o+3) κ=κ (.int .i64 p.w))∧
   (∀(β:Type) (fl:β) (κ:Value→β),o_ fl (h.bl.get b) (o+4) κ=κ (.int .i64 p.s))):=by
 obtain ⟨b,o,h1,h2,h3,hh⟩:=hs.ld bZ i hp
 have h5:(bu p).length=5:=rfl
 exact ⟨b,o,h1,h2,h3,fun β fl κ=>cL (fl:=fl) hh 0 κ (by omega),fun β fl κ=>cL (fl:=fl) hh 1 κ (by omega),fun β fl κ=>cL (fl:=fl) hh 2 κ (by omega),fun β fl κ=>cL (fl:=fl) hh 3 κ (by omega),fun β fl κ=>cL (fl:=fl) hh 4 κ (by omega)⟩
theorem yR (r:R5) {h:Heap} {κ:Value→Heap→Prop} (hk:κ (.bool (decide (r.m≠0))) h):CallW Tryz.prog 237 [jF r] h κ:=by
 refine fD (v:=.bool (decide (r.m≠0))) rfl rfl (aq mixed ?_) hk
 rw[Qi]
 simp(disch:=first|omega|simp only[Wd]<;>omega|with_unfolding_all rfl)only[Wz,bu]
 simp
theorem EN (r:R5) {h:Heap} {κ:Value→Heap→Prop} (hk:κ (.bool (decide (0<r.s))) h):CallW Tryz.prog 192 [jF r] h κ:=by
 refine fD (v:=.bool (decide (0<r.s))) rfl rfl (aq mixed ?_) hk
 rw[P7]
 simp(disch:=first|omega|simp only[Wd]<;>omega|with_unfolding_all rfl)only[Wz,bu]
theorem uz (r:R5) {h:Heap} {κ:Value→Heap→Prop} (hk:κ (.bool (rj r)) h):CallW Tryz.prog 238 [jF r] h κ:=by
 refine fD (v:=.bool (rj r)) rfl rfl (aq mixed ?_) hk
 rw[Qj]
 simp(disch:=first|omega|simp only[Wd]<;>omega|with_unfolding_all rfl)only[Wz,bu]
 refine yR r ?_
 by_cases h1:r.m=0
 ·simp(disch:=first|omega|simp only[Wd]<;>omega|with_unfolding_all rfl)only[Wz,aG (show ¬r.m≠0 by omega)]
  simp[rj,h1]
 ·simp(disch:=first|omega|simp only[Wd]<;>omega|with_unfolding_all rfl)only[Wz,aZ (show r.m≠0 from h1)]
  refine EN r ?_
  simp[rj,h1]
theorem By (m:Int) {h:Heap} {κ:Value→Heap→Prop} (hk:κ (.bool (bK m)) h):CallW Tryz.prog 320 [.int .i64 m] h κ:=by
 refine fD (v:=.bool (bK m)) rfl rfl (aq mixed ?_) hk
 rw[QK]
 by_cases h0:m=0
 ·simp(disch:=first|omega|simp only[Wd]<;>omega|with_unfolding_all rfl)only[Wz,aZ h0]
  simp[bK,h0]
 ·simp(disch:=first|omega|simp only[Wd]<;>omega|with_unfolding_all rfl)only[Wz,aG h0]
  refine pP m ?_
  simp[bK,h0]
def jG (t r:Int) (q:Value) (w:Int):Value:=.agg ⟨[.int .i64 t,.int .i64 r,q,.int .i64 w]⟩
theorem uA {h:Heap} {q:Value} {Q:List R5} (hq:Sl bu h q Q):q.cells.toList=[q]∧dR q=true:=by
 obtain ⟨x,cap,rfl,_⟩:=hq; exact ⟨rfl,rfl⟩
theorem I4 (id:Int) (r:R5) (b:Nat) (h:Heap) (κ:KQ) (hlo:h.lo≤h.nx) (hb:b<h.nx) (hg:h.bl.get b=some (aa [.int .i64 id] 3 false)) (hk:∀h',Le h h'→κ (.bool (bP id r)) h') :
  CallW Tryz.prog 269 [jF r,ptrTo b] h κ:=by
 have hk:=hk _ ((Le.refl h).new (hG r))
 refine aq mixed ?_
 rw[Qv]
 simp(disch:=first|omega|simp only[Wd]<;>omega|with_unfolding_all rfl)only[Wz,bu,hg]
 exact hk
theorem uB (t r:Int) (q:Value) (w id:Int) (Q:List R5) (h:Heap) (κ:KQ) (hq:Sl bu h q Q) (hlen:Q.length≤1000000) (hlo:h.lo≤h.nx) (hk:∀h',Le h h'→κ (.int .i64 (iG (Q.findIdx? (bP id)))) h') :
  CallW Tryz.prog 236 [jG t r q w,.int .i64 id] h κ:=by
 obtain ⟨hc,ho⟩:=uA hq
 refine aq mixed ?_
 rw[Qh]
 simp(disch:=first|omega|simp only[Wd]<;>omega|with_unfolding_all rfl)only[Wz,jG]
 obtain ⟨hA,eA⟩:∃hA:Heap,hA=⟨h.nx+1+1,(h.bl.aW h.nx (aa [.int .i64 t,.int .i64 r,q,.int .i64 w] 305 false)).aW (h.nx+1) (aa [.int .i64 id] 3 false),h.lo⟩:=⟨_,rfl⟩
 have nJ:Le h hA:=by subst eA; exact ((Le.refl h).new _).new _
 have g3:hA.bl.get (h.nx+1)=some (aa [.int .i64 id] 3 false):=by subst eA; exact T.af _ _ _
 have nA:hA.nx=h.nx+1+1:=by subst eA; rfl
 have lA:hA.lo=h.lo:=by subst eA; rfl
 rw[←eA]
 clear eA
 refine uy Q (bP id) hA q _ _ (hq.le nJ) hlen ?_ fun h' hl=>hk h' (nJ.trans hl)
 intro p hp h1 κ1 tI jc
 have n1:=tI.nx
 have l1:=tI.lo
 simp(disch:=first|omega|simp only[Wd]<;>omega|with_unfolding_all rfl)only[Wz,List.nil_append,List.cons_append]
 exact I4 id p (h.nx+1) h1 κ1 (by omega) (by omega) ((tI.get _ (by omega)).trans g3) jc
def ru (r o:R5):Bool:=decide (o.id≠r.id) && decide (o.m≠0) && !cmp o.m r.w
theorem LZ (r o:R5) (b:Nat) (h:Heap) (κ:KQ) (hlo:h.lo≤h.nx) (hb:b<h.nx) (hg:h.bl.get b=some (hG r)) (hk:∀h',Le h h'→κ (.bool (ru r o)) h') :
  CallW Tryz.prog 334 [jF o,ptrTo b] h κ:=by
 have hk:=hk _ ((Le.refl h).new (hG o))
 refine aq mixed ?_
 rw[QM]
 by_cases h1:o.id=r.id
 ·simp(disch:=first|omega|simp only[Wd]<;>omega|with_unfolding_all rfl)only[Wz,bu,hg,aZ h1]
  have e:ru r o=false:=by simp[ru,h1]
  rw[e] at hk; exact hk
 ·simp(disch:=first|omega|simp only[Wd]<;>omega|with_unfolding_all rfl)only[Wz,bu,hg,aG h1]
  refine yR o ?_
  by_cases h2:o.m=0
  ·simp(disch:=first|omega|simp only[Wd]<;>omega|with_unfolding_all rfl)only[Wz,aG (show ¬o.m≠0 by omega)]
   have e:ru r o=false:=by simp[ru,h2]
   rw[e] at hk; exact hk
  ·simp(disch:=first|omega|simp only[Wd]<;>omega|with_unfolding_all rfl)only[Wz,aZ (show o.m≠0 from h2),hg]
   refine IZ _ _ ?_
   simp(disch:=first|omega|simp only[Wd]<;>omega|with_unfolding_all rfl)only[Wz]
   have e:ru r o=!cmp o.m r.w:=by simp[ru,h1,h2]
   rw[e] at hk; exact hk
theorem yS (t r':Int) (q:Value) (w:Int) (r:R5) (Q:List R5) (h:Heap) (κ:KQ) (hq:Sl bu h q Q) (hlen:Q.length≤1000000) (hlo:h.lo≤h.nx) (hk:∀h',Le h h'→κ (.bool (fM Q r)) h') :
  CallW Tryz.prog 317 [jG t r' q w,jF r] h κ:=by
 obtain ⟨hc,ho⟩:=uA hq
 refine aq mixed ?_
 rw[QH]
 simp(disch:=first|omega|simp only[Wd]<;>omega|with_unfolding_all rfl)only[Wz,jG,bu]
 obtain ⟨hA,eA⟩:∃hA:Heap,hA=⟨h.nx+1+1,(h.bl.aW h.nx (aa [.int .i64 t,.int .i64 r',q,.int .i64 w] 305 false)).aW (h.nx+1) (hG r),h.lo⟩:=⟨_,rfl⟩
 have nJ:Le h hA:=by subst eA; exact ((Le.refl h).new _).new _
 have g3:hA.bl.get (h.nx+1)=some (hG r):=by subst eA; exact T.af _ _ _
 have nA:hA.nx=h.nx+1+1:=by subst eA; rfl
 have lA:hA.lo=h.lo:=by subst eA; rfl
 rw[←eA]
 clear eA
 refine mG Q (ru r) hA q _ _ (hq.le nJ) hlen ?_ ?_
 ·intro p hp h1 κ1 tI jc
  have n1:=tI.nx
  have l1:=tI.lo
  simp(disch:=first|omega|simp only[Wd]<;>omega|with_unfolding_all rfl)only[Wz,List.nil_append,List.cons_append]
  exact LZ r p (h.nx+1) h1 κ1 (by omega) (by omega) ((tI.get _ (by omega)).trans g3) jc
 ·intro h' hl
  simp(disch:=first|omega|simp only[Wd]<;>omega|with_unfolding_all rfl)only[Wz]
  exact hk h' (nJ.trans hl)
theorem I5 (r:R5) {h:Heap} {κ:Value→Heap→Prop} (hk:κ (.bool (decide (r.m=0))) h):CallW Tryz.prog 335 [jF r] h κ:=by
 refine fD (v:=.bool (decide (r.m=0))) rfl rfl (aq mixed ?_) hk
 rw[QN]
 simp(disch:=first|omega|simp only[Wd]<;>omega|with_unfolding_all rfl)only[Wz,bu]
 refine yR r ?_
 simp(disch:=first|omega|simp only[Wd]<;>omega|with_unfolding_all rfl)only[Wz]
 simp
theorem Bz (t r':Int) (q:Value) (w:Int) (Q:List R5) (h:Heap) (κ:KQ) (hq:Sl bu h q Q) (hlen:Q.length≤1000000) (hlo:h.lo≤h.nx) (hk:∀h',Le h h'→κ (.int .i64 (iG (dD Q))) h') :
  CallW Tryz.prog 318 [jG t r' q w] h κ:=by
 obtain ⟨hc,ho⟩:=uA hq
 refine aq mixed ?_
 rw[QI]
 simp(disch:=first|omega|simp only[Wd]<;>omega|with_unfolding_all rfl)only[Wz,jG]
 obtain ⟨hA,eA⟩:∃hA:Heap,hA=⟨h.nx+1,h.bl.aW h.nx (aa [.int .i64 t,.int .i64 r',q,.int .i64 w] 305 false),h.lo⟩:=⟨_,rfl⟩
 have nJ:Le h hA:=by subst eA; exact (Le.refl h).new _
 have gA:hA.bl.get h.nx=some (aa [.int .i64 t,.int .i64 r',q,.int .i64 w] 305 false):=by subst eA; exact T.af _ _ _
 have nA:hA.nx=h.nx+1:=by subst eA; rfl
 have lA:hA.lo=h.lo:=by subst eA; rfl
 rw[←eA]
 clear eA
 simp(disch:=first|omega|simp only[Wd]<;>omega|with_unfolding_all rfl)only[Wz,hq.len]
 refine ⟨fun n l h1=>∃i:Nat,slot l 27=.int .i64 (i:Int)∧slot l 25=.int .i64 (iG (best Q i))∧i≤Q.length∧n=Q.length-i∧Le hA h1,⟨_,0,rfl,rfl,Nat.zero_le _,rfl,Le.refl _⟩,?_⟩
 rintro n l h1 ⟨i,s1,s2,hi,rfl,hle⟩
 have n1:=hle.nx
 have l1:=hle.lo
 have g1:=(hle.get h.nx (by omega)).trans gA
 have hq1:=hq.le (nJ.trans hle)
 by_cases hlt:i<Q.length
 ·obtain ⟨p,hp⟩:∃p,Q[i]? = some p:=⟨_,List.getElem?_eq_getElem hlt⟩
  obtain ⟨b,o,hb,vA,nu⟩:=QW hq1 i hp
  have EO:best Q (i+1)=if (rj p && xk Q p (best Q i))=true then some i else best Q i:=by
   show (match Q[i]? with | some r=>_ | none=>_)=_
   rw[hp]
  simp(disch:=first|omega|simp only[Wd]<;>omega|with_unfolding_all rfl)only[Wz,s1,uw]
  refine ⟨fun l' h'=>slot l' 24=.int .i64 (iG (best Q (i+1)))∧Le hA h',?_,?_⟩
  ·simp(disch:=first|omega|simp only[Wd]<;>omega|with_unfolding_all rfl)only[Wz,Bv,s1,s2,vA,nu,bu]
   obtain ⟨hB,eB⟩:∃hB:Heap,hB=⟨h1.nx+1,h1.bl.aW h1.nx (hG p),h1.lo⟩:=⟨_,rfl⟩
   have uC:Le h1 hB:=by subst eB; exact (Le.refl h1).new _
   have gB:hB.bl.get h1.nx=some (hG p):=by subst eB; exact T.af _ _ _
   have gB1:=(uC.get h.nx (by omega)).trans g1
   have nB:hB.nx=h1.nx+1:=by subst eB; rfl
   have lB:hB.lo=h1.lo:=by subst eB; rfl
   rw[←eB]
   clear eB
   refine uz p ?_
   cases hu:rj p with
   | false=>
    simp(disch:=first|omega|simp only[Wd]<;>omega|with_unfolding_all rfl)only[Wz,s2]
    refine ⟨?_,hle.trans uC⟩
    rw[EO,hu]; simp[s2]
   | true=>
    cases rN:best Q i with
    | none=>
     simp(disch:=first|omega|simp only[Wd]<;>omega|with_unfolding_all rfl)only[Wz,s2,iG,fI (show (-1:Int)<0 by decide),rN]
     refine ⟨?_,hle.trans uC⟩
     rw[EO,hu,rN]; rfl
    | some k=>
     obtain ⟨Xa,pk,hpk,_⟩:=Em Q i k rN
     obtain ⟨b',o',hb',ZC,ZD⟩:=QW (hq1.le uC) k hpk
     have NS:xk Q p (some k)=decide (p.s<pk.s):=by simp only[xk,hpk]
     simp(disch:=first|omega|simp only[Wd]<;>omega|with_unfolding_all rfl)only[Wz,s2,iG,c6 (show (0:Int)≤(k:Int) by omega),rN,gB,gB1,ZC,ZD]
     by_cases hs:p.s<pk.s
     ·simp(disch:=first|omega|simp only[Wd]<;>omega|with_unfolding_all rfl)only[Wz,aZ hs]
      refine ⟨?_,hle.trans uC⟩
      rw[EO,hu,rN,NS,aZ hs]; rfl
     ·simp(disch:=first|omega|simp only[Wd]<;>omega|with_unfolding_all rfl)only[Wz,aG hs]
      refine ⟨?_,hle.trans uC⟩
      rw[EO,hu,rN,NS,aG hs]
      first | rfl | (rw[s2,rN]; rfl)
  ·rintro l' h' ⟨k1,k2⟩
   exact ⟨_,by omega,i+1,rfl,k1,by omega,rfl,k2⟩
 ·have hil:i=Q.length:=by omega
  subst hil
  simp(disch:=first|omega|simp only[Wd]<;>omega|with_unfolding_all rfl)only[Wz,s1,uw]
  refine ⟨fun l' h'=>slot l' 6=.int .i64 (iG (dD Q))∧Le hA h',?_,?_⟩
  rotate_left
  ·rintro l' h' ⟨k1,k2⟩
   show κ (slot l' 6) h'
   rw[k1]; exact hk h' (nJ.trans k2)
  cases rN:best Q Q.length with
  | some k=>
   have e:dD Q=some k:=by simp only[dD,rN]
   simp(disch:=first|omega|simp only[Wd]<;>omega|with_unfolding_all rfl)only[Wz,uv,s2,rN,iG,c6 (show (0:Int)≤(k:Int) by omega)]
   refine ⟨?_,hle⟩
   rw[e]
  | none=>
   have e:dD Q=Q.findIdx? (fun r=>decide (r.m=0)):=by simp only[dD,rN]
   simp(disch:=first|omega|simp only[Wd]<;>omega|with_unfolding_all rfl)only[Wz,uv,s2,rN,iG,fI (show (-1:Int)<0 by decide),g1]
   refine uy Q (fun r=>decide (r.m=0)) h1 q _ _ hq1 hlen ?_ ?_
   ·intro p hp h2 κ2 FG hk2
    simp(disch:=first|omega|simp only[Wd]<;>omega|with_unfolding_all rfl)only[Wz,List.nil_append,List.append_nil]
    exact I5 p (hk2 h2 (Le.refl _))
   ·intro h' hl
    refine ⟨?_,hle.trans hl⟩
    rw[e]; rfl
theorem fS.base {α:Type} {enc:α→List Value} {a a' h:Heap} {e:TypeId} {v:Value} {L:List α} (ho:fS enc a e h v L) (hn:a'.nx≤a.nx):fS enc a' e h v L:=by
 rcases ho with ho | ⟨b,h0,h1,h2⟩
 ·exact .inl ho
 ·exact .inr ⟨b,h0,Nat.le_trans hn h1,h2⟩
theorem fS.same {α:Type} {enc:α→List Value} {a h h':Heap} {e:TypeId} {v:Value} {L:List α} (ho:fS enc a e h v L) (hn:h.nx≤h'.nx) (hl:h'.lo=h.lo) (hs:∀b,a.nx≤b→b<h.nx→h'.bl.get b=h.bl.get b):fS enc a e h' v L:=by
 rcases ho with ho | ⟨b,h0,h1,h2,h3,h4⟩
 ·exact .inl ho
 ·exact .inr ⟨b,h0,h1,Nat.lt_of_lt_of_le h2 hn,by rw[hl]; exact h3,by rw[hs b h1 h2]; exact h4⟩
theorem EP (t r:Int) (q:Value) (w:Int) (Q:List R5) (h:Heap) (κ:KQ) (hq:Sl bu h q Q) (hlen:Q.length≤1000000) (hlo:h.lo≤h.nx) (hk:∀q' h',qI h h' q' Q→Le h h'→κ (jG t r q' w) h') :
  CallW Tryz.prog 287 [jG t r q w] h κ:=by
 obtain ⟨qx,qc,rfl,_⟩:=id hq
 refine aq mixed ?_
 rw[Qw]
 simp(disch:=first|omega|simp only[Wd]<;>omega|with_unfolding_all rfl)only[Wz,jG]
 obtain ⟨hA,eA⟩:∃hA:Heap,hA=⟨h.nx+1+1,(h.bl.aW h.nx (aa [.int .i64 t,.int .i64 r,.slice qx Q.length qc,.int .i64 w] 81 false)).aW (h.nx+1) (aa [.int .i64 0,.int .i64 0,.slice none 0 0,.int .i64 0] 305 false),h.lo⟩:=⟨_,rfl⟩
 have nJ:Le h hA:=by subst eA; exact ((Le.refl h).new _).new _
 have g1:hA.bl.get h.nx=some (aa [.int .i64 t,.int .i64 r,.slice qx Q.length qc,.int .i64 w] 81 false):=by subst eA; exact (T.ai _ _ (by omega)).trans (T.af _ _ _)
 have g3:hA.bl.get (h.nx+1)=some (aa [.int .i64 0,.int .i64 0,.slice none 0 0,.int .i64 0] 305 false):=by subst eA; exact T.af _ _ _
 have nA:hA.nx=h.nx+1+1:=by subst eA; rfl
 have lA:hA.lo=h.lo:=by subst eA; rfl
 rw[←eA]
 clear eA
 refine Bx Q hA _ _ (hq.le nJ) hlen (by omega) ?_
 intro q' h2 yj hle2
 have n2:=hle2.nx
 have l2:=hle2.lo
 have g12:=(hle2.get h.nx (by omega)).trans g1
 have ZE:=(hle2.get (h.nx+1) (by omega)).trans g3
 have hle:=(nJ.trans hle2)
 obtain ⟨Vd,Ve,rfl,_⟩:=id yj.sl
 simp(disch:=first|omega|simp only[Wd]<;>omega|with_unfolding_all rfl)only[Wz,g12,ZE]
 refine hk _ _ ?_ ?_
 ·refine fS.base (fS.same yj (Nat.le_refl _) rfl fun b h1 _=>?_) (by omega)
  exact (T.ai _ _ (by omega)).trans (T.ai _ _ (by omega))
 ·exact (hle.set (b:=h.nx) (Nat.le_refl _) _).set (b:=h.nx+1) (Nat.le_succ _) _
def mH (id x:Int) (r:R5):Bool:=decide (r.id=id) || decide (r.x=x)
theorem QX (id x:Int) (r:R5) (b3 b5:Nat) (h:Heap) (κ:KQ) (hlo:h.lo≤h.nx) (OS:b3<h.nx) (hb5:b5<h.nx) (hg3:h.bl.get b3=some (aa [.int .i64 id] 3 false)) (Sy:h.bl.get b5=some (aa [.int .i64 x] 3 false))
  (hk:∀h',Le h h'→κ (.bool (mH id x r)) h'):CallW Tryz.prog 322 [jF r,ptrTo b3,ptrTo b5] h κ:=by
 have hk:=hk _ ((Le.refl h).new (hG r))
 refine aq mixed ?_
 rw[QL]
 by_cases h1:r.id=id
 ·simp(disch:=first|omega|simp only[Wd]<;>omega|with_unfolding_all rfl)only[Wz,bu,hg3,Sy,aZ h1]
  have e:mH id x r=true:=by simp[mH,h1]
  rw[e] at hk; exact hk
 ·simp(disch:=first|omega|simp only[Wd]<;>omega|with_unfolding_all rfl)only[Wz,bu,hg3,Sy,aG h1]
  have e:mH id x r=decide (r.x=x):=by simp[mH,h1]
  rw[e] at hk; exact hk
theorem fS.put {α:Type} {enc:α→List Value} {a h:Heap} {e:TypeId} {v:Value} {L:List α} (ho:fS enc a e h v L) {c:Nat} (hc:h.bl.get c≠some (aa (L.flatMap enc) e true)) (o:bC):fS enc a e ⟨h.nx,h.bl.aW c o,h.lo⟩ v L:=by
 rcases ho with ho | ⟨b,h0,h1,h2,h3,h4⟩
 ·exact .inl ho
 ·refine .inr ⟨b,h0,h1,h2,h3,(T.ai _ _ ?_).trans h4⟩
  rintro rfl
  exact hc h4
theorem I6 (t r:Int) (qx:Option Addr) (qc:Nat) (w:Int) (p:R5) (g:Bool) (vF FQ b7:Nat) (Q:List R5) (a h:Heap) (κ:KQ) (ho:qI a h (.slice qx Q.length qc) Q) (hle:Le a h) (hlen:Q.length≤100000) (hlo:h.lo≤h.nx)
  (ZF:vF<h.nx) (aeF:FQ<h.nx) (Vf:b7<h.nx) (hd:vF≠b7) (aeG:h.lo≤vF) (hl7:h.lo≤b7)
  (Vg:h.bl.get vF=some (aa [.int .i64 t,.int .i64 r,.slice qx Q.length qc,.int .i64 w] 305 false)) (ZG:h.bl.get FQ=some (hG p)) (g7:h.bl.get b7=some (aa [.int .i64 0,.int .i64 0,.slice none 0 0,.int .i64 0] 81 false))
  (hk:∀q' h',qI a h' q' (Q++[p])→(h.nx≤h'.nx∧h'.lo=h.lo∧∀b,b<a.nx→b≠vF→b≠b7→h'.bl.get b=a.bl.get b)→κ (.tuple ⟨[jG t r q' w,.bool g,.int .i64 0]⟩) h') :
  pO vF FQ b7 (.bool g) h κ:=by
 simp(disch:=first|omega|simp only[Wd]<;>omega|with_unfolding_all rfl)only[Wz,pO,Vg,ZG]
 have hle1:=(Le.refl h).new (hG p)
 refine h_ (enc:=bu) (a:=a) (L:=Q) (M:=[p]) bZ tK (by decide) (by decide) (ho.le hle1) (Sl.new (L:=[p]) (e:=83) (op:=false) (Nat.lt_succ_self _) (T.af _ _ _) _) (hle.new _) (by simp; omega) (by show h.lo≤h.nx+1; omega) _ ?_
 intro v' h' ho' hle' yc hn2 hl' hsame
 obtain ⟨Vd,Ve,rfl,_⟩:=(show Sl bu h' v' (Q++[p]) from ho'.sl)
 have n1:h.nx+1≤h'.nx:=hn2
 have k1:∀b,b<h.nx→h.bl.get b≠some (aa (Q.flatMap bu) 83 true)→h'.bl.get b=h.bl.get b:=by
  intro b hb hne
  have e:(h.bl.aW h.nx (hG p)).get b=h.bl.get b:=T.ai _ _ (by omega)
  exact (hsame b (Nat.lt_succ_of_lt hb) (fun k=>hne (by rw[←e]; exact k))).trans e
 have Vh:=(k1 vF ZF (by rw[Vg]; exact bf)).trans Vg
 have g7':=(k1 b7 Vf (by rw[g7]; exact bf)).trans g7
 have FG:h'.lo=h.lo:=hl'
 simp(disch:=first|omega|simp only[Wd]<;>omega|with_unfolding_all rfl)only[Wz,Vh,g7']
 refine hk _ _ ?_ ⟨by show h.nx≤h'.nx; omega,FG,?_⟩
 ·refine fS.put (fS.put ho' (by rw[Vh]; exact bf) _) ?_ _
  show (h'.bl.aW vF _).get b7≠_
  rw[T.ai _ _ hd,g7']
  exact bf
 ·intro b hb h1 h2
  exact (T.ai _ _ (fun e=>h2 e.symm)).trans ((T.ai _ _ (fun e=>h1 e.symm)).trans (hle'.get b hb))
theorem Vi (t r:Int) (q:Value) (w id x m:Int) (Q:List R5) (h:Heap) (κ:KQ) (hq:Sl bu h q Q) (hlen:Q.length≤100000) (hlo:h.lo≤h.nx) (hw:0≤w∧w≤1000000) (hid:0≤id) (hm:bK m=true) (hn:∀p∈Q,p.id≠id∧p.x≠x)
  (hk:∀q' h',qI h h' q' (Q++[(iQ Q w id x m).1])→Le h h'→κ (.tuple ⟨[jG t r q' (iQ Q w id x m).2.1,.bool (iQ Q w id x m).2.2,.int .i64 0]⟩) h') :
  CallW Tryz.prog 293 [jG t r q w,.int .i64 id,.int .i64 x,.int .i64 m] h κ:=by
 obtain ⟨qx,qc,rfl,_⟩:=(show Sl bu h q Q from hq)
 refine aq mixed ?_
 rw[QC]
 simp(disch:=first|omega|simp only[Wd]<;>omega|with_unfolding_all rfl)only[Wz,jG]
 obtain ⟨hA,eA⟩:∃hA:Heap,hA=⟨h.nx+1+1+1+1,(((h.bl.aW h.nx (aa [.int .i64 t,.int .i64 r,.slice qx Q.length qc,.int .i64 w] 81 false)).aW (h.nx+1) (aa [.int .i64 id] 3 false)).aW (h.nx+1+1) (aa [.int .i64 x] 3 false)).aW (h.nx+1+1+1) (aa [.int .i64 0,.int .i64 0,.slice none 0 0,.int .i64 0] 81 false),h.lo⟩:=⟨_,rfl⟩
 have nJ:Le h hA:=by subst eA; exact ((((Le.refl h).new _).new _).new _).new _
 have g1:hA.bl.get h.nx=some (aa [.int .i64 t,.int .i64 r,.slice qx Q.length qc,.int .i64 w] 81 false):=by subst eA; exact (T.ai _ _ (by omega)).trans ((T.ai _ _ (by omega)).trans ((T.ai _ _ (by omega)).trans (T.af _ _ _)))
 have g3:hA.bl.get (h.nx+1)=some (aa [.int .i64 id] 3 false):=by subst eA; exact (T.ai _ _ (by omega)).trans ((T.ai _ _ (by omega)).trans (T.af _ _ _))
 have g5:hA.bl.get (h.nx+1+1)=some (aa [.int .i64 x] 3 false):=by subst eA; exact (T.ai _ _ (by omega)).trans (T.af _ _ _)
 have g7:hA.bl.get (h.nx+1+1+1)=some (aa [.int .i64 0,.int .i64 0,.slice none 0 0,.int .i64 0] 81 false):=by subst eA; exact T.af _ _ _
 have nA:hA.nx=h.nx+1+1+1+1:=by subst eA; rfl
 have lA:hA.lo=h.lo:=by subst eA; rfl
 rw[←eA]
 clear eA
 refine By m ?_
 rw[hm]
 simp(disch:=first|omega|simp only[Wd]<;>omega|with_unfolding_all rfl)only[Wz,Br,g1,g3,g5]
 refine mG Q (mH id x) hA _ _ _ (hq.le nJ) (by omega) ?_ ?_
 ·intro p hp h1 κ1 tI jc
  have n1:=tI.nx
  have l1:=tI.lo
  simp(disch:=first|omega|simp only[Wd]<;>omega|with_unfolding_all rfl)only[Wz,List.nil_append,List.cons_append]
  exact QX id x p (h.nx+1) (h.nx+1+1) h1 κ1 (by omega) (by omega) (by omega) ((tI.get _ (by omega)).trans g3) ((tI.get _ (by omega)).trans g5) jc
 intro h2 hle2
 have n2:=hle2.nx
 have l2:=hle2.lo
 have hno:Q.any (mH id x)=false:=by
  rw[List.any_eq_false]
  intro p hp
  simp[mH,(hn p hp).1,(hn p hp).2]
 rw[hno]
 have g12:=(hle2.get h.nx (by omega)).trans g1
 have ZE:=(hle2.get (h.nx+1) (by omega)).trans g3
 have g52:=(hle2.get (h.nx+1+1) (by omega)).trans g5
 have g72:=(hle2.get (h.nx+1+1+1) (by omega)).trans g7
 simp(disch:=first|omega|simp only[Wd]<;>omega|with_unfolding_all rfl)only[Wz,Bq,g12]
 refine EP t r _ w Q h2 _ (hq.le (nJ.trans hle2)) (by omega) (by omega) ?_
 intro q3 h3 vz eD
 have n3:=eD.nx
 have l3:=eD.lo
 obtain ⟨BA,BB,rfl,_⟩:=(show Sl bu h3 q3 Q from vz.sl)
 have g33:=(eD.get (h.nx+1) (by omega)).trans ZE
 have g53:=(eD.get (h.nx+1+1) (by omega)).trans g52
 have g73:=(eD.get (h.nx+1+1+1) (by omega)).trans g72
 simp(disch:=first|omega|simp only[Wd]<;>omega|with_unfolding_all rfl)only[Wz,jG,g33,g53]
 obtain ⟨hB,eB⟩:∃hB:Heap,hB=⟨h3.nx+1+1,(h3.bl.aW h3.nx (aa [.int .i64 t,.int .i64 r,.slice BA Q.length BB,.int .i64 w] 305 false)).aW (h3.nx+1) (hG ⟨id,x,0,m,0⟩),h3.lo⟩:=⟨_,rfl⟩
 have uC:Le h3 hB:=by subst eB; exact ((Le.refl h3).new _).new _
 have Vg:hB.bl.get h3.nx=some (aa [.int .i64 t,.int .i64 r,.slice BA Q.length BB,.int .i64 w] 305 false):=by subst eB; exact (T.ai _ _ (by omega)).trans (T.af _ _ _)
 have ZG:hB.bl.get (h3.nx+1)=some (hG ⟨id,x,0,m,0⟩):=by subst eB; exact T.af _ _ _
 have g7B:=(uC.get (h.nx+1+1+1) (by omega)).trans g73
 have nB:hB.nx=h3.nx+1+1:=by subst eB; rfl
 have lB:hB.lo=h3.lo:=by subst eB; rfl
 rw[←eB]
 clear eB
 have Kx:=vz.le uC
 refine Bz t r _ w Q hB _ Kx.sl (by omega) (by omega) ?_
 intro h4 kf
 have n4:=kf.nx
 have l4:=kf.lo
 have hall:Le h h4:=(((nJ.trans hle2).trans eD).trans uC).trans kf
 have NT:Le h2 h4:=(eD.trans uC).trans kf
 have L6:=(kf.get h3.nx (by omega)).trans Vg
 have L7:=(kf.get (h3.nx+1) (by omega)).trans ZG
 have g74:=(kf.get (h.nx+1+1+1) (by omega)).trans g7B
 have Vj:=Kx.le kf
 have fin:∀(p:R5) (w':Int) (g:Bool) (h5:Heap),iQ Q w id x m=(p,w',g)→qI h2 h5 (.slice BA Q.length BB) Q→Le h h5→Le h2 h5→h4.nx≤h5.nx→
   h5.bl.get h3.nx=some (aa [.int .i64 t,.int .i64 r,.slice BA Q.length BB,.int .i64 w'] 305 false)→h5.bl.get (h3.nx+1)=some (hG p)→h5.bl.get (h.nx+1+1+1)=some (aa [.int .i64 0,.int .i64 0,.slice none 0 0,.int .i64 0] 81 false)→
   pO h3.nx (h3.nx+1) (h.nx+1+1+1) (.bool g) h5 κ:=by
  intro p w' g h5 he yT Sz ZH n5 k1 k2 k3
  have l5:=Sz.lo
  refine I6 t r BA BB w' p g _ _ _ Q h2 h5 κ yT ZH (by omega) (by omega) (by omega) (by omega) (by omega) (by omega) (by omega) (by omega) k1 k2 k3 ?_
  intro q' h' ho' hfr
  obtain ⟨e1,e2,e3⟩:=hfr
  rw[he] at hk
  have nn:=Sz.nx
  refine hk q' h' (fS.base ho' (by omega)) ⟨by omega,by rw[e2]; exact Sz.lo,fun b hb=>?_⟩
  exact (e3 b (by omega) (by omega) (by omega)).trans ((nJ.trans hle2).get b hb)
 have ES:=hall
 cases hf:dD Q with
 | some i=>
  simp(disch:=first|omega|simp only[Wd]<;>omega|with_unfolding_all rfl)only[Wz,iG,c6 (show (0:Int)≤(i:Int) by omega)]
  obtain ⟨hC,eC⟩:∃hC:Heap,hC=⟨h4.nx,(h4.bl.aW h3.nx (aa [.int .i64 t,.int .i64 r,.slice BA Q.length BB,.int .i64 (w+1)] 305 false)).aW (h3.nx+1) (hG ⟨id,x,0,m,w+1⟩),h4.lo⟩:=⟨_,rfl⟩
  refine ⟨fun l h'=>HQ hC h',?_,?_⟩
  ·simp(disch:=first|omega|simp only[Wd]<;>omega|with_unfolding_all rfl)only[Wz,uq,L6,L7]
   exact eC
  ·intro l h' DM
   cases (show hC=h' from DM)
   have nC:hC.nx=h4.nx:=by rw[eC]
   refine fin ⟨id,x,0,m,w+1⟩ (w+1) false hC ?_ ?_ ?_ ?_ (by omega) ?_ ?_ ?_
   ·unfold iQ
    rw[if_neg]
    simp[hf]
   ·rw[eC]
    exact fS.put (fS.put Vj (by rw[L6]; exact bf) _) (by show (h4.bl.aW h3.nx _).get (h3.nx+1)≠_; rw[T.ai _ _ (by omega),L7]; exact bf) _
   ·rw[eC]; exact (ES.set (b:=h3.nx) (by omega) _).set (b:=h3.nx+1) (by omega) _
   ·rw[eC]; exact (NT.set (b:=h3.nx) (by omega) _).set (b:=h3.nx+1) (by omega) _
   ·rw[eC]; exact (T.ai _ _ (by omega)).trans (T.af _ _ _)
   ·rw[eC]; exact T.af _ _ _
   ·rw[eC]; exact ((T.ai _ _ (by omega)).trans (T.ai _ _ (by omega))).trans g74
 | none=>
  simp(disch:=first|omega|simp only[Wd]<;>omega|with_unfolding_all rfl)only[Wz,iG,fI (show (-1:Int)<0 by decide),L6,L7]
  refine yS t r _ w ⟨id,x,0,m,0⟩ Q h4 _ Vj.sl (by omega) (by omega) ?_
  intro h5 iZ
  have n5:=iZ.nx
  have l5:=iZ.lo
  have QY:=(iZ.get h3.nx (by omega)).trans L6
  have L8:=(iZ.get (h3.nx+1) (by omega)).trans L7
  have g75:=(iZ.get (h.nx+1+1+1) (by omega)).trans g74
  have yT:=Vj.le iZ
  have BC:=hall.trans iZ
  have NU:=NT.trans iZ
  cases hfit:fM Q ⟨id,x,0,m,0⟩ with
  | false=>
   simp(disch:=first|omega|simp only[Wd]<;>omega|with_unfolding_all rfl)only[Wz]
   obtain ⟨hC,eC⟩:∃hC:Heap,hC=⟨h5.nx,(h5.bl.aW h3.nx (aa [.int .i64 t,.int .i64 r,.slice BA Q.length BB,.int .i64 (w+1)] 305 false)).aW (h3.nx+1) (hG ⟨id,x,0,m,w+1⟩),h5.lo⟩:=⟨_,rfl⟩
   refine ⟨fun l h'=>HQ hC h',?_,?_⟩
   ·simp(disch:=first|omega|simp only[Wd]<;>omega|with_unfolding_all rfl)only[Wz,uq,QY,L8]
    exact eC
   ·intro l h' DM
    cases (show hC=h' from DM)
    have nC:hC.nx=h5.nx:=by rw[eC]
    refine fin ⟨id,x,0,m,w+1⟩ (w+1) false hC ?_ ?_ ?_ ?_ (by omega) ?_ ?_ ?_
    ·unfold iQ
     rw[if_neg]
     simp[hf,hfit]
    ·rw[eC]
     exact fS.put (fS.put yT (by rw[QY]; exact bf) _) (by show (h5.bl.aW h3.nx _).get (h3.nx+1)≠_; rw[T.ai _ _ (by omega),L8]; exact bf) _
    ·rw[eC]; exact (BC.set (b:=h3.nx) (by omega) _).set (b:=h3.nx+1) (by omega) _
    ·rw[eC]; exact (NU.set (b:=h3.nx) (by omega) _).set (b:=h3.nx+1) (by omega) _
    ·rw[eC]; exact (T.ai _ _ (by omega)).trans (T.af _ _ _)
    ·rw[eC]; exact T.af _ _ _
    ·rw[eC]; exact ((T.ai _ _ (by omega)).trans (T.ai _ _ (by omega))).trans g75
  | true=>
   simp(disch:=first|omega|simp only[Wd]<;>omega|with_unfolding_all rfl)only[Wz]
   obtain ⟨hC,eC⟩:∃hC:Heap,hC=⟨h5.nx,h5.bl.aW (h3.nx+1) (hG ⟨id,x,m,m,0⟩),h5.lo⟩:=⟨_,rfl⟩
   refine ⟨fun l h'=>HQ hC h',?_,?_⟩
   ·simp(disch:=first|omega|simp only[Wd]<;>omega|with_unfolding_all rfl)only[Wz,L8]
    exact eC
   ·intro l h' DM
    cases (show hC=h' from DM)
    have nC:hC.nx=h5.nx:=by rw[eC]
    refine fin ⟨id,x,m,m,0⟩ w true hC ?_ ?_ ?_ ?_ (by omega) ?_ ?_ ?_
    ·unfold iQ
     rw[if_pos]
     simp[hf,hfit]
    ·rw[eC]
     exact fS.put yT (by rw[L8]; exact bf) _
    ·rw[eC]; exact BC.set (b:=h3.nx+1) (by omega) _
    ·rw[eC]; exact NU.set (b:=h3.nx+1) (by omega) _
    ·rw[eC]; exact (T.ai _ _ (by omega)).trans QY
    ·rw[eC]; exact T.af _ _ _
    ·rw[eC]; exact (T.ai _ _ (by omega)).trans g75
noncomputable abbrev iJ (t r:Int) (q:Value) (w:Int):bC:=aa [.int .i64 t,.int .i64 r,q,.int .i64 w] 305 false
noncomputable abbrev dI (t r:Int) (q:Value) (w:Int):bC:=aa [.int .i64 t,.int .i64 r,q,.int .i64 w] 81 false
noncomputable abbrev jS:bC:=aa [.int .i64 0,.int .i64 0,.slice none 0 0,.int .i64 0] 81 false
theorem C9 (id:Int) (r:R5) (b:Nat) (h:Heap) (κ:KQ) (hlo:h.lo≤h.nx) (hb:b<h.nx) (hg:h.bl.get b=some (aa [.int .i64 id] 3 false)) (hk:∀h',Le h h'→κ (.bool (bP id r)) h') :
  CallW Tryz.prog 316 [jF r,ptrTo b] h κ:=by
 have hk:=hk _ ((Le.refl h).new (hG r))
 refine aq mixed ?_
 rw[QG]
 simp(disch:=first|omega|simp only[Wd]<;>omega|with_unfolding_all rfl)only[Wz,bu,hg]
 exact hk
theorem FU (t r:Int) (q:Value) (w id:Int) (Q:List R5) (a h:Heap) (κ:KQ) (ho:qI a h q Q) (hle:Le a h) (hlen:Q.length≤100000) (hlo:a.lo≤a.nx)
  (hk:∀q' h',Sl bu h' q' (Q.filter fun r=>!bP id r)→tJ 83 h' q'→Le a h'→κ (jG t r q' w) h') :
  CallW Tryz.prog 288 [jG t r q w,.int .i64 id] h κ:=by
 obtain ⟨qx,qc,rfl,_⟩:=(show Sl bu h q Q from ho.sl)
 have n_0:=hle.nx
 have l_0:=hle.lo
 refine aq mixed ?_
 rw[Qx]
 simp(disch:=first|omega|simp only[Wd]<;>omega|with_unfolding_all rfl)only[Wz,jG]
 obtain ⟨hA,aJ⟩:∃hA:Heap,hA=⟨h.nx+1+1+1,(((h.bl.aW (h.nx) (iJ t r (.slice qx Q.length qc) w)).aW (h.nx+1) (aa [.int .i64 id] 3 false)).aW (h.nx+1+1) (jS)),h.lo⟩:=⟨_,rfl⟩
 have aU:Le h hA:=by subst aJ; exact ((((Le.refl h).new _).new _).new _)
 have g1:hA.bl.get (h.nx)=some (iJ t r (.slice qx Q.length qc) w):=by subst aJ; exact (T.ai _ _ (by omega)).trans ((T.ai _ _ (by omega)).trans (T.af _ _ _))
 have g3:hA.bl.get (h.nx+1)=some (aa [.int .i64 id] 3 false):=by subst aJ; exact (T.ai _ _ (by omega)).trans (T.af _ _ _)
 have g5:hA.bl.get (h.nx+1+1)=some (jS):=by subst aJ; exact T.af _ _ _
 have ig:hA.nx=h.nx+1+1+1:=by subst aJ; rfl
 have ij:hA.lo=h.lo:=by subst aJ; rfl
 rw[←aJ]
 clear aJ
 refine FT a hA Q (bP id) _ _ _ (hle.trans aU) (ho.le aU) hlen hlo ?_ ?_
 ·intro p h1 κ1 tI hfr jc
  have n1:=hfr.1
  have l1:=tI.lo
  have g3:=(hfr.2 (h.nx+1) (by omega) (by rw[g3]; exact bf)).trans g3
  simp(disch:=first|omega|simp only[Wd]<;>omega|with_unfolding_all rfl)only[Wz,List.nil_append,List.cons_append]
  exact C9 id p (h.nx+1) h1 κ1 (by omega) (by omega) g3 jc
 ·intro q' h2 hs2 _ hle2 hfr ht
  have n2:=hfr.1
  have l2:=hle2.lo
  have g1:=(hfr.2 h.nx (by omega) (by rw[g1]; exact bf)).trans g1
  have g5:=(hfr.2 (h.nx+1+1) (by omega) (by rw[g5]; exact bf)).trans g5
  obtain ⟨Vd,Ve,rfl,_⟩:=(show Sl bu h2 q' _ from hs2)
  simp(disch:=first|omega|simp only[Wd]<;>omega|with_unfolding_all rfl)only[Wz,g1,g5]
  have SA:∀vs op,h2.bl.get h.nx≠some (aa vs 83 op):=fun vs op=>by rw[g1]; exact aT (by decide)
  have ZI:=hs2.put ht SA (iJ t r (.slice Vd (Q.filter fun r=>!bP id r).length Ve) w)
  have ht3:=ht.put SA (iJ t r (.slice Vd (Q.filter fun r=>!bP id r).length Ve) w)
  have hd2:∀vs op,(h2.bl.aW h.nx (iJ t r (.slice Vd (Q.filter fun r=>!bP id r).length Ve) w)).get (h.nx+1+1)≠some (aa vs 83 op):=fun vs op=>by rw[T.ai _ _ (by omega),g5]; exact aT (by decide)
  refine hk _ _ (ZI.put ht3 hd2 _) (ht3.put hd2 _) ((hle2.set (b:=h.nx) (by omega) _).set (b:=h.nx+1+1) (by omega) _)
def QV (h:Heap) (q:Value) (Q:List R5):Prop:=Sl bu h q Q∧tJ 83 h q
theorem QV.le {h h':Heap} {q:Value} {Q:List R5} (v:QV h q Q) (l:Le h h'):QV h' q Q:=⟨v.1.le l,v.2.le l⟩
theorem QV.put {h:Heap} {q:Value} {Q:List R5} (v:QV h q Q) {d:Nat} (hd:∀vs op,h.bl.get d≠some (aa vs 83 op)) (o:bC):QV ⟨h.nx,h.bl.aW d o,h.lo⟩ q Q:=⟨v.1.put v.2 hd o,v.2.put hd o⟩
theorem QV.own {a h:Heap} {q:Value} {Q:List R5} (ho:qI a h q Q):QV h q Q:=⟨ho.sl,tJ.own ho⟩
theorem mI (Q:List R5) (id:Int):(Q.findIdx? (bP id)=none∧bT Q id=none)∨∃(i:Nat) (r:R5),Q.findIdx? (bP id)=some i∧Q[i]? = some r∧r.id=id∧bT Q id=some r:=by
 rcases lu Q (bP id) with ⟨e,h⟩ | ⟨i,p,e,hp,h1,h2⟩
 ·refine .inl ⟨e,?_⟩
  unfold bT
  rw[List.find?_eq_none]
  intro x hx; rw[h x hx]; simp
 ·refine .inr ⟨i,p,e,hp,by simpa[bP] using h1,?_⟩
  unfold bT
  rw[List.find?_eq_some_iff_getElem]
  obtain ⟨hi,rfl⟩:=List.getElem?_eq_some_iff.1 hp
  exact ⟨h1,i,hi,rfl,fun j hj=>by rw[h2 j _ hj (List.getElem?_eq_getElem (by omega))]; rfl⟩
theorem L9 (t r:Int) (q:Value) (w id:Int) (Q:List R5) (h:Heap) (κ:KQ) (hq:Sl bu h q Q) (hlen:Q.length≤100000) (hlo:h.lo≤h.nx) (hf:bT Q id≠none)
  (hk:∀q' h',QV h' q' (Q.filter fun r=>!bP id r)→Le h h'→κ (.tuple ⟨[jG t r q' w,.int .i64 0]⟩) h') :
  CallW Tryz.prog 319 [jG t r q w,.int .i64 id] h κ:=by
 obtain ⟨qx,qc,rfl,_⟩:=(show Sl bu h q Q from hq)
 refine aq mixed ?_
 rw[QJ]
 simp(disch:=first|omega|simp only[Wd]<;>omega|with_unfolding_all rfl)only[Wz,jG]
 obtain ⟨hA,aJ⟩:∃hA:Heap,hA=⟨h.nx+1+1,((h.bl.aW (h.nx) (dI t r (.slice qx Q.length qc) w)).aW (h.nx+1) (jS)),h.lo⟩:=⟨_,rfl⟩
 have aU:Le h hA:=by subst aJ; exact (((Le.refl h).new _).new _)
 have g1:hA.bl.get (h.nx)=some (dI t r (.slice qx Q.length qc) w):=by subst aJ; exact (T.ai _ _ (by omega)).trans (T.af _ _ _)
 have g3:hA.bl.get (h.nx+1)=some (jS):=by subst aJ; exact T.af _ _ _
 have ig:hA.nx=h.nx+1+1:=by subst aJ; rfl
 have ij:hA.lo=h.lo:=by subst aJ; rfl
 rw[←aJ]
 clear aJ
 have g3A:=g3
 refine EP t r _ w Q hA _ (hq.le aU) (by omega) (by omega) ?_
 intro q2 h2 yj hle2
 have C_:=hle2.nx
 have Da:=hle2.lo
 have g1:=(hle2.get _ (by omega)).trans g1
 have g3:=(hle2.get _ (by omega)).trans g3
 obtain ⟨rO,rP,rfl,_⟩:=(show Sl bu h2 q2 Q from yj.sl)
 simp(disch:=first|omega|simp only[Wd]<;>omega|with_unfolding_all rfl)only[Wz,jG]
 obtain ⟨hB,b6⟩:∃hB:Heap,hB=⟨h2.nx+1,(h2.bl.aW (h2.nx) (iJ t r (.slice rO Q.length rP) w)),h2.lo⟩:=⟨_,rfl⟩
 have bJ:Le h2 hB:=by subst b6; exact ((Le.refl h2).new _)
 have g7:hB.bl.get (h2.nx)=some (iJ t r (.slice rO Q.length rP) w):=by subst b6; exact T.af _ _ _
 have BD:hB.nx=h2.nx+1:=by subst b6; rfl
 have BE:hB.lo=h2.lo:=by subst b6; rfl
 rw[←b6]
 clear b6
 have sn:=bJ.nx
 have sq:=bJ.lo
 have g1:=(bJ.get _ (by omega)).trans g1
 have g3:=(bJ.get _ (by omega)).trans g3
 have Kx:=yj.le bJ
 refine uB t r _ w id Q hB _ Kx.sl (by omega) (by omega) ?_
 intro h3 eD
 have QZ:=eD.nx
 have Q0:=eD.lo
 have g1:=(eD.get _ (by omega)).trans g1
 have g3:=(eD.get _ (by omega)).trans g3
 have g7:=(eD.get _ (by omega)).trans g7
 have vz:=Kx.le eD
 rcases mI Q id with ⟨_,e⟩ | ⟨i,p,e,hp,aeO,_⟩
 ·exact absurd e hf
 rw[e]
 simp(disch:=first|omega|simp only[Wd]<;>omega|with_unfolding_all rfl)only[Wz,iG,c6 (show (0:Int)≤(i:Int) by omega),g7]
 have Vk:Le hA h3:=(hle2.trans bJ).trans eD
 refine FU t r _ w id Q hA h3 _ vz Vk hlen (by omega) ?_
 intro q4 h4 hs4 ht4 kf
 have Q3:=kf.nx
 have Q4:=kf.lo
 have g3:=(kf.get _ (by omega)).trans g3A
 obtain ⟨qx4,qc4,rfl,_⟩:=(show Sl bu h4 q4 _ from hs4)
 simp(disch:=first|omega|simp only[Wd]<;>omega|with_unfolding_all rfl)only[Wz,jG,g3]
 exact hk _ _ (QV.put ⟨hs4,ht4⟩ (fun vs op=>by rw[g3]; exact aT (by decide)) _) ((aU.trans kf).set (b:=h.nx+1) (by omega) _)
theorem QV.blk {h:Heap} {b n:Nat} {L:List R5} (hb:b<h.nx) (hg:h.bl.get b=some (aa (L.flatMap bu) 83 true)) (hn:n=L.length):QV h (.slice (some ⟨b,0,none⟩) n aM) L:=by
 subst hn
 refine ⟨Sl.new hb hg _,fun b' o' n' c' hv _=>?_⟩
 cases hv
 exact ⟨hb,_,_,hg⟩
def bQ (n:Int):List Value:=[.int .i64 n]
theorem encNum_len (n:Int):(bQ n).length=1:=rfl
theorem uD (n:Int):(bQ n).all dR=true:=rfl
abbrev wq (a h:Heap) (v:Value) (L:List Int):Prop:=fS bQ a 3 h v L
theorem BF {Q:List R5} {W:Int} (v:VQ Q W) {i:Nat} {r:R5} (hf:dD Q=some i) (hr:Q[i]? = some r) (hfit:fM Q r=true) :
  de (gj Q+1) Q=((de (gj (Q.set i (c8 r))+1) (Q.set i (c8 r))).1,r.id::(de (gj (Q.set i (c8 r))+1) (Q.set i (c8 r))).2):=by
 have hc:=oC hr (iI v hf hr)
 conv=>lhs; unfold de
 simp only[hf,hr,hfit,if_true]
 rw[hc]
theorem I8 {Q:List R5} (h:oD Q):de (gj Q+1) Q=(Q,[]):=tM h _
theorem uE {Q:List R5} (h:dD Q=none):oD Q:=fun i r e=>by rw[h] at e; cases e
theorem Db {Q:List R5} {i:Nat} {r:R5} (h:dD Q=some i) (hr:Q[i]? = some r) (hf:fM Q r=false):oD Q:=fun j q e hq=>by
 rw[h] at e; cases e; rw[hr] at hq; cases hq; exact hf
set_option maxHeartbeats 2000000 in
theorem Q5 (t r:Int) (q:Value) (w:Int) (Q:List R5) (h:Heap) (κ:KQ) (hq:Sl bu h q Q) (hlen:Q.length≤100000) (hlo:h.lo≤h.nx) (vq:VQ Q w)
  (hk:∀q' v' h',QV h' q' (de (gj Q+1) Q).1→wq h h' v' (de (gj Q+1) Q).2→Le h h'→κ (.tuple ⟨[jG t r q' w,v']⟩) h') :
  CallW Tryz.prog 289 [jG t r q w] h κ:=by
 obtain ⟨qx,qc,rfl,_⟩:=(show Sl bu h q Q from hq)
 refine aq mixed ?_
 rw[Qy]
 simp(disch:=first|omega|simp only[Wd]<;>omega|with_unfolding_all rfl)only[Wz,jG]
 obtain ⟨hA,aJ⟩:∃hA:Heap,hA=⟨h.nx+1+1,((h.bl.aW (h.nx) (dI t r (.slice qx Q.length qc) w)).aW (h.nx+1) (jS)),h.lo⟩:=⟨_,rfl⟩
 have aU:Le h hA:=by subst aJ; exact (((Le.refl h).new _).new _)
 have g1:hA.bl.get (h.nx)=some (dI t r (.slice qx Q.length qc) w):=by subst aJ; exact (T.ai _ _ (by omega)).trans (T.af _ _ _)
 have g3:hA.bl.get (h.nx+1)=some (jS):=by subst aJ; exact T.af _ _ _
 have ig:hA.nx=h.nx+1+1:=by subst aJ; rfl
 have ij:hA.lo=h.lo:=by subst aJ; rfl
 rw[←aJ]
 clear aJ
 refine EP t r _ w Q hA _ (hq.le aU) (by omega) (by omega) ?_
 intro q2 h2 yj hle2
 have C_:=hle2.nx
 have Da:=hle2.lo
 have g3:=(hle2.get _ (by omega)).trans g3
 obtain ⟨rO,rP,rfl,_⟩:=(show Sl bu h2 q2 Q from yj.sl)
 simp(disch:=first|omega|simp only[Wd]<;>omega|with_unfolding_all rfl)only[Wz,jG]
 obtain ⟨hB,b6⟩:∃hB:Heap,hB=⟨h2.nx+1,(h2.bl.aW (h2.nx) (iJ t r (.slice rO Q.length rP) w)),h2.lo⟩:=⟨_,rfl⟩
 have bJ:Le h2 hB:=by subst b6; exact ((Le.refl h2).new _)
 have g7:hB.bl.get (h2.nx)=some (iJ t r (.slice rO Q.length rP) w):=by subst b6; exact T.af _ _ _
 have BD:hB.nx=h2.nx+1:=by subst b6; rfl
 have BE:hB.lo=h2.lo:=by subst b6; rfl
 rw[←b6]
 clear b6
 have sn:=bJ.nx
 have sq:=bJ.lo
 have g3:=(bJ.get _ (by omega)).trans g3
 have Kx:=yj.le bJ
 have Vl:Le h hB:=(aU.trans hle2).trans bJ
 refine ⟨fun n l h1=>∃(K:List R5) (ids:List Int),VQ K w∧n=gj K+1∧de (gj Q+1) Q=((de (gj K+1) K).1,ids++(de (gj K+1) K).2)∧K.length=Q.length∧ids.length+gj K≤gj Q∧
   wq h h1 (slot l 49) ids∧(qI hA h1 (.slice rO K.length rP) K)∧h1.bl.get (h.nx+1)=some jS∧h1.bl.get h2.nx=some (iJ t r (.slice rO Q.length rP) w)∧Le h h1∧hB.nx≤h1.nx,
  ⟨_,Q,[],vq,rfl,by simp,rfl,by simp,.inl ⟨rfl,.inl rfl⟩,Kx,g3,g7,Vl,Nat.le_refl _⟩,?_⟩
 rintro n l h3 ⟨K,ids,vk,rfl,hsc,Q6,WX,hoI,SB,g3,g7,eD,n3⟩
 have l3:=eD.lo
 obtain ⟨vi,ei⟩:∃vi,slot l 49=vi:=⟨_,rfl⟩
 rw[ei] at hoI
 rw[Q6] at SB
 have hcK:gj K≤K.length:=List.length_filter_le _ _
 have hcQ:gj Q≤Q.length:=List.length_filter_le _ _
 simp(disch:=first|omega|simp only[Wd]<;>omega|with_unfolding_all rfl)only[Wz,Bm,g7]
 refine Bz t r _ w K h3 _ SB.sl (by omega) (by omega) ?_
 intro h4 kf
 have Q3:=kf.nx
 have Q4:=kf.lo
 have g3:=(kf.get _ (by omega)).trans g3
 have g7:=(kf.get _ (by omega)).trans g7
 have L_:=SB.le kf
 have Vm:=hoI.le kf
 have ES:=eD.trans kf
 have finish:∀h',h4.nx≤h'.nx→Le h h'→wq h h' vi ids→qI hA h' (.slice rO Q.length rP) K→h'.bl.get (h.nx+1)=some jS→oD K→κ (.tuple ⟨[.agg ⟨[.int .i64 t,.int .i64 r,.slice rO Q.length rP,.int .i64 w]⟩,vi]⟩) ⟨h'.nx,h'.bl.aW (h.nx+1) (dI t r (.slice rO Q.length rP) w),h'.lo⟩:=by
  intro h' hn hl hi hr hg hst
  rw[I8 hst] at hsc
  rw[hsc,List.append_nil] at hk
  exact hk _ _ _ (QV.put (QV.own hr) (fun vs op=>by rw[hg]; exact aT (by decide)) _) (fS.put hi (by rw[hg]; exact bf) _) (hl.set (b:=h.nx+1) (by omega) _)
 cases hf:dD K with
 | none=>
  simp(disch:=first|omega|simp only[Wd]<;>omega|with_unfolding_all rfl)only[Wz,iG,fI (show (-1:Int)<0 by decide),g7,g3,ei]
  exact finish h4 (Nat.le_refl _) ES Vm L_ g3 (uE hf)
 | some i=>
  obtain ⟨p,hp,_⟩:=oB hf
  obtain ⟨b,o,hb,vA,nu⟩:=QW L_.sl i hp
  simp(disch:=first|omega|simp only[Wd]<;>omega|with_unfolding_all rfl)only[Wz,iG,c6 (show (0:Int)≤(i:Int) by omega),g7,vA,nu,List.append_nil,List.cons_append,List.nil_append]
  refine yS t r _ w p K h4 _ L_.sl (by omega) (by omega) ?_
  intro h5 iZ
  have ZJ:=iZ.nx
  have ZK:=iZ.lo
  have g3:=(iZ.get _ (by omega)).trans g3
  have g7:=(iZ.get _ (by omega)).trans g7
  have Vn:=L_.le iZ
  have Vo:=Vm.le iZ
  have BC:=ES.trans iZ
  cases hfit:fM K p with
  | false=>
   simp(disch:=first|omega|simp only[Wd]<;>omega|with_unfolding_all rfl)only[Wz,g7,g3,ei]
   exact finish h5 (by omega) BC Vo Vn g3 (Db hf hp hfit)
  | true=>
   rcases Vn with ⟨rfl,_⟩ | ⟨bo,e1,k1,k2,k3,k4⟩
   ·simp at hp
   rw[Q6] at e1
   cases e1
   have hil:i<K.length:=(List.getElem?_eq_some_iff.1 hp).1
   have hfl:=bh (enc:=bu) bZ K
   have ZL:((K.set i ⟨p.id,p.x,p.w,p.w,p.s⟩).flatMap bu).length=K.length*5:=by rw[bh bZ,List.length_set]
   have LH:=ia (p':=⟨p.id,p.x,p.w,p.w,p.s⟩) (ws:=[.int .i64 p.w]) (j:=2) bZ hp (by show 2+1≤5; omega) rfl
   have hp2:(K.set i ⟨p.id,p.x,p.w,p.w,p.s⟩)[i]? = some ⟨p.id,p.x,p.w,p.w,p.s⟩:=by rw[List.getElem?_set,if_pos rfl,if_pos hil]
   have BG:=ia (p':=c8 p) (ws:=[.int .i64 0]) (j:=4) bZ hp2 (by show 4+1≤5; omega) rfl
   rw[List.set_set] at BG
   have Q7:bo≠h2.nx:=by rintro rfl; rw[g7] at k4; exact bf k4
   have I9:bo≠h.nx+1:=by rintro rfl; rw[g3] at k4; exact bf k4
   have OI:(K.set i (c8 p)).length=K.length:=List.length_set
   rw[Q6] at OI
   have G9:(K.set i (c8 p))[i]? = some (c8 p):=by rw[List.getElem?_set,if_pos rfl,if_pos hil]
   have r3:=ic (j:=3) bZ hp (by decide)
   have r0:=ic (j:=0) bZ G9 (by decide)
   have r3:(K.flatMap bu)[i*5+3]? = some (.int .i64 p.w):=r3
   have r0:((K.set i (c8 p)).flatMap bu)[i*5]? = some (.int .i64 p.id):=r0
   simp(disch:=first|omega|simp only[Wd]<;>omega|with_unfolding_all rfl)only[Wz,Bl,g7,aS,k4,LH,BG,ei,r3,r0]
   obtain ⟨hC,eC⟩:∃hC:Heap,hC=⟨h5.nx,h5.bl.aW bo (aa ((K.set i (c8 p)).flatMap bu) 83 true),h5.lo⟩:=⟨_,rfl⟩
   have Ma:Le h hC:=by subst eC; exact BC.set (b:=bo) (by omega) _
   have nC:hC.nx=h5.nx:=by rw[eC]
   have lC:hC.lo=h5.lo:=by rw[eC]
   have gC:hC.bl.get bo=some (aa ((K.set i (c8 p)).flatMap bu) 83 true):=by subst eC; exact T.af _ _ _
   have Xo:hC.bl.get (h.nx+1)=some jS:=by subst eC; exact (T.ai _ _ I9).trans g3
   have g7C:hC.bl.get h2.nx=some (iJ t r (.slice (some ⟨bo,0,none⟩) Q.length aM) w):=by subst eC; exact (T.ai _ _ Q7).trans g7
   have Xp:wq h hC vi ids:=by subst eC; exact fS.put Vo (by rw[k4]; exact aT (by decide)) _
   have e2:(⟨h5.nx+1,(h5.bl.aW bo (aa ((K.set i (c8 p)).flatMap bu) 83 true)).aW h5.nx (aa [.int .i64 p.id] 3 false),h5.lo⟩:Heap)=⟨hC.nx+1,hC.bl.aW hC.nx (aa [.int .i64 p.id] 3 false),hC.lo⟩:=by rw[eC]
   rw[e2,show h5.nx=hC.nx from nC.symm]
   have hle1:=(Le.refl hC).new (aa [.int .i64 p.id] 3 false)
   have vk2:=vk.Ii hf hp hfit
   have hcg:=oC hp (iI vk hf hp)
   refine h_ (enc:=bQ) (a:=h) (L:=ids) (M:=[p.id]) encNum_len uD (by decide) (by decide) (Xp.le hle1) (Sl.new (L:=[p.id]) (e:=3) (op:=false) (Nat.lt_succ_self _) (T.af _ _ _) _) (Ma.new _) (by simp; omega) (by show hC.lo≤hC.nx+1; omega) _ ?_
   intro v' h6 I_ BH yc hn2 Vp hsame
   have n6:hC.nx+1≤h6.nx:=hn2
   have keep:∀c o',c<hC.nx→hC.bl.get c=some o'→some o'≠some (aa (ids.flatMap bQ) 3 true)→h6.bl.get c=some o':=by
    intro c o' hc hg hne
    have e:(hC.bl.aW hC.nx (aa [.int .i64 p.id] 3 false)).get c=hC.bl.get c:=T.ai _ _ (by omega)
    exact (hsame c (Nat.lt_succ_of_lt hc) (fun k=>hne (by rw[←hg,←e]; exact k))).trans (e.trans hg)
   have aeS:h6.lo=hC.lo:=Vp
   refine ⟨_,by omega,K.set i (c8 p),ids++[p.id],vk2,rfl,?_,by simpa using Q6,by simp; omega,I_,?_,?_,?_,BH,by omega⟩
   ·rw[hsc,BF vk hf hp hfit]
    simp
   ·refine .inr ⟨bo,rfl,by omega,by omega,by omega,keep bo _ (by omega) gC (aT (by decide))⟩
   ·exact keep _ _ (by omega) Xo (aT (by decide))
   ·exact keep _ _ (by omega) g7C (aT (by decide))
theorem ET (t r:Int) (q:Value) (w id:Int) (Q:List R5) (h:Heap) (κ:KQ) (hq:Sl bu h q Q) (hlen:Q.length≤100000) (hlo:h.lo≤h.nx)
  (hk:∀h',Le h h'→κ (match bT Q id with | some p=>.tuple ⟨[jF p,.bool true]⟩ | none=>.tuple ⟨[jF ⟨0,0,0,0,0⟩,.bool false]⟩) h') :
  CallW Tryz.prog 191 [jG t r q w,.int .i64 id] h κ:=by
 obtain ⟨qx,qc,rfl,_⟩:=(show Sl bu h q Q from hq)
 refine aq mixed ?_
 rw[P6]
 simp(disch:=first|omega|simp only[Wd]<;>omega|with_unfolding_all rfl)only[Wz,jG]
 obtain ⟨hA,aJ⟩:∃hA:Heap,hA=⟨h.nx+1+1,((h.bl.aW (h.nx) (dI t r (.slice qx Q.length qc) w)).aW (h.nx+1) (hG ⟨0,0,0,0,0⟩)),h.lo⟩:=⟨_,rfl⟩
 have aU:Le h hA:=by subst aJ; exact (((Le.refl h).new _).new _)
 have g1:hA.bl.get (h.nx)=some (dI t r (.slice qx Q.length qc) w):=by subst aJ; exact (T.ai _ _ (by omega)).trans (T.af _ _ _)
 have g3:hA.bl.get (h.nx+1)=some (hG ⟨0,0,0,0,0⟩):=by subst aJ; exact T.af _ _ _
 have ig:hA.nx=h.nx+1+1:=by subst aJ; rfl
 have ij:hA.lo=h.lo:=by subst aJ; rfl
 rw[←aJ]
 clear aJ
 refine uB t r _ w id Q hA _ (hq.le aU) (by omega) (by omega) ?_
 intro h2 hle2
 have C_:=hle2.nx
 have Da:=hle2.lo
 have g1:=(hle2.get _ (by omega)).trans g1
 have g3:=(hle2.get _ (by omega)).trans g3
 rcases mI Q id with ⟨e,e2⟩ | ⟨i,p,e,hi,hjd,e2⟩
 ·rw[e]
  simp(disch:=first|omega|simp only[Wd]<;>omega|with_unfolding_all rfl)only[Wz,iG,fI (show (-1:Int)<0 by decide),g3]
  rw[e2] at hk
  exact hk _ ((aU.trans hle2).set (b:=h.nx+1) (by omega) _)
 ·rw[e]
  obtain ⟨b,o,hb,vA,nu⟩:=QW (hq.le (aU.trans hle2)) i hi
  simp(disch:=first|omega|simp only[Wd]<;>omega|with_unfolding_all rfl)only[Wz,iG,c6 (show (0:Int)≤(i:Int) by omega),g1,g3,vA,nu,bu]
  rw[e2] at hk
  exact hk _ ((aU.trans hle2).set (b:=h.nx+1) (by omega) _)
theorem Ja {Q:List R5} {i:Nat} {p p1:R5} (hi:Q[i]? = some p) (hid:p.id=p1.id):fM (Q.set i p1) p1=fM Q p1:=by
 rw[Bool.eq_iff_iff,kM,kM]
 constructor
 ·intro h o ho h1 h2
  obtain ⟨k,hk⟩:=List.getElem?_of_mem ho
  have hki:i≠k:=by rintro rfl; rw[hi] at hk; cases hk; exact h1 hid
  exact h o (List.mem_of_getElem? (i:=k) (by rw[List.getElem?_set,if_neg hki]; exact hk)) h1 h2
 ·intro h o ho h1 h2
  rcases mem_set ho with rfl | ho
  ·exact absurd rfl h1
  ·exact h o ho h1 h2
theorem Mb {Q:List R5} {i:Nat} {p p1:R5} (hi:Q[i]? = some p) (hu:rj p1=rj p):(Q.set i p1).any rj=Q.any rj:=by
 rw[Bool.eq_iff_iff,List.any_eq_true,List.any_eq_true]
 have hil:=(List.getElem?_eq_some_iff.1 hi).1
 constructor
 ·rintro ⟨o,ho,h⟩
  rcases mem_set ho with rfl | ho
  ·exact ⟨p,List.mem_of_getElem? hi,by rw[←hu]; exact h⟩
  ·exact ⟨o,ho,h⟩
 ·rintro ⟨o,ho,h⟩
  obtain ⟨k,hk⟩:=List.getElem?_of_mem ho
  by_cases hki:i=k
  ·subst hki
   rw[hi] at hk; cases hk
   exact ⟨p1,List.mem_of_getElem? (i:=i) (by rw[List.getElem?_set,if_pos rfl,if_pos hil]),by rw[hu]; exact h⟩
  ·exact ⟨o,List.mem_of_getElem? (i:=k) (by rw[List.getElem?_set,if_neg hki]; exact hk),h⟩
theorem aN {β:Type} {fl:β} (b o:Nat) (h:Heap) (κ:Value→Heap→β):aX fl (.pointer (some ⟨b,o,none⟩)) h κ=κ (.pointer (some ⟨b,o,none⟩)) h:=id rfl
set_option maxHeartbeats 2000000 in
theorem uF (t r:Int) (q:Value) (w id m:Int) (Q:List R5) (h:Heap) (κ:KQ) (hq:Sl bu h q Q) (hlen:Q.length≤100000) (hlo:h.lo≤h.nx) (hw:0≤w∧w≤1000000)
  (lF:bK m=false→∀h',Le h h'→κ (.tuple ⟨[jG 0 0 (.slice none 0 0) 0,.bool false,.int .i64 2]⟩) h')
  (jc:bK m=true→bT Q id=none→∀h',Le h h'→κ (.tuple ⟨[jG 0 0 (.slice none 0 0) 0,.bool false,.int .i64 5]⟩) h')
  (hk2:bK m=true→∀p,bT Q id=some p→0<p.s→∀h',Le h h'→κ (.tuple ⟨[jG 0 0 (.slice none 0 0) 0,.bool false,.int .i64 7]⟩) h')
  (Ng:bK m=true→∀i p,Q[i]? = some p→bT Q id=some p→¬0<p.s→∀q' h',QV h' q' (Q.set i (gR Q w p m).1)→Le h h'→κ (.tuple ⟨[jG t r q' (gR Q w p m).2.1,.bool (gR Q w p m).2.2,.int .i64 0]⟩) h') :
  CallW Tryz.prog 294 [jG t r q w,.int .i64 id,.int .i64 m] h κ:=by
 obtain ⟨qx,qc,rfl,_⟩:=(show Sl bu h q Q from hq)
 refine aq mixed ?_
 rw[QE]
 simp(disch:=first|omega|simp only[Wd]<;>omega|with_unfolding_all rfl)only[Wz,jG]
 obtain ⟨hA,aJ⟩:∃hA:Heap,hA=⟨h.nx+1+1,((h.bl.aW (h.nx) (dI t r (.slice qx Q.length qc) w)).aW (h.nx+1) (jS)),h.lo⟩:=⟨_,rfl⟩
 have aU:Le h hA:=by subst aJ; exact (((Le.refl h).new _).new _)
 have g1:hA.bl.get (h.nx)=some (dI t r (.slice qx Q.length qc) w):=by subst aJ; exact (T.ai _ _ (by omega)).trans (T.af _ _ _)
 have g3:hA.bl.get (h.nx+1)=some (jS):=by subst aJ; exact T.af _ _ _
 have ig:hA.nx=h.nx+1+1:=by subst aJ; rfl
 have ij:hA.lo=h.lo:=by subst aJ; rfl
 rw[←aJ]
 clear aJ
 refine By m ?_
 cases ha:bK m with
 | false=>
  simp(disch:=first|omega|simp only[Wd]<;>omega|with_unfolding_all rfl)only[Wz,g3]
  exact lF ha _ (aU.set (b:=h.nx+1) (by omega) _)
 | true=>
 simp(disch:=first|omega|simp only[Wd]<;>omega|with_unfolding_all rfl)only[Wz,Bu,g1]
 refine EP t r _ w Q hA _ (hq.le aU) (by omega) (by omega) ?_
 intro q2 h2 yj hle2
 have C_:=hle2.nx
 have Da:=hle2.lo
 have g3:=(hle2.get _ (by omega)).trans g3
 obtain ⟨rO,rP,rfl,_⟩:=(show Sl bu h2 q2 Q from yj.sl)
 simp(disch:=first|omega|simp only[Wd]<;>omega|with_unfolding_all rfl)only[Wz,jG]
 obtain ⟨hB,b6⟩:∃hB:Heap,hB=⟨h2.nx+1,(h2.bl.aW (h2.nx) (iJ t r (.slice rO Q.length rP) w)),h2.lo⟩:=⟨_,rfl⟩
 have bJ:Le h2 hB:=by subst b6; exact ((Le.refl h2).new _)
 have g12:hB.bl.get (h2.nx)=some (iJ t r (.slice rO Q.length rP) w):=by subst b6; exact T.af _ _ _
 have BD:hB.nx=h2.nx+1:=by subst b6; rfl
 have BE:hB.lo=h2.lo:=by subst b6; rfl
 rw[←b6]
 clear b6
 have sn:=bJ.nx
 have sq:=bJ.lo
 have g3:=(bJ.get _ (by omega)).trans g3
 have Kx:=yj.le bJ
 refine uB t r _ w id Q hB _ Kx.sl (by omega) (by omega) ?_
 intro h3 eD
 have QZ:=eD.nx
 have Q0:=eD.lo
 have g3:=(eD.get _ (by omega)).trans g3
 have g12:=(eD.get _ (by omega)).trans g12
 have vz:=Kx.le eD
 have xg:Le h h3:=((aU.trans hle2).trans bJ).trans eD
 rcases mI Q id with ⟨e,e2⟩ | ⟨i,p,e,hi,hjd,e2⟩
 ·rw[e]
  simp(disch:=first|omega|simp only[Wd]<;>omega|with_unfolding_all rfl)only[Wz,iG,fI (show (-1:Int)<0 by decide),g3]
  exact jc ha e2 _ (xg.set (b:=h.nx+1) (by omega) _)
 rw[e]
 obtain ⟨b,o,hb,vA,nu⟩:=QW vz.sl i hi
 simp(disch:=first|omega|simp only[Wd]<;>omega|with_unfolding_all rfl)only[Wz,iG,c6 (show (0:Int)≤(i:Int) by omega),Bt,g12,vA,nu]
 refine EN p ?_
 by_cases hs:0<p.s
 ·simp(disch:=first|omega|simp only[Wd]<;>omega|with_unfolding_all rfl)only[Wz,aZ hs,g3]
  exact hk2 ha p e2 hs _ (xg.set (b:=h.nx+1) (by omega) _)
 rcases vz with ⟨rfl,_⟩ | ⟨bo,e1,k1,k2,k3,k4⟩
 ·simp at hi
 cases e1
 have hil:i<Q.length:=(List.getElem?_eq_some_iff.1 hi).1
 obtain ⟨wt,Mc⟩:∃wt,cV p.m m=wt:=⟨_,rfl⟩
 have hfl:=bh (enc:=bu) bZ Q
 have r2:(Q.flatMap bu)[i*5+2]? = some (.int .i64 p.m):=ic (j:=2) bZ hi (by decide)
 have LH:=ia (p':=⟨p.id,p.x,p.m,wt,p.s⟩) (ws:=[.int .i64 wt]) (j:=3) bZ hi (by show 3+1≤5; omega) rfl
 obtain ⟨p1,NV⟩:∃p1:R5,p1=⟨p.id,p.x,p.m,wt,p.s⟩:=⟨_,rfl⟩
 rw[←NV] at LH
 have hp2:(Q.set i p1)[i]? = some p1:=by rw[List.getElem?_set,if_pos rfl,if_pos hil]
 have ZL:((Q.set i p1).flatMap bu).length=Q.length*5:=by rw[bh bZ,List.length_set]
 have s2:((Q.set i p1).flatMap bu)[i*5+2]? = some (.int .i64 p.m):=by rw[ic (j:=2) bZ hp2 (by decide),NV]; rfl
 have s3:((Q.set i p1).flatMap bu)[i*5+3]? = some (.int .i64 wt):=by rw[ic (j:=3) bZ hp2 (by decide),NV]; rfl
 have Q7:bo≠h2.nx:=by rintro rfl; rw[g12] at k4; exact bf k4
 have I9:bo≠h.nx+1:=by rintro rfl; rw[g3] at k4; exact bf k4
 simp(disch:=first|omega|simp only[Wd]<;>omega|with_unfolding_all rfl)only[Wz,aG hs,Bs,g12,aS,aN,k4,r2]
 refine NR _ _ ?_
 rw[Mc]
 simp(disch:=first|omega|simp only[Wd]<;>omega|with_unfolding_all rfl)only[Wz,aN,k4,LH,s2,s3]
 obtain ⟨hC,eC⟩:∃hC:Heap,hC=⟨h3.nx,h3.bl.aW bo (aa ((Q.set i p1).flatMap bu) 83 true),h3.lo⟩:=⟨_,rfl⟩
 have Ma:Le h hC:=by subst eC; exact xg.set (b:=bo) (by omega) _
 have nC:hC.nx=h3.nx:=by rw[eC]
 have lC:hC.lo=h3.lo:=by rw[eC]
 have gC:hC.bl.get bo=some (aa ((Q.set i p1).flatMap bu) 83 true):=by subst eC; exact T.af _ _ _
 have Xo:hC.bl.get (h.nx+1)=some jS:=by subst eC; exact (T.ai _ _ I9).trans g3
 have Q8:hC.bl.get h2.nx=some (iJ t r (.slice (some ⟨bo,0,none⟩) Q.length aM) w):=by subst eC; exact (T.ai _ _ Q7).trans g12
 rw[←eC]
 have Xp:qI hA hC (.slice (some ⟨bo,0,none⟩) Q.length aM) (Q.set i p1):=.inr ⟨bo,by rw[List.length_set],k1,by omega,by omega,gC⟩
 have Xq:p.id=p1.id:=by rw[NV]
 have eup:rj p1=rj p:=by rw[NV]; rfl
 have ZM:=Ja hi Xq
 have ZN:=Mb hi eup
 have Vq:∀(g:Bool) (hD:Heap),hD.bl.get bo=some (aa ((Q.set i p1).flatMap bu) 83 true)→hD.bl.get (h.nx+1)=some jS→hD.bl.get h2.nx=some (iJ t r (.slice (some ⟨bo,0,none⟩) Q.length aM) w)→Le h hD→hC.nx≤hD.nx→
   gR Q w p m=(⟨p.id,p.x,wt,wt,p.s⟩,w,true)→
   dH (fun Kw=>ur (.pointer (some ⟨bo,i*5,none⟩)) Kw (.bool true) hD) fun l76 h_14=>
    zm False (h_14.bl.get h2.nx) 0 4 fun l=>Kp False (h_14.bl.get (h.nx+1)) 4 (h.nx+1) 0 l h_14 fun h_15=>zm False (h_15.bl.get (h.nx+1)) 0 4 fun l=>κ (.tuple ⟨[.agg ⟨l⟩,.bool true,.int .i64 0]⟩) h_15:=by
  intro g hD d1 d2 d3 hl hn he
  have ll:=hl.lo
  have BG:=ia (p':=⟨p.id,p.x,wt,wt,p.s⟩) (ws:=[.int .i64 wt]) (j:=2) bZ hp2 (by show 2+1≤5; omega) (by rw[NV]; rfl)
  rw[List.set_set] at BG
  refine ⟨fun l h'=>HQ ⟨hD.nx,hD.bl.aW bo (aa ((Q.set i ⟨p.id,p.x,wt,wt,p.s⟩).flatMap bu) 83 true),hD.lo⟩ h',?_,?_⟩
  ·simp(disch:=first|omega|simp only[Wd]<;>omega|with_unfolding_all rfl)only[Wz,ur,aN,d1,s3,BG]
   rfl
  ·intro l h' DM
   cases (show _=h' from DM)
   simp(disch:=first|omega|simp only[Wd]<;>omega|with_unfolding_all rfl)only[Wz,d3,d2]
   have key:=Ng ha i p hi e2 hs
   rw[he] at key
   exact key _ _ (QV.blk (by show bo<hD.nx; omega) ((T.ai _ _ (fun e=>I9 e.symm)).trans (T.af _ _ _)) (by simp)) ((hl.set (b:=bo) (by omega) _).set (b:=h.nx+1) (by omega) _)
 have Vr:∀(hD:Heap),hD.bl.get bo=some (aa ((Q.set i p1).flatMap bu) 83 true)→hD.bl.get (h.nx+1)=some jS→hD.bl.get h2.nx=some (iJ t r (.slice (some ⟨bo,0,none⟩) Q.length aM) w)→Le h hD→hC.nx≤hD.nx→
   gR Q w p m=(⟨p.id,p.x,p.m,wt,w+1⟩,w+1,false)→
   dH (fun Kw=>uu h2.nx (.pointer (some ⟨bo,i*5,none⟩)) Kw (.bool false) hD) fun l76 h_14=>
    zm False (h_14.bl.get h2.nx) 0 4 fun l=>Kp False (h_14.bl.get (h.nx+1)) 4 (h.nx+1) 0 l h_14 fun h_15=>zm False (h_15.bl.get (h.nx+1)) 0 4 fun l=>κ (.tuple ⟨[.agg ⟨l⟩,.bool false,.int .i64 0]⟩) h_15:=by
  intro hD d1 d2 d3 hl hn he
  have ll:=hl.lo
  have BG:=ia (p':=⟨p.id,p.x,p.m,wt,w+1⟩) (ws:=[.int .i64 (w+1)]) (j:=4) bZ hp2 (by show 4+1≤5; omega) (by rw[NV]; rfl)
  rw[List.set_set] at BG
  refine ⟨fun l h'=>HQ ⟨hD.nx,(hD.bl.aW h2.nx (iJ t r (.slice (some ⟨bo,0,none⟩) Q.length aM) (w+1))).aW bo (aa ((Q.set i ⟨p.id,p.x,p.m,wt,w+1⟩).flatMap bu) 83 true),hD.lo⟩ h',?_,?_⟩
  ·simp(disch:=first|omega|simp only[Wd]<;>omega|with_unfolding_all rfl)only[Wz,uu,aN,d1,d3,BG]
   rfl
  ·intro l h' DM
   cases (show _=h' from DM)
   simp(disch:=first|omega|simp only[Wd]<;>omega|with_unfolding_all rfl)only[Wz,d3,d2]
   have key:=Ng ha i p hi e2 hs
   rw[he] at key
   exact key _ _ (QV.blk (by show bo<hD.nx; omega) ((T.ai _ _ (fun e=>I9 e.symm)).trans (T.af _ _ _)) (by simp)) (((hl.set (b:=h2.nx) (by omega) _).set (b:=bo) (by omega) _).set (b:=h.nx+1) (by omega) _)
 by_cases hq1:wt=p.m
 ·simp(disch:=first|omega|simp only[Wd]<;>omega|with_unfolding_all rfl)only[Wz,aZ hq1]
  exact Vq true hC gC Xo Q8 Ma (Nat.le_refl _) (by unfold gR; rw[Mc,if_pos (by simp[hq1])])
 ·have fa:(((Q.set i p1).flatMap bu).drop (i*5)).take 5=bu p1:=by
   have:=yz (enc:=bu) bZ (Q.set i p1) i (by simpa using hil)
   rw[this,(List.getElem?_eq_some_iff.1 hp2).2]
  simp(disch:=first|omega|simp only[Wd]<;>omega|with_unfolding_all rfl)only[Wz,aG hq1,g12,Q8,gC,fa]
  refine yS t r _ w p1 (Q.set i p1) hC _ Xp.sl (by simp; omega) (by omega) ?_
  intro h5 iZ
  have n5:=iZ.nx
  have l5:=iZ.lo
  have d1:=(iZ.get bo (by omega)).trans gC
  have d2:=(iZ.get (h.nx+1) (by omega)).trans Xo
  have d3:=(iZ.get h2.nx (by omega)).trans Q8
  have Sz:=Ma.trans iZ
  rw[ZM]
  have Vs:fM Q p1=fM Q ⟨p.id,p.x,p.m,cV p.m m,p.s⟩:=by rw[NV,Mc]
  cases hft:fM Q p1 with
  | false=>
   simp(disch:=first|omega|simp only[Wd]<;>omega|with_unfolding_all rfl)only[Wz]
   refine Vr h5 d1 d2 d3 Sz n5 ?_
   unfold gR
   rw[Mc,if_neg]
   rw[←Mc,←Vs,hft,Mc]
   simp[hq1]
  | true=>
   simp(disch:=first|omega|simp only[Wd]<;>omega|with_unfolding_all rfl)only[Wz,d3]
   refine mG (Q.set i p1) rj h5 _ _ _ (Xp.sl.le iZ) (by simp; omega) ?_ ?_
   ·intro o ho h6 κ6 Vp hk6
    simp(disch:=first|omega|simp only[Wd]<;>omega|with_unfolding_all rfl)only[Wz,List.nil_append,List.append_nil]
    exact uz o (hk6 h6 (Le.refl _))
   ·intro h6 BH
    have n6:=BH.nx
    have l6:=BH.lo
    have d1:=(BH.get bo (by omega)).trans d1
    have d2:=(BH.get (h.nx+1) (by omega)).trans d2
    have d3:=(BH.get h2.nx (by omega)).trans d3
    have Vp:=Sz.trans BH
    rw[ZN]
    cases han:Q.any rj with
    | true=>
     simp(disch:=first|omega|simp only[Wd]<;>omega|with_unfolding_all rfl)only[Wz]
     refine Vr h6 d1 d2 d3 Vp (by omega) ?_
     unfold gR
     rw[Mc,if_neg]
     rw[han]
     simp[hq1]
    | false=>
     simp(disch:=first|omega|simp only[Wd]<;>omega|with_unfolding_all rfl)only[Wz]
     refine Vq true h6 d1 d2 d3 Vp (by omega) ?_
     unfold gR
     rw[Mc,if_pos]
     rw[←Mc,←Vs,hft,han]
     simp
end Go.Proofs
