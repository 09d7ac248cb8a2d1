/-
  PROVED HERE: a part of the proof (K27, K28, K29).
-/
import Derived.Test.YtmjghbjpdoeemaaGreatDoorKC
import Derived.Test.YtmjghbjpdoeemaaGreatDoorV5
set_option linter.unusedVariables false
set_option linter.unusedSimpArgs false
set_option maxRecDepth 100000
namespace Go.Proofs
open Go.Vai Go.Clashes
abbrev fK:FuncId:=227
abbrev fA:FuncId:=262
def N8 (f:FuncId):Bool:=Nat.beq f fK || Nat.beq f fA
noncomputable abbrev pN:ji Prop:=VD Tryz.prog N8
noncomputable abbrev RN (n:Nat):Rec Prop:=run False pN Tryz.prog n
noncomputable def cK:Code:=Jj Tryz.prog fK
noncomputable def cA:Code:=Jj Tryz.prog fA
noncomputable def kA:Code:=yX cK
noncomputable def kL:Code:=VE (VE (yY cK))
noncomputable def kB:Code:=yX kL
noncomputable def N_:Code:=VE (yY (yY kL))
noncomputable def kC:Code:=yX N_
noncomputable def kD:Code:=yX (yY N_)
theorem VF:cK=.seq kA (.block 0 (.loop (.seq kB (.seq (.cond (.tmp 7) .skip (.exit 0)) (.block 1 (.seq kC (.seq kD (.cond (.tmp 13) .ret .skip)))))))):=by kernel_rfl
noncomputable def aA:Code:=yX cA
noncomputable def aB:Code:=yX (yX (yY cA))
noncomputable def aR:Code:=VE (yY (yX (yY cA)))
noncomputable def aP:Code:=rfA aR
noncomputable def aQ:Code:=VE (rfB aR)
noncomputable def aC:Code:=yX (yY (yY cA))
theorem VG:cA=.seq aA (.seq (.seq aB (.block 0 (.rangeFunc (.tmp 6) #[7] aP (.block 1 aQ)))) (.seq aC .ret)):=by kernel_rfl
variable (rec:Rec Prop) (tm:T Value) (h:Heap)
theorem rkA (κ:Ex→T Value→Heap→Prop):body False pN Tryz.prog rec kA tm h κ =
  ev tm (.tmp 1) fun x=>load1 False x h fun v h=>T.set tm 4 v fun tm=>ev tm (.tmp 4) fun x=>kX False x h fun v h=>T.set tm 5 v fun tm=>κ .normal tm h:=by kernel_rfl
theorem rkB (κ:Ex→T Value→Heap→Prop):body False pN Tryz.prog rec kB tm h κ =
  ev tm (.tmp 5) fun x=>nM False And x h fun v h=>T.set tm 6 v fun tm=>ev tm (.tmp 6) fun x=>av False 0 x h fun v h=>T.set tm 7 v fun tm=>κ .normal tm h:=by kernel_rfl
theorem rkC (κ:Ex→T Value→Heap→Prop):body False pN Tryz.prog rec kC tm h κ =
  ev tm (.tmp 5) fun x=>kY False x h fun v h=>T.set tm 8 v fun tm=>ev tm (.tmp 8) fun x=>av False 0 x h fun v h=>T.set tm 9 v fun tm=>
   an False (aa [.int .i64 0,.int .i64 0] 36 false) h fun b h=>T.set tm 3 (ptrTo b) fun tm=>ev tm (.tmp 3) fun a=>ev tm (.tmp 9) fun v=>aL False 2 a v h fun v h=>κ .normal tm h:=by kernel_rfl
theorem rkD (κ:Ex→T Value→Heap→Prop):body False pN Tryz.prog rec kD tm h κ =
  ev tm (.tmp 0) fun fv=>T.set tm 10 fv fun tm=>ev tm (.tmp 3) fun x=>aF False 2 x h fun v h=>T.set tm 11 v fun tm=>
   ev tm (.tmp 11) fun x=>ev tm (.tmp 10) fun fv=>wE False pN Tryz.prog rec fv [x] h fun v h=>T.set tm 12 v fun tm=>ev tm (.tmp 12) fun x=>kU False .not x h fun v h=>T.set tm 13 v fun tm=>κ .normal tm h:=by kernel_rfl
theorem Z8 (κ:Ex→T Value→Heap→Prop):body False pN Tryz.prog rec aA tm h κ =
  ev tm (.tmp 0) fun s=>az False (Value.cells s).toList 226 false fun o=>an False o h fun b h=>T.set tm 2 (ptrTo b) fun tm=>T.set tm 4 (.slice none 0 0) fun tm=>κ .normal tm h:=by kernel_rfl
theorem Z9 (κ:Ex→T Value→Heap→Prop):body False pN Tryz.prog rec aB tm h κ=ev tm (.tmp 1) fun g=>T.set tm 6 g fun tm=>κ .normal tm h:=by kernel_rfl
theorem Z_ (κ:Ex→T Value→Heap→Prop):body False pN Tryz.prog rec aP tm h κ =
  an False (aa [.int .i64 0,.int .i64 0] 36 false) h fun b h=>T.set tm 5 (ptrTo b) fun tm=>ev tm (.tmp 5) fun a=>ev tm (.tmp 7) fun v=>aL False 2 a v h fun v h=>κ .normal tm h:=by kernel_rfl
theorem aaa (κ:Ex→T Value→Heap→Prop):body False pN Tryz.prog rec aQ tm h κ =
  ev tm (.tmp 2) fun x=>load1 False x h fun v h=>T.set tm 8 v fun tm=>ev tm (.tmp 5) fun x=>aF False 2 x h fun v h=>T.set tm 9 v fun tm=>
   ev tm (.tmp 9) fun v=>bD False [(0,2)] [v] [.int .i64 0,.int .i64 0] fun cs=>az False cs 36 false fun o=>an False o h fun b h=>T.set tm 10 (sliceTo 1 1 b) fun tm=>
   ev tm (.tmp 8) fun s=>ev tm (.tmp 10) fun x=>bE False 36 2 [.int .i64 0,.int .i64 0] false s x h fun v h=>T.set tm 11 v fun tm=>ev tm (.tmp 2) fun a=>ev tm (.tmp 11) fun v=>aL False 1 a v h fun v h=>κ .normal tm h:=by kernel_rfl
theorem aab (κ:Ex→T Value→Heap→Prop):body False pN Tryz.prog rec aC tm h κ =
  ev tm (.tmp 2) fun x=>load1 False x h fun v h=>T.set tm 12 v fun tm=>ev tm (.tmp 12) fun v=>T.set tm 4 v fun tm=>κ .normal tm h:=by kernel_rfl
theorem VH (s g:Value) (κ:KQ):jK False pN Tryz.prog rec fA [s,g] h κ=rec cA (lay [s,g] .nil 0) h (Fh False [.tmp 4] κ):=by kernel_rfl
theorem VI (y m:Value) (κ:KQ):jK False pN Tryz.prog rec fK [y,m] h κ=rec cK (lay [y,m] .nil 0) h (Fh False [] κ):=by kernel_rfl
theorem gN (t:T Value) (n:Nat) (v:Value):cT (t.aW n v) n=v:=by unfold cT; rw[T.af]
theorem mK (t:T Value) {n m:Nat} (v:Value) (h:n≠m):cT (t.aW n v) m=cT t m:=by unfold cT; rw[T.ai _ _ h]
theorem oG {β:Type} (tm:T Value) (t:Nat) (κ:Value→β):ev tm (.tmp t) κ=κ (cT tm t):=eY _ _ _
section
variable (n:Nat) (a b:Code) (tm:T Value) (h:Heap) (κ:Ex→T Value→Heap→Prop)
theorem BN:RN (n+1) (.seq a b) tm h κ=RN n a tm h (vM (RN n) b κ):=id rfl
theorem Jk (t:Nat):RN (n+1) (.cond (.tmp t) a b) tm h κ=sK False (RN n) a b tm h κ (cT tm t):=eY tm (.tmp t) (sK False (RN n) a b tm h κ)
theorem sv (i:Nat):RN (n+1) (.block i a) tm h κ=RN n a tm h (lY i κ):=id rfl
theorem Rk:RN (n+1) (.loop a) tm h κ=RN n a tm h (vM (RN n) (.loop a) κ):=id rfl
theorem Jl (i:Nat):RN (n+1) (.exit i) tm h κ=κ (.exit i) tm h:=id rfl
theorem VJ:RN (n+1) .ret tm h κ=κ .ret tm h:=id rfl
theorem Jm:RN (n+1) .skip tm h κ=κ .normal tm h:=id rfl
theorem aac (t:Nat) (ps:Array Tmp):RN (n+1) (.rangeFunc (.tmp t) ps a b) tm h κ=ga False pN Tryz.prog (RN n) ps.toList a b tm h κ (cT tm t):=eY tm (.tmp t) (ga False pN Tryz.prog (RN n) ps.toList a b tm h κ)
theorem aad:RN (n+1) kA tm h κ=body False pN Tryz.prog (RN n) kA tm h κ:=id rfl
theorem aae:RN (n+1) kB tm h κ=body False pN Tryz.prog (RN n) kB tm h κ:=id rfl
theorem aaf:RN (n+1) kC tm h κ=body False pN Tryz.prog (RN n) kC tm h κ:=id rfl
theorem aag:RN (n+1) kD tm h κ=body False pN Tryz.prog (RN n) kD tm h κ:=id rfl
theorem aah:RN (n+1) aA tm h κ=body False pN Tryz.prog (RN n) aA tm h κ:=id rfl
theorem aai:RN (n+1) aB tm h κ=body False pN Tryz.prog (RN n) aB tm h κ:=id rfl
theorem aaj:RN (n+1) aP tm h κ=body False pN Tryz.prog (RN n) aP tm h κ:=id rfl
theorem aak:RN (n+1) aQ tm h κ=body False pN Tryz.prog (RN n) aQ tm h κ:=id rfl
theorem aal:RN (n+1) aC tm h κ=body False pN Tryz.prog (RN n) aC tm h κ:=id rfl
theorem F4 (rec:Rec Prop):vM rec b κ .normal tm h=rec b tm h κ:=id rfl
theorem VK (rec:Rec Prop) (i:Nat):vM rec b κ (.exit i) tm h=κ (.exit i) tm h:=id rfl
theorem VL (rec:Rec Prop):vM rec b κ .ret tm h=κ .ret tm h:=id rfl
theorem Mj (i:Nat):lY i κ .normal tm h=κ .normal tm h:=id rfl
theorem aam (i:Nat):lY i κ .ret tm h=κ .ret tm h:=id rfl
theorem Oa:lY 0 κ (.exit 0) tm h=κ .normal tm h:=id rfl
theorem aan (rec:Rec Prop):sK False rec a b tm h κ (.bool true)=rec a tm h κ:=id rfl
theorem VM (rec:Rec Prop):sK False rec a b tm h κ (.bool false)=rec b tm h κ:=id rfl
end
noncomputable abbrev Jn:Code:=.seq kB (.seq (.cond (.tmp 7) .skip (.exit 0)) (.block 1 (.seq kC (.seq kD (.cond (.tmp 13) .ret .skip)))))
noncomputable abbrev iL (st:LoopState) (mL:T Value):bC:=.loop st none mL [7] aP (.block 1 aQ)
def lG (p:Int × Int):List Value:=[.int .i64 p.1,.int .i64 p.2]
theorem pW (p:Int × Int):(lG p).length=2:=rfl
theorem Jo (p:Int × Int):(lG p).all dR=true:=rfl
def ef (e:HE):Int × Int:=(e.t,e.r)
abbrev uR (a h:Heap) (v:Value) (L:List (Int × Int)):Prop:=fS lG a 36 h v L
structure Rl (a:Heap) (bm:Nat) (clock:Nat) (M:List HE) (mL:T Value) (seen:List Nat) (tm:T Value) (h1:Heap) (v:Value) (L:List HE):Prop where
 le:Le a h1
 nx:a.nx+3≤h1.nx
 gs:h1.bl.get a.nx=some (aa [v] 226 false)
 gl:h1.bl.get (a.nx+1)=some (iL .ready mL)
 gi:h1.bl.get (a.nx+2)=some (.dz (some bm) clock seen clock)
 own:uR a h1 v (L.map ef)
 perm:L.Perm (M.filter fun e=>seen.any (Nat.beq e.born))
 t0:cT tm 0=.func (.yield (a.nx+1)) #[] #[]
 t5:cT tm 5=ptrTo (a.nx+2)
theorem Rm (rec:Rec Prop) (l:Nat) (x:Value) (h:Heap) (κ:KQ):wE False pN Tryz.prog rec (.func (.yield l) #[] #[]) [x] h κ=qd False rec l [x] h κ:=id rfl
theorem round_eq {rec:Rec Prop} {l:Nat} {x:Value} {h:Heap} {κ:Value→Heap→Prop} {st:LoopState} {mL:T Value} (hl:h.bl.get l=some (iL st mL)):qd False rec l [x] h κ=rec aP (mL.aW 7 x) h (gq False rec l (.block 1 aQ) κ):=by
 unfold qd
 simp only[hl,List.length_cons,List.length_nil]
 show sJ [7] [x] mL _=_
 unfold sJ
 rw[T.eT]
 unfold sJ
 rfl
theorem Jp {rec:Rec Prop} {l:Nat} {bd:Code} {tm:T Value} {h:Heap} {κ:Value→Heap→Prop} {mL:T Value} (hl:h.bl.get l=some (iL .ready mL)) (hlo:h.lo≤l):gq False rec l bd κ .normal tm h=rec bd tm ⟨h.nx,h.bl.aW l (iL .busy mL),h.lo⟩ (kz False l κ):=by
 unfold gq
 simp only[hl,bL _ _ _ _ hlo]
theorem Ro {l:Nat} {tm:T Value} {h:Heap} {κ:Value→Heap→Prop} {st:LoopState} {mL:T Value} (hl:h.bl.get l=some (iL st mL)) (hlo:h.lo≤l):kz False l κ .normal tm h=κ (.bool true) ⟨h.nx,h.bl.aW l (iL .ready mL),h.lo⟩:=by
 unfold kz
 simp only[hl,bL _ _ _ _ hlo]
theorem F5 {M:List HE} {clock:Nat} (o:eE M clock) {e:HE} (he:e∈M) {seen:List Nat} (hn:seen.any (Nat.beq e.born)=false):(M.filter fun x=>(e.born::seen).any (Nat.beq x.born)).Perm (M.filter (fun x=>seen.any (Nat.beq x.born))++[e]):=by
 have hnd:M.Nodup:=o.bn.imp fun h e=>h (by rw[e])
 refine (List.perm_ext_iff_of_nodup (hnd.filter _) ?_).2 fun x=>?_
 ·rw[List.nodup_append]
  refine ⟨hnd.filter _,by simp,fun x hx y hy=>?_⟩
  rw[List.mem_singleton] at hy; subst hy
  rintro rfl
  rw[List.mem_filter,hn] at hx
  exact absurd hx.2 (by simp)
 ·rw[List.mem_filter,List.mem_append,List.mem_filter,List.mem_singleton,List.any_cons,Bool.or_eq_true]
  constructor
  ·rintro ⟨h1,h2 | h2⟩
   ·exact .inr (o.NZ h1 he (Nat.eq_of_beq_eq_true h2))
   ·exact .inl ⟨h1,h2⟩
  ·rintro (⟨h1,h2⟩ | rfl)
   ·exact ⟨h1,.inr h2⟩
   ·exact ⟨he,.inl (Nat.beq_refl _)⟩
theorem F6 (a:Heap) (bm clock:Nat) (M:List HE) (mL:T Value) (o:eE M clock) (g:a.bl.get bm=some (.map (M.map jw) clock)) (Df:bm<a.nx) (hlo:a.lo≤a.nx) (hM:M.length≤1000) (hA:cT mL 2=ptrTo a.nx) (κ:Ex→T Value→Heap→Prop)
  (hk:∀(tm:T Value) (h1:Heap) (v:Value) (L:List HE),L.Perm M→uR a h1 v (L.map ef)→Le a h1→a.nx+3≤h1.nx→h1.bl.get a.nx=some (aa [v] 226 false)→h1.bl.get (a.nx+1)=some (iL .ready mL)→κ (.exit 0) tm h1) :
  ∀(k:Nat) (seen:List Nat) (tm:T Value) (h1:Heap) (v:Value) (L:List HE),yW M seen≤k→Rl a bm clock M mL seen tm h1 v L→RN (k+12) (.loop Jn) tm h1 κ:=by
 have step:∀(k:Nat) (seen:List Nat) (tm:T Value) (h1:Heap) (v:Value) (L:List HE),Rl a bm clock M mL seen tm h1 v L→
   (∀e∈M,seen.any (Nat.beq e.born)=false→∀(tm:T Value) (h1:Heap) (v:Value) (L:List HE),Rl a bm clock M mL (e.born::seen) tm h1 v L→RN (k+11) (.loop Jn) tm h1 κ)→RN (k+12) (.loop Jn) tm h1 κ:=by
  intro k seen tm h1 v L I hnext
  have n1:=I.nx
  have l1:=I.le.lo
  have gm:=(I.le.get bm Df).trans g
  rw[show k+12=k+11+1 from by omega,Rk]
  simp(disch:=first|omega|simp only[Wd]<;>omega|with_unfolding_all rfl)only[Wz,BN,aae,rkB,oG,T.eT,gN,mK,F4,VK,VL,Mj,aam,Oa,I.t5]
  refine Jg o I.gi gm (by omega) _ ?_ ?_
  ·intro hall
   simp(disch:=first|omega|simp only[Wd]<;>omega|with_unfolding_all rfl)only[Wz,Jk,gN,VM,Jl,VK]
   have hf:M.filter (fun e=>seen.any (Nat.beq e.born))=M:=List.filter_eq_self.2 hall
   exact hk _ h1 v L (hf▸I.perm) I.own I.le n1 I.gs I.gl
  ·intro e he Kj
   obtain ⟨h2,e2⟩:∃h2:Heap,h2=⟨h1.nx,h1.bl.aW (a.nx+2) (.dz (some bm) clock (e.born::seen) clock),h1.lo⟩:=⟨_,rfl⟩
   have bF:Le a h2:=by rw[e2]; exact I.le.set (by omega) _
   have n2:h2.nx=h1.nx:=by rw[e2]
   have l2:h2.lo=h1.lo:=by rw[e2]
   have gi2:h2.bl.get (a.nx+2)=some (.dz (some bm) clock (e.born::seen) clock):=by rw[e2]; exact T.af _ _ _
   have gs2:h2.bl.get a.nx=some (aa [v] 226 false):=by rw[e2]; exact (T.ai _ _ (by omega)).trans I.gs
   have gl2:h2.bl.get (a.nx+1)=some (iL .ready mL):=by rw[e2]; exact (T.ai _ _ (by omega)).trans I.gl
   have yj:uR a h2 v (L.map ef):=by rw[e2]; exact fS.put I.own (by rw[I.gi]; intro hc; unfold aa at hc; cases hc) _
   rw[←e2]
   clear e2
   have Vy:=(bF.get bm Df).trans g
   simp(disch:=first|omega|simp only[Wd]<;>omega|with_unfolding_all rfl)only[Wz,Jk,Jm,BN,sv,gN,mK,aan,Jl,F4,aaf,rkC,oG,T.eT,I.t5,EX o he gi2 Vy,dK,aag,rkD,I.t0]
   have n3:a.nx+3≤h2.nx:=by omega
   obtain ⟨h3,e3⟩:∃h3:Heap,h3=⟨h2.nx+1,h2.bl.aW h2.nx (aa [.int .i64 e.t,.int .i64 e.r] 36 false),h2.lo⟩:=⟨_,rfl⟩
   have Jq:Le h2 h3:=by rw[e3]; exact (Le.refl h2).new _
   have nx3:h3.nx=h2.nx+1:=by rw[e3]
   have l3:h3.lo=h2.lo:=by rw[e3]
   have gl3:=(Jq.get _ (by omega)).trans gl2
   rw[←e3,Rm,round_eq gl3]
   clear e3
   simp(disch:=first|omega|simp only[Wd]<;>omega|with_unfolding_all rfl)only[Wz,aaj,Z_,T.eT,oG,gN,mK]
   obtain ⟨h4,e4⟩:∃h4:Heap,h4=⟨h3.nx+1,h3.bl.aW h3.nx (aa [.int .i64 e.t,.int .i64 e.r] 36 false),h3.lo⟩:=⟨_,rfl⟩
   have Jr:Le h3 h4:=by rw[e4]; exact (Le.refl h3).new _
   have nx4:h4.nx=h3.nx+1:=by rw[e4]
   have l4:h4.lo=h3.lo:=by rw[e4]
   have gn4:h4.bl.get h3.nx=some (aa [.int .i64 e.t,.int .i64 e.r] 36 false):=by rw[e4]; exact T.af _ _ _
   have gl4:=(Jr.get _ (by omega)).trans gl3
   have gs4:=((Jq.trans Jr).get _ (by omega)).trans gs2
   have gi4:=((Jq.trans Jr).get _ (by omega)).trans gi2
   have Vj:uR a h4 v (L.map ef):=yj.le (Jq.trans Jr)
   rw[←e4,Jp gl4 (by omega)]
   clear e4
   have VN:(h4.bl.aW (a.nx+1) (iL .busy mL)).get a.nx=_:=(T.ai _ _ (by omega)).trans gs4
   have gn5:(h4.bl.aW (a.nx+1) (iL .busy mL)).get h3.nx=_:=(T.ai _ _ (by omega)).trans gn4
   simp(disch:=first|omega|simp only[Wd]<;>omega|with_unfolding_all rfl)only[Wz,sv,aak,aaa,T.eT,oG,gN,mK,hA,VN,gn5]
   obtain ⟨h5,e5⟩:∃h5:Heap,h5=⟨h4.nx+1,(h4.bl.aW (a.nx+1) (iL .busy mL)).aW h4.nx (aa [.int .i64 e.t,.int .i64 e.r] 36 false),h4.lo⟩:=⟨_,rfl⟩
   have aao:Le a h5:=by rw[e5]; exact (((bF.trans Jq).trans Jr).set (b:=a.nx+1) (by omega) _).new _
   have nx5:h5.nx=h4.nx+1:=by rw[e5]
   have l5:h5.lo=h4.lo:=by rw[e5]
   have VN:h5.bl.get a.nx=some (aa [v] 226 false):=by rw[e5]; exact (T.ai _ _ (by omega)).trans VN
   have gl5:h5.bl.get (a.nx+1)=some (iL .busy mL):=by rw[e5]; exact (T.ai _ _ (by omega)).trans (T.af _ _ _)
   have gi5:h5.bl.get (a.nx+2)=some (.dz (some bm) clock (e.born::seen) clock):=by rw[e5]; exact (T.ai _ _ (by omega)).trans ((T.ai _ _ (by omega)).trans gi4)
   have gx5:h5.bl.get h4.nx=some (aa ([ef e].flatMap lG) 36 false):=by rw[e5]; exact T.af _ _ _
   have yT:uR a h5 v (L.map ef):=by
    rw[e5]
    exact fS.le (fS.put Vj (by rw[gl4]; intro hc; unfold aa at hc; cases hc) _) ((Le.refl _).new _)
   have hLl:L.length≤1000:=by
    rw[I.perm.length_eq]
    exact Nat.le_trans (List.length_filter_le _ _) hM
   rw[←e5]
   clear e5
   refine h_ (enc:=lG) (a:=a) (L:=L.map ef) (M:=[ef e]) pW Jo (by decide) (by decide) yT (Sl.new (by omega) gx5 _) aao (by simp; omega) (by omega) _ ?_
   intro v' h6 I_ yZ _ n6 l6 Js
   have gs6:=(Js a.nx (by omega) (by rw[VN]; exact bf)).trans VN
   have gl6:=(Js (a.nx+1) (by omega) (by rw[gl5]; intro hc; unfold aa at hc; cases hc)).trans gl5
   have gi6:=(Js (a.nx+2) (by omega) (by rw[gi5]; intro hc; unfold aa at hc; cases hc)).trans gi5
   obtain ⟨x',c',rfl,_⟩:=(show Sl lG h6 v' _ from I_.sl)
   simp(disch:=first|omega|simp only[Wd]<;>omega|with_unfolding_all rfl)only[Wz,gs6]
   obtain ⟨h7,e7⟩:∃h7:Heap,h7=⟨h6.nx,h6.bl.aW a.nx (aa [.slice x' (L.map ef++[ef e]).length c'] 226 false),h6.lo⟩:=⟨_,rfl⟩
   have gl7:h7.bl.get (a.nx+1)=some (iL .busy mL):=by rw[e7]; exact (T.ai _ _ (by omega)).trans gl6
   have nx7:h7.nx=h6.nx:=by rw[e7]
   have l7:h7.lo=h6.lo:=by rw[e7]
   have gs7:h7.bl.get a.nx=some (aa [.slice x' (L.map ef++[ef e]).length c'] 226 false):=by rw[e7]; exact T.af _ _ _
   have gi7:h7.bl.get (a.nx+2)=some (.dz (some bm) clock (e.born::seen) clock):=by rw[e7]; exact (T.ai _ _ (by omega)).trans gi6
   have le7:Le a h7:=by rw[e7]; exact yZ.set (by omega) _
   have ho7:uR a h7 (.slice x' (L.map ef++[ef e]).length c') (L.map ef++[ef e]):=by rw[e7]; exact fS.put I_ (by rw[gs6]; exact bf) _
   rw[←e7,Mj,Ro gl7 (by omega)]
   clear e7
   simp(disch:=first|omega|simp only[Wd]<;>omega|with_unfolding_all rfl)only[Wz,VM,Jm,Mj,F4]
   have fr:∀c,c≠a.nx+1→(h7.bl.aW (a.nx+1) (iL .ready mL)).get c=h7.bl.get c:=fun c hc=>T.ai _ _ (fun e=>hc e.symm)
   refine hnext e he Kj _ _ (.slice x' (L.map ef++[ef e]).length c') (L++[e]) ⟨le7.set (by omega) _,by show a.nx+3≤h7.nx; omega,(fr _ (by omega)).trans gs7,T.af _ _ _,(fr _ (by omega)).trans gi7,?_,(I.perm.append_right _).trans (F5 o he Kj).symm,?_,?_⟩
   ·rw[List.map_append]
    exact fS.put ho7 (by rw[gl7]; intro hc; unfold aa at hc; cases hc) _
   ·simp (disch:=decide) only [mK]; exact I.t0
   ·simp (disch:=decide) only [mK]; exact I.t5
 intro k
 induction k with
 | zero=>
  intro seen tm h1 v L hu I
  refine step 0 seen tm h1 v L I fun e he Kj=>?_
  have:=qN he Kj
  omega
 | succ k ih=>
  intro seen tm h1 v L hu I
  refine step (k+1) seen tm h1 v L I fun e he Kj cq ZP v' L' I'=>ih (e.born::seen) cq ZP v' L' ?_ I'
  have:=qN he Kj
  omega
theorem VO (rec:Rec Prop) (ps:List Nat) (x y:Code) (tm:T Value) (h:Heap) (κ:Ex→T Value→Heap→Prop) (c:Value) :
  ga False pN Tryz.prog rec ps x y tm h κ (.func (.func fK) #[] #[c])=jK False pN Tryz.prog rec fK [.func (.yield h.nx) #[] #[],c] ⟨h.nx+1,h.bl.aW h.nx (.loop .ready none tm ps x y),h.lo⟩ (gV False h.nx tm κ):=dn (fl:=False) (.loop .ready none tm ps x y) h (fun l h=>jK False pN Tryz.prog rec fK [.func (.yield l) #[] #[],c] h (gV False l tm κ))
theorem Jb (tm:T Value) (h:Heap) (κ:KQ):Fh False [] κ .normal tm h=κ (.tuple ⟨[]⟩) h:=id rfl
theorem aap (tm:T Value) (h:Heap) (κ:KQ):Fh False [.tmp 4] κ .ret tm h=κ (cT tm 4) h:=eY tm (.tmp 4) fun v=>κ v h
theorem Jt {l:Nat} {tm mL:T Value} {v:Value} {h:Heap} {κ:Ex→T Value→Heap→Prop} (hl:h.bl.get l=some (iL .ready mL)) (hlo:h.lo≤l):∃o,gV False l tm κ v h=κ .normal tm ⟨h.nx,h.bl.aW l o,h.lo⟩:=by
 refine ⟨.loop .exhausted none mL [7] aP (.block 1 aQ),?_⟩
 unfold gV
 simp only[hl,bL _ _ _ _ hlo]
theorem VP (s g:Value):lay [s,g] .nil 0=((T.nil:T Value).aW 0 s).aW 1 g:=by kernel_rfl
theorem BO (M:List HE) (clock bm mc:Nat) (a:Heap) (o:eE M clock) (g:a.bl.get bm=some (.map (M.map jw) clock)) (Df:bm<a.nx) (gc:a.bl.get mc=some (aa [.map (some bm)] 218 false)) (hmc:mc<a.nx) (hlo:a.lo≤a.nx) (hM:M.length≤1000) (κ:KQ)
  (hk:∀v h' (L:List HE),L.Perm M→uR a h' v (L.map ef)→Le a h'→κ v h') :
  CallW Tryz.prog fA [.slice none 0 0,.func (.func fK) #[] #[.pointer (some ⟨mc,0,none⟩)]] a κ:=by
 refine F3 mixed (skip:=N8) (M.length+60) ?_
 rw[VH,VG,VP]
 simp(disch:=first|omega|simp only[Wd]<;>omega|with_unfolding_all rfl)only[Wz,BN,aah,Z8,T.eT,oG,gN,mK,F4,aai,Z9,sv,aac,VO]
 generalize htm:(((((T.nil:T Value).aW 0 (Value.slice none 0 0)).aW 1 (Value.func (Fn.func fK) #[] #[Value.pointer (some ⟨mc,0,none⟩)])).aW 2 (Value.pointer (some ⟨a.nx,0,none⟩))).aW 4 (Value.slice none 0 0)).aW 6 (Value.func (Fn.func fK) #[] #[Value.pointer (some ⟨mc,0,none⟩)])=mL
 have hA:cT mL 2=ptrTo a.nx:=by rw[←htm]; simp (disch:=decide) only [mK,gN]; rfl
 obtain ⟨Mk,uS⟩:∃Mk:Heap,Mk=⟨a.nx+1+1,((a.bl.aW (a.nx) (aa [.slice none 0 0] 226 false)).aW (a.nx+1) (iL .ready mL)),a.lo⟩:=⟨_,rfl⟩
 have Dg:Le a Mk:=by subst uS; exact (((Le.refl a).new _).new _)
 have gs:Mk.bl.get (a.nx)=some (aa [.slice none 0 0] 226 false):=by subst uS; exact (T.ai _ _ (by omega)).trans (T.af _ _ _)
 have gl:Mk.bl.get (a.nx+1)=some (iL .ready mL):=by subst uS; exact T.af _ _ _
 have acy:Mk.nx=a.nx+1+1:=by subst uS; rfl
 have acz:Mk.lo=a.lo:=by subst uS; rfl
 rw[←uS]
 clear uS
 have y3:=(Dg.get _ hmc).trans gc
 have Vy:=(Dg.get _ Df).trans g
 rw[VI,VF,VP]
 simp(disch:=first|omega|simp only[Wd]<;>omega|with_unfolding_all rfl)only[Wz,BN,aad,rkA,T.eT,oG,gN,mK,F4,y3,BK Vy,sv]
 refine F6 a bm clock M mL o g Df hlo hM hA _ ?_ (M.length+41) [] _ _ (.slice none 0 0) [] ?_ ?_
 ·intro tm h1 v L hp ho b_ n1 g1 gl1
  have l1:=b_.lo
  obtain ⟨ob,ea⟩:=Jt (tm:=mL) (v:=.tuple ⟨[]⟩) (κ:=lY 0 (vM (RN (M.length+58)) (aC.seq Code.ret) (Fh False [vK.tmp 4] κ))) gl1 (by omega)
  rw[Oa,Jb,ea]
  have gs1:(h1.bl.aW (a.nx+1) ob).get a.nx=some (aa [v] 226 false):=(T.ai _ _ (by omega)).trans g1
  simp(disch:=first|omega|simp only[Wd]<;>omega|with_unfolding_all rfl)only[Wz,Mj,F4,BN,aal,aab,T.eT,oG,gN,mK,hA,gs1,VJ,VL,aap]
  exact hk v _ L hp (fS.put ho (by rw[gl1]; intro hc; unfold aa at hc; cases hc) _) (b_.set (by omega) _)
 ·exact Nat.le_trans (List.countP_le_length) (by omega)
 ·have e2:Mk.nx=a.nx+2:=by omega
  refine ⟨Dg.new _,by show a.nx+3≤Mk.nx+1; omega,(T.ai _ _ (by omega)).trans gs,(T.ai _ _ (by omega)).trans gl,by rw[←e2]; exact T.af _ _ _,.inl ⟨rfl,.inl rfl⟩,?_,?_,?_⟩
  ·rw[List.filter_eq_nil_iff.2 (fun x _=>by simp)]
  ·simp (disch:=decide) only [mK,gN]
  ·rw[gN,e2]; rfl
end Go.Proofs
