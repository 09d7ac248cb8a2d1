/-
  PROVED HERE: a part of the proof (K27, K28, K29).
-/
import Derived.Test.YtijmemedhkgplaaGreatDoorKC
import Derived.Test.YtijmemedhkgplaaGreatDoorV5
set_option linter.unusedVariables false
set_option linter.unusedSimpArgs false
set_option maxRecDepth 100000
namespace Go.Proofs
open Go.Vai Go.Clashes
abbrev fK:FuncId:=198
abbrev fA:FuncId:=219
def Tl (f:FuncId):Bool:=Nat.beq f fK || Nat.beq f fA
noncomputable abbrev pN:kV Prop:=prK Tryz.prog Tl
noncomputable abbrev RN (n:Nat):Rec Prop:=run False pN Tryz.prog n
noncomputable def cK:Code:=NZ Tryz.prog fK
noncomputable def cA:Code:=NZ Tryz.prog fA
noncomputable def kA:Code:=BS cK
noncomputable def kL:Code:=inC (inC (BT cK))
noncomputable def kB:Code:=BS kL
noncomputable def Tm:Code:=inC (BT (BT kL))
noncomputable def kC:Code:=BS Tm
noncomputable def kD:Code:=BS (BT Tm)
theorem aa7:cK=.seq kA (.block 0 (.loop (.seq kB (.seq (.cond (.tmp 7) .skip (.exit 0)) (.block 1 (.seq kC (.seq kD (.cond (.tmp 13) .ret .skip)))))))):=by kernel_rfl
noncomputable def aA:Code:=BS cA
noncomputable def aB:Code:=BS (BS (BT cA))
noncomputable def aR:Code:=inC (BT (BS (BT cA)))
noncomputable def aP:Code:=rfA aR
noncomputable def aQ:Code:=inC (rfB aR)
noncomputable def aC:Code:=BS (BT (BT cA))
theorem aa8:cA=.seq aA (.seq (.seq aB (.block 0 (.rangeFunc (.tmp 6) #[7] aP (.block 1 aQ)))) (.seq aC .ret)):=by kernel_rfl
variable (rec:Rec Prop) (tm:T Value) (h:Heap)
theorem rkA (κ:Ex→T Value→Heap→Prop):body False pN Tryz.prog rec kA tm h κ =
  ev tm (.tmp 1) fun x=>load1 False x h fun v h=>T.set tm 4 v fun tm=>ev tm (.tmp 4) fun x=>nG False x h fun v h=>T.set tm 5 v fun tm=>κ .normal tm h:=by kernel_rfl
theorem rkB (κ:Ex→T Value→Heap→Prop):body False pN Tryz.prog rec kB tm h κ =
  ev tm (.tmp 5) fun x=>qD False And x h fun v h=>T.set tm 6 v fun tm=>ev tm (.tmp 6) fun x=>au False 0 x h fun v h=>T.set tm 7 v fun tm=>κ .normal tm h:=by kernel_rfl
theorem rkC (κ:Ex→T Value→Heap→Prop):body False pN Tryz.prog rec kC tm h κ =
  ev tm (.tmp 5) fun x=>nH False x h fun v h=>T.set tm 8 v fun tm=>ev tm (.tmp 8) fun x=>au False 0 x h fun v h=>T.set tm 9 v fun tm=>
   ai False (af [.int .i64 0,.int .i64 0] 24 false) h fun b h=>T.set tm 3 (ptrTo b) fun tm=>ev tm (.tmp 3) fun a=>ev tm (.tmp 9) fun v=>aF False 2 a v h fun v h=>κ .normal tm h:=by kernel_rfl
theorem rkD (κ:Ex→T Value→Heap→Prop):body False pN Tryz.prog rec kD tm h κ =
  ev tm (.tmp 0) fun fv=>T.set tm 10 fv fun tm=>ev tm (.tmp 3) fun x=>ax False 2 x h fun v h=>T.set tm 11 v fun tm=>
   ev tm (.tmp 11) fun x=>ev tm (.tmp 10) fun fv=>zD False pN Tryz.prog rec fv [x] h fun v h=>T.set tm 12 v fun tm=>ev tm (.tmp 12) fun x=>jJ False .not x h fun v h=>T.set tm 13 v fun tm=>κ .normal tm h:=by kernel_rfl
theorem afY (κ:Ex→T Value→Heap→Prop):body False pN Tryz.prog rec aA tm h κ =
  ev tm (.tmp 0) fun s=>ay False (Value.cells s).toList 148 false fun o=>ai False o h fun b h=>T.set tm 2 (ptrTo b) fun tm=>T.set tm 4 (.slice none 0 0) fun tm=>κ .normal tm h:=by kernel_rfl
theorem afZ (κ:Ex→T Value→Heap→Prop):body False pN Tryz.prog rec aB tm h κ=ev tm (.tmp 1) fun g=>T.set tm 6 g fun tm=>κ .normal tm h:=by kernel_rfl
theorem af0 (κ:Ex→T Value→Heap→Prop):body False pN Tryz.prog rec aP tm h κ =
  ai False (af [.int .i64 0,.int .i64 0] 24 false) h fun b h=>T.set tm 5 (ptrTo b) fun tm=>ev tm (.tmp 5) fun a=>ev tm (.tmp 7) fun v=>aF False 2 a v h fun v h=>κ .normal tm h:=by kernel_rfl
theorem af1 (κ:Ex→T Value→Heap→Prop):body False pN Tryz.prog rec aQ tm h κ =
  ev tm (.tmp 2) fun x=>load1 False x h fun v h=>T.set tm 8 v fun tm=>ev tm (.tmp 5) fun x=>ax False 2 x h fun v h=>T.set tm 9 v fun tm=>
   ev tm (.tmp 9) fun v=>bC False [(0,2)] [v] [.int .i64 0,.int .i64 0] fun cs=>ay False cs 24 false fun o=>ai False o h fun b h=>T.set tm 10 (sliceTo 1 1 b) fun tm=>
   ev tm (.tmp 8) fun s=>ev tm (.tmp 10) fun x=>bB False 24 2 [.int .i64 0,.int .i64 0] false s x h fun v h=>T.set tm 11 v fun tm=>ev tm (.tmp 2) fun a=>ev tm (.tmp 11) fun v=>aF False 1 a v h fun v h=>κ .normal tm h:=by kernel_rfl
theorem af2 (κ:Ex→T Value→Heap→Prop):body False pN Tryz.prog rec aC tm h κ =
  ev tm (.tmp 2) fun x=>load1 False x h fun v h=>T.set tm 12 v fun tm=>ev tm (.tmp 12) fun v=>T.set tm 4 v fun tm=>κ .normal tm h:=by kernel_rfl
theorem aa9 (s g:Value) (κ:KQ):lW False pN Tryz.prog rec fA [s,g] h κ=rec cA (lay [s,g] .nil 0) h (Jv False [.tmp 4] κ):=by kernel_rfl
theorem aa_ (y m:Value) (κ:KQ):lW False pN Tryz.prog rec fK [y,m] h κ=rec cK (lay [y,m] .nil 0) h (Jv False [] κ):=by kernel_rfl
theorem jk (t:T Value) (n:Nat) (v:Value):dx (t.bf n v) n=v:=by unfold dx; rw[T.aa]
theorem pM (t:T Value) {n m:Nat} (v:Value) (h:n≠m):dx (t.bf n v) m=dx t m:=by unfold dx; rw[T.aj _ _ h]
theorem rC {β:Type} (tm:T Value) (t:Nat) (κ:Value→β):ev tm (.tmp t) κ=κ (dx tm t):=gu _ _ _
section
variable (n:Nat) (a b:Code) (tm:T Value) (h:Heap) (κ:Ex→T Value→Heap→Prop)
theorem Eu:RN (n+1) (.seq a b) tm h κ=RN n a tm h (y7 (RN n) b κ):=id rfl
theorem N_ (t:Nat):RN (n+1) (.cond (.tmp t) a b) tm h κ=wA False (RN n) a b tm h κ (dx tm t):=gu tm (.tmp t) (wA False (RN n) a b tm h κ)
theorem wg (i:Nat):RN (n+1) (.block i a) tm h κ=RN n a tm h (oH i κ):=id rfl
theorem WJ:RN (n+1) (.loop a) tm h κ=RN n a tm h (y7 (RN n) (.loop a) κ):=id rfl
theorem Oa (i:Nat):RN (n+1) (.exit i) tm h κ=κ (.exit i) tm h:=id rfl
theorem aba:RN (n+1) .ret tm h κ=κ .ret tm h:=id rfl
theorem Ob:RN (n+1) .skip tm h κ=κ .normal tm h:=id rfl
theorem af3 (t:Nat) (ps:Array Tmp):RN (n+1) (.rangeFunc (.tmp t) ps a b) tm h κ=iH False pN Tryz.prog (RN n) ps.toList a b tm h κ (dx tm t):=gu tm (.tmp t) (iH False pN Tryz.prog (RN n) ps.toList a b tm h κ)
theorem af4:RN (n+1) kA tm h κ=body False pN Tryz.prog (RN n) kA tm h κ:=id rfl
theorem af5:RN (n+1) kB tm h κ=body False pN Tryz.prog (RN n) kB tm h κ:=id rfl
theorem af6:RN (n+1) kC tm h κ=body False pN Tryz.prog (RN n) kC tm h κ:=id rfl
theorem af7:RN (n+1) kD tm h κ=body False pN Tryz.prog (RN n) kD tm h κ:=id rfl
theorem af8:RN (n+1) aA tm h κ=body False pN Tryz.prog (RN n) aA tm h κ:=id rfl
theorem af9:RN (n+1) aB tm h κ=body False pN Tryz.prog (RN n) aB tm h κ:=id rfl
theorem af_:RN (n+1) aP tm h κ=body False pN Tryz.prog (RN n) aP tm h κ:=id rfl
theorem aga:RN (n+1) aQ tm h κ=body False pN Tryz.prog (RN n) aQ tm h κ:=id rfl
theorem agb:RN (n+1) aC tm h κ=body False pN Tryz.prog (RN n) aC tm h κ:=id rfl
theorem KG (rec:Rec Prop):y7 rec b κ .normal tm h=rec b tm h κ:=id rfl
theorem abb (rec:Rec Prop) (i:Nat):y7 rec b κ (.exit i) tm h=κ (.exit i) tm h:=id rfl
theorem abc (rec:Rec Prop):y7 rec b κ .ret tm h=κ .ret tm h:=id rfl
theorem Ri (i:Nat):oH i κ .normal tm h=κ .normal tm h:=id rfl
theorem agc (i:Nat):oH i κ .ret tm h=κ .ret tm h:=id rfl
theorem Tn:oH 0 κ (.exit 0) tm h=κ .normal tm h:=id rfl
theorem agd (rec:Rec Prop):wA False rec a b tm h κ (.bool true)=rec a tm h κ:=id rfl
theorem abd (rec:Rec Prop):wA False rec a b tm h κ (.bool false)=rec b tm h κ:=id rfl
end
noncomputable abbrev Oc:Code:=.seq kB (.seq (.cond (.tmp 7) .skip (.exit 0)) (.block 1 (.seq kC (.seq kD (.cond (.tmp 13) .ret .skip)))))
noncomputable abbrev jW (st:LoopState) (pO:T Value):bU:=.loop st none pO [7] aP (.block 1 aQ)
def nU (p:Int × Int):List Value:=[.int .i64 p.1,.int .i64 p.2]
theorem sJ (p:Int × Int):(nU p).length=2:=rfl
theorem Od (p:Int × Int):(nU p).all ef=true:=rfl
def a_ (e:HE):Int × Int:=(e.t,e.r)
abbrev yq (a h:Heap) (v:Value) (L:List (Int × Int)):Prop:=cU nU a 24 h v L
structure WK (a:Heap) (bm:Nat) (clock:Nat) (M:List HE) (pO:T Value) (seen:List Nat) (tm:T Value) (h1:Heap) (v:Value) (L:List HE):Prop where
 le:Le a h1
 nx:a.nx+3≤h1.nx
 gs:h1.bl.get a.nx=some (af [v] 148 false)
 gl:h1.bl.get (a.nx+1)=some (jW .ready pO)
 gi:h1.bl.get (a.nx+2)=some (.dS (some bm) clock seen clock)
 own:yq a h1 v (L.map a_)
 perm:L.Perm (M.filter fun e=>seen.any (Nat.beq e.born))
 t0:dx tm 0=.func (.yield (a.nx+1)) #[] #[]
 t5:dx tm 5=ptrTo (a.nx+2)
theorem WL (rec:Rec Prop) (l:Nat) (x:Value) (h:Heap) (κ:KQ):zD False pN Tryz.prog rec (.func (.yield l) #[] #[]) [x] h κ=tn False rec l [x] h κ:=id rfl
theorem round_eq {rec:Rec Prop} {l:Nat} {x:Value} {h:Heap} {κ:Value→Heap→Prop} {st:LoopState} {pO:T Value} (hl:h.bl.get l=some (jW st pO)):tn False rec l [x] h κ=rec aP (pO.bf 7 x) h (iO False rec l (.block 1 aQ) κ):=by
 unfold tn
 simp only[hl,List.length_cons,List.length_nil]
 show wz [7] [x] pO _=_
 unfold wz
 rw[T.fU]
 unfold wz
 rfl
theorem Oe {rec:Rec Prop} {l:Nat} {bd:Code} {tm:T Value} {h:Heap} {κ:Value→Heap→Prop} {pO:T Value} (hl:h.bl.get l=some (jW .ready pO)) (hlo:h.lo≤l):iO False rec l bd κ .normal tm h=rec bd tm ⟨h.nx,h.bl.bf l (jW .busy pO),h.lo⟩ (mU False l κ):=by
 unfold iO
 simp only[hl,bW _ _ _ _ hlo]
theorem WM {l:Nat} {tm:T Value} {h:Heap} {κ:Value→Heap→Prop} {st:LoopState} {pO:T Value} (hl:h.bl.get l=some (jW st pO)) (hlo:h.lo≤l):mU False l κ .normal tm h=κ (.bool true) ⟨h.nx,h.bl.bf l (jW .ready pO),h.lo⟩:=by
 unfold mU
 simp only[hl,bW _ _ _ _ hlo]
theorem KH {M:List HE} {clock:Nat} (o:e_ M clock) {e:HE} (he:e∈M) {seen:List Nat} (hn:seen.any (Nat.beq e.born)=false):(M.filter fun x=>(e.born::seen).any (Nat.beq x.born)).Perm (M.filter (fun x=>seen.any (Nat.beq x.born))++[e]):=by
 have hnd:M.Nodup:=o.bn.imp fun h e=>h (by rw[e])
 refine (List.perm_ext_iff_of_nodup (hnd.filter _) ?_).2 fun x=>?_
 ·rw[List.nodup_append]
  refine ⟨hnd.filter _,by simp,fun x hx y hy=>?_⟩
  rw[List.mem_singleton] at hy; subst hy
  rintro rfl
  rw[List.mem_filter,hn] at hx
  exact absurd hx.2 (by simp)
 ·rw[List.mem_filter,List.mem_append,List.mem_filter,List.mem_singleton,List.any_cons,Bool.or_eq_true]
  constructor
  ·rintro ⟨h1,h2 | h2⟩
   ·exact .inr (o.Tk h1 he (Nat.eq_of_beq_eq_true h2))
   ·exact .inl ⟨h1,h2⟩
  ·rintro (⟨h1,h2⟩ | rfl)
   ·exact ⟨h1,.inr h2⟩
   ·exact ⟨he,.inl (Nat.beq_refl _)⟩
theorem KI (a:Heap) (bm clock:Nat) (M:List HE) (pO:T Value) (o:e_ M clock) (g:a.bl.get bm=some (.map (M.map lz) clock)) (KJ:bm<a.nx) (hlo:a.lo≤a.nx) (hM:M.length≤1000) (hA:dx pO 2=ptrTo a.nx) (κ:Ex→T Value→Heap→Prop)
  (hk:∀(tm:T Value) (h1:Heap) (v:Value) (L:List HE),L.Perm M→yq a h1 v (L.map a_)→Le a h1→a.nx+3≤h1.nx→h1.bl.get a.nx=some (af [v] 148 false)→h1.bl.get (a.nx+1)=some (jW .ready pO)→κ (.exit 0) tm h1) :
  ∀(k:Nat) (seen:List Nat) (tm:T Value) (h1:Heap) (v:Value) (L:List HE),BR M seen≤k→WK a bm clock M pO seen tm h1 v L→RN (k+12) (.loop Oc) tm h1 κ:=by
 have step:∀(k:Nat) (seen:List Nat) (tm:T Value) (h1:Heap) (v:Value) (L:List HE),WK a bm clock M pO seen tm h1 v L→
   (∀e∈M,seen.any (Nat.beq e.born)=false→∀(tm:T Value) (h1:Heap) (v:Value) (L:List HE),WK a bm clock M pO (e.born::seen) tm h1 v L→RN (k+11) (.loop Oc) tm h1 κ)→RN (k+12) (.loop Oc) tm h1 κ:=by
  intro k seen tm h1 v L I hnext
  have n1:=I.nx
  have l1:=I.le.lo
  have gm:=(I.le.get bm KJ).trans g
  rw[show k+12=k+11+1 from by omega,WJ]
  simp(disch:=first|omega|simp only[Wd]<;>omega|with_unfolding_all rfl)only[Wz,Eu,af5,rkB,rC,T.fU,jk,pM,KG,abb,abc,Ri,agc,Tn,I.t5]
  refine NT o I.gi gm (by omega) _ ?_ ?_
  ·intro hall
   simp(disch:=first|omega|simp only[Wd]<;>omega|with_unfolding_all rfl)only[Wz,N_,jk,abd,Oa,abb]
   have hf:M.filter (fun e=>seen.any (Nat.beq e.born))=M:=List.filter_eq_self.2 hall
   exact hk _ h1 v L (hf▸I.perm) I.own I.le n1 I.gs I.gl
  ·intro e he Pw
   obtain ⟨h2,e2⟩:∃h2:Heap,h2=⟨h1.nx,h1.bl.bf (a.nx+2) (.dS (some bm) clock (e.born::seen) clock),h1.lo⟩:=⟨_,rfl⟩
   have aZ:Le a h2:=by rw[e2]; exact I.le.set (by omega) _
   have n2:h2.nx=h1.nx:=by rw[e2]
   have l2:h2.lo=h1.lo:=by rw[e2]
   have gi2:h2.bl.get (a.nx+2)=some (.dS (some bm) clock (e.born::seen) clock):=by rw[e2]; exact T.aa _ _ _
   have gs2:h2.bl.get a.nx=some (af [v] 148 false):=by rw[e2]; exact (T.aj _ _ (by omega)).trans I.gs
   have gl2:h2.bl.get (a.nx+1)=some (jW .ready pO):=by rw[e2]; exact (T.aj _ _ (by omega)).trans I.gl
   have jv:yq a h2 v (L.map a_):=by rw[e2]; exact cU.put I.own (by rw[I.gi]; intro hc; unfold af at hc; cases hc) _
   rw[←e2]
   clear e2
   have gm2:=(aZ.get bm KJ).trans g
   simp(disch:=first|omega|simp only[Wd]<;>omega|with_unfolding_all rfl)only[Wz,N_,Ob,Eu,wg,jk,pM,agd,Oa,KG,af6,rkC,rC,T.fU,I.t5,I8 o he gi2 gm2,dz,af7,rkD,I.t0]
   have n3:a.nx+3≤h2.nx:=by omega
   obtain ⟨h3,e3⟩:∃h3:Heap,h3=⟨h2.nx+1,h2.bl.bf h2.nx (af [.int .i64 e.t,.int .i64 e.r] 24 false),h2.lo⟩:=⟨_,rfl⟩
   have Of:Le h2 h3:=by rw[e3]; exact (Le.refl h2).new _
   have nx3:h3.nx=h2.nx+1:=by rw[e3]
   have l3:h3.lo=h2.lo:=by rw[e3]
   have gl3:=(Of.get _ (by omega)).trans gl2
   rw[←e3,WL,round_eq gl3]
   clear e3
   simp(disch:=first|omega|simp only[Wd]<;>omega|with_unfolding_all rfl)only[Wz,af_,af0,T.fU,rC,jk,pM]
   obtain ⟨h4,e4⟩:∃h4:Heap,h4=⟨h3.nx+1,h3.bl.bf h3.nx (af [.int .i64 e.t,.int .i64 e.r] 24 false),h3.lo⟩:=⟨_,rfl⟩
   have Og:Le h3 h4:=by rw[e4]; exact (Le.refl h3).new _
   have nx4:h4.nx=h3.nx+1:=by rw[e4]
   have l4:h4.lo=h3.lo:=by rw[e4]
   have gn4:h4.bl.get h3.nx=some (af [.int .i64 e.t,.int .i64 e.r] 24 false):=by rw[e4]; exact T.aa _ _ _
   have gl4:=(Og.get _ (by omega)).trans gl3
   have gs4:=((Of.trans Og).get _ (by omega)).trans gs2
   have gi4:=((Of.trans Og).get _ (by omega)).trans gi2
   have Tf:yq a h4 v (L.map a_):=jv.le (Of.trans Og)
   rw[←e4,Oe gl4 (by omega)]
   clear e4
   have gs5:(h4.bl.bf (a.nx+1) (jW .busy pO)).get a.nx=_:=(T.aj _ _ (by omega)).trans gs4
   have gn5:(h4.bl.bf (a.nx+1) (jW .busy pO)).get h3.nx=_:=(T.aj _ _ (by omega)).trans gn4
   simp(disch:=first|omega|simp only[Wd]<;>omega|with_unfolding_all rfl)only[Wz,wg,aga,af1,T.fU,rC,jk,pM,hA,gs5,gn5]
   obtain ⟨h5,e5⟩:∃h5:Heap,h5=⟨h4.nx+1,(h4.bl.bf (a.nx+1) (jW .busy pO)).bf h4.nx (af [.int .i64 e.t,.int .i64 e.r] 24 false),h4.lo⟩:=⟨_,rfl⟩
   have age:Le a h5:=by rw[e5]; exact (((aZ.trans Of).trans Og).set (b:=a.nx+1) (by omega) _).new _
   have nx5:h5.nx=h4.nx+1:=by rw[e5]
   have l5:h5.lo=h4.lo:=by rw[e5]
   have gs5:h5.bl.get a.nx=some (af [v] 148 false):=by rw[e5]; exact (T.aj _ _ (by omega)).trans gs5
   have gl5:h5.bl.get (a.nx+1)=some (jW .busy pO):=by rw[e5]; exact (T.aj _ _ (by omega)).trans (T.aa _ _ _)
   have gi5:h5.bl.get (a.nx+2)=some (.dS (some bm) clock (e.born::seen) clock):=by rw[e5]; exact (T.aj _ _ (by omega)).trans ((T.aj _ _ (by omega)).trans gi4)
   have gx5:h5.bl.get h4.nx=some (af ([a_ e].flatMap nU) 24 false):=by rw[e5]; exact T.aa _ _ _
   have tV:yq a h5 v (L.map a_):=by
    rw[e5]
    exact cU.le (cU.put Tf (by rw[gl4]; intro hc; unfold af at hc; cases hc) _) ((Le.refl _).new _)
   have hLl:L.length≤1000:=by
    rw[I.perm.length_eq]
    exact Nat.le_trans (List.length_filter_le _ _) hM
   rw[←e5]
   clear e5
   refine cT (enc:=nU) (a:=a) (L:=L.map a_) (M:=[a_ e]) sJ Od (by decide) (by decide) tV (Sl.new (by omega) gx5 _) age (by simp; omega) (by omega) _ ?_
   intro v' h6 tY oz _ n6 l6 Oh
   have gs6:=(Oh a.nx (by omega) (by rw[gs5]; exact aO)).trans gs5
   have gl6:=(Oh (a.nx+1) (by omega) (by rw[gl5]; intro hc; unfold af at hc; cases hc)).trans gl5
   have gi6:=(Oh (a.nx+2) (by omega) (by rw[gi5]; intro hc; unfold af at hc; cases hc)).trans gi5
   obtain ⟨x',c',rfl,_⟩:=(show Sl nU h6 v' _ from tY.sl)
   simp(disch:=first|omega|simp only[Wd]<;>omega|with_unfolding_all rfl)only[Wz,gs6]
   obtain ⟨h7,e7⟩:∃h7:Heap,h7=⟨h6.nx,h6.bl.bf a.nx (af [.slice x' (L.map a_++[a_ e]).length c'] 148 false),h6.lo⟩:=⟨_,rfl⟩
   have gl7:h7.bl.get (a.nx+1)=some (jW .busy pO):=by rw[e7]; exact (T.aj _ _ (by omega)).trans gl6
   have nx7:h7.nx=h6.nx:=by rw[e7]
   have l7:h7.lo=h6.lo:=by rw[e7]
   have gs7:h7.bl.get a.nx=some (af [.slice x' (L.map a_++[a_ e]).length c'] 148 false):=by rw[e7]; exact T.aa _ _ _
   have gi7:h7.bl.get (a.nx+2)=some (.dS (some bm) clock (e.born::seen) clock):=by rw[e7]; exact (T.aj _ _ (by omega)).trans gi6
   have uR:Le a h7:=by rw[e7]; exact oz.set (by omega) _
   have Fj:yq a h7 (.slice x' (L.map a_++[a_ e]).length c') (L.map a_++[a_ e]):=by rw[e7]; exact cU.put tY (by rw[gs6]; exact aO) _
   rw[←e7,Ri,WM gl7 (by omega)]
   clear e7
   simp(disch:=first|omega|simp only[Wd]<;>omega|with_unfolding_all rfl)only[Wz,abd,Ob,Ri,KG]
   have fr:∀c,c≠a.nx+1→(h7.bl.bf (a.nx+1) (jW .ready pO)).get c=h7.bl.get c:=fun c hc=>T.aj _ _ (fun e=>hc e.symm)
   refine hnext e he Pw _ _ (.slice x' (L.map a_++[a_ e]).length c') (L++[e]) ⟨uR.set (by omega) _,by show a.nx+3≤h7.nx; omega,(fr _ (by omega)).trans gs7,T.aa _ _ _,(fr _ (by omega)).trans gi7,?_,(I.perm.append_right _).trans (KH o he Pw).symm,?_,?_⟩
   ·rw[List.map_append]
    exact cU.put Fj (by rw[gl7]; intro hc; unfold af at hc; cases hc) _
   ·simp (disch:=decide) only [pM]; exact I.t0
   ·simp (disch:=decide) only [pM]; exact I.t5
 intro k
 induction k with
 | zero=>
  intro seen tm h1 v L hu I
  refine step 0 seen tm h1 v L I fun e he Pw=>?_
  have:=ud he Pw
  omega
 | succ k ih=>
  intro seen tm h1 v L hu I
  refine step (k+1) seen tm h1 v L I fun e he Pw cN h1' v' L' I'=>ih (e.born::seen) cN h1' v' L' ?_ I'
  have:=ud he Pw
  omega
theorem abf (rec:Rec Prop) (ps:List Nat) (x y:Code) (tm:T Value) (h:Heap) (κ:Ex→T Value→Heap→Prop) (c:Value) :
  iH False pN Tryz.prog rec ps x y tm h κ (.func (.func fK) #[] #[c])=lW False pN Tryz.prog rec fK [.func (.yield h.nx) #[] #[],c] ⟨h.nx+1,h.bl.bf h.nx (.loop .ready none tm ps x y),h.lo⟩ (jr False h.nx tm κ):=dO (fl:=False) (.loop .ready none tm ps x y) h (fun l h=>lW False pN Tryz.prog rec fK [.func (.yield l) #[] #[],c] h (jr False l tm κ))
theorem NO (tm:T Value) (h:Heap) (κ:KQ):Jv False [] κ .normal tm h=κ (.tuple ⟨[]⟩) h:=id rfl
theorem agf (tm:T Value) (h:Heap) (κ:KQ):Jv False [.tmp 4] κ .ret tm h=κ (dx tm 4) h:=gu tm (.tmp 4) fun v=>κ v h
theorem Oi {l:Nat} {tm pO:T Value} {v:Value} {h:Heap} {κ:Ex→T Value→Heap→Prop} (hl:h.bl.get l=some (jW .ready pO)) (hlo:h.lo≤l):∃o,jr False l tm κ v h=κ .normal tm ⟨h.nx,h.bl.bf l o,h.lo⟩:=by
 refine ⟨.loop .exhausted none pO [7] aP (.block 1 aQ),?_⟩
 unfold jr
 simp only[hl,bW _ _ _ _ hlo]
theorem abg (s g:Value):lay [s,g] .nil 0=((T.nil:T Value).bf 0 s).bf 1 g:=by kernel_rfl
theorem Ev (M:List HE) (clock bm mc:Nat) (a:Heap) (o:e_ M clock) (g:a.bl.get bm=some (.map (M.map lz) clock)) (KJ:bm<a.nx) (gc:a.bl.get mc=some (af [.map (some bm)] 135 false)) (hmc:mc<a.nx) (hlo:a.lo≤a.nx) (hM:M.length≤1000) (κ:KQ)
  (hk:∀v h' (L:List HE),L.Perm M→yq a h' v (L.map a_)→Le a h'→κ v h') :
  CallW Tryz.prog fA [.slice none 0 0,.func (.func fK) #[] #[.pointer (some ⟨mc,0,none⟩)]] a κ:=by
 refine KF mixed (skip:=Tl) (M.length+60) ?_
 rw[aa9,aa8,abg]
 simp(disch:=first|omega|simp only[Wd]<;>omega|with_unfolding_all rfl)only[Wz,Eu,af8,afY,T.fU,rC,jk,pM,KG,af9,afZ,wg,af3,abf]
 generalize htm:(((((T.nil:T Value).bf 0 (Value.slice none 0 0)).bf 1 (Value.func (Fn.func fK) #[] #[Value.pointer (some ⟨mc,0,none⟩)])).bf 2 (Value.pointer (some ⟨a.nx,0,none⟩))).bf 4 (Value.slice none 0 0)).bf 6 (Value.func (Fn.func fK) #[] #[Value.pointer (some ⟨mc,0,none⟩)])=pO
 have hA:dx pO 2=ptrTo a.nx:=by rw[←htm]; simp (disch:=decide) only [pM,jk]; rfl
 obtain ⟨Rj,yu⟩:∃Rj:Heap,Rj=⟨a.nx+1+1,((a.bl.bf (a.nx) (af [.slice none 0 0] 148 false)).bf (a.nx+1) (jW .ready pO)),a.lo⟩:=⟨_,rfl⟩
 have Gi:Le a Rj:=by subst yu; exact (((Le.refl a).new _).new _)
 have gs:Rj.bl.get (a.nx)=some (af [.slice none 0 0] 148 false):=by subst yu; exact (T.aj _ _ (by omega)).trans (T.aa _ _ _)
 have gl:Rj.bl.get (a.nx+1)=some (jW .ready pO):=by subst yu; exact T.aa _ _ _
 have aix:Rj.nx=a.nx+1+1:=by subst yu; rfl
 have aiy:Rj.lo=a.lo:=by subst yu; rfl
 rw[←yu]
 clear yu
 have gc2:=(Gi.get _ hmc).trans gc
 have gm2:=(Gi.get _ KJ).trans g
 rw[aa_,aa7,abg]
 simp(disch:=first|omega|simp only[Wd]<;>omega|with_unfolding_all rfl)only[Wz,Eu,af4,rkA,T.fU,rC,jk,pM,KG,gc2,Eo gm2,wg]
 refine KI a bm clock M pO o g KJ hlo hM hA _ ?_ (M.length+41) [] _ _ (.slice none 0 0) [] ?_ ?_
 ·intro tm h1 v L hp ho bu n1 g1 gl1
  have l1:=bu.lo
  obtain ⟨ob,ea⟩:=Oi (tm:=pO) (v:=.tuple ⟨[]⟩) (κ:=oH 0 (y7 (RN (M.length+58)) (aC.seq Code.ret) (Jv False [y5.tmp 4] κ))) gl1 (by omega)
  rw[Tn,NO,ea]
  have gs1:(h1.bl.bf (a.nx+1) ob).get a.nx=some (af [v] 148 false):=(T.aj _ _ (by omega)).trans g1
  simp(disch:=first|omega|simp only[Wd]<;>omega|with_unfolding_all rfl)only[Wz,Ri,KG,Eu,agb,af2,T.fU,rC,jk,pM,hA,gs1,aba,abc,agf]
  exact hk v _ L hp (cU.put ho (by rw[gl1]; intro hc; unfold af at hc; cases hc) _) (bu.set (by omega) _)
 ·exact Nat.le_trans (List.countP_le_length) (by omega)
 ·have e2:Rj.nx=a.nx+2:=by omega
  refine ⟨Gi.new _,by show a.nx+3≤Rj.nx+1; omega,(T.aj _ _ (by omega)).trans gs,(T.aj _ _ (by omega)).trans gl,by rw[←e2]; exact T.aa _ _ _,.inl ⟨rfl,.inl rfl⟩,?_,?_,?_⟩
  ·rw[List.filter_eq_nil_iff.2 (fun x _=>by simp)]
  ·simp (disch:=decide) only [pM,jk]
  ·rw[jk,e2]; rfl
end Go.Proofs
