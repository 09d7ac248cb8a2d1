/-
  PROVED HERE: a part of the proof (VaiK, VaiW, VaiW2, VaiL, VaiM, VaiN, VaiZ, VaiO, VaiQ, VaiT, VaiU).
-/
import Derived.Test.YtijmemedhkgplaaGreatDoorV2
import Derived.Below
import Derived.Deep.Slices
import Derived.Carry
import Derived.ProofKit
set_option linter.unusedVariables false
set_option linter.unusedSimpArgs false
namespace Go.Vai
open Go Go.RowKit
variable {P:Program}
theorem VR.mP {φ:dJ} {v:Value} (hv:lS v=true):VR φ v v:=by
 cases v<;>first | exact VR.bool _ | exact VR.int _ _ | exact VR.string _ | cases hv
theorem VR.Qa {φ:dJ} {v v':Value} (hv:lS v=true) (h:VR φ v v'):v'=v:=by
 cases h<;>first | rfl | cases hv
theorem F2.mP {φ:dJ}:∀{l:List Value},l.all lS=true→F2 (VR φ) l l:=by
 intro l
 induction l with
 | nil=>intro _; exact .nil
 | cons v l ih=>
  intro h
  simp only[List.all_cons,Bool.and_eq_true] at h
  exact .cons (VR.mP h.1) (ih h.2)
end Go.Vai

namespace Go.Vai
open Go
def CallW (P:Program) (f:FuncId) (args:List Value) (h:Heap) (κ:KQ):Prop:=
 ∀(φ:dJ) (w:World) (args':List Value),F2 (VR φ) args args'→HR P φ h w→AY (fun p:Prop=>p) P φ h w κ f args'.toArray
def Ci (P:Program):kV Prop:=⟨fun f=>some (CallW P f),And⟩
def jf:Rec Prop:=fun _ _ _ _=>False
abbrev T6 (i:XI Prop) (tm:T Value) (h:Heap) (κ:KQ):Prop:=
 XI.rec (motive:=fun _=>Prop) (fun f=>f h κ) (fun x f=>f (fc tm x) h κ) (fun x y f=>f (fc tm x) (fc tm y) h κ)
  (fun x y z f=>f (fc tm x) (fc tm y) (fc tm z) h κ) (fun xs f=>f (xs.map (fc tm)) h κ) i
abbrev YE (i:XA Prop) (tm:T Value) (κ:bU→(Nat→Value)→Prop):Prop:=
 XA.rec (motive:=fun _=>Prop) (fun f=>f κ) (fun x f=>f (fc tm x) κ) (fun x y f=>f (fc tm x) (fc tm y) κ) (fun xs f=>f (xs.map (fc tm)) κ) i
def lg (P:Program) (fv:Value) (args:List Value) (h:Heap) (κ:KQ):Prop:=zD False (Ci P) P jf fv args h κ
def CallI (P:Program) (name:String) (r:Value) (args:List Value) (h:Heap) (κ:KQ):Prop:=LK False (Ci P) P jf name r args h κ
noncomputable def A2 (P:Program) (c:Call) (tm:T Value) (h:Heap) (κ:KQ):Prop:=
 match c.callee with
 | .value (.func f)=>CallW P f (c.args.toList.map (fc tm)) h κ
 | .value x=>lg P (fc tm x) (c.args.toList.map (fc tm)) h κ
 | .invoke r name=>CallI P name (fc tm r) (c.args.toList.map (fc tm)) h κ
 | .builtin _=>False
noncomputable def lp (P:Program) (op:Op) (tm:T Value) (h:Heap) (κ:KQ):Prop:=
 match n_ False P op with
 | some i=>T6 i tm h κ
 | none=>match qE False P op with
  | some i=>YE i tm fun o mk=>ai False o h fun b h=>κ (mk b) h
  | none=>match zC False P op with
   | some i=>T6 i tm h κ
   | none=>match op with
    | .call c=>A2 P c tm h κ
    | .next it false=>qD False And (fc tm it) h κ
    | _=>False
def ah (v:Value) (w:Bool):Bool:=match v,w with | .bool true,true=>true | .bool false,false=>true | _,_=>false
def ag (b:Bool) (f:(Value→Heap→Prop)→Prop) (h:Heap) (κ:KQ):Prop:=match b with | true=>f κ | false=>κ undef h
noncomputable abbrev Mh (P:Program) (all os:List Oper):T Value→Heap→(T Value→Heap→Prop)→Prop:=
 List.rec (motive:=fun _=>T Value→Heap→(T Value→Heap→Prop)→Prop) (fun tm h κ=>κ tm h)
  (fun o _ ih tm h κ=>Option.rec (motive:=fun _=>Prop) False
   (fun g=>Option.rec (motive:=fun _=>Prop) (lp P o.op tm h fun v h=>ih (jl tm o.dst v) h κ)
    (fun sw=>ag (ah (dx tm sw.1) sw.2) (fun κ'=>lp P o.op tm h κ') h fun v h=>ih (jl tm o.dst v) h κ) g) (guardOf all o)) os
def aI (o:Option Value) (h:Heap) (κ:KQ):Prop:=match o with | some v=>κ v h | none=>False
noncomputable def T7 (o:Option (bU × (Nat→Value))) (h:Heap) (κ:KQ):Prop:=match o with | some (b,mk)=>ai False b h fun n h=>κ (mk n) h | none=>False
def dI (b:Bool) (p:Prop):Prop:=match b with | true=>p | false=>False
noncomputable def gM (o:Option Value) (v:Value):Bool:=match o with | some u=>ow 8 u v | none=>false
def reN (o:Option Value):Bool:=match o with | some _=>true | none=>false
def FJ (b r:Bool):Bool:=match b with | true=>r | false=>true
noncomputable def Qb (x:Sj) (tm:T Value) (h:Heap):Option Value:=
 XI.rec (motive:=fun _=>Option Value) (fun f=>f h fun v _=>some v) (fun x f=>f (fc tm x) h fun v _=>some v) (fun x y f=>f (fc tm x) (fc tm y) h fun v _=>some v)
  (fun x y z f=>f (fc tm x) (fc tm y) (fc tm z) h fun v _=>some v) (fun xs f=>f (xs.map (fc tm)) h fun v _=>some v) x
noncomputable def mkW (x:Ya) (tm:T Value):Option (bU × (Nat→Value)):=
 XA.rec (motive:=fun _=>Option (bU × (Nat→Value))) (fun f=>f fun o mk=>some (o,mk)) (fun x f=>f (fc tm x) fun o mk=>some (o,mk)) (fun x y f=>f (fc tm x) (fc tm y) fun o mk=>some (o,mk)) (fun xs f=>f (xs.map (fc tm)) fun o mk=>some (o,mk)) x
noncomputable def CV (P:Program) (os:List Oper) (D M:Nat) (tm:T Value) (h:Heap):List It→Bool
 | []=>true
 | (k,q)::tq=>match bit D k && !bit M k,ig P q.op with
  | true,.rd x=>(match guardOf os q with
   | some none=>(match q.dst with | some d=>gM (Qb x tm h) (dx tm d) | none=>reN (Qb x tm h))
   | some (some (s,w))=>FJ (ah (dx tm s) w) (match q.dst with | some d=>gM (Qb x tm h) (dx tm d) | none=>reN (Qb x tm h))
   | none=>false) && CV P os D M tm h tq
  | _,_=>CV P os D M tm h tq
noncomputable def G8 (P:Program) (os:List Oper) (D M:Nat) (o:Oper) (tm:T Value) (h:Heap) (κ:KQ):Prop:=
 match ig P o.op with
 | .rd x=>aI (Qb x tm h) h κ
 | .al x=>T7 (mkW x tm) h κ
 | .wr=>match zH P D M (fe os 0) with
  | false=>lp P o.op tm h κ
  | true=>lp P o.op tm h fun v h=>dI (CV P os D M (jl tm o.dst v) h (fe os 0)) (κ v h)
noncomputable def CW (P:Program) (os:List Oper):List Nat→Nat→Nat→T Value→Heap→(T Value→Heap→Prop)→Prop
 | [],_,_,tm,h,κ=>κ tm h
 | i::is,D,M,tm,h,κ=>match os[i]? with
  | none=>False
  | some o=>match guardOf os o with
   | none=>False
   | some none=>G8 P os D (match fR P o with | true=>Nat.lor M (qF os i) | false=>M) o tm h fun v h=>CW P os is (fk D i) (match fR P o with | true=>Nat.lor M (qF os i) | false=>M) (jl tm o.dst v) h κ
   | some (some (s,w))=>ag (ah (dx tm s) w) (fun κ'=>G8 P os D (match fR P o with | true=>Nat.lor M (qF os i) | false=>M) o tm h κ') h fun v h=>CW P os is (fk D i) (match fR P o with | true=>Nat.lor M (qF os i) | false=>M) (jl tm o.dst v) h κ
noncomputable def Qc (P:Program) (os:List Oper) (draw:Bool) (tm:T Value) (h:Heap) (κ:T Value→Heap→Prop):Prop:=
 match draw with
 | false=>Mh P os os tm h κ
 | true=>match AH P os with
  | some l=>CW P os l 0 0 tm h κ
  | none=>False
def JJ (n:Nat) (l:List Nat):List Nat:=match l.any (Nat.beq n) with | true=>l | false=>n::l
def rm (l:List Oper):List Nat:=l.foldr (fun o r=>match o.dst with | some d=>JJ d r | none=>r) []
def G9 (l m:List Nat):List Nat:=l.foldr JJ m
def rK:Code→List Nat
 | .region _ os _=>rm os.toList
 | .seq a b | .cond _ a b=>G9 (rK a) (rK b)
 | .block _ c | .loop c | .scope c=>rK c
 | _=>[]
def G_ (id:Nat):Code→Nat
 | .exit i=>match Nat.beq i id with | true=>1 | false=>0
 | .seq a b | .cond _ a b=>G_ id a+G_ id b
 | .block _ c | .loop c | .scope c=>G_ id c
 | _=>0
def ways:Code→Nat
 | .seq a b=>ways a*ways b
 | .cond _ a b=>ways a+ways b
 | .block id c=>ways c+G_ id c
 | .loop _=>0
 | .scope c=>ways c
 | .exit _ | .ret=>0
 | _=>1
def slot (l:List Value) (i:Nat):Value:=l.getD i undef
noncomputable def Mi:Nat→List Nat→List Value→T Value→T Value
 | _,[],_,tm=>tm
 | i,s::ss,l,tm=>Mi (i+1) ss l (tm.bf s (slot l i))
noncomputable def JK (ss:List Nat) (l:List Value) (tm:T Value):T Value:=Mi 0 ss l tm
abbrev KT:=Ex→T Value→Heap→Prop
abbrev toN (N:List Value→Heap→Prop) (ss:List Nat) (κ:KT):KT:=fun e tm h=>Ex.rec (motive:=fun _=>Prop) (N (ss.map (dx tm)) h) (fun i=>κ (.exit i) tm h) (κ .ret tm h) e
def dN (A:(List Value→Heap→Prop)→Prop) (B:List Value→Heap→Prop):Prop:=
 ∃J:List Value→Heap→Prop,A J∧∀l h,J l h→B l h
def bV (l0:List Value) (h0:Heap) (body:List Value→Heap→(List Value→Heap→Prop)→Prop):Prop:=
 ∃I:Nat→List Value→Heap→Prop,(∃n,I n l0 h0)∧∀n l h,I n l h→body l h fun l' h'=>∃m,m<n∧I m l' h'
def aD (v:Value) (A B:Prop):Prop:=match v with | .bool true=>A | .bool false=>B | _=>False
abbrev adW (B:T Value→Heap→KT→Prop) (κ:KT):KT:=fun e tm h=>Ex.rec (motive:=fun _=>Prop) (B tm h κ) (fun i=>κ (.exit i) tm h) (κ .ret tm h) e
abbrev T8 (id:Nat) (κ:KT):KT:=fun e tm h=>Ex.rec (motive:=fun _=>Prop) (κ .normal tm h) (fun i=>Bool.rec (motive:=fun _=>Prop) (κ (.exit i) tm h) (κ .normal tm h) (Nat.beq i id)) (κ .ret tm h) e
noncomputable def WP (P:Program):Code→T Value→Heap→KT→Prop
 | .skip,tm,h,κ=>κ .normal tm h
 | .label _,tm,h,κ=>κ .normal tm h
 | .region _ os draw,tm,h,κ=>Qc P os.toList draw tm h fun tm h=>κ .normal tm h
 | .seq a b,tm,h,κ=>match Nat.ble (ways a) 1 with
  | true=>WP P a tm h (adW (WP P b) κ)
  | false=>dN (fun N=>WP P a tm h (toN N (rK a) κ)) fun l h=>WP P b (JK (rK a) l tm) h κ
 | .cond c a b,tm,h,κ=>aD (fc tm c) (WP P a tm h κ) (WP P b tm h κ)
 | .block id c,tm,h,κ=>WP P c tm h (T8 id κ)
 | .scope c,tm,h,κ=>WP P c tm h κ
 | .loop c,tm,h,κ=>bV ((rK c).map (dx tm)) h fun l h N=>WP P c (JK (rK c) l tm) h (toN N (rK c) κ)
 | .exit id,tm,h,κ=>κ (.exit id) tm h
 | .ret,tm,h,κ=>κ .ret tm h
 | _,_,_,_=>False
abbrev JL (h:Heap) (tm:T Value):List y5→(List Value→Prop)→Prop:=
 List.rec (motive:=fun _=>(List Value→Prop)→Prop) (fun κ=>κ [])
  (fun r _ ih κ=>y5.rec (motive:=fun _=>Prop) (fun t=>ih fun vs=>κ (dx tm t::vs)) (fun a=>load1 False (dx tm a) h fun v _=>ih fun vs=>κ (v::vs))
   (fun a s=>ax False s (dx tm a) h fun v _=>ih fun vs=>κ (v::vs)) False r)
abbrev Qd (κ:KQ) (h:Heap) (vs:List Value):Prop:=
 List.rec (motive:=fun _=>Prop) (κ (.tuple #[]) h) (fun v vs' _=>List.rec (motive:=fun _=>Prop) (κ v h) (fun _ _ _=>κ (.tuple ⟨vs⟩) h) vs') vs
abbrev adX (rs:List y5) (κ:KQ):KT:=fun e tm h=>Ex.rec (motive:=fun _=>Prop) (JL h tm rs fun vs=>Qd κ h vs) (fun _=>False) (JL h tm rs fun vs=>Qd κ h vs) e
noncomputable def aJ (P:Program) (f:FuncId) (args:List Value) (h:Heap) (κ:KQ):Prop:=
 match wv P f with
 | .none=>False
 | .mk c rs nt=>match Nat.ble args.length nt with
  | true=>WP P c (lay args .nil 0) h (adX rs κ)
  | false=>False
variable {P:Program}
theorem He (i:XI Prop) (tm:T Value) (h:Heap) (κ:KQ):i.run tm h κ=T6 i tm h κ:=by
 cases i with
 | k0 f=>rfl
 | k1 x f=>exact XI.cg ..
 | k2 x y f=>exact XI.de ..
 | k3 x y z f=>exact XI.qW ..
 | kn xs f=>exact XI.iu ..
theorem Qe (i:XA Prop) (tm:T Value) (κ:bU→(Nat→Value)→Prop):i.run tm κ=YE i tm κ:=by
 cases i with
 | k0 f=>rfl
 | k1 x f=>exact XA.cg ..
 | k2 x y f=>exact XA.de ..
 | kn xs f=>exact XA.iu ..
theorem Mj (x:Sj) (tm:T Value) (h:Heap):kj x tm h=Qb x tm h:=by
 unfold kj
 cases x with
 | k0 f=>rfl
 | k1 x f=>exact XI.cg ..
 | k2 x y f=>exact XI.de ..
 | k3 x y z f=>exact XI.qW ..
 | kn xs f=>exact XI.iu ..
theorem T9 (x:Ya) (tm:T Value):wC x tm=mkW x tm:=by
 unfold wC
 cases x with
 | k0 f=>rfl
 | k1 x f=>exact XA.cg ..
 | k2 x y f=>exact XA.de ..
 | kn xs f=>exact XA.iu ..
theorem FK (c:Call) (tm:T Value) (h:Heap) (κ:KQ):mV False (Ci P) P c jf tm h κ=A2 P c tm h κ:=by
 unfold mV A2
 cases c.callee with
 | value x=>cases x<;>(simp only[qV,gu]; rfl)
 | invoke r name=>simp only[qV,gu]; rfl
 | builtin b=>rfl
theorem A3 (op:Op) (tm:T Value) (h:Heap) (κ:KQ):oG False (Ci P) P op jf tm h κ=lp P op tm h κ:=by
 unfold oG lp
 cases hR:n_ False P op with
 | some i=>exact He ..
 | none=>
  cases hA:qE False P op with
  | some i=>exact Qe ..
  | none=>
   cases hW:zC False P op with
   | some i=>exact He ..
   | none=>
    cases op<;>try rfl
    case call c=>exact FK ..
    case next it s=>cases s<;>first | rfl | (simp only[gu]; rfl)
theorem rq (tm:T Value) (s:Nat) (w:Bool):iP tm (some (s,w))=ah (dx tm s) w:=rfl
theorem T_ (f:(Value→Heap→Prop)→Prop) (tm:T Value) (h:Heap) (s:Nat) (w:Bool) (d:Option Nat) (k:T Value→Heap→Prop) :
  ag (ah (dx tm s) w) f h (fun v h=>k (jl tm d v) h)=Bool.rec (motive:=fun _=>Prop) (ot tm d undef h k) (f fun v h=>ot tm d v h k) (iP tm (some (s,w))):=by
 rw[rq]
 cases ah (dx tm s) w with
 | true=>show f _=f _; simp only[gx]
 | false=>show k _ h=ot tm d undef h k; rw[gx]
theorem Qf (all:List Oper):∀(os:List Oper) (tm:T Value) (h:Heap) (κ:T Value→Heap→Prop),Mh P all os tm h κ=nI False (Ci P) P jf all os tm h κ:=by
 intro os
 induction os with
 | nil=>intro tm h κ; rfl
 | cons o os ih=>
  intro tm h κ
  have ih':(fun tm h=>Mh P all os tm h κ)=fun tm h=>nI False (Ci P) P jf all os tm h κ:=by funext tm h; exact ih tm h κ
  show Option.rec (motive:=fun _=>Prop) False (fun g=>Option.rec (motive:=fun _=>Prop) (lp P o.op tm h fun v h=>(fun tm h=>Mh P all os tm h κ) (jl tm o.dst v) h)
    (fun sw=>ag (ah (dx tm sw.1) sw.2) (fun κ'=>lp P o.op tm h κ') h fun v h=>(fun tm h=>Mh P all os tm h κ) (jl tm o.dst v) h) g) (guardOf all o)=XO.rec (motive:=fun _=>Prop)
   (fun g d f=>Bool.rec (motive:=fun _=>Prop) (ot tm d undef h fun tm h=>nI False (Ci P) P jf all os tm h κ)
    (f jf tm h fun v h=>ot tm d v h fun tm h=>nI False (Ci P) P jf all os tm h κ) (iP tm g)) (zF False (Ci P) P all o)
  rw[ih']
  unfold zF
  cases guardOf all o with
  | none=>rfl
  | some g=>
   cases g with
   | none=>
    show lp P o.op tm h _=oG False (Ci P) P o.op jf tm h fun v h=>ot tm o.dst v h _
    simp only[gx]; rw[A3]
   | some sw=>
    obtain ⟨s,w⟩:=sw
    show ag (ah (dx tm s) w) (fun κ'=>lp P o.op tm h κ') h _=Bool.rec (motive:=fun _=>Prop) _ (oG False (Ci P) P o.op jf tm h _) _
    refine (T_ (fun κ'=>lp P o.op tm h κ') tm h s w o.dst fun tm h=>nI False (Ci P) P jf all os tm h κ).trans ?_
    simp only[A3]
theorem Mk (os:List Oper) (D M:Nat) (tm:T Value) (h:Heap):∀tq:List It,CV P os D M tm h tq=ux P os D M tm h tq:=by
 intro tq
 induction tq with
 | nil=>rfl
 | cons it tq ih=>
  obtain ⟨k,q⟩:=it
  unfold CV ux
  cases bit D k && !bit M k with
  | false=>exact ih
  | true=>
   cases ig P q.op with
   | rd x=>
    simp only[ih,Mj]
    congr 1
    cases guardOf os q with
    | none=>rfl
    | some g=>
     cases g with
     | none=>
      cases Qb x tm h<;>cases q.dst<;>rfl
     | some sw=>
      obtain ⟨s,w⟩:=sw
      simp only[rq]
      cases ah (dx tm s) w
      ·rfl
      ·cases Qb x tm h<;>cases q.dst<;>rfl
   | al x=>exact ih
   | wr=>exact ih
theorem FL (os:List Oper) (D M:Nat) (o:Oper) (tm:T Value) (h:Heap) (k:T Value→Heap→Prop) :
  G8 P os D M o tm h (fun v h=>k (jl tm o.dst v) h)=(match ig P o.op with
   | .rd x=>match kj x tm h with
    | some v=>ot tm o.dst v h k
    | none=>False
   | .al x=>match wC x tm with
    | some (b,mk)=>ai False b h fun n h=>ot tm o.dst (mk n) h k
    | none=>False
   | .wr=>oG False (Ci P) P o.op jf tm h fun v h=>ot tm o.dst v h fun tm h=>
     match zH P D M (fe os 0) with
     | false=>k tm h
     | true=>match ux P os D M tm h (fe os 0) with
      | true=>k tm h
      | false=>False):=by
 unfold G8
 cases ig P o.op with
 | rd x=>
  simp only[Mj,gx]
  cases Qb x tm h<;>rfl
 | al x=>
  simp only[T9,gx]
  cases mkW x tm<;>rfl
 | wr=>
  simp only[gx,A3]
  cases zH P D M (fe os 0) with
  | false=>rfl
  | true=>simp only[Mk]; rfl
theorem Ml (os:List Oper):∀(l:List Nat) (D M:Nat) (tm:T Value) (h:Heap) (κ:T Value→Heap→Prop),CW P os l D M tm h κ=jc False (Ci P) P jf os l D M tm h κ:=by
 intro l
 induction l with
 | nil=>intro D M tm h κ; rfl
 | cons i is ih=>
  intro D M tm h κ
  unfold CW jc
  cases os[i]? with
  | none=>rfl
  | some o=>
   simp only[ih]
   cases hg:guardOf os o with
   | none=>simp only[jK,hg]
   | some g=>
    have hk:=fun M'=>FL (P:=P) os D M' o tm h fun tm h=>jc False (Ci P) P jf os is (fk D i) M' tm h κ
    cases g with
    | none=>
     refine (hk _).trans ?_
     simp only[jK,hg]; rfl
    | some sw=>
     obtain ⟨s,w⟩:=sw
     simp only[jK,hg,rq]
     cases ah (dx tm s) w with
     | true=>exact hk _
     | false=>simp only[gx]; rfl
theorem Qg (os:List Oper) (draw:Bool) (tm:T Value) (h:Heap) (κ:T Value→Heap→Prop):Qc P os draw tm h κ=kG False (Ci P) P jf os draw tm h κ:=by
 cases draw with
 | false=>exact Qf os os tm h κ
 | true=>
  unfold Qc kG
  cases AH P os with
  | none=>rfl
  | some l=>exact Ml os l 0 0 tm h κ
end Go.Vai

namespace Go.Vai
open Go
variable {P:Program} {φ:dJ} {h:Heap} {w:World}
abbrev ok (p:Prop):Prop:=p
theorem w5:¬ok False:=id
theorem Mm:gE ok (Ci P) P:=
 ⟨fun _ _ h=>h,fun f g hg args args' h φ w κ ha hr hgd=>by cases hg; exact hgd φ w args' ha hr⟩
theorem CX:k9 ok P jf:=by
 intro c r tm h κ φ w nt a _ _ _ _ hg
 exact False.elim hg
def FM (ss:List Nat) (nt:Nat) (tm cN:T Value):Prop:=∀t,t<nt→t∉ss→dx cN t=dx tm t
def qL (P:Program) (nt:Nat) (φ:dJ) (h:Heap) (w:World) (ds:List Deferred) (κ:KT) (ss:List Nat) (tm:T Value) (e:Exit) (a':Act) (w':World):Prop:=
 ∃x cN h' φ',e=L_ x∧κ x cN h'∧TR φ' nt cN a'∧HR P φ' h' w'∧Ext φ φ' h h' w w'∧a'.defers=ds∧FM ss nt tm cN
theorem qL.after {nt:Nat} {φ1:dJ} {h1:Heap} {w1:World} {ds ds1:List Deferred} {κ:KT} {ss ss1 ss2:List Nat} {tm Yq YF:T Value} {e:Exit} {a2:Act} {w2:World} (hx:Ext φ φ1 h h1 w w1)
  (hd:ds1=ds) (hk:FM ss1 nt tm Yq) (hk':∀t,t<nt→dx YF t=dx Yq t) (hs:∀t,t∉ss→t∉ss1∧t∉ss2) (hp:qL P nt φ1 h1 w1 ds1 κ ss2 YF e a2 w2):qL P nt φ h w ds κ ss tm e a2 w2:=by
 obtain ⟨x,Xv,h2,φ2,rfl,k1,k2,k3,k4,k5,k6⟩:=hp
 exact ⟨x,Xv,h2,φ2,rfl,k1,k2,k3,hx.trans k4,k5.trans hd,fun t ht hn=>(k6 t ht (hs t hn).2).trans ((hk' t ht).trans (hk t ht (hs t hn).1))⟩
theorem CY {n t:Nat} {l:List Nat}:t∈JJ n l↔t=n∨t∈l:=by
 unfold JJ
 split
 ·rename_i h
  obtain ⟨x,hx,he⟩:=List.any_eq_true.mp h
  have:=cQ he
  subst this
  constructor
  ·exact .inr
  ·rintro (rfl | h')<;>assumption
 ·simp
theorem qf {t:Nat} {l m:List Nat}:t∈G9 l m↔t∈l∨t∈m:=by
 induction l with
 | nil=>simp[G9]
 | cons a l ih=>
  show t∈JJ a (G9 l m)↔_
  rw[CY,ih]; simp[or_assoc]
theorem w6 {t:Nat}:∀{l:List Oper},t∈rm l↔∃o∈l,o.dst=some t:=by
 intro l
 induction l with
 | nil=>simp[rm]
 | cons o l ih=>
  have:rm (o::l)=match o.dst with | some d=>JJ d (rm l) | none=>rm l:=rfl
  rw[this]
  cases hd:o.dst with
  | none=>simp only[ih]; constructor
          ·rintro ⟨q,hq,e⟩; exact ⟨q,.tail _ hq,e⟩
          ·rintro ⟨q,hq,e⟩
           cases hq with
           | head=>rw[hd] at e; cases e
           | tail _ hq=>exact ⟨q,hq,e⟩
  | some d=>
   simp only[CY,ih]
   constructor
   ·rintro (rfl | ⟨q,hq,e⟩)
    ·exact ⟨o,.head _,hd⟩
    ·exact ⟨q,.tail _ hq,e⟩
   ·rintro ⟨q,hq,e⟩
    cases hq with
    | head=>rw[hd] at e; cases e; exact .inl rfl
    | tail _ hq=>exact .inr ⟨q,hq,e⟩
theorem Mn {nt:Nat}:∀(ss:List Nat) (pre:List Value) (f:Nat→Value) (tm:T Value) (t:Nat),(∀s∈ss,s<nt)→t<nt→dx (Mi pre.length ss (pre++ss.map f) tm) t=if t∈ss then f t else dx tm t:=by
 intro ss
 induction ss with
 | nil=>intro pre f tm t _ _; simp[Mi]
 | cons s ss ih=>
  intro pre f tm t hs ht
  simp only[List.map_cons,Mi]
  have wN:slot (pre++f s::ss.map f) pre.length=f s:=by simp[slot]
  rw[wN]
  have hih:=ih (pre++[f s]) f (tm.bf s (f s)) t (fun s hs'=>hs s (.tail _ hs')) ht
  simp only[List.length_append,List.length_cons,List.length_nil,List.append_assoc,List.cons_append,List.nil_append,Nat.zero_add] at hih
  rw[hih]
  by_cases h1:t∈ss
  ·rw[if_pos h1,if_pos (.tail _ h1)]
  ·rw[if_neg h1]
   have h2:dx (tm.bf s (f s)) t=if s=t then f s else dx tm t:=by
    simp only[dx]
    rw[T.lX _ _ (Nat.lt_succ_self _) (Nat.lt_succ_self _)]
    by_cases hst:s=t
    ·rw[if_pos hst,if_pos hst]
    ·rw[if_neg hst,if_neg hst]
   rw[h2]
   by_cases h3:s=t
   ·subst h3; rw[if_pos rfl,if_pos (.head _)]
   ·rw[if_neg h3,if_neg (by simp[h1,Ne.symm h3])]
theorem Mo {nt:Nat} (ss:List Nat) (f:Nat→Value) (tm:T Value) (t:Nat) (hs:∀s∈ss,s<nt) (ht:t<nt):dx (JK ss (ss.map f) tm) t=if t∈ss then f t else dx tm t:=
 Mn ss [] f tm t hs ht
theorem tJ {nt:Nat} {ss:List Nat} {tm cN:T Value} (hs:∀s∈ss,s<nt) (hk:FM ss nt tm cN):∀t,t<nt→dx (JK ss (ss.map (dx cN)) tm) t=dx cN t:=by
 intro t ht
 rw[Mo ss _ _ t hs ht]
 split
 ·rfl
 ·rename_i h; exact (hk t ht h).symm
theorem TR.Sz {nt:Nat} {ss:List Nat} {tm cN:T Value} {a:Act} (hs:∀s∈ss,s<nt) (hk:FM ss nt tm cN) (ht:TR φ nt cN a):TR φ nt (JK ss (ss.map (dx cN)) tm) a:=
 ⟨ht.size,ht.small,fun t hlt=>by rw[tJ hs hk t hlt]; exact ht.rel t hlt⟩
theorem Mp {nt:Nat}:∀{c:Code},codeOk nt c=true→∀s∈rK c,s<nt:=by
 intro c
 induction c with
 | region id os d=>
  intro hc s hs
  simp only[codeOk,List.all_eq_true] at hc
  obtain ⟨o,ho,he⟩:=w6.mp hs
  have:=dm (hc o ho)
  rw[he] at this
  exact di this
 | seq a b Yc Yd=>
  intro hc s hs
  simp only[codeOk,Bool.and_eq_true] at hc
  rcases qf.mp hs with h | h
  ·exact Yc hc.1 s h
  ·exact Yd hc.2 s h
 | cond x a b Yc Yd=>
  intro hc s hs
  simp only[codeOk,Bool.and_eq_true] at hc
  rcases qf.mp hs with h | h
  ·exact Yc hc.1.2 s h
  ·exact Yd hc.2 s h
 | block id c ih=>intro hc s hs; exact ih hc s hs
 | loop c ih=>intro hc s hs; exact ih hc s hs
 | scope c ih=>intro hc s hs; exact ih hc s hs
 | _=>intro _ s hs; simp[rK] at hs
theorem FN {os:Array Oper} {t:Nat} (h:t∉rm os.toList):∀(i:Nat) (o:Oper),os[i]? = some o→o.dst≠some t:=by
 intro i o ho hd
 exact h (w6.mpr ⟨o,List.mem_of_getElem? (by rw[Array.getElem?_toList]; exact ho),hd⟩)
theorem FO {c:Code} {r:Option Nat} {nt:Nat} {κ:KT} {ko:T Value} (hn:r=none∨oF c=true) (hc:codeOk nt c=true)
  (ih:∀(tm:T Value) (h:Heap) (κ:KT) (φ:dJ) (w:World) (a:Act),TR φ nt tm a→HR P φ h w→WP P c tm h κ→c.wpIn (FR r) 0 P (qL P nt φ h w a.defers κ (rK c) tm) a w)
  (I:Nat→List Value→Heap→Prop) (hI:∀n l h,I n l h→WP P c (JK (rK c) l ko) h (toN (fun l' h'=>∃m,m<n∧I m l' h') (rK c) κ)) :
  ∀(n:Nat) (tm:T Value) (h:Heap) (φ:dJ) (w:World) (a:Act),FM (rK c) nt ko tm→TR φ nt tm a→HR P φ h w→I n ((rK c).map (dx tm)) h→j9 r P c (qL P nt φ h w a.defers κ (rK c) tm) a w:=by
 intro n
 induction n using Nat.strongRecOn with
 | ind n ihn=>
  intro tm h φ w a hk ht hr hi
  have hs:=Mp hc
  refine j9.round (wpIn_mono (ih _ h _ φ w a (ht.Sz hs hk) hr (hI n _ h hi)) ?_)
  rintro e a' w' ⟨x,cN,h',φ',rfl,g1,g2,g3,g4,g5,g6⟩
  have hkeep:FM (rK c) nt tm cN:=fun t YG hnt=>(g6 t YG hnt).trans (tJ hs hk t YG)
  cases x with
  | normal=>
   obtain ⟨m,hm,hi'⟩:=g1
   have hk2:FM (rK c) nt ko cN:=fun t YG hnt=>(hkeep t YG hnt).trans (hk t YG hnt)
   exact (ihn m hm cN h' φ' w' a' hk2 g2 g3 hi').mono fun e a2 w2 hp=>qL.after g4 g5 hkeep (fun _ _=>rfl) (fun t ht=>⟨ht,ht⟩) hp
  | exit i=>exact ⟨.exit i,cN,h',φ',rfl,g1,g2,g3,g4,g5,hkeep⟩
  | ret=>exact ⟨.ret,cN,h',φ',rfl,g1,g2,g3,g4,g5,hkeep⟩
theorem Mq (hm:P.follows .mixedOrders=true):∀(c:Code) (r:Option Nat) (nt:Nat),(r=none∨oF c=true)→codeOk nt c=true→∀(tm:T Value) (h:Heap) (κ:KT) (φ:dJ) (w:World) (a:Act),
  TR φ nt tm a→HR P φ h w→WP P c tm h κ→c.wpIn (FR r) 0 P (qL P nt φ h w a.defers κ (rK c) tm) a w:=by
 intro c
 induction c with
 | skip=>intro r nt hn hc tm h κ φ w a ht hr hg; exact wpIn_skip ⟨.normal,tm,h,φ,rfl,hg,ht,hr,Ext.refl _ _ _,rfl,fun _ _ _=>rfl⟩
 | label l=>intro r nt hn hc tm h κ φ w a ht hr hg; exact wpIn_label ⟨.normal,tm,h,φ,rfl,hg,ht,hr,Ext.refl _ _ _,rfl,fun _ _ _=>rfl⟩
 | ret=>intro r nt hn hc tm h κ φ w a ht hr hg; exact wpIn_ret ⟨.ret,tm,h,φ,rfl,hg,ht,hr,Ext.refl _ _ _,rfl,fun _ _ _=>rfl⟩
 | exit id=>intro r nt hn hc tm h κ φ w a ht hr hg; exact wpIn_exit ⟨.exit id,tm,h,φ,rfl,hg,ht,hr,Ext.refl _ _ _,rfl,fun _ _ _=>rfl⟩
 | region id os draw=>
  intro r nt hn hc tm h κ φ w a ht hr hg
  have hok:∀q∈os.toList,eY nt q=true:=by
   simp only[codeOk,List.all_eq_true] at hc; exact hc
  have hg':ok (kG False (Ci P) P jf os.toList draw tm h fun tm h=>κ .normal tm h):=by
   have:Qc P os.toList draw tm h (fun tm h=>κ .normal tm h):=hg
   rwa [Qg] at this
  have hQ:∀cN h' φ' a' w',ok ((fun tm h=>κ .normal tm h) cN h')→TR φ' nt cN a'→HR P φ' h' w'→Ext φ φ' h h' w w'→a'.defers=a.defers→
    (∀t,t<nt→(∀(i:Nat) (o:Oper),os[i]? = some o→o.dst≠some t)→dx cN t=dx tm t)→qL P nt φ h w a.defers κ (rK (.region id os draw)) tm .normal a' w':=
   fun cN h' φ' a' w' g1 g2 g3 g4 g5 g6=>⟨.normal,cN,h',φ',rfl,g1,g2,g3,g4,g5,fun t ht hnt=>g6 t ht (FN hnt)⟩
  cases draw with
  | false=>
   refine wpIn_region ?_
   rw[List.range_eq_range']
   have:=rZ (r0:=r) (ko:=tm) w5 Mm CX hok hQ os.toList 0 φ tm h a w (fun k=>by simp) ht hr (Ext.refl _ _ _) rfl (fun _ _ _=>rfl) hg'
   simpa using this
  | true=>exact rj (good:=ok) w5 Mm hm jf CX os id nt hok φ tm h a w _ ht hr hg' r _ hQ
 | seq x y ihx ihy=>
  intro r nt hn hc tm h κ φ w a ht hr hg
  simp only[codeOk,Bool.and_eq_true] at hc
  obtain ⟨wK,hn2⟩:=vH (x:=x) (y:=y) hn rfl
  have hmem:∀t,t∉rK (.seq x y)→t∉rK x∧t∉rK y:=fun t ht=>by
   have:¬(t∈rK x∨t∈rK y):=fun hh=>ht (qf.mpr hh)
   exact not_or.mp this
  unfold WP at hg
  split at hg
  ·refine wpIn_seq (wpIn_mono (ihx r nt wK hc.1 tm h _ φ w a ht hr hg) ?_)
   rintro e a' w' ⟨e0,cN,h',φ',rfl,g1,g2,g3,g4,g5,g6⟩
   cases e0 with
   | normal=>exact wpIn_mono (ihy r nt hn2 hc.2 cN h' κ φ' w' a' g2 g3 g1) fun e a2 w2 hp=>qL.after g4 g5 g6 (fun _ _=>rfl) hmem hp
   | exit i=>exact ⟨.exit i,cN,h',φ',rfl,g1,g2,g3,g4,g5,fun t ht hnt=>g6 t ht (hmem t hnt).1⟩
   | ret=>exact ⟨.ret,cN,h',φ',rfl,g1,g2,g3,g4,g5,fun t ht hnt=>g6 t ht (hmem t hnt).1⟩
  ·obtain ⟨J,hA,hB⟩:=hg
   refine wpIn_seq (wpIn_mono (ihx r nt wK hc.1 tm h _ φ w a ht hr hA) ?_)
   rintro e a' w' ⟨e0,cN,h',φ',rfl,g1,g2,g3,g4,g5,g6⟩
   have hs:=Mp hc.1
   cases e0 with
   | normal=>exact wpIn_mono (ihy r nt hn2 hc.2 _ h' κ φ' w' a' (g2.Sz hs g6) g3 (hB _ _ g1)) fun e a2 w2 hp=>qL.after g4 g5 g6 (tJ hs g6) hmem hp
   | exit i=>exact ⟨.exit i,cN,h',φ',rfl,g1,g2,g3,g4,g5,fun t ht hnt=>g6 t ht (hmem t hnt).1⟩
   | ret=>exact ⟨.ret,cN,h',φ',rfl,g1,g2,g3,g4,g5,fun t ht hnt=>g6 t ht (hmem t hnt).1⟩
 | cond x c1 c2 ih1 ih2=>
  intro r nt hn hc tm h κ φ w a ht hr hg
  simp only[codeOk,Bool.and_eq_true] at hc
  obtain ⟨wK,hn2⟩:=vH (x:=c1) (y:=c2) hn rfl
  have hmem:∀t,t∉rK (.cond x c1 c2)→t∉rK c1∧t∉rK c2:=fun t ht=>by
   have:¬(t∈rK c1∨t∈rK c2):=fun hh=>ht (qf.mpr hh)
   exact not_or.mp this
  have hg':aD (fc tm x) (WP P c1 tm h κ) (WP P c2 tm h κ):=hg
  have hx:=ht.eval hc.1.1
  unfold aD at hg'
  split at hg'<;>try exact hg'.elim
  ·rename_i hv
   rw[hv] at hx
   refine wpIn_cond_true (by generalize a.eval x=z at hx; cases hx; rfl) (wpIn_mono (ih1 r nt wK hc.1.2 tm h κ φ w a ht hr hg') ?_)
   rintro e a' w' ⟨e0,cN,h',φ',rfl,g1,g2,g3,g4,g5,g6⟩
   exact ⟨e0,cN,h',φ',rfl,g1,g2,g3,g4,g5,fun t ht hnt=>g6 t ht (hmem t hnt).1⟩
  ·rename_i hv
   rw[hv] at hx
   refine wpIn_cond_false (by generalize a.eval x=z at hx; cases hx; rfl) (wpIn_mono (ih2 r nt hn2 hc.2 tm h κ φ w a ht hr hg') ?_)
   rintro e a' w' ⟨e0,cN,h',φ',rfl,g1,g2,g3,g4,g5,g6⟩
   exact ⟨e0,cN,h',φ',rfl,g1,g2,g3,g4,g5,fun t ht hnt=>g6 t ht (hmem t hnt).2⟩
 | block id c ih=>
  intro r nt hn hc tm h κ φ w a ht hr hg
  refine wpIn_block (wpIn_mono (ih r nt hn hc tm h _ φ w a ht hr hg) ?_)
  rintro e a' w' ⟨e0,cN,h',φ',rfl,g1,g2,g3,g4,g5,g6⟩
  cases e0 with
  | normal=>exact ⟨.normal,cN,h',φ',rfl,g1,g2,g3,g4,g5,g6⟩
  | ret=>exact ⟨.ret,cN,h',φ',rfl,g1,g2,g3,g4,g5,g6⟩
  | exit i=>
   have Xo:Bool.rec (motive:=fun _=>Prop) (κ (.exit i) cN h') (κ .normal cN h') (Nat.beq i id):=g1
   simp only[L_,Exit.inBlock]
   cases hb:Nat.beq i id with
   | true=>
    rw[hb] at Xo
    rw[if_pos (cQ hb)]
    exact ⟨.normal,cN,h',φ',rfl,Xo,g2,g3,g4,g5,g6⟩
   | false=>
    rw[hb] at Xo
    rw[if_neg (oK hb)]
    exact ⟨.exit i,cN,h',φ',rfl,Xo,g2,g3,g4,g5,g6⟩
 | scope c ih=>
  intro r nt hn hc tm h κ φ w a ht hr hg
  refine wR (ih r nt hn hc tm h κ φ w a ht hr hg) ?_
  rintro l a' w' ⟨x,cN,h',φ',hx,_⟩
  cases x<;>cases hx
 | loop c ih=>
  intro r nt hn hc tm h κ φ w a ht hr hg
  obtain ⟨I,⟨n,h0⟩,hI⟩:=hg
  exact (FO (c:=c) (κ:=κ) (ko:=tm) hn hc (fun tm h κ φ w a=>ih r nt hn hc tm h κ φ w a) I hI n tm h φ w a (fun _ _ _=>rfl) ht hr h0).wp
 | _=>intro r nt hn hc tm h κ φ w a ht hr hg; exact False.elim hg
theorem Qh (h:Heap) (tm:T Value):∀(rs:List y5) (κ:List Value→Prop),JL h tm rs κ=dH False h tm rs κ:=by
 intro rs
 induction rs with
 | nil=>intro κ; rfl
 | cons r rs ih=>
  intro κ
  cases r with
  | tmp t=>simp only[dH,gu]; exact ih _
  | one a=>simp only[dH,gu]; show load1 False (dx tm a) h (fun v _=>JL h tm rs fun vs=>κ (v::vs))=_; simp only[ih]; rfl
  | agg a s=>simp only[dH,gu]; show ax False s (dx tm a) h (fun v _=>JL h tm rs fun vs=>κ (v::vs))=_; simp only[ih]; rfl
  | bad=>rfl
theorem Qi (κ:KQ) (h:Heap) (vs:List Value):Qd κ h vs=LJ κ h vs:=by
 cases vs with
 | nil=>rfl
 | cons v vs=>cases vs<;>rfl
theorem aq (hm:P.follows .mixedOrders=true) {f:FuncId} {args:List Value} {h:Heap} {κ:Value→Heap→Prop} (hg:aJ P f args h κ):CallW P f args h κ:=by
 intro φ w args' ha hr
 unfold aJ at hg
 split at hg
 ·exact hg.elim
 ·rename_i c rs nt hc
  obtain ⟨fn,hf,hb,rfl,rfl,Ce,hrk,hnt,wO⟩:=rX hc
  split at hg<;>try exact hg.elim
  rename_i hle
  refine ⟨wO _ _,?_⟩
  have hst:=TR.start (nt:=fn.ntmps) ha hnt (cV hle)
  refine vG (r:=none) (n:=0) |>.1 (callsIn_of_wp_marks hf hb trivial (wpIn_mono (Mq hm c none _ (.inl rfl) Ce _ h _ φ w _ hst hr hg) ?_))
  rintro e a' w' ⟨x,cN,h',φ',rfl,g1,g2,g3,g4,g5,_⟩
  have Px:a'.defers=[]:=g5
  have fin:JL h' cN (fn.results.toList.map (uw P)) (fun vs=>Qd κ h' vs)→
    LeavesInM (FR none) 0 P fn a'.tmps (fun e w'=>∃φ' v v' h',e=.returned v'∧ok (κ v h')∧VR φ' v v'∧HR P φ' h' w'∧Ext φ φ' h h' w w') a'.defers .returning w':=by
   intro k
   rw[Qh] at k
   simp only[Qi] at k
   rw[Px]
   refine oO (a:=a') (φ':=φ') (h':=h') ?_ [] w'.heap.size w' trivial g3 g4
   intro w2 Cg hx2
   obtain ⟨vs,vs',k1,k2,k3⟩:=oN (good:=ok) w5 Cg g2 _ hrk k
   refine ⟨_,rW k3,?_⟩
   cases k2 with
   | nil=>exact ⟨φ',_,_,h',rfl,k1,VR.tuple' .nil,Cg,hx2⟩
   | cons hv hvs=>
    cases hvs with
    | nil=>exact ⟨φ',_,_,h',rfl,k1,hv,Cg,hx2⟩
    | cons TL hvs=>exact ⟨φ',_,_,h',rfl,k1,VR.tuple' (.cons hv (.cons TL hvs)),Cg,hx2⟩
  cases x with
  | normal=>exact fin g1
  | exit i=>exact False.elim g1
  | ret=>exact fin g1
end Go.Vai

namespace Go.Vai
open Go
variable {β:Type} {fl:β}
theorem T.JM {α:Type} (a a':α) (p:List Bool):∀t:T α,T.nJ a' p (T.nJ a p t)=T.nJ a' p t:=by
 induction p with
 | nil=>intro t; cases t<;>rfl
 | cons b p ih=>intro t; cases t<;>cases b<;>simp only[T.nJ]<;>rw[ih]
theorem T.JN {α:Type} (a b:α):∀(p q:List Bool) (t:T α),p≠q→T.nJ a p (T.nJ b q t)=T.nJ b q (T.nJ a p t):=by
 intro p
 induction p with
 | nil=>
  intro q t hpq
  cases q with
  | nil=>exact absurd rfl hpq
  | cons c q=>cases t<;>cases c<;>rfl
 | cons x p ih=>
  intro q t hpq
  cases q with
  | nil=>cases t<;>cases x<;>rfl
  | cons c q=>
   have h:x=c→p≠q:=fun e e'=>hpq (by rw[e,e'])
   cases x<;>cases c<;>cases t<;>simp only[T.nJ]<;>first | rfl | rw[ih _ _ (h rfl)]
theorem Ua {a b:Nat} (h:a≠b):key a≠key b:=fun e=>h (key_inj (Nat.lt_succ_self _) (Nat.lt_succ_self _) e)
theorem T.w8 {α:Type} (t:T α) (n:Nat) (a a':α):(t.bf n a).bf n a'=t.bf n a':=T.JM a a' (key n) t
theorem T.Mr {α:Type} (t:T α) {n m:Nat} (a b:α) (h:n≠m):(t.bf n a).bf m b=(t.bf m b).bf n a:=(T.JN a b (key n) (key m) t (Ua h)).symm
theorem T.aj {α:Type} (t:T α) {n m:Nat} (a:α) (h:n≠m):(t.bf n a).get m=t.get m:=T.gO t a (Nat.lt_succ_self _) (Nat.lt_succ_self _) h
theorem FP (vs:List Value):∀(t:T Value) (off n:Nat) (a:Value),n<off→lay vs (t.bf n a) off=(lay vs t off).bf n a:=by
 induction vs with
 | nil=>intro t off n a _; rfl
 | cons v vs ih=>
  intro t off n a h
  simp only[lay]
  rw[T.Mr t a v (by omega),ih _ _ _ _ (by omega)]
theorem Qj (vs:List Value):∀(t:T Value) (off i:Nat) (a:Value),i<vs.length→(lay vs t off).bf (off+i) a=lay (vs.set i a) t off:=by
 induction vs with
 | nil=>intro t off i a h; simp at h
 | cons v vs ih=>
  intro t off i a h
  cases i with
  | zero=>
   simp only[List.set_cons_zero,lay,Nat.add_zero]
   rw[←FP vs _ _ _ _ (Nat.lt_succ_self off),T.w8]
  | succ i=>
   simp only[List.set_cons_succ,lay]
   rw[←ih _ _ _ _ (by simpa using h),show off+(i+1)=off+1+i by omega]
def over (vs:List Value) (o:Nat) (ws:List Value):List Value:=vs.take o++ws++vs.drop (o+ws.length)
theorem jP {vs:List Value} {o:Nat} {ws:List Value} (h:o+ws.length≤vs.length):(over vs o ws).length=vs.length:=by
 simp[over]; omega
theorem CZ (vs:List Value) (o:Nat):over vs o []=vs:=by simp[over]
theorem JO (vs:List Value) (o:Nat) (w:Value) (ws:List Value) (h:o<vs.length):over vs o (w::ws)=over (vs.set o w) (o+1) ws:=by
 simp only[over,List.length_cons]
 rw[List.take_succ_eq_append_getElem (by simpa using h)]
 simp only[List.getElem_set_self]
 rw[List.take_set_of_le (Nat.le_refl _),List.drop_set_of_lt (by omega)]
 simp[Nat.add_comm,Nat.add_left_comm]
theorem vI (ws:List Value):∀(vs:List Value) (o:Nat),o+ws.length≤vs.length→lay ws (lay vs .nil 0) o=lay (over vs o ws) .nil 0:=by
 induction ws with
 | nil=>intro vs o _; rw[CZ]; rfl
 | cons w ws ih=>
  intro vs o h
  simp only[List.length_cons] at h
  have h1:=Qj vs .nil 0 o w (by omega)
  rw[Nat.zero_add] at h1
  rw[JO vs o w ws (by omega),←ih _ _ (by simp; omega),←h1]
  rfl
noncomputable def af (vs:List Value) (e:TypeId) (op:Bool):bU:=.cells vs.length (lay vs .nil 0) e op
noncomputable def YH (vs:List Value) (e:TypeId):bU:=.ro vs.length (lay vs .nil 0) e
theorem Ms (vs:List Value):∀(c:T Value) (off:Nat) (i:Nat),(lay vs c off).get i=if off≤i∧i<off+vs.length then vs[i-off]? else c.get i:=by
 induction vs with
 | nil=>intro c off i; simp[lay]; omega
 | cons v vs ih=>
  intro c off i
  rw[lay,ih]
  by_cases h1:off+1≤i∧i<off+1+vs.length
  ·rw[if_pos h1,if_pos (by simp; omega),show i-off=(i-(off+1))+1 by omega]; simp
  ·rw[if_neg h1]
   by_cases h2:off=i
   ·subst h2; rw[T.aa]; simp
   ·rw[T.aj _ _ h2,if_neg (by simp; omega)]
theorem mZ (vs:List Value) (i:Nat):(lay vs .nil 0).get i=vs[i]?:=by
 rw[Ms]
 by_cases h:i<vs.length
 ·rw[if_pos ⟨Nat.zero_le _,by omega⟩,Nat.sub_zero]
 ·rw[if_neg (by omega),T.get_nil]; symm; simp; omega
def FQ (fl:β) (o:Option Value) (κ:Value→β):β:=match o with | some v=>κ v | none=>fl
theorem zU (v:Value) (κ:Value→β):FQ fl (some v) κ=κ v:=id rfl
noncomputable def qM (fl:β) (ob:Option bU) (o:Nat) (κ:Value→β):β:=match ob with
 | some (.cells n c _ _)=>match Nat.ble (Nat.succ o) n,c.get o with
  | true,some v=>κ v
  | _,_=>fl
 | some (.ro n c _)=>match Nat.ble (Nat.succ o) n,c.get o with
  | true,some v=>κ v
  | _,_=>fl
 | _=>fl
theorem C0 (b o:Nat) (h:Heap) (κ:Value→Heap→β):load1 fl (.pointer (some ⟨b,o,none⟩)) h κ=qM fl (h.bl.get b) o fun v=>κ v h:=by
 unfold load1 qM
 dsimp only
 generalize h.bl.get b=z
 cases z with
 | none=>rfl
 | some ob=>cases ob<;>rfl
theorem qg (vs:List Value) (e:TypeId) (op:Bool) (o:Nat) (κ:Value→β):qM fl (some (af vs e op)) o κ=FQ fl vs[o]? κ:=by
 unfold qM af
 simp only[mZ]
 by_cases h:o<vs.length
 ·rw[show Nat.ble (Nat.succ o) vs.length=true from Nat.ble_eq_true_of_le h,List.getElem?_eq_getElem h]; rfl
 ·have:Nat.ble (Nat.succ o) vs.length=false:=by
   cases hb:Nat.ble (Nat.succ o) vs.length with
   | false=>rfl
   | true=>exact absurd (Nat.le_of_ble_eq_true hb) h
  rw[this,List.getElem?_eq_none (by omega)]; rfl
theorem Mt (vs:List Value) (e:TypeId) (o:Nat) (κ:Value→β):qM fl (some (YH vs e)) o κ=FQ fl vs[o]? κ:=qg vs e false o κ
theorem FT (vs:List Value) (off:Nat):∀(n:Nat) (acc:List Value) (κ:List Value→β),off+n≤vs.length→kR fl (lay vs .nil 0) off n acc κ=κ ((vs.drop off).take n++acc):=by
 intro n
 induction n with
 | zero=>intro acc κ _; simp; rfl
 | succ n ih=>
  intro acc κ h
  show Option.rec (motive:=fun _=>β) fl (fun v=>kR fl (lay vs .nil 0) off n (v::acc) κ) ((lay vs .nil 0).get (Nat.add off n))=_
  rw[mZ,show Nat.add off n=off+n from rfl,List.getElem?_eq_getElem (by omega)]
  show kR fl (lay vs .nil 0) off n (vs[off+n]::acc) κ=_
  rw[ih _ _ (by omega),List.take_succ_eq_append_getElem (by simp; omega)]
  simp
noncomputable def vm (fl:β) (ob:Option bU) (o s:Nat) (κ:List Value→β):β:=match ob with
 | some (.cells n c _ _)=>match Nat.ble (Nat.add o s) n with
  | true=>kR fl c o s [] κ
  | false=>fl
 | some (.ro n c _)=>match Nat.ble (Nat.add o s) n with
  | true=>kR fl c o s [] κ
  | false=>fl
 | _=>fl
theorem C1 (s b o:Nat) (h:Heap) (κ:Value→Heap→β):ax fl s (.pointer (some ⟨b,o,none⟩)) h κ=vm fl (h.bl.get b) o s fun l=>κ (.agg ⟨l⟩) h:=by
 unfold ax vm
 dsimp only
 generalize h.bl.get b=z
 cases z with
 | none=>rfl
 | some ob=>cases ob<;>rfl
theorem tK (vs:List Value) (e:TypeId) (op:Bool) (o s:Nat) (κ:List Value→β) (h:o+s≤vs.length):vm fl (some (af vs e op)) o s κ=κ ((vs.drop o).take s):=by
 unfold vm af
 simp only
 rw[show Nat.ble (Nat.add o s) vs.length=true from Nat.ble_eq_true_of_le h]
 simp only
 rw[FT _ _ _ _ _ h,List.append_nil]
theorem Mu (vs:List Value) (e:TypeId) (o s:Nat) (κ:List Value→β) (h:o+s≤vs.length):vm fl (some (YH vs e)) o s κ=κ ((vs.drop o).take s):=tK vs e false o s κ h
theorem dO (o:bU) (h:Heap) (κ:Nat→Heap→β):ai fl o h κ=κ h.nx ⟨h.nx+1,h.bl.bf h.nx o,h.lo⟩:=by
 unfold ai; rw[T.fU,bR]
theorem bW (b:Nat) (o:bU) (h:Heap) (κ:Heap→β) (hlo:h.lo≤b):setBlock fl b o h κ=κ ⟨h.nx,h.bl.bf b o,h.lo⟩:=by
 unfold setBlock; rw[Nat.ble_eq_true_of_le hlo,T.fU]
theorem kJ (vs:List Value) (e:TypeId) (op:Bool) (κ:bU→β) (hl:vs.length≤1000000000000):ay fl vs e op κ=κ (af vs e op):=by
 unfold ay; rw[vE]
 simp only[Nat.zero_add]
 rw[Nat.ble_eq_true_of_le hl]; rfl
theorem qh (n:Nat):∀(ws:List Value) (c:T Value) (o:Nat) (κ:T Value→β),o+ws.length≤n→(ws.all ef)=true→mE fl n ws c o κ=κ (lay ws c o):=by
 intro ws
 induction ws with
 | nil=>intro c o κ _ _; rfl
 | cons v ws ih=>
  intro c o κ h1 h2
  simp only[List.all_cons,Bool.and_eq_true,List.length_cons] at h1 h2
  show Bool.rec (motive:=fun _=>β) fl (Bool.rec (motive:=fun _=>β) fl (T.set c o v fun c=>mE fl n ws c (Nat.succ o) κ) (Nat.ble (Nat.succ o) n)) (ef v)=_
  rw[h2.1,Nat.ble_eq_true_of_le (by omega)]
  simp only[T.fU]
  rw[ih _ _ _ (by omega) h2.2]; rfl
noncomputable def Qk (fl:β) (ob:Option bU) (s b o:Nat) (ws:List Value) (h:Heap) (κ:Heap→β):β:=match ob with
 | some (.cells n c e op)=>match Nat.beq ws.length s with
  | true=>mE fl n ws c o fun c=>setBlock fl b (.cells n c e op) h κ
  | false=>fl
 | _=>fl
theorem zV (s b o:Nat) (v:Value) (h:Heap) (κ:Value→Heap→β):aF fl s (.pointer (some ⟨b,o,none⟩)) v h κ=Qk fl (h.bl.get b) s b o v.cells.toList h fun h=>κ undef h:=by
 unfold aF Qk
 dsimp only
 generalize h.bl.get b=z
 cases z with
 | none=>rfl
 | some ob=>cases ob<;>rfl
theorem tL (vs:List Value) (e:TypeId) (op:Bool) (s b o:Nat) (ws:List Value) (h:Heap) (κ:Heap→β) (h1:ws.length=s) (h2:ws.all ef=true) (h3:o+s≤vs.length) (hlo:h.lo≤b) :
  Qk fl (some (af vs e op)) s b o ws h κ=κ ⟨h.nx,h.bl.bf b (af (over vs o ws) e op),h.lo⟩:=by
 subst h1
 unfold Qk af
 simp only
 rw[show Nat.beq ws.length ws.length=true from Nat.beq_refl _]
 simp only
 rw[qh _ _ _ _ _ h3 h2,bW _ _ _ _ hlo,vI _ _ _ h3,jP h3]
theorem C2 (v:Value) (h:Heap) (κ:KQ):aI (some v) h κ=κ v h:=id rfl
theorem C3 (o:bU) (mk:Nat→Value) (h:Heap) (κ:KQ):T7 (some (o,mk)) h κ=κ (mk h.nx) ⟨h.nx+1,h.bl.bf h.nx o,h.lo⟩:=by
 show ai False o h (fun n h=>κ (mk n) h)=_; rw[dO]
theorem w9 (p:Prop):dI true p=p:=id rfl
theorem w_ (b:Bool):ah (.bool b) true=b:=by cases b<;>exact id rfl
theorem uF (b:Bool):ah (.bool b) false=!b:=by cases b<;>exact id rfl
theorem uG (f:(Value→Heap→Prop)→Prop) (h:Heap) (κ:KQ):ag true f h κ=f κ:=id rfl
theorem r5 (f:(Value→Heap→Prop)→Prop) (h:Heap) (κ:KQ):ag false f h κ=κ undef h:=id rfl
theorem xb (A B:Prop):aD (.bool true) A B=A:=id rfl
theorem uH (A B:Prop):aD (.bool false) A B=B:=id rfl
theorem Hf (n:Int) (h : -9223372036854775808≤n∧n≤9223372036854775807):IntKind.i64.wrap n=n:=IntWalk.i64_in _ h
theorem Hg (P:Program) (t:TypeId) (cn gd:Bool) (a b:Int) (h:Heap) (κ:Value→Heap→β):av fl P .add t cn gd (.int .i64 a) (.int .i64 b) h κ=κ (.int .i64 (IntKind.i64.wrap (a+b))) h:=by
 simp only[av,jb,mR,ir,ew]; rfl
theorem Hh (P:Program) (t:TypeId) (cn gd:Bool) (a b:Int) (h:Heap) (κ:Value→Heap→β):av fl P .sub t cn gd (.int .i64 a) (.int .i64 b) h κ=κ (.int .i64 (IntKind.i64.wrap (a-b))) h:=by
 simp only[av,jb,mR,ir,ew]; rfl
theorem Hi (P:Program) (t:TypeId) (cn gd:Bool) (a b:Int) (h:Heap) (κ:Value→Heap→β):av fl P .mul t cn gd (.int .i64 a) (.int .i64 b) h κ=κ (.int .i64 (IntKind.i64.wrap (a*b))) h:=by
 simp only[av,jb,mR,ir,ew]; rfl
theorem Hj (P:Program) (t:TypeId) (cn gd:Bool) (a b:Int) (h:Heap) (κ:Value→Heap→β) (hb:b≠0):av fl P .quo t cn gd (.int .i64 a) (.int .i64 b) h κ=κ (.int .i64 (IntKind.i64.wrap (Int.tdiv a b))) h:=by
 simp only[av,jb,mR,ir,ew,ff,hb,decide_false]
theorem Ql (P:Program) (t:TypeId) (cn gd:Bool) (a b:Int) (h:Heap) (κ:Value→Heap→β) (hb:b≠0):av fl P .rem t cn gd (.int .i64 a) (.int .i64 b) h κ=κ (.int .i64 (Int.tmod a b)) h:=by
 simp only[av,jb,mR,ir,ff,hb,decide_false]
theorem Hl (P:Program) (t:TypeId) (cn gd:Bool) (k:IntKind) (a b:Int) (h:Heap) (κ:Value→Heap→β):av fl P .eql t cn gd (.int k a) (.int k b) h κ=κ (.bool (decide (a=b))) h:=by
 simp only[av,fO,decide_true,mR,cq,ff]
theorem Ho (P:Program) (t:TypeId) (cn gd:Bool) (k:IntKind) (a b:Int) (h:Heap) (κ:Value→Heap→β):av fl P .neq t cn gd (.int k a) (.int k b) h κ=κ (.bool (!decide (a=b))) h:=by
 simp only[av,fO,decide_true,mR,cq,ff]
theorem Hp (P:Program) (t:TypeId) (cn gd:Bool) (k:IntKind) (a b:Int) (h:Heap) (κ:Value→Heap→β):av fl P .lss t cn gd (.int k a) (.int k b) h κ=κ (.bool (decide (a<b))) h:=by
 simp only[av,fO,decide_true,mR,cq,gY]
theorem Hq (P:Program) (t:TypeId) (cn gd:Bool) (k:IntKind) (a b:Int) (h:Heap) (κ:Value→Heap→β):av fl P .gtr t cn gd (.int k a) (.int k b) h κ=κ (.bool (decide (b<a))) h:=by
 simp only[av,fO,decide_true,mR,cq,gY]
theorem Hr (P:Program) (t:TypeId) (cn gd:Bool) (k:IntKind) (a b:Int) (h:Heap) (κ:Value→Heap→β):av fl P .leq t cn gd (.int k a) (.int k b) h κ=κ (.bool (!decide (b<a))) h:=by
 simp only[av,fO,decide_true,mR,cq,gY]
theorem Hs (P:Program) (t:TypeId) (cn gd:Bool) (k:IntKind) (a b:Int) (h:Heap) (κ:Value→Heap→β):av fl P .geq t cn gd (.int k a) (.int k b) h κ=κ (.bool (!decide (a<b))) h:=by
 simp only[av,fO,decide_true,mR,cq,gY]
theorem Mv (b:Bool) (h:Heap) (κ:Value→Heap→β):jJ fl .not (.bool b) h κ=κ (.bool (!b)) h:=by simp only[jJ,cq]
theorem Mw (a:Int) (h:Heap) (κ:Value→Heap→β):jJ fl .neg (.int .i64 a) h κ=κ (.int .i64 (IntKind.i64.wrap (0-a))) h:=by simp only[jJ,ir,ew]; rfl
theorem C4 (k:IntKind) (a:Int) (h:Heap) (κ:Value→Heap→β):jo fl .i64 (.int k a) h κ=κ (.int .i64 (IntKind.i64.wrap a)) h:=by simp only[jo,ir,ew]
theorem zW (a b:Value) (h:Heap) (κ:Value→Heap→β):bt fl (.bool true) a b h κ=κ a h:=id rfl
theorem xe (a b:Value) (h:Heap) (κ:Value→Heap→β):bt fl (.bool false) a b h κ=κ b h:=id rfl
theorem m_ (x:Option Addr) (n c:Nat) (h:Heap) (κ:Value→Heap→β):bh fl (.slice x n c) h κ=κ (.int .i64 (n:Int)) h:=id rfl
theorem r6 (off b o:Nat) (h:Heap) (κ:Value→Heap→β):fieldAddrB fl off (.pointer (some ⟨b,o,none⟩)) h κ=κ (.pointer (some ⟨b,o+off,none⟩)) h:=by simp only[fieldAddrB,bR]; rfl
theorem Ht (a:Addr) (h:Heap) (κ:Value→Heap→β):bE fl (.pointer (some a)) h κ=κ (.pointer (some a)) h:=id rfl
theorem Hu (f:FuncId) (a b:Array Value) (h:Heap) (κ:Value→Heap→β):bE fl (.func (.func f) a b) h κ=κ (.func (.func f) a b) h:=id rfl
theorem zX (a:Value) (l:List Value) (h:Heap) (κ:Value→Heap→β):au fl 0 (.tuple ⟨a::l⟩) h κ=κ a h:=id rfl
theorem zY (a b:Value) (l:List Value) (h:Heap) (κ:Value→Heap→β):au fl 1 (.tuple ⟨a::b::l⟩) h κ=κ b h:=id rfl
theorem zZ (a b c:Value) (l:List Value) (h:Heap) (κ:Value→Heap→β):au fl 2 (.tuple ⟨a::b::c::l⟩) h κ=κ c h:=id rfl
theorem bA (s b o n c i:Nat) (h:Heap) (κ:Value→Heap→β) (hi:i<n):an fl s (.slice (some ⟨b,o,none⟩) n c) (.int .i64 (i:Int)) h κ=κ (.pointer (some ⟨b,o+i*s,none⟩)) h:=by
 show (match Nat.ble (Nat.succ i) n with | true=>_ | _=>_)=_
 rw[show Nat.ble (Nat.succ i) n=true from Nat.ble_eq_true_of_le hi]
 simp only[bR]; rfl
theorem C5 (P:Program) (f:FuncId) (a b:Array Value) (args:List Value) (h:Heap) (κ:KQ):lg P (.func (.func f) a b) args h κ=CallW P f (a.toList++args++b.toList) h κ:=id rfl
theorem aM {p:Prop} [Decidable p] (h:p):decide p=true:=decide_eq_true h
theorem aK {p:Prop} [Decidable p] (h:¬p):decide p=false:=decide_eq_false h
theorem bZ {a b:Int} (h:a<b):decide (a<b)=true:=decide_eq_true h
theorem bL {a b:Int} (h:b≤a):decide (a<b)=false:=decide_eq_false (by omega)
theorem YI {a b:Int} (h:a=b):decide (a=b)=true:=decide_eq_true h
theorem Mx {a b:Int} (h:a<b):decide (a=b)=false:=decide_eq_false (by omega)
theorem SA {a b:Int} (h:b<a):decide (a=b)=false:=decide_eq_false (by omega)
structure Le (h h':Heap):Prop where
 nx:h.nx≤h'.nx
 lo:h'.lo=h.lo
 get:∀b,b<h.nx→h'.bl.get b=h.bl.get b
theorem Le.refl (h:Heap):Le h h:=⟨Nat.le_refl _,rfl,fun _ _=>rfl⟩
theorem Le.trans {a b c:Heap} (x:Le a b) (y:Le b c):Le a c:=⟨Nat.le_trans x.nx y.nx,y.lo.trans x.lo,fun i hi=>(y.get i (Nat.lt_of_lt_of_le hi x.nx)).trans (x.get i hi)⟩
theorem Le.new {a h:Heap} (x:Le a h) (o:bU):Le a ⟨h.nx+1,h.bl.bf h.nx o,h.lo⟩:=
 ⟨Nat.le_succ_of_le x.nx,x.lo,fun i hi=>(T.aj _ _ (by have:=x.nx; omega)).trans (x.get i hi)⟩
theorem Le.set {a h:Heap} (x:Le a h) {b:Nat} (hb:a.nx≤b) (o:bU):Le a ⟨h.nx,h.bl.bf b o,h.lo⟩:=
 ⟨x.nx,x.lo,fun i hi=>(T.aj _ _ (by omega)).trans (x.get i hi)⟩
end Go.Vai

namespace Go.Vai
open Go Go.RowKit
variable {β:Type} {fl:β} {P:Program}
theorem A4 {φ:dJ} {v:Value} (hv:mP v=true):VR φ v v:=by
 cases v<;>first | exact VR.mP hv | (exact VR.qX (F2.mP hv)) | cases hv
theorem My {φ:dJ}:∀{l l':List Value},l.all lS=true→F2 (VR φ) l l'→l'=l:=by
 intro l
 induction l with
 | nil=>intro l' _ h; cases h; rfl
 | cons v l ih=>
  intro l' hs h
  simp only[List.all_cons,Bool.and_eq_true] at hs
  cases h with
  | cons h1 h2=>rw[ih hs.2 h2,VR.Qa hs.1 h1]
theorem nL {φ:dJ} {v v':Value} (hv:mP v=true) (h:VR φ v v'):v'=v:=by
 cases h with
 | agg a a' ha E_=>
  have:=My (l':=a'.toList) hv (F2.nK ha E_)
  obtain ⟨l⟩:=a; obtain ⟨l'⟩:=a'
  simp only at this; rw[this]
 | bool=>rfl
 | int=>rfl
 | string=>rfl
 | _=>cases hv
theorem C6 {φ:dJ}:∀{l:List Value},l.all mP=true→F2 (VR φ) l l:=by
 intro l
 induction l with
 | nil=>intro _; exact .nil
 | cons v l ih=>
  intro h
  simp only[List.all_cons,Bool.and_eq_true] at h
  exact .cons (A4 h.1) (ih h.2)
theorem C7 {φ:dJ}:∀{l l':List Value},l.all mP=true→F2 (VR φ) l l'→l'=l:=by
 intro l
 induction l with
 | nil=>intro l' _ h; cases h; rfl
 | cons v l ih=>
  intro l' hs h
  simp only[List.all_cons,Bool.and_eq_true] at hs
  cases h with
  | cons h1 h2=>rw[ih hs.2 h2,nL hs.1 h1]
noncomputable def bK (P:Program) (n:Nat) (f:FuncId) (args:List Value) (v:Value):Bool:=
 args.all mP && mP v && lW false P_ P (run false P_ P n) f args ⟨0,.nil,0⟩ fun v' _=>ow 8 v' v
theorem r7 (hm:P.follows .mixedOrders=true) {n:Nat} {f:FuncId} {args:List Value} {v:Value} (ha:bK P n f args v=true) {h:Heap} {κ:Value→Heap→Prop} (hk:κ v h):CallW P f args h κ:=by
 intro φ w args' hf hr
 have hfl:¬yes false:=by simp[yes]
 simp only[bK,Bool.and_eq_true] at ha
 obtain ⟨⟨ha1,hv⟩,ha2⟩:=ha
 have:=C7 ha1 hf
 subst this
 have hc:=fE (good:=yes) (w:=w) hfl (A1 (P:=P)) (zQ (good:=yes) hfl A1 (rj hfl A1 hm) n).1 (C6 ha1) (HR.start w) ha2
 refine ⟨hc.1,Calls.mono hc.2 ?_⟩
 rintro e w' ⟨φ',v1,v',h',rfl,g1,g2,g3,g4⟩
 have e1:=FA 8 _ _ g1
 subst e1
 have hfr:∀B,B<w.heap.size→w'.heap[B]? = w.heap[B]?:=fun B hB=>g4.AJ B hB fun b pl e=>by cases e
 refine ⟨φ,v1,v',h,rfl,hk,by rw[nL hv g2]; exact A4 hv,?_,?_⟩
 ·exact ⟨fun b o pl h1 h2=>by rw[hfr _ (hr.dom b pl h2).2]; exact hr.obj b o pl h1 h2,fun b pl h1=>⟨(hr.dom b pl h1).1,Nat.lt_of_lt_of_le (hr.dom b pl h1).2 g4.size⟩,hr.keys,hr.PU,hr.inj,hr.lo⟩
 ·exact ⟨Sub.refl φ,fun b pl e e'=>(by rw[e] at e'; cases e'),Nat.le_refl _,g4.size,fun B hB _=>hfr B hB,fun _ _ _=>rfl,g4.tape,g4.os,g4.output,fun _ _=>trivial,rfl,fun _ _=>rfl,fun b o pl _ _ _ _ hB=>hfr _ hB,g4.dr⟩
def A5 (v:Value) (_h:Heap):Prop:=v=.bool true
def Has (ob:Option bU) (o:Nat) (ws:List Value):Prop:=
 ∃n c e,(ob=some (.ro n c e)∨∃op,ob=some (.cells n c e op))∧o+ws.length≤n∧∀j v,ws[j]? = some v→c.get (o+j)=some v
theorem Has.cells {vs:List Value} {e:TypeId} {op:Bool} {o k:Nat} (h:o+k≤vs.length):Has (some (af vs e op)) o ((vs.drop o).take k):=by
 refine ⟨vs.length,lay vs .nil 0,e,.inr ⟨op,rfl⟩,by simp; omega,fun j v hj=>?_⟩
 rw[mZ]
 rw[List.getElem?_take] at hj
 split at hj
 ·simpa[List.getElem?_drop] using hj
 ·cases hj
theorem Has.all {vs:List Value} {e:TypeId} {op:Bool}:Has (some (af vs e op)) 0 vs:=by
 have:=Has.cells (vs:=vs) (e:=e) (op:=op) (o:=0) (k:=vs.length) (by omega)
 simpa using this
theorem Has.sub {ob:Option bU} {o:Nat} {ws:List Value} (h:Has ob o ws) (i k:Nat) (hk:i+k≤ws.length):Has ob (o+i) ((ws.drop i).take k):=by
 obtain ⟨n,c,e,h1,h2,h3⟩:=h
 refine ⟨n,c,e,h1,by simp; omega,fun j v hj=>?_⟩
 rw[List.getElem?_take] at hj
 split at hj
 ·rw[List.getElem?_drop] at hj
  rw[Nat.add_assoc]; exact h3 _ _ hj
 ·cases hj
theorem dD {ob:Option bU} {o:Nat} {ws:List Value} (h:Has ob o ws) (j:Nat) (κ:Value→β):j<ws.length→qM fl ob (o+j) κ=FQ fl ws[j]? κ:=by
 intro hj
 obtain ⟨n,c,e,h1,h2,h3⟩:=h
 have hle:Nat.ble (Nat.succ (o+j)) n=true:=Nat.ble_eq_true_of_le (by omega)
 have hv:=h3 j _ (List.getElem?_eq_getElem hj)
 rw[List.getElem?_eq_getElem hj]
 rcases h1 with rfl | ⟨op,rfl⟩<;>simp only[qM,hle,hv,FQ]
theorem z1 (c:T Value) (ws:List Value) (off:Nat):∀(n:Nat) (acc:List Value) (κ:List Value→β),n≤ws.length→(∀j v,ws[j]? = some v→c.get (off+j)=some v)→kR fl c off n acc κ=κ (ws.take n++acc):=by
 intro n
 induction n with
 | zero=>intro acc κ _ _; simp; rfl
 | succ n ih=>
  intro acc κ h hc
  show Option.rec (motive:=fun _=>β) fl (fun v=>kR fl c off n (v::acc) κ) (c.get (Nat.add off n))=_
  rw[show Nat.add off n=off+n from rfl,hc n _ (List.getElem?_eq_getElem (by omega))]
  show kR fl c off n (ws[n]::acc) κ=_
  rw[ih _ _ (by omega) hc,List.take_succ_eq_append_getElem (by omega)]
  simp only[List.append_assoc,List.cons_append,List.nil_append]
theorem jG {ob:Option bU} {o:Nat} {ws:List Value} (h:Has ob o ws) (s:Nat) (κ:List Value→β) (hs:s=ws.length):vm fl ob o s κ=κ ws:=by
 obtain ⟨n,c,e,h1,h2,h3⟩:=h
 subst hs
 have hle:Nat.ble (Nat.add o ws.length) n=true:=Nat.ble_eq_true_of_le h2
 rcases h1 with rfl | ⟨op,rfl⟩<;>simp only[vm,hle]<;>rw[z1 c ws o _ _ _ (Nat.le_refl _) h3]<;>simp
theorem jQ (h:Heap) (size n:Nat) (x:Value) (κ:List Value→β) (h0:n*size=0):fQ fl h size n x κ=κ []:=by
 unfold fQ
 rw[show Nat.mul n size=0 from h0]
theorem nM {h:Heap} {b o:Nat} {ws:List Value} (hh:Has (h.bl.get b) o ws) (size n l c:Nat) (κ:List Value→β) (hn:n*size=ws.length):fQ fl h size n (.slice (some ⟨b,o,none⟩) l c) κ=κ ws:=by
 unfold fQ
 rw[show Nat.mul n size=ws.length from hn]
 cases hw:ws with
 | nil=>rfl
 | cons w0 ws0=>
  obtain ⟨nn,cc,e,h1,h2,h3⟩:=hh
  rw[hw] at h2 h3
  have hle:Nat.ble (Nat.add o (Nat.succ ws0.length)) nn=true:=Nat.ble_eq_true_of_le (by simpa using h2)
  have fin:kR fl cc o (Nat.succ ws0.length) [] κ=κ (w0::ws0):=by
   rw[z1 cc (w0::ws0) o _ _ _ (by simp) h3]
   congr 1
   simp
  rcases h1 with h1 | ⟨op,h1⟩<;>simp only[List.length_cons,h1,hle]<;>exact fin
section
variable {α:Type} (enc:α→List Value) (s:Nat)
def Sl (h:Heap) (v:Value) (L:List α):Prop:=
 ∃x cap,v=.slice x L.length cap∧(L≠[]→∃b o,x=some ⟨b,o,none⟩∧b<h.nx∧Has (h.bl.get b) o (L.flatMap enc))
variable {enc s}
theorem Sl.le {h h':Heap} {v:Value} {L:List α} (hs:Sl enc h v L) (hl:Le h h'):Sl enc h' v L:=by
 obtain ⟨x,cap,h1,h2⟩:=hs
 refine ⟨x,cap,h1,fun hn=>?_⟩
 obtain ⟨b,o,e1,e2,e3⟩:=h2 hn
 exact ⟨b,o,e1,Nat.lt_of_lt_of_le e2 hl.nx,by rw[hl.get b e2]; exact e3⟩
theorem Sl.nil (h:Heap) (x:Option Addr) (cap:Nat):Sl enc h (.slice x 0 cap) ([]:List α):=⟨x,cap,rfl,fun hn=>absurd rfl hn⟩
theorem aT (he:∀a:α,(enc a).length=s) (L:List α):(L.flatMap enc).length=L.length*s:=by
 induction L with
 | nil=>simp
 | cons a L ih=>simp[he,ih,Nat.succ_mul,Nat.add_comm]
theorem A6 (he:∀a:α,(enc a).length=s):∀(L:List α) (i:Nat) (hi:i<L.length),((L.flatMap enc).drop (i*s)).take s=enc L[i]:=by
 intro L
 induction L with
 | nil=>intro i hi; simp at hi
 | cons a L ih=>
  intro i hi
  cases i with
  | zero=>simp[List.take_append,he]
  | succ i=>
   have:=ih i (by simpa using hi)
   simp only[List.flatMap_cons,List.getElem_cons_succ]
   rw[←this,List.drop_append,show (enc a).drop ((i+1)*s)=[] from List.drop_eq_nil_of_le (by rw[he,Nat.succ_mul]; omega),he,show (i+1)*s-s=i*s by rw[Nat.succ_mul]; omega]
   rfl
theorem Sl.elem {h:Heap} {v:Value} {L:List α} (hs:Sl enc h v L) (he:∀a:α,(enc a).length=s) (i:Nat) (hi:i<L.length) :
  ∃b o cap,v=.slice (some ⟨b,o,none⟩) L.length cap∧b<h.nx∧Has (h.bl.get b) (o+i*s) (enc L[i]):=by
 obtain ⟨x,cap,h1,h2⟩:=hs
 obtain ⟨b,o,e1,e2,e3⟩:=h2 (by intro e; rw[e] at hi; simp at hi)
 subst e1
 refine ⟨b,o,cap,h1,e2,?_⟩
 have hle:i*s+s≤(L.flatMap enc).length:=by
  rw[aT he,←Nat.succ_mul]; exact Nat.mul_le_mul_right _ hi
 have:=e3.sub (i*s) s hle
 rwa [A6 he L i hi] at this
theorem Sl.len {h:Heap} {v:Value} {L:List α} (hs:Sl enc h v L) (κ:Value→Heap→β) (h':Heap):bh fl v h' κ=κ (.int .i64 (L.length:Int)) h':=by
 obtain ⟨x,cap,rfl,_⟩:=hs; rfl
theorem Sl.at {h:Heap} {v:Value} {L:List α} (hs:Sl enc h v L) (he:∀a:α,(enc a).length=s) (i:Nat) (hi:i<L.length) :
  ∃b o,b<h.nx∧Has (h.bl.get b) o (enc L[i])∧∀(β:Type) (fl:β) (h':Heap) (κ:Value→Heap→β),an fl s v (.int .i64 (i:Int)) h' κ=κ (.pointer (some ⟨b,o,none⟩)) h':=by
 obtain ⟨b,o,cap,rfl,h1,h2⟩:=hs.elem he i hi
 exact ⟨b,o+i*s,h1,h2,fun β fl h' κ=>bA s b o _ cap i h' κ hi⟩
theorem Sl.ld {h:Heap} {v:Value} {L:List α} (hs:Sl enc h v L) (he:∀a:α,(enc a).length=s) (i:Nat) {p:α} (hp:L[i]? = some p) :
  ∃b o,b<h.nx∧(∀(β:Type) (fl:β) (h':Heap) (κ:Value→Heap→β),an fl s v (.int .i64 (i:Int)) h' κ=κ (.pointer (some ⟨b,o,none⟩)) h')∧
   (∀(β:Type) (fl:β) (κ:List Value→β),vm fl (h.bl.get b) o s κ=κ (enc p))∧Has (h.bl.get b) o (enc p):=by
 obtain ⟨hi,rfl⟩:=List.getElem?_eq_some_iff.1 hp
 obtain ⟨b,o,h1,h2,h3⟩:=hs.at he i hi
 exact ⟨b,o,h1,h3,fun β fl κ=>jG h2 s κ (he _).symm,h2⟩
theorem Sl.first {h:Heap} {v:Value} {L:List α} (hs:Sl enc h v L) (he:∀a:α,(enc a).length=s) (κ:List Value→β):fQ fl h s L.length v κ=κ (L.flatMap enc):=by
 by_cases hn:L=[]
 ·subst hn; rw[jQ _ _ _ _ _ (by simp)]; rfl
 ·obtain ⟨x,cap,rfl,h2⟩:=hs
  obtain ⟨b,o,rfl,e2,e3⟩:=h2 hn
  exact nM e3 _ _ _ _ _ (aT he L).symm
theorem Sl.new {h:Heap} {b:Nat} {L:List α} {e:TypeId} {op:Bool} (hb:b<h.nx) (hg:h.bl.get b=some (af (L.flatMap enc) e op)) (cap:Nat):Sl enc h (.slice (some ⟨b,0,none⟩) L.length cap) L:=
 ⟨_,cap,rfl,fun _=>⟨b,0,rfl,hb,by rw[hg]; exact Has.all⟩⟩
variable (enc)
def cU (a:Heap) (e:TypeId) (h:Heap) (v:Value) (L:List α):Prop:=
 (L=[]∧(v=.slice none 0 0∨∃b o,v=.slice (some ⟨b,o,none⟩) 0 0))∨∃b,v=.slice (some ⟨b,0,none⟩) L.length aN∧a.nx≤b∧b<h.nx∧h.lo≤b∧h.bl.get b=some (af (L.flatMap enc) e true)
variable {enc}
theorem cU.sl {a h:Heap} {e:TypeId} {v:Value} {L:List α} (ho:cU enc a e h v L):Sl enc h v L:=by
 rcases ho with ⟨rfl,rfl | ⟨b,o,rfl⟩⟩ | ⟨b,rfl,h1,h2,h3,h4⟩
 ·exact Sl.nil _ _ _
 ·exact Sl.nil _ _ _
 ·exact Sl.new h2 h4 _
theorem cU.le {a h h':Heap} {e:TypeId} {v:Value} {L:List α} (ho:cU enc a e h v L) (hl:Le h h'):cU enc a e h' v L:=by
 rcases ho with ho | ⟨b,h0,h1,h2,h3,h4⟩
 ·exact .inl ho
 ·exact .inr ⟨b,h0,h1,Nat.lt_of_lt_of_le h2 hl.nx,by rw[hl.lo]; exact h3,by rw[hl.get b h2]; exact h4⟩
theorem append_nil {h:Heap} {e:TypeId} {z:List Value} {v x:Value} (hx:Sl enc h x ([]:List α)) (hv:∃b n c,v=.slice b n c) (κ:Value→Heap→β):bB fl e s z false v x h κ=κ v h:=by
 obtain ⟨b,n,c,rfl⟩:=hv
 obtain ⟨y,cap,rfl,_⟩:=hx
 simp only[bB,kS,List.length_nil]
 rw[jQ _ _ _ _ _ (by simp)]
set_option maxRecDepth 20000 in
theorem FU {a h:Heap} {e:TypeId} {z:List Value} {v x:Value} {L M:List α} (he:∀a:α,(enc a).length=s) (hone:∀a:α,(enc a).all ef=true) (hs0:0<s) (hs1:s≤100) (ho:cU enc a e h v L) (hx:Sl enc h x M)
  (hle:Le a h) (hb:L.length+M.length≤1000000) (hal:h.lo≤h.nx) (κ:KQ)
  (hk:∀v' h',cU enc a e h' v' (L++M)→Le a h'→h'.nx≤h.nx+1→h.nx≤h'.nx→κ v' h'):bB False e s z false v x h κ:=by
 by_cases hM:M=[]
 ·subst hM
  rw[append_nil hx (by rcases ho with ⟨rfl,rfl | ⟨b,o,rfl⟩⟩ | ⟨b,rfl,_⟩<;>exact ⟨_,_,_,rfl⟩)]
  exact hk v h (by simpa using ho) hle (Nat.le_succ _) (Nat.le_refl _)
 ·obtain ⟨m,hm⟩:∃m,M.length=m+1:=⟨M.length-1,by have:=List.length_pos_iff.2 hM; omega⟩
  have hfl:=aT (enc:=enc) he
  have gR:=hx.first (β:=Prop) (fl:=False) he
  obtain ⟨y,cap,rfl,h2⟩:=hx
  have hml:∀K:List α,K.length≤1000000→(K.flatMap enc).length≤1000000000000:=fun K hK=>by
   rw[hfl]
   have:=Nat.mul_le_mul hK hs1
   omega
  have fresh:∀(hh:Heap) (ws:List Value),ws=(L++M).flatMap enc→Le a hh→hh.nx=h.nx→hh.lo=h.lo→ej False ws e true hh fun b h'=>κ (.slice (some ⟨b,0,none⟩) (L.length+M.length) aN) h':=by
   intro hh ws hw SC hnx hlo
   subst hw
   unfold ej
   rw[kJ _ _ _ _ (hml _ (by simp; omega)),dO]
   refine hk _ _ (.inr ⟨hh.nx,by simp,SC.nx,Nat.lt_succ_self _,by show hh.lo≤_; omega,T.aa _ _ _⟩) (SC.new _) (by show hh.nx+1≤_; omega) (by show h.nx≤hh.nx+1; omega)
  rcases ho with ⟨rfl,hv⟩ | ⟨b,rfl,h3,h4,h5,h6⟩
  ·have hF:=fresh h (M.flatMap enc) (by simp) hle rfl rfl
   simp only[List.length_nil,Nat.zero_add] at hF
   rcases hv with rfl | ⟨b,o,rfl⟩
   ·unfold bB kS
    simp only
    rw[gR]
    simp only[hm,bR]
    rw[show Nat.ble (Nat.add 0 (m+1)) 1000000000=true from Nat.ble_eq_true_of_le (by show 0+(m+1)≤_; omega)]
    rw[hm] at hF
    have e1:Nat.add 0 (m+1)=m+1:=by show 0+(m+1)=_; omega
    rw[e1]
    exact hF
   ·unfold bB kS
    simp only
    rw[gR]
    simp only[hm,bR]
    have e1:Nat.add 0 (m+1)=m+1:=by show 0+(m+1)=_; omega
    rw[e1,show Nat.ble (m+1) 1000000000=true from Nat.ble_eq_true_of_le (by omega)]
    rw[hm] at hF
    show fQ False h s 0 _ _
    rw[jQ _ _ _ _ _ (by simp)]
    exact hF
  ·unfold bB kS
   simp only
   rw[gR]
   simp only[hm,bR]
   have e1:Nat.add L.length (m+1)=L.length+(m+1):=rfl
   rw[e1,show Nat.ble (L.length+(m+1)) 1000000000=true from Nat.ble_eq_true_of_le (by omega)]
   have e2:Nat.beq aN fP=false:=by decide
   have e3:Nat.beq aN aN=true:=Nat.beq_refl _
   simp only[e2,e3,h6]
   have e4:Nat.ble (Nat.add 0 (Nat.mul (L.length+(m+1)) s)) (L.flatMap enc).length=false:=by
    rw[hfl]
    cases SD:Nat.ble (Nat.add 0 (Nat.mul (L.length+(m+1)) s)) (L.length*s) with
    | false=>rfl
    | true=>
     have h7:0+(L.length+(m+1))*s≤L.length*s:=Nat.le_of_ble_eq_true SD
     rw[Nat.add_mul,Nat.succ_mul] at h7
     omega
   have e5:(M.flatMap enc).all ef=true:=by
    rw[List.all_flatMap]; simp only[List.all_eq_true]; intro x _; exact List.all_eq_true.1 (hone x)
   simp only[af,Nat.beq_refl,e4,e5,Bool.and_self]
   have hh:Has (h.bl.get b) 0 (L.flatMap enc):=by rw[h6]; exact Has.all
   rw[nM hh s L.length _ _ _ (hfl L).symm,bW _ _ _ _ h5]
   have hF:=fresh ⟨h.nx,h.bl.bf b (.dead (L.flatMap enc).length e),h.lo⟩ (L.flatMap enc++M.flatMap enc) (by simp) (hle.set h3 _) rfl rfl
   rw[hm] at hF
   exact hF
end
end Go.Vai
namespace Go.Vai
open Go
theorem z7 (zs:List Value):aY zs 1=zs:=by simp[aY]
theorem uI (w:Bool):ah undef w=false:=by cases w<;>rfl
theorem Mz (a:Value) (l:List Value):slot (a::l) 0=a:=id rfl
theorem MA (a:Value) (l:List Value) (n:Nat):slot (a::l) (n+1)=slot l n:=id rfl
theorem qi (l:List Value):(Value.cells (.agg ⟨l⟩)).toList=l:=id rfl
theorem qj (k:IntKind) (n:Int):(Value.cells (.int k n)).toList=[.int k n]:=id rfl
theorem nN (b:Bool):(Value.cells (.bool b)).toList=[.bool b]:=id rfl
theorem ql (a:Option Addr):(Value.cells (.pointer a)).toList=[.pointer a]:=id rfl
theorem me (a:Option Addr) (n c:Nat):(Value.cells (.slice a n c)).toList=[.slice a n c]:=id rfl
theorem Hv (k:IntKind) (n:Int):ef (.int k n)=true:=id rfl
theorem C8 (b:Bool):ef (.bool b)=true:=id rfl
theorem Hw (s:ByteArray):ef (.string s)=true:=id rfl
theorem Hx (a:Option Addr):ef (.pointer a)=true:=id rfl
theorem Hy (a:Option Addr) (n c:Nat):ef (.slice a n c)=true:=id rfl
theorem Hz (a:Option Nat):ef (.map a)=true:=id rfl
theorem HA (f:Fn) (a b:Array Value):ef (.func f a b)=true:=id rfl
theorem HB (t:TypeId) (v:Value):ef (.iface t v)=true:=id rfl
theorem oU (vs ws:List Value) (h:ws.length=vs.length):over vs 0 ws=ws:=by simp[over,h]
variable {β:Type} {fl:β}
theorem MB:∀(new old:List Value) (κ:List Value→β),new.length≤old.length→rN fl new old κ=κ (over old 0 new):=by
 intro new
 induction new with
 | nil=>intro old κ _; rw[CZ]; cases old<;>rfl
 | cons v new ih=>
  intro old κ h
  cases old with
  | nil=>simp at h
  | cons o old=>
   simp only[rN]
   rw[ih old _ (by simpa using h)]
   simp[over]
theorem Qm (new:List Value):∀(o:Nat) (old:List Value) (κ:List Value→β),o+new.length≤old.length→yZ fl new o old κ=κ (over old o new):=by
 intro o
 induction o with
 | zero=>
  intro old κ h
  have:yZ fl new 0 old κ=rN fl new old κ:=by cases old<;>rfl
  rw[this,MB _ _ _ (by simpa using h)]
 | succ o ih=>
  intro old κ h
  cases old with
  | nil=>simp at h
  | cons v old=>
   simp only[yZ]
   rw[ih old _ (by simp at h; omega)]
   simp[over,Nat.add_right_comm]
theorem xg (cs:List Value) (κ:List Value→β):bC fl [] [] cs κ=κ cs:=id rfl
theorem tM (off size:Nat) (ps:List (Nat × Nat)) (v:Value) (vs cs:List Value) (κ:List Value→β) (h1:v.cells.toList.length=size) (h2:off+size≤cs.length) :
  bC fl ((off,size)::ps) (v::vs) cs κ=bC fl ps vs (over cs off v.cells.toList) κ:=by
 subst h1
 show (match Nat.beq v.cells.toList.length v.cells.toList.length with | false=>fl | true=>yZ fl v.cells.toList off cs fun cs=>bC fl ps vs cs κ)=_
 rw[Nat.beq_refl]
 simp only
 rw[Qm _ _ _ _ h2]
theorem MC (size:Nat) (v:Value) (cs:List Value) (κ:List Value→β) (h1:v.cells.toList.length=size) (h2:cs.length=size):bC fl [(0,size)] [v] cs κ=κ v.cells.toList:=by
 rw[tM _ _ _ _ _ _ _ h1 (by omega),xg,oU _ _ (by omega)]
end Go.Vai

namespace Go.Vai
open Go
section
variable {β:Type} {fl:β} {P:Program} {h h':Heap} {κ:Value→Heap→β} {a a' b b' c c':Value}
@[congr] theorem Ub {op:BinOp} {t:TypeId} {cn gd:Bool} (ha:a=a') (hb:b=b'):av fl P op t cn gd a b h κ=av fl P op t cn gd a' b' h κ:=by rw[ha,hb]
@[congr] theorem XD {op:UnOp} (ha:a=a'):jJ fl op a h κ=jJ fl op a' h κ:=by rw[ha]
@[congr] theorem SE {k:IntKind} (ha:a=a'):jo fl k a h κ=jo fl k a' h κ:=by rw[ha]
@[congr] theorem SF (hc:c=c') (ha:a=a') (hb:b=b'):bt fl c a b h κ=bt fl c' a' b' h κ:=by rw[ha,hb,hc]
@[congr] theorem Uc (ha:a=a'):bE fl a h κ=bE fl a' h κ:=by rw[ha]
@[congr] theorem JP {o:Nat} (ha:a=a'):fieldAddrB fl o a h κ=fieldAddrB fl o a' h κ:=by rw[ha]
@[congr] theorem JQ {s:Nat} (ha:a=a') (hb:b=b'):an fl s a b h κ=an fl s a' b' h κ:=by rw[ha,hb]
@[congr] theorem JR {n s:Nat} (ha:a=a') (hb:b=b'):kU fl n s a b h κ=kU fl n s a' b' h κ:=by rw[ha,hb]
@[congr] theorem Qn {g:Bool} {s o:Nat} (ha:a=a'):wq fl g s o a h κ=wq fl g s o a' h κ:=by rw[ha]
@[congr] theorem Qo {g:Bool} {n s:Nat} (ha:a=a') (hb:b=b'):wu fl g n s a b h κ=wu fl g n s a' b' h κ:=by rw[ha,hb]
@[congr] theorem Qp (ha:a=a') (hb:b=b'):qU fl a b h κ=qU fl a' b' h κ:=by rw[ha,hb]
@[congr] theorem MD {i:Nat} (ha:a=a'):au fl i a h κ=au fl i a' h κ:=by rw[ha]
@[congr] theorem SG (ha:a=a'):load1 fl a h κ=load1 fl a' h κ:=by rw[ha]
@[congr] theorem SH {s:Nat} (ha:a=a'):ax fl s a h κ=ax fl s a' h κ:=by rw[ha]
@[congr] theorem Qq {s:Nat} (ha:a=a') (hb:b=b'):aF fl s a b h κ=aF fl s a' b' h κ:=by rw[ha,hb]
@[congr] theorem XE {o o':Option bU} {i:Nat} {k:Value→β} (ho:o=o'):qM fl o i k=qM fl o' i k:=by rw[ho]
@[congr] theorem XG {o o':Option bU} {i s:Nat} {k:List Value→β} (ho:o=o'):vm fl o i s k=vm fl o' i s k:=by rw[ho]
@[congr] theorem XH {o o':Option bU} {s i j:Nat} {ws SI:List Value} {k:Heap→β} (ho:o=o') (hw:ws=SI) (hh:h=h'):Qk fl o s i j ws h k=Qk fl o' s i j SI h' k:=by rw[ho,hw,hh]
@[congr] theorem Ud {o o':Option Value} {k:Value→β} (ho:o=o'):FQ fl o k=FQ fl o' k:=by rw[ho]
@[congr] theorem ME {o:bU} {k:Nat→Heap→β} (hh:h=h'):ai fl o h k=ai fl o h' k:=by rw[hh]
@[congr] theorem MF {i:Nat} {o:bU} {k:Heap→β} (hh:h=h'):setBlock fl i o h k=setBlock fl i o h' k:=by rw[hh]
@[congr] theorem Qr {ws SI:List Value} {e:TypeId} {g:Bool} {k:bU→β} (hw:ws=SI):ay fl ws e g k=ay fl SI e g k:=by rw[hw]
@[congr] theorem MG {ws SI:List Value} {e:TypeId} {g:Bool} {k:Nat→Heap→β} (hw:ws=SI) (hh:h=h'):ej fl ws e g h k=ej fl SI e g h' k:=by rw[hw,hh]
@[congr] theorem SJ {ps:List (Nat × Nat)} {vs vs' cs cs':List Value} {k:List Value→β} (hv:vs=vs') (hc:cs=cs'):bC fl ps vs cs k=bC fl ps vs' cs' k:=by rw[hv,hc]
@[congr] theorem Qs {e s:Nat} {l u m l' u' m':Option Value} (ha:a=a') (hl:l=l') (hu:u=u') (hm:m=m'):sliceB fl e s a l u m h κ=sliceB fl e s a' l' u' m' h κ:=by rw[ha,hl,hu,hm]
@[congr] theorem Qt {l u m l' u' m':Option Value} (ha:a=a') (hl:l=l') (hu:u=u') (hm:m=m'):wo fl a l u m h κ=wo fl a' l' u' m' h κ:=by rw[ha,hl,hu,hm]
@[congr] theorem Py {e s:Nat} {z:List Value} {g:Bool} (ha:a=a') (hb:b=b') (hh:h=h'):bB fl e s z g a b h κ=bB fl e s z g a' b' h' κ:=by rw[ha,hb,hh]
@[congr] theorem SL {s:Nat} (ha:a=a') (hb:b=b'):Cn fl s a b h κ=Cn fl s a' b' h κ:=by rw[ha,hb]
@[congr] theorem Qu {z:List Value} (ha:a=a'):j8 fl z a h κ=j8 fl z a' h κ:=by rw[ha]
@[congr] theorem Qv (ha:a=a'):bh fl a h κ=bh fl a' h κ:=by rw[ha]
@[congr] theorem Qw (ha:a=a'):oC fl a h κ=oC fl a' h κ:=by rw[ha]
@[congr] theorem Qx (ha:a=a'):kT fl a h κ=kT fl a' h κ:=by rw[ha]
@[congr] theorem Pz {t:TypeId} {z:Value} {g:Bool} (ha:a=a') (hb:b=b'):eo fl P t z g a b h κ=eo fl P t z g a' b' h κ:=by rw[ha,hb]
@[congr] theorem JS {t:TypeId} (ha:a=a') (hb:b=b') (hc:c=c'):dU fl P t a b c h κ=dU fl P t a' b' c' h κ:=by rw[ha,hb,hc]
@[congr] theorem PA {t:TypeId} (ha:a=a') (hb:b=b'):lU fl P t a b h κ=lU fl P t a' b' h κ:=by rw[ha,hb]
@[congr] theorem Qy (ha:a=a'):nG fl a h κ=nG fl a' h κ:=by rw[ha]
@[congr] theorem SM {f:β→β→β} (ha:a=a'):qD fl f a h κ=qD fl f a' h κ:=by rw[ha]
@[congr] theorem Qz (ha:a=a'):nH fl a h κ=nH fl a' h κ:=by rw[ha]
@[congr] theorem HD {t:TypeId} {z:Value} {g:Bool} (ha:a=a'):ep fl t z g a h κ=ep fl t z g a' h κ:=by rw[ha]
@[congr] theorem Ue (ha:a=a') (hb:b=b'):LG fl a b h κ=LG fl a' b' h κ:=by rw[ha,hb]
@[congr] theorem Uf (ha:a=a') (hb:b=b'):LH fl a b h κ=LH fl a' b' h κ:=by rw[ha,hb]
end
section
variable {P:Program} {h h':Heap} {κ:Value→Heap→Prop}
@[congr] theorem XJ {o o':Option Value} (ho:o=o'):aI o h κ=aI o' h κ:=by rw[ho]
@[congr] theorem XK {o o':Option (bU × (Nat→Value))} (ho:o=o'):T7 o h κ=T7 o' h κ:=by rw[ho]
@[congr] theorem QA {b b':Bool} {f:(Value→Heap→Prop)→Prop} (hb:b=b'):ag b f h κ=ag b' f h κ:=by rw[hb]
@[congr] theorem SN {b b':Bool} {p:Prop} (hb:b=b'):dI b p=dI b' p:=by rw[hb]
@[congr] theorem SO {v v':Value} {A B:Prop} (hv:v=v'):aD v A B=aD v' A B:=by rw[hv]
@[congr] theorem SP {A:(List Value→Heap→Prop)→Prop} {B:List Value→Heap→Prop}:dN A B=dN A B:=rfl
@[congr] theorem SQ {l l':List Value} {body:List Value→Heap→(List Value→Heap→Prop)→Prop} (hh:h=h'):bV l h body=bV l h' body:=by rw[hh]
@[congr] theorem SR {f:FuncId} {l l':List Value} (hl:l=l') (hh:h=h'):CallW P f l h κ=CallW P f l' h' κ:=by rw[hl,hh]
@[congr] theorem SS {v v':Value} {l l':List Value} (hv:v=v') (hl:l=l') (hh:h=h'):lg P v l h κ=lg P v' l' h' κ:=by rw[hv,hl,hh]
@[congr] theorem SU {n:String} {v v':Value} {l l':List Value} (hv:v=v') (hl:l=l') (hh:h=h'):CallI P n v l h κ=CallI P n v' l' h' κ:=by rw[hv,hl,hh]
end
end Go.Vai

namespace Go.Vai
open Go Go.RowKit Go.WideShapes Go.ChangeShapes
variable {P:Program}
theorem MH {φ φ':dJ} {h h':Heap} {w w':World} (hx:Ext φ φ' h h' w w') (hro:∀b pl,φ b=some pl→b<h.lo∧∃o,h.bl.get b=some o∧o.live):Below w.heap.size w w':=by
 refine ⟨hx.os,hx.tape,hx.output,hx.size,fun B hB=>?_⟩
 by_cases he:∃b pl,φ b=some pl∧pl.B=B
 ·obtain ⟨b,pl,h1,rfl⟩:=he
  obtain ⟨h2,o,h3,h4⟩:=hro b pl h1
  exact hx.GY b o pl h2 h3 h4 h1 hB
 ·exact hx.AJ B hB fun b pl h1 h2=>he ⟨b,pl,h1,h2⟩
theorem QB {f:FuncId} {args args':List Value} {φ:dJ} {h:Heap} {w:World} (hc:CallW P f args h A5) (ha:F2 (VR φ) args args') (hr:HR P φ h w) (hro:∀b pl,φ b=some pl→b<h.lo∧∃o,h.bl.get b=some o∧o.live) :
  Calls P f args'.toArray w fun e w'=>e=.returned (.bool true)∧Below w.heap.size w w':=by
 refine Calls.mono (hc φ w args' ha hr).2 ?_
 rintro e w' ⟨φ',v,v',h',rfl,g1,g2,g3,g4⟩
 have g1:v=.bool true:=g1
 subst g1
 cases g2
 exact ⟨rfl,MH g4 hro⟩
section
variable {α:Type} {dc:α→List Value} {s:Nat}
def SV (dc:α→List Value) (w:World) (v:Value) (L:List α):Prop:=
 (L=[]∧(v=.slice none 0 0∨∃a cap,v=.slice (some a) 0 cap))∨
 ∃B o cap C e fz,v=.slice (some ⟨B,o,none⟩) L.length cap∧L.length≤cap∧cap≤maxLen∧w.heap[B]? = some (.cells C e fz)∧o+(L.flatMap dc).length≤C.size∧∀j u,(L.flatMap dc)[j]? = some u→C[o+j]? = some u
theorem C9 {n:Nat} {p:Nat→α→Prop} (h:∀i,i<n→∃x,p i x):∃L:List α,L.length=n∧∀i a,L[i]? = some a→p i a:=by
 induction n with
 | zero=>exact ⟨[],rfl,fun i a e=>by simp at e⟩
 | succ n ih=>
  obtain ⟨L,h1,h2⟩:=ih fun i hi=>h i (Nat.lt_succ_of_lt hi)
  obtain ⟨a,ha⟩:=h n (Nat.lt_succ_self n)
  refine ⟨L++[a],by simp[h1],fun i b e=>?_⟩
  rcases Nat.lt_or_ge i n with hi | hi
  ·rw[List.getElem?_append_left (by omega)] at e; exact h2 i b e
  ·have:i=n:=by
    have:=(List.getElem?_eq_some_iff.1 e).1
    simp[h1] at this; omega
   subst this
   rw[List.getElem?_append_right (by omega),h1] at e
   simp at e; subst e; exact ha
theorem A7 (he:∀a:α,(dc a).length=s) (hs:0<s):∀(L:List α) (j:Nat) (u:Value),(L.flatMap dc)[j]? = some u→∃a,L[j / s]? = some a∧(dc a)[j % s]? = some u:=by
 intro L
 induction L with
 | nil=>intro j u e; simp at e
 | cons a L ih=>
  intro j u e
  simp only[List.flatMap_cons] at e
  rcases Nat.lt_or_ge j s with hj | hj
  ·rw[List.getElem?_append_left (by rw[he]; exact hj)] at e
   rw[Nat.div_eq_of_lt hj,Nat.mod_eq_of_lt hj]
   exact ⟨a,rfl,e⟩
  ·rw[List.getElem?_append_right (by rw[he]; exact hj),he] at e
   obtain ⟨b,h1,h2⟩:=ih (j-s) u e
   refine ⟨b,?_,?_⟩
   ·rw[Nat.div_eq_sub_div hs hj]; simpa using h1
   ·rw[Nat.mod_eq_sub_mod hj]; exact h2
theorem MI {H:Type} {enc:TypeId × Value→H} {w:World} {t e:TypeId} {fuel:Nat} {v:Value} {x:DataW H × List MemPlace} (he:∀a:α,(dc a).length=s) (hs:0<s) (ht:P.underlying t=some (.slice e)) (hc:P.cellsOf e=s)
  (A8:∀(n:Nat) (cs:List Value) (d:DataW H × List MemPlace),cs.length=s→DataW.trod enc P w 0 (fun _=>true) true n e cs=some d→∃a:α,cs=dc a)
  (h:DataW.trod enc P w 0 (fun _=>true) true fuel t [v]=some x):∃L:List α,SV dc w v L:=by
 rcases Go.Deep.open_slice ht h with ⟨h1,_⟩ | ⟨a,len,cap,m,n,D,Pl,h1,hb,hl,hm,Xz,hx,hi⟩
 ·cases h1; exact ⟨[],.inl ⟨rfl,.inl rfl⟩⟩
 ·cases h1
  simp only[if_true] at Xz
  subst Xz
  by_cases hlen:len=0
  ·subst hlen; exact ⟨[],.inl ⟨rfl,.inr ⟨a,_,rfl⟩⟩⟩
  ·have hel:∀i,i<len→∃p:α,∀j u,(dc p)[j]? = some u→w.cell? (a.add (i*s+j))=some u:=by
    intro i hil
    obtain ⟨cs,h2,h3⟩:=hi i (by omega)
    rw[hc] at h2
    obtain ⟨_,h4,h5⟩:=World.cells?_some h2
    obtain ⟨p,rfl⟩:=A8 n cs _ h4 h3
    refine ⟨p,fun j u hj=>?_⟩
    have hjs:j<s:=by have:=(List.getElem?_eq_some_iff.1 hj).1; rwa [he] at this
    have:=h5 j hjs
    rw[Go.Deep.add_add] at this
    rw[this,hj]
   obtain ⟨L,hL,hp⟩:=C9 hel
   have hcell:∀j u,(L.flatMap dc)[j]? = some u→w.cell? (a.add j)=some u:=by
    intro j u hj
    obtain ⟨p,g1,g2⟩:=A7 he hs L j u hj
    have:=hp _ p g1 _ u g2
    rwa [Nat.mul_comm,Nat.div_add_mod] at this
   have hfl:=aT (enc:=dc) he L
   have hpos:0<(L.flatMap dc).length:=by rw[hfl,hL]; exact Nat.mul_pos (by omega) hs
   have h0:=hcell 0 _ (List.getElem?_eq_getElem hpos)
   have ha0:a.add 0=a:=by simp[Addr.add]
   rw[ha0] at h0
   obtain ⟨B,o,sp⟩:=a
   unfold World.cell? at h0
   split at h0<;>try contradiction
   rename_i C e' fz hC
   cases sp with
   | some q=>simp at h0
   | none=>
    refine ⟨L,.inr ⟨B,o,m,C,e',fz,by rw[hL],by omega,hm,hC,?_,?_⟩⟩
    ·have C_:=hcell ((L.flatMap dc).length-1) _ (List.getElem?_eq_getElem (by omega))
     have LQ:(⟨B,o,none⟩:Addr).add ((L.flatMap dc).length-1)=⟨B,o+((L.flatMap dc).length-1),none⟩:=by unfold Addr.add; split<;>simp_all
     rw[LQ] at C_
     simp only[World.cell?,hC] at C_
     have:=(Array.getElem?_eq_some_iff.1 C_).1
     omega
    ·intro j u hj
     have hx:=hcell j u hj
     have LQ:(⟨B,o,none⟩:Addr).add j=⟨B,o+j,none⟩:=by unfold Addr.add; split<;>simp_all
     rw[LQ] at hx
     simpa[World.cell?,hC] using hx
def uJ:Heap:=⟨0,.nil,0⟩
def YJ:dJ:=fun _=>none
theorem MJ (w:World):HR P YJ uJ w:=HR.start w
end
section
variable {H:Type} {enc:TypeId × Value→H}
theorem post_of_law {f:Func} {s:ChangeSpec} {apart fresh handsOn again:Bool} {W W':World} {args:Array Value} {v:Value} {ds gs:List (DataW H)} {before pa pv:List MemPlace}
  (hW:DataW.Whole enc P f.params.toList s.vars apart W args.toList ds gs before)
  (hres:∀(b:Nat) (sp:Nat→Bool) (hd:Bool),DataW.TrodAll enc P W' b sp hd f.resultTypes.toList (v.resultList f.resultTypes.size) (s.fn H (ds++gs)).results [])
  (hargs:∀sp:Nat→Bool,(∀p∈before,sp p.block=true)→DataW.TrodAll enc P W' 0 sp true f.params.toList args.toList (s.fn H (ds++gs)).args pa)
  (hvars:∀sp:Nat→Bool,(∀p∈before,sp p.block=true)→DataW.TrodVars enc P W' sp s.vars (s.fn H (ds++gs)).vars pv)
  (hps:before=pa++pv) (hb:Below W.heap.size W W')
  (hok:∀(j:Nat) (t:TypeId) (r:Value),f.resultTypes[j]? = some t→(v.resultList f.resultTypes.size)[j]? = some r→Value.okWide P W' .any 0 t r) :
  s.post enc P f apart fresh handsOn again W args v W':=by
 have hlt:∀p∈before,p.block<W.heap.size:=fun p hp=>hW.lt p hp
 have hold:∀p∈before,(fun b=>decide (b<W.heap.size)) p.block=true:=fun p hp=>by simpa using hlt p hp
 refine ⟨ds,gs,before,[],pa,pv,hW,hres _ _ _,hargs _ hold,hvars _ hold,World.keptBut_mono (fun p hp=>⟨hp,?_⟩) (hb.frame (·∈before)),fun _=>?_⟩
 ·rw[hps,List.mem_append] at hp
  exact Or.inr hp
 ·obtain ⟨_,_,_,_,_,hz,hn⟩:=hW
  refine ⟨hok,_,_,([]++pa)++pv,⟨[]++pa,pv,trodAll_append (hargs _ (fun _ _=>rfl)) (hres _ _ _),hvars _ (fun _ _=>rfl),rfl,?_,?_⟩,?_⟩
  ·intro b off hp
   have hin:MemPlace.cell b off∈before:=by rw[hps]; simpa using hp
   rw[hb.frozen (hlt _ hin)]
   exact hz b off hin
  ·intro ha
   have:=hn ha
   rw[hps] at this
   simpa using this
  ·intro p hp _
   rw[hps]
   simpa using hp
theorem arg_stays {t:TypeId} (hl:laidOutB P=true) (hr:P.readableRec t=true) (hrow:t<P.types.size) {W W':World} {v:Value} {d:DataW H} {ps:List MemPlace}
  (h:DataW.Trod enc P W 0 (fun _=>true) true t v d ps) (hb:Below W.heap.size W W') (hlt:∀x∈ps,x.block<W.heap.size) {sp:Nat→Bool} (hsp:∀x∈ps,sp x.block=true) :
  DataW.Trod enc P W' 0 sp true t v d ps:=
 WideElems.Trod_stays hl hr hrow h (fun x hx=>hb.same (hlt x hx)) (fun x hx=>by simpa using hsp x hx)
end
end Go.Vai
namespace Go.Vai
open Go Go.RowKit
variable {P:Program}
theorem fo {f:FuncId} {args:List Value} {v:Value} (ha:args.all mP=true) (hv:mP v=true) (hc:CallW P f args uJ fun u _=>u=v) {h:Heap} {κ:Value→Heap→Prop} (hk:κ v h):CallW P f args h κ:=by
 intro φ w args' hf hr
 have:=C7 ha hf
 subst this
 obtain ⟨c1,c2⟩:=hc YJ w args' (C6 ha) (MJ w)
 refine ⟨c1,c2.mono ?_⟩
 rintro e w' ⟨φ',v1,v',h',rfl,rfl,g2,g3,g4⟩
 have hfr:∀B,B<w.heap.size→w'.heap[B]? = w.heap[B]?:=fun B hB=>g4.AJ B hB fun b pl e=>by cases e
 refine ⟨φ,v1,v',h,rfl,hk,by rw[nL hv g2]; exact A4 hv,?_,?_⟩
 ·exact ⟨fun b o pl h1 h2=>by rw[hfr _ (hr.dom b pl h2).2]; exact hr.obj b o pl h1 h2,fun b pl h1=>⟨(hr.dom b pl h1).1,Nat.lt_of_lt_of_le (hr.dom b pl h1).2 g4.size⟩,hr.keys,hr.PU,hr.inj,hr.lo⟩
 ·exact ⟨Sub.refl φ,fun b pl e e'=>(by rw[e] at e'; cases e'),Nat.le_refl _,g4.size,fun B hB _=>hfr B hB,fun _ _ _=>rfl,g4.tape,g4.os,g4.output,fun _ _=>trivial,rfl,fun _ _=>rfl,fun b o pl _ _ _ _ hB=>hfr _ hB,g4.dr⟩
theorem Da (u v:Value):gM (some u) v=ow 8 u v:=id rfl
theorem z_ (zs:List Value):aY zs 0=[]:=id rfl
theorem Aa (a:Value):aY [a] 2=[a,a]:=by simp[aY]
theorem MK (a:Value) (l:List Value) (n:Nat) (ws:List Value):over (a::l) (n+1) ws=a::over l n ws:=by simp[over,Nat.add_right_comm]
theorem ML (a w:Value) (l ws:List Value):over (a::l) 0 (w::ws)=w::over l 0 ws:=by simp[over]
theorem MM (l:List Value):over l 0 []=l:=by simp[over]
theorem Db (u:Value):reN (some u)=true:=id rfl
theorem Dc (r:Bool):FJ true r=r:=id rfl
theorem Ab (r:Bool):FJ false r=true:=id rfl
theorem jw (n:Nat):Nat.beq n n=true:=Nat.beq_refl n
theorem JT (n:Int):jI n n=true:=by rw[ff]; simp
theorem Dd (k:IntKind):jb k k=true:=by rw[fO]; simp
theorem QC (n:Nat) (k:IntKind) (a:Int):ow (n+1) (.int k a) (.int k a)=true:=by unfold ow; simp[Dd,JT]
theorem jg (k:IntKind) (a:Int):ow 8 (.int k a) (.int k a)=true:=QC 7 k a
theorem ng (a:Bool):ow 8 (.bool a) (.bool a)=true:=by unfold ow; simp
theorem nO (b o:Nat):ow 8 (.pointer (some ⟨b,o,none⟩)) (.pointer (some ⟨b,o,none⟩))=true:=by unfold ow; simp[jw]
theorem vJ (b o n c:Nat):ow 8 (.slice (some ⟨b,o,none⟩) n c) (.slice (some ⟨b,o,none⟩) n c)=true:=by unfold ow; simp[jw]
theorem A9 (n c:Nat):ow 8 (.slice none n c) (.slice none n c)=true:=by unfold ow; simp[jw]
theorem tN (n:Nat) (l:List Int):wk (ow (n+1)) (l.map (Value.int .i64)) (l.map (Value.int .i64))=true:=by
 induction l with
 | nil=>rfl
 | cons a l ih=>simp only[List.map_cons,wk,QC,ih,Bool.and_self]
theorem De (l:List Int):ow 8 (.agg ⟨l.map (.int .i64)⟩) (.agg ⟨l.map (.int .i64)⟩)=true:=by
 unfold ow; exact tN 6 l
theorem SX (a b:Int):ow 8 (.agg ⟨[.int .i64 a,.int .i64 b]⟩) (.agg ⟨[.int .i64 a,.int .i64 b]⟩)=true:=De [a,b]
theorem SY (a b c d:Int):ow 8 (.agg ⟨[.int .i64 a,.int .i64 b,.int .i64 c,.int .i64 d]⟩) (.agg ⟨[.int .i64 a,.int .i64 b,.int .i64 c,.int .i64 d]⟩)=true:=De [a,b,c,d]
end Go.Vai
namespace Go.Vai
open Go
variable {β:Type} {fl:β}
theorem xh (n:Nat) (d:Nat) (κ:Nat→β):AD fl (some (.int .i64 (n:Int))) d κ=κ n:=id rfl
theorem tO (d:Nat) (κ:Nat→β):AD fl none d κ=κ d:=id rfl
theorem xk {h:Heap} {e s b n i:Nat} {vs:List Value} (hs:0<s) (hb:h.bl.get b=some (af vs e true)) (hvs:vs.length=n*s) (hi:i<n) (κ:Value→Heap→β) :
  sliceB fl e s (.slice (some ⟨b,0,none⟩) n aN) (some (.int .i64 (i:Int))) none none h κ=κ (.slice (some ⟨b,i*s,none⟩) (n-i) aN) h:=by
 obtain ⟨s,rfl⟩:∃k,s=k+1:=⟨s-1,by omega⟩
 have hk:iG h e b=some (n*(s+1)):=by unfold iG; rw[hb]; simp only[af,jw,hvs]
 have hd:Nat.div (Nat.sub (n*(s+1)) 0) (s+1)=n:=by show (n*(s+1)-0) / (s+1)=n; rw[Nat.sub_zero,Nat.mul_div_cancel _ (by omega)]
 have e1:Nat.beq aN fP=false:=by decide
 have e2:Nat.beq aN aN=true:=Nat.beq_refl _
 have e3:Nat.ble 0 (n*(s+1))=true:=Nat.ble_eq_true_of_le (Nat.zero_le _)
 have e4:Nat.ble i n=true:=Nat.ble_eq_true_of_le (by omega)
 have e5:Nat.ble n n=true:=Nat.ble_eq_true_of_le (Nat.le_refl _)
 have e6:Nat.beq i n=false:=by
  cases hq:Nat.beq i n with
  | false=>rfl
  | true=>have:=cQ hq; omega
 unfold sliceB jD
 simp only[e1,e2,hk,e3,hd,xh,tO,e4,e5,e6,bR]
 show κ (.slice (some ⟨b,0+i*(s+1),none⟩) (n-i) aN) h=_
 rw[Nat.zero_add]
theorem r8 {h:Heap} {e s b n m i:Nat} {vs:List Value} (hs:0<s) (hb:h.bl.get b=some (af vs e true)) (hvs:vs.length=n*s) (hn:0<n) (hi:i≤n) (κ:Value→Heap→β) :
  sliceB fl e s (.slice (some ⟨b,0,none⟩) m aN) none (some (.int .i64 (i:Int))) none h κ=κ (.slice (some ⟨b,0,none⟩) i aN) h:=by
 obtain ⟨s,rfl⟩:∃k,s=k+1:=⟨s-1,by omega⟩
 have hk:iG h e b=some (n*(s+1)):=by unfold iG; rw[hb]; simp only[af,jw,hvs]
 have hd:Nat.div (Nat.sub (n*(s+1)) 0) (s+1)=n:=by show (n*(s+1)-0) / (s+1)=n; rw[Nat.sub_zero,Nat.mul_div_cancel _ (by omega)]
 have e1:Nat.beq aN fP=false:=by decide
 have e2:Nat.beq aN aN=true:=Nat.beq_refl _
 have e3:Nat.ble 0 (n*(s+1))=true:=Nat.ble_eq_true_of_le (Nat.zero_le _)
 have e4:Nat.ble 0 i=true:=Nat.ble_eq_true_of_le (Nat.zero_le _)
 have e5:Nat.ble i n=true:=Nat.ble_eq_true_of_le hi
 have e6:Nat.beq 0 n=false:=by
  cases hq:Nat.beq 0 n with
  | false=>rfl
  | true=>have:=cQ hq; omega
 unfold sliceB jD
 simp only[e1,e2,hk,e3,hd,xh,tO,e4,e5,e6,bR]
 show κ (.slice (some ⟨b,0+0*(s+1),none⟩) (i-0) aN) h=_
 rw[Nat.zero_mul,Nat.sub_zero]
theorem Df {h:Heap} {b o n c e:Nat} {op:Bool} {vs zero:List Value} (hb:h.bl.get b=some (af vs e op)) (hn:0<n) (hl:o+(aY zero n).length≤vs.length) (h1:(aY zero n).all ef=true) (hlo:h.lo≤b) (κ:Value→Heap→β) :
  j8 fl zero (.slice (some ⟨b,o,none⟩) n c) h κ=κ (.tuple #[]) ⟨h.nx,h.bl.bf b (af (over vs o (aY zero n)) e op),h.lo⟩:=by
 obtain ⟨n,rfl⟩:∃k,n=k+1:=⟨n-1,by omega⟩
 unfold j8
 simp only[hb,af]
 rw[qh _ _ _ _ _ hl h1,bW _ _ _ _ hlo,vI _ _ _ hl,jP hl]
end Go.Vai
namespace Go.Vai
open Go Go.RowKit Go.WideShapes Go.ChangeShapes
section
variable {P:Program} {α:Type} {dc:α→List Value} {s:Nat} {H:Type} {enc:TypeId × Value→H}
theorem open_sliceArg {W:World} {t e:TypeId} {v:Value} {d:DataW H} {p:List MemPlace} {base:Nat} (he:∀a:α,(dc a).length=s) (hs:0<s) (ht:P.underlying t=some (.slice e)) (hc:P.cellsOf e=s)
  (A8:∀(n:Nat) (cs:List Value) (d:DataW H × List MemPlace),cs.length=s→DataW.trod enc P W 0 (fun _=>true) true n e cs=some d→∃a:α,cs=dc a)
  (hw:Value.okWide P W .any base t v) (h:DataW.Trod enc P W 0 (fun _=>true) true t v d p):∃L:List α,SV dc W v L:=by
 obtain ⟨fuel,hf⟩:=h
 have hcs:v.cells.toList=[v]:=by
  unfold Value.okWide at hw
  rw[ht] at hw
  simp only at hw
  unfold Cell.okWide Cell.ok at hw
  rw[ht] at hw
  cases v<;>first | rfl | (simp at hw)
 rw[hcs] at hf
 exact MI he hs ht hc A8 hf
end
end Go.Vai

namespace Go.Vai
open Go
theorem SZ:(!true)=false:=id rfl
theorem S0:(!false)=true:=id rfl
theorem YK:decide True=true:=by simp
theorem YL:decide False=false:=by simp
theorem Ld0 (l:List Value):l.drop 0=l:=id rfl
theorem Lts (a:Value) (l:List Value) (n:Nat):(a::l).take (n+1)=a::l.take n:=id rfl
theorem Lt0 (l:List Value):l.take 0=[]:=id rfl
theorem Lds (a:Value) (l:List Value) (n:Nat):(a::l).drop (n+1)=l.drop n:=id rfl
theorem Lg0 (a:Value) (l:List Value):(a::l)[0]? = some a:=id rfl
theorem Lgs (a:Value) (l:List Value) (n:Nat):(a::l)[n+1]? = l[n]?:=id rfl
theorem S1 (b:Bool):(b && true)=b:=by cases b<;>rfl
theorem S2 (b:Bool):(true && b)=b:=by cases b<;>rfl
theorem S3 (b:Bool):(b && b)=b:=by cases b<;>rfl
theorem Lac (p:Value→Bool) (a:Value) (l:List Value):(a::l).all p=(p a && l.all p):=id rfl
theorem Lan (p:Value→Bool):([]:List Value).all p=true:=id rfl
theorem Llc (a:Value) (l:List Value):(a::l).length=l.length+1:=id rfl
theorem Lln:([]:List Value).length=0:=id rfl
theorem Nza (n:Nat):0+n=n:=by omega
theorem Naz (n:Nat):n+0=n:=by omega
theorem Wz2:type_of% (And.intro (And.intro (And.intro (And.intro (And.intro (And.intro @C0 @C1) (And.intro @zV (And.intro @dO @qg))) (And.intro (And.intro @Mt (And.intro @tK @Mu)) (And.intro @tL (And.intro @kJ @zU)))) (And.intro (And.intro (And.intro @C2 (And.intro @C3 @w9)) (And.intro @w_ (And.intro @uF @uI))) (And.intro (And.intro @uG (And.intro @r5 @xb)) (And.intro @uH (And.intro @Hf @Hg))))) (And.intro (And.intro (And.intro (And.intro @Hh (And.intro @Hi @Hl)) (And.intro @Ho (And.intro @Hp @Hq))) (And.intro (And.intro @Hr (And.intro @Hs @Mv)) (And.intro @Mw (And.intro @C4 @zW)))) (And.intro (And.intro (And.intro @xe (And.intro @m_ @r6)) (And.intro @Ht (And.intro @Hu @zX))) (And.intro (And.intro @zY (And.intro @zZ @C5)) (And.intro @bZ (And.intro @bL @YI)))))) (And.intro (And.intro (And.intro (And.intro (And.intro @Mx @SA) (And.intro @T.aa (And.intro @T.aj @T.w8))) (And.intro (And.intro @SZ (And.intro @S0 @YK)) (And.intro @YL (And.intro @Ld0 @Lts)))) (And.intro (And.intro (And.intro @Lt0 (And.intro @Lds @Lg0)) (And.intro @Lgs (And.intro @Nza @Naz))) (And.intro (And.intro @Mz (And.intro @MA @qi)) (And.intro @qj (And.intro @nN @ql))))) (And.intro (And.intro (And.intro (And.intro @me (And.intro @oU @MC)) (And.intro @xg (And.intro @tM @z_))) (And.intro (And.intro @z7 (And.intro @Aa @MK)) (And.intro @ML (And.intro @MM @Da)))) (And.intro (And.intro (And.intro @Db (And.intro @Dc @Ab)) (And.intro @jg (And.intro @ng @nO))) (And.intro (And.intro @vJ (And.intro @A9 @SX)) (And.intro @SY (And.intro @S1 @S2))))))):=(And.intro (And.intro (And.intro (And.intro (And.intro (And.intro @C0 @C1) (And.intro @zV (And.intro @dO @qg))) (And.intro (And.intro @Mt (And.intro @tK @Mu)) (And.intro @tL (And.intro @kJ @zU)))) (And.intro (And.intro (And.intro @C2 (And.intro @C3 @w9)) (And.intro @w_ (And.intro @uF @uI))) (And.intro (And.intro @uG (And.intro @r5 @xb)) (And.intro @uH (And.intro @Hf @Hg))))) (And.intro (And.intro (And.intro (And.intro @Hh (And.intro @Hi @Hl)) (And.intro @Ho (And.intro @Hp @Hq))) (And.intro (And.intro @Hr (And.intro @Hs @Mv)) (And.intro @Mw (And.intro @C4 @zW)))) (And.intro (And.intro (And.intro @xe (And.intro @m_ @r6)) (And.intro @Ht (And.intro @Hu @zX))) (And.intro (And.intro @zY (And.intro @zZ @C5)) (And.intro @bZ (And.intro @bL @YI)))))) (And.intro (And.intro (And.intro (And.intro (And.intro @Mx @SA) (And.intro @T.aa (And.intro @T.aj @T.w8))) (And.intro (And.intro @SZ (And.intro @S0 @YK)) (And.intro @YL (And.intro @Ld0 @Lts)))) (And.intro (And.intro (And.intro @Lt0 (And.intro @Lds @Lg0)) (And.intro @Lgs (And.intro @Nza @Naz))) (And.intro (And.intro @Mz (And.intro @MA @qi)) (And.intro @qj (And.intro @nN @ql))))) (And.intro (And.intro (And.intro (And.intro @me (And.intro @oU @MC)) (And.intro @xg (And.intro @tM @z_))) (And.intro (And.intro @z7 (And.intro @Aa @MK)) (And.intro @ML (And.intro @MM @Da)))) (And.intro (And.intro (And.intro @Db (And.intro @Dc @Ab)) (And.intro @jg (And.intro @ng @nO))) (And.intro (And.intro @vJ (And.intro @A9 @SX)) (And.intro @SY (And.intro @S1 @S2)))))))
theorem Wx:type_of% (And.intro (And.intro (And.intro @Lac @Lan) (And.intro @Hv (And.intro @C8 @Hw))) (And.intro (And.intro @Hx (And.intro @Hy @Hz)) (And.intro @HA (And.intro @HB @S3)))):=(And.intro (And.intro (And.intro @Lac @Lan) (And.intro @Hv (And.intro @C8 @Hw))) (And.intro (And.intro @Hx (And.intro @Hy @Hz)) (And.intro @HA (And.intro @HB @S3))))
theorem Wy:type_of% (And.intro (And.intro @qi (And.intro @qj @nN)) (And.intro (And.intro @ql @me) (And.intro @Llc @Lln))):=(And.intro (And.intro @qi (And.intro @qj @nN)) (And.intro (And.intro @ql @me) (And.intro @Llc @Lln)))
theorem Wv:type_of% (And.intro @Llc @Lln):=(And.intro @Llc @Lln)
theorem Wz0 (b:Nat):ptrTo b=.pointer (some ⟨b,0,none⟩):=id rfl
theorem Wz1 (n c b:Nat):sliceTo n c b=.slice (some ⟨b,0,none⟩) n c:=id rfl
theorem Wz:type_of% (And.intro (And.intro @Wz0 @Wz1) Wz2):=And.intro (And.intro @Wz0 @Wz1) Wz2
theorem Wd:type_of% (And.intro Wx Wy):=And.intro Wx Wy
end Go.Vai

namespace Go.Vai
open Go Go.RowKit
section
variable {α:Type} {s:Nat} {enc:α→List Value}
def Cut (e s:Nat) (h:Heap) (v:Value) (k:Nat):Prop:=
 (k=0∧v=.slice none 0 0)∨(k=0∧∃b o,v=.slice (some ⟨b,o,none⟩) 0 fP)∨
 (∃b o cap,v=.slice (some ⟨b,o,none⟩) k cap∧k≤cap∧cap≤9223372036854775807)∨
 ∃b vs n,v=.slice (some ⟨b,0,none⟩) k aN∧b<h.nx∧h.bl.get b=some (af vs e true)∧vs.length=n*s∧k≤n
theorem Cut.le {e s:Nat} {h h':Heap} {v:Value} {k:Nat} (c:Cut e s h v k) (l:Le h h'):Cut e s h' v k:=by
 rcases c with c | c | c | ⟨b,vs,n,c1,c2,c3,c4,c5⟩
 ·exact .inl c
 ·exact .inr (.inl c)
 ·exact .inr (.inr (.inl c))
 ·exact .inr (.inr (.inr ⟨b,vs,n,c1,Nat.lt_of_lt_of_le c2 l.nx,(l.get b c2).trans c3,c4,c5⟩))
theorem Cut.own {a h:Heap} {e:TypeId} {v:Value} {L:List α} (he:∀a:α,(enc a).length=s) (ho:cU enc a e h v L):Cut e s h v L.length:=by
 rcases ho with ⟨rfl,rfl | ⟨b,o,rfl⟩⟩ | ⟨b,rfl,h1,h2,h3,h4⟩
 ·exact .inl ⟨rfl,rfl⟩
 ·exact .inr (.inr (.inl ⟨b,o,0,rfl,Nat.le_refl _,by omega⟩))
 ·exact .inr (.inr (.inr ⟨b,_,L.length,rfl,h2,h4,aT he L,Nat.le_refl _⟩))
theorem xl (he:∀a:α,(enc a).length=s) (L:List α):∀i,(L.flatMap enc).take (i*s)=(L.take i).flatMap enc:=by
 induction L with
 | nil=>intro i; simp
 | cons a L ih=>
  intro i
  cases i with
  | zero=>simp
  | succ i=>
   simp only[List.flatMap_cons,List.take_succ_cons]
   rw[List.take_append,←ih i,he,List.take_of_length_le (by rw[he,Nat.succ_mul]; omega),show (i+1)*s-s=i*s by rw[Nat.succ_mul]; omega]
end
end Go.Vai

namespace Go.Vai
open Go Go.RowKit
open Classical
variable {P:Program}
def HF (w:World) (B:Nat):Prop:=∃C e fz,w.heap[B]? = some (.cells C e fz)
def r_ (w:World) (v:Value):Prop:=
 lS v=true∨v=.slice none 0 0∨(∃a c,v=.slice (some a) 0 c)∨∃B o n c,v=.slice (some ⟨B,o,none⟩) n c∧n≤c∧c≤maxLen∧HF w B
def A_:Value→Value
 | .slice (some a) 0 c=>.slice (some ⟨0,0,none⟩) 0 fP
 | v=>v
def goodA (w:World):Value→Prop
 | .agg cs=>∀v∈cs.toList,r_ w v
 | v=>r_ w v
def absA:Value→Value
 | .agg cs=>.agg ⟨cs.toList.map A_⟩
 | v=>A_ v
theorem JU {v:Value} (h:lS v=true):A_ v=v:=by cases v<;>first | rfl | cases h
noncomputable def zk (w:World):dJ:=fun b=>if HF w b then some ⟨b,0,0⟩ else none
noncomputable def Ba (w:World) (v:Value) (t:T Value) (o:Nat):T Value:=if r_ w v then t.bf o (A_ v) else t
theorem HG (w:World) (v:Value) (t:T Value) {o i:Nat} (h:o≠i):(Ba w v t o).get i=t.get i:=by
 unfold Ba
 by_cases hg:r_ w v
 ·rw[if_pos hg]; exact T.aj _ _ h
 ·rw[if_neg hg]
theorem JV {w:World} {v:Value} (hg:r_ w v) (t:T Value) (o:Nat):(Ba w v t o).get o=some (A_ v):=by
 unfold Ba; rw[if_pos hg]; exact T.aa _ _ _
theorem MN {w:World} {v:Value} (hg:¬r_ w v) (t:T Value) (o:Nat):(Ba w v t o)=t:=by
 unfold Ba; rw[if_neg hg]
noncomputable def oV (w:World):List Value→T Value→Nat→T Value
 | [],t,_=>t
 | v::vs,t,o=>oV w vs (Ba w v t o) (o+1)
theorem JW (w:World) (vs:List Value):∀(t:T Value) (o i:Nat),i<o→(oV w vs t o).get i=t.get i:=by
 induction vs with
 | nil=>intro t o i _; rfl
 | cons v vs ih=>
  intro t o i h
  show (oV w vs (Ba w v t o) (o+1)).get i=_
  rw[ih _ _ _ (by omega),HG _ _ _ (by omega)]
theorem FV (w:World) (vs:List Value):∀(t:T Value) (o i:Nat) (u:Value),(∀j,o≤j→t.get j=none)→(oV w vs t o).get (o+i)=some u→∃v,vs[i]? = some v∧r_ w v∧u=A_ v:=by
 induction vs with
 | nil=>intro t o i u ht h; rw[show (oV w [] t o)=t from rfl,ht _ (by omega)] at h; cases h
 | cons x vs ih=>
  intro t o i u ht h
  have h:(oV w vs (Ba w x t o) (o+1)).get (o+i)=some u:=h
  cases i with
  | zero=>
   rw[JW _ _ _ _ _ (by omega)] at h
   by_cases hg:r_ w x
   ·rw[Nat.add_zero,JV hg] at h; cases h; exact ⟨x,rfl,hg,rfl⟩
   ·rw[MN hg,ht _ (by omega)] at h; cases h
  | succ i=>
   rw[show o+(i+1)=(o+1)+i by omega] at h
   obtain ⟨v,h1,h2,h3⟩:=ih _ _ _ _ (fun j hj=>by rw[HG _ _ _ (by omega)]; exact ht j (by omega)) h
   exact ⟨v,by simpa using h1,h2,h3⟩
noncomputable def zl (w:World):Nat→T bU
 | 0=>.nil
 | n+1=>match w.heap[n]? with
  | some (.cells C e _)=>(zl w n).bf n (.ro C.size (oV w C.toList .nil 0) e)
  | _=>zl w n
theorem Dg (w:World):∀n b,(zl w n).get b=if b<n then (match w.heap[b]? with | some (.cells C e _)=>some (.ro C.size (oV w C.toList .nil 0) e) | _=>none) else none:=by
 intro n
 induction n with
 | zero=>intro b; rw[if_neg (by omega)]; exact T.get_nil _
 | succ n ih=>
  intro b
  unfold zl
  by_cases h0:n=b
  ·subst h0
   rw[if_pos (by omega)]
   split
   ·rw[T.aa]
   ·rw[ih,if_neg (by omega)]
  ·have:(match w.heap[n]? with | some (.cells C e _)=>(zl w n).bf n (.ro C.size (oV w C.toList .nil 0) e) | _=>zl w n).get b=(zl w n).get b:=by
    split
    ·exact T.aj _ _ h0
    ·rfl
   rw[this,ih]
   by_cases h1:b<n
   ·rw[if_pos h1,if_pos (by omega)]
   ·rw[if_neg h1,if_neg (by omega)]
noncomputable def memH (w:World):Heap:=⟨w.heap.size,zl w w.heap.size,w.heap.size⟩
theorem MO {w:World} {B:Nat} {C:Array Value} {e:TypeId} {fz:Nat × Nat} (h:w.heap[B]? = some (.cells C e fz)):(memH w).bl.get B=some (.ro C.size (oV w C.toList .nil 0) e):=by
 have hB:B<w.heap.size:=(Array.getElem?_eq_some_iff.1 h).1
 show (zl w _).get B=_
 rw[Dg,if_pos hB,h]
theorem tP {w:World} {b:Nat} {o:bU} (h:(memH w).bl.get b=some o):∃C e fz,w.heap[b]? = some (.cells C e fz)∧o=.ro C.size (oV w C.toList .nil 0) e:=by
 have h:(zl w _).get b=some o:=h
 rw[Dg] at h
 split at h
 ·split at h
  ·cases h; exact ⟨_,_,_,by assumption,rfl⟩
  ·cases h
 ·cases h
theorem Bb {w:World} {v:Value} (h:r_ w v):VR (zk w) (A_ v) v:=by
 rcases h with h | rfl | ⟨a,c,rfl⟩ | ⟨B,o,n,c,rfl,hn,hc,hB⟩
 ·rw[JU h]; exact VR.mP h
 ·exact VR.fm (Nat.le_refl _)
 ·exact VR.cO _ _ _
 ·cases n with
  | zero=>exact VR.cO _ _ _
  | succ n=>
   have hp:zk w B=some ⟨B,0,0⟩:=if_pos hB
   exact VR.slice hp hn (by unfold maxLen at hc; unfold aN; omega)
theorem QD {w:World} {v:Value} (h:goodA w v):VR (zk w) (absA v) v:=by
 cases v with
 | agg cs=>
  refine VR.qX ?_
  show F2 (VR (zk w)) (cs.toList.map A_) cs.toList
  have:F2 (VR (zk w)) (cs.toList.map A_) (cs.toList.map id):=F2.map cs.toList fun x hx=>Bb (h x hx)
  rwa [List.map_id] at this
 | _=>exact Bb h
theorem YM (w:World):HR P (zk w) (memH w) w:=by
 have dom:∀b pl,zk w b=some pl→pl=⟨b,0,0⟩∧HF w b:=by
  intro b pl h
  unfold zk at h
  split at h
  ·cases h; exact ⟨rfl,by assumption⟩
  ·cases h
 have lt:∀b,HF w b→b<w.heap.size:=fun b ⟨C,e,fz,h⟩=>(Array.getElem?_eq_some_iff.1 h).1
 refine ⟨?_,?_,?_,Nat.lt_succ_self _,?_,Nat.le_refl _⟩
 ·intro b o pl h1 h2
  obtain ⟨rfl,_⟩:=dom b pl h2
  obtain ⟨C,e,fz,h3,rfl⟩:=tP h1
  rw[h3]
  refine ⟨rfl,Nat.le_refl _,fun i v hv hi=>?_⟩
  obtain ⟨u,h4,h5,rfl⟩:=FV w C.toList .nil 0 i v (fun j _=>T.get_nil _) (by rw[Nat.zero_add]; exact hv)
  rw[Array.getElem?_toList] at h4
  exact ⟨u,h4,Bb h5⟩
 ·intro b pl h
  obtain ⟨rfl,h2⟩:=dom b pl h
  exact ⟨lt b h2,lt b h2⟩
 ·intro b o _ h
  obtain ⟨C,e,fz,h3,_⟩:=tP h
  exact lt b ⟨C,e,fz,h3⟩
 ·intro b b' o o' pl lN _ _ _ _ h1 h2 h3
  obtain ⟨rfl,_⟩:=dom b pl h1
  obtain ⟨rfl,_⟩:=dom b' lN h2
  exact h3
theorem law_mem {f:FuncId} {args:List Value} {w:World} (hg:∀v∈args,goodA w v) (hc:(memH w).lo≤(memH w).nx→CallW P f (args.map absA) (memH w) A5) :
  Calls P f args.toArray w fun e w'=>e=.returned (.bool true)∧Below w.heap.size w w':=by
 have ha:F2 (VR (zk w)) (args.map absA) (args.map id):=F2.map args fun x hx=>QD (hg x hx)
 rw[List.map_id] at ha
 refine QB (hc (Nat.le_refl _)) ha (YM w) ?_
 intro b pl h
 unfold zk at h
 split at h
 ·rename_i hm
  obtain ⟨C,e,fz,h3⟩:=hm
  exact ⟨(Array.getElem?_eq_some_iff.1 h3).1,_,MO h3,trivial⟩
 ·cases h
section
variable {α:Type} {dc:α→List Value} {s:Nat}
end
end Go.Vai

namespace Go.Vai
open Go Go.RowKit Go.WideShapes Go.ChangeShapes
variable {P:Program}
inductive CK where
 | i (k:IntKind)
 | b
 | s
 | sl (t:TypeId)
def Bc (P:Program) (fl:TypeId→Option (List CK)):List Field→Nat→Option (List CK)
 | [],_=>some []
 | f::fs,off=>match fl f.type with
  | some l=>match Nat.beq f.offset off,Nat.beq (P.cellsOf f.type) l.length with
   | true,true=>match Bc P fl fs (off+l.length) with
    | some r=>some (l++r)
    | none=>none
   | _,_=>none
  | none=>none
def flatK (P:Program):Nat→TypeId→Option (List CK)
 | 0,_=>none
 | n+1,t=>match P.underlying t with
  | some (.int k)=>some [.i k]
  | some .bool=>some [.b]
  | some .string=>some [.s]
  | some (.slice _)=>some [.sl t]
  | some (.struct fs)=>match Bc P (flatK P n) fs.toList 0 with
   | some l=>match Nat.beq (P.cellsOf t) l.length with
    | true=>some l
    | false=>none
   | none=>none
  | _=>none
section
variable {H:Type} {enc:TypeId × Value→H} {w:World}
def Ug (enc:TypeId × Value→H) (P:Program) (w:World) (k:CK) (v:Value):Prop:=match k with
 | .i kk=>∃n,v=.int kk n∧(Lit.int kk n).wf=true
 | .b=>∃b,v=.bool b
 | .s=>∃s,v=.string s
 | .sl t=>∃fuel x,DataW.trod enc P w 0 (fun _=>true) true fuel t [v]=some x
theorem QE {fl:TypeId→Option (List CK)} (ih:∀t ks,fl t=some ks→∀fuel cs x,DataW.trod enc P w 0 (fun _=>true) true fuel t cs=some x→F2 (Ug enc P w) ks cs) (m:Nat) (cs:List Value) :
  ∀(fs:List Field) (off:Nat) (r:List CK),Bc P fl fs off=some r→(∀f∈fs,∃x,DataW.trod enc P w 0 (fun _=>true) true m f.type ((cs.drop f.offset).take (P.cellsOf f.type))=some x)→
   off+r.length=cs.length→F2 (Ug enc P w) r (cs.drop off):=by
 intro fs
 induction fs with
 | nil=>
  intro off r h _ hl
  cases h
  rw[List.drop_of_length_le (by simp at hl; omega)]
  exact .nil
 | cons f fs ihf=>
  intro off r h hf hl
  unfold Bc at h
  split at h<;>try contradiction
  rename_i l vo
  split at h<;>try contradiction
  rename_i h1 h2
  split at h<;>try contradiction
  rename_i r' hr
  cases h
  have h1:=cQ h1
  have h2:=cQ h2
  obtain ⟨x,hx⟩:=hf f (.head _)
  have k1:=ih _ _ vo _ _ _ hx
  rw[h1,h2] at k1
  rw[List.length_append] at hl
  have k2:=ihf (off+l.length) r' hr (fun g hg=>hf g (.tail _ hg)) (by omega)
  have e:cs.drop off=(cs.drop off).take l.length++cs.drop (off+l.length):=by
   rw[←List.drop_drop,List.take_append_drop]
  rw[e]
  exact k1.append k2
theorem Dh:∀(n:Nat) (t:TypeId) (ks:List CK),flatK P n t=some ks→∀fuel cs x,DataW.trod enc P w 0 (fun _=>true) true fuel t cs=some x→F2 (Ug enc P w) ks cs:=by
 intro n
 induction n with
 | zero=>intro t ks h; cases h
 | succ n ih=>
  intro t ks h fuel cs x hx
  unfold flatK at h
  split at h
  ·rename_i k hu
   cases h
   obtain ⟨n,rfl,_,hwf⟩:=DataW.trod_int hu hx
   exact .cons ⟨n,rfl,hwf⟩ .nil
  ·rename_i hu
   cases h
   obtain ⟨n,rfl,_⟩:=DataW.trod_bool hu hx
   exact .cons ⟨n,rfl⟩ .nil
  ·rename_i hu
   cases h
   obtain ⟨n,rfl,_⟩:=DataW.trod_string hu hx
   exact .cons ⟨n,rfl⟩ .nil
  ·rename_i e hu
   cases h
   have:∃v,cs=[v]:=by
    rcases DataW.trod_slice hu hx with h | h
    ·exact ⟨_,h.1⟩
    ·obtain ⟨a,len,cap,_,_,_,_,h,_⟩:=h
     exact ⟨_,h⟩
   obtain ⟨v,rfl⟩:=this
   exact .cons ⟨fuel,x,hx⟩ .nil
  ·rename_i fs hu
   split at h<;>try contradiction
   rename_i l hl
   split at h<;>try contradiction
   rename_i hc
   cases h
   have hc:=cQ hc
   obtain ⟨xs,m,_,_,LC,hlen,hf⟩:=DataW.trod_struct hu hx
   have key:=QE ih m cs fs.toList 0 ks hl (fun f hf'=>?_) (by omega)
   ·rw[List.drop_zero] at key; exact key
   ·obtain ⟨i,hi,rfl⟩:=List.getElem_of_mem hf'
    have h1:=hf i (fs.toList[i]) (by simp at hi ⊢)
    obtain ⟨y,hy⟩:∃y,xs[i]? = some y:=⟨_,List.getElem?_eq_getElem (by simp at hi; omega)⟩
    rw[hy] at h1
    exact ⟨y,h1⟩
  ·cases h
theorem F2.mI {α γ:Type} {R:α→γ→Prop} {a:α} {l:List α} {m:List γ} (h:F2 R (a::l) m):∃b m',m=b::m'∧R a b∧F2 R l m':=by
 cases h with
 | cons h t=>exact ⟨_,_,rfl,h,t⟩
theorem F2.S5 {α γ:Type} {R:α→γ→Prop} {m:List γ} (h:F2 R [] m):m=[]:=by cases h; rfl
end
section
variable {α:Type} {dc:α→List Value} {s:Nat}
theorem goodA_agg {w:World} {l:List Value} (h:l.all lS=true):goodA w (.agg ⟨l⟩):=fun v hv=>.inl (List.all_eq_true.1 h v hv)
end
end Go.Vai
