/-
  PROVED HERE: a part of the proof (VaiK, VaiW, VaiW2, VaiL, VaiM, VaiN, VaiZ, VaiO, VaiQ, VaiT, VaiU).
-/
import Derived.Test.YtmjghbjpdoeemaaGreatDoorV2
import Derived.Below
import Derived.Deep.Slices
import Derived.Carry
import Derived.ProofKit
set_option linter.unusedVariables false
set_option linter.unusedSimpArgs false
namespace Go.Vai
open Go Go.RowKit
variable {P:Program}
theorem VR.kq {φ:di} {v:Value} (hv:iu v=true):VR φ v v:=by
 cases v<;>first | exact VR.bool _ | exact VR.int _ _ | exact VR.string _ | cases hv
theorem VR.KY {φ:di} {v v':Value} (hv:iu v=true) (h:VR φ v v'):v'=v:=by
 cases h<;>first | rfl | cases hv
theorem F2.kq {φ:di}:∀{l:List Value},l.all iu=true→F2 (VR φ) l l:=by
 intro l
 induction l with
 | nil=>intro _; exact .nil
 | cons v l ih=>
  intro h
  simp only[List.all_cons,Bool.and_eq_true] at h
  exact .cons (VR.kq h.1) (ih h.2)
end Go.Vai

namespace Go.Vai
open Go
def CallW (P:Program) (f:FuncId) (args:List Value) (h:Heap) (κ:KQ):Prop:=
 ∀(φ:di) (w:World) (args':List Value),F2 (VR φ) args args'→HR P φ h w→yl (fun p:Prop=>p) P φ h w κ f args'.toArray
def zl (P:Program):ji Prop:=⟨fun f=>some (CallW P f),And⟩
def gL:Rec Prop:=fun _ _ _ _=>False
abbrev O1 (i:XI Prop) (tm:T Value) (h:Heap) (κ:KQ):Prop:=
 XI.rec (motive:=fun _=>Prop) (fun f=>f h κ) (fun x f=>f (dV tm x) h κ) (fun x y f=>f (dV tm x) (dV tm y) h κ)
  (fun x y z f=>f (dV tm x) (dV tm y) (dV tm z) h κ) (fun xs f=>f (xs.map (dV tm)) h κ) i
abbrev Tl (i:XA Prop) (tm:T Value) (κ:bC→(Nat→Value)→Prop):Prop:=
 XA.rec (motive:=fun _=>Prop) (fun f=>f κ) (fun x f=>f (dV tm x) κ) (fun x y f=>f (dV tm x) (dV tm y) κ) (fun xs f=>f (xs.map (dV tm)) κ) i
def iE (P:Program) (fv:Value) (args:List Value) (h:Heap) (κ:KQ):Prop:=wE False (zl P) P gL fv args h κ
def CallI (P:Program) (name:String) (r:Value) (args:List Value) (h:Heap) (κ:KQ):Prop:=GL False (zl P) P gL name r args h κ
noncomputable def yq (P:Program) (c:Call) (tm:T Value) (h:Heap) (κ:KQ):Prop:=
 match c.callee with
 | .value (.func f)=>CallW P f (c.args.toList.map (dV tm)) h κ
 | .value x=>iE P (dV tm x) (c.args.toList.map (dV tm)) h κ
 | .invoke r name=>CallI P name (dV tm r) (c.args.toList.map (dV tm)) h κ
 | .builtin _=>False
noncomputable def jq (P:Program) (op:Op) (tm:T Value) (h:Heap) (κ:KQ):Prop:=
 match lM False P op with
 | some i=>O1 i tm h κ
 | none=>match nN False P op with
  | some i=>Tl i tm fun o mk=>an False o h fun b h=>κ (mk b) h
  | none=>match wD False P op with
   | some i=>O1 i tm h κ
   | none=>match op with
    | .call c=>yq P c tm h κ
    | .next it false=>nM False And (dV tm it) h κ
    | _=>False
def aj (v:Value) (w:Bool):Bool:=match v,w with | .bool true,true=>true | .bool false,false=>true | _,_=>false
def ah (b:Bool) (f:(Value→Heap→Prop)→Prop) (h:Heap) (κ:KQ):Prop:=match b with | true=>f κ | false=>κ undef h
noncomputable abbrev Hi (P:Program) (all os:List Oper):T Value→Heap→(T Value→Heap→Prop)→Prop:=
 List.rec (motive:=fun _=>T Value→Heap→(T Value→Heap→Prop)→Prop) (fun tm h κ=>κ tm h)
  (fun o _ ih tm h κ=>Option.rec (motive:=fun _=>Prop) False
   (fun g=>Option.rec (motive:=fun _=>Prop) (jq P o.op tm h fun v h=>ih (gQ tm o.dst v) h κ)
    (fun sw=>ah (aj (cT tm sw.1) sw.2) (fun κ'=>jq P o.op tm h κ') h fun v h=>ih (gQ tm o.dst v) h κ) g) (guardOf all o)) os
def aI (o:Option Value) (h:Heap) (κ:KQ):Prop:=match o with | some v=>κ v h | none=>False
noncomputable def GD (o:Option (bC × (Nat→Value))) (h:Heap) (κ:KQ):Prop:=match o with | some (b,mk)=>an False b h fun n h=>κ (mk n) h | none=>False
def dG (b:Bool) (p:Prop):Prop:=match b with | true=>p | false=>False
noncomputable def gz (o:Option Value) (v:Value):Bool:=match o with | some u=>jD 8 u v | none=>false
def Yh (o:Option Value):Bool:=match o with | some _=>true | none=>false
def Yi (b r:Bool):Bool:=match b with | true=>r | false=>true
noncomputable def KZ (x:M0) (tm:T Value) (h:Heap):Option Value:=
 XI.rec (motive:=fun _=>Option Value) (fun f=>f h fun v _=>some v) (fun x f=>f (dV tm x) h fun v _=>some v) (fun x y f=>f (dV tm x) (dV tm y) h fun v _=>some v)
  (fun x y z f=>f (dV tm x) (dV tm y) (dV tm z) h fun v _=>some v) (fun xs f=>f (xs.map (dV tm)) h fun v _=>some v) x
noncomputable def Yj (x:SS) (tm:T Value):Option (bC × (Nat→Value)):=
 XA.rec (motive:=fun _=>Option (bC × (Nat→Value))) (fun f=>f fun o mk=>some (o,mk)) (fun x f=>f (dV tm x) fun o mk=>some (o,mk)) (fun x y f=>f (dV tm x) (dV tm y) fun o mk=>some (o,mk)) (fun xs f=>f (xs.map (dV tm)) fun o mk=>some (o,mk)) x
noncomputable def Ac (P:Program) (os:List Oper) (D M:Nat) (tm:T Value) (h:Heap):List It→Bool
 | []=>true
 | (k,q)::qe=>match bit D k && !bit M k,fJ P q.op with
  | true,.rd x=>(match guardOf os q with
   | some none=>(match q.dst with | some d=>gz (KZ x tm h) (cT tm d) | none=>Yh (KZ x tm h))
   | some (some (s,w))=>Yi (aj (cT tm s) w) (match q.dst with | some d=>gz (KZ x tm h) (cT tm d) | none=>Yh (KZ x tm h))
   | none=>false) && Ac P os D M tm h qe
  | _,_=>Ac P os D M tm h qe
noncomputable def DS (P:Program) (os:List Oper) (D M:Nat) (o:Oper) (tm:T Value) (h:Heap) (κ:KQ):Prop:=
 match fJ P o.op with
 | .rd x=>aI (KZ x tm h) h κ
 | .al x=>GD (Yj x tm) h κ
 | .wr=>match wH P D M (dW os 0) with
  | false=>jq P o.op tm h κ
  | true=>jq P o.op tm h fun v h=>dG (Ac P os D M (gQ tm o.dst v) h (dW os 0)) (κ v h)
noncomputable def Ad (P:Program) (os:List Oper):List Nat→Nat→Nat→T Value→Heap→(T Value→Heap→Prop)→Prop
 | [],_,_,tm,h,κ=>κ tm h
 | i::is,D,M,tm,h,κ=>match os[i]? with
  | none=>False
  | some o=>match guardOf os o with
   | none=>False
   | some none=>DS P os D (match eP P o with | true=>Nat.lor M (nO os i) | false=>M) o tm h fun v h=>Ad P os is (dZ D i) (match eP P o with | true=>Nat.lor M (nO os i) | false=>M) (gQ tm o.dst v) h κ
   | some (some (s,w))=>ah (aj (cT tm s) w) (fun κ'=>DS P os D (match eP P o with | true=>Nat.lor M (nO os i) | false=>M) o tm h κ') h fun v h=>Ad P os is (dZ D i) (match eP P o with | true=>Nat.lor M (nO os i) | false=>M) (gQ tm o.dst v) h κ
noncomputable def K0 (P:Program) (os:List Oper) (draw:Bool) (tm:T Value) (h:Heap) (κ:T Value→Heap→Prop):Prop:=
 match draw with
 | false=>Hi P os os tm h κ
 | true=>match xV P os with
  | some l=>Ad P os l 0 0 tm h κ
  | none=>False
def Fu (n:Nat) (l:List Nat):List Nat:=match l.any (Nat.beq n) with | true=>l | false=>n::l
def ow (l:List Oper):List Nat:=l.foldr (fun o r=>match o.dst with | some d=>Fu d r | none=>r) []
def DT (l m:List Nat):List Nat:=l.foldr Fu m
def oK:Code→List Nat
 | .region _ os _=>ow os.toList
 | .seq a b | .cond _ a b=>DT (oK a) (oK b)
 | .block _ c | .loop c | .scope c=>oK c
 | _=>[]
def DU (id:Nat):Code→Nat
 | .exit i=>match Nat.beq i id with | true=>1 | false=>0
 | .seq a b | .cond _ a b=>DU id a+DU id b
 | .block _ c | .loop c | .scope c=>DU id c
 | _=>0
def ways:Code→Nat
 | .seq a b=>ways a*ways b
 | .cond _ a b=>ways a+ways b
 | .block id c=>ways c+DU id c
 | .loop _=>0
 | .scope c=>ways c
 | .exit _ | .ret=>0
 | _=>1
def slot (l:List Value) (i:Nat):Value:=l.getD i undef
noncomputable def Hj:Nat→List Nat→List Value→T Value→T Value
 | _,[],_,tm=>tm
 | i,s::ss,l,tm=>Hj (i+1) ss l (tm.aW s (slot l i))
noncomputable def Fv (ss:List Nat) (l:List Value) (tm:T Value):T Value:=Hj 0 ss l tm
abbrev KT:=Ex→T Value→Heap→Prop
abbrev Yk (N:List Value→Heap→Prop) (ss:List Nat) (κ:KT):KT:=fun e tm h=>Ex.rec (motive:=fun _=>Prop) (N (ss.map (cT tm)) h) (fun i=>κ (.exit i) tm h) (κ .ret tm h) e
def dH (A:(List Value→Heap→Prop)→Prop) (B:List Value→Heap→Prop):Prop:=
 ∃J:List Value→Heap→Prop,A J∧∀l h,J l h→B l h
def dP (l0:List Value) (h0:Heap) (body:List Value→Heap→(List Value→Heap→Prop)→Prop):Prop:=
 ∃I:Nat→List Value→Heap→Prop,(∃n,I n l0 h0)∧∀n l h,I n l h→body l h fun l' h'=>∃m,m<n∧I m l' h'
def ay (v:Value) (A B:Prop):Prop:=match v with | .bool true=>A | .bool false=>B | _=>False
abbrev Yl (B:T Value→Heap→KT→Prop) (κ:KT):KT:=fun e tm h=>Ex.rec (motive:=fun _=>Prop) (B tm h κ) (fun i=>κ (.exit i) tm h) (κ .ret tm h) e
abbrev O2 (id:Nat) (κ:KT):KT:=fun e tm h=>Ex.rec (motive:=fun _=>Prop) (κ .normal tm h) (fun i=>Bool.rec (motive:=fun _=>Prop) (κ (.exit i) tm h) (κ .normal tm h) (Nat.beq i id)) (κ .ret tm h) e
noncomputable def WP (P:Program):Code→T Value→Heap→KT→Prop
 | .skip,tm,h,κ=>κ .normal tm h
 | .label _,tm,h,κ=>κ .normal tm h
 | .region _ os draw,tm,h,κ=>K0 P os.toList draw tm h fun tm h=>κ .normal tm h
 | .seq a b,tm,h,κ=>match Nat.ble (ways a) 1 with
  | true=>WP P a tm h (Yl (WP P b) κ)
  | false=>dH (fun N=>WP P a tm h (Yk N (oK a) κ)) fun l h=>WP P b (Fv (oK a) l tm) h κ
 | .cond c a b,tm,h,κ=>ay (dV tm c) (WP P a tm h κ) (WP P b tm h κ)
 | .block id c,tm,h,κ=>WP P c tm h (O2 id κ)
 | .scope c,tm,h,κ=>WP P c tm h κ
 | .loop c,tm,h,κ=>dP ((oK c).map (cT tm)) h fun l h N=>WP P c (Fv (oK c) l tm) h (Yk N (oK c) κ)
 | .exit id,tm,h,κ=>κ (.exit id) tm h
 | .ret,tm,h,κ=>κ .ret tm h
 | _,_,_,_=>False
abbrev Fw (h:Heap) (tm:T Value):List vK→(List Value→Prop)→Prop:=
 List.rec (motive:=fun _=>(List Value→Prop)→Prop) (fun κ=>κ [])
  (fun r _ ih κ=>vK.rec (motive:=fun _=>Prop) (fun t=>ih fun vs=>κ (cT tm t::vs)) (fun a=>load1 False (cT tm a) h fun v _=>ih fun vs=>κ (v::vs))
   (fun a s=>aF False s (cT tm a) h fun v _=>ih fun vs=>κ (v::vs)) False r)
abbrev K_ (κ:KQ) (h:Heap) (vs:List Value):Prop:=
 List.rec (motive:=fun _=>Prop) (κ (.tuple #[]) h) (fun v vs' _=>List.rec (motive:=fun _=>Prop) (κ v h) (fun _ _ _=>κ (.tuple ⟨vs⟩) h) vs') vs
abbrev Ym (rs:List vK) (κ:KQ):KT:=fun e tm h=>Ex.rec (motive:=fun _=>Prop) (Fw h tm rs fun vs=>K_ κ h vs) (fun _=>False) (Fw h tm rs fun vs=>K_ κ h vs) e
noncomputable def aK (P:Program) (f:FuncId) (args:List Value) (h:Heap) (κ:KQ):Prop:=
 match sI P f with
 | .none=>False
 | .mk c rs nt=>match Nat.ble args.length nt with
  | true=>WP P c (lay args .nil 0) h (Ym rs κ)
  | false=>False
variable {P:Program}
theorem DV (i:XI Prop) (tm:T Value) (h:Heap) (κ:KQ):i.run tm h κ=O1 i tm h κ:=by
 cases i with
 | k0 f=>rfl
 | k1 x f=>exact XI.bO ..
 | k2 x y f=>exact XI.cG ..
 | k3 x y z f=>exact XI.oa ..
 | kn xs f=>exact XI.fP ..
theorem Lc (i:XA Prop) (tm:T Value) (κ:bC→(Nat→Value)→Prop):i.run tm κ=Tl i tm κ:=by
 cases i with
 | k0 f=>rfl
 | k1 x f=>exact XA.bO ..
 | k2 x y f=>exact XA.cG ..
 | kn xs f=>exact XA.fP ..
theorem Hl (x:M0) (tm:T Value) (h:Heap):iT x tm h=KZ x tm h:=by
 unfold iT
 cases x with
 | k0 f=>rfl
 | k1 x f=>exact XI.bO ..
 | k2 x y f=>exact XI.cG ..
 | k3 x y z f=>exact XI.oa ..
 | kn xs f=>exact XI.fP ..
theorem O3 (x:SS) (tm:T Value):sM x tm=Yj x tm:=by
 unfold sM
 cases x with
 | k0 f=>rfl
 | k1 x f=>exact XA.bO ..
 | k2 x y f=>exact XA.cG ..
 | kn xs f=>exact XA.fP ..
theorem CC (c:Call) (tm:T Value) (h:Heap) (κ:KQ):kE False (zl P) P c gL tm h κ=yq P c tm h κ:=by
 unfold kE yq
 cases c.callee with
 | value x=>cases x<;>(simp only[n_,eY]; rfl)
 | invoke r name=>simp only[n_,eY]; rfl
 | builtin b=>rfl
theorem yu (op:Op) (tm:T Value) (h:Heap) (κ:KQ):lX False (zl P) P op gL tm h κ=jq P op tm h κ:=by
 unfold lX jq
 cases hR:lM False P op with
 | some i=>exact DV ..
 | none=>
  cases hA:nN False P op with
  | some i=>exact Lc ..
  | none=>
   cases hW:wD False P op with
   | some i=>exact DV ..
   | none=>
    cases op<;>try rfl
    case call c=>exact CC ..
    case next it s=>cases s<;>first | rfl | (simp only[eY]; rfl)
theorem oz (tm:T Value) (s:Nat) (w:Bool):gr tm (some (s,w))=aj (cT tm s) w:=rfl
theorem O4 (f:(Value→Heap→Prop)→Prop) (tm:T Value) (h:Heap) (s:Nat) (w:Bool) (d:Option Nat) (k:T Value→Heap→Prop) :
  ah (aj (cT tm s) w) f h (fun v h=>k (gQ tm d v) h)=Bool.rec (motive:=fun _=>Prop) (lQ tm d undef h k) (f fun v h=>lQ tm d v h k) (gr tm (some (s,w))):=by
 rw[oz]
 cases aj (cT tm s) w with
 | true=>show f _=f _; simp only[eZ]
 | false=>show k _ h=lQ tm d undef h k; rw[eZ]
theorem Ld (all:List Oper):∀(os:List Oper) (tm:T Value) (h:Heap) (κ:T Value→Heap→Prop),Hi P all os tm h κ=kZ False (zl P) P gL all os tm h κ:=by
 intro os
 induction os with
 | nil=>intro tm h κ; rfl
 | cons o os ih=>
  intro tm h κ
  have ih':(fun tm h=>Hi P all os tm h κ)=fun tm h=>kZ False (zl P) P gL all os tm h κ:=by funext tm h; exact ih tm h κ
  show Option.rec (motive:=fun _=>Prop) False (fun g=>Option.rec (motive:=fun _=>Prop) (jq P o.op tm h fun v h=>(fun tm h=>Hi P all os tm h κ) (gQ tm o.dst v) h)
    (fun sw=>ah (aj (cT tm sw.1) sw.2) (fun κ'=>jq P o.op tm h κ') h fun v h=>(fun tm h=>Hi P all os tm h κ) (gQ tm o.dst v) h) g) (guardOf all o)=XO.rec (motive:=fun _=>Prop)
   (fun g d f=>Bool.rec (motive:=fun _=>Prop) (lQ tm d undef h fun tm h=>kZ False (zl P) P gL all os tm h κ)
    (f gL tm h fun v h=>lQ tm d v h fun tm h=>kZ False (zl P) P gL all os tm h κ) (gr tm g)) (wF False (zl P) P all o)
  rw[ih']
  unfold wF
  cases guardOf all o with
  | none=>rfl
  | some g=>
   cases g with
   | none=>
    show jq P o.op tm h _=lX False (zl P) P o.op gL tm h fun v h=>lQ tm o.dst v h _
    simp only[eZ]; rw[yu]
   | some sw=>
    obtain ⟨s,w⟩:=sw
    show ah (aj (cT tm s) w) (fun κ'=>jq P o.op tm h κ') h _=Bool.rec (motive:=fun _=>Prop) _ (lX False (zl P) P o.op gL tm h _) _
    refine (O4 (fun κ'=>jq P o.op tm h κ') tm h s w o.dst fun tm h=>kZ False (zl P) P gL all os tm h κ).trans ?_
    simp only[yu]
theorem Ho (os:List Oper) (D M:Nat) (tm:T Value) (h:Heap):∀qe:List It,Ac P os D M tm h qe=qS P os D M tm h qe:=by
 intro qe
 induction qe with
 | nil=>rfl
 | cons it qe ih=>
  obtain ⟨k,q⟩:=it
  unfold Ac qS
  cases bit D k && !bit M k with
  | false=>exact ih
  | true=>
   cases fJ P q.op with
   | rd x=>
    simp only[ih,Hl]
    congr 1
    cases guardOf os q with
    | none=>rfl
    | some g=>
     cases g with
     | none=>
      cases KZ x tm h<;>cases q.dst<;>rfl
     | some sw=>
      obtain ⟨s,w⟩:=sw
      simp only[oz]
      cases aj (cT tm s) w
      ·rfl
      ·cases KZ x tm h<;>cases q.dst<;>rfl
   | al x=>exact ih
   | wr=>exact ih
theorem CD (os:List Oper) (D M:Nat) (o:Oper) (tm:T Value) (h:Heap) (k:T Value→Heap→Prop) :
  DS P os D M o tm h (fun v h=>k (gQ tm o.dst v) h)=(match fJ P o.op with
   | .rd x=>match iT x tm h with
    | some v=>lQ tm o.dst v h k
    | none=>False
   | .al x=>match sM x tm with
    | some (b,mk)=>an False b h fun n h=>lQ tm o.dst (mk n) h k
    | none=>False
   | .wr=>lX False (zl P) P o.op gL tm h fun v h=>lQ tm o.dst v h fun tm h=>
     match wH P D M (dW os 0) with
     | false=>k tm h
     | true=>match qS P os D M tm h (dW os 0) with
      | true=>k tm h
      | false=>False):=by
 unfold DS
 cases fJ P o.op with
 | rd x=>
  simp only[Hl,eZ]
  cases KZ x tm h<;>rfl
 | al x=>
  simp only[O3,eZ]
  cases Yj x tm<;>rfl
 | wr=>
  simp only[eZ,yu]
  cases wH P D M (dW os 0) with
  | false=>rfl
  | true=>simp only[Ho]; rfl
theorem Hp (os:List Oper):∀(l:List Nat) (D M:Nat) (tm:T Value) (h:Heap) (κ:T Value→Heap→Prop),Ad P os l D M tm h κ=gI False (zl P) P gL os l D M tm h κ:=by
 intro l
 induction l with
 | nil=>intro D M tm h κ; rfl
 | cons i is ih=>
  intro D M tm h κ
  unfold Ad gI
  cases os[i]? with
  | none=>rfl
  | some o=>
   simp only[ih]
   cases hg:guardOf os o with
   | none=>simp only[iw,hg]
   | some g=>
    have hk:=fun M'=>CD (P:=P) os D M' o tm h fun tm h=>gI False (zl P) P gL os is (dZ D i) M' tm h κ
    cases g with
    | none=>
     refine (hk _).trans ?_
     simp only[iw,hg]; rfl
    | some sw=>
     obtain ⟨s,w⟩:=sw
     simp only[iw,hg,oz]
     cases aj (cT tm s) w with
     | true=>exact hk _
     | false=>simp only[eZ]; rfl
theorem Lf (os:List Oper) (draw:Bool) (tm:T Value) (h:Heap) (κ:T Value→Heap→Prop):K0 P os draw tm h κ=i_ False (zl P) P gL os draw tm h κ:=by
 cases draw with
 | false=>exact Ld os os tm h κ
 | true=>
  unfold K0 i_
  cases xV P os with
  | none=>rfl
  | some l=>exact Hp os l 0 0 tm h κ
end Go.Vai

namespace Go.Vai
open Go
variable {P:Program} {φ:di} {h:Heap} {w:World}
abbrev ok (p:Prop):Prop:=p
theorem tq:¬ok False:=id
theorem Hq:fc ok (zl P) P:=
 ⟨fun _ _ h=>h,fun f g hg args args' h φ w κ ha hr hgd=>by cases hg; exact hgd φ w args' ha hr⟩
theorem Ae:jm ok P gL:=by
 intro c r tm h κ φ w nt a _ _ _ _ hg
 exact False.elim hg
def CE (ss:List Nat) (nt:Nat) (tm cq:T Value):Prop:=∀t,t<nt→t∉ss→cT cq t=cT tm t
def nU (P:Program) (nt:Nat) (φ:di) (h:Heap) (w:World) (ds:List Deferred) (κ:KT) (ss:List Nat) (tm:T Value) (e:Exit) (a':Act) (w':World):Prop:=
 ∃x cq h' φ',e=G7 x∧κ x cq h'∧TR φ' nt cq a'∧HR P φ' h' w'∧Ext φ φ' h h' w w'∧a'.defers=ds∧CE ss nt tm cq
theorem nU.after {nt:Nat} {φ1:di} {h1:Heap} {w1:World} {ds ds1:List Deferred} {κ:KT} {ss ss1 ss2:List Nat} {tm S9 Tm:T Value} {e:Exit} {a2:Act} {w2:World} (hx:Ext φ φ1 h h1 w w1)
  (hd:ds1=ds) (hk:CE ss1 nt tm S9) (hk':∀t,t<nt→cT Tm t=cT S9 t) (hs:∀t,t∉ss→t∉ss1∧t∉ss2) (hp:nU P nt φ1 h1 w1 ds1 κ ss2 Tm e a2 w2):nU P nt φ h w ds κ ss tm e a2 w2:=by
 obtain ⟨x,Se,h2,φ2,rfl,k1,k2,k3,k4,k5,k6⟩:=hp
 exact ⟨x,Se,h2,φ2,rfl,k1,k2,k3,hx.trans k4,k5.trans hd,fun t ht hn=>(k6 t ht (hs t hn).2).trans ((hk' t ht).trans (hk t ht (hs t hn).1))⟩
theorem Af {n t:Nat} {l:List Nat}:t∈Fu n l↔t=n∨t∈l:=by
 unfold Fu
 split
 ·rename_i h
  obtain ⟨x,hx,he⟩:=List.any_eq_true.mp h
  have:=cu he
  subst this
  constructor
  ·exact .inr
  ·rintro (rfl | h')<;>assumption
 ·simp
theorem mZ {t:Nat} {l m:List Nat}:t∈DT l m↔t∈l∨t∈m:=by
 induction l with
 | nil=>simp[DT]
 | cons a l ih=>
  show t∈Fu a (DT l m)↔_
  rw[Af,ih]; simp[or_assoc]
theorem tr {t:Nat}:∀{l:List Oper},t∈ow l↔∃o∈l,o.dst=some t:=by
 intro l
 induction l with
 | nil=>simp[ow]
 | cons o l ih=>
  have:ow (o::l)=match o.dst with | some d=>Fu d (ow l) | none=>ow l:=rfl
  rw[this]
  cases hd:o.dst with
  | none=>simp only[ih]; constructor
          ·rintro ⟨q,hq,e⟩; exact ⟨q,.tail _ hq,e⟩
          ·rintro ⟨q,hq,e⟩
           cases hq with
           | head=>rw[hd] at e; cases e
           | tail _ hq=>exact ⟨q,hq,e⟩
  | some d=>
   simp only[Af,ih]
   constructor
   ·rintro (rfl | ⟨q,hq,e⟩)
    ·exact ⟨o,.head _,hd⟩
    ·exact ⟨q,.tail _ hq,e⟩
   ·rintro ⟨q,hq,e⟩
    cases hq with
    | head=>rw[hd] at e; cases e; exact .inl rfl
    | tail _ hq=>exact .inr ⟨q,hq,e⟩
theorem Hr {nt:Nat}:∀(ss:List Nat) (pre:List Value) (f:Nat→Value) (tm:T Value) (t:Nat),(∀s∈ss,s<nt)→t<nt→cT (Hj pre.length ss (pre++ss.map f) tm) t=if t∈ss then f t else cT tm t:=by
 intro ss
 induction ss with
 | nil=>intro pre f tm t _ _; simp[Hj]
 | cons s ss ih=>
  intro pre f tm t hs ht
  simp only[List.map_cons,Hj]
  have OI:slot (pre++f s::ss.map f) pre.length=f s:=by simp[slot]
  rw[OI]
  have hih:=ih (pre++[f s]) f (tm.aW s (f s)) t (fun s hs'=>hs s (.tail _ hs')) ht
  simp only[List.length_append,List.length_cons,List.length_nil,List.append_assoc,List.cons_append,List.nil_append,Nat.zero_add] at hih
  rw[hih]
  by_cases h1:t∈ss
  ·rw[if_pos h1,if_pos (.tail _ h1)]
  ·rw[if_neg h1]
   have h2:cT (tm.aW s (f s)) t=if s=t then f s else cT tm t:=by
    simp only[cT]
    rw[T.jL _ _ (Nat.lt_succ_self _) (Nat.lt_succ_self _)]
    by_cases hst:s=t
    ·rw[if_pos hst,if_pos hst]
    ·rw[if_neg hst,if_neg hst]
   rw[h2]
   by_cases h3:s=t
   ·subst h3; rw[if_pos rfl,if_pos (.head _)]
   ·rw[if_neg h3,if_neg (by simp[h1,Ne.symm h3])]
theorem Hs {nt:Nat} (ss:List Nat) (f:Nat→Value) (tm:T Value) (t:Nat) (hs:∀s∈ss,s<nt) (ht:t<nt):cT (Fv ss (ss.map f) tm) t=if t∈ss then f t else cT tm t:=
 Hr ss [] f tm t hs ht
theorem qt {nt:Nat} {ss:List Nat} {tm cq:T Value} (hs:∀s∈ss,s<nt) (hk:CE ss nt tm cq):∀t,t<nt→cT (Fv ss (ss.map (cT cq)) tm) t=cT cq t:=by
 intro t ht
 rw[Hs ss _ _ t hs ht]
 split
 ·rfl
 ·rename_i h; exact (hk t ht h).symm
theorem TR.Nh {nt:Nat} {ss:List Nat} {tm cq:T Value} {a:Act} (hs:∀s∈ss,s<nt) (hk:CE ss nt tm cq) (ht:TR φ nt cq a):TR φ nt (Fv ss (ss.map (cT cq)) tm) a:=
 ⟨ht.size,ht.small,fun t hlt=>by rw[qt hs hk t hlt]; exact ht.rel t hlt⟩
theorem Ht {nt:Nat}:∀{c:Code},codeOk nt c=true→∀s∈oK c,s<nt:=by
 intro c
 induction c with
 | region id os d=>
  intro hc s hs
  simp only[codeOk,List.all_eq_true] at hc
  obtain ⟨o,ho,he⟩:=tr.mp hs
  have:=cO (hc o ho)
  rw[he] at this
  exact cN this
 | seq a b SV SX=>
  intro hc s hs
  simp only[codeOk,Bool.and_eq_true] at hc
  rcases mZ.mp hs with h | h
  ·exact SV hc.1 s h
  ·exact SX hc.2 s h
 | cond x a b SV SX=>
  intro hc s hs
  simp only[codeOk,Bool.and_eq_true] at hc
  rcases mZ.mp hs with h | h
  ·exact SV hc.1.2 s h
  ·exact SX hc.2 s h
 | block id c ih=>intro hc s hs; exact ih hc s hs
 | loop c ih=>intro hc s hs; exact ih hc s hs
 | scope c ih=>intro hc s hs; exact ih hc s hs
 | _=>intro _ s hs; simp[oK] at hs
theorem CF {os:Array Oper} {t:Nat} (h:t∉ow os.toList):∀(i:Nat) (o:Oper),os[i]? = some o→o.dst≠some t:=by
 intro i o ho hd
 exact h (tr.mpr ⟨o,List.mem_of_getElem? (by rw[Array.getElem?_toList]; exact ho),hd⟩)
theorem CG {c:Code} {r:Option Nat} {nt:Nat} {κ:KT} {iY:T Value} (hn:r=none∨lW c=true) (hc:codeOk nt c=true)
  (ih:∀(tm:T Value) (h:Heap) (κ:KT) (φ:di) (w:World) (a:Act),TR φ nt tm a→HR P φ h w→WP P c tm h κ→c.wpIn (FR r) 0 P (nU P nt φ h w a.defers κ (oK c) tm) a w)
  (I:Nat→List Value→Heap→Prop) (hI:∀n l h,I n l h→WP P c (Fv (oK c) l iY) h (Yk (fun l' h'=>∃m,m<n∧I m l' h') (oK c) κ)) :
  ∀(n:Nat) (tm:T Value) (h:Heap) (φ:di) (w:World) (a:Act),CE (oK c) nt iY tm→TR φ nt tm a→HR P φ h w→I n ((oK c).map (cT tm)) h→iP r P c (nU P nt φ h w a.defers κ (oK c) tm) a w:=by
 intro n
 induction n using Nat.strongRecOn with
 | ind n ihn=>
  intro tm h φ w a hk ht hr hi
  have hs:=Ht hc
  refine iP.round (wpIn_mono (ih _ h _ φ w a (ht.Nh hs hk) hr (hI n _ h hi)) ?_)
  rintro e a' w' ⟨x,cq,h',φ',rfl,g1,g2,g3,g4,g5,g6⟩
  have hkeep:CE (oK c) nt tm cq:=fun t To hnt=>(g6 t To hnt).trans (qt hs hk t To)
  cases x with
  | normal=>
   obtain ⟨m,hm,hi'⟩:=g1
   have hk2:CE (oK c) nt iY cq:=fun t To hnt=>(hkeep t To hnt).trans (hk t To hnt)
   exact (ihn m hm cq h' φ' w' a' hk2 g2 g3 hi').mono fun e a2 w2 hp=>nU.after g4 g5 hkeep (fun _ _=>rfl) (fun t ht=>⟨ht,ht⟩) hp
  | exit i=>exact ⟨.exit i,cq,h',φ',rfl,g1,g2,g3,g4,g5,hkeep⟩
  | ret=>exact ⟨.ret,cq,h',φ',rfl,g1,g2,g3,g4,g5,hkeep⟩
theorem Hu (hm:P.follows .mixedOrders=true):∀(c:Code) (r:Option Nat) (nt:Nat),(r=none∨lW c=true)→codeOk nt c=true→∀(tm:T Value) (h:Heap) (κ:KT) (φ:di) (w:World) (a:Act),
  TR φ nt tm a→HR P φ h w→WP P c tm h κ→c.wpIn (FR r) 0 P (nU P nt φ h w a.defers κ (oK c) tm) a w:=by
 intro c
 induction c with
 | skip=>intro r nt hn hc tm h κ φ w a ht hr hg; exact wpIn_skip ⟨.normal,tm,h,φ,rfl,hg,ht,hr,Ext.refl _ _ _,rfl,fun _ _ _=>rfl⟩
 | label l=>intro r nt hn hc tm h κ φ w a ht hr hg; exact wpIn_label ⟨.normal,tm,h,φ,rfl,hg,ht,hr,Ext.refl _ _ _,rfl,fun _ _ _=>rfl⟩
 | ret=>intro r nt hn hc tm h κ φ w a ht hr hg; exact wpIn_ret ⟨.ret,tm,h,φ,rfl,hg,ht,hr,Ext.refl _ _ _,rfl,fun _ _ _=>rfl⟩
 | exit id=>intro r nt hn hc tm h κ φ w a ht hr hg; exact wpIn_exit ⟨.exit id,tm,h,φ,rfl,hg,ht,hr,Ext.refl _ _ _,rfl,fun _ _ _=>rfl⟩
 | region id os draw=>
  intro r nt hn hc tm h κ φ w a ht hr hg
  have hok:∀q∈os.toList,dS nt q=true:=by
   simp only[codeOk,List.all_eq_true] at hc; exact hc
  have hg':ok (i_ False (zl P) P gL os.toList draw tm h fun tm h=>κ .normal tm h):=by
   have:K0 P os.toList draw tm h (fun tm h=>κ .normal tm h):=hg
   rwa [Lf] at this
  have hQ:∀cq h' φ' a' w',ok ((fun tm h=>κ .normal tm h) cq h')→TR φ' nt cq a'→HR P φ' h' w'→Ext φ φ' h h' w w'→a'.defers=a.defers→
    (∀t,t<nt→(∀(i:Nat) (o:Oper),os[i]? = some o→o.dst≠some t)→cT cq t=cT tm t)→nU P nt φ h w a.defers κ (oK (.region id os draw)) tm .normal a' w':=
   fun cq h' φ' a' w' g1 g2 g3 g4 g5 g6=>⟨.normal,cq,h',φ',rfl,g1,g2,g3,g4,g5,fun t ht hnt=>g6 t ht (CF hnt)⟩
  cases draw with
  | false=>
   refine wpIn_region ?_
   rw[List.range_eq_range']
   have:=o7 (r0:=r) (iY:=tm) tq Hq Ae hok hQ os.toList 0 φ tm h a w (fun k=>by simp) ht hr (Ext.refl _ _ _) rfl (fun _ _ _=>rfl) hg'
   simpa using this
  | true=>exact ou (good:=ok) tq Hq hm gL Ae os id nt hok φ tm h a w _ ht hr hg' r _ hQ
 | seq x y ihx ihy=>
  intro r nt hn hc tm h κ φ w a ht hr hg
  simp only[codeOk,Bool.and_eq_true] at hc
  obtain ⟨yc,hn2⟩:=r4 (x:=x) (y:=y) hn rfl
  have hmem:∀t,t∉oK (.seq x y)→t∉oK x∧t∉oK y:=fun t ht=>by
   have:¬(t∈oK x∨t∈oK y):=fun hh=>ht (mZ.mpr hh)
   exact not_or.mp this
  unfold WP at hg
  split at hg
  ·refine wpIn_seq (wpIn_mono (ihx r nt yc hc.1 tm h _ φ w a ht hr hg) ?_)
   rintro e a' w' ⟨e0,cq,h',φ',rfl,g1,g2,g3,g4,g5,g6⟩
   cases e0 with
   | normal=>exact wpIn_mono (ihy r nt hn2 hc.2 cq h' κ φ' w' a' g2 g3 g1) fun e a2 w2 hp=>nU.after g4 g5 g6 (fun _ _=>rfl) hmem hp
   | exit i=>exact ⟨.exit i,cq,h',φ',rfl,g1,g2,g3,g4,g5,fun t ht hnt=>g6 t ht (hmem t hnt).1⟩
   | ret=>exact ⟨.ret,cq,h',φ',rfl,g1,g2,g3,g4,g5,fun t ht hnt=>g6 t ht (hmem t hnt).1⟩
  ·obtain ⟨J,hA,hB⟩:=hg
   refine wpIn_seq (wpIn_mono (ihx r nt yc hc.1 tm h _ φ w a ht hr hA) ?_)
   rintro e a' w' ⟨e0,cq,h',φ',rfl,g1,g2,g3,g4,g5,g6⟩
   have hs:=Ht hc.1
   cases e0 with
   | normal=>exact wpIn_mono (ihy r nt hn2 hc.2 _ h' κ φ' w' a' (g2.Nh hs g6) g3 (hB _ _ g1)) fun e a2 w2 hp=>nU.after g4 g5 g6 (qt hs g6) hmem hp
   | exit i=>exact ⟨.exit i,cq,h',φ',rfl,g1,g2,g3,g4,g5,fun t ht hnt=>g6 t ht (hmem t hnt).1⟩
   | ret=>exact ⟨.ret,cq,h',φ',rfl,g1,g2,g3,g4,g5,fun t ht hnt=>g6 t ht (hmem t hnt).1⟩
 | cond x c1 c2 ih1 ih2=>
  intro r nt hn hc tm h κ φ w a ht hr hg
  simp only[codeOk,Bool.and_eq_true] at hc
  obtain ⟨yc,hn2⟩:=r4 (x:=c1) (y:=c2) hn rfl
  have hmem:∀t,t∉oK (.cond x c1 c2)→t∉oK c1∧t∉oK c2:=fun t ht=>by
   have:¬(t∈oK c1∨t∈oK c2):=fun hh=>ht (mZ.mpr hh)
   exact not_or.mp this
  have hg':ay (dV tm x) (WP P c1 tm h κ) (WP P c2 tm h κ):=hg
  have hx:=ht.eval hc.1.1
  unfold ay at hg'
  split at hg'<;>try exact hg'.elim
  ·rename_i hv
   rw[hv] at hx
   refine wpIn_cond_true (by generalize a.eval x=z at hx; cases hx; rfl) (wpIn_mono (ih1 r nt yc hc.1.2 tm h κ φ w a ht hr hg') ?_)
   rintro e a' w' ⟨e0,cq,h',φ',rfl,g1,g2,g3,g4,g5,g6⟩
   exact ⟨e0,cq,h',φ',rfl,g1,g2,g3,g4,g5,fun t ht hnt=>g6 t ht (hmem t hnt).1⟩
  ·rename_i hv
   rw[hv] at hx
   refine wpIn_cond_false (by generalize a.eval x=z at hx; cases hx; rfl) (wpIn_mono (ih2 r nt hn2 hc.2 tm h κ φ w a ht hr hg') ?_)
   rintro e a' w' ⟨e0,cq,h',φ',rfl,g1,g2,g3,g4,g5,g6⟩
   exact ⟨e0,cq,h',φ',rfl,g1,g2,g3,g4,g5,fun t ht hnt=>g6 t ht (hmem t hnt).2⟩
 | block id c ih=>
  intro r nt hn hc tm h κ φ w a ht hr hg
  refine wpIn_block (wpIn_mono (ih r nt hn hc tm h _ φ w a ht hr hg) ?_)
  rintro e a' w' ⟨e0,cq,h',φ',rfl,g1,g2,g3,g4,g5,g6⟩
  cases e0 with
  | normal=>exact ⟨.normal,cq,h',φ',rfl,g1,g2,g3,g4,g5,g6⟩
  | ret=>exact ⟨.ret,cq,h',φ',rfl,g1,g2,g3,g4,g5,g6⟩
  | exit i=>
   have R_:Bool.rec (motive:=fun _=>Prop) (κ (.exit i) cq h') (κ .normal cq h') (Nat.beq i id):=g1
   simp only[G7,Exit.inBlock]
   cases hb:Nat.beq i id with
   | true=>
    rw[hb] at R_
    rw[if_pos (cu hb)]
    exact ⟨.normal,cq,h',φ',rfl,R_,g2,g3,g4,g5,g6⟩
   | false=>
    rw[hb] at R_
    rw[if_neg (l_ hb)]
    exact ⟨.exit i,cq,h',φ',rfl,R_,g2,g3,g4,g5,g6⟩
 | scope c ih=>
  intro r nt hn hc tm h κ φ w a ht hr hg
  refine s9 (ih r nt hn hc tm h κ φ w a ht hr hg) ?_
  rintro l a' w' ⟨x,cq,h',φ',hx,_⟩
  cases x<;>cases hx
 | loop c ih=>
  intro r nt hn hc tm h κ φ w a ht hr hg
  obtain ⟨I,⟨n,h0⟩,hI⟩:=hg
  exact (CG (c:=c) (κ:=κ) (iY:=tm) hn hc (fun tm h κ φ w a=>ih r nt hn hc tm h κ φ w a) I hI n tm h φ w a (fun _ _ _=>rfl) ht hr h0).wp
 | _=>intro r nt hn hc tm h κ φ w a ht hr hg; exact False.elim hg
theorem Lg (h:Heap) (tm:T Value):∀(rs:List vK) (κ:List Value→Prop),Fw h tm rs κ=c_ False h tm rs κ:=by
 intro rs
 induction rs with
 | nil=>intro κ; rfl
 | cons r rs ih=>
  intro κ
  cases r with
  | tmp t=>simp only[c_,eY]; exact ih _
  | one a=>simp only[c_,eY]; show load1 False (cT tm a) h (fun v _=>Fw h tm rs fun vs=>κ (v::vs))=_; simp only[ih]; rfl
  | agg a s=>simp only[c_,eY]; show aF False s (cT tm a) h (fun v _=>Fw h tm rs fun vs=>κ (v::vs))=_; simp only[ih]; rfl
  | bad=>rfl
theorem Lh (κ:KQ) (h:Heap) (vs:List Value):K_ κ h vs=GK κ h vs:=by
 cases vs with
 | nil=>rfl
 | cons v vs=>cases vs<;>rfl
theorem aq (hm:P.follows .mixedOrders=true) {f:FuncId} {args:List Value} {h:Heap} {κ:Value→Heap→Prop} (hg:aK P f args h κ):CallW P f args h κ:=by
 intro φ w args' ha hr
 unfold aK at hg
 split at hg
 ·exact hg.elim
 ·rename_i c rs nt hc
  obtain ⟨fn,hf,hb,rfl,rfl,zh,X7,hnt,sZ⟩:=oZ hc
  split at hg<;>try exact hg.elim
  rename_i hle
  refine ⟨sZ _ _,?_⟩
  have hst:=TR.start (nt:=fn.ntmps) ha hnt (cz hle)
  refine rZ (r:=none) (n:=0) |>.1 (callsIn_of_wp_marks hf hb trivial (wpIn_mono (Hu hm c none _ (.inl rfl) zh _ h _ φ w _ hst hr hg) ?_))
  rintro e a' w' ⟨x,cq,h',φ',rfl,g1,g2,g3,g4,g5,_⟩
  have Km:a'.defers=[]:=g5
  have fin:Fw h' cq (fn.results.toList.map (qR P)) (fun vs=>K_ κ h' vs)→
    LeavesInM (FR none) 0 P fn a'.tmps (fun e w'=>∃φ' v v' h',e=.returned v'∧ok (κ v h')∧VR φ' v v'∧HR P φ' h' w'∧Ext φ φ' h h' w w') a'.defers .returning w':=by
   intro k
   rw[Lg] at k
   simp only[Lh] at k
   rw[Km]
   refine mo (a:=a') (φ':=φ') (h':=h') ?_ [] w'.heap.size w' trivial g3 g4
   intro w2 Gz hx2
   obtain ⟨vs,vs',k1,k2,k3⟩:=mj (good:=ok) tq Gz g2 _ X7 k
   refine ⟨_,oW k3,?_⟩
   cases k2 with
   | nil=>exact ⟨φ',_,_,h',rfl,k1,VR.tuple' .nil,Gz,hx2⟩
   | cons hv hvs=>
    cases hvs with
    | nil=>exact ⟨φ',_,_,h',rfl,k1,hv,Gz,hx2⟩
    | cons OA hvs=>exact ⟨φ',_,_,h',rfl,k1,VR.tuple' (.cons hv (.cons OA hvs)),Gz,hx2⟩
  cases x with
  | normal=>exact fin g1
  | exit i=>exact False.elim g1
  | ret=>exact fin g1
end Go.Vai

namespace Go.Vai
open Go
variable {β:Type} {fl:β}
theorem T.Fx {α:Type} (a a':α) (p:List Bool):∀t:T α,T.k9 a' p (T.k9 a p t)=T.k9 a' p t:=by
 induction p with
 | nil=>intro t; cases t<;>rfl
 | cons b p ih=>intro t; cases t<;>cases b<;>simp only[T.k9]<;>rw[ih]
theorem T.Fy {α:Type} (a b:α):∀(p q:List Bool) (t:T α),p≠q→T.k9 a p (T.k9 b q t)=T.k9 b q (T.k9 a p t):=by
 intro p
 induction p with
 | nil=>
  intro q t hpq
  cases q with
  | nil=>exact absurd rfl hpq
  | cons c q=>cases t<;>cases c<;>rfl
 | cons x p ih=>
  intro q t hpq
  cases q with
  | nil=>cases t<;>cases x<;>rfl
  | cons c q=>
   have h:x=c→p≠q:=fun e e'=>hpq (by rw[e,e'])
   cases x<;>cases c<;>cases t<;>simp only[T.k9]<;>first | rfl | rw[ih _ _ (h rfl)]
theorem O5 {a b:Nat} (h:a≠b):key a≠key b:=fun e=>h (key_inj (Nat.lt_succ_self _) (Nat.lt_succ_self _) e)
theorem T.tu {α:Type} (t:T α) (n:Nat) (a a':α):(t.aW n a).aW n a'=t.aW n a':=T.Fx a a' (key n) t
theorem T.tw {α:Type} (t:T α) {n m:Nat} (a b:α) (h:n≠m):(t.aW n a).aW m b=(t.aW m b).aW n a:=(T.Fy a b (key n) (key m) t (O5 h)).symm
theorem T.ai {α:Type} (t:T α) {n m:Nat} (a:α) (h:n≠m):(t.aW n a).get m=t.get m:=T.fo t a (Nat.lt_succ_self _) (Nat.lt_succ_self _) h
theorem CH (vs:List Value):∀(t:T Value) (off n:Nat) (a:Value),n<off→lay vs (t.aW n a) off=(lay vs t off).aW n a:=by
 induction vs with
 | nil=>intro t off n a _; rfl
 | cons v vs ih=>
  intro t off n a h
  simp only[lay]
  rw[T.tw t a v (by omega),ih _ _ _ _ (by omega)]
theorem Li (vs:List Value):∀(t:T Value) (off i:Nat) (a:Value),i<vs.length→(lay vs t off).aW (off+i) a=lay (vs.set i a) t off:=by
 induction vs with
 | nil=>intro t off i a h; simp at h
 | cons v vs ih=>
  intro t off i a h
  cases i with
  | zero=>
   simp only[List.set_cons_zero,lay,Nat.add_zero]
   rw[←CH vs _ _ _ _ (Nat.lt_succ_self off),T.tu]
  | succ i=>
   simp only[List.set_cons_succ,lay]
   rw[←ih _ _ _ _ (by simpa using h),show off+(i+1)=off+1+i by omega]
def over (vs:List Value) (o:Nat) (ws:List Value):List Value:=vs.take o++ws++vs.drop (o+ws.length)
theorem mD {vs:List Value} {o:Nat} {ws:List Value} (h:o+ws.length≤vs.length):(over vs o ws).length=vs.length:=by
 simp[over]; omega
theorem Ag (vs:List Value) (o:Nat):over vs o []=vs:=by simp[over]
theorem Fz (vs:List Value) (o:Nat) (w:Value) (ws:List Value) (h:o<vs.length):over vs o (w::ws)=over (vs.set o w) (o+1) ws:=by
 simp only[over,List.length_cons]
 rw[List.take_succ_eq_append_getElem (by simpa using h)]
 simp only[List.getElem_set_self]
 rw[List.take_set_of_le (Nat.le_refl _),List.drop_set_of_lt (by omega)]
 simp[Nat.add_comm,Nat.add_left_comm]
theorem yw (ws:List Value):∀(vs:List Value) (o:Nat),o+ws.length≤vs.length→lay ws (lay vs .nil 0) o=lay (over vs o ws) .nil 0:=by
 induction ws with
 | nil=>intro vs o _; rw[Ag]; rfl
 | cons w ws ih=>
  intro vs o h
  simp only[List.length_cons] at h
  have h1:=Li vs .nil 0 o w (by omega)
  rw[Nat.zero_add] at h1
  rw[Fz vs o w ws (by omega),←ih _ _ (by simp; omega),←h1]
  rfl
noncomputable def aa (vs:List Value) (e:TypeId) (op:Bool):bC:=.cells vs.length (lay vs .nil 0) e op
noncomputable def Tp (vs:List Value) (e:TypeId):bC:=.ro vs.length (lay vs .nil 0) e
theorem Hv (vs:List Value):∀(c:T Value) (off:Nat) (i:Nat),(lay vs c off).get i=if off≤i∧i<off+vs.length then vs[i-off]? else c.get i:=by
 induction vs with
 | nil=>intro c off i; simp[lay]; omega
 | cons v vs ih=>
  intro c off i
  rw[lay,ih]
  by_cases h1:off+1≤i∧i<off+1+vs.length
  ·rw[if_pos h1,if_pos (by simp; omega),show i-off=(i-(off+1))+1 by omega]; simp
  ·rw[if_neg h1]
   by_cases h2:off=i
   ·subst h2; rw[T.af]; simp
   ·rw[T.ai _ _ h2,if_neg (by simp; omega)]
theorem kI (vs:List Value) (i:Nat):(lay vs .nil 0).get i=vs[i]?:=by
 rw[Hv]
 by_cases h:i<vs.length
 ·rw[if_pos ⟨Nat.zero_le _,by omega⟩,Nat.sub_zero]
 ·rw[if_neg (by omega),T.get_nil]; symm; simp; omega
def CI (fl:β) (o:Option Value) (κ:Value→β):β:=match o with | some v=>κ v | none=>fl
theorem wS (v:Value) (κ:Value→β):CI fl (some v) κ=κ v:=id rfl
noncomputable def o_ (fl:β) (ob:Option bC) (o:Nat) (κ:Value→β):β:=match ob with
 | some (.cells n c _ _)=>match Nat.ble (Nat.succ o) n,c.get o with
  | true,some v=>κ v
  | _,_=>fl
 | some (.ro n c _)=>match Nat.ble (Nat.succ o) n,c.get o with
  | true,some v=>κ v
  | _,_=>fl
 | _=>fl
theorem Ah (b o:Nat) (h:Heap) (κ:Value→Heap→β):load1 fl (.pointer (some ⟨b,o,none⟩)) h κ=o_ fl (h.bl.get b) o fun v=>κ v h:=by
 unfold load1 o_
 dsimp only
 generalize h.bl.get b=z
 cases z with
 | none=>rfl
 | some ob=>cases ob<;>rfl
theorem m_ (vs:List Value) (e:TypeId) (op:Bool) (o:Nat) (κ:Value→β):o_ fl (some (aa vs e op)) o κ=CI fl vs[o]? κ:=by
 unfold o_ aa
 simp only[kI]
 by_cases h:o<vs.length
 ·rw[show Nat.ble (Nat.succ o) vs.length=true from Nat.ble_eq_true_of_le h,List.getElem?_eq_getElem h]; rfl
 ·have:Nat.ble (Nat.succ o) vs.length=false:=by
   cases hb:Nat.ble (Nat.succ o) vs.length with
   | false=>rfl
   | true=>exact absurd (Nat.le_of_ble_eq_true hb) h
  rw[this,List.getElem?_eq_none (by omega)]; rfl
theorem Hw (vs:List Value) (e:TypeId) (o:Nat) (κ:Value→β):o_ fl (some (Tp vs e)) o κ=CI fl vs[o]? κ:=m_ vs e false o κ
theorem CJ (vs:List Value) (off:Nat):∀(n:Nat) (acc:List Value) (κ:List Value→β),off+n≤vs.length→jh fl (lay vs .nil 0) off n acc κ=κ ((vs.drop off).take n++acc):=by
 intro n
 induction n with
 | zero=>intro acc κ _; simp; rfl
 | succ n ih=>
  intro acc κ h
  show Option.rec (motive:=fun _=>β) fl (fun v=>jh fl (lay vs .nil 0) off n (v::acc) κ) ((lay vs .nil 0).get (Nat.add off n))=_
  rw[kI,show Nat.add off n=off+n from rfl,List.getElem?_eq_getElem (by omega)]
  show jh fl (lay vs .nil 0) off n (vs[off+n]::acc) κ=_
  rw[ih _ _ (by omega),List.take_succ_eq_append_getElem (by simp; omega)]
  simp
noncomputable def zm (fl:β) (ob:Option bC) (o s:Nat) (κ:List Value→β):β:=match ob with
 | some (.cells n c _ _)=>match Nat.ble (Nat.add o s) n with
  | true=>jh fl c o s [] κ
  | false=>fl
 | some (.ro n c _)=>match Nat.ble (Nat.add o s) n with
  | true=>jh fl c o s [] κ
  | false=>fl
 | _=>fl
theorem Ai (s b o:Nat) (h:Heap) (κ:Value→Heap→β):aF fl s (.pointer (some ⟨b,o,none⟩)) h κ=zm fl (h.bl.get b) o s fun l=>κ (.agg ⟨l⟩) h:=by
 unfold aF zm
 dsimp only
 generalize h.bl.get b=z
 cases z with
 | none=>rfl
 | some ob=>cases ob<;>rfl
theorem qu (vs:List Value) (e:TypeId) (op:Bool) (o s:Nat) (κ:List Value→β) (h:o+s≤vs.length):zm fl (some (aa vs e op)) o s κ=κ ((vs.drop o).take s):=by
 unfold zm aa
 simp only
 rw[show Nat.ble (Nat.add o s) vs.length=true from Nat.ble_eq_true_of_le h]
 simp only
 rw[CJ _ _ _ _ _ h,List.append_nil]
theorem Hx (vs:List Value) (e:TypeId) (o s:Nat) (κ:List Value→β) (h:o+s≤vs.length):zm fl (some (Tp vs e)) o s κ=κ ((vs.drop o).take s):=qu vs e false o s κ h
theorem dn (o:bC) (h:Heap) (κ:Nat→Heap→β):an fl o h κ=κ h.nx ⟨h.nx+1,h.bl.aW h.nx o,h.lo⟩:=by
 unfold an; rw[T.eT,bG]
theorem bL (b:Nat) (o:bC) (h:Heap) (κ:Heap→β) (hlo:h.lo≤b):setBlock fl b o h κ=κ ⟨h.nx,h.bl.aW b o,h.lo⟩:=by
 unfold setBlock; rw[Nat.ble_eq_true_of_le hlo,T.eT]
theorem gX (vs:List Value) (e:TypeId) (op:Bool) (κ:bC→β) (hl:vs.length≤1000000000000):az fl vs e op κ=κ (aa vs e op):=by
 unfold az; rw[rX]
 simp only[Nat.zero_add]
 rw[Nat.ble_eq_true_of_le hl]; rfl
theorem qw (n:Nat):∀(ws:List Value) (c:T Value) (o:Nat) (κ:T Value→β),o+ws.length≤n→(ws.all dR)=true→jY fl n ws c o κ=κ (lay ws c o):=by
 intro ws
 induction ws with
 | nil=>intro c o κ _ _; rfl
 | cons v ws ih=>
  intro c o κ h1 h2
  simp only[List.all_cons,Bool.and_eq_true,List.length_cons] at h1 h2
  show Bool.rec (motive:=fun _=>β) fl (Bool.rec (motive:=fun _=>β) fl (T.set c o v fun c=>jY fl n ws c (Nat.succ o) κ) (Nat.ble (Nat.succ o) n)) (dR v)=_
  rw[h2.1,Nat.ble_eq_true_of_le (by omega)]
  simp only[T.eT]
  rw[ih _ _ _ (by omega) h2.2]; rfl
noncomputable def Kp (fl:β) (ob:Option bC) (s b o:Nat) (ws:List Value) (h:Heap) (κ:Heap→β):β:=match ob with
 | some (.cells n c e op)=>match Nat.beq ws.length s with
  | true=>jY fl n ws c o fun c=>setBlock fl b (.cells n c e op) h κ
  | false=>fl
 | _=>fl
theorem wT (s b o:Nat) (v:Value) (h:Heap) (κ:Value→Heap→β):aL fl s (.pointer (some ⟨b,o,none⟩)) v h κ=Kp fl (h.bl.get b) s b o v.cells.toList h fun h=>κ undef h:=by
 unfold aL Kp
 dsimp only
 generalize h.bl.get b=z
 cases z with
 | none=>rfl
 | some ob=>cases ob<;>rfl
theorem qy (vs:List Value) (e:TypeId) (op:Bool) (s b o:Nat) (ws:List Value) (h:Heap) (κ:Heap→β) (h1:ws.length=s) (h2:ws.all dR=true) (h3:o+s≤vs.length) (hlo:h.lo≤b) :
  Kp fl (some (aa vs e op)) s b o ws h κ=κ ⟨h.nx,h.bl.aW b (aa (over vs o ws) e op),h.lo⟩:=by
 subst h1
 unfold Kp aa
 simp only
 rw[show Nat.beq ws.length ws.length=true from Nat.beq_refl _]
 simp only
 rw[qw _ _ _ _ _ h3 h2,bL _ _ _ _ hlo,yw _ _ _ h3,mD h3]
theorem Aj (v:Value) (h:Heap) (κ:KQ):aI (some v) h κ=κ v h:=id rfl
theorem tA (o:bC) (mk:Nat→Value) (h:Heap) (κ:KQ):GD (some (o,mk)) h κ=κ (mk h.nx) ⟨h.nx+1,h.bl.aW h.nx o,h.lo⟩:=by
 show an False o h (fun n h=>κ (mk n) h)=_; rw[dn]
theorem tB (p:Prop):dG true p=p:=id rfl
theorem tC (b:Bool):aj (.bool b) true=b:=by cases b<;>exact id rfl
theorem q7 (b:Bool):aj (.bool b) false=!b:=by cases b<;>exact id rfl
theorem q8 (f:(Value→Heap→Prop)→Prop) (h:Heap) (κ:KQ):ah true f h κ=f κ:=id rfl
theorem pe (f:(Value→Heap→Prop)→Prop) (h:Heap) (κ:KQ):ah false f h κ=κ undef h:=id rfl
theorem tD (A B:Prop):ay (.bool true) A B=A:=id rfl
theorem q9 (A B:Prop):ay (.bool false) A B=B:=id rfl
theorem DW (n:Int) (h : -9223372036854775808≤n∧n≤9223372036854775807):IntKind.i64.wrap n=n:=IntWalk.i64_in _ h
theorem DX (P:Program) (t:TypeId) (cn gd:Bool) (a b:Int) (h:Heap) (κ:Value→Heap→β):au fl P .add t cn gd (.int .i64 a) (.int .i64 b) h κ=κ (.int .i64 (IntKind.i64.wrap (a+b))) h:=by
 simp only[au,fO,jZ,fq,dB]; rfl
theorem DY (P:Program) (t:TypeId) (cn gd:Bool) (a b:Int) (h:Heap) (κ:Value→Heap→β):au fl P .sub t cn gd (.int .i64 a) (.int .i64 b) h κ=κ (.int .i64 (IntKind.i64.wrap (a-b))) h:=by
 simp only[au,fO,jZ,fq,dB]; rfl
theorem DZ (P:Program) (t:TypeId) (cn gd:Bool) (a b:Int) (h:Heap) (κ:Value→Heap→β):au fl P .mul t cn gd (.int .i64 a) (.int .i64 b) h κ=κ (.int .i64 (IntKind.i64.wrap (a*b))) h:=by
 simp only[au,fO,jZ,fq,dB]; rfl
theorem D0 (P:Program) (t:TypeId) (cn gd:Bool) (a b:Int) (h:Heap) (κ:Value→Heap→β) (hb:b≠0):au fl P .quo t cn gd (.int .i64 a) (.int .i64 b) h κ=κ (.int .i64 (IntKind.i64.wrap (Int.tdiv a b))) h:=by
 simp only[au,fO,jZ,fq,dB,eX,hb,decide_false]
theorem D2 (P:Program) (t:TypeId) (cn gd:Bool) (a b:Int) (h:Heap) (κ:Value→Heap→β) (hb:b≠0):au fl P .rem t cn gd (.int .i64 a) (.int .i64 b) h κ=κ (.int .i64 (Int.tmod a b)) h:=by
 simp only[au,fO,jZ,fq,eX,hb,decide_false]
theorem D3 (P:Program) (t:TypeId) (cn gd:Bool) (k:IntKind) (a b:Int) (h:Heap) (κ:Value→Heap→β):au fl P .eql t cn gd (.int k a) (.int k b) h κ=κ (.bool (decide (a=b))) h:=by
 simp only[au,eN,decide_true,jZ,bN,eX]
theorem D4 (P:Program) (t:TypeId) (cn gd:Bool) (k:IntKind) (a b:Int) (h:Heap) (κ:Value→Heap→β):au fl P .neq t cn gd (.int k a) (.int k b) h κ=κ (.bool (!decide (a=b))) h:=by
 simp only[au,eN,decide_true,jZ,bN,eX]
theorem D5 (P:Program) (t:TypeId) (cn gd:Bool) (k:IntKind) (a b:Int) (h:Heap) (κ:Value→Heap→β):au fl P .lss t cn gd (.int k a) (.int k b) h κ=κ (.bool (decide (a<b))) h:=by
 simp only[au,eN,decide_true,jZ,bN,fG]
theorem D6 (P:Program) (t:TypeId) (cn gd:Bool) (k:IntKind) (a b:Int) (h:Heap) (κ:Value→Heap→β):au fl P .gtr t cn gd (.int k a) (.int k b) h κ=κ (.bool (decide (b<a))) h:=by
 simp only[au,eN,decide_true,jZ,bN,fG]
theorem D7 (P:Program) (t:TypeId) (cn gd:Bool) (k:IntKind) (a b:Int) (h:Heap) (κ:Value→Heap→β):au fl P .leq t cn gd (.int k a) (.int k b) h κ=κ (.bool (!decide (b<a))) h:=by
 simp only[au,eN,decide_true,jZ,bN,fG]
theorem D8 (P:Program) (t:TypeId) (cn gd:Bool) (k:IntKind) (a b:Int) (h:Heap) (κ:Value→Heap→β):au fl P .geq t cn gd (.int k a) (.int k b) h κ=κ (.bool (!decide (a<b))) h:=by
 simp only[au,eN,decide_true,jZ,bN,fG]
theorem Hy (b:Bool) (h:Heap) (κ:Value→Heap→β):kU fl .not (.bool b) h κ=κ (.bool (!b)) h:=by simp only[kU,bN]
theorem Hz (a:Int) (h:Heap) (κ:Value→Heap→β):kU fl .neg (.int .i64 a) h κ=κ (.int .i64 (IntKind.i64.wrap (0-a))) h:=by simp only[kU,fq,dB]; rfl
theorem Ak (k:IntKind) (a:Int) (h:Heap) (κ:Value→Heap→β):gU fl .i64 (.int k a) h κ=κ (.int .i64 (IntKind.i64.wrap a)) h:=by simp only[gU,fq,dB]
theorem wU (a b:Value) (h:Heap) (κ:Value→Heap→β):a_ fl (.bool true) a b h κ=κ a h:=id rfl
theorem tE (a b:Value) (h:Heap) (κ:Value→Heap→β):a_ fl (.bool false) a b h κ=κ b h:=id rfl
theorem dx (x:Option Addr) (n c:Nat) (h:Heap) (κ:Value→Heap→β):bA fl (.slice x n c) h κ=κ (.int .i64 (n:Int)) h:=id rfl
theorem pg (off b o:Nat) (h:Heap) (κ:Value→Heap→β):fieldAddrB fl off (.pointer (some ⟨b,o,none⟩)) h κ=κ (.pointer (some ⟨b,o+off,none⟩)) h:=by simp only[fieldAddrB,bG]; rfl
theorem D9 (a:Addr) (h:Heap) (κ:Value→Heap→β):aX fl (.pointer (some a)) h κ=κ (.pointer (some a)) h:=id rfl
theorem pn (f:FuncId) (a b:Array Value) (h:Heap) (κ:Value→Heap→β):aX fl (.func (.func f) a b) h κ=κ (.func (.func f) a b) h:=id rfl
theorem wV (a:Value) (l:List Value) (h:Heap) (κ:Value→Heap→β):av fl 0 (.tuple ⟨a::l⟩) h κ=κ a h:=id rfl
theorem wW (a b:Value) (l:List Value) (h:Heap) (κ:Value→Heap→β):av fl 1 (.tuple ⟨a::b::l⟩) h κ=κ b h:=id rfl
theorem wX (a b c:Value) (l:List Value) (h:Heap) (κ:Value→Heap→β):av fl 2 (.tuple ⟨a::b::c::l⟩) h κ=κ c h:=id rfl
theorem aS (s b o n c i:Nat) (h:Heap) (κ:Value→Heap→β) (hi:i<n):ax fl s (.slice (some ⟨b,o,none⟩) n c) (.int .i64 (i:Int)) h κ=κ (.pointer (some ⟨b,o+i*s,none⟩)) h:=by
 show (match Nat.ble (Nat.succ i) n with | true=>_ | _=>_)=_
 rw[show Nat.ble (Nat.succ i) n=true from Nat.ble_eq_true_of_le hi]
 simp only[bG]; rfl
theorem Al (P:Program) (f:FuncId) (a b:Array Value) (args:List Value) (h:Heap) (κ:KQ):iE P (.func (.func f) a b) args h κ=CallW P f (a.toList++args++b.toList) h κ:=id rfl
theorem aZ {p:Prop} [Decidable p] (h:p):decide p=true:=decide_eq_true h
theorem aG {p:Prop} [Decidable p] (h:¬p):decide p=false:=decide_eq_false h
theorem fI {a b:Int} (h:a<b):decide (a<b)=true:=decide_eq_true h
theorem c6 {a b:Int} (h:b≤a):decide (a<b)=false:=decide_eq_false (by omega)
theorem Tq {a b:Int} (h:a=b):decide (a=b)=true:=decide_eq_true h
theorem HA {a b:Int} (h:a<b):decide (a=b)=false:=decide_eq_false (by omega)
theorem Ni {a b:Int} (h:b<a):decide (a=b)=false:=decide_eq_false (by omega)
structure Le (h h':Heap):Prop where
 nx:h.nx≤h'.nx
 lo:h'.lo=h.lo
 get:∀b,b<h.nx→h'.bl.get b=h.bl.get b
theorem Le.refl (h:Heap):Le h h:=⟨Nat.le_refl _,rfl,fun _ _=>rfl⟩
theorem Le.trans {a b c:Heap} (x:Le a b) (y:Le b c):Le a c:=⟨Nat.le_trans x.nx y.nx,y.lo.trans x.lo,fun i hi=>(y.get i (Nat.lt_of_lt_of_le hi x.nx)).trans (x.get i hi)⟩
theorem Le.new {a h:Heap} (x:Le a h) (o:bC):Le a ⟨h.nx+1,h.bl.aW h.nx o,h.lo⟩:=
 ⟨Nat.le_succ_of_le x.nx,x.lo,fun i hi=>(T.ai _ _ (by have:=x.nx; omega)).trans (x.get i hi)⟩
theorem Le.set {a h:Heap} (x:Le a h) {b:Nat} (hb:a.nx≤b) (o:bC):Le a ⟨h.nx,h.bl.aW b o,h.lo⟩:=
 ⟨x.nx,x.lo,fun i hi=>(T.ai _ _ (by omega)).trans (x.get i hi)⟩
end Go.Vai

namespace Go.Vai
open Go Go.RowKit
variable {β:Type} {fl:β} {P:Program}
theorem yx {φ:di} {v:Value} (hv:kq v=true):VR φ v v:=by
 cases v<;>first | exact VR.kq hv | (exact VR.qf (F2.kq hv)) | cases hv
theorem HB {φ:di}:∀{l l':List Value},l.all iu=true→F2 (VR φ) l l'→l'=l:=by
 intro l
 induction l with
 | nil=>intro l' _ h; cases h; rfl
 | cons v l ih=>
  intro l' hs h
  simp only[List.all_cons,Bool.and_eq_true] at hs
  cases h with
  | cons h1 h2=>rw[ih hs.2 h2,VR.KY hs.1 h1]
theorem lg {φ:di} {v v':Value} (hv:kq v=true) (h:VR φ v v'):v'=v:=by
 cases h with
 | agg a a' ha rH=>
  have:=HB (l':=a'.toList) hv (F2.k_ ha rH)
  obtain ⟨l⟩:=a; obtain ⟨l'⟩:=a'
  simp only at this; rw[this]
 | bool=>rfl
 | int=>rfl
 | string=>rfl
 | _=>cases hv
theorem Am {φ:di}:∀{l:List Value},l.all kq=true→F2 (VR φ) l l:=by
 intro l
 induction l with
 | nil=>intro _; exact .nil
 | cons v l ih=>
  intro h
  simp only[List.all_cons,Bool.and_eq_true] at h
  exact .cons (yx h.1) (ih h.2)
theorem An {φ:di}:∀{l l':List Value},l.all kq=true→F2 (VR φ) l l'→l'=l:=by
 intro l
 induction l with
 | nil=>intro l' _ h; cases h; rfl
 | cons v l ih=>
  intro l' hs h
  simp only[List.all_cons,Bool.and_eq_true] at hs
  cases h with
  | cons h1 h2=>rw[ih hs.2 h2,lg hs.1 h1]
noncomputable def bI (P:Program) (n:Nat) (f:FuncId) (args:List Value) (v:Value):Bool:=
 args.all kq && kq v && jK false KX P (run false KX P n) f args ⟨0,.nil,0⟩ fun v' _=>jD 8 v' v
theorem r5 (hm:P.follows .mixedOrders=true) {n:Nat} {f:FuncId} {args:List Value} {v:Value} (ha:bI P n f args v=true) {h:Heap} {κ:Value→Heap→Prop} (hk:κ v h):CallW P f args h κ:=by
 intro φ w args' hf hr
 have hfl:¬yes false:=by simp[yes]
 simp only[bI,Bool.and_eq_true] at ha
 obtain ⟨⟨ha1,hv⟩,ha2⟩:=ha
 have:=An ha1 hf
 subst this
 have hc:=ez (good:=yes) (w:=w) hfl (yp (P:=P)) (wP (good:=yes) hfl yp (ou hfl yp hm) n).1 (Am ha1) (HR.start w) ha2
 refine ⟨hc.1,Calls.mono hc.2 ?_⟩
 rintro e w' ⟨φ',v1,v',h',rfl,g1,g2,g3,g4⟩
 have e1:=Cu 8 _ _ g1
 subst e1
 have hfr:∀B,B<w.heap.size→w'.heap[B]? = w.heap[B]?:=fun B hB=>g4.xX B hB fun b pl e=>by cases e
 refine ⟨φ,v1,v',h,rfl,hk,by rw[lg hv g2]; exact yx hv,?_,?_⟩
 ·exact ⟨fun b o pl h1 h2=>by rw[hfr _ (hr.dom b pl h2).2]; exact hr.obj b o pl h1 h2,fun b pl h1=>⟨(hr.dom b pl h1).1,Nat.lt_of_lt_of_le (hr.dom b pl h1).2 g4.size⟩,hr.keys,hr.KJ,hr.inj,hr.lo⟩
 ·exact ⟨Sub.refl φ,fun b pl e e'=>(by rw[e] at e'; cases e'),Nat.le_refl _,g4.size,fun B hB _=>hfr B hB,fun _ _ _=>rfl,g4.tape,g4.os,g4.output,fun _ _=>trivial,rfl,fun _ _=>rfl,fun b o pl _ _ _ _ hB=>hfr _ hB,g4.dr⟩
def yy (v:Value) (_h:Heap):Prop:=v=.bool true
def Has (ob:Option bC) (o:Nat) (ws:List Value):Prop:=
 ∃n c e,(ob=some (.ro n c e)∨∃op,ob=some (.cells n c e op))∧o+ws.length≤n∧∀j v,ws[j]? = some v→c.get (o+j)=some v
theorem Has.cells {vs:List Value} {e:TypeId} {op:Bool} {o k:Nat} (h:o+k≤vs.length):Has (some (aa vs e op)) o ((vs.drop o).take k):=by
 refine ⟨vs.length,lay vs .nil 0,e,.inr ⟨op,rfl⟩,by simp; omega,fun j v hj=>?_⟩
 rw[kI]
 rw[List.getElem?_take] at hj
 split at hj
 ·simpa[List.getElem?_drop] using hj
 ·cases hj
theorem Has.all {vs:List Value} {e:TypeId} {op:Bool}:Has (some (aa vs e op)) 0 vs:=by
 have:=Has.cells (vs:=vs) (e:=e) (op:=op) (o:=0) (k:=vs.length) (by omega)
 simpa using this
theorem Has.sub {ob:Option bC} {o:Nat} {ws:List Value} (h:Has ob o ws) (i k:Nat) (hk:i+k≤ws.length):Has ob (o+i) ((ws.drop i).take k):=by
 obtain ⟨n,c,e,h1,h2,h3⟩:=h
 refine ⟨n,c,e,h1,by simp; omega,fun j v hj=>?_⟩
 rw[List.getElem?_take] at hj
 split at hj
 ·rw[List.getElem?_drop] at hj
  rw[Nat.add_assoc]; exact h3 _ _ hj
 ·cases hj
theorem cL {ob:Option bC} {o:Nat} {ws:List Value} (h:Has ob o ws) (j:Nat) (κ:Value→β):j<ws.length→o_ fl ob (o+j) κ=CI fl ws[j]? κ:=by
 intro hj
 obtain ⟨n,c,e,h1,h2,h3⟩:=h
 have hle:Nat.ble (Nat.succ (o+j)) n=true:=Nat.ble_eq_true_of_le (by omega)
 have hv:=h3 j _ (List.getElem?_eq_getElem hj)
 rw[List.getElem?_eq_getElem hj]
 rcases h1 with rfl | ⟨op,rfl⟩<;>simp only[o_,hle,hv,CI]
theorem wY (c:T Value) (ws:List Value) (off:Nat):∀(n:Nat) (acc:List Value) (κ:List Value→β),n≤ws.length→(∀j v,ws[j]? = some v→c.get (off+j)=some v)→jh fl c off n acc κ=κ (ws.take n++acc):=by
 intro n
 induction n with
 | zero=>intro acc κ _ _; simp; rfl
 | succ n ih=>
  intro acc κ h hc
  show Option.rec (motive:=fun _=>β) fl (fun v=>jh fl c off n (v::acc) κ) (c.get (Nat.add off n))=_
  rw[show Nat.add off n=off+n from rfl,hc n _ (List.getElem?_eq_getElem (by omega))]
  show jh fl c off n (ws[n]::acc) κ=_
  rw[ih _ _ (by omega) hc,List.take_succ_eq_append_getElem (by omega)]
  simp only[List.append_assoc,List.cons_append,List.nil_append]
theorem pq {ob:Option bC} {o:Nat} {ws:List Value} (h:Has ob o ws) (s:Nat) (κ:List Value→β) (hs:s=ws.length):zm fl ob o s κ=κ ws:=by
 obtain ⟨n,c,e,h1,h2,h3⟩:=h
 subst hs
 have hle:Nat.ble (Nat.add o ws.length) n=true:=Nat.ble_eq_true_of_le h2
 rcases h1 with rfl | ⟨op,rfl⟩<;>simp only[zm,hle]<;>rw[wY c ws o _ _ _ (Nat.le_refl _) h3]<;>simp
theorem iF (h:Heap) (size n:Nat) (x:Value) (κ:List Value→β) (h0:n*size=0):eO fl h size n x κ=κ []:=by
 unfold eO
 rw[show Nat.mul n size=0 from h0]
theorem lp {h:Heap} {b o:Nat} {ws:List Value} (hh:Has (h.bl.get b) o ws) (size n l c:Nat) (κ:List Value→β) (hn:n*size=ws.length):eO fl h size n (.slice (some ⟨b,o,none⟩) l c) κ=κ ws:=by
 unfold eO
 rw[show Nat.mul n size=ws.length from hn]
 cases hw:ws with
 | nil=>rfl
 | cons w0 W7=>
  obtain ⟨nn,cc,e,h1,h2,h3⟩:=hh
  rw[hw] at h2 h3
  have hle:Nat.ble (Nat.add o (Nat.succ W7.length)) nn=true:=Nat.ble_eq_true_of_le (by simpa using h2)
  have fin:jh fl cc o (Nat.succ W7.length) [] κ=κ (w0::W7):=by
   rw[wY cc (w0::W7) o _ _ _ (by simp) h3]
   congr 1
   simp
  rcases h1 with h1 | ⟨op,h1⟩<;>simp only[List.length_cons,h1,hle]<;>exact fin
section
variable {α:Type} (enc:α→List Value) (s:Nat)
def Sl (h:Heap) (v:Value) (L:List α):Prop:=
 ∃x cap,v=.slice x L.length cap∧(L≠[]→∃b o,x=some ⟨b,o,none⟩∧b<h.nx∧Has (h.bl.get b) o (L.flatMap enc))
variable {enc s}
theorem Sl.le {h h':Heap} {v:Value} {L:List α} (hs:Sl enc h v L) (hl:Le h h'):Sl enc h' v L:=by
 obtain ⟨x,cap,h1,h2⟩:=hs
 refine ⟨x,cap,h1,fun hn=>?_⟩
 obtain ⟨b,o,e1,e2,e3⟩:=h2 hn
 exact ⟨b,o,e1,Nat.lt_of_lt_of_le e2 hl.nx,by rw[hl.get b e2]; exact e3⟩
theorem Sl.nil (h:Heap) (x:Option Addr) (cap:Nat):Sl enc h (.slice x 0 cap) ([]:List α):=⟨x,cap,rfl,fun hn=>absurd rfl hn⟩
theorem bh (he:∀a:α,(enc a).length=s) (L:List α):(L.flatMap enc).length=L.length*s:=by
 induction L with
 | nil=>simp
 | cons a L ih=>simp[he,ih,Nat.succ_mul,Nat.add_comm]
theorem yz (he:∀a:α,(enc a).length=s):∀(L:List α) (i:Nat) (hi:i<L.length),((L.flatMap enc).drop (i*s)).take s=enc L[i]:=by
 intro L
 induction L with
 | nil=>intro i hi; simp at hi
 | cons a L ih=>
  intro i hi
  cases i with
  | zero=>simp[List.take_append,he]
  | succ i=>
   have:=ih i (by simpa using hi)
   simp only[List.flatMap_cons,List.getElem_cons_succ]
   rw[←this,List.drop_append,show (enc a).drop ((i+1)*s)=[] from List.drop_eq_nil_of_le (by rw[he,Nat.succ_mul]; omega),he,show (i+1)*s-s=i*s by rw[Nat.succ_mul]; omega]
   rfl
theorem Sl.elem {h:Heap} {v:Value} {L:List α} (hs:Sl enc h v L) (he:∀a:α,(enc a).length=s) (i:Nat) (hi:i<L.length) :
  ∃b o cap,v=.slice (some ⟨b,o,none⟩) L.length cap∧b<h.nx∧Has (h.bl.get b) (o+i*s) (enc L[i]):=by
 obtain ⟨x,cap,h1,h2⟩:=hs
 obtain ⟨b,o,e1,e2,e3⟩:=h2 (by intro e; rw[e] at hi; simp at hi)
 subst e1
 refine ⟨b,o,cap,h1,e2,?_⟩
 have hle:i*s+s≤(L.flatMap enc).length:=by
  rw[bh he,←Nat.succ_mul]; exact Nat.mul_le_mul_right _ hi
 have:=e3.sub (i*s) s hle
 rwa [yz he L i hi] at this
theorem Sl.len {h:Heap} {v:Value} {L:List α} (hs:Sl enc h v L) (κ:Value→Heap→β) (h':Heap):bA fl v h' κ=κ (.int .i64 (L.length:Int)) h':=by
 obtain ⟨x,cap,rfl,_⟩:=hs; rfl
theorem Sl.at {h:Heap} {v:Value} {L:List α} (hs:Sl enc h v L) (he:∀a:α,(enc a).length=s) (i:Nat) (hi:i<L.length) :
  ∃b o,b<h.nx∧Has (h.bl.get b) o (enc L[i])∧∀(β:Type) (fl:β) (h':Heap) (κ:Value→Heap→β),ax fl s v (.int .i64 (i:Int)) h' κ=κ (.pointer (some ⟨b,o,none⟩)) h':=by
 obtain ⟨b,o,cap,rfl,h1,h2⟩:=hs.elem he i hi
 exact ⟨b,o+i*s,h1,h2,fun β fl h' κ=>aS s b o _ cap i h' κ hi⟩
theorem Sl.ld {h:Heap} {v:Value} {L:List α} (hs:Sl enc h v L) (he:∀a:α,(enc a).length=s) (i:Nat) {p:α} (hp:L[i]? = some p) :
  ∃b o,b<h.nx∧(∀(β:Type) (fl:β) (h':Heap) (κ:Value→Heap→β),ax fl s v (.int .i64 (i:Int)) h' κ=κ (.pointer (some ⟨b,o,none⟩)) h')∧
   (∀(β:Type) (fl:β) (κ:List Value→β),zm fl (h.bl.get b) o s κ=κ (enc p))∧Has (h.bl.get b) o (enc p):=by
 obtain ⟨hi,rfl⟩:=List.getElem?_eq_some_iff.1 hp
 obtain ⟨b,o,h1,h2,h3⟩:=hs.at he i hi
 exact ⟨b,o,h1,h3,fun β fl κ=>pq h2 s κ (he _).symm,h2⟩
theorem Sl.first {h:Heap} {v:Value} {L:List α} (hs:Sl enc h v L) (he:∀a:α,(enc a).length=s) (κ:List Value→β):eO fl h s L.length v κ=κ (L.flatMap enc):=by
 by_cases hn:L=[]
 ·subst hn; rw[iF _ _ _ _ _ (by simp)]; rfl
 ·obtain ⟨x,cap,rfl,h2⟩:=hs
  obtain ⟨b,o,rfl,e2,e3⟩:=h2 hn
  exact lp e3 _ _ _ _ _ (bh he L).symm
theorem Sl.new {h:Heap} {b:Nat} {L:List α} {e:TypeId} {op:Bool} (hb:b<h.nx) (hg:h.bl.get b=some (aa (L.flatMap enc) e op)) (cap:Nat):Sl enc h (.slice (some ⟨b,0,none⟩) L.length cap) L:=
 ⟨_,cap,rfl,fun _=>⟨b,0,rfl,hb,by rw[hg]; exact Has.all⟩⟩
variable (enc)
def fS (a:Heap) (e:TypeId) (h:Heap) (v:Value) (L:List α):Prop:=
 (L=[]∧(v=.slice none 0 0∨∃b o,v=.slice (some ⟨b,o,none⟩) 0 0))∨∃b,v=.slice (some ⟨b,0,none⟩) L.length aM∧a.nx≤b∧b<h.nx∧h.lo≤b∧h.bl.get b=some (aa (L.flatMap enc) e true)
variable {enc}
theorem fS.sl {a h:Heap} {e:TypeId} {v:Value} {L:List α} (ho:fS enc a e h v L):Sl enc h v L:=by
 rcases ho with ⟨rfl,rfl | ⟨b,o,rfl⟩⟩ | ⟨b,rfl,h1,h2,h3,h4⟩
 ·exact Sl.nil _ _ _
 ·exact Sl.nil _ _ _
 ·exact Sl.new h2 h4 _
theorem fS.le {a h h':Heap} {e:TypeId} {v:Value} {L:List α} (ho:fS enc a e h v L) (hl:Le h h'):fS enc a e h' v L:=by
 rcases ho with ho | ⟨b,h0,h1,h2,h3,h4⟩
 ·exact .inl ho
 ·exact .inr ⟨b,h0,h1,Nat.lt_of_lt_of_le h2 hl.nx,by rw[hl.lo]; exact h3,by rw[hl.get b h2]; exact h4⟩
theorem append_nil {h:Heap} {e:TypeId} {z:List Value} {v x:Value} (hx:Sl enc h x ([]:List α)) (hv:∃b n c,v=.slice b n c) (κ:Value→Heap→β):bE fl e s z false v x h κ=κ v h:=by
 obtain ⟨b,n,c,rfl⟩:=hv
 obtain ⟨y,cap,rfl,_⟩:=hx
 simp only[bE,jH,List.length_nil]
 rw[iF _ _ _ _ _ (by simp)]
set_option maxRecDepth 20000 in
theorem tF {a h:Heap} {e:TypeId} {z:List Value} {v x:Value} {L M:List α} (he:∀a:α,(enc a).length=s) (hone:∀a:α,(enc a).all dR=true) (hs0:0<s) (hs1:s≤100) (ho:fS enc a e h v L) (hx:Sl enc h x M)
  (hle:Le a h) (hb:L.length+M.length≤1000000) (hal:h.lo≤h.nx) (κ:KQ)
  (hk:∀v' h',fS enc a e h' v' (L++M)→Le a h'→h'.nx≤h.nx+1→h.nx≤h'.nx→κ v' h'):bE False e s z false v x h κ:=by
 by_cases hM:M=[]
 ·subst hM
  rw[append_nil hx (by rcases ho with ⟨rfl,rfl | ⟨b,o,rfl⟩⟩ | ⟨b,rfl,_⟩<;>exact ⟨_,_,_,rfl⟩)]
  exact hk v h (by simpa using ho) hle (Nat.le_succ _) (Nat.le_refl _)
 ·obtain ⟨m,hm⟩:∃m,M.length=m+1:=⟨M.length-1,by have:=List.length_pos_iff.2 hM; omega⟩
  have hfl:=bh (enc:=enc) he
  have gY:=hx.first (β:=Prop) (fl:=False) he
  obtain ⟨y,cap,rfl,h2⟩:=hx
  have hml:∀K:List α,K.length≤1000000→(K.flatMap enc).length≤1000000000000:=fun K hK=>by
   rw[hfl]
   have:=Nat.mul_le_mul hK hs1
   omega
  have fresh:∀(hh:Heap) (ws:List Value),ws=(L++M).flatMap enc→Le a hh→hh.nx=h.nx→hh.lo=h.lo→dL False ws e true hh fun b h'=>κ (.slice (some ⟨b,0,none⟩) (L.length+M.length) aM) h':=by
   intro hh ws hw Nj W6 hlo
   subst hw
   unfold dL
   rw[gX _ _ _ _ (hml _ (by simp; omega)),dn]
   refine hk _ _ (.inr ⟨hh.nx,by simp,Nj.nx,Nat.lt_succ_self _,by show hh.lo≤_; omega,T.af _ _ _⟩) (Nj.new _) (by show hh.nx+1≤_; omega) (by show h.nx≤hh.nx+1; omega)
  rcases ho with ⟨rfl,hv⟩ | ⟨b,rfl,h3,h4,h5,h6⟩
  ·have hF:=fresh h (M.flatMap enc) (by simp) hle rfl rfl
   simp only[List.length_nil,Nat.zero_add] at hF
   rcases hv with rfl | ⟨b,o,rfl⟩
   ·unfold bE jH
    simp only
    rw[gY]
    simp only[hm,bG]
    rw[show Nat.ble (Nat.add 0 (m+1)) 1000000000=true from Nat.ble_eq_true_of_le (by show 0+(m+1)≤_; omega)]
    rw[hm] at hF
    have e1:Nat.add 0 (m+1)=m+1:=by show 0+(m+1)=_; omega
    rw[e1]
    exact hF
   ·unfold bE jH
    simp only
    rw[gY]
    simp only[hm,bG]
    have e1:Nat.add 0 (m+1)=m+1:=by show 0+(m+1)=_; omega
    rw[e1,show Nat.ble (m+1) 1000000000=true from Nat.ble_eq_true_of_le (by omega)]
    rw[hm] at hF
    show eO False h s 0 _ _
    rw[iF _ _ _ _ _ (by simp)]
    exact hF
  ·unfold bE jH
   simp only
   rw[gY]
   simp only[hm,bG]
   have e1:Nat.add L.length (m+1)=L.length+(m+1):=rfl
   rw[e1,show Nat.ble (L.length+(m+1)) 1000000000=true from Nat.ble_eq_true_of_le (by omega)]
   have e2:Nat.beq aM fk=false:=by decide
   have e3:Nat.beq aM aM=true:=Nat.beq_refl _
   simp only[e2,e3,h6]
   have e4:Nat.ble (Nat.add 0 (Nat.mul (L.length+(m+1)) s)) (L.flatMap enc).length=false:=by
    rw[hfl]
    cases O6:Nat.ble (Nat.add 0 (Nat.mul (L.length+(m+1)) s)) (L.length*s) with
    | false=>rfl
    | true=>
     have h7:0+(L.length+(m+1))*s≤L.length*s:=Nat.le_of_ble_eq_true O6
     rw[Nat.add_mul,Nat.succ_mul] at h7
     omega
   have e5:(M.flatMap enc).all dR=true:=by
    rw[List.all_flatMap]; simp only[List.all_eq_true]; intro x _; exact List.all_eq_true.1 (hone x)
   simp only[aa,Nat.beq_refl,e4,e5,Bool.and_self]
   have hh:Has (h.bl.get b) 0 (L.flatMap enc):=by rw[h6]; exact Has.all
   rw[lp hh s L.length _ _ _ (hfl L).symm,bL _ _ _ _ h5]
   have hF:=fresh ⟨h.nx,h.bl.aW b (.dead (L.flatMap enc).length e),h.lo⟩ (L.flatMap enc++M.flatMap enc) (by simp) (hle.set h3 _) rfl rfl
   rw[hm] at hF
   exact hF
end
end Go.Vai
namespace Go.Vai
open Go
theorem wZ (zs:List Value):aO zs 1=zs:=by simp[aO]
theorem q_ (w:Bool):aj undef w=false:=by cases w<;>rfl
theorem HD (a:Value) (l:List Value):slot (a::l) 0=a:=id rfl
theorem HF (a:Value) (l:List Value) (n:Nat):slot (a::l) (n+1)=slot l n:=id rfl
theorem ng (l:List Value):(Value.cells (.agg ⟨l⟩)).toList=l:=id rfl
theorem ni (k:IntKind) (n:Int):(Value.cells (.int k n)).toList=[.int k n]:=id rfl
theorem lq (b:Bool):(Value.cells (.bool b)).toList=[.bool b]:=id rfl
theorem nj (a:Option Addr):(Value.cells (.pointer a)).toList=[.pointer a]:=id rfl
theorem jP (a:Option Addr) (n c:Nat):(Value.cells (.slice a n c)).toList=[.slice a n c]:=id rfl
theorem D_ (k:IntKind) (n:Int):dR (.int k n)=true:=id rfl
theorem Ao (b:Bool):dR (.bool b)=true:=id rfl
theorem Ea (s:ByteArray):dR (.string s)=true:=id rfl
theorem Eb (a:Option Addr):dR (.pointer a)=true:=id rfl
theorem Ec (a:Option Addr) (n c:Nat):dR (.slice a n c)=true:=id rfl
theorem Ed (a:Option Nat):dR (.map a)=true:=id rfl
theorem Ee (f:Fn) (a b:Array Value):dR (.func f a b)=true:=id rfl
theorem Ef (t:TypeId) (v:Value):dR (.iface t v)=true:=id rfl
theorem pz (vs ws:List Value) (h:ws.length=vs.length):over vs 0 ws=ws:=by simp[over,h]
variable {β:Type} {fl:β}
theorem HG:∀(new old:List Value) (κ:List Value→β),new.length≤old.length→oO fl new old κ=κ (over old 0 new):=by
 intro new
 induction new with
 | nil=>intro old κ _; rw[Ag]; cases old<;>rfl
 | cons v new ih=>
  intro old κ h
  cases old with
  | nil=>simp at h
  | cons o old=>
   simp only[oO]
   rw[ih old _ (by simpa using h)]
   simp[over]
theorem Lj (new:List Value):∀(o:Nat) (old:List Value) (κ:List Value→β),o+new.length≤old.length→vI fl new o old κ=κ (over old o new):=by
 intro o
 induction o with
 | zero=>
  intro old κ h
  have:vI fl new 0 old κ=oO fl new old κ:=by cases old<;>rfl
  rw[this,HG _ _ _ (by simpa using h)]
 | succ o ih=>
  intro old κ h
  cases old with
  | nil=>simp at h
  | cons v old=>
   simp only[vI]
   rw[ih old _ (by simp at h; omega)]
   simp[over,Nat.add_right_comm]
theorem pE (cs:List Value) (κ:List Value→β):bD fl [] [] cs κ=κ cs:=id rfl
theorem nk (off size:Nat) (ps:List (Nat × Nat)) (v:Value) (vs cs:List Value) (κ:List Value→β) (h1:v.cells.toList.length=size) (h2:off+size≤cs.length) :
  bD fl ((off,size)::ps) (v::vs) cs κ=bD fl ps vs (over cs off v.cells.toList) κ:=by
 subst h1
 show (match Nat.beq v.cells.toList.length v.cells.toList.length with | false=>fl | true=>vI fl v.cells.toList off cs fun cs=>bD fl ps vs cs κ)=_
 rw[Nat.beq_refl]
 simp only
 rw[Lj _ _ _ _ h2]
theorem HH (size:Nat) (v:Value) (cs:List Value) (κ:List Value→β) (h1:v.cells.toList.length=size) (h2:cs.length=size):bD fl [(0,size)] [v] cs κ=κ v.cells.toList:=by
 rw[nk _ _ _ _ _ _ _ h1 (by omega),pE,pz _ _ (by omega)]
end Go.Vai

namespace Go.Vai
open Go
section
variable {β:Type} {fl:β} {P:Program} {h h':Heap} {κ:Value→Heap→β} {a a' b b' c c':Value}
@[congr] theorem O7 {op:BinOp} {t:TypeId} {cn gd:Bool} (ha:a=a') (hb:b=b'):au fl P op t cn gd a b h κ=au fl P op t cn gd a' b' h κ:=by rw[ha,hb]
@[congr] theorem Sm {op:UnOp} (ha:a=a'):kU fl op a h κ=kU fl op a' h κ:=by rw[ha]
@[congr] theorem Nk {k:IntKind} (ha:a=a'):gU fl k a h κ=gU fl k a' h κ:=by rw[ha]
@[congr] theorem Nl (hc:c=c') (ha:a=a') (hb:b=b'):a_ fl c a b h κ=a_ fl c' a' b' h κ:=by rw[ha,hb,hc]
@[congr] theorem O8 (ha:a=a'):aX fl a h κ=aX fl a' h κ:=by rw[ha]
@[congr] theorem FA {o:Nat} (ha:a=a'):fieldAddrB fl o a h κ=fieldAddrB fl o a' h κ:=by rw[ha]
@[congr] theorem FC {s:Nat} (ha:a=a') (hb:b=b'):ax fl s a b h κ=ax fl s a' b' h κ:=by rw[ha,hb]
@[congr] theorem FD {n s:Nat} (ha:a=a') (hb:b=b'):dA fl n s a b h κ=dA fl n s a' b' h κ:=by rw[ha,hb]
@[congr] theorem Ll {g:Bool} {s o:Nat} (ha:a=a'):sG fl g s o a h κ=sG fl g s o a' h κ:=by rw[ha]
@[congr] theorem Lm {g:Bool} {n s:Nat} (ha:a=a') (hb:b=b'):sH fl g n s a b h κ=sH fl g n s a' b' h κ:=by rw[ha,hb]
@[congr] theorem Ln (ha:a=a') (hb:b=b'):n9 fl a b h κ=n9 fl a' b' h κ:=by rw[ha,hb]
@[congr] theorem HI {i:Nat} (ha:a=a'):av fl i a h κ=av fl i a' h κ:=by rw[ha]
@[congr] theorem Nn (ha:a=a'):load1 fl a h κ=load1 fl a' h κ:=by rw[ha]
@[congr] theorem No {s:Nat} (ha:a=a'):aF fl s a h κ=aF fl s a' h κ:=by rw[ha]
@[congr] theorem Lo {s:Nat} (ha:a=a') (hb:b=b'):aL fl s a b h κ=aL fl s a' b' h κ:=by rw[ha,hb]
@[congr] theorem Sn {o o':Option bC} {i:Nat} {k:Value→β} (ho:o=o'):o_ fl o i k=o_ fl o' i k:=by rw[ho]
@[congr] theorem Sp {o o':Option bC} {i s:Nat} {k:List Value→β} (ho:o=o'):zm fl o i s k=zm fl o' i s k:=by rw[ho]
@[congr] theorem Sq {o o':Option bC} {s i j:Nat} {ws Np:List Value} {k:Heap→β} (ho:o=o') (hw:ws=Np) (hh:h=h'):Kp fl o s i j ws h k=Kp fl o' s i j Np h' k:=by rw[ho,hw,hh]
@[congr] theorem O9 {o o':Option Value} {k:Value→β} (ho:o=o'):CI fl o k=CI fl o' k:=by rw[ho]
@[congr] theorem HJ {o:bC} {k:Nat→Heap→β} (hh:h=h'):an fl o h k=an fl o h' k:=by rw[hh]
@[congr] theorem HK {i:Nat} {o:bC} {k:Heap→β} (hh:h=h'):setBlock fl i o h k=setBlock fl i o h' k:=by rw[hh]
@[congr] theorem Lp {ws Np:List Value} {e:TypeId} {g:Bool} {k:bC→β} (hw:ws=Np):az fl ws e g k=az fl Np e g k:=by rw[hw]
@[congr] theorem HL {ws Np:List Value} {e:TypeId} {g:Bool} {k:Nat→Heap→β} (hw:ws=Np) (hh:h=h'):dL fl ws e g h k=dL fl Np e g h' k:=by rw[hw,hh]
@[congr] theorem Nq {ps:List (Nat × Nat)} {vs vs' cs cs':List Value} {k:List Value→β} (hv:vs=vs') (hc:cs=cs'):bD fl ps vs cs k=bD fl ps vs' cs' k:=by rw[hv,hc]
@[congr] theorem Lq {e s:Nat} {l u m l' u' m':Option Value} (ha:a=a') (hl:l=l') (hu:u=u') (hm:m=m'):sliceB fl e s a l u m h κ=sliceB fl e s a' l' u' m' h κ:=by rw[ha,hl,hu,hm]
@[congr] theorem Lr {l u m l' u' m':Option Value} (ha:a=a') (hl:l=l') (hu:u=u') (hm:m=m'):sF fl a l u m h κ=sF fl a' l' u' m' h κ:=by rw[ha,hl,hu,hm]
@[congr] theorem Kq {e s:Nat} {z:List Value} {g:Bool} (ha:a=a') (hb:b=b') (hh:h=h'):bE fl e s z g a b h κ=bE fl e s z g a' b' h' κ:=by rw[ha,hb,hh]
@[congr] theorem Nr {s:Nat} (ha:a=a') (hb:b=b'):zq fl s a b h κ=zq fl s a' b' h κ:=by rw[ha,hb]
@[congr] theorem Ls {z:List Value} (ha:a=a'):iO fl z a h κ=iO fl z a' h κ:=by rw[ha]
@[congr] theorem Lt (ha:a=a'):bA fl a h κ=bA fl a' h κ:=by rw[ha]
@[congr] theorem Lu (ha:a=a'):lT fl a h κ=lT fl a' h κ:=by rw[ha]
@[congr] theorem Lv (ha:a=a'):kW fl a h κ=kW fl a' h κ:=by rw[ha]
@[congr] theorem Kr {t:TypeId} {z:Value} {g:Bool} (ha:a=a') (hb:b=b'):cZ fl P t z g a b h κ=cZ fl P t z g a' b' h κ:=by rw[ha,hb]
@[congr] theorem FE {t:TypeId} (ha:a=a') (hb:b=b') (hc:c=c'):bX fl P t a b c h κ=bX fl P t a' b' c' h κ:=by rw[ha,hb,hc]
@[congr] theorem Ks {t:TypeId} (ha:a=a') (hb:b=b'):jI fl P t a b h κ=jI fl P t a' b' h κ:=by rw[ha,hb]
@[congr] theorem Lw (ha:a=a'):kX fl a h κ=kX fl a' h κ:=by rw[ha]
@[congr] theorem Ns {f:β→β→β} (ha:a=a'):nM fl f a h κ=nM fl f a' h κ:=by rw[ha]
@[congr] theorem Lx (ha:a=a'):kY fl a h κ=kY fl a' h κ:=by rw[ha]
@[congr] theorem Eg {t:TypeId} {z:Value} {g:Bool} (ha:a=a'):dM fl t z g a h κ=dM fl t z g a' h κ:=by rw[ha]
@[congr] theorem O_ (ha:a=a') (hb:b=b'):GH fl a b h κ=GH fl a' b' h κ:=by rw[ha,hb]
@[congr] theorem Pa (ha:a=a') (hb:b=b'):GI fl a b h κ=GI fl a' b' h κ:=by rw[ha,hb]
end
section
variable {P:Program} {h h':Heap} {κ:Value→Heap→Prop}
@[congr] theorem Sr {o o':Option Value} (ho:o=o'):aI o h κ=aI o' h κ:=by rw[ho]
@[congr] theorem Ss {o o':Option (bC × (Nat→Value))} (ho:o=o'):GD o h κ=GD o' h κ:=by rw[ho]
@[congr] theorem Ly {b b':Bool} {f:(Value→Heap→Prop)→Prop} (hb:b=b'):ah b f h κ=ah b' f h κ:=by rw[hb]
@[congr] theorem Nt {b b':Bool} {p:Prop} (hb:b=b'):dG b p=dG b' p:=by rw[hb]
@[congr] theorem Nu {v v':Value} {A B:Prop} (hv:v=v'):ay v A B=ay v' A B:=by rw[hv]
@[congr] theorem Nv {A:(List Value→Heap→Prop)→Prop} {B:List Value→Heap→Prop}:dH A B=dH A B:=rfl
@[congr] theorem Nw {l l':List Value} {body:List Value→Heap→(List Value→Heap→Prop)→Prop} (hh:h=h'):dP l h body=dP l h' body:=by rw[hh]
@[congr] theorem Nx {f:FuncId} {l l':List Value} (hl:l=l') (hh:h=h'):CallW P f l h κ=CallW P f l' h' κ:=by rw[hl,hh]
@[congr] theorem Ny {v v':Value} {l l':List Value} (hv:v=v') (hl:l=l') (hh:h=h'):iE P v l h κ=iE P v' l' h' κ:=by rw[hv,hl,hh]
@[congr] theorem Nz {n:String} {v v':Value} {l l':List Value} (hv:v=v') (hl:l=l') (hh:h=h'):CallI P n v l h κ=CallI P n v' l' h' κ:=by rw[hv,hl,hh]
end
end Go.Vai

namespace Go.Vai
open Go Go.RowKit Go.WideShapes Go.ChangeShapes
variable {P:Program}
theorem HM {φ φ':di} {h h':Heap} {w w':World} (hx:Ext φ φ' h h' w w') (hro:∀b pl,φ b=some pl→b<h.lo∧∃o,h.bl.get b=some o∧o.live):Below w.heap.size w w':=by
 refine ⟨hx.os,hx.tape,hx.output,hx.size,fun B hB=>?_⟩
 by_cases he:∃b pl,φ b=some pl∧pl.B=B
 ·obtain ⟨b,pl,h1,rfl⟩:=he
  obtain ⟨h2,o,h3,h4⟩:=hro b pl h1
  exact hx.DI b o pl h2 h3 h4 h1 hB
 ·exact hx.xX B hB fun b pl h1 h2=>he ⟨b,pl,h1,h2⟩
theorem Lz {f:FuncId} {args args':List Value} {φ:di} {h:Heap} {w:World} (hc:CallW P f args h yy) (ha:F2 (VR φ) args args') (hr:HR P φ h w) (hro:∀b pl,φ b=some pl→b<h.lo∧∃o,h.bl.get b=some o∧o.live) :
  Calls P f args'.toArray w fun e w'=>e=.returned (.bool true)∧Below w.heap.size w w':=by
 refine Calls.mono (hc φ w args' ha hr).2 ?_
 rintro e w' ⟨φ',v,v',h',rfl,g1,g2,g3,g4⟩
 have g1:v=.bool true:=g1
 subst g1
 cases g2
 exact ⟨rfl,HM g4 hro⟩
section
variable {α:Type} {cv:α→List Value} {s:Nat}
def iU (cv:α→List Value) (w:World) (v:Value) (L:List α):Prop:=
 (L=[]∧(v=.slice none 0 0∨∃a cap,v=.slice (some a) 0 cap))∨
 ∃B o cap C e fz,v=.slice (some ⟨B,o,none⟩) L.length cap∧L.length≤cap∧cap≤maxLen∧w.heap[B]? = some (.cells C e fz)∧o+(L.flatMap cv).length≤C.size∧∀j u,(L.flatMap cv)[j]? = some u→C[o+j]? = some u
theorem Ap {n:Nat} {p:Nat→α→Prop} (h:∀i,i<n→∃x,p i x):∃L:List α,L.length=n∧∀i a,L[i]? = some a→p i a:=by
 induction n with
 | zero=>exact ⟨[],rfl,fun i a e=>by simp at e⟩
 | succ n ih=>
  obtain ⟨L,h1,h2⟩:=ih fun i hi=>h i (Nat.lt_succ_of_lt hi)
  obtain ⟨a,ha⟩:=h n (Nat.lt_succ_self n)
  refine ⟨L++[a],by simp[h1],fun i b e=>?_⟩
  rcases Nat.lt_or_ge i n with hi | hi
  ·rw[List.getElem?_append_left (by omega)] at e; exact h2 i b e
  ·have:i=n:=by
    have:=(List.getElem?_eq_some_iff.1 e).1
    simp[h1] at this; omega
   subst this
   rw[List.getElem?_append_right (by omega),h1] at e
   simp at e; subst e; exact ha
theorem yA (he:∀a:α,(cv a).length=s) (hs:0<s):∀(L:List α) (j:Nat) (u:Value),(L.flatMap cv)[j]? = some u→∃a,L[j / s]? = some a∧(cv a)[j % s]? = some u:=by
 intro L
 induction L with
 | nil=>intro j u e; simp at e
 | cons a L ih=>
  intro j u e
  simp only[List.flatMap_cons] at e
  rcases Nat.lt_or_ge j s with hj | hj
  ·rw[List.getElem?_append_left (by rw[he]; exact hj)] at e
   rw[Nat.div_eq_of_lt hj,Nat.mod_eq_of_lt hj]
   exact ⟨a,rfl,e⟩
  ·rw[List.getElem?_append_right (by rw[he]; exact hj),he] at e
   obtain ⟨b,h1,h2⟩:=ih (j-s) u e
   refine ⟨b,?_,?_⟩
   ·rw[Nat.div_eq_sub_div hs hj]; simpa using h1
   ·rw[Nat.mod_eq_sub_mod hj]; exact h2
theorem HO {H:Type} {enc:TypeId × Value→H} {w:World} {t e:TypeId} {fuel:Nat} {v:Value} {x:DataW H × List MemPlace} (he:∀a:α,(cv a).length=s) (hs:0<s) (ht:P.underlying t=some (.slice e)) (hc:P.cellsOf e=s)
  (CL:∀(n:Nat) (cs:List Value) (d:DataW H × List MemPlace),cs.length=s→DataW.trod enc P w 0 (fun _=>true) true n e cs=some d→∃a:α,cs=cv a)
  (h:DataW.trod enc P w 0 (fun _=>true) true fuel t [v]=some x):∃L:List α,iU cv w v L:=by
 rcases Go.Deep.open_slice ht h with ⟨h1,_⟩ | ⟨a,len,cap,m,n,D,Pl,h1,hb,hl,hm,Si,hx,hi⟩
 ·cases h1; exact ⟨[],.inl ⟨rfl,.inl rfl⟩⟩
 ·cases h1
  simp only[if_true] at Si
  subst Si
  by_cases hlen:len=0
  ·subst hlen; exact ⟨[],.inl ⟨rfl,.inr ⟨a,_,rfl⟩⟩⟩
  ·have hel:∀i,i<len→∃p:α,∀j u,(cv p)[j]? = some u→w.cell? (a.add (i*s+j))=some u:=by
    intro i hil
    obtain ⟨cs,h2,h3⟩:=hi i (by omega)
    rw[hc] at h2
    obtain ⟨_,h4,h5⟩:=World.cells?_some h2
    obtain ⟨p,rfl⟩:=CL n cs _ h4 h3
    refine ⟨p,fun j u hj=>?_⟩
    have W8:j<s:=by have:=(List.getElem?_eq_some_iff.1 hj).1; rwa [he] at this
    have:=h5 j W8
    rw[Go.Deep.add_add] at this
    rw[this,hj]
   obtain ⟨L,hL,hp⟩:=Ap hel
   have hcell:∀j u,(L.flatMap cv)[j]? = some u→w.cell? (a.add j)=some u:=by
    intro j u hj
    obtain ⟨p,g1,g2⟩:=yA he hs L j u hj
    have:=hp _ p g1 _ u g2
    rwa [Nat.mul_comm,Nat.div_add_mod] at this
   have hfl:=bh (enc:=cv) he L
   have hpos:0<(L.flatMap cv).length:=by rw[hfl,hL]; exact Nat.mul_pos (by omega) hs
   have h0:=hcell 0 _ (List.getElem?_eq_getElem hpos)
   have ha0:a.add 0=a:=by simp[Addr.add]
   rw[ha0] at h0
   obtain ⟨B,o,sp⟩:=a
   unfold World.cell? at h0
   split at h0<;>try contradiction
   rename_i C e' fz hC
   cases sp with
   | some q=>simp at h0
   | none=>
    refine ⟨L,.inr ⟨B,o,m,C,e',fz,by rw[hL],by omega,hm,hC,?_,?_⟩⟩
    ·have Aq:=hcell ((L.flatMap cv).length-1) _ (List.getElem?_eq_getElem (by omega))
     have GU:(⟨B,o,none⟩:Addr).add ((L.flatMap cv).length-1)=⟨B,o+((L.flatMap cv).length-1),none⟩:=by unfold Addr.add; split<;>simp_all
     rw[GU] at Aq
     simp only[World.cell?,hC] at Aq
     have:=(Array.getElem?_eq_some_iff.1 Aq).1
     omega
    ·intro j u hj
     have hx:=hcell j u hj
     have GU:(⟨B,o,none⟩:Addr).add j=⟨B,o+j,none⟩:=by unfold Addr.add; split<;>simp_all
     rw[GU] at hx
     simpa[World.cell?,hC] using hx
def ri:Heap:=⟨0,.nil,0⟩
def Tr:di:=fun _=>none
theorem HS (w:World):HR P Tr ri w:=HR.start w
end
section
variable {H:Type} {enc:TypeId × Value→H}
theorem post_of_law {f:Func} {s:ChangeSpec} {apart fresh handsOn again:Bool} {W W':World} {args:Array Value} {v:Value} {ds gs:List (DataW H)} {before pa pv:List MemPlace}
  (hW:DataW.Whole enc P f.params.toList s.vars apart W args.toList ds gs before)
  (hres:∀(b:Nat) (sp:Nat→Bool) (hd:Bool),DataW.TrodAll enc P W' b sp hd f.resultTypes.toList (v.resultList f.resultTypes.size) (s.fn H (ds++gs)).results [])
  (hargs:∀sp:Nat→Bool,(∀p∈before,sp p.block=true)→DataW.TrodAll enc P W' 0 sp true f.params.toList args.toList (s.fn H (ds++gs)).args pa)
  (hvars:∀sp:Nat→Bool,(∀p∈before,sp p.block=true)→DataW.TrodVars enc P W' sp s.vars (s.fn H (ds++gs)).vars pv)
  (hps:before=pa++pv) (hb:Below W.heap.size W W')
  (hok:∀(j:Nat) (t:TypeId) (r:Value),f.resultTypes[j]? = some t→(v.resultList f.resultTypes.size)[j]? = some r→Value.okWide P W' .any 0 t r) :
  s.post enc P f apart fresh handsOn again W args v W':=by
 have hlt:∀p∈before,p.block<W.heap.size:=fun p hp=>hW.lt p hp
 have hold:∀p∈before,(fun b=>decide (b<W.heap.size)) p.block=true:=fun p hp=>by simpa using hlt p hp
 refine ⟨ds,gs,before,[],pa,pv,hW,hres _ _ _,hargs _ hold,hvars _ hold,World.keptBut_mono (fun p hp=>⟨hp,?_⟩) (hb.frame (·∈before)),fun _=>?_⟩
 ·rw[hps,List.mem_append] at hp
  exact Or.inr hp
 ·obtain ⟨_,_,_,_,_,hz,hn⟩:=hW
  refine ⟨hok,_,_,([]++pa)++pv,⟨[]++pa,pv,trodAll_append (hargs _ (fun _ _=>rfl)) (hres _ _ _),hvars _ (fun _ _=>rfl),rfl,?_,?_⟩,?_⟩
  ·intro b off hp
   have hin:MemPlace.cell b off∈before:=by rw[hps]; simpa using hp
   rw[hb.frozen (hlt _ hin)]
   exact hz b off hin
  ·intro ha
   have:=hn ha
   rw[hps] at this
   simpa using this
  ·intro p hp _
   rw[hps]
   simpa using hp
theorem arg_stays {t:TypeId} (hl:laidOutB P=true) (hr:P.readableRec t=true) (hrow:t<P.types.size) {W W':World} {v:Value} {d:DataW H} {ps:List MemPlace}
  (h:DataW.Trod enc P W 0 (fun _=>true) true t v d ps) (hb:Below W.heap.size W W') (hlt:∀x∈ps,x.block<W.heap.size) {sp:Nat→Bool} (hsp:∀x∈ps,sp x.block=true) :
  DataW.Trod enc P W' 0 sp true t v d ps:=
 WideElems.Trod_stays hl hr hrow h (fun x hx=>hb.same (hlt x hx)) (fun x hx=>by simpa using hsp x hx)
end
end Go.Vai
namespace Go.Vai
open Go Go.RowKit
variable {P:Program}
theorem fD {f:FuncId} {args:List Value} {v:Value} (ha:args.all kq=true) (hv:kq v=true) (hc:CallW P f args ri fun u _=>u=v) {h:Heap} {κ:Value→Heap→Prop} (hk:κ v h):CallW P f args h κ:=by
 intro φ w args' hf hr
 have:=An ha hf
 subst this
 obtain ⟨c1,c2⟩:=hc Tr w args' (Am ha) (HS w)
 refine ⟨c1,c2.mono ?_⟩
 rintro e w' ⟨φ',v1,v',h',rfl,rfl,g2,g3,g4⟩
 have hfr:∀B,B<w.heap.size→w'.heap[B]? = w.heap[B]?:=fun B hB=>g4.xX B hB fun b pl e=>by cases e
 refine ⟨φ,v1,v',h,rfl,hk,by rw[lg hv g2]; exact yx hv,?_,?_⟩
 ·exact ⟨fun b o pl h1 h2=>by rw[hfr _ (hr.dom b pl h2).2]; exact hr.obj b o pl h1 h2,fun b pl h1=>⟨(hr.dom b pl h1).1,Nat.lt_of_lt_of_le (hr.dom b pl h1).2 g4.size⟩,hr.keys,hr.KJ,hr.inj,hr.lo⟩
 ·exact ⟨Sub.refl φ,fun b pl e e'=>(by rw[e] at e'; cases e'),Nat.le_refl _,g4.size,fun B hB _=>hfr B hB,fun _ _ _=>rfl,g4.tape,g4.os,g4.output,fun _ _=>trivial,rfl,fun _ _=>rfl,fun b o pl _ _ _ _ hB=>hfr _ hB,g4.dr⟩
theorem Ar (u v:Value):gz (some u) v=jD 8 u v:=id rfl
theorem w5 (zs:List Value):aO zs 0=[]:=id rfl
theorem w6 (a:Value):aO [a] 2=[a,a]:=by simp[aO]
theorem HT (a:Value) (l:List Value) (n:Nat) (ws:List Value):over (a::l) (n+1) ws=a::over l n ws:=by simp[over,Nat.add_right_comm]
theorem HU (a w:Value) (l ws:List Value):over (a::l) 0 (w::ws)=w::over l 0 ws:=by simp[over]
theorem HV (l:List Value):over l 0 []=l:=by simp[over]
theorem As (u:Value):Yh (some u)=true:=id rfl
theorem Au (r:Bool):Yi true r=r:=id rfl
theorem w8 (r:Bool):Yi false r=true:=id rfl
theorem gZ (n:Nat):Nat.beq n n=true:=Nat.beq_refl n
theorem FF (n:Int):oN n n=true:=by rw[eX]; simp
theorem Av (k:IntKind):fO k k=true:=by rw[eN]; simp
theorem LA (n:Nat) (k:IntKind) (a:Int):jD (n+1) (.int k a) (.int k a)=true:=by unfold jD; simp[Av,FF]
theorem jQ (k:IntKind) (a:Int):jD 8 (.int k a) (.int k a)=true:=LA 7 k a
theorem kJ (a:Bool):jD 8 (.bool a) (.bool a)=true:=by unfold jD; simp
theorem Eh (b o:Nat):jD 8 (.pointer (some ⟨b,o,none⟩)) (.pointer (some ⟨b,o,none⟩))=true:=by unfold jD; simp[gZ]
theorem r6 (b o n c:Nat):jD 8 (.slice (some ⟨b,o,none⟩) n c) (.slice (some ⟨b,o,none⟩) n c)=true:=by unfold jD; simp[gZ]
theorem yB (n c:Nat):jD 8 (.slice none n c) (.slice none n c)=true:=by unfold jD; simp[gZ]
theorem qz (n:Nat) (l:List Int):sD (jD (n+1)) (l.map (Value.int .i64)) (l.map (Value.int .i64))=true:=by
 induction l with
 | nil=>rfl
 | cons a l ih=>simp only[List.map_cons,sD,LA,ih,Bool.and_self]
theorem Aw (l:List Int):jD 8 (.agg ⟨l.map (.int .i64)⟩) (.agg ⟨l.map (.int .i64)⟩)=true:=by
 unfold jD; exact qz 6 l
theorem NA (a b:Int):jD 8 (.agg ⟨[.int .i64 a,.int .i64 b]⟩) (.agg ⟨[.int .i64 a,.int .i64 b]⟩)=true:=Aw [a,b]
theorem NB (a b c d:Int):jD 8 (.agg ⟨[.int .i64 a,.int .i64 b,.int .i64 c,.int .i64 d]⟩) (.agg ⟨[.int .i64 a,.int .i64 b,.int .i64 c,.int .i64 d]⟩)=true:=Aw [a,b,c,d]
end Go.Vai
namespace Go.Vai
open Go
variable {β:Type} {fl:β}
theorem tG (n:Nat) (d:Nat) (κ:Nat→β):vJ fl (some (.int .i64 (n:Int))) d κ=κ n:=id rfl
theorem nq (d:Nat) (κ:Nat→β):vJ fl none d κ=κ d:=id rfl
theorem CM {h:Heap} {e s b n i:Nat} {vs:List Value} (hs:0<s) (hb:h.bl.get b=some (aa vs e true)) (hvs:vs.length=n*s) (hi:i<n) (κ:Value→Heap→β) :
  sliceB fl e s (.slice (some ⟨b,0,none⟩) n aM) (some (.int .i64 (i:Int))) none none h κ=κ (.slice (some ⟨b,i*s,none⟩) (n-i) aM) h:=by
 obtain ⟨s,rfl⟩:∃k,s=k+1:=⟨s-1,by omega⟩
 have hk:fZ h e b=some (n*(s+1)):=by unfold fZ; rw[hb]; simp only[aa,gZ,hvs]
 have hd:Nat.div (Nat.sub (n*(s+1)) 0) (s+1)=n:=by show (n*(s+1)-0) / (s+1)=n; rw[Nat.sub_zero,Nat.mul_div_cancel _ (by omega)]
 have e1:Nat.beq aM fk=false:=by decide
 have e2:Nat.beq aM aM=true:=Nat.beq_refl _
 have e3:Nat.ble 0 (n*(s+1))=true:=Nat.ble_eq_true_of_le (Nat.zero_le _)
 have e4:Nat.ble i n=true:=Nat.ble_eq_true_of_le (by omega)
 have e5:Nat.ble n n=true:=Nat.ble_eq_true_of_le (Nat.le_refl _)
 have e6:Nat.beq i n=false:=by
  cases hq:Nat.beq i n with
  | false=>rfl
  | true=>have:=cu hq; omega
 unfold sliceB gG
 simp only[e1,e2,hk,e3,hd,tG,nq,e4,e5,e6,bG]
 show κ (.slice (some ⟨b,0+i*(s+1),none⟩) (n-i) aM) h=_
 rw[Nat.zero_add]
theorem Ax {h:Heap} {e s b n m i:Nat} {vs:List Value} (hs:0<s) (hb:h.bl.get b=some (aa vs e true)) (hvs:vs.length=n*s) (hn:0<n) (hi:i≤n) (κ:Value→Heap→β) :
  sliceB fl e s (.slice (some ⟨b,0,none⟩) m aM) none (some (.int .i64 (i:Int))) none h κ=κ (.slice (some ⟨b,0,none⟩) i aM) h:=by
 obtain ⟨s,rfl⟩:∃k,s=k+1:=⟨s-1,by omega⟩
 have hk:fZ h e b=some (n*(s+1)):=by unfold fZ; rw[hb]; simp only[aa,gZ,hvs]
 have hd:Nat.div (Nat.sub (n*(s+1)) 0) (s+1)=n:=by show (n*(s+1)-0) / (s+1)=n; rw[Nat.sub_zero,Nat.mul_div_cancel _ (by omega)]
 have e1:Nat.beq aM fk=false:=by decide
 have e2:Nat.beq aM aM=true:=Nat.beq_refl _
 have e3:Nat.ble 0 (n*(s+1))=true:=Nat.ble_eq_true_of_le (Nat.zero_le _)
 have e4:Nat.ble 0 i=true:=Nat.ble_eq_true_of_le (Nat.zero_le _)
 have e5:Nat.ble i n=true:=Nat.ble_eq_true_of_le hi
 have e6:Nat.beq 0 n=false:=by
  cases hq:Nat.beq 0 n with
  | false=>rfl
  | true=>have:=cu hq; omega
 unfold sliceB gG
 simp only[e1,e2,hk,e3,hd,tG,nq,e4,e5,e6,bG]
 show κ (.slice (some ⟨b,0+0*(s+1),none⟩) (i-0) aM) h=_
 rw[Nat.zero_mul,Nat.sub_zero]
theorem Ay {h:Heap} {b o n c e:Nat} {op:Bool} {vs zero:List Value} (hb:h.bl.get b=some (aa vs e op)) (hn:0<n) (hl:o+(aO zero n).length≤vs.length) (h1:(aO zero n).all dR=true) (hlo:h.lo≤b) (κ:Value→Heap→β) :
  iO fl zero (.slice (some ⟨b,o,none⟩) n c) h κ=κ (.tuple #[]) ⟨h.nx,h.bl.aW b (aa (over vs o (aO zero n)) e op),h.lo⟩:=by
 obtain ⟨n,rfl⟩:∃k,n=k+1:=⟨n-1,by omega⟩
 unfold iO
 simp only[hb,aa]
 rw[qw _ _ _ _ _ hl h1,bL _ _ _ _ hlo,yw _ _ _ hl,mD hl]
end Go.Vai
namespace Go.Vai
open Go Go.RowKit Go.WideShapes Go.ChangeShapes
section
variable {P:Program} {α:Type} {cv:α→List Value} {s:Nat} {H:Type} {enc:TypeId × Value→H}
theorem open_sliceArg {W:World} {t e:TypeId} {v:Value} {d:DataW H} {p:List MemPlace} {base:Nat} (he:∀a:α,(cv a).length=s) (hs:0<s) (ht:P.underlying t=some (.slice e)) (hc:P.cellsOf e=s)
  (CL:∀(n:Nat) (cs:List Value) (d:DataW H × List MemPlace),cs.length=s→DataW.trod enc P W 0 (fun _=>true) true n e cs=some d→∃a:α,cs=cv a)
  (hw:Value.okWide P W .any base t v) (h:DataW.Trod enc P W 0 (fun _=>true) true t v d p):∃L:List α,iU cv W v L:=by
 obtain ⟨fuel,hf⟩:=h
 have hcs:v.cells.toList=[v]:=by
  unfold Value.okWide at hw
  rw[ht] at hw
  simp only at hw
  unfold Cell.okWide Cell.ok at hw
  rw[ht] at hw
  cases v<;>first | rfl | (simp at hw)
 rw[hcs] at hf
 exact HO he hs ht hc CL hf
end
end Go.Vai

namespace Go.Vai
open Go
theorem NC:(!true)=false:=id rfl
theorem ND:(!false)=true:=id rfl
theorem Tt:decide True=true:=by simp
theorem Tu:decide False=false:=by simp
theorem Ld0 (l:List Value):l.drop 0=l:=id rfl
theorem Lts (a:Value) (l:List Value) (n:Nat):(a::l).take (n+1)=a::l.take n:=id rfl
theorem Lt0 (l:List Value):l.take 0=[]:=id rfl
theorem Lds (a:Value) (l:List Value) (n:Nat):(a::l).drop (n+1)=l.drop n:=id rfl
theorem Lg0 (a:Value) (l:List Value):(a::l)[0]? = some a:=id rfl
theorem Lgs (a:Value) (l:List Value) (n:Nat):(a::l)[n+1]? = l[n]?:=id rfl
theorem NF (b:Bool):(b && true)=b:=by cases b<;>rfl
theorem NG (b:Bool):(true && b)=b:=by cases b<;>rfl
theorem NH (b:Bool):(b && b)=b:=by cases b<;>rfl
theorem Lac (p:Value→Bool) (a:Value) (l:List Value):(a::l).all p=(p a && l.all p):=id rfl
theorem Lan (p:Value→Bool):([]:List Value).all p=true:=id rfl
theorem W9 (a:Value) (l:List Value):(a::l).length=l.length+1:=id rfl
theorem W_:([]:List Value).length=0:=id rfl
theorem Nza (n:Nat):0+n=n:=by omega
theorem Naz (n:Nat):n+0=n:=by omega
theorem Wz2:type_of% (And.intro (And.intro (And.intro (And.intro (And.intro (And.intro @Ah @Ai) (And.intro @wT (And.intro @dn @m_))) (And.intro (And.intro @Hw (And.intro @qu @Hx)) (And.intro @qy (And.intro @gX @wS)))) (And.intro (And.intro (And.intro @Aj (And.intro @tA @tB)) (And.intro @tC (And.intro @q7 @q_))) (And.intro (And.intro @q8 (And.intro @pe @tD)) (And.intro @q9 (And.intro @DW @DX))))) (And.intro (And.intro (And.intro (And.intro @DY (And.intro @DZ @D3)) (And.intro @D4 (And.intro @D5 @D6))) (And.intro (And.intro @D7 (And.intro @D8 @Hy)) (And.intro @Hz (And.intro @Ak @wU)))) (And.intro (And.intro (And.intro @tE (And.intro @dx @pg)) (And.intro @D9 (And.intro @pn @wV))) (And.intro (And.intro @wW (And.intro @wX @Al)) (And.intro @fI (And.intro @c6 @Tq)))))) (And.intro (And.intro (And.intro (And.intro (And.intro @HA @Ni) (And.intro @T.af (And.intro @T.ai @T.tu))) (And.intro (And.intro @NC (And.intro @ND @Tt)) (And.intro @Tu (And.intro @Ld0 @Lts)))) (And.intro (And.intro (And.intro @Lt0 (And.intro @Lds @Lg0)) (And.intro @Lgs (And.intro @Nza @Naz))) (And.intro (And.intro @HD (And.intro @HF @ng)) (And.intro @ni (And.intro @lq @nj))))) (And.intro (And.intro (And.intro (And.intro @jP (And.intro @pz @HH)) (And.intro @pE (And.intro @nk @w5))) (And.intro (And.intro @wZ (And.intro @w6 @HT)) (And.intro @HU (And.intro @HV @Ar)))) (And.intro (And.intro (And.intro @As (And.intro @Au @w8)) (And.intro @jQ (And.intro @kJ @Eh))) (And.intro (And.intro @r6 (And.intro @yB @NA)) (And.intro @NB (And.intro @NF @NG))))))):=(And.intro (And.intro (And.intro (And.intro (And.intro (And.intro @Ah @Ai) (And.intro @wT (And.intro @dn @m_))) (And.intro (And.intro @Hw (And.intro @qu @Hx)) (And.intro @qy (And.intro @gX @wS)))) (And.intro (And.intro (And.intro @Aj (And.intro @tA @tB)) (And.intro @tC (And.intro @q7 @q_))) (And.intro (And.intro @q8 (And.intro @pe @tD)) (And.intro @q9 (And.intro @DW @DX))))) (And.intro (And.intro (And.intro (And.intro @DY (And.intro @DZ @D3)) (And.intro @D4 (And.intro @D5 @D6))) (And.intro (And.intro @D7 (And.intro @D8 @Hy)) (And.intro @Hz (And.intro @Ak @wU)))) (And.intro (And.intro (And.intro @tE (And.intro @dx @pg)) (And.intro @D9 (And.intro @pn @wV))) (And.intro (And.intro @wW (And.intro @wX @Al)) (And.intro @fI (And.intro @c6 @Tq)))))) (And.intro (And.intro (And.intro (And.intro (And.intro @HA @Ni) (And.intro @T.af (And.intro @T.ai @T.tu))) (And.intro (And.intro @NC (And.intro @ND @Tt)) (And.intro @Tu (And.intro @Ld0 @Lts)))) (And.intro (And.intro (And.intro @Lt0 (And.intro @Lds @Lg0)) (And.intro @Lgs (And.intro @Nza @Naz))) (And.intro (And.intro @HD (And.intro @HF @ng)) (And.intro @ni (And.intro @lq @nj))))) (And.intro (And.intro (And.intro (And.intro @jP (And.intro @pz @HH)) (And.intro @pE (And.intro @nk @w5))) (And.intro (And.intro @wZ (And.intro @w6 @HT)) (And.intro @HU (And.intro @HV @Ar)))) (And.intro (And.intro (And.intro @As (And.intro @Au @w8)) (And.intro @jQ (And.intro @kJ @Eh))) (And.intro (And.intro @r6 (And.intro @yB @NA)) (And.intro @NB (And.intro @NF @NG)))))))
theorem Wx:type_of% (And.intro (And.intro (And.intro @Lac @Lan) (And.intro @D_ (And.intro @Ao @Ea))) (And.intro (And.intro @Eb (And.intro @Ec @Ed)) (And.intro @Ee (And.intro @Ef @NH)))):=(And.intro (And.intro (And.intro @Lac @Lan) (And.intro @D_ (And.intro @Ao @Ea))) (And.intro (And.intro @Eb (And.intro @Ec @Ed)) (And.intro @Ee (And.intro @Ef @NH))))
theorem Wy:type_of% (And.intro (And.intro @ng (And.intro @ni @lq)) (And.intro (And.intro @nj @jP) (And.intro @W9 @W_))):=(And.intro (And.intro @ng (And.intro @ni @lq)) (And.intro (And.intro @nj @jP) (And.intro @W9 @W_)))
theorem Wv:type_of% (And.intro @W9 @W_):=(And.intro @W9 @W_)
theorem Wz0 (b:Nat):ptrTo b=.pointer (some ⟨b,0,none⟩):=id rfl
theorem Wz1 (n c b:Nat):sliceTo n c b=.slice (some ⟨b,0,none⟩) n c:=id rfl
theorem Wz:type_of% (And.intro (And.intro @Wz0 @Wz1) Wz2):=And.intro (And.intro @Wz0 @Wz1) Wz2
theorem Wd:type_of% (And.intro Wx Wy):=And.intro Wx Wy
end Go.Vai

namespace Go.Vai
open Go Go.RowKit
section
variable {α:Type} {s:Nat} {enc:α→List Value}
def Cut (e s:Nat) (h:Heap) (v:Value) (k:Nat):Prop:=
 (k=0∧v=.slice none 0 0)∨(k=0∧∃b o,v=.slice (some ⟨b,o,none⟩) 0 fk)∨
 (∃b o cap,v=.slice (some ⟨b,o,none⟩) k cap∧k≤cap∧cap≤9223372036854775807)∨
 ∃b vs n,v=.slice (some ⟨b,0,none⟩) k aM∧b<h.nx∧h.bl.get b=some (aa vs e true)∧vs.length=n*s∧k≤n
theorem Cut.le {e s:Nat} {h h':Heap} {v:Value} {k:Nat} (c:Cut e s h v k) (l:Le h h'):Cut e s h' v k:=by
 rcases c with c | c | c | ⟨b,vs,n,c1,c2,c3,c4,c5⟩
 ·exact .inl c
 ·exact .inr (.inl c)
 ·exact .inr (.inr (.inl c))
 ·exact .inr (.inr (.inr ⟨b,vs,n,c1,Nat.lt_of_lt_of_le c2 l.nx,(l.get b c2).trans c3,c4,c5⟩))
theorem Cut.own {a h:Heap} {e:TypeId} {v:Value} {L:List α} (he:∀a:α,(enc a).length=s) (ho:fS enc a e h v L):Cut e s h v L.length:=by
 rcases ho with ⟨rfl,rfl | ⟨b,o,rfl⟩⟩ | ⟨b,rfl,h1,h2,h3,h4⟩
 ·exact .inl ⟨rfl,rfl⟩
 ·exact .inr (.inr (.inl ⟨b,o,0,rfl,Nat.le_refl _,by omega⟩))
 ·exact .inr (.inr (.inr ⟨b,_,L.length,rfl,h2,h4,bh he L,Nat.le_refl _⟩))
theorem tH (he:∀a:α,(enc a).length=s) (L:List α):∀i,(L.flatMap enc).take (i*s)=(L.take i).flatMap enc:=by
 induction L with
 | nil=>intro i; simp
 | cons a L ih=>
  intro i
  cases i with
  | zero=>simp
  | succ i=>
   simp only[List.flatMap_cons,List.take_succ_cons]
   rw[List.take_append,←ih i,he,List.take_of_length_le (by rw[he,Nat.succ_mul]; omega),show (i+1)*s-s=i*s by rw[Nat.succ_mul]; omega]
end
end Go.Vai

namespace Go.Vai
open Go Go.RowKit
open Classical
variable {P:Program}
def Ei (w:World) (B:Nat):Prop:=∃C e fz,w.heap[B]? = some (.cells C e fz)
def lP (w:World) (v:Value):Prop:=
 iu v=true∨v=.slice none 0 0∨(∃a c,v=.slice (some a) 0 c)∨∃B o n c,v=.slice (some ⟨B,o,none⟩) n c∧n≤c∧c≤maxLen∧Ei w B
def j8:Value→Value
 | .slice (some a) 0 c=>.slice (some ⟨0,0,none⟩) 0 fk
 | v=>v
def goodA (w:World):Value→Prop
 | .agg cs=>∀v∈cs.toList,lP w v
 | v=>lP w v
def absA:Value→Value
 | .agg cs=>.agg ⟨cs.toList.map j8⟩
 | v=>j8 v
theorem w9 {v:Value} (h:iu v=true):j8 v=v:=by cases v<;>first | rfl | cases h
noncomputable def vZ (w:World):di:=fun b=>if Ei w b then some ⟨b,0,0⟩ else none
noncomputable def v_ (w:World) (v:Value) (t:T Value) (o:Nat):T Value:=if lP w v then t.aW o (j8 v) else t
theorem Ej (w:World) (v:Value) (t:T Value) {o i:Nat} (h:o≠i):(v_ w v t o).get i=t.get i:=by
 unfold v_
 by_cases hg:lP w v
 ·rw[if_pos hg]; exact T.ai _ _ h
 ·rw[if_neg hg]
theorem w_ {w:World} {v:Value} (hg:lP w v) (t:T Value) (o:Nat):(v_ w v t o).get o=some (j8 v):=by
 unfold v_; rw[if_pos hg]; exact T.af _ _ _
theorem HW {w:World} {v:Value} (hg:¬lP w v) (t:T Value) (o:Nat):(v_ w v t o)=t:=by
 unfold v_; rw[if_neg hg]
noncomputable def kK (w:World):List Value→T Value→Nat→T Value
 | [],t,_=>t
 | v::vs,t,o=>kK w vs (v_ w v t o) (o+1)
theorem xe (w:World) (vs:List Value):∀(t:T Value) (o i:Nat),i<o→(kK w vs t o).get i=t.get i:=by
 induction vs with
 | nil=>intro t o i _; rfl
 | cons v vs ih=>
  intro t o i h
  show (kK w vs (v_ w v t o) (o+1)).get i=_
  rw[ih _ _ _ (by omega),Ej _ _ _ (by omega)]
theorem CN (w:World) (vs:List Value):∀(t:T Value) (o i:Nat) (v:Value),vs[i]? = some v→lP w v→(kK w vs t o).get (o+i)=some (j8 v):=by
 induction vs with
 | nil=>intro t o i v h; simp at h
 | cons u vs ih=>
  intro t o i v h hg
  show (kK w vs (v_ w u t o) (o+1)).get _=_
  cases i with
  | zero=>
   simp only[List.getElem?_cons_zero,Option.some.injEq] at h
   subst h
   rw[xe _ _ _ _ _ (by omega)]
   exact w_ hg _ _
  | succ i=>
   rw[show o+(i+1)=(o+1)+i by omega]
   exact ih _ _ _ _ (by simpa using h) hg
theorem CP (w:World) (vs:List Value):∀(t:T Value) (o i:Nat) (u:Value),(∀j,o≤j→t.get j=none)→(kK w vs t o).get (o+i)=some u→∃v,vs[i]? = some v∧lP w v∧u=j8 v:=by
 induction vs with
 | nil=>intro t o i u ht h; rw[show (kK w [] t o)=t from rfl,ht _ (by omega)] at h; cases h
 | cons x vs ih=>
  intro t o i u ht h
  have h:(kK w vs (v_ w x t o) (o+1)).get (o+i)=some u:=h
  cases i with
  | zero=>
   rw[xe _ _ _ _ _ (by omega)] at h
   by_cases hg:lP w x
   ·rw[Nat.add_zero,w_ hg] at h; cases h; exact ⟨x,rfl,hg,rfl⟩
   ·rw[HW hg,ht _ (by omega)] at h; cases h
  | succ i=>
   rw[show o+(i+1)=(o+1)+i by omega] at h
   obtain ⟨v,h1,h2,h3⟩:=ih _ _ _ _ (fun j hj=>by rw[Ej _ _ _ (by omega)]; exact ht j (by omega)) h
   exact ⟨v,by simpa using h1,h2,h3⟩
noncomputable def wg (w:World):Nat→T bC
 | 0=>.nil
 | n+1=>match w.heap[n]? with
  | some (.cells C e _)=>(wg w n).aW n (.ro C.size (kK w C.toList .nil 0) e)
  | _=>wg w n
theorem Az (w:World):∀n b,(wg w n).get b=if b<n then (match w.heap[b]? with | some (.cells C e _)=>some (.ro C.size (kK w C.toList .nil 0) e) | _=>none) else none:=by
 intro n
 induction n with
 | zero=>intro b; rw[if_neg (by omega)]; exact T.get_nil _
 | succ n ih=>
  intro b
  unfold wg
  by_cases h0:n=b
  ·subst h0
   rw[if_pos (by omega)]
   split
   ·rw[T.af]
   ·rw[ih,if_neg (by omega)]
  ·have:(match w.heap[n]? with | some (.cells C e _)=>(wg w n).aW n (.ro C.size (kK w C.toList .nil 0) e) | _=>wg w n).get b=(wg w n).get b:=by
    split
    ·exact T.ai _ _ h0
    ·rfl
   rw[this,ih]
   by_cases h1:b<n
   ·rw[if_pos h1,if_pos (by omega)]
   ·rw[if_neg h1,if_neg (by omega)]
noncomputable def memH (w:World):Heap:=⟨w.heap.size,wg w w.heap.size,w.heap.size⟩
theorem AA {w:World} {B:Nat} {C:Array Value} {e:TypeId} {fz:Nat × Nat} (h:w.heap[B]? = some (.cells C e fz)):(memH w).bl.get B=some (.ro C.size (kK w C.toList .nil 0) e):=by
 have hB:B<w.heap.size:=(Array.getElem?_eq_some_iff.1 h).1
 show (wg w _).get B=_
 rw[Az,if_pos hB,h]
theorem nr {w:World} {b:Nat} {o:bC} (h:(memH w).bl.get b=some o):∃C e fz,w.heap[b]? = some (.cells C e fz)∧o=.ro C.size (kK w C.toList .nil 0) e:=by
 have h:(wg w _).get b=some o:=h
 rw[Az] at h
 split at h
 ·split at h
  ·cases h; exact ⟨_,_,_,by assumption,rfl⟩
  ·cases h
 ·cases h
theorem yC {w:World} {v:Value} (h:lP w v):VR (vZ w) (j8 v) v:=by
 rcases h with h | rfl | ⟨a,c,rfl⟩ | ⟨B,o,n,c,rfl,hn,hc,hB⟩
 ·rw[w9 h]; exact VR.kq h
 ·exact VR.d_ (Nat.le_refl _)
 ·exact VR.cr _ _ _
 ·cases n with
  | zero=>exact VR.cr _ _ _
  | succ n=>
   have hp:vZ w B=some ⟨B,0,0⟩:=if_pos hB
   exact VR.slice hp hn (by unfold maxLen at hc; unfold aM; omega)
theorem LB {w:World} {v:Value} (h:goodA w v):VR (vZ w) (absA v) v:=by
 cases v with
 | agg cs=>
  refine VR.qf ?_
  show F2 (VR (vZ w)) (cs.toList.map j8) cs.toList
  have:F2 (VR (vZ w)) (cs.toList.map j8) (cs.toList.map id):=F2.map cs.toList fun x hx=>yC (h x hx)
  rwa [List.map_id] at this
 | _=>exact yC h
theorem Tv (w:World):HR P (vZ w) (memH w) w:=by
 have dom:∀b pl,vZ w b=some pl→pl=⟨b,0,0⟩∧Ei w b:=by
  intro b pl h
  unfold vZ at h
  split at h
  ·cases h; exact ⟨rfl,by assumption⟩
  ·cases h
 have lt:∀b,Ei w b→b<w.heap.size:=fun b ⟨C,e,fz,h⟩=>(Array.getElem?_eq_some_iff.1 h).1
 refine ⟨?_,?_,?_,Nat.lt_succ_self _,?_,Nat.le_refl _⟩
 ·intro b o pl h1 h2
  obtain ⟨rfl,_⟩:=dom b pl h2
  obtain ⟨C,e,fz,h3,rfl⟩:=nr h1
  rw[h3]
  refine ⟨rfl,Nat.le_refl _,fun i v hv hi=>?_⟩
  obtain ⟨u,h4,h5,rfl⟩:=CP w C.toList .nil 0 i v (fun j _=>T.get_nil _) (by rw[Nat.zero_add]; exact hv)
  rw[Array.getElem?_toList] at h4
  exact ⟨u,h4,yC h5⟩
 ·intro b pl h
  obtain ⟨rfl,h2⟩:=dom b pl h
  exact ⟨lt b h2,lt b h2⟩
 ·intro b o _ h
  obtain ⟨C,e,fz,h3,_⟩:=nr h
  exact lt b ⟨C,e,fz,h3⟩
 ·intro b b' o o' pl jC _ _ _ _ h1 h2 h3
  obtain ⟨rfl,_⟩:=dom b pl h1
  obtain ⟨rfl,_⟩:=dom b' jC h2
  exact h3
theorem law_mem {f:FuncId} {args:List Value} {w:World} (hg:∀v∈args,goodA w v) (hc:(memH w).lo≤(memH w).nx→CallW P f (args.map absA) (memH w) yy) :
  Calls P f args.toArray w fun e w'=>e=.returned (.bool true)∧Below w.heap.size w w':=by
 have ha:F2 (VR (vZ w)) (args.map absA) (args.map id):=F2.map args fun x hx=>LB (hg x hx)
 rw[List.map_id] at ha
 refine Lz (hc (Nat.le_refl _)) ha (Tv w) ?_
 intro b pl h
 unfold vZ at h
 split at h
 ·rename_i hm
  obtain ⟨C,e,fz,h3⟩:=hm
  exact ⟨(Array.getElem?_eq_some_iff.1 h3).1,_,AA h3,trivial⟩
 ·cases h
section
variable {α:Type} {cv:α→List Value} {s:Nat}
theorem iU.good {w:World} {v:Value} {L:List α} (hv:iU cv w v L):lP w v:=by
 rcases hv with ⟨rfl,rfl | ⟨a,cap,rfl⟩⟩ | ⟨B,o,cap,C,e,fz,rfl,hl,hm,hC,hle,hcell⟩
 ·exact .inr (.inl rfl)
 ·exact .inr (.inr (.inl ⟨a,cap,rfl⟩))
 ·exact .inr (.inr (.inr ⟨B,o,_,cap,rfl,hl,hm,C,e,fz,hC⟩))
theorem iU.abs {w:World} {v:Value} {L:List α} (hv:iU cv w v L) (hg:∀a∈L,∀u∈cv a,lP w u) :
  Sl (fun a=>(cv a).map j8) (memH w) (j8 v) L∧∀e,Cut e s (memH w) (j8 v) L.length:=by
 rcases hv with ⟨rfl,rfl | ⟨a,cap,rfl⟩⟩ | ⟨B,o,cap,C,e,fz,rfl,hl,hm,hC,hle,hcell⟩
 ·exact ⟨Sl.nil _ _ _,fun e=>.inl ⟨rfl,rfl⟩⟩
 ·exact ⟨Sl.nil _ _ _,fun e=>.inr (.inl ⟨rfl,0,0,rfl⟩)⟩
 ·cases hL:L with
  | nil=>exact ⟨Sl.nil _ _ _,fun e=>.inr (.inl ⟨rfl,0,0,rfl⟩)⟩
  | cons x L'=>
   have e1:j8 (.slice (some ⟨B,o,none⟩) L.length cap)=.slice (some ⟨B,o,none⟩) L.length cap:=by rw[hL]; rfl
   rw[←hL,e1]
   refine ⟨⟨_,cap,rfl,fun _=>⟨B,o,rfl,(Array.getElem?_eq_some_iff.1 hC).1,?_⟩⟩,fun e=>.inr (.inr (.inl ⟨B,o,cap,rfl,hl,by unfold maxLen at hm; omega⟩))⟩
   rw[AA hC]
   have efl:L.flatMap (fun a=>(cv a).map j8)=(L.flatMap cv).map j8:=by rw[List.map_flatMap]
   rw[efl]
   refine ⟨C.size,_,e,.inl rfl,by rw[List.length_map]; exact hle,fun j u hj=>?_⟩
   rw[List.getElem?_map,Option.map_eq_some_iff] at hj
   obtain ⟨u',h1,rfl⟩:=hj
   have h2:=hcell j u' h1
   have hm:=List.mem_of_getElem? h1
   rw[List.mem_flatMap] at hm
   obtain ⟨a,ha,hu⟩:=hm
   have:=CN w C.toList .nil 0 (o+j) u' (by rw[Array.getElem?_toList]; exact h2) (hg a ha u' hu)
   rwa [Nat.zero_add] at this
theorem HX {l:List Value} (h:l.all iu=true):l.map j8=l:=by
 induction l with
 | nil=>rfl
 | cons a l ih=>simp only[List.all_cons,Bool.and_eq_true] at h; rw[List.map_cons,w9 h.1,ih h.2]
theorem iU.Tw {w:World} {v:Value} {L:List α} (hv:iU cv w v L) (hone:∀a:α,(cv a).all iu=true):Sl cv (memH w) (j8 v) L∧∀e,Cut e s (memH w) (j8 v) L.length:=by
 have:=hv.abs (s:=s) fun a _ u hu=>.inl (List.all_eq_true.1 (hone a) u hu)
 have e:(fun a=>(cv a).map j8)=cv:=by funext a; exact HX (hone a)
 rwa [e] at this
end
end Go.Vai

namespace Go.Vai
open Go Go.RowKit Go.WideShapes Go.ChangeShapes
variable {P:Program}
inductive CK where
 | i (k:IntKind)
 | b
 | s
 | sl (t:TypeId)
def yD (P:Program) (fl:TypeId→Option (List CK)):List Field→Nat→Option (List CK)
 | [],_=>some []
 | f::fs,off=>match fl f.type with
  | some l=>match Nat.beq f.offset off,Nat.beq (P.cellsOf f.type) l.length with
   | true,true=>match yD P fl fs (off+l.length) with
    | some r=>some (l++r)
    | none=>none
   | _,_=>none
  | none=>none
def flatK (P:Program):Nat→TypeId→Option (List CK)
 | 0,_=>none
 | n+1,t=>match P.underlying t with
  | some (.int k)=>some [.i k]
  | some .bool=>some [.b]
  | some .string=>some [.s]
  | some (.slice _)=>some [.sl t]
  | some (.struct fs)=>match yD P (flatK P n) fs.toList 0 with
   | some l=>match Nat.beq (P.cellsOf t) l.length with
    | true=>some l
    | false=>none
   | none=>none
  | _=>none
section
variable {H:Type} {enc:TypeId × Value→H} {w:World}
def Pb (enc:TypeId × Value→H) (P:Program) (w:World) (k:CK) (v:Value):Prop:=match k with
 | .i kk=>∃n,v=.int kk n∧(Lit.int kk n).wf=true
 | .b=>∃b,v=.bool b
 | .s=>∃s,v=.string s
 | .sl t=>∃fuel x,DataW.trod enc P w 0 (fun _=>true) true fuel t [v]=some x
theorem LC {fl:TypeId→Option (List CK)} (ih:∀t ks,fl t=some ks→∀fuel cs x,DataW.trod enc P w 0 (fun _=>true) true fuel t cs=some x→F2 (Pb enc P w) ks cs) (m:Nat) (cs:List Value) :
  ∀(fs:List Field) (off:Nat) (r:List CK),yD P fl fs off=some r→(∀f∈fs,∃x,DataW.trod enc P w 0 (fun _=>true) true m f.type ((cs.drop f.offset).take (P.cellsOf f.type))=some x)→
   off+r.length=cs.length→F2 (Pb enc P w) r (cs.drop off):=by
 intro fs
 induction fs with
 | nil=>
  intro off r h _ hl
  cases h
  rw[List.drop_of_length_le (by simp at hl; omega)]
  exact .nil
 | cons f fs XS=>
  intro off r h hf hl
  unfold yD at h
  split at h<;>try contradiction
  rename_i l tI
  split at h<;>try contradiction
  rename_i h1 h2
  split at h<;>try contradiction
  rename_i r' hr
  cases h
  have h1:=cu h1
  have h2:=cu h2
  obtain ⟨x,hx⟩:=hf f (.head _)
  have k1:=ih _ _ tI _ _ _ hx
  rw[h1,h2] at k1
  rw[List.length_append] at hl
  have k2:=XS (off+l.length) r' hr (fun g hg=>hf g (.tail _ hg)) (by omega)
  have e:cs.drop off=(cs.drop off).take l.length++cs.drop (off+l.length):=by
   rw[←List.drop_drop,List.take_append_drop]
  rw[e]
  exact k1.append k2
theorem AB:∀(n:Nat) (t:TypeId) (ks:List CK),flatK P n t=some ks→∀fuel cs x,DataW.trod enc P w 0 (fun _=>true) true fuel t cs=some x→F2 (Pb enc P w) ks cs:=by
 intro n
 induction n with
 | zero=>intro t ks h; cases h
 | succ n ih=>
  intro t ks h fuel cs x hx
  unfold flatK at h
  split at h
  ·rename_i k hu
   cases h
   obtain ⟨n,rfl,_,hwf⟩:=DataW.trod_int hu hx
   exact .cons ⟨n,rfl,hwf⟩ .nil
  ·rename_i hu
   cases h
   obtain ⟨n,rfl,_⟩:=DataW.trod_bool hu hx
   exact .cons ⟨n,rfl⟩ .nil
  ·rename_i hu
   cases h
   obtain ⟨n,rfl,_⟩:=DataW.trod_string hu hx
   exact .cons ⟨n,rfl⟩ .nil
  ·rename_i e hu
   cases h
   have:∃v,cs=[v]:=by
    rcases DataW.trod_slice hu hx with h | h
    ·exact ⟨_,h.1⟩
    ·obtain ⟨a,len,cap,_,_,_,_,h,_⟩:=h
     exact ⟨_,h⟩
   obtain ⟨v,rfl⟩:=this
   exact .cons ⟨fuel,x,hx⟩ .nil
  ·rename_i fs hu
   split at h<;>try contradiction
   rename_i l hl
   split at h<;>try contradiction
   rename_i hc
   cases h
   have hc:=cu hc
   obtain ⟨xs,m,_,_,FG,hlen,hf⟩:=DataW.trod_struct hu hx
   have key:=LC ih m cs fs.toList 0 ks hl (fun f hf'=>?_) (by omega)
   ·rw[List.drop_zero] at key; exact key
   ·obtain ⟨i,hi,rfl⟩:=List.getElem_of_mem hf'
    have h1:=hf i (fs.toList[i]) (by simp at hi ⊢)
    obtain ⟨y,hy⟩:∃y,xs[i]? = some y:=⟨_,List.getElem?_eq_getElem (by simp at hi; omega)⟩
    rw[hy] at h1
    exact ⟨y,h1⟩
  ·cases h
theorem F2.mE {α γ:Type} {R:α→γ→Prop} {a:α} {l:List α} {m:List γ} (h:F2 R (a::l) m):∃b m',m=b::m'∧R a b∧F2 R l m':=by
 cases h with
 | cons h t=>exact ⟨_,_,rfl,h,t⟩
theorem F2.NI {α γ:Type} {R:α→γ→Prop} {m:List γ} (h:F2 R [] m):m=[]:=by cases h; rfl
end
section
variable {α:Type} {cv:α→List Value} {s:Nat}
theorem iU.absA {w:World} {v:Value} {L:List α} (hv:iU cv w v L):Go.Vai.absA v=j8 v:=by
 rcases hv with ⟨rfl,rfl | ⟨a,cap,rfl⟩⟩ | ⟨B,o,cap,C,e,fz,rfl,_⟩<;>rfl
theorem iU.goodA {w:World} {v:Value} {L:List α} (hv:iU cv w v L):Go.Vai.goodA w v:=by
 have h:=hv.good
 rcases hv with ⟨rfl,rfl | ⟨a,cap,rfl⟩⟩ | ⟨B,o,cap,C,e,fz,rfl,_⟩<;>exact h
theorem iU.read {w:World} {v:Value} {L:List α} (hv:iU cv w v L) (hone:∀a:α,(cv a).all iu=true):Sl cv (memH w) (Go.Vai.absA v) L:=by
 rw[hv.absA]; exact (hv.Tw (s:=1) hone).1
theorem iU.cut {w:World} {v:Value} {L:List α} (hv:iU cv w v L) (hone:∀a:α,(cv a).all iu=true) {e:TypeId} {s:Nat}:Cut e s (memH w) (Go.Vai.absA v) L.length:=by
 rw[hv.absA]; exact (hv.Tw (s:=s) hone).2 e
end
end Go.Vai
