/-
  PROVED HERE: a part of a calculus of weakest conditions over an abstract heap.
  A calculus of weakest conditions over the abstract heap: what a piece of code must meet for whatever comes behind it; sound. (Program-independent.)
-/
import Derived.Test.YtlmkplcfmngigaaVaiK
set_option linter.unusedVariables false
set_option linter.unusedSimpArgs false
namespace Go.Vai
open Go

/-! ## definitions -/
/-- a call, as it is: whatever the memory, it comes to an end that meets the condition -/
def CallW (P : Program) (f : FuncId) (args : List Value) (h : Heap) (κ : Value → Heap → Prop) : Prop :=
  ∀ (φ : Emb) (w : World) (args' : List Value), F2 (VR φ) args args' → HR P φ h w → CallTo (fun p : Prop => p) P φ h w κ f args'.toArray

def prW (P : Program) : Prims Prop := ⟨fun f => some (CallW P f), And⟩
def noRec : Rec Prop := fun _ _ _ _ => False

abbrev runX (i : XI Prop) (tm : T Value) (h : Heap) (κ : Value → Heap → Prop) : Prop :=
  XI.rec (motive := fun _ => Prop) (fun f => f h κ) (fun x f => f (evv tm x) h κ) (fun x y f => f (evv tm x) (evv tm y) h κ)
    (fun x y z f => f (evv tm x) (evv tm y) (evv tm z) h κ) (fun xs f => f (xs.map (evv tm)) h κ) i
abbrev runA (i : XA Prop) (tm : T Value) (κ : AObj → (Nat → Value) → Prop) : Prop :=
  XA.rec (motive := fun _ => Prop) (fun f => f κ) (fun x f => f (evv tm x) κ) (fun x y f => f (evv tm x) (evv tm y) κ) (fun xs f => f (xs.map (evv tm)) κ) i

/-- a function value is called -/
def CallV (P : Program) (fv : Value) (args : List Value) (h : Heap) (κ : Value → Heap → Prop) : Prop := callV False (prW P) P noRec fv args h κ
def CallI (P : Program) (name : String) (r : Value) (args : List Value) (h : Heap) (κ : Value → Heap → Prop) : Prop := callI False (prW P) P noRec name r args h κ

noncomputable def callOpW (P : Program) (c : Call) (tm : T Value) (h : Heap) (κ : Value → Heap → Prop) : Prop :=
  match c.callee with
  | .value (.func f) => CallW P f (c.args.toList.map (evv tm)) h κ
  | .value x => CallV P (evv tm x) (c.args.toList.map (evv tm)) h κ
  | .invoke r name => CallI P name (evv tm r) (c.args.toList.map (evv tm)) h κ
  | .builtin _ => False

noncomputable def compFW (P : Program) (op : Op) (tm : T Value) (h : Heap) (κ : Value → Heap → Prop) : Prop :=
  match compR False P op with
  | some i => runX i tm h κ
  | none => match compA False P op with
    | some i => runA i tm fun o mk => newBlock False o h fun b h => κ (mk b) h
    | none => match compW False P op with
      | some i => runX i tm h κ
      | none => match op with
        | .call c => callOpW P c tm h κ
        | .next it false => nextB False And (evv tm it) h κ
        | _ => False

def wantV (v : Value) (w : Bool) : Bool := match v, w with | .bool true, true => true | .bool false, false => true | _, _ => false
/-- under a guard -/
def GuardW (b : Bool) (f : (Value → Heap → Prop) → Prop) (h : Heap) (κ : Value → Heap → Prop) : Prop := match b with | true => f κ | false => κ undef h

noncomputable abbrev opsW (P : Program) (all os : List Oper) : T Value → Heap → (T Value → Heap → Prop) → Prop :=
  List.rec (motive := fun _ => T Value → Heap → (T Value → Heap → Prop) → Prop) (fun tm h κ => κ tm h)
    (fun o _ ih tm h κ => Option.rec (motive := fun _ => Prop) False
      (fun g => Option.rec (motive := fun _ => Prop) (compFW P o.op tm h fun v h => ih (putT tm o.dst v) h κ)
        (fun sw => GuardW (wantV (tmv tm sw.1) sw.2) (fun κ' => compFW P o.op tm h κ') h fun v h => ih (putT tm o.dst v) h κ) g) (guardOf all o)) os

/-- a reading, done -/
def RdK (o : Option Value) (h : Heap) (κ : Value → Heap → Prop) : Prop := match o with | some v => κ v h | none => False
/-- a block, made -/
noncomputable def AlK (o : Option (AObj × (Nat → Value))) (h : Heap) (κ : Value → Heap → Prop) : Prop := match o with | some (b, mk) => newBlock False b h fun n h => κ (mk n) h | none => False
/-- readings that read the same now -/
def SameK (b : Bool) (p : Prop) : Prop := match b with | true => p | false => False
noncomputable def reV (o : Option Value) (v : Value) : Bool := match o with | some u => veq 8 u v | none => false
def reN (o : Option Value) : Bool := match o with | some _ => true | none => false
def reG (b r : Bool) : Bool := match b with | true => r | false => true

noncomputable def rdW (x : OXI) (tm : T Value) (h : Heap) : Option Value :=
  XI.rec (motive := fun _ => Option Value) (fun f => f h fun v _ => some v) (fun x f => f (evv tm x) h fun v _ => some v) (fun x y f => f (evv tm x) (evv tm y) h fun v _ => some v)
    (fun x y z f => f (evv tm x) (evv tm y) (evv tm z) h fun v _ => some v) (fun xs f => f (xs.map (evv tm)) h fun v _ => some v) x
noncomputable def mkW (x : OXA) (tm : T Value) : Option (AObj × (Nat → Value)) :=
  XA.rec (motive := fun _ => Option (AObj × (Nat → Value))) (fun f => f fun o mk => some (o, mk)) (fun x f => f (evv tm x) fun o mk => some (o, mk)) (fun x y f => f (evv tm x) (evv tm y) fun o mk => some (o, mk)) (fun xs f => f (xs.map (evv tm)) fun o mk => some (o, mk)) x

noncomputable def sameW (P : Program) (os : List Oper) (D M : Nat) (tm : T Value) (h : Heap) : List It → Bool
  | [] => true
  | (k, q) :: its => match bit D k && !bit M k, clsOf P q.op with
    | true, .rd x => (match guardOf os q with
      | some none => (match q.dst with | some d => reV (rdW x tm h) (tmv tm d) | none => reN (rdW x tm h))
      | some (some (s, w)) => reG (wantV (tmv tm s) w) (match q.dst with | some d => reV (rdW x tm h) (tmv tm d) | none => reN (rdW x tm h))
      | none => false) && sameW P os D M tm h its
    | _, _ => sameW P os D M tm h its

noncomputable def stepW (P : Program) (os : List Oper) (D M : Nat) (o : Oper) (tm : T Value) (h : Heap) (κ : Value → Heap → Prop) : Prop :=
  match clsOf P o.op with
  | .rd x => RdK (rdW x tm h) h κ
  | .al x => AlK (mkW x tm) h κ
  | .wr => match anyRd P D M (itemsOf os 0) with
    | false => compFW P o.op tm h κ
    | true => compFW P o.op tm h fun v h => SameK (sameW P os D M (putT tm o.dst v) h (itemsOf os 0)) (κ v h)

noncomputable def planW (P : Program) (os : List Oper) : List Nat → Nat → Nat → T Value → Heap → (T Value → Heap → Prop) → Prop
  | [], _, _, tm, h, κ => κ tm h
  | i :: is, D, M, tm, h, κ => match os[i]? with
    | none => False
    | some o => match guardOf os o with
      | none => False
      | some none => stepW P os D (match isWr P o with | true => Nat.lor M (ancOf os i) | false => M) o tm h fun v h => planW P os is (setBit D i) (match isWr P o with | true => Nat.lor M (ancOf os i) | false => M) (putT tm o.dst v) h κ
      | some (some (s, w)) => GuardW (wantV (tmv tm s) w) (fun κ' => stepW P os D (match isWr P o with | true => Nat.lor M (ancOf os i) | false => M) o tm h κ') h fun v h => planW P os is (setBit D i) (match isWr P o with | true => Nat.lor M (ancOf os i) | false => M) (putT tm o.dst v) h κ

noncomputable def regW (P : Program) (os : List Oper) (draw : Bool) (tm : T Value) (h : Heap) (κ : T Value → Heap → Prop) : Prop :=
  match draw with
  | false => opsW P os os tm h κ
  | true => match planOf P os with
    | some l => planW P os l 0 0 tm h κ
    | none => False

/-- the slots that code may write -/
def addN (n : Nat) (l : List Nat) : List Nat := match l.any (Nat.beq n) with | true => l | false => n :: l
def asgOps (l : List Oper) : List Nat := l.foldr (fun o r => match o.dst with | some d => addN d r | none => r) []
def joinN (l m : List Nat) : List Nat := l.foldr addN m
def asg : Code → List Nat
  | .region _ os _ => asgOps os.toList
  | .seq a b | .cond _ a b => joinN (asg a) (asg b)
  | .block _ c | .loop c | .scope c => asg c
  | _ => []
/-- how often a jump to a block stands there -/
def exits (id : Nat) : Code → Nat
  | .exit i => match Nat.beq i id with | true => 1 | false => 0
  | .seq a b | .cond _ a b => exits id a + exits id b
  | .block _ c | .loop c | .scope c => exits id c
  | _ => 0
/-- on how many ways code comes to its end -/
def ways : Code → Nat
  | .seq a b => ways a * ways b
  | .cond _ a b => ways a + ways b
  | .block id c => ways c + exits id c
  | .loop _ => 0
  | .scope c => ways c
  | .exit _ | .ret => 0
  | _ => 1

def slot (l : List Value) (i : Nat) : Value := l.getD i undef
noncomputable def layI : Nat → List Nat → List Value → T Value → T Value
  | _, [], _, tm => tm
  | i, s :: ss, l, tm => layI (i + 1) ss l (tm.upd s (slot l i))
noncomputable def layL (ss : List Nat) (l : List Value) (tm : T Value) : T Value := layI 0 ss l tm

abbrev KT := Ex → T Value → Heap → Prop
abbrev toN (N : List Value → Heap → Prop) (ss : List Nat) (κ : KT) : KT := fun e tm h => Ex.rec (motive := fun _ => Prop) (N (ss.map (tmv tm)) h) (fun i => κ (.exit i) tm h) (κ .ret tm h) e
/-- ways that meet -/
def JoinR (A : (List Value → Heap → Prop) → Prop) (B : List Value → Heap → Prop) : Prop :=
  ∃ J : List Value → Heap → Prop, A J ∧ ∀ l h, J l h → B l h
/-- rounds, from some slots' values on -/
def LoopR (l0 : List Value) (h0 : Heap) (body : List Value → Heap → (List Value → Heap → Prop) → Prop) : Prop :=
  ∃ I : Nat → List Value → Heap → Prop, (∃ n, I n l0 h0) ∧ ∀ n l h, I n l h → body l h fun l' h' => ∃ m, m < n ∧ I m l' h'
def CondW (v : Value) (A B : Prop) : Prop := match v with | .bool true => A | .bool false => B | _ => False
abbrev seqW (B : T Value → Heap → KT → Prop) (κ : KT) : KT := fun e tm h => Ex.rec (motive := fun _ => Prop) (B tm h κ) (fun i => κ (.exit i) tm h) (κ .ret tm h) e
abbrev blockW (id : Nat) (κ : KT) : KT := fun e tm h => Ex.rec (motive := fun _ => Prop) (κ .normal tm h) (fun i => Bool.rec (motive := fun _ => Prop) (κ (.exit i) tm h) (κ .normal tm h) (Nat.beq i id)) (κ .ret tm h) e

noncomputable def WP (P : Program) : Code → T Value → Heap → KT → Prop
  | .skip, tm, h, κ => κ .normal tm h
  | .label _, tm, h, κ => κ .normal tm h
  | .region _ os draw, tm, h, κ => regW P os.toList draw tm h fun tm h => κ .normal tm h
  | .seq a b, tm, h, κ => match Nat.ble (ways a) 1 with
    | true => WP P a tm h (seqW (WP P b) κ)
    | false => JoinR (fun N => WP P a tm h (toN N (asg a) κ)) fun l h => WP P b (layL (asg a) l tm) h κ
  | .cond c a b, tm, h, κ => CondW (evv tm c) (WP P a tm h κ) (WP P b tm h κ)
  | .block id c, tm, h, κ => WP P c tm h (blockW id κ)
  | .scope c, tm, h, κ => WP P c tm h κ
  | .loop c, tm, h, κ => LoopR ((asg c).map (tmv tm)) h fun l h N => WP P c (layL (asg c) l tm) h (toN N (asg c) κ)
  | .exit id, tm, h, κ => κ (.exit id) tm h
  | .ret, tm, h, κ => κ .ret tm h
  | _, _, _, _ => False

abbrev resW (h : Heap) (tm : T Value) : List XRes → (List Value → Prop) → Prop :=
  List.rec (motive := fun _ => (List Value → Prop) → Prop) (fun κ => κ [])
    (fun r _ ih κ => XRes.rec (motive := fun _ => Prop) (fun t => ih fun vs => κ (tmv tm t :: vs)) (fun a => load1 False (tmv tm a) h fun v _ => ih fun vs => κ (v :: vs))
      (fun a s => loadA False s (tmv tm a) h fun v _ => ih fun vs => κ (v :: vs)) False r)
abbrev oneW (κ : Value → Heap → Prop) (h : Heap) (vs : List Value) : Prop :=
  List.rec (motive := fun _ => Prop) (κ (.tuple #[]) h) (fun v vs' _ => List.rec (motive := fun _ => Prop) (κ v h) (fun _ _ _ => κ (.tuple ⟨vs⟩) h) vs') vs
abbrev endW (rs : List XRes) (κ : Value → Heap → Prop) : KT := fun e tm h => Ex.rec (motive := fun _ => Prop) (resW h tm rs fun vs => oneW κ h vs) (fun _ => False) (resW h tm rs fun vs => oneW κ h vs) e

/-- a function's body -/
noncomputable def BodyW (P : Program) (f : FuncId) (args : List Value) (h : Heap) (κ : Value → Heap → Prop) : Prop :=
  match callOk P f with
  | .none => False
  | .mk c rs nt => match Nat.ble args.length nt with
    | true => WP P c (lay args .nil 0) h (endW rs κ)
    | false => False

/-! ## they say no less than the interpreter -/
variable {P : Program}

theorem runX_eq (i : XI Prop) (tm : T Value) (h : Heap) (κ : Value → Heap → Prop) : i.run tm h κ = runX i tm h κ := by
  cases i with
  | k0 f => rfl
  | k1 x f => exact XI.run_k1 ..
  | k2 x y f => exact XI.run_k2 ..
  | k3 x y z f => exact XI.run_k3 ..
  | kn xs f => exact XI.run_kn ..
theorem runA_eq (i : XA Prop) (tm : T Value) (κ : AObj → (Nat → Value) → Prop) : i.run tm κ = runA i tm κ := by
  cases i with
  | k0 f => rfl
  | k1 x f => exact XA.run_k1 ..
  | k2 x y f => exact XA.run_k2 ..
  | kn xs f => exact XA.run_kn ..
theorem rdW_eq (x : OXI) (tm : T Value) (h : Heap) : readO x tm h = rdW x tm h := by
  unfold readO
  cases x with
  | k0 f => rfl
  | k1 x f => exact XI.run_k1 ..
  | k2 x y f => exact XI.run_k2 ..
  | k3 x y z f => exact XI.run_k3 ..
  | kn xs f => exact XI.run_kn ..
theorem mkW_eq (x : OXA) (tm : T Value) : makeO x tm = mkW x tm := by
  unfold makeO
  cases x with
  | k0 f => rfl
  | k1 x f => exact XA.run_k1 ..
  | k2 x y f => exact XA.run_k2 ..
  | kn xs f => exact XA.run_kn ..

theorem compCall_W (c : Call) (tm : T Value) (h : Heap) (κ : Value → Heap → Prop) : compCall False (prW P) P c noRec tm h κ = callOpW P c tm h κ := by
  unfold compCall callOpW
  cases c.callee with
  | value x => cases x <;> (simp only [evs_eq, ev_eq]; rfl)
  | invoke r name => simp only [evs_eq, ev_eq]; rfl
  | builtin b => rfl

theorem compF_W (op : Op) (tm : T Value) (h : Heap) (κ : Value → Heap → Prop) : compF False (prW P) P op noRec tm h κ = compFW P op tm h κ := by
  unfold compF compFW
  cases hR : compR False P op with
  | some i => exact runX_eq ..
  | none =>
    cases hA : compA False P op with
    | some i => exact runA_eq ..
    | none =>
      cases hW : compW False P op with
      | some i => exact runX_eq ..
      | none =>
        cases op <;> try rfl
        case call c => exact compCall_W ..
        case next it s => cases s <;> first | rfl | (simp only [ev_eq]; rfl)

theorem wantB_some (tm : T Value) (s : Nat) (w : Bool) : wantB tm (some (s, w)) = wantV (tmv tm s) w := rfl

theorem guardF (f : (Value → Heap → Prop) → Prop) (tm : T Value) (h : Heap) (s : Nat) (w : Bool) (d : Option Nat) (k : T Value → Heap → Prop) :
    GuardW (wantV (tmv tm s) w) f h (fun v h => k (putT tm d v) h) = Bool.rec (motive := fun _ => Prop) (putK tm d undef h k) (f fun v h => putK tm d v h k) (wantB tm (some (s, w))) := by
  rw [wantB_some]
  cases wantV (tmv tm s) w with
  | true => show f _ = f _; simp only [putK_eq]
  | false => show k _ h = putK tm d undef h k; rw [putK_eq]

theorem opsW_eq (all : List Oper) : ∀ (os : List Oper) (tm : T Value) (h : Heap) (κ : T Value → Heap → Prop), opsW P all os tm h κ = runOps False (prW P) P noRec all os tm h κ := by
  intro os
  induction os with
  | nil => intro tm h κ; rfl
  | cons o os ih =>
    intro tm h κ
    have ih' : (fun tm h => opsW P all os tm h κ) = fun tm h => runOps False (prW P) P noRec all os tm h κ := by funext tm h; exact ih tm h κ
    show Option.rec (motive := fun _ => Prop) False (fun g => Option.rec (motive := fun _ => Prop) (compFW P o.op tm h fun v h => (fun tm h => opsW P all os tm h κ) (putT tm o.dst v) h)
        (fun sw => GuardW (wantV (tmv tm sw.1) sw.2) (fun κ' => compFW P o.op tm h κ') h fun v h => (fun tm h => opsW P all os tm h κ) (putT tm o.dst v) h) g) (guardOf all o) = XO.rec (motive := fun _ => Prop)
      (fun g d f => Bool.rec (motive := fun _ => Prop) (putK tm d undef h fun tm h => runOps False (prW P) P noRec all os tm h κ)
        (f noRec tm h fun v h => putK tm d v h fun tm h => runOps False (prW P) P noRec all os tm h κ) (wantB tm g)) (compO False (prW P) P all o)
    rw [ih']
    unfold compO
    cases guardOf all o with
    | none => rfl
    | some g =>
      cases g with
      | none =>
        show compFW P o.op tm h _ = compF False (prW P) P o.op noRec tm h fun v h => putK tm o.dst v h _
        simp only [putK_eq]; rw [compF_W]
      | some sw =>
        obtain ⟨s, w⟩ := sw
        show GuardW (wantV (tmv tm s) w) (fun κ' => compFW P o.op tm h κ') h _ = Bool.rec (motive := fun _ => Prop) _ (compF False (prW P) P o.op noRec tm h _) _
        refine (guardF (fun κ' => compFW P o.op tm h κ') tm h s w o.dst fun tm h => runOps False (prW P) P noRec all os tm h κ).trans ?_
        simp only [compF_W]

theorem sameW_eq (os : List Oper) (D M : Nat) (tm : T Value) (h : Heap) : ∀ its : List It, sameW P os D M tm h its = sameB P os D M tm h its := by
  intro its
  induction its with
  | nil => rfl
  | cons it its ih =>
    obtain ⟨k, q⟩ := it
    unfold sameW sameB
    cases bit D k && !bit M k with
    | false => exact ih
    | true =>
      cases clsOf P q.op with
      | rd x =>
        simp only [ih, rdW_eq]
        congr 1
        cases guardOf os q with
        | none => rfl
        | some g =>
          cases g with
          | none =>
            cases rdW x tm h <;> cases q.dst <;> rfl
          | some sw =>
            obtain ⟨s, w⟩ := sw
            simp only [wantB_some]
            cases wantV (tmv tm s) w
            · rfl
            · cases rdW x tm h <;> cases q.dst <;> rfl
      | al x => exact ih
      | wr => exact ih

theorem stepW_none (os : List Oper) (D M : Nat) (o : Oper) (tm : T Value) (h : Heap) (k : T Value → Heap → Prop) :
    stepW P os D M o tm h (fun v h => k (putT tm o.dst v) h) = (match clsOf P o.op with
      | .rd x => match readO x tm h with
        | some v => putK tm o.dst v h k
        | none => False
      | .al x => match makeO x tm with
        | some (b, mk) => newBlock False b h fun n h => putK tm o.dst (mk n) h k
        | none => False
      | .wr => compF False (prW P) P o.op noRec tm h fun v h => putK tm o.dst v h fun tm h =>
          match anyRd P D M (itemsOf os 0) with
          | false => k tm h
          | true => match sameB P os D M tm h (itemsOf os 0) with
            | true => k tm h
            | false => False) := by
  unfold stepW
  cases clsOf P o.op with
  | rd x =>
    simp only [rdW_eq, putK_eq]
    cases rdW x tm h <;> rfl
  | al x =>
    simp only [mkW_eq, putK_eq]
    cases mkW x tm <;> rfl
  | wr =>
    simp only [putK_eq, compF_W]
    cases anyRd P D M (itemsOf os 0) with
    | false => rfl
    | true => simp only [sameW_eq]; rfl
theorem planW_eq (os : List Oper) : ∀ (l : List Nat) (D M : Nat) (tm : T Value) (h : Heap) (κ : T Value → Heap → Prop), planW P os l D M tm h κ = runPlan False (prW P) P noRec os l D M tm h κ := by
  intro l
  induction l with
  | nil => intro D M tm h κ; rfl
  | cons i is ih =>
    intro D M tm h κ
    unfold planW runPlan
    cases os[i]? with
    | none => rfl
    | some o =>
      simp only [ih]
      cases hg : guardOf os o with
      | none => simp only [stepPlan, hg]
      | some g =>
        have hk := fun M' => stepW_none (P := P) os D M' o tm h fun tm h => runPlan False (prW P) P noRec os is (setBit D i) M' tm h κ
        cases g with
        | none =>
          refine (hk _).trans ?_
          simp only [stepPlan, hg]; rfl
        | some sw =>
          obtain ⟨s, w⟩ := sw
          simp only [stepPlan, hg, wantB_some]
          cases wantV (tmv tm s) w with
          | true => exact hk _
          | false => simp only [putK_eq]; rfl

theorem regW_eq (os : List Oper) (draw : Bool) (tm : T Value) (h : Heap) (κ : T Value → Heap → Prop) : regW P os draw tm h κ = runRegion False (prW P) P noRec os draw tm h κ := by
  cases draw with
  | false => exact opsW_eq os os tm h κ
  | true =>
    unfold regW runRegion
    cases planOf P os with
    | none => rfl
    | some l => exact planW_eq os l 0 0 tm h κ

end Go.Vai
