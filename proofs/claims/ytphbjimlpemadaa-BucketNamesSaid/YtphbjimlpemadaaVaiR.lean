/-
  PROVED HERE: a part of an interpreter for the model's code, and that it is sound.
  The interpreter, second part: regions that draw their order; code; the run. Definitions alone.
-/
import Derived.Test.YtphbjimlpemadaaVaiX
set_option linter.unusedVariables false
set_option linter.unusedSimpArgs false
namespace Go.Vai

section
variable {β : Type} (fl : β) (pr : Prims β)

abbrev OXI := XI (Option Value)
abbrev OXA := XA (Option (AObj × (Nat → Value)))

inductive Cls where
  | rd (x : OXI)
  | al (x : OXA)
  | wr
/-- what an operation is to a region: it reads, it makes a block out of its operands, or it may write -/
noncomputable def clsOf (P : Program) (op : Op) : Cls :=
  match op with
  | .assign _ => .wr
  | op => match compR (β := Option Value) none P op with
    | some x => .rd x
    | none => match compA (β := Option (AObj × (Nat → Value))) none P op with
      | some x => .al x
      | none => .wr

noncomputable def isWr (P : Program) (o : Oper) : Bool := match clsOf P o.op with | .wr => true | _ => false

def bit (m i : Nat) : Bool := Nat.testBit m i
def setBit (m i : Nat) : Nat := Nat.lor m (Nat.pow 2 i)

/-- the operations that must come before -/
def predsOf (o : Oper) : List Nat := (o.after.toList.filter fun e => Region.binds .any e).map (·.on)
def readyB (D : Nat) (o : Oper) : Bool := (predsOf o).all fun e => bit D e

abbrev It := Nat × Oper
def itemsOf (os : List Oper) (i : Nat) : List It := match os with
  | [] => []
  | o :: os => (i, o) :: itemsOf os (Nat.succ i)

/-- one pass: all that read or make and are ready; what is left -/
noncomputable def passF (P : Program) : List It → Nat → (List Nat → List It → Nat → β) → β
  | [], D, κ => κ [] [] D
  | (i, o) :: r, D, κ => match readyB D o && !isWr P o with
    | true => passF P r (setBit D i) fun ex rem D => κ (i :: ex) rem D
    | false => passF P r D fun ex rem D => κ ex ((i, o) :: rem) D
noncomputable def firstReady (P : Program) (D : Nat) : List It → Option (Nat × List It)
  | [] => none
  | (i, o) :: r => match readyB D o with
    | true => some (i, r)
    | false => match firstReady P D r with | some (w, r) => some (w, (i, o) :: r) | none => none
noncomputable def orderF (P : Program) : Nat → List It → Nat → Option (List Nat)
  | 0, _, _ => none
  | n + 1, rem, D => passF P rem D fun ex rem D => match rem with
    | [] => some ex
    | _ => match firstReady P D rem with
      | none => none
      | some (w, rem) => match orderF P n rem (setBit D w) with
        | some l => some (ex ++ w :: l)
        | none => none
noncomputable def orderOf (P : Program) (os : List Oper) : Option (List Nat) := orderF P os.length (itemsOf os 0) 0

/-- the slots that an operation looks at -/
def looksOf (os : List Oper) (o : Oper) : List Nat :=
  (o.op.operands.toList.filterMap fun | .tmp t => some t | _ => none) ++
  (match o.guard with | some (g, _) => ((os[g]?).bind (·.dst)).toList | none => [])

/-- from below i on down: those that must have come, if these have -/
def ancF (os : List Oper) : Nat → Nat → Nat
  | 0, m => m
  | i + 1, m => match bit m i, os[i]? with
    | true, some o => ancF os i ((predsOf o).foldl setBit m)
    | _, _ => ancF os i m
def ancOf (os : List Oper) (w : Nat) : Nat := match os[w]? with
  | some o => ancF os w ((predsOf o).foldl setBit 0)
  | none => 0

def dstIs (o : Oper) (t : Nat) : Bool := match o.dst with | some d => Nat.beq d t | none => false

/-- the static conditions at operation i: D done -/
noncomputable def okAt (P : Program) (os : List Oper) (its : List It) (D M i : Nat) (o : Oper) : Bool :=
  !bit D i && readyB D o && (guardOf os o).isSome &&
  -- whoever reads or makes into a slot that i looks at comes before it
  (its.all fun (k, q) => isWr P q || !((looksOf os o).any (dstIs q)) || (predsOf o).contains k) &&
  match isWr P o with
  | false => its.all fun (k, q) => Nat.beq k i || isWr P q || (match o.dst with | some d => !dstIs q d | none => true)
  | true =>
    -- nothing else is ready; what may not have come yet does not look at the slot, nor writes it
    (its.all fun (k, q) => Nat.beq k i || bit D k || !readyB D q) &&
    (its.all fun (k, q) => !bit D k || isWr P q || bit M k || (match o.dst with | some d => !dstIs q d && !((looksOf os q).any (Nat.beq d)) | none => true))

noncomputable def okPlan (P : Program) (os : List Oper) : List Nat → Nat → Nat → Bool
  | [], D, _ => (itemsOf os 0).all fun (k, _) => bit D k
  | i :: is, D, M => match os[i]? with
    | none => false
    | some o =>
      let M' := match isWr P o with | true => Nat.lor M (ancOf os i) | false => M
      okAt P os (itemsOf os 0) D M' i o && okPlan P os is (setBit D i) M'

noncomputable def readO (x : OXI) (tm : T Value) (h : Heap) : Option Value := x.run tm h fun v _ => some v
noncomputable def makeO (x : OXA) (tm : T Value) : Option (AObj × (Nat → Value)) := x.run tm fun o mk => some (o, mk)

/-- a reading that may come later reads the same now -/
noncomputable def sameB (P : Program) (os : List Oper) (D M : Nat) (tm : T Value) (h : Heap) : List It → Bool
  | [] => true
  | (k, q) :: its => match bit D k && !bit M k, clsOf P q.op with
    | true, .rd x => (match guardOf os q with
      | some g => (match wantB tm g with
        | true => (match readO x tm h, q.dst with
          | some v, some d => veq 8 v (tmv tm d)
          | some _, none => true
          | none, _ => false)
        | false => true)
      | none => false) && sameB P os D M tm h its
    | _, _ => sameB P os D M tm h its

/-- are there readings to be looked at again -/
noncomputable def anyRd (P : Program) (D M : Nat) (its : List It) : Bool := its.any fun (k, q) => bit D k && !bit M k && (match clsOf P q.op with | .rd _ => true | _ => false)

noncomputable def stepPlan (P : Program) (rec : Rec β) (os : List Oper) (D M : Nat) (o : Oper) (tm : T Value) (h : Heap) (κ : T Value → Heap → β) : β :=
  match guardOf os o with
  | none => fl
  | some g => match wantB tm g with
    | false => putK tm o.dst undef h κ
    | true => match clsOf P o.op with
      | .rd x => match readO x tm h with
        | some v => putK tm o.dst v h κ
        | none => fl
      | .al x => match makeO x tm with
        | some (b, mk) => newBlock fl b h fun n h => putK tm o.dst (mk n) h κ
        | none => fl
      | .wr => compF fl pr P o.op rec tm h fun v h => putK tm o.dst v h fun tm h =>
          match anyRd P D M (itemsOf os 0) with
          | false => κ tm h
          | true => match sameB P os D M tm h (itemsOf os 0) with
            | true => κ tm h
            | false => fl

noncomputable def runPlan (P : Program) (rec : Rec β) (os : List Oper) : List Nat → Nat → Nat → T Value → Heap → (T Value → Heap → β) → β
  | [], _, _, tm, h, κ => κ tm h
  | i :: is, D, M, tm, h, κ => match os[i]? with
    | none => fl
    | some o =>
      let M' := match isWr P o with | true => Nat.lor M (ancOf os i) | false => M
      stepPlan fl pr P rec os D M' o tm h fun tm h => runPlan P rec os is (setBit D i) M' tm h κ

/-- does a region that draws need no plan: nothing in it is like to be told apart -/
noncomputable def planOf (P : Program) (os : List Oper) : Option (List Nat) := match orderOf P os with
  | some l => match okPlan P os l 0 0 && (itemsOf os 0).all fun (k, q) => (predsOf q).all fun e => Nat.ble (Nat.succ e) k with
    | true => some l
    | false => none
  | none => none

noncomputable def runRegion (P : Program) (rec : Rec β) (os : List Oper) (draw : Bool) (tm : T Value) (h : Heap) (κ : T Value → Heap → β) : β :=
  match draw with
  | false => runOps fl pr P rec os os tm h κ
  | true => match planOf P os with
    | some l => runPlan fl pr P rec os l 0 0 tm h κ
    | none => fl

noncomputable def body (P : Program) (rec : Rec β) (c : Code) (tm : T Value) (h : Heap) (κ : Ex → T Value → Heap → β) : β :=
    match c with
    | .skip => κ .normal tm h
    | .label _ => κ .normal tm h
    | .region _ os draw => runRegion fl pr P rec os.toList draw tm h fun tm h => κ .normal tm h
    | .seq a b => rec a tm h (seqK rec b κ)
    | .cond c a b => ev tm c (condK fl rec a b tm h κ)
    | .block id c => rec c tm h (blockK id κ)
    | .scope c => rec c tm h κ
    | .loop c => rec c tm h (seqK rec (.loop c) κ)
    | .exit id => κ (.exit id) tm h
    | .ret => κ .ret tm h
    | .rangeFunc g ps a b => ev tm g (rangeFuncB fl pr P rec ps.toList a b tm h κ)
    | _ => fl

noncomputable def run (P : Program) (n : Nat) : Rec β :=
  Nat.rec (motive := fun _ => Rec β) (fun _ _ _ _ => fl) (fun _ ih => body fl pr P ih) n

end
/-- a closed call answers true -/
noncomputable def answersTrue (pr : Prims Bool) (P : Program) (n : Nat) (f : FuncId) : Bool :=
  callF false pr P (run false pr P n) f [] ⟨0, .nil, 0⟩ fun v _ => match v with | .bool true => true | _ => false
end Go.Vai
