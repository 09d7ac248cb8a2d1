/-
  PROVED HERE: a part of an interpreter for the model's code, and that it is sound.
  An interpreter over an abstract heap for the model's Code: definitions alone. (Program-independent.)
  Blocks that append makes have an unknown capacity ('openCap'); an append past the known end of such a block kills it ('dead').
  Written in continuation-passing style over an answer type, with recursors in the hot places, so that the kernel can run it.
-/
import GoSem.Dispatch
import GoSem.Machine.Exec
set_option linter.unusedVariables false
set_option linter.unusedSimpArgs false
namespace Go.Vai

/-! ## a trie; keys are paths -/
inductive T (α : Type) where
  | nil : T α
  | node (l : T α) (v : Option α) (r : T α) : T α

noncomputable def keyF (f : Nat) : Nat → List Bool :=
  Nat.rec (motive := fun _ => Nat → List Bool) (fun _ => [])
    (fun _ ih n => Bool.rec (motive := fun _ => List Bool) (Nat.beq (Nat.mod n 2) 1 :: ih (Nat.div (Nat.sub n 1) 2)) [] (Nat.beq n 0)) f
/-- the path of a number: bijective base 2 -/
noncomputable def key (n : Nat) : List Bool := keyF 200 n

noncomputable def T.getp {α : Type} (p : List Bool) : T α → Option α :=
  List.rec (motive := fun _ => T α → Option α) (fun t => T.rec (motive := fun _ => Option α) none (fun _ v _ _ _ => v) t)
    (fun b _ ih t => T.rec (motive := fun _ => Option α) none (fun l _ r _ _ => Bool.rec (motive := fun _ => Option α) (ih l) (ih r) b) t) p

noncomputable def T.setp {α β : Type} (a : α) (p : List Bool) : T α → (T α → β) → β :=
  List.rec (motive := fun _ => T α → (T α → β) → β)
    (fun t κ => T.rec (motive := fun _ => β) (κ (.node .nil (some a) .nil)) (fun l _ r _ _ => κ (.node l (some a) r)) t)
    (fun b _ ih t κ => T.rec (motive := fun _ => β)
      (Bool.rec (motive := fun _ => β) (ih .nil fun l => κ (.node l none .nil)) (ih .nil fun r => κ (.node .nil none r)) b)
      (fun l v r _ _ => Bool.rec (motive := fun _ => β) (ih l fun l => κ (.node l v r)) (ih r fun r => κ (.node l v r)) b) t) p

noncomputable def T.get {α : Type} (t : T α) (n : Nat) : Option α := T.getp (key n) t
noncomputable def T.set {α β : Type} (t : T α) (n : Nat) (a : α) (κ : T α → β) : β := T.setp a (key n) t κ

/-! ## the state -/
inductive Ex where
  | normal | exit (id : Nat) | ret

inductive AObj where
  | cells (n : Nat) (c : T Value) (elem : TypeId) (opn : Bool)
  | map (es : List MapEntry) (clock : Nat)
  | miter (m : Option Nat) (since : Nat) (seen : List Nat) (stepped : Nat)
  | siter (s : ByteArray) (pos : Nat)
  | dead (n : Nat) (elem : TypeId)
  /-- cells that are only read, one by one: the bytes of a text -/
  | ro (n : Nat) (c : T Value) (elem : TypeId)
  /-- a range over a function: its state, the jump that is pending, the slots at its start, yield's parameters, the assignment, the body -/
  | loop (st : LoopState) (pend : Option Ex) (tm : T Value) (ps : List Nat) (a b : Code)

/-- 'lo': blocks below are not to be written -/
structure Heap where
  nx : Nat
  bl : T AObj
  lo : Nat

/-- the capacity of a slice up to its block's end, which is not known -/
def openCap : Nat := 1267650600228229401496703205376
/-- the capacity of an empty slice whose place is not known -/
def anyCap : Nat := 1267650600228229401496703205377

section
variable {β : Type}

noncomputable def fnK (n : Nat) (κ : Nat → β) : β := Nat.rec (motive := fun _ => β) (κ 0) (fun m _ => κ (Nat.succ m)) n
noncomputable def fiK (i : Int) (κ : Int → β) : β := Int.rec (motive := fun _ => β) (fun n => fnK n fun n => κ (.ofNat n)) (fun n => fnK n fun n => κ (.negSucc n)) i
noncomputable def fbK (b : Bool) (κ : Bool → β) : β := Bool.rec (motive := fun _ => β) (κ false) (κ true) b

def iltB : Int → Int → Bool
  | .ofNat a, .ofNat b => Nat.ble (Nat.succ a) b
  | .ofNat _, .negSucc _ => false
  | .negSucc _, .ofNat _ => true
  | .negSucc a, .negSucc b => Nat.ble (Nat.succ b) a
def ieqB : Int → Int → Bool
  | .ofNat a, .ofNat b => Nat.beq a b
  | .negSucc a, .negSucc b => Nat.beq a b
  | _, _ => false
def kindEq : IntKind → IntKind → Bool
  | .i8, .i8 | .i16, .i16 | .i32, .i32 | .i64, .i64 | .u8, .u8 | .u16, .u16 | .u32, .u32 | .u64, .u64 => true
  | _, _ => false

def wrapB (k : IntKind) (n : Int) : Int :=
  match k, n with
  | .i64, .ofNat m => match Nat.ble m 9223372036854775807 with | true => .ofNat m | false => k.wrap n
  | .i64, .negSucc m => match Nat.ble m 9223372036854775807 with | true => .negSucc m | false => k.wrap n
  | .u8, .ofNat m => .ofNat (Nat.mod m 256)
  | .u32, .ofNat m => .ofNat (Nat.mod m 4294967296)
  | .u64, .ofNat m => .ofNat (Nat.mod m 18446744073709551616)
  | _, _ => k.wrap n

def listEqB : List UInt8 → List UInt8 → Bool
  | [], [] => true
  | a :: x, b :: y => match Nat.beq a.toNat b.toNat with | true => listEqB x y | false => false
  | _, _ => false
def bytesEqB (a b : ByteArray) : Bool := listEqB a.data.toList b.data.toList

/-- lists of values that are surely equal -/
def veqL (f : Value → Value → Bool) : List Value → List Value → Bool
  | [], [] => true
  | x :: xs, y :: ys => f x y && veqL f xs ys
  | _, _ => false
/-- values that are surely equal -/
def veq : Nat → Value → Value → Bool
  | 0, _, _ => false
  | n + 1, a, b => match a, b with
    | .bool a, .bool b => a == b
    | .int k a, .int k' b => kindEq k k' && ieqB a b
    | .string a, .string b => bytesEqB a b
    | .pointer none, .pointer none => true
    | .pointer (some ⟨b, o, none⟩), .pointer (some ⟨b', o', none⟩) => Nat.beq b b' && Nat.beq o o'
    | .slice none n c, .slice none n' c' => Nat.beq n n' && Nat.beq c c'
    | .slice (some ⟨b, o, none⟩) n c, .slice (some ⟨b', o', none⟩) n' c' => Nat.beq b b' && Nat.beq o o' && Nat.beq n n' && Nat.beq c c'
    | .map none, .map none => true
    | .map (some b), .map (some b') => Nat.beq b b'
    | .nilFunc, .nilFunc => true
    | .nilIface, .nilIface => true
    | .iface t x, .iface t' x' => Nat.beq t t' && veq n x x'
    | .agg x, .agg y => veqL (veq n) x.toList y.toList
    | .tuple x, .tuple y => veqL (veq n) x.toList y.toList
    | .func (.func f) a b, .func (.func g) c d => Nat.beq f g && veqL (veq n) a.toList c.toList && veqL (veq n) b.toList d.toList
    | _, _ => false

noncomputable def tmv (tm : T Value) (t : Nat) : Value := match tm.get t with | some v => v | none => undef

/-- an operand's value -/
noncomputable def evv (tm : T Value) : Operand → Value
  | .tmp t => tmv tm t
  | .const v => v
  | .func f => .func (.func f) #[] #[]
  | .global _ => undef

noncomputable def ev (tm : T Value) (x : Operand) (κ : Value → β) : β :=
  match x with
  | .tmp t => match tm.get t with | some v => κ v | none => κ undef
  | .const v => κ v
  | .func f => κ (.func (.func f) #[] #[])
  | .global _ => κ undef

noncomputable def evs (tm : T Value) : List Operand → (List Value → β) → β
  | [], κ => κ []
  | x :: xs, κ => ev tm x fun v => evs tm xs fun vs => κ (v :: vs)

/-- values that name no block -/
def basicOk : Value → Bool
  | .bool _ | .int .. | .string _ | .nilFunc | .nilIface | .pointer none | .map none => true
  | .slice none n c => Nat.ble n c
  | _ => false
def selfOk : Value → Bool
  | .agg cs | .tuple cs => cs.toList.all basicOk
  | .iface _ v => basicOk v
  | v => basicOk v
/-- numbers, texts, bools, and structs of these -/
def scal1 : Value → Bool
  | .bool _ | .int .. | .string _ => true
  | _ => false
def scal : Value → Bool
  | .agg cs => cs.toList.all scal1
  | v => scal1 v

def szOf (P : Program) (t : TypeId) : Option Nat := (P.info? t).map (·.size)
/-- the cells of the zero, if they name no block -/
def zeroOf (P : Program) (t : TypeId) : Option (List Value) := (P.info? t).bind fun i => i.zero.bind fun z => match z.cells.toList.all basicOk with
  | true => some z.cells.toList
  | false => none
/-- the zero's cells and the size, where they agree and there is a cell -/
def zOf (P : Program) (t : TypeId) : Option (List Value × Nat) := match zeroOf P t, szOf P t with
  | some z, some (s + 1) => match Nat.beq z.length (s + 1) with | true => some (z, s + 1) | false => none
  | _, _ => none
def isIntD : TypeDesc → Bool
  | .int _ => true
  | _ => false
def aggT (P : Program) (t : TypeId) : Option Bool := match P.underlying t with
  | some (.struct _) | some (.array _ _) => some true
  | some _ => some false
  | none => none

variable (fl : β)

/-- field by field -/
def eqGo (P : Program) (rec : TypeId → Value → Value → Option Bool) : List Field → List Value → List Value → Option Bool
  | [], _, _ => some true
  | f :: fs, xs, ys =>
    match f.name == "_" with
    | true => none
    | false =>
      match aggT P f.type, szOf P f.type with
      | some true, some s => match rec f.type (.agg ⟨(xs.drop f.offset).take s⟩) (.agg ⟨(ys.drop f.offset).take s⟩) with
          | some true => eqGo P rec fs xs ys
          | r => r
      | some false, some _ => match xs[f.offset]?, ys[f.offset]? with
        | some x, some y => match rec f.type x y with
          | some true => eqGo P rec fs xs ys
          | r => r
        | _, _ => none
      | _, _ => none

/-- is there a block of cells, not dead -/
noncomputable def liveC (h : Heap) (b : Nat) : Bool := match h.bl.get b with | some (.cells ..) => true | _ => false

/-- '==' by the type; none: not told -/
noncomputable def eqB (P : Program) (h : Heap) : Nat → TypeId → Value → Value → Option Bool
  | 0, _, _, _ => none
  | d + 1, t, x, y =>
    match P.underlying t, x, y with
    | some .bool, .bool a, .bool b => some (match a, b with | true, true | false, false => true | _, _ => false)
    | some (.int _), .int k a, .int k' b => match kindEq k k' with | true => some (ieqB a b) | false => none
    | some .string, .string a, .string b => some (bytesEqB a b)
    | some (.pointer _), .pointer none, .pointer none => some true
    | some (.pointer _), .pointer none, .pointer (some _) => some false
    | some (.pointer _), .pointer (some _), .pointer none => some false
    | some (.pointer e), .pointer (some ⟨b, o, none⟩), .pointer (some ⟨b', o', none⟩) =>
      match szOf P e with
      | some (_ + 1) => match liveC h b, liveC h b' with
        | true, true => match Nat.beq b b' with
          | true => some (Nat.beq o o')
          | false => some false
        | _, _ => none
      | _ => none
    | some (.interface _), .nilIface, .nilIface => some true
    | some (.interface _), .nilIface, .iface _ _ => some false
    | some (.interface _), .iface _ _, .nilIface => some false
    | some (.struct fs), .agg xs, .agg ys => match P.stoodInHeld t with
      | true => none
      | false => eqGo P (eqB P h d) fs.toList xs.toList ys.toList
    | some (.slice _), .slice none _ _, .slice none _ _ => some true
    | some (.slice _), .slice none _ _, .slice (some _) _ _ => some false
    | some (.slice _), .slice (some _) _ _, .slice none _ _ => some false
    | some (.map _ _), .map none, .map none => some true
    | some (.map _ _), .map none, .map (some _) => some false
    | some (.map _ _), .map (some _), .map none => some false
    | some (.func ..), .nilFunc, .nilFunc => some true
    | some (.func ..), .nilFunc, .func .. => some false
    | some (.func ..), .func .., .nilFunc => some false
    | _, _, _ => none

noncomputable def loadN (c : T Value) (off : Nat) (n : Nat) : List Value → (List Value → β) → β :=
  Nat.rec (motive := fun _ => List Value → (List Value → β) → β) (fun acc κ => κ acc)
    (fun s ih acc κ => Option.rec (motive := fun _ => β) fl (fun v => ih (v :: acc) κ) (c.get (Nat.add off s))) n

/-- one cell's value? -/
def oneC : Value → Bool
  | .agg _ | .tuple _ => false
  | _ => true

noncomputable def storeN (n : Nat) (vs : List Value) : T Value → Nat → (T Value → β) → β :=
  List.rec (motive := fun _ => T Value → Nat → (T Value → β) → β) (fun c _ κ => κ c)
    (fun v _ ih c off κ => Bool.rec (motive := fun _ => β) fl (Bool.rec (motive := fun _ => β) fl (T.set c off v fun c => ih c (Nat.succ off) κ) (Nat.ble (Nat.succ off) n)) (oneC v)) vs

/-- cells laid anew, from an offset on -/
noncomputable def layN (vs : List Value) : T Value → Nat → (T Value → Nat → β) → β :=
  List.rec (motive := fun _ => T Value → Nat → (T Value → Nat → β) → β) (fun c off κ => κ c off)
    (fun v _ ih c off κ => T.set c off v fun c => fnK (Nat.succ off) fun off => ih c off κ) vs

noncomputable def newBlock (o : AObj) (h : Heap) (κ : Nat → Heap → β) : β :=
  match Nat.ble h.nx 1000000000000 with
  | true => T.set h.bl h.nx o fun bl => fnK (Nat.succ h.nx) fun nx => κ h.nx ⟨nx, bl, h.lo⟩
  | false => fl

noncomputable def setBlock (b : Nat) (o : AObj) (h : Heap) (κ : Heap → β) : β :=
  match Nat.ble h.lo b with
  | true => T.set h.bl b o fun bl => κ ⟨h.nx, bl, h.lo⟩
  | false => fl

noncomputable def cellsK (vs : List Value) (e : TypeId) (opn : Bool) (κ : AObj → β) : β :=
  layN vs .nil 0 fun c n => match Nat.ble n 1000000000000 with
    | true => κ (.cells n c e opn)
    | false => fl

noncomputable def newCells (vs : List Value) (e : TypeId) (opn : Bool) (h : Heap) (κ : Nat → Heap → β) : β :=
  cellsK fl vs e opn fun o => newBlock fl o h κ

noncomputable def load1 (a : Value) (h : Heap) (κ : Value → Heap → β) : β :=
  match a with
  | .pointer (some ⟨b, o, none⟩) =>
    match h.bl.get b with
    | some (.cells n c _ _) => match Nat.ble (Nat.succ o) n, c.get o with
        | true, some v => κ v h
        | _, _ => fl
    | some (.ro n c _) => match Nat.ble (Nat.succ o) n, c.get o with
        | true, some v => κ v h
        | _, _ => fl
    | _ => fl
  | _ => fl
noncomputable def loadA (s : Nat) (a : Value) (h : Heap) (κ : Value → Heap → β) : β :=
  match a with
  | .pointer (some ⟨b, o, none⟩) =>
    match h.bl.get b with
    | some (.cells n c _ _) => match Nat.ble (Nat.add o s) n with
      | true => loadN fl c o s [] fun l => κ (.agg ⟨l⟩) h
      | false => fl
    | _ => fl
  | _ => fl
noncomputable def storeV (s : Nat) (a v : Value) (h : Heap) (κ : Value → Heap → β) : β :=
  match a with
  | .pointer (some ⟨b, o, none⟩) =>
    match h.bl.get b with
    | some (.cells n c e op) =>
        match Nat.beq v.cells.toList.length s with
        | true => storeN fl n v.cells.toList c o fun c => setBlock fl b (.cells n c e op) h fun h => κ undef h
        | false => fl
    | _ => fl
  | _ => fl

noncomputable def intB (op : BinOp) (k : IntKind) (a b : Int) (κ : Value → β) : β :=
  match op with
  | .add => fiK (wrapB k (Int.add a b)) fun n => κ (.int k n)
  | .sub => fiK (wrapB k (Int.sub a b)) fun n => κ (.int k n)
  | .mul => fiK (wrapB k (Int.mul a b)) fun n => κ (.int k n)
  | .quo => match ieqB b 0 with | true => fl | false => fiK (wrapB k (Int.tdiv a b)) fun n => κ (.int k n)
  | .rem => match ieqB b 0 with | true => fl | false => fiK (Int.tmod a b) fun n => κ (.int k n)
  | .and => fiK (wrapB k (BitVec.ofInt k.bits a &&& BitVec.ofInt k.bits b).toNat) fun n => κ (.int k n)
  | .or => fiK (wrapB k (BitVec.ofInt k.bits a ||| BitVec.ofInt k.bits b).toNat) fun n => κ (.int k n)
  | .xor => fiK (wrapB k (BitVec.ofInt k.bits a ^^^ BitVec.ofInt k.bits b).toNat) fun n => κ (.int k n)
  | .andNot => fiK (wrapB k (BitVec.ofInt k.bits a &&& ~~~ (BitVec.ofInt k.bits b)).toNat) fun n => κ (.int k n)
  | .eql => fbK (ieqB a b) fun r => κ (.bool r)
  | .neq => fbK (!(ieqB a b)) fun r => κ (.bool r)
  | .lss => fbK (iltB a b) fun r => κ (.bool r)
  | .leq => fbK (!(iltB b a)) fun r => κ (.bool r)
  | .gtr => fbK (iltB b a) fun r => κ (.bool r)
  | .geq => fbK (!(iltB a b)) fun r => κ (.bool r)
  | .shl => match iltB b 0 with | true => fl | false => fiK (k.wrap (a * 2 ^ (min b.toNat k.bits))) fun n => κ (.int k n)
  | .shr => match iltB b 0 with | true => fl | false => fiK (a.fdiv (2 ^ (min b.toNat k.bits))) fun n => κ (.int k n)

/-- 'cn': one of the operands is a constant; 'gd': the guard of '==' speaks of this type -/
noncomputable def binB (P : Program) (op : BinOp) (t : TypeId) (cn : Bool) (gd : Bool) (a b : Value) (h : Heap) (κ : Value → Heap → β) : β :=
  match a, b with
  | .int k n, .int k' m => match kindEq k k', op with
    | true, op => intB fl op k n m fun v => κ v h
    | false, .shl => intB fl .shl k n m fun v => κ v h
    | false, .shr => intB fl .shr k n m fun v => κ v h
    | false, _ => fl
  | .string s, .string s' => match op with
    | .add => match Nat.ble (Nat.add s.size s'.size) 9223372036854775807 with | true => κ (.string (s ++ s')) h | false => fl
    | .eql => fbK (bytesEqB s s') fun r => κ (.bool r) h
    | .neq => fbK (!(bytesEqB s s')) fun r => κ (.bool r) h
    | _ => fl
  | .nilIface, .nilIface => match op, cn with
    | .eql, true => match eqB P h 100 t a b with | some r => fbK r fun r => κ (.bool r) h | none => fl
    | .neq, true => match eqB P h 100 t a b with | some r => fbK (!r) fun r => κ (.bool r) h | none => fl
    | _, _ => fl
  | .float .., _ | _, .float .. | .complex .., _ | _, .complex .. => fl
  | a, b => match op, gd with
    | .eql, false => match eqB P h 100 t a b with | some r => fbK r fun r => κ (.bool r) h | none => fl
    | .neq, false => match eqB P h 100 t a b with | some r => fbK (!r) fun r => κ (.bool r) h | none => fl
    | _, _ => fl

noncomputable def unB (op : UnOp) (a : Value) (h : Heap) (κ : Value → Heap → β) : β :=
  match op, a with
  | .not, .bool b => fbK (!b) fun r => κ (.bool r) h
  | .neg, .int k n => fiK (wrapB k (Int.sub 0 n)) fun n => κ (.int k n) h
  | .xor, .int k n => fiK (wrapB k (BitVec.ofInt k.bits (if k.signed then -1 else k.max) ^^^ BitVec.ofInt k.bits n).toNat) fun n => κ (.int k n) h
  | _, _ => fl

/-- new cells over the front of a list -/
noncomputable def overL : List Value → List Value → (List Value → β) → β
  | [], old, κ => κ old
  | v :: vs, _ :: old, κ => overL vs old fun l => κ (v :: l)
  | _ :: _, [], _ => fl
noncomputable def putL (new : List Value) : Nat → List Value → (List Value → β) → β
  | 0, old, κ => overL fl new old κ
  | o + 1, v :: old, κ => putL new o old fun l => κ (v :: l)
  | _ + 1, [], _ => fl

/-- the parts laid into the cells -/
noncomputable def fillB : List (Nat × Nat) → List Value → List Value → (List Value → β) → β
  | (off, size) :: ps, v :: vs, cs, κ =>
      match Nat.beq v.cells.toList.length size with
      | false => fl
      | true => putL fl v.cells.toList off cs fun cs => fillB ps vs cs κ
  | [], [], cs, κ => κ cs
  | _, _, _, _ => fl

def repeatL (zs : List Value) : Nat → List Value
  | 0 => []
  | n + 1 => zs ++ repeatL zs n

/-- a bound's number -/
noncomputable def numK (v : Option Value) (d : Nat) (κ : Nat → β) : β := match v with
    | none => κ d
    | some (.int _ (.ofNat n)) => κ n
    | some _ => fl

/-- 'lim': how far a bound may go for sure; 'cap': the capacity if none is named -/
noncomputable def boundsB (len lim cap : Nat) (lo hi mx : Option Value) (κ : Nat → Nat → Nat → β) : β :=
  match mx with
  | none => numK fl hi len fun h => numK fl lo 0 fun l =>
      match Nat.ble l h, Nat.ble h lim with
      | true, true => κ l h cap
      | _, _ => fl
  | some _ => numK fl mx 0 fun m => numK fl hi len fun h => numK fl lo 0 fun l =>
      match hi.isSome, Nat.ble l h, Nat.ble h m, Nat.ble m lim with
      | true, true, true, true => κ l h m
      | _, _, _, _ => fl

/-- an open block's known cells, if its elements are of that type -/
noncomputable def knownOf (h : Heap) (e : TypeId) (b : Nat) : Option Nat := match h.bl.get b with
  | some (.cells n _ e' true) => match Nat.beq e e' with | true => some n | false => none
  | some (.dead n e') => match Nat.beq e e' with | true => some n | false => none
  | _ => none

noncomputable def sliceOut (b o s l hh m : Nat) (κ : Value → β) : β :=
  match Nat.beq m l with
  | true => fnK (Nat.sub hh l) fun n => κ (.slice (some ⟨b, o, none⟩) n 0)
  | false => fnK (Nat.add o (Nat.mul l s)) fun o => fnK (Nat.sub hh l) fun n => fnK (Nat.sub m l) fun c => κ (.slice (some ⟨b, o, none⟩) n c)

/-- a slice of a slice, s cells an element -/
noncomputable def sliceB (e s : Nat) (x : Value) (lo hi mx : Option Value) (h : Heap) (κ : Value → Heap → β) : β :=
  match x with
  | .slice none len cap => boundsB fl len cap cap lo hi mx fun l hh m => fnK (Nat.sub hh l) fun n => fnK (Nat.sub m l) fun c => κ (.slice none n c) h
  | .slice (some ⟨b, o, none⟩) len cap =>
      match Nat.beq cap anyCap with
      | true => match Nat.beq len 0 with
        | true => boundsB fl len 0 0 lo hi mx fun _ _ _ => κ (.slice (some ⟨b, o, none⟩) 0 anyCap) h
        | false => fl
      | false => match Nat.beq cap openCap with
        | false => match Nat.ble cap 4611686018427387904 with
          | true => boundsB fl len cap cap lo hi mx fun l hh m => sliceOut b o s l hh m fun v => κ v h
          | false => fl
        | true =>
          match knownOf h e b, s with
          | some n, s + 1 =>
            match Nat.ble o n, Nat.div (Nat.sub n o) (s + 1) with
            | true, lim => boundsB fl len lim openCap lo hi mx fun l hh m =>
              match Nat.beq m openCap with
              | true => match Nat.beq l lim with
                | true => κ (.slice (some ⟨b, o, none⟩) 0 anyCap) h
                | false => fnK (Nat.add o (Nat.mul l (s + 1))) fun o => fnK (Nat.sub hh l) fun n => κ (.slice (some ⟨b, o, none⟩) n openCap) h
              | false => sliceOut b o (s + 1) l hh m fun v => κ v h
            | false, _ => fl
          | _, _ => fl
  | _ => fl

noncomputable def sliceS (x : Value) (lo hi mx : Option Value) (h : Heap) (κ : Value → Heap → β) : β :=
  match x, mx with
  | .string s, none => boundsB fl s.size s.size s.size lo hi none fun l hh _ => κ (.string (s.extract l hh)) h
  | _, _ => fl

/-- the first n elements' cells -/
noncomputable def firstB (h : Heap) (size n : Nat) (x : Value) (κ : List Value → β) : β :=
  match Nat.mul n size with
  | 0 => κ []
  | m + 1 =>
    match x with
    | .slice (some ⟨b, o, none⟩) _ _ =>
      match h.bl.get b with
      | some (.cells nn c _ _) => match Nat.ble (Nat.add o (Nat.succ m)) nn with
        | true => loadN fl c o (Nat.succ m) [] κ
        | false => fl
      | _ => fl
    | _ => fl

/-- how many elements come, and of them the cells -/
noncomputable def comeB (isMake : Bool) (zero : List Value) (h : Heap) (size : Nat) (x : Value) (κ : Nat → List Value → β) : β :=
  match isMake, x with
  | true, .int _ (.ofNat n) => match Nat.ble n 1000000 with
    | true => κ n (repeatL zero n)
    | false => fl
  | false, .slice _ n _ => firstB fl h size n x fun l => κ n l
  | _, _ => fl

/-- append: 'size' cells an element, 'bytes' bytes; 'isMake': the cells of a make are appended -/
noncomputable def appendB (e size : Nat) (zero : List Value) (isMake : Bool) (s x : Value) (h : Heap) (κ : Value → Heap → β) : β :=
  match s with
  | .slice base sLen sCap =>
    comeB fl isMake zero h size x fun n new =>
    match n with
    | 0 => κ s h
    | _ + 1 =>
      fnK (Nat.add sLen n) fun need =>
      match Nat.ble need 1000000000 with
      | true =>
        match base with
        | none => match Nat.beq sCap 0, Nat.beq sLen 0 with
          | true, true => newCells fl new e true h fun b h => κ (.slice (some ⟨b, 0, none⟩) need openCap) h
          | _, _ => fl
        | some ⟨b, o, none⟩ =>
          match Nat.beq sCap anyCap with
          | true => fl
          | false =>
          match Nat.beq sCap openCap with
          | true => match h.bl.get b with
            | some (.cells nn c e' true) => match Nat.beq e e', Nat.ble (Nat.add o (Nat.mul need size)) nn with
              | true, true => storeN fl nn new c (Nat.add o (Nat.mul sLen size)) fun c => setBlock fl b (.cells nn c e' true) h fun h => κ (.slice base need sCap) h
              | true, false => match Nat.beq o 0 && new.all oneC with
                | true => firstB fl h size sLen s fun old => setBlock fl b (.dead nn e') h fun h => newCells fl (old ++ new) e true h fun b h => κ (.slice (some ⟨b, 0, none⟩) need openCap) h
                | false => fl
              | false, _ => fl
            | _ => fl
          | false => match Nat.ble need sCap, h.bl.get b with
            | true, some (.cells nn c e' op) => storeN fl nn new c (Nat.add o (Nat.mul sLen size)) fun c => setBlock fl b (.cells nn c e' op) h fun h => κ (.slice base need sCap) h
            | false, _ => match Nat.ble sCap 1000000000 with
              | true => firstB fl h size sLen s fun old => newCells fl (old ++ new) e true h fun b h => κ (.slice (some ⟨b, 0, none⟩) need openCap) h
              | false => fl
            | _, _ => fl
        | _ => fl
      | false => fl
  | _ => fl

noncomputable def copyB (size : Nat) (d x : Value) (h : Heap) (κ : Value → Heap → β) : β :=
  match d with
  | .slice base dLen _ =>
      match x with
      | .slice _ n _ => fnK (Nat.min n dLen) fun n =>
        match n with
        | 0 => κ (.int .i64 (.ofNat 0)) h
        | _ + 1 => match base with
          | some ⟨b, o, none⟩ => firstB fl h size n x fun cs => match h.bl.get b with
            | some (.cells nn c e' op) => storeN fl nn cs c o fun c => setBlock fl b (.cells nn c e' op) h fun h => κ (.int .i64 (.ofNat n)) h
            | _ => fl
          | _ => fl
      | _ => fl
  | _ => fl

noncomputable def clearB (zero : List Value) (x : Value) (h : Heap) (κ : Value → Heap → β) : β :=
  match x with
  | .slice none _ _ | .slice _ 0 _ | .map none => κ (.tuple #[]) h
  | .slice (some ⟨b, o, none⟩) n _ => match h.bl.get b with
        | some (.cells nn c e' op) => storeN fl nn (repeatL zero n) c o fun c => setBlock fl b (.cells nn c e' op) h fun h => κ (.tuple #[]) h
        | _ => fl
  | .map (some r) => match h.bl.get r with
    | some (.map _ clock) => setBlock fl r (.map [] clock) h fun h => κ (.tuple #[]) h
    | _ => fl
  | _ => fl

noncomputable def lenStr (x : Value) (h : Heap) (κ : Value → Heap → β) : β :=
  match x with
  | .string s => fnK s.size fun n => κ (.int .i64 (.ofNat n)) h
  | _ => fl
noncomputable def lenSli (x : Value) (h : Heap) (κ : Value → Heap → β) : β :=
  match x with
  | .slice _ n _ => κ (.int .i64 (.ofNat n)) h
  | _ => fl
noncomputable def lenMap (x : Value) (h : Heap) (κ : Value → Heap → β) : β :=
  match x with
  | .map none => κ (.int .i64 (.ofNat 0)) h
  | .map (some r) => match h.bl.get r with
    | some (.map es _) => fnK es.length fun n => κ (.int .i64 (.ofNat n)) h
    | _ => fl
  | _ => fl

noncomputable def findB (P : Program) (h : Heap) (kt : TypeId) (k : Value) : List MapEntry → Nat → Option (Option (Nat × MapEntry))
  | [], _ => some none
  | e :: es, i => match eqB P h 100 kt k e.key with
    | some true => some (some (i, e))
    | some false => findB P h kt k es (Nat.succ i)
    | none => none

/-- is the value a key of that type, of numbers, texts, bools -/
def keyOk (P : Program) : Nat → TypeId → Value → Bool
  | 0, _, _ => false
  | d + 1, t, v => match P.underlying t, v with
    | some .bool, .bool _ | some (.int _), .int _ _ | some .string, .string _ => true
    | some (.struct fs), .agg cs => scal (.agg cs) && fs.toList.all fun f => (match aggT P f.type, szOf P f.type with
      | some true, some s => keyOk P d f.type (.agg ⟨(cs.toList.drop f.offset).take s⟩)
      | some false, some _ => (match cs.toList[f.offset]? with | some v => keyOk P d f.type v | none => false)
      | _, _ => false)
    | _, _ => false

/-- what a map holds under a key -/
noncomputable def lookupE (P : Program) (kt : TypeId) (m k : Value) (h : Heap) (κ : Option Value → β) : β :=
    match keyOk P 20 kt k with
    | false => fl
    | true =>
    match m with
    | .map none => κ none
    | .map (some r) => match h.bl.get r with
      | some (.map es _) => match findB P h kt k es 0 with
        | some (some (_, e)) => κ (some e.val)
        | some none => κ none
        | none => fl
      | _ => fl
    | _ => fl
noncomputable def lookupB (P : Program) (kt : TypeId) (zero : Value) (ok : Bool) (m k : Value) (h : Heap) (κ : Value → Heap → β) : β :=
  lookupE fl P kt m k h fun r => match r, ok with
    | some v, true => κ (.tuple #[v, .bool true]) h
    | some v, false => κ v h
    | none, true => κ (.tuple #[zero, .bool false]) h
    | none, false => κ zero h

noncomputable def setAt (f : MapEntry → MapEntry) : Nat → List MapEntry → (List MapEntry → β) → β
  | _, [], κ => κ []
  | 0, e :: es, κ => κ (f e :: es)
  | n + 1, e :: es, κ => setAt f n es fun l => κ (e :: l)

noncomputable def snocK (x : MapEntry) : List MapEntry → (List MapEntry → β) → β
  | [], κ => κ [x]
  | e :: es, κ => snocK x es fun l => κ (e :: l)

noncomputable def mapUpdateB (P : Program) (kt : TypeId) (m k v : Value) (h : Heap) (κ : Value → Heap → β) : β :=
  match keyOk P 20 kt k with
  | false => fl
  | true =>
  match m with
  | .map (some r) => match h.bl.get r with
    | some (.map es clock) => match findB P h kt k es 0 with
      | some (some (i, e)) => match veq 3 k e.key with
        | true => setAt (fun e => { e with key := k, val := v }) i es fun es => setBlock fl r (.map es clock) h fun h => κ undef h
        | false => fl
      | some none => snocK { key := k, val := v, born := clock } es fun es => fnK (Nat.succ clock) fun clock => setBlock fl r (.map es clock) h fun h => κ undef h
      | none => fl
    | _ => fl
  | _ => fl

noncomputable def delAt : Nat → List MapEntry → (List MapEntry → β) → β
  | _, [], κ => κ []
  | 0, _ :: es, κ => κ es
  | n + 1, e :: es, κ => delAt n es fun l => κ (e :: l)

noncomputable def deleteB (P : Program) (kt : TypeId) (m k : Value) (h : Heap) (κ : Value → Heap → β) : β :=
  match keyOk P 20 kt k with
  | false => fl
  | true =>
  match m with
  | .map none => κ (.tuple #[]) h
  | .map (some r) => match h.bl.get r with
      | some (.map es clock) => match findB P h kt k es 0 with
        | some (some (i, _)) => delAt i es fun es => setBlock fl r (.map es clock) h fun h => κ (.tuple #[]) h
        | some none => κ (.tuple #[]) h
        | none => fl
      | _ => fl
  | _ => fl

noncomputable def extractB (i : Nat) (v : Value) (h : Heap) (κ : Value → Heap → β) : β := match v with
    | .tuple vs => match vs.toList[i]? with | some v => κ v h | none => fl
    | _ => fl

noncomputable def pickB (c a b : Value) (h : Heap) (κ : Value → Heap → β) : β :=
  match c with
    | .bool true => κ a h
    | .bool false => κ b h
    | _ => fl
noncomputable def nilB (v : Value) (h : Heap) (κ : Value → Heap → β) : β := match v with
    | .pointer (some a) => κ (.pointer (some a)) h
    | .func (.func f) a b => κ (.func (.func f) a b) h
    | .iface t x => κ (.iface t x) h
    | _ => fl
noncomputable def fieldAddrB (off : Nat) (v : Value) (h : Heap) (κ : Value → Heap → β) : β := match v with
    | .pointer (some ⟨b, o, none⟩) => fnK (Nat.add o off) fun o => κ (.pointer (some ⟨b, o, none⟩)) h
    | _ => fl
noncomputable def indexAddrS (s : Nat) (v iv : Value) (h : Heap) (κ : Value → Heap → β) : β := match v, iv with
    | .slice (some ⟨b, o, none⟩) len _, .int _ (.ofNat i) => match Nat.ble (Nat.succ i) len with
      | true => fnK (Nat.add o (Nat.mul i s)) fun o => κ (.pointer (some ⟨b, o, none⟩)) h
      | _ => fl
    | _, _ => fl
noncomputable def indexAddrA (len s : Nat) (v iv : Value) (h : Heap) (κ : Value → Heap → β) : β := match v, iv with
    | .pointer (some ⟨b, o, none⟩), .int _ (.ofNat i) => match Nat.ble (Nat.succ i) len with
      | true => fnK (Nat.add o (Nat.mul i s)) fun o => κ (.pointer (some ⟨b, o, none⟩)) h
      | _ => fl
    | _, _ => fl
noncomputable def convI (k : IntKind) (v : Value) (h : Heap) (κ : Value → Heap → β) : β := match v with
    | .int _ n => fiK (wrapB k n) fun n => κ (.int k n) h
    | _ => fl

noncomputable def takeK : Nat → List Value → (List Value → β) → β
    | 0, _, κ => κ []
    | n + 1, v :: vs, κ => takeK n vs fun l => κ (v :: l)
    | _ + 1, [], _ => fl
/-- a part of an aggregate: an aggregate of s cells (agg), or one cell -/
noncomputable def partB (agg : Bool) (s : Nat) (cs : List Value) (off : Nat) (κ : Value → β) : β :=
  match agg with
  | true => takeK fl s (cs.drop off) fun l => κ (.agg ⟨l⟩)
  | false => match cs[off]? with | some v => κ v | none => fl

noncomputable def fieldB (agg : Bool) (s off : Nat) (v : Value) (h : Heap) (κ : Value → Heap → β) : β := match v with
    | .agg cs => partB fl agg s cs.toList off fun v => κ v h
    | _ => fl
noncomputable def indexB (agg : Bool) (len s : Nat) (v iv : Value) (h : Heap) (κ : Value → Heap → β) : β := match v, iv with
    | .agg cs, .int _ (.ofNat i) => match Nat.ble (Nat.succ i) len with
      | true => partB fl agg s cs.toList (Nat.mul i s) fun v => κ v h
      | _ => fl
    | _, _ => fl
noncomputable def indexS (v iv : Value) (h : Heap) (κ : Value → Heap → β) : β := match v, iv with
    | .string s, .int _ (.ofNat i) => match s.data.toList[i]? with
      | some b => fnK b.toNat fun n => κ (.int .u8 (.ofNat n)) h
      | none => fl
    | _, _ => fl

noncomputable def typeAssertB (asserted : TypeId) (zero : Value) (ok : Bool) (x : Value) (h : Heap) (κ : Value → Heap → β) : β :=
  match x with
  | .iface t v => match Nat.beq t asserted, ok with
    | true, true => κ (.tuple #[v, .bool true]) h
    | true, false => κ v h
    | false, true => κ (.tuple #[zero, .bool false]) h
    | false, false => fl
  | .nilIface => match ok with
      | true => κ (.tuple #[zero, .bool false]) h
      | false => fl
  | _ => fl

noncomputable def rangeB (x : Value) (h : Heap) (κ : Value → Heap → β) : β :=
  match x with
  | .map none => newBlock fl (.miter none 0 [] 0) h fun b h => κ (.pointer (some ⟨b, 0, none⟩)) h
  | .map (some r) => match h.bl.get r with
    | some (.map _ clock) => newBlock fl (.miter (some r) clock [] clock) h fun b h => κ (.pointer (some ⟨b, 0, none⟩)) h
    | _ => fl
  | _ => fl

/-- whichever of these comes next -/
noncomputable def anyNext (both : β → β → β) (b m since : Nat) (seen : List Nat) (clock : Nat) (h : Heap) (κ : Value → Heap → β) : MapEntry → List MapEntry → β
  | e, [] => match Nat.ble (Nat.succ e.born) since with
    | true => setBlock fl b (.miter (some m) since (e.born :: seen) clock) h fun h => κ (.tuple #[.bool true, e.key, e.val]) h
    | false => fl
  | e, e' :: es => match Nat.ble (Nat.succ e.born) since with
    | true => both (setBlock fl b (.miter (some m) since (e.born :: seen) clock) h fun h => κ (.tuple #[.bool true, e.key, e.val]) h) (anyNext both b m since seen clock h κ e' es)
    | false => fl

noncomputable def nextB (both : β → β → β) (it : Value) (h : Heap) (κ : Value → Heap → β) : β :=
  match it with
  | .pointer (some ⟨b, 0, none⟩) => match h.bl.get b with
    | some (.miter none _ _ _) => κ (.tuple #[.bool false]) h
    | some (.miter (some m) since seen last) => match h.bl.get m with
      | some (.map es clock) =>
        match !seen.isEmpty && !es.isEmpty && es.all (fun e => Nat.ble last e.born) with
        | true => fl
        | false =>
          match es.filter fun e => !seen.any (Nat.beq e.born) with
          | [] => κ (.tuple #[.bool false]) h
          | e :: es => anyNext fl both b m since seen clock h κ e es
      | _ => fl
    | _ => fl
  | _ => fl

noncomputable def entryB (it : Value) (h : Heap) (κ : Value → Heap → β) : β :=
  match it with
  | .pointer (some ⟨b, 0, none⟩) => match h.bl.get b with
    | some (.miter (some m) _ (stamp :: _) stepped) => match h.bl.get m with
      | some (.map es clock) => match Nat.beq clock stepped with
        | true => match es.find? (fun e => Nat.beq e.born stamp) with
          | some e => κ (.tuple #[e.key, e.val]) h
          | none => fl
        | false => fl
      | _ => fl
    | _ => fl
  | _ => fl

/-! ## an operation, its operands apart -/
inductive XI (β : Type) where
  | k0 (f : Heap → (Value → Heap → β) → β)
  | k1 (x : Operand) (f : Value → Heap → (Value → Heap → β) → β)
  | k2 (x y : Operand) (f : Value → Value → Heap → (Value → Heap → β) → β)
  | k3 (x y z : Operand) (f : Value → Value → Value → Heap → (Value → Heap → β) → β)
  | kn (xs : List Operand) (f : List Value → Heap → (Value → Heap → β) → β)

noncomputable def XI.run (i : XI β) (tm : T Value) (h : Heap) (κ : Value → Heap → β) : β :=
  XI.rec (motive := fun _ => β) (fun f => f h κ) (fun x f => ev tm x fun a => f a h κ) (fun x y f => ev tm x fun a => ev tm y fun b => f a b h κ)
    (fun x y z f => ev tm x fun a => ev tm y fun b => ev tm z fun c => f a b c h κ) (fun xs f => evs tm xs fun vs => f vs h κ) i

def XI.bad : XI β := .k0 fun _ _ => fl

/-- the places of a build's parts -/
def placesOf (place : Nat → Option (Nat × Nat)) : List (Nat × Operand) → Option (List (Nat × Nat))
  | [] => some []
  | (i, _) :: ps => match place i, placesOf place ps with
    | some p, some l => some (p :: l)
    | _, _ => none

/-- the zero's cells of a struct or an array, and its parts' places -/
def placesAll (P : Program) (t : TypeId) : Option (List Value × (Nat → Option (Nat × Nat))) := match P.info? t, P.underlying t with
  | some it, some (.array _ e) => match it.zero, P.info? e with
    | some z, some ie => match z.cells.toList.all basicOk with
      | true => some (z.cells.toList, fun i => some (Nat.mul i ie.size, ie.size))
      | false => none
    | _, _ => none
  | some it, some (.struct fields) => match it.zero, fields.toList.mapM (fun f => (P.info? f.type).map fun i => (f.offset, i.size)) with
    | some z, some places => match z.cells.toList.all basicOk with
      | true => some (z.cells.toList, fun i => places[i]?)
      | false => none
    | _, _ => none
  | _, _ => none

def splitO (lo hi mx : Option Operand) : List Operand := lo.toList ++ hi.toList ++ mx.toList
/-- which of the values is which bound -/
def boundOf (lo hi mx : Bool) : List Value → Option (Option Value × Option Value × Option Value)
  | [] => match lo, hi, mx with | false, false, false => some (none, none, none) | _, _, _ => none
  | [a] => match lo, hi, mx with
    | true, false, false => some (some a, none, none)
    | false, true, false => some (none, some a, none)
    | _, _, _ => none
  | [a, b] => match lo, hi, mx with
    | true, true, false => some (some a, some b, none)
    | false, true, true => some (none, some a, some b)
    | _, _, _ => none
  | [a, b, c] => match lo, hi, mx with
    | true, true, true => some (some a, some b, some c)
    | _, _, _ => none
  | _ => none

/-- operations that make a block out of their operands alone: the block, and the value that names it -/
inductive XA (β : Type) where
  | k0 (f : (AObj → (Nat → Value) → β) → β)
  | k1 (x : Operand) (f : Value → (AObj → (Nat → Value) → β) → β)
  | k2 (x y : Operand) (f : Value → Value → (AObj → (Nat → Value) → β) → β)
  | kn (xs : List Operand) (f : List Value → (AObj → (Nat → Value) → β) → β)
noncomputable def XA.run (i : XA β) (tm : T Value) (κ : AObj → (Nat → Value) → β) : β :=
  XA.rec (motive := fun _ => β) (fun f => f κ) (fun x f => ev tm x fun a => f a κ) (fun x y f => ev tm x fun a => ev tm y fun b => f a b κ)
    (fun xs f => evs tm xs fun vs => f vs κ) i

def ptrTo (b : Nat) : Value := .pointer (some ⟨b, 0, none⟩)
def sliceTo (n c : Nat) (b : Nat) : Value := .slice (some ⟨b, 0, none⟩) n c
def mapTo (b : Nat) : Value := .map (some b)

noncomputable def compA (P : Program) : Op → Option (XA β)
  | .alloc e => match zeroOf P e with
    | some z => some (.k0 fun κ => cellsK fl z e false fun o => κ o ptrTo)
    | none => none
  | .box e x => some (.k1 x fun v κ => cellsK fl v.cells.toList e false fun o => κ o ptrTo)
  | .buildSlice t len parts => match P.underlying t with
    | some (.slice e) => match zOf P e, Nat.ble len 10000 with
      | some (z, s), true => match placesOf (fun i => some (Nat.mul i s, s)) parts.toList, Nat.ble s 1000 with
        | some ps, true => some (.kn (parts.toList.map (·.2)) fun vs κ => fillB fl ps vs (repeatL z len) fun cs => cellsK fl cs e false fun o => κ o (sliceTo len len))
        | _, _ => none
      | _, _ => none
    | _ => none
  | .makeMap t r => match r with
    | none => some (.k0 fun κ => κ (.map [] 0) mapTo)
    | some x => match P.underlying t with
      | some (.map _ _) => some (.k1 x fun v κ => match v with | .int _ _ => κ (.map [] 0) mapTo | _ => fl)
      | _ => none
  | .makeSlice t l c => match P.underlying t with
    | some (.slice e) => match zOf P e, P.info? e with
      | some (z, _), some inf => match Nat.ble inf.bytes 1000000 with
        | true => some (.k2 l c fun l c κ => match l, c with
          | .int _ (.ofNat l), .int _ (.ofNat c) => match Nat.ble l c, Nat.ble c 1000000 with
            | true, true => cellsK fl (repeatL z c) e false fun o => κ o (sliceTo l c)
            | _, _ => fl
          | _, _ => fl)
        | false => none
      | _, _ => none
    | _ => none
  | _ => none

/-- the lesser of two numbers; the greater one -/
noncomputable def minB (a b : Value) (h : Heap) (κ : Value → Heap → β) : β :=
  match a, b with
  | .int k a, .int _ b => (match iltB b a with | true => κ (.int k b) h | false => κ (.int k a) h)
  | _, _ => fl
noncomputable def maxB (a b : Value) (h : Heap) (κ : Value → Heap → β) : β :=
  match a, b with
  | .int k a, .int _ b => (match iltB a b with | true => κ (.int k b) h | false => κ (.int k a) h)
  | _, _ => fl
/-- operations that read: pure (no heap), and readers -/
noncomputable def compR (P : Program) : Op → Option (XI β)
  | .move x | .assign x => some (.k1 x fun v h κ => κ v h)
  | .pick c a b => some (.k3 c a b (pickB fl))
  | .build t parts => match placesAll P t with
    | some (z, place) => match placesOf place parts.toList with
      | some ps => some (.kn (parts.toList.map (·.2)) fun vs h κ => fillB fl ps vs z fun cs => κ (.agg ⟨cs⟩) h)
      | none => none
    | none => none
  | .load t a => match aggT P t, szOf P t with
    | some true, some s => some (.k1 a (loadA fl s))
    | some false, some _ => some (.k1 a (load1 fl))
    | _, _ => none
  | .nilCheck x => some (.k1 x (nilB fl))
  | .binOp op t x y _ => some (.k2 x y (binB fl P op t ((x matches .const _) || (y matches .const _)) (P.eqGuardType P.depth t)))
  | .unOp op _ x => some (.k1 x (unB fl op))
  | .convert src dst x => match P.underlying src, P.underlying dst with
    | some _, some (.int k) => some (.k1 x (convI fl k))
    | some .string, some .string => some (.k1 x fun v h κ => match v with | .string s => κ (.string s) h | _ => fl)
    | _, _ => none
  | .makeInterface t x => match P.underlying t with
    | some (.interface _) => none
    | some _ => some (.k1 x fun v h κ => κ (.iface t v) h)
    | none => none
  | .makeFunc (.func fn) first cap => some (.kn (first.toList ++ cap.toList) fun vs h κ => κ (.func (.func fn) ⟨vs.take first.toList.length⟩ ⟨vs.drop first.toList.length⟩) h)
  | .slice t x lo hi mx => match P.underlying t with
    | some (.slice e) => match szOf P e with
      | some s => some (.kn (x :: splitO lo hi mx) fun vs h κ => match vs with
        | v :: bs => match boundOf lo.isSome hi.isSome mx.isSome bs with
          | some (l, hh, m) => sliceB fl e s v l hh m h κ
          | none => fl
        | [] => fl)
      | none => none
    | some .string => some (.kn (x :: splitO lo hi mx) fun vs h κ => match vs with
        | v :: bs => match boundOf lo.isSome hi.isSome mx.isSome bs with
          | some (l, hh, m) => sliceS fl v l hh m h κ
          | none => fl
        | [] => fl)
    | _ => none
  | .fieldAddr t x f => match P.underlying t with
    | some (.struct fs) => match fs[f]? with
      | some fld => match szOf P fld.type with
        | some (_ + 1) => some (.k1 x (fieldAddrB fl fld.offset))
        | _ => none
      | none => none
    | _ => none
  | .field t x f => match P.underlying t with
    | some (.struct fs) => match fs[f]? with
      | some fld => match aggT P fld.type, szOf P fld.type with
        | some a, some s => some (.k1 x (fieldB fl a s fld.offset))
        | _, _ => none
      | none => none
    | _ => none
  | .indexAddr t x i => match P.underlying t with
    | some (.slice e) => match szOf P e with
      | some s => some (.k2 x i (indexAddrS fl s))
      | _ => none
    | some (.array len e) => match szOf P e with
      | some s => some (.k2 x i (indexAddrA fl len s))
      | _ => none
    | _ => none
  | .index t x i => match P.underlying t with
    | some (.array len e) => match aggT P e, szOf P e with
      | some a, some s => some (.k2 x i (indexB fl a len s))
      | _, _ => none
    | some .string => some (.k2 x i (indexS fl))
    | _ => none
  | .lookup t x i ok => match P.underlying t with
    | some (.map kt et) => match (P.info? et).bind (·.zero) with
      | some z => match selfOk z with
        | true => some (.k2 x i (lookupB fl P kt z ok))
        | false => none
      | none => none
    | _ => none
  | .typeAssert x _ t ok => match P.underlying t, (P.info? t).bind (·.zero) with
    | some (.interface _), _ => none
    | some _, some z => match selfOk z with
      | true => some (.k1 x (typeAssertB fl t z ok))
      | false => none
    | _, _ => none
  | .extract x i => some (.k1 x (extractB fl i))
  | .call { callee := .builtin .len, args := args, argTypes := ts } => match args.toList, ts[0]? with
    | [x], some t => match P.underlying t with
      | some .string => some (.k1 x (lenStr fl))
      | some (.slice _) => some (.k1 x (lenSli fl))
      | some (.map _ _) => some (.k1 x (lenMap fl))
      | _ => none
    | _, _ => none
  | .call { callee := .builtin .min, args := args, .. } => match args.toList with
    | [a, b] => some (.k2 a b (minB fl))
    | _ => none
  | .call { callee := .builtin .max, args := args, .. } => match args.toList with
    | [a, b] => some (.k2 a b (maxB fl))
    | _ => none
  | _ => none

/-- bytes as values -/
noncomputable def bytesK : List UInt8 → (List Value → β) → β
  | [], κ => κ []
  | b :: bs, κ => fnK b.toNat fun n => bytesK bs fun l => κ (.int .u8 (.ofNat n) :: l)
/-- '[]byte(s)' -/
noncomputable def strBytes (e : TypeId) (v : Value) (h : Heap) (κ : Value → Heap → β) : β :=
  match v with
  | .string s => bytesK s.data.toList fun l => layN l .nil 0 fun c n => match Nat.ble n 1000000000000 with
    | true => newBlock fl (.ro n c e) h fun b h => κ (.slice (some ⟨b, 0, none⟩) n openCap) h
    | false => fl
  | _ => fl

/-- operations that write (but calls of functions) -/
noncomputable def compW (P : Program) : Op → Option (XI β)
  | .store t a x => match szOf P t with
    | some s => some (.k2 a x (storeV fl s))
    | none => none
  | .mapUpdate t m k x | .insert t m k x => match P.underlying t with
    | some (.map kt _) => some (.k3 m k x (mapUpdateB fl P kt))
    | _ => none
  | .range t x => match P.underlying t with
    | some (.map _ _) => some (.k1 x (rangeB fl))
    | _ => none
  | .entry it => some (.k1 it (entryB fl))
  | .convert src dst x => match P.underlying src, P.underlying dst with
    | some .string, some (.slice e) => match P.underlying e, szOf P e with
      | some (.int .u8), some 1 => some (.k1 x (strBytes fl e))
      | _, _ => none
    | _, _ => none
  | .call { callee := .builtin b, args := args, argTypes := ts, .. } => match b, args.toList with
    | .append, [s, x] => match ts[0]?, ts[1]? with
      | some st, some xt => match P.underlying st with
        | some (.slice e) => match P.info? e, P.underlying xt with
          | some inf, some xd => match zOf P e, Nat.ble inf.bytes 10000 with
            | some (z, size), true => some (.k2 s x (appendB fl e size z (isIntD xd)))
            | _, _ => none
          | _, _ => none
        | _ => none
      | _, _ => none
    | .copy, [d, x] => match ts[0]? with
      | some t => match P.underlying t with
        | some (.slice e) => match szOf P e with
          | some s => some (.k2 d x (copyB fl s))
          | none => none
        | _ => none
      | none => none
    | .clear, [x] => match ts[0]? with
      | some t => match P.underlying t with
        | some (.slice e) => match zeroOf P e with
          | some z => some (.k1 x (clearB fl z))
          | none => none
        | some (.map _ _) => some (.k1 x fun v h κ => match v with | .map m => clearB fl [] (.map m) h κ | _ => fl)
        | _ => none
      | none => none
    | .cap, [x] => match ts[0]? with
      | some t => match P.underlying t with
        | some (.slice _) => some (.k1 x fun v h κ => match v with
          | .slice _ _ cap => (match Nat.ble cap 1000000000 with | true => κ (.int .i64 (.ofNat cap)) h | false => fl)
          | _ => fl)
        | _ => none
      | none => none
    | .delete, [m, k] => match ts[0]? with
      | some t => match P.underlying t with
        | some (.map kt _) => some (.k2 m k (deleteB fl P kt))
        | _ => none
      | none => none
    | .min, [a, b] => some (.k2 a b fun a b h κ => match a, b with
      | .int k a, .int _ b => (match iltB b a with | true => κ (.int k b) h | false => κ (.int k a) h)
      | _, _ => fl)
    | .max, [a, b] => some (.k2 a b fun a b h κ => match a, b with
      | .int k a, .int _ b => (match iltB a b with | true => κ (.int k b) h | false => κ (.int k a) h)
      | _, _ => fl)
    | _, _ => none
  | _ => none

/-! ## calls and code -/
def methodB (P : Program) (t : TypeId) (name : String) : Option FuncId :=
  match P.info? t, P.underlying t with
  | some i, some d => match i.methods.find? (·.name == name) with
    | some m => match m.path.isEmpty, m.func, d with
      | true, some (f, true), .pointer _ => some f
      | true, some (_, false), .pointer _ => none
      | true, some (f, false), _ => some f
      | _, _, _ => none
    | none => none
  | _, _ => none

/-- a method that a field behind a pointer lends, by value: the function, the field's place, its type -/
def methodP (P : Program) (t : TypeId) (name : String) : Option (FuncId × Nat × TypeId) :=
  match P.info? t with
  | some i => match i.methods.find? (·.name == name) with
    | some m => match m.path.toList, m.func with
      | [s], some (f, false) => match s.deref, P.underlying s.struct with
        | true, some (.struct fs) => match fs[s.index]? with
          | some fld => match aggT P fld.type, szOf P fld.type, P.underlying fld.type with
            | some false, some (_ + 1), some (.slice _) => some (f, fld.offset, fld.type)
            | _, _, _ => none
          | none => none
        | _, _ => none
      | _, _ => none
    | none => none
  | none => none

/-- a method by value, of what a pointer points to: the function, the type that is pointed to -/
def methodQ (P : Program) (t : TypeId) (name : String) : Option (FuncId × TypeId) :=
  match P.info? t, P.underlying t with
  | some i, some (.pointer e) => match i.methods.find? (·.name == name) with
    | some m => match m.path.toList, m.func, aggT P e with
      | [], some (f, false), some false => some (f, e)
      | _, _, _ => none
    | none => none
  | _, _ => none

noncomputable def layArgs (vs : List Value) : T Value → Nat → (T Value → β) → β :=
  List.rec (motive := fun _ => T Value → Nat → (T Value → β) → β) (fun tm _ κ => κ tm)
    (fun v _ ih tm i κ => T.set tm i v fun tm => ih tm (Nat.succ i) κ) vs

inductive XRes where
  | tmp (t : Nat)
  | one (a : Nat)
  | agg (a s : Nat)
  | bad

def resOf (P : Program) : ResultVar → XRes
  | .tmp t => .tmp t
  | .cell a t => match aggT P t, szOf P t with
    | some true, some s => .agg a s
    | some false, some _ => .one a
    | _, _ => .bad

noncomputable def resultsB (h : Heap) (tm : T Value) : List XRes → (List Value → β) → β
  | [], κ => κ []
  | .tmp t :: rs, κ => ev tm (.tmp t) fun v => resultsB h tm rs fun vs => κ (v :: vs)
  | .one a :: rs, κ => ev tm (.tmp a) fun a => load1 fl a h fun v _ => resultsB h tm rs fun vs => κ (v :: vs)
  | .agg a s :: rs, κ => ev tm (.tmp a) fun a => loadA fl s a h fun v _ => resultsB h tm rs fun vs => κ (v :: vs)
  | .bad :: _, _ => fl

/-- are the slots of an operation among the first nt; and no package-level variable -/
def opnOk (nt : Nat) : Operand → Bool
  | .tmp t => Nat.ble (Nat.succ t) nt
  | .global _ => false
  | .const v => selfOk v
  | .func _ => true
def operOk (nt : Nat) (o : Oper) : Bool := o.op.operands.toList.all (opnOk nt) && (match o.dst with | some d => Nat.ble (Nat.succ d) nt | none => true)
/-- no range over a function in it -/
def noRf : Code → Bool
  | .seq a b | .cond _ a b => noRf a && noRf b
  | .block _ c | .loop c | .scope c => noRf c
  | .rangeFunc .. => false
  | _ => true
def codeOk (nt : Nat) : Code → Bool
  | .rangeFunc g ps a b => opnOk nt g && ps.toList.all (fun t => Nat.ble (Nat.succ t) nt) && codeOk nt a && codeOk nt b && noRf a && noRf b
  | .region _ ops _ => ops.toList.all (operOk nt)
  | .seq a b => codeOk nt a && codeOk nt b
  | .cond c a b => opnOk nt c && codeOk nt a && codeOk nt b
  | .block _ c | .loop c | .scope c => codeOk nt c
  | _ => true
def resOk (nt : Nat) : ResultVar → Bool
  | .tmp t => Nat.ble (Nat.succ t) nt
  | .cell a _ => Nat.ble (Nat.succ a) nt

inductive XFn where
  | none
  | mk (c : Code) (rs : List XRes) (nt : Nat)

def callOk (P : Program) (f : FuncId) : XFn :=
  match P.funcs[f]? with
  | some fn => match fn.name == "runtime.NumGoroutine" with
    | true => .none
    | false => match fn.body with
      | some c => match codeOk fn.ntmps c && fn.results.toList.all (resOk fn.ntmps) && Nat.ble fn.ntmps 1000000000000 with
        | true => .mk c (fn.results.toList.map (resOf P)) fn.ntmps
        | false => .none
      | none => .none
  | none => .none

noncomputable def oneOr (κ : Value → Heap → β) (h : Heap) : List Value → β
  | [v] => κ v h
  | vs => κ (.tuple ⟨vs⟩) h

abbrev Rec (β : Type) := Code → T Value → Heap → (Ex → T Value → Heap → β) → β
/-- what a function does that is not run: its arguments, the heap -/
structure Prims (β : Type) where
  fn : FuncId → Option (List Value → Heap → (Value → Heap → β) → β)
  both : β → β → β

noncomputable def endK (rs : List XRes) (κ : Value → Heap → β) (e : Ex) (tm : T Value) (h : Heap) : β :=
  match e with
  | .exit _ => fl
  | _ => resultsB fl h tm rs fun vs => oneOr κ h vs

variable (pr : Prims β)

noncomputable def callF (P : Program) (rec : Rec β) (f : FuncId) (args : List Value) (h : Heap) (κ : Value → Heap → β) : β :=
  match pr.fn f with
  | some g => g args h κ
  | none => match callOk P f with
    | .none => fl
    | .mk c rs nt => match Nat.ble args.length nt with
      | true => layArgs args .nil 0 fun tm => rec c tm h (endK fl rs κ)
      | false => fl

/-- a round is over -/
noncomputable def endRoundK (l : Nat) (κ : Value → Heap → β) (e : Ex) (_tm : T Value) (h : Heap) : β :=
  match h.bl.get l with
  | some (.loop _ _ tm0 ps a b) => match e with
    | .normal => setBlock fl l (.loop .ready none tm0 ps a b) h fun h => κ (.bool true) h
    | e => setBlock fl l (.loop .done (some e) tm0 ps a b) h fun h => κ (.bool false) h
  | _ => fl
/-- behind a round's assignments -/
noncomputable def beginRoundK (rec : Rec β) (l : Nat) (bd : Code) (κ : Value → Heap → β) (e : Ex) (tm : T Value) (h : Heap) : β :=
  match e with
  | .normal => match h.bl.get l with
    | some (.loop .ready pend tm0 ps a b) => setBlock fl l (.loop .busy pend tm0 ps a b) h fun h => rec bd tm h (endRoundK fl l κ)
    | _ => fl
  | _ => fl
noncomputable def layAt : List Nat → List Value → T Value → (T Value → β) → β
  | p :: ps, v :: vs, tm, κ => T.set tm p v fun tm => layAt ps vs tm κ
  | _, _, tm, κ => κ tm
/-- yield is called -/
noncomputable def roundB (rec : Rec β) (l : Nat) (args : List Value) (h : Heap) (κ : Value → Heap → β) : β :=
  match h.bl.get l with
  | some (.loop _ _ tm0 ps a b) => match Nat.beq args.length ps.length with
    | true => layAt ps args tm0 fun tm => rec a tm h (beginRoundK fl rec l b κ)
    | false => fl
  | _ => fl
/-- the function that was ranged over has returned -/
noncomputable def afterLoopK (l : Nat) (tm : T Value) (κ : Ex → T Value → Heap → β) (_v : Value) (h : Heap) : β :=
  match h.bl.get l with
  | some (.loop st pend tm0 ps a b) => match st with
    | .busy => fl
    | _ => setBlock fl l (.loop .exhausted pend tm0 ps a b) h fun h => match pend with
      | none => κ .normal tm h
      | some e => κ e tm h
  | _ => fl

noncomputable def callV (P : Program) (rec : Rec β) (fv : Value) (args : List Value) (h : Heap) (κ : Value → Heap → β) : β :=
    match fv with
    | .func (.func f) first cap => callF fl pr P rec f (first.toList ++ args ++ cap.toList) h κ
    | .func (.yield l) first cap => (match first.toList, cap.toList with
      | [], [] => roundB fl rec l args h κ
      | _, _ => fl)
    | _ => fl
/-- a range over a function -/
noncomputable def rangeFuncB (P : Program) (rec : Rec β) (ps : List Nat) (a b : Code) (tm : T Value) (h : Heap) (κ : Ex → T Value → Heap → β) (gv : Value) : β :=
  match gv with
  | .func (.func f) first cap => newBlock fl (.loop .ready none tm ps a b) h fun l h => callF fl pr P rec f (first.toList ++ [.func (.yield l) #[] #[]] ++ cap.toList) h (afterLoopK fl l tm κ)
  | _ => fl

noncomputable def callI (P : Program) (rec : Rec β) (name : String) (r : Value) (args : List Value) (h : Heap) (κ : Value → Heap → β) : β :=
  match r with
  | .iface t v => match methodB P t name with
          | some f => callF fl pr P rec f (v :: args) h κ
          | none => match methodP P t name with
            | some (f, off, _) => fieldAddrB fl off v h fun a h => load1 fl a h fun v h => callF fl pr P rec f (v :: args) h κ
            | none => match methodQ P t name with
              | some (f, _) => load1 fl v h fun v h => callF fl pr P rec f (v :: args) h κ
              | none => fl
  | _ => fl

abbrev XF (β : Type) := T Value → Heap → (Value → Heap → β) → β
inductive XO (β : Type) where
  | mk (g : Option (Nat × Bool)) (d : Option Nat) (f : Rec β → XF β)

noncomputable def compCall (P : Program) (c : Call) : Rec β → XF β :=
  match c.callee with
  | .value (.func f) => fun rec tm h κ => evs tm c.args.toList fun args => callF fl pr P rec f args h κ
  | .value x => fun rec tm h κ => evs tm c.args.toList fun args => ev tm x fun fv => callV fl pr P rec fv args h κ
  | .invoke r name => fun rec tm h κ => evs tm c.args.toList fun args => ev tm r fun r => callI fl pr P rec name r args h κ
  | .builtin _ => fun _ _ _ _ => fl

/-- an operation, whatever it is -/
noncomputable def compF (P : Program) (op : Op) : Rec β → XF β :=
  match compR fl P op with
  | some i => fun _ tm h κ => i.run tm h κ
  | none => match compA fl P op with
    | some i => fun _ tm h κ => i.run tm fun o mk => newBlock fl o h fun b h => κ (mk b) h
    | none => match compW fl P op with
      | some i => fun _ tm h κ => i.run tm h κ
      | none => match op with
        | .call c => compCall fl pr P c
        | .next it false => fun _ tm h κ => ev tm it fun it => nextB fl pr.both it h κ
        | _ => fun _ _ _ _ => fl

def guardOf (all : List Oper) (o : Oper) : Option (Option (Nat × Bool)) :=
  match o.guard with
  | none => some none
  | some (j, w) => match all[j]? with
      | some { dst := some d, .. } => some (some (d, w))
      | _ => none

inductive XFB (β : Type) where
  | mk (f : Rec β → XF β)
noncomputable def compO (P : Program) (all : List Oper) (o : Oper) : XO β :=
  match guardOf all o, XFB.mk (compF fl pr P o.op) with
  | some g, .mk f => .mk g o.dst f
  | none, _ => .mk none none fun _ _ _ _ => fl

noncomputable def putK (tm : T Value) (d : Option Nat) (v : Value) (h : Heap) (κ : T Value → Heap → β) : β :=
  Option.rec (motive := fun _ => β) (κ tm h) (fun d => T.set tm d v fun tm => κ tm h) d

/-- is the guard met; a slot that bears no bool: no -/
noncomputable def wantB (tm : T Value) (g : Option (Nat × Bool)) : Bool :=
  match g with
  | none => true
  | some (s, w) => match tmv tm s, w with
    | .bool true, true => true
    | .bool false, false => true
    | _, _ => false

noncomputable def runOps (P : Program) (rec : Rec β) (all os : List Oper) : T Value → Heap → (T Value → Heap → β) → β :=
  List.rec (motive := fun _ => T Value → Heap → (T Value → Heap → β) → β) (fun tm h κ => κ tm h)
    (fun o _ ih tm h κ => XO.rec (motive := fun _ => β)
      (fun g d f => Bool.rec (motive := fun _ => β) (putK tm d undef h fun tm h => ih tm h κ)
        (f rec tm h fun v h => putK tm d v h fun tm h => ih tm h κ) (wantB tm g))
      (compO fl pr P all o)) os

noncomputable def seqK (rec : Rec β) (b : Code) (κ : Ex → T Value → Heap → β) (e : Ex) (tm : T Value) (h : Heap) : β :=
  match e with | .normal => rec b tm h κ | e => κ e tm h
noncomputable def blockK (id : Nat) (κ : Ex → T Value → Heap → β) (e : Ex) (tm : T Value) (h : Heap) : β :=
  match e with | .exit i => (match Nat.beq i id with | true => κ .normal tm h | false => κ (.exit i) tm h) | e => κ e tm h
noncomputable def condK (rec : Rec β) (a b : Code) (tm : T Value) (h : Heap) (κ : Ex → T Value → Heap → β) (v : Value) : β :=
  match v with
      | .bool true => rec a tm h κ
      | .bool false => rec b tm h κ
      | _ => fl

end
end Go.Vai
