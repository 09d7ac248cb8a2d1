/-
  PROVED HERE: a part of the proof (VaiX, VaiR, VaiS1, VaiS2, VaiS3, VaiS4, VaiS5).
-/
import GoSem.Dispatch
import GoSem.Machine.Exec
import Derived.Calls
import Derived.IntWalk
import Derived.Laws.Cells
import Derived.Laws.CopyRow
import Derived.Laws.StructEq
import Derived.Laws.World
import Derived.Laws.Small
set_option linter.unusedVariables false
set_option linter.unusedSimpArgs false
namespace Go.Vai
inductive T (α:Type) where
 | nil:T α
 | node (l:T α) (v:Option α) (r:T α):T α
noncomputable def Qj (f:Nat):Nat→List Bool:=
 Nat.rec (motive:=fun _=>Nat→List Bool) (fun _=>[])
  (fun _ ih n=>Bool.rec (motive:=fun _=>List Bool) (Nat.beq (Nat.mod n 2) 1::ih (Nat.div (Nat.sub n 1) 2)) [] (Nat.beq n 0)) f
noncomputable def key (n:Nat):List Bool:=Qj n n
noncomputable def T.JD {α:Type} (p:List Bool):T α→Option α:=
 List.rec (motive:=fun _=>T α→Option α) (fun t=>T.rec (motive:=fun _=>Option α) none (fun _ v _ _ _=>v) t)
  (fun b _ ih t=>T.rec (motive:=fun _=>Option α) none (fun l _ r _ _=>Bool.rec (motive:=fun _=>Option α) (ih l) (ih r) b) t) p
noncomputable def T.aal {α β:Type} (a:α) (p:List Bool):T α→(T α→β)→β:=
 List.rec (motive:=fun _=>T α→(T α→β)→β)
  (fun t κ=>T.rec (motive:=fun _=>β) (κ (.node .nil (some a) .nil)) (fun l _ r _ _=>κ (.node l (some a) r)) t)
  (fun b _ ih t κ=>T.rec (motive:=fun _=>β)
   (Bool.rec (motive:=fun _=>β) (ih .nil fun l=>κ (.node l none .nil)) (ih .nil fun r=>κ (.node .nil none r)) b)
   (fun l v r _ _=>Bool.rec (motive:=fun _=>β) (ih l fun l=>κ (.node l v r)) (ih r fun r=>κ (.node l v r)) b) t) p
noncomputable def T.get {α:Type} (t:T α) (n:Nat):Option α:=T.JD (key n) t
noncomputable def T.set {α β:Type} (t:T α) (n:Nat) (a:α) (κ:T α→β):β:=T.aal a (key n) t κ
inductive Ex where
 | normal | exit (id:Nat) | ret
inductive bC where
 | cells (n:Nat) (c:T Value) (elem:TypeId) (PW:Bool)
 | map (es:List MapEntry) (clock:Nat)
 | dM (m:Option Nat) (since:Nat) (seen:List Nat) (stepped:Nat)
 | Ti (s:ByteArray) (pos:Nat)
 | dead (n:Nat) (elem:TypeId)
 | ro (n:Nat) (c:T Value) (elem:TypeId)
 | loop (st:LoopState) (j8:Option Ex) (tm:T Value) (ps:List Nat) (a b:Code)
structure Heap where
 nx:Nat
 bl:T bC
 lo:Nat
def aM:Nat:=1267650600228229401496703205376
def fq:Nat:=1267650600228229401496703205377
section
variable {β:Type}
noncomputable def u9 (n:Nat) (κ:Nat→β):β:=Nat.rec (motive:=fun _=>β) (κ 0) (fun m _=>κ (Nat.succ m)) n
noncomputable def FP (i:Int) (κ:Int→β):β:=Int.rec (motive:=fun _=>β) (fun n=>u9 n fun n=>κ (.ofNat n)) (fun n=>u9 n fun n=>κ (.negSucc n)) i
noncomputable def HH (b:Bool) (κ:Bool→β):β:=Bool.rec (motive:=fun _=>β) (κ false) (κ true) b
def uP:Int→Int→Bool
 | .ofNat a,.ofNat b=>Nat.ble (Nat.succ a) b
 | .ofNat _,.negSucc _=>false
 | .negSucc _,.ofNat _=>true
 | .negSucc a,.negSucc b=>Nat.ble (Nat.succ b) a
def q8:Int→Int→Bool
 | .ofNat a,.ofNat b=>Nat.beq a b
 | .negSucc a,.negSucc b=>Nat.beq a b
 | _,_=>false
def gI:IntKind→IntKind→Bool
 | .i8,.i8 | .i16,.i16 | .i32,.i32 | .i64,.i64 | .u8,.u8 | .u16,.u16 | .u32,.u32 | .u64,.u64=>true
 | _,_=>false
def mh (k:IntKind) (n:Int):Int:=
 match k,n with
 | .i64,.ofNat m=>match Nat.ble m 9223372036854775807 with | true=>.ofNat m | false=>k.wrap n
 | .i64,.negSucc m=>match Nat.ble m 9223372036854775807 with | true=>.negSucc m | false=>k.wrap n
 | .u8,.ofNat m=>.ofNat (Nat.mod m 256)
 | .u32,.ofNat m=>.ofNat (Nat.mod m 4294967296)
 | .u64,.ofNat m=>.ofNat (Nat.mod m 18446744073709551616)
 | _,_=>k.wrap n
def oW:List UInt8→List UInt8→Bool
 | [],[]=>true
 | a::x,b::y=>match Nat.beq a.toNat b.toNat with | true=>oW x y | false=>false
 | _,_=>false
def j9 (a b:ByteArray):Bool:=oW a.data.toList b.data.toList
def vO (f:Value→Value→Bool):List Value→List Value→Bool
 | [],[]=>true
 | x::xs,y::ys=>f x y && vO f xs ys
 | _,_=>false
def jX:Nat→Value→Value→Bool
 | 0,_,_=>false
 | n+1,a,b=>match a,b with
  | .bool a,.bool b=>a == b
  | .int k a,.int k' b=>gI k k' && q8 a b
  | .string a,.string b=>j9 a b
  | .pointer none,.pointer none=>true
  | .pointer (some ⟨b,o,none⟩),.pointer (some ⟨b',o',none⟩)=>Nat.beq b b' && Nat.beq o o'
  | .slice none n c,.slice none n' c'=>Nat.beq n n' && Nat.beq c c'
  | .slice (some ⟨b,o,none⟩) n c,.slice (some ⟨b',o',none⟩) n' c'=>Nat.beq b b' && Nat.beq o o' && Nat.beq n n' && Nat.beq c c'
  | .map none,.map none=>true
  | .map (some b),.map (some b')=>Nat.beq b b'
  | .nilFunc,.nilFunc=>true
  | .nilIface,.nilIface=>true
  | .iface t x,.iface t' x'=>Nat.beq t t' && jX n x x'
  | .agg x,.agg y=>vO (jX n) x.toList y.toList
  | .tuple x,.tuple y=>vO (jX n) x.toList y.toList
  | .func (.func f) a b,.func (.func g) c d=>Nat.beq f g && vO (jX n) a.toList c.toList && vO (jX n) b.toList d.toList
  | _,_=>false
noncomputable def di (tm:T Value) (t:Nat):Value:=match tm.get t with | some v=>v | none=>undef
noncomputable def eN (tm:T Value):Operand→Value
 | .tmp t=>di tm t
 | .const v=>v
 | .func f=>.func (.func f) #[] #[]
 | .global _=>undef
noncomputable def ev (tm:T Value) (x:Operand) (κ:Value→β):β:=
 match x with
 | .tmp t=>match tm.get t with | some v=>κ v | none=>κ undef
 | .const v=>κ v
 | .func f=>κ (.func (.func f) #[] #[])
 | .global _=>κ undef
noncomputable def Qk (tm:T Value):List Operand→(List Value→β)→β
 | [],κ=>κ []
 | x::xs,κ=>ev tm x fun v=>Qk tm xs fun vs=>κ (v::vs)
def fF:Value→Bool
 | .bool _ | .int .. | .string _ | .nilFunc | .nilIface | .pointer none | .map none=>true
 | .slice none n c=>Nat.ble n c
 | _=>false
def sI:Value→Bool
 | .agg cs | .tuple cs=>cs.toList.all fF
 | .iface _ v=>fF v
 | v=>fF v
def jg:Value→Bool
 | .bool _ | .int .. | .string _=>true
 | _=>false
def mj:Value→Bool
 | .agg cs=>cs.toList.all jg
 | v=>jg v
def er (P:Program) (t:TypeId):Option Nat:=(P.info? t).map (·.size)
def zeroOf (P:Program) (t:TypeId):Option (List Value):=(P.info? t).bind fun i=>i.zero.bind fun z=>match z.cells.toList.all fF with
 | true=>some z.cells.toList
 | false=>none
def Lx (P:Program) (t:TypeId):Option (List Value × Nat):=match zeroOf P t,er P t with
 | some z,some (s+1)=>match Nat.beq z.length (s+1) with | true=>some (z,s+1) | false=>none
 | _,_=>none
def qp:TypeDesc→Bool
 | .int _=>true
 | _=>false
def mo (P:Program) (t:TypeId):Option Bool:=match P.underlying t with
 | some (.struct _) | some (.array _ _)=>some true
 | some _=>some false
 | none=>none
variable (fl:β)
def zb (P:Program) (rec:TypeId→Value→Value→Option Bool):List Field→List Value→List Value→Option Bool
 | [],_,_=>some true
 | f::fs,xs,ys=>
  match f.name == "_" with
  | true=>none
  | false=>
   match mo P f.type,er P f.type with
   | some true,some s=>match rec f.type (.agg ⟨(xs.drop f.offset).take s⟩) (.agg ⟨(ys.drop f.offset).take s⟩) with
     | some true=>zb P rec fs xs ys
     | r=>r
   | some false,some _=>match xs[f.offset]?,ys[f.offset]? with
    | some x,some y=>match rec f.type x y with
     | some true=>zb P rec fs xs ys
     | r=>r
    | _,_=>none
   | _,_=>none
noncomputable def vP (h:Heap) (b:Nat):Bool:=match h.bl.get b with | some (.cells ..)=>true | _=>false
noncomputable def lM (P:Program) (h:Heap):Nat→TypeId→Value→Value→Option Bool
 | 0,_,_,_=>none
 | d+1,t,x,y=>
  match P.underlying t,x,y with
  | some .bool,.bool a,.bool b=>some (match a,b with | true,true | false,false=>true | _,_=>false)
  | some (.int _),.int k a,.int k' b=>match gI k k' with | true=>some (q8 a b) | false=>none
  | some .string,.string a,.string b=>some (j9 a b)
  | some (.pointer _),.pointer none,.pointer none=>some true
  | some (.pointer _),.pointer none,.pointer (some _)=>some false
  | some (.pointer _),.pointer (some _),.pointer none=>some false
  | some (.pointer e),.pointer (some ⟨b,o,none⟩),.pointer (some ⟨b',o',none⟩)=>
   match er P e with
   | some (_+1)=>match vP h b,vP h b' with
    | true,true=>match Nat.beq b b' with
     | true=>some (Nat.beq o o')
     | false=>some false
    | _,_=>none
   | _=>none
  | some (.interface _),.nilIface,.nilIface=>some true
  | some (.interface _),.nilIface,.iface _ _=>some false
  | some (.interface _),.iface _ _,.nilIface=>some false
  | some (.struct fs),.agg xs,.agg ys=>match P.stoodInHeld t with
   | true=>none
   | false=>zb P (lM P h d) fs.toList xs.toList ys.toList
  | some (.slice _),.slice none _ _,.slice none _ _=>some true
  | some (.slice _),.slice none _ _,.slice (some _) _ _=>some false
  | some (.slice _),.slice (some _) _ _,.slice none _ _=>some false
  | some (.map _ _),.map none,.map none=>some true
  | some (.map _ _),.map none,.map (some _)=>some false
  | some (.map _ _),.map (some _),.map none=>some false
  | some (.func ..),.nilFunc,.nilFunc=>some true
  | some (.func ..),.nilFunc,.func ..=>some false
  | some (.func ..),.func ..,.nilFunc=>some false
  | _,_,_=>none
noncomputable def j_ (c:T Value) (off:Nat) (n:Nat):List Value→(List Value→β)→β:=
 Nat.rec (motive:=fun _=>List Value→(List Value→β)→β) (fun acc κ=>κ acc)
  (fun s ih acc κ=>Option.rec (motive:=fun _=>β) fl (fun v=>ih (v::acc) κ) (c.get (Nat.add off s))) n
def cZ:Value→Bool
 | .agg _ | .tuple _=>false
 | _=>true
noncomputable def lN (n:Nat) (vs:List Value):T Value→Nat→(T Value→β)→β:=
 List.rec (motive:=fun _=>T Value→Nat→(T Value→β)→β) (fun c _ κ=>κ c)
  (fun v _ ih c off κ=>Bool.rec (motive:=fun _=>β) fl (Bool.rec (motive:=fun _=>β) fl (T.set c off v fun c=>ih c (Nat.succ off) κ) (Nat.ble (Nat.succ off) n)) (cZ v)) vs
noncomputable def Ql (vs:List Value):T Value→Nat→(T Value→Nat→β)→β:=
 List.rec (motive:=fun _=>T Value→Nat→(T Value→Nat→β)→β) (fun c off κ=>κ c off)
  (fun v _ ih c off κ=>T.set c off v fun c=>u9 (Nat.succ off) fun off=>ih c off κ) vs
noncomputable def aq (_fl:β) (o:bC) (h:Heap) (κ:Nat→Heap→β):β:=
 T.set h.bl h.nx o fun bl=>u9 (Nat.succ h.nx) fun nx=>κ h.nx ⟨nx,bl,h.lo⟩
noncomputable def setBlock (b:Nat) (o:bC) (h:Heap) (κ:Heap→β):β:=
 match Nat.ble h.lo b with
 | true=>T.set h.bl b o fun bl=>κ ⟨h.nx,bl,h.lo⟩
 | false=>fl
noncomputable def aF (vs:List Value) (e:TypeId) (PW:Bool) (κ:bC→β):β:=
 Ql vs .nil 0 fun c n=>match Nat.ble n 1000000000000 with
  | true=>κ (.cells n c e PW)
  | false=>fl
noncomputable def cL (vs:List Value) (e:TypeId) (PW:Bool) (h:Heap) (κ:Nat→Heap→β):β:=
 aF fl vs e PW fun o=>aq fl o h κ
noncomputable def load1 (a:Value) (h:Heap) (κ:Value→Heap→β):β:=
 match a with
 | .pointer (some ⟨b,o,none⟩)=>
  match h.bl.get b with
  | some (.cells n c _ _)=>match Nat.ble (Nat.succ o) n,c.get o with
    | true,some v=>κ v h
    | _,_=>fl
  | some (.ro n c _)=>match Nat.ble (Nat.succ o) n,c.get o with
    | true,some v=>κ v h
    | _,_=>fl
  | _=>fl
 | _=>fl
noncomputable def ay (s:Nat) (a:Value) (h:Heap) (κ:Value→Heap→β):β:=
 match a with
 | .pointer (some ⟨b,o,none⟩)=>
  match h.bl.get b with
  | some (.cells n c _ _)=>match Nat.ble (Nat.add o s) n with
   | true=>j_ fl c o s [] fun l=>κ (.agg ⟨l⟩) h
   | false=>fl
  | some (.ro n c _)=>match Nat.ble (Nat.add o s) n with
   | true=>j_ fl c o s [] fun l=>κ (.agg ⟨l⟩) h
   | false=>fl
  | _=>fl
 | _=>fl
noncomputable def aI (s:Nat) (a v:Value) (h:Heap) (κ:Value→Heap→β):β:=
 match a with
 | .pointer (some ⟨b,o,none⟩)=>
  match h.bl.get b with
  | some (.cells n c e op)=>
    match Nat.beq v.cells.toList.length s with
    | true=>lN fl n v.cells.toList c o fun c=>setBlock fl b (.cells n c e op) h fun h=>κ undef h
    | false=>fl
  | _=>fl
 | _=>fl
noncomputable def lP (op:BinOp) (k:IntKind) (a b:Int) (κ:Value→β):β:=
 match op with
 | .add=>FP (mh k (Int.add a b)) fun n=>κ (.int k n)
 | .sub=>FP (mh k (Int.sub a b)) fun n=>κ (.int k n)
 | .mul=>FP (mh k (Int.mul a b)) fun n=>κ (.int k n)
 | .quo=>match q8 b 0 with | true=>fl | false=>FP (mh k (Int.tdiv a b)) fun n=>κ (.int k n)
 | .rem=>match q8 b 0 with | true=>fl | false=>FP (Int.tmod a b) fun n=>κ (.int k n)
 | .and=>FP (mh k (BitVec.ofInt k.bits a &&& BitVec.ofInt k.bits b).toNat) fun n=>κ (.int k n)
 | .or=>FP (mh k (BitVec.ofInt k.bits a ||| BitVec.ofInt k.bits b).toNat) fun n=>κ (.int k n)
 | .xor=>FP (mh k (BitVec.ofInt k.bits a ^^^ BitVec.ofInt k.bits b).toNat) fun n=>κ (.int k n)
 | .andNot=>FP (mh k (BitVec.ofInt k.bits a &&& ~~~ (BitVec.ofInt k.bits b)).toNat) fun n=>κ (.int k n)
 | .eql=>HH (q8 a b) fun r=>κ (.bool r)
 | .neq=>HH (!(q8 a b)) fun r=>κ (.bool r)
 | .lss=>HH (uP a b) fun r=>κ (.bool r)
 | .leq=>HH (!(uP b a)) fun r=>κ (.bool r)
 | .gtr=>HH (uP b a) fun r=>κ (.bool r)
 | .geq=>HH (!(uP a b)) fun r=>κ (.bool r)
 | .shl=>match uP b 0 with | true=>fl | false=>FP (k.wrap (a*2 ^ (min b.toNat k.bits))) fun n=>κ (.int k n)
 | .shr=>match uP b 0 with | true=>fl | false=>FP (a.fdiv (2 ^ (min b.toNat k.bits))) fun n=>κ (.int k n)
noncomputable def au (P:Program) (op:BinOp) (t:TypeId) (cn:Bool) (gd:Bool) (a b:Value) (h:Heap) (κ:Value→Heap→β):β:=
 match a,b with
 | .int k n,.int k' m=>match gI k k',op with
  | true,op=>lP fl op k n m fun v=>κ v h
  | false,.shl=>lP fl .shl k n m fun v=>κ v h
  | false,.shr=>lP fl .shr k n m fun v=>κ v h
  | false,_=>fl
 | .string s,.string s'=>match op with
  | .add=>match Nat.ble (Nat.add s.size s'.size) 9223372036854775807 with | true=>κ (.string (s++s')) h | false=>fl
  | .eql=>HH (j9 s s') fun r=>κ (.bool r) h
  | .neq=>HH (!(j9 s s')) fun r=>κ (.bool r) h
  | _=>fl
 | .nilIface,.nilIface=>match op,cn with
  | .eql,true=>match lM P h 100 t a b with | some r=>HH r fun r=>κ (.bool r) h | none=>fl
  | .neq,true=>match lM P h 100 t a b with | some r=>HH (!r) fun r=>κ (.bool r) h | none=>fl
  | _,_=>fl
 | .float ..,_ | _,.float .. | .complex ..,_ | _,.complex ..=>fl
 | a,b=>match op,gd with
  | .eql,false=>match lM P h 100 t a b with | some r=>HH r fun r=>κ (.bool r) h | none=>fl
  | .neq,false=>match lM P h 100 t a b with | some r=>HH (!r) fun r=>κ (.bool r) h | none=>fl
  | _,_=>fl
noncomputable def jA (op:UnOp) (a:Value) (h:Heap) (κ:Value→Heap→β):β:=
 match op,a with
 | .not,.bool b=>HH (!b) fun r=>κ (.bool r) h
 | .neg,.int k n=>FP (mh k (Int.sub 0 n)) fun n=>κ (.int k n) h
 | .xor,.int k n=>FP (mh k (BitVec.ofInt k.bits (if k.signed then -1 else k.max) ^^^ BitVec.ofInt k.bits n).toNat) fun n=>κ (.int k n) h
 | _,_=>fl
noncomputable def q9:List Value→List Value→(List Value→β)→β
 | [],old,κ=>κ old
 | v::vs,_::old,κ=>q9 vs old fun l=>κ (v::l)
 | _::_,[],_=>fl
noncomputable def cD (new:List Value):Nat→List Value→(List Value→β)→β
 | 0,old,κ=>q9 fl new old κ
 | o+1,v::old,κ=>cD new o old fun l=>κ (v::l)
 | _+1,[],_=>fl
noncomputable def br:List (Nat × Nat)→List Value→List Value→(List Value→β)→β
 | (off,size)::ps,v::vs,cs,κ=>
   match Nat.beq v.cells.toList.length size with
   | false=>fl
   | true=>cD fl v.cells.toList off cs fun cs=>br ps vs cs κ
 | [],[],cs,κ=>κ cs
 | _,_,_,_=>fl
def aU (zs:List Value):Nat→List Value
 | 0=>[]
 | n+1=>zs++aU zs n
noncomputable def AL (v:Option Value) (d:Nat) (κ:Nat→β):β:=match v with
  | none=>κ d
  | some (.int _ (.ofNat n))=>κ n
  | some _=>fl
noncomputable def gW (len lim cap:Nat) (lo hi mx:Option Value) (κ:Nat→Nat→Nat→β):β:=
 match mx with
 | none=>AL fl hi len fun h=>AL fl lo 0 fun l=>
   match Nat.ble l h,Nat.ble h lim with
   | true,true=>κ l h cap
   | _,_=>fl
 | some _=>AL fl mx 0 fun m=>AL fl hi len fun h=>AL fl lo 0 fun l=>
   match hi.isSome,Nat.ble l h,Nat.ble h m,Nat.ble m lim with
   | true,true,true,true=>κ l h m
   | _,_,_,_=>fl
noncomputable def fG (h:Heap) (e:TypeId) (b:Nat):Option Nat:=match h.bl.get b with
 | some (.cells n _ e' true)=>match Nat.beq e e' with | true=>some n | false=>none
 | some (.dead n e')=>match Nat.beq e e' with | true=>some n | false=>none
 | _=>none
noncomputable def q_ (b o s l hh m:Nat) (κ:Value→β):β:=
 match Nat.beq m l with
 | true=>u9 (Nat.sub hh l) fun n=>κ (.slice (some ⟨b,o,none⟩) n 0)
 | false=>u9 (Nat.add o (Nat.mul l s)) fun o=>u9 (Nat.sub hh l) fun n=>u9 (Nat.sub m l) fun c=>κ (.slice (some ⟨b,o,none⟩) n c)
noncomputable def sliceB (e s:Nat) (x:Value) (lo hi mx:Option Value) (h:Heap) (κ:Value→Heap→β):β:=
 match x with
 | .slice none len cap=>gW fl len cap cap lo hi mx fun l hh m=>u9 (Nat.sub hh l) fun n=>u9 (Nat.sub m l) fun c=>κ (.slice none n c) h
 | .slice (some ⟨b,o,none⟩) len cap=>
   match Nat.beq cap fq with
   | true=>match Nat.beq len 0 with
    | true=>gW fl len 0 0 lo hi mx fun _ _ _=>κ (.slice (some ⟨b,o,none⟩) 0 fq) h
    | false=>fl
   | false=>match Nat.beq cap aM with
    | false=>match Nat.ble cap 9223372036854775807 with
     | true=>gW fl len cap cap lo hi mx fun l hh m=>q_ b o s l hh m fun v=>κ v h
     | false=>fl
    | true=>
     match fG h e b,s with
     | some n,s+1=>
      match Nat.ble o n,Nat.div (Nat.sub n o) (s+1) with
      | true,lim=>gW fl len lim aM lo hi mx fun l hh m=>
       match Nat.beq m aM with
       | true=>match Nat.beq l lim with
        | true=>κ (.slice (some ⟨b,o,none⟩) 0 fq) h
        | false=>u9 (Nat.add o (Nat.mul l (s+1))) fun o=>u9 (Nat.sub hh l) fun n=>κ (.slice (some ⟨b,o,none⟩) n aM) h
       | false=>q_ b o (s+1) l hh m fun v=>κ v h
      | false,_=>fl
     | _,_=>fl
 | _=>fl
noncomputable def vQ (x:Value) (lo hi mx:Option Value) (h:Heap) (κ:Value→Heap→β):β:=
 match x,mx with
 | .string s,none=>gW fl s.size s.size s.size lo hi none fun l hh _=>κ (.string (s.extract l hh)) h
 | _,_=>fl
noncomputable def dH (h:Heap) (size n:Nat) (x:Value) (κ:List Value→β):β:=
 match Nat.mul n size with
 | 0=>κ []
 | m+1=>
  match x with
  | .slice (some ⟨b,o,none⟩) _ _=>
   match h.bl.get b with
   | some (.cells nn c _ _)=>match Nat.ble (Nat.add o (Nat.succ m)) nn with
    | true=>j_ fl c o (Nat.succ m) [] κ
    | false=>fl
   | some (.ro nn c _)=>match Nat.ble (Nat.add o (Nat.succ m)) nn with
    | true=>j_ fl c o (Nat.succ m) [] κ
    | false=>fl
   | _=>fl
  | _=>fl
noncomputable def kV (FQ:Bool) (zero:List Value) (h:Heap) (size:Nat) (x:Value) (κ:Nat→List Value→β):β:=
 match FQ,x with
 | true,.int _ (.ofNat n)=>match Nat.ble n 1000000 with
  | true=>κ n (aU zero n)
  | false=>fl
 | false,.slice _ n _=>dH fl h size n x fun l=>κ n l
 | _,_=>fl
noncomputable def bL (e size:Nat) (zero:List Value) (FQ:Bool) (s x:Value) (h:Heap) (κ:Value→Heap→β):β:=
 match s with
 | .slice base sLen sCap=>
  kV fl FQ zero h size x fun n new=>
  match n with
  | 0=>κ s h
  | _+1=>
   u9 (Nat.add sLen n) fun need=>
   match Nat.ble need 1000000000 with
   | true=>
    match base with
    | none=>match Nat.beq sCap 0,Nat.beq sLen 0 with
     | true,true=>cL fl new e true h fun b h=>κ (.slice (some ⟨b,0,none⟩) need aM) h
     | _,_=>fl
    | some ⟨b,o,none⟩=>
     match Nat.beq sCap fq with
     | true=>fl
     | false=>
     match Nat.beq sCap aM with
     | true=>match h.bl.get b with
      | some (.cells nn c e' true)=>match Nat.beq e e',Nat.ble (Nat.add o (Nat.mul need size)) nn with
       | true,true=>lN fl nn new c (Nat.add o (Nat.mul sLen size)) fun c=>setBlock fl b (.cells nn c e' true) h fun h=>κ (.slice base need sCap) h
       | true,false=>match Nat.beq o 0 && new.all cZ with
        | true=>dH fl h size sLen s fun old=>setBlock fl b (.dead nn e') h fun h=>cL fl (old++new) e true h fun b h=>κ (.slice (some ⟨b,0,none⟩) need aM) h
        | false=>fl
       | false,_=>fl
      | _=>fl
     | false=>match Nat.ble need sCap,h.bl.get b with
      | true,some (.cells nn c e' op)=>lN fl nn new c (Nat.add o (Nat.mul sLen size)) fun c=>setBlock fl b (.cells nn c e' op) h fun h=>κ (.slice base need sCap) h
      | false,_=>match Nat.ble sCap 1000000000 with
       | true=>dH fl h size sLen s fun old=>cL fl (old++new) e true h fun b h=>κ (.slice (some ⟨b,0,none⟩) need aM) h
       | false=>fl
      | _,_=>fl
    | _=>fl
   | false=>fl
 | _=>fl
noncomputable def B9 (size:Nat) (d x:Value) (h:Heap) (κ:Value→Heap→β):β:=
 match d with
 | .slice base dLen _=>
   match x with
   | .slice _ n _=>u9 (Nat.min n dLen) fun n=>
    match n with
    | 0=>κ (.int .i64 (.ofNat 0)) h
    | _+1=>match base with
     | some ⟨b,o,none⟩=>dH fl h size n x fun cs=>match h.bl.get b with
      | some (.cells nn c e' op)=>lN fl nn cs c o fun c=>setBlock fl b (.cells nn c e' op) h fun h=>κ (.int .i64 (.ofNat n)) h
      | _=>fl
     | _=>fl
   | _=>fl
 | _=>fl
noncomputable def jD (zero:List Value) (x:Value) (h:Heap) (κ:Value→Heap→β):β:=
 match x with
 | .slice none _ _ | .slice _ 0 _ | .map none=>κ (.tuple #[]) h
 | .slice (some ⟨b,o,none⟩) n _=>match h.bl.get b with
    | some (.cells nn c e' op)=>lN fl nn (aU zero n) c o fun c=>setBlock fl b (.cells nn c e' op) h fun h=>κ (.tuple #[]) h
    | _=>fl
 | .map (some r)=>match h.bl.get r with
  | some (.map _ clock)=>setBlock fl r (.map [] clock) h fun h=>κ (.tuple #[]) h
  | _=>fl
 | _=>fl
noncomputable def vR (x:Value) (h:Heap) (κ:Value→Heap→β):β:=
 match x with
 | .string s=>u9 s.size fun n=>κ (.int .i64 (.ofNat n)) h
 | _=>fl
noncomputable def bB (x:Value) (h:Heap) (κ:Value→Heap→β):β:=
 match x with
 | .slice _ n _=>κ (.int .i64 (.ofNat n)) h
 | _=>fl
noncomputable def mZ (x:Value) (h:Heap) (κ:Value→Heap→β):β:=
 match x with
 | .map none=>κ (.int .i64 (.ofNat 0)) h
 | .map (some r)=>match h.bl.get r with
  | some (.map es _)=>u9 es.length fun n=>κ (.int .i64 (.ofNat n)) h
  | _=>fl
 | _=>fl
noncomputable def fR (P:Program) (h:Heap) (kt:TypeId) (k:Value):List MapEntry→Nat→Option (Option (Nat × MapEntry))
 | [],_=>some none
 | e::es,i=>match lM P h 100 kt k e.key with
  | some true=>some (some (i,e))
  | some false=>fR P h kt k es (Nat.succ i)
  | none=>none
def jK (P:Program):Nat→TypeId→Value→Bool
 | 0,_,_=>false
 | d+1,t,v=>match P.underlying t,v with
  | some .bool,.bool _ | some (.int _),.int _ _ | some .string,.string _=>true
  | some (.struct fs),.agg cs=>mj (.agg cs) && fs.toList.all fun f=>(match mo P f.type,er P f.type with
   | some true,some s=>jK P d f.type (.agg ⟨(cs.toList.drop f.offset).take s⟩)
   | some false,some _=>(match cs.toList[f.offset]? with | some v=>jK P d f.type v | none=>false)
   | _,_=>false)
  | _,_=>false
noncomputable def ja (P:Program) (kt:TypeId) (m k:Value) (h:Heap) (κ:Option Value→β):β:=
  match jK P 20 kt k with
  | false=>fl
  | true=>
  match m with
  | .map none=>κ none
  | .map (some r)=>match h.bl.get r with
   | some (.map es _)=>match fR P h kt k es 0 with
    | some (some (_,e))=>κ (some e.val)
    | some none=>κ none
    | none=>fl
   | _=>fl
  | _=>fl
noncomputable def cV (P:Program) (kt:TypeId) (zero:Value) (ok:Bool) (m k:Value) (h:Heap) (κ:Value→Heap→β):β:=
 ja fl P kt m k h fun r=>match r,ok with
  | some v,true=>κ (.tuple #[v,.bool true]) h
  | some v,false=>κ v h
  | none,true=>κ (.tuple #[zero,.bool false]) h
  | none,false=>κ zero h
noncomputable def setAt (f:MapEntry→MapEntry):Nat→List MapEntry→(List MapEntry→β)→β
 | _,[],κ=>κ []
 | 0,e::es,κ=>κ (f e::es)
 | n+1,e::es,κ=>setAt f n es fun l=>κ (e::l)
noncomputable def B_ (x:MapEntry):List MapEntry→(List MapEntry→β)→β
 | [],κ=>κ [x]
 | e::es,κ=>B_ x es fun l=>κ (e::l)
noncomputable def cw (P:Program) (kt:TypeId) (m k v:Value) (h:Heap) (κ:Value→Heap→β):β:=
 match jK P 20 kt k with
 | false=>fl
 | true=>
 match m with
 | .map (some r)=>match h.bl.get r with
  | some (.map es clock)=>match fR P h kt k es 0 with
   | some (some (i,e))=>match jX 3 k e.key with
    | true=>setAt (fun e=>{ e with key:=k,val:=v }) i es fun es=>setBlock fl r (.map es clock) h fun h=>κ undef h
    | false=>fl
   | some none=>B_ { key:=k,val:=v,born:=clock } es fun es=>u9 (Nat.succ clock) fun clock=>setBlock fl r (.map es clock) h fun h=>κ undef h
   | none=>fl
  | _=>fl
 | _=>fl
noncomputable def zM:Nat→List MapEntry→(List MapEntry→β)→β
 | _,[],κ=>κ []
 | 0,_::es,κ=>κ es
 | n+1,e::es,κ=>zM n es fun l=>κ (e::l)
noncomputable def kW (P:Program) (kt:TypeId) (m k:Value) (h:Heap) (κ:Value→Heap→β):β:=
 match jK P 20 kt k with
 | false=>fl
 | true=>
 match m with
 | .map none=>κ (.tuple #[]) h
 | .map (some r)=>match h.bl.get r with
   | some (.map es clock)=>match fR P h kt k es 0 with
    | some (some (i,_))=>zM i es fun es=>setBlock fl r (.map es clock) h fun h=>κ (.tuple #[]) h
    | some none=>κ (.tuple #[]) h
    | none=>fl
   | _=>fl
 | _=>fl
noncomputable def ax (i:Nat) (v:Value) (h:Heap) (κ:Value→Heap→β):β:=match v with
  | .tuple vs=>match vs.toList[i]? with | some v=>κ v h | none=>fl
  | _=>fl
noncomputable def aX (c a b:Value) (h:Heap) (κ:Value→Heap→β):β:=
 match c with
  | .bool true=>κ a h
  | .bool false=>κ b h
  | _=>fl
noncomputable def aJ (v:Value) (h:Heap) (κ:Value→Heap→β):β:=match v with
  | .pointer (some a)=>κ (.pointer (some a)) h
  | .func (.func f) a b=>κ (.func (.func f) a b) h
  | .iface t x=>κ (.iface t x) h
  | _=>fl
noncomputable def fieldAddrB (off:Nat) (v:Value) (h:Heap) (κ:Value→Heap→β):β:=match v with
  | .pointer (some ⟨b,o,none⟩)=>u9 (Nat.add o off) fun o=>κ (.pointer (some ⟨b,o,none⟩)) h
  | _=>fl
noncomputable def aD (s:Nat) (v iv:Value) (h:Heap) (κ:Value→Heap→β):β:=match v,iv with
  | .slice (some ⟨b,o,none⟩) len _,.int _ (.ofNat i)=>match Nat.ble (Nat.succ i) len with
   | true=>u9 (Nat.add o (Nat.mul i s)) fun o=>κ (.pointer (some ⟨b,o,none⟩)) h
   | _=>fl
  | _,_=>fl
noncomputable def kf (len s:Nat) (v iv:Value) (h:Heap) (κ:Value→Heap→β):β:=match v,iv with
  | .pointer (some ⟨b,o,none⟩),.int _ (.ofNat i)=>match Nat.ble (Nat.succ i) len with
   | true=>u9 (Nat.add o (Nat.mul i s)) fun o=>κ (.pointer (some ⟨b,o,none⟩)) h
   | _=>fl
  | _,_=>fl
noncomputable def kg (k:IntKind) (v:Value) (h:Heap) (κ:Value→Heap→β):β:=match v with
  | .int _ n=>FP (mh k n) fun n=>κ (.int k n) h
  | _=>fl
noncomputable def zN:Nat→List Value→(List Value→β)→β
  | 0,_,κ=>κ []
  | n+1,v::vs,κ=>zN n vs fun l=>κ (v::l)
  | _+1,[],_=>fl
noncomputable def Ca (agg:Bool) (s:Nat) (cs:List Value) (off:Nat) (κ:Value→β):β:=
 match agg with
 | true=>zN fl s (cs.drop off) fun l=>κ (.agg ⟨l⟩)
 | false=>match cs[off]? with | some v=>κ v | none=>fl
noncomputable def qq (agg:Bool) (s off:Nat) (v:Value) (h:Heap) (κ:Value→Heap→β):β:=match v with
  | .agg cs=>Ca fl agg s cs.toList off fun v=>κ v h
  | _=>fl
noncomputable def vS (agg:Bool) (len s:Nat) (v iv:Value) (h:Heap) (κ:Value→Heap→β):β:=match v,iv with
  | .agg cs,.int _ (.ofNat i)=>match Nat.ble (Nat.succ i) len with
   | true=>Ca fl agg s cs.toList (Nat.mul i s) fun v=>κ v h
   | _=>fl
  | _,_=>fl
noncomputable def vT (v iv:Value) (h:Heap) (κ:Value→Heap→β):β:=match v,iv with
  | .string s,.int _ (.ofNat i)=>match s.data.toList[i]? with
   | some b=>u9 b.toNat fun n=>κ (.int .u8 (.ofNat n)) h
   | none=>fl
  | _,_=>fl
noncomputable def dV (asserted:TypeId) (zero:Value) (ok:Bool) (x:Value) (h:Heap) (κ:Value→Heap→β):β:=
 match x with
 | .iface t v=>match Nat.beq t asserted,ok with
  | true,true=>κ (.tuple #[v,.bool true]) h
  | true,false=>κ v h
  | false,true=>κ (.tuple #[zero,.bool false]) h
  | false,false=>fl
 | .nilIface=>match ok with
   | true=>κ (.tuple #[zero,.bool false]) h
   | false=>fl
 | _=>fl
noncomputable def m_ (x:Value) (h:Heap) (κ:Value→Heap→β):β:=
 match x with
 | .map none=>aq fl (.dM none 0 [] 0) h fun b h=>κ (.pointer (some ⟨b,0,none⟩)) h
 | .map (some r)=>match h.bl.get r with
  | some (.map _ clock)=>aq fl (.dM (some r) clock [] clock) h fun b h=>κ (.pointer (some ⟨b,0,none⟩)) h
  | _=>fl
 | _=>fl
noncomputable def kX (both:β→β→β) (b m since:Nat) (seen:List Nat) (clock:Nat) (h:Heap) (κ:Value→Heap→β):MapEntry→List MapEntry→β
 | e,[]=>match Nat.ble (Nat.succ e.born) since with
  | true=>setBlock fl b (.dM (some m) since (e.born::seen) clock) h fun h=>κ (.tuple #[.bool true,e.key,e.val]) h
  | false=>fl
 | e,e'::es=>match Nat.ble (Nat.succ e.born) since with
  | true=>both (setBlock fl b (.dM (some m) since (e.born::seen) clock) h fun h=>κ (.tuple #[.bool true,e.key,e.val]) h) (kX both b m since seen clock h κ e' es)
  | false=>fl
noncomputable def p9 (both:β→β→β) (it:Value) (h:Heap) (κ:Value→Heap→β):β:=
 match it with
 | .pointer (some ⟨b,0,none⟩)=>match h.bl.get b with
  | some (.dM none _ _ _)=>κ (.tuple #[.bool false]) h
  | some (.dM (some m) since seen last)=>match h.bl.get m with
   | some (.map es clock)=>
    match !seen.isEmpty && !es.isEmpty && es.all (fun e=>Nat.ble last e.born) with
    | true=>fl
    | false=>
     match es.filter fun e=>!seen.any (Nat.beq e.born) with
     | []=>κ (.tuple #[.bool false]) h
     | e::es=>kX fl both b m since seen clock h κ e es
   | _=>fl
  | _=>fl
 | _=>fl
noncomputable def ng (it:Value) (h:Heap) (κ:Value→Heap→β):β:=
 match it with
 | .pointer (some ⟨b,0,none⟩)=>match h.bl.get b with
  | some (.dM (some m) _ (stamp::_) stepped)=>match h.bl.get m with
   | some (.map es clock)=>match Nat.beq clock stepped with
    | true=>match es.find? (fun e=>Nat.beq e.born stamp) with
     | some e=>κ (.tuple #[e.key,e.val]) h
     | none=>fl
    | false=>fl
   | _=>fl
  | _=>fl
 | _=>fl
inductive XI (β:Type) where
 | k0 (f:Heap→(Value→Heap→β)→β)
 | k1 (x:Operand) (f:Value→Heap→(Value→Heap→β)→β)
 | k2 (x y:Operand) (f:Value→Value→Heap→(Value→Heap→β)→β)
 | k3 (x y z:Operand) (f:Value→Value→Value→Heap→(Value→Heap→β)→β)
 | kn (xs:List Operand) (f:List Value→Heap→(Value→Heap→β)→β)
noncomputable def XI.run (i:XI β) (tm:T Value) (h:Heap) (κ:Value→Heap→β):β:=
 XI.rec (motive:=fun _=>β) (fun f=>f h κ) (fun x f=>ev tm x fun a=>f a h κ) (fun x y f=>ev tm x fun a=>ev tm y fun b=>f a b h κ)
  (fun x y z f=>ev tm x fun a=>ev tm y fun b=>ev tm z fun c=>f a b c h κ) (fun xs f=>Qk tm xs fun vs=>f vs h κ) i
def placesOf (place:Nat→Option (Nat × Nat)):List (Nat × Operand)→Option (List (Nat × Nat))
 | []=>some []
 | (i,_)::ps=>match place i,placesOf place ps with
  | some p,some l=>some (p::l)
  | _,_=>none
def mq (P:Program) (t:TypeId):Option (List Value × (Nat→Option (Nat × Nat))):=match P.info? t,P.underlying t with
 | some it,some (.array _ e)=>match it.zero,P.info? e with
  | some z,some ie=>match z.cells.toList.all fF with
   | true=>some (z.cells.toList,fun i=>some (Nat.mul i ie.size,ie.size))
   | false=>none
  | _,_=>none
 | some it,some (.struct fields)=>match it.zero,fields.toList.mapM (fun f=>(P.info? f.type).map fun i=>(f.offset,i.size)) with
  | some z,some places=>match z.cells.toList.all fF with
   | true=>some (z.cells.toList,fun i=>places[i]?)
   | false=>none
  | _,_=>none
 | _,_=>none
def nZ (lo hi mx:Option Operand):List Operand:=lo.toList++hi.toList++mx.toList
def u_ (lo hi mx:Bool):List Value→Option (Option Value × Option Value × Option Value)
 | []=>match lo,hi,mx with | false,false,false=>some (none,none,none) | _,_,_=>none
 | [a]=>match lo,hi,mx with
  | true,false,false=>some (some a,none,none)
  | false,true,false=>some (none,some a,none)
  | _,_,_=>none
 | [a,b]=>match lo,hi,mx with
  | true,true,false=>some (some a,some b,none)
  | false,true,true=>some (none,some a,some b)
  | _,_,_=>none
 | [a,b,c]=>match lo,hi,mx with
  | true,true,true=>some (some a,some b,some c)
  | _,_,_=>none
 | _=>none
inductive XA (β:Type) where
 | k0 (f:(bC→(Nat→Value)→β)→β)
 | k1 (x:Operand) (f:Value→(bC→(Nat→Value)→β)→β)
 | k2 (x y:Operand) (f:Value→Value→(bC→(Nat→Value)→β)→β)
 | kn (xs:List Operand) (f:List Value→(bC→(Nat→Value)→β)→β)
noncomputable def XA.run (i:XA β) (tm:T Value) (κ:bC→(Nat→Value)→β):β:=
 XA.rec (motive:=fun _=>β) (fun f=>f κ) (fun x f=>ev tm x fun a=>f a κ) (fun x y f=>ev tm x fun a=>ev tm y fun b=>f a b κ)
  (fun xs f=>Qk tm xs fun vs=>f vs κ) i
def ptrTo (b:Nat):Value:=.pointer (some ⟨b,0,none⟩)
def sliceTo (n c:Nat) (b:Nat):Value:=.slice (some ⟨b,0,none⟩) n c
def iB (b:Nat):Value:=.map (some b)
noncomputable def p_ (P:Program):Op→Option (XA β)
 | .alloc e=>match zeroOf P e with
  | some z=>some (.k0 fun κ=>aF fl z e false fun o=>κ o ptrTo)
  | none=>none
 | .box e x=>some (.k1 x fun v κ=>aF fl v.cells.toList e false fun o=>κ o ptrTo)
 | .buildSlice t len parts=>match P.underlying t with
  | some (.slice e)=>match Lx P e,Nat.ble len 10000 with
   | some (z,s),true=>match placesOf (fun i=>some (Nat.mul i s,s)) parts.toList,Nat.ble s 1000 with
    | some ps,true=>some (.kn (parts.toList.map (·.2)) fun vs κ=>br fl ps vs (aU z len) fun cs=>aF fl cs e false fun o=>κ o (sliceTo len len))
    | _,_=>none
   | _,_=>none
  | _=>none
 | .makeMap t r=>match r with
  | none=>some (.k0 fun κ=>κ (.map [] 0) iB)
  | some x=>match P.underlying t with
   | some (.map _ _)=>some (.k1 x fun v κ=>match v with | .int _ _=>κ (.map [] 0) iB | _=>fl)
   | _=>none
 | .makeSlice t l c=>match P.underlying t with
  | some (.slice e)=>match Lx P e,P.info? e with
   | some (z,_),some inf=>match Nat.ble inf.bytes 1000000 with
    | true=>some (.k2 l c fun l c κ=>match l,c with
     | .int _ (.ofNat l),.int _ (.ofNat c)=>match Nat.ble l c,Nat.ble c 1000000 with
      | true,true=>aF fl (aU z c) e false fun o=>κ o (sliceTo l c)
      | _,_=>fl
     | _,_=>fl)
    | false=>none
   | _,_=>none
  | _=>none
 | _=>none
noncomputable def Ly (a b:Value) (h:Heap) (κ:Value→Heap→β):β:=
 match a,b with
 | .int k a,.int _ b=>(match uP b a with | true=>κ (.int k b) h | false=>κ (.int k a) h)
 | _,_=>fl
noncomputable def AM (a b:Value) (h:Heap) (κ:Value→Heap→β):β:=
 match a,b with
 | .int k a,.int _ b=>(match uP a b with | true=>κ (.int k b) h | false=>κ (.int k a) h)
 | _,_=>fl
noncomputable def nI (P:Program):Op→Option (XI β)
 | .move x | .assign x=>some (.k1 x fun v h κ=>κ v h)
 | .pick c a b=>some (.k3 c a b (aX fl))
 | .build t parts=>match mq P t with
  | some (z,place)=>match placesOf place parts.toList with
   | some ps=>some (.kn (parts.toList.map (·.2)) fun vs h κ=>br fl ps vs z fun cs=>κ (.agg ⟨cs⟩) h)
   | none=>none
  | none=>none
 | .load t a=>match mo P t,er P t with
  | some true,some s=>some (.k1 a (ay fl s))
  | some false,some _=>some (.k1 a (load1 fl))
  | _,_=>none
 | .nilCheck x=>some (.k1 x (aJ fl))
 | .binOp op t x y _=>some (.k2 x y (au fl P op t ((x matches .const _) || (y matches .const _)) (P.eqGuardType P.depth t)))
 | .unOp op _ x=>some (.k1 x (jA fl op))
 | .convert src dst x=>match P.underlying src,P.underlying dst with
  | some _,some (.int k)=>some (.k1 x (kg fl k))
  | some .string,some .string=>some (.k1 x fun v h κ=>match v with | .string s=>κ (.string s) h | _=>fl)
  | _,_=>none
 | .makeInterface t x=>match P.underlying t with
  | some (.interface _)=>none
  | some _=>some (.k1 x fun v h κ=>κ (.iface t v) h)
  | none=>none
 | .makeFunc (.func fn) first cap=>some (.kn (first.toList++cap.toList) fun vs h κ=>κ (.func (.func fn) ⟨vs.take first.toList.length⟩ ⟨vs.drop first.toList.length⟩) h)
 | .slice t x lo hi mx=>match P.underlying t with
  | some (.slice e)=>match er P e with
   | some s=>some (.kn (x::nZ lo hi mx) fun vs h κ=>match vs with
    | v::bs=>match u_ lo.isSome hi.isSome mx.isSome bs with
     | some (l,hh,m)=>sliceB fl e s v l hh m h κ
     | none=>fl
    | []=>fl)
   | none=>none
  | some .string=>some (.kn (x::nZ lo hi mx) fun vs h κ=>match vs with
    | v::bs=>match u_ lo.isSome hi.isSome mx.isSome bs with
     | some (l,hh,m)=>vQ fl v l hh m h κ
     | none=>fl
    | []=>fl)
  | _=>none
 | .fieldAddr t x f=>match P.underlying t with
  | some (.struct fs)=>match fs[f]? with
   | some sJ=>match er P sJ.type with
    | some (_+1)=>some (.k1 x (fieldAddrB fl sJ.offset))
    | _=>none
   | none=>none
  | _=>none
 | .field t x f=>match P.underlying t with
  | some (.struct fs)=>match fs[f]? with
   | some sJ=>match mo P sJ.type,er P sJ.type with
    | some a,some s=>some (.k1 x (qq fl a s sJ.offset))
    | _,_=>none
   | none=>none
  | _=>none
 | .indexAddr t x i=>match P.underlying t with
  | some (.slice e)=>match er P e with
   | some s=>some (.k2 x i (aD fl s))
   | _=>none
  | some (.array len e)=>match er P e with
   | some s=>some (.k2 x i (kf fl len s))
   | _=>none
  | _=>none
 | .index t x i=>match P.underlying t with
  | some (.array len e)=>match mo P e,er P e with
   | some a,some s=>some (.k2 x i (vS fl a len s))
   | _,_=>none
  | some .string=>some (.k2 x i (vT fl))
  | _=>none
 | .lookup t x i ok=>match P.underlying t with
  | some (.map kt et)=>match (P.info? et).bind (·.zero) with
   | some z=>match sI z with
    | true=>some (.k2 x i (cV fl P kt z ok))
    | false=>none
   | none=>none
  | _=>none
 | .typeAssert x _ t ok=>match P.underlying t,(P.info? t).bind (·.zero) with
  | some (.interface _),_=>none
  | some _,some z=>match sI z with
   | true=>some (.k1 x (dV fl t z ok))
   | false=>none
  | _,_=>none
 | .extract x i=>some (.k1 x (ax fl i))
 | .call { callee:=.builtin .len,args:=args,argTypes:=ts }=>match args.toList,ts[0]? with
  | [x],some t=>match P.underlying t with
   | some .string=>some (.k1 x (vR fl))
   | some (.slice _)=>some (.k1 x (bB fl))
   | some (.map _ _)=>some (.k1 x (mZ fl))
   | _=>none
  | _,_=>none
 | .call { callee:=.builtin .min,args:=args,.. }=>match args.toList with
  | [a,b]=>some (.k2 a b (Ly fl))
  | _=>none
 | .call { callee:=.builtin .max,args:=args,.. }=>match args.toList with
  | [a,b]=>some (.k2 a b (AM fl))
  | _=>none
 | _=>none
noncomputable def AN:List UInt8→(List Value→β)→β
 | [],κ=>κ []
 | b::bs,κ=>u9 b.toNat fun n=>AN bs fun l=>κ (.int .u8 (.ofNat n)::l)
noncomputable def n9 (e:TypeId) (v:Value) (h:Heap) (κ:Value→Heap→β):β:=
 match v with
 | .string s=>AN s.data.toList fun l=>Ql l .nil 0 fun c n=>match Nat.ble n 1000000000000 with
  | true=>aq fl (.ro n c e) h fun b h=>κ (.slice (some ⟨b,0,none⟩) n aM) h
  | false=>fl
 | _=>fl
noncomputable def u8K:List Value→(List UInt8→β)→β
 | [],κ=>κ []
 | .int .u8 (.ofNat n)::l,κ=>u8K l fun bs=>κ (UInt8.ofNat n::bs)
 | _,_=>fl
noncomputable def Cb (v:Value) (h:Heap) (κ:Value→Heap→β):β:=
 match v with
 | .slice a n c=>dH fl h 1 n (.slice a n c) fun l=>u8K fl l fun bs=>κ (.string ⟨⟨bs⟩⟩) h
 | _=>fl
noncomputable def zO (P:Program):Op→Option (XI β)
 | .store t a x=>match er P t with
  | some s=>some (.k2 a x (aI fl s))
  | none=>none
 | .mapUpdate t m k x | .insert t m k x=>match P.underlying t with
  | some (.map kt _)=>some (.k3 m k x (cw fl P kt))
  | _=>none
 | .range t x=>match P.underlying t with
  | some (.map _ _)=>some (.k1 x (m_ fl))
  | _=>none
 | .entry it=>some (.k1 it (ng fl))
 | .convert src dst x=>match P.underlying src,P.underlying dst with
  | some .string,some (.slice e)=>match P.underlying e,er P e with
   | some (.int .u8),some 1=>some (.k1 x (n9 fl e))
   | _,_=>none
  | some (.slice e),some .string=>match P.underlying e with
   | some (.int .u8)=>some (.k1 x (Cb fl))
   | _=>none
  | _,_=>none
 | .call { callee:=.builtin b,args:=args,argTypes:=ts,.. }=>match b,args.toList with
  | .append,[s,x]=>match ts[0]?,ts[1]? with
   | some st,some xt=>match P.underlying st with
    | some (.slice e)=>match P.info? e,P.underlying xt with
     | some inf,some xd=>match Lx P e,Nat.ble inf.bytes 10000 with
      | some (z,size),true=>some (.k2 s x (bL fl e size z (qp xd)))
      | _,_=>none
     | _,_=>none
    | _=>none
   | _,_=>none
  | .copy,[d,x]=>match ts[0]? with
   | some t=>match P.underlying t with
    | some (.slice e)=>match er P e with
     | some s=>some (.k2 d x (B9 fl s))
     | none=>none
    | _=>none
   | none=>none
  | .clear,[x]=>match ts[0]? with
   | some t=>match P.underlying t with
    | some (.slice e)=>match zeroOf P e with
     | some z=>some (.k1 x (jD fl z))
     | none=>none
    | some (.map _ _)=>some (.k1 x fun v h κ=>match v with | .map m=>jD fl [] (.map m) h κ | _=>fl)
    | _=>none
   | none=>none
  | .cap,[x]=>match ts[0]? with
   | some t=>match P.underlying t with
    | some (.slice _)=>some (.k1 x fun v h κ=>match v with
     | .slice _ _ cap=>(match Nat.ble cap 1000000000 with | true=>κ (.int .i64 (.ofNat cap)) h | false=>fl)
     | _=>fl)
    | _=>none
   | none=>none
  | .delete,[m,k]=>match ts[0]? with
   | some t=>match P.underlying t with
    | some (.map kt _)=>some (.k2 m k (kW fl P kt))
    | _=>none
   | none=>none
  | .min,[a,b]=>some (.k2 a b fun a b h κ=>match a,b with
   | .int k a,.int _ b=>(match uP b a with | true=>κ (.int k b) h | false=>κ (.int k a) h)
   | _,_=>fl)
  | .max,[a,b]=>some (.k2 a b fun a b h κ=>match a,b with
   | .int k a,.int _ b=>(match uP a b with | true=>κ (.int k b) h | false=>κ (.int k a) h)
   | _,_=>fl)
  | _,_=>none
 | _=>none
def AO (P:Program) (t:TypeId) (name:String):Option FuncId:=
 match P.info? t,P.underlying t with
 | some i,some d=>match i.methods.find? (·.name == name) with
  | some m=>match m.path.isEmpty,m.func,d with
   | true,some (f,true),.pointer _=>some f
   | true,some (_,false),.pointer _=>none
   | true,some (f,false),_=>some f
   | _,_,_=>none
  | none=>none
 | _,_=>none
def ve (P:Program) (t:TypeId) (name:String):Option (FuncId × Nat × TypeId):=
 match P.info? t with
 | some i=>match i.methods.find? (·.name == name) with
  | some m=>match m.path.toList,m.func with
   | [s],some (f,false)=>match s.deref,P.underlying s.struct with
    | true,some (.struct fs)=>match fs[s.index]? with
     | some sJ=>match mo P sJ.type,er P sJ.type,P.underlying sJ.type with
      | some false,some (_+1),some (.slice _)=>some (f,sJ.offset,sJ.type)
      | _,_,_=>none
     | none=>none
    | _,_=>none
   | _,_=>none
  | none=>none
 | none=>none
def vf (P:Program) (t:TypeId) (name:String):Option (FuncId × TypeId):=
 match P.info? t,P.underlying t with
 | some i,some (.pointer e)=>match i.methods.find? (·.name == name) with
  | some m=>match m.path.toList,m.func,mo P e with
   | [],some (f,false),some false=>some (f,e)
   | _,_,_=>none
  | none=>none
 | _,_=>none
noncomputable def AP (vs:List Value):T Value→Nat→(T Value→β)→β:=
 List.rec (motive:=fun _=>T Value→Nat→(T Value→β)→β) (fun tm _ κ=>κ tm)
  (fun v _ ih tm i κ=>T.set tm i v fun tm=>ih tm (Nat.succ i) κ) vs
inductive zc where
 | tmp (t:Nat)
 | one (a:Nat)
 | agg (a s:Nat)
 | bad
def t_ (P:Program):ResultVar→zc
 | .tmp t=>.tmp t
 | .cell a t=>match mo P t,er P t with
  | some true,some s=>.agg a s
  | some false,some _=>.one a
  | _,_=>.bad
noncomputable def dB (h:Heap) (tm:T Value):List zc→(List Value→β)→β
 | [],κ=>κ []
 | .tmp t::rs,κ=>ev tm (.tmp t) fun v=>dB h tm rs fun vs=>κ (v::vs)
 | .one a::rs,κ=>ev tm (.tmp a) fun a=>load1 fl a h fun v _=>dB h tm rs fun vs=>κ (v::vs)
 | .agg a s::rs,κ=>ev tm (.tmp a) fun a=>ay fl s a h fun v _=>dB h tm rs fun vs=>κ (v::vs)
 | .bad::_,_=>fl
def Cc (nt:Nat):Operand→Bool
 | .tmp t=>Nat.ble (Nat.succ t) nt
 | .global _=>false
 | .const v=>sI v
 | .func _=>true
def ew (nt:Nat) (o:Oper):Bool:=o.op.operands.toList.all (Cc nt) && (match o.dst with | some d=>Nat.ble (Nat.succ d) nt | none=>true)
def n_:Code→Bool
 | .seq a b | .cond _ a b=>n_ a && n_ b
 | .block _ c | .loop c | .scope c=>n_ c
 | .rangeFunc ..=>false
 | _=>true
def codeOk (nt:Nat):Code→Bool
 | .rangeFunc g ps a b=>Cc nt g && ps.toList.all (fun t=>Nat.ble (Nat.succ t) nt) && codeOk nt a && codeOk nt b && n_ a && n_ b
 | .region _ ops _=>ops.toList.all (ew nt)
 | .seq a b=>codeOk nt a && codeOk nt b
 | .cond c a b=>Cc nt c && codeOk nt a && codeOk nt b
 | .block _ c | .loop c | .scope c=>codeOk nt c
 | _=>true
def LA (nt:Nat):ResultVar→Bool
 | .tmp t=>Nat.ble (Nat.succ t) nt
 | .cell a _=>Nat.ble (Nat.succ a) nt
inductive XFn where
 | none
 | mk (c:Code) (rs:List zc) (nt:Nat)
def vU (P:Program) (f:FuncId):XFn:=
 match P.funcs[f]? with
 | some fn => match fn.name == "runtime.NumGoroutine" with
  | true=>.none
  | false=>match fn.body with
   | some c=>match codeOk fn.ntmps c && fn.results.toList.all (LA fn.ntmps) && Nat.ble fn.ntmps 1000000000000 with
    | true=>.mk c (fn.results.toList.map (t_ P)) fn.ntmps
    | false=>.none
   | none=>.none
 | none=>.none
noncomputable def LB (κ:Value→Heap→β) (h:Heap):List Value→β
 | [v]=>κ v h
 | vs=>κ (.tuple ⟨vs⟩) h
abbrev Rec (β:Type):=Code→T Value→Heap→(Ex→T Value→Heap→β)→β
structure ki (β:Type) where
 fn:FuncId→Option (List Value→Heap→(Value→Heap→β)→β)
 both:β→β→β
noncomputable def JE (rs:List zc) (κ:Value→Heap→β) (e:Ex) (tm:T Value) (h:Heap):β:=
 match e with
 | .exit _=>fl
 | _=>dB fl h tm rs fun vs=>LB κ h vs
variable (pr:ki β)
noncomputable def kY (P:Program) (rec:Rec β) (f:FuncId) (args:List Value) (h:Heap) (κ:Value→Heap→β):β:=
 match pr.fn f with
 | some g=>g args h κ
 | none=>match vU P f with
  | .none=>fl
  | .mk c rs nt=>match Nat.ble args.length nt with
   | true=>AP args .nil 0 fun tm=>rec c tm h (JE fl rs κ)
   | false=>fl
noncomputable def mu (l:Nat) (κ:Value→Heap→β) (e:Ex) (_tm:T Value) (h:Heap):β:=
 match h.bl.get l with
 | some (.loop _ _ jR ps a b)=>match e with
  | .normal=>setBlock fl l (.loop .ready none jR ps a b) h fun h=>κ (.bool true) h
  | e=>setBlock fl l (.loop .done (some e) jR ps a b) h fun h=>κ (.bool false) h
 | _=>fl
noncomputable def ig (rec:Rec β) (l:Nat) (bd:Code) (κ:Value→Heap→β) (e:Ex) (tm:T Value) (h:Heap):β:=
 match e with
 | .normal=>match h.bl.get l with
  | some (.loop .ready j8 jR ps a b)=>setBlock fl l (.loop .busy j8 jR ps a b) h fun h=>rec bd tm h (mu fl l κ)
  | _=>fl
 | _=>fl
noncomputable def vV:List Nat→List Value→T Value→(T Value→β)→β
 | p::ps,v::vs,tm,κ=>T.set tm p v fun tm=>vV ps vs tm κ
 | _,_,tm,κ=>κ tm
noncomputable def sK (rec:Rec β) (l:Nat) (args:List Value) (h:Heap) (κ:Value→Heap→β):β:=
 match h.bl.get l with
 | some (.loop _ _ jR ps a b)=>match Nat.beq args.length ps.length with
  | true=>vV ps args jR fun tm=>rec a tm h (ig fl rec l b κ)
  | false=>fl
 | _=>fl
noncomputable def iP (l:Nat) (tm:T Value) (κ:Ex→T Value→Heap→β) (_v:Value) (h:Heap):β:=
 match h.bl.get l with
 | some (.loop st j8 jR ps a b)=>match st with
  | .busy=>fl
  | _=>setBlock fl l (.loop .exhausted j8 jR ps a b) h fun h=>match j8 with
   | none=>κ .normal tm h
   | some e=>κ e tm h
 | _=>fl
noncomputable def zP (P:Program) (rec:Rec β) (fv:Value) (args:List Value) (h:Heap) (κ:Value→Heap→β):β:=
  match fv with
  | .func (.func f) first cap=>kY fl pr P rec f (first.toList++args++cap.toList) h κ
  | .func (.yield l) first cap=>(match first.toList,cap.toList with
   | [],[]=>sK fl rec l args h κ
   | _,_=>fl)
  | _=>fl
noncomputable def gZ (P:Program) (rec:Rec β) (ps:List Nat) (a b:Code) (tm:T Value) (h:Heap) (κ:Ex→T Value→Heap→β) (gv:Value):β:=
 match gv with
 | .func (.func f) first cap=>aq fl (.loop .ready none tm ps a b) h fun l h=>kY fl pr P rec f (first.toList++[.func (.yield l) #[] #[]]++cap.toList) h (iP fl l tm κ)
 | _=>fl
noncomputable def LC (P:Program) (rec:Rec β) (name:String) (r:Value) (args:List Value) (h:Heap) (κ:Value→Heap→β):β:=
 match r with
 | .iface t v=>match AO P t name with
     | some f=>kY fl pr P rec f (v::args) h κ
     | none=>match ve P t name with
      | some (f,off,_)=>fieldAddrB fl off v h fun a h=>load1 fl a h fun v h=>kY fl pr P rec f (v::args) h κ
      | none=>match vf P t name with
       | some (f,_)=>load1 fl v h fun v h=>kY fl pr P rec f (v::args) h κ
       | none=>fl
 | _=>fl
abbrev XF (β:Type):=T Value→Heap→(Value→Heap→β)→β
inductive XO (β:Type) where
 | mk (g:Option (Nat × Bool)) (d:Option Nat) (f:Rec β→XF β)
noncomputable def mz (P:Program) (c:Call):Rec β→XF β:=
 match c.callee with
 | .value (.func f)=>fun rec tm h κ=>Qk tm c.args.toList fun args=>kY fl pr P rec f args h κ
 | .value x=>fun rec tm h κ=>Qk tm c.args.toList fun args=>ev tm x fun fv=>zP fl pr P rec fv args h κ
 | .invoke r name=>fun rec tm h κ=>Qk tm c.args.toList fun args=>ev tm r fun r=>LC fl pr P rec name r args h κ
 | .builtin _=>fun _ _ _ _=>fl
noncomputable def oc (P:Program) (op:Op):Rec β→XF β:=
 match nI fl P op with
 | some i=>fun _ tm h κ=>i.run tm h κ
 | none=>match p_ fl P op with
  | some i=>fun _ tm h κ=>i.run tm fun o mk=>aq fl o h fun b h=>κ (mk b) h
  | none=>match zO fl P op with
   | some i=>fun _ tm h κ=>i.run tm h κ
   | none=>match op with
    | .call c=>mz fl pr P c
    | .next it false=>fun _ tm h κ=>ev tm it fun it=>p9 fl pr.both it h κ
    | _=>fun _ _ _ _=>fl
def guardOf (all:List Oper) (o:Oper):Option (Option (Nat × Bool)):=
 match o.guard with
 | none=>some none
 | some (j,w)=>match all[j]? with
   | some { dst:=some d,.. }=>some (some (d,w))
   | _=>none
inductive XFB (β:Type) where
 | mk (f:Rec β→XF β)
noncomputable def zQ (P:Program) (all:List Oper) (o:Oper):XO β:=
 match guardOf all o,XFB.mk (oc fl pr P o.op) with
 | some g,.mk f=>.mk g o.dst f
 | none,_=>.mk none none fun _ _ _ _=>fl
noncomputable def nS (tm:T Value) (d:Option Nat) (v:Value) (h:Heap) (κ:T Value→Heap→β):β:=
 Option.rec (motive:=fun _=>β) (κ tm h) (fun d=>T.set tm d v fun tm=>κ tm h) d
noncomputable def ij (tm:T Value) (g:Option (Nat × Bool)):Bool:=
 match g with
 | none=>true
 | some (s,w)=>match di tm s,w with
  | .bool true,true=>true
  | .bool false,false=>true
  | _,_=>false
noncomputable def nh (P:Program) (rec:Rec β) (all os:List Oper):T Value→Heap→(T Value→Heap→β)→β:=
 List.rec (motive:=fun _=>T Value→Heap→(T Value→Heap→β)→β) (fun tm h κ=>κ tm h)
  (fun o _ ih tm h κ=>XO.rec (motive:=fun _=>β)
   (fun g d f=>Bool.rec (motive:=fun _=>β) (nS tm d undef h fun tm h=>ih tm h κ)
    (f rec tm h fun v h=>nS tm d v h fun tm h=>ih tm h κ) (ij tm g))
   (zQ fl pr P all o)) os
noncomputable def zd (rec:Rec β) (b:Code) (κ:Ex→T Value→Heap→β) (e:Ex) (tm:T Value) (h:Heap):β:=
 match e with | .normal=>rec b tm h κ | e=>κ e tm h
noncomputable def oe (id:Nat) (κ:Ex→T Value→Heap→β) (e:Ex) (tm:T Value) (h:Heap):β:=
 match e with | .exit i=>(match Nat.beq i id with | true=>κ .normal tm h | false=>κ (.exit i) tm h) | e=>κ e tm h
noncomputable def vW (rec:Rec β) (a b:Code) (tm:T Value) (h:Heap) (κ:Ex→T Value→Heap→β) (v:Value):β:=
 match v with
   | .bool true=>rec a tm h κ
   | .bool false=>rec b tm h κ
   | _=>fl
end
abbrev KQ:=Value→Heap→Prop
end Go.Vai

namespace Go.Vai
section
variable {β:Type} (fl:β) (pr:ki β)
abbrev Tj:=XI (Option Value)
abbrev OXA:=XA (Option (bC × (Nat→Value)))
inductive Cls where
 | rd (x:Tj)
 | al (x:OXA)
 | wr
noncomputable def gz (P:Program) (op:Op):Cls:=
 match op with
 | .assign _=>.wr
 | op=>match nI (β:=Option Value) none P op with
  | some x=>.rd x
  | none=>match p_ (β:=Option (bC × (Nat→Value))) none P op with
   | some x=>.al x
   | none=>.wr
noncomputable def fu (P:Program) (o:Oper):Bool:=match gz P o.op with | .wr=>true | _=>false
def bit (m i:Nat):Bool:=Nat.testBit m i
def eP (m i:Nat):Nat:=Nat.lor m (Nat.pow 2 i)
def cg (o:Oper):List Nat:=(o.after.toList.filter fun e=>Region.binds .any e).map (·.on)
def og (D:Nat) (o:Oper):Bool:=(cg o).all fun e=>bit D e
abbrev It:=Nat × Oper
def eO (os:List Oper) (i:Nat):List It:=match os with
 | []=>[]
 | o::os=>(i,o)::eO os (Nat.succ i)
noncomputable def LD (P:Program):List It→Nat→(List Nat→List It→Nat→β)→β
 | [],D,κ=>κ [] [] D
 | (i,o)::r,D,κ=>match og D o && !fu P o with
  | true=>LD P r (eP D i) fun ex rem D=>κ (i::ex) rem D
  | false=>LD P r D fun ex rem D=>κ ex ((i,o)::rem) D
noncomputable def vX (P:Program) (D:Nat):List It→Option (Nat × List It)
 | []=>none
 | (i,o)::r=>match og D o with
  | true=>some (i,r)
  | false=>match vX P D r with | some (w,r)=>some (w,(i,o)::r) | none=>none
noncomputable def LF (P:Program):Nat→List It→Nat→Option (List Nat)
 | 0,_,_=>none
 | n+1,rem,D=>LD P rem D fun ex rem D=>match rem with
  | []=>some ex
  | _=>match vX P D rem with
   | none=>none
   | some (w,rem)=>match LF P n rem (eP D w) with
    | some l=>some (ex++w::l)
    | none=>none
noncomputable def Qm (P:Program) (os:List Oper):Option (List Nat):=LF P os.length (eO os 0) 0
def cB (os:List Oper) (o:Oper):List Nat:=
 (o.op.operands.toList.filterMap fun | .tmp t=>some t | _=>none)++
 (match o.guard with | some (g,_)=>((os[g]?).bind (·.dst)).toList | none=>[])
def LG (os:List Oper):Nat→Nat→Nat
 | 0,m=>m
 | i+1,m=>match bit m i,os[i]? with
  | true,some o=>LG os i ((cg o).foldl eP m)
  | _,_=>LG os i m
def qa (os:List Oper) (w:Nat):Nat:=match os[w]? with
 | some o=>LG os w ((cg o).foldl eP 0)
 | none=>0
def zS (o:Oper) (t:Nat):Bool:=match o.dst with | some d=>Nat.beq d t | none=>false
noncomputable def Qn (P:Program) (os:List Oper) (sL:List It) (D M i:Nat) (o:Oper):Bool:=
 !bit D i && og D o && (guardOf os o).isSome &&
 (sL.all fun (k,q)=>fu P q || !((cB os o).any (zS q)) || (cg o).contains k) &&
 match fu P o with
 | false=>sL.all fun (k,q)=>Nat.beq k i || fu P q || (match o.dst with | some d=>!zS q d | none=>true)
 | true=>
  (sL.all fun (k,q)=>Nat.beq k i || bit D k || !og D q) &&
  (sL.all fun (k,q)=>!bit D k || fu P q || bit M k || (match o.dst with | some d=>!zS q d && !((cB os q).any (Nat.beq d)) | none=>true))
noncomputable def lQ (P:Program) (os:List Oper):List Nat→Nat→Nat→Bool
 | [],D,_=>(eO os 0).all fun (k,_)=>bit D k
 | i::is,D,M=>match os[i]? with
  | none=>false
  | some o=>
   let M':=match fu P o with | true=>Nat.lor M (qa os i) | false=>M
   Qn P os (eO os 0) D M' i o && lQ P os is (eP D i) M'
noncomputable def jL (x:Tj) (tm:T Value) (h:Heap):Option Value:=x.run tm h fun v _=>some v
noncomputable def vY (x:OXA) (tm:T Value):Option (bC × (Nat→Value)):=x.run tm fun o mk=>some (o,mk)
noncomputable def ua (P:Program) (os:List Oper) (D M:Nat) (tm:T Value) (h:Heap):List It→Bool
 | []=>true
 | (k,q)::sL=>match bit D k && !bit M k,gz P q.op with
  | true,.rd x=>(match guardOf os q with
   | some g=>(match ij tm g with
    | true=>(match jL x tm h,q.dst with
     | some v,some d=>jX 8 v (di tm d)
     | some _,none=>true
     | none,_=>false)
    | false=>true)
   | none=>false) && ua P os D M tm h sL
  | _,_=>ua P os D M tm h sL
noncomputable def zT (P:Program) (D M:Nat) (sL:List It):Bool:=sL.any fun (k,q)=>bit D k && !bit M k && (match gz P q.op with | .rd _=>true | _=>false)
noncomputable def jh (P:Program) (rec:Rec β) (os:List Oper) (D M:Nat) (o:Oper) (tm:T Value) (h:Heap) (κ:T Value→Heap→β):β:=
 match guardOf os o with
 | none=>fl
 | some g=>match ij tm g with
  | false=>nS tm o.dst undef h κ
  | true=>match gz P o.op with
   | .rd x=>match jL x tm h with
    | some v=>nS tm o.dst v h κ
    | none=>fl
   | .al x=>match vY x tm with
    | some (b,mk)=>aq fl b h fun n h=>nS tm o.dst (mk n) h κ
    | none=>fl
   | .wr=>oc fl pr P o.op rec tm h fun v h=>nS tm o.dst v h fun tm h=>
     match zT P D M (eO os 0) with
     | false=>κ tm h
     | true=>match ua P os D M tm h (eO os 0) with
      | true=>κ tm h
      | false=>fl
noncomputable def iC (P:Program) (rec:Rec β) (os:List Oper):List Nat→Nat→Nat→T Value→Heap→(T Value→Heap→β)→β
 | [],_,_,tm,h,κ=>κ tm h
 | i::is,D,M,tm,h,κ=>match os[i]? with
  | none=>fl
  | some o=>
   let M':=match fu P o with | true=>Nat.lor M (qa os i) | false=>M
   jh fl pr P rec os D M' o tm h fun tm h=>iC P rec os is (eP D i) M' tm h κ
noncomputable def AQ (P:Program) (os:List Oper):Option (List Nat):=match Qm P os with
 | some l=>match lQ P os l 0 0 && (eO os 0).all fun (k,q)=>(cg q).all fun e=>Nat.ble (Nat.succ e) k with
  | true=>some l
  | false=>none
 | none=>none
noncomputable def jY (P:Program) (rec:Rec β) (os:List Oper) (draw:Bool) (tm:T Value) (h:Heap) (κ:T Value→Heap→β):β:=
 match draw with
 | false=>nh fl pr P rec os os tm h κ
 | true=>match AQ P os with
  | some l=>iC fl pr P rec os l 0 0 tm h κ
  | none=>fl
noncomputable def body (P:Program) (rec:Rec β) (c:Code) (tm:T Value) (h:Heap) (κ:Ex→T Value→Heap→β):β:=
  match c with
  | .skip=>κ .normal tm h
  | .label _=>κ .normal tm h
  | .region _ os draw=>jY fl pr P rec os.toList draw tm h fun tm h=>κ .normal tm h
  | .seq a b=>rec a tm h (zd rec b κ)
  | .cond c a b=>ev tm c (vW fl rec a b tm h κ)
  | .block id c=>rec c tm h (oe id κ)
  | .scope c=>rec c tm h κ
  | .loop c=>rec c tm h (zd rec (.loop c) κ)
  | .exit id=>κ (.exit id) tm h
  | .ret=>κ .ret tm h
  | .rangeFunc g ps a b=>ev tm g (gZ fl pr P rec ps.toList a b tm h κ)
  | _=>fl
noncomputable def run (P:Program) (n:Nat):Rec β:=
 Nat.rec (motive:=fun _=>Rec β) (fun _ _ _ _=>fl) (fun _ ih=>body fl pr P ih) n
end
end Go.Vai

namespace Go.Vai
theorem T.ri {α:Type} (p:List Bool):T.JD p (T.nil:T α)=none:=by
 cases p<;>rfl
theorem JF (f n:Nat):Qj (f+1) n=if n=0 then [] else Nat.beq (n % 2) 1::Qj f ((n-1) / 2):=by
 cases n with
 | zero=>rfl
 | succ n=>rw[if_neg (by omega)]; rfl
def zU:List Bool→Nat
 | []=>0
 | true::p=>2*zU p+1
 | false::p=>2*zU p+2
theorem vZ:∀(f n:Nat),n<2 ^ f→zU (Qj f n)=n:=by
 intro f
 induction f with
 | zero=>intro n h; have:n=0:=by simp at h; omega
         subst this; rfl
 | succ f ih=>
  intro n h
  rw[JF]
  by_cases h0:n=0
  ·simp[h0,zU]
  ·rw[if_neg h0]
   have h2:(n-1) / 2<2 ^ f:=by rw[Nat.pow_succ] at h; omega
   have:=ih _ h2
   by_cases h1:n % 2=1
   ·have hb:Nat.beq (n % 2) 1=true:=by rw[h1]; rfl
    rw[hb]; simp only[zU,this]; omega
   ·have hb:Nat.beq (n % 2) 1=false:=by
     have:n % 2=0:=by omega
     rw[this]; rfl
    rw[hb]; simp only[zU,this]; omega
def Small (n:Nat):Prop:=n<n+1
theorem key_inj {a b:Nat} (ha:Small a) (hb:Small b) (h:key a=key b):a=b:=by
 have h1:=vZ a a Nat.lt_two_pow_self
 have h2:=vZ b b Nat.lt_two_pow_self
 unfold key at h
 rw[←h1,←h2,h]
def T.ni {α:Type} (a:α):List Bool→T α→T α
 | [],.nil=>.node .nil (some a) .nil
 | [],.node l _ r=>.node l (some a) r
 | false::p,.nil=>.node (T.ni a p .nil) none .nil
 | true::p,.nil=>.node .nil none (T.ni a p .nil)
 | false::p,.node l v r=>.node (T.ni a p l) v r
 | true::p,.node l v r=>.node l v (T.ni a p r)
theorem T.Qo {α β:Type} (a:α) (p:List Bool):∀(t:T α) (κ:T α→β),T.aal a p t κ=κ (T.ni a p t):=by
 induction p with
 | nil=>intro t κ; cases t<;>rfl
 | cons b p ih=>
  intro t κ
  cases t<;>cases b<;>simp only[T.ni]<;>exact ih _ _
theorem T.v_ {α:Type} (a:α) (p:List Bool):∀t:T α,T.JD p (T.ni a p t)=some a:=by
 induction p with
 | nil=>intro t; cases t<;>rfl
 | cons b p ih=>intro t; cases t<;>cases b<;>exact ih _
theorem T.AR {α:Type} (a:α) (p:List Bool):∀(q:List Bool) (t:T α),p≠q→T.JD q (T.ni a p t)=T.JD q t:=by
 induction p with
 | nil=>
  intro q t h
  cases q with
  | nil=>exact absurd rfl h
  | cons c q=>cases t<;>cases c<;>first | rfl | exact T.ri q
 | cons b p ih=>
  intro q t h
  cases q with
  | nil=>cases t<;>cases b<;>rfl
  | cons c q=>
   have hpq:b=c→p≠q:=fun e e'=>h (by rw[e,e'])
   cases b<;>cases c<;>cases t<;>simp only[T.ni]<;>
    first
     | exact ih q _ (hpq rfl)
     | (refine (ih q T.nil (hpq rfl)).trans ?_; rw[T.ri]; rfl)
     | (show T.JD q T.nil=_; rw[T.ri]; rfl)
     | rfl
noncomputable def T.aT {α:Type} (t:T α) (n:Nat) (a:α):T α:=T.ni a (key n) t
theorem T.fC {α β:Type} (t:T α) (n:Nat) (a:α) (κ:T α→β):T.set t n a κ=κ (t.aT n a):=T.Qo _ _ _ _
theorem T.af {α:Type} (t:T α) (n:Nat) (a:α):(t.aT n a).get n=some a:=T.v_ _ _ _
theorem T.fS {α:Type} (t:T α) {n m:Nat} (a:α) (hn:Small n) (hm:Small m) (h:n≠m):(t.aT n a).get m=t.get m:=
 T.AR _ _ _ _ fun e=>h (key_inj hn hm e)
theorem T.kZ {α:Type} (t:T α) {n m:Nat} (a:α) (hn:Small n) (hm:Small m):(t.aT n a).get m=if n=m then some a else t.get m:=by
 by_cases h:n=m
 ·subst h; simp[T.af]
 ·simp[h,T.fS t a hn hm h]
theorem T.get_nil {α:Type} (n:Nat):(T.nil:T α).get n=none:=T.ri _
section
variable {β:Type}
@[simp] theorem bT (n:Nat) (κ:Nat→β):u9 n κ=κ n:=by cases n<;>rfl
@[simp] theorem fT (i:Int) (κ:Int→β):FP i κ=κ i:=by
 cases i with
 | ofNat n=>exact bT n fun n=>κ (.ofNat n)
 | negSucc n=>exact bT n fun n=>κ (.negSucc n)
@[simp] theorem bM (b:Bool) (κ:Bool→β):HH b κ=κ b:=by cases b<;>rfl
theorem fH (a b:Int):uP a b=decide (a<b):=by
 cases a<;>cases b<;>simp only[uP]
 ·rename_i a b
  rw[Bool.eq_iff_iff]; simp[Nat.ble_eq]; omega
 ·rename_i a b
  symm; simp; omega
 ·rename_i a b
  symm; simp; omega
 ·rename_i a b
  rw[Bool.eq_iff_iff]; simp[Nat.ble_eq]; omega
theorem fI (a b:Int):q8 a b=decide (a=b):=by
 cases a<;>cases b<;>simp only[q8]
 ·rename_i a b
  rw[Bool.eq_iff_iff]; simp[Nat.beq_eq]; omega
 ·symm; simp
 ·symm; simp
 ·rename_i a b
  rw[Bool.eq_iff_iff]; simp[Nat.beq_eq]
theorem fm (a b:IntKind):gI a b=decide (a=b):=by cases a<;>cases b<;>rfl
theorem dN (k:IntKind) (n:Int):mh k n=k.wrap n:=by
 cases k<;>cases n<;>simp only[mh]
 case i64.ofNat m=>
  split
  ·rename_i h; have h:=Nat.le_of_ble_eq_true h
   exact (IntWalk.i64_in _ ⟨by show _≤(m:Int); omega,by show (m:Int)≤_; omega⟩).symm
  ·rfl
 case i64.negSucc m=>
  split
  ·rename_i h; have h:=Nat.le_of_ble_eq_true h
   have e:Int.negSucc m = -((m:Int)+1):=by omega
   exact (IntWalk.i64_in _ ⟨by rw[e]; omega,by rw[e]; omega⟩).symm
  ·rfl
 case u8.ofNat m=>
  simp only[IntKind.wrap,IntKind.bits,IntKind.signed]; simp; rfl
 case u32.ofNat m=>
  simp only[IntKind.wrap,IntKind.bits,IntKind.signed]; simp; rfl
 case u64.ofNat m=>
  simp only[IntKind.wrap,IntKind.bits,IntKind.signed]; simp; rfl
theorem FT:∀a b:List UInt8,oW a b=decide (a=b):=by
 intro a
 induction a with
 | nil=>intro b; cases b<;>simp[oW]
 | cons x a ih=>
  intro b
  cases b with
  | nil=>simp[oW]
  | cons y b=>
   simp only[oW]
   cases h:Nat.beq x.toNat y.toNat
   ·have:x≠y:=fun e=>by subst e; simp[Nat.beq_refl] at h
    simp[this]
   ·have:x=y:=UInt8.toNat_inj.1 (Nat.eq_of_beq_eq_true h)
    simp[this,ih b]
theorem ji (a b:ByteArray):j9 a b=decide (a=b):=by
 unfold j9
 rw[FT]
 by_cases h:a=b
 ·simp[h]
 ·have:a.data.toList≠b.data.toList:=fun e=>h (by
   cases a; cases b; simp at e; simp[e])
  simp[h,this]
theorem fJ (tm:T Value) (x:Operand) (κ:Value→β):ev tm x κ=κ (eN tm x):=by
 cases x<;>simp only[ev,eN,di]
 split<;>simp_all
theorem qs (tm:T Value) (xs:List Operand) (κ:List Value→β):Qk tm xs κ=κ (xs.map (eN tm)):=by
 induction xs generalizing κ with
 | nil=>rfl
 | cons x xs ih=>simp only[Qk,fJ,ih,List.map_cons]
theorem XI.bZ (x f) (tm:T Value) (h:Heap) (κ:Value→Heap→β):(XI.k1 x f).run tm h κ=f (eN tm x) h κ:=fJ _ _ _
theorem XI.cU (x y f) (tm:T Value) (h:Heap) (κ:Value→Heap→β):(XI.k2 x y f).run tm h κ=f (eN tm x) (eN tm y) h κ:=by
 show ev _ _ _=_; simp only[fJ]
theorem XI.qt (x y z f) (tm:T Value) (h:Heap) (κ:Value→Heap→β):(XI.k3 x y z f).run tm h κ=f (eN tm x) (eN tm y) (eN tm z) h κ:=by
 show ev _ _ _=_; simp only[fJ]
theorem XI.gJ (xs f) (tm:T Value) (h:Heap) (κ:Value→Heap→β):(XI.kn xs f).run tm h κ=f (xs.map (eN tm)) h κ:=qs _ _ _
theorem XA.LH (f) (tm:T Value) (κ:bC→(Nat→Value)→β):(XA.k0 f).run tm κ=f κ:=rfl
theorem XA.bZ (x f) (tm:T Value) (κ:bC→(Nat→Value)→β):(XA.k1 x f).run tm κ=f (eN tm x) κ:=fJ _ _ _
theorem XA.cU (x y f) (tm:T Value) (κ:bC→(Nat→Value)→β):(XA.k2 x y f).run tm κ=f (eN tm x) (eN tm y) κ:=by
 show ev _ _ _=_; simp only[fJ]
theorem XA.gJ (xs f) (tm:T Value) (κ:bC→(Nat→Value)→β):(XA.kn xs f).run tm κ=f (xs.map (eN tm)) κ:=qs _ _ _
end
structure Pl where
 B:Nat
 sz:Nat
 e:Nat
abbrev dG:=Nat→Option Pl
inductive VR (φ:dG):Value→Value→Prop where
 | bool (b:Bool):VR φ (.bool b) (.bool b)
 | int (k:IntKind) (n:Int):VR φ (.int k n) (.int k n)
 | string (s:ByteArray):VR φ (.string s) (.string s)
 | nilFunc:VR φ .nilFunc .nilFunc
 | nilIface:VR φ .nilIface .nilIface
 | wg:VR φ (.pointer none) (.pointer none)
 | ptr {b o:Nat} {pl:Pl} (h:φ b=some pl):VR φ (.pointer (some ⟨b,o,none⟩)) (.pointer (some ⟨pl.B,o,none⟩))
 | eT {n c:Nat} (h:n≤c):VR φ (.slice none n c) (.slice none n c)
 | slice {b o n c:Nat} {pl:Pl} (h:φ b=some pl) (hn:n≤c) (hc:c<aM):VR φ (.slice (some ⟨b,o,none⟩) n c) (.slice (some ⟨pl.B,o,none⟩) n c)
 | bJ {b o n c:Nat} {pl:Pl} (h:φ b=some pl) (hn:n≤c) (hc:c*pl.e+o=pl.sz) :
   VR φ (.slice (some ⟨b,o,none⟩) n aM) (.slice (some ⟨pl.B,o,none⟩) n c)
 | cz (a a':Addr) (c:Nat):VR φ (.slice (some a) 0 fq) (.slice (some a') 0 c)
 | wj:VR φ (.map none) (.map none)
 | map {b:Nat} {pl:Pl} (h:φ b=some pl):VR φ (.map (some b)) (.map (some pl.B))
 | yield {b:Nat} {pl:Pl} (h:φ b=some pl):VR φ (.func (.yield b) #[] #[]) (.func (.yield pl.B) #[] #[])
 | func (fn:FuncId) (a a' b b':Array Value) (ha:a.toList.length=a'.toList.length) (hb:b.toList.length=b'.toList.length)
   (vj:∀(i:Nat) (v v':Value),a.toList[i]? = some v→a'.toList[i]? = some v'→VR φ v v')
   (hvb:∀(i:Nat) (v v':Value),b.toList[i]? = some v→b'.toList[i]? = some v'→VR φ v v'):VR φ (.func (.func fn) a b) (.func (.func fn) a' b')
 | iface (t:TypeId) {v v':Value} (h:VR φ v v'):VR φ (.iface t v) (.iface t v')
 | agg (a a':Array Value) (ha:a.toList.length=a'.toList.length)
   (vj:∀(i:Nat) (v v':Value),a.toList[i]? = some v→a'.toList[i]? = some v'→VR φ v v'):VR φ (.agg a) (.agg a')
 | tuple (a a':Array Value) (ha:a.toList.length=a'.toList.length)
   (vj:∀(i:Nat) (v v':Value),a.toList[i]? = some v→a'.toList[i]? = some v'→VR φ v v'):VR φ (.tuple a) (.tuple a')
inductive F2 {α γ:Type} (R:α→γ→Prop):List α→List γ→Prop where
 | nil:F2 R [] []
 | cons {a:α} {b:γ} {l:List α} {m:List γ} (h:R a b) (t:F2 R l m):F2 R (a::l) (b::m)
theorem F2.length {α γ:Type} {R:α→γ→Prop} {l:List α} {m:List γ} (h:F2 R l m):l.length=m.length:=by
 induction h with
 | nil=>rfl
 | cons _ _ ih=>simp[ih]
theorem F2.get {α γ:Type} {R:α→γ→Prop} {l:List α} {m:List γ} (h:F2 R l m):∀(i:Nat) (a:α),l[i]? = some a→∃b,m[i]? = some b∧R a b:=by
 induction h with
 | nil=>intro i a e; simp at e
 | cons hr _ ih=>
  intro i a e
  cases i with
  | zero=>simp at e; subst e; exact ⟨_,by simp,hr⟩
  | succ i=>simp at e; obtain ⟨b,hb,hr'⟩:=ih i a e; exact ⟨b,by simpa using hb,hr'⟩
theorem F2.kj {α γ:Type} {R:α→γ→Prop}:∀{l:List α} {m:List γ},l.length=m.length→
  (∀(i:Nat) (a:α) (b:γ),l[i]? = some a→m[i]? = some b→R a b)→F2 R l m:=by
 intro l
 induction l with
 | nil=>intro m h _; cases m with | nil=>exact .nil | cons _ _=>simp at h
 | cons a l ih=>
  intro m h hr
  cases m with
  | nil=>simp at h
  | cons b m=>exact .cons (hr 0 a b (by simp) (by simp)) (ih (by simpa using h) fun i x y hx hy=>hr (i+1) x y (by simpa using hx) (by simpa using hy))
theorem F2.imp {α γ:Type} {R S:α→γ→Prop} {l:List α} {m:List γ} (h:F2 R l m) (k:∀a b,R a b→S a b):F2 S l m:=by
 induction h with
 | nil=>exact .nil
 | cons hr _ ih=>exact .cons (k _ _ hr) ih
theorem F2.append {α γ:Type} {R:α→γ→Prop} {l l':List α} {m m':List γ} (h:F2 R l m) (h':F2 R l' m'):F2 R (l++l') (m++m'):=by
 induction h with
 | nil=>exact h'
 | cons hr _ ih=>exact .cons hr ih
theorem F2.take {α γ:Type} {R:α→γ→Prop} {l:List α} {m:List γ} (h:F2 R l m) (n:Nat):F2 R (l.take n) (m.take n):=by
 induction h generalizing n with
 | nil=>simp; exact .nil
 | cons hr _ ih=>cases n with | zero=>exact .nil | succ n=>exact .cons hr (ih n)
theorem F2.drop {α γ:Type} {R:α→γ→Prop} {l:List α} {m:List γ} (h:F2 R l m) (n:Nat):F2 R (l.drop n) (m.drop n):=by
 induction h generalizing n with
 | nil=>simp; exact .nil
 | cons hr ht ih=>cases n with | zero=>exact .cons hr ht | succ n=>exact ih n
theorem F2.map {α γ δ:Type} {R:α→γ→Prop} {f:δ→α} {g:δ→γ} (l:List δ) (h:∀x∈l,R (f x) (g x)):F2 R (l.map f) (l.map g):=by
 induction l with
 | nil=>exact .nil
 | cons x l ih=>exact .cons (h x (by simp)) (ih fun y hy=>h y (by simp[hy]))
theorem VR.qu {φ:dG} {a a':Array Value} (h:F2 (VR φ) a.toList a'.toList):VR φ (.agg a) (.agg a'):=
 .agg a a' h.length fun i v v' e e'=>by obtain ⟨b,hb,hr⟩:=h.get i v e; rw[hb] at e'; cases e'; exact hr
theorem VR.tuple' {φ:dG} {a a':Array Value} (h:F2 (VR φ) a.toList a'.toList):VR φ (.tuple a) (.tuple a'):=
 .tuple a a' h.length fun i v v' e e'=>by obtain ⟨b,hb,hr⟩:=h.get i v e; rw[hb] at e'; cases e'; exact hr
theorem VR.func' {φ:dG} {fn:FuncId} {a a' b b':Array Value} (h:F2 (VR φ) a.toList a'.toList) (k:F2 (VR φ) b.toList b'.toList):VR φ (.func (.func fn) a b) (.func (.func fn) a' b'):=
 .func fn a a' b b' h.length k.length (fun i v v' e e'=>by obtain ⟨b,hb,hr⟩:=h.get i v e; rw[hb] at e'; cases e'; exact hr)
  (fun i v v' e e'=>by obtain ⟨b,hb,hr⟩:=k.get i v e; rw[hb] at e'; cases e'; exact hr)
theorem VR.undef {φ:dG}:VR φ undef undef:=VR.tuple' .nil
def Sub (φ φ':dG):Prop:=∀b pl,φ b=some pl→φ' b=some pl
theorem Sub.refl (φ:dG):Sub φ φ:=fun _ _ h=>h
theorem Sub.trans {φ φ' φ'':dG} (h:Sub φ φ') (k:Sub φ' φ''):Sub φ φ'':=fun b pl e=>k b pl (h b pl e)
theorem VR.mono {φ φ':dG} (hs:Sub φ φ') {v v':Value} (h:VR φ v v'):VR φ' v v':=by
 induction h with
 | bool b=>exact .bool b
 | int k n=>exact .int k n
 | string s=>exact .string s
 | nilFunc=>exact .nilFunc
 | nilIface=>exact .nilIface
 | wg=>exact .wg
 | ptr h=>exact .ptr (hs _ _ h)
 | eT h=>exact .eT h
 | slice h hn hc=>exact .slice (hs _ _ h) hn hc
 | bJ h hn hc=>exact .bJ (hs _ _ h) hn hc
 | cz a a' c=>exact .cz a a' c
 | wj=>exact .wj
 | map h=>exact .map (hs _ _ h)
 | yield h=>exact .yield (hs _ _ h)
 | func fn a a' b b' ha hb _ _ iha ihb=>exact .func fn a a' b b' ha hb iha ihb
 | iface t _ ih=>exact .iface t ih
 | agg a a' ha _ ih=>exact .agg a a' ha ih
 | tuple a a' ha _ ih=>exact .tuple a a' ha ih
structure ER (φ:dG) (x x':MapEntry):Prop where
 key:VR φ x.key x'.key
 val:VR φ x.val x'.val
 born:x'.born=x.born
def zV:Option Ex→Option Code→Prop
 | none,none=>True
 | some .ret,some .ret=>True
 | some (.exit i),some (.exit j)=>i=j
 | _,_=>False
structure Cd (nt:Nat) (ps:List Nat) (a b:Code):Prop where
 small:nt≤1000000000000
 ps:ps.all (fun t=>Nat.ble (Nat.succ t) nt)=true
 ca:codeOk nt a=true
 cb:codeOk nt b=true
 ra:n_ a=true
 rb:n_ b=true
def OR (P:Program) (φ:dG):bC→Pl→Option Obj→Prop
 | .cells n c e op,pl,some (.cells C e' fz)=>e'=e∧fz=(0,0)∧n≤C.size∧n≤4611686018427387904∧(op=true→C.size=pl.sz∧er P e=some pl.e∧0<pl.e)∧
   ∀i v,c.get i=some v→i<n→∃v',C[i]? = some v'∧VR φ v v'
 | .map es clock,_,some (.map es' clock')=>clock'=clock∧F2 (ER φ) es es'.toList
 | .dM m since seen stepped,_,some (.mapIter m' since' seen' stepped')=>since'=since∧stepped'=stepped∧seen'.toList=seen.reverse∧
   ((m=none∧m'=none)∨∃b kS,m=some b∧φ b=some kS∧m'=some kS.B)
 | .loop st j8 tm ps a b,_,some (.loop r)=>r.state=st∧zV j8 r.pending∧r.params.toList=ps∧r.assign=a∧r.body=b∧
   ∃nt,Cd nt ps a b∧r.tmps.size=nt∧∀t,t<nt→VR φ (di tm t) (r.tmps.getD t undef)
 | .ro n c e,_,some (.cells C e' _)=>e'=e∧n≤C.size∧∀i v,c.get i=some v→i<n→∃v',C[i]? = some v'∧VR φ v v'
 | .dead n e,pl,_=>n≤pl.sz∧n≤4611686018427387904∧er P e=some pl.e∧0<pl.e
 | _,_,_=>False
def bC.live:bC→Prop
 | .dead ..=>False
 | _=>True
theorem OR.mono {P:Program} {φ φ':dG} (hs:Sub φ φ') {o:bC} {pl:Pl} {O:Option Obj} (h:OR P φ o pl O):OR P φ' o pl O:=by
 cases o with
 | cells n c e op=>
  cases O with
  | none=>exact h
  | some O=>cases O<;>simp only[OR] at h ⊢
            exact ⟨h.1,h.2.1,h.2.2.1,h.2.2.2.1,h.2.2.2.2.1,fun i v e hi=>let ⟨v',a,b⟩:=h.2.2.2.2.2 i v e hi; ⟨v',a,b.mono hs⟩⟩
 | map es clock=>
  cases O with
  | none=>exact h
  | some O=>cases O<;>simp only[OR] at h ⊢
            exact ⟨h.1,h.2.imp fun a b r=>⟨r.key.mono hs,r.val.mono hs,r.born⟩⟩
 | dM m since seen stepped=>
  cases O with
  | none=>exact h
  | some O=>cases O<;>simp only[OR] at h ⊢
            exact ⟨h.1,h.2.1,h.2.2.1,h.2.2.2.imp id fun ⟨b,kS,x,y,z⟩=>⟨b,kS,x,hs _ _ y,z⟩⟩
 | Ti s pos=>cases O with
  | none=>exact h
  | some O=>cases O<;>exact h
 | dead n e=>cases O with
  | none=>exact h
  | some O=>cases O<;>exact h
 | ro n c e=>
  cases O with
  | none=>exact h
  | some O=>cases O<;>simp only[OR] at h ⊢
            exact ⟨h.1,h.2.1,fun i v e hi=>let ⟨v',a,b⟩:=h.2.2 i v e hi; ⟨v',a,b.mono hs⟩⟩
 | loop st j8 tm ps a b=>
  cases O with
  | none=>exact h
  | some O=>cases O<;>simp only[OR] at h ⊢
            obtain ⟨h1,h2,h3,h4,h5,nt,h6,h7,h8⟩:=h
            exact ⟨h1,h2,h3,h4,h5,nt,h6,h7,fun t ht=>(h8 t ht).mono hs⟩
def UF (_:Option Obj):Prop:=True
theorem rj {P:Program} {φ:dG} {o:bC} {pl:Pl} {O:Option Obj} (_h:OR P φ o pl O) (_hl:o.live):UF O:=trivial
structure HR (P:Program) (φ:dG) (h:Heap) (w:World):Prop where
 obj:∀b o pl,h.bl.get b=some o→φ b=some pl→OR P φ o pl w.heap[pl.B]?
 dom:∀b pl,φ b=some pl→b<h.nx∧pl.B<w.heap.size
 keys:∀b o,Small b→h.bl.get b=some o→b<h.nx
 LI:h.nx<h.nx+1
 inj:∀b b' o o' pl kS,h.bl.get b=some o→h.bl.get b'=some o'→o.live→o'.live→φ b=some pl→φ b'=some kS→pl.B=kS.B→b=b'
 lo:h.lo≤h.nx
structure Ext (φ φ':dG) (h h':Heap) (w w':World):Prop where
 sub:Sub φ φ'
 new:∀b pl,φ b=none→φ' b=some pl→h.nx≤b∧(w.heap.size≤pl.B∨∃b0 UN,φ b0=some UN∧UN.B=pl.B)
 nx:h.nx≤h'.nx
 size:w.heap.size≤w'.heap.size
 ze:∀B,B<w.heap.size→(∀b pl,φ b=some pl→pl.B≠B)→w'.heap[B]? = w.heap[B]?
 B1:∀b,b<h.nx→φ b=none→h'.bl.get b=h.bl.get b
 tape:w'.tape=w.tape
 os:w'.os=w.os
 output:w'.output=w.output
 fz:∀B:Nat,UF w.heap[B]?→UF w'.heap[B]?
 lo:h'.lo=h.lo
 FH:∀b,b<h.lo→h'.bl.get b=h.bl.get b
 FI:∀(b:Nat) (o:bC) (pl:Pl),b<h.lo→h.bl.get b=some o→o.live→φ b=some pl→pl.B<w.heap.size→w'.heap[pl.B]? = w.heap[pl.B]?
 dr:w.drawn≤w'.drawn
theorem Ext.refl (φ:dG) (h:Heap) (w:World):Ext φ φ h h w w:=
 ⟨Sub.refl φ,fun b pl a b'=>(by rw[a] at b'; cases b'),Nat.le_refl _,Nat.le_refl _,fun _ _ _=>rfl,fun _ _ _=>rfl,rfl,rfl,rfl,fun _=>id,rfl,fun _ _=>rfl,fun _ _ _ _ _ _ _ _=>rfl,Nat.le_refl _⟩
theorem Ext.trans {φ φ' φ'':dG} {h h' h'':Heap} {w w' w'':World} (a:Ext φ φ' h h' w w') (b:Ext φ' φ'' h' h'' w' w'') :
  Ext φ φ'' h h'' w w'' where
 sub:=a.sub.trans b.sub
 new:=fun x pl e e''=>by
  cases hx:φ' x with
  | some kS=>
   have:=b.sub x kS hx
   rw[e''] at this
   cases this
   exact a.new x pl e hx
  | none=>
   obtain ⟨h1,h2⟩:=b.new x pl hx e''
   refine ⟨Nat.le_trans a.nx h1,?_⟩
   rcases h2 with h2 | ⟨b0,UN,hb0,hB⟩
   ·exact .inl (Nat.le_trans a.size h2)
   ·cases h0:φ b0 with
    | some p=>
     have:=a.sub b0 p h0
     rw[hb0] at this
     cases this
     exact .inr ⟨b0,UN,h0,hB⟩
    | none=>
     obtain ⟨_,h3⟩:=a.new b0 UN h0 hb0
     rw[hB] at h3
     exact h3
 nx:=Nat.le_trans a.nx b.nx
 size:=Nat.le_trans a.size b.size
 ze:=fun B hB hn=>by
  rw[b.ze B (Nat.lt_of_lt_of_le hB a.size) ?_,a.ze B hB hn]
  intro x pl hx e
  cases h0:φ x with
  | some p=>
   have:=a.sub x p h0
   rw[hx] at this
   cases this
   exact hn x pl h0 e
  | none=>
   obtain ⟨_,h3⟩:=a.new x pl h0 hx
   rcases h3 with h3 | ⟨b0,UN,hb0,hB0⟩
   ·omega
   ·exact hn b0 UN hb0 (hB0.trans e)
 B1:=fun x hx hn=>by
  have h1:φ' x=none:=by
   cases h1:φ' x with
   | none=>rfl
   | some pl=>have:=(a.new x pl hn h1).1; omega
  rw[b.B1 x (Nat.lt_of_lt_of_le hx a.nx) h1,a.B1 x hx hn]
 tape:=b.tape.trans a.tape
 os:=b.os.trans a.os
 output:=b.output.trans a.output
 fz:=fun B h=>b.fz B (a.fz B h)
 lo:=b.lo.trans a.lo
 FH:=fun x hx=>(b.FH x (by rw[a.lo]; exact hx)).trans (a.FH x hx)
 FI:=fun x o pl hx ho hl hp hs=>(b.FI x o pl (by rw[a.lo]; exact hx) ((a.FH x hx).trans ho) hl (a.sub x pl hp) (Nat.lt_of_lt_of_le hs a.size)).trans (a.FI x o pl hx ho hl hp hs)
 dr:=Nat.le_trans a.dr b.dr
end Go.Vai

namespace Go.Vai
open Go
section runs
variable {P:Program} {w:World} {t:TypeId}
theorem aO {d:TypeDesc} (h:P.underlying t=some d):(underlying t).run P w=.ok d w:=run_underlying h w
theorem om {i:TypeInfo} (h:P.info? t=some i):(typeInfo t).run P w=.ok i w:=by simp[typeInfo,h]
theorem b_ {s:Nat} (h:er P t=some s):(sizeOf t).run P w=.ok s w:=by
 unfold er at h
 cases hi:P.info? t with
 | none=>rw[hi] at h; simp at h
 | some i=>rw[hi] at h; simp at h; simp[sizeOf,om hi,h]
theorem oZ {b:Bool} (h:mo P t=some b):(isAgg t).run P w=.ok b w:=by
 unfold mo at h
 cases hu:P.underlying t with
 | none=>rw[hu] at h; simp at h
 | some d=>rw[hu] at h; cases d<;>simp at h<;>subst h<;>simp[isAgg,aO hu]
theorem gr {z:List Value} (h:zeroOf P t=some z):∃v i,P.info? t=some i∧i.zero=some v∧z=v.cells.toList∧z.all fF=true:=by
 unfold zeroOf at h
 cases hi:P.info? t with
 | none=>rw[hi] at h; simp at h
 | some i=>
  rw[hi] at h
  cases hz:i.zero with
  | none=>simp[hz] at h
  | some v=>
   simp only[Option.bind_some,hz] at h
   split at h
   ·rename_i hb; cases h; exact ⟨v,i,rfl,hz,rfl,hb⟩
   ·cases h
theorem gQ {v:Value} {i:TypeInfo} (hi:P.info? t=some i) (hz:i.zero=some v):(zeroValue t).run P w=.ok v w:=by
 simp[zeroValue,om hi,hz]
end runs
variable {β:Type} {fl:β} {good:β→Prop} {P:Program} {φ:dG} {h:Heap} {w:World} {t:TypeId}
theorem HR.cell (hr:HR P φ h w) {b n e o:Nat} {c:T Value} {op:Bool} {pl:Pl} {v:Value} (hb:h.bl.get b=some (.cells n c e op)) (hp:φ b=some pl)
  (ho:o<n) (hc:c.get o=some v):∃v',w.cell? ⟨pl.B,o,none⟩=some v'∧VR φ v v':=by
 have:=hr.obj b _ pl hb hp
 cases hO:w.heap[pl.B]? with
 | none=>rw[hO] at this; exact this.elim
 | some O=>
  rw[hO] at this
  cases O<;>simp only[OR] at this<;>try exact this.elim
  obtain ⟨_,_,_,_,_,hh⟩:=this
  obtain ⟨v',ud,hvr⟩:=hh o v hc ho
  exact ⟨v',by simp[World.cell?,hO,ud],hvr⟩
theorem HR.LJ (hr:HR P φ h w) {b n e o:Nat} {c:T Value} {pl:Pl} {v:Value} (hb:h.bl.get b=some (.ro n c e)) (hp:φ b=some pl)
  (ho:o<n) (hc:c.get o=some v):∃v',w.cell? ⟨pl.B,o,none⟩=some v'∧VR φ v v':=by
 have:=hr.obj b _ pl hb hp
 cases hO:w.heap[pl.B]? with
 | none=>rw[hO] at this; exact this.elim
 | some O=>
  rw[hO] at this
  cases O<;>simp only[OR] at this<;>try exact this.elim
  obtain ⟨_,_,hh⟩:=this
  obtain ⟨v',ud,hvr⟩:=hh o v hc ho
  exact ⟨v',by simp[World.cell?,hO,ud],hvr⟩
theorem ck {a b:Nat} (h:Nat.ble a b=true):a≤b:=Nat.le_of_ble_eq_true h
theorem Tk {a b:Nat} (h:Nat.ble a b=false):b<a:=by
 rcases Nat.lt_or_ge b a with h' | h'
 ·exact h'
 ·rw[Nat.ble_eq_true_of_le h'] at h; cases h
theorem bY {a b:Nat} (h:Nat.beq a b=true):a=b:=Nat.eq_of_beq_eq_true h
theorem mA {a b:Nat} (h:Nat.beq a b=false):a≠b:=Nat.ne_of_beq_eq_false h
theorem ko (hfl:¬good fl) (c:T Value) (off:Nat):∀(n:Nat) (acc:List Value) (κ:List Value→β),good (j_ fl c off n acc κ)→
  ∃l,good (κ (l++acc))∧l.length=n∧∀j v,l[j]? = some v→c.get (off+j)=some v:=by
 intro n
 induction n with
 | zero=>intro acc κ hg; exact ⟨[],hg,rfl,fun j v e=>by simp at e⟩
 | succ n ih=>
  intro acc κ hg
  have hg':good (Option.rec (motive:=fun _=>β) fl (fun v=>j_ fl c off n (v::acc) κ) (c.get (Nat.add off n))):=hg
  cases hv:c.get (Nat.add off n) with
  | none=>rw[hv] at hg'; exact absurd hg' hfl
  | some v=>
   rw[hv] at hg'
   obtain ⟨l,h1,h2,h3⟩:=ih (v::acc) κ hg'
   refine ⟨l++[v],by simpa using h1,by simp[h2],fun j u e=>?_⟩
   rcases Nat.lt_or_ge j n with hj | hj
   ·rw[List.getElem?_append_left (by omega)] at e; exact h3 j u e
   ·rw[List.getElem?_append_right (by omega),h2] at e
    rcases Nat.eq_or_lt_of_le hj with hj' | hj'
    ·subst hj'; simp at e; subst e; exact hv
    ·rw[show j-n=(j-n-1)+1 by omega] at e; simp at e
theorem HR.HI (hr:HR P φ h w) {b n e off:Nat} {c:T Value} {op:Bool} {pl:Pl} {l:List Value} (hb:h.bl.get b=some (.cells n c e op)) (hp:φ b=some pl)
  (ho:off+l.length≤n) (hc:∀j v,l[j]? = some v→c.get (off+j)=some v) :
  ∃l',F2 (VR φ) l l'∧∀w1:World,w1.heap=w.heap→(loadCells ⟨pl.B,off,none⟩ l.length).run P w1=.ok l'.toArray w1:=by
 have key:∀(l:List Value) (off:Nat),off+l.length≤n→(∀j v,l[j]? = some v→c.get (off+j)=some v)→
   ∃l',F2 (VR φ) l l'∧∀j v,l'[j]? = some v→w.cell? ⟨pl.B,off+j,none⟩=some v:=by
  intro l
  induction l with
  | nil=>intro off _ _; exact ⟨[],.nil,fun j v e=>by simp at e⟩
  | cons x l ih=>
   intro off ho hc
   simp at ho
   obtain ⟨v',h1,h2⟩:=hr.cell hb hp (o:=off) (by omega) (by simpa using hc 0 x (by simp))
   obtain ⟨l',h3,h4⟩:=ih (off+1) (by omega) fun j v e=>by
    have:=hc (j+1) v (by simpa using e); rwa [show off+(j+1)=off+1+j by omega] at this
   refine ⟨v'::l',.cons h2 h3,fun j v e=>?_⟩
   cases j with
   | zero=>simp at e; subst e; simpa using h1
   | succ j=>simp at e; have:=h4 j v e; rwa [show off+1+j=off+(j+1) by omega] at this
 obtain ⟨l',h1,h2⟩:=key l off ho hc
 refine ⟨l',h1,fun w1 hw1=>?_⟩
 rw[h1.length]
 refine run_loadCells_list w1 _ l' fun j v e=>?_
 have:=h2 j v e
 have ha:(⟨pl.B,off,none⟩:Addr).add j=⟨pl.B,off+j,none⟩:=by unfold Addr.add; split<;>simp_all
 rw[ha]
 unfold World.cell? at this ⊢
 rw[hw1]; exact this
theorem HR.HJ (hr:HR P φ h w) {b n e off:Nat} {c:T Value} {pl:Pl} {l:List Value} (hb:h.bl.get b=some (.ro n c e)) (hp:φ b=some pl)
  (ho:off+l.length≤n) (hc:∀j v,l[j]? = some v→c.get (off+j)=some v) :
  ∃l',F2 (VR φ) l l'∧∀w1:World,w1.heap=w.heap→(loadCells ⟨pl.B,off,none⟩ l.length).run P w1=.ok l'.toArray w1:=by
 have key:∀(l:List Value) (off:Nat),off+l.length≤n→(∀j v,l[j]? = some v→c.get (off+j)=some v)→
   ∃l',F2 (VR φ) l l'∧∀j v,l'[j]? = some v→w.cell? ⟨pl.B,off+j,none⟩=some v:=by
  intro l
  induction l with
  | nil=>intro off _ _; exact ⟨[],.nil,fun j v e=>by simp at e⟩
  | cons x l ih=>
   intro off ho hc
   simp at ho
   obtain ⟨v',h1,h2⟩:=hr.LJ hb hp (o:=off) (by omega) (by simpa using hc 0 x (by simp))
   obtain ⟨l',h3,h4⟩:=ih (off+1) (by omega) fun j v e=>by
    have:=hc (j+1) v (by simpa using e); rwa [show off+(j+1)=off+1+j by omega] at this
   refine ⟨v'::l',.cons h2 h3,fun j v e=>?_⟩
   cases j with
   | zero=>simp at e; subst e; simpa using h1
   | succ j=>simp at e; have:=h4 j v e; rwa [show off+1+j=off+(j+1) by omega] at this
 obtain ⟨l',h1,h2⟩:=key l off ho hc
 refine ⟨l',h1,fun w1 hw1=>?_⟩
 rw[h1.length]
 refine run_loadCells_list w1 _ l' fun j v e=>?_
 have:=h2 j v e
 have ha:(⟨pl.B,off,none⟩:Addr).add j=⟨pl.B,off+j,none⟩:=by unfold Addr.add; split<;>simp_all
 rw[ha]
 unfold World.cell? at this ⊢
 rw[hw1]; exact this
theorem k9 (hfl:¬good fl) (ht:mo P t=some false) {a a':Value} {κ:Value→Heap→β} (hg:good (load1 fl a h κ)) (hv:VR φ a a') (hr:HR P φ h w) :
  ∃v v',good (κ v h)∧VR φ v v'∧(Instr.loadAt t a').run P w=.ok v' w:=by
 unfold load1 at hg
 split at hg<;>try exact absurd hg hfl
 cases hv with
 | ptr hp=>
  split at hg<;>try exact absurd hg hfl
  ·rename_i hb
   split at hg<;>try exact absurd hg hfl
   rename_i v hle hc
   obtain ⟨v',h1,h2⟩:=hr.cell hb hp (ck hle) hc
   refine ⟨v,v',hg,h2,?_⟩
   simp[Instr.loadAt,Instr.sureAddr,loadVar,oZ ht,h1]
  ·rename_i hb
   split at hg<;>try exact absurd hg hfl
   rename_i v hle hc
   obtain ⟨v',h1,h2⟩:=hr.LJ hb hp (ck hle) hc
   refine ⟨v,v',hg,h2,?_⟩
   simp[Instr.loadAt,Instr.sureAddr,loadVar,oZ ht,h1]
theorem ue (hfl:¬good fl) (ht:mo P t=some true) {s:Nat} (hs:er P t=some s) {a a':Value} {κ:Value→Heap→β} (hg:good (ay fl s a h κ)) (hv:VR φ a a') (hr:HR P φ h w) :
  ∃v v',good (κ v h)∧VR φ v v'∧(Instr.loadAt t a').run P w=.ok v' w:=by
 unfold ay at hg
 split at hg<;>try exact absurd hg hfl
 cases hv with
 | ptr hp=>
  split at hg<;>try exact absurd hg hfl
  ·rename_i hb
   split at hg<;>try exact absurd hg hfl
   rename_i hle
   obtain ⟨l,h1,h2,h3⟩:=ko hfl _ _ _ _ _ hg
   simp only[List.append_nil] at h1
   obtain ⟨l',h4,h5⟩:=hr.HI hb hp (by rw[h2]; exact ck hle) h3
   refine ⟨_,.agg l'.toArray,h1,VR.qu (by simpa using h4),?_⟩
   have h5:=h5 w rfl
   rw[h2] at h5
   simp[Instr.loadAt,Instr.sureAddr,loadVar,oZ ht,b_ hs,h5]
  ·rename_i hb
   split at hg<;>try exact absurd hg hfl
   rename_i hle
   obtain ⟨l,h1,h2,h3⟩:=ko hfl _ _ _ _ _ hg
   simp only[List.append_nil] at h1
   obtain ⟨l',h4,h5⟩:=hr.HJ hb hp (by rw[h2]; exact ck hle) h3
   refine ⟨_,.agg l'.toArray,h1,VR.qu (by simpa using h4),?_⟩
   have h5:=h5 w rfl
   rw[h2] at h5
   simp[Instr.loadAt,Instr.sureAddr,loadVar,oZ ht,b_ hs,h5]
theorem Ce (hfl:¬good fl) {c c' a a' b b':Value} {κ:Value→Heap→β} (hg:good (aX fl c a b h κ)) (hc:VR φ c c') (ha:VR φ a a') (hb:VR φ b b') :
  ∃v v',good (κ v h)∧VR φ v v'∧((do pure (Next.value (if ←asBool c' then a' else b')):Sem Next)).run P w=.ok (.value v') w:=by
 unfold aX at hg
 split at hg<;>try exact absurd hg hfl
 ·cases hc; exact ⟨a,a',hg,ha,by simp[asBool]⟩
 ·cases hc; exact ⟨b,b',hg,hb,by simp[asBool]⟩
theorem FU (hfl:¬good fl) {a a':Value} {κ:Value→Heap→β} (hg:good (aJ fl a h κ)) (ha:VR φ a a') (o:Oper) (ρ:Operand→Value) (x:Operand) (ho:o.op=.nilCheck x) (hx:ρ x=a') :
  ∃v v',good (κ v h)∧VR φ v v'∧(execOp ρ o).run P w=.ok (.value v') w:=by
 unfold aJ at hg
 split at hg<;>try exact absurd hg hfl
 ·refine ⟨_,a',hg,ha,?_⟩
  cases ha; simp[execOp,ho,hx]
 ·refine ⟨_,a',hg,ha,?_⟩
  cases ha; simp[execOp,ho,hx]
 ·refine ⟨_,a',hg,ha,?_⟩
  cases ha; simp[execOp,ho,hx]
theorem sM (hfl:¬good fl) {fs:Array Field} {sJ:Field} {f s:Nat} (hu:P.underlying t=some (.struct fs)) (hf:fs[f]? = some sJ) (hs:er P sJ.type=some (s+1))
  {a a':Value} {κ:Value→Heap→β} (hg:good (fieldAddrB fl sJ.offset a h κ)) (ha:VR φ a a') :
  ∃v v',good (κ v h)∧VR φ v v'∧(Instr.fieldAt t a' f).run P w=.ok v' w:=by
 unfold fieldAddrB at hg
 split at hg<;>try exact absurd hg hfl
 rename_i b o
 cases ha with
 | ptr hp=>
  rename_i pl
  simp only[bT] at hg
  refine ⟨_,.pointer (some ⟨pl.B,o+sJ.offset,none⟩),hg,.ptr hp,?_⟩
  have LK:(⟨pl.B,o,none⟩:Addr).add sJ.offset=⟨pl.B,o+sJ.offset,none⟩:=by unfold Addr.add; split<;>simp_all
  simp[Instr.fieldAt,aO hu,hf,Instr.sureAddr,fieldPlace,b_ hs,LK]
theorem iD (B o n:Nat):(⟨B,o,none⟩:Addr).add n=⟨B,o+n,none⟩:=by unfold Addr.add; split<;>simp_all
theorem sN (hfl:¬good fl) {e s:Nat} (hu:P.underlying t=some (.slice e)) (hs:er P e=some s)
  {a a' i i':Value} {κ:Value→Heap→β} (hg:good (aD fl s a i h κ)) (ha:VR φ a a') (hi:VR φ i i') :
  ∃v v',good (κ v h)∧VR φ v v'∧(Instr.indexAt t a' i').run P w=.ok v' w:=by
 unfold aD at hg
 split at hg<;>try exact absurd hg hfl
 split at hg<;>try exact absurd hg hfl
 rename_i b o len cap k j _ hle
 have hle:=ck hle
 simp only[bT] at hg
 cases hi
 cases ha with
 | slice hp hn hc=>
  rename_i pl
  refine ⟨_,.pointer (some ⟨pl.B,o+j*s,none⟩),hg,.ptr hp,?_⟩
  have:j<len:=hle
  simp[Instr.indexAt,asIntOf,aO hu,b_ hs,iD,this]
 | bJ hp hn hc=>
  rename_i pl
  refine ⟨_,.pointer (some ⟨pl.B,o+j*s,none⟩),hg,.ptr hp,?_⟩
  have:j<len:=hle
  simp[Instr.indexAt,asIntOf,aO hu,b_ hs,iD,this]
 | cz _ a'' c=>exact absurd hle (by omega)
theorem sO (hfl:¬good fl) {e s len:Nat} (hu:P.underlying t=some (.array len e)) (hs:er P e=some s)
  {a a' i i':Value} {κ:Value→Heap→β} (hg:good (kf fl len s a i h κ)) (ha:VR φ a a') (hi:VR φ i i') :
  ∃v v',good (κ v h)∧VR φ v v'∧(Instr.indexAt t a' i').run P w=.ok v' w:=by
 unfold kf at hg
 split at hg<;>try exact absurd hg hfl
 split at hg<;>try exact absurd hg hfl
 rename_i b o k j _ hle
 have hle:=ck hle
 simp only[bT] at hg
 cases hi
 cases ha with
 | ptr hp=>
  rename_i pl
  refine ⟨_,.pointer (some ⟨pl.B,o+j*s,none⟩),hg,.ptr hp,?_⟩
  have:j<len:=hle
  simp[Instr.indexAt,asIntOf,aO hu,b_ hs,iD,Instr.sureAddr,this]
theorem Cf (hfl:¬good fl) {src dst:TypeId} {ds:TypeDesc} {k:IntKind} (hs:P.underlying src=some ds) (hd:P.underlying dst=some (.int k))
  {a a':Value} {κ:Value→Heap→β} (hg:good (kg fl k a h κ)) (ha:VR φ a a') :
  ∃v v',good (κ v h)∧VR φ v v'∧(convert src dst a').run P w=.ok v' w:=by
 unfold kg at hg
 split at hg<;>try exact absurd hg hfl
 rename_i k' n
 simp only[fT,dN] at hg
 cases ha
 refine ⟨_,_,hg,.int k _,?_⟩
 simp[convert,aO hs,aO hd,Conv.intToInt]
theorem JG (hfl:¬good fl) {op:UnOp} {a a':Value} {κ:Value→Heap→β} (hg:good (jA fl op a h κ)) (ha:VR φ a a') :
  ∃v v',good (κ v h)∧VR φ v v'∧(Op.unary op a').run P w=.ok v' w:=by
 unfold jA at hg
 split at hg<;>try exact absurd hg hfl
 ·cases ha; simp only[bM] at hg; exact ⟨_,_,hg,.bool _,by simp[Op.unary]⟩
 ·cases ha; simp only[fT,dN] at hg; exact ⟨_,_,hg,.int _ _,by simp[Op.unary,Op.intArith]; congr 3; exact (Int.zero_sub _).symm⟩
 ·cases ha; simp only[fT,dN] at hg; exact ⟨_,_,hg,.int _ _,by simp[Op.unary,Op.intBits]⟩
theorem wo (hfl:¬good fl) {i:Nat} {a a':Value} {κ:Value→Heap→β} (hg:good (ax fl i a h κ)) (ha:VR φ a a') :
  ∃v v',good (κ v h)∧VR φ v v'∧(Instr.extract a' i).run P w=.ok v' w:=by
 unfold ax at hg
 split at hg<;>try exact absurd hg hfl
 split at hg<;>try exact absurd hg hfl
 rename_i vs _ v hv
 cases ha with
 | tuple _ a'' hl vj=>
  have:∃v',a''.toList[i]? = some v':=by
   cases hx:a''.toList[i]? with
   | some v'=>exact ⟨v',rfl⟩
   | none=>
    have h1:=List.getElem?_eq_none_iff.1 hx
    have h2:=(List.getElem?_eq_some_iff.1 hv).1
    omega
  obtain ⟨v',ud⟩:=this
  refine ⟨v,v',hg,vj i v v' hv ud,?_⟩
  have:a''[i]? = some v':=by simpa using ud
  simp[Instr.extract,this]
theorem AS (hfl:¬good fl) {ts:Array TypeId} {ty:TypeId} {a a':Value} {κ:Value→Heap→β} (hg:good (vR fl a h κ)) (ha:VR φ a a')
  (ht:ts[0]? = some t) (hu:P.underlying t=some .string) :
  ∃v v',good (κ v h)∧VR φ v v'∧(Builtin.len_ ts ty #[a']).run P w=.ok v' w:=by
 unfold vR at hg
 split at hg<;>try exact absurd hg hfl
 simp only[bT] at hg
 cases ha
 exact ⟨_,_,hg,.int _ _,by simp[Builtin.len_,ht,aO hu,goInt]⟩
theorem AT (hfl:¬good fl) {ts:Array TypeId} {ty e:TypeId} {a a':Value} {κ:Value→Heap→β} (hg:good (bB fl a h κ)) (ha:VR φ a a')
  (ht:ts[0]? = some t) (hu:P.underlying t=some (.slice e)) :
  ∃v v',good (κ v h)∧VR φ v v'∧(Builtin.len_ ts ty #[a']).run P w=.ok v' w:=by
 unfold bB at hg
 split at hg<;>try exact absurd hg hfl
 cases ha<;>exact ⟨_,_,hg,.int _ _,by simp[Builtin.len_,ht,aO hu,goInt]⟩
theorem HR.qb (hr:HR P φ h w) {b clock:Nat} {es:List MapEntry} {pl:Pl} (hb:h.bl.get b=some (.map es clock)) (hp:φ b=some pl) :
  ∃es',w.heap[pl.B]? = some (.map es' clock)∧F2 (ER φ) es es'.toList:=by
 have:=hr.obj b _ pl hb hp
 cases hO:w.heap[pl.B]? with
 | none=>rw[hO] at this; exact this.elim
 | some O=>
  rw[hO] at this
  cases O<;>simp only[OR] at this<;>try exact this.elim
  obtain ⟨rfl,h2⟩:=this
  exact ⟨_,rfl,h2⟩
theorem c_ {B:Nat} {es:Array MapEntry} {clock:Nat} (hO:w.heap[B]? = some (.map es clock)):(getObj B).run P w=.ok (.map es clock) w:=by
 simp[getObj,Sem.run,hO]
theorem AU (hfl:¬good fl) {ts:Array TypeId} {ty k e:TypeId} {a a':Value} {κ:Value→Heap→β} (hg:good (mZ fl a h κ)) (ha:VR φ a a') (hr:HR P φ h w)
  (ht:ts[0]? = some t) (hu:P.underlying t=some (.map k e)) :
  ∃v v',good (κ v h)∧VR φ v v'∧(Builtin.len_ ts ty #[a']).run P w=.ok v' w:=by
 unfold mZ at hg
 split at hg<;>try exact absurd hg hfl
 ·cases ha; exact ⟨_,_,hg,.int _ _,by simp[Builtin.len_,ht,aO hu,goInt]⟩
 ·split at hg<;>try exact absurd hg hfl
  rename_i hb
  simp only[bT] at hg
  cases ha with
  | map hp=>
   obtain ⟨es',hO,h2⟩:=hr.qb hb hp
   refine ⟨_,_,hg,.int _ _,?_⟩
   have hlen:=h2.length
   simp only[Array.length_toList] at hlen
   simp[Builtin.len_,ht,aO hu,goInt,c_ hO,hlen]
theorem VR.cells {v v':Value} (hv:VR φ v v'):F2 (VR φ) v.cells.toList v'.cells.toList:=by
 have one:∀{u u':Value},VR φ u u'→F2 (VR φ) [u] [u']:=fun h=>.cons h .nil
 cases hv with
 | agg a a' ha vj=>exact F2.kj ha vj
 | bool b=>exact one (.bool b)
 | int k n=>exact one (.int k n)
 | string s=>exact one (.string s)
 | nilFunc=>exact one .nilFunc
 | nilIface=>exact one .nilIface
 | wg=>exact one .wg
 | ptr h=>exact one (.ptr h)
 | eT h=>exact one (.eT h)
 | slice h hn hc=>exact one (.slice h hn hc)
 | bJ h hn hc=>exact one (.bJ h hn hc)
 | cz a a' c=>exact one (.cz a a' c)
 | wj=>exact one .wj
 | map h=>exact one (.map h)
 | yield h=>exact one (.yield h)
 | func fn a a' b b' ha hb vj hvb=>exact one (.func fn a a' b b' ha hb vj hvb)
 | iface t h=>exact one (.iface t h)
 | tuple a a' ha vj=>exact one (.tuple a a' ha vj)
theorem FV (hfl:¬good fl):∀(new old:List Value) (κ:List Value→β),good (q9 fl new old κ)→new.length≤old.length∧good (κ (new++old.drop new.length)):=by
 intro new
 induction new with
 | nil=>intro old κ hg; exact ⟨by simp,by simpa[q9] using hg⟩
 | cons v new ih=>
  intro old κ hg
  cases old with
  | nil=>simp only[q9] at hg; exact absurd hg hfl
  | cons o old=>simp only[q9] at hg; obtain ⟨h1,h2⟩:=ih old _ hg; exact ⟨by simpa using h1,by simpa using h2⟩
theorem JH (hfl:¬good fl) (new:List Value):∀(off:Nat) (old:List Value) (κ:List Value→β),good (cD fl new off old κ)→
  off+new.length≤old.length∧good (κ (old.take off++new++old.drop (off+new.length))):=by
 intro off
 induction off with
 | zero=>intro old κ hg; simp only[cD] at hg; obtain ⟨h1,h2⟩:=FV hfl _ _ _ hg; exact ⟨by simpa using h1,by simpa using h2⟩
 | succ off ih=>
  intro old κ hg
  cases old with
  | nil=>simp only[cD] at hg; exact absurd hg hfl
  | cons o old=>
   simp only[cD] at hg
   obtain ⟨h1,h2⟩:=ih old _ hg
   refine ⟨by simp; omega,?_⟩
   rw[show off+1+new.length=(off+new.length)+1 by omega]
   simpa using h2
theorem JI (off:Nat):∀(l:List Value) (k:Nat) (cs:Array Value),off+k+l.length≤cs.size→
  (l.zipIdx k).foldl (fun (cs:Array Value) (p:Value × Nat)=>cs.setIfInBounds (off+p.2) p.1) cs=(cs.toList.take (off+k)++l++cs.toList.drop (off+k+l.length)).toArray:=by
 intro l
 induction l with
 | nil=>intro k cs _; simp
 | cons v l ih=>
  intro k cs hk
  simp at hk
  simp only[List.zipIdx_cons,List.foldl_cons]
  rw[ih (k+1) _ (by simp; omega)]
  congr 1
  have e:=list_seg_step cs.toList (off+k) v l (by simp; omega)
  simpa[Array.toList_setIfInBounds,Nat.add_assoc] using e
theorem uf (hfl:¬good fl) (tm:T Value) (ρ:Operand→Value) (place:Nat→Option (Nat × Nat)):∀(parts:List (Nat × Operand)) (ps:List (Nat × Nat)),
  placesOf place parts=some ps→(∀p∈parts,VR φ (eN tm p.2) (ρ p.2))→∀(cs cs':List Value),F2 (VR φ) cs cs'→∀κ:List Value→β,
  good (br fl ps (parts.map fun p=>eN tm p.2) cs κ)→
  ∃r r',good (κ r)∧F2 (VR φ) r r'∧Instr.fill place cs'.toArray (parts.map fun p=>(p.1,ρ p.2))=some r'.toArray:=by
 intro parts
 induction parts with
 | nil=>
  intro ps hp _ cs cs' hcs κ hg
  simp only[placesOf] at hp; cases hp
  exact ⟨cs,cs',hg,hcs,rfl⟩
 | cons p parts ih=>
  intro ps hp hv cs cs' hcs κ hg
  obtain ⟨i,x⟩:=p
  simp only[placesOf] at hp
  cases hpi:place i with
  | none=>rw[hpi] at hp; simp at hp
  | some os=>
   obtain ⟨off,size⟩:=os
   cases PX:placesOf place parts with
   | none=>rw[hpi,PX] at hp; simp at hp
   | some l=>
    rw[hpi,PX] at hp
    simp at hp
    subst hp
    simp only[List.map_cons,br] at hg
    split at hg<;>try exact absurd hg hfl
    rename_i hsz
    have hsz:=bY hsz
    obtain ⟨h1,h2⟩:=JH hfl _ _ _ _ hg
    have hx:=(hv (i,x) (by simp)).cells
    have hl:=hx.length
    have hcl:=hcs.length
    have hnew:F2 (VR φ) (cs.take off++(eN tm x).cells.toList++cs.drop (off+(eN tm x).cells.toList.length)) (cs'.take off++(ρ x).cells.toList++cs'.drop (off+(ρ x).cells.toList.length)):=by
     rw[←hl]; exact ((hcs.take _).append hx).append (hcs.drop _)
    obtain ⟨r,r',g1,g2,g3⟩:=ih l PX (fun q hq=>hv q (by simp[hq])) _ _ hnew κ h2
    refine ⟨r,r',g1,g2,?_⟩
    simp only[List.map_cons,Instr.fill,hpi]
    have e1:(ρ x).cells.size=size:=by rw[←hsz,hl]; simp
    have e2:¬(off+(ρ x).cells.size > cs'.toArray.size):=by
     simp at hl hcl h1 ⊢; omega
    rw[if_neg (by simp[e1]; simpa[e1] using e2)]
    have e3:=JI off (ρ x).cells.toList 0 cs'.toArray (by simp at e2 ⊢; omega)
    have e4:(ρ x).cells.zipIdx.foldl (fun (cs:Array Value) (p:Value × Nat)=>cs.setIfInBounds (off+p.2) p.1) cs'.toArray=(cs'.take off++(ρ x).cells.toList++cs'.drop (off+(ρ x).cells.toList.length)).toArray:=by
     rw[←Array.foldl_toList,Array.toList_zipIdx]
     simpa using e3
    have e5:=g3
    rw[←e4] at e5
    exact e5
theorem g_ {fty:TypeId} {b:Bool} (hb:mo P fty=some b) {s:Nat} (hs:er P fty=some s) (cs:Array Value) (off:Nat) :
  (part fty cs off).run P w=match b with
   | true=>.ok (.agg ⟨(cs.toList.drop off).take s⟩) w
   | false => match cs.toList[off]? with | some v => .ok v w | none => .halt (.stuck "part: no such cell") w := by
 cases b
 ·simp[part,oZ hb]
  cases cs[off]?<;>simp
 ·simp[part,oZ hb,b_ hs]
  apply Array.ext'
  simp[List.extract]
theorem uQ {B B' o o':Nat} {C C':Array Value} {e e':TypeId} (hB:w.heap[B]? = some (.cells C e (0,0))) (hB':w.heap[B']? = some (.cells C' e' (0,0))) (hne:B≠B') :
  (sameAddr ⟨B,o,none⟩ ⟨B',o',none⟩).run P w=.ok false w:=by
 have f1:∀n,w.frozen? ⟨B,n,none⟩=false:=fun n=>by simp[World.frozen?,hB]
 have f2:∀n,w.frozen? ⟨B',n,none⟩=false:=fun n=>by simp[World.frozen?,hB']
 have s1:w.shape? B=some (e,C.size):=by simp[World.shape?,hB]
 have s2:w.shape? B'=some (e',C'.size):=by simp[World.shape?,hB']
 simp[sameAddr,hne,f1,f2,noView,viewAt,s1,s2,mayBeOne,stringish]
end Go.Vai

namespace Go.Vai
open Go
variable {β:Type} {fl:β} {good:β→Prop} {P:Program} {φ:dG} {h:Heap} {w:World} {t:TypeId}
theorem Qp (a b:ByteArray):(a == b)=decide (a=b):=by
 rw[beq_toListBytes,ByteArray.toList_eq,ByteArray.toList_eq]
 rw[Bool.eq_iff_iff]
 simp
 constructor
 ·intro e; cases a; cases b; simp at e; simp[e]
 ·intro e; rw[e]
theorem HR.LM (hr:HR P φ h w) {b:Nat} {pl:Pl} (hb:vP h b=true) (hp:φ b=some pl) :
  ∃o C e,h.bl.get b=some o∧o.live∧w.heap[pl.B]? = some (.cells C e (0,0)):=by
 unfold vP at hb
 split at hb<;>try cases hb
 rename_i hb'
 have:=hr.obj b _ pl hb' hp
 cases hO:w.heap[pl.B]? with
 | none=>rw[hO] at this; exact this.elim
 | some O=>
  rw[hO] at this
  cases O<;>simp only[OR] at this<;>try exact this.elim
  obtain ⟨rfl,rfl,_⟩:=this
  exact ⟨_,_,_,hb',trivial,rfl⟩
theorem FW (D:Nat) (rec:TypeId→Value→Value→Option Bool)
  (ih:∀(t:TypeId) (x y x' y':Value) (r:Bool),rec t x y=some r→VR φ x x'→VR φ y y'→(Op.equalIn D t x' y').run P w=.ok r w) :
  ∀(fs:List Field) (xs ys:List Value) (xs' ys':Array Value) (r:Bool),zb P rec fs xs ys=some r→F2 (VR φ) xs xs'.toList→F2 (VR φ) ys ys'.toList→
   (Op.eqFields D xs' ys' fs).run P w=.ok r w:=by
 intro fs
 induction fs with
 | nil=>intro xs ys xs' ys' r he _ _; simp only[zb] at he; cases he; simp[Op.eqFields]
 | cons f fs ihf=>
  intro xs ys xs' ys' r he hx hy
  simp only[zb] at he
  split at he<;>try cases he
  rename_i hnm
  have hn : f.name ≠ "_" := by simpa using hnm
  have fin:∀(x y x' y':Value),VR φ x x'→VR φ y y'→(part f.type xs' f.offset).run P w=.ok x' w→(part f.type ys' f.offset).run P w=.ok y' w→
    (match rec f.type x y with | some true=>zb P rec fs xs ys | r=>r)=some r→(Op.eqFields D xs' ys' (f::fs)).run P w=.ok r w:=by
   intro x y x' y' vx vy px py hm
   cases hr:rec f.type x y with
   | none=>rw[hr] at hm; cases hm
   | some q=>
    have:=ih f.type x y x' y' q hr vx vy
    rw[hr] at hm
    cases q
    ·simp at hm; subst hm
     simp[Op.eqFields,hn,px,py,this]
    ·simp[Op.eqFields,hn,px,py,this]
     exact ihf xs ys xs' ys' r hm hx hy
  split at he
  ·rename_i hag hsz
   refine fin _ _ (.agg ⟨(xs'.toList.drop f.offset).take _⟩) (.agg ⟨(ys'.toList.drop f.offset).take _⟩) (VR.qu ?_) (VR.qu ?_) (g_ hag hsz xs' f.offset) (g_ hag hsz ys' f.offset) he
   ·exact (hx.drop _).take _
   ·exact (hy.drop _).take _
  ·rename_i hag hsz
   split at he<;>try cases he
   rename_i x y ex ey
   obtain ⟨x',ex',vx⟩:=hx.get _ _ ex
   obtain ⟨y',ey',vy⟩:=hy.get _ _ ey
   refine fin x y x' y' vx vy ?_ ?_ he
   ·have:=g_ (w:=w) hag hsz xs' f.offset; rw[this]; simp only[ex']
   ·have:=g_ (w:=w) hag hsz ys' f.offset; rw[this]; simp only[ey']
  ·cases he
set_option maxHeartbeats 4000000 in
theorem sP (hr:HR P φ h w):∀(d D:Nat),d≤D→∀(t:TypeId) (x y x' y':Value) (r:Bool),lM P h d t x y=some r→VR φ x x'→VR φ y y'→
  (Op.equalIn D t x' y').run P w=.ok r w:=by
 intro d
 induction d with
 | zero=>intro D _ t x y x' y' r he; simp[lM] at he
 | succ d ih=>
  intro D hD t x y x' y' r he vx vy
  obtain ⟨D,rfl⟩:∃k,D=k+1:=⟨D-1,by omega⟩
  simp only[lM] at he
  split at he<;>try (cases he; done)
  ·rename_i hu; cases vx; cases vy; rename_i a b
   cases a<;>cases b<;>simp at he<;>subst he<;>simp[Op.equalIn,aO hu]
  ·rename_i hu; cases vx; cases vy
   split at he<;>try (cases he; done)
   rename_i hk; rw[fm] at hk; simp at hk; subst hk
   simp[fI] at he; subst he
   simp[Op.equalIn,aO hu]
   rfl
  ·rename_i hu; cases vx; cases vy
   simp[ji] at he; subst he
   simp[Op.equalIn,aO hu,Qp]
  ·rename_i hu; cases vx; cases vy; simp at he; subst he; simp[Op.equalIn,aO hu]
  ·rename_i hu; cases vx; cases vy; simp at he; subst he; simp[Op.equalIn,aO hu]
  ·rename_i hu; cases vx; cases vy; simp at he; subst he; simp[Op.equalIn,aO hu]
  ·rename_i e b o b' o' hu
   split at he<;>try (cases he; done)
   rename_i s hs
   split at he<;>try (cases he; done)
   rename_i hl hl'
   cases vx with
   | ptr hp=>
    cases vy with
    | ptr hp'=>
     rename_i pl kS
     obtain ⟨q,C,e1,g1,g2,g3⟩:=hr.LM hl hp
     obtain ⟨q',C',e2,PY,g2',Qq⟩:=hr.LM hl' hp'
     have hsz:(sizeOf e).run P w=.ok (s+1) w:=b_ hs
     split at he
     ·rename_i hb; have hb:=bY hb; subst hb
      rw[hp] at hp'; cases hp'
      simp at he; subst he
      simp[Op.equalIn,aO hu,hsz,sameAddr]
      rw[Bool.eq_iff_iff]; simp
     ·rename_i hb; have hb:=mA hb
      simp at he; subst he
      have hne:pl.B≠kS.B:=fun e=>hb (hr.inj _ _ _ _ _ _ g1 PY g2 g2' hp hp' e)
      simp[Op.equalIn,aO hu,hsz,uQ g3 Qq hne]
  ·rename_i hu; cases vx; cases vy; simp at he; subst he; simp[Op.equalIn,aO hu]
  ·rename_i hu; cases vx; cases vy; simp at he; subst he; simp[Op.equalIn,aO hu]
  ·rename_i hu; cases vx; cases vy; simp at he; subst he; simp[Op.equalIn,aO hu]
  ·rename_i fs xs ys hu
   split at he<;>try (cases he; done)
   rename_i hst
   cases vx with
   | agg _ xs' hx1 hx2=>
    cases vy with
    | agg _ ys' hy1 hy2=>
     have hf:P.fieldsOf t=fs:=by simp[Program.fieldsOf,hu]
     rw[run_equalIn_struct w D t xs' ys' (by rw[hf]; exact hu) hst,hf]
     exact FW D (lM P h d) (fun t x y x' y' r he vx vy=>ih D (by omega) t x y x' y' r he vx vy) _ _ _ xs' ys' r he (F2.kj hx1 hx2) (F2.kj hy1 hy2)
  ·rename_i hu; cases vx; cases vy; simp at he; subst he; simp[Op.equalIn,aO hu]
  ·rename_i hu; cases vx<;>cases vy<;>simp at he<;>subst he<;>simp[Op.equalIn,aO hu]
  ·rename_i hu; cases vx<;>cases vy<;>simp at he<;>subst he<;>simp[Op.equalIn,aO hu]
  ·rename_i hu; cases vx; cases vy; simp at he; subst he; simp[Op.equalIn,aO hu]
  ·rename_i hu; cases vx; cases vy; simp at he; subst he; simp[Op.equalIn,aO hu]
  ·rename_i hu; cases vx; cases vy; simp at he; subst he; simp[Op.equalIn,aO hu]
  ·rename_i hu; cases vx; cases vy; simp at he; subst he; simp[Op.equalIn,aO hu]
  ·rename_i hu; cases vx<;>cases vy<;>simp at he<;>subst he<;>simp[Op.equalIn,aO hu]
  ·rename_i hu; cases vx<;>cases vy<;>simp at he<;>subst he<;>simp[Op.equalIn,aO hu]
theorem FX (hfl:¬good fl):∀(n:Nat) (l:List Value) (κ:List Value→β),good (zN fl n l κ)→good (κ (l.take n)):=by
 intro n
 induction n with
 | zero=>intro l κ hg; simpa[zN] using hg
 | succ n ih=>
  intro l κ hg
  cases l with
  | nil=>simp only[zN] at hg; exact absurd hg hfl
  | cons v l=>simp only[zN] at hg; simpa using ih l _ hg
theorem ug (hfl:¬good fl) {fty:TypeId} {b:Bool} (hb:mo P fty=some b) {s:Nat} (hs:er P fty=some s) {cs cs':Array Value} (hc:F2 (VR φ) cs.toList cs'.toList) (off:Nat)
  {κ:Value→β} (hg:good (Ca fl b s cs.toList off κ)):∃v v',good (κ v)∧VR φ v v'∧(part fty cs' off).run P w=.ok v' w:=by
 have hp:=g_ (w:=w) hb hs cs' off
 cases b
 ·simp only[Ca] at hg
  split at hg<;>try exact absurd hg hfl
  rename_i v hv
  obtain ⟨v',e,r⟩:=hc.get _ _ hv
  refine ⟨v,v',hg,r,?_⟩
  rw[hp]; simp only[e]
 ·simp only[Ca] at hg
  have:=FX hfl _ _ _ hg
  exact ⟨_,_,this,VR.qu ((hc.drop off).take s),hp⟩
theorem AV (hfl:¬good fl) {fs:Array Field} {sJ:Field} {f s:Nat} {b:Bool} (hu:P.underlying t=some (.struct fs)) (hf:fs[f]? = some sJ) (hb:mo P sJ.type=some b) (hs:er P sJ.type=some s)
  {a a':Value} {κ:Value→Heap→β} (hg:good (qq fl b s sJ.offset a h κ)) (ha:VR φ a a') :
  ∃v v',good (κ v h)∧VR φ v v'∧(Instr.field t a' f).run P w=.ok v' w:=by
 unfold qq at hg
 split at hg<;>try exact absurd hg hfl
 cases ha with
 | agg _ cs' h1 h2=>
  obtain ⟨v,v',g1,g2,g3⟩:=ug (w:=w) hfl hb hs (F2.kj h1 h2) _ hg
  exact ⟨v,v',g1,g2,by simp[Instr.field,aO hu,hf,asAgg,g3]⟩
theorem AX (hfl:¬good fl) {e s len:Nat} {b:Bool} (hu:P.underlying t=some (.array len e)) (hb:mo P e=some b) (hs:er P e=some s)
  {a a' i i':Value} {κ:Value→Heap→β} (hg:good (vS fl b len s a i h κ)) (ha:VR φ a a') (hi:VR φ i i') :
  ∃v v',good (κ v h)∧VR φ v v'∧(Instr.index t a' i').run P w=.ok v' w:=by
 unfold vS at hg
 split at hg<;>try exact absurd hg hfl
 split at hg<;>try exact absurd hg hfl
 rename_i cs k j _ hle
 have hle:j<len:=ck hle
 cases hi
 cases ha with
 | agg _ cs' h1 h2=>
  obtain ⟨v,v',g1,g2,g3⟩:=ug (w:=w) hfl hb hs (F2.kj h1 h2) _ hg
  refine ⟨v,v',g1,g2,?_⟩
  have Qq:(part e cs' (j*s)).run P w=.ok v' w:=g3
  simp[Instr.index,asIntOf,aO hu,b_ hs,hle,Qq]
theorem AY (hfl:¬good fl) (hu:P.underlying t=some .string)
  {a a' i i':Value} {κ:Value→Heap→β} (hg:good (vT fl a i h κ)) (ha:VR φ a a') (hi:VR φ i i') :
  ∃v v',good (κ v h)∧VR φ v v'∧(Instr.index t a' i').run P w=.ok v' w:=by
 unfold vT at hg
 split at hg<;>try exact absurd hg hfl
 rename_i s k j
 split at hg<;>try exact absurd hg hfl
 rename_i b hb
 simp only[bT] at hg
 cases hi
 cases ha
 refine ⟨_,.int .u8 b.toNat,hg,.int _ _,?_⟩
 have:s[j]? = some b:=by
  have hj:=(List.getElem?_eq_some_iff.1 hb).1
  have hb':=(List.getElem?_eq_some_iff.1 hb).2
  have hj':j<s.size:=by simpa using hj
  rw[getElem?_pos s j hj']
  congr 1
 simp[Instr.index,asIntOf,aO hu,this]
abbrev HK (φ:dG) (v v':Option Value):Prop:=match v,v' with | none,none=>True | some x,some x'=>VR φ x x' | _,_=>False
theorem mB (hfl:¬good fl) {v v':Option Value} {d:Nat} {κ:Nat→β} (hg:good (AL fl v d κ)) (hv:HK φ v v') :
  ∃n,good (κ n)∧(v=none→n=d)∧∀x',v'=some x'→∃k,x'=.int k (n:Int):=by
 unfold AL at hg
 split at hg
 ·exact ⟨d,hg,fun _=>rfl,fun x' e=>by subst e; exact hv.elim⟩
 ·rename_i k n
  refine ⟨n,hg,fun e=>(by cases e),fun x' e=>?_⟩
  subst e
  cases hv
  exact ⟨k,rfl⟩
 ·exact absurd hg hfl
theorem run_sliceBound {k:IntKind} {n y:Nat} {code:BoundsCode} (h:n≤y):(Instr.sliceBound (.int k (n:Int)) y code).run P w=.ok n w:=by
 have:(n:Int)≤(y:Int):=by omega
 simp[Instr.sliceBound,asIntOf,this]
theorem gR (hfl:¬good fl) {len lim cap cap':Nat} {lo hi mx lo' hi' JJ:Option Value} {κ:Nat→Nat→Nat→β} (hg:good (gW fl len lim cap lo hi mx κ))
  (h1:HK φ lo lo') (h2:HK φ hi hi') (h3:HK φ mx JJ) (hlim:lim≤cap') (b:Bool) :
  ∃l hh m,l≤hh∧hh≤lim∧((mx=none∧m=cap∧good (κ l hh cap)∧(Instr.sliceBounds b len cap' lo' hi' JJ).run P w=.ok (l,hh,cap') w)∨
   (mx≠none∧hh≤m∧m≤lim∧good (κ l hh m)∧(Instr.sliceBounds b len cap' lo' hi' JJ).run P w=.ok (l,hh,m) w)):=by
 unfold gW at hg
 cases mx with
 | none=>
  cases JJ with
  | some _=>exact h3.elim
  | none=>
   obtain ⟨hh,g1,e1,e2⟩:=mB hfl hg h2
   obtain ⟨l,g2,e3,e4⟩:=mB hfl g1 h1
   split at g2<;>try exact absurd g2 hfl
   rename_i hle1 hle2
   have hle1:=ck hle1; have hle2:=ck hle2
   refine ⟨l,hh,cap,hle1,hle2,.inl ⟨rfl,rfl,g2,?_⟩⟩
   cases lo<;>cases lo'<;>(try exact h1.elim)<;>cases hi<;>cases hi'<;>(try exact h2.elim)<;>simp at e1 e2 e3 e4
   ·subst e1; subst e3; simp[Instr.sliceBounds]
   ·obtain ⟨k,rfl⟩:=e2; subst e3
    simp[Instr.sliceBounds,run_sliceBound (P:=P) (w:=w) (k:=k) (show hh≤cap' by omega)]
   ·obtain ⟨k,rfl⟩:=e4; subst e1
    simp[Instr.sliceBounds,run_sliceBound (P:=P) (w:=w) (k:=k) hle1]
   ·obtain ⟨k,rfl⟩:=e2; obtain ⟨k',rfl⟩:=e4
    simp[Instr.sliceBounds,run_sliceBound (P:=P) (w:=w) (k:=k) (show hh≤cap' by omega),run_sliceBound (P:=P) (w:=w) (k:=k') hle1]
 | some x=>
  cases JJ with
  | none=>exact h3.elim
  | some x'=>
   obtain ⟨m,g0,_,e0⟩:=mB hfl hg h3
   obtain ⟨hh,g1,e1,e2⟩:=mB hfl g0 h2
   obtain ⟨l,g2,e3,e4⟩:=mB hfl g1 h1
   split at g2<;>try exact absurd g2 hfl
   rename_i hs hle1 hle2 bE
   have hle1:=ck hle1; have hle2:=ck hle2; have bE:=ck bE
   obtain ⟨k0,rfl⟩:=e0 x' rfl
   refine ⟨l,hh,m,hle1,by omega,.inr ⟨by simp,hle2,bE,g2,?_⟩⟩
   cases hi with
   | none=>simp at hs
   | some y=>
    cases hi' with
    | none=>exact h2.elim
    | some y'=>
     obtain ⟨k,rfl⟩:=e2 y' rfl
     have r0:∀c,(Instr.sliceBound (.int k0 (m:Int)) cap' c).run P w=.ok m w:=fun c=>run_sliceBound (by omega)
     have r1:∀c,(Instr.sliceBound (.int k (hh:Int)) m c).run P w=.ok hh w:=fun c=>run_sliceBound hle2
     cases lo<;>cases lo'<;>(try exact h1.elim)<;>simp at e3 e4
     ·subst e3; simp[Instr.sliceBounds,r0,r1]
     ·obtain ⟨k',rfl⟩:=e4
      simp[Instr.sliceBounds,r0,r1,run_sliceBound (P:=P) (w:=w) (k:=k') hle1]
end Go.Vai

namespace Go.Vai
open Go
variable {β:Type} {fl:β} {good:β→Prop} {P:Program} {φ:dG} {h:Heap} {w:World} {t:TypeId}
theorem jj:aM=1267650600228229401496703205376:=rfl
theorem qw {v:Value} (hv:fF v=true):VR φ v v:=by
 cases v<;>simp only[fF] at hv<;>try (cases hv; done)
 ·exact .bool _
 ·exact .int _ _
 ·exact .string _
 ·rename_i a; cases a
  ·exact .wg
  ·simp at hv
 ·rename_i a n c; cases a
  ·exact .eT (ck hv)
  ·simp at hv
 ·rename_i r; cases r
  ·exact .wj
  ·simp at hv
 ·exact .nilFunc
 ·exact .nilIface
theorem iq {l:List Value} (h:l.all fF=true):F2 (VR φ) l l:=by
 induction l with
 | nil=>exact .nil
 | cons v l ih=>simp at h; exact .cons (qw h.1) (ih (by simpa using h.2))
theorem jZ {v:Value} (hv:sI v=true):VR φ v v:=by
 cases v
 case agg cs=>exact VR.qu (iq hv)
 case tuple cs=>exact VR.tuple' (iq hv)
 case iface t v=>exact .iface t (qw hv)
 all_goals exact qw hv
theorem Cg {v v':Value} (hs:jg v=true) (hv:VR φ v v'):v'=v:=by
 cases v<;>simp[jg] at hs<;>cases hv<;>rfl
theorem LN {l l':List Value} (hs:l.all jg=true) (hv:F2 (VR φ) l l'):l'=l:=by
 induction hv with
 | nil=>rfl
 | cons hr _ ih=>simp at hs; rw[Cg hs.1 hr,ih (by simpa using hs.2)]
theorem vl {v v':Value} (hs:mj v=true) (hv:VR φ v v'):v'=v:=by
 cases v
 case agg cs=>
  cases hv with
  | agg _ a' h1 h2=>
   have:=LN (φ:=φ) hs (F2.kj h1 h2)
   congr 1
   exact Array.ext' this
 all_goals exact Cg hs hv
theorem kq {b o s l hh m:Nat} {pl:Pl} (hp:φ b=some pl) (h1:l≤hh) (h2:hh≤m) (h3:m<aM) {κ:Value→β} (hg:good (q_ b o s l hh m κ)) :
  ∃v,good (κ v)∧VR φ v (.slice (some (if m=l then ⟨pl.B,o,none⟩ else (⟨pl.B,o,none⟩:Addr).add (l*s))) (hh-l) (m-l)):=by
 unfold q_ at hg
 split at hg
 ·rename_i he; have he:=bY he; subst he
  simp only[bT] at hg
  refine ⟨_,hg,?_⟩
  rw[if_pos rfl]
  have e1:hh-m=0:=by omega
  have e2:m-m=0:=by omega
  rw[show Nat.sub hh m=0 from e1,e1,e2]
  exact .slice hp (Nat.le_refl _) (by rw[jj]; omega)
 ·rename_i he; have he:=mA he
  simp only[bT] at hg
  refine ⟨_,hg,?_⟩
  rw[if_neg he,iD]
  exact .slice hp (show hh-l≤m-l by omega) (show m-l<aM by omega)
theorem dW {e s:Nat} {a:Option Addr} {len cap l hh m:Nat} {lo hi mx:Option Value} (hu:P.underlying t=some (.slice e)) (hs:er P e=some s)
  (hb:(Instr.sliceBounds true len cap lo hi mx).run P w=.ok (l,hh,m) w) :
  (Instr.sliceAt t (.slice a len cap) lo hi mx).run P w=.ok (.slice (if m=l then a else a.map (·.add (l*s))) (hh-l) (m-l)) w:=by
 simp[Instr.sliceAt,Instr.slice,aO hu,hb,b_ hs]
theorem HR.known (hr:HR P φ h w) {e b n:Nat} {pl:Pl} (hk:fG h e b=some n) (hp:φ b=some pl):n≤pl.sz∧n≤4611686018427387904∧er P e=some pl.e∧0<pl.e:=by
 unfold fG at hk
 split at hk
 ·rename_i hb
  split at hk<;>try (cases hk; done)
  rename_i he; have he:=bY he; subst he
  cases hk
  have:=hr.obj b _ pl hb hp
  cases hO:w.heap[pl.B]? with
  | none=>rw[hO] at this; exact this.elim
  | some O=>
   rw[hO] at this
   cases O<;>simp only[OR] at this<;>try exact this.elim
   obtain ⟨_,_,h3,h4,h5,_⟩:=this
   obtain ⟨g1,g2,g3⟩:=h5 trivial
   exact ⟨by omega,h4,g2,g3⟩
 ·rename_i hb
  split at hk<;>try (cases hk; done)
  rename_i he; have he:=bY he; subst he
  cases hk
  have:=hr.obj b _ pl hb hp
  cases hO:w.heap[pl.B]? with
  | none=>rw[hO] at this; exact this
  | some O=>rw[hO] at this; cases O<;>exact this
 ·cases hk
theorem AZ (hfl:¬good fl) {e s:Nat} (hu:P.underlying t=some (.slice e)) (hs:er P e=some s) (hr:HR P φ h w)
  {x x':Value} {lo hi mx lo' hi' JJ:Option Value} {κ:Value→Heap→β} (hg:good (sliceB fl e s x lo hi mx h κ)) (hx:VR φ x x') (h1:HK φ lo lo') (h2:HK φ hi hi') (h3:HK φ mx JJ) :
  ∃v v',good (κ v h)∧VR φ v v'∧(Instr.sliceAt t x' lo' hi' JJ).run P w=.ok v' w:=by
 unfold sliceB at hg
 split at hg<;>try exact absurd hg hfl
 ·
  rename_i len cap
  cases hx with
  | eT hle=>
   obtain ⟨l,hh,m,g1,g2,g3⟩:=gR (w:=w) hfl hg h1 h2 h3 (Nat.le_refl cap) true
   rcases g3 with ⟨_,rfl,g4,g5⟩ | ⟨_,g6,g7,g4,g5⟩
   ·simp only[bT] at g4
    refine ⟨_,_,g4,?_,dW hu hs g5⟩
    have:(if m=l then (none:Option Addr) else Option.map (fun a:Addr=>a.add (l*s)) none)=none:=by split<;>rfl
    rw[this]
    exact .eT (show hh-l≤m-l by omega)
   ·simp only[bT] at g4
    refine ⟨_,_,g4,?_,dW hu hs g5⟩
    have:(if m=l then (none:Option Addr) else Option.map (fun a:Addr=>a.add (l*s)) none)=none:=by split<;>rfl
    rw[this]
    exact .eT (show hh-l≤m-l by omega)
 ·rename_i b o len cap
  split at hg
  ·
   rename_i hc; have hc:=bY hc; subst hc
   split at hg<;>try exact absurd hg hfl
   rename_i hl; have hl:=bY hl; subst hl
   have:∃a' c,x'=.slice (some a') 0 c:=by
    cases hx with
    | slice hp hn hc=>exact ⟨_,_,rfl⟩
    | cz a a' c=>exact ⟨a',c,rfl⟩
   obtain ⟨a',c,rfl⟩:=this
   obtain ⟨l,hh,m,g1,g2,g3⟩:=gR (w:=w) hfl hg h1 h2 h3 (Nat.zero_le c) true
   have hh0:hh=0:=by omega
   have hl0:l=0:=by omega
   subst hh0; subst hl0
   have fin:∀m',VR φ (.slice (some ⟨b,o,none⟩) 0 fq) (.slice (if m'=0 then some a' else Option.map (fun a:Addr=>a.add (0*s)) (some a')) (0-0) (m'-0)):=by
    intro m'
    have:(if m'=0 then some a' else Option.map (fun a:Addr=>a.add (0*s)) (some a'))=some a':=by split<;>simp[Addr.add]
    rw[this]
    exact .cz _ _ _
   rcases g3 with ⟨_,rfl,g4,g5⟩ | ⟨_,g6,g7,g4,g5⟩
   ·exact ⟨_,_,g4,fin _,dW hu hs g5⟩
   ·exact ⟨_,_,g4,fin _,dW hu hs g5⟩
  ·rename_i hna; have hna:=mA hna
   split at hg
   ·
    rename_i hno; have hno:=mA hno
    split at hg<;>try exact absurd hg hfl
    rename_i hcl; have hcl:=ck hcl
    cases hx with
    | bJ hp hn hc=>exact absurd rfl hno
    | cz a a' c=>exact absurd rfl hna
    | slice hp hn hc=>
     rename_i pl
     obtain ⟨l,hh,m,g1,g2,g3⟩:=gR (w:=w) hfl hg h1 h2 h3 (Nat.le_refl cap) true
     rcases g3 with ⟨_,rfl,g4,g5⟩ | ⟨_,g6,g7,g4,g5⟩
     ·obtain ⟨v,k1,k2⟩:=kq hp g1 (by omega) hc g4
      refine ⟨v,_,k1,?_,dW hu hs g5⟩
      by_cases hm:m=l
      ·simpa[hm] using k2
      ·simpa[hm] using k2
     ·obtain ⟨v,k1,k2⟩:=kq hp g1 (by omega) (by omega) g4
      refine ⟨v,_,k1,?_,dW hu hs g5⟩
      by_cases hm:m=l
      ·simpa[hm] using k2
      ·simpa[hm] using k2
   ·
    rename_i hno; have hno:=bY hno; subst hno
    split at hg<;>try exact absurd hg hfl
    rename_i n s0 hk
    split at hg<;>try exact absurd hg hfl
    rename_i hon; have hon:=ck hon
    have hx':∃pl c,φ b=some pl∧len≤c∧c*pl.e+o=pl.sz∧x'=.slice (some ⟨pl.B,o,none⟩) len c:=by
     cases hx with
     | slice hp hn hc=>exact absurd hc (Nat.lt_irrefl _)
     | bJ hp hn hc=>exact ⟨_,_,hp,hn,hc,rfl⟩
    obtain ⟨pl,c,hp,hn,hc,rfl⟩:=hx'
    obtain ⟨k1,k2,k3,k4⟩:=hr.known hk hp
    have e2:pl.e=s0+1:=by rw[hs] at k3; exact (Option.some.inj k3).symm
    have hlim:Nat.div (Nat.sub n o) (s0+1)≤c:=by
     show (n-o) / (s0+1)≤c
     have hc2:=hc
     rw[e2] at hc2
     apply Nat.div_le_of_le_mul
     rw[Nat.mul_comm]
     omega
    obtain ⟨l,hh,m,g1,g2,g3⟩:=gR (w:=w) hfl hg h1 h2 h3 hlim true
    have hlb:Nat.div (Nat.sub n o) (s0+1)≤4611686018427387904:=Nat.le_trans (Nat.div_le_self _ _) (by show n-o≤_; omega)
    rcases g3 with ⟨_,rfl,g4,g5⟩ | ⟨_,g6,g7,g4,g5⟩
    ·split at g4
     ·split at g4
      ·rename_i hl; have hl:=bY hl
       refine ⟨_,_,g4,?_,dW hu hs g5⟩
       have e1:hh-l=0:=by omega
       rw[e1]
       by_cases hm:c=l
       ·rw[if_pos hm]; exact .cz _ _ _
       ·rw[if_neg hm]; exact .cz _ _ _
      ·rename_i hl; have hl:=mA hl
       simp only[bT] at g4
       refine ⟨_,_,g4,?_,dW hu hs g5⟩
       have hm:¬c=l:=by omega
       rw[if_neg hm]
       simp only[Option.map_some,iD]
       refine .bJ hp (show hh-l≤c-l by omega) ?_
       show (c-l)*pl.e+(o+l*(s0+1))=pl.sz
       have hcl:l≤c:=by omega
       rw[←hc,Nat.sub_mul]
       have:l*pl.e≤c*pl.e:=Nat.mul_le_mul_right _ hcl
       rw[←e2]
       omega
     ·rename_i hf; exact absurd rfl (mA hf)
    ·split at g4
     ·rename_i hf; have hf:=bY hf; rw[jj] at hf; omega
     ·obtain ⟨v,j1,j2⟩:=kq hp g1 g6 (by rw[jj]; omega) g4
      refine ⟨v,_,j1,?_,dW hu hs g5⟩
      by_cases hm:m=l
      ·simpa[hm] using j2
      ·simpa[hm] using j2
theorem A0 (hfl:¬good fl) (hu:P.underlying t=some .string)
  {x x':Value} {lo hi mx lo' hi' JJ:Option Value} {κ:Value→Heap→β} (hg:good (vQ fl x lo hi mx h κ)) (hx:VR φ x x') (h1:HK φ lo lo') (h2:HK φ hi hi') (h3:HK φ mx JJ) :
  ∃v v',good (κ v h)∧VR φ v v'∧(Instr.sliceAt t x' lo' hi' JJ).run P w=.ok v' w:=by
 unfold vQ at hg
 split at hg<;>try exact absurd hg hfl
 rename_i s
 cases hx
 cases JJ with
 | some _=>exact h3.elim
 | none=>
  obtain ⟨l,hh,m,g1,g2,g3⟩:=gR (P:=P) (w:=w) hfl hg h1 h2 (mx:=none) (JJ:=none) trivial (Nat.le_refl s.size) false
  rcases g3 with ⟨_,rfl,g4,g5⟩ | ⟨g6,_⟩
  ·refine ⟨_,.string (s.extract l hh),g4,.string _,?_⟩
   simp[Instr.sliceAt,Instr.slice,aO hu,g5]
  ·exact absurd rfl g6
theorem kr:∀(d:Nat) (D:Nat),d≤D→∀(t:TypeId) (v:Value) (em:Bool),jK P d t v=true→(Instr.checkKey em D t v).run P w=.ok () w:=by
 intro d
 induction d with
 | zero=>intro D _ t v em hk; simp[jK] at hk
 | succ d ih=>
  intro D hD t v em hk
  obtain ⟨D,rfl⟩:∃k,D=k+1:=⟨D-1,by omega⟩
  simp only[jK] at hk
  split at hk<;>try (cases hk; done)
  ·rename_i hu; simp[Instr.checkKey,aO hu]
  ·rename_i hu; simp[Instr.checkKey,aO hu]
  ·rename_i hu; simp[Instr.checkKey,aO hu]
  ·rename_i fs cs hu
   simp only[Bool.and_eq_true] at hk
   obtain ⟨_,hk⟩:=hk
   simp only[Instr.checkKey,Sem.run_bind,aO hu,Result.andThen_ok]
   rw[←Array.forIn_toList]
   generalize fs.toList=l at hk
   clear hu
   induction l with
   | nil=>simp
   | cons f l ihl=>
    simp only[List.all_cons,Bool.and_eq_true] at hk
    obtain ⟨hf,hk⟩:=hk
    have nJ:=ihl hk
    have hone:∃x,(part f.type cs f.offset).run P w=.ok x w∧(Instr.checkKey em D f.type x).run P w=.ok () w:=by
     split at hf<;>try (cases hf; done)
     ·rename_i hag hsz
      exact ⟨_,g_ hag hsz cs f.offset,ih D (by omega) _ _ em hf⟩
     ·rename_i hag hsz
      split at hf<;>try (cases hf; done)
      rename_i v hv
      refine ⟨v,?_,ih D (by omega) _ _ em hf⟩
      have:=g_ (w:=w) hag hsz cs f.offset
      rw[this]; simp only[hv]
    obtain ⟨x,hx1,hx2⟩:=hone
    simp only[List.forIn_cons,Sem.run_bind,Sem.run_ite]
    split
    ·simp only[hx1,hx2,Result.andThen_ok,Sem.run_pure]
     exact nJ
    ·simp only[Sem.run_pure,Result.andThen_ok]
     exact nJ
theorem qy {d:Nat} {v:Value} (hk:jK P d t v=true):mj v=true:=by
 cases d with
 | zero=>simp[jK] at hk
 | succ d=>
  simp only[jK] at hk
  split at hk<;>try (cases hk; done)
  ·rfl
  ·rfl
  ·rfl
  ·simp only[Bool.and_eq_true] at hk; exact hk.1
theorem dL (hr:HR P φ h w) {kt:TypeId} {k k':Value} (hk:VR φ k k'):∀(es es':List MapEntry) (i:Nat) (r:Option (Nat × MapEntry)),F2 (ER φ) es es'→fR P h kt k es i=some r→
  ∃r':Option (Nat × Value),(Instr.findAsking kt k' es' i).run P w=.ok r' w∧
   match r,r' with
   | none,none=>True
   | some (j,e),some (j',v')=>j'=j∧i≤j∧es[j-i]? = some e∧VR φ e.val v'∧lM P h 100 kt k e.key=some true
   | _,_=>False:=by
 intro es
 induction es with
 | nil=>intro es' i r h2 hf; cases h2; simp only[fR] at hf; cases hf; exact ⟨none,by simp[Instr.findAsking],trivial⟩
 | cons e es ih=>
  intro es' i r h2 hf
  cases h2 with
  | cons he h2=>
   rename_i e' es'
   simp only[fR] at hf
   have key:∀q,lM P h 100 kt k e.key=some q→(Op.equal kt k' e'.key).run P w=.ok q w:=fun q hq=>sP hr 100 10000 (by omega) kt _ _ _ _ q hq hk he.key
   split at hf
   ·rename_i hq
    cases hf
    exact ⟨some (i,e'.val),by simp[Instr.findAsking,key _ hq],rfl,Nat.le_refl _,by simp,he.val,hq⟩
   ·rename_i hq
    obtain ⟨r',h3,h4⟩:=ih es' (i+1) r h2 hf
    refine ⟨r',by simp[Instr.findAsking,key _ hq,h3],?_⟩
    cases r with
    | none=>cases r' with
     | none=>trivial
     | some _=>exact h4.elim
    | some p=>
     cases r' with
     | none=>exact h4
     | some p'=>
      obtain ⟨g1,g2,g3,g4,g5⟩:=h4
      refine ⟨g1,by omega,?_,g4,g5⟩
      rw[show p.1-i=(p.1-(i+1))+1 by omega]; simpa using g3
   ·cases hf
theorem qd {D:Nat} {d:TypeDesc} {kt:TypeId} (hu:P.underlying kt=some d) {a b:Value} {q:Bool} (hs:Instr.sameNow d a b=some q):(Op.equalIn (D+1) kt a b).run P w=.ok q w:=by
 unfold Instr.sameNow at hs
 split at hs<;>try (cases hs; done)
 ·split at hs<;>try (cases hs; done)
  rename_i hk; subst hk; cases hs
  simp[Op.equalIn,aO hu]
 ·cases hs; simp[Op.equalIn,aO hu]
 ·cases hs; simp[Op.equalIn,aO hu]
theorem zf {d:TypeDesc} {kt:TypeId} (hu:P.underlying kt=some d) {k:Value}:∀(es:List MapEntry) (i:Nat) (r:Option (Nat × Value)),Instr.findNow d k es i=some r→(Instr.findAsking kt k es i).run P w=.ok r w:=by
 intro es
 induction es with
 | nil=>intro i r hf; simp only[Instr.findNow] at hf; cases hf; simp[Instr.findAsking]
 | cons e es ih=>
  intro i r hf
  simp only[Instr.findNow] at hf
  split at hf
  ·rename_i hq; cases hf
   simp[Instr.findAsking,Op.equal,qd (D:=9999) (w:=w) hu hq,Op.maxDepth]
  ·rename_i hq
   simp[Instr.findAsking,Op.equal,qd (D:=9999) (w:=w) hu hq,Op.maxDepth,ih _ _ hf]
  ·cases hf
theorem fU {kt:TypeId} {d:TypeDesc} (hu:P.underlying kt=some d) {k:Value} {es:List MapEntry} {r:Option (Nat × Value)} (ha:(Instr.findAsking kt k es 0).run P w=.ok r w) :
  (Instr.findKey kt k es).run P w=.ok r w:=by
 simp only[Instr.findKey,Sem.run_bind,aO hu,Result.andThen_ok]
 cases hn:Instr.findNow d k es 0 with
 | none=>simpa using ha
 | some r'=>
  have:=zf (w:=w) hu es 0 r' hn
  rw[ha] at this
  injection this with e1 e2
  subst e1
  simp
theorem sQ {d:Nat} {v:Value} (hk:jK P d t v=true):∃u,P.underlying t=some u:=by
 cases d with
 | zero=>simp[jK] at hk
 | succ d=>
  simp only[jK] at hk
  cases hu:P.underlying t with
  | none=>rw[hu] at hk; simp at hk
  | some u=>exact ⟨u,rfl⟩
theorem zg (hfl:¬good fl) {kt et:TypeId} (hu:P.underlying t=some (.map kt et)) (ok:Bool)
  (hr:HR P φ h w) {m m' k k':Value} {κ:Option Value→β} (hg:good (ja fl P kt m k h κ)) (hm:VR φ m m') (hk:VR φ k k') :
  ∃r r':Option Value,good (κ r)∧HK φ r r'∧(Instr.lookup t m' k' ok).run P w=(match r' with
   | some v=>.ok (if ok then .tuple #[v,.bool true] else v) w
   | none=>((zeroValue et).run P w).andThen fun z w=>.ok (if ok then .tuple #[z,.bool false] else z) w):=by
 unfold ja at hg
 split at hg<;>try exact absurd hg hfl
 rename_i LO
 have hsc:=qy LO
 have hkk:=vl hsc hk
 subst hkk
 have B2:∀em,(Instr.checkKey em 10000 kt k').run P w=.ok () w:=fun em=>kr 20 10000 (by omega) kt k' em LO
 obtain ⟨u,Qr⟩:=sQ LO
 cases hm<;>try exact absurd hg hfl
 ·refine ⟨none,none,hg,trivial,?_⟩
  have hfk:(Instr.findKey kt k' []).run P w=.ok none w:=fU Qr (by simp[Instr.findAsking])
  simp only[Instr.lookup,Sem.run_bind,aO hu,Result.andThen_ok,Sem.run_pure,B2,hfk]
  (try cases (zeroValue et).run P w<;>simp[Result.andThen])
 ·rename_i r pl hp
  simp only at hg
  split at hg<;>try exact absurd hg hfl
  rename_i es clock hb
  obtain ⟨es',hO,h2⟩:=hr.qb hb hp
  split at hg
  ·rename_i j e hf
   obtain ⟨r',g3,g4⟩:=dL hr hk es es'.toList 0 _ h2 hf
   cases r' with
   | none=>exact g4.elim
   | some p=>
    obtain ⟨j',v'⟩:=p
    obtain ⟨rfl,_,_,g5,_⟩:=g4
    refine ⟨some e.val,some v',hg,g5,?_⟩
    simp[Instr.lookup,aO hu,c_ hO,B2,fU Qr g3]
  ·rename_i hf
   obtain ⟨r',g3,g4⟩:=dL hr hk es es'.toList 0 _ h2 hf
   cases r' with
   | some p=>exact g4.elim
   | none=>
    refine ⟨none,none,hg,trivial,?_⟩
    simp only[Instr.lookup,Sem.run_bind,aO hu,Result.andThen_ok,Sem.run_pure,c_ hO,B2,fU Qr g3]
    (try cases (zeroValue et).run P w<;>simp[Result.andThen])
  ·exact absurd hg hfl
theorem zh (hfl:¬good fl) {kt et:TypeId} {zero:Value} {inf:TypeInfo} (hu:P.underlying t=some (.map kt et)) (hi:P.info? et=some inf) (hz:inf.zero=some zero) (hzs:sI zero=true) (ok:Bool)
  (hr:HR P φ h w) {m m' k k':Value} {κ:Value→Heap→β} (hg:good (cV fl P kt zero ok m k h κ)) (hm:VR φ m m') (hk:VR φ k k') :
  ∃v v',good (κ v h)∧VR φ v v'∧(Instr.lookup t m' k' ok).run P w=.ok v' w:=by
 obtain ⟨r,r',g1,g2,g3⟩:=zg hfl hu ok hr hg hm hk
 cases r<;>cases r'<;>(try exact g2.elim)<;>cases ok<;>simp only at g1
 ·exact ⟨_,zero,g1,jZ hzs,by rw[g3]; simp[gQ hi hz]⟩
 ·exact ⟨_,.tuple #[zero,.bool false],g1,VR.tuple' (.cons (jZ hzs) (.cons (.bool false) .nil)),by rw[g3]; simp[gQ hi hz]⟩
 ·exact ⟨_,_,g1,g2,by rw[g3]; simp⟩
 ·exact ⟨_,.tuple #[_,.bool true],g1,VR.tuple' (.cons g2 (.cons (.bool true) .nil)),by rw[g3]; simp⟩
theorem rm (hfl:¬good fl) {xt asserted:TypeId} {zero:Value} {inf:TypeInfo} {d:TypeDesc} (hu:P.underlying asserted=some d) (hd:∀ms,d≠.interface ms) (hi:P.info? asserted=some inf) (hz:inf.zero=some zero) (hzs:sI zero=true) (ok:Bool)
  {x x':Value} {κ:Value→Heap→β} (hg:good (dV fl asserted zero ok x h κ)) (hx:VR φ x x') :
  ∃v v',good (κ v h)∧VR φ v v'∧(Instr.typeAssert x' xt asserted ok).run P w=.ok v' w:=by
 unfold dV at hg
 split at hg<;>try exact absurd hg hfl
 ·rename_i t v
  cases hx with
  | iface _ hv=>
   rename_i v'
   split at hg<;>try exact absurd hg hfl
   ·rename_i he; have he:=bY he; subst he
    refine ⟨_,.tuple #[v',.bool true],hg,VR.tuple' (.cons hv (.cons (.bool true) .nil)),?_⟩
    simp only[Instr.typeAssert,Sem.run_bind,aO hu,Result.andThen_ok]
    cases d<;>first | exact absurd rfl (hd _) | simp
   ·rename_i he; have he:=bY he; subst he
    refine ⟨_,v',hg,hv,?_⟩
    simp only[Instr.typeAssert,Sem.run_bind,aO hu,Result.andThen_ok]
    cases d<;>first | exact absurd rfl (hd _) | simp
   ·rename_i he; have he:=mA he
    refine ⟨_,.tuple #[zero,.bool false],hg,VR.tuple' (.cons (jZ hzs) (.cons (.bool false) .nil)),?_⟩
    simp only[Instr.typeAssert,Sem.run_bind,aO hu,Result.andThen_ok]
    cases d<;>first | exact absurd rfl (hd _) | simp[he,gQ hi hz]
 ·cases hx
  split at hg<;>try exact absurd hg hfl
  refine ⟨_,.tuple #[zero,.bool false],hg,VR.tuple' (.cons (jZ hzs) (.cons (.bool false) .nil)),?_⟩
  simp only[Instr.typeAssert,Sem.run_bind,aO hu,Result.andThen_ok]
  cases d<;>first | exact absurd rfl (hd _) | simp[gQ hi hz]
theorem FY (hfl:¬good fl) {op:BinOp} {k:IntKind} {a b:Int} {κ:Value→β} (hg:good (lP fl op k a b κ)) {kb:IntKind} (hk:kb=k∨op=.shl∨op=.shr) (t:TypeId) :
  ∃v,good (κ v)∧VR φ v v∧(binOp op t (.int k a) (.int kb b)).run P w=.ok v w:=by
 cases op<;>simp only[lP,fT,bM,dN,fH,fI] at hg
 case shl=>
  split at hg<;>try exact absurd hg hfl
  rename_i hb; have hb:¬b<0:=by simpa using hb
  exact ⟨_,hg,.int _ _,by simp[binOp,Op.shift,hb]⟩
 case shr=>
  split at hg<;>try exact absurd hg hfl
  rename_i hb; have hb:¬b<0:=by simpa using hb
  exact ⟨_,hg,.int _ _,by simp[binOp,Op.shift,hb]⟩
 all_goals (have hk:kb=k:=by rcases hk with h | h | h<;>first | exact h | cases h)
 all_goals subst hk
 case quo=>
  split at hg<;>try exact absurd hg hfl
  rename_i hb; have hb:¬b=0:=by simpa using hb
  exact ⟨_,hg,.int _ _,by simp[binOp,Op.intDiv,hb]⟩
 case rem=>
  split at hg<;>try exact absurd hg hfl
  rename_i hb; have hb:¬b=0:=by simpa using hb
  exact ⟨_,hg,.int _ _,by simp[binOp,Op.intDiv,hb]⟩
 case add=>exact ⟨_,hg,.int _ _,by simp[binOp,Op.intArith]⟩
 case sub=>exact ⟨_,hg,.int _ _,by simp[binOp,Op.intArith]; rfl⟩
 case mul=>exact ⟨_,hg,.int _ _,by simp[binOp,Op.intArith]⟩
 case and=>exact ⟨_,hg,.int _ _,by simp[binOp,Op.intBits]⟩
 case or=>exact ⟨_,hg,.int _ _,by simp[binOp,Op.intBits]⟩
 case xor=>exact ⟨_,hg,.int _ _,by simp[binOp,Op.intBits]⟩
 case andNot=>exact ⟨_,hg,.int _ _,by simp[binOp,Op.intBits]⟩
 case eql=>exact ⟨_,hg,.bool _,by simp[binOp,Op.intCmp]; rfl⟩
 case neq=>exact ⟨_,hg,.bool _,by simp[binOp,Op.intCmp]; rfl⟩
 case lss=>exact ⟨_,hg,.bool _,by simp[binOp,Op.intCmp]⟩
 case leq=>exact ⟨_,hg,.bool _,by simp[binOp,Op.intCmp]; rw[Bool.eq_iff_iff]; simp⟩
 case gtr=>exact ⟨_,hg,.bool _,by simp[binOp,Op.intCmp]⟩
 case geq=>exact ⟨_,hg,.bool _,by simp[binOp,Op.intCmp]; rw[Bool.eq_iff_iff]; simp⟩
theorem wq (hr:HR P φ h w) {op:BinOp} {t:TypeId} {x y:Operand} {a b a' b':Value} {r:Bool} (hop:op=.eql∨op=.neq) (hgd:P.eqGuardType P.depth t=false)
  (ha:VR φ a a') (hb:VR φ b b') (he:lM P h 100 t a b=some r)
  (hni:¬(∃k n k' m,a=.int k n∧b=.int k' m)) (HL:¬(∃s s',a=.string s∧b=.string s')) (hnn:¬(a=.nilIface∧b=.nilIface)) :
  ((do eqGuard op t x y a' b'; binOp op t a' b'):Sem Value).run P w=.ok (.bool (if op=.eql then r else !r)) w:=by
 have hq:=sP hr 100 10000 (by omega) t a b a' b' r he ha hb
 have HM:(Op.equal t a' b').run P w=.ok r w:=hq
 have hg:(eqGuard op t x y a' b').run P w=.ok () w:=by
  rcases hop with rfl | rfl<;>cases ha<;>first
   | (simp[eqGuard]; done)
   | (cases hb<;>first | (simp[eqGuard,hgd]; done) | exact absurd ⟨rfl,rfl⟩ hnn)
 have aeT:(binOp op t a' b').run P w=.ok (.bool (if op=.eql then r else !r)) w:=by
  rcases hop with rfl | rfl<;>cases ha<;>first
   | (simp[binOp,HM]; done)
   | (cases hb<;>first | (simp[binOp,HM]; done) | exact absurd ⟨_,_,_,_,rfl,rfl⟩ hni | exact absurd ⟨_,_,rfl,rfl⟩ HL)
 simp[hg,aeT]
end Go.Vai

namespace Go.Vai
open Go
variable {β:Type} {fl:β} {good:β→Prop} {P:Program} {φ:dG} {h:Heap} {w:World} {t:TypeId}
theorem FZ (hfl:¬good fl) (hr:HR P φ h w) {op:BinOp} {t:TypeId} {x y:Operand} {a b a' b':Value} {κ:Value→Heap→β}
  (hg:good (au fl P op t ((x matches .const _) || (y matches .const _)) (P.eqGuardType P.depth t) a b h κ)) (ha:VR φ a a') (hb:VR φ b b') :
  ∃v v',good (κ v h)∧VR φ v v'∧((do eqGuard op t x y a' b'; binOp op t a' b'):Sem Value).run P w=.ok v' w:=by
 unfold au at hg
 split at hg
 ·rename_i k n k' m
  cases ha; cases hb
  have fin:∀op',good (lP fl op' k n m fun v=>κ v h)→(k'=k∨op'=.shl∨op'=.shr)→op'=op→
    ∃v v',good (κ v h)∧VR φ v v'∧((do eqGuard op t x y (.int k n) (.int k' m); binOp op t (.int k n) (.int k' m)):Sem Value).run P w=.ok v' w:=by
   intro op' hg1 hk e
   subst e
   obtain ⟨v,g1,g2,g3⟩:=FY (P:=P) (w:=w) (φ:=φ) hfl hg1 hk t
   refine ⟨v,v,g1,g2,?_⟩
   rw[eqGuard_at_int]
   simpa using g3
  split at hg
  ·rename_i hk; rw[fm] at hk
   exact fin _ hg (.inl (by simpa[eq_comm] using hk)) rfl
  ·exact fin _ hg (.inr (.inl rfl)) rfl
  ·exact fin _ hg (.inr (.inr rfl)) rfl
  ·exact absurd hg hfl
 ·rename_i s s'
  cases ha; cases hb
  split at hg
  ·split at hg<;>try exact absurd hg hfl
   rename_i hle; have hle:=ck hle
   refine ⟨_,_,hg,.string _,?_⟩
   have h1:¬((s.size+s'.size:Nat):Int) > IntKind.i64.max:=by
    rw[IntKind.max_i64]; have:s.size+s'.size≤9223372036854775807:=hle; omega
   have h2:¬(9223372036854775807:Int)<(s.size:Int)+(s'.size:Int):=by have:s.size+s'.size≤9223372036854775807:=hle; omega
   simp[eqGuard,binOp,Op.stringOp,h2]
  ·simp only[bM,ji] at hg
   refine ⟨_,_,hg,.bool _,?_⟩
   rw[←Qp,beq_toListBytes]
   simp[eqGuard,binOp,Op.stringOp]
  ·simp only[bM,ji] at hg
   refine ⟨_,_,hg,.bool _,?_⟩
   rw[←Qp,beq_toListBytes]
   simp[eqGuard,binOp,Op.stringOp]
  ·exact absurd hg hfl
 ·cases ha; cases hb
  have hq:∀r,lM P h 100 t .nilIface .nilIface=some r→(Op.equal t .nilIface .nilIface).run P w=.ok r w:=
   fun r he=>sP hr 100 10000 (by omega) t _ _ _ _ r he .nilIface .nilIface
  split at hg<;>try exact absurd hg hfl
  ·rename_i hcn
   split at hg<;>try exact absurd hg hfl
   rename_i r he
   simp only[bM] at hg
   refine ⟨_,_,hg,.bool _,?_⟩
   cases x<;>cases y<;>simp at hcn<;>simp[eqGuard,binOp,hq r he]
  ·rename_i hcn
   split at hg<;>try exact absurd hg hfl
   rename_i r he
   simp only[bM] at hg
   refine ⟨_,_,hg,.bool _,?_⟩
   cases x<;>cases y<;>simp at hcn<;>simp[eqGuard,binOp,hq r he]
 ·exact absurd hg hfl
 ·exact absurd hg hfl
 ·exact absurd hg hfl
 ·exact absurd hg hfl
 ·have n1:∀k n k' m,a=.int k n→b=.int k' m→False:=by assumption
  have n2:∀s s',a=.string s→b=.string s'→False:=by assumption
  have n3:a=.nilIface→b=.nilIface→False:=by assumption
  split at hg<;>try exact absurd hg hfl
  ·rename_i hgd
   split at hg<;>try exact absurd hg hfl
   rename_i r he
   simp only[bM] at hg
   refine ⟨_,_,hg,.bool _,?_⟩
   have:=wq (x:=x) (y:=y) hr (op:=.eql) (.inl rfl) hgd ha hb he (fun ⟨k,n,k',m,e1,e2⟩=>n1 k n k' m e1 e2) (fun ⟨s,s',e1,e2⟩=>n2 s s' e1 e2) (fun ⟨e1,e2⟩=>n3 e1 e2)
   simpa using this
  ·rename_i hgd
   split at hg<;>try exact absurd hg hfl
   rename_i r he
   simp only[bM] at hg
   refine ⟨_,_,hg,.bool _,?_⟩
   have:=wq (x:=x) (y:=y) hr (op:=.neq) (.inr rfl) hgd ha hb he (fun ⟨k,n,k',m,e1,e2⟩=>n1 k n k' m e1 e2) (fun ⟨s,s',e1,e2⟩=>n2 s s' e1 e2) (fun ⟨e1,e2⟩=>n3 e1 e2)
   simpa using this
theorem iQ {s:Sem Value} {v:Value} {w':World} (hs:s.run P w=.ok v w'):((do pure (Next.value (←s)):Sem Next)).run P w=.ok (.value v) w':=by simp[hs]
theorem uR {z:List Value} {place:Nat→Option (Nat × Nat)} (hp:mq P t=some (z,place)) {parts:List (Nat × Value)} {r:Array Value} (hf:Instr.fill place z.toArray parts=some r) :
  P.built t parts=some r∧z.all fF=true:=by
 unfold mq at hp
 unfold Program.built
 split at hp<;>try (cases hp; done)
 ·rename_i it n e hi hu
  split at hp<;>try (cases hp; done)
  rename_i zv ie hz hie
  split at hp<;>try (cases hp; done)
  rename_i hb
  cases hp
  refine ⟨?_,hb⟩
  simp only[hi,hu,hz,hie]
  simpa using hf
 ·rename_i it fs hi hu
  split at hp<;>try (cases hp; done)
  rename_i zv places hz PZ
  split at hp<;>try (cases hp; done)
  rename_i hb
  cases hp
  refine ⟨?_,hb⟩
  simp only[hi,hu,hz,PZ]
  simpa using hf
theorem uS {z:List Value} {place:Nat→Option (Nat × Nat)} (hp:mq P t=some (z,place)):z.all fF=true:=by
 unfold mq at hp
 split at hp<;>try (cases hp; done)
 ·split at hp<;>try (cases hp; done)
  split at hp<;>try (cases hp; done)
  rename_i hb; cases hp; exact hb
 ·split at hp<;>try (cases hp; done)
  split at hp<;>try (cases hp; done)
  rename_i hb; cases hp; exact hb
theorem qe {lo hi mx:Option Operand} {f g:Operand→Value} (hv:∀y∈nZ lo hi mx,VR φ (f y) (g y)) {l hh m:Option Value}
  (hb:u_ lo.isSome hi.isSome mx.isSome ((nZ lo hi mx).map f)=some (l,hh,m)) :
  HK φ l (lo.map g)∧HK φ hh (hi.map g)∧HK φ m (mx.map g):=by
 cases lo<;>cases hi<;>cases mx<;>simp[nZ,u_] at hb hv<;>obtain ⟨rfl,rfl,rfl⟩:=hb<;>simp_all<;>trivial
set_option maxHeartbeats 1000000 in
theorem uh (hfl:¬good fl) {op:Op} {i:XI β} (hc:nI fl P op=some i) {tm:T Value} {ρ:Operand→Value} (hρ:∀y∈op.operands.toList,VR φ (eN tm y) (ρ y)) (hr:HR P φ h w)
  {κ:Value→Heap→β} (hg:good (i.run tm h κ)) {o:Oper} (ho:o.op=op) :
  ∃v v',good (κ v h)∧VR φ v v'∧(execOp ρ o).run P w=.ok (.value v') w:=by
 have lift:∀{s:Sem Value},(∃v v',good (κ v h)∧VR φ v v'∧s.run P w=.ok v' w)→execOp ρ o=(do pure (Next.value (←s)))→
   ∃v v',good (κ v h)∧VR φ v v'∧(execOp ρ o).run P w=.ok (.value v') w:=by
  intro s ⟨v,v',g1,g2,g3⟩ e
  exact ⟨v,v',g1,g2,by rw[e]; exact iQ g3⟩
 cases op<;>simp only[nI] at hc<;>try (cases hc; done)
 case move x=>
  cases hc; rw[XI.bZ] at hg
  exact ⟨_,ρ x,hg,hρ x (by simp[Op.operands]),by simp[execOp,ho]⟩
 case assign x=>
  cases hc; rw[XI.bZ] at hg
  exact ⟨_,ρ x,hg,hρ x (by simp[Op.operands]),by simp[execOp,ho]⟩
 case pick c a b=>
  cases hc; rw[XI.qt] at hg
  obtain ⟨v,v',g1,g2,g3⟩:=Ce (P:=P) (w:=w) hfl hg (hρ c (by simp[Op.operands])) (hρ a (by simp[Op.operands])) (hρ b (by simp[Op.operands]))
  exact ⟨v,v',g1,g2,by simp only[execOp,ho]; exact g3⟩
 case build t parts=>
  split at hc<;>try (cases hc; done)
  rename_i z place hp
  split at hc<;>try (cases hc; done)
  rename_i ps hps
  cases hc; rw[XI.gJ] at hg
  have hb:=uS hp
  rw[List.map_map] at hg
  obtain ⟨r,r',g1,g2,g3⟩:=uf (φ:=φ) hfl tm ρ place parts.toList ps hps (fun p B3=>hρ p.2 (by simp[Op.operands]; exact ⟨p.1,by simpa using B3⟩)) z z (iq hb) _ hg
  obtain ⟨g4,_⟩:=uR hp g3
  refine ⟨_,.agg r'.toArray,g1,VR.qu (by simpa using g2),?_⟩
  have g5:=run_build (P:=P) w t (parts.map fun (i,x)=>(i,ρ x)) r'.toArray (by simpa using g4)
  simp only[execOp,ho]
  exact iQ g5
 case load t a=>
  split at hc<;>try (cases hc; done)
  ·rename_i hag hsz; cases hc; rw[XI.bZ] at hg
   exact lift (ue hfl hag hsz hg (hρ a (by simp[Op.operands])) hr) (by simp only[execOp,ho])
  ·rename_i hag hsz; cases hc; rw[XI.bZ] at hg
   exact lift (k9 hfl hag hg (hρ a (by simp[Op.operands])) hr) (by simp only[execOp,ho])
 case nilCheck x=>
  cases hc; rw[XI.bZ] at hg
  exact FU hfl hg (hρ x (by simp[Op.operands])) o ρ x ho rfl
 case binOp op t x y yt=>
  cases hc; rw[XI.cU] at hg
  exact lift (FZ hfl hr hg (hρ x (by simp[Op.operands])) (hρ y (by simp[Op.operands]))) (by simp only[execOp,ho])
 case unOp op t x=>
  cases hc; rw[XI.bZ] at hg
  exact lift (JG hfl hg (hρ x (by simp[Op.operands]))) (by simp only[execOp,ho])
 case convert src dst x=>
  split at hc<;>try (cases hc; done)
  ·rename_i hs hd; cases hc; rw[XI.bZ] at hg
   exact lift (Cf hfl hs hd hg (hρ x (by simp[Op.operands]))) (by simp only[execOp,ho])
  ·rename_i hs hd; cases hc; rw[XI.bZ] at hg
   split at hg<;>try exact absurd hg hfl
   rename_i s hx
   have hv:=hρ x (by simp[Op.operands])
   rw[hx] at hv
   generalize hy:ρ x=y at hv
   cases hv
   refine ⟨_,.string s,hg,.string s,?_⟩
   simp[execOp,ho,convert,aO hs,aO hd,hy]
 case makeInterface t x=>
  split at hc<;>try (cases hc; done)
  rename_i d hni hu
  cases hc; rw[XI.bZ] at hg
  refine ⟨_,.iface t (ρ x),hg,.iface t (hρ x (by simp[Op.operands])),?_⟩
  have:(Instr.makeInterface t (ρ x)).run P w=.ok (.iface t (ρ x)) w:=by
   simp only[Instr.makeInterface,Sem.run_bind,aO hu,Result.andThen_ok]
   cases d<;>first | exact absurd hu (hni _) | rfl
  simp only[execOp,ho]
  exact iQ this
 case makeFunc fn first cap=>
  cases fn<;>try (cases hc; done)
  rename_i fn
  cases hc; rw[XI.gJ] at hg
  have hv:F2 (VR φ) ((first.toList++cap.toList).map (eN tm)) ((first.toList++cap.toList).map ρ):=F2.map _ fun x hx=>hρ x (by simpa[Op.operands] using hx)
  refine ⟨_,.func (.func fn) (first.map ρ) (cap.map ρ),hg,?_,by simp[execOp,ho,Instr.makeFunc]⟩
  refine VR.func' ?_ ?_
  ·have:=hv.take first.toList.length
   simpa using this
  ·have:=hv.drop first.toList.length
   simpa using this
 case slice t x lo hi mx=>
  have hx:VR φ (eN tm x) (ρ x):=hρ x (by simp[Op.operands])
  have UO:∀y∈nZ lo hi mx,VR φ (eN tm y) (ρ y):=fun y hy=>hρ y (by
   cases lo<;>cases hi<;>cases mx<;>simp[nZ] at hy<;>simp[Op.operands,hy])
  split at hc<;>try (cases hc; done)
  ·rename_i e hu
   split at hc<;>try (cases hc; done)
   rename_i s hs
   cases hc; rw[XI.gJ] at hg
   simp only[List.map_cons] at hg
   split at hg<;>try exact absurd hg hfl
   rename_i l hh m hb
   obtain ⟨k1,k2,k3⟩:=qe UO hb
   exact lift (AZ hfl hu hs hr hg hx k1 k2 k3) (by simp only[execOp,ho])
  ·rename_i hu
   cases hc; rw[XI.gJ] at hg
   simp only[List.map_cons] at hg
   split at hg<;>try exact absurd hg hfl
   rename_i l hh m hb
   obtain ⟨k1,k2,k3⟩:=qe UO hb
   exact lift (A0 hfl hu hg hx k1 k2 k3) (by simp only[execOp,ho])
 case fieldAddr t x f=>
  split at hc<;>try (cases hc; done)
  rename_i fs hu
  split at hc<;>try (cases hc; done)
  rename_i sJ hf
  split at hc<;>try (cases hc; done)
  rename_i s hs
  cases hc; rw[XI.bZ] at hg
  exact lift (sM hfl hu hf hs hg (hρ x (by simp[Op.operands]))) (by simp only[execOp,ho])
 case field t x f=>
  split at hc<;>try (cases hc; done)
  rename_i fs hu
  split at hc<;>try (cases hc; done)
  rename_i sJ hf
  split at hc<;>try (cases hc; done)
  rename_i b s hb hs
  cases hc; rw[XI.bZ] at hg
  exact lift (AV hfl hu hf hb hs hg (hρ x (by simp[Op.operands]))) (by simp only[execOp,ho])
 case indexAddr t x i=>
  split at hc<;>try (cases hc; done)
  ·rename_i e hu
   split at hc<;>try (cases hc; done)
   rename_i s hs
   cases hc; rw[XI.cU] at hg
   exact lift (sN hfl hu hs hg (hρ x (by simp[Op.operands])) (hρ i (by simp[Op.operands]))) (by simp only[execOp,ho])
  ·rename_i len e hu
   split at hc<;>try (cases hc; done)
   rename_i s hs
   cases hc; rw[XI.cU] at hg
   exact lift (sO hfl hu hs hg (hρ x (by simp[Op.operands])) (hρ i (by simp[Op.operands]))) (by simp only[execOp,ho])
 case index t x i=>
  split at hc<;>try (cases hc; done)
  ·rename_i len e hu
   split at hc<;>try (cases hc; done)
   rename_i b s hb hs
   cases hc; rw[XI.cU] at hg
   exact lift (AX hfl hu hb hs hg (hρ x (by simp[Op.operands])) (hρ i (by simp[Op.operands]))) (by simp only[execOp,ho])
  ·rename_i hu
   cases hc; rw[XI.cU] at hg
   exact lift (AY hfl hu hg (hρ x (by simp[Op.operands])) (hρ i (by simp[Op.operands]))) (by simp only[execOp,ho])
 case lookup t x i ok=>
  split at hc<;>try (cases hc; done)
  rename_i kt et hu
  split at hc<;>try (cases hc; done)
  rename_i z hz
  split at hc<;>try (cases hc; done)
  rename_i hzs
  cases hc; rw[XI.cU] at hg
  cases hi:P.info? et with
  | none=>rw[hi] at hz; simp at hz
  | some inf=>
   rw[hi] at hz; simp at hz
   exact lift (zh hfl hu hi hz hzs ok hr hg (hρ x (by simp[Op.operands])) (hρ i (by simp[Op.operands]))) (by simp only[execOp,ho])
 case typeAssert x xt t ok=>
  split at hc<;>try (cases hc; done)
  rename_i d z hni hu hz
  split at hc<;>try (cases hc; done)
  rename_i hzs
  cases hc; rw[XI.bZ] at hg
  cases hi:P.info? t with
  | none=>rw[hi] at hz; simp at hz
  | some inf=>
   rw[hi] at hz; simp at hz
   exact lift (rm (xt:=xt) hfl hu (fun ms e=>hni ms e) hi hz hzs ok hg (hρ x (by simp[Op.operands]))) (by simp only[execOp,ho])
 case extract x i=>
  cases hc; rw[XI.bZ] at hg
  exact lift (wo hfl hg (hρ x (by simp[Op.operands]))) (by simp only[execOp,ho])
 case call c=>
  obtain ⟨callee,args,ts⟩:=c
  cases callee<;>(try simp only at hc)<;>try (cases hc; done)
  rename_i b
  cases b<;>(try simp only at hc)<;>try (cases hc; done)
  case len=>
   split at hc<;>try (cases hc; done)
   rename_i x t hx ht
   have hargs:args=#[x]:=Array.ext' (by simpa using hx)
   have sR:VR φ (eN tm x) (ρ x):=hρ x (by simp[Op.operands,Call.operands,hargs])
   have hex:execOp ρ o=(do pure (Next.value (←Builtin.len_ ts o.type #[ρ x]))):=by
    simp[execOp,ho,resolve,invoke,builtin,hargs]
   split at hc<;>try (cases hc; done)
   ·rename_i hu; cases hc; rw[XI.bZ] at hg
    exact lift (AS hfl hg sR ht hu) hex
   ·rename_i hu; cases hc; rw[XI.bZ] at hg
    exact lift (AT hfl hg sR ht hu) hex
   ·rename_i hu; cases hc; rw[XI.bZ] at hg
    exact lift (AU hfl hg sR hr ht hu) hex
  case min=>
   split at hc<;>try (cases hc; done)
   rename_i a b hx
   have hargs:args=#[a,b]:=Array.ext' (by simpa using hx)
   have ha:VR φ (eN tm a) (ρ a):=hρ a (by simp[Op.operands,Call.operands,hargs])
   have hb:VR φ (eN tm b) (ρ b):=hρ b (by simp[Op.operands,Call.operands,hargs])
   cases hc; rw[XI.cU] at hg
   have hex:execOp ρ o=(do pure (Next.value (←Builtin.min_ ts o.type #[ρ a,ρ b]))):=by simp[execOp,ho,resolve,invoke,builtin,hargs]
   unfold Ly at hg
   split at hg<;>try exact absurd hg hfl
   rename_i k x k' y e1 e2
   rw[e1] at ha; rw[e2] at hb
   have e3:ρ a=.int k x:=by generalize ρ a=z at ha; cases ha; rfl
   have e4:ρ b=.int k' y:=by generalize ρ b=z at hb; cases hb; rfl
   have hrun:=run_min_int2 (P:=P) (w:=w) ts o.type k k' x y
   rw[e3,e4] at hex
   split at hg
   ·rename_i hlt
    rw[fH,decide_eq_true_eq] at hlt
    rw[if_pos hlt] at hrun
    exact lift ⟨_,_,hg,.int _ _,hrun⟩ hex
   ·rename_i hlt
    rw[fH,decide_eq_false_iff_not] at hlt
    rw[if_neg hlt] at hrun
    exact lift ⟨_,_,hg,.int _ _,hrun⟩ hex
  case max=>
   split at hc<;>try (cases hc; done)
   rename_i a b hx
   have hargs:args=#[a,b]:=Array.ext' (by simpa using hx)
   have ha:VR φ (eN tm a) (ρ a):=hρ a (by simp[Op.operands,Call.operands,hargs])
   have hb:VR φ (eN tm b) (ρ b):=hρ b (by simp[Op.operands,Call.operands,hargs])
   cases hc; rw[XI.cU] at hg
   have hex:execOp ρ o=(do pure (Next.value (←Builtin.max_ ts o.type #[ρ a,ρ b]))):=by simp[execOp,ho,resolve,invoke,builtin,hargs]
   unfold AM at hg
   split at hg<;>try exact absurd hg hfl
   rename_i k x k' y e1 e2
   rw[e1] at ha; rw[e2] at hb
   have e3:ρ a=.int k x:=by generalize ρ a=z at ha; cases ha; rfl
   have e4:ρ b=.int k' y:=by generalize ρ b=z at hb; cases hb; rfl
   have hrun:=run_max_int2 (P:=P) (w:=w) ts o.type k k' x y
   rw[e3,e4] at hex
   split at hg
   ·rename_i hlt
    rw[fH,decide_eq_true_eq] at hlt
    rw[if_pos hlt] at hrun
    exact lift ⟨_,_,hg,.int _ _,hrun⟩ hex
   ·rename_i hlt
    rw[fH,decide_eq_false_iff_not] at hlt
    rw[if_neg hlt] at hrun
    exact lift ⟨_,_,hg,.int _ _,hrun⟩ hex
end Go.Vai
