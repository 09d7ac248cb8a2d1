/-
  PROVED HERE: a part of the proof (VaiX, VaiR, VaiS1, VaiS2, VaiS3, VaiS4, VaiS5, VaiS6, VaiS7).
-/
import GoSem.Dispatch
import GoSem.Machine.Exec
import Derived.Calls
import Derived.IntWalk
import Derived.Laws.Cells
import Derived.Laws.CopyRow
import Derived.Laws.StructEq
import Derived.Laws.World
import Derived.Laws.Small
import Derived.Laws.Append
set_option linter.unusedVariables false
set_option linter.unusedSimpArgs false
namespace Go.Vai
inductive T (α:Type) where
 | nil:T α
 | node (l:T α) (v:Option α) (r:T α):T α
noncomputable def KD (f:Nat):Nat→List Bool:=
 Nat.rec (motive:=fun _=>Nat→List Bool) (fun _=>[])
  (fun _ ih n=>Bool.rec (motive:=fun _=>List Bool) (Nat.beq (Nat.mod n 2) 1::ih (Nat.div (Nat.sub n 1) 2)) [] (Nat.beq n 0)) f
noncomputable def key (n:Nat):List Bool:=KD n n
noncomputable def T.Fg {α:Type} (p:List Bool):T α→Option α:=
 List.rec (motive:=fun _=>T α→Option α) (fun t=>T.rec (motive:=fun _=>Option α) none (fun _ v _ _ _=>v) t)
  (fun b _ ih t=>T.rec (motive:=fun _=>Option α) none (fun l _ r _ _=>Bool.rec (motive:=fun _=>Option α) (ih l) (ih r) b) t) p
noncomputable def T.SR {α β:Type} (a:α) (p:List Bool):T α→(T α→β)→β:=
 List.rec (motive:=fun _=>T α→(T α→β)→β)
  (fun t κ=>T.rec (motive:=fun _=>β) (κ (.node .nil (some a) .nil)) (fun l _ r _ _=>κ (.node l (some a) r)) t)
  (fun b _ ih t κ=>T.rec (motive:=fun _=>β)
   (Bool.rec (motive:=fun _=>β) (ih .nil fun l=>κ (.node l none .nil)) (ih .nil fun r=>κ (.node .nil none r)) b)
   (fun l v r _ _=>Bool.rec (motive:=fun _=>β) (ih l fun l=>κ (.node l v r)) (ih r fun r=>κ (.node l v r)) b) t) p
noncomputable def T.get {α:Type} (t:T α) (n:Nat):Option α:=T.Fg (key n) t
noncomputable def T.set {α β:Type} (t:T α) (n:Nat) (a:α) (κ:T α→β):β:=T.SR a (key n) t κ
inductive Ex where
 | normal | exit (id:Nat) | ret
inductive bC where
 | cells (n:Nat) (c:T Value) (elem:TypeId) (Kh:Bool)
 | map (es:List MapEntry) (clock:Nat)
 | dz (m:Option Nat) (since:Nat) (seen:List Nat) (stepped:Nat)
 | MZ (s:ByteArray) (pos:Nat)
 | dead (n:Nat) (elem:TypeId)
 | ro (n:Nat) (c:T Value) (elem:TypeId)
 | loop (st:LoopState) (cB:Option Ex) (tm:T Value) (ps:List Nat) (a b:Code)
structure Heap where
 nx:Nat
 bl:T bC
 lo:Nat
def aM:Nat:=1267650600228229401496703205376
def fk:Nat:=1267650600228229401496703205377
section
variable {β:Type}
noncomputable def rF (n:Nat) (κ:Nat→β):β:=Nat.rec (motive:=fun _=>β) (κ 0) (fun m _=>κ (Nat.succ m)) n
noncomputable def Ci (i:Int) (κ:Int→β):β:=Int.rec (motive:=fun _=>β) (fun n=>rF n fun n=>κ (.ofNat n)) (fun n=>rF n fun n=>κ (.negSucc n)) i
noncomputable def DG (b:Bool) (κ:Bool→β):β:=Bool.rec (motive:=fun _=>β) (κ false) (κ true) b
def rG:Int→Int→Bool
 | .ofNat a,.ofNat b=>Nat.ble (Nat.succ a) b
 | .ofNat _,.negSucc _=>false
 | .negSucc _,.ofNat _=>true
 | .negSucc a,.negSucc b=>Nat.ble (Nat.succ b) a
def oN:Int→Int→Bool
 | .ofNat a,.ofNat b=>Nat.beq a b
 | .negSucc a,.negSucc b=>Nat.beq a b
 | _,_=>false
def fO:IntKind→IntKind→Bool
 | .i8,.i8 | .i16,.i16 | .i32,.i32 | .i64,.i64 | .u8,.u8 | .u16,.u16 | .u32,.u32 | .u64,.u64=>true
 | _,_=>false
def ko (k:IntKind) (n:Int):Int:=
 match k,n with
 | .i64,.ofNat m=>match Nat.ble m 9223372036854775807 with | true=>.ofNat m | false=>k.wrap n
 | .i64,.negSucc m=>match Nat.ble m 9223372036854775807 with | true=>.negSucc m | false=>k.wrap n
 | .u8,.ofNat m=>.ofNat (Nat.mod m 256)
 | .u32,.ofNat m=>.ofNat (Nat.mod m 4294967296)
 | .u64,.ofNat m=>.ofNat (Nat.mod m 18446744073709551616)
 | _,_=>k.wrap n
def mT:List UInt8→List UInt8→Bool
 | [],[]=>true
 | a::x,b::y=>match Nat.beq a.toNat b.toNat with | true=>mT x y | false=>false
 | _,_=>false
def jg (a b:ByteArray):Bool:=mT a.data.toList b.data.toList
def sD (f:Value→Value→Bool):List Value→List Value→Bool
 | [],[]=>true
 | x::xs,y::ys=>f x y && sD f xs ys
 | _,_=>false
def jD:Nat→Value→Value→Bool
 | 0,_,_=>false
 | n+1,a,b=>match a,b with
  | .bool a,.bool b=>a == b
  | .int k a,.int k' b=>fO k k' && oN a b
  | .string a,.string b=>jg a b
  | .pointer none,.pointer none=>true
  | .pointer (some ⟨b,o,none⟩),.pointer (some ⟨b',o',none⟩)=>Nat.beq b b' && Nat.beq o o'
  | .slice none n c,.slice none n' c'=>Nat.beq n n' && Nat.beq c c'
  | .slice (some ⟨b,o,none⟩) n c,.slice (some ⟨b',o',none⟩) n' c'=>Nat.beq b b' && Nat.beq o o' && Nat.beq n n' && Nat.beq c c'
  | .map none,.map none=>true
  | .map (some b),.map (some b')=>Nat.beq b b'
  | .nilFunc,.nilFunc=>true
  | .nilIface,.nilIface=>true
  | .iface t x,.iface t' x'=>Nat.beq t t' && jD n x x'
  | .agg x,.agg y=>sD (jD n) x.toList y.toList
  | .tuple x,.tuple y=>sD (jD n) x.toList y.toList
  | .func (.func f) a b,.func (.func g) c d=>Nat.beq f g && sD (jD n) a.toList c.toList && sD (jD n) b.toList d.toList
  | _,_=>false
noncomputable def cT (tm:T Value) (t:Nat):Value:=match tm.get t with | some v=>v | none=>undef
noncomputable def dV (tm:T Value):Operand→Value
 | .tmp t=>cT tm t
 | .const v=>v
 | .func f=>.func (.func f) #[] #[]
 | .global _=>undef
noncomputable def ev (tm:T Value) (x:Operand) (κ:Value→β):β:=
 match x with
 | .tmp t=>match tm.get t with | some v=>κ v | none=>κ undef
 | .const v=>κ v
 | .func f=>κ (.func (.func f) #[] #[])
 | .global _=>κ undef
noncomputable def KE (tm:T Value):List Operand→(List Value→β)→β
 | [],κ=>κ []
 | x::xs,κ=>ev tm x fun v=>KE tm xs fun vs=>κ (v::vs)
def eW:Value→Bool
 | .bool _ | .int .. | .string _ | .nilFunc | .nilIface | .pointer none | .map none=>true
 | .slice none n c=>Nat.ble n c
 | _=>false
def qa:Value→Bool
 | .agg cs | .tuple cs=>cs.toList.all eW
 | .iface _ v=>eW v
 | v=>eW v
def iu:Value→Bool
 | .bool _ | .int .. | .string _=>true
 | _=>false
def kq:Value→Bool
 | .agg cs=>cs.toList.all iu
 | v=>iu v
def dY (P:Program) (t:TypeId):Option Nat:=(P.info? t).map (·.size)
def zeroOf (P:Program) (t:TypeId):Option (List Value):=(P.info? t).bind fun i=>i.zero.bind fun z=>match z.cells.toList.all eW with
 | true=>some z.cells.toList
 | false=>none
def Ou (P:Program) (t:TypeId):Option (List Value × Nat):=match zeroOf P t,dY P t with
 | some z,some (s+1)=>match Nat.beq z.length (s+1) with | true=>some (z,s+1) | false=>none
 | _,_=>none
def nZ:TypeDesc→Bool
 | .int _=>true
 | _=>false
def kr (P:Program) (t:TypeId):Option Bool:=match P.underlying t with
 | some (.struct _) | some (.array _ _)=>some true
 | some _=>some false
 | none=>none
variable (fl:β)
def vH (P:Program) (rec:TypeId→Value→Value→Option Bool):List Field→List Value→List Value→Option Bool
 | [],_,_=>some true
 | f::fs,xs,ys=>
  match f.name == "_" with
  | true=>none
  | false=>
   match kr P f.type,dY P f.type with
   | some true,some s=>match rec f.type (.agg ⟨(xs.drop f.offset).take s⟩) (.agg ⟨(ys.drop f.offset).take s⟩) with
     | some true=>vH P rec fs xs ys
     | r=>r
   | some false,some _=>match xs[f.offset]?,ys[f.offset]? with
    | some x,some y=>match rec f.type x y with
     | some true=>vH P rec fs xs ys
     | r=>r
    | _,_=>none
   | _,_=>none
noncomputable def sE (h:Heap) (b:Nat):Bool:=match h.bl.get b with | some (.cells ..)=>true | _=>false
noncomputable def kV (P:Program) (h:Heap):Nat→TypeId→Value→Value→Option Bool
 | 0,_,_,_=>none
 | d+1,t,x,y=>
  match P.underlying t,x,y with
  | some .bool,.bool a,.bool b=>some (match a,b with | true,true | false,false=>true | _,_=>false)
  | some (.int _),.int k a,.int k' b=>match fO k k' with | true=>some (oN a b) | false=>none
  | some .string,.string a,.string b=>some (jg a b)
  | some (.pointer _),.pointer none,.pointer none=>some true
  | some (.pointer _),.pointer none,.pointer (some _)=>some false
  | some (.pointer _),.pointer (some _),.pointer none=>some false
  | some (.pointer e),.pointer (some ⟨b,o,none⟩),.pointer (some ⟨b',o',none⟩)=>
   match dY P e with
   | some (_+1)=>match sE h b,sE h b' with
    | true,true=>match Nat.beq b b' with
     | true=>some (Nat.beq o o')
     | false=>some false
    | _,_=>none
   | _=>none
  | some (.interface _),.nilIface,.nilIface=>some true
  | some (.interface _),.nilIface,.iface _ _=>some false
  | some (.interface _),.iface _ _,.nilIface=>some false
  | some (.struct fs),.agg xs,.agg ys=>match P.stoodInHeld t with
   | true=>none
   | false=>vH P (kV P h d) fs.toList xs.toList ys.toList
  | some (.slice _),.slice none _ _,.slice none _ _=>some true
  | some (.slice _),.slice none _ _,.slice (some _) _ _=>some false
  | some (.slice _),.slice (some _) _ _,.slice none _ _=>some false
  | some (.map _ _),.map none,.map none=>some true
  | some (.map _ _),.map none,.map (some _)=>some false
  | some (.map _ _),.map (some _),.map none=>some false
  | some (.func ..),.nilFunc,.nilFunc=>some true
  | some (.func ..),.nilFunc,.func ..=>some false
  | some (.func ..),.func ..,.nilFunc=>some false
  | _,_,_=>none
noncomputable def jh (c:T Value) (off:Nat) (n:Nat):List Value→(List Value→β)→β:=
 Nat.rec (motive:=fun _=>List Value→(List Value→β)→β) (fun acc κ=>κ acc)
  (fun s ih acc κ=>Option.rec (motive:=fun _=>β) fl (fun v=>ih (v::acc) κ) (c.get (Nat.add off s))) n
def dR:Value→Bool
 | .agg _ | .tuple _=>false
 | _=>true
noncomputable def jY (n:Nat) (vs:List Value):T Value→Nat→(T Value→β)→β:=
 List.rec (motive:=fun _=>T Value→Nat→(T Value→β)→β) (fun c _ κ=>κ c)
  (fun v _ ih c off κ=>Bool.rec (motive:=fun _=>β) fl (Bool.rec (motive:=fun _=>β) fl (T.set c off v fun c=>ih c (Nat.succ off) κ) (Nat.ble (Nat.succ off) n)) (dR v)) vs
noncomputable def KF (vs:List Value):T Value→Nat→(T Value→Nat→β)→β:=
 List.rec (motive:=fun _=>T Value→Nat→(T Value→Nat→β)→β) (fun c off κ=>κ c off)
  (fun v _ ih c off κ=>T.set c off v fun c=>rF (Nat.succ off) fun off=>ih c off κ) vs
noncomputable def an (_fl:β) (o:bC) (h:Heap) (κ:Nat→Heap→β):β:=
 T.set h.bl h.nx o fun bl=>rF (Nat.succ h.nx) fun nx=>κ h.nx ⟨nx,bl,h.lo⟩
noncomputable def setBlock (b:Nat) (o:bC) (h:Heap) (κ:Heap→β):β:=
 match Nat.ble h.lo b with
 | true=>T.set h.bl b o fun bl=>κ ⟨h.nx,bl,h.lo⟩
 | false=>fl
noncomputable def az (vs:List Value) (e:TypeId) (Kh:Bool) (κ:bC→β):β:=
 KF vs .nil 0 fun c n=>match Nat.ble n 1000000000000 with
  | true=>κ (.cells n c e Kh)
  | false=>fl
noncomputable def dL (vs:List Value) (e:TypeId) (Kh:Bool) (h:Heap) (κ:Nat→Heap→β):β:=
 az fl vs e Kh fun o=>an fl o h κ
noncomputable def load1 (a:Value) (h:Heap) (κ:Value→Heap→β):β:=
 match a with
 | .pointer (some ⟨b,o,none⟩)=>
  match h.bl.get b with
  | some (.cells n c _ _)=>match Nat.ble (Nat.succ o) n,c.get o with
    | true,some v=>κ v h
    | _,_=>fl
  | some (.ro n c _)=>match Nat.ble (Nat.succ o) n,c.get o with
    | true,some v=>κ v h
    | _,_=>fl
  | _=>fl
 | _=>fl
noncomputable def aF (s:Nat) (a:Value) (h:Heap) (κ:Value→Heap→β):β:=
 match a with
 | .pointer (some ⟨b,o,none⟩)=>
  match h.bl.get b with
  | some (.cells n c _ _)=>match Nat.ble (Nat.add o s) n with
   | true=>jh fl c o s [] fun l=>κ (.agg ⟨l⟩) h
   | false=>fl
  | some (.ro n c _)=>match Nat.ble (Nat.add o s) n with
   | true=>jh fl c o s [] fun l=>κ (.agg ⟨l⟩) h
   | false=>fl
  | _=>fl
 | _=>fl
noncomputable def aL (s:Nat) (a v:Value) (h:Heap) (κ:Value→Heap→β):β:=
 match a with
 | .pointer (some ⟨b,o,none⟩)=>
  match h.bl.get b with
  | some (.cells n c e op)=>
    match Nat.beq v.cells.toList.length s with
    | true=>jY fl n v.cells.toList c o fun c=>setBlock fl b (.cells n c e op) h fun h=>κ undef h
    | false=>fl
  | _=>fl
 | _=>fl
noncomputable def jZ (op:BinOp) (k:IntKind) (a b:Int) (κ:Value→β):β:=
 match op with
 | .add=>Ci (ko k (Int.add a b)) fun n=>κ (.int k n)
 | .sub=>Ci (ko k (Int.sub a b)) fun n=>κ (.int k n)
 | .mul=>Ci (ko k (Int.mul a b)) fun n=>κ (.int k n)
 | .quo=>match oN b 0 with | true=>fl | false=>Ci (ko k (Int.tdiv a b)) fun n=>κ (.int k n)
 | .rem=>match oN b 0 with | true=>fl | false=>Ci (Int.tmod a b) fun n=>κ (.int k n)
 | .and=>Ci (ko k (BitVec.ofInt k.bits a &&& BitVec.ofInt k.bits b).toNat) fun n=>κ (.int k n)
 | .or=>Ci (ko k (BitVec.ofInt k.bits a ||| BitVec.ofInt k.bits b).toNat) fun n=>κ (.int k n)
 | .xor=>Ci (ko k (BitVec.ofInt k.bits a ^^^ BitVec.ofInt k.bits b).toNat) fun n=>κ (.int k n)
 | .andNot=>Ci (ko k (BitVec.ofInt k.bits a &&& ~~~ (BitVec.ofInt k.bits b)).toNat) fun n=>κ (.int k n)
 | .eql=>DG (oN a b) fun r=>κ (.bool r)
 | .neq=>DG (!(oN a b)) fun r=>κ (.bool r)
 | .lss=>DG (rG a b) fun r=>κ (.bool r)
 | .leq=>DG (!(rG b a)) fun r=>κ (.bool r)
 | .gtr=>DG (rG b a) fun r=>κ (.bool r)
 | .geq=>DG (!(rG a b)) fun r=>κ (.bool r)
 | .shl=>match rG b 0 with | true=>fl | false=>Ci (k.wrap (a*2 ^ (min b.toNat k.bits))) fun n=>κ (.int k n)
 | .shr=>match rG b 0 with | true=>fl | false=>Ci (a.fdiv (2 ^ (min b.toNat k.bits))) fun n=>κ (.int k n)
noncomputable def au (P:Program) (op:BinOp) (t:TypeId) (cn:Bool) (gd:Bool) (a b:Value) (h:Heap) (κ:Value→Heap→β):β:=
 match a,b with
 | .int k n,.int k' m=>match fO k k',op with
  | true,op=>jZ fl op k n m fun v=>κ v h
  | false,.shl=>jZ fl .shl k n m fun v=>κ v h
  | false,.shr=>jZ fl .shr k n m fun v=>κ v h
  | false,_=>fl
 | .string s,.string s'=>match op with
  | .add=>match Nat.ble (Nat.add s.size s'.size) 9223372036854775807 with | true=>κ (.string (s++s')) h | false=>fl
  | .eql=>DG (jg s s') fun r=>κ (.bool r) h
  | .neq=>DG (!(jg s s')) fun r=>κ (.bool r) h
  | _=>fl
 | .nilIface,.nilIface=>match op,cn with
  | .eql,true=>match kV P h 100 t a b with | some r=>DG r fun r=>κ (.bool r) h | none=>fl
  | .neq,true=>match kV P h 100 t a b with | some r=>DG (!r) fun r=>κ (.bool r) h | none=>fl
  | _,_=>fl
 | .float ..,_ | _,.float .. | .complex ..,_ | _,.complex ..=>fl
 | a,b=>match op,gd with
  | .eql,false=>match kV P h 100 t a b with | some r=>DG r fun r=>κ (.bool r) h | none=>fl
  | .neq,false=>match kV P h 100 t a b with | some r=>DG (!r) fun r=>κ (.bool r) h | none=>fl
  | _,_=>fl
noncomputable def kU (op:UnOp) (a:Value) (h:Heap) (κ:Value→Heap→β):β:=
 match op,a with
 | .not,.bool b=>DG (!b) fun r=>κ (.bool r) h
 | .neg,.int k n=>Ci (ko k (Int.sub 0 n)) fun n=>κ (.int k n) h
 | .xor,.int k n=>Ci (ko k (BitVec.ofInt k.bits (if k.signed then -1 else k.max) ^^^ BitVec.ofInt k.bits n).toNat) fun n=>κ (.int k n) h
 | _,_=>fl
noncomputable def oO:List Value→List Value→(List Value→β)→β
 | [],old,κ=>κ old
 | v::vs,_::old,κ=>oO vs old fun l=>κ (v::l)
 | _::_,[],_=>fl
noncomputable def vI (new:List Value):Nat→List Value→(List Value→β)→β
 | 0,old,κ=>oO fl new old κ
 | o+1,v::old,κ=>vI new o old fun l=>κ (v::l)
 | _+1,[],_=>fl
noncomputable def bD:List (Nat × Nat)→List Value→List Value→(List Value→β)→β
 | (off,size)::ps,v::vs,cs,κ=>
   match Nat.beq v.cells.toList.length size with
   | false=>fl
   | true=>vI fl v.cells.toList off cs fun cs=>bD ps vs cs κ
 | [],[],cs,κ=>κ cs
 | _,_,_,_=>fl
def aO (zs:List Value):Nat→List Value
 | 0=>[]
 | n+1=>zs++aO zs n
noncomputable def vJ (v:Option Value) (d:Nat) (κ:Nat→β):β:=match v with
  | none=>κ d
  | some (.int _ (.ofNat n))=>κ n
  | some _=>fl
noncomputable def gG (len lim cap:Nat) (lo hi mx:Option Value) (κ:Nat→Nat→Nat→β):β:=
 match mx with
 | none=>vJ fl hi len fun h=>vJ fl lo 0 fun l=>
   match Nat.ble l h,Nat.ble h lim with
   | true,true=>κ l h cap
   | _,_=>fl
 | some _=>vJ fl mx 0 fun m=>vJ fl hi len fun h=>vJ fl lo 0 fun l=>
   match hi.isSome,Nat.ble l h,Nat.ble h m,Nat.ble m lim with
   | true,true,true,true=>κ l h m
   | _,_,_,_=>fl
noncomputable def fZ (h:Heap) (e:TypeId) (b:Nat):Option Nat:=match h.bl.get b with
 | some (.cells n _ e' true)=>match Nat.beq e e' with | true=>some n | false=>none
 | some (.dead n e')=>match Nat.beq e e' with | true=>some n | false=>none
 | _=>none
noncomputable def oP (b o s l hh m:Nat) (κ:Value→β):β:=
 match Nat.beq m l with
 | true=>rF (Nat.sub hh l) fun n=>κ (.slice (some ⟨b,o,none⟩) n 0)
 | false=>rF (Nat.add o (Nat.mul l s)) fun o=>rF (Nat.sub hh l) fun n=>rF (Nat.sub m l) fun c=>κ (.slice (some ⟨b,o,none⟩) n c)
noncomputable def sliceB (e s:Nat) (x:Value) (lo hi mx:Option Value) (h:Heap) (κ:Value→Heap→β):β:=
 match x with
 | .slice none len cap=>gG fl len cap cap lo hi mx fun l hh m=>rF (Nat.sub hh l) fun n=>rF (Nat.sub m l) fun c=>κ (.slice none n c) h
 | .slice (some ⟨b,o,none⟩) len cap=>
   match Nat.beq cap fk with
   | true=>match Nat.beq len 0 with
    | true=>gG fl len 0 0 lo hi mx fun _ _ _=>κ (.slice (some ⟨b,o,none⟩) 0 fk) h
    | false=>fl
   | false=>match Nat.beq cap aM with
    | false=>match Nat.ble cap 9223372036854775807 with
     | true=>gG fl len cap cap lo hi mx fun l hh m=>oP b o s l hh m fun v=>κ v h
     | false=>fl
    | true=>
     match fZ h e b,s with
     | some n,s+1=>
      match Nat.ble o n,Nat.div (Nat.sub n o) (s+1) with
      | true,lim=>gG fl len lim aM lo hi mx fun l hh m=>
       match Nat.beq m aM with
       | true=>match Nat.beq l lim with
        | true=>κ (.slice (some ⟨b,o,none⟩) 0 fk) h
        | false=>rF (Nat.add o (Nat.mul l (s+1))) fun o=>rF (Nat.sub hh l) fun n=>κ (.slice (some ⟨b,o,none⟩) n aM) h
       | false=>oP b o (s+1) l hh m fun v=>κ v h
      | false,_=>fl
     | _,_=>fl
 | _=>fl
noncomputable def sF (x:Value) (lo hi mx:Option Value) (h:Heap) (κ:Value→Heap→β):β:=
 match x,mx with
 | .string s,none=>gG fl s.size s.size s.size lo hi none fun l hh _=>κ (.string (s.extract l hh)) h
 | _,_=>fl
noncomputable def eO (h:Heap) (size n:Nat) (x:Value) (κ:List Value→β):β:=
 match Nat.mul n size with
 | 0=>κ []
 | m+1=>
  match x with
  | .slice (some ⟨b,o,none⟩) _ _=>
   match h.bl.get b with
   | some (.cells nn c _ _)=>match Nat.ble (Nat.add o (Nat.succ m)) nn with
    | true=>jh fl c o (Nat.succ m) [] κ
    | false=>fl
   | some (.ro nn c _)=>match Nat.ble (Nat.add o (Nat.succ m)) nn with
    | true=>jh fl c o (Nat.succ m) [] κ
    | false=>fl
   | _=>fl
  | _=>fl
noncomputable def jH (Cj:Bool) (zero:List Value) (h:Heap) (size:Nat) (x:Value) (κ:Nat→List Value→β):β:=
 match Cj,x with
 | true,.int _ (.ofNat n)=>match Nat.ble n 1000000 with
  | true=>κ n (aO zero n)
  | false=>fl
 | false,.slice _ n _=>eO fl h size n x fun l=>κ n l
 | _,_=>fl
noncomputable def bE (e size:Nat) (zero:List Value) (Cj:Bool) (s x:Value) (h:Heap) (κ:Value→Heap→β):β:=
 match s with
 | .slice base sLen sCap=>
  jH fl Cj zero h size x fun n new=>
  match n with
  | 0=>κ s h
  | _+1=>
   rF (Nat.add sLen n) fun need=>
   match Nat.ble need 1000000000 with
   | true=>
    match base with
    | none=>match Nat.beq sCap 0,Nat.beq sLen 0 with
     | true,true=>dL fl new e true h fun b h=>κ (.slice (some ⟨b,0,none⟩) need aM) h
     | _,_=>fl
    | some ⟨b,o,none⟩=>
     match Nat.beq sCap fk with
     | true=>fl
     | false=>
     match Nat.beq sCap aM with
     | true=>match h.bl.get b with
      | some (.cells nn c e' true)=>match Nat.beq e e',Nat.ble (Nat.add o (Nat.mul need size)) nn with
       | true,true=>jY fl nn new c (Nat.add o (Nat.mul sLen size)) fun c=>setBlock fl b (.cells nn c e' true) h fun h=>κ (.slice base need sCap) h
       | true,false=>match Nat.beq o 0 && new.all dR with
        | true=>eO fl h size sLen s fun old=>setBlock fl b (.dead nn e') h fun h=>dL fl (old++new) e true h fun b h=>κ (.slice (some ⟨b,0,none⟩) need aM) h
        | false=>fl
       | false,_=>fl
      | _=>fl
     | false=>match Nat.ble need sCap,h.bl.get b with
      | true,some (.cells nn c e' op)=>jY fl nn new c (Nat.add o (Nat.mul sLen size)) fun c=>setBlock fl b (.cells nn c e' op) h fun h=>κ (.slice base need sCap) h
      | false,_=>match Nat.ble sCap 1000000000 with
       | true=>eO fl h size sLen s fun old=>dL fl (old++new) e true h fun b h=>κ (.slice (some ⟨b,0,none⟩) need aM) h
       | false=>fl
      | _,_=>fl
    | _=>fl
   | false=>fl
 | _=>fl
noncomputable def zq (size:Nat) (d x:Value) (h:Heap) (κ:Value→Heap→β):β:=
 match d with
 | .slice base dLen _=>
   match x with
   | .slice _ n _=>rF (Nat.min n dLen) fun n=>
    match n with
    | 0=>κ (.int .i64 (.ofNat 0)) h
    | _+1=>match base with
     | some ⟨b,o,none⟩=>eO fl h size n x fun cs=>match h.bl.get b with
      | some (.cells nn c e' op)=>jY fl nn cs c o fun c=>setBlock fl b (.cells nn c e' op) h fun h=>κ (.int .i64 (.ofNat n)) h
      | _=>fl
     | _=>fl
   | _=>fl
 | _=>fl
noncomputable def iO (zero:List Value) (x:Value) (h:Heap) (κ:Value→Heap→β):β:=
 match x with
 | .slice none _ _ | .slice _ 0 _ | .map none=>κ (.tuple #[]) h
 | .slice (some ⟨b,o,none⟩) n _=>match h.bl.get b with
    | some (.cells nn c e' op)=>jY fl nn (aO zero n) c o fun c=>setBlock fl b (.cells nn c e' op) h fun h=>κ (.tuple #[]) h
    | _=>fl
 | .map (some r)=>match h.bl.get r with
  | some (.map _ clock)=>setBlock fl r (.map [] clock) h fun h=>κ (.tuple #[]) h
  | _=>fl
 | _=>fl
noncomputable def lT (x:Value) (h:Heap) (κ:Value→Heap→β):β:=
 match x with
 | .string s=>rF s.size fun n=>κ (.int .i64 (.ofNat n)) h
 | _=>fl
noncomputable def bA (x:Value) (h:Heap) (κ:Value→Heap→β):β:=
 match x with
 | .slice _ n _=>κ (.int .i64 (.ofNat n)) h
 | _=>fl
noncomputable def kW (x:Value) (h:Heap) (κ:Value→Heap→β):β:=
 match x with
 | .map none=>κ (.int .i64 (.ofNat 0)) h
 | .map (some r)=>match h.bl.get r with
  | some (.map es _)=>rF es.length fun n=>κ (.int .i64 (.ofNat n)) h
  | _=>fl
 | _=>fl
noncomputable def fm (P:Program) (h:Heap) (kt:TypeId) (k:Value):List MapEntry→Nat→Option (Option (Nat × MapEntry))
 | [],_=>some none
 | e::es,i=>match kV P h 100 kt k e.key with
  | some true=>some (some (i,e))
  | some false=>fm P h kt k es (Nat.succ i)
  | none=>none
def iS (P:Program):Nat→TypeId→Value→Bool
 | 0,_,_=>false
 | d+1,t,v=>match P.underlying t,v with
  | some .bool,.bool _ | some (.int _),.int _ _ | some .string,.string _=>true
  | some (.struct fs),.agg cs=>kq (.agg cs) && fs.toList.all fun f=>(match kr P f.type,dY P f.type with
   | some true,some s=>iS P d f.type (.agg ⟨(cs.toList.drop f.offset).take s⟩)
   | some false,some _=>(match cs.toList[f.offset]? with | some v=>iS P d f.type v | none=>false)
   | _,_=>false)
  | _,_=>false
noncomputable def iX (P:Program) (kt:TypeId) (m k:Value) (h:Heap) (κ:Option Value→β):β:=
  match iS P 20 kt k with
  | false=>fl
  | true=>
  match m with
  | .map none=>κ none
  | .map (some r)=>match h.bl.get r with
   | some (.map es _)=>match fm P h kt k es 0 with
    | some (some (_,e))=>κ (some e.val)
    | some none=>κ none
    | none=>fl
   | _=>fl
  | _=>fl
noncomputable def cZ (P:Program) (kt:TypeId) (zero:Value) (ok:Bool) (m k:Value) (h:Heap) (κ:Value→Heap→β):β:=
 iX fl P kt m k h fun r=>match r,ok with
  | some v,true=>κ (.tuple #[v,.bool true]) h
  | some v,false=>κ v h
  | none,true=>κ (.tuple #[zero,.bool false]) h
  | none,false=>κ zero h
noncomputable def setAt (f:MapEntry→MapEntry):Nat→List MapEntry→(List MapEntry→β)→β
 | _,[],κ=>κ []
 | 0,e::es,κ=>κ (f e::es)
 | n+1,e::es,κ=>setAt f n es fun l=>κ (e::l)
noncomputable def zu (x:MapEntry):List MapEntry→(List MapEntry→β)→β
 | [],κ=>κ [x]
 | e::es,κ=>zu x es fun l=>κ (e::l)
noncomputable def bX (P:Program) (kt:TypeId) (m k v:Value) (h:Heap) (κ:Value→Heap→β):β:=
 match iS P 20 kt k with
 | false=>fl
 | true=>
 match m with
 | .map (some r)=>match h.bl.get r with
  | some (.map es clock)=>match fm P h kt k es 0 with
   | some (some (i,e))=>match jD 3 k e.key with
    | true=>setAt (fun e=>{ e with key:=k,val:=v }) i es fun es=>setBlock fl r (.map es clock) h fun h=>κ undef h
    | false=>fl
   | some none=>zu { key:=k,val:=v,born:=clock } es fun es=>rF (Nat.succ clock) fun clock=>setBlock fl r (.map es clock) h fun h=>κ undef h
   | none=>fl
  | _=>fl
 | _=>fl
noncomputable def wB:Nat→List MapEntry→(List MapEntry→β)→β
 | _,[],κ=>κ []
 | 0,_::es,κ=>κ es
 | n+1,e::es,κ=>wB n es fun l=>κ (e::l)
noncomputable def jI (P:Program) (kt:TypeId) (m k:Value) (h:Heap) (κ:Value→Heap→β):β:=
 match iS P 20 kt k with
 | false=>fl
 | true=>
 match m with
 | .map none=>κ (.tuple #[]) h
 | .map (some r)=>match h.bl.get r with
   | some (.map es clock)=>match fm P h kt k es 0 with
    | some (some (i,_))=>wB i es fun es=>setBlock fl r (.map es clock) h fun h=>κ (.tuple #[]) h
    | some none=>κ (.tuple #[]) h
    | none=>fl
   | _=>fl
 | _=>fl
noncomputable def av (i:Nat) (v:Value) (h:Heap) (κ:Value→Heap→β):β:=match v with
  | .tuple vs=>match vs.toList[i]? with | some v=>κ v h | none=>fl
  | _=>fl
noncomputable def a_ (c a b:Value) (h:Heap) (κ:Value→Heap→β):β:=
 match c with
  | .bool true=>κ a h
  | .bool false=>κ b h
  | _=>fl
noncomputable def aX (v:Value) (h:Heap) (κ:Value→Heap→β):β:=match v with
  | .pointer (some a)=>κ (.pointer (some a)) h
  | .func (.func f) a b=>κ (.func (.func f) a b) h
  | .iface t x=>κ (.iface t x) h
  | _=>fl
noncomputable def fieldAddrB (off:Nat) (v:Value) (h:Heap) (κ:Value→Heap→β):β:=match v with
  | .pointer (some ⟨b,o,none⟩)=>rF (Nat.add o off) fun o=>κ (.pointer (some ⟨b,o,none⟩)) h
  | _=>fl
noncomputable def ax (s:Nat) (v iv:Value) (h:Heap) (κ:Value→Heap→β):β:=match v,iv with
  | .slice (some ⟨b,o,none⟩) len _,.int _ (.ofNat i)=>match Nat.ble (Nat.succ i) len with
   | true=>rF (Nat.add o (Nat.mul i s)) fun o=>κ (.pointer (some ⟨b,o,none⟩)) h
   | _=>fl
  | _,_=>fl
noncomputable def dA (len s:Nat) (v iv:Value) (h:Heap) (κ:Value→Heap→β):β:=match v,iv with
  | .pointer (some ⟨b,o,none⟩),.int _ (.ofNat i)=>match Nat.ble (Nat.succ i) len with
   | true=>rF (Nat.add o (Nat.mul i s)) fun o=>κ (.pointer (some ⟨b,o,none⟩)) h
   | _=>fl
  | _,_=>fl
noncomputable def gU (k:IntKind) (v:Value) (h:Heap) (κ:Value→Heap→β):β:=match v with
  | .int _ n=>Ci (ko k n) fun n=>κ (.int k n) h
  | _=>fl
noncomputable def wC:Nat→List Value→(List Value→β)→β
  | 0,_,κ=>κ []
  | n+1,v::vs,κ=>wC n vs fun l=>κ (v::l)
  | _+1,[],_=>fl
noncomputable def zw (agg:Bool) (s:Nat) (cs:List Value) (off:Nat) (κ:Value→β):β:=
 match agg with
 | true=>wC fl s (cs.drop off) fun l=>κ (.agg ⟨l⟩)
 | false=>match cs[off]? with | some v=>κ v | none=>fl
noncomputable def sG (agg:Bool) (s off:Nat) (v:Value) (h:Heap) (κ:Value→Heap→β):β:=match v with
  | .agg cs=>zw fl agg s cs.toList off fun v=>κ v h
  | _=>fl
noncomputable def sH (agg:Bool) (len s:Nat) (v iv:Value) (h:Heap) (κ:Value→Heap→β):β:=match v,iv with
  | .agg cs,.int _ (.ofNat i)=>match Nat.ble (Nat.succ i) len with
   | true=>zw fl agg s cs.toList (Nat.mul i s) fun v=>κ v h
   | _=>fl
  | _,_=>fl
noncomputable def n9 (v iv:Value) (h:Heap) (κ:Value→Heap→β):β:=match v,iv with
  | .string s,.int _ (.ofNat i)=>match s.data.toList[i]? with
   | some b=>rF b.toNat fun n=>κ (.int .u8 (.ofNat n)) h
   | none=>fl
  | _,_=>fl
noncomputable def dM (asserted:TypeId) (zero:Value) (ok:Bool) (x:Value) (h:Heap) (κ:Value→Heap→β):β:=
 match x with
 | .iface t v=>match Nat.beq t asserted,ok with
  | true,true=>κ (.tuple #[v,.bool true]) h
  | true,false=>κ v h
  | false,true=>κ (.tuple #[zero,.bool false]) h
  | false,false=>fl
 | .nilIface=>match ok with
   | true=>κ (.tuple #[zero,.bool false]) h
   | false=>fl
 | _=>fl
noncomputable def kX (x:Value) (h:Heap) (κ:Value→Heap→β):β:=
 match x with
 | .map none=>an fl (.dz none 0 [] 0) h fun b h=>κ (.pointer (some ⟨b,0,none⟩)) h
 | .map (some r)=>match h.bl.get r with
  | some (.map _ clock)=>an fl (.dz (some r) clock [] clock) h fun b h=>κ (.pointer (some ⟨b,0,none⟩)) h
  | _=>fl
 | _=>fl
noncomputable def jJ (both:β→β→β) (b m since:Nat) (seen:List Nat) (clock:Nat) (h:Heap) (κ:Value→Heap→β):MapEntry→List MapEntry→β
 | e,[]=>match Nat.ble (Nat.succ e.born) since with
  | true=>setBlock fl b (.dz (some m) since (e.born::seen) clock) h fun h=>κ (.tuple #[.bool true,e.key,e.val]) h
  | false=>fl
 | e,e'::es=>match Nat.ble (Nat.succ e.born) since with
  | true=>both (setBlock fl b (.dz (some m) since (e.born::seen) clock) h fun h=>κ (.tuple #[.bool true,e.key,e.val]) h) (jJ both b m since seen clock h κ e' es)
  | false=>fl
noncomputable def nM (both:β→β→β) (it:Value) (h:Heap) (κ:Value→Heap→β):β:=
 match it with
 | .pointer (some ⟨b,0,none⟩)=>match h.bl.get b with
  | some (.dz none _ _ _)=>κ (.tuple #[.bool false]) h
  | some (.dz (some m) since seen last)=>match h.bl.get m with
   | some (.map es clock)=>
    match !seen.isEmpty && !es.isEmpty && es.all (fun e=>Nat.ble last e.born) with
    | true=>fl
    | false=>
     match es.filter fun e=>!seen.any (Nat.beq e.born) with
     | []=>κ (.tuple #[.bool false]) h
     | e::es=>jJ fl both b m since seen clock h κ e es
   | _=>fl
  | _=>fl
 | _=>fl
noncomputable def kY (it:Value) (h:Heap) (κ:Value→Heap→β):β:=
 match it with
 | .pointer (some ⟨b,0,none⟩)=>match h.bl.get b with
  | some (.dz (some m) _ (stamp::_) stepped)=>match h.bl.get m with
   | some (.map es clock)=>match Nat.beq clock stepped with
    | true=>match es.find? (fun e=>Nat.beq e.born stamp) with
     | some e=>κ (.tuple #[e.key,e.val]) h
     | none=>fl
    | false=>fl
   | _=>fl
  | _=>fl
 | _=>fl
inductive XI (β:Type) where
 | k0 (f:Heap→(Value→Heap→β)→β)
 | k1 (x:Operand) (f:Value→Heap→(Value→Heap→β)→β)
 | k2 (x y:Operand) (f:Value→Value→Heap→(Value→Heap→β)→β)
 | k3 (x y z:Operand) (f:Value→Value→Value→Heap→(Value→Heap→β)→β)
 | kn (xs:List Operand) (f:List Value→Heap→(Value→Heap→β)→β)
noncomputable def XI.run (i:XI β) (tm:T Value) (h:Heap) (κ:Value→Heap→β):β:=
 XI.rec (motive:=fun _=>β) (fun f=>f h κ) (fun x f=>ev tm x fun a=>f a h κ) (fun x y f=>ev tm x fun a=>ev tm y fun b=>f a b h κ)
  (fun x y z f=>ev tm x fun a=>ev tm y fun b=>ev tm z fun c=>f a b c h κ) (fun xs f=>KE tm xs fun vs=>f vs h κ) i
def placesOf (place:Nat→Option (Nat × Nat)):List (Nat × Operand)→Option (List (Nat × Nat))
 | []=>some []
 | (i,_)::ps=>match place i,placesOf place ps with
  | some p,some l=>some (p::l)
  | _,_=>none
def ku (P:Program) (t:TypeId):Option (List Value × (Nat→Option (Nat × Nat))):=match P.info? t,P.underlying t with
 | some it,some (.array _ e)=>match it.zero,P.info? e with
  | some z,some ie=>match z.cells.toList.all eW with
   | true=>some (z.cells.toList,fun i=>some (Nat.mul i ie.size,ie.size))
   | false=>none
  | _,_=>none
 | some it,some (.struct fields)=>match it.zero,fields.toList.mapM (fun f=>(P.info? f.type).map fun i=>(f.offset,i.size)) with
  | some z,some places=>match z.cells.toList.all eW with
   | true=>some (z.cells.toList,fun i=>places[i]?)
   | false=>none
  | _,_=>none
 | _,_=>none
def lU (lo hi mx:Option Operand):List Operand:=lo.toList++hi.toList++mx.toList
def rS (lo hi mx:Bool):List Value→Option (Option Value × Option Value × Option Value)
 | []=>match lo,hi,mx with | false,false,false=>some (none,none,none) | _,_,_=>none
 | [a]=>match lo,hi,mx with
  | true,false,false=>some (some a,none,none)
  | false,true,false=>some (none,some a,none)
  | _,_,_=>none
 | [a,b]=>match lo,hi,mx with
  | true,true,false=>some (some a,some b,none)
  | false,true,true=>some (none,some a,some b)
  | _,_,_=>none
 | [a,b,c]=>match lo,hi,mx with
  | true,true,true=>some (some a,some b,some c)
  | _,_,_=>none
 | _=>none
inductive XA (β:Type) where
 | k0 (f:(bC→(Nat→Value)→β)→β)
 | k1 (x:Operand) (f:Value→(bC→(Nat→Value)→β)→β)
 | k2 (x y:Operand) (f:Value→Value→(bC→(Nat→Value)→β)→β)
 | kn (xs:List Operand) (f:List Value→(bC→(Nat→Value)→β)→β)
noncomputable def XA.run (i:XA β) (tm:T Value) (κ:bC→(Nat→Value)→β):β:=
 XA.rec (motive:=fun _=>β) (fun f=>f κ) (fun x f=>ev tm x fun a=>f a κ) (fun x y f=>ev tm x fun a=>ev tm y fun b=>f a b κ)
  (fun xs f=>KE tm xs fun vs=>f vs κ) i
def ptrTo (b:Nat):Value:=.pointer (some ⟨b,0,none⟩)
def sliceTo (n c:Nat) (b:Nat):Value:=.slice (some ⟨b,0,none⟩) n c
def gH (b:Nat):Value:=.map (some b)
noncomputable def nN (P:Program):Op→Option (XA β)
 | .alloc e=>match zeroOf P e with
  | some z=>some (.k0 fun κ=>az fl z e false fun o=>κ o ptrTo)
  | none=>none
 | .box e x=>some (.k1 x fun v κ=>az fl v.cells.toList e false fun o=>κ o ptrTo)
 | .buildSlice t len parts=>match P.underlying t with
  | some (.slice e)=>match Ou P e,Nat.ble len 10000 with
   | some (z,s),true=>match placesOf (fun i=>some (Nat.mul i s,s)) parts.toList,Nat.ble s 1000 with
    | some ps,true=>some (.kn (parts.toList.map (·.2)) fun vs κ=>bD fl ps vs (aO z len) fun cs=>az fl cs e false fun o=>κ o (sliceTo len len))
    | _,_=>none
   | _,_=>none
  | _=>none
 | .makeMap t r=>match r with
  | none=>some (.k0 fun κ=>κ (.map [] 0) gH)
  | some x=>match P.underlying t with
   | some (.map _ _)=>some (.k1 x fun v κ=>match v with | .int _ _=>κ (.map [] 0) gH | _=>fl)
   | _=>none
 | .makeSlice t l c=>match P.underlying t with
  | some (.slice e)=>match Ou P e,P.info? e with
   | some (z,_),some inf=>match Nat.ble inf.bytes 1000000 with
    | true=>some (.k2 l c fun l c κ=>match l,c with
     | .int _ (.ofNat l),.int _ (.ofNat c)=>match Nat.ble l c,Nat.ble c 1000000 with
      | true,true=>az fl (aO z c) e false fun o=>κ o (sliceTo l c)
      | _,_=>fl
     | _,_=>fl)
    | false=>none
   | _,_=>none
  | _=>none
 | _=>none
noncomputable def GH (a b:Value) (h:Heap) (κ:Value→Heap→β):β:=
 match a,b with
 | .int k a,.int _ b=>(match rG b a with | true=>κ (.int k b) h | false=>κ (.int k a) h)
 | _,_=>fl
noncomputable def GI (a b:Value) (h:Heap) (κ:Value→Heap→β):β:=
 match a,b with
 | .int k a,.int _ b=>(match rG a b with | true=>κ (.int k b) h | false=>κ (.int k a) h)
 | _,_=>fl
noncomputable def lM (P:Program):Op→Option (XI β)
 | .move x | .assign x=>some (.k1 x fun v h κ=>κ v h)
 | .pick c a b=>some (.k3 c a b (a_ fl))
 | .build t parts=>match ku P t with
  | some (z,place)=>match placesOf place parts.toList with
   | some ps=>some (.kn (parts.toList.map (·.2)) fun vs h κ=>bD fl ps vs z fun cs=>κ (.agg ⟨cs⟩) h)
   | none=>none
  | none=>none
 | .load t a=>match kr P t,dY P t with
  | some true,some s=>some (.k1 a (aF fl s))
  | some false,some _=>some (.k1 a (load1 fl))
  | _,_=>none
 | .nilCheck x=>some (.k1 x (aX fl))
 | .binOp op t x y _=>some (.k2 x y (au fl P op t ((x matches .const _) || (y matches .const _)) (P.eqGuardType P.depth t)))
 | .unOp op _ x=>some (.k1 x (kU fl op))
 | .convert src dst x=>match P.underlying src,P.underlying dst with
  | some _,some (.int k)=>some (.k1 x (gU fl k))
  | some .string,some .string=>some (.k1 x fun v h κ=>match v with | .string s=>κ (.string s) h | _=>fl)
  | _,_=>none
 | .makeInterface t x=>match P.underlying t with
  | some (.interface _)=>none
  | some _=>some (.k1 x fun v h κ=>κ (.iface t v) h)
  | none=>none
 | .makeFunc (.func fn) first cap=>some (.kn (first.toList++cap.toList) fun vs h κ=>κ (.func (.func fn) ⟨vs.take first.toList.length⟩ ⟨vs.drop first.toList.length⟩) h)
 | .slice t x lo hi mx=>match P.underlying t with
  | some (.slice e)=>match dY P e with
   | some s=>some (.kn (x::lU lo hi mx) fun vs h κ=>match vs with
    | v::bs=>match rS lo.isSome hi.isSome mx.isSome bs with
     | some (l,hh,m)=>sliceB fl e s v l hh m h κ
     | none=>fl
    | []=>fl)
   | none=>none
  | some .string=>some (.kn (x::lU lo hi mx) fun vs h κ=>match vs with
    | v::bs=>match rS lo.isSome hi.isSome mx.isSome bs with
     | some (l,hh,m)=>sF fl v l hh m h κ
     | none=>fl
    | []=>fl)
  | _=>none
 | .fieldAddr t x f=>match P.underlying t with
  | some (.struct fs)=>match fs[f]? with
   | some qb=>match dY P qb.type with
    | some (_+1)=>some (.k1 x (fieldAddrB fl qb.offset))
    | _=>none
   | none=>none
  | _=>none
 | .field t x f=>match P.underlying t with
  | some (.struct fs)=>match fs[f]? with
   | some qb=>match kr P qb.type,dY P qb.type with
    | some a,some s=>some (.k1 x (sG fl a s qb.offset))
    | _,_=>none
   | none=>none
  | _=>none
 | .indexAddr t x i=>match P.underlying t with
  | some (.slice e)=>match dY P e with
   | some s=>some (.k2 x i (ax fl s))
   | _=>none
  | some (.array len e)=>match dY P e with
   | some s=>some (.k2 x i (dA fl len s))
   | _=>none
  | _=>none
 | .index t x i=>match P.underlying t with
  | some (.array len e)=>match kr P e,dY P e with
   | some a,some s=>some (.k2 x i (sH fl a len s))
   | _,_=>none
  | some .string=>some (.k2 x i (n9 fl))
  | _=>none
 | .lookup t x i ok=>match P.underlying t with
  | some (.map kt et)=>match (P.info? et).bind (·.zero) with
   | some z=>match qa z with
    | true=>some (.k2 x i (cZ fl P kt z ok))
    | false=>none
   | none=>none
  | _=>none
 | .typeAssert x _ t ok=>match P.underlying t,(P.info? t).bind (·.zero) with
  | some (.interface _),_=>none
  | some _,some z=>match qa z with
   | true=>some (.k1 x (dM fl t z ok))
   | false=>none
  | _,_=>none
 | .extract x i=>some (.k1 x (av fl i))
 | .call { callee:=.builtin .len,args:=args,argTypes:=ts }=>match args.toList,ts[0]? with
  | [x],some t=>match P.underlying t with
   | some .string=>some (.k1 x (lT fl))
   | some (.slice _)=>some (.k1 x (bA fl))
   | some (.map _ _)=>some (.k1 x (kW fl))
   | _=>none
  | _,_=>none
 | .call { callee:=.builtin .min,args:=args,.. }=>match args.toList with
  | [a,b]=>some (.k2 a b (GH fl))
  | _=>none
 | .call { callee:=.builtin .max,args:=args,.. }=>match args.toList with
  | [a,b]=>some (.k2 a b (GI fl))
  | _=>none
 | _=>none
noncomputable def xS:List UInt8→(List Value→β)→β
 | [],κ=>κ []
 | b::bs,κ=>rF b.toNat fun n=>xS bs fun l=>κ (.int .u8 (.ofNat n)::l)
noncomputable def lV (e:TypeId) (v:Value) (h:Heap) (κ:Value→Heap→β):β:=
 match v with
 | .string s=>xS s.data.toList fun l=>KF l .nil 0 fun c n=>match Nat.ble n 1000000000000 with
  | true=>an fl (.ro n c e) h fun b h=>κ (.slice (some ⟨b,0,none⟩) n aM) h
  | false=>fl
 | _=>fl
noncomputable def WV:List Value→(List UInt8→β)→β
 | [],κ=>κ []
 | .int .u8 (.ofNat n)::l,κ=>WV l fun bs=>κ (UInt8.ofNat n::bs)
 | _,_=>fl
noncomputable def zx (v:Value) (h:Heap) (κ:Value→Heap→β):β:=
 match v with
 | .slice a n c=>eO fl h 1 n (.slice a n c) fun l=>WV fl l fun bs=>κ (.string ⟨⟨bs⟩⟩) h
 | _=>fl
noncomputable def wD (P:Program):Op→Option (XI β)
 | .store t a x=>match dY P t with
  | some s=>some (.k2 a x (aL fl s))
  | none=>none
 | .mapUpdate t m k x | .insert t m k x=>match P.underlying t with
  | some (.map kt _)=>some (.k3 m k x (bX fl P kt))
  | _=>none
 | .range t x=>match P.underlying t with
  | some (.map _ _)=>some (.k1 x (kX fl))
  | _=>none
 | .entry it=>some (.k1 it (kY fl))
 | .convert src dst x=>match P.underlying src,P.underlying dst with
  | some .string,some (.slice e)=>match P.underlying e,dY P e with
   | some (.int .u8),some 1=>some (.k1 x (lV fl e))
   | _,_=>none
  | some (.slice e),some .string=>match P.underlying e with
   | some (.int .u8)=>some (.k1 x (zx fl))
   | _=>none
  | _,_=>none
 | .call { callee:=.builtin b,args:=args,argTypes:=ts,.. }=>match b,args.toList with
  | .append,[s,x]=>match ts[0]?,ts[1]? with
   | some st,some xt=>match P.underlying st with
    | some (.slice e)=>match P.info? e,P.underlying xt with
     | some inf,some xd=>match Ou P e,Nat.ble inf.bytes 10000 with
      | some (z,size),true=>some (.k2 s x (bE fl e size z (nZ xd)))
      | _,_=>none
     | _,_=>none
    | _=>none
   | _,_=>none
  | .copy,[d,x]=>match ts[0]? with
   | some t=>match P.underlying t with
    | some (.slice e)=>match dY P e with
     | some s=>some (.k2 d x (zq fl s))
     | none=>none
    | _=>none
   | none=>none
  | .clear,[x]=>match ts[0]? with
   | some t=>match P.underlying t with
    | some (.slice e)=>match zeroOf P e with
     | some z=>some (.k1 x (iO fl z))
     | none=>none
    | some (.map _ _)=>some (.k1 x fun v h κ=>match v with | .map m=>iO fl [] (.map m) h κ | _=>fl)
    | _=>none
   | none=>none
  | .cap,[x]=>match ts[0]? with
   | some t=>match P.underlying t with
    | some (.slice _)=>some (.k1 x fun v h κ=>match v with
     | .slice _ _ cap=>(match Nat.ble cap 1000000000 with | true=>κ (.int .i64 (.ofNat cap)) h | false=>fl)
     | _=>fl)
    | _=>none
   | none=>none
  | .delete,[m,k]=>match ts[0]? with
   | some t=>match P.underlying t with
    | some (.map kt _)=>some (.k2 m k (jI fl P kt))
    | _=>none
   | none=>none
  | .min,[a,b]=>some (.k2 a b fun a b h κ=>match a,b with
   | .int k a,.int _ b=>(match rG b a with | true=>κ (.int k b) h | false=>κ (.int k a) h)
   | _,_=>fl)
  | .max,[a,b]=>some (.k2 a b fun a b h κ=>match a,b with
   | .int k a,.int _ b=>(match rG a b with | true=>κ (.int k b) h | false=>κ (.int k a) h)
   | _,_=>fl)
  | _,_=>none
 | _=>none
def xT (P:Program) (t:TypeId) (name:String):Option FuncId:=
 match P.info? t,P.underlying t with
 | some i,some d=>match i.methods.find? (·.name == name) with
  | some m=>match m.path.isEmpty,m.func,d with
   | true,some (f,true),.pointer _=>some f
   | true,some (_,false),.pointer _=>none
   | true,some (f,false),_=>some f
   | _,_,_=>none
  | none=>none
 | _,_=>none
def rT (P:Program) (t:TypeId) (name:String):Option (FuncId × Nat × TypeId):=
 match P.info? t with
 | some i=>match i.methods.find? (·.name == name) with
  | some m=>match m.path.toList,m.func with
   | [s],some (f,false)=>match s.deref,P.underlying s.struct with
    | true,some (.struct fs)=>match fs[s.index]? with
     | some qb=>match kr P qb.type,dY P qb.type,P.underlying qb.type with
      | some false,some (_+1),some (.slice _)=>some (f,qb.offset,qb.type)
      | _,_,_=>none
     | none=>none
    | _,_=>none
   | _,_=>none
  | none=>none
 | none=>none
def rU (P:Program) (t:TypeId) (name:String):Option (FuncId × TypeId):=
 match P.info? t,P.underlying t with
 | some i,some (.pointer e)=>match i.methods.find? (·.name == name) with
  | some m=>match m.path.toList,m.func,kr P e with
   | [],some (f,false),some false=>some (f,e)
   | _,_,_=>none
  | none=>none
 | _,_=>none
noncomputable def xU (vs:List Value):T Value→Nat→(T Value→β)→β:=
 List.rec (motive:=fun _=>T Value→Nat→(T Value→β)→β) (fun tm _ κ=>κ tm)
  (fun v _ ih tm i κ=>T.set tm i v fun tm=>ih tm (Nat.succ i) κ) vs
inductive vK where
 | tmp (t:Nat)
 | one (a:Nat)
 | agg (a s:Nat)
 | bad
def qR (P:Program):ResultVar→vK
 | .tmp t=>.tmp t
 | .cell a t=>match kr P t,dY P t with
  | some true,some s=>.agg a s
  | some false,some _=>.one a
  | _,_=>.bad
noncomputable def c_ (h:Heap) (tm:T Value):List vK→(List Value→β)→β
 | [],κ=>κ []
 | .tmp t::rs,κ=>ev tm (.tmp t) fun v=>c_ h tm rs fun vs=>κ (v::vs)
 | .one a::rs,κ=>ev tm (.tmp a) fun a=>load1 fl a h fun v _=>c_ h tm rs fun vs=>κ (v::vs)
 | .agg a s::rs,κ=>ev tm (.tmp a) fun a=>aF fl s a h fun v _=>c_ h tm rs fun vs=>κ (v::vs)
 | .bad::_,_=>fl
def zy (nt:Nat):Operand→Bool
 | .tmp t=>Nat.ble (Nat.succ t) nt
 | .global _=>false
 | .const v=>qa v
 | .func _=>true
def dS (nt:Nat) (o:Oper):Bool:=o.op.operands.toList.all (zy nt) && (match o.dst with | some d=>Nat.ble (Nat.succ d) nt | none=>true)
def lW:Code→Bool
 | .seq a b | .cond _ a b=>lW a && lW b
 | .block _ c | .loop c | .scope c=>lW c
 | .rangeFunc ..=>false
 | _=>true
def codeOk (nt:Nat):Code→Bool
 | .rangeFunc g ps a b=>zy nt g && ps.toList.all (fun t=>Nat.ble (Nat.succ t) nt) && codeOk nt a && codeOk nt b && lW a && lW b
 | .region _ ops _=>ops.toList.all (dS nt)
 | .seq a b=>codeOk nt a && codeOk nt b
 | .cond c a b=>zy nt c && codeOk nt a && codeOk nt b
 | .block _ c | .loop c | .scope c=>codeOk nt c
 | _=>true
def GJ (nt:Nat):ResultVar→Bool
 | .tmp t=>Nat.ble (Nat.succ t) nt
 | .cell a _=>Nat.ble (Nat.succ a) nt
inductive XFn where
 | none
 | mk (c:Code) (rs:List vK) (nt:Nat)
def sI (P:Program) (f:FuncId):XFn:=
 match P.funcs[f]? with
 | some fn => match fn.name == "runtime.NumGoroutine" with
  | true=>.none
  | false=>match fn.body with
   | some c=>match codeOk fn.ntmps c && fn.results.toList.all (GJ fn.ntmps) && Nat.ble fn.ntmps 1000000000000 with
    | true=>.mk c (fn.results.toList.map (qR P)) fn.ntmps
    | false=>.none
   | none=>.none
 | none=>.none
noncomputable def GK (κ:Value→Heap→β) (h:Heap):List Value→β
 | [v]=>κ v h
 | vs=>κ (.tuple ⟨vs⟩) h
abbrev Rec (β:Type):=Code→T Value→Heap→(Ex→T Value→Heap→β)→β
structure ji (β:Type) where
 fn:FuncId→Option (List Value→Heap→(Value→Heap→β)→β)
 both:β→β→β
noncomputable def Fh (rs:List vK) (κ:Value→Heap→β) (e:Ex) (tm:T Value) (h:Heap):β:=
 match e with
 | .exit _=>fl
 | _=>c_ fl h tm rs fun vs=>GK κ h vs
variable (pr:ji β)
noncomputable def jK (P:Program) (rec:Rec β) (f:FuncId) (args:List Value) (h:Heap) (κ:Value→Heap→β):β:=
 match pr.fn f with
 | some g=>g args h κ
 | none=>match sI P f with
  | .none=>fl
  | .mk c rs nt=>match Nat.ble args.length nt with
   | true=>xU args .nil 0 fun tm=>rec c tm h (Fh fl rs κ)
   | false=>fl
noncomputable def kz (l:Nat) (κ:Value→Heap→β) (e:Ex) (_tm:T Value) (h:Heap):β:=
 match h.bl.get l with
 | some (.loop _ _ iY ps a b)=>match e with
  | .normal=>setBlock fl l (.loop .ready none iY ps a b) h fun h=>κ (.bool true) h
  | e=>setBlock fl l (.loop .done (some e) iY ps a b) h fun h=>κ (.bool false) h
 | _=>fl
noncomputable def gq (rec:Rec β) (l:Nat) (bd:Code) (κ:Value→Heap→β) (e:Ex) (tm:T Value) (h:Heap):β:=
 match e with
 | .normal=>match h.bl.get l with
  | some (.loop .ready cB iY ps a b)=>setBlock fl l (.loop .busy cB iY ps a b) h fun h=>rec bd tm h (kz fl l κ)
  | _=>fl
 | _=>fl
noncomputable def sJ:List Nat→List Value→T Value→(T Value→β)→β
 | p::ps,v::vs,tm,κ=>T.set tm p v fun tm=>sJ ps vs tm κ
 | _,_,tm,κ=>κ tm
noncomputable def qd (rec:Rec β) (l:Nat) (args:List Value) (h:Heap) (κ:Value→Heap→β):β:=
 match h.bl.get l with
 | some (.loop _ _ iY ps a b)=>match Nat.beq args.length ps.length with
  | true=>sJ ps args iY fun tm=>rec a tm h (gq fl rec l b κ)
  | false=>fl
 | _=>fl
noncomputable def gV (l:Nat) (tm:T Value) (κ:Ex→T Value→Heap→β) (_v:Value) (h:Heap):β:=
 match h.bl.get l with
 | some (.loop st cB iY ps a b)=>match st with
  | .busy=>fl
  | _=>setBlock fl l (.loop .exhausted cB iY ps a b) h fun h=>match cB with
   | none=>κ .normal tm h
   | some e=>κ e tm h
 | _=>fl
noncomputable def wE (P:Program) (rec:Rec β) (fv:Value) (args:List Value) (h:Heap) (κ:Value→Heap→β):β:=
  match fv with
  | .func (.func f) first cap=>jK fl pr P rec f (first.toList++args++cap.toList) h κ
  | .func (.yield l) first cap=>(match first.toList,cap.toList with
   | [],[]=>qd fl rec l args h κ
   | _,_=>fl)
  | _=>fl
noncomputable def ga (P:Program) (rec:Rec β) (ps:List Nat) (a b:Code) (tm:T Value) (h:Heap) (κ:Ex→T Value→Heap→β) (gv:Value):β:=
 match gv with
 | .func (.func f) first cap=>an fl (.loop .ready none tm ps a b) h fun l h=>jK fl pr P rec f (first.toList++[.func (.yield l) #[] #[]]++cap.toList) h (gV fl l tm κ)
 | _=>fl
noncomputable def GL (P:Program) (rec:Rec β) (name:String) (r:Value) (args:List Value) (h:Heap) (κ:Value→Heap→β):β:=
 match r with
 | .iface t v=>match xT P t name with
     | some f=>jK fl pr P rec f (v::args) h κ
     | none=>match rT P t name with
      | some (f,off,_)=>fieldAddrB fl off v h fun a h=>load1 fl a h fun v h=>jK fl pr P rec f (v::args) h κ
      | none=>match rU P t name with
       | some (f,_)=>load1 fl v h fun v h=>jK fl pr P rec f (v::args) h κ
       | none=>fl
 | _=>fl
abbrev XF (β:Type):=T Value→Heap→(Value→Heap→β)→β
inductive XO (β:Type) where
 | mk (g:Option (Nat × Bool)) (d:Option Nat) (f:Rec β→XF β)
noncomputable def kE (P:Program) (c:Call):Rec β→XF β:=
 match c.callee with
 | .value (.func f)=>fun rec tm h κ=>KE tm c.args.toList fun args=>jK fl pr P rec f args h κ
 | .value x=>fun rec tm h κ=>KE tm c.args.toList fun args=>ev tm x fun fv=>wE fl pr P rec fv args h κ
 | .invoke r name=>fun rec tm h κ=>KE tm c.args.toList fun args=>ev tm r fun r=>GL fl pr P rec name r args h κ
 | .builtin _=>fun _ _ _ _=>fl
noncomputable def lX (P:Program) (op:Op):Rec β→XF β:=
 match lM fl P op with
 | some i=>fun _ tm h κ=>i.run tm h κ
 | none=>match nN fl P op with
  | some i=>fun _ tm h κ=>i.run tm fun o mk=>an fl o h fun b h=>κ (mk b) h
  | none=>match wD fl P op with
   | some i=>fun _ tm h κ=>i.run tm h κ
   | none=>match op with
    | .call c=>kE fl pr P c
    | .next it false=>fun _ tm h κ=>ev tm it fun it=>nM fl pr.both it h κ
    | _=>fun _ _ _ _=>fl
def guardOf (all:List Oper) (o:Oper):Option (Option (Nat × Bool)):=
 match o.guard with
 | none=>some none
 | some (j,w)=>match all[j]? with
   | some { dst:=some d,.. }=>some (some (d,w))
   | _=>none
inductive XFB (β:Type) where
 | mk (f:Rec β→XF β)
noncomputable def wF (P:Program) (all:List Oper) (o:Oper):XO β:=
 match guardOf all o,XFB.mk (lX fl pr P o.op) with
 | some g,.mk f=>.mk g o.dst f
 | none,_=>.mk none none fun _ _ _ _=>fl
noncomputable def lQ (tm:T Value) (d:Option Nat) (v:Value) (h:Heap) (κ:T Value→Heap→β):β:=
 Option.rec (motive:=fun _=>β) (κ tm h) (fun d=>T.set tm d v fun tm=>κ tm h) d
noncomputable def gr (tm:T Value) (g:Option (Nat × Bool)):Bool:=
 match g with
 | none=>true
 | some (s,w)=>match cT tm s,w with
  | .bool true,true=>true
  | .bool false,false=>true
  | _,_=>false
noncomputable def kZ (P:Program) (rec:Rec β) (all os:List Oper):T Value→Heap→(T Value→Heap→β)→β:=
 List.rec (motive:=fun _=>T Value→Heap→(T Value→Heap→β)→β) (fun tm h κ=>κ tm h)
  (fun o _ ih tm h κ=>XO.rec (motive:=fun _=>β)
   (fun g d f=>Bool.rec (motive:=fun _=>β) (lQ tm d undef h fun tm h=>ih tm h κ)
    (f rec tm h fun v h=>lQ tm d v h fun tm h=>ih tm h κ) (gr tm g))
   (wF fl pr P all o)) os
noncomputable def vM (rec:Rec β) (b:Code) (κ:Ex→T Value→Heap→β) (e:Ex) (tm:T Value) (h:Heap):β:=
 match e with | .normal=>rec b tm h κ | e=>κ e tm h
noncomputable def lY (id:Nat) (κ:Ex→T Value→Heap→β) (e:Ex) (tm:T Value) (h:Heap):β:=
 match e with | .exit i=>(match Nat.beq i id with | true=>κ .normal tm h | false=>κ (.exit i) tm h) | e=>κ e tm h
noncomputable def sK (rec:Rec β) (a b:Code) (tm:T Value) (h:Heap) (κ:Ex→T Value→Heap→β) (v:Value):β:=
 match v with
   | .bool true=>rec a tm h κ
   | .bool false=>rec b tm h κ
   | _=>fl
end
abbrev KQ:=Value→Heap→Prop
end Go.Vai

namespace Go.Vai
section
variable {β:Type} (fl:β) (pr:ji β)
abbrev M0:=XI (Option Value)
abbrev SS:=XA (Option (bC × (Nat→Value)))
inductive Cls where
 | rd (x:M0)
 | al (x:SS)
 | wr
noncomputable def fJ (P:Program) (op:Op):Cls:=
 match op with
 | .assign _=>.wr
 | op=>match lM (β:=Option Value) none P op with
  | some x=>.rd x
  | none=>match nN (β:=Option (bC × (Nat→Value))) none P op with
   | some x=>.al x
   | none=>.wr
noncomputable def eP (P:Program) (o:Oper):Bool:=match fJ P o.op with | .wr=>true | _=>false
def bit (m i:Nat):Bool:=Nat.testBit m i
def dZ (m i:Nat):Nat:=Nat.lor m (Nat.pow 2 i)
def bS (o:Oper):List Nat:=(o.after.toList.filter fun e=>Region.binds .any e).map (·.on)
def lZ (D:Nat) (o:Oper):Bool:=(bS o).all fun e=>bit D e
abbrev It:=Nat × Oper
def dW (os:List Oper) (i:Nat):List It:=match os with
 | []=>[]
 | o::os=>(i,o)::dW os (Nat.succ i)
noncomputable def GM (P:Program):List It→Nat→(List Nat→List It→Nat→β)→β
 | [],D,κ=>κ [] [] D
 | (i,o)::r,D,κ=>match lZ D o && !eP P o with
  | true=>GM P r (dZ D i) fun ex rem D=>κ (i::ex) rem D
  | false=>GM P r D fun ex rem D=>κ ex ((i,o)::rem) D
noncomputable def sL (P:Program) (D:Nat):List It→Option (Nat × List It)
 | []=>none
 | (i,o)::r=>match lZ D o with
  | true=>some (i,r)
  | false=>match sL P D r with | some (w,r)=>some (w,(i,o)::r) | none=>none
noncomputable def GN (P:Program):Nat→List It→Nat→Option (List Nat)
 | 0,_,_=>none
 | n+1,rem,D=>GM P rem D fun ex rem D=>match rem with
  | []=>some ex
  | _=>match sL P D rem with
   | none=>none
   | some (w,rem)=>match GN P n rem (dZ D w) with
    | some l=>some (ex++w::l)
    | none=>none
noncomputable def KG (P:Program) (os:List Oper):Option (List Nat):=GN P os.length (dW os 0) 0
def cg (os:List Oper) (o:Oper):List Nat:=
 (o.op.operands.toList.filterMap fun | .tmp t=>some t | _=>none)++
 (match o.guard with | some (g,_)=>((os[g]?).bind (·.dst)).toList | none=>[])
def GO (os:List Oper):Nat→Nat→Nat
 | 0,m=>m
 | i+1,m=>match bit m i,os[i]? with
  | true,some o=>GO os i ((bS o).foldl dZ m)
  | _,_=>GO os i m
def nO (os:List Oper) (w:Nat):Nat:=match os[w]? with
 | some o=>GO os w ((bS o).foldl dZ 0)
 | none=>0
def wG (o:Oper) (t:Nat):Bool:=match o.dst with | some d=>Nat.beq d t | none=>false
noncomputable def KH (P:Program) (os:List Oper) (qe:List It) (D M i:Nat) (o:Oper):Bool:=
 !bit D i && lZ D o && (guardOf os o).isSome &&
 (qe.all fun (k,q)=>eP P q || !((cg os o).any (wG q)) || (bS o).contains k) &&
 match eP P o with
 | false=>qe.all fun (k,q)=>Nat.beq k i || eP P q || (match o.dst with | some d=>!wG q d | none=>true)
 | true=>
  (qe.all fun (k,q)=>Nat.beq k i || bit D k || !lZ D q) &&
  (qe.all fun (k,q)=>!bit D k || eP P q || bit M k || (match o.dst with | some d=>!wG q d && !((cg os q).any (Nat.beq d)) | none=>true))
noncomputable def j0 (P:Program) (os:List Oper):List Nat→Nat→Nat→Bool
 | [],D,_=>(dW os 0).all fun (k,_)=>bit D k
 | i::is,D,M=>match os[i]? with
  | none=>false
  | some o=>
   let M':=match eP P o with | true=>Nat.lor M (nO os i) | false=>M
   KH P os (dW os 0) D M' i o && j0 P os is (dZ D i) M'
noncomputable def iT (x:M0) (tm:T Value) (h:Heap):Option Value:=x.run tm h fun v _=>some v
noncomputable def sM (x:SS) (tm:T Value):Option (bC × (Nat→Value)):=x.run tm fun o mk=>some (o,mk)
noncomputable def qS (P:Program) (os:List Oper) (D M:Nat) (tm:T Value) (h:Heap):List It→Bool
 | []=>true
 | (k,q)::qe=>match bit D k && !bit M k,fJ P q.op with
  | true,.rd x=>(match guardOf os q with
   | some g=>(match gr tm g with
    | true=>(match iT x tm h,q.dst with
     | some v,some d=>jD 8 v (cT tm d)
     | some _,none=>true
     | none,_=>false)
    | false=>true)
   | none=>false) && qS P os D M tm h qe
  | _,_=>qS P os D M tm h qe
noncomputable def wH (P:Program) (D M:Nat) (qe:List It):Bool:=qe.any fun (k,q)=>bit D k && !bit M k && (match fJ P q.op with | .rd _=>true | _=>false)
noncomputable def iw (P:Program) (rec:Rec β) (os:List Oper) (D M:Nat) (o:Oper) (tm:T Value) (h:Heap) (κ:T Value→Heap→β):β:=
 match guardOf os o with
 | none=>fl
 | some g=>match gr tm g with
  | false=>lQ tm o.dst undef h κ
  | true=>match fJ P o.op with
   | .rd x=>match iT x tm h with
    | some v=>lQ tm o.dst v h κ
    | none=>fl
   | .al x=>match sM x tm with
    | some (b,mk)=>an fl b h fun n h=>lQ tm o.dst (mk n) h κ
    | none=>fl
   | .wr=>lX fl pr P o.op rec tm h fun v h=>lQ tm o.dst v h fun tm h=>
     match wH P D M (dW os 0) with
     | false=>κ tm h
     | true=>match qS P os D M tm h (dW os 0) with
      | true=>κ tm h
      | false=>fl
noncomputable def gI (P:Program) (rec:Rec β) (os:List Oper):List Nat→Nat→Nat→T Value→Heap→(T Value→Heap→β)→β
 | [],_,_,tm,h,κ=>κ tm h
 | i::is,D,M,tm,h,κ=>match os[i]? with
  | none=>fl
  | some o=>
   let M':=match eP P o with | true=>Nat.lor M (nO os i) | false=>M
   iw fl pr P rec os D M' o tm h fun tm h=>gI P rec os is (dZ D i) M' tm h κ
noncomputable def xV (P:Program) (os:List Oper):Option (List Nat):=match KG P os with
 | some l=>match j0 P os l 0 0 && (dW os 0).all fun (k,q)=>(bS q).all fun e=>Nat.ble (Nat.succ e) k with
  | true=>some l
  | false=>none
 | none=>none
noncomputable def i_ (P:Program) (rec:Rec β) (os:List Oper) (draw:Bool) (tm:T Value) (h:Heap) (κ:T Value→Heap→β):β:=
 match draw with
 | false=>kZ fl pr P rec os os tm h κ
 | true=>match xV P os with
  | some l=>gI fl pr P rec os l 0 0 tm h κ
  | none=>fl
noncomputable def body (P:Program) (rec:Rec β) (c:Code) (tm:T Value) (h:Heap) (κ:Ex→T Value→Heap→β):β:=
  match c with
  | .skip=>κ .normal tm h
  | .label _=>κ .normal tm h
  | .region _ os draw=>i_ fl pr P rec os.toList draw tm h fun tm h=>κ .normal tm h
  | .seq a b=>rec a tm h (vM rec b κ)
  | .cond c a b=>ev tm c (sK fl rec a b tm h κ)
  | .block id c=>rec c tm h (lY id κ)
  | .scope c=>rec c tm h κ
  | .loop c=>rec c tm h (vM rec (.loop c) κ)
  | .exit id=>κ (.exit id) tm h
  | .ret=>κ .ret tm h
  | .rangeFunc g ps a b=>ev tm g (ga fl pr P rec ps.toList a b tm h κ)
  | _=>fl
noncomputable def run (P:Program) (n:Nat):Rec β:=
 Nat.rec (motive:=fun _=>Rec β) (fun _ _ _ _=>fl) (fun _ ih=>body fl pr P ih) n
end
end Go.Vai

namespace Go.Vai
theorem T.oQ {α:Type} (p:List Bool):T.Fg p (T.nil:T α)=none:=by
 cases p<;>rfl
theorem Fi (f n:Nat):KD (f+1) n=if n=0 then [] else Nat.beq (n % 2) 1::KD f ((n-1) / 2):=by
 cases n with
 | zero=>rfl
 | succ n=>rw[if_neg (by omega)]; rfl
def wI:List Bool→Nat
 | []=>0
 | true::p=>2*wI p+1
 | false::p=>2*wI p+2
theorem sN:∀(f n:Nat),n<2 ^ f→wI (KD f n)=n:=by
 intro f
 induction f with
 | zero=>intro n h; have:n=0:=by simp at h; omega
         subst this; rfl
 | succ f ih=>
  intro n h
  rw[Fi]
  by_cases h0:n=0
  ·simp[h0,wI]
  ·rw[if_neg h0]
   have h2:(n-1) / 2<2 ^ f:=by rw[Nat.pow_succ] at h; omega
   have:=ih _ h2
   by_cases h1:n % 2=1
   ·have hb:Nat.beq (n % 2) 1=true:=by rw[h1]; rfl
    rw[hb]; simp only[wI,this]; omega
   ·have hb:Nat.beq (n % 2) 1=false:=by
     have:n % 2=0:=by omega
     rw[this]; rfl
    rw[hb]; simp only[wI,this]; omega
def Small (n:Nat):Prop:=n<n+1
theorem key_inj {a b:Nat} (ha:Small a) (hb:Small b) (h:key a=key b):a=b:=by
 have h1:=sN a a Nat.lt_two_pow_self
 have h2:=sN b b Nat.lt_two_pow_self
 unfold key at h
 rw[←h1,←h2,h]
def T.k9 {α:Type} (a:α):List Bool→T α→T α
 | [],.nil=>.node .nil (some a) .nil
 | [],.node l _ r=>.node l (some a) r
 | false::p,.nil=>.node (T.k9 a p .nil) none .nil
 | true::p,.nil=>.node .nil none (T.k9 a p .nil)
 | false::p,.node l v r=>.node (T.k9 a p l) v r
 | true::p,.node l v r=>.node l v (T.k9 a p r)
theorem T.KI {α β:Type} (a:α) (p:List Bool):∀(t:T α) (κ:T α→β),T.SR a p t κ=κ (T.k9 a p t):=by
 induction p with
 | nil=>intro t κ; cases t<;>rfl
 | cons b p ih=>
  intro t κ
  cases t<;>cases b<;>simp only[T.k9]<;>exact ih _ _
theorem T.sO {α:Type} (a:α) (p:List Bool):∀t:T α,T.Fg p (T.k9 a p t)=some a:=by
 induction p with
 | nil=>intro t; cases t<;>rfl
 | cons b p ih=>intro t; cases t<;>cases b<;>exact ih _
theorem T.xW {α:Type} (a:α) (p:List Bool):∀(q:List Bool) (t:T α),p≠q→T.Fg q (T.k9 a p t)=T.Fg q t:=by
 induction p with
 | nil=>
  intro q t h
  cases q with
  | nil=>exact absurd rfl h
  | cons c q=>cases t<;>cases c<;>first | rfl | exact T.oQ q
 | cons b p ih=>
  intro q t h
  cases q with
  | nil=>cases t<;>cases b<;>rfl
  | cons c q=>
   have hpq:b=c→p≠q:=fun e e'=>h (by rw[e,e'])
   cases b<;>cases c<;>cases t<;>simp only[T.k9]<;>
    first
     | exact ih q _ (hpq rfl)
     | (refine (ih q T.nil (hpq rfl)).trans ?_; rw[T.oQ]; rfl)
     | (show T.Fg q T.nil=_; rw[T.oQ]; rfl)
     | rfl
noncomputable def T.aW {α:Type} (t:T α) (n:Nat) (a:α):T α:=T.k9 a (key n) t
theorem T.eT {α β:Type} (t:T α) (n:Nat) (a:α) (κ:T α→β):T.set t n a κ=κ (t.aW n a):=T.KI _ _ _ _
theorem T.af {α:Type} (t:T α) (n:Nat) (a:α):(t.aW n a).get n=some a:=T.sO _ _ _
theorem T.fo {α:Type} (t:T α) {n m:Nat} (a:α) (hn:Small n) (hm:Small m) (h:n≠m):(t.aW n a).get m=t.get m:=
 T.xW _ _ _ _ fun e=>h (key_inj hn hm e)
theorem T.jL {α:Type} (t:T α) {n m:Nat} (a:α) (hn:Small n) (hm:Small m):(t.aW n a).get m=if n=m then some a else t.get m:=by
 by_cases h:n=m
 ·subst h; simp[T.af]
 ·simp[h,T.fo t a hn hm h]
theorem T.get_nil {α:Type} (n:Nat):(T.nil:T α).get n=none:=T.oQ _
section
variable {β:Type}
@[simp] theorem bG (n:Nat) (κ:Nat→β):rF n κ=κ n:=by cases n<;>rfl
@[simp] theorem fq (i:Int) (κ:Int→β):Ci i κ=κ i:=by
 cases i with
 | ofNat n=>exact bG n fun n=>κ (.ofNat n)
 | negSucc n=>exact bG n fun n=>κ (.negSucc n)
@[simp] theorem bN (b:Bool) (κ:Bool→β):DG b κ=κ b:=by cases b<;>rfl
theorem fG (a b:Int):rG a b=decide (a<b):=by
 cases a<;>cases b<;>simp only[rG]
 ·rename_i a b
  rw[Bool.eq_iff_iff]; simp[Nat.ble_eq]; omega
 ·rename_i a b
  symm; simp; omega
 ·rename_i a b
  symm; simp; omega
 ·rename_i a b
  rw[Bool.eq_iff_iff]; simp[Nat.ble_eq]; omega
theorem eX (a b:Int):oN a b=decide (a=b):=by
 cases a<;>cases b<;>simp only[oN]
 ·rename_i a b
  rw[Bool.eq_iff_iff]; simp[Nat.beq_eq]; omega
 ·symm; simp
 ·symm; simp
 ·rename_i a b
  rw[Bool.eq_iff_iff]; simp[Nat.beq_eq]
theorem eN (a b:IntKind):fO a b=decide (a=b):=by cases a<;>cases b<;>rfl
theorem dB (k:IntKind) (n:Int):ko k n=k.wrap n:=by
 cases k<;>cases n<;>simp only[ko]
 case i64.ofNat m=>
  split
  ·rename_i h; have h:=Nat.le_of_ble_eq_true h
   exact (IntWalk.i64_in _ ⟨by show _≤(m:Int); omega,by show (m:Int)≤_; omega⟩).symm
  ·rfl
 case i64.negSucc m=>
  split
  ·rename_i h; have h:=Nat.le_of_ble_eq_true h
   have e:Int.negSucc m = -((m:Int)+1):=by omega
   exact (IntWalk.i64_in _ ⟨by rw[e]; omega,by rw[e]; omega⟩).symm
  ·rfl
 case u8.ofNat m=>
  simp only[IntKind.wrap,IntKind.bits,IntKind.signed]; simp; rfl
 case u32.ofNat m=>
  simp only[IntKind.wrap,IntKind.bits,IntKind.signed]; simp; rfl
 case u64.ofNat m=>
  simp only[IntKind.wrap,IntKind.bits,IntKind.signed]; simp; rfl
theorem Ck:∀a b:List UInt8,mT a b=decide (a=b):=by
 intro a
 induction a with
 | nil=>intro b; cases b<;>simp[mT]
 | cons x a ih=>
  intro b
  cases b with
  | nil=>simp[mT]
  | cons y b=>
   simp only[mT]
   cases h:Nat.beq x.toNat y.toNat
   ·have:x≠y:=fun e=>by subst e; simp[Nat.beq_refl] at h
    simp[this]
   ·have:x=y:=UInt8.toNat_inj.1 (Nat.eq_of_beq_eq_true h)
    simp[this,ih b]
theorem iy (a b:ByteArray):jg a b=decide (a=b):=by
 unfold jg
 rw[Ck]
 by_cases h:a=b
 ·simp[h]
 ·have:a.data.toList≠b.data.toList:=fun e=>h (by
   cases a; cases b; simp at e; simp[e])
  simp[h,this]
theorem eY (tm:T Value) (x:Operand) (κ:Value→β):ev tm x κ=κ (dV tm x):=by
 cases x<;>simp only[ev,dV,cT]
 split<;>simp_all
theorem n_ (tm:T Value) (xs:List Operand) (κ:List Value→β):KE tm xs κ=κ (xs.map (dV tm)):=by
 induction xs generalizing κ with
 | nil=>rfl
 | cons x xs ih=>simp only[KE,eY,ih,List.map_cons]
theorem XI.bO (x f) (tm:T Value) (h:Heap) (κ:Value→Heap→β):(XI.k1 x f).run tm h κ=f (dV tm x) h κ:=eY _ _ _
theorem XI.cG (x y f) (tm:T Value) (h:Heap) (κ:Value→Heap→β):(XI.k2 x y f).run tm h κ=f (dV tm x) (dV tm y) h κ:=by
 show ev _ _ _=_; simp only[eY]
theorem XI.oa (x y z f) (tm:T Value) (h:Heap) (κ:Value→Heap→β):(XI.k3 x y z f).run tm h κ=f (dV tm x) (dV tm y) (dV tm z) h κ:=by
 show ev _ _ _=_; simp only[eY]
theorem XI.fP (xs f) (tm:T Value) (h:Heap) (κ:Value→Heap→β):(XI.kn xs f).run tm h κ=f (xs.map (dV tm)) h κ:=n_ _ _ _
theorem XA.GQ (f) (tm:T Value) (κ:bC→(Nat→Value)→β):(XA.k0 f).run tm κ=f κ:=rfl
theorem XA.bO (x f) (tm:T Value) (κ:bC→(Nat→Value)→β):(XA.k1 x f).run tm κ=f (dV tm x) κ:=eY _ _ _
theorem XA.cG (x y f) (tm:T Value) (κ:bC→(Nat→Value)→β):(XA.k2 x y f).run tm κ=f (dV tm x) (dV tm y) κ:=by
 show ev _ _ _=_; simp only[eY]
theorem XA.fP (xs f) (tm:T Value) (κ:bC→(Nat→Value)→β):(XA.kn xs f).run tm κ=f (xs.map (dV tm)) κ:=n_ _ _ _
end
structure Pl where
 B:Nat
 sz:Nat
 e:Nat
abbrev di:=Nat→Option Pl
inductive VR (φ:di):Value→Value→Prop where
 | bool (b:Bool):VR φ (.bool b) (.bool b)
 | int (k:IntKind) (n:Int):VR φ (.int k n) (.int k n)
 | string (s:ByteArray):VR φ (.string s) (.string s)
 | nilFunc:VR φ .nilFunc .nilFunc
 | nilIface:VR φ .nilIface .nilIface
 | sQ:VR φ (.pointer none) (.pointer none)
 | ptr {b o:Nat} {pl:Pl} (h:φ b=some pl):VR φ (.pointer (some ⟨b,o,none⟩)) (.pointer (some ⟨pl.B,o,none⟩))
 | d_ {n c:Nat} (h:n≤c):VR φ (.slice none n c) (.slice none n c)
 | slice {b o n c:Nat} {pl:Pl} (h:φ b=some pl) (hn:n≤c) (hc:c<aM):VR φ (.slice (some ⟨b,o,none⟩) n c) (.slice (some ⟨pl.B,o,none⟩) n c)
 | bM {b o n c:Nat} {pl:Pl} (h:φ b=some pl) (hn:n≤c) (hc:c*pl.e+o=pl.sz) :
   VR φ (.slice (some ⟨b,o,none⟩) n aM) (.slice (some ⟨pl.B,o,none⟩) n c)
 | cr (a a':Addr) (c:Nat):VR φ (.slice (some a) 0 fk) (.slice (some a') 0 c)
 | sR:VR φ (.map none) (.map none)
 | map {b:Nat} {pl:Pl} (h:φ b=some pl):VR φ (.map (some b)) (.map (some pl.B))
 | yield {b:Nat} {pl:Pl} (h:φ b=some pl):VR φ (.func (.yield b) #[] #[]) (.func (.yield pl.B) #[] #[])
 | func (fn:FuncId) (a a' b b':Array Value) (ha:a.toList.length=a'.toList.length) (hb:b.toList.length=b'.toList.length)
   (rH:∀(i:Nat) (v v':Value),a.toList[i]? = some v→a'.toList[i]? = some v'→VR φ v v')
   (Cl:∀(i:Nat) (v v':Value),b.toList[i]? = some v→b'.toList[i]? = some v'→VR φ v v'):VR φ (.func (.func fn) a b) (.func (.func fn) a' b')
 | iface (t:TypeId) {v v':Value} (h:VR φ v v'):VR φ (.iface t v) (.iface t v')
 | agg (a a':Array Value) (ha:a.toList.length=a'.toList.length)
   (rH:∀(i:Nat) (v v':Value),a.toList[i]? = some v→a'.toList[i]? = some v'→VR φ v v'):VR φ (.agg a) (.agg a')
 | tuple (a a':Array Value) (ha:a.toList.length=a'.toList.length)
   (rH:∀(i:Nat) (v v':Value),a.toList[i]? = some v→a'.toList[i]? = some v'→VR φ v v'):VR φ (.tuple a) (.tuple a')
inductive F2 {α γ:Type} (R:α→γ→Prop):List α→List γ→Prop where
 | nil:F2 R [] []
 | cons {a:α} {b:γ} {l:List α} {m:List γ} (h:R a b) (t:F2 R l m):F2 R (a::l) (b::m)
theorem F2.length {α γ:Type} {R:α→γ→Prop} {l:List α} {m:List γ} (h:F2 R l m):l.length=m.length:=by
 induction h with
 | nil=>rfl
 | cons _ _ ih=>simp[ih]
theorem F2.get {α γ:Type} {R:α→γ→Prop} {l:List α} {m:List γ} (h:F2 R l m):∀(i:Nat) (a:α),l[i]? = some a→∃b,m[i]? = some b∧R a b:=by
 induction h with
 | nil=>intro i a e; simp at e
 | cons hr _ ih=>
  intro i a e
  cases i with
  | zero=>simp at e; subst e; exact ⟨_,by simp,hr⟩
  | succ i=>simp at e; obtain ⟨b,hb,hr'⟩:=ih i a e; exact ⟨b,by simpa using hb,hr'⟩
theorem F2.k_ {α γ:Type} {R:α→γ→Prop}:∀{l:List α} {m:List γ},l.length=m.length→
  (∀(i:Nat) (a:α) (b:γ),l[i]? = some a→m[i]? = some b→R a b)→F2 R l m:=by
 intro l
 induction l with
 | nil=>intro m h _; cases m with | nil=>exact .nil | cons _ _=>simp at h
 | cons a l ih=>
  intro m h hr
  cases m with
  | nil=>simp at h
  | cons b m=>exact .cons (hr 0 a b (by simp) (by simp)) (ih (by simpa using h) fun i x y hx hy=>hr (i+1) x y (by simpa using hx) (by simpa using hy))
theorem F2.imp {α γ:Type} {R S:α→γ→Prop} {l:List α} {m:List γ} (h:F2 R l m) (k:∀a b,R a b→S a b):F2 S l m:=by
 induction h with
 | nil=>exact .nil
 | cons hr _ ih=>exact .cons (k _ _ hr) ih
theorem F2.append {α γ:Type} {R:α→γ→Prop} {l l':List α} {m m':List γ} (h:F2 R l m) (h':F2 R l' m'):F2 R (l++l') (m++m'):=by
 induction h with
 | nil=>exact h'
 | cons hr _ ih=>exact .cons hr ih
theorem F2.take {α γ:Type} {R:α→γ→Prop} {l:List α} {m:List γ} (h:F2 R l m) (n:Nat):F2 R (l.take n) (m.take n):=by
 induction h generalizing n with
 | nil=>simp; exact .nil
 | cons hr _ ih=>cases n with | zero=>exact .nil | succ n=>exact .cons hr (ih n)
theorem F2.drop {α γ:Type} {R:α→γ→Prop} {l:List α} {m:List γ} (h:F2 R l m) (n:Nat):F2 R (l.drop n) (m.drop n):=by
 induction h generalizing n with
 | nil=>simp; exact .nil
 | cons hr ht ih=>cases n with | zero=>exact .cons hr ht | succ n=>exact ih n
theorem F2.map {α γ δ:Type} {R:α→γ→Prop} {f:δ→α} {g:δ→γ} (l:List δ) (h:∀x∈l,R (f x) (g x)):F2 R (l.map f) (l.map g):=by
 induction l with
 | nil=>exact .nil
 | cons x l ih=>exact .cons (h x (by simp)) (ih fun y hy=>h y (by simp[hy]))
theorem VR.qf {φ:di} {a a':Array Value} (h:F2 (VR φ) a.toList a'.toList):VR φ (.agg a) (.agg a'):=
 .agg a a' h.length fun i v v' e e'=>by obtain ⟨b,hb,hr⟩:=h.get i v e; rw[hb] at e'; cases e'; exact hr
theorem VR.tuple' {φ:di} {a a':Array Value} (h:F2 (VR φ) a.toList a'.toList):VR φ (.tuple a) (.tuple a'):=
 .tuple a a' h.length fun i v v' e e'=>by obtain ⟨b,hb,hr⟩:=h.get i v e; rw[hb] at e'; cases e'; exact hr
theorem VR.func' {φ:di} {fn:FuncId} {a a' b b':Array Value} (h:F2 (VR φ) a.toList a'.toList) (k:F2 (VR φ) b.toList b'.toList):VR φ (.func (.func fn) a b) (.func (.func fn) a' b'):=
 .func fn a a' b b' h.length k.length (fun i v v' e e'=>by obtain ⟨b,hb,hr⟩:=h.get i v e; rw[hb] at e'; cases e'; exact hr)
  (fun i v v' e e'=>by obtain ⟨b,hb,hr⟩:=k.get i v e; rw[hb] at e'; cases e'; exact hr)
theorem VR.undef {φ:di}:VR φ undef undef:=VR.tuple' .nil
def Sub (φ φ':di):Prop:=∀b pl,φ b=some pl→φ' b=some pl
theorem Sub.refl (φ:di):Sub φ φ:=fun _ _ h=>h
theorem Sub.trans {φ φ' SU:di} (h:Sub φ φ') (k:Sub φ' SU):Sub φ SU:=fun b pl e=>k b pl (h b pl e)
theorem VR.mono {φ φ':di} (hs:Sub φ φ') {v v':Value} (h:VR φ v v'):VR φ' v v':=by
 induction h with
 | bool b=>exact .bool b
 | int k n=>exact .int k n
 | string s=>exact .string s
 | nilFunc=>exact .nilFunc
 | nilIface=>exact .nilIface
 | sQ=>exact .sQ
 | ptr h=>exact .ptr (hs _ _ h)
 | d_ h=>exact .d_ h
 | slice h hn hc=>exact .slice (hs _ _ h) hn hc
 | bM h hn hc=>exact .bM (hs _ _ h) hn hc
 | cr a a' c=>exact .cr a a' c
 | sR=>exact .sR
 | map h=>exact .map (hs _ _ h)
 | yield h=>exact .yield (hs _ _ h)
 | func fn a a' b b' ha hb _ _ SV SX=>exact .func fn a a' b b' ha hb SV SX
 | iface t _ ih=>exact .iface t ih
 | agg a a' ha _ ih=>exact .agg a a' ha ih
 | tuple a a' ha _ ih=>exact .tuple a a' ha ih
structure ER (φ:di) (x x':MapEntry):Prop where
 key:VR φ x.key x'.key
 val:VR φ x.val x'.val
 born:x'.born=x.born
def wJ:Option Ex→Option Code→Prop
 | none,none=>True
 | some .ret,some .ret=>True
 | some (.exit i),some (.exit j)=>i=j
 | _,_=>False
structure zz (nt:Nat) (ps:List Nat) (a b:Code):Prop where
 small:nt≤1000000000000
 ps:ps.all (fun t=>Nat.ble (Nat.succ t) nt)=true
 ca:codeOk nt a=true
 cb:codeOk nt b=true
 ra:lW a=true
 rb:lW b=true
def OR (P:Program) (φ:di):bC→Pl→Option Obj→Prop
 | .cells n c e op,pl,some (.cells C e' fz)=>e'=e∧fz=(0,0)∧n≤C.size∧n≤4611686018427387904∧(op=true→C.size=pl.sz∧dY P e=some pl.e∧0<pl.e)∧
   ∀i v,c.get i=some v→i<n→∃v',C[i]? = some v'∧VR φ v v'
 | .map es clock,_,some (.map es' clock')=>clock'=clock∧F2 (ER φ) es es'.toList
 | .dz m since seen stepped,_,some (.mapIter m' since' seen' stepped')=>since'=since∧stepped'=stepped∧seen'.toList=seen.reverse∧
   ((m=none∧m'=none)∨∃b jC,m=some b∧φ b=some jC∧m'=some jC.B)
 | .loop st cB tm ps a b,_,some (.loop r)=>r.state=st∧wJ cB r.pending∧r.params.toList=ps∧r.assign=a∧r.body=b∧
   ∃nt,zz nt ps a b∧r.tmps.size=nt∧∀t,t<nt→VR φ (cT tm t) (r.tmps.getD t undef)
 | .ro n c e,_,some (.cells C e' _)=>e'=e∧n≤C.size∧∀i v,c.get i=some v→i<n→∃v',C[i]? = some v'∧VR φ v v'
 | .dead n e,pl,_=>n≤pl.sz∧n≤4611686018427387904∧dY P e=some pl.e∧0<pl.e
 | _,_,_=>False
def bC.live:bC→Prop
 | .dead ..=>False
 | _=>True
theorem OR.mono {P:Program} {φ φ':di} (hs:Sub φ φ') {o:bC} {pl:Pl} {O:Option Obj} (h:OR P φ o pl O):OR P φ' o pl O:=by
 cases o with
 | cells n c e op=>
  cases O with
  | none=>exact h
  | some O=>cases O<;>simp only[OR] at h ⊢
            exact ⟨h.1,h.2.1,h.2.2.1,h.2.2.2.1,h.2.2.2.2.1,fun i v e hi=>let ⟨v',a,b⟩:=h.2.2.2.2.2 i v e hi; ⟨v',a,b.mono hs⟩⟩
 | map es clock=>
  cases O with
  | none=>exact h
  | some O=>cases O<;>simp only[OR] at h ⊢
            exact ⟨h.1,h.2.imp fun a b r=>⟨r.key.mono hs,r.val.mono hs,r.born⟩⟩
 | dz m since seen stepped=>
  cases O with
  | none=>exact h
  | some O=>cases O<;>simp only[OR] at h ⊢
            exact ⟨h.1,h.2.1,h.2.2.1,h.2.2.2.imp id fun ⟨b,jC,x,y,z⟩=>⟨b,jC,x,hs _ _ y,z⟩⟩
 | MZ s pos=>cases O with
  | none=>exact h
  | some O=>cases O<;>exact h
 | dead n e=>cases O with
  | none=>exact h
  | some O=>cases O<;>exact h
 | ro n c e=>
  cases O with
  | none=>exact h
  | some O=>cases O<;>simp only[OR] at h ⊢
            exact ⟨h.1,h.2.1,fun i v e hi=>let ⟨v',a,b⟩:=h.2.2 i v e hi; ⟨v',a,b.mono hs⟩⟩
 | loop st cB tm ps a b=>
  cases O with
  | none=>exact h
  | some O=>cases O<;>simp only[OR] at h ⊢
            obtain ⟨h1,h2,h3,h4,h5,nt,h6,h7,h8⟩:=h
            exact ⟨h1,h2,h3,h4,h5,nt,h6,h7,fun t ht=>(h8 t ht).mono hs⟩
def UF (_:Option Obj):Prop:=True
theorem oR {P:Program} {φ:di} {o:bC} {pl:Pl} {O:Option Obj} (_h:OR P φ o pl O) (_hl:o.live):UF O:=trivial
structure HR (P:Program) (φ:di) (h:Heap) (w:World):Prop where
 obj:∀b o pl,h.bl.get b=some o→φ b=some pl→OR P φ o pl w.heap[pl.B]?
 dom:∀b pl,φ b=some pl→b<h.nx∧pl.B<w.heap.size
 keys:∀b o,Small b→h.bl.get b=some o→b<h.nx
 KJ:h.nx<h.nx+1
 inj:∀b b' o o' pl jC,h.bl.get b=some o→h.bl.get b'=some o'→o.live→o'.live→φ b=some pl→φ b'=some jC→pl.B=jC.B→b=b'
 lo:h.lo≤h.nx
structure Ext (φ φ':di) (h h':Heap) (w w':World):Prop where
 sub:Sub φ φ'
 new:∀b pl,φ b=none→φ' b=some pl→h.nx≤b∧(w.heap.size≤pl.B∨∃b0 Ov,φ b0=some Ov∧Ov.B=pl.B)
 nx:h.nx≤h'.nx
 size:w.heap.size≤w'.heap.size
 xX:∀B,B<w.heap.size→(∀b pl,φ b=some pl→pl.B≠B)→w'.heap[B]? = w.heap[B]?
 Cf:∀b,b<h.nx→φ b=none→h'.bl.get b=h.bl.get b
 tape:w'.tape=w.tape
 os:w'.os=w.os
 output:w'.output=w.output
 fz:∀B:Nat,UF w.heap[B]?→UF w'.heap[B]?
 lo:h'.lo=h.lo
 DH:∀b,b<h.lo→h'.bl.get b=h.bl.get b
 DI:∀(b:Nat) (o:bC) (pl:Pl),b<h.lo→h.bl.get b=some o→o.live→φ b=some pl→pl.B<w.heap.size→w'.heap[pl.B]? = w.heap[pl.B]?
 dr:w.drawn≤w'.drawn
theorem Ext.refl (φ:di) (h:Heap) (w:World):Ext φ φ h h w w:=
 ⟨Sub.refl φ,fun b pl a b'=>(by rw[a] at b'; cases b'),Nat.le_refl _,Nat.le_refl _,fun _ _ _=>rfl,fun _ _ _=>rfl,rfl,rfl,rfl,fun _=>id,rfl,fun _ _=>rfl,fun _ _ _ _ _ _ _ _=>rfl,Nat.le_refl _⟩
theorem Ext.trans {φ φ' SU:di} {h h' h'':Heap} {w w' w'':World} (a:Ext φ φ' h h' w w') (b:Ext φ' SU h' h'' w' w'') :
  Ext φ SU h h'' w w'' where
 sub:=a.sub.trans b.sub
 new:=fun x pl e e''=>by
  cases hx:φ' x with
  | some jC=>
   have:=b.sub x jC hx
   rw[e''] at this
   cases this
   exact a.new x pl e hx
  | none=>
   obtain ⟨h1,h2⟩:=b.new x pl hx e''
   refine ⟨Nat.le_trans a.nx h1,?_⟩
   rcases h2 with h2 | ⟨b0,Ov,hb0,hB⟩
   ·exact .inl (Nat.le_trans a.size h2)
   ·cases h0:φ b0 with
    | some p=>
     have:=a.sub b0 p h0
     rw[hb0] at this
     cases this
     exact .inr ⟨b0,Ov,h0,hB⟩
    | none=>
     obtain ⟨_,h3⟩:=a.new b0 Ov h0 hb0
     rw[hB] at h3
     exact h3
 nx:=Nat.le_trans a.nx b.nx
 size:=Nat.le_trans a.size b.size
 xX:=fun B hB hn=>by
  rw[b.xX B (Nat.lt_of_lt_of_le hB a.size) ?_,a.xX B hB hn]
  intro x pl hx e
  cases h0:φ x with
  | some p=>
   have:=a.sub x p h0
   rw[hx] at this
   cases this
   exact hn x pl h0 e
  | none=>
   obtain ⟨_,h3⟩:=a.new x pl h0 hx
   rcases h3 with h3 | ⟨b0,Ov,hb0,hB0⟩
   ·omega
   ·exact hn b0 Ov hb0 (hB0.trans e)
 Cf:=fun x hx hn=>by
  have h1:φ' x=none:=by
   cases h1:φ' x with
   | none=>rfl
   | some pl=>have:=(a.new x pl hn h1).1; omega
  rw[b.Cf x (Nat.lt_of_lt_of_le hx a.nx) h1,a.Cf x hx hn]
 tape:=b.tape.trans a.tape
 os:=b.os.trans a.os
 output:=b.output.trans a.output
 fz:=fun B h=>b.fz B (a.fz B h)
 lo:=b.lo.trans a.lo
 DH:=fun x hx=>(b.DH x (by rw[a.lo]; exact hx)).trans (a.DH x hx)
 DI:=fun x o pl hx ho hl hp hs=>(b.DI x o pl (by rw[a.lo]; exact hx) ((a.DH x hx).trans ho) hl (a.sub x pl hp) (Nat.lt_of_lt_of_le hs a.size)).trans (a.DI x o pl hx ho hl hp hs)
 dr:=Nat.le_trans a.dr b.dr
end Go.Vai

namespace Go.Vai
open Go
section runs
variable {P:Program} {w:World} {t:TypeId}
theorem aD {d:TypeDesc} (h:P.underlying t=some d):(underlying t).run P w=.ok d w:=run_underlying h w
theorem l9 {i:TypeInfo} (h:P.info? t=some i):(typeInfo t).run P w=.ok i w:=by simp[typeInfo,h]
theorem bW {s:Nat} (h:dY P t=some s):(sizeOf t).run P w=.ok s w:=by
 unfold dY at h
 cases hi:P.info? t with
 | none=>rw[hi] at h; simp at h
 | some i=>rw[hi] at h; simp at h; simp[sizeOf,l9 hi,h]
theorem mU {b:Bool} (h:kr P t=some b):(isAgg t).run P w=.ok b w:=by
 unfold kr at h
 cases hu:P.underlying t with
 | none=>rw[hu] at h; simp at h
 | some d=>rw[hu] at h; cases d<;>simp at h<;>subst h<;>simp[isAgg,aD hu]
theorem fH {z:List Value} (h:zeroOf P t=some z):∃v i,P.info? t=some i∧i.zero=some v∧z=v.cells.toList∧z.all eW=true:=by
 unfold zeroOf at h
 cases hi:P.info? t with
 | none=>rw[hi] at h; simp at h
 | some i=>
  rw[hi] at h
  cases hz:i.zero with
  | none=>simp[hz] at h
  | some v=>
   simp only[Option.bind_some,hz] at h
   split at h
   ·rename_i hb; cases h; exact ⟨v,i,rfl,hz,rfl,hb⟩
   ·cases h
theorem fT {v:Value} {i:TypeInfo} (hi:P.info? t=some i) (hz:i.zero=some v):(zeroValue t).run P w=.ok v w:=by
 simp[zeroValue,l9 hi,hz]
end runs
variable {β:Type} {fl:β} {good:β→Prop} {P:Program} {φ:di} {h:Heap} {w:World} {t:TypeId}
theorem HR.cell (hr:HR P φ h w) {b n e o:Nat} {c:T Value} {op:Bool} {pl:Pl} {v:Value} (hb:h.bl.get b=some (.cells n c e op)) (hp:φ b=some pl)
  (ho:o<n) (hc:c.get o=some v):∃v',w.cell? ⟨pl.B,o,none⟩=some v'∧VR φ v v':=by
 have:=hr.obj b _ pl hb hp
 cases hO:w.heap[pl.B]? with
 | none=>rw[hO] at this; exact this.elim
 | some O=>
  rw[hO] at this
  cases O<;>simp only[OR] at this<;>try exact this.elim
  obtain ⟨_,_,_,_,_,hh⟩:=this
  obtain ⟨v',rV,XR⟩:=hh o v hc ho
  exact ⟨v',by simp[World.cell?,hO,rV],XR⟩
theorem HR.GR (hr:HR P φ h w) {b n e o:Nat} {c:T Value} {pl:Pl} {v:Value} (hb:h.bl.get b=some (.ro n c e)) (hp:φ b=some pl)
  (ho:o<n) (hc:c.get o=some v):∃v',w.cell? ⟨pl.B,o,none⟩=some v'∧VR φ v v':=by
 have:=hr.obj b _ pl hb hp
 cases hO:w.heap[pl.B]? with
 | none=>rw[hO] at this; exact this.elim
 | some O=>
  rw[hO] at this
  cases O<;>simp only[OR] at this<;>try exact this.elim
  obtain ⟨_,_,hh⟩:=this
  obtain ⟨v',rV,XR⟩:=hh o v hc ho
  exact ⟨v',by simp[World.cell?,hO,rV],XR⟩
theorem cz {a b:Nat} (h:Nat.ble a b=true):a≤b:=Nat.le_of_ble_eq_true h
theorem M1 {a b:Nat} (h:Nat.ble a b=false):b<a:=by
 rcases Nat.lt_or_ge b a with h' | h'
 ·exact h'
 ·rw[Nat.ble_eq_true_of_le h'] at h; cases h
theorem cu {a b:Nat} (h:Nat.beq a b=true):a=b:=Nat.eq_of_beq_eq_true h
theorem l_ {a b:Nat} (h:Nat.beq a b=false):a≠b:=Nat.ne_of_beq_eq_false h
theorem jj (hfl:¬good fl) (c:T Value) (off:Nat):∀(n:Nat) (acc:List Value) (κ:List Value→β),good (jh fl c off n acc κ)→
  ∃l,good (κ (l++acc))∧l.length=n∧∀j v,l[j]? = some v→c.get (off+j)=some v:=by
 intro n
 induction n with
 | zero=>intro acc κ hg; exact ⟨[],hg,rfl,fun j v e=>by simp at e⟩
 | succ n ih=>
  intro acc κ hg
  have hg':good (Option.rec (motive:=fun _=>β) fl (fun v=>jh fl c off n (v::acc) κ) (c.get (Nat.add off n))):=hg
  cases hv:c.get (Nat.add off n) with
  | none=>rw[hv] at hg'; exact absurd hg' hfl
  | some v=>
   rw[hv] at hg'
   obtain ⟨l,h1,h2,h3⟩:=ih (v::acc) κ hg'
   refine ⟨l++[v],by simpa using h1,by simp[h2],fun j u e=>?_⟩
   rcases Nat.lt_or_ge j n with hj | hj
   ·rw[List.getElem?_append_left (by omega)] at e; exact h3 j u e
   ·rw[List.getElem?_append_right (by omega),h2] at e
    rcases Nat.eq_or_lt_of_le hj with hj' | hj'
    ·subst hj'; simp at e; subst e; exact hv
    ·rw[show j-n=(j-n-1)+1 by omega] at e; simp at e
theorem HR.DJ (hr:HR P φ h w) {b n e off:Nat} {c:T Value} {op:Bool} {pl:Pl} {l:List Value} (hb:h.bl.get b=some (.cells n c e op)) (hp:φ b=some pl)
  (ho:off+l.length≤n) (hc:∀j v,l[j]? = some v→c.get (off+j)=some v) :
  ∃l',F2 (VR φ) l l'∧∀w1:World,w1.heap=w.heap→(loadCells ⟨pl.B,off,none⟩ l.length).run P w1=.ok l'.toArray w1:=by
 have key:∀(l:List Value) (off:Nat),off+l.length≤n→(∀j v,l[j]? = some v→c.get (off+j)=some v)→
   ∃l',F2 (VR φ) l l'∧∀j v,l'[j]? = some v→w.cell? ⟨pl.B,off+j,none⟩=some v:=by
  intro l
  induction l with
  | nil=>intro off _ _; exact ⟨[],.nil,fun j v e=>by simp at e⟩
  | cons x l ih=>
   intro off ho hc
   simp at ho
   obtain ⟨v',h1,h2⟩:=hr.cell hb hp (o:=off) (by omega) (by simpa using hc 0 x (by simp))
   obtain ⟨l',h3,h4⟩:=ih (off+1) (by omega) fun j v e=>by
    have:=hc (j+1) v (by simpa using e); rwa [show off+(j+1)=off+1+j by omega] at this
   refine ⟨v'::l',.cons h2 h3,fun j v e=>?_⟩
   cases j with
   | zero=>simp at e; subst e; simpa using h1
   | succ j=>simp at e; have:=h4 j v e; rwa [show off+1+j=off+(j+1) by omega] at this
 obtain ⟨l',h1,h2⟩:=key l off ho hc
 refine ⟨l',h1,fun w1 hw1=>?_⟩
 rw[h1.length]
 refine run_loadCells_list w1 _ l' fun j v e=>?_
 have:=h2 j v e
 have ha:(⟨pl.B,off,none⟩:Addr).add j=⟨pl.B,off+j,none⟩:=by unfold Addr.add; split<;>simp_all
 rw[ha]
 unfold World.cell? at this ⊢
 rw[hw1]; exact this
theorem HR.DK (hr:HR P φ h w) {b n e off:Nat} {c:T Value} {pl:Pl} {l:List Value} (hb:h.bl.get b=some (.ro n c e)) (hp:φ b=some pl)
  (ho:off+l.length≤n) (hc:∀j v,l[j]? = some v→c.get (off+j)=some v) :
  ∃l',F2 (VR φ) l l'∧∀w1:World,w1.heap=w.heap→(loadCells ⟨pl.B,off,none⟩ l.length).run P w1=.ok l'.toArray w1:=by
 have key:∀(l:List Value) (off:Nat),off+l.length≤n→(∀j v,l[j]? = some v→c.get (off+j)=some v)→
   ∃l',F2 (VR φ) l l'∧∀j v,l'[j]? = some v→w.cell? ⟨pl.B,off+j,none⟩=some v:=by
  intro l
  induction l with
  | nil=>intro off _ _; exact ⟨[],.nil,fun j v e=>by simp at e⟩
  | cons x l ih=>
   intro off ho hc
   simp at ho
   obtain ⟨v',h1,h2⟩:=hr.GR hb hp (o:=off) (by omega) (by simpa using hc 0 x (by simp))
   obtain ⟨l',h3,h4⟩:=ih (off+1) (by omega) fun j v e=>by
    have:=hc (j+1) v (by simpa using e); rwa [show off+(j+1)=off+1+j by omega] at this
   refine ⟨v'::l',.cons h2 h3,fun j v e=>?_⟩
   cases j with
   | zero=>simp at e; subst e; simpa using h1
   | succ j=>simp at e; have:=h4 j v e; rwa [show off+1+j=off+(j+1) by omega] at this
 obtain ⟨l',h1,h2⟩:=key l off ho hc
 refine ⟨l',h1,fun w1 hw1=>?_⟩
 rw[h1.length]
 refine run_loadCells_list w1 _ l' fun j v e=>?_
 have:=h2 j v e
 have ha:(⟨pl.B,off,none⟩:Addr).add j=⟨pl.B,off+j,none⟩:=by unfold Addr.add; split<;>simp_all
 rw[ha]
 unfold World.cell? at this ⊢
 rw[hw1]; exact this
theorem jM (hfl:¬good fl) (ht:kr P t=some false) {a a':Value} {κ:Value→Heap→β} (hg:good (load1 fl a h κ)) (hv:VR φ a a') (hr:HR P φ h w) :
  ∃v v',good (κ v h)∧VR φ v v'∧(Instr.loadAt t a').run P w=.ok v' w:=by
 unfold load1 at hg
 split at hg<;>try exact absurd hg hfl
 cases hv with
 | ptr hp=>
  split at hg<;>try exact absurd hg hfl
  ·rename_i hb
   split at hg<;>try exact absurd hg hfl
   rename_i v hle hc
   obtain ⟨v',h1,h2⟩:=hr.cell hb hp (cz hle) hc
   refine ⟨v,v',hg,h2,?_⟩
   simp[Instr.loadAt,Instr.sureAddr,loadVar,mU ht,h1]
  ·rename_i hb
   split at hg<;>try exact absurd hg hfl
   rename_i v hle hc
   obtain ⟨v',h1,h2⟩:=hr.GR hb hp (cz hle) hc
   refine ⟨v,v',hg,h2,?_⟩
   simp[Instr.loadAt,Instr.sureAddr,loadVar,mU ht,h1]
theorem qT (hfl:¬good fl) (ht:kr P t=some true) {s:Nat} (hs:dY P t=some s) {a a':Value} {κ:Value→Heap→β} (hg:good (aF fl s a h κ)) (hv:VR φ a a') (hr:HR P φ h w) :
  ∃v v',good (κ v h)∧VR φ v v'∧(Instr.loadAt t a').run P w=.ok v' w:=by
 unfold aF at hg
 split at hg<;>try exact absurd hg hfl
 cases hv with
 | ptr hp=>
  split at hg<;>try exact absurd hg hfl
  ·rename_i hb
   split at hg<;>try exact absurd hg hfl
   rename_i hle
   obtain ⟨l,h1,h2,h3⟩:=jj hfl _ _ _ _ _ hg
   simp only[List.append_nil] at h1
   obtain ⟨l',h4,h5⟩:=hr.DJ hb hp (by rw[h2]; exact cz hle) h3
   refine ⟨_,.agg l'.toArray,h1,VR.qf (by simpa using h4),?_⟩
   have h5:=h5 w rfl
   rw[h2] at h5
   simp[Instr.loadAt,Instr.sureAddr,loadVar,mU ht,bW hs,h5]
  ·rename_i hb
   split at hg<;>try exact absurd hg hfl
   rename_i hle
   obtain ⟨l,h1,h2,h3⟩:=jj hfl _ _ _ _ _ hg
   simp only[List.append_nil] at h1
   obtain ⟨l',h4,h5⟩:=hr.DK hb hp (by rw[h2]; exact cz hle) h3
   refine ⟨_,.agg l'.toArray,h1,VR.qf (by simpa using h4),?_⟩
   have h5:=h5 w rfl
   rw[h2] at h5
   simp[Instr.loadAt,Instr.sureAddr,loadVar,mU ht,bW hs,h5]
theorem zA (hfl:¬good fl) {c c' a a' b b':Value} {κ:Value→Heap→β} (hg:good (a_ fl c a b h κ)) (hc:VR φ c c') (ha:VR φ a a') (hb:VR φ b b') :
  ∃v v',good (κ v h)∧VR φ v v'∧((do pure (Next.value (if ←asBool c' then a' else b')):Sem Next)).run P w=.ok (.value v') w:=by
 unfold a_ at hg
 split at hg<;>try exact absurd hg hfl
 ·cases hc; exact ⟨a,a',hg,ha,by simp[asBool]⟩
 ·cases hc; exact ⟨b,b',hg,hb,by simp[asBool]⟩
theorem Cm (hfl:¬good fl) {a a':Value} {κ:Value→Heap→β} (hg:good (aX fl a h κ)) (ha:VR φ a a') (o:Oper) (ρ:Operand→Value) (x:Operand) (ho:o.op=.nilCheck x) (hx:ρ x=a') :
  ∃v v',good (κ v h)∧VR φ v v'∧(execOp ρ o).run P w=.ok (.value v') w:=by
 unfold aX at hg
 split at hg<;>try exact absurd hg hfl
 ·refine ⟨_,a',hg,ha,?_⟩
  cases ha; simp[execOp,ho,hx]
 ·refine ⟨_,a',hg,ha,?_⟩
  cases ha; simp[execOp,ho,hx]
 ·refine ⟨_,a',hg,ha,?_⟩
  cases ha; simp[execOp,ho,hx]
theorem qg (hfl:¬good fl) {fs:Array Field} {qb:Field} {f s:Nat} (hu:P.underlying t=some (.struct fs)) (hf:fs[f]? = some qb) (hs:dY P qb.type=some (s+1))
  {a a':Value} {κ:Value→Heap→β} (hg:good (fieldAddrB fl qb.offset a h κ)) (ha:VR φ a a') :
  ∃v v',good (κ v h)∧VR φ v v'∧(Instr.fieldAt t a' f).run P w=.ok v' w:=by
 unfold fieldAddrB at hg
 split at hg<;>try exact absurd hg hfl
 rename_i b o
 cases ha with
 | ptr hp=>
  rename_i pl
  simp only[bG] at hg
  refine ⟨_,.pointer (some ⟨pl.B,o+qb.offset,none⟩),hg,.ptr hp,?_⟩
  have GU:(⟨pl.B,o,none⟩:Addr).add qb.offset=⟨pl.B,o+qb.offset,none⟩:=by unfold Addr.add; split<;>simp_all
  simp[Instr.fieldAt,aD hu,hf,Instr.sureAddr,fieldPlace,bW hs,GU]
theorem iz (B o n:Nat):(⟨B,o,none⟩:Addr).add n=⟨B,o+n,none⟩:=by unfold Addr.add; split<;>simp_all
theorem qh (hfl:¬good fl) {e s:Nat} (hu:P.underlying t=some (.slice e)) (hs:dY P e=some s)
  {a a' i i':Value} {κ:Value→Heap→β} (hg:good (ax fl s a i h κ)) (ha:VR φ a a') (hi:VR φ i i') :
  ∃v v',good (κ v h)∧VR φ v v'∧(Instr.indexAt t a' i').run P w=.ok v' w:=by
 unfold ax at hg
 split at hg<;>try exact absurd hg hfl
 split at hg<;>try exact absurd hg hfl
 rename_i b o len cap k j _ hle
 have hle:=cz hle
 simp only[bG] at hg
 cases hi
 cases ha with
 | slice hp hn hc=>
  rename_i pl
  refine ⟨_,.pointer (some ⟨pl.B,o+j*s,none⟩),hg,.ptr hp,?_⟩
  have:j<len:=hle
  simp[Instr.indexAt,asIntOf,aD hu,bW hs,iz,this]
 | bM hp hn hc=>
  rename_i pl
  refine ⟨_,.pointer (some ⟨pl.B,o+j*s,none⟩),hg,.ptr hp,?_⟩
  have:j<len:=hle
  simp[Instr.indexAt,asIntOf,aD hu,bW hs,iz,this]
 | cr _ WW c=>exact absurd hle (by omega)
theorem qi (hfl:¬good fl) {e s len:Nat} (hu:P.underlying t=some (.array len e)) (hs:dY P e=some s)
  {a a' i i':Value} {κ:Value→Heap→β} (hg:good (dA fl len s a i h κ)) (ha:VR φ a a') (hi:VR φ i i') :
  ∃v v',good (κ v h)∧VR φ v v'∧(Instr.indexAt t a' i').run P w=.ok v' w:=by
 unfold dA at hg
 split at hg<;>try exact absurd hg hfl
 split at hg<;>try exact absurd hg hfl
 rename_i b o k j _ hle
 have hle:=cz hle
 simp only[bG] at hg
 cases hi
 cases ha with
 | ptr hp=>
  rename_i pl
  refine ⟨_,.pointer (some ⟨pl.B,o+j*s,none⟩),hg,.ptr hp,?_⟩
  have:j<len:=hle
  simp[Instr.indexAt,asIntOf,aD hu,bW hs,iz,Instr.sureAddr,this]
theorem zB (hfl:¬good fl) {src dst:TypeId} {ds:TypeDesc} {k:IntKind} (hs:P.underlying src=some ds) (hd:P.underlying dst=some (.int k))
  {a a':Value} {κ:Value→Heap→β} (hg:good (gU fl k a h κ)) (ha:VR φ a a') :
  ∃v v',good (κ v h)∧VR φ v v'∧(convert src dst a').run P w=.ok v' w:=by
 unfold gU at hg
 split at hg<;>try exact absurd hg hfl
 rename_i k' n
 simp only[fq,dB] at hg
 cases ha
 refine ⟨_,_,hg,.int k _,?_⟩
 simp[convert,aD hs,aD hd,Conv.intToInt]
theorem Fj (hfl:¬good fl) {op:UnOp} {a a':Value} {κ:Value→Heap→β} (hg:good (kU fl op a h κ)) (ha:VR φ a a') :
  ∃v v',good (κ v h)∧VR φ v v'∧(Op.unary op a').run P w=.ok v' w:=by
 unfold kU at hg
 split at hg<;>try exact absurd hg hfl
 ·cases ha; simp only[bN] at hg; exact ⟨_,_,hg,.bool _,by simp[Op.unary]⟩
 ·cases ha; simp only[fq,dB] at hg; exact ⟨_,_,hg,.int _ _,by simp[Op.unary,Op.intArith]; congr 3; exact (Int.zero_sub _).symm⟩
 ·cases ha; simp only[fq,dB] at hg; exact ⟨_,_,hg,.int _ _,by simp[Op.unary,Op.intBits]⟩
theorem sS (hfl:¬good fl) {i:Nat} {a a':Value} {κ:Value→Heap→β} (hg:good (av fl i a h κ)) (ha:VR φ a a') :
  ∃v v',good (κ v h)∧VR φ v v'∧(Instr.extract a' i).run P w=.ok v' w:=by
 unfold av at hg
 split at hg<;>try exact absurd hg hfl
 split at hg<;>try exact absurd hg hfl
 rename_i vs _ v hv
 cases ha with
 | tuple _ WW hl rH=>
  have:∃v',WW.toList[i]? = some v':=by
   cases hx:WW.toList[i]? with
   | some v'=>exact ⟨v',rfl⟩
   | none=>
    have h1:=List.getElem?_eq_none_iff.1 hx
    have h2:=(List.getElem?_eq_some_iff.1 hv).1
    omega
  obtain ⟨v',rV⟩:=this
  refine ⟨v,v',hg,rH i v v' hv rV,?_⟩
  have:WW[i]? = some v':=by simpa using rV
  simp[Instr.extract,this]
theorem xY (hfl:¬good fl) {ts:Array TypeId} {ty:TypeId} {a a':Value} {κ:Value→Heap→β} (hg:good (lT fl a h κ)) (ha:VR φ a a')
  (ht:ts[0]? = some t) (hu:P.underlying t=some .string) :
  ∃v v',good (κ v h)∧VR φ v v'∧(Builtin.len_ ts ty #[a']).run P w=.ok v' w:=by
 unfold lT at hg
 split at hg<;>try exact absurd hg hfl
 simp only[bG] at hg
 cases ha
 exact ⟨_,_,hg,.int _ _,by simp[Builtin.len_,ht,aD hu,goInt]⟩
theorem xZ (hfl:¬good fl) {ts:Array TypeId} {ty e:TypeId} {a a':Value} {κ:Value→Heap→β} (hg:good (bA fl a h κ)) (ha:VR φ a a')
  (ht:ts[0]? = some t) (hu:P.underlying t=some (.slice e)) :
  ∃v v',good (κ v h)∧VR φ v v'∧(Builtin.len_ ts ty #[a']).run P w=.ok v' w:=by
 unfold bA at hg
 split at hg<;>try exact absurd hg hfl
 cases ha<;>exact ⟨_,_,hg,.int _ _,by simp[Builtin.len_,ht,aD hu,goInt]⟩
theorem HR.nP (hr:HR P φ h w) {b clock:Nat} {es:List MapEntry} {pl:Pl} (hb:h.bl.get b=some (.map es clock)) (hp:φ b=some pl) :
  ∃es',w.heap[pl.B]? = some (.map es' clock)∧F2 (ER φ) es es'.toList:=by
 have:=hr.obj b _ pl hb hp
 cases hO:w.heap[pl.B]? with
 | none=>rw[hO] at this; exact this.elim
 | some O=>
  rw[hO] at this
  cases O<;>simp only[OR] at this<;>try exact this.elim
  obtain ⟨rfl,h2⟩:=this
  exact ⟨_,rfl,h2⟩
theorem cM {B:Nat} {es:Array MapEntry} {clock:Nat} (hO:w.heap[B]? = some (.map es clock)):(getObj B).run P w=.ok (.map es clock) w:=by
 simp[getObj,Sem.run,hO]
theorem x6 (hfl:¬good fl) {ts:Array TypeId} {ty k e:TypeId} {a a':Value} {κ:Value→Heap→β} (hg:good (kW fl a h κ)) (ha:VR φ a a') (hr:HR P φ h w)
  (ht:ts[0]? = some t) (hu:P.underlying t=some (.map k e)) :
  ∃v v',good (κ v h)∧VR φ v v'∧(Builtin.len_ ts ty #[a']).run P w=.ok v' w:=by
 unfold kW at hg
 split at hg<;>try exact absurd hg hfl
 ·cases ha; exact ⟨_,_,hg,.int _ _,by simp[Builtin.len_,ht,aD hu,goInt]⟩
 ·split at hg<;>try exact absurd hg hfl
  rename_i hb
  simp only[bG] at hg
  cases ha with
  | map hp=>
   obtain ⟨es',hO,h2⟩:=hr.nP hb hp
   refine ⟨_,_,hg,.int _ _,?_⟩
   have hlen:=h2.length
   simp only[Array.length_toList] at hlen
   simp[Builtin.len_,ht,aD hu,goInt,cM hO,hlen]
theorem VR.cells {v v':Value} (hv:VR φ v v'):F2 (VR φ) v.cells.toList v'.cells.toList:=by
 have one:∀{u u':Value},VR φ u u'→F2 (VR φ) [u] [u']:=fun h=>.cons h .nil
 cases hv with
 | agg a a' ha rH=>exact F2.k_ ha rH
 | bool b=>exact one (.bool b)
 | int k n=>exact one (.int k n)
 | string s=>exact one (.string s)
 | nilFunc=>exact one .nilFunc
 | nilIface=>exact one .nilIface
 | sQ=>exact one .sQ
 | ptr h=>exact one (.ptr h)
 | d_ h=>exact one (.d_ h)
 | slice h hn hc=>exact one (.slice h hn hc)
 | bM h hn hc=>exact one (.bM h hn hc)
 | cr a a' c=>exact one (.cr a a' c)
 | sR=>exact one .sR
 | map h=>exact one (.map h)
 | yield h=>exact one (.yield h)
 | func fn a a' b b' ha hb rH Cl=>exact one (.func fn a a' b b' ha hb rH Cl)
 | iface t h=>exact one (.iface t h)
 | tuple a a' ha rH=>exact one (.tuple a a' ha rH)
theorem Cn (hfl:¬good fl):∀(new old:List Value) (κ:List Value→β),good (oO fl new old κ)→new.length≤old.length∧good (κ (new++old.drop new.length)):=by
 intro new
 induction new with
 | nil=>intro old κ hg; exact ⟨by simp,by simpa[oO] using hg⟩
 | cons v new ih=>
  intro old κ hg
  cases old with
  | nil=>simp only[oO] at hg; exact absurd hg hfl
  | cons o old=>simp only[oO] at hg; obtain ⟨h1,h2⟩:=ih old _ hg; exact ⟨by simpa using h1,by simpa using h2⟩
theorem Fk (hfl:¬good fl) (new:List Value):∀(off:Nat) (old:List Value) (κ:List Value→β),good (vI fl new off old κ)→
  off+new.length≤old.length∧good (κ (old.take off++new++old.drop (off+new.length))):=by
 intro off
 induction off with
 | zero=>intro old κ hg; simp only[vI] at hg; obtain ⟨h1,h2⟩:=Cn hfl _ _ _ hg; exact ⟨by simpa using h1,by simpa using h2⟩
 | succ off ih=>
  intro old κ hg
  cases old with
  | nil=>simp only[vI] at hg; exact absurd hg hfl
  | cons o old=>
   simp only[vI] at hg
   obtain ⟨h1,h2⟩:=ih old _ hg
   refine ⟨by simp; omega,?_⟩
   rw[show off+1+new.length=(off+new.length)+1 by omega]
   simpa using h2
theorem Fl (off:Nat):∀(l:List Value) (k:Nat) (cs:Array Value),off+k+l.length≤cs.size→
  (l.zipIdx k).foldl (fun (cs:Array Value) (p:Value × Nat)=>cs.setIfInBounds (off+p.2) p.1) cs=(cs.toList.take (off+k)++l++cs.toList.drop (off+k+l.length)).toArray:=by
 intro l
 induction l with
 | nil=>intro k cs _; simp
 | cons v l ih=>
  intro k cs hk
  simp at hk
  simp only[List.zipIdx_cons,List.foldl_cons]
  rw[ih (k+1) _ (by simp; omega)]
  congr 1
  have e:=list_seg_step cs.toList (off+k) v l (by simp; omega)
  simpa[Array.toList_setIfInBounds,Nat.add_assoc] using e
theorem qU (hfl:¬good fl) (tm:T Value) (ρ:Operand→Value) (place:Nat→Option (Nat × Nat)):∀(parts:List (Nat × Operand)) (ps:List (Nat × Nat)),
  placesOf place parts=some ps→(∀p∈parts,VR φ (dV tm p.2) (ρ p.2))→∀(cs cs':List Value),F2 (VR φ) cs cs'→∀κ:List Value→β,
  good (bD fl ps (parts.map fun p=>dV tm p.2) cs κ)→
  ∃r r',good (κ r)∧F2 (VR φ) r r'∧Instr.fill place cs'.toArray (parts.map fun p=>(p.1,ρ p.2))=some r'.toArray:=by
 intro parts
 induction parts with
 | nil=>
  intro ps hp _ cs cs' hcs κ hg
  simp only[placesOf] at hp; cases hp
  exact ⟨cs,cs',hg,hcs,rfl⟩
 | cons p parts ih=>
  intro ps hp hv cs cs' hcs κ hg
  obtain ⟨i,x⟩:=p
  simp only[placesOf] at hp
  cases hpi:place i with
  | none=>rw[hpi] at hp; simp at hp
  | some os=>
   obtain ⟨off,size⟩:=os
   cases Ki:placesOf place parts with
   | none=>rw[hpi,Ki] at hp; simp at hp
   | some l=>
    rw[hpi,Ki] at hp
    simp at hp
    subst hp
    simp only[List.map_cons,bD] at hg
    split at hg<;>try exact absurd hg hfl
    rename_i hsz
    have hsz:=cu hsz
    obtain ⟨h1,h2⟩:=Fk hfl _ _ _ _ hg
    have hx:=(hv (i,x) (by simp)).cells
    have hl:=hx.length
    have M3:=hcs.length
    have hnew:F2 (VR φ) (cs.take off++(dV tm x).cells.toList++cs.drop (off+(dV tm x).cells.toList.length)) (cs'.take off++(ρ x).cells.toList++cs'.drop (off+(ρ x).cells.toList.length)):=by
     rw[←hl]; exact ((hcs.take _).append hx).append (hcs.drop _)
    obtain ⟨r,r',g1,g2,g3⟩:=ih l Ki (fun q hq=>hv q (by simp[hq])) _ _ hnew κ h2
    refine ⟨r,r',g1,g2,?_⟩
    simp only[List.map_cons,Instr.fill,hpi]
    have e1:(ρ x).cells.size=size:=by rw[←hsz,hl]; simp
    have e2:¬(off+(ρ x).cells.size > cs'.toArray.size):=by
     simp at hl M3 h1 ⊢; omega
    rw[if_neg (by simp[e1]; simpa[e1] using e2)]
    have e3:=Fl off (ρ x).cells.toList 0 cs'.toArray (by simp at e2 ⊢; omega)
    have e4:(ρ x).cells.zipIdx.foldl (fun (cs:Array Value) (p:Value × Nat)=>cs.setIfInBounds (off+p.2) p.1) cs'.toArray=(cs'.take off++(ρ x).cells.toList++cs'.drop (off+(ρ x).cells.toList.length)).toArray:=by
     rw[←Array.foldl_toList,Array.toList_zipIdx]
     simpa using e3
    have e5:=g3
    rw[←e4] at e5
    exact e5
theorem gf {fty:TypeId} {b:Bool} (hb:kr P fty=some b) {s:Nat} (hs:dY P fty=some s) (cs:Array Value) (off:Nat) :
  (part fty cs off).run P w=match b with
   | true=>.ok (.agg ⟨(cs.toList.drop off).take s⟩) w
   | false => match cs.toList[off]? with | some v => .ok v w | none => .halt (.stuck "part: no such cell") w := by
 cases b
 ·simp[part,mU hb]
  cases cs[off]?<;>simp
 ·simp[part,mU hb,bW hs]
  apply Array.ext'
  simp[List.extract]
theorem rI {B B' o o':Nat} {C C':Array Value} {e e':TypeId} (hB:w.heap[B]? = some (.cells C e (0,0))) (hB':w.heap[B']? = some (.cells C' e' (0,0))) (hne:B≠B') :
  (sameAddr ⟨B,o,none⟩ ⟨B',o',none⟩).run P w=.ok false w:=by
 have f1:∀n,w.frozen? ⟨B,n,none⟩=false:=fun n=>by simp[World.frozen?,hB]
 have f2:∀n,w.frozen? ⟨B',n,none⟩=false:=fun n=>by simp[World.frozen?,hB']
 have s1:w.shape? B=some (e,C.size):=by simp[World.shape?,hB]
 have s2:w.shape? B'=some (e',C'.size):=by simp[World.shape?,hB']
 simp[sameAddr,hne,f1,f2,noView,viewAt,s1,s2,mayBeOne,stringish]
end Go.Vai

namespace Go.Vai
open Go
variable {β:Type} {fl:β} {good:β→Prop} {P:Program} {φ:di} {h:Heap} {w:World} {t:TypeId}
theorem KK (a b:ByteArray):(a == b)=decide (a=b):=by
 rw[beq_toListBytes,ByteArray.toList_eq,ByteArray.toList_eq]
 rw[Bool.eq_iff_iff]
 simp
 constructor
 ·intro e; cases a; cases b; simp at e; simp[e]
 ·intro e; rw[e]
theorem HR.GV (hr:HR P φ h w) {b:Nat} {pl:Pl} (hb:sE h b=true) (hp:φ b=some pl) :
  ∃o C e,h.bl.get b=some o∧o.live∧w.heap[pl.B]? = some (.cells C e (0,0)):=by
 unfold sE at hb
 split at hb<;>try cases hb
 rename_i hb'
 have:=hr.obj b _ pl hb' hp
 cases hO:w.heap[pl.B]? with
 | none=>rw[hO] at this; exact this.elim
 | some O=>
  rw[hO] at this
  cases O<;>simp only[OR] at this<;>try exact this.elim
  obtain ⟨rfl,rfl,_⟩:=this
  exact ⟨_,_,_,hb',trivial,rfl⟩
theorem Co (D:Nat) (rec:TypeId→Value→Value→Option Bool)
  (ih:∀(t:TypeId) (x y x' y':Value) (r:Bool),rec t x y=some r→VR φ x x'→VR φ y y'→(Op.equalIn D t x' y').run P w=.ok r w) :
  ∀(fs:List Field) (xs ys:List Value) (xs' ys':Array Value) (r:Bool),vH P rec fs xs ys=some r→F2 (VR φ) xs xs'.toList→F2 (VR φ) ys ys'.toList→
   (Op.eqFields D xs' ys' fs).run P w=.ok r w:=by
 intro fs
 induction fs with
 | nil=>intro xs ys xs' ys' r he _ _; simp only[vH] at he; cases he; simp[Op.eqFields]
 | cons f fs XS=>
  intro xs ys xs' ys' r he hx hy
  simp only[vH] at he
  split at he<;>try cases he
  rename_i hnm
  have hn : f.name ≠ "_" := by simpa using hnm
  have fin:∀(x y x' y':Value),VR φ x x'→VR φ y y'→(part f.type xs' f.offset).run P w=.ok x' w→(part f.type ys' f.offset).run P w=.ok y' w→
    (match rec f.type x y with | some true=>vH P rec fs xs ys | r=>r)=some r→(Op.eqFields D xs' ys' (f::fs)).run P w=.ok r w:=by
   intro x y x' y' vx vy px py hm
   cases hr:rec f.type x y with
   | none=>rw[hr] at hm; cases hm
   | some q=>
    have:=ih f.type x y x' y' q hr vx vy
    rw[hr] at hm
    cases q
    ·simp at hm; subst hm
     simp[Op.eqFields,hn,px,py,this]
    ·simp[Op.eqFields,hn,px,py,this]
     exact XS xs ys xs' ys' r hm hx hy
  split at he
  ·rename_i hag hsz
   refine fin _ _ (.agg ⟨(xs'.toList.drop f.offset).take _⟩) (.agg ⟨(ys'.toList.drop f.offset).take _⟩) (VR.qf ?_) (VR.qf ?_) (gf hag hsz xs' f.offset) (gf hag hsz ys' f.offset) he
   ·exact (hx.drop _).take _
   ·exact (hy.drop _).take _
  ·rename_i hag hsz
   split at he<;>try cases he
   rename_i x y ex ey
   obtain ⟨x',ex',vx⟩:=hx.get _ _ ex
   obtain ⟨y',ey',vy⟩:=hy.get _ _ ey
   refine fin x y x' y' vx vy ?_ ?_ he
   ·have:=gf (w:=w) hag hsz xs' f.offset; rw[this]; simp only[ex']
   ·have:=gf (w:=w) hag hsz ys' f.offset; rw[this]; simp only[ey']
  ·cases he
set_option maxHeartbeats 4000000 in
theorem qj (hr:HR P φ h w):∀(d D:Nat),d≤D→∀(t:TypeId) (x y x' y':Value) (r:Bool),kV P h d t x y=some r→VR φ x x'→VR φ y y'→
  (Op.equalIn D t x' y').run P w=.ok r w:=by
 intro d
 induction d with
 | zero=>intro D _ t x y x' y' r he; simp[kV] at he
 | succ d ih=>
  intro D hD t x y x' y' r he vx vy
  obtain ⟨D,rfl⟩:∃k,D=k+1:=⟨D-1,by omega⟩
  simp only[kV] at he
  split at he<;>try (cases he; done)
  ·rename_i hu; cases vx; cases vy; rename_i a b
   cases a<;>cases b<;>simp at he<;>subst he<;>simp[Op.equalIn,aD hu]
  ·rename_i hu; cases vx; cases vy
   split at he<;>try (cases he; done)
   rename_i hk; rw[eN] at hk; simp at hk; subst hk
   simp[eX] at he; subst he
   simp[Op.equalIn,aD hu]
   rfl
  ·rename_i hu; cases vx; cases vy
   simp[iy] at he; subst he
   simp[Op.equalIn,aD hu,KK]
  ·rename_i hu; cases vx; cases vy; simp at he; subst he; simp[Op.equalIn,aD hu]
  ·rename_i hu; cases vx; cases vy; simp at he; subst he; simp[Op.equalIn,aD hu]
  ·rename_i hu; cases vx; cases vy; simp at he; subst he; simp[Op.equalIn,aD hu]
  ·rename_i e b o b' o' hu
   split at he<;>try (cases he; done)
   rename_i s hs
   split at he<;>try (cases he; done)
   rename_i hl hl'
   cases vx with
   | ptr hp=>
    cases vy with
    | ptr hp'=>
     rename_i pl jC
     obtain ⟨q,C,e1,g1,g2,g3⟩:=hr.GV hl hp
     obtain ⟨q',C',e2,R_,g2',Ow⟩:=hr.GV hl' hp'
     have hsz:(sizeOf e).run P w=.ok (s+1) w:=bW hs
     split at he
     ·rename_i hb; have hb:=cu hb; subst hb
      rw[hp] at hp'; cases hp'
      simp at he; subst he
      simp[Op.equalIn,aD hu,hsz,sameAddr]
      rw[Bool.eq_iff_iff]; simp
     ·rename_i hb; have hb:=l_ hb
      simp at he; subst he
      have hne:pl.B≠jC.B:=fun e=>hb (hr.inj _ _ _ _ _ _ g1 R_ g2 g2' hp hp' e)
      simp[Op.equalIn,aD hu,hsz,rI g3 Ow hne]
  ·rename_i hu; cases vx; cases vy; simp at he; subst he; simp[Op.equalIn,aD hu]
  ·rename_i hu; cases vx; cases vy; simp at he; subst he; simp[Op.equalIn,aD hu]
  ·rename_i hu; cases vx; cases vy; simp at he; subst he; simp[Op.equalIn,aD hu]
  ·rename_i fs xs ys hu
   split at he<;>try (cases he; done)
   rename_i hst
   cases vx with
   | agg _ xs' hx1 hx2=>
    cases vy with
    | agg _ ys' hy1 hy2=>
     have hf:P.fieldsOf t=fs:=by simp[Program.fieldsOf,hu]
     rw[run_equalIn_struct w D t xs' ys' (by rw[hf]; exact hu) hst,hf]
     exact Co D (kV P h d) (fun t x y x' y' r he vx vy=>ih D (by omega) t x y x' y' r he vx vy) _ _ _ xs' ys' r he (F2.k_ hx1 hx2) (F2.k_ hy1 hy2)
  ·rename_i hu; cases vx; cases vy; simp at he; subst he; simp[Op.equalIn,aD hu]
  ·rename_i hu; cases vx<;>cases vy<;>simp at he<;>subst he<;>simp[Op.equalIn,aD hu]
  ·rename_i hu; cases vx<;>cases vy<;>simp at he<;>subst he<;>simp[Op.equalIn,aD hu]
  ·rename_i hu; cases vx; cases vy; simp at he; subst he; simp[Op.equalIn,aD hu]
  ·rename_i hu; cases vx; cases vy; simp at he; subst he; simp[Op.equalIn,aD hu]
  ·rename_i hu; cases vx; cases vy; simp at he; subst he; simp[Op.equalIn,aD hu]
  ·rename_i hu; cases vx; cases vy; simp at he; subst he; simp[Op.equalIn,aD hu]
  ·rename_i hu; cases vx<;>cases vy<;>simp at he<;>subst he<;>simp[Op.equalIn,aD hu]
  ·rename_i hu; cases vx<;>cases vy<;>simp at he<;>subst he<;>simp[Op.equalIn,aD hu]
theorem Cp (hfl:¬good fl):∀(n:Nat) (l:List Value) (κ:List Value→β),good (wC fl n l κ)→good (κ (l.take n)):=by
 intro n
 induction n with
 | zero=>intro l κ hg; simpa[wC] using hg
 | succ n ih=>
  intro l κ hg
  cases l with
  | nil=>simp only[wC] at hg; exact absurd hg hfl
  | cons v l=>simp only[wC] at hg; simpa using ih l _ hg
theorem qV (hfl:¬good fl) {fty:TypeId} {b:Bool} (hb:kr P fty=some b) {s:Nat} (hs:dY P fty=some s) {cs cs':Array Value} (hc:F2 (VR φ) cs.toList cs'.toList) (off:Nat)
  {κ:Value→β} (hg:good (zw fl b s cs.toList off κ)):∃v v',good (κ v)∧VR φ v v'∧(part fty cs' off).run P w=.ok v' w:=by
 have hp:=gf (w:=w) hb hs cs' off
 cases b
 ·simp only[zw] at hg
  split at hg<;>try exact absurd hg hfl
  rename_i v hv
  obtain ⟨v',e,r⟩:=hc.get _ _ hv
  refine ⟨v,v',hg,r,?_⟩
  rw[hp]; simp only[e]
 ·simp only[zw] at hg
  have:=Cp hfl _ _ _ hg
  exact ⟨_,_,this,VR.qf ((hc.drop off).take s),hp⟩
theorem x7 (hfl:¬good fl) {fs:Array Field} {qb:Field} {f s:Nat} {b:Bool} (hu:P.underlying t=some (.struct fs)) (hf:fs[f]? = some qb) (hb:kr P qb.type=some b) (hs:dY P qb.type=some s)
  {a a':Value} {κ:Value→Heap→β} (hg:good (sG fl b s qb.offset a h κ)) (ha:VR φ a a') :
  ∃v v',good (κ v h)∧VR φ v v'∧(Instr.field t a' f).run P w=.ok v' w:=by
 unfold sG at hg
 split at hg<;>try exact absurd hg hfl
 cases ha with
 | agg _ cs' h1 h2=>
  obtain ⟨v,v',g1,g2,g3⟩:=qV (w:=w) hfl hb hs (F2.k_ h1 h2) _ hg
  exact ⟨v,v',g1,g2,by simp[Instr.field,aD hu,hf,asAgg,g3]⟩
theorem x8 (hfl:¬good fl) {e s len:Nat} {b:Bool} (hu:P.underlying t=some (.array len e)) (hb:kr P e=some b) (hs:dY P e=some s)
  {a a' i i':Value} {κ:Value→Heap→β} (hg:good (sH fl b len s a i h κ)) (ha:VR φ a a') (hi:VR φ i i') :
  ∃v v',good (κ v h)∧VR φ v v'∧(Instr.index t a' i').run P w=.ok v' w:=by
 unfold sH at hg
 split at hg<;>try exact absurd hg hfl
 split at hg<;>try exact absurd hg hfl
 rename_i cs k j _ hle
 have hle:j<len:=cz hle
 cases hi
 cases ha with
 | agg _ cs' h1 h2=>
  obtain ⟨v,v',g1,g2,g3⟩:=qV (w:=w) hfl hb hs (F2.k_ h1 h2) _ hg
  refine ⟨v,v',g1,g2,?_⟩
  have Ow:(part e cs' (j*s)).run P w=.ok v' w:=g3
  simp[Instr.index,asIntOf,aD hu,bW hs,hle,Ow]
theorem x9 (hfl:¬good fl) (hu:P.underlying t=some .string)
  {a a' i i':Value} {κ:Value→Heap→β} (hg:good (n9 fl a i h κ)) (ha:VR φ a a') (hi:VR φ i i') :
  ∃v v',good (κ v h)∧VR φ v v'∧(Instr.index t a' i').run P w=.ok v' w:=by
 unfold n9 at hg
 split at hg<;>try exact absurd hg hfl
 rename_i s k j
 split at hg<;>try exact absurd hg hfl
 rename_i b hb
 simp only[bG] at hg
 cases hi
 cases ha
 refine ⟨_,.int .u8 b.toNat,hg,.int _ _,?_⟩
 have:s[j]? = some b:=by
  have hj:=(List.getElem?_eq_some_iff.1 hb).1
  have hb':=(List.getElem?_eq_some_iff.1 hb).2
  have hj':j<s.size:=by simpa using hj
  rw[getElem?_pos s j hj']
  congr 1
 simp[Instr.index,asIntOf,aD hu,this]
abbrev DL (φ:di) (v v':Option Value):Prop:=match v,v' with | none,none=>True | some x,some x'=>VR φ x x' | _,_=>False
theorem kF (hfl:¬good fl) {v v':Option Value} {d:Nat} {κ:Nat→β} (hg:good (vJ fl v d κ)) (hv:DL φ v v') :
  ∃n,good (κ n)∧(v=none→n=d)∧∀x',v'=some x'→∃k,x'=.int k (n:Int):=by
 unfold vJ at hg
 split at hg
 ·exact ⟨d,hg,fun _=>rfl,fun x' e=>by subst e; exact hv.elim⟩
 ·rename_i k n
  refine ⟨n,hg,fun e=>(by cases e),fun x' e=>?_⟩
  subst e
  cases hv
  exact ⟨k,rfl⟩
 ·exact absurd hg hfl
theorem run_sliceBound {k:IntKind} {n y:Nat} {code:BoundsCode} (h:n≤y):(Instr.sliceBound (.int k (n:Int)) y code).run P w=.ok n w:=by
 have:(n:Int)≤(y:Int):=by omega
 simp[Instr.sliceBound,asIntOf,this]
theorem fU (hfl:¬good fl) {len lim cap cap':Nat} {lo hi mx lo' hi' Fm:Option Value} {κ:Nat→Nat→Nat→β} (hg:good (gG fl len lim cap lo hi mx κ))
  (h1:DL φ lo lo') (h2:DL φ hi hi') (h3:DL φ mx Fm) (hlim:lim≤cap') (b:Bool) :
  ∃l hh m,l≤hh∧hh≤lim∧((mx=none∧m=cap∧good (κ l hh cap)∧(Instr.sliceBounds b len cap' lo' hi' Fm).run P w=.ok (l,hh,cap') w)∨
   (mx≠none∧hh≤m∧m≤lim∧good (κ l hh m)∧(Instr.sliceBounds b len cap' lo' hi' Fm).run P w=.ok (l,hh,m) w)):=by
 unfold gG at hg
 cases mx with
 | none=>
  cases Fm with
  | some _=>exact h3.elim
  | none=>
   obtain ⟨hh,g1,e1,e2⟩:=kF hfl hg h2
   obtain ⟨l,g2,e3,e4⟩:=kF hfl g1 h1
   split at g2<;>try exact absurd g2 hfl
   rename_i hle1 hle2
   have hle1:=cz hle1; have hle2:=cz hle2
   refine ⟨l,hh,cap,hle1,hle2,.inl ⟨rfl,rfl,g2,?_⟩⟩
   cases lo<;>cases lo'<;>(try exact h1.elim)<;>cases hi<;>cases hi'<;>(try exact h2.elim)<;>simp at e1 e2 e3 e4
   ·subst e1; subst e3; simp[Instr.sliceBounds]
   ·obtain ⟨k,rfl⟩:=e2; subst e3
    simp[Instr.sliceBounds,run_sliceBound (P:=P) (w:=w) (k:=k) (show hh≤cap' by omega)]
   ·obtain ⟨k,rfl⟩:=e4; subst e1
    simp[Instr.sliceBounds,run_sliceBound (P:=P) (w:=w) (k:=k) hle1]
   ·obtain ⟨k,rfl⟩:=e2; obtain ⟨k',rfl⟩:=e4
    simp[Instr.sliceBounds,run_sliceBound (P:=P) (w:=w) (k:=k) (show hh≤cap' by omega),run_sliceBound (P:=P) (w:=w) (k:=k') hle1]
 | some x=>
  cases Fm with
  | none=>exact h3.elim
  | some x'=>
   obtain ⟨m,g0,_,e0⟩:=kF hfl hg h3
   obtain ⟨hh,g1,e1,e2⟩:=kF hfl g0 h2
   obtain ⟨l,g2,e3,e4⟩:=kF hfl g1 h1
   split at g2<;>try exact absurd g2 hfl
   rename_i hs hle1 hle2 eD
   have hle1:=cz hle1; have hle2:=cz hle2; have eD:=cz eD
   obtain ⟨k0,rfl⟩:=e0 x' rfl
   refine ⟨l,hh,m,hle1,by omega,.inr ⟨by simp,hle2,eD,g2,?_⟩⟩
   cases hi with
   | none=>simp at hs
   | some y=>
    cases hi' with
    | none=>exact h2.elim
    | some y'=>
     obtain ⟨k,rfl⟩:=e2 y' rfl
     have r0:∀c,(Instr.sliceBound (.int k0 (m:Int)) cap' c).run P w=.ok m w:=fun c=>run_sliceBound (by omega)
     have r1:∀c,(Instr.sliceBound (.int k (hh:Int)) m c).run P w=.ok hh w:=fun c=>run_sliceBound hle2
     cases lo<;>cases lo'<;>(try exact h1.elim)<;>simp at e3 e4
     ·subst e3; simp[Instr.sliceBounds,r0,r1]
     ·obtain ⟨k',rfl⟩:=e4
      simp[Instr.sliceBounds,r0,r1,run_sliceBound (P:=P) (w:=w) (k:=k') hle1]
end Go.Vai

namespace Go.Vai
open Go
variable {β:Type} {fl:β} {good:β→Prop} {P:Program} {φ:di} {h:Heap} {w:World} {t:TypeId}
theorem iA:aM=1267650600228229401496703205376:=rfl
theorem od {v:Value} (hv:eW v=true):VR φ v v:=by
 cases v<;>simp only[eW] at hv<;>try (cases hv; done)
 ·exact .bool _
 ·exact .int _ _
 ·exact .string _
 ·rename_i a; cases a
  ·exact .sQ
  ·simp at hv
 ·rename_i a n c; cases a
  ·exact .d_ (cz hv)
  ·simp at hv
 ·rename_i r; cases r
  ·exact .sR
  ·simp at hv
 ·exact .nilFunc
 ·exact .nilIface
theorem gu {l:List Value} (h:l.all eW=true):F2 (VR φ) l l:=by
 induction l with
 | nil=>exact .nil
 | cons v l ih=>simp at h; exact .cons (od h.1) (ih (by simpa using h.2))
theorem ja {v:Value} (hv:qa v=true):VR φ v v:=by
 cases v
 case agg cs=>exact VR.qf (gu hv)
 case tuple cs=>exact VR.tuple' (gu hv)
 case iface t v=>exact .iface t (od hv)
 all_goals exact od hv
theorem zC {v v':Value} (hs:iu v=true) (hv:VR φ v v'):v'=v:=by
 cases v<;>simp[iu] at hs<;>cases hv<;>rfl
theorem GX {l l':List Value} (hs:l.all iu=true) (hv:F2 (VR φ) l l'):l'=l:=by
 induction hv with
 | nil=>rfl
 | cons hr _ ih=>simp at hs; rw[zC hs.1 hr,ih (by simpa using hs.2)]
theorem rW {v v':Value} (hs:kq v=true) (hv:VR φ v v'):v'=v:=by
 cases v
 case agg cs=>
  cases hv with
  | agg _ a' h1 h2=>
   have:=GX (φ:=φ) hs (F2.k_ h1 h2)
   congr 1
   exact Array.ext' this
 all_goals exact zC hs hv
theorem jk {b o s l hh m:Nat} {pl:Pl} (hp:φ b=some pl) (h1:l≤hh) (h2:hh≤m) (h3:m<aM) {κ:Value→β} (hg:good (oP b o s l hh m κ)) :
  ∃v,good (κ v)∧VR φ v (.slice (some (if m=l then ⟨pl.B,o,none⟩ else (⟨pl.B,o,none⟩:Addr).add (l*s))) (hh-l) (m-l)):=by
 unfold oP at hg
 split at hg
 ·rename_i he; have he:=cu he; subst he
  simp only[bG] at hg
  refine ⟨_,hg,?_⟩
  rw[if_pos rfl]
  have e1:hh-m=0:=by omega
  have e2:m-m=0:=by omega
  rw[show Nat.sub hh m=0 from e1,e1,e2]
  exact .slice hp (Nat.le_refl _) (by rw[iA]; omega)
 ·rename_i he; have he:=l_ he
  simp only[bG] at hg
  refine ⟨_,hg,?_⟩
  rw[if_neg he,iz]
  exact .slice hp (show hh-l≤m-l by omega) (show m-l<aM by omega)
theorem dN {e s:Nat} {a:Option Addr} {len cap l hh m:Nat} {lo hi mx:Option Value} (hu:P.underlying t=some (.slice e)) (hs:dY P e=some s)
  (hb:(Instr.sliceBounds true len cap lo hi mx).run P w=.ok (l,hh,m) w) :
  (Instr.sliceAt t (.slice a len cap) lo hi mx).run P w=.ok (.slice (if m=l then a else a.map (·.add (l*s))) (hh-l) (m-l)) w:=by
 simp[Instr.sliceAt,Instr.slice,aD hu,hb,bW hs]
theorem HR.known (hr:HR P φ h w) {e b n:Nat} {pl:Pl} (hk:fZ h e b=some n) (hp:φ b=some pl):n≤pl.sz∧n≤4611686018427387904∧dY P e=some pl.e∧0<pl.e:=by
 unfold fZ at hk
 split at hk
 ·rename_i hb
  split at hk<;>try (cases hk; done)
  rename_i he; have he:=cu he; subst he
  cases hk
  have:=hr.obj b _ pl hb hp
  cases hO:w.heap[pl.B]? with
  | none=>rw[hO] at this; exact this.elim
  | some O=>
   rw[hO] at this
   cases O<;>simp only[OR] at this<;>try exact this.elim
   obtain ⟨_,_,h3,h4,h5,_⟩:=this
   obtain ⟨g1,g2,g3⟩:=h5 trivial
   exact ⟨by omega,h4,g2,g3⟩
 ·rename_i hb
  split at hk<;>try (cases hk; done)
  rename_i he; have he:=cu he; subst he
  cases hk
  have:=hr.obj b _ pl hb hp
  cases hO:w.heap[pl.B]? with
  | none=>rw[hO] at this; exact this
  | some O=>rw[hO] at this; cases O<;>exact this
 ·cases hk
theorem x_ (hfl:¬good fl) {e s:Nat} (hu:P.underlying t=some (.slice e)) (hs:dY P e=some s) (hr:HR P φ h w)
  {x x':Value} {lo hi mx lo' hi' Fm:Option Value} {κ:Value→Heap→β} (hg:good (sliceB fl e s x lo hi mx h κ)) (hx:VR φ x x') (h1:DL φ lo lo') (h2:DL φ hi hi') (h3:DL φ mx Fm) :
  ∃v v',good (κ v h)∧VR φ v v'∧(Instr.sliceAt t x' lo' hi' Fm).run P w=.ok v' w:=by
 unfold sliceB at hg
 split at hg<;>try exact absurd hg hfl
 ·
  rename_i len cap
  cases hx with
  | d_ hle=>
   obtain ⟨l,hh,m,g1,g2,g3⟩:=fU (w:=w) hfl hg h1 h2 h3 (Nat.le_refl cap) true
   rcases g3 with ⟨_,rfl,g4,g5⟩ | ⟨_,g6,g7,g4,g5⟩
   ·simp only[bG] at g4
    refine ⟨_,_,g4,?_,dN hu hs g5⟩
    have:(if m=l then (none:Option Addr) else Option.map (fun a:Addr=>a.add (l*s)) none)=none:=by split<;>rfl
    rw[this]
    exact .d_ (show hh-l≤m-l by omega)
   ·simp only[bG] at g4
    refine ⟨_,_,g4,?_,dN hu hs g5⟩
    have:(if m=l then (none:Option Addr) else Option.map (fun a:Addr=>a.add (l*s)) none)=none:=by split<;>rfl
    rw[this]
    exact .d_ (show hh-l≤m-l by omega)
 ·rename_i b o len cap
  split at hg
  ·
   rename_i hc; have hc:=cu hc; subst hc
   split at hg<;>try exact absurd hg hfl
   rename_i hl; have hl:=cu hl; subst hl
   have:∃a' c,x'=.slice (some a') 0 c:=by
    cases hx with
    | slice hp hn hc=>exact ⟨_,_,rfl⟩
    | cr a a' c=>exact ⟨a',c,rfl⟩
   obtain ⟨a',c,rfl⟩:=this
   obtain ⟨l,hh,m,g1,g2,g3⟩:=fU (w:=w) hfl hg h1 h2 h3 (Nat.zero_le c) true
   have hh0:hh=0:=by omega
   have hl0:l=0:=by omega
   subst hh0; subst hl0
   have fin:∀m',VR φ (.slice (some ⟨b,o,none⟩) 0 fk) (.slice (if m'=0 then some a' else Option.map (fun a:Addr=>a.add (0*s)) (some a')) (0-0) (m'-0)):=by
    intro m'
    have:(if m'=0 then some a' else Option.map (fun a:Addr=>a.add (0*s)) (some a'))=some a':=by split<;>simp[Addr.add]
    rw[this]
    exact .cr _ _ _
   rcases g3 with ⟨_,rfl,g4,g5⟩ | ⟨_,g6,g7,g4,g5⟩
   ·exact ⟨_,_,g4,fin _,dN hu hs g5⟩
   ·exact ⟨_,_,g4,fin _,dN hu hs g5⟩
  ·rename_i hna; have hna:=l_ hna
   split at hg
   ·
    rename_i hno; have hno:=l_ hno
    split at hg<;>try exact absurd hg hfl
    rename_i M3; have M3:=cz M3
    cases hx with
    | bM hp hn hc=>exact absurd rfl hno
    | cr a a' c=>exact absurd rfl hna
    | slice hp hn hc=>
     rename_i pl
     obtain ⟨l,hh,m,g1,g2,g3⟩:=fU (w:=w) hfl hg h1 h2 h3 (Nat.le_refl cap) true
     rcases g3 with ⟨_,rfl,g4,g5⟩ | ⟨_,g6,g7,g4,g5⟩
     ·obtain ⟨v,k1,k2⟩:=jk hp g1 (by omega) hc g4
      refine ⟨v,_,k1,?_,dN hu hs g5⟩
      by_cases hm:m=l
      ·simpa[hm] using k2
      ·simpa[hm] using k2
     ·obtain ⟨v,k1,k2⟩:=jk hp g1 (by omega) (by omega) g4
      refine ⟨v,_,k1,?_,dN hu hs g5⟩
      by_cases hm:m=l
      ·simpa[hm] using k2
      ·simpa[hm] using k2
   ·
    rename_i hno; have hno:=cu hno; subst hno
    split at hg<;>try exact absurd hg hfl
    rename_i n s0 hk
    split at hg<;>try exact absurd hg hfl
    rename_i hon; have hon:=cz hon
    have hx':∃pl c,φ b=some pl∧len≤c∧c*pl.e+o=pl.sz∧x'=.slice (some ⟨pl.B,o,none⟩) len c:=by
     cases hx with
     | slice hp hn hc=>exact absurd hc (Nat.lt_irrefl _)
     | bM hp hn hc=>exact ⟨_,_,hp,hn,hc,rfl⟩
    obtain ⟨pl,c,hp,hn,hc,rfl⟩:=hx'
    obtain ⟨k1,k2,k3,k4⟩:=hr.known hk hp
    have e2:pl.e=s0+1:=by rw[hs] at k3; exact (Option.some.inj k3).symm
    have hlim:Nat.div (Nat.sub n o) (s0+1)≤c:=by
     show (n-o) / (s0+1)≤c
     have hc2:=hc
     rw[e2] at hc2
     apply Nat.div_le_of_le_mul
     rw[Nat.mul_comm]
     omega
    obtain ⟨l,hh,m,g1,g2,g3⟩:=fU (w:=w) hfl hg h1 h2 h3 hlim true
    have hlb:Nat.div (Nat.sub n o) (s0+1)≤4611686018427387904:=Nat.le_trans (Nat.div_le_self _ _) (by show n-o≤_; omega)
    rcases g3 with ⟨_,rfl,g4,g5⟩ | ⟨_,g6,g7,g4,g5⟩
    ·split at g4
     ·split at g4
      ·rename_i hl; have hl:=cu hl
       refine ⟨_,_,g4,?_,dN hu hs g5⟩
       have e1:hh-l=0:=by omega
       rw[e1]
       by_cases hm:c=l
       ·rw[if_pos hm]; exact .cr _ _ _
       ·rw[if_neg hm]; exact .cr _ _ _
      ·rename_i hl; have hl:=l_ hl
       simp only[bG] at g4
       refine ⟨_,_,g4,?_,dN hu hs g5⟩
       have hm:¬c=l:=by omega
       rw[if_neg hm]
       simp only[Option.map_some,iz]
       refine .bM hp (show hh-l≤c-l by omega) ?_
       show (c-l)*pl.e+(o+l*(s0+1))=pl.sz
       have M3:l≤c:=by omega
       rw[←hc,Nat.sub_mul]
       have:l*pl.e≤c*pl.e:=Nat.mul_le_mul_right _ M3
       rw[←e2]
       omega
     ·rename_i hf; exact absurd rfl (l_ hf)
    ·split at g4
     ·rename_i hf; have hf:=cu hf; rw[iA] at hf; omega
     ·obtain ⟨v,j1,j2⟩:=jk hp g1 g6 (by rw[iA]; omega) g4
      refine ⟨v,_,j1,?_,dN hu hs g5⟩
      by_cases hm:m=l
      ·simpa[hm] using j2
      ·simpa[hm] using j2
theorem ya (hfl:¬good fl) (hu:P.underlying t=some .string)
  {x x':Value} {lo hi mx lo' hi' Fm:Option Value} {κ:Value→Heap→β} (hg:good (sF fl x lo hi mx h κ)) (hx:VR φ x x') (h1:DL φ lo lo') (h2:DL φ hi hi') (h3:DL φ mx Fm) :
  ∃v v',good (κ v h)∧VR φ v v'∧(Instr.sliceAt t x' lo' hi' Fm).run P w=.ok v' w:=by
 unfold sF at hg
 split at hg<;>try exact absurd hg hfl
 rename_i s
 cases hx
 cases Fm with
 | some _=>exact h3.elim
 | none=>
  obtain ⟨l,hh,m,g1,g2,g3⟩:=fU (P:=P) (w:=w) hfl hg h1 h2 (mx:=none) (Fm:=none) trivial (Nat.le_refl s.size) false
  rcases g3 with ⟨_,rfl,g4,g5⟩ | ⟨g6,_⟩
  ·refine ⟨_,.string (s.extract l hh),g4,.string _,?_⟩
   simp[Instr.sliceAt,Instr.slice,aD hu,g5]
  ·exact absurd rfl g6
theorem jl:∀(d:Nat) (D:Nat),d≤D→∀(t:TypeId) (v:Value) (em:Bool),iS P d t v=true→(Instr.checkKey em D t v).run P w=.ok () w:=by
 intro d
 induction d with
 | zero=>intro D _ t v em hk; simp[iS] at hk
 | succ d ih=>
  intro D hD t v em hk
  obtain ⟨D,rfl⟩:∃k,D=k+1:=⟨D-1,by omega⟩
  simp only[iS] at hk
  split at hk<;>try (cases hk; done)
  ·rename_i hu; simp[Instr.checkKey,aD hu]
  ·rename_i hu; simp[Instr.checkKey,aD hu]
  ·rename_i hu; simp[Instr.checkKey,aD hu]
  ·rename_i fs cs hu
   simp only[Bool.and_eq_true] at hk
   obtain ⟨_,hk⟩:=hk
   simp only[Instr.checkKey,Sem.run_bind,aD hu,Result.andThen_ok]
   rw[←Array.forIn_toList]
   generalize fs.toList=l at hk
   clear hu
   induction l with
   | nil=>simp
   | cons f l ihl=>
    simp only[List.all_cons,Bool.and_eq_true] at hk
    obtain ⟨hf,hk⟩:=hk
    have lN:=ihl hk
    have hone:∃x,(part f.type cs f.offset).run P w=.ok x w∧(Instr.checkKey em D f.type x).run P w=.ok () w:=by
     split at hf<;>try (cases hf; done)
     ·rename_i hag hsz
      exact ⟨_,gf hag hsz cs f.offset,ih D (by omega) _ _ em hf⟩
     ·rename_i hag hsz
      split at hf<;>try (cases hf; done)
      rename_i v hv
      refine ⟨v,?_,ih D (by omega) _ _ em hf⟩
      have:=gf (w:=w) hag hsz cs f.offset
      rw[this]; simp only[hv]
    obtain ⟨x,hx1,hx2⟩:=hone
    simp only[List.forIn_cons,Sem.run_bind,Sem.run_ite]
    split
    ·simp only[hx1,hx2,Result.andThen_ok,Sem.run_pure]
     exact lN
    ·simp only[Sem.run_pure,Result.andThen_ok]
     exact lN
theorem oe {d:Nat} {v:Value} (hk:iS P d t v=true):kq v=true:=by
 cases d with
 | zero=>simp[iS] at hk
 | succ d=>
  simp only[iS] at hk
  split at hk<;>try (cases hk; done)
  ·rfl
  ·rfl
  ·rfl
  ·simp only[Bool.and_eq_true] at hk; exact hk.1
theorem dw (hr:HR P φ h w) {kt:TypeId} {k k':Value} (hk:VR φ k k'):∀(es es':List MapEntry) (i:Nat) (r:Option (Nat × MapEntry)),F2 (ER φ) es es'→fm P h kt k es i=some r→
  ∃r':Option (Nat × Value),(Instr.findAsking kt k' es' i).run P w=.ok r' w∧
   match r,r' with
   | none,none=>True
   | some (j,e),some (j',v')=>j'=j∧i≤j∧es[j-i]? = some e∧VR φ e.val v'∧kV P h 100 kt k e.key=some true
   | _,_=>False:=by
 intro es
 induction es with
 | nil=>intro es' i r h2 hf; cases h2; simp only[fm] at hf; cases hf; exact ⟨none,by simp[Instr.findAsking],trivial⟩
 | cons e es ih=>
  intro es' i r h2 hf
  cases h2 with
  | cons he h2=>
   rename_i e' es'
   simp only[fm] at hf
   have key:∀q,kV P h 100 kt k e.key=some q→(Op.equal kt k' e'.key).run P w=.ok q w:=fun q hq=>qj hr 100 10000 (by omega) kt _ _ _ _ q hq hk he.key
   split at hf
   ·rename_i hq
    cases hf
    exact ⟨some (i,e'.val),by simp[Instr.findAsking,key _ hq],rfl,Nat.le_refl _,by simp,he.val,hq⟩
   ·rename_i hq
    obtain ⟨r',h3,h4⟩:=ih es' (i+1) r h2 hf
    refine ⟨r',by simp[Instr.findAsking,key _ hq,h3],?_⟩
    cases r with
    | none=>cases r' with
     | none=>trivial
     | some _=>exact h4.elim
    | some p=>
     cases r' with
     | none=>exact h4
     | some p'=>
      obtain ⟨g1,g2,g3,g4,g5⟩:=h4
      refine ⟨g1,by omega,?_,g4,g5⟩
      rw[show p.1-i=(p.1-(i+1))+1 by omega]; simpa using g3
   ·cases hf
theorem nQ {D:Nat} {d:TypeDesc} {kt:TypeId} (hu:P.underlying kt=some d) {a b:Value} {q:Bool} (hs:Instr.sameNow d a b=some q):(Op.equalIn (D+1) kt a b).run P w=.ok q w:=by
 unfold Instr.sameNow at hs
 split at hs<;>try (cases hs; done)
 ·split at hs<;>try (cases hs; done)
  rename_i hk; subst hk; cases hs
  simp[Op.equalIn,aD hu]
 ·cases hs; simp[Op.equalIn,aD hu]
 ·cases hs; simp[Op.equalIn,aD hu]
theorem vN {d:TypeDesc} {kt:TypeId} (hu:P.underlying kt=some d) {k:Value}:∀(es:List MapEntry) (i:Nat) (r:Option (Nat × Value)),Instr.findNow d k es i=some r→(Instr.findAsking kt k es i).run P w=.ok r w:=by
 intro es
 induction es with
 | nil=>intro i r hf; simp only[Instr.findNow] at hf; cases hf; simp[Instr.findAsking]
 | cons e es ih=>
  intro i r hf
  simp only[Instr.findNow] at hf
  split at hf
  ·rename_i hq; cases hf
   simp[Instr.findAsking,Op.equal,nQ (D:=9999) (w:=w) hu hq,Op.maxDepth]
  ·rename_i hq
   simp[Instr.findAsking,Op.equal,nQ (D:=9999) (w:=w) hu hq,Op.maxDepth,ih _ _ hf]
  ·cases hf
theorem fu {kt:TypeId} {d:TypeDesc} (hu:P.underlying kt=some d) {k:Value} {es:List MapEntry} {r:Option (Nat × Value)} (ha:(Instr.findAsking kt k es 0).run P w=.ok r w) :
  (Instr.findKey kt k es).run P w=.ok r w:=by
 simp only[Instr.findKey,Sem.run_bind,aD hu,Result.andThen_ok]
 cases hn:Instr.findNow d k es 0 with
 | none=>simpa using ha
 | some r'=>
  have:=vN (w:=w) hu es 0 r' hn
  rw[ha] at this
  injection this with e1 e2
  subst e1
  simp
theorem qk {d:Nat} {v:Value} (hk:iS P d t v=true):∃u,P.underlying t=some u:=by
 cases d with
 | zero=>simp[iS] at hk
 | succ d=>
  simp only[iS] at hk
  cases hu:P.underlying t with
  | none=>rw[hu] at hk; simp at hk
  | some u=>exact ⟨u,rfl⟩
theorem vO (hfl:¬good fl) {kt et:TypeId} (hu:P.underlying t=some (.map kt et)) (ok:Bool)
  (hr:HR P φ h w) {m m' k k':Value} {κ:Option Value→β} (hg:good (iX fl P kt m k h κ)) (hm:VR φ m m') (hk:VR φ k k') :
  ∃r r':Option Value,good (κ r)∧DL φ r r'∧(Instr.lookup t m' k' ok).run P w=(match r' with
   | some v=>.ok (if ok then .tuple #[v,.bool true] else v) w
   | none=>((zeroValue et).run P w).andThen fun z w=>.ok (if ok then .tuple #[z,.bool false] else z) w):=by
 unfold iX at hg
 split at hg<;>try exact absurd hg hfl
 rename_i GY
 have hsc:=oe GY
 have hkk:=rW hsc hk
 subst hkk
 have zh:∀em,(Instr.checkKey em 10000 kt k').run P w=.ok () w:=fun em=>jl 20 10000 (by omega) kt k' em GY
 obtain ⟨u,KM⟩:=qk GY
 cases hm<;>try exact absurd hg hfl
 ·refine ⟨none,none,hg,trivial,?_⟩
  have hfk:(Instr.findKey kt k' []).run P w=.ok none w:=fu KM (by simp[Instr.findAsking])
  simp only[Instr.lookup,Sem.run_bind,aD hu,Result.andThen_ok,Sem.run_pure,zh,hfk]
  (try cases (zeroValue et).run P w<;>simp[Result.andThen])
 ·rename_i r pl hp
  simp only at hg
  split at hg<;>try exact absurd hg hfl
  rename_i es clock hb
  obtain ⟨es',hO,h2⟩:=hr.nP hb hp
  split at hg
  ·rename_i j e hf
   obtain ⟨r',g3,g4⟩:=dw hr hk es es'.toList 0 _ h2 hf
   cases r' with
   | none=>exact g4.elim
   | some p=>
    obtain ⟨j',v'⟩:=p
    obtain ⟨rfl,_,_,g5,_⟩:=g4
    refine ⟨some e.val,some v',hg,g5,?_⟩
    simp[Instr.lookup,aD hu,cM hO,zh,fu KM g3]
  ·rename_i hf
   obtain ⟨r',g3,g4⟩:=dw hr hk es es'.toList 0 _ h2 hf
   cases r' with
   | some p=>exact g4.elim
   | none=>
    refine ⟨none,none,hg,trivial,?_⟩
    simp only[Instr.lookup,Sem.run_bind,aD hu,Result.andThen_ok,Sem.run_pure,cM hO,zh,fu KM g3]
    (try cases (zeroValue et).run P w<;>simp[Result.andThen])
  ·exact absurd hg hfl
theorem vP (hfl:¬good fl) {kt et:TypeId} {zero:Value} {inf:TypeInfo} (hu:P.underlying t=some (.map kt et)) (hi:P.info? et=some inf) (hz:inf.zero=some zero) (hzs:qa zero=true) (ok:Bool)
  (hr:HR P φ h w) {m m' k k':Value} {κ:Value→Heap→β} (hg:good (cZ fl P kt zero ok m k h κ)) (hm:VR φ m m') (hk:VR φ k k') :
  ∃v v',good (κ v h)∧VR φ v v'∧(Instr.lookup t m' k' ok).run P w=.ok v' w:=by
 obtain ⟨r,r',g1,g2,g3⟩:=vO hfl hu ok hr hg hm hk
 cases r<;>cases r'<;>(try exact g2.elim)<;>cases ok<;>simp only at g1
 ·exact ⟨_,zero,g1,ja hzs,by rw[g3]; simp[fT hi hz]⟩
 ·exact ⟨_,.tuple #[zero,.bool false],g1,VR.tuple' (.cons (ja hzs) (.cons (.bool false) .nil)),by rw[g3]; simp[fT hi hz]⟩
 ·exact ⟨_,_,g1,g2,by rw[g3]; simp⟩
 ·exact ⟨_,.tuple #[_,.bool true],g1,VR.tuple' (.cons g2 (.cons (.bool true) .nil)),by rw[g3]; simp⟩
theorem oS (hfl:¬good fl) {xt asserted:TypeId} {zero:Value} {inf:TypeInfo} {d:TypeDesc} (hu:P.underlying asserted=some d) (hd:∀ms,d≠.interface ms) (hi:P.info? asserted=some inf) (hz:inf.zero=some zero) (hzs:qa zero=true) (ok:Bool)
  {x x':Value} {κ:Value→Heap→β} (hg:good (dM fl asserted zero ok x h κ)) (hx:VR φ x x') :
  ∃v v',good (κ v h)∧VR φ v v'∧(Instr.typeAssert x' xt asserted ok).run P w=.ok v' w:=by
 unfold dM at hg
 split at hg<;>try exact absurd hg hfl
 ·rename_i t v
  cases hx with
  | iface _ hv=>
   rename_i v'
   split at hg<;>try exact absurd hg hfl
   ·rename_i he; have he:=cu he; subst he
    refine ⟨_,.tuple #[v',.bool true],hg,VR.tuple' (.cons hv (.cons (.bool true) .nil)),?_⟩
    simp only[Instr.typeAssert,Sem.run_bind,aD hu,Result.andThen_ok]
    cases d<;>first | exact absurd rfl (hd _) | simp
   ·rename_i he; have he:=cu he; subst he
    refine ⟨_,v',hg,hv,?_⟩
    simp only[Instr.typeAssert,Sem.run_bind,aD hu,Result.andThen_ok]
    cases d<;>first | exact absurd rfl (hd _) | simp
   ·rename_i he; have he:=l_ he
    refine ⟨_,.tuple #[zero,.bool false],hg,VR.tuple' (.cons (ja hzs) (.cons (.bool false) .nil)),?_⟩
    simp only[Instr.typeAssert,Sem.run_bind,aD hu,Result.andThen_ok]
    cases d<;>first | exact absurd rfl (hd _) | simp[he,fT hi hz]
 ·cases hx
  split at hg<;>try exact absurd hg hfl
  refine ⟨_,.tuple #[zero,.bool false],hg,VR.tuple' (.cons (ja hzs) (.cons (.bool false) .nil)),?_⟩
  simp only[Instr.typeAssert,Sem.run_bind,aD hu,Result.andThen_ok]
  cases d<;>first | exact absurd rfl (hd _) | simp[fT hi hz]
theorem Cq (hfl:¬good fl) {op:BinOp} {k:IntKind} {a b:Int} {κ:Value→β} (hg:good (jZ fl op k a b κ)) {kb:IntKind} (hk:kb=k∨op=.shl∨op=.shr) (t:TypeId) :
  ∃v,good (κ v)∧VR φ v v∧(binOp op t (.int k a) (.int kb b)).run P w=.ok v w:=by
 cases op<;>simp only[jZ,fq,bN,dB,fG,eX] at hg
 case shl=>
  split at hg<;>try exact absurd hg hfl
  rename_i hb; have hb:¬b<0:=by simpa using hb
  exact ⟨_,hg,.int _ _,by simp[binOp,Op.shift,hb]⟩
 case shr=>
  split at hg<;>try exact absurd hg hfl
  rename_i hb; have hb:¬b<0:=by simpa using hb
  exact ⟨_,hg,.int _ _,by simp[binOp,Op.shift,hb]⟩
 all_goals (have hk:kb=k:=by rcases hk with h | h | h<;>first | exact h | cases h)
 all_goals subst hk
 case quo=>
  split at hg<;>try exact absurd hg hfl
  rename_i hb; have hb:¬b=0:=by simpa using hb
  exact ⟨_,hg,.int _ _,by simp[binOp,Op.intDiv,hb]⟩
 case rem=>
  split at hg<;>try exact absurd hg hfl
  rename_i hb; have hb:¬b=0:=by simpa using hb
  exact ⟨_,hg,.int _ _,by simp[binOp,Op.intDiv,hb]⟩
 case add=>exact ⟨_,hg,.int _ _,by simp[binOp,Op.intArith]⟩
 case sub=>exact ⟨_,hg,.int _ _,by simp[binOp,Op.intArith]; rfl⟩
 case mul=>exact ⟨_,hg,.int _ _,by simp[binOp,Op.intArith]⟩
 case and=>exact ⟨_,hg,.int _ _,by simp[binOp,Op.intBits]⟩
 case or=>exact ⟨_,hg,.int _ _,by simp[binOp,Op.intBits]⟩
 case xor=>exact ⟨_,hg,.int _ _,by simp[binOp,Op.intBits]⟩
 case andNot=>exact ⟨_,hg,.int _ _,by simp[binOp,Op.intBits]⟩
 case eql=>exact ⟨_,hg,.bool _,by simp[binOp,Op.intCmp]; rfl⟩
 case neq=>exact ⟨_,hg,.bool _,by simp[binOp,Op.intCmp]; rfl⟩
 case lss=>exact ⟨_,hg,.bool _,by simp[binOp,Op.intCmp]⟩
 case leq=>exact ⟨_,hg,.bool _,by simp[binOp,Op.intCmp]; rw[Bool.eq_iff_iff]; simp⟩
 case gtr=>exact ⟨_,hg,.bool _,by simp[binOp,Op.intCmp]⟩
 case geq=>exact ⟨_,hg,.bool _,by simp[binOp,Op.intCmp]; rw[Bool.eq_iff_iff]; simp⟩
theorem sU (hr:HR P φ h w) {op:BinOp} {t:TypeId} {x y:Operand} {a b a' b':Value} {r:Bool} (hop:op=.eql∨op=.neq) (hgd:P.eqGuardType P.depth t=false)
  (ha:VR φ a a') (hb:VR φ b b') (he:kV P h 100 t a b=some r)
  (hni:¬(∃k n k' m,a=.int k n∧b=.int k' m)) (Kj:¬(∃s s',a=.string s∧b=.string s')) (hnn:¬(a=.nilIface∧b=.nilIface)) :
  ((do eqGuard op t x y a' b'; binOp op t a' b'):Sem Value).run P w=.ok (.bool (if op=.eql then r else !r)) w:=by
 have hq:=qj hr 100 10000 (by omega) t a b a' b' r he ha hb
 have DM:(Op.equal t a' b').run P w=.ok r w:=hq
 have hg:(eqGuard op t x y a' b').run P w=.ok () w:=by
  rcases hop with rfl | rfl<;>cases ha<;>first
   | (simp[eqGuard]; done)
   | (cases hb<;>first | (simp[eqGuard,hgd]; done) | exact absurd ⟨rfl,rfl⟩ hnn)
 have XT:(binOp op t a' b').run P w=.ok (.bool (if op=.eql then r else !r)) w:=by
  rcases hop with rfl | rfl<;>cases ha<;>first
   | (simp[binOp,DM]; done)
   | (cases hb<;>first | (simp[binOp,DM]; done) | exact absurd ⟨_,_,_,_,rfl,rfl⟩ hni | exact absurd ⟨_,_,rfl,rfl⟩ Kj)
 simp[hg,XT]
end Go.Vai

namespace Go.Vai
open Go
variable {β:Type} {fl:β} {good:β→Prop} {P:Program} {φ:di} {h:Heap} {w:World} {t:TypeId}
theorem Cr (hfl:¬good fl) (hr:HR P φ h w) {op:BinOp} {t:TypeId} {x y:Operand} {a b a' b':Value} {κ:Value→Heap→β}
  (hg:good (au fl P op t ((x matches .const _) || (y matches .const _)) (P.eqGuardType P.depth t) a b h κ)) (ha:VR φ a a') (hb:VR φ b b') :
  ∃v v',good (κ v h)∧VR φ v v'∧((do eqGuard op t x y a' b'; binOp op t a' b'):Sem Value).run P w=.ok v' w:=by
 unfold au at hg
 split at hg
 ·rename_i k n k' m
  cases ha; cases hb
  have fin:∀op',good (jZ fl op' k n m fun v=>κ v h)→(k'=k∨op'=.shl∨op'=.shr)→op'=op→
    ∃v v',good (κ v h)∧VR φ v v'∧((do eqGuard op t x y (.int k n) (.int k' m); binOp op t (.int k n) (.int k' m)):Sem Value).run P w=.ok v' w:=by
   intro op' hg1 hk e
   subst e
   obtain ⟨v,g1,g2,g3⟩:=Cq (P:=P) (w:=w) (φ:=φ) hfl hg1 hk t
   refine ⟨v,v,g1,g2,?_⟩
   rw[eqGuard_at_int]
   simpa using g3
  split at hg
  ·rename_i hk; rw[eN] at hk
   exact fin _ hg (.inl (by simpa[eq_comm] using hk)) rfl
  ·exact fin _ hg (.inr (.inl rfl)) rfl
  ·exact fin _ hg (.inr (.inr rfl)) rfl
  ·exact absurd hg hfl
 ·rename_i s s'
  cases ha; cases hb
  split at hg
  ·split at hg<;>try exact absurd hg hfl
   rename_i hle; have hle:=cz hle
   refine ⟨_,_,hg,.string _,?_⟩
   have h1:¬((s.size+s'.size:Nat):Int) > IntKind.i64.max:=by
    rw[IntKind.max_i64]; have:s.size+s'.size≤9223372036854775807:=hle; omega
   have h2:¬(9223372036854775807:Int)<(s.size:Int)+(s'.size:Int):=by have:s.size+s'.size≤9223372036854775807:=hle; omega
   simp[eqGuard,binOp,Op.stringOp,h2]
  ·simp only[bN,iy] at hg
   refine ⟨_,_,hg,.bool _,?_⟩
   rw[←KK,beq_toListBytes]
   simp[eqGuard,binOp,Op.stringOp]
  ·simp only[bN,iy] at hg
   refine ⟨_,_,hg,.bool _,?_⟩
   rw[←KK,beq_toListBytes]
   simp[eqGuard,binOp,Op.stringOp]
  ·exact absurd hg hfl
 ·cases ha; cases hb
  have hq:∀r,kV P h 100 t .nilIface .nilIface=some r→(Op.equal t .nilIface .nilIface).run P w=.ok r w:=
   fun r he=>qj hr 100 10000 (by omega) t _ _ _ _ r he .nilIface .nilIface
  split at hg<;>try exact absurd hg hfl
  ·rename_i WX
   split at hg<;>try exact absurd hg hfl
   rename_i r he
   simp only[bN] at hg
   refine ⟨_,_,hg,.bool _,?_⟩
   cases x<;>cases y<;>simp at WX<;>simp[eqGuard,binOp,hq r he]
  ·rename_i WX
   split at hg<;>try exact absurd hg hfl
   rename_i r he
   simp only[bN] at hg
   refine ⟨_,_,hg,.bool _,?_⟩
   cases x<;>cases y<;>simp at WX<;>simp[eqGuard,binOp,hq r he]
 ·exact absurd hg hfl
 ·exact absurd hg hfl
 ·exact absurd hg hfl
 ·exact absurd hg hfl
 ·have n1:∀k n k' m,a=.int k n→b=.int k' m→False:=by assumption
  have n2:∀s s',a=.string s→b=.string s'→False:=by assumption
  have n3:a=.nilIface→b=.nilIface→False:=by assumption
  split at hg<;>try exact absurd hg hfl
  ·rename_i hgd
   split at hg<;>try exact absurd hg hfl
   rename_i r he
   simp only[bN] at hg
   refine ⟨_,_,hg,.bool _,?_⟩
   have:=sU (x:=x) (y:=y) hr (op:=.eql) (.inl rfl) hgd ha hb he (fun ⟨k,n,k',m,e1,e2⟩=>n1 k n k' m e1 e2) (fun ⟨s,s',e1,e2⟩=>n2 s s' e1 e2) (fun ⟨e1,e2⟩=>n3 e1 e2)
   simpa using this
  ·rename_i hgd
   split at hg<;>try exact absurd hg hfl
   rename_i r he
   simp only[bN] at hg
   refine ⟨_,_,hg,.bool _,?_⟩
   have:=sU (x:=x) (y:=y) hr (op:=.neq) (.inr rfl) hgd ha hb he (fun ⟨k,n,k',m,e1,e2⟩=>n1 k n k' m e1 e2) (fun ⟨s,s',e1,e2⟩=>n2 s s' e1 e2) (fun ⟨e1,e2⟩=>n3 e1 e2)
   simpa using this
theorem gW {s:Sem Value} {v:Value} {w':World} (hs:s.run P w=.ok v w'):((do pure (Next.value (←s)):Sem Next)).run P w=.ok (.value v) w':=by simp[hs]
theorem rJ {z:List Value} {place:Nat→Option (Nat × Nat)} (hp:ku P t=some (z,place)) {parts:List (Nat × Value)} {r:Array Value} (hf:Instr.fill place z.toArray parts=some r) :
  P.built t parts=some r∧z.all eW=true:=by
 unfold ku at hp
 unfold Program.built
 split at hp<;>try (cases hp; done)
 ·rename_i it n e hi hu
  split at hp<;>try (cases hp; done)
  rename_i zv ie hz hie
  split at hp<;>try (cases hp; done)
  rename_i hb
  cases hp
  refine ⟨?_,hb⟩
  simp only[hi,hu,hz,hie]
  simpa using hf
 ·rename_i it fs hi hu
  split at hp<;>try (cases hp; done)
  rename_i zv places hz KN
  split at hp<;>try (cases hp; done)
  rename_i hb
  cases hp
  refine ⟨?_,hb⟩
  simp only[hi,hu,hz,KN]
  simpa using hf
theorem rK {z:List Value} {place:Nat→Option (Nat × Nat)} (hp:ku P t=some (z,place)):z.all eW=true:=by
 unfold ku at hp
 split at hp<;>try (cases hp; done)
 ·split at hp<;>try (cases hp; done)
  split at hp<;>try (cases hp; done)
  rename_i hb; cases hp; exact hb
 ·split at hp<;>try (cases hp; done)
  split at hp<;>try (cases hp; done)
  rename_i hb; cases hp; exact hb
theorem nR {lo hi mx:Option Operand} {f g:Operand→Value} (hv:∀y∈lU lo hi mx,VR φ (f y) (g y)) {l hh m:Option Value}
  (hb:rS lo.isSome hi.isSome mx.isSome ((lU lo hi mx).map f)=some (l,hh,m)) :
  DL φ l (lo.map g)∧DL φ hh (hi.map g)∧DL φ m (mx.map g):=by
 cases lo<;>cases hi<;>cases mx<;>simp[lU,rS] at hb hv<;>obtain ⟨rfl,rfl,rfl⟩:=hb<;>simp_all<;>trivial
set_option maxHeartbeats 1000000 in
theorem qW (hfl:¬good fl) {op:Op} {i:XI β} (hc:lM fl P op=some i) {tm:T Value} {ρ:Operand→Value} (hρ:∀y∈op.operands.toList,VR φ (dV tm y) (ρ y)) (hr:HR P φ h w)
  {κ:Value→Heap→β} (hg:good (i.run tm h κ)) {o:Oper} (ho:o.op=op) :
  ∃v v',good (κ v h)∧VR φ v v'∧(execOp ρ o).run P w=.ok (.value v') w:=by
 have lift:∀{s:Sem Value},(∃v v',good (κ v h)∧VR φ v v'∧s.run P w=.ok v' w)→execOp ρ o=(do pure (Next.value (←s)))→
   ∃v v',good (κ v h)∧VR φ v v'∧(execOp ρ o).run P w=.ok (.value v') w:=by
  intro s ⟨v,v',g1,g2,g3⟩ e
  exact ⟨v,v',g1,g2,by rw[e]; exact gW g3⟩
 cases op<;>simp only[lM] at hc<;>try (cases hc; done)
 case move x=>
  cases hc; rw[XI.bO] at hg
  exact ⟨_,ρ x,hg,hρ x (by simp[Op.operands]),by simp[execOp,ho]⟩
 case assign x=>
  cases hc; rw[XI.bO] at hg
  exact ⟨_,ρ x,hg,hρ x (by simp[Op.operands]),by simp[execOp,ho]⟩
 case pick c a b=>
  cases hc; rw[XI.oa] at hg
  obtain ⟨v,v',g1,g2,g3⟩:=zA (P:=P) (w:=w) hfl hg (hρ c (by simp[Op.operands])) (hρ a (by simp[Op.operands])) (hρ b (by simp[Op.operands]))
  exact ⟨v,v',g1,g2,by simp only[execOp,ho]; exact g3⟩
 case build t parts=>
  split at hc<;>try (cases hc; done)
  rename_i z place hp
  split at hc<;>try (cases hc; done)
  rename_i ps hps
  cases hc; rw[XI.fP] at hg
  have hb:=rK hp
  rw[List.map_map] at hg
  obtain ⟨r,r',g1,g2,g3⟩:=qU (φ:=φ) hfl tm ρ place parts.toList ps hps (fun p zi=>hρ p.2 (by simp[Op.operands]; exact ⟨p.1,by simpa using zi⟩)) z z (gu hb) _ hg
  obtain ⟨g4,_⟩:=rJ hp g3
  refine ⟨_,.agg r'.toArray,g1,VR.qf (by simpa using g2),?_⟩
  have g5:=run_build (P:=P) w t (parts.map fun (i,x)=>(i,ρ x)) r'.toArray (by simpa using g4)
  simp only[execOp,ho]
  exact gW g5
 case load t a=>
  split at hc<;>try (cases hc; done)
  ·rename_i hag hsz; cases hc; rw[XI.bO] at hg
   exact lift (qT hfl hag hsz hg (hρ a (by simp[Op.operands])) hr) (by simp only[execOp,ho])
  ·rename_i hag hsz; cases hc; rw[XI.bO] at hg
   exact lift (jM hfl hag hg (hρ a (by simp[Op.operands])) hr) (by simp only[execOp,ho])
 case nilCheck x=>
  cases hc; rw[XI.bO] at hg
  exact Cm hfl hg (hρ x (by simp[Op.operands])) o ρ x ho rfl
 case binOp op t x y yt=>
  cases hc; rw[XI.cG] at hg
  exact lift (Cr hfl hr hg (hρ x (by simp[Op.operands])) (hρ y (by simp[Op.operands]))) (by simp only[execOp,ho])
 case unOp op t x=>
  cases hc; rw[XI.bO] at hg
  exact lift (Fj hfl hg (hρ x (by simp[Op.operands]))) (by simp only[execOp,ho])
 case convert src dst x=>
  split at hc<;>try (cases hc; done)
  ·rename_i hs hd; cases hc; rw[XI.bO] at hg
   exact lift (zB hfl hs hd hg (hρ x (by simp[Op.operands]))) (by simp only[execOp,ho])
  ·rename_i hs hd; cases hc; rw[XI.bO] at hg
   split at hg<;>try exact absurd hg hfl
   rename_i s hx
   have hv:=hρ x (by simp[Op.operands])
   rw[hx] at hv
   generalize hy:ρ x=y at hv
   cases hv
   refine ⟨_,.string s,hg,.string s,?_⟩
   simp[execOp,ho,convert,aD hs,aD hd,hy]
 case makeInterface t x=>
  split at hc<;>try (cases hc; done)
  rename_i d hni hu
  cases hc; rw[XI.bO] at hg
  refine ⟨_,.iface t (ρ x),hg,.iface t (hρ x (by simp[Op.operands])),?_⟩
  have:(Instr.makeInterface t (ρ x)).run P w=.ok (.iface t (ρ x)) w:=by
   simp only[Instr.makeInterface,Sem.run_bind,aD hu,Result.andThen_ok]
   cases d<;>first | exact absurd hu (hni _) | rfl
  simp only[execOp,ho]
  exact gW this
 case makeFunc fn first cap=>
  cases fn<;>try (cases hc; done)
  rename_i fn
  cases hc; rw[XI.fP] at hg
  have hv:F2 (VR φ) ((first.toList++cap.toList).map (dV tm)) ((first.toList++cap.toList).map ρ):=F2.map _ fun x hx=>hρ x (by simpa[Op.operands] using hx)
  refine ⟨_,.func (.func fn) (first.map ρ) (cap.map ρ),hg,?_,by simp[execOp,ho,Instr.makeFunc]⟩
  refine VR.func' ?_ ?_
  ·have:=hv.take first.toList.length
   simpa using this
  ·have:=hv.drop first.toList.length
   simpa using this
 case slice t x lo hi mx=>
  have hx:VR φ (dV tm x) (ρ x):=hρ x (by simp[Op.operands])
  have Ox:∀y∈lU lo hi mx,VR φ (dV tm y) (ρ y):=fun y hy=>hρ y (by
   cases lo<;>cases hi<;>cases mx<;>simp[lU] at hy<;>simp[Op.operands,hy])
  split at hc<;>try (cases hc; done)
  ·rename_i e hu
   split at hc<;>try (cases hc; done)
   rename_i s hs
   cases hc; rw[XI.fP] at hg
   simp only[List.map_cons] at hg
   split at hg<;>try exact absurd hg hfl
   rename_i l hh m hb
   obtain ⟨k1,k2,k3⟩:=nR Ox hb
   exact lift (x_ hfl hu hs hr hg hx k1 k2 k3) (by simp only[execOp,ho])
  ·rename_i hu
   cases hc; rw[XI.fP] at hg
   simp only[List.map_cons] at hg
   split at hg<;>try exact absurd hg hfl
   rename_i l hh m hb
   obtain ⟨k1,k2,k3⟩:=nR Ox hb
   exact lift (ya hfl hu hg hx k1 k2 k3) (by simp only[execOp,ho])
 case fieldAddr t x f=>
  split at hc<;>try (cases hc; done)
  rename_i fs hu
  split at hc<;>try (cases hc; done)
  rename_i qb hf
  split at hc<;>try (cases hc; done)
  rename_i s hs
  cases hc; rw[XI.bO] at hg
  exact lift (qg hfl hu hf hs hg (hρ x (by simp[Op.operands]))) (by simp only[execOp,ho])
 case field t x f=>
  split at hc<;>try (cases hc; done)
  rename_i fs hu
  split at hc<;>try (cases hc; done)
  rename_i qb hf
  split at hc<;>try (cases hc; done)
  rename_i b s hb hs
  cases hc; rw[XI.bO] at hg
  exact lift (x7 hfl hu hf hb hs hg (hρ x (by simp[Op.operands]))) (by simp only[execOp,ho])
 case indexAddr t x i=>
  split at hc<;>try (cases hc; done)
  ·rename_i e hu
   split at hc<;>try (cases hc; done)
   rename_i s hs
   cases hc; rw[XI.cG] at hg
   exact lift (qh hfl hu hs hg (hρ x (by simp[Op.operands])) (hρ i (by simp[Op.operands]))) (by simp only[execOp,ho])
  ·rename_i len e hu
   split at hc<;>try (cases hc; done)
   rename_i s hs
   cases hc; rw[XI.cG] at hg
   exact lift (qi hfl hu hs hg (hρ x (by simp[Op.operands])) (hρ i (by simp[Op.operands]))) (by simp only[execOp,ho])
 case index t x i=>
  split at hc<;>try (cases hc; done)
  ·rename_i len e hu
   split at hc<;>try (cases hc; done)
   rename_i b s hb hs
   cases hc; rw[XI.cG] at hg
   exact lift (x8 hfl hu hb hs hg (hρ x (by simp[Op.operands])) (hρ i (by simp[Op.operands]))) (by simp only[execOp,ho])
  ·rename_i hu
   cases hc; rw[XI.cG] at hg
   exact lift (x9 hfl hu hg (hρ x (by simp[Op.operands])) (hρ i (by simp[Op.operands]))) (by simp only[execOp,ho])
 case lookup t x i ok=>
  split at hc<;>try (cases hc; done)
  rename_i kt et hu
  split at hc<;>try (cases hc; done)
  rename_i z hz
  split at hc<;>try (cases hc; done)
  rename_i hzs
  cases hc; rw[XI.cG] at hg
  cases hi:P.info? et with
  | none=>rw[hi] at hz; simp at hz
  | some inf=>
   rw[hi] at hz; simp at hz
   exact lift (vP hfl hu hi hz hzs ok hr hg (hρ x (by simp[Op.operands])) (hρ i (by simp[Op.operands]))) (by simp only[execOp,ho])
 case typeAssert x xt t ok=>
  split at hc<;>try (cases hc; done)
  rename_i d z hni hu hz
  split at hc<;>try (cases hc; done)
  rename_i hzs
  cases hc; rw[XI.bO] at hg
  cases hi:P.info? t with
  | none=>rw[hi] at hz; simp at hz
  | some inf=>
   rw[hi] at hz; simp at hz
   exact lift (oS (xt:=xt) hfl hu (fun ms e=>hni ms e) hi hz hzs ok hg (hρ x (by simp[Op.operands]))) (by simp only[execOp,ho])
 case extract x i=>
  cases hc; rw[XI.bO] at hg
  exact lift (sS hfl hg (hρ x (by simp[Op.operands]))) (by simp only[execOp,ho])
 case call c=>
  obtain ⟨callee,args,ts⟩:=c
  cases callee<;>(try simp only at hc)<;>try (cases hc; done)
  rename_i b
  cases b<;>(try simp only at hc)<;>try (cases hc; done)
  case len=>
   split at hc<;>try (cases hc; done)
   rename_i x t hx ht
   have hargs:args=#[x]:=Array.ext' (by simpa using hx)
   have ql:VR φ (dV tm x) (ρ x):=hρ x (by simp[Op.operands,Call.operands,hargs])
   have hex:execOp ρ o=(do pure (Next.value (←Builtin.len_ ts o.type #[ρ x]))):=by
    simp[execOp,ho,resolve,invoke,builtin,hargs]
   split at hc<;>try (cases hc; done)
   ·rename_i hu; cases hc; rw[XI.bO] at hg
    exact lift (xY hfl hg ql ht hu) hex
   ·rename_i hu; cases hc; rw[XI.bO] at hg
    exact lift (xZ hfl hg ql ht hu) hex
   ·rename_i hu; cases hc; rw[XI.bO] at hg
    exact lift (x6 hfl hg ql hr ht hu) hex
  case min=>
   split at hc<;>try (cases hc; done)
   rename_i a b hx
   have hargs:args=#[a,b]:=Array.ext' (by simpa using hx)
   have ha:VR φ (dV tm a) (ρ a):=hρ a (by simp[Op.operands,Call.operands,hargs])
   have hb:VR φ (dV tm b) (ρ b):=hρ b (by simp[Op.operands,Call.operands,hargs])
   cases hc; rw[XI.cG] at hg
   have hex:execOp ρ o=(do pure (Next.value (←Builtin.min_ ts o.type #[ρ a,ρ b]))):=by simp[execOp,ho,resolve,invoke,builtin,hargs]
   unfold GH at hg
   split at hg<;>try exact absurd hg hfl
   rename_i k x k' y e1 e2
   rw[e1] at ha; rw[e2] at hb
   have e3:ρ a=.int k x:=by generalize ρ a=z at ha; cases ha; rfl
   have e4:ρ b=.int k' y:=by generalize ρ b=z at hb; cases hb; rfl
   have hrun:=run_min_int2 (P:=P) (w:=w) ts o.type k k' x y
   rw[e3,e4] at hex
   split at hg
   ·rename_i hlt
    rw[fG,decide_eq_true_eq] at hlt
    rw[if_pos hlt] at hrun
    exact lift ⟨_,_,hg,.int _ _,hrun⟩ hex
   ·rename_i hlt
    rw[fG,decide_eq_false_iff_not] at hlt
    rw[if_neg hlt] at hrun
    exact lift ⟨_,_,hg,.int _ _,hrun⟩ hex
  case max=>
   split at hc<;>try (cases hc; done)
   rename_i a b hx
   have hargs:args=#[a,b]:=Array.ext' (by simpa using hx)
   have ha:VR φ (dV tm a) (ρ a):=hρ a (by simp[Op.operands,Call.operands,hargs])
   have hb:VR φ (dV tm b) (ρ b):=hρ b (by simp[Op.operands,Call.operands,hargs])
   cases hc; rw[XI.cG] at hg
   have hex:execOp ρ o=(do pure (Next.value (←Builtin.max_ ts o.type #[ρ a,ρ b]))):=by simp[execOp,ho,resolve,invoke,builtin,hargs]
   unfold GI at hg
   split at hg<;>try exact absurd hg hfl
   rename_i k x k' y e1 e2
   rw[e1] at ha; rw[e2] at hb
   have e3:ρ a=.int k x:=by generalize ρ a=z at ha; cases ha; rfl
   have e4:ρ b=.int k' y:=by generalize ρ b=z at hb; cases hb; rfl
   have hrun:=run_max_int2 (P:=P) (w:=w) ts o.type k k' x y
   rw[e3,e4] at hex
   split at hg
   ·rename_i hlt
    rw[fG,decide_eq_true_eq] at hlt
    rw[if_pos hlt] at hrun
    exact lift ⟨_,_,hg,.int _ _,hrun⟩ hex
   ·rename_i hlt
    rw[fG,decide_eq_false_iff_not] at hlt
    rw[if_neg hlt] at hrun
    exact lift ⟨_,_,hg,.int _ _,hrun⟩ hex
end Go.Vai

namespace Go.Vai
open Go
variable {β:Type} {fl:β} {good:β→Prop} {P:Program} {φ:di} {h:Heap} {w:World} {t:TypeId}
noncomputable def lay:List Value→T Value→Nat→T Value
 | [],c,_=>c
 | v::vs,c,off=>lay vs (c.aW off v) (off+1)
theorem rX (vs:List Value):∀(c:T Value) (off:Nat) (κ:T Value→Nat→β),KF vs c off κ=κ (lay vs c off) (off+vs.length):=by
 induction vs with
 | nil=>intro c off κ; rfl
 | cons v vs ih=>
  intro c off κ
  show T.set c off v (fun c=>rF (Nat.succ off) fun off=>KF vs c off κ)=_
  rw[T.eT,bG,ih]
  simp only[lay,List.length_cons]
  congr 1; omega
theorem oT (vs:List Value):∀(c:T Value) (off:Nat),off+vs.length≤2 ^ 199→∀i,Small i→(lay vs c off).get i=if off≤i∧i<off+vs.length then vs[i-off]? else c.get i:=by
 induction vs with
 | nil=>intro c off _ i _; simp[lay]; omega
 | cons v vs ih=>
  intro c off ho i hi
  simp only[List.length_cons] at ho
  have hso:Small off:=by unfold Small; omega
  rw[lay,ih _ _ (by omega) i hi,T.jL c v hso hi]
  by_cases h1:off+1≤i∧i<off+1+vs.length
  ·rw[if_pos h1,if_pos (by simp; omega),show i-off=(i-(off+1))+1 by omega]; simp
  ·rw[if_neg h1]
   by_cases h2:off=i
   ·subst h2; simp
   ·rw[if_neg h2,if_neg (by simp; omega)]
theorem zD {n m:Nat} (h:n≤m) (hm:m≤4611686018427387904):Small n:=by unfold Small; omega
theorem me (hfl:¬good fl) {vs:List Value} {e:TypeId} {Kh:Bool} {κ:bC→β} (hg:good (az fl vs e Kh κ)) :
  vs.length≤1000000000000∧good (κ (.cells vs.length (lay vs .nil 0) e Kh)):=by
 unfold az at hg
 rw[rX] at hg
 simp only[Nat.zero_add] at hg
 split at hg
 ·rename_i hle; exact ⟨cz hle,hg⟩
 ·exact absurd hg hfl
theorem GZ {vs vs':List Value} (hv:F2 (VR φ) vs vs') (hl:vs.length≤1000000000000) (e:TypeId) (pl:Pl) (rest:List Value) (Kh:Bool) (ho:Kh=true→(vs'++rest).length=pl.sz∧dY P e=some pl.e∧0<pl.e) :
  OR P φ (.cells vs.length (lay vs .nil 0) e Kh) pl (some (.cells (vs'++rest).toArray e (0,0))):=by
 have hlen:=hv.length
 refine ⟨rfl,rfl,by simp; omega,by omega,fun h=>by simpa using ho h,?_⟩
 intro i v iB hi
 rw[oT vs .nil 0 (by omega) i (by unfold Small; omega),if_pos (by omega)] at iB
 simp only[Nat.sub_zero] at iB
 obtain ⟨v',h1,h2⟩:=hv.get i v iB
 refine ⟨v',?_,h2⟩
 have:i<vs'.length:=by omega
 simp[List.getElem?_append_left this,h1]
theorem dm (hfl:¬good fl) {o:bC} {κ:Nat→Heap→β} (hg:good (an fl o h κ)):h.nx≤h.nx∧good (κ h.nx ⟨h.nx+1,h.bl.aW h.nx o,h.lo⟩):=by
 unfold an at hg
 rw[T.eT,bG] at hg
 exact ⟨Nat.le_refl _,hg⟩
def fL (φ:di) (b:Nat) (pl:Pl):di:=fun x=>if x=b then some pl else φ x
theorem fC (φ:di) (b:Nat) (pl:Pl):fL φ b pl b=some pl:=by simp[fL]
theorem mV {b:Nat} {pl:Pl} (hb:φ b=none):Sub φ (fL φ b pl):=fun x p e=>by
 unfold fL
 split
 ·rename_i hx; subst hx; rw[hb] at e; cases e
 ·exact e
theorem HR.sV (hr:HR P φ h w) (hn:h.nx≤h.nx) (o:bC):HR P φ ⟨h.nx+1,h.bl.aW h.nx o,h.lo⟩ w:=by
 have hs:Small h.nx:=by unfold Small; omega
 have fQ:∀b,b<h.nx→(h.bl.aW h.nx o).get b=h.bl.get b:=fun b hb=>T.fo _ _ hs (by unfold Small; omega) (by omega)
 refine ⟨?_,?_,?_,?_,?_,Nat.le_succ_of_le hr.lo⟩
 ·intro b o' pl hb hp
  have:=(hr.dom b pl hp).1
  exact hr.obj b o' pl ((fQ b this)▸hb) hp
 ·intro b pl hp; have:=hr.dom b pl hp; exact ⟨by show b<h.nx+1; omega,this.2⟩
 ·intro b o' KO hb
  show b<h.nx+1
  rw[T.jL _ _ hs KO] at hb
  split at hb
  ·omega
  ·have:=hr.keys b o' KO hb; omega
 ·show h.nx+1<h.nx+1+1; omega
 ·intro b b' o1 o2 pl jC g1 g2 l1 l2 p1 p2 e
  have d1:=(hr.dom b pl p1).1
  have d2:=(hr.dom b' jC p2).1
  exact hr.inj b b' o1 o2 pl jC ((fQ b d1)▸g1) ((fQ b' d2)▸g2) l1 l2 p1 p2 e
theorem dO {O:Obj} {B:Nat} (hB:B<w.heap.size):(w.alloc O).heap[B]? = w.heap[B]?:=by
 show (w.heap.push O)[B]? = _
 rw[Array.getElem?_push,if_neg (by omega)]
theorem j7 {O:Obj}:(w.alloc O).heap[w.heap.size]? = some O:=by
 show (w.heap.push O)[w.heap.size]? = _
 simp
theorem HR.zF (hr:HR P φ h w) {b:Nat} {o:bC} (hb:h.bl.get b=some o) (hp:φ b=none) (zG:b<h.nx) {O:Obj} (sz e:Nat) (ho:OR P φ o ⟨w.heap.size,sz,e⟩ (some O)) :
  HR P (fL φ b ⟨w.heap.size,sz,e⟩) h (w.alloc O):=by
 have hsub:=mV (pl:=⟨w.heap.size,sz,e⟩) hp
 refine ⟨?_,?_,hr.keys,hr.KJ,?_,hr.lo⟩
 ·intro x o' pl hx yb
  unfold fL at yb
  split at yb
  ·rename_i he; subst he; cases yb
   rw[hb] at hx; cases hx
   show OR P _ o _ ((w.alloc O).heap[w.heap.size]?)
   rw[j7]
   exact ho.mono hsub
  ·have hB:=(hr.dom x pl yb).2
   rw[dO hB]
   exact (hr.obj x o' pl hx yb).mono hsub
 ·intro x pl yb
  unfold fL at yb
  split at yb
  ·rename_i he; subst he; cases yb; exact ⟨zG,by simp⟩
  ·have:=hr.dom x pl yb; exact ⟨this.1,by simp; omega⟩
 ·intro x x' o1 o2 pl jC g1 g2 l1 l2 p1 p2 e
  unfold fL at p1 p2
  split at p1<;>split at p2
  ·omega
  ·rename_i h1 h2; cases p1; have:=(hr.dom x' jC p2).2; simp at e; omega
  ·rename_i h1 h2; cases p2; have:=(hr.dom x pl p1).2; simp at e; omega
  ·exact hr.inj x x' o1 o2 pl jC g1 g2 l1 l2 p1 p2 e
theorem Ext.zF {φ0:di} {h0:Heap} {w0:World} (hx:Ext φ0 φ h0 h w0 w) {b:Nat} (hp:φ b=none) (hb:h0.nx≤b) (O:Obj) (hO:UF (some O)) (sz e:Nat):Ext φ0 (fL φ b ⟨w.heap.size,sz,e⟩) h0 h w0 (w.alloc O) where
 sub:=hx.sub.trans (mV hp)
 new:=fun x pl e0 e1=>by
  unfold fL at e1
  split at e1
  ·rename_i he; subst he; cases e1; exact ⟨hb,.inl hx.size⟩
  ·exact hx.new x pl e0 e1
 nx:=hx.nx
 size:=Nat.le_trans hx.size (by simp)
 xX:=fun B hB hn=>by
  have:=hx.size
  rw[dO (by omega)]; exact hx.xX B hB hn
 Cf:=hx.Cf
 tape:=hx.tape
 os:=hx.os
 output:=hx.output
 lo:=hx.lo
 DH:=hx.DH
 DI:=fun x o pl h1 h2 h3 h4 h5=>by
  have:=hx.size
  rw[dO (by omega)]; exact hx.DI x o pl h1 h2 h3 h4 h5
 dr:=hx.dr
 fz:=fun B h=>by
  have h1:=hx.fz B h
  rcases Nat.lt_trichotomy B w.heap.size with hl | hl | hl
  ·rw[dO hl]; exact h1
  ·subst hl
   have:(w.alloc O).heap[w.heap.size]? = some O:=by show (w.heap.push O)[w.heap.size]? = _; simp
   rw[this]; exact hO
  ·have:(w.alloc O).heap[B]? = none:=by show (w.heap.push O)[B]? = _; simp; omega
   rw[this]; trivial
theorem Ext.sV {φ0:di} {h0:Heap} {w0:World} (hx:Ext φ0 φ h0 h w0 w) (hlo:h.lo≤h.nx) (hn:h.nx≤h.nx) (o:bC):Ext φ0 φ h0 ⟨h.nx+1,h.bl.aW h.nx o,h.lo⟩ w0 w where
 sub:=hx.sub
 new:=hx.new
 nx:=Nat.le_trans hx.nx (Nat.le_succ _)
 size:=hx.size
 xX:=hx.xX
 Cf:=fun b hb hp=>by
  have:=hx.nx
  rw[←hx.Cf b hb hp]
  exact T.fo _ _ (by unfold Small; omega) (by unfold Small; omega) (by omega)
 tape:=hx.tape
 os:=hx.os
 output:=hx.output
 fz:=hx.fz
 lo:=hx.lo
 DI:=hx.DI
 dr:=hx.dr
 DH:=fun b hb=>by
  have:=hx.lo
  rw[←hx.DH b hb]
  exact T.fo _ _ (by unfold Small; omega) (by unfold Small; omega) (by omega)
theorem HR.fresh (hr:HR P φ h w) (hn:h.nx≤h.nx) {o:bC} {O:Obj} (sz e:Nat) (ho:OR P φ o ⟨w.heap.size,sz,e⟩ (some O)) (hl:o.live) :
  HR P (fL φ h.nx ⟨w.heap.size,sz,e⟩) ⟨h.nx+1,h.bl.aW h.nx o,h.lo⟩ (w.alloc O)∧Ext φ (fL φ h.nx ⟨w.heap.size,sz,e⟩) h ⟨h.nx+1,h.bl.aW h.nx o,h.lo⟩ w (w.alloc O):=by
 have hnone:φ h.nx=none:=by
  cases hp:φ h.nx with
  | none=>rfl
  | some pl=>have:=(hr.dom _ _ hp).1; omega
 exact ⟨(hr.sV hn o).zF (T.af _ _ _) hnone (Nat.lt_succ_self _) sz e ho,((Ext.refl φ h w).sV hr.lo hn o).zF hnone (Nat.le_refl _) O (oR ho hl) sz e⟩
def Names (mk:Nat→Value):Prop:=∀(φ:di) (b:Nat) (pl:Pl),φ b=some pl→VR φ (mk b) (mk pl.B)
theorem wK:Names ptrTo:=fun _ _ _ h=>.ptr h
theorem Fo:Names gH:=fun _ _ _ h=>.map h
theorem qX {n c:Nat} (h1:n≤c) (h2:c<aM):Names (sliceTo n c):=fun _ _ _ h=>.slice h h1 h2
theorem mg (zs:List Value) (n:Nat):(aO zs n).length=n*zs.length:=by
 induction n with
 | zero=>simp[aO]
 | succ n ih=>simp[aO,ih,Nat.succ_mul]; omega
theorem zH (zs:List Value) (n i:Nat) (hi:i<n*zs.length):(aO zs n)[i]? = zs[i % zs.length]?:=by
 induction n generalizing i with
 | zero=>omega
 | succ n ih=>
  rw[Nat.succ_mul] at hi
  simp only[aO]
  rcases Nat.lt_or_ge i zs.length with h1 | h1
  ·rw[List.getElem?_append_left h1,Nat.mod_eq_of_lt h1]
  ·rw[List.getElem?_append_right h1,ih _ (by omega)]
   congr 1
   exact (Nat.mod_eq_sub_mod h1).symm
theorem oU (z:Array Value) (n m:Nat) (hm:m=n*z.size):(Array.range m).map (fun i=>z[i % z.size]!)=(aO z.toList n).toArray:=by
 subst hm
 apply Array.ext'
 simp
 apply List.ext_getElem?
 intro i
 by_cases hi:i<n*z.size
 ·have h0:0<z.size:=by rcases Nat.eq_zero_or_pos z.size with h | h; · rw[h] at hi; omega
                       ·exact h
  have h1:i % z.size<z.size:=Nat.mod_lt _ h0
  rw[zH _ _ _ (by simpa using hi)]
  simp[hi,h1,getElem!_pos]
 ·rw[List.getElem?_eq_none (by simpa using hi),List.getElem?_eq_none (by rw[mg]; simpa using hi)]
theorem iq {zs:List Value} (hz:zs.all eW=true) (n:Nat):(aO zs n).all eW=true:=by
 induction n with
 | zero=>rfl
 | succ n ih=>simp only[aO,List.all_append,hz,ih,Bool.and_self]
theorem mW {z:List Value} {s:Nat} (h:Ou P t=some (z,s)):zeroOf P t=some z∧dY P t=some s∧z.length=s∧0<s:=by
 unfold Ou at h
 split at h<;>try (cases h; done)
 rename_i z' s' h1 h2
 split at h<;>try (cases h; done)
 rename_i hl
 cases h
 exact ⟨h1,h2,cu hl,Nat.succ_pos _⟩
theorem qY (hfl:¬good fl) {op:Op} {i:XA β} (hc:nN fl P op=some i) {tm:T Value} {ρ:Operand→Value} (hρ:∀y∈op.operands.toList,VR φ (dV tm y) (ρ y))
  {κ:bC→(Nat→Value)→β} (hg:good (i.run tm κ)) {o:Oper} (ho:o.op=op) :
  ∃ob mk O,good (κ ob mk)∧ob.live∧(∀pl,OR P φ ob pl (some O))∧Names mk∧(execOp ρ o).run P w=.ok (.value (mk w.heap.size)) (w.alloc O):=by
 have one:∀{vs vs':List Value} {e:TypeId} {mk:Nat→Value} ,F2 (VR φ) vs vs'→good (az fl vs e false fun o=>κ o mk)→Names mk→
   (∀O,O=Obj.cells vs'.toArray e (0,0)→(execOp ρ o).run P w=.ok (.value (mk w.heap.size)) (w.alloc O))→
   ∃ob mk O,good (κ ob mk)∧ob.live∧(∀pl,OR P φ ob pl (some O))∧Names mk∧(execOp ρ o).run P w=.ok (.value (mk w.heap.size)) (w.alloc O):=by
  intro vs vs' e mk hv hg hn hrun
  obtain ⟨h1,h2⟩:=me hfl hg
  refine ⟨_,mk,.cells vs'.toArray e (0,0),h2,trivial,fun pl=>?_,hn,hrun _ rfl⟩
  have:=GZ (P:=P) hv h1 e pl [] false (fun e=>by cases e)
  simpa using this
 cases op<;>simp only[nN] at hc<;>try (cases hc; done)
 case alloc e=>
  split at hc<;>try (cases hc; done)
  rename_i z hz
  cases hc; rw[XA.GQ] at hg
  obtain ⟨v,inf,hi,G0,rfl,hb⟩:=fH hz
  refine one (gu hb) hg wK fun O hO=>?_
  subst hO
  simp[execOp,ho,Instr.alloc,fT hi G0,newVar,newRow,ptrTo]
 case box e x=>
  cases hc; rw[XA.bO] at hg
  refine one (hρ x (by simp[Op.operands])).cells hg wK fun O hO=>?_
  subst hO
  simp[execOp,ho,Instr.box,newVar,newRow,ptrTo]
 case buildSlice t len parts=>
  split at hc<;>try (cases hc; done)
  rename_i e hu
  split at hc<;>try (cases hc; done)
  rename_i z s hz hlen
  split at hc<;>try (cases hc; done)
  rename_i ps hps hs
  cases hc; rw[XA.fP] at hg
  rw[List.map_map] at hg
  obtain ⟨DN,Cs,Oy,SY⟩:=mW hz
  obtain ⟨v,inf,hi,G0,hzl,hb⟩:=fH DN
  have hlen:=cz hlen
  have hs:=cz hs
  obtain ⟨r,r',g1,g2,g3⟩:=qU (φ:=φ) hfl tm ρ _ parts.toList ps hps (fun p zi=>hρ p.2 (by simp[Op.operands]; exact ⟨p.1,by simpa using zi⟩)) _ _ (gu (iq hb len)) _ hg
  refine one g2 g1 (qX (Nat.le_refl _) (by rw[iA]; omega)) fun O hO=>?_
  subst hO
  have h1:¬len*s > 2 ^ 24:=by
   have:len*s≤10000*1000:=Nat.mul_le_mul hlen hs
   omega
  have hsize:v.cells.size=s:=by rw[←Oy,hzl]; simp
  have h2:(if len*s=0 then (#[]:Array Value) else v.cells)=(if len*s=0 then #[] else v.cells):=rfl
  have h3:(Array.range (len*s)).map (fun i=>v.cells[i % v.cells.size]!)=(aO z len).toArray:=by
   rw[oU v.cells len (len*s) (by rw[hsize]),hzl]
  have Ow:Instr.fill (fun i=>some (i*s,s)) (aO z len).toArray (parts.toList.map fun p=>(p.1,ρ p.2))=some r'.toArray:=g3
  by_cases h0:len*s=0
  ·have hl0:len=0:=by rcases Nat.mul_eq_zero.1 h0 with h | h<;>omega
   subst hl0
   simp[aO] at Ow
   simp[execOp,ho,Instr.buildSlice,aD hu,bW Cs,Ow,newRow,sliceTo,Array.range_zero']
  ·simp[execOp,ho,Instr.buildSlice,aD hu,bW Cs,h1,h0,fT hi G0,h3,Ow,newRow,sliceTo]
 case makeMap t r=>
  have fin:good (κ (.map [] 0) gH)→(execOp ρ o).run P w=.ok (.value (gH w.heap.size)) (w.alloc (.map #[] 0))→
    ∃ob mk O,good (κ ob mk)∧ob.live∧(∀pl,OR P φ ob pl (some O))∧Names mk∧(execOp ρ o).run P w=.ok (.value (mk w.heap.size)) (w.alloc O):=
   fun g1 g2=>⟨_,gH,.map #[] 0,g1,trivial,fun pl=>⟨rfl,.nil⟩,Fo,g2⟩
  split at hc
  ·cases hc; rw[XA.GQ] at hg
   exact fin hg (by simp[execOp,ho,Instr.makeMap,gH])
  ·rename_i x
   split at hc<;>try (cases hc; done)
   rename_i hu
   cases hc; rw[XA.bO] at hg
   split at hg<;>try exact absurd hg hfl
   rename_i k n hx
   have hv:=hρ x (by simp[Op.operands])
   rw[hx] at hv
   generalize hy:ρ x=y at hv
   cases hv
   exact fin hg (by simp[execOp,ho,Instr.makeMap,gH,aD hu,hy,asInt,asIntOf])
 case makeSlice t l c=>
  split at hc<;>try (cases hc; done)
  rename_i e hu
  split at hc<;>try (cases hc; done)
  rename_i z s inf hz hi
  split at hc<;>try (cases hc; done)
  rename_i hbytes
  have hbytes:=cz hbytes
  cases hc; rw[XA.cG] at hg
  split at hg<;>try exact absurd hg hfl
  rename_i k1 l' k2 c' hl DO
  split at hg<;>try exact absurd hg hfl
  rename_i hle Oz
  have hle:=cz hle
  have Oz:=cz Oz
  have XU:=hρ l (by simp[Op.operands])
  have OA:=hρ c (by simp[Op.operands])
  rw[hl] at XU
  rw[DO] at OA
  generalize hy1:ρ l=y1 at XU
  generalize hy2:ρ c=y2 at OA
  cases XU; cases OA
  obtain ⟨DN,Cs,Oy,SY⟩:=mW hz
  obtain ⟨v,OB,hi',G0,hzl,hb⟩:=fH DN
  rw[hi] at hi'; cases hi'
  refine one (gu (iq hb c')) hg (qX hle (by rw[iA]; omega)) fun O hO=>?_
  subst hO
  have w1:IntKind.i64.wrap (l':Int)=l':=IntWalk.i64_in _ ⟨by omega,by omega⟩
  have w2:IntKind.i64.wrap (c':Int)=c':=IntWalk.i64_in _ ⟨by omega,by omega⟩
  have hbc:(inf.bytes:Int)*(c':Int)≤2 ^ 48:=by
   have:inf.bytes*c'≤1000000*1000000:=Nat.mul_le_mul hbytes Oz
   have h2:(inf.bytes:Int)*(c':Int)=((inf.bytes*c':Nat):Int):=by simp
   rw[h2]
   omega
  have hsize:v.cells.size=s:=by rw[←Oy,hzl]; simp
  have c1:decide ((c':Int)<0)=false:=decide_eq_false (by omega)
  have c2:decide ((inf.bytes:Int)*(c':Int) > 2 ^ 48)=false:=decide_eq_false (by omega)
  have c3:¬((l':Int)<0):=by omega
  have c4:¬((l':Int) > (c':Int)):=by omega
  have h3:(Array.range (c'*s)).map (fun i=>v.cells[i % v.cells.size]!)=(aO z c').toArray:=by
   rw[oU v.cells c' (c'*s) (by rw[hsize]),hzl]
  have hA:(asInt (.int k1 (l':Int))).run P w=.ok (l':Int) w:=by simp[asInt,asIntOf]
  have hB:(asInt (.int k2 (c':Int))).run P w=.ok (c':Int) w:=by simp[asInt,asIntOf]
  have hrun:(Instr.makeSlice t (.int k1 (l':Int)) (.int k2 (c':Int))).run P w=.ok (sliceTo l' c' w.heap.size) (w.alloc (.cells (aO z c').toArray e (0,0))):=by
   unfold Instr.makeSlice
   simp only[Sem.run_bind,aD hu,Result.andThen_ok,hA,hB,l9 hi,w1,w2]
   simp only[c1,c2,Bool.or_self,c3,c4]
   by_cases h0:c'*s=0
   ·have hc0:c'=0:=by rcases Nat.mul_eq_zero.1 h0 with h | h<;>omega
    subst hc0
    simp[bW Cs,newRow,sliceTo,aO,Array.range_zero']
   ·have h3':(Array.range (c'*s)).map (fun i=>v.cells[i % v.cells.size]!)=(aO z c').toArray:=h3
    simp[bW Cs,h0,fT hi G0,h3',newRow,sliceTo]
  simp only[execOp,ho,hy1,hy2]
  exact gW hrun
theorem iC (hfl:¬good fl) (n:Nat):∀(vs:List Value) (c:T Value) (off:Nat) (κ:T Value→β),good (jY fl n vs c off κ)→
  (∀v∈vs,dR v=true)∧(vs≠[]→off+vs.length≤n)∧good (κ (lay vs c off)):=by
 intro vs
 induction vs with
 | nil=>intro c off κ hg; exact ⟨fun v hv=>(by cases hv),fun hh=>absurd rfl hh,hg⟩
 | cons v vs ih=>
  intro c off κ hg
  have hg':good (Bool.rec (motive:=fun _=>β) fl (Bool.rec (motive:=fun _=>β) fl (T.set c off v fun c=>jY fl n vs c (Nat.succ off) κ) (Nat.ble (Nat.succ off) n)) (dR v)):=hg
  cases h1:dR v with
  | false=>rw[h1] at hg'; exact absurd hg' hfl
  | true=>
   rw[h1] at hg'
   cases h2:Nat.ble (Nat.succ off) n with
   | false=>rw[h2] at hg'; exact absurd hg' hfl
   | true=>
    rw[h2] at hg'
    simp only[T.eT] at hg'
    obtain ⟨g1,g2,g3⟩:=ih _ _ _ hg'
    refine ⟨fun u hu=>?_,fun _=>?_,g3⟩
    ·simp at hu; rcases hu with rfl | hu
     ·exact h1
     ·exact g1 u hu
    ·have:=cz h2
     cases vs with
     | nil=>simp; omega
     | cons x vs=>have:=g2 (by simp); simp at this ⊢; omega
theorem DP {v v':Value} (h1:dR v=true) (hv:VR φ v v'):v'.oneCell'=true:=by
 cases hv<;>first | rfl | (simp[dR] at h1)
theorem HR.rowAt (hr:HR P φ h w) {b n e:Nat} {c:T Value} {op:Bool} {pl:Pl} (hb:h.bl.get b=some (.cells n c e op)) (hp:φ b=some pl) :
  ∃C,w.heap[pl.B]? = some (.cells C e (0,0))∧n≤C.size∧n≤4611686018427387904∧(op=true→C.size=pl.sz∧dY P e=some pl.e∧0<pl.e)∧∀i v,c.get i=some v→i<n→∃v',C[i]? = some v'∧VR φ v v':=by
 have:=hr.obj b _ pl hb hp
 cases hO:w.heap[pl.B]? with
 | none=>rw[hO] at this; exact this.elim
 | some O=>
  rw[hO] at this
  cases O<;>simp only[OR] at this<;>try exact this.elim
  obtain ⟨rfl,rfl,h3,h4,h5,h6⟩:=this
  exact ⟨_,rfl,h3,h4,h5,h6⟩
theorem zI (hr:HR P φ h w) {b:Nat} (hb:b≤h.nx):Small b:=by have:=hr.KJ; unfold Small; omega
theorem HR.zJ (hr:HR P φ h w) {b:Nat} (hlo:h.lo≤b) {o:bC} {pl:Pl} (hp:φ b=some pl) (SZ:∃q,h.bl.get b=some q∧q.live) {w':World}
  (hsz:w'.heap.size=w.heap.size) (zK:∀k,k≠pl.B→w'.heap[k]? = w.heap[k]?)
  (ho:OR P φ o pl w'.heap[pl.B]?) (ht:w'.tape=w.tape) (hos:w'.os=w.os) (hout:w'.output=w.output) (hu:o.live∨(UF w.heap[pl.B]?→UF w'.heap[pl.B]?)) (Kk:w.drawn≤w'.drawn:=by exact Nat.le_refl _) :
  HR P φ ⟨h.nx,h.bl.aW b o,h.lo⟩ w'∧Ext φ φ h ⟨h.nx,h.bl.aW b o,h.lo⟩ w w':=by
 have zG:=(hr.dom b pl hp).1
 have KO:Small b:=zI hr (Nat.le_of_lt zG)
 have fQ:∀x,x<h.nx→x≠b→(h.bl.aW b o).get x=h.bl.get x:=fun x hx M4=>T.fo _ _ KO (zI hr (Nat.le_of_lt hx)) (Ne.symm M4)
 obtain ⟨q,hq1,zL⟩:=SZ
 constructor
 ·refine ⟨?_,?_,?_,hr.KJ,?_,hr.lo⟩
  ·intro x o' jC hx yb
   by_cases M4:x=b
   ·subst M4
    rw[hp] at yb; cases yb
    rw[T.af] at hx; cases hx
    exact ho
   ·have M5:=(hr.dom x jC yb).1
    have hx':h.bl.get x=some o':=(fQ x M5 M4)▸hx
    by_cases hB:jC.B=pl.B
    ·
     have hd:¬o'.live:=fun hl=>M4 (hr.inj x b o' q jC pl hx' hq1 hl zL yb hp hB)
     have h1:=hr.obj x o' jC hx' yb
     cases o' with
     | dead n e=>
      have h2:n≤jC.sz∧n≤4611686018427387904∧dY P e=some jC.e∧0<jC.e:=by
       cases hO:w.heap[jC.B]? with
       | none=>rw[hO] at h1; exact h1
       | some O=>rw[hO] at h1; cases O<;>exact h1
      cases w'.heap[jC.B]? with
      | none=>exact h2
      | some O=>cases O<;>exact h2
     | cells=>exact absurd trivial hd
     | map=>exact absurd trivial hd
     | dz=>exact absurd trivial hd
     | MZ=>exact absurd trivial hd
     | loop=>exact absurd trivial hd
     | ro=>exact absurd trivial hd
    ·rw[zK _ hB]; exact hr.obj x o' jC hx' yb
  ·intro x jC yb; have:=hr.dom x jC yb; exact ⟨this.1,by rw[hsz]; exact this.2⟩
  ·intro x o' S0 hx
   show x<h.nx
   rw[T.jL _ _ KO S0] at hx
   split at hx
   ·rename_i he; subst he; exact zG
   ·exact hr.keys x o' S0 hx
  ·intro x x' o1 o2 XV XW g1 g2 l1 l2 p1 p2 e
   have n1:=(hr.dom x XV p1).1
   have n2:=(hr.dom x' XW p2).1
   have key:∀y oy py,y<h.nx→(h.bl.aW b o).get y=some oy→oy.live→φ y=some py→∃o',h.bl.get y=some o'∧o'.live:=by
    intro y oy py hy gy ly _
    by_cases hyb:y=b
    ·subst hyb; exact ⟨q,hq1,zL⟩
    ·exact ⟨oy,(fQ y hy hyb)▸gy,ly⟩
   obtain ⟨q1,a1,b1⟩:=key x o1 XV n1 g1 l1 p1
   obtain ⟨q2,a2,b2⟩:=key x' o2 XW n2 g2 l2 p2
   exact hr.inj x x' q1 q2 XV XW a1 a2 b1 b2 p1 p2 e
 ·refine ⟨Sub.refl φ,fun b pl a b'=>(by rw[a] at b'; cases b'),Nat.le_refl _,by rw[hsz]; exact Nat.le_refl _,?_,?_,ht,hos,hout,?_,rfl,fun x hx=>fQ x (Nat.lt_of_lt_of_le hx hr.lo) (by omega),fun x o jC h1 h2 h3 h4 h5=>zK jC.B fun e=>absurd (hr.inj x b o q jC pl h2 hq1 h3 zL h4 hp e) (by omega),Kk⟩
  ·intro B _ hn; exact zK B fun e=>hn b pl hp e.symm
  ·intro x hx hn
   exact fQ x hx fun e=>by subst e; rw[hp] at hn; cases hn
  ·intro B hB
   by_cases he:B=pl.B
   ·subst he
    rcases hu with hu | hu
    ·exact oR ho hu
    ·exact hu hB
   ·rw[zK B he]; exact hB
theorem HR.storeAt (hr:HR P φ h w) {b n e off:Nat} (hlo:h.lo≤b) {c:T Value} {op:Bool} {pl:Pl} (hb:h.bl.get b=some (.cells n c e op)) (hp:φ b=some pl) {vs vs':List Value} (hv:F2 (VR φ) vs vs')
  (h1:∀v∈vs,dR v=true) (h2:vs≠[]→off+vs.length≤n) :
  ∃w',(storeCells ⟨pl.B,off,none⟩ vs').run P w=.ok () w'∧HR P φ ⟨h.nx,h.bl.aW b (.cells n (lay vs c off) e op),h.lo⟩ w'∧Ext φ φ h ⟨h.nx,h.bl.aW b (.cells n (lay vs c off) e op),h.lo⟩ w w':=by
 obtain ⟨C,hC,yc,hn2,hop,hcell⟩:=hr.rowAt hb hp
 have hlen:=hv.length
 have hone:∀v'∈vs',v'.oneCell'=true:=by
  intro v' rV
  obtain ⟨i,hi⟩:=List.getElem?_of_mem rV
  have hi':i<vs'.length:=(List.getElem?_eq_some_iff.1 hi).1
  have:∃v,vs[i]? = some v:=⟨vs[i]'(by omega),List.getElem?_eq_getElem (by omega)⟩
  obtain ⟨v,hvi⟩:=this
  obtain ⟨u,G1,OC⟩:=hv.get i v hvi
  rw[hi] at G1; cases G1
  exact DP (h1 v (List.mem_of_getElem? hvi)) OC
 cases hvs:vs with
 | nil=>
  subst hvs
  cases hv
  refine ⟨w,by simp[storeCells],?_⟩
  have:=hr.zJ hlo (o:=.cells n (lay [] c off) e op) hp ⟨_,hb,trivial⟩ (w':=w) rfl (fun _ _=>rfl) (by rw[hC]; exact ⟨rfl,rfl,yc,hn2,hop,hcell⟩) rfl rfl rfl (.inl trivial)
  exact this
 | cons v0 vs0=>
  have hne:vs≠[]:=by rw[hvs]; simp
  have hle:=h2 hne
  rw[←hvs]
  have hrun:=run_storeCells_at P pl.B off e vs' 0 C w hC (by simp; omega) hone
  simp only[Nat.add_zero] at hrun
  refine ⟨_,hrun,?_⟩
  refine hr.zJ hlo hp ⟨_,hb,trivial⟩ (setRow_size _ _ _) (fun k hk=>setRow_other _ _ _ _ hk) ?_ rfl rfl rfl (.inl trivial)
  rw[setRow_heap w pl.B C _ e _ hC]
  refine ⟨rfl,rfl,by simp; omega,hn2,fun h=>?_,?_⟩
  ·obtain ⟨k1,k2,k3⟩:=hop h
   refine ⟨?_,k2,k3⟩
   simp
   omega
  ·intro i v iB hi
   rw[oT vs c off (by omega) i (zD (Nat.le_of_lt hi) hn2)] at iB
   split at iB
   ·rename_i hin
    obtain ⟨v',g1,g2⟩:=hv.get _ v iB
    refine ⟨v',?_,g2⟩
    simp only[List.getElem?_toArray,List.append_assoc]
    rw[List.getElem?_append_right (by simp; omega),List.getElem?_append_left (by simp; omega)]
    rw[←g1]; congr 1; simp; omega
   ·rename_i adi
    obtain ⟨v',g1,g2⟩:=hcell i v iB hi
    refine ⟨v',?_,g2⟩
    simp only[List.getElem?_toArray,List.append_assoc]
    rcases Nat.lt_or_ge i off with hlt | hge
    ·rw[List.getElem?_append_left (by simp; omega),List.getElem?_take_of_lt hlt]; simpa using g1
    ·rw[List.getElem?_append_right (by simp; omega),List.getElem?_append_right (by simp; omega),List.getElem?_drop]
     have:off+vs'.length+(i-(List.take off C.toList).length-vs'.length)=i:=by simp; omega
     rw[this]; simpa using g1
end Go.Vai

namespace Go.Vai
open Go
variable {β:Type} {fl:β} {good:β→Prop} {P:Program} {φ:di} {h:Heap} {w:World} {t:TypeId}
def OD (nx:Next) (v:Value):Prop:=nx=.value v∨(nx=.skip∧v=undef)
def KP (good:β→Prop) (P:Program) (φ:di) (h:Heap) (w:World) (κ:Value→Heap→β) (r:Result Next):Prop:=
 ∃φ' v v' h' w' nx,good (κ v h')∧VR φ' v v'∧HR P φ' h' w'∧Ext φ φ' h h' w w'∧r=.ok nx w'∧OD nx v'
theorem br (hfl:¬good fl) {b:Nat} {o:bC} {κ:Heap→β} (hg:good (setBlock fl b o h κ)):h.lo≤b∧good (κ ⟨h.nx,h.bl.aW b o,h.lo⟩):=by
 unfold setBlock at hg
 split at hg
 ·rename_i hle
  rw[T.eT] at hg
  exact ⟨cz hle,hg⟩
 ·exact absurd hg hfl
theorem yd (hfl:¬good fl) {s:Nat} (hs:dY P t=some s) (hr:HR P φ h w) {a a' x x':Value} {κ:Value→Heap→β} (hg:good (aL fl s a x h κ)) (ha:VR φ a a') (hx:VR φ x x') :
  ∃h' w',good (κ undef h')∧HR P φ h' w'∧Ext φ φ h h' w w'∧(Instr.storeAt t a' x').run P w=.ok () w':=by
 unfold aL at hg
 split at hg<;>try exact absurd hg hfl
 cases ha with
 | ptr hp=>
  split at hg<;>try exact absurd hg hfl
  rename_i n c e op hb
  split at hg<;>try exact absurd hg hfl
  rename_i hl; have hl:=cu hl
  obtain ⟨g1,g2,g3⟩:=iC hfl _ _ _ _ _ hg
  obtain ⟨hlo,g3⟩:=br hfl g3
  obtain ⟨w',k1,k2,k3⟩:=hr.storeAt hlo hb hp hx.cells g1 g2
  refine ⟨_,w',g3,k2,k3,?_⟩
  have hsz:x'.cells.size=s:=by have:=hx.cells.length; simp at this hl; omega
  simp[Instr.storeAt,Instr.sureAddr,storeVar,bW hs,hsz,k1]
theorem mh (x:MapEntry) (es:List MapEntry) (κ:List MapEntry→β):zu x es κ=κ (es++[x]):=by
 induction es generalizing κ with
 | nil=>rfl
 | cons e es ih=>simp only[zu,ih,List.cons_append]
theorem oV (f:MapEntry→MapEntry):∀(i:Nat) (es:List MapEntry) (κ:List MapEntry→β),setAt f i es κ=κ (es.modify i f):=by
 intro i es
 induction es generalizing i with
 | nil=>intro κ; cases i<;>simp[setAt]
 | cons e es ih=>intro κ; cases i<;>simp[setAt,ih]
theorem sX:∀(i:Nat) (es:List MapEntry) (κ:List MapEntry→β),wB i es κ=κ (es.eraseIdx i):=by
 intro i es
 induction es generalizing i with
 | nil=>intro κ; cases i<;>simp[wB]
 | cons e es ih=>intro κ; cases i<;>simp[wB,ih]
theorem HR.sY (hr:HR P φ h w) {b clock clock':Nat} (hlo:h.lo≤b) {es S1:List MapEntry} {Ct:Array MapEntry} {pl:Pl} (hb:h.bl.get b=some (.map es clock)) (hp:φ b=some pl)
  (h1:F2 (ER φ) S1 Ct.toList) :
  ∃w',(setObj pl.B (.map Ct clock')).run P w=.ok () w'∧HR P φ ⟨h.nx,h.bl.aW b (.map S1 clock'),h.lo⟩ w'∧Ext φ φ h ⟨h.nx,h.bl.aW b (.map S1 clock'),h.lo⟩ w w':=by
 obtain ⟨es',hO,h2⟩:=hr.nP hb hp
 have hlt:pl.B<w.heap.size:=(hr.dom b pl hp).2
 refine ⟨{ w with heap:=w.heap.setIfInBounds pl.B (.map Ct clock') },by simp[setObj,Sem.run,hO],?_⟩
 refine hr.zJ hlo hp ⟨_,hb,trivial⟩ (by simp) (fun k hk=>?_) ?_ rfl rfl rfl (.inl trivial)
 ·show (w.heap.setIfInBounds pl.B (.map Ct clock'))[k]? = _
  exact Array.getElem?_setIfInBounds_ne (Ne.symm hk)
 ·show OR P φ _ pl ((w.heap.setIfInBounds pl.B (.map Ct clock'))[pl.B]?)
  rw[Array.getElem?_setIfInBounds_self_of_lt hlt]
  exact ⟨rfl,h1⟩
theorem F2.modify {α γ:Type} {R:α→γ→Prop} {f:α→α} {g:γ→γ} {l:List α} {m:List γ} (hl:F2 R l m) (hfg:∀a b,R a b→R (f a) (g b)) (i:Nat):F2 R (l.modify i f) (m.modify i g):=by
 induction hl generalizing i with
 | nil=>simp; exact .nil
 | cons hr ht ih=>cases i with
  | zero=>simp; exact .cons (hfg _ _ hr) ht
  | succ i=>simp; exact .cons hr (ih i)
theorem F2.eraseIdx {α γ:Type} {R:α→γ→Prop} {l:List α} {m:List γ} (hl:F2 R l m) (i:Nat):F2 R (l.eraseIdx i) (m.eraseIdx i):=by
 induction hl generalizing i with
 | nil=>simp; exact .nil
 | cons hr ht ih=>cases i with
  | zero=>simpa using ht
  | succ i=>simp; exact .cons hr (ih i)
theorem vQ {a:Value} (hs:kq a=true):Instr.sameBits 10000 a a=true:=by
 have one:∀{n:Nat} {v:Value},iu v=true→Instr.sameBits n v v=true:=by
  intro n v hv
  cases v<;>simp[iu] at hv<;>simp[Instr.sameBits,KK]
 cases a
 case agg cs=>
  simp only[kq] at hs
  simp only[Instr.sameBits,beq_self_eq_true,Bool.true_and]
  generalize cs.toList=l at hs
  induction l with
  | nil=>simp
  | cons v l ih=>simp only[List.all_cons,Bool.and_eq_true] at hs; simp[one hs.1]; simpa using ih hs.2
 all_goals exact one hs
theorem rY {f:Value→Value→Bool} (hf:∀a b,f a b=true→a=b):∀(l m:List Value),sD f l m=true→l=m:=by
 intro l
 induction l with
 | nil=>intro m hm; cases m<;>simp[sD] at hm; rfl
 | cons x l ih=>intro m hm; cases m with
  | nil=>simp[sD] at hm
  | cons y m=>simp only[sD,Bool.and_eq_true] at hm; rw[hf _ _ hm.1,ih _ hm.2]
theorem Cu:∀(n:Nat) (a b:Value),jD n a b=true→a=b:=by
 intro n
 induction n with
 | zero=>intro a b hv; simp[jD] at hv
 | succ n ih=>
  intro a b hv
  simp only[jD] at hv
  split at hv<;>try (cases hv; done)
  ·simp at hv; rw[hv]
  ·simp[eN,eX] at hv; rw[hv.1,hv.2]
  ·simp[iy] at hv; rw[hv]
  ·rfl
  ·simp only[Bool.and_eq_true] at hv; rw[cu hv.1,cu hv.2]
  ·simp only[Bool.and_eq_true] at hv; rw[cu hv.1,cu hv.2]
  ·simp only[Bool.and_eq_true] at hv; obtain ⟨⟨⟨h1,h2⟩,h3⟩,h4⟩:=hv; rw[cu h1,cu h2,cu h3,cu h4]
  ·rfl
  ·rw[cu hv]
  ·rfl
  ·rfl
  ·simp only[Bool.and_eq_true] at hv; rw[cu hv.1,ih _ _ hv.2]
  ·congr 1; exact Array.ext' (rY ih _ _ hv)
  ·congr 1; exact Array.ext' (rY ih _ _ hv)
  ·simp only[Bool.and_eq_true] at hv; obtain ⟨⟨h1,h2⟩,h3⟩:=hv
   rw[cu h1,Array.ext' (rY ih _ _ h2),Array.ext' (rY ih _ _ h3)]
theorem kG (hfl:¬good fl) {kt et:TypeId} (hu:P.underlying t=some (.map kt et)) (hr:HR P φ h w) {m m' k k' x x':Value} {κ:Value→Heap→β}
  (hg:good (bX fl P kt m k x h κ)) (hm:VR φ m m') (hk:VR φ k k') (hx:VR φ x x') :
  ∃h' w',good (κ undef h')∧HR P φ h' w'∧Ext φ φ h h' w w'∧(Instr.mapUpdate t m' k' x').run P w=.ok () w':=by
 unfold bX at hg
 split at hg<;>try exact absurd hg hfl
 rename_i GY
 have hsc:=oe GY
 have hkk:=rW hsc hk
 subst hkk
 have zh:∀em,(Instr.checkKey em 10000 kt k').run P w=.ok () w:=fun em=>jl 20 10000 (by omega) kt k' em GY
 obtain ⟨u,KM⟩:=qk GY
 split at hg<;>try exact absurd hg hfl
 cases hm with
 | map hp=>
  rename_i pl
  split at hg<;>try exact absurd hg hfl
  rename_i es clock hb
  obtain ⟨es',hO,h2⟩:=hr.nP hb hp
  split at hg
  ·rename_i i e hf
   split at hg<;>try exact absurd hg hfl
   rename_i hes
   rw[oV] at hg
   obtain ⟨hlo,hg⟩:=br hfl hg
   obtain ⟨r',g3,g4⟩:=dw hr hk es es'.toList 0 _ h2 hf
   cases r' with
   | none=>exact g4.elim
   | some p=>
    obtain ⟨i',v'⟩:=p
    obtain ⟨rfl,_,g6,_,_⟩:=g4
    simp only[Nat.sub_zero] at g6
    obtain ⟨e',zj,XX⟩:=h2.get _ _ g6
    have hke:=Cu 3 _ _ hes
    have hkey:e'.key=k':=by
     have h3:=XX.key
     rw[←hke] at h3
     exact rW hsc h3
    have hsame:(Instr.keyThatStays (((es'[i']?).map (·.key)).getD k') k').run P w=.ok k' w:=by
     have:es'[i']? = some e':=by simpa using zj
     simp[Instr.keyThatStays,this,hkey,vQ hsc]
    have hnew:F2 (ER φ) (es.modify i' fun e=>{ e with key:=k',val:=x }) (es'.modify i' fun e=>{ e with key:=k',val:=x' }).toList:=by
     rw[Array.toList_modify]
     exact h2.modify (f:=fun e=>{ e with key:=k',val:=x }) (g:=fun e=>{ e with key:=k',val:=x' }) (fun a b hab=>⟨hk,hx,hab.born⟩) i'
    obtain ⟨w',k1,k2,k3⟩:=hr.sY hlo (clock':=clock) hb hp hnew
    refine ⟨_,w',hg,k2,k3,?_⟩
    simp[Instr.mapUpdate,aD hu,cM hO,zh,fu KM g3,hsame,k1]
  ·rename_i hf
   rw[mh,bG] at hg
   obtain ⟨hlo,hg⟩:=br hfl hg
   obtain ⟨r',g3,g4⟩:=dw hr hk es es'.toList 0 _ h2 hf
   cases r' with
   | some p=>exact g4.elim
   | none=>
    have hnew:F2 (ER φ) (es++[{ key:=k',val:=x,born:=clock }]) (es'.push { key:=k',val:=x',born:=clock }).toList:=by
     rw[Array.toList_push]
     exact h2.append (.cons ⟨hk,hx,rfl⟩ .nil)
    obtain ⟨w',k1,k2,k3⟩:=hr.sY hlo (clock':=clock+1) hb hp hnew
    refine ⟨_,w',hg,k2,k3,?_⟩
    simp[Instr.mapUpdate,aD hu,cM hO,zh,fu KM g3,k1]
  ·exact absurd hg hfl
end Go.Vai
