/-
  PROVED HERE: a part of the proof (VaiX, VaiR, VaiS1, VaiS2, VaiS3, VaiS4, VaiS5).
-/
import GoSem.Dispatch
import GoSem.Machine.Exec
import Derived.Calls
import Derived.IntWalk
import Derived.Laws.Cells
import Derived.Laws.CopyRow
import Derived.Laws.StructEq
import Derived.Laws.World
import Derived.Laws.Small
set_option linter.unusedVariables false
set_option linter.unusedSimpArgs false
noncomputable section
namespace Go.Vai
theorem XV{p : Prop}(h : p := by omega):p := h
theorem X0{p : Prop}(h : p := by decide):p := h
inductive T(α:Type) where
 |nil:T α
 |node (l:T α) (v:Option α) (r:T α):T α
def SU(f:Nat):Nat->List Bool:=
 Nat.rec (motive:=λ_=>Nat->List Bool) (λ_=>[])
  (λ_ ih n=>Bool.rec (motive:=λ_=>List Bool) (Nat.beq (Nat.mod n 2) 1::ih (Nat.div (Nat.sub n 1) 2)) [] (Nat.beq n 0)) f
def key(n:Nat):List Bool:=SU n n
def T.Mo{α:Type}(p:List Bool):T α->Option α:=
 List.rec (motive:=λ_=>T α->Option α) (λt=>T.rec (motive:=λ_=>Option α) none (λ_ v _ _ _=>v) t)
  (λb _ ih t=>T.rec (motive:=λ_=>Option α) none (λl _ r _ _=>Bool.rec (motive:=λ_=>Option α) (ih l) (ih r) b) t) p
def T.aco{α β:Type}(a:α)(p:List Bool):T α->(T α->β)->β:=
 List.rec (motive:=λ_=>T α->(T α->β)->β)
  (λt Y=>T.rec (motive:=λ_=>β) (Y (.node .nil (some a) .nil)) (λl _ r _ _=>Y (.node l (some a) r)) t)
  (λb _ ih t Y=>T.rec (motive:=λ_=>β)
   (Bool.rec (motive:=λ_=>β) (ih .nil λl=>Y (.node l none .nil)) (ih .nil λr=>Y (.node .nil none r)) b)
   (λl v r _ _=>Bool.rec (motive:=λ_=>β) (ih l λl=>Y (.node l v r)) (ih r λr=>Y (.node l v r)) b) t) p
def T.get{α:Type}(t:T α)(n:Nat):Option α:=T.Mo (key n) t
def T.set{α β:Type}(t:T α)(n:Nat)(a:α)(Y:T α->β):β:=T.aco a (key n) t Y
inductive Ex where
 |normal|exit (id:Nat)|ret
inductive bT where
 |cells (n:Nat) (c:T Value) (elem:TypeId) (Sz:Bool)
 |map (es:List MapEntry) (clock:Nat)
 |fc (m:Option Nat) (since:Nat) (seen:List Nat) (stepped:Nat)
 |Vu (s:ByteArray) (pos:Nat)
 |dead (n:Nat) (elem:TypeId)
 |ro (n:Nat) (c:T Value) (elem:TypeId)
 |loop (st:LoopState) (lM:Option Ex) (tm:T Value) (ps:List Nat) (a b:Code)
structure ah where
 nx:Nat
 bl:T bT
 lo:Nat
def aS:Nat:=1267650600228229401496703205376
def fT:Nat:=1267650600228229401496703205377
def gH:Nat:=1267650600228229401496703205378
section
variable {β:Type}
def vQ(n:Nat)(Y:Nat->β):β:=Nat.rec (motive:=λ_=>β) (Y 0) (λm _=>Y (Nat.succ m)) n
def Iz(i:Int)(Y:Int->β):β:=Int.rec (motive:=λ_=>β) (λn=>vQ n λn=>Y (.ofNat n)) (λn=>vQ n λn=>Y (.negSucc n)) i
def Ki(b:Bool)(Y:Bool->β):β:=Bool.rec (motive:=λ_=>β) (Y false) (Y true) b
def wM:Int->Int->Bool
 | .ofNat a,.ofNat b=>Nat.ble (Nat.succ a) b
 | .ofNat _,.negSucc _=>false
 | .negSucc _,.ofNat _=>true
 | .negSucc a,.negSucc b=>Nat.ble (Nat.succ b) a
def nY:Int->Int->Bool
 | .ofNat a,.ofNat b=>Nat.beq a b
 | .negSucc a,.negSucc b=>Nat.beq a b
 |_,_=>false
def fU:IntKind->IntKind->Bool
 | .i8,.i8 | .i16,.i16 | .i32,.i32 | .i64,.i64 | .u8,.u8 | .u16,.u16 | .u32,.u32 | .u64,.u64=>true
 |_,_=>false
def nZ(k:IntKind)(n:Int):Int:=
 match k,n with
 | .i64,.ofNat m=>match Nat.ble m 9223372036854775807 with|true=>.ofNat m|false=>k.wrap n
 | .i64,.negSucc m=>match Nat.ble m 9223372036854775807 with|true=>.negSucc m|false=>k.wrap n
 | .u8,.ofNat m=>.ofNat (Nat.mod m 256)
 | .u32,.ofNat m=>.ofNat (Nat.mod m 4294967296)
 | .u64,.ofNat m=>.ofNat (Nat.mod m 18446744073709551616)
 |_,_=>k.wrap n
def rK:List UInt8->List UInt8->Bool
 | [],[]=>true
 |a::x,b::y=>match Nat.beq a.toNat b.toNat with|true=>rK x y|false=>false
 |_,_=>false
def lP(a b:ByteArray):Bool:=rK a.data.toList b.data.toList
def xL(f:Value->Value->Bool):List Value->List Value->Bool
 | [],[]=>true
 |x::xs,y::ys=>f x y && xL f xs ys
 |_,_=>false
def je:Nat->Value->Value->Bool
 |0,_,_=>false
 |n+1,a,b=>match a,b with
  | .bool a,.bool b=>a == b
  | .int k a,.int k' b=>fU k k' && nY a b
  | .string a,.string b=>lP a b
  | .pointer none,.pointer none=>true
  | .pointer (some ⟨b,o,none⟩),.pointer (some ⟨b',o',none⟩)=>Nat.beq b b' && Nat.beq o o'
  | .slice none n c,.slice none n' c'=>Nat.beq n n' && Nat.beq c c'
  | .slice (some ⟨b,o,none⟩) n c,.slice (some ⟨b',o',none⟩) n' c'=>Nat.beq b b' && Nat.beq o o' && Nat.beq n n' && Nat.beq c c'
  | .map none,.map none=>true
  | .map (some b),.map (some b')=>Nat.beq b b'
  | .nilFunc,.nilFunc=>true
  | .nilIface,.nilIface=>true
  | .iface t x,.iface t' x'=>Nat.beq t t' && je n x x'
  | .agg x,.agg y=>xL (je n) x.toList y.toList
  | .tuple x,.tuple y=>xL (je n) x.toList y.toList
  | .func (.func f) a b,.func (.func g) c d=>Nat.beq f g && xL (je n) a.toList c.toList && xL (je n) b.toList d.toList
  |_,_=>false
def cZ(tm:T Value)(t:Nat):Value:=match tm.get t with|some v=>v|none=>undef
def fQ(tm:T Value):Operand->Value
 | .tmp t=>cZ tm t
 | .const v=>v
 | .func f=>.func (.func f) #[] #[]
 | .global _=>undef
def ev(tm:T Value)(x:Operand)(Y:Value->β):β:=
 match x with
 | .tmp t=>match tm.get t with|some v=>Y v|none=>Y undef
 | .const v=>Y v
 | .func f=>Y (.func (.func f) #[] #[])
 | .global _=>Y undef
def NW(tm:T Value):List Operand->(List Value->β)->β
 | [],Y=>Y []
 |x::xs,Y=>ev tm x λv=>NW tm xs λvs=>Y (v::vs)
def ij:Value->Bool
 | .bool _ | .int .. | .string _ | .nilFunc | .nilIface | .pointer none | .map none=>true
 | .slice none n c=>Nat.ble n c
 |_=>false
def qq:Value->Bool
 | .agg cs | .tuple cs=>cs.toList.all ij
 | .iface _ v=>ij v
 |v=>ij v
def ki:Value->Bool
 | .bool _ | .int .. | .string _=>true
 |_=>false
def n_:Value->Bool
 | .agg cs=>cs.toList.all ki
 |v=>ki v
def fV(P:Program)(t:TypeId):Option Nat:=(P.info? t).map (·.size)
def zeroOf(P:Program)(t:TypeId):Option (List Value):=(P.info? t).bind λi=>i.zero.bind λz=>match z.cells.toList.all ij with
 |true=>some z.cells.toList
 |false=>none
def W5(P:Program)(t:TypeId):Option (List Value × Nat):=match zeroOf P t,fV P t with
 |some z,some (s+1)=>match Nat.beq z.length (s+1)with|true=>some (z,s+1)|false=>none
 |_,_=>none
def sR:TypeDesc->Bool
 | .int _=>true
 |_=>false
def oa(P:Program)(t:TypeId):Option Bool:=match P.underlying t with
 |some (.struct _)|some (.array _ _)=>some true
 |some _=>some false
 |none=>none
variable (fl:β)
def Az(P:Program)(rec:TypeId->Value->Value->Option Bool):List Field->List Value->List Value->Option Bool
 | [],_,_=>some true
 |f::fs,xs,ys=>
  match f.name == "_" with
  |true=>none
  |false=>
   match oa P f.type,fV P f.type with
   | some true,some s=>match rec f.type (.agg ⟨(xs.drop f.offset).take s⟩) (.agg ⟨(ys.drop f.offset).take s⟩)with
     |some true=>Az P rec fs xs ys
     |r=>r
   |some false,some _=>match xs[f.offset]?,ys[f.offset]? with
    |some x,some y=>match rec f.type x y with
     |some true=>Az P rec fs xs ys
     |r=>r
    |_,_=>none
   |_,_=>none
def xM(h:ah)(b:Nat):Bool:=match h.bl.get b with|some (.cells ..)=>true|_=>false
def nH(P:Program)(h:ah):Nat->TypeId->Value->Value->Option Bool
 |0,_,_,_=>none
 |d+1,t,x,y=>
  match P.underlying t,x,y with
  |some .bool,.bool a,.bool b=>some (match a,b with|true,true|false,false=>true|_,_=>false)
  |some (.int _),.int k a,.int k' b=>match fU k k' with|true=>some (nY a b)|false=>none
  |some .string,.string a,.string b=>some (lP a b)
  |some (.pointer _),.pointer none,.pointer none=>some true
  |some (.pointer _),.pointer none,.pointer (some _)=>some false
  |some (.pointer _),.pointer (some _),.pointer none=>some false
  |some (.pointer e),.pointer (some ⟨b,o,none⟩),.pointer (some ⟨b',o',none⟩)=>
   match fV P e with
   |some (_+1)=>match xM h b,xM h b' with
    |true,true=>match Nat.beq b b' with
     |true=>some (Nat.beq o o')
     |false=>some false
    |_,_=>none
   |_=>none
  |some (.interface _),.nilIface,.nilIface=>some true
  |some (.interface _),.nilIface,.iface _ _=>some false
  |some (.interface _),.iface _ _,.nilIface=>some false
  |some (.struct fs),.agg xs,.agg ys=>match P.stoodInHeld t with
   |true=>none
   |false=>Az P (nH P h d) fs.toList xs.toList ys.toList
  |some (.slice _),.slice none _ _,.slice none _ _=>some true
  |some (.slice _),.slice none _ _,.slice (some _) _ _=>some false
  |some (.slice _),.slice (some _) _ _,.slice none _ _=>some false
  |some (.map _ _),.map none,.map none=>some true
  |some (.map _ _),.map none,.map (some _)=>some false
  |some (.map _ _),.map (some _),.map none=>some false
  |some (.func ..),.nilFunc,.nilFunc=>some true
  |some (.func ..),.nilFunc,.func ..=>some false
  |some (.func ..),.func ..,.nilFunc=>some false
  |_,_,_=>none
def jV(c:T Value)(off:Nat)(n:Nat):List Value->(List Value->β)->β:=
 Nat.rec (motive:=λ_=>List Value->(List Value->β)->β) (λacc Y=>Y acc)
  (λs ih acc Y=>Option.rec (motive:=λ_=>β) fl (λv=>ih (v::acc) Y) (c.get (Nat.add off s))) n
def eO:Value->Bool
 | .agg _ | .tuple _=>false
 |_=>true
def nI(n:Nat)(vs:List Value):T Value->Nat->(T Value->β)->β:=
 List.rec (motive:=λ_=>T Value->Nat->(T Value->β)->β) (λc _ Y=>Y c)
  (λv _ ih c off Y=>Bool.rec (motive:=λ_=>β) fl (Bool.rec (motive:=λ_=>β) fl (T.set c off v λc=>ih c (Nat.succ off) Y) (Nat.ble (Nat.succ off) n)) (eO v)) vs
def SV(vs:List Value):T Value->Nat->(T Value->Nat->β)->β:=
 List.rec (motive:=λ_=>T Value->Nat->(T Value->Nat->β)->β) (λc off Y=>Y c off)
  (λv _ ih c off Y=>T.set c off v λc=>vQ (Nat.succ off) λoff=>ih c off Y) vs
def aF(_fl:β)(o:bT)(h:ah)(Y:Nat->ah->β):β:=
 T.set h.bl h.nx o λbl=>vQ (Nat.succ h.nx) λnx=>Y h.nx ⟨nx,bl,h.lo⟩
def setBlock(b:Nat)(o:bT)(h:ah)(Y:ah->β):β:=
 match Nat.ble h.lo b with
 |true=>T.set h.bl b o λbl=>Y ⟨h.nx,bl,h.lo⟩
 |false=>fl
def aK(vs:List Value)(e:TypeId)(Sz:Bool)(Y:bT->β):β:=
 SV vs .nil 0 λc n=>match Nat.ble n 1000000000000 with
  |true=>Y (.cells n c e Sz)
  |false=>fl
def cG(vs:List Value)(e:TypeId)(Sz:Bool)(h:ah)(Y:Nat->ah->β):β:=
 aK fl vs e Sz λo=>aF fl o h Y
abbrev XW(β : Type):= Value -> ah -> β
def ax(a:Value)(h:ah)(Y:XW β):β:=
 match a with
 | .pointer (some ⟨b,o,none⟩)=>
  match h.bl.get b with
  | some (.cells n c _ _)=>match Nat.ble (Nat.succ o) n,c.get o with
    |true,some v=>Y v h
    |_,_=>fl
  | some (.ro n c _)=>match Nat.ble (Nat.succ o) n,c.get o with
    |true,some v=>Y v h
    |_,_=>fl
  |_=>fl
 |_=>fl
def aN(s:Nat)(a:Value)(h:ah)(Y:XW β):β:=
 match a with
 | .pointer (some ⟨b,o,none⟩)=>
  match h.bl.get b with
  |some (.cells n c _ _)=>match Nat.ble (Nat.add o s) n with
   |true=>jV fl c o s [] λl=>Y (.agg ⟨l⟩) h
   |false=>fl
  |some (.ro n c _)=>match Nat.ble (Nat.add o s) n with
   |true=>jV fl c o s [] λl=>Y (.agg ⟨l⟩) h
   |false=>fl
  |_=>fl
 |_=>fl
def aM(s:Nat)(a v:Value)(h:ah)(Y:XW β):β:=
 match a with
 | .pointer (some ⟨b,o,none⟩)=>
  match h.bl.get b with
  | some (.cells n c e op)=>
    match Nat.beq v.cells.toList.length s with
    |true=>nI fl n v.cells.toList c o λc=>setBlock fl b (.cells n c e op) h λh=>Y undef h
    |false=>fl
  |_=>fl
 |_=>fl
def lQ(op:BinOp)(k:IntKind)(a b:Int)(Y:Value->β):β:=
 match op with
 | .add=>Iz (nZ k (Int.add a b)) λn=>Y (.int k n)
 | .sub=>Iz (nZ k (Int.sub a b)) λn=>Y (.int k n)
 | .mul=>Iz (nZ k (Int.mul a b)) λn=>Y (.int k n)
 | .quo=>match nY b 0 with|true=>fl|false=>Iz (nZ k (Int.tdiv a b)) λn=>Y (.int k n)
 | .rem=>match nY b 0 with|true=>fl|false=>Iz (Int.tmod a b) λn=>Y (.int k n)
 | .and=>Iz (nZ k (BitVec.ofInt k.bits a &&& BitVec.ofInt k.bits b).toNat) λn=>Y (.int k n)
 | .or=>Iz (nZ k (BitVec.ofInt k.bits a ||| BitVec.ofInt k.bits b).toNat) λn=>Y (.int k n)
 | .xor=>Iz (nZ k (BitVec.ofInt k.bits a ^^^ BitVec.ofInt k.bits b).toNat) λn=>Y (.int k n)
 | .andNot=>Iz (nZ k (BitVec.ofInt k.bits a &&& ~~~ (BitVec.ofInt k.bits b)).toNat) λn=>Y (.int k n)
 | .eql=>Ki (nY a b) λr=>Y (.bool r)
 | .neq=>Ki (!(nY a b)) λr=>Y (.bool r)
 | .lss=>Ki (wM a b) λr=>Y (.bool r)
 | .leq=>Ki (!(wM b a)) λr=>Y (.bool r)
 | .gtr=>Ki (wM b a) λr=>Y (.bool r)
 | .geq=>Ki (!(wM a b)) λr=>Y (.bool r)
 | .shl=>match wM b 0 with|true=>fl|false=>Iz (k.wrap (a*2 ^ (min b.toNat k.bits))) λn=>Y (.int k n)
 | .shr=>match wM b 0 with|true=>fl|false=>Iz (a.fdiv (2 ^ (min b.toNat k.bits))) λn=>Y (.int k n)
def aG(P:Program)(op:BinOp)(t:TypeId)(cn:Bool)(gd:Bool)(a b:Value)(h:ah)(Y:XW β):β:=
 match a,b with
 | .int k n,.int k' m=>match fU k k',op with
  |true,op=>lQ fl op k n m λv=>Y v h
  |false,.shl=>lQ fl .shl k n m λv=>Y v h
  |false,.shr=>lQ fl .shr k n m λv=>Y v h
  |false,_=>fl
 | .string s,.string s'=>match op with
  | .add=>match Nat.ble (Nat.add s.size s'.size) 9223372036854775807 with|true=>Y (.string (s++s')) h|false=>fl
  | .eql=>Ki (lP s s') λr=>Y (.bool r) h
  | .neq=>Ki (!(lP s s')) λr=>Y (.bool r) h
  |_=>fl
 | .nilIface,.nilIface=>match op,cn with
  | .eql,true=>match nH P h 100 t a b with|some r=>Ki r λr=>Y (.bool r) h|none=>fl
  | .neq,true=>match nH P h 100 t a b with|some r=>Ki (!r) λr=>Y (.bool r) h|none=>fl
  |_,_=>fl
 | .float ..,_|_,.float .. | .complex ..,_|_,.complex ..=>fl
 |a,b=>match op,gd with
  | .eql,false=>match nH P h 100 t a b with|some r=>Ki r λr=>Y (.bool r) h|none=>fl
  | .neq,false=>match nH P h 100 t a b with|some r=>Ki (!r) λr=>Y (.bool r) h|none=>fl
  |_,_=>fl
def jB(op:UnOp)(a:Value)(h:ah)(Y:XW β):β:=
 match op,a with
 | .not,.bool b=>Ki (!b) λr=>Y (.bool r) h
 | .neg,.int k n=>Iz (nZ k (Int.sub 0 n)) λn=>Y (.int k n) h
 | .xor,.int k n=>Iz (nZ k (BitVec.ofInt k.bits (if k.signed then -1 else k.max) ^^^ BitVec.ofInt k.bits n).toNat) λn=>Y (.int k n) h
 |_,_=>fl
def tL:List Value->List Value->(List Value->β)->β
 | [],old,Y=>Y old
 |v::vs,_::old,Y=>tL vs old λl=>Y (v::l)
 |_::_,[],_=>fl
def AA(new:List Value):Nat->List Value->(List Value->β)->β
 |0,old,Y=>tL fl new old Y
 |o+1,v::old,Y=>AA new o old λl=>Y (v::l)
 |_+1,[],_=>fl
def bM:List (Nat × Nat)->List Value->List Value->(List Value->β)->β
 | (off,size)::ps,v::vs,cs,Y=>
   match Nat.beq v.cells.toList.length size with
   |false=>fl
   |true=>AA fl v.cells.toList off cs λcs=>bM ps vs cs Y
 | [],[],cs,Y=>Y cs
 |_,_,_,_=>fl
def aV(zs:List Value):Nat->List Value
 |0=>[]
 |n+1=>zs++aV zs n
def B_(v:Option Value)(d:Nat)(Y:Nat->β):β:=match v with
  |none=>Y d
  |some (.int _ (.ofNat n))=>Y n
  |some _=>fl
def iP(len lim cap:Nat)(lo hi mx:Option Value)(Y:Nat->Nat->Nat->β):β:=
 match mx with
 | none=>B_ fl hi len λh=>B_ fl lo 0 λl=>
   match Nat.ble l h,Nat.ble h lim with
   |true,true=>Y l h cap
   |_,_=>fl
 | some _=>B_ fl mx 0 λm=>B_ fl hi len λh=>B_ fl lo 0 λl=>
   match hi.isSome,Nat.ble l h,Nat.ble h m,Nat.ble m lim with
   |true,true,true,true=>Y l h m
   |_,_,_,_=>fl
def jj(h:ah)(e:TypeId)(b:Nat):Option Nat:=match h.bl.get b with
 |some (.cells n _ e' true)=>match Nat.beq e e' with|true=>some n|false=>none
 |some (.dead n e')=>match Nat.beq e e' with|true=>some n|false=>none
 |_=>none
def tM(b o s l hh m:Nat)(Y:Value->β):β:=
 match Nat.beq m l with
 |true=>vQ (Nat.sub hh l) λn=>Y (.slice (some ⟨b,o,none⟩) n 0)
 |false=>vQ (Nat.add o (Nat.mul l s)) λo=>vQ (Nat.sub hh l) λn=>vQ (Nat.sub m l) λc=>Y (.slice (some ⟨b,o,none⟩) n c)
def sliceB(e s:Nat)(x:Value)(lo hi mx:Option Value)(h:ah)(Y:XW β):β:=
 match x with
 | .slice none len cap=>iP fl len cap cap lo hi mx λl hh m=>vQ (Nat.sub hh l) λn=>vQ (Nat.sub m l) λc=>Y (.slice none n c) h
 | .slice (some ⟨b,o,none⟩) len cap=>
   match Nat.beq cap fT with
   |true=>match Nat.beq len 0 with
    |true=>iP fl len 0 0 lo hi mx λ_ _ _=>Y (.slice (some ⟨b,o,none⟩) 0 fT) h
    |false=>fl
   |false=>match Nat.beq cap aS with
    |false=>match Nat.ble cap 9223372036854775807 with
     |true=>iP fl len cap cap lo hi mx λl hh m=>tM b o s l hh m λv=>Y v h
     |false=>match Nat.beq cap gH,len,mx with
      |true,0,none=>iP fl 0 0 0 lo hi none λ_ _ _=>Y (.slice (some ⟨b,o,none⟩) 0 gH) h
      |_,_,_=>fl
    |true=>
     match jj h e b,s with
     |some n,s+1=>
      match Nat.ble o n,Nat.div (Nat.sub n o) (s+1)with
      |true,lim=>iP fl len lim aS lo hi mx λl hh m=>
       match Nat.beq m aS with
       |true=>match Nat.beq l lim with
        |true=>vQ (Nat.add o (Nat.mul l (s+1))) λo=>Y (.slice (some ⟨b,o,none⟩) 0 gH) h
        |false=>vQ (Nat.add o (Nat.mul l (s+1))) λo=>vQ (Nat.sub hh l) λn=>Y (.slice (some ⟨b,o,none⟩) n aS) h
       |false=>tM b o (s+1) l hh m λv=>Y v h
      |false,_=>fl
     |_,_=>fl
 |_=>fl
def xN(x:Value)(lo hi mx:Option Value)(h:ah)(Y:XW β):β:=
 match x,mx with
 | .string s,none=>iP fl s.size s.size s.size lo hi none λl hh _=>Y (.string (s.extract l hh)) h
 |_,_=>fl
def fo(h:ah)(size n:Nat)(x:Value)(Y:List Value->β):β:=
 match Nat.mul n size with
 |0=>Y []
 |m+1=>
  match x with
  | .slice (some ⟨b,o,none⟩) _ _=>
   match h.bl.get b with
   |some (.cells nn c _ _)=>match Nat.ble (Nat.add o (Nat.succ m)) nn with
    |true=>jV fl c o (Nat.succ m) [] Y
    |false=>fl
   |some (.ro nn c _)=>match Nat.ble (Nat.add o (Nat.succ m)) nn with
    |true=>jV fl c o (Nat.succ m) [] Y
    |false=>fl
   |_=>fl
  |_=>fl
def jf(IA:Bool)(zero:List Value)(h:ah)(size:Nat)(x:Value)(Y:Nat->List Value->β):β:=
 match IA,x with
 |true,.int _ (.ofNat n)=>match Nat.ble n 1000000 with
  |true=>Y n (aV zero n)
  |false=>fl
 |false,.slice _ n _=>fo fl h size n x λl=>Y n l
 |_,_=>fl
def bt(both:β->β->β)(e size:Nat)(zero:List Value)(IA:Bool)(s x:Value)(h:ah)(Y:XW β):β:=
 match s with
 | .slice base sLen sCap=>
  jf fl IA zero h size x λn new=>
  match n with
  |0=>Y s h
  |_+1=>
   vQ (Nat.add sLen n) λneed=>
   match Nat.ble need 1000000000 with
   |true=>
    match base with
    |none=>match Nat.beq sCap 0,Nat.beq sLen 0 with
     |true,true=>cG fl new e true h λb h=>Y (.slice (some ⟨b,0,none⟩) need aS) h
     |_,_=>fl
    |some ⟨b,o,none⟩=>
     match Nat.beq sCap fT with
     |true=>fl
     |false=>
     match Nat.beq sCap gH with
     |true=>match h.bl.get b,sLen with
      |some (.cells nn c e' true),0=>match Nat.beq e e' && Nat.beq o nn && new.all eO with
       | true=>both
         (jV fl c 0 nn [] λold=>setBlock fl b (.dead nn e') h λh=>cG fl (old++new) e true h λb h=>Y (.slice (some ⟨b,o,none⟩) need aS) h)
         (cG fl new e true h λb h=>Y (.slice (some ⟨b,0,none⟩) need aS) h)
       |false=>fl
      |_,_=>fl
     |false=>
     match Nat.beq sCap aS with
     |true=>match h.bl.get b with
      |some (.cells nn c e' true)=>match Nat.beq e e',Nat.ble (Nat.add o (Nat.mul need size)) nn with
       |true,true=>nI fl nn new c (Nat.add o (Nat.mul sLen size)) λc=>setBlock fl b (.cells nn c e' true) h λh=>Y (.slice base need sCap) h
       |true,false=>match Nat.beq o 0 && new.all eO with
        |true=>fo fl h size sLen s λold=>setBlock fl b (.dead nn e') h λh=>cG fl (old++new) e true h λb h=>Y (.slice (some ⟨b,0,none⟩) need aS) h
        |false=>match Nat.beq (Nat.add o (Nat.mul sLen size)) nn && new.all eO with
         | true=>both
           (jV fl c 0 nn [] λold=>setBlock fl b (.dead nn e') h λh=>cG fl (old++new) e true h λb h=>Y (.slice (some ⟨b,o,none⟩) need aS) h)
           (fo fl h size sLen s λold=>cG fl (old++new) e true h λb h=>Y (.slice (some ⟨b,0,none⟩) need aS) h)
         |false=>fl
       |false,_=>fl
      |_=>fl
     |false=>match Nat.ble need sCap,h.bl.get b with
      |true,some (.cells nn c e' op)=>nI fl nn new c (Nat.add o (Nat.mul sLen size)) λc=>setBlock fl b (.cells nn c e' op) h λh=>Y (.slice base need sCap) h
      |false,_=>match Nat.ble sCap 1000000000 with
       |true=>fo fl h size sLen s λold=>cG fl (old++new) e true h λb h=>Y (.slice (some ⟨b,0,none⟩) need aS) h
       |false=>fl
      |_,_=>fl
    |_=>fl
   |false=>fl
 |_=>fl
def DN(size:Nat)(d x:Value)(h:ah)(Y:XW β):β:=
 match d with
 | .slice base dLen _=>
   match x with
   | .slice _ n _=>vQ (Nat.min n dLen) λn=>
    match n with
    |0=>Y (.int .i64 (.ofNat 0)) h
    |_+1=>match base with
     |some ⟨b,o,none⟩=>fo fl h size n x λcs=>match h.bl.get b with
      |some (.cells nn c e' op)=>nI fl nn cs c o λc=>setBlock fl b (.cells nn c e' op) h λh=>Y (.int .i64 (.ofNat n)) h
      |_=>fl
     |_=>fl
   |_=>fl
 |_=>fl
def jE(zero:List Value)(x:Value)(h:ah)(Y:XW β):β:=
 match x with
 | .slice none _ _ | .slice _ 0 _ | .map none=>Y (.tuple #[]) h
 | .slice (some ⟨b,o,none⟩) n _=>match h.bl.get b with
    |some (.cells nn c e' op)=>nI fl nn (aV zero n) c o λc=>setBlock fl b (.cells nn c e' op) h λh=>Y (.tuple #[]) h
    |_=>fl
 | .map (some r)=>match h.bl.get r with
  |some (.map _ clock)=>setBlock fl r (.map [] clock) h λh=>Y (.tuple #[]) h
  |_=>fl
 |_=>fl
def xO(x:Value)(h:ah)(Y:XW β):β:=
 match x with
 | .string s=>vQ s.size λn=>Y (.int .i64 (.ofNat n)) h
 |_=>fl
def bh(x:Value)(h:ah)(Y:XW β):β:=
 match x with
 | .slice _ n _=>Y (.int .i64 (.ofNat n)) h
 |_=>fl
def lR(x:Value)(h:ah)(Y:XW β):β:=
 match x with
 | .map none=>Y (.int .i64 (.ofNat 0)) h
 | .map (some r)=>match h.bl.get r with
  |some (.map es _)=>vQ es.length λn=>Y (.int .i64 (.ofNat n)) h
  |_=>fl
 |_=>fl
def fN(P:Program)(h:ah)(kt:TypeId)(k:Value):List MapEntry->Nat->Option (Option (Nat × MapEntry))
 | [],_=>some none
 |e::es,i=>match nH P h 100 kt k e.key with
  |some true=>some (some (i,e))
  |some false=>fN P h kt k es (Nat.succ i)
  |none=>none
def kj(P:Program):Nat->TypeId->Value->Bool
 |0,_,_=>false
 |d+1,t,v=>match P.underlying t,v with
  |some .bool,.bool _|some (.int _),.int _ _|some .string,.string _=>true
  |some (.struct fs),.agg cs=>n_ (.agg cs) && fs.toList.all λf=>(match oa P f.type,fV P f.type with
   |some true,some s=>kj P d f.type (.agg ⟨(cs.toList.drop f.offset).take s⟩)
   |some false,some _=>(match cs.toList[f.offset]? with|some v=>kj P d f.type v|none=>false)
   |_,_=>false)
  |_,_=>false
def jF(P:Program)(kt:TypeId)(m k:Value)(h:ah)(Y:Option Value->β):β:=
  match kj P 20 kt k with
  |false=>fl
  |true=>
  match m with
  | .map none=>Y none
  | .map (some r)=>match h.bl.get r with
   |some (.map es _)=>match fN P h kt k es 0 with
    |some (some (_,e))=>Y (some e.val)
    |some none=>Y none
    |none=>fl
   |_=>fl
  |_=>fl
def ct(P:Program)(kt:TypeId)(zero:Value)(ok:Bool)(m k:Value)(h:ah)(Y:XW β):β:=
 jF fl P kt m k h λr=>match r,ok with
  |some v,true=>Y (.tuple #[v,.bool true]) h
  |some v,false=>Y v h
  |none,true=>Y (.tuple #[zero,.bool false]) h
  |none,false=>Y zero h
def setAt(f:MapEntry->MapEntry):Nat->List MapEntry->(List MapEntry->β)->β
 |_,[],Y=>Y []
 |0,e::es,Y=>Y (f e::es)
 |n+1,e::es,Y=>setAt f n es λl=>Y (e::l)
def A9(x:MapEntry):List MapEntry->(List MapEntry->β)->β
 | [],Y=>Y [x]
 |e::es,Y=>A9 x es λl=>Y (e::l)
def bY(P:Program)(kt:TypeId)(m k v:Value)(h:ah)(Y:XW β):β:=
 match kj P 20 kt k with
 |false=>fl
 |true=>
 match m with
 | .map (some r)=>match h.bl.get r with
  |some (.map es clock)=>match fN P h kt k es 0 with
   |some (some (i,e))=>match je 3 k e.key with
    |true=>setAt (λe=>{ e with key:=k,val:=v }) i es λes=>setBlock fl r (.map es clock) h λh=>Y undef h
    |false=>fl
   |some none=>A9 { key:=k,val:=v,born:=clock } es λes=>vQ (Nat.succ clock) λclock=>setBlock fl r (.map es clock) h λh=>Y undef h
   |none=>fl
  |_=>fl
 |_=>fl
def oc(P:Program)(kt:TypeId)(zero m k:Value)(h:ah)(Y:XW β):β:=
 match kj P 20 kt k with
 |false=>fl
 |true=>
 match m with
 | .map (some r)=>match h.bl.get r with
  |some (.map es clock)=>match fN P h kt k es 0 with
   |some (some (i,e))=>match je 3 k e.key with
    |true=>setAt (λe=>{ e with key:=k }) i es λes=>setBlock fl r (.map es clock) h λh=>Y (.tuple #[e.val,.int .i64 (.ofNat e.born)]) h
    |false=>fl
   |some none=>A9 { key:=k,val:=zero,born:=clock } es λes=>vQ (Nat.succ clock) λc=>setBlock fl r (.map es c) h λh=>Y (.tuple #[zero,.int .i64 (.ofNat clock)]) h
   |none=>fl
  |_=>fl
 |_=>fl
def xP(n:Nat):List MapEntry->Nat->Option Nat
 | [],_=>none
 |e::es,i=>match Nat.beq e.born n with
  |true=>some i
  |false=>xP n es (Nat.succ i)
def kq(m s v:Value)(h:ah)(Y:XW β):β:=
 match m with
 | .map (some r)=>match s with
  | .int .i64 (.ofNat n)=>match h.bl.get r with
   |some (.map es clock)=>match xP n es 0 with
    |some i=>setAt (λe=>{ e with val:=v }) i es λes=>setBlock fl r (.map es clock) h λh=>Y undef h
    |none=>fl
   |_=>fl
  |_=>fl
 |_=>fl
def A_:Nat->List MapEntry->(List MapEntry->β)->β
 |_,[],Y=>Y []
 |0,_::es,Y=>Y es
 |n+1,e::es,Y=>A_ n es λl=>Y (e::l)
def mT(P:Program)(kt:TypeId)(m k:Value)(h:ah)(Y:XW β):β:=
 match kj P 20 kt k with
 |false=>fl
 |true=>
 match m with
 | .map none=>Y (.tuple #[]) h
 | .map (some r)=>match h.bl.get r with
   |some (.map es clock)=>match fN P h kt k es 0 with
    |some (some (i,_))=>A_ i es λes=>setBlock fl r (.map es clock) h λh=>Y (.tuple #[]) h
    |some none=>Y (.tuple #[]) h
    |none=>fl
   |_=>fl
 |_=>fl
def aH(i:Nat)(v:Value)(h:ah)(Y:XW β):β:=match v with
  | .tuple vs=>match vs.toList[i]? with|some v=>Y v h|none=>fl
  |_=>fl
def bD(c a b:Value)(h:ah)(Y:XW β):β:=
 match c with
  | .bool true=>Y a h
  | .bool false=>Y b h
  |_=>fl
def aT(v:Value)(h:ah)(Y:XW β):β:=match v with
  | .pointer (some a)=>Y (.pointer (some a)) h
  | .func (.func f) a b=>Y (.func (.func f) a b) h
  | .iface t x=>Y (.iface t x) h
  |_=>fl
def af(off:Nat)(v:Value)(h:ah)(Y:XW β):β:=match v with
  | .pointer (some ⟨b,o,none⟩)=>vQ (Nat.add o off) λo=>Y (.pointer (some ⟨b,o,none⟩)) h
  |_=>fl
def az(s:Nat)(v iv:Value)(h:ah)(Y:XW β):β:=match v,iv with
  | .slice (some ⟨b,o,none⟩) len _,.int _ (.ofNat i)=>match Nat.ble (Nat.succ i) len with
   |true=>vQ (Nat.add o (Nat.mul i s)) λo=>Y (.pointer (some ⟨b,o,none⟩)) h
   |_=>fl
  |_,_=>fl
def lT(len s:Nat)(v iv:Value)(h:ah)(Y:XW β):β:=match v,iv with
  | .pointer (some ⟨b,o,none⟩),.int _ (.ofNat i)=>match Nat.ble (Nat.succ i) len with
   |true=>vQ (Nat.add o (Nat.mul i s)) λo=>Y (.pointer (some ⟨b,o,none⟩)) h
   |_=>fl
  |_,_=>fl
def lU(k:IntKind)(v:Value)(h:ah)(Y:XW β):β:=match v with
  | .int _ n=>Iz (nZ k n) λn=>Y (.int k n) h
  |_=>fl
def Ba:Nat->List Value->(List Value->β)->β
  |0,_,Y=>Y []
  |n+1,v::vs,Y=>Ba n vs λl=>Y (v::l)
  |_+1,[],_=>fl
def DO(agg:Bool)(s:Nat)(cs:List Value)(off:Nat)(Y:Value->β):β:=
 match agg with
 |true=>Ba fl s (cs.drop off) λl=>Y (.agg ⟨l⟩)
 |false=>match cs[off]? with|some v=>Y v|none=>fl
def xQ(agg:Bool)(s off:Nat)(v:Value)(h:ah)(Y:XW β):β:=match v with
  | .agg cs=>DO fl agg s cs.toList off λv=>Y v h
  |_=>fl
def xR(agg:Bool)(len s:Nat)(v iv:Value)(h:ah)(Y:XW β):β:=match v,iv with
  | .agg cs,.int _ (.ofNat i)=>match Nat.ble (Nat.succ i) len with
   |true=>DO fl agg s cs.toList (Nat.mul i s) λv=>Y v h
   |_=>fl
  |_,_=>fl
def xS(v iv:Value)(h:ah)(Y:XW β):β:=match v,iv with
  | .string s,.int _ (.ofNat i)=>match s.data.toList[i]? with
   |some b=>vQ b.toNat λn=>Y (.int .u8 (.ofNat n)) h
   |none=>fl
  |_,_=>fl
def dH(asserted:TypeId)(zero:Value)(ok:Bool)(x:Value)(h:ah)(Y:XW β):β:=
 match x with
 | .iface t v=>match Nat.beq t asserted,ok with
  |true,true=>Y (.tuple #[v,.bool true]) h
  |true,false=>Y v h
  |false,true=>Y (.tuple #[zero,.bool false]) h
  |false,false=>fl
 | .nilIface=>match ok with
   |true=>Y (.tuple #[zero,.bool false]) h
   |false=>fl
 |_=>fl
def oU(x:Value)(h:ah)(Y:XW β):β:=
 match x with
 | .map none=>aF fl (.fc none 0 [] 0) h λb h=>Y (.pointer (some ⟨b,0,none⟩)) h
 | .map (some r)=>match h.bl.get r with
  |some (.map _ clock)=>aF fl (.fc (some r) clock [] clock) h λb h=>Y (.pointer (some ⟨b,0,none⟩)) h
  |_=>fl
 |_=>fl
def mU(both:β->β->β)(b m since:Nat)(seen:List Nat)(clock:Nat)(h:ah)(Y:XW β):MapEntry->List MapEntry->β
 |e,[]=>match Nat.ble (Nat.succ e.born) since with
  |true=>setBlock fl b (.fc (some m) since (e.born::seen) clock) h λh=>Y (.tuple #[.bool true,e.key,e.val]) h
  |false=>fl
 |e,e'::es=>match Nat.ble (Nat.succ e.born) since with
  |true=>both (setBlock fl b (.fc (some m) since (e.born::seen) clock) h λh=>Y (.tuple #[.bool true,e.key,e.val]) h) (mU both b m since seen clock h Y e' es)
  |false=>fl
def sG(both:β->β->β)(it:Value)(h:ah)(Y:XW β):β:=
 match it with
 | .pointer (some ⟨b,0,none⟩)=>match h.bl.get b with
  |some (.fc none _ _ _)=>Y (.tuple #[.bool false]) h
  |some (.fc (some m) since seen last)=>match h.bl.get m with
   |some (.map es clock)=>
    match !seen.isEmpty && !es.isEmpty && es.all (λe=>Nat.ble last e.born)with
    |true=>fl
    |false=>
     match es.filter λe=>!seen.any (Nat.beq e.born)with
     | []=>Y (.tuple #[.bool false]) h
     |e::es=>mU fl both b m since seen clock h Y e es
   |_=>fl
  |_=>fl
 |_=>fl
def oW(it:Value)(h:ah)(Y:XW β):β:=
 match it with
 | .pointer (some ⟨b,0,none⟩)=>match h.bl.get b with
  |some (.fc (some m) _ (stamp::_) stepped)=>match h.bl.get m with
   |some (.map es clock)=>match Nat.beq clock stepped with
    |true=>match es.find? (λe=>Nat.beq e.born stamp)with
     |some e=>Y (.tuple #[e.key,e.val]) h
     |none=>fl
    |false=>fl
   |_=>fl
  |_=>fl
 |_=>fl
inductive XI(β:Type) where
 |k0 (f:ah->(XW β)->β)
 |k1 (x:Operand) (f:Value->ah->(XW β)->β)
 |k2 (x y:Operand) (f:Value->Value->ah->(XW β)->β)
 |k3 (x y z:Operand) (f:Value->Value->Value->ah->(XW β)->β)
 |kn (xs:List Operand) (f:List Value->ah->(XW β)->β)
def XI.run(i:XI β)(tm:T Value)(h:ah)(Y:XW β):β:=
 XI.rec (motive:=λ_=>β) (λf=>f h Y) (λx f=>ev tm x λa=>f a h Y) (λx y f=>ev tm x λa=>ev tm y λb=>f a b h Y)
  (λx y z f=>ev tm x λa=>ev tm y λb=>ev tm z λc=>f a b c h Y) (λxs f=>NW tm xs λvs=>f vs h Y) i
def placesOf(place:Nat->Option (Nat × Nat)):List (Nat × Operand)->Option (List (Nat × Nat))
 | []=>some []
 |(i,_)::ps=>match place i,placesOf place ps with
  |some p,some l=>some (p::l)
  |_,_=>none
def od(P:Program)(t:TypeId):Option (List Value × (Nat->Option (Nat × Nat))):=match P.info? t,P.underlying t with
 |some it,some (.array _ e)=>match it.zero,P.info? e with
  |some z,some ie=>match z.cells.toList.all ij with
   |true=>some (z.cells.toList,λi=>some (Nat.mul i ie.size,ie.size))
   |false=>none
  |_,_=>none
 |some it,some (.struct fields)=>match it.zero,fields.toList.mapM (λf=>(P.info? f.type).map λi=>(f.offset,i.size))with
  |some z,some places=>match z.cells.toList.all ij with
   |true=>some (z.cells.toList,λi=>places[i]?)
   |false=>none
  |_,_=>none
 |_,_=>none
def qt(lo hi mx:Option Operand):List Operand:=lo.toList++hi.toList++mx.toList
def xb(lo hi mx:Bool):List Value->Option (Option Value × Option Value × Option Value)
 | []=>match lo,hi,mx with|false,false,false=>some (none,none,none)|_,_,_=>none
 | [a]=>match lo,hi,mx with
  |true,false,false=>some (some a,none,none)
  |false,true,false=>some (none,some a,none)
  |_,_,_=>none
 | [a,b]=>match lo,hi,mx with
  |true,true,false=>some (some a,some b,none)
  |false,true,true=>some (none,some a,some b)
  |_,_,_=>none
 | [a,b,c]=>match lo,hi,mx with
  |true,true,true=>some (some a,some b,some c)
  |_,_,_=>none
 |_=>none
inductive XA(β:Type) where
 |k0 (f:(bT->(Nat->Value)->β)->β)
 |k1 (x:Operand) (f:Value->(bT->(Nat->Value)->β)->β)
 |k2 (x y:Operand) (f:Value->Value->(bT->(Nat->Value)->β)->β)
 |kn (xs:List Operand) (f:List Value->(bT->(Nat->Value)->β)->β)
def XA.run(i:XA β)(tm:T Value)(Y:bT->(Nat->Value)->β):β:=
 XA.rec (motive:=λ_=>β) (λf=>f Y) (λx f=>ev tm x λa=>f a Y) (λx y f=>ev tm x λa=>ev tm y λb=>f a b Y)
  (λxs f=>NW tm xs λvs=>f vs Y) i
def av(b:Nat):Value:=.pointer (some ⟨b,0,none⟩)
def bB(n c:Nat)(b:Nat):Value:=.slice (some ⟨b,0,none⟩) n c
def eY(b:Nat):Value:=.map (some b)
def sH(P:Program):Op->Option (XA β)
 | .alloc e=>match zeroOf P e with
  |some z=>some (.k0 λY=>aK fl z e false λo=>Y o av)
  |none=>none
 | .box e x=>some (.k1 x λv Y=>aK fl v.cells.toList e false λo=>Y o av)
 | .buildSlice t len parts=>match P.underlying t with
  |some (.slice e)=>match W5 P e,Nat.ble len 10000 with
   |some (z,s),true=>match placesOf (λi=>some (Nat.mul i s,s)) parts.toList,Nat.ble s 1000 with
    |some ps,true=>some (.kn (parts.toList.map (·.2)) λvs Y=>bM fl ps vs (aV z len) λcs=>aK fl cs e false λo=>Y o (bB len len))
    |_,_=>none
   |_,_=>none
  |_=>none
 | .makeMap t r=>match r with
  |none=>some (.k0 λY=>Y (.map [] 0) eY)
  |some x=>match P.underlying t with
   |some (.map _ _)=>some (.k1 x λv Y=>match v with | .int _ _=>Y (.map [] 0) eY|_=>fl)
   |_=>none
 | .makeSlice t l c=>match P.underlying t with
  |some (.slice e)=>match W5 P e,P.info? e with
   |some (z,_),some inf=>match Nat.ble inf.bytes 1000000 with
    |true=>some (.k2 l c λl c Y=>match l,c with
     | .int _ (.ofNat l),.int _ (.ofNat c)=>match Nat.ble l c,Nat.ble c 1000000 with
      |true,true=>aK fl (aV z c) e false λo=>Y o (bB l c)
      |_,_=>fl
     |_,_=>fl)
    |false=>none
   |_,_=>none
  |_=>none
 |_=>none
def DP(a b:Value)(h:ah)(Y:XW β):β:=
 match a,b with
 | .int k a,.int _ b=>(match wM b a with|true=>Y (.int k b) h|false=>Y (.int k a) h)
 |_,_=>fl
def Oi(a b:Value)(h:ah)(Y:XW β):β:=
 match a,b with
 | .int k a,.int _ b=>(match wM a b with|true=>Y (.int k b) h|false=>Y (.int k a) h)
 |_,_=>fl
def pU(P:Program):Op->Option (XI β)
 | .move x | .assign x=>some (.k1 x λv h Y=>Y v h)
 | .pick c a b=>some (.k3 c a b (bD fl))
 | .build t parts=>match od P t with
  |some (z,place)=>match placesOf place parts.toList with
   |some ps=>some (.kn (parts.toList.map (·.2)) λvs h Y=>bM fl ps vs z λcs=>Y (.agg ⟨cs⟩) h)
   |none=>none
  |none=>none
 | .load t a=>match oa P t,fV P t with
  |some true,some s=>some (.k1 a (aN fl s))
  |some false,some _=>some (.k1 a (ax fl))
  |_,_=>none
 | .nilCheck x=>some (.k1 x (aT fl))
 | .binOp op t x y _=>some (.k2 x y (aG fl P op t ((x matches .const _) || (y matches .const _)) (P.eqGuardType P.depth t)))
 | .unOp op _ x=>some (.k1 x (jB fl op))
 | .convert src dst x=>match P.underlying src,P.underlying dst with
  |some _,some (.int k)=>some (.k1 x (lU fl k))
  |some .string,some .string=>some (.k1 x λv h Y=>match v with | .string s=>Y (.string s) h|_=>fl)
  |_,_=>none
 | .makeInterface t x=>match P.underlying t with
  |some (.interface _)=>none
  |some _=>some (.k1 x λv h Y=>Y (.iface t v) h)
  |none=>none
 | .makeFunc (.func fn) first cap=>some (.kn (first.toList++cap.toList) λvs h Y=>Y (.func (.func fn) ⟨vs.take first.toList.length⟩ ⟨vs.drop first.toList.length⟩) h)
 | .slice t x lo hi mx=>match P.underlying t with
  |some (.slice e)=>match fV P e with
   |some s=>some (.kn (x::qt lo hi mx) λvs h Y=>match vs with
    |v::bs=>match xb lo.isSome hi.isSome mx.isSome bs with
     |some (l,hh,m)=>sliceB fl e s v l hh m h Y
     |none=>fl
    | []=>fl)
   |none=>none
  | some .string=>some (.kn (x::qt lo hi mx) λvs h Y=>match vs with
    |v::bs=>match xb lo.isSome hi.isSome mx.isSome bs with
     |some (l,hh,m)=>xN fl v l hh m h Y
     |none=>fl
    | []=>fl)
  |_=>none
 | .fieldAddr t x f=>match P.underlying t with
  |some (.struct fs)=>match fs[f]? with
   |some uX=>match fV P uX.type with
    |some (_+1)=>some (.k1 x (af fl uX.offset))
    |_=>none
   |none=>none
  |_=>none
 | .field t x f=>match P.underlying t with
  |some (.struct fs)=>match fs[f]? with
   |some uX=>match oa P uX.type,fV P uX.type with
    |some a,some s=>some (.k1 x (xQ fl a s uX.offset))
    |_,_=>none
   |none=>none
  |_=>none
 | .indexAddr t x i=>match P.underlying t with
  |some (.slice e)=>match fV P e with
   |some s=>some (.k2 x i (az fl s))
   |_=>none
  |some (.array len e)=>match fV P e with
   |some s=>some (.k2 x i (lT fl len s))
   |_=>none
  |_=>none
 | .index t x i=>match P.underlying t with
  |some (.array len e)=>match oa P e,fV P e with
   |some a,some s=>some (.k2 x i (xR fl a len s))
   |_,_=>none
  |some .string=>some (.k2 x i (xS fl))
  |_=>none
 | .lookup t x i ok=>match P.underlying t with
  |some (.map kt et)=>match(P.info? et).bind (·.zero)with
   |some z=>match qq z with
    |true=>some (.k2 x i (ct fl P kt z ok))
    |false=>none
   |none=>none
  |_=>none
 | .typeAssert x _ t ok=>match P.underlying t,(P.info? t).bind (·.zero)with
  |some (.interface _),_=>none
  |some _,some z=>match qq z with
   |true=>some (.k1 x (dH fl t z ok))
   |false=>none
  |_,_=>none
 | .extract x i=>some (.k1 x (aH fl i))
 | .call { callee:=.builtin .len,args:=args,argTypes:=ts }=>match args.toList,ts[0]? with
  | [x],some t=>match P.underlying t with
   |some .string=>some (.k1 x (xO fl))
   |some (.slice _)=>some (.k1 x (bh fl))
   |some (.map _ _)=>some (.k1 x (lR fl))
   |_=>none
  |_,_=>none
 | .call { callee:=.builtin .min,args:=args,.. }=>match args.toList with
  | [a,b]=>some (.k2 a b (DP fl))
  |_=>none
 | .call { callee:=.builtin .max,args:=args,.. }=>match args.toList with
  | [a,b]=>some (.k2 a b (Oi fl))
  |_=>none
 |_=>none
def Ca:List UInt8->(List Value->β)->β
 | [],Y=>Y []
 |b::bs,Y=>vQ b.toNat λn=>Ca bs λl=>Y (.int .u8 (.ofNat n)::l)
def qu(e:TypeId)(v:Value)(h:ah)(Y:XW β):β:=
 match v with
 | .string s=>Ca s.data.toList λl=>SV l .nil 0 λc n=>match Nat.ble n 1000000000000 with
  |true=>aF fl (.ro n c e) h λb h=>Y (.slice (some ⟨b,0,none⟩) n aS) h
  |false=>fl
 |_=>fl
def u8K:List Value->(List UInt8->β)->β
 | [],Y=>Y []
 | .int .u8 (.ofNat n)::l,Y=>u8K l λbs=>Y (UInt8.ofNat n::bs)
 |_,_=>fl
def DQ(v:Value)(h:ah)(Y:XW β):β:=
 match v with
 | .slice a n c=>fo fl h 1 n (.slice a n c) λl=>u8K fl l λbs=>Y (.string ⟨⟨bs⟩⟩) h
 |_=>fl
def Bb(both:β->β->β)(P:Program):Op->Option (XI β)
 | .store t a x=>match fV P t with
  |some s=>some (.k2 a x (aM fl s))
  |none=>none
 | .mapUpdate t m k x | .insert t m k x=>match P.underlying t with
  |some (.map kt _)=>some (.k3 m k x (bY fl P kt))
  |_=>none
 | .mapEntry t m k=>match P.underlying t with
  |some (.map kt et)=>match(P.info? et).bind (·.zero)with
   |some z=>match qq z with
    |true=>some (.k2 m k (oc fl P kt z))
    |false=>none
   |none=>none
  |_=>none
 | .entryStore _ m s x=>some (.k3 m s x (kq fl))
 | .range t x=>match P.underlying t with
  |some (.map _ _)=>some (.k1 x (oU fl))
  |_=>none
 | .entry it=>some (.k1 it (oW fl))
 | .convert src dst x=>match P.underlying src,P.underlying dst with
  |some .string,some (.slice e)=>match P.underlying e,fV P e with
   |some (.int .u8),some 1=>some (.k1 x (qu fl e))
   |_,_=>none
  |some (.slice e),some .string=>match P.underlying e with
   |some (.int .u8)=>some (.k1 x (DQ fl))
   |_=>none
  |_,_=>none
 | .call { callee:=.builtin b,args:=args,argTypes:=ts,.. }=>match b,args.toList with
  | .append,[s,x]=>match ts[0]?,ts[1]? with
   |some st,some xt=>match P.underlying st with
    |some (.slice e)=>match P.info? e,P.underlying xt with
     |some inf,some xd=>match W5 P e,Nat.ble inf.bytes 10000 with
      |some (z,size),true=>some (.k2 s x (bt fl both e size z (sR xd)))
      |_,_=>none
     |_,_=>none
    |_=>none
   |_,_=>none
  | .copy,[d,x]=>match ts[0]? with
   |some t=>match P.underlying t with
    |some (.slice e)=>match fV P e with
     |some s=>some (.k2 d x (DN fl s))
     |none=>none
    |_=>none
   |none=>none
  | .clear,[x]=>match ts[0]? with
   |some t=>match P.underlying t with
    |some (.slice e)=>match zeroOf P e with
     |some z=>some (.k1 x (jE fl z))
     |none=>none
    |some (.map _ _)=>some (.k1 x λv h Y=>match v with | .map m=>jE fl [] (.map m) h Y|_=>fl)
    |_=>none
   |none=>none
  | .cap,[x]=>match ts[0]? with
   |some t=>match P.underlying t with
    |some (.slice _)=>some (.k1 x λv h Y=>match v with
     | .slice _ _ cap=>(match Nat.ble cap 1000000000 with|true=>Y (.int .i64 (.ofNat cap)) h|false=>fl)
     |_=>fl)
    |_=>none
   |none=>none
  | .delete,[m,k]=>match ts[0]? with
   |some t=>match P.underlying t with
    |some (.map kt _)=>some (.k2 m k (mT fl P kt))
    |_=>none
   |none=>none
  | .min,[a,b]=>some (.k2 a b λa b h Y=>match a,b with
   | .int k a,.int _ b=>(match wM b a with|true=>Y (.int k b) h|false=>Y (.int k a) h)
   |_,_=>fl)
  | .max,[a,b]=>some (.k2 a b λa b h Y=>match a,b with
   | .int k a,.int _ b=>(match wM a b with|true=>Y (.int k b) h|false=>Y (.int k a) h)
   |_,_=>fl)
  |_,_=>none
 |_=>none
def Cb(P:Program)(t:TypeId)(name:String):Option FuncId:=
 match P.info? t,P.underlying t with
 |some i,some d=>match i.methods.find? (·.name == name)with
  |some m=>match m.path.isEmpty,m.func,d with
   |true,some (f,true),.pointer _=>some f
   |true,some (_,false),.pointer _=>none
   |true,some (f,false),_=>some f
   |_,_,_=>none
  |none=>none
 |_,_=>none
def xe(P:Program)(t:TypeId)(name:String):Option (FuncId × Nat × TypeId):=
 match P.info? t with
 |some i=>match i.methods.find? (·.name == name)with
  |some m=>match m.path.toList,m.func with
   | [s],some (f,false)=>match s.deref,P.underlying s.struct with
    |true,some (.struct fs)=>match fs[s.index]? with
     |some uX=>match oa P uX.type,fV P uX.type,P.underlying uX.type with
      |some false,some (_+1),some (.slice _)=>some (f,uX.offset,uX.type)
      |_,_,_=>none
     |none=>none
    |_,_=>none
   |_,_=>none
  |none=>none
 |none=>none
def xg(P:Program)(t:TypeId)(name:String):Option (FuncId × TypeId):=
 match P.info? t,P.underlying t with
 |some i,some (.pointer e)=>match i.methods.find? (·.name == name)with
  |some m=>match m.path.toList,m.func,oa P e with
   | [],some (f,false),some false=>some (f,e)
   |_,_,_=>none
  |none=>none
 |_,_=>none
def Cc(vs:List Value):T Value->Nat->(T Value->β)->β:=
 List.rec (motive:=λ_=>T Value->Nat->(T Value->β)->β) (λtm _ Y=>Y tm)
  (λv _ ih tm i Y=>T.set tm i v λtm=>ih tm (Nat.succ i) Y) vs
inductive AB where
 |tmp (t:Nat)
 |one (a:Nat)
 |agg (a s:Nat)
 |bad
def vR(P:Program):ResultVar->AB
 | .tmp t=>.tmp t
 | .cell a t=>match oa P t,fV P t with
  |some true,some s=>.agg a s
  |some false,some _=>.one a
  |_,_=>.bad
def eU(h:ah)(tm:T Value):List AB->(List Value->β)->β
 | [],Y=>Y []
 | .tmp t::rs,Y=>ev tm (.tmp t) λv=>eU h tm rs λvs=>Y (v::vs)
 | .one a::rs,Y=>ev tm (.tmp a) λa=>ax fl a h λv _=>eU h tm rs λvs=>Y (v::vs)
 | .agg a s::rs,Y=>ev tm (.tmp a) λa=>aN fl s a h λv _=>eU h tm rs λvs=>Y (v::vs)
 | .bad::_,_=>fl
def DR(nt:Nat):Operand->Bool
 | .tmp t=>Nat.ble (Nat.succ t) nt
 | .global _=>false
 | .const v=>qq v
 | .func _=>true
def fG(nt:Nat)(o:Oper):Bool:=o.op.operands.toList.all (DR nt) && (match o.dst with|some d=>Nat.ble (Nat.succ d) nt|none=>true)
def qw:Code->Bool
 | .seq a b | .cond _ a b=>qw a && qw b
 | .block _ c | .loop c | .scope c=>qw c
 | .rangeFunc ..=>false
 |_=>true
def codeOk(nt:Nat):Code->Bool
 | .rangeFunc g ps a b=>DR nt g && ps.toList.all (λt=>Nat.ble (Nat.succ t) nt) && codeOk nt a && codeOk nt b && qw a && qw b
 | .region _ ops _=>ops.toList.all (fG nt)
 | .seq a b=>codeOk nt a && codeOk nt b
 | .cond c a b=>DR nt c && codeOk nt a && codeOk nt b
 | .block _ c | .loop c | .scope c=>codeOk nt c
 |_=>true
def Oj(nt:Nat):ResultVar->Bool
 | .tmp t=>Nat.ble (Nat.succ t) nt
 | .cell a _=>Nat.ble (Nat.succ a) nt
inductive XFn where
 |none
 |mk (c:Code) (rs:List AB) (nt:Nat)
def xT(P:Program)(f:FuncId):XFn:=
 match P.funcs[f]? with
 | some fn => match fn.name == "runtime.NumGoroutine" with
  |true=>.none
  |false=>match fn.body with
   |some c=>match codeOk fn.ntmps c && fn.results.toList.all (Oj fn.ntmps) && Nat.ble fn.ntmps 1000000000000 with
    |true=>.mk c (fn.results.toList.map (vR P)) fn.ntmps
    |false=>.none
   |none=>.none
 |none=>.none
def Ol(Y:XW β)(h:ah):List Value->β
 | [v]=>Y v h
 |vs=>Y (.tuple ⟨vs⟩) h
abbrev Rec(β:Type):=Code->T Value->ah->(Ex->T Value->ah->β)->β
structure ku(β:Type) where
 fn:FuncId->Option (List Value->ah->(XW β)->β)
 both:β->β->β
def wN(rs:List AB)(Y:XW β)(e:Ex)(tm:T Value)(h:ah):β:=
 match e with
 | .exit _=>fl
 |_=>eU fl h tm rs λvs=>Ol Y h vs
variable (pr:ku β)
def jG(P:Program)(rec:Rec β)(f:FuncId)(args:List Value)(h:ah)(Y:XW β):β:=
 match pr.fn f with
 |some g=>g args h Y
 |none=>match xT P f with
  | .none=>fl
  | .mk c rs nt=>match Nat.ble args.length nt with
   |true=>Cc args .nil 0 λtm=>rec c tm h (wN fl rs Y)
   |false=>fl
def jr(l:Nat)(Y:XW β)(e:Ex)(_tm:T Value)(h:ah):β:=
 match h.bl.get l with
 |some (.loop _ _ lE ps a b)=>match e with
  | .normal=>setBlock fl l (.loop .ready none lE ps a b) h λh=>Y (.bool true) h
  |e=>setBlock fl l (.loop .done (some e) lE ps a b) h λh=>Y (.bool false) h
 |_=>fl
def fu(rec:Rec β)(l:Nat)(bd:Code)(Y:XW β)(e:Ex)(tm:T Value)(h:ah):β:=
 match e with
 | .normal=>match h.bl.get l with
  |some (.loop .ready lM lE ps a b)=>setBlock fl l (.loop .busy lM lE ps a b) h λh=>rec bd tm h (jr fl l Y)
  |_=>fl
 |_=>fl
def sI:List Nat->List Value->T Value->(T Value->β)->β
 |p::ps,v::vs,tm,Y=>T.set tm p v λtm=>sI ps vs tm Y
 |_,_,tm,Y=>Y tm
def oZ(rec:Rec β)(l:Nat)(args:List Value)(h:ah)(Y:XW β):β:=
 match h.bl.get l with
 |some (.loop _ _ lE ps a b)=>match Nat.beq args.length ps.length with
  |true=>sI ps args lE λtm=>rec a tm h (fu fl rec l b Y)
  |false=>fl
 |_=>fl
def fH(l:Nat)(tm:T Value)(Y:Ex->T Value->ah->β)(_v:Value)(h:ah):β:=
 match h.bl.get l with
 |some (.loop st lM lE ps a b)=>match st with
  | .busy=>fl
  |_=>setBlock fl l (.loop .exhausted lM lE ps a b) h λh=>match lM with
   |none=>Y .normal tm h
   |some e=>Y e tm h
 |_=>fl
def sJ(P:Program)(rec:Rec β)(fv:Value)(args:List Value)(h:ah)(Y:XW β):β:=
  match fv with
  | .func (.func f) first cap=>jG fl pr P rec f (first.toList++args++cap.toList) h Y
  | .func (.yield l) first cap=>(match first.toList,cap.toList with
   | [],[]=>oZ fl rec l args h Y
   |_,_=>fl)
  |_=>fl
def fe(P:Program)(rec:Rec β)(ps:List Nat)(a b:Code)(tm:T Value)(h:ah)(Y:Ex->T Value->ah->β)(gv:Value):β:=
 match gv with
 | .func (.func f) first cap=>aF fl (.loop .ready none tm ps a b) h λl h=>jG fl pr P rec f (first.toList++[.func (.yield l) #[] #[]]++cap.toList) h (fH fl l tm Y)
 |_=>fl
def Om(P:Program)(rec:Rec β)(name:String)(r:Value)(args:List Value)(h:ah)(Y:XW β):β:=
 match r with
 | .iface t v=>match Cb P t name with
     |some f=>jG fl pr P rec f (v::args) h Y
     |none=>match xe P t name with
      |some (f,off,_)=>af fl off v h λa h=>ax fl a h λv h=>jG fl pr P rec f (v::args) h Y
      |none=>match xg P t name with
       |some (f,_)=>ax fl v h λv h=>jG fl pr P rec f (v::args) h Y
       |none=>fl
 |_=>fl
abbrev XF(β:Type):=T Value->ah->(XW β)->β
inductive XO(β:Type) where
 |mk (g:Option (Nat × Bool)) (d:Option Nat) (f:Rec β->XF β)
def oe(P:Program)(c:Call):Rec β->XF β:=
 match c.callee with
 | .value (.func f)=>λrec tm h Y=>NW tm c.args.toList λargs=>jG fl pr P rec f args h Y
 | .value x=>λrec tm h Y=>NW tm c.args.toList λargs=>ev tm x λfv=>sJ fl pr P rec fv args h Y
 | .invoke r name=>λrec tm h Y=>NW tm c.args.toList λargs=>ev tm r λr=>Om fl pr P rec name r args h Y
 | .builtin _=>λ_ _ _ _=>fl
def qy(P:Program)(op:Op):Rec β->XF β:=
 match pU fl P op with
 |some i=>λ_ tm h Y=>i.run tm h Y
 |none=>match sH fl P op with
  |some i=>λ_ tm h Y=>i.run tm λo mk=>aF fl o h λb h=>Y (mk b) h
  |none=>match Bb fl pr.both P op with
   |some i=>λ_ tm h Y=>i.run tm h Y
   |none=>match op with
    | .call c=>oe fl pr P c
    | .next it false=>λ_ tm h Y=>ev tm it λit=>sG fl pr.both it h Y
    |_=>λ_ _ _ _=>fl
def guardOf(all:List Oper)(o:Oper):Option (Option (Nat × Bool)):=
 match o.guard with
 |none=>some none
 | some (j,w)=>match all[j]? with
   |some { dst:=some d,.. }=>some (some (d,w))
   |_=>none
inductive XFB(β:Type) where
 |mk (f:Rec β->XF β)
def Bc(P:Program)(all:List Oper)(o:Oper):XO β:=
 match guardOf all o,XFB.mk (qy fl pr P o.op)with
 |some g,.mk f=>.mk g o.dst f
 |none,_=>.mk none none λ_ _ _ _=>fl
def qh(tm:T Value)(d:Option Nat)(v:Value)(h:ah)(Y:T Value->ah->β):β:=
 Option.rec (motive:=λ_=>β) (Y tm h) (λd=>T.set tm d v λtm=>Y tm h) d
def gE(tm:T Value)(g:Option (Nat × Bool)):Bool:=
 match g with
 |none=>true
 |some (s,w)=>match cZ tm s,w with
  | .bool true,true=>true
  | .bool false,false=>true
  |_,_=>false
def o_(P:Program)(rec:Rec β)(all os:List Oper):T Value->ah->(T Value->ah->β)->β:=
 List.rec (motive:=λ_=>T Value->ah->(T Value->ah->β)->β) (λtm h Y=>Y tm h)
  (λo _ ih tm h Y=>XO.rec (motive:=λ_=>β)
   (λg d f=>Bool.rec (motive:=λ_=>β) (qh tm d undef h λtm h=>ih tm h Y)
    (f rec tm h λv h=>qh tm d v h λtm h=>ih tm h Y) (gE tm g))
   (Bc fl pr P all o)) os
def sq(rec:Rec β)(b:Code)(Y:Ex->T Value->ah->β)(e:Ex)(tm:T Value)(h:ah):β:=
 match e with | .normal=>rec b tm h Y|e=>Y e tm h
def kQ(id:Nat)(Y:Ex->T Value->ah->β)(e:Ex)(tm:T Value)(h:ah):β:=
 match e with | .exit i=>(match Nat.beq i id with|true=>Y .normal tm h|false=>Y (.exit i) tm h)|e=>Y e tm h
def qz(rec:Rec β)(a b:Code)(tm:T Value)(h:ah)(Y:Ex->T Value->ah->β)(v:Value):β:=
 match v with
   | .bool true=>rec a tm h Y
   | .bool false=>rec b tm h Y
   |_=>fl
end
abbrev KQ:=Value->ah->Prop
abbrev X1(n : Int):Value := .int .i64 n
abbrev X3(b : Nat):Value := .pointer (some ⟨b, 0, none⟩)
abbrev X9(b n c : Nat):Value := .slice (some ⟨b, 0, none⟩) n c
end Go.Vai

namespace Go.Vai
section
variable {β:Type}(fl:β)(pr:ku β)
abbrev Vv:=XI (Option Value)
abbrev OXA:=XA (Option (bT × (Nat->Value)))
inductive Cls where
 |rd (x:Vv)
 |al (x:OXA)
 |wr
def iW(P:Program)(op:Op):Cls:=
 match op with
 | .assign _=>.wr
 |op=>match pU (β:=Option Value) none P op with
  |some x=>.rd x
  |none=>match sH (β:=Option (bT × (Nat->Value))) none P op with
   |some x=>.al x
   |none=>.wr
def g_(P:Program)(o:Oper):Bool:=match iW P o.op with | .wr=>true|_=>false
def bit(m i:Nat):Bool:=Nat.testBit m i
def fW(m i:Nat):Nat:=Nat.lor m (Nat.pow 2 i)
def de(o:Oper):List Nat:=(o.after.toList.filter λe=>Region.binds .any e).map (·.on)
def qA(D:Nat)(o:Oper):Bool:=(de o).all λe=>bit D e
abbrev It:=Nat × Oper
def fR(os:List Oper)(i:Nat):List It:=match os with
 | []=>[]
 |o::os=>(i,o)::fR os (Nat.succ i)
def On(P:Program):List It->Nat->(List Nat->List It->Nat->β)->β
 | [],D,Y=>Y [] [] D
 |(i,o)::r,D,Y=>match qA D o && !g_ P o with
  |true=>On P r (fW D i) λex rem D=>Y (i::ex) rem D
  |false=>On P r D λex rem D=>Y ex ((i,o)::rem) D
def xU(P:Program)(D:Nat):List It->Option (Nat × List It)
 | []=>none
 |(i,o)::r=>match qA D o with
  |true=>some (i,r)
  |false=>match xU P D r with|some (w,r)=>some (w,(i,o)::r)|none=>none
def Oo(P:Program):Nat->List It->Nat->Option (List Nat)
 |0,_,_=>none
 |n+1,rem,D=>On P rem D λex rem D=>match rem with
  | []=>some ex
  |_=>match xU P D rem with
   |none=>none
   |some (w,rem)=>match Oo P n rem (fW D w)with
    |some l=>some (ex++w::l)
    |none=>none
def SX(P:Program)(os:List Oper):Option (List Nat):=Oo P os.length (fR os 0) 0
def dD(os:List Oper)(o:Oper):List Nat:=
 (o.op.operands.toList.filterMap λ| .tmp t=>some t|_=>none)++
 (match o.guard with|some (g,_)=>((os[g]?).bind (·.dst)).toList|none=>[])
def Oq(os:List Oper):Nat->Nat->Nat
 |0,m=>m
 |i+1,m=>match bit m i,os[i]? with
  |true,some o=>Oq os i ((de o).foldl fW m)
  |_,_=>Oq os i m
def sK(os:List Oper)(w:Nat):Nat:=match os[w]? with
 |some o=>Oq os w ((de o).foldl fW 0)
 |none=>0
def Bd(o:Oper)(t:Nat):Bool:=match o.dst with|some d=>Nat.beq d t|none=>false
def SY(P:Program)(os:List Oper)(uY:List It)(D M i:Nat)(o:Oper):Bool:=
 !bit D i && qA D o && (guardOf os o).isSome &&
 (uY.all λ(k,q)=>g_ P q || !((dD os o).any (Bd q)) || (de o).contains k) &&
 match g_ P o with
 |false=>uY.all λ(k,q)=>Nat.beq k i || g_ P q || (match o.dst with|some d=>!Bd q d|none=>true)
 |true=>
  (uY.all λ(k,q)=>Nat.beq k i || bit D k || !qA D q) &&
  (uY.all λ(k,q)=>!bit D k || g_ P q || bit M k || (match o.dst with|some d=>!Bd q d && !((dD os q).any (Nat.beq d))|none=>true))
def nJ(P:Program)(os:List Oper):List Nat->Nat->Nat->Bool
 | [],D,_=>(fR os 0).all λ(k,_)=>bit D k
 |i::is,D,M=>match os[i]? with
  |none=>false
  |some o=>
   let M':=match g_ P o with|true=>Nat.lor M (sK os i)|false=>M
   SY P os (fR os 0) D M' i o && nJ P os is (fW D i) M'
def kY(x:Vv)(tm:T Value)(h:ah):Option Value:=x.run tm h λv _=>some v
def xV(x:OXA)(tm:T Value):Option (bT × (Nat->Value)):=x.run tm λo mk=>some (o,mk)
def vS(P:Program)(os:List Oper)(D M:Nat)(tm:T Value)(h:ah):List It->Bool
 | []=>true
 |(k,q)::uY=>match bit D k && !bit M k,iW P q.op with
  |true,.rd x=>(match guardOf os q with
   |some g=>(match gE tm g with
    |true=>(match kY x tm h,q.dst with
     |some v,some d=>je 8 v (cZ tm d)
     |some _,none=>true
     |none,_=>false)
    |false=>true)
   |none=>false) && vS P os D M tm h uY
  |_,_=>vS P os D M tm h uY
def Be(P:Program)(D M:Nat)(uY:List It):Bool:=uY.any λ(k,q)=>bit D k && !bit M k && (match iW P q.op with | .rd _=>true|_=>false)
def kz(P:Program)(rec:Rec β)(os:List Oper)(D M:Nat)(o:Oper)(tm:T Value)(h:ah)(Y:T Value->ah->β):β:=
 match guardOf os o with
 |none=>fl
 |some g=>match gE tm g with
  |false=>qh tm o.dst undef h Y
  |true=>match iW P o.op with
   | .rd x=>match kY x tm h with
    |some v=>qh tm o.dst v h Y
    |none=>fl
   | .al x=>match xV x tm with
    |some (b,mk)=>aF fl b h λn h=>qh tm o.dst (mk n) h Y
    |none=>fl
   | .wr=>qy fl pr P o.op rec tm h λv h=>qh tm o.dst v h λtm h=>
     match Be P D M (fR os 0)with
     |false=>Y tm h
     |true=>match vS P os D M tm h (fR os 0)with
      |true=>Y tm h
      |false=>fl
def jH(P:Program)(rec:Rec β)(os:List Oper):List Nat->Nat->Nat->T Value->ah->(T Value->ah->β)->β
 | [],_,_,tm,h,Y=>Y tm h
 |i::is,D,M,tm,h,Y=>match os[i]? with
  |none=>fl
  |some o=>
   let M':=match g_ P o with|true=>Nat.lor M (sK os i)|false=>M
   kz fl pr P rec os D M' o tm h λtm h=>jH P rec os is (fW D i) M' tm h Y
def Cd(P:Program)(os:List Oper):Option (List Nat):=match SX P os with
 |some l=>match nJ P os l 0 0 && (fR os 0).all λ(k,q)=>(de q).all λe=>Nat.ble (Nat.succ e) k with
  |true=>some l
  |false=>none
 |none=>none
def lG(P:Program)(rec:Rec β)(os:List Oper)(draw:Bool)(tm:T Value)(h:ah)(Y:T Value->ah->β):β:=
 match draw with
 |false=>o_ fl pr P rec os os tm h Y
 |true=>match Cd P os with
  |some l=>jH fl pr P rec os l 0 0 tm h Y
  |none=>fl
def body(P:Program)(rec:Rec β)(c:Code)(tm:T Value)(h:ah)(Y:Ex->T Value->ah->β):β:=
  match c with
  | .skip=>Y .normal tm h
  | .label _=>Y .normal tm h
  | .region _ os draw=>lG fl pr P rec os.toList draw tm h λtm h=>Y .normal tm h
  | .seq a b=>rec a tm h (sq rec b Y)
  | .cond c a b=>ev tm c (qz fl rec a b tm h Y)
  | .block id c=>rec c tm h (kQ id Y)
  | .scope c=>rec c tm h Y
  | .loop c=>rec c tm h (sq rec (.loop c) Y)
  | .exit id=>Y (.exit id) tm h
  | .ret=>Y .ret tm h
  | .rangeFunc g ps a b=>ev tm g (fe fl pr P rec ps.toList a b tm h Y)
  |_=>fl
def run(P:Program)(n:Nat):Rec β:=
 Nat.rec (motive:=λ_=>Rec β) (λ_ _ _ _=>fl) (λ_ ih=>body fl pr P ih) n
end
end Go.Vai

namespace Go.Vai
theorem T.tN{α:Type}(p:List Bool):T.Mo p (T.nil:T α)=none:=by
 cases p<;>rfl
theorem Mp(f n:Nat):SU (f+1) n=if n=0 then[]else Nat.beq (n % 2) 1::SU f ((n-1) / 2):=by
 cases n with
 |zero=>rfl
 |succ n=>rw[if_neg XV];rfl
def Bf:List Bool->Nat
 | []=>0
 |true::p=>2*Bf p+1
 |false::p=>2*Bf p+2
theorem xW:∀(f n:Nat),n<2 ^ f->Bf (SU f n)=n:=by
 intro f
 induction f with
 | zero=>intro n h;have:n=0:=by simp at h;omega
         subst this;rfl
 |succ f ih=>
  intro n h;rw[Mp];by_cases h0:n=0
  .simp[h0,Bf]
  .rw[if_neg h0];have h2:(n-1) / 2<2 ^ f:=by rw[Nat.pow_succ]at h;omega
   have:=ih _ h2;by_cases h1:n % 2=1
   .have hb:Nat.beq (n % 2) 1=true:=by rw[h1];rfl
    rw[hb];simp only[Bf,this];omega
   ·have hb:Nat.beq (n % 2) 1=false:=by
     have:n % 2=0:=by omega
     rw[this];rfl
    rw[hb];simp only[Bf,this];omega
def Small(n:Nat):Prop:=n<n+1
theorem key_inj{a b:Nat}(ha:Small a)(hb:Small b)(h:key a=key b):a=b:=by
 have h1:=xW a a Nat.lt_two_pow_self;have h2:=xW b b Nat.lt_two_pow_self;unfold key at h;rw[<-h1,<-h2,h]
def T.pe{α:Type}(a:α):List Bool->T α->T α
 | [],.nil=>.node .nil (some a) .nil
 | [],.node l _ r=>.node l (some a) r
 |false::p,.nil=>.node (T.pe a p .nil) none .nil
 |true::p,.nil=>.node .nil none (T.pe a p .nil)
 |false::p,.node l v r=>.node (T.pe a p l) v r
 |true::p,.node l v r=>.node l v (T.pe a p r)
theorem T.SZ{α β:Type}(a:α)(p:List Bool):∀(t:T α)(Y:T α->β),T.aco a p t Y=Y (T.pe a p t):=by
 induction p with
 |nil=>intro t Y;cases t<;>rfl
 |cons b p ih=>
  intro t Y;cases t<;>cases b<;>simp only[T.pe]<;>exact ih _ _
theorem T.xX{α:Type}(a:α)(p:List Bool):∀t:T α,T.Mo p (T.pe a p t)=some a:=by
 induction p with
 |nil=>intro t;cases t<;>rfl
 |cons b p ih=>intro t;cases t<;>cases b<;>exact ih _
theorem T.Ce{α:Type}(a:α)(p:List Bool):∀(q:List Bool)(t:T α),p≠q->T.Mo q (T.pe a p t)=T.Mo q t:=by
 induction p with
 |nil=>
  intro q t h;cases q with
  |nil=>exact absurd rfl h
  |cons c q=>cases t<;>cases c<;>first|rfl|exact T.tN q
 |cons b p ih=>
  intro q t h;cases q with
  |nil=>cases t<;>cases b<;>rfl
  |cons c q=>
   have hpq:b=c->p≠q:=λe e'=>h (by rw[e,e']);cases b<;>cases c<;>cases t<;>simp only[T.pe]<;>
    first
     |exact ih q _ (hpq rfl)
     |(refine(ih q T.nil (hpq rfl)).trans ?_;rw[T.tN];rfl)
     |(show T.Mo q T.nil=_;rw[T.tN];rfl)
     |rfl
def T.bx{α:Type}(t:T α)(n:Nat)(a:α):T α:=T.pe a (key n) t
theorem T.cQ{α β:Type}(t:T α)(n:Nat)(a:α)(Y:T α->β):T.set t n a Y=Y (t.bx n a):=T.SZ _ _ _ _
theorem T.an{α:Type}(t:T α)(n:Nat)(a:α):(t.bx n a).get n=some a:=T.xX _ _ _
theorem T.iI{α:Type}(t:T α){n m:Nat}(a:α)(hn:Small n)(hm:Small m)(h:n≠m):(t.bx n a).get m=t.get m:=
 T.Ce _ _ _ _ λe=>h (key_inj hn hm e)
theorem T.mV{α:Type}(t:T α){n m:Nat}(a:α)(hn:Small n)(hm:Small m):(t.bx n a).get m=if n=m then some a else t.get m:=by
 by_cases h:n=m
 .subst h;simp[T.an]
 .simp[h,T.iI t a hn hm h]
theorem T.get_nil{α:Type}(n:Nat):(T.nil:T α).get n=none:=T.tN _
section
variable {β:Type}
@[simp] theorem bR(n:Nat)(Y:Nat→β):vQ n Y=Y n:=by cases n<;>rfl
@[simp] theorem gI(i:Int)(Y:Int→β):Iz i Y=Y i:=by
 cases i with
 |ofNat n=>exact bR n λn=>Y (.ofNat n)
 |negSucc n=>exact bR n λn=>Y (.negSucc n)
@[simp] theorem cF(b:Bool)(Y:Bool→β):Ki b Y=Y b:=by cases b<;>rfl
theorem iq(a b:Int):wM a b=decide (a<b):=by
 cases a<;>cases b<;>simp only[wM]
 .rename_i a b;rw[Bool.eq_iff_iff];simp[Nat.ble_eq];omega
 .rename_i a b
  symm;simp;omega
 .rename_i a b
  symm;simp;omega
 .rename_i a b;rw[Bool.eq_iff_iff];simp[Nat.ble_eq];omega
theorem fS(a b:Int):nY a b=decide (a=b):=by
 cases a<;>cases b<;>simp only[nY]
 .rename_i a b;rw[Bool.eq_iff_iff];simp[Nat.beq_eq];omega
 .symm;simp
 .symm;simp
 .rename_i a b;rw[Bool.eq_iff_iff];simp[Nat.beq_eq]
theorem gU(a b:IntKind):fU a b=decide (a=b):=by cases a<;>cases b<;>rfl
theorem ef(k:IntKind)(n:Int):nZ k n=k.wrap n:=by
 cases k<;>cases n<;>simp only[nZ]
 case i64.ofNat m=>
  split
  .rename_i h;have h:=Nat.le_of_ble_eq_true h;exact(IntWalk.i64_in _ ⟨by show _<=(m:Int);omega,by show(m:Int)<=_;omega⟩).symm
  .rfl
 case i64.negSucc m=>
  split
  .rename_i h;have h:=Nat.le_of_ble_eq_true h;have e:Int.negSucc m = -((m:Int)+1):=by omega
   exact(IntWalk.i64_in _ ⟨by rw[e];omega,by rw[e];omega⟩).symm
  .rfl
 case u8.ofNat m=>
  simp only[IntKind.wrap,IntKind.bits,IntKind.signed];simp;rfl
 case u32.ofNat m=>
  simp only[IntKind.wrap,IntKind.bits,IntKind.signed];simp;rfl
 case u64.ofNat m=>
  simp only[IntKind.wrap,IntKind.bits,IntKind.signed];simp;rfl
theorem IB:∀a b:List UInt8,rK a b=decide (a=b):=by
 intro a
 induction a with
 |nil=>intro b;cases b<;>simp[rK]
 |cons x a ih=>
  intro b;cases b with
  |nil=>simp[rK]
  |cons y b=>
   simp only[rK];cases h:Nat.beq x.toNat y.toNat
   .have:x≠y:=λe=>by subst e;simp[Nat.beq_refl]at h
    simp[this]
   .have:x=y:=UInt8.toNat_inj.1 (Nat.eq_of_beq_eq_true h);simp[this,ih b]
theorem kE(a b:ByteArray):lP a b=decide (a=b):=by
 unfold lP;rw[IB];by_cases h:a=b
 .simp[h]
 ·have:a.data.toList≠b.data.toList:=λe=>h (by
   cases a;cases b;simp at e;simp[e])
  simp[h,this]
theorem fZ(tm:T Value)(x:Operand)(Y:Value->β):ev tm x Y=Y (fQ tm x):=by
 cases x<;>simp only[ev,fQ,cZ];split<;>simp_all
theorem sS(tm:T Value)(xs:List Operand)(Y:List Value->β):NW tm xs Y=Y (xs.map (fQ tm)):=by
 induction xs generalizing Y with
 |nil=>rfl
 |cons x xs ih=>simp only[NW,fZ,ih,List.map_cons]
theorem XI.cT(x f)(tm:T Value)(h:ah)(Y:XW β):(XI.k1 x f).run tm h Y=f (fQ tm x) h Y:=fZ _ _ _
theorem XI.dN(x y f)(tm:T Value)(h:ah)(Y:XW β):(XI.k2 x y f).run tm h Y=f (fQ tm x) (fQ tm y) h Y:=by
 show ev _ _ _=_;simp only[fZ]
theorem XI.qB(x y z f)(tm:T Value)(h:ah)(Y:XW β):(XI.k3 x y z f).run tm h Y=f (fQ tm x) (fQ tm y) (fQ tm z) h Y:=by
 show ev _ _ _=_;simp only[fZ]
theorem XI.i_(xs f)(tm:T Value)(h:ah)(Y:XW β):(XI.kn xs f).run tm h Y=f (xs.map (fQ tm)) h Y:=sS _ _ _
theorem XA.Ot(f)(tm:T Value)(Y:bT->(Nat->Value)->β):(XA.k0 f).run tm Y=f Y:=rfl
theorem XA.cT(x f)(tm:T Value)(Y:bT->(Nat->Value)->β):(XA.k1 x f).run tm Y=f (fQ tm x) Y:=fZ _ _ _
theorem XA.dN(x y f)(tm:T Value)(Y:bT->(Nat->Value)->β):(XA.k2 x y f).run tm Y=f (fQ tm x) (fQ tm y) Y:=by
 show ev _ _ _=_;simp only[fZ]
theorem XA.i_(xs f)(tm:T Value)(Y:bT->(Nat->Value)->β):(XA.kn xs f).run tm Y=f (xs.map (fQ tm)) Y:=sS _ _ _
end
structure Pl where
 B:Nat
 sz:Nat
 e:Nat
abbrev ej:=Nat->Option Pl
inductive VR(φ:ej):Value->Value->Prop where
 |bool (b:Bool):VR φ (.bool b) (.bool b)
 |int (k:IntKind) (n:Int):VR φ (.int k n) (.int k n)
 |string (s:ByteArray):VR φ (.string s) (.string s)
 |nilFunc:VR φ .nilFunc .nilFunc
 |nilIface:VR φ .nilIface .nilIface
 |xY:VR φ (.pointer none) (.pointer none)
 |ptr {b o:Nat} {pl:Pl} (h:φ b=some pl):VR φ (.pointer (some ⟨b,o,none⟩)) (.pointer (some ⟨pl.B,o,none⟩))
 |f_ {n c:Nat} (h:n<=c):VR φ (.slice none n c) (.slice none n c)
 |slice {b o n c:Nat} {pl:Pl} (h:φ b=some pl) (hn:n<=c) (hc:c<aS):VR φ (.slice (some ⟨b,o,none⟩) n c) (.slice (some ⟨pl.B,o,none⟩) n c)
 | cw {b o n c:Nat} {pl:Pl} (h:φ b=some pl) (hn:n<=c) (hc:c*pl.e+o=pl.sz) :
   VR φ (.slice (some ⟨b,o,none⟩) n aS) (.slice (some ⟨pl.B,o,none⟩) n c)
 |dU (a a':Addr) (c:Nat):VR φ (.slice (some a) 0 fT) (.slice (some a') 0 c)
 |dO {b o c:Nat} {pl:Pl} (a':Addr) (h:φ b=some pl) (hc:c=0\/(a'=⟨pl.B,o,none⟩/\c*pl.e+o=pl.sz)):VR φ (.slice (some ⟨b,o,none⟩) 0 gH) (.slice (some a') 0 c)
 |xZ:VR φ (.map none) (.map none)
 |map {b:Nat} {pl:Pl} (h:φ b=some pl):VR φ (.map (some b)) (.map (some pl.B))
 |yield {b:Nat} {pl:Pl} (h:φ b=some pl):VR φ (.func (.yield b) #[] #[]) (.func (.yield pl.B) #[] #[])
 | func (fn:FuncId) (a a' b b':Array Value) (ha:a.toList.length=a'.toList.length) (hb:b.toList.length=b'.toList.length)
   (Il:∀(i:Nat)(v v':Value),a.toList[i]? = some v->a'.toList[i]? = some v'->VR φ v v')
   (hvb:∀(i:Nat)(v v':Value),b.toList[i]? = some v->b'.toList[i]? = some v'->VR φ v v'):VR φ (.func (.func fn) a b) (.func (.func fn) a' b')
 |iface (t:TypeId) {v v':Value} (h:VR φ v v'):VR φ (.iface t v) (.iface t v')
 | agg (a a':Array Value) (ha:a.toList.length=a'.toList.length)
   (Il:∀(i:Nat)(v v':Value),a.toList[i]? = some v->a'.toList[i]? = some v'->VR φ v v'):VR φ (.agg a) (.agg a')
 | tuple (a a':Array Value) (ha:a.toList.length=a'.toList.length)
   (Il:∀(i:Nat)(v v':Value),a.toList[i]? = some v->a'.toList[i]? = some v'->VR φ v v'):VR φ (.tuple a) (.tuple a')
inductive F2{α γ:Type}(R:α->γ->Prop):List α->List γ->Prop where
 |nil:F2 R [] []
 |cons {a:α} {b:γ} {l:List α} {m:List γ} (h:R a b) (t:F2 R l m):F2 R (a::l) (b::m)
theorem F2.length{α γ:Type}{R:α->γ->Prop}{l:List α}{m:List γ}(h:F2 R l m):l.length=m.length:=by
 induction h with
 |nil=>rfl
 |cons _ _ ih=>simp[ih]
theorem F2.get{α γ:Type}{R:α->γ->Prop}{l:List α}{m:List γ}(h:F2 R l m):∀(i:Nat)(a:α),l[i]? = some a->∃b,m[i]? = some b/\R a b:=by
 induction h with
 |nil=>intro i a e;simp at e
 |cons hr _ ih=>
  intro i a e;cases i with
  |zero=>simp at e;subst e;exact⟨_,by simp,hr⟩
  |succ i=>simp at e;obtain⟨b,hb,hr'⟩:=ih i a e;exact⟨b,by simpa using hb,hr'⟩
theorem F2.pg{α γ:Type}{R:α->γ->Prop}:∀{l:List α}{m:List γ},l.length=m.length->
  (∀(i:Nat)(a:α)(b:γ),l[i]? = some a->m[i]? = some b->R a b)->F2 R l m:=by
 intro l
 induction l with
 |nil=>intro m h _;cases m with|nil=>exact .nil|cons _ _=>simp at h
 |cons a l ih=>
  intro m h hr;cases m with
  |nil=>simp at h
  |cons b m=>exact .cons (hr 0 a b (by simp) (by simp)) (ih (by simpa using h) λi x y hx hy=>hr (i+1) x y (by simpa using hx) (by simpa using hy))
theorem F2.imp{α γ:Type}{R S:α->γ->Prop}{l:List α}{m:List γ}(h:F2 R l m)(k:∀a b,R a b->S a b):F2 S l m:=by
 induction h with
 |nil=>exact .nil
 |cons hr _ ih=>exact .cons (k _ _ hr) ih
theorem F2.append{α γ:Type}{R:α->γ->Prop}{l l':List α}{m m':List γ}(h:F2 R l m)(h':F2 R l' m'):F2 R (l++l') (m++m'):=by
 induction h with
 |nil=>exact h'
 |cons hr _ ih=>exact .cons hr ih
theorem F2.take{α γ:Type}{R:α->γ->Prop}{l:List α}{m:List γ}(h:F2 R l m)(n:Nat):F2 R (l.take n) (m.take n):=by
 induction h generalizing n with
 |nil=>simp;exact .nil
 |cons hr _ ih=>cases n with|zero=>exact .nil|succ n=>exact .cons hr (ih n)
theorem F2.drop{α γ:Type}{R:α->γ->Prop}{l:List α}{m:List γ}(h:F2 R l m)(n:Nat):F2 R (l.drop n) (m.drop n):=by
 induction h generalizing n with
 |nil=>simp;exact .nil
 |cons hr ht ih=>cases n with|zero=>exact .cons hr ht|succ n=>exact ih n
theorem F2.map{α γ δ:Type}{R:α->γ->Prop}{f:δ->α}{g:δ->γ}(l:List δ)(h:∀x∈l,R (f x) (g x)):F2 R (l.map f) (l.map g):=by
 induction l with
 |nil=>exact .nil
 |cons x l ih=>exact .cons (h x (by simp)) (ih λy hy=>h y (by simp[hy]))
theorem VR.qC{φ:ej}{a a':Array Value}(h:F2 (VR φ) a.toList a'.toList):VR φ (.agg a) (.agg a'):=
 .agg a a' h.length λi v v' e e'=>by obtain⟨b,hb,hr⟩:=h.get i v e;rw[hb]at e';cases e';exact hr
theorem VR.tuple'{φ:ej}{a a':Array Value}(h:F2 (VR φ) a.toList a'.toList):VR φ (.tuple a) (.tuple a'):=
 .tuple a a' h.length λi v v' e e'=>by obtain⟨b,hb,hr⟩:=h.get i v e;rw[hb]at e';cases e';exact hr
theorem VR.func'{φ:ej}{fn:FuncId}{a a' b b':Array Value}(h:F2 (VR φ) a.toList a'.toList)(k:F2 (VR φ) b.toList b'.toList):VR φ (.func (.func fn) a b) (.func (.func fn) a' b'):=
 .func fn a a' b b' h.length k.length (λi v v' e e'=>by obtain⟨b,hb,hr⟩:=h.get i v e;rw[hb]at e';cases e';exact hr)
  (λi v v' e e'=>by obtain⟨b,hb,hr⟩:=k.get i v e;rw[hb]at e';cases e';exact hr)
theorem VR.undef{φ:ej}:VR φ undef undef:=VR.tuple' .nil
def Sub(φ φ':ej):Prop:=∀b pl,φ b=some pl->φ' b=some pl
theorem Sub.refl(φ:ej):Sub φ φ:=λ_ _ h=>h
theorem Sub.trans{φ φ' φ'':ej}(h:Sub φ φ')(k:Sub φ' φ''):Sub φ φ'':=λb pl e=>k b pl (h b pl e)
theorem VR.mono{φ φ':ej}(hs:Sub φ φ'){v v':Value}(h:VR φ v v'):VR φ' v v':=by
 induction h with
 |bool b=>exact .bool b
 |int k n=>exact .int k n
 |string s=>exact .string s
 |nilFunc=>exact .nilFunc
 |nilIface=>exact .nilIface
 |xY=>exact .xY
 |ptr h=>exact .ptr (hs _ _ h)
 |f_ h=>exact .f_ h
 |slice h hn hc=>exact .slice (hs _ _ h) hn hc
 |cw h hn hc=>exact .cw (hs _ _ h) hn hc
 |dU a a' c=>exact .dU a a' c
 |dO a' h hc=>exact .dO a' (hs _ _ h) hc
 |xZ=>exact .xZ
 |map h=>exact .map (hs _ _ h)
 |yield h=>exact .yield (hs _ _ h)
 |func fn a a' b b' ha hb _ _ iha ihb=>exact .func fn a a' b b' ha hb iha ihb
 |iface t _ ih=>exact .iface t ih
 |agg a a' ha _ ih=>exact .agg a a' ha ih
 |tuple a a' ha _ ih=>exact .tuple a a' ha ih
structure ER(φ:ej)(x x':MapEntry):Prop where
 key:VR φ x.key x'.key
 val:VR φ x.val x'.val
 born:x'.born=x.born
def Bg:Option Ex->Option Code->Prop
 |none,none=>True
 |some .ret,some .ret=>True
 |some (.exit i),some (.exit j)=>i=j
 |_,_=>False
structure DS(nt:Nat)(ps:List Nat)(a b:Code):Prop where
 small:nt<=1000000000000
 ps:ps.all (λt=>Nat.ble (Nat.succ t) nt)=true
 ca:codeOk nt a=true
 cb:codeOk nt b=true
 ra:qw a=true
 rb:qw b=true
def OR(P:Program)(φ:ej):bT->Pl->Option Obj->Prop
 | .cells n c e op,pl,some (.cells C e' fz)=>e'=e/\fz=(0,0)/\n<=C.size/\n<=4611686018427387904/\(op=true->C.size=pl.sz/\fV P e=some pl.e/\0<pl.e)/\
   ∀i v,c.get i=some v->i<n->∃v',C[i]? = some v'/\VR φ v v'
 | .map es clock,_,some (.map es' clock')=>clock'=clock/\F2 (ER φ) es es'.toList
 | .fc m since seen stepped,_,some (.mapIter m' since' seen' stepped')=>since'=since/\stepped'=stepped/\seen'.toList=seen.reverse/\
   ((m=none/\m'=none)\/∃b mM,m=some b/\φ b=some mM/\m'=some mM.B)
 | .loop st lM tm ps a b,_,some (.loop r)=>r.state=st/\Bg lM r.pending/\r.params.toList=ps/\r.assign=a/\r.body=b/\
   ∃nt,DS nt ps a b/\r.tmps.size=nt/\∀t,t<nt->VR φ (cZ tm t) (r.tmps.getD t undef)
 | .ro n c e,_,some (.cells C e' _)=>e'=e/\n<=C.size/\∀i v,c.get i=some v->i<n->∃v',C[i]? = some v'/\VR φ v v'
 | .dead n e,pl,_=>n<=pl.sz/\n<=4611686018427387904/\fV P e=some pl.e/\0<pl.e
 |_,_,_=>False
def bT.live:bT->Prop
 | .dead ..=>False
 |_=>True
theorem OR.mono{P:Program}{φ φ':ej}(hs:Sub φ φ'){o:bT}{pl:Pl}{O:Option Obj}(h:OR P φ o pl O):OR P φ' o pl O:=by
 cases o with
 |cells n c e op=>
  cases O with
  |none=>exact h
  | some O=>cases O<;>simp only[OR]at h ⊢
            exact⟨h.1,h.2.1,h.2.2.1,h.2.2.2.1,h.2.2.2.2.1,λi v e hi=>let ⟨v',a,b⟩:=h.2.2.2.2.2 i v e hi;⟨v',a,b.mono hs⟩⟩
 |map es clock=>
  cases O with
  |none=>exact h
  | some O=>cases O<;>simp only[OR]at h ⊢
            exact⟨h.1,h.2.imp λa b r=>⟨r.key.mono hs,r.val.mono hs,r.born⟩⟩
 |fc m since seen stepped=>
  cases O with
  |none=>exact h
  | some O=>cases O<;>simp only[OR]at h ⊢
            exact⟨h.1,h.2.1,h.2.2.1,h.2.2.2.imp id λ⟨b,mM,x,y,z⟩=>⟨b,mM,x,hs _ _ y,z⟩⟩
 |Vu s pos=>cases O with
  |none=>exact h
  |some O=>cases O<;>exact h
 |dead n e=>cases O with
  |none=>exact h
  |some O=>cases O<;>exact h
 |ro n c e=>
  cases O with
  |none=>exact h
  | some O=>cases O<;>simp only[OR]at h ⊢
            exact⟨h.1,h.2.1,λi v e hi=>let ⟨v',a,b⟩:=h.2.2 i v e hi;⟨v',a,b.mono hs⟩⟩
 |loop st lM tm ps a b=>
  cases O with
  |none=>exact h
  | some O=>cases O<;>simp only[OR]at h ⊢
            obtain⟨h1,h2,h3,h4,h5,nt,h6,h7,h8⟩:=h;exact⟨h1,h2,h3,h4,h5,nt,h6,h7,λt ht=>(h8 t ht).mono hs⟩
def UF(_:Option Obj):Prop:=True
theorem tO{P:Program}{φ:ej}{o:bT}{pl:Pl}{O:Option Obj}(_h:OR P φ o pl O)(_hl:o.live):UF O:=trivial
def Cf:Option Obj->Prop
 |some (.cells C _ _)=>∀c:Nat,c<256->C[c]? = some (.int .u8 (if c=9\/c=10\/c=11\/c=12\/c=13\/c=32 then 1 else 0))
 |_=>False
def Kj(P : Program)(g : Nat):Prop := (P.globals[g]?).map (·.name) = some "strings.asciiSpace"
def pn(P:Program)(φ:ej)(w:World):Prop:=∀g,Kj P g->Cf w.heap[g]?/\∀b pl,φ b=some pl->pl.B≠g
theorem Cf.lt{w:World}{g:Nat}(h:Cf w.heap[g]?):g<w.heap.size:=by
 rcases Nat.lt_or_ge g w.heap.size with h1|h1
 .exact h1
 .rw[Array.getElem?_eq_none h1]at h;exact h.elim
theorem pn.step{P:Program}{φ φ':ej}{w w':World}(s:pn P φ w)(hh:∀B,B<w.heap.size->(∀b pl,φ b=some pl->pl.B≠B)->w'.heap[B]? = w.heap[B]?)(hn:∀b pl,φ' b=some pl->w.heap.size<=pl.B\/∃b0 Im,φ b0=some Im/\Im.B=pl.B):pn P φ' w':=by
 intro g hg;obtain⟨s1,s2⟩:=s g hg;refine⟨by rw[hh g s1.lt s2];exact s1,λb pl hb e=>?_⟩;rcases hn b pl hb with h1|⟨b0,Im,h1,h2⟩
 .have:=s1.lt;omega
 .exact s2 b0 Im h1 (h2.trans e)
theorem pn.less{P:Program}{φ φ':ej}{w:World}(s:pn P φ w)(hn:∀b pl,φ' b=some pl->∃b0 Im,φ b0=some Im/\Im.B=pl.B):pn P φ' w:=
 s.step (λ_ _ _=>rfl) λb pl hb=>.inr (hn b pl hb)
theorem pn.none{P:Program}{φ:ej}{w:World}(s:pn P φ w):pn P (λ_=>Option.none) w:=s.less λ_ _ e=>by cases e
theorem pn.heap{P:Program}{φ:ej}{w w':World}(s:pn P φ w)(e:∀B,B<w.heap.size->(∀b pl,φ b=some pl->pl.B≠B)->w'.heap[B]? = w.heap[B]?):pn P φ w':=
 s.step e λb pl hb=>.inr ⟨b,pl,hb,rfl⟩
def x7(P : Program):Bool := P.globals.toList.all fun g => g.name != "strings.asciiSpace"
theorem pn.Kk{P:Program}{φ:ej}{w:World}(h:x7 P=true):pn P φ w:=by
 intro g hg;unfold Kj at hg;cases hx:P.globals[g]? with
 |none=>rw[hx]at hg;cases hg
 |some x=>
  rw[hx]at hg;simp only[Option.map_some,Option.some.injEq]at hg;have hm:x∈P.globals.toList:=by
   rw[Array.getElem?_eq_some_iff]at hx;obtain⟨h1,rfl⟩:=hx;exact Array.getElem_mem_toList _
  have:=List.all_eq_true.1 h x hm;simp[hg]at this
structure HR(P:Program)(φ:ej)(h:ah)(w:World):Prop where
 obj:∀b o pl,h.bl.get b=some o->φ b=some pl->OR P φ o pl w.heap[pl.B]?
 dom:∀b pl,φ b=some pl->b<h.nx/\pl.B<w.heap.size
 keys:∀b o,Small b->h.bl.get b=some o->b<h.nx
 S0:h.nx<h.nx+1
 inj:∀b b' o o' pl mM,h.bl.get b=some o->h.bl.get b'=some o'->o.live->o'.live->φ b=some pl->φ b'=some mM->pl.B=mM.B->b=b'
 lo:h.lo<=h.nx
 side:pn P φ w
structure Ext(φ φ':ej)(h h':ah)(w w':World):Prop where
 sub:Sub φ φ'
 new:∀b pl,φ b=none->φ' b=some pl->h.nx<=b/\(w.heap.size<=pl.B\/∃b0 Im,φ b0=some Im/\Im.B=pl.B)
 nx:h.nx<=h'.nx
 size:w.heap.size<=w'.heap.size
 Cg:∀B,B<w.heap.size->(∀b pl,φ b=some pl->pl.B≠B)->w'.heap[B]? = w.heap[B]?
 Io:∀b,b<h.nx->φ b=none->h'.bl.get b=h.bl.get b
 tape:w'.tape=w.tape
 os:w'.os=w.os
 output:w'.output=w.output
 fz:∀B:Nat,UF w.heap[B]?->UF w'.heap[B]?
 lo:h'.lo=h.lo
 Kl:∀b,b<h.lo->h'.bl.get b=h.bl.get b
 Km:∀(b:Nat)(o:bT)(pl:Pl),b<h.lo->h.bl.get b=some o->o.live->φ b=some pl->pl.B<w.heap.size->w'.heap[pl.B]? = w.heap[pl.B]?
 dr:w.drawn<=w'.drawn
theorem Ext.refl(φ:ej)(h:ah)(w:World):Ext φ φ h h w w:=
 ⟨Sub.refl φ,λb pl a b'=>(by rw[a]at b';cases b'),Nat.le_refl _,Nat.le_refl _,λ_ _ _=>rfl,λ_ _ _=>rfl,rfl,rfl,rfl,λ_=>id,rfl,λ_ _=>rfl,λ_ _ _ _ _ _ _ _=>rfl,Nat.le_refl _⟩
theorem Ext.trans{φ φ' φ'':ej}{h h' h'':ah}{w w' w'':World}(a:Ext φ φ' h h' w w')(b:Ext φ' φ'' h' h'' w' w''):Ext φ φ'' h h'' w w'' where
 sub:=a.sub.trans b.sub
 new:=λx pl e e''=>by
  cases hx:φ' x with
  |some mM=>
   have:=b.sub x mM hx;rw[e'']at this;cases this;exact a.new x pl e hx
  |none=>
   obtain⟨h1,h2⟩:=b.new x pl hx e'';refine⟨Nat.le_trans a.nx h1,?_⟩;rcases h2 with h2|⟨b0,Im,hb0,hB⟩
   .exact .inl (Nat.le_trans a.size h2)
   .cases h0:φ b0 with
    |some p=>
     have:=a.sub b0 p h0;rw[hb0]at this;cases this;exact .inr ⟨b0,Im,h0,hB⟩
    |none=>
     obtain⟨_,h3⟩:=a.new b0 Im h0 hb0;rw[hB]at h3;exact h3
 nx:=Nat.le_trans a.nx b.nx
 size:=Nat.le_trans a.size b.size
 Cg:=λB hB hn=>by
  rw[b.Cg B (Nat.lt_of_lt_of_le hB a.size) ?_,a.Cg B hB hn];intro x pl hx e;cases h0:φ x with
  |some p=>
   have:=a.sub x p h0;rw[hx]at this;cases this;exact hn x pl h0 e
  |none=>
   obtain⟨_,h3⟩:=a.new x pl h0 hx;rcases h3 with h3|⟨b0,Im,hb0,hB0⟩
   .omega
   .exact hn b0 Im hb0 (hB0.trans e)
 Io:=λx hx hn=>by
  have h1:φ' x=none:=by
   cases h1:φ' x with
   |none=>rfl
   |some pl=>have:=(a.new x pl hn h1).1;omega
  rw[b.Io x (Nat.lt_of_lt_of_le hx a.nx) h1,a.Io x hx hn]
 tape:=b.tape.trans a.tape
 os:=b.os.trans a.os
 output:=b.output.trans a.output
 fz:=λB h=>b.fz B (a.fz B h)
 lo:=b.lo.trans a.lo
 Kl:=λx hx=>(b.Kl x (by rw[a.lo];exact hx)).trans (a.Kl x hx)
 Km:=λx o pl hx ho hl hp hs=>(b.Km x o pl (by rw[a.lo];exact hx) ((a.Kl x hx).trans ho) hl (a.sub x pl hp) (Nat.lt_of_lt_of_le hs a.size)).trans (a.Km x o pl hx ho hl hp hs)
 dr:=Nat.le_trans a.dr b.dr
end Go.Vai

namespace Go.Vai
open Go
section runs
variable {P:Program}{w:World}{t:TypeId}
theorem aW{d:TypeDesc}(h:P.underlying t=some d):(underlying t).run P w=.ok d w:=run_underlying h w
theorem qD{i:TypeInfo}(h:P.info? t=some i):(typeInfo t).run P w=.ok i w:=by simp[typeInfo,h]
theorem dm{s:Nat}(h:fV P t=some s):(sizeOf t).run P w=.ok s w:=by
 unfold fV at h;cases hi:P.info? t with
 |none=>rw[hi]at h;simp at h
 |some i=>rw[hi]at h;simp at h;simp[sizeOf,qD hi,h]
theorem rL{b:Bool}(h:oa P t=some b):(isAgg t).run P w=.ok b w:=by
 unfold oa at h;cases hu:P.underlying t with
 |none=>rw[hu]at h;simp at h
 |some d=>rw[hu]at h;cases d<;>simp at h<;>subst h<;>simp[isAgg,aW hu]
theorem iQ{z:List Value}(h:zeroOf P t=some z):∃v i,P.info? t=some i/\i.zero=some v/\z=v.cells.toList/\z.all ij=true:=by
 unfold zeroOf at h;cases hi:P.info? t with
 |none=>rw[hi]at h;simp at h
 |some i=>
  rw[hi]at h;cases hz:i.zero with
  |none=>simp[hz]at h
  |some v=>
   simp only[Option.bind_some,hz]at h;split at h
   .rename_i hb;cases h;exact⟨v,i,rfl,hz,rfl,hb⟩
   .cases h
theorem iJ{v:Value}{i:TypeInfo}(hi:P.info? t=some i)(hz:i.zero=some v):(zeroValue t).run P w=.ok v w:=by
 simp[zeroValue,qD hi,hz]
end runs
variable {β:Type}{fl:β}{good:β->Prop}{P:Program}{φ:ej}{h:ah}{w:World}{t:TypeId}
theorem HR.cell(hr:HR P φ h w){b n e o:Nat}{c:T Value}{op:Bool}{pl:Pl}{v:Value}(hb:h.bl.get b=some (.cells n c e op))(hp:φ b=some pl)(ho:o<n)(hc:c.get o=some v):∃v',w.cell? ⟨pl.B,o,none⟩=some v'/\VR φ v v':=by
 have:=hr.obj b _ pl hb hp;cases hO:w.heap[pl.B]? with
 |none=>rw[hO]at this;exact this.elim
 |some O=>
  rw[hO]at this;cases O<;>simp only[OR]at this<;>try exact this.elim
  obtain⟨_,_,_,_,_,hh⟩:=this;obtain⟨v',vT,hvr⟩:=hh o v hc ho;exact⟨v',by simp[World.cell?,hO,vT],hvr⟩
theorem HR.Ou(hr:HR P φ h w){b n e o:Nat}{c:T Value}{pl:Pl}{v:Value}(hb:h.bl.get b=some (.ro n c e))(hp:φ b=some pl)(ho:o<n)(hc:c.get o=some v):∃v',w.cell? ⟨pl.B,o,none⟩=some v'/\VR φ v v':=by
 have:=hr.obj b _ pl hb hp;cases hO:w.heap[pl.B]? with
 |none=>rw[hO]at this;exact this.elim
 |some O=>
  rw[hO]at this;cases O<;>simp only[OR]at this<;>try exact this.elim
  obtain⟨_,_,hh⟩:=this;obtain⟨v',vT,hvr⟩:=hh o v hc ho;exact⟨v',by simp[World.cell?,hO,vT],hvr⟩
theorem dK{a b:Nat}(h:Nat.ble a b=true):a<=b:=Nat.le_of_ble_eq_true h
theorem Vw{a b:Nat}(h:Nat.ble a b=false):b<a:=by
 rcases Nat.lt_or_ge b a with h'|h'
 .exact h'
 .rw[Nat.ble_eq_true_of_le h']at h;cases h
theorem c_{a b:Nat}(h:Nat.beq a b=true):a=b:=Nat.eq_of_beq_eq_true h
theorem pV{a b:Nat}(h:Nat.beq a b=false):a≠b:=Nat.ne_of_beq_eq_false h
theorem jk(hfl:¬good fl)(c:T Value)(off:Nat):∀(n:Nat)(acc:List Value)(Y:List Value->β),good (jV fl c off n acc Y)->
  ∃l,good (Y (l++acc))/\l.length=n/\∀j v,l[j]? = some v->c.get (off+j)=some v:=by
 intro n
 induction n with
 |zero=>intro acc Y hg;exact⟨[],hg,rfl,λj v e=>by simp at e⟩
 |succ n ih=>
  intro acc Y hg;have hg':good (Option.rec (motive:=λ_=>β) fl (λv=>jV fl c off n (v::acc) Y) (c.get (Nat.add off n))):=hg;cases hv:c.get (Nat.add off n)with
  |none=>rw[hv]at hg';exact absurd hg' hfl
  |some v=>
   rw[hv]at hg';obtain⟨l,h1,h2,h3⟩:=ih (v::acc) Y hg';refine⟨l++[v],by simpa using h1,by simp[h2],λj u e=>?_⟩;rcases Nat.lt_or_ge j n with hj|hj
   .rw[List.getElem?_append_left XV]at e;exact h3 j u e
   .rw[List.getElem?_append_right XV,h2]at e;rcases Nat.eq_or_lt_of_le hj with hj'|hj'
    .subst hj';simp at e;subst e;exact hv
    .rw[show j-n=(j-n-1)+1 by omega]at e;simp at e
theorem HR.Kn(hr:HR P φ h w){b n e off:Nat}{c:T Value}{op:Bool}{pl:Pl}{l:List Value}(hb:h.bl.get b=some (.cells n c e op))(hp:φ b=some pl)(ho:off+l.length<=n)(hc:∀j v,l[j]? = some v->c.get (off+j)=some v):∃l',F2 (VR φ) l l'/\∀w1:World,w1.heap=w.heap->(loadCells ⟨pl.B,off,none⟩ l.length).run P w1=.ok l'.toArray w1:=by
 have key:∀(l:List Value)(off:Nat),off+l.length<=n->(∀j v,l[j]? = some v->c.get (off+j)=some v)->
   ∃l',F2 (VR φ) l l'/\∀j v,l'[j]? = some v->w.cell? ⟨pl.B,off+j,none⟩=some v:=by
  intro l
  induction l with
  |nil=>intro off _ _;exact⟨[],.nil,λj v e=>by simp at e⟩
  |cons x l ih=>
   intro off ho hc;simp at ho;obtain⟨v',h1,h2⟩:=hr.cell hb hp (o:=off) XV (by simpa using hc 0 x (by simp));obtain⟨l',h3,h4⟩:=ih (off+1) XV λj v e=>by
    have:=hc (j+1) v (by simpa using e);rwa [show off+(j+1)=off+1+j by omega]at this
   refine⟨v'::l',.cons h2 h3,λj v e=>?_⟩;cases j with
   |zero=>simp at e;subst e;simpa using h1
   |succ j=>simp at e;have:=h4 j v e;rwa [show off+1+j=off+(j+1)by omega]at this
 obtain⟨l',h1,h2⟩:=key l off ho hc;refine⟨l',h1,λw1 hw1=>?_⟩;rw[h1.length];refine run_loadCells_list w1 _ l' λj v e=>?_;have:=h2 j v e;have ha:(⟨pl.B,off,none⟩:Addr).add j=⟨pl.B,off+j,none⟩:=by unfold Addr.add;split<;>simp_all
 rw[ha];unfold World.cell? at this ⊢;rw[hw1];exact this
theorem HR.Ko(hr:HR P φ h w){b n e off:Nat}{c:T Value}{pl:Pl}{l:List Value}(hb:h.bl.get b=some (.ro n c e))(hp:φ b=some pl)(ho:off+l.length<=n)(hc:∀j v,l[j]? = some v->c.get (off+j)=some v):∃l',F2 (VR φ) l l'/\∀w1:World,w1.heap=w.heap->(loadCells ⟨pl.B,off,none⟩ l.length).run P w1=.ok l'.toArray w1:=by
 have key:∀(l:List Value)(off:Nat),off+l.length<=n->(∀j v,l[j]? = some v->c.get (off+j)=some v)->
   ∃l',F2 (VR φ) l l'/\∀j v,l'[j]? = some v->w.cell? ⟨pl.B,off+j,none⟩=some v:=by
  intro l
  induction l with
  |nil=>intro off _ _;exact⟨[],.nil,λj v e=>by simp at e⟩
  |cons x l ih=>
   intro off ho hc;simp at ho;obtain⟨v',h1,h2⟩:=hr.Ou hb hp (o:=off) XV (by simpa using hc 0 x (by simp));obtain⟨l',h3,h4⟩:=ih (off+1) XV λj v e=>by
    have:=hc (j+1) v (by simpa using e);rwa [show off+(j+1)=off+1+j by omega]at this
   refine⟨v'::l',.cons h2 h3,λj v e=>?_⟩;cases j with
   |zero=>simp at e;subst e;simpa using h1
   |succ j=>simp at e;have:=h4 j v e;rwa [show off+1+j=off+(j+1)by omega]at this
 obtain⟨l',h1,h2⟩:=key l off ho hc;refine⟨l',h1,λw1 hw1=>?_⟩;rw[h1.length];refine run_loadCells_list w1 _ l' λj v e=>?_;have:=h2 j v e;have ha:(⟨pl.B,off,none⟩:Addr).add j=⟨pl.B,off+j,none⟩:=by unfold Addr.add;split<;>simp_all
 rw[ha];unfold World.cell? at this ⊢;rw[hw1];exact this
theorem mW(hfl:¬good fl)(ht:oa P t=some false){a a':Value}{Y:XW β}(hg:good (ax fl a h Y))(hv:VR φ a a')(hr:HR P φ h w):∃v v',good (Y v h)/\VR φ v v'/\(Instr.loadAt t a').run P w=.ok v' w:=by
 unfold ax at hg;split at hg<;>try cases hfl hg
 cases hv with
 |ptr hp=>
  split at hg<;>try cases hfl hg
  .rename_i hb;split at hg<;>try cases hfl hg
   rename_i v hle hc;obtain⟨v',h1,h2⟩:=hr.cell hb hp (dK hle) hc;refine⟨v,v',hg,h2,?_⟩;simp[Instr.loadAt,Instr.sureAddr,loadVar,rL ht,h1]
  .rename_i hb;split at hg<;>try cases hfl hg
   rename_i v hle hc;obtain⟨v',h1,h2⟩:=hr.Ou hb hp (dK hle) hc;refine⟨v,v',hg,h2,?_⟩;simp[Instr.loadAt,Instr.sureAddr,loadVar,rL ht,h1]
theorem vU(hfl:¬good fl)(ht:oa P t=some true){s:Nat}(hs:fV P t=some s){a a':Value}{Y:XW β}(hg:good (aN fl s a h Y))(hv:VR φ a a')(hr:HR P φ h w):∃v v',good (Y v h)/\VR φ v v'/\(Instr.loadAt t a').run P w=.ok v' w:=by
 unfold aN at hg;split at hg<;>try cases hfl hg
 cases hv with
 |ptr hp=>
  split at hg<;>try cases hfl hg
  .rename_i hb;split at hg<;>try cases hfl hg
   rename_i hle;obtain⟨l,h1,h2,h3⟩:=jk hfl _ _ _ _ _ hg;simp only[List.append_nil]at h1;obtain⟨l',h4,h5⟩:=hr.Kn hb hp (by rw[h2];exact dK hle) h3;refine⟨_,.agg l'.toArray,h1,VR.qC (by simpa using h4),?_⟩;have h5:=h5 w rfl;rw[h2]at h5;simp[Instr.loadAt,Instr.sureAddr,loadVar,rL ht,dm hs,h5]
  .rename_i hb;split at hg<;>try cases hfl hg
   rename_i hle;obtain⟨l,h1,h2,h3⟩:=jk hfl _ _ _ _ _ hg;simp only[List.append_nil]at h1;obtain⟨l',h4,h5⟩:=hr.Ko hb hp (by rw[h2];exact dK hle) h3;refine⟨_,.agg l'.toArray,h1,VR.qC (by simpa using h4),?_⟩;have h5:=h5 w rfl;rw[h2]at h5;simp[Instr.loadAt,Instr.sureAddr,loadVar,rL ht,dm hs,h5]
theorem DT(hfl:¬good fl){c c' a a' b b':Value}{Y:XW β}(hg:good (bD fl c a b h Y))(hc:VR φ c c')(ha:VR φ a a')(hb:VR φ b b'):∃v v',good (Y v h)/\VR φ v v'/\((do pure (Next.value (if <-asBool c' then a' else b')):Sem Next)).run P w=.ok (.value v') w:=by
 unfold bD at hg;split at hg<;>try cases hfl hg
 .cases hc;exact⟨a,a',hg,ha,by simp[asBool]⟩
 .cases hc;exact⟨b,b',hg,hb,by simp[asBool]⟩
theorem IC(hfl:¬good fl){a a':Value}{Y:XW β}(hg:good (aT fl a h Y))(ha:VR φ a a')(o:Oper)(ρ:Operand->Value)(x:Operand)(ho:o.op=.nilCheck x)(hx:ρ x=a'):∃v v',good (Y v h)/\VR φ v v'/\(execOp ρ o).run P w=.ok (.value v') w:=by
 unfold aT at hg;split at hg<;>try cases hfl hg
 .refine⟨_,a',hg,ha,?_⟩;cases ha;simp[execOp,ho,hx]
 .refine⟨_,a',hg,ha,?_⟩;cases ha;simp[execOp,ho,hx]
 .refine⟨_,a',hg,ha,?_⟩;cases ha;simp[execOp,ho,hx]
theorem uZ(hfl:¬good fl){fs:Array Field}{uX:Field}{f s:Nat}(hu:P.underlying t=some (.struct fs))(hf:fs[f]? = some uX)(hs:fV P uX.type=some (s+1)){a a':Value}{Y:XW β}(hg:good (af fl uX.offset a h Y))(ha:VR φ a a'):∃v v',good (Y v h)/\VR φ v v'/\(Instr.fieldAt t a' f).run P w=.ok v' w:=by
 unfold af at hg;split at hg<;>try cases hfl hg
 rename_i b o;cases ha with
 |ptr hp=>
  rename_i pl;simp only[bR]at hg;refine⟨_,.pointer (some ⟨pl.B,o+uX.offset,none⟩),hg,.ptr hp,?_⟩;have Ov:(⟨pl.B,o,none⟩:Addr).add uX.offset=⟨pl.B,o+uX.offset,none⟩:=by unfold Addr.add;split<;>simp_all
  simp[Instr.fieldAt,aW hu,hf,Instr.sureAddr,fieldPlace,dm hs,Ov]
theorem iK(B o n:Nat):(⟨B,o,none⟩:Addr).add n=⟨B,o+n,none⟩:=by unfold Addr.add;split<;>simp_all
theorem u0(hfl:¬good fl){e s:Nat}(hu:P.underlying t=some (.slice e))(hs:fV P e=some s){a a' i i':Value}{Y:XW β}(hg:good (az fl s a i h Y))(ha:VR φ a a')(hi:VR φ i i'):∃v v',good (Y v h)/\VR φ v v'/\(Instr.indexAt t a' i').run P w=.ok v' w:=by
 unfold az at hg;split at hg<;>try cases hfl hg
 split at hg<;>try cases hfl hg
 rename_i b o len cap k j _ hle;have hle:=dK hle;simp only[bR]at hg;cases hi;cases ha with
 |slice hp hn hc=>
  rename_i pl;refine⟨_,.pointer (some ⟨pl.B,o+j*s,none⟩),hg,.ptr hp,?_⟩;have:j<len:=hle;simp[Instr.indexAt,asIntOf,aW hu,dm hs,iK,this]
 |cw hp hn hc=>
  rename_i pl;refine⟨_,.pointer (some ⟨pl.B,o+j*s,none⟩),hg,.ptr hp,?_⟩;have:j<len:=hle;simp[Instr.indexAt,asIntOf,aW hu,dm hs,iK,this]
 |dU _ a'' c=>exact absurd hle XV
 |dO a'' hp hc=>exact absurd hle XV
theorem u5(hfl:¬good fl){e s len:Nat}(hu:P.underlying t=some (.array len e))(hs:fV P e=some s){a a' i i':Value}{Y:XW β}(hg:good (lT fl len s a i h Y))(ha:VR φ a a')(hi:VR φ i i'):∃v v',good (Y v h)/\VR φ v v'/\(Instr.indexAt t a' i').run P w=.ok v' w:=by
 unfold lT at hg;split at hg<;>try cases hfl hg
 split at hg<;>try cases hfl hg
 rename_i b o k j _ hle;have hle:=dK hle;simp only[bR]at hg;cases hi;cases ha with
 |ptr hp=>
  rename_i pl;refine⟨_,.pointer (some ⟨pl.B,o+j*s,none⟩),hg,.ptr hp,?_⟩;have:j<len:=hle;simp[Instr.indexAt,asIntOf,aW hu,dm hs,iK,Instr.sureAddr,this]
theorem DU(hfl:¬good fl){src dst:TypeId}{ds:TypeDesc}{k:IntKind}(hs:P.underlying src=some ds)(hd:P.underlying dst=some (.int k)){a a':Value}{Y:XW β}(hg:good (lU fl k a h Y))(ha:VR φ a a'):∃v v',good (Y v h)/\VR φ v v'/\(convert src dst a').run P w=.ok v' w:=by
 unfold lU at hg;split at hg<;>try cases hfl hg
 rename_i k' n;simp only[gI,ef]at hg;cases ha;refine⟨_,_,hg,.int k _,?_⟩;simp[convert,aW hs,aW hd,Conv.intToInt]
theorem Mq(hfl:¬good fl){op:UnOp}{a a':Value}{Y:XW β}(hg:good (jB fl op a h Y))(ha:VR φ a a'):∃v v',good (Y v h)/\VR φ v v'/\(Op.unary op a').run P w=.ok v' w:=by
 unfold jB at hg;split at hg<;>try cases hfl hg
 .cases ha;simp only[cF]at hg;exact⟨_,_,hg,.bool _,by simp[Op.unary]⟩
 .cases ha;simp only[gI,ef]at hg;exact⟨_,_,hg,.int _ _,by simp[Op.unary,Op.intArith];congr 3;exact(Int.zero_sub _).symm⟩
 .cases ha;simp only[gI,ef]at hg;exact⟨_,_,hg,.int _ _,by simp[Op.unary,Op.intBits]⟩
theorem x8(hfl:¬good fl){i:Nat}{a a':Value}{Y:XW β}(hg:good (aH fl i a h Y))(ha:VR φ a a'):∃v v',good (Y v h)/\VR φ v v'/\(Instr.extract a' i).run P w=.ok v' w:=by
 unfold aH at hg;split at hg<;>try cases hfl hg
 split at hg<;>try cases hfl hg
 rename_i vs _ v hv;cases ha with
 |tuple _ a'' hl Il=>
  have:∃v',a''.toList[i]? = some v':=by
   cases hx:a''.toList[i]? with
   |some v'=>exact⟨v',rfl⟩
   |none=>
    have h1:=List.getElem?_eq_none_iff.1 hx;have h2:=(List.getElem?_eq_some_iff.1 hv).1;omega
  obtain⟨v',vT⟩:=this;refine⟨v,v',hg,Il i v v' hv vT,?_⟩;have:a''[i]? = some v':=by simpa using vT
  simp[Instr.extract,this]
theorem Ch(hfl:¬good fl){ts:Array TypeId}{ty:TypeId}{a a':Value}{Y:XW β}(hg:good (xO fl a h Y))(ha:VR φ a a')(ht:ts[0]? = some t)(hu:P.underlying t=some .string):∃v v',good (Y v h)/\VR φ v v'/\(Builtin.len_ ts ty #[a']).run P w=.ok v' w:=by
 unfold xO at hg;split at hg<;>try cases hfl hg
 simp only[bR]at hg;cases ha;exact⟨_,_,hg,.int _ _,by simp[Builtin.len_,ht,aW hu,goInt]⟩
theorem Ci(hfl:¬good fl){ts:Array TypeId}{ty e:TypeId}{a a':Value}{Y:XW β}(hg:good (bh fl a h Y))(ha:VR φ a a')(ht:ts[0]? = some t)(hu:P.underlying t=some (.slice e)):∃v v',good (Y v h)/\VR φ v v'/\(Builtin.len_ ts ty #[a']).run P w=.ok v' w:=by
 unfold bh at hg;split at hg<;>try cases hfl hg
 cases ha<;>exact⟨_,_,hg,.int _ _,by simp[Builtin.len_,ht,aW hu,goInt]⟩
theorem HR.pW(hr:HR P φ h w){b clock:Nat}{es:List MapEntry}{pl:Pl}(hb:h.bl.get b=some (.map es clock))(hp:φ b=some pl):∃es',w.heap[pl.B]? = some (.map es' clock)/\F2 (ER φ) es es'.toList:=by
 have:=hr.obj b _ pl hb hp;cases hO:w.heap[pl.B]? with
 |none=>rw[hO]at this;exact this.elim
 |some O=>
  rw[hO]at this;cases O<;>simp only[OR]at this<;>try exact this.elim
  obtain⟨rfl,h2⟩:=this;exact⟨_,rfl,h2⟩
theorem dy{B:Nat}{es:Array MapEntry}{clock:Nat}(hO:w.heap[B]? = some (.map es clock)):(getObj B).run P w=.ok (.map es clock) w:=by
 simp[getObj,Sem.run,hO]
theorem Cj(hfl:¬good fl){ts:Array TypeId}{ty k e:TypeId}{a a':Value}{Y:XW β}(hg:good (lR fl a h Y))(ha:VR φ a a')(hr:HR P φ h w)(ht:ts[0]? = some t)(hu:P.underlying t=some (.map k e)):∃v v',good (Y v h)/\VR φ v v'/\(Builtin.len_ ts ty #[a']).run P w=.ok v' w:=by
 unfold lR at hg;split at hg<;>try cases hfl hg
 .cases ha;exact⟨_,_,hg,.int _ _,by simp[Builtin.len_,ht,aW hu,goInt]⟩
 .split at hg<;>try cases hfl hg
  rename_i hb;simp only[bR]at hg;cases ha with
  |map hp=>
   obtain⟨es',hO,h2⟩:=hr.pW hb hp;refine⟨_,_,hg,.int _ _,?_⟩;have hlen:=h2.length;simp only[Array.length_toList]at hlen;simp[Builtin.len_,ht,aW hu,goInt,dy hO,hlen]
theorem VR.cells{v v':Value}(hv:VR φ v v'):F2 (VR φ) v.cells.toList v'.cells.toList:=by
 have one:∀{u u':Value},VR φ u u'->F2 (VR φ) [u] [u']:=λh=>.cons h .nil;cases hv with
 |agg a a' ha Il=>exact F2.pg ha Il
 |bool b=>exact one (.bool b)
 |int k n=>exact one (.int k n)
 |string s=>exact one (.string s)
 |nilFunc=>exact one .nilFunc
 |nilIface=>exact one .nilIface
 |xY=>exact one .xY
 |ptr h=>exact one (.ptr h)
 |f_ h=>exact one (.f_ h)
 |slice h hn hc=>exact one (.slice h hn hc)
 |cw h hn hc=>exact one (.cw h hn hc)
 |dU a a' c=>exact one (.dU a a' c)
 |dO a' hp hc=>exact one (.dO a' hp hc)
 |xZ=>exact one .xZ
 |map h=>exact one (.map h)
 |yield h=>exact one (.yield h)
 |func fn a a' b b' ha hb Il hvb=>exact one (.func fn a a' b b' ha hb Il hvb)
 |iface t h=>exact one (.iface t h)
 |tuple a a' ha Il=>exact one (.tuple a a' ha Il)
theorem ID(hfl:¬good fl):∀(new old:List Value)(Y:List Value->β),good (tL fl new old Y)->new.length<=old.length/\good (Y (new++old.drop new.length)):=by
 intro new
 induction new with
 |nil=>intro old Y hg;exact⟨by simp,by simpa[tL]using hg⟩
 |cons v new ih=>
  intro old Y hg;cases old with
  |nil=>simp only[tL]at hg;exact absurd hg hfl
  |cons o old=>simp only[tL]at hg;obtain⟨h1,h2⟩:=ih old _ hg;exact⟨by simpa using h1,by simpa using h2⟩
theorem Mr(hfl:¬good fl)(new:List Value):∀(off:Nat)(old:List Value)(Y:List Value->β),good (AA fl new off old Y)->
  off+new.length<=old.length/\good (Y (old.take off++new++old.drop (off+new.length))):=by
 intro off
 induction off with
 |zero=>intro old Y hg;simp only[AA]at hg;obtain⟨h1,h2⟩:=ID hfl _ _ _ hg;exact⟨by simpa using h1,by simpa using h2⟩
 |succ off ih=>
  intro old Y hg;cases old with
  |nil=>simp only[AA]at hg;exact absurd hg hfl
  |cons o old=>
   simp only[AA]at hg;obtain⟨h1,h2⟩:=ih old _ hg;refine⟨by simp;omega,?_⟩;rw[show off+1+new.length=(off+new.length)+1 by omega];simpa using h2
theorem Ms(off:Nat):∀(l:List Value)(k:Nat)(cs:Array Value),off+k+l.length<=cs.size->
  (l.zipIdx k).foldl (λ(cs:Array Value)(p:Value × Nat)=>cs.setIfInBounds (off+p.2) p.1) cs=(cs.toList.take (off+k)++l++cs.toList.drop (off+k+l.length)).toArray:=by
 intro l
 induction l with
 |nil=>intro k cs _;simp
 |cons v l ih=>
  intro k cs hk;simp at hk;simp only[List.zipIdx_cons,List.foldl_cons];rw[ih (k+1) _ (by simp;omega)]
  congr 1
  have e:=list_seg_step cs.toList (off+k) v l (by simp;omega);simpa[Array.toList_setIfInBounds,Nat.add_assoc]using e
theorem vV(hfl:¬good fl)(tm:T Value)(ρ:Operand->Value)(place:Nat->Option (Nat × Nat)):∀(parts:List (Nat × Operand)) (ps:List (Nat × Nat)),
  placesOf place parts=some ps->(∀p∈parts,VR φ (fQ tm p.2) (ρ p.2))->∀(cs cs':List Value),F2 (VR φ) cs cs'->∀Y:List Value->β,
  good (bM fl ps (parts.map λp=>fQ tm p.2) cs Y)->
  ∃r r',good (Y r)/\F2 (VR φ) r r'/\Instr.fill place cs'.toArray (parts.map λp=>(p.1,ρ p.2))=some r'.toArray:=by
 intro parts
 induction parts with
 |nil=>
  intro ps hp _ cs cs' hcs Y hg;simp only[placesOf]at hp;cases hp;exact⟨cs,cs',hg,hcs,rfl⟩
 |cons p parts ih=>
  intro ps hp hv cs cs' hcs Y hg;obtain⟨i,x⟩:=p;simp only[placesOf]at hp;cases hpi:place i with
  |none=>rw[hpi]at hp;simp at hp
  |some os=>
   obtain⟨off,size⟩:=os;cases SA:placesOf place parts with
   |none=>rw[hpi,SA]at hp;simp at hp
   |some l=>
    rw[hpi,SA]at hp;simp at hp;subst hp;simp only[List.map_cons,bM]at hg;split at hg<;>try cases hfl hg
    rename_i hsz;have hsz:=c_ hsz;obtain⟨h1,h2⟩:=Mr hfl _ _ _ _ hg;have hx:=(hv (i,x) (by simp)).cells;have hl:=hx.length;have S1:=hcs.length;have hnew:F2 (VR φ) (cs.take off++(fQ tm x).cells.toList++cs.drop (off+(fQ tm x).cells.toList.length)) (cs'.take off++(ρ x).cells.toList++cs'.drop (off+(ρ x).cells.toList.length)):=by
     rw[<-hl];exact((hcs.take _).append hx).append (hcs.drop _)
    obtain⟨r,r',g1,g2,g3⟩:=ih l SA (λq hq=>hv q (by simp[hq])) _ _ hnew Y h2;refine⟨r,r',g1,g2,?_⟩;simp only[List.map_cons,Instr.fill,hpi];have e1:(ρ x).cells.size=size:=by rw[<-hsz,hl];simp
    have e2:¬(off+(ρ x).cells.size > cs'.toArray.size):=by
     simp at hl S1 h1 ⊢;omega
    rw[if_neg (by simp[e1];simpa[e1]using e2)];have e3:=Ms off (ρ x).cells.toList 0 cs'.toArray (by simp at e2 ⊢;omega);have e4:(ρ x).cells.zipIdx.foldl (λ(cs:Array Value)(p:Value × Nat)=>cs.setIfInBounds (off+p.2) p.1) cs'.toArray=(cs'.take off++(ρ x).cells.toList++cs'.drop (off+(ρ x).cells.toList.length)).toArray:=by
     rw[<-Array.foldl_toList,Array.toList_zipIdx];simpa using e3
    have e5:=g3;rw[<-e4]at e5;exact e5
theorem jl{fty:TypeId}{b:Bool}(hb:oa P fty=some b){s:Nat}(hs:fV P fty=some s)(cs:Array Value)(off:Nat):(part fty cs off).run P w=match b with
   |true=>.ok (.agg ⟨(cs.toList.drop off).take s⟩) w
   | false => match cs.toList[off]? with | some v => .ok v w | none => .halt (.stuck "part: no such cell") w := by
 cases b
 .simp[part,rL hb];cases cs[off]?<;>simp
 .simp[part,rL hb,dm hs];apply Array.ext';simp[List.extract]
theorem wO{B B' o o':Nat}{C C':Array Value}{e e':TypeId}(hB:w.heap[B]? = some (.cells C e (0,0)))(hB':w.heap[B']? = some (.cells C' e' (0,0)))(hne:B≠B'):(sameAddr ⟨B,o,none⟩ ⟨B',o',none⟩).run P w=.ok false w:=by
 have f1:∀n,w.frozen? ⟨B,n,none⟩=false:=λn=>by simp[World.frozen?,hB]
 have f2:∀n,w.frozen? ⟨B',n,none⟩=false:=λn=>by simp[World.frozen?,hB']
 have s1:w.shape? B=some (e,C.size):=by simp[World.shape?,hB]
 have s2:w.shape? B'=some (e',C'.size):=by simp[World.shape?,hB']
 simp[sameAddr,hne,f1,f2,noView,viewAt,s1,s2,mayBeOne,stringish]
end Go.Vai

namespace Go.Vai
open Go
variable {β:Type}{fl:β}{good:β->Prop}{P:Program}{φ:ej}{h:ah}{w:World}{t:TypeId}
theorem S2(a b:ByteArray):(a == b)=decide (a=b):=by
 rw[beq_toListBytes,ByteArray.toList_eq,ByteArray.toList_eq];rw[Bool.eq_iff_iff];simp;constructor
 .intro e;cases a;cases b;simp at e;simp[e]
 .intro e;rw[e]
theorem HR.Ow(hr:HR P φ h w){b:Nat}{pl:Pl}(hb:xM h b=true)(hp:φ b=some pl):∃o C e,h.bl.get b=some o/\o.live/\w.heap[pl.B]? = some (.cells C e (0,0)):=by
 unfold xM at hb;split at hb<;>try cases hb
 rename_i hb';have:=hr.obj b _ pl hb' hp;cases hO:w.heap[pl.B]? with
 |none=>rw[hO]at this;exact this.elim
 |some O=>
  rw[hO]at this;cases O<;>simp only[OR]at this<;>try exact this.elim
  obtain⟨rfl,rfl,_⟩:=this;exact⟨_,_,_,hb',trivial,rfl⟩
theorem IF(D:Nat)(rec:TypeId->Value->Value->Option Bool)(ih:∀(t:TypeId)(x y x' y':Value)(r:Bool),rec t x y=some r->VR φ x x'->VR φ y y'->(Op.equalIn D t x' y').run P w=.ok r w):∀(fs:List Field)(xs ys:List Value)(xs' ys':Array Value)(r:Bool),Az P rec fs xs ys=some r->F2 (VR φ) xs xs'.toList->F2 (VR φ) ys ys'.toList->
   (Op.eqFields D xs' ys' fs).run P w=.ok r w:=by
 intro fs
 induction fs with
 |nil=>intro xs ys xs' ys' r he _ _;simp only[Az]at he;cases he;simp[Op.eqFields]
 |cons f fs ihf=>
  intro xs ys xs' ys' r he hx hy;simp only[Az]at he;split at he<;>try cases he
  rename_i hnm
  have hn : f.name ≠ "_" := by simpa using hnm
  have fin:∀(x y x' y':Value),VR φ x x'->VR φ y y'->(part f.type xs' f.offset).run P w=.ok x' w->(part f.type ys' f.offset).run P w=.ok y' w->
    (match rec f.type x y with|some true=>Az P rec fs xs ys|r=>r)=some r->(Op.eqFields D xs' ys' (f::fs)).run P w=.ok r w:=by
   intro x y x' y' vx vy px py hm;cases hr:rec f.type x y with
   |none=>rw[hr]at hm;cases hm
   |some q=>
    have:=ih f.type x y x' y' q hr vx vy;rw[hr]at hm;cases q
    .simp at hm;subst hm;simp[Op.eqFields,hn,px,py,this]
    .simp[Op.eqFields,hn,px,py,this];exact ihf xs ys xs' ys' r hm hx hy
  split at he
  .rename_i hag hsz;refine fin _ _ (.agg ⟨(xs'.toList.drop f.offset).take _⟩) (.agg ⟨(ys'.toList.drop f.offset).take _⟩) (VR.qC ?_) (VR.qC ?_) (jl hag hsz xs' f.offset) (jl hag hsz ys' f.offset) he
   .exact(hx.drop _).take _
   .exact(hy.drop _).take _
  .rename_i hag hsz;split at he<;>try cases he
   rename_i x y ex ey;obtain⟨x',ex',vx⟩:=hx.get _ _ ex;obtain⟨y',ey',vy⟩:=hy.get _ _ ey;refine fin x y x' y' vx vy ?_ ?_ he
   .have:=jl (w:=w) hag hsz xs' f.offset;rw[this];simp only[ex']
   .have:=jl (w:=w) hag hsz ys' f.offset;rw[this];simp only[ey']
  .cases he
set_option maxHeartbeats 4000000 in
theorem u6(hr:HR P φ h w):∀(d D:Nat),d<=D->∀(t:TypeId)(x y x' y':Value)(r:Bool),nH P h d t x y=some r->VR φ x x'->VR φ y y'->
  (Op.equalIn D t x' y').run P w=.ok r w:=by
 intro d
 induction d with
 |zero=>intro D _ t x y x' y' r he;simp[nH]at he
 |succ d ih=>
  intro D hD t x y x' y' r he vx vy;obtain⟨D,rfl⟩:∃k,D=k+1:=⟨D-1,XV⟩
  simp only[nH]at he;split at he<;>try (cases he;done)
  .rename_i hu;cases vx;cases vy;rename_i a b;cases a<;>cases b<;>simp at he<;>subst he<;>simp[Op.equalIn,aW hu]
  .rename_i hu;cases vx;cases vy;split at he<;>try (cases he;done)
   rename_i hk;rw[gU]at hk;simp at hk;subst hk;simp[fS]at he;subst he;simp[Op.equalIn,aW hu];rfl
  .rename_i hu;cases vx;cases vy;simp[kE]at he;subst he;simp[Op.equalIn,aW hu,S2]
  .rename_i hu;cases vx;cases vy;simp at he;subst he;simp[Op.equalIn,aW hu]
  .rename_i hu;cases vx;cases vy;simp at he;subst he;simp[Op.equalIn,aW hu]
  .rename_i hu;cases vx;cases vy;simp at he;subst he;simp[Op.equalIn,aW hu]
  .rename_i e b o b' o' hu;split at he<;>try (cases he;done)
   rename_i s hs;split at he<;>try (cases he;done)
   rename_i hl hl';cases vx with
   |ptr hp=>
    cases vy with
    |ptr hp'=>
     rename_i pl mM;obtain⟨q,C,e1,g1,g2,g3⟩:=hr.Ow hl hp;obtain⟨q',C',e2,g1',g2',W6⟩:=hr.Ow hl' hp';have hsz:(sizeOf e).run P w=.ok (s+1) w:=dm hs;split at he
     .rename_i hb;have hb:=c_ hb;subst hb;rw[hp]at hp';cases hp';simp at he;subst he;simp[Op.equalIn,aW hu,hsz,sameAddr];rw[Bool.eq_iff_iff];simp
     .rename_i hb;have hb:=pV hb;simp at he;subst he;have hne:pl.B≠mM.B:=λe=>hb (hr.inj _ _ _ _ _ _ g1 g1' g2 g2' hp hp' e);simp[Op.equalIn,aW hu,hsz,wO g3 W6 hne]
  .rename_i hu;cases vx;cases vy;simp at he;subst he;simp[Op.equalIn,aW hu]
  .rename_i hu;cases vx;cases vy;simp at he;subst he;simp[Op.equalIn,aW hu]
  .rename_i hu;cases vx;cases vy;simp at he;subst he;simp[Op.equalIn,aW hu]
  .rename_i fs xs ys hu;split at he<;>try (cases he;done)
   rename_i hst;cases vx with
   |agg _ xs' hx1 hx2=>
    cases vy with
    |agg _ ys' hy1 hy2=>
     have hf:P.fieldsOf t=fs:=by simp[Program.fieldsOf,hu]
     rw[run_equalIn_struct w D t xs' ys' (by rw[hf];exact hu) hst,hf];exact IF D (nH P h d) (λt x y x' y' r he vx vy=>ih D XV t x y x' y' r he vx vy) _ _ _ xs' ys' r he (F2.pg hx1 hx2) (F2.pg hy1 hy2)
  .rename_i hu;cases vx;cases vy;simp at he;subst he;simp[Op.equalIn,aW hu]
  .rename_i hu;cases vx<;>cases vy<;>simp at he<;>subst he<;>simp[Op.equalIn,aW hu]
  .rename_i hu;cases vx<;>cases vy<;>simp at he<;>subst he<;>simp[Op.equalIn,aW hu]
  .rename_i hu;cases vx;cases vy;simp at he;subst he;simp[Op.equalIn,aW hu]
  .rename_i hu;cases vx;cases vy;simp at he;subst he;simp[Op.equalIn,aW hu]
  .rename_i hu;cases vx;cases vy;simp at he;subst he;simp[Op.equalIn,aW hu]
  .rename_i hu;cases vx;cases vy;simp at he;subst he;simp[Op.equalIn,aW hu]
  .rename_i hu;cases vx<;>cases vy<;>simp at he<;>subst he<;>simp[Op.equalIn,aW hu]
  .rename_i hu;cases vx<;>cases vy<;>simp at he<;>subst he<;>simp[Op.equalIn,aW hu]
theorem IG(hfl:¬good fl):∀(n:Nat)(l:List Value)(Y:List Value->β),good (Ba fl n l Y)->good (Y (l.take n)):=by
 intro n
 induction n with
 |zero=>intro l Y hg;simpa[Ba]using hg
 |succ n ih=>
  intro l Y hg;cases l with
  |nil=>simp only[Ba]at hg;exact absurd hg hfl
  |cons v l=>simp only[Ba]at hg;simpa using ih l _ hg
theorem vW(hfl:¬good fl){fty:TypeId}{b:Bool}(hb:oa P fty=some b){s:Nat}(hs:fV P fty=some s){cs cs':Array Value}(hc:F2 (VR φ) cs.toList cs'.toList)(off:Nat){Y:Value->β}(hg:good (DO fl b s cs.toList off Y)):∃v v',good (Y v)/\VR φ v v'/\(part fty cs' off).run P w=.ok v' w:=by
 have hp:=jl (w:=w) hb hs cs' off;cases b
 .simp only[DO]at hg;split at hg<;>try cases hfl hg
  rename_i v hv;obtain⟨v',e,r⟩:=hc.get _ _ hv;refine⟨v,v',hg,r,?_⟩;rw[hp];simp only[e]
 .simp only[DO]at hg;have:=IG hfl _ _ _ hg;exact⟨_,_,this,VR.qC ((hc.drop off).take s),hp⟩
theorem Ck(hfl:¬good fl){fs:Array Field}{uX:Field}{f s:Nat}{b:Bool}(hu:P.underlying t=some (.struct fs))(hf:fs[f]? = some uX)(hb:oa P uX.type=some b)(hs:fV P uX.type=some s){a a':Value}{Y:XW β}(hg:good (xQ fl b s uX.offset a h Y))(ha:VR φ a a'):∃v v',good (Y v h)/\VR φ v v'/\(Instr.field t a' f).run P w=.ok v' w:=by
 unfold xQ at hg;split at hg<;>try cases hfl hg
 cases ha with
 |agg _ cs' h1 h2=>
  obtain⟨v,v',g1,g2,g3⟩:=vW (w:=w) hfl hb hs (F2.pg h1 h2) _ hg;exact⟨v,v',g1,g2,by simp[Instr.field,aW hu,hf,asAgg,g3]⟩
theorem Cl(hfl:¬good fl){e s len:Nat}{b:Bool}(hu:P.underlying t=some (.array len e))(hb:oa P e=some b)(hs:fV P e=some s){a a' i i':Value}{Y:XW β}(hg:good (xR fl b len s a i h Y))(ha:VR φ a a')(hi:VR φ i i'):∃v v',good (Y v h)/\VR φ v v'/\(Instr.index t a' i').run P w=.ok v' w:=by
 unfold xR at hg;split at hg<;>try cases hfl hg
 split at hg<;>try cases hfl hg
 rename_i cs k j _ hle;have hle:j<len:=dK hle;cases hi;cases ha with
 |agg _ cs' h1 h2=>
  obtain⟨v,v',g1,g2,g3⟩:=vW (w:=w) hfl hb hs (F2.pg h1 h2) _ hg;refine⟨v,v',g1,g2,?_⟩;have W6:(part e cs' (j*s)).run P w=.ok v' w:=g3;simp[Instr.index,asIntOf,aW hu,dm hs,hle,W6]
theorem Cm(hfl:¬good fl)(hu:P.underlying t=some .string){a a' i i':Value}{Y:XW β}(hg:good (xS fl a i h Y))(ha:VR φ a a')(hi:VR φ i i'):∃v v',good (Y v h)/\VR φ v v'/\(Instr.index t a' i').run P w=.ok v' w:=by
 unfold xS at hg;split at hg<;>try cases hfl hg
 rename_i s k j;split at hg<;>try cases hfl hg
 rename_i b hb;simp only[bR]at hg;cases hi;cases ha;refine⟨_,.int .u8 b.toNat,hg,.int _ _,?_⟩;have:s[j]? = some b:=by
  have hj:=(List.getElem?_eq_some_iff.1 hb).1;have hb':=(List.getElem?_eq_some_iff.1 hb).2;have hj':j<s.size:=by simpa using hj
  rw[getElem?_pos s j hj']
  congr 1
 simp[Instr.index,asIntOf,aW hu,this]
abbrev Kp(φ:ej)(v v':Option Value):Prop:=match v,v' with|none,none=>True|some x,some x'=>VR φ x x'|_,_=>False
theorem og(hfl:¬good fl){v v':Option Value}{d:Nat}{Y:Nat->β}(hg:good (B_ fl v d Y))(hv:Kp φ v v'):∃n,good (Y n)/\(v=none->n=d)/\∀x',v'=some x'->∃k,x'=.int k (n:Int):=by
 unfold B_ at hg;split at hg
 .exact⟨d,hg,λ_=>rfl,λx' e=>by subst e;exact hv.elim⟩
 .rename_i k n;refine⟨n,hg,λe=>(by cases e),λx' e=>?_⟩;subst e;cases hv;exact⟨k,rfl⟩
 .exact absurd hg hfl
theorem run_sliceBound{k:IntKind}{n y:Nat}{code:BoundsCode}(h:n<=y):(Instr.sliceBound (.int k (n:Int)) y code).run P w=.ok n w:=by
 have:(n:Int)<=(y:Int):=by omega
 simp[Instr.sliceBound,asIntOf,this]
theorem gW(hfl:¬good fl){len lim cap cap':Nat}{lo hi mx lo' hi' Mt:Option Value}{Y:Nat->Nat->Nat->β}(hg:good (iP fl len lim cap lo hi mx Y))(h1:Kp φ lo lo')(h2:Kp φ hi hi')(h3:Kp φ mx Mt)(hlim:lim<=cap')(b:Bool):∃l hh m,l<=hh/\hh<=lim/\((mx=none/\m=cap/\good (Y l hh cap)/\(Instr.sliceBounds b len cap' lo' hi' Mt).run P w=.ok (l,hh,cap') w)\/
   (mx≠none/\hh<=m/\m<=lim/\good (Y l hh m)/\(Instr.sliceBounds b len cap' lo' hi' Mt).run P w=.ok (l,hh,m) w)):=by
 unfold iP at hg;cases mx with
 |none=>
  cases Mt with
  |some _=>exact h3.elim
  |none=>
   obtain⟨hh,g1,e1,e2⟩:=og hfl hg h2;obtain⟨l,g2,e3,e4⟩:=og hfl g1 h1;split at g2<;>try exact absurd g2 hfl
   rename_i hle1 hle2;have hle1:=dK hle1;have hle2:=dK hle2;refine⟨l,hh,cap,hle1,hle2,.inl ⟨rfl,rfl,g2,?_⟩⟩;cases lo<;>cases lo'<;>(try exact h1.elim)<;>cases hi<;>cases hi'<;>(try exact h2.elim)<;>simp at e1 e2 e3 e4
   .subst e1;subst e3;simp[Instr.sliceBounds]
   .obtain⟨k,rfl⟩:=e2;subst e3;simp[Instr.sliceBounds,run_sliceBound (P:=P) (w:=w) (k:=k) (show hh<=cap' by omega)]
   .obtain⟨k,rfl⟩:=e4;subst e1;simp[Instr.sliceBounds,run_sliceBound (P:=P) (w:=w) (k:=k) hle1]
   .obtain⟨k,rfl⟩:=e2;obtain⟨k',rfl⟩:=e4;simp[Instr.sliceBounds,run_sliceBound (P:=P) (w:=w) (k:=k) (show hh<=cap' by omega),run_sliceBound (P:=P) (w:=w) (k:=k') hle1]
 |some x=>
  cases Mt with
  |none=>exact h3.elim
  |some x'=>
   obtain⟨m,g0,_,e0⟩:=og hfl hg h3;obtain⟨hh,g1,e1,e2⟩:=og hfl g0 h2;obtain⟨l,g2,e3,e4⟩:=og hfl g1 h1;split at g2<;>try exact absurd g2 hfl
   rename_i hs hle1 hle2 dn;have hle1:=dK hle1;have hle2:=dK hle2;have dn:=dK dn;obtain⟨k0,rfl⟩:=e0 x' rfl;refine⟨l,hh,m,hle1,XV,.inr ⟨by simp,hle2,dn,g2,?_⟩⟩;cases hi with
   |none=>simp at hs
   |some y=>
    cases hi' with
    |none=>exact h2.elim
    |some y'=>
     obtain⟨k,rfl⟩:=e2 y' rfl;have r0:∀c,(Instr.sliceBound (.int k0 (m:Int)) cap' c).run P w=.ok m w:=λc=>run_sliceBound XV;have r1:∀c,(Instr.sliceBound (.int k (hh:Int)) m c).run P w=.ok hh w:=λc=>run_sliceBound hle2;cases lo<;>cases lo'<;>(try exact h1.elim)<;>simp at e3 e4
     .subst e3;simp[Instr.sliceBounds,r0,r1]
     .obtain⟨k',rfl⟩:=e4;simp[Instr.sliceBounds,r0,r1,run_sliceBound (P:=P) (w:=w) (k:=k') hle1]
end Go.Vai

namespace Go.Vai
open Go
variable {β:Type}{fl:β}{good:β->Prop}{P:Program}{φ:ej}{h:ah}{w:World}{t:TypeId}
theorem kF:aS=1267650600228229401496703205376:=rfl
theorem sU{v:Value}(hv:ij v=true):VR φ v v:=by
 cases v<;>simp only[ij]at hv<;>try (cases hv;done)
 .exact .bool _
 .exact .int _ _
 .exact .string _
 .rename_i a;cases a
  .exact .xY
  .simp at hv
 .rename_i a n c;cases a
  .exact .f_ (dK hv)
  .simp at hv
 .rename_i r;cases r
  .exact .xZ
  .simp at hv
 .exact .nilFunc
 .exact .nilIface
theorem jt{l:List Value}(h:l.all ij=true):F2 (VR φ) l l:=by
 induction l with
 |nil=>exact .nil
 |cons v l ih=>simp at h;exact .cons (sU h.1) (ih (by simpa using h.2))
theorem jv{v:Value}(hv:qq v=true):VR φ v v:=by
 cases v
 case agg cs=>exact VR.qC (jt hv)
 case tuple cs=>exact VR.tuple' (jt hv)
 case iface t v=>exact .iface t (sU hv)
 all_goals exact sU hv
theorem DV{v v':Value}(hs:ki v=true)(hv:VR φ v v'):v'=v:=by
 cases v<;>simp[ki]at hs<;>cases hv<;>rfl
theorem Ox{l l':List Value}(hs:l.all ki=true)(hv:F2 (VR φ) l l'):l'=l:=by
 induction hv with
 |nil=>rfl
 |cons hr _ ih=>simp at hs;rw[DV hs.1 hr,ih (by simpa using hs.2)]
theorem rM{v v':Value}(hs:n_ v=true)(hv:VR φ v v'):v'=v:=by
 cases v
 case agg cs=>
  cases hv with
  |agg _ a' h1 h2=>
   have:=Ox (φ:=φ) hs (F2.pg h1 h2)
   congr 1
   exact Array.ext' this
 all_goals exact DV hs hv
theorem lV{b o s l hh m:Nat}{pl:Pl}(hp:φ b=some pl)(h1:l<=hh)(h2:hh<=m)(h3:m<aS){Y:Value->β}(hg:good (tM b o s l hh m Y)):∃v,good (Y v)/\VR φ v (.slice (some (if m=l then⟨pl.B,o,none⟩else(⟨pl.B,o,none⟩:Addr).add (l*s))) (hh-l) (m-l)):=by
 unfold tM at hg;split at hg
 .rename_i he;have he:=c_ he;subst he;simp only[bR]at hg;refine⟨_,hg,?_⟩;rw[if_pos rfl];have e1:hh-m=0:=by omega
  have e2:m-m=0:=by omega
  rw[show Nat.sub hh m=0 from e1,e1,e2];exact .slice hp (Nat.le_refl _) (by rw[kF];omega)
 .rename_i he;have he:=pV he;simp only[bR]at hg;refine⟨_,hg,?_⟩;rw[if_neg he,iK];exact .slice hp (show hh-l<=m-l by omega) (show m-l<aS by omega)
theorem eZ{e s:Nat}{a:Option Addr}{len cap l hh m:Nat}{lo hi mx:Option Value}(hu:P.underlying t=some (.slice e))(hs:fV P e=some s)(hb:(Instr.sliceBounds true len cap lo hi mx).run P w=.ok (l,hh,m) w):(Instr.sliceAt t (.slice a len cap) lo hi mx).run P w=.ok (.slice (if m=l then a else a.map (·.add (l*s))) (hh-l) (m-l)) w:=by
 simp[Instr.sliceAt,Instr.slice,aW hu,hb,dm hs]
theorem HR.known(hr:HR P φ h w){e b n:Nat}{pl:Pl}(hk:jj h e b=some n)(hp:φ b=some pl):n<=pl.sz/\n<=4611686018427387904/\fV P e=some pl.e/\0<pl.e:=by
 unfold jj at hk;split at hk
 .rename_i hb;split at hk<;>try (cases hk;done)
  rename_i he;have he:=c_ he;subst he;cases hk;have:=hr.obj b _ pl hb hp;cases hO:w.heap[pl.B]? with
  |none=>rw[hO]at this;exact this.elim
  |some O=>
   rw[hO]at this;cases O<;>simp only[OR]at this<;>try exact this.elim
   obtain⟨_,_,h3,h4,h5,_⟩:=this;obtain⟨g1,g2,g3⟩:=h5 trivial;exact⟨XV,h4,g2,g3⟩
 .rename_i hb;split at hk<;>try (cases hk;done)
  rename_i he;have he:=c_ he;subst he;cases hk;have:=hr.obj b _ pl hb hp;cases hO:w.heap[pl.B]? with
  |none=>rw[hO]at this;exact this
  |some O=>rw[hO]at this;cases O<;>exact this
 .cases hk
theorem Cn(hfl:¬good fl){e s:Nat}(hu:P.underlying t=some (.slice e))(hs:fV P e=some s)(hr:HR P φ h w){x x':Value}{lo hi mx lo' hi' Mt:Option Value}{Y:XW β}(hg:good (sliceB fl e s x lo hi mx h Y))(hx:VR φ x x')(h1:Kp φ lo lo')(h2:Kp φ hi hi')(h3:Kp φ mx Mt):∃v v',good (Y v h)/\VR φ v v'/\(Instr.sliceAt t x' lo' hi' Mt).run P w=.ok v' w:=by
 unfold sliceB at hg;split at hg<;>try cases hfl hg
 .
  rename_i len cap;cases hx with
  |f_ hle=>
   obtain⟨l,hh,m,g1,g2,g3⟩:=gW (w:=w) hfl hg h1 h2 h3 (Nat.le_refl cap) true;rcases g3 with⟨_,rfl,g4,g5⟩|⟨_,g6,g7,g4,g5⟩
   .simp only[bR]at g4;refine⟨_,_,g4,?_,eZ hu hs g5⟩;have:(if m=l then(none:Option Addr)else Option.map (λa:Addr=>a.add (l*s)) none)=none:=by split<;>rfl
    rw[this];exact .f_ (show hh-l<=m-l by omega)
   .simp only[bR]at g4;refine⟨_,_,g4,?_,eZ hu hs g5⟩;have:(if m=l then(none:Option Addr)else Option.map (λa:Addr=>a.add (l*s)) none)=none:=by split<;>rfl
    rw[this];exact .f_ (show hh-l<=m-l by omega)
 .rename_i b o len cap;split at hg
  .
   rename_i hc;have hc:=c_ hc;subst hc;split at hg<;>try cases hfl hg
   rename_i hl;have hl:=c_ hl;subst hl;have:∃a' c,x'=.slice (some a') 0 c:=by
    cases hx with
    |slice hp hn hc=>exact⟨_,_,rfl⟩
    |dU a a' c=>exact⟨a',c,rfl⟩
   obtain⟨a',c,rfl⟩:=this;obtain⟨l,hh,m,g1,g2,g3⟩:=gW (w:=w) hfl hg h1 h2 h3 (Nat.zero_le c) true;have hh0:hh=0:=by omega
   have hl0:l=0:=by omega
   subst hh0;subst hl0;have fin:∀m',VR φ (.slice (some ⟨b,o,none⟩) 0 fT) (.slice (if m'=0 then some a' else Option.map (λa:Addr=>a.add (0*s)) (some a')) (0-0) (m'-0)):=by
    intro m';have:(if m'=0 then some a' else Option.map (λa:Addr=>a.add (0*s)) (some a'))=some a':=by split<;>simp[Addr.add]
    rw[this];exact .dU _ _ _
   rcases g3 with⟨_,rfl,g4,g5⟩|⟨_,g6,g7,g4,g5⟩
   .exact⟨_,_,g4,fin _,eZ hu hs g5⟩
   .exact⟨_,_,g4,fin _,eZ hu hs g5⟩
  .rename_i hna;have hna:=pV hna;split at hg
   .
    rename_i hno;have hno:=pV hno;split at hg
    rotate_left 1
    .split at hg<;>try cases hfl hg
     rename_i hce;have hce:=c_ hce;subst hce;cases hx with
     |slice hp hn hc=>exact absurd hc (by unfold gH aS;omega)
     |dO a' hp hc=>
      rename_i c0 Im;obtain⟨l,hh,m,g1,g2,g3⟩:=gW (w:=w) hfl hg h1 h2 h3 (Nat.zero_le c0) true;have hh0:hh=0:=by omega
      have hl0:l=0:=by omega
      subst hh0;subst hl0;have fin:VR φ (.slice (some ⟨b,o,none⟩) 0 gH) (.slice (if c0=0 then some a' else Option.map (λa:Addr=>a.add (0*s)) (some a')) (0-0) (c0-0)):=by
       have:(if c0=0 then some a' else Option.map (λa:Addr=>a.add (0*s)) (some a'))=some a':=by split<;>simp[Addr.add]
       rw[this];exact .dO _ hp hc
      rcases g3 with⟨_,rfl,g4,g5⟩|⟨g0,_⟩
      .exact⟨_,_,g4,fin,eZ hu hs g5⟩
      .exact absurd rfl g0
    rename_i S1;have S1:=dK S1;cases hx with
    |cw hp hn hc=>exact absurd rfl hno
    |dU a a' c=>exact absurd rfl hna
    |dO a' hp hc=>exact absurd S1 (by unfold gH;omega)
    |slice hp hn hc=>
     rename_i pl;obtain⟨l,hh,m,g1,g2,g3⟩:=gW (w:=w) hfl hg h1 h2 h3 (Nat.le_refl cap) true;rcases g3 with⟨_,rfl,g4,g5⟩|⟨_,g6,g7,g4,g5⟩
     .obtain⟨v,k1,k2⟩:=lV hp g1 XV hc g4;refine⟨v,_,k1,?_,eZ hu hs g5⟩;by_cases hm:m=l
      .simpa[hm]using k2
      .simpa[hm]using k2
     .obtain⟨v,k1,k2⟩:=lV hp g1 XV XV g4;refine⟨v,_,k1,?_,eZ hu hs g5⟩;by_cases hm:m=l
      .simpa[hm]using k2
      .simpa[hm]using k2
   .
    rename_i hno;have hno:=c_ hno;subst hno;split at hg<;>try cases hfl hg
    rename_i n s0 hk;split at hg<;>try cases hfl hg
    rename_i hon;have hon:=dK hon;have hx':∃pl c,φ b=some pl/\len<=c/\c*pl.e+o=pl.sz/\x'=.slice (some ⟨pl.B,o,none⟩) len c:=by
     cases hx with
     |slice hp hn hc=>exact absurd hc (Nat.lt_irrefl _)
     |cw hp hn hc=>exact⟨_,_,hp,hn,hc,rfl⟩
    obtain⟨pl,c,hp,hn,hc,rfl⟩:=hx';obtain⟨k1,k2,k3,k4⟩:=hr.known hk hp;have e2:pl.e=s0+1:=by rw[hs]at k3;exact(Option.some.inj k3).symm
    have hlim:Nat.div (Nat.sub n o) (s0+1)<=c:=by
     show(n-o) / (s0+1)<=c
     have hc2:=hc;rw[e2]at hc2;apply Nat.div_le_of_le_mul;rw[Nat.mul_comm];omega
    obtain⟨l,hh,m,g1,g2,g3⟩:=gW (w:=w) hfl hg h1 h2 h3 hlim true;have hlb:Nat.div (Nat.sub n o) (s0+1)<=4611686018427387904:=Nat.le_trans (Nat.div_le_self _ _) (by show n-o<=_;omega);rcases g3 with⟨_,rfl,g4,g5⟩|⟨_,g6,g7,g4,g5⟩
    .split at g4
     .split at g4
      .rename_i hl;have hl:=c_ hl;simp only[bR]at g4;refine⟨_,_,g4,?_,eZ hu hs g5⟩;have e1:hh-l=0:=by omega
       rw[e1];by_cases hm:c=l
       .rw[if_pos hm];exact .dO _ hp (.inl XV)
       .rw[if_neg hm];simp only[Option.map_some,iK];refine .dO _ hp (.inr ⟨rfl,?_⟩)
        show(c-l)*pl.e+(o+l*(s0+1))=pl.sz
        rw[<-hc,e2,Nat.sub_mul];have:l*(s0+1)<=c*(s0+1):=Nat.mul_le_mul_right _ XV;omega
      .rename_i hl;have hl:=pV hl;simp only[bR]at g4;refine⟨_,_,g4,?_,eZ hu hs g5⟩;have hm:¬c=l:=by omega
       rw[if_neg hm];simp only[Option.map_some,iK];refine .cw hp (show hh-l<=c-l by omega) ?_
       show(c-l)*pl.e+(o+l*(s0+1))=pl.sz
       have S1:l<=c:=by omega
       rw[<-hc,Nat.sub_mul];have:l*pl.e<=c*pl.e:=Nat.mul_le_mul_right _ S1;rw[<-e2];omega
     .rename_i hf;exact absurd rfl (pV hf)
    .split at g4
     .rename_i hf;have hf:=c_ hf;rw[kF]at hf;omega
     .obtain⟨v,j1,j2⟩:=lV hp g1 g6 (by rw[kF];omega) g4;refine⟨v,_,j1,?_,eZ hu hs g5⟩;by_cases hm:m=l
      .simpa[hm]using j2
      .simpa[hm]using j2
theorem Co(hfl:¬good fl)(hu:P.underlying t=some .string){x x':Value}{lo hi mx lo' hi' Mt:Option Value}{Y:XW β}(hg:good (xN fl x lo hi mx h Y))(hx:VR φ x x')(h1:Kp φ lo lo')(h2:Kp φ hi hi')(h3:Kp φ mx Mt):∃v v',good (Y v h)/\VR φ v v'/\(Instr.sliceAt t x' lo' hi' Mt).run P w=.ok v' w:=by
 unfold xN at hg;split at hg<;>try cases hfl hg
 rename_i s;cases hx;cases Mt with
 |some _=>exact h3.elim
 |none=>
  obtain⟨l,hh,m,g1,g2,g3⟩:=gW (P:=P) (w:=w) hfl hg h1 h2 (mx:=none) (Mt:=none) trivial (Nat.le_refl s.size) false;rcases g3 with⟨_,rfl,g4,g5⟩|⟨g6,_⟩
  .refine⟨_,.string (s.extract l hh),g4,.string _,?_⟩;simp[Instr.sliceAt,Instr.slice,aW hu,g5]
  .exact absurd rfl g6
theorem jI:∀(d:Nat)(D:Nat),d<=D->∀(t:TypeId)(v:Value)(em:Bool),kj P d t v=true->(Instr.checkKey em D t v).run P w=.ok () w:=by
 intro d
 induction d with
 |zero=>intro D _ t v em hk;simp[kj]at hk
 |succ d ih=>
  intro D hD t v em hk;obtain⟨D,rfl⟩:∃k,D=k+1:=⟨D-1,XV⟩
  simp only[kj]at hk;split at hk<;>try (cases hk;done)
  .rename_i hu;simp[Instr.checkKey,aW hu]
  .rename_i hu;simp[Instr.checkKey,aW hu]
  .rename_i hu;simp[Instr.checkKey,aW hu]
  .rename_i fs cs hu;simp only[Bool.and_eq_true]at hk;obtain⟨_,hk⟩:=hk;simp only[Instr.checkKey,Sem.run_bind,aW hu,Result.andThen_ok];rw[<-Array.forIn_toList];generalize fs.toList=l at hk;clear hu
   induction l with
   |nil=>simp
   |cons f l ihl=>
    simp only[List.all_cons,Bool.and_eq_true]at hk;obtain⟨hf,hk⟩:=hk;have pX:=ihl hk;have hone:∃x,(part f.type cs f.offset).run P w=.ok x w/\(Instr.checkKey em D f.type x).run P w=.ok () w:=by
     split at hf<;>try (cases hf;done)
     .rename_i hag hsz;exact⟨_,jl hag hsz cs f.offset,ih D XV _ _ em hf⟩
     .rename_i hag hsz;split at hf<;>try (cases hf;done)
      rename_i v hv;refine⟨v,?_,ih D XV _ _ em hf⟩;have:=jl (w:=w) hag hsz cs f.offset;rw[this];simp only[hv]
    obtain⟨x,hx1,hx2⟩:=hone;simp only[List.forIn_cons,Sem.run_bind,Sem.run_ite];split
    .simp only[hx1,hx2,Result.andThen_ok,Sem.run_pure];exact pX
    .simp only[Sem.run_pure,Result.andThen_ok];exact pX
theorem pq{d:Nat}{v:Value}(hk:kj P d t v=true):n_ v=true:=by
 cases d with
 |zero=>simp[kj]at hk
 |succ d=>
  simp only[kj]at hk;split at hk<;>try (cases hk;done)
  .rfl
  .rfl
  .rfl
  .simp only[Bool.and_eq_true]at hk;exact hk.1
theorem dI(hr:HR P φ h w){kt:TypeId}{k k':Value}(hk:VR φ k k'):∀(es es':List MapEntry)(i:Nat) (r:Option (Nat × MapEntry)),F2 (ER φ) es es'->fN P h kt k es i=some r->
  ∃r':Option (Nat × Value),(Instr.findAsking kt k' es' i).run P w=.ok r' w/\
   match r,r' with
   |none,none=>True
   |some (j,e),some (j',v')=>j'=j/\i<=j/\es[j-i]? = some e/\VR φ e.val v'/\nH P h 100 kt k e.key=some true
   |_,_=>False:=by
 intro es
 induction es with
 |nil=>intro es' i r h2 hf;cases h2;simp only[fN]at hf;cases hf;exact⟨none,by simp[Instr.findAsking],trivial⟩
 |cons e es ih=>
  intro es' i r h2 hf;cases h2 with
  |cons he h2=>
   rename_i e' es';simp only[fN]at hf;have key:∀q,nH P h 100 kt k e.key=some q->(Op.equal kt k' e'.key).run P w=.ok q w:=λq hq=>u6 hr 100 10000 XV kt _ _ _ _ q hq hk he.key;split at hf
   .rename_i hq;cases hf;exact⟨some (i,e'.val),by simp[Instr.findAsking,key _ hq],rfl,Nat.le_refl _,by simp,he.val,hq⟩
   .rename_i hq;obtain⟨r',h3,h4⟩:=ih es' (i+1) r h2 hf;refine⟨r',by simp[Instr.findAsking,key _ hq,h3],?_⟩;cases r with
    |none=>cases r' with
     |none=>trivial
     |some _=>exact h4.elim
    |some p=>
     cases r' with
     |none=>exact h4
     |some p'=>
      obtain⟨g1,g2,g3,g4,g5⟩:=h4;refine⟨g1,XV,?_,g4,g5⟩;rw[show p.1-i=(p.1-(i+1))+1 by omega];simpa using g3
   .cases hf
theorem sL{D:Nat}{d:TypeDesc}{kt:TypeId}(hu:P.underlying kt=some d){a b:Value}{q:Bool}(hs:Instr.sameNow d a b=some q):(Op.equalIn (D+1) kt a b).run P w=.ok q w:=by
 unfold Instr.sameNow at hs;split at hs<;>try (cases hs;done)
 .split at hs<;>try (cases hs;done)
  rename_i hk;subst hk;cases hs;simp[Op.equalIn,aW hu]
 .cases hs;simp[Op.equalIn,aW hu]
 .cases hs;simp[Op.equalIn,aW hu]
theorem AD{d:TypeDesc}{kt:TypeId}(hu:P.underlying kt=some d){k:Value}:∀(es:List MapEntry)(i:Nat) (r:Option (Nat × Value)),Instr.findNow d k es i=some r->(Instr.findAsking kt k es i).run P w=.ok r w:=by
 intro es
 induction es with
 |nil=>intro i r hf;simp only[Instr.findNow]at hf;cases hf;simp[Instr.findAsking]
 |cons e es ih=>
  intro i r hf;simp only[Instr.findNow]at hf;split at hf
  .rename_i hq;cases hf;simp[Instr.findAsking,Op.equal,sL (D:=9999) (w:=w) hu hq,Op.maxDepth]
  .rename_i hq;simp[Instr.findAsking,Op.equal,sL (D:=9999) (w:=w) hu hq,Op.maxDepth,ih _ _ hf]
  .cases hf
theorem fE{kt:TypeId}{d:TypeDesc}(hu:P.underlying kt=some d){k:Value}{es:List MapEntry}{r:Option (Nat × Value)}(ha:(Instr.findAsking kt k es 0).run P w=.ok r w):(Instr.findKey kt k es).run P w=.ok r w:=by
 simp only[Instr.findKey,Sem.run_bind,aW hu,Result.andThen_ok];cases hn:Instr.findNow d k es 0 with
 |none=>simpa using ha
 |some r'=>
  have:=AD (w:=w) hu es 0 r' hn;rw[ha]at this;injection this with e1 e2
  subst e1;simp
theorem rN{d:Nat}{v:Value}(hk:kj P d t v=true):∃u,P.underlying t=some u:=by
 cases d with
 |zero=>simp[kj]at hk
 |succ d=>
  simp only[kj]at hk;cases hu:P.underlying t with
  |none=>rw[hu]at hk;simp at hk
  |some u=>exact⟨u,rfl⟩
theorem AE(hfl:¬good fl){kt et:TypeId}(hu:P.underlying t=some (.map kt et))(ok:Bool)(hr:HR P φ h w){m m' k k':Value}{Y:Option Value->β}(hg:good (jF fl P kt m k h Y))(hm:VR φ m m')(hk:VR φ k k'):∃r r':Option Value,good (Y r)/\Kp φ r r'/\(Instr.lookup t m' k' ok).run P w=(match r' with
   |some v=>.ok (if ok then .tuple #[v,.bool true]else v) w
   |none=>((zeroValue et).run P w).andThen λz w=>.ok (if ok then .tuple #[z,.bool false]else z) w):=by
 unfold jF at hg;split at hg<;>try cases hfl hg
 rename_i II;have hsc:=pq II;have hkk:=rM hsc hk;subst hkk;have AF:∀em,(Instr.checkKey em 10000 kt k').run P w=.ok () w:=λem=>jI 20 10000 XV kt k' em II;obtain⟨u,NY⟩:=rN II;cases hm<;>try cases hfl hg
 .refine⟨none,none,hg,trivial,?_⟩;have hfk:(Instr.findKey kt k' []).run P w=.ok none w:=fE NY (by simp[Instr.findAsking]);simp only[Instr.lookup,Sem.run_bind,aW hu,Result.andThen_ok,Sem.run_pure,AF,hfk]
  (try cases(zeroValue et).run P w<;>simp[Result.andThen])
 .rename_i r pl hp;simp only at hg;split at hg<;>try cases hfl hg
  rename_i es clock hb;obtain⟨es',hO,h2⟩:=hr.pW hb hp;split at hg
  .rename_i j e hf;obtain⟨r',g3,g4⟩:=dI hr hk es es'.toList 0 _ h2 hf;cases r' with
   |none=>exact g4.elim
   |some p=>
    obtain⟨j',v'⟩:=p;obtain⟨rfl,_,_,g5,_⟩:=g4;refine⟨some e.val,some v',hg,g5,?_⟩;simp[Instr.lookup,aW hu,dy hO,AF,fE NY g3]
  .rename_i hf;obtain⟨r',g3,g4⟩:=dI hr hk es es'.toList 0 _ h2 hf;cases r' with
   |some p=>exact g4.elim
   |none=>
    refine⟨none,none,hg,trivial,?_⟩;simp only[Instr.lookup,Sem.run_bind,aW hu,Result.andThen_ok,Sem.run_pure,dy hO,AF,fE NY g3]
    (try cases(zeroValue et).run P w<;>simp[Result.andThen])
  .exact absurd hg hfl
theorem AG(hfl:¬good fl){kt et:TypeId}{zero:Value}{inf:TypeInfo}(hu:P.underlying t=some (.map kt et))(hi:P.info? et=some inf)(hz:inf.zero=some zero)(hzs:qq zero=true)(ok:Bool)(hr:HR P φ h w){m m' k k':Value}{Y:XW β}(hg:good (ct fl P kt zero ok m k h Y))(hm:VR φ m m')(hk:VR φ k k'):∃v v',good (Y v h)/\VR φ v v'/\(Instr.lookup t m' k' ok).run P w=.ok v' w:=by
 obtain⟨r,r',g1,g2,g3⟩:=AE hfl hu ok hr hg hm hk;cases r<;>cases r'<;>(try exact g2.elim)<;>cases ok<;>simp only at g1
 .exact⟨_,zero,g1,jv hzs,by rw[g3];simp[iJ hi hz]⟩
 .exact⟨_,.tuple #[zero,.bool false],g1,VR.tuple' (.cons (jv hzs) (.cons (.bool false) .nil)),by rw[g3];simp[iJ hi hz]⟩
 .exact⟨_,_,g1,g2,by rw[g3];simp⟩
 .exact⟨_,.tuple #[_,.bool true],g1,VR.tuple' (.cons g2 (.cons (.bool true) .nil)),by rw[g3];simp⟩
theorem tP(hfl:¬good fl){xt asserted:TypeId}{zero:Value}{inf:TypeInfo}{d:TypeDesc}(hu:P.underlying asserted=some d)(hd:∀ms,d≠.interface ms)(hi:P.info? asserted=some inf)(hz:inf.zero=some zero)(hzs:qq zero=true)(ok:Bool){x x':Value}{Y:XW β}(hg:good (dH fl asserted zero ok x h Y))(hx:VR φ x x'):∃v v',good (Y v h)/\VR φ v v'/\(Instr.typeAssert x' xt asserted ok).run P w=.ok v' w:=by
 unfold dH at hg;split at hg<;>try cases hfl hg
 .rename_i t v;cases hx with
  |iface _ hv=>
   rename_i v';split at hg<;>try cases hfl hg
   .rename_i he;have he:=c_ he;subst he;refine⟨_,.tuple #[v',.bool true],hg,VR.tuple' (.cons hv (.cons (.bool true) .nil)),?_⟩;simp only[Instr.typeAssert,Sem.run_bind,aW hu,Result.andThen_ok];cases d<;>first|exact absurd rfl (hd _)|simp
   .rename_i he;have he:=c_ he;subst he;refine⟨_,v',hg,hv,?_⟩;simp only[Instr.typeAssert,Sem.run_bind,aW hu,Result.andThen_ok];cases d<;>first|exact absurd rfl (hd _)|simp
   .rename_i he;have he:=pV he;refine⟨_,.tuple #[zero,.bool false],hg,VR.tuple' (.cons (jv hzs) (.cons (.bool false) .nil)),?_⟩;simp only[Instr.typeAssert,Sem.run_bind,aW hu,Result.andThen_ok];cases d<;>first|exact absurd rfl (hd _)|simp[he,iJ hi hz]
 .cases hx;split at hg<;>try cases hfl hg
  refine⟨_,.tuple #[zero,.bool false],hg,VR.tuple' (.cons (jv hzs) (.cons (.bool false) .nil)),?_⟩;simp only[Instr.typeAssert,Sem.run_bind,aW hu,Result.andThen_ok];cases d<;>first|exact absurd rfl (hd _)|simp[iJ hi hz]
theorem IJ(hfl:¬good fl){op:BinOp}{k:IntKind}{a b:Int}{Y:Value->β}(hg:good (lQ fl op k a b Y)){kb:IntKind}(hk:kb=k\/op=.shl\/op=.shr)(t:TypeId):∃v,good (Y v)/\VR φ v v/\(binOp op t (.int k a) (.int kb b)).run P w=.ok v w:=by
 cases op<;>simp only[lQ,gI,cF,ef,iq,fS]at hg
 case shl=>
  split at hg<;>try cases hfl hg
  rename_i hb;have hb:¬b<0:=by simpa using hb
  exact⟨_,hg,.int _ _,by simp[binOp,Op.shift,hb]⟩
 case shr=>
  split at hg<;>try cases hfl hg
  rename_i hb;have hb:¬b<0:=by simpa using hb
  exact⟨_,hg,.int _ _,by simp[binOp,Op.shift,hb]⟩
 all_goals (have hk:kb=k:=by rcases hk with h|h|h<;>first|exact h|cases h)
 all_goals subst hk
 case quo=>
  split at hg<;>try cases hfl hg
  rename_i hb;have hb:¬b=0:=by simpa using hb
  exact⟨_,hg,.int _ _,by simp[binOp,Op.intDiv,hb]⟩
 case rem=>
  split at hg<;>try cases hfl hg
  rename_i hb;have hb:¬b=0:=by simpa using hb
  exact⟨_,hg,.int _ _,by simp[binOp,Op.intDiv,hb]⟩
 case add=>exact⟨_,hg,.int _ _,by simp[binOp,Op.intArith]⟩
 case sub=>exact⟨_,hg,.int _ _,by simp[binOp,Op.intArith];rfl⟩
 case mul=>exact⟨_,hg,.int _ _,by simp[binOp,Op.intArith]⟩
 case and=>exact⟨_,hg,.int _ _,by simp[binOp,Op.intBits]⟩
 case or=>exact⟨_,hg,.int _ _,by simp[binOp,Op.intBits]⟩
 case xor=>exact⟨_,hg,.int _ _,by simp[binOp,Op.intBits]⟩
 case andNot=>exact⟨_,hg,.int _ _,by simp[binOp,Op.intBits]⟩
 case eql=>exact⟨_,hg,.bool _,by simp[binOp,Op.intCmp];rfl⟩
 case neq=>exact⟨_,hg,.bool _,by simp[binOp,Op.intCmp];rfl⟩
 case lss=>exact⟨_,hg,.bool _,by simp[binOp,Op.intCmp]⟩
 case leq=>exact⟨_,hg,.bool _,by simp[binOp,Op.intCmp];rw[Bool.eq_iff_iff];simp⟩
 case gtr=>exact⟨_,hg,.bool _,by simp[binOp,Op.intCmp]⟩
 case geq=>exact⟨_,hg,.bool _,by simp[binOp,Op.intCmp];rw[Bool.eq_iff_iff];simp⟩
theorem x9(hr:HR P φ h w){op:BinOp}{t:TypeId}{x y:Operand}{a b a' b':Value}{r:Bool}(hop:op=.eql\/op=.neq)(hgd:P.eqGuardType P.depth t=false)(ha:VR φ a a')(hb:VR φ b b')(he:nH P h 100 t a b=some r)(hni:¬(∃k n k' m,a=.int k n/\b=.int k' m))(Ip:¬(∃s s',a=.string s/\b=.string s'))(hnn:¬(a=.nilIface/\b=.nilIface)):((do eqGuard op t x y a' b';binOp op t a' b'):Sem Value).run P w=.ok (.bool (if op=.eql then r else !r)) w:=by
 have hq:=u6 hr 100 10000 XV t a b a' b' r he ha hb;have Kq:(Op.equal t a' b').run P w=.ok r w:=hq;have hg:(eqGuard op t x y a' b').run P w=.ok () w:=by
  rcases hop with rfl|rfl<;>cases ha<;>first
   |(simp[eqGuard];done)
   |(cases hb<;>first|(simp[eqGuard,hgd];done)|exact absurd ⟨rfl,rfl⟩ hnn)
 have agR:(binOp op t a' b').run P w=.ok (.bool (if op=.eql then r else !r)) w:=by
  rcases hop with rfl|rfl<;>cases ha<;>first
   |(simp[binOp,Kq];done)
   |(cases hb<;>first|(simp[binOp,Kq];done)|exact absurd ⟨_,_,_,_,rfl,rfl⟩ hni|exact absurd ⟨_,_,rfl,rfl⟩ Ip)
 simp[hg,agR]
end Go.Vai

namespace Go.Vai
open Go
variable {β:Type}{fl:β}{good:β->Prop}{P:Program}{φ:ej}{h:ah}{w:World}{t:TypeId}
theorem IK(hfl:¬good fl)(hr:HR P φ h w){op:BinOp}{t:TypeId}{x y:Operand}{a b a' b':Value}{Y:XW β}(hg:good (aG fl P op t ((x matches .const _) || (y matches .const _)) (P.eqGuardType P.depth t) a b h Y))(ha:VR φ a a')(hb:VR φ b b'):∃v v',good (Y v h)/\VR φ v v'/\((do eqGuard op t x y a' b';binOp op t a' b'):Sem Value).run P w=.ok v' w:=by
 unfold aG at hg;split at hg
 .rename_i k n k' m;cases ha;cases hb
  have fin:∀op',good (lQ fl op' k n m λv=>Y v h)->(k'=k\/op'=.shl\/op'=.shr)->op'=op->
    ∃v v',good (Y v h)/\VR φ v v'/\((do eqGuard op t x y (.int k n) (.int k' m);binOp op t (.int k n) (.int k' m)):Sem Value).run P w=.ok v' w:=by
   intro op' hg1 hk e;subst e;obtain⟨v,g1,g2,g3⟩:=IJ (P:=P) (w:=w) (φ:=φ) hfl hg1 hk t;refine⟨v,v,g1,g2,?_⟩;rw[eqGuard_at_int];simpa using g3
  split at hg
  .rename_i hk;rw[gU]at hk;exact fin _ hg (.inl (by simpa[eq_comm]using hk)) rfl
  .exact fin _ hg (.inr (.inl rfl)) rfl
  .exact fin _ hg (.inr (.inr rfl)) rfl
  .exact absurd hg hfl
 .rename_i s s';cases ha;cases hb;split at hg
  .split at hg<;>try cases hfl hg
   rename_i hle;have hle:=dK hle;refine⟨_,_,hg,.string _,?_⟩;have h1:¬((s.size+s'.size:Nat):Int) > IntKind.i64.max:=by
    rw[IntKind.max_i64];have:s.size+s'.size<=9223372036854775807:=hle;omega
   have h2:¬(9223372036854775807:Int)<(s.size:Int)+(s'.size:Int):=by have:s.size+s'.size<=9223372036854775807:=hle;omega
   simp[eqGuard,binOp,Op.stringOp,h2]
  .simp only[cF,kE]at hg;refine⟨_,_,hg,.bool _,?_⟩;rw[<-S2,beq_toListBytes];simp[eqGuard,binOp,Op.stringOp]
  .simp only[cF,kE]at hg;refine⟨_,_,hg,.bool _,?_⟩;rw[<-S2,beq_toListBytes];simp[eqGuard,binOp,Op.stringOp]
  .exact absurd hg hfl
 ·cases ha;cases hb;have hq:∀r,nH P h 100 t .nilIface .nilIface=some r->(Op.equal t .nilIface .nilIface).run P w=.ok r w:=
   λr he=>u6 hr 100 10000 XV t _ _ _ _ r he .nilIface .nilIface
  split at hg<;>try cases hfl hg
  .rename_i hcn;split at hg<;>try cases hfl hg
   rename_i r he;simp only[cF]at hg;refine⟨_,_,hg,.bool _,?_⟩;cases x<;>cases y<;>simp at hcn<;>simp[eqGuard,binOp,hq r he]
  .rename_i hcn;split at hg<;>try cases hfl hg
   rename_i r he;simp only[cF]at hg;refine⟨_,_,hg,.bool _,?_⟩;cases x<;>cases y<;>simp at hcn<;>simp[eqGuard,binOp,hq r he]
 .exact absurd hg hfl
 .exact absurd hg hfl
 .exact absurd hg hfl
 .exact absurd hg hfl
 .have n1:∀k n k' m,a=.int k n->b=.int k' m->False:=by assumption
  have n2:∀s s',a=.string s->b=.string s'->False:=by assumption
  have n3:a=.nilIface->b=.nilIface->False:=by assumption
  split at hg<;>try cases hfl hg
  .rename_i hgd;split at hg<;>try cases hfl hg
   rename_i r he;simp only[cF]at hg;refine⟨_,_,hg,.bool _,?_⟩;have:=x9 (x:=x) (y:=y) hr (op:=.eql) (.inl rfl) hgd ha hb he (λ⟨k,n,k',m,e1,e2⟩=>n1 k n k' m e1 e2) (λ⟨s,s',e1,e2⟩=>n2 s s' e1 e2) (λ⟨e1,e2⟩=>n3 e1 e2);simpa using this
  .rename_i hgd;split at hg<;>try cases hfl hg
   rename_i r he;simp only[cF]at hg;refine⟨_,_,hg,.bool _,?_⟩;have:=x9 (x:=x) (y:=y) hr (op:=.neq) (.inr rfl) hgd ha hb he (λ⟨k,n,k',m,e1,e2⟩=>n1 k n k' m e1 e2) (λ⟨s,s',e1,e2⟩=>n2 s s' e1 e2) (λ⟨e1,e2⟩=>n3 e1 e2);simpa using this
theorem jW{s:Sem Value}{v:Value}{w':World}(hs:s.run P w=.ok v w'):((do pure (Next.value (<-s)):Sem Next)).run P w=.ok (.value v) w':=by simp[hs]
theorem wP{z:List Value}{place:Nat->Option (Nat × Nat)}(hp:od P t=some (z,place)){parts:List (Nat × Value)}{r:Array Value}(hf:Instr.fill place z.toArray parts=some r):P.built t parts=some r/\z.all ij=true:=by
 unfold od at hp;unfold Program.built;split at hp<;>try (cases hp;done)
 .rename_i it n e hi hu;split at hp<;>try (cases hp;done)
  rename_i zv ie hz hie;split at hp<;>try (cases hp;done)
  rename_i hb;cases hp;refine⟨?_,hb⟩;simp only[hi,hu,hz,hie];simpa using hf
 .rename_i it fs hi hu;split at hp<;>try (cases hp;done)
  rename_i zv places hz Ao;split at hp<;>try (cases hp;done)
  rename_i hb;cases hp;refine⟨?_,hb⟩;simp only[hi,hu,hz,Ao];simpa using hf
theorem wQ{z:List Value}{place:Nat->Option (Nat × Nat)}(hp:od P t=some (z,place)):z.all ij=true:=by
 unfold od at hp;split at hp<;>try (cases hp;done)
 .split at hp<;>try (cases hp;done)
  split at hp<;>try (cases hp;done)
  rename_i hb;cases hp;exact hb
 .split at hp<;>try (cases hp;done)
  split at hp<;>try (cases hp;done)
  rename_i hb;cases hp;exact hb
theorem sM{lo hi mx:Option Operand}{f g:Operand->Value}(hv:∀y∈qt lo hi mx,VR φ (f y) (g y)){l hh m:Option Value}(hb:xb lo.isSome hi.isSome mx.isSome ((qt lo hi mx).map f)=some (l,hh,m)):Kp φ l (lo.map g)/\Kp φ hh (hi.map g)/\Kp φ m (mx.map g):=by
 cases lo<;>cases hi<;>cases mx<;>simp[qt,xb]at hb hv<;>obtain⟨rfl,rfl,rfl⟩:=hb<;>simp_all<;>trivial
set_option maxHeartbeats 1000000 in
theorem vX(hfl:¬good fl){op:Op}{i:XI β}(hc:pU fl P op=some i){tm:T Value}{ρ:Operand->Value}(hρ:∀y∈op.operands.toList,VR φ (fQ tm y) (ρ y))(hr:HR P φ h w){Y:XW β}(hg:good (i.run tm h Y)){o:Oper}(ho:o.op=op):∃v v',good (Y v h)/\VR φ v v'/\(execOp ρ o).run P w=.ok (.value v') w:=by
 have lift:∀{s:Sem Value},(∃v v',good (Y v h)/\VR φ v v'/\s.run P w=.ok v' w)->execOp ρ o=(do pure (Next.value (<-s)))->
   ∃v v',good (Y v h)/\VR φ v v'/\(execOp ρ o).run P w=.ok (.value v') w:=by
  intro s ⟨v,v',g1,g2,g3⟩ e;exact⟨v,v',g1,g2,by rw[e];exact jW g3⟩
 cases op<;>simp only[pU]at hc<;>try (cases hc;done)
 case move x=>
  cases hc;rw[XI.cT]at hg;exact⟨_,ρ x,hg,hρ x (by simp[Op.operands]),by simp[execOp,ho]⟩
 case assign x=>
  cases hc;rw[XI.cT]at hg;exact⟨_,ρ x,hg,hρ x (by simp[Op.operands]),by simp[execOp,ho]⟩
 case pick c a b=>
  cases hc;rw[XI.qB]at hg;obtain⟨v,v',g1,g2,g3⟩:=DT (P:=P) (w:=w) hfl hg (hρ c (by simp[Op.operands])) (hρ a (by simp[Op.operands])) (hρ b (by simp[Op.operands]));exact⟨v,v',g1,g2,by simp only[execOp,ho];exact g3⟩
 case build t parts=>
  split at hc<;>try (cases hc;done)
  rename_i z place hp;split at hc<;>try (cases hc;done)
  rename_i ps hps;cases hc;rw[XI.i_]at hg;have hb:=wQ hp;rw[List.map_map]at hg;obtain⟨r,r',g1,g2,g3⟩:=vV (φ:=φ) hfl tm ρ place parts.toList ps hps (λp wR=>hρ p.2 (by simp[Op.operands];exact⟨p.1,by simpa using wR⟩)) z z (jt hb) _ hg;obtain⟨g4,_⟩:=wP hp g3;refine⟨_,.agg r'.toArray,g1,VR.qC (by simpa using g2),?_⟩;have g5:=run_build (P:=P) w t (parts.map λ(i,x)=>(i,ρ x)) r'.toArray (by simpa using g4);simp only[execOp,ho];exact jW g5
 case load t a=>
  split at hc<;>try (cases hc;done)
  .rename_i hag hsz;cases hc;rw[XI.cT]at hg;exact lift (vU hfl hag hsz hg (hρ a (by simp[Op.operands])) hr) (by simp only[execOp,ho])
  .rename_i hag hsz;cases hc;rw[XI.cT]at hg;exact lift (mW hfl hag hg (hρ a (by simp[Op.operands])) hr) (by simp only[execOp,ho])
 case nilCheck x=>
  cases hc;rw[XI.cT]at hg;exact IC hfl hg (hρ x (by simp[Op.operands])) o ρ x ho rfl
 case binOp op t x y yt=>
  cases hc;rw[XI.dN]at hg;exact lift (IK hfl hr hg (hρ x (by simp[Op.operands])) (hρ y (by simp[Op.operands]))) (by simp only[execOp,ho])
 case unOp op t x=>
  cases hc;rw[XI.cT]at hg;exact lift (Mq hfl hg (hρ x (by simp[Op.operands]))) (by simp only[execOp,ho])
 case convert src dst x=>
  split at hc<;>try (cases hc;done)
  .rename_i hs hd;cases hc;rw[XI.cT]at hg;exact lift (DU hfl hs hd hg (hρ x (by simp[Op.operands]))) (by simp only[execOp,ho])
  .rename_i hs hd;cases hc;rw[XI.cT]at hg;split at hg<;>try cases hfl hg
   rename_i s hx;have hv:=hρ x (by simp[Op.operands]);rw[hx]at hv;generalize hy:ρ x=y at hv;cases hv;refine⟨_,.string s,hg,.string s,?_⟩;simp[execOp,ho,convert,aW hs,aW hd,hy]
 case makeInterface t x=>
  split at hc<;>try (cases hc;done)
  rename_i d hni hu;cases hc;rw[XI.cT]at hg;refine⟨_,.iface t (ρ x),hg,.iface t (hρ x (by simp[Op.operands])),?_⟩;have:(Instr.makeInterface t (ρ x)).run P w=.ok (.iface t (ρ x)) w:=by
   simp only[Instr.makeInterface,Sem.run_bind,aW hu,Result.andThen_ok];cases d<;>first|exact absurd hu (hni _)|rfl
  simp only[execOp,ho];exact jW this
 case makeFunc fn first cap=>
  cases fn<;>try (cases hc;done)
  rename_i fn;cases hc;rw[XI.i_]at hg;have hv:F2 (VR φ) ((first.toList++cap.toList).map (fQ tm)) ((first.toList++cap.toList).map ρ):=F2.map _ λx hx=>hρ x (by simpa[Op.operands]using hx);refine⟨_,.func (.func fn) (first.map ρ) (cap.map ρ),hg,?_,by simp[execOp,ho,Instr.makeFunc]⟩;refine VR.func' ?_ ?_
  .have:=hv.take first.toList.length
   simpa using this
  .have:=hv.drop first.toList.length
   simpa using this
 case slice t x lo hi mx=>
  have hx:VR φ (fQ tm x) (ρ x):=hρ x (by simp[Op.operands]);have W7:∀y∈qt lo hi mx,VR φ (fQ tm y) (ρ y):=λy hy=>hρ y (by
   cases lo<;>cases hi<;>cases mx<;>simp[qt]at hy<;>simp[Op.operands,hy])
  split at hc<;>try (cases hc;done)
  .rename_i e hu;split at hc<;>try (cases hc;done)
   rename_i s hs;cases hc;rw[XI.i_]at hg;simp only[List.map_cons]at hg;split at hg<;>try cases hfl hg
   rename_i l hh m hb;obtain⟨k1,k2,k3⟩:=sM W7 hb;exact lift (Cn hfl hu hs hr hg hx k1 k2 k3) (by simp only[execOp,ho])
  .rename_i hu;cases hc;rw[XI.i_]at hg;simp only[List.map_cons]at hg;split at hg<;>try cases hfl hg
   rename_i l hh m hb;obtain⟨k1,k2,k3⟩:=sM W7 hb;exact lift (Co hfl hu hg hx k1 k2 k3) (by simp only[execOp,ho])
 case fieldAddr t x f=>
  split at hc<;>try (cases hc;done)
  rename_i fs hu;split at hc<;>try (cases hc;done)
  rename_i uX hf;split at hc<;>try (cases hc;done)
  rename_i s hs;cases hc;rw[XI.cT]at hg;exact lift (uZ hfl hu hf hs hg (hρ x (by simp[Op.operands]))) (by simp only[execOp,ho])
 case field t x f=>
  split at hc<;>try (cases hc;done)
  rename_i fs hu;split at hc<;>try (cases hc;done)
  rename_i uX hf;split at hc<;>try (cases hc;done)
  rename_i b s hb hs;cases hc;rw[XI.cT]at hg;exact lift (Ck hfl hu hf hb hs hg (hρ x (by simp[Op.operands]))) (by simp only[execOp,ho])
 case indexAddr t x i=>
  split at hc<;>try (cases hc;done)
  .rename_i e hu;split at hc<;>try (cases hc;done)
   rename_i s hs;cases hc;rw[XI.dN]at hg;exact lift (u0 hfl hu hs hg (hρ x (by simp[Op.operands])) (hρ i (by simp[Op.operands]))) (by simp only[execOp,ho])
  .rename_i len e hu;split at hc<;>try (cases hc;done)
   rename_i s hs;cases hc;rw[XI.dN]at hg;exact lift (u5 hfl hu hs hg (hρ x (by simp[Op.operands])) (hρ i (by simp[Op.operands]))) (by simp only[execOp,ho])
 case index t x i=>
  split at hc<;>try (cases hc;done)
  .rename_i len e hu;split at hc<;>try (cases hc;done)
   rename_i b s hb hs;cases hc;rw[XI.dN]at hg;exact lift (Cl hfl hu hb hs hg (hρ x (by simp[Op.operands])) (hρ i (by simp[Op.operands]))) (by simp only[execOp,ho])
  .rename_i hu;cases hc;rw[XI.dN]at hg;exact lift (Cm hfl hu hg (hρ x (by simp[Op.operands])) (hρ i (by simp[Op.operands]))) (by simp only[execOp,ho])
 case lookup t x i ok=>
  split at hc<;>try (cases hc;done)
  rename_i kt et hu;split at hc<;>try (cases hc;done)
  rename_i z hz;split at hc<;>try (cases hc;done)
  rename_i hzs;cases hc;rw[XI.dN]at hg;cases hi:P.info? et with
  |none=>rw[hi]at hz;simp at hz
  |some inf=>
   rw[hi]at hz;simp at hz;exact lift (AG hfl hu hi hz hzs ok hr hg (hρ x (by simp[Op.operands])) (hρ i (by simp[Op.operands]))) (by simp only[execOp,ho])
 case typeAssert x xt t ok=>
  split at hc<;>try (cases hc;done)
  rename_i d z hni hu hz;split at hc<;>try (cases hc;done)
  rename_i hzs;cases hc;rw[XI.cT]at hg;cases hi:P.info? t with
  |none=>rw[hi]at hz;simp at hz
  |some inf=>
   rw[hi]at hz;simp at hz;exact lift (tP (xt:=xt) hfl hu (λms e=>hni ms e) hi hz hzs ok hg (hρ x (by simp[Op.operands]))) (by simp only[execOp,ho])
 case extract x i=>
  cases hc;rw[XI.cT]at hg;exact lift (x8 hfl hg (hρ x (by simp[Op.operands]))) (by simp only[execOp,ho])
 case call c=>
  obtain⟨callee,args,ts⟩:=c;cases callee<;>(try simp only at hc)<;>try (cases hc;done)
  rename_i b;cases b<;>(try simp only at hc)<;>try (cases hc;done)
  case len=>
   split at hc<;>try (cases hc;done)
   rename_i x t hx ht;have hargs:args=#[x]:=Array.ext' (by simpa using hx);have u7:VR φ (fQ tm x) (ρ x):=hρ x (by simp[Op.operands,Call.operands,hargs]);have hex:execOp ρ o=(do pure (Next.value (<-Builtin.len_ ts o.type #[ρ x]))):=by
    simp[execOp,ho,resolve,invoke,builtin,hargs]
   split at hc<;>try (cases hc;done)
   .rename_i hu;cases hc;rw[XI.cT]at hg;exact lift (Ch hfl hg u7 ht hu) hex
   .rename_i hu;cases hc;rw[XI.cT]at hg;exact lift (Ci hfl hg u7 ht hu) hex
   .rename_i hu;cases hc;rw[XI.cT]at hg;exact lift (Cj hfl hg u7 hr ht hu) hex
  case min=>
   split at hc<;>try (cases hc;done)
   rename_i a b hx;have hargs:args=#[a,b]:=Array.ext' (by simpa using hx);have ha:VR φ (fQ tm a) (ρ a):=hρ a (by simp[Op.operands,Call.operands,hargs]);have hb:VR φ (fQ tm b) (ρ b):=hρ b (by simp[Op.operands,Call.operands,hargs]);cases hc;rw[XI.dN]at hg;have hex:execOp ρ o=(do pure (Next.value (<-Builtin.min_ ts o.type #[ρ a,ρ b]))):=by simp[execOp,ho,resolve,invoke,builtin,hargs]
   unfold DP at hg;split at hg<;>try cases hfl hg
   rename_i k x k' y e1 e2;rw[e1]at ha;rw[e2]at hb;have e3:ρ a=.int k x:=by generalize ρ a=z at ha;cases ha;rfl
   have e4:ρ b=.int k' y:=by generalize ρ b=z at hb;cases hb;rfl
   have hrun:=run_min_int2 (P:=P) (w:=w) ts o.type k k' x y;rw[e3,e4]at hex;split at hg
   .rename_i hlt;rw[iq,decide_eq_true_eq]at hlt;rw[if_pos hlt]at hrun;exact lift ⟨_,_,hg,.int _ _,hrun⟩ hex
   .rename_i hlt;rw[iq,decide_eq_false_iff_not]at hlt;rw[if_neg hlt]at hrun;exact lift ⟨_,_,hg,.int _ _,hrun⟩ hex
  case max=>
   split at hc<;>try (cases hc;done)
   rename_i a b hx;have hargs:args=#[a,b]:=Array.ext' (by simpa using hx);have ha:VR φ (fQ tm a) (ρ a):=hρ a (by simp[Op.operands,Call.operands,hargs]);have hb:VR φ (fQ tm b) (ρ b):=hρ b (by simp[Op.operands,Call.operands,hargs]);cases hc;rw[XI.dN]at hg;have hex:execOp ρ o=(do pure (Next.value (<-Builtin.max_ ts o.type #[ρ a,ρ b]))):=by simp[execOp,ho,resolve,invoke,builtin,hargs]
   unfold Oi at hg;split at hg<;>try cases hfl hg
   rename_i k x k' y e1 e2;rw[e1]at ha;rw[e2]at hb;have e3:ρ a=.int k x:=by generalize ρ a=z at ha;cases ha;rfl
   have e4:ρ b=.int k' y:=by generalize ρ b=z at hb;cases hb;rfl
   have hrun:=run_max_int2 (P:=P) (w:=w) ts o.type k k' x y;rw[e3,e4]at hex;split at hg
   .rename_i hlt;rw[iq,decide_eq_true_eq]at hlt;rw[if_pos hlt]at hrun;exact lift ⟨_,_,hg,.int _ _,hrun⟩ hex
   .rename_i hlt;rw[iq,decide_eq_false_iff_not]at hlt;rw[if_neg hlt]at hrun;exact lift ⟨_,_,hg,.int _ _,hrun⟩ hex
end Go.Vai
end
