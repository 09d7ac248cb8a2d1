/-
  PROVED HERE: a part of the proof (VaiX, VaiR, VaiS1, VaiS2, VaiS3, VaiS4, VaiS5).
-/
import GoSem.Dispatch
import GoSem.Machine.Exec
import Derived.Calls
import Derived.IntWalk
import Derived.Laws.Cells
import Derived.Laws.CopyRow
import Derived.Laws.StructEq
import Derived.Laws.World
import Derived.Laws.Small
set_option linter.unusedVariables false
set_option linter.unusedSimpArgs false
noncomputable section
namespace Go.Vai
theorem YYZ{p : Prop}(h : p := by omega):p := h
theorem YYQ{p : Prop}(h : p := by decide):p := h
inductive T(α:Type) where
 |nil:T α
 |node (l:T α) (v:Option α) (r:T α):T α
def C8(f:Nat):Nat->List Bool:=
 Nat.rec (motive:=λ_=>Nat->List Bool) (λ_=>[])
  (λ_ ih n=>Bool.rec (motive:=λ_=>List Bool) (Nat.beq (Nat.mod n 2) 1::ih (Nat.div (Nat.sub n 1) 2)) [] (Nat.beq n 0)) f
def key(n:Nat):List Bool:=C8 n n
def T.NN{α:Type}(p:List Bool):T α->Option α:=
 List.rec (motive:=λ_=>T α->Option α) (λt=>T.rec (motive:=λ_=>Option α) none (λ_ v _ _ _=>v) t)
  (λb _ ih t=>T.rec (motive:=λ_=>Option α) none (λl _ r _ _=>Bool.rec (motive:=λ_=>Option α) (ih l) (ih r) b) t) p
def T.afV{α β:Type}(a:α)(p:List Bool):T α->(T α->β)->β:=
 List.rec (motive:=λ_=>T α->(T α->β)->β)
  (λt V=>T.rec (motive:=λ_=>β) (V (.node .nil (some a) .nil)) (λl _ r _ _=>V (.node l (some a) r)) t)
  (λb _ ih t V=>T.rec (motive:=λ_=>β)
   (Bool.rec (motive:=λ_=>β) (ih .nil λl=>V (.node l none .nil)) (ih .nil λr=>V (.node .nil none r)) b)
   (λl v r _ _=>Bool.rec (motive:=λ_=>β) (ih l λl=>V (.node l v r)) (ih r λr=>V (.node l v r)) b) t) p
def T.get{α:Type}(t:T α)(n:Nat):Option α:=T.NN (key n) t
def T.set{α β:Type}(t:T α)(n:Nat)(a:α)(V:T α->β):β:=T.afV a (key n) t V
inductive Ex where
 |normal|exit (id:Nat)|ret
inductive bO where
 |cells (n:Nat) (c:T Value) (elem:TypeId) (UW:Bool)
 |map (es:List MapEntry) (clock:Nat)
 |fh (m:Option Nat) (since:Nat) (seen:List Nat) (stepped:Nat)
 |Yz (s:ByteArray) (pos:Nat)
 |dead (n:Nat) (elem:TypeId)
 |ro (n:Nat) (c:T Value) (elem:TypeId)
 |loop (st:LoopState) (mj:Option Ex) (tm:T Value) (ps:List Nat) (a b:Code)
structure af where
 nx:Nat
 bl:T bO
 lo:Nat
def aX:Nat:=1267650600228229401496703205376
def gK:Nat:=1267650600228229401496703205377
section
variable {β:Type}
def x_(n:Nat)(V:Nat->β):β:=Nat.rec (motive:=λ_=>β) (V 0) (λm _=>V (Nat.succ m)) n
def JT(i:Int)(V:Int->β):β:=Int.rec (motive:=λ_=>β) (λn=>x_ n λn=>V (.ofNat n)) (λn=>x_ n λn=>V (.negSucc n)) i
def LN(b:Bool)(V:Bool->β):β:=Bool.rec (motive:=λ_=>β) (V false) (V true) b
def ya:Int->Int->Bool
 | .ofNat a,.ofNat b=>Nat.ble (Nat.succ a) b
 | .ofNat _,.negSucc _=>false
 | .negSucc _,.ofNat _=>true
 | .negSucc a,.negSucc b=>Nat.ble (Nat.succ b) a
def tY:Int->Int->Bool
 | .ofNat a,.ofNat b=>Nat.beq a b
 | .negSucc a,.negSucc b=>Nat.beq a b
 |_,_=>false
def ji:IntKind->IntKind->Bool
 | .i8,.i8 | .i16,.i16 | .i32,.i32 | .i64,.i64 | .u8,.u8 | .u16,.u16 | .u32,.u32 | .u64,.u64=>true
 |_,_=>false
def oz(k:IntKind)(n:Int):Int:=
 match k,n with
 | .i64,.ofNat m=>match Nat.ble m 9223372036854775807 with|true=>.ofNat m|false=>k.wrap n
 | .i64,.negSucc m=>match Nat.ble m 9223372036854775807 with|true=>.negSucc m|false=>k.wrap n
 | .u8,.ofNat m=>.ofNat (Nat.mod m 256)
 | .u32,.ofNat m=>.ofNat (Nat.mod m 4294967296)
 | .u64,.ofNat m=>.ofNat (Nat.mod m 18446744073709551616)
 |_,_=>k.wrap n
def rD:List UInt8->List UInt8->Bool
 | [],[]=>true
 |a::x,b::y=>match Nat.beq a.toNat b.toNat with|true=>rD x y|false=>false
 |_,_=>false
def mo(a b:ByteArray):Bool:=rD a.data.toList b.data.toList
def yZ(f:Value->Value->Bool):List Value->List Value->Bool
 | [],[]=>true
 |x::xs,y::ys=>f x y && yZ f xs ys
 |_,_=>false
def lE:Nat->Value->Value->Bool
 |0,_,_=>false
 |n+1,a,b=>match a,b with
  | .bool a,.bool b=>a == b
  | .int k a,.int k' b=>ji k k' && tY a b
  | .string a,.string b=>mo a b
  | .pointer none,.pointer none=>true
  | .pointer (some ⟨b,o,none⟩),.pointer (some ⟨b',o',none⟩)=>Nat.beq b b' && Nat.beq o o'
  | .slice none n c,.slice none n' c'=>Nat.beq n n' && Nat.beq c c'
  | .slice (some ⟨b,o,none⟩) n c,.slice (some ⟨b',o',none⟩) n' c'=>Nat.beq b b' && Nat.beq o o' && Nat.beq n n' && Nat.beq c c'
  | .map none,.map none=>true
  | .map (some b),.map (some b')=>Nat.beq b b'
  | .nilFunc,.nilFunc=>true
  | .nilIface,.nilIface=>true
  | .iface t x,.iface t' x'=>Nat.beq t t' && lE n x x'
  | .agg x,.agg y=>yZ (lE n) x.toList y.toList
  | .tuple x,.tuple y=>yZ (lE n) x.toList y.toList
  | .func (.func f) a b,.func (.func g) c d=>Nat.beq f g && yZ (lE n) a.toList c.toList && yZ (lE n) b.toList d.toList
  |_,_=>false
def eo(tm:T Value)(t:Nat):Value:=match tm.get t with|some v=>v|none=>undef
def fZ(tm:T Value):Operand->Value
 | .tmp t=>eo tm t
 | .const v=>v
 | .func f=>.func (.func f) #[] #[]
 | .global _=>undef
def ev(tm:T Value)(x:Operand)(V:Value->β):β:=
 match x with
 | .tmp t=>match tm.get t with|some v=>V v|none=>V undef
 | .const v=>V v
 | .func f=>V (.func (.func f) #[] #[])
 | .global _=>V undef
def Vj(tm:T Value):List Operand->(List Value->β)->β
 | [],V=>V []
 |x::xs,V=>ev tm x λv=>Vj tm xs λvs=>V (v::vs)
def ir:Value->Bool
 | .bool _ | .int .. | .string _ | .nilFunc | .nilIface | .pointer none | .map none=>true
 | .slice none n c=>Nat.ble n c
 |_=>false
def qA:Value->Bool
 | .agg cs | .tuple cs=>cs.toList.all ir
 | .iface _ v=>ir v
 |v=>ir v
def kO:Value->Bool
 | .bool _ | .int .. | .string _=>true
 |_=>false
def oA:Value->Bool
 | .agg cs=>cs.toList.all kO
 |v=>kO v
def fT(P:Program)(t:TypeId):Option Nat:=(P.info? t).map (·.size)
def zeroOf(P:Program)(t:TypeId):Option (List Value):=(P.info? t).bind λi=>i.zero.bind λz=>match z.cells.toList.all ir with
 |true=>some z.cells.toList
 |false=>none
def Qg(P:Program)(t:TypeId):Option (List Value × Nat):=match zeroOf P t,fT P t with
 |some z,some (s+1)=>match Nat.beq z.length (s+1)with|true=>some (z,s+1)|false=>none
 |_,_=>none
def sU:TypeDesc->Bool
 | .int _=>true
 |_=>false
def oB(P:Program)(t:TypeId):Option Bool:=match P.underlying t with
 |some (.struct _)|some (.array _ _)=>some true
 |some _=>some false
 |none=>none
variable (fl:β)
def Bz(P:Program)(rec:TypeId->Value->Value->Option Bool):List Field->List Value->List Value->Option Bool
 | [],_,_=>some true
 |f::fs,xs,ys=>
  match f.name == "_" with
  |true=>none
  |false=>
   match oB P f.type,fT P f.type with
   | some true,some s=>match rec f.type (.agg ⟨(xs.drop f.offset).take s⟩) (.agg ⟨(ys.drop f.offset).take s⟩)with
     |some true=>Bz P rec fs xs ys
     |r=>r
   |some false,some _=>match xs[f.offset]?,ys[f.offset]? with
    |some x,some y=>match rec f.type x y with
     |some true=>Bz P rec fs xs ys
     |r=>r
    |_,_=>none
   |_,_=>none
def y3(h:af)(b:Nat):Bool:=match h.bl.get b with|some (.cells ..)=>true|_=>false
def nk(P:Program)(h:af):Nat->TypeId->Value->Value->Option Bool
 |0,_,_,_=>none
 |d+1,t,x,y=>
  match P.underlying t,x,y with
  |some .bool,.bool a,.bool b=>some (match a,b with|true,true|false,false=>true|_,_=>false)
  |some (.int _),.int k a,.int k' b=>match ji k k' with|true=>some (tY a b)|false=>none
  |some .string,.string a,.string b=>some (mo a b)
  |some (.pointer _),.pointer none,.pointer none=>some true
  |some (.pointer _),.pointer none,.pointer (some _)=>some false
  |some (.pointer _),.pointer (some _),.pointer none=>some false
  |some (.pointer e),.pointer (some ⟨b,o,none⟩),.pointer (some ⟨b',o',none⟩)=>
   match fT P e with
   |some (_+1)=>match y3 h b,y3 h b' with
    |true,true=>match Nat.beq b b' with
     |true=>some (Nat.beq o o')
     |false=>some false
    |_,_=>none
   |_=>none
  |some (.interface _),.nilIface,.nilIface=>some true
  |some (.interface _),.nilIface,.iface _ _=>some false
  |some (.interface _),.iface _ _,.nilIface=>some false
  |some (.struct fs),.agg xs,.agg ys=>match P.stoodInHeld t with
   |true=>none
   |false=>Bz P (nk P h d) fs.toList xs.toList ys.toList
  |some (.slice _),.slice none _ _,.slice none _ _=>some true
  |some (.slice _),.slice none _ _,.slice (some _) _ _=>some false
  |some (.slice _),.slice (some _) _ _,.slice none _ _=>some false
  |some (.map _ _),.map none,.map none=>some true
  |some (.map _ _),.map none,.map (some _)=>some false
  |some (.map _ _),.map (some _),.map none=>some false
  |some (.func ..),.nilFunc,.nilFunc=>some true
  |some (.func ..),.nilFunc,.func ..=>some false
  |some (.func ..),.func ..,.nilFunc=>some false
  |_,_,_=>none
def mq(c:T Value)(off:Nat)(n:Nat):List Value->(List Value->β)->β:=
 Nat.rec (motive:=λ_=>List Value->(List Value->β)->β) (λacc V=>V acc)
  (λs ih acc V=>Option.rec (motive:=λ_=>β) fl (λv=>ih (v::acc) V) (c.get (Nat.add off s))) n
def dK:Value->Bool
 | .agg _ | .tuple _=>false
 |_=>true
def nY(n:Nat)(vs:List Value):T Value->Nat->(T Value->β)->β:=
 List.rec (motive:=λ_=>T Value->Nat->(T Value->β)->β) (λc _ V=>V c)
  (λv _ ih c off V=>Bool.rec (motive:=λ_=>β) fl (Bool.rec (motive:=λ_=>β) fl (T.set c off v λc=>ih c (Nat.succ off) V) (Nat.ble (Nat.succ off) n)) (dK v)) vs
def Vk(vs:List Value):T Value->Nat->(T Value->Nat->β)->β:=
 List.rec (motive:=λ_=>T Value->Nat->(T Value->Nat->β)->β) (λc off V=>V c off)
  (λv _ ih c off V=>T.set c off v λc=>x_ (Nat.succ off) λoff=>ih c off V) vs
def aG(_fl:β)(o:bO)(h:af)(V:Nat->af->β):β:=
 T.set h.bl h.nx o λbl=>x_ (Nat.succ h.nx) λnx=>V h.nx ⟨nx,bl,h.lo⟩
def setBlock(b:Nat)(o:bO)(h:af)(V:af->β):β:=
 match Nat.ble h.lo b with
 |true=>T.set h.bl b o λbl=>V ⟨h.nx,bl,h.lo⟩
 |false=>fl
def aN(vs:List Value)(e:TypeId)(UW:Bool)(V:bO->β):β:=
 Vk vs .nil 0 λc n=>match Nat.ble n 1000000000000 with
  |true=>V (.cells n c e UW)
  |false=>fl
def dh(vs:List Value)(e:TypeId)(UW:Bool)(h:af)(V:Nat->af->β):β:=
 aN fl vs e UW λo=>aG fl o h V
abbrev YYY(β : Type):= Value -> af -> β
def ay(a:Value)(h:af)(V:YYY β):β:=
 match a with
 | .pointer (some ⟨b,o,none⟩)=>
  match h.bl.get b with
  | some (.cells n c _ _)=>match Nat.ble (Nat.succ o) n,c.get o with
    |true,some v=>V v h
    |_,_=>fl
  | some (.ro n c _)=>match Nat.ble (Nat.succ o) n,c.get o with
    |true,some v=>V v h
    |_,_=>fl
  |_=>fl
 |_=>fl
def aO(s:Nat)(a:Value)(h:af)(V:YYY β):β:=
 match a with
 | .pointer (some ⟨b,o,none⟩)=>
  match h.bl.get b with
  |some (.cells n c _ _)=>match Nat.ble (Nat.add o s) n with
   |true=>mq fl c o s [] λl=>V (.agg ⟨l⟩) h
   |false=>fl
  |some (.ro n c _)=>match Nat.ble (Nat.add o s) n with
   |true=>mq fl c o s [] λl=>V (.agg ⟨l⟩) h
   |false=>fl
  |_=>fl
 |_=>fl
def aV(s:Nat)(a v:Value)(h:af)(V:YYY β):β:=
 match a with
 | .pointer (some ⟨b,o,none⟩)=>
  match h.bl.get b with
  | some (.cells n c e op)=>
    match Nat.beq v.cells.toList.length s with
    |true=>nY fl n v.cells.toList c o λc=>setBlock fl b (.cells n c e op) h λh=>V undef h
    |false=>fl
  |_=>fl
 |_=>fl
def oD(op:BinOp)(k:IntKind)(a b:Int)(V:Value->β):β:=
 match op with
 | .add=>JT (oz k (Int.add a b)) λn=>V (.int k n)
 | .sub=>JT (oz k (Int.sub a b)) λn=>V (.int k n)
 | .mul=>JT (oz k (Int.mul a b)) λn=>V (.int k n)
 | .quo=>match tY b 0 with|true=>fl|false=>JT (oz k (Int.tdiv a b)) λn=>V (.int k n)
 | .rem=>match tY b 0 with|true=>fl|false=>JT (Int.tmod a b) λn=>V (.int k n)
 | .and=>JT (oz k (BitVec.ofInt k.bits a &&& BitVec.ofInt k.bits b).toNat) λn=>V (.int k n)
 | .or=>JT (oz k (BitVec.ofInt k.bits a ||| BitVec.ofInt k.bits b).toNat) λn=>V (.int k n)
 | .xor=>JT (oz k (BitVec.ofInt k.bits a ^^^ BitVec.ofInt k.bits b).toNat) λn=>V (.int k n)
 | .andNot=>JT (oz k (BitVec.ofInt k.bits a &&& ~~~ (BitVec.ofInt k.bits b)).toNat) λn=>V (.int k n)
 | .eql=>LN (tY a b) λr=>V (.bool r)
 | .neq=>LN (!(tY a b)) λr=>V (.bool r)
 | .lss=>LN (ya a b) λr=>V (.bool r)
 | .leq=>LN (!(ya b a)) λr=>V (.bool r)
 | .gtr=>LN (ya b a) λr=>V (.bool r)
 | .geq=>LN (!(ya a b)) λr=>V (.bool r)
 | .shl=>match ya b 0 with|true=>fl|false=>JT (k.wrap (a*2 ^ (min b.toNat k.bits))) λn=>V (.int k n)
 | .shr=>match ya b 0 with|true=>fl|false=>JT (a.fdiv (2 ^ (min b.toNat k.bits))) λn=>V (.int k n)
def aI(P:Program)(op:BinOp)(t:TypeId)(cn:Bool)(gd:Bool)(a b:Value)(h:af)(V:YYY β):β:=
 match a,b with
 | .int k n,.int k' m=>match ji k k',op with
  |true,op=>oD fl op k n m λv=>V v h
  |false,.shl=>oD fl .shl k n m λv=>V v h
  |false,.shr=>oD fl .shr k n m λv=>V v h
  |false,_=>fl
 | .string s,.string s'=>match op with
  | .add=>match Nat.ble (Nat.add s.size s'.size) 9223372036854775807 with|true=>V (.string (s++s')) h|false=>fl
  | .eql=>LN (mo s s') λr=>V (.bool r) h
  | .neq=>LN (!(mo s s')) λr=>V (.bool r) h
  |_=>fl
 | .nilIface,.nilIface=>match op,cn with
  | .eql,true=>match nk P h 100 t a b with|some r=>LN r λr=>V (.bool r) h|none=>fl
  | .neq,true=>match nk P h 100 t a b with|some r=>LN (!r) λr=>V (.bool r) h|none=>fl
  |_,_=>fl
 | .float ..,_|_,.float .. | .complex ..,_|_,.complex ..=>fl
 |a,b=>match op,gd with
  | .eql,false=>match nk P h 100 t a b with|some r=>LN r λr=>V (.bool r) h|none=>fl
  | .neq,false=>match nk P h 100 t a b with|some r=>LN (!r) λr=>V (.bool r) h|none=>fl
  |_,_=>fl
def iG(op:UnOp)(a:Value)(h:af)(V:YYY β):β:=
 match op,a with
 | .not,.bool b=>LN (!b) λr=>V (.bool r) h
 | .neg,.int k n=>JT (oz k (Int.sub 0 n)) λn=>V (.int k n) h
 | .xor,.int k n=>JT (oz k (BitVec.ofInt k.bits (if k.signed then -1 else k.max) ^^^ BitVec.ofInt k.bits n).toNat) λn=>V (.int k n) h
 |_,_=>fl
def tZ:List Value->List Value->(List Value->β)->β
 | [],old,V=>V old
 |v::vs,_::old,V=>tZ vs old λl=>V (v::l)
 |_::_,[],_=>fl
def de(new:List Value):Nat->List Value->(List Value->β)->β
 |0,old,V=>tZ fl new old V
 |o+1,v::old,V=>de new o old λl=>V (v::l)
 |_+1,[],_=>fl
def bC:List (Nat × Nat)->List Value->List Value->(List Value->β)->β
 | (off,size)::ps,v::vs,cs,V=>
   match Nat.beq v.cells.toList.length size with
   |false=>fl
   |true=>de fl v.cells.toList off cs λcs=>bC ps vs cs V
 | [],[],cs,V=>V cs
 |_,_,_,_=>fl
def bq(zs:List Value):Nat->List Value
 |0=>[]
 |n+1=>zs++bq zs n
def C9(v:Option Value)(d:Nat)(V:Nat->β):β:=match v with
  |none=>V d
  |some (.int _ (.ofNat n))=>V n
  |some _=>fl
def jg(len lim cap:Nat)(lo hi mx:Option Value)(V:Nat->Nat->Nat->β):β:=
 match mx with
 | none=>C9 fl hi len λh=>C9 fl lo 0 λl=>
   match Nat.ble l h,Nat.ble h lim with
   |true,true=>V l h cap
   |_,_=>fl
 | some _=>C9 fl mx 0 λm=>C9 fl hi len λh=>C9 fl lo 0 λl=>
   match hi.isSome,Nat.ble l h,Nat.ble h m,Nat.ble m lim with
   |true,true,true,true=>V l h m
   |_,_,_,_=>fl
def iu(h:af)(e:TypeId)(b:Nat):Option Nat:=match h.bl.get b with
 |some (.cells n _ e' true)=>match Nat.beq e e' with|true=>some n|false=>none
 |some (.dead n e')=>match Nat.beq e e' with|true=>some n|false=>none
 |_=>none
def t_(b o s l hh m:Nat)(V:Value->β):β:=
 match Nat.beq m l with
 |true=>x_ (Nat.sub hh l) λn=>V (.slice (some ⟨b,o,none⟩) n 0)
 |false=>x_ (Nat.add o (Nat.mul l s)) λo=>x_ (Nat.sub hh l) λn=>x_ (Nat.sub m l) λc=>V (.slice (some ⟨b,o,none⟩) n c)
def sliceB(e s:Nat)(x:Value)(lo hi mx:Option Value)(h:af)(V:YYY β):β:=
 match x with
 | .slice none len cap=>jg fl len cap cap lo hi mx λl hh m=>x_ (Nat.sub hh l) λn=>x_ (Nat.sub m l) λc=>V (.slice none n c) h
 | .slice (some ⟨b,o,none⟩) len cap=>
   match Nat.beq cap gK with
   |true=>match Nat.beq len 0 with
    |true=>jg fl len 0 0 lo hi mx λ_ _ _=>V (.slice (some ⟨b,o,none⟩) 0 gK) h
    |false=>fl
   |false=>match Nat.beq cap aX with
    |false=>match Nat.ble cap 9223372036854775807 with
     |true=>jg fl len cap cap lo hi mx λl hh m=>t_ b o s l hh m λv=>V v h
     |false=>fl
    |true=>
     match iu h e b,s with
     |some n,s+1=>
      match Nat.ble o n,Nat.div (Nat.sub n o) (s+1)with
      |true,lim=>jg fl len lim aX lo hi mx λl hh m=>
       match Nat.beq m aX with
       |true=>match Nat.beq l lim with
        |true=>V (.slice (some ⟨b,o,none⟩) 0 gK) h
        |false=>x_ (Nat.add o (Nat.mul l (s+1))) λo=>x_ (Nat.sub hh l) λn=>V (.slice (some ⟨b,o,none⟩) n aX) h
       |false=>t_ b o (s+1) l hh m λv=>V v h
      |false,_=>fl
     |_,_=>fl
 |_=>fl
def y5(x:Value)(lo hi mx:Option Value)(h:af)(V:YYY β):β:=
 match x,mx with
 | .string s,none=>jg fl s.size s.size s.size lo hi none λl hh _=>V (.string (s.extract l hh)) h
 |_,_=>fl
def eN(h:af)(size n:Nat)(x:Value)(V:List Value->β):β:=
 match Nat.mul n size with
 |0=>V []
 |m+1=>
  match x with
  | .slice (some ⟨b,o,none⟩) _ _=>
   match h.bl.get b with
   |some (.cells nn c _ _)=>match Nat.ble (Nat.add o (Nat.succ m)) nn with
    |true=>mq fl c o (Nat.succ m) [] V
    |false=>fl
   |some (.ro nn c _)=>match Nat.ble (Nat.add o (Nat.succ m)) nn with
    |true=>mq fl c o (Nat.succ m) [] V
    |false=>fl
   |_=>fl
  |_=>fl
def kP(JU:Bool)(zero:List Value)(h:af)(size:Nat)(x:Value)(V:Nat->List Value->β):β:=
 match JU,x with
 |true,.int _ (.ofNat n)=>match Nat.ble n 1000000 with
  |true=>V n (bq zero n)
  |false=>fl
 |false,.slice _ n _=>eN fl h size n x λl=>V n l
 |_,_=>fl
def bD(e size:Nat)(zero:List Value)(JU:Bool)(s x:Value)(h:af)(V:YYY β):β:=
 match s with
 | .slice base sLen sCap=>
  kP fl JU zero h size x λn new=>
  match n with
  |0=>V s h
  |_+1=>
   x_ (Nat.add sLen n) λneed=>
   match Nat.ble need 1000000000 with
   |true=>
    match base with
    |none=>match Nat.beq sCap 0,Nat.beq sLen 0 with
     |true,true=>dh fl new e true h λb h=>V (.slice (some ⟨b,0,none⟩) need aX) h
     |_,_=>fl
    |some ⟨b,o,none⟩=>
     match Nat.beq sCap gK with
     |true=>fl
     |false=>
     match Nat.beq sCap aX with
     |true=>match h.bl.get b with
      |some (.cells nn c e' true)=>match Nat.beq e e',Nat.ble (Nat.add o (Nat.mul need size)) nn with
       |true,true=>nY fl nn new c (Nat.add o (Nat.mul sLen size)) λc=>setBlock fl b (.cells nn c e' true) h λh=>V (.slice base need sCap) h
       |true,false=>match Nat.beq o 0 && new.all dK with
        |true=>eN fl h size sLen s λold=>setBlock fl b (.dead nn e') h λh=>dh fl (old++new) e true h λb h=>V (.slice (some ⟨b,0,none⟩) need aX) h
        |false=>fl
       |false,_=>fl
      |_=>fl
     |false=>match Nat.ble need sCap,h.bl.get b with
      |true,some (.cells nn c e' op)=>nY fl nn new c (Nat.add o (Nat.mul sLen size)) λc=>setBlock fl b (.cells nn c e' op) h λh=>V (.slice base need sCap) h
      |false,_=>match Nat.ble sCap 1000000000 with
       |true=>eN fl h size sLen s λold=>dh fl (old++new) e true h λb h=>V (.slice (some ⟨b,0,none⟩) need aX) h
       |false=>fl
      |_,_=>fl
    |_=>fl
   |false=>fl
 |_=>fl
def E7(size:Nat)(d x:Value)(h:af)(V:YYY β):β:=
 match d with
 | .slice base dLen _=>
   match x with
   | .slice _ n _=>x_ (Nat.min n dLen) λn=>
    match n with
    |0=>V (.int .i64 (.ofNat 0)) h
    |_+1=>match base with
     |some ⟨b,o,none⟩=>eN fl h size n x λcs=>match h.bl.get b with
      |some (.cells nn c e' op)=>nY fl nn cs c o λc=>setBlock fl b (.cells nn c e' op) h λh=>V (.int .i64 (.ofNat n)) h
      |_=>fl
     |_=>fl
   |_=>fl
 |_=>fl
def lq(zero:List Value)(x:Value)(h:af)(V:YYY β):β:=
 match x with
 | .slice none _ _ | .slice _ 0 _ | .map none=>V (.tuple #[]) h
 | .slice (some ⟨b,o,none⟩) n _=>match h.bl.get b with
    |some (.cells nn c e' op)=>nY fl nn (bq zero n) c o λc=>setBlock fl b (.cells nn c e' op) h λh=>V (.tuple #[]) h
    |_=>fl
 | .map (some r)=>match h.bl.get r with
  |some (.map _ clock)=>setBlock fl r (.map [] clock) h λh=>V (.tuple #[]) h
  |_=>fl
 |_=>fl
def y6(x:Value)(h:af)(V:YYY β):β:=
 match x with
 | .string s=>x_ s.size λn=>V (.int .i64 (.ofNat n)) h
 |_=>fl
def bF(x:Value)(h:af)(V:YYY β):β:=
 match x with
 | .slice _ n _=>V (.int .i64 (.ofNat n)) h
 |_=>fl
def pO(x:Value)(h:af)(V:YYY β):β:=
 match x with
 | .map none=>V (.int .i64 (.ofNat 0)) h
 | .map (some r)=>match h.bl.get r with
  |some (.map es _)=>x_ es.length λn=>V (.int .i64 (.ofNat n)) h
  |_=>fl
 |_=>fl
def gH(P:Program)(h:af)(kt:TypeId)(k:Value):List MapEntry->Nat->Option (Option (Nat × MapEntry))
 | [],_=>some none
 |e::es,i=>match nk P h 100 kt k e.key with
  |some true=>some (some (i,e))
  |some false=>gH P h kt k es (Nat.succ i)
  |none=>none
def kQ(P:Program):Nat->TypeId->Value->Bool
 |0,_,_=>false
 |d+1,t,v=>match P.underlying t,v with
  |some .bool,.bool _|some (.int _),.int _ _|some .string,.string _=>true
  |some (.struct fs),.agg cs=>oA (.agg cs) && fs.toList.all λf=>(match oB P f.type,fT P f.type with
   |some true,some s=>kQ P d f.type (.agg ⟨(cs.toList.drop f.offset).take s⟩)
   |some false,some _=>(match cs.toList[f.offset]? with|some v=>kQ P d f.type v|none=>false)
   |_,_=>false)
  |_,_=>false
def jJ(P:Program)(kt:TypeId)(m k:Value)(h:af)(V:Option Value->β):β:=
  match kQ P 20 kt k with
  |false=>fl
  |true=>
  match m with
  | .map none=>V none
  | .map (some r)=>match h.bl.get r with
   |some (.map es _)=>match gH P h kt k es 0 with
    |some (some (_,e))=>V (some e.val)
    |some none=>V none
    |none=>fl
   |_=>fl
  |_=>fl
def dw(P:Program)(kt:TypeId)(zero:Value)(ok:Bool)(m k:Value)(h:af)(V:YYY β):β:=
 jJ fl P kt m k h λr=>match r,ok with
  |some v,true=>V (.tuple #[v,.bool true]) h
  |some v,false=>V v h
  |none,true=>V (.tuple #[zero,.bool false]) h
  |none,false=>V zero h
def setAt(f:MapEntry->MapEntry):Nat->List MapEntry->(List MapEntry->β)->β
 |_,[],V=>V []
 |0,e::es,V=>V (f e::es)
 |n+1,e::es,V=>setAt f n es λl=>V (e::l)
def B_(x:MapEntry):List MapEntry->(List MapEntry->β)->β
 | [],V=>V [x]
 |e::es,V=>B_ x es λl=>V (e::l)
def cz(P:Program)(kt:TypeId)(m k v:Value)(h:af)(V:YYY β):β:=
 match kQ P 20 kt k with
 |false=>fl
 |true=>
 match m with
 | .map (some r)=>match h.bl.get r with
  |some (.map es clock)=>match gH P h kt k es 0 with
   |some (some (i,e))=>match lE 3 k e.key with
    |true=>setAt (λe=>{ e with key:=k,val:=v }) i es λes=>setBlock fl r (.map es clock) h λh=>V undef h
    |false=>fl
   |some none=>B_ { key:=k,val:=v,born:=clock } es λes=>x_ (Nat.succ clock) λclock=>setBlock fl r (.map es clock) h λh=>V undef h
   |none=>fl
  |_=>fl
 |_=>fl
def oF(P:Program)(kt:TypeId)(zero m k:Value)(h:af)(V:YYY β):β:=
 match kQ P 20 kt k with
 |false=>fl
 |true=>
 match m with
 | .map (some r)=>match h.bl.get r with
  |some (.map es clock)=>match gH P h kt k es 0 with
   |some (some (i,e))=>match lE 3 k e.key with
    |true=>setAt (λe=>{ e with key:=k }) i es λes=>setBlock fl r (.map es clock) h λh=>V (.tuple #[e.val,.int .i64 (.ofNat e.born)]) h
    |false=>fl
   |some none=>B_ { key:=k,val:=zero,born:=clock } es λes=>x_ (Nat.succ clock) λc=>setBlock fl r (.map es c) h λh=>V (.tuple #[zero,.int .i64 (.ofNat clock)]) h
   |none=>fl
  |_=>fl
 |_=>fl
def y7(n:Nat):List MapEntry->Nat->Option Nat
 | [],_=>none
 |e::es,i=>match Nat.beq e.born n with
  |true=>some i
  |false=>y7 n es (Nat.succ i)
def kR(m s v:Value)(h:af)(V:YYY β):β:=
 match m with
 | .map (some r)=>match s with
  | .int .i64 (.ofNat n)=>match h.bl.get r with
   |some (.map es clock)=>match y7 n es 0 with
    |some i=>setAt (λe=>{ e with val:=v }) i es λes=>setBlock fl r (.map es clock) h λh=>V undef h
    |none=>fl
   |_=>fl
  |_=>fl
 |_=>fl
def Ca:Nat->List MapEntry->(List MapEntry->β)->β
 |_,[],V=>V []
 |0,_::es,V=>V es
 |n+1,e::es,V=>Ca n es λl=>V (e::l)
def nD(P:Program)(kt:TypeId)(m k:Value)(h:af)(V:YYY β):β:=
 match kQ P 20 kt k with
 |false=>fl
 |true=>
 match m with
 | .map none=>V (.tuple #[]) h
 | .map (some r)=>match h.bl.get r with
   |some (.map es clock)=>match gH P h kt k es 0 with
    |some (some (i,_))=>Ca i es λes=>setBlock fl r (.map es clock) h λh=>V (.tuple #[]) h
    |some none=>V (.tuple #[]) h
    |none=>fl
   |_=>fl
 |_=>fl
def aU(i:Nat)(v:Value)(h:af)(V:YYY β):β:=match v with
  | .tuple vs=>match vs.toList[i]? with|some v=>V v h|none=>fl
  |_=>fl
def bh(c a b:Value)(h:af)(V:YYY β):β:=
 match c with
  | .bool true=>V a h
  | .bool false=>V b h
  |_=>fl
def aT(v:Value)(h:af)(V:YYY β):β:=match v with
  | .pointer (some a)=>V (.pointer (some a)) h
  | .func (.func f) a b=>V (.func (.func f) a b) h
  | .iface t x=>V (.iface t x) h
  |_=>fl
def aa(off:Nat)(v:Value)(h:af)(V:YYY β):β:=match v with
  | .pointer (some ⟨b,o,none⟩)=>x_ (Nat.add o off) λo=>V (.pointer (some ⟨b,o,none⟩)) h
  |_=>fl
def aK(s:Nat)(v iv:Value)(h:af)(V:YYY β):β:=match v,iv with
  | .slice (some ⟨b,o,none⟩) len _,.int _ (.ofNat i)=>match Nat.ble (Nat.succ i) len with
   |true=>x_ (Nat.add o (Nat.mul i s)) λo=>V (.pointer (some ⟨b,o,none⟩)) h
   |_=>fl
  |_,_=>fl
def mu(len s:Nat)(v iv:Value)(h:af)(V:YYY β):β:=match v,iv with
  | .pointer (some ⟨b,o,none⟩),.int _ (.ofNat i)=>match Nat.ble (Nat.succ i) len with
   |true=>x_ (Nat.add o (Nat.mul i s)) λo=>V (.pointer (some ⟨b,o,none⟩)) h
   |_=>fl
  |_,_=>fl
def mz(k:IntKind)(v:Value)(h:af)(V:YYY β):β:=match v with
  | .int _ n=>JT (oz k n) λn=>V (.int k n) h
  |_=>fl
def Cb:Nat->List Value->(List Value->β)->β
  |0,_,V=>V []
  |n+1,v::vs,V=>Cb n vs λl=>V (v::l)
  |_+1,[],_=>fl
def E8(agg:Bool)(s:Nat)(cs:List Value)(off:Nat)(V:Value->β):β:=
 match agg with
 |true=>Cb fl s (cs.drop off) λl=>V (.agg ⟨l⟩)
 |false=>match cs[off]? with|some v=>V v|none=>fl
def sV(agg:Bool)(s off:Nat)(v:Value)(h:af)(V:YYY β):β:=match v with
  | .agg cs=>E8 fl agg s cs.toList off λv=>V v h
  |_=>fl
def y8(agg:Bool)(len s:Nat)(v iv:Value)(h:af)(V:YYY β):β:=match v,iv with
  | .agg cs,.int _ (.ofNat i)=>match Nat.ble (Nat.succ i) len with
   |true=>E8 fl agg s cs.toList (Nat.mul i s) λv=>V v h
   |_=>fl
  |_,_=>fl
def y9(v iv:Value)(h:af)(V:YYY β):β:=match v,iv with
  | .string s,.int _ (.ofNat i)=>match s.data.toList[i]? with
   |some b=>x_ b.toNat λn=>V (.int .u8 (.ofNat n)) h
   |none=>fl
  |_,_=>fl
def fJ(asserted:TypeId)(zero:Value)(ok:Bool)(x:Value)(h:af)(V:YYY β):β:=
 match x with
 | .iface t v=>match Nat.beq t asserted,ok with
  |true,true=>V (.tuple #[v,.bool true]) h
  |true,false=>V v h
  |false,true=>V (.tuple #[zero,.bool false]) h
  |false,false=>fl
 | .nilIface=>match ok with
   |true=>V (.tuple #[zero,.bool false]) h
   |false=>fl
 |_=>fl
def pP(x:Value)(h:af)(V:YYY β):β:=
 match x with
 | .map none=>aG fl (.fh none 0 [] 0) h λb h=>V (.pointer (some ⟨b,0,none⟩)) h
 | .map (some r)=>match h.bl.get r with
  |some (.map _ clock)=>aG fl (.fh (some r) clock [] clock) h λb h=>V (.pointer (some ⟨b,0,none⟩)) h
  |_=>fl
 |_=>fl
def nF(both:β->β->β)(b m since:Nat)(seen:List Nat)(clock:Nat)(h:af)(V:YYY β):MapEntry->List MapEntry->β
 |e,[]=>match Nat.ble (Nat.succ e.born) since with
  |true=>setBlock fl b (.fh (some m) since (e.born::seen) clock) h λh=>V (.tuple #[.bool true,e.key,e.val]) h
  |false=>fl
 |e,e'::es=>match Nat.ble (Nat.succ e.born) since with
  |true=>both (setBlock fl b (.fh (some m) since (e.born::seen) clock) h λh=>V (.tuple #[.bool true,e.key,e.val]) h) (nF both b m since seen clock h V e' es)
  |false=>fl
def sk(both:β->β->β)(it:Value)(h:af)(V:YYY β):β:=
 match it with
 | .pointer (some ⟨b,0,none⟩)=>match h.bl.get b with
  |some (.fh none _ _ _)=>V (.tuple #[.bool false]) h
  |some (.fh (some m) since seen last)=>match h.bl.get m with
   |some (.map es clock)=>
    match !seen.isEmpty && !es.isEmpty && es.all (λe=>Nat.ble last e.born)with
    |true=>fl
    |false=>
     match es.filter λe=>!seen.any (Nat.beq e.born)with
     | []=>V (.tuple #[.bool false]) h
     |e::es=>nF fl both b m since seen clock h V e es
   |_=>fl
  |_=>fl
 |_=>fl
def pQ(it:Value)(h:af)(V:YYY β):β:=
 match it with
 | .pointer (some ⟨b,0,none⟩)=>match h.bl.get b with
  |some (.fh (some m) _ (stamp::_) stepped)=>match h.bl.get m with
   |some (.map es clock)=>match Nat.beq clock stepped with
    |true=>match es.find? (λe=>Nat.beq e.born stamp)with
     |some e=>V (.tuple #[e.key,e.val]) h
     |none=>fl
    |false=>fl
   |_=>fl
  |_=>fl
 |_=>fl
inductive XI(β:Type) where
 |k0 (f:af->(YYY β)->β)
 |k1 (x:Operand) (f:Value->af->(YYY β)->β)
 |k2 (x y:Operand) (f:Value->Value->af->(YYY β)->β)
 |k3 (x y z:Operand) (f:Value->Value->Value->af->(YYY β)->β)
 |kn (xs:List Operand) (f:List Value->af->(YYY β)->β)
def XI.run(i:XI β)(tm:T Value)(h:af)(V:YYY β):β:=
 XI.rec (motive:=λ_=>β) (λf=>f h V) (λx f=>ev tm x λa=>f a h V) (λx y f=>ev tm x λa=>ev tm y λb=>f a b h V)
  (λx y z f=>ev tm x λa=>ev tm y λb=>ev tm z λc=>f a b c h V) (λxs f=>Vj tm xs λvs=>f vs h V) i
def placesOf(place:Nat->Option (Nat × Nat)):List (Nat × Operand)->Option (List (Nat × Nat))
 | []=>some []
 |(i,_)::ps=>match place i,placesOf place ps with
  |some p,some l=>some (p::l)
  |_,_=>none
def oG(P:Program)(t:TypeId):Option (List Value × (Nat->Option (Nat × Nat))):=match P.info? t,P.underlying t with
 |some it,some (.array _ e)=>match it.zero,P.info? e with
  |some z,some ie=>match z.cells.toList.all ir with
   |true=>some (z.cells.toList,λi=>some (Nat.mul i ie.size,ie.size))
   |false=>none
  |_,_=>none
 |some it,some (.struct fields)=>match it.zero,fields.toList.mapM (λf=>(P.info? f.type).map λi=>(f.offset,i.size))with
  |some z,some places=>match z.cells.toList.all ir with
   |true=>some (z.cells.toList,λi=>places[i]?)
   |false=>none
  |_,_=>none
 |_,_=>none
def qB(lo hi mx:Option Operand):List Operand:=lo.toList++hi.toList++mx.toList
def yA(lo hi mx:Bool):List Value->Option (Option Value × Option Value × Option Value)
 | []=>match lo,hi,mx with|false,false,false=>some (none,none,none)|_,_,_=>none
 | [a]=>match lo,hi,mx with
  |true,false,false=>some (some a,none,none)
  |false,true,false=>some (none,some a,none)
  |_,_,_=>none
 | [a,b]=>match lo,hi,mx with
  |true,true,false=>some (some a,some b,none)
  |false,true,true=>some (none,some a,some b)
  |_,_,_=>none
 | [a,b,c]=>match lo,hi,mx with
  |true,true,true=>some (some a,some b,some c)
  |_,_,_=>none
 |_=>none
inductive XA(β:Type) where
 |k0 (f:(bO->(Nat->Value)->β)->β)
 |k1 (x:Operand) (f:Value->(bO->(Nat->Value)->β)->β)
 |k2 (x y:Operand) (f:Value->Value->(bO->(Nat->Value)->β)->β)
 |kn (xs:List Operand) (f:List Value->(bO->(Nat->Value)->β)->β)
def XA.run(i:XA β)(tm:T Value)(V:bO->(Nat->Value)->β):β:=
 XA.rec (motive:=λ_=>β) (λf=>f V) (λx f=>ev tm x λa=>f a V) (λx y f=>ev tm x λa=>ev tm y λb=>f a b V)
  (λxs f=>Vj tm xs λvs=>f vs V) i
def av(b:Nat):Value:=.pointer (some ⟨b,0,none⟩)
def bR(n c:Nat)(b:Nat):Value:=.slice (some ⟨b,0,none⟩) n c
def gR(b:Nat):Value:=.map (some b)
def sn(P:Program):Op->Option (XA β)
 | .alloc e=>match zeroOf P e with
  |some z=>some (.k0 λV=>aN fl z e false λo=>V o av)
  |none=>none
 | .box e x=>some (.k1 x λv V=>aN fl v.cells.toList e false λo=>V o av)
 | .buildSlice t len parts=>match P.underlying t with
  |some (.slice e)=>match Qg P e,Nat.ble len 10000 with
   |some (z,s),true=>match placesOf (λi=>some (Nat.mul i s,s)) parts.toList,Nat.ble s 1000 with
    |some ps,true=>some (.kn (parts.toList.map (·.2)) λvs V=>bC fl ps vs (bq z len) λcs=>aN fl cs e false λo=>V o (bR len len))
    |_,_=>none
   |_,_=>none
  |_=>none
 | .makeMap t r=>match r with
  |none=>some (.k0 λV=>V (.map [] 0) gR)
  |some x=>match P.underlying t with
   |some (.map _ _)=>some (.k1 x λv V=>match v with | .int _ _=>V (.map [] 0) gR|_=>fl)
   |_=>none
 | .makeSlice t l c=>match P.underlying t with
  |some (.slice e)=>match Qg P e,P.info? e with
   |some (z,_),some inf=>match Nat.ble inf.bytes 1000000 with
    |true=>some (.k2 l c λl c V=>match l,c with
     | .int _ (.ofNat l),.int _ (.ofNat c)=>match Nat.ble l c,Nat.ble c 1000000 with
      |true,true=>aN fl (bq z c) e false λo=>V o (bR l c)
      |_,_=>fl
     |_,_=>fl)
    |false=>none
   |_,_=>none
  |_=>none
 |_=>none
def Qh(a b:Value)(h:af)(V:YYY β):β:=
 match a,b with
 | .int k a,.int _ b=>(match ya b a with|true=>V (.int k b) h|false=>V (.int k a) h)
 |_,_=>fl
def C_(a b:Value)(h:af)(V:YYY β):β:=
 match a,b with
 | .int k a,.int _ b=>(match ya a b with|true=>V (.int k b) h|false=>V (.int k a) h)
 |_,_=>fl
def qi(P:Program):Op->Option (XI β)
 | .move x | .assign x=>some (.k1 x λv h V=>V v h)
 | .pick c a b=>some (.k3 c a b (bh fl))
 | .build t parts=>match oG P t with
  |some (z,place)=>match placesOf place parts.toList with
   |some ps=>some (.kn (parts.toList.map (·.2)) λvs h V=>bC fl ps vs z λcs=>V (.agg ⟨cs⟩) h)
   |none=>none
  |none=>none
 | .load t a=>match oB P t,fT P t with
  |some true,some s=>some (.k1 a (aO fl s))
  |some false,some _=>some (.k1 a (ay fl))
  |_,_=>none
 | .nilCheck x=>some (.k1 x (aT fl))
 | .binOp op t x y _=>some (.k2 x y (aI fl P op t ((x matches .const _) || (y matches .const _)) (P.eqGuardType P.depth t)))
 | .unOp op _ x=>some (.k1 x (iG fl op))
 | .convert src dst x=>match P.underlying src,P.underlying dst with
  |some _,some (.int k)=>some (.k1 x (mz fl k))
  |some .string,some .string=>some (.k1 x λv h V=>match v with | .string s=>V (.string s) h|_=>fl)
  |_,_=>none
 | .makeInterface t x=>match P.underlying t with
  |some (.interface _)=>none
  |some _=>some (.k1 x λv h V=>V (.iface t v) h)
  |none=>none
 | .makeFunc (.func fn) first cap=>some (.kn (first.toList++cap.toList) λvs h V=>V (.func (.func fn) ⟨vs.take first.toList.length⟩ ⟨vs.drop first.toList.length⟩) h)
 | .slice t x lo hi mx=>match P.underlying t with
  |some (.slice e)=>match fT P e with
   |some s=>some (.kn (x::qB lo hi mx) λvs h V=>match vs with
    |v::bs=>match yA lo.isSome hi.isSome mx.isSome bs with
     |some (l,hh,m)=>sliceB fl e s v l hh m h V
     |none=>fl
    | []=>fl)
   |none=>none
  | some .string=>some (.kn (x::qB lo hi mx) λvs h V=>match vs with
    |v::bs=>match yA lo.isSome hi.isSome mx.isSome bs with
     |some (l,hh,m)=>y5 fl v l hh m h V
     |none=>fl
    | []=>fl)
  |_=>none
 | .fieldAddr t x f=>match P.underlying t with
  |some (.struct fs)=>match fs[f]? with
   |some v_=>match fT P v_.type with
    |some (_+1)=>some (.k1 x (aa fl v_.offset))
    |_=>none
   |none=>none
  |_=>none
 | .field t x f=>match P.underlying t with
  |some (.struct fs)=>match fs[f]? with
   |some v_=>match oB P v_.type,fT P v_.type with
    |some a,some s=>some (.k1 x (sV fl a s v_.offset))
    |_,_=>none
   |none=>none
  |_=>none
 | .indexAddr t x i=>match P.underlying t with
  |some (.slice e)=>match fT P e with
   |some s=>some (.k2 x i (aK fl s))
   |_=>none
  |some (.array len e)=>match fT P e with
   |some s=>some (.k2 x i (mu fl len s))
   |_=>none
  |_=>none
 | .index t x i=>match P.underlying t with
  |some (.array len e)=>match oB P e,fT P e with
   |some a,some s=>some (.k2 x i (y8 fl a len s))
   |_,_=>none
  |some .string=>some (.k2 x i (y9 fl))
  |_=>none
 | .lookup t x i ok=>match P.underlying t with
  |some (.map kt et)=>match(P.info? et).bind (·.zero)with
   |some z=>match qA z with
    |true=>some (.k2 x i (dw fl P kt z ok))
    |false=>none
   |none=>none
  |_=>none
 | .typeAssert x _ t ok=>match P.underlying t,(P.info? t).bind (·.zero)with
  |some (.interface _),_=>none
  |some _,some z=>match qA z with
   |true=>some (.k1 x (fJ fl t z ok))
   |false=>none
  |_,_=>none
 | .extract x i=>some (.k1 x (aU fl i))
 | .call { callee:=.builtin .len,args:=args,argTypes:=ts }=>match args.toList,ts[0]? with
  | [x],some t=>match P.underlying t with
   |some .string=>some (.k1 x (y6 fl))
   |some (.slice _)=>some (.k1 x (bF fl))
   |some (.map _ _)=>some (.k1 x (pO fl))
   |_=>none
  |_,_=>none
 | .call { callee:=.builtin .min,args:=args,.. }=>match args.toList with
  | [a,b]=>some (.k2 a b (Qh fl))
  |_=>none
 | .call { callee:=.builtin .max,args:=args,.. }=>match args.toList with
  | [a,b]=>some (.k2 a b (C_ fl))
  |_=>none
 |_=>none
def Da:List UInt8->(List Value->β)->β
 | [],V=>V []
 |b::bs,V=>x_ b.toNat λn=>Da bs λl=>V (.int .u8 (.ofNat n)::l)
def qC(e:TypeId)(v:Value)(h:af)(V:YYY β):β:=
 match v with
 | .string s=>Da s.data.toList λl=>Vk l .nil 0 λc n=>match Nat.ble n 1000000000000 with
  |true=>aG fl (.ro n c e) h λb h=>V (.slice (some ⟨b,0,none⟩) n aX) h
  |false=>fl
 |_=>fl
def u8K:List Value->(List UInt8->β)->β
 | [],V=>V []
 | .int .u8 (.ofNat n)::l,V=>u8K l λbs=>V (UInt8.ofNat n::bs)
 |_,_=>fl
def E9(v:Value)(h:af)(V:YYY β):β:=
 match v with
 | .slice a n c=>eN fl h 1 n (.slice a n c) λl=>u8K fl l λbs=>V (.string ⟨⟨bs⟩⟩) h
 |_=>fl
def Cc(P:Program):Op->Option (XI β)
 | .store t a x=>match fT P t with
  |some s=>some (.k2 a x (aV fl s))
  |none=>none
 | .mapUpdate t m k x | .insert t m k x=>match P.underlying t with
  |some (.map kt _)=>some (.k3 m k x (cz fl P kt))
  |_=>none
 | .mapEntry t m k=>match P.underlying t with
  |some (.map kt et)=>match(P.info? et).bind (·.zero)with
   |some z=>match qA z with
    |true=>some (.k2 m k (oF fl P kt z))
    |false=>none
   |none=>none
  |_=>none
 | .entryStore _ m s x=>some (.k3 m s x (kR fl))
 | .range t x=>match P.underlying t with
  |some (.map _ _)=>some (.k1 x (pP fl))
  |_=>none
 | .entry it=>some (.k1 it (pQ fl))
 | .convert src dst x=>match P.underlying src,P.underlying dst with
  |some .string,some (.slice e)=>match P.underlying e,fT P e with
   |some (.int .u8),some 1=>some (.k1 x (qC fl e))
   |_,_=>none
  |some (.slice e),some .string=>match P.underlying e with
   |some (.int .u8)=>some (.k1 x (E9 fl))
   |_=>none
  |_,_=>none
 | .call { callee:=.builtin b,args:=args,argTypes:=ts,.. }=>match b,args.toList with
  | .append,[s,x]=>match ts[0]?,ts[1]? with
   |some st,some xt=>match P.underlying st with
    |some (.slice e)=>match P.info? e,P.underlying xt with
     |some inf,some xd=>match Qg P e,Nat.ble inf.bytes 10000 with
      |some (z,size),true=>some (.k2 s x (bD fl e size z (sU xd)))
      |_,_=>none
     |_,_=>none
    |_=>none
   |_,_=>none
  | .copy,[d,x]=>match ts[0]? with
   |some t=>match P.underlying t with
    |some (.slice e)=>match fT P e with
     |some s=>some (.k2 d x (E7 fl s))
     |none=>none
    |_=>none
   |none=>none
  | .clear,[x]=>match ts[0]? with
   |some t=>match P.underlying t with
    |some (.slice e)=>match zeroOf P e with
     |some z=>some (.k1 x (lq fl z))
     |none=>none
    |some (.map _ _)=>some (.k1 x λv h V=>match v with | .map m=>lq fl [] (.map m) h V|_=>fl)
    |_=>none
   |none=>none
  | .cap,[x]=>match ts[0]? with
   |some t=>match P.underlying t with
    |some (.slice _)=>some (.k1 x λv h V=>match v with
     | .slice _ _ cap=>(match Nat.ble cap 1000000000 with|true=>V (.int .i64 (.ofNat cap)) h|false=>fl)
     |_=>fl)
    |_=>none
   |none=>none
  | .delete,[m,k]=>match ts[0]? with
   |some t=>match P.underlying t with
    |some (.map kt _)=>some (.k2 m k (nD fl P kt))
    |_=>none
   |none=>none
  | .min,[a,b]=>some (.k2 a b λa b h V=>match a,b with
   | .int k a,.int _ b=>(match ya b a with|true=>V (.int k b) h|false=>V (.int k a) h)
   |_,_=>fl)
  | .max,[a,b]=>some (.k2 a b λa b h V=>match a,b with
   | .int k a,.int _ b=>(match ya a b with|true=>V (.int k b) h|false=>V (.int k a) h)
   |_,_=>fl)
  |_,_=>none
 |_=>none
def Db(P:Program)(t:TypeId)(name:String):Option FuncId:=
 match P.info? t,P.underlying t with
 |some i,some d=>match i.methods.find? (·.name == name)with
  |some m=>match m.path.isEmpty,m.func,d with
   |true,some (f,true),.pointer _=>some f
   |true,some (_,false),.pointer _=>none
   |true,some (f,false),_=>some f
   |_,_,_=>none
  |none=>none
 |_,_=>none
def yB(P:Program)(t:TypeId)(name:String):Option (FuncId × Nat × TypeId):=
 match P.info? t with
 |some i=>match i.methods.find? (·.name == name)with
  |some m=>match m.path.toList,m.func with
   | [s],some (f,false)=>match s.deref,P.underlying s.struct with
    |true,some (.struct fs)=>match fs[s.index]? with
     |some v_=>match oB P v_.type,fT P v_.type,P.underlying v_.type with
      |some false,some (_+1),some (.slice _)=>some (f,v_.offset,v_.type)
      |_,_,_=>none
     |none=>none
    |_,_=>none
   |_,_=>none
  |none=>none
 |none=>none
def yC(P:Program)(t:TypeId)(name:String):Option (FuncId × TypeId):=
 match P.info? t,P.underlying t with
 |some i,some (.pointer e)=>match i.methods.find? (·.name == name)with
  |some m=>match m.path.toList,m.func,oB P e with
   | [],some (f,false),some false=>some (f,e)
   |_,_,_=>none
  |none=>none
 |_,_=>none
def Dc(vs:List Value):T Value->Nat->(T Value->β)->β:=
 List.rec (motive:=λ_=>T Value->Nat->(T Value->β)->β) (λtm _ V=>V tm)
  (λv _ ih tm i V=>T.set tm i v λtm=>ih tm (Nat.succ i) V) vs
inductive BA where
 |tmp (t:Nat)
 |one (a:Nat)
 |agg (a s:Nat)
 |bad
def xC(P:Program):ResultVar->BA
 | .tmp t=>.tmp t
 | .cell a t=>match oB P t,fT P t with
  |some true,some s=>.agg a s
  |some false,some _=>.one a
  |_,_=>.bad
def eT(h:af)(tm:T Value):List BA->(List Value->β)->β
 | [],V=>V []
 | .tmp t::rs,V=>ev tm (.tmp t) λv=>eT h tm rs λvs=>V (v::vs)
 | .one a::rs,V=>ev tm (.tmp a) λa=>ay fl a h λv _=>eT h tm rs λvs=>V (v::vs)
 | .agg a s::rs,V=>ev tm (.tmp a) λa=>aO fl s a h λv _=>eT h tm rs λvs=>V (v::vs)
 | .bad::_,_=>fl
def E_(nt:Nat):Operand->Bool
 | .tmp t=>Nat.ble (Nat.succ t) nt
 | .global _=>false
 | .const v=>qA v
 | .func _=>true
def fU(nt:Nat)(o:Oper):Bool:=o.op.operands.toList.all (E_ nt) && (match o.dst with|some d=>Nat.ble (Nat.succ d) nt|none=>true)
def qD:Code->Bool
 | .seq a b | .cond _ a b=>qD a && qD b
 | .block _ c | .loop c | .scope c=>qD c
 | .rangeFunc ..=>false
 |_=>true
def codeOk(nt:Nat):Code->Bool
 | .rangeFunc g ps a b=>E_ nt g && ps.toList.all (λt=>Nat.ble (Nat.succ t) nt) && codeOk nt a && codeOk nt b && qD a && qD b
 | .region _ ops _=>ops.toList.all (fU nt)
 | .seq a b=>codeOk nt a && codeOk nt b
 | .cond c a b=>E_ nt c && codeOk nt a && codeOk nt b
 | .block _ c | .loop c | .scope c=>codeOk nt c
 |_=>true
def Qi(nt:Nat):ResultVar->Bool
 | .tmp t=>Nat.ble (Nat.succ t) nt
 | .cell a _=>Nat.ble (Nat.succ a) nt
inductive XFn where
 |none
 |mk (c:Code) (rs:List BA) (nt:Nat)
def y_(P:Program)(f:FuncId):XFn:=
 match P.funcs[f]? with
 | some fn => match fn.name == "runtime.NumGoroutine" with
  |true=>.none
  |false=>match fn.body with
   |some c=>match codeOk fn.ntmps c && fn.results.toList.all (Qi fn.ntmps) && Nat.ble fn.ntmps 1000000000000 with
    |true=>.mk c (fn.results.toList.map (xC P)) fn.ntmps
    |false=>.none
   |none=>.none
 |none=>.none
def Qj(V:YYY β)(h:af):List Value->β
 | [v]=>V v h
 |vs=>V (.tuple ⟨vs⟩) h
abbrev Rec(β:Type):=Code->T Value->af->(Ex->T Value->af->β)->β
structure mA(β:Type) where
 fn:FuncId->Option (List Value->af->(YYY β)->β)
 both:β->β->β
def NO(rs:List BA)(V:YYY β)(e:Ex)(tm:T Value)(h:af):β:=
 match e with
 | .exit _=>fl
 |_=>eT fl h tm rs λvs=>Qj V h vs
variable (pr:mA β)
def nG(P:Program)(rec:Rec β)(f:FuncId)(args:List Value)(h:af)(V:YYY β):β:=
 match pr.fn f with
 |some g=>g args h V
 |none=>match y_ P f with
  | .none=>fl
  | .mk c rs nt=>match Nat.ble args.length nt with
   |true=>Dc args .nil 0 λtm=>rec c tm h (NO fl rs V)
   |false=>fl
def oH(l:Nat)(V:YYY β)(e:Ex)(_tm:T Value)(h:af):β:=
 match h.bl.get l with
 |some (.loop _ _ lR ps a b)=>match e with
  | .normal=>setBlock fl l (.loop .ready none lR ps a b) h λh=>V (.bool true) h
  |e=>setBlock fl l (.loop .done (some e) lR ps a b) h λh=>V (.bool false) h
 |_=>fl
def jr(rec:Rec β)(l:Nat)(bd:Code)(V:YYY β)(e:Ex)(tm:T Value)(h:af):β:=
 match e with
 | .normal=>match h.bl.get l with
  |some (.loop .ready mj lR ps a b)=>setBlock fl l (.loop .busy mj lR ps a b) h λh=>rec bd tm h (oH fl l V)
  |_=>fl
 |_=>fl
def zb:List Nat->List Value->T Value->(T Value->β)->β
 |p::ps,v::vs,tm,V=>T.set tm p v λtm=>zb ps vs tm V
 |_,_,tm,V=>V tm
def wg(rec:Rec β)(l:Nat)(args:List Value)(h:af)(V:YYY β):β:=
 match h.bl.get l with
 |some (.loop _ _ lR ps a b)=>match Nat.beq args.length ps.length with
  |true=>zb ps args lR λtm=>rec a tm h (jr fl rec l b V)
  |false=>fl
 |_=>fl
def kf(l:Nat)(tm:T Value)(V:Ex->T Value->af->β)(_v:Value)(h:af):β:=
 match h.bl.get l with
 |some (.loop st mj lR ps a b)=>match st with
  | .busy=>fl
  |_=>setBlock fl l (.loop .exhausted mj lR ps a b) h λh=>match mj with
   |none=>V .normal tm h
   |some e=>V e tm h
 |_=>fl
def Cd(P:Program)(rec:Rec β)(fv:Value)(args:List Value)(h:af)(V:YYY β):β:=
  match fv with
  | .func (.func f) first cap=>nG fl pr P rec f (first.toList++args++cap.toList) h V
  | .func (.yield l) first cap=>(match first.toList,cap.toList with
   | [],[]=>wg fl rec l args h V
   |_,_=>fl)
  |_=>fl
def jj(P:Program)(rec:Rec β)(ps:List Nat)(a b:Code)(tm:T Value)(h:af)(V:Ex->T Value->af->β)(gv:Value):β:=
 match gv with
 | .func (.func f) first cap=>aG fl (.loop .ready none tm ps a b) h λl h=>nG fl pr P rec f (first.toList++[.func (.yield l) #[] #[]]++cap.toList) h (kf fl l tm V)
 |_=>fl
def Qk(P:Program)(rec:Rec β)(name:String)(r:Value)(args:List Value)(h:af)(V:YYY β):β:=
 match r with
 | .iface t v=>match Db P t name with
     |some f=>nG fl pr P rec f (v::args) h V
     |none=>match yB P t name with
      |some (f,off,_)=>aa fl off v h λa h=>ay fl a h λv h=>nG fl pr P rec f (v::args) h V
      |none=>match yC P t name with
       |some (f,_)=>ay fl v h λv h=>nG fl pr P rec f (v::args) h V
       |none=>fl
 |_=>fl
abbrev XF(β:Type):=T Value->af->(YYY β)->β
inductive XO(β:Type) where
 |mk (g:Option (Nat × Bool)) (d:Option Nat) (f:Rec β->XF β)
def oI(P:Program)(c:Call):Rec β->XF β:=
 match c.callee with
 | .value (.func f)=>λrec tm h V=>Vj tm c.args.toList λargs=>nG fl pr P rec f args h V
 | .value x=>λrec tm h V=>Vj tm c.args.toList λargs=>ev tm x λfv=>Cd fl pr P rec fv args h V
 | .invoke r name=>λrec tm h V=>Vj tm c.args.toList λargs=>ev tm r λr=>Qk fl pr P rec name r args h V
 | .builtin _=>λ_ _ _ _=>fl
def qE(P:Program)(op:Op):Rec β->XF β:=
 match qi fl P op with
 |some i=>λ_ tm h V=>i.run tm h V
 |none=>match sn fl P op with
  |some i=>λ_ tm h V=>i.run tm λo mk=>aG fl o h λb h=>V (mk b) h
  |none=>match Cc fl P op with
   |some i=>λ_ tm h V=>i.run tm h V
   |none=>match op with
    | .call c=>oI fl pr P c
    | .next it false=>λ_ tm h V=>ev tm it λit=>sk fl pr.both it h V
    |_=>λ_ _ _ _=>fl
def guardOf(all:List Oper)(o:Oper):Option (Option (Nat × Bool)):=
 match o.guard with
 |none=>some none
 | some (j,w)=>match all[j]? with
   |some { dst:=some d,.. }=>some (some (d,w))
   |_=>none
inductive XFB(β:Type) where
 |mk (f:Rec β->XF β)
def Ce(P:Program)(all:List Oper)(o:Oper):XO β:=
 match guardOf all o,XFB.mk (qE fl pr P o.op)with
 |some g,.mk f=>.mk g o.dst f
 |none,_=>.mk none none λ_ _ _ _=>fl
def qs(tm:T Value)(d:Option Nat)(v:Value)(h:af)(V:T Value->af->β):β:=
 Option.rec (motive:=λ_=>β) (V tm h) (λd=>T.set tm d v λtm=>V tm h) d
def jt(tm:T Value)(g:Option (Nat × Bool)):Bool:=
 match g with
 |none=>true
 |some (s,w)=>match eo tm s,w with
  | .bool true,true=>true
  | .bool false,false=>true
  |_,_=>false
def pR(P:Program)(rec:Rec β)(all os:List Oper):T Value->af->(T Value->af->β)->β:=
 List.rec (motive:=λ_=>T Value->af->(T Value->af->β)->β) (λtm h V=>V tm h)
  (λo _ ih tm h V=>XO.rec (motive:=λ_=>β)
   (λg d f=>Bool.rec (motive:=λ_=>β) (qs tm d undef h λtm h=>ih tm h V)
    (f rec tm h λv h=>qs tm d v h λtm h=>ih tm h V) (jt tm g))
   (Ce fl pr P all o)) os
def BB(rec:Rec β)(b:Code)(V:Ex->T Value->af->β)(e:Ex)(tm:T Value)(h:af):β:=
 match e with | .normal=>rec b tm h V|e=>V e tm h
def qF(id:Nat)(V:Ex->T Value->af->β)(e:Ex)(tm:T Value)(h:af):β:=
 match e with | .exit i=>(match Nat.beq i id with|true=>V .normal tm h|false=>V (.exit i) tm h)|e=>V e tm h
def zc(rec:Rec β)(a b:Code)(tm:T Value)(h:af)(V:Ex->T Value->af->β)(v:Value):β:=
 match v with
   | .bool true=>rec a tm h V
   | .bool false=>rec b tm h V
   |_=>fl
end
abbrev KQ:=Value->af->Prop
abbrev YYX(n : Int):Value := .int .i64 n
abbrev YYV(b : Nat):Value := .pointer (some ⟨b, 0, none⟩)
abbrev YYU(b n c : Nat):Value := .slice (some ⟨b, 0, none⟩) n c
end Go.Vai

namespace Go.Vai
section
variable {β:Type}(fl:β)(pr:mA β)
abbrev YA:=XI (Option Value)
abbrev OXA:=XA (Option (bO × (Nat->Value)))
inductive Cls where
 |rd (x:YA)
 |al (x:OXA)
 |wr
def iT(P:Program)(op:Op):Cls:=
 match op with
 | .assign _=>.wr
 |op=>match qi (β:=Option Value) none P op with
  |some x=>.rd x
  |none=>match sn (β:=Option (bO × (Nat->Value))) none P op with
   |some x=>.al x
   |none=>.wr
def h_(P:Program)(o:Oper):Bool:=match iT P o.op with | .wr=>true|_=>false
def bit(m i:Nat):Bool:=Nat.testBit m i
def gf(m i:Nat):Nat:=Nat.lor m (Nat.pow 2 i)
def cT(o:Oper):List Nat:=(o.after.toList.filter λe=>Region.binds .any e).map (·.on)
def qG(D:Nat)(o:Oper):Bool:=(cT o).all λe=>bit D e
abbrev It:=Nat × Oper
def f_(os:List Oper)(i:Nat):List It:=match os with
 | []=>[]
 |o::os=>(i,o)::f_ os (Nat.succ i)
def Ql(P:Program):List It->Nat->(List Nat->List It->Nat->β)->β
 | [],D,V=>V [] [] D
 |(i,o)::r,D,V=>match qG D o && !h_ P o with
  |true=>Ql P r (gf D i) λex rem D=>V (i::ex) rem D
  |false=>Ql P r D λex rem D=>V ex ((i,o)::rem) D
def zd(P:Program)(D:Nat):List It->Option (Nat × List It)
 | []=>none
 |(i,o)::r=>match qG D o with
  |true=>some (i,r)
  |false=>match zd P D r with|some (w,r)=>some (w,(i,o)::r)|none=>none
def Qm(P:Program):Nat->List It->Nat->Option (List Nat)
 |0,_,_=>none
 |n+1,rem,D=>Ql P rem D λex rem D=>match rem with
  | []=>some ex
  |_=>match zd P D rem with
   |none=>none
   |some (w,rem)=>match Qm P n rem (gf D w)with
    |some l=>some (ex++w::l)
    |none=>none
def Vl(P:Program)(os:List Oper):Option (List Nat):=Qm P os.length (f_ os 0) 0
def dx(os:List Oper)(o:Oper):List Nat:=
 (o.op.operands.toList.filterMap λ| .tmp t=>some t|_=>none)++
 (match o.guard with|some (g,_)=>((os[g]?).bind (·.dst)).toList|none=>[])
def Qn(os:List Oper):Nat->Nat->Nat
 |0,m=>m
 |i+1,m=>match bit m i,os[i]? with
  |true,some o=>Qn os i ((cT o).foldl gf m)
  |_,_=>Qn os i m
def sq(os:List Oper)(w:Nat):Nat:=match os[w]? with
 |some o=>Qn os w ((cT o).foldl gf 0)
 |none=>0
def Cf(o:Oper)(t:Nat):Bool:=match o.dst with|some d=>Nat.beq d t|none=>false
def Vm(P:Program)(os:List Oper)(wj:List It)(D M i:Nat)(o:Oper):Bool:=
 !bit D i && qG D o && (guardOf os o).isSome &&
 (wj.all λ(k,q)=>h_ P q || !((dx os o).any (Cf q)) || (cT o).contains k) &&
 match h_ P o with
 |false=>wj.all λ(k,q)=>Nat.beq k i || h_ P q || (match o.dst with|some d=>!Cf q d|none=>true)
 |true=>
  (wj.all λ(k,q)=>Nat.beq k i || bit D k || !qG D q) &&
  (wj.all λ(k,q)=>!bit D k || h_ P q || bit M k || (match o.dst with|some d=>!Cf q d && !((dx os q).any (Nat.beq d))|none=>true))
def nZ(P:Program)(os:List Oper):List Nat->Nat->Nat->Bool
 | [],D,_=>(f_ os 0).all λ(k,_)=>bit D k
 |i::is,D,M=>match os[i]? with
  |none=>false
  |some o=>
   let M':=match h_ P o with|true=>Nat.lor M (sq os i)|false=>M
   Vm P os (f_ os 0) D M' i o && nZ P os is (gf D i) M'
def lF(x:YA)(tm:T Value)(h:af):Option Value:=x.run tm h λv _=>some v
def ze(x:OXA)(tm:T Value):Option (bO × (Nat->Value)):=x.run tm λo mk=>some (o,mk)
def xD(P:Program)(os:List Oper)(D M:Nat)(tm:T Value)(h:af):List It->Bool
 | []=>true
 |(k,q)::wj=>match bit D k && !bit M k,iT P q.op with
  |true,.rd x=>(match guardOf os q with
   |some g=>(match jt tm g with
    |true=>(match lF x tm h,q.dst with
     |some v,some d=>lE 8 v (eo tm d)
     |some _,none=>true
     |none,_=>false)
    |false=>true)
   |none=>false) && xD P os D M tm h wj
  |_,_=>xD P os D M tm h wj
def Cg(P:Program)(D M:Nat)(wj:List It):Bool:=wj.any λ(k,q)=>bit D k && !bit M k && (match iT P q.op with | .rd _=>true|_=>false)
def kS(P:Program)(rec:Rec β)(os:List Oper)(D M:Nat)(o:Oper)(tm:T Value)(h:af)(V:T Value->af->β):β:=
 match guardOf os o with
 |none=>fl
 |some g=>match jt tm g with
  |false=>qs tm o.dst undef h V
  |true=>match iT P o.op with
   | .rd x=>match lF x tm h with
    |some v=>qs tm o.dst v h V
    |none=>fl
   | .al x=>match ze x tm with
    |some (b,mk)=>aG fl b h λn h=>qs tm o.dst (mk n) h V
    |none=>fl
   | .wr=>qE fl pr P o.op rec tm h λv h=>qs tm o.dst v h λtm h=>
     match Cg P D M (f_ os 0)with
     |false=>V tm h
     |true=>match xD P os D M tm h (f_ os 0)with
      |true=>V tm h
      |false=>fl
def jK(P:Program)(rec:Rec β)(os:List Oper):List Nat->Nat->Nat->T Value->af->(T Value->af->β)->β
 | [],_,_,tm,h,V=>V tm h
 |i::is,D,M,tm,h,V=>match os[i]? with
  |none=>fl
  |some o=>
   let M':=match h_ P o with|true=>Nat.lor M (sq os i)|false=>M
   kS fl pr P rec os D M' o tm h λtm h=>jK P rec os is (gf D i) M' tm h V
def Dd(P:Program)(os:List Oper):Option (List Nat):=match Vl P os with
 |some l=>match nZ P os l 0 0 && (f_ os 0).all λ(k,q)=>(cT q).all λe=>Nat.ble (Nat.succ e) k with
  |true=>some l
  |false=>none
 |none=>none
def lX(P:Program)(rec:Rec β)(os:List Oper)(draw:Bool)(tm:T Value)(h:af)(V:T Value->af->β):β:=
 match draw with
 |false=>pR fl pr P rec os os tm h V
 |true=>match Dd P os with
  |some l=>jK fl pr P rec os l 0 0 tm h V
  |none=>fl
def body(P:Program)(rec:Rec β)(c:Code)(tm:T Value)(h:af)(V:Ex->T Value->af->β):β:=
  match c with
  | .skip=>V .normal tm h
  | .label _=>V .normal tm h
  | .region _ os draw=>lX fl pr P rec os.toList draw tm h λtm h=>V .normal tm h
  | .seq a b=>rec a tm h (BB rec b V)
  | .cond c a b=>ev tm c (zc fl rec a b tm h V)
  | .block id c=>rec c tm h (qF id V)
  | .scope c=>rec c tm h V
  | .loop c=>rec c tm h (BB rec (.loop c) V)
  | .exit id=>V (.exit id) tm h
  | .ret=>V .ret tm h
  | .rangeFunc g ps a b=>ev tm g (jj fl pr P rec ps.toList a b tm h V)
  |_=>fl
def run(P:Program)(n:Nat):Rec β:=
 Nat.rec (motive:=λ_=>Rec β) (λ_ _ _ _=>fl) (λ_ ih=>body fl pr P ih) n
end
end Go.Vai

namespace Go.Vai
theorem T.ua{α:Type}(p:List Bool):T.NN p (T.nil:T α)=none:=by
 cases p<;>rfl
theorem NP(f n:Nat):C8 (f+1) n=if n=0 then[]else Nat.beq (n % 2) 1::C8 f ((n-1) / 2):=by
 cases n with
 |zero=>rfl
 |succ n=>rw[if_neg YYZ];rfl
def Ch:List Bool->Nat
 | []=>0
 |true::p=>2*Ch p+1
 |false::p=>2*Ch p+2
theorem zf:∀(f n:Nat),n<2 ^ f->Ch (C8 f n)=n:=by
 intro f
 induction f with
 | zero=>intro n h;have:n=0:=by simp at h;omega
         subst this;rfl
 |succ f ih=>
  intro n h;rw[NP];by_cases h0:n=0
  .simp[h0,Ch]
  .rw[if_neg h0];have h2:(n-1) / 2<2 ^ f:=by rw[Nat.pow_succ]at h;omega
   have:=ih _ h2;by_cases h1:n % 2=1
   .have hb:Nat.beq (n % 2) 1=true:=by rw[h1];rfl
    rw[hb];simp only[Ch,this];omega
   ·have hb:Nat.beq (n % 2) 1=false:=by
     have:n % 2=0:=by omega
     rw[this];rfl
    rw[hb];simp only[Ch,this];omega
def Small(n:Nat):Prop:=n<n+1
theorem key_inj{a b:Nat}(ha:Small a)(hb:Small b)(h:key a=key b):a=b:=by
 have h1:=zf a a Nat.lt_two_pow_self;have h2:=zf b b Nat.lt_two_pow_self;unfold key at h;rw[<-h1,<-h2,h]
def T.pS{α:Type}(a:α):List Bool->T α->T α
 | [],.nil=>.node .nil (some a) .nil
 | [],.node l _ r=>.node l (some a) r
 |false::p,.nil=>.node (T.pS a p .nil) none .nil
 |true::p,.nil=>.node .nil none (T.pS a p .nil)
 |false::p,.node l v r=>.node (T.pS a p l) v r
 |true::p,.node l v r=>.node l v (T.pS a p r)
theorem T.Vn{α β:Type}(a:α)(p:List Bool):∀(t:T α)(V:T α->β),T.afV a p t V=V (T.pS a p t):=by
 induction p with
 |nil=>intro t V;cases t<;>rfl
 |cons b p ih=>
  intro t V;cases t<;>cases b<;>simp only[T.pS]<;>exact ih _ _
theorem T.zg{α:Type}(a:α)(p:List Bool):∀t:T α,T.NN p (T.pS a p t)=some a:=by
 induction p with
 |nil=>intro t;cases t<;>rfl
 |cons b p ih=>intro t;cases t<;>cases b<;>exact ih _
theorem T.De{α:Type}(a:α)(p:List Bool):∀(q:List Bool)(t:T α),p≠q->T.NN q (T.pS a p t)=T.NN q t:=by
 induction p with
 |nil=>
  intro q t h;cases q with
  |nil=>exact absurd rfl h
  |cons c q=>cases t<;>cases c<;>first|rfl|exact T.ua q
 |cons b p ih=>
  intro q t h;cases q with
  |nil=>cases t<;>cases b<;>rfl
  |cons c q=>
   have hpq:b=c->p≠q:=λe e'=>h (by rw[e,e']);cases b<;>cases c<;>cases t<;>simp only[T.pS]<;>
    first
     |exact ih q _ (hpq rfl)
     |(refine(ih q T.nil (hpq rfl)).trans ?_;rw[T.ua];rfl)
     |(show T.NN q T.nil=_;rw[T.ua];rfl)
     |rfl
def T.bt{α:Type}(t:T α)(n:Nat)(a:α):T α:=T.pS a (key n) t
theorem T.ia{α β:Type}(t:T α)(n:Nat)(a:α)(V:T α->β):T.set t n a V=V (t.bt n a):=T.Vn _ _ _ _
theorem T.az{α:Type}(t:T α)(n:Nat)(a:α):(t.bt n a).get n=some a:=T.zg _ _ _
theorem T.iH{α:Type}(t:T α){n m:Nat}(a:α)(hn:Small n)(hm:Small m)(h:n≠m):(t.bt n a).get m=t.get m:=
 T.De _ _ _ _ λe=>h (key_inj hn hm e)
theorem T.nH{α:Type}(t:T α){n m:Nat}(a:α)(hn:Small n)(hm:Small m):(t.bt n a).get m=if n=m then some a else t.get m:=by
 by_cases h:n=m
 .subst h;simp[T.az]
 .simp[h,T.iH t a hn hm h]
theorem T.get_nil{α:Type}(n:Nat):(T.nil:T α).get n=none:=T.ua _
section
variable {β:Type}
@[simp] theorem bY(n:Nat)(V:Nat→β):x_ n V=V n:=by cases n<;>rfl
@[simp] theorem iW(i:Int)(V:Int→β):JT i V=V i:=by
 cases i with
 |ofNat n=>exact bY n λn=>V (.ofNat n)
 |negSucc n=>exact bY n λn=>V (.negSucc n)
@[simp] theorem bZ(b:Bool)(V:Bool→β):LN b V=V b:=by cases b<;>rfl
theorem iw(a b:Int):ya a b=decide (a<b):=by
 cases a<;>cases b<;>simp only[ya]
 .rename_i a b;rw[Bool.eq_iff_iff];simp[Nat.ble_eq];omega
 .rename_i a b
  symm;simp;omega
 .rename_i a b
  symm;simp;omega
 .rename_i a b;rw[Bool.eq_iff_iff];simp[Nat.ble_eq];omega
theorem iO(a b:Int):tY a b=decide (a=b):=by
 cases a<;>cases b<;>simp only[tY]
 .rename_i a b;rw[Bool.eq_iff_iff];simp[Nat.beq_eq];omega
 .symm;simp
 .symm;simp
 .rename_i a b;rw[Bool.eq_iff_iff];simp[Nat.beq_eq]
theorem gX(a b:IntKind):ji a b=decide (a=b):=by cases a<;>cases b<;>rfl
theorem fm(k:IntKind)(n:Int):oz k n=k.wrap n:=by
 cases k<;>cases n<;>simp only[oz]
 case i64.ofNat m=>
  split
  .rename_i h;have h:=Nat.le_of_ble_eq_true h;exact(IntWalk.i64_in _ ⟨by show _<=(m:Int);omega,by show(m:Int)<=_;omega⟩).symm
  .rfl
 case i64.negSucc m=>
  split
  .rename_i h;have h:=Nat.le_of_ble_eq_true h;have e:Int.negSucc m = -((m:Int)+1):=by omega
   exact(IntWalk.i64_in _ ⟨by rw[e];omega,by rw[e];omega⟩).symm
  .rfl
 case u8.ofNat m=>
  simp only[IntKind.wrap,IntKind.bits,IntKind.signed];simp;rfl
 case u32.ofNat m=>
  simp only[IntKind.wrap,IntKind.bits,IntKind.signed];simp;rfl
 case u64.ofNat m=>
  simp only[IntKind.wrap,IntKind.bits,IntKind.signed];simp;rfl
theorem JV:∀a b:List UInt8,rD a b=decide (a=b):=by
 intro a
 induction a with
 |nil=>intro b;cases b<;>simp[rD]
 |cons x a ih=>
  intro b;cases b with
  |nil=>simp[rD]
  |cons y b=>
   simp only[rD];cases h:Nat.beq x.toNat y.toNat
   .have:x≠y:=λe=>by subst e;simp[Nat.beq_refl]at h
    simp[this]
   .have:x=y:=UInt8.toNat_inj.1 (Nat.eq_of_beq_eq_true h);simp[this,ih b]
theorem kT(a b:ByteArray):mo a b=decide (a=b):=by
 unfold mo;rw[JV];by_cases h:a=b
 .simp[h]
 ·have:a.data.toList≠b.data.toList:=λe=>h (by
   cases a;cases b;simp at e;simp[e])
  simp[h,this]
theorem iy(tm:T Value)(x:Operand)(V:Value->β):ev tm x V=V (fZ tm x):=by
 cases x<;>simp only[ev,fZ,eo];split<;>simp_all
theorem sY(tm:T Value)(xs:List Operand)(V:List Value->β):Vj tm xs V=V (xs.map (fZ tm)):=by
 induction xs generalizing V with
 |nil=>rfl
 |cons x xs ih=>simp only[Vj,iy,ih,List.map_cons]
theorem XI.cF(x f)(tm:T Value)(h:af)(V:YYY β):(XI.k1 x f).run tm h V=f (fZ tm x) h V:=iy _ _ _
theorem XI.dM(x y f)(tm:T Value)(h:af)(V:YYY β):(XI.k2 x y f).run tm h V=f (fZ tm x) (fZ tm y) h V:=by
 show ev _ _ _=_;simp only[iy]
theorem XI.qH(x y z f)(tm:T Value)(h:af)(V:YYY β):(XI.k3 x y z f).run tm h V=f (fZ tm x) (fZ tm y) (fZ tm z) h V:=by
 show ev _ _ _=_;simp only[iy]
theorem XI.iX(xs f)(tm:T Value)(h:af)(V:YYY β):(XI.kn xs f).run tm h V=f (xs.map (fZ tm)) h V:=sY _ _ _
theorem XA.Qo(f)(tm:T Value)(V:bO->(Nat->Value)->β):(XA.k0 f).run tm V=f V:=rfl
theorem XA.cF(x f)(tm:T Value)(V:bO->(Nat->Value)->β):(XA.k1 x f).run tm V=f (fZ tm x) V:=iy _ _ _
theorem XA.dM(x y f)(tm:T Value)(V:bO->(Nat->Value)->β):(XA.k2 x y f).run tm V=f (fZ tm x) (fZ tm y) V:=by
 show ev _ _ _=_;simp only[iy]
theorem XA.iX(xs f)(tm:T Value)(V:bO->(Nat->Value)->β):(XA.kn xs f).run tm V=f (xs.map (fZ tm)) V:=sY _ _ _
end
structure Pl where
 B:Nat
 sz:Nat
 e:Nat
abbrev eW:=Nat->Option Pl
inductive VR(φ:eW):Value->Value->Prop where
 |bool (b:Bool):VR φ (.bool b) (.bool b)
 |int (k:IntKind) (n:Int):VR φ (.int k n) (.int k n)
 |string (s:ByteArray):VR φ (.string s) (.string s)
 |nilFunc:VR φ .nilFunc .nilFunc
 |nilIface:VR φ .nilIface .nilIface
 |zh:VR φ (.pointer none) (.pointer none)
 |ptr {b o:Nat} {pl:Pl} (h:φ b=some pl):VR φ (.pointer (some ⟨b,o,none⟩)) (.pointer (some ⟨pl.B,o,none⟩))
 |gj {n c:Nat} (h:n<=c):VR φ (.slice none n c) (.slice none n c)
 |slice {b o n c:Nat} {pl:Pl} (h:φ b=some pl) (hn:n<=c) (hc:c<aX):VR φ (.slice (some ⟨b,o,none⟩) n c) (.slice (some ⟨pl.B,o,none⟩) n c)
 | bW {b o n c:Nat} {pl:Pl} (h:φ b=some pl) (hn:n<=c) (hc:c*pl.e+o=pl.sz) :
   VR φ (.slice (some ⟨b,o,none⟩) n aX) (.slice (some ⟨pl.B,o,none⟩) n c)
 |di (a a':Addr) (c:Nat):VR φ (.slice (some a) 0 gK) (.slice (some a') 0 c)
 |zi:VR φ (.map none) (.map none)
 |map {b:Nat} {pl:Pl} (h:φ b=some pl):VR φ (.map (some b)) (.map (some pl.B))
 |yield {b:Nat} {pl:Pl} (h:φ b=some pl):VR φ (.func (.yield b) #[] #[]) (.func (.yield pl.B) #[] #[])
 | func (fn:FuncId) (a a' b b':Array Value) (ha:a.toList.length=a'.toList.length) (hb:b.toList.length=b'.toList.length)
   (JK:∀(i:Nat)(v v':Value),a.toList[i]? = some v->a'.toList[i]? = some v'->VR φ v v')
   (hvb:∀(i:Nat)(v v':Value),b.toList[i]? = some v->b'.toList[i]? = some v'->VR φ v v'):VR φ (.func (.func fn) a b) (.func (.func fn) a' b')
 |iface (t:TypeId) {v v':Value} (h:VR φ v v'):VR φ (.iface t v) (.iface t v')
 | agg (a a':Array Value) (ha:a.toList.length=a'.toList.length)
   (JK:∀(i:Nat)(v v':Value),a.toList[i]? = some v->a'.toList[i]? = some v'->VR φ v v'):VR φ (.agg a) (.agg a')
 | tuple (a a':Array Value) (ha:a.toList.length=a'.toList.length)
   (JK:∀(i:Nat)(v v':Value),a.toList[i]? = some v->a'.toList[i]? = some v'->VR φ v v'):VR φ (.tuple a) (.tuple a')
inductive F2{α γ:Type}(R:α->γ->Prop):List α->List γ->Prop where
 |nil:F2 R [] []
 |cons {a:α} {b:γ} {l:List α} {m:List γ} (h:R a b) (t:F2 R l m):F2 R (a::l) (b::m)
theorem F2.length{α γ:Type}{R:α->γ->Prop}{l:List α}{m:List γ}(h:F2 R l m):l.length=m.length:=by
 induction h with
 |nil=>rfl
 |cons _ _ ih=>simp[ih]
theorem F2.get{α γ:Type}{R:α->γ->Prop}{l:List α}{m:List γ}(h:F2 R l m):∀(i:Nat)(a:α),l[i]? = some a->∃b,m[i]? = some b/\R a b:=by
 induction h with
 |nil=>intro i a e;simp at e
 |cons hr _ ih=>
  intro i a e;cases i with
  |zero=>simp at e;subst e;exact⟨_,by simp,hr⟩
  |succ i=>simp at e;obtain⟨b,hb,hr'⟩:=ih i a e;exact⟨b,by simpa using hb,hr'⟩
theorem F2.mB{α γ:Type}{R:α->γ->Prop}:∀{l:List α}{m:List γ},l.length=m.length->
  (∀(i:Nat)(a:α)(b:γ),l[i]? = some a->m[i]? = some b->R a b)->F2 R l m:=by
 intro l
 induction l with
 |nil=>intro m h _;cases m with|nil=>exact .nil|cons _ _=>simp at h
 |cons a l ih=>
  intro m h hr;cases m with
  |nil=>simp at h
  |cons b m=>exact .cons (hr 0 a b (by simp) (by simp)) (ih (by simpa using h) λi x y hx hy=>hr (i+1) x y (by simpa using hx) (by simpa using hy))
theorem F2.imp{α γ:Type}{R S:α->γ->Prop}{l:List α}{m:List γ}(h:F2 R l m)(k:∀a b,R a b->S a b):F2 S l m:=by
 induction h with
 |nil=>exact .nil
 |cons hr _ ih=>exact .cons (k _ _ hr) ih
theorem F2.append{α γ:Type}{R:α->γ->Prop}{l l':List α}{m m':List γ}(h:F2 R l m)(h':F2 R l' m'):F2 R (l++l') (m++m'):=by
 induction h with
 |nil=>exact h'
 |cons hr _ ih=>exact .cons hr ih
theorem F2.take{α γ:Type}{R:α->γ->Prop}{l:List α}{m:List γ}(h:F2 R l m)(n:Nat):F2 R (l.take n) (m.take n):=by
 induction h generalizing n with
 |nil=>simp;exact .nil
 |cons hr _ ih=>cases n with|zero=>exact .nil|succ n=>exact .cons hr (ih n)
theorem F2.drop{α γ:Type}{R:α->γ->Prop}{l:List α}{m:List γ}(h:F2 R l m)(n:Nat):F2 R (l.drop n) (m.drop n):=by
 induction h generalizing n with
 |nil=>simp;exact .nil
 |cons hr ht ih=>cases n with|zero=>exact .cons hr ht|succ n=>exact ih n
theorem F2.map{α γ δ:Type}{R:α->γ->Prop}{f:δ->α}{g:δ->γ}(l:List δ)(h:∀x∈l,R (f x) (g x)):F2 R (l.map f) (l.map g):=by
 induction l with
 |nil=>exact .nil
 |cons x l ih=>exact .cons (h x (by simp)) (ih λy hy=>h y (by simp[hy]))
theorem VR.wo{φ:eW}{a a':Array Value}(h:F2 (VR φ) a.toList a'.toList):VR φ (.agg a) (.agg a'):=
 .agg a a' h.length λi v v' e e'=>by obtain⟨b,hb,hr⟩:=h.get i v e;rw[hb]at e';cases e';exact hr
theorem VR.tuple'{φ:eW}{a a':Array Value}(h:F2 (VR φ) a.toList a'.toList):VR φ (.tuple a) (.tuple a'):=
 .tuple a a' h.length λi v v' e e'=>by obtain⟨b,hb,hr⟩:=h.get i v e;rw[hb]at e';cases e';exact hr
theorem VR.func'{φ:eW}{fn:FuncId}{a a' b b':Array Value}(h:F2 (VR φ) a.toList a'.toList)(k:F2 (VR φ) b.toList b'.toList):VR φ (.func (.func fn) a b) (.func (.func fn) a' b'):=
 .func fn a a' b b' h.length k.length (λi v v' e e'=>by obtain⟨b,hb,hr⟩:=h.get i v e;rw[hb]at e';cases e';exact hr)
  (λi v v' e e'=>by obtain⟨b,hb,hr⟩:=k.get i v e;rw[hb]at e';cases e';exact hr)
theorem VR.undef{φ:eW}:VR φ undef undef:=VR.tuple' .nil
def Sub(φ φ':eW):Prop:=∀b pl,φ b=some pl->φ' b=some pl
theorem Sub.refl(φ:eW):Sub φ φ:=λ_ _ h=>h
theorem Sub.trans{φ φ' φ'':eW}(h:Sub φ φ')(k:Sub φ' φ''):Sub φ φ'':=λb pl e=>k b pl (h b pl e)
theorem VR.mono{φ φ':eW}(hs:Sub φ φ'){v v':Value}(h:VR φ v v'):VR φ' v v':=by
 induction h with
 |bool b=>exact .bool b
 |int k n=>exact .int k n
 |string s=>exact .string s
 |nilFunc=>exact .nilFunc
 |nilIface=>exact .nilIface
 |zh=>exact .zh
 |ptr h=>exact .ptr (hs _ _ h)
 |gj h=>exact .gj h
 |slice h hn hc=>exact .slice (hs _ _ h) hn hc
 |bW h hn hc=>exact .bW (hs _ _ h) hn hc
 |di a a' c=>exact .di a a' c
 |zi=>exact .zi
 |map h=>exact .map (hs _ _ h)
 |yield h=>exact .yield (hs _ _ h)
 |func fn a a' b b' ha hb _ _ iha ihb=>exact .func fn a a' b b' ha hb iha ihb
 |iface t _ ih=>exact .iface t ih
 |agg a a' ha _ ih=>exact .agg a a' ha ih
 |tuple a a' ha _ ih=>exact .tuple a a' ha ih
structure ER(φ:eW)(x x':MapEntry):Prop where
 key:VR φ x.key x'.key
 val:VR φ x.val x'.val
 born:x'.born=x.born
def Ci:Option Ex->Option Code->Prop
 |none,none=>True
 |some .ret,some .ret=>True
 |some (.exit i),some (.exit j)=>i=j
 |_,_=>False
structure Fa(nt:Nat)(ps:List Nat)(a b:Code):Prop where
 small:nt<=1000000000000
 ps:ps.all (λt=>Nat.ble (Nat.succ t) nt)=true
 ca:codeOk nt a=true
 cb:codeOk nt b=true
 ra:qD a=true
 rb:qD b=true
def OR(P:Program)(φ:eW):bO->Pl->Option Obj->Prop
 | .cells n c e op,pl,some (.cells C e' fz)=>e'=e/\fz=(0,0)/\n<=C.size/\n<=4611686018427387904/\(op=true->C.size=pl.sz/\fT P e=some pl.e/\0<pl.e)/\
   ∀i v,c.get i=some v->i<n->∃v',C[i]? = some v'/\VR φ v v'
 | .map es clock,_,some (.map es' clock')=>clock'=clock/\F2 (ER φ) es es'.toList
 | .fh m since seen stepped,_,some (.mapIter m' since' seen' stepped')=>since'=since/\stepped'=stepped/\seen'.toList=seen.reverse/\
   ((m=none/\m'=none)\/∃b mZ,m=some b/\φ b=some mZ/\m'=some mZ.B)
 | .loop st mj tm ps a b,_,some (.loop r)=>r.state=st/\Ci mj r.pending/\r.params.toList=ps/\r.assign=a/\r.body=b/\
   ∃nt,Fa nt ps a b/\r.tmps.size=nt/\∀t,t<nt->VR φ (eo tm t) (r.tmps.getD t undef)
 | .ro n c e,_,some (.cells C e' _)=>e'=e/\n<=C.size/\∀i v,c.get i=some v->i<n->∃v',C[i]? = some v'/\VR φ v v'
 | .dead n e,pl,_=>n<=pl.sz/\n<=4611686018427387904/\fT P e=some pl.e/\0<pl.e
 |_,_,_=>False
def bO.live:bO->Prop
 | .dead ..=>False
 |_=>True
theorem OR.mono{P:Program}{φ φ':eW}(hs:Sub φ φ'){o:bO}{pl:Pl}{O:Option Obj}(h:OR P φ o pl O):OR P φ' o pl O:=by
 cases o with
 |cells n c e op=>
  cases O with
  |none=>exact h
  | some O=>cases O<;>simp only[OR]at h ⊢
            exact⟨h.1,h.2.1,h.2.2.1,h.2.2.2.1,h.2.2.2.2.1,λi v e hi=>let ⟨v',a,b⟩:=h.2.2.2.2.2 i v e hi;⟨v',a,b.mono hs⟩⟩
 |map es clock=>
  cases O with
  |none=>exact h
  | some O=>cases O<;>simp only[OR]at h ⊢
            exact⟨h.1,h.2.imp λa b r=>⟨r.key.mono hs,r.val.mono hs,r.born⟩⟩
 |fh m since seen stepped=>
  cases O with
  |none=>exact h
  | some O=>cases O<;>simp only[OR]at h ⊢
            exact⟨h.1,h.2.1,h.2.2.1,h.2.2.2.imp id λ⟨b,mZ,x,y,z⟩=>⟨b,mZ,x,hs _ _ y,z⟩⟩
 |Yz s pos=>cases O with
  |none=>exact h
  |some O=>cases O<;>exact h
 |dead n e=>cases O with
  |none=>exact h
  |some O=>cases O<;>exact h
 |ro n c e=>
  cases O with
  |none=>exact h
  | some O=>cases O<;>simp only[OR]at h ⊢
            exact⟨h.1,h.2.1,λi v e hi=>let ⟨v',a,b⟩:=h.2.2 i v e hi;⟨v',a,b.mono hs⟩⟩
 |loop st mj tm ps a b=>
  cases O with
  |none=>exact h
  | some O=>cases O<;>simp only[OR]at h ⊢
            obtain⟨h1,h2,h3,h4,h5,nt,h6,h7,h8⟩:=h;exact⟨h1,h2,h3,h4,h5,nt,h6,h7,λt ht=>(h8 t ht).mono hs⟩
def UF(_:Option Obj):Prop:=True
theorem ud{P:Program}{φ:eW}{o:bO}{pl:Pl}{O:Option Obj}(_h:OR P φ o pl O)(_hl:o.live):UF O:=trivial
structure HR(P:Program)(φ:eW)(h:af)(w:World):Prop where
 obj:∀b o pl,h.bl.get b=some o->φ b=some pl->OR P φ o pl w.heap[pl.B]?
 dom:∀b pl,φ b=some pl->b<h.nx/\pl.B<w.heap.size
 keys:∀b o,Small b->h.bl.get b=some o->b<h.nx
 Qp:h.nx<h.nx+1
 inj:∀b b' o o' pl mZ,h.bl.get b=some o->h.bl.get b'=some o'->o.live->o'.live->φ b=some pl->φ b'=some mZ->pl.B=mZ.B->b=b'
 lo:h.lo<=h.nx
structure Ext(φ φ':eW)(h h':af)(w w':World):Prop where
 sub:Sub φ φ'
 new:∀b pl,φ b=none->φ' b=some pl->h.nx<=b/\(w.heap.size<=pl.B\/∃b0 Z8,φ b0=some Z8/\Z8.B=pl.B)
 nx:h.nx<=h'.nx
 size:w.heap.size<=w'.heap.size
 BC:∀B,B<w.heap.size->(∀b pl,φ b=some pl->pl.B≠B)->w'.heap[B]? = w.heap[B]?
 ET:∀b,b<h.nx->φ b=none->h'.bl.get b=h.bl.get b
 tape:w'.tape=w.tape
 os:w'.os=w.os
 output:w'.output=w.output
 fz:∀B:Nat,UF w.heap[B]?->UF w'.heap[B]?
 lo:h'.lo=h.lo
 JL:∀b,b<h.lo->h'.bl.get b=h.bl.get b
 JM:∀(b:Nat)(o:bO)(pl:Pl),b<h.lo->h.bl.get b=some o->o.live->φ b=some pl->pl.B<w.heap.size->w'.heap[pl.B]? = w.heap[pl.B]?
 dr:w.drawn<=w'.drawn
theorem Ext.refl(φ:eW)(h:af)(w:World):Ext φ φ h h w w:=
 ⟨Sub.refl φ,λb pl a b'=>(by rw[a]at b';cases b'),Nat.le_refl _,Nat.le_refl _,λ_ _ _=>rfl,λ_ _ _=>rfl,rfl,rfl,rfl,λ_=>id,rfl,λ_ _=>rfl,λ_ _ _ _ _ _ _ _=>rfl,Nat.le_refl _⟩
theorem Ext.trans{φ φ' φ'':eW}{h h' h'':af}{w w' w'':World}(a:Ext φ φ' h h' w w')(b:Ext φ' φ'' h' h'' w' w''):Ext φ φ'' h h'' w w'' where
 sub:=a.sub.trans b.sub
 new:=λx pl e e''=>by
  cases hx:φ' x with
  |some mZ=>
   have:=b.sub x mZ hx;rw[e'']at this;cases this;exact a.new x pl e hx
  |none=>
   obtain⟨h1,h2⟩:=b.new x pl hx e'';refine⟨Nat.le_trans a.nx h1,?_⟩;rcases h2 with h2|⟨b0,Z8,hb0,hB⟩
   .exact .inl (Nat.le_trans a.size h2)
   .cases h0:φ b0 with
    |some p=>
     have:=a.sub b0 p h0;rw[hb0]at this;cases this;exact .inr ⟨b0,Z8,h0,hB⟩
    |none=>
     obtain⟨_,h3⟩:=a.new b0 Z8 h0 hb0;rw[hB]at h3;exact h3
 nx:=Nat.le_trans a.nx b.nx
 size:=Nat.le_trans a.size b.size
 BC:=λB hB hn=>by
  rw[b.BC B (Nat.lt_of_lt_of_le hB a.size) ?_,a.BC B hB hn];intro x pl hx e;cases h0:φ x with
  |some p=>
   have:=a.sub x p h0;rw[hx]at this;cases this;exact hn x pl h0 e
  |none=>
   obtain⟨_,h3⟩:=a.new x pl h0 hx;rcases h3 with h3|⟨b0,Z8,hb0,hB0⟩
   .omega
   .exact hn b0 Z8 hb0 (hB0.trans e)
 ET:=λx hx hn=>by
  have h1:φ' x=none:=by
   cases h1:φ' x with
   |none=>rfl
   |some pl=>have:=(a.new x pl hn h1).1;omega
  rw[b.ET x (Nat.lt_of_lt_of_le hx a.nx) h1,a.ET x hx hn]
 tape:=b.tape.trans a.tape
 os:=b.os.trans a.os
 output:=b.output.trans a.output
 fz:=λB h=>b.fz B (a.fz B h)
 lo:=b.lo.trans a.lo
 JL:=λx hx=>(b.JL x (by rw[a.lo];exact hx)).trans (a.JL x hx)
 JM:=λx o pl hx ho hl hp hs=>(b.JM x o pl (by rw[a.lo];exact hx) ((a.JL x hx).trans ho) hl (a.sub x pl hp) (Nat.lt_of_lt_of_le hs a.size)).trans (a.JM x o pl hx ho hl hp hs)
 dr:=Nat.le_trans a.dr b.dr
end Go.Vai

namespace Go.Vai
open Go
section runs
variable {P:Program}{w:World}{t:TypeId}
theorem a_{d:TypeDesc}(h:P.underlying t=some d):(underlying t).run P w=.ok d w:=run_underlying h w
theorem qI{i:TypeInfo}(h:P.info? t=some i):(typeInfo t).run P w=.ok i w:=by simp[typeInfo,h]
theorem cM{s:Nat}(h:fT P t=some s):(sizeOf t).run P w=.ok s w:=by
 unfold fT at h;cases hi:P.info? t with
 |none=>rw[hi]at h;simp at h
 |some i=>rw[hi]at h;simp at h;simp[sizeOf,qI hi,h]
theorem rE{b:Bool}(h:oB P t=some b):(isAgg t).run P w=.ok b w:=by
 unfold oB at h;cases hu:P.underlying t with
 |none=>rw[hu]at h;simp at h
 |some d=>rw[hu]at h;cases d<;>simp at h<;>subst h<;>simp[isAgg,a_ hu]
theorem iP{z:List Value}(h:zeroOf P t=some z):∃v i,P.info? t=some i/\i.zero=some v/\z=v.cells.toList/\z.all ir=true:=by
 unfold zeroOf at h;cases hi:P.info? t with
 |none=>rw[hi]at h;simp at h
 |some i=>
  rw[hi]at h;cases hz:i.zero with
  |none=>simp[hz]at h
  |some v=>
   simp only[Option.bind_some,hz]at h;split at h
   .rename_i hb;cases h;exact⟨v,i,rfl,hz,rfl,hb⟩
   .cases h
theorem iI{v:Value}{i:TypeInfo}(hi:P.info? t=some i)(hz:i.zero=some v):(zeroValue t).run P w=.ok v w:=by
 simp[zeroValue,qI hi,hz]
end runs
variable {β:Type}{fl:β}{good:β->Prop}{P:Program}{φ:eW}{h:af}{w:World}{t:TypeId}
theorem HR.cell(hr:HR P φ h w){b n e o:Nat}{c:T Value}{op:Bool}{pl:Pl}{v:Value}(hb:h.bl.get b=some (.cells n c e op))(hp:φ b=some pl)(ho:o<n)(hc:c.get o=some v):∃v',w.cell? ⟨pl.B,o,none⟩=some v'/\VR φ v v':=by
 have:=hr.obj b _ pl hb hp;cases hO:w.heap[pl.B]? with
 |none=>rw[hO]at this;exact this.elim
 |some O=>
  rw[hO]at this;cases O<;>simp only[OR]at this<;>try exact this.elim
  obtain⟨_,_,_,_,_,hh⟩:=this;obtain⟨v',xE,hvr⟩:=hh o v hc ho;exact⟨v',by simp[World.cell?,hO,xE],hvr⟩
theorem HR.Qq(hr:HR P φ h w){b n e o:Nat}{c:T Value}{pl:Pl}{v:Value}(hb:h.bl.get b=some (.ro n c e))(hp:φ b=some pl)(ho:o<n)(hc:c.get o=some v):∃v',w.cell? ⟨pl.B,o,none⟩=some v'/\VR φ v v':=by
 have:=hr.obj b _ pl hb hp;cases hO:w.heap[pl.B]? with
 |none=>rw[hO]at this;exact this.elim
 |some O=>
  rw[hO]at this;cases O<;>simp only[OR]at this<;>try exact this.elim
  obtain⟨_,_,hh⟩:=this;obtain⟨v',xE,hvr⟩:=hh o v hc ho;exact⟨v',by simp[World.cell?,hO,xE],hvr⟩
theorem cU{a b:Nat}(h:Nat.ble a b=true):a<=b:=Nat.le_of_ble_eq_true h
theorem YB{a b:Nat}(h:Nat.ble a b=false):b<a:=by
 rcases Nat.lt_or_ge b a with h'|h'
 .exact h'
 .rw[Nat.ble_eq_true_of_le h']at h;cases h
theorem cD{a b:Nat}(h:Nat.beq a b=true):a=b:=Nat.eq_of_beq_eq_true h
theorem oJ{a b:Nat}(h:Nat.beq a b=false):a≠b:=Nat.ne_of_beq_eq_false h
theorem mC(hfl:¬good fl)(c:T Value)(off:Nat):∀(n:Nat)(acc:List Value)(V:List Value->β),good (mq fl c off n acc V)->
  ∃l,good (V (l++acc))/\l.length=n/\∀j v,l[j]? = some v->c.get (off+j)=some v:=by
 intro n
 induction n with
 |zero=>intro acc V hg;exact⟨[],hg,rfl,λj v e=>by simp at e⟩
 |succ n ih=>
  intro acc V hg;have hg':good (Option.rec (motive:=λ_=>β) fl (λv=>mq fl c off n (v::acc) V) (c.get (Nat.add off n))):=hg;cases hv:c.get (Nat.add off n)with
  |none=>rw[hv]at hg';exact absurd hg' hfl
  |some v=>
   rw[hv]at hg';obtain⟨l,h1,h2,h3⟩:=ih (v::acc) V hg';refine⟨l++[v],by simpa using h1,by simp[h2],λj u e=>?_⟩;rcases Nat.lt_or_ge j n with hj|hj
   .rw[List.getElem?_append_left YYZ]at e;exact h3 j u e
   .rw[List.getElem?_append_right YYZ,h2]at e;rcases Nat.eq_or_lt_of_le hj with hj'|hj'
    .subst hj';simp at e;subst e;exact hv
    .rw[show j-n=(j-n-1)+1 by omega]at e;simp at e
theorem HR.LO(hr:HR P φ h w){b n e off:Nat}{c:T Value}{op:Bool}{pl:Pl}{l:List Value}(hb:h.bl.get b=some (.cells n c e op))(hp:φ b=some pl)(ho:off+l.length<=n)(hc:∀j v,l[j]? = some v->c.get (off+j)=some v):∃l',F2 (VR φ) l l'/\∀w1:World,w1.heap=w.heap->(loadCells ⟨pl.B,off,none⟩ l.length).run P w1=.ok l'.toArray w1:=by
 have key:∀(l:List Value)(off:Nat),off+l.length<=n->(∀j v,l[j]? = some v->c.get (off+j)=some v)->
   ∃l',F2 (VR φ) l l'/\∀j v,l'[j]? = some v->w.cell? ⟨pl.B,off+j,none⟩=some v:=by
  intro l
  induction l with
  |nil=>intro off _ _;exact⟨[],.nil,λj v e=>by simp at e⟩
  |cons x l ih=>
   intro off ho hc;simp at ho;obtain⟨v',h1,h2⟩:=hr.cell hb hp (o:=off) YYZ (by simpa using hc 0 x (by simp));obtain⟨l',h3,h4⟩:=ih (off+1) YYZ λj v e=>by
    have:=hc (j+1) v (by simpa using e);rwa [show off+(j+1)=off+1+j by omega]at this
   refine⟨v'::l',.cons h2 h3,λj v e=>?_⟩;cases j with
   |zero=>simp at e;subst e;simpa using h1
   |succ j=>simp at e;have:=h4 j v e;rwa [show off+1+j=off+(j+1)by omega]at this
 obtain⟨l',h1,h2⟩:=key l off ho hc;refine⟨l',h1,λw1 hw1=>?_⟩;rw[h1.length];refine run_loadCells_list w1 _ l' λj v e=>?_;have:=h2 j v e;have ha:(⟨pl.B,off,none⟩:Addr).add j=⟨pl.B,off+j,none⟩:=by unfold Addr.add;split<;>simp_all
 rw[ha];unfold World.cell? at this ⊢;rw[hw1];exact this
theorem HR.LP(hr:HR P φ h w){b n e off:Nat}{c:T Value}{pl:Pl}{l:List Value}(hb:h.bl.get b=some (.ro n c e))(hp:φ b=some pl)(ho:off+l.length<=n)(hc:∀j v,l[j]? = some v->c.get (off+j)=some v):∃l',F2 (VR φ) l l'/\∀w1:World,w1.heap=w.heap->(loadCells ⟨pl.B,off,none⟩ l.length).run P w1=.ok l'.toArray w1:=by
 have key:∀(l:List Value)(off:Nat),off+l.length<=n->(∀j v,l[j]? = some v->c.get (off+j)=some v)->
   ∃l',F2 (VR φ) l l'/\∀j v,l'[j]? = some v->w.cell? ⟨pl.B,off+j,none⟩=some v:=by
  intro l
  induction l with
  |nil=>intro off _ _;exact⟨[],.nil,λj v e=>by simp at e⟩
  |cons x l ih=>
   intro off ho hc;simp at ho;obtain⟨v',h1,h2⟩:=hr.Qq hb hp (o:=off) YYZ (by simpa using hc 0 x (by simp));obtain⟨l',h3,h4⟩:=ih (off+1) YYZ λj v e=>by
    have:=hc (j+1) v (by simpa using e);rwa [show off+(j+1)=off+1+j by omega]at this
   refine⟨v'::l',.cons h2 h3,λj v e=>?_⟩;cases j with
   |zero=>simp at e;subst e;simpa using h1
   |succ j=>simp at e;have:=h4 j v e;rwa [show off+1+j=off+(j+1)by omega]at this
 obtain⟨l',h1,h2⟩:=key l off ho hc;refine⟨l',h1,λw1 hw1=>?_⟩;rw[h1.length];refine run_loadCells_list w1 _ l' λj v e=>?_;have:=h2 j v e;have ha:(⟨pl.B,off,none⟩:Addr).add j=⟨pl.B,off+j,none⟩:=by unfold Addr.add;split<;>simp_all
 rw[ha];unfold World.cell? at this ⊢;rw[hw1];exact this
theorem nI(hfl:¬good fl)(ht:oB P t=some false){a a':Value}{V:YYY β}(hg:good (ay fl a h V))(hv:VR φ a a')(hr:HR P φ h w):∃v v',good (V v h)/\VR φ v v'/\(Instr.loadAt t a').run P w=.ok v' w:=by
 unfold ay at hg;split at hg<;>try cases hfl hg
 cases hv with
 |ptr hp=>
  split at hg<;>try cases hfl hg
  .rename_i hb;split at hg<;>try cases hfl hg
   rename_i v hle hc;obtain⟨v',h1,h2⟩:=hr.cell hb hp (cU hle) hc;refine⟨v,v',hg,h2,?_⟩;simp[Instr.loadAt,Instr.sureAddr,loadVar,rE ht,h1]
  .rename_i hb;split at hg<;>try cases hfl hg
   rename_i v hle hc;obtain⟨v',h1,h2⟩:=hr.Qq hb hp (cU hle) hc;refine⟨v,v',hg,h2,?_⟩;simp[Instr.loadAt,Instr.sureAddr,loadVar,rE ht,h1]
theorem xF(hfl:¬good fl)(ht:oB P t=some true){s:Nat}(hs:fT P t=some s){a a':Value}{V:YYY β}(hg:good (aO fl s a h V))(hv:VR φ a a')(hr:HR P φ h w):∃v v',good (V v h)/\VR φ v v'/\(Instr.loadAt t a').run P w=.ok v' w:=by
 unfold aO at hg;split at hg<;>try cases hfl hg
 cases hv with
 |ptr hp=>
  split at hg<;>try cases hfl hg
  .rename_i hb;split at hg<;>try cases hfl hg
   rename_i hle;obtain⟨l,h1,h2,h3⟩:=mC hfl _ _ _ _ _ hg;simp only[List.append_nil]at h1;obtain⟨l',h4,h5⟩:=hr.LO hb hp (by rw[h2];exact cU hle) h3;refine⟨_,.agg l'.toArray,h1,VR.wo (by simpa using h4),?_⟩;have h5:=h5 w rfl;rw[h2]at h5;simp[Instr.loadAt,Instr.sureAddr,loadVar,rE ht,cM hs,h5]
  .rename_i hb;split at hg<;>try cases hfl hg
   rename_i hle;obtain⟨l,h1,h2,h3⟩:=mC hfl _ _ _ _ _ hg;simp only[List.append_nil]at h1;obtain⟨l',h4,h5⟩:=hr.LP hb hp (by rw[h2];exact cU hle) h3;refine⟨_,.agg l'.toArray,h1,VR.wo (by simpa using h4),?_⟩;have h5:=h5 w rfl;rw[h2]at h5;simp[Instr.loadAt,Instr.sureAddr,loadVar,rE ht,cM hs,h5]
theorem Fb(hfl:¬good fl){c c' a a' b b':Value}{V:YYY β}(hg:good (bh fl c a b h V))(hc:VR φ c c')(ha:VR φ a a')(hb:VR φ b b'):∃v v',good (V v h)/\VR φ v v'/\((do pure (Next.value (if <-asBool c' then a' else b')):Sem Next)).run P w=.ok (.value v') w:=by
 unfold bh at hg;split at hg<;>try cases hfl hg
 .cases hc;exact⟨a,a',hg,ha,by simp[asBool]⟩
 .cases hc;exact⟨b,b',hg,hb,by simp[asBool]⟩
theorem JW(hfl:¬good fl){a a':Value}{V:YYY β}(hg:good (aT fl a h V))(ha:VR φ a a')(o:Oper)(ρ:Operand->Value)(x:Operand)(ho:o.op=.nilCheck x)(hx:ρ x=a'):∃v v',good (V v h)/\VR φ v v'/\(execOp ρ o).run P w=.ok (.value v') w:=by
 unfold aT at hg;split at hg<;>try cases hfl hg
 .refine⟨_,a',hg,ha,?_⟩;cases ha;simp[execOp,ho,hx]
 .refine⟨_,a',hg,ha,?_⟩;cases ha;simp[execOp,ho,hx]
 .refine⟨_,a',hg,ha,?_⟩;cases ha;simp[execOp,ho,hx]
theorem wq(hfl:¬good fl){fs:Array Field}{v_:Field}{f s:Nat}(hu:P.underlying t=some (.struct fs))(hf:fs[f]? = some v_)(hs:fT P v_.type=some (s+1)){a a':Value}{V:YYY β}(hg:good (aa fl v_.offset a h V))(ha:VR φ a a'):∃v v',good (V v h)/\VR φ v v'/\(Instr.fieldAt t a' f).run P w=.ok v' w:=by
 unfold aa at hg;split at hg<;>try cases hfl hg
 rename_i b o;cases ha with
 |ptr hp=>
  rename_i pl;simp only[bY]at hg;refine⟨_,.pointer (some ⟨pl.B,o+v_.offset,none⟩),hg,.ptr hp,?_⟩;have Qr:(⟨pl.B,o,none⟩:Addr).add v_.offset=⟨pl.B,o+v_.offset,none⟩:=by unfold Addr.add;split<;>simp_all
  simp[Instr.fieldAt,a_ hu,hf,Instr.sureAddr,fieldPlace,cM hs,Qr]
theorem jL(B o n:Nat):(⟨B,o,none⟩:Addr).add n=⟨B,o+n,none⟩:=by unfold Addr.add;split<;>simp_all
theorem wu(hfl:¬good fl){e s:Nat}(hu:P.underlying t=some (.slice e))(hs:fT P e=some s){a a' i i':Value}{V:YYY β}(hg:good (aK fl s a i h V))(ha:VR φ a a')(hi:VR φ i i'):∃v v',good (V v h)/\VR φ v v'/\(Instr.indexAt t a' i').run P w=.ok v' w:=by
 unfold aK at hg;split at hg<;>try cases hfl hg
 split at hg<;>try cases hfl hg
 rename_i b o len cap k j _ hle;have hle:=cU hle;simp only[bY]at hg;cases hi;cases ha with
 |slice hp hn hc=>
  rename_i pl;refine⟨_,.pointer (some ⟨pl.B,o+j*s,none⟩),hg,.ptr hp,?_⟩;have:j<len:=hle;simp[Instr.indexAt,asIntOf,a_ hu,cM hs,jL,this]
 |bW hp hn hc=>
  rename_i pl;refine⟨_,.pointer (some ⟨pl.B,o+j*s,none⟩),hg,.ptr hp,?_⟩;have:j<len:=hle;simp[Instr.indexAt,asIntOf,a_ hu,cM hs,jL,this]
 |di _ a'' c=>exact absurd hle YYZ
theorem wz(hfl:¬good fl){e s len:Nat}(hu:P.underlying t=some (.array len e))(hs:fT P e=some s){a a' i i':Value}{V:YYY β}(hg:good (mu fl len s a i h V))(ha:VR φ a a')(hi:VR φ i i'):∃v v',good (V v h)/\VR φ v v'/\(Instr.indexAt t a' i').run P w=.ok v' w:=by
 unfold mu at hg;split at hg<;>try cases hfl hg
 split at hg<;>try cases hfl hg
 rename_i b o k j _ hle;have hle:=cU hle;simp only[bY]at hg;cases hi;cases ha with
 |ptr hp=>
  rename_i pl;refine⟨_,.pointer (some ⟨pl.B,o+j*s,none⟩),hg,.ptr hp,?_⟩;have:j<len:=hle;simp[Instr.indexAt,asIntOf,a_ hu,cM hs,jL,Instr.sureAddr,this]
theorem Fc(hfl:¬good fl){src dst:TypeId}{ds:TypeDesc}{k:IntKind}(hs:P.underlying src=some ds)(hd:P.underlying dst=some (.int k)){a a':Value}{V:YYY β}(hg:good (mz fl k a h V))(ha:VR φ a a'):∃v v',good (V v h)/\VR φ v v'/\(convert src dst a').run P w=.ok v' w:=by
 unfold mz at hg;split at hg<;>try cases hfl hg
 rename_i k' n;simp only[iW,fm]at hg;cases ha;refine⟨_,_,hg,.int k _,?_⟩;simp[convert,a_ hs,a_ hd,Conv.intToInt]
theorem NQ(hfl:¬good fl){op:UnOp}{a a':Value}{V:YYY β}(hg:good (iG fl op a h V))(ha:VR φ a a'):∃v v',good (V v h)/\VR φ v v'/\(Op.unary op a').run P w=.ok v' w:=by
 unfold iG at hg;split at hg<;>try cases hfl hg
 .cases ha;simp only[bZ]at hg;exact⟨_,_,hg,.bool _,by simp[Op.unary]⟩
 .cases ha;simp only[iW,fm]at hg;exact⟨_,_,hg,.int _ _,by simp[Op.unary,Op.intArith];congr 3;exact(Int.zero_sub _).symm⟩
 .cases ha;simp only[iW,fm]at hg;exact⟨_,_,hg,.int _ _,by simp[Op.unary,Op.intBits]⟩
theorem zj(hfl:¬good fl){i:Nat}{a a':Value}{V:YYY β}(hg:good (aU fl i a h V))(ha:VR φ a a'):∃v v',good (V v h)/\VR φ v v'/\(Instr.extract a' i).run P w=.ok v' w:=by
 unfold aU at hg;split at hg<;>try cases hfl hg
 split at hg<;>try cases hfl hg
 rename_i vs _ v hv;cases ha with
 |tuple _ a'' hl JK=>
  have:∃v',a''.toList[i]? = some v':=by
   cases hx:a''.toList[i]? with
   |some v'=>exact⟨v',rfl⟩
   |none=>
    have h1:=List.getElem?_eq_none_iff.1 hx;have h2:=(List.getElem?_eq_some_iff.1 hv).1;omega
  obtain⟨v',xE⟩:=this;refine⟨v,v',hg,JK i v v' hv xE,?_⟩;have:a''[i]? = some v':=by simpa using xE
  simp[Instr.extract,this]
theorem Df(hfl:¬good fl){ts:Array TypeId}{ty:TypeId}{a a':Value}{V:YYY β}(hg:good (y6 fl a h V))(ha:VR φ a a')(ht:ts[0]? = some t)(hu:P.underlying t=some .string):∃v v',good (V v h)/\VR φ v v'/\(Builtin.len_ ts ty #[a']).run P w=.ok v' w:=by
 unfold y6 at hg;split at hg<;>try cases hfl hg
 simp only[bY]at hg;cases ha;exact⟨_,_,hg,.int _ _,by simp[Builtin.len_,ht,a_ hu,goInt]⟩
theorem Dg(hfl:¬good fl){ts:Array TypeId}{ty e:TypeId}{a a':Value}{V:YYY β}(hg:good (bF fl a h V))(ha:VR φ a a')(ht:ts[0]? = some t)(hu:P.underlying t=some (.slice e)):∃v v',good (V v h)/\VR φ v v'/\(Builtin.len_ ts ty #[a']).run P w=.ok v' w:=by
 unfold bF at hg;split at hg<;>try cases hfl hg
 cases ha<;>exact⟨_,_,hg,.int _ _,by simp[Builtin.len_,ht,a_ hu,goInt]⟩
theorem HR.qj(hr:HR P φ h w){b clock:Nat}{es:List MapEntry}{pl:Pl}(hb:h.bl.get b=some (.map es clock))(hp:φ b=some pl):∃es',w.heap[pl.B]? = some (.map es' clock)/\F2 (ER φ) es es'.toList:=by
 have:=hr.obj b _ pl hb hp;cases hO:w.heap[pl.B]? with
 |none=>rw[hO]at this;exact this.elim
 |some O=>
  rw[hO]at this;cases O<;>simp only[OR]at this<;>try exact this.elim
  obtain⟨rfl,h2⟩:=this;exact⟨_,rfl,h2⟩
theorem dg{B:Nat}{es:Array MapEntry}{clock:Nat}(hO:w.heap[B]? = some (.map es clock)):(getObj B).run P w=.ok (.map es clock) w:=by
 simp[getObj,Sem.run,hO]
theorem Dh(hfl:¬good fl){ts:Array TypeId}{ty k e:TypeId}{a a':Value}{V:YYY β}(hg:good (pO fl a h V))(ha:VR φ a a')(hr:HR P φ h w)(ht:ts[0]? = some t)(hu:P.underlying t=some (.map k e)):∃v v',good (V v h)/\VR φ v v'/\(Builtin.len_ ts ty #[a']).run P w=.ok v' w:=by
 unfold pO at hg;split at hg<;>try cases hfl hg
 .cases ha;exact⟨_,_,hg,.int _ _,by simp[Builtin.len_,ht,a_ hu,goInt]⟩
 .split at hg<;>try cases hfl hg
  rename_i hb;simp only[bY]at hg;cases ha with
  |map hp=>
   obtain⟨es',hO,h2⟩:=hr.qj hb hp;refine⟨_,_,hg,.int _ _,?_⟩;have hlen:=h2.length;simp only[Array.length_toList]at hlen;simp[Builtin.len_,ht,a_ hu,goInt,dg hO,hlen]
theorem VR.cells{v v':Value}(hv:VR φ v v'):F2 (VR φ) v.cells.toList v'.cells.toList:=by
 have one:∀{u u':Value},VR φ u u'->F2 (VR φ) [u] [u']:=λh=>.cons h .nil;cases hv with
 |agg a a' ha JK=>exact F2.mB ha JK
 |bool b=>exact one (.bool b)
 |int k n=>exact one (.int k n)
 |string s=>exact one (.string s)
 |nilFunc=>exact one .nilFunc
 |nilIface=>exact one .nilIface
 |zh=>exact one .zh
 |ptr h=>exact one (.ptr h)
 |gj h=>exact one (.gj h)
 |slice h hn hc=>exact one (.slice h hn hc)
 |bW h hn hc=>exact one (.bW h hn hc)
 |di a a' c=>exact one (.di a a' c)
 |zi=>exact one .zi
 |map h=>exact one (.map h)
 |yield h=>exact one (.yield h)
 |func fn a a' b b' ha hb JK hvb=>exact one (.func fn a a' b b' ha hb JK hvb)
 |iface t h=>exact one (.iface t h)
 |tuple a a' ha JK=>exact one (.tuple a a' ha JK)
theorem JX(hfl:¬good fl):∀(new old:List Value)(V:List Value->β),good (tZ fl new old V)->new.length<=old.length/\good (V (new++old.drop new.length)):=by
 intro new
 induction new with
 |nil=>intro old V hg;exact⟨by simp,by simpa[tZ]using hg⟩
 |cons v new ih=>
  intro old V hg;cases old with
  |nil=>simp only[tZ]at hg;exact absurd hg hfl
  |cons o old=>simp only[tZ]at hg;obtain⟨h1,h2⟩:=ih old _ hg;exact⟨by simpa using h1,by simpa using h2⟩
theorem NR(hfl:¬good fl)(new:List Value):∀(off:Nat)(old:List Value)(V:List Value->β),good (de fl new off old V)->
  off+new.length<=old.length/\good (V (old.take off++new++old.drop (off+new.length))):=by
 intro off
 induction off with
 |zero=>intro old V hg;simp only[de]at hg;obtain⟨h1,h2⟩:=JX hfl _ _ _ hg;exact⟨by simpa using h1,by simpa using h2⟩
 |succ off ih=>
  intro old V hg;cases old with
  |nil=>simp only[de]at hg;exact absurd hg hfl
  |cons o old=>
   simp only[de]at hg;obtain⟨h1,h2⟩:=ih old _ hg;refine⟨by simp;omega,?_⟩;rw[show off+1+new.length=(off+new.length)+1 by omega];simpa using h2
theorem NS(off:Nat):∀(l:List Value)(k:Nat)(cs:Array Value),off+k+l.length<=cs.size->
  (l.zipIdx k).foldl (λ(cs:Array Value)(p:Value × Nat)=>cs.setIfInBounds (off+p.2) p.1) cs=(cs.toList.take (off+k)++l++cs.toList.drop (off+k+l.length)).toArray:=by
 intro l
 induction l with
 |nil=>intro k cs _;simp
 |cons v l ih=>
  intro k cs hk;simp at hk;simp only[List.zipIdx_cons,List.foldl_cons];rw[ih (k+1) _ (by simp;omega)]
  congr 1
  have e:=list_seg_step cs.toList (off+k) v l (by simp;omega);simpa[Array.toList_setIfInBounds,Nat.add_assoc]using e
theorem xG(hfl:¬good fl)(tm:T Value)(ρ:Operand->Value)(place:Nat->Option (Nat × Nat)):∀(parts:List (Nat × Operand)) (ps:List (Nat × Nat)),
  placesOf place parts=some ps->(∀p∈parts,VR φ (fZ tm p.2) (ρ p.2))->∀(cs cs':List Value),F2 (VR φ) cs cs'->∀V:List Value->β,
  good (bC fl ps (parts.map λp=>fZ tm p.2) cs V)->
  ∃r r',good (V r)/\F2 (VR φ) r r'/\Instr.fill place cs'.toArray (parts.map λp=>(p.1,ρ p.2))=some r'.toArray:=by
 intro parts
 induction parts with
 |nil=>
  intro ps hp _ cs cs' hcs V hg;simp only[placesOf]at hp;cases hp;exact⟨cs,cs',hg,hcs,rfl⟩
 |cons p parts ih=>
  intro ps hp hv cs cs' hcs V hg;obtain⟨i,x⟩:=p;simp only[placesOf]at hp;cases hpi:place i with
  |none=>rw[hpi]at hp;simp at hp
  |some os=>
   obtain⟨off,size⟩:=os;cases UX:placesOf place parts with
   |none=>rw[hpi,UX]at hp;simp at hp
   |some l=>
    rw[hpi,UX]at hp;simp at hp;subst hp;simp only[List.map_cons,bC]at hg;split at hg<;>try cases hfl hg
    rename_i hsz;have hsz:=cD hsz;obtain⟨h1,h2⟩:=NR hfl _ _ _ _ hg;have hx:=(hv (i,x) (by simp)).cells;have hl:=hx.length;have hcl:=hcs.length;have hnew:F2 (VR φ) (cs.take off++(fZ tm x).cells.toList++cs.drop (off+(fZ tm x).cells.toList.length)) (cs'.take off++(ρ x).cells.toList++cs'.drop (off+(ρ x).cells.toList.length)):=by
     rw[<-hl];exact((hcs.take _).append hx).append (hcs.drop _)
    obtain⟨r,r',g1,g2,g3⟩:=ih l UX (λq hq=>hv q (by simp[hq])) _ _ hnew V h2;refine⟨r,r',g1,g2,?_⟩;simp only[List.map_cons,Instr.fill,hpi];have e1:(ρ x).cells.size=size:=by rw[<-hsz,hl];simp
    have e2:¬(off+(ρ x).cells.size > cs'.toArray.size):=by
     simp at hl hcl h1 ⊢;omega
    rw[if_neg (by simp[e1];simpa[e1]using e2)];have e3:=NS off (ρ x).cells.toList 0 cs'.toArray (by simp at e2 ⊢;omega);have e4:(ρ x).cells.zipIdx.foldl (λ(cs:Array Value)(p:Value × Nat)=>cs.setIfInBounds (off+p.2) p.1) cs'.toArray=(cs'.take off++(ρ x).cells.toList++cs'.drop (off+(ρ x).cells.toList.length)).toArray:=by
     rw[<-Array.foldl_toList,Array.toList_zipIdx];simpa using e3
    have e5:=g3;rw[<-e4]at e5;exact e5
theorem jk{fty:TypeId}{b:Bool}(hb:oB P fty=some b){s:Nat}(hs:fT P fty=some s)(cs:Array Value)(off:Nat):(part fty cs off).run P w=match b with
   |true=>.ok (.agg ⟨(cs.toList.drop off).take s⟩) w
   | false => match cs.toList[off]? with | some v => .ok v w | none => .halt (.stuck "part: no such cell") w := by
 cases b
 .simp[part,rE hb];cases cs[off]?<;>simp
 .simp[part,rE hb,cM hs];apply Array.ext';simp[List.extract]
theorem yb{B B' o o':Nat}{C C':Array Value}{e e':TypeId}(hB:w.heap[B]? = some (.cells C e (0,0)))(hB':w.heap[B']? = some (.cells C' e' (0,0)))(hne:B≠B'):(sameAddr ⟨B,o,none⟩ ⟨B',o',none⟩).run P w=.ok false w:=by
 have f1:∀n,w.frozen? ⟨B,n,none⟩=false:=λn=>by simp[World.frozen?,hB]
 have f2:∀n,w.frozen? ⟨B',n,none⟩=false:=λn=>by simp[World.frozen?,hB']
 have s1:w.shape? B=some (e,C.size):=by simp[World.shape?,hB]
 have s2:w.shape? B'=some (e',C'.size):=by simp[World.shape?,hB']
 simp[sameAddr,hne,f1,f2,noView,viewAt,s1,s2,mayBeOne,stringish]
end Go.Vai

namespace Go.Vai
open Go
variable {β:Type}{fl:β}{good:β->Prop}{P:Program}{φ:eW}{h:af}{w:World}{t:TypeId}
theorem Vo(a b:ByteArray):(a == b)=decide (a=b):=by
 rw[beq_toListBytes,ByteArray.toList_eq,ByteArray.toList_eq];rw[Bool.eq_iff_iff];simp;constructor
 .intro e;cases a;cases b;simp at e;simp[e]
 .intro e;rw[e]
theorem HR.Qs(hr:HR P φ h w){b:Nat}{pl:Pl}(hb:y3 h b=true)(hp:φ b=some pl):∃o C e,h.bl.get b=some o/\o.live/\w.heap[pl.B]? = some (.cells C e (0,0)):=by
 unfold y3 at hb;split at hb<;>try cases hb
 rename_i hb';have:=hr.obj b _ pl hb' hp;cases hO:w.heap[pl.B]? with
 |none=>rw[hO]at this;exact this.elim
 |some O=>
  rw[hO]at this;cases O<;>simp only[OR]at this<;>try exact this.elim
  obtain⟨rfl,rfl,_⟩:=this;exact⟨_,_,_,hb',trivial,rfl⟩
theorem JY(D:Nat)(rec:TypeId->Value->Value->Option Bool)(ih:∀(t:TypeId)(x y x' y':Value)(r:Bool),rec t x y=some r->VR φ x x'->VR φ y y'->(Op.equalIn D t x' y').run P w=.ok r w):∀(fs:List Field)(xs ys:List Value)(xs' ys':Array Value)(r:Bool),Bz P rec fs xs ys=some r->F2 (VR φ) xs xs'.toList->F2 (VR φ) ys ys'.toList->
   (Op.eqFields D xs' ys' fs).run P w=.ok r w:=by
 intro fs
 induction fs with
 |nil=>intro xs ys xs' ys' r he _ _;simp only[Bz]at he;cases he;simp[Op.eqFields]
 |cons f fs ihf=>
  intro xs ys xs' ys' r he hx hy;simp only[Bz]at he;split at he<;>try cases he
  rename_i hnm
  have hn : f.name ≠ "_" := by simpa using hnm
  have fin:∀(x y x' y':Value),VR φ x x'->VR φ y y'->(part f.type xs' f.offset).run P w=.ok x' w->(part f.type ys' f.offset).run P w=.ok y' w->
    (match rec f.type x y with|some true=>Bz P rec fs xs ys|r=>r)=some r->(Op.eqFields D xs' ys' (f::fs)).run P w=.ok r w:=by
   intro x y x' y' vx vy px py hm;cases hr:rec f.type x y with
   |none=>rw[hr]at hm;cases hm
   |some q=>
    have:=ih f.type x y x' y' q hr vx vy;rw[hr]at hm;cases q
    .simp at hm;subst hm;simp[Op.eqFields,hn,px,py,this]
    .simp[Op.eqFields,hn,px,py,this];exact ihf xs ys xs' ys' r hm hx hy
  split at he
  .rename_i hag hsz;refine fin _ _ (.agg ⟨(xs'.toList.drop f.offset).take _⟩) (.agg ⟨(ys'.toList.drop f.offset).take _⟩) (VR.wo ?_) (VR.wo ?_) (jk hag hsz xs' f.offset) (jk hag hsz ys' f.offset) he
   .exact(hx.drop _).take _
   .exact(hy.drop _).take _
  .rename_i hag hsz;split at he<;>try cases he
   rename_i x y ex ey;obtain⟨x',ex',vx⟩:=hx.get _ _ ex;obtain⟨y',ey',vy⟩:=hy.get _ _ ey;refine fin x y x' y' vx vy ?_ ?_ he
   .have:=jk (w:=w) hag hsz xs' f.offset;rw[this];simp only[ex']
   .have:=jk (w:=w) hag hsz ys' f.offset;rw[this];simp only[ey']
  .cases he
set_option maxHeartbeats 4000000 in
theorem wA(hr:HR P φ h w):∀(d D:Nat),d<=D->∀(t:TypeId)(x y x' y':Value)(r:Bool),nk P h d t x y=some r->VR φ x x'->VR φ y y'->
  (Op.equalIn D t x' y').run P w=.ok r w:=by
 intro d
 induction d with
 |zero=>intro D _ t x y x' y' r he;simp[nk]at he
 |succ d ih=>
  intro D hD t x y x' y' r he vx vy;obtain⟨D,rfl⟩:∃k,D=k+1:=⟨D-1,YYZ⟩
  simp only[nk]at he;split at he<;>try (cases he;done)
  .rename_i hu;cases vx;cases vy;rename_i a b;cases a<;>cases b<;>simp at he<;>subst he<;>simp[Op.equalIn,a_ hu]
  .rename_i hu;cases vx;cases vy;split at he<;>try (cases he;done)
   rename_i hk;rw[gX]at hk;simp at hk;subst hk;simp[iO]at he;subst he;simp[Op.equalIn,a_ hu];rfl
  .rename_i hu;cases vx;cases vy;simp[kT]at he;subst he;simp[Op.equalIn,a_ hu,Vo]
  .rename_i hu;cases vx;cases vy;simp at he;subst he;simp[Op.equalIn,a_ hu]
  .rename_i hu;cases vx;cases vy;simp at he;subst he;simp[Op.equalIn,a_ hu]
  .rename_i hu;cases vx;cases vy;simp at he;subst he;simp[Op.equalIn,a_ hu]
  .rename_i e b o b' o' hu;split at he<;>try (cases he;done)
   rename_i s hs;split at he<;>try (cases he;done)
   rename_i hl hl';cases vx with
   |ptr hp=>
    cases vy with
    |ptr hp'=>
     rename_i pl mZ;obtain⟨q,C,e1,g1,g2,g3⟩:=hr.Qs hl hp;obtain⟨q',C',e2,UY,g2',Vp⟩:=hr.Qs hl' hp';have hsz:(sizeOf e).run P w=.ok (s+1) w:=cM hs;split at he
     .rename_i hb;have hb:=cD hb;subst hb;rw[hp]at hp';cases hp';simp at he;subst he;simp[Op.equalIn,a_ hu,hsz,sameAddr];rw[Bool.eq_iff_iff];simp
     .rename_i hb;have hb:=oJ hb;simp at he;subst he;have hne:pl.B≠mZ.B:=λe=>hb (hr.inj _ _ _ _ _ _ g1 UY g2 g2' hp hp' e);simp[Op.equalIn,a_ hu,hsz,yb g3 Vp hne]
  .rename_i hu;cases vx;cases vy;simp at he;subst he;simp[Op.equalIn,a_ hu]
  .rename_i hu;cases vx;cases vy;simp at he;subst he;simp[Op.equalIn,a_ hu]
  .rename_i hu;cases vx;cases vy;simp at he;subst he;simp[Op.equalIn,a_ hu]
  .rename_i fs xs ys hu;split at he<;>try (cases he;done)
   rename_i hst;cases vx with
   |agg _ xs' hx1 hx2=>
    cases vy with
    |agg _ ys' hy1 hy2=>
     have hf:P.fieldsOf t=fs:=by simp[Program.fieldsOf,hu]
     rw[run_equalIn_struct w D t xs' ys' (by rw[hf];exact hu) hst,hf];exact JY D (nk P h d) (λt x y x' y' r he vx vy=>ih D YYZ t x y x' y' r he vx vy) _ _ _ xs' ys' r he (F2.mB hx1 hx2) (F2.mB hy1 hy2)
  .rename_i hu;cases vx;cases vy;simp at he;subst he;simp[Op.equalIn,a_ hu]
  .rename_i hu;cases vx<;>cases vy<;>simp at he<;>subst he<;>simp[Op.equalIn,a_ hu]
  .rename_i hu;cases vx<;>cases vy<;>simp at he<;>subst he<;>simp[Op.equalIn,a_ hu]
  .rename_i hu;cases vx;cases vy;simp at he;subst he;simp[Op.equalIn,a_ hu]
  .rename_i hu;cases vx;cases vy;simp at he;subst he;simp[Op.equalIn,a_ hu]
  .rename_i hu;cases vx;cases vy;simp at he;subst he;simp[Op.equalIn,a_ hu]
  .rename_i hu;cases vx;cases vy;simp at he;subst he;simp[Op.equalIn,a_ hu]
  .rename_i hu;cases vx<;>cases vy<;>simp at he<;>subst he<;>simp[Op.equalIn,a_ hu]
  .rename_i hu;cases vx<;>cases vy<;>simp at he<;>subst he<;>simp[Op.equalIn,a_ hu]
theorem JZ(hfl:¬good fl):∀(n:Nat)(l:List Value)(V:List Value->β),good (Cb fl n l V)->good (V (l.take n)):=by
 intro n
 induction n with
 |zero=>intro l V hg;simpa[Cb]using hg
 |succ n ih=>
  intro l V hg;cases l with
  |nil=>simp only[Cb]at hg;exact absurd hg hfl
  |cons v l=>simp only[Cb]at hg;simpa using ih l _ hg
theorem xH(hfl:¬good fl){fty:TypeId}{b:Bool}(hb:oB P fty=some b){s:Nat}(hs:fT P fty=some s){cs cs':Array Value}(hc:F2 (VR φ) cs.toList cs'.toList)(off:Nat){V:Value->β}(hg:good (E8 fl b s cs.toList off V)):∃v v',good (V v)/\VR φ v v'/\(part fty cs' off).run P w=.ok v' w:=by
 have hp:=jk (w:=w) hb hs cs' off;cases b
 .simp only[E8]at hg;split at hg<;>try cases hfl hg
  rename_i v hv;obtain⟨v',e,r⟩:=hc.get _ _ hv;refine⟨v,v',hg,r,?_⟩;rw[hp];simp only[e]
 .simp only[E8]at hg;have:=JZ hfl _ _ _ hg;exact⟨_,_,this,VR.wo ((hc.drop off).take s),hp⟩
theorem Di(hfl:¬good fl){fs:Array Field}{v_:Field}{f s:Nat}{b:Bool}(hu:P.underlying t=some (.struct fs))(hf:fs[f]? = some v_)(hb:oB P v_.type=some b)(hs:fT P v_.type=some s){a a':Value}{V:YYY β}(hg:good (sV fl b s v_.offset a h V))(ha:VR φ a a'):∃v v',good (V v h)/\VR φ v v'/\(Instr.field t a' f).run P w=.ok v' w:=by
 unfold sV at hg;split at hg<;>try cases hfl hg
 cases ha with
 |agg _ cs' h1 h2=>
  obtain⟨v,v',g1,g2,g3⟩:=xH (w:=w) hfl hb hs (F2.mB h1 h2) _ hg;exact⟨v,v',g1,g2,by simp[Instr.field,a_ hu,hf,asAgg,g3]⟩
theorem Dj(hfl:¬good fl){e s len:Nat}{b:Bool}(hu:P.underlying t=some (.array len e))(hb:oB P e=some b)(hs:fT P e=some s){a a' i i':Value}{V:YYY β}(hg:good (y8 fl b len s a i h V))(ha:VR φ a a')(hi:VR φ i i'):∃v v',good (V v h)/\VR φ v v'/\(Instr.index t a' i').run P w=.ok v' w:=by
 unfold y8 at hg;split at hg<;>try cases hfl hg
 split at hg<;>try cases hfl hg
 rename_i cs k j _ hle;have hle:j<len:=cU hle;cases hi;cases ha with
 |agg _ cs' h1 h2=>
  obtain⟨v,v',g1,g2,g3⟩:=xH (w:=w) hfl hb hs (F2.mB h1 h2) _ hg;refine⟨v,v',g1,g2,?_⟩;have Vp:(part e cs' (j*s)).run P w=.ok v' w:=g3;simp[Instr.index,asIntOf,a_ hu,cM hs,hle,Vp]
theorem Dk(hfl:¬good fl)(hu:P.underlying t=some .string){a a' i i':Value}{V:YYY β}(hg:good (y9 fl a i h V))(ha:VR φ a a')(hi:VR φ i i'):∃v v',good (V v h)/\VR φ v v'/\(Instr.index t a' i').run P w=.ok v' w:=by
 unfold y9 at hg;split at hg<;>try cases hfl hg
 rename_i s k j;split at hg<;>try cases hfl hg
 rename_i b hb;simp only[bY]at hg;cases hi;cases ha;refine⟨_,.int .u8 b.toNat,hg,.int _ _,?_⟩;have:s[j]? = some b:=by
  have hj:=(List.getElem?_eq_some_iff.1 hb).1;have hb':=(List.getElem?_eq_some_iff.1 hb).2;have hj':j<s.size:=by simpa using hj
  rw[getElem?_pos s j hj']
  congr 1
 simp[Instr.index,asIntOf,a_ hu,this]
abbrev LQ(φ:eW)(v v':Option Value):Prop:=match v,v' with|none,none=>True|some x,some x'=>VR φ x x'|_,_=>False
theorem oK(hfl:¬good fl){v v':Option Value}{d:Nat}{V:Nat->β}(hg:good (C9 fl v d V))(hv:LQ φ v v'):∃n,good (V n)/\(v=none->n=d)/\∀x',v'=some x'->∃k,x'=.int k (n:Int):=by
 unfold C9 at hg;split at hg
 .exact⟨d,hg,λ_=>rfl,λx' e=>by subst e;exact hv.elim⟩
 .rename_i k n;refine⟨n,hg,λe=>(by cases e),λx' e=>?_⟩;subst e;cases hv;exact⟨k,rfl⟩
 .exact absurd hg hfl
theorem run_sliceBound{k:IntKind}{n y:Nat}{code:BoundsCode}(h:n<=y):(Instr.sliceBound (.int k (n:Int)) y code).run P w=.ok n w:=by
 have:(n:Int)<=(y:Int):=by omega
 simp[Instr.sliceBound,asIntOf,this]
theorem i7(hfl:¬good fl){len lim cap cap':Nat}{lo hi mx lo' hi' NT:Option Value}{V:Nat->Nat->Nat->β}(hg:good (jg fl len lim cap lo hi mx V))(h1:LQ φ lo lo')(h2:LQ φ hi hi')(h3:LQ φ mx NT)(hlim:lim<=cap')(b:Bool):∃l hh m,l<=hh/\hh<=lim/\((mx=none/\m=cap/\good (V l hh cap)/\(Instr.sliceBounds b len cap' lo' hi' NT).run P w=.ok (l,hh,cap') w)\/
   (mx≠none/\hh<=m/\m<=lim/\good (V l hh m)/\(Instr.sliceBounds b len cap' lo' hi' NT).run P w=.ok (l,hh,m) w)):=by
 unfold jg at hg;cases mx with
 |none=>
  cases NT with
  |some _=>exact h3.elim
  |none=>
   obtain⟨hh,g1,e1,e2⟩:=oK hfl hg h2;obtain⟨l,g2,e3,e4⟩:=oK hfl g1 h1;split at g2<;>try exact absurd g2 hfl
   rename_i hle1 hle2;have hle1:=cU hle1;have hle2:=cU hle2;refine⟨l,hh,cap,hle1,hle2,.inl ⟨rfl,rfl,g2,?_⟩⟩;cases lo<;>cases lo'<;>(try exact h1.elim)<;>cases hi<;>cases hi'<;>(try exact h2.elim)<;>simp at e1 e2 e3 e4
   .subst e1;subst e3;simp[Instr.sliceBounds]
   .obtain⟨k,rfl⟩:=e2;subst e3;simp[Instr.sliceBounds,run_sliceBound (P:=P) (w:=w) (k:=k) (show hh<=cap' by omega)]
   .obtain⟨k,rfl⟩:=e4;subst e1;simp[Instr.sliceBounds,run_sliceBound (P:=P) (w:=w) (k:=k) hle1]
   .obtain⟨k,rfl⟩:=e2;obtain⟨k',rfl⟩:=e4;simp[Instr.sliceBounds,run_sliceBound (P:=P) (w:=w) (k:=k) (show hh<=cap' by omega),run_sliceBound (P:=P) (w:=w) (k:=k') hle1]
 |some x=>
  cases NT with
  |none=>exact h3.elim
  |some x'=>
   obtain⟨m,g0,_,e0⟩:=oK hfl hg h3;obtain⟨hh,g1,e1,e2⟩:=oK hfl g0 h2;obtain⟨l,g2,e3,e4⟩:=oK hfl g1 h1;split at g2<;>try exact absurd g2 hfl
   rename_i hs hle1 hle2 bP;have hle1:=cU hle1;have hle2:=cU hle2;have bP:=cU bP;obtain⟨k0,rfl⟩:=e0 x' rfl;refine⟨l,hh,m,hle1,YYZ,.inr ⟨by simp,hle2,bP,g2,?_⟩⟩;cases hi with
   |none=>simp at hs
   |some y=>
    cases hi' with
    |none=>exact h2.elim
    |some y'=>
     obtain⟨k,rfl⟩:=e2 y' rfl;have r0:∀c,(Instr.sliceBound (.int k0 (m:Int)) cap' c).run P w=.ok m w:=λc=>run_sliceBound YYZ;have r1:∀c,(Instr.sliceBound (.int k (hh:Int)) m c).run P w=.ok hh w:=λc=>run_sliceBound hle2;cases lo<;>cases lo'<;>(try exact h1.elim)<;>simp at e3 e4
     .subst e3;simp[Instr.sliceBounds,r0,r1]
     .obtain⟨k',rfl⟩:=e4;simp[Instr.sliceBounds,r0,r1,run_sliceBound (P:=P) (w:=w) (k:=k') hle1]
end Go.Vai

namespace Go.Vai
open Go
variable {β:Type}{fl:β}{good:β->Prop}{P:Program}{φ:eW}{h:af}{w:World}{t:TypeId}
theorem kU:aX=1267650600228229401496703205376:=rfl
theorem sZ{v:Value}(hv:ir v=true):VR φ v v:=by
 cases v<;>simp only[ir]at hv<;>try (cases hv;done)
 .exact .bool _
 .exact .int _ _
 .exact .string _
 .rename_i a;cases a
  .exact .zh
  .simp at hv
 .rename_i a n c;cases a
  .exact .gj (cU hv)
  .simp at hv
 .rename_i r;cases r
  .exact .zi
  .simp at hv
 .exact .nilFunc
 .exact .nilIface
theorem jv{l:List Value}(h:l.all ir=true):F2 (VR φ) l l:=by
 induction l with
 |nil=>exact .nil
 |cons v l ih=>simp at h;exact .cons (sZ h.1) (ih (by simpa using h.2))
theorem jw{v:Value}(hv:qA v=true):VR φ v v:=by
 cases v
 case agg cs=>exact VR.wo (jv hv)
 case tuple cs=>exact VR.tuple' (jv hv)
 case iface t v=>exact .iface t (sZ hv)
 all_goals exact sZ hv
theorem Fe{v v':Value}(hs:kO v=true)(hv:VR φ v v'):v'=v:=by
 cases v<;>simp[kO]at hs<;>cases hv<;>rfl
theorem Qt{l l':List Value}(hs:l.all kO=true)(hv:F2 (VR φ) l l'):l'=l:=by
 induction hv with
 |nil=>rfl
 |cons hr _ ih=>simp at hs;rw[Fe hs.1 hr,ih (by simpa using hs.2)]
theorem rF{v v':Value}(hs:oA v=true)(hv:VR φ v v'):v'=v:=by
 cases v
 case agg cs=>
  cases hv with
  |agg _ a' h1 h2=>
   have:=Qt (φ:=φ) hs (F2.mB h1 h2)
   congr 1
   exact Array.ext' this
 all_goals exact Fe hs hv
theorem mD{b o s l hh m:Nat}{pl:Pl}(hp:φ b=some pl)(h1:l<=hh)(h2:hh<=m)(h3:m<aX){V:Value->β}(hg:good (t_ b o s l hh m V)):∃v,good (V v)/\VR φ v (.slice (some (if m=l then⟨pl.B,o,none⟩else(⟨pl.B,o,none⟩:Addr).add (l*s))) (hh-l) (m-l)):=by
 unfold t_ at hg;split at hg
 .rename_i he;have he:=cD he;subst he;simp only[bY]at hg;refine⟨_,hg,?_⟩;rw[if_pos rfl];have e1:hh-m=0:=by omega
  have e2:m-m=0:=by omega
  rw[show Nat.sub hh m=0 from e1,e1,e2];exact .slice hp (Nat.le_refl _) (by rw[kU];omega)
 .rename_i he;have he:=oJ he;simp only[bY]at hg;refine⟨_,hg,?_⟩;rw[if_neg he,jL];exact .slice hp (show hh-l<=m-l by omega) (show m-l<aX by omega)
theorem fL{e s:Nat}{a:Option Addr}{len cap l hh m:Nat}{lo hi mx:Option Value}(hu:P.underlying t=some (.slice e))(hs:fT P e=some s)(hb:(Instr.sliceBounds true len cap lo hi mx).run P w=.ok (l,hh,m) w):(Instr.sliceAt t (.slice a len cap) lo hi mx).run P w=.ok (.slice (if m=l then a else a.map (·.add (l*s))) (hh-l) (m-l)) w:=by
 simp[Instr.sliceAt,Instr.slice,a_ hu,hb,cM hs]
theorem HR.known(hr:HR P φ h w){e b n:Nat}{pl:Pl}(hk:iu h e b=some n)(hp:φ b=some pl):n<=pl.sz/\n<=4611686018427387904/\fT P e=some pl.e/\0<pl.e:=by
 unfold iu at hk;split at hk
 .rename_i hb;split at hk<;>try (cases hk;done)
  rename_i he;have he:=cD he;subst he;cases hk;have:=hr.obj b _ pl hb hp;cases hO:w.heap[pl.B]? with
  |none=>rw[hO]at this;exact this.elim
  |some O=>
   rw[hO]at this;cases O<;>simp only[OR]at this<;>try exact this.elim
   obtain⟨_,_,h3,h4,h5,_⟩:=this;obtain⟨g1,g2,g3⟩:=h5 trivial;exact⟨YYZ,h4,g2,g3⟩
 .rename_i hb;split at hk<;>try (cases hk;done)
  rename_i he;have he:=cD he;subst he;cases hk;have:=hr.obj b _ pl hb hp;cases hO:w.heap[pl.B]? with
  |none=>rw[hO]at this;exact this
  |some O=>rw[hO]at this;cases O<;>exact this
 .cases hk
theorem Dl(hfl:¬good fl){e s:Nat}(hu:P.underlying t=some (.slice e))(hs:fT P e=some s)(hr:HR P φ h w){x x':Value}{lo hi mx lo' hi' NT:Option Value}{V:YYY β}(hg:good (sliceB fl e s x lo hi mx h V))(hx:VR φ x x')(h1:LQ φ lo lo')(h2:LQ φ hi hi')(h3:LQ φ mx NT):∃v v',good (V v h)/\VR φ v v'/\(Instr.sliceAt t x' lo' hi' NT).run P w=.ok v' w:=by
 unfold sliceB at hg;split at hg<;>try cases hfl hg
 .
  rename_i len cap;cases hx with
  |gj hle=>
   obtain⟨l,hh,m,g1,g2,g3⟩:=i7 (w:=w) hfl hg h1 h2 h3 (Nat.le_refl cap) true;rcases g3 with⟨_,rfl,g4,g5⟩|⟨_,g6,g7,g4,g5⟩
   .simp only[bY]at g4;refine⟨_,_,g4,?_,fL hu hs g5⟩;have:(if m=l then(none:Option Addr)else Option.map (λa:Addr=>a.add (l*s)) none)=none:=by split<;>rfl
    rw[this];exact .gj (show hh-l<=m-l by omega)
   .simp only[bY]at g4;refine⟨_,_,g4,?_,fL hu hs g5⟩;have:(if m=l then(none:Option Addr)else Option.map (λa:Addr=>a.add (l*s)) none)=none:=by split<;>rfl
    rw[this];exact .gj (show hh-l<=m-l by omega)
 .rename_i b o len cap;split at hg
  .
   rename_i hc;have hc:=cD hc;subst hc;split at hg<;>try cases hfl hg
   rename_i hl;have hl:=cD hl;subst hl;have:∃a' c,x'=.slice (some a') 0 c:=by
    cases hx with
    |slice hp hn hc=>exact⟨_,_,rfl⟩
    |di a a' c=>exact⟨a',c,rfl⟩
   obtain⟨a',c,rfl⟩:=this;obtain⟨l,hh,m,g1,g2,g3⟩:=i7 (w:=w) hfl hg h1 h2 h3 (Nat.zero_le c) true;have hh0:hh=0:=by omega
   have hl0:l=0:=by omega
   subst hh0;subst hl0;have fin:∀m',VR φ (.slice (some ⟨b,o,none⟩) 0 gK) (.slice (if m'=0 then some a' else Option.map (λa:Addr=>a.add (0*s)) (some a')) (0-0) (m'-0)):=by
    intro m';have:(if m'=0 then some a' else Option.map (λa:Addr=>a.add (0*s)) (some a'))=some a':=by split<;>simp[Addr.add]
    rw[this];exact .di _ _ _
   rcases g3 with⟨_,rfl,g4,g5⟩|⟨_,g6,g7,g4,g5⟩
   .exact⟨_,_,g4,fin _,fL hu hs g5⟩
   .exact⟨_,_,g4,fin _,fL hu hs g5⟩
  .rename_i hna;have hna:=oJ hna;split at hg
   .
    rename_i hno;have hno:=oJ hno;split at hg<;>try cases hfl hg
    rename_i hcl;have hcl:=cU hcl;cases hx with
    |bW hp hn hc=>exact absurd rfl hno
    |di a a' c=>exact absurd rfl hna
    |slice hp hn hc=>
     rename_i pl;obtain⟨l,hh,m,g1,g2,g3⟩:=i7 (w:=w) hfl hg h1 h2 h3 (Nat.le_refl cap) true;rcases g3 with⟨_,rfl,g4,g5⟩|⟨_,g6,g7,g4,g5⟩
     .obtain⟨v,k1,k2⟩:=mD hp g1 YYZ hc g4;refine⟨v,_,k1,?_,fL hu hs g5⟩;by_cases hm:m=l
      .simpa[hm]using k2
      .simpa[hm]using k2
     .obtain⟨v,k1,k2⟩:=mD hp g1 YYZ YYZ g4;refine⟨v,_,k1,?_,fL hu hs g5⟩;by_cases hm:m=l
      .simpa[hm]using k2
      .simpa[hm]using k2
   .
    rename_i hno;have hno:=cD hno;subst hno;split at hg<;>try cases hfl hg
    rename_i n s0 hk;split at hg<;>try cases hfl hg
    rename_i hon;have hon:=cU hon;have hx':∃pl c,φ b=some pl/\len<=c/\c*pl.e+o=pl.sz/\x'=.slice (some ⟨pl.B,o,none⟩) len c:=by
     cases hx with
     |slice hp hn hc=>exact absurd hc (Nat.lt_irrefl _)
     |bW hp hn hc=>exact⟨_,_,hp,hn,hc,rfl⟩
    obtain⟨pl,c,hp,hn,hc,rfl⟩:=hx';obtain⟨k1,k2,k3,k4⟩:=hr.known hk hp;have e2:pl.e=s0+1:=by rw[hs]at k3;exact(Option.some.inj k3).symm
    have hlim:Nat.div (Nat.sub n o) (s0+1)<=c:=by
     show(n-o) / (s0+1)<=c
     have hc2:=hc;rw[e2]at hc2;apply Nat.div_le_of_le_mul;rw[Nat.mul_comm];omega
    obtain⟨l,hh,m,g1,g2,g3⟩:=i7 (w:=w) hfl hg h1 h2 h3 hlim true;have hlb:Nat.div (Nat.sub n o) (s0+1)<=4611686018427387904:=Nat.le_trans (Nat.div_le_self _ _) (by show n-o<=_;omega);rcases g3 with⟨_,rfl,g4,g5⟩|⟨_,g6,g7,g4,g5⟩
    .split at g4
     .split at g4
      .rename_i hl;have hl:=cD hl;refine⟨_,_,g4,?_,fL hu hs g5⟩;have e1:hh-l=0:=by omega
       rw[e1];by_cases hm:c=l
       .rw[if_pos hm];exact .di _ _ _
       .rw[if_neg hm];exact .di _ _ _
      .rename_i hl;have hl:=oJ hl;simp only[bY]at g4;refine⟨_,_,g4,?_,fL hu hs g5⟩;have hm:¬c=l:=by omega
       rw[if_neg hm];simp only[Option.map_some,jL];refine .bW hp (show hh-l<=c-l by omega) ?_
       show(c-l)*pl.e+(o+l*(s0+1))=pl.sz
       have hcl:l<=c:=by omega
       rw[<-hc,Nat.sub_mul];have:l*pl.e<=c*pl.e:=Nat.mul_le_mul_right _ hcl;rw[<-e2];omega
     .rename_i hf;exact absurd rfl (oJ hf)
    .split at g4
     .rename_i hf;have hf:=cD hf;rw[kU]at hf;omega
     .obtain⟨v,j1,j2⟩:=mD hp g1 g6 (by rw[kU];omega) g4;refine⟨v,_,j1,?_,fL hu hs g5⟩;by_cases hm:m=l
      .simpa[hm]using j2
      .simpa[hm]using j2
theorem Dm(hfl:¬good fl)(hu:P.underlying t=some .string){x x':Value}{lo hi mx lo' hi' NT:Option Value}{V:YYY β}(hg:good (y5 fl x lo hi mx h V))(hx:VR φ x x')(h1:LQ φ lo lo')(h2:LQ φ hi hi')(h3:LQ φ mx NT):∃v v',good (V v h)/\VR φ v v'/\(Instr.sliceAt t x' lo' hi' NT).run P w=.ok v' w:=by
 unfold y5 at hg;split at hg<;>try cases hfl hg
 rename_i s;cases hx;cases NT with
 |some _=>exact h3.elim
 |none=>
  obtain⟨l,hh,m,g1,g2,g3⟩:=i7 (P:=P) (w:=w) hfl hg h1 h2 (mx:=none) (NT:=none) trivial (Nat.le_refl s.size) false;rcases g3 with⟨_,rfl,g4,g5⟩|⟨g6,_⟩
  .refine⟨_,.string (s.extract l hh),g4,.string _,?_⟩;simp[Instr.sliceAt,Instr.slice,a_ hu,g5]
  .exact absurd rfl g6
theorem jM:∀(d:Nat)(D:Nat),d<=D->∀(t:TypeId)(v:Value)(em:Bool),kQ P d t v=true->(Instr.checkKey em D t v).run P w=.ok () w:=by
 intro d
 induction d with
 |zero=>intro D _ t v em hk;simp[kQ]at hk
 |succ d ih=>
  intro D hD t v em hk;obtain⟨D,rfl⟩:∃k,D=k+1:=⟨D-1,YYZ⟩
  simp only[kQ]at hk;split at hk<;>try (cases hk;done)
  .rename_i hu;simp[Instr.checkKey,a_ hu]
  .rename_i hu;simp[Instr.checkKey,a_ hu]
  .rename_i hu;simp[Instr.checkKey,a_ hu]
  .rename_i fs cs hu;simp only[Bool.and_eq_true]at hk;obtain⟨_,hk⟩:=hk;simp only[Instr.checkKey,Sem.run_bind,a_ hu,Result.andThen_ok];rw[<-Array.forIn_toList];generalize fs.toList=l at hk;clear hu
   induction l with
   |nil=>simp
   |cons f l ihl=>
    simp only[List.all_cons,Bool.and_eq_true]at hk;obtain⟨hf,hk⟩:=hk;have qk:=ihl hk;have hone:∃x,(part f.type cs f.offset).run P w=.ok x w/\(Instr.checkKey em D f.type x).run P w=.ok () w:=by
     split at hf<;>try (cases hf;done)
     .rename_i hag hsz;exact⟨_,jk hag hsz cs f.offset,ih D YYZ _ _ em hf⟩
     .rename_i hag hsz;split at hf<;>try (cases hf;done)
      rename_i v hv;refine⟨v,?_,ih D YYZ _ _ em hf⟩;have:=jk (w:=w) hag hsz cs f.offset;rw[this];simp only[hv]
    obtain⟨x,hx1,hx2⟩:=hone;simp only[List.forIn_cons,Sem.run_bind,Sem.run_ite];split
    .simp only[hx1,hx2,Result.andThen_ok,Sem.run_pure];exact qk
    .simp only[Sem.run_pure,Result.andThen_ok];exact qk
theorem pT{d:Nat}{v:Value}(hk:kQ P d t v=true):oA v=true:=by
 cases d with
 |zero=>simp[kQ]at hk
 |succ d=>
  simp only[kQ]at hk;split at hk<;>try (cases hk;done)
  .rfl
  .rfl
  .rfl
  .simp only[Bool.and_eq_true]at hk;exact hk.1
theorem dB(hr:HR P φ h w){kt:TypeId}{k k':Value}(hk:VR φ k k'):∀(es es':List MapEntry)(i:Nat) (r:Option (Nat × MapEntry)),F2 (ER φ) es es'->gH P h kt k es i=some r->
  ∃r':Option (Nat × Value),(Instr.findAsking kt k' es' i).run P w=.ok r' w/\
   match r,r' with
   |none,none=>True
   |some (j,e),some (j',v')=>j'=j/\i<=j/\es[j-i]? = some e/\VR φ e.val v'/\nk P h 100 kt k e.key=some true
   |_,_=>False:=by
 intro es
 induction es with
 |nil=>intro es' i r h2 hf;cases h2;simp only[gH]at hf;cases hf;exact⟨none,by simp[Instr.findAsking],trivial⟩
 |cons e es ih=>
  intro es' i r h2 hf;cases h2 with
  |cons he h2=>
   rename_i e' es';simp only[gH]at hf;have key:∀q,nk P h 100 kt k e.key=some q->(Op.equal kt k' e'.key).run P w=.ok q w:=λq hq=>wA hr 100 10000 YYZ kt _ _ _ _ q hq hk he.key;split at hf
   .rename_i hq;cases hf;exact⟨some (i,e'.val),by simp[Instr.findAsking,key _ hq],rfl,Nat.le_refl _,by simp,he.val,hq⟩
   .rename_i hq;obtain⟨r',h3,h4⟩:=ih es' (i+1) r h2 hf;refine⟨r',by simp[Instr.findAsking,key _ hq,h3],?_⟩;cases r with
    |none=>cases r' with
     |none=>trivial
     |some _=>exact h4.elim
    |some p=>
     cases r' with
     |none=>exact h4
     |some p'=>
      obtain⟨g1,g2,g3,g4,g5⟩:=h4;refine⟨g1,YYZ,?_,g4,g5⟩;rw[show p.1-i=(p.1-(i+1))+1 by omega];simpa using g3
   .cases hf
theorem sv{D:Nat}{d:TypeDesc}{kt:TypeId}(hu:P.underlying kt=some d){a b:Value}{q:Bool}(hs:Instr.sameNow d a b=some q):(Op.equalIn (D+1) kt a b).run P w=.ok q w:=by
 unfold Instr.sameNow at hs;split at hs<;>try (cases hs;done)
 .split at hs<;>try (cases hs;done)
  rename_i hk;subst hk;cases hs;simp[Op.equalIn,a_ hu]
 .cases hs;simp[Op.equalIn,a_ hu]
 .cases hs;simp[Op.equalIn,a_ hu]
theorem BD{d:TypeDesc}{kt:TypeId}(hu:P.underlying kt=some d){k:Value}:∀(es:List MapEntry)(i:Nat) (r:Option (Nat × Value)),Instr.findNow d k es i=some r->(Instr.findAsking kt k es i).run P w=.ok r w:=by
 intro es
 induction es with
 |nil=>intro i r hf;simp only[Instr.findNow]at hf;cases hf;simp[Instr.findAsking]
 |cons e es ih=>
  intro i r hf;simp only[Instr.findNow]at hf;split at hf
  .rename_i hq;cases hf;simp[Instr.findAsking,Op.equal,sv (D:=9999) (w:=w) hu hq,Op.maxDepth]
  .rename_i hq;simp[Instr.findAsking,Op.equal,sv (D:=9999) (w:=w) hu hq,Op.maxDepth,ih _ _ hf]
  .cases hf
theorem fM{kt:TypeId}{d:TypeDesc}(hu:P.underlying kt=some d){k:Value}{es:List MapEntry}{r:Option (Nat × Value)}(ha:(Instr.findAsking kt k es 0).run P w=.ok r w):(Instr.findKey kt k es).run P w=.ok r w:=by
 simp only[Instr.findKey,Sem.run_bind,a_ hu,Result.andThen_ok];cases hn:Instr.findNow d k es 0 with
 |none=>simpa using ha
 |some r'=>
  have:=BD (w:=w) hu es 0 r' hn;rw[ha]at this;injection this with e1 e2
  subst e1;simp
theorem rH{d:Nat}{v:Value}(hk:kQ P d t v=true):∃u,P.underlying t=some u:=by
 cases d with
 |zero=>simp[kQ]at hk
 |succ d=>
  simp only[kQ]at hk;cases hu:P.underlying t with
  |none=>rw[hu]at hk;simp at hk
  |some u=>exact⟨u,rfl⟩
theorem BE(hfl:¬good fl){kt et:TypeId}(hu:P.underlying t=some (.map kt et))(ok:Bool)(hr:HR P φ h w){m m' k k':Value}{V:Option Value->β}(hg:good (jJ fl P kt m k h V))(hm:VR φ m m')(hk:VR φ k k'):∃r r':Option Value,good (V r)/\LQ φ r r'/\(Instr.lookup t m' k' ok).run P w=(match r' with
   |some v=>.ok (if ok then .tuple #[v,.bool true]else v) w
   |none=>((zeroValue et).run P w).andThen λz w=>.ok (if ok then .tuple #[z,.bool false]else z) w):=by
 unfold jJ at hg;split at hg<;>try cases hfl hg
 rename_i J1;have hsc:=pT J1;have hkk:=rF hsc hk;subst hkk;have BF:∀em,(Instr.checkKey em 10000 kt k').run P w=.ok () w:=λem=>jM 20 10000 YYZ kt k' em J1;obtain⟨u,P5⟩:=rH J1;cases hm<;>try cases hfl hg
 .refine⟨none,none,hg,trivial,?_⟩;have hfk:(Instr.findKey kt k' []).run P w=.ok none w:=fM P5 (by simp[Instr.findAsking]);simp only[Instr.lookup,Sem.run_bind,a_ hu,Result.andThen_ok,Sem.run_pure,BF,hfk]
  (try cases(zeroValue et).run P w<;>simp[Result.andThen])
 .rename_i r pl hp;simp only at hg;split at hg<;>try cases hfl hg
  rename_i es clock hb;obtain⟨es',hO,h2⟩:=hr.qj hb hp;split at hg
  .rename_i j e hf;obtain⟨r',g3,g4⟩:=dB hr hk es es'.toList 0 _ h2 hf;cases r' with
   |none=>exact g4.elim
   |some p=>
    obtain⟨j',v'⟩:=p;obtain⟨rfl,_,_,g5,_⟩:=g4;refine⟨some e.val,some v',hg,g5,?_⟩;simp[Instr.lookup,a_ hu,dg hO,BF,fM P5 g3]
  .rename_i hf;obtain⟨r',g3,g4⟩:=dB hr hk es es'.toList 0 _ h2 hf;cases r' with
   |some p=>exact g4.elim
   |none=>
    refine⟨none,none,hg,trivial,?_⟩;simp only[Instr.lookup,Sem.run_bind,a_ hu,Result.andThen_ok,Sem.run_pure,dg hO,BF,fM P5 g3]
    (try cases(zeroValue et).run P w<;>simp[Result.andThen])
  .exact absurd hg hfl
theorem BG(hfl:¬good fl){kt et:TypeId}{zero:Value}{inf:TypeInfo}(hu:P.underlying t=some (.map kt et))(hi:P.info? et=some inf)(hz:inf.zero=some zero)(hzs:qA zero=true)(ok:Bool)(hr:HR P φ h w){m m' k k':Value}{V:YYY β}(hg:good (dw fl P kt zero ok m k h V))(hm:VR φ m m')(hk:VR φ k k'):∃v v',good (V v h)/\VR φ v v'/\(Instr.lookup t m' k' ok).run P w=.ok v' w:=by
 obtain⟨r,r',g1,g2,g3⟩:=BE hfl hu ok hr hg hm hk;cases r<;>cases r'<;>(try exact g2.elim)<;>cases ok<;>simp only at g1
 .exact⟨_,zero,g1,jw hzs,by rw[g3];simp[iI hi hz]⟩
 .exact⟨_,.tuple #[zero,.bool false],g1,VR.tuple' (.cons (jw hzs) (.cons (.bool false) .nil)),by rw[g3];simp[iI hi hz]⟩
 .exact⟨_,_,g1,g2,by rw[g3];simp⟩
 .exact⟨_,.tuple #[_,.bool true],g1,VR.tuple' (.cons g2 (.cons (.bool true) .nil)),by rw[g3];simp⟩
theorem ue(hfl:¬good fl){xt asserted:TypeId}{zero:Value}{inf:TypeInfo}{d:TypeDesc}(hu:P.underlying asserted=some d)(hd:∀ms,d≠.interface ms)(hi:P.info? asserted=some inf)(hz:inf.zero=some zero)(hzs:qA zero=true)(ok:Bool){x x':Value}{V:YYY β}(hg:good (fJ fl asserted zero ok x h V))(hx:VR φ x x'):∃v v',good (V v h)/\VR φ v v'/\(Instr.typeAssert x' xt asserted ok).run P w=.ok v' w:=by
 unfold fJ at hg;split at hg<;>try cases hfl hg
 .rename_i t v;cases hx with
  |iface _ hv=>
   rename_i v';split at hg<;>try cases hfl hg
   .rename_i he;have he:=cD he;subst he;refine⟨_,.tuple #[v',.bool true],hg,VR.tuple' (.cons hv (.cons (.bool true) .nil)),?_⟩;simp only[Instr.typeAssert,Sem.run_bind,a_ hu,Result.andThen_ok];cases d<;>first|exact absurd rfl (hd _)|simp
   .rename_i he;have he:=cD he;subst he;refine⟨_,v',hg,hv,?_⟩;simp only[Instr.typeAssert,Sem.run_bind,a_ hu,Result.andThen_ok];cases d<;>first|exact absurd rfl (hd _)|simp
   .rename_i he;have he:=oJ he;refine⟨_,.tuple #[zero,.bool false],hg,VR.tuple' (.cons (jw hzs) (.cons (.bool false) .nil)),?_⟩;simp only[Instr.typeAssert,Sem.run_bind,a_ hu,Result.andThen_ok];cases d<;>first|exact absurd rfl (hd _)|simp[he,iI hi hz]
 .cases hx;split at hg<;>try cases hfl hg
  refine⟨_,.tuple #[zero,.bool false],hg,VR.tuple' (.cons (jw hzs) (.cons (.bool false) .nil)),?_⟩;simp only[Instr.typeAssert,Sem.run_bind,a_ hu,Result.andThen_ok];cases d<;>first|exact absurd rfl (hd _)|simp[iI hi hz]
theorem J3(hfl:¬good fl){op:BinOp}{k:IntKind}{a b:Int}{V:Value->β}(hg:good (oD fl op k a b V)){kb:IntKind}(hk:kb=k\/op=.shl\/op=.shr)(t:TypeId):∃v,good (V v)/\VR φ v v/\(binOp op t (.int k a) (.int kb b)).run P w=.ok v w:=by
 cases op<;>simp only[oD,iW,bZ,fm,iw,iO]at hg
 case shl=>
  split at hg<;>try cases hfl hg
  rename_i hb;have hb:¬b<0:=by simpa using hb
  exact⟨_,hg,.int _ _,by simp[binOp,Op.shift,hb]⟩
 case shr=>
  split at hg<;>try cases hfl hg
  rename_i hb;have hb:¬b<0:=by simpa using hb
  exact⟨_,hg,.int _ _,by simp[binOp,Op.shift,hb]⟩
 all_goals (have hk:kb=k:=by rcases hk with h|h|h<;>first|exact h|cases h)
 all_goals subst hk
 case quo=>
  split at hg<;>try cases hfl hg
  rename_i hb;have hb:¬b=0:=by simpa using hb
  exact⟨_,hg,.int _ _,by simp[binOp,Op.intDiv,hb]⟩
 case rem=>
  split at hg<;>try cases hfl hg
  rename_i hb;have hb:¬b=0:=by simpa using hb
  exact⟨_,hg,.int _ _,by simp[binOp,Op.intDiv,hb]⟩
 case add=>exact⟨_,hg,.int _ _,by simp[binOp,Op.intArith]⟩
 case sub=>exact⟨_,hg,.int _ _,by simp[binOp,Op.intArith];rfl⟩
 case mul=>exact⟨_,hg,.int _ _,by simp[binOp,Op.intArith]⟩
 case and=>exact⟨_,hg,.int _ _,by simp[binOp,Op.intBits]⟩
 case or=>exact⟨_,hg,.int _ _,by simp[binOp,Op.intBits]⟩
 case xor=>exact⟨_,hg,.int _ _,by simp[binOp,Op.intBits]⟩
 case andNot=>exact⟨_,hg,.int _ _,by simp[binOp,Op.intBits]⟩
 case eql=>exact⟨_,hg,.bool _,by simp[binOp,Op.intCmp];rfl⟩
 case neq=>exact⟨_,hg,.bool _,by simp[binOp,Op.intCmp];rfl⟩
 case lss=>exact⟨_,hg,.bool _,by simp[binOp,Op.intCmp]⟩
 case leq=>exact⟨_,hg,.bool _,by simp[binOp,Op.intCmp];rw[Bool.eq_iff_iff];simp⟩
 case gtr=>exact⟨_,hg,.bool _,by simp[binOp,Op.intCmp]⟩
 case geq=>exact⟨_,hg,.bool _,by simp[binOp,Op.intCmp];rw[Bool.eq_iff_iff];simp⟩
theorem zk(hr:HR P φ h w){op:BinOp}{t:TypeId}{x y:Operand}{a b a' b':Value}{r:Bool}(hop:op=.eql\/op=.neq)(hgd:P.eqGuardType P.depth t=false)(ha:VR φ a a')(hb:VR φ b b')(he:nk P h 100 t a b=some r)(hni:¬(∃k n k' m,a=.int k n/\b=.int k' m))(LR:¬(∃s s',a=.string s/\b=.string s'))(hnn:¬(a=.nilIface/\b=.nilIface)):((do eqGuard op t x y a' b';binOp op t a' b'):Sem Value).run P w=.ok (.bool (if op=.eql then r else !r)) w:=by
 have hq:=wA hr 100 10000 YYZ t a b a' b' r he ha hb;have Dn:(Op.equal t a' b').run P w=.ok r w:=hq;have hg:(eqGuard op t x y a' b').run P w=.ok () w:=by
  rcases hop with rfl|rfl<;>cases ha<;>first
   |(simp[eqGuard];done)
   |(cases hb<;>first|(simp[eqGuard,hgd];done)|exact absurd ⟨rfl,rfl⟩ hnn)
 have alj:(binOp op t a' b').run P w=.ok (.bool (if op=.eql then r else !r)) w:=by
  rcases hop with rfl|rfl<;>cases ha<;>first
   |(simp[binOp,Dn];done)
   |(cases hb<;>first|(simp[binOp,Dn];done)|exact absurd ⟨_,_,_,_,rfl,rfl⟩ hni|exact absurd ⟨_,_,rfl,rfl⟩ LR)
 simp[hg,alj]
end Go.Vai

namespace Go.Vai
open Go
variable {β:Type}{fl:β}{good:β->Prop}{P:Program}{φ:eW}{h:af}{w:World}{t:TypeId}
theorem J4(hfl:¬good fl)(hr:HR P φ h w){op:BinOp}{t:TypeId}{x y:Operand}{a b a' b':Value}{V:YYY β}(hg:good (aI fl P op t ((x matches .const _) || (y matches .const _)) (P.eqGuardType P.depth t) a b h V))(ha:VR φ a a')(hb:VR φ b b'):∃v v',good (V v h)/\VR φ v v'/\((do eqGuard op t x y a' b';binOp op t a' b'):Sem Value).run P w=.ok v' w:=by
 unfold aI at hg;split at hg
 .rename_i k n k' m;cases ha;cases hb
  have fin:∀op',good (oD fl op' k n m λv=>V v h)->(k'=k\/op'=.shl\/op'=.shr)->op'=op->
    ∃v v',good (V v h)/\VR φ v v'/\((do eqGuard op t x y (.int k n) (.int k' m);binOp op t (.int k n) (.int k' m)):Sem Value).run P w=.ok v' w:=by
   intro op' hg1 hk e;subst e;obtain⟨v,g1,g2,g3⟩:=J3 (P:=P) (w:=w) (φ:=φ) hfl hg1 hk t;refine⟨v,v,g1,g2,?_⟩;rw[eqGuard_at_int];simpa using g3
  split at hg
  .rename_i hk;rw[gX]at hk;exact fin _ hg (.inl (by simpa[eq_comm]using hk)) rfl
  .exact fin _ hg (.inr (.inl rfl)) rfl
  .exact fin _ hg (.inr (.inr rfl)) rfl
  .exact absurd hg hfl
 .rename_i s s';cases ha;cases hb;split at hg
  .split at hg<;>try cases hfl hg
   rename_i hle;have hle:=cU hle;refine⟨_,_,hg,.string _,?_⟩;have h1:¬((s.size+s'.size:Nat):Int) > IntKind.i64.max:=by
    rw[IntKind.max_i64];have:s.size+s'.size<=9223372036854775807:=hle;omega
   have h2:¬(9223372036854775807:Int)<(s.size:Int)+(s'.size:Int):=by have:s.size+s'.size<=9223372036854775807:=hle;omega
   simp[eqGuard,binOp,Op.stringOp,h2]
  .simp only[bZ,kT]at hg;refine⟨_,_,hg,.bool _,?_⟩;rw[<-Vo,beq_toListBytes];simp[eqGuard,binOp,Op.stringOp]
  .simp only[bZ,kT]at hg;refine⟨_,_,hg,.bool _,?_⟩;rw[<-Vo,beq_toListBytes];simp[eqGuard,binOp,Op.stringOp]
  .exact absurd hg hfl
 ·cases ha;cases hb;have hq:∀r,nk P h 100 t .nilIface .nilIface=some r->(Op.equal t .nilIface .nilIface).run P w=.ok r w:=
   λr he=>wA hr 100 10000 YYZ t _ _ _ _ r he .nilIface .nilIface
  split at hg<;>try cases hfl hg
  .rename_i Z9;split at hg<;>try cases hfl hg
   rename_i r he;simp only[bZ]at hg;refine⟨_,_,hg,.bool _,?_⟩;cases x<;>cases y<;>simp at Z9<;>simp[eqGuard,binOp,hq r he]
  .rename_i Z9;split at hg<;>try cases hfl hg
   rename_i r he;simp only[bZ]at hg;refine⟨_,_,hg,.bool _,?_⟩;cases x<;>cases y<;>simp at Z9<;>simp[eqGuard,binOp,hq r he]
 .exact absurd hg hfl
 .exact absurd hg hfl
 .exact absurd hg hfl
 .exact absurd hg hfl
 .have n1:∀k n k' m,a=.int k n->b=.int k' m->False:=by assumption
  have n2:∀s s',a=.string s->b=.string s'->False:=by assumption
  have n3:a=.nilIface->b=.nilIface->False:=by assumption
  split at hg<;>try cases hfl hg
  .rename_i hgd;split at hg<;>try cases hfl hg
   rename_i r he;simp only[bZ]at hg;refine⟨_,_,hg,.bool _,?_⟩;have:=zk (x:=x) (y:=y) hr (op:=.eql) (.inl rfl) hgd ha hb he (λ⟨k,n,k',m,e1,e2⟩=>n1 k n k' m e1 e2) (λ⟨s,s',e1,e2⟩=>n2 s s' e1 e2) (λ⟨e1,e2⟩=>n3 e1 e2);simpa using this
  .rename_i hgd;split at hg<;>try cases hfl hg
   rename_i r he;simp only[bZ]at hg;refine⟨_,_,hg,.bool _,?_⟩;have:=zk (x:=x) (y:=y) hr (op:=.neq) (.inr rfl) hgd ha hb he (λ⟨k,n,k',m,e1,e2⟩=>n1 k n k' m e1 e2) (λ⟨s,s',e1,e2⟩=>n2 s s' e1 e2) (λ⟨e1,e2⟩=>n3 e1 e2);simpa using this
theorem kg{s:Sem Value}{v:Value}{w':World}(hs:s.run P w=.ok v w'):((do pure (Next.value (<-s)):Sem Next)).run P w=.ok (.value v) w':=by simp[hs]
theorem yc{z:List Value}{place:Nat->Option (Nat × Nat)}(hp:oG P t=some (z,place)){parts:List (Nat × Value)}{r:Array Value}(hf:Instr.fill place z.toArray parts=some r):P.built t parts=some r/\z.all ir=true:=by
 unfold oG at hp;unfold Program.built;split at hp<;>try (cases hp;done)
 .rename_i it n e hi hu;split at hp<;>try (cases hp;done)
  rename_i zv ie hz hie;split at hp<;>try (cases hp;done)
  rename_i hb;cases hp;refine⟨?_,hb⟩;simp only[hi,hu,hz,hie];simpa using hf
 .rename_i it fs hi hu;split at hp<;>try (cases hp;done)
  rename_i zv places hz Qu;split at hp<;>try (cases hp;done)
  rename_i hb;cases hp;refine⟨?_,hb⟩;simp only[hi,hu,hz,Qu];simpa using hf
theorem yd{z:List Value}{place:Nat->Option (Nat × Nat)}(hp:oG P t=some (z,place)):z.all ir=true:=by
 unfold oG at hp;split at hp<;>try (cases hp;done)
 .split at hp<;>try (cases hp;done)
  split at hp<;>try (cases hp;done)
  rename_i hb;cases hp;exact hb
 .split at hp<;>try (cases hp;done)
  split at hp<;>try (cases hp;done)
  rename_i hb;cases hp;exact hb
theorem sx{lo hi mx:Option Operand}{f g:Operand->Value}(hv:∀y∈qB lo hi mx,VR φ (f y) (g y)){l hh m:Option Value}(hb:yA lo.isSome hi.isSome mx.isSome ((qB lo hi mx).map f)=some (l,hh,m)):LQ φ l (lo.map g)/\LQ φ hh (hi.map g)/\LQ φ m (mx.map g):=by
 cases lo<;>cases hi<;>cases mx<;>simp[qB,yA]at hb hv<;>obtain⟨rfl,rfl,rfl⟩:=hb<;>simp_all<;>trivial
set_option maxHeartbeats 1000000 in
theorem xI(hfl:¬good fl){op:Op}{i:XI β}(hc:qi fl P op=some i){tm:T Value}{ρ:Operand->Value}(hρ:∀y∈op.operands.toList,VR φ (fZ tm y) (ρ y))(hr:HR P φ h w){V:YYY β}(hg:good (i.run tm h V)){o:Oper}(ho:o.op=op):∃v v',good (V v h)/\VR φ v v'/\(execOp ρ o).run P w=.ok (.value v') w:=by
 have lift:∀{s:Sem Value},(∃v v',good (V v h)/\VR φ v v'/\s.run P w=.ok v' w)->execOp ρ o=(do pure (Next.value (<-s)))->
   ∃v v',good (V v h)/\VR φ v v'/\(execOp ρ o).run P w=.ok (.value v') w:=by
  intro s ⟨v,v',g1,g2,g3⟩ e;exact⟨v,v',g1,g2,by rw[e];exact kg g3⟩
 cases op<;>simp only[qi]at hc<;>try (cases hc;done)
 case move x=>
  cases hc;rw[XI.cF]at hg;exact⟨_,ρ x,hg,hρ x (by simp[Op.operands]),by simp[execOp,ho]⟩
 case assign x=>
  cases hc;rw[XI.cF]at hg;exact⟨_,ρ x,hg,hρ x (by simp[Op.operands]),by simp[execOp,ho]⟩
 case pick c a b=>
  cases hc;rw[XI.qH]at hg;obtain⟨v,v',g1,g2,g3⟩:=Fb (P:=P) (w:=w) hfl hg (hρ c (by simp[Op.operands])) (hρ a (by simp[Op.operands])) (hρ b (by simp[Op.operands]));exact⟨v,v',g1,g2,by simp only[execOp,ho];exact g3⟩
 case build t parts=>
  split at hc<;>try (cases hc;done)
  rename_i z place hp;split at hc<;>try (cases hc;done)
  rename_i ps hps;cases hc;rw[XI.iX]at hg;have hb:=yd hp;rw[List.map_map]at hg;obtain⟨r,r',g1,g2,g3⟩:=xG (φ:=φ) hfl tm ρ place parts.toList ps hps (λp EU=>hρ p.2 (by simp[Op.operands];exact⟨p.1,by simpa using EU⟩)) z z (jv hb) _ hg;obtain⟨g4,_⟩:=yc hp g3;refine⟨_,.agg r'.toArray,g1,VR.wo (by simpa using g2),?_⟩;have g5:=run_build (P:=P) w t (parts.map λ(i,x)=>(i,ρ x)) r'.toArray (by simpa using g4);simp only[execOp,ho];exact kg g5
 case load t a=>
  split at hc<;>try (cases hc;done)
  .rename_i hag hsz;cases hc;rw[XI.cF]at hg;exact lift (xF hfl hag hsz hg (hρ a (by simp[Op.operands])) hr) (by simp only[execOp,ho])
  .rename_i hag hsz;cases hc;rw[XI.cF]at hg;exact lift (nI hfl hag hg (hρ a (by simp[Op.operands])) hr) (by simp only[execOp,ho])
 case nilCheck x=>
  cases hc;rw[XI.cF]at hg;exact JW hfl hg (hρ x (by simp[Op.operands])) o ρ x ho rfl
 case binOp op t x y yt=>
  cases hc;rw[XI.dM]at hg;exact lift (J4 hfl hr hg (hρ x (by simp[Op.operands])) (hρ y (by simp[Op.operands]))) (by simp only[execOp,ho])
 case unOp op t x=>
  cases hc;rw[XI.cF]at hg;exact lift (NQ hfl hg (hρ x (by simp[Op.operands]))) (by simp only[execOp,ho])
 case convert src dst x=>
  split at hc<;>try (cases hc;done)
  .rename_i hs hd;cases hc;rw[XI.cF]at hg;exact lift (Fc hfl hs hd hg (hρ x (by simp[Op.operands]))) (by simp only[execOp,ho])
  .rename_i hs hd;cases hc;rw[XI.cF]at hg;split at hg<;>try cases hfl hg
   rename_i s hx;have hv:=hρ x (by simp[Op.operands]);rw[hx]at hv;generalize hy:ρ x=y at hv;cases hv;refine⟨_,.string s,hg,.string s,?_⟩;simp[execOp,ho,convert,a_ hs,a_ hd,hy]
 case makeInterface t x=>
  split at hc<;>try (cases hc;done)
  rename_i d hni hu;cases hc;rw[XI.cF]at hg;refine⟨_,.iface t (ρ x),hg,.iface t (hρ x (by simp[Op.operands])),?_⟩;have:(Instr.makeInterface t (ρ x)).run P w=.ok (.iface t (ρ x)) w:=by
   simp only[Instr.makeInterface,Sem.run_bind,a_ hu,Result.andThen_ok];cases d<;>first|exact absurd hu (hni _)|rfl
  simp only[execOp,ho];exact kg this
 case makeFunc fn first cap=>
  cases fn<;>try (cases hc;done)
  rename_i fn;cases hc;rw[XI.iX]at hg;have hv:F2 (VR φ) ((first.toList++cap.toList).map (fZ tm)) ((first.toList++cap.toList).map ρ):=F2.map _ λx hx=>hρ x (by simpa[Op.operands]using hx);refine⟨_,.func (.func fn) (first.map ρ) (cap.map ρ),hg,?_,by simp[execOp,ho,Instr.makeFunc]⟩;refine VR.func' ?_ ?_
  .have:=hv.take first.toList.length
   simpa using this
  .have:=hv.drop first.toList.length
   simpa using this
 case slice t x lo hi mx=>
  have hx:VR φ (fZ tm x) (ρ x):=hρ x (by simp[Op.operands]);have Z_:∀y∈qB lo hi mx,VR φ (fZ tm y) (ρ y):=λy hy=>hρ y (by
   cases lo<;>cases hi<;>cases mx<;>simp[qB]at hy<;>simp[Op.operands,hy])
  split at hc<;>try (cases hc;done)
  .rename_i e hu;split at hc<;>try (cases hc;done)
   rename_i s hs;cases hc;rw[XI.iX]at hg;simp only[List.map_cons]at hg;split at hg<;>try cases hfl hg
   rename_i l hh m hb;obtain⟨k1,k2,k3⟩:=sx Z_ hb;exact lift (Dl hfl hu hs hr hg hx k1 k2 k3) (by simp only[execOp,ho])
  .rename_i hu;cases hc;rw[XI.iX]at hg;simp only[List.map_cons]at hg;split at hg<;>try cases hfl hg
   rename_i l hh m hb;obtain⟨k1,k2,k3⟩:=sx Z_ hb;exact lift (Dm hfl hu hg hx k1 k2 k3) (by simp only[execOp,ho])
 case fieldAddr t x f=>
  split at hc<;>try (cases hc;done)
  rename_i fs hu;split at hc<;>try (cases hc;done)
  rename_i v_ hf;split at hc<;>try (cases hc;done)
  rename_i s hs;cases hc;rw[XI.cF]at hg;exact lift (wq hfl hu hf hs hg (hρ x (by simp[Op.operands]))) (by simp only[execOp,ho])
 case field t x f=>
  split at hc<;>try (cases hc;done)
  rename_i fs hu;split at hc<;>try (cases hc;done)
  rename_i v_ hf;split at hc<;>try (cases hc;done)
  rename_i b s hb hs;cases hc;rw[XI.cF]at hg;exact lift (Di hfl hu hf hb hs hg (hρ x (by simp[Op.operands]))) (by simp only[execOp,ho])
 case indexAddr t x i=>
  split at hc<;>try (cases hc;done)
  .rename_i e hu;split at hc<;>try (cases hc;done)
   rename_i s hs;cases hc;rw[XI.dM]at hg;exact lift (wu hfl hu hs hg (hρ x (by simp[Op.operands])) (hρ i (by simp[Op.operands]))) (by simp only[execOp,ho])
  .rename_i len e hu;split at hc<;>try (cases hc;done)
   rename_i s hs;cases hc;rw[XI.dM]at hg;exact lift (wz hfl hu hs hg (hρ x (by simp[Op.operands])) (hρ i (by simp[Op.operands]))) (by simp only[execOp,ho])
 case index t x i=>
  split at hc<;>try (cases hc;done)
  .rename_i len e hu;split at hc<;>try (cases hc;done)
   rename_i b s hb hs;cases hc;rw[XI.dM]at hg;exact lift (Dj hfl hu hb hs hg (hρ x (by simp[Op.operands])) (hρ i (by simp[Op.operands]))) (by simp only[execOp,ho])
  .rename_i hu;cases hc;rw[XI.dM]at hg;exact lift (Dk hfl hu hg (hρ x (by simp[Op.operands])) (hρ i (by simp[Op.operands]))) (by simp only[execOp,ho])
 case lookup t x i ok=>
  split at hc<;>try (cases hc;done)
  rename_i kt et hu;split at hc<;>try (cases hc;done)
  rename_i z hz;split at hc<;>try (cases hc;done)
  rename_i hzs;cases hc;rw[XI.dM]at hg;cases hi:P.info? et with
  |none=>rw[hi]at hz;simp at hz
  |some inf=>
   rw[hi]at hz;simp at hz;exact lift (BG hfl hu hi hz hzs ok hr hg (hρ x (by simp[Op.operands])) (hρ i (by simp[Op.operands]))) (by simp only[execOp,ho])
 case typeAssert x xt t ok=>
  split at hc<;>try (cases hc;done)
  rename_i d z hni hu hz;split at hc<;>try (cases hc;done)
  rename_i hzs;cases hc;rw[XI.cF]at hg;cases hi:P.info? t with
  |none=>rw[hi]at hz;simp at hz
  |some inf=>
   rw[hi]at hz;simp at hz;exact lift (ue (xt:=xt) hfl hu (λms e=>hni ms e) hi hz hzs ok hg (hρ x (by simp[Op.operands]))) (by simp only[execOp,ho])
 case extract x i=>
  cases hc;rw[XI.cF]at hg;exact lift (zj hfl hg (hρ x (by simp[Op.operands]))) (by simp only[execOp,ho])
 case call c=>
  obtain⟨callee,args,ts⟩:=c;cases callee<;>(try simp only at hc)<;>try (cases hc;done)
  rename_i b;cases b<;>(try simp only at hc)<;>try (cases hc;done)
  case len=>
   split at hc<;>try (cases hc;done)
   rename_i x t hx ht;have hargs:args=#[x]:=Array.ext' (by simpa using hx);have wB:VR φ (fZ tm x) (ρ x):=hρ x (by simp[Op.operands,Call.operands,hargs]);have hex:execOp ρ o=(do pure (Next.value (<-Builtin.len_ ts o.type #[ρ x]))):=by
    simp[execOp,ho,resolve,invoke,builtin,hargs]
   split at hc<;>try (cases hc;done)
   .rename_i hu;cases hc;rw[XI.cF]at hg;exact lift (Df hfl hg wB ht hu) hex
   .rename_i hu;cases hc;rw[XI.cF]at hg;exact lift (Dg hfl hg wB ht hu) hex
   .rename_i hu;cases hc;rw[XI.cF]at hg;exact lift (Dh hfl hg wB hr ht hu) hex
  case min=>
   split at hc<;>try (cases hc;done)
   rename_i a b hx;have hargs:args=#[a,b]:=Array.ext' (by simpa using hx);have ha:VR φ (fZ tm a) (ρ a):=hρ a (by simp[Op.operands,Call.operands,hargs]);have hb:VR φ (fZ tm b) (ρ b):=hρ b (by simp[Op.operands,Call.operands,hargs]);cases hc;rw[XI.dM]at hg;have hex:execOp ρ o=(do pure (Next.value (<-Builtin.min_ ts o.type #[ρ a,ρ b]))):=by simp[execOp,ho,resolve,invoke,builtin,hargs]
   unfold Qh at hg;split at hg<;>try cases hfl hg
   rename_i k x k' y e1 e2;rw[e1]at ha;rw[e2]at hb;have e3:ρ a=.int k x:=by generalize ρ a=z at ha;cases ha;rfl
   have e4:ρ b=.int k' y:=by generalize ρ b=z at hb;cases hb;rfl
   have hrun:=run_min_int2 (P:=P) (w:=w) ts o.type k k' x y;rw[e3,e4]at hex;split at hg
   .rename_i hlt;rw[iw,decide_eq_true_eq]at hlt;rw[if_pos hlt]at hrun;exact lift ⟨_,_,hg,.int _ _,hrun⟩ hex
   .rename_i hlt;rw[iw,decide_eq_false_iff_not]at hlt;rw[if_neg hlt]at hrun;exact lift ⟨_,_,hg,.int _ _,hrun⟩ hex
  case max=>
   split at hc<;>try (cases hc;done)
   rename_i a b hx;have hargs:args=#[a,b]:=Array.ext' (by simpa using hx);have ha:VR φ (fZ tm a) (ρ a):=hρ a (by simp[Op.operands,Call.operands,hargs]);have hb:VR φ (fZ tm b) (ρ b):=hρ b (by simp[Op.operands,Call.operands,hargs]);cases hc;rw[XI.dM]at hg;have hex:execOp ρ o=(do pure (Next.value (<-Builtin.max_ ts o.type #[ρ a,ρ b]))):=by simp[execOp,ho,resolve,invoke,builtin,hargs]
   unfold C_ at hg;split at hg<;>try cases hfl hg
   rename_i k x k' y e1 e2;rw[e1]at ha;rw[e2]at hb;have e3:ρ a=.int k x:=by generalize ρ a=z at ha;cases ha;rfl
   have e4:ρ b=.int k' y:=by generalize ρ b=z at hb;cases hb;rfl
   have hrun:=run_max_int2 (P:=P) (w:=w) ts o.type k k' x y;rw[e3,e4]at hex;split at hg
   .rename_i hlt;rw[iw,decide_eq_true_eq]at hlt;rw[if_pos hlt]at hrun;exact lift ⟨_,_,hg,.int _ _,hrun⟩ hex
   .rename_i hlt;rw[iw,decide_eq_false_iff_not]at hlt;rw[if_neg hlt]at hrun;exact lift ⟨_,_,hg,.int _ _,hrun⟩ hex
end Go.Vai
end
