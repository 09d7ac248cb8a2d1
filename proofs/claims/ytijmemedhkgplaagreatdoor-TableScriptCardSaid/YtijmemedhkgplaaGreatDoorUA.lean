/-
  PROVED HERE: a part of the proof (U1, U2, U3, U4, U5, U6, U7, U8).
-/
import Derived.Test.YtijmemedhkgplaaGreatDoorKF
import Derived.Test.YtijmemedhkgplaaGreatDoorV5
set_option linter.unusedVariables false
set_option linter.unusedSimpArgs false
set_option maxRecDepth 100000
namespace Go.Proofs
open Go.Vai Go.Clashes
def Cl (n:Int):Bool:=decide (0≤n) && decide (n<100)
theorem sU (n:Int) {h:Heap} {κ:Value→Heap→Prop} (hk:κ (.bool (Cl n)) h):CallW Tryz.prog 191 [.int .i64 n] h κ:=by
 refine fo (v:=.bool (Cl n)) rfl rfl (aq mixed ?_) hk
 rw[V5]
 by_cases h1:n<0
 ·simp(disch:=first|omega|simp only[Wd]<;>omega|with_unfolding_all rfl)only[Wz,bZ h1]; simp[Cl]; omega
 ·by_cases h2:n<100
  ·simp(disch:=first|omega|simp only[Wd]<;>omega|with_unfolding_all rfl)only[Wz,bL (show 0≤n by omega),bZ h2]; simp[Cl]; omega
  ·simp(disch:=first|omega|simp only[Wd]<;>omega|with_unfolding_all rfl)only[Wz,bL (show 0≤n by omega),bL (show 100≤n by omega)]; simp[Cl]; omega
theorem Gz (h:Heap) (κ:KQ) (hlo:h.lo≤h.nx) (hk:∀h',Le h h'→κ (dz (-1) (-1)) h'):CallW Tryz.prog 190 [] h κ:=by
 refine aq mixed ?_
 rw[V4]
 simp(disch:=first|omega|simp only[Wd]<;>omega|with_unfolding_all rfl)only[Wz]
 exact hk _ ((Le.refl h).new _)
def bO (t r:Int):Int:=if t = -1∧r = -1 then 0 else if Cl t=true∧r = -1 then 1 else if Cl t=true∧Cl r=true then 2 else -1
theorem OQ (t r:Int) (h:Heap) (κ:KQ) (hlo:h.lo≤h.nx) (hk:∀h',Le h h'→κ (.int .i64 (bO t r)) h'):CallW Tryz.prog 143 [dz t r] h κ:=by
 refine aq mixed ?_
 rw[VB]
 simp(disch:=first|omega|simp only[Wd]<;>omega|with_unfolding_all rfl)only[Wz,dz]
 obtain ⟨hA,az⟩:∃hA:Heap,hA=⟨h.nx+1,(h.bl.bf (h.nx) (af [.int .i64 t,.int .i64 r] 24 false)),h.lo⟩:=⟨_,rfl⟩
 have aH:Le h hA:=by subst az; exact ((Le.refl h).new _)
 have g1:hA.bl.get (h.nx)=some (af [.int .i64 t,.int .i64 r] 24 false):=by subst az; exact T.aa _ _ _
 have dF:hA.nx=h.nx+1:=by subst az; rfl
 have dG:hA.lo=h.lo:=by subst az; rfl
 rw[←az]
 clear az
 refine Gz hA _ (by omega) ?_
 intro h2 aZ
 have iU:=aZ.nx
 have iV:=aZ.lo
 have g1:=(aZ.get _ (by omega)).trans g1
 have hk:=hk h2 (aH.trans aZ)
 simp(disch:=first|omega|simp only[Wd]<;>omega|with_unfolding_all rfl)only[Wz,dz,g1,jg,sP]
 by_cases h0:t = -1∧r = -1
 ·simp(disch:=first|omega|simp only[Wd]<;>omega|with_unfolding_all rfl)only[Wz,aM h0]
  have e:bO t r=0:=by simp[bO,h0]
  rw[e] at hk; exact hk
 ·simp(disch:=first|omega|simp only[Wd]<;>omega|with_unfolding_all rfl)only[Wz,aK h0,DP,g1]
  refine sU t ?_
  cases ht:Cl t with
  | false=>
   simp(disch:=first|omega|simp only[Wd]<;>omega|with_unfolding_all rfl)only[Wz,xM,g1]
   refine sU t ?_
   rw[ht]
   have e:bO t r = -1:=by unfold bO; rw[if_neg h0,ht]; simp
   rw[e] at hk
   simp(disch:=first|omega|simp only[Wd]<;>omega|with_unfolding_all rfl)only[Wz]
   exact hk
  | true=>
   by_cases hr:r = -1
   ·simp(disch:=first|omega|simp only[Wd]<;>omega|with_unfolding_all rfl)only[Wz,aM hr,g1]
    have e:bO t r=1:=by unfold bO; rw[if_neg h0,ht,hr]; simp
    rw[e] at hk; exact hk
   ·simp(disch:=first|omega|simp only[Wd]<;>omega|with_unfolding_all rfl)only[Wz,aK hr,xM,g1]
    refine sU t ?_
    rw[ht]
    simp(disch:=first|omega|simp only[Wd]<;>omega|with_unfolding_all rfl)only[Wz,g1]
    refine sU r ?_
    cases Cg:Cl r with
    | false=>
     have e:bO t r = -1:=by unfold bO; rw[if_neg h0,ht,Cg]; simp[hr]
     rw[e] at hk
     simp(disch:=first|omega|simp only[Wd]<;>omega|with_unfolding_all rfl)only[Wz]
     exact hk
    | true=>
     have e:bO t r=2:=by unfold bO; rw[if_neg h0,ht,Cg]; simp[hr]
     rw[e] at hk
     simp(disch:=first|omega|simp only[Wd]<;>omega|with_unfolding_all rfl)only[Wz]
     exact hk
theorem Jl (t r:Int) {h:Heap} {κ:Value→Heap→Prop} (hk:κ (.int .i64 (bO t r)) h):CallW Tryz.prog 143 [dz t r] h κ:=
 fo (v:=.int .i64 (bO t r)) rfl rfl (OQ t r uJ _ (Nat.le_refl _) fun _ _=>rfl) hk
theorem OS (t r:Int) {h:Heap} {κ:Value→Heap→Prop} (hk:κ (.int .i64 (if bO t r = -1 then 2 else 0)) h):CallW Tryz.prog 101 [dz t r] h κ:=by
 refine fo (v:=.int .i64 (if bO t r = -1 then 2 else 0)) rfl rfl (aq mixed ?_) hk
 rw[U2]
 simp(disch:=first|omega|simp only[Wd]<;>omega|with_unfolding_all rfl)only[Wz,dz]
 refine Jl t r ?_
 by_cases h:bO t r = -1
 ·simp(disch:=first|omega|simp only[Wd]<;>omega|with_unfolding_all rfl)only[Wz,aM h]; simp[h]
 ·simp(disch:=first|omega|simp only[Wd]<;>omega|with_unfolding_all rfl)only[Wz,aK h]; simp[h]
def fD (n:Nat):ByteArray:=if n<10 then ⟨#[UInt8.ofNat (48+n)]⟩ else ⟨#[UInt8.ofNat (48+n / 10),UInt8.ofNat (48+n % 10)]⟩
theorem W4:∀n,n<100→bK Tryz.prog 60 192 [.int .i64 (n:Nat)] (.string (fD n))=true:=by
 intro n hn
 have:(List.range 100).all (fun n=>bK Tryz.prog 60 192 [.int .i64 ((n:Nat):Int)] (.string (fD n)))=true:=by kernel_rfl
 exact List.all_eq_true.1 this n (List.mem_range.2 hn)
theorem GC (n:Int) (hn:Cl n=true) {h:Heap} {κ:Value→Heap→Prop} (hk:κ (.string (fD n.toNat)) h):CallW Tryz.prog 192 [.int .i64 n] h κ:=by
 have h1:0≤n∧n<100:=by simpa[Cl] using hn
 obtain ⟨k,rfl⟩:∃k:Nat,n=(k:Int):=⟨n.toNat,by omega⟩
 rw[Int.toNat_natCast] at hk
 exact r7 mixed (W4 k (by omega)) hk
def gJ (t r:Int):ByteArray:=if bO t r=0 then ⟨#[100,98]⟩ else if bO t r=1 then (⟨#[116]⟩:ByteArray)++fD t.toNat else (⟨#[116]⟩:ByteArray)++fD t.toNat++(⟨#[46,114]⟩:ByteArray)++fD r.toNat
theorem kM (n:Nat):(fD n).size≤2:=by
 unfold fD
 split<;>simp[ByteArray.size]
theorem uW {t r:Int} (h:bO t r≠-1):bO t r=0∨(bO t r=1∧Cl t=true)∨(bO t r=2∧Cl t=true∧Cl r=true):=by
 unfold bO at *
 split
 ·exact .inl rfl
 ·split
  ·rename_i h1; exact .inr (.inl ⟨rfl,h1.1⟩)
  ·split
   ·rename_i h1; exact .inr (.inr ⟨rfl,h1⟩)
   ·rename_i h1 h2 h3; rw[if_neg h1,if_neg h2,if_neg h3] at h; exact absurd rfl h
theorem W5 (t r:Int) (hl:bO t r≠-1) {h:Heap} {κ:Value→Heap→Prop} (hk:κ (.string (gJ t r)) h):CallW Tryz.prog 145 [dz t r] h κ:=by
 refine fo (v:=.string (gJ t r)) rfl rfl (aq mixed ?_) hk
 rw[VD]
 simp(disch:=first|omega|simp only[Wd]<;>omega|with_unfolding_all rfl)only[Wz,dz]
 refine Jl t r ?_
 have st:=kM t.toNat
 have sr:=kM r.toNat
 rcases uW hl with e | ⟨e,ht⟩ | ⟨e,ht,hr⟩
 ·rw[e]; simp(disch:=first|omega|simp only[Wd]<;>omega|with_unfolding_all rfl)only[Wz]; simp[gJ,e]
 ·rw[e]
  simp(disch:=first|omega|simp only[Wd]<;>omega|with_unfolding_all rfl)only[Wz,xN]
  refine GC t ht ?_
  rw[mz _ _ _ _ _ _ _ _ (by show 1+_≤_; omega)]
  simp[gJ,e]
 ·rw[e]
  simp(disch:=first|omega|simp only[Wd]<;>omega|with_unfolding_all rfl)only[Wz,xN,DR]
  have e1:∀(β:Type) (fl:β) (cn gd:Bool) (h:Heap) (κ:Value→Heap→β),av fl Tryz.prog .add 9 cn gd (.string ⟨#[116]⟩) (.string (fD t.toNat)) h κ=κ (.string ((⟨#[116]⟩:ByteArray)++fD t.toNat)) h:=fun β fl cn gd h κ=>mz _ _ _ _ _ _ _ _ (by show 1+_≤_; omega)
  have e2:∀(β:Type) (fl:β) (cn gd:Bool) (h:Heap) (κ:Value→Heap→β),av fl Tryz.prog .add 9 cn gd (.string ((⟨#[116]⟩:ByteArray)++fD t.toNat)) (.string ⟨#[46,114]⟩) h κ=κ (.string ((⟨#[116]⟩:ByteArray)++fD t.toNat++(⟨#[46,114]⟩:ByteArray))) h:=fun β fl cn gd h κ=>mz _ _ _ _ _ _ _ _ (by rw[ByteArray.size_append]; show 1+_+2≤_; omega)
  have e3:∀(β:Type) (fl:β) (cn gd:Bool) (h:Heap) (κ:Value→Heap→β),av fl Tryz.prog .add 9 cn gd (.string ((⟨#[116]⟩:ByteArray)++fD t.toNat++(⟨#[46,114]⟩:ByteArray))) (.string (fD r.toNat)) h κ=κ (.string ((⟨#[116]⟩:ByteArray)++fD t.toNat++(⟨#[46,114]⟩:ByteArray)++fD r.toNat)) h:=fun β fl cn gd h κ=>mz _ _ _ _ _ _ _ _ (by rw[ByteArray.size_append,ByteArray.size_append]; show 1+_+2+_≤_; omega)
  refine GC t ht ?_
  simp(disch:=first|omega|simp only[Wd]<;>omega|with_unfolding_all rfl)only[Wz,e1,e2]
  refine GC r hr ?_
  simp(disch:=first|omega|simp only[Wd]<;>omega|with_unfolding_all rfl)only[Wz,e1,e2,e3,Jk]
  simp[gJ,e]
def yH (a:Int) (b:UInt8):Int:=IntKind.u32.wrap (IntKind.u32.wrap ((BitVec.ofInt IntKind.u32.bits a ^^^ BitVec.ofInt IntKind.u32.bits (IntKind.u32.wrap (Int.ofNat b.toNat))).toNat)*16777619)
def sV (s:ByteArray):Int:=s.data.toList.foldl yH 2166136261
theorem EW (a:Int) (b:UInt8):0≤yH a b∧yH a b<4294967296:=B4 _
theorem rH (s:ByteArray):0≤sV s∧sV s<4294967296:=by
 unfold sV
 have:∀(l:List UInt8) (a:Int),(0≤a∧a<4294967296)→0≤l.foldl yH a∧l.foldl yH a<4294967296:=by
  intro l
  induction l with
  | nil=>exact fun a h=>h
  | cons b l ih=>exact fun a _=>ih _ (EW a b)
 exact this _ _ (by decide)
theorem abY (s:ByteArray) (hs:s.data.toList.length≤1000) {h:Heap} {κ:Value→Heap→Prop} (hk:κ (.int .u32 (sV s)) h):CallW Tryz.prog 144 [.string s] h κ:=by
 refine fo (v:=.int .u32 (sV s)) rfl rfl (aq mixed ?_) hk
 rw[VC]
 rw[EV _ _ _ _ (by omega)]
 simp(disch:=first|omega|simp only[Wd]<;>omega|with_unfolding_all rfl)only[Wz]
 refine ⟨fun n l h1=>∃i:Nat,slot l 12=.int .i64 (i:Int)∧slot l 10=.int .u32 ((s.data.toList.take i).foldl yH 2166136261)∧i≤s.data.toList.length∧n=s.data.toList.length-i∧HQ ⟨uJ.nx+1,uJ.bl.bf uJ.nx (YH (yG s) 5),uJ.lo⟩ h1,⟨_,0,rfl,rfl,Nat.zero_le _,rfl,rfl⟩,?_⟩
 rintro n l h1 ⟨i,s1,s2,hi,rfl,hq⟩
 cases (show _=h1 from hq)
 by_cases hlt:i<s.data.toList.length
 ·have hg:=Gy hlt
  simp(disch:=first|omega|simp only[Wd]<;>omega|with_unfolding_all rfl)only[Wz,s1,bZ (show (i:Int)<(s.data.toList.length:Int) by omega),DQ,bA,Nat.mul_one,hg,s2,sS,Ao,Ap]
  refine ⟨_,by omega,i+1,rfl,?_,by omega,rfl,rfl⟩
  rw[List.take_add_one,List.getElem?_eq_getElem hlt]
  simp only[Option.toList_some,List.foldl_append,List.foldl_cons,List.foldl_nil]
  rfl
 ·have hil:i=s.data.toList.length:=by omega
  simp(disch:=first|omega|simp only[Wd]<;>omega|with_unfolding_all rfl)only[Wz,s1,bL (show (s.data.toList.length:Int)≤(i:Int) by omega),s2]
  rw[hil,List.take_length]; rfl
theorem EX (t r:Int):(gJ t r).data.toList.length≤1000:=by
 have st:=kM t.toNat
 have sr:=kM r.toNat
 have:(gJ t r).size≤1000:=by
  unfold gJ
  split
  ·decide
  ·split
   ·rw[ByteArray.size_append]; show 1+_≤_; omega
   ·rw[ByteArray.size_append,ByteArray.size_append,ByteArray.size_append]; show 1+_+2+_≤_; omega
 exact this
theorem W6 (t r:Int) (hl:bO t r≠-1) {h:Heap} {κ:Value→Heap→Prop} (hk:κ (.int .u32 (sV (gJ t r))) h):CallW Tryz.prog 102 [dz t r] h κ:=by
 refine fo (v:=.int .u32 (sV (gJ t r))) rfl rfl (aq mixed ?_) hk
 rw[U3]
 simp(disch:=first|omega|simp only[Wd]<;>omega|with_unfolding_all rfl)only[Wz,dz]
 refine W5 t r hl ?_
 refine abY _ (EX t r) ?_
 rfl
def dY (t r s:Int):Int:=if s<1∨16<s∨bO t r = -1 then -1 else Int.tmod (sV (gJ t r)) s
theorem yI {t r s:Int} (h:dY t r s≠-1):0≤dY t r s∧dY t r s<s∧bO t r≠-1:=by
 unfold dY at *
 by_cases hc:s<1∨16<s∨bO t r = -1
 ·rw[if_pos hc] at h; exact absurd rfl h
 ·rw[if_neg hc]
  have h1:=rH (gJ t r)
  have h2:=Int.tmod_lt_of_pos (sV (gJ t r)) (show 0<s by omega)
  have h3:=Int.tmod_nonneg s h1.1
  exact ⟨h3,h2,fun e=>hc (.inr (.inr e))⟩
theorem abZ (s:Int) {h:Heap} {κ:Value→Heap→Prop} (hk:κ (.bool (decide (1≤s) && decide (s≤16))) h):CallW Tryz.prog 100 [.int .i64 s] h κ:=by
 refine fo (v:=.bool (decide (1≤s) && decide (s≤16))) rfl rfl (aq mixed ?_) hk
 rw[U0]
 by_cases h1:s<1
 ·simp(disch:=first|omega|simp only[Wd]<;>omega|with_unfolding_all rfl)only[Wz,bZ h1]; simp; omega
 ·by_cases h2:16<s
  ·simp(disch:=first|omega|simp only[Wd]<;>omega|with_unfolding_all rfl)only[Wz,bL (show 1≤s by omega),bZ h2]; simp; omega
  ·simp(disch:=first|omega|simp only[Wd]<;>omega|with_unfolding_all rfl)only[Wz,bL (show 1≤s by omega),bL (show s≤16 by omega)]; simp; omega
theorem OT (t r s:Int) {h:Heap} {κ:Value→Heap→Prop} (hk:κ (.int .i64 (dY t r s)) h):CallW Tryz.prog 47 [dz t r,.int .i64 s] h κ:=by
 refine fo (v:=.int .i64 (dY t r s)) rfl rfl (aq mixed ?_) hk
 rw[ZQ]
 simp(disch:=first|omega|simp only[Wd]<;>omega|with_unfolding_all rfl)only[Wz,dz]
 refine abZ s ?_
 by_cases h1:1≤s∧s≤16
 ·simp(disch:=first|omega|simp only[Wd]<;>omega|with_unfolding_all rfl)only[Wz,aM h1.1,aM h1.2]
  refine OS t r ?_
  by_cases hl:bO t r = -1
  ·rw[if_pos hl]
   simp(disch:=first|omega|simp only[Wd]<;>omega|with_unfolding_all rfl)only[Wz]
   simp[dY,hl]
  ·rw[if_neg hl]
   simp(disch:=first|omega|simp only[Wd]<;>omega|with_unfolding_all rfl)only[Wz]
   refine W6 t r hl ?_
   have hr:=rH (gJ t r)
   have h2:=Int.tmod_lt_of_pos (sV (gJ t r)) (show 0<s by omega)
   have h3:=Int.tmod_nonneg s hr.1
   simp(disch:=first|omega|simp only[Wd]<;>omega|with_unfolding_all rfl)only[Wz,sS,Ar,Aq]
   unfold dY
   rw[if_neg (by omega)]
 ·have e:(decide (1≤s) && decide (s≤16))=false:=by simp; omega
  rw[e]
  simp(disch:=first|omega|simp only[Wd]<;>omega|with_unfolding_all rfl)only[Wz]
  unfold dY
  rw[if_pos (by omega)]
abbrev IE:=Int × Int × Nat
def B5 (e:IE):MapEntry:={ key:=.int .i64 e.1,val:=.int .i64 e.2.1,born:=e.2.2 }
def K_ (W:List IE) (k:Int):Option Int:=(W.find? fun e=>decide (k=e.1)).map fun e=>e.2.1
theorem eqI (h:Heap) (a b:Int):lP Tryz.prog h 100 3 (.int .i64 a) (.int .i64 b)=some (decide (a=b)):=by
 have:lP Tryz.prog h 100 3 (.int .i64 a) (.int .i64 b)=some (jI a b):=by kernel_rfl
 rw[this,ff]
theorem ab0 (t:Int):kg Tryz.prog 20 3 (.int .i64 t)=true:=by kernel_rfl
theorem QC (t:Int):ow 3 (.int .i64 t) (.int .i64 t)=true:=by
 show (jb .i64 .i64 && jI t t)=true
 rw[ff,aM rfl]; rfl
theorem Tx (h:Heap) (k:Int):∀(M:List IE) (i:Nat),(jm Tryz.prog h 3 (.int .i64 k) (M.map B5) i=some none∧M.find? (fun e=>decide (k=e.1))=none)∨
  ∃(j:Nat) (e:IE),jm Tryz.prog h 3 (.int .i64 k) (M.map B5) i=some (some (i+j,B5 e))∧M[j]? = some e∧k=e.1∧M.find? (fun e=>decide (k=e.1))=some e∧∀(v:Int) (k':Int),(M.set j (e.1,v,e.2.2)).find? (fun e=>decide (k'=e.1))=if k'=k then some (e.1,v,e.2.2) else M.find? (fun e=>decide (k'=e.1)):=by
 intro M
 induction M with
 | nil=>intro i; exact .inl ⟨rfl,rfl⟩
 | cons e M ih=>
  intro i
  have hf:jm Tryz.prog h 3 (.int .i64 k) ((e::M).map B5) i=(match (some (decide (k=e.1)):Option Bool) with | some true=>some (some (i,B5 e)) | some false=>jm Tryz.prog h 3 (.int .i64 k) (M.map B5) (Nat.succ i) | none=>none):=by
   rw[←eqI h]; rfl
  rw[hf]
  by_cases h1:k=e.1
  ·rw[aM h1]
   refine .inr ⟨0,e,rfl,rfl,h1,by rw[List.find?_cons,aM h1],fun v k'=>?_⟩
   rw[List.set_cons_zero,List.find?_cons,List.find?_cons]
   by_cases h2:k'=k
   ·rw[if_pos h2,aM (h2.trans h1)]
   ·rw[if_neg h2,aK (fun e'=>h2 (e'.trans h1.symm))]
  ·rw[aK h1]
   rcases ih (Nat.succ i) with ⟨g1,g2⟩ | ⟨j,e',g1,g2,g3,g4,g5⟩
   ·exact .inl ⟨g1,by rw[List.find?_cons,aK h1]; exact g2⟩
   ·refine .inr ⟨j+1,e',by rw[show i+(j+1)=Nat.succ i+j by omega]; exact g1,g2,g3,by rw[List.find?_cons,aK h1]; exact g4,fun v k'=>?_⟩
    rw[List.set_cons_succ,List.find?_cons,List.find?_cons]
    by_cases h2:k'=e.1
    ·rw[aM h2]
     simp only
     rw[if_neg (fun e'=>h1 (e'.symm.trans h2))]
    ·rw[aK h2]
     exact g5 v k'
theorem ab1 {β:Type} {fl:β} {W:List IE} {clock:Nat} {h:Heap} {bw:Nat} (g:h.bl.get bw=some (.map (W.map B5) clock)) (k:Int) (κ:Value→Heap→β) :
  eo fl Tryz.prog 3 (.int .i64 0) true (.map (some bw)) (.int .i64 k) h κ=κ (.tuple ⟨[.int .i64 ((K_ W k).getD 0),.bool (K_ W k).isSome]⟩) h:=by
 unfold eo lT K_
 rw[ab0]
 simp only[g]
 rcases Tx h k W 0 with ⟨g1,g2⟩ | ⟨j,e',g1,g2,g3,g4,_⟩
 ·rw[g1,g2]; rfl
 ·rw[g1,g4]; rfl
theorem W7 {W:List IE} {clock:Nat} {h:Heap} {bw:Nat} (g:h.bl.get bw=some (.map (W.map B5) clock)) (hlo:h.lo≤bw) (k v:Int) (κ:KQ)
  (hk:∀W' clock',(∀j,K_ W' j=if j=k then some v else K_ W j)→κ undef ⟨h.nx,h.bl.bf bw (.map (W'.map B5) clock'),h.lo⟩) :
  dU False Tryz.prog 3 (.map (some bw)) (.int .i64 k) (.int .i64 v) h κ:=by
 unfold dU
 rw[ab0]
 simp only[g]
 rcases Tx h k W 0 with ⟨g1,g2⟩ | ⟨j,e,g1,g2,g3,g4,g5⟩
 ·rw[g1]
  simp only
  rw[rU]
  simp only[bR]
  rw[bW _ _ _ _ hlo]
  have:=hk (W++[(k,v,clock)]) (clock+1) fun j=>by
   unfold K_
   rw[List.find?_append]
   by_cases hj:j=k
   ·rw[if_pos hj,hj,g2]; simp
   ·rw[if_neg hj]
    simp[List.find?_cons,hj]
  rw[List.map_append] at this
  exact this
 ·rw[g1]
  subst g3
  simp only[B5,QC]
  rw[Nat.zero_add,rV _ _ j (B5 e) _ (by rw[List.getElem?_map,g2]; rfl),bW _ _ _ _ hlo]
  have:=hk (W.set j (e.1,v,e.2.2)) clock fun i=>by
   unfold K_
   rw[g5 v i]
   split<;>rfl
  rw[List.map_set] at this
  exact this
theorem ov.keep {h h':Heap} {bb bm bp bl most clock:Nat} {M:List HE} {F:List Int} {B:List Bool} (s:bg h bb bm bp bl most M clock F B) (f:ov bm bp bl h h') {c:Nat} {vs:List Value} {ty:TypeId} {op:Bool} (hc:c<h.nx) (hg:h.bl.get c=some (af vs ty op)) (h1:ty≠132) (h2:ty≠4) (h3:ty≠3):h'.bl.get c=h.bl.get c:=by
 obtain ⟨fs,v_,hpt⟩:=s.bM.fr.cell
 have gl:=s.bM.cell
 have gm:=s.iT
 exact f.get c hc (by rintro rfl; rw[hg] at gm; exact bN gm.symm) (by rintro rfl; rw[hg] at v_; exact aL h1 v_) (by rintro rfl; rw[hg] at gl; exact aL h2 gl) fun ws=>by rw[hg]; exact aL h3
theorem ov.Jm {h h':Heap} {bb bm bp bl most clock:Nat} {M:List HE} {F:List Int} {B:List Bool} (s:bg h bb bm bp bl most M clock F B) (f:ov bm bp bl h h') {c:Nat} {es:List MapEntry} {cl:Nat} (hc:c<h.nx) (hg:h.bl.get c=some (.map es cl)) (hne:c≠bm):h'.bl.get c=h.bl.get c:=by
 obtain ⟨fs,v_,hpt⟩:=s.bM.fr.cell
 have gl:=s.bM.cell
 exact f.get c hc hne (by rintro rfl; rw[v_] at hg; exact bN hg.symm) (by rintro rfl; rw[gl] at hg; exact bN hg.symm) fun ws=>by rw[hg]; exact bN
theorem bg.aside {h h':Heap} {bb bm bb2 bm2 bp bl most Am clock OU:Nat} {M M2:List HE} {F F':List Int} {B B':List Bool} (s:bg h bb bm bp bl most M clock F B) (f:ov bm bp bl h h') (s2:bg h bb2 bm2 bp bl Am M2 OU F B) (hne:bm2≠bm) (p:ec h' bp bl F' B'):bg h' bb2 bm2 bp bl Am M2 OU F' B':=by
 have fn:=f.nx
 have fl:=f.lo
 have sb:=s2.KB
 have sm:=s2.Fg
 refine ⟨by omega,by omega,by rw[fl]; exact s2.Rb,(f.keep s sb s2.gG (by decide) (by decide) (by decide)).trans s2.gG,(f.Jm s sm s2.iT hne).trans s2.iT,s2.ok,fun e he=>?_,s2.good,p,s2.ne⟩
 have a:=s2.aG e he
 have al:=a.lt
 exact ⟨by omega,(f.keep s al a.get (by decide) (by decide) (by decide)).trans a.get,a.qv.frame fn fun c vs op hc hg=>f.keep s hc hg (by decide) (by decide) (by decide)⟩
structure TB where
 bb:Nat
 bm:Nat
 M:List HE
 clock:Nat
def mA (b:TB):List Value:=[.pointer (some ⟨b.bb,0,none⟩)]
theorem As (b:TB):(mA b).length=1:=rfl
theorem La (b:TB):(mA b).all ef=true:=rfl
structure fI where
 S:Int
 H:Int
 R:Int
 P:Int
structure dW (h:Heap) (tb bw bp bl:Nat) (c:fI) (vb:Value) (aG:Nat) (T:List TB) (W:List IE) (wc:Nat) (F:List Int) (B:List Bool):Prop where
 Ty:tb<h.nx
 lH:h.bl.get tb=some (af [.int .i64 c.S,.int .i64 c.H,.int .i64 c.R,.int .i64 c.P,.pointer (some ⟨bp,0,none⟩),vb,.map (some bw)] 88 false)
 sl:Sl mA h vb T
 ty:uK 89 h vb
 X3:bw<h.nx
 low:h.lo≤bw
 om:h.bl.get bw=some (.map (W.map B5) wc)
 bk:∀b∈T,bg h b.bb b.bm bp bl aG b.M b.clock F B
 uo:T.Pairwise fun a b=>a.bm≠b.bm
 X4:∀b∈T,bw≠b.bm
 bM:ec h bp bl F B
 cS:c.S=T.length
 s1:1≤T.length∧T.length≤16
 hd:aG≤64
theorem Sl.yJ {α:Type} {enc:α→List Value} {h h':Heap} {v:Value} {L:List α} {e:TypeId} (s:Sl enc h v L) (t:uK e h v) (hn:h.nx≤h'.nx) (hg:∀c vs op,c<h.nx→h.bl.get c=some (af vs e op)→h'.bl.get c=h.bl.get c):Sl enc h' v L∧uK e h' v:=by
 constructor
 ·obtain ⟨x,cap,rfl,h2⟩:=s
  refine ⟨x,cap,rfl,fun hne=>?_⟩
  obtain ⟨b,o,rfl,h3,h4⟩:=h2 hne
  obtain ⟨h1,vs,op,h5⟩:=t b o _ cap rfl (by intro h0; exact hne (List.eq_nil_of_length_eq_zero h0))
  refine ⟨b,o,rfl,Nat.lt_of_lt_of_le h3 hn,?_⟩
  rw[hg b vs op h1 h5]; exact h4
 ·intro b o n c hv hn0
  obtain ⟨h1,vs,op,h2⟩:=t b o n c hv hn0
  exact ⟨Nat.lt_of_lt_of_le h1 hn,vs,op,(hg b vs op h1 h2).trans h2⟩
theorem dW.le {h h':Heap} {tb bw bp bl:Nat} {c:fI} {vb:Value} {aG:Nat} {T:List TB} {W:List IE} {wc:Nat} {F:List Int} {B:List Bool} (s:dW h tb bw bp bl c vb aG T W wc F B) (l:Le h h'):dW h' tb bw bp bl c vb aG T W wc F B:=
 ⟨Nat.lt_of_lt_of_le s.Ty l.nx,(l.get _ s.Ty).trans s.lH,s.sl.le l,s.ty.le l,Nat.lt_of_lt_of_le s.X3 l.nx,by rw[l.lo]; exact s.low,(l.get _ s.X3).trans s.om,fun b hb=>(s.bk b hb).le l,s.uo,s.X4,s.bM.le l,s.cS,s.s1,s.hd⟩
theorem OV {T:List TB} {k:Nat} {b:TB} (hk:T[k]? = some b) (M':List HE) (clock':Nat):(T.set k ⟨b.bb,b.bm,M',clock'⟩).flatMap mA=T.flatMap mA:=by
 obtain ⟨hl,rfl⟩:=List.getElem?_eq_some_iff.1 hk
 rw[List.flatMap_def,List.flatMap_def,List.map_set]
 congr 1
 refine List.ext_getElem? fun i=>?_
 rw[List.getElem?_set]
 split
 ·rename_i e; subst e
  rw[if_pos (by simpa using hl),List.getElem?_map,List.getElem?_eq_getElem hl]; rfl
 ·rfl
theorem Sl.congr {α:Type} {enc:α→List Value} {h:Heap} {v:Value} {L L':List α} (s:Sl enc h v L) (hl:L'.length=L.length) (hf:L'.flatMap enc=L.flatMap enc):Sl enc h v L':=by
 obtain ⟨x,cap,rfl,h2⟩:=s
 refine ⟨x,cap,by rw[hl],fun hne=>?_⟩
 rw[hf]
 exact h2 (fun e=>hne (List.eq_nil_of_length_eq_zero (by rw[hl,e]; rfl)))
theorem dW.change {h h':Heap} {tb bw bp bl:Nat} {c:fI} {vb:Value} {aG:Nat} {T:List TB} {W:List IE} {wc:Nat} {F F':List Int} {B B':List Bool} (s:dW h tb bw bp bl c vb aG T W wc F B) {k:Nat} {b:TB} (hk:T[k]? = some b) {M':List HE} {clock':Nat} (is':bg h' b.bb b.bm bp bl aG M' clock' F' B') (f:ov b.bm bp bl h h') :
  dW h' tb bw bp bl c vb aG (T.set k ⟨b.bb,b.bm,M',clock'⟩) W wc F' B':=by
 have hb:=s.bk b (List.mem_of_getElem? hk)
 have fn:=f.nx
 have fl:=f.lo
 have h1:=s.Ty
 have h2:=s.X3
 have k1:=Sl.yJ s.sl s.ty fn fun c vs op hc hg=>f.keep hb hc hg (by decide) (by decide) (by decide)
 have ab3:=s.X4 b (List.mem_of_getElem? hk)
 have g_:∀x∈T.set k ⟨b.bb,b.bm,M',clock'⟩,(x=⟨b.bb,b.bm,M',clock'⟩)∨(x∈T∧x.bm≠b.bm):=by
  intro x hx
  obtain ⟨i,hi⟩:=List.getElem?_of_mem hx
  rw[List.getElem?_set] at hi
  split at hi
  ·split at hi
   ·exact .inl (Option.some.inj hi).symm
   ·cases hi
  ·rename_i hne
   refine .inr ⟨List.mem_of_getElem? hi,?_⟩
   rcases Nat.lt_trichotomy i k with h3 | h3 | h3
   ·exact cr.1 s.uo i k x b h3 hi hk
   ·exact absurd h3.symm hne
   ·exact fun e=>cr.1 s.uo k i b x h3 hk hi e.symm
 refine ⟨by omega,(f.keep hb h1 s.lH (by decide) (by decide) (by decide)).trans s.lH,Sl.congr k1.1 (List.length_set ..) (OV hk _ _),k1.2,by omega,by rw[fl]; exact s.low,(f.Jm hb h2 s.om ab3).trans s.om,?_,?_,?_,is'.bM,by rw[List.length_set]; exact s.cS,by rw[List.length_set]; exact s.s1,s.hd⟩
 ·intro x hx
  rcases g_ x hx with rfl | ⟨hx,hne⟩
  ·exact is'
  ·exact hb.aside f (s.bk x hx) hne is'.bM
 ·refine ry s.uo (fun j q hj hq=>cr.1 s.uo j k q b hj hq hk) (fun j q hj hq=>cr.1 s.uo k j b q hj hk hq)
 ·intro x hx
  rcases g_ x hx with rfl | ⟨hx,_⟩
  ·exact ab3
  ·exact s.X4 x hx
theorem nY {α β:Type} (f:α→List β) {T:List α} {k:Nat} {b:α} (hk:T[k]? = some b):∃X,∀b',((T.set k b').flatMap f).Perm (f b'++X):=by
 obtain ⟨hl,_⟩:=List.getElem?_eq_some_iff.1 hk
 refine ⟨(T.take k).flatMap f++(T.drop (k+1)).flatMap f,fun b'=>?_⟩
 rw[List.set_eq_take_append_cons_drop,if_pos hl,List.flatMap_append,List.flatMap_cons]
 exact List.perm_append_comm_assoc _ _ _
theorem sX {α:Type} {T:List α} {k:Nat} {b:α} (hk:T[k]? = some b):T.set k b=T:=by
 refine List.ext_getElem? fun i=>?_
 rw[List.getElem?_set]
 split
 ·rename_i e; subst e; rw[hk,if_pos (List.getElem?_eq_some_iff.1 hk).1]
 ·rfl
section
variable {h h':Heap} {bb bm bp bl most:Nat} {M M':List HE} {clock clock':Nat} {F F':List Int} {B B':List Bool}
theorem lF.ids (s:bg h bb bm bp bl most M clock F B) {t r x m:Int} {n:Nat} {g:Bool} (a:lF h h' bb bm bp bl most M M' clock' F F' B t r x m n g):(eT M').Perm (eT M++[(n:Int)]):=by
 obtain ⟨Q,w,hold,vq,vq',_,g_⟩:=a.set
 have lZ:(eT M).Perm (eT (M.filter fun x=>!uc t r x)++Q.map (·.id)):=by
  rcases hold with ⟨e,he,rfl,rfl,rfl,rfl⟩ | ⟨hn,hl,rfl,rfl⟩
  ·have:=qq (nu s.ok he)
   rw[mu,sH] at this
   exact this
  ·rw[ue hn]; simp
 refine g_.ids.trans ?_
 rw[yp vq',List.map_append,List.map_cons,List.map_nil,Rf,←List.append_assoc]
 exact (lZ.symm).append_right _
theorem lF.len (s:bg h bb bm bp bl most M clock F B) (hl:M.length≤most) {t r x m:Int} {n:Nat} {g:Bool} (a:lF h h' bb bm bp bl most M M' clock' F F' B t r x m n g):M'.length≤most:=by
 obtain ⟨Q,w,hold,vq,vq',_,g_⟩:=a.set
 have:=g_.len
 rcases hold with ⟨e,he,rfl,rfl,rfl,rfl⟩ | ⟨hn,hl,rfl,rfl⟩
 ·have:=Jc s.ok he; omega
 ·rw[ue hn] at this; omega
theorem lF.wb {N:Nat} (hw:∀e∈M,e.w≤N) {t r x m:Int} {n:Nat} {g:Bool} (a:lF h h' bb bm bp bl most M M' clock' F F' B t r x m n g):∀e∈M',e.w≤(N+1:Nat):=by
 obtain ⟨Q,w,hold,vq,vq',_,g_⟩:=a.set
 refine g_.wb hw ?_
 have:=WU Q w n x m
 rcases hold with ⟨e,he,_,_,_,rfl⟩ | ⟨_,_,_,rfl⟩
 ·have:=hw e he; omega
 ·omega
theorem lF.sub {t r x m:Int} {n:Nat} {g:Bool} (a:lF h h' bb bm bp bl most M M' clock' F F' B t r x m n g):∀y∈M',(∃e∈M,e.t=y.t∧e.r=y.r)∨(y.t=t∧y.r=r):=by
 obtain ⟨Q,w,_,_,_,_,g_⟩:=a.set
 intro y hy
 rcases g_.sub y hy with h | ⟨h1,h2,_⟩
 ·exact .inl ⟨y,h,rfl,rfl⟩
 ·exact .inr ⟨h1,h2⟩
variable {e:HE} {Q1:List R5} {w1:Int}
theorem iF.OW (s:bg h bb bm bp bl most M clock F B) (he:e∈M) (m:iF h h' bb bm bp bl most M M' clock' F' B' e Q1 w1) (hid:Q1.map (·.id)=e.Q.map (·.id)):(eT M').Perm (eT M):=by
 refine m.set.ids.trans ?_
 rw[yp m.vq,hid]
 have:=qq (nu s.ok he)
 rw[mu,sH] at this
 exact this.symm
theorem iF.OX (s:bg h bb bm bp bl most M clock F B) (he:e∈M) {p:R5} {n:Nat} (hf:bq e.Q (n:Int)=some p) (m:iF h h' bb bm bp bl most M M' clock' F' B' e (e.Q.filter fun r=>!aV (n:Int) r) w1):(eT M).Perm (eT M'++[(n:Int)]):=by
 have h1:=qq (nu s.ok he)
 rw[mu,sH] at h1
 have h2:=h1.trans (List.Perm.append_left (eT (M.filter fun x=>!uc e.t e.r x)) (Gp (s.good e he).vq hf))
 rw[←List.append_assoc] at h2
 have h3:=m.set.ids
 rw[yp m.vq] at h3
 exact h2.trans (h3.symm.append_right _)
theorem iF.len (s:bg h bb bm bp bl most M clock F B) (hl:M.length≤most) (he:e∈M) (m:iF h h' bb bm bp bl most M M' clock' F' B' e Q1 w1):M'.length≤most:=by
 have:=m.set.len
 have:=Jc s.ok he
 omega
theorem iF.sub (he:e∈M) (m:iF h h' bb bm bp bl most M M' clock' F' B' e Q1 w1):∀y∈M',∃e∈M,e.t=y.t∧e.r=y.r:=by
 intro y hy
 rcases m.set.sub y hy with h | ⟨h1,h2,_⟩
 ·exact ⟨y,h,rfl,rfl⟩
 ·exact ⟨e,he,h1.symm,h2.symm⟩
end
structure iW (h:Heap) (tb bw bp bl:Nat) (c:fI) (vb:Value) (aG N:Nat) (T:List TB) (W:List IE) (wc:Nat) (F:List Int) (B:List Bool):Prop where
 is:dW h tb bw bp bl c vb aG T W wc F B
 ids:(T.flatMap fun b=>eT b.M).Perm (eW B)
 wh:∀(k:Nat) (b:TB),T[k]? = some b→∀e∈b.M,∀p∈e.Q,K_ W p.id=some (k:Int)
 nm:∀(k:Nat) (b:TB),T[k]? = some b→∀e∈b.M,dY e.t e.r c.S=(k:Int)
 wb:∀b∈T,∀e∈b.M,e.w≤N
 len:∀b∈T,b.M.length≤aG
 cR:(B.length:Int)=c.R
 cH:(aG:Int)=c.H
section
variable {h h':Heap} {tb bw bp bl:Nat} {c:fI} {vb:Value} {aG N:Nat} {T:List TB} {W:List IE} {wc:Nat} {F F':List Int} {B B':List Bool}
theorem iW.Au (s:iW h tb bw bp bl c vb aG N T W wc F B) {k:Nat} {b:TB} (hk:T[k]? = some b):qP b.M B:=by
 obtain ⟨X,hX⟩:=nY (fun b:TB=>eT b.M) hk
 have:=hX b
 rw[sX hk] at this
 exact ⟨X,this.symm.trans s.ids⟩
theorem iW.le (s:iW h tb bw bp bl c vb aG N T W wc F B) (l:Le h h'):iW h' tb bw bp bl c vb aG N T W wc F B:=⟨s.is.le l,s.ids,s.wh,s.nm,s.wb,s.len,s.cR,s.cH⟩
theorem iW.up {N':Nat} (s:iW h tb bw bp bl c vb aG N T W wc F B) (hN:N≤N'):iW h tb bw bp bl c vb aG N' T W wc F B:=⟨s.is,s.ids,s.wh,s.nm,fun b hb e he=>by have:=s.wb b hb e he; omega,s.len,s.cR,s.cH⟩
theorem dR {α:Type} {T:List α} {k j:Nat} {b' x:α} (h:(T.set k b')[j]? = some x):(j=k∧x=b')∨(j≠k∧T[j]? = some x):=by
 rw[List.getElem?_set] at h
 split at h
 ·rename_i e
  split at h
  ·exact .inl ⟨e.symm,(Option.some.inj h).symm⟩
  ·cases h
 ·rename_i e; exact .inr ⟨fun e'=>e e'.symm,h⟩
theorem jX {M:List HE} {i:Int}:i∈eT M↔∃e∈M,∃p∈e.Q,p.id=i:=by
 unfold eT
 rw[List.mem_flatMap]
 constructor
 ·rintro ⟨e,he,hi⟩
  obtain ⟨p,hp,rfl⟩:=List.mem_map.1 hi
  exact ⟨e,he,p,hp,rfl⟩
 ·rintro ⟨e,he,p,hp,rfl⟩
  exact ⟨e,he,List.mem_map.2 ⟨p,hp,rfl⟩⟩
theorem iW.step (s:iW h tb bw bp bl c vb aG N T W wc F B) {k:Nat} {b:TB} (hk:T[k]? = some b) {M':List HE} {clock':Nat} (is':bg h' b.bb b.bm bp bl aG M' clock' F' B') (f:ov b.bm bp bl h h')
  (lR:∀X,(eT b.M++X).Perm (eW B)→(eT M'++X).Perm (eW B')) (hsub:∀i∈eT M',i∈eT b.M) (hnm:∀y∈M',∃e∈b.M,e.t=y.t∧e.r=y.r) (hw:∀e∈M',e.w≤(N+1:Nat)) (hl:M'.length≤aG) (hB:B'.length=B.length) :
  iW h' tb bw bp bl c vb aG (N+1) (T.set k ⟨b.bb,b.bm,M',clock'⟩) W wc F' B':=by
 obtain ⟨X,hX⟩:=nY (fun b:TB=>eT b.M) hk
 have h0:=hX b
 rw[sX hk] at h0
 refine ⟨s.is.change hk is' f,(hX _).trans (lR X (h0.symm.trans s.ids)),?_,?_,?_,?_,by rw[hB]; exact s.cR,s.cH⟩
 ·intro j x hj e he p hp
  rcases dR hj with ⟨rfl,rfl⟩ | ⟨_,hj⟩
  ·obtain ⟨e0,Je,p0,Wt,hpe⟩:=jX.1 (hsub p.id (jX.2 ⟨e,he,p,hp,rfl⟩))
   rw[←hpe]; exact s.wh j b hk e0 Je p0 Wt
  ·exact s.wh j x hj e he p hp
 ·intro j x hj e he
  rcases dR hj with ⟨rfl,rfl⟩ | ⟨_,hj⟩
  ·obtain ⟨e0,Je,h1,h2⟩:=hnm e he
   rw[←h1,←h2]; exact s.nm j b hk e0 Je
  ·exact s.nm j x hj e he
 ·intro x hx e he
  obtain ⟨j,hj⟩:=List.getElem?_of_mem hx
  rcases dR hj with ⟨rfl,rfl⟩ | ⟨_,hj⟩
  ·exact hw e he
  ·have:=s.wb x (List.mem_of_getElem? hj) e he; omega
 ·intro x hx
  obtain ⟨j,hj⟩:=List.getElem?_of_mem hx
  rcases dR hj with ⟨rfl,rfl⟩ | ⟨_,hj⟩
  ·exact hl
  ·exact s.len x (List.mem_of_getElem? hj)
end
theorem Tz (h:Heap) (b o:Nat):lP Tryz.prog h 100 30 (.pointer (some ⟨b,o,none⟩)) (.pointer none)=some false:=by kernel_rfl
theorem lI {β:Type} {fl:β} (cn:Bool) (b o:Nat) (h:Heap) (κ:Value→Heap→β):av fl Tryz.prog .eql 30 cn false (.pointer (some ⟨b,o,none⟩)) (.pointer none) h κ=κ (.bool false) h:=by simp only[av,Tz,cq]
theorem ab4 (h:Heap):lP Tryz.prog h 100 89 (.pointer none) (.pointer none)=some true:=by kernel_rfl
theorem pU {β:Type} {fl:β} (cn:Bool) (h:Heap) (κ:Value→Heap→β):av fl Tryz.prog .eql 89 cn false (.pointer none) (.pointer none) h κ=κ (.bool true) h:=by simp only[av,ab4,cq]
structure uq (Ts:List TB) (bw bp bl:Nat) (h h':Heap):Prop where
 nx:h.nx≤h'.nx
 lo:h'.lo=h.lo
 get:∀c,c<h.nx→(∀b∈Ts,c≠b.bm)→c≠bw→c≠bp→c≠bl→(∀vs,h.bl.get c≠some (af vs 3 true))→h'.bl.get c=h.bl.get c
 g2:bp<h.nx→∀c,c<h.nx→(∀b∈Ts,c≠b.bm)→c≠bw→c≠bp→c≠bl→¬FB h bp c→h'.bl.get c=h.bl.get c
 mv:bp<h.nx→∀c,c<h.nx→FB h' bp c→FB h bp c
theorem uq.of_le {Ts:List TB} {bw bp bl:Nat} {h h':Heap} (l:Le h h'):uq Ts bw bp bl h h':=⟨l.nx,l.lo,fun c hc _ _ _ _ _=>l.get c hc,fun _ c hc _ _ _ _ _=>l.get c hc,fun hb c _ x=>(FB.congr (l.get bp hb)).1 x⟩
theorem uq.trans {Ts:List TB} {bw bp bl:Nat} {h h' h'':Heap} (a:uq Ts bw bp bl h h') (b:uq Ts bw bp bl h' h''):uq Ts bw bp bl h h'':=
 ⟨Nat.le_trans a.nx b.nx,b.lo.trans a.lo,fun c hc h1 h2 h3 h4 h5=>(b.get c (Nat.lt_of_lt_of_le hc a.nx) h1 h2 h3 h4 (fun vs=>by rw[a.get c hc h1 h2 h3 h4 h5]; exact h5 vs)).trans (a.get c hc h1 h2 h3 h4 h5),
  fun hb c hc h1 h2 h3 h4 h5=>(b.g2 (Nat.lt_of_lt_of_le hb a.nx) c (Nat.lt_of_lt_of_le hc a.nx) h1 h2 h3 h4 fun x=>h5 (a.mv hb c hc x)).trans (a.g2 hb c hc h1 h2 h3 h4 h5),
  fun hb c hc x=>a.mv hb c hc (b.mv (Nat.lt_of_lt_of_le hb a.nx) c (Nat.lt_of_lt_of_le hc a.nx) x)⟩
theorem uq.Lb {Ts:List TB} {b:TB} (hb:b∈Ts) {bw bp bl:Nat} {h h':Heap} (f:ov b.bm bp bl h h'):uq Ts bw bp bl h h':=⟨f.nx,f.lo,fun c hc h1 _ h3 h4 h5=>f.get c hc (h1 b hb) h3 h4 h5,fun hp c hc h1 _ h3 h4 h5=>f.g2 hp c hc (h1 b hb) h3 h4 h5,f.mv⟩
section
variable {h:Heap} {tb bw bp bl:Nat} {c:fI} {vb:Value} {aG N:Nat} {Ts:List TB} {W:List IE} {wc:Nat} {F:List Int} {B:List Bool}
theorem ur (s:dW h tb bw bp bl c vb aG Ts W wc F B) (hlo:h.lo≤h.nx) (t r:Int) (κ:KQ) (hk:∀h',Le h h'→κ (.int .i64 (dY t r c.S)) h') :
  CallW Tryz.prog 12 [.pointer (some ⟨tb,0,none⟩),dz t r] h κ:=by
 refine aq mixed ?_
 rw[Ze]
 simp(disch:=first|omega|simp only[Wd]<;>omega|with_unfolding_all rfl)only[Wz,dz]
 obtain ⟨hA,az⟩:∃hA:Heap,hA=⟨h.nx+1,(h.bl.bf (h.nx) (af [.int .i64 t,.int .i64 r] 24 false)),h.lo⟩:=⟨_,rfl⟩
 have aH:Le h hA:=by subst az; exact ((Le.refl h).new _)
 have g1:hA.bl.get (h.nx)=some (af [.int .i64 t,.int .i64 r] 24 false):=by subst az; exact T.aa _ _ _
 have dF:hA.nx=h.nx+1:=by subst az; rfl
 have dG:hA.lo=h.lo:=by subst az; rfl
 rw[←az]
 clear az
 have sA:=s.le aH
 have gt:=sA.lH
 simp(disch:=first|omega|simp only[Wd]<;>omega|with_unfolding_all rfl)only[Wz,lI,HV,g1,aU,gt]
 refine OT t r c.S ?_
 exact hk hA aH
theorem OY {h:Heap} {v:Value} {Ts:List TB} (hs:Sl mA h v Ts) (i:Nat) {b:TB} (hp:Ts[i]? = some b) :
  ∃c o,c<h.nx∧(∀(β:Type) (fl:β) (h':Heap) (κ:Value→Heap→β),an fl 1 v (.int .i64 (i:Int)) h' κ=κ (.pointer (some ⟨c,o,none⟩)) h')∧
   ∀h',Le h h'→(∀(β:Type) (fl:β) (κ:Value→β),qM fl (h'.bl.get c) o κ=κ (.pointer (some ⟨b.bb,0,none⟩))):=by
 obtain ⟨c,o,h1,h2,h3,hh⟩:=hs.ld As i hp
 refine ⟨c,o,h1,h2,fun h' l β fl κ=>?_⟩
 rw[l.get c h1]
 exact dD (fl:=fl) hh 0 κ (by show 0<1; omega)
theorem wj (tb:Nat) (h:Heap) (κ:KQ) (hk:κ (.int .i64 5) h):CallW Tryz.prog 60 [.pointer (some ⟨tb,0,none⟩)] h κ:=by
 refine aq mixed ?_
 rw[Z0]
 simp(disch:=first|omega|simp only[Wd]<;>omega|with_unfolding_all rfl)only[Wz,lI]
 exact hk
theorem EY (s:iW h tb bw bp bl c vb aG N Ts W wc F B) (hlo:h.lo≤h.nx) (id:Int) (κ:KQ)
  (dK:(∀b∈Ts,∀e∈b.M,bq e.Q id=none)→κ (.pointer none) h)
  (fF:∀(k:Nat) b e p,Ts[k]? = some b→e∈b.M→bq e.Q id=some p→κ (.pointer (some ⟨b.bb,0,none⟩)) h) :
  CallW Tryz.prog 59 [.pointer (some ⟨tb,0,none⟩),.int .i64 id] h κ:=by
 refine aq mixed ?_
 rw[ZZ]
 have gt:=s.is.lH
 simp(disch:=first|omega|simp only[Wd]<;>omega|with_unfolding_all rfl)only[Wz,lI,IC,aU,gt,ab1 s.is.om]
 have agN:∀(k:Nat) b e p,Ts[k]? = some b→e∈b.M→bq e.Q id=some p→K_ W id=some (k:Int)∧∃n:Nat,id=(n:Int)∧B[n]? = some true:=by
  intro k b e p hb he hf
  obtain ⟨hp,hpi⟩:=c9 hf
  refine ⟨by rw[←hpi]; exact s.wh k b hb e he p hp,jU.1 (s.ids.mem_iff.1 (List.mem_flatMap.2 ⟨b,List.mem_of_getElem? hb,jX.2 ⟨e,he,p,hp,hpi⟩⟩))⟩
 have none:K_ W id=none∨¬(∃n:Nat,id=(n:Int)∧B[n]? = some true)→∀b∈Ts,∀e∈b.M,bq e.Q id=none:=by
  intro hc b hb e he
  obtain ⟨k,hk⟩:=List.getElem?_of_mem hb
  cases hf:bq e.Q id with
  | none=>rfl
  | some p=>
   obtain ⟨h1,h2⟩:=agN k b e p hk he hf
   rcases hc with hc | hc
   ·rw[h1] at hc; cases hc
   ·exact absurd h2 hc
 cases hl:K_ W id with
 | none=>
  simp(disch:=first|omega|simp only[Wd]<;>omega|with_unfolding_all rfl)only[Wz,Option.isSome_none,Option.getD_none]
  exact dK (none (.inl hl))
 | some v=>
  simp(disch:=first|omega|simp only[Wd]<;>omega|with_unfolding_all rfl)only[Wz,Option.isSome_some,Option.getD_some,aU,gt]
  refine Tj bp bl F B id h _ s.is.bM ?_
  by_cases hb:∃n:Nat,id=(n:Int)∧B[n]? = some true
  ·obtain ⟨n,rfl,hn⟩:=hb
   have eh:(decide ((0:Int)≤(n:Int)) && (B[((n:Int)).toNat]?).getD false)=true:=by
    rw[aM (by omega),Int.toNat_natCast,hn]; rfl
   rw[eh]
   obtain ⟨b,X5,hbi⟩:=List.mem_flatMap.1 (s.ids.mem_iff.2 (jU.2 ⟨n,rfl,hn⟩))
   obtain ⟨e,he,p,hp,hpi⟩:=jX.1 hbi
   obtain ⟨k,hk⟩:=List.getElem?_of_mem X5
   have hv:v=(k:Int):=by
    have:=s.wh k b hk e he p hp
    rw[hpi,hl] at this
    exact Option.some.inj this
   subst hv
   have hf:=JY ((s.is.bk b X5).good e he).vq.pair hp
   rw[hpi] at hf
   obtain ⟨cc,oo,_,Fh,dg⟩:=OY s.is.sl k hk
   have dg:=dg h (Le.refl _)
   simp(disch:=first|omega|simp only[Wd]<;>omega|with_unfolding_all rfl)only[Wz,aU,gt,Fh,dg]
   exact fF k b e p hk he hf
  ·have eh:(decide ((0:Int)≤id) && (B[id.toNat]?).getD false)=false:=by
    by_cases h0:0≤id
    ·have hne:B[id.toNat]?≠some true:=fun e=>hb ⟨id.toNat,by omega,e⟩
     rw[aM h0,Bool.true_and]
     cases hB:B[id.toNat]? with
     | none=>rfl
     | some x=>cases x with
      | false=>rfl
      | true=>exact absurd hB hne
    ·rw[aK h0]; rfl
   rw[eh]
   simp(disch:=first|omega|simp only[Wd]<;>omega|with_unfolding_all rfl)only[Wz]
   exact dK (none (.inr hb))
end
theorem ec.frame {h h':Heap} {bp bl:Nat} {F:List Int} {B:List Bool} (p:ec h bp bl F B) (hn:h.nx≤h'.nx) (hl:h'.lo=h.lo) (hc:∀c vs ty op,c<h.nx→h.bl.get c=some (af vs ty op)→h'.bl.get c=h.bl.get c):ec h' bp bl F B:=by
 have pl:=p.lt
 have fl:=p.fr.lt
 obtain ⟨fs,hg,hpt⟩:=p.fr.cell
 refine ⟨⟨by omega,by rw[hl]; exact p.fr.lo,fs,(hc _ _ _ _ fl hg).trans hg,?_⟩,by omega,by rw[hl]; exact p.lo,(hc _ _ _ _ pl p.cell).trans p.cell,p.ok,p.small⟩
 rcases hpt with e | ⟨b,G,e,k1,k2,k3,k4⟩
 ·exact .inl e
 ·exact .inr ⟨b,G,e,by omega,by omega,(hc _ _ _ _ k1 k3).trans k3,k4⟩
theorem bg.frame {h h':Heap} {bb bm bp bl most clock:Nat} {M:List HE} {F:List Int} {B:List Bool} (s:bg h bb bm bp bl most M clock F B) (hn:h.nx≤h'.nx) (hl:h'.lo=h.lo) (hc:∀c vs ty op,c<h.nx→h.bl.get c=some (af vs ty op)→h'.bl.get c=h.bl.get c) (hm:h'.bl.get bm=h.bl.get bm):bg h' bb bm bp bl most M clock F B:=by
 have sb:=s.KB
 have sm:=s.Fg
 refine ⟨by omega,by omega,by rw[hl]; exact s.Rb,(hc _ _ _ _ sb s.gG).trans s.gG,hm.trans s.iT,s.ok,fun e he=>?_,s.good,s.bM.frame hn hl hc,s.ne⟩
 have a:=s.aG e he
 have al:=a.lt
 exact ⟨by omega,(hc _ _ _ _ al a.get).trans a.get,a.qv.frame hn fun c vs op h1 hg=>hc c vs _ op h1 hg⟩
section
variable {h:Heap} {tb bw bp bl:Nat} {c:fI} {vb:Value} {aG N:Nat} {Ts:List TB} {W:List IE} {wc:Nat} {F:List Int} {B:List Bool}
theorem dW.W8 (s:dW h tb bw bp bl c vb aG Ts W wc F B) (W':List IE) (uu:Nat):dW ⟨h.nx,h.bl.bf bw (.map (W'.map B5) uu),h.lo⟩ tb bw bp bl c vb aG Ts W' uu F B:=by
 have gw:=s.om
 have hc:∀c vs ty op,c<h.nx→h.bl.get c=some (af vs ty op)→(h.bl.bf bw (.map (W'.map B5) uu)).get c=h.bl.get c:=by
  intro c vs ty op _ hg
  refine T.aj _ _ ?_
  rintro rfl
  rw[hg] at gw
  exact bN gw.symm
 have hm:∀b∈Ts,(h.bl.bf bw (.map (W'.map B5) uu)).get b.bm=h.bl.get b.bm:=fun b hb=>T.aj _ _ (s.X4 b hb)
 have k1:=Sl.yJ (h':=⟨h.nx,h.bl.bf bw (.map (W'.map B5) uu),h.lo⟩) s.sl s.ty (Nat.le_refl _) fun c vs op h1 hg=>hc c vs _ op h1 hg
 exact ⟨s.Ty,(hc _ _ _ _ s.Ty s.lH).trans s.lH,k1.1,k1.2,s.X3,s.low,T.aa _ _ _,fun b hb=>(s.bk b hb).frame (Nat.le_refl _) rfl hc (hm b hb),s.uo,s.X4,s.bM.frame (Nat.le_refl _) rfl hc,s.cS,s.s1,s.hd⟩
theorem uq.W8 {W':List IE} {uu:Nat}:uq Ts bw bp bl h ⟨h.nx,h.bl.bf bw (.map (W'.map B5) uu),h.lo⟩:=
 by
 refine ⟨Nat.le_refl _,rfl,fun c _ _ h2 _ _ _=>T.aj _ _ (fun e=>h2 e.symm),fun _ c _ _ h2 _ _ _=>T.aj _ _ (fun e=>h2 e.symm),fun _ c _ hx=>?_⟩
 by_cases e:bw=bp
 ·subst e
  obtain ⟨n,cap,ls,hx⟩:=hx
  exact absurd ((T.aa _ _ _).symm.trans hx) bN
 ·exact (FB.congr (T.aj _ _ e)).1 hx
theorem ab5 (s:dW h tb bw bp bl c vb aG Ts W wc F B) {t r:Int} (hn:¬dY t r c.S<0):∃(k:Nat) (b:TB),dY t r c.S=(k:Int)∧Ts[k]? = some b:=by
 have hr:=yI (t:=t) (r:=r) (s:=c.S) (by omega)
 have hS:=s.cS
 refine ⟨(dY t r c.S).toNat,Ts[(dY t r c.S).toNat]'(by omega),by omega,List.getElem?_eq_getElem _⟩
end
section
variable {h h':Heap} {tb bw bp bl:Nat} {c:fI} {vb:Value} {aG N:Nat} {Ts:List TB} {W:List IE} {wc:Nat} {F F':List Int} {B:List Bool}
theorem iW.OZ (s:iW h tb bw bp bl c vb aG N Ts W wc F B) {k:Nat} {b:TB} (hk:Ts[k]? = some b) {M':List HE} {clock':Nat} {e:HE} (he:e∈b.M) {Q1:List R5} {w1:Int} (m:iF h h' b.bb b.bm bp bl aG b.M M' clock' F' B e Q1 w1)
  (hid:Q1.map (·.id)=e.Q.map (·.id)) (hw:w1≤e.w+1):iW h' tb bw bp bl c vb aG (N+1) (Ts.set k ⟨b.bb,b.bm,M',clock'⟩) W wc F' B:=by
 have hb:=List.mem_of_getElem? hk
 have is:=s.is.bk b hb
 have hp:=m.OW is he hid
 have hwe:=s.wb b hb e he
 exact s.step hk m.is m.fr (fun X hX=>(hp.append_right X).trans hX) (fun i hi=>hp.mem_iff.1 hi) (m.sub he) (m.set.wb (s.wb b hb) (by omega)) (m.len is (s.len b hb) he) rfl
theorem iW.left (s:iW h tb bw bp bl c vb aG N Ts W wc F B) {k:Nat} {b:TB} (hk:Ts[k]? = some b) {M':List HE} {clock':Nat} {e:HE} (he:e∈b.M) {p:R5} {n:Nat} (hf:bq e.Q (n:Int)=some p) (oa:B[n]? = some true) (m:iF h h' b.bb b.bm bp bl aG b.M M' clock' F' (B.set n false) e (e.Q.filter fun r=>!aV (n:Int) r) e.w) :
  iW h' tb bw bp bl c vb aG (N+1) (Ts.set k ⟨b.bb,b.bm,M',clock'⟩) W wc F' (B.set n false):=by
 have hb:=List.mem_of_getElem? hk
 have is:=s.is.bk b hb
 have hp:=m.OX is he hf
 have hwe:=s.wb b hb e he
 refine s.step hk m.is m.fr (fun X hX=>?_) (fun i hi=>hp.mem_iff.2 (List.mem_append.2 (.inl hi))) (m.sub he) (m.set.wb (s.wb b hb) (by omega)) (m.len is (s.len b hb) he) (List.length_set ..)
 have h1:=(hp.append_right X).symm.trans (hX.trans (KC oa))
 rw[List.append_assoc] at h1
 have h2:=(List.Perm.append_left (eT M') (List.perm_append_comm (l₁:=X) (l₂:=[(n:Int)]))).trans h1
 rw[←List.append_assoc] at h2
 exact (List.perm_append_right_iff _).1 h2
theorem O0 (s:iW h tb bw bp bl c vb aG N Ts W wc F B) (hlo:h.lo≤h.nx) (id:Int) (κ:KQ)
  (qz:(∀b∈Ts,∀e∈b.M,bq e.Q id=none)→κ (.tuple ⟨[.slice none 0 0,.int .i64 5]⟩) h)
  (dK:∀(k:Nat) (b:TB) h' M' clock' F' v' e p (n:Nat),Ts[k]? = some b→e∈b.M→bq e.Q id=some p→id=(n:Int)→B[n]? = some true→F'.Perm (F++[(n:Int)])→
   iF h h' b.bb b.bm bp bl aG b.M M' clock' F' (B.set n false) e (e.Q.filter fun r=>!aV id r) e.w→gV h h' v' (bP (cF (e.Q.filter fun r=>!aV id r)+1) (e.Q.filter fun r=>!aV id r)).2→iW h' tb bw bp bl c vb aG (N+1) (Ts.set k ⟨b.bb,b.bm,M',clock'⟩) W wc F' (B.set n false)→κ (.tuple ⟨[v',.int .i64 0]⟩) h') :
  CallW Tryz.prog 17 [.pointer (some ⟨tb,0,none⟩),.int .i64 id] h κ:=by
 refine aq mixed ?_
 rw[Zi]
 refine EY s hlo id _ ?_ ?_
 ·intro hno
  simp(disch:=first|omega|simp only[Wd]<;>omega|with_unfolding_all rfl)only[Wz,pU]
  refine wj tb h _ ?_
  exact qz hno
 ·intro k b e p hk he hf
  have hb:=List.mem_of_getElem? hk
  simp(disch:=first|omega|simp only[Wd]<;>omega|with_unfolding_all rfl)only[Wz,fL]
  refine KE (s.is.bk b hb) hlo (s.Au hk) id _ ?_ ?_
  ·intro h1 hno _
   rw[hno e he] at hf; cases hf
  ·intro h1 M' clock' F' v' e1 p1 n tC Av hid oa hpF mv ho
   simp(disch:=first|omega|simp only[Wd]<;>omega|with_unfolding_all rfl)only[Wz]
   have mv':=mv
   have hf':=Av
   rw[hid] at hf' mv'
   exact dK k b h1 M' clock' F' v' e1 p1 n hk tC Av hid oa hpF mv ho (s.left hk tC hf' oa mv')
theorem EZ {β:Type} {fl:β} (cn:Bool) (b o:Nat) (h:Heap) (κ:Value→Heap→β):av fl Tryz.prog .neq 30 cn false (.pointer (some ⟨b,o,none⟩)) (.pointer none) h κ=κ (.bool true) h:=by simp only[av,Tz,cq,Bool.not_false]
end
theorem ec.yK {h h':Heap} {bp bl:Nat} {F:List Int} {B:List Bool} (p:ec h bp bl F B) (hn:h.nx≤h'.nx) (hl:h'.lo=h.lo) (hc:∀c vs ty op,c<h.nx→ty≠89→ty≠88→h.bl.get c=some (af vs ty op)→h'.bl.get c=h.bl.get c):ec h' bp bl F B:=by
 have pl:=p.lt
 have fl:=p.fr.lt
 obtain ⟨fs,hg,hpt⟩:=p.fr.cell
 refine ⟨⟨by omega,by rw[hl]; exact p.fr.lo,fs,(hc _ _ _ _ fl (by decide) (by decide) hg).trans hg,?_⟩,by omega,by rw[hl]; exact p.lo,(hc _ _ _ _ pl (by decide) (by decide) p.cell).trans p.cell,p.ok,p.small⟩
 rcases hpt with e | ⟨b,G,e,k1,k2,k3,k4⟩
 ·exact .inl e
 ·exact .inr ⟨b,G,e,by omega,by omega,(hc _ _ _ _ k1 (by decide) (by decide) k3).trans k3,k4⟩
theorem bg.yK {h h':Heap} {bb bm bp bl most clock:Nat} {M:List HE} {F:List Int} {B:List Bool} (s:bg h bb bm bp bl most M clock F B) (hn:h.nx≤h'.nx) (hl:h'.lo=h.lo) (hc:∀c vs ty op,c<h.nx→ty≠89→ty≠88→h.bl.get c=some (af vs ty op)→h'.bl.get c=h.bl.get c) (hm:h'.bl.get bm=h.bl.get bm):bg h' bb bm bp bl most M clock F B:=by
 have sb:=s.KB
 have sm:=s.Fg
 refine ⟨by omega,by omega,by rw[hl]; exact s.Rb,(hc _ _ _ _ sb (by decide) (by decide) s.gG).trans s.gG,hm.trans s.iT,s.ok,fun e he=>?_,s.good,s.bM.yK hn hl hc,s.ne⟩
 have a:=s.aG e he
 have al:=a.lt
 exact ⟨by omega,(hc _ _ _ _ al (by decide) (by decide) a.get).trans a.get,a.qv.frame hn fun c vs op h1 hg=>hc c vs _ op h1 (by decide) (by decide) hg⟩
theorem E0 (H:Int) (bp:Nat) (h:Heap) (κ:KQ) (hh:¬(1≤H∧H≤64)) (hk:κ (.tuple ⟨[.pointer none,.int .i64 2]⟩) h):CallW Tryz.prog 45 [.int .i64 H,.pointer (some ⟨bp,0,none⟩)] h κ:=by
 refine aq mixed ?_
 rw[Ta]
 by_cases h1:H<1
 ·simp(disch:=first|omega|simp only[Wd]<;>omega|with_unfolding_all rfl)only[Wz,aM h1]
  exact hk
 ·simp(disch:=first|omega|simp only[Wd]<;>omega|with_unfolding_all rfl)only[Wz,aK h1,bZ (show (64:Int)<H by omega)]
  exact hk
theorem Lc (R:Int) (h:Heap) (κ:KQ) (hh:128<R) (hk:κ (.tuple ⟨[.pointer none,.int .i64 2]⟩) h):CallW Tryz.prog 44 [.int .i64 R] h κ:=by
 refine aq mixed ?_
 rw[S_]
 simp(disch:=first|omega|simp only[Wd]<;>omega|with_unfolding_all rfl)only[Wz,bL (show (0:Int)≤R by omega),bZ hh]
 exact hk
theorem RF (S H R P:Int) (bp:Addr) (b:Nat) (κ:List Value→Prop):bC False [(6,1)] [.map (some b)] [.int .i64 S,.int .i64 H,.int .i64 R,.int .i64 P,.pointer (some bp),.slice none 0 0,.map none] κ=κ [.int .i64 S,.int .i64 H,.int .i64 R,.int .i64 P,.pointer (some bp),.slice none 0 0,.map (some b)]:=by kernel_rfl
theorem E1 (n:Nat):eW (List.replicate n false)=[]:=by
 rw[List.eq_nil_iff_forall_not_mem]
 intro x hx
 obtain ⟨k,_,hn⟩:=jU.1 hx
 rw[List.getElem?_replicate] at hn
 split at hn<;>simp at hn
def sY (c:fI):Value:=.agg ⟨[.int .i64 c.S,.int .i64 c.H,.int .i64 c.R,.int .i64 c.P]⟩
def ee (c:fI):Prop:=1≤c.S∧c.S≤16∧0≤c.P∧c.P≤8∧1≤c.R∧c.R≤128∧1≤c.H∧c.H≤64
theorem RG (c:fI) (h:Heap) (κ:KQ) (hlo:h.lo≤h.nx)
  (Fm:∀h' (e:Int),e=2→¬ee c→Le h h'→κ (.tuple ⟨[.pointer none,.int .i64 e]⟩) h')
  (Ck:∀h' tb bw bp bl vb aG Ts F,ee c→iW h' tb bw bp bl c vb aG 0 Ts [] 0 F (List.replicate c.R.toNat false)→(∀b∈Ts,h.nx≤b.bm)→h.nx≤bw→h.nx≤bp→h.nx≤bl→Le h h'→(∀x,FB h' bp x→h.nx≤x)→κ (.tuple ⟨[.pointer (some ⟨tb,0,none⟩),.int .i64 0]⟩) h') :
  CallW Tryz.prog 10 [sY c] h κ:=by
 refine aq mixed ?_
 rw[Zc]
 simp(disch:=first|omega|simp only[Wd]<;>omega|with_unfolding_all rfl)only[Wz,sY]
 obtain ⟨hA,az⟩:∃hA:Heap,hA=⟨h.nx+1,(h.bl.bf (h.nx) (af [.int .i64 c.S,.int .i64 c.H,.int .i64 c.R,.int .i64 c.P] 29 false)),h.lo⟩:=⟨_,rfl⟩
 have aH:Le h hA:=by subst az; exact ((Le.refl h).new _)
 have g1:hA.bl.get (h.nx)=some (af [.int .i64 c.S,.int .i64 c.H,.int .i64 c.R,.int .i64 c.P] 29 false):=by subst az; exact T.aa _ _ _
 have dF:hA.nx=h.nx+1:=by subst az; rfl
 have dG:hA.lo=h.lo:=by subst az; rfl
 rw[←az]
 clear az
 by_cases X6:c.S<1
 ·simp(disch:=first|omega|simp only[Wd]<;>omega|with_unfolding_all rfl)only[Wz,aM X6]
  exact Fm _ 2 rfl (by unfold ee; omega) aH
 by_cases hS2:16<c.S
 ·simp(disch:=first|omega|simp only[Wd]<;>omega|with_unfolding_all rfl)only[Wz,aK X6,g1,aM hS2]
  exact Fm _ 2 rfl (by unfold ee; omega) aH
 by_cases hP1:c.P<0
 ·simp(disch:=first|omega|simp only[Wd]<;>omega|with_unfolding_all rfl)only[Wz,aK X6,g1,aK hS2,aM hP1]
  exact Fm _ 2 rfl (by unfold ee; omega) aH
 by_cases hP2:8<c.P
 ·simp(disch:=first|omega|simp only[Wd]<;>omega|with_unfolding_all rfl)only[Wz,aK X6,g1,aK hS2,aK hP1,aM hP2]
  exact Fm _ 2 rfl (by unfold ee; omega) aH
 by_cases hR1:c.R<1
 ·simp(disch:=first|omega|simp only[Wd]<;>omega|with_unfolding_all rfl)only[Wz,aK X6,g1,aK hS2,aK hP1,aK hP2,aM hR1]
  exact Fm _ 2 rfl (by unfold ee; omega) aH
 simp(disch:=first|omega|simp only[Wd]<;>omega|with_unfolding_all rfl)only[Wz,aK X6,g1,aK hS2,aK hP1,aK hP2,aK hR1,HT]
 by_cases hR2:128<c.R
 ·refine Lc c.R hA _ hR2 ?_
  simp(disch:=first|omega|simp only[Wd]<;>omega|with_unfolding_all rfl)only[Wz]
  exact Fm _ 2 rfl (by unfold ee; omega) aH
 obtain ⟨R,eR⟩:∃R:Nat,c.R=(R:Int):=⟨c.R.toNat,by omega⟩
 rw[eR]
 refine Ky R hA _ (by omega) (by omega) ?_
 intro bp bl h2 F p hne h2p h2l hF zp agP
 have n2:=zp.nx
 have l2:=zp.lo
 have al0:=p.fr.lt
 have agQ:=p.lt
 have g12:=(zp.get h.nx (by omega)).trans g1
 rw[eR] at g12
 simp(disch:=first|omega|simp only[Wd]<;>omega|with_unfolding_all rfl)only[Wz,HS,g12,RF,nZ]
 obtain ⟨hB,bF⟩:∃hB:Heap,hB=⟨h2.nx+1+1,((h2.bl.bf (h2.nx) (.map [] 0)).bf (h2.nx+1) (af [.int .i64 c.S,.int .i64 c.H,.int .i64 (R:Int),.int .i64 c.P,.pointer (some ⟨bp,0,none⟩),.slice none 0 0,.map (some h2.nx)] 88 false)),h2.lo⟩:=⟨_,rfl⟩
 have bD:Le h2 hB:=by subst bF; exact (((Le.refl h2).new _).new _)
 have gw:hB.bl.get (h2.nx)=some (.map [] 0):=by subst bF; exact (T.aj _ _ (by omega)).trans (T.aa _ _ _)
 have gt:hB.bl.get (h2.nx+1)=some (af [.int .i64 c.S,.int .i64 c.H,.int .i64 (R:Int),.int .i64 c.P,.pointer (some ⟨bp,0,none⟩),.slice none 0 0,.map (some h2.nx)] 88 false):=by subst bF; exact T.aa _ _ _
 have pE:hB.nx=h2.nx+1+1:=by subst bF; rfl
 have pF:hB.lo=h2.lo:=by subst bF; rfl
 rw[←bF]
 clear bF
 have kz:=bD.nx
 have kE:=bD.lo
 have g12:=(bD.get _ (by omega)).trans g12
 by_cases hH:1≤c.H∧c.H≤64
 case neg=>
  refine ⟨fun n l h1=>slot l 26=.int .i64 0∧HQ hB h1,⟨0,rfl,rfl⟩,?_⟩
  rintro n l h1 ⟨s1,hq⟩
  cases (show hB=h1 from hq)
  simp(disch:=first|omega|simp only[Wd]<;>omega|with_unfolding_all rfl)only[Wz,s1,bZ (show (0:Int)<c.S by omega),Bg,g12]
  refine E0 c.H bp hB _ hH ?_
  simp(disch:=first|omega|simp only[Wd]<;>omega|with_unfolding_all rfl)only[Wz]
  exact Fm _ 2 rfl (by unfold ee; omega) ((aH.trans zp).trans bD)
 obtain ⟨aG,eH⟩:∃n:Nat,c.H=(n:Int):=⟨c.H.toNat,by omega⟩
 obtain ⟨S,eS⟩:∃n:Nat,c.S=(n:Int):=⟨c.S.toNat,by omega⟩
 refine ⟨fun n l h1=>∃(i:Nat) (Ts:List TB) (v:Value),slot l 26=.int .i64 (i:Int)∧n=S-i∧i≤S∧Ts.length=i∧h1.bl.get (h2.nx+1)=some (af [.int .i64 c.S,.int .i64 c.H,.int .i64 (R:Int),.int .i64 c.P,.pointer (some ⟨bp,0,none⟩),v,.map (some h2.nx)] 88 false)∧
   h1.bl.get h2.nx=some (.map [] 0)∧cU mA h2 89 h1 v Ts∧ec h1 bp bl F (List.replicate R false)∧(∀b∈Ts,bg h1 b.bb b.bm bp bl aG [] 0 F (List.replicate R false)∧b.M=[]∧b.clock=0∧hB.nx≤b.bm)∧Ts.Pairwise (fun a b=>a.bm≠b.bm)∧Le h2 h1∧hB.nx≤h1.nx,
  ⟨_,0,[],_,rfl,rfl,by omega,rfl,gt,gw,.inl ⟨rfl,.inl rfl⟩,p.le bD,fun b hb=>(nomatch hb),List.Pairwise.nil,bD,Nat.le_refl _⟩,?_⟩
 rintro n l h1 ⟨i,Ts,v,s1,rfl,hi,hTl,gt1,gw1,ho,p1,hbk,hds,bu,nB⟩
 have n1:=bu.nx
 have l1:=bu.lo
 by_cases hlt:i<S
 ·have agR:=(bu.get h.nx (by omega)).trans ((zp.get h.nx (by omega)).trans g1)
  simp(disch:=first|omega|simp only[Wd]<;>omega|with_unfolding_all rfl)only[Wz,s1,bZ (show (i:Int)<c.S by omega),Bg,agR,eH]
  refine EK aG bp h1 _ (by omega) (by omega) ?_
  intro h3 cL nx3 gm3 gb3
  have n3:=cL.nx
  have l3:=cL.lo
  have gt3:=(cL.get _ (by omega)).trans gt1
  obtain ⟨vx,vc,ev,_⟩:=(show Sl mA h1 v Ts from ho.sl)
  simp(disch:=first|omega|simp only[Wd]<;>omega|with_unfolding_all rfl)only[Wz,HO,aU,gt3]
  obtain ⟨h4,e4⟩:∃h4:Heap,h4=⟨h3.nx+1,h3.bl.bf h3.nx (af [.pointer (some ⟨h1.nx+1,0,none⟩)] 89 false),h3.lo⟩:=⟨_,rfl⟩
  have gK:Le h3 h4:=by rw[e4]; exact (Le.refl h3).new _
  have g4:h4.bl.get h3.nx=some (af ([(⟨h1.nx+1,h1.nx,[],0⟩:TB)].flatMap mA) 89 false):=by rw[e4]; exact T.aa _ _ _
  have nx4:h4.nx=h3.nx+1:=by rw[e4]
  have l4:h4.lo=h3.lo:=by rw[e4]
  try rw[←e4]
  clear e4
  have zu:=cL.trans gK
  have X7:=(gK.get _ (by omega)).trans gt3
  refine cT (enc:=mA) (a:=h2) (L:=Ts) (M:=[(⟨h1.nx+1,h1.nx,[],0⟩:TB)]) As La (by decide) (by decide) (ho.le zu) (Sl.new (by omega) g4 _) (bu.trans zu) (by simp; omega) (by omega) _ ?_
  intro v5 h5 tV iY nx5 al2 l5 og
  have gt5:=(og (h2.nx+1) (by omega) (by rw[X7]; exact aO)).trans X7
  obtain ⟨vx5,vc5,ev5,_⟩:=(show Sl mA h5 v5 _ from tV.sl)
  subst ev5
  simp(disch:=first|omega|simp only[Wd]<;>omega|with_unfolding_all rfl)only[Wz,aU,gt5]
  have Fi:∀c vs ty op,c<h4.nx→ty≠89→h4.bl.get c=some (af vs ty op)→h5.bl.get c=h4.bl.get c:=fun c vs ty op hc hty hg=>og c hc (by rw[hg]; exact aL hty)
  have fm5:∀c es cl,c<h4.nx→h4.bl.get c=some (.map es cl)→h5.bl.get c=h4.bl.get c:=fun c es cl hc hg=>og c hc (by rw[hg]; exact bN)
  obtain ⟨h6,e6⟩:∃h6:Heap,h6=⟨h5.nx,h5.bl.bf (h2.nx+1) (af [.int .i64 c.S,.int .i64 c.H,.int .i64 (R:Int),.int .i64 c.P,.pointer (some ⟨bp,0,none⟩),.slice vx5 (Ts++[(⟨h1.nx+1,h1.nx,[],0⟩:TB)]).length vc5,.map (some h2.nx)] 88 false),h5.lo⟩:=⟨_,rfl⟩
  have gt6:h6.bl.get (h2.nx+1)=some (af [.int .i64 c.S,.int .i64 c.H,.int .i64 (R:Int),.int .i64 c.P,.pointer (some ⟨bp,0,none⟩),.slice vx5 (Ts++[(⟨h1.nx+1,h1.nx,[],0⟩:TB)]).length vc5,.map (some h2.nx)] 88 false):=by rw[e6]; exact T.aa _ _ _
  have ab8:∀d,d≠h2.nx+1→h6.bl.get d=h5.bl.get d:=fun d hd=>by rw[e6]; exact T.aj _ _ (fun e=>hd e.symm)
  have tY:cU mA h2 89 h6 (.slice vx5 (Ts++[(⟨h1.nx+1,h1.nx,[],0⟩:TB)]).length vc5) (Ts++[(⟨h1.nx+1,h1.nx,[],0⟩:TB)]):=by rw[e6]; exact cU.put tV (by rw[gt5]; exact aO) _
  have oz:Le h2 h6:=by rw[e6]; exact iY.set (b:=h2.nx+1) (by omega) _
  have nx6:h6.nx=h5.nx:=by rw[e6]
  have l6:h6.lo=h5.lo:=by rw[e6]
  rw[←e6]
  clear e6
  have hc6:∀d vs ty op,d<h4.nx→ty≠89→ty≠88→h4.bl.get d=some (af vs ty op)→h6.bl.get d=h4.bl.get d:=by
   intro d vs ty op hd h1 h2' hg
   refine (ab8 d ?_).trans (Fi d vs ty op hd h1 hg)
   rintro rfl
   rw[hg] at X7
   exact aL h2' X7
  have hm6:∀d es cl,d<h4.nx→h4.bl.get d=some (.map es cl)→h6.bl.get d=h4.bl.get d:=by
   intro d es cl hd hg
   refine (ab8 d ?_).trans (fm5 d es cl hd hg)
   rintro rfl
   rw[hg] at X7
   exact bN X7
  have gw4:=(zu.get h2.nx (by omega)).trans gw1
  have p4:=p1.le zu
  have p6:=p4.yK (by omega) (by omega) hc6
  have uc:bg h4 (h1.nx+1) h1.nx bp bl aG [] 0 F (List.replicate R false):=⟨by omega,by omega,by omega,(gK.get _ (by omega)).trans gb3,(gK.get _ (by omega)).trans gm3,⟨List.Pairwise.nil,List.Pairwise.nil,fun e he=>(nomatch he)⟩,fun e he=>(nomatch he),fun e he=>(nomatch he),p4,hne⟩
  have C_:∀b∈Ts,b.bm<h1.nx:=fun b hb=>(hbk b hb).1.Fg
  simp(disch:=first|omega|simp only[Wd]<;>omega|with_unfolding_all rfl)only[Wz,s1]
  refine ⟨_,by omega,i+1,Ts++[⟨h1.nx+1,h1.nx,[],0⟩],.slice vx5 (Ts++[(⟨h1.nx+1,h1.nx,[],0⟩:TB)]).length vc5,rfl,rfl,by omega,by simp; omega,by rw[←eH]; exact gt6,(hm6 _ _ _ (by omega) gw4).trans gw4,tY,p6,?_,?_,oz,by omega⟩
  ·intro b hb
   rcases List.mem_append.1 hb with hb | hb
   ·obtain ⟨k1,k2,k3,k4⟩:=hbk b hb
    have k5:=k1.le zu
    exact ⟨k5.yK (by omega) (by omega) hc6 (hm6 _ _ _ k5.Fg k5.iT),k2,k3,k4⟩
   ·rw[List.mem_singleton] at hb; subst hb
    exact ⟨uc.yK (by omega) (by omega) hc6 (hm6 _ _ _ uc.Fg uc.iT),rfl,rfl,nB⟩
  ·exact sj hds fun q hq=>Nat.ne_of_lt (C_ q hq)
 ·have hiS:i=S:=by omega
  simp(disch:=first|omega|simp only[Wd]<;>omega|with_unfolding_all rfl)only[Wz,s1,bL (show c.S≤(i:Int) by omega)]
  have zd:∀b∈Ts,b.M=[]:=fun b hb=>(hbk b hb).2.1
  have hM:∀(k:Nat) (b:TB),Ts[k]? = some b→b.M=[]:=fun k b hb=>zd b (List.mem_of_getElem? hb)
  have lR:(Ts.flatMap fun b=>eT b.M)=[]:=by
   rw[List.flatMap_eq_nil_iff]
   intro b hb
   rw[zd b hb]; rfl
  have eRn:c.R.toNat=R:=by omega
  refine Ck h1 (h2.nx+1) h2.nx bp bl v aG Ts F (by unfold ee; omega) ⟨⟨by omega,by rw[eR]; exact gt1,ho.sl,uK.own ho,by omega,by omega,gw1,fun b hb=>?_,hds,fun b hb=>?_,by rw[eRn]; exact p1,by omega,by omega,by omega⟩,?_,?_,?_,?_,?_,?_,by omega⟩ (fun b hb=>?_) (by omega) (by omega) (by omega) ?_ ?_
  ·obtain ⟨k1,k2,k3,k4⟩:=hbk b hb
   rw[k2,k3,eRn]; exact k1
  ·have:=(hbk b hb).2.2.2; omega
  ·rw[lR,E1]
  ·intro k b hk e he; rw[hM k b hk] at he; nomatch he
  ·intro k b hk e he; rw[hM k b hk] at he; nomatch he
  ·intro b hb e he; rw[zd b hb] at he; nomatch he
  ·intro b hb; rw[zd b hb]; exact Nat.zero_le _
  ·rw[List.length_replicate]; omega
  ·have:=(hbk b hb).2.2.2; omega
  ·exact aH.trans (zp.trans bu)
  ·intro x hx
   have:=agP x ((FB.congr (bu.get bp p.fr.lt)).1 hx)
   omega
end Go.Proofs
