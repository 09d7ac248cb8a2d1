/-
  PROVED HERE: a part of the proof (U1, U2, U3, U4, U5, U6, U7, U8).
-/
import Derived.Test.YtmjghbjpdoeemaaGreatDoorKF
import Derived.Test.YtmjghbjpdoeemaaGreatDoorV5
set_option linter.unusedVariables false
set_option linter.unusedSimpArgs false
set_option maxRecDepth 100000
namespace Go.Proofs
open Go.Vai Go.Clashes
def zo (n:Int):Bool:=decide (0≤n) && decide (n<100)
theorem p7 (n:Int) {h:Heap} {κ:Value→Heap→Prop} (hk:κ (.bool (zo n)) h):CallW Tryz.prog 149 [.int .i64 n] h κ:=by
 refine fD (v:=.bool (zo n)) rfl rfl (aq mixed ?_) hk
 rw[PT]
 by_cases h1:n<0
 ·simp(disch:=first|omega|simp only[Wd]<;>omega|with_unfolding_all rfl)only[Wz,fI h1]; simp[zo]; omega
 ·by_cases h2:n<100
  ·simp(disch:=first|omega|simp only[Wd]<;>omega|with_unfolding_all rfl)only[Wz,c6 (show 0≤n by omega),fI h2]; simp[zo]; omega
  ·simp(disch:=first|omega|simp only[Wd]<;>omega|with_unfolding_all rfl)only[Wz,c6 (show 0≤n by omega),c6 (show 100≤n by omega)]; simp[zo]; omega
theorem Dp (h:Heap) (κ:KQ) (hlo:h.lo≤h.nx) (hk:∀h',Le h h'→κ (dK (-1) (-1)) h'):CallW Tryz.prog 148 [] h κ:=by
 refine aq mixed ?_
 rw[PS]
 simp(disch:=first|omega|simp only[Wd]<;>omega|with_unfolding_all rfl)only[Wz]
 exact hk _ ((Le.refl h).new _)
def bz (t r:Int):Int:=if t = -1∧r = -1 then 0 else if zo t=true∧r = -1 then 1 else if zo t=true∧zo r=true then 2 else -1
theorem JF (t r:Int) (h:Heap) (κ:KQ) (hlo:h.lo≤h.nx) (hk:∀h',Le h h'→κ (.int .i64 (bz t r)) h'):CallW Tryz.prog 112 [dK t r] h κ:=by
 refine aq mixed ?_
 rw[PE]
 simp(disch:=first|omega|simp only[Wd]<;>omega|with_unfolding_all rfl)only[Wz,dK]
 obtain ⟨hA,aJ⟩:∃hA:Heap,hA=⟨h.nx+1,(h.bl.aW (h.nx) (aa [.int .i64 t,.int .i64 r] 36 false)),h.lo⟩:=⟨_,rfl⟩
 have aU:Le h hA:=by subst aJ; exact ((Le.refl h).new _)
 have g1:hA.bl.get (h.nx)=some (aa [.int .i64 t,.int .i64 r] 36 false):=by subst aJ; exact T.af _ _ _
 have ig:hA.nx=h.nx+1:=by subst aJ; rfl
 have ij:hA.lo=h.lo:=by subst aJ; rfl
 rw[←aJ]
 clear aJ
 refine Dp hA _ (by omega) ?_
 intro h2 bF
 have xD:=bF.nx
 have xE:=bF.lo
 have g1:=(bF.get _ (by omega)).trans g1
 have hk:=hk h2 (aU.trans bF)
 simp(disch:=first|omega|simp only[Wd]<;>omega|with_unfolding_all rfl)only[Wz,dK,g1,jQ,y8]
 by_cases h0:t = -1∧r = -1
 ·simp(disch:=first|omega|simp only[Wd]<;>omega|with_unfolding_all rfl)only[Wz,aZ h0]
  have e:bz t r=0:=by simp[bz,h0]
  rw[e] at hk; exact hk
 ·simp(disch:=first|omega|simp only[Wd]<;>omega|with_unfolding_all rfl)only[Wz,aG h0,AM,g1]
  refine p7 t ?_
  cases ht:zo t with
  | false=>
   simp(disch:=first|omega|simp only[Wd]<;>omega|with_unfolding_all rfl)only[Wz,tW,g1]
   refine p7 t ?_
   rw[ht]
   have e:bz t r = -1:=by unfold bz; rw[if_neg h0,ht]; simp
   rw[e] at hk
   simp(disch:=first|omega|simp only[Wd]<;>omega|with_unfolding_all rfl)only[Wz]
   exact hk
  | true=>
   by_cases hr:r = -1
   ·simp(disch:=first|omega|simp only[Wd]<;>omega|with_unfolding_all rfl)only[Wz,aZ hr,g1]
    have e:bz t r=1:=by unfold bz; rw[if_neg h0,ht,hr]; simp
    rw[e] at hk; exact hk
   ·simp(disch:=first|omega|simp only[Wd]<;>omega|with_unfolding_all rfl)only[Wz,aG hr,tW,g1]
    refine p7 t ?_
    rw[ht]
    simp(disch:=first|omega|simp only[Wd]<;>omega|with_unfolding_all rfl)only[Wz,g1]
    refine p7 r ?_
    cases Gz:zo r with
    | false=>
     have e:bz t r = -1:=by unfold bz; rw[if_neg h0,ht,Gz]; simp[hr]
     rw[e] at hk
     simp(disch:=first|omega|simp only[Wd]<;>omega|with_unfolding_all rfl)only[Wz]
     exact hk
    | true=>
     have e:bz t r=2:=by unfold bz; rw[if_neg h0,ht,Gz]; simp[hr]
     rw[e] at hk
     simp(disch:=first|omega|simp only[Wd]<;>omega|with_unfolding_all rfl)only[Wz]
     exact hk
theorem E6 (t r:Int) {h:Heap} {κ:Value→Heap→Prop} (hk:κ (.int .i64 (bz t r)) h):CallW Tryz.prog 112 [dK t r] h κ:=
 fD (v:=.int .i64 (bz t r)) rfl rfl (JF t r ri _ (Nat.le_refl _) fun _ _=>rfl) hk
theorem BU (t r:Int) {h:Heap} {κ:Value→Heap→Prop} (hk:κ (.int .i64 (if bz t r = -1 then 2 else 0)) h):CallW Tryz.prog 72 [dK t r] h κ:=by
 refine fD (v:=.int .i64 (if bz t r = -1 then 2 else 0)) rfl rfl (aq mixed ?_) hk
 rw[Uw]
 simp(disch:=first|omega|simp only[Wd]<;>omega|with_unfolding_all rfl)only[Wz,dK]
 refine E6 t r ?_
 by_cases h:bz t r = -1
 ·simp(disch:=first|omega|simp only[Wd]<;>omega|with_unfolding_all rfl)only[Wz,aZ h]; simp[h]
 ·simp(disch:=first|omega|simp only[Wd]<;>omega|with_unfolding_all rfl)only[Wz,aG h]; simp[h]
def eo (n:Nat):ByteArray:=if n<10 then ⟨#[UInt8.ofNat (48+n)]⟩ else ⟨#[UInt8.ofNat (48+n / 10),UInt8.ofNat (48+n % 10)]⟩
theorem Rx:∀n,n<100→bI Tryz.prog 60 200 [.int .i64 (n:Nat)] (.string (eo n))=true:=by
 intro n hn
 have:(List.range 100).all (fun n=>bI Tryz.prog 60 200 [.int .i64 ((n:Nat):Int)] (.string (eo n)))=true:=by kernel_rfl
 exact List.all_eq_true.1 this n (List.mem_range.2 hn)
theorem Dq (n:Int) (hn:zo n=true) {h:Heap} {κ:Value→Heap→Prop} (hk:κ (.string (eo n.toNat)) h):CallW Tryz.prog 200 [.int .i64 n] h κ:=by
 have h1:0≤n∧n<100:=by simpa[zo] using hn
 obtain ⟨k,rfl⟩:∃k:Nat,n=(k:Int):=⟨n.toNat,by omega⟩
 rw[Int.toNat_natCast] at hk
 exact r5 mixed (Rx k (by omega)) hk
def er (t r:Int):ByteArray:=if bz t r=0 then ⟨#[100,98]⟩ else if bz t r=1 then (⟨#[116]⟩:ByteArray)++eo t.toNat else (⟨#[116]⟩:ByteArray)++eo t.toNat++(⟨#[46,114]⟩:ByteArray)++eo r.toNat
theorem jd (n:Nat):(eo n).size≤2:=by
 unfold eo
 split<;>simp[ByteArray.size]
theorem rC {t r:Int} (h:bz t r≠-1):bz t r=0∨(bz t r=1∧zo t=true)∨(bz t r=2∧zo t=true∧zo r=true):=by
 unfold bz at *
 split
 ·exact .inl rfl
 ·split
  ·rename_i h1; exact .inr (.inl ⟨rfl,h1.1⟩)
  ·split
   ·rename_i h1; exact .inr (.inr ⟨rfl,h1⟩)
   ·rename_i h1 h2 h3; rw[if_neg h1,if_neg h2,if_neg h3] at h; exact absurd rfl h
theorem Ry (t r:Int) (hl:bz t r≠-1) {h:Heap} {κ:Value→Heap→Prop} (hk:κ (.string (er t r)) h):CallW Tryz.prog 151 [dK t r] h κ:=by
 refine fD (v:=.string (er t r)) rfl rfl (aq mixed ?_) hk
 rw[PV]
 simp(disch:=first|omega|simp only[Wd]<;>omega|with_unfolding_all rfl)only[Wz,dK]
 refine E6 t r ?_
 have st:=jd t.toNat
 have sr:=jd r.toNat
 rcases rC hl with e | ⟨e,ht⟩ | ⟨e,ht,hr⟩
 ·rw[e]; simp(disch:=first|omega|simp only[Wd]<;>omega|with_unfolding_all rfl)only[Wz]; simp[er,e]
 ·rw[e]
  simp(disch:=first|omega|simp only[Wd]<;>omega|with_unfolding_all rfl)only[Wz,tX]
  refine Dq t ht ?_
  rw[jX _ _ _ _ _ _ _ _ (by show 1+_≤_; omega)]
  simp[er,e]
 ·rw[e]
  simp(disch:=first|omega|simp only[Wd]<;>omega|with_unfolding_all rfl)only[Wz,tX,AP]
  have e1:∀(β:Type) (fl:β) (cn gd:Bool) (h:Heap) (κ:Value→Heap→β),au fl Tryz.prog .add 9 cn gd (.string ⟨#[116]⟩) (.string (eo t.toNat)) h κ=κ (.string ((⟨#[116]⟩:ByteArray)++eo t.toNat)) h:=fun β fl cn gd h κ=>jX _ _ _ _ _ _ _ _ (by show 1+_≤_; omega)
  have e2:∀(β:Type) (fl:β) (cn gd:Bool) (h:Heap) (κ:Value→Heap→β),au fl Tryz.prog .add 9 cn gd (.string ((⟨#[116]⟩:ByteArray)++eo t.toNat)) (.string ⟨#[46,114]⟩) h κ=κ (.string ((⟨#[116]⟩:ByteArray)++eo t.toNat++(⟨#[46,114]⟩:ByteArray))) h:=fun β fl cn gd h κ=>jX _ _ _ _ _ _ _ _ (by rw[ByteArray.size_append]; show 1+_+2≤_; omega)
  have e3:∀(β:Type) (fl:β) (cn gd:Bool) (h:Heap) (κ:Value→Heap→β),au fl Tryz.prog .add 9 cn gd (.string ((⟨#[116]⟩:ByteArray)++eo t.toNat++(⟨#[46,114]⟩:ByteArray))) (.string (eo r.toNat)) h κ=κ (.string ((⟨#[116]⟩:ByteArray)++eo t.toNat++(⟨#[46,114]⟩:ByteArray)++eo r.toNat)) h:=fun β fl cn gd h κ=>jX _ _ _ _ _ _ _ _ (by rw[ByteArray.size_append,ByteArray.size_append]; show 1+_+2+_≤_; omega)
  refine Dq t ht ?_
  simp(disch:=first|omega|simp only[Wd]<;>omega|with_unfolding_all rfl)only[Wz,e1,e2]
  refine Dq r hr ?_
  simp(disch:=first|omega|simp only[Wd]<;>omega|with_unfolding_all rfl)only[Wz,e1,e2,e3,E5]
  simp[er,e]
def uY (a:Int) (b:UInt8):Int:=IntKind.u32.wrap (IntKind.u32.wrap ((BitVec.ofInt IntKind.u32.bits a ^^^ BitVec.ofInt IntKind.u32.bits (IntKind.u32.wrap (Int.ofNat b.toNat))).toNat)*16777619)
def mN (s:ByteArray):Int:=s.data.toList.foldl uY 2166136261
theorem BV (a:Int) (b:UInt8):0≤uY a b∧uY a b<4294967296:=y9 _
theorem lH (s:ByteArray):0≤mN s∧mN s<4294967296:=by
 unfold mN
 have:∀(l:List UInt8) (a:Int),(0≤a∧a<4294967296)→0≤l.foldl uY a∧l.foldl uY a<4294967296:=by
  intro l
  induction l with
  | nil=>exact fun a h=>h
  | cons b l ih=>exact fun a _=>ih _ (BV a b)
 exact this _ _ (by decide)
theorem V0 (s:ByteArray) (hs:s.data.toList.length≤1000) {h:Heap} {κ:Value→Heap→Prop} (hk:κ (.int .u32 (mN s)) h):CallW Tryz.prog 150 [.string s] h κ:=by
 refine fD (v:=.int .u32 (mN s)) rfl rfl (aq mixed ?_) hk
 rw[PU]
 rw[BT _ _ _ _ (by omega)]
 simp(disch:=first|omega|simp only[Wd]<;>omega|with_unfolding_all rfl)only[Wz]
 refine ⟨fun n l h1=>∃i:Nat,slot l 12=.int .i64 (i:Int)∧slot l 10=.int .u32 ((s.data.toList.take i).foldl uY 2166136261)∧i≤s.data.toList.length∧n=s.data.toList.length-i∧HQ ⟨ri.nx+1,ri.bl.aW ri.nx (Tp (uX s) 5),ri.lo⟩ h1,⟨_,0,rfl,rfl,Nat.zero_le _,rfl,rfl⟩,?_⟩
 rintro n l h1 ⟨i,s1,s2,hi,rfl,hq⟩
 cases (show _=h1 from hq)
 by_cases hlt:i<s.data.toList.length
 ·have hg:=Dn hlt
  simp(disch:=first|omega|simp only[Wd]<;>omega|with_unfolding_all rfl)only[Wz,s1,fI (show (i:Int)<(s.data.toList.length:Int) by omega),AO,aS,Nat.mul_one,hg,s2,p5,xz,xA]
  refine ⟨_,by omega,i+1,rfl,?_,by omega,rfl,rfl⟩
  rw[List.take_add_one,List.getElem?_eq_getElem hlt]
  simp only[Option.toList_some,List.foldl_append,List.foldl_cons,List.foldl_nil]
  rfl
 ·have hil:i=s.data.toList.length:=by omega
  simp(disch:=first|omega|simp only[Wd]<;>omega|with_unfolding_all rfl)only[Wz,s1,c6 (show (s.data.toList.length:Int)≤(i:Int) by omega),s2]
  rw[hil,List.take_length]; rfl
theorem BW (t r:Int):(er t r).data.toList.length≤1000:=by
 have st:=jd t.toNat
 have sr:=jd r.toNat
 have:(er t r).size≤1000:=by
  unfold er
  split
  ·decide
  ·split
   ·rw[ByteArray.size_append]; show 1+_≤_; omega
   ·rw[ByteArray.size_append,ByteArray.size_append,ByteArray.size_append]; show 1+_+2+_≤_; omega
 exact this
theorem Rz (t r:Int) (hl:bz t r≠-1) {h:Heap} {κ:Value→Heap→Prop} (hk:κ (.int .u32 (mN (er t r))) h):CallW Tryz.prog 114 [dK t r] h κ:=by
 refine fD (v:=.int .u32 (mN (er t r))) rfl rfl (aq mixed ?_) hk
 rw[PG]
 simp(disch:=first|omega|simp only[Wd]<;>omega|with_unfolding_all rfl)only[Wz,dK]
 refine Ry t r hl ?_
 refine V0 _ (BW t r) ?_
 rfl
def ck (t r s:Int):Int:=if s<1∨16<s∨bz t r = -1 then -1 else Int.tmod (mN (er t r)) s
theorem uZ {t r s:Int} (h:ck t r s≠-1):0≤ck t r s∧ck t r s<s∧bz t r≠-1:=by
 unfold ck at *
 by_cases hc:s<1∨16<s∨bz t r = -1
 ·rw[if_pos hc] at h; exact absurd rfl h
 ·rw[if_neg hc]
  have h1:=lH (er t r)
  have h2:=Int.tmod_lt_of_pos (mN (er t r)) (show 0<s by omega)
  have h3:=Int.tmod_nonneg s h1.1
  exact ⟨h3,h2,fun e=>hc (.inr (.inr e))⟩
theorem V1 (s:Int) {h:Heap} {κ:Value→Heap→Prop} (hk:κ (.bool (decide (1≤s) && decide (s≤16))) h):CallW Tryz.prog 113 [.int .i64 s] h κ:=by
 refine fD (v:=.bool (decide (1≤s) && decide (s≤16))) rfl rfl (aq mixed ?_) hk
 rw[PF]
 by_cases h1:s<1
 ·simp(disch:=first|omega|simp only[Wd]<;>omega|with_unfolding_all rfl)only[Wz,fI h1]; simp; omega
 ·by_cases h2:16<s
  ·simp(disch:=first|omega|simp only[Wd]<;>omega|with_unfolding_all rfl)only[Wz,c6 (show 1≤s by omega),fI h2]; simp; omega
  ·simp(disch:=first|omega|simp only[Wd]<;>omega|with_unfolding_all rfl)only[Wz,c6 (show 1≤s by omega),c6 (show s≤16 by omega)]; simp; omega
theorem JG (t r s:Int) {h:Heap} {κ:Value→Heap→Prop} (hk:κ (.int .i64 (ck t r s)) h):CallW Tryz.prog 74 [dK t r,.int .i64 s] h κ:=by
 refine fD (v:=.int .i64 (ck t r s)) rfl rfl (aq mixed ?_) hk
 rw[Uy]
 simp(disch:=first|omega|simp only[Wd]<;>omega|with_unfolding_all rfl)only[Wz,dK]
 refine V1 s ?_
 by_cases h1:1≤s∧s≤16
 ·simp(disch:=first|omega|simp only[Wd]<;>omega|with_unfolding_all rfl)only[Wz,aZ h1.1,aZ h1.2]
  refine BU t r ?_
  by_cases hl:bz t r = -1
  ·rw[if_pos hl]
   simp(disch:=first|omega|simp only[Wd]<;>omega|with_unfolding_all rfl)only[Wz]
   simp[ck,hl]
  ·rw[if_neg hl]
   simp(disch:=first|omega|simp only[Wd]<;>omega|with_unfolding_all rfl)only[Wz]
   refine Rz t r hl ?_
   have hr:=lH (er t r)
   have h2:=Int.tmod_lt_of_pos (mN (er t r)) (show 0<s by omega)
   have h3:=Int.tmod_nonneg s hr.1
   simp(disch:=first|omega|simp only[Wd]<;>omega|with_unfolding_all rfl)only[Wz,p5,xC,xB]
   unfold ck
   rw[if_neg (by omega)]
 ·have e:(decide (1≤s) && decide (s≤16))=false:=by simp; omega
  rw[e]
  simp(disch:=first|omega|simp only[Wd]<;>omega|with_unfolding_all rfl)only[Wz]
  unfold ck
  rw[if_pos (by omega)]
abbrev IE:=Int × Int × Nat
def xF (e:IE):MapEntry:={ key:=.int .i64 e.1,val:=.int .i64 e.2.1,born:=e.2.2 }
def Gc (W:List IE) (k:Int):Option Int:=(W.find? fun e=>decide (k=e.1)).map fun e=>e.2.1
theorem eqI (h:Heap) (a b:Int):kV Tryz.prog h 100 3 (.int .i64 a) (.int .i64 b)=some (decide (a=b)):=by
 have:kV Tryz.prog h 100 3 (.int .i64 a) (.int .i64 b)=some (oN a b):=by kernel_rfl
 rw[this,eX]
theorem Mt (t:Int):iS Tryz.prog 20 3 (.int .i64 t)=true:=by kernel_rfl
theorem LA (t:Int):jD 3 (.int .i64 t) (.int .i64 t)=true:=by
 show (fO .i64 .i64 && oN t t)=true
 rw[eX,aZ rfl]; rfl
theorem Od (h:Heap) (k:Int):∀(M:List IE) (i:Nat),(fm Tryz.prog h 3 (.int .i64 k) (M.map xF) i=some none∧M.find? (fun e=>decide (k=e.1))=none)∨
  ∃(j:Nat) (e:IE),fm Tryz.prog h 3 (.int .i64 k) (M.map xF) i=some (some (i+j,xF e))∧M[j]? = some e∧k=e.1∧M.find? (fun e=>decide (k=e.1))=some e∧∀(v:Int) (k':Int),(M.set j (e.1,v,e.2.2)).find? (fun e=>decide (k'=e.1))=if k'=k then some (e.1,v,e.2.2) else M.find? (fun e=>decide (k'=e.1)):=by
 intro M
 induction M with
 | nil=>intro i; exact .inl ⟨rfl,rfl⟩
 | cons e M ih=>
  intro i
  have hf:fm Tryz.prog h 3 (.int .i64 k) ((e::M).map xF) i=(match (some (decide (k=e.1)):Option Bool) with | some true=>some (some (i,xF e)) | some false=>fm Tryz.prog h 3 (.int .i64 k) (M.map xF) (Nat.succ i) | none=>none):=by
   rw[←eqI h]; rfl
  rw[hf]
  by_cases h1:k=e.1
  ·rw[aZ h1]
   refine .inr ⟨0,e,rfl,rfl,h1,by rw[List.find?_cons,aZ h1],fun v k'=>?_⟩
   rw[List.set_cons_zero,List.find?_cons,List.find?_cons]
   by_cases h2:k'=k
   ·rw[if_pos h2,aZ (h2.trans h1)]
   ·rw[if_neg h2,aG (fun e'=>h2 (e'.trans h1.symm))]
  ·rw[aG h1]
   rcases ih (Nat.succ i) with ⟨g1,g2⟩ | ⟨j,e',g1,g2,g3,g4,g5⟩
   ·exact .inl ⟨g1,by rw[List.find?_cons,aG h1]; exact g2⟩
   ·refine .inr ⟨j+1,e',by rw[show i+(j+1)=Nat.succ i+j by omega]; exact g1,g2,g3,by rw[List.find?_cons,aG h1]; exact g4,fun v k'=>?_⟩
    rw[List.set_cons_succ,List.find?_cons,List.find?_cons]
    by_cases h2:k'=e.1
    ·rw[aZ h2]
     simp only
     rw[if_neg (fun e'=>h1 (e'.symm.trans h2))]
    ·rw[aG h2]
     exact g5 v k'
theorem V2 {β:Type} {fl:β} {W:List IE} {clock:Nat} {h:Heap} {bw:Nat} (g:h.bl.get bw=some (.map (W.map xF) clock)) (k:Int) (κ:Value→Heap→β) :
  cZ fl Tryz.prog 3 (.int .i64 0) true (.map (some bw)) (.int .i64 k) h κ=κ (.tuple ⟨[.int .i64 ((Gc W k).getD 0),.bool (Gc W k).isSome]⟩) h:=by
 unfold cZ iX Gc
 rw[Mt]
 simp only[g]
 rcases Od h k W 0 with ⟨g1,g2⟩ | ⟨j,e',g1,g2,g3,g4,_⟩
 ·rw[g1,g2]; rfl
 ·rw[g1,g4]; rfl
theorem RA {W:List IE} {clock:Nat} {h:Heap} {bw:Nat} (g:h.bl.get bw=some (.map (W.map xF) clock)) (hlo:h.lo≤bw) (k v:Int) (κ:KQ)
  (hk:∀W' clock',(∀j,Gc W' j=if j=k then some v else Gc W j)→κ undef ⟨h.nx,h.bl.aW bw (.map (W'.map xF) clock'),h.lo⟩) :
  bX False Tryz.prog 3 (.map (some bw)) (.int .i64 k) (.int .i64 v) h κ:=by
 unfold bX
 rw[Mt]
 simp only[g]
 rcases Od h k W 0 with ⟨g1,g2⟩ | ⟨j,e,g1,g2,g3,g4,g5⟩
 ·rw[g1]
  simp only
  rw[mh]
  simp only[bG]
  rw[bL _ _ _ _ hlo]
  have:=hk (W++[(k,v,clock)]) (clock+1) fun j=>by
   unfold Gc
   rw[List.find?_append]
   by_cases hj:j=k
   ·rw[if_pos hj,hj,g2]; simp
   ·rw[if_neg hj]
    simp[List.find?_cons,hj]
  rw[List.map_append] at this
  exact this
 ·rw[g1]
  subst g3
  simp only[xF,LA]
  rw[Nat.zero_add,oV _ _ j (xF e) _ (by rw[List.getElem?_map,g2]; rfl),bL _ _ _ _ hlo]
  have:=hk (W.set j (e.1,v,e.2.2)) clock fun i=>by
   unfold Gc
   rw[g5 v i]
   split<;>rfl
  rw[List.map_set] at this
  exact this
theorem nW.keep {h h':Heap} {bb bm bp bl most clock:Nat} {M:List HE} {F:List Int} {B:List Bool} (s:aV h bb bm bp bl most M clock F B) (f:nW bm bp bl h h') {c:Nat} {vs:List Value} {ty:TypeId} {op:Bool} (hc:c<h.nx) (hg:h.bl.get c=some (aa vs ty op)) (h1:ty≠225) (h2:ty≠4) (h3:ty≠3):h'.bl.get c=h.bl.get c:=by
 obtain ⟨fs,uL,hpt⟩:=s.dh.fr.cell
 have gl:=s.dh.cell
 have gm:=s.eG
 exact f.get c hc (by rintro rfl; rw[hg] at gm; exact bB gm.symm) (by rintro rfl; rw[hg] at uL; exact aT h1 uL) (by rintro rfl; rw[hg] at gl; exact aT h2 gl) fun ws=>by rw[hg]; exact aT h3
theorem nW.E7 {h h':Heap} {bb bm bp bl most clock:Nat} {M:List HE} {F:List Int} {B:List Bool} (s:aV h bb bm bp bl most M clock F B) (f:nW bm bp bl h h') {c:Nat} {es:List MapEntry} {cl:Nat} (hc:c<h.nx) (hg:h.bl.get c=some (.map es cl)) (hne:c≠bm):h'.bl.get c=h.bl.get c:=by
 obtain ⟨fs,uL,hpt⟩:=s.dh.fr.cell
 have gl:=s.dh.cell
 exact f.get c hc hne (by rintro rfl; rw[uL] at hg; exact bB hg.symm) (by rintro rfl; rw[gl] at hg; exact bB hg.symm) fun ws=>by rw[hg]; exact bB
theorem aV.aside {h h':Heap} {bb bm bb2 bm2 bp bl most Oe clock JH:Nat} {M M2:List HE} {F F':List Int} {B B':List Bool} (s:aV h bb bm bp bl most M clock F B) (f:nW bm bp bl h h') (s2:aV h bb2 bm2 bp bl Oe M2 JH F B) (hne:bm2≠bm) (p:dg h' bp bl F' B'):aV h' bb2 bm2 bp bl Oe M2 JH F' B':=by
 have fn:=f.nx
 have fl:=f.lo
 have sb:=s2.Ky
 have sm:=s2.rz
 refine ⟨by omega,by omega,by rw[fl]; exact s2.Me,(f.keep s sb s2.fV (by decide) (by decide) (by decide)).trans s2.fV,(f.E7 s sm s2.eG hne).trans s2.eG,s2.ok,fun e he=>?_,s2.good,p,s2.ne⟩
 have a:=s2.aH e he
 have al:=a.lt
 exact ⟨by omega,(f.keep s al a.get (by decide) (by decide) (by decide)).trans a.get,a.qv.frame fn fun c vs op hc hg=>f.keep s hc hg (by decide) (by decide) (by decide)⟩
structure TB where
 bb:Nat
 bm:Nat
 M:List HE
 clock:Nat
def kQ (b:TB):List Value:=[.pointer (some ⟨b.bb,0,none⟩)]
theorem xG (b:TB):(kQ b).length=1:=rfl
theorem Gd (b:TB):(kQ b).all dR=true:=rfl
structure fW where
 S:Int
 H:Int
 R:Int
 P:Int
structure dQ (h:Heap) (tb bw bp bl:Nat) (c:fW) (vb:Value) (aH:Nat) (T:List TB) (W:List IE) (wc:Nat) (F:List Int) (B:List Bool):Prop where
 SF:tb<h.nx
 kR:h.bl.get tb=some (aa [.int .i64 c.S,.int .i64 c.H,.int .i64 c.R,.int .i64 c.P,.pointer (some ⟨bp,0,none⟩),vb,.map (some bw)] 147 false)
 sl:Sl kQ h vb T
 ty:tJ 182 h vb
 zp:bw<h.nx
 low:h.lo≤bw
 kS:h.bl.get bw=some (.map (W.map xF) wc)
 bk:∀b∈T,aV h b.bb b.bm bp bl aH b.M b.clock F B
 y_:T.Pairwise fun a b=>a.bm≠b.bm
 SG:∀b∈T,bw≠b.bm
 dh:dg h bp bl F B
 cS:c.S=T.length
 s1:1≤T.length∧T.length≤16
 hd:aH≤64
theorem Sl.Dr {α:Type} {enc:α→List Value} {h h':Heap} {v:Value} {L:List α} {e:TypeId} (s:Sl enc h v L) (t:tJ e h v) (hn:h.nx≤h'.nx) (hg:∀c vs op,c<h.nx→h.bl.get c=some (aa vs e op)→h'.bl.get c=h.bl.get c):Sl enc h' v L∧tJ e h' v:=by
 constructor
 ·obtain ⟨x,cap,rfl,h2⟩:=s
  refine ⟨x,cap,rfl,fun hne=>?_⟩
  obtain ⟨b,o,rfl,h3,h4⟩:=h2 hne
  obtain ⟨h1,vs,op,h5⟩:=t b o _ cap rfl (by intro h0; exact hne (List.eq_nil_of_length_eq_zero h0))
  refine ⟨b,o,rfl,Nat.lt_of_lt_of_le h3 hn,?_⟩
  rw[hg b vs op h1 h5]; exact h4
 ·intro b o n c hv hn0
  obtain ⟨h1,vs,op,h2⟩:=t b o n c hv hn0
  exact ⟨Nat.lt_of_lt_of_le h1 hn,vs,op,(hg b vs op h1 h2).trans h2⟩
theorem dQ.le {h h':Heap} {tb bw bp bl:Nat} {c:fW} {vb:Value} {aH:Nat} {T:List TB} {W:List IE} {wc:Nat} {F:List Int} {B:List Bool} (s:dQ h tb bw bp bl c vb aH T W wc F B) (l:Le h h'):dQ h' tb bw bp bl c vb aH T W wc F B:=
 ⟨Nat.lt_of_lt_of_le s.SF l.nx,(l.get _ s.SF).trans s.kR,s.sl.le l,s.ty.le l,Nat.lt_of_lt_of_le s.zp l.nx,by rw[l.lo]; exact s.low,(l.get _ s.zp).trans s.kS,fun b hb=>(s.bk b hb).le l,s.y_,s.SG,s.dh.le l,s.cS,s.s1,s.hd⟩
theorem JI {T:List TB} {k:Nat} {b:TB} (hk:T[k]? = some b) (M':List HE) (clock':Nat):(T.set k ⟨b.bb,b.bm,M',clock'⟩).flatMap kQ=T.flatMap kQ:=by
 obtain ⟨hl,rfl⟩:=List.getElem?_eq_some_iff.1 hk
 rw[List.flatMap_def,List.flatMap_def,List.map_set]
 congr 1
 refine List.ext_getElem? fun i=>?_
 rw[List.getElem?_set]
 split
 ·rename_i e; subst e
  rw[if_pos (by simpa using hl),List.getElem?_map,List.getElem?_eq_getElem hl]; rfl
 ·rfl
theorem Sl.congr {α:Type} {enc:α→List Value} {h:Heap} {v:Value} {L L':List α} (s:Sl enc h v L) (hl:L'.length=L.length) (hf:L'.flatMap enc=L.flatMap enc):Sl enc h v L':=by
 obtain ⟨x,cap,rfl,h2⟩:=s
 refine ⟨x,cap,by rw[hl],fun hne=>?_⟩
 rw[hf]
 exact h2 (fun e=>hne (List.eq_nil_of_length_eq_zero (by rw[hl,e]; rfl)))
theorem dQ.change {h h':Heap} {tb bw bp bl:Nat} {c:fW} {vb:Value} {aH:Nat} {T:List TB} {W:List IE} {wc:Nat} {F F':List Int} {B B':List Bool} (s:dQ h tb bw bp bl c vb aH T W wc F B) {k:Nat} {b:TB} (hk:T[k]? = some b) {M':List HE} {clock':Nat} (V3:aV h' b.bb b.bm bp bl aH M' clock' F' B') (f:nW b.bm bp bl h h') :
  dQ h' tb bw bp bl c vb aH (T.set k ⟨b.bb,b.bm,M',clock'⟩) W wc F' B':=by
 have hb:=s.bk b (List.mem_of_getElem? hk)
 have fn:=f.nx
 have fl:=f.lo
 have h1:=s.SF
 have h2:=s.zp
 have k1:=Sl.Dr s.sl s.ty fn fun c vs op hc hg=>f.keep hb hc hg (by decide) (by decide) (by decide)
 have V4:=s.SG b (List.mem_of_getElem? hk)
 have jE:∀x∈T.set k ⟨b.bb,b.bm,M',clock'⟩,(x=⟨b.bb,b.bm,M',clock'⟩)∨(x∈T∧x.bm≠b.bm):=by
  intro x hx
  obtain ⟨i,hi⟩:=List.getElem?_of_mem hx
  rw[List.getElem?_set] at hi
  split at hi
  ·split at hi
   ·exact .inl (Option.some.inj hi).symm
   ·cases hi
  ·rename_i hne
   refine .inr ⟨List.mem_of_getElem? hi,?_⟩
   rcases Nat.lt_trichotomy i k with h3 | h3 | h3
   ·exact ee.1 s.y_ i k x b h3 hi hk
   ·exact absurd h3.symm hne
   ·exact fun e=>ee.1 s.y_ k i b x h3 hk hi e.symm
 refine ⟨by omega,(f.keep hb h1 s.kR (by decide) (by decide) (by decide)).trans s.kR,Sl.congr k1.1 (List.length_set ..) (JI hk _ _),k1.2,by omega,by rw[fl]; exact s.low,(f.E7 hb h2 s.kS V4).trans s.kS,?_,?_,?_,V3.dh,by rw[List.length_set]; exact s.cS,by rw[List.length_set]; exact s.s1,s.hd⟩
 ·intro x hx
  rcases jE x hx with rfl | ⟨hx,hne⟩
  ·exact V3
  ·exact hb.aside f (s.bk x hx) hne V3.dh
 ·refine qD s.y_ (fun j q hj hq=>ee.1 s.y_ j k q b hj hq hk) (fun j q hj hq=>ee.1 s.y_ k j b q hj hk hq)
 ·intro x hx
  rcases jE x hx with rfl | ⟨hx,_⟩
  ·exact V4
  ·exact s.SG x hx
theorem oI {α β:Type} (f:α→List β) {T:List α} {k:Nat} {b:α} (hk:T[k]? = some b):∃X,∀b',((T.set k b').flatMap f).Perm (f b'++X):=by
 obtain ⟨hl,_⟩:=List.getElem?_eq_some_iff.1 hk
 refine ⟨(T.take k).flatMap f++(T.drop (k+1)).flatMap f,fun b'=>?_⟩
 rw[List.set_eq_take_append_cons_drop,if_pos hl,List.flatMap_append,List.flatMap_cons]
 exact List.perm_append_comm_assoc _ _ _
theorem u0 {α:Type} {T:List α} {k:Nat} {b:α} (hk:T[k]? = some b):T.set k b=T:=by
 refine List.ext_getElem? fun i=>?_
 rw[List.getElem?_set]
 split
 ·rename_i e; subst e; rw[hk,if_pos (List.getElem?_eq_some_iff.1 hk).1]
 ·rfl
section
variable {h h':Heap} {bb bm bp bl most:Nat} {M M':List HE} {clock clock':Nat} {F F':List Int} {B B':List Bool}
theorem kP.ids (s:aV h bb bm bp bl most M clock F B) {t r x m:Int} {n:Nat} {g:Bool} (a:kP h h' bb bm bp bl most M M' clock' F F' B t r x m n g):(eV M').Perm (eV M++[(n:Int)]):=by
 obtain ⟨Q,w,hold,vq,vq',_,jE⟩:=a.set
 have lN:(eV M).Perm (eV (M.filter fun x=>!qM t r x)++Q.map (·.id)):=by
  rcases hold with ⟨e,he,rfl,rfl,rfl,rfl⟩ | ⟨hn,hl,rfl,rfl⟩
  ·have:=ny (nD s.ok he)
   rw[jV,pV] at this
   exact this
  ·rw[xu hn]; simp
 refine jE.ids.trans ?_
 rw[uP vq',List.map_append,List.map_cons,List.map_nil,Mg,←List.append_assoc]
 exact (lN.symm).append_right _
theorem kP.len (s:aV h bb bm bp bl most M clock F B) (hl:M.length≤most) {t r x m:Int} {n:Nat} {g:Bool} (a:kP h h' bb bm bp bl most M M' clock' F F' B t r x m n g):M'.length≤most:=by
 obtain ⟨Q,w,hold,vq,vq',_,jE⟩:=a.set
 have:=jE.len
 rcases hold with ⟨e,he,rfl,rfl,rfl,rfl⟩ | ⟨hn,hl,rfl,rfl⟩
 ·have:=E4 s.ok he; omega
 ·rw[xu hn] at this; omega
theorem kP.wb {N:Nat} (hw:∀e∈M,e.w≤N) {t r x m:Int} {n:Nat} {g:Bool} (a:kP h h' bb bm bp bl most M M' clock' F F' B t r x m n g):∀e∈M',e.w≤(N+1:Nat):=by
 obtain ⟨Q,w,hold,vq,vq',_,jE⟩:=a.set
 refine jE.wb hw ?_
 have:=Ru Q w n x m
 rcases hold with ⟨e,he,_,_,_,rfl⟩ | ⟨_,_,_,rfl⟩
 ·have:=hw e he; omega
 ·omega
theorem kP.sub {t r x m:Int} {n:Nat} {g:Bool} (a:kP h h' bb bm bp bl most M M' clock' F F' B t r x m n g):∀y∈M',(∃e∈M,e.t=y.t∧e.r=y.r)∨(y.t=t∧y.r=r):=by
 obtain ⟨Q,w,_,_,_,_,jE⟩:=a.set
 intro y hy
 rcases jE.sub y hy with h | ⟨h1,h2,_⟩
 ·exact .inl ⟨y,h,rfl,rfl⟩
 ·exact .inr ⟨h1,h2⟩
variable {e:HE} {Q1:List R5} {w1:Int}
theorem jW.JJ (s:aV h bb bm bp bl most M clock F B) (he:e∈M) (m:jW h h' bb bm bp bl most M M' clock' F' B' e Q1 w1) (hid:Q1.map (·.id)=e.Q.map (·.id)):(eV M').Perm (eV M):=by
 refine m.set.ids.trans ?_
 rw[uP m.vq,hid]
 have:=ny (nD s.ok he)
 rw[jV,pV] at this
 exact this.symm
theorem jW.JK (s:aV h bb bm bp bl most M clock F B) (he:e∈M) {p:R5} {n:Nat} (hf:bT e.Q (n:Int)=some p) (m:jW h h' bb bm bp bl most M M' clock' F' B' e (e.Q.filter fun r=>!bP (n:Int) r) w1):(eV M).Perm (eV M'++[(n:Int)]):=by
 have h1:=ny (nD s.ok he)
 rw[jV,pV] at h1
 have h2:=h1.trans (List.Perm.append_left (eV (M.filter fun x=>!qM e.t e.r x)) (Dl (s.good e he).vq hf))
 rw[←List.append_assoc] at h2
 have h3:=m.set.ids
 rw[uP m.vq] at h3
 exact h2.trans (h3.symm.append_right _)
theorem jW.len (s:aV h bb bm bp bl most M clock F B) (hl:M.length≤most) (he:e∈M) (m:jW h h' bb bm bp bl most M M' clock' F' B' e Q1 w1):M'.length≤most:=by
 have:=m.set.len
 have:=E4 s.ok he
 omega
theorem jW.sub (he:e∈M) (m:jW h h' bb bm bp bl most M M' clock' F' B' e Q1 w1):∀y∈M',∃e∈M,e.t=y.t∧e.r=y.r:=by
 intro y hy
 rcases m.set.sub y hy with h | ⟨h1,h2,_⟩
 ·exact ⟨y,h,rfl,rfl⟩
 ·exact ⟨e,he,h1.symm,h2.symm⟩
end
structure jx (h:Heap) (tb bw bp bl:Nat) (c:fW) (vb:Value) (aH N:Nat) (T:List TB) (W:List IE) (wc:Nat) (F:List Int) (B:List Bool):Prop where
 is:dQ h tb bw bp bl c vb aH T W wc F B
 ids:(T.flatMap fun b=>eV b.M).Perm (iV B)
 wh:∀(k:Nat) (b:TB),T[k]? = some b→∀e∈b.M,∀p∈e.Q,Gc W p.id=some (k:Int)
 nm:∀(k:Nat) (b:TB),T[k]? = some b→∀e∈b.M,ck e.t e.r c.S=(k:Int)
 wb:∀b∈T,∀e∈b.M,e.w≤N
 len:∀b∈T,b.M.length≤aH
 cR:(B.length:Int)=c.R
 cH:(aH:Int)=c.H
section
variable {h h':Heap} {tb bw bp bl:Nat} {c:fW} {vb:Value} {aH N:Nat} {T:List TB} {W:List IE} {wc:Nat} {F F':List Int} {B B':List Bool}
theorem jx.JL (s:jx h tb bw bp bl c vb aH N T W wc F B) {k:Nat} {b:TB} (hk:T[k]? = some b):nX b.M B:=by
 obtain ⟨X,hX⟩:=oI (fun b:TB=>eV b.M) hk
 have:=hX b
 rw[u0 hk] at this
 exact ⟨X,this.symm.trans s.ids⟩
theorem jx.le (s:jx h tb bw bp bl c vb aH N T W wc F B) (l:Le h h'):jx h' tb bw bp bl c vb aH N T W wc F B:=⟨s.is.le l,s.ids,s.wh,s.nm,s.wb,s.len,s.cR,s.cH⟩
theorem jx.up {N':Nat} (s:jx h tb bw bp bl c vb aH N T W wc F B) (hN:N≤N'):jx h tb bw bp bl c vb aH N' T W wc F B:=⟨s.is,s.ids,s.wh,s.nm,fun b hb e he=>by have:=s.wb b hb e he; omega,s.len,s.cR,s.cH⟩
theorem ew {α:Type} {T:List α} {k j:Nat} {b' x:α} (h:(T.set k b')[j]? = some x):(j=k∧x=b')∨(j≠k∧T[j]? = some x):=by
 rw[List.getElem?_set] at h
 split at h
 ·rename_i e
  split at h
  ·exact .inl ⟨e.symm,(Option.some.inj h).symm⟩
  ·cases h
 ·rename_i e; exact .inr ⟨fun e'=>e e'.symm,h⟩
theorem jy {M:List HE} {i:Int}:i∈eV M↔∃e∈M,∃p∈e.Q,p.id=i:=by
 unfold eV
 rw[List.mem_flatMap]
 constructor
 ·rintro ⟨e,he,hi⟩
  obtain ⟨p,hp,rfl⟩:=List.mem_map.1 hi
  exact ⟨e,he,p,hp,rfl⟩
 ·rintro ⟨e,he,p,hp,rfl⟩
  exact ⟨e,he,List.mem_map.2 ⟨p,hp,rfl⟩⟩
theorem jx.step (s:jx h tb bw bp bl c vb aH N T W wc F B) {k:Nat} {b:TB} (hk:T[k]? = some b) {M':List HE} {clock':Nat} (V3:aV h' b.bb b.bm bp bl aH M' clock' F' B') (f:nW b.bm bp bl h h')
  (wv:∀X,(eV b.M++X).Perm (iV B)→(eV M'++X).Perm (iV B')) (hsub:∀i∈eV M',i∈eV b.M) (hnm:∀y∈M',∃e∈b.M,e.t=y.t∧e.r=y.r) (hw:∀e∈M',e.w≤(N+1:Nat)) (hl:M'.length≤aH) (hB:B'.length=B.length) :
  jx h' tb bw bp bl c vb aH (N+1) (T.set k ⟨b.bb,b.bm,M',clock'⟩) W wc F' B':=by
 obtain ⟨X,hX⟩:=oI (fun b:TB=>eV b.M) hk
 have h0:=hX b
 rw[u0 hk] at h0
 refine ⟨s.is.change hk V3 f,(hX _).trans (wv X (h0.symm.trans s.ids)),?_,?_,?_,?_,by rw[hB]; exact s.cR,s.cH⟩
 ·intro j x hj e he p hp
  rcases ew hj with ⟨rfl,rfl⟩ | ⟨_,hj⟩
  ·obtain ⟨e0,JM,p0,Vt,hpe⟩:=jy.1 (hsub p.id (jy.2 ⟨e,he,p,hp,rfl⟩))
   rw[←hpe]; exact s.wh j b hk e0 JM p0 Vt
  ·exact s.wh j x hj e he p hp
 ·intro j x hj e he
  rcases ew hj with ⟨rfl,rfl⟩ | ⟨_,hj⟩
  ·obtain ⟨e0,JM,h1,h2⟩:=hnm e he
   rw[←h1,←h2]; exact s.nm j b hk e0 JM
  ·exact s.nm j x hj e he
 ·intro x hx e he
  obtain ⟨j,hj⟩:=List.getElem?_of_mem hx
  rcases ew hj with ⟨rfl,rfl⟩ | ⟨_,hj⟩
  ·exact hw e he
  ·have:=s.wb x (List.mem_of_getElem? hj) e he; omega
 ·intro x hx
  obtain ⟨j,hj⟩:=List.getElem?_of_mem hx
  rcases ew hj with ⟨rfl,rfl⟩ | ⟨_,hj⟩
  ·exact hl
  ·exact s.len x (List.mem_of_getElem? hj)
end
theorem Of (h:Heap) (b o:Nat):kV Tryz.prog h 100 100 (.pointer (some ⟨b,o,none⟩)) (.pointer none)=some false:=by kernel_rfl
theorem mO {β:Type} {fl:β} (cn:Bool) (b o:Nat) (h:Heap) (κ:Value→Heap→β):au fl Tryz.prog .eql 100 cn false (.pointer (some ⟨b,o,none⟩)) (.pointer none) h κ=κ (.bool false) h:=by simp only[au,Of,bN]
theorem V5 (h:Heap):kV Tryz.prog h 100 182 (.pointer none) (.pointer none)=some true:=by kernel_rfl
theorem u5 {β:Type} {fl:β} (cn:Bool) (h:Heap) (κ:Value→Heap→β):au fl Tryz.prog .eql 182 cn false (.pointer none) (.pointer none) h κ=κ (.bool true) h:=by simp only[au,V5,bN]
structure rR (Ts:List TB) (bw bp bl:Nat) (h h':Heap):Prop where
 nx:h.nx≤h'.nx
 lo:h'.lo=h.lo
 get:∀c,c<h.nx→(∀b∈Ts,c≠b.bm)→c≠bw→c≠bp→c≠bl→(∀vs,h.bl.get c≠some (aa vs 3 true))→h'.bl.get c=h.bl.get c
 g2:bp<h.nx→∀c,c<h.nx→(∀b∈Ts,c≠b.bm)→c≠bw→c≠bp→c≠bl→¬FB h bp c→h'.bl.get c=h.bl.get c
 mv:bp<h.nx→∀c,c<h.nx→FB h' bp c→FB h bp c
theorem rR.of_le {Ts:List TB} {bw bp bl:Nat} {h h':Heap} (l:Le h h'):rR Ts bw bp bl h h':=⟨l.nx,l.lo,fun c hc _ _ _ _ _=>l.get c hc,fun _ c hc _ _ _ _ _=>l.get c hc,fun hb c _ x=>(FB.congr (l.get bp hb)).1 x⟩
theorem rR.trans {Ts:List TB} {bw bp bl:Nat} {h h' h'':Heap} (a:rR Ts bw bp bl h h') (b:rR Ts bw bp bl h' h''):rR Ts bw bp bl h h'':=
 ⟨Nat.le_trans a.nx b.nx,b.lo.trans a.lo,fun c hc h1 h2 h3 h4 h5=>(b.get c (Nat.lt_of_lt_of_le hc a.nx) h1 h2 h3 h4 (fun vs=>by rw[a.get c hc h1 h2 h3 h4 h5]; exact h5 vs)).trans (a.get c hc h1 h2 h3 h4 h5),
  fun hb c hc h1 h2 h3 h4 h5=>(b.g2 (Nat.lt_of_lt_of_le hb a.nx) c (Nat.lt_of_lt_of_le hc a.nx) h1 h2 h3 h4 fun x=>h5 (a.mv hb c hc x)).trans (a.g2 hb c hc h1 h2 h3 h4 h5),
  fun hb c hc x=>a.mv hb c hc (b.mv (Nat.lt_of_lt_of_le hb a.nx) c (Nat.lt_of_lt_of_le hc a.nx) x)⟩
theorem rR.RC {Ts:List TB} {b:TB} (hb:b∈Ts) {bw bp bl:Nat} {h h':Heap} (f:nW b.bm bp bl h h'):rR Ts bw bp bl h h':=⟨f.nx,f.lo,fun c hc h1 _ h3 h4 h5=>f.get c hc (h1 b hb) h3 h4 h5,fun hp c hc h1 _ h3 h4 h5=>f.g2 hp c hc (h1 b hb) h3 h4 h5,f.mv⟩
section
variable {h:Heap} {tb bw bp bl:Nat} {c:fW} {vb:Value} {aH N:Nat} {Ts:List TB} {W:List IE} {wc:Nat} {F:List Int} {B:List Bool}
theorem qP (s:dQ h tb bw bp bl c vb aH Ts W wc F B) (hlo:h.lo≤h.nx) (t r:Int) (κ:KQ) (hk:∀h',Le h h'→κ (.int .i64 (ck t r c.S)) h') :
  CallW Tryz.prog 44 [.pointer (some ⟨tb,0,none⟩),dK t r] h κ:=by
 refine aq mixed ?_
 rw[Ul]
 simp(disch:=first|omega|simp only[Wd]<;>omega|with_unfolding_all rfl)only[Wz,dK]
 obtain ⟨hA,aJ⟩:∃hA:Heap,hA=⟨h.nx+1,(h.bl.aW (h.nx) (aa [.int .i64 t,.int .i64 r] 36 false)),h.lo⟩:=⟨_,rfl⟩
 have aU:Le h hA:=by subst aJ; exact ((Le.refl h).new _)
 have g1:hA.bl.get (h.nx)=some (aa [.int .i64 t,.int .i64 r] 36 false):=by subst aJ; exact T.af _ _ _
 have ig:hA.nx=h.nx+1:=by subst aJ; rfl
 have ij:hA.lo=h.lo:=by subst aJ; rfl
 rw[←aJ]
 clear aJ
 have sA:=s.le aU
 have gt:=sA.kR
 simp(disch:=first|omega|simp only[Wd]<;>omega|with_unfolding_all rfl)only[Wz,mO,ED,g1,aN,gt]
 refine JG t r c.S ?_
 exact hk hA aU
theorem Mu {h:Heap} {v:Value} {Ts:List TB} (hs:Sl kQ h v Ts) (i:Nat) {b:TB} (hp:Ts[i]? = some b) :
  ∃c o,c<h.nx∧(∀(β:Type) (fl:β) (h':Heap) (κ:Value→Heap→β),ax fl 1 v (.int .i64 (i:Int)) h' κ=κ (.pointer (some ⟨c,o,none⟩)) h')∧
   ∀h',Le h h'→(∀(β:Type) (fl:β) (κ:Value→β),o_ fl (h'.bl.get c) o κ=κ (.pointer (some ⟨b.bb,0,none⟩))):=by
 obtain ⟨c,o,h1,h2,h3,hh⟩:=hs.ld xG i hp
 refine ⟨c,o,h1,h2,fun h' l β fl κ=>?_⟩
 rw[l.get c h1]
 exact cL (fl:=fl) hh 0 κ (by show 0<1; omega)
theorem E8 (tb:Nat) (h:Heap) (κ:KQ) (hk:κ (.int .i64 5) h):CallW Tryz.prog 203 [.pointer (some ⟨tb,0,none⟩)] h κ:=by
 refine aq mixed ?_
 rw[P_]
 simp(disch:=first|omega|simp only[Wd]<;>omega|with_unfolding_all rfl)only[Wz,mO]
 exact hk
theorem JN (s:jx h tb bw bp bl c vb aH N Ts W wc F B) (hlo:h.lo≤h.nx) (id:Int) (κ:KQ)
  (lF:(∀b∈Ts,∀e∈b.M,bT e.Q id=none)→κ (.pointer none) h)
  (jc:∀(k:Nat) b e p,Ts[k]? = some b→e∈b.M→bT e.Q id=some p→κ (.pointer (some ⟨b.bb,0,none⟩)) h) :
  CallW Tryz.prog 201 [.pointer (some ⟨tb,0,none⟩),.int .i64 id] h κ:=by
 refine aq mixed ?_
 rw[P9]
 have gt:=s.is.kR
 simp(disch:=first|omega|simp only[Wd]<;>omega|with_unfolding_all rfl)only[Wz,mO,A4,aN,gt,V2 s.is.kS]
 have aaD:∀(k:Nat) b e p,Ts[k]? = some b→e∈b.M→bT e.Q id=some p→Gc W id=some (k:Int)∧∃n:Nat,id=(n:Int)∧B[n]? = some true:=by
  intro k b e p hb he hf
  obtain ⟨hp,hpi⟩:=g_ hf
  refine ⟨by rw[←hpi]; exact s.wh k b hb e he p hp,iK.1 (s.ids.mem_iff.1 (List.mem_flatMap.2 ⟨b,List.mem_of_getElem? hb,jy.2 ⟨e,he,p,hp,hpi⟩⟩))⟩
 have none:Gc W id=none∨¬(∃n:Nat,id=(n:Int)∧B[n]? = some true)→∀b∈Ts,∀e∈b.M,bT e.Q id=none:=by
  intro hc b hb e he
  obtain ⟨k,hk⟩:=List.getElem?_of_mem hb
  cases hf:bT e.Q id with
  | none=>rfl
  | some p=>
   obtain ⟨h1,h2⟩:=aaD k b e p hk he hf
   rcases hc with hc | hc
   ·rw[h1] at hc; cases hc
   ·exact absurd h2 hc
 cases hl:Gc W id with
 | none=>
  simp(disch:=first|omega|simp only[Wd]<;>omega|with_unfolding_all rfl)only[Wz,Option.isSome_none,Option.getD_none]
  exact lF (none (.inl hl))
 | some v=>
  simp(disch:=first|omega|simp only[Wd]<;>omega|with_unfolding_all rfl)only[Wz,Option.isSome_some,Option.getD_some,aN,gt]
  refine NY bp bl F B id h _ s.is.dh ?_
  by_cases hb:∃n:Nat,id=(n:Int)∧B[n]? = some true
  ·obtain ⟨n,rfl,hn⟩:=hb
   have eh:(decide ((0:Int)≤(n:Int)) && (B[((n:Int)).toNat]?).getD false)=true:=by
    rw[aZ (by omega),Int.toNat_natCast,hn]; rfl
   rw[eh]
   obtain ⟨b,SH,hbi⟩:=List.mem_flatMap.1 (s.ids.mem_iff.2 (iK.2 ⟨n,rfl,hn⟩))
   obtain ⟨e,he,p,hp,hpi⟩:=jy.1 hbi
   obtain ⟨k,hk⟩:=List.getElem?_of_mem SH
   have hv:v=(k:Int):=by
    have:=s.wh k b hk e he p hp
    rw[hpi,hl] at this
    exact Option.some.inj this
   subst hv
   have hf:=FI ((s.is.bk b SH).good e he).vq.pair hp
   rw[hpi] at hf
   obtain ⟨cc,oo,_,EY,nu⟩:=Mu s.is.sl k hk
   have nu:=nu h (Le.refl _)
   simp(disch:=first|omega|simp only[Wd]<;>omega|with_unfolding_all rfl)only[Wz,aN,gt,EY,nu]
   exact jc k b e p hk he hf
  ·have eh:(decide ((0:Int)≤id) && (B[id.toNat]?).getD false)=false:=by
    by_cases h0:0≤id
    ·have hne:B[id.toNat]?≠some true:=fun e=>hb ⟨id.toNat,by omega,e⟩
     rw[aZ h0,Bool.true_and]
     cases hB:B[id.toNat]? with
     | none=>rfl
     | some x=>cases x with
      | false=>rfl
      | true=>exact absurd hB hne
    ·rw[aG h0]; rfl
   rw[eh]
   simp(disch:=first|omega|simp only[Wd]<;>omega|with_unfolding_all rfl)only[Wz]
   exact lF (none (.inr hb))
end
theorem dg.frame {h h':Heap} {bp bl:Nat} {F:List Int} {B:List Bool} (p:dg h bp bl F B) (hn:h.nx≤h'.nx) (hl:h'.lo=h.lo) (hc:∀c vs ty op,c<h.nx→h.bl.get c=some (aa vs ty op)→h'.bl.get c=h.bl.get c):dg h' bp bl F B:=by
 have pl:=p.lt
 have fl:=p.fr.lt
 obtain ⟨fs,hg,hpt⟩:=p.fr.cell
 refine ⟨⟨by omega,by rw[hl]; exact p.fr.lo,fs,(hc _ _ _ _ fl hg).trans hg,?_⟩,by omega,by rw[hl]; exact p.lo,(hc _ _ _ _ pl p.cell).trans p.cell,p.ok,p.small⟩
 rcases hpt with e | ⟨b,G,e,k1,k2,k3,k4⟩
 ·exact .inl e
 ·exact .inr ⟨b,G,e,by omega,by omega,(hc _ _ _ _ k1 k3).trans k3,k4⟩
theorem aV.frame {h h':Heap} {bb bm bp bl most clock:Nat} {M:List HE} {F:List Int} {B:List Bool} (s:aV h bb bm bp bl most M clock F B) (hn:h.nx≤h'.nx) (hl:h'.lo=h.lo) (hc:∀c vs ty op,c<h.nx→h.bl.get c=some (aa vs ty op)→h'.bl.get c=h.bl.get c) (hm:h'.bl.get bm=h.bl.get bm):aV h' bb bm bp bl most M clock F B:=by
 have sb:=s.Ky
 have sm:=s.rz
 refine ⟨by omega,by omega,by rw[hl]; exact s.Me,(hc _ _ _ _ sb s.fV).trans s.fV,hm.trans s.eG,s.ok,fun e he=>?_,s.good,s.dh.frame hn hl hc,s.ne⟩
 have a:=s.aH e he
 have al:=a.lt
 exact ⟨by omega,(hc _ _ _ _ al a.get).trans a.get,a.qv.frame hn fun c vs op h1 hg=>hc c vs _ op h1 hg⟩
section
variable {h:Heap} {tb bw bp bl:Nat} {c:fW} {vb:Value} {aH N:Nat} {Ts:List TB} {W:List IE} {wc:Nat} {F:List Int} {B:List Bool}
theorem dQ.RE (s:dQ h tb bw bp bl c vb aH Ts W wc F B) (W':List IE) (vG:Nat):dQ ⟨h.nx,h.bl.aW bw (.map (W'.map xF) vG),h.lo⟩ tb bw bp bl c vb aH Ts W' vG F B:=by
 have gw:=s.kS
 have hc:∀c vs ty op,c<h.nx→h.bl.get c=some (aa vs ty op)→(h.bl.aW bw (.map (W'.map xF) vG)).get c=h.bl.get c:=by
  intro c vs ty op _ hg
  refine T.ai _ _ ?_
  rintro rfl
  rw[hg] at gw
  exact bB gw.symm
 have hm:∀b∈Ts,(h.bl.aW bw (.map (W'.map xF) vG)).get b.bm=h.bl.get b.bm:=fun b hb=>T.ai _ _ (s.SG b hb)
 have k1:=Sl.Dr (h':=⟨h.nx,h.bl.aW bw (.map (W'.map xF) vG),h.lo⟩) s.sl s.ty (Nat.le_refl _) fun c vs op h1 hg=>hc c vs _ op h1 hg
 exact ⟨s.SF,(hc _ _ _ _ s.SF s.kR).trans s.kR,k1.1,k1.2,s.zp,s.low,T.af _ _ _,fun b hb=>(s.bk b hb).frame (Nat.le_refl _) rfl hc (hm b hb),s.y_,s.SG,s.dh.frame (Nat.le_refl _) rfl hc,s.cS,s.s1,s.hd⟩
theorem rR.RE {W':List IE} {vG:Nat}:rR Ts bw bp bl h ⟨h.nx,h.bl.aW bw (.map (W'.map xF) vG),h.lo⟩:=
 by
 refine ⟨Nat.le_refl _,rfl,fun c _ _ h2 _ _ _=>T.ai _ _ (fun e=>h2 e.symm),fun _ c _ _ h2 _ _ _=>T.ai _ _ (fun e=>h2 e.symm),fun _ c _ hx=>?_⟩
 by_cases e:bw=bp
 ·subst e
  obtain ⟨n,cap,ls,hx⟩:=hx
  exact absurd ((T.af _ _ _).symm.trans hx) bB
 ·exact (FB.congr (T.ai _ _ e)).1 hx
theorem V6 (s:dQ h tb bw bp bl c vb aH Ts W wc F B) {t r:Int} (hn:¬ck t r c.S<0):∃(k:Nat) (b:TB),ck t r c.S=(k:Int)∧Ts[k]? = some b:=by
 have hr:=uZ (t:=t) (r:=r) (s:=c.S) (by omega)
 have hS:=s.cS
 refine ⟨(ck t r c.S).toNat,Ts[(ck t r c.S).toNat]'(by omega),by omega,List.getElem?_eq_getElem _⟩
end
theorem Ds {Ts:List TB} {k:Nat} {b:TB} (hk:Ts[k]? = some b) (M':List HE) (clock':Nat):(Ts.set k ⟨b.bb,b.bm,M',clock'⟩).map (·.bm)=Ts.map (·.bm):=by
 obtain ⟨hl,rfl⟩:=List.getElem?_eq_some_iff.1 hk
 rw[List.map_set]
 refine List.ext_getElem? fun i=>?_
 rw[List.getElem?_set]
 split
 ·rename_i e; subst e
  rw[if_pos (by simpa using hl),List.getElem?_map,List.getElem?_eq_getElem hl]; rfl
 ·rfl
section
variable {h h':Heap} {tb bw bp bl:Nat} {c:fW} {vb:Value} {aH N:Nat} {Ts:List TB} {W:List IE} {wc:Nat} {F F':List Int} {B:List Bool}
theorem jx.V7 (s:jx h tb bw bp bl c vb aH N Ts W wc F B) {k:Nat} {b:TB} (hk:Ts[k]? = some b) {M':List HE} {clock':Nat} {e:HE} (he:e∈b.M) {Q1:List R5} {w1:Int} (m:jW h h' b.bb b.bm bp bl aH b.M M' clock' F' B e Q1 w1)
  (hid:Q1.map (·.id)=e.Q.map (·.id)) (hw:w1≤e.w+1):jx h' tb bw bp bl c vb aH (N+1) (Ts.set k ⟨b.bb,b.bm,M',clock'⟩) W wc F' B:=by
 have hb:=List.mem_of_getElem? hk
 have is:=s.is.bk b hb
 have hp:=m.JJ is he hid
 have hwe:=s.wb b hb e he
 exact s.step hk m.is m.fr (fun X hX=>(hp.append_right X).trans hX) (fun i hi=>hp.mem_iff.1 hi) (m.sub he) (m.set.wb (s.wb b hb) (by omega)) (m.len is (s.len b hb) he) rfl
theorem jx.left (s:jx h tb bw bp bl c vb aH N Ts W wc F B) {k:Nat} {b:TB} (hk:Ts[k]? = some b) {M':List HE} {clock':Nat} {e:HE} (he:e∈b.M) {p:R5} {n:Nat} (hf:bT e.Q (n:Int)=some p) (zG:B[n]? = some true) (m:jW h h' b.bb b.bm bp bl aH b.M M' clock' F' (B.set n false) e (e.Q.filter fun r=>!bP (n:Int) r) e.w) :
  jx h' tb bw bp bl c vb aH (N+1) (Ts.set k ⟨b.bb,b.bm,M',clock'⟩) W wc F' (B.set n false):=by
 have hb:=List.mem_of_getElem? hk
 have is:=s.is.bk b hb
 have hp:=m.JK is he hf
 have hwe:=s.wb b hb e he
 refine s.step hk m.is m.fr (fun X hX=>?_) (fun i hi=>hp.mem_iff.2 (List.mem_append.2 (.inl hi))) (m.sub he) (m.set.wb (s.wb b hb) (by omega)) (m.len is (s.len b hb) he) (List.length_set ..)
 have h1:=(hp.append_right X).symm.trans (hX.trans (FY zG))
 rw[List.append_assoc] at h1
 have h2:=(List.Perm.append_left (eV M') (List.perm_append_comm (l₁:=X) (l₂:=[(n:Int)]))).trans h1
 rw[←List.append_assoc] at h2
 exact (List.perm_append_right_iff _).1 h2
theorem JO (s:jx h tb bw bp bl c vb aH N Ts W wc F B) (hlo:h.lo≤h.nx) (id:Int) (κ:KQ)
  (Rj:(∀b∈Ts,∀e∈b.M,bT e.Q id=none)→κ (.tuple ⟨[.slice none 0 0,.int .i64 5]⟩) h)
  (lF:∀(k:Nat) (b:TB) h' M' clock' F' v' e p (n:Nat),Ts[k]? = some b→e∈b.M→bT e.Q id=some p→id=(n:Int)→B[n]? = some true→F'.Perm (F++[(n:Int)])→
   jW h h' b.bb b.bm bp bl aH b.M M' clock' F' (B.set n false) e (e.Q.filter fun r=>!bP id r) e.w→wq h h' v' (de (gj (e.Q.filter fun r=>!bP id r)+1) (e.Q.filter fun r=>!bP id r)).2→jx h' tb bw bp bl c vb aH (N+1) (Ts.set k ⟨b.bb,b.bm,M',clock'⟩) W wc F' (B.set n false)→κ (.tuple ⟨[v',.int .i64 0]⟩) h') :
  CallW Tryz.prog 253 [.pointer (some ⟨tb,0,none⟩),.int .i64 id] h κ:=by
 refine aq mixed ?_
 rw[Qr]
 refine JN s hlo id _ ?_ ?_
 ·intro hno
  simp(disch:=first|omega|simp only[Wd]<;>omega|with_unfolding_all rfl)only[Wz,u5]
  refine E8 tb h _ ?_
  exact Rj hno
 ·intro k b e p hk he hf
  have hb:=List.mem_of_getElem? hk
  simp(disch:=first|omega|simp only[Wd]<;>omega|with_unfolding_all rfl)only[Wz,gM]
  refine F0 (s.is.bk b hb) hlo (s.JL hk) id _ ?_ ?_
  ·intro h1 hno _
   rw[hno e he] at hf; cases hf
  ·intro h1 M' clock' F' v' e1 p1 n zj SI hid zG hpF mv ho
   simp(disch:=first|omega|simp only[Wd]<;>omega|with_unfolding_all rfl)only[Wz]
   have mv':=mv
   have hf':=SI
   rw[hid] at hf' mv'
   exact lF k b h1 M' clock' F' v' e1 p1 n hk zj SI hid zG hpF mv ho (s.left hk zj hf' zG mv')
theorem BX {β:Type} {fl:β} (cn:Bool) (b o:Nat) (h:Heap) (κ:Value→Heap→β):au fl Tryz.prog .neq 100 cn false (.pointer (some ⟨b,o,none⟩)) (.pointer none) h κ=κ (.bool true) h:=by simp only[au,Of,bN,Bool.not_false]
end
theorem dg.u6 {h h':Heap} {bp bl:Nat} {F:List Int} {B:List Bool} (p:dg h bp bl F B) (hn:h.nx≤h'.nx) (hl:h'.lo=h.lo) (hc:∀c vs ty op,c<h.nx→ty≠182→ty≠147→h.bl.get c=some (aa vs ty op)→h'.bl.get c=h.bl.get c):dg h' bp bl F B:=by
 have pl:=p.lt
 have fl:=p.fr.lt
 obtain ⟨fs,hg,hpt⟩:=p.fr.cell
 refine ⟨⟨by omega,by rw[hl]; exact p.fr.lo,fs,(hc _ _ _ _ fl (by decide) (by decide) hg).trans hg,?_⟩,by omega,by rw[hl]; exact p.lo,(hc _ _ _ _ pl (by decide) (by decide) p.cell).trans p.cell,p.ok,p.small⟩
 rcases hpt with e | ⟨b,G,e,k1,k2,k3,k4⟩
 ·exact .inl e
 ·exact .inr ⟨b,G,e,by omega,by omega,(hc _ _ _ _ k1 (by decide) (by decide) k3).trans k3,k4⟩
theorem aV.u6 {h h':Heap} {bb bm bp bl most clock:Nat} {M:List HE} {F:List Int} {B:List Bool} (s:aV h bb bm bp bl most M clock F B) (hn:h.nx≤h'.nx) (hl:h'.lo=h.lo) (hc:∀c vs ty op,c<h.nx→ty≠182→ty≠147→h.bl.get c=some (aa vs ty op)→h'.bl.get c=h.bl.get c) (hm:h'.bl.get bm=h.bl.get bm):aV h' bb bm bp bl most M clock F B:=by
 have sb:=s.Ky
 have sm:=s.rz
 refine ⟨by omega,by omega,by rw[hl]; exact s.Me,(hc _ _ _ _ sb (by decide) (by decide) s.fV).trans s.fV,hm.trans s.eG,s.ok,fun e he=>?_,s.good,s.dh.u6 hn hl hc,s.ne⟩
 have a:=s.aH e he
 have al:=a.lt
 exact ⟨by omega,(hc _ _ _ _ al (by decide) (by decide) a.get).trans a.get,a.qv.frame hn fun c vs op h1 hg=>hc c vs _ op h1 (by decide) (by decide) hg⟩
theorem BY (H:Int) (bp:Nat) (h:Heap) (κ:KQ) (hh:¬(1≤H∧H≤64)) (hk:κ (.tuple ⟨[.pointer none,.int .i64 2]⟩) h):CallW Tryz.prog 109 [.int .i64 H,.pointer (some ⟨bp,0,none⟩)] h κ:=by
 refine aq mixed ?_
 rw[IK]
 by_cases h1:H<1
 ·simp(disch:=first|omega|simp only[Wd]<;>omega|with_unfolding_all rfl)only[Wz,aZ h1]
  exact hk
 ·simp(disch:=first|omega|simp only[Wd]<;>omega|with_unfolding_all rfl)only[Wz,aG h1,fI (show (64:Int)<H by omega)]
  exact hk
theorem Ge (R:Int) (h:Heap) (κ:KQ) (hh:128<R) (hk:κ (.tuple ⟨[.pointer none,.int .i64 2]⟩) h):CallW Tryz.prog 108 [.int .i64 R] h κ:=by
 refine aq mixed ?_
 rw[IJ]
 simp(disch:=first|omega|simp only[Wd]<;>omega|with_unfolding_all rfl)only[Wz,c6 (show (0:Int)≤R by omega),fI hh]
 exact hk
theorem Mv (S H R P:Int) (bp:Addr) (b:Nat) (κ:List Value→Prop):bD False [(6,1)] [.map (some b)] [.int .i64 S,.int .i64 H,.int .i64 R,.int .i64 P,.pointer (some bp),.slice none 0 0,.map none] κ=κ [.int .i64 S,.int .i64 H,.int .i64 R,.int .i64 P,.pointer (some bp),.slice none 0 0,.map (some b)]:=by kernel_rfl
theorem BZ (n:Nat):iV (List.replicate n false)=[]:=by
 rw[List.eq_nil_iff_forall_not_mem]
 intro x hx
 obtain ⟨k,_,hn⟩:=iK.1 hx
 rw[List.getElem?_replicate] at hn
 split at hn<;>simp at hn
def u7 (c:fW):Value:=.agg ⟨[.int .i64 c.S,.int .i64 c.H,.int .i64 c.R,.int .i64 c.P]⟩
def c9 (c:fW):Prop:=1≤c.S∧c.S≤16∧0≤c.P∧c.P≤8∧1≤c.R∧c.R≤128∧1≤c.H∧c.H≤64
theorem Mw (c:fW) (h:Heap) (κ:KQ) (hlo:h.lo≤h.nx)
  (xH:∀h' (e:Int),e=2→¬c9 c→Le h h'→κ (.tuple ⟨[.pointer none,.int .i64 e]⟩) h')
  (Kz:∀h' tb bw bp bl vb aH Ts F,c9 c→jx h' tb bw bp bl c vb aH 0 Ts [] 0 F (List.replicate c.R.toNat false)→(∀b∈Ts,h.nx≤b.bm)→h.nx≤bw→h.nx≤bp→h.nx≤bl→Le h h'→(∀x,FB h' bp x→h.nx≤x)→κ (.tuple ⟨[.pointer (some ⟨tb,0,none⟩),.int .i64 0]⟩) h') :
  CallW Tryz.prog 67 [u7 c] h κ:=by
 refine aq mixed ?_
 rw[Ur]
 simp(disch:=first|omega|simp only[Wd]<;>omega|with_unfolding_all rfl)only[Wz,u7]
 obtain ⟨hA,aJ⟩:∃hA:Heap,hA=⟨h.nx+1,(h.bl.aW (h.nx) (aa [.int .i64 c.S,.int .i64 c.H,.int .i64 c.R,.int .i64 c.P] 30 false)),h.lo⟩:=⟨_,rfl⟩
 have aU:Le h hA:=by subst aJ; exact ((Le.refl h).new _)
 have g1:hA.bl.get (h.nx)=some (aa [.int .i64 c.S,.int .i64 c.H,.int .i64 c.R,.int .i64 c.P] 30 false):=by subst aJ; exact T.af _ _ _
 have ig:hA.nx=h.nx+1:=by subst aJ; rfl
 have ij:hA.lo=h.lo:=by subst aJ; rfl
 rw[←aJ]
 clear aJ
 by_cases SJ:c.S<1
 ·simp(disch:=first|omega|simp only[Wd]<;>omega|with_unfolding_all rfl)only[Wz,aZ SJ]
  exact xH _ 2 rfl (by unfold c9; omega) aU
 by_cases V8:16<c.S
 ·simp(disch:=first|omega|simp only[Wd]<;>omega|with_unfolding_all rfl)only[Wz,aG SJ,g1,aZ V8]
  exact xH _ 2 rfl (by unfold c9; omega) aU
 by_cases Xt:c.P<0
 ·simp(disch:=first|omega|simp only[Wd]<;>omega|with_unfolding_all rfl)only[Wz,aG SJ,g1,aG V8,aZ Xt]
  exact xH _ 2 rfl (by unfold c9; omega) aU
 by_cases hP2:8<c.P
 ·simp(disch:=first|omega|simp only[Wd]<;>omega|with_unfolding_all rfl)only[Wz,aG SJ,g1,aG V8,aG Xt,aZ hP2]
  exact xH _ 2 rfl (by unfold c9; omega) aU
 by_cases hR1:c.R<1
 ·simp(disch:=first|omega|simp only[Wd]<;>omega|with_unfolding_all rfl)only[Wz,aG SJ,g1,aG V8,aG Xt,aG hP2,aZ hR1]
  exact xH _ 2 rfl (by unfold c9; omega) aU
 simp(disch:=first|omega|simp only[Wd]<;>omega|with_unfolding_all rfl)only[Wz,aG SJ,g1,aG V8,aG Xt,aG hP2,aG hR1,EI]
 by_cases hR2:128<c.R
 ·refine Ge c.R hA _ hR2 ?_
  simp(disch:=first|omega|simp only[Wd]<;>omega|with_unfolding_all rfl)only[Wz]
  exact xH _ 2 rfl (by unfold c9; omega) aU
 obtain ⟨R,eR⟩:∃R:Nat,c.R=(R:Int):=⟨c.R.toNat,by omega⟩
 rw[eR]
 refine FV R hA _ (by omega) (by omega) ?_
 intro bp bl h2 F p hne h2p h2l hF wu aaH
 have n2:=wu.nx
 have l2:=wu.lo
 have afM:=p.fr.lt
 have afN:=p.lt
 have g12:=(wu.get h.nx (by omega)).trans g1
 rw[eR] at g12
 simp(disch:=first|omega|simp only[Wd]<;>omega|with_unfolding_all rfl)only[Wz,EH,g12,Mv,gH]
 obtain ⟨hB,b6⟩:∃hB:Heap,hB=⟨h2.nx+1+1,((h2.bl.aW (h2.nx) (.map [] 0)).aW (h2.nx+1) (aa [.int .i64 c.S,.int .i64 c.H,.int .i64 (R:Int),.int .i64 c.P,.pointer (some ⟨bp,0,none⟩),.slice none 0 0,.map (some h2.nx)] 147 false)),h2.lo⟩:=⟨_,rfl⟩
 have bJ:Le h2 hB:=by subst b6; exact (((Le.refl h2).new _).new _)
 have gw:hB.bl.get (h2.nx)=some (.map [] 0):=by subst b6; exact (T.ai _ _ (by omega)).trans (T.af _ _ _)
 have gt:hB.bl.get (h2.nx+1)=some (aa [.int .i64 c.S,.int .i64 c.H,.int .i64 (R:Int),.int .i64 c.P,.pointer (some ⟨bp,0,none⟩),.slice none 0 0,.map (some h2.nx)] 147 false):=by subst b6; exact T.af _ _ _
 have BD:hB.nx=h2.nx+1+1:=by subst b6; rfl
 have BE:hB.lo=h2.lo:=by subst b6; rfl
 rw[←b6]
 clear b6
 have sn:=bJ.nx
 have sq:=bJ.lo
 have g12:=(bJ.get _ (by omega)).trans g12
 by_cases hH:1≤c.H∧c.H≤64
 case neg=>
  refine ⟨fun n l h1=>slot l 26=.int .i64 0∧HQ hB h1,⟨0,rfl,rfl⟩,?_⟩
  rintro n l h1 ⟨s1,hq⟩
  cases (show hB=h1 from hq)
  simp(disch:=first|omega|simp only[Wd]<;>omega|with_unfolding_all rfl)only[Wz,s1,fI (show (0:Int)<c.S by omega),yO,g12]
  refine BY c.H bp hB _ hH ?_
  simp(disch:=first|omega|simp only[Wd]<;>omega|with_unfolding_all rfl)only[Wz]
  exact xH _ 2 rfl (by unfold c9; omega) ((aU.trans wu).trans bJ)
 obtain ⟨aH,eH⟩:∃n:Nat,c.H=(n:Int):=⟨c.H.toNat,by omega⟩
 obtain ⟨S,eS⟩:∃n:Nat,c.S=(n:Int):=⟨c.S.toNat,by omega⟩
 refine ⟨fun n l h1=>∃(i:Nat) (Ts:List TB) (v:Value),slot l 26=.int .i64 (i:Int)∧n=S-i∧i≤S∧Ts.length=i∧h1.bl.get (h2.nx+1)=some (aa [.int .i64 c.S,.int .i64 c.H,.int .i64 (R:Int),.int .i64 c.P,.pointer (some ⟨bp,0,none⟩),v,.map (some h2.nx)] 147 false)∧
   h1.bl.get h2.nx=some (.map [] 0)∧fS kQ h2 182 h1 v Ts∧dg h1 bp bl F (List.replicate R false)∧(∀b∈Ts,aV h1 b.bb b.bm bp bl aH [] 0 F (List.replicate R false)∧b.M=[]∧b.clock=0∧hB.nx≤b.bm)∧Ts.Pairwise (fun a b=>a.bm≠b.bm)∧Le h2 h1∧hB.nx≤h1.nx,
  ⟨_,0,[],_,rfl,rfl,by omega,rfl,gt,gw,.inl ⟨rfl,.inl rfl⟩,p.le bJ,fun b hb=>(nomatch hb),List.Pairwise.nil,bJ,Nat.le_refl _⟩,?_⟩
 rintro n l h1 ⟨i,Ts,v,s1,rfl,hi,hTl,gt1,SK,ho,p1,hbk,hds,b_,nB⟩
 have n1:=b_.nx
 have l1:=b_.lo
 by_cases hlt:i<S
 ·have aaI:=(b_.get h.nx (by omega)).trans ((wu.get h.nx (by omega)).trans g1)
  simp(disch:=first|omega|simp only[Wd]<;>omega|with_unfolding_all rfl)only[Wz,s1,fI (show (i:Int)<c.S by omega),yO,aaI,eH]
  refine BR aH bp h1 _ (by omega) (by omega) ?_
  intro h3 f_ nx3 gm3 Xc
  have n3:=f_.nx
  have l3:=f_.lo
  have Xu:=(f_.get _ (by omega)).trans gt1
  obtain ⟨vx,vc,ev,_⟩:=(show Sl kQ h1 v Ts from ho.sl)
  simp(disch:=first|omega|simp only[Wd]<;>omega|with_unfolding_all rfl)only[Wz,EG,aN,Xu]
  obtain ⟨h4,e4⟩:∃h4:Heap,h4=⟨h3.nx+1,h3.bl.aW h3.nx (aa [.pointer (some ⟨h1.nx+1,0,none⟩)] 182 false),h3.lo⟩:=⟨_,rfl⟩
  have su:Le h3 h4:=by rw[e4]; exact (Le.refl h3).new _
  have g4:h4.bl.get h3.nx=some (aa ([(⟨h1.nx+1,h1.nx,[],0⟩:TB)].flatMap kQ) 182 false):=by rw[e4]; exact T.af _ _ _
  have nx4:h4.nx=h3.nx+1:=by rw[e4]
  have l4:h4.lo=h3.lo:=by rw[e4]
  try rw[←e4]
  clear e4
  have JP:=f_.trans su
  have SL:=(su.get _ (by omega)).trans Xu
  refine h_ (enc:=kQ) (a:=h2) (L:=Ts) (M:=[(⟨h1.nx+1,h1.nx,[],0⟩:TB)]) xG Gd (by decide) (by decide) (ho.le JP) (Sl.new (by omega) g4 _) (b_.trans JP) (by simp; omega) (by omega) _ ?_
  intro v5 h5 yT xy nx5 afQ l5 nY
  have gt5:=(nY (h2.nx+1) (by omega) (by rw[SL]; exact bf)).trans SL
  obtain ⟨Xv,Xw,Xx,_⟩:=(show Sl kQ h5 v5 _ from yT.sl)
  subst Xx
  simp(disch:=first|omega|simp only[Wd]<;>omega|with_unfolding_all rfl)only[Wz,aN,gt5]
  have FZ:∀c vs ty op,c<h4.nx→ty≠182→h4.bl.get c=some (aa vs ty op)→h5.bl.get c=h4.bl.get c:=fun c vs ty op hc Gf hg=>nY c hc (by rw[hg]; exact aT Gf)
  have fm5:∀c es cl,c<h4.nx→h4.bl.get c=some (.map es cl)→h5.bl.get c=h4.bl.get c:=fun c es cl hc hg=>nY c hc (by rw[hg]; exact bB)
  obtain ⟨h6,e6⟩:∃h6:Heap,h6=⟨h5.nx,h5.bl.aW (h2.nx+1) (aa [.int .i64 c.S,.int .i64 c.H,.int .i64 (R:Int),.int .i64 c.P,.pointer (some ⟨bp,0,none⟩),.slice Xv (Ts++[(⟨h1.nx+1,h1.nx,[],0⟩:TB)]).length Xw,.map (some h2.nx)] 147 false),h5.lo⟩:=⟨_,rfl⟩
  have gt6:h6.bl.get (h2.nx+1)=some (aa [.int .i64 c.S,.int .i64 c.H,.int .i64 (R:Int),.int .i64 c.P,.pointer (some ⟨bp,0,none⟩),.slice Xv (Ts++[(⟨h1.nx+1,h1.nx,[],0⟩:TB)]).length Xw,.map (some h2.nx)] 147 false):=by rw[e6]; exact T.af _ _ _
  have V9:∀d,d≠h2.nx+1→h6.bl.get d=h5.bl.get d:=fun d hd=>by rw[e6]; exact T.ai _ _ (fun e=>hd e.symm)
  have I_:fS kQ h2 182 h6 (.slice Xv (Ts++[(⟨h1.nx+1,h1.nx,[],0⟩:TB)]).length Xw) (Ts++[(⟨h1.nx+1,h1.nx,[],0⟩:TB)]):=by rw[e6]; exact fS.put yT (by rw[gt5]; exact bf) _
  have yZ:Le h2 h6:=by rw[e6]; exact xy.set (b:=h2.nx+1) (by omega) _
  have nx6:h6.nx=h5.nx:=by rw[e6]
  have l6:h6.lo=h5.lo:=by rw[e6]
  rw[←e6]
  clear e6
  have hc6:∀d vs ty op,d<h4.nx→ty≠182→ty≠147→h4.bl.get d=some (aa vs ty op)→h6.bl.get d=h4.bl.get d:=by
   intro d vs ty op hd h1 Xr hg
   refine (V9 d ?_).trans (FZ d vs ty op hd h1 hg)
   rintro rfl
   rw[hg] at SL
   exact aT Xr SL
  have hm6:∀d es cl,d<h4.nx→h4.bl.get d=some (.map es cl)→h6.bl.get d=h4.bl.get d:=by
   intro d es cl hd hg
   refine (V9 d ?_).trans (fm5 d es cl hd hg)
   rintro rfl
   rw[hg] at SL
   exact bB SL
  have gw4:=(JP.get h2.nx (by omega)).trans SK
  have p4:=p1.le JP
  have p6:=p4.u6 (by omega) (by omega) hc6
  have qM:aV h4 (h1.nx+1) h1.nx bp bl aH [] 0 F (List.replicate R false):=⟨by omega,by omega,by omega,(su.get _ (by omega)).trans Xc,(su.get _ (by omega)).trans gm3,⟨List.Pairwise.nil,List.Pairwise.nil,fun e he=>(nomatch he)⟩,fun e he=>(nomatch he),fun e he=>(nomatch he),p4,hne⟩
  have Aq:∀b∈Ts,b.bm<h1.nx:=fun b hb=>(hbk b hb).1.rz
  simp(disch:=first|omega|simp only[Wd]<;>omega|with_unfolding_all rfl)only[Wz,s1]
  refine ⟨_,by omega,i+1,Ts++[⟨h1.nx+1,h1.nx,[],0⟩],.slice Xv (Ts++[(⟨h1.nx+1,h1.nx,[],0⟩:TB)]).length Xw,rfl,rfl,by omega,by simp; omega,by rw[←eH]; exact gt6,(hm6 _ _ _ (by omega) gw4).trans gw4,I_,p6,?_,?_,yZ,by omega⟩
  ·intro b hb
   rcases List.mem_append.1 hb with hb | hb
   ·obtain ⟨k1,k2,k3,k4⟩:=hbk b hb
    have k5:=k1.le JP
    exact ⟨k5.u6 (by omega) (by omega) hc6 (hm6 _ _ _ k5.rz k5.eG),k2,k3,k4⟩
   ·rw[List.mem_singleton] at hb; subst hb
    exact ⟨qM.u6 (by omega) (by omega) hc6 (hm6 _ _ _ qM.rz qM.eG),rfl,rfl,nB⟩
  ·exact pG hds fun q hq=>Nat.ne_of_lt (Aq q hq)
 ·have hiS:i=S:=by omega
  simp(disch:=first|omega|simp only[Wd]<;>omega|with_unfolding_all rfl)only[Wz,s1,c6 (show c.S≤(i:Int) by omega)]
  have vS:∀b∈Ts,b.M=[]:=fun b hb=>(hbk b hb).2.1
  have hM:∀(k:Nat) (b:TB),Ts[k]? = some b→b.M=[]:=fun k b hb=>vS b (List.mem_of_getElem? hb)
  have wv:(Ts.flatMap fun b=>eV b.M)=[]:=by
   rw[List.flatMap_eq_nil_iff]
   intro b hb
   rw[vS b hb]; rfl
  have Xy:c.R.toNat=R:=by omega
  refine Kz h1 (h2.nx+1) h2.nx bp bl v aH Ts F (by unfold c9; omega) ⟨⟨by omega,by rw[eR]; exact gt1,ho.sl,tJ.own ho,by omega,by omega,SK,fun b hb=>?_,hds,fun b hb=>?_,by rw[Xy]; exact p1,by omega,by omega,by omega⟩,?_,?_,?_,?_,?_,?_,by omega⟩ (fun b hb=>?_) (by omega) (by omega) (by omega) ?_ ?_
  ·obtain ⟨k1,k2,k3,k4⟩:=hbk b hb
   rw[k2,k3,Xy]; exact k1
  ·have:=(hbk b hb).2.2.2; omega
  ·rw[wv,BZ]
  ·intro k b hk e he; rw[hM k b hk] at he; nomatch he
  ·intro k b hk e he; rw[hM k b hk] at he; nomatch he
  ·intro b hb e he; rw[vS b hb] at he; nomatch he
  ·intro b hb; rw[vS b hb]; exact Nat.zero_le _
  ·rw[List.length_replicate]; omega
  ·have:=(hbk b hb).2.2.2; omega
  ·exact aU.trans (wu.trans b_)
  ·intro x hx
   have:=aaH x ((FB.congr (b_.get bp p.fr.lt)).1 hx)
   omega
end Go.Proofs
