/-
  PROVED HERE: a part of the proof (VaiA, VaiF, VaiY, Srt, VaiE, VaiB).
-/
import Derived.Test.YtmjghbjpdoeemaaGreatDoorV4
import Derived.Test.YtmjghbjpdoeemaaGreatDoorV3
set_option linter.unusedVariables false
set_option linter.unusedSimpArgs false
namespace Go.Vai
open Go
section
variable {α:Type} {s:Nat} {enc:α→List Value}
set_option maxRecDepth 20000 in
theorem h_ {a h:Heap} {e:TypeId} {z:List Value} {v x:Value} {L M:List α} (he:∀a:α,(enc a).length=s) (hone:∀a:α,(enc a).all dR=true) (hs0:0<s) (hs1:s≤100) (ho:fS enc a e h v L) (hx:Sl enc h x M)
  (hle:Le a h) (hb:L.length+M.length≤1000000) (hal:h.lo≤h.nx) (κ:KQ)
  (hk:∀v' h',fS enc a e h' v' (L++M)→Le a h'→h'.nx≤h.nx+1→h.nx≤h'.nx→h'.lo=h.lo→(∀b,b<h.nx→h.bl.get b≠some (aa (L.flatMap enc) e true)→h'.bl.get b=h.bl.get b)→κ v' h'):bE False e s z false v x h κ:=by
 by_cases hM:M=[]
 ·subst hM
  rw[append_nil hx (by rcases ho with ⟨rfl,rfl | ⟨b,o,rfl⟩⟩ | ⟨b,rfl,_⟩<;>exact ⟨_,_,_,rfl⟩)]
  exact hk v h (by simpa using ho) hle (Nat.le_succ _) (Nat.le_refl _) rfl (fun _ _ _=>rfl)
 ·obtain ⟨m,hm⟩:∃m,M.length=m+1:=⟨M.length-1,by have:=List.length_pos_iff.2 hM; omega⟩
  have hfl:=bh (enc:=enc) he
  have gY:=hx.first (β:=Prop) (fl:=False) he
  obtain ⟨y,cap,rfl,h2⟩:=hx
  have hml:∀K:List α,K.length≤1000000→(K.flatMap enc).length≤1000000000000:=fun K hK=>by
   rw[hfl]
   have:=Nat.mul_le_mul hK hs1
   omega
  have fresh:∀(hh:Heap) (ws:List Value),ws=(L++M).flatMap enc→Le a hh→hh.nx=h.nx→hh.lo=h.lo→(∀b,b<h.nx→h.bl.get b≠some (aa (L.flatMap enc) e true)→hh.bl.get b=h.bl.get b)→dL False ws e true hh fun b h'=>κ (.slice (some ⟨b,0,none⟩) (L.length+M.length) aM) h':=by
   intro hh ws hw Nj W6 hlo hgt
   subst hw
   unfold dL
   rw[gX _ _ _ _ (hml _ (by simp; omega)),dn]
   refine hk _ _ (.inr ⟨hh.nx,by simp,Nj.nx,Nat.lt_succ_self _,by show hh.lo≤_; omega,T.af _ _ _⟩) (Nj.new _) (by show hh.nx+1≤_; omega) (by show h.nx≤hh.nx+1; omega) hlo (fun b hb hn=>(T.ai _ _ (by omega)).trans (hgt b hb hn))
  rcases ho with ⟨rfl,hv⟩ | ⟨b,rfl,h3,h4,h5,h6⟩
  ·have hF:=fresh h (M.flatMap enc) (by simp) hle rfl rfl (fun _ _ _=>rfl)
   simp only[List.length_nil,Nat.zero_add] at hF
   rcases hv with rfl | ⟨b,o,rfl⟩
   ·unfold bE jH
    simp only
    rw[gY]
    simp only[hm,bG]
    rw[show Nat.ble (Nat.add 0 (m+1)) 1000000000=true from Nat.ble_eq_true_of_le (by show 0+(m+1)≤_; omega)]
    rw[hm] at hF
    have e1:Nat.add 0 (m+1)=m+1:=by show 0+(m+1)=_; omega
    rw[e1]
    exact hF
   ·unfold bE jH
    simp only
    rw[gY]
    simp only[hm,bG]
    have e1:Nat.add 0 (m+1)=m+1:=by show 0+(m+1)=_; omega
    rw[e1,show Nat.ble (m+1) 1000000000=true from Nat.ble_eq_true_of_le (by omega)]
    rw[hm] at hF
    show eO False h s 0 _ _
    rw[iF _ _ _ _ _ (by simp)]
    exact hF
  ·unfold bE jH
   simp only
   rw[gY]
   simp only[hm,bG]
   have e1:Nat.add L.length (m+1)=L.length+(m+1):=rfl
   rw[e1,show Nat.ble (L.length+(m+1)) 1000000000=true from Nat.ble_eq_true_of_le (by omega)]
   have e2:Nat.beq aM fk=false:=by decide
   have e3:Nat.beq aM aM=true:=Nat.beq_refl _
   simp only[e2,e3,h6]
   have e4:Nat.ble (Nat.add 0 (Nat.mul (L.length+(m+1)) s)) (L.flatMap enc).length=false:=by
    rw[hfl]
    cases O6:Nat.ble (Nat.add 0 (Nat.mul (L.length+(m+1)) s)) (L.length*s) with
    | false=>rfl
    | true=>
     have h7:0+(L.length+(m+1))*s≤L.length*s:=Nat.le_of_ble_eq_true O6
     rw[Nat.add_mul,Nat.succ_mul] at h7
     omega
   have e5:(M.flatMap enc).all dR=true:=by
    rw[List.all_flatMap]; simp only[List.all_eq_true]; intro x _; exact List.all_eq_true.1 (hone x)
   simp only[aa,Nat.beq_refl,e4,e5,Bool.and_self]
   have hh:Has (h.bl.get b) 0 (L.flatMap enc):=by rw[h6]; exact Has.all
   rw[lp hh s L.length _ _ _ (hfl L).symm,bL _ _ _ _ h5]
   have hF:=fresh ⟨h.nx,h.bl.aW b (.dead (L.flatMap enc).length e),h.lo⟩ (L.flatMap enc++M.flatMap enc) (by simp) (hle.set h3 _) rfl rfl (fun b' _ hn=>T.ai _ _ (fun e=>hn (by rw[←e]; exact h6)))
   rw[hm] at hF
   exact hF
end
theorem bf {vs ws:List Value} {e e':TypeId}:(some (aa vs e false):Option bC)≠some (aa ws e' true):=by
 intro h
 unfold aa at h
 simp only[Option.some.injEq,bC.cells.injEq] at h
 exact absurd h.2.2.2 (by decide)
theorem aT {vs ws:List Value} {e e':TypeId} {p p':Bool} (hn:e≠e'):(some (aa vs e p):Option bC)≠some (aa ws e' p'):=by
 intro h
 unfold aa at h
 simp only[Option.some.injEq,bC.cells.injEq] at h
 exact hn h.2.2.1
theorem bB {es:List MapEntry} {c:Nat} {ws:List Value} {e:TypeId} {p:Bool}:(some (.map es c):Option bC)≠some (aa ws e p):=by
 intro h
 unfold aa at h
 cases h
end Go.Vai

namespace Go.Vai
open Go
section
variable {α:Type} {s:Nat} {enc:α→List Value}
theorem I7 (A E C ws:List Value) (j:Nat) (h:j+ws.length≤E.length):over (A++E++C) (A.length+j) ws=A++over E j ws++C:=by
 unfold over
 have e1:(A++E++C).take (A.length+j)=A++E.take j:=by
  rw[List.append_assoc,List.take_append,List.take_of_length_le (by omega),show A.length+j-A.length=j by omega,List.take_append_of_le_length (by omega)]
 have e2:(A++E++C).drop (A.length+j+ws.length)=E.drop (j+ws.length)++C:=by
  rw[List.append_assoc,List.drop_append,List.drop_of_length_le (by omega),List.nil_append,show A.length+j+ws.length-A.length=j+ws.length by omega,List.drop_append_of_le_length h]
 rw[e1,e2]
 simp only[List.append_assoc]
theorem ia (he:∀a:α,(enc a).length=s) {K:List α} {i j:Nat} {p p':α} {ws:List Value} (hp:K[i]? = some p) (hj:j+ws.length≤s) (hw:over (enc p) j ws=enc p'):over (K.flatMap enc) (i*s+j) ws=(K.set i p').flatMap enc:=by
 obtain ⟨hi,rfl⟩:=List.getElem?_eq_some_iff.1 hp
 have e1:K.flatMap enc=(K.take i).flatMap enc++enc K[i]++(K.drop (i+1)).flatMap enc:=by
  have e0:K=K.take i++(K[i]::K.drop (i+1)):=by rw[List.getElem_cons_drop,List.take_append_drop]
  have:=congrArg (List.flatMap enc) e0
  rw[List.flatMap_append,List.flatMap_cons] at this
  rw[List.append_assoc]; exact this
 have e2:(K.set i p').flatMap enc=(K.take i).flatMap enc++enc p'++(K.drop (i+1)).flatMap enc:=by
  rw[List.set_eq_take_append_cons_drop,if_pos hi]
  simp[List.flatMap_append]
 have hl:((K.take i).flatMap enc).length=i*s:=by rw[bh he,List.length_take,Nat.min_eq_left (by omega)]
 rw[e1,e2,←hl,I7 _ _ _ _ _ (by rw[he]; exact hj),hw]
theorem ic (he:∀a:α,(enc a).length=s) {K:List α} {i j:Nat} {p:α} (hp:K[i]? = some p) (hj:j<s):(K.flatMap enc)[i*s+j]? = (enc p)[j]?:=by
 obtain ⟨hi,rfl⟩:=List.getElem?_eq_some_iff.1 hp
 have:=yz he K i hi
 have e:((((K.flatMap enc).drop (i*s)).take s)[j]?)=(enc K[i])[j]?:=by rw[this]
 rw[List.getElem?_take_of_lt hj,List.getElem?_drop] at e
 exact e
end
end Go.Vai

namespace Go.Vai
open Go
def VD (P:Program) (skip:FuncId→Bool):ji Prop:=⟨fun f=>match skip f with | true=>none | false=>some (CallW P f),And⟩
theorem De (P:Program) (skip:FuncId→Bool):fc (fun p:Prop=>p) (VD P skip) P:=by
 refine ⟨fun x y h=>h,fun f g hg args args' h φ w κ ha hr hgood=>?_⟩
 unfold VD at hg
 simp only at hg
 split at hg
 ·cases hg
 ·cases hg
  exact hgood φ w args' ha hr
theorem F3 {P:Program} (hm:P.follows .mixedOrders=true) {skip:FuncId→Bool} {f:FuncId} {args:List Value} {h:Heap} {κ:Value→Heap→Prop} (n:Nat)
  (hg:jK False (VD P skip) P (run False (VD P skip) P n) f args h κ):CallW P f args h κ:=by
 intro φ w args' ha hr
 exact ez (good:=fun p:Prop=>p) (fl:=False) (fun h=>h) (De P skip) (wP (fun h=>h) (De P skip) (ou (fun h=>h) (De P skip) hm) n).1 ha hr hg
def Jj (P:Program) (f:FuncId):Code:=match sI P f with | .mk c _ _=>c | .none=>.skip
def yX:Code→Code | .seq a _=>a | c=>c
def yY:Code→Code | .seq _ b=>b | c=>c
def VE:Code→Code | .block _ c=>c | .loop c=>c | .scope c=>c | c=>c
def rfA:Code→Code | .rangeFunc _ _ a _=>a | c=>c
def rfB:Code→Code | .rangeFunc _ _ _ b=>b | c=>c
end Go.Vai

namespace Go.Vai
open Go
section
variable {α:Type} {s:Nat} {enc:α→List Value}
variable (lt:α→α→Prop)
variable {lt}
end
end Go.Vai

namespace Go.Vai
open Go
section
variable {α:Type} {s:Nat} {enc:α→List Value}
end
end Go.Vai
namespace Go.Vai
open Go
section
variable {β:Type} {fl:β} {α:Type} {s:Nat} {enc:α→List Value}
theorem fS.same {a h:Heap} {e:TypeId} {v:Value} {L:List α} (ho:fS enc a e h v L):jD 8 v v=true:=by
 rcases ho with ⟨rfl,rfl | ⟨b,o,rfl⟩⟩ | ⟨b,rfl,h1,h2,h3,h4⟩
 ·rw[yB]
 ·rw[r6]
 ·rw[r6]
theorem Dh (he:∀a:α,(enc a).length=s) (L:List α):∀i,(L.flatMap enc).drop (i*s)=(L.drop i).flatMap enc:=by
 induction L with
 | nil=>intro i; simp
 | cons a L ih=>
  intro i
  cases i with
  | zero=>simp
  | succ i=>
   simp only[List.flatMap_cons,List.drop_succ_cons]
   rw[List.drop_append,←ih i,he,List.drop_of_length_le (by rw[he,Nat.succ_mul]; omega),show (i+1)*s-s=i*s by rw[Nat.succ_mul]; omega]
   rfl
def aar (L:List α) (v:Value):Prop:=L=[]→(v=.slice none 0 0∨∃b o,v=.slice (some ⟨b,o,none⟩) 0 0)
end
end Go.Vai

namespace Go.Vai
open Go
section
variable {β:Type} {fl:β}
theorem jX (P:Program) (t:TypeId) (cn gd:Bool) (a b:ByteArray) (h:Heap) (κ:Value→Heap→β) (hs:a.size+b.size≤9223372036854775807):au fl P .add t cn gd (.string a) (.string b) h κ=κ (.string (a++b)) h:=by
 have e:Nat.ble (Nat.add a.size b.size) 9223372036854775807=true:=Nat.ble_eq_true_of_le hs
 simp only[au]
 rw[e]
theorem xz (P:Program) (t:TypeId) (cn gd:Bool) (a b:Int) (h:Heap) (κ:Value→Heap→β):au fl P .xor t cn gd (.int .u32 a) (.int .u32 b) h κ=κ (.int .u32 (IntKind.u32.wrap ((BitVec.ofInt IntKind.u32.bits a ^^^ BitVec.ofInt IntKind.u32.bits b).toNat))) h:=by
 simp only[au,fO,jZ,fq,dB]
theorem xA (P:Program) (t:TypeId) (cn gd:Bool) (a b:Int) (h:Heap) (κ:Value→Heap→β):au fl P .mul t cn gd (.int .u32 a) (.int .u32 b) h κ=κ (.int .u32 (IntKind.u32.wrap (a*b))) h:=by
 simp only[au,fO,jZ,fq,dB]; rfl
theorem xB (P:Program) (t:TypeId) (cn gd:Bool) (a b:Int) (h:Heap) (κ:Value→Heap→β) (hb:b≠0):au fl P .rem t cn gd (.int .u32 a) (.int .u32 b) h κ=κ (.int .u32 (Int.tmod a b)) h:=by
 simp only[au,fO,jZ,fq,eX,hb,decide_false]
theorem p5 (k:IntKind) (a:Int) (h:Heap) (κ:Value→Heap→β):gU fl .u32 (.int k a) h κ=κ (.int .u32 (IntKind.u32.wrap a)) h:=by simp only[gU,fq,dB]
theorem y9 (a:Int):0≤IntKind.u32.wrap a∧IntKind.u32.wrap a<4294967296:=by
 unfold IntKind.wrap
 simp only[IntKind.bits,IntKind.signed]
 have h1:=Int.emod_nonneg a (show (2:Int) ^ 32≠0 by decide)
 have h2:=Int.emod_lt_of_pos a (show (0:Int)<2 ^ 32 by decide)
 simp at *
 omega
theorem xC {a:Int} (h:0≤a∧a<4294967296):IntKind.u32.wrap a=a:=by
 unfold IntKind.wrap
 simp only[IntKind.bits,IntKind.signed]
 have:=Int.emod_eq_of_lt h.1 (show a<2 ^ 32 by omega)
 simp at *
 omega
theorem E5 (s:ByteArray):jD 8 (.string s) (.string s)=true:=by
 show jg s s=true
 rw[iy]; simp
def uX (s:ByteArray):List Value:=s.data.toList.map fun b:UInt8=>Value.int .u8 (Int.ofNat b.toNat)
theorem Dn {s:ByteArray} {i:Nat} (h:i<s.data.toList.length):(uX s)[i]? = some (.int .u8 (Int.ofNat (s.data.toList[i]).toNat)):=by
 unfold uX; rw[List.getElem?_map,List.getElem?_eq_getElem h]; rfl
theorem BT (e:TypeId) (s:ByteArray) (h:Heap) (κ:Value→Heap→β) (hs:s.data.toList.length≤1000000000000) :
  lV fl e (.string s) h κ=κ (.slice (some ⟨h.nx,0,none⟩) s.data.toList.length aM) ⟨h.nx+1,h.bl.aW h.nx (Tp (uX s) e),h.lo⟩:=by
 unfold lV
 simp only[wM,rX,Nat.zero_add,List.length_map]
 rw[Nat.ble_eq_true_of_le hs]
 simp only[dn]
 unfold Tp uX
 simp only[List.length_map]
end
end Go.Vai
