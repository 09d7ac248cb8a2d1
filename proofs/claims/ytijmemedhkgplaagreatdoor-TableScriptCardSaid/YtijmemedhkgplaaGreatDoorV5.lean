/-
  PROVED HERE: a part of the proof (VaiA, VaiF, VaiY, Srt, VaiE, VaiB).
-/
import Derived.Test.YtijmemedhkgplaaGreatDoorV4
import Derived.Test.YtijmemedhkgplaaGreatDoorV3
set_option linter.unusedVariables false
set_option linter.unusedSimpArgs false
namespace Go.Vai
open Go
section
variable {α:Type} {s:Nat} {enc:α→List Value}
set_option maxRecDepth 20000 in
theorem cT {a h:Heap} {e:TypeId} {z:List Value} {v x:Value} {L M:List α} (he:∀a:α,(enc a).length=s) (hone:∀a:α,(enc a).all ef=true) (hs0:0<s) (hs1:s≤100) (ho:cU enc a e h v L) (hx:Sl enc h x M)
  (hle:Le a h) (hb:L.length+M.length≤1000000) (hal:h.lo≤h.nx) (κ:KQ)
  (hk:∀v' h',cU enc a e h' v' (L++M)→Le a h'→h'.nx≤h.nx+1→h.nx≤h'.nx→h'.lo=h.lo→(∀b,b<h.nx→h.bl.get b≠some (af (L.flatMap enc) e true)→h'.bl.get b=h.bl.get b)→κ v' h'):bB False e s z false v x h κ:=by
 by_cases hM:M=[]
 ·subst hM
  rw[append_nil hx (by rcases ho with ⟨rfl,rfl | ⟨b,o,rfl⟩⟩ | ⟨b,rfl,_⟩<;>exact ⟨_,_,_,rfl⟩)]
  exact hk v h (by simpa using ho) hle (Nat.le_succ _) (Nat.le_refl _) rfl (fun _ _ _=>rfl)
 ·obtain ⟨m,hm⟩:∃m,M.length=m+1:=⟨M.length-1,by have:=List.length_pos_iff.2 hM; omega⟩
  have hfl:=aT (enc:=enc) he
  have gR:=hx.first (β:=Prop) (fl:=False) he
  obtain ⟨y,cap,rfl,h2⟩:=hx
  have hml:∀K:List α,K.length≤1000000→(K.flatMap enc).length≤1000000000000:=fun K hK=>by
   rw[hfl]
   have:=Nat.mul_le_mul hK hs1
   omega
  have fresh:∀(hh:Heap) (ws:List Value),ws=(L++M).flatMap enc→Le a hh→hh.nx=h.nx→hh.lo=h.lo→(∀b,b<h.nx→h.bl.get b≠some (af (L.flatMap enc) e true)→hh.bl.get b=h.bl.get b)→ej False ws e true hh fun b h'=>κ (.slice (some ⟨b,0,none⟩) (L.length+M.length) aN) h':=by
   intro hh ws hw SC hnx hlo hgt
   subst hw
   unfold ej
   rw[kJ _ _ _ _ (hml _ (by simp; omega)),dO]
   refine hk _ _ (.inr ⟨hh.nx,by simp,SC.nx,Nat.lt_succ_self _,by show hh.lo≤_; omega,T.aa _ _ _⟩) (SC.new _) (by show hh.nx+1≤_; omega) (by show h.nx≤hh.nx+1; omega) hlo (fun b hb hn=>(T.aj _ _ (by omega)).trans (hgt b hb hn))
  rcases ho with ⟨rfl,hv⟩ | ⟨b,rfl,h3,h4,h5,h6⟩
  ·have hF:=fresh h (M.flatMap enc) (by simp) hle rfl rfl (fun _ _ _=>rfl)
   simp only[List.length_nil,Nat.zero_add] at hF
   rcases hv with rfl | ⟨b,o,rfl⟩
   ·unfold bB kS
    simp only
    rw[gR]
    simp only[hm,bR]
    rw[show Nat.ble (Nat.add 0 (m+1)) 1000000000=true from Nat.ble_eq_true_of_le (by show 0+(m+1)≤_; omega)]
    rw[hm] at hF
    have e1:Nat.add 0 (m+1)=m+1:=by show 0+(m+1)=_; omega
    rw[e1]
    exact hF
   ·unfold bB kS
    simp only
    rw[gR]
    simp only[hm,bR]
    have e1:Nat.add 0 (m+1)=m+1:=by show 0+(m+1)=_; omega
    rw[e1,show Nat.ble (m+1) 1000000000=true from Nat.ble_eq_true_of_le (by omega)]
    rw[hm] at hF
    show fQ False h s 0 _ _
    rw[jQ _ _ _ _ _ (by simp)]
    exact hF
  ·unfold bB kS
   simp only
   rw[gR]
   simp only[hm,bR]
   have e1:Nat.add L.length (m+1)=L.length+(m+1):=rfl
   rw[e1,show Nat.ble (L.length+(m+1)) 1000000000=true from Nat.ble_eq_true_of_le (by omega)]
   have e2:Nat.beq aN fP=false:=by decide
   have e3:Nat.beq aN aN=true:=Nat.beq_refl _
   simp only[e2,e3,h6]
   have e4:Nat.ble (Nat.add 0 (Nat.mul (L.length+(m+1)) s)) (L.flatMap enc).length=false:=by
    rw[hfl]
    cases SD:Nat.ble (Nat.add 0 (Nat.mul (L.length+(m+1)) s)) (L.length*s) with
    | false=>rfl
    | true=>
     have h7:0+(L.length+(m+1))*s≤L.length*s:=Nat.le_of_ble_eq_true SD
     rw[Nat.add_mul,Nat.succ_mul] at h7
     omega
   have e5:(M.flatMap enc).all ef=true:=by
    rw[List.all_flatMap]; simp only[List.all_eq_true]; intro x _; exact List.all_eq_true.1 (hone x)
   simp only[af,Nat.beq_refl,e4,e5,Bool.and_self]
   have hh:Has (h.bl.get b) 0 (L.flatMap enc):=by rw[h6]; exact Has.all
   rw[nM hh s L.length _ _ _ (hfl L).symm,bW _ _ _ _ h5]
   have hF:=fresh ⟨h.nx,h.bl.bf b (.dead (L.flatMap enc).length e),h.lo⟩ (L.flatMap enc++M.flatMap enc) (by simp) (hle.set h3 _) rfl rfl (fun b' _ hn=>T.aj _ _ (fun e=>hn (by rw[←e]; exact h6)))
   rw[hm] at hF
   exact hF
end
theorem aO {vs ws:List Value} {e e':TypeId}:(some (af vs e false):Option bU)≠some (af ws e' true):=by
 intro h
 unfold af at h
 simp only[Option.some.injEq,bU.cells.injEq] at h
 exact absurd h.2.2.2 (by decide)
theorem aL {vs ws:List Value} {e e':TypeId} {p p':Bool} (hn:e≠e'):(some (af vs e p):Option bU)≠some (af ws e' p'):=by
 intro h
 unfold af at h
 simp only[Option.some.injEq,bU.cells.injEq] at h
 exact hn h.2.2.1
theorem bN {es:List MapEntry} {c:Nat} {ws:List Value} {e:TypeId} {p:Bool}:(some (.map es c):Option bU)≠some (af ws e p):=by
 intro h
 unfold af at h
 cases h
end Go.Vai

namespace Go.Vai
open Go
section
variable {α:Type} {s:Nat} {enc:α→List Value}
theorem NC (A E C ws:List Value) (j:Nat) (h:j+ws.length≤E.length):over (A++E++C) (A.length+j) ws=A++over E j ws++C:=by
 unfold over
 have e1:(A++E++C).take (A.length+j)=A++E.take j:=by
  rw[List.append_assoc,List.take_append,List.take_of_length_le (by omega),show A.length+j-A.length=j by omega,List.take_append_of_le_length (by omega)]
 have e2:(A++E++C).drop (A.length+j+ws.length)=E.drop (j+ws.length)++C:=by
  rw[List.append_assoc,List.drop_append,List.drop_of_length_le (by omega),List.nil_append,show A.length+j+ws.length-A.length=j+ws.length by omega,List.drop_append_of_le_length h]
 rw[e1,e2]
 simp only[List.append_assoc]
theorem ck (he:∀a:α,(enc a).length=s) {K:List α} {i j:Nat} {p p':α} {ws:List Value} (hp:K[i]? = some p) (hj:j+ws.length≤s) (hw:over (enc p) j ws=enc p'):over (K.flatMap enc) (i*s+j) ws=(K.set i p').flatMap enc:=by
 obtain ⟨hi,rfl⟩:=List.getElem?_eq_some_iff.1 hp
 have e1:K.flatMap enc=(K.take i).flatMap enc++enc K[i]++(K.drop (i+1)).flatMap enc:=by
  have e0:K=K.take i++(K[i]::K.drop (i+1)):=by rw[List.getElem_cons_drop,List.take_append_drop]
  have:=congrArg (List.flatMap enc) e0
  rw[List.flatMap_append,List.flatMap_cons] at this
  rw[List.append_assoc]; exact this
 have e2:(K.set i p').flatMap enc=(K.take i).flatMap enc++enc p'++(K.drop (i+1)).flatMap enc:=by
  rw[List.set_eq_take_append_cons_drop,if_pos hi]
  simp[List.flatMap_append]
 have hl:((K.take i).flatMap enc).length=i*s:=by rw[aT he,List.length_take,Nat.min_eq_left (by omega)]
 rw[e1,e2,←hl,NC _ _ _ _ _ (by rw[he]; exact hj),hw]
theorem fu (he:∀a:α,(enc a).length=s) {K:List α} {i j:Nat} {p:α} (hp:K[i]? = some p) (hj:j<s):(K.flatMap enc)[i*s+j]? = (enc p)[j]?:=by
 obtain ⟨hi,rfl⟩:=List.getElem?_eq_some_iff.1 hp
 have:=A6 he K i hi
 have e:((((K.flatMap enc).drop (i*s)).take s)[j]?)=(enc K[i])[j]?:=by rw[this]
 rw[List.getElem?_take_of_lt hj,List.getElem?_drop] at e
 exact e
end
end Go.Vai

namespace Go.Vai
open Go
def prK (P:Program) (skip:FuncId→Bool):kV Prop:=⟨fun f=>match skip f with | true=>none | false=>some (CallW P f),And⟩
theorem Gh (P:Program) (skip:FuncId→Bool):gE (fun p:Prop=>p) (prK P skip) P:=by
 refine ⟨fun x y h=>h,fun f g hg args args' h φ w κ ha hr hgood=>?_⟩
 unfold prK at hg
 simp only at hg
 split at hg
 ·cases hg
 ·cases hg
  exact hgood φ w args' ha hr
theorem KF {P:Program} (hm:P.follows .mixedOrders=true) {skip:FuncId→Bool} {f:FuncId} {args:List Value} {h:Heap} {κ:Value→Heap→Prop} (n:Nat)
  (hg:lW False (prK P skip) P (run False (prK P skip) P n) f args h κ):CallW P f args h κ:=by
 intro φ w args' ha hr
 exact fE (good:=fun p:Prop=>p) (fl:=False) (fun h=>h) (Gh P skip) (zQ (fun h=>h) (Gh P skip) (rj (fun h=>h) (Gh P skip) hm) n).1 ha hr hg
def NZ (P:Program) (f:FuncId):Code:=match wv P f with | .mk c _ _=>c | .none=>.skip
def BS:Code→Code | .seq a _=>a | c=>c
def BT:Code→Code | .seq _ b=>b | c=>c
def inC:Code→Code | .block _ c=>c | .loop c=>c | .scope c=>c | c=>c
def rfA:Code→Code | .rangeFunc _ _ a _=>a | c=>c
def rfB:Code→Code | .rangeFunc _ _ _ b=>b | c=>c
end Go.Vai

namespace Go.Vai
open Go
section
variable {α:Type} {s:Nat} {enc:α→List Value}
variable (lt:α→α→Prop)
variable {lt}
end
end Go.Vai

namespace Go.Vai
open Go
section
variable {α:Type} {s:Nat} {enc:α→List Value}
set_option maxRecDepth 20000 in
theorem BV {h:Heap} {e:TypeId} {z vs:List Value} {x:Value} {M:List α} {b k:Nat} (he:∀a:α,(enc a).length=s) (hone:∀a:α,(enc a).all ef=true) (hx:Sl enc h x M) (hM:M≠[])
  (hg:h.bl.get b=some (af vs e true)) (hlo:h.lo≤b) (hr:(k+M.length)*s≤vs.length) (hb:k+M.length≤1000000) (κ:KQ)
  (hk:κ (.slice (some ⟨b,0,none⟩) (k+M.length) aN) ⟨h.nx,h.bl.bf b (af (over vs (k*s) (M.flatMap enc)) e true),h.lo⟩):bB False e s z false (.slice (some ⟨b,0,none⟩) k aN) x h κ:=by
 obtain ⟨m,hm⟩:∃m,M.length=m+1:=⟨M.length-1,by have:=List.length_pos_iff.2 hM; omega⟩
 have hfl:=aT (enc:=enc) he
 have gR:=hx.first (β:=Prop) (fl:=False) he
 obtain ⟨y,cap,rfl,h2⟩:=hx
 unfold bB kS
 simp only
 rw[gR]
 simp only[hm,bR]
 have e1:Nat.add k (m+1)=k+(m+1):=rfl
 rw[e1,show Nat.ble (k+(m+1)) 1000000000=true from Nat.ble_eq_true_of_le (by omega)]
 have e2:Nat.beq aN fP=false:=by decide
 have e3:Nat.beq aN aN=true:=Nat.beq_refl _
 simp only[e2,e3,hg]
 have e4:Nat.ble (Nat.add 0 (Nat.mul (k+(m+1)) s)) vs.length=true:=Nat.ble_eq_true_of_le (by show 0+(k+(m+1))*s≤_; rw[hm] at hr; omega)
 have e5:(M.flatMap enc).all ef=true:=by
  rw[List.all_flatMap]; simp only[List.all_eq_true]; intro x _; exact List.all_eq_true.1 (hone x)
 have e6:Nat.add 0 (Nat.mul k s)=k*s:=by show 0+k*s=_; omega
 have e7:k*s+(M.flatMap enc).length≤vs.length:=by rw[hfl,←Nat.add_mul]; exact hr
 simp only[af,Nat.beq_refl,e4,e6]
 rw[qh _ _ _ _ _ e7 e5,bW _ _ _ _ hlo,vI _ _ _ e7]
 rw[hm] at hk
 have:=jP e7
 simp only[af,this] at hk
 exact hk
end
end Go.Vai
namespace Go.Vai
open Go
section
variable {β:Type} {fl:β} {α:Type} {s:Nat} {enc:α→List Value}
theorem EB (e s:Nat) (h:Heap) (κ:Value→Heap→β):sliceB fl e s (.slice none 0 0) (some (.int .i64 0)) none none h κ=κ (.slice none 0 0) h:=id rfl
theorem EC (e s:Nat) (h:Heap) (κ:Value→Heap→β):sliceB fl e s (.slice none 0 0) none (some (.int .i64 0)) none h κ=κ (.slice none 0 0) h:=id rfl
theorem ED (e s b o:Nat) (h:Heap) (κ:Value→Heap→β):sliceB fl e s (.slice (some ⟨b,o,none⟩) 0 0) (some (.int .i64 0)) none none h κ=κ (.slice (some ⟨b,o,none⟩) 0 0) h:=id rfl
theorem EE (e s b o:Nat) (h:Heap) (κ:Value→Heap→β):sliceB fl e s (.slice (some ⟨b,o,none⟩) 0 0) none (some (.int .i64 0)) none h κ=κ (.slice (some ⟨b,o,none⟩) 0 0) h:=id rfl
theorem KN {h:Heap} {e s b n:Nat} {vs:List Value} (hs:0<s) (hb:h.bl.get b=some (af vs e true)) (hvs:vs.length=n*s) (κ:Value→Heap→β) :
  sliceB fl e s (.slice (some ⟨b,0,none⟩) n aN) (some (.int .i64 (n:Int))) none none h κ=κ (.slice (some ⟨b,0,none⟩) 0 fP) h:=by
 obtain ⟨s,rfl⟩:∃k,s=k+1:=⟨s-1,by omega⟩
 have hk:iG h e b=some (n*(s+1)):=by unfold iG; rw[hb]; simp only[af,jw,hvs]
 have hd:Nat.div (Nat.sub (n*(s+1)) 0) (s+1)=n:=by show (n*(s+1)-0) / (s+1)=n; rw[Nat.sub_zero,Nat.mul_div_cancel _ (by omega)]
 have e1:Nat.beq aN fP=false:=by decide
 have e2:Nat.beq aN aN=true:=Nat.beq_refl _
 have e3:Nat.ble 0 (n*(s+1))=true:=Nat.ble_eq_true_of_le (Nat.zero_le _)
 have e5:Nat.ble n n=true:=Nat.ble_eq_true_of_le (Nat.le_refl _)
 unfold sliceB jD
 simp only[e1,e2,hk,e3,hd,xh,tO,e5,Nat.beq_refl]
theorem cU.tail {a h:Heap} {e:TypeId} {v:Value} {L:List α} (he:∀a:α,(enc a).length=s) (hs:0<s) (ho:cU enc a e h v L) (i:Nat) (hi:i≤L.length) :
  ∃u,Sl enc h u (L.drop i)∧∀(β:Type) (fl:β) (κ:Value→Heap→β),sliceB fl e s v (some (.int .i64 (i:Int))) none none h κ=κ u h:=by
 rcases ho with ⟨rfl,rfl | ⟨b,o,rfl⟩⟩ | ⟨b,rfl,h1,h2,h3,h4⟩
 ·obtain rfl:i=0:=by simpa using hi
  exact ⟨_,Sl.nil _ _ _,fun β fl κ=>EB ..⟩
 ·obtain rfl:i=0:=by simpa using hi
  exact ⟨_,Sl.nil _ _ _,fun β fl κ=>ED ..⟩
 ·by_cases hlt:i<L.length
  ·refine ⟨_,?_,fun β fl κ=>xk hs h4 (aT he L) hlt κ⟩
   refine ⟨_,aN,by rw[List.length_drop],fun _=>⟨b,i*s,rfl,h2,?_⟩⟩
   have hh:Has (h.bl.get b) 0 (L.flatMap enc):=by rw[h4]; exact Has.all
   have hl:=aT he L
   have hle:i*s≤L.length*s:=Nat.mul_le_mul_right _ (by omega)
   have:=hh.sub (i*s) (L.length*s-i*s) (by omega)
   rw[Nat.zero_add] at this
   have e1:((L.flatMap enc).drop (i*s)).take (L.length*s-i*s)=(L.drop i).flatMap enc:=by
    have e2:(L.flatMap enc).drop (i*s)=(L.drop i).flatMap enc:=by
     conv=>lhs; rw[←List.take_append_drop i L,List.flatMap_append]
     rw[List.drop_append,aT he]
     simp only[List.length_take,Nat.min_eq_left hi,Nat.sub_self,List.drop_zero]
     rw[List.drop_of_length_le (by rw[aT he]; simp[Nat.min_eq_left hi])]
     rfl
    rw[e2,List.take_of_length_le (by rw[aT he,List.length_drop,Nat.sub_mul]; exact Nat.le_refl _)]
   rwa [e1] at this
  ·obtain rfl:i=L.length:=by omega
   refine ⟨_,?_,fun β fl κ=>KN hs h4 (aT he L) κ⟩
   rw[List.drop_length]
   exact Sl.nil _ _ _
theorem cU.same {a h:Heap} {e:TypeId} {v:Value} {L:List α} (ho:cU enc a e h v L):ow 8 v v=true:=by
 rcases ho with ⟨rfl,rfl | ⟨b,o,rfl⟩⟩ | ⟨b,rfl,h1,h2,h3,h4⟩
 ·rw[A9]
 ·rw[vJ]
 ·rw[vJ]
def BW (v:Value) (i:Nat):Value:=match v with | .slice x _ c=>.slice x i c | v=>v
theorem cU.head {a h:Heap} {e:TypeId} {v:Value} {L:List α} (he:∀a:α,(enc a).length=s) (hs0:0<s) (ho:cU enc a e h v L) (hL:L=[]→(v=.slice none 0 0∨∃b o,v=.slice (some ⟨b,o,none⟩) 0 0)) (i:Nat) (hi:i≤L.length)
  (κ:Value→Heap→β):sliceB fl e s v none (some (.int .i64 (i:Int))) none h κ=κ (BW v i) h:=by
 by_cases hn:L=[]
 ·subst hn
  obtain rfl:i=0:=by simpa using hi
  rcases hL rfl with rfl | ⟨b,o,rfl⟩
  ·exact EC ..
  ·exact EE ..
 ·rcases ho with ⟨rfl,_⟩ | ⟨b,rfl,h1,h2,h3,h4⟩
  ·exact absurd rfl hn
  ·exact r8 hs0 h4 (aT he L) (List.length_pos_iff.2 hn) hi κ
theorem rE (he:∀a:α,(enc a).length=s) (L:List α):∀i,(L.flatMap enc).take (i*s)=(L.take i).flatMap enc:=by
 induction L with
 | nil=>intro i; simp
 | cons a L ih=>
  intro i
  cases i with
  | zero=>simp
  | succ i=>
   simp only[List.flatMap_cons,List.take_succ_cons]
   rw[List.take_append,←ih i,he,List.take_of_length_le (by rw[he,Nat.succ_mul]; omega),show (i+1)*s-s=i*s by rw[Nat.succ_mul]; omega]
theorem sN {a h:Heap} {e:TypeId} {v:Value} {L:List α} (he:∀a:α,(enc a).length=s) (ho:cU enc a e h v L) (i:Nat) (hi:i≤L.length):Sl enc h (BW v i) (L.take i):=by
 by_cases hn:L=[]
 ·subst hn
  obtain rfl:i=0:=by simpa using hi
  rcases ho with ⟨_,rfl | ⟨b,o,rfl⟩⟩ | ⟨b,rfl,_⟩<;>exact Sl.nil _ _ _
 ·have hs:=ho.sl
  obtain ⟨x,cap,rfl,h2⟩:=hs
  obtain ⟨b,o,rfl,h3,h4⟩:=h2 hn
  refine ⟨_,cap,by simp[BW,Nat.min_eq_left hi],fun _=>⟨b,o,rfl,h3,?_⟩⟩
  have hl:=aT (enc:=enc) he L
  have hle:i*s≤L.length*s:=Nat.mul_le_mul_right _ hi
  have:=h4.sub 0 (i*s) (by omega)
  rw[Nat.add_zero,List.drop_zero,rE he] at this
  exact this
def vw (L:List α) (v:Value):Prop:=L=[]→(v=.slice none 0 0∨∃b o,v=.slice (some ⟨b,o,none⟩) 0 0)
theorem qt {a h:Heap} {e:TypeId} {v:Value} {L:List α} (he:∀a:α,(enc a).length=s) (hs0:0<s) (ho:cU enc a e h v L) (em:vw L v) (i:Nat) (hi:i≤L.length) (κ:Value→Heap→β):sliceB fl e s v none (some (.int .i64 (i:Int))) none h κ=κ (BW v i) h:=
 cU.head he hs0 ho em i hi κ
theorem fN {a h:Heap} {e:TypeId} {z:List Value} {v x:Value} {L M:List α} (he:∀a:α,(enc a).length=s) (hone:∀a:α,(enc a).all ef=true) (hs0:0<s) (hs1:s≤100) (ho:cU enc a e h v L) (em:vw L v) (hx:Sl enc h x M)
  (hle:Le a h) (hb:L.length+M.length≤1000000) (hal:h.lo≤h.nx) (κ:KQ)
  (hk:∀v' h',cU enc a e h' v' (L++M)→vw (L++M) v'→Le a h'→h.nx≤h'.nx→κ v' h'):bB False e s z false v x h κ:=by
 by_cases hM:M=[]
 ·subst hM
  rw[append_nil hx (by rcases ho with ⟨_,rfl | ⟨b,o,rfl⟩⟩ | ⟨b,rfl,_⟩<;>exact ⟨_,_,_,rfl⟩)]
  exact hk v h (by simpa using ho) (by simpa using em) hle (Nat.le_refl _)
 ·refine cT he hone hs0 hs1 ho hx hle hb hal κ ?_
  intro v' h' ho' hle' _ hn _ _
  exact hk v' h' ho' (fun h=>absurd (List.append_eq_nil_iff.1 h).2 hM) hle' hn
end
end Go.Vai

namespace Go.Vai
open Go
section
variable {β:Type} {fl:β}
theorem mz (P:Program) (t:TypeId) (cn gd:Bool) (a b:ByteArray) (h:Heap) (κ:Value→Heap→β) (hs:a.size+b.size≤9223372036854775807):av fl P .add t cn gd (.string a) (.string b) h κ=κ (.string (a++b)) h:=by
 have e:Nat.ble (Nat.add a.size b.size) 9223372036854775807=true:=Nat.ble_eq_true_of_le hs
 simp only[av]
 rw[e]
theorem Ao (P:Program) (t:TypeId) (cn gd:Bool) (a b:Int) (h:Heap) (κ:Value→Heap→β):av fl P .xor t cn gd (.int .u32 a) (.int .u32 b) h κ=κ (.int .u32 (IntKind.u32.wrap ((BitVec.ofInt IntKind.u32.bits a ^^^ BitVec.ofInt IntKind.u32.bits b).toNat))) h:=by
 simp only[av,jb,mR,ir,ew]
theorem Ap (P:Program) (t:TypeId) (cn gd:Bool) (a b:Int) (h:Heap) (κ:Value→Heap→β):av fl P .mul t cn gd (.int .u32 a) (.int .u32 b) h κ=κ (.int .u32 (IntKind.u32.wrap (a*b))) h:=by
 simp only[av,jb,mR,ir,ew]; rfl
theorem Aq (P:Program) (t:TypeId) (cn gd:Bool) (a b:Int) (h:Heap) (κ:Value→Heap→β) (hb:b≠0):av fl P .rem t cn gd (.int .u32 a) (.int .u32 b) h κ=κ (.int .u32 (Int.tmod a b)) h:=by
 simp only[av,jb,mR,ir,ff,hb,decide_false]
theorem sS (k:IntKind) (a:Int) (h:Heap) (κ:Value→Heap→β):jo fl .u32 (.int k a) h κ=κ (.int .u32 (IntKind.u32.wrap a)) h:=by simp only[jo,ir,ew]
theorem B4 (a:Int):0≤IntKind.u32.wrap a∧IntKind.u32.wrap a<4294967296:=by
 unfold IntKind.wrap
 simp only[IntKind.bits,IntKind.signed]
 have h1:=Int.emod_nonneg a (show (2:Int) ^ 32≠0 by decide)
 have h2:=Int.emod_lt_of_pos a (show (0:Int)<2 ^ 32 by decide)
 simp at *
 omega
theorem Ar {a:Int} (h:0≤a∧a<4294967296):IntKind.u32.wrap a=a:=by
 unfold IntKind.wrap
 simp only[IntKind.bits,IntKind.signed]
 have:=Int.emod_eq_of_lt h.1 (show a<2 ^ 32 by omega)
 simp at *
 omega
theorem Jk (s:ByteArray):ow 8 (.string s) (.string s)=true:=by
 show kP s s=true
 rw[jL]; simp
def yG (s:ByteArray):List Value:=s.data.toList.map fun b:UInt8=>Value.int .u8 (Int.ofNat b.toNat)
theorem Gy {s:ByteArray} {i:Nat} (h:i<s.data.toList.length):(yG s)[i]? = some (.int .u8 (Int.ofNat (s.data.toList[i]).toNat)):=by
 unfold yG; rw[List.getElem?_map,List.getElem?_eq_getElem h]; rfl
theorem EV (e:TypeId) (s:ByteArray) (h:Heap) (κ:Value→Heap→β) (hs:s.data.toList.length≤1000000000000) :
  oE fl e (.string s) h κ=κ (.slice (some ⟨h.nx,0,none⟩) s.data.toList.length aN) ⟨h.nx+1,h.bl.bf h.nx (YH (yG s) e),h.lo⟩:=by
 unfold oE
 simp only[zM,vE,Nat.zero_add,List.length_map]
 rw[Nat.ble_eq_true_of_le hs]
 simp only[dO]
 unfold YH yG
 simp only[List.length_map]
end
end Go.Vai
