/-
  PROVED HERE: a part of the proof (K9, K10, K11, K12, K13, K14).
-/
import Derived.Test.YtmjghbjpdoeemaaGreatDoorKA
import Derived.Test.YtmjghbjpdoeemaaGreatDoorV4
set_option linter.unusedVariables false
set_option linter.unusedSimpArgs false
set_option maxRecDepth 100000
namespace Go.Vai
section
variable {α:Type} {s:Nat} {enc:α→List Value}
set_option maxRecDepth 20000 in
theorem Dc {a h:Heap} {e:TypeId} {z:List Value} {v x:Value} {L M:List α} (he:∀a:α,(enc a).length=s) (hone:∀a:α,(enc a).all dR=true) (hs0:0<s) (hs1:s≤100) (ho:fS enc a e h v L) (hx:Sl enc h x M)
  (hle:Le a h) (hb:L.length+M.length≤1000000) (hal:h.lo≤h.nx) (κ:KQ)
  (hk:∀v' h',fS enc a e h' v' (L++M)→Le a h'→h'.nx≤h.nx+1→h.nx≤h'.nx→h'.lo=h.lo→(∀b,b<h.nx→h.bl.get b≠some (aa (L.flatMap enc) e true)→h'.bl.get b=h.bl.get b)→(∀b,b<h.nx→(∀n cap,v≠.slice (some ⟨b,0,none⟩) n cap)→h'.bl.get b=h.bl.get b)→(v'=v∨∃b n cap,h.nx≤b∧v'=.slice (some ⟨b,0,none⟩) n cap)→κ v' h'):bE False e s z false v x h κ:=by
 by_cases hM:M=[]
 ·subst hM
  rw[append_nil hx (by rcases ho with ⟨rfl,rfl | ⟨b,o,rfl⟩⟩ | ⟨b,rfl,_⟩<;>exact ⟨_,_,_,rfl⟩)]
  exact hk v h (by simpa using ho) hle (Nat.le_succ _) (Nat.le_refl _) rfl (fun _ _ _=>rfl) (fun _ _ _=>rfl) (.inl rfl)
 ·obtain ⟨m,hm⟩:∃m,M.length=m+1:=⟨M.length-1,by have:=List.length_pos_iff.2 hM; omega⟩
  have hfl:=bh (enc:=enc) he
  have gY:=hx.first (β:=Prop) (fl:=False) he
  obtain ⟨y,cap,rfl,h2⟩:=hx
  have hml:∀K:List α,K.length≤1000000→(K.flatMap enc).length≤1000000000000:=fun K hK=>by
   rw[hfl]
   have:=Nat.mul_le_mul hK hs1
   omega
  have fresh:∀(hh:Heap) (ws:List Value),ws=(L++M).flatMap enc→Le a hh→hh.nx=h.nx→hh.lo=h.lo→(∀b,b<h.nx→h.bl.get b≠some (aa (L.flatMap enc) e true)→hh.bl.get b=h.bl.get b)→(∀b,b<h.nx→(∀n cap,v≠.slice (some ⟨b,0,none⟩) n cap)→hh.bl.get b=h.bl.get b)→dL False ws e true hh fun b h'=>κ (.slice (some ⟨b,0,none⟩) (L.length+M.length) aM) h':=by
   intro hh ws hw Nj W6 hlo hgt ZO
   subst hw
   unfold dL
   rw[gX _ _ _ _ (hml _ (by simp; omega)),dn]
   refine hk _ _ (.inr ⟨hh.nx,by simp,Nj.nx,Nat.lt_succ_self _,by show hh.lo≤_; omega,T.af _ _ _⟩) (Nj.new _) (by show hh.nx+1≤_; omega) (by show h.nx≤hh.nx+1; omega) hlo (fun b hb hn=>(T.ai _ _ (by omega)).trans (hgt b hb hn)) (fun b hb hn=>(T.ai _ _ (by omega)).trans (ZO b hb hn)) (.inr ⟨hh.nx,_,_,by omega,rfl⟩)
  rcases ho with ⟨rfl,hv⟩ | ⟨b,rfl,h3,h4,h5,h6⟩
  ·have hF:=fresh h (M.flatMap enc) (by simp) hle rfl rfl (fun _ _ _=>rfl) (fun _ _ _=>rfl)
   simp only[List.length_nil,Nat.zero_add] at hF
   rcases hv with rfl | ⟨b,o,rfl⟩
   ·unfold bE jH
    simp only
    rw[gY]
    simp only[hm,bG]
    rw[show Nat.ble (Nat.add 0 (m+1)) 1000000000=true from Nat.ble_eq_true_of_le (by show 0+(m+1)≤_; omega)]
    rw[hm] at hF
    have e1:Nat.add 0 (m+1)=m+1:=by show 0+(m+1)=_; omega
    rw[e1]
    exact hF
   ·unfold bE jH
    simp only
    rw[gY]
    simp only[hm,bG]
    have e1:Nat.add 0 (m+1)=m+1:=by show 0+(m+1)=_; omega
    rw[e1,show Nat.ble (m+1) 1000000000=true from Nat.ble_eq_true_of_le (by omega)]
    rw[hm] at hF
    show eO False h s 0 _ _
    rw[iF _ _ _ _ _ (by simp)]
    exact hF
  ·unfold bE jH
   simp only
   rw[gY]
   simp only[hm,bG]
   have e1:Nat.add L.length (m+1)=L.length+(m+1):=rfl
   rw[e1,show Nat.ble (L.length+(m+1)) 1000000000=true from Nat.ble_eq_true_of_le (by omega)]
   have e2:Nat.beq aM fk=false:=by decide
   have e3:Nat.beq aM aM=true:=Nat.beq_refl _
   simp only[e2,e3,h6]
   have e4:Nat.ble (Nat.add 0 (Nat.mul (L.length+(m+1)) s)) (L.flatMap enc).length=false:=by
    rw[hfl]
    cases O6:Nat.ble (Nat.add 0 (Nat.mul (L.length+(m+1)) s)) (L.length*s) with
    | false=>rfl
    | true=>
     have h7:0+(L.length+(m+1))*s≤L.length*s:=Nat.le_of_ble_eq_true O6
     rw[Nat.add_mul,Nat.succ_mul] at h7
     omega
   have e5:(M.flatMap enc).all dR=true:=by
    rw[List.all_flatMap]; simp only[List.all_eq_true]; intro x _; exact List.all_eq_true.1 (hone x)
   simp only[aa,Nat.beq_refl,e4,e5,Bool.and_self]
   have hh:Has (h.bl.get b) 0 (L.flatMap enc):=by rw[h6]; exact Has.all
   rw[lp hh s L.length _ _ _ (hfl L).symm,bL _ _ _ _ h5]
   have hF:=fresh ⟨h.nx,h.bl.aW b (.dead (L.flatMap enc).length e),h.lo⟩ (L.flatMap enc++M.flatMap enc) (by simp) (hle.set h3 _) rfl rfl (fun b' _ hn=>T.ai _ _ (fun e=>hn (by rw[←e]; exact h6))) (fun b' _ hn=>T.ai _ _ (by rintro rfl; exact hn _ _ rfl))
   rw[hm] at hF
   exact hF
end
theorem jT {v v':Value} {vs vs':List Value} {e e':TypeId} {p p':Bool} (h:(some (aa (v::vs) e p):Option bC)=some (aa (v'::vs') e' p')):v=v':=by
 have h1:=congrArg (fun ob=>o_ (none:Option Value) ob 0 some) h
 simp only[m_] at h1
 exact Option.some.inj h1
end Go.Vai
namespace Go.Proofs
open Go.Vai Go.Clashes
def frV (b:Nat):Value:=.iface 240 (.pointer (some ⟨b,0,none⟩))
theorem ci_len (b : Nat) (h : Heap) (κ : Value → Heap → Prop) : CallI Tryz.prog "Len" (frV b) [] h κ = (fieldAddrB False 0 (.pointer (some ⟨b, 0, none⟩)) h fun a h => load1 False a h fun v h => CallW Tryz.prog 137 [v] h κ) := by kernel_rfl
theorem ci_less (b : Nat) (i j : Value) (h : Heap) (κ : Value → Heap → Prop) : CallI Tryz.prog "Less" (frV b) [i, j] h κ = (fieldAddrB False 0 (.pointer (some ⟨b, 0, none⟩)) h fun a h => load1 False a h fun v h => CallW Tryz.prog 366 [v, i, j] h κ) := by kernel_rfl
theorem ci_swap (b : Nat) (i j : Value) (h : Heap) (κ : Value → Heap → Prop) : CallI Tryz.prog "Swap" (frV b) [i, j] h κ = (fieldAddrB False 0 (.pointer (some ⟨b, 0, none⟩)) h fun a h => load1 False a h fun v h => CallW Tryz.prog 368 [v, i, j] h κ) := by kernel_rfl
theorem ci_push (b : Nat) (x : Value) (h : Heap) (κ : Value → Heap → Prop) : CallI Tryz.prog "Push" (frV b) [x] h κ = CallW Tryz.prog 370 [.pointer (some ⟨b, 0, none⟩), x] h κ := by kernel_rfl
theorem ci_pop (b : Nat) (h : Heap) (κ : Value → Heap → Prop) : CallI Tryz.prog "Pop" (frV b) [] h κ = CallW Tryz.prog 369 [.pointer (some ⟨b, 0, none⟩)] h κ := by kernel_rfl
def jv (h:Heap) (v:Value) (F:List Int):Prop:=(F=[]∧v=.slice none 0 0)∨∃b G,v=.slice (some ⟨b,0,none⟩) F.length aM∧b<h.nx∧h.lo≤b∧h.bl.get b=some (aa ((F++G).flatMap bQ) 3 true)∧0<(F++G).length
structure eU (h:Heap) (bp:Nat) (F:List Int) (ls:Value):Prop where
 lt:bp<h.nx
 lo:h.lo≤bp
 cell:∃fs,h.bl.get bp=some (aa [fs,ls] 225 false)∧jv h fs F
def FB (h:Heap) (bp c:Nat):Prop:=∃n cap ls,h.bl.get bp=some (aa [.slice (some ⟨c,0,none⟩) n cap,ls] 225 false)
theorem FB.congr {h h':Heap} {bp c:Nat} (e:h'.bl.get bp=h.bl.get bp):FB h' bp c↔FB h bp c:=by unfold FB; rw[e]
structure uG (bp:Nat) (h h':Heap):Prop where
 nx:h.nx≤h'.nx
 lo:h'.lo=h.lo
 get:∀c,c<h.nx→c≠bp→(∀vs,h.bl.get c≠some (aa vs 3 true))→h'.bl.get c=h.bl.get c
 g2:bp<h.nx→∀c,c<h.nx→c≠bp→¬FB h bp c→h'.bl.get c=h.bl.get c
 mv:bp<h.nx→∀c,c<h.nx→FB h' bp c→FB h bp c
theorem uG.refl (bp:Nat) (h:Heap):uG bp h h:=⟨Nat.le_refl _,rfl,fun _ _ _ _=>rfl,fun _ _ _ _ _=>rfl,fun _ _ _ x=>x⟩
theorem uG.trans {bp:Nat} {h h' h'':Heap} (a:uG bp h h') (b:uG bp h' h''):uG bp h h'':=
 ⟨Nat.le_trans a.nx b.nx,b.lo.trans a.lo,fun c hc hn hi=>(b.get c (Nat.lt_of_lt_of_le hc a.nx) hn (fun vs=>by rw[a.get c hc hn hi]; exact hi vs)).trans (a.get c hc hn hi),
  fun hb c hc hn hi=>(b.g2 (Nat.lt_of_lt_of_le hb a.nx) c (Nat.lt_of_lt_of_le hc a.nx) hn fun x=>hi (a.mv hb c hc x)).trans (a.g2 hb c hc hn hi),
  fun hb c hc x=>a.mv hb c hc (b.mv (Nat.lt_of_lt_of_le hb a.nx) c (Nat.lt_of_lt_of_le hc a.nx) x)⟩
theorem uG.swap {bp:Nat} {h h':Heap} {fs ls:Value} (hg:h.bl.get bp=some (aa [fs,ls] 225 false)) (q1:h'.nx=h.nx) (q2:h'.lo=h.lo) (q4:∀c,(∀vs,h.bl.get c≠some (aa vs 3 true))→h'.bl.get c=h.bl.get c) (q5:∀c,(∀n cap,fs≠.slice (some ⟨c,0,none⟩) n cap)→h'.bl.get c=h.bl.get c):uG bp h h':=
 ⟨by omega,q2,fun c _ _ hi=>q4 c hi,fun _ c _ _ hn=>q5 c fun n cap e=>hn ⟨n,cap,ls,e▸hg⟩,fun _ c _ x=>(FB.congr (q4 bp fun vs=>by rw[hg]; exact bf)).1 x⟩
theorem pQ (F:List Int) (h:Heap) (v:Value) (κ:KQ) (hp:jv h v F) (hk:κ (.int .i64 (F.length:Int)) h):CallW Tryz.prog 137 [v] h κ:=by
 refine aq mixed ?_
 rw[PN]
 rcases hp with ⟨rfl,rfl⟩ | ⟨b,G,rfl,_⟩
 ·simp(disch:=first|omega|simp only[Wd]<;>omega|with_unfolding_all rfl)only[Wz]; exact hk
 ·simp(disch:=first|omega|simp only[Wd]<;>omega|with_unfolding_all rfl)only[Wz]; exact hk
theorem mJ {F G:List Int} {i:Nat} {x:Int} (hx:F[i]? = some x):((F++G).flatMap bQ)[i]? = some (.int .i64 x):=by
 have h1:(F++G)[i]? = some x:=by rw[List.getElem?_append_left (List.getElem?_eq_some_iff.1 hx).1]; exact hx
 have:=ic (j:=0) encNum_len h1 (by decide)
 simpa[bQ] using this
theorem uH {F G:List Int} {i:Nat} {y:Int} (hi:i<F.length):over ((F++G).flatMap bQ) i [.int .i64 y]=((F.set i y)++G).flatMap bQ:=by
 have h1:(F++G)[i]? = some F[i]:=by rw[List.getElem?_append_left hi]; exact List.getElem?_eq_getElem hi
 have:=ia (p':=y) (ws:=[.int .i64 y]) (j:=0) encNum_len h1 (by show 0+1≤1; omega) rfl
 rw[Nat.mul_one,Nat.add_zero] at this
 rw[this,List.set_append,if_pos hi]
theorem qJ (F:List Int) (i j:Nat) (h:Heap) (v:Value) (κ:KQ) (hp:jv h v F) (hi:i<F.length) (hj:j<F.length) (hk:κ (.bool (decide (F[i]<F[j]))) h):CallW Tryz.prog 366 [v,.int .i64 (i:Int),.int .i64 (j:Int)] h κ:=by
 refine aq mixed ?_
 rw[QO]
 rcases hp with ⟨rfl,rfl⟩ | ⟨b,G,rfl,h1,h2,h3,h4⟩
 ·simp at hi
 ·have r1:=mJ (G:=G) (List.getElem?_eq_getElem hi)
  have r2:=mJ (G:=G) (List.getElem?_eq_getElem hj)
  simp(disch:=first|omega|simp only[Wd]<;>omega|with_unfolding_all rfl)only[Wz,aS,h3,r1,r2,Nat.mul_one]
  exact hk
def kO (F:List Int) (i j:Nat):List Int:=match F[i]?,F[j]? with | some x,some y=>(F.set i y).set j x | _,_=>F
theorem pR {F:List Int} {i j:Nat} (hi:i<F.length) (hj:j<F.length):kO F i j=(F.set i F[j]).set j F[i]:=by
 simp only[kO,List.getElem?_eq_getElem hi,List.getElem?_eq_getElem hj]
theorem qK (F:List Int) (i j:Nat):(kO F i j).length=F.length:=by
 unfold kO
 split<;>simp
theorem qL (F:List Int) (i j:Nat) (h:Heap) (v:Value) (κ:KQ) (hp:jv h v F) (hi:i<F.length) (hj:j<F.length)
  (hk:∀h',h'.nx=h.nx→h'.lo=h.lo→jv h' v (kO F i j)→(∀c,(∀vs,h.bl.get c≠some (aa vs 3 true))→h'.bl.get c=h.bl.get c)→(∀c,(∀n cap,v≠.slice (some ⟨c,0,none⟩) n cap)→h'.bl.get c=h.bl.get c)→κ (.tuple ⟨[]⟩) h'):CallW Tryz.prog 368 [v,.int .i64 (i:Int),.int .i64 (j:Int)] h κ:=by
 refine aq mixed ?_
 rw[QS]
 rcases hp with ⟨rfl,rfl⟩ | ⟨b,G,rfl,h1,h2,h3,h4⟩
 ·simp at hi
 ·have r1:=mJ (G:=G) (List.getElem?_eq_getElem hi)
  have r2:=mJ (G:=G) (List.getElem?_eq_getElem hj)
  have hl:=bh (enc:=bQ) encNum_len (F++G)
  have FG:=bh (enc:=bQ) encNum_len ((F.set i F[j])++G)
  have ov1:=uH (G:=G) (y:=F[j]) hi
  have ov2:=uH (G:=G) (F:=F.set i F[j]) (y:=F[i]) (i:=j) (by simpa using hj)
  have hlen:(F++G).length=F.length+G.length:=List.length_append
  have acg:((F.set i F[j])++G).length=F.length+G.length:=by simp
  simp(disch:=first|omega|simp only[Wd]<;>omega|with_unfolding_all rfl)only[Wz,aS,h3,r1,r2,Nat.mul_one,ov1,ov2]
  refine hk _ rfl rfl (.inr ⟨b,G,by rw[qK],h1,h2,?_,?_⟩) ?_ fun c hc=>T.ai _ _ (by rintro rfl; exact hc _ _ rfl)
  ·rw[pR hi hj]; exact T.af _ _ _
  ·rw[List.length_append,qK]; simpa using h4
  ·intro c hc
   refine T.ai _ _ ?_
   rintro rfl
   exact hc _ h3
theorem oE {F:List Int} {i j:Nat} (hi:i<F.length) (hj:j<F.length):(kO F i j).Perm F:=by
 rw[pR hi hj]; exact List.set_set_perm hi hj
theorem gD {F:List Int} {i:Nat} (h:i<F.length):F.getD i 0=F[i]:=by
 rw[List.getD_eq_getElem?_getD,List.getElem?_eq_getElem h]; rfl
theorem pS {F:List Int} {i j:Nat} (hi:i<F.length) (hj:j<F.length) (k:Nat):(kO F i j).getD k 0=if k=j then F.getD i 0 else if k=i then F.getD j 0 else F.getD k 0:=by
 rw[pR hi hj,gD hi,gD hj]
 simp only[List.getD_eq_getElem?_getD,List.getElem?_set,List.length_set]
 by_cases h1:j=k
 ·subst h1; rw[if_pos rfl,if_pos hj,if_pos rfl]; rfl
 ·have ZP:¬k=j:=fun e=>h1 e.symm
  rw[if_neg h1,if_neg ZP]
  by_cases h2:i=k
  ·subst h2; rw[if_pos rfl,if_pos hi,if_pos rfl]; rfl
  ·have Xr:¬k=i:=fun e=>h2 e.symm
   rw[if_neg h2,if_neg Xr]
def HN (F:List Int) (n:Nat):Prop:=∀i,0<i→i<n→F.getD ((i-1) / 2) 0≤F.getD i 0
abbrev HP (F:List Int):Prop:=HN F F.length
structure uI (F:List Int) (j:Nat):Prop where
 a:∀i,0<i→i<F.length→i≠j→F.getD ((i-1) / 2) 0≤F.getD i 0
 b:0<j→∀i,0<i→i<F.length→(i-1) / 2=j→F.getD ((j-1) / 2) 0≤F.getD i 0
structure rQ (F:List Int) (i n:Nat):Prop where
 a:∀k,0<k→k<n→(k-1) / 2≠i→F.getD ((k-1) / 2) 0≤F.getD k 0
 b:0<i→∀k,0<k→k<n→(k-1) / 2=i→F.getD ((i-1) / 2) 0≤F.getD k 0
theorem uI.step {F:List Int} {j:Nat} (u:uI F j) (h0:0<j) (hj:j<F.length) (hlt:F.getD j 0<F.getD ((j-1) / 2) 0):uI (kO F ((j-1) / 2) j) ((j-1) / 2):=by
 have hp:(j-1) / 2<F.length:=by omega
 have G:=pS (F:=F) hp hj
 have L:=qK F ((j-1) / 2) j
 refine ⟨fun i h1 h2 h3=>?_,fun Vt i h1 h2 h3=>?_⟩
 ·rw[L] at h2
  rw[G,G]
  by_cases e1:i=j
  ·subst e1
   rw[if_neg (by omega),if_pos rfl,if_pos rfl]; omega
  ·rw[if_neg e1,if_neg h3]
   have A:=u.a i h1 h2 e1
   by_cases e2:(i-1) / 2=j
   ·rw[if_pos e2]; exact u.b h0 i h1 h2 e2
   ·rw[if_neg e2]
    by_cases e3:(i-1) / 2=(j-1) / 2
    ·rw[if_pos e3]; rw[e3] at A; omega
    ·rw[if_neg e3]; exact A
 ·rw[L] at h2
  rw[G,G,if_neg (by omega),if_neg (by omega)]
  have A:=u.a ((j-1) / 2) Vt hp (by omega)
  by_cases e1:i=j
  ·rw[if_pos e1]; exact A
  ·rw[if_neg e1,if_neg (by omega)]
   have B:=u.a i h1 h2 e1
   rw[h3] at B; omega
theorem uI.Jb {F:List Int} (u:uI F 0):HP F:=fun i h1 h2=>u.a i h1 h2 (by omega)
theorem uI.Q9 {F:List Int} {j:Nat} (u:uI F j) (hge:F.getD ((j-1) / 2) 0≤F.getD j 0):HP F:=fun i h1 h2=>by
 by_cases e:i=j
 ·subst e; exact hge
 ·exact u.a i h1 h2 e
theorem HP.push {F:List Int} (u:HP F) (x:Int):uI (F++[x]) F.length:=by
 have G:∀k,k<F.length→(F++[x]).getD k 0=F.getD k 0:=fun k hk=>by
  rw[List.getD_eq_getElem?_getD,List.getElem?_append_left hk,List.getD_eq_getElem?_getD]
 refine ⟨fun i h1 h2 h3=>?_,fun _ i h1 h2 h3=>?_⟩
 ·rw[List.length_append,List.length_singleton] at h2
  rw[G _ (by omega),G _ (by omega)]; exact u i h1 (by omega)
 ·rw[List.length_append,List.length_singleton] at h2; omega
theorem rQ.step {F:List Int} {i n c:Nat} (d:rQ F i n) (hn:n≤F.length) (hc:c<n) (hi:(c-1) / 2=i) (hc0:0<c) (hlt:F.getD c 0<F.getD i 0) (hmin:∀k,0<k→k<n→(k-1) / 2=i→F.getD c 0≤F.getD k 0):rQ (kO F i c) c n:=by
 have G:=pS (F:=F) (i:=i) (j:=c) (by omega) (by omega)
 refine ⟨fun k h1 h2 h3=>?_,fun _ k h1 h2 h3=>?_⟩
 ·rw[G,G]
  by_cases e1:(k-1) / 2=i
  ·rw[if_neg h3,if_pos e1]
   by_cases e2:k=c
   ·rw[if_pos e2]; omega
   ·rw[if_neg e2,if_neg (by omega)]; exact hmin k h1 h2 e1
  ·rw[if_neg h3,if_neg e1]
   have A:=d.a k h1 h2 e1
   by_cases e2:k=c
   ·subst e2; omega
   ·rw[if_neg e2]
    by_cases e3:k=i
    ·subst e3; rw[if_pos rfl]; exact d.b h1 c hc0 hc hi
    ·rw[if_neg e3]; exact A
 ·rw[G,G,hi,if_neg (by omega),if_pos rfl,if_neg (by omega),if_neg (by omega)]
  have A:=d.a k h1 h2 (by omega)
  rw[h3] at A; exact A
theorem rQ.Jb {F:List Int} {i n:Nat} (d:rQ F i n) (h:n≤2*i+1):HN F n:=fun k h1 h2=>d.a k h1 h2 (by omega)
theorem rQ.Q9 {F:List Int} {i n c:Nat} (d:rQ F i n) (hge:F.getD i 0≤F.getD c 0) (hmin:∀k,0<k→k<n→(k-1) / 2=i→F.getD c 0≤F.getD k 0):HN F n:=fun k h1 h2=>by
 by_cases e:(k-1) / 2=i
 ·have:=hmin k h1 h2 e
  rw[e]; omega
 ·exact d.a k h1 h2 e
theorem HP.pop {F:List Int} (u:HP F) (h0:0<F.length):rQ (kO F 0 (F.length-1)) 0 (F.length-1):=by
 have G:=pS (F:=F) (i:=0) (j:=F.length-1) h0 (by omega)
 refine ⟨fun k h1 h2 h3=>?_,fun h=>by omega⟩
 rw[G,G,if_neg (by omega),if_neg h3,if_neg (by omega),if_neg (by omega)]
 exact u k h1 (by omega)
theorem HP.least {F:List Int} (u:HP F):∀n k,k<n→k<F.length→F.getD 0 0≤F.getD k 0:=by
 intro n
 induction n with
 | zero=>intro k h; omega
 | succ n ih=>
  intro k h1 h2
  by_cases e:k=0
  ·subst e; exact Int.le_refl _
  ·have:=ih ((k-1) / 2) (by omega) (by omega)
   have:=u k (by omega) h2
   omega
theorem HN.take {F:List Int} {n:Nat} (u:HN F n) (hn:n≤F.length):HP (F.take n):=by
 have G:∀k,k<n→(F.take n).getD k 0=F.getD k 0:=fun k hk=>by
  rw[List.getD_eq_getElem?_getD,List.getElem?_take,if_pos hk,List.getD_eq_getElem?_getD]
 intro i h1 h2
 rw[List.length_take] at h2
 rw[G _ (by omega),G _ (by omega)]
 exact u i h1 (by omega)
theorem eU.same {h h':Heap} {bp:Nat} {F F':List Int} {ls fs:Value} (f:eU h bp F ls) (hn:h'.nx=h.nx) (hl:h'.lo=h.lo) (hg:h.bl.get bp=some (aa [fs,ls] 225 false)) (hp:jv h' fs F') (hfr:∀c,(∀vs,h.bl.get c≠some (aa vs 3 true))→h'.bl.get c=h.bl.get c):eU h' bp F' ls:=
 ⟨by rw[hn]; exact f.lt,by rw[hl]; exact f.lo,fs,by rw[hfr bp (fun vs=>by rw[hg]; exact bf)]; exact hg,hp⟩
theorem Jc (j:Nat):Int.tdiv ((j:Int)-1) 2=(((j-1) / 2:Nat):Int):=by
 cases j with
 | zero=>rfl
 | succ j=>rw[Int.tdiv_eq_ediv_of_nonneg (by omega)]; omega
theorem ZQ (bp:Nat) (F:List Int) (ls:Value) (j:Nat) (h:Heap) (κ:KQ) (f:eU h bp F ls) (hj:j<F.length) (hlen:F.length≤100000)
  (hk:∀h' F',eU h' bp F' ls→F'.Perm F→(uI F j→HP F')→uG bp h h'→κ (.tuple ⟨[]⟩) h'):CallW Tryz.prog 199 [frV bp,.int .i64 (j:Int)] h κ:=by
 refine aq mixed ?_
 rw[P8]
 refine ⟨fun n l h1=>∃(k:Nat) (F1:List Int),slot l 19=.int .i64 (k:Int)∧n=k∧k<F.length∧F1.Perm F∧(uI F j→uI F1 k)∧eU h1 bp F1 ls∧uG bp h h1,⟨_,j,F,rfl,rfl,hj,List.Perm.refl _,id,f,uG.refl _ _⟩,?_⟩
 rintro n l h1 ⟨k,F1,s1,rfl,jc,hp1,G1,f1,EU⟩
 have tI:=hp1.length_eq
 have e1:=Jc n
 by_cases h0:n=0
 ·subst h0
  simp(disch:=first|omega|simp only[Wd]<;>omega|with_unfolding_all rfl)only[Wz,ue,s1,D0,e1]
  exact hk h1 F1 f1 hp1 (fun u=>(G1 u).Jb) EU
 ·obtain ⟨fs,hg,hpt⟩:=f1.cell
  simp(disch:=first|omega|simp only[Wd]<;>omega|with_unfolding_all rfl)only[Wz,ue,s1,D0,e1,HA,ci_less,hg]
  refine qJ F1 n ((n-1) / 2) h1 _ _ hpt (by omega) (by omega) ?_
  by_cases hls:F1[n]'(by omega)<F1[(n-1) / 2]'(by omega)
  ·simp(disch:=first|omega|simp only[Wd]<;>omega|with_unfolding_all rfl)only[Wz,aZ hls,ci_swap,hg]
   refine qL F1 ((n-1) / 2) n h1 _ _ hpt (by omega) (by omega) ?_
   intro h2 q1 q2 q3 q4 q5
   refine ⟨_,?_,(n-1) / 2,kO F1 ((n-1) / 2) n,rfl,rfl,by omega,(oE (by omega) (by omega)).trans hp1,fun u=>(G1 u).step (by omega) (by omega) (by rw[gD (by omega),gD (by omega)]; exact hls),f1.same q1 q2 hg q3 q4,EU.trans (.swap hg q1 q2 q4 q5)⟩
   omega
  ·simp(disch:=first|omega|simp only[Wd]<;>omega|with_unfolding_all rfl)only[Wz,aG hls]
   exact hk h1 F1 f1 hp1 (fun u=>(G1 u).Q9 (by rw[gD (by omega),gD (by omega)]; omega)) EU
set_option maxHeartbeats 1000000 in
theorem Q_ (bp:Nat) (F:List Int) (ls:Value) (i0 n:Nat) (h:Heap) (κ:KQ) (f:eU h bp F ls) (hn:n≤F.length) (hlen:F.length≤100000) (Tx:i0≤100000)
  (hk:∀r h' F',eU h' bp F' ls→F'.Perm F→(∀k,n≤k→F'[k]? = F[k]?)→(rQ F i0 n→HN F' n)→uG bp h h'→κ (.bool r) h'):CallW Tryz.prog 172 [frV bp,.int .i64 (i0:Int),.int .i64 (n:Int)] h κ:=by
 refine aq mixed ?_
 rw[P3]
 refine ⟨fun l h'=>∃(k:Nat) (F':List Int),slot l 36=.int .i64 (k:Int)∧eU h' bp F' ls∧F'.Perm F∧(∀k,n≤k→F'[k]? = F[k]?)∧(rQ F i0 n→HN F' n)∧uG bp h h',?_,?_⟩
 rotate_left
 ·rintro l h' ⟨k,F',s1,q1,q2,q3,q4,q5⟩
  simp(disch:=first|omega|simp only[Wd]<;>omega|with_unfolding_all rfl)only[Wz,s1]
  exact hk _ h' F' q1 q2 q3 q4 q5
 refine ⟨fun m l h1=>∃(i:Nat) (F1:List Int),slot l 36=.int .i64 (i:Int)∧m=200002-i∧i≤200000∧(i<n∨i=i0)∧F1.Perm F∧(∀k,n≤k→F1[k]? = F[k]?)∧(rQ F i0 n→rQ F1 i n)∧eU h1 bp F1 ls∧uG bp h h1,⟨_,i0,F,rfl,rfl,by omega,.inr rfl,List.Perm.refl _,fun _ _=>rfl,id,f,uG.refl _ _⟩,?_⟩
 rintro m l h1 ⟨i,F1,s1,rfl,hi,hin,hp1,ht1,SA,f1,EU⟩
 have tI:=hp1.length_eq
 obtain ⟨fs,hg,hpt⟩:=f1.cell
 by_cases hst:2*i+1<n
 case neg=>
  simp(disch:=first|omega|simp only[Wd]<;>omega|with_unfolding_all rfl)only[Wz,ud,s1,c6 (show (n:Int)≤2*(i:Int)+1 by omega)]
  exact ⟨i,F1,rfl,f1,hp1,ht1,fun d=>(SA d).Jb (by omega),EU⟩
 have c1:(2*(i:Int)+1)=((2*i+1:Nat):Int):=by omega
 simp(disch:=first|omega|simp only[Wd]<;>omega|with_unfolding_all rfl)only[Wz,ud,s1,c1,fI (show ((2*i+1:Nat):Int)<(n:Int) by omega),c6 (show (0:Int)≤((2*i+1:Nat):Int) by omega),A3]
 refine ⟨fun l13 h'=>∃j:Nat,slot l13 13=.int .i64 (j:Int)∧i<j∧j<n∧(j-1) / 2=i∧(∀k,0<k→k<n→(k-1) / 2=i→F1.getD j 0≤F1.getD k 0)∧HQ h1 h',?_,?_⟩
 ·have c2:((2*i+1:Nat):Int)+1=((2*i+2:Nat):Int):=by omega
  by_cases h2:2*i+2<n
  ·simp(disch:=first|omega|simp only[Wd]<;>omega|with_unfolding_all rfl)only[Wz,t_,c2,fI (show ((2*i+2:Nat):Int)<(n:Int) by omega),ci_less,hg]
   refine qJ F1 (2*i+2) (2*i+1) h1 _ _ hpt (by omega) (by omega) ?_
   by_cases hls:F1[2*i+2]'(by omega)<F1[2*i+1]'(by omega)
   ·simp(disch:=first|omega|simp only[Wd]<;>omega|with_unfolding_all rfl)only[Wz,aZ hls]
    exact ⟨2*i+2,rfl,by omega,h2,by omega,fun k k0 k1 k2=>by
     have ek:k=2*i+1∨k=2*i+2:=by omega
     rcases ek with rfl | rfl
     ·rw[gD (by omega),gD (by omega)]; omega
     ·exact Int.le_refl _,rfl⟩
   ·simp(disch:=first|omega|simp only[Wd]<;>omega|with_unfolding_all rfl)only[Wz,aG hls]
    exact ⟨2*i+1,rfl,by omega,hst,by omega,fun k k0 k1 k2=>by
     have ek:k=2*i+1∨k=2*i+2:=by omega
     rcases ek with rfl | rfl
     ·exact Int.le_refl _
     ·rw[gD (by omega),gD (by omega)]; omega,rfl⟩
  ·simp(disch:=first|omega|simp only[Wd]<;>omega|with_unfolding_all rfl)only[Wz,t_,c2,c6 (show (n:Int)≤((2*i+2:Nat):Int) by omega)]
   exact ⟨2*i+1,rfl,by omega,hst,by omega,fun k k0 k1 k2=>by
    have ek:k=2*i+1:=by omega
    rw[ek]; exact Int.le_refl _,rfl⟩
 ·rintro l13 h' ⟨j,s2,hij,hjn,hjp,hmin,hq⟩
  cases (show h1=h' from hq)
  simp(disch:=first|omega|simp only[Wd]<;>omega|with_unfolding_all rfl)only[Wz,s1,s2,ci_less,hg]
  refine qJ F1 j i h1 _ _ hpt (by omega) (by omega) ?_
  by_cases hls:F1[j]'(by omega)<F1[i]'(by omega)
  ·simp(disch:=first|omega|simp only[Wd]<;>omega|with_unfolding_all rfl)only[Wz,aZ hls,ci_swap,hg,s1,s2]
   refine qL F1 i j h1 _ _ hpt (by omega) (by omega) ?_
   intro h2 q1 q2 q3 q4 q5
   refine ⟨_,?_,j,kO F1 i j,rfl,rfl,by omega,.inl hjn,(oE (by omega) (by omega)).trans hp1,?_,fun d=>(SA d).step (by omega) hjn hjp (by omega) (by rw[gD (by omega),gD (by omega)]; exact hls) hmin,f1.same q1 q2 hg q3 q4,EU.trans (.swap hg q1 q2 q4 q5)⟩
   ·omega
   ·intro k jc
    rw[←ht1 k jc,pR (by omega) (by omega),List.getElem?_set,if_neg (by omega),List.getElem?_set,if_neg (by omega)]
  ·simp(disch:=first|omega|simp only[Wd]<;>omega|with_unfolding_all rfl)only[Wz,aG hls,s1]
   exact ⟨i,F1,rfl,f1,hp1,ht1,fun d=>(SA d).Q9 (by rw[gD (by omega),gD (by omega)]; omega) hmin,EU⟩
theorem ry {h:Heap} {v:Value} {F:List Int} {x:Int} {b7 c7:Nat} (hp:jv h v F) (Vf:b7<h.nx) (ZR:h.bl.get b7=some (aa [.int .i64 x] 3 false)) (hlen:F.length≤100000) (hal:h.lo≤h.nx) (κ:KQ)
  (hk:∀v' h',jv h' v' (F++[x])→h.nx≤h'.nx→h'.lo=h.lo→(∀c,c<h.nx→(∀vs,h.bl.get c≠some (aa vs 3 true))→h'.bl.get c=h.bl.get c)→(∀c,c<h.nx→(∀n cap,v≠.slice (some ⟨c,0,none⟩) n cap)→h'.bl.get c=h.bl.get c)→(∀c n cap,c<h.nx→v'=.slice (some ⟨c,0,none⟩) n cap→∃n cap,v=.slice (some ⟨c,0,none⟩) n cap)→κ v' h') :
  bE False 3 1 [.int .i64 0] false v (.slice (some ⟨b7,0,none⟩) 1 c7) h κ:=by
 have hx:Sl bQ h (.slice (some ⟨b7,0,none⟩) 1 c7) [x]:=Sl.new (L:=[x]) (e:=3) (op:=false) Vf (by simpa[bQ] using ZR) _
 have full:fS bQ ⟨0,.nil,h.lo⟩ 3 h v F→(∀v' h',fS bQ ⟨0,.nil,h.lo⟩ 3 h' v' (F++[x])→jv h' v' (F++[x]))→bE False 3 1 [.int .i64 0] false v (.slice (some ⟨b7,0,none⟩) 1 c7) h κ:=by
  intro ho Vu
  refine Dc (enc:=bQ) (a:=⟨0,.nil,h.lo⟩) (L:=F) (M:=[x]) encNum_len uD (by decide) (by decide) ho hx ⟨Nat.zero_le _,rfl,fun b hb=>absurd hb (Nat.not_lt_zero _)⟩ (by simp; omega) hal κ ?_
  intro v' h' ho' _ _ hn hl hs hs2 hv
  refine hk v' h' (Vu v' h' ho') hn hl (fun c hc hne=>hs c hc (hne _)) hs2 fun c n cap hc e=>?_
  rcases hv with rfl | ⟨b,n',cap',hb,rfl⟩
  ·exact ⟨n,cap,e⟩
  ·injection e with e; injection e with e; injection e with e; omega
 have conv:∀v' h',fS bQ ⟨0,.nil,h.lo⟩ 3 h' v' (F++[x])→jv h' v' (F++[x]):=by
  intro v' h' ho
  rcases ho with ⟨e,_⟩ | ⟨b,e,_,h2,h3,h4⟩
  ·simp at e
  ·exact .inr ⟨b,[],e,h2,h3,by rw[List.append_nil]; exact h4,by simp⟩
 rcases hp with ⟨rfl,rfl⟩ | ⟨b,G,rfl,h1,h2,h3,h4⟩
 ·exact full (.inl ⟨rfl,.inl rfl⟩) conv
 ·cases G with
  | nil=>
   rw[List.append_nil] at h3
   exact full (.inr ⟨b,rfl,Nat.zero_le _,h1,h2,h3⟩) conv
  | cons g G=>
   have gY:∀κ':List Value→Prop,eO False h 1 1 (.slice (some ⟨b7,0,none⟩) 1 c7) κ'=κ' [.int .i64 x]:=fun κ'=>hx.first (β:=Prop) (fl:=False) encNum_len κ'
   have hl:=bh (enc:=bQ) encNum_len (F++g::G)
   have hl':(F++g::G).length=F.length+(G.length+1):=by simp
   have LH:=uH (G:=G) (F:=F++[g]) (y:=x) (i:=F.length) (by simp)
   have e0:F++[g]++G=F++g::G:=by simp
   have e00:(F++[g]).set F.length x=F++[x]:=by simp
   rw[e0,e00] at LH
   unfold bE jH
   simp only
   rw[gY]
   simp only[bG]
   have e2:Nat.beq aM fk=false:=by decide
   have e3:Nat.beq aM aM=true:=Nat.beq_refl _
   have e5:Nat.ble (Nat.add F.length (0+1)) 1000000000=true:=Nat.ble_eq_true_of_le (by show F.length+(0+1)≤_; omega)
   have e4:Nat.ble (Nat.add 0 (Nat.mul (Nat.add F.length (0+1)) 1)) ((F++g::G).flatMap bQ).length=true:=Nat.ble_eq_true_of_le (by rw[hl]; show 0+(F.length+(0+1))*1≤_; omega)
   simp only[e2,e3,e5,h3,aa,Nat.beq_refl,e4]
   rw[qw _ _ _ _ _ (by show 0+F.length*1+1≤_; omega) rfl,bL _ _ _ _ h2]
   have e6:(Nat.add 0 (Nat.mul F.length 1))=F.length:=by show 0+F.length*1=_; omega
   rw[e6,yw _ _ _ (by show F.length+1≤_; omega),LH]
   have e7:((F++g::G).flatMap bQ).length=((F++[x]++G).flatMap bQ).length:=by rw[hl,bh encNum_len]; simp
   rw[e7]
   refine hk _ _ (.inr ⟨b,G,by simp,h1,h2,T.af _ _ _,by simp; omega⟩) (Nat.le_refl _) rfl ?_ ?_ ?_
   ·intro c hc hne
    refine T.ai _ _ ?_
    rintro rfl
    exact hne _ h3
   ·intro c hc hne
    refine T.ai _ _ ?_
    rintro rfl
    exact hne _ _ rfl
   ·intro c n cap hc e
    injection e with e; injection e with e; injection e with e
    subst e
    exact ⟨_,_,rfl⟩
theorem Jd (bp:Nat) (F:List Int) (ls:Value) (x:Int) (h:Heap) (κ:KQ) (f:eU h bp F ls) (hlen:F.length≤10000) (hlo:h.lo≤h.nx) (hls:∃a n c,ls=.slice a n c)
  (hk:∀h' F',eU h' bp F' ls→F'.Perm (F++[x])→(HP F→HP F')→uG bp h h'→κ (.tuple ⟨[]⟩) h'):CallW Tryz.prog 146 [frV bp,.iface 3 (.int .i64 x)] h κ:=by
 obtain ⟨la,ln,lc,rfl⟩:=hls
 refine aq mixed ?_
 rw[PR]
 simp(disch:=first|omega|simp only[Wd]<;>omega|with_unfolding_all rfl)only[Wz,ci_push]
 refine aq mixed ?_
 rw[QU]
 obtain ⟨fs,hg,hpt⟩:=f.cell
 have hfs:∃a n c,fs=.slice a n c:=by
  rcases hpt with ⟨_,rfl⟩ | ⟨b,G,rfl,_⟩<;>exact ⟨_,_,_,rfl⟩
 have Vv:=f.lt
 have aeZ:=f.lo
 simp(disch:=first|omega|simp only[Wd]<;>omega|with_unfolding_all rfl)only[Wz,dM,Bw,aN,hg]
 have hle1:=(Le.refl h).new (aa [.int .i64 x] 3 false)
 obtain ⟨hA,eA⟩:∃hA:Heap,hA=⟨h.nx+1,h.bl.aW h.nx (aa [.int .i64 x] 3 false),h.lo⟩:=⟨_,rfl⟩
 rw[←eA] at hle1 ⊢
 have nA:hA.nx=h.nx+1:=by rw[eA]
 have lA:hA.lo=h.lo:=by rw[eA]
 have gA:hA.bl.get h.nx=some (aa [.int .i64 x] 3 false):=by rw[eA]; exact T.af _ _ _
 have SC:=(hle1.get bp Vv).trans hg
 have ZS:jv hA fs F:=by
  rcases hpt with e | ⟨b,G,e,h1,h2,h3,h4⟩
  ·exact .inl e
  ·exact .inr ⟨b,G,e,by omega,by omega,(hle1.get b h1).trans h3,h4⟩
 refine ry ZS (by omega) gA (by omega) (by omega) _ ?_
 intro v' h2 hp2 n2 l2 hs2 ZI hv3
 have g2:=(hs2 bp (by omega) (fun vs=>by rw[SC]; exact bf)).trans SC
 have rV:∃a n c,v'=.slice a n c:=by
  rcases hp2 with ⟨_,rfl⟩ | ⟨b,G,rfl,_⟩<;>exact ⟨_,_,_,rfl⟩
 obtain ⟨va,vn,vc,rfl⟩:=rV
 simp(disch:=first|omega|simp only[Wd]<;>omega|with_unfolding_all rfl)only[Wz,g2]
 obtain ⟨hB,eB⟩:∃hB:Heap,hB=⟨h2.nx,h2.bl.aW bp (aa [.slice va vn vc,.slice la ln lc] 225 false),h2.lo⟩:=⟨_,rfl⟩
 rw[←eB]
 have nB:hB.nx=h2.nx:=by rw[eB]
 have lB:hB.lo=h2.lo:=by rw[eB]
 have gB:hB.bl.get bp=some (aa [.slice va vn vc,.slice la ln lc] 225 false):=by rw[eB]; exact T.af _ _ _
 have hpB:jv hB (.slice va vn vc) (F++[x]):=by
  rcases hp2 with e | ⟨b,G,e,h1,Xr,h3,h4⟩
  ·exact .inl e
  ·refine .inr ⟨b,G,e,by omega,by omega,?_,h4⟩
   rw[eB]
   exact (T.ai _ _ (by rintro rfl; rw[g2] at h3; exact bf h3)).trans h3
 have fB:eU hB bp (F++[x]) (.slice la ln lc):=⟨by omega,by omega,_,gB,hpB⟩
 have frB:uG bp h hB:=by
  refine ⟨by omega,by omega,fun c hc hn hi=>?_,fun _ c hc hn hi=>?_,fun _ c hc hx=>?_⟩
  ·have e1:hA.bl.get c=h.bl.get c:=hle1.get c hc
   rw[eB]
   exact (T.ai _ _ (fun e=>hn e.symm)).trans ((hs2 c (by omega) (fun vs=>by rw[e1]; exact hi vs)).trans e1)
  ·have e1:hA.bl.get c=h.bl.get c:=hle1.get c hc
   rw[eB]
   exact (T.ai _ _ (fun e=>hn e.symm)).trans ((ZI c (by omega) (fun n cap e=>hi ⟨n,cap,_,e▸hg⟩)).trans e1)
  ·obtain ⟨n,cap,ls',hx⟩:=hx
   rw[gB] at hx
   obtain ⟨n',cap',e⟩:=hv3 c n cap (by omega) (jT hx)
   exact ⟨n',cap',_,e▸hg⟩
 simp(disch:=first|omega|simp only[Wd]<;>omega|with_unfolding_all rfl)only[Wz,ci_len,gB]
 refine pQ (F++[x]) hB _ _ hpB ?_
 have el:(((F++[x]).length:Nat):Int)-1=(F.length:Int):=by simp
 have el2:(F++[x]).length=F.length+1:=by simp
 simp(disch:=first|omega|simp only[Wd]<;>omega|with_unfolding_all rfl)only[Wz,el]
 refine ZQ bp (F++[x]) _ F.length hB _ fB (by omega) (by omega) ?_
 intro h3 F' f3 G9 ZT SD
 exact hk h3 F' f3 G9 (fun u=>ZT (HP.push u x)) (frB.trans SD)
theorem Vw (bp:Nat) (F:List Int) (ls:Value) (h:Heap) (κ:KQ) (f:eU h bp F ls) (h0:F≠[]) (hlen:F.length≤10000) (hlo:h.lo≤h.nx) (hls:∃a n c,ls=.slice a n c)
  (hk:∀h' F' x,eU h' bp F' ls→(x::F').Perm F→(HP F→HP F'∧∀y∈F',x≤y)→uG bp h h'→κ (.iface 3 (.int .i64 x)) h'):CallW Tryz.prog 135 [frV bp] h κ:=by
 obtain ⟨la,ln,lc,rfl⟩:=hls
 have hpos:0<F.length:=List.length_pos_iff.2 h0
 refine aq mixed ?_
 rw[PL]
 obtain ⟨fs,hg,hpt⟩:=f.cell
 simp(disch:=first|omega|simp only[Wd]<;>omega|with_unfolding_all rfl)only[Wz,ci_len,hg]
 refine pQ F h _ _ hpt ?_
 have el:((F.length:Nat):Int)-1=((F.length-1:Nat):Int):=by omega
 simp(disch:=first|omega|simp only[Wd]<;>omega|with_unfolding_all rfl)only[Wz,el,ci_swap,hg]
 refine qL F 0 (F.length-1) h _ _ hpt hpos (by omega) ?_
 intro h1 q1 q2 q3 q4 q5
 have f1:=f.same q1 q2 hg q3 q4
 have zi:=oE (F:=F) (i:=0) (j:=F.length-1) hpos (by omega)
 have tI:=zi.length_eq
 refine Q_ bp (kO F 0 (F.length-1)) _ 0 (F.length-1) h1 _ f1 (by omega) (by omega) (by omega) ?_
 intro r h2 F2 f2 hp2 ht2 hd2 wu
 have FG:=hp2.length_eq
 obtain ⟨fs2,hg2,Md⟩:=f2.cell
 have Vv:=f2.lt
 have hlb:=f2.lo
 simp(disch:=first|omega|simp only[Wd]<;>omega|with_unfolding_all rfl)only[Wz,ci_pop]
 refine aq mixed ?_
 rw[QT]
 simp(disch:=first|omega|simp only[Wd]<;>omega|with_unfolding_all rfl)only[Wz,aN,hg2]
 refine pQ F2 h2 _ _ Md ?_
 have el2:((F2.length:Nat):Int)-1=((F2.length-1:Nat):Int):=by omega
 rcases Md with ⟨e,_⟩ | ⟨b,G,rfl,k1,k2,k3,k4⟩
 ·rw[e] at FG; simp at FG; omega
 obtain ⟨x,hx⟩:∃x,F2[F2.length-1]? = some x:=⟨_,List.getElem?_eq_getElem (by omega)⟩
 have hr:=mJ (G:=G) hx
 have hfl:=bh (enc:=bQ) encNum_len (F2++G)
 have hl3:(F2++G).length=F2.length+G.length:=List.length_append
 simp(disch:=first|omega|simp only[Wd]<;>omega|with_unfolding_all rfl)only[Wz,el2,hg2,aS,k3,hr,Nat.mul_one,Ax (n:=(F2++G).length) (i:=F2.length-1) (Nat.succ_pos 0) k3 (by rw[hfl]) (by omega) (by omega)]
 have hne:b≠bp:=by rintro rfl; rw[hg2] at k3; exact bf k3
 have eF:F2=F2.take (F2.length-1)++[x]:=by
  conv=>lhs; rw[←List.take_append_drop (F2.length-1) F2]
  congr 1
  have hlt:F2.length-1<F2.length:=by omega
  rw[List.drop_eq_getElem_cons hlt,List.drop_of_length_le (by omega)]
  rw[List.getElem?_eq_getElem hlt] at hx
  cases hx; rfl
 refine hk ⟨h2.nx,h2.bl.aW bp (aa [.slice (some ⟨b,0,none⟩) (F2.length-1) aM,.slice la ln lc] 225 false),h2.lo⟩ (F2.take (F2.length-1)) x ⟨Vv,hlb,_,T.af _ _ _,.inr ⟨b,x::G,by simp,k1,k2,?_,by simp; omega⟩⟩ ?_ ?_ ?_
 ·rw[show F2.take (F2.length-1)++x::G=F2++G by conv=>rhs; rw[eF]; simp]
  exact (T.ai _ _ (fun e=>hne e.symm)).trans k3
 ·refine List.Perm.trans ?_ (hp2.trans zi)
  conv=>rhs; rw[eF]
  exact (List.perm_append_singleton x _).symm
 ·intro u
  refine ⟨HN.take (by rw[FG,tI]; exact hd2 (HP.pop u hpos)) (by omega),fun y hy=>?_⟩
  have hyF:y∈F:=by
   refine (hp2.trans zi).mem_iff.1 ?_
   rw[eF]; exact List.mem_append_left _ hy
  obtain ⟨k,jc,rfl⟩:=List.getElem_of_mem hyF
  have OJ:x=F.getD 0 0:=by
   have e1:=ht2 (F.length-1) (Nat.le_refl _)
   rw[FG,tI,e1,List.getElem?_eq_getElem (by omega)] at hx
   have e2:=pS (F:=F) (i:=0) (j:=F.length-1) hpos (by omega) (F.length-1)
   rw[if_pos rfl,gD (by omega)] at e2
   rw[←e2]
   exact (Option.some.inj hx).symm
  rw[OJ,←gD jc]
  exact HP.least u _ k (Nat.lt_succ_self _) jc
 ·refine uG.trans (uG.trans (.swap hg q1 q2 q4 q5) wu) ⟨Nat.le_refl _,rfl,fun c _ hn _=>T.ai _ _ (fun e=>hn e.symm),fun _ c _ hn _=>T.ai _ _ (fun e=>hn e.symm),fun _ c _ hx=>?_⟩
  obtain ⟨n,cap,ls',hx⟩:=hx
  have e:=jT ((T.af _ _ _).symm.trans hx)
  injection e with e; injection e with e; injection e with e
  subst e
  exact ⟨_,_,_,hg2⟩
structure iR (F:List Int) (B:List Bool):Prop where
 nodup:F.Nodup
 mem:∀n:Nat,(n:Int)∈F↔B[n]? = some false
 pos:∀x∈F,0≤x
 hp:HP F
structure dg (h:Heap) (bp bl:Nat) (F:List Int) (B:List Bool):Prop where
 fr:eU h bp F (.slice (some ⟨bl,0,none⟩) B.length B.length)
 lt:bl<h.nx
 lo:h.lo≤bl
 cell:h.bl.get bl=some (aa (B.map Value.bool) 4 false)
 ok:iR F B
 small:B.length≤128
theorem iR.take {F F':List Int} {B:List Bool} {x:Int} (o:iR F B) (hp:(x::F').Perm F) (hu:HP F→HP F'∧∀y∈F',x≤y):∃n:Nat,x=(n:Int)∧n<B.length∧B[n]? = some false∧(∀k,k<n→B[k]? = some true)∧iR F' (B.set n true):=by
 have hx:x∈F:=hp.mem_iff.1 (.head _)
 obtain ⟨n,rfl⟩:∃n:Nat,x=(n:Int):=⟨x.toNat,by have:=o.pos x hx; omega⟩
 have hb:=(o.mem n).1 hx
 have hn:n<B.length:=(List.getElem?_eq_some_iff.1 hb).1
 have hnd:((n:Int)::F').Nodup:=(hp.nodup_iff).2 o.nodup
 rw[List.nodup_cons] at hnd
 obtain ⟨G1,OC⟩:=hu o.hp
 have Ra:∀k,k<n→B[k]? = some true:=by
  intro k hk
  have Xa:k<B.length:=by omega
  rw[List.getElem?_eq_getElem Xa]
  cases hbk:B[k] with
  | true=>rfl
  | false=>
   have ZU:(k:Int)∈F:=(o.mem k).2 (by rw[List.getElem?_eq_getElem Xa,hbk])
   rcases List.mem_cons.1 (hp.mem_iff.2 ZU) with h | h
   ·omega
   ·have:=OC _ h; omega
 refine ⟨n,rfl,hn,hb,Ra,hnd.2,fun k=>?_,fun y hy=>o.pos y (hp.mem_iff.1 (.tail _ hy)),G1⟩
 rw[List.getElem?_set]
 by_cases hk:n=k
 ·subst hk
  rw[if_pos rfl,if_pos hn]
  simp[hnd.1]
 ·rw[if_neg hk,←o.mem k,←hp.mem_iff,List.mem_cons]
  constructor
  ·exact fun h=>.inr h
  ·rintro (h | h)
   ·omega
   ·exact h
theorem iR.ZV {F F':List Int} {B:List Bool} {n:Nat} (o:iR F B) (hb:B[n]? = some true) (hp:F'.Perm (F++[(n:Int)])) (hu:HP F→HP F'):iR F' (B.set n false):=by
 have hn:n<B.length:=(List.getElem?_eq_some_iff.1 hb).1
 have hno:(n:Int)∉F:=fun h=>by have:=(o.mem n).1 h; rw[hb] at this; cases this
 refine ⟨(hp.nodup_iff).2 ?_,fun k=>?_,fun y hy=>?_,hu o.hp⟩
 ·rw[List.nodup_append]
  refine ⟨o.nodup,by simp,fun a ha b hb'=>?_⟩
  rw[List.mem_singleton] at hb'
  subst hb'
  rintro rfl
  exact hno ha
 ·rw[hp.mem_iff,List.mem_append,List.mem_singleton,List.getElem?_set]
  by_cases hk:n=k
  ·subst hk; rw[if_pos rfl,if_pos hn]; simp
  ·rw[if_neg hk,←o.mem k]
   constructor
   ·rintro (h | h)
    ·exact h
    ·omega
   ·exact fun h=>.inl h
 ·rcases List.mem_append.1 (hp.mem_iff.1 hy) with h | h
  ·exact o.pos y h
  ·rw[List.mem_singleton] at h; omega
theorem NW (h:Heap) (b o:Nat):kV Tryz.prog h 100 144 (.pointer (some ⟨b,o,none⟩)) (.pointer none)=some false:=by kernel_rfl
theorem yU {β:Type} {fl:β} (cn:Bool) (b o:Nat) (h:Heap) (κ:Value→Heap→β):au fl Tryz.prog .eql 144 cn false (.pointer (some ⟨b,o,none⟩)) (.pointer none) h κ=κ (.bool false) h:=by simp only[au,NW,bN]
theorem yV {β:Type} {fl:β} (cn:Bool) (b o:Nat) (h:Heap) (κ:Value→Heap→β):au fl Tryz.prog .neq 144 cn false (.pointer (some ⟨b,o,none⟩)) (.pointer none) h κ=κ (.bool true) h:=by simp only[au,NW,bN,Bool.not_false]
theorem NY (bp bl:Nat) (F:List Int) (B:List Bool) (i:Int) (h:Heap) (κ:KQ) (p:dg h bp bl F B) (hk:κ (.bool (decide (0≤i) && (B[i.toNat]?).getD false)) h):CallW Tryz.prog 242 [.pointer (some ⟨bp,0,none⟩),.int .i64 i] h κ:=by
 refine aq mixed ?_
 rw[Qk]
 obtain ⟨fs,hg,hpt⟩:=p.fr.cell
 by_cases h0:0≤i
 ·obtain ⟨n,rfl⟩:∃n:Nat,i=(n:Int):=⟨i.toNat,by omega⟩
  rw[aZ h0,Bool.true_and,Int.toNat_natCast] at hk
  by_cases h1:n<B.length
  ·have hr:(B.map Value.bool)[n]? = some (.bool B[n]):=by rw[List.getElem?_map,List.getElem?_eq_getElem h1]; rfl
   rw[List.getElem?_eq_getElem h1] at hk
   simp(disch:=first|omega|simp only[Wd]<;>omega|with_unfolding_all rfl)only[Wz,yV,aN,hg,c6 h0,fI (show (n:Int)<(B.length:Int) by omega),aS,p.cell,hr,Nat.mul_one]
   exact hk
  ·rw[List.getElem?_eq_none (by omega)] at hk
   simp(disch:=first|omega|simp only[Wd]<;>omega|with_unfolding_all rfl)only[Wz,yV,aN,hg,c6 h0,c6 (show (B.length:Int)≤(n:Int) by omega)]
   exact hk
 ·rw[aG h0,Bool.false_and] at hk
  simp(disch:=first|omega|simp only[Wd]<;>omega|with_unfolding_all rfl)only[Wz,yV,aN,hg,fI (show i<0 by omega)]
  exact hk
structure EV (bp bl:Nat) (h h':Heap):Prop where
 nx:h.nx≤h'.nx
 lo:h'.lo=h.lo
 get:∀c,c<h.nx→c≠bp→c≠bl→(∀vs,h.bl.get c≠some (aa vs 3 true))→h'.bl.get c=h.bl.get c
 g2:bp<h.nx→∀c,c<h.nx→c≠bp→c≠bl→¬FB h bp c→h'.bl.get c=h.bl.get c
 mv:bp<h.nx→∀c,c<h.nx→FB h' bp c→FB h bp c
theorem EV.trans {bp bl:Nat} {h h' h'':Heap} (a:EV bp bl h h') (b:EV bp bl h' h''):EV bp bl h h'':=
 ⟨Nat.le_trans a.nx b.nx,b.lo.trans a.lo,fun c hc hn hl hi=>(b.get c (Nat.lt_of_lt_of_le hc a.nx) hn hl (fun vs=>by rw[a.get c hc hn hl hi]; exact hi vs)).trans (a.get c hc hn hl hi),
  fun hb c hc hn hl hi=>(b.g2 (Nat.lt_of_lt_of_le hb a.nx) c (Nat.lt_of_lt_of_le hc a.nx) hn hl fun x=>hi (a.mv hb c hc x)).trans (a.g2 hb c hc hn hl hi),
  fun hb c hc x=>a.mv hb c hc (b.mv (Nat.lt_of_lt_of_le hb a.nx) c (Nat.lt_of_lt_of_le hc a.nx) x)⟩
theorem EV.Vx {bp bl:Nat} {h h':Heap} (f:uG bp h h'):EV bp bl h h':=⟨f.nx,f.lo,fun c hc hn _ hi=>f.get c hc hn hi,fun hb c hc hn _ hi=>f.g2 hb c hc hn hi,f.mv⟩
theorem uJ (B:List Bool) (n:Nat) (b:Bool):over (B.map Value.bool) n [.bool b]=(if n<B.length then (B.set n b).map Value.bool else over (B.map Value.bool) n [.bool b]):=by
 split
 ·rename_i h
  rw[List.map_set]
  unfold over
  rw[List.set_eq_take_append_cons_drop,if_pos (by simpa using h)]
  simp
 ·rfl
theorem xm {B:List Bool} {n:Nat} {b:Bool} (h:n<B.length):over (B.map Value.bool) n [.bool b]=(B.set n b).map Value.bool:=by
 rw[uJ,if_pos h]
theorem Rb (bp bl:Nat) (F:List Int) (B:List Bool) (h:Heap) (κ:KQ) (p:dg h bp bl F B) (hF:F.length≤1000) (hlo:h.lo≤h.nx) (hne:bp≠bl)
  (lF:F=[]→κ (.tuple ⟨[.int .i64 0,.int .i64 8]⟩) h)
  (jc:∀h' F' (n:Nat),dg h' bp bl F' (B.set n true)→((n:Int)::F').Perm F→B[n]? = some false→(∀k,k<n→B[k]? = some true)→EV bp bl h h'→κ (.tuple ⟨[.int .i64 (n:Int),.int .i64 0]⟩) h'):CallW Tryz.prog 292 [.pointer (some ⟨bp,0,none⟩)] h κ:=by
 refine aq mixed ?_
 rw[QB]
 obtain ⟨fs,hg,hpt⟩:=p.fr.cell
 simp(disch:=first|omega|simp only[Wd]<;>omega|with_unfolding_all rfl)only[Wz,yU,Bp,aN,hg]
 refine pQ F h _ _ hpt ?_
 by_cases h0:F=[]
 ·simp(disch:=first|omega|simp only[Wd]<;>omega|with_unfolding_all rfl)only[Wz,aZ (show (F.length:Int)=0 by simp[h0])]
  exact lF h0
 have hpos:0<F.length:=List.length_pos_iff.2 h0
 simp(disch:=first|omega|simp only[Wd]<;>omega|with_unfolding_all rfl)only[Wz,aG (show ¬(F.length:Int)=0 by omega),Bo,aN]
 refine Vw bp F _ h _ p.fr h0 (by omega) hlo ⟨_,_,_,rfl⟩ ?_
 intro h2 F' x f2 hp2 OC wu
 obtain ⟨n,rfl,hn,hb,Rc,ho⟩:=p.ok.take hp2 OC
 obtain ⟨fs2,hg2,Md⟩:=f2.cell
 have Je:=p.lt
 have ZW:=p.lo
 have n2:=wu.nx
 have l2:=wu.lo
 have hlm:(B.map Value.bool).length=B.length:=by simp
 have gl:=(wu.get bl Je (fun e=>hne e.symm) (fun vs=>by rw[p.cell]; exact bf)).trans p.cell
 simp(disch:=first|omega|simp only[Wd]<;>omega|with_unfolding_all rfl)only[Wz,dM,aN,hg2,aS,gl,Nat.mul_one,xm hn]
 refine jc ⟨h2.nx,h2.bl.aW bl (aa ((B.set n true).map Value.bool) 4 false),h2.lo⟩ F' n ⟨⟨f2.lt,f2.lo,fs2,?_,?_⟩,by show bl<h2.nx; omega,by show h2.lo≤bl; omega,T.af _ _ _,ho,by rw[List.length_set]; exact p.small⟩ hp2 hb Rc ?_
 ·rw[List.length_set]; exact (T.ai _ _ (fun e=>hne e.symm)).trans hg2
 ·rcases Md with e | ⟨b,G,e,k1,k2,k3,k4⟩
  ·exact .inl e
  ·exact .inr ⟨b,G,e,k1,k2,(T.ai _ _ (by rintro rfl; rw[gl] at k3; exact bf k3)).trans k3,k4⟩
 ·exact (EV.Vx wu).trans ⟨Nat.le_refl _,rfl,fun c _ _ hn _=>T.ai _ _ (fun e=>hn e.symm),fun _ c _ _ hn _=>T.ai _ _ (fun e=>hn e.symm),fun _ c _ hx=>(FB.congr (T.ai _ _ (fun e=>hne e.symm))).1 hx⟩
theorem Re (bp bl:Nat) (F:List Int) (B:List Bool) (n:Nat) (h:Heap) (κ:KQ) (p:dg h bp bl F B) (hF:F.length≤1000) (hlo:h.lo≤h.nx) (hne:bp≠bl) (hb:B[n]? = some true)
  (hk:∀h' F',dg h' bp bl F' (B.set n false)→F'.Perm (F++[(n:Int)])→EV bp bl h h'→κ (.int .i64 0) h'):CallW Tryz.prog 246 [.pointer (some ⟨bp,0,none⟩),.int .i64 (n:Int)] h κ:=by
 refine aq mixed ?_
 rw[Qo]
 have hn:n<B.length:=(List.getElem?_eq_some_iff.1 hb).1
 have hlm:(B.map Value.bool).length=B.length:=by simp
 obtain ⟨fs,hg,hpt⟩:=p.fr.cell
 simp(disch:=first|omega|simp only[Wd]<;>omega|with_unfolding_all rfl)only[Wz,yU]
 refine NY bp bl F B (n:Int) h _ p ?_
 have eh:(decide ((0:Int)≤(n:Int)) && (B[((n:Int)).toNat]?).getD false)=true:=by
  rw[aZ (by omega),Int.toNat_natCast,hb]; rfl
 rw[eh]
 have Je:=p.lt
 have ZW:=p.lo
 simp(disch:=first|omega|simp only[Wd]<;>omega|with_unfolding_all rfl)only[Wz,Bb,aN,hg,aS,p.cell,Nat.mul_one,xm hn]
 obtain ⟨hA,eA⟩:∃hA:Heap,hA=⟨h.nx,h.bl.aW bl (aa ((B.set n false).map Value.bool) 4 false),h.lo⟩:=⟨_,rfl⟩
 rw[←eA]
 have nA:hA.nx=h.nx:=by rw[eA]
 have lA:hA.lo=h.lo:=by rw[eA]
 have ZX:hA.bl.get bl=some (aa ((B.set n false).map Value.bool) 4 false):=by rw[eA]; exact T.af _ _ _
 have fA:eU hA bp F (.slice (some ⟨bl,0,none⟩) B.length B.length):=by
  refine ⟨by rw[nA]; exact p.fr.lt,by rw[lA]; exact p.fr.lo,fs,by rw[eA]; exact (T.ai _ _ (fun e=>hne e.symm)).trans hg,?_⟩
  rcases hpt with e | ⟨b,G,e,k1,k2,k3,k4⟩
  ·exact .inl e
  ·refine .inr ⟨b,G,e,by omega,by omega,?_,k4⟩
   rw[eA]
   exact (T.ai _ _ (by rintro rfl; rw[p.cell] at k3; exact bf k3)).trans k3
 have Cf:EV bp bl h hA:=⟨by omega,lA,fun c _ _ hn _=>by rw[eA]; exact T.ai _ _ (fun e=>hn e.symm),fun _ c _ _ hn _=>by rw[eA]; exact T.ai _ _ (fun e=>hn e.symm),fun _ c _ hx=>(FB.congr (by rw[eA]; exact T.ai _ _ (fun e=>hne e.symm))).1 hx⟩
 refine Jd bp F _ (n:Int) hA _ fA (by omega) (by omega) ⟨_,_,_,rfl⟩ ?_
 intro h3 F' f3 G9 ZT SD
 have n3:=SD.nx
 have l3:=SD.lo
 refine hk h3 F' ⟨by rw[List.length_set]; exact f3,by omega,by omega,?_,p.ok.ZV hb G9 ZT,by rw[List.length_set]; exact p.small⟩ G9 (Cf.trans (EV.Vx SD))
 exact (SD.get bl (by omega) (fun e=>hne e.symm) (fun vs=>by rw[ZX]; exact bf)).trans ZX
theorem jU (n:Nat):aO [Value.bool false] n=(List.replicate n false).map Value.bool:=by
 induction n with
 | zero=>rfl
 | succ n ih=>rw[List.replicate_succ,List.map_cons,←ih]; rfl
theorem iR.new (most:Nat) {F:List Int} (hp:F.Perm ((List.range most).map fun n:Nat=>(n:Int))) (hu:HP F):iR F (List.replicate most false):=by
 refine ⟨(hp.nodup_iff).2 ?_,fun n=>?_,fun x hx=>?_,hu⟩
 ·rw[List.Nodup,List.pairwise_map]
  exact List.nodup_range.imp fun hne e=>hne (Int.ofNat.inj e)
 ·rw[hp.mem_iff,List.mem_map,List.getElem?_replicate]
  constructor
  ·rintro ⟨a,ha,e⟩
   have:a=n:=Int.ofNat.inj e
   subst this
   rw[if_pos (List.mem_range.1 ha)]
  ·intro h
   by_cases hn:n<most
   ·exact ⟨n,List.mem_range.2 hn,rfl⟩
   ·rw[if_neg hn] at h; cases h
 ·obtain ⟨a,_,rfl⟩:=List.mem_map.1 (hp.mem_iff.1 hx)
  omega
theorem FV (most:Nat) (h:Heap) (κ:KQ) (hm:most≤128) (hlo:h.lo≤h.nx)
  (hk:∀bp bl h' F,dg h' bp bl F (List.replicate most false)→bp≠bl→h.nx≤bp→h.nx≤bl→F.length=most→Le h h'→(∀x,FB h' bp x→h.nx≤x)→κ (.tuple ⟨[.pointer (some ⟨bp,0,none⟩),.int .i64 0]⟩) h') :
  CallW Tryz.prog 108 [.int .i64 (most:Int)] h κ:=by
 refine aq mixed ?_
 rw[IJ]
 simp(disch:=first|omega|simp only[Wd]<;>omega|with_unfolding_all rfl)only[Wz,c6 (show (0:Int)≤(most:Int) by omega),c6 (show (most:Int)≤128 by omega)]
 have hrl:(aO [Value.bool false] most).length=most:=by rw[jU]; simp
 rw[r9 _ _ _ _ _ (by omega) (by omega),jU]
 simp(disch:=first|omega|simp only[Wd]<;>omega|with_unfolding_all rfl)only[Wz]
 obtain ⟨hA,aJ⟩:∃hA:Heap,hA=⟨h.nx+1+1,((h.bl.aW (h.nx) (aa ((List.replicate most false).map Value.bool) 4 false)).aW (h.nx+1) (aa [.slice none 0 0,.slice (some ⟨h.nx,0,none⟩) most most] 225 false)),h.lo⟩:=⟨_,rfl⟩
 have aU:Le h hA:=by subst aJ; exact (((Le.refl h).new _).new _)
 have gl:hA.bl.get (h.nx)=some (aa ((List.replicate most false).map Value.bool) 4 false):=by subst aJ; exact (T.ai _ _ (by omega)).trans (T.af _ _ _)
 have gp:hA.bl.get (h.nx+1)=some (aa [.slice none 0 0,.slice (some ⟨h.nx,0,none⟩) most most] 225 false):=by subst aJ; exact T.af _ _ _
 have ig:hA.nx=h.nx+1+1:=by subst aJ; rfl
 have ij:hA.lo=h.lo:=by subst aJ; rfl
 rw[←aJ]
 clear aJ
 refine ⟨fun m l h1=>∃(i:Nat) (F:List Int),slot l 11=.int .i64 (i:Int)∧m=most-i∧i≤most∧eU h1 (h.nx+1) F (.slice (some ⟨h.nx,0,none⟩) most most)∧F.Perm ((List.range i).map fun n:Nat=>(n:Int))∧HP F∧uG (h.nx+1) hA h1,⟨_,0,[],rfl,rfl,by omega,⟨by omega,by omega,_,gp,.inl ⟨rfl,rfl⟩⟩,List.Perm.refl _,fun i h1 h2=>absurd h2 (Nat.not_lt_zero _),uG.refl _ _⟩,?_⟩
 rintro m l h1 ⟨i,F1,s1,rfl,hi,f1,hp1,G1,EU⟩
 have n1:=EU.nx
 have l1:=EU.lo
 have tI:F1.length=i:=by rw[hp1.length_eq]; simp
 by_cases hst:i<most
 ·simp(disch:=first|omega|simp only[Wd]<;>omega|with_unfolding_all rfl)only[Wz,tT,s1,fI (show (i:Int)<(most:Int) by omega),aN]
  refine Jd (h.nx+1) F1 _ (i:Int) h1 _ f1 (by omega) (by omega) ⟨_,_,_,rfl⟩ ?_
  intro h2 F2 f2 hp2 OC wu
  refine ⟨_,?_,i+1,F2,rfl,rfl,by omega,f2,?_,OC G1,EU.trans wu⟩
  ·omega
  ·rw[List.range_succ,List.map_append]
   exact hp2.trans (hp1.append_right _)
 ·have hie:i=most:=by omega
  subst hie
  simp(disch:=first|omega|simp only[Wd]<;>omega|with_unfolding_all rfl)only[Wz,tT,s1,c6 (show (i:Int)≤(i:Int) by omega)]
  refine hk (h.nx+1) h.nx h1 F1 ⟨by rw[List.length_replicate]; exact f1,by omega,by omega,?_,iR.new _ hp1 G1,by rw[List.length_replicate]; exact hm⟩ (by omega) (by omega) (by omega) tI ⟨by omega,by omega,fun c hc=>?_⟩ fun x hx=>?_
  ·exact (EU.get h.nx (by omega) (by omega) (fun vs=>by rw[gl]; exact bf)).trans gl
  ·refine (EU.g2 (by omega) c (by omega) (by omega) ?_).trans (aU.get c hc)
   rintro ⟨n,cap,ls,hx⟩
   have:=jT (gp.symm.trans hx)
   cases this
  ·rcases Nat.lt_or_ge x h.nx with hlt | hge
   ·obtain ⟨n,cap,ls,hx⟩:=EU.mv (by omega) x (by omega) hx
    have:=jT (gp.symm.trans hx)
    cases this
   ·exact hge
end Go.Proofs
