/-
  PROVED HERE: a part of the proof (K9, K10, K11, K12, K13, K14).
-/
import Derived.Test.YtijmemedhkgplaaGreatDoorKA
import Derived.Test.YtijmemedhkgplaaGreatDoorV4
set_option linter.unusedVariables false
set_option linter.unusedSimpArgs false
set_option maxRecDepth 100000
namespace Go.Vai
section
variable {α:Type} {s:Nat} {enc:α→List Value}
set_option maxRecDepth 20000 in
theorem Gc {a h:Heap} {e:TypeId} {z:List Value} {v x:Value} {L M:List α} (he:∀a:α,(enc a).length=s) (hone:∀a:α,(enc a).all ef=true) (hs0:0<s) (hs1:s≤100) (ho:cU enc a e h v L) (hx:Sl enc h x M)
  (hle:Le a h) (hb:L.length+M.length≤1000000) (hal:h.lo≤h.nx) (κ:KQ)
  (hk:∀v' h',cU enc a e h' v' (L++M)→Le a h'→h'.nx≤h.nx+1→h.nx≤h'.nx→h'.lo=h.lo→(∀b,b<h.nx→h.bl.get b≠some (af (L.flatMap enc) e true)→h'.bl.get b=h.bl.get b)→(∀b,b<h.nx→(∀n cap,v≠.slice (some ⟨b,0,none⟩) n cap)→h'.bl.get b=h.bl.get b)→(v'=v∨∃b n cap,h.nx≤b∧v'=.slice (some ⟨b,0,none⟩) n cap)→κ v' h'):bB False e s z false v x h κ:=by
 by_cases hM:M=[]
 ·subst hM
  rw[append_nil hx (by rcases ho with ⟨rfl,rfl | ⟨b,o,rfl⟩⟩ | ⟨b,rfl,_⟩<;>exact ⟨_,_,_,rfl⟩)]
  exact hk v h (by simpa using ho) hle (Nat.le_succ _) (Nat.le_refl _) rfl (fun _ _ _=>rfl) (fun _ _ _=>rfl) (.inl rfl)
 ·obtain ⟨m,hm⟩:∃m,M.length=m+1:=⟨M.length-1,by have:=List.length_pos_iff.2 hM; omega⟩
  have hfl:=aT (enc:=enc) he
  have gR:=hx.first (β:=Prop) (fl:=False) he
  obtain ⟨y,cap,rfl,h2⟩:=hx
  have hml:∀K:List α,K.length≤1000000→(K.flatMap enc).length≤1000000000000:=fun K hK=>by
   rw[hfl]
   have:=Nat.mul_le_mul hK hs1
   omega
  have fresh:∀(hh:Heap) (ws:List Value),ws=(L++M).flatMap enc→Le a hh→hh.nx=h.nx→hh.lo=h.lo→(∀b,b<h.nx→h.bl.get b≠some (af (L.flatMap enc) e true)→hh.bl.get b=h.bl.get b)→(∀b,b<h.nx→(∀n cap,v≠.slice (some ⟨b,0,none⟩) n cap)→hh.bl.get b=h.bl.get b)→ej False ws e true hh fun b h'=>κ (.slice (some ⟨b,0,none⟩) (L.length+M.length) aN) h':=by
   intro hh ws hw SC hnx hlo hgt afC
   subst hw
   unfold ej
   rw[kJ _ _ _ _ (hml _ (by simp; omega)),dO]
   refine hk _ _ (.inr ⟨hh.nx,by simp,SC.nx,Nat.lt_succ_self _,by show hh.lo≤_; omega,T.aa _ _ _⟩) (SC.new _) (by show hh.nx+1≤_; omega) (by show h.nx≤hh.nx+1; omega) hlo (fun b hb hn=>(T.aj _ _ (by omega)).trans (hgt b hb hn)) (fun b hb hn=>(T.aj _ _ (by omega)).trans (afC b hb hn)) (.inr ⟨hh.nx,_,_,by omega,rfl⟩)
  rcases ho with ⟨rfl,hv⟩ | ⟨b,rfl,h3,h4,h5,h6⟩
  ·have hF:=fresh h (M.flatMap enc) (by simp) hle rfl rfl (fun _ _ _=>rfl) (fun _ _ _=>rfl)
   simp only[List.length_nil,Nat.zero_add] at hF
   rcases hv with rfl | ⟨b,o,rfl⟩
   ·unfold bB kS
    simp only
    rw[gR]
    simp only[hm,bR]
    rw[show Nat.ble (Nat.add 0 (m+1)) 1000000000=true from Nat.ble_eq_true_of_le (by show 0+(m+1)≤_; omega)]
    rw[hm] at hF
    have e1:Nat.add 0 (m+1)=m+1:=by show 0+(m+1)=_; omega
    rw[e1]
    exact hF
   ·unfold bB kS
    simp only
    rw[gR]
    simp only[hm,bR]
    have e1:Nat.add 0 (m+1)=m+1:=by show 0+(m+1)=_; omega
    rw[e1,show Nat.ble (m+1) 1000000000=true from Nat.ble_eq_true_of_le (by omega)]
    rw[hm] at hF
    show fQ False h s 0 _ _
    rw[jQ _ _ _ _ _ (by simp)]
    exact hF
  ·unfold bB kS
   simp only
   rw[gR]
   simp only[hm,bR]
   have e1:Nat.add L.length (m+1)=L.length+(m+1):=rfl
   rw[e1,show Nat.ble (L.length+(m+1)) 1000000000=true from Nat.ble_eq_true_of_le (by omega)]
   have e2:Nat.beq aN fP=false:=by decide
   have e3:Nat.beq aN aN=true:=Nat.beq_refl _
   simp only[e2,e3,h6]
   have e4:Nat.ble (Nat.add 0 (Nat.mul (L.length+(m+1)) s)) (L.flatMap enc).length=false:=by
    rw[hfl]
    cases SD:Nat.ble (Nat.add 0 (Nat.mul (L.length+(m+1)) s)) (L.length*s) with
    | false=>rfl
    | true=>
     have h7:0+(L.length+(m+1))*s≤L.length*s:=Nat.le_of_ble_eq_true SD
     rw[Nat.add_mul,Nat.succ_mul] at h7
     omega
   have e5:(M.flatMap enc).all ef=true:=by
    rw[List.all_flatMap]; simp only[List.all_eq_true]; intro x _; exact List.all_eq_true.1 (hone x)
   simp only[af,Nat.beq_refl,e4,e5,Bool.and_self]
   have hh:Has (h.bl.get b) 0 (L.flatMap enc):=by rw[h6]; exact Has.all
   rw[nM hh s L.length _ _ _ (hfl L).symm,bW _ _ _ _ h5]
   have hF:=fresh ⟨h.nx,h.bl.bf b (.dead (L.flatMap enc).length e),h.lo⟩ (L.flatMap enc++M.flatMap enc) (by simp) (hle.set h3 _) rfl rfl (fun b' _ hn=>T.aj _ _ (fun e=>hn (by rw[←e]; exact h6))) (fun b' _ hn=>T.aj _ _ (by rintro rfl; exact hn _ _ rfl))
   rw[hm] at hF
   exact hF
end
theorem mo {v v':Value} {vs vs':List Value} {e e':TypeId} {p p':Bool} (h:(some (af (v::vs) e p):Option bU)=some (af (v'::vs') e' p')):v=v':=by
 have h1:=congrArg (fun ob=>qM (none:Option Value) ob 0 some) h
 simp only[qg] at h1
 exact Option.some.inj h1
end Go.Vai
namespace Go.Proofs
open Go.Vai Go.Clashes
def frV (b:Nat):Value:=.iface 134 (.pointer (some ⟨b,0,none⟩))
theorem ci_len (b : Nat) (h : Heap) (κ : Value → Heap → Prop) : CallI Tryz.prog "Len" (frV b) [] h κ = (fieldAddrB False 0 (.pointer (some ⟨b, 0, none⟩)) h fun a h => load1 False a h fun v h => CallW Tryz.prog 118 [v] h κ) := by kernel_rfl
theorem ci_less (b : Nat) (i j : Value) (h : Heap) (κ : Value → Heap → Prop) : CallI Tryz.prog "Less" (frV b) [i, j] h κ = (fieldAddrB False 0 (.pointer (some ⟨b, 0, none⟩)) h fun a h => load1 False a h fun v h => CallW Tryz.prog 263 [v, i, j] h κ) := by kernel_rfl
theorem ci_swap (b : Nat) (i j : Value) (h : Heap) (κ : Value → Heap → Prop) : CallI Tryz.prog "Swap" (frV b) [i, j] h κ = (fieldAddrB False 0 (.pointer (some ⟨b, 0, none⟩)) h fun a h => load1 False a h fun v h => CallW Tryz.prog 265 [v, i, j] h κ) := by kernel_rfl
theorem ci_push (b : Nat) (x : Value) (h : Heap) (κ : Value → Heap → Prop) : CallI Tryz.prog "Push" (frV b) [x] h κ = CallW Tryz.prog 267 [.pointer (some ⟨b, 0, none⟩), x] h κ := by kernel_rfl
theorem ci_pop (b : Nat) (h : Heap) (κ : Value → Heap → Prop) : CallI Tryz.prog "Pop" (frV b) [] h κ = CallW Tryz.prog 266 [.pointer (some ⟨b, 0, none⟩)] h κ := by kernel_rfl
def od (h:Heap) (v:Value) (F:List Int):Prop:=(F=[]∧v=.slice none 0 0)∨∃b G,v=.slice (some ⟨b,0,none⟩) F.length aN∧b<h.nx∧h.lo≤b∧h.bl.get b=some (af ((F++G).flatMap cw) 3 true)∧0<(F++G).length
structure fZ (h:Heap) (bp:Nat) (F:List Int) (ls:Value):Prop where
 lt:bp<h.nx
 lo:h.lo≤bp
 cell:∃fs,h.bl.get bp=some (af [fs,ls] 132 false)∧od h fs F
def FB (h:Heap) (bp c:Nat):Prop:=∃n cap ls,h.bl.get bp=some (af [.slice (some ⟨c,0,none⟩) n cap,ls] 132 false)
theorem FB.congr {h h':Heap} {bp c:Nat} (e:h'.bl.get bp=h.bl.get bp):FB h' bp c↔FB h bp c:=by unfold FB; rw[e]
structure yg (bp:Nat) (h h':Heap):Prop where
 nx:h.nx≤h'.nx
 lo:h'.lo=h.lo
 get:∀c,c<h.nx→c≠bp→(∀vs,h.bl.get c≠some (af vs 3 true))→h'.bl.get c=h.bl.get c
 g2:bp<h.nx→∀c,c<h.nx→c≠bp→¬FB h bp c→h'.bl.get c=h.bl.get c
 mv:bp<h.nx→∀c,c<h.nx→FB h' bp c→FB h bp c
theorem yg.refl (bp:Nat) (h:Heap):yg bp h h:=⟨Nat.le_refl _,rfl,fun _ _ _ _=>rfl,fun _ _ _ _ _=>rfl,fun _ _ _ x=>x⟩
theorem yg.trans {bp:Nat} {h h' h'':Heap} (a:yg bp h h') (b:yg bp h' h''):yg bp h h'':=
 ⟨Nat.le_trans a.nx b.nx,b.lo.trans a.lo,fun c hc hn hi=>(b.get c (Nat.lt_of_lt_of_le hc a.nx) hn (fun vs=>by rw[a.get c hc hn hi]; exact hi vs)).trans (a.get c hc hn hi),
  fun hb c hc hn hi=>(b.g2 (Nat.lt_of_lt_of_le hb a.nx) c (Nat.lt_of_lt_of_le hc a.nx) hn fun x=>hi (a.mv hb c hc x)).trans (a.g2 hb c hc hn hi),
  fun hb c hc x=>a.mv hb c hc (b.mv (Nat.lt_of_lt_of_le hb a.nx) c (Nat.lt_of_lt_of_le hc a.nx) x)⟩
theorem yg.swap {bp:Nat} {h h':Heap} {fs ls:Value} (hg:h.bl.get bp=some (af [fs,ls] 132 false)) (q1:h'.nx=h.nx) (q2:h'.lo=h.lo) (q4:∀c,(∀vs,h.bl.get c≠some (af vs 3 true))→h'.bl.get c=h.bl.get c) (q5:∀c,(∀n cap,fs≠.slice (some ⟨c,0,none⟩) n cap)→h'.bl.get c=h.bl.get c):yg bp h h':=
 ⟨by omega,q2,fun c _ _ hi=>q4 c hi,fun _ c _ _ hn=>q5 c fun n cap e=>hn ⟨n,cap,ls,e▸hg⟩,fun _ c _ x=>(FB.congr (q4 bp fun vs=>by rw[hg]; exact aO)).1 x⟩
theorem pH (F:List Int) (h:Heap) (v:Value) (κ:KQ) (hp:od h v F) (hk:κ (.int .i64 (F.length:Int)) h):CallW Tryz.prog 118 [v] h κ:=by
 refine aq mixed ?_
 rw[Vc]
 rcases hp with ⟨rfl,rfl⟩ | ⟨b,G,rfl,_⟩
 ·simp(disch:=first|omega|simp only[Wd]<;>omega|with_unfolding_all rfl)only[Wz]; exact hk
 ·simp(disch:=first|omega|simp only[Wd]<;>omega|with_unfolding_all rfl)only[Wz]; exact hk
theorem pI {F G:List Int} {i:Nat} {x:Int} (hx:F[i]? = some x):((F++G).flatMap cw)[i]? = some (.int .i64 x):=by
 have h1:(F++G)[i]? = some x:=by rw[List.getElem?_append_left (List.getElem?_eq_some_iff.1 hx).1]; exact hx
 have:=fu (j:=0) bY h1 (by decide)
 simpa[cw] using this
theorem yh {F G:List Int} {i:Nat} {y:Int} (hi:i<F.length):over ((F++G).flatMap cw) i [.int .i64 y]=((F.set i y)++G).flatMap cw:=by
 have h1:(F++G)[i]? = some F[i]:=by rw[List.getElem?_append_left hi]; exact List.getElem?_eq_getElem hi
 have:=ck (p':=y) (ws:=[.int .i64 y]) (j:=0) bY h1 (by show 0+1≤1; omega) rfl
 rw[Nat.mul_one,Nat.add_zero] at this
 rw[this,List.set_append,if_pos hi]
theorem tZ (F:List Int) (i j:Nat) (h:Heap) (v:Value) (κ:KQ) (hp:od h v F) (hi:i<F.length) (hj:j<F.length) (hk:κ (.bool (decide (F[i]<F[j]))) h):CallW Tryz.prog 263 [v,.int .i64 (i:Int),.int .i64 (j:Int)] h κ:=by
 refine aq mixed ?_
 rw[Wh]
 rcases hp with ⟨rfl,rfl⟩ | ⟨b,G,rfl,h1,h2,h3,h4⟩
 ·simp at hi
 ·have r1:=pI (G:=G) (List.getElem?_eq_getElem hi)
  have r2:=pI (G:=G) (List.getElem?_eq_getElem hj)
  simp(disch:=first|omega|simp only[Wd]<;>omega|with_unfolding_all rfl)only[Wz,bA,h3,r1,r2,Nat.mul_one]
  exact hk
def nj (F:List Int) (i j:Nat):List Int:=match F[i]?,F[j]? with | some x,some y=>(F.set i y).set j x | _,_=>F
theorem sF {F:List Int} {i j:Nat} (hi:i<F.length) (hj:j<F.length):nj F i j=(F.set i F[j]).set j F[i]:=by
 simp only[nj,List.getElem?_eq_getElem hi,List.getElem?_eq_getElem hj]
theorem t_ (F:List Int) (i j:Nat):(nj F i j).length=F.length:=by
 unfold nj
 split<;>simp
theorem ua (F:List Int) (i j:Nat) (h:Heap) (v:Value) (κ:KQ) (hp:od h v F) (hi:i<F.length) (hj:j<F.length)
  (hk:∀h',h'.nx=h.nx→h'.lo=h.lo→od h' v (nj F i j)→(∀c,(∀vs,h.bl.get c≠some (af vs 3 true))→h'.bl.get c=h.bl.get c)→(∀c,(∀n cap,v≠.slice (some ⟨c,0,none⟩) n cap)→h'.bl.get c=h.bl.get c)→κ (.tuple ⟨[]⟩) h'):CallW Tryz.prog 265 [v,.int .i64 (i:Int),.int .i64 (j:Int)] h κ:=by
 refine aq mixed ?_
 rw[Wi]
 rcases hp with ⟨rfl,rfl⟩ | ⟨b,G,rfl,h1,h2,h3,h4⟩
 ·simp at hi
 ·have r1:=pI (G:=G) (List.getElem?_eq_getElem hi)
  have r2:=pI (G:=G) (List.getElem?_eq_getElem hj)
  have hl:=aT (enc:=cw) bY (F++G)
  have LC:=aT (enc:=cw) bY ((F.set i F[j])++G)
  have ov1:=yh (G:=G) (y:=F[j]) hi
  have ov2:=yh (G:=G) (F:=F.set i F[j]) (y:=F[i]) (i:=j) (by simpa using hj)
  have hlen:(F++G).length=F.length+G.length:=List.length_append
  have NN:((F.set i F[j])++G).length=F.length+G.length:=by simp
  simp(disch:=first|omega|simp only[Wd]<;>omega|with_unfolding_all rfl)only[Wz,bA,h3,r1,r2,Nat.mul_one,ov1,ov2]
  refine hk _ rfl rfl (.inr ⟨b,G,by rw[t_],h1,h2,?_,?_⟩) ?_ fun c hc=>T.aj _ _ (by rintro rfl; exact hc _ _ rfl)
  ·rw[sF hi hj]; exact T.aa _ _ _
  ·rw[List.length_append,t_]; simpa using h4
  ·intro c hc
   refine T.aj _ _ ?_
   rintro rfl
   exact hc _ h3
theorem rz {F:List Int} {i j:Nat} (hi:i<F.length) (hj:j<F.length):(nj F i j).Perm F:=by
 rw[sF hi hj]; exact List.set_set_perm hi hj
theorem gD {F:List Int} {i:Nat} (h:i<F.length):F.getD i 0=F[i]:=by
 rw[List.getD_eq_getElem?_getD,List.getElem?_eq_getElem h]; rfl
theorem sG {F:List Int} {i j:Nat} (hi:i<F.length) (hj:j<F.length) (k:Nat):(nj F i j).getD k 0=if k=j then F.getD i 0 else if k=i then F.getD j 0 else F.getD k 0:=by
 rw[sF hi hj,gD hi,gD hj]
 simp only[List.getD_eq_getElem?_getD,List.getElem?_set,List.length_set]
 by_cases h1:j=k
 ·subst h1; rw[if_pos rfl,if_pos hj,if_pos rfl]; rfl
 ·have h1':¬k=j:=fun e=>h1 e.symm
  rw[if_neg h1,if_neg h1']
  by_cases h2:i=k
  ·subst h2; rw[if_pos rfl,if_pos hi,if_pos rfl]; rfl
  ·have h2':¬k=i:=fun e=>h2 e.symm
   rw[if_neg h2,if_neg h2']
def HN (F:List Int) (n:Nat):Prop:=∀i,0<i→i<n→F.getD ((i-1) / 2) 0≤F.getD i 0
abbrev HP (F:List Int):Prop:=HN F F.length
structure yj (F:List Int) (j:Nat):Prop where
 a:∀i,0<i→i<F.length→i≠j→F.getD ((i-1) / 2) 0≤F.getD i 0
 b:0<j→∀i,0<i→i<F.length→(i-1) / 2=j→F.getD ((j-1) / 2) 0≤F.getD i 0
structure vt (F:List Int) (i n:Nat):Prop where
 a:∀k,0<k→k<n→(k-1) / 2≠i→F.getD ((k-1) / 2) 0≤F.getD k 0
 b:0<i→∀k,0<k→k<n→(k-1) / 2=i→F.getD ((i-1) / 2) 0≤F.getD k 0
theorem yj.step {F:List Int} {j:Nat} (u:yj F j) (h0:0<j) (hj:j<F.length) (hlt:F.getD j 0<F.getD ((j-1) / 2) 0):yj (nj F ((j-1) / 2) j) ((j-1) / 2):=by
 have hp:(j-1) / 2<F.length:=by omega
 have G:=sG (F:=F) hp hj
 have L:=t_ F ((j-1) / 2) j
 refine ⟨fun i h1 h2 h3=>?_,fun Wt i h1 h2 h3=>?_⟩
 ·rw[L] at h2
  rw[G,G]
  by_cases e1:i=j
  ·subst e1
   rw[if_neg (by omega),if_pos rfl,if_pos rfl]; omega
  ·rw[if_neg e1,if_neg h3]
   have A:=u.a i h1 h2 e1
   by_cases e2:(i-1) / 2=j
   ·rw[if_pos e2]; exact u.b h0 i h1 h2 e2
   ·rw[if_neg e2]
    by_cases e3:(i-1) / 2=(j-1) / 2
    ·rw[if_pos e3]; rw[e3] at A; omega
    ·rw[if_neg e3]; exact A
 ·rw[L] at h2
  rw[G,G,if_neg (by omega),if_neg (by omega)]
  have A:=u.a ((j-1) / 2) Wt hp (by omega)
  by_cases e1:i=j
  ·rw[if_pos e1]; exact A
  ·rw[if_neg e1,if_neg (by omega)]
   have B:=u.a i h1 h2 e1
   rw[h3] at B; omega
theorem yj.NO {F:List Int} (u:yj F 0):HP F:=fun i h1 h2=>u.a i h1 h2 (by omega)
theorem yj.Wu {F:List Int} {j:Nat} (u:yj F j) (hge:F.getD ((j-1) / 2) 0≤F.getD j 0):HP F:=fun i h1 h2=>by
 by_cases e:i=j
 ·subst e; exact hge
 ·exact u.a i h1 h2 e
theorem HP.push {F:List Int} (u:HP F) (x:Int):yj (F++[x]) F.length:=by
 have G:∀k,k<F.length→(F++[x]).getD k 0=F.getD k 0:=fun k hk=>by
  rw[List.getD_eq_getElem?_getD,List.getElem?_append_left hk,List.getD_eq_getElem?_getD]
 refine ⟨fun i h1 h2 h3=>?_,fun _ i h1 h2 h3=>?_⟩
 ·rw[List.length_append,List.length_singleton] at h2
  rw[G _ (by omega),G _ (by omega)]; exact u i h1 (by omega)
 ·rw[List.length_append,List.length_singleton] at h2; omega
theorem vt.step {F:List Int} {i n c:Nat} (d:vt F i n) (hn:n≤F.length) (hc:c<n) (hi:(c-1) / 2=i) (hc0:0<c) (hlt:F.getD c 0<F.getD i 0) (hmin:∀k,0<k→k<n→(k-1) / 2=i→F.getD c 0≤F.getD k 0):vt (nj F i c) c n:=by
 have G:=sG (F:=F) (i:=i) (j:=c) (by omega) (by omega)
 refine ⟨fun k h1 h2 h3=>?_,fun _ k h1 h2 h3=>?_⟩
 ·rw[G,G]
  by_cases e1:(k-1) / 2=i
  ·rw[if_neg h3,if_pos e1]
   by_cases e2:k=c
   ·rw[if_pos e2]; omega
   ·rw[if_neg e2,if_neg (by omega)]; exact hmin k h1 h2 e1
  ·rw[if_neg h3,if_neg e1]
   have A:=d.a k h1 h2 e1
   by_cases e2:k=c
   ·subst e2; omega
   ·rw[if_neg e2]
    by_cases e3:k=i
    ·subst e3; rw[if_pos rfl]; exact d.b h1 c hc0 hc hi
    ·rw[if_neg e3]; exact A
 ·rw[G,G,hi,if_neg (by omega),if_pos rfl,if_neg (by omega),if_neg (by omega)]
  have A:=d.a k h1 h2 (by omega)
  rw[h3] at A; exact A
theorem vt.NO {F:List Int} {i n:Nat} (d:vt F i n) (h:n≤2*i+1):HN F n:=fun k h1 h2=>d.a k h1 h2 (by omega)
theorem vt.Wu {F:List Int} {i n c:Nat} (d:vt F i n) (hge:F.getD i 0≤F.getD c 0) (hmin:∀k,0<k→k<n→(k-1) / 2=i→F.getD c 0≤F.getD k 0):HN F n:=fun k h1 h2=>by
 by_cases e:(k-1) / 2=i
 ·have:=hmin k h1 h2 e
  rw[e]; omega
 ·exact d.a k h1 h2 e
theorem HP.pop {F:List Int} (u:HP F) (h0:0<F.length):vt (nj F 0 (F.length-1)) 0 (F.length-1):=by
 have G:=sG (F:=F) (i:=0) (j:=F.length-1) h0 (by omega)
 refine ⟨fun k h1 h2 h3=>?_,fun h=>by omega⟩
 rw[G,G,if_neg (by omega),if_neg h3,if_neg (by omega),if_neg (by omega)]
 exact u k h1 (by omega)
theorem HP.least {F:List Int} (u:HP F):∀n k,k<n→k<F.length→F.getD 0 0≤F.getD k 0:=by
 intro n
 induction n with
 | zero=>intro k h; omega
 | succ n ih=>
  intro k h1 h2
  by_cases e:k=0
  ·subst e; exact Int.le_refl _
  ·have:=ih ((k-1) / 2) (by omega) (by omega)
   have:=u k (by omega) h2
   omega
theorem HN.take {F:List Int} {n:Nat} (u:HN F n) (hn:n≤F.length):HP (F.take n):=by
 have G:∀k,k<n→(F.take n).getD k 0=F.getD k 0:=fun k hk=>by
  rw[List.getD_eq_getElem?_getD,List.getElem?_take,if_pos hk,List.getD_eq_getElem?_getD]
 intro i h1 h2
 rw[List.length_take] at h2
 rw[G _ (by omega),G _ (by omega)]
 exact u i h1 (by omega)
theorem fZ.same {h h':Heap} {bp:Nat} {F F':List Int} {ls fs:Value} (f:fZ h bp F ls) (hn:h'.nx=h.nx) (hl:h'.lo=h.lo) (hg:h.bl.get bp=some (af [fs,ls] 132 false)) (hp:od h' fs F') (hfr:∀c,(∀vs,h.bl.get c≠some (af vs 3 true))→h'.bl.get c=h.bl.get c):fZ h' bp F' ls:=
 ⟨by rw[hn]; exact f.lt,by rw[hl]; exact f.lo,fs,by rw[hfr bp (fun vs=>by rw[hg]; exact aO)]; exact hg,hp⟩
theorem NP (j:Nat):Int.tdiv ((j:Int)-1) 2=(((j-1) / 2:Nat):Int):=by
 cases j with
 | zero=>rfl
 | succ j=>rw[Int.tdiv_eq_ediv_of_nonneg (by omega)]; omega
theorem afE (bp:Nat) (F:List Int) (ls:Value) (j:Nat) (h:Heap) (κ:KQ) (f:fZ h bp F ls) (hj:j<F.length) (hlen:F.length≤100000)
  (hk:∀h' F',fZ h' bp F' ls→F'.Perm F→(yj F j→HP F')→yg bp h h'→κ (.tuple ⟨[]⟩) h'):CallW Tryz.prog 134 [frV bp,.int .i64 (j:Int)] h κ:=by
 refine aq mixed ?_
 rw[Vt]
 refine ⟨fun n l h1=>∃(k:Nat) (F1:List Int),slot l 19=.int .i64 (k:Int)∧n=k∧k<F.length∧F1.Perm F∧(yj F j→yj F1 k)∧fZ h1 bp F1 ls∧yg bp h h1,⟨_,j,F,rfl,rfl,hj,List.Perm.refl _,id,f,yg.refl _ _⟩,?_⟩
 rintro n l h1 ⟨k,F1,s1,rfl,fF,hp1,LY,f1,I5⟩
 have vo:=hp1.length_eq
 have e1:=NP n
 by_cases h0:n=0
 ·subst h0
  simp(disch:=first|omega|simp only[Wd]<;>omega|with_unfolding_all rfl)only[Wz,xJ,s1,Hj,e1]
  exact hk h1 F1 f1 hp1 (fun u=>(LY u).NO) I5
 ·obtain ⟨fs,hg,hpt⟩:=f1.cell
  simp(disch:=first|omega|simp only[Wd]<;>omega|with_unfolding_all rfl)only[Wz,xJ,s1,Hj,e1,Mx,ci_less,hg]
  refine tZ F1 n ((n-1) / 2) h1 _ _ hpt (by omega) (by omega) ?_
  by_cases hls:F1[n]'(by omega)<F1[(n-1) / 2]'(by omega)
  ·simp(disch:=first|omega|simp only[Wd]<;>omega|with_unfolding_all rfl)only[Wz,aM hls,ci_swap,hg]
   refine ua F1 ((n-1) / 2) n h1 _ _ hpt (by omega) (by omega) ?_
   intro h2 q1 q2 q3 q4 q5
   refine ⟨_,?_,(n-1) / 2,nj F1 ((n-1) / 2) n,rfl,rfl,by omega,(rz (by omega) (by omega)).trans hp1,fun u=>(LY u).step (by omega) (by omega) (by rw[gD (by omega),gD (by omega)]; exact hls),f1.same q1 q2 hg q3 q4,I5.trans (.swap hg q1 q2 q4 q5)⟩
   omega
  ·simp(disch:=first|omega|simp only[Wd]<;>omega|with_unfolding_all rfl)only[Wz,aK hls]
   exact hk h1 F1 f1 hp1 (fun u=>(LY u).Wu (by rw[gD (by omega),gD (by omega)]; omega)) I5
set_option maxHeartbeats 1000000 in
theorem Ww (bp:Nat) (F:List Int) (ls:Value) (i0 n:Nat) (h:Heap) (κ:KQ) (f:fZ h bp F ls) (hn:n≤F.length) (hlen:F.length≤100000) (hi0:i0≤100000)
  (hk:∀r h' F',fZ h' bp F' ls→F'.Perm F→(∀k,n≤k→F'[k]? = F[k]?)→(vt F i0 n→HN F' n)→yg bp h h'→κ (.bool r) h'):CallW Tryz.prog 184 [frV bp,.int .i64 (i0:Int),.int .i64 (n:Int)] h κ:=by
 refine aq mixed ?_
 rw[VZ]
 refine ⟨fun l h'=>∃(k:Nat) (F':List Int),slot l 36=.int .i64 (k:Int)∧fZ h' bp F' ls∧F'.Perm F∧(∀k,n≤k→F'[k]? = F[k]?)∧(vt F i0 n→HN F' n)∧yg bp h h',?_,?_⟩
 rotate_left
 ·rintro l h' ⟨k,F',s1,q1,q2,q3,q4,q5⟩
  simp(disch:=first|omega|simp only[Wd]<;>omega|with_unfolding_all rfl)only[Wz,s1]
  exact hk _ h' F' q1 q2 q3 q4 q5
 refine ⟨fun m l h1=>∃(i:Nat) (F1:List Int),slot l 36=.int .i64 (i:Int)∧m=200002-i∧i≤200000∧(i<n∨i=i0)∧F1.Perm F∧(∀k,n≤k→F1[k]? = F[k]?)∧(vt F i0 n→vt F1 i n)∧fZ h1 bp F1 ls∧yg bp h h1,⟨_,i0,F,rfl,rfl,by omega,.inr rfl,List.Perm.refl _,fun _ _=>rfl,id,f,yg.refl _ _⟩,?_⟩
 rintro m l h1 ⟨i,F1,s1,rfl,hi,hin,hp1,ht1,XS,f1,I5⟩
 have vo:=hp1.length_eq
 obtain ⟨fs,hg,hpt⟩:=f1.cell
 by_cases hst:2*i+1<n
 case neg=>
  simp(disch:=first|omega|simp only[Wd]<;>omega|with_unfolding_all rfl)only[Wz,x9,s1,bL (show (n:Int)≤2*(i:Int)+1 by omega)]
  exact ⟨i,F1,rfl,f1,hp1,ht1,fun d=>(XS d).NO (by omega),I5⟩
 have c1:(2*(i:Int)+1)=((2*i+1:Nat):Int):=by omega
 simp(disch:=first|omega|simp only[Wd]<;>omega|with_unfolding_all rfl)only[Wz,x9,s1,c1,bZ (show ((2*i+1:Nat):Int)<(n:Int) by omega),bL (show (0:Int)≤((2*i+1:Nat):Int) by omega),Ee]
 refine ⟨fun l13 h'=>∃j:Nat,slot l13 13=.int .i64 (j:Int)∧i<j∧j<n∧(j-1) / 2=i∧(∀k,0<k→k<n→(k-1) / 2=i→F1.getD j 0≤F1.getD k 0)∧HQ h1 h',?_,?_⟩
 ·have c2:((2*i+1:Nat):Int)+1=((2*i+2:Nat):Int):=by omega
  by_cases h2:2*i+2<n
  ·simp(disch:=first|omega|simp only[Wd]<;>omega|with_unfolding_all rfl)only[Wz,x7,c2,bZ (show ((2*i+2:Nat):Int)<(n:Int) by omega),ci_less,hg]
   refine tZ F1 (2*i+2) (2*i+1) h1 _ _ hpt (by omega) (by omega) ?_
   by_cases hls:F1[2*i+2]'(by omega)<F1[2*i+1]'(by omega)
   ·simp(disch:=first|omega|simp only[Wd]<;>omega|with_unfolding_all rfl)only[Wz,aM hls]
    exact ⟨2*i+2,rfl,by omega,h2,by omega,fun k k0 k1 k2=>by
     have ek:k=2*i+1∨k=2*i+2:=by omega
     rcases ek with rfl | rfl
     ·rw[gD (by omega),gD (by omega)]; omega
     ·exact Int.le_refl _,rfl⟩
   ·simp(disch:=first|omega|simp only[Wd]<;>omega|with_unfolding_all rfl)only[Wz,aK hls]
    exact ⟨2*i+1,rfl,by omega,hst,by omega,fun k k0 k1 k2=>by
     have ek:k=2*i+1∨k=2*i+2:=by omega
     rcases ek with rfl | rfl
     ·exact Int.le_refl _
     ·rw[gD (by omega),gD (by omega)]; omega,rfl⟩
  ·simp(disch:=first|omega|simp only[Wd]<;>omega|with_unfolding_all rfl)only[Wz,x7,c2,bL (show (n:Int)≤((2*i+2:Nat):Int) by omega)]
   exact ⟨2*i+1,rfl,by omega,hst,by omega,fun k k0 k1 k2=>by
    have ek:k=2*i+1:=by omega
    rw[ek]; exact Int.le_refl _,rfl⟩
 ·rintro l13 h' ⟨j,s2,hij,hjn,hjp,hmin,hq⟩
  cases (show h1=h' from hq)
  simp(disch:=first|omega|simp only[Wd]<;>omega|with_unfolding_all rfl)only[Wz,s1,s2,ci_less,hg]
  refine tZ F1 j i h1 _ _ hpt (by omega) (by omega) ?_
  by_cases hls:F1[j]'(by omega)<F1[i]'(by omega)
  ·simp(disch:=first|omega|simp only[Wd]<;>omega|with_unfolding_all rfl)only[Wz,aM hls,ci_swap,hg,s1,s2]
   refine ua F1 i j h1 _ _ hpt (by omega) (by omega) ?_
   intro h2 q1 q2 q3 q4 q5
   refine ⟨_,?_,j,nj F1 i j,rfl,rfl,by omega,.inl hjn,(rz (by omega) (by omega)).trans hp1,?_,fun d=>(XS d).step (by omega) hjn hjp (by omega) (by rw[gD (by omega),gD (by omega)]; exact hls) hmin,f1.same q1 q2 hg q3 q4,I5.trans (.swap hg q1 q2 q4 q5)⟩
   ·omega
   ·intro k fF
    rw[←ht1 k fF,sF (by omega) (by omega),List.getElem?_set,if_neg (by omega),List.getElem?_set,if_neg (by omega)]
  ·simp(disch:=first|omega|simp only[Wd]<;>omega|with_unfolding_all rfl)only[Wz,aK hls,s1]
   exact ⟨i,F1,rfl,f1,hp1,ht1,fun d=>(XS d).Wu (by rw[gD (by omega),gD (by omega)]; omega) hmin,I5⟩
theorem El {h:Heap} {v:Value} {F:List Int} {x:Int} {b7 c7:Nat} (hp:od h v F) (hb7:b7<h.nx) (hg7:h.bl.get b7=some (af [.int .i64 x] 3 false)) (hlen:F.length≤100000) (hal:h.lo≤h.nx) (κ:KQ)
  (hk:∀v' h',od h' v' (F++[x])→h.nx≤h'.nx→h'.lo=h.lo→(∀c,c<h.nx→(∀vs,h.bl.get c≠some (af vs 3 true))→h'.bl.get c=h.bl.get c)→(∀c,c<h.nx→(∀n cap,v≠.slice (some ⟨c,0,none⟩) n cap)→h'.bl.get c=h.bl.get c)→(∀c n cap,c<h.nx→v'=.slice (some ⟨c,0,none⟩) n cap→∃n cap,v=.slice (some ⟨c,0,none⟩) n cap)→κ v' h') :
  bB False 3 1 [.int .i64 0] false v (.slice (some ⟨b7,0,none⟩) 1 c7) h κ:=by
 have hx:Sl cw h (.slice (some ⟨b7,0,none⟩) 1 c7) [x]:=Sl.new (L:=[x]) (e:=3) (op:=false) hb7 (by simpa[cw] using hg7) _
 have full:cU cw ⟨0,.nil,h.lo⟩ 3 h v F→(∀v' h',cU cw ⟨0,.nil,h.lo⟩ 3 h' v' (F++[x])→od h' v' (F++[x]))→bB False 3 1 [.int .i64 0] false v (.slice (some ⟨b7,0,none⟩) 1 c7) h κ:=by
  intro ho aaY
  refine Gc (enc:=cw) (a:=⟨0,.nil,h.lo⟩) (L:=F) (M:=[x]) bY iL (by decide) (by decide) ho hx ⟨Nat.zero_le _,rfl,fun b hb=>absurd hb (Nat.not_lt_zero _)⟩ (by simp; omega) hal κ ?_
  intro v' h' ho' _ _ hn hl hs hs2 hv
  refine hk v' h' (aaY v' h' ho') hn hl (fun c hc hne=>hs c hc (hne _)) hs2 fun c n cap hc e=>?_
  rcases hv with rfl | ⟨b,n',cap',hb,rfl⟩
  ·exact ⟨n,cap,e⟩
  ·injection e with e; injection e with e; injection e with e; omega
 have conv:∀v' h',cU cw ⟨0,.nil,h.lo⟩ 3 h' v' (F++[x])→od h' v' (F++[x]):=by
  intro v' h' ho
  rcases ho with ⟨e,_⟩ | ⟨b,e,_,h2,h3,h4⟩
  ·simp at e
  ·exact .inr ⟨b,[],e,h2,h3,by rw[List.append_nil]; exact h4,by simp⟩
 rcases hp with ⟨rfl,rfl⟩ | ⟨b,G,rfl,h1,h2,h3,h4⟩
 ·exact full (.inl ⟨rfl,.inl rfl⟩) conv
 ·cases G with
  | nil=>
   rw[List.append_nil] at h3
   exact full (.inr ⟨b,rfl,Nat.zero_le _,h1,h2,h3⟩) conv
  | cons g G=>
   have gR:∀κ':List Value→Prop,fQ False h 1 1 (.slice (some ⟨b7,0,none⟩) 1 c7) κ'=κ' [.int .i64 x]:=fun κ'=>hx.first (β:=Prop) (fl:=False) bY κ'
   have hl:=aT (enc:=cw) bY (F++g::G)
   have hl':(F++g::G).length=F.length+(G.length+1):=by simp
   have rL:=yh (G:=G) (F:=F++[g]) (y:=x) (i:=F.length) (by simp)
   have e0:F++[g]++G=F++g::G:=by simp
   have e00:(F++[g]).set F.length x=F++[x]:=by simp
   rw[e0,e00] at rL
   unfold bB kS
   simp only
   rw[gR]
   simp only[bR]
   have e2:Nat.beq aN fP=false:=by decide
   have e3:Nat.beq aN aN=true:=Nat.beq_refl _
   have e5:Nat.ble (Nat.add F.length (0+1)) 1000000000=true:=Nat.ble_eq_true_of_le (by show F.length+(0+1)≤_; omega)
   have e4:Nat.ble (Nat.add 0 (Nat.mul (Nat.add F.length (0+1)) 1)) ((F++g::G).flatMap cw).length=true:=Nat.ble_eq_true_of_le (by rw[hl]; show 0+(F.length+(0+1))*1≤_; omega)
   simp only[e2,e3,e5,h3,af,Nat.beq_refl,e4]
   rw[qh _ _ _ _ _ (by show 0+F.length*1+1≤_; omega) rfl,bW _ _ _ _ h2]
   have e6:(Nat.add 0 (Nat.mul F.length 1))=F.length:=by show 0+F.length*1=_; omega
   rw[e6,vI _ _ _ (by show F.length+1≤_; omega),rL]
   have e7:((F++g::G).flatMap cw).length=((F++[x]++G).flatMap cw).length:=by rw[hl,aT bY]; simp
   rw[e7]
   refine hk _ _ (.inr ⟨b,G,by simp,h1,h2,T.aa _ _ _,by simp; omega⟩) (Nat.le_refl _) rfl ?_ ?_ ?_
   ·intro c hc hne
    refine T.aj _ _ ?_
    rintro rfl
    exact hne _ h3
   ·intro c hc hne
    refine T.aj _ _ ?_
    rintro rfl
    exact hne _ _ rfl
   ·intro c n cap hc e
    injection e with e; injection e with e; injection e with e
    subst e
    exact ⟨_,_,rfl⟩
theorem NQ (bp:Nat) (F:List Int) (ls:Value) (x:Int) (h:Heap) (κ:KQ) (f:fZ h bp F ls) (hlen:F.length≤10000) (hlo:h.lo≤h.nx) (hls:∃a n c,ls=.slice a n c)
  (hk:∀h' F',fZ h' bp F' ls→F'.Perm (F++[x])→(HP F→HP F')→yg bp h h'→κ (.tuple ⟨[]⟩) h'):CallW Tryz.prog 95 [frV bp,.iface 3 (.int .i64 x)] h κ:=by
 obtain ⟨la,ln,lc,rfl⟩:=hls
 refine aq mixed ?_
 rw[aav]
 simp(disch:=first|omega|simp only[Wd]<;>omega|with_unfolding_all rfl)only[Wz,ci_push]
 refine aq mixed ?_
 rw[Wk]
 obtain ⟨fs,hg,hpt⟩:=f.cell
 have hfs:∃a n c,fs=.slice a n c:=by
  rcases hpt with ⟨_,rfl⟩ | ⟨b,G,rfl,_⟩<;>exact ⟨_,_,_,rfl⟩
 have hbp:=f.lt
 have ak1:=f.lo
 simp(disch:=first|omega|simp only[Wd]<;>omega|with_unfolding_all rfl)only[Wz,ep,Eg,aU,hg]
 have hle1:=(Le.refl h).new (af [.int .i64 x] 3 false)
 obtain ⟨hA,eA⟩:∃hA:Heap,hA=⟨h.nx+1,h.bl.bf h.nx (af [.int .i64 x] 3 false),h.lo⟩:=⟨_,rfl⟩
 rw[←eA] at hle1 ⊢
 have nA:hA.nx=h.nx+1:=by rw[eA]
 have lA:hA.lo=h.lo:=by rw[eA]
 have gA:hA.bl.get h.nx=some (af [.int .i64 x] 3 false):=by rw[eA]; exact T.aa _ _ _
 have gbp:=(hle1.get bp hbp).trans hg
 have afG:od hA fs F:=by
  rcases hpt with e | ⟨b,G,e,h1,h2,h3,h4⟩
  ·exact .inl e
  ·exact .inr ⟨b,G,e,by omega,by omega,(hle1.get b h1).trans h3,h4⟩
 refine El afG (by omega) gA (by omega) (by omega) _ ?_
 intro v' h2 hp2 n2 l2 hs2 hs3 hv3
 have g2:=(hs2 bp (by omega) (fun vs=>by rw[gbp]; exact aO)).trans gbp
 have yT:∃a n c,v'=.slice a n c:=by
  rcases hp2 with ⟨_,rfl⟩ | ⟨b,G,rfl,_⟩<;>exact ⟨_,_,_,rfl⟩
 obtain ⟨va,vn,vc,rfl⟩:=yT
 simp(disch:=first|omega|simp only[Wd]<;>omega|with_unfolding_all rfl)only[Wz,g2]
 obtain ⟨hB,eB⟩:∃hB:Heap,hB=⟨h2.nx,h2.bl.bf bp (af [.slice va vn vc,.slice la ln lc] 132 false),h2.lo⟩:=⟨_,rfl⟩
 rw[←eB]
 have nB:hB.nx=h2.nx:=by rw[eB]
 have lB:hB.lo=h2.lo:=by rw[eB]
 have gB:hB.bl.get bp=some (af [.slice va vn vc,.slice la ln lc] 132 false):=by rw[eB]; exact T.aa _ _ _
 have hpB:od hB (.slice va vn vc) (F++[x]):=by
  rcases hp2 with e | ⟨b,G,e,h1,h2',h3,h4⟩
  ·exact .inl e
  ·refine .inr ⟨b,G,e,by omega,by omega,?_,h4⟩
   rw[eB]
   exact (T.aj _ _ (by rintro rfl; rw[g2] at h3; exact aO h3)).trans h3
 have fB:fZ hB bp (F++[x]) (.slice la ln lc):=⟨by omega,by omega,_,gB,hpB⟩
 have WA:yg bp h hB:=by
  refine ⟨by omega,by omega,fun c hc hn hi=>?_,fun _ c hc hn hi=>?_,fun _ c hc hx=>?_⟩
  ·have e1:hA.bl.get c=h.bl.get c:=hle1.get c hc
   rw[eB]
   exact (T.aj _ _ (fun e=>hn e.symm)).trans ((hs2 c (by omega) (fun vs=>by rw[e1]; exact hi vs)).trans e1)
  ·have e1:hA.bl.get c=h.bl.get c:=hle1.get c hc
   rw[eB]
   exact (T.aj _ _ (fun e=>hn e.symm)).trans ((hs3 c (by omega) (fun n cap e=>hi ⟨n,cap,_,e▸hg⟩)).trans e1)
  ·obtain ⟨n,cap,ls',hx⟩:=hx
   rw[gB] at hx
   obtain ⟨n',cap',e⟩:=hv3 c n cap (by omega) (mo hx)
   exact ⟨n',cap',_,e▸hg⟩
 simp(disch:=first|omega|simp only[Wd]<;>omega|with_unfolding_all rfl)only[Wz,ci_len,gB]
 refine pH (F++[x]) hB _ _ hpB ?_
 have el:(((F++[x]).length:Nat):Int)-1=(F.length:Int):=by simp
 have el2:(F++[x]).length=F.length+1:=by simp
 simp(disch:=first|omega|simp only[Wd]<;>omega|with_unfolding_all rfl)only[Wz,el]
 refine afE bp (F++[x]) _ F.length hB _ fB (by omega) (by omega) ?_
 intro h3 F' f3 Fc hu3 XU
 exact hk h3 F' f3 Fc (fun u=>hu3 (HP.push u x)) (WA.trans XU)
theorem aaZ (bp:Nat) (F:List Int) (ls:Value) (h:Heap) (κ:KQ) (f:fZ h bp F ls) (h0:F≠[]) (hlen:F.length≤10000) (hlo:h.lo≤h.nx) (hls:∃a n c,ls=.slice a n c)
  (hk:∀h' F' x,fZ h' bp F' ls→(x::F').Perm F→(HP F→HP F'∧∀y∈F',x≤y)→yg bp h h'→κ (.iface 3 (.int .i64 x)) h'):CallW Tryz.prog 135 [frV bp] h κ:=by
 obtain ⟨la,ln,lc,rfl⟩:=hls
 have hpos:0<F.length:=List.length_pos_iff.2 h0
 refine aq mixed ?_
 rw[Vu]
 obtain ⟨fs,hg,hpt⟩:=f.cell
 simp(disch:=first|omega|simp only[Wd]<;>omega|with_unfolding_all rfl)only[Wz,ci_len,hg]
 refine pH F h _ _ hpt ?_
 have el:((F.length:Nat):Int)-1=((F.length-1:Nat):Int):=by omega
 simp(disch:=first|omega|simp only[Wd]<;>omega|with_unfolding_all rfl)only[Wz,el,ci_swap,hg]
 refine ua F 0 (F.length-1) h _ _ hpt hpos (by omega) ?_
 intro h1 q1 q2 q3 q4 q5
 have f1:=f.same q1 q2 hg q3 q4
 have yU:=rz (F:=F) (i:=0) (j:=F.length-1) hpos (by omega)
 have vo:=yU.length_eq
 refine Ww bp (nj F 0 (F.length-1)) _ 0 (F.length-1) h1 _ f1 (by omega) (by omega) (by omega) ?_
 intro r h2 F2 f2 hp2 ht2 hd2 zp
 have LC:=hp2.length_eq
 obtain ⟨fs2,hg2,Ra⟩:=f2.cell
 have hbp:=f2.lt
 have hlb:=f2.lo
 simp(disch:=first|omega|simp only[Wd]<;>omega|with_unfolding_all rfl)only[Wz,ci_pop]
 refine aq mixed ?_
 rw[Wj]
 simp(disch:=first|omega|simp only[Wd]<;>omega|with_unfolding_all rfl)only[Wz,aU,hg2]
 refine pH F2 h2 _ _ Ra ?_
 have el2:((F2.length:Nat):Int)-1=((F2.length-1:Nat):Int):=by omega
 rcases Ra with ⟨e,_⟩ | ⟨b,G,rfl,k1,k2,k3,k4⟩
 ·rw[e] at LC; simp at LC; omega
 obtain ⟨x,hx⟩:∃x,F2[F2.length-1]? = some x:=⟨_,List.getElem?_eq_getElem (by omega)⟩
 have hr:=pI (G:=G) hx
 have hfl:=aT (enc:=cw) bY (F2++G)
 have hl3:(F2++G).length=F2.length+G.length:=List.length_append
 simp(disch:=first|omega|simp only[Wd]<;>omega|with_unfolding_all rfl)only[Wz,el2,hg2,bA,k3,hr,Nat.mul_one,r8 (n:=(F2++G).length) (i:=F2.length-1) (Nat.succ_pos 0) k3 (by rw[hfl]) (by omega) (by omega)]
 have hne:b≠bp:=by rintro rfl; rw[hg2] at k3; exact aO k3
 have eF:F2=F2.take (F2.length-1)++[x]:=by
  conv=>lhs; rw[←List.take_append_drop (F2.length-1) F2]
  congr 1
  have hlt:F2.length-1<F2.length:=by omega
  rw[List.drop_eq_getElem_cons hlt,List.drop_of_length_le (by omega)]
  rw[List.getElem?_eq_getElem hlt] at hx
  cases hx; rfl
 refine hk ⟨h2.nx,h2.bl.bf bp (af [.slice (some ⟨b,0,none⟩) (F2.length-1) aN,.slice la ln lc] 132 false),h2.lo⟩ (F2.take (F2.length-1)) x ⟨hbp,hlb,_,T.aa _ _ _,.inr ⟨b,x::G,by simp,k1,k2,?_,by simp; omega⟩⟩ ?_ ?_ ?_
 ·rw[show F2.take (F2.length-1)++x::G=F2++G by conv=>rhs; rw[eF]; simp]
  exact (T.aj _ _ (fun e=>hne e.symm)).trans k3
 ·refine List.Perm.trans ?_ (hp2.trans yU)
  conv=>rhs; rw[eF]
  exact (List.perm_append_singleton x _).symm
 ·intro u
  refine ⟨HN.take (by rw[LC,vo]; exact hd2 (HP.pop u hpos)) (by omega),fun y hy=>?_⟩
  have hyF:y∈F:=by
   refine (hp2.trans yU).mem_iff.1 ?_
   rw[eF]; exact List.mem_append_left _ hy
  obtain ⟨k,fF,rfl⟩:=List.getElem_of_mem hyF
  have P3:x=F.getD 0 0:=by
   have e1:=ht2 (F.length-1) (Nat.le_refl _)
   rw[LC,vo,e1,List.getElem?_eq_getElem (by omega)] at hx
   have e2:=sG (F:=F) (i:=0) (j:=F.length-1) hpos (by omega) (F.length-1)
   rw[if_pos rfl,gD (by omega)] at e2
   rw[←e2]
   exact (Option.some.inj hx).symm
  rw[P3,←gD fF]
  exact HP.least u _ k (Nat.lt_succ_self _) fF
 ·refine yg.trans (yg.trans (.swap hg q1 q2 q4 q5) zp) ⟨Nat.le_refl _,rfl,fun c _ hn _=>T.aj _ _ (fun e=>hn e.symm),fun _ c _ hn _=>T.aj _ _ (fun e=>hn e.symm),fun _ c _ hx=>?_⟩
  obtain ⟨n,cap,ls',hx⟩:=hx
  have e:=mo ((T.aa _ _ _).symm.trans hx)
  injection e with e; injection e with e; injection e with e
  subst e
  exact ⟨_,_,_,hg2⟩
structure j_ (F:List Int) (B:List Bool):Prop where
 nodup:F.Nodup
 mem:∀n:Nat,(n:Int)∈F↔B[n]? = some false
 pos:∀x∈F,0≤x
 hp:HP F
structure ec (h:Heap) (bp bl:Nat) (F:List Int) (B:List Bool):Prop where
 fr:fZ h bp F (.slice (some ⟨bl,0,none⟩) B.length B.length)
 lt:bl<h.nx
 lo:h.lo≤bl
 cell:h.bl.get bl=some (af (B.map Value.bool) 4 false)
 ok:j_ F B
 small:B.length≤128
theorem j_.take {F F':List Int} {B:List Bool} {x:Int} (o:j_ F B) (hp:(x::F').Perm F) (hu:HP F→HP F'∧∀y∈F',x≤y):∃n:Nat,x=(n:Int)∧n<B.length∧B[n]? = some false∧(∀k,k<n→B[k]? = some true)∧j_ F' (B.set n true):=by
 have hx:x∈F:=hp.mem_iff.1 (.head _)
 obtain ⟨n,rfl⟩:∃n:Nat,x=(n:Int):=⟨x.toNat,by have:=o.pos x hx; omega⟩
 have hb:=(o.mem n).1 hx
 have hn:n<B.length:=(List.getElem?_eq_some_iff.1 hb).1
 have hnd:((n:Int)::F').Nodup:=(hp.nodup_iff).2 o.nodup
 rw[List.nodup_cons] at hnd
 obtain ⟨LY,Lz⟩:=hu o.hp
 have Gd:∀k,k<n→B[k]? = some true:=by
  intro k hk
  have PB:k<B.length:=by omega
  rw[List.getElem?_eq_getElem PB]
  cases hbk:B[k] with
  | true=>rfl
  | false=>
   have hkF:(k:Int)∈F:=(o.mem k).2 (by rw[List.getElem?_eq_getElem PB,hbk])
   rcases List.mem_cons.1 (hp.mem_iff.2 hkF) with h | h
   ·omega
   ·have:=Lz _ h; omega
 refine ⟨n,rfl,hn,hb,Gd,hnd.2,fun k=>?_,fun y hy=>o.pos y (hp.mem_iff.1 (.tail _ hy)),LY⟩
 rw[List.getElem?_set]
 by_cases hk:n=k
 ·subst hk
  rw[if_pos rfl,if_pos hn]
  simp[hnd.1]
 ·rw[if_neg hk,←o.mem k,←hp.mem_iff,List.mem_cons]
  constructor
  ·exact fun h=>.inr h
  ·rintro (h | h)
   ·omega
   ·exact h
theorem j_.afJ {F F':List Int} {B:List Bool} {n:Nat} (o:j_ F B) (hb:B[n]? = some true) (hp:F'.Perm (F++[(n:Int)])) (hu:HP F→HP F'):j_ F' (B.set n false):=by
 have hn:n<B.length:=(List.getElem?_eq_some_iff.1 hb).1
 have hno:(n:Int)∉F:=fun h=>by have:=(o.mem n).1 h; rw[hb] at this; cases this
 refine ⟨(hp.nodup_iff).2 ?_,fun k=>?_,fun y hy=>?_,hu o.hp⟩
 ·rw[List.nodup_append]
  refine ⟨o.nodup,by simp,fun a ha b hb'=>?_⟩
  rw[List.mem_singleton] at hb'
  subst hb'
  rintro rfl
  exact hno ha
 ·rw[hp.mem_iff,List.mem_append,List.mem_singleton,List.getElem?_set]
  by_cases hk:n=k
  ·subst hk; rw[if_pos rfl,if_pos hn]; simp
  ·rw[if_neg hk,←o.mem k]
   constructor
   ·rintro (h | h)
    ·exact h
    ·omega
   ·exact fun h=>.inl h
 ·rcases List.mem_append.1 (hp.mem_iff.1 hy) with h | h
  ·exact o.pos y h
  ·rw[List.mem_singleton] at h; omega
theorem Ti (h:Heap) (b o:Nat):lP Tryz.prog h 100 82 (.pointer (some ⟨b,o,none⟩)) (.pointer none)=some false:=by kernel_rfl
theorem vZ {β:Type} {fl:β} (cn:Bool) (b o:Nat) (h:Heap) (κ:Value→Heap→β):av fl Tryz.prog .eql 82 cn false (.pointer (some ⟨b,o,none⟩)) (.pointer none) h κ=κ (.bool false) h:=by simp only[av,Ti,cq]
theorem BQ {β:Type} {fl:β} (cn:Bool) (b o:Nat) (h:Heap) (κ:Value→Heap→β):av fl Tryz.prog .neq 82 cn false (.pointer (some ⟨b,o,none⟩)) (.pointer none) h κ=κ (.bool true) h:=by simp only[av,Ti,cq,Bool.not_false]
theorem WB (bp bl:Nat) (F:List Int) (B:List Bool) (h:Heap) (κ:KQ) (p:ec h bp bl F B) (hF:F.length≤1000) (hk:κ (.int .i64 ((B.length:Int)-F.length)) h):CallW Tryz.prog 72 [.pointer (some ⟨bp,0,none⟩)] h κ:=by
 refine aq mixed ?_
 rw[Z_]
 obtain ⟨fs,hg,hpt⟩:=p.fr.cell
 have hs:=p.small
 have hfs:∃a n c,fs=.slice a n c:=by
  rcases hpt with ⟨_,rfl⟩ | ⟨b,G,rfl,_⟩<;>exact ⟨_,_,_,rfl⟩
 obtain ⟨va,vn,vc,rfl⟩:=hfs
 simp(disch:=first|omega|simp only[Wd]<;>omega|with_unfolding_all rfl)only[Wz,vZ,II,aU,hg]
 refine pH F h _ _ hpt ?_
 simp(disch:=first|omega|simp only[Wd]<;>omega|with_unfolding_all rfl)only[Wz,aU,hg]
 exact hk
theorem Tj (bp bl:Nat) (F:List Int) (B:List Bool) (i:Int) (h:Heap) (κ:KQ) (p:ec h bp bl F B) (hk:κ (.bool (decide (0≤i) && (B[i.toNat]?).getD false)) h):CallW Tryz.prog 112 [.pointer (some ⟨bp,0,none⟩),.int .i64 i] h κ:=by
 refine aq mixed ?_
 rw[U9]
 obtain ⟨fs,hg,hpt⟩:=p.fr.cell
 by_cases h0:0≤i
 ·obtain ⟨n,rfl⟩:∃n:Nat,i=(n:Int):=⟨i.toNat,by omega⟩
  rw[aM h0,Bool.true_and,Int.toNat_natCast] at hk
  by_cases h1:n<B.length
  ·have hr:(B.map Value.bool)[n]? = some (.bool B[n]):=by rw[List.getElem?_map,List.getElem?_eq_getElem h1]; rfl
   rw[List.getElem?_eq_getElem h1] at hk
   simp(disch:=first|omega|simp only[Wd]<;>omega|with_unfolding_all rfl)only[Wz,BQ,aU,hg,bL h0,bZ (show (n:Int)<(B.length:Int) by omega),bA,p.cell,hr,Nat.mul_one]
   exact hk
  ·rw[List.getElem?_eq_none (by omega)] at hk
   simp(disch:=first|omega|simp only[Wd]<;>omega|with_unfolding_all rfl)only[Wz,BQ,aU,hg,bL h0,bL (show (B.length:Int)≤(n:Int) by omega)]
   exact hk
 ·rw[aK h0,Bool.false_and] at hk
  simp(disch:=first|omega|simp only[Wd]<;>omega|with_unfolding_all rfl)only[Wz,BQ,aU,hg,bZ (show i<0 by omega)]
  exact hk
structure I6 (bp bl:Nat) (h h':Heap):Prop where
 nx:h.nx≤h'.nx
 lo:h'.lo=h.lo
 get:∀c,c<h.nx→c≠bp→c≠bl→(∀vs,h.bl.get c≠some (af vs 3 true))→h'.bl.get c=h.bl.get c
 g2:bp<h.nx→∀c,c<h.nx→c≠bp→c≠bl→¬FB h bp c→h'.bl.get c=h.bl.get c
 mv:bp<h.nx→∀c,c<h.nx→FB h' bp c→FB h bp c
theorem I6.trans {bp bl:Nat} {h h' h'':Heap} (a:I6 bp bl h h') (b:I6 bp bl h' h''):I6 bp bl h h'':=
 ⟨Nat.le_trans a.nx b.nx,b.lo.trans a.lo,fun c hc hn hl hi=>(b.get c (Nat.lt_of_lt_of_le hc a.nx) hn hl (fun vs=>by rw[a.get c hc hn hl hi]; exact hi vs)).trans (a.get c hc hn hl hi),
  fun hb c hc hn hl hi=>(b.g2 (Nat.lt_of_lt_of_le hb a.nx) c (Nat.lt_of_lt_of_le hc a.nx) hn hl fun x=>hi (a.mv hb c hc x)).trans (a.g2 hb c hc hn hl hi),
  fun hb c hc x=>a.mv hb c hc (b.mv (Nat.lt_of_lt_of_le hb a.nx) c (Nat.lt_of_lt_of_le hc a.nx) x)⟩
theorem I6.aa0 {bp bl:Nat} {h h':Heap} (f:yg bp h h'):I6 bp bl h h':=⟨f.nx,f.lo,fun c hc hn _ hi=>f.get c hc hn hi,fun hb c hc hn _ hi=>f.g2 hb c hc hn hi,f.mv⟩
theorem yl (B:List Bool) (n:Nat) (b:Bool):over (B.map Value.bool) n [.bool b]=(if n<B.length then (B.set n b).map Value.bool else over (B.map Value.bool) n [.bool b]):=by
 split
 ·rename_i h
  rw[List.map_set]
  unfold over
  rw[List.set_eq_take_append_cons_drop,if_pos (by simpa using h)]
  simp
 ·rfl
theorem qp {B:List Bool} {n:Nat} {b:Bool} (h:n<B.length):over (B.map Value.bool) n [.bool b]=(B.set n b).map Value.bool:=by
 rw[yl,if_pos h]
theorem WC (bp bl:Nat) (F:List Int) (B:List Bool) (h:Heap) (κ:KQ) (p:ec h bp bl F B) (hF:F.length≤1000) (hlo:h.lo≤h.nx) (hne:bp≠bl)
  (dK:F=[]→κ (.tuple ⟨[.int .i64 0,.int .i64 8]⟩) h)
  (fF:∀h' F' (n:Nat),ec h' bp bl F' (B.set n true)→((n:Int)::F').Perm F→B[n]? = some false→(∀k,k<n→B[k]? = some true)→I6 bp bl h h'→κ (.tuple ⟨[.int .i64 (n:Int),.int .i64 0]⟩) h'):CallW Tryz.prog 97 [.pointer (some ⟨bp,0,none⟩)] h κ:=by
 refine aq mixed ?_
 rw[aax]
 obtain ⟨fs,hg,hpt⟩:=p.fr.cell
 simp(disch:=first|omega|simp only[Wd]<;>omega|with_unfolding_all rfl)only[Wz,vZ,IW,aU,hg]
 refine pH F h _ _ hpt ?_
 by_cases h0:F=[]
 ·simp(disch:=first|omega|simp only[Wd]<;>omega|with_unfolding_all rfl)only[Wz,aM (show (F.length:Int)=0 by simp[h0])]
  exact dK h0
 have hpos:0<F.length:=List.length_pos_iff.2 h0
 simp(disch:=first|omega|simp only[Wd]<;>omega|with_unfolding_all rfl)only[Wz,aK (show ¬(F.length:Int)=0 by omega),IV,aU]
 refine aaZ bp F _ h _ p.fr h0 (by omega) hlo ⟨_,_,_,rfl⟩ ?_
 intro h2 F' x f2 hp2 Lz zp
 obtain ⟨n,rfl,hn,hb,rA,ho⟩:=p.ok.take hp2 Lz
 obtain ⟨fs2,hg2,Ra⟩:=f2.cell
 have XV:=p.lt
 have afK:=p.lo
 have n2:=zp.nx
 have l2:=zp.lo
 have XW:(B.map Value.bool).length=B.length:=by simp
 have gl:=(zp.get bl XV (fun e=>hne e.symm) (fun vs=>by rw[p.cell]; exact aO)).trans p.cell
 simp(disch:=first|omega|simp only[Wd]<;>omega|with_unfolding_all rfl)only[Wz,ep,aU,hg2,bA,gl,Nat.mul_one,qp hn]
 refine fF ⟨h2.nx,h2.bl.bf bl (af ((B.set n true).map Value.bool) 4 false),h2.lo⟩ F' n ⟨⟨f2.lt,f2.lo,fs2,?_,?_⟩,by show bl<h2.nx; omega,by show h2.lo≤bl; omega,T.aa _ _ _,ho,by rw[List.length_set]; exact p.small⟩ hp2 hb rA ?_
 ·rw[List.length_set]; exact (T.aj _ _ (fun e=>hne e.symm)).trans hg2
 ·rcases Ra with e | ⟨b,G,e,k1,k2,k3,k4⟩
  ·exact .inl e
  ·exact .inr ⟨b,G,e,k1,k2,(T.aj _ _ (by rintro rfl; rw[gl] at k3; exact aO k3)).trans k3,k4⟩
 ·exact (I6.aa0 zp).trans ⟨Nat.le_refl _,rfl,fun c _ _ hn _=>T.aj _ _ (fun e=>hn e.symm),fun _ c _ _ hn _=>T.aj _ _ (fun e=>hn e.symm),fun _ c _ hx=>(FB.congr (T.aj _ _ (fun e=>hne e.symm))).1 hx⟩
theorem NR (bp bl:Nat) (F:List Int) (B:List Bool) (n:Nat) (h:Heap) (κ:KQ) (p:ec h bp bl F B) (hF:F.length≤1000) (hlo:h.lo≤h.nx) (hne:bp≠bl) (hb:B[n]? = some true)
  (hk:∀h' F',ec h' bp bl F' (B.set n false)→F'.Perm (F++[(n:Int)])→I6 bp bl h h'→κ (.int .i64 0) h'):CallW Tryz.prog 116 [.pointer (some ⟨bp,0,none⟩),.int .i64 (n:Int)] h κ:=by
 refine aq mixed ?_
 rw[Vb]
 have hn:n<B.length:=(List.getElem?_eq_some_iff.1 hb).1
 have XW:(B.map Value.bool).length=B.length:=by simp
 obtain ⟨fs,hg,hpt⟩:=p.fr.cell
 simp(disch:=first|omega|simp only[Wd]<;>omega|with_unfolding_all rfl)only[Wz,vZ]
 refine Tj bp bl F B (n:Int) h _ p ?_
 have eh:(decide ((0:Int)≤(n:Int)) && (B[((n:Int)).toNat]?).getD false)=true:=by
  rw[aM (by omega),Int.toNat_natCast,hb]; rfl
 rw[eh]
 have XV:=p.lt
 have afK:=p.lo
 simp(disch:=first|omega|simp only[Wd]<;>omega|with_unfolding_all rfl)only[Wz,Dy,aU,hg,bA,p.cell,Nat.mul_one,qp hn]
 obtain ⟨hA,eA⟩:∃hA:Heap,hA=⟨h.nx,h.bl.bf bl (af ((B.set n false).map Value.bool) 4 false),h.lo⟩:=⟨_,rfl⟩
 rw[←eA]
 have nA:hA.nx=h.nx:=by rw[eA]
 have lA:hA.lo=h.lo:=by rw[eA]
 have gbl:hA.bl.get bl=some (af ((B.set n false).map Value.bool) 4 false):=by rw[eA]; exact T.aa _ _ _
 have fA:fZ hA bp F (.slice (some ⟨bl,0,none⟩) B.length B.length):=by
  refine ⟨by rw[nA]; exact p.fr.lt,by rw[lA]; exact p.fr.lo,fs,by rw[eA]; exact (T.aj _ _ (fun e=>hne e.symm)).trans hg,?_⟩
  rcases hpt with e | ⟨b,G,e,k1,k2,k3,k4⟩
  ·exact .inl e
  ·refine .inr ⟨b,G,e,by omega,by omega,?_,k4⟩
   rw[eA]
   exact (T.aj _ _ (by rintro rfl; rw[p.cell] at k3; exact aO k3)).trans k3
 have Fa:I6 bp bl h hA:=⟨by omega,lA,fun c _ _ hn _=>by rw[eA]; exact T.aj _ _ (fun e=>hn e.symm),fun _ c _ _ hn _=>by rw[eA]; exact T.aj _ _ (fun e=>hn e.symm),fun _ c _ hx=>(FB.congr (by rw[eA]; exact T.aj _ _ (fun e=>hne e.symm))).1 hx⟩
 refine NQ bp F _ (n:Int) hA _ fA (by omega) (by omega) ⟨_,_,_,rfl⟩ ?_
 intro h3 F' f3 Fc hu3 XU
 have n3:=XU.nx
 have l3:=XU.lo
 refine hk h3 F' ⟨by rw[List.length_set]; exact f3,by omega,by omega,?_,p.ok.afJ hb Fc hu3,by rw[List.length_set]; exact p.small⟩ Fc (Fa.trans (I6.aa0 XU))
 exact (XU.get bl (by omega) (fun e=>hne e.symm) (fun vs=>by rw[gbl]; exact aO)).trans gbl
theorem mq (n:Nat):aY [Value.bool false] n=(List.replicate n false).map Value.bool:=by
 induction n with
 | zero=>rfl
 | succ n ih=>rw[List.replicate_succ,List.map_cons,←ih]; rfl
theorem j_.new (most:Nat) {F:List Int} (hp:F.Perm ((List.range most).map fun n:Nat=>(n:Int))) (hu:HP F):j_ F (List.replicate most false):=by
 refine ⟨(hp.nodup_iff).2 ?_,fun n=>?_,fun x hx=>?_,hu⟩
 ·rw[List.Nodup,List.pairwise_map]
  exact List.nodup_range.imp fun hne e=>hne (Int.ofNat.inj e)
 ·rw[hp.mem_iff,List.mem_map,List.getElem?_replicate]
  constructor
  ·rintro ⟨a,ha,e⟩
   have:a=n:=Int.ofNat.inj e
   subst this
   rw[if_pos (List.mem_range.1 ha)]
  ·intro h
   by_cases hn:n<most
   ·exact ⟨n,List.mem_range.2 hn,rfl⟩
   ·rw[if_neg hn] at h; cases h
 ·obtain ⟨a,_,rfl⟩:=List.mem_map.1 (hp.mem_iff.1 hx)
  omega
theorem Ky (most:Nat) (h:Heap) (κ:KQ) (hm:most≤128) (hlo:h.lo≤h.nx)
  (hk:∀bp bl h' F,ec h' bp bl F (List.replicate most false)→bp≠bl→h.nx≤bp→h.nx≤bl→F.length=most→Le h h'→(∀x,FB h' bp x→h.nx≤x)→κ (.tuple ⟨[.pointer (some ⟨bp,0,none⟩),.int .i64 0]⟩) h') :
  CallW Tryz.prog 44 [.int .i64 (most:Int)] h κ:=by
 refine aq mixed ?_
 rw[S_]
 simp(disch:=first|omega|simp only[Wd]<;>omega|with_unfolding_all rfl)only[Wz,bL (show (0:Int)≤(most:Int) by omega),bL (show (most:Int)≤128 by omega)]
 have hrl:(aY [Value.bool false] most).length=most:=by rw[mq]; simp
 rw[HM _ _ _ _ _ (by omega) (by omega),mq]
 simp(disch:=first|omega|simp only[Wd]<;>omega|with_unfolding_all rfl)only[Wz]
 obtain ⟨hA,az⟩:∃hA:Heap,hA=⟨h.nx+1+1,((h.bl.bf (h.nx) (af ((List.replicate most false).map Value.bool) 4 false)).bf (h.nx+1) (af [.slice none 0 0,.slice (some ⟨h.nx,0,none⟩) most most] 132 false)),h.lo⟩:=⟨_,rfl⟩
 have aH:Le h hA:=by subst az; exact (((Le.refl h).new _).new _)
 have gl:hA.bl.get (h.nx)=some (af ((List.replicate most false).map Value.bool) 4 false):=by subst az; exact (T.aj _ _ (by omega)).trans (T.aa _ _ _)
 have gp:hA.bl.get (h.nx+1)=some (af [.slice none 0 0,.slice (some ⟨h.nx,0,none⟩) most most] 132 false):=by subst az; exact T.aa _ _ _
 have dF:hA.nx=h.nx+1+1:=by subst az; rfl
 have dG:hA.lo=h.lo:=by subst az; rfl
 rw[←az]
 clear az
 refine ⟨fun m l h1=>∃(i:Nat) (F:List Int),slot l 11=.int .i64 (i:Int)∧m=most-i∧i≤most∧fZ h1 (h.nx+1) F (.slice (some ⟨h.nx,0,none⟩) most most)∧F.Perm ((List.range i).map fun n:Nat=>(n:Int))∧HP F∧yg (h.nx+1) hA h1,⟨_,0,[],rfl,rfl,by omega,⟨by omega,by omega,_,gp,.inl ⟨rfl,rfl⟩⟩,List.Perm.refl _,fun i h1 h2=>absurd h2 (Nat.not_lt_zero _),yg.refl _ _⟩,?_⟩
 rintro m l h1 ⟨i,F1,s1,rfl,hi,f1,hp1,LY,I5⟩
 have n1:=I5.nx
 have l1:=I5.lo
 have vo:F1.length=i:=by rw[hp1.length_eq]; simp
 by_cases hst:i<most
 ·simp(disch:=first|omega|simp only[Wd]<;>omega|with_unfolding_all rfl)only[Wz,Bx,s1,bZ (show (i:Int)<(most:Int) by omega),aU]
  refine NQ (h.nx+1) F1 _ (i:Int) h1 _ f1 (by omega) (by omega) ⟨_,_,_,rfl⟩ ?_
  intro h2 F2 f2 hp2 Lz zp
  refine ⟨_,?_,i+1,F2,rfl,rfl,by omega,f2,?_,Lz LY,I5.trans zp⟩
  ·omega
  ·rw[List.range_succ,List.map_append]
   exact hp2.trans (hp1.append_right _)
 ·have hie:i=most:=by omega
  subst hie
  simp(disch:=first|omega|simp only[Wd]<;>omega|with_unfolding_all rfl)only[Wz,Bx,s1,bL (show (i:Int)≤(i:Int) by omega)]
  refine hk (h.nx+1) h.nx h1 F1 ⟨by rw[List.length_replicate]; exact f1,by omega,by omega,?_,j_.new _ hp1 LY,by rw[List.length_replicate]; exact hm⟩ (by omega) (by omega) (by omega) vo ⟨by omega,by omega,fun c hc=>?_⟩ fun x hx=>?_
  ·exact (I5.get h.nx (by omega) (by omega) (fun vs=>by rw[gl]; exact aO)).trans gl
  ·refine (I5.g2 (by omega) c (by omega) (by omega) ?_).trans (aH.get c hc)
   rintro ⟨n,cap,ls,hx⟩
   have:=mo (gp.symm.trans hx)
   cases this
  ·rcases Nat.lt_or_ge x h.nx with hlt | hge
   ·obtain ⟨n,cap,ls,hx⟩:=I5.mv (by omega) x (by omega) hx
    have:=mo (gp.symm.trans hx)
    cases this
   ·exact hge
end Go.Proofs
