/-
  PROVED HERE: a part of the proof (N1, N2, N3).
-/
import Derived.Test.YtmjghbjpdoeemaaGreatDoorLD
import Derived.Test.YtmjghbjpdoeemaaGreatDoorUB
set_option linter.unusedVariables false
set_option linter.unusedSimpArgs false
set_option maxRecDepth 100000
set_option maxHeartbeats 1000000
namespace Go.Proofs
open Go.Vai Go.Clashes
structure RB where
 rb:Nat
 v:Value
 K:List HE
def rE (b:RB):List Value:=[.pointer (some ⟨b.rb,0,none⟩)]
theorem Gh (b:RB):(rE b).length=1:=rfl
theorem Gi (b:RB):(rE b).all dR=true:=rfl
def Og (x y:RB):Prop:=x.rb≠y.rb∧∀c,Ob x.v c→¬Ob y.v c
structure aaN (a h:Heap) (rt rp rl:Nat) (c:fW) (vr:Value) (aH:Nat) (R:List RB) (B:List Bool):Prop where
 lt:rt<h.nx
 cell:h.bl.get rt=some (aa [.int .i64 c.S,.int .i64 c.H,.int .i64 c.R,.int .i64 c.P,vr,.pointer (some ⟨rp,0,none⟩)] 90 false)
 sl:Sl rE h vr R
 ty:tJ 91 h vr
 bk:∀b∈R,JB a h b.rb rp aH b.v b.K
 y_:R.Pairwise Og
 dh:rB h rp rl B
 cS:c.S=R.length
 s1:1≤R.length∧R.length≤16
end Go.Proofs
namespace Go.Vai
open Go.Proofs Go.Clashes
end Go.Vai
namespace Go.Proofs
open Go.Vai Go.Clashes
section
variable {a h h':Heap} {rt rp rl:Nat} {c:fW} {vr:Value} {aH:Nat} {R:List RB} {B B':List Bool}
end
section
variable {a h:Heap} {tb bw bp bl:Nat} {c:fW} {vb:Value} {aH N:Nat} {Ts:List TB} {W:List IE} {wc:Nat} {F:List Int} {B:List Bool} {rt rp rl:Nat} {vr:Value} {R:List RB}
end
theorem Gj {β:Type} {fl:β} (s:ByteArray) (i:Nat) (h:Heap) (κ:Value→Heap→β) (hi:i<s.data.toList.length):n9 fl (.string s) (.int .i64 (i:Int)) h κ=κ (.int .u8 (Int.ofNat (s.data.toList[i]).toNat)) h:=by
 show (match s.data.toList[i]? with | some b=>rF b.toNat fun n=>κ (.int .u8 (.ofNat n)) h | none=>fl)=_
 rw[List.getElem?_eq_getElem hi]
 simp only[bG]
theorem xI {β:Type} {fl:β} (s:ByteArray) (h:Heap) (κ:Value→Heap→β):lT fl (.string s) h κ=κ (.int .i64 (s.data.toList.length:Int)) h:=by
 unfold lT; simp only[bG]; rfl
theorem B0 (h:Heap) (κ:KQ) (hlo:h.lo≤h.nx) (hk:∀h',Le h h'→κ (dK (-1) (-1)) h'):CallW Tryz.prog 96 [] h κ:=by
 refine aq mixed ?_
 rw[UE]
 simp(disch:=first|omega|simp only[Wd]<;>omega|with_unfolding_all rfl)only[Wz]
 exact hk _ ((Le.refl h).new _)
theorem Gk (t r:Int) (h:Heap) (κ:KQ) (hlo:h.lo≤h.nx) (hk:∀h',Le h h'→κ (.int .i64 (bz t r)) h'):CallW Tryz.prog 57 [dK t r] h κ:=by
 refine aq mixed ?_
 rw[Un]
 simp(disch:=first|omega|simp only[Wd]<;>omega|with_unfolding_all rfl)only[Wz,dK]
 obtain ⟨hA,aJ⟩:∃hA:Heap,hA=⟨h.nx+1,(h.bl.aW (h.nx) (aa [.int .i64 t,.int .i64 r] 36 false)),h.lo⟩:=⟨_,rfl⟩
 have aU:Le h hA:=by subst aJ; exact ((Le.refl h).new _)
 have g1:hA.bl.get (h.nx)=some (aa [.int .i64 t,.int .i64 r] 36 false):=by subst aJ; exact T.af _ _ _
 have ig:hA.nx=h.nx+1:=by subst aJ; rfl
 have ij:hA.lo=h.lo:=by subst aJ; rfl
 rw[←aJ]
 clear aJ
 refine B0 hA _ (by omega) ?_
 intro h2 bF
 have xD:=bF.nx
 have xE:=bF.lo
 have g1:=(bF.get _ (by omega)).trans g1
 have hk:=hk h2 (aU.trans bF)
 simp(disch:=first|omega|simp only[Wd]<;>omega|with_unfolding_all rfl)only[Wz,dK,g1,jQ,y8]
 by_cases h0:t = -1∧r = -1
 ·simp(disch:=first|omega|simp only[Wd]<;>omega|with_unfolding_all rfl)only[Wz,aZ h0]
  have e:bz t r=0:=by simp[bz,h0]
  rw[e] at hk; exact hk
 have hl:bz t r=if t<0∨100≤t∨r < -1∨100≤r then -1 else if r = -1 then 1 else 2:=by
  unfold bz zo
  rw[if_neg h0]
  by_cases h1:t<0∨100≤t∨r < -1∨100≤r
  ·rw[if_pos h1,if_neg (by simp; omega),if_neg (by simp; omega)]
  ·rw[if_neg h1]
   by_cases h2:r = -1
   ·rw[if_pos h2,if_pos (by simp; omega)]
   ·rw[if_neg h2,if_neg (by simp; omega),if_pos (by simp; omega)]
 simp(disch:=first|omega|simp only[Wd]<;>omega|with_unfolding_all rfl)only[Wz,aG h0,EE,g1]
 by_cases a1:t<0
 ·simp(disch:=first|omega|simp only[Wd]<;>omega|with_unfolding_all rfl)only[Wz,aZ a1]
  rw[hl,if_pos (by omega)] at hk; exact hk
 by_cases a2:100≤t
 ·simp(disch:=first|omega|simp only[Wd]<;>omega|with_unfolding_all rfl)only[Wz,aG a1,g1,aZ a2]
  rw[hl,if_pos (by omega)] at hk; exact hk
 by_cases a3:r < -1
 ·simp(disch:=first|omega|simp only[Wd]<;>omega|with_unfolding_all rfl)only[Wz,aG a1,aG a2,aZ a3,g1]
  rw[hl,if_pos (by omega)] at hk; exact hk
 by_cases a4:100≤r
 ·simp(disch:=first|omega|simp only[Wd]<;>omega|with_unfolding_all rfl)only[Wz,aG a1,aG a2,aG a3,aZ a4,g1]
  rw[hl,if_pos (by omega)] at hk; exact hk
 by_cases a5:r = -1
 ·simp(disch:=first|omega|simp only[Wd]<;>omega|with_unfolding_all rfl)only[Wz,aG a1,aG a2,aG a3,aG a4,aZ a5,g1]
  rw[hl,if_neg (by omega),if_pos a5] at hk; exact hk
 ·simp(disch:=first|omega|simp only[Wd]<;>omega|with_unfolding_all rfl)only[Wz,aG a1,aG a2,aG a3,aG a4,aG a5,g1]
  rw[hl,if_neg (by omega),if_neg a5] at hk; exact hk
theorem xJ (t r:Int) {h:Heap} {κ:Value→Heap→Prop} (hk:κ (.int .i64 (bz t r)) h):CallW Tryz.prog 57 [dK t r] h κ:=
 fD (v:=.int .i64 (bz t r)) rfl rfl (Gk t r ri _ (Nat.le_refl _) fun _ _=>rfl) hk
theorem Gl (t r:Int):bz t r<0↔bz t r = -1:=by
 unfold bz
 split
 ·omega
 ·split
  ·omega
  ·split<;>omega
theorem Gm (t r:Int) {h:Heap} {κ:Value→Heap→Prop} (hk:κ (.int .i64 (if bz t r = -1 then 2 else 0)) h):CallW Tryz.prog 25 [dK t r] h κ:=by
 refine fD (v:=.int .i64 (if bz t r = -1 then 2 else 0)) rfl rfl (aq mixed ?_) hk
 rw[T_]
 simp(disch:=first|omega|simp only[Wd]<;>omega|with_unfolding_all rfl)only[Wz,dK]
 refine xJ t r ?_
 have:=Gl t r
 by_cases h:bz t r = -1
 ·simp(disch:=first|omega|simp only[Wd]<;>omega|with_unfolding_all rfl)only[Wz,aZ (this.2 h)]; simp[h]
 ·simp(disch:=first|omega|simp only[Wd]<;>omega|with_unfolding_all rfl)only[Wz,aG (fun x=>h (this.1 x))]; simp[h]
theorem JU:∀n,n<100→bI Tryz.prog 60 147 [.int .i64 (n:Nat)] (.string (eo n))=true:=by
 intro n hn
 have:(List.range 100).all (fun n=>bI Tryz.prog 60 147 [.int .i64 ((n:Nat):Int)] (.string (eo n)))=true:=by kernel_rfl
 exact List.all_eq_true.1 this n (List.mem_range.2 hn)
theorem u_ (n:Int) (hn:zo n=true) {h:Heap} {κ:Value→Heap→Prop} (hk:κ (.string (eo n.toNat)) h):CallW Tryz.prog 147 [.int .i64 n] h κ:=by
 have h1:0≤n∧n<100:=by simpa[zo] using hn
 obtain ⟨k,rfl⟩:∃k:Nat,n=(k:Int):=⟨n.toNat,by omega⟩
 rw[Int.toNat_natCast] at hk
 exact r5 mixed (JU k (by omega)) hk
theorem MA (t r:Int) (hl:bz t r≠-1) {h:Heap} {κ:Value→Heap→Prop} (hk:κ (.string (er t r)) h):CallW Tryz.prog 111 [dK t r] h κ:=by
 refine fD (v:=.string (er t r)) rfl rfl (aq mixed ?_) hk
 rw[PD]
 simp(disch:=first|omega|simp only[Wd]<;>omega|with_unfolding_all rfl)only[Wz,dK]
 refine xJ t r ?_
 have st:=jd t.toNat
 have sr:=jd r.toNat
 rcases rC hl with e | ⟨e,ht⟩ | ⟨e,ht,hr⟩
 ·rw[e]; simp(disch:=first|omega|simp only[Wd]<;>omega|with_unfolding_all rfl)only[Wz]; simp[er,e]
 ·rw[e]
  simp(disch:=first|omega|simp only[Wd]<;>omega|with_unfolding_all rfl)only[Wz,tV]
  refine u_ t ht ?_
  rw[jX _ _ _ _ _ _ _ _ (by show 1+_≤_; omega)]
  simp[er,e]
 ·rw[e]
  simp(disch:=first|omega|simp only[Wd]<;>omega|with_unfolding_all rfl)only[Wz,tV,AL]
  have e1:∀(β:Type) (fl:β) (cn gd:Bool) (h:Heap) (κ:Value→Heap→β),au fl Tryz.prog .add 9 cn gd (.string ⟨#[116]⟩) (.string (eo t.toNat)) h κ=κ (.string ((⟨#[116]⟩:ByteArray)++eo t.toNat)) h:=fun β fl cn gd h κ=>jX _ _ _ _ _ _ _ _ (by show 1+_≤_; omega)
  have e2:∀(β:Type) (fl:β) (cn gd:Bool) (h:Heap) (κ:Value→Heap→β),au fl Tryz.prog .add 9 cn gd (.string ((⟨#[116]⟩:ByteArray)++eo t.toNat)) (.string ⟨#[46,114]⟩) h κ=κ (.string ((⟨#[116]⟩:ByteArray)++eo t.toNat++(⟨#[46,114]⟩:ByteArray))) h:=fun β fl cn gd h κ=>jX _ _ _ _ _ _ _ _ (by rw[ByteArray.size_append]; show 1+_+2≤_; omega)
  have e3:∀(β:Type) (fl:β) (cn gd:Bool) (h:Heap) (κ:Value→Heap→β),au fl Tryz.prog .add 9 cn gd (.string ((⟨#[116]⟩:ByteArray)++eo t.toNat++(⟨#[46,114]⟩:ByteArray))) (.string (eo r.toNat)) h κ=κ (.string ((⟨#[116]⟩:ByteArray)++eo t.toNat++(⟨#[46,114]⟩:ByteArray)++eo r.toNat)) h:=fun β fl cn gd h κ=>jX _ _ _ _ _ _ _ _ (by rw[ByteArray.size_append,ByteArray.size_append]; show 1+_+2+_≤_; omega)
  refine u_ t ht ?_
  simp(disch:=first|omega|simp only[Wd]<;>omega|with_unfolding_all rfl)only[Wz,e1,e2]
  refine u_ r hr ?_
  simp(disch:=first|omega|simp only[Wd]<;>omega|with_unfolding_all rfl)only[Wz,e1,e2,e3,E5]
  simp[er,e]
theorem RH (s:ByteArray) (hs:s.data.toList.length≤1000) {h:Heap} {κ:Value→Heap→Prop} (hk:κ (.int .u32 (mN s)) h):CallW Tryz.prog 110 [.string s] h κ:=by
 refine aq mixed ?_
 rw[PC]
 refine ⟨fun n l h1=>∃i:Nat,slot l 14=.int .i64 (i:Int)∧slot l 11=.int .u32 ((s.data.toList.take i).foldl uY 2166136261)∧i≤s.data.toList.length∧n=s.data.toList.length-i∧HQ h h1,⟨_,0,rfl,rfl,Nat.zero_le _,rfl,rfl⟩,?_⟩
 rintro n l h1 ⟨i,s1,s2,hi,rfl,hq⟩
 cases (show h=h1 from hq)
 by_cases hlt:i<s.data.toList.length
 ·simp(disch:=first|omega|simp only[Wd]<;>omega|with_unfolding_all rfl)only[Wz,tU,xI,s1,fI (show (i:Int)<(s.data.toList.length:Int) by omega),Gj,s2,p5,xz,xA]
  refine ⟨_,by omega,i+1,rfl,?_,by omega,rfl,rfl⟩
  rw[List.take_add_one,List.getElem?_eq_getElem hlt]
  simp only[Option.toList_some,List.foldl_append,List.foldl_cons,List.foldl_nil]
  rfl
 ·have hil:i=s.data.toList.length:=by omega
  simp(disch:=first|omega|simp only[Wd]<;>omega|with_unfolding_all rfl)only[Wz,tU,xI,s1,c6 (show (s.data.toList.length:Int)≤(i:Int) by omega),s2]
  rw[hil,List.take_length]; exact hk
theorem MB (t r:Int) (hl:bz t r≠-1) {h:Heap} {κ:Value→Heap→Prop} (hk:κ (.int .u32 (mN (er t r))) h):CallW Tryz.prog 71 [dK t r] h κ:=by
 refine fD (v:=.int .u32 (mN (er t r))) rfl rfl (aq mixed ?_) hk
 rw[Uv]
 simp(disch:=first|omega|simp only[Wd]<;>omega|with_unfolding_all rfl)only[Wz,dK]
 refine MA t r hl ?_
 refine RH _ (BW t r) ?_
 rfl
theorem RI (t r s:Int) {h:Heap} {κ:Value→Heap→Prop} (hk:κ (.int .i64 (ck t r s)) h):CallW Tryz.prog 42 [dK t r,.int .i64 s] h κ:=by
 refine fD (v:=.int .i64 (ck t r s)) rfl rfl (aq mixed ?_) hk
 rw[Uj]
 simp(disch:=first|omega|simp only[Wd]<;>omega|with_unfolding_all rfl)only[Wz,dK]
 refine Gm t r ?_
 by_cases hl:bz t r = -1
 ·rw[if_pos hl]
  simp(disch:=first|omega|simp only[Wd]<;>omega|with_unfolding_all rfl)only[Wz,aG (show ¬(2:Int)=0 by decide)]
  simp[ck,hl]
 rw[if_neg hl]
 by_cases h1:s<1
 ·simp(disch:=first|omega|simp only[Wd]<;>omega|with_unfolding_all rfl)only[Wz,aZ (show (0:Int)=0 from rfl),aZ h1]
  unfold ck; rw[if_pos (by omega)]
 by_cases h2:16<s
 ·simp(disch:=first|omega|simp only[Wd]<;>omega|with_unfolding_all rfl)only[Wz,aZ (show (0:Int)=0 from rfl),aG h1,aZ h2]
  unfold ck; rw[if_pos (by omega)]
 simp(disch:=first|omega|simp only[Wd]<;>omega|with_unfolding_all rfl)only[Wz,aZ (show (0:Int)=0 from rfl),aG h1,aG h2]
 refine MB t r hl ?_
 have hr:=lH (er t r)
 have h2:=Int.tmod_lt_of_pos (mN (er t r)) (show 0<s by omega)
 have h3:=Int.tmod_nonneg s hr.1
 simp(disch:=first|omega|simp only[Wd]<;>omega|with_unfolding_all rfl)only[Wz,p5,xC,xB]
 unfold ck
 rw[if_neg (by omega)]
section
variable {h h':Heap} {tb bw bp bl:Nat} {c:fW} {vb:Value} {aH N:Nat} {Ts:List TB} {W:List IE} {wc:Nat} {F F':List Int} {B:List Bool}
theorem MC (s:jx h tb bw bp bl c vb aH N Ts W wc F B) (hlo:h.lo≤h.nx) (hN:N≤1000) (t r x m:Int) (κ:KQ)
  (qZ:∀h',ck t r c.S<0→Le h h'→κ (.tuple ⟨[.int .i64 0,.bool false,.int .i64 2]⟩) h')
  (hk2:∀(k:Nat) (b:TB) h',Ts[k]? = some b→ck t r c.S=(k:Int)→bK m=false→Le h h'→κ (.tuple ⟨[.int .i64 0,.bool false,.int .i64 2]⟩) h')
  (OX:∀(k:Nat) (b:TB) h' e p,Ts[k]? = some b→ck t r c.S=(k:Int)→bK m=true→e∈b.M→t=e.t→r=e.r→p∈e.Q→p.x=x→Le h h'→κ (.tuple ⟨[.int .i64 0,.bool false,.int .i64 4]⟩) h')
  (VB:∀(k:Nat) (b:TB) h',Ts[k]? = some b→ck t r c.S=(k:Int)→bK m=true→(∀e∈b.M,t=e.t→r=e.r→∀p∈e.Q,p.x≠x)→(F=[]∨((∀e∈b.M,¬(t=e.t∧r=e.r))∧aH≤b.M.length))→Le h h'→κ (.tuple ⟨[.int .i64 0,.bool false,.int .i64 8]⟩) h')
  (Kz:∀(k:Nat) (b:TB) M' clock' F' W' vG h0 h1 h' n g,Ts[k]? = some b→ck t r c.S=(k:Int)→bK m=true→(∀e∈b.M,t=e.t→r=e.r→∀p∈e.Q,p.x≠x)→aV h0 b.bb b.bm bp bl aH b.M b.clock F B→kP h0 h1 b.bb b.bm bp bl aH b.M M' clock' F F' B t r x m n g→
   jx h' tb bw bp bl c vb aH (N+1) (Ts.set k ⟨b.bb,b.bm,M',clock'⟩) W' vG F' (B.set n true)→rR Ts bw bp bl h h'→κ (.tuple ⟨[.int .i64 (n:Int),.bool g,.int .i64 0]⟩) h') :
  CallW Tryz.prog 213 [.pointer (some ⟨tb,0,none⟩),dK t r,.int .i64 x,.int .i64 m] h κ:=by
 refine aq mixed ?_
 rw[Qd]
 simp(disch:=first|omega|simp only[Wd]<;>omega|with_unfolding_all rfl)only[Wz,dK,mO]
 obtain ⟨hA,aJ⟩:∃hA:Heap,hA=⟨h.nx+1,(h.bl.aW (h.nx) (aa [.int .i64 t,.int .i64 r] 36 false)),h.lo⟩:=⟨_,rfl⟩
 have aU:Le h hA:=by subst aJ; exact ((Le.refl h).new _)
 have g1:hA.bl.get (h.nx)=some (aa [.int .i64 t,.int .i64 r] 36 false):=by subst aJ; exact T.af _ _ _
 have ig:hA.nx=h.nx+1:=by subst aJ; rfl
 have ij:hA.lo=h.lo:=by subst aJ; rfl
 rw[←aJ]
 clear aJ
 refine qP (s.le aU).is (by omega) t r _ ?_
 intro h2 bF
 have xD:=bF.nx
 have xE:=bF.lo
 have g1:=(bF.get _ (by omega)).trans g1
 have ki:=aU.trans bF
 have s2:=s.le ki
 by_cases hneg:ck t r c.S<0
 ·simp(disch:=first|omega|simp only[Wd]<;>omega|with_unfolding_all rfl)only[Wz,aZ hneg]
  exact qZ h2 hneg ki
 obtain ⟨k,b,hst,hk⟩:=V6 s.is hneg
 have hb:=List.mem_of_getElem? hk
 have gt:=s2.is.kR
 obtain ⟨cc,oo,_,EY,nu⟩:=Mu s2.is.sl k hk
 have nu:=nu h2 (Le.refl _)
 rw[hst]
 simp(disch:=first|omega|simp only[Wd]<;>omega|with_unfolding_all rfl)only[Wz,c6 (show (0:Int)≤(k:Int) by omega),A9,aN,gt,EY,nu,g1]
 refine Mh (s2.is.bk b hb) (by omega) (s2.JL hk) N (by omega) (s2.wb b hb) t r x m _ ?_ ?_ ?_ ?_
 ·intro h3 XB f_
  simp(disch:=first|omega|simp only[Wd]<;>omega|with_unfolding_all rfl)only[Wz,jQ,kJ]
  refine ⟨fun l h'=>HQ h3 h',?_,?_⟩
  ·simp(disch:=first|omega|simp only[Wd]<;>omega|with_unfolding_all rfl)only[Wz,mF]
   rfl
  ·rintro l h' hq
   cases (show h3=h' from hq)
   exact hk2 k b h3 hk hst XB (ki.trans f_)
 ·intro h3 e p SM he ht hr hp hx f_
  simp(disch:=first|omega|simp only[Wd]<;>omega|with_unfolding_all rfl)only[Wz,jQ,kJ]
  refine ⟨fun l h'=>HQ h3 h',?_,?_⟩
  ·simp(disch:=first|omega|simp only[Wd]<;>omega|with_unfolding_all rfl)only[Wz,mF]
   rfl
  ·rintro l h' hq
   cases (show h3=h' from hq)
   exact OX k b h3 e p hk hst SM he ht hr hp hx (ki.trans f_)
 ·intro h3 SM aaO hfull f_
  simp(disch:=first|omega|simp only[Wd]<;>omega|with_unfolding_all rfl)only[Wz,jQ,kJ]
  refine ⟨fun l h'=>HQ h3 h',?_,?_⟩
  ·simp(disch:=first|omega|simp only[Wd]<;>omega|with_unfolding_all rfl)only[Wz,mF]
   rfl
  ·rintro l h' hq
   cases (show h3=h' from hq)
   exact VB k b h3 hk hst SM aaO hfull (ki.trans f_)
 ·intro M' clock' F' h3 n g am hno ak
  have XC:=s2.is.change hk ak.is ak.fr
  have n3:=ak.fr.nx
  have l3:=ak.fr.lo
  have Xu:=XC.kR
  have aaP:=XC.low
  simp(disch:=first|omega|simp only[Wd]<;>omega|with_unfolding_all rfl)only[Wz,jQ,kJ]
  refine ⟨fun l h'=>∃W' vG,(∀j,Gc W' j=if j=(n:Int) then some (k:Int) else Gc W j)∧h'=⟨h3.nx,h3.bl.aW bw (.map (W'.map xF) vG),h3.lo⟩,?_,?_⟩
  ·simp(disch:=first|omega|simp only[Wd]<;>omega|with_unfolding_all rfl)only[Wz,mF,aN,Xu]
   refine RA XC.kS aaP _ _ _ ?_
   intro W' vG hW
   exact ⟨W',vG,hW,rfl⟩
  ·rintro l h' ⟨W',vG,hW,rfl⟩
   have fr:rR Ts bw bp bl h ⟨h3.nx,h3.bl.aW bw (.map (W'.map xF) vG),h3.lo⟩:=((rR.of_le ki).trans (rR.RC hb ak.fr)).trans rR.RE
   have wv:=kP.ids (s2.is.bk b hb) ak
   have Wc:∀i,i∈iV B→i≠(n:Int):=by
    rintro i hi rfl
    obtain ⟨k',e,hk'⟩:=iK.1 hi
    have:k'=n:=(Int.ofNat.inj e).symm
    subst this
    rw[ak.old] at hk'; cases hk'
   have hin:∀i b',b'∈Ts→i∈eV b'.M→i≠(n:Int):=fun i b' hb' hi=>Wc i (s.ids.mem_iff.1 (List.mem_flatMap.2 ⟨b',hb',hi⟩))
   refine Kz k b M' clock' F' W' vG h2 h3 _ n g hk hst am hno (s2.is.bk b hb) ak ⟨XC.RE W' vG,?_,?_,?_,?_,?_,by rw[List.length_set]; exact s.cR,s.cH⟩ fr
   ·obtain ⟨X,hX⟩:=oI (fun b:TB=>eV b.M) hk
    have h0:=hX b
    rw[u0 hk] at h0
    refine (hX _).trans ?_
    refine (wv.append_right X).trans ?_
    rw[List.append_assoc]
    refine ((List.Perm.append_left _ List.perm_append_comm).trans ?_).trans (xq ak.old).symm
    rw[←List.append_assoc]
    exact (h0.symm.trans s.ids).append_right _
   ·intro j y hj e he p hp
    rw[hW]
    rcases ew hj with ⟨rfl,rfl⟩ | ⟨hne,hj⟩
    ·have hpi:=wv.mem_iff.1 (jy.2 ⟨e,he,p,hp,rfl⟩)
     rcases List.mem_append.1 hpi with h1 | h1
     ·obtain ⟨e0,JM,p0,Vt,hpe⟩:=jy.1 h1
      rw[if_neg (hin _ b hb h1),←hpe]
      exact s.wh j b hk e0 JM p0 Vt
     ·rw[List.mem_singleton] at h1
      rw[if_pos h1]
    ·rw[if_neg (hin _ y (List.mem_of_getElem? hj) (jy.2 ⟨e,he,p,hp,rfl⟩))]
     exact s.wh j y hj e he p hp
   ·intro j y hj e he
    rcases ew hj with ⟨rfl,rfl⟩ | ⟨_,hj⟩
    ·rcases ak.sub e he with ⟨e0,JM,h1,h2⟩ | ⟨h1,h2⟩
     ·rw[←h1,←h2]; exact s.nm j b hk e0 JM
     ·rw[h1,h2]; exact hst
    ·exact s.nm j y hj e he
   ·intro y hy e he
    obtain ⟨j,hj⟩:=List.getElem?_of_mem hy
    rcases ew hj with ⟨rfl,rfl⟩ | ⟨_,hj⟩
    ·exact ak.wb (s.wb b hb) e he
    ·have:=s.wb y (List.mem_of_getElem? hj) e he; omega
   ·intro y hy
    obtain ⟨j,hj⟩:=List.getElem?_of_mem hy
    rcases ew hj with ⟨rfl,rfl⟩ | ⟨_,hj⟩
    ·exact kP.len (s2.is.bk b hb) (s.len b hb) ak
    ·exact s.len y (List.mem_of_getElem? hj)
theorem B1 (s:jx h tb bw bp bl c vb aH N Ts W wc F B) (hlo:h.lo≤h.nx) (hN:N≤1000) (id m:Int) (κ:KQ)
  (hk2:∀h',bK m=false→Le h h'→κ (.tuple ⟨[.bool false,.int .i64 2]⟩) h')
  (Rj:bK m=true→(∀b∈Ts,∀e∈b.M,bT e.Q id=none)→κ (.tuple ⟨[.bool false,.int .i64 5]⟩) h)
  (Z6:∀(k:Nat) (b:TB) h' e p,bK m=true→Ts[k]? = some b→e∈b.M→bT e.Q id=some p→0<p.s→Le h h'→κ (.tuple ⟨[.bool false,.int .i64 7]⟩) h')
  (lF:∀(k:Nat) (b:TB) h' M' clock' e p i,bK m=true→Ts[k]? = some b→e∈b.M→e.Q[i]? = some p→bT e.Q id=some p→¬0<p.s→jW h h' b.bb b.bm bp bl aH b.M M' clock' F B e (e.Q.set i (gR e.Q e.w p m).1) (gR e.Q e.w p m).2.1→
   jx h' tb bw bp bl c vb aH (N+1) (Ts.set k ⟨b.bb,b.bm,M',clock'⟩) W wc F B→κ (.tuple ⟨[.bool (gR e.Q e.w p m).2.2,.int .i64 0]⟩) h') :
  CallW Tryz.prog 214 [.pointer (some ⟨tb,0,none⟩),.int .i64 id,.int .i64 m] h κ:=by
 have XB:m=0→bK m=false:=by intro h0; unfold bK; simp[h0]
 have SM:m≠0→bK m=kn m:=by intro h0; unfold bK; simp[h0]
 refine aq mixed ?_
 rw[Qe]
 refine JN s hlo id _ ?_ ?_
 ·intro hno
  simp(disch:=first|omega|simp only[Wd]<;>omega|with_unfolding_all rfl)only[Wz,BX]
  by_cases hm0:m=0
  ·simp(disch:=first|omega|simp only[Wd]<;>omega|with_unfolding_all rfl)only[Wz,aZ hm0]
   exact hk2 h (XB hm0) (Le.refl _)
  ·simp(disch:=first|omega|simp only[Wd]<;>omega|with_unfolding_all rfl)only[Wz,aG hm0]
   have am:=SM hm0
   refine pP m ?_
   cases hkn:kn m with
   | false=>simp(disch:=first|omega|simp only[Wd]<;>omega|with_unfolding_all rfl)only[Wz]; exact hk2 h (am.trans hkn) (Le.refl _)
   | true=>
    simp(disch:=first|omega|simp only[Wd]<;>omega|with_unfolding_all rfl)only[Wz,uf,u5]
    refine E8 tb h _ ?_
    exact Rj (am.trans hkn) hno
 ·intro k b e p hkb he hf
  have hb:=List.mem_of_getElem? hkb
  simp(disch:=first|omega|simp only[Wd]<;>omega|with_unfolding_all rfl)only[Wz,BX]
  by_cases hm0:m=0
  ·simp(disch:=first|omega|simp only[Wd]<;>omega|with_unfolding_all rfl)only[Wz,aZ hm0]
   exact hk2 h (XB hm0) (Le.refl _)
  ·simp(disch:=first|omega|simp only[Wd]<;>omega|with_unfolding_all rfl)only[Wz,aG hm0]
   have am:=SM hm0
   refine pP m ?_
   cases hkn:kn m with
   | false=>simp(disch:=first|omega|simp only[Wd]<;>omega|with_unfolding_all rfl)only[Wz]; exact hk2 h (am.trans hkn) (Le.refl _)
   | true=>
    simp(disch:=first|omega|simp only[Wd]<;>omega|with_unfolding_all rfl)only[Wz,uf,gM]
    refine BM (s.is.bk b hb) hlo N (by omega) (s.wb b hb) id m _ ?_ ?_ ?_ ?_
    ·intro h1 We b_
     simp(disch:=first|omega|simp only[Wd]<;>omega|with_unfolding_all rfl)only[Wz]
     exact hk2 h1 We b_
    ·intro h1 _ hn _
     rw[hn e he] at hf; cases hf
    ·intro h1 e1 p1 We zj SI hs1 b_
     simp(disch:=first|omega|simp only[Wd]<;>omega|with_unfolding_all rfl)only[Wz]
     exact Z6 k b h1 e1 p1 We hkb zj SI hs1 b_
    ·intro h1 M' clock' e1 p1 i We zj hi SI hs1 mv
     simp(disch:=first|omega|simp only[Wd]<;>omega|with_unfolding_all rfl)only[Wz]
     exact lF k b h1 M' clock' e1 p1 i We hkb zj hi SI hs1 mv (s.V7 hkb zj mv (y7 hi (Mq _ _ _ _)) (Rv _ _ _ _))
end
end Go.Proofs
