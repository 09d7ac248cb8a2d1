/-
  PROVED HERE: a part of the proof (L15, L16, L17, L18).
-/
import Derived.Test.YtmjghbjpdoeemaaGreatDoorLC
set_option linter.unusedVariables false
set_option linter.unusedSimpArgs false
set_option maxRecDepth 100000
set_option maxHeartbeats 1000000
namespace Go.Proofs
open Go.Vai Go.Clashes
section
variable {a h:Heap} {rb rp rl most:Nat} {v:Value} {K:List HE} {B:List Bool}
end
theorem JC (most:Nat) (h:Heap) (κ:KQ) (hm:most≤128) (hlo:h.lo≤h.nx)
  (hk:∀rp rl h',rB h' rp rl (List.replicate most false)→h.nx≤rp→h.nx≤rl→Le h h'→κ (.tuple ⟨[.pointer (some ⟨rp,0,none⟩),.int .i64 0]⟩) h') :
  CallW Tryz.prog 37 [.int .i64 (most:Int)] h κ:=by
 refine aq mixed ?_
 rw[Ud]
 simp(disch:=first|omega|simp only[Wd]<;>omega|with_unfolding_all rfl)only[Wz,c6 (show (0:Int)≤(most:Int) by omega),c6 (show (most:Int)≤128 by omega)]
 have hrl:(aO [Value.bool false] most).length=most:=by rw[jU]; simp
 rw[r9 _ _ _ _ _ (by omega) (by omega),jU]
 simp(disch:=first|omega|simp only[Wd]<;>omega|with_unfolding_all rfl)only[Wz]
 obtain ⟨hA,aJ⟩:∃hA:Heap,hA=⟨h.nx+1+1,((h.bl.aW (h.nx) (aa ((List.replicate most false).map Value.bool) 4 false)).aW (h.nx+1) (aa [.slice (some ⟨h.nx,0,none⟩) most most] 132 false)),h.lo⟩:=⟨_,rfl⟩
 have aU:Le h hA:=by subst aJ; exact (((Le.refl h).new _).new _)
 have gl:hA.bl.get (h.nx)=some (aa ((List.replicate most false).map Value.bool) 4 false):=by subst aJ; exact (T.ai _ _ (by omega)).trans (T.af _ _ _)
 have gp:hA.bl.get (h.nx+1)=some (aa [.slice (some ⟨h.nx,0,none⟩) most most] 132 false):=by subst aJ; exact T.af _ _ _
 have ig:hA.nx=h.nx+1+1:=by subst aJ; rfl
 have ij:hA.lo=h.lo:=by subst aJ; rfl
 rw[←aJ]
 clear aJ
 exact hk (h.nx+1) h.nx hA ⟨by omega,by omega,by omega,by omega,by rw[List.length_replicate]; exact gp,gl,by rw[List.length_replicate]; exact hm⟩ (by omega) (by omega) aU
theorem VZ (h:Heap) (b o:Nat):kV Tryz.prog h 100 85 (.pointer (some ⟨b,o,none⟩)) (.pointer none)=some false:=by kernel_rfl
theorem JD {β:Type} {fl:β} (cn:Bool) (b o:Nat) (h:Heap) (κ:Value→Heap→β):au fl Tryz.prog .eql 85 cn false (.pointer (some ⟨b,o,none⟩)) (.pointer none) h κ=κ (.bool false) h:=by simp only[au,VZ,bN]
theorem JE (aH:Int) (rp:Nat) (a h:Heap) (κ:KQ) (hlo:h.lo≤h.nx)
  (lF:(aH<1∨64<aH)→κ (.tuple ⟨[.pointer none,.int .i64 2]⟩) h)
  (hk:∀rb h' (n:Nat),aH=(n:Int)→1≤n∧n≤64→JB a h' rb rp n (.slice none 0 0) []→h.nx≤rb→Le h h'→κ (.tuple ⟨[.pointer (some ⟨rb,0,none⟩),.int .i64 0]⟩) h') :
  CallW Tryz.prog 38 [.int .i64 aH,.pointer (some ⟨rp,0,none⟩)] h κ:=by
 refine aq mixed ?_
 rw[Ue]
 by_cases h1:aH<1
 ·simp(disch:=first|omega|simp only[Wd]<;>omega|with_unfolding_all rfl)only[Wz,aZ h1]
  exact lF (.inl h1)
 by_cases h2:64<aH
 ·simp(disch:=first|omega|simp only[Wd]<;>omega|with_unfolding_all rfl)only[Wz,aG h1,aZ h2]
  exact lF (.inr h2)
 obtain ⟨n,rfl⟩:∃n:Nat,aH=(n:Int):=⟨aH.toNat,by omega⟩
 simp(disch:=first|omega|simp only[Wd]<;>omega|with_unfolding_all rfl)only[Wz,aG h1,aG h2,JD]
 obtain ⟨hA,aJ⟩:∃hA:Heap,hA=⟨h.nx+1,(h.bl.aW (h.nx) (aa [.int .i64 (n:Int),.pointer (some ⟨rp,0,none⟩),.slice none 0 0] 134 false)),h.lo⟩:=⟨_,rfl⟩
 have aU:Le h hA:=by subst aJ; exact ((Le.refl h).new _)
 have gb:hA.bl.get (h.nx)=some (aa [.int .i64 (n:Int),.pointer (some ⟨rp,0,none⟩),.slice none 0 0] 134 false):=by subst aJ; exact T.af _ _ _
 have ig:hA.nx=h.nx+1:=by subst aJ; rfl
 have ij:hA.lo=h.lo:=by subst aJ; rfl
 rw[←aJ]
 clear aJ
 exact hk h.nx hA n rfl (by omega) ⟨by omega,by omega,gb,.inl ⟨rfl,.inl rfl⟩,fun _=>.inl rfl,fun k hk=>(nomatch hk)⟩ (Nat.le_refl _) aU
section
variable {a h:Heap} {rb rp rl most:Nat} {v:Value} {K:List HE} {B:List Bool}
end
section
variable {a0 h:Heap} {bb bm bp bl most cap N:Nat} {M:List HE} {clock:Nat} {F:List Int} {B:List Bool} {rb rp rl:Nat} {v:Value} {K:List HE}
end
def Dm (M:List HE) (t r x id:Int) (b:Bool):Prop:=(b=true∧∃e∈M,t=e.t∧r=e.r∧∃p∈e.Q,p.x=x∧p.id=id)∨(b=false∧id=0∧∀e∈M,t=e.t→r=e.r→∀p∈e.Q,p.x≠x)
theorem Ms {h:Heap} {bb bm bp bl most:Nat} {M:List HE} {clock:Nat} {F:List Int} {B:List Bool} (s:aV h bb bm bp bl most M clock F B) (hlo:h.lo≤h.nx) (t r x:Int) (κ:KQ)
  (hk:∀h' id b,Dm M t r x id b→Le h h'→κ (.tuple ⟨[.int .i64 id,.bool b]⟩) h') :
  CallW Tryz.prog 250 [.pointer (some ⟨bb,0,none⟩),dK t r,.int .i64 x] h κ:=by
 refine BL s hlo t r x _ ?_ ?_
 ·intro h' hn l; exact hk h' 0 false (.inr ⟨rfl,rfl,hn⟩) l
 ·intro h' e p he ht hr hp hx l; exact hk h' _ true (.inl ⟨rfl,e,he,ht,hr,p,hp,hx,rfl⟩) l
section
variable {a0 h:Heap} {bb bm bp bl most cap N:Nat} {M:List HE} {clock:Nat} {F:List Int} {B:List Bool} {rb rp rl:Nat} {v:Value} {K:List HE}
end
end Go.Proofs
