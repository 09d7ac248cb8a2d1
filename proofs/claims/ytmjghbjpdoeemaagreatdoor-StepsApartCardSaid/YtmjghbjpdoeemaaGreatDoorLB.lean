/-
  PROVED HERE: a part of the proof (L7, L5, L6, L8, L9).
-/
import Derived.Test.YtmjghbjpdoeemaaGreatDoorLA
import Derived.Test.YtmjghbjpdoeemaaGreatDoorKF
import Derived.Test.YtmjghbjpdoeemaaGreatDoorKG
set_option linter.unusedVariables false
set_option linter.unusedSimpArgs false
set_option maxRecDepth 100000
namespace Go.Proofs
open Go.Vai Go.Clashes
section
variable {M M' K:List HE} {clock:Nat}
end
end Go.Proofs

namespace Go.Vai
def Ob (v:Value) (c:Nat):Prop:=∃n,v=.slice (some ⟨c,0,none⟩) n aM
theorem fS.keep {α:Type} {enc:α→List Value} {a h h':Heap} {e:TypeId} {v:Value} {L:List α} (ho:fS enc a e h v L) (hn:h.nx≤h'.nx) (hl:h'.lo=h.lo) (hg:∀b vs,b<h.nx→h.bl.get b=some (aa vs e true)→h'.bl.get b=h.bl.get b):fS enc a e h' v L:=by
 rcases ho with h0 | ⟨b,h1,h2,h3,h4,h5⟩
 ·exact .inl h0
 ·exact .inr ⟨b,h1,h2,Nat.lt_of_lt_of_le h3 hn,by rw[hl]; exact h4,(hg b _ h3 h5).trans h5⟩
end Go.Vai
namespace Go.Proofs
open Go.Vai Go.Clashes
structure rB (h:Heap) (rp rl:Nat) (B:List Bool):Prop where
 Oc:rp<h.nx
 lop:h.lo≤rp
 Mr:rl<h.nx
 lol:h.lo≤rl
 VX:h.bl.get rp=some (aa [.slice (some ⟨rl,0,none⟩) B.length B.length] 132 false)
 VY:h.bl.get rl=some (aa (B.map Value.bool) 4 false)
 small:B.length≤128
structure JB (a h:Heap) (rb rp most:Nat) (v:Value) (K:List HE):Prop where
 lt:rb<h.nx
 lo:h.lo≤rb
 cell:h.bl.get rb=some (aa [.int .i64 (most:Int),.pointer (some ⟨rp,0,none⟩),v] 134 false)
 own:Ga a h v K
 emp:aar K v
 qv:∀k∈K,qI a h k.q k.Q
theorem rB.keep {h h':Heap} {rp rl:Nat} {B:List Bool} (p:rB h rp rl B) (hn:h.nx≤h'.nx) (hl:h'.lo=h.lo) (g1:h'.bl.get rp=h.bl.get rp) (g2:h'.bl.get rl=h.bl.get rl):rB h' rp rl B:=
 ⟨Nat.lt_of_lt_of_le p.Oc hn,by rw[hl]; exact p.lop,Nat.lt_of_lt_of_le p.Mr hn,by rw[hl]; exact p.lol,g1.trans p.VX,g2.trans p.VY,p.small⟩
theorem rB.le {h h':Heap} {rp rl:Nat} {B:List Bool} (p:rB h rp rl B) (l:Le h h'):rB h' rp rl B:=p.keep l.nx l.lo (l.get _ p.Oc) (l.get _ p.Mr)
theorem JB.keep {a h h':Heap} {rb rp most:Nat} {v:Value} {K:List HE} (R:JB a h rb rp most v K) (hn:h.nx≤h'.nx) (hl:h'.lo=h.lo)
  (hg:∀c vs ty op,c<h.nx→h.bl.get c=some (aa vs ty op)→(ty=134∨(ty=81∧op=true)∨ty=83)→h'.bl.get c=h.bl.get c):JB a h' rb rp most v K:=
 ⟨Nat.lt_of_lt_of_le R.lt hn,by rw[hl]; exact R.lo,(hg _ _ _ _ R.lt R.cell (.inl rfl)).trans R.cell,R.own.keep hn hl fun b vs hb g=>hg b vs _ _ hb g (.inr (.inl ⟨rfl,rfl⟩)),R.emp,fun k hk=>(R.qv k hk).keep hn hl fun c vs hc g=>hg c vs _ _ hc g (.inr (.inr rfl))⟩
theorem JB.le {a h h':Heap} {rb rp most:Nat} {v:Value} {K:List HE} (R:JB a h rb rp most v K) (l:Le h h'):JB a h' rb rp most v K:=R.keep l.nx l.lo fun c _ _ _ hc _ _=>l.get c hc
section
variable {a h:Heap} {bb bm bp bl most cap N:Nat} {M:List HE} {clock:Nat} {F:List Int} {B:List Bool} {rb rp rl:Nat} {v:Value} {K:List HE}
end
section
variable {a h:Heap} {rb rp most:Nat} {v:Value} {K:List HE}
end
end Go.Proofs
