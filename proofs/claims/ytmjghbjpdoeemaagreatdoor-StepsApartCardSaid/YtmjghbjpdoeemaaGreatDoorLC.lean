/-
  PROVED HERE: a part of the proof (L10, L11, L12, L13, L14).
-/
import Derived.Test.YtmjghbjpdoeemaaGreatDoorLB
set_option linter.unusedVariables false
set_option linter.unusedSimpArgs false
set_option maxRecDepth 100000
namespace Go.Proofs
open Go.Vai Go.Clashes
section
variable {a h:Heap} {rb rp rl most:Nat} {v:Value} {K:List HE}
end
section
variable {a h:Heap} {rb rp rl most:Nat} {v:Value} {K:List HE} {B:List Bool}
end
section
variable {a h:Heap} {rb rp rl most:Nat} {v:Value} {K:List HE} {B:List Bool}
end
section
variable {a h:Heap} {rb rp rl most:Nat} {v:Value} {K:List HE} {B:List Bool}
end
theorem nX.uniq {M:List HE} {B:List Bool} (i:nX M B) {e e':HE} (he:e∈M) (he':e'∈M) {p p':R5} (hp:p∈e.Q) (hp':p'∈e'.Q) (h:p.id=p'.id):e=e':=by
 obtain ⟨X,hX⟩:=i
 have hnd:=(List.nodup_append.1 ((hX.nodup_iff).2 (oF B))).1
 unfold eV at hnd
 rw[List.Nodup,List.pairwise_flatMap] at hnd
 obtain ⟨i,hi⟩:=List.getElem?_of_mem he
 obtain ⟨j,hj⟩:=List.getElem?_of_mem he'
 have G:=ee.1 hnd.2
 rcases Nat.lt_trichotomy i j with hl | hl | hl
 ·exact absurd h (G i j e e' hl hi hj _ (List.mem_map.2 ⟨p,hp,rfl⟩) _ (List.mem_map.2 ⟨p',hp',rfl⟩))
 ·subst hl; rw[hi] at hj; exact Option.some.inj hj
 ·exact absurd h.symm (G j i e' e hl hj hi _ (List.mem_map.2 ⟨p',hp',rfl⟩) _ (List.mem_map.2 ⟨p,hp,rfl⟩))
section
variable {h h':Heap} {bb bm bp bl most cap N:Nat} {M M' K:List HE} {clock clock':Nat} {F F':List Int} {B B':List Bool}
end
end Go.Proofs
