/-
  PROVED HERE: a part of the proof (K42, K43, K44).
-/
import Derived.Test.YtmjghbjpdoeemaaGreatDoorKE
import Derived.Test.YtmjghbjpdoeemaaGreatDoorKF
set_option linter.unusedVariables false
set_option linter.unusedSimpArgs false
set_option maxRecDepth 100000
namespace Go.Proofs
open Go.Vai Go.Clashes
theorem aaA {h:Heap} {v:Value} {K:List HE} (hs:Sl oH h v K) (i:Nat) {e:HE} (hp:K[i]? = some e) (hq:Rs e.q=e.q) :
  ∃b o,b<h.nx∧(∀(β:Type) (fl:β) (h':Heap) (κ:Value→Heap→β),ax fl 4 v (.int .i64 (i:Int)) h' κ=κ (.pointer (some ⟨b,o,none⟩)) h')∧
   ∀h',Le h h'→((∀(β:Type) (fl:β) (κ:List Value→β),zm fl (h'.bl.get b) o 2 κ=κ [.int .i64 e.t,.int .i64 e.r])∧
   (∀(β:Type) (fl:β) (κ:List Value→β),zm fl (h'.bl.get b) o 4 κ=κ [.int .i64 e.t,.int .i64 e.r,e.q,.int .i64 e.w])∧
   (∀(β:Type) (fl:β) (κ:Value→β),o_ fl (h'.bl.get b) o κ=κ (.int .i64 e.t))∧
   (∀(β:Type) (fl:β) (κ:Value→β),o_ fl (h'.bl.get b) (o+1) κ=κ (.int .i64 e.r))∧
   (∀(β:Type) (fl:β) (κ:Value→β),o_ fl (h'.bl.get b) (o+2) κ=κ e.q)∧
   (∀(β:Type) (fl:β) (κ:Value→β),o_ fl (h'.bl.get b) (o+3) κ=κ (.int .i64 e.w))):=by
 obtain ⟨b,o,h1,h2,h3,hh⟩:=hs.ld pZ i hp
 refine ⟨b,o,h1,h2,fun h' l=>?_⟩
 rw[l.get b h1]
 refine ⟨fun β fl κ=>?_,fun β fl κ=>?_,fun β fl κ=>?_,fun β fl κ=>?_,fun β fl κ=>?_,fun β fl κ=>?_⟩
 ·have:=hh.sub 0 2 (by show 0+2≤4; omega)
  rw[Nat.add_zero] at this
  exact pq this 2 κ rfl
 ·rw[pq hh 4 κ rfl]; unfold oH; rw[hq]
 ·exact cL (fl:=fl) hh 0 κ (by show 0<4; omega)
 ·exact cL (fl:=fl) hh 1 κ (by show 1<4; omega)
 ·rw[cL (fl:=fl) hh 2 κ (by show 2<4; omega)]; show κ (Rs e.q)=_; rw[hq]
 ·exact cL (fl:=fl) hh 3 κ (by show 3<4; omega)
end Go.Proofs
