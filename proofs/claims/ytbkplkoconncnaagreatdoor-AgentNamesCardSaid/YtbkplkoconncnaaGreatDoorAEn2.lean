/-
  PROVED HERE: calls of the run, one by one: what each answers, and which blocks it leaves otherwise.
-/
import Derived.Test.YtbkplkoconncnaaGreatDoorAEn0
set_option linter.unusedVariables false
set_option linter.unusedSimpArgs false
namespace Go.Proofs
open Go.Vai

set_option maxRecDepth 100000 in
def e2 : Ent := ⟨9, 804, [vp 800 0, va [vi 1, vi 0, vi 3, vi 7, vi 6, vi 0]], [(728, mc 4 [vf, vf, vf, vf, vf, vf, vf, vf, vf, vf, vf, vf, vf, vf, vf, vf, vf, vf, vf, vf, vf, vf, vf, vf]), (729, mc 295 [vs 777 0 24 openCap, vs 728 0 24 24]), (777, mo 3 [vi 0, vi 1, vi 2, vi 3, vi 4, vi 5, vi 6, vi 7, vi 8, vi 9, vi 10, vi 11, vi 12, vi 13, vi 14, vi 15, vi 16, vi 17, vi 18, vi 19, vi 20, vi 21, vi 22, vi 23]), (778, .map [] 0), (779, mc 218 [vi 2, vi 8, vi 24, vi 2, vp 729 0, vs 787 0 2 openCap, (.map (some 778))]), (780, .map [] 0), (781, mc 300 [vi 8, vp 729 0, (.map (some 780))]), (784, .map [] 0), (785, mc 300 [vi 8, vp 729 0, (.map (some 784))]), (787, mo 219 [vp 781 0, vp 785 0]), (788, mc 3 [vi 0, vi 0]), (789, mc 223 [vs 788 0 2 2]), (790, mc 246 [pn, pn]), (791, mc 226 [vs 790 0 2 2]), (792, mc 183 [pn, pn]), (793, .map [] 0), (794, mc 230 [vi 0, sn]), (795, mc 101 [vp 779 0, vp 791 0, vp 789 0, vp 794 0, vs 792 0 2 2, (.map (some 793)), vi 0]), (798, mc 182 [sn]), (799, mc 156 [vp 798 0, vn 0, vi 2]), (800, mc 92 [vp 795 0, vi 0, vi 1, sn, sn, vp 799 0, pn])], vv [vi 1, vi 9, vt], [(728, mc 4 [vt, vt, vt, vf, vf, vf, vf, vf, vf, vf, vf, vf, vf, vf, vf, vf, vf, vf, vf, vf, vf, vf, vf, vf]), (729, mc 295 [vs 777 0 21 openCap, vs 728 0 24 24]), (777, mo 3 [vi 3, vi 4, vi 5, vi 7, vi 9, vi 11, vi 6, vi 15, vi 8, vi 19, vi 10, vi 22, vi 12, vi 13, vi 14, vi 23, vi 16, vi 17, vi 18, vi 21, vi 20, vi 2, vi 1, vi 0]), (778, .map [⟨vi 0, vi 1, 0⟩, ⟨vi 1, vi 0, 1⟩, ⟨vi 2, vi 1, 2⟩] 3), (780, .map [⟨va [vi 3, vn 0], vp 1134 0, 0⟩] 1), (784, .map [⟨va [vn 0, vn 0], vp 981 0, 0⟩, ⟨va [vi 3, vi 7], vp 1317 0, 1⟩] 2), (795, mc 101 [vp 779 0, vp 791 0, vp 789 0, vp 794 0, vs 792 0 2 2, (.map (some 793)), vi 3]), (800, mc 92 [vp 795 0, vi 0, vi 1, vs 1368 0 1 openCap, vs 1348 0 3 openCap, vp 799 0, pn]), (981, mc 161 [vn 0, vn 0, vs 987 0 1 openCap, vi 0]), (987, mo 163 [vi 0, vi 1, vi 2, vi 2, vi 0]), (1134, mc 161 [vi 3, vn 0, vs 1140 0 1 openCap, vi 0]), (1140, mo 163 [vi 1, vi 1, vi 2, vi 2, vi 0]), (1317, mc 161 [vi 3, vi 7, vs 1323 0 1 openCap, vi 0]), (1323, mo 163 [vi 2, vi 1, vi 6, vi 6, vi 0]), (1348, mo 48 [vi 1, vn 0, vn 0, vi 2, vi 1, vi 3, vn 0, vi 2, vi 1, vi 3, vi 7, vi 6]), (1368, mo 48 [vi 1, vi 3, vi 7, vi 6])], 1369⟩
set_option maxRecDepth 100000 in
theorem r2 : (e2.fitB && e2.runB (prTab false prB cutF []) Tryz.prog 100000) = true := by decide +kernel
theorem k2 : e2.Fit ∧ EntOk Tryz.prog e2 := Ent.both mixedHere (prTab_ok yes_not prB_ok (okNil)) r2

set_option maxRecDepth 100000 in
def e3 : Ent := ⟨9, 1371, [vp 800 0, va [vi 3, vi 0, vi 0, vi 0, vi 0, vi 0]], turned [] (turned (e2.d.map fun p => (p.1, some p.2)) e2.bl), vv [vi 1, vi 9, vt], [(728, mc 4 [vt, vt, vf, vf, vf, vf, vf, vf, vf, vf, vf, vf, vf, vf, vf, vf, vf, vf, vf, vf, vf, vf, vf, vf]), (729, mc 295 [vs 777 0 22 openCap, vs 728 0 24 24]), (777, mo 3 [vi 2, vi 3, vi 5, vi 7, vi 4, vi 11, vi 6, vi 15, vi 8, vi 19, vi 9, vi 22, vi 12, vi 13, vi 14, vi 23, vi 16, vi 17, vi 18, vi 21, vi 20, vi 10, vi 1, vi 0]), (780, .map [⟨va [vi 3, vn 0], vp 1600 0, 0⟩] 1), (784, .map [⟨va [vn 0, vn 0], vp 1733 0, 0⟩] 2), (795, mc 101 [vp 779 0, vp 791 0, vp 789 0, vp 794 0, vs 792 0 2 2, (.map (some 793)), vi 6]), (798, mc 182 [vs 1772 0 2 openCap]), (800, mc 92 [vp 795 0, vi 0, vi 0, sn, sn, vp 799 0, pn]), (1600, mc 161 [vi 3, vn 0, vs 1606 0 1 openCap, vi 0]), (1606, mo 163 [vi 1, vn 0, vi 2, vi 2, vi 0]), (1733, mc 161 [vn 0, vn 0, vs 1739 0 1 openCap, vi 0]), (1739, mo 163 [vi 0, vn 0, vi 2, vi 2, vi 0]), (1772, mo 48 [vn 0, vn 0, vn 0, vi 2, vn 0, vi 3, vn 0, vi 2])], 1773⟩
set_option maxRecDepth 100000 in
theorem r3 : (e3.fitB && e3.runB (prTab false prB cutF []) Tryz.prog 100000) = true := by decide +kernel
theorem k3 : e3.Fit ∧ EntOk Tryz.prog e3 := Ent.both mixedHere (prTab_ok yes_not prB_ok (okNil)) r3

end Go.Proofs
