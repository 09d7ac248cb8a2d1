/-
  PROVED HERE: calls of the run, one by one: what each answers, and which blocks it leaves otherwise.
-/
import Derived.Test.YtbkplkoconncnaaGreatDoorAEn0
set_option linter.unusedVariables false
set_option linter.unusedSimpArgs false
namespace Go.Proofs
open Go.Vai

set_option maxRecDepth 100000 in
def e6 : Ent := ⟨9, 2371, [vp 800 0, va [vi 2, vi 0, vi 3, vi 8, vi 0, vi 0]], [(728, mc 4 [vt, vt, vt, vf, vf, vf, vf, vf, vf, vf, vf, vf, vf, vf, vf, vf, vf, vf, vf, vf, vf, vf, vf, vf]), (729, mc 295 [vs 777 0 21 openCap, vs 728 0 24 24]), (777, mo 3 [vi 3, vi 4, vi 5, vi 7, vi 9, vi 11, vi 6, vi 15, vi 8, vi 19, vi 10, vi 22, vi 12, vi 13, vi 14, vi 23, vi 16, vi 17, vi 18, vi 21, vi 20, vi 2, vi 1, vi 0]), (778, .map [⟨vi 0, vi 1, 0⟩, ⟨vi 1, vi 0, 1⟩, ⟨vi 2, vi 0, 2⟩] 3), (779, mc 218 [vi 2, vi 8, vi 24, vi 2, vp 729 0, vs 787 0 2 openCap, (.map (some 778))]), (780, .map [⟨va [vi 3, vn 0], vp 2121 0, 0⟩, ⟨va [vi 3, vi 8], vp 2304 0, 1⟩] 2), (781, mc 300 [vi 8, vp 729 0, (.map (some 780))]), (784, .map [⟨va [vn 0, vn 0], vp 1996 0, 0⟩] 2), (785, mc 300 [vi 8, vp 729 0, (.map (some 784))]), (787, mo 219 [vp 781 0, vp 785 0]), (788, mc 3 [vi 0, vi 0]), (789, mc 223 [vs 788 0 2 2]), (790, mc 246 [pn, pn]), (791, mc 226 [vs 790 0 2 2]), (792, mc 183 [pn, pn]), (793, .map [] 0), (794, mc 230 [vi 0, sn]), (795, mc 101 [vp 779 0, vp 791 0, vp 789 0, vp 794 0, vs 792 0 2 2, (.map (some 793)), vi 9]), (798, mc 182 [vs 2064 0 0 openCap]), (799, mc 156 [vp 798 0, vn 0, vi 2]), (800, mc 92 [vp 795 0, vi 0, vi 2, vs 2355 0 1 openCap, vs 2335 0 3 openCap, vp 799 0, pn]), (1996, mc 161 [vn 0, vn 0, vs 2002 0 1 openCap, vi 0]), (2002, mo 163 [vi 0, vi 2, vi 2, vi 2, vi 0]), (2064, mo 48 [vi 0, vi 0, vi 0, vi 0]), (2121, mc 161 [vi 3, vn 0, vs 2127 0 1 openCap, vi 0]), (2127, mo 163 [vi 1, vi 2, vi 2, vi 2, vi 0]), (2304, mc 161 [vi 3, vi 8, vs 2310 0 1 openCap, vi 0]), (2310, mo 163 [vi 2, vi 2, vi 6, vi 6, vi 0]), (2335, mo 48 [vi 2, vn 0, vn 0, vi 2, vi 2, vi 3, vn 0, vi 2, vi 2, vi 3, vi 8, vi 6]), (2355, mo 48 [vi 2, vi 3, vi 8, vi 6])], vv [vi 1, vi 3, vt], [(728, mc 4 [vt, vt, vf, vf, vf, vf, vf, vf, vf, vf, vf, vf, vf, vf, vf, vf, vf, vf, vf, vf, vf, vf, vf, vf]), (729, mc 295 [vs 777 0 22 openCap, vs 728 0 24 24]), (777, mo 3 [vi 2, vi 3, vi 5, vi 7, vi 4, vi 11, vi 6, vi 15, vi 8, vi 19, vi 9, vi 22, vi 12, vi 13, vi 14, vi 23, vi 16, vi 17, vi 18, vi 21, vi 20, vi 10, vi 1, vi 0]), (780, .map [⟨va [vi 3, vn 0], vp 2121 0, 0⟩] 2), (795, mc 101 [vp 779 0, vp 791 0, vp 789 0, vp 794 0, vs 792 0 2 2, (.map (some 793)), vi 10]), (800, mc 92 [vp 795 0, vi 0, vi 2, vs 2384 0 0 openCap, vs 2489 0 2 openCap, vp 799 0, pn]), (2384, mo 48 [vi 0, vi 0, vi 0, vi 0]), (2489, mo 48 [vi 2, vn 0, vn 0, vi 2, vi 2, vi 3, vn 0, vi 2, vi 0, vi 0, vi 0, vi 0])], 2493⟩
set_option maxRecDepth 100000 in
theorem r6 : (e6.fitB && e6.runB (prTab false prB cutF []) Tryz.prog 100000) = true := by decide +kernel
theorem k6 : e6.Fit ∧ EntOk Tryz.prog e6 := Ent.both mixedHere (prTab_ok yes_not prB_ok (okNil)) r6

end Go.Proofs
