/-
  PROVED HERE: calls of the run, one by one: what each answers, and which blocks it leaves otherwise.
-/
import Derived.Test.YtbkplkoconncnaaGreatDoorAEn0
set_option linter.unusedVariables false
set_option linter.unusedSimpArgs false
namespace Go.Proofs
open Go.Vai

set_option maxRecDepth 100000 in
def e0 : Ent := ⟨9, 80, [vp 76 0, va [vi 1, vi 0, vi 3, vi 7, vi 6, vi 0]], [(4, mc 4 [vf, vf, vf, vf, vf, vf, vf, vf, vf, vf, vf, vf, vf, vf, vf, vf, vf, vf, vf, vf, vf, vf, vf, vf]), (5, mc 295 [vs 53 0 24 openCap, vs 4 0 24 24]), (53, mo 3 [vi 0, vi 1, vi 2, vi 3, vi 4, vi 5, vi 6, vi 7, vi 8, vi 9, vi 10, vi 11, vi 12, vi 13, vi 14, vi 15, vi 16, vi 17, vi 18, vi 19, vi 20, vi 21, vi 22, vi 23]), (54, .map [] 0), (55, mc 218 [vi 2, vi 8, vi 24, vi 2, vp 5 0, vs 63 0 2 openCap, (.map (some 54))]), (56, .map [] 0), (57, mc 300 [vi 8, vp 5 0, (.map (some 56))]), (60, .map [] 0), (61, mc 300 [vi 8, vp 5 0, (.map (some 60))]), (63, mo 219 [vp 57 0, vp 61 0]), (64, mc 3 [vi 0, vi 0]), (65, mc 223 [vs 64 0 2 2]), (66, mc 246 [pn, pn]), (67, mc 226 [vs 66 0 2 2]), (68, mc 183 [pn, pn]), (69, .map [] 0), (70, mc 230 [vi 0, sn]), (71, mc 101 [vp 55 0, vp 67 0, vp 65 0, vp 70 0, vs 68 0 2 2, (.map (some 69)), vi 0]), (74, mc 182 [sn]), (75, mc 156 [vp 74 0, vn 0, vi 2]), (76, mc 92 [vp 71 0, vi 0, vi 1, sn, sn, vp 75 0, pn])], vv [vi 1, vi 9, vt], [(4, mc 4 [vt, vt, vt, vf, vf, vf, vf, vf, vf, vf, vf, vf, vf, vf, vf, vf, vf, vf, vf, vf, vf, vf, vf, vf]), (5, mc 295 [vs 53 0 21 openCap, vs 4 0 24 24]), (53, mo 3 [vi 3, vi 4, vi 5, vi 7, vi 9, vi 11, vi 6, vi 15, vi 8, vi 19, vi 10, vi 22, vi 12, vi 13, vi 14, vi 23, vi 16, vi 17, vi 18, vi 21, vi 20, vi 2, vi 1, vi 0]), (54, .map [⟨vi 0, vi 1, 0⟩, ⟨vi 1, vi 0, 1⟩, ⟨vi 2, vi 1, 2⟩] 3), (56, .map [⟨va [vi 3, vn 0], vp 410 0, 0⟩] 1), (60, .map [⟨va [vn 0, vn 0], vp 257 0, 0⟩, ⟨va [vi 3, vi 7], vp 593 0, 1⟩] 2), (71, mc 101 [vp 55 0, vp 67 0, vp 65 0, vp 70 0, vs 68 0 2 2, (.map (some 69)), vi 3]), (76, mc 92 [vp 71 0, vi 0, vi 1, vs 644 0 1 openCap, vs 624 0 3 openCap, vp 75 0, pn]), (257, mc 161 [vn 0, vn 0, vs 263 0 1 openCap, vi 0]), (263, mo 163 [vi 0, vi 1, vi 2, vi 2, vi 0]), (410, mc 161 [vi 3, vn 0, vs 416 0 1 openCap, vi 0]), (416, mo 163 [vi 1, vi 1, vi 2, vi 2, vi 0]), (593, mc 161 [vi 3, vi 7, vs 599 0 1 openCap, vi 0]), (599, mo 163 [vi 2, vi 1, vi 6, vi 6, vi 0]), (624, mo 48 [vi 1, vn 0, vn 0, vi 2, vi 1, vi 3, vn 0, vi 2, vi 1, vi 3, vi 7, vi 6]), (644, mo 48 [vi 1, vi 3, vi 7, vi 6])], 645⟩
set_option maxRecDepth 100000 in
theorem r0 : (e0.fitB && e0.runB (prTab false prB cutF []) Tryz.prog 100000) = true := by decide +kernel
theorem k0 : e0.Fit ∧ EntOk Tryz.prog e0 := Ent.both mixedHere (prTab_ok yes_not prB_ok (okNil)) r0

set_option maxRecDepth 100000 in
def e1 : Ent := ⟨6, 0, [], [], vt, [], 724⟩
set_option maxRecDepth 100000 in
theorem r1 : (e1.fitB && e1.runB (prTab false prB cutF [e0]) Tryz.prog 100000) = true := by decide +kernel
theorem k1 : e1.Fit ∧ EntOk Tryz.prog e1 := Ent.both mixedHere (prTab_ok yes_not prB_ok (okCons k0 okNil)) r1

end Go.Proofs
