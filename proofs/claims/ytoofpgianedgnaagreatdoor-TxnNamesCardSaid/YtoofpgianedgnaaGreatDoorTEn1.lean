/-
  PROVED HERE: calls of the run, one by one: what each answers, and which blocks it leaves otherwise.
-/
import Derived.Test.YtoofpgianedgnaaGreatDoorTEn0
set_option linter.unusedVariables false
set_option linter.unusedSimpArgs false
namespace Go.Proofs
open Go.Vai

set_option maxRecDepth 100000 in
def e0 : Ent := ⟨7, 82, [vp 79 0, va [vi 4, vi 0, vi 1, vi 0, vi 5, vi 0]], [(3, mc 4 [vf, vf, vf, vf, vf, vf, vf, vf, vf, vf, vf, vf, vf, vf, vf, vf, vf, vf, vf, vf, vf, vf, vf, vf]), (4, mc 260 [vs 52 0 24 openCap, vs 3 0 24 24]), (52, mo 3 [vi 0, vi 1, vi 2, vi 3, vi 4, vi 5, vi 6, vi 7, vi 8, vi 9, vi 10, vi 11, vi 12, vi 13, vi 14, vi 15, vi 16, vi 17, vi 18, vi 19, vi 20, vi 21, vi 22, vi 23]), (53, .map [] 0), (54, mc 170 [vi 2, vi 8, vi 24, vi 2, vp 4 0, vs 62 0 2 openCap, (.map (some 53))]), (55, .map [] 0), (56, mc 265 [vi 8, vp 4 0, (.map (some 55))]), (59, .map [] 0), (60, mc 265 [vi 8, vp 4 0, (.map (some 59))]), (62, mo 171 [vp 56 0, vp 60 0]), (63, mc 3 [vi 0, vi 0]), (64, mc 175 [vs 63 0 2 2]), (65, mc 320 [pn, pn]), (66, mc 178 [vs 65 0 2 2]), (67, mc 274 [pn, pn]), (68, .map [] 0), (69, mc 182 [vi 0, sn]), (70, mc 114 [vp 54 0, vp 66 0, vp 64 0, vp 69 0, vs 67 0 2 2, (.map (some 68)), vi 0]), (71, .map [] 0), (72, mc 137 [(.map (some 71))]), (75, mc 268 [sn]), (76, mc 270 [vp 75 0, vn 0, vi 2]), (77, mc 144 [vp 70 0, vi 0, vi 1, sn, sn, vp 76 0, pn]), (78, mc 140 [sn]), (79, mc 93 [vp 77 0, vi 0, vp 78 0, vp 72 0, vi 0, vi 0, vi 0, vi 0, vi 0, vi 0, .nilFunc, vi 0, vi 0, pn])], vv [va [vi 1, vi 0, sn], vi 10, vt], [(3, mc 4 [vt, vt, vt, vf, vf, vf, vf, vf, vf, vf, vf, vf, vf, vf, vf, vf, vf, vf, vf, vf, vf, vf, vf, vf]), (4, mc 260 [vs 52 0 21 openCap, vs 3 0 24 24]), (52, mo 3 [vi 3, vi 4, vi 5, vi 7, vi 9, vi 11, vi 6, vi 15, vi 8, vi 19, vi 10, vi 22, vi 12, vi 13, vi 14, vi 23, vi 16, vi 17, vi 18, vi 21, vi 20, vi 2, vi 1, vi 0]), (53, .map [⟨vi 0, vi 1, 0⟩, ⟨vi 1, vi 1, 1⟩, ⟨vi 2, vi 0, 2⟩] 3), (55, .map [⟨va [vi 0, vi 1], vp 624 0, 0⟩] 1), (59, .map [⟨va [vn 0, vn 0], vp 269 0, 0⟩, ⟨va [vi 0, vn 0], vp 431 0, 1⟩] 2), (70, mc 114 [vp 54 0, vp 66 0, vp 64 0, vp 69 0, vs 67 0 2 2, (.map (some 68)), vi 3]), (71, .map [⟨va [vi 0, vi 1], vi 5, 0⟩] 1), (77, mc 144 [vp 70 0, vi 0, vi 1, vs 678 0 1 openCap, vs 658 0 3 openCap, vp 76 0, pn]), (78, mc 140 [vs 699 0 1 openCap]), (79, mc 93 [vp 77 0, vi 0, vp 78 0, vp 72 0, vi 4, vi 0, vi 1, vi 0, vi 5, vi 0, .nilFunc, vi 6, vi 1, vp 702 0]), (269, mc 68 [vn 0, vn 0, vs 275 0 1 openCap, vi 0]), (275, mo 70 [vi 0, vi 1, vi 2, vi 2, vi 0]), (431, mc 68 [vi 0, vn 0, vs 437 0 1 openCap, vi 0]), (437, mo 70 [vi 1, vi 1, vi 2, vi 2, vi 0]), (624, mc 68 [vi 0, vi 1, vs 630 0 1 openCap, vi 0]), (630, mo 70 [vi 2, vi 1, vi 6, vi 6, vi 0]), (658, mo 83 [vi 1, vn 0, vn 0, vi 2, vi 1, vi 0, vn 0, vi 2, vi 1, vi 0, vi 1, vi 6]), (678, mo 83 [vi 1, vi 0, vi 1, vi 6]), (699, mo 62 [vi 0, vi 1, vi 0, vf]), (702, mc 47 [vi 1, vi 0, vi 4, vi 0, vi 1, vi 0, vi 5, vi 0, vi 1, vi 0, sn])], 704⟩
set_option maxRecDepth 100000 in
theorem r0 : (e0.fitB && e0.runB (prTab false prB cutF []) Tryz.prog 100000) = true := by decide +kernel
theorem k0 : e0.Fit ∧ EntOk Tryz.prog e0 := Ent.both mixedHere (prTab_ok yes_not prB_ok (okNil)) r0

set_option maxRecDepth 100000 in
def e1 : Ent := ⟨7, 707, [vp 79 0, va [vi 2, vi 0, vi 1, vi 0, vi 0, vi 0]], turned [] (turned (e0.d.map fun p => (p.1, some p.2)) e0.bl), vv [va [vi 1, vi 5, sn], vi 2, vt], [(77, mc 144 [vp 70 0, vi 0, vi 1, vs 748 0 1 openCap, vs 658 0 3 openCap, vp 76 0, pn]), (79, mc 93 [vp 77 0, vi 0, vp 78 0, vp 72 0, vi 2, vi 0, vi 1, vi 0, vi 0, vi 0, .nilFunc, vi 6, vi 1, vp 762 0]), (748, mo 83 [vi 1, vi 0, vi 1, vi 6]), (762, mc 47 [vi 1, vi 0, vi 2, vi 0, vi 1, vi 0, vi 0, vi 0, vi 1, vi 5, sn])], 764⟩
set_option maxRecDepth 100000 in
theorem r1 : (e1.fitB && e1.runB (prTab false prB cutF []) Tryz.prog 100000) = true := by decide +kernel
theorem k1 : e1.Fit ∧ EntOk Tryz.prog e1 := Ent.both mixedHere (prTab_ok yes_not prB_ok (okNil)) r1

end Go.Proofs
