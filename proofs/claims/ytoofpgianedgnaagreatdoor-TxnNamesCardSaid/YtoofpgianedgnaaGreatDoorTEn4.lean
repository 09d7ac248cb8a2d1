/-
  PROVED HERE: calls of the run, one by one: what each answers, and which blocks it leaves otherwise.
-/
import Derived.Test.YtoofpgianedgnaaGreatDoorTEn0
set_option linter.unusedVariables false
set_option linter.unusedSimpArgs false
namespace Go.Proofs
open Go.Vai

set_option maxRecDepth 100000 in
def e6 : Ent := ⟨7, 2723, [vp 1309 0, va [vi 4, vi 0, vi 1, vi 0, vi 6, vi 0]], [(1233, mc 4 [vt, vt, vt, vf, vf, vf, vf, vf, vf, vf, vf, vf, vf, vf, vf, vf, vf, vf, vf, vf, vf, vf, vf, vf]), (1234, mc 260 [vs 1282 0 21 openCap, vs 1233 0 24 24]), (1282, mo 3 [vi 3, vi 4, vi 5, vi 7, vi 9, vi 11, vi 6, vi 15, vi 8, vi 19, vi 10, vi 22, vi 12, vi 13, vi 14, vi 23, vi 16, vi 17, vi 18, vi 21, vi 20, vi 2, vi 1, vi 0]), (1283, .map [⟨vi 0, vi 1, 0⟩, ⟨vi 1, vi 1, 1⟩, ⟨vi 2, vi 0, 2⟩] 3), (1284, mc 170 [vi 2, vi 8, vi 24, vi 2, vp 1234 0, vs 1292 0 2 openCap, (.map (some 1283))]), (1285, .map [⟨va [vi 0, vi 1], vp 2648 0, 0⟩] 1), (1286, mc 265 [vi 8, vp 1234 0, (.map (some 1285))]), (1289, .map [⟨va [vn 0, vn 0], vp 2210 0, 0⟩, ⟨va [vi 0, vn 0], vp 2437 0, 1⟩] 2), (1290, mc 265 [vi 8, vp 1234 0, (.map (some 1289))]), (1292, mo 171 [vp 1286 0, vp 1290 0]), (1293, mc 3 [vi 0, vi 0]), (1294, mc 175 [vs 1293 0 2 2]), (1295, mc 320 [pn, pn]), (1296, mc 178 [vs 1295 0 2 2]), (1297, mc 274 [pn, pn]), (1298, .map [] 0), (1299, mc 182 [vi 0, sn]), (1300, mc 114 [vp 1284 0, vp 1296 0, vp 1294 0, vp 1299 0, vs 1297 0 2 2, (.map (some 1298)), vi 6]), (1301, .map [⟨va [vi 0, vi 1], vi 5, 0⟩] 1), (1302, mc 137 [(.map (some 1301))]), (1305, mc 268 [sn]), (1306, mc 270 [vp 1305 0, vn 0, vi 2]), (1307, mc 144 [vp 1300 0, vi 0, vi 1, vs 2693 0 1 openCap, vs 2669 0 3 openCap, vp 1306 0, pn]), (1308, mc 140 [vs 2716 0 1 openCap]), (1309, mc 93 [vp 1307 0, vi 0, vp 1308 0, vp 1302 0, vi 4, vi 0, vi 1, vi 0, vi 5, vi 0, .nilFunc, vi 6, vi 1, vp 2719 0]), (2210, mc 68 [vn 0, vn 0, vs 2216 0 1 openCap, vi 0]), (2216, mo 70 [vi 0, vi 1, vi 2, vi 2, vi 0]), (2437, mc 68 [vi 0, vn 0, vs 2443 0 1 openCap, vi 0]), (2443, mo 70 [vi 1, vi 1, vi 2, vi 2, vi 0]), (2648, mc 68 [vi 0, vi 1, vs 2654 0 1 openCap, vi 0]), (2654, mo 70 [vi 2, vi 1, vi 6, vi 6, vi 0]), (2669, mo 83 [vi 1, vn 0, vn 0, vi 2, vi 1, vi 0, vn 0, vi 2, vi 1, vi 0, vi 1, vi 6]), (2693, mo 83 [vi 1, vi 0, vi 1, vi 6]), (2716, mo 62 [vi 0, vi 1, vi 0, vf]), (2719, mc 47 [vi 1, vi 0, vi 4, vi 0, vi 1, vi 0, vi 5, vi 0, vi 1, vi 0, sn])], vv [va [vi 8, vi 0, sn], vi 2, vt], [(1307, mc 144 [vp 1300 0, vi 0, vi 1, vs 2764 0 1 openCap, vs 2669 0 3 openCap, vp 1306 0, pn]), (1309, mc 93 [vp 1307 0, vi 0, vp 1308 0, vp 1302 0, vi 4, vi 0, vi 1, vi 0, vi 6, vi 0, .nilFunc, vi 6, vi 1, vp 2778 0]), (2764, mo 83 [vi 1, vi 0, vi 1, vi 6]), (2778, mc 47 [vi 1, vi 0, vi 4, vi 0, vi 1, vi 0, vi 6, vi 0, vi 8, vi 0, sn])], 2780⟩
set_option maxRecDepth 100000 in
theorem r6 : (e6.fitB && e6.runB (prTab false prB cutF []) Tryz.prog 100000) = true := by decide +kernel
theorem k6 : e6.Fit ∧ EntOk Tryz.prog e6 := Ent.both mixedHere (prTab_ok yes_not prB_ok (okNil)) r6

set_option maxRecDepth 100000 in
def e7 : Ent := ⟨7, 2783, [vp 1309 0, va [vi 3, vi 0, vi 1, vi 0, vi 7, vi 0]], turned [(2693, none), (2719, none)] (turned (e6.d.map fun p => (p.1, some p.2)) e6.bl), vv [va [vi 1, vi 0, sn], vi 2, vt], [(1301, .map [⟨va [vi 0, vi 1], vi 7, 0⟩] 1), (1307, mc 144 [vp 1300 0, vi 0, vi 1, vs 2824 0 1 openCap, vs 2669 0 3 openCap, vp 1306 0, pn]), (1308, mc 140 [vs 2849 0 2 openCap]), (1309, mc 93 [vp 1307 0, vi 0, vp 1308 0, vp 1302 0, vi 3, vi 0, vi 1, vi 0, vi 7, vi 0, .nilFunc, vi 6, vi 1, vp 2852 0]), (2716, (.dead 4 62)), (2824, mo 83 [vi 1, vi 0, vi 1, vi 6]), (2849, mo 62 [vi 0, vi 1, vi 0, vf, vi 0, vi 1, vi 5, vt]), (2852, mc 47 [vi 1, vi 0, vi 3, vi 0, vi 1, vi 0, vi 7, vi 0, vi 1, vi 0, sn])], 2854⟩
set_option maxRecDepth 100000 in
theorem r7 : (e7.fitB && e7.runB (prTab false prB cutF []) Tryz.prog 100000) = true := by decide +kernel
theorem k7 : e7.Fit ∧ EntOk Tryz.prog e7 := Ent.both mixedHere (prTab_ok yes_not prB_ok (okNil)) r7

end Go.Proofs
