/-
  PROVED HERE: calls of the run, one by one: what each answers, and which blocks it leaves otherwise.
-/
import Derived.Test.YtbkplkoconncnaaGreatDoorMEn0
set_option linter.unusedVariables false
set_option linter.unusedSimpArgs false
namespace Go.Proofs
open Go.Vai

set_option maxRecDepth 100000 in
def e56 : Ent := ⟨31, 2343, [vp 1428 0, va [vi 2, vi 3]], [(1360, mc 4 [vt, vt, vt, vt, vf, vf, vf, vf, vf, vf, vf, vf, vf, vf, vf, vf, vf, vf, vf, vf, vf, vf, vf, vf]), (1361, mc 295 [vs 1409 0 20 openCap, vs 1360 0 24 24]), (1409, mo 3 [vi 4, vi 7, vi 5, vi 8, vi 9, vi 11, vi 6, vi 15, vi 17, vi 19, vi 10, vi 22, vi 12, vi 13, vi 14, vi 23, vi 16, vi 20, vi 18, vi 21, vi 3, vi 2, vi 1, vi 0]), (1410, .map [⟨vi 0, vi 1, 0⟩, ⟨vi 1, vi 1, 1⟩, ⟨vi 2, vi 1, 2⟩, ⟨vi 3, vi 1, 3⟩] 4), (1411, mc 218 [vi 2, vi 8, vi 24, vi 2, vp 1361 0, vs 1419 0 2 openCap, (.map (some 1410))]), (1412, .map [] 0), (1413, mc 300 [vi 8, vp 1361 0, (.map (some 1412))]), (1416, .map [⟨va [vn 0, vn 0], vp 2098 0, 0⟩, ⟨va [vi 0, vn 0], vp 2300 0, 1⟩] 2), (1417, mc 300 [vi 8, vp 1361 0, (.map (some 1416))]), (1419, mo 219 [vp 1413 0, vp 1417 0]), (1420, mc 3 [vi 0, vi 1]), (1421, mc 223 [vs 1420 0 2 2]), (1422, mc 246 [pn, pn]), (1423, mc 226 [vs 1422 0 2 2]), (1424, mc 183 [pn, vp 2184 0]), (1425, .map [⟨vi 3, vi 1, 0⟩] 1), (1426, mc 230 [vi 0, vs 2330 0 1 openCap]), (1427, mc 101 [vp 1411 0, vp 1423 0, vp 1421 0, vp 1426 0, vs 1424 0 2 2, (.map (some 1425)), vi 4]), (1428, mc 123 [vp 1427 0, vs 1446 0 2 openCap, vs 1879 0 3 openCap, vs 1882 0 2 openCap, vs 1883 0 2 openCap, vi 17, vi 2, vs 1447 0 5 5]), (1431, mc 182 [sn]), (1432, mc 156 [vp 1431 0, vn 0, vi 2]), (1433, mc 92 [vp 1427 0, vi 0, vi 1, vs 1852 0 1 openCap, vs 1833 0 2 openCap, vp 1432 0, pn]), (1434, mo 66 [vi 1, vn 0, vn 0, vi 0, vi 0, vi 0, vi 9, vi 0, vn 0, vi 6, vi 0, vi 0]), (1435, mc 126 [vp 1433 0, vp 1428 0, vi 0, vs 1434 0 2 openCap, vi 2, vi 0, vf]), (1440, mc 182 [sn]), (1441, mc 156 [vp 1440 0, vn 1, vi 2]), (1442, mc 92 [vp 1427 0, vi 1, vi 2, sn, vs 2128 0 1 openCap, vp 1441 0, vp 1889 0]), (1443, mo 66 [vi 1, vn 0, vn 0, vi 0, vi 0, vi 0, vi 9, vi 0, vn 0, vi 3, vi 0, vi 3]), (1444, mc 126 [vp 1442 0, vp 1428 0, vi 1, vs 1443 0 2 openCap, vi 2, vi 1, vf]), (1446, mo 124 [vp 1435 0, vp 1444 0]), (1447, mc 78 [.nilFunc, .func (.func 69) ⟨[vp 1428 0]⟩ ⟨[]⟩, .func (.func 70) ⟨[vp 1428 0]⟩ ⟨[]⟩, .func (.func 71) ⟨[vp 1428 0]⟩ ⟨[]⟩, .func (.func 72) ⟨[vp 1428 0]⟩ ⟨[]⟩]), (1833, mo 48 [vi 1, vn 0, vn 0, vi 2, vi 1, vi 0, vn 0, vi 6]), (1852, mo 48 [vi 1, vi 0, vn 0, vi 6]), (1879, mo 64 [vi 0, vi 0, vt, vi 1, vi 1, vi 0, vn 0, vi 6, vi 0, vi 0, vi 0, vf, vi 0, vi 0, vi 0, vi 0, vi 0, vi 1, vi 1, vi 1, vt, vi 1, vi 2, vi 0, vn 0, vi 3, vi 0]), (1882, mo 3 [vi 6, vn 0]), (1883, mo 3 [vi 1, vi 0]), (1889, mc 111 [vs 1939 0 1 openCap, sn, vi 1, vi 2, vi 0, vn 0, vi 3, vi 0, vi 3, vi 1, vi 2, vi 0, vn 0, vi 3, vi 3, vi 0, vi 0, .func (.func 50) ⟨[vp 1442 0]⟩ ⟨[]⟩, .func (.func 51) ⟨[vp 1442 0]⟩ ⟨[]⟩, vt, vi 0]), (1939, mo 167 [vi 0, vn 0, vi 3, vi 0, vi 0, vi 0]), (2098, mc 161 [vn 0, vn 0, vs 2104 0 2 openCap, vi 0]), (2104, mo 163 [vi 0, vi 1, vi 2, vi 2, vi 0, vi 2, vi 2, vi 1, vi 1, vi 0]), (2128, mo 48 [vi 2, vn 0, vn 0, vi 1]), (2184, mc 185 [vi 1, vi 2, vi 0, vn 0, vi 3, vi 3, vi 0, vp 1427 0, vi 1, vi 3, vi 1, .func (.func 221) ⟨[vp 2184 0]⟩ ⟨[]⟩, vi 1, vt, vi 3, vi 0, vi 0, vf, sn]), (2300, mc 161 [vi 0, vn 0, vs 2306 0 2 openCap, vi 1]), (2306, mo 163 [vi 1, vi 1, vi 6, vi 6, vi 0, vi 3, vi 2, vi 0, vi 3, vi 1]), (2330, mo 351 [vi 3, vi 1, vi 3])], vt, [(1420, mc 3 [vi 0, vi 0]), (1426, mc 230 [vi 3, vs 2330 0 0 openCap]), (1428, mc 123 [vp 1427 0, vs 1446 0 2 openCap, vs 1879 0 3 openCap, vs 1882 0 2 openCap, vs 1883 0 2 openCap, vi 18, vi 2, vs 1447 0 5 5]), (2184, mc 185 [vi 1, vi 2, vi 0, vn 0, vi 3, vi 3, vi 0, vp 1427 0, vi 1, vi 3, vi 1, .func (.func 221) ⟨[vp 2184 0]⟩ ⟨[]⟩, vi 1, vt, vi 3, vi 2, vi 0, vf, sn])], 2355⟩
set_option maxRecDepth 100000 in
theorem r56 : (e56.fitB && e56.runB (prTab false prB cutF []) Tryz.prog 100000) = true := by decide +kernel
theorem k56 : e56.Fit ∧ EntOk Tryz.prog e56 := Ent.both mixedHere (prTab_ok yes_not prB_ok (okNil)) r56

set_option maxRecDepth 100000 in
def e57 : Ent := ⟨31, 2355, [vp 1428 0, va [vi 4, vi 0]], turned [] (turned (e56.d.map fun p => (p.1, some p.2)) e56.bl), vf, [(1428, mc 123 [vp 1427 0, vs 1446 0 2 openCap, vs 1879 0 3 openCap, vs 1882 0 2 openCap, vs 1883 0 2 openCap, vi 19, vi 2, vs 1447 0 5 5])], 2477⟩
set_option maxRecDepth 100000 in
theorem r57 : (e57.fitB && e57.runB (prTab false prB cutF []) Tryz.prog 100000) = true := by decide +kernel
theorem k57 : e57.Fit ∧ EntOk Tryz.prog e57 := Ent.both mixedHere (prTab_ok yes_not prB_ok (okNil)) r57

set_option maxRecDepth 100000 in
def e58 : Ent := ⟨31, 2477, [vp 1428 0, va [vi 9, vi 0]], turned [] (turned (e57.d.map fun p => (p.1, some p.2)) e57.bl), vf, [(1428, mc 123 [vp 1427 0, vs 1446 0 2 openCap, vs 1879 0 3 openCap, vs 1882 0 2 openCap, vs 1883 0 2 openCap, vi 20, vi 2, vs 1447 0 5 5])], 2478⟩
set_option maxRecDepth 100000 in
theorem r58 : (e58.fitB && e58.runB (prTab false prB cutF []) Tryz.prog 100000) = true := by decide +kernel
theorem k58 : e58.Fit ∧ EntOk Tryz.prog e58 := Ent.both mixedHere (prTab_ok yes_not prB_ok (okNil)) r58

set_option maxRecDepth 100000 in
def e59 : Ent := ⟨30, 2478, [va [sn, sn, vi 0, vi 0, vi 0, vi 0]], [], vv [pn, vi 2], [], 2480⟩
set_option maxRecDepth 100000 in
theorem r59 : (e59.fitB && e59.runB (prTab false prB cutF []) Tryz.prog 100000) = true := by decide +kernel
theorem k59 : e59.Fit ∧ EntOk Tryz.prog e59 := Ent.both mixedHere (prTab_ok yes_not prB_ok (okNil)) r59

set_option maxRecDepth 100000 in
def e60 : Ent := ⟨31, 2480, [pn, va [vi 1, vi 0]], [], vf, [], 2481⟩
set_option maxRecDepth 100000 in
theorem r60 : (e60.fitB && e60.runB (prTab false prB cutF []) Tryz.prog 100000) = true := by decide +kernel
theorem k60 : e60.Fit ∧ EntOk Tryz.prog e60 := Ent.both mixedHere (prTab_ok yes_not prB_ok (okNil)) r60

end Go.Proofs
