/-
  PROVED HERE: calls of the run, one by one: what each answers, and which blocks it leaves otherwise.
-/
import Derived.Test.YtbkplkoconncnaaGreatDoorMEn0
set_option linter.unusedVariables false
set_option linter.unusedSimpArgs false
namespace Go.Proofs
open Go.Vai

set_option maxRecDepth 100000 in
def e40 : Ent := ⟨31, 1456, [vp 1428 0, va [vi 1, vi 0]], [(1360, mc 4 [vf, vf, vf, vf, vf, vf, vf, vf, vf, vf, vf, vf, vf, vf, vf, vf, vf, vf, vf, vf, vf, vf, vf, vf]), (1361, mc 295 [vs 1409 0 24 openCap, vs 1360 0 24 24]), (1409, mo 3 [vi 0, vi 1, vi 2, vi 3, vi 4, vi 5, vi 6, vi 7, vi 8, vi 9, vi 10, vi 11, vi 12, vi 13, vi 14, vi 15, vi 16, vi 17, vi 18, vi 19, vi 20, vi 21, vi 22, vi 23]), (1410, .map [] 0), (1411, mc 218 [vi 2, vi 8, vi 24, vi 2, vp 1361 0, vs 1419 0 2 openCap, (.map (some 1410))]), (1412, .map [] 0), (1413, mc 300 [vi 8, vp 1361 0, (.map (some 1412))]), (1416, .map [] 0), (1417, mc 300 [vi 8, vp 1361 0, (.map (some 1416))]), (1419, mo 219 [vp 1413 0, vp 1417 0]), (1420, mc 3 [vi 0, vi 0]), (1421, mc 223 [vs 1420 0 2 2]), (1422, mc 246 [pn, pn]), (1423, mc 226 [vs 1422 0 2 2]), (1424, mc 183 [pn, pn]), (1425, .map [] 0), (1426, mc 230 [vi 0, sn]), (1427, mc 101 [vp 1411 0, vp 1423 0, vp 1421 0, vp 1426 0, vs 1424 0 2 2, (.map (some 1425)), vi 0]), (1428, mc 123 [vp 1427 0, vs 1446 0 2 openCap, sn, sn, sn, vi 1, vi 1, vs 1447 0 5 5]), (1431, mc 182 [sn]), (1432, mc 156 [vp 1431 0, vn 0, vi 2]), (1433, mc 92 [vp 1427 0, vi 0, vi 1, sn, sn, vp 1432 0, pn]), (1434, mo 66 [vi 1, vn 0, vn 0, vi 0, vi 0, vi 0, vi 9, vi 0, vn 0, vi 6, vi 0, vi 0]), (1435, mc 126 [vp 1433 0, vp 1428 0, vi 0, vs 1434 0 2 openCap, vi 1, vi 0, vf]), (1440, mc 182 [sn]), (1441, mc 156 [vp 1440 0, vn 1, vi 2]), (1442, mc 92 [vp 1427 0, vi 1, vi 0, sn, sn, vp 1441 0, pn]), (1443, mo 66 [vi 1, vn 0, vn 0, vi 0, vi 0, vi 0, vi 9, vi 0, vn 0, vi 3, vi 0, vi 3]), (1444, mc 126 [vp 1442 0, vp 1428 0, vi 1, vs 1443 0 2 openCap, vi 0, vi 0, vf]), (1446, mo 124 [vp 1435 0, vp 1444 0]), (1447, mc 78 [.nilFunc, .func (.func 69) ⟨[vp 1428 0]⟩ ⟨[]⟩, .func (.func 70) ⟨[vp 1428 0]⟩ ⟨[]⟩, .func (.func 71) ⟨[vp 1428 0]⟩ ⟨[]⟩, .func (.func 72) ⟨[vp 1428 0]⟩ ⟨[]⟩])], vt, [(1424, mc 183 [vp 1570 0, pn]), (1427, mc 101 [vp 1411 0, vp 1423 0, vp 1421 0, vp 1426 0, vs 1424 0 2 2, (.map (some 1425)), vi 1]), (1428, mc 123 [vp 1427 0, vs 1446 0 2 openCap, vs 1466 0 1 openCap, vs 1469 0 1 openCap, vs 1470 0 1 openCap, vi 2, vi 1, vs 1447 0 5 5]), (1433, mc 92 [vp 1427 0, vi 0, vi 1, sn, sn, vp 1432 0, vp 1476 0]), (1435, mc 126 [vp 1433 0, vp 1428 0, vi 0, vs 1434 0 2 openCap, vi 2, vi 0, vf]), (1466, mo 64 [vi 0, vi 0, vt, vi 1, vi 1, vi 0, vn 0, vi 6, vi 0]), (1469, mo 3 [vn 0]), (1470, mo 3 [vi 0]), (1476, mc 111 [vs 1526 0 2 openCap, sn, vi 1, vi 1, vi 0, vn 0, vi 6, vi 0, vi 0, vi 1, vi 1, vn 0, vn 0, vi 2, vi 0, vi 0, vi 0, .func (.func 50) ⟨[vp 1433 0]⟩ ⟨[]⟩, .func (.func 51) ⟨[vp 1433 0]⟩ ⟨[]⟩, vf, vi 0]), (1526, mo 167 [vn 0, vn 0, vi 2, vi 0, vn 0, vi 6]), (1570, mc 185 [vi 1, vi 1, vn 0, vn 0, vi 2, vi 0, vi 0, vp 1427 0, vi 0, vi 0, vi 1, .func (.func 221) ⟨[vp 1570 0]⟩ ⟨[]⟩, vi 1, vf, vi 0, vi 0, vi 0, vf, sn])], 1571⟩
set_option maxRecDepth 100000 in
theorem r40 : (e40.fitB && e40.runB (prTab false prB cutF []) Tryz.prog 100000) = true := by decide +kernel
theorem k40 : e40.Fit ∧ EntOk Tryz.prog e40 := Ent.both mixedHere (prTab_ok yes_not prB_ok (okNil)) r40

set_option maxRecDepth 100000 in
def e41 : Ent := ⟨31, 1571, [vp 1428 0, va [vi 1, vi 0]], turned [] (turned (e40.d.map fun p => (p.1, some p.2)) e40.bl), vt, [(1422, mc 246 [pn, vp 1576 0]), (1428, mc 123 [vp 1427 0, vs 1446 0 2 openCap, vs 1466 0 1 openCap, vs 1469 0 1 openCap, vs 1470 0 1 openCap, vi 3, vi 1, vs 1447 0 5 5]), (1570, mc 185 [vi 1, vi 1, vn 0, vn 0, vi 2, vi 0, vi 0, vp 1427 0, vi 0, vi 0, vi 1, .func (.func 255) ⟨[vp 1570 0]⟩ ⟨[]⟩, vi 2, vf, vi 0, vi 0, vi 0, vf, sn]), (1576, mc 248 [vi 0])], 1577⟩
set_option maxRecDepth 100000 in
theorem r41 : (e41.fitB && e41.runB (prTab false prB cutF []) Tryz.prog 100000) = true := by decide +kernel
theorem k41 : e41.Fit ∧ EntOk Tryz.prog e41 := Ent.both mixedHere (prTab_ok yes_not prB_ok (okNil)) r41

set_option maxRecDepth 100000 in
def e42 : Ent := ⟨31, 1577, [vp 1428 0, va [vi 1, vi 0]], turned [] (turned (e41.d.map fun p => (p.1, some p.2)) e41.bl), vt, [(1360, mc 4 [vt, vf, vf, vf, vf, vf, vf, vf, vf, vf, vf, vf, vf, vf, vf, vf, vf, vf, vf, vf, vf, vf, vf, vf]), (1361, mc 295 [vs 1409 0 23 openCap, vs 1360 0 24 24]), (1409, mo 3 [vi 1, vi 3, vi 2, vi 7, vi 4, vi 5, vi 6, vi 15, vi 8, vi 9, vi 10, vi 11, vi 12, vi 13, vi 14, vi 23, vi 16, vi 17, vi 18, vi 19, vi 20, vi 21, vi 22, vi 0]), (1410, .map [⟨vi 0, vi 1, 0⟩] 1), (1416, .map [⟨va [vn 0, vn 0], vp 1640 0, 0⟩] 1), (1428, mc 123 [vp 1427 0, vs 1446 0 2 openCap, vs 1466 0 1 openCap, vs 1469 0 1 openCap, vs 1470 0 1 openCap, vi 4, vi 1, vs 1447 0 5 5]), (1570, mc 185 [vi 1, vi 1, vn 0, vn 0, vi 2, vi 0, vi 0, vp 1427 0, vi 0, vi 0, vi 1, .func (.func 275) ⟨[vp 1570 0]⟩ ⟨[]⟩, vi 3, vf, vi 0, vi 0, vi 1, vf, sn]), (1640, mc 161 [vn 0, vn 0, vs 1646 0 1 openCap, vi 0]), (1646, mo 163 [vi 0, vi 1, vi 2, vi 2, vi 0])], 1655⟩
set_option maxRecDepth 100000 in
theorem r42 : (e42.fitB && e42.runB (prTab false prB cutF []) Tryz.prog 100000) = true := by decide +kernel
theorem k42 : e42.Fit ∧ EntOk Tryz.prog e42 := Ent.both mixedHere (prTab_ok yes_not prB_ok (okNil)) r42

set_option maxRecDepth 100000 in
def e43 : Ent := ⟨31, 1655, [vp 1428 0, va [vi 1, vi 0]], turned [] (turned (e42.d.map fun p => (p.1, some p.2)) e42.bl), vt, [(1422, mc 246 [pn, pn]), (1424, mc 183 [vp 1720 0, pn]), (1427, mc 101 [vp 1411 0, vp 1423 0, vp 1421 0, vp 1426 0, vs 1424 0 2 2, (.map (some 1425)), vi 2]), (1428, mc 123 [vp 1427 0, vs 1446 0 2 openCap, vs 1466 0 1 openCap, vs 1469 0 1 openCap, vs 1470 0 1 openCap, vi 5, vi 1, vs 1447 0 5 5]), (1433, mc 92 [vp 1427 0, vi 0, vi 1, sn, vs 1664 0 1 openCap, vp 1432 0, vp 1476 0]), (1476, mc 111 [vs 1526 0 1 openCap, sn, vi 1, vi 1, vi 0, vn 0, vi 6, vi 0, vi 0, vi 1, vi 1, vi 0, vn 0, vi 6, vi 0, vi 0, vi 0, .func (.func 50) ⟨[vp 1433 0]⟩ ⟨[]⟩, .func (.func 51) ⟨[vp 1433 0]⟩ ⟨[]⟩, vt, vi 0]), (1526, mo 167 [vi 0, vn 0, vi 6, vi 0, vi 0, vi 0]), (1570, mc 185 [vi 1, vi 1, vn 0, vn 0, vi 2, vi 0, vi 0, vp 1427 0, vi 0, vi 0, vi 1, .func (.func 275) ⟨[vp 1570 0]⟩ ⟨[]⟩, vi 3, vf, vi 0, vi 0, vi 1, vt, sn]), (1664, mo 48 [vi 1, vn 0, vn 0, vi 2]), (1720, mc 185 [vi 1, vi 1, vi 0, vn 0, vi 6, vi 0, vi 0, vp 1427 0, vi 0, vi 1, vi 1, .func (.func 221) ⟨[vp 1720 0]⟩ ⟨[]⟩, vi 1, vf, vi 0, vi 0, vi 0, vf, sn])], 1721⟩
set_option maxRecDepth 100000 in
theorem r43 : (e43.fitB && e43.runB (prTab false prB cutF []) Tryz.prog 100000) = true := by decide +kernel
theorem k43 : e43.Fit ∧ EntOk Tryz.prog e43 := Ent.both mixedHere (prTab_ok yes_not prB_ok (okNil)) r43

set_option maxRecDepth 100000 in
def e44 : Ent := ⟨31, 1721, [vp 1428 0, va [vi 1, vi 0]], turned [(1570, none), (1576, none)] (turned (e43.d.map fun p => (p.1, some p.2)) e43.bl), vt, [(1422, mc 246 [pn, vp 1726 0]), (1428, mc 123 [vp 1427 0, vs 1446 0 2 openCap, vs 1466 0 1 openCap, vs 1469 0 1 openCap, vs 1470 0 1 openCap, vi 6, vi 1, vs 1447 0 5 5]), (1720, mc 185 [vi 1, vi 1, vi 0, vn 0, vi 6, vi 0, vi 0, vp 1427 0, vi 0, vi 1, vi 1, .func (.func 255) ⟨[vp 1720 0]⟩ ⟨[]⟩, vi 2, vf, vi 0, vi 0, vi 0, vf, sn]), (1726, mc 248 [vi 0])], 1727⟩
set_option maxRecDepth 100000 in
theorem r44 : (e44.fitB && e44.runB (prTab false prB cutF []) Tryz.prog 100000) = true := by decide +kernel
theorem k44 : e44.Fit ∧ EntOk Tryz.prog e44 := Ent.both mixedHere (prTab_ok yes_not prB_ok (okNil)) r44

set_option maxRecDepth 100000 in
def e45 : Ent := ⟨31, 1727, [vp 1428 0, va [vi 1, vi 0]], turned [] (turned (e44.d.map fun p => (p.1, some p.2)) e44.bl), vt, [(1360, mc 4 [vt, vt, vf, vf, vf, vf, vf, vf, vf, vf, vf, vf, vf, vf, vf, vf, vf, vf, vf, vf, vf, vf, vf, vf]), (1361, mc 295 [vs 1409 0 22 openCap, vs 1360 0 24 24]), (1409, mo 3 [vi 2, vi 3, vi 5, vi 7, vi 4, vi 11, vi 6, vi 15, vi 8, vi 9, vi 10, vi 22, vi 12, vi 13, vi 14, vi 23, vi 16, vi 17, vi 18, vi 19, vi 20, vi 21, vi 1, vi 0]), (1410, .map [⟨vi 0, vi 1, 0⟩, ⟨vi 1, vi 1, 1⟩] 2), (1416, .map [⟨va [vn 0, vn 0], vp 1640 0, 0⟩, ⟨va [vi 0, vn 0], vp 1802 0, 1⟩] 2), (1428, mc 123 [vp 1427 0, vs 1446 0 2 openCap, vs 1466 0 1 openCap, vs 1469 0 1 openCap, vs 1470 0 1 openCap, vi 7, vi 1, vs 1447 0 5 5]), (1469, mo 3 [vi 6]), (1470, mo 3 [vi 1]), (1720, mc 185 [vi 1, vi 1, vi 0, vn 0, vi 6, vi 0, vi 0, vp 1427 0, vi 0, vi 1, vi 1, .func (.func 275) ⟨[vp 1720 0]⟩ ⟨[]⟩, vi 3, vf, vi 0, vi 0, vi 1, vf, sn]), (1802, mc 161 [vi 0, vn 0, vs 1808 0 1 openCap, vi 0]), (1808, mo 163 [vi 1, vi 1, vi 6, vi 6, vi 0])], 1817⟩
set_option maxRecDepth 100000 in
theorem r45 : (e45.fitB && e45.runB (prTab false prB cutF []) Tryz.prog 100000) = true := by decide +kernel
theorem k45 : e45.Fit ∧ EntOk Tryz.prog e45 := Ent.both mixedHere (prTab_ok yes_not prB_ok (okNil)) r45

set_option maxRecDepth 100000 in
def e46 : Ent := ⟨31, 1817, [vp 1428 0, va [vi 1, vi 0]], turned [] (turned (e45.d.map fun p => (p.1, some p.2)) e45.bl), vt, [(1422, mc 246 [pn, pn]), (1424, mc 183 [pn, pn]), (1428, mc 123 [vp 1427 0, vs 1446 0 2 openCap, vs 1854 0 2 openCap, vs 1469 0 1 openCap, vs 1470 0 1 openCap, vi 8, vi 1, vs 1447 0 5 5]), (1433, mc 92 [vp 1427 0, vi 0, vi 1, vs 1852 0 1 openCap, vs 1833 0 2 openCap, vp 1432 0, pn]), (1466, (.dead 9 64)), (1476, mc 111 [vs 1526 0 0 openCap, sn, vi 1, vi 1, vi 0, vn 0, vi 6, vi 0, vi 0, vi 1, vi 1, vi 0, vn 0, vi 6, vi 0, vi 0, vi 0, .func (.func 50) ⟨[vp 1433 0]⟩ ⟨[]⟩, .func (.func 51) ⟨[vp 1433 0]⟩ ⟨[]⟩, vt, vi 1]), (1526, mo 167 [vi 0, vi 0, vi 0, vi 0, vi 0, vi 0]), (1720, mc 185 [vi 1, vi 1, vi 0, vn 0, vi 6, vi 0, vi 0, vp 1427 0, vi 0, vi 1, vi 1, .func (.func 275) ⟨[vp 1720 0]⟩ ⟨[]⟩, vi 3, vf, vi 0, vi 0, vi 1, vt, sn]), (1833, mo 48 [vi 1, vn 0, vn 0, vi 2, vi 1, vi 0, vn 0, vi 6]), (1852, mo 48 [vi 1, vi 0, vn 0, vi 6]), (1854, mo 64 [vi 0, vi 0, vt, vi 1, vi 1, vi 0, vn 0, vi 6, vi 0, vi 0, vi 0, vf, vi 0, vi 0, vi 0, vi 0, vi 0, vi 1])], 1855⟩
set_option maxRecDepth 100000 in
theorem r46 : (e46.fitB && e46.runB (prTab false prB cutF []) Tryz.prog 100000) = true := by decide +kernel
theorem k46 : e46.Fit ∧ EntOk Tryz.prog e46 := Ent.both mixedHere (prTab_ok yes_not prB_ok (okNil)) r46

set_option maxRecDepth 100000 in
def e47 : Ent := ⟨31, 1861, [vp 1428 0, va [vi 1, vi 1]], turned [(1466, none), (1476, none), (1526, none), (1664, none), (1720, none), (1726, none)] (turned (e46.d.map fun p => (p.1, some p.2)) e46.bl), vt, [(1428, mc 123 [vp 1427 0, vs 1446 0 2 openCap, vs 1854 0 2 openCap, vs 1469 0 1 openCap, vs 1470 0 1 openCap, vi 9, vi 2, vs 1447 0 5 5]), (1442, mc 92 [vp 1427 0, vi 1, vi 2, sn, sn, vp 1441 0, pn]), (1444, mc 126 [vp 1442 0, vp 1428 0, vi 1, vs 1443 0 2 openCap, vi 1, vi 0, vf])], 1869⟩
set_option maxRecDepth 100000 in
theorem r47 : (e47.fitB && e47.runB (prTab false prB cutF []) Tryz.prog 100000) = true := by decide +kernel
theorem k47 : e47.Fit ∧ EntOk Tryz.prog e47 := Ent.both mixedHere (prTab_ok yes_not prB_ok (okNil)) r47

end Go.Proofs
