/-
  PROVED HERE: calls of the run, one by one: what each answers, and which blocks it leaves otherwise.
-/
import Derived.Test.YtbkplkoconncnaaGreatDoorMEn0
set_option linter.unusedVariables false
set_option linter.unusedSimpArgs false
namespace Go.Proofs
open Go.Vai

set_option maxRecDepth 100000 in
def e32 : Ent := ⟨31, 1304, [vp 619 0, va [vi 1, vi 0]], [(551, mc 4 [vt, vf, vf, vf, vf, vf, vf, vf, vf, vf, vf, vf, vf, vf, vf, vf, vf, vf, vf, vf, vf, vf, vf, vf]), (552, mc 295 [vs 600 0 23 openCap, vs 551 0 24 24]), (600, mo 3 [vi 1, vi 2, vi 5, vi 7, vi 3, vi 11, vi 6, vi 15, vi 8, vi 9, vi 4, vi 22, vi 12, vi 13, vi 14, vi 23, vi 16, vi 17, vi 18, vi 19, vi 20, vi 21, vi 10, vi 0]), (601, .map [⟨vi 0, vi 1, 0⟩, ⟨vi 1, vi 1, 1⟩] 2), (602, mc 218 [vi 2, vi 8, vi 24, vi 2, vp 552 0, vs 610 0 2 openCap, (.map (some 601))]), (603, .map [] 0), (604, mc 300 [vi 8, vp 552 0, (.map (some 603))]), (607, .map [⟨va [vn 0, vn 0], vp 1247 0, 0⟩] 2), (608, mc 300 [vi 8, vp 552 0, (.map (some 607))]), (610, mo 219 [vp 604 0, vp 608 0]), (611, mc 3 [vi 0]), (612, mc 223 [vs 611 0 1 1]), (613, mc 246 [pn, pn]), (614, mc 226 [vs 613 0 2 2]), (615, mc 183 [pn]), (616, .map [] 0), (617, mc 230 [vi 0, sn]), (618, mc 101 [vp 602 0, vp 614 0, vp 612 0, vp 617 0, vs 615 0 1 1, (.map (some 616)), vi 4]), (619, mc 123 [vp 618 0, vs 628 0 1 openCap, vs 1284 0 4 openCap, vs 1039 0 2 openCap, vs 1040 0 2 openCap, vi 24, vi 1, vs 629 0 5 5]), (622, mc 182 [vs 1282 0 1 openCap]), (623, mc 156 [vp 622 0, vn 0, vi 2]), (624, mc 92 [vp 618 0, vi 0, vi 0, sn, sn, vp 623 0, pn]), (625, mo 66 [vi 1, vn 0, vn 0, vi 0, vi 0, vi 0, vi 9, vi 0, vn 0, vi 6, vi 0, vi 0]), (626, mc 126 [vp 624 0, vp 619 0, vi 0, vs 625 0 2 openCap, vi 2, vi 1, vf]), (628, mo 124 [vp 626 0]), (629, mc 78 [.nilFunc, .func (.func 69) ⟨[vp 619 0]⟩ ⟨[]⟩, .func (.func 70) ⟨[vp 619 0]⟩ ⟨[]⟩, .func (.func 71) ⟨[vp 619 0]⟩ ⟨[]⟩, .func (.func 72) ⟨[vp 619 0]⟩ ⟨[]⟩]), (1039, mo 3 [vi 6, vi 10]), (1040, mo 3 [vi 1, vi 1]), (1247, mc 161 [vn 0, vn 0, vs 1253 0 1 openCap, vi 0]), (1253, mo 163 [vi 0, vn 0, vi 2, vi 2, vi 0]), (1282, mo 48 [vn 0, vn 0, vn 0, vi 2]), (1284, mo 64 [vi 0, vi 0, vt, vi 1, vi 1, vi 0, vn 0, vi 6, vi 0, vi 0, vi 0, vf, vi 0, vi 0, vi 0, vi 0, vi 0, vi 1, vi 1, vi 0, vt, vi 3, vi 1, vi 0, vi 0, vi 0, vi 0, vi 1, vi 0, vf, vi 0, vi 0, vi 0, vi 0, vi 0, vi 1])], vf, [(619, mc 123 [vp 618 0, vs 628 0 1 openCap, vs 1284 0 4 openCap, vs 1039 0 2 openCap, vs 1040 0 2 openCap, vi 25, vi 1, vs 629 0 5 5])], 1305⟩
set_option maxRecDepth 100000 in
theorem r32 : (e32.fitB && e32.runB (prTab false prB cutF []) Tryz.prog 100000) = true := by decide +kernel
theorem k32 : e32.Fit ∧ EntOk Tryz.prog e32 := Ent.both mixedHere (prTab_ok yes_not prB_ok (okNil)) r32

set_option maxRecDepth 100000 in
def e33 : Ent := ⟨31, 1306, [vp 619 0, va [vi 1, vi 0]], turned [] (turned (e32.d.map fun p => (p.1, some p.2)) e32.bl), vf, [(619, mc 123 [vp 618 0, vs 628 0 1 openCap, vs 1284 0 4 openCap, vs 1039 0 2 openCap, vs 1040 0 2 openCap, vi 26, vi 1, vs 629 0 5 5])], 1307⟩
set_option maxRecDepth 100000 in
theorem r33 : (e33.fitB && e33.runB (prTab false prB cutF []) Tryz.prog 100000) = true := by decide +kernel
theorem k33 : e33.Fit ∧ EntOk Tryz.prog e33 := Ent.both mixedHere (prTab_ok yes_not prB_ok (okNil)) r33

set_option maxRecDepth 100000 in
def e34 : Ent := ⟨31, 1308, [vp 619 0, va [vi 1, vi 0]], turned [] (turned (e33.d.map fun p => (p.1, some p.2)) e33.bl), vf, [(619, mc 123 [vp 618 0, vs 628 0 1 openCap, vs 1284 0 4 openCap, vs 1039 0 2 openCap, vs 1040 0 2 openCap, vi 27, vi 1, vs 629 0 5 5])], 1309⟩
set_option maxRecDepth 100000 in
theorem r34 : (e34.fitB && e34.runB (prTab false prB cutF []) Tryz.prog 100000) = true := by decide +kernel
theorem k34 : e34.Fit ∧ EntOk Tryz.prog e34 := Ent.both mixedHere (prTab_ok yes_not prB_ok (okNil)) r34

set_option maxRecDepth 100000 in
def e35 : Ent := ⟨31, 1310, [vp 619 0, va [vi 1, vi 0]], turned [] (turned (e34.d.map fun p => (p.1, some p.2)) e34.bl), vf, [(619, mc 123 [vp 618 0, vs 628 0 1 openCap, vs 1284 0 4 openCap, vs 1039 0 2 openCap, vs 1040 0 2 openCap, vi 28, vi 1, vs 629 0 5 5])], 1311⟩
set_option maxRecDepth 100000 in
theorem r35 : (e35.fitB && e35.runB (prTab false prB cutF []) Tryz.prog 100000) = true := by decide +kernel
theorem k35 : e35.Fit ∧ EntOk Tryz.prog e35 := Ent.both mixedHere (prTab_ok yes_not prB_ok (okNil)) r35

set_option maxRecDepth 100000 in
def e36 : Ent := ⟨31, 1312, [vp 619 0, va [vi 1, vi 0]], turned [] (turned (e35.d.map fun p => (p.1, some p.2)) e35.bl), vf, [(619, mc 123 [vp 618 0, vs 628 0 1 openCap, vs 1284 0 4 openCap, vs 1039 0 2 openCap, vs 1040 0 2 openCap, vi 29, vi 1, vs 629 0 5 5])], 1313⟩
set_option maxRecDepth 100000 in
theorem r36 : (e36.fitB && e36.runB (prTab false prB cutF []) Tryz.prog 100000) = true := by decide +kernel
theorem k36 : e36.Fit ∧ EntOk Tryz.prog e36 := Ent.both mixedHere (prTab_ok yes_not prB_ok (okNil)) r36

set_option maxRecDepth 100000 in
def e37 : Ent := ⟨31, 1314, [vp 619 0, va [vi 1, vi 0]], turned [] (turned (e36.d.map fun p => (p.1, some p.2)) e36.bl), vf, [(619, mc 123 [vp 618 0, vs 628 0 1 openCap, vs 1284 0 4 openCap, vs 1039 0 2 openCap, vs 1040 0 2 openCap, vi 30, vi 1, vs 629 0 5 5])], 1315⟩
set_option maxRecDepth 100000 in
theorem r37 : (e37.fitB && e37.runB (prTab false prB cutF []) Tryz.prog 100000) = true := by decide +kernel
theorem k37 : e37.Fit ∧ EntOk Tryz.prog e37 := Ent.both mixedHere (prTab_ok yes_not prB_ok (okNil)) r37

set_option maxRecDepth 100000 in
def e38 : Ent := ⟨30, 1339, [va [vs 1338 0 2 openCap, sn, vi 2, vi 8, vi 24, vi 2]], [(1327, mc 66 [vi 1, vn 0, vn 0, vi 0, vi 0, vi 0, vi 9, vi 0, vn 0, vi 6, vi 0, vi 0]), (1336, mc 66 [vi 1, vn 0, vn 0, vi 0, vi 0, vi 0, vi 9, vi 0, vn 0, vi 3, vi 0, vi 3]), (1338, mo 69 [vs 1327 0 2 2, vs 1336 0 2 2])], vv [vp 1428 0, vi 0], [(1360, mc 4 [vf, vf, vf, vf, vf, vf, vf, vf, vf, vf, vf, vf, vf, vf, vf, vf, vf, vf, vf, vf, vf, vf, vf, vf]), (1361, mc 295 [vs 1409 0 24 openCap, vs 1360 0 24 24]), (1409, mo 3 [vi 0, vi 1, vi 2, vi 3, vi 4, vi 5, vi 6, vi 7, vi 8, vi 9, vi 10, vi 11, vi 12, vi 13, vi 14, vi 15, vi 16, vi 17, vi 18, vi 19, vi 20, vi 21, vi 22, vi 23]), (1410, .map [] 0), (1411, mc 218 [vi 2, vi 8, vi 24, vi 2, vp 1361 0, vs 1419 0 2 openCap, (.map (some 1410))]), (1412, .map [] 0), (1413, mc 300 [vi 8, vp 1361 0, (.map (some 1412))]), (1416, .map [] 0), (1417, mc 300 [vi 8, vp 1361 0, (.map (some 1416))]), (1419, mo 219 [vp 1413 0, vp 1417 0]), (1420, mc 3 [vi 0, vi 0]), (1421, mc 223 [vs 1420 0 2 2]), (1422, mc 246 [pn, pn]), (1423, mc 226 [vs 1422 0 2 2]), (1424, mc 183 [pn, pn]), (1425, .map [] 0), (1426, mc 230 [vi 0, sn]), (1427, mc 101 [vp 1411 0, vp 1423 0, vp 1421 0, vp 1426 0, vs 1424 0 2 2, (.map (some 1425)), vi 0]), (1428, mc 123 [vp 1427 0, vs 1446 0 2 openCap, sn, sn, sn, vi 0, vi 0, vs 1447 0 5 5]), (1431, mc 182 [sn]), (1432, mc 156 [vp 1431 0, vn 0, vi 2]), (1433, mc 92 [vp 1427 0, vi 0, vi 0, sn, sn, vp 1432 0, pn]), (1434, mo 66 [vi 1, vn 0, vn 0, vi 0, vi 0, vi 0, vi 9, vi 0, vn 0, vi 6, vi 0, vi 0]), (1435, mc 126 [vp 1433 0, vp 1428 0, vi 0, vs 1434 0 2 openCap, vi 0, vi 0, vf]), (1440, mc 182 [sn]), (1441, mc 156 [vp 1440 0, vn 1, vi 2]), (1442, mc 92 [vp 1427 0, vi 1, vi 0, sn, sn, vp 1441 0, pn]), (1443, mo 66 [vi 1, vn 0, vn 0, vi 0, vi 0, vi 0, vi 9, vi 0, vn 0, vi 3, vi 0, vi 3]), (1444, mc 126 [vp 1442 0, vp 1428 0, vi 1, vs 1443 0 2 openCap, vi 0, vi 0, vf]), (1446, mo 124 [vp 1435 0, vp 1444 0]), (1447, mc 78 [.nilFunc, .func (.func 69) ⟨[vp 1428 0]⟩ ⟨[]⟩, .func (.func 70) ⟨[vp 1428 0]⟩ ⟨[]⟩, .func (.func 71) ⟨[vp 1428 0]⟩ ⟨[]⟩, .func (.func 72) ⟨[vp 1428 0]⟩ ⟨[]⟩])], 1448⟩
set_option maxRecDepth 100000 in
theorem r38 : (e38.fitB && e38.runB (prTab false prB cutF []) Tryz.prog 100000) = true := by decide +kernel
theorem k38 : e38.Fit ∧ EntOk Tryz.prog e38 := Ent.both mixedHere (prTab_ok yes_not prB_ok (okNil)) r38

set_option maxRecDepth 100000 in
def e39 : Ent := ⟨31, 1448, [vp 1428 0, va [vi 1, vi 0]], turned [(1327, none), (1336, none), (1338, none)] (turned (e38.d.map fun p => (p.1, some p.2)) e38.bl), vt, [(1428, mc 123 [vp 1427 0, vs 1446 0 2 openCap, sn, sn, sn, vi 1, vi 1, vs 1447 0 5 5]), (1433, mc 92 [vp 1427 0, vi 0, vi 1, sn, sn, vp 1432 0, pn]), (1435, mc 126 [vp 1433 0, vp 1428 0, vi 0, vs 1434 0 2 openCap, vi 1, vi 0, vf])], 1456⟩
set_option maxRecDepth 100000 in
theorem r39 : (e39.fitB && e39.runB (prTab false prB cutF []) Tryz.prog 100000) = true := by decide +kernel
theorem k39 : e39.Fit ∧ EntOk Tryz.prog e39 := Ent.both mixedHere (prTab_ok yes_not prB_ok (okNil)) r39

end Go.Proofs
