/-
  PROVED HERE: calls of the run, one by one: what each answers, and which blocks it leaves otherwise.
-/
import Derived.Test.YtbkplkoconncnaaGreatDoorMEn0
set_option linter.unusedVariables false
set_option linter.unusedSimpArgs false
namespace Go.Proofs
open Go.Vai

set_option maxRecDepth 100000 in
def e24 : Ent := ⟨31, 1288, [vp 619 0, va [vi 1, vi 0]], [(551, mc 4 [vt, vf, vf, vf, vf, vf, vf, vf, vf, vf, vf, vf, vf, vf, vf, vf, vf, vf, vf, vf, vf, vf, vf, vf]), (552, mc 295 [vs 600 0 23 openCap, vs 551 0 24 24]), (600, mo 3 [vi 1, vi 2, vi 5, vi 7, vi 3, vi 11, vi 6, vi 15, vi 8, vi 9, vi 4, vi 22, vi 12, vi 13, vi 14, vi 23, vi 16, vi 17, vi 18, vi 19, vi 20, vi 21, vi 10, vi 0]), (601, .map [⟨vi 0, vi 1, 0⟩, ⟨vi 1, vi 1, 1⟩] 2), (602, mc 218 [vi 2, vi 8, vi 24, vi 2, vp 552 0, vs 610 0 2 openCap, (.map (some 601))]), (603, .map [] 0), (604, mc 300 [vi 8, vp 552 0, (.map (some 603))]), (607, .map [⟨va [vn 0, vn 0], vp 1247 0, 0⟩] 2), (608, mc 300 [vi 8, vp 552 0, (.map (some 607))]), (610, mo 219 [vp 604 0, vp 608 0]), (611, mc 3 [vi 0]), (612, mc 223 [vs 611 0 1 1]), (613, mc 246 [pn, pn]), (614, mc 226 [vs 613 0 2 2]), (615, mc 183 [pn]), (616, .map [] 0), (617, mc 230 [vi 0, sn]), (618, mc 101 [vp 602 0, vp 614 0, vp 612 0, vp 617 0, vs 615 0 1 1, (.map (some 616)), vi 4]), (619, mc 123 [vp 618 0, vs 628 0 1 openCap, vs 1284 0 4 openCap, vs 1039 0 2 openCap, vs 1040 0 2 openCap, vi 16, vi 1, vs 629 0 5 5]), (622, mc 182 [vs 1282 0 1 openCap]), (623, mc 156 [vp 622 0, vn 0, vi 2]), (624, mc 92 [vp 618 0, vi 0, vi 0, sn, sn, vp 623 0, pn]), (625, mo 66 [vi 1, vn 0, vn 0, vi 0, vi 0, vi 0, vi 9, vi 0, vn 0, vi 6, vi 0, vi 0]), (626, mc 126 [vp 624 0, vp 619 0, vi 0, vs 625 0 2 openCap, vi 2, vi 1, vf]), (628, mo 124 [vp 626 0]), (629, mc 78 [.nilFunc, .func (.func 69) ⟨[vp 619 0]⟩ ⟨[]⟩, .func (.func 70) ⟨[vp 619 0]⟩ ⟨[]⟩, .func (.func 71) ⟨[vp 619 0]⟩ ⟨[]⟩, .func (.func 72) ⟨[vp 619 0]⟩ ⟨[]⟩]), (1039, mo 3 [vi 6, vi 10]), (1040, mo 3 [vi 1, vi 1]), (1247, mc 161 [vn 0, vn 0, vs 1253 0 1 openCap, vi 0]), (1253, mo 163 [vi 0, vn 0, vi 2, vi 2, vi 0]), (1282, mo 48 [vn 0, vn 0, vn 0, vi 2]), (1284, mo 64 [vi 0, vi 0, vt, vi 1, vi 1, vi 0, vn 0, vi 6, vi 0, vi 0, vi 0, vf, vi 0, vi 0, vi 0, vi 0, vi 0, vi 1, vi 1, vi 0, vt, vi 3, vi 1, vi 0, vi 0, vi 0, vi 0, vi 1, vi 0, vf, vi 0, vi 0, vi 0, vi 0, vi 0, vi 1])], vf, [(619, mc 123 [vp 618 0, vs 628 0 1 openCap, vs 1284 0 4 openCap, vs 1039 0 2 openCap, vs 1040 0 2 openCap, vi 17, vi 1, vs 629 0 5 5])], 1289⟩
set_option maxRecDepth 100000 in
theorem r24 : (e24.fitB && e24.runB (prTab false prB cutF []) Tryz.prog 100000) = true := by decide +kernel
theorem k24 : e24.Fit ∧ EntOk Tryz.prog e24 := Ent.both mixedHere (prTab_ok yes_not prB_ok (okNil)) r24

set_option maxRecDepth 100000 in
def e25 : Ent := ⟨31, 1290, [vp 619 0, va [vi 1, vi 0]], turned [] (turned (e24.d.map fun p => (p.1, some p.2)) e24.bl), vf, [(619, mc 123 [vp 618 0, vs 628 0 1 openCap, vs 1284 0 4 openCap, vs 1039 0 2 openCap, vs 1040 0 2 openCap, vi 18, vi 1, vs 629 0 5 5])], 1291⟩
set_option maxRecDepth 100000 in
theorem r25 : (e25.fitB && e25.runB (prTab false prB cutF []) Tryz.prog 100000) = true := by decide +kernel
theorem k25 : e25.Fit ∧ EntOk Tryz.prog e25 := Ent.both mixedHere (prTab_ok yes_not prB_ok (okNil)) r25

set_option maxRecDepth 100000 in
def e26 : Ent := ⟨31, 1292, [vp 619 0, va [vi 1, vi 0]], turned [] (turned (e25.d.map fun p => (p.1, some p.2)) e25.bl), vf, [(619, mc 123 [vp 618 0, vs 628 0 1 openCap, vs 1284 0 4 openCap, vs 1039 0 2 openCap, vs 1040 0 2 openCap, vi 19, vi 1, vs 629 0 5 5])], 1293⟩
set_option maxRecDepth 100000 in
theorem r26 : (e26.fitB && e26.runB (prTab false prB cutF []) Tryz.prog 100000) = true := by decide +kernel
theorem k26 : e26.Fit ∧ EntOk Tryz.prog e26 := Ent.both mixedHere (prTab_ok yes_not prB_ok (okNil)) r26

set_option maxRecDepth 100000 in
def e27 : Ent := ⟨31, 1294, [vp 619 0, va [vi 1, vi 0]], turned [] (turned (e26.d.map fun p => (p.1, some p.2)) e26.bl), vf, [(619, mc 123 [vp 618 0, vs 628 0 1 openCap, vs 1284 0 4 openCap, vs 1039 0 2 openCap, vs 1040 0 2 openCap, vi 20, vi 1, vs 629 0 5 5])], 1295⟩
set_option maxRecDepth 100000 in
theorem r27 : (e27.fitB && e27.runB (prTab false prB cutF []) Tryz.prog 100000) = true := by decide +kernel
theorem k27 : e27.Fit ∧ EntOk Tryz.prog e27 := Ent.both mixedHere (prTab_ok yes_not prB_ok (okNil)) r27

set_option maxRecDepth 100000 in
def e28 : Ent := ⟨31, 1296, [vp 619 0, va [vi 1, vi 0]], turned [] (turned (e27.d.map fun p => (p.1, some p.2)) e27.bl), vf, [(619, mc 123 [vp 618 0, vs 628 0 1 openCap, vs 1284 0 4 openCap, vs 1039 0 2 openCap, vs 1040 0 2 openCap, vi 21, vi 1, vs 629 0 5 5])], 1297⟩
set_option maxRecDepth 100000 in
theorem r28 : (e28.fitB && e28.runB (prTab false prB cutF []) Tryz.prog 100000) = true := by decide +kernel
theorem k28 : e28.Fit ∧ EntOk Tryz.prog e28 := Ent.both mixedHere (prTab_ok yes_not prB_ok (okNil)) r28

set_option maxRecDepth 100000 in
def e29 : Ent := ⟨31, 1298, [vp 619 0, va [vi 1, vi 0]], turned [] (turned (e28.d.map fun p => (p.1, some p.2)) e28.bl), vf, [(619, mc 123 [vp 618 0, vs 628 0 1 openCap, vs 1284 0 4 openCap, vs 1039 0 2 openCap, vs 1040 0 2 openCap, vi 22, vi 1, vs 629 0 5 5])], 1299⟩
set_option maxRecDepth 100000 in
theorem r29 : (e29.fitB && e29.runB (prTab false prB cutF []) Tryz.prog 100000) = true := by decide +kernel
theorem k29 : e29.Fit ∧ EntOk Tryz.prog e29 := Ent.both mixedHere (prTab_ok yes_not prB_ok (okNil)) r29

set_option maxRecDepth 100000 in
def e30 : Ent := ⟨31, 1300, [vp 619 0, va [vi 1, vi 0]], turned [] (turned (e29.d.map fun p => (p.1, some p.2)) e29.bl), vf, [(619, mc 123 [vp 618 0, vs 628 0 1 openCap, vs 1284 0 4 openCap, vs 1039 0 2 openCap, vs 1040 0 2 openCap, vi 23, vi 1, vs 629 0 5 5])], 1301⟩
set_option maxRecDepth 100000 in
theorem r30 : (e30.fitB && e30.runB (prTab false prB cutF []) Tryz.prog 100000) = true := by decide +kernel
theorem k30 : e30.Fit ∧ EntOk Tryz.prog e30 := Ent.both mixedHere (prTab_ok yes_not prB_ok (okNil)) r30

set_option maxRecDepth 100000 in
def e31 : Ent := ⟨31, 1302, [vp 619 0, va [vi 1, vi 0]], turned [] (turned (e30.d.map fun p => (p.1, some p.2)) e30.bl), vf, [(619, mc 123 [vp 618 0, vs 628 0 1 openCap, vs 1284 0 4 openCap, vs 1039 0 2 openCap, vs 1040 0 2 openCap, vi 24, vi 1, vs 629 0 5 5])], 1303⟩
set_option maxRecDepth 100000 in
theorem r31 : (e31.fitB && e31.runB (prTab false prB cutF []) Tryz.prog 100000) = true := by decide +kernel
theorem k31 : e31.Fit ∧ EntOk Tryz.prog e31 := Ent.both mixedHere (prTab_ok yes_not prB_ok (okNil)) r31

end Go.Proofs
