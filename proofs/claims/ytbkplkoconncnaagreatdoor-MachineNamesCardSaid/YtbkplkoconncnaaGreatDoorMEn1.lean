/-
  PROVED HERE: calls of the run, one by one: what each answers, and which blocks it leaves otherwise.
-/
import Derived.Test.YtbkplkoconncnaaGreatDoorMEn0
set_option linter.unusedVariables false
set_option linter.unusedSimpArgs false
namespace Go.Proofs
open Go.Vai

set_option maxRecDepth 100000 in
def e0 : Ent := ⟨30, 23, [va [vs 7 0 1 1, vs 19 0 6 openCap, vi 2, vi 8, vi 24, vi 2]], [(6, mc 66 [vi 1, vn 0, vn 0, vi 0, vi 0, vi 0, vi 9, vi 0, vn 0, vi 6, vi 0, vi 0]), (7, mc 69 [vs 6 0 2 2]), (19, mo 75 [vi 1, vi 0, vi 1, vi 0, vi 1, vi 0, vi 1, vi 0, vi 1, vi 0, vi 1, vi 0])], vv [vp 116 0, vi 0], [(48, mc 4 [vf, vf, vf, vf, vf, vf, vf, vf, vf, vf, vf, vf, vf, vf, vf, vf, vf, vf, vf, vf, vf, vf, vf, vf]), (49, mc 295 [vs 97 0 24 openCap, vs 48 0 24 24]), (97, mo 3 [vi 0, vi 1, vi 2, vi 3, vi 4, vi 5, vi 6, vi 7, vi 8, vi 9, vi 10, vi 11, vi 12, vi 13, vi 14, vi 15, vi 16, vi 17, vi 18, vi 19, vi 20, vi 21, vi 22, vi 23]), (98, .map [] 0), (99, mc 218 [vi 2, vi 8, vi 24, vi 2, vp 49 0, vs 107 0 2 openCap, (.map (some 98))]), (100, .map [] 0), (101, mc 300 [vi 8, vp 49 0, (.map (some 100))]), (104, .map [] 0), (105, mc 300 [vi 8, vp 49 0, (.map (some 104))]), (107, mo 219 [vp 101 0, vp 105 0]), (108, mc 3 [vi 0]), (109, mc 223 [vs 108 0 1 1]), (110, mc 246 [pn, pn]), (111, mc 226 [vs 110 0 2 2]), (112, mc 183 [pn]), (113, .map [] 0), (114, mc 230 [vi 0, sn]), (115, mc 101 [vp 99 0, vp 111 0, vp 109 0, vp 114 0, vs 112 0 1 1, (.map (some 113)), vi 0]), (116, mc 123 [vp 115 0, vs 125 0 1 openCap, sn, sn, sn, vi 0, vi 0, vs 126 0 5 5]), (119, mc 182 [sn]), (120, mc 156 [vp 119 0, vn 0, vi 2]), (121, mc 92 [vp 115 0, vi 0, vi 0, sn, sn, vp 120 0, pn]), (122, mo 66 [vi 1, vn 0, vn 0, vi 0, vi 0, vi 0, vi 9, vi 0, vn 0, vi 6, vi 0, vi 0]), (123, mc 126 [vp 121 0, vp 116 0, vi 0, vs 122 0 2 openCap, vi 0, vi 0, vf]), (125, mo 124 [vp 123 0]), (126, mc 78 [.nilFunc, .func (.func 69) ⟨[vp 116 0]⟩ ⟨[]⟩, .func (.func 70) ⟨[vp 116 0]⟩ ⟨[]⟩, .func (.func 71) ⟨[vp 116 0]⟩ ⟨[]⟩, .func (.func 72) ⟨[vp 116 0]⟩ ⟨[]⟩])], 127⟩
set_option maxRecDepth 100000 in
theorem r0 : (e0.fitB && e0.runB (prTab false prB cutF []) Tryz.prog 100000) = true := by decide +kernel
theorem k0 : e0.Fit ∧ EntOk Tryz.prog e0 := Ent.both mixedHere (prTab_ok yes_not prB_ok (okNil)) r0

set_option maxRecDepth 100000 in
def e1 : Ent := ⟨31, 128, [vp 116 0, va [vi 1, vi 0]], turned [(6, none), (7, none), (19, none)] (turned (e0.d.map fun p => (p.1, some p.2)) e0.bl), vt, [(116, mc 123 [vp 115 0, vs 125 0 1 openCap, sn, sn, sn, vi 1, vi 1, vs 126 0 5 5]), (121, mc 92 [vp 115 0, vi 0, vi 1, sn, sn, vp 120 0, pn]), (123, mc 126 [vp 121 0, vp 116 0, vi 0, vs 122 0 2 openCap, vi 1, vi 0, vf])], 134⟩
set_option maxRecDepth 100000 in
theorem r1 : (e1.fitB && e1.runB (prTab false prB cutF []) Tryz.prog 100000) = true := by decide +kernel
theorem k1 : e1.Fit ∧ EntOk Tryz.prog e1 := Ent.both mixedHere (prTab_ok yes_not prB_ok (okNil)) r1

set_option maxRecDepth 100000 in
def e2 : Ent := ⟨31, 135, [vp 116 0, va [vi 1, vi 0]], turned [] (turned (e1.d.map fun p => (p.1, some p.2)) e1.bl), vt, [(112, mc 183 [vp 247 0]), (115, mc 101 [vp 99 0, vp 111 0, vp 109 0, vp 114 0, vs 112 0 1 1, (.map (some 113)), vi 1]), (116, mc 123 [vp 115 0, vs 125 0 1 openCap, vs 143 0 1 openCap, vs 146 0 1 openCap, vs 147 0 1 openCap, vi 2, vi 1, vs 126 0 5 5]), (121, mc 92 [vp 115 0, vi 0, vi 1, sn, sn, vp 120 0, vp 153 0]), (123, mc 126 [vp 121 0, vp 116 0, vi 0, vs 122 0 2 openCap, vi 2, vi 0, vf]), (143, mo 64 [vi 0, vi 0, vt, vi 1, vi 1, vi 0, vn 0, vi 6, vi 0]), (146, mo 3 [vn 0]), (147, mo 3 [vi 0]), (153, mc 111 [vs 203 0 2 openCap, sn, vi 1, vi 1, vi 0, vn 0, vi 6, vi 0, vi 0, vi 1, vi 1, vn 0, vn 0, vi 2, vi 0, vi 0, vi 0, .func (.func 50) ⟨[vp 121 0]⟩ ⟨[]⟩, .func (.func 51) ⟨[vp 121 0]⟩ ⟨[]⟩, vf, vi 0]), (203, mo 167 [vn 0, vn 0, vi 2, vi 0, vn 0, vi 6]), (247, mc 185 [vi 1, vi 1, vn 0, vn 0, vi 2, vi 0, vi 0, vp 115 0, vi 0, vi 0, vi 1, .func (.func 221) ⟨[vp 247 0]⟩ ⟨[]⟩, vi 1, vf, vi 0, vi 0, vi 0, vf, sn])], 248⟩
set_option maxRecDepth 100000 in
theorem r2 : (e2.fitB && e2.runB (prTab false prB cutF []) Tryz.prog 100000) = true := by decide +kernel
theorem k2 : e2.Fit ∧ EntOk Tryz.prog e2 := Ent.both mixedHere (prTab_ok yes_not prB_ok (okNil)) r2

set_option maxRecDepth 100000 in
def e3 : Ent := ⟨31, 249, [vp 116 0, va [vi 1, vi 0]], turned [] (turned (e2.d.map fun p => (p.1, some p.2)) e2.bl), vt, [(110, mc 246 [pn, vp 252 0]), (116, mc 123 [vp 115 0, vs 125 0 1 openCap, vs 143 0 1 openCap, vs 146 0 1 openCap, vs 147 0 1 openCap, vi 3, vi 1, vs 126 0 5 5]), (247, mc 185 [vi 1, vi 1, vn 0, vn 0, vi 2, vi 0, vi 0, vp 115 0, vi 0, vi 0, vi 1, .func (.func 255) ⟨[vp 247 0]⟩ ⟨[]⟩, vi 2, vf, vi 0, vi 0, vi 0, vf, sn]), (252, mc 248 [vi 0])], 253⟩
set_option maxRecDepth 100000 in
theorem r3 : (e3.fitB && e3.runB (prTab false prB cutF []) Tryz.prog 100000) = true := by decide +kernel
theorem k3 : e3.Fit ∧ EntOk Tryz.prog e3 := Ent.both mixedHere (prTab_ok yes_not prB_ok (okNil)) r3

set_option maxRecDepth 100000 in
def e4 : Ent := ⟨31, 254, [vp 116 0, va [vi 1, vi 0]], turned [] (turned (e3.d.map fun p => (p.1, some p.2)) e3.bl), vt, [(48, mc 4 [vt, vf, vf, vf, vf, vf, vf, vf, vf, vf, vf, vf, vf, vf, vf, vf, vf, vf, vf, vf, vf, vf, vf, vf]), (49, mc 295 [vs 97 0 23 openCap, vs 48 0 24 24]), (97, mo 3 [vi 1, vi 3, vi 2, vi 7, vi 4, vi 5, vi 6, vi 15, vi 8, vi 9, vi 10, vi 11, vi 12, vi 13, vi 14, vi 23, vi 16, vi 17, vi 18, vi 19, vi 20, vi 21, vi 22, vi 0]), (98, .map [⟨vi 0, vi 1, 0⟩] 1), (104, .map [⟨va [vn 0, vn 0], vp 315 0, 0⟩] 1), (116, mc 123 [vp 115 0, vs 125 0 1 openCap, vs 143 0 1 openCap, vs 146 0 1 openCap, vs 147 0 1 openCap, vi 4, vi 1, vs 126 0 5 5]), (247, mc 185 [vi 1, vi 1, vn 0, vn 0, vi 2, vi 0, vi 0, vp 115 0, vi 0, vi 0, vi 1, .func (.func 275) ⟨[vp 247 0]⟩ ⟨[]⟩, vi 3, vf, vi 0, vi 0, vi 1, vf, sn]), (315, mc 161 [vn 0, vn 0, vs 321 0 1 openCap, vi 0]), (321, mo 163 [vi 0, vi 1, vi 2, vi 2, vi 0])], 330⟩
set_option maxRecDepth 100000 in
theorem r4 : (e4.fitB && e4.runB (prTab false prB cutF []) Tryz.prog 100000) = true := by decide +kernel
theorem k4 : e4.Fit ∧ EntOk Tryz.prog e4 := Ent.both mixedHere (prTab_ok yes_not prB_ok (okNil)) r4

set_option maxRecDepth 100000 in
def e5 : Ent := ⟨31, 331, [vp 116 0, va [vi 1, vi 0]], turned [] (turned (e4.d.map fun p => (p.1, some p.2)) e4.bl), vt, [(110, mc 246 [pn, pn]), (112, mc 183 [vp 394 0]), (115, mc 101 [vp 99 0, vp 111 0, vp 109 0, vp 114 0, vs 112 0 1 1, (.map (some 113)), vi 2]), (116, mc 123 [vp 115 0, vs 125 0 1 openCap, vs 143 0 1 openCap, vs 146 0 1 openCap, vs 147 0 1 openCap, vi 5, vi 1, vs 126 0 5 5]), (121, mc 92 [vp 115 0, vi 0, vi 1, sn, vs 338 0 1 openCap, vp 120 0, vp 153 0]), (153, mc 111 [vs 203 0 1 openCap, sn, vi 1, vi 1, vi 0, vn 0, vi 6, vi 0, vi 0, vi 1, vi 1, vi 0, vn 0, vi 6, vi 0, vi 0, vi 0, .func (.func 50) ⟨[vp 121 0]⟩ ⟨[]⟩, .func (.func 51) ⟨[vp 121 0]⟩ ⟨[]⟩, vt, vi 0]), (203, mo 167 [vi 0, vn 0, vi 6, vi 0, vi 0, vi 0]), (247, mc 185 [vi 1, vi 1, vn 0, vn 0, vi 2, vi 0, vi 0, vp 115 0, vi 0, vi 0, vi 1, .func (.func 275) ⟨[vp 247 0]⟩ ⟨[]⟩, vi 3, vf, vi 0, vi 0, vi 1, vt, sn]), (338, mo 48 [vi 1, vn 0, vn 0, vi 2]), (394, mc 185 [vi 1, vi 1, vi 0, vn 0, vi 6, vi 0, vi 0, vp 115 0, vi 0, vi 1, vi 1, .func (.func 221) ⟨[vp 394 0]⟩ ⟨[]⟩, vi 1, vf, vi 0, vi 0, vi 0, vf, sn])], 395⟩
set_option maxRecDepth 100000 in
theorem r5 : (e5.fitB && e5.runB (prTab false prB cutF []) Tryz.prog 100000) = true := by decide +kernel
theorem k5 : e5.Fit ∧ EntOk Tryz.prog e5 := Ent.both mixedHere (prTab_ok yes_not prB_ok (okNil)) r5

set_option maxRecDepth 100000 in
def e6 : Ent := ⟨31, 396, [vp 116 0, va [vi 1, vi 0]], turned [(247, none), (252, none)] (turned (e5.d.map fun p => (p.1, some p.2)) e5.bl), vt, [(110, mc 246 [pn, vp 399 0]), (116, mc 123 [vp 115 0, vs 125 0 1 openCap, vs 143 0 1 openCap, vs 146 0 1 openCap, vs 147 0 1 openCap, vi 6, vi 1, vs 126 0 5 5]), (394, mc 185 [vi 1, vi 1, vi 0, vn 0, vi 6, vi 0, vi 0, vp 115 0, vi 0, vi 1, vi 1, .func (.func 255) ⟨[vp 394 0]⟩ ⟨[]⟩, vi 2, vf, vi 0, vi 0, vi 0, vf, sn]), (399, mc 248 [vi 0])], 400⟩
set_option maxRecDepth 100000 in
theorem r6 : (e6.fitB && e6.runB (prTab false prB cutF []) Tryz.prog 100000) = true := by decide +kernel
theorem k6 : e6.Fit ∧ EntOk Tryz.prog e6 := Ent.both mixedHere (prTab_ok yes_not prB_ok (okNil)) r6

set_option maxRecDepth 100000 in
def e7 : Ent := ⟨30, 478, [va [vs 414 0 1 1, vs 474 0 30 openCap, vi 2, vi 8, vi 24, vi 2]], [(413, mc 66 [vi 1, vn 0, vn 0, vi 0, vi 0, vi 0, vi 9, vi 0, vn 0, vi 6, vi 0, vi 0]), (414, mc 69 [vs 413 0 2 2]), (474, mo 75 [vi 1, vi 0, vi 1, vi 0, vi 1, vi 0, vi 1, vi 0, vi 1, vi 0, vi 1, vi 0, vi 1, vi 0, vi 1, vi 0, vi 1, vi 0, vi 1, vi 0, vi 1, vi 0, vi 1, vi 0, vi 1, vi 0, vi 1, vi 0, vi 1, vi 0, vi 1, vi 0, vi 1, vi 0, vi 1, vi 0, vi 1, vi 0, vi 1, vi 0, vi 1, vi 0, vi 1, vi 0, vi 1, vi 0, vi 1, vi 0, vi 1, vi 0, vi 1, vi 0, vi 1, vi 0, vi 1, vi 0, vi 1, vi 0, vi 1, vi 0])], vv [vp 619 0, vi 0], [(551, mc 4 [vf, vf, vf, vf, vf, vf, vf, vf, vf, vf, vf, vf, vf, vf, vf, vf, vf, vf, vf, vf, vf, vf, vf, vf]), (552, mc 295 [vs 600 0 24 openCap, vs 551 0 24 24]), (600, mo 3 [vi 0, vi 1, vi 2, vi 3, vi 4, vi 5, vi 6, vi 7, vi 8, vi 9, vi 10, vi 11, vi 12, vi 13, vi 14, vi 15, vi 16, vi 17, vi 18, vi 19, vi 20, vi 21, vi 22, vi 23]), (601, .map [] 0), (602, mc 218 [vi 2, vi 8, vi 24, vi 2, vp 552 0, vs 610 0 2 openCap, (.map (some 601))]), (603, .map [] 0), (604, mc 300 [vi 8, vp 552 0, (.map (some 603))]), (607, .map [] 0), (608, mc 300 [vi 8, vp 552 0, (.map (some 607))]), (610, mo 219 [vp 604 0, vp 608 0]), (611, mc 3 [vi 0]), (612, mc 223 [vs 611 0 1 1]), (613, mc 246 [pn, pn]), (614, mc 226 [vs 613 0 2 2]), (615, mc 183 [pn]), (616, .map [] 0), (617, mc 230 [vi 0, sn]), (618, mc 101 [vp 602 0, vp 614 0, vp 612 0, vp 617 0, vs 615 0 1 1, (.map (some 616)), vi 0]), (619, mc 123 [vp 618 0, vs 628 0 1 openCap, sn, sn, sn, vi 0, vi 0, vs 629 0 5 5]), (622, mc 182 [sn]), (623, mc 156 [vp 622 0, vn 0, vi 2]), (624, mc 92 [vp 618 0, vi 0, vi 0, sn, sn, vp 623 0, pn]), (625, mo 66 [vi 1, vn 0, vn 0, vi 0, vi 0, vi 0, vi 9, vi 0, vn 0, vi 6, vi 0, vi 0]), (626, mc 126 [vp 624 0, vp 619 0, vi 0, vs 625 0 2 openCap, vi 0, vi 0, vf]), (628, mo 124 [vp 626 0]), (629, mc 78 [.nilFunc, .func (.func 69) ⟨[vp 619 0]⟩ ⟨[]⟩, .func (.func 70) ⟨[vp 619 0]⟩ ⟨[]⟩, .func (.func 71) ⟨[vp 619 0]⟩ ⟨[]⟩, .func (.func 72) ⟨[vp 619 0]⟩ ⟨[]⟩])], 630⟩
set_option maxRecDepth 100000 in
theorem r7 : (e7.fitB && e7.runB (prTab false prB cutF []) Tryz.prog 100000) = true := by decide +kernel
theorem k7 : e7.Fit ∧ EntOk Tryz.prog e7 := Ent.both mixedHere (prTab_ok yes_not prB_ok (okNil)) r7

end Go.Proofs
