/-
  PROVED HERE: calls of the run, one by one: what each answers, and which blocks it leaves otherwise.
-/
import Derived.Test.YtbkplkoconncnaaGreatDoorMEn0
set_option linter.unusedVariables false
set_option linter.unusedSimpArgs false
namespace Go.Proofs
open Go.Vai

set_option maxRecDepth 100000 in
def e16 : Ent := ⟨31, 1030, [vp 619 0, va [vi 1, vi 0]], [(551, mc 4 [vt, vt, vf, vf, vf, vf, vf, vf, vf, vf, vf, vf, vf, vf, vf, vf, vf, vf, vf, vf, vf, vf, vf, vf]), (552, mc 295 [vs 600 0 22 openCap, vs 551 0 24 24]), (600, mo 3 [vi 2, vi 3, vi 5, vi 7, vi 4, vi 11, vi 6, vi 15, vi 8, vi 9, vi 10, vi 22, vi 12, vi 13, vi 14, vi 23, vi 16, vi 17, vi 18, vi 19, vi 20, vi 21, vi 1, vi 0]), (601, .map [⟨vi 0, vi 1, 0⟩, ⟨vi 1, vi 1, 1⟩] 2), (602, mc 218 [vi 2, vi 8, vi 24, vi 2, vp 552 0, vs 610 0 2 openCap, (.map (some 601))]), (603, .map [] 0), (604, mc 300 [vi 8, vp 552 0, (.map (some 603))]), (607, .map [⟨va [vn 0, vn 0], vp 818 0, 0⟩, ⟨va [vi 0, vn 0], vp 977 0, 1⟩] 2), (608, mc 300 [vi 8, vp 552 0, (.map (some 607))]), (610, mo 219 [vp 604 0, vp 608 0]), (611, mc 3 [vi 0]), (612, mc 223 [vs 611 0 1 1]), (613, mc 246 [pn, pn]), (614, mc 226 [vs 613 0 2 2]), (615, mc 183 [pn]), (616, .map [] 0), (617, mc 230 [vi 0, sn]), (618, mc 101 [vp 602 0, vp 614 0, vp 612 0, vp 617 0, vs 615 0 1 1, (.map (some 616)), vi 2]), (619, mc 123 [vp 618 0, vs 628 0 1 openCap, vs 1028 0 2 openCap, vs 649 0 1 openCap, vs 650 0 1 openCap, vi 8, vi 1, vs 629 0 5 5]), (622, mc 182 [sn]), (623, mc 156 [vp 622 0, vn 0, vi 2]), (624, mc 92 [vp 618 0, vi 0, vi 1, vs 1026 0 1 openCap, vs 1007 0 2 openCap, vp 623 0, pn]), (625, mo 66 [vi 1, vn 0, vn 0, vi 0, vi 0, vi 0, vi 9, vi 0, vn 0, vi 6, vi 0, vi 0]), (626, mc 126 [vp 624 0, vp 619 0, vi 0, vs 625 0 2 openCap, vi 2, vi 0, vf]), (628, mo 124 [vp 626 0]), (629, mc 78 [.nilFunc, .func (.func 69) ⟨[vp 619 0]⟩ ⟨[]⟩, .func (.func 70) ⟨[vp 619 0]⟩ ⟨[]⟩, .func (.func 71) ⟨[vp 619 0]⟩ ⟨[]⟩, .func (.func 72) ⟨[vp 619 0]⟩ ⟨[]⟩]), (649, mo 3 [vi 6]), (650, mo 3 [vi 1]), (818, mc 161 [vn 0, vn 0, vs 824 0 1 openCap, vi 0]), (824, mo 163 [vi 0, vi 1, vi 2, vi 2, vi 0]), (977, mc 161 [vi 0, vn 0, vs 983 0 1 openCap, vi 0]), (983, mo 163 [vi 1, vi 1, vi 6, vi 6, vi 0]), (1007, mo 48 [vi 1, vn 0, vn 0, vi 2, vi 1, vi 0, vn 0, vi 6]), (1026, mo 48 [vi 1, vi 0, vn 0, vi 6]), (1028, mo 64 [vi 0, vi 0, vt, vi 1, vi 1, vi 0, vn 0, vi 6, vi 0, vi 0, vi 0, vf, vi 0, vi 0, vi 0, vi 0, vi 0, vi 1])], vt, [(615, mc 183 [vp 1085 0]), (618, mc 101 [vp 602 0, vp 614 0, vp 612 0, vp 617 0, vs 615 0 1 1, (.map (some 616)), vi 3]), (619, mc 123 [vp 618 0, vs 628 0 1 openCap, vs 1036 0 3 openCap, vs 1039 0 2 openCap, vs 1040 0 2 openCap, vi 9, vi 1, vs 629 0 5 5]), (624, mc 92 [vp 618 0, vi 0, vi 1, vs 1026 0 1 openCap, vs 1007 0 2 openCap, vp 623 0, vp 1043 0]), (626, mc 126 [vp 624 0, vp 619 0, vi 0, vs 625 0 2 openCap, vi 2, vi 1, vf]), (649, (.dead 1 3)), (650, (.dead 1 3)), (1028, (.dead 18 64)), (1036, mo 64 [vi 0, vi 0, vt, vi 1, vi 1, vi 0, vn 0, vi 6, vi 0, vi 0, vi 0, vf, vi 0, vi 0, vi 0, vi 0, vi 0, vi 1, vi 1, vi 0, vt, vi 3, vi 1, vi 0, vi 0, vi 0, vi 0]), (1039, mo 3 [vi 6, vn 0]), (1040, mo 3 [vi 1, vi 0]), (1043, mc 111 [sn, vs 1045 0 2 openCap, vi 3, vi 1, vi 0, vi 0, vi 0, vi 0, vi 0, vi 2, vi 1, vi 0, vn 0, vi 0, vi 0, vi 0, vi 0, .func (.func 113) ⟨[vp 624 0]⟩ ⟨[]⟩, .func (.func 57) ⟨[]⟩ ⟨[]⟩, vf, vi 0]), (1045, mo 48 [vi 1, vi 0, vn 0, vi 6, vi 1, vn 0, vn 0, vi 2]), (1085, mc 185 [vi 2, vi 1, vi 0, vn 0, vi 0, vi 0, vi 0, vp 618 0, vi 0, vi 2, vi 1, .func (.func 221) ⟨[vp 1085 0]⟩ ⟨[]⟩, vi 1, vf, vi 0, vi 0, vi 0, vf, sn])], 1086⟩
set_option maxRecDepth 100000 in
theorem r16 : (e16.fitB && e16.runB (prTab false prB cutF []) Tryz.prog 100000) = true := by decide +kernel
theorem k16 : e16.Fit ∧ EntOk Tryz.prog e16 := Ent.both mixedHere (prTab_ok yes_not prB_ok (okNil)) r16

set_option maxRecDepth 100000 in
def e17 : Ent := ⟨31, 1087, [vp 619 0, va [vi 1, vi 0]], turned [(649, none), (650, none), (1028, none)] (turned (e16.d.map fun p => (p.1, some p.2)) e16.bl), vt, [(613, mc 246 [pn, vp 1090 0]), (619, mc 123 [vp 618 0, vs 628 0 1 openCap, vs 1036 0 3 openCap, vs 1039 0 2 openCap, vs 1040 0 2 openCap, vi 10, vi 1, vs 629 0 5 5]), (1085, mc 185 [vi 2, vi 1, vi 0, vn 0, vi 0, vi 0, vi 0, vp 618 0, vi 0, vi 2, vi 1, .func (.func 255) ⟨[vp 1085 0]⟩ ⟨[]⟩, vi 2, vf, vi 0, vi 0, vi 0, vf, sn]), (1090, mc 248 [vi 0])], 1091⟩
set_option maxRecDepth 100000 in
theorem r17 : (e17.fitB && e17.runB (prTab false prB cutF []) Tryz.prog 100000) = true := by decide +kernel
theorem k17 : e17.Fit ∧ EntOk Tryz.prog e17 := Ent.both mixedHere (prTab_ok yes_not prB_ok (okNil)) r17

set_option maxRecDepth 100000 in
def e18 : Ent := ⟨31, 1092, [vp 619 0, va [vi 1, vi 0]], turned [] (turned (e17.d.map fun p => (p.1, some p.2)) e17.bl), vt, [(551, mc 4 [vt, vf, vf, vf, vf, vf, vf, vf, vf, vf, vf, vf, vf, vf, vf, vf, vf, vf, vf, vf, vf, vf, vf, vf]), (552, mc 295 [vs 600 0 23 openCap, vs 551 0 24 24]), (600, mo 3 [vi 1, vi 2, vi 5, vi 7, vi 3, vi 11, vi 6, vi 15, vi 8, vi 9, vi 4, vi 22, vi 12, vi 13, vi 14, vi 23, vi 16, vi 17, vi 18, vi 19, vi 20, vi 21, vi 10, vi 0]), (607, .map [⟨va [vn 0, vn 0], vp 818 0, 0⟩] 2), (619, mc 123 [vp 618 0, vs 628 0 1 openCap, vs 1036 0 3 openCap, vs 1039 0 2 openCap, vs 1040 0 2 openCap, vi 11, vi 1, vs 629 0 5 5]), (1039, mo 3 [vi 6, vi 10]), (1040, mo 3 [vi 1, vi 1]), (1085, mc 185 [vi 2, vi 1, vi 0, vn 0, vi 0, vi 0, vi 0, vp 618 0, vi 0, vi 2, vi 1, .func (.func 275) ⟨[vp 1085 0]⟩ ⟨[]⟩, vi 3, vf, vi 0, vi 0, vi 1, vf, sn])], 1147⟩
set_option maxRecDepth 100000 in
theorem r18 : (e18.fitB && e18.runB (prTab false prB cutF []) Tryz.prog 100000) = true := by decide +kernel
theorem k18 : e18.Fit ∧ EntOk Tryz.prog e18 := Ent.both mixedHere (prTab_ok yes_not prB_ok (okNil)) r18

set_option maxRecDepth 100000 in
def e19 : Ent := ⟨31, 1148, [vp 619 0, va [vi 1, vi 0]], turned [(977, none), (983, none)] (turned (e18.d.map fun p => (p.1, some p.2)) e18.bl), vt, [(613, mc 246 [pn, pn]), (615, mc 183 [vp 1178 0]), (618, mc 101 [vp 602 0, vp 614 0, vp 612 0, vp 617 0, vs 615 0 1 1, (.map (some 616)), vi 4]), (619, mc 123 [vp 618 0, vs 628 0 1 openCap, vs 1036 0 3 openCap, vs 1039 0 2 openCap, vs 1040 0 2 openCap, vi 12, vi 1, vs 629 0 5 5]), (624, mc 92 [vp 618 0, vi 0, vi 1, vs 1026 0 1 openCap, vs 1154 0 1 openCap, vp 623 0, vp 1043 0]), (1043, mc 111 [sn, vs 1045 4 1 openCap, vi 3, vi 1, vi 0, vi 0, vi 0, vi 0, vi 0, vi 3, vi 1, vn 0, vn 0, vi 0, vi 0, vn 0, vi 0, .func (.func 113) ⟨[vp 624 0]⟩ ⟨[]⟩, .func (.func 57) ⟨[]⟩ ⟨[]⟩, vt, vi 0]), (1085, mc 185 [vi 2, vi 1, vi 0, vn 0, vi 0, vi 0, vi 0, vp 618 0, vi 0, vi 2, vi 1, .func (.func 275) ⟨[vp 1085 0]⟩ ⟨[]⟩, vi 3, vf, vi 0, vi 0, vi 1, vt, sn]), (1154, mo 48 [vi 1, vn 0, vn 0, vi 2, vi 0, vi 0, vi 0, vi 0]), (1178, mc 185 [vi 3, vi 1, vn 0, vn 0, vi 0, vi 0, vn 0, vp 618 0, vi 0, vi 3, vi 1, .func (.func 221) ⟨[vp 1178 0]⟩ ⟨[]⟩, vi 1, vf, vi 0, vi 0, vi 0, vf, sn])], 1179⟩
set_option maxRecDepth 100000 in
theorem r19 : (e19.fitB && e19.runB (prTab false prB cutF []) Tryz.prog 100000) = true := by decide +kernel
theorem k19 : e19.Fit ∧ EntOk Tryz.prog e19 := Ent.both mixedHere (prTab_ok yes_not prB_ok (okNil)) r19

set_option maxRecDepth 100000 in
def e20 : Ent := ⟨31, 1180, [vp 619 0, va [vi 1, vi 0]], turned [(1007, none), (1085, none), (1090, none)] (turned (e19.d.map fun p => (p.1, some p.2)) e19.bl), vt, [(613, mc 246 [pn, vp 1183 0]), (619, mc 123 [vp 618 0, vs 628 0 1 openCap, vs 1036 0 3 openCap, vs 1039 0 2 openCap, vs 1040 0 2 openCap, vi 13, vi 1, vs 629 0 5 5]), (1178, mc 185 [vi 3, vi 1, vn 0, vn 0, vi 0, vi 0, vn 0, vp 618 0, vi 0, vi 3, vi 1, .func (.func 255) ⟨[vp 1178 0]⟩ ⟨[]⟩, vi 2, vf, vi 0, vi 0, vi 0, vf, sn]), (1183, mc 248 [vi 0])], 1184⟩
set_option maxRecDepth 100000 in
theorem r20 : (e20.fitB && e20.runB (prTab false prB cutF []) Tryz.prog 100000) = true := by decide +kernel
theorem k20 : e20.Fit ∧ EntOk Tryz.prog e20 := Ent.both mixedHere (prTab_ok yes_not prB_ok (okNil)) r20

set_option maxRecDepth 100000 in
def e21 : Ent := ⟨31, 1185, [vp 619 0, va [vi 1, vi 0]], turned [] (turned (e20.d.map fun p => (p.1, some p.2)) e20.bl), vt, [(607, .map [⟨va [vn 0, vn 0], vp 1247 0, 0⟩] 2), (619, mc 123 [vp 618 0, vs 628 0 1 openCap, vs 1036 0 3 openCap, vs 1039 0 2 openCap, vs 1040 0 2 openCap, vi 14, vi 1, vs 629 0 5 5]), (1178, mc 185 [vi 3, vi 1, vn 0, vn 0, vi 0, vi 0, vn 0, vp 618 0, vi 0, vi 3, vi 1, .func (.func 275) ⟨[vp 1178 0]⟩ ⟨[]⟩, vi 3, vf, vi 0, vi 0, vi 1, vf, sn]), (1247, mc 161 [vn 0, vn 0, vs 1253 0 1 openCap, vi 0]), (1253, mo 163 [vi 0, vn 0, vi 2, vi 2, vi 0])], 1262⟩
set_option maxRecDepth 100000 in
theorem r21 : (e21.fitB && e21.runB (prTab false prB cutF []) Tryz.prog 100000) = true := by decide +kernel
theorem k21 : e21.Fit ∧ EntOk Tryz.prog e21 := Ent.both mixedHere (prTab_ok yes_not prB_ok (okNil)) r21

set_option maxRecDepth 100000 in
def e22 : Ent := ⟨31, 1263, [vp 619 0, va [vi 1, vi 0]], turned [(818, none), (824, none)] (turned (e21.d.map fun p => (p.1, some p.2)) e21.bl), vt, [(613, mc 246 [pn, pn]), (615, mc 183 [pn]), (619, mc 123 [vp 618 0, vs 628 0 1 openCap, vs 1284 0 4 openCap, vs 1039 0 2 openCap, vs 1040 0 2 openCap, vi 15, vi 1, vs 629 0 5 5]), (622, mc 182 [vs 1282 0 1 openCap]), (624, mc 92 [vp 618 0, vi 0, vi 0, sn, sn, vp 623 0, pn]), (1036, (.dead 27 64)), (1043, mc 111 [sn, vs 1045 4 0 anyCap, vi 3, vi 1, vi 0, vi 0, vi 0, vi 0, vi 0, vi 3, vi 1, vn 0, vn 0, vi 0, vi 0, vn 0, vi 0, .func (.func 113) ⟨[vp 624 0]⟩ ⟨[]⟩, .func (.func 57) ⟨[]⟩ ⟨[]⟩, vt, vi 1]), (1178, mc 185 [vi 3, vi 1, vn 0, vn 0, vi 0, vi 0, vn 0, vp 618 0, vi 0, vi 3, vi 1, .func (.func 275) ⟨[vp 1178 0]⟩ ⟨[]⟩, vi 3, vf, vi 0, vi 0, vi 1, vt, sn]), (1282, mo 48 [vn 0, vn 0, vn 0, vi 2]), (1284, mo 64 [vi 0, vi 0, vt, vi 1, vi 1, vi 0, vn 0, vi 6, vi 0, vi 0, vi 0, vf, vi 0, vi 0, vi 0, vi 0, vi 0, vi 1, vi 1, vi 0, vt, vi 3, vi 1, vi 0, vi 0, vi 0, vi 0, vi 1, vi 0, vf, vi 0, vi 0, vi 0, vi 0, vi 0, vi 1])], 1285⟩
set_option maxRecDepth 100000 in
theorem r22 : (e22.fitB && e22.runB (prTab false prB cutF []) Tryz.prog 100000) = true := by decide +kernel
theorem k22 : e22.Fit ∧ EntOk Tryz.prog e22 := Ent.both mixedHere (prTab_ok yes_not prB_ok (okNil)) r22

set_option maxRecDepth 100000 in
def e23 : Ent := ⟨31, 1286, [vp 619 0, va [vi 1, vi 0]], turned [(1026, none), (1036, none), (1043, none), (1045, none), (1154, none), (1178, none), (1183, none)] (turned (e22.d.map fun p => (p.1, some p.2)) e22.bl), vf, [(619, mc 123 [vp 618 0, vs 628 0 1 openCap, vs 1284 0 4 openCap, vs 1039 0 2 openCap, vs 1040 0 2 openCap, vi 16, vi 1, vs 629 0 5 5])], 1287⟩
set_option maxRecDepth 100000 in
theorem r23 : (e23.fitB && e23.runB (prTab false prB cutF []) Tryz.prog 100000) = true := by decide +kernel
theorem k23 : e23.Fit ∧ EntOk Tryz.prog e23 := Ent.both mixedHere (prTab_ok yes_not prB_ok (okNil)) r23

end Go.Proofs
