/-
  PROVED HERE: calls of the run, one by one: what each answers, and which blocks it leaves otherwise.
-/
import Derived.Test.YtbkplkoconncnaaGreatDoorMEn0
set_option linter.unusedVariables false
set_option linter.unusedSimpArgs false
namespace Go.Proofs
open Go.Vai

set_option maxRecDepth 100000 in
def e8 : Ent := ⟨31, 631, [vp 619 0, va [vi 1, vi 0]], [(551, mc 4 [vf, vf, vf, vf, vf, vf, vf, vf, vf, vf, vf, vf, vf, vf, vf, vf, vf, vf, vf, vf, vf, vf, vf, vf]), (552, mc 295 [vs 600 0 24 openCap, vs 551 0 24 24]), (600, mo 3 [vi 0, vi 1, vi 2, vi 3, vi 4, vi 5, vi 6, vi 7, vi 8, vi 9, vi 10, vi 11, vi 12, vi 13, vi 14, vi 15, vi 16, vi 17, vi 18, vi 19, vi 20, vi 21, vi 22, vi 23]), (601, .map [] 0), (602, mc 218 [vi 2, vi 8, vi 24, vi 2, vp 552 0, vs 610 0 2 openCap, (.map (some 601))]), (603, .map [] 0), (604, mc 300 [vi 8, vp 552 0, (.map (some 603))]), (607, .map [] 0), (608, mc 300 [vi 8, vp 552 0, (.map (some 607))]), (610, mo 219 [vp 604 0, vp 608 0]), (611, mc 3 [vi 0]), (612, mc 223 [vs 611 0 1 1]), (613, mc 246 [pn, pn]), (614, mc 226 [vs 613 0 2 2]), (615, mc 183 [pn]), (616, .map [] 0), (617, mc 230 [vi 0, sn]), (618, mc 101 [vp 602 0, vp 614 0, vp 612 0, vp 617 0, vs 615 0 1 1, (.map (some 616)), vi 0]), (619, mc 123 [vp 618 0, vs 628 0 1 openCap, sn, sn, sn, vi 0, vi 0, vs 629 0 5 5]), (622, mc 182 [sn]), (623, mc 156 [vp 622 0, vn 0, vi 2]), (624, mc 92 [vp 618 0, vi 0, vi 0, sn, sn, vp 623 0, pn]), (625, mo 66 [vi 1, vn 0, vn 0, vi 0, vi 0, vi 0, vi 9, vi 0, vn 0, vi 6, vi 0, vi 0]), (626, mc 126 [vp 624 0, vp 619 0, vi 0, vs 625 0 2 openCap, vi 0, vi 0, vf]), (628, mo 124 [vp 626 0]), (629, mc 78 [.nilFunc, .func (.func 69) ⟨[vp 619 0]⟩ ⟨[]⟩, .func (.func 70) ⟨[vp 619 0]⟩ ⟨[]⟩, .func (.func 71) ⟨[vp 619 0]⟩ ⟨[]⟩, .func (.func 72) ⟨[vp 619 0]⟩ ⟨[]⟩])], vt, [(619, mc 123 [vp 618 0, vs 628 0 1 openCap, sn, sn, sn, vi 1, vi 1, vs 629 0 5 5]), (624, mc 92 [vp 618 0, vi 0, vi 1, sn, sn, vp 623 0, pn]), (626, mc 126 [vp 624 0, vp 619 0, vi 0, vs 625 0 2 openCap, vi 1, vi 0, vf])], 637⟩
set_option maxRecDepth 100000 in
theorem r8 : (e8.fitB && e8.runB (prTab false prB cutF []) Tryz.prog 100000) = true := by decide +kernel
theorem k8 : e8.Fit ∧ EntOk Tryz.prog e8 := Ent.both mixedHere (prTab_ok yes_not prB_ok (okNil)) r8

set_option maxRecDepth 100000 in
def e9 : Ent := ⟨31, 638, [vp 619 0, va [vi 1, vi 0]], turned [] (turned (e8.d.map fun p => (p.1, some p.2)) e8.bl), vt, [(615, mc 183 [vp 750 0]), (618, mc 101 [vp 602 0, vp 614 0, vp 612 0, vp 617 0, vs 615 0 1 1, (.map (some 616)), vi 1]), (619, mc 123 [vp 618 0, vs 628 0 1 openCap, vs 646 0 1 openCap, vs 649 0 1 openCap, vs 650 0 1 openCap, vi 2, vi 1, vs 629 0 5 5]), (624, mc 92 [vp 618 0, vi 0, vi 1, sn, sn, vp 623 0, vp 656 0]), (626, mc 126 [vp 624 0, vp 619 0, vi 0, vs 625 0 2 openCap, vi 2, vi 0, vf]), (646, mo 64 [vi 0, vi 0, vt, vi 1, vi 1, vi 0, vn 0, vi 6, vi 0]), (649, mo 3 [vn 0]), (650, mo 3 [vi 0]), (656, mc 111 [vs 706 0 2 openCap, sn, vi 1, vi 1, vi 0, vn 0, vi 6, vi 0, vi 0, vi 1, vi 1, vn 0, vn 0, vi 2, vi 0, vi 0, vi 0, .func (.func 50) ⟨[vp 624 0]⟩ ⟨[]⟩, .func (.func 51) ⟨[vp 624 0]⟩ ⟨[]⟩, vf, vi 0]), (706, mo 167 [vn 0, vn 0, vi 2, vi 0, vn 0, vi 6]), (750, mc 185 [vi 1, vi 1, vn 0, vn 0, vi 2, vi 0, vi 0, vp 618 0, vi 0, vi 0, vi 1, .func (.func 221) ⟨[vp 750 0]⟩ ⟨[]⟩, vi 1, vf, vi 0, vi 0, vi 0, vf, sn])], 751⟩
set_option maxRecDepth 100000 in
theorem r9 : (e9.fitB && e9.runB (prTab false prB cutF []) Tryz.prog 100000) = true := by decide +kernel
theorem k9 : e9.Fit ∧ EntOk Tryz.prog e9 := Ent.both mixedHere (prTab_ok yes_not prB_ok (okNil)) r9

set_option maxRecDepth 100000 in
def e10 : Ent := ⟨31, 752, [vp 619 0, va [vi 1, vi 0]], turned [] (turned (e9.d.map fun p => (p.1, some p.2)) e9.bl), vt, [(613, mc 246 [pn, vp 755 0]), (619, mc 123 [vp 618 0, vs 628 0 1 openCap, vs 646 0 1 openCap, vs 649 0 1 openCap, vs 650 0 1 openCap, vi 3, vi 1, vs 629 0 5 5]), (750, mc 185 [vi 1, vi 1, vn 0, vn 0, vi 2, vi 0, vi 0, vp 618 0, vi 0, vi 0, vi 1, .func (.func 255) ⟨[vp 750 0]⟩ ⟨[]⟩, vi 2, vf, vi 0, vi 0, vi 0, vf, sn]), (755, mc 248 [vi 0])], 756⟩
set_option maxRecDepth 100000 in
theorem r10 : (e10.fitB && e10.runB (prTab false prB cutF []) Tryz.prog 100000) = true := by decide +kernel
theorem k10 : e10.Fit ∧ EntOk Tryz.prog e10 := Ent.both mixedHere (prTab_ok yes_not prB_ok (okNil)) r10

set_option maxRecDepth 100000 in
def e11 : Ent := ⟨31, 757, [vp 619 0, va [vi 1, vi 0]], turned [] (turned (e10.d.map fun p => (p.1, some p.2)) e10.bl), vt, [(551, mc 4 [vt, vf, vf, vf, vf, vf, vf, vf, vf, vf, vf, vf, vf, vf, vf, vf, vf, vf, vf, vf, vf, vf, vf, vf]), (552, mc 295 [vs 600 0 23 openCap, vs 551 0 24 24]), (600, mo 3 [vi 1, vi 3, vi 2, vi 7, vi 4, vi 5, vi 6, vi 15, vi 8, vi 9, vi 10, vi 11, vi 12, vi 13, vi 14, vi 23, vi 16, vi 17, vi 18, vi 19, vi 20, vi 21, vi 22, vi 0]), (601, .map [⟨vi 0, vi 1, 0⟩] 1), (607, .map [⟨va [vn 0, vn 0], vp 818 0, 0⟩] 1), (619, mc 123 [vp 618 0, vs 628 0 1 openCap, vs 646 0 1 openCap, vs 649 0 1 openCap, vs 650 0 1 openCap, vi 4, vi 1, vs 629 0 5 5]), (750, mc 185 [vi 1, vi 1, vn 0, vn 0, vi 2, vi 0, vi 0, vp 618 0, vi 0, vi 0, vi 1, .func (.func 275) ⟨[vp 750 0]⟩ ⟨[]⟩, vi 3, vf, vi 0, vi 0, vi 1, vf, sn]), (818, mc 161 [vn 0, vn 0, vs 824 0 1 openCap, vi 0]), (824, mo 163 [vi 0, vi 1, vi 2, vi 2, vi 0])], 833⟩
set_option maxRecDepth 100000 in
theorem r11 : (e11.fitB && e11.runB (prTab false prB cutF []) Tryz.prog 100000) = true := by decide +kernel
theorem k11 : e11.Fit ∧ EntOk Tryz.prog e11 := Ent.both mixedHere (prTab_ok yes_not prB_ok (okNil)) r11

set_option maxRecDepth 100000 in
def e12 : Ent := ⟨31, 834, [vp 619 0, va [vi 1, vi 0]], turned [] (turned (e11.d.map fun p => (p.1, some p.2)) e11.bl), vt, [(613, mc 246 [pn, pn]), (615, mc 183 [vp 897 0]), (618, mc 101 [vp 602 0, vp 614 0, vp 612 0, vp 617 0, vs 615 0 1 1, (.map (some 616)), vi 2]), (619, mc 123 [vp 618 0, vs 628 0 1 openCap, vs 646 0 1 openCap, vs 649 0 1 openCap, vs 650 0 1 openCap, vi 5, vi 1, vs 629 0 5 5]), (624, mc 92 [vp 618 0, vi 0, vi 1, sn, vs 841 0 1 openCap, vp 623 0, vp 656 0]), (656, mc 111 [vs 706 0 1 openCap, sn, vi 1, vi 1, vi 0, vn 0, vi 6, vi 0, vi 0, vi 1, vi 1, vi 0, vn 0, vi 6, vi 0, vi 0, vi 0, .func (.func 50) ⟨[vp 624 0]⟩ ⟨[]⟩, .func (.func 51) ⟨[vp 624 0]⟩ ⟨[]⟩, vt, vi 0]), (706, mo 167 [vi 0, vn 0, vi 6, vi 0, vi 0, vi 0]), (750, mc 185 [vi 1, vi 1, vn 0, vn 0, vi 2, vi 0, vi 0, vp 618 0, vi 0, vi 0, vi 1, .func (.func 275) ⟨[vp 750 0]⟩ ⟨[]⟩, vi 3, vf, vi 0, vi 0, vi 1, vt, sn]), (841, mo 48 [vi 1, vn 0, vn 0, vi 2]), (897, mc 185 [vi 1, vi 1, vi 0, vn 0, vi 6, vi 0, vi 0, vp 618 0, vi 0, vi 1, vi 1, .func (.func 221) ⟨[vp 897 0]⟩ ⟨[]⟩, vi 1, vf, vi 0, vi 0, vi 0, vf, sn])], 898⟩
set_option maxRecDepth 100000 in
theorem r12 : (e12.fitB && e12.runB (prTab false prB cutF []) Tryz.prog 100000) = true := by decide +kernel
theorem k12 : e12.Fit ∧ EntOk Tryz.prog e12 := Ent.both mixedHere (prTab_ok yes_not prB_ok (okNil)) r12

set_option maxRecDepth 100000 in
def e13 : Ent := ⟨31, 899, [vp 619 0, va [vi 1, vi 0]], turned [(750, none), (755, none)] (turned (e12.d.map fun p => (p.1, some p.2)) e12.bl), vt, [(613, mc 246 [pn, vp 902 0]), (619, mc 123 [vp 618 0, vs 628 0 1 openCap, vs 646 0 1 openCap, vs 649 0 1 openCap, vs 650 0 1 openCap, vi 6, vi 1, vs 629 0 5 5]), (897, mc 185 [vi 1, vi 1, vi 0, vn 0, vi 6, vi 0, vi 0, vp 618 0, vi 0, vi 1, vi 1, .func (.func 255) ⟨[vp 897 0]⟩ ⟨[]⟩, vi 2, vf, vi 0, vi 0, vi 0, vf, sn]), (902, mc 248 [vi 0])], 903⟩
set_option maxRecDepth 100000 in
theorem r13 : (e13.fitB && e13.runB (prTab false prB cutF []) Tryz.prog 100000) = true := by decide +kernel
theorem k13 : e13.Fit ∧ EntOk Tryz.prog e13 := Ent.both mixedHere (prTab_ok yes_not prB_ok (okNil)) r13

set_option maxRecDepth 100000 in
def e14 : Ent := ⟨31, 904, [vp 619 0, va [vi 1, vi 0]], turned [] (turned (e13.d.map fun p => (p.1, some p.2)) e13.bl), vt, [(551, mc 4 [vt, vt, vf, vf, vf, vf, vf, vf, vf, vf, vf, vf, vf, vf, vf, vf, vf, vf, vf, vf, vf, vf, vf, vf]), (552, mc 295 [vs 600 0 22 openCap, vs 551 0 24 24]), (600, mo 3 [vi 2, vi 3, vi 5, vi 7, vi 4, vi 11, vi 6, vi 15, vi 8, vi 9, vi 10, vi 22, vi 12, vi 13, vi 14, vi 23, vi 16, vi 17, vi 18, vi 19, vi 20, vi 21, vi 1, vi 0]), (601, .map [⟨vi 0, vi 1, 0⟩, ⟨vi 1, vi 1, 1⟩] 2), (607, .map [⟨va [vn 0, vn 0], vp 818 0, 0⟩, ⟨va [vi 0, vn 0], vp 977 0, 1⟩] 2), (619, mc 123 [vp 618 0, vs 628 0 1 openCap, vs 646 0 1 openCap, vs 649 0 1 openCap, vs 650 0 1 openCap, vi 7, vi 1, vs 629 0 5 5]), (649, mo 3 [vi 6]), (650, mo 3 [vi 1]), (897, mc 185 [vi 1, vi 1, vi 0, vn 0, vi 6, vi 0, vi 0, vp 618 0, vi 0, vi 1, vi 1, .func (.func 275) ⟨[vp 897 0]⟩ ⟨[]⟩, vi 3, vf, vi 0, vi 0, vi 1, vf, sn]), (977, mc 161 [vi 0, vn 0, vs 983 0 1 openCap, vi 0]), (983, mo 163 [vi 1, vi 1, vi 6, vi 6, vi 0])], 992⟩
set_option maxRecDepth 100000 in
theorem r14 : (e14.fitB && e14.runB (prTab false prB cutF []) Tryz.prog 100000) = true := by decide +kernel
theorem k14 : e14.Fit ∧ EntOk Tryz.prog e14 := Ent.both mixedHere (prTab_ok yes_not prB_ok (okNil)) r14

set_option maxRecDepth 100000 in
def e15 : Ent := ⟨31, 993, [vp 619 0, va [vi 1, vi 0]], turned [] (turned (e14.d.map fun p => (p.1, some p.2)) e14.bl), vt, [(613, mc 246 [pn, pn]), (615, mc 183 [pn]), (619, mc 123 [vp 618 0, vs 628 0 1 openCap, vs 1028 0 2 openCap, vs 649 0 1 openCap, vs 650 0 1 openCap, vi 8, vi 1, vs 629 0 5 5]), (624, mc 92 [vp 618 0, vi 0, vi 1, vs 1026 0 1 openCap, vs 1007 0 2 openCap, vp 623 0, pn]), (646, (.dead 9 64)), (656, mc 111 [vs 706 0 0 openCap, sn, vi 1, vi 1, vi 0, vn 0, vi 6, vi 0, vi 0, vi 1, vi 1, vi 0, vn 0, vi 6, vi 0, vi 0, vi 0, .func (.func 50) ⟨[vp 624 0]⟩ ⟨[]⟩, .func (.func 51) ⟨[vp 624 0]⟩ ⟨[]⟩, vt, vi 1]), (706, mo 167 [vi 0, vi 0, vi 0, vi 0, vi 0, vi 0]), (897, mc 185 [vi 1, vi 1, vi 0, vn 0, vi 6, vi 0, vi 0, vp 618 0, vi 0, vi 1, vi 1, .func (.func 275) ⟨[vp 897 0]⟩ ⟨[]⟩, vi 3, vf, vi 0, vi 0, vi 1, vt, sn]), (1007, mo 48 [vi 1, vn 0, vn 0, vi 2, vi 1, vi 0, vn 0, vi 6]), (1026, mo 48 [vi 1, vi 0, vn 0, vi 6]), (1028, mo 64 [vi 0, vi 0, vt, vi 1, vi 1, vi 0, vn 0, vi 6, vi 0, vi 0, vi 0, vf, vi 0, vi 0, vi 0, vi 0, vi 0, vi 1])], 1029⟩
set_option maxRecDepth 100000 in
theorem r15 : (e15.fitB && e15.runB (prTab false prB cutF []) Tryz.prog 100000) = true := by decide +kernel
theorem k15 : e15.Fit ∧ EntOk Tryz.prog e15 := Ent.both mixedHere (prTab_ok yes_not prB_ok (okNil)) r15

end Go.Proofs
