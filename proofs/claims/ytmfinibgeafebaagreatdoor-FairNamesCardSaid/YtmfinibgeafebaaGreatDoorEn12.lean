/-
  PROVED HERE: calls of the run, one by one: what each answers, and which blocks it leaves otherwise.
-/
import Derived.Test.YtmfinibgeafebaaGreatDoorEn0
set_option linter.unusedVariables false
set_option linter.unusedSimpArgs false
namespace Go.Proofs
open Go.Vai

set_option maxRecDepth 100000 in
def e66 : Ent := ⟨394, 3795, [vp 146 0, va [vi 1, vi 1]], [(78, mc 4 [vt, vt, vt, vf, vt, vf, vf, vf, vf, vf, vf, vf, vf, vf, vf, vf, vf, vf, vf, vf, vf, vf, vf, vf]), (79, mc 236 [vs 127 0 20 openCap, vs 78 0 24 24]), (127, mo 3 [vi 3, vi 5, vi 11, vi 7, vi 6, vi 12, vi 13, vi 15, vi 8, vi 9, vi 10, vi 22, vi 18, vi 21, vi 14, vi 23, vi 16, vi 20, vi 17, vi 19, vi 3, vi 2, vi 1, vi 0]), (128, .map [⟨vi 0, vi 1, 0⟩, ⟨vi 1, vi 1, 1⟩, ⟨vi 2, vi 1, 2⟩, ⟨vi 3, vi 0, 3⟩, ⟨vi 4, vi 0, 4⟩, ⟨vi 5, vi 1, 5⟩] 6), (129, mc 173 [vi 2, vi 8, vi 24, vi 2, vp 79 0, vs 137 0 2 openCap, (.map (some 128))]), (130, .map [⟨va [vi 1, vn 0], vp 3638 0, 0⟩] 1), (131, mc 241 [vi 8, vp 79 0, (.map (some 130))]), (134, .map [⟨va [vn 0, vn 0], vp 795 0, 0⟩, ⟨va [vi 0, vn 0], vp 3174 0, 1⟩] 2), (135, mc 241 [vi 8, vp 79 0, (.map (some 134))]), (137, mo 174 [vp 131 0, vp 135 0]), (138, mc 3 [vi 1, vi 2]), (139, mc 178 [vs 138 0 2 2]), (140, mc 338 [pn, pn]), (141, mc 181 [vs 140 0 2 2]), (142, mc 211 [vp 1663 0, vp 3421 0]), (143, .map [⟨vi 4, vi 0, 0⟩, ⟨vi 5, vi 1, 1⟩] 2), (144, mc 185 [vi 16, sn]), (145, mc 133 [vp 129 0, vp 141 0, vp 139 0, vp 144 0, vs 142 0 2 2, (.map (some 143)), vi 7]), (146, mc 81 [vp 145 0, vs 164 0 2 openCap, vs 3372 0 8 openCap, vs 3375 0 5 openCap, vs 3376 0 5 openCap, vi 65, vi 2, vs 165 0 5 5]), (149, mc 188 [sn]), (150, mc 190 [vp 149 0, vn 0, vi 2]), (151, mc 141 [vp 145 0, vi 0, vi 1, vs 1373 0 1 openCap, vs 1354 0 2 openCap, vp 150 0, vp 1561 0]), (152, mo 54 [vi 1, vn 0, vn 0, vi 0, vi 0, vi 0, vi 9, vi 0, vn 0, vi 6, vi 0, vi 0, vi 9, vi 1, vn 0, vi 6, vi 0, vi 0]), (153, mc 87 [vp 151 0, vp 146 0, vi 0, vs 152 0 3 openCap, vi 3, vi 2, vf]), (158, mc 188 [sn]), (159, mc 190 [vp 158 0, vn 1, vi 2]), (160, mc 141 [vp 145 0, vi 1, vi 2, vs 1413 0 1 openCap, vs 1394 0 2 openCap, vp 159 0, vp 3379 0]), (161, mo 54 [vi 1, vn 0, vn 0, vi 0, vi 0, vi 0, vi 9, vi 1, vn 0, vi 6, vi 0, vi 0, vi 9, vi 0, vn 0, vi 6, vi 0, vi 0]), (162, mc 87 [vp 160 0, vp 146 0, vi 1, vs 161 0 3 openCap, vi 3, vi 4, vf]), (164, mo 85 [vp 153 0, vp 162 0]), (165, mc 88 [.nilFunc, .func (.func 26) ⟨[vp 146 0]⟩ ⟨[]⟩, .func (.func 27) ⟨[vp 146 0]⟩ ⟨[]⟩, .func (.func 28) ⟨[vp 146 0]⟩ ⟨[]⟩, .func (.func 29) ⟨[vp 146 0]⟩ ⟨[]⟩]), (795, mc 218 [vn 0, vn 0, vs 801 0 2 openCap, vi 0]), (801, mo 220 [vi 0, vi 1, vi 2, vi 2, vi 0, vi 1, vi 2, vi 2, vi 2, vi 0]), (1354, mo 347 [vi 1, vn 0, vn 0, vi 2, vi 1, vi 0, vn 0, vi 6]), (1373, mo 347 [vi 1, vi 0, vn 0, vi 6]), (1394, mo 347 [vi 2, vn 0, vn 0, vi 2, vi 2, vi 1, vn 0, vi 6]), (1413, mo 347 [vi 2, vi 1, vn 0, vi 6]), (1561, mc 247 [vs 1612 0 1 openCap, sn, vi 1, vi 1, vi 1, vn 0, vi 6, vi 0, vi 0, vi 1, vi 1, vi 1, vn 0, vi 6, vi 0, vi 0, vi 0, .func (.func 140) ⟨[vp 151 0]⟩ ⟨[]⟩, .func (.func 141) ⟨[vp 151 0]⟩ ⟨[]⟩, vf, vi 0]), (1612, mo 344 [vi 1, vn 0, vi 6]), (1663, mc 210 [vi 1, vi 1, vi 1, vn 0, vi 6, vi 0, vi 0, vp 145 0, vi 0, vi 4, vi 0, .func (.func 275) ⟨[vp 1663 0]⟩ ⟨[]⟩, vi 1, vt, vi 4, vi 0, vi 0, vf, sn]), (3174, mc 218 [vi 0, vn 0, vs 3180 0 1 openCap, vi 1]), (3180, mo 220 [vi 2, vi 1, vi 6, vi 6, vi 0]), (3372, mo 196 [vi 0, vi 0, vt, vi 1, vi 1, vi 0, vn 0, vi 6, vi 0, vi 1, vi 1, vt, vi 1, vi 2, vi 1, vn 0, vi 6, vi 0, vi 0, vi 0, vf, vi 0, vi 0, vi 0, vi 0, vi 0, vi 1, vi 1, vi 1, vf, vi 0, vi 0, vi 0, vi 0, vi 0, vi 1, vi 2, vi 0, vt, vi 1, vi 1, vi 1, vn 0, vi 6, vi 0, vi 3, vi 1, vt, vi 1, vi 2, vi 0, vn 0, vi 6, vi 0, vi 3, vi 1, vf, vi 0, vi 0, vi 0, vi 0, vi 0, vi 4, vi 4, vi 1, vt, vi 3, vi 2, vi 0, vi 0, vi 0, vi 0]), (3375, mo 3 [vi 24, vi 25, vn 0, vi 53, vi 61]), (3376, mo 3 [vi 1, vi 1, vi 0, vi 4, vi 1]), (3379, mc 247 [sn, vs 3381 0 2 openCap, vi 3, vi 2, vi 0, vi 0, vi 0, vi 0, vi 0, vi 2, vi 2, vi 1, vn 0, vi 0, vi 0, vi 0, vi 0, .func (.func 200) ⟨[vp 160 0]⟩ ⟨[]⟩, .func (.func 147) ⟨[]⟩ ⟨[]⟩, vf, vi 0]), (3381, mo 347 [vi 2, vi 1, vn 0, vi 6, vi 2, vn 0, vn 0, vi 2]), (3421, mc 210 [vi 2, vi 2, vi 1, vn 0, vi 0, vi 0, vi 0, vp 145 0, vi 1, vi 6, vi 0, .func (.func 325) ⟨[vp 3421 0]⟩ ⟨[]⟩, vi 4, vf, vi 0, vi 0, vi 1, vf, vs 3664 0 1 openCap]), (3638, mc 218 [vi 1, vn 0, vs 3644 0 1 openCap, vi 1]), (3644, mo 220 [vi 4, vi 1, vi 6, vi 6, vi 0]), (3664, mo 3 [vi 4])], vt, [(138, mc 3 [vi 0, vi 2]), (142, mc 211 [vp 1663 0, vp 3825 0]), (145, mc 133 [vp 129 0, vp 141 0, vp 139 0, vp 144 0, vs 142 0 2 2, (.map (some 143)), vi 8]), (146, mc 81 [vp 145 0, vs 164 0 2 openCap, vs 3372 0 8 openCap, vs 3375 0 5 openCap, vs 3376 0 5 openCap, vi 66, vi 2, vs 165 0 5 5]), (160, mc 141 [vp 145 0, vi 1, vi 2, vs 1413 0 1 openCap, vs 3801 0 1 openCap, vp 159 0, vp 3379 0]), (3379, mc 247 [sn, vs 3381 4 1 openCap, vi 3, vi 2, vi 0, vi 0, vi 0, vi 0, vi 0, vi 3, vi 2, vn 0, vn 0, vi 0, vi 0, vn 1, vi 0, .func (.func 200) ⟨[vp 160 0]⟩ ⟨[]⟩, .func (.func 147) ⟨[]⟩ ⟨[]⟩, vt, vi 0]), (3421, mc 210 [vi 2, vi 2, vi 1, vn 0, vi 0, vi 0, vi 0, vp 145 0, vi 1, vi 6, vi 0, .func (.func 325) ⟨[vp 3421 0]⟩ ⟨[]⟩, vi 4, vf, vi 0, vi 0, vi 1, vt, vs 3664 1 0 1267650600228229401496703205378]), (3801, mo 347 [vi 2, vn 0, vn 0, vi 2, vi 0, vi 0, vi 0, vi 0]), (3825, mc 210 [vi 3, vi 2, vn 0, vn 0, vi 0, vi 0, vn 1, vp 145 0, vi 1, vi 7, vi 1, .func (.func 275) ⟨[vp 3825 0]⟩ ⟨[]⟩, vi 1, vf, vi 0, vi 0, vi 0, vf, sn])], 3826⟩
set_option maxRecDepth 100000 in
theorem ran66 : (e66.fitB && e66.runB (prTab false prB cutF []) Tryz.prog 100000) = true := by decide +kernel
theorem k66 : e66.Fit ∧ EntOk Tryz.prog e66 := Ent.both mixedHere (prTab_ok yes_not prB_ok (okNil)) ran66

set_option maxRecDepth 100000 in
def e67 : Ent := ⟨394, 3827, [vp 146 0, va [vi 2, vi 1]], turned [(1394, none), (3421, none), (3664, none)] (turned (e66.d.map fun p => (p.1, some p.2)) e66.bl), vt, [(144, mc 185 [vi 17, sn]), (146, mc 81 [vp 145 0, vs 164 0 2 openCap, vs 3372 0 8 openCap, vs 3375 0 5 openCap, vs 3376 0 5 openCap, vi 67, vi 2, vs 165 0 5 5])], 3831⟩
set_option maxRecDepth 100000 in
theorem ran67 : (e67.fitB && e67.runB (prTab false prB cutF []) Tryz.prog 100000) = true := by decide +kernel
theorem k67 : e67.Fit ∧ EntOk Tryz.prog e67 := Ent.both mixedHere (prTab_ok yes_not prB_ok (okNil)) ran67

set_option maxRecDepth 100000 in
def e68 : Ent := ⟨394, 3832, [vp 146 0, va [vi 4, vi 0]], turned [] (turned (e67.d.map fun p => (p.1, some p.2)) e67.bl), vf, [(146, mc 81 [vp 145 0, vs 164 0 2 openCap, vs 3372 0 8 openCap, vs 3375 0 5 openCap, vs 3376 0 5 openCap, vi 68, vi 2, vs 165 0 5 5])], 3949⟩
set_option maxRecDepth 100000 in
theorem ran68 : (e68.fitB && e68.runB (prTab false prB cutF []) Tryz.prog 100000) = true := by decide +kernel
theorem k68 : e68.Fit ∧ EntOk Tryz.prog e68 := Ent.both mixedHere (prTab_ok yes_not prB_ok (okNil)) ran68

set_option maxRecDepth 100000 in
def e69 : Ent := ⟨394, 3951, [vp 146 0, va [vi 1, vi 0]], turned [] (turned (e68.d.map fun p => (p.1, some p.2)) e68.bl), vt, [(140, mc 338 [vp 3956 0, pn]), (146, mc 81 [vp 145 0, vs 164 0 2 openCap, vs 3372 0 8 openCap, vs 3375 0 5 openCap, vs 3376 0 5 openCap, vi 69, vi 2, vs 165 0 5 5]), (1663, mc 210 [vi 1, vi 1, vi 1, vn 0, vi 6, vi 0, vi 0, vp 145 0, vi 0, vi 4, vi 0, .func (.func 288) ⟨[vp 1663 0]⟩ ⟨[]⟩, vi 2, vt, vi 4, vi 0, vi 0, vf, sn]), (3956, mc 340 [vi 0])], 3957⟩
set_option maxRecDepth 100000 in
theorem ran69 : (e69.fitB && e69.runB (prTab false prB cutF []) Tryz.prog 100000) = true := by decide +kernel
theorem k69 : e69.Fit ∧ EntOk Tryz.prog e69 := Ent.both mixedHere (prTab_ok yes_not prB_ok (okNil)) ran69

set_option maxRecDepth 100000 in
def e70 : Ent := ⟨394, 3959, [vp 146 0, va [vi 1, vi 1]], turned [] (turned (e69.d.map fun p => (p.1, some p.2)) e69.bl), vt, [(140, mc 338 [vp 3956 0, vp 3964 0]), (146, mc 81 [vp 145 0, vs 164 0 2 openCap, vs 3372 0 8 openCap, vs 3375 0 5 openCap, vs 3376 0 5 openCap, vi 70, vi 2, vs 165 0 5 5]), (3825, mc 210 [vi 3, vi 2, vn 0, vn 0, vi 0, vi 0, vn 1, vp 145 0, vi 1, vi 7, vi 1, .func (.func 288) ⟨[vp 3825 0]⟩ ⟨[]⟩, vi 2, vf, vi 0, vi 0, vi 0, vf, sn]), (3964, mc 340 [vi 1])], 3965⟩
set_option maxRecDepth 100000 in
theorem ran70 : (e70.fitB && e70.runB (prTab false prB cutF []) Tryz.prog 100000) = true := by decide +kernel
theorem k70 : e70.Fit ∧ EntOk Tryz.prog e70 := Ent.both mixedHere (prTab_ok yes_not prB_ok (okNil)) ran70

set_option maxRecDepth 100000 in
def e71 : Ent := ⟨394, 3966, [vp 146 0, va [vi 2, vi 1]], turned [] (turned (e70.d.map fun p => (p.1, some p.2)) e70.bl), vt, [(144, mc 185 [vi 18, sn]), (146, mc 81 [vp 145 0, vs 164 0 2 openCap, vs 3372 0 8 openCap, vs 3375 0 5 openCap, vs 3376 0 5 openCap, vi 71, vi 2, vs 165 0 5 5])], 3970⟩
set_option maxRecDepth 100000 in
theorem ran71 : (e71.fitB && e71.runB (prTab false prB cutF []) Tryz.prog 100000) = true := by decide +kernel
theorem k71 : e71.Fit ∧ EntOk Tryz.prog e71 := Ent.both mixedHere (prTab_ok yes_not prB_ok (okNil)) ran71

end Go.Proofs
