/-
  PROVED HERE: calls of the run, one by one: what each answers, and which blocks it leaves otherwise.
-/
import Derived.Test.YtmfinibgeafebaaGreatDoorEn0
set_option linter.unusedVariables false
set_option linter.unusedSimpArgs false
namespace Go.Proofs
open Go.Vai

set_option maxRecDepth 100000 in
def e90 : Ent := ⟨394, 4980, [vp 146 0, va [vi 1, vi 1]], [(78, mc 4 [vt, vt, vf, vf, vt, vf, vf, vf, vf, vf, vf, vf, vf, vf, vf, vf, vf, vf, vf, vf, vf, vf, vf, vf]), (79, mc 236 [vs 127 0 21 openCap, vs 78 0 24 24]), (127, mo 3 [vi 2, vi 3, vi 11, vi 7, vi 5, vi 12, vi 13, vi 15, vi 8, vi 6, vi 10, vi 22, vi 18, vi 21, vi 14, vi 23, vi 16, vi 20, vi 17, vi 19, vi 9, vi 2, vi 1, vi 0]), (128, .map [⟨vi 0, vi 1, 0⟩, ⟨vi 1, vi 1, 1⟩, ⟨vi 2, vi 1, 2⟩, ⟨vi 3, vi 0, 3⟩, ⟨vi 4, vi 0, 4⟩, ⟨vi 5, vi 1, 5⟩] 6), (129, mc 173 [vi 2, vi 8, vi 24, vi 2, vp 79 0, vs 137 0 2 openCap, (.map (some 128))]), (130, .map [⟨va [vi 1, vn 0], vp 3638 0, 0⟩] 1), (131, mc 241 [vi 8, vp 79 0, (.map (some 130))]), (134, .map [⟨va [vn 0, vn 0], vp 4234 0, 0⟩] 2), (135, mc 241 [vi 8, vp 79 0, (.map (some 134))]), (137, mo 174 [vp 131 0, vp 135 0]), (138, mc 3 [vi 0, vi 2]), (139, mc 178 [vs 138 0 2 2]), (140, mc 338 [vp 4977 0, pn]), (141, mc 181 [vs 140 0 2 2]), (142, mc 211 [vp 4885 0, pn]), (143, .map [⟨vi 4, vi 0, 0⟩, ⟨vi 5, vi 1, 1⟩] 2), (144, mc 185 [vi 22, sn]), (145, mc 133 [vp 129 0, vp 141 0, vp 139 0, vp 144 0, vs 142 0 2 2, (.map (some 143)), vi 10]), (146, mc 81 [vp 145 0, vs 164 0 2 openCap, vs 4589 0 11 openCap, vs 4592 0 6 openCap, vs 4593 0 6 openCap, vi 89, vi 2, vs 165 0 5 5]), (149, mc 188 [sn]), (150, mc 190 [vp 149 0, vn 0, vi 2]), (151, mc 141 [vp 145 0, vi 0, vi 1, vs 4429 0 2 openCap, vs 4859 0 2 openCap, vp 150 0, vp 4596 0]), (152, mo 54 [vi 1, vn 0, vn 0, vi 0, vi 0, vi 0, vi 9, vi 0, vn 0, vi 6, vi 0, vi 0, vi 9, vi 1, vn 0, vi 6, vi 0, vi 0]), (153, mc 87 [vp 151 0, vp 146 0, vi 0, vs 152 0 3 openCap, vi 3, vi 5, vf]), (158, mc 188 [vs 4455 0 1 openCap]), (159, mc 190 [vp 158 0, vn 1, vi 2]), (160, mc 141 [vp 145 0, vi 1, vi 0, sn, sn, vp 159 0, pn]), (161, mo 54 [vi 1, vn 0, vn 0, vi 0, vi 0, vi 0, vi 9, vi 1, vn 0, vi 6, vi 0, vi 0, vi 9, vi 0, vn 0, vi 6, vi 0, vi 0]), (162, mc 87 [vp 160 0, vp 146 0, vi 1, vs 161 0 3 openCap, vi 3, vi 4, vf]), (164, mo 85 [vp 153 0, vp 162 0]), (165, mc 88 [.nilFunc, .func (.func 26) ⟨[vp 146 0]⟩ ⟨[]⟩, .func (.func 27) ⟨[vp 146 0]⟩ ⟨[]⟩, .func (.func 28) ⟨[vp 146 0]⟩ ⟨[]⟩, .func (.func 29) ⟨[vp 146 0]⟩ ⟨[]⟩]), (3638, mc 218 [vi 1, vn 0, vs 3644 0 1 openCap, vi 1]), (3644, mo 220 [vi 4, vi 1, vi 6, vi 6, vi 0]), (4234, mc 218 [vn 0, vn 0, vs 4240 0 2 openCap, vi 0]), (4240, mo 220 [vi 0, vi 1, vi 2, vi 2, vi 0, vi 1, vn 1, vi 2, vi 2, vi 0]), (4429, mo 347 [vi 1, vi 0, vn 0, vi 6, vi 1, vi 1, vn 0, vi 6]), (4455, mo 347 [vn 1, vn 0, vn 0, vi 2]), (4589, mo 196 [vi 0, vi 0, vt, vi 1, vi 1, vi 0, vn 0, vi 6, vi 0, vi 1, vi 1, vt, vi 1, vi 2, vi 1, vn 0, vi 6, vi 0, vi 0, vi 0, vf, vi 0, vi 0, vi 0, vi 0, vi 0, vi 1, vi 1, vi 1, vf, vi 0, vi 0, vi 0, vi 0, vi 0, vi 1, vi 2, vi 0, vt, vi 1, vi 1, vi 1, vn 0, vi 6, vi 0, vi 3, vi 1, vt, vi 1, vi 2, vi 0, vn 0, vi 6, vi 0, vi 3, vi 1, vf, vi 0, vi 0, vi 0, vi 0, vi 0, vi 4, vi 4, vi 1, vt, vi 3, vi 2, vi 0, vi 0, vi 0, vi 0, vi 2, vi 0, vf, vi 0, vi 0, vi 0, vi 0, vi 0, vi 1, vi 4, vi 1, vf, vi 0, vi 0, vi 0, vi 0, vi 0, vi 1, vi 5, vi 0, vt, vi 3, vi 1, vi 0, vi 0, vi 0, vi 0]), (4592, mo 3 [vi 24, vi 25, vi 72, vi 53, vi 61, vi 84]), (4593, mo 3 [vi 1, vi 1, vi 1, vi 4, vi 1, vi 1]), (4596, mc 247 [sn, vs 4598 4 2 openCap, vi 3, vi 1, vi 0, vi 0, vi 0, vi 0, vi 0, vi 2, vi 1, vi 1, vn 0, vi 0, vi 0, vi 0, vi 0, .func (.func 200) ⟨[vp 151 0]⟩ ⟨[]⟩, .func (.func 147) ⟨[]⟩ ⟨[]⟩, vt, vi 0]), (4598, mo 347 [vi 1, vi 0, vn 0, vi 6, vi 1, vi 1, vn 0, vi 6, vi 1, vn 0, vn 0, vi 2]), (4859, mo 347 [vi 1, vn 0, vn 0, vi 2, vi 1, vi 1, vn 0, vi 6, vi 0, vi 0, vi 0, vi 0]), (4885, mc 210 [vi 2, vi 1, vi 1, vn 0, vi 0, vi 0, vi 0, vp 145 0, vi 0, vi 9, vi 0, .func (.func 288) ⟨[vp 4885 0]⟩ ⟨[]⟩, vi 2, vf, vi 0, vi 0, vi 0, vf, sn]), (4977, mc 340 [vi 0])], vt, [(78, mc 4 [vt, vt, vf, vf, vf, vf, vf, vf, vf, vf, vf, vf, vf, vf, vf, vf, vf, vf, vf, vf, vf, vf, vf, vf]), (79, mc 236 [vs 127 0 22 openCap, vs 78 0 24 24]), (127, mo 3 [vi 2, vi 3, vi 11, vi 7, vi 4, vi 12, vi 13, vi 15, vi 8, vi 6, vi 5, vi 22, vi 18, vi 21, vi 14, vi 23, vi 16, vi 20, vi 17, vi 19, vi 9, vi 10, vi 1, vi 0]), (130, .map [] 1), (146, mc 81 [vp 145 0, vs 164 0 2 openCap, vs 4589 0 11 openCap, vs 4592 0 6 openCap, vs 4593 0 6 openCap, vi 90, vi 2, vs 165 0 5 5]), (4885, mc 210 [vi 2, vi 1, vi 1, vn 0, vi 0, vi 0, vi 0, vp 145 0, vi 0, vi 9, vi 0, .func (.func 298) ⟨[vp 4885 0]⟩ ⟨[]⟩, vi 3, vf, vi 0, vi 0, vi 1, vf, sn])], 5029⟩
set_option maxRecDepth 100000 in
theorem ran90 : (e90.fitB && e90.runB (prTab false prB cutF []) Tryz.prog 100000) = true := by decide +kernel
theorem k90 : e90.Fit ∧ EntOk Tryz.prog e90 := Ent.both mixedHere (prTab_ok yes_not prB_ok (okNil)) ran90

set_option maxRecDepth 100000 in
def e91 : Ent := ⟨394, 5030, [vp 146 0, va [vi 2, vi 1]], turned [(3638, none), (3644, none)] (turned (e90.d.map fun p => (p.1, some p.2)) e90.bl), vt, [(144, mc 185 [vi 23, sn]), (146, mc 81 [vp 145 0, vs 164 0 2 openCap, vs 4589 0 11 openCap, vs 4592 0 6 openCap, vs 4593 0 6 openCap, vi 91, vi 2, vs 165 0 5 5])], 5034⟩
set_option maxRecDepth 100000 in
theorem ran91 : (e91.fitB && e91.runB (prTab false prB cutF []) Tryz.prog 100000) = true := by decide +kernel
theorem k91 : e91.Fit ∧ EntOk Tryz.prog e91 := Ent.both mixedHere (prTab_ok yes_not prB_ok (okNil)) ran91

set_option maxRecDepth 100000 in
def e92 : Ent := ⟨394, 5035, [vp 146 0, va [vi 4, vi 0]], turned [] (turned (e91.d.map fun p => (p.1, some p.2)) e91.bl), vf, [(146, mc 81 [vp 145 0, vs 164 0 2 openCap, vs 4589 0 11 openCap, vs 4592 0 6 openCap, vs 4593 0 6 openCap, vi 92, vi 2, vs 165 0 5 5])], 5084⟩
set_option maxRecDepth 100000 in
theorem ran92 : (e92.fitB && e92.runB (prTab false prB cutF []) Tryz.prog 100000) = true := by decide +kernel
theorem k92 : e92.Fit ∧ EntOk Tryz.prog e92 := Ent.both mixedHere (prTab_ok yes_not prB_ok (okNil)) ran92

set_option maxRecDepth 100000 in
def e93 : Ent := ⟨394, 5086, [vp 146 0, va [vi 1, vi 0]], turned [] (turned (e92.d.map fun p => (p.1, some p.2)) e92.bl), vt, [(140, mc 338 [pn, pn]), (142, mc 211 [vp 5116 0, pn]), (145, mc 133 [vp 129 0, vp 141 0, vp 139 0, vp 144 0, vs 142 0 2 2, (.map (some 143)), vi 11]), (146, mc 81 [vp 145 0, vs 164 0 2 openCap, vs 4589 0 11 openCap, vs 4592 0 6 openCap, vs 4593 0 6 openCap, vi 93, vi 2, vs 165 0 5 5]), (151, mc 141 [vp 145 0, vi 0, vi 1, vs 4429 0 2 openCap, vs 5092 0 1 openCap, vp 150 0, vp 4596 0]), (4596, mc 247 [sn, vs 4598 8 1 openCap, vi 3, vi 1, vi 0, vi 0, vi 0, vi 0, vi 0, vi 3, vi 1, vn 0, vn 0, vi 0, vi 0, vn 0, vi 0, .func (.func 200) ⟨[vp 151 0]⟩ ⟨[]⟩, .func (.func 147) ⟨[]⟩ ⟨[]⟩, vt, vi 0]), (4885, mc 210 [vi 2, vi 1, vi 1, vn 0, vi 0, vi 0, vi 0, vp 145 0, vi 0, vi 9, vi 0, .func (.func 298) ⟨[vp 4885 0]⟩ ⟨[]⟩, vi 3, vf, vi 0, vi 0, vi 1, vt, sn]), (5092, mo 347 [vi 1, vn 0, vn 0, vi 2, vi 0, vi 0, vi 0, vi 0]), (5116, mc 210 [vi 3, vi 1, vn 0, vn 0, vi 0, vi 0, vn 0, vp 145 0, vi 0, vi 10, vi 1, .func (.func 275) ⟨[vp 5116 0]⟩ ⟨[]⟩, vi 1, vf, vi 0, vi 0, vi 0, vf, sn])], 5117⟩
set_option maxRecDepth 100000 in
theorem ran93 : (e93.fitB && e93.runB (prTab false prB cutF []) Tryz.prog 100000) = true := by decide +kernel
theorem k93 : e93.Fit ∧ EntOk Tryz.prog e93 := Ent.both mixedHere (prTab_ok yes_not prB_ok (okNil)) ran93

set_option maxRecDepth 100000 in
def e94 : Ent := ⟨394, 5119, [vp 146 0, va [vi 1, vi 1]], turned [(4859, none), (4885, none), (4977, none)] (turned (e93.d.map fun p => (p.1, some p.2)) e93.bl), vt, [(140, mc 338 [pn, vp 5122 0]), (146, mc 81 [vp 145 0, vs 164 0 2 openCap, vs 4589 0 11 openCap, vs 4592 0 6 openCap, vs 4593 0 6 openCap, vi 94, vi 2, vs 165 0 5 5]), (5116, mc 210 [vi 3, vi 1, vn 0, vn 0, vi 0, vi 0, vn 0, vp 145 0, vi 0, vi 10, vi 1, .func (.func 288) ⟨[vp 5116 0]⟩ ⟨[]⟩, vi 2, vf, vi 0, vi 0, vi 0, vf, sn]), (5122, mc 340 [vi 0])], 5123⟩
set_option maxRecDepth 100000 in
theorem ran94 : (e94.fitB && e94.runB (prTab false prB cutF []) Tryz.prog 100000) = true := by decide +kernel
theorem k94 : e94.Fit ∧ EntOk Tryz.prog e94 := Ent.both mixedHere (prTab_ok yes_not prB_ok (okNil)) ran94

set_option maxRecDepth 100000 in
def e95 : Ent := ⟨394, 5124, [vp 146 0, va [vi 2, vi 1]], turned [] (turned (e94.d.map fun p => (p.1, some p.2)) e94.bl), vt, [(144, mc 185 [vi 24, sn]), (146, mc 81 [vp 145 0, vs 164 0 2 openCap, vs 4589 0 11 openCap, vs 4592 0 6 openCap, vs 4593 0 6 openCap, vi 95, vi 2, vs 165 0 5 5])], 5128⟩
set_option maxRecDepth 100000 in
theorem ran95 : (e95.fitB && e95.runB (prTab false prB cutF []) Tryz.prog 100000) = true := by decide +kernel
theorem k95 : e95.Fit ∧ EntOk Tryz.prog e95 := Ent.both mixedHere (prTab_ok yes_not prB_ok (okNil)) ran95

end Go.Proofs
