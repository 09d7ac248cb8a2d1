/-
  PROVED HERE: calls of the run, one by one: what each answers, and which blocks it leaves otherwise.
-/
import Derived.Test.YtmfinibgeafebaaGreatDoorEn0
set_option linter.unusedVariables false
set_option linter.unusedSimpArgs false
namespace Go.Proofs
open Go.Vai

set_option maxRecDepth 100000 in
def e6 : Ent := ⟨394, 329, [vp 146 0, va [vi 1, vi 1]], [(78, mc 4 [vf, vf, vf, vf, vf, vf, vf, vf, vf, vf, vf, vf, vf, vf, vf, vf, vf, vf, vf, vf, vf, vf, vf, vf]), (79, mc 236 [vs 127 0 24 openCap, vs 78 0 24 24]), (127, mo 3 [vi 0, vi 1, vi 2, vi 3, vi 4, vi 5, vi 6, vi 7, vi 8, vi 9, vi 10, vi 11, vi 12, vi 13, vi 14, vi 15, vi 16, vi 17, vi 18, vi 19, vi 20, vi 21, vi 22, vi 23]), (128, .map [] 0), (129, mc 173 [vi 2, vi 8, vi 24, vi 2, vp 79 0, vs 137 0 2 openCap, (.map (some 128))]), (130, .map [] 0), (131, mc 241 [vi 8, vp 79 0, (.map (some 130))]), (134, .map [] 0), (135, mc 241 [vi 8, vp 79 0, (.map (some 134))]), (137, mo 174 [vp 131 0, vp 135 0]), (138, mc 3 [vi 0, vi 0]), (139, mc 178 [vs 138 0 2 2]), (140, mc 338 [pn, pn]), (141, mc 181 [vs 140 0 2 2]), (142, mc 211 [vp 326 0, pn]), (143, .map [] 0), (144, mc 185 [vi 1, sn]), (145, mc 133 [vp 129 0, vp 141 0, vp 139 0, vp 144 0, vs 142 0 2 2, (.map (some 143)), vi 1]), (146, mc 81 [vp 145 0, vs 164 0 2 openCap, vs 222 0 1 openCap, vs 225 0 1 openCap, vs 226 0 1 openCap, vi 5, vi 2, vs 165 0 5 5]), (149, mc 188 [sn]), (150, mc 190 [vp 149 0, vn 0, vi 2]), (151, mc 141 [vp 145 0, vi 0, vi 1, sn, sn, vp 150 0, vp 232 0]), (152, mo 54 [vi 1, vn 0, vn 0, vi 0, vi 0, vi 0, vi 9, vi 0, vn 0, vi 6, vi 0, vi 0, vi 9, vi 1, vn 0, vi 6, vi 0, vi 0]), (153, mc 87 [vp 151 0, vp 146 0, vi 0, vs 152 0 3 openCap, vi 2, vi 0, vf]), (158, mc 188 [sn]), (159, mc 190 [vp 158 0, vn 1, vi 2]), (160, mc 141 [vp 145 0, vi 1, vi 2, sn, sn, vp 159 0, pn]), (161, mo 54 [vi 1, vn 0, vn 0, vi 0, vi 0, vi 0, vi 9, vi 1, vn 0, vi 6, vi 0, vi 0, vi 9, vi 0, vn 0, vi 6, vi 0, vi 0]), (162, mc 87 [vp 160 0, vp 146 0, vi 1, vs 161 0 3 openCap, vi 1, vi 0, vf]), (164, mo 85 [vp 153 0, vp 162 0]), (165, mc 88 [.nilFunc, .func (.func 26) ⟨[vp 146 0]⟩ ⟨[]⟩, .func (.func 27) ⟨[vp 146 0]⟩ ⟨[]⟩, .func (.func 28) ⟨[vp 146 0]⟩ ⟨[]⟩, .func (.func 29) ⟨[vp 146 0]⟩ ⟨[]⟩]), (222, mo 196 [vi 0, vi 0, vt, vi 1, vi 1, vi 0, vn 0, vi 6, vi 0]), (225, mo 3 [vn 0]), (226, mo 3 [vi 0]), (232, mc 247 [vs 282 0 2 openCap, sn, vi 1, vi 1, vi 0, vn 0, vi 6, vi 0, vi 0, vi 1, vi 1, vn 0, vn 0, vi 2, vi 0, vi 0, vi 0, .func (.func 140) ⟨[vp 151 0]⟩ ⟨[]⟩, .func (.func 141) ⟨[vp 151 0]⟩ ⟨[]⟩, vf, vi 0]), (282, mo 344 [vn 0, vn 0, vi 2, vi 0, vn 0, vi 6]), (326, mc 210 [vi 1, vi 1, vn 0, vn 0, vi 2, vi 0, vi 0, vp 145 0, vi 0, vi 0, vi 1, .func (.func 275) ⟨[vp 326 0]⟩ ⟨[]⟩, vi 1, vf, vi 0, vi 0, vi 0, vf, sn])], vt, [(142, mc 211 [vp 326 0, vp 443 0]), (145, mc 133 [vp 129 0, vp 141 0, vp 139 0, vp 144 0, vs 142 0 2 2, (.map (some 143)), vi 2]), (146, mc 81 [vp 145 0, vs 164 0 2 openCap, vs 339 0 2 openCap, vs 342 0 2 openCap, vs 343 0 2 openCap, vi 6, vi 2, vs 165 0 5 5]), (160, mc 141 [vp 145 0, vi 1, vi 2, sn, sn, vp 159 0, vp 349 0]), (162, mc 87 [vp 160 0, vp 146 0, vi 1, vs 161 0 3 openCap, vi 2, vi 1, vf]), (222, (.dead 9 196)), (225, (.dead 1 3)), (226, (.dead 1 3)), (339, mo 196 [vi 0, vi 0, vt, vi 1, vi 1, vi 0, vn 0, vi 6, vi 0, vi 1, vi 1, vt, vi 1, vi 2, vi 1, vn 0, vi 6, vi 0]), (342, mo 3 [vn 0, vn 0]), (343, mo 3 [vi 0, vi 0]), (349, mc 247 [vs 399 0 2 openCap, sn, vi 1, vi 2, vi 1, vn 0, vi 6, vi 0, vi 0, vi 1, vi 2, vn 0, vn 0, vi 2, vi 0, vi 0, vi 0, .func (.func 140) ⟨[vp 160 0]⟩ ⟨[]⟩, .func (.func 141) ⟨[vp 160 0]⟩ ⟨[]⟩, vf, vi 0]), (399, mo 344 [vn 0, vn 0, vi 2, vi 1, vn 0, vi 6]), (443, mc 210 [vi 1, vi 2, vn 0, vn 0, vi 2, vi 0, vi 0, vp 145 0, vi 1, vi 1, vi 1, .func (.func 275) ⟨[vp 443 0]⟩ ⟨[]⟩, vi 1, vf, vi 0, vi 0, vi 0, vf, sn])], 444⟩
set_option maxRecDepth 100000 in
theorem ran6 : (e6.fitB && e6.runB (prTab false prB cutF []) Tryz.prog 100000) = true := by decide +kernel
theorem k6 : e6.Fit ∧ EntOk Tryz.prog e6 := Ent.both mixedHere (prTab_ok yes_not prB_ok (okNil)) ran6

set_option maxRecDepth 100000 in
def e7 : Ent := ⟨394, 445, [vp 146 0, va [vi 2, vi 1]], turned [(222, none), (225, none), (226, none)] (turned (e6.d.map fun p => (p.1, some p.2)) e6.bl), vt, [(144, mc 185 [vi 2, sn]), (146, mc 81 [vp 145 0, vs 164 0 2 openCap, vs 339 0 2 openCap, vs 342 0 2 openCap, vs 343 0 2 openCap, vi 7, vi 2, vs 165 0 5 5])], 449⟩
set_option maxRecDepth 100000 in
theorem ran7 : (e7.fitB && e7.runB (prTab false prB cutF []) Tryz.prog 100000) = true := by decide +kernel
theorem k7 : e7.Fit ∧ EntOk Tryz.prog e7 := Ent.both mixedHere (prTab_ok yes_not prB_ok (okNil)) ran7

set_option maxRecDepth 100000 in
def e8 : Ent := ⟨394, 450, [vp 146 0, va [vi 4, vi 0]], turned [] (turned (e7.d.map fun p => (p.1, some p.2)) e7.bl), vf, [(146, mc 81 [vp 145 0, vs 164 0 2 openCap, vs 339 0 2 openCap, vs 342 0 2 openCap, vs 343 0 2 openCap, vi 8, vi 2, vs 165 0 5 5])], 460⟩
set_option maxRecDepth 100000 in
theorem ran8 : (e8.fitB && e8.runB (prTab false prB cutF []) Tryz.prog 100000) = true := by decide +kernel
theorem k8 : e8.Fit ∧ EntOk Tryz.prog e8 := Ent.both mixedHere (prTab_ok yes_not prB_ok (okNil)) ran8

set_option maxRecDepth 100000 in
def e9 : Ent := ⟨394, 462, [vp 146 0, va [vi 1, vi 0]], turned [] (turned (e8.d.map fun p => (p.1, some p.2)) e8.bl), vt, [(140, mc 338 [pn, vp 467 0]), (146, mc 81 [vp 145 0, vs 164 0 2 openCap, vs 339 0 2 openCap, vs 342 0 2 openCap, vs 343 0 2 openCap, vi 9, vi 2, vs 165 0 5 5]), (326, mc 210 [vi 1, vi 1, vn 0, vn 0, vi 2, vi 0, vi 0, vp 145 0, vi 0, vi 0, vi 1, .func (.func 288) ⟨[vp 326 0]⟩ ⟨[]⟩, vi 2, vf, vi 0, vi 0, vi 0, vf, sn]), (467, mc 340 [vi 0])], 468⟩
set_option maxRecDepth 100000 in
theorem ran9 : (e9.fitB && e9.runB (prTab false prB cutF []) Tryz.prog 100000) = true := by decide +kernel
theorem k9 : e9.Fit ∧ EntOk Tryz.prog e9 := Ent.both mixedHere (prTab_ok yes_not prB_ok (okNil)) ran9

set_option maxRecDepth 100000 in
def e10 : Ent := ⟨394, 470, [vp 146 0, va [vi 1, vi 1]], turned [] (turned (e9.d.map fun p => (p.1, some p.2)) e9.bl), vt, [(78, mc 4 [vt, vf, vf, vf, vf, vf, vf, vf, vf, vf, vf, vf, vf, vf, vf, vf, vf, vf, vf, vf, vf, vf, vf, vf]), (79, mc 236 [vs 127 0 23 openCap, vs 78 0 24 24]), (127, mo 3 [vi 1, vi 3, vi 2, vi 7, vi 4, vi 5, vi 6, vi 15, vi 8, vi 9, vi 10, vi 11, vi 12, vi 13, vi 14, vi 23, vi 16, vi 17, vi 18, vi 19, vi 20, vi 21, vi 22, vi 0]), (128, .map [⟨vi 0, vi 1, 0⟩] 1), (134, .map [⟨va [vn 0, vn 0], vp 531 0, 0⟩] 1), (146, mc 81 [vp 145 0, vs 164 0 2 openCap, vs 339 0 2 openCap, vs 342 0 2 openCap, vs 343 0 2 openCap, vi 10, vi 2, vs 165 0 5 5]), (326, mc 210 [vi 1, vi 1, vn 0, vn 0, vi 2, vi 0, vi 0, vp 145 0, vi 0, vi 0, vi 1, .func (.func 298) ⟨[vp 326 0]⟩ ⟨[]⟩, vi 3, vf, vi 0, vi 0, vi 1, vf, sn]), (531, mc 218 [vn 0, vn 0, vs 537 0 1 openCap, vi 0]), (537, mo 220 [vi 0, vi 1, vi 2, vi 2, vi 0])], 546⟩
set_option maxRecDepth 100000 in
theorem ran10 : (e10.fitB && e10.runB (prTab false prB cutF []) Tryz.prog 100000) = true := by decide +kernel
theorem k10 : e10.Fit ∧ EntOk Tryz.prog e10 := Ent.both mixedHere (prTab_ok yes_not prB_ok (okNil)) ran10

set_option maxRecDepth 100000 in
def e11 : Ent := ⟨394, 547, [vp 146 0, va [vi 2, vi 1]], turned [] (turned (e10.d.map fun p => (p.1, some p.2)) e10.bl), vt, [(144, mc 185 [vi 3, sn]), (146, mc 81 [vp 145 0, vs 164 0 2 openCap, vs 339 0 2 openCap, vs 342 0 2 openCap, vs 343 0 2 openCap, vi 11, vi 2, vs 165 0 5 5])], 551⟩
set_option maxRecDepth 100000 in
theorem ran11 : (e11.fitB && e11.runB (prTab false prB cutF []) Tryz.prog 100000) = true := by decide +kernel
theorem k11 : e11.Fit ∧ EntOk Tryz.prog e11 := Ent.both mixedHere (prTab_ok yes_not prB_ok (okNil)) ran11

end Go.Proofs
