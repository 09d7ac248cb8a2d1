/-
  PROVED HERE: calls of the run, one by one: what each answers, and which blocks it leaves otherwise.
-/
import Derived.Test.YtmfinibgeafebaaGreatDoorEn0
set_option linter.unusedVariables false
set_option linter.unusedSimpArgs false
namespace Go.Proofs
open Go.Vai

set_option maxRecDepth 100000 in
def e12 : Ent := ⟨394, 552, [vp 146 0, va [vi 4, vi 0]], [(78, mc 4 [vt, vf, vf, vf, vf, vf, vf, vf, vf, vf, vf, vf, vf, vf, vf, vf, vf, vf, vf, vf, vf, vf, vf, vf]), (79, mc 236 [vs 127 0 23 openCap, vs 78 0 24 24]), (127, mo 3 [vi 1, vi 3, vi 2, vi 7, vi 4, vi 5, vi 6, vi 15, vi 8, vi 9, vi 10, vi 11, vi 12, vi 13, vi 14, vi 23, vi 16, vi 17, vi 18, vi 19, vi 20, vi 21, vi 22, vi 0]), (128, .map [⟨vi 0, vi 1, 0⟩] 1), (129, mc 173 [vi 2, vi 8, vi 24, vi 2, vp 79 0, vs 137 0 2 openCap, (.map (some 128))]), (130, .map [] 0), (131, mc 241 [vi 8, vp 79 0, (.map (some 130))]), (134, .map [⟨va [vn 0, vn 0], vp 531 0, 0⟩] 1), (135, mc 241 [vi 8, vp 79 0, (.map (some 134))]), (137, mo 174 [vp 131 0, vp 135 0]), (138, mc 3 [vi 0, vi 0]), (139, mc 178 [vs 138 0 2 2]), (140, mc 338 [pn, vp 467 0]), (141, mc 181 [vs 140 0 2 2]), (142, mc 211 [vp 326 0, vp 443 0]), (143, .map [] 0), (144, mc 185 [vi 3, sn]), (145, mc 133 [vp 129 0, vp 141 0, vp 139 0, vp 144 0, vs 142 0 2 2, (.map (some 143)), vi 2]), (146, mc 81 [vp 145 0, vs 164 0 2 openCap, vs 339 0 2 openCap, vs 342 0 2 openCap, vs 343 0 2 openCap, vi 11, vi 2, vs 165 0 5 5]), (149, mc 188 [sn]), (150, mc 190 [vp 149 0, vn 0, vi 2]), (151, mc 141 [vp 145 0, vi 0, vi 1, sn, sn, vp 150 0, vp 232 0]), (152, mo 54 [vi 1, vn 0, vn 0, vi 0, vi 0, vi 0, vi 9, vi 0, vn 0, vi 6, vi 0, vi 0, vi 9, vi 1, vn 0, vi 6, vi 0, vi 0]), (153, mc 87 [vp 151 0, vp 146 0, vi 0, vs 152 0 3 openCap, vi 2, vi 0, vf]), (158, mc 188 [sn]), (159, mc 190 [vp 158 0, vn 1, vi 2]), (160, mc 141 [vp 145 0, vi 1, vi 2, sn, sn, vp 159 0, vp 349 0]), (161, mo 54 [vi 1, vn 0, vn 0, vi 0, vi 0, vi 0, vi 9, vi 1, vn 0, vi 6, vi 0, vi 0, vi 9, vi 0, vn 0, vi 6, vi 0, vi 0]), (162, mc 87 [vp 160 0, vp 146 0, vi 1, vs 161 0 3 openCap, vi 2, vi 1, vf]), (164, mo 85 [vp 153 0, vp 162 0]), (165, mc 88 [.nilFunc, .func (.func 26) ⟨[vp 146 0]⟩ ⟨[]⟩, .func (.func 27) ⟨[vp 146 0]⟩ ⟨[]⟩, .func (.func 28) ⟨[vp 146 0]⟩ ⟨[]⟩, .func (.func 29) ⟨[vp 146 0]⟩ ⟨[]⟩]), (232, mc 247 [vs 282 0 2 openCap, sn, vi 1, vi 1, vi 0, vn 0, vi 6, vi 0, vi 0, vi 1, vi 1, vn 0, vn 0, vi 2, vi 0, vi 0, vi 0, .func (.func 140) ⟨[vp 151 0]⟩ ⟨[]⟩, .func (.func 141) ⟨[vp 151 0]⟩ ⟨[]⟩, vf, vi 0]), (282, mo 344 [vn 0, vn 0, vi 2, vi 0, vn 0, vi 6]), (326, mc 210 [vi 1, vi 1, vn 0, vn 0, vi 2, vi 0, vi 0, vp 145 0, vi 0, vi 0, vi 1, .func (.func 298) ⟨[vp 326 0]⟩ ⟨[]⟩, vi 3, vf, vi 0, vi 0, vi 1, vf, sn]), (339, mo 196 [vi 0, vi 0, vt, vi 1, vi 1, vi 0, vn 0, vi 6, vi 0, vi 1, vi 1, vt, vi 1, vi 2, vi 1, vn 0, vi 6, vi 0]), (342, mo 3 [vn 0, vn 0]), (343, mo 3 [vi 0, vi 0]), (349, mc 247 [vs 399 0 2 openCap, sn, vi 1, vi 2, vi 1, vn 0, vi 6, vi 0, vi 0, vi 1, vi 2, vn 0, vn 0, vi 2, vi 0, vi 0, vi 0, .func (.func 140) ⟨[vp 160 0]⟩ ⟨[]⟩, .func (.func 141) ⟨[vp 160 0]⟩ ⟨[]⟩, vf, vi 0]), (399, mo 344 [vn 0, vn 0, vi 2, vi 1, vn 0, vi 6]), (443, mc 210 [vi 1, vi 2, vn 0, vn 0, vi 2, vi 0, vi 0, vp 145 0, vi 1, vi 1, vi 1, .func (.func 275) ⟨[vp 443 0]⟩ ⟨[]⟩, vi 1, vf, vi 0, vi 0, vi 0, vf, sn]), (467, mc 340 [vi 0]), (531, mc 218 [vn 0, vn 0, vs 537 0 1 openCap, vi 0]), (537, mo 220 [vi 0, vi 1, vi 2, vi 2, vi 0])], vf, [(146, mc 81 [vp 145 0, vs 164 0 2 openCap, vs 339 0 2 openCap, vs 342 0 2 openCap, vs 343 0 2 openCap, vi 12, vi 2, vs 165 0 5 5])], 588⟩
set_option maxRecDepth 100000 in
theorem ran12 : (e12.fitB && e12.runB (prTab false prB cutF []) Tryz.prog 100000) = true := by decide +kernel
theorem k12 : e12.Fit ∧ EntOk Tryz.prog e12 := Ent.both mixedHere (prTab_ok yes_not prB_ok (okNil)) ran12

set_option maxRecDepth 100000 in
def e13 : Ent := ⟨394, 590, [vp 146 0, va [vi 1, vi 0]], turned [] (turned (e12.d.map fun p => (p.1, some p.2)) e12.bl), vt, [(140, mc 338 [pn, pn]), (142, mc 211 [vp 653 0, vp 443 0]), (145, mc 133 [vp 129 0, vp 141 0, vp 139 0, vp 144 0, vs 142 0 2 2, (.map (some 143)), vi 3]), (146, mc 81 [vp 145 0, vs 164 0 2 openCap, vs 339 0 2 openCap, vs 342 0 2 openCap, vs 343 0 2 openCap, vi 13, vi 2, vs 165 0 5 5]), (151, mc 141 [vp 145 0, vi 0, vi 1, sn, vs 597 0 1 openCap, vp 150 0, vp 232 0]), (232, mc 247 [vs 282 0 1 openCap, sn, vi 1, vi 1, vi 0, vn 0, vi 6, vi 0, vi 0, vi 1, vi 1, vi 0, vn 0, vi 6, vi 0, vi 0, vi 0, .func (.func 140) ⟨[vp 151 0]⟩ ⟨[]⟩, .func (.func 141) ⟨[vp 151 0]⟩ ⟨[]⟩, vt, vi 0]), (282, mo 344 [vi 0, vn 0, vi 6, vi 0, vi 0, vi 0]), (326, mc 210 [vi 1, vi 1, vn 0, vn 0, vi 2, vi 0, vi 0, vp 145 0, vi 0, vi 0, vi 1, .func (.func 298) ⟨[vp 326 0]⟩ ⟨[]⟩, vi 3, vf, vi 0, vi 0, vi 1, vt, sn]), (597, mo 347 [vi 1, vn 0, vn 0, vi 2]), (653, mc 210 [vi 1, vi 1, vi 0, vn 0, vi 6, vi 0, vi 0, vp 145 0, vi 0, vi 2, vi 1, .func (.func 275) ⟨[vp 653 0]⟩ ⟨[]⟩, vi 1, vf, vi 0, vi 0, vi 0, vf, sn])], 654⟩
set_option maxRecDepth 100000 in
theorem ran13 : (e13.fitB && e13.runB (prTab false prB cutF []) Tryz.prog 100000) = true := by decide +kernel
theorem k13 : e13.Fit ∧ EntOk Tryz.prog e13 := Ent.both mixedHere (prTab_ok yes_not prB_ok (okNil)) ran13

set_option maxRecDepth 100000 in
def e14 : Ent := ⟨394, 656, [vp 146 0, va [vi 1, vi 1]], turned [(326, none), (467, none)] (turned (e13.d.map fun p => (p.1, some p.2)) e13.bl), vt, [(140, mc 338 [pn, vp 661 0]), (146, mc 81 [vp 145 0, vs 164 0 2 openCap, vs 339 0 2 openCap, vs 342 0 2 openCap, vs 343 0 2 openCap, vi 14, vi 2, vs 165 0 5 5]), (443, mc 210 [vi 1, vi 2, vn 0, vn 0, vi 2, vi 0, vi 0, vp 145 0, vi 1, vi 1, vi 1, .func (.func 288) ⟨[vp 443 0]⟩ ⟨[]⟩, vi 2, vf, vi 0, vi 0, vi 0, vf, sn]), (661, mc 340 [vi 1])], 662⟩
set_option maxRecDepth 100000 in
theorem ran14 : (e14.fitB && e14.runB (prTab false prB cutF []) Tryz.prog 100000) = true := by decide +kernel
theorem k14 : e14.Fit ∧ EntOk Tryz.prog e14 := Ent.both mixedHere (prTab_ok yes_not prB_ok (okNil)) ran14

set_option maxRecDepth 100000 in
def e15 : Ent := ⟨394, 663, [vp 146 0, va [vi 2, vi 1]], turned [] (turned (e14.d.map fun p => (p.1, some p.2)) e14.bl), vt, [(144, mc 185 [vi 4, sn]), (146, mc 81 [vp 145 0, vs 164 0 2 openCap, vs 339 0 2 openCap, vs 342 0 2 openCap, vs 343 0 2 openCap, vi 15, vi 2, vs 165 0 5 5])], 667⟩
set_option maxRecDepth 100000 in
theorem ran15 : (e15.fitB && e15.runB (prTab false prB cutF []) Tryz.prog 100000) = true := by decide +kernel
theorem k15 : e15.Fit ∧ EntOk Tryz.prog e15 := Ent.both mixedHere (prTab_ok yes_not prB_ok (okNil)) ran15

set_option maxRecDepth 100000 in
def e16 : Ent := ⟨394, 668, [vp 146 0, va [vi 4, vi 0]], turned [] (turned (e15.d.map fun p => (p.1, some p.2)) e15.bl), vf, [(146, mc 81 [vp 145 0, vs 164 0 2 openCap, vs 339 0 2 openCap, vs 342 0 2 openCap, vs 343 0 2 openCap, vi 16, vi 2, vs 165 0 5 5])], 704⟩
set_option maxRecDepth 100000 in
theorem ran16 : (e16.fitB && e16.runB (prTab false prB cutF []) Tryz.prog 100000) = true := by decide +kernel
theorem k16 : e16.Fit ∧ EntOk Tryz.prog e16 := Ent.both mixedHere (prTab_ok yes_not prB_ok (okNil)) ran16

set_option maxRecDepth 100000 in
def e17 : Ent := ⟨394, 706, [vp 146 0, va [vi 1, vi 0]], turned [] (turned (e16.d.map fun p => (p.1, some p.2)) e16.bl), vt, [(78, mc 4 [vt, vt, vf, vf, vf, vf, vf, vf, vf, vf, vf, vf, vf, vf, vf, vf, vf, vf, vf, vf, vf, vf, vf, vf]), (79, mc 236 [vs 127 0 22 openCap, vs 78 0 24 24]), (127, mo 3 [vi 2, vi 3, vi 5, vi 7, vi 4, vi 11, vi 6, vi 15, vi 8, vi 9, vi 10, vi 22, vi 12, vi 13, vi 14, vi 23, vi 16, vi 17, vi 18, vi 19, vi 20, vi 21, vi 1, vi 0]), (128, .map [⟨vi 0, vi 1, 0⟩, ⟨vi 1, vi 1, 1⟩] 2), (134, .map [⟨va [vn 0, vn 0], vp 795 0, 0⟩] 1), (146, mc 81 [vp 145 0, vs 164 0 2 openCap, vs 339 0 2 openCap, vs 342 0 2 openCap, vs 343 0 2 openCap, vi 17, vi 2, vs 165 0 5 5]), (443, mc 210 [vi 1, vi 2, vn 0, vn 0, vi 2, vi 0, vi 0, vp 145 0, vi 1, vi 1, vi 1, .func (.func 298) ⟨[vp 443 0]⟩ ⟨[]⟩, vi 3, vf, vi 0, vi 0, vi 1, vf, sn]), (795, mc 218 [vn 0, vn 0, vs 801 0 2 openCap, vi 0]), (801, mo 220 [vi 0, vi 1, vi 2, vi 2, vi 0, vi 1, vi 2, vi 2, vi 2, vi 0])], 816⟩
set_option maxRecDepth 100000 in
theorem ran17 : (e17.fitB && e17.runB (prTab false prB cutF []) Tryz.prog 100000) = true := by decide +kernel
theorem k17 : e17.Fit ∧ EntOk Tryz.prog e17 := Ent.both mixedHere (prTab_ok yes_not prB_ok (okNil)) ran17

end Go.Proofs
