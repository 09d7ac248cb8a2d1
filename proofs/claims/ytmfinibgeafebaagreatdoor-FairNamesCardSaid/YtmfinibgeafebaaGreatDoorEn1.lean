/-
  PROVED HERE: calls of the run, one by one: what each answers, and which blocks it leaves otherwise.
-/
import Derived.Test.YtmfinibgeafebaaGreatDoorEn0
set_option linter.unusedVariables false
set_option linter.unusedSimpArgs false
namespace Go.Proofs
open Go.Vai

set_option maxRecDepth 100000 in
def e0 : Ent := ⟨16, 49, [va [vs 41 0 2 2, sn, vi 2, vi 8, vi 24, vi 2]], [(33, mc 54 [vi 1, vn 0, vn 0, vi 0, vi 0, vi 0, vi 9, vi 0, vn 0, vi 6, vi 0, vi 0, vi 9, vi 1, vn 0, vi 6, vi 0, vi 0]), (40, mc 54 [vi 1, vn 0, vn 0, vi 0, vi 0, vi 0, vi 9, vi 1, vn 0, vi 6, vi 0, vi 0, vi 9, vi 0, vn 0, vi 6, vi 0, vi 0]), (41, mc 57 [vs 33 0 3 3, vs 40 0 3 3])], vv [vp 146 0, vi 0], [(78, mc 4 [vf, vf, vf, vf, vf, vf, vf, vf, vf, vf, vf, vf, vf, vf, vf, vf, vf, vf, vf, vf, vf, vf, vf, vf]), (79, mc 236 [vs 127 0 24 openCap, vs 78 0 24 24]), (127, mo 3 [vi 0, vi 1, vi 2, vi 3, vi 4, vi 5, vi 6, vi 7, vi 8, vi 9, vi 10, vi 11, vi 12, vi 13, vi 14, vi 15, vi 16, vi 17, vi 18, vi 19, vi 20, vi 21, vi 22, vi 23]), (128, .map [] 0), (129, mc 173 [vi 2, vi 8, vi 24, vi 2, vp 79 0, vs 137 0 2 openCap, (.map (some 128))]), (130, .map [] 0), (131, mc 241 [vi 8, vp 79 0, (.map (some 130))]), (134, .map [] 0), (135, mc 241 [vi 8, vp 79 0, (.map (some 134))]), (137, mo 174 [vp 131 0, vp 135 0]), (138, mc 3 [vi 0, vi 0]), (139, mc 178 [vs 138 0 2 2]), (140, mc 338 [pn, pn]), (141, mc 181 [vs 140 0 2 2]), (142, mc 211 [pn, pn]), (143, .map [] 0), (144, mc 185 [vi 0, sn]), (145, mc 133 [vp 129 0, vp 141 0, vp 139 0, vp 144 0, vs 142 0 2 2, (.map (some 143)), vi 0]), (146, mc 81 [vp 145 0, vs 164 0 2 openCap, sn, sn, sn, vi 0, vi 0, vs 165 0 5 5]), (149, mc 188 [sn]), (150, mc 190 [vp 149 0, vn 0, vi 2]), (151, mc 141 [vp 145 0, vi 0, vi 0, sn, sn, vp 150 0, pn]), (152, mo 54 [vi 1, vn 0, vn 0, vi 0, vi 0, vi 0, vi 9, vi 0, vn 0, vi 6, vi 0, vi 0, vi 9, vi 1, vn 0, vi 6, vi 0, vi 0]), (153, mc 87 [vp 151 0, vp 146 0, vi 0, vs 152 0 3 openCap, vi 0, vi 0, vf]), (158, mc 188 [sn]), (159, mc 190 [vp 158 0, vn 1, vi 2]), (160, mc 141 [vp 145 0, vi 1, vi 0, sn, sn, vp 159 0, pn]), (161, mo 54 [vi 1, vn 0, vn 0, vi 0, vi 0, vi 0, vi 9, vi 1, vn 0, vi 6, vi 0, vi 0, vi 9, vi 0, vn 0, vi 6, vi 0, vi 0]), (162, mc 87 [vp 160 0, vp 146 0, vi 1, vs 161 0 3 openCap, vi 0, vi 0, vf]), (164, mo 85 [vp 153 0, vp 162 0]), (165, mc 88 [.nilFunc, .func (.func 26) ⟨[vp 146 0]⟩ ⟨[]⟩, .func (.func 27) ⟨[vp 146 0]⟩ ⟨[]⟩, .func (.func 28) ⟨[vp 146 0]⟩ ⟨[]⟩, .func (.func 29) ⟨[vp 146 0]⟩ ⟨[]⟩])], 166⟩
set_option maxRecDepth 100000 in
theorem ran0 : (e0.fitB && e0.runB (prTab false prB cutF []) Tryz.prog 100000) = true := by decide +kernel
theorem k0 : e0.Fit ∧ EntOk Tryz.prog e0 := Ent.both mixedHere (prTab_ok yes_not prB_ok (okNil)) ran0

set_option maxRecDepth 100000 in
def e1 : Ent := ⟨394, 176, [vp 146 0, va [vi 1, vi 0]], turned [(33, none), (40, none), (41, none)] (turned (e0.d.map fun p => (p.1, some p.2)) e0.bl), vt, [(146, mc 81 [vp 145 0, vs 164 0 2 openCap, sn, sn, sn, vi 1, vi 1, vs 165 0 5 5]), (151, mc 141 [vp 145 0, vi 0, vi 1, sn, sn, vp 150 0, pn]), (153, mc 87 [vp 151 0, vp 146 0, vi 0, vs 152 0 3 openCap, vi 1, vi 0, vf])], 184⟩
set_option maxRecDepth 100000 in
theorem ran1 : (e1.fitB && e1.runB (prTab false prB cutF []) Tryz.prog 100000) = true := by decide +kernel
theorem k1 : e1.Fit ∧ EntOk Tryz.prog e1 := Ent.both mixedHere (prTab_ok yes_not prB_ok (okNil)) ran1

set_option maxRecDepth 100000 in
def e2 : Ent := ⟨394, 186, [vp 146 0, va [vi 1, vi 1]], turned [] (turned (e1.d.map fun p => (p.1, some p.2)) e1.bl), vt, [(146, mc 81 [vp 145 0, vs 164 0 2 openCap, sn, sn, sn, vi 2, vi 2, vs 165 0 5 5]), (160, mc 141 [vp 145 0, vi 1, vi 2, sn, sn, vp 159 0, pn]), (162, mc 87 [vp 160 0, vp 146 0, vi 1, vs 161 0 3 openCap, vi 1, vi 0, vf])], 194⟩
set_option maxRecDepth 100000 in
theorem ran2 : (e2.fitB && e2.runB (prTab false prB cutF []) Tryz.prog 100000) = true := by decide +kernel
theorem k2 : e2.Fit ∧ EntOk Tryz.prog e2 := Ent.both mixedHere (prTab_ok yes_not prB_ok (okNil)) ran2

set_option maxRecDepth 100000 in
def e3 : Ent := ⟨394, 195, [vp 146 0, va [vi 2, vi 1]], turned [] (turned (e2.d.map fun p => (p.1, some p.2)) e2.bl), vt, [(144, mc 185 [vi 1, sn]), (146, mc 81 [vp 145 0, vs 164 0 2 openCap, sn, sn, sn, vi 3, vi 2, vs 165 0 5 5])], 199⟩
set_option maxRecDepth 100000 in
theorem ran3 : (e3.fitB && e3.runB (prTab false prB cutF []) Tryz.prog 100000) = true := by decide +kernel
theorem k3 : e3.Fit ∧ EntOk Tryz.prog e3 := Ent.both mixedHere (prTab_ok yes_not prB_ok (okNil)) ran3

set_option maxRecDepth 100000 in
def e4 : Ent := ⟨394, 200, [vp 146 0, va [vi 4, vi 0]], turned [] (turned (e3.d.map fun p => (p.1, some p.2)) e3.bl), vf, [(146, mc 81 [vp 145 0, vs 164 0 2 openCap, sn, sn, sn, vi 4, vi 2, vs 165 0 5 5])], 210⟩
set_option maxRecDepth 100000 in
theorem ran4 : (e4.fitB && e4.runB (prTab false prB cutF []) Tryz.prog 100000) = true := by decide +kernel
theorem k4 : e4.Fit ∧ EntOk Tryz.prog e4 := Ent.both mixedHere (prTab_ok yes_not prB_ok (okNil)) ran4

set_option maxRecDepth 100000 in
def e5 : Ent := ⟨394, 212, [vp 146 0, va [vi 1, vi 0]], turned [] (turned (e4.d.map fun p => (p.1, some p.2)) e4.bl), vt, [(142, mc 211 [vp 326 0, pn]), (145, mc 133 [vp 129 0, vp 141 0, vp 139 0, vp 144 0, vs 142 0 2 2, (.map (some 143)), vi 1]), (146, mc 81 [vp 145 0, vs 164 0 2 openCap, vs 222 0 1 openCap, vs 225 0 1 openCap, vs 226 0 1 openCap, vi 5, vi 2, vs 165 0 5 5]), (151, mc 141 [vp 145 0, vi 0, vi 1, sn, sn, vp 150 0, vp 232 0]), (153, mc 87 [vp 151 0, vp 146 0, vi 0, vs 152 0 3 openCap, vi 2, vi 0, vf]), (222, mo 196 [vi 0, vi 0, vt, vi 1, vi 1, vi 0, vn 0, vi 6, vi 0]), (225, mo 3 [vn 0]), (226, mo 3 [vi 0]), (232, mc 247 [vs 282 0 2 openCap, sn, vi 1, vi 1, vi 0, vn 0, vi 6, vi 0, vi 0, vi 1, vi 1, vn 0, vn 0, vi 2, vi 0, vi 0, vi 0, .func (.func 140) ⟨[vp 151 0]⟩ ⟨[]⟩, .func (.func 141) ⟨[vp 151 0]⟩ ⟨[]⟩, vf, vi 0]), (282, mo 344 [vn 0, vn 0, vi 2, vi 0, vn 0, vi 6]), (326, mc 210 [vi 1, vi 1, vn 0, vn 0, vi 2, vi 0, vi 0, vp 145 0, vi 0, vi 0, vi 1, .func (.func 275) ⟨[vp 326 0]⟩ ⟨[]⟩, vi 1, vf, vi 0, vi 0, vi 0, vf, sn])], 327⟩
set_option maxRecDepth 100000 in
theorem ran5 : (e5.fitB && e5.runB (prTab false prB cutF []) Tryz.prog 100000) = true := by decide +kernel
theorem k5 : e5.Fit ∧ EntOk Tryz.prog e5 := Ent.both mixedHere (prTab_ok yes_not prB_ok (okNil)) ran5

end Go.Proofs
