/-
  PROVED HERE: calls of the run, one by one: what each answers, and which blocks it leaves otherwise.
-/
import Derived.Test.YtmfinibgeafebaaGreatDoorEn0
set_option linter.unusedVariables false
set_option linter.unusedSimpArgs false
namespace Go.Proofs
open Go.Vai

set_option maxRecDepth 100000 in
def e60 : Ent := ⟨394, 3428, [vp 146 0, va [vi 4, vi 0]], [(78, mc 4 [vt, vt, vt, vt, vt, vf, vf, vf, vf, vf, vf, vf, vf, vf, vf, vf, vf, vf, vf, vf, vf, vf, vf, vf]), (79, mc 236 [vs 127 0 19 openCap, vs 78 0 24 24]), (127, mo 3 [vi 5, vi 6, vi 11, vi 7, vi 9, vi 12, vi 13, vi 15, vi 8, vi 19, vi 10, vi 22, vi 18, vi 21, vi 14, vi 23, vi 16, vi 20, vi 17, vi 4, vi 3, vi 2, vi 1, vi 0]), (128, .map [⟨vi 0, vi 1, 0⟩, ⟨vi 1, vi 1, 1⟩, ⟨vi 2, vi 1, 2⟩, ⟨vi 3, vi 0, 3⟩, ⟨vi 4, vi 0, 4⟩, ⟨vi 5, vi 1, 5⟩] 6), (129, mc 173 [vi 2, vi 8, vi 24, vi 2, vp 79 0, vs 137 0 2 openCap, (.map (some 128))]), (130, .map [⟨va [vi 1, vn 0], vp 2186 0, 0⟩] 1), (131, mc 241 [vi 8, vp 79 0, (.map (some 130))]), (134, .map [⟨va [vn 0, vn 0], vp 795 0, 0⟩, ⟨va [vi 0, vn 0], vp 3174 0, 1⟩] 2), (135, mc 241 [vi 8, vp 79 0, (.map (some 134))]), (137, mo 174 [vp 131 0, vp 135 0]), (138, mc 3 [vi 1, vi 2]), (139, mc 178 [vs 138 0 2 2]), (140, mc 338 [pn, pn]), (141, mc 181 [vs 140 0 2 2]), (142, mc 211 [vp 1663 0, vp 3421 0]), (143, .map [⟨vi 4, vi 0, 0⟩, ⟨vi 5, vi 1, 1⟩] 2), (144, mc 185 [vi 15, sn]), (145, mc 133 [vp 129 0, vp 141 0, vp 139 0, vp 144 0, vs 142 0 2 2, (.map (some 143)), vi 7]), (146, mc 81 [vp 145 0, vs 164 0 2 openCap, vs 3372 0 8 openCap, vs 3375 0 5 openCap, vs 3376 0 5 openCap, vi 59, vi 2, vs 165 0 5 5]), (149, mc 188 [sn]), (150, mc 190 [vp 149 0, vn 0, vi 2]), (151, mc 141 [vp 145 0, vi 0, vi 1, vs 1373 0 1 openCap, vs 1354 0 2 openCap, vp 150 0, vp 1561 0]), (152, mo 54 [vi 1, vn 0, vn 0, vi 0, vi 0, vi 0, vi 9, vi 0, vn 0, vi 6, vi 0, vi 0, vi 9, vi 1, vn 0, vi 6, vi 0, vi 0]), (153, mc 87 [vp 151 0, vp 146 0, vi 0, vs 152 0 3 openCap, vi 3, vi 2, vf]), (158, mc 188 [sn]), (159, mc 190 [vp 158 0, vn 1, vi 2]), (160, mc 141 [vp 145 0, vi 1, vi 2, vs 1413 0 1 openCap, vs 1394 0 2 openCap, vp 159 0, vp 3379 0]), (161, mo 54 [vi 1, vn 0, vn 0, vi 0, vi 0, vi 0, vi 9, vi 1, vn 0, vi 6, vi 0, vi 0, vi 9, vi 0, vn 0, vi 6, vi 0, vi 0]), (162, mc 87 [vp 160 0, vp 146 0, vi 1, vs 161 0 3 openCap, vi 3, vi 4, vf]), (164, mo 85 [vp 153 0, vp 162 0]), (165, mc 88 [.nilFunc, .func (.func 26) ⟨[vp 146 0]⟩ ⟨[]⟩, .func (.func 27) ⟨[vp 146 0]⟩ ⟨[]⟩, .func (.func 28) ⟨[vp 146 0]⟩ ⟨[]⟩, .func (.func 29) ⟨[vp 146 0]⟩ ⟨[]⟩]), (795, mc 218 [vn 0, vn 0, vs 801 0 2 openCap, vi 0]), (801, mo 220 [vi 0, vi 1, vi 2, vi 2, vi 0, vi 1, vi 2, vi 2, vi 2, vi 0]), (1354, mo 347 [vi 1, vn 0, vn 0, vi 2, vi 1, vi 0, vn 0, vi 6]), (1373, mo 347 [vi 1, vi 0, vn 0, vi 6]), (1394, mo 347 [vi 2, vn 0, vn 0, vi 2, vi 2, vi 1, vn 0, vi 6]), (1413, mo 347 [vi 2, vi 1, vn 0, vi 6]), (1561, mc 247 [vs 1612 0 1 openCap, sn, vi 1, vi 1, vi 1, vn 0, vi 6, vi 0, vi 0, vi 1, vi 1, vi 1, vn 0, vi 6, vi 0, vi 0, vi 0, .func (.func 140) ⟨[vp 151 0]⟩ ⟨[]⟩, .func (.func 141) ⟨[vp 151 0]⟩ ⟨[]⟩, vf, vi 0]), (1612, mo 344 [vi 1, vn 0, vi 6]), (1663, mc 210 [vi 1, vi 1, vi 1, vn 0, vi 6, vi 0, vi 0, vp 145 0, vi 0, vi 4, vi 0, .func (.func 275) ⟨[vp 1663 0]⟩ ⟨[]⟩, vi 1, vt, vi 4, vi 0, vi 0, vf, sn]), (2186, mc 218 [vi 1, vn 0, vs 2192 0 2 openCap, vi 1]), (2192, mo 220 [vi 3, vi 2, vi 6, vi 6, vi 0, vi 4, vi 1, vi 0, vi 6, vi 1]), (3174, mc 218 [vi 0, vn 0, vs 3180 0 1 openCap, vi 1]), (3180, mo 220 [vi 2, vi 1, vi 6, vi 6, vi 0]), (3372, mo 196 [vi 0, vi 0, vt, vi 1, vi 1, vi 0, vn 0, vi 6, vi 0, vi 1, vi 1, vt, vi 1, vi 2, vi 1, vn 0, vi 6, vi 0, vi 0, vi 0, vf, vi 0, vi 0, vi 0, vi 0, vi 0, vi 1, vi 1, vi 1, vf, vi 0, vi 0, vi 0, vi 0, vi 0, vi 1, vi 2, vi 0, vt, vi 1, vi 1, vi 1, vn 0, vi 6, vi 0, vi 3, vi 1, vt, vi 1, vi 2, vi 0, vn 0, vi 6, vi 0, vi 3, vi 1, vf, vi 0, vi 0, vi 0, vi 0, vi 0, vi 4, vi 4, vi 1, vt, vi 3, vi 2, vi 0, vi 0, vi 0, vi 0]), (3375, mo 3 [vi 24, vi 25, vn 0, vi 53, vn 0]), (3376, mo 3 [vi 1, vi 1, vi 0, vi 4, vi 0]), (3379, mc 247 [sn, vs 3381 0 2 openCap, vi 3, vi 2, vi 0, vi 0, vi 0, vi 0, vi 0, vi 2, vi 2, vi 1, vn 0, vi 0, vi 0, vi 0, vi 0, .func (.func 200) ⟨[vp 160 0]⟩ ⟨[]⟩, .func (.func 147) ⟨[]⟩ ⟨[]⟩, vf, vi 0]), (3381, mo 347 [vi 2, vi 1, vn 0, vi 6, vi 2, vn 0, vn 0, vi 2]), (3421, mc 210 [vi 2, vi 2, vi 1, vn 0, vi 0, vi 0, vi 0, vp 145 0, vi 1, vi 6, vi 0, .func (.func 275) ⟨[vp 3421 0]⟩ ⟨[]⟩, vi 1, vf, vi 0, vi 0, vi 0, vf, sn])], vf, [(146, mc 81 [vp 145 0, vs 164 0 2 openCap, vs 3372 0 8 openCap, vs 3375 0 5 openCap, vs 3376 0 5 openCap, vi 60, vi 2, vs 165 0 5 5])], 3587⟩
set_option maxRecDepth 100000 in
theorem ran60 : (e60.fitB && e60.runB (prTab false prB cutF []) Tryz.prog 100000) = true := by decide +kernel
theorem k60 : e60.Fit ∧ EntOk Tryz.prog e60 := Ent.both mixedHere (prTab_ok yes_not prB_ok (okNil)) ran60

set_option maxRecDepth 100000 in
def e61 : Ent := ⟨394, 3589, [vp 146 0, va [vi 1, vi 0]], turned [] (turned (e60.d.map fun p => (p.1, some p.2)) e60.bl), vt, [(140, mc 338 [vp 3592 0, pn]), (146, mc 81 [vp 145 0, vs 164 0 2 openCap, vs 3372 0 8 openCap, vs 3375 0 5 openCap, vs 3376 0 5 openCap, vi 61, vi 2, vs 165 0 5 5]), (3421, mc 210 [vi 2, vi 2, vi 1, vn 0, vi 0, vi 0, vi 0, vp 145 0, vi 1, vi 6, vi 0, .func (.func 288) ⟨[vp 3421 0]⟩ ⟨[]⟩, vi 2, vf, vi 0, vi 0, vi 0, vf, sn]), (3592, mc 340 [vi 1])], 3593⟩
set_option maxRecDepth 100000 in
theorem ran61 : (e61.fitB && e61.runB (prTab false prB cutF []) Tryz.prog 100000) = true := by decide +kernel
theorem k61 : e61.Fit ∧ EntOk Tryz.prog e61 := Ent.both mixedHere (prTab_ok yes_not prB_ok (okNil)) ran61

set_option maxRecDepth 100000 in
def e62 : Ent := ⟨394, 3595, [vp 146 0, va [vi 1, vi 1]], turned [] (turned (e61.d.map fun p => (p.1, some p.2)) e61.bl), vt, [(78, mc 4 [vt, vt, vt, vf, vt, vf, vf, vf, vf, vf, vf, vf, vf, vf, vf, vf, vf, vf, vf, vf, vf, vf, vf, vf]), (79, mc 236 [vs 127 0 20 openCap, vs 78 0 24 24]), (127, mo 3 [vi 3, vi 5, vi 11, vi 7, vi 6, vi 12, vi 13, vi 15, vi 8, vi 9, vi 10, vi 22, vi 18, vi 21, vi 14, vi 23, vi 16, vi 20, vi 17, vi 19, vi 3, vi 2, vi 1, vi 0]), (130, .map [⟨va [vi 1, vn 0], vp 3638 0, 0⟩] 1), (146, mc 81 [vp 145 0, vs 164 0 2 openCap, vs 3372 0 8 openCap, vs 3375 0 5 openCap, vs 3376 0 5 openCap, vi 62, vi 2, vs 165 0 5 5]), (3375, mo 3 [vi 24, vi 25, vn 0, vi 53, vi 61]), (3376, mo 3 [vi 1, vi 1, vi 0, vi 4, vi 1]), (3421, mc 210 [vi 2, vi 2, vi 1, vn 0, vi 0, vi 0, vi 0, vp 145 0, vi 1, vi 6, vi 0, .func (.func 298) ⟨[vp 3421 0]⟩ ⟨[]⟩, vi 3, vf, vi 0, vi 0, vi 1, vf, vs 3664 0 1 openCap]), (3638, mc 218 [vi 1, vn 0, vs 3644 0 1 openCap, vi 1]), (3644, mo 220 [vi 4, vi 1, vi 6, vi 6, vi 0]), (3664, mo 3 [vi 4])], 3665⟩
set_option maxRecDepth 100000 in
theorem ran62 : (e62.fitB && e62.runB (prTab false prB cutF []) Tryz.prog 100000) = true := by decide +kernel
theorem k62 : e62.Fit ∧ EntOk Tryz.prog e62 := Ent.both mixedHere (prTab_ok yes_not prB_ok (okNil)) ran62

set_option maxRecDepth 100000 in
def e63 : Ent := ⟨394, 3666, [vp 146 0, va [vi 2, vi 1]], turned [(2186, none), (2192, none)] (turned (e62.d.map fun p => (p.1, some p.2)) e62.bl), vt, [(144, mc 185 [vi 16, sn]), (146, mc 81 [vp 145 0, vs 164 0 2 openCap, vs 3372 0 8 openCap, vs 3375 0 5 openCap, vs 3376 0 5 openCap, vi 63, vi 2, vs 165 0 5 5])], 3670⟩
set_option maxRecDepth 100000 in
theorem ran63 : (e63.fitB && e63.runB (prTab false prB cutF []) Tryz.prog 100000) = true := by decide +kernel
theorem k63 : e63.Fit ∧ EntOk Tryz.prog e63 := Ent.both mixedHere (prTab_ok yes_not prB_ok (okNil)) ran63

set_option maxRecDepth 100000 in
def e64 : Ent := ⟨394, 3671, [vp 146 0, va [vi 4, vi 0]], turned [] (turned (e63.d.map fun p => (p.1, some p.2)) e63.bl), vf, [(146, mc 81 [vp 145 0, vs 164 0 2 openCap, vs 3372 0 8 openCap, vs 3375 0 5 openCap, vs 3376 0 5 openCap, vi 64, vi 2, vs 165 0 5 5])], 3788⟩
set_option maxRecDepth 100000 in
theorem ran64 : (e64.fitB && e64.runB (prTab false prB cutF []) Tryz.prog 100000) = true := by decide +kernel
theorem k64 : e64.Fit ∧ EntOk Tryz.prog e64 := Ent.both mixedHere (prTab_ok yes_not prB_ok (okNil)) ran64

set_option maxRecDepth 100000 in
def e65 : Ent := ⟨394, 3790, [vp 146 0, va [vi 1, vi 0]], turned [] (turned (e64.d.map fun p => (p.1, some p.2)) e64.bl), vt, [(140, mc 338 [pn, pn]), (146, mc 81 [vp 145 0, vs 164 0 2 openCap, vs 3372 0 8 openCap, vs 3375 0 5 openCap, vs 3376 0 5 openCap, vi 65, vi 2, vs 165 0 5 5]), (3421, mc 210 [vi 2, vi 2, vi 1, vn 0, vi 0, vi 0, vi 0, vp 145 0, vi 1, vi 6, vi 0, .func (.func 325) ⟨[vp 3421 0]⟩ ⟨[]⟩, vi 4, vf, vi 0, vi 0, vi 1, vf, vs 3664 0 1 openCap])], 3793⟩
set_option maxRecDepth 100000 in
theorem ran65 : (e65.fitB && e65.runB (prTab false prB cutF []) Tryz.prog 100000) = true := by decide +kernel
theorem k65 : e65.Fit ∧ EntOk Tryz.prog e65 := Ent.both mixedHere (prTab_ok yes_not prB_ok (okNil)) ran65

end Go.Proofs
