/-
  PROVED HERE: calls of the run, one by one: what each answers, and which blocks it leaves otherwise.
-/
import Derived.Test.YtmfinibgeafebaaGreatDoorEn0
set_option linter.unusedVariables false
set_option linter.unusedSimpArgs false
namespace Go.Proofs
open Go.Vai

set_option maxRecDepth 100000 in
def e18 : Ent := ⟨394, 818, [vp 146 0, va [vi 1, vi 1]], [(78, mc 4 [vt, vt, vf, vf, vf, vf, vf, vf, vf, vf, vf, vf, vf, vf, vf, vf, vf, vf, vf, vf, vf, vf, vf, vf]), (79, mc 236 [vs 127 0 22 openCap, vs 78 0 24 24]), (127, mo 3 [vi 2, vi 3, vi 5, vi 7, vi 4, vi 11, vi 6, vi 15, vi 8, vi 9, vi 10, vi 22, vi 12, vi 13, vi 14, vi 23, vi 16, vi 17, vi 18, vi 19, vi 20, vi 21, vi 1, vi 0]), (128, .map [⟨vi 0, vi 1, 0⟩, ⟨vi 1, vi 1, 1⟩] 2), (129, mc 173 [vi 2, vi 8, vi 24, vi 2, vp 79 0, vs 137 0 2 openCap, (.map (some 128))]), (130, .map [] 0), (131, mc 241 [vi 8, vp 79 0, (.map (some 130))]), (134, .map [⟨va [vn 0, vn 0], vp 795 0, 0⟩] 1), (135, mc 241 [vi 8, vp 79 0, (.map (some 134))]), (137, mo 174 [vp 131 0, vp 135 0]), (138, mc 3 [vi 0, vi 0]), (139, mc 178 [vs 138 0 2 2]), (140, mc 338 [pn, vp 661 0]), (141, mc 181 [vs 140 0 2 2]), (142, mc 211 [vp 653 0, vp 443 0]), (143, .map [] 0), (144, mc 185 [vi 4, sn]), (145, mc 133 [vp 129 0, vp 141 0, vp 139 0, vp 144 0, vs 142 0 2 2, (.map (some 143)), vi 3]), (146, mc 81 [vp 145 0, vs 164 0 2 openCap, vs 339 0 2 openCap, vs 342 0 2 openCap, vs 343 0 2 openCap, vi 17, vi 2, vs 165 0 5 5]), (149, mc 188 [sn]), (150, mc 190 [vp 149 0, vn 0, vi 2]), (151, mc 141 [vp 145 0, vi 0, vi 1, sn, vs 597 0 1 openCap, vp 150 0, vp 232 0]), (152, mo 54 [vi 1, vn 0, vn 0, vi 0, vi 0, vi 0, vi 9, vi 0, vn 0, vi 6, vi 0, vi 0, vi 9, vi 1, vn 0, vi 6, vi 0, vi 0]), (153, mc 87 [vp 151 0, vp 146 0, vi 0, vs 152 0 3 openCap, vi 2, vi 0, vf]), (158, mc 188 [sn]), (159, mc 190 [vp 158 0, vn 1, vi 2]), (160, mc 141 [vp 145 0, vi 1, vi 2, sn, sn, vp 159 0, vp 349 0]), (161, mo 54 [vi 1, vn 0, vn 0, vi 0, vi 0, vi 0, vi 9, vi 1, vn 0, vi 6, vi 0, vi 0, vi 9, vi 0, vn 0, vi 6, vi 0, vi 0]), (162, mc 87 [vp 160 0, vp 146 0, vi 1, vs 161 0 3 openCap, vi 2, vi 1, vf]), (164, mo 85 [vp 153 0, vp 162 0]), (165, mc 88 [.nilFunc, .func (.func 26) ⟨[vp 146 0]⟩ ⟨[]⟩, .func (.func 27) ⟨[vp 146 0]⟩ ⟨[]⟩, .func (.func 28) ⟨[vp 146 0]⟩ ⟨[]⟩, .func (.func 29) ⟨[vp 146 0]⟩ ⟨[]⟩]), (232, mc 247 [vs 282 0 1 openCap, sn, vi 1, vi 1, vi 0, vn 0, vi 6, vi 0, vi 0, vi 1, vi 1, vi 0, vn 0, vi 6, vi 0, vi 0, vi 0, .func (.func 140) ⟨[vp 151 0]⟩ ⟨[]⟩, .func (.func 141) ⟨[vp 151 0]⟩ ⟨[]⟩, vt, vi 0]), (282, mo 344 [vi 0, vn 0, vi 6, vi 0, vi 0, vi 0]), (339, mo 196 [vi 0, vi 0, vt, vi 1, vi 1, vi 0, vn 0, vi 6, vi 0, vi 1, vi 1, vt, vi 1, vi 2, vi 1, vn 0, vi 6, vi 0]), (342, mo 3 [vn 0, vn 0]), (343, mo 3 [vi 0, vi 0]), (349, mc 247 [vs 399 0 2 openCap, sn, vi 1, vi 2, vi 1, vn 0, vi 6, vi 0, vi 0, vi 1, vi 2, vn 0, vn 0, vi 2, vi 0, vi 0, vi 0, .func (.func 140) ⟨[vp 160 0]⟩ ⟨[]⟩, .func (.func 141) ⟨[vp 160 0]⟩ ⟨[]⟩, vf, vi 0]), (399, mo 344 [vn 0, vn 0, vi 2, vi 1, vn 0, vi 6]), (443, mc 210 [vi 1, vi 2, vn 0, vn 0, vi 2, vi 0, vi 0, vp 145 0, vi 1, vi 1, vi 1, .func (.func 298) ⟨[vp 443 0]⟩ ⟨[]⟩, vi 3, vf, vi 0, vi 0, vi 1, vf, sn]), (597, mo 347 [vi 1, vn 0, vn 0, vi 2]), (653, mc 210 [vi 1, vi 1, vi 0, vn 0, vi 6, vi 0, vi 0, vp 145 0, vi 0, vi 2, vi 1, .func (.func 275) ⟨[vp 653 0]⟩ ⟨[]⟩, vi 1, vf, vi 0, vi 0, vi 0, vf, sn]), (661, mc 340 [vi 1]), (795, mc 218 [vn 0, vn 0, vs 801 0 2 openCap, vi 0]), (801, mo 220 [vi 0, vi 1, vi 2, vi 2, vi 0, vi 1, vi 2, vi 2, vi 2, vi 0])], vt, [(140, mc 338 [pn, pn]), (142, mc 211 [vp 653 0, vp 881 0]), (145, mc 133 [vp 129 0, vp 141 0, vp 139 0, vp 144 0, vs 142 0 2 2, (.map (some 143)), vi 4]), (146, mc 81 [vp 145 0, vs 164 0 2 openCap, vs 339 0 2 openCap, vs 342 0 2 openCap, vs 343 0 2 openCap, vi 18, vi 2, vs 165 0 5 5]), (160, mc 141 [vp 145 0, vi 1, vi 2, sn, vs 825 0 1 openCap, vp 159 0, vp 349 0]), (349, mc 247 [vs 399 0 1 openCap, sn, vi 1, vi 2, vi 1, vn 0, vi 6, vi 0, vi 0, vi 1, vi 2, vi 1, vn 0, vi 6, vi 0, vi 0, vi 0, .func (.func 140) ⟨[vp 160 0]⟩ ⟨[]⟩, .func (.func 141) ⟨[vp 160 0]⟩ ⟨[]⟩, vt, vi 0]), (399, mo 344 [vi 1, vn 0, vi 6, vi 0, vi 0, vi 0]), (443, mc 210 [vi 1, vi 2, vn 0, vn 0, vi 2, vi 0, vi 0, vp 145 0, vi 1, vi 1, vi 1, .func (.func 298) ⟨[vp 443 0]⟩ ⟨[]⟩, vi 3, vf, vi 0, vi 0, vi 1, vt, sn]), (825, mo 347 [vi 2, vn 0, vn 0, vi 2]), (881, mc 210 [vi 1, vi 2, vi 1, vn 0, vi 6, vi 0, vi 0, vp 145 0, vi 1, vi 3, vi 0, .func (.func 275) ⟨[vp 881 0]⟩ ⟨[]⟩, vi 1, vf, vi 0, vi 0, vi 0, vf, sn])], 882⟩
set_option maxRecDepth 100000 in
theorem ran18 : (e18.fitB && e18.runB (prTab false prB cutF []) Tryz.prog 100000) = true := by decide +kernel
theorem k18 : e18.Fit ∧ EntOk Tryz.prog e18 := Ent.both mixedHere (prTab_ok yes_not prB_ok (okNil)) ran18

set_option maxRecDepth 100000 in
def e19 : Ent := ⟨394, 883, [vp 146 0, va [vi 2, vi 1]], turned [(443, none), (661, none)] (turned (e18.d.map fun p => (p.1, some p.2)) e18.bl), vt, [(144, mc 185 [vi 5, sn]), (146, mc 81 [vp 145 0, vs 164 0 2 openCap, vs 339 0 2 openCap, vs 342 0 2 openCap, vs 343 0 2 openCap, vi 19, vi 2, vs 165 0 5 5])], 887⟩
set_option maxRecDepth 100000 in
theorem ran19 : (e19.fitB && e19.runB (prTab false prB cutF []) Tryz.prog 100000) = true := by decide +kernel
theorem k19 : e19.Fit ∧ EntOk Tryz.prog e19 := Ent.both mixedHere (prTab_ok yes_not prB_ok (okNil)) ran19

set_option maxRecDepth 100000 in
def e20 : Ent := ⟨394, 888, [vp 146 0, va [vi 4, vi 0]], turned [] (turned (e19.d.map fun p => (p.1, some p.2)) e19.bl), vf, [(146, mc 81 [vp 145 0, vs 164 0 2 openCap, vs 339 0 2 openCap, vs 342 0 2 openCap, vs 343 0 2 openCap, vi 20, vi 2, vs 165 0 5 5])], 937⟩
set_option maxRecDepth 100000 in
theorem ran20 : (e20.fitB && e20.runB (prTab false prB cutF []) Tryz.prog 100000) = true := by decide +kernel
theorem k20 : e20.Fit ∧ EntOk Tryz.prog e20 := Ent.both mixedHere (prTab_ok yes_not prB_ok (okNil)) ran20

set_option maxRecDepth 100000 in
def e21 : Ent := ⟨394, 939, [vp 146 0, va [vi 1, vi 0]], turned [] (turned (e20.d.map fun p => (p.1, some p.2)) e20.bl), vt, [(140, mc 338 [pn, vp 944 0]), (146, mc 81 [vp 145 0, vs 164 0 2 openCap, vs 339 0 2 openCap, vs 342 0 2 openCap, vs 343 0 2 openCap, vi 21, vi 2, vs 165 0 5 5]), (653, mc 210 [vi 1, vi 1, vi 0, vn 0, vi 6, vi 0, vi 0, vp 145 0, vi 0, vi 2, vi 1, .func (.func 288) ⟨[vp 653 0]⟩ ⟨[]⟩, vi 2, vf, vi 0, vi 0, vi 0, vf, sn]), (944, mc 340 [vi 0])], 945⟩
set_option maxRecDepth 100000 in
theorem ran21 : (e21.fitB && e21.runB (prTab false prB cutF []) Tryz.prog 100000) = true := by decide +kernel
theorem k21 : e21.Fit ∧ EntOk Tryz.prog e21 := Ent.both mixedHere (prTab_ok yes_not prB_ok (okNil)) ran21

set_option maxRecDepth 100000 in
def e22 : Ent := ⟨394, 947, [vp 146 0, va [vi 1, vi 1]], turned [] (turned (e21.d.map fun p => (p.1, some p.2)) e21.bl), vt, [(140, mc 338 [vp 952 0, vp 944 0]), (146, mc 81 [vp 145 0, vs 164 0 2 openCap, vs 339 0 2 openCap, vs 342 0 2 openCap, vs 343 0 2 openCap, vi 22, vi 2, vs 165 0 5 5]), (881, mc 210 [vi 1, vi 2, vi 1, vn 0, vi 6, vi 0, vi 0, vp 145 0, vi 1, vi 3, vi 0, .func (.func 288) ⟨[vp 881 0]⟩ ⟨[]⟩, vi 2, vf, vi 0, vi 0, vi 0, vf, sn]), (952, mc 340 [vi 1])], 953⟩
set_option maxRecDepth 100000 in
theorem ran22 : (e22.fitB && e22.runB (prTab false prB cutF []) Tryz.prog 100000) = true := by decide +kernel
theorem k22 : e22.Fit ∧ EntOk Tryz.prog e22 := Ent.both mixedHere (prTab_ok yes_not prB_ok (okNil)) ran22

set_option maxRecDepth 100000 in
def e23 : Ent := ⟨394, 954, [vp 146 0, va [vi 2, vi 1]], turned [] (turned (e22.d.map fun p => (p.1, some p.2)) e22.bl), vt, [(144, mc 185 [vi 6, sn]), (146, mc 81 [vp 145 0, vs 164 0 2 openCap, vs 339 0 2 openCap, vs 342 0 2 openCap, vs 343 0 2 openCap, vi 23, vi 2, vs 165 0 5 5])], 958⟩
set_option maxRecDepth 100000 in
theorem ran23 : (e23.fitB && e23.runB (prTab false prB cutF []) Tryz.prog 100000) = true := by decide +kernel
theorem k23 : e23.Fit ∧ EntOk Tryz.prog e23 := Ent.both mixedHere (prTab_ok yes_not prB_ok (okNil)) ran23

end Go.Proofs
