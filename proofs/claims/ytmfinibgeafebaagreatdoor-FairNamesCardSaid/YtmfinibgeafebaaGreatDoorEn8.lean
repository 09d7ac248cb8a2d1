/-
  PROVED HERE: calls of the run, one by one: what each answers, and which blocks it leaves otherwise.
-/
import Derived.Test.YtmfinibgeafebaaGreatDoorEn0
set_option linter.unusedVariables false
set_option linter.unusedSimpArgs false
namespace Go.Proofs
open Go.Vai

set_option maxRecDepth 100000 in
def e42 : Ent := ⟨394, 2214, [vp 146 0, va [vi 1, vi 1]], [(78, mc 4 [vt, vt, vt, vt, vt, vf, vf, vf, vf, vf, vf, vf, vf, vf, vf, vf, vf, vf, vf, vf, vf, vf, vf, vf]), (79, mc 236 [vs 127 0 19 openCap, vs 78 0 24 24]), (127, mo 3 [vi 5, vi 7, vi 6, vi 8, vi 9, vi 11, vi 13, vi 15, vi 17, vi 19, vi 10, vi 22, vi 12, vi 21, vi 14, vi 23, vi 16, vi 20, vi 18, vi 4, vi 3, vi 2, vi 1, vi 0]), (128, .map [⟨vi 0, vi 1, 0⟩, ⟨vi 1, vi 1, 1⟩, ⟨vi 2, vi 1, 2⟩, ⟨vi 3, vi 0, 3⟩, ⟨vi 4, vi 0, 4⟩] 5), (129, mc 173 [vi 2, vi 8, vi 24, vi 2, vp 79 0, vs 137 0 2 openCap, (.map (some 128))]), (130, .map [⟨va [vi 1, vn 0], vp 2186 0, 0⟩] 1), (131, mc 241 [vi 8, vp 79 0, (.map (some 130))]), (134, .map [⟨va [vn 0, vn 0], vp 795 0, 0⟩, ⟨va [vi 0, vn 0], vp 1086 0, 1⟩] 2), (135, mc 241 [vi 8, vp 79 0, (.map (some 134))]), (137, mo 174 [vp 131 0, vp 135 0]), (138, mc 3 [vi 0, vi 0]), (139, mc 178 [vs 138 0 2 2]), (140, mc 338 [vp 1919 0, vp 1927 0]), (141, mc 181 [vs 140 0 2 2]), (142, mc 211 [vp 1663 0, vp 1788 0]), (143, .map [⟨vi 4, vi 0, 0⟩] 1), (144, mc 185 [vi 10, sn]), (145, mc 133 [vp 129 0, vp 141 0, vp 139 0, vp 144 0, vs 142 0 2 2, (.map (some 143)), vi 6]), (146, mc 81 [vp 145 0, vs 164 0 2 openCap, vs 1676 0 6 openCap, vs 1679 0 4 openCap, vs 1680 0 4 openCap, vi 41, vi 2, vs 165 0 5 5]), (149, mc 188 [sn]), (150, mc 190 [vp 149 0, vn 0, vi 2]), (151, mc 141 [vp 145 0, vi 0, vi 1, vs 1373 0 1 openCap, vs 1354 0 2 openCap, vp 150 0, vp 1561 0]), (152, mo 54 [vi 1, vn 0, vn 0, vi 0, vi 0, vi 0, vi 9, vi 0, vn 0, vi 6, vi 0, vi 0, vi 9, vi 1, vn 0, vi 6, vi 0, vi 0]), (153, mc 87 [vp 151 0, vp 146 0, vi 0, vs 152 0 3 openCap, vi 3, vi 2, vf]), (158, mc 188 [sn]), (159, mc 190 [vp 158 0, vn 1, vi 2]), (160, mc 141 [vp 145 0, vi 1, vi 2, vs 1413 0 1 openCap, vs 1394 0 2 openCap, vp 159 0, vp 1686 0]), (161, mo 54 [vi 1, vn 0, vn 0, vi 0, vi 0, vi 0, vi 9, vi 1, vn 0, vi 6, vi 0, vi 0, vi 9, vi 0, vn 0, vi 6, vi 0, vi 0]), (162, mc 87 [vp 160 0, vp 146 0, vi 1, vs 161 0 3 openCap, vi 3, vi 3, vf]), (164, mo 85 [vp 153 0, vp 162 0]), (165, mc 88 [.nilFunc, .func (.func 26) ⟨[vp 146 0]⟩ ⟨[]⟩, .func (.func 27) ⟨[vp 146 0]⟩ ⟨[]⟩, .func (.func 28) ⟨[vp 146 0]⟩ ⟨[]⟩, .func (.func 29) ⟨[vp 146 0]⟩ ⟨[]⟩]), (795, mc 218 [vn 0, vn 0, vs 801 0 2 openCap, vi 0]), (801, mo 220 [vi 0, vi 1, vi 2, vi 2, vi 0, vi 1, vi 2, vi 2, vi 2, vi 0]), (1086, mc 218 [vi 0, vn 0, vs 1092 0 1 openCap, vi 0]), (1092, mo 220 [vi 2, vi 1, vi 6, vi 6, vi 0]), (1354, mo 347 [vi 1, vn 0, vn 0, vi 2, vi 1, vi 0, vn 0, vi 6]), (1373, mo 347 [vi 1, vi 0, vn 0, vi 6]), (1394, mo 347 [vi 2, vn 0, vn 0, vi 2, vi 2, vi 1, vn 0, vi 6]), (1413, mo 347 [vi 2, vi 1, vn 0, vi 6]), (1561, mc 247 [vs 1612 0 1 openCap, sn, vi 1, vi 1, vi 1, vn 0, vi 6, vi 0, vi 0, vi 1, vi 1, vi 1, vn 0, vi 6, vi 0, vi 0, vi 0, .func (.func 140) ⟨[vp 151 0]⟩ ⟨[]⟩, .func (.func 141) ⟨[vp 151 0]⟩ ⟨[]⟩, vf, vi 0]), (1612, mo 344 [vi 1, vn 0, vi 6]), (1663, mc 210 [vi 1, vi 1, vi 1, vn 0, vi 6, vi 0, vi 0, vp 145 0, vi 0, vi 4, vi 0, .func (.func 298) ⟨[vp 1663 0]⟩ ⟨[]⟩, vi 3, vt, vi 4, vi 0, vi 0, vf, sn]), (1676, mo 196 [vi 0, vi 0, vt, vi 1, vi 1, vi 0, vn 0, vi 6, vi 0, vi 1, vi 1, vt, vi 1, vi 2, vi 1, vn 0, vi 6, vi 0, vi 0, vi 0, vf, vi 0, vi 0, vi 0, vi 0, vi 0, vi 1, vi 1, vi 1, vf, vi 0, vi 0, vi 0, vi 0, vi 0, vi 1, vi 2, vi 0, vt, vi 1, vi 1, vi 1, vn 0, vi 6, vi 0, vi 3, vi 1, vt, vi 1, vi 2, vi 0, vn 0, vi 6, vi 0]), (1679, mo 3 [vi 24, vi 25, vn 0, vn 0]), (1680, mo 3 [vi 1, vi 1, vi 0, vi 0]), (1686, mc 247 [vs 1737 0 1 openCap, sn, vi 1, vi 2, vi 0, vn 0, vi 6, vi 0, vi 0, vi 1, vi 2, vi 0, vn 0, vi 6, vi 0, vi 0, vi 0, .func (.func 140) ⟨[vp 160 0]⟩ ⟨[]⟩, .func (.func 141) ⟨[vp 160 0]⟩ ⟨[]⟩, vf, vi 0]), (1737, mo 344 [vi 0, vn 0, vi 6]), (1788, mc 210 [vi 1, vi 2, vi 0, vn 0, vi 6, vi 0, vi 0, vp 145 0, vi 1, vi 5, vi 1, .func (.func 288) ⟨[vp 1788 0]⟩ ⟨[]⟩, vi 2, vf, vi 0, vi 0, vi 0, vf, sn]), (1919, mc 340 [vi 0]), (1927, mc 340 [vi 1]), (2186, mc 218 [vi 1, vn 0, vs 2192 0 2 openCap, vi 1]), (2192, mo 220 [vi 3, vi 2, vi 6, vi 6, vi 0, vi 4, vi 1, vi 0, vi 6, vi 1])], vt, [(78, mc 4 [vt, vt, vt, vt, vt, vt, vf, vf, vf, vf, vf, vf, vf, vf, vf, vf, vf, vf, vf, vf, vf, vf, vf, vf]), (79, mc 236 [vs 127 0 18 openCap, vs 78 0 24 24]), (127, mo 3 [vi 6, vi 7, vi 11, vi 8, vi 9, vi 12, vi 13, vi 15, vi 17, vi 19, vi 10, vi 22, vi 18, vi 21, vi 14, vi 23, vi 16, vi 20, vi 5, vi 4, vi 3, vi 2, vi 1, vi 0]), (128, .map [⟨vi 0, vi 1, 0⟩, ⟨vi 1, vi 1, 1⟩, ⟨vi 2, vi 1, 2⟩, ⟨vi 3, vi 0, 3⟩, ⟨vi 4, vi 0, 4⟩, ⟨vi 5, vi 1, 5⟩] 6), (134, .map [⟨va [vn 0, vn 0], vp 795 0, 0⟩, ⟨va [vi 0, vn 0], vp 2346 0, 1⟩] 2), (143, .map [⟨vi 4, vi 0, 0⟩, ⟨vi 5, vi 1, 1⟩] 2), (146, mc 81 [vp 145 0, vs 164 0 2 openCap, vs 1676 0 6 openCap, vs 1679 0 4 openCap, vs 1680 0 4 openCap, vi 42, vi 2, vs 165 0 5 5]), (1788, mc 210 [vi 1, vi 2, vi 0, vn 0, vi 6, vi 0, vi 0, vp 145 0, vi 1, vi 5, vi 1, .func (.func 298) ⟨[vp 1788 0]⟩ ⟨[]⟩, vi 3, vt, vi 5, vi 0, vi 0, vf, sn]), (2346, mc 218 [vi 0, vn 0, vs 2352 0 2 openCap, vi 1]), (2352, mo 220 [vi 2, vi 1, vi 6, vi 6, vi 0, vi 5, vi 2, vi 0, vi 6, vi 1])], 2372⟩
set_option maxRecDepth 100000 in
theorem ran42 : (e42.fitB && e42.runB (prTab false prB cutF []) Tryz.prog 100000) = true := by decide +kernel
theorem k42 : e42.Fit ∧ EntOk Tryz.prog e42 := Ent.both mixedHere (prTab_ok yes_not prB_ok (okNil)) ran42

set_option maxRecDepth 100000 in
def e43 : Ent := ⟨394, 2373, [vp 146 0, va [vi 2, vi 1]], turned [(1086, none), (1092, none)] (turned (e42.d.map fun p => (p.1, some p.2)) e42.bl), vt, [(144, mc 185 [vi 11, sn]), (146, mc 81 [vp 145 0, vs 164 0 2 openCap, vs 1676 0 6 openCap, vs 1679 0 4 openCap, vs 1680 0 4 openCap, vi 43, vi 2, vs 165 0 5 5])], 2377⟩
set_option maxRecDepth 100000 in
theorem ran43 : (e43.fitB && e43.runB (prTab false prB cutF []) Tryz.prog 100000) = true := by decide +kernel
theorem k43 : e43.Fit ∧ EntOk Tryz.prog e43 := Ent.both mixedHere (prTab_ok yes_not prB_ok (okNil)) ran43

set_option maxRecDepth 100000 in
def e44 : Ent := ⟨394, 2378, [vp 146 0, va [vi 4, vi 0]], turned [] (turned (e43.d.map fun p => (p.1, some p.2)) e43.bl), vt, [(138, mc 3 [vi 0, vi 2]), (146, mc 81 [vp 145 0, vs 164 0 2 openCap, vs 1676 0 6 openCap, vs 1679 0 4 openCap, vs 1680 0 4 openCap, vi 44, vi 2, vs 165 0 5 5]), (1788, mc 210 [vi 1, vi 2, vi 0, vn 0, vi 6, vi 0, vi 0, vp 145 0, vi 1, vi 5, vi 1, .func (.func 298) ⟨[vp 1788 0]⟩ ⟨[]⟩, vi 3, vt, vi 5, vi 4, vi 0, vf, sn])], 2604⟩
set_option maxRecDepth 100000 in
theorem ran44 : (e44.fitB && e44.runB (prTab false prB cutF []) Tryz.prog 100000) = true := by decide +kernel
theorem k44 : e44.Fit ∧ EntOk Tryz.prog e44 := Ent.both mixedHere (prTab_ok yes_not prB_ok (okNil)) ran44

set_option maxRecDepth 100000 in
def e45 : Ent := ⟨394, 2606, [vp 146 0, va [vi 1, vi 0]], turned [] (turned (e44.d.map fun p => (p.1, some p.2)) e44.bl), vt, [(140, mc 338 [pn, vp 1927 0]), (146, mc 81 [vp 145 0, vs 164 0 2 openCap, vs 1676 0 6 openCap, vs 1679 0 4 openCap, vs 1680 0 4 openCap, vi 45, vi 2, vs 165 0 5 5]), (1663, mc 210 [vi 1, vi 1, vi 1, vn 0, vi 6, vi 0, vi 0, vp 145 0, vi 0, vi 4, vi 0, .func (.func 326) ⟨[vp 1663 0]⟩ ⟨[]⟩, vi 5, vt, vi 4, vi 0, vi 0, vf, sn])], 2611⟩
set_option maxRecDepth 100000 in
theorem ran45 : (e45.fitB && e45.runB (prTab false prB cutF []) Tryz.prog 100000) = true := by decide +kernel
theorem k45 : e45.Fit ∧ EntOk Tryz.prog e45 := Ent.both mixedHere (prTab_ok yes_not prB_ok (okNil)) ran45

set_option maxRecDepth 100000 in
def e46 : Ent := ⟨394, 2613, [vp 146 0, va [vi 1, vi 1]], turned [(1919, none)] (turned (e45.d.map fun p => (p.1, some p.2)) e45.bl), vt, [(140, mc 338 [pn, pn]), (146, mc 81 [vp 145 0, vs 164 0 2 openCap, vs 1676 0 6 openCap, vs 1679 0 4 openCap, vs 1680 0 4 openCap, vi 46, vi 2, vs 165 0 5 5]), (1788, mc 210 [vi 1, vi 2, vi 0, vn 0, vi 6, vi 0, vi 0, vp 145 0, vi 1, vi 5, vi 1, .func (.func 326) ⟨[vp 1788 0]⟩ ⟨[]⟩, vi 5, vt, vi 5, vi 4, vi 0, vf, sn])], 2618⟩
set_option maxRecDepth 100000 in
theorem ran46 : (e46.fitB && e46.runB (prTab false prB cutF []) Tryz.prog 100000) = true := by decide +kernel
theorem k46 : e46.Fit ∧ EntOk Tryz.prog e46 := Ent.both mixedHere (prTab_ok yes_not prB_ok (okNil)) ran46

set_option maxRecDepth 100000 in
def e47 : Ent := ⟨394, 2619, [vp 146 0, va [vi 2, vi 1]], turned [(1927, none)] (turned (e46.d.map fun p => (p.1, some p.2)) e46.bl), vt, [(144, mc 185 [vi 12, sn]), (146, mc 81 [vp 145 0, vs 164 0 2 openCap, vs 1676 0 6 openCap, vs 1679 0 4 openCap, vs 1680 0 4 openCap, vi 47, vi 2, vs 165 0 5 5])], 2623⟩
set_option maxRecDepth 100000 in
theorem ran47 : (e47.fitB && e47.runB (prTab false prB cutF []) Tryz.prog 100000) = true := by decide +kernel
theorem k47 : e47.Fit ∧ EntOk Tryz.prog e47 := Ent.both mixedHere (prTab_ok yes_not prB_ok (okNil)) ran47

end Go.Proofs
