/-
  PROVED HERE: calls of the run, one by one: what each answers, and which blocks it leaves otherwise.
-/
import Derived.Test.YtoofpgianedgnaaGreatEEn0
import Derived.Test.YtoofpgianedgnaaGreatEEn1
import Derived.Test.YtoofpgianedgnaaGreatEEn2
import Derived.Test.YtoofpgianedgnaaGreatEEn3
import Derived.Test.YtoofpgianedgnaaGreatEEn4
set_option linter.unusedVariables false
set_option linter.unusedSimpArgs false
namespace Go.Proofs
open Go.Vai

set_option maxRecDepth 100000 in
def e36 : Ent := ⟨7, 1548, [vp 258 0, va [vi 1, vi 0]], [(188, mc 4 [vt, vt, vf, vf, vf, vf, vf, vf, vf, vf, vf, vf, vf, vf, vf, vf, vf, vf, vf, vf, vf, vf, vf, vf]), (189, mc 207 [vs 237 0 22 openCap, vs 188 0 24 24]), (237, mo 3 [vi 2, vi 3, vi 5, vi 7, vi 4, vi 11, vi 6, vi 15, vi 8, vi 19, vi 9, vi 22, vi 12, vi 13, vi 14, vi 23, vi 16, vi 17, vi 18, vi 21, vi 20, vi 10, vi 1, vi 0]), (238, .map [⟨vi 0, vi 1, 0⟩, ⟨vi 1, vi 1, 1⟩, ⟨vi 2, vi 0, 2⟩] 3), (239, mc 150 [vi 2, vi 8, vi 24, vi 2, vp 189 0, vs 247 0 2 openCap, (.map (some 238))]), (240, .map [] 1), (241, mc 212 [vi 8, vp 189 0, (.map (some 240))]), (244, .map [⟨va [vn 0, vn 0], vp 1456 0, 0⟩, ⟨va [vi 0, vn 0], vp 1286 0, 1⟩] 2), (245, mc 212 [vi 8, vp 189 0, (.map (some 244))]), (247, mo 151 [vp 241 0, vp 245 0]), (248, mc 3 [vi 0]), (249, mc 155 [vs 248 0 1 1]), (250, mc 434 [pn, pn]), (251, mc 158 [vs 250 0 2 2]), (252, mc 181 [pn]), (253, .map [] 0), (254, mc 162 [vi 0, sn]), (255, mc 114 [vp 239 0, vp 251 0, vp 249 0, vp 254 0, vs 252 0 1 1, (.map (some 253)), vi 6]), (256, .map [⟨va [vi 0, vi 1], vi 5, 0⟩] 1), (257, mc 117 [(.map (some 256))]), (258, mc 84 [vp 255 0, vs 271 0 1 openCap, vi 35, vp 257 0, vs 269 0 1 openCap, vs 1074 0 2 openCap, vs 1076 0 1 openCap, sn, sn, vi 0, vi 1]), (261, mc 215 [vs 1505 0 2 openCap]), (262, mc 217 [vp 261 0, vn 0, vi 2]), (263, mc 168 [vp 255 0, vi 0, vi 0, sn, sn, vp 262 0, pn]), (264, mc 171 [sn]), (265, mc 126 [vp 263 0, vi 0, vp 264 0, vp 257 0, vi 7, vn 0, vn 0, vi 0, vi 0, vi 0, .nilFunc, vi 1, vi 1, pn]), (266, mo 62 [vi 1, vn 0, vn 0, vi 0, vi 0, vi 0, vi 4, vi 0, vi 1, vi 0, vi 5, vi 0, vi 7, vn 0, vn 0, vi 0, vi 0, vi 0]), (267, mc 90 [vp 265 0, vp 258 0, vs 266 0 3 openCap, vi 3, vs 1510 0 2 openCap]), (269, mo 88 [vp 267 0]), (271, mo 129 [.iface 88 (vp 267 0)]), (1074, mo 64 [vi 1, vi 0, vi 4, vi 0, vi 1, vi 0, vi 5, vi 0, vi 1, vi 0, sn, vi 1, vi 0, vi 7, vn 0, vn 0, vi 0, vi 0, vi 0, vi 1, vi 0, sn]), (1076, mo 3 [vi 1]), (1286, mc 186 [vi 0, vn 0, vs 1292 0 1 openCap, vi 0]), (1292, mo 188 [vi 1, vn 0, vi 2, vi 2, vi 0]), (1456, mc 186 [vn 0, vn 0, vs 1462 0 1 openCap, vi 0]), (1462, mo 188 [vi 0, vn 0, vi 2, vi 2, vi 0]), (1505, mo 197 [vn 0, vn 0, vn 0, vi 2, vn 0, vi 0, vn 0, vi 2]), (1510, mo 49 [vi 1, vi 0, sn, vi 1, vi 0, sn])], vf, [(258, mc 84 [vp 255 0, vs 271 0 1 openCap, vi 36, vp 257 0, vs 269 0 1 openCap, vs 1074 0 2 openCap, vs 1076 0 1 openCap, sn, sn, vi 0, vi 1])], 1550⟩
set_option maxRecDepth 100000 in
theorem r36 : (e36.fitB && e36.runB (prTab false prB cutF []) Tryz.prog 100000) = true := by decide +kernel
theorem k36 : e36.Fit ∧ EntOk Tryz.prog e36 := Ent.both mixedHere (prTab_ok yes_not prB_ok (okNil)) r36

set_option maxRecDepth 100000 in
def e37 : Ent := ⟨7, 1551, [vp 258 0, va [vi 1, vi 0]], turned [] (turned (e36.d.map fun p => (p.1, some p.2)) e36.bl), vf, [(258, mc 84 [vp 255 0, vs 271 0 1 openCap, vi 37, vp 257 0, vs 269 0 1 openCap, vs 1074 0 2 openCap, vs 1076 0 1 openCap, sn, sn, vi 0, vi 1])], 1553⟩
set_option maxRecDepth 100000 in
theorem r37 : (e37.fitB && e37.runB (prTab false prB cutF []) Tryz.prog 100000) = true := by decide +kernel
theorem k37 : e37.Fit ∧ EntOk Tryz.prog e37 := Ent.both mixedHere (prTab_ok yes_not prB_ok (okNil)) r37

set_option maxRecDepth 100000 in
def e38 : Ent := ⟨7, 1554, [vp 258 0, va [vi 1, vi 0]], turned [] (turned (e37.d.map fun p => (p.1, some p.2)) e37.bl), vf, [(258, mc 84 [vp 255 0, vs 271 0 1 openCap, vi 38, vp 257 0, vs 269 0 1 openCap, vs 1074 0 2 openCap, vs 1076 0 1 openCap, sn, sn, vi 0, vi 1])], 1556⟩
set_option maxRecDepth 100000 in
theorem r38 : (e38.fitB && e38.runB (prTab false prB cutF []) Tryz.prog 100000) = true := by decide +kernel
theorem k38 : e38.Fit ∧ EntOk Tryz.prog e38 := Ent.both mixedHere (prTab_ok yes_not prB_ok (okNil)) r38

set_option maxRecDepth 100000 in
def e39 : Ent := ⟨7, 1557, [vp 258 0, va [vi 1, vi 0]], turned [] (turned (e38.d.map fun p => (p.1, some p.2)) e38.bl), vf, [(258, mc 84 [vp 255 0, vs 271 0 1 openCap, vi 39, vp 257 0, vs 269 0 1 openCap, vs 1074 0 2 openCap, vs 1076 0 1 openCap, sn, sn, vi 0, vi 1])], 1559⟩
set_option maxRecDepth 100000 in
theorem r39 : (e39.fitB && e39.runB (prTab false prB cutF []) Tryz.prog 100000) = true := by decide +kernel
theorem k39 : e39.Fit ∧ EntOk Tryz.prog e39 := Ent.both mixedHere (prTab_ok yes_not prB_ok (okNil)) r39

set_option maxRecDepth 100000 in
def e40 : Ent := ⟨7, 1560, [vp 258 0, va [vi 1, vi 0]], turned [] (turned (e39.d.map fun p => (p.1, some p.2)) e39.bl), vf, [(258, mc 84 [vp 255 0, vs 271 0 1 openCap, vi 40, vp 257 0, vs 269 0 1 openCap, vs 1074 0 2 openCap, vs 1076 0 1 openCap, sn, sn, vi 0, vi 1])], 1562⟩
set_option maxRecDepth 100000 in
theorem r40 : (e40.fitB && e40.runB (prTab false prB cutF []) Tryz.prog 100000) = true := by decide +kernel
theorem k40 : e40.Fit ∧ EntOk Tryz.prog e40 := Ent.both mixedHere (prTab_ok yes_not prB_ok (okNil)) r40

set_option maxRecDepth 100000 in
def e41 : Ent := ⟨4, 0, [], [], vt, [], 100000⟩
set_option maxRecDepth 100000 in
theorem r41 : (e41.fitB && e41.runB (prTab false prB cutF [e0, e1, e2, e3, e4, e5, e6, e7, e8, e9, e10, e11, e12, e13, e14, e15, e16, e17, e18, e19, e20, e21, e22, e23, e24, e25, e26, e27, e28, e29, e30, e31, e32, e33, e34, e35, e36, e37, e38, e39, e40]) Tryz.prog 100000) = true := by decide +kernel
theorem k41 : e41.Fit ∧ EntOk Tryz.prog e41 := Ent.both mixedHere (prTab_ok yes_not prB_ok (okCons k0 (okCons k1 (okCons k2 (okCons k3 (okCons k4 (okCons k5 (okCons k6 (okCons k7 (okCons k8 (okCons k9 (okCons k10 (okCons k11 (okCons k12 (okCons k13 (okCons k14 (okCons k15 (okCons k16 (okCons k17 (okCons k18 (okCons k19 (okCons k20 (okCons k21 (okCons k22 (okCons k23 (okCons k24 (okCons k25 (okCons k26 (okCons k27 (okCons k28 (okCons k29 (okCons k30 (okCons k31 (okCons k32 (okCons k33 (okCons k34 (okCons k35 (okCons k36 (okCons k37 (okCons k38 (okCons k39 (okCons k40 okNil)))))))))))))))))))))))))))))))))))))))))) r41

set_option maxRecDepth 100000 in
def e42 : Ent := ⟨6, 100130, [va [vs 100007 0 1 1, vs 100127 0 60 openCap, vi 2, vi 8, vi 24, vi 2]], [(100006, mc 62 [vi 1, vn 0, vn 0, vi 0, vi 0, vi 0, vi 4, vi 0, vi 1, vi 0, vi 5, vi 0, vi 7, vn 0, vn 0, vi 0, vi 0, vi 0]), (100007, mc 30 [vs 100006 0 2 3]), (100127, mo 37 [vi 1, vi 0, vi 1, vi 0, vi 1, vi 0, vi 1, vi 0, vi 1, vi 0, vi 1, vi 0, vi 1, vi 0, vi 1, vi 0, vi 1, vi 0, vi 1, vi 0, vi 1, vi 0, vi 1, vi 0, vi 1, vi 0, vi 1, vi 0, vi 1, vi 0, vi 1, vi 0, vi 1, vi 0, vi 1, vi 0, vi 1, vi 0, vi 1, vi 0, vi 1, vi 0, vi 1, vi 0, vi 1, vi 0, vi 1, vi 0, vi 1, vi 0, vi 1, vi 0, vi 1, vi 0, vi 1, vi 0, vi 1, vi 0, vi 1, vi 0, vi 1, vi 0, vi 1, vi 0, vi 1, vi 0, vi 1, vi 0, vi 1, vi 0, vi 1, vi 0, vi 1, vi 0, vi 1, vi 0, vi 1, vi 0, vi 1, vi 0, vi 1, vi 0, vi 1, vi 0, vi 1, vi 0, vi 1, vi 0, vi 1, vi 0, vi 1, vi 0, vi 1, vi 0, vi 1, vi 0, vi 1, vi 0, vi 1, vi 0, vi 1, vi 0, vi 1, vi 0, vi 1, vi 0, vi 1, vi 0, vi 1, vi 0, vi 1, vi 0, vi 1, vi 0, vi 1, vi 0, vi 1, vi 0, vi 1, vi 0])], vv [vp 100333 0, vi 0], [(100263, mc 4 [vf, vf, vf, vf, vf, vf, vf, vf, vf, vf, vf, vf, vf, vf, vf, vf, vf, vf, vf, vf, vf, vf, vf, vf]), (100264, mc 207 [vs 100312 0 24 openCap, vs 100263 0 24 24]), (100312, mo 3 [vi 0, vi 1, vi 2, vi 3, vi 4, vi 5, vi 6, vi 7, vi 8, vi 9, vi 10, vi 11, vi 12, vi 13, vi 14, vi 15, vi 16, vi 17, vi 18, vi 19, vi 20, vi 21, vi 22, vi 23]), (100313, .map [] 0), (100314, mc 150 [vi 2, vi 8, vi 24, vi 2, vp 100264 0, vs 100322 0 2 openCap, (.map (some 100313))]), (100315, .map [] 0), (100316, mc 212 [vi 8, vp 100264 0, (.map (some 100315))]), (100319, .map [] 0), (100320, mc 212 [vi 8, vp 100264 0, (.map (some 100319))]), (100322, mo 151 [vp 100316 0, vp 100320 0]), (100323, mc 3 [vi 0]), (100324, mc 155 [vs 100323 0 1 1]), (100325, mc 434 [pn, pn]), (100326, mc 158 [vs 100325 0 2 2]), (100327, mc 181 [pn]), (100328, .map [] 0), (100329, mc 162 [vi 0, sn]), (100330, mc 114 [vp 100314 0, vp 100326 0, vp 100324 0, vp 100329 0, vs 100327 0 1 1, (.map (some 100328)), vi 0]), (100331, .map [] 0), (100332, mc 117 [(.map (some 100331))]), (100333, mc 84 [vp 100330 0, vs 100346 0 1 openCap, vi 0, vp 100332 0, vs 100344 0 1 openCap, sn, sn, sn, sn, vi 0, vi 0]), (100336, mc 215 [sn]), (100337, mc 217 [vp 100336 0, vn 0, vi 2]), (100338, mc 168 [vp 100330 0, vi 0, vi 0, sn, sn, vp 100337 0, pn]), (100339, mc 171 [sn]), (100340, mc 126 [vp 100338 0, vi 0, vp 100339 0, vp 100332 0, vi 0, vi 0, vi 0, vi 0, vi 0, vi 0, .nilFunc, vi 0, vi 0, pn]), (100341, mo 62 [vi 1, vn 0, vn 0, vi 0, vi 0, vi 0, vi 4, vi 0, vi 1, vi 0, vi 5, vi 0]), (100342, mc 90 [vp 100340 0, vp 100333 0, vs 100341 0 2 openCap, vi 0, sn]), (100344, mo 88 [vp 100342 0]), (100346, mo 129 [.iface 88 (vp 100342 0)])], 100347⟩
set_option maxRecDepth 100000 in
theorem r42 : (e42.fitB && e42.runB (prTab false prB cutF []) Tryz.prog 100000) = true := by decide +kernel
theorem k42 : e42.Fit ∧ EntOk Tryz.prog e42 := Ent.both mixedHere (prTab_ok yes_not prB_ok (okNil)) r42

set_option maxRecDepth 100000 in
def e43 : Ent := ⟨7, 100347, [vp 100333 0, va [vi 1, vi 0]], turned [(100006, none), (100007, none), (100127, none)] (turned (e42.d.map fun p => (p.1, some p.2)) e42.bl), vt, [(100333, mc 84 [vp 100330 0, vs 100346 0 1 openCap, vi 1, vp 100332 0, vs 100344 0 1 openCap, sn, sn, sn, sn, vi 0, vi 1]), (100338, mc 168 [vp 100330 0, vi 0, vi 1, sn, sn, vp 100337 0, pn]), (100342, mc 90 [vp 100340 0, vp 100333 0, vs 100341 0 2 openCap, vi 1, sn])], 100352⟩
set_option maxRecDepth 100000 in
theorem r43 : (e43.fitB && e43.runB (prTab false prB cutF []) Tryz.prog 100000) = true := by decide +kernel
theorem k43 : e43.Fit ∧ EntOk Tryz.prog e43 := Ent.both mixedHere (prTab_ok yes_not prB_ok (okNil)) r43

set_option maxRecDepth 100000 in
def e44 : Ent := ⟨7, 100352, [vp 100333 0, va [vi 1, vi 0]], turned [] (turned (e43.d.map fun p => (p.1, some p.2)) e43.bl), vt, [(100327, mc 181 [vp 100477 0]), (100330, mc 114 [vp 100314 0, vp 100326 0, vp 100324 0, vp 100329 0, vs 100327 0 1 1, (.map (some 100328)), vi 1]), (100333, mc 84 [vp 100330 0, vs 100346 0 1 openCap, vi 2, vp 100332 0, vs 100344 0 1 openCap, sn, sn, sn, sn, vi 0, vi 1]), (100338, mc 168 [vp 100330 0, vi 0, vi 1, sn, sn, vp 100337 0, vp 100366 0]), (100340, mc 126 [vp 100338 0, vi 0, vp 100339 0, vp 100332 0, vi 4, vi 0, vi 1, vi 0, vi 5, vi 0, .func (.func 251) ⟨[vp 100340 0]⟩ ⟨[]⟩, vi 1, vi 1, pn]), (100342, mc 90 [vp 100340 0, vp 100333 0, vs 100341 0 2 openCap, vi 2, sn]), (100366, mc 380 [vs 100430 0 3 openCap, sn, vi 1, vi 0, vi 0, vi 1, vi 6, vi 0, vi 0, vi 1, vi 1, vn 0, vn 0, vi 2, vi 0, vi 0, vi 0, .func (.func 259) ⟨[vp 100338 0]⟩ ⟨[]⟩, .func (.func 260) ⟨[vp 100338 0]⟩ ⟨[]⟩, vf, vi 0]), (100430, mo 396 [vn 0, vn 0, vi 2, vi 0, vn 0, vi 2, vi 0, vi 1, vi 6]), (100477, mc 180 [vi 1, vi 1, vn 0, vn 0, vi 2, vi 0, vi 0, vp 100330 0, vi 0, vi 0, vi 1, .func (.func 341) ⟨[vp 100477 0]⟩ ⟨[]⟩, vi 1, vf, vi 0, vi 0, vi 0, vf, sn])], 100478⟩
set_option maxRecDepth 100000 in
theorem r44 : (e44.fitB && e44.runB (prTab false prB cutF []) Tryz.prog 100000) = true := by decide +kernel
theorem k44 : e44.Fit ∧ EntOk Tryz.prog e44 := Ent.both mixedHere (prTab_ok yes_not prB_ok (okNil)) r44

end Go.Proofs
