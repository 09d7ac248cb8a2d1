/-
  PROVED HERE: calls of the run, one by one: what each answers, and which blocks it leaves otherwise.
-/
import Derived.Test.YtoofpgianedgnaaGreatEEn0
set_option linter.unusedVariables false
set_option linter.unusedSimpArgs false
namespace Go.Proofs
open Go.Vai

set_option maxRecDepth 100000 in
def e27 : Ent := ⟨7, 1521, [vp 258 0, va [vi 1, vi 0]], [(188, mc 4 [vt, vt, vf, vf, vf, vf, vf, vf, vf, vf, vf, vf, vf, vf, vf, vf, vf, vf, vf, vf, vf, vf, vf, vf]), (189, mc 207 [vs 237 0 22 openCap, vs 188 0 24 24]), (237, mo 3 [vi 2, vi 3, vi 5, vi 7, vi 4, vi 11, vi 6, vi 15, vi 8, vi 19, vi 9, vi 22, vi 12, vi 13, vi 14, vi 23, vi 16, vi 17, vi 18, vi 21, vi 20, vi 10, vi 1, vi 0]), (238, .map [⟨vi 0, vi 1, 0⟩, ⟨vi 1, vi 1, 1⟩, ⟨vi 2, vi 0, 2⟩] 3), (239, mc 150 [vi 2, vi 8, vi 24, vi 2, vp 189 0, vs 247 0 2 openCap, (.map (some 238))]), (240, .map [] 1), (241, mc 212 [vi 8, vp 189 0, (.map (some 240))]), (244, .map [⟨va [vn 0, vn 0], vp 1456 0, 0⟩, ⟨va [vi 0, vn 0], vp 1286 0, 1⟩] 2), (245, mc 212 [vi 8, vp 189 0, (.map (some 244))]), (247, mo 151 [vp 241 0, vp 245 0]), (248, mc 3 [vi 0]), (249, mc 155 [vs 248 0 1 1]), (250, mc 434 [pn, pn]), (251, mc 158 [vs 250 0 2 2]), (252, mc 181 [pn]), (253, .map [] 0), (254, mc 162 [vi 0, sn]), (255, mc 114 [vp 239 0, vp 251 0, vp 249 0, vp 254 0, vs 252 0 1 1, (.map (some 253)), vi 6]), (256, .map [⟨va [vi 0, vi 1], vi 5, 0⟩] 1), (257, mc 117 [(.map (some 256))]), (258, mc 84 [vp 255 0, vs 271 0 1 openCap, vi 26, vp 257 0, vs 269 0 1 openCap, vs 1074 0 2 openCap, vs 1076 0 1 openCap, sn, sn, vi 0, vi 1]), (261, mc 215 [vs 1505 0 2 openCap]), (262, mc 217 [vp 261 0, vn 0, vi 2]), (263, mc 168 [vp 255 0, vi 0, vi 0, sn, sn, vp 262 0, pn]), (264, mc 171 [sn]), (265, mc 126 [vp 263 0, vi 0, vp 264 0, vp 257 0, vi 7, vn 0, vn 0, vi 0, vi 0, vi 0, .nilFunc, vi 1, vi 1, pn]), (266, mo 62 [vi 1, vn 0, vn 0, vi 0, vi 0, vi 0, vi 4, vi 0, vi 1, vi 0, vi 5, vi 0, vi 7, vn 0, vn 0, vi 0, vi 0, vi 0]), (267, mc 90 [vp 265 0, vp 258 0, vs 266 0 3 openCap, vi 3, vs 1510 0 2 openCap]), (269, mo 88 [vp 267 0]), (271, mo 129 [.iface 88 (vp 267 0)]), (1074, mo 64 [vi 1, vi 0, vi 4, vi 0, vi 1, vi 0, vi 5, vi 0, vi 1, vi 0, sn, vi 1, vi 0, vi 7, vn 0, vn 0, vi 0, vi 0, vi 0, vi 1, vi 0, sn]), (1076, mo 3 [vi 1]), (1286, mc 186 [vi 0, vn 0, vs 1292 0 1 openCap, vi 0]), (1292, mo 188 [vi 1, vn 0, vi 2, vi 2, vi 0]), (1456, mc 186 [vn 0, vn 0, vs 1462 0 1 openCap, vi 0]), (1462, mo 188 [vi 0, vn 0, vi 2, vi 2, vi 0]), (1505, mo 197 [vn 0, vn 0, vn 0, vi 2, vn 0, vi 0, vn 0, vi 2]), (1510, mo 49 [vi 1, vi 0, sn, vi 1, vi 0, sn])], vf, [(258, mc 84 [vp 255 0, vs 271 0 1 openCap, vi 27, vp 257 0, vs 269 0 1 openCap, vs 1074 0 2 openCap, vs 1076 0 1 openCap, sn, sn, vi 0, vi 1])], 1523⟩
set_option maxRecDepth 100000 in
theorem r27 : (e27.fitB && e27.runB (prTab false prB cutF []) Tryz.prog 100000) = true := by decide +kernel
theorem k27 : e27.Fit ∧ EntOk Tryz.prog e27 := Ent.both mixedHere (prTab_ok yes_not prB_ok (okNil)) r27

set_option maxRecDepth 100000 in
def e28 : Ent := ⟨7, 1524, [vp 258 0, va [vi 1, vi 0]], turned [] (turned (e27.d.map fun p => (p.1, some p.2)) e27.bl), vf, [(258, mc 84 [vp 255 0, vs 271 0 1 openCap, vi 28, vp 257 0, vs 269 0 1 openCap, vs 1074 0 2 openCap, vs 1076 0 1 openCap, sn, sn, vi 0, vi 1])], 1526⟩
set_option maxRecDepth 100000 in
theorem r28 : (e28.fitB && e28.runB (prTab false prB cutF []) Tryz.prog 100000) = true := by decide +kernel
theorem k28 : e28.Fit ∧ EntOk Tryz.prog e28 := Ent.both mixedHere (prTab_ok yes_not prB_ok (okNil)) r28

set_option maxRecDepth 100000 in
def e29 : Ent := ⟨7, 1527, [vp 258 0, va [vi 1, vi 0]], turned [] (turned (e28.d.map fun p => (p.1, some p.2)) e28.bl), vf, [(258, mc 84 [vp 255 0, vs 271 0 1 openCap, vi 29, vp 257 0, vs 269 0 1 openCap, vs 1074 0 2 openCap, vs 1076 0 1 openCap, sn, sn, vi 0, vi 1])], 1529⟩
set_option maxRecDepth 100000 in
theorem r29 : (e29.fitB && e29.runB (prTab false prB cutF []) Tryz.prog 100000) = true := by decide +kernel
theorem k29 : e29.Fit ∧ EntOk Tryz.prog e29 := Ent.both mixedHere (prTab_ok yes_not prB_ok (okNil)) r29

set_option maxRecDepth 100000 in
def e30 : Ent := ⟨7, 1530, [vp 258 0, va [vi 1, vi 0]], turned [] (turned (e29.d.map fun p => (p.1, some p.2)) e29.bl), vf, [(258, mc 84 [vp 255 0, vs 271 0 1 openCap, vi 30, vp 257 0, vs 269 0 1 openCap, vs 1074 0 2 openCap, vs 1076 0 1 openCap, sn, sn, vi 0, vi 1])], 1532⟩
set_option maxRecDepth 100000 in
theorem r30 : (e30.fitB && e30.runB (prTab false prB cutF []) Tryz.prog 100000) = true := by decide +kernel
theorem k30 : e30.Fit ∧ EntOk Tryz.prog e30 := Ent.both mixedHere (prTab_ok yes_not prB_ok (okNil)) r30

set_option maxRecDepth 100000 in
def e31 : Ent := ⟨7, 1533, [vp 258 0, va [vi 1, vi 0]], turned [] (turned (e30.d.map fun p => (p.1, some p.2)) e30.bl), vf, [(258, mc 84 [vp 255 0, vs 271 0 1 openCap, vi 31, vp 257 0, vs 269 0 1 openCap, vs 1074 0 2 openCap, vs 1076 0 1 openCap, sn, sn, vi 0, vi 1])], 1535⟩
set_option maxRecDepth 100000 in
theorem r31 : (e31.fitB && e31.runB (prTab false prB cutF []) Tryz.prog 100000) = true := by decide +kernel
theorem k31 : e31.Fit ∧ EntOk Tryz.prog e31 := Ent.both mixedHere (prTab_ok yes_not prB_ok (okNil)) r31

set_option maxRecDepth 100000 in
def e32 : Ent := ⟨7, 1536, [vp 258 0, va [vi 1, vi 0]], turned [] (turned (e31.d.map fun p => (p.1, some p.2)) e31.bl), vf, [(258, mc 84 [vp 255 0, vs 271 0 1 openCap, vi 32, vp 257 0, vs 269 0 1 openCap, vs 1074 0 2 openCap, vs 1076 0 1 openCap, sn, sn, vi 0, vi 1])], 1538⟩
set_option maxRecDepth 100000 in
theorem r32 : (e32.fitB && e32.runB (prTab false prB cutF []) Tryz.prog 100000) = true := by decide +kernel
theorem k32 : e32.Fit ∧ EntOk Tryz.prog e32 := Ent.both mixedHere (prTab_ok yes_not prB_ok (okNil)) r32

set_option maxRecDepth 100000 in
def e33 : Ent := ⟨7, 1539, [vp 258 0, va [vi 1, vi 0]], turned [] (turned (e32.d.map fun p => (p.1, some p.2)) e32.bl), vf, [(258, mc 84 [vp 255 0, vs 271 0 1 openCap, vi 33, vp 257 0, vs 269 0 1 openCap, vs 1074 0 2 openCap, vs 1076 0 1 openCap, sn, sn, vi 0, vi 1])], 1541⟩
set_option maxRecDepth 100000 in
theorem r33 : (e33.fitB && e33.runB (prTab false prB cutF []) Tryz.prog 100000) = true := by decide +kernel
theorem k33 : e33.Fit ∧ EntOk Tryz.prog e33 := Ent.both mixedHere (prTab_ok yes_not prB_ok (okNil)) r33

set_option maxRecDepth 100000 in
def e34 : Ent := ⟨7, 1542, [vp 258 0, va [vi 1, vi 0]], turned [] (turned (e33.d.map fun p => (p.1, some p.2)) e33.bl), vf, [(258, mc 84 [vp 255 0, vs 271 0 1 openCap, vi 34, vp 257 0, vs 269 0 1 openCap, vs 1074 0 2 openCap, vs 1076 0 1 openCap, sn, sn, vi 0, vi 1])], 1544⟩
set_option maxRecDepth 100000 in
theorem r34 : (e34.fitB && e34.runB (prTab false prB cutF []) Tryz.prog 100000) = true := by decide +kernel
theorem k34 : e34.Fit ∧ EntOk Tryz.prog e34 := Ent.both mixedHere (prTab_ok yes_not prB_ok (okNil)) r34

set_option maxRecDepth 100000 in
def e35 : Ent := ⟨7, 1545, [vp 258 0, va [vi 1, vi 0]], turned [] (turned (e34.d.map fun p => (p.1, some p.2)) e34.bl), vf, [(258, mc 84 [vp 255 0, vs 271 0 1 openCap, vi 35, vp 257 0, vs 269 0 1 openCap, vs 1074 0 2 openCap, vs 1076 0 1 openCap, sn, sn, vi 0, vi 1])], 1547⟩
set_option maxRecDepth 100000 in
theorem r35 : (e35.fitB && e35.runB (prTab false prB cutF []) Tryz.prog 100000) = true := by decide +kernel
theorem k35 : e35.Fit ∧ EntOk Tryz.prog e35 := Ent.both mixedHere (prTab_ok yes_not prB_ok (okNil)) r35

end Go.Proofs
