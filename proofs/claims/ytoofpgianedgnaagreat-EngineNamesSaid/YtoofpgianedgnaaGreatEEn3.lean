/-
  PROVED HERE: calls of the run, one by one: what each answers, and which blocks it leaves otherwise.
-/
import Derived.Test.YtoofpgianedgnaaGreatEEn0
set_option linter.unusedVariables false
set_option linter.unusedSimpArgs false
namespace Go.Proofs
open Go.Vai

set_option maxRecDepth 100000 in
def e18 : Ent := ⟨7, 1184, [vp 258 0, va [vi 1, vi 0]], [(188, mc 4 [vt, vt, vf, vf, vf, vf, vf, vf, vf, vf, vf, vf, vf, vf, vf, vf, vf, vf, vf, vf, vf, vf, vf, vf]), (189, mc 207 [vs 237 0 22 openCap, vs 188 0 24 24]), (237, mo 3 [vi 2, vi 3, vi 5, vi 7, vi 4, vi 11, vi 6, vi 15, vi 8, vi 19, vi 9, vi 22, vi 12, vi 13, vi 14, vi 23, vi 16, vi 17, vi 18, vi 21, vi 20, vi 10, vi 1, vi 0]), (238, .map [⟨vi 0, vi 1, 0⟩, ⟨vi 1, vi 1, 1⟩, ⟨vi 2, vi 0, 2⟩] 3), (239, mc 150 [vi 2, vi 8, vi 24, vi 2, vp 189 0, vs 247 0 2 openCap, (.map (some 238))]), (240, .map [] 1), (241, mc 212 [vi 8, vp 189 0, (.map (some 240))]), (244, .map [⟨va [vn 0, vn 0], vp 481 0, 0⟩, ⟨va [vi 0, vn 0], vp 664 0, 1⟩] 2), (245, mc 212 [vi 8, vp 189 0, (.map (some 244))]), (247, mo 151 [vp 241 0, vp 245 0]), (248, mc 3 [vi 0]), (249, mc 155 [vs 248 0 1 1]), (250, mc 434 [pn, pn]), (251, mc 158 [vs 250 0 2 2]), (252, mc 181 [vp 1179 0]), (253, .map [] 0), (254, mc 162 [vi 0, sn]), (255, mc 114 [vp 239 0, vp 251 0, vp 249 0, vp 254 0, vs 252 0 1 1, (.map (some 253)), vi 5]), (256, .map [⟨va [vi 0, vi 1], vi 5, 0⟩] 1), (257, mc 117 [(.map (some 256))]), (258, mc 84 [vp 255 0, vs 271 0 1 openCap, vi 17, vp 257 0, vs 269 0 1 openCap, vs 1074 0 2 openCap, vs 1076 0 1 openCap, sn, sn, vi 0, vi 1]), (261, mc 215 [sn]), (262, mc 217 [vp 261 0, vn 0, vi 2]), (263, mc 168 [vp 255 0, vi 0, vi 1, vs 939 0 1 openCap, vs 1154 0 2 openCap, vp 262 0, vp 1004 0]), (264, mc 171 [sn]), (265, mc 126 [vp 263 0, vi 0, vp 264 0, vp 257 0, vi 7, vn 0, vn 0, vi 0, vi 0, vi 0, .func (.func 257) ⟨[vp 265 0]⟩ ⟨[]⟩, vi 1, vi 1, pn]), (266, mo 62 [vi 1, vn 0, vn 0, vi 0, vi 0, vi 0, vi 4, vi 0, vi 1, vi 0, vi 5, vi 0, vi 7, vn 0, vn 0, vi 0, vi 0, vi 0]), (267, mc 90 [vp 265 0, vp 258 0, vs 266 0 3 openCap, vi 3, vs 978 0 1 openCap]), (269, mo 88 [vp 267 0]), (271, mo 129 [.iface 88 (vp 267 0)]), (481, mc 186 [vn 0, vn 0, vs 487 0 1 openCap, vi 0]), (487, mo 188 [vi 0, vi 1, vi 2, vi 2, vi 0]), (664, mc 186 [vi 0, vn 0, vs 670 0 1 openCap, vi 0]), (670, mo 188 [vi 1, vi 1, vi 2, vi 2, vi 0]), (939, mo 197 [vi 1, vi 0, vi 1, vi 6]), (978, mo 49 [vi 1, vi 0, sn]), (1004, mc 380 [sn, vs 1006 4 2 openCap, vi 3, vi 0, vi 0, vi 0, vi 0, vi 0, vi 0, vi 3, vi 1, vi 0, vn 0, vi 0, vi 0, vn 0, vi 0, .func (.func 293) ⟨[vp 263 0]⟩ ⟨[]⟩, .func (.func 266) ⟨[]⟩ ⟨[]⟩, vt, vi 0]), (1006, mo 197 [vi 1, vi 0, vi 1, vi 6, vi 1, vi 0, vn 0, vi 2, vi 1, vn 0, vn 0, vi 2]), (1074, mo 64 [vi 1, vi 0, vi 4, vi 0, vi 1, vi 0, vi 5, vi 0, vi 1, vi 0, sn, vi 1, vi 0, vi 7, vn 0, vn 0, vi 0, vi 0, vi 0, vi 1, vi 0, sn]), (1076, mo 3 [vi 1]), (1154, mo 197 [vi 1, vn 0, vn 0, vi 2, vi 1, vi 0, vn 0, vi 2, vi 0, vi 0, vi 0, vi 0]), (1179, mc 180 [vi 3, vi 1, vi 0, vn 0, vi 0, vi 0, vn 0, vp 255 0, vi 0, vi 4, vi 1, .func (.func 341) ⟨[vp 1179 0]⟩ ⟨[]⟩, vi 1, vf, vi 0, vi 0, vi 0, vf, sn])], vt, [(250, mc 434 [pn, vp 1190 0]), (258, mc 84 [vp 255 0, vs 271 0 1 openCap, vi 18, vp 257 0, vs 269 0 1 openCap, vs 1074 0 2 openCap, vs 1076 0 1 openCap, sn, sn, vi 0, vi 1]), (1179, mc 180 [vi 3, vi 1, vi 0, vn 0, vi 0, vi 0, vn 0, vp 255 0, vi 0, vi 4, vi 1, .func (.func 353) ⟨[vp 1179 0]⟩ ⟨[]⟩, vi 2, vf, vi 0, vi 0, vi 0, vf, sn]), (1190, mc 436 [vi 0])], 1194⟩
set_option maxRecDepth 100000 in
theorem r18 : (e18.fitB && e18.runB (prTab false prB cutF []) Tryz.prog 100000) = true := by decide +kernel
theorem k18 : e18.Fit ∧ EntOk Tryz.prog e18 := Ent.both mixedHere (prTab_ok yes_not prB_ok (okNil)) r18

set_option maxRecDepth 100000 in
def e19 : Ent := ⟨7, 1195, [vp 258 0, va [vi 1, vi 0]], turned [] (turned (e18.d.map fun p => (p.1, some p.2)) e18.bl), vt, [(244, .map [⟨va [vn 0, vn 0], vp 481 0, 0⟩, ⟨va [vi 0, vn 0], vp 1286 0, 1⟩] 2), (258, mc 84 [vp 255 0, vs 271 0 1 openCap, vi 19, vp 257 0, vs 269 0 1 openCap, vs 1074 0 2 openCap, vs 1076 0 1 openCap, sn, sn, vi 0, vi 1]), (1179, mc 180 [vi 3, vi 1, vi 0, vn 0, vi 0, vi 0, vn 0, vp 255 0, vi 0, vi 4, vi 1, .func (.func 362) ⟨[vp 1179 0]⟩ ⟨[]⟩, vi 3, vf, vi 0, vi 0, vi 1, vf, sn]), (1286, mc 186 [vi 0, vn 0, vs 1292 0 1 openCap, vi 0]), (1292, mo 188 [vi 1, vn 0, vi 2, vi 2, vi 0])], 1304⟩
set_option maxRecDepth 100000 in
theorem r19 : (e19.fitB && e19.runB (prTab false prB cutF []) Tryz.prog 100000) = true := by decide +kernel
theorem k19 : e19.Fit ∧ EntOk Tryz.prog e19 := Ent.both mixedHere (prTab_ok yes_not prB_ok (okNil)) r19

set_option maxRecDepth 100000 in
def e20 : Ent := ⟨7, 1305, [vp 258 0, va [vi 1, vi 0]], turned [(664, none), (670, none)] (turned (e19.d.map fun p => (p.1, some p.2)) e19.bl), vt, [(250, mc 434 [pn, pn]), (252, mc 181 [vp 1350 0]), (255, mc 114 [vp 239 0, vp 251 0, vp 249 0, vp 254 0, vs 252 0 1 1, (.map (some 253)), vi 6]), (258, mc 84 [vp 255 0, vs 271 0 1 openCap, vi 20, vp 257 0, vs 269 0 1 openCap, vs 1074 0 2 openCap, vs 1076 0 1 openCap, sn, sn, vi 0, vi 1]), (261, mc 215 [vs 1328 0 1 openCap]), (263, mc 168 [vp 255 0, vi 0, vi 1, vs 939 0 1 openCap, vs 1314 0 1 openCap, vp 262 0, vp 1004 0]), (1004, mc 380 [sn, vs 1006 8 1 openCap, vi 3, vi 0, vi 0, vi 0, vi 0, vi 0, vi 0, vi 3, vi 1, vn 0, vn 0, vi 0, vi 0, vn 0, vi 0, .func (.func 293) ⟨[vp 263 0]⟩ ⟨[]⟩, .func (.func 266) ⟨[]⟩ ⟨[]⟩, vt, vi 0]), (1179, mc 180 [vi 3, vi 1, vi 0, vn 0, vi 0, vi 0, vn 0, vp 255 0, vi 0, vi 4, vi 1, .func (.func 362) ⟨[vp 1179 0]⟩ ⟨[]⟩, vi 3, vf, vi 0, vi 0, vi 1, vt, sn]), (1314, mo 197 [vi 1, vn 0, vn 0, vi 2, vi 0, vi 0, vi 0, vi 0]), (1328, mo 197 [vn 0, vi 0, vn 0, vi 2]), (1350, mc 180 [vi 3, vi 1, vn 0, vn 0, vi 0, vi 0, vn 0, vp 255 0, vi 0, vi 5, vi 1, .func (.func 341) ⟨[vp 1350 0]⟩ ⟨[]⟩, vi 1, vf, vi 0, vi 0, vi 0, vf, sn])], 1354⟩
set_option maxRecDepth 100000 in
theorem r20 : (e20.fitB && e20.runB (prTab false prB cutF []) Tryz.prog 100000) = true := by decide +kernel
theorem k20 : e20.Fit ∧ EntOk Tryz.prog e20 := Ent.both mixedHere (prTab_ok yes_not prB_ok (okNil)) r20

set_option maxRecDepth 100000 in
def e21 : Ent := ⟨7, 1355, [vp 258 0, va [vi 1, vi 0]], turned [(1154, none), (1179, none), (1190, none)] (turned (e20.d.map fun p => (p.1, some p.2)) e20.bl), vt, [(250, mc 434 [pn, vp 1361 0]), (258, mc 84 [vp 255 0, vs 271 0 1 openCap, vi 21, vp 257 0, vs 269 0 1 openCap, vs 1074 0 2 openCap, vs 1076 0 1 openCap, sn, sn, vi 0, vi 1]), (1350, mc 180 [vi 3, vi 1, vn 0, vn 0, vi 0, vi 0, vn 0, vp 255 0, vi 0, vi 5, vi 1, .func (.func 353) ⟨[vp 1350 0]⟩ ⟨[]⟩, vi 2, vf, vi 0, vi 0, vi 0, vf, sn]), (1361, mc 436 [vi 0])], 1365⟩
set_option maxRecDepth 100000 in
theorem r21 : (e21.fitB && e21.runB (prTab false prB cutF []) Tryz.prog 100000) = true := by decide +kernel
theorem k21 : e21.Fit ∧ EntOk Tryz.prog e21 := Ent.both mixedHere (prTab_ok yes_not prB_ok (okNil)) r21

set_option maxRecDepth 100000 in
def e22 : Ent := ⟨7, 1366, [vp 258 0, va [vi 1, vi 0]], turned [] (turned (e21.d.map fun p => (p.1, some p.2)) e21.bl), vt, [(244, .map [⟨va [vn 0, vn 0], vp 1456 0, 0⟩, ⟨va [vi 0, vn 0], vp 1286 0, 1⟩] 2), (258, mc 84 [vp 255 0, vs 271 0 1 openCap, vi 22, vp 257 0, vs 269 0 1 openCap, vs 1074 0 2 openCap, vs 1076 0 1 openCap, sn, sn, vi 0, vi 1]), (1350, mc 180 [vi 3, vi 1, vn 0, vn 0, vi 0, vi 0, vn 0, vp 255 0, vi 0, vi 5, vi 1, .func (.func 362) ⟨[vp 1350 0]⟩ ⟨[]⟩, vi 3, vf, vi 0, vi 0, vi 1, vf, sn]), (1456, mc 186 [vn 0, vn 0, vs 1462 0 1 openCap, vi 0]), (1462, mo 188 [vi 0, vn 0, vi 2, vi 2, vi 0])], 1474⟩
set_option maxRecDepth 100000 in
theorem r22 : (e22.fitB && e22.runB (prTab false prB cutF []) Tryz.prog 100000) = true := by decide +kernel
theorem k22 : e22.Fit ∧ EntOk Tryz.prog e22 := Ent.both mixedHere (prTab_ok yes_not prB_ok (okNil)) r22

set_option maxRecDepth 100000 in
def e23 : Ent := ⟨7, 1475, [vp 258 0, va [vi 1, vi 0]], turned [(481, none), (487, none)] (turned (e22.d.map fun p => (p.1, some p.2)) e22.bl), vt, [(250, mc 434 [pn, pn]), (252, mc 181 [pn]), (258, mc 84 [vp 255 0, vs 271 0 1 openCap, vi 23, vp 257 0, vs 269 0 1 openCap, vs 1074 0 2 openCap, vs 1076 0 1 openCap, sn, sn, vi 0, vi 1]), (261, mc 215 [vs 1505 0 2 openCap]), (263, mc 168 [vp 255 0, vi 0, vi 0, sn, sn, vp 262 0, pn]), (265, mc 126 [vp 263 0, vi 0, vp 264 0, vp 257 0, vi 7, vn 0, vn 0, vi 0, vi 0, vi 0, .nilFunc, vi 1, vi 1, pn]), (267, mc 90 [vp 265 0, vp 258 0, vs 266 0 3 openCap, vi 3, vs 1510 0 2 openCap]), (978, (.dead 3 49)), (1004, mc 380 [sn, vs 1006 8 0 anyCap, vi 3, vi 0, vi 0, vi 0, vi 0, vi 0, vi 0, vi 3, vi 1, vn 0, vn 0, vi 0, vi 0, vn 0, vi 0, .func (.func 293) ⟨[vp 263 0]⟩ ⟨[]⟩, .func (.func 266) ⟨[]⟩ ⟨[]⟩, vt, vi 1]), (1350, mc 180 [vi 3, vi 1, vn 0, vn 0, vi 0, vi 0, vn 0, vp 255 0, vi 0, vi 5, vi 1, .func (.func 362) ⟨[vp 1350 0]⟩ ⟨[]⟩, vi 3, vf, vi 0, vi 0, vi 1, vt, sn]), (1505, mo 197 [vn 0, vn 0, vn 0, vi 2, vn 0, vi 0, vn 0, vi 2]), (1510, mo 49 [vi 1, vi 0, sn, vi 1, vi 0, sn])], 1511⟩
set_option maxRecDepth 100000 in
theorem r23 : (e23.fitB && e23.runB (prTab false prB cutF []) Tryz.prog 100000) = true := by decide +kernel
theorem k23 : e23.Fit ∧ EntOk Tryz.prog e23 := Ent.both mixedHere (prTab_ok yes_not prB_ok (okNil)) r23

set_option maxRecDepth 100000 in
def e24 : Ent := ⟨7, 1512, [vp 258 0, va [vi 1, vi 0]], turned [(939, none), (978, none), (1004, none), (1006, none), (1314, none), (1328, none), (1350, none), (1361, none)] (turned (e23.d.map fun p => (p.1, some p.2)) e23.bl), vf, [(258, mc 84 [vp 255 0, vs 271 0 1 openCap, vi 24, vp 257 0, vs 269 0 1 openCap, vs 1074 0 2 openCap, vs 1076 0 1 openCap, sn, sn, vi 0, vi 1])], 1514⟩
set_option maxRecDepth 100000 in
theorem r24 : (e24.fitB && e24.runB (prTab false prB cutF []) Tryz.prog 100000) = true := by decide +kernel
theorem k24 : e24.Fit ∧ EntOk Tryz.prog e24 := Ent.both mixedHere (prTab_ok yes_not prB_ok (okNil)) r24

set_option maxRecDepth 100000 in
def e25 : Ent := ⟨7, 1515, [vp 258 0, va [vi 1, vi 0]], turned [] (turned (e24.d.map fun p => (p.1, some p.2)) e24.bl), vf, [(258, mc 84 [vp 255 0, vs 271 0 1 openCap, vi 25, vp 257 0, vs 269 0 1 openCap, vs 1074 0 2 openCap, vs 1076 0 1 openCap, sn, sn, vi 0, vi 1])], 1517⟩
set_option maxRecDepth 100000 in
theorem r25 : (e25.fitB && e25.runB (prTab false prB cutF []) Tryz.prog 100000) = true := by decide +kernel
theorem k25 : e25.Fit ∧ EntOk Tryz.prog e25 := Ent.both mixedHere (prTab_ok yes_not prB_ok (okNil)) r25

set_option maxRecDepth 100000 in
def e26 : Ent := ⟨7, 1518, [vp 258 0, va [vi 1, vi 0]], turned [] (turned (e25.d.map fun p => (p.1, some p.2)) e25.bl), vf, [(258, mc 84 [vp 255 0, vs 271 0 1 openCap, vi 26, vp 257 0, vs 269 0 1 openCap, vs 1074 0 2 openCap, vs 1076 0 1 openCap, sn, sn, vi 0, vi 1])], 1520⟩
set_option maxRecDepth 100000 in
theorem r26 : (e26.fitB && e26.runB (prTab false prB cutF []) Tryz.prog 100000) = true := by decide +kernel
theorem k26 : e26.Fit ∧ EntOk Tryz.prog e26 := Ent.both mixedHere (prTab_ok yes_not prB_ok (okNil)) r26

end Go.Proofs
