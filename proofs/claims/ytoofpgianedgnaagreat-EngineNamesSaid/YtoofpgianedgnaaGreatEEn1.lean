/-
  PROVED HERE: calls of the run, one by one: what each answers, and which blocks it leaves otherwise.
-/
import Derived.Test.YtoofpgianedgnaaGreatEEn0
set_option linter.unusedVariables false
set_option linter.unusedSimpArgs false
namespace Go.Proofs
open Go.Vai

set_option maxRecDepth 100000 in
def e0 : Ent := ⟨6, 91, [va [vs 7 0 1 1, vs 87 0 40 openCap, vi 2, vi 8, vi 24, vi 2]], [(6, mc 62 [vi 1, vn 0, vn 0, vi 0, vi 0, vi 0, vi 4, vi 0, vi 1, vi 0, vi 5, vi 0, vi 7, vn 0, vn 0, vi 0, vi 0, vi 0]), (7, mc 30 [vs 6 0 3 3]), (87, mo 37 [vi 1, vi 0, vi 1, vi 0, vi 1, vi 0, vi 1, vi 0, vi 1, vi 0, vi 1, vi 0, vi 1, vi 0, vi 1, vi 0, vi 1, vi 0, vi 1, vi 0, vi 1, vi 0, vi 1, vi 0, vi 1, vi 0, vi 1, vi 0, vi 1, vi 0, vi 1, vi 0, vi 1, vi 0, vi 1, vi 0, vi 1, vi 0, vi 1, vi 0, vi 1, vi 0, vi 1, vi 0, vi 1, vi 0, vi 1, vi 0, vi 1, vi 0, vi 1, vi 0, vi 1, vi 0, vi 1, vi 0, vi 1, vi 0, vi 1, vi 0, vi 1, vi 0, vi 1, vi 0, vi 1, vi 0, vi 1, vi 0, vi 1, vi 0, vi 1, vi 0, vi 1, vi 0, vi 1, vi 0, vi 1, vi 0, vi 1, vi 0])], vv [vp 258 0, vi 0], [(188, mc 4 [vf, vf, vf, vf, vf, vf, vf, vf, vf, vf, vf, vf, vf, vf, vf, vf, vf, vf, vf, vf, vf, vf, vf, vf]), (189, mc 207 [vs 237 0 24 openCap, vs 188 0 24 24]), (237, mo 3 [vi 0, vi 1, vi 2, vi 3, vi 4, vi 5, vi 6, vi 7, vi 8, vi 9, vi 10, vi 11, vi 12, vi 13, vi 14, vi 15, vi 16, vi 17, vi 18, vi 19, vi 20, vi 21, vi 22, vi 23]), (238, .map [] 0), (239, mc 150 [vi 2, vi 8, vi 24, vi 2, vp 189 0, vs 247 0 2 openCap, (.map (some 238))]), (240, .map [] 0), (241, mc 212 [vi 8, vp 189 0, (.map (some 240))]), (244, .map [] 0), (245, mc 212 [vi 8, vp 189 0, (.map (some 244))]), (247, mo 151 [vp 241 0, vp 245 0]), (248, mc 3 [vi 0]), (249, mc 155 [vs 248 0 1 1]), (250, mc 434 [pn, pn]), (251, mc 158 [vs 250 0 2 2]), (252, mc 181 [pn]), (253, .map [] 0), (254, mc 162 [vi 0, sn]), (255, mc 114 [vp 239 0, vp 251 0, vp 249 0, vp 254 0, vs 252 0 1 1, (.map (some 253)), vi 0]), (256, .map [] 0), (257, mc 117 [(.map (some 256))]), (258, mc 84 [vp 255 0, vs 271 0 1 openCap, vi 0, vp 257 0, vs 269 0 1 openCap, sn, sn, sn, sn, vi 0, vi 0]), (261, mc 215 [sn]), (262, mc 217 [vp 261 0, vn 0, vi 2]), (263, mc 168 [vp 255 0, vi 0, vi 0, sn, sn, vp 262 0, pn]), (264, mc 171 [sn]), (265, mc 126 [vp 263 0, vi 0, vp 264 0, vp 257 0, vi 0, vi 0, vi 0, vi 0, vi 0, vi 0, .nilFunc, vi 0, vi 0, pn]), (266, mo 62 [vi 1, vn 0, vn 0, vi 0, vi 0, vi 0, vi 4, vi 0, vi 1, vi 0, vi 5, vi 0, vi 7, vn 0, vn 0, vi 0, vi 0, vi 0]), (267, mc 90 [vp 265 0, vp 258 0, vs 266 0 3 openCap, vi 0, sn]), (269, mo 88 [vp 267 0]), (271, mo 129 [.iface 88 (vp 267 0)])], 272⟩
set_option maxRecDepth 100000 in
theorem r0 : (e0.fitB && e0.runB (prTab false prB cutF []) Tryz.prog 100000) = true := by decide +kernel
theorem k0 : e0.Fit ∧ EntOk Tryz.prog e0 := Ent.both mixedHere (prTab_ok yes_not prB_ok (okNil)) r0

set_option maxRecDepth 100000 in
def e1 : Ent := ⟨7, 273, [vp 258 0, va [vi 1, vi 0]], turned [(6, none), (7, none), (87, none)] (turned (e0.d.map fun p => (p.1, some p.2)) e0.bl), vt, [(258, mc 84 [vp 255 0, vs 271 0 1 openCap, vi 1, vp 257 0, vs 269 0 1 openCap, sn, sn, sn, sn, vi 0, vi 1]), (263, mc 168 [vp 255 0, vi 0, vi 1, sn, sn, vp 262 0, pn]), (267, mc 90 [vp 265 0, vp 258 0, vs 266 0 3 openCap, vi 1, sn])], 278⟩
set_option maxRecDepth 100000 in
theorem r1 : (e1.fitB && e1.runB (prTab false prB cutF []) Tryz.prog 100000) = true := by decide +kernel
theorem k1 : e1.Fit ∧ EntOk Tryz.prog e1 := Ent.both mixedHere (prTab_ok yes_not prB_ok (okNil)) r1

set_option maxRecDepth 100000 in
def e2 : Ent := ⟨7, 279, [vp 258 0, va [vi 1, vi 0]], turned [] (turned (e1.d.map fun p => (p.1, some p.2)) e1.bl), vt, [(252, mc 181 [vp 404 0]), (255, mc 114 [vp 239 0, vp 251 0, vp 249 0, vp 254 0, vs 252 0 1 1, (.map (some 253)), vi 1]), (258, mc 84 [vp 255 0, vs 271 0 1 openCap, vi 2, vp 257 0, vs 269 0 1 openCap, sn, sn, sn, sn, vi 0, vi 1]), (263, mc 168 [vp 255 0, vi 0, vi 1, sn, sn, vp 262 0, vp 293 0]), (265, mc 126 [vp 263 0, vi 0, vp 264 0, vp 257 0, vi 4, vi 0, vi 1, vi 0, vi 5, vi 0, .func (.func 251) ⟨[vp 265 0]⟩ ⟨[]⟩, vi 1, vi 1, pn]), (267, mc 90 [vp 265 0, vp 258 0, vs 266 0 3 openCap, vi 2, sn]), (293, mc 380 [vs 357 0 3 openCap, sn, vi 1, vi 0, vi 0, vi 1, vi 6, vi 0, vi 0, vi 1, vi 1, vn 0, vn 0, vi 2, vi 0, vi 0, vi 0, .func (.func 259) ⟨[vp 263 0]⟩ ⟨[]⟩, .func (.func 260) ⟨[vp 263 0]⟩ ⟨[]⟩, vf, vi 0]), (357, mo 396 [vn 0, vn 0, vi 2, vi 0, vn 0, vi 2, vi 0, vi 1, vi 6]), (404, mc 180 [vi 1, vi 1, vn 0, vn 0, vi 2, vi 0, vi 0, vp 255 0, vi 0, vi 0, vi 1, .func (.func 341) ⟨[vp 404 0]⟩ ⟨[]⟩, vi 1, vf, vi 0, vi 0, vi 0, vf, sn])], 405⟩
set_option maxRecDepth 100000 in
theorem r2 : (e2.fitB && e2.runB (prTab false prB cutF []) Tryz.prog 100000) = true := by decide +kernel
theorem k2 : e2.Fit ∧ EntOk Tryz.prog e2 := Ent.both mixedHere (prTab_ok yes_not prB_ok (okNil)) r2

set_option maxRecDepth 100000 in
def e3 : Ent := ⟨7, 406, [vp 258 0, va [vi 1, vi 0]], turned [] (turned (e2.d.map fun p => (p.1, some p.2)) e2.bl), vt, [(250, mc 434 [pn, vp 412 0]), (258, mc 84 [vp 255 0, vs 271 0 1 openCap, vi 3, vp 257 0, vs 269 0 1 openCap, sn, sn, sn, sn, vi 0, vi 1]), (404, mc 180 [vi 1, vi 1, vn 0, vn 0, vi 2, vi 0, vi 0, vp 255 0, vi 0, vi 0, vi 1, .func (.func 353) ⟨[vp 404 0]⟩ ⟨[]⟩, vi 2, vf, vi 0, vi 0, vi 0, vf, sn]), (412, mc 436 [vi 0])], 416⟩
set_option maxRecDepth 100000 in
theorem r3 : (e3.fitB && e3.runB (prTab false prB cutF []) Tryz.prog 100000) = true := by decide +kernel
theorem k3 : e3.Fit ∧ EntOk Tryz.prog e3 := Ent.both mixedHere (prTab_ok yes_not prB_ok (okNil)) r3

set_option maxRecDepth 100000 in
def e4 : Ent := ⟨7, 417, [vp 258 0, va [vi 1, vi 0]], turned [] (turned (e3.d.map fun p => (p.1, some p.2)) e3.bl), vt, [(188, mc 4 [vt, vf, vf, vf, vf, vf, vf, vf, vf, vf, vf, vf, vf, vf, vf, vf, vf, vf, vf, vf, vf, vf, vf, vf]), (189, mc 207 [vs 237 0 23 openCap, vs 188 0 24 24]), (237, mo 3 [vi 1, vi 3, vi 2, vi 7, vi 4, vi 5, vi 6, vi 15, vi 8, vi 9, vi 10, vi 11, vi 12, vi 13, vi 14, vi 23, vi 16, vi 17, vi 18, vi 19, vi 20, vi 21, vi 22, vi 0]), (238, .map [⟨vi 0, vi 1, 0⟩] 1), (244, .map [⟨va [vn 0, vn 0], vp 481 0, 0⟩] 1), (258, mc 84 [vp 255 0, vs 271 0 1 openCap, vi 4, vp 257 0, vs 269 0 1 openCap, sn, sn, sn, sn, vi 0, vi 1]), (404, mc 180 [vi 1, vi 1, vn 0, vn 0, vi 2, vi 0, vi 0, vp 255 0, vi 0, vi 0, vi 1, .func (.func 362) ⟨[vp 404 0]⟩ ⟨[]⟩, vi 3, vf, vi 0, vi 0, vi 1, vf, sn]), (481, mc 186 [vn 0, vn 0, vs 487 0 1 openCap, vi 0]), (487, mo 188 [vi 0, vi 1, vi 2, vi 2, vi 0])], 499⟩
set_option maxRecDepth 100000 in
theorem r4 : (e4.fitB && e4.runB (prTab false prB cutF []) Tryz.prog 100000) = true := by decide +kernel
theorem k4 : e4.Fit ∧ EntOk Tryz.prog e4 := Ent.both mixedHere (prTab_ok yes_not prB_ok (okNil)) r4

set_option maxRecDepth 100000 in
def e5 : Ent := ⟨7, 500, [vp 258 0, va [vi 1, vi 0]], turned [] (turned (e4.d.map fun p => (p.1, some p.2)) e4.bl), vt, [(250, mc 434 [pn, pn]), (252, mc 181 [vp 571 0]), (255, mc 114 [vp 239 0, vp 251 0, vp 249 0, vp 254 0, vs 252 0 1 1, (.map (some 253)), vi 2]), (258, mc 84 [vp 255 0, vs 271 0 1 openCap, vi 5, vp 257 0, vs 269 0 1 openCap, sn, sn, sn, sn, vi 0, vi 1]), (263, mc 168 [vp 255 0, vi 0, vi 1, sn, vs 510 0 1 openCap, vp 262 0, vp 293 0]), (293, mc 380 [vs 357 0 2 openCap, sn, vi 1, vi 0, vi 0, vi 1, vi 6, vi 0, vi 0, vi 1, vi 1, vi 0, vn 0, vi 2, vi 0, vi 0, vi 0, .func (.func 259) ⟨[vp 263 0]⟩ ⟨[]⟩, .func (.func 260) ⟨[vp 263 0]⟩ ⟨[]⟩, vt, vi 0]), (357, mo 396 [vi 0, vn 0, vi 2, vi 0, vi 1, vi 6, vi 0, vi 0, vi 0]), (404, mc 180 [vi 1, vi 1, vn 0, vn 0, vi 2, vi 0, vi 0, vp 255 0, vi 0, vi 0, vi 1, .func (.func 362) ⟨[vp 404 0]⟩ ⟨[]⟩, vi 3, vf, vi 0, vi 0, vi 1, vt, sn]), (510, mo 197 [vi 1, vn 0, vn 0, vi 2]), (571, mc 180 [vi 1, vi 1, vi 0, vn 0, vi 2, vi 0, vi 0, vp 255 0, vi 0, vi 1, vi 1, .func (.func 341) ⟨[vp 571 0]⟩ ⟨[]⟩, vi 1, vf, vi 0, vi 0, vi 0, vf, sn])], 575⟩
set_option maxRecDepth 100000 in
theorem r5 : (e5.fitB && e5.runB (prTab false prB cutF []) Tryz.prog 100000) = true := by decide +kernel
theorem k5 : e5.Fit ∧ EntOk Tryz.prog e5 := Ent.both mixedHere (prTab_ok yes_not prB_ok (okNil)) r5

set_option maxRecDepth 100000 in
def e6 : Ent := ⟨7, 576, [vp 258 0, va [vi 1, vi 0]], turned [(404, none), (412, none)] (turned (e5.d.map fun p => (p.1, some p.2)) e5.bl), vt, [(250, mc 434 [pn, vp 582 0]), (258, mc 84 [vp 255 0, vs 271 0 1 openCap, vi 6, vp 257 0, vs 269 0 1 openCap, sn, sn, sn, sn, vi 0, vi 1]), (571, mc 180 [vi 1, vi 1, vi 0, vn 0, vi 2, vi 0, vi 0, vp 255 0, vi 0, vi 1, vi 1, .func (.func 353) ⟨[vp 571 0]⟩ ⟨[]⟩, vi 2, vf, vi 0, vi 0, vi 0, vf, sn]), (582, mc 436 [vi 0])], 586⟩
set_option maxRecDepth 100000 in
theorem r6 : (e6.fitB && e6.runB (prTab false prB cutF []) Tryz.prog 100000) = true := by decide +kernel
theorem k6 : e6.Fit ∧ EntOk Tryz.prog e6 := Ent.both mixedHere (prTab_ok yes_not prB_ok (okNil)) r6

set_option maxRecDepth 100000 in
def e7 : Ent := ⟨7, 587, [vp 258 0, va [vi 1, vi 0]], turned [] (turned (e6.d.map fun p => (p.1, some p.2)) e6.bl), vt, [(188, mc 4 [vt, vt, vf, vf, vf, vf, vf, vf, vf, vf, vf, vf, vf, vf, vf, vf, vf, vf, vf, vf, vf, vf, vf, vf]), (189, mc 207 [vs 237 0 22 openCap, vs 188 0 24 24]), (237, mo 3 [vi 2, vi 3, vi 5, vi 7, vi 4, vi 11, vi 6, vi 15, vi 8, vi 9, vi 10, vi 22, vi 12, vi 13, vi 14, vi 23, vi 16, vi 17, vi 18, vi 19, vi 20, vi 21, vi 1, vi 0]), (238, .map [⟨vi 0, vi 1, 0⟩, ⟨vi 1, vi 1, 1⟩] 2), (244, .map [⟨va [vn 0, vn 0], vp 481 0, 0⟩, ⟨va [vi 0, vn 0], vp 664 0, 1⟩] 2), (258, mc 84 [vp 255 0, vs 271 0 1 openCap, vi 7, vp 257 0, vs 269 0 1 openCap, sn, sn, sn, sn, vi 0, vi 1]), (571, mc 180 [vi 1, vi 1, vi 0, vn 0, vi 2, vi 0, vi 0, vp 255 0, vi 0, vi 1, vi 1, .func (.func 362) ⟨[vp 571 0]⟩ ⟨[]⟩, vi 3, vf, vi 0, vi 0, vi 1, vf, sn]), (664, mc 186 [vi 0, vn 0, vs 670 0 1 openCap, vi 0]), (670, mo 188 [vi 1, vi 1, vi 2, vi 2, vi 0])], 682⟩
set_option maxRecDepth 100000 in
theorem r7 : (e7.fitB && e7.runB (prTab false prB cutF []) Tryz.prog 100000) = true := by decide +kernel
theorem k7 : e7.Fit ∧ EntOk Tryz.prog e7 := Ent.both mixedHere (prTab_ok yes_not prB_ok (okNil)) r7

set_option maxRecDepth 100000 in
def e8 : Ent := ⟨7, 683, [vp 258 0, va [vi 1, vi 0]], turned [] (turned (e7.d.map fun p => (p.1, some p.2)) e7.bl), vt, [(250, mc 434 [pn, pn]), (252, mc 181 [vp 766 0]), (255, mc 114 [vp 239 0, vp 251 0, vp 249 0, vp 254 0, vs 252 0 1 1, (.map (some 253)), vi 3]), (258, mc 84 [vp 255 0, vs 271 0 1 openCap, vi 8, vp 257 0, vs 269 0 1 openCap, sn, sn, sn, sn, vi 0, vi 1]), (263, mc 168 [vp 255 0, vi 0, vi 1, sn, vs 700 0 2 openCap, vp 262 0, vp 293 0]), (293, mc 380 [vs 357 0 1 openCap, sn, vi 1, vi 0, vi 0, vi 1, vi 6, vi 0, vi 0, vi 1, vi 1, vi 0, vi 1, vi 6, vi 0, vi 0, vi 0, .func (.func 259) ⟨[vp 263 0]⟩ ⟨[]⟩, .func (.func 260) ⟨[vp 263 0]⟩ ⟨[]⟩, vt, vi 0]), (357, mo 396 [vi 0, vi 1, vi 6, vi 0, vi 0, vi 0, vi 0, vi 0, vi 0]), (571, mc 180 [vi 1, vi 1, vi 0, vn 0, vi 2, vi 0, vi 0, vp 255 0, vi 0, vi 1, vi 1, .func (.func 362) ⟨[vp 571 0]⟩ ⟨[]⟩, vi 3, vf, vi 0, vi 0, vi 1, vt, sn]), (700, mo 197 [vi 1, vn 0, vn 0, vi 2, vi 1, vi 0, vn 0, vi 2]), (766, mc 180 [vi 1, vi 1, vi 0, vi 1, vi 6, vi 0, vi 0, vp 255 0, vi 0, vi 2, vi 0, .func (.func 341) ⟨[vp 766 0]⟩ ⟨[]⟩, vi 1, vf, vi 0, vi 0, vi 0, vf, sn])], 770⟩
set_option maxRecDepth 100000 in
theorem r8 : (e8.fitB && e8.runB (prTab false prB cutF []) Tryz.prog 100000) = true := by decide +kernel
theorem k8 : e8.Fit ∧ EntOk Tryz.prog e8 := Ent.both mixedHere (prTab_ok yes_not prB_ok (okNil)) r8

end Go.Proofs
