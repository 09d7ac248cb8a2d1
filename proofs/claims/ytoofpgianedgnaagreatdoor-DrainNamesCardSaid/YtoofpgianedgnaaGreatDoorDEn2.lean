/-
  PROVED HERE: calls of the run, one by one: what each answers, and which blocks it leaves otherwise.
-/
import Derived.Test.YtoofpgianedgnaaGreatDoorDEn0
set_option linter.unusedVariables false
set_option linter.unusedSimpArgs false
namespace Go.Proofs
open Go.Vai

set_option maxRecDepth 100000 in
def e8 : Ent := ⟨446, 305, [vp 132 0, va [vi 4, vi 0]], [(64, mc 4 [vf, vf, vf, vf, vf, vf, vf, vf, vf, vf, vf, vf, vf, vf, vf, vf, vf, vf, vf, vf, vf, vf, vf, vf]), (65, mc 260 [vs 113 0 24 openCap, vs 64 0 24 24]), (113, mo 3 [vi 0, vi 1, vi 2, vi 3, vi 4, vi 5, vi 6, vi 7, vi 8, vi 9, vi 10, vi 11, vi 12, vi 13, vi 14, vi 15, vi 16, vi 17, vi 18, vi 19, vi 20, vi 21, vi 22, vi 23]), (114, .map [] 0), (115, mc 170 [vi 2, vi 8, vi 24, vi 2, vp 65 0, vs 123 0 2 openCap, (.map (some 114))]), (116, .map [] 0), (117, mc 265 [vi 8, vp 65 0, (.map (some 116))]), (120, .map [] 0), (121, mc 265 [vi 8, vp 65 0, (.map (some 120))]), (123, mo 171 [vp 117 0, vp 121 0]), (124, mc 3 [vi 0]), (125, mc 175 [vs 124 0 1 1]), (126, mc 320 [pn, vp 300 0]), (127, mc 178 [vs 126 0 2 2]), (128, mc 274 [vp 280 0]), (129, .map [] 0), (130, mc 182 [vi 3, sn]), (131, mc 114 [vp 115 0, vp 127 0, vp 125 0, vp 130 0, vs 128 0 1 1, (.map (some 129)), vi 1]), (132, mc 198 [vp 131 0, vs 141 0 1 openCap, vs 176 0 1 openCap, vs 179 0 1 openCap, vs 180 0 1 openCap, vi 8, vi 1, vs 142 0 5 5]), (135, mc 268 [sn]), (136, mc 270 [vp 135 0, vn 0, vi 2]), (137, mc 144 [vp 131 0, vi 0, vi 1, sn, sn, vp 136 0, vp 186 0]), (138, mo 36 [vi 1, vn 0, vn 0, vi 0, vi 0, vi 0, vi 9, vi 0, vn 0, vi 3, vi 0, vi 0]), (139, mc 201 [vp 137 0, vp 132 0, vi 0, vs 138 0 2 openCap, vi 2, vi 0, vf]), (141, mo 199 [vp 139 0]), (142, mc 190 [.nilFunc, .func (.func 96) ⟨[vp 132 0]⟩ ⟨[]⟩, .func (.func 97) ⟨[vp 132 0]⟩ ⟨[]⟩, .func (.func 98) ⟨[vp 132 0]⟩ ⟨[]⟩, .func (.func 99) ⟨[vp 132 0]⟩ ⟨[]⟩]), (176, mo 326 [vi 0, vi 0, vt, vi 1, vi 1, vi 0, vn 0, vi 3, vi 0]), (179, mo 3 [vn 0]), (180, mo 3 [vi 0]), (186, mc 159 [vs 236 0 2 openCap, sn, vi 1, vi 1, vi 0, vn 0, vi 3, vi 0, vi 0, vi 1, vi 1, vn 0, vn 0, vi 1, vi 0, vi 0, vi 0, .func (.func 73) ⟨[vp 137 0]⟩ ⟨[]⟩, .func (.func 74) ⟨[vp 137 0]⟩ ⟨[]⟩, vf, vi 0]), (236, mo 234 [vn 0, vn 0, vi 1, vi 0, vn 0, vi 3]), (280, mc 279 [vi 1, vi 1, vn 0, vn 0, vi 1, vi 0, vi 0, vp 131 0, vi 0, vi 0, vi 1, .func (.func 253) ⟨[vp 280 0]⟩ ⟨[]⟩, vi 2, vf, vi 0, vi 0, vi 0, vf, sn]), (300, mc 322 [vi 0])], vf, [(132, mc 198 [vp 131 0, vs 141 0 1 openCap, vs 176 0 1 openCap, vs 179 0 1 openCap, vs 180 0 1 openCap, vi 9, vi 1, vs 142 0 5 5])], 315⟩
set_option maxRecDepth 100000 in
theorem r8 : (e8.fitB && e8.runB (prTab false prB cutF []) Tryz.prog 100000) = true := by decide +kernel
theorem k8 : e8.Fit ∧ EntOk Tryz.prog e8 := Ent.both mixedHere (prTab_ok yes_not prB_ok (okNil)) r8

set_option maxRecDepth 100000 in
def e9 : Ent := ⟨446, 317, [vp 132 0, va [vi 1, vi 0]], turned [] (turned (e8.d.map fun p => (p.1, some p.2)) e8.bl), vt, [(64, mc 4 [vt, vf, vf, vf, vf, vf, vf, vf, vf, vf, vf, vf, vf, vf, vf, vf, vf, vf, vf, vf, vf, vf, vf, vf]), (65, mc 260 [vs 113 0 23 openCap, vs 64 0 24 24]), (113, mo 3 [vi 1, vi 3, vi 2, vi 7, vi 4, vi 5, vi 6, vi 15, vi 8, vi 9, vi 10, vi 11, vi 12, vi 13, vi 14, vi 23, vi 16, vi 17, vi 18, vi 19, vi 20, vi 21, vi 22, vi 0]), (114, .map [⟨vi 0, vi 1, 0⟩] 1), (120, .map [⟨va [vn 0, vn 0], vp 378 0, 0⟩] 1), (132, mc 198 [vp 131 0, vs 141 0 1 openCap, vs 176 0 1 openCap, vs 179 0 1 openCap, vs 180 0 1 openCap, vi 10, vi 1, vs 142 0 5 5]), (280, mc 279 [vi 1, vi 1, vn 0, vn 0, vi 1, vi 0, vi 0, vp 131 0, vi 0, vi 0, vi 1, .func (.func 276) ⟨[vp 280 0]⟩ ⟨[]⟩, vi 3, vf, vi 0, vi 0, vi 1, vf, sn]), (378, mc 68 [vn 0, vn 0, vs 384 0 1 openCap, vi 0]), (384, mo 70 [vi 0, vi 1, vi 1, vi 1, vi 0])], 393⟩
set_option maxRecDepth 100000 in
theorem r9 : (e9.fitB && e9.runB (prTab false prB cutF []) Tryz.prog 100000) = true := by decide +kernel
theorem k9 : e9.Fit ∧ EntOk Tryz.prog e9 := Ent.both mixedHere (prTab_ok yes_not prB_ok (okNil)) r9

set_option maxRecDepth 100000 in
def e10 : Ent := ⟨446, 393, [vp 132 0, va [vi 2, vi 1]], turned [] (turned (e9.d.map fun p => (p.1, some p.2)) e9.bl), vt, [(130, mc 182 [vi 4, sn]), (132, mc 198 [vp 131 0, vs 141 0 1 openCap, vs 176 0 1 openCap, vs 179 0 1 openCap, vs 180 0 1 openCap, vi 11, vi 1, vs 142 0 5 5])], 397⟩
set_option maxRecDepth 100000 in
theorem r10 : (e10.fitB && e10.runB (prTab false prB cutF []) Tryz.prog 100000) = true := by decide +kernel
theorem k10 : e10.Fit ∧ EntOk Tryz.prog e10 := Ent.both mixedHere (prTab_ok yes_not prB_ok (okNil)) r10

set_option maxRecDepth 100000 in
def e11 : Ent := ⟨446, 397, [vp 132 0, va [vi 4, vi 0]], turned [] (turned (e10.d.map fun p => (p.1, some p.2)) e10.bl), vf, [(132, mc 198 [vp 131 0, vs 141 0 1 openCap, vs 176 0 1 openCap, vs 179 0 1 openCap, vs 180 0 1 openCap, vi 12, vi 1, vs 142 0 5 5])], 433⟩
set_option maxRecDepth 100000 in
theorem r11 : (e11.fitB && e11.runB (prTab false prB cutF []) Tryz.prog 100000) = true := by decide +kernel
theorem k11 : e11.Fit ∧ EntOk Tryz.prog e11 := Ent.both mixedHere (prTab_ok yes_not prB_ok (okNil)) r11

set_option maxRecDepth 100000 in
def e12 : Ent := ⟨446, 435, [vp 132 0, va [vi 1, vi 0]], turned [] (turned (e11.d.map fun p => (p.1, some p.2)) e11.bl), vt, [(126, mc 320 [pn, pn]), (128, mc 274 [vp 498 0]), (131, mc 114 [vp 115 0, vp 127 0, vp 125 0, vp 130 0, vs 128 0 1 1, (.map (some 129)), vi 2]), (132, mc 198 [vp 131 0, vs 141 0 1 openCap, vs 176 0 1 openCap, vs 179 0 1 openCap, vs 180 0 1 openCap, vi 13, vi 1, vs 142 0 5 5]), (137, mc 144 [vp 131 0, vi 0, vi 1, sn, vs 442 0 1 openCap, vp 136 0, vp 186 0]), (186, mc 159 [vs 236 0 1 openCap, sn, vi 1, vi 1, vi 0, vn 0, vi 3, vi 0, vi 0, vi 1, vi 1, vi 0, vn 0, vi 3, vi 0, vi 0, vi 0, .func (.func 73) ⟨[vp 137 0]⟩ ⟨[]⟩, .func (.func 74) ⟨[vp 137 0]⟩ ⟨[]⟩, vt, vi 0]), (236, mo 234 [vi 0, vn 0, vi 3, vi 0, vi 0, vi 0]), (280, mc 279 [vi 1, vi 1, vn 0, vn 0, vi 1, vi 0, vi 0, vp 131 0, vi 0, vi 0, vi 1, .func (.func 276) ⟨[vp 280 0]⟩ ⟨[]⟩, vi 3, vf, vi 0, vi 0, vi 1, vt, sn]), (442, mo 83 [vi 1, vn 0, vn 0, vi 1]), (498, mc 279 [vi 1, vi 1, vi 0, vn 0, vi 3, vi 0, vi 0, vp 131 0, vi 0, vi 1, vi 1, .func (.func 216) ⟨[vp 498 0]⟩ ⟨[]⟩, vi 1, vf, vi 0, vi 0, vi 0, vf, sn])], 499⟩
set_option maxRecDepth 100000 in
theorem r12 : (e12.fitB && e12.runB (prTab false prB cutF []) Tryz.prog 100000) = true := by decide +kernel
theorem k12 : e12.Fit ∧ EntOk Tryz.prog e12 := Ent.both mixedHere (prTab_ok yes_not prB_ok (okNil)) r12

set_option maxRecDepth 100000 in
def e13 : Ent := ⟨446, 499, [vp 132 0, va [vi 2, vi 1]], turned [(280, none), (300, none)] (turned (e12.d.map fun p => (p.1, some p.2)) e12.bl), vt, [(130, mc 182 [vi 5, sn]), (132, mc 198 [vp 131 0, vs 141 0 1 openCap, vs 176 0 1 openCap, vs 179 0 1 openCap, vs 180 0 1 openCap, vi 14, vi 1, vs 142 0 5 5])], 503⟩
set_option maxRecDepth 100000 in
theorem r13 : (e13.fitB && e13.runB (prTab false prB cutF []) Tryz.prog 100000) = true := by decide +kernel
theorem k13 : e13.Fit ∧ EntOk Tryz.prog e13 := Ent.both mixedHere (prTab_ok yes_not prB_ok (okNil)) r13

set_option maxRecDepth 100000 in
def e14 : Ent := ⟨446, 503, [vp 132 0, va [vi 4, vi 0]], turned [] (turned (e13.d.map fun p => (p.1, some p.2)) e13.bl), vf, [(132, mc 198 [vp 131 0, vs 141 0 1 openCap, vs 176 0 1 openCap, vs 179 0 1 openCap, vs 180 0 1 openCap, vi 15, vi 1, vs 142 0 5 5])], 539⟩
set_option maxRecDepth 100000 in
theorem r14 : (e14.fitB && e14.runB (prTab false prB cutF []) Tryz.prog 100000) = true := by decide +kernel
theorem k14 : e14.Fit ∧ EntOk Tryz.prog e14 := Ent.both mixedHere (prTab_ok yes_not prB_ok (okNil)) r14

set_option maxRecDepth 100000 in
def e15 : Ent := ⟨446, 541, [vp 132 0, va [vi 1, vi 0]], turned [] (turned (e14.d.map fun p => (p.1, some p.2)) e14.bl), vt, [(126, mc 320 [pn, vp 544 0]), (132, mc 198 [vp 131 0, vs 141 0 1 openCap, vs 176 0 1 openCap, vs 179 0 1 openCap, vs 180 0 1 openCap, vi 16, vi 1, vs 142 0 5 5]), (498, mc 279 [vi 1, vi 1, vi 0, vn 0, vi 3, vi 0, vi 0, vp 131 0, vi 0, vi 1, vi 1, .func (.func 253) ⟨[vp 498 0]⟩ ⟨[]⟩, vi 2, vf, vi 0, vi 0, vi 0, vf, sn]), (544, mc 322 [vi 0])], 545⟩
set_option maxRecDepth 100000 in
theorem r15 : (e15.fitB && e15.runB (prTab false prB cutF []) Tryz.prog 100000) = true := by decide +kernel
theorem k15 : e15.Fit ∧ EntOk Tryz.prog e15 := Ent.both mixedHere (prTab_ok yes_not prB_ok (okNil)) r15

end Go.Proofs
