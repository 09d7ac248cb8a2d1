/-
  PROVED HERE: calls of the run, one by one: what each answers, and which blocks it leaves otherwise.
-/
import Derived.Test.YtoofpgianedgnaaGreatDoorDEn0
set_option linter.unusedVariables false
set_option linter.unusedSimpArgs false
namespace Go.Proofs
open Go.Vai

set_option maxRecDepth 100000 in
def e16 : Ent := ⟨446, 545, [vp 132 0, va [vi 2, vi 1]], [(64, mc 4 [vt, vf, vf, vf, vf, vf, vf, vf, vf, vf, vf, vf, vf, vf, vf, vf, vf, vf, vf, vf, vf, vf, vf, vf]), (65, mc 260 [vs 113 0 23 openCap, vs 64 0 24 24]), (113, mo 3 [vi 1, vi 3, vi 2, vi 7, vi 4, vi 5, vi 6, vi 15, vi 8, vi 9, vi 10, vi 11, vi 12, vi 13, vi 14, vi 23, vi 16, vi 17, vi 18, vi 19, vi 20, vi 21, vi 22, vi 0]), (114, .map [⟨vi 0, vi 1, 0⟩] 1), (115, mc 170 [vi 2, vi 8, vi 24, vi 2, vp 65 0, vs 123 0 2 openCap, (.map (some 114))]), (116, .map [] 0), (117, mc 265 [vi 8, vp 65 0, (.map (some 116))]), (120, .map [⟨va [vn 0, vn 0], vp 378 0, 0⟩] 1), (121, mc 265 [vi 8, vp 65 0, (.map (some 120))]), (123, mo 171 [vp 117 0, vp 121 0]), (124, mc 3 [vi 0]), (125, mc 175 [vs 124 0 1 1]), (126, mc 320 [pn, vp 544 0]), (127, mc 178 [vs 126 0 2 2]), (128, mc 274 [vp 498 0]), (129, .map [] 0), (130, mc 182 [vi 5, sn]), (131, mc 114 [vp 115 0, vp 127 0, vp 125 0, vp 130 0, vs 128 0 1 1, (.map (some 129)), vi 2]), (132, mc 198 [vp 131 0, vs 141 0 1 openCap, vs 176 0 1 openCap, vs 179 0 1 openCap, vs 180 0 1 openCap, vi 16, vi 1, vs 142 0 5 5]), (135, mc 268 [sn]), (136, mc 270 [vp 135 0, vn 0, vi 2]), (137, mc 144 [vp 131 0, vi 0, vi 1, sn, vs 442 0 1 openCap, vp 136 0, vp 186 0]), (138, mo 36 [vi 1, vn 0, vn 0, vi 0, vi 0, vi 0, vi 9, vi 0, vn 0, vi 3, vi 0, vi 0]), (139, mc 201 [vp 137 0, vp 132 0, vi 0, vs 138 0 2 openCap, vi 2, vi 0, vf]), (141, mo 199 [vp 139 0]), (142, mc 190 [.nilFunc, .func (.func 96) ⟨[vp 132 0]⟩ ⟨[]⟩, .func (.func 97) ⟨[vp 132 0]⟩ ⟨[]⟩, .func (.func 98) ⟨[vp 132 0]⟩ ⟨[]⟩, .func (.func 99) ⟨[vp 132 0]⟩ ⟨[]⟩]), (176, mo 326 [vi 0, vi 0, vt, vi 1, vi 1, vi 0, vn 0, vi 3, vi 0]), (179, mo 3 [vn 0]), (180, mo 3 [vi 0]), (186, mc 159 [vs 236 0 1 openCap, sn, vi 1, vi 1, vi 0, vn 0, vi 3, vi 0, vi 0, vi 1, vi 1, vi 0, vn 0, vi 3, vi 0, vi 0, vi 0, .func (.func 73) ⟨[vp 137 0]⟩ ⟨[]⟩, .func (.func 74) ⟨[vp 137 0]⟩ ⟨[]⟩, vt, vi 0]), (236, mo 234 [vi 0, vn 0, vi 3, vi 0, vi 0, vi 0]), (378, mc 68 [vn 0, vn 0, vs 384 0 1 openCap, vi 0]), (384, mo 70 [vi 0, vi 1, vi 1, vi 1, vi 0]), (442, mo 83 [vi 1, vn 0, vn 0, vi 1]), (498, mc 279 [vi 1, vi 1, vi 0, vn 0, vi 3, vi 0, vi 0, vp 131 0, vi 0, vi 1, vi 1, .func (.func 253) ⟨[vp 498 0]⟩ ⟨[]⟩, vi 2, vf, vi 0, vi 0, vi 0, vf, sn]), (544, mc 322 [vi 0])], vt, [(130, mc 182 [vi 6, sn]), (132, mc 198 [vp 131 0, vs 141 0 1 openCap, vs 176 0 1 openCap, vs 179 0 1 openCap, vs 180 0 1 openCap, vi 17, vi 1, vs 142 0 5 5])], 549⟩
set_option maxRecDepth 100000 in
theorem r16 : (e16.fitB && e16.runB (prTab false prB cutF []) Tryz.prog 100000) = true := by decide +kernel
theorem k16 : e16.Fit ∧ EntOk Tryz.prog e16 := Ent.both mixedHere (prTab_ok yes_not prB_ok (okNil)) r16

set_option maxRecDepth 100000 in
def e17 : Ent := ⟨446, 549, [vp 132 0, va [vi 4, vi 0]], turned [] (turned (e16.d.map fun p => (p.1, some p.2)) e16.bl), vf, [(132, mc 198 [vp 131 0, vs 141 0 1 openCap, vs 176 0 1 openCap, vs 179 0 1 openCap, vs 180 0 1 openCap, vi 18, vi 1, vs 142 0 5 5])], 585⟩
set_option maxRecDepth 100000 in
theorem r17 : (e17.fitB && e17.runB (prTab false prB cutF []) Tryz.prog 100000) = true := by decide +kernel
theorem k17 : e17.Fit ∧ EntOk Tryz.prog e17 := Ent.both mixedHere (prTab_ok yes_not prB_ok (okNil)) r17

set_option maxRecDepth 100000 in
def e18 : Ent := ⟨446, 587, [vp 132 0, va [vi 1, vi 0]], turned [] (turned (e17.d.map fun p => (p.1, some p.2)) e17.bl), vt, [(64, mc 4 [vt, vt, vf, vf, vf, vf, vf, vf, vf, vf, vf, vf, vf, vf, vf, vf, vf, vf, vf, vf, vf, vf, vf, vf]), (65, mc 260 [vs 113 0 22 openCap, vs 64 0 24 24]), (113, mo 3 [vi 2, vi 3, vi 5, vi 7, vi 4, vi 11, vi 6, vi 15, vi 8, vi 9, vi 10, vi 22, vi 12, vi 13, vi 14, vi 23, vi 16, vi 17, vi 18, vi 19, vi 20, vi 21, vi 1, vi 0]), (114, .map [⟨vi 0, vi 1, 0⟩, ⟨vi 1, vi 1, 1⟩] 2), (120, .map [⟨va [vn 0, vn 0], vp 378 0, 0⟩, ⟨va [vi 0, vn 0], vp 661 0, 1⟩] 2), (132, mc 198 [vp 131 0, vs 141 0 1 openCap, vs 176 0 1 openCap, vs 179 0 1 openCap, vs 180 0 1 openCap, vi 19, vi 1, vs 142 0 5 5]), (179, mo 3 [vi 18]), (180, mo 3 [vi 1]), (498, mc 279 [vi 1, vi 1, vi 0, vn 0, vi 3, vi 0, vi 0, vp 131 0, vi 0, vi 1, vi 1, .func (.func 276) ⟨[vp 498 0]⟩ ⟨[]⟩, vi 3, vf, vi 0, vi 0, vi 1, vf, sn]), (661, mc 68 [vi 0, vn 0, vs 667 0 1 openCap, vi 0]), (667, mo 70 [vi 1, vi 1, vi 3, vi 3, vi 0])], 676⟩
set_option maxRecDepth 100000 in
theorem r18 : (e18.fitB && e18.runB (prTab false prB cutF []) Tryz.prog 100000) = true := by decide +kernel
theorem k18 : e18.Fit ∧ EntOk Tryz.prog e18 := Ent.both mixedHere (prTab_ok yes_not prB_ok (okNil)) r18

set_option maxRecDepth 100000 in
def e19 : Ent := ⟨446, 676, [vp 132 0, va [vi 2, vi 1]], turned [] (turned (e18.d.map fun p => (p.1, some p.2)) e18.bl), vt, [(130, mc 182 [vi 7, sn]), (132, mc 198 [vp 131 0, vs 141 0 1 openCap, vs 176 0 1 openCap, vs 179 0 1 openCap, vs 180 0 1 openCap, vi 20, vi 1, vs 142 0 5 5])], 680⟩
set_option maxRecDepth 100000 in
theorem r19 : (e19.fitB && e19.runB (prTab false prB cutF []) Tryz.prog 100000) = true := by decide +kernel
theorem k19 : e19.Fit ∧ EntOk Tryz.prog e19 := Ent.both mixedHere (prTab_ok yes_not prB_ok (okNil)) r19

set_option maxRecDepth 100000 in
def e20 : Ent := ⟨446, 680, [vp 132 0, va [vi 4, vi 0]], turned [] (turned (e19.d.map fun p => (p.1, some p.2)) e19.bl), vf, [(132, mc 198 [vp 131 0, vs 141 0 1 openCap, vs 176 0 1 openCap, vs 179 0 1 openCap, vs 180 0 1 openCap, vi 21, vi 1, vs 142 0 5 5])], 748⟩
set_option maxRecDepth 100000 in
theorem r20 : (e20.fitB && e20.runB (prTab false prB cutF []) Tryz.prog 100000) = true := by decide +kernel
theorem k20 : e20.Fit ∧ EntOk Tryz.prog e20 := Ent.both mixedHere (prTab_ok yes_not prB_ok (okNil)) r20

set_option maxRecDepth 100000 in
def e21 : Ent := ⟨446, 750, [vp 132 0, va [vi 1, vi 0]], turned [] (turned (e20.d.map fun p => (p.1, some p.2)) e20.bl), vt, [(126, mc 320 [pn, pn]), (128, mc 274 [pn]), (132, mc 198 [vp 131 0, vs 141 0 1 openCap, vs 785 0 2 openCap, vs 179 0 1 openCap, vs 180 0 1 openCap, vi 22, vi 1, vs 142 0 5 5]), (137, mc 144 [vp 131 0, vi 0, vi 1, vs 783 0 1 openCap, vs 764 0 2 openCap, vp 136 0, pn]), (176, (.dead 9 326)), (186, mc 159 [vs 236 0 0 openCap, sn, vi 1, vi 1, vi 0, vn 0, vi 3, vi 0, vi 0, vi 1, vi 1, vi 0, vn 0, vi 3, vi 0, vi 0, vi 0, .func (.func 73) ⟨[vp 137 0]⟩ ⟨[]⟩, .func (.func 74) ⟨[vp 137 0]⟩ ⟨[]⟩, vt, vi 1]), (236, mo 234 [vi 0, vi 0, vi 0, vi 0, vi 0, vi 0]), (498, mc 279 [vi 1, vi 1, vi 0, vn 0, vi 3, vi 0, vi 0, vp 131 0, vi 0, vi 1, vi 1, .func (.func 276) ⟨[vp 498 0]⟩ ⟨[]⟩, vi 3, vf, vi 0, vi 0, vi 1, vt, sn]), (764, mo 83 [vi 1, vn 0, vn 0, vi 1, vi 1, vi 0, vn 0, vi 3]), (783, mo 83 [vi 1, vi 0, vn 0, vi 3]), (785, mo 326 [vi 0, vi 0, vt, vi 1, vi 1, vi 0, vn 0, vi 3, vi 0, vi 0, vi 0, vf, vi 0, vi 0, vi 0, vi 0, vi 0, vi 1])], 786⟩
set_option maxRecDepth 100000 in
theorem r21 : (e21.fitB && e21.runB (prTab false prB cutF []) Tryz.prog 100000) = true := by decide +kernel
theorem k21 : e21.Fit ∧ EntOk Tryz.prog e21 := Ent.both mixedHere (prTab_ok yes_not prB_ok (okNil)) r21

set_option maxRecDepth 100000 in
def e22 : Ent := ⟨446, 786, [vp 132 0, va [vi 2, vi 1]], turned [(176, none), (186, none), (236, none), (442, none), (498, none), (544, none)] (turned (e21.d.map fun p => (p.1, some p.2)) e21.bl), vt, [(130, mc 182 [vi 8, sn]), (132, mc 198 [vp 131 0, vs 141 0 1 openCap, vs 785 0 2 openCap, vs 179 0 1 openCap, vs 180 0 1 openCap, vi 23, vi 1, vs 142 0 5 5])], 790⟩
set_option maxRecDepth 100000 in
theorem r22 : (e22.fitB && e22.runB (prTab false prB cutF []) Tryz.prog 100000) = true := by decide +kernel
theorem k22 : e22.Fit ∧ EntOk Tryz.prog e22 := Ent.both mixedHere (prTab_ok yes_not prB_ok (okNil)) r22

set_option maxRecDepth 100000 in
def e23 : Ent := ⟨446, 790, [vp 132 0, va [vi 4, vi 0]], turned [] (turned (e22.d.map fun p => (p.1, some p.2)) e22.bl), vf, [(132, mc 198 [vp 131 0, vs 141 0 1 openCap, vs 785 0 2 openCap, vs 179 0 1 openCap, vs 180 0 1 openCap, vi 24, vi 1, vs 142 0 5 5])], 858⟩
set_option maxRecDepth 100000 in
theorem r23 : (e23.fitB && e23.runB (prTab false prB cutF []) Tryz.prog 100000) = true := by decide +kernel
theorem k23 : e23.Fit ∧ EntOk Tryz.prog e23 := Ent.both mixedHere (prTab_ok yes_not prB_ok (okNil)) r23

end Go.Proofs
