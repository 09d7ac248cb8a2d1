/-
  PROVED HERE: calls of the run, one by one: what each answers, and which blocks it leaves otherwise.
-/
import Derived.Test.YtoofpgianedgnaaGreatDoorDEn0
set_option linter.unusedVariables false
set_option linter.unusedSimpArgs false
namespace Go.Proofs
open Go.Vai

set_option maxRecDepth 100000 in
def e0 : Ent := ⟨446, 146, [vp 132 0, va [vi 1, vi 0]], [(64, mc 4 [vf, vf, vf, vf, vf, vf, vf, vf, vf, vf, vf, vf, vf, vf, vf, vf, vf, vf, vf, vf, vf, vf, vf, vf]), (65, mc 260 [vs 113 0 24 openCap, vs 64 0 24 24]), (113, mo 3 [vi 0, vi 1, vi 2, vi 3, vi 4, vi 5, vi 6, vi 7, vi 8, vi 9, vi 10, vi 11, vi 12, vi 13, vi 14, vi 15, vi 16, vi 17, vi 18, vi 19, vi 20, vi 21, vi 22, vi 23]), (114, .map [] 0), (115, mc 170 [vi 2, vi 8, vi 24, vi 2, vp 65 0, vs 123 0 2 openCap, (.map (some 114))]), (116, .map [] 0), (117, mc 265 [vi 8, vp 65 0, (.map (some 116))]), (120, .map [] 0), (121, mc 265 [vi 8, vp 65 0, (.map (some 120))]), (123, mo 171 [vp 117 0, vp 121 0]), (124, mc 3 [vi 0]), (125, mc 175 [vs 124 0 1 1]), (126, mc 320 [pn, pn]), (127, mc 178 [vs 126 0 2 2]), (128, mc 274 [pn]), (129, .map [] 0), (130, mc 182 [vi 0, sn]), (131, mc 114 [vp 115 0, vp 127 0, vp 125 0, vp 130 0, vs 128 0 1 1, (.map (some 129)), vi 0]), (132, mc 198 [vp 131 0, vs 141 0 1 openCap, sn, sn, sn, vi 0, vi 0, vs 142 0 5 5]), (135, mc 268 [sn]), (136, mc 270 [vp 135 0, vn 0, vi 2]), (137, mc 144 [vp 131 0, vi 0, vi 0, sn, sn, vp 136 0, pn]), (138, mo 36 [vi 1, vn 0, vn 0, vi 0, vi 0, vi 0, vi 9, vi 0, vn 0, vi 3, vi 0, vi 0]), (139, mc 201 [vp 137 0, vp 132 0, vi 0, vs 138 0 2 openCap, vi 0, vi 0, vf]), (141, mo 199 [vp 139 0]), (142, mc 190 [.nilFunc, .func (.func 96) ⟨[vp 132 0]⟩ ⟨[]⟩, .func (.func 97) ⟨[vp 132 0]⟩ ⟨[]⟩, .func (.func 98) ⟨[vp 132 0]⟩ ⟨[]⟩, .func (.func 99) ⟨[vp 132 0]⟩ ⟨[]⟩])], vt, [(132, mc 198 [vp 131 0, vs 141 0 1 openCap, sn, sn, sn, vi 1, vi 1, vs 142 0 5 5]), (137, mc 144 [vp 131 0, vi 0, vi 1, sn, sn, vp 136 0, pn]), (139, mc 201 [vp 137 0, vp 132 0, vi 0, vs 138 0 2 openCap, vi 1, vi 0, vf])], 152⟩
set_option maxRecDepth 100000 in
theorem r0 : (e0.fitB && e0.runB (prTab false prB cutF []) Tryz.prog 100000) = true := by decide +kernel
theorem k0 : e0.Fit ∧ EntOk Tryz.prog e0 := Ent.both mixedHere (prTab_ok yes_not prB_ok (okNil)) r0

set_option maxRecDepth 100000 in
def e1 : Ent := ⟨446, 152, [vp 132 0, va [vi 2, vi 1]], turned [] (turned (e0.d.map fun p => (p.1, some p.2)) e0.bl), vt, [(130, mc 182 [vi 1, sn]), (132, mc 198 [vp 131 0, vs 141 0 1 openCap, sn, sn, sn, vi 2, vi 1, vs 142 0 5 5])], 156⟩
set_option maxRecDepth 100000 in
theorem r1 : (e1.fitB && e1.runB (prTab false prB cutF []) Tryz.prog 100000) = true := by decide +kernel
theorem k1 : e1.Fit ∧ EntOk Tryz.prog e1 := Ent.both mixedHere (prTab_ok yes_not prB_ok (okNil)) r1

set_option maxRecDepth 100000 in
def e2 : Ent := ⟨446, 156, [vp 132 0, va [vi 4, vi 0]], turned [] (turned (e1.d.map fun p => (p.1, some p.2)) e1.bl), vf, [(132, mc 198 [vp 131 0, vs 141 0 1 openCap, sn, sn, sn, vi 3, vi 1, vs 142 0 5 5])], 166⟩
set_option maxRecDepth 100000 in
theorem r2 : (e2.fitB && e2.runB (prTab false prB cutF []) Tryz.prog 100000) = true := by decide +kernel
theorem k2 : e2.Fit ∧ EntOk Tryz.prog e2 := Ent.both mixedHere (prTab_ok yes_not prB_ok (okNil)) r2

set_option maxRecDepth 100000 in
def e3 : Ent := ⟨446, 168, [vp 132 0, va [vi 1, vi 0]], turned [] (turned (e2.d.map fun p => (p.1, some p.2)) e2.bl), vt, [(128, mc 274 [vp 280 0]), (131, mc 114 [vp 115 0, vp 127 0, vp 125 0, vp 130 0, vs 128 0 1 1, (.map (some 129)), vi 1]), (132, mc 198 [vp 131 0, vs 141 0 1 openCap, vs 176 0 1 openCap, vs 179 0 1 openCap, vs 180 0 1 openCap, vi 4, vi 1, vs 142 0 5 5]), (137, mc 144 [vp 131 0, vi 0, vi 1, sn, sn, vp 136 0, vp 186 0]), (139, mc 201 [vp 137 0, vp 132 0, vi 0, vs 138 0 2 openCap, vi 2, vi 0, vf]), (176, mo 326 [vi 0, vi 0, vt, vi 1, vi 1, vi 0, vn 0, vi 3, vi 0]), (179, mo 3 [vn 0]), (180, mo 3 [vi 0]), (186, mc 159 [vs 236 0 2 openCap, sn, vi 1, vi 1, vi 0, vn 0, vi 3, vi 0, vi 0, vi 1, vi 1, vn 0, vn 0, vi 1, vi 0, vi 0, vi 0, .func (.func 73) ⟨[vp 137 0]⟩ ⟨[]⟩, .func (.func 74) ⟨[vp 137 0]⟩ ⟨[]⟩, vf, vi 0]), (236, mo 234 [vn 0, vn 0, vi 1, vi 0, vn 0, vi 3]), (280, mc 279 [vi 1, vi 1, vn 0, vn 0, vi 1, vi 0, vi 0, vp 131 0, vi 0, vi 0, vi 1, .func (.func 216) ⟨[vp 280 0]⟩ ⟨[]⟩, vi 1, vf, vi 0, vi 0, vi 0, vf, sn])], 281⟩
set_option maxRecDepth 100000 in
theorem r3 : (e3.fitB && e3.runB (prTab false prB cutF []) Tryz.prog 100000) = true := by decide +kernel
theorem k3 : e3.Fit ∧ EntOk Tryz.prog e3 := Ent.both mixedHere (prTab_ok yes_not prB_ok (okNil)) r3

set_option maxRecDepth 100000 in
def e4 : Ent := ⟨446, 281, [vp 132 0, va [vi 2, vi 1]], turned [] (turned (e3.d.map fun p => (p.1, some p.2)) e3.bl), vt, [(130, mc 182 [vi 2, sn]), (132, mc 198 [vp 131 0, vs 141 0 1 openCap, vs 176 0 1 openCap, vs 179 0 1 openCap, vs 180 0 1 openCap, vi 5, vi 1, vs 142 0 5 5])], 285⟩
set_option maxRecDepth 100000 in
theorem r4 : (e4.fitB && e4.runB (prTab false prB cutF []) Tryz.prog 100000) = true := by decide +kernel
theorem k4 : e4.Fit ∧ EntOk Tryz.prog e4 := Ent.both mixedHere (prTab_ok yes_not prB_ok (okNil)) r4

set_option maxRecDepth 100000 in
def e5 : Ent := ⟨446, 285, [vp 132 0, va [vi 4, vi 0]], turned [] (turned (e4.d.map fun p => (p.1, some p.2)) e4.bl), vf, [(132, mc 198 [vp 131 0, vs 141 0 1 openCap, vs 176 0 1 openCap, vs 179 0 1 openCap, vs 180 0 1 openCap, vi 6, vi 1, vs 142 0 5 5])], 295⟩
set_option maxRecDepth 100000 in
theorem r5 : (e5.fitB && e5.runB (prTab false prB cutF []) Tryz.prog 100000) = true := by decide +kernel
theorem k5 : e5.Fit ∧ EntOk Tryz.prog e5 := Ent.both mixedHere (prTab_ok yes_not prB_ok (okNil)) r5

set_option maxRecDepth 100000 in
def e6 : Ent := ⟨446, 297, [vp 132 0, va [vi 1, vi 0]], turned [] (turned (e5.d.map fun p => (p.1, some p.2)) e5.bl), vt, [(126, mc 320 [pn, vp 300 0]), (132, mc 198 [vp 131 0, vs 141 0 1 openCap, vs 176 0 1 openCap, vs 179 0 1 openCap, vs 180 0 1 openCap, vi 7, vi 1, vs 142 0 5 5]), (280, mc 279 [vi 1, vi 1, vn 0, vn 0, vi 1, vi 0, vi 0, vp 131 0, vi 0, vi 0, vi 1, .func (.func 253) ⟨[vp 280 0]⟩ ⟨[]⟩, vi 2, vf, vi 0, vi 0, vi 0, vf, sn]), (300, mc 322 [vi 0])], 301⟩
set_option maxRecDepth 100000 in
theorem r6 : (e6.fitB && e6.runB (prTab false prB cutF []) Tryz.prog 100000) = true := by decide +kernel
theorem k6 : e6.Fit ∧ EntOk Tryz.prog e6 := Ent.both mixedHere (prTab_ok yes_not prB_ok (okNil)) r6

set_option maxRecDepth 100000 in
def e7 : Ent := ⟨446, 301, [vp 132 0, va [vi 2, vi 1]], turned [] (turned (e6.d.map fun p => (p.1, some p.2)) e6.bl), vt, [(130, mc 182 [vi 3, sn]), (132, mc 198 [vp 131 0, vs 141 0 1 openCap, vs 176 0 1 openCap, vs 179 0 1 openCap, vs 180 0 1 openCap, vi 8, vi 1, vs 142 0 5 5])], 305⟩
set_option maxRecDepth 100000 in
theorem r7 : (e7.fitB && e7.runB (prTab false prB cutF []) Tryz.prog 100000) = true := by decide +kernel
theorem k7 : e7.Fit ∧ EntOk Tryz.prog e7 := Ent.both mixedHere (prTab_ok yes_not prB_ok (okNil)) r7

end Go.Proofs
