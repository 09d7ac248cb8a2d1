/-
  PROVED HERE: calls of the run, one by one: what each answers, and which blocks it leaves otherwise.
-/
import Derived.Test.YtoofpgianedgnaaGreatDoorDEn0
set_option linter.unusedVariables false
set_option linter.unusedSimpArgs false
namespace Go.Proofs
open Go.Vai

set_option maxRecDepth 100000 in
def e24 : Ent := ⟨446, 860, [vp 132 0, va [vi 1, vi 0]], [(64, mc 4 [vt, vt, vf, vf, vf, vf, vf, vf, vf, vf, vf, vf, vf, vf, vf, vf, vf, vf, vf, vf, vf, vf, vf, vf]), (65, mc 260 [vs 113 0 22 openCap, vs 64 0 24 24]), (113, mo 3 [vi 2, vi 3, vi 5, vi 7, vi 4, vi 11, vi 6, vi 15, vi 8, vi 9, vi 10, vi 22, vi 12, vi 13, vi 14, vi 23, vi 16, vi 17, vi 18, vi 19, vi 20, vi 21, vi 1, vi 0]), (114, .map [⟨vi 0, vi 1, 0⟩, ⟨vi 1, vi 1, 1⟩] 2), (115, mc 170 [vi 2, vi 8, vi 24, vi 2, vp 65 0, vs 123 0 2 openCap, (.map (some 114))]), (116, .map [] 0), (117, mc 265 [vi 8, vp 65 0, (.map (some 116))]), (120, .map [⟨va [vn 0, vn 0], vp 378 0, 0⟩, ⟨va [vi 0, vn 0], vp 661 0, 1⟩] 2), (121, mc 265 [vi 8, vp 65 0, (.map (some 120))]), (123, mo 171 [vp 117 0, vp 121 0]), (124, mc 3 [vi 0]), (125, mc 175 [vs 124 0 1 1]), (126, mc 320 [pn, pn]), (127, mc 178 [vs 126 0 2 2]), (128, mc 274 [pn]), (129, .map [] 0), (130, mc 182 [vi 8, sn]), (131, mc 114 [vp 115 0, vp 127 0, vp 125 0, vp 130 0, vs 128 0 1 1, (.map (some 129)), vi 2]), (132, mc 198 [vp 131 0, vs 141 0 1 openCap, vs 785 0 2 openCap, vs 179 0 1 openCap, vs 180 0 1 openCap, vi 24, vi 1, vs 142 0 5 5]), (135, mc 268 [sn]), (136, mc 270 [vp 135 0, vn 0, vi 2]), (137, mc 144 [vp 131 0, vi 0, vi 1, vs 783 0 1 openCap, vs 764 0 2 openCap, vp 136 0, pn]), (138, mo 36 [vi 1, vn 0, vn 0, vi 0, vi 0, vi 0, vi 9, vi 0, vn 0, vi 3, vi 0, vi 0]), (139, mc 201 [vp 137 0, vp 132 0, vi 0, vs 138 0 2 openCap, vi 2, vi 0, vf]), (141, mo 199 [vp 139 0]), (142, mc 190 [.nilFunc, .func (.func 96) ⟨[vp 132 0]⟩ ⟨[]⟩, .func (.func 97) ⟨[vp 132 0]⟩ ⟨[]⟩, .func (.func 98) ⟨[vp 132 0]⟩ ⟨[]⟩, .func (.func 99) ⟨[vp 132 0]⟩ ⟨[]⟩]), (179, mo 3 [vi 18]), (180, mo 3 [vi 1]), (378, mc 68 [vn 0, vn 0, vs 384 0 1 openCap, vi 0]), (384, mo 70 [vi 0, vi 1, vi 1, vi 1, vi 0]), (661, mc 68 [vi 0, vn 0, vs 667 0 1 openCap, vi 0]), (667, mo 70 [vi 1, vi 1, vi 3, vi 3, vi 0]), (764, mo 83 [vi 1, vn 0, vn 0, vi 1, vi 1, vi 0, vn 0, vi 3]), (783, mo 83 [vi 1, vi 0, vn 0, vi 3]), (785, mo 326 [vi 0, vi 0, vt, vi 1, vi 1, vi 0, vn 0, vi 3, vi 0, vi 0, vi 0, vf, vi 0, vi 0, vi 0, vi 0, vi 0, vi 1])], vt, [(128, mc 274 [vp 915 0]), (131, mc 114 [vp 115 0, vp 127 0, vp 125 0, vp 130 0, vs 128 0 1 1, (.map (some 129)), vi 3]), (132, mc 198 [vp 131 0, vs 141 0 1 openCap, vs 866 0 3 openCap, vs 869 0 2 openCap, vs 870 0 2 openCap, vi 25, vi 1, vs 142 0 5 5]), (137, mc 144 [vp 131 0, vi 0, vi 1, vs 783 0 1 openCap, vs 764 0 2 openCap, vp 136 0, vp 873 0]), (139, mc 201 [vp 137 0, vp 132 0, vi 0, vs 138 0 2 openCap, vi 2, vi 1, vf]), (179, (.dead 1 3)), (180, (.dead 1 3)), (785, (.dead 18 326)), (866, mo 326 [vi 0, vi 0, vt, vi 1, vi 1, vi 0, vn 0, vi 3, vi 0, vi 0, vi 0, vf, vi 0, vi 0, vi 0, vi 0, vi 0, vi 1, vi 1, vi 0, vt, vi 3, vi 1, vi 0, vi 0, vi 0, vi 0]), (869, mo 3 [vi 18, vn 0]), (870, mo 3 [vi 1, vi 0]), (873, mc 159 [sn, vs 875 0 2 openCap, vi 3, vi 1, vi 0, vi 0, vi 0, vi 0, vi 0, vi 3, vi 1, vi 0, vn 0, vi 0, vi 0, vn 0, vi 0, .func (.func 128) ⟨[vp 137 0]⟩ ⟨[]⟩, .func (.func 80) ⟨[]⟩ ⟨[]⟩, vf, vi 0]), (875, mo 83 [vi 1, vi 0, vn 0, vi 3, vi 1, vn 0, vn 0, vi 1]), (915, mc 279 [vi 3, vi 1, vi 0, vn 0, vi 0, vi 0, vn 0, vp 131 0, vi 0, vi 2, vi 1, .func (.func 216) ⟨[vp 915 0]⟩ ⟨[]⟩, vi 1, vf, vi 0, vi 0, vi 0, vf, sn])], 916⟩
set_option maxRecDepth 100000 in
theorem r24 : (e24.fitB && e24.runB (prTab false prB cutF []) Tryz.prog 100000) = true := by decide +kernel
theorem k24 : e24.Fit ∧ EntOk Tryz.prog e24 := Ent.both mixedHere (prTab_ok yes_not prB_ok (okNil)) r24

set_option maxRecDepth 100000 in
def e25 : Ent := ⟨446, 916, [vp 132 0, va [vi 2, vi 1]], turned [(179, none), (180, none), (785, none)] (turned (e24.d.map fun p => (p.1, some p.2)) e24.bl), vt, [(130, mc 182 [vi 9, sn]), (132, mc 198 [vp 131 0, vs 141 0 1 openCap, vs 866 0 3 openCap, vs 869 0 2 openCap, vs 870 0 2 openCap, vi 26, vi 1, vs 142 0 5 5])], 920⟩
set_option maxRecDepth 100000 in
theorem r25 : (e25.fitB && e25.runB (prTab false prB cutF []) Tryz.prog 100000) = true := by decide +kernel
theorem k25 : e25.Fit ∧ EntOk Tryz.prog e25 := Ent.both mixedHere (prTab_ok yes_not prB_ok (okNil)) r25

set_option maxRecDepth 100000 in
def e26 : Ent := ⟨446, 920, [vp 132 0, va [vi 4, vi 0]], turned [] (turned (e25.d.map fun p => (p.1, some p.2)) e25.bl), vf, [(132, mc 198 [vp 131 0, vs 141 0 1 openCap, vs 866 0 3 openCap, vs 869 0 2 openCap, vs 870 0 2 openCap, vi 27, vi 1, vs 142 0 5 5])], 988⟩
set_option maxRecDepth 100000 in
theorem r26 : (e26.fitB && e26.runB (prTab false prB cutF []) Tryz.prog 100000) = true := by decide +kernel
theorem k26 : e26.Fit ∧ EntOk Tryz.prog e26 := Ent.both mixedHere (prTab_ok yes_not prB_ok (okNil)) r26

set_option maxRecDepth 100000 in
def e27 : Ent := ⟨446, 990, [vp 132 0, va [vi 1, vi 0]], turned [] (turned (e26.d.map fun p => (p.1, some p.2)) e26.bl), vt, [(126, mc 320 [pn, vp 993 0]), (132, mc 198 [vp 131 0, vs 141 0 1 openCap, vs 866 0 3 openCap, vs 869 0 2 openCap, vs 870 0 2 openCap, vi 28, vi 1, vs 142 0 5 5]), (915, mc 279 [vi 3, vi 1, vi 0, vn 0, vi 0, vi 0, vn 0, vp 131 0, vi 0, vi 2, vi 1, .func (.func 253) ⟨[vp 915 0]⟩ ⟨[]⟩, vi 2, vf, vi 0, vi 0, vi 0, vf, sn]), (993, mc 322 [vi 0])], 994⟩
set_option maxRecDepth 100000 in
theorem r27 : (e27.fitB && e27.runB (prTab false prB cutF []) Tryz.prog 100000) = true := by decide +kernel
theorem k27 : e27.Fit ∧ EntOk Tryz.prog e27 := Ent.both mixedHere (prTab_ok yes_not prB_ok (okNil)) r27

set_option maxRecDepth 100000 in
def e28 : Ent := ⟨446, 994, [vp 132 0, va [vi 2, vi 1]], turned [] (turned (e27.d.map fun p => (p.1, some p.2)) e27.bl), vt, [(130, mc 182 [vi 10, sn]), (132, mc 198 [vp 131 0, vs 141 0 1 openCap, vs 866 0 3 openCap, vs 869 0 2 openCap, vs 870 0 2 openCap, vi 29, vi 1, vs 142 0 5 5])], 998⟩
set_option maxRecDepth 100000 in
theorem r28 : (e28.fitB && e28.runB (prTab false prB cutF []) Tryz.prog 100000) = true := by decide +kernel
theorem k28 : e28.Fit ∧ EntOk Tryz.prog e28 := Ent.both mixedHere (prTab_ok yes_not prB_ok (okNil)) r28

set_option maxRecDepth 100000 in
def e29 : Ent := ⟨446, 998, [vp 132 0, va [vi 4, vi 0]], turned [] (turned (e28.d.map fun p => (p.1, some p.2)) e28.bl), vf, [(132, mc 198 [vp 131 0, vs 141 0 1 openCap, vs 866 0 3 openCap, vs 869 0 2 openCap, vs 870 0 2 openCap, vi 30, vi 1, vs 142 0 5 5])], 1066⟩
set_option maxRecDepth 100000 in
theorem r29 : (e29.fitB && e29.runB (prTab false prB cutF []) Tryz.prog 100000) = true := by decide +kernel
theorem k29 : e29.Fit ∧ EntOk Tryz.prog e29 := Ent.both mixedHere (prTab_ok yes_not prB_ok (okNil)) r29

set_option maxRecDepth 100000 in
def e30 : Ent := ⟨446, 1068, [vp 132 0, va [vi 1, vi 0]], turned [] (turned (e29.d.map fun p => (p.1, some p.2)) e29.bl), vt, [(120, .map [⟨va [vn 0, vn 0], vp 378 0, 0⟩, ⟨va [vi 0, vn 0], vp 1156 0, 1⟩] 2), (132, mc 198 [vp 131 0, vs 141 0 1 openCap, vs 866 0 3 openCap, vs 869 0 2 openCap, vs 870 0 2 openCap, vi 31, vi 1, vs 142 0 5 5]), (869, mo 3 [vi 18, vi 30]), (870, mo 3 [vi 1, vi 1]), (915, mc 279 [vi 3, vi 1, vi 0, vn 0, vi 0, vi 0, vn 0, vp 131 0, vi 0, vi 2, vi 1, .func (.func 276) ⟨[vp 915 0]⟩ ⟨[]⟩, vi 3, vf, vi 0, vi 0, vi 1, vf, sn]), (1156, mc 68 [vi 0, vn 0, vs 1162 0 1 openCap, vi 0]), (1162, mo 70 [vi 1, vn 0, vi 3, vi 3, vi 0])], 1171⟩
set_option maxRecDepth 100000 in
theorem r30 : (e30.fitB && e30.runB (prTab false prB cutF []) Tryz.prog 100000) = true := by decide +kernel
theorem k30 : e30.Fit ∧ EntOk Tryz.prog e30 := Ent.both mixedHere (prTab_ok yes_not prB_ok (okNil)) r30

set_option maxRecDepth 100000 in
def e31 : Ent := ⟨446, 1171, [vp 132 0, va [vi 2, vi 1]], turned [(661, none), (667, none)] (turned (e30.d.map fun p => (p.1, some p.2)) e30.bl), vt, [(130, mc 182 [vi 11, sn]), (132, mc 198 [vp 131 0, vs 141 0 1 openCap, vs 866 0 3 openCap, vs 869 0 2 openCap, vs 870 0 2 openCap, vi 32, vi 1, vs 142 0 5 5])], 1175⟩
set_option maxRecDepth 100000 in
theorem r31 : (e31.fitB && e31.runB (prTab false prB cutF []) Tryz.prog 100000) = true := by decide +kernel
theorem k31 : e31.Fit ∧ EntOk Tryz.prog e31 := Ent.both mixedHere (prTab_ok yes_not prB_ok (okNil)) r31

end Go.Proofs
