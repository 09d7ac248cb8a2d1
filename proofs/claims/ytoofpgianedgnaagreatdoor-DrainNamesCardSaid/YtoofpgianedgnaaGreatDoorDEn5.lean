/-
  PROVED HERE: calls of the run, one by one: what each answers, and which blocks it leaves otherwise.
-/
import Derived.Test.YtoofpgianedgnaaGreatDoorDEn0
set_option linter.unusedVariables false
set_option linter.unusedSimpArgs false
namespace Go.Proofs
open Go.Vai

set_option maxRecDepth 100000 in
def e32 : Ent := ⟨446, 1175, [vp 132 0, va [vi 4, vi 0]], [(64, mc 4 [vt, vt, vf, vf, vf, vf, vf, vf, vf, vf, vf, vf, vf, vf, vf, vf, vf, vf, vf, vf, vf, vf, vf, vf]), (65, mc 260 [vs 113 0 22 openCap, vs 64 0 24 24]), (113, mo 3 [vi 2, vi 3, vi 5, vi 7, vi 4, vi 11, vi 6, vi 15, vi 8, vi 9, vi 10, vi 22, vi 12, vi 13, vi 14, vi 23, vi 16, vi 17, vi 18, vi 19, vi 20, vi 21, vi 1, vi 0]), (114, .map [⟨vi 0, vi 1, 0⟩, ⟨vi 1, vi 1, 1⟩] 2), (115, mc 170 [vi 2, vi 8, vi 24, vi 2, vp 65 0, vs 123 0 2 openCap, (.map (some 114))]), (116, .map [] 0), (117, mc 265 [vi 8, vp 65 0, (.map (some 116))]), (120, .map [⟨va [vn 0, vn 0], vp 378 0, 0⟩, ⟨va [vi 0, vn 0], vp 1156 0, 1⟩] 2), (121, mc 265 [vi 8, vp 65 0, (.map (some 120))]), (123, mo 171 [vp 117 0, vp 121 0]), (124, mc 3 [vi 0]), (125, mc 175 [vs 124 0 1 1]), (126, mc 320 [pn, vp 993 0]), (127, mc 178 [vs 126 0 2 2]), (128, mc 274 [vp 915 0]), (129, .map [] 0), (130, mc 182 [vi 11, sn]), (131, mc 114 [vp 115 0, vp 127 0, vp 125 0, vp 130 0, vs 128 0 1 1, (.map (some 129)), vi 3]), (132, mc 198 [vp 131 0, vs 141 0 1 openCap, vs 866 0 3 openCap, vs 869 0 2 openCap, vs 870 0 2 openCap, vi 32, vi 1, vs 142 0 5 5]), (135, mc 268 [sn]), (136, mc 270 [vp 135 0, vn 0, vi 2]), (137, mc 144 [vp 131 0, vi 0, vi 1, vs 783 0 1 openCap, vs 764 0 2 openCap, vp 136 0, vp 873 0]), (138, mo 36 [vi 1, vn 0, vn 0, vi 0, vi 0, vi 0, vi 9, vi 0, vn 0, vi 3, vi 0, vi 0]), (139, mc 201 [vp 137 0, vp 132 0, vi 0, vs 138 0 2 openCap, vi 2, vi 1, vf]), (141, mo 199 [vp 139 0]), (142, mc 190 [.nilFunc, .func (.func 96) ⟨[vp 132 0]⟩ ⟨[]⟩, .func (.func 97) ⟨[vp 132 0]⟩ ⟨[]⟩, .func (.func 98) ⟨[vp 132 0]⟩ ⟨[]⟩, .func (.func 99) ⟨[vp 132 0]⟩ ⟨[]⟩]), (378, mc 68 [vn 0, vn 0, vs 384 0 1 openCap, vi 0]), (384, mo 70 [vi 0, vi 1, vi 1, vi 1, vi 0]), (764, mo 83 [vi 1, vn 0, vn 0, vi 1, vi 1, vi 0, vn 0, vi 3]), (783, mo 83 [vi 1, vi 0, vn 0, vi 3]), (866, mo 326 [vi 0, vi 0, vt, vi 1, vi 1, vi 0, vn 0, vi 3, vi 0, vi 0, vi 0, vf, vi 0, vi 0, vi 0, vi 0, vi 0, vi 1, vi 1, vi 0, vt, vi 3, vi 1, vi 0, vi 0, vi 0, vi 0]), (869, mo 3 [vi 18, vi 30]), (870, mo 3 [vi 1, vi 1]), (873, mc 159 [sn, vs 875 0 2 openCap, vi 3, vi 1, vi 0, vi 0, vi 0, vi 0, vi 0, vi 3, vi 1, vi 0, vn 0, vi 0, vi 0, vn 0, vi 0, .func (.func 128) ⟨[vp 137 0]⟩ ⟨[]⟩, .func (.func 80) ⟨[]⟩ ⟨[]⟩, vf, vi 0]), (875, mo 83 [vi 1, vi 0, vn 0, vi 3, vi 1, vn 0, vn 0, vi 1]), (915, mc 279 [vi 3, vi 1, vi 0, vn 0, vi 0, vi 0, vn 0, vp 131 0, vi 0, vi 2, vi 1, .func (.func 276) ⟨[vp 915 0]⟩ ⟨[]⟩, vi 3, vf, vi 0, vi 0, vi 1, vf, sn]), (993, mc 322 [vi 0]), (1156, mc 68 [vi 0, vn 0, vs 1162 0 1 openCap, vi 0]), (1162, mo 70 [vi 1, vn 0, vi 3, vi 3, vi 0])], vf, [(132, mc 198 [vp 131 0, vs 141 0 1 openCap, vs 866 0 3 openCap, vs 869 0 2 openCap, vs 870 0 2 openCap, vi 33, vi 1, vs 142 0 5 5])], 1243⟩
set_option maxRecDepth 100000 in
theorem r32 : (e32.fitB && e32.runB (prTab false prB cutF []) Tryz.prog 100000) = true := by decide +kernel
theorem k32 : e32.Fit ∧ EntOk Tryz.prog e32 := Ent.both mixedHere (prTab_ok yes_not prB_ok (okNil)) r32

set_option maxRecDepth 100000 in
def e33 : Ent := ⟨446, 1245, [vp 132 0, va [vi 1, vi 0]], turned [] (turned (e32.d.map fun p => (p.1, some p.2)) e32.bl), vt, [(126, mc 320 [pn, pn]), (128, mc 274 [vp 1287 0]), (131, mc 114 [vp 115 0, vp 127 0, vp 125 0, vp 130 0, vs 128 0 1 1, (.map (some 129)), vi 4]), (132, mc 198 [vp 131 0, vs 141 0 1 openCap, vs 866 0 3 openCap, vs 869 0 2 openCap, vs 870 0 2 openCap, vi 34, vi 1, vs 142 0 5 5]), (135, mc 268 [vs 1265 0 1 openCap]), (137, mc 144 [vp 131 0, vi 0, vi 1, vs 783 0 1 openCap, vs 1251 0 1 openCap, vp 136 0, vp 873 0]), (873, mc 159 [sn, vs 875 4 1 openCap, vi 3, vi 1, vi 0, vi 0, vi 0, vi 0, vi 0, vi 3, vi 1, vn 0, vn 0, vi 0, vi 0, vn 0, vi 0, .func (.func 128) ⟨[vp 137 0]⟩ ⟨[]⟩, .func (.func 80) ⟨[]⟩ ⟨[]⟩, vt, vi 0]), (915, mc 279 [vi 3, vi 1, vi 0, vn 0, vi 0, vi 0, vn 0, vp 131 0, vi 0, vi 2, vi 1, .func (.func 276) ⟨[vp 915 0]⟩ ⟨[]⟩, vi 3, vf, vi 0, vi 0, vi 1, vt, sn]), (1251, mo 83 [vi 1, vn 0, vn 0, vi 1, vi 0, vi 0, vi 0, vi 0]), (1265, mo 83 [vn 0, vi 0, vn 0, vi 3]), (1287, mc 279 [vi 3, vi 1, vn 0, vn 0, vi 0, vi 0, vn 0, vp 131 0, vi 0, vi 3, vi 1, .func (.func 216) ⟨[vp 1287 0]⟩ ⟨[]⟩, vi 1, vf, vi 0, vi 0, vi 0, vf, sn])], 1288⟩
set_option maxRecDepth 100000 in
theorem r33 : (e33.fitB && e33.runB (prTab false prB cutF []) Tryz.prog 100000) = true := by decide +kernel
theorem k33 : e33.Fit ∧ EntOk Tryz.prog e33 := Ent.both mixedHere (prTab_ok yes_not prB_ok (okNil)) r33

set_option maxRecDepth 100000 in
def e34 : Ent := ⟨446, 1288, [vp 132 0, va [vi 2, vi 1]], turned [(764, none), (915, none), (993, none)] (turned (e33.d.map fun p => (p.1, some p.2)) e33.bl), vt, [(130, mc 182 [vi 12, sn]), (132, mc 198 [vp 131 0, vs 141 0 1 openCap, vs 866 0 3 openCap, vs 869 0 2 openCap, vs 870 0 2 openCap, vi 35, vi 1, vs 142 0 5 5])], 1292⟩
set_option maxRecDepth 100000 in
theorem r34 : (e34.fitB && e34.runB (prTab false prB cutF []) Tryz.prog 100000) = true := by decide +kernel
theorem k34 : e34.Fit ∧ EntOk Tryz.prog e34 := Ent.both mixedHere (prTab_ok yes_not prB_ok (okNil)) r34

set_option maxRecDepth 100000 in
def e35 : Ent := ⟨446, 1292, [vp 132 0, va [vi 4, vi 0]], turned [] (turned (e34.d.map fun p => (p.1, some p.2)) e34.bl), vf, [(132, mc 198 [vp 131 0, vs 141 0 1 openCap, vs 866 0 3 openCap, vs 869 0 2 openCap, vs 870 0 2 openCap, vi 36, vi 1, vs 142 0 5 5])], 1360⟩
set_option maxRecDepth 100000 in
theorem r35 : (e35.fitB && e35.runB (prTab false prB cutF []) Tryz.prog 100000) = true := by decide +kernel
theorem k35 : e35.Fit ∧ EntOk Tryz.prog e35 := Ent.both mixedHere (prTab_ok yes_not prB_ok (okNil)) r35

set_option maxRecDepth 100000 in
def e36 : Ent := ⟨446, 1362, [vp 132 0, va [vi 1, vi 0]], turned [] (turned (e35.d.map fun p => (p.1, some p.2)) e35.bl), vt, [(126, mc 320 [pn, vp 1365 0]), (132, mc 198 [vp 131 0, vs 141 0 1 openCap, vs 866 0 3 openCap, vs 869 0 2 openCap, vs 870 0 2 openCap, vi 37, vi 1, vs 142 0 5 5]), (1287, mc 279 [vi 3, vi 1, vn 0, vn 0, vi 0, vi 0, vn 0, vp 131 0, vi 0, vi 3, vi 1, .func (.func 253) ⟨[vp 1287 0]⟩ ⟨[]⟩, vi 2, vf, vi 0, vi 0, vi 0, vf, sn]), (1365, mc 322 [vi 0])], 1366⟩
set_option maxRecDepth 100000 in
theorem r36 : (e36.fitB && e36.runB (prTab false prB cutF []) Tryz.prog 100000) = true := by decide +kernel
theorem k36 : e36.Fit ∧ EntOk Tryz.prog e36 := Ent.both mixedHere (prTab_ok yes_not prB_ok (okNil)) r36

set_option maxRecDepth 100000 in
def e37 : Ent := ⟨446, 1366, [vp 132 0, va [vi 2, vi 1]], turned [] (turned (e36.d.map fun p => (p.1, some p.2)) e36.bl), vt, [(130, mc 182 [vi 13, sn]), (132, mc 198 [vp 131 0, vs 141 0 1 openCap, vs 866 0 3 openCap, vs 869 0 2 openCap, vs 870 0 2 openCap, vi 38, vi 1, vs 142 0 5 5])], 1370⟩
set_option maxRecDepth 100000 in
theorem r37 : (e37.fitB && e37.runB (prTab false prB cutF []) Tryz.prog 100000) = true := by decide +kernel
theorem k37 : e37.Fit ∧ EntOk Tryz.prog e37 := Ent.both mixedHere (prTab_ok yes_not prB_ok (okNil)) r37

set_option maxRecDepth 100000 in
def e38 : Ent := ⟨446, 1370, [vp 132 0, va [vi 4, vi 0]], turned [] (turned (e37.d.map fun p => (p.1, some p.2)) e37.bl), vf, [(132, mc 198 [vp 131 0, vs 141 0 1 openCap, vs 866 0 3 openCap, vs 869 0 2 openCap, vs 870 0 2 openCap, vi 39, vi 1, vs 142 0 5 5])], 1438⟩
set_option maxRecDepth 100000 in
theorem r38 : (e38.fitB && e38.runB (prTab false prB cutF []) Tryz.prog 100000) = true := by decide +kernel
theorem k38 : e38.Fit ∧ EntOk Tryz.prog e38 := Ent.both mixedHere (prTab_ok yes_not prB_ok (okNil)) r38

set_option maxRecDepth 100000 in
def e39 : Ent := ⟨446, 1440, [vp 132 0, va [vi 1, vi 0]], turned [] (turned (e38.d.map fun p => (p.1, some p.2)) e38.bl), vt, [(120, .map [⟨va [vn 0, vn 0], vp 1527 0, 0⟩, ⟨va [vi 0, vn 0], vp 1156 0, 1⟩] 2), (132, mc 198 [vp 131 0, vs 141 0 1 openCap, vs 866 0 3 openCap, vs 869 0 2 openCap, vs 870 0 2 openCap, vi 40, vi 1, vs 142 0 5 5]), (1287, mc 279 [vi 3, vi 1, vn 0, vn 0, vi 0, vi 0, vn 0, vp 131 0, vi 0, vi 3, vi 1, .func (.func 276) ⟨[vp 1287 0]⟩ ⟨[]⟩, vi 3, vf, vi 0, vi 0, vi 1, vf, sn]), (1527, mc 68 [vn 0, vn 0, vs 1533 0 1 openCap, vi 0]), (1533, mo 70 [vi 0, vn 0, vi 1, vi 1, vi 0])], 1542⟩
set_option maxRecDepth 100000 in
theorem r39 : (e39.fitB && e39.runB (prTab false prB cutF []) Tryz.prog 100000) = true := by decide +kernel
theorem k39 : e39.Fit ∧ EntOk Tryz.prog e39 := Ent.both mixedHere (prTab_ok yes_not prB_ok (okNil)) r39

end Go.Proofs
