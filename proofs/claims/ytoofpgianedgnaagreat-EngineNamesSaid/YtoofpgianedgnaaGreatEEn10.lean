/-
  PROVED HERE: calls of the run, one by one: what each answers, and which blocks it leaves otherwise.
-/
import Derived.Test.YtoofpgianedgnaaGreatEEn0
set_option linter.unusedVariables false
set_option linter.unusedSimpArgs false
namespace Go.Proofs
open Go.Vai

set_option maxRecDepth 100000 in
def e81 : Ent := ⟨7, 101603, [vp 100333 0, va [vi 1, vi 0]], [(100263, mc 4 [vt, vt, vf, vf, vf, vf, vf, vf, vf, vf, vf, vf, vf, vf, vf, vf, vf, vf, vf, vf, vf, vf, vf, vf]), (100264, mc 207 [vs 100312 0 22 openCap, vs 100263 0 24 24]), (100312, mo 3 [vi 2, vi 3, vi 5, vi 7, vi 4, vi 11, vi 6, vi 15, vi 8, vi 19, vi 9, vi 22, vi 12, vi 13, vi 14, vi 23, vi 16, vi 17, vi 18, vi 21, vi 20, vi 10, vi 1, vi 0]), (100313, .map [⟨vi 0, vi 1, 0⟩, ⟨vi 1, vi 1, 1⟩, ⟨vi 2, vi 0, 2⟩] 3), (100314, mc 150 [vi 2, vi 8, vi 24, vi 2, vp 100264 0, vs 100322 0 2 openCap, (.map (some 100313))]), (100315, .map [] 1), (100316, mc 212 [vi 8, vp 100264 0, (.map (some 100315))]), (100319, .map [⟨va [vn 0, vn 0], vp 101519 0, 0⟩, ⟨va [vi 0, vn 0], vp 101352 0, 1⟩] 2), (100320, mc 212 [vi 8, vp 100264 0, (.map (some 100319))]), (100322, mo 151 [vp 100316 0, vp 100320 0]), (100323, mc 3 [vi 0]), (100324, mc 155 [vs 100323 0 1 1]), (100325, mc 434 [pn, pn]), (100326, mc 158 [vs 100325 0 2 2]), (100327, mc 181 [pn]), (100328, .map [] 0), (100329, mc 162 [vi 0, sn]), (100330, mc 114 [vp 100314 0, vp 100326 0, vp 100324 0, vp 100329 0, vs 100327 0 1 1, (.map (some 100328)), vi 6]), (100331, .map [] 1), (100332, mc 117 [(.map (some 100331))]), (100333, mc 84 [vp 100330 0, vs 100346 0 1 openCap, vi 38, vp 100332 0, vs 100344 0 1 openCap, vs 101145 0 2 openCap, sn, vs 101147 0 1 openCap, sn, vi 0, vi 1]), (100336, mc 215 [vs 101567 0 2 openCap]), (100337, mc 217 [vp 100336 0, vn 0, vi 2]), (100338, mc 168 [vp 100330 0, vi 0, vi 0, sn, sn, vp 100337 0, pn]), (100339, mc 171 [sn]), (100340, mc 126 [vp 100338 0, vi 0, vp 100339 0, vp 100332 0, vi 8, vn 0, vn 0, vi 0, vi 0, vi 0, .nilFunc, vi 1, vi 1, pn]), (100341, mo 62 [vi 1, vn 0, vn 0, vi 0, vi 0, vi 0, vi 4, vi 0, vi 1, vi 0, vi 5, vi 0]), (100342, mc 90 [vp 100340 0, vp 100333 0, vs 100341 0 2 openCap, vi 2, vs 101572 0 2 openCap]), (100344, mo 88 [vp 100342 0]), (100346, mo 129 [.iface 88 (vp 100342 0)]), (101145, mo 64 [vi 1, vi 0, vi 4, vi 0, vi 1, vi 0, vi 5, vi 0, vi 1, vi 0, sn, vi 1, vi 0, vi 8, vn 0, vn 0, vi 0, vi 0, vi 0, vi 1, vi 0, sn]), (101147, mo 3 [vi 1]), (101352, mc 186 [vi 0, vn 0, vs 101358 0 1 openCap, vi 0]), (101358, mo 188 [vi 1, vn 0, vi 2, vi 2, vi 0]), (101519, mc 186 [vn 0, vn 0, vs 101525 0 1 openCap, vi 0]), (101525, mo 188 [vi 0, vn 0, vi 2, vi 2, vi 0]), (101567, mo 197 [vn 0, vn 0, vn 0, vi 2, vn 0, vi 0, vn 0, vi 2]), (101572, mo 49 [vi 1, vi 0, sn, vi 1, vi 0, sn])], vf, [(100333, mc 84 [vp 100330 0, vs 100346 0 1 openCap, vi 39, vp 100332 0, vs 100344 0 1 openCap, vs 101145 0 2 openCap, sn, vs 101147 0 1 openCap, sn, vi 0, vi 1])], 101605⟩
set_option maxRecDepth 100000 in
theorem r81 : (e81.fitB && e81.runB (prTab false prB cutF []) Tryz.prog 100000) = true := by decide +kernel
theorem k81 : e81.Fit ∧ EntOk Tryz.prog e81 := Ent.both mixedHere (prTab_ok yes_not prB_ok (okNil)) r81

set_option maxRecDepth 100000 in
def e82 : Ent := ⟨7, 101605, [vp 100333 0, va [vi 1, vi 0]], turned [] (turned (e81.d.map fun p => (p.1, some p.2)) e81.bl), vf, [(100333, mc 84 [vp 100330 0, vs 100346 0 1 openCap, vi 40, vp 100332 0, vs 100344 0 1 openCap, vs 101145 0 2 openCap, sn, vs 101147 0 1 openCap, sn, vi 0, vi 1])], 101607⟩
set_option maxRecDepth 100000 in
theorem r82 : (e82.fitB && e82.runB (prTab false prB cutF []) Tryz.prog 100000) = true := by decide +kernel
theorem k82 : e82.Fit ∧ EntOk Tryz.prog e82 := Ent.both mixedHere (prTab_ok yes_not prB_ok (okNil)) r82

set_option maxRecDepth 100000 in
def e83 : Ent := ⟨7, 101607, [vp 100333 0, va [vi 1, vi 0]], turned [] (turned (e82.d.map fun p => (p.1, some p.2)) e82.bl), vf, [(100333, mc 84 [vp 100330 0, vs 100346 0 1 openCap, vi 41, vp 100332 0, vs 100344 0 1 openCap, vs 101145 0 2 openCap, sn, vs 101147 0 1 openCap, sn, vi 0, vi 1])], 101609⟩
set_option maxRecDepth 100000 in
theorem r83 : (e83.fitB && e83.runB (prTab false prB cutF []) Tryz.prog 100000) = true := by decide +kernel
theorem k83 : e83.Fit ∧ EntOk Tryz.prog e83 := Ent.both mixedHere (prTab_ok yes_not prB_ok (okNil)) r83

set_option maxRecDepth 100000 in
def e84 : Ent := ⟨7, 101609, [vp 100333 0, va [vi 1, vi 0]], turned [] (turned (e83.d.map fun p => (p.1, some p.2)) e83.bl), vf, [(100333, mc 84 [vp 100330 0, vs 100346 0 1 openCap, vi 42, vp 100332 0, vs 100344 0 1 openCap, vs 101145 0 2 openCap, sn, vs 101147 0 1 openCap, sn, vi 0, vi 1])], 101611⟩
set_option maxRecDepth 100000 in
theorem r84 : (e84.fitB && e84.runB (prTab false prB cutF []) Tryz.prog 100000) = true := by decide +kernel
theorem k84 : e84.Fit ∧ EntOk Tryz.prog e84 := Ent.both mixedHere (prTab_ok yes_not prB_ok (okNil)) r84

set_option maxRecDepth 100000 in
def e85 : Ent := ⟨7, 101611, [vp 100333 0, va [vi 1, vi 0]], turned [] (turned (e84.d.map fun p => (p.1, some p.2)) e84.bl), vf, [(100333, mc 84 [vp 100330 0, vs 100346 0 1 openCap, vi 43, vp 100332 0, vs 100344 0 1 openCap, vs 101145 0 2 openCap, sn, vs 101147 0 1 openCap, sn, vi 0, vi 1])], 101613⟩
set_option maxRecDepth 100000 in
theorem r85 : (e85.fitB && e85.runB (prTab false prB cutF []) Tryz.prog 100000) = true := by decide +kernel
theorem k85 : e85.Fit ∧ EntOk Tryz.prog e85 := Ent.both mixedHere (prTab_ok yes_not prB_ok (okNil)) r85

set_option maxRecDepth 100000 in
def e86 : Ent := ⟨7, 101613, [vp 100333 0, va [vi 1, vi 0]], turned [] (turned (e85.d.map fun p => (p.1, some p.2)) e85.bl), vf, [(100333, mc 84 [vp 100330 0, vs 100346 0 1 openCap, vi 44, vp 100332 0, vs 100344 0 1 openCap, vs 101145 0 2 openCap, sn, vs 101147 0 1 openCap, sn, vi 0, vi 1])], 101615⟩
set_option maxRecDepth 100000 in
theorem r86 : (e86.fitB && e86.runB (prTab false prB cutF []) Tryz.prog 100000) = true := by decide +kernel
theorem k86 : e86.Fit ∧ EntOk Tryz.prog e86 := Ent.both mixedHere (prTab_ok yes_not prB_ok (okNil)) r86

set_option maxRecDepth 100000 in
def e87 : Ent := ⟨7, 101615, [vp 100333 0, va [vi 1, vi 0]], turned [] (turned (e86.d.map fun p => (p.1, some p.2)) e86.bl), vf, [(100333, mc 84 [vp 100330 0, vs 100346 0 1 openCap, vi 45, vp 100332 0, vs 100344 0 1 openCap, vs 101145 0 2 openCap, sn, vs 101147 0 1 openCap, sn, vi 0, vi 1])], 101617⟩
set_option maxRecDepth 100000 in
theorem r87 : (e87.fitB && e87.runB (prTab false prB cutF []) Tryz.prog 100000) = true := by decide +kernel
theorem k87 : e87.Fit ∧ EntOk Tryz.prog e87 := Ent.both mixedHere (prTab_ok yes_not prB_ok (okNil)) r87

set_option maxRecDepth 100000 in
def e88 : Ent := ⟨7, 101617, [vp 100333 0, va [vi 1, vi 0]], turned [] (turned (e87.d.map fun p => (p.1, some p.2)) e87.bl), vf, [(100333, mc 84 [vp 100330 0, vs 100346 0 1 openCap, vi 46, vp 100332 0, vs 100344 0 1 openCap, vs 101145 0 2 openCap, sn, vs 101147 0 1 openCap, sn, vi 0, vi 1])], 101619⟩
set_option maxRecDepth 100000 in
theorem r88 : (e88.fitB && e88.runB (prTab false prB cutF []) Tryz.prog 100000) = true := by decide +kernel
theorem k88 : e88.Fit ∧ EntOk Tryz.prog e88 := Ent.both mixedHere (prTab_ok yes_not prB_ok (okNil)) r88

set_option maxRecDepth 100000 in
def e89 : Ent := ⟨7, 101619, [vp 100333 0, va [vi 1, vi 0]], turned [] (turned (e88.d.map fun p => (p.1, some p.2)) e88.bl), vf, [(100333, mc 84 [vp 100330 0, vs 100346 0 1 openCap, vi 47, vp 100332 0, vs 100344 0 1 openCap, vs 101145 0 2 openCap, sn, vs 101147 0 1 openCap, sn, vi 0, vi 1])], 101621⟩
set_option maxRecDepth 100000 in
theorem r89 : (e89.fitB && e89.runB (prTab false prB cutF []) Tryz.prog 100000) = true := by decide +kernel
theorem k89 : e89.Fit ∧ EntOk Tryz.prog e89 := Ent.both mixedHere (prTab_ok yes_not prB_ok (okNil)) r89

end Go.Proofs
