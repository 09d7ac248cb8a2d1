/-
  PROVED HERE: calls of the run, one by one: what each answers, and which blocks it leaves otherwise.
-/
import Derived.Test.YtoofpgianedgnaaGreatEEn0
set_option linter.unusedVariables false
set_option linter.unusedSimpArgs false
namespace Go.Proofs
open Go.Vai

set_option maxRecDepth 100000 in
def e90 : Ent := ⟨7, 101621, [vp 100333 0, va [vi 1, vi 0]], [(100263, mc 4 [vt, vt, vf, vf, vf, vf, vf, vf, vf, vf, vf, vf, vf, vf, vf, vf, vf, vf, vf, vf, vf, vf, vf, vf]), (100264, mc 207 [vs 100312 0 22 openCap, vs 100263 0 24 24]), (100312, mo 3 [vi 2, vi 3, vi 5, vi 7, vi 4, vi 11, vi 6, vi 15, vi 8, vi 19, vi 9, vi 22, vi 12, vi 13, vi 14, vi 23, vi 16, vi 17, vi 18, vi 21, vi 20, vi 10, vi 1, vi 0]), (100313, .map [⟨vi 0, vi 1, 0⟩, ⟨vi 1, vi 1, 1⟩, ⟨vi 2, vi 0, 2⟩] 3), (100314, mc 150 [vi 2, vi 8, vi 24, vi 2, vp 100264 0, vs 100322 0 2 openCap, (.map (some 100313))]), (100315, .map [] 1), (100316, mc 212 [vi 8, vp 100264 0, (.map (some 100315))]), (100319, .map [⟨va [vn 0, vn 0], vp 101519 0, 0⟩, ⟨va [vi 0, vn 0], vp 101352 0, 1⟩] 2), (100320, mc 212 [vi 8, vp 100264 0, (.map (some 100319))]), (100322, mo 151 [vp 100316 0, vp 100320 0]), (100323, mc 3 [vi 0]), (100324, mc 155 [vs 100323 0 1 1]), (100325, mc 434 [pn, pn]), (100326, mc 158 [vs 100325 0 2 2]), (100327, mc 181 [pn]), (100328, .map [] 0), (100329, mc 162 [vi 0, sn]), (100330, mc 114 [vp 100314 0, vp 100326 0, vp 100324 0, vp 100329 0, vs 100327 0 1 1, (.map (some 100328)), vi 6]), (100331, .map [] 1), (100332, mc 117 [(.map (some 100331))]), (100333, mc 84 [vp 100330 0, vs 100346 0 1 openCap, vi 47, vp 100332 0, vs 100344 0 1 openCap, vs 101145 0 2 openCap, sn, vs 101147 0 1 openCap, sn, vi 0, vi 1]), (100336, mc 215 [vs 101567 0 2 openCap]), (100337, mc 217 [vp 100336 0, vn 0, vi 2]), (100338, mc 168 [vp 100330 0, vi 0, vi 0, sn, sn, vp 100337 0, pn]), (100339, mc 171 [sn]), (100340, mc 126 [vp 100338 0, vi 0, vp 100339 0, vp 100332 0, vi 8, vn 0, vn 0, vi 0, vi 0, vi 0, .nilFunc, vi 1, vi 1, pn]), (100341, mo 62 [vi 1, vn 0, vn 0, vi 0, vi 0, vi 0, vi 4, vi 0, vi 1, vi 0, vi 5, vi 0]), (100342, mc 90 [vp 100340 0, vp 100333 0, vs 100341 0 2 openCap, vi 2, vs 101572 0 2 openCap]), (100344, mo 88 [vp 100342 0]), (100346, mo 129 [.iface 88 (vp 100342 0)]), (101145, mo 64 [vi 1, vi 0, vi 4, vi 0, vi 1, vi 0, vi 5, vi 0, vi 1, vi 0, sn, vi 1, vi 0, vi 8, vn 0, vn 0, vi 0, vi 0, vi 0, vi 1, vi 0, sn]), (101147, mo 3 [vi 1]), (101352, mc 186 [vi 0, vn 0, vs 101358 0 1 openCap, vi 0]), (101358, mo 188 [vi 1, vn 0, vi 2, vi 2, vi 0]), (101519, mc 186 [vn 0, vn 0, vs 101525 0 1 openCap, vi 0]), (101525, mo 188 [vi 0, vn 0, vi 2, vi 2, vi 0]), (101567, mo 197 [vn 0, vn 0, vn 0, vi 2, vn 0, vi 0, vn 0, vi 2]), (101572, mo 49 [vi 1, vi 0, sn, vi 1, vi 0, sn])], vf, [(100333, mc 84 [vp 100330 0, vs 100346 0 1 openCap, vi 48, vp 100332 0, vs 100344 0 1 openCap, vs 101145 0 2 openCap, sn, vs 101147 0 1 openCap, sn, vi 0, vi 1])], 101623⟩
set_option maxRecDepth 100000 in
theorem r90 : (e90.fitB && e90.runB (prTab false prB cutF []) Tryz.prog 100000) = true := by decide +kernel
theorem k90 : e90.Fit ∧ EntOk Tryz.prog e90 := Ent.both mixedHere (prTab_ok yes_not prB_ok (okNil)) r90

set_option maxRecDepth 100000 in
def e91 : Ent := ⟨7, 101623, [vp 100333 0, va [vi 1, vi 0]], turned [] (turned (e90.d.map fun p => (p.1, some p.2)) e90.bl), vf, [(100333, mc 84 [vp 100330 0, vs 100346 0 1 openCap, vi 49, vp 100332 0, vs 100344 0 1 openCap, vs 101145 0 2 openCap, sn, vs 101147 0 1 openCap, sn, vi 0, vi 1])], 101625⟩
set_option maxRecDepth 100000 in
theorem r91 : (e91.fitB && e91.runB (prTab false prB cutF []) Tryz.prog 100000) = true := by decide +kernel
theorem k91 : e91.Fit ∧ EntOk Tryz.prog e91 := Ent.both mixedHere (prTab_ok yes_not prB_ok (okNil)) r91

set_option maxRecDepth 100000 in
def e92 : Ent := ⟨7, 101625, [vp 100333 0, va [vi 1, vi 0]], turned [] (turned (e91.d.map fun p => (p.1, some p.2)) e91.bl), vf, [(100333, mc 84 [vp 100330 0, vs 100346 0 1 openCap, vi 50, vp 100332 0, vs 100344 0 1 openCap, vs 101145 0 2 openCap, sn, vs 101147 0 1 openCap, sn, vi 0, vi 1])], 101627⟩
set_option maxRecDepth 100000 in
theorem r92 : (e92.fitB && e92.runB (prTab false prB cutF []) Tryz.prog 100000) = true := by decide +kernel
theorem k92 : e92.Fit ∧ EntOk Tryz.prog e92 := Ent.both mixedHere (prTab_ok yes_not prB_ok (okNil)) r92

set_option maxRecDepth 100000 in
def e93 : Ent := ⟨7, 101627, [vp 100333 0, va [vi 1, vi 0]], turned [] (turned (e92.d.map fun p => (p.1, some p.2)) e92.bl), vf, [(100333, mc 84 [vp 100330 0, vs 100346 0 1 openCap, vi 51, vp 100332 0, vs 100344 0 1 openCap, vs 101145 0 2 openCap, sn, vs 101147 0 1 openCap, sn, vi 0, vi 1])], 101629⟩
set_option maxRecDepth 100000 in
theorem r93 : (e93.fitB && e93.runB (prTab false prB cutF []) Tryz.prog 100000) = true := by decide +kernel
theorem k93 : e93.Fit ∧ EntOk Tryz.prog e93 := Ent.both mixedHere (prTab_ok yes_not prB_ok (okNil)) r93

set_option maxRecDepth 100000 in
def e94 : Ent := ⟨7, 101629, [vp 100333 0, va [vi 1, vi 0]], turned [] (turned (e93.d.map fun p => (p.1, some p.2)) e93.bl), vf, [(100333, mc 84 [vp 100330 0, vs 100346 0 1 openCap, vi 52, vp 100332 0, vs 100344 0 1 openCap, vs 101145 0 2 openCap, sn, vs 101147 0 1 openCap, sn, vi 0, vi 1])], 101631⟩
set_option maxRecDepth 100000 in
theorem r94 : (e94.fitB && e94.runB (prTab false prB cutF []) Tryz.prog 100000) = true := by decide +kernel
theorem k94 : e94.Fit ∧ EntOk Tryz.prog e94 := Ent.both mixedHere (prTab_ok yes_not prB_ok (okNil)) r94

set_option maxRecDepth 100000 in
def e95 : Ent := ⟨7, 101631, [vp 100333 0, va [vi 1, vi 0]], turned [] (turned (e94.d.map fun p => (p.1, some p.2)) e94.bl), vf, [(100333, mc 84 [vp 100330 0, vs 100346 0 1 openCap, vi 53, vp 100332 0, vs 100344 0 1 openCap, vs 101145 0 2 openCap, sn, vs 101147 0 1 openCap, sn, vi 0, vi 1])], 101633⟩
set_option maxRecDepth 100000 in
theorem r95 : (e95.fitB && e95.runB (prTab false prB cutF []) Tryz.prog 100000) = true := by decide +kernel
theorem k95 : e95.Fit ∧ EntOk Tryz.prog e95 := Ent.both mixedHere (prTab_ok yes_not prB_ok (okNil)) r95

set_option maxRecDepth 100000 in
def e96 : Ent := ⟨7, 101633, [vp 100333 0, va [vi 1, vi 0]], turned [] (turned (e95.d.map fun p => (p.1, some p.2)) e95.bl), vf, [(100333, mc 84 [vp 100330 0, vs 100346 0 1 openCap, vi 54, vp 100332 0, vs 100344 0 1 openCap, vs 101145 0 2 openCap, sn, vs 101147 0 1 openCap, sn, vi 0, vi 1])], 101635⟩
set_option maxRecDepth 100000 in
theorem r96 : (e96.fitB && e96.runB (prTab false prB cutF []) Tryz.prog 100000) = true := by decide +kernel
theorem k96 : e96.Fit ∧ EntOk Tryz.prog e96 := Ent.both mixedHere (prTab_ok yes_not prB_ok (okNil)) r96

set_option maxRecDepth 100000 in
def e97 : Ent := ⟨7, 101635, [vp 100333 0, va [vi 1, vi 0]], turned [] (turned (e96.d.map fun p => (p.1, some p.2)) e96.bl), vf, [(100333, mc 84 [vp 100330 0, vs 100346 0 1 openCap, vi 55, vp 100332 0, vs 100344 0 1 openCap, vs 101145 0 2 openCap, sn, vs 101147 0 1 openCap, sn, vi 0, vi 1])], 101637⟩
set_option maxRecDepth 100000 in
theorem r97 : (e97.fitB && e97.runB (prTab false prB cutF []) Tryz.prog 100000) = true := by decide +kernel
theorem k97 : e97.Fit ∧ EntOk Tryz.prog e97 := Ent.both mixedHere (prTab_ok yes_not prB_ok (okNil)) r97

set_option maxRecDepth 100000 in
def e98 : Ent := ⟨7, 101637, [vp 100333 0, va [vi 1, vi 0]], turned [] (turned (e97.d.map fun p => (p.1, some p.2)) e97.bl), vf, [(100333, mc 84 [vp 100330 0, vs 100346 0 1 openCap, vi 56, vp 100332 0, vs 100344 0 1 openCap, vs 101145 0 2 openCap, sn, vs 101147 0 1 openCap, sn, vi 0, vi 1])], 101639⟩
set_option maxRecDepth 100000 in
theorem r98 : (e98.fitB && e98.runB (prTab false prB cutF []) Tryz.prog 100000) = true := by decide +kernel
theorem k98 : e98.Fit ∧ EntOk Tryz.prog e98 := Ent.both mixedHere (prTab_ok yes_not prB_ok (okNil)) r98

end Go.Proofs
