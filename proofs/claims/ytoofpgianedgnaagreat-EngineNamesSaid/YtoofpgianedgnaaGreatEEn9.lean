/-
  PROVED HERE: calls of the run, one by one: what each answers, and which blocks it leaves otherwise.
-/
import Derived.Test.YtoofpgianedgnaaGreatEEn0
set_option linter.unusedVariables false
set_option linter.unusedSimpArgs false
namespace Go.Proofs
open Go.Vai

set_option maxRecDepth 100000 in
def e72 : Ent := ⟨7, 101585, [vp 100333 0, va [vi 1, vi 0]], [(100263, mc 4 [vt, vt, vf, vf, vf, vf, vf, vf, vf, vf, vf, vf, vf, vf, vf, vf, vf, vf, vf, vf, vf, vf, vf, vf]), (100264, mc 207 [vs 100312 0 22 openCap, vs 100263 0 24 24]), (100312, mo 3 [vi 2, vi 3, vi 5, vi 7, vi 4, vi 11, vi 6, vi 15, vi 8, vi 19, vi 9, vi 22, vi 12, vi 13, vi 14, vi 23, vi 16, vi 17, vi 18, vi 21, vi 20, vi 10, vi 1, vi 0]), (100313, .map [⟨vi 0, vi 1, 0⟩, ⟨vi 1, vi 1, 1⟩, ⟨vi 2, vi 0, 2⟩] 3), (100314, mc 150 [vi 2, vi 8, vi 24, vi 2, vp 100264 0, vs 100322 0 2 openCap, (.map (some 100313))]), (100315, .map [] 1), (100316, mc 212 [vi 8, vp 100264 0, (.map (some 100315))]), (100319, .map [⟨va [vn 0, vn 0], vp 101519 0, 0⟩, ⟨va [vi 0, vn 0], vp 101352 0, 1⟩] 2), (100320, mc 212 [vi 8, vp 100264 0, (.map (some 100319))]), (100322, mo 151 [vp 100316 0, vp 100320 0]), (100323, mc 3 [vi 0]), (100324, mc 155 [vs 100323 0 1 1]), (100325, mc 434 [pn, pn]), (100326, mc 158 [vs 100325 0 2 2]), (100327, mc 181 [pn]), (100328, .map [] 0), (100329, mc 162 [vi 0, sn]), (100330, mc 114 [vp 100314 0, vp 100326 0, vp 100324 0, vp 100329 0, vs 100327 0 1 1, (.map (some 100328)), vi 6]), (100331, .map [] 1), (100332, mc 117 [(.map (some 100331))]), (100333, mc 84 [vp 100330 0, vs 100346 0 1 openCap, vi 29, vp 100332 0, vs 100344 0 1 openCap, vs 101145 0 2 openCap, sn, vs 101147 0 1 openCap, sn, vi 0, vi 1]), (100336, mc 215 [vs 101567 0 2 openCap]), (100337, mc 217 [vp 100336 0, vn 0, vi 2]), (100338, mc 168 [vp 100330 0, vi 0, vi 0, sn, sn, vp 100337 0, pn]), (100339, mc 171 [sn]), (100340, mc 126 [vp 100338 0, vi 0, vp 100339 0, vp 100332 0, vi 8, vn 0, vn 0, vi 0, vi 0, vi 0, .nilFunc, vi 1, vi 1, pn]), (100341, mo 62 [vi 1, vn 0, vn 0, vi 0, vi 0, vi 0, vi 4, vi 0, vi 1, vi 0, vi 5, vi 0]), (100342, mc 90 [vp 100340 0, vp 100333 0, vs 100341 0 2 openCap, vi 2, vs 101572 0 2 openCap]), (100344, mo 88 [vp 100342 0]), (100346, mo 129 [.iface 88 (vp 100342 0)]), (101145, mo 64 [vi 1, vi 0, vi 4, vi 0, vi 1, vi 0, vi 5, vi 0, vi 1, vi 0, sn, vi 1, vi 0, vi 8, vn 0, vn 0, vi 0, vi 0, vi 0, vi 1, vi 0, sn]), (101147, mo 3 [vi 1]), (101352, mc 186 [vi 0, vn 0, vs 101358 0 1 openCap, vi 0]), (101358, mo 188 [vi 1, vn 0, vi 2, vi 2, vi 0]), (101519, mc 186 [vn 0, vn 0, vs 101525 0 1 openCap, vi 0]), (101525, mo 188 [vi 0, vn 0, vi 2, vi 2, vi 0]), (101567, mo 197 [vn 0, vn 0, vn 0, vi 2, vn 0, vi 0, vn 0, vi 2]), (101572, mo 49 [vi 1, vi 0, sn, vi 1, vi 0, sn])], vf, [(100333, mc 84 [vp 100330 0, vs 100346 0 1 openCap, vi 30, vp 100332 0, vs 100344 0 1 openCap, vs 101145 0 2 openCap, sn, vs 101147 0 1 openCap, sn, vi 0, vi 1])], 101587⟩
set_option maxRecDepth 100000 in
theorem r72 : (e72.fitB && e72.runB (prTab false prB cutF []) Tryz.prog 100000) = true := by decide +kernel
theorem k72 : e72.Fit ∧ EntOk Tryz.prog e72 := Ent.both mixedHere (prTab_ok yes_not prB_ok (okNil)) r72

set_option maxRecDepth 100000 in
def e73 : Ent := ⟨7, 101587, [vp 100333 0, va [vi 1, vi 0]], turned [] (turned (e72.d.map fun p => (p.1, some p.2)) e72.bl), vf, [(100333, mc 84 [vp 100330 0, vs 100346 0 1 openCap, vi 31, vp 100332 0, vs 100344 0 1 openCap, vs 101145 0 2 openCap, sn, vs 101147 0 1 openCap, sn, vi 0, vi 1])], 101589⟩
set_option maxRecDepth 100000 in
theorem r73 : (e73.fitB && e73.runB (prTab false prB cutF []) Tryz.prog 100000) = true := by decide +kernel
theorem k73 : e73.Fit ∧ EntOk Tryz.prog e73 := Ent.both mixedHere (prTab_ok yes_not prB_ok (okNil)) r73

set_option maxRecDepth 100000 in
def e74 : Ent := ⟨7, 101589, [vp 100333 0, va [vi 1, vi 0]], turned [] (turned (e73.d.map fun p => (p.1, some p.2)) e73.bl), vf, [(100333, mc 84 [vp 100330 0, vs 100346 0 1 openCap, vi 32, vp 100332 0, vs 100344 0 1 openCap, vs 101145 0 2 openCap, sn, vs 101147 0 1 openCap, sn, vi 0, vi 1])], 101591⟩
set_option maxRecDepth 100000 in
theorem r74 : (e74.fitB && e74.runB (prTab false prB cutF []) Tryz.prog 100000) = true := by decide +kernel
theorem k74 : e74.Fit ∧ EntOk Tryz.prog e74 := Ent.both mixedHere (prTab_ok yes_not prB_ok (okNil)) r74

set_option maxRecDepth 100000 in
def e75 : Ent := ⟨7, 101591, [vp 100333 0, va [vi 1, vi 0]], turned [] (turned (e74.d.map fun p => (p.1, some p.2)) e74.bl), vf, [(100333, mc 84 [vp 100330 0, vs 100346 0 1 openCap, vi 33, vp 100332 0, vs 100344 0 1 openCap, vs 101145 0 2 openCap, sn, vs 101147 0 1 openCap, sn, vi 0, vi 1])], 101593⟩
set_option maxRecDepth 100000 in
theorem r75 : (e75.fitB && e75.runB (prTab false prB cutF []) Tryz.prog 100000) = true := by decide +kernel
theorem k75 : e75.Fit ∧ EntOk Tryz.prog e75 := Ent.both mixedHere (prTab_ok yes_not prB_ok (okNil)) r75

set_option maxRecDepth 100000 in
def e76 : Ent := ⟨7, 101593, [vp 100333 0, va [vi 1, vi 0]], turned [] (turned (e75.d.map fun p => (p.1, some p.2)) e75.bl), vf, [(100333, mc 84 [vp 100330 0, vs 100346 0 1 openCap, vi 34, vp 100332 0, vs 100344 0 1 openCap, vs 101145 0 2 openCap, sn, vs 101147 0 1 openCap, sn, vi 0, vi 1])], 101595⟩
set_option maxRecDepth 100000 in
theorem r76 : (e76.fitB && e76.runB (prTab false prB cutF []) Tryz.prog 100000) = true := by decide +kernel
theorem k76 : e76.Fit ∧ EntOk Tryz.prog e76 := Ent.both mixedHere (prTab_ok yes_not prB_ok (okNil)) r76

set_option maxRecDepth 100000 in
def e77 : Ent := ⟨7, 101595, [vp 100333 0, va [vi 1, vi 0]], turned [] (turned (e76.d.map fun p => (p.1, some p.2)) e76.bl), vf, [(100333, mc 84 [vp 100330 0, vs 100346 0 1 openCap, vi 35, vp 100332 0, vs 100344 0 1 openCap, vs 101145 0 2 openCap, sn, vs 101147 0 1 openCap, sn, vi 0, vi 1])], 101597⟩
set_option maxRecDepth 100000 in
theorem r77 : (e77.fitB && e77.runB (prTab false prB cutF []) Tryz.prog 100000) = true := by decide +kernel
theorem k77 : e77.Fit ∧ EntOk Tryz.prog e77 := Ent.both mixedHere (prTab_ok yes_not prB_ok (okNil)) r77

set_option maxRecDepth 100000 in
def e78 : Ent := ⟨7, 101597, [vp 100333 0, va [vi 1, vi 0]], turned [] (turned (e77.d.map fun p => (p.1, some p.2)) e77.bl), vf, [(100333, mc 84 [vp 100330 0, vs 100346 0 1 openCap, vi 36, vp 100332 0, vs 100344 0 1 openCap, vs 101145 0 2 openCap, sn, vs 101147 0 1 openCap, sn, vi 0, vi 1])], 101599⟩
set_option maxRecDepth 100000 in
theorem r78 : (e78.fitB && e78.runB (prTab false prB cutF []) Tryz.prog 100000) = true := by decide +kernel
theorem k78 : e78.Fit ∧ EntOk Tryz.prog e78 := Ent.both mixedHere (prTab_ok yes_not prB_ok (okNil)) r78

set_option maxRecDepth 100000 in
def e79 : Ent := ⟨7, 101599, [vp 100333 0, va [vi 1, vi 0]], turned [] (turned (e78.d.map fun p => (p.1, some p.2)) e78.bl), vf, [(100333, mc 84 [vp 100330 0, vs 100346 0 1 openCap, vi 37, vp 100332 0, vs 100344 0 1 openCap, vs 101145 0 2 openCap, sn, vs 101147 0 1 openCap, sn, vi 0, vi 1])], 101601⟩
set_option maxRecDepth 100000 in
theorem r79 : (e79.fitB && e79.runB (prTab false prB cutF []) Tryz.prog 100000) = true := by decide +kernel
theorem k79 : e79.Fit ∧ EntOk Tryz.prog e79 := Ent.both mixedHere (prTab_ok yes_not prB_ok (okNil)) r79

set_option maxRecDepth 100000 in
def e80 : Ent := ⟨7, 101601, [vp 100333 0, va [vi 1, vi 0]], turned [] (turned (e79.d.map fun p => (p.1, some p.2)) e79.bl), vf, [(100333, mc 84 [vp 100330 0, vs 100346 0 1 openCap, vi 38, vp 100332 0, vs 100344 0 1 openCap, vs 101145 0 2 openCap, sn, vs 101147 0 1 openCap, sn, vi 0, vi 1])], 101603⟩
set_option maxRecDepth 100000 in
theorem r80 : (e80.fitB && e80.runB (prTab false prB cutF []) Tryz.prog 100000) = true := by decide +kernel
theorem k80 : e80.Fit ∧ EntOk Tryz.prog e80 := Ent.both mixedHere (prTab_ok yes_not prB_ok (okNil)) r80

end Go.Proofs
