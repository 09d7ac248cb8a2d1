/-
  PROVED HERE: calls of the run, one by one: what each answers, and which blocks it leaves otherwise.
-/
import Derived.Test.YtoofpgianedgnaaGreatEEn0
set_option linter.unusedVariables false
set_option linter.unusedSimpArgs false
namespace Go.Proofs
open Go.Vai

set_option maxRecDepth 100000 in
def e99 : Ent := ⟨7, 101639, [vp 100333 0, va [vi 1, vi 0]], [(100263, mc 4 [vt, vt, vf, vf, vf, vf, vf, vf, vf, vf, vf, vf, vf, vf, vf, vf, vf, vf, vf, vf, vf, vf, vf, vf]), (100264, mc 207 [vs 100312 0 22 openCap, vs 100263 0 24 24]), (100312, mo 3 [vi 2, vi 3, vi 5, vi 7, vi 4, vi 11, vi 6, vi 15, vi 8, vi 19, vi 9, vi 22, vi 12, vi 13, vi 14, vi 23, vi 16, vi 17, vi 18, vi 21, vi 20, vi 10, vi 1, vi 0]), (100313, .map [⟨vi 0, vi 1, 0⟩, ⟨vi 1, vi 1, 1⟩, ⟨vi 2, vi 0, 2⟩] 3), (100314, mc 150 [vi 2, vi 8, vi 24, vi 2, vp 100264 0, vs 100322 0 2 openCap, (.map (some 100313))]), (100315, .map [] 1), (100316, mc 212 [vi 8, vp 100264 0, (.map (some 100315))]), (100319, .map [⟨va [vn 0, vn 0], vp 101519 0, 0⟩, ⟨va [vi 0, vn 0], vp 101352 0, 1⟩] 2), (100320, mc 212 [vi 8, vp 100264 0, (.map (some 100319))]), (100322, mo 151 [vp 100316 0, vp 100320 0]), (100323, mc 3 [vi 0]), (100324, mc 155 [vs 100323 0 1 1]), (100325, mc 434 [pn, pn]), (100326, mc 158 [vs 100325 0 2 2]), (100327, mc 181 [pn]), (100328, .map [] 0), (100329, mc 162 [vi 0, sn]), (100330, mc 114 [vp 100314 0, vp 100326 0, vp 100324 0, vp 100329 0, vs 100327 0 1 1, (.map (some 100328)), vi 6]), (100331, .map [] 1), (100332, mc 117 [(.map (some 100331))]), (100333, mc 84 [vp 100330 0, vs 100346 0 1 openCap, vi 56, vp 100332 0, vs 100344 0 1 openCap, vs 101145 0 2 openCap, sn, vs 101147 0 1 openCap, sn, vi 0, vi 1]), (100336, mc 215 [vs 101567 0 2 openCap]), (100337, mc 217 [vp 100336 0, vn 0, vi 2]), (100338, mc 168 [vp 100330 0, vi 0, vi 0, sn, sn, vp 100337 0, pn]), (100339, mc 171 [sn]), (100340, mc 126 [vp 100338 0, vi 0, vp 100339 0, vp 100332 0, vi 8, vn 0, vn 0, vi 0, vi 0, vi 0, .nilFunc, vi 1, vi 1, pn]), (100341, mo 62 [vi 1, vn 0, vn 0, vi 0, vi 0, vi 0, vi 4, vi 0, vi 1, vi 0, vi 5, vi 0]), (100342, mc 90 [vp 100340 0, vp 100333 0, vs 100341 0 2 openCap, vi 2, vs 101572 0 2 openCap]), (100344, mo 88 [vp 100342 0]), (100346, mo 129 [.iface 88 (vp 100342 0)]), (101145, mo 64 [vi 1, vi 0, vi 4, vi 0, vi 1, vi 0, vi 5, vi 0, vi 1, vi 0, sn, vi 1, vi 0, vi 8, vn 0, vn 0, vi 0, vi 0, vi 0, vi 1, vi 0, sn]), (101147, mo 3 [vi 1]), (101352, mc 186 [vi 0, vn 0, vs 101358 0 1 openCap, vi 0]), (101358, mo 188 [vi 1, vn 0, vi 2, vi 2, vi 0]), (101519, mc 186 [vn 0, vn 0, vs 101525 0 1 openCap, vi 0]), (101525, mo 188 [vi 0, vn 0, vi 2, vi 2, vi 0]), (101567, mo 197 [vn 0, vn 0, vn 0, vi 2, vn 0, vi 0, vn 0, vi 2]), (101572, mo 49 [vi 1, vi 0, sn, vi 1, vi 0, sn])], vf, [(100333, mc 84 [vp 100330 0, vs 100346 0 1 openCap, vi 57, vp 100332 0, vs 100344 0 1 openCap, vs 101145 0 2 openCap, sn, vs 101147 0 1 openCap, sn, vi 0, vi 1])], 101641⟩
set_option maxRecDepth 100000 in
theorem r99 : (e99.fitB && e99.runB (prTab false prB cutF []) Tryz.prog 100000) = true := by decide +kernel
theorem k99 : e99.Fit ∧ EntOk Tryz.prog e99 := Ent.both mixedHere (prTab_ok yes_not prB_ok (okNil)) r99

set_option maxRecDepth 100000 in
def e100 : Ent := ⟨7, 101641, [vp 100333 0, va [vi 1, vi 0]], turned [] (turned (e99.d.map fun p => (p.1, some p.2)) e99.bl), vf, [(100333, mc 84 [vp 100330 0, vs 100346 0 1 openCap, vi 58, vp 100332 0, vs 100344 0 1 openCap, vs 101145 0 2 openCap, sn, vs 101147 0 1 openCap, sn, vi 0, vi 1])], 101643⟩
set_option maxRecDepth 100000 in
theorem r100 : (e100.fitB && e100.runB (prTab false prB cutF []) Tryz.prog 100000) = true := by decide +kernel
theorem k100 : e100.Fit ∧ EntOk Tryz.prog e100 := Ent.both mixedHere (prTab_ok yes_not prB_ok (okNil)) r100

set_option maxRecDepth 100000 in
def e101 : Ent := ⟨7, 101643, [vp 100333 0, va [vi 1, vi 0]], turned [] (turned (e100.d.map fun p => (p.1, some p.2)) e100.bl), vf, [(100333, mc 84 [vp 100330 0, vs 100346 0 1 openCap, vi 59, vp 100332 0, vs 100344 0 1 openCap, vs 101145 0 2 openCap, sn, vs 101147 0 1 openCap, sn, vi 0, vi 1])], 101645⟩
set_option maxRecDepth 100000 in
theorem r101 : (e101.fitB && e101.runB (prTab false prB cutF []) Tryz.prog 100000) = true := by decide +kernel
theorem k101 : e101.Fit ∧ EntOk Tryz.prog e101 := Ent.both mixedHere (prTab_ok yes_not prB_ok (okNil)) r101

set_option maxRecDepth 100000 in
def e102 : Ent := ⟨7, 101645, [vp 100333 0, va [vi 1, vi 0]], turned [] (turned (e101.d.map fun p => (p.1, some p.2)) e101.bl), vf, [(100333, mc 84 [vp 100330 0, vs 100346 0 1 openCap, vi 60, vp 100332 0, vs 100344 0 1 openCap, vs 101145 0 2 openCap, sn, vs 101147 0 1 openCap, sn, vi 0, vi 1])], 101647⟩
set_option maxRecDepth 100000 in
theorem r102 : (e102.fitB && e102.runB (prTab false prB cutF []) Tryz.prog 100000) = true := by decide +kernel
theorem k102 : e102.Fit ∧ EntOk Tryz.prog e102 := Ent.both mixedHere (prTab_ok yes_not prB_ok (okNil)) r102

set_option maxRecDepth 100000 in
def e103 : Ent := ⟨6, 101675, [va [sn, sn, vi 0, vi 0, vi 0, vi 0]], [], vv [pn, vi 2], [], 101677⟩
set_option maxRecDepth 100000 in
theorem r103 : (e103.fitB && e103.runB (prTab false prB cutF []) Tryz.prog 100000) = true := by decide +kernel
theorem k103 : e103.Fit ∧ EntOk Tryz.prog e103 := Ent.both mixedHere (prTab_ok yes_not prB_ok (okNil)) r103

set_option maxRecDepth 100000 in
def e104 : Ent := ⟨7, 101769, [pn, va [vi 1, vi 0]], [], vf, [], 101770⟩
set_option maxRecDepth 100000 in
theorem r104 : (e104.fitB && e104.runB (prTab false prB cutF []) Tryz.prog 100000) = true := by decide +kernel
theorem k104 : e104.Fit ∧ EntOk Tryz.prog e104 := Ent.both mixedHere (prTab_ok yes_not prB_ok (okNil)) r104

end Go.Proofs
