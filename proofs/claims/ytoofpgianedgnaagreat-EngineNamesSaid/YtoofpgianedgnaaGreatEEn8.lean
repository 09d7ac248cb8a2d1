/-
  PROVED HERE: calls of the run, one by one: what each answers, and which blocks it leaves otherwise.
-/
import Derived.Test.YtoofpgianedgnaaGreatEEn0
set_option linter.unusedVariables false
set_option linter.unusedSimpArgs false
namespace Go.Proofs
open Go.Vai

set_option maxRecDepth 100000 in
def e63 : Ent := ⟨7, 101419, [vp 100333 0, va [vi 1, vi 0]], [(100263, mc 4 [vt, vt, vf, vf, vf, vf, vf, vf, vf, vf, vf, vf, vf, vf, vf, vf, vf, vf, vf, vf, vf, vf, vf, vf]), (100264, mc 207 [vs 100312 0 22 openCap, vs 100263 0 24 24]), (100312, mo 3 [vi 2, vi 3, vi 5, vi 7, vi 4, vi 11, vi 6, vi 15, vi 8, vi 19, vi 9, vi 22, vi 12, vi 13, vi 14, vi 23, vi 16, vi 17, vi 18, vi 21, vi 20, vi 10, vi 1, vi 0]), (100313, .map [⟨vi 0, vi 1, 0⟩, ⟨vi 1, vi 1, 1⟩, ⟨vi 2, vi 0, 2⟩] 3), (100314, mc 150 [vi 2, vi 8, vi 24, vi 2, vp 100264 0, vs 100322 0 2 openCap, (.map (some 100313))]), (100315, .map [] 1), (100316, mc 212 [vi 8, vp 100264 0, (.map (some 100315))]), (100319, .map [⟨va [vn 0, vn 0], vp 100552 0, 0⟩, ⟨va [vi 0, vn 0], vp 101352 0, 1⟩] 2), (100320, mc 212 [vi 8, vp 100264 0, (.map (some 100319))]), (100322, mo 151 [vp 100316 0, vp 100320 0]), (100323, mc 3 [vi 0]), (100324, mc 155 [vs 100323 0 1 1]), (100325, mc 434 [pn, pn]), (100326, mc 158 [vs 100325 0 2 2]), (100327, mc 181 [vp 101415 0]), (100328, .map [] 0), (100329, mc 162 [vi 0, sn]), (100330, mc 114 [vp 100314 0, vp 100326 0, vp 100324 0, vp 100329 0, vs 100327 0 1 1, (.map (some 100328)), vi 6]), (100331, .map [] 1), (100332, mc 117 [(.map (some 100331))]), (100333, mc 84 [vp 100330 0, vs 100346 0 1 openCap, vi 20, vp 100332 0, vs 100344 0 1 openCap, vs 101145 0 2 openCap, sn, vs 101147 0 1 openCap, sn, vi 0, vi 1]), (100336, mc 215 [vs 101393 0 1 openCap]), (100337, mc 217 [vp 100336 0, vn 0, vi 2]), (100338, mc 168 [vp 100330 0, vi 0, vi 1, vs 101003 0 1 openCap, vs 101379 0 1 openCap, vp 100337 0, vp 101075 0]), (100339, mc 171 [sn]), (100340, mc 126 [vp 100338 0, vi 0, vp 100339 0, vp 100332 0, vi 8, vn 0, vn 0, vi 0, vi 0, vi 0, .func (.func 257) ⟨[vp 100340 0]⟩ ⟨[]⟩, vi 1, vi 1, pn]), (100341, mo 62 [vi 1, vn 0, vn 0, vi 0, vi 0, vi 0, vi 4, vi 0, vi 1, vi 0, vi 5, vi 0]), (100342, mc 90 [vp 100340 0, vp 100333 0, vs 100341 0 2 openCap, vi 2, vs 101041 0 1 openCap]), (100344, mo 88 [vp 100342 0]), (100346, mo 129 [.iface 88 (vp 100342 0)]), (100552, mc 186 [vn 0, vn 0, vs 100558 0 1 openCap, vi 0]), (100558, mo 188 [vi 0, vi 1, vi 2, vi 2, vi 0]), (101003, mo 197 [vi 1, vi 0, vi 1, vi 6]), (101041, mo 49 [vi 1, vi 0, sn]), (101075, mc 380 [sn, vs 101077 8 1 openCap, vi 3, vi 0, vi 0, vi 0, vi 0, vi 0, vi 0, vi 3, vi 1, vn 0, vn 0, vi 0, vi 0, vn 0, vi 0, .func (.func 293) ⟨[vp 100338 0]⟩ ⟨[]⟩, .func (.func 266) ⟨[]⟩ ⟨[]⟩, vt, vi 0]), (101077, mo 197 [vi 1, vi 0, vi 1, vi 6, vi 1, vi 0, vn 0, vi 2, vi 1, vn 0, vn 0, vi 2]), (101145, mo 64 [vi 1, vi 0, vi 4, vi 0, vi 1, vi 0, vi 5, vi 0, vi 1, vi 0, sn, vi 1, vi 0, vi 8, vn 0, vn 0, vi 0, vi 0, vi 0, vi 1, vi 0, sn]), (101147, mo 3 [vi 1]), (101352, mc 186 [vi 0, vn 0, vs 101358 0 1 openCap, vi 0]), (101358, mo 188 [vi 1, vn 0, vi 2, vi 2, vi 0]), (101379, mo 197 [vi 1, vn 0, vn 0, vi 2, vi 0, vi 0, vi 0, vi 0]), (101393, mo 197 [vn 0, vi 0, vn 0, vi 2]), (101415, mc 180 [vi 3, vi 1, vn 0, vn 0, vi 0, vi 0, vn 0, vp 100330 0, vi 0, vi 5, vi 1, .func (.func 341) ⟨[vp 101415 0]⟩ ⟨[]⟩, vi 1, vf, vi 0, vi 0, vi 0, vf, sn])], vt, [(100325, mc 434 [pn, vp 101425 0]), (100333, mc 84 [vp 100330 0, vs 100346 0 1 openCap, vi 21, vp 100332 0, vs 100344 0 1 openCap, vs 101145 0 2 openCap, sn, vs 101147 0 1 openCap, sn, vi 0, vi 1]), (101415, mc 180 [vi 3, vi 1, vn 0, vn 0, vi 0, vi 0, vn 0, vp 100330 0, vi 0, vi 5, vi 1, .func (.func 353) ⟨[vp 101415 0]⟩ ⟨[]⟩, vi 2, vf, vi 0, vi 0, vi 0, vf, sn]), (101425, mc 436 [vi 0])], 101429⟩
set_option maxRecDepth 100000 in
theorem r63 : (e63.fitB && e63.runB (prTab false prB cutF []) Tryz.prog 100000) = true := by decide +kernel
theorem k63 : e63.Fit ∧ EntOk Tryz.prog e63 := Ent.both mixedHere (prTab_ok yes_not prB_ok (okNil)) r63

set_option maxRecDepth 100000 in
def e64 : Ent := ⟨7, 101429, [vp 100333 0, va [vi 1, vi 0]], turned [] (turned (e63.d.map fun p => (p.1, some p.2)) e63.bl), vt, [(100319, .map [⟨va [vn 0, vn 0], vp 101519 0, 0⟩, ⟨va [vi 0, vn 0], vp 101352 0, 1⟩] 2), (100333, mc 84 [vp 100330 0, vs 100346 0 1 openCap, vi 22, vp 100332 0, vs 100344 0 1 openCap, vs 101145 0 2 openCap, sn, vs 101147 0 1 openCap, sn, vi 0, vi 1]), (101415, mc 180 [vi 3, vi 1, vn 0, vn 0, vi 0, vi 0, vn 0, vp 100330 0, vi 0, vi 5, vi 1, .func (.func 362) ⟨[vp 101415 0]⟩ ⟨[]⟩, vi 3, vf, vi 0, vi 0, vi 1, vf, sn]), (101519, mc 186 [vn 0, vn 0, vs 101525 0 1 openCap, vi 0]), (101525, mo 188 [vi 0, vn 0, vi 2, vi 2, vi 0])], 101537⟩
set_option maxRecDepth 100000 in
theorem r64 : (e64.fitB && e64.runB (prTab false prB cutF []) Tryz.prog 100000) = true := by decide +kernel
theorem k64 : e64.Fit ∧ EntOk Tryz.prog e64 := Ent.both mixedHere (prTab_ok yes_not prB_ok (okNil)) r64

set_option maxRecDepth 100000 in
def e65 : Ent := ⟨7, 101537, [vp 100333 0, va [vi 1, vi 0]], turned [(100552, none), (100558, none)] (turned (e64.d.map fun p => (p.1, some p.2)) e64.bl), vt, [(100325, mc 434 [pn, pn]), (100327, mc 181 [pn]), (100333, mc 84 [vp 100330 0, vs 100346 0 1 openCap, vi 23, vp 100332 0, vs 100344 0 1 openCap, vs 101145 0 2 openCap, sn, vs 101147 0 1 openCap, sn, vi 0, vi 1]), (100336, mc 215 [vs 101567 0 2 openCap]), (100338, mc 168 [vp 100330 0, vi 0, vi 0, sn, sn, vp 100337 0, pn]), (100340, mc 126 [vp 100338 0, vi 0, vp 100339 0, vp 100332 0, vi 8, vn 0, vn 0, vi 0, vi 0, vi 0, .nilFunc, vi 1, vi 1, pn]), (100342, mc 90 [vp 100340 0, vp 100333 0, vs 100341 0 2 openCap, vi 2, vs 101572 0 2 openCap]), (101041, (.dead 3 49)), (101075, mc 380 [sn, vs 101077 8 0 anyCap, vi 3, vi 0, vi 0, vi 0, vi 0, vi 0, vi 0, vi 3, vi 1, vn 0, vn 0, vi 0, vi 0, vn 0, vi 0, .func (.func 293) ⟨[vp 100338 0]⟩ ⟨[]⟩, .func (.func 266) ⟨[]⟩ ⟨[]⟩, vt, vi 1]), (101415, mc 180 [vi 3, vi 1, vn 0, vn 0, vi 0, vi 0, vn 0, vp 100330 0, vi 0, vi 5, vi 1, .func (.func 362) ⟨[vp 101415 0]⟩ ⟨[]⟩, vi 3, vf, vi 0, vi 0, vi 1, vt, sn]), (101567, mo 197 [vn 0, vn 0, vn 0, vi 2, vn 0, vi 0, vn 0, vi 2]), (101572, mo 49 [vi 1, vi 0, sn, vi 1, vi 0, sn])], 101573⟩
set_option maxRecDepth 100000 in
theorem r65 : (e65.fitB && e65.runB (prTab false prB cutF []) Tryz.prog 100000) = true := by decide +kernel
theorem k65 : e65.Fit ∧ EntOk Tryz.prog e65 := Ent.both mixedHere (prTab_ok yes_not prB_ok (okNil)) r65

set_option maxRecDepth 100000 in
def e66 : Ent := ⟨7, 101573, [vp 100333 0, va [vi 1, vi 0]], turned [(101003, none), (101041, none), (101075, none), (101077, none), (101379, none), (101393, none), (101415, none), (101425, none)] (turned (e65.d.map fun p => (p.1, some p.2)) e65.bl), vf, [(100333, mc 84 [vp 100330 0, vs 100346 0 1 openCap, vi 24, vp 100332 0, vs 100344 0 1 openCap, vs 101145 0 2 openCap, sn, vs 101147 0 1 openCap, sn, vi 0, vi 1])], 101575⟩
set_option maxRecDepth 100000 in
theorem r66 : (e66.fitB && e66.runB (prTab false prB cutF []) Tryz.prog 100000) = true := by decide +kernel
theorem k66 : e66.Fit ∧ EntOk Tryz.prog e66 := Ent.both mixedHere (prTab_ok yes_not prB_ok (okNil)) r66

set_option maxRecDepth 100000 in
def e67 : Ent := ⟨7, 101575, [vp 100333 0, va [vi 1, vi 0]], turned [] (turned (e66.d.map fun p => (p.1, some p.2)) e66.bl), vf, [(100333, mc 84 [vp 100330 0, vs 100346 0 1 openCap, vi 25, vp 100332 0, vs 100344 0 1 openCap, vs 101145 0 2 openCap, sn, vs 101147 0 1 openCap, sn, vi 0, vi 1])], 101577⟩
set_option maxRecDepth 100000 in
theorem r67 : (e67.fitB && e67.runB (prTab false prB cutF []) Tryz.prog 100000) = true := by decide +kernel
theorem k67 : e67.Fit ∧ EntOk Tryz.prog e67 := Ent.both mixedHere (prTab_ok yes_not prB_ok (okNil)) r67

set_option maxRecDepth 100000 in
def e68 : Ent := ⟨7, 101577, [vp 100333 0, va [vi 1, vi 0]], turned [] (turned (e67.d.map fun p => (p.1, some p.2)) e67.bl), vf, [(100333, mc 84 [vp 100330 0, vs 100346 0 1 openCap, vi 26, vp 100332 0, vs 100344 0 1 openCap, vs 101145 0 2 openCap, sn, vs 101147 0 1 openCap, sn, vi 0, vi 1])], 101579⟩
set_option maxRecDepth 100000 in
theorem r68 : (e68.fitB && e68.runB (prTab false prB cutF []) Tryz.prog 100000) = true := by decide +kernel
theorem k68 : e68.Fit ∧ EntOk Tryz.prog e68 := Ent.both mixedHere (prTab_ok yes_not prB_ok (okNil)) r68

set_option maxRecDepth 100000 in
def e69 : Ent := ⟨7, 101579, [vp 100333 0, va [vi 1, vi 0]], turned [] (turned (e68.d.map fun p => (p.1, some p.2)) e68.bl), vf, [(100333, mc 84 [vp 100330 0, vs 100346 0 1 openCap, vi 27, vp 100332 0, vs 100344 0 1 openCap, vs 101145 0 2 openCap, sn, vs 101147 0 1 openCap, sn, vi 0, vi 1])], 101581⟩
set_option maxRecDepth 100000 in
theorem r69 : (e69.fitB && e69.runB (prTab false prB cutF []) Tryz.prog 100000) = true := by decide +kernel
theorem k69 : e69.Fit ∧ EntOk Tryz.prog e69 := Ent.both mixedHere (prTab_ok yes_not prB_ok (okNil)) r69

set_option maxRecDepth 100000 in
def e70 : Ent := ⟨7, 101581, [vp 100333 0, va [vi 1, vi 0]], turned [] (turned (e69.d.map fun p => (p.1, some p.2)) e69.bl), vf, [(100333, mc 84 [vp 100330 0, vs 100346 0 1 openCap, vi 28, vp 100332 0, vs 100344 0 1 openCap, vs 101145 0 2 openCap, sn, vs 101147 0 1 openCap, sn, vi 0, vi 1])], 101583⟩
set_option maxRecDepth 100000 in
theorem r70 : (e70.fitB && e70.runB (prTab false prB cutF []) Tryz.prog 100000) = true := by decide +kernel
theorem k70 : e70.Fit ∧ EntOk Tryz.prog e70 := Ent.both mixedHere (prTab_ok yes_not prB_ok (okNil)) r70

set_option maxRecDepth 100000 in
def e71 : Ent := ⟨7, 101583, [vp 100333 0, va [vi 1, vi 0]], turned [] (turned (e70.d.map fun p => (p.1, some p.2)) e70.bl), vf, [(100333, mc 84 [vp 100330 0, vs 100346 0 1 openCap, vi 29, vp 100332 0, vs 100344 0 1 openCap, vs 101145 0 2 openCap, sn, vs 101147 0 1 openCap, sn, vi 0, vi 1])], 101585⟩
set_option maxRecDepth 100000 in
theorem r71 : (e71.fitB && e71.runB (prTab false prB cutF []) Tryz.prog 100000) = true := by decide +kernel
theorem k71 : e71.Fit ∧ EntOk Tryz.prog e71 := Ent.both mixedHere (prTab_ok yes_not prB_ok (okNil)) r71

end Go.Proofs
