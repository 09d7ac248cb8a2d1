/-
  PROVED HERE: calls of the run, one by one: what each answers, and which blocks it leaves otherwise.
-/
import Derived.Test.YtmfinibgeafebaaGreatDoorEn0
set_option linter.unusedVariables false
set_option linter.unusedSimpArgs false
namespace Go.Proofs
open Go.Vai

set_option maxRecDepth 100000 in
def e102 : Ent := ⟨394, 5481, [vp 5451 0, va [vi 1, vi 0]], [(5383, mc 4 [vf, vf, vf, vf, vf, vf, vf, vf, vf, vf, vf, vf, vf, vf, vf, vf, vf, vf, vf, vf, vf, vf, vf, vf]), (5384, mc 236 [vs 5432 0 24 openCap, vs 5383 0 24 24]), (5432, mo 3 [vi 0, vi 1, vi 2, vi 3, vi 4, vi 5, vi 6, vi 7, vi 8, vi 9, vi 10, vi 11, vi 12, vi 13, vi 14, vi 15, vi 16, vi 17, vi 18, vi 19, vi 20, vi 21, vi 22, vi 23]), (5433, .map [] 0), (5434, mc 173 [vi 2, vi 8, vi 24, vi 2, vp 5384 0, vs 5442 0 2 openCap, (.map (some 5433))]), (5435, .map [] 0), (5436, mc 241 [vi 8, vp 5384 0, (.map (some 5435))]), (5439, .map [] 0), (5440, mc 241 [vi 8, vp 5384 0, (.map (some 5439))]), (5442, mo 174 [vp 5436 0, vp 5440 0]), (5443, mc 3 [vi 0, vi 0]), (5444, mc 178 [vs 5443 0 2 2]), (5445, mc 338 [pn, pn]), (5446, mc 181 [vs 5445 0 2 2]), (5447, mc 211 [pn, pn]), (5448, .map [] 0), (5449, mc 185 [vi 0, sn]), (5450, mc 133 [vp 5434 0, vp 5446 0, vp 5444 0, vp 5449 0, vs 5447 0 2 2, (.map (some 5448)), vi 0]), (5451, mc 81 [vp 5450 0, vs 5469 0 2 openCap, sn, sn, sn, vi 0, vi 0, vs 5470 0 5 5]), (5454, mc 188 [sn]), (5455, mc 190 [vp 5454 0, vn 0, vi 2]), (5456, mc 141 [vp 5450 0, vi 0, vi 0, sn, sn, vp 5455 0, pn]), (5457, mo 54 [vi 1, vn 0, vn 0, vi 0, vi 0, vi 0, vi 9, vi 0, vn 0, vi 6, vi 0, vi 0, vi 9, vi 1, vn 0, vi 6, vi 0, vi 0]), (5458, mc 87 [vp 5456 0, vp 5451 0, vi 0, vs 5457 0 3 openCap, vi 0, vi 0, vf]), (5463, mc 188 [sn]), (5464, mc 190 [vp 5463 0, vn 1, vi 2]), (5465, mc 141 [vp 5450 0, vi 1, vi 0, sn, sn, vp 5464 0, pn]), (5466, mo 54 [vi 1, vn 0, vn 0, vi 0, vi 0, vi 0, vi 9, vi 1, vn 0, vi 6, vi 0, vi 0, vi 9, vi 0, vn 0, vi 6, vi 0, vi 0]), (5467, mc 87 [vp 5465 0, vp 5451 0, vi 1, vs 5466 0 3 openCap, vi 0, vi 0, vf]), (5469, mo 85 [vp 5458 0, vp 5467 0]), (5470, mc 88 [.nilFunc, .func (.func 26) ⟨[vp 5451 0]⟩ ⟨[]⟩, .func (.func 27) ⟨[vp 5451 0]⟩ ⟨[]⟩, .func (.func 28) ⟨[vp 5451 0]⟩ ⟨[]⟩, .func (.func 29) ⟨[vp 5451 0]⟩ ⟨[]⟩])], vt, [(5451, mc 81 [vp 5450 0, vs 5469 0 2 openCap, sn, sn, sn, vi 1, vi 1, vs 5470 0 5 5]), (5456, mc 141 [vp 5450 0, vi 0, vi 1, sn, sn, vp 5455 0, pn]), (5458, mc 87 [vp 5456 0, vp 5451 0, vi 0, vs 5457 0 3 openCap, vi 1, vi 0, vf])], 5489⟩
set_option maxRecDepth 100000 in
theorem ran102 : (e102.fitB && e102.runB (prTab false prB cutF []) Tryz.prog 100000) = true := by decide +kernel
theorem k102 : e102.Fit ∧ EntOk Tryz.prog e102 := Ent.both mixedHere (prTab_ok yes_not prB_ok (okNil)) ran102

set_option maxRecDepth 100000 in
def e103 : Ent := ⟨394, 5491, [vp 5451 0, va [vi 1, vi 0]], turned [] (turned (e102.d.map fun p => (p.1, some p.2)) e102.bl), vt, [(5447, mc 211 [vp 5605 0, pn]), (5450, mc 133 [vp 5434 0, vp 5446 0, vp 5444 0, vp 5449 0, vs 5447 0 2 2, (.map (some 5448)), vi 1]), (5451, mc 81 [vp 5450 0, vs 5469 0 2 openCap, vs 5501 0 1 openCap, vs 5504 0 1 openCap, vs 5505 0 1 openCap, vi 2, vi 1, vs 5470 0 5 5]), (5456, mc 141 [vp 5450 0, vi 0, vi 1, sn, sn, vp 5455 0, vp 5511 0]), (5458, mc 87 [vp 5456 0, vp 5451 0, vi 0, vs 5457 0 3 openCap, vi 2, vi 0, vf]), (5501, mo 196 [vi 0, vi 0, vt, vi 1, vi 1, vi 0, vn 0, vi 6, vi 0]), (5504, mo 3 [vn 0]), (5505, mo 3 [vi 0]), (5511, mc 247 [vs 5561 0 2 openCap, sn, vi 1, vi 1, vi 0, vn 0, vi 6, vi 0, vi 0, vi 1, vi 1, vn 0, vn 0, vi 2, vi 0, vi 0, vi 0, .func (.func 140) ⟨[vp 5456 0]⟩ ⟨[]⟩, .func (.func 141) ⟨[vp 5456 0]⟩ ⟨[]⟩, vf, vi 0]), (5561, mo 344 [vn 0, vn 0, vi 2, vi 0, vn 0, vi 6]), (5605, mc 210 [vi 1, vi 1, vn 0, vn 0, vi 2, vi 0, vi 0, vp 5450 0, vi 0, vi 0, vi 1, .func (.func 275) ⟨[vp 5605 0]⟩ ⟨[]⟩, vi 1, vf, vi 0, vi 0, vi 0, vf, sn])], 5606⟩
set_option maxRecDepth 100000 in
theorem ran103 : (e103.fitB && e103.runB (prTab false prB cutF []) Tryz.prog 100000) = true := by decide +kernel
theorem k103 : e103.Fit ∧ EntOk Tryz.prog e103 := Ent.both mixedHere (prTab_ok yes_not prB_ok (okNil)) ran103

set_option maxRecDepth 100000 in
def e104 : Ent := ⟨394, 5607, [vp 5451 0, va [vi 2, vi 1]], turned [] (turned (e103.d.map fun p => (p.1, some p.2)) e103.bl), vt, [(5449, mc 185 [vi 1, sn]), (5451, mc 81 [vp 5450 0, vs 5469 0 2 openCap, vs 5501 0 1 openCap, vs 5504 0 1 openCap, vs 5505 0 1 openCap, vi 3, vi 1, vs 5470 0 5 5])], 5611⟩
set_option maxRecDepth 100000 in
theorem ran104 : (e104.fitB && e104.runB (prTab false prB cutF []) Tryz.prog 100000) = true := by decide +kernel
theorem k104 : e104.Fit ∧ EntOk Tryz.prog e104 := Ent.both mixedHere (prTab_ok yes_not prB_ok (okNil)) ran104

set_option maxRecDepth 100000 in
def e105 : Ent := ⟨394, 5612, [vp 5451 0, va [vi 4, vi 0]], turned [] (turned (e104.d.map fun p => (p.1, some p.2)) e104.bl), vf, [(5451, mc 81 [vp 5450 0, vs 5469 0 2 openCap, vs 5501 0 1 openCap, vs 5504 0 1 openCap, vs 5505 0 1 openCap, vi 4, vi 1, vs 5470 0 5 5])], 5622⟩
set_option maxRecDepth 100000 in
theorem ran105 : (e105.fitB && e105.runB (prTab false prB cutF []) Tryz.prog 100000) = true := by decide +kernel
theorem k105 : e105.Fit ∧ EntOk Tryz.prog e105 := Ent.both mixedHere (prTab_ok yes_not prB_ok (okNil)) ran105

set_option maxRecDepth 100000 in
def e106 : Ent := ⟨394, 5624, [vp 5451 0, va [vi 1, vi 0]], turned [] (turned (e105.d.map fun p => (p.1, some p.2)) e105.bl), vt, [(5445, mc 338 [pn, vp 5629 0]), (5451, mc 81 [vp 5450 0, vs 5469 0 2 openCap, vs 5501 0 1 openCap, vs 5504 0 1 openCap, vs 5505 0 1 openCap, vi 5, vi 1, vs 5470 0 5 5]), (5605, mc 210 [vi 1, vi 1, vn 0, vn 0, vi 2, vi 0, vi 0, vp 5450 0, vi 0, vi 0, vi 1, .func (.func 288) ⟨[vp 5605 0]⟩ ⟨[]⟩, vi 2, vf, vi 0, vi 0, vi 0, vf, sn]), (5629, mc 340 [vi 0])], 5630⟩
set_option maxRecDepth 100000 in
theorem ran106 : (e106.fitB && e106.runB (prTab false prB cutF []) Tryz.prog 100000) = true := by decide +kernel
theorem k106 : e106.Fit ∧ EntOk Tryz.prog e106 := Ent.both mixedHere (prTab_ok yes_not prB_ok (okNil)) ran106

set_option maxRecDepth 100000 in
def e107 : Ent := ⟨394, 5632, [vp 5451 0, va [vi 1, vi 0]], turned [] (turned (e106.d.map fun p => (p.1, some p.2)) e106.bl), vt, [(5383, mc 4 [vt, vf, vf, vf, vf, vf, vf, vf, vf, vf, vf, vf, vf, vf, vf, vf, vf, vf, vf, vf, vf, vf, vf, vf]), (5384, mc 236 [vs 5432 0 23 openCap, vs 5383 0 24 24]), (5432, mo 3 [vi 1, vi 3, vi 2, vi 7, vi 4, vi 5, vi 6, vi 15, vi 8, vi 9, vi 10, vi 11, vi 12, vi 13, vi 14, vi 23, vi 16, vi 17, vi 18, vi 19, vi 20, vi 21, vi 22, vi 0]), (5433, .map [⟨vi 0, vi 1, 0⟩] 1), (5439, .map [⟨va [vn 0, vn 0], vp 5695 0, 0⟩] 1), (5451, mc 81 [vp 5450 0, vs 5469 0 2 openCap, vs 5501 0 1 openCap, vs 5504 0 1 openCap, vs 5505 0 1 openCap, vi 6, vi 1, vs 5470 0 5 5]), (5605, mc 210 [vi 1, vi 1, vn 0, vn 0, vi 2, vi 0, vi 0, vp 5450 0, vi 0, vi 0, vi 1, .func (.func 298) ⟨[vp 5605 0]⟩ ⟨[]⟩, vi 3, vf, vi 0, vi 0, vi 1, vf, sn]), (5695, mc 218 [vn 0, vn 0, vs 5701 0 1 openCap, vi 0]), (5701, mo 220 [vi 0, vi 1, vi 2, vi 2, vi 0])], 5710⟩
set_option maxRecDepth 100000 in
theorem ran107 : (e107.fitB && e107.runB (prTab false prB cutF []) Tryz.prog 100000) = true := by decide +kernel
theorem k107 : e107.Fit ∧ EntOk Tryz.prog e107 := Ent.both mixedHere (prTab_ok yes_not prB_ok (okNil)) ran107

end Go.Proofs
