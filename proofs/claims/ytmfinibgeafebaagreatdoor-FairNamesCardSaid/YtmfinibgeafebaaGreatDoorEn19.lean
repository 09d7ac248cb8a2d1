/-
  PROVED HERE: calls of the run, one by one: what each answers, and which blocks it leaves otherwise.
-/
import Derived.Test.YtmfinibgeafebaaGreatDoorEn0
set_option linter.unusedVariables false
set_option linter.unusedSimpArgs false
namespace Go.Proofs
open Go.Vai

set_option maxRecDepth 100000 in
def e108 : Ent := ⟨394, 5711, [vp 5451 0, va [vi 2, vi 1]], [(5383, mc 4 [vt, vf, vf, vf, vf, vf, vf, vf, vf, vf, vf, vf, vf, vf, vf, vf, vf, vf, vf, vf, vf, vf, vf, vf]), (5384, mc 236 [vs 5432 0 23 openCap, vs 5383 0 24 24]), (5432, mo 3 [vi 1, vi 3, vi 2, vi 7, vi 4, vi 5, vi 6, vi 15, vi 8, vi 9, vi 10, vi 11, vi 12, vi 13, vi 14, vi 23, vi 16, vi 17, vi 18, vi 19, vi 20, vi 21, vi 22, vi 0]), (5433, .map [⟨vi 0, vi 1, 0⟩] 1), (5434, mc 173 [vi 2, vi 8, vi 24, vi 2, vp 5384 0, vs 5442 0 2 openCap, (.map (some 5433))]), (5435, .map [] 0), (5436, mc 241 [vi 8, vp 5384 0, (.map (some 5435))]), (5439, .map [⟨va [vn 0, vn 0], vp 5695 0, 0⟩] 1), (5440, mc 241 [vi 8, vp 5384 0, (.map (some 5439))]), (5442, mo 174 [vp 5436 0, vp 5440 0]), (5443, mc 3 [vi 0, vi 0]), (5444, mc 178 [vs 5443 0 2 2]), (5445, mc 338 [pn, vp 5629 0]), (5446, mc 181 [vs 5445 0 2 2]), (5447, mc 211 [vp 5605 0, pn]), (5448, .map [] 0), (5449, mc 185 [vi 1, sn]), (5450, mc 133 [vp 5434 0, vp 5446 0, vp 5444 0, vp 5449 0, vs 5447 0 2 2, (.map (some 5448)), vi 1]), (5451, mc 81 [vp 5450 0, vs 5469 0 2 openCap, vs 5501 0 1 openCap, vs 5504 0 1 openCap, vs 5505 0 1 openCap, vi 6, vi 1, vs 5470 0 5 5]), (5454, mc 188 [sn]), (5455, mc 190 [vp 5454 0, vn 0, vi 2]), (5456, mc 141 [vp 5450 0, vi 0, vi 1, sn, sn, vp 5455 0, vp 5511 0]), (5457, mo 54 [vi 1, vn 0, vn 0, vi 0, vi 0, vi 0, vi 9, vi 0, vn 0, vi 6, vi 0, vi 0, vi 9, vi 1, vn 0, vi 6, vi 0, vi 0]), (5458, mc 87 [vp 5456 0, vp 5451 0, vi 0, vs 5457 0 3 openCap, vi 2, vi 0, vf]), (5463, mc 188 [sn]), (5464, mc 190 [vp 5463 0, vn 1, vi 2]), (5465, mc 141 [vp 5450 0, vi 1, vi 0, sn, sn, vp 5464 0, pn]), (5466, mo 54 [vi 1, vn 0, vn 0, vi 0, vi 0, vi 0, vi 9, vi 1, vn 0, vi 6, vi 0, vi 0, vi 9, vi 0, vn 0, vi 6, vi 0, vi 0]), (5467, mc 87 [vp 5465 0, vp 5451 0, vi 1, vs 5466 0 3 openCap, vi 0, vi 0, vf]), (5469, mo 85 [vp 5458 0, vp 5467 0]), (5470, mc 88 [.nilFunc, .func (.func 26) ⟨[vp 5451 0]⟩ ⟨[]⟩, .func (.func 27) ⟨[vp 5451 0]⟩ ⟨[]⟩, .func (.func 28) ⟨[vp 5451 0]⟩ ⟨[]⟩, .func (.func 29) ⟨[vp 5451 0]⟩ ⟨[]⟩]), (5501, mo 196 [vi 0, vi 0, vt, vi 1, vi 1, vi 0, vn 0, vi 6, vi 0]), (5504, mo 3 [vn 0]), (5505, mo 3 [vi 0]), (5511, mc 247 [vs 5561 0 2 openCap, sn, vi 1, vi 1, vi 0, vn 0, vi 6, vi 0, vi 0, vi 1, vi 1, vn 0, vn 0, vi 2, vi 0, vi 0, vi 0, .func (.func 140) ⟨[vp 5456 0]⟩ ⟨[]⟩, .func (.func 141) ⟨[vp 5456 0]⟩ ⟨[]⟩, vf, vi 0]), (5561, mo 344 [vn 0, vn 0, vi 2, vi 0, vn 0, vi 6]), (5605, mc 210 [vi 1, vi 1, vn 0, vn 0, vi 2, vi 0, vi 0, vp 5450 0, vi 0, vi 0, vi 1, .func (.func 298) ⟨[vp 5605 0]⟩ ⟨[]⟩, vi 3, vf, vi 0, vi 0, vi 1, vf, sn]), (5629, mc 340 [vi 0]), (5695, mc 218 [vn 0, vn 0, vs 5701 0 1 openCap, vi 0]), (5701, mo 220 [vi 0, vi 1, vi 2, vi 2, vi 0])], vt, [(5449, mc 185 [vi 2, sn]), (5451, mc 81 [vp 5450 0, vs 5469 0 2 openCap, vs 5501 0 1 openCap, vs 5504 0 1 openCap, vs 5505 0 1 openCap, vi 7, vi 1, vs 5470 0 5 5])], 5715⟩
set_option maxRecDepth 100000 in
theorem ran108 : (e108.fitB && e108.runB (prTab false prB cutF []) Tryz.prog 100000) = true := by decide +kernel
theorem k108 : e108.Fit ∧ EntOk Tryz.prog e108 := Ent.both mixedHere (prTab_ok yes_not prB_ok (okNil)) ran108

set_option maxRecDepth 100000 in
def e109 : Ent := ⟨394, 5716, [vp 5451 0, va [vi 4, vi 0]], turned [] (turned (e108.d.map fun p => (p.1, some p.2)) e108.bl), vf, [(5451, mc 81 [vp 5450 0, vs 5469 0 2 openCap, vs 5501 0 1 openCap, vs 5504 0 1 openCap, vs 5505 0 1 openCap, vi 8, vi 1, vs 5470 0 5 5])], 5752⟩
set_option maxRecDepth 100000 in
theorem ran109 : (e109.fitB && e109.runB (prTab false prB cutF []) Tryz.prog 100000) = true := by decide +kernel
theorem k109 : e109.Fit ∧ EntOk Tryz.prog e109 := Ent.both mixedHere (prTab_ok yes_not prB_ok (okNil)) ran109

set_option maxRecDepth 100000 in
def e110 : Ent := ⟨19, 5757, [va [sn, sn, vi 0, vi 0, vi 0, vi 0]], [], vv [pn, vi 2], [], 5759⟩
set_option maxRecDepth 100000 in
theorem ran110 : (e110.fitB && e110.runB (prTab false prB cutF []) Tryz.prog 100000) = true := by decide +kernel
theorem k110 : e110.Fit ∧ EntOk Tryz.prog e110 := Ent.both mixedHere (prTab_ok yes_not prB_ok (okNil)) ran110

end Go.Proofs
