/-
  PROVED HERE: calls of the run, one by one: what each answers, and which blocks it leaves otherwise.
-/
import Derived.Test.YtoofpgianedgnaaGreatDoorDEn0
set_option linter.unusedVariables false
set_option linter.unusedSimpArgs false
namespace Go.Proofs
open Go.Vai

set_option maxRecDepth 100000 in
def e56 : Ent := ⟨449, 1995, [vp 1876 0, va [vi 4, vi 0]], [(1806, mc 4 [vf, vf, vf, vf, vf, vf, vf, vf, vf, vf, vf, vf, vf, vf, vf, vf, vf, vf, vf, vf, vf, vf, vf, vf]), (1807, mc 260 [vs 1855 0 24 openCap, vs 1806 0 24 24]), (1855, mo 3 [vi 0, vi 1, vi 2, vi 3, vi 4, vi 5, vi 6, vi 7, vi 8, vi 9, vi 10, vi 11, vi 12, vi 13, vi 14, vi 15, vi 16, vi 17, vi 18, vi 19, vi 20, vi 21, vi 22, vi 23]), (1856, .map [] 0), (1857, mc 170 [vi 2, vi 8, vi 24, vi 2, vp 1807 0, vs 1865 0 2 openCap, (.map (some 1856))]), (1858, .map [] 0), (1859, mc 265 [vi 8, vp 1807 0, (.map (some 1858))]), (1862, .map [] 0), (1863, mc 265 [vi 8, vp 1807 0, (.map (some 1862))]), (1865, mo 171 [vp 1859 0, vp 1863 0]), (1866, mc 3 [vi 0]), (1867, mc 175 [vs 1866 0 1 1]), (1868, mc 320 [pn, pn]), (1869, mc 178 [vs 1868 0 2 2]), (1870, mc 274 [pn]), (1871, .map [] 0), (1872, mc 182 [vi 4, sn]), (1873, mc 114 [vp 1857 0, vp 1869 0, vp 1867 0, vp 1872 0, vs 1870 0 1 1, (.map (some 1871)), vi 0]), (1874, .map [] 0), (1875, mc 137 [(.map (some 1874))]), (1876, mc 217 [vp 1873 0, vs 1889 0 1 openCap, vi 11, vp 1875 0, vs 1887 0 1 openCap, vs 1987 0 1 openCap, sn, vs 1989 0 1 openCap, sn, vi 0, vi 1]), (1879, mc 268 [sn]), (1880, mc 270 [vp 1879 0, vn 0, vi 2]), (1881, mc 144 [vp 1873 0, vi 0, vi 0, sn, sn, vp 1880 0, vp 1980 0]), (1882, mc 140 [sn]), (1883, mc 93 [vp 1881 0, vi 0, vp 1882 0, vp 1875 0, vi 8, vn 0, vn 0, vi 0, vi 0, vi 0, .func (.func 71) ⟨[vp 1883 0]⟩ ⟨[]⟩, vi 1, vi 1, vp 1977 0]), (1884, mo 36 [vi 1, vn 0, vn 0, vi 0, vi 0, vi 0, vi 9, vi 0, vn 0, vi 3, vi 0, vi 0]), (1885, mc 221 [vp 1883 0, vp 1876 0, vs 1884 0 2 openCap, vi 2, sn]), (1887, mo 218 [vp 1885 0]), (1889, mo 522 [.iface 218 (vp 1885 0)]), (1977, mc 47 [vi 1, vi 0, vi 8, vn 0, vn 0, vi 0, vi 0, vi 0, vi 1, vi 0, sn]), (1980, mc 159 [sn, sn, vi 3, vi 0, vi 0, vi 0, vi 0, vi 0, vi 0, vi 0, vi 0, vi 0, vi 0, vi 0, vi 0, vi 0, vi 0, .func (.func 128) ⟨[vp 1881 0]⟩ ⟨[]⟩, .func (.func 80) ⟨[]⟩ ⟨[]⟩, vf, vi 1]), (1987, mo 47 [vi 1, vi 0, vi 8, vn 0, vn 0, vi 0, vi 0, vi 0, vi 1, vi 0, sn]), (1989, mo 3 [vi 1])], vf, [(1876, mc 217 [vp 1873 0, vs 1889 0 1 openCap, vi 12, vp 1875 0, vs 1887 0 1 openCap, vs 1987 0 1 openCap, sn, vs 1989 0 1 openCap, sn, vi 0, vi 1])], 2006⟩
set_option maxRecDepth 100000 in
theorem r56 : (e56.fitB && e56.runB (prTab false prB cutF []) Tryz.prog 100000) = true := by decide +kernel
theorem k56 : e56.Fit ∧ EntOk Tryz.prog e56 := Ent.both mixedHere (prTab_ok yes_not prB_ok (okNil)) r56

set_option maxRecDepth 100000 in
def e57 : Ent := ⟨449, 2008, [vp 1876 0, va [vi 1, vi 0]], turned [] (turned (e56.d.map fun p => (p.1, some p.2)) e56.bl), vt, [(1876, mc 217 [vp 1873 0, vs 1889 0 1 openCap, vi 13, vp 1875 0, vs 1887 0 1 openCap, vs 1987 0 1 openCap, sn, vs 1989 0 1 openCap, sn, vi 0, vi 1]), (1881, mc 144 [vp 1873 0, vi 0, vi 0, sn, sn, vp 1880 0, pn]), (1883, mc 93 [vp 1881 0, vi 0, vp 1882 0, vp 1875 0, vi 8, vn 0, vn 0, vi 0, vi 0, vi 0, .nilFunc, vi 1, vi 1, pn]), (1885, mc 221 [vp 1883 0, vp 1876 0, vs 1884 0 2 openCap, vi 2, vs 2018 0 1 openCap]), (2018, mo 29 [vi 1, vi 0, sn])], 2019⟩
set_option maxRecDepth 100000 in
theorem r57 : (e57.fitB && e57.runB (prTab false prB cutF []) Tryz.prog 100000) = true := by decide +kernel
theorem k57 : e57.Fit ∧ EntOk Tryz.prog e57 := Ent.both mixedHere (prTab_ok yes_not prB_ok (okNil)) r57

set_option maxRecDepth 100000 in
def e58 : Ent := ⟨449, 2019, [vp 1876 0, va [vi 2, vi 1]], turned [(1977, none), (1980, none)] (turned (e57.d.map fun p => (p.1, some p.2)) e57.bl), vt, [(1872, mc 182 [vi 5, sn]), (1876, mc 217 [vp 1873 0, vs 1889 0 1 openCap, vi 14, vp 1875 0, vs 1887 0 1 openCap, vs 1987 0 1 openCap, sn, vs 1989 0 1 openCap, sn, vi 0, vi 1])], 2024⟩
set_option maxRecDepth 100000 in
theorem r58 : (e58.fitB && e58.runB (prTab false prB cutF []) Tryz.prog 100000) = true := by decide +kernel
theorem k58 : e58.Fit ∧ EntOk Tryz.prog e58 := Ent.both mixedHere (prTab_ok yes_not prB_ok (okNil)) r58

set_option maxRecDepth 100000 in
def e59 : Ent := ⟨449, 2024, [vp 1876 0, va [vi 4, vi 0]], turned [] (turned (e58.d.map fun p => (p.1, some p.2)) e58.bl), vf, [(1876, mc 217 [vp 1873 0, vs 1889 0 1 openCap, vi 15, vp 1875 0, vs 1887 0 1 openCap, vs 1987 0 1 openCap, sn, vs 1989 0 1 openCap, sn, vi 0, vi 1])], 2035⟩
set_option maxRecDepth 100000 in
theorem r59 : (e59.fitB && e59.runB (prTab false prB cutF []) Tryz.prog 100000) = true := by decide +kernel
theorem k59 : e59.Fit ∧ EntOk Tryz.prog e59 := Ent.both mixedHere (prTab_ok yes_not prB_ok (okNil)) r59

end Go.Proofs
