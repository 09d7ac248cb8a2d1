/-
  PROVED HERE: calls of the run, one by one: what each answers, and which blocks it leaves otherwise.
-/
import Derived.Test.YtoofpgianedgnaaGreatDoorDEn0
set_option linter.unusedVariables false
set_option linter.unusedSimpArgs false
namespace Go.Proofs
open Go.Vai

set_option maxRecDepth 100000 in
def e40 : Ent := ⟨446, 1542, [vp 132 0, va [vi 2, vi 1]], [(64, mc 4 [vt, vt, vf, vf, vf, vf, vf, vf, vf, vf, vf, vf, vf, vf, vf, vf, vf, vf, vf, vf, vf, vf, vf, vf]), (65, mc 260 [vs 113 0 22 openCap, vs 64 0 24 24]), (113, mo 3 [vi 2, vi 3, vi 5, vi 7, vi 4, vi 11, vi 6, vi 15, vi 8, vi 9, vi 10, vi 22, vi 12, vi 13, vi 14, vi 23, vi 16, vi 17, vi 18, vi 19, vi 20, vi 21, vi 1, vi 0]), (114, .map [⟨vi 0, vi 1, 0⟩, ⟨vi 1, vi 1, 1⟩] 2), (115, mc 170 [vi 2, vi 8, vi 24, vi 2, vp 65 0, vs 123 0 2 openCap, (.map (some 114))]), (116, .map [] 0), (117, mc 265 [vi 8, vp 65 0, (.map (some 116))]), (120, .map [⟨va [vn 0, vn 0], vp 1527 0, 0⟩, ⟨va [vi 0, vn 0], vp 1156 0, 1⟩] 2), (121, mc 265 [vi 8, vp 65 0, (.map (some 120))]), (123, mo 171 [vp 117 0, vp 121 0]), (124, mc 3 [vi 0]), (125, mc 175 [vs 124 0 1 1]), (126, mc 320 [pn, vp 1365 0]), (127, mc 178 [vs 126 0 2 2]), (128, mc 274 [vp 1287 0]), (129, .map [] 0), (130, mc 182 [vi 13, sn]), (131, mc 114 [vp 115 0, vp 127 0, vp 125 0, vp 130 0, vs 128 0 1 1, (.map (some 129)), vi 4]), (132, mc 198 [vp 131 0, vs 141 0 1 openCap, vs 866 0 3 openCap, vs 869 0 2 openCap, vs 870 0 2 openCap, vi 40, vi 1, vs 142 0 5 5]), (135, mc 268 [vs 1265 0 1 openCap]), (136, mc 270 [vp 135 0, vn 0, vi 2]), (137, mc 144 [vp 131 0, vi 0, vi 1, vs 783 0 1 openCap, vs 1251 0 1 openCap, vp 136 0, vp 873 0]), (138, mo 36 [vi 1, vn 0, vn 0, vi 0, vi 0, vi 0, vi 9, vi 0, vn 0, vi 3, vi 0, vi 0]), (139, mc 201 [vp 137 0, vp 132 0, vi 0, vs 138 0 2 openCap, vi 2, vi 1, vf]), (141, mo 199 [vp 139 0]), (142, mc 190 [.nilFunc, .func (.func 96) ⟨[vp 132 0]⟩ ⟨[]⟩, .func (.func 97) ⟨[vp 132 0]⟩ ⟨[]⟩, .func (.func 98) ⟨[vp 132 0]⟩ ⟨[]⟩, .func (.func 99) ⟨[vp 132 0]⟩ ⟨[]⟩]), (783, mo 83 [vi 1, vi 0, vn 0, vi 3]), (866, mo 326 [vi 0, vi 0, vt, vi 1, vi 1, vi 0, vn 0, vi 3, vi 0, vi 0, vi 0, vf, vi 0, vi 0, vi 0, vi 0, vi 0, vi 1, vi 1, vi 0, vt, vi 3, vi 1, vi 0, vi 0, vi 0, vi 0]), (869, mo 3 [vi 18, vi 30]), (870, mo 3 [vi 1, vi 1]), (873, mc 159 [sn, vs 875 4 1 openCap, vi 3, vi 1, vi 0, vi 0, vi 0, vi 0, vi 0, vi 3, vi 1, vn 0, vn 0, vi 0, vi 0, vn 0, vi 0, .func (.func 128) ⟨[vp 137 0]⟩ ⟨[]⟩, .func (.func 80) ⟨[]⟩ ⟨[]⟩, vt, vi 0]), (875, mo 83 [vi 1, vi 0, vn 0, vi 3, vi 1, vn 0, vn 0, vi 1]), (1156, mc 68 [vi 0, vn 0, vs 1162 0 1 openCap, vi 0]), (1162, mo 70 [vi 1, vn 0, vi 3, vi 3, vi 0]), (1251, mo 83 [vi 1, vn 0, vn 0, vi 1, vi 0, vi 0, vi 0, vi 0]), (1265, mo 83 [vn 0, vi 0, vn 0, vi 3]), (1287, mc 279 [vi 3, vi 1, vn 0, vn 0, vi 0, vi 0, vn 0, vp 131 0, vi 0, vi 3, vi 1, .func (.func 276) ⟨[vp 1287 0]⟩ ⟨[]⟩, vi 3, vf, vi 0, vi 0, vi 1, vf, sn]), (1365, mc 322 [vi 0]), (1527, mc 68 [vn 0, vn 0, vs 1533 0 1 openCap, vi 0]), (1533, mo 70 [vi 0, vn 0, vi 1, vi 1, vi 0])], vt, [(130, mc 182 [vi 14, sn]), (132, mc 198 [vp 131 0, vs 141 0 1 openCap, vs 866 0 3 openCap, vs 869 0 2 openCap, vs 870 0 2 openCap, vi 41, vi 1, vs 142 0 5 5])], 1546⟩
set_option maxRecDepth 100000 in
theorem r40 : (e40.fitB && e40.runB (prTab false prB cutF []) Tryz.prog 100000) = true := by decide +kernel
theorem k40 : e40.Fit ∧ EntOk Tryz.prog e40 := Ent.both mixedHere (prTab_ok yes_not prB_ok (okNil)) r40

set_option maxRecDepth 100000 in
def e41 : Ent := ⟨446, 1546, [vp 132 0, va [vi 4, vi 0]], turned [] (turned (e40.d.map fun p => (p.1, some p.2)) e40.bl), vf, [(132, mc 198 [vp 131 0, vs 141 0 1 openCap, vs 866 0 3 openCap, vs 869 0 2 openCap, vs 870 0 2 openCap, vi 42, vi 1, vs 142 0 5 5])], 1614⟩
set_option maxRecDepth 100000 in
theorem r41 : (e41.fitB && e41.runB (prTab false prB cutF []) Tryz.prog 100000) = true := by decide +kernel
theorem k41 : e41.Fit ∧ EntOk Tryz.prog e41 := Ent.both mixedHere (prTab_ok yes_not prB_ok (okNil)) r41

set_option maxRecDepth 100000 in
def e42 : Ent := ⟨446, 1616, [vp 132 0, va [vi 1, vi 0]], turned [] (turned (e41.d.map fun p => (p.1, some p.2)) e41.bl), vt, [(126, mc 320 [pn, pn]), (128, mc 274 [pn]), (132, mc 198 [vp 131 0, vs 141 0 1 openCap, vs 1645 0 4 openCap, vs 869 0 2 openCap, vs 870 0 2 openCap, vi 43, vi 1, vs 142 0 5 5]), (135, mc 268 [vs 1643 0 2 openCap]), (137, mc 144 [vp 131 0, vi 0, vi 0, sn, sn, vp 136 0, pn]), (866, (.dead 27 326)), (873, mc 159 [sn, vs 875 4 0 anyCap, vi 3, vi 1, vi 0, vi 0, vi 0, vi 0, vi 0, vi 3, vi 1, vn 0, vn 0, vi 0, vi 0, vn 0, vi 0, .func (.func 128) ⟨[vp 137 0]⟩ ⟨[]⟩, .func (.func 80) ⟨[]⟩ ⟨[]⟩, vt, vi 1]), (1287, mc 279 [vi 3, vi 1, vn 0, vn 0, vi 0, vi 0, vn 0, vp 131 0, vi 0, vi 3, vi 1, .func (.func 276) ⟨[vp 1287 0]⟩ ⟨[]⟩, vi 3, vf, vi 0, vi 0, vi 1, vt, sn]), (1643, mo 83 [vn 0, vn 0, vn 0, vi 1, vn 0, vi 0, vn 0, vi 3]), (1645, mo 326 [vi 0, vi 0, vt, vi 1, vi 1, vi 0, vn 0, vi 3, vi 0, vi 0, vi 0, vf, vi 0, vi 0, vi 0, vi 0, vi 0, vi 1, vi 1, vi 0, vt, vi 3, vi 1, vi 0, vi 0, vi 0, vi 0, vi 1, vi 0, vf, vi 0, vi 0, vi 0, vi 0, vi 0, vi 1])], 1646⟩
set_option maxRecDepth 100000 in
theorem r42 : (e42.fitB && e42.runB (prTab false prB cutF []) Tryz.prog 100000) = true := by decide +kernel
theorem k42 : e42.Fit ∧ EntOk Tryz.prog e42 := Ent.both mixedHere (prTab_ok yes_not prB_ok (okNil)) r42

set_option maxRecDepth 100000 in
def e43 : Ent := ⟨446, 1646, [vp 132 0, va [vi 2, vi 1]], turned [(783, none), (866, none), (873, none), (875, none), (1251, none), (1265, none), (1287, none), (1365, none)] (turned (e42.d.map fun p => (p.1, some p.2)) e42.bl), vt, [(130, mc 182 [vi 15, sn]), (132, mc 198 [vp 131 0, vs 141 0 1 openCap, vs 1645 0 4 openCap, vs 869 0 2 openCap, vs 870 0 2 openCap, vi 44, vi 1, vs 142 0 5 5])], 1650⟩
set_option maxRecDepth 100000 in
theorem r43 : (e43.fitB && e43.runB (prTab false prB cutF []) Tryz.prog 100000) = true := by decide +kernel
theorem k43 : e43.Fit ∧ EntOk Tryz.prog e43 := Ent.both mixedHere (prTab_ok yes_not prB_ok (okNil)) r43

set_option maxRecDepth 100000 in
def e44 : Ent := ⟨446, 1650, [vp 132 0, va [vi 4, vi 0]], turned [] (turned (e43.d.map fun p => (p.1, some p.2)) e43.bl), vf, [(132, mc 198 [vp 131 0, vs 141 0 1 openCap, vs 1645 0 4 openCap, vs 869 0 2 openCap, vs 870 0 2 openCap, vi 45, vi 1, vs 142 0 5 5])], 1718⟩
set_option maxRecDepth 100000 in
theorem r44 : (e44.fitB && e44.runB (prTab false prB cutF []) Tryz.prog 100000) = true := by decide +kernel
theorem k44 : e44.Fit ∧ EntOk Tryz.prog e44 := Ent.both mixedHere (prTab_ok yes_not prB_ok (okNil)) r44

set_option maxRecDepth 100000 in
def e45 : Ent := ⟨449, 1893, [vp 1876 0, va [vi 1, vi 0]], [(1806, mc 4 [vf, vf, vf, vf, vf, vf, vf, vf, vf, vf, vf, vf, vf, vf, vf, vf, vf, vf, vf, vf, vf, vf, vf, vf]), (1807, mc 260 [vs 1855 0 24 openCap, vs 1806 0 24 24]), (1855, mo 3 [vi 0, vi 1, vi 2, vi 3, vi 4, vi 5, vi 6, vi 7, vi 8, vi 9, vi 10, vi 11, vi 12, vi 13, vi 14, vi 15, vi 16, vi 17, vi 18, vi 19, vi 20, vi 21, vi 22, vi 23]), (1856, .map [] 0), (1857, mc 170 [vi 2, vi 8, vi 24, vi 2, vp 1807 0, vs 1865 0 2 openCap, (.map (some 1856))]), (1858, .map [] 0), (1859, mc 265 [vi 8, vp 1807 0, (.map (some 1858))]), (1862, .map [] 0), (1863, mc 265 [vi 8, vp 1807 0, (.map (some 1862))]), (1865, mo 171 [vp 1859 0, vp 1863 0]), (1866, mc 3 [vi 0]), (1867, mc 175 [vs 1866 0 1 1]), (1868, mc 320 [pn, pn]), (1869, mc 178 [vs 1868 0 2 2]), (1870, mc 274 [pn]), (1871, .map [] 0), (1872, mc 182 [vi 0, sn]), (1873, mc 114 [vp 1857 0, vp 1869 0, vp 1867 0, vp 1872 0, vs 1870 0 1 1, (.map (some 1871)), vi 0]), (1874, .map [] 0), (1875, mc 137 [(.map (some 1874))]), (1876, mc 217 [vp 1873 0, vs 1889 0 1 openCap, vi 0, vp 1875 0, vs 1887 0 1 openCap, sn, sn, sn, sn, vi 0, vi 0]), (1879, mc 268 [sn]), (1880, mc 270 [vp 1879 0, vn 0, vi 2]), (1881, mc 144 [vp 1873 0, vi 0, vi 0, sn, sn, vp 1880 0, pn]), (1882, mc 140 [sn]), (1883, mc 93 [vp 1881 0, vi 0, vp 1882 0, vp 1875 0, vi 0, vi 0, vi 0, vi 0, vi 0, vi 0, .nilFunc, vi 0, vi 0, pn]), (1884, mo 36 [vi 1, vn 0, vn 0, vi 0, vi 0, vi 0, vi 9, vi 0, vn 0, vi 3, vi 0, vi 0]), (1885, mc 221 [vp 1883 0, vp 1876 0, vs 1884 0 2 openCap, vi 0, sn]), (1887, mo 218 [vp 1885 0]), (1889, mo 522 [.iface 218 (vp 1885 0)])], vt, [(1876, mc 217 [vp 1873 0, vs 1889 0 1 openCap, vi 1, vp 1875 0, vs 1887 0 1 openCap, sn, sn, sn, sn, vi 0, vi 1]), (1881, mc 144 [vp 1873 0, vi 0, vi 1, sn, sn, vp 1880 0, pn]), (1885, mc 221 [vp 1883 0, vp 1876 0, vs 1884 0 2 openCap, vi 1, sn])], 1898⟩
set_option maxRecDepth 100000 in
theorem r45 : (e45.fitB && e45.runB (prTab false prB cutF []) Tryz.prog 100000) = true := by decide +kernel
theorem k45 : e45.Fit ∧ EntOk Tryz.prog e45 := Ent.both mixedHere (prTab_ok yes_not prB_ok (okNil)) r45

set_option maxRecDepth 100000 in
def e46 : Ent := ⟨449, 1898, [vp 1876 0, va [vi 2, vi 1]], turned [] (turned (e45.d.map fun p => (p.1, some p.2)) e45.bl), vt, [(1872, mc 182 [vi 1, sn]), (1876, mc 217 [vp 1873 0, vs 1889 0 1 openCap, vi 2, vp 1875 0, vs 1887 0 1 openCap, sn, sn, sn, sn, vi 0, vi 1])], 1903⟩
set_option maxRecDepth 100000 in
theorem r46 : (e46.fitB && e46.runB (prTab false prB cutF []) Tryz.prog 100000) = true := by decide +kernel
theorem k46 : e46.Fit ∧ EntOk Tryz.prog e46 := Ent.both mixedHere (prTab_ok yes_not prB_ok (okNil)) r46

set_option maxRecDepth 100000 in
def e47 : Ent := ⟨449, 1903, [vp 1876 0, va [vi 4, vi 0]], turned [] (turned (e46.d.map fun p => (p.1, some p.2)) e46.bl), vf, [(1876, mc 217 [vp 1873 0, vs 1889 0 1 openCap, vi 3, vp 1875 0, vs 1887 0 1 openCap, sn, sn, sn, sn, vi 0, vi 1])], 1914⟩
set_option maxRecDepth 100000 in
theorem r47 : (e47.fitB && e47.runB (prTab false prB cutF []) Tryz.prog 100000) = true := by decide +kernel
theorem k47 : e47.Fit ∧ EntOk Tryz.prog e47 := Ent.both mixedHere (prTab_ok yes_not prB_ok (okNil)) r47

end Go.Proofs
