/-
  PROVED HERE: a part of the proof, by a calculus of weakest conditions over an abstract heap (A3).
-/
import Derived.Test.YtlmkplcfmngigaaB
import Derived.Test.YtlmkplcfmngigaaRows
set_option linter.unusedVariables false
set_option linter.unusedSimpArgs false
set_option maxRecDepth 100000
namespace Go.Proofs
open Go.Vai Go.Clashes Go.ChangeShapes Go.WideShapes
theorem laidOut : laidOutB Try.prog = true := by kernel_rfl
theorem own0 : ownKnob Try.prog.godebug = none := by kernel_rfl
theorem len1 {α : Type} {l : List α} (h : l.length = 4) : ∃ a b c d, l = [a, b, c, d] := by
  match l, h with
  | [a, b, c, d], _ => exact ⟨a, b, c, d, rfl⟩
theorem some_of {α : Type} {l : List α} {n i : Nat} (h : l.length = n) (hi : i < n) : ∃ x, l[i]? = some x := ⟨_, List.getElem?_eq_getElem (by omega)⟩
/-- a number, a name, a mode -/
theorem decINM {H : Type} {enc : TypeId × Value → H} {w : World} {e : TypeId} {f0 f1 f2 : Field} (hu : Try.prog.underlying e = some (.struct #[f0, f1, f2])) (t0 : f0.type = 3) (o0 : f0.offset = 0) (t1 : f1.type = 27) (o1 : f1.offset = 1) (t2 : f2.type = 28) (o2 : f2.offset = 3)
    (n : Nat) (cs : List Value) (d : DataW H × List MemPlace) (hl : cs.length = 4) (h : DataW.trod enc Try.prog w 0 (fun _ => true) true n e cs = some d) : ∃ p : H4, cs = enc4 p := by
  obtain ⟨a, b, c, q, rfl⟩ := len1 hl
  obtain ⟨xs, m, _, _, _, hx, hf⟩ := DataW.trod_struct hu h
  have h0 := hf 0 f0 rfl
  have h1 := hf 1 f1 rfl
  have h2 := hf 2 f2 rfl
  obtain ⟨x0, e0⟩ := some_of (i := 0) hx (by simp)
  obtain ⟨x1, e1⟩ := some_of (i := 1) hx (by simp)
  obtain ⟨x2, e2⟩ := some_of (i := 2) hx (by simp)
  rw [e0, t0, o0] at h0; rw [e1, t1, o1] at h1; rw [e2, t2, o2] at h2
  have c3 : Try.prog.cellsOf 3 = 1 := by kernel_rfl
  have c27 : Try.prog.cellsOf 27 = 2 := by kernel_rfl
  have c28 : Try.prog.cellsOf 28 = 1 := by kernel_rfl
  simp only [c3, c27, c28, List.drop_zero, List.take_succ_cons, List.take_zero, List.drop_succ_cons] at h0 h1 h2
  obtain ⟨n0, r0, _⟩ := DataW.trod_int Try.underlying3 h0
  obtain ⟨n2, r2, _⟩ := DataW.trod_int Try.underlying28 h2
  obtain ⟨ys, m', _, _, _, hy, hg⟩ := DataW.trod_struct Try.underlying27 h1
  have g0 := hg 0 (Field.mk "Table" 3 0 false "" "" 0) rfl
  have g1 := hg 1 (Field.mk "Record" 3 1 false "" "" 8) rfl
  obtain ⟨y0, k0⟩ := some_of (i := 0) hy (by decide)
  obtain ⟨y1, k1⟩ := some_of (i := 1) hy (by decide)
  rw [k0] at g0; rw [k1] at g1
  dsimp only at g0 g1
  simp only [c3, List.drop_zero, List.take_succ_cons, List.take_zero, List.drop_succ_cons] at g0 g1
  obtain ⟨n3, r3, _⟩ := DataW.trod_int Try.underlying3 g0
  obtain ⟨n4, r4, _⟩ := DataW.trod_int Try.underlying3 g1
  cases r0; cases r2; cases r3; cases r4
  exact ⟨⟨_, _, _, _⟩, rfl⟩
theorem dec30 {H : Type} {enc : TypeId × Value → H} {w : World} (n : Nat) (cs : List Value) (d : DataW H × List MemPlace) (hl : cs.length = 4) (h : DataW.trod enc Try.prog w 0 (fun _ => true) true n 30 cs = some d) : ∃ p : H4, cs = enc4 p :=
  decINM Try.underlying30 rfl rfl rfl rfl rfl rfl n cs d hl h
theorem dec41 {H : Type} {enc : TypeId × Value → H} {w : World} (n : Nat) (cs : List Value) (d : DataW H × List MemPlace) (hl : cs.length = 4) (h : DataW.trod enc Try.prog w 0 (fun _ => true) true n 41 cs = some d) : ∃ p : H4, cs = enc4 p :=
  decINM Try.underlying41 rfl rfl rfl rfl rfl rfl n cs d hl h
end Go.Proofs
