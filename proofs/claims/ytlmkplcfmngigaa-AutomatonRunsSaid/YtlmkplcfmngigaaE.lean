/-
  PROVED HERE: a part of the proof, by a calculus of weakest conditions over an abstract heap (E1).
-/
import Derived.Test.YtlmkplcfmngigaaP1
import Derived.Test.YtlmkplcfmngigaaG1
set_option linter.unusedVariables false
set_option linter.unusedSimpArgs false
set_option maxRecDepth 100000
namespace Go.Proofs
open Go.Vai Go.Clashes
/-! ## the reference: ref02 -/
theorem rdb_a : answersS Try.prog 100 101 [] (nmV (-1) (-1)) = true := by kernel_rfl
theorem rdatabase_w {h : Heap} {κ : Value → Heap → Prop} (hk : κ (nmV (-1) (-1)) h) : CallW Try.prog 101 [] h κ := closedW mixed rdb_a hk
theorem rlevel_w (t r : Int) {h : Heap} {κ : Value → Heap → Prop} (hk : κ (.int .i64 (lvl t r)) h) : CallW Try.prog 53 [nmV t r] h κ := by
  refine pureW (v := .int .i64 (lvl t r)) rfl rfl (callW_of mixed ?_) hk
  rw [rs_53]
  simp (disch := first | omega | (simp only [Wx]; done) | (simp only [Wy]; done) | (simp only [Wv]; omega) | with_unfolding_all rfl) only [Wz, ptrTo, sliceTo, nmV]
  refine rdatabase_w ?_
  by_cases h1 : t = -1 ∧ r = -1
  · simp (disch := first | omega | (simp only [Wx]; done) | (simp only [Wy]; done) | (simp only [Wv]; omega) | with_unfolding_all rfl) only [Wz, ptrTo, sliceTo, nmV, bin_eq27, dec_t h1]
    simp [lvl, h1]
  · simp (disch := first | omega | (simp only [Wx]; done) | (simp only [Wy]; done) | (simp only [Wv]; omega) | with_unfolding_all rfl) only [Wz, ptrTo, sliceTo, nmV, bin_eq27, dec_f h1, rs_53_0]
    by_cases a1 : t < 0
    · simp (disch := first | omega | (simp only [Wx]; done) | (simp only [Wy]; done) | (simp only [Wv]; omega) | with_unfolding_all rfl) only [Wz, ptrTo, sliceTo]; simp [lvl, h1, within]; omega
    · by_cases a2 : 100 ≤ t
      · simp (disch := first | omega | (simp only [Wx]; done) | (simp only [Wy]; done) | (simp only [Wv]; omega) | with_unfolding_all rfl) only [Wz, ptrTo, sliceTo]; simp [lvl, h1, within]; omega
      · by_cases a3 : r < -1
        · simp (disch := first | omega | (simp only [Wx]; done) | (simp only [Wy]; done) | (simp only [Wv]; omega) | with_unfolding_all rfl) only [Wz, ptrTo, sliceTo]; simp [lvl, h1, within]; omega
        · by_cases a4 : 100 ≤ r
          · simp (disch := first | omega | (simp only [Wx]; done) | (simp only [Wy]; done) | (simp only [Wv]; omega) | with_unfolding_all rfl) only [Wz, ptrTo, sliceTo]; simp [lvl, h1, within]; omega
          · by_cases a5 : r = -1
            · simp (disch := first | omega | (simp only [Wx]; done) | (simp only [Wy]; done) | (simp only [Wv]; omega) | with_unfolding_all rfl) only [Wz, ptrTo, sliceTo, dec_t a5]; simp [lvl, h1, within]; omega
            · simp (disch := first | omega | (simp only [Wx]; done) | (simp only [Wy]; done) | (simp only [Wv]; omega) | with_unfolding_all rfl) only [Wz, ptrTo, sliceTo, dec_f a5]; simp [lvl, h1, within]; omega
theorem rcheck_w (t r : Int) {h : Heap} {κ : Value → Heap → Prop} (hk : κ (.int .i64 (if okN t r then 0 else 2)) h) : CallW Try.prog 57 [nmV t r] h κ := by
  refine pureW (v := .int .i64 (if okN t r then 0 else 2)) rfl rfl (callW_of mixed ?_) hk
  rw [rs_57]
  simp (disch := first | omega | (simp only [Wx]; done) | (simp only [Wy]; done) | (simp only [Wv]; omega) | with_unfolding_all rfl) only [Wz, ptrTo, sliceTo, nmV]
  refine rlevel_w t r ?_
  rcases lvl_cases t r with h1 | h1 | h1 | h1 <;> simp (disch := first | omega | (simp only [Wx]; done) | (simp only [Wy]; done) | (simp only [Wv]; omega) | with_unfolding_all rfl) only [Wz, ptrTo, sliceTo, h1] <;> simp [okN, h1]
end Go.Proofs
