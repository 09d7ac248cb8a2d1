/-
  PROVED HERE: a part of the proof, by a calculus of weakest conditions over an abstract heap.
-/
import Derived.Test.YtlmkplcfmngigaaB1
set_option linter.unusedVariables false
set_option linter.unusedSimpArgs false
set_option maxRecDepth 100000
namespace Go.Proofs
open Go.Vai Go.Clashes

def optI : Option Nat → Int | some i => i | none => -1
def aggH (p : H4) : Value := .agg ⟨enc4 p⟩

/-- slices.IndexFunc at locks -/
theorem indexFunc_w (L : List H4) (F : H4 → Bool) (h : Heap) (v fv : Value) (κ : Value → Heap → Prop) (hv : Sl enc4 h v L) (hlen : L.length ≤ 1000000)
    (hF : ∀ p, p ∈ L → ∀ (h1 : Heap) (κ1 : Value → Heap → Prop), Le h h1 → (∀ h2, Le h1 h2 → κ1 (.bool (F p)) h2) → CallV Try.prog fv [aggH p] h1 κ1)
    (hk : ∀ h', Le h h' → κ (.int .i64 (optI (L.findIdx? F))) h') : CallW Try.prog 82 [v, fv] h κ := by
  refine callW_of mixed ?_
  rw [rs_82]
  simp only [hv.len]
  refine ⟨fun n l h1 => Le h h1 ∧ ∃ k : Nat, slot l 12 = .int .i64 (k : Int) ∧ k ≤ L.length ∧ n = L.length - k ∧ ∀ (j : Nat) p, j < k → L[j]? = some p → F p = false, ⟨_, Le.refl _, 0, rfl, Nat.zero_le _, rfl, by omega⟩, ?_⟩
  rintro n l h1 ⟨hle, k, hs, hkl, rfl, hno⟩
  by_cases hlt : k < L.length
  · obtain ⟨p, hp⟩ : ∃ p, L[k]? = some p := ⟨_, List.getElem?_eq_getElem hlt⟩
    obtain ⟨b, o, hb, hat, hld⟩ := ld4 hv k hp
    have hn := hle.nx
    simp (disch := first | omega | (simp only [List.all_cons, List.all_nil, one_int, one_bool, one_str, one_ptr, one_sli, one_map, one_fun, one_ifc, Bool.and_self]; done) | (simp only [cells_agg, cells_int, cells_bool, cells_ptr, cells_slice, List.length_cons, List.length_nil]; done) | (simp only [List.length_cons, List.length_nil]; omega) | with_unfolding_all rfl) only [load1_eq, loadA_eq, storeV_eq, newBlock_eq, ldO_cells, ldO_ro, ldA_cells, ldA_ro, stO_cells, cellsK_eq, optK_some, RdK_some, AlK_some, SameK_true, wantV_true, wantV_false, wantV_undef, GuardW_true, GuardW_false, CondW_true, CondW_false, wrap_id, bin_add, bin_sub, bin_mul, bin_eql, bin_neq, bin_lss, bin_gtr, bin_leq, bin_geq, un_not, un_neg, conv_i64, pick_true, pick_false, lenSli_eq, fieldAddr_eq, nil_ptr, nil_fun, extract_0, extract_1, extract_2, callV_eq, lt_t, lt_f, eq_t, eq_lt, eq_gt, ptrTo, sliceTo, T.get_upd_same, T.get_updne, T.upd_same, Bool.not_true, Bool.not_false, decide_true, decide_false, List.drop_zero, List.take_succ_cons, List.take_zero, List.drop_succ_cons, List.getElem?_cons_zero, List.getElem?_cons_succ, Nat.zero_add, Nat.add_zero, slot_0, slot_s, cells_agg, cells_int, cells_bool, cells_ptr, cells_slice, over_all, fill_1, fill_nil, fill_cons, repeatL_0, repeatL_1, repeatL_2, over_s, over_0, over_e, reV_some, reN_some, reG_true, reG_false, veq_int, veq_bool, veq_ptr, veq_sli, veq_sln, veq_2, veq_4, Bool.and_true, Bool.true_and, hv.len, hs, rs_82_0, hat, hle.get, hld]
    refine hF p (List.mem_of_getElem? hp) h1 _ hle ?_
    intro h2 hle2
    cases hc : F p with
    | true =>
      simp (disch := first | omega | (simp only [List.all_cons, List.all_nil, one_int, one_bool, one_str, one_ptr, one_sli, one_map, one_fun, one_ifc, Bool.and_self]; done) | (simp only [cells_agg, cells_int, cells_bool, cells_ptr, cells_slice, List.length_cons, List.length_nil]; done) | (simp only [List.length_cons, List.length_nil]; omega) | with_unfolding_all rfl) only [load1_eq, loadA_eq, storeV_eq, newBlock_eq, ldO_cells, ldO_ro, ldA_cells, ldA_ro, stO_cells, cellsK_eq, optK_some, RdK_some, AlK_some, SameK_true, wantV_true, wantV_false, wantV_undef, GuardW_true, GuardW_false, CondW_true, CondW_false, wrap_id, bin_add, bin_sub, bin_mul, bin_eql, bin_neq, bin_lss, bin_gtr, bin_leq, bin_geq, un_not, un_neg, conv_i64, pick_true, pick_false, lenSli_eq, fieldAddr_eq, nil_ptr, nil_fun, extract_0, extract_1, extract_2, callV_eq, lt_t, lt_f, eq_t, eq_lt, eq_gt, ptrTo, sliceTo, T.get_upd_same, T.get_updne, T.upd_same, Bool.not_true, Bool.not_false, decide_true, decide_false, List.drop_zero, List.take_succ_cons, List.take_zero, List.drop_succ_cons, List.getElem?_cons_zero, List.getElem?_cons_succ, Nat.zero_add, Nat.add_zero, slot_0, slot_s, cells_agg, cells_int, cells_bool, cells_ptr, cells_slice, over_all, fill_1, fill_nil, fill_cons, repeatL_0, repeatL_1, repeatL_2, over_s, over_0, over_e, reV_some, reN_some, reG_true, reG_false, veq_int, veq_bool, veq_ptr, veq_sli, veq_sln, veq_2, veq_4, Bool.and_true, Bool.true_and, hs]
      have : L.findIdx? F = some k := by
        rw [List.findIdx?_eq_some_iff_getElem]
        obtain ⟨hk1, hk2⟩ := List.getElem?_eq_some_iff.1 hp
        refine ⟨hk1, by rw [hk2]; exact hc, fun j hj => ?_⟩
        have := hno j _ hj (List.getElem?_eq_getElem (by omega))
        simp [this]
      have hk2 := hk h2 (hle.trans hle2)
      rw [this] at hk2
      exact hk2
    | false =>
      simp (disch := first | omega | (simp only [List.all_cons, List.all_nil, one_int, one_bool, one_str, one_ptr, one_sli, one_map, one_fun, one_ifc, Bool.and_self]; done) | (simp only [cells_agg, cells_int, cells_bool, cells_ptr, cells_slice, List.length_cons, List.length_nil]; done) | (simp only [List.length_cons, List.length_nil]; omega) | with_unfolding_all rfl) only [load1_eq, loadA_eq, storeV_eq, newBlock_eq, ldO_cells, ldO_ro, ldA_cells, ldA_ro, stO_cells, cellsK_eq, optK_some, RdK_some, AlK_some, SameK_true, wantV_true, wantV_false, wantV_undef, GuardW_true, GuardW_false, CondW_true, CondW_false, wrap_id, bin_add, bin_sub, bin_mul, bin_eql, bin_neq, bin_lss, bin_gtr, bin_leq, bin_geq, un_not, un_neg, conv_i64, pick_true, pick_false, lenSli_eq, fieldAddr_eq, nil_ptr, nil_fun, extract_0, extract_1, extract_2, callV_eq, lt_t, lt_f, eq_t, eq_lt, eq_gt, ptrTo, sliceTo, T.get_upd_same, T.get_updne, T.upd_same, Bool.not_true, Bool.not_false, decide_true, decide_false, List.drop_zero, List.take_succ_cons, List.take_zero, List.drop_succ_cons, List.getElem?_cons_zero, List.getElem?_cons_succ, Nat.zero_add, Nat.add_zero, slot_0, slot_s, cells_agg, cells_int, cells_bool, cells_ptr, cells_slice, over_all, fill_1, fill_nil, fill_cons, repeatL_0, repeatL_1, repeatL_2, over_s, over_0, over_e, reV_some, reN_some, reG_true, reG_false, veq_int, veq_bool, veq_ptr, veq_sli, veq_sln, veq_2, veq_4, Bool.and_true, Bool.true_and, hs]
      refine ⟨_, by omega, hle.trans hle2, k + 1, rfl, by omega, rfl, fun j q hj hq => ?_⟩
      rcases Nat.lt_or_ge j k with h4 | h4
      · exact hno j q h4 hq
      · obtain rfl : j = k := by omega
        rw [hp] at hq; cases hq; exact hc
  · simp (disch := first | omega | (simp only [List.all_cons, List.all_nil, one_int, one_bool, one_str, one_ptr, one_sli, one_map, one_fun, one_ifc, Bool.and_self]; done) | (simp only [cells_agg, cells_int, cells_bool, cells_ptr, cells_slice, List.length_cons, List.length_nil]; done) | (simp only [List.length_cons, List.length_nil]; omega) | with_unfolding_all rfl) only [load1_eq, loadA_eq, storeV_eq, newBlock_eq, ldO_cells, ldO_ro, ldA_cells, ldA_ro, stO_cells, cellsK_eq, optK_some, RdK_some, AlK_some, SameK_true, wantV_true, wantV_false, wantV_undef, GuardW_true, GuardW_false, CondW_true, CondW_false, wrap_id, bin_add, bin_sub, bin_mul, bin_eql, bin_neq, bin_lss, bin_gtr, bin_leq, bin_geq, un_not, un_neg, conv_i64, pick_true, pick_false, lenSli_eq, fieldAddr_eq, nil_ptr, nil_fun, extract_0, extract_1, extract_2, callV_eq, lt_t, lt_f, eq_t, eq_lt, eq_gt, ptrTo, sliceTo, T.get_upd_same, T.get_updne, T.upd_same, Bool.not_true, Bool.not_false, decide_true, decide_false, List.drop_zero, List.take_succ_cons, List.take_zero, List.drop_succ_cons, List.getElem?_cons_zero, List.getElem?_cons_succ, Nat.zero_add, Nat.add_zero, slot_0, slot_s, cells_agg, cells_int, cells_bool, cells_ptr, cells_slice, over_all, fill_1, fill_nil, fill_cons, repeatL_0, repeatL_1, repeatL_2, over_s, over_0, over_e, reV_some, reN_some, reG_true, reG_false, veq_int, veq_bool, veq_ptr, veq_sli, veq_sln, veq_2, veq_4, Bool.and_true, Bool.true_and, hv.len, hs]
    have : L.findIdx? F = none := by
      rw [List.findIdx?_eq_none_iff]
      intro p hp
      obtain ⟨j, hj, rfl⟩ := List.mem_iff_getElem.1 hp
      have := hno j _ (by omega) (List.getElem?_eq_getElem hj)
      simp [this]
    have hk2 := hk h1 hle
    rw [this] at hk2
    exact hk2

/-- of that name -/
def named (t r : Int) (p : H4) : Bool := decide (p.t = t ∧ p.r = r)
theorem at1_w (t r : Int) (p : H4) (b : Nat) (h : Heap) (κ : Value → Heap → Prop) (hlo : h.lo ≤ h.nx) (hb : b < h.nx) (hg : h.bl.get b = some (cellsO [.int .i64 t, .int .i64 r] 27 false)) (hk : ∀ h', Le h h' → κ (.bool (named t r p)) h') :
    CallW Try.prog 128 [aggH p, ptrTo b] h κ := by
  refine callW_of mixed ?_
  rw [rs_128]
  simp (disch := first | omega | (simp only [List.all_cons, List.all_nil, one_int, one_bool, one_str, one_ptr, one_sli, one_map, one_fun, one_ifc, Bool.and_self]; done) | (simp only [cells_agg, cells_int, cells_bool, cells_ptr, cells_slice, List.length_cons, List.length_nil]; done) | (simp only [List.length_cons, List.length_nil]; omega) | with_unfolding_all rfl) only [load1_eq, loadA_eq, storeV_eq, newBlock_eq, ldO_cells, ldO_ro, ldA_cells, ldA_ro, stO_cells, cellsK_eq, optK_some, RdK_some, AlK_some, SameK_true, wantV_true, wantV_false, wantV_undef, GuardW_true, GuardW_false, CondW_true, CondW_false, wrap_id, bin_add, bin_sub, bin_mul, bin_eql, bin_neq, bin_lss, bin_gtr, bin_leq, bin_geq, un_not, un_neg, conv_i64, pick_true, pick_false, lenSli_eq, fieldAddr_eq, nil_ptr, nil_fun, extract_0, extract_1, extract_2, callV_eq, lt_t, lt_f, eq_t, eq_lt, eq_gt, ptrTo, sliceTo, T.get_upd_same, T.get_updne, T.upd_same, Bool.not_true, Bool.not_false, decide_true, decide_false, List.drop_zero, List.take_succ_cons, List.take_zero, List.drop_succ_cons, List.getElem?_cons_zero, List.getElem?_cons_succ, Nat.zero_add, Nat.add_zero, slot_0, slot_s, cells_agg, cells_int, cells_bool, cells_ptr, cells_slice, over_all, fill_1, fill_nil, fill_cons, repeatL_0, repeatL_1, repeatL_2, over_s, over_0, over_e, reV_some, reN_some, reG_true, reG_false, veq_int, veq_bool, veq_ptr, veq_sli, veq_sln, veq_2, veq_4, Bool.and_true, Bool.true_and, aggH, enc4, hg, bin_eq27]
  exact hk _ ((Le.refl h).new _)
theorem at_w (L : List H4) (t r : Int) (h : Heap) (v : Value) (κ : Value → Heap → Prop) (hv : Sl enc4 h v L) (hlen : L.length ≤ 1000000) (hlo : h.lo ≤ h.nx) (hk : ∀ h', Le h h' → κ (.int .i64 (optI (L.findIdx? (named t r)))) h') :
    CallW Try.prog 79 [v, nmV t r] h κ := by
  refine callW_of mixed ?_
  rw [rs_79]
  simp (disch := first | omega | (simp only [List.all_cons, List.all_nil, one_int, one_bool, one_str, one_ptr, one_sli, one_map, one_fun, one_ifc, Bool.and_self]; done) | (simp only [cells_agg, cells_int, cells_bool, cells_ptr, cells_slice, List.length_cons, List.length_nil]; done) | (simp only [List.length_cons, List.length_nil]; omega) | with_unfolding_all rfl) only [load1_eq, loadA_eq, storeV_eq, newBlock_eq, ldO_cells, ldO_ro, ldA_cells, ldA_ro, stO_cells, cellsK_eq, optK_some, RdK_some, AlK_some, SameK_true, wantV_true, wantV_false, wantV_undef, GuardW_true, GuardW_false, CondW_true, CondW_false, wrap_id, bin_add, bin_sub, bin_mul, bin_eql, bin_neq, bin_lss, bin_gtr, bin_leq, bin_geq, un_not, un_neg, conv_i64, pick_true, pick_false, lenSli_eq, fieldAddr_eq, nil_ptr, nil_fun, extract_0, extract_1, extract_2, callV_eq, lt_t, lt_f, eq_t, eq_lt, eq_gt, ptrTo, sliceTo, T.get_upd_same, T.get_updne, T.upd_same, Bool.not_true, Bool.not_false, decide_true, decide_false, List.drop_zero, List.take_succ_cons, List.take_zero, List.drop_succ_cons, List.getElem?_cons_zero, List.getElem?_cons_succ, Nat.zero_add, Nat.add_zero, slot_0, slot_s, cells_agg, cells_int, cells_bool, cells_ptr, cells_slice, over_all, fill_1, fill_nil, fill_cons, repeatL_0, repeatL_1, repeatL_2, over_s, over_0, over_e, reV_some, reN_some, reG_true, reG_false, veq_int, veq_bool, veq_ptr, veq_sli, veq_sln, veq_2, veq_4, Bool.and_true, Bool.true_and, nmV]
  have hle := (Le.refl h).new (cellsO [.int .i64 t, .int .i64 r] 27 false)
  refine indexFunc_w L (named t r) _ v _ _ (hv.le hle) hlen ?_ fun h' hl => hk h' (hle.trans hl)
  intro p hp h1 κ1 hl1 hk1
  have hn1 := hl1.nx
  have hg1 := hl1.get
  have ho1 := hl1.lo
  dsimp only at hn1 hg1 ho1
  simp (disch := first | omega | (simp only [List.all_cons, List.all_nil, one_int, one_bool, one_str, one_ptr, one_sli, one_map, one_fun, one_ifc, Bool.and_self]; done) | (simp only [cells_agg, cells_int, cells_bool, cells_ptr, cells_slice, List.length_cons, List.length_nil]; done) | (simp only [List.length_cons, List.length_nil]; omega) | with_unfolding_all rfl) only [load1_eq, loadA_eq, storeV_eq, newBlock_eq, ldO_cells, ldO_ro, ldA_cells, ldA_ro, stO_cells, cellsK_eq, optK_some, RdK_some, AlK_some, SameK_true, wantV_true, wantV_false, wantV_undef, GuardW_true, GuardW_false, CondW_true, CondW_false, wrap_id, bin_add, bin_sub, bin_mul, bin_eql, bin_neq, bin_lss, bin_gtr, bin_leq, bin_geq, un_not, un_neg, conv_i64, pick_true, pick_false, lenSli_eq, fieldAddr_eq, nil_ptr, nil_fun, extract_0, extract_1, extract_2, callV_eq, lt_t, lt_f, eq_t, eq_lt, eq_gt, ptrTo, sliceTo, T.get_upd_same, T.get_updne, T.upd_same, Bool.not_true, Bool.not_false, decide_true, decide_false, List.drop_zero, List.take_succ_cons, List.take_zero, List.drop_succ_cons, List.getElem?_cons_zero, List.getElem?_cons_succ, Nat.zero_add, Nat.add_zero, slot_0, slot_s, cells_agg, cells_int, cells_bool, cells_ptr, cells_slice, over_all, fill_1, fill_nil, fill_cons, repeatL_0, repeatL_1, repeatL_2, over_s, over_0, over_e, reV_some, reN_some, reG_true, reG_false, veq_int, veq_bool, veq_ptr, veq_sli, veq_sln, veq_2, veq_4, Bool.and_true, Bool.true_and]
  exact at1_w t r p _ h1 κ1 (by omega) (by omega) (by rw [hg1 _ (Nat.lt_succ_self _), T.get_upd_same]) hk1

/-- how a name is had -/
def modeOf (L : List H4) (t r : Int) : Int := match L.find? (named t r) with | some p => p.m | none => 0
theorem findIdx_find (L : List H4) (F : H4 → Bool) : (L.findIdx? F = none ∧ L.find? F = none) ∨ ∃ i p, L.findIdx? F = some i ∧ L[i]? = some p ∧ F p = true ∧ L.find? F = some p := by
  induction L with
  | nil => exact .inl ⟨rfl, rfl⟩
  | cons a L ih =>
    cases hF : F a with
    | true => exact .inr ⟨0, a, by simp [List.findIdx?_cons, hF], rfl, hF, by simp [List.find?, hF]⟩
    | false =>
      rcases ih with ⟨h1, h2⟩ | ⟨i, p, h1, h2, h3, h4⟩
      · exact .inl ⟨by simp [List.findIdx?_cons, hF, h1], by simp [List.find?, hF, h2]⟩
      · exact .inr ⟨i + 1, p, by simp [List.findIdx?_cons, hF, h1], by simpa using h2, h3, by simp [List.find?, hF, h4]⟩
theorem mode_w (L : List H4) (t r : Int) (h : Heap) (v : Value) (κ : Value → Heap → Prop) (hv : Sl enc4 h v L) (hlen : L.length ≤ 1000000) (hlo : h.lo ≤ h.nx) (hk : ∀ h', Le h h' → κ (.int .i64 (modeOf L t r)) h') :
    CallW Try.prog 42 [v, nmV t r] h κ := by
  refine callW_of mixed ?_
  rw [rs_42]
  simp (disch := first | omega | (simp only [List.all_cons, List.all_nil, one_int, one_bool, one_str, one_ptr, one_sli, one_map, one_fun, one_ifc, Bool.and_self]; done) | (simp only [cells_agg, cells_int, cells_bool, cells_ptr, cells_slice, List.length_cons, List.length_nil]; done) | (simp only [List.length_cons, List.length_nil]; omega) | with_unfolding_all rfl) only [load1_eq, loadA_eq, storeV_eq, newBlock_eq, ldO_cells, ldO_ro, ldA_cells, ldA_ro, stO_cells, cellsK_eq, optK_some, RdK_some, AlK_some, SameK_true, wantV_true, wantV_false, wantV_undef, GuardW_true, GuardW_false, CondW_true, CondW_false, wrap_id, bin_add, bin_sub, bin_mul, bin_eql, bin_neq, bin_lss, bin_gtr, bin_leq, bin_geq, un_not, un_neg, conv_i64, pick_true, pick_false, lenSli_eq, fieldAddr_eq, nil_ptr, nil_fun, extract_0, extract_1, extract_2, callV_eq, lt_t, lt_f, eq_t, eq_lt, eq_gt, ptrTo, sliceTo, T.get_upd_same, T.get_updne, T.upd_same, Bool.not_true, Bool.not_false, decide_true, decide_false, List.drop_zero, List.take_succ_cons, List.take_zero, List.drop_succ_cons, List.getElem?_cons_zero, List.getElem?_cons_succ, Nat.zero_add, Nat.add_zero, slot_0, slot_s, cells_agg, cells_int, cells_bool, cells_ptr, cells_slice, over_all, fill_1, fill_nil, fill_cons, repeatL_0, repeatL_1, repeatL_2, over_s, over_0, over_e, reV_some, reN_some, reG_true, reG_false, veq_int, veq_bool, veq_ptr, veq_sli, veq_sln, veq_2, veq_4, Bool.and_true, Bool.true_and, nmV]
  have hle := (Le.refl h).new (cellsO [.int .i64 t, .int .i64 r] 27 false)
  refine at_w L t r _ v _ (hv.le hle) hlen (by show h.lo ≤ h.nx + 1; omega) ?_
  intro h1 hl1
  have hle1 := hle.trans hl1
  have hn1 := hle1.nx
  rcases findIdx_find L (named t r) with ⟨h2, h3⟩ | ⟨i, p, h2, h3, h4, h5⟩
  · simp only [h2, optI]
    simp (disch := first | omega | (simp only [List.all_cons, List.all_nil, one_int, one_bool, one_str, one_ptr, one_sli, one_map, one_fun, one_ifc, Bool.and_self]; done) | (simp only [cells_agg, cells_int, cells_bool, cells_ptr, cells_slice, List.length_cons, List.length_nil]; done) | (simp only [List.length_cons, List.length_nil]; omega) | with_unfolding_all rfl) only [load1_eq, loadA_eq, storeV_eq, newBlock_eq, ldO_cells, ldO_ro, ldA_cells, ldA_ro, stO_cells, cellsK_eq, optK_some, RdK_some, AlK_some, SameK_true, wantV_true, wantV_false, wantV_undef, GuardW_true, GuardW_false, CondW_true, CondW_false, wrap_id, bin_add, bin_sub, bin_mul, bin_eql, bin_neq, bin_lss, bin_gtr, bin_leq, bin_geq, un_not, un_neg, conv_i64, pick_true, pick_false, lenSli_eq, fieldAddr_eq, nil_ptr, nil_fun, extract_0, extract_1, extract_2, callV_eq, lt_t, lt_f, eq_t, eq_lt, eq_gt, ptrTo, sliceTo, T.get_upd_same, T.get_updne, T.upd_same, Bool.not_true, Bool.not_false, decide_true, decide_false, List.drop_zero, List.take_succ_cons, List.take_zero, List.drop_succ_cons, List.getElem?_cons_zero, List.getElem?_cons_succ, Nat.zero_add, Nat.add_zero, slot_0, slot_s, cells_agg, cells_int, cells_bool, cells_ptr, cells_slice, over_all, fill_1, fill_nil, fill_cons, repeatL_0, repeatL_1, repeatL_2, over_s, over_0, over_e, reV_some, reN_some, reG_true, reG_false, veq_int, veq_bool, veq_ptr, veq_sli, veq_sln, veq_2, veq_4, Bool.and_true, Bool.true_and]
    have := hk h1 hle1
    simpa only [modeOf, h3] using this
  · simp only [h2, optI]
    obtain ⟨b, o, hb, hat, hld⟩ := ld4 hv i h3
    simp (disch := first | omega | (simp only [List.all_cons, List.all_nil, one_int, one_bool, one_str, one_ptr, one_sli, one_map, one_fun, one_ifc, Bool.and_self]; done) | (simp only [cells_agg, cells_int, cells_bool, cells_ptr, cells_slice, List.length_cons, List.length_nil]; done) | (simp only [List.length_cons, List.length_nil]; omega) | with_unfolding_all rfl) only [load1_eq, loadA_eq, storeV_eq, newBlock_eq, ldO_cells, ldO_ro, ldA_cells, ldA_ro, stO_cells, cellsK_eq, optK_some, RdK_some, AlK_some, SameK_true, wantV_true, wantV_false, wantV_undef, GuardW_true, GuardW_false, CondW_true, CondW_false, wrap_id, bin_add, bin_sub, bin_mul, bin_eql, bin_neq, bin_lss, bin_gtr, bin_leq, bin_geq, un_not, un_neg, conv_i64, pick_true, pick_false, lenSli_eq, fieldAddr_eq, nil_ptr, nil_fun, extract_0, extract_1, extract_2, callV_eq, lt_t, lt_f, eq_t, eq_lt, eq_gt, ptrTo, sliceTo, T.get_upd_same, T.get_updne, T.upd_same, Bool.not_true, Bool.not_false, decide_true, decide_false, List.drop_zero, List.take_succ_cons, List.take_zero, List.drop_succ_cons, List.getElem?_cons_zero, List.getElem?_cons_succ, Nat.zero_add, Nat.add_zero, slot_0, slot_s, cells_agg, cells_int, cells_bool, cells_ptr, cells_slice, over_all, fill_1, fill_nil, fill_cons, repeatL_0, repeatL_1, repeatL_2, over_s, over_0, over_e, reV_some, reN_some, reG_true, reG_false, veq_int, veq_bool, veq_ptr, veq_sli, veq_sln, veq_2, veq_4, Bool.and_true, Bool.true_and, hat, hle1.get, hld]
    have := hk h1 hle1
    simpa only [modeOf, h5] using this

theorem eq22a (h : Heap) (n c n' c' : Nat) : eqB Try.prog h 100 22 (.slice none n c) (.slice none n' c') = some true := by kernel_rfl
theorem eq22b (h : Heap) (a : Addr) (n c n' c' : Nat) : eqB Try.prog h 100 22 (.slice (some a) n c) (.slice none n' c') = some false := by kernel_rfl
theorem bin_eq22a {β : Type} {fl : β} (cn : Bool) (n c n' c' : Nat) (h : Heap) (κ : Value → Heap → β) : binB fl Try.prog .eql 22 cn false (.slice none n c) (.slice none n' c') h κ = κ (.bool true) h := by
  simp only [binB, eq22a, fbK_eq]
theorem bin_eq22b {β : Type} {fl : β} (cn : Bool) (a : Addr) (n c n' c' : Nat) (h : Heap) (κ : Value → Heap → β) : binB fl Try.prog .eql 22 cn false (.slice (some a) n c) (.slice none n' c') h κ = κ (.bool false) h := by
  simp only [binB, eq22b, fbK_eq]
/-- slices.Clone at locks -/
theorem clone_w (L : List H4) (h : Heap) (v : Value) (κ : Value → Heap → Prop) (hv : Sl enc4 h v L) (hlen : L.length ≤ 1000000) (hlo : h.lo ≤ h.nx) (hk : ∀ v' h', Own enc4 h 30 h' v' L → Le h h' → κ v' h') : CallW Try.prog 81 [v] h κ := by
  refine callW_of mixed ?_
  rw [rs_81]
  have hv0 := hv
  obtain ⟨x, cap, rfl, hx⟩ := hv
  cases x with
  | none =>
    simp (disch := first | omega | (simp only [List.all_cons, List.all_nil, one_int, one_bool, one_str, one_ptr, one_sli, one_map, one_fun, one_ifc, Bool.and_self]; done) | (simp only [cells_agg, cells_int, cells_bool, cells_ptr, cells_slice, List.length_cons, List.length_nil]; done) | (simp only [List.length_cons, List.length_nil]; omega) | with_unfolding_all rfl) only [load1_eq, loadA_eq, storeV_eq, newBlock_eq, ldO_cells, ldO_ro, ldA_cells, ldA_ro, stO_cells, cellsK_eq, optK_some, RdK_some, AlK_some, SameK_true, wantV_true, wantV_false, wantV_undef, GuardW_true, GuardW_false, CondW_true, CondW_false, wrap_id, bin_add, bin_sub, bin_mul, bin_eql, bin_neq, bin_lss, bin_gtr, bin_leq, bin_geq, un_not, un_neg, conv_i64, pick_true, pick_false, lenSli_eq, fieldAddr_eq, nil_ptr, nil_fun, extract_0, extract_1, extract_2, callV_eq, lt_t, lt_f, eq_t, eq_lt, eq_gt, ptrTo, sliceTo, T.get_upd_same, T.get_updne, T.upd_same, Bool.not_true, Bool.not_false, decide_true, decide_false, List.drop_zero, List.take_succ_cons, List.take_zero, List.drop_succ_cons, List.getElem?_cons_zero, List.getElem?_cons_succ, Nat.zero_add, Nat.add_zero, slot_0, slot_s, cells_agg, cells_int, cells_bool, cells_ptr, cells_slice, over_all, fill_1, fill_nil, fill_cons, repeatL_0, repeatL_1, repeatL_2, over_s, over_0, over_e, reV_some, reN_some, reG_true, reG_false, veq_int, veq_bool, veq_ptr, veq_sli, veq_sln, veq_2, veq_4, Bool.and_true, Bool.true_and, bin_eq22a]
    by_cases hL : L = []
    · exact hk _ _ (.inl ⟨hL, .inl rfl⟩) (Le.refl _)
    · obtain ⟨b, o, e, _⟩ := hx hL; cases e
  | some a =>
    simp (disch := first | omega | (simp only [List.all_cons, List.all_nil, one_int, one_bool, one_str, one_ptr, one_sli, one_map, one_fun, one_ifc, Bool.and_self]; done) | (simp only [cells_agg, cells_int, cells_bool, cells_ptr, cells_slice, List.length_cons, List.length_nil]; done) | (simp only [List.length_cons, List.length_nil]; omega) | with_unfolding_all rfl) only [load1_eq, loadA_eq, storeV_eq, newBlock_eq, ldO_cells, ldO_ro, ldA_cells, ldA_ro, stO_cells, cellsK_eq, optK_some, RdK_some, AlK_some, SameK_true, wantV_true, wantV_false, wantV_undef, GuardW_true, GuardW_false, CondW_true, CondW_false, wrap_id, bin_add, bin_sub, bin_mul, bin_eql, bin_neq, bin_lss, bin_gtr, bin_leq, bin_geq, un_not, un_neg, conv_i64, pick_true, pick_false, lenSli_eq, fieldAddr_eq, nil_ptr, nil_fun, extract_0, extract_1, extract_2, callV_eq, lt_t, lt_f, eq_t, eq_lt, eq_gt, ptrTo, sliceTo, T.get_upd_same, T.get_updne, T.upd_same, Bool.not_true, Bool.not_false, decide_true, decide_false, List.drop_zero, List.take_succ_cons, List.take_zero, List.drop_succ_cons, List.getElem?_cons_zero, List.getElem?_cons_succ, Nat.zero_add, Nat.add_zero, slot_0, slot_s, cells_agg, cells_int, cells_bool, cells_ptr, cells_slice, over_all, fill_1, fill_nil, fill_cons, repeatL_0, repeatL_1, repeatL_2, over_s, over_0, over_e, reV_some, reN_some, reG_true, reG_false, veq_int, veq_bool, veq_ptr, veq_sli, veq_sln, veq_2, veq_4, Bool.and_true, Bool.true_and, bin_eq22b]
    have hle := (Le.refl h).new (cellsO [] 30 false)
    refine append_own (enc := enc4) (a := h) (L := []) (M := L) enc4_len enc4_one (by omega) (by omega) (.inl ⟨rfl, .inr ⟨_, _, rfl⟩⟩) (hv0.le hle) hle (by simpa using hlen) (by show h.lo ≤ h.nx + 1; omega) _ ?_
    intro v' h' ho hl _ _
    exact hk v' h' (by simpa using ho) hl
end Go.Proofs
