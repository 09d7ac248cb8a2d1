/-
  PROVED HERE: a part of the proof, by a calculus of weakest conditions over an abstract heap.
-/
import Derived.Test.YtlmkplcfmngigaaB3
set_option linter.unusedVariables false
set_option linter.unusedSimpArgs false
set_option maxRecDepth 100000
namespace Go.Proofs
open Go.Vai Go.Clashes

def above (p x : H4) : Bool := decide (0 < nmCmp x.t x.r p.t p.r)
def putH (L : List H4) (p : H4) : List H4 := match L.findIdx? (named p.t p.r) with
  | some i => L.set i p
  | none => match L.findIdx? (above p) with
    | some i => L.take i ++ [p] ++ L.drop i
    | none => L ++ [p]

theorem put1_w (p x : H4) (b : Nat) (h : Heap) (κ : Value → Heap → Prop) (hlo : h.lo ≤ h.nx) (hb : b < h.nx) (hg : h.bl.get b = some (cellsO (enc4 p) 30 false)) (hk : ∀ h', Le h h' → κ (.bool (above p x)) h') :
    CallW Try.prog 83 [aggH x, ptrTo b] h κ := by
  refine callW_of mixed ?_
  rw [rs_83]
  simp (disch := first | omega | (simp only [List.all_cons, List.all_nil, one_int, one_bool, one_str, one_ptr, one_sli, one_map, one_fun, one_ifc, Bool.and_self]; done) | (simp only [cells_agg, cells_int, cells_bool, cells_ptr, cells_slice, List.length_cons, List.length_nil]; done) | (simp only [List.length_cons, List.length_nil]; omega) | with_unfolding_all rfl) only [load1_eq, loadA_eq, storeV_eq, newBlock_eq, ldO_cells, ldO_ro, ldA_cells, ldA_ro, stO_cells, cellsK_eq, optK_some, RdK_some, AlK_some, SameK_true, wantV_true, wantV_false, wantV_undef, GuardW_true, GuardW_false, CondW_true, CondW_false, wrap_id, bin_add, bin_sub, bin_mul, bin_eql, bin_neq, bin_lss, bin_gtr, bin_leq, bin_geq, un_not, un_neg, conv_i64, pick_true, pick_false, lenSli_eq, fieldAddr_eq, nil_ptr, nil_fun, extract_0, extract_1, extract_2, callV_eq, lt_t, lt_f, eq_t, eq_lt, eq_gt, ptrTo, sliceTo, T.get_upd_same, T.get_updne, T.upd_same, Bool.not_true, Bool.not_false, decide_true, decide_false, List.drop_zero, List.take_succ_cons, List.take_zero, List.drop_succ_cons, List.getElem?_cons_zero, List.getElem?_cons_succ, Nat.zero_add, Nat.add_zero, slot_0, slot_s, cells_agg, cells_int, cells_bool, cells_ptr, cells_slice, over_all, fill_1, fill_nil, fill_cons, repeatL_0, repeatL_1, repeatL_2, over_s, over_0, over_e, reV_some, reN_some, reG_true, reG_false, veq_int, veq_bool, veq_ptr, veq_sli, veq_sln, veq_2, veq_4, Bool.and_true, Bool.true_and, aggH, enc4, hg]
  refine nmCompare_w _ _ _ _ ?_
  have := hk _ ((Le.refl h).new (cellsO (enc4 x) 30 false))
  by_cases h1 : 0 < nmCmp x.t x.r p.t p.r
  · simp (disch := first | omega | (simp only [List.all_cons, List.all_nil, one_int, one_bool, one_str, one_ptr, one_sli, one_map, one_fun, one_ifc, Bool.and_self]; done) | (simp only [cells_agg, cells_int, cells_bool, cells_ptr, cells_slice, List.length_cons, List.length_nil]; done) | (simp only [List.length_cons, List.length_nil]; omega) | with_unfolding_all rfl) only [load1_eq, loadA_eq, storeV_eq, newBlock_eq, ldO_cells, ldO_ro, ldA_cells, ldA_ro, stO_cells, cellsK_eq, optK_some, RdK_some, AlK_some, SameK_true, wantV_true, wantV_false, wantV_undef, GuardW_true, GuardW_false, CondW_true, CondW_false, wrap_id, bin_add, bin_sub, bin_mul, bin_eql, bin_neq, bin_lss, bin_gtr, bin_leq, bin_geq, un_not, un_neg, conv_i64, pick_true, pick_false, lenSli_eq, fieldAddr_eq, nil_ptr, nil_fun, extract_0, extract_1, extract_2, callV_eq, lt_t, lt_f, eq_t, eq_lt, eq_gt, ptrTo, sliceTo, T.get_upd_same, T.get_updne, T.upd_same, Bool.not_true, Bool.not_false, decide_true, decide_false, List.drop_zero, List.take_succ_cons, List.take_zero, List.drop_succ_cons, List.getElem?_cons_zero, List.getElem?_cons_succ, Nat.zero_add, Nat.add_zero, slot_0, slot_s, cells_agg, cells_int, cells_bool, cells_ptr, cells_slice, over_all, fill_1, fill_nil, fill_cons, repeatL_0, repeatL_1, repeatL_2, over_s, over_0, over_e, reV_some, reN_some, reG_true, reG_false, veq_int, veq_bool, veq_ptr, veq_sli, veq_sln, veq_2, veq_4, Bool.and_true, Bool.true_and]
    simp only [above, dec_t h1, enc4] at this; exact this
  · simp (disch := first | omega | (simp only [List.all_cons, List.all_nil, one_int, one_bool, one_str, one_ptr, one_sli, one_map, one_fun, one_ifc, Bool.and_self]; done) | (simp only [cells_agg, cells_int, cells_bool, cells_ptr, cells_slice, List.length_cons, List.length_nil]; done) | (simp only [List.length_cons, List.length_nil]; omega) | with_unfolding_all rfl) only [load1_eq, loadA_eq, storeV_eq, newBlock_eq, ldO_cells, ldO_ro, ldA_cells, ldA_ro, stO_cells, cellsK_eq, optK_some, RdK_some, AlK_some, SameK_true, wantV_true, wantV_false, wantV_undef, GuardW_true, GuardW_false, CondW_true, CondW_false, wrap_id, bin_add, bin_sub, bin_mul, bin_eql, bin_neq, bin_lss, bin_gtr, bin_leq, bin_geq, un_not, un_neg, conv_i64, pick_true, pick_false, lenSli_eq, fieldAddr_eq, nil_ptr, nil_fun, extract_0, extract_1, extract_2, callV_eq, lt_t, lt_f, eq_t, eq_lt, eq_gt, ptrTo, sliceTo, T.get_upd_same, T.get_updne, T.upd_same, Bool.not_true, Bool.not_false, decide_true, decide_false, List.drop_zero, List.take_succ_cons, List.take_zero, List.drop_succ_cons, List.getElem?_cons_zero, List.getElem?_cons_succ, Nat.zero_add, Nat.add_zero, slot_0, slot_s, cells_agg, cells_int, cells_bool, cells_ptr, cells_slice, over_all, fill_1, fill_nil, fill_cons, repeatL_0, repeatL_1, repeatL_2, over_s, over_0, over_e, reV_some, reN_some, reG_true, reG_false, veq_int, veq_bool, veq_ptr, veq_sli, veq_sln, veq_2, veq_4, Bool.and_true, Bool.true_and]
    simp only [above, dec_f h1, enc4] at this; exact this

/-- cache.Put -/
theorem put_w (L : List H4) (p : H4) (h : Heap) (v : Value) (κ : Value → Heap → Prop) (hv : Sl enc4 h v L) (hlen : L.length ≤ 100000) (hlo : h.lo ≤ h.nx) (hk : ∀ v' h', Sl enc4 h' v' (putH L p) → Le h h' → κ v' h') :
    CallW Try.prog 44 [v, aggH p] h κ := by
  refine callW_of mixed ?_
  rw [rs_44]
  simp (disch := first | omega | (simp only [List.all_cons, List.all_nil, one_int, one_bool, one_str, one_ptr, one_sli, one_map, one_fun, one_ifc, Bool.and_self]; done) | (simp only [cells_agg, cells_int, cells_bool, cells_ptr, cells_slice, List.length_cons, List.length_nil]; done) | (simp only [List.length_cons, List.length_nil]; omega) | with_unfolding_all rfl) only [load1_eq, loadA_eq, storeV_eq, newBlock_eq, ldO_cells, ldO_ro, ldA_cells, ldA_ro, stO_cells, cellsK_eq, optK_some, RdK_some, AlK_some, SameK_true, wantV_true, wantV_false, wantV_undef, GuardW_true, GuardW_false, CondW_true, CondW_false, wrap_id, bin_add, bin_sub, bin_mul, bin_eql, bin_neq, bin_lss, bin_gtr, bin_leq, bin_geq, un_not, un_neg, conv_i64, pick_true, pick_false, lenSli_eq, fieldAddr_eq, nil_ptr, nil_fun, extract_0, extract_1, extract_2, callV_eq, lt_t, lt_f, eq_t, eq_lt, eq_gt, ptrTo, sliceTo, T.get_upd_same, T.get_updne, T.upd_same, Bool.not_true, Bool.not_false, decide_true, decide_false, List.drop_zero, List.take_succ_cons, List.take_zero, List.drop_succ_cons, List.getElem?_cons_zero, List.getElem?_cons_succ, Nat.zero_add, Nat.add_zero, slot_0, slot_s, cells_agg, cells_int, cells_bool, cells_ptr, cells_slice, over_all, fill_1, fill_nil, fill_cons, repeatL_0, repeatL_1, repeatL_2, over_s, over_0, over_e, reV_some, reN_some, reG_true, reG_false, veq_int, veq_bool, veq_ptr, veq_sli, veq_sln, veq_2, veq_4, Bool.and_true, Bool.true_and, aggH, enc4]
  obtain ⟨hA, eA⟩ : ∃ hA : Heap, hA = ⟨h.nx + 1, h.bl.upd h.nx (cellsO (enc4 p) 30 false), h.lo⟩ := ⟨_, rfl⟩
  have hleA : Le h hA := by subst eA; exact (Le.refl h).new _
  have gA : hA.bl.get h.nx = some (cellsO (enc4 p) 30 false) := by subst eA; exact T.get_upd_same _ _ _
  have nA : hA.nx = h.nx + 1 := by subst eA; rfl
  have lA : hA.lo = h.lo := by subst eA; rfl
  simp only [enc4] at eA
  rw [← eA]
  clear eA
  refine clone_w L hA v _ (hv.le hleA) (by omega) (by omega) ?_
  intro v2 h2 ho2 hle2
  have n2 := hle2.nx
  have l2 := hle2.lo
  have g2 := (hle2.get h.nx (by omega)).trans gA
  simp (disch := first | omega | (simp only [List.all_cons, List.all_nil, one_int, one_bool, one_str, one_ptr, one_sli, one_map, one_fun, one_ifc, Bool.and_self]; done) | (simp only [cells_agg, cells_int, cells_bool, cells_ptr, cells_slice, List.length_cons, List.length_nil]; done) | (simp only [List.length_cons, List.length_nil]; omega) | with_unfolding_all rfl) only [load1_eq, loadA_eq, storeV_eq, newBlock_eq, ldO_cells, ldO_ro, ldA_cells, ldA_ro, stO_cells, cellsK_eq, optK_some, RdK_some, AlK_some, SameK_true, wantV_true, wantV_false, wantV_undef, GuardW_true, GuardW_false, CondW_true, CondW_false, wrap_id, bin_add, bin_sub, bin_mul, bin_eql, bin_neq, bin_lss, bin_gtr, bin_leq, bin_geq, un_not, un_neg, conv_i64, pick_true, pick_false, lenSli_eq, fieldAddr_eq, nil_ptr, nil_fun, extract_0, extract_1, extract_2, callV_eq, lt_t, lt_f, eq_t, eq_lt, eq_gt, ptrTo, sliceTo, T.get_upd_same, T.get_updne, T.upd_same, Bool.not_true, Bool.not_false, decide_true, decide_false, List.drop_zero, List.take_succ_cons, List.take_zero, List.drop_succ_cons, List.getElem?_cons_zero, List.getElem?_cons_succ, Nat.zero_add, Nat.add_zero, slot_0, slot_s, cells_agg, cells_int, cells_bool, cells_ptr, cells_slice, over_all, fill_1, fill_nil, fill_cons, repeatL_0, repeatL_1, repeatL_2, over_s, over_0, over_e, reV_some, reN_some, reG_true, reG_false, veq_int, veq_bool, veq_ptr, veq_sli, veq_sln, veq_2, veq_4, Bool.and_true, Bool.true_and, g2, enc4]
  refine at_w L p.t p.r h2 v2 _ ho2.sl (by omega) (by omega) ?_
  intro h3 hle3
  have n3 := hle3.nx
  have l3 := hle3.lo
  have g3 := (hle3.get h.nx (by omega)).trans g2
  have hall3 := hle2.trans hle3
  rcases findIdx_find L (named p.t p.r) with ⟨f1, _⟩ | ⟨i, q, f1, f2, _, _⟩
  · simp only [f1, optI]
    simp (disch := first | omega | (simp only [List.all_cons, List.all_nil, one_int, one_bool, one_str, one_ptr, one_sli, one_map, one_fun, one_ifc, Bool.and_self]; done) | (simp only [cells_agg, cells_int, cells_bool, cells_ptr, cells_slice, List.length_cons, List.length_nil]; done) | (simp only [List.length_cons, List.length_nil]; omega) | with_unfolding_all rfl) only [load1_eq, loadA_eq, storeV_eq, newBlock_eq, ldO_cells, ldO_ro, ldA_cells, ldA_ro, stO_cells, cellsK_eq, optK_some, RdK_some, AlK_some, SameK_true, wantV_true, wantV_false, wantV_undef, GuardW_true, GuardW_false, CondW_true, CondW_false, wrap_id, bin_add, bin_sub, bin_mul, bin_eql, bin_neq, bin_lss, bin_gtr, bin_leq, bin_geq, un_not, un_neg, conv_i64, pick_true, pick_false, lenSli_eq, fieldAddr_eq, nil_ptr, nil_fun, extract_0, extract_1, extract_2, callV_eq, lt_t, lt_f, eq_t, eq_lt, eq_gt, ptrTo, sliceTo, T.get_upd_same, T.get_updne, T.upd_same, Bool.not_true, Bool.not_false, decide_true, decide_false, List.drop_zero, List.take_succ_cons, List.take_zero, List.drop_succ_cons, List.getElem?_cons_zero, List.getElem?_cons_succ, Nat.zero_add, Nat.add_zero, slot_0, slot_s, cells_agg, cells_int, cells_bool, cells_ptr, cells_slice, over_all, fill_1, fill_nil, fill_cons, repeatL_0, repeatL_1, repeatL_2, over_s, over_0, over_e, reV_some, reN_some, reG_true, reG_false, veq_int, veq_bool, veq_ptr, veq_sli, veq_sln, veq_2, veq_4, Bool.and_true, Bool.true_and, rs_44_0]
    refine indexFunc_w L (above p) h3 v2 _ _ (ho2.sl.le hle3) (by omega) ?_ ?_
    · intro x hx h4 κ4 hle4 hk4
      have n4 := hle4.nx
      have l4 := hle4.lo
      simp (disch := first | omega | (simp only [List.all_cons, List.all_nil, one_int, one_bool, one_str, one_ptr, one_sli, one_map, one_fun, one_ifc, Bool.and_self]; done) | (simp only [cells_agg, cells_int, cells_bool, cells_ptr, cells_slice, List.length_cons, List.length_nil]; done) | (simp only [List.length_cons, List.length_nil]; omega) | with_unfolding_all rfl) only [load1_eq, loadA_eq, storeV_eq, newBlock_eq, ldO_cells, ldO_ro, ldA_cells, ldA_ro, stO_cells, cellsK_eq, optK_some, RdK_some, AlK_some, SameK_true, wantV_true, wantV_false, wantV_undef, GuardW_true, GuardW_false, CondW_true, CondW_false, wrap_id, bin_add, bin_sub, bin_mul, bin_eql, bin_neq, bin_lss, bin_gtr, bin_leq, bin_geq, un_not, un_neg, conv_i64, pick_true, pick_false, lenSli_eq, fieldAddr_eq, nil_ptr, nil_fun, extract_0, extract_1, extract_2, callV_eq, lt_t, lt_f, eq_t, eq_lt, eq_gt, ptrTo, sliceTo, T.get_upd_same, T.get_updne, T.upd_same, Bool.not_true, Bool.not_false, decide_true, decide_false, List.drop_zero, List.take_succ_cons, List.take_zero, List.drop_succ_cons, List.getElem?_cons_zero, List.getElem?_cons_succ, Nat.zero_add, Nat.add_zero, slot_0, slot_s, cells_agg, cells_int, cells_bool, cells_ptr, cells_slice, over_all, fill_1, fill_nil, fill_cons, repeatL_0, repeatL_1, repeatL_2, over_s, over_0, over_e, reV_some, reN_some, reG_true, reG_false, veq_int, veq_bool, veq_ptr, veq_sli, veq_sln, veq_2, veq_4, Bool.and_true, Bool.true_and]
      exact put1_w p x h.nx h4 κ4 (by omega) (by omega) ((hle4.get h.nx (by omega)).trans g3) hk4
    · intro h4 hle4
      have n4 := hle4.nx
      have l4 := hle4.lo
      have g4 := (hle4.get h.nx (by omega)).trans g3
      have hall4 := hall3.trans hle4
      refine ⟨fun l h' => h4 = h' ∧ ∃ j : Nat, slot l 4 = .int .i64 (j : Int) ∧ j ≤ L.length ∧ L.take j ++ [p] ++ L.drop j = putH L p, ?_, ?_⟩
      · rcases findIdx_find L (above p) with ⟨e1, _⟩ | ⟨j, q, e1, e2, _, _⟩
        · simp only [e1, optI]
          simp (disch := first | omega | (simp only [List.all_cons, List.all_nil, one_int, one_bool, one_str, one_ptr, one_sli, one_map, one_fun, one_ifc, Bool.and_self]; done) | (simp only [cells_agg, cells_int, cells_bool, cells_ptr, cells_slice, List.length_cons, List.length_nil]; done) | (simp only [List.length_cons, List.length_nil]; omega) | with_unfolding_all rfl) only [load1_eq, loadA_eq, storeV_eq, newBlock_eq, ldO_cells, ldO_ro, ldA_cells, ldA_ro, stO_cells, cellsK_eq, optK_some, RdK_some, AlK_some, SameK_true, wantV_true, wantV_false, wantV_undef, GuardW_true, GuardW_false, CondW_true, CondW_false, wrap_id, bin_add, bin_sub, bin_mul, bin_eql, bin_neq, bin_lss, bin_gtr, bin_leq, bin_geq, un_not, un_neg, conv_i64, pick_true, pick_false, lenSli_eq, fieldAddr_eq, nil_ptr, nil_fun, extract_0, extract_1, extract_2, callV_eq, lt_t, lt_f, eq_t, eq_lt, eq_gt, ptrTo, sliceTo, T.get_upd_same, T.get_updne, T.upd_same, Bool.not_true, Bool.not_false, decide_true, decide_false, List.drop_zero, List.take_succ_cons, List.take_zero, List.drop_succ_cons, List.getElem?_cons_zero, List.getElem?_cons_succ, Nat.zero_add, Nat.add_zero, slot_0, slot_s, cells_agg, cells_int, cells_bool, cells_ptr, cells_slice, over_all, fill_1, fill_nil, fill_cons, repeatL_0, repeatL_1, repeatL_2, over_s, over_0, over_e, reV_some, reN_some, reG_true, reG_false, veq_int, veq_bool, veq_ptr, veq_sli, veq_sln, veq_2, veq_4, Bool.and_true, Bool.true_and, ho2.sl.len]
          exact ⟨trivial, L.length, rfl, Nat.le_refl _, by simp [putH, f1, e1]⟩
        · simp only [e1, optI]
          simp (disch := first | omega | (simp only [List.all_cons, List.all_nil, one_int, one_bool, one_str, one_ptr, one_sli, one_map, one_fun, one_ifc, Bool.and_self]; done) | (simp only [cells_agg, cells_int, cells_bool, cells_ptr, cells_slice, List.length_cons, List.length_nil]; done) | (simp only [List.length_cons, List.length_nil]; omega) | with_unfolding_all rfl) only [load1_eq, loadA_eq, storeV_eq, newBlock_eq, ldO_cells, ldO_ro, ldA_cells, ldA_ro, stO_cells, cellsK_eq, optK_some, RdK_some, AlK_some, SameK_true, wantV_true, wantV_false, wantV_undef, GuardW_true, GuardW_false, CondW_true, CondW_false, wrap_id, bin_add, bin_sub, bin_mul, bin_eql, bin_neq, bin_lss, bin_gtr, bin_leq, bin_geq, un_not, un_neg, conv_i64, pick_true, pick_false, lenSli_eq, fieldAddr_eq, nil_ptr, nil_fun, extract_0, extract_1, extract_2, callV_eq, lt_t, lt_f, eq_t, eq_lt, eq_gt, ptrTo, sliceTo, T.get_upd_same, T.get_updne, T.upd_same, Bool.not_true, Bool.not_false, decide_true, decide_false, List.drop_zero, List.take_succ_cons, List.take_zero, List.drop_succ_cons, List.getElem?_cons_zero, List.getElem?_cons_succ, Nat.zero_add, Nat.add_zero, slot_0, slot_s, cells_agg, cells_int, cells_bool, cells_ptr, cells_slice, over_all, fill_1, fill_nil, fill_cons, repeatL_0, repeatL_1, repeatL_2, over_s, over_0, over_e, reV_some, reN_some, reG_true, reG_false, veq_int, veq_bool, veq_ptr, veq_sli, veq_sln, veq_2, veq_4, Bool.and_true, Bool.true_and]
          have hj := (List.getElem?_eq_some_iff.1 e2).1
          exact ⟨trivial, j, rfl, by omega, by simp [putH, f1, e1]⟩
      · rintro l h' ⟨rfl, j, hs, hj, hput⟩
        simp (disch := first | omega | (simp only [List.all_cons, List.all_nil, one_int, one_bool, one_str, one_ptr, one_sli, one_map, one_fun, one_ifc, Bool.and_self]; done) | (simp only [cells_agg, cells_int, cells_bool, cells_ptr, cells_slice, List.length_cons, List.length_nil]; done) | (simp only [List.length_cons, List.length_nil]; omega) | with_unfolding_all rfl) only [load1_eq, loadA_eq, storeV_eq, newBlock_eq, ldO_cells, ldO_ro, ldA_cells, ldA_ro, stO_cells, cellsK_eq, optK_some, RdK_some, AlK_some, SameK_true, wantV_true, wantV_false, wantV_undef, GuardW_true, GuardW_false, CondW_true, CondW_false, wrap_id, bin_add, bin_sub, bin_mul, bin_eql, bin_neq, bin_lss, bin_gtr, bin_leq, bin_geq, un_not, un_neg, conv_i64, pick_true, pick_false, lenSli_eq, fieldAddr_eq, nil_ptr, nil_fun, extract_0, extract_1, extract_2, callV_eq, lt_t, lt_f, eq_t, eq_lt, eq_gt, ptrTo, sliceTo, T.get_upd_same, T.get_updne, T.upd_same, Bool.not_true, Bool.not_false, decide_true, decide_false, List.drop_zero, List.take_succ_cons, List.take_zero, List.drop_succ_cons, List.getElem?_cons_zero, List.getElem?_cons_succ, Nat.zero_add, Nat.add_zero, slot_0, slot_s, cells_agg, cells_int, cells_bool, cells_ptr, cells_slice, over_all, fill_1, fill_nil, fill_cons, repeatL_0, repeatL_1, repeatL_2, over_s, over_0, over_e, reV_some, reN_some, reG_true, reG_false, veq_int, veq_bool, veq_ptr, veq_sli, veq_sln, veq_2, veq_4, Bool.and_true, Bool.true_and, hs, g4, enc4]
        refine insert_w (a := hA) (L := L) (p := p) hj ((ho2.le (hle3.trans hle4)).le ((Le.refl _).new _)) ((hall4).new _) hlen (by show h4.lo ≤ h4.nx + 1; omega) (T.get_upd_same _ _ _) (Nat.lt_succ_self _) ?_ _ ?_
        · intro hlt b n c e
          subst e
          rcases ho2 with ⟨e, _⟩ | ⟨b', e, _, b2, _⟩
          · subst e; simp at hlt
          · cases e; have := (hle3.trans hle4).nx; omega
        · intro v' h5 ho5 hle5
          rw [hput] at ho5
          exact hk v' h5 ho5.sl (hleA.trans hle5)
  · simp only [f1, optI]
    have hi : i < L.length := (List.getElem?_eq_some_iff.1 f2).1
    have ho3 := ho2.le hle3
    rcases ho3 with ⟨rfl, _⟩ | ⟨b, rfl, b1, b2, b3, b4⟩
    · simp at hi
    · have hfl := flat4 L
      have hov := over_flat L i p hi
      simp only [enc4] at hov
      simp (disch := first | omega | (simp only [List.all_cons, List.all_nil, one_int, one_bool, one_str, one_ptr, one_sli, one_map, one_fun, one_ifc, Bool.and_self]; done) | (simp only [cells_agg, cells_int, cells_bool, cells_ptr, cells_slice, List.length_cons, List.length_nil]; done) | (simp only [List.length_cons, List.length_nil]; omega) | with_unfolding_all rfl) only [load1_eq, loadA_eq, storeV_eq, newBlock_eq, ldO_cells, ldO_ro, ldA_cells, ldA_ro, stO_cells, cellsK_eq, optK_some, RdK_some, AlK_some, SameK_true, wantV_true, wantV_false, wantV_undef, GuardW_true, GuardW_false, CondW_true, CondW_false, wrap_id, bin_add, bin_sub, bin_mul, bin_eql, bin_neq, bin_lss, bin_gtr, bin_leq, bin_geq, un_not, un_neg, conv_i64, pick_true, pick_false, lenSli_eq, fieldAddr_eq, nil_ptr, nil_fun, extract_0, extract_1, extract_2, callV_eq, lt_t, lt_f, eq_t, eq_lt, eq_gt, ptrTo, sliceTo, T.get_upd_same, T.get_updne, T.upd_same, Bool.not_true, Bool.not_false, decide_true, decide_false, List.drop_zero, List.take_succ_cons, List.take_zero, List.drop_succ_cons, List.getElem?_cons_zero, List.getElem?_cons_succ, Nat.zero_add, Nat.add_zero, slot_0, slot_s, cells_agg, cells_int, cells_bool, cells_ptr, cells_slice, over_all, fill_1, fill_nil, fill_cons, repeatL_0, repeatL_1, repeatL_2, over_s, over_0, over_e, reV_some, reN_some, reG_true, reG_false, veq_int, veq_bool, veq_ptr, veq_sli, veq_sln, veq_2, veq_4, Bool.and_true, Bool.true_and, g3, indexAddr_eq, b4, enc4, hov]
      have hput : putH L p = L.set i p := by simp only [putH, f1]
      rw [hput] at hk
      exact hk _ _ ⟨_, openCap, by rw [List.length_set], fun _ => ⟨b, 0, rfl, b2, by rw [T.get_upd_same]; exact Has.all⟩⟩ (hleA.trans ((hall3).set b1 _))
end Go.Proofs
