/-
  PROVED HERE: a part of the proof, by a calculus of weakest conditions over an abstract heap.
-/
import Derived.Test.YtlmkplcfmngigaaB4
set_option linter.unusedVariables false
set_option linter.unusedSimpArgs false
set_option maxRecDepth 100000
namespace Go.Proofs
open Go.Vai Go.Clashes

def z4 : List Value := [.int .i64 0, .int .i64 0, .int .i64 0, .int .i64 0]
theorem rep_z4 (n : Nat) : (repeatL z4 n).length = n * 4 ∧ (repeatL z4 n).all oneC = true := by
  induction n with
  | zero => exact ⟨rfl, rfl⟩
  | succ n ih => simp only [repeatL, List.length_append, List.all_append, ih]; exact ⟨by simp [z4]; omega, rfl⟩

theorem filter_take_succ {F : H4 → Bool} {L : List H4} {j : Nat} {p : H4} (hp : L[j]? = some p) : (L.take (j + 1)).filter F = (L.take j).filter F ++ if F p then [p] else [] := by
  obtain ⟨hj, rfl⟩ := List.getElem?_eq_some_iff.1 hp
  rw [List.take_succ_eq_append_getElem hj, List.filter_append]
  cases h : F L[j] <;> simp [h]
theorem filter_all {F : H4 → Bool} {L : List H4} (h : ∀ p ∈ L, F p = true) : L.filter F = L := List.filter_eq_self.2 h

/-- slices.DeleteFunc at locks, of a slice of the call's own -/
theorem deleteFunc_w (a h : Heap) (L : List H4) (F : H4 → Bool) (v fv : Value) (κ : Value → Heap → Prop) (hle : Le a h) (ho : Own enc4 a 30 h v L) (hlen : L.length ≤ 100000) (hlo : a.lo ≤ a.nx)
    (hF : ∀ p, ∀ (h1 : Heap) (κ1 : Value → Heap → Prop), Le a h1 → (∀ h2, Le h1 h2 → κ1 (.bool (F p)) h2) → CallV Try.prog fv [aggH p] h1 κ1)
    (hk : ∀ v' h', Sl enc4 h' v' (L.filter fun p => !F p) → Le a h' → κ v' h') : CallW Try.prog 90 [v, fv] h κ := by
  refine callW_of mixed ?_
  rw [rs_90]
  refine indexFunc_w L F h v fv _ ho.sl (by omega) (fun p _ h1 κ1 hl hk1 => hF p h1 κ1 (hle.trans hl) hk1) ?_
  intro h1 hle1
  have hall1 := hle.trans hle1
  have n1 := hall1.nx
  have l1 := hall1.lo
  rcases findIdx_find L F with ⟨e1, e2⟩ | ⟨i0, p0, e1, e2, e3, _⟩
  · simp only [e1, optI]
    simp (disch := first | omega | (simp only [List.all_cons, List.all_nil, one_int, one_bool, one_str, one_ptr, one_sli, one_map, one_fun, one_ifc, Bool.and_self]; done) | (simp only [cells_agg, cells_int, cells_bool, cells_ptr, cells_slice, List.length_cons, List.length_nil]; done) | (simp only [List.length_cons, List.length_nil]; omega) | with_unfolding_all rfl) only [load1_eq, loadA_eq, storeV_eq, newBlock_eq, ldO_cells, ldO_ro, ldA_cells, ldA_ro, stO_cells, cellsK_eq, optK_some, RdK_some, AlK_some, SameK_true, wantV_true, wantV_false, wantV_undef, GuardW_true, GuardW_false, CondW_true, CondW_false, wrap_id, bin_add, bin_sub, bin_mul, bin_eql, bin_neq, bin_lss, bin_gtr, bin_leq, bin_geq, un_not, un_neg, conv_i64, pick_true, pick_false, lenSli_eq, fieldAddr_eq, nil_ptr, nil_fun, extract_0, extract_1, extract_2, callV_eq, lt_t, lt_f, eq_t, eq_lt, eq_gt, ptrTo, sliceTo, T.get_upd_same, T.get_updne, T.upd_same, Bool.not_true, Bool.not_false, decide_true, decide_false, List.drop_zero, List.take_succ_cons, List.take_zero, List.drop_succ_cons, List.getElem?_cons_zero, List.getElem?_cons_succ, Nat.zero_add, Nat.add_zero, slot_0, slot_s, cells_agg, cells_int, cells_bool, cells_ptr, cells_slice, over_all, fill_1, fill_nil, fill_cons, repeatL_0, repeatL_1, repeatL_2, over_s, over_0, over_e, reV_some, reN_some, reG_true, reG_false, veq_int, veq_bool, veq_ptr, veq_sli, veq_sln, veq_2, veq_4, Bool.and_true, Bool.true_and]
    have : (L.filter fun p => !F p) = L := filter_all fun p hp => by
      rw [List.findIdx?_eq_none_iff] at e1
      have := e1 p hp
      simp [this]
    rw [this] at hk
    exact hk v h1 (ho.sl.le hle1) hall1
  · simp only [e1, optI]
    have hi0 : i0 < L.length := (List.getElem?_eq_some_iff.1 e2).1
    have hbefore : (L.take i0).filter (fun p => !F p) = L.take i0 := filter_all fun p hp => by
      rw [List.findIdx?_eq_some_iff_getElem] at e1
      obtain ⟨_, _, e1⟩ := e1
      obtain ⟨j, hj, rfl⟩ := List.mem_iff_getElem.1 hp
      have hj' : j < i0 := by simp at hj; omega
      have := e1 j hj'
      simp only [List.getElem_take]
      simpa using this
    rcases ho.le hle1 with ⟨rfl, _⟩ | ⟨b, rfl, b1, b2, b3, b4⟩
    · simp at hi0
    simp (disch := first | omega | (simp only [List.all_cons, List.all_nil, one_int, one_bool, one_str, one_ptr, one_sli, one_map, one_fun, one_ifc, Bool.and_self]; done) | (simp only [cells_agg, cells_int, cells_bool, cells_ptr, cells_slice, List.length_cons, List.length_nil]; done) | (simp only [List.length_cons, List.length_nil]; omega) | with_unfolding_all rfl) only [load1_eq, loadA_eq, storeV_eq, newBlock_eq, ldO_cells, ldO_ro, ldA_cells, ldA_ro, stO_cells, cellsK_eq, optK_some, RdK_some, AlK_some, SameK_true, wantV_true, wantV_false, wantV_undef, GuardW_true, GuardW_false, CondW_true, CondW_false, wrap_id, bin_add, bin_sub, bin_mul, bin_eql, bin_neq, bin_lss, bin_gtr, bin_leq, bin_geq, un_not, un_neg, conv_i64, pick_true, pick_false, lenSli_eq, fieldAddr_eq, nil_ptr, nil_fun, extract_0, extract_1, extract_2, callV_eq, lt_t, lt_f, eq_t, eq_lt, eq_gt, ptrTo, sliceTo, T.get_upd_same, T.get_updne, T.upd_same, Bool.not_true, Bool.not_false, decide_true, decide_false, List.drop_zero, List.take_succ_cons, List.take_zero, List.drop_succ_cons, List.getElem?_cons_zero, List.getElem?_cons_succ, Nat.zero_add, Nat.add_zero, slot_0, slot_s, cells_agg, cells_int, cells_bool, cells_ptr, cells_slice, over_all, fill_1, fill_nil, fill_cons, repeatL_0, repeatL_1, repeatL_2, over_s, over_0, over_e, reV_some, reN_some, reG_true, reG_false, veq_int, veq_bool, veq_ptr, veq_sli, veq_sln, veq_2, veq_4, Bool.and_true, Bool.true_and]
    refine ⟨fun n l h2 => Le a h2 ∧ b < h2.nx ∧ ∃ (j i : Nat) (K : List H4), slot l 22 = .int .i64 (j : Int) ∧ slot l 19 = .int .i64 (i : Int) ∧ j ≤ L.length ∧ i < j ∧ n = L.length - j ∧ K.length = L.length ∧
        K.take i = (L.take j).filter (fun p => !F p) ∧ K.drop j = L.drop j ∧ h2.bl.get b = some (cellsO (K.flatMap enc4) 30 true),
      ⟨_, hall1, b2, i0 + 1, i0, L, rfl, rfl, by omega, by omega, rfl, rfl, ?_, rfl, b4⟩, ?_⟩
    · rw [filter_take_succ e2, hbefore, e3]; simp
    rintro n l h2 ⟨hle2, hb2, j, i, K, s1, s2, hj, hij, rfl, hK, hK1, hK2, hg⟩
    have n2 := hle2.nx
    have l2 := hle2.lo
    by_cases hlt : j < L.length
    · obtain ⟨p, hp⟩ : ∃ p, L[j]? = some p := ⟨_, List.getElem?_eq_getElem hlt⟩
      have hpK : K[j]? = some p := by
        have : (K.drop j)[0]? = (L.drop j)[0]? := by rw [hK2]
        simpa [hp] using this
      have hslK : Sl enc4 h2 (.slice (some ⟨b, 0, none⟩) L.length openCap) K := ⟨_, openCap, by rw [hK], fun _ => ⟨b, 0, rfl, hb2, by rw [hg]; exact Has.all⟩⟩
      obtain ⟨b', o', hb', hat, hld⟩ := ld4 hslK j hpK
      have bat := hat Nat 0 h2 fun v _ => match v with | .pointer (some a) => a.block | _ => 0
      rw [indexAddr_eq _ _ _ _ _ _ _ _ hlt] at bat
      have hbb : b = b' := bat
      subst hbb
      simp (disch := first | omega | (simp only [List.all_cons, List.all_nil, one_int, one_bool, one_str, one_ptr, one_sli, one_map, one_fun, one_ifc, Bool.and_self]; done) | (simp only [cells_agg, cells_int, cells_bool, cells_ptr, cells_slice, List.length_cons, List.length_nil]; done) | (simp only [List.length_cons, List.length_nil]; omega) | with_unfolding_all rfl) only [load1_eq, loadA_eq, storeV_eq, newBlock_eq, ldO_cells, ldO_ro, ldA_cells, ldA_ro, stO_cells, cellsK_eq, optK_some, RdK_some, AlK_some, SameK_true, wantV_true, wantV_false, wantV_undef, GuardW_true, GuardW_false, CondW_true, CondW_false, wrap_id, bin_add, bin_sub, bin_mul, bin_eql, bin_neq, bin_lss, bin_gtr, bin_leq, bin_geq, un_not, un_neg, conv_i64, pick_true, pick_false, lenSli_eq, fieldAddr_eq, nil_ptr, nil_fun, extract_0, extract_1, extract_2, callV_eq, lt_t, lt_f, eq_t, eq_lt, eq_gt, ptrTo, sliceTo, T.get_upd_same, T.get_updne, T.upd_same, Bool.not_true, Bool.not_false, decide_true, decide_false, List.drop_zero, List.take_succ_cons, List.take_zero, List.drop_succ_cons, List.getElem?_cons_zero, List.getElem?_cons_succ, Nat.zero_add, Nat.add_zero, slot_0, slot_s, cells_agg, cells_int, cells_bool, cells_ptr, cells_slice, over_all, fill_1, fill_nil, fill_cons, repeatL_0, repeatL_1, repeatL_2, over_s, over_0, over_e, reV_some, reN_some, reG_true, reG_false, veq_int, veq_bool, veq_ptr, veq_sli, veq_sln, veq_2, veq_4, Bool.and_true, Bool.true_and, rs_90_1, s1, s2, hat, hld]
      refine ⟨fun l h' => Le a h' ∧ b < h'.nx ∧ ∃ (i' : Nat) (K' : List H4), slot l 15 = .int .i64 (i' : Int) ∧ i' < j + 1 ∧ K'.length = L.length ∧
        K'.take i' = (L.take (j + 1)).filter (fun p => !F p) ∧ K'.drop (j + 1) = L.drop (j + 1) ∧ h'.bl.get b = some (cellsO (K'.flatMap enc4) 30 true), ?_, ?_⟩
      · simp (disch := first | omega | (simp only [List.all_cons, List.all_nil, one_int, one_bool, one_str, one_ptr, one_sli, one_map, one_fun, one_ifc, Bool.and_self]; done) | (simp only [cells_agg, cells_int, cells_bool, cells_ptr, cells_slice, List.length_cons, List.length_nil]; done) | (simp only [List.length_cons, List.length_nil]; omega) | with_unfolding_all rfl) only [load1_eq, loadA_eq, storeV_eq, newBlock_eq, ldO_cells, ldO_ro, ldA_cells, ldA_ro, stO_cells, cellsK_eq, optK_some, RdK_some, AlK_some, SameK_true, wantV_true, wantV_false, wantV_undef, GuardW_true, GuardW_false, CondW_true, CondW_false, wrap_id, bin_add, bin_sub, bin_mul, bin_eql, bin_neq, bin_lss, bin_gtr, bin_leq, bin_geq, un_not, un_neg, conv_i64, pick_true, pick_false, lenSli_eq, fieldAddr_eq, nil_ptr, nil_fun, extract_0, extract_1, extract_2, callV_eq, lt_t, lt_f, eq_t, eq_lt, eq_gt, ptrTo, sliceTo, T.get_upd_same, T.get_updne, T.upd_same, Bool.not_true, Bool.not_false, decide_true, decide_false, List.drop_zero, List.take_succ_cons, List.take_zero, List.drop_succ_cons, List.getElem?_cons_zero, List.getElem?_cons_succ, Nat.zero_add, Nat.add_zero, slot_0, slot_s, cells_agg, cells_int, cells_bool, cells_ptr, cells_slice, over_all, fill_1, fill_nil, fill_cons, repeatL_0, repeatL_1, repeatL_2, over_s, over_0, over_e, reV_some, reN_some, reG_true, reG_false, veq_int, veq_bool, veq_ptr, veq_sli, veq_sln, veq_2, veq_4, Bool.and_true, Bool.true_and, rs_90_0, s1, s2, hat, hld, enc4]
        have hleN := hle2.new (cellsO (enc4 p) 30 false)
        refine hF p _ _ hleN ?_
        intro h3 hle3
        have n3 := hle3.nx
        have l3 := hle3.lo
        dsimp only at n3 l3
        have g3 : h3.bl.get h2.nx = some (cellsO (enc4 p) 30 false) := (hle3.get h2.nx (Nat.lt_succ_self _)).trans (T.get_upd_same _ _ _)
        have gb3 : h3.bl.get b = some (cellsO (K.flatMap enc4) 30 true) := by
          rw [hle3.get b (by show b < h2.nx + 1; omega)]
          show (h2.bl.upd h2.nx _).get b = _
          rw [T.get_updne _ _ (by omega)]; exact hg
        have hall3 := hleN.trans hle3
        cases hc : F p with
        | true =>
          simp (disch := first | omega | (simp only [List.all_cons, List.all_nil, one_int, one_bool, one_str, one_ptr, one_sli, one_map, one_fun, one_ifc, Bool.and_self]; done) | (simp only [cells_agg, cells_int, cells_bool, cells_ptr, cells_slice, List.length_cons, List.length_nil]; done) | (simp only [List.length_cons, List.length_nil]; omega) | with_unfolding_all rfl) only [load1_eq, loadA_eq, storeV_eq, newBlock_eq, ldO_cells, ldO_ro, ldA_cells, ldA_ro, stO_cells, cellsK_eq, optK_some, RdK_some, AlK_some, SameK_true, wantV_true, wantV_false, wantV_undef, GuardW_true, GuardW_false, CondW_true, CondW_false, wrap_id, bin_add, bin_sub, bin_mul, bin_eql, bin_neq, bin_lss, bin_gtr, bin_leq, bin_geq, un_not, un_neg, conv_i64, pick_true, pick_false, lenSli_eq, fieldAddr_eq, nil_ptr, nil_fun, extract_0, extract_1, extract_2, callV_eq, lt_t, lt_f, eq_t, eq_lt, eq_gt, ptrTo, sliceTo, T.get_upd_same, T.get_updne, T.upd_same, Bool.not_true, Bool.not_false, decide_true, decide_false, List.drop_zero, List.take_succ_cons, List.take_zero, List.drop_succ_cons, List.getElem?_cons_zero, List.getElem?_cons_succ, Nat.zero_add, Nat.add_zero, slot_0, slot_s, cells_agg, cells_int, cells_bool, cells_ptr, cells_slice, over_all, fill_1, fill_nil, fill_cons, repeatL_0, repeatL_1, repeatL_2, over_s, over_0, over_e, reV_some, reN_some, reG_true, reG_false, veq_int, veq_bool, veq_ptr, veq_sli, veq_sln, veq_2, veq_4, Bool.and_true, Bool.true_and, s2]
          exact ⟨hall3, by omega, i, K, rfl, by omega, hK, by rw [filter_take_succ hp, hc]; simpa using hK1, by rw [← List.drop_drop, hK2, List.drop_drop], gb3⟩
        | false =>
          have hfl := flat4 K
          have hov := over_flat K i p (by omega)
          simp only [enc4] at hov
          simp (disch := first | omega | (simp only [List.all_cons, List.all_nil, one_int, one_bool, one_str, one_ptr, one_sli, one_map, one_fun, one_ifc, Bool.and_self]; done) | (simp only [cells_agg, cells_int, cells_bool, cells_ptr, cells_slice, List.length_cons, List.length_nil]; done) | (simp only [List.length_cons, List.length_nil]; omega) | with_unfolding_all rfl) only [load1_eq, loadA_eq, storeV_eq, newBlock_eq, ldO_cells, ldO_ro, ldA_cells, ldA_ro, stO_cells, cellsK_eq, optK_some, RdK_some, AlK_some, SameK_true, wantV_true, wantV_false, wantV_undef, GuardW_true, GuardW_false, CondW_true, CondW_false, wrap_id, bin_add, bin_sub, bin_mul, bin_eql, bin_neq, bin_lss, bin_gtr, bin_leq, bin_geq, un_not, un_neg, conv_i64, pick_true, pick_false, lenSli_eq, fieldAddr_eq, nil_ptr, nil_fun, extract_0, extract_1, extract_2, callV_eq, lt_t, lt_f, eq_t, eq_lt, eq_gt, ptrTo, sliceTo, T.get_upd_same, T.get_updne, T.upd_same, Bool.not_true, Bool.not_false, decide_true, decide_false, List.drop_zero, List.take_succ_cons, List.take_zero, List.drop_succ_cons, List.getElem?_cons_zero, List.getElem?_cons_succ, Nat.zero_add, Nat.add_zero, slot_0, slot_s, cells_agg, cells_int, cells_bool, cells_ptr, cells_slice, over_all, fill_1, fill_nil, fill_cons, repeatL_0, repeatL_1, repeatL_2, over_s, over_0, over_e, reV_some, reN_some, reG_true, reG_false, veq_int, veq_bool, veq_ptr, veq_sli, veq_sln, veq_2, veq_4, Bool.and_true, Bool.true_and, s2, g3, gb3, indexAddr_eq, enc4, hov]
          refine ⟨hall3.set b1 _, by omega, i + 1, K.set i p, rfl, by omega, by simpa using hK, ?_, ?_, rfl⟩
          · rw [filter_take_succ hp, hc, ← hK1]
            have hiK : i < K.length := by omega
            rw [List.take_succ_eq_append_getElem (by simpa using hiK)]
            simp [List.take_set_of_le]
          · rw [List.drop_set_of_lt (by omega), ← List.drop_drop, hK2, List.drop_drop]
      · rintro l8 h3 ⟨hle3, hb3, i', K', s3, hi', hK', hK1', hK2', hg3⟩
        simp (disch := first | omega | (simp only [List.all_cons, List.all_nil, one_int, one_bool, one_str, one_ptr, one_sli, one_map, one_fun, one_ifc, Bool.and_self]; done) | (simp only [cells_agg, cells_int, cells_bool, cells_ptr, cells_slice, List.length_cons, List.length_nil]; done) | (simp only [List.length_cons, List.length_nil]; omega) | with_unfolding_all rfl) only [load1_eq, loadA_eq, storeV_eq, newBlock_eq, ldO_cells, ldO_ro, ldA_cells, ldA_ro, stO_cells, cellsK_eq, optK_some, RdK_some, AlK_some, SameK_true, wantV_true, wantV_false, wantV_undef, GuardW_true, GuardW_false, CondW_true, CondW_false, wrap_id, bin_add, bin_sub, bin_mul, bin_eql, bin_neq, bin_lss, bin_gtr, bin_leq, bin_geq, un_not, un_neg, conv_i64, pick_true, pick_false, lenSli_eq, fieldAddr_eq, nil_ptr, nil_fun, extract_0, extract_1, extract_2, callV_eq, lt_t, lt_f, eq_t, eq_lt, eq_gt, ptrTo, sliceTo, T.get_upd_same, T.get_updne, T.upd_same, Bool.not_true, Bool.not_false, decide_true, decide_false, List.drop_zero, List.take_succ_cons, List.take_zero, List.drop_succ_cons, List.getElem?_cons_zero, List.getElem?_cons_succ, Nat.zero_add, Nat.add_zero, slot_0, slot_s, cells_agg, cells_int, cells_bool, cells_ptr, cells_slice, over_all, fill_1, fill_nil, fill_cons, repeatL_0, repeatL_1, repeatL_2, over_s, over_0, over_e, reV_some, reN_some, reG_true, reG_false, veq_int, veq_bool, veq_ptr, veq_sli, veq_sln, veq_2, veq_4, Bool.and_true, Bool.true_and, s1, s3]
        exact ⟨_, by omega, hle3, hb3, j + 1, i', K', rfl, rfl, by omega, hi', rfl, hK', hK1', hK2', hg3⟩
    · have hjL : j = L.length := by omega
      subst hjL
      rw [List.take_length] at hK1
      have hfl := flat4 K
      obtain ⟨r1, r2⟩ := rep_z4 (L.length - i)
      simp only [z4] at r1 r2
      simp (disch := first | omega | (simp only [List.all_cons, List.all_nil, one_int, one_bool, one_str, one_ptr, one_sli, one_map, one_fun, one_ifc, Bool.and_self]; done) | (simp only [cells_agg, cells_int, cells_bool, cells_ptr, cells_slice, List.length_cons, List.length_nil]; done) | (simp only [List.length_cons, List.length_nil]; omega) | with_unfolding_all rfl) only [load1_eq, loadA_eq, storeV_eq, newBlock_eq, ldO_cells, ldO_ro, ldA_cells, ldA_ro, stO_cells, cellsK_eq, optK_some, RdK_some, AlK_some, SameK_true, wantV_true, wantV_false, wantV_undef, GuardW_true, GuardW_false, CondW_true, CondW_false, wrap_id, bin_add, bin_sub, bin_mul, bin_eql, bin_neq, bin_lss, bin_gtr, bin_leq, bin_geq, un_not, un_neg, conv_i64, pick_true, pick_false, lenSli_eq, fieldAddr_eq, nil_ptr, nil_fun, extract_0, extract_1, extract_2, callV_eq, lt_t, lt_f, eq_t, eq_lt, eq_gt, ptrTo, sliceTo, T.get_upd_same, T.get_updne, T.upd_same, Bool.not_true, Bool.not_false, decide_true, decide_false, List.drop_zero, List.take_succ_cons, List.take_zero, List.drop_succ_cons, List.getElem?_cons_zero, List.getElem?_cons_succ, Nat.zero_add, Nat.add_zero, slot_0, slot_s, cells_agg, cells_int, cells_bool, cells_ptr, cells_slice, over_all, fill_1, fill_nil, fill_cons, repeatL_0, repeatL_1, repeatL_2, over_s, over_0, over_e, reV_some, reN_some, reG_true, reG_false, veq_int, veq_bool, veq_ptr, veq_sli, veq_sln, veq_2, veq_4, Bool.and_true, Bool.true_and, rs_90_1, s1, s2, slice_from (n := L.length) (i := i) (Nat.succ_pos 3) hg (by rw [hfl, hK]) (by omega)]
      rw [clear_cells hg (by omega) (by rw [r1]; omega) r2 (by omega)]
      have hovl : (over (K.flatMap enc4) (i * 4) (repeatL z4 (L.length - i))).length = L.length * 4 := by
        rw [over_length (by simp only [z4]; rw [r1]; omega), hfl, hK]
      rw [slice_to (n := L.length) (i := i) (vs := over (K.flatMap enc4) (i * 4) (repeatL z4 (L.length - i))) (Nat.succ_pos 3) (T.get_upd_same _ _ _) hovl (by omega) (by omega)]
      have hlenF : (L.filter fun p => !F p).length = i := by rw [← hK1]; simp; omega
      refine hk _ _ ⟨_, openCap, by rw [hlenF], fun _ => ⟨b, 0, rfl, hb2, ?_⟩⟩ (hle2.set b1 _)
      have hh : Has (some (cellsO (over (K.flatMap enc4) (i * 4) (repeatL z4 (L.length - i))) 30 true)) 0 (((over (K.flatMap enc4) (i * 4) (repeatL z4 (L.length - i))).drop 0).take (i * 4)) := Has.cells (by rw [hovl]; omega)
      have e9 : ((over (K.flatMap enc4) (i * 4) (repeatL z4 (L.length - i))).drop 0).take (i * 4) = (L.filter fun p => !F p).flatMap enc4 := by
        rw [← hK1, List.drop_zero, over, List.append_assoc, List.take_append_of_le_length (by simp [hfl]; omega), List.take_take, Nat.min_self, flat_take]
      rw [e9] at hh
      show Has ((h2.bl.upd b _).get b) 0 _
      rw [T.get_upd_same]; exact hh
end Go.Proofs
