/-
  PROVED HERE: a part of the proof, by a calculus of weakest conditions over an abstract heap.
-/
import Derived.Test.YtlmkplcfmngigaaA0
set_option linter.unusedVariables false
set_option linter.unusedSimpArgs false
set_option maxRecDepth 100000
namespace Go.Proofs
open Go.Vai Go.Clashes

/-- none that clash so far: all pairs whose first one is below i -/
def NoneTo (L : List H4) (i : Nat) : Prop := ∀ (i' k' : Nat) p' q', i' < i → i' < k' → L[i']? = some p' → L[k']? = some q' → bad p' q' = false
/-- none that clash with one lock, up to m -/
def Inner (L : List H4) (p : H4) (k m : Nat) : Prop := ∀ (k' : Nat) q', k < k' → k' < m → L[k']? = some q' → bad p q' = false
theorem inner_succ {L : List H4} {p q : H4} {k m : Nat} (h : Inner L p k m) (hq : L[m]? = some q) (hb : bad p q = false) : Inner L p k (m + 1) := by
  intro k' q' h1 h2 h3
  rcases Nat.lt_or_ge k' m with h4 | h4
  · exact h k' q' h1 h4 h3
  · obtain rfl : k' = m := by omega
    rw [hq] at h3; cases h3; exact hb
theorem none_succ {L : List H4} {p : H4} {k n : Nat} (h : NoneTo L k) (hp : L[k]? = some p) (hi : Inner L p k n) (hn : L.length ≤ n) : NoneTo L (k + 1) := by
  intro i' k' p' q' h1 h2 h3 h4
  rcases Nat.lt_or_ge i' k with h5 | h5
  · exact h i' k' p' q' h5 h2 h3 h4
  · obtain rfl : i' = k := by omega
    rw [hp] at h3; cases h3
    have : k' < L.length := (List.getElem?_eq_some_iff.1 h4).1
    exact hi k' q' h2 (by omega) h4
theorem first_of {L : List H4} {p : H4} {k m : Nat} (h : NoneTo L k) (hi : Inner L p k m) (hp : L[k]? = some p) :
    ∀ (i' k' : Nat) p' q', i' < k' → L[i']? = some p' → L[k']? = some q' → bad p' q' = true → k < i' ∨ (k = i' ∧ m ≤ k') := by
  intro i' k' p' q' h2 h3 h4 h5
  rcases Nat.lt_trichotomy i' k with h6 | h6 | h6
  · rw [h i' k' p' q' h6 h2 h3 h4] at h5; cases h5
  · subst h6
    rw [hp] at h3; cases h3
    rcases Nat.lt_or_ge k' m with h7 | h7
    · rw [hi k' q' h2 h7 h4] at h5; cases h5
    · exact .inr ⟨rfl, h7⟩
  · exact .inl h6

set_option maxHeartbeats 1000000 in
theorem clash_w (L : List H4) (h : Heap) (v : Value) (κ : Value → Heap → Prop) (hv : Sl enc4 h v L) (hlen : L.length ≤ 1000000) (hlo : h.lo ≤ h.nx)
    (hk : ∀ i k is h', Says L i k is → Le h h' → κ (.tuple ⟨[.int .i64 i, .int .i64 k, .bool is]⟩) h') : CallW Try.prog 15 [v] h κ := by
  refine callW_of mixed ?_
  rw [rs_15]; simp only [hv.len]
  refine ⟨fun n l h1 => Le h h1 ∧ ∃ k : Nat, slot l 46 = .int .i64 (k : Int) ∧ k ≤ L.length ∧ n = L.length - k ∧ NoneTo L k, ⟨L.length, Le.refl _, 0, rfl, Nat.zero_le _, by omega, fun i' k' p' q' h => absurd h (Nat.not_lt_zero _)⟩, ?_⟩
  rintro n l h1 ⟨hle, k, hs, hkl, rfl, hnone⟩
  simp only [hs]
  by_cases hlt : k < L.length
  · obtain ⟨p, hp⟩ : ∃ p, L[k]? = some p := ⟨_, List.getElem?_eq_getElem hlt⟩
    obtain ⟨b, o, hb, hat, hld, _⟩ := hv.ld enc4_len k hp
    have hn := hle.nx
    have hl1 := hle.lo
    simp (disch := first | omega | (simp only [List.all_cons, List.all_nil, one_int, one_bool, one_str, one_ptr, one_sli, one_map, one_fun, one_ifc, Bool.and_self]; done) | (simp only [cells_agg, cells_int, cells_bool, cells_ptr, cells_slice, List.length_cons, List.length_nil]; done) | (simp only [List.length_cons, List.length_nil]; omega) | with_unfolding_all rfl) only [load1_eq, loadA_eq, storeV_eq, newBlock_eq, ldO_cells, ldO_ro, ldA_cells, ldA_ro, stO_cells, cellsK_eq, optK_some, RdK_some, AlK_some, SameK_true, wantV_true, wantV_false, wantV_undef, GuardW_true, GuardW_false, CondW_true, CondW_false, wrap_id, bin_add, bin_sub, bin_mul, bin_eql, bin_neq, bin_lss, bin_gtr, bin_leq, bin_geq, un_not, un_neg, conv_i64, pick_true, pick_false, lenSli_eq, fieldAddr_eq, nil_ptr, nil_fun, extract_0, extract_1, extract_2, callV_eq, lt_t, lt_f, eq_t, eq_lt, eq_gt, ptrTo, sliceTo, T.get_upd_same, T.get_updne, T.upd_same, Bool.not_true, Bool.not_false, List.drop_zero, List.take_succ_cons, List.take_zero, List.drop_succ_cons, List.getElem?_cons_zero, List.getElem?_cons_succ, Nat.zero_add, Nat.add_zero, slot_0, slot_s, cells_agg, cells_int, cells_bool, cells_ptr, cells_slice, over_all, fill_1, repeatL_1, hv.len, rs_15_1, hs, hat, hld, hle.get, enc4]
    refine ⟨fun n l' h2 => Le _ h2 ∧ ∃ m : Nat, slot l' 36 = .int .i64 (m : Int) ∧ k < m ∧ m ≤ L.length ∧ n = L.length - m ∧ Inner L p k m,
      ⟨_, Le.refl _, k + 1, rfl, by omega, by omega, rfl, fun k' q' h1 h2 => by omega⟩, ?_⟩
    rintro n l' h2 ⟨hle2, m, hs2, hkm, hml, rfl, hin⟩
    have hn2 := hle2.nx
    have hl2 := hle2.lo
    have hg2 := hle2.get
    dsimp only at hn2 hl2 hg2
    have hall : Le h h2 := (hle.new _).trans hle2
    simp only [hs2, hv.len]
    by_cases hlt2 : m < L.length
    · obtain ⟨q, hq⟩ : ∃ q, L[m]? = some q := ⟨_, List.getElem?_eq_getElem hlt2⟩
      obtain ⟨b2, o2, hb2, hat2, hld2, _⟩ := hv.ld enc4_len m hq
      by_cases hN : p.t = q.t ∧ p.r = q.r
      · by_cases hx : p.x = q.x
        · have hbad : bad p q = false := by simp [bad, hx]
          simp (disch := first | omega | (simp only [List.all_cons, List.all_nil, one_int, one_bool, one_str, one_ptr, one_sli, one_map, one_fun, one_ifc, Bool.and_self]; done) | (simp only [cells_agg, cells_int, cells_bool, cells_ptr, cells_slice, List.length_cons, List.length_nil]; done) | (simp only [List.length_cons, List.length_nil]; omega) | with_unfolding_all rfl) only [load1_eq, loadA_eq, storeV_eq, newBlock_eq, ldO_cells, ldO_ro, ldA_cells, ldA_ro, stO_cells, cellsK_eq, optK_some, RdK_some, AlK_some, SameK_true, wantV_true, wantV_false, wantV_undef, GuardW_true, GuardW_false, CondW_true, CondW_false, wrap_id, bin_add, bin_sub, bin_mul, bin_eql, bin_neq, bin_lss, bin_gtr, bin_leq, bin_geq, un_not, un_neg, conv_i64, pick_true, pick_false, lenSli_eq, fieldAddr_eq, nil_ptr, nil_fun, extract_0, extract_1, extract_2, callV_eq, lt_t, lt_f, eq_t, eq_lt, eq_gt, ptrTo, sliceTo, T.get_upd_same, T.get_updne, T.upd_same, Bool.not_true, Bool.not_false, List.drop_zero, List.take_succ_cons, List.take_zero, List.drop_succ_cons, List.getElem?_cons_zero, List.getElem?_cons_succ, Nat.zero_add, Nat.add_zero, slot_0, slot_s, cells_agg, cells_int, cells_bool, cells_ptr, cells_slice, over_all, fill_1, repeatL_1, rs_15_0, hs, hs2, hat2, hld2, hle.get, hg2, enc4, bin_eq27, dec_t hN, dec_t hx]
          exact ⟨_, by omega, ((hle2.new _)), m + 1, rfl, by omega, by omega, rfl, inner_succ hin hq hbad⟩
        · simp (disch := first | omega | (simp only [List.all_cons, List.all_nil, one_int, one_bool, one_str, one_ptr, one_sli, one_map, one_fun, one_ifc, Bool.and_self]; done) | (simp only [cells_agg, cells_int, cells_bool, cells_ptr, cells_slice, List.length_cons, List.length_nil]; done) | (simp only [List.length_cons, List.length_nil]; omega) | with_unfolding_all rfl) only [load1_eq, loadA_eq, storeV_eq, newBlock_eq, ldO_cells, ldO_ro, ldA_cells, ldA_ro, stO_cells, cellsK_eq, optK_some, RdK_some, AlK_some, SameK_true, wantV_true, wantV_false, wantV_undef, GuardW_true, GuardW_false, CondW_true, CondW_false, wrap_id, bin_add, bin_sub, bin_mul, bin_eql, bin_neq, bin_lss, bin_gtr, bin_leq, bin_geq, un_not, un_neg, conv_i64, pick_true, pick_false, lenSli_eq, fieldAddr_eq, nil_ptr, nil_fun, extract_0, extract_1, extract_2, callV_eq, lt_t, lt_f, eq_t, eq_lt, eq_gt, ptrTo, sliceTo, T.get_upd_same, T.get_updne, T.upd_same, Bool.not_true, Bool.not_false, List.drop_zero, List.take_succ_cons, List.take_zero, List.drop_succ_cons, List.getElem?_cons_zero, List.getElem?_cons_succ, Nat.zero_add, Nat.add_zero, slot_0, slot_s, cells_agg, cells_int, cells_bool, cells_ptr, cells_slice, over_all, fill_1, repeatL_1, rs_15_0, hs, hs2, hat2, hld2, hle.get, hg2, enc4, bin_eq27, dec_t hN, dec_f hx]
          refine compat_w _ _ ?_
          cases hc : cmp p.m q.m with
          | true =>
            have hbad : bad p q = false := by simp [bad, hc]
            simp (disch := first | omega | (simp only [List.all_cons, List.all_nil, one_int, one_bool, one_str, one_ptr, one_sli, one_map, one_fun, one_ifc, Bool.and_self]; done) | (simp only [cells_agg, cells_int, cells_bool, cells_ptr, cells_slice, List.length_cons, List.length_nil]; done) | (simp only [List.length_cons, List.length_nil]; omega) | with_unfolding_all rfl) only [load1_eq, loadA_eq, storeV_eq, newBlock_eq, ldO_cells, ldO_ro, ldA_cells, ldA_ro, stO_cells, cellsK_eq, optK_some, RdK_some, AlK_some, SameK_true, wantV_true, wantV_false, wantV_undef, GuardW_true, GuardW_false, CondW_true, CondW_false, wrap_id, bin_add, bin_sub, bin_mul, bin_eql, bin_neq, bin_lss, bin_gtr, bin_leq, bin_geq, un_not, un_neg, conv_i64, pick_true, pick_false, lenSli_eq, fieldAddr_eq, nil_ptr, nil_fun, extract_0, extract_1, extract_2, callV_eq, lt_t, lt_f, eq_t, eq_lt, eq_gt, ptrTo, sliceTo, T.get_upd_same, T.get_updne, T.upd_same, Bool.not_true, Bool.not_false, List.drop_zero, List.take_succ_cons, List.take_zero, List.drop_succ_cons, List.getElem?_cons_zero, List.getElem?_cons_succ, Nat.zero_add, Nat.add_zero, slot_0, slot_s, cells_agg, cells_int, cells_bool, cells_ptr, cells_slice, over_all, fill_1, repeatL_1]
            exact ⟨_, by omega, ((hle2.new _)), m + 1, rfl, by omega, by omega, rfl, inner_succ hin hq hbad⟩
          | false =>
            have hbad : bad p q = true := by simp [bad, hc, hN, hx]
            simp (disch := first | omega | (simp only [List.all_cons, List.all_nil, one_int, one_bool, one_str, one_ptr, one_sli, one_map, one_fun, one_ifc, Bool.and_self]; done) | (simp only [cells_agg, cells_int, cells_bool, cells_ptr, cells_slice, List.length_cons, List.length_nil]; done) | (simp only [List.length_cons, List.length_nil]; omega) | with_unfolding_all rfl) only [load1_eq, loadA_eq, storeV_eq, newBlock_eq, ldO_cells, ldO_ro, ldA_cells, ldA_ro, stO_cells, cellsK_eq, optK_some, RdK_some, AlK_some, SameK_true, wantV_true, wantV_false, wantV_undef, GuardW_true, GuardW_false, CondW_true, CondW_false, wrap_id, bin_add, bin_sub, bin_mul, bin_eql, bin_neq, bin_lss, bin_gtr, bin_leq, bin_geq, un_not, un_neg, conv_i64, pick_true, pick_false, lenSli_eq, fieldAddr_eq, nil_ptr, nil_fun, extract_0, extract_1, extract_2, callV_eq, lt_t, lt_f, eq_t, eq_lt, eq_gt, ptrTo, sliceTo, T.get_upd_same, T.get_updne, T.upd_same, Bool.not_true, Bool.not_false, List.drop_zero, List.take_succ_cons, List.take_zero, List.drop_succ_cons, List.getElem?_cons_zero, List.getElem?_cons_succ, Nat.zero_add, Nat.add_zero, slot_0, slot_s, cells_agg, cells_int, cells_bool, cells_ptr, cells_slice, over_all, fill_1, repeatL_1]
            exact hk _ _ _ _ (.inl ⟨rfl, k, m, p, q, rfl, rfl, hkm, hlt2, hp, hq, hbad, first_of hnone hin hp⟩) (hall.new _)
      · have hbad : bad p q = false := by
          have : ¬ (p.t = q.t ∧ p.r = q.r) := hN
          simp only [bad]; simp; intro h1 h2; exact absurd ⟨h1, h2⟩ this
        simp (disch := first | omega | (simp only [List.all_cons, List.all_nil, one_int, one_bool, one_str, one_ptr, one_sli, one_map, one_fun, one_ifc, Bool.and_self]; done) | (simp only [cells_agg, cells_int, cells_bool, cells_ptr, cells_slice, List.length_cons, List.length_nil]; done) | (simp only [List.length_cons, List.length_nil]; omega) | with_unfolding_all rfl) only [load1_eq, loadA_eq, storeV_eq, newBlock_eq, ldO_cells, ldO_ro, ldA_cells, ldA_ro, stO_cells, cellsK_eq, optK_some, RdK_some, AlK_some, SameK_true, wantV_true, wantV_false, wantV_undef, GuardW_true, GuardW_false, CondW_true, CondW_false, wrap_id, bin_add, bin_sub, bin_mul, bin_eql, bin_neq, bin_lss, bin_gtr, bin_leq, bin_geq, un_not, un_neg, conv_i64, pick_true, pick_false, lenSli_eq, fieldAddr_eq, nil_ptr, nil_fun, extract_0, extract_1, extract_2, callV_eq, lt_t, lt_f, eq_t, eq_lt, eq_gt, ptrTo, sliceTo, T.get_upd_same, T.get_updne, T.upd_same, Bool.not_true, Bool.not_false, List.drop_zero, List.take_succ_cons, List.take_zero, List.drop_succ_cons, List.getElem?_cons_zero, List.getElem?_cons_succ, Nat.zero_add, Nat.add_zero, slot_0, slot_s, cells_agg, cells_int, cells_bool, cells_ptr, cells_slice, over_all, fill_1, repeatL_1, rs_15_0, hs, hs2, hat2, hld2, hle.get, hg2, enc4, bin_eq27, dec_f hN]
        exact ⟨_, by omega, ((hle2.new _)), m + 1, rfl, by omega, by omega, rfl, inner_succ hin hq hbad⟩
    · simp (disch := first | omega | (simp only [List.all_cons, List.all_nil, one_int, one_bool, one_str, one_ptr, one_sli, one_map, one_fun, one_ifc, Bool.and_self]; done) | (simp only [cells_agg, cells_int, cells_bool, cells_ptr, cells_slice, List.length_cons, List.length_nil]; done) | (simp only [List.length_cons, List.length_nil]; omega) | with_unfolding_all rfl) only [load1_eq, loadA_eq, storeV_eq, newBlock_eq, ldO_cells, ldO_ro, ldA_cells, ldA_ro, stO_cells, cellsK_eq, optK_some, RdK_some, AlK_some, SameK_true, wantV_true, wantV_false, wantV_undef, GuardW_true, GuardW_false, CondW_true, CondW_false, wrap_id, bin_add, bin_sub, bin_mul, bin_eql, bin_neq, bin_lss, bin_gtr, bin_leq, bin_geq, un_not, un_neg, conv_i64, pick_true, pick_false, lenSli_eq, fieldAddr_eq, nil_ptr, nil_fun, extract_0, extract_1, extract_2, callV_eq, lt_t, lt_f, eq_t, eq_lt, eq_gt, ptrTo, sliceTo, T.get_upd_same, T.get_updne, T.upd_same, Bool.not_true, Bool.not_false, List.drop_zero, List.take_succ_cons, List.take_zero, List.drop_succ_cons, List.getElem?_cons_zero, List.getElem?_cons_succ, Nat.zero_add, Nat.add_zero, slot_0, slot_s, cells_agg, cells_int, cells_bool, cells_ptr, cells_slice, over_all, fill_1, repeatL_1, hs]
      exact ⟨_, by omega, hall, k + 1, rfl, by omega, rfl, none_succ hnone hp hin (by omega)⟩
  · simp (disch := first | omega | (simp only [List.all_cons, List.all_nil, one_int, one_bool, one_str, one_ptr, one_sli, one_map, one_fun, one_ifc, Bool.and_self]; done) | (simp only [cells_agg, cells_int, cells_bool, cells_ptr, cells_slice, List.length_cons, List.length_nil]; done) | (simp only [List.length_cons, List.length_nil]; omega) | with_unfolding_all rfl) only [load1_eq, loadA_eq, storeV_eq, newBlock_eq, ldO_cells, ldO_ro, ldA_cells, ldA_ro, stO_cells, cellsK_eq, optK_some, RdK_some, AlK_some, SameK_true, wantV_true, wantV_false, wantV_undef, GuardW_true, GuardW_false, CondW_true, CondW_false, wrap_id, bin_add, bin_sub, bin_mul, bin_eql, bin_neq, bin_lss, bin_gtr, bin_leq, bin_geq, un_not, un_neg, conv_i64, pick_true, pick_false, lenSli_eq, fieldAddr_eq, nil_ptr, nil_fun, extract_0, extract_1, extract_2, callV_eq, lt_t, lt_f, eq_t, eq_lt, eq_gt, ptrTo, sliceTo, T.get_upd_same, T.get_updne, T.upd_same, Bool.not_true, Bool.not_false, List.drop_zero, List.take_succ_cons, List.take_zero, List.drop_succ_cons, List.getElem?_cons_zero, List.getElem?_cons_succ, Nat.zero_add, Nat.add_zero, slot_0, slot_s, cells_agg, cells_int, cells_bool, cells_ptr, cells_slice, over_all, fill_1, repeatL_1]
    exact hk _ _ _ _ (.inr ⟨rfl, rfl, rfl, fun i' k' p' q' h1 h2 h3 => hnone i' k' p' q' (by have := (List.getElem?_eq_some_iff.1 h2).1; omega) h1 h2 h3⟩) hle
end Go.Proofs
