/-
  PROVED HERE: a part of the proof, by a calculus of weakest conditions over an abstract heap (H1, H2, H3).
-/
import Derived.Test.YtlmkplcfmngigaaF
import Derived.Test.YtlmkplcfmngigaaE
set_option linter.unusedVariables false
set_option linter.unusedSimpArgs false
set_option maxRecDepth 100000
namespace Go.Proofs
open Go.Vai Go.Clashes
/-! ## the reference: names above, what is implied, what a lock needs -/
theorem ranc_w (t r : Int) (h : Heap) (κ : Value → Heap → Prop) (hlo : h.lo ≤ h.nx) (hk : ∀ v h', Sl enc2 h' v (anc t r) → Le h h' → κ v h') : CallW Try.prog 93 [nmV t r] h κ := by
  refine callW_of mixed ?_
  rw [rs_93]
  simp (disch := first | omega | (simp only [Wx]; done) | (simp only [Wy]; done) | (simp only [Wv]; omega) | with_unfolding_all rfl) only [Wz, ptrTo, sliceTo, nmV]
  refine rlevel_w t r ?_
  have hle1 := (Le.refl h).new (cellsO [.int .i64 t, .int .i64 r] 27 false)
  rcases lvl_cases t r with h1 | h1 | h1 | h1
  · simp (disch := first | omega | (simp only [Wx]; done) | (simp only [Wy]; done) | (simp only [Wv]; omega) | with_unfolding_all rfl) only [Wz, ptrTo, sliceTo, h1, rs_93_0]
    exact hk _ _ ⟨none, 0, by simp [anc, h1], fun hn => by simp [anc, h1] at hn⟩ hle1
  · simp (disch := first | omega | (simp only [Wx]; done) | (simp only [Wy]; done) | (simp only [Wv]; omega) | with_unfolding_all rfl) only [Wz, ptrTo, sliceTo, h1, rs_93_0]
    exact hk _ _ ⟨none, 0, by simp [anc, h1], fun hn => by simp [anc, h1] at hn⟩ hle1
  · simp (disch := first | omega | (simp only [Wx]; done) | (simp only [Wy]; done) | (simp only [Wv]; omega) | with_unfolding_all rfl) only [Wz, ptrTo, sliceTo, h1]
    refine rdatabase_w ?_
    simp (disch := first | omega | (simp only [Wx]; done) | (simp only [Wy]; done) | (simp only [Wv]; omega) | with_unfolding_all rfl) only [Wz, ptrTo, sliceTo, nmV]
    refine hk _ _ ⟨some ⟨h.nx + 1, 0, none⟩, 1, by simp [anc, h1], fun _ => ⟨_, 0, rfl, Nat.lt_succ_self _, ?_⟩⟩ (hle1.new _)
    show Has ((T.upd _ _ _).get _) 0 _
    rw [T.get_upd_same]
    have : (anc t r).flatMap enc2 = [.int .i64 (-1), .int .i64 (-1)] := by simp [anc, h1, enc2]
    rw [this]; exact Has.all
  · simp (disch := first | omega | (simp only [Wx]; done) | (simp only [Wy]; done) | (simp only [Wv]; omega) | with_unfolding_all rfl) only [Wz, ptrTo, sliceTo, h1, rs_93_0]
    refine rdatabase_w ?_
    simp (disch := first | omega | (simp only [Wx]; done) | (simp only [Wy]; done) | (simp only [Wv]; omega) | with_unfolding_all rfl) only [Wz, ptrTo, sliceTo, nmV, repeatL_s, List.cons_append, List.nil_append]
    refine hk _ _ ⟨some ⟨h.nx + 1, 0, none⟩, 2, by simp [anc, h1], fun _ => ⟨_, 0, rfl, Nat.lt_succ_self _, ?_⟩⟩ (hle1.new _)
    show Has ((T.upd _ _ _).get _) 0 _
    rw [T.get_upd_same]
    have : (anc t r).flatMap enc2 = [.int .i64 (-1), .int .i64 (-1), .int .i64 t, .int .i64 (-1)] := by simp [anc, h1, enc2]
    rw [this]; exact Has.all
theorem md_c0 : ∀ i, i < 7 → i ≠ 0 → cov 0 (i : Nat) = false := by decide +kernel
theorem cov0 {m : Int} (h0 : m ≠ 0) : cov 0 m = false := by
  cases hm : kn m with
  | false => exact cov_r hm
  | true =>
    obtain ⟨i, hi, rfl⟩ := kn_nat hm
    exact md_c0 i hi (by intro e; exact h0 (by rw [e]; rfl))
/-- ref17.covers -/
theorem rcov0_w (a b : Int) {h : Heap} {κ : Value → Heap → Prop} (h0 : b ≠ 0) (hk : κ (.bool (cov a b)) h) : CallW Try.prog 95 [.int .i64 a, .int .i64 b] h κ := by
  refine callW_of mixed ?_
  rw [rs_95]
  by_cases ha : a = 0
  · simp (disch := first | omega | (simp only [Wx]; done) | (simp only [Wy]; done) | (simp only [Wv]; omega) | with_unfolding_all rfl) only [Wz, ptrTo, sliceTo, dec_t ha]
    rw [ha, cov0 h0] at hk
    exact hk
  · simp (disch := first | omega | (simp only [Wx]; done) | (simp only [Wy]; done) | (simp only [Wv]; omega) | with_unfolding_all rfl) only [Wz, ptrTo, sliceTo, dec_f ha]
    exact rcovers_w _ _ hk
theorem lets_iff (a m : Int) : letsM a m = true ↔ (a = 6 ∨ ((a = 3 ∨ a = 4 ∨ a = 5) ∧ (m = 1 ∨ m = 3))) := by
  unfold letsM; simp only [Bool.or_eq_true, Bool.and_eq_true, decide_eq_true_eq, or_assoc]
theorem rimplied_w (L : List H4) (t r m : Int) (h : Heap) (v : Value) (κ : Value → Heap → Prop) (hv : Sl enc4 h v L) (hlen : L.length ≤ 100000) (hlo : h.lo ≤ h.nx) (hk : ∀ h', Le h h' → κ (.bool (impF (modeOf L) t r m)) h') :
    CallW Try.prog 92 [v, nmV t r, .int .i64 m] h κ := by
  refine callW_of mixed ?_
  rw [rs_92]
  simp (disch := first | omega | (simp only [Wx]; done) | (simp only [Wy]; done) | (simp only [Wv]; omega) | with_unfolding_all rfl) only [Wz, ptrTo, sliceTo, nmV]
  obtain ⟨hA, eA⟩ : ∃ hA : Heap, hA = ⟨h.nx + 1, h.bl.upd h.nx (cellsO [.int .i64 t, .int .i64 r] 27 false), h.lo⟩ := ⟨_, rfl⟩
  have hleA : Le h hA := by subst eA; exact (Le.refl h).new _
  have gA : hA.bl.get h.nx = some (cellsO [.int .i64 t, .int .i64 r] 27 false) := by subst eA; exact T.get_upd_same _ _ _
  have nA : hA.nx = h.nx + 1 := by subst eA; rfl
  have lA : hA.lo = h.lo := by subst eA; rfl
  rw [← eA]
  clear eA
  refine rcheck_w t r ?_
  cases hok : okN t r with
  | false =>
    simp (disch := first | omega | (simp only [Wx]; done) | (simp only [Wy]; done) | (simp only [Wv]; omega) | with_unfolding_all rfl) only [Wz, ptrTo, sliceTo, dec_f (show ¬ (2 : Int) = 0 by decide), Bool.false_eq_true, if_false]
    have := hk hA hleA
    simpa [impF, askM, hok] using this
  | true =>
    by_cases h0 : m = 0
    · simp (disch := first | omega | (simp only [Wx]; done) | (simp only [Wy]; done) | (simp only [Wv]; omega) | with_unfolding_all rfl) only [Wz, ptrTo, sliceTo, if_true, dec_t h0]
      have := hk hA hleA
      simpa [impF, askM, hok, h0] using this
    · simp (disch := first | omega | (simp only [Wx]; done) | (simp only [Wy]; done) | (simp only [Wv]; omega) | with_unfolding_all rfl) only [Wz, ptrTo, sliceTo, if_true, dec_f h0]
      refine rknown_w m ?_
      cases hkn : kn m with
      | false =>
        simp (disch := first | omega | (simp only [Wx]; done) | (simp only [Wy]; done) | (simp only [Wv]; omega) | with_unfolding_all rfl) only [Wz, ptrTo, sliceTo]
        have := hk hA hleA
        simpa [impF, askM, hok, hkn] using this
      | true =>
        have ha : askM t r m = true := by simp [askM, hok, hkn, h0]
        simp (disch := first | omega | (simp only [Wx]; done) | (simp only [Wy]; done) | (simp only [Wv]; omega) | with_unfolding_all rfl) only [Wz, ptrTo, sliceTo, rs_92_2, gA]
        refine rmode_w L t r hA v _ (hv.le hleA) (by omega) (by omega) ?_
        intro h2 hle2
        have n2 := hle2.nx
        have l2 := hle2.lo
        have g2 := (hle2.get h.nx (by omega)).trans gA
        have hall2 := hleA.trans hle2
        have rest : cov (modeOf L t r) m = false → rs_92_1 h.nx v (.int .i64 m) h2 κ := by
          intro hc
          simp (disch := first | omega | (simp only [Wx]; done) | (simp only [Wy]; done) | (simp only [Wv]; omega) | with_unfolding_all rfl) only [Wz, ptrTo, sliceTo, rs_92_1, g2]
          refine ranc_w t r h2 _ (by omega) ?_
          intro u h3 hu hle3
          have n3 := hle3.nx
          have l3 := hle3.lo
          have hlA := anc_len t r
          refine ⟨fun n l h4 => Le h3 h4 ∧ ∃ k : Nat, slot l 36 = .int .i64 (k : Int) ∧ k ≤ (anc t r).length ∧ n = (anc t r).length - k ∧ ((anc t r).take k).any (fun a => letsM (modeOf L a.1 a.2) m) = false, ⟨_, Le.refl _, 0, rfl, Nat.zero_le _, rfl, rfl⟩, ?_⟩
          rintro n l h4 ⟨hle4, k, s4, hk4, rfl, hw4⟩
          have n4 := hle4.nx
          have l4 := hle4.lo
          have hall4 := (hall2.trans hle3).trans hle4
          by_cases hlt : k < (anc t r).length
          · obtain ⟨a, ha'⟩ : ∃ a, (anc t r)[k]? = some a := ⟨_, List.getElem?_eq_getElem hlt⟩
            obtain ⟨b, o, hb, hat, hld⟩ := ld2 (hu.le hle4) k ha'
            simp (disch := first | omega | (simp only [Wx]; done) | (simp only [Wy]; done) | (simp only [Wv]; omega) | with_unfolding_all rfl) only [Wz, ptrTo, sliceTo, hu.len, s4, rs_92_0, hat, hld, enc2]
            refine rmode_w L a.1 a.2 h4 v _ (hv.le hall4) (by omega) (by omega) ?_
            intro h5 hle5
            have hT : letsM (modeOf L a.1 a.2) m = true → κ (.bool true) h5 := by
              intro e
              have := hk h5 (hall4.trans hle5)
              have e2 : impF (modeOf L) t r m = true := by
                simp only [impF, Bool.or_eq_true]
                exact .inr (List.any_eq_true.2 ⟨a, List.mem_of_getElem? ha', e⟩)
              rwa [e2] at this
            have htk : letsM (modeOf L a.1 a.2) m = false → ((anc t r).take (k + 1)).any (fun a => letsM (modeOf L a.1 a.2) m) = false := by
              intro e
              have e2 : (anc t r)[k] = a := by rw [List.getElem?_eq_getElem hlt] at ha'; exact Option.some.inj ha'
              rw [List.take_succ_eq_append_getElem hlt, List.any_append, hw4, e2]
              simp [e]
            have hL := lets_iff (modeOf L a.1 a.2) m
            obtain ⟨up, eup⟩ : ∃ up, modeOf L a.1 a.2 = up := ⟨_, rfl⟩
            rw [eup] at hT htk hL ⊢
            rcases (show up < 3 ∨ up = 3 ∨ up = 4 ∨ up = 5 ∨ up = 6 ∨ up > 6 by omega) with h6 | h6 | h6 | h6 | h6 | h6 <;> rcases (show m < 1 ∨ m = 1 ∨ m = 2 ∨ m = 3 ∨ m > 3 by omega) with m6 | m6 | m6 | m6 | m6 <;> simp (disch := first | omega | (simp only [Wx]; done) | (simp only [Wy]; done) | (simp only [Wv]; omega) | with_unfolding_all rfl) only [Wz, ptrTo, sliceTo, s4] <;>
              first
              | exact hT (hL.2 (by omega))
              | exact ⟨_, by omega, hle4.trans hle5, k + 1, rfl, by omega, rfl, htk (by rw [← Bool.not_eq_true, hL]; omega)⟩
          · simp (disch := first | omega | (simp only [Wx]; done) | (simp only [Wy]; done) | (simp only [Wv]; omega) | with_unfolding_all rfl) only [Wz, ptrTo, sliceTo, hu.len, s4]
            have e : (anc t r).take k = anc t r := List.take_of_length_le (by omega)
            rw [e] at hw4
            have := hk h4 hall4
            have e2 : impF (modeOf L) t r m = false := by simp only [impF, ha, hc, hw4]; rfl
            rwa [e2] at this
        by_cases hz : modeOf L t r = 0
        · simp (disch := first | omega | (simp only [Wx]; done) | (simp only [Wy]; done) | (simp only [Wv]; omega) | with_unfolding_all rfl) only [Wz, ptrTo, sliceTo, dec_t hz]
          exact rest (by rw [hz]; exact cov0 h0)
        · simp (disch := first | omega | (simp only [Wx]; done) | (simp only [Wy]; done) | (simp only [Wv]; omega) | with_unfolding_all rfl) only [Wz, ptrTo, sliceTo, dec_f hz]
          refine rcovers_w _ _ ?_
          cases hc : cov (modeOf L t r) m with
          | true =>
            simp (disch := first | omega | (simp only [Wx]; done) | (simp only [Wy]; done) | (simp only [Wv]; omega) | with_unfolding_all rfl) only [Wz, ptrTo, sliceTo]
            have := hk h2 hall2
            simpa [impF, ha, hc] using this
          | false =>
            simp (disch := first | omega | (simp only [Wx]; done) | (simp only [Wy]; done) | (simp only [Wv]; omega) | with_unfolding_all rfl) only [Wz, ptrTo, sliceTo]
            exact rest hc
end Go.Proofs

namespace Go.Proofs
open Go.Vai Go.Clashes
/-- the reference's Plan -/
theorem rplan_w (L : List H4) (t r m : Int) (h : Heap) (v : Value) (κ : Value → Heap → Prop) (hv : Sl enc4 h v L) (hlen : L.length ≤ 100000) (hlo : h.lo ≤ h.nx) (hk : ∀ v' h', Sl enc3 h' v' (planF (modeOf L) t r m) → veq 8 v' v' = true → Le h h' → κ v' h') :
    CallW Try.prog 50 [v, nmV t r, .int .i64 m] h κ := by
  refine callW_of mixed ?_
  rw [rs_50]
  simp (disch := first | omega | (simp only [Wx]; done) | (simp only [Wy]; done) | (simp only [Wv]; omega) | with_unfolding_all rfl) only [Wz, ptrTo, sliceTo, nmV]
  obtain ⟨hA, eA⟩ : ∃ hA : Heap, hA = ⟨h.nx + 1, h.bl.upd h.nx (cellsO [.int .i64 t, .int .i64 r] 27 false), h.lo⟩ := ⟨_, rfl⟩
  have hleA : Le h hA := by subst eA; exact (Le.refl h).new _
  have gA : hA.bl.get h.nx = some (cellsO [.int .i64 t, .int .i64 r] 27 false) := by subst eA; exact T.get_upd_same _ _ _
  have nA : hA.nx = h.nx + 1 := by subst eA; rfl
  have lA : hA.lo = h.lo := by subst eA; rfl
  rw [← eA]
  clear eA
  refine rimplied_w L t r m hA v _ (hv.le hleA) hlen (by omega) ?_
  intro h2 hle2
  have n2 := hle2.nx
  have l2 := hle2.lo
  have g2 := (hle2.get h.nx (by omega)).trans gA
  have hall2 := hleA.trans hle2
  cases himp : impF (modeOf L) t r m with
  | true =>
    simp (disch := first | omega | (simp only [Wx]; done) | (simp only [Wy]; done) | (simp only [Wv]; omega) | with_unfolding_all rfl) only [Wz, ptrTo, sliceTo]
    exact hk _ _ ⟨none, 0, by simp [planF, himp], fun hn => by simp [planF, himp] at hn⟩ (veq_sln _ _) hall2
  | false =>
    have hm0 : parM m ≠ 0 := by
      have hi := himp
      simp only [impF, Bool.or_eq_false_iff, Bool.not_eq_false'] at hi
      have hask := hi.1.1
      simp only [askM, Bool.and_eq_true, decide_eq_true_eq] at hask
      exact (par_of hask.1.2).2.2 hask.2
    simp (disch := first | omega | (simp only [Wx]; done) | (simp only [Wy]; done) | (simp only [Wv]; omega) | with_unfolding_all rfl) only [Wz, ptrTo, sliceTo, g2]
    refine ranc_w t r h2 _ (by omega) ?_
    intro u h3 hu hle3
    have n3 := hle3.nx
    have l3 := hle3.lo
    have hlA := anc_len t r
    have hall3 := hall2.trans hle3
    refine rparent_w m ?_
    refine ⟨fun n l h4 => Le h3 h4 ∧ ∃ k : Nat, slot l 29 = .int .i64 (k : Int) ∧ k ≤ (anc t r).length ∧ n = (anc t r).length - k ∧ Own enc3 h3 70 h4 (slot l 26) (upN (modeOf L) m ((anc t r).take k)), ⟨_, Le.refl _, 0, rfl, Nat.zero_le _, rfl, .inl ⟨rfl, .inl rfl⟩⟩, ?_⟩
    rintro n l h4 ⟨hle4, k, s4, hk4, rfl, ho4⟩
    have n4 := hle4.nx
    have l4 := hle4.lo
    have hall4 := hall3.trans hle4
    have hu4 := upN_len (modeOf L) m ((anc t r).take k)
    rw [List.length_take] at hu4
    by_cases hlt : k < (anc t r).length
    · obtain ⟨a, ha⟩ : ∃ a, (anc t r)[k]? = some a := ⟨_, List.getElem?_eq_getElem hlt⟩
      obtain ⟨b, o, hb, hat, hld⟩ := ld2 (hu.le hle4) k ha
      simp (disch := first | omega | (simp only [Wx]; done) | (simp only [Wy]; done) | (simp only [Wv]; omega) | with_unfolding_all rfl) only [Wz, ptrTo, sliceTo, rs_50_3, hu.len, s4]
      refine ⟨fun l12 h5 => Le h3 h5 ∧ Own enc3 h3 70 h5 (slot l12 22) (upN (modeOf L) m ((anc t r).take (k + 1))), ?_, ?_⟩
      · simp (disch := first | omega | (simp only [Wx]; done) | (simp only [Wy]; done) | (simp only [Wv]; omega) | with_unfolding_all rfl) only [Wz, ptrTo, sliceTo, rs_50_1, s4, hat, hld, enc2]
        refine rmode_w L a.1 a.2 h4 v _ (hv.le hall4) (by omega) (by omega) ?_
        intro h5 hle5
        have n5 := hle5.nx
        have l5 := hle5.lo
        have hall5 := hle4.trans hle5
        refine rcov0_w _ _ hm0 ?_
        have ho5 := ho4.le hle5
        cases hc : cov (modeOf L a.1 a.2) (parM m) with
        | true =>
          simp (disch := first | omega | (simp only [Wx]; done) | (simp only [Wy]; done) | (simp only [Wv]; omega) | with_unfolding_all rfl) only [Wz, ptrTo, sliceTo]
          refine ⟨hall5, ?_⟩
          rw [upN_succ ha, if_pos hc, List.append_nil]
          exact ho5
        | false =>
          obtain ⟨b5, o5, hb5, hat5, hld5⟩ := ld2 ((hu.le hle4).le hle5) k ha
          have qu := slN_same hu (ne_of_get ha)
          simp (disch := first | omega | (simp only [Wx]; done) | (simp only [Wy]; done) | (simp only [Wv]; omega) | with_unfolding_all rfl) only [Wz, ptrTo, sliceTo, rs_50_0, s4, hat5, hld5, enc2]
          refine rsup_w _ _ ?_
          simp (disch := first | omega | (simp only [Wx]; done) | (simp only [Wy]; done) | (simp only [Wv]; omega) | with_unfolding_all rfl) only [Wz, ptrTo, sliceTo, s4, ho5.same, qu, hat5, hld5, enc2]
          have hle6 := (Le.refl h5).new (cellsO [.int .i64 a.1, .int .i64 a.2, .int .i64 (supM (modeOf L a.1 a.2) (parM m))] 70 false)
          refine append_own (enc := enc3) (a := h3) (L := upN (modeOf L) m ((anc t r).take k)) (M := [(a.1, a.2, supM (modeOf L a.1 a.2) (parM m))]) enc3_len enc3_one (by omega) (by omega) (ho5.le hle6) ⟨_, 1, rfl, fun _ => ⟨h5.nx, 0, rfl, Nat.lt_succ_self _, by show Has ((T.upd _ _ _).get _) 0 _; rw [T.get_upd_same]; exact Has.all⟩⟩ (hall5.trans hle6)
            (by simp; omega) (by show h5.lo ≤ h5.nx + 1; omega) _ ?_
          intro v' h' ho' hl' _ _
          refine ⟨hl', ?_⟩
          rw [upN_succ ha, hc, if_neg (by simp)]
          exact ho'
      · rintro l12 h5 ⟨hl5, ho5⟩
        exact ⟨_, by omega, hl5, k + 1, rfl, by omega, rfl, ho5⟩
    · have hkk : k = (anc t r).length := by omega
      subst hkk
      rw [List.take_length] at ho4 hu4
      have g4 := (hle4.get h.nx (by omega)).trans ((hle3.get h.nx (by omega)).trans g2)
      simp (disch := first | omega | (simp only [Wx]; done) | (simp only [Wy]; done) | (simp only [Wv]; omega) | with_unfolding_all rfl) only [Wz, ptrTo, sliceTo, rs_50_3, hu.len, s4, rs_50_2, g4]
      refine rmode_w L t r h4 v _ (hv.le hall4) (by omega) (by omega) ?_
      intro h5 hle5
      have n5 := hle5.nx
      have l5 := hle5.lo
      have g5 := (hle5.get h.nx (by omega)).trans g4
      have ho5 := ho4.le hle5
      have hall5 := hle4.trans hle5
      simp (disch := first | omega | (simp only [Wx]; done) | (simp only [Wy]; done) | (simp only [Wv]; omega) | with_unfolding_all rfl) only [Wz, ptrTo, sliceTo, g5, ho5.same]
      refine rsup_w _ _ ?_
      simp (disch := first | omega | (simp only [Wx]; done) | (simp only [Wy]; done) | (simp only [Wv]; omega) | with_unfolding_all rfl) only [Wz, ptrTo, sliceTo, g5, ho5.same]
      have hle6 := (Le.refl h5).new (cellsO [.int .i64 t, .int .i64 r, .int .i64 (supM (modeOf L t r) m)] 70 false)
      refine append_own (enc := enc3) (a := h3) (L := upN (modeOf L) m (anc t r)) (M := [(t, r, supM (modeOf L t r) m)]) enc3_len enc3_one (by omega) (by omega) (ho5.le hle6) ⟨_, 1, rfl, fun _ => ⟨h5.nx, 0, rfl, Nat.lt_succ_self _, by show Has ((T.upd _ _ _).get _) 0 _; rw [T.get_upd_same]; exact Has.all⟩⟩ (hall5.trans hle6)
        (by simp; omega) (by show h5.lo ≤ h5.nx + 1; omega) _ ?_
      intro v' h' ho' hl' _ _
      have e : planF (modeOf L) t r m = upN (modeOf L) m (anc t r) ++ [(t, r, supM (modeOf L t r) m)] := by rw [planF, himp]; simp
      rw [← e] at ho'
      exact hk v' h' ho'.sl ho'.same (hall3.trans hl')
/-! ## what is had -/
theorem putR_all {L : List H4} {p : H4} : putR L p = putH L p := by
  rcases modeOf_cases L p.t p.r with ⟨q, hq, h1, h2⟩ | h
  · unfold putR putH
    cases hf : L.findIdx? (named p.t p.r) with
    | some i => rfl
    | none =>
      rw [List.findIdx?_eq_none_iff] at hf
      have := hf q hq
      rw [(named_iff p.t p.r q).2 ⟨h1, h2⟩] at this; cases this
  · exact putR_eq h
def putN (H : List H4) : List N3 → List H4
  | [] => H
  | p :: P => putN (putH H ⟨1, p.1, p.2.1, p.2.2⟩) P
def hadL (H : List H4) (w : N2) : List H4 := putN H (planF (modeOf H) (nmF w.1).1 (nmF w.1).2 (mdF w.2))
theorem putH_len (H : List H4) (p : H4) : (putH H p).length ≤ H.length + 1 := by
  unfold putH
  split
  · simp
  · split
    · simp; omega
    · simp
theorem putN_of : ∀ {P : List N3} {H : List H4}, St H → WF (modeOf H) → Chain (modeOf H) P → St (putN H P) ∧ modeOf (putN H P) = endF (modeOf H) P ∧ (putN H P).length ≤ H.length + P.length := by
  intro P
  induction P with
  | nil => intro H s _ _; exact ⟨s, rfl, Nat.le_refl _⟩
  | cons p P ih =>
    intro H s hW hc
    obtain ⟨s1, s2, s3, _⟩ := s.put hc.1.ok hc.1.kn hc.1.ne
    obtain ⟨_, w2, _⟩ := step_up s.kf hW hc.1
    obtain ⟨i1, i2, i3⟩ := ih s1 (by rw [s3]; exact w2) (by rw [s3]; exact hc.2)
    rw [s3] at i2
    exact ⟨i1, i2, by simp only [putN, List.length_cons]; omega⟩
theorem hadL_of {H : List H4} (s : St H) (hW : WF (modeOf H)) (w : N2) : St (hadL H w) ∧ WF (modeOf (hadL H w)) ∧ GE (modeOf H) (modeOf (hadL H w)) ∧ (hadL H w).length ≤ H.length + 3 := by
  obtain ⟨c1, _⟩ := plan_ok s.kf hW (nmF w.1).1 (nmF w.1).2 (mdF w.2)
  obtain ⟨p1, p2, p3⟩ := putN_of s hW c1
  obtain ⟨e1, e2, e3⟩ := chain_end s.kf hW c1
  have := planF_len (modeOf H) (nmF w.1).1 (nmF w.1).2 (mdF w.2)
  unfold hadL
  rw [p2]
  exact ⟨p1, e2, e3, by omega⟩
theorem had_w (H : List H4) (w : N2) (h : Heap) (v : Value) (κ : Value → Heap → Prop) (hv : Sl enc4 h v H) (q : veq 8 v v = true) (hlen : H.length ≤ 1000) (hlo : h.lo ≤ h.nx) (hk : ∀ v' h', Sl enc4 h' v' (hadL H w) → veq 8 v' v' = true → Le h h' → κ v' h') :
    CallW Try.prog 47 [v, .agg ⟨enc2 w⟩] h κ := by
  refine callW_of mixed ?_
  rw [rs_47]
  simp (disch := first | omega | (simp only [Wx]; done) | (simp only [Wy]; done) | (simp only [Wv]; omega) | with_unfolding_all rfl) only [Wz, ptrTo, sliceTo, enc2]
  refine name13_w _ ?_
  simp (disch := first | omega | (simp only [Wx]; done) | (simp only [Wy]; done) | (simp only [Wv]; omega) | with_unfolding_all rfl) only [Wz, ptrTo, sliceTo, q]
  refine mode6_w _ ?_
  obtain ⟨hA, eA⟩ : ∃ hA : Heap, hA = ⟨h.nx + 1, h.bl.upd h.nx (cellsO [.int .i64 w.1, .int .i64 w.2] 64 false), h.lo⟩ := ⟨_, rfl⟩
  have hleA : Le h hA := by subst eA; exact (Le.refl h).new _
  have nA : hA.nx = h.nx + 1 := by subst eA; rfl
  have lA : hA.lo = h.lo := by subst eA; rfl
  rw [← eA]
  clear eA
  refine rplan_w H _ _ _ hA v _ (hv.le hleA) (by omega) (by omega) ?_
  intro u h2 hu qu hle2
  have hPl := planF_len (modeOf H) (nmF w.1).1 (nmF w.1).2 (mdF w.2)
  have hh : hadL H w = putN H (planF (modeOf H) (nmF w.1).1 (nmF w.1).2 (mdF w.2)) := rfl
  obtain ⟨P, eP⟩ : ∃ P, planF (modeOf H) (nmF w.1).1 (nmF w.1).2 (mdF w.2) = P := ⟨_, rfl⟩
  rw [eP] at hu hPl hh
  rw [hh] at hk
  have n2 := hle2.nx
  have l2 := hle2.lo
  have hall2 := hleA.trans hle2
  refine ⟨fun n l h3 => ∃ (k : Nat) (K : List H4), slot l 20 = .int .i64 (k : Int) ∧ k ≤ P.length ∧ n = P.length - k ∧ Le h2 h3 ∧ Sl enc4 h3 (slot l 17) K ∧ veq 8 (slot l 17) (slot l 17) = true ∧ K.length ≤ H.length + k ∧ putN K (P.drop k) = putN H P,
    ⟨_, 0, H, rfl, Nat.zero_le _, rfl, Le.refl _, (hv.le hleA).le hle2, q, Nat.le_refl _, rfl⟩, ?_⟩
  rintro n l h3 ⟨k, K, s3, hk3, rfl, hle3, hv3, q3, len3, e3⟩
  have n3 := hle3.nx
  have l3 := hle3.lo
  by_cases hlt : k < P.length
  · obtain ⟨p, hp⟩ : ∃ p, P[k]? = some p := ⟨_, List.getElem?_eq_getElem hlt⟩
    obtain ⟨b, o, hb, hat, hld⟩ := ld3 (hu.le hle3) k hp
    have hdr : P.drop k = p :: P.drop (k + 1) := by
      rw [List.drop_eq_getElem_cons hlt]
      rw [List.getElem?_eq_getElem hlt] at hp
      rw [Option.some.inj hp]
    rw [hdr] at e3
    simp (disch := first | omega | (simp only [Wx]; done) | (simp only [Wy]; done) | (simp only [Wv]; omega) | with_unfolding_all rfl) only [Wz, ptrTo, sliceTo, hu.len, s3, rs_47_0, hat, hld]
    refine rput_w K ⟨1, p.1, p.2.1, p.2.2⟩ h3 _ _ hv3 (by omega) (by omega) ?_
    intro v4 h4 hv4 hle4
    rw [putR_all] at hv4
    have := putH_len K ⟨1, p.1, p.2.1, p.2.2⟩
    exact ⟨_, by omega, k + 1, _, rfl, by omega, rfl, hle3.trans hle4, hv4, slN_same hv4 (by rw [← putR_all]; exact putR_ne _ _), by omega, e3⟩
  · simp (disch := first | omega | (simp only [Wx]; done) | (simp only [Wy]; done) | (simp only [Wv]; omega) | with_unfolding_all rfl) only [Wz, ptrTo, sliceTo, hu.len, s3]
    have e : P.drop k = [] := List.drop_of_length_le (by omega)
    rw [e] at e3
    have e3 : K = putN H P := e3
    rw [e3] at hv3
    exact hk _ _ hv3 q3 (hall2.trans hle3)
end Go.Proofs

namespace Go.Proofs
open Go.Vai Go.Clashes
theorem plan_sub {f g : Int → Int → Int} (hG : GE f g) (t r m : Int) : ∀ q ∈ planF g t r m, ∃ p ∈ planF f t r m, p.1 = q.1 ∧ p.2.1 = q.2.1 := by
  intro q hq
  unfold planF at hq ⊢
  by_cases hg : impF g t r m = true
  · rw [if_pos hg] at hq; cases hq
  · have hf : ¬ impF f t r m = true := fun e => hg (hG.imp e)
    rw [if_neg hg] at hq
    rw [if_neg hf]
    rcases List.mem_append.1 hq with h1 | h1
    · unfold upN at h1
      obtain ⟨a, ha, rfl⟩ := List.mem_map.1 h1
      obtain ⟨h2, h3⟩ := List.mem_filter.1 ha
      refine ⟨(a.1, a.2, supM (f a.1 a.2) (parM m)), List.mem_append_left _ (List.mem_map.2 ⟨a, List.mem_filter.2 ⟨h2, ?_⟩, rfl⟩), rfl, rfl⟩
      cases h4 : cov (f a.1 a.2) (parM m) with
      | false => rfl
      | true => rw [cov_trans (hG a.1 a.2) h4] at h3; cases h3
    · rw [List.mem_singleton] at h1
      subst h1
      exact ⟨_, List.mem_append_right _ (List.mem_singleton.2 rfl), rfl, rfl⟩
theorem St.drop {H : List H4} (s : St H) (t r : Int) : St (dropH H t r) ∧ (dropH H t r).length ≤ H.length ∧ modeOf (dropH H t r) = upF (modeOf H) t r 0 := by
  have s' : St (dropH H t r) := ⟨s.sorted.filter _, fun p hp => s.ok p (mem_drop.1 hp).1⟩
  refine ⟨s', List.length_filter_le _ _, ?_⟩
  funext t' r'
  by_cases h1 : t' = t ∧ r' = r
  · obtain ⟨rfl, rfl⟩ := h1
    rw [upF_same]
    exact modeOf_none fun x hx => (mem_drop.1 hx).2
  · rw [upF_ne h1]
    rcases modeOf_cases H t' r' with ⟨p, hp, rfl, rfl⟩ | h2
    · rw [modeOf_mem s.sorted hp, modeOf_mem s'.sorted (mem_drop.2 ⟨hp, h1⟩)]
    · rw [modeOf_none h2, modeOf_none fun x hx => h2 x (mem_drop.1 hx).1]
theorem St.put_len {H : List H4} (s : St H) (t r m : Int) : decide ((((putH H ⟨1, t, r, m⟩).length : Nat) : Int) = (H.length : Nat)) = !decide (modeOf H t r = 0) := by
  rcases modeOf_cases H t r with ⟨q, hq, rfl, rfl⟩ | ha
  · have h0 := (s.ok q hq).2.2.1
    rw [modeOf_mem s.sorted hq]
    have hl : (putH H ⟨1, q.t, q.r, m⟩).length = H.length := by
      cases hf : H.findIdx? (named q.t q.r) with
      | none =>
        rw [List.findIdx?_eq_none_iff] at hf
        have := hf q hq
        rw [(named_iff q.t q.r q).2 ⟨rfl, rfl⟩] at this; cases this
      | some i =>
        have hp : putH H ⟨1, q.t, q.r, m⟩ = H.set i ⟨1, q.t, q.r, m⟩ := by unfold putH; simp only [hf]
        rw [hp, List.length_set]
    rw [hl]; simp [h0]
  · rw [modeOf_none ha, putH_new (p := ⟨1, t, r, m⟩) ha, len_ins]
    simp; omega
theorem more_end (l9 l48 : List Value) (b : Nat) (n : N2) (m : Int) (H : List H4) (h : Heap) (g : h.bl.get b = some (cellsO [.int .i64 n.1, .int .i64 n.2] 27 false)) (hb : b < h.nx) (hv : Sl enc4 h (slot l9 10) H) (s : St H) (ok : okN n.1 n.2 = true)
    (hm : kn m = true) (h0 : m ≠ 0) (hlen : H.length ≤ 1000) (hlo : h.lo ≤ h.nx) : rs_8_4 (.pointer (some ⟨b, 0, none⟩)) (.int .i64 m) l9 l48 h IsTrue := by
  simp (disch := first | omega | (simp only [Wx]; done) | (simp only [Wy]; done) | (simp only [Wv]; omega) | with_unfolding_all rfl) only [Wz, ptrTo, sliceTo, rs_8_4, g]
  obtain ⟨hA, eA⟩ : ∃ hA : Heap, hA = ⟨h.nx + 1, h.bl.upd h.nx (cellsO [.int .i64 1, .int .i64 n.1, .int .i64 n.2, .int .i64 m] 30 false), h.lo⟩ := ⟨_, rfl⟩
  have hleA : Le h hA := by subst eA; exact (Le.refl h).new _
  have nA : hA.nx = h.nx + 1 := by subst eA; rfl
  have lA : hA.lo = h.lo := by subst eA; rfl
  rw [← eA]
  clear eA
  refine put_w H ⟨1, n.1, n.2, m⟩ hA _ _ (hv.le hleA) (by omega) (by omega) ?_
  intro vp h2 hvp hle2
  have n2 := hle2.nx
  have l2 := hle2.lo
  have g2 := (hle2.get b (by omega)).trans ((hleA.get b hb).trans g)
  obtain ⟨s1, s2, s3, s4⟩ := s.put ok hm h0
  obtain ⟨d1, d2, d3⟩ := s1.drop n.1 n.2
  simp (disch := first | omega | (simp only [Wx]; done) | (simp only [Wy]; done) | (simp only [Wv]; omega) | with_unfolding_all rfl) only [Wz, ptrTo, sliceTo, g2]
  refine drop_w _ n.1 n.2 h2 vp _ hvp (by omega) (by omega) ?_
  intro vd h3 hvd hle3
  have n3 := hle3.nx
  have l3 := hle3.lo
  have hall3 := (hleA.trans hle2).trans hle3
  refine ⟨fun n' l h4 => Le h3 h4 ∧ ∃ i : Nat, slot l 38 = .int .i64 (i : Int) ∧ i ≤ H.length ∧ n' = H.length - i, ⟨_, Le.refl _, 0, rfl, Nat.zero_le _, rfl⟩, ?_⟩
  rintro n' l h4 ⟨hle4, i, q4, hi, rfl⟩
  have n4 := hle4.nx
  have l4 := hle4.lo
  have hall4 := hall3.trans hle4
  have g4 := (hle4.get b (by omega)).trans ((hle3.get b (by omega)).trans g2)
  by_cases hlt : i < H.length
  · obtain ⟨x, hx⟩ : ∃ x, H[i]? = some x := ⟨_, List.getElem?_eq_getElem hlt⟩
    obtain ⟨b4, o4, hb4, hat4, hld4⟩ := ld4 (hv.le hall4) i hx
    have qv := slN_same hv (ne_of_get hx)
    have hxm := modeOf_mem s.sorted (List.mem_of_getElem? hx)
    obtain ⟨hB, eB⟩ : ∃ hB : Heap, hB = ⟨h4.nx + 1, h4.bl.upd h4.nx (cellsO [.int .i64 x.t, .int .i64 x.r] 27 false), h4.lo⟩ := ⟨_, rfl⟩
    have hleB : Le h4 hB := by subst eB; exact (Le.refl h4).new _
    have gB : hB.bl.get h4.nx = some (cellsO [.int .i64 x.t, .int .i64 x.r] 27 false) := by subst eB; exact T.get_upd_same _ _ _
    have nB : hB.nx = h4.nx + 1 := by subst eB; rfl
    have lB : hB.lo = h4.lo := by subst eB; rfl
    have eb : hB.bl.get b4 = h4.bl.get b4 := hleB.get b4 hb4
    simp (disch := first | omega | (simp only [Wx]; done) | (simp only [Wy]; done) | (simp only [Wv]; omega) | with_unfolding_all rfl) only [Wz, ptrTo, sliceTo, hv.len, q4, rs_8_2, hat4, hld4, g4, bin_ne27]
    rw [← eB]
    clear eB
    by_cases hne : x.t = n.1 ∧ x.r = n.2
    · simp (disch := first | omega | (simp only [Wx]; done) | (simp only [Wy]; done) | (simp only [Wv]; omega) | with_unfolding_all rfl) only [Wz, ptrTo, sliceTo, dec_t hne, q4]
      exact ⟨_, by omega, hle4.trans hleB, i + 1, rfl, by omega, rfl⟩
    · have m1 : modeOf (putH H ⟨1, n.1, n.2, m⟩) x.t x.r = x.m := by rw [s3, upF_ne hne, hxm]
      have m2 : modeOf (dropH (putH H ⟨1, n.1, n.2, m⟩) n.1 n.2) x.t x.r = x.m := by rw [d3, upF_ne hne, m1]
      simp (disch := first | omega | (simp only [Wx]; done) | (simp only [Wy]; done) | (simp only [Wv]; omega) | with_unfolding_all rfl) only [Wz, ptrTo, sliceTo, dec_f hne, gB, q4, hat4, hld4, eb]
      refine mode_w _ x.t x.r hB vp _ (((hvp.le hle3).le hle4).le hleB) (by omega) (by omega) ?_
      intro h5 hle5
      have n5 := hle5.nx
      have l5 := hle5.lo
      have e5 := (hle5.get b4 (by omega)).trans eb
      have g5 := (hle5.get h4.nx (by omega)).trans gB
      simp (disch := first | omega | (simp only [Wx]; done) | (simp only [Wy]; done) | (simp only [Wv]; omega) | with_unfolding_all rfl) only [Wz, ptrTo, sliceTo, m1, qv, hat4, hld4, e5, g5, dec_t (rfl : x.m = x.m)]
      refine mode_w _ x.t x.r h5 vd _ (((hvd.le hle4).le hleB).le hle5) (by omega) (by omega) ?_
      intro h6 hle6
      have n6 := hle6.nx
      have l6 := hle6.lo
      have e6 := (hle6.get b4 (by omega)).trans e5
      simp (disch := first | omega | (simp only [Wx]; done) | (simp only [Wy]; done) | (simp only [Wv]; omega) | with_unfolding_all rfl) only [Wz, ptrTo, sliceTo, m2, qv, hat4, hld4, e6, dec_t (rfl : x.m = x.m), q4]
      exact ⟨_, by omega, ((hle4.trans hleB).trans hle5).trans hle6, i + 1, rfl, by omega, rfl⟩
  · have m1 : modeOf (putH H ⟨1, n.1, n.2, m⟩) n.1 n.2 = m := by rw [s3, upF_same]
    have m2 : modeOf (dropH (putH H ⟨1, n.1, n.2, m⟩) n.1 n.2) n.1 n.2 = 0 := by rw [d3, upF_same]
    simp (disch := first | omega | (simp only [Wx]; done) | (simp only [Wy]; done) | (simp only [Wv]; omega) | with_unfolding_all rfl) only [Wz, ptrTo, sliceTo, hv.len, q4, rs_8_3, g4]
    refine mode_w _ n.1 n.2 h4 vp _ ((hvp.le hle3).le hle4) (by omega) (by omega) ?_
    intro h5 hle5
    have n5 := hle5.nx
    have l5 := hle5.lo
    have g5 := (hle5.get b (by omega)).trans g4
    simp (disch := first | omega | (simp only [Wx]; done) | (simp only [Wy]; done) | (simp only [Wv]; omega) | with_unfolding_all rfl) only [Wz, ptrTo, sliceTo, m1, g5, dec_t (rfl : m = m)]
    refine mode_w _ n.1 n.2 h5 vd _ ((hvd.le hle4).le hle5) (by omega) (by omega) ?_
    intro h6 hle6
    have n6 := hle6.nx
    have l6 := hle6.lo
    have g6 := (hle6.get b (by omega)).trans g5
    simp (disch := first | omega | (simp only [Wx]; done) | (simp only [Wy]; done) | (simp only [Wv]; omega) | with_unfolding_all rfl) only [Wz, ptrTo, sliceTo, m2, g6, hvp.len, hv.len, dec_t (rfl : (0 : Int) = 0)]
    refine mode_w _ n.1 n.2 h6 _ _ (((hv.le hall4).le hle5).le hle6) (by omega) (by omega) ?_
    intro h7 hle7
    have hpl := s.put_len n.1 n.2 m
    rw [hpl]
    simp (disch := first | omega | (simp only [Wx]; done) | (simp only [Wy]; done) | (simp only [Wv]; omega) | with_unfolding_all rfl) only [Wz, ptrTo, sliceTo, bin_eqlb, dec_t (rfl : (!decide (modeOf H n.1 n.2 = 0)) = !decide (modeOf H n.1 n.2 = 0))]
    refine rknown_w m ?_
    simp (disch := first | omega | (simp only [Wx]; done) | (simp only [Wy]; done) | (simp only [Wv]; omega) | with_unfolding_all rfl) only [Wz, ptrTo, sliceTo, hm]
    rfl
set_option maxHeartbeats 4000000 in
theorem cacheMore_law (L : List N2) (mo lo : N2) (h : Heap) (v : Value) (hv : Sl enc2 h v L) (hlo : h.lo ≤ h.nx) : CallW Try.prog 8 [v, .agg ⟨enc2 mo⟩, .agg ⟨enc2 lo⟩] h IsTrue := by
  refine callW_of mixed ?_
  rw [rs_8]
  simp (disch := first | omega | (simp only [Wx]; done) | (simp only [Wy]; done) | (simp only [Wv]; omega) | with_unfolding_all rfl) only [Wz, ptrTo, sliceTo, enc2]
  obtain ⟨hA, eA⟩ : ∃ hA : Heap, hA = ⟨h.nx + 1 + 1, (h.bl.upd h.nx (cellsO [.int .i64 mo.1, .int .i64 mo.2] 64 false)).upd (h.nx + 1) (cellsO [.int .i64 lo.1, .int .i64 lo.2] 64 false), h.lo⟩ := ⟨_, rfl⟩
  have hleA : Le h hA := by subst eA; exact ((Le.refl h).new _).new _
  have gA : hA.bl.get h.nx = some (cellsO [.int .i64 mo.1, .int .i64 mo.2] 64 false) := by subst eA; exact (T.get_updne _ _ (by omega)).trans (T.get_upd_same _ _ _)
  have gB : hA.bl.get (h.nx + 1) = some (cellsO [.int .i64 lo.1, .int .i64 lo.2] 64 false) := by subst eA; exact T.get_upd_same _ _ _
  have nA : hA.nx = h.nx + 1 + 1 := by subst eA; rfl
  have lA : hA.lo = h.lo := by subst eA; rfl
  rw [← eA]
  clear eA
  refine closedW mixed lives17 ?_
  by_cases hn : L.length > 20
  · simp (disch := first | omega | (simp only [Wx]; done) | (simp only [Wy]; done) | (simp only [Wv]; omega) | with_unfolding_all rfl) only [Wz, ptrTo, sliceTo, hv.len]
    rfl
  simp (disch := first | omega | (simp only [Wx]; done) | (simp only [Wy]; done) | (simp only [Wv]; omega) | with_unfolding_all rfl) only [Wz, ptrTo, sliceTo, hv.len]
  refine ⟨fun n l h1 => ∃ (i : Nat) (H : List H4), slot l 13 = .int .i64 (i : Int) ∧ i ≤ L.length ∧ n = L.length - i ∧ Le hA h1 ∧ Sl enc4 h1 (slot l 10) H ∧ veq 8 (slot l 10) (slot l 10) = true ∧ St H ∧ WF (modeOf H) ∧ H.length ≤ 3 * i,
    ⟨_, 0, [], rfl, Nat.zero_le _, rfl, Le.refl _, Sl.nil _ _ _, veq_sln _ _, St.nil, wf_nil, Nat.zero_le _⟩, ?_⟩
  rintro n l h1 ⟨i, H, s1, hi, rfl, hle1, hv1, q1, st1, wf1, len1⟩
  have n1 := hle1.nx
  have l1 := hle1.lo
  by_cases hlt : i < L.length
  · obtain ⟨w, hw⟩ : ∃ w, L[i]? = some w := ⟨_, List.getElem?_eq_getElem hlt⟩
    obtain ⟨b, o, hb, hat, hld⟩ := ld2 ((hv.le hleA).le hle1) i hw
    simp (disch := first | omega | (simp only [Wx]; done) | (simp only [Wy]; done) | (simp only [Wv]; omega) | with_unfolding_all rfl) only [Wz, ptrTo, sliceTo, hv.len, s1, rs_8_7, hat, hld]
    refine had_w H w h1 _ _ hv1 q1 (by omega) (by omega) ?_
    intro v2 h2 hv2 q2 hle2
    obtain ⟨t1, t2, t3, t4⟩ := hadL_of st1 wf1 w
    exact ⟨_, by omega, i + 1, _, rfl, by omega, rfl, hle1.trans hle2, hv2, q2, t1, t2, by omega⟩
  · have g1 := (hle1.get h.nx (by omega)).trans gA
    simp (disch := first | omega | (simp only [Wx]; done) | (simp only [Wy]; done) | (simp only [Wv]; omega) | with_unfolding_all rfl) only [Wz, ptrTo, sliceTo, hv.len, s1, rs_8_7, rs_8_6, g1]
    refine had_w H mo h1 _ _ hv1 q1 (by omega) (by omega) ?_
    intro vb h2 hvb qb hle2
    have n2 := hle2.nx
    have l2 := hle2.lo
    obtain ⟨t1, t2, t3, t4⟩ := hadL_of st1 wf1 mo
    obtain ⟨B, eB⟩ : ∃ B, hadL H mo = B := ⟨_, rfl⟩
    rw [eB] at hvb t1 t2 t3 t4
    have g2 := (hle2.get (h.nx + 1) (by omega)).trans ((hle1.get (h.nx + 1) (by omega)).trans gB)
    simp (disch := first | omega | (simp only [Wx]; done) | (simp only [Wy]; done) | (simp only [Wv]; omega) | with_unfolding_all rfl) only [Wz, ptrTo, sliceTo, g2]
    refine name13_w _ ?_
    simp (disch := first | omega | (simp only [Wx]; done) | (simp only [Wy]; done) | (simp only [Wv]; omega) | with_unfolding_all rfl) only [Wz, ptrTo, sliceTo, g2, T.get_updne]
    refine mode6_w _ ?_
    simp (disch := first | omega | (simp only [Wx]; done) | (simp only [Wy]; done) | (simp only [Wv]; omega) | with_unfolding_all rfl) only [Wz, ptrTo, sliceTo, nmV]
    obtain ⟨hC, eC⟩ : ∃ hC : Heap, hC = ⟨h2.nx + 1, h2.bl.upd h2.nx (cellsO [.int .i64 (nmF lo.1).1, .int .i64 (nmF lo.1).2] 27 false), h2.lo⟩ := ⟨_, rfl⟩
    have hleC : Le h2 hC := by subst eC; exact (Le.refl h2).new _
    have gC : hC.bl.get h2.nx = some (cellsO [.int .i64 (nmF lo.1).1, .int .i64 (nmF lo.1).2] 27 false) := by subst eC; exact T.get_upd_same _ _ _
    have nC : hC.nx = h2.nx + 1 := by subst eC; rfl
    have lC : hC.lo = h2.lo := by subst eC; rfl
    rw [← eC]
    clear eC
    obtain ⟨⟨kt, kr⟩, ek⟩ : ∃ k, nmF lo.1 = k := ⟨_, rfl⟩
    obtain ⟨m, em⟩ : ∃ m, mdF lo.2 = m := ⟨_, rfl⟩
    have hok := nmF_ok lo.1
    have hmd := mdF_kn lo.2
    rw [ek] at gC hok ⊢
    rw [em] at hmd ⊢
    dsimp only at gC hok ⊢
    refine implied_w H kt kr m hC _ _ ((hv1.le hle2).le hleC) (by omega) (by omega) ?_
    intro h3 hle3
    have n3 := hle3.nx
    have l3 := hle3.lo
    have g3 := (hle3.get h2.nx (by omega)).trans gC
    have hall3 := (hle2.trans hleC).trans hle3
    have rest : ∀ h4, Le h3 h4 → rs_8_5 l (.pointer (some ⟨h2.nx, 0, none⟩)) (.int .i64 m) vb h4 IsTrue := by
      intro h4 hle4
      have n4 := hle4.nx
      have l4 := hle4.lo
      have g4 := (hle4.get h2.nx (by omega)).trans g3
      have hall4 := hall3.trans hle4
      simp (disch := first | omega | (simp only [Wx]; done) | (simp only [Wy]; done) | (simp only [Wv]; omega) | with_unfolding_all rfl) only [Wz, ptrTo, sliceTo, rs_8_5, g4]
      refine plan_w H kt kr m h4 _ _ (hv1.le hall4) (by omega) (by omega) ?_
      intro vP h5 hvP qP hle5
      have n5 := hle5.nx
      have l5 := hle5.lo
      have g5 := (hle5.get h2.nx (by omega)).trans g4
      simp (disch := first | omega | (simp only [Wx]; done) | (simp only [Wy]; done) | (simp only [Wv]; omega) | with_unfolding_all rfl) only [Wz, ptrTo, sliceTo, qb, g5]
      refine plan_w B kt kr m h5 _ _ ((((hvb.le hleC).le hle3).le hle4).le hle5) (by omega) (by omega) ?_
      intro vQ h6 hvQ qQ hle6
      have n6 := hle6.nx
      have l6 := hle6.lo
      have g6 := (hle6.get h2.nx (by omega)).trans g5
      have hsub := plan_sub t3 kt kr m
      have hlP := planF_len (modeOf H) kt kr m
      have hlQ := planF_len (modeOf B) kt kr m
      have hvP := hvP.le hle6
      generalize planF (modeOf H) kt kr m = P at hvP hsub hlP
      generalize planF (modeOf B) kt kr m = Q at hvQ hsub hlQ
      have hall6 := (hall4.trans hle5).trans hle6
      refine ⟨fun n l h7 => h6 = h7 ∧ ∃ (i : Nat), slot l 31 = .int .i64 (i : Int) ∧ i ≤ Q.length ∧ n = Q.length - i, ⟨_, rfl, 0, rfl, Nat.zero_le _, rfl⟩, ?_⟩
      rintro n l7 h7 ⟨hE, j, s7, hj, rfl⟩
      cases hE
      by_cases hjt : j < Q.length
      · obtain ⟨qq, hqq⟩ : ∃ x, Q[j]? = some x := ⟨_, List.getElem?_eq_getElem hjt⟩
        obtain ⟨b7, o7, hb7, hat7, hld7⟩ := ld3 hvQ j hqq
        simp (disch := first | omega | (simp only [Wx]; done) | (simp only [Wy]; done) | (simp only [Wv]; omega) | with_unfolding_all rfl) only [Wz, ptrTo, sliceTo, hvQ.len, s7]
        refine ⟨fun n l h8 => h6 = h8 ∧ ∃ (k : Nat), slot l 21 = .int .i64 (k : Int) ∧ k ≤ P.length ∧ n = P.length - k ∧ slot l 18 = .bool ((P.take k).any fun p => decide (p.1 = qq.1 ∧ p.2.1 = qq.2.1)), ⟨_, rfl, 0, rfl, Nat.zero_le _, rfl, rfl⟩, ?_⟩
        rintro n l8 h8 ⟨hE, k, s8, hk, rfl, in8⟩
        cases hE
        by_cases hkt : k < P.length
        · obtain ⟨pp, hpp⟩ : ∃ x, P[k]? = some x := ⟨_, List.getElem?_eq_getElem hkt⟩
          obtain ⟨b8, o8, hb8, hat8, hld8⟩ := ld3 hvP k hpp
          have htk : (P.take (k + 1)).any (fun p => decide (p.1 = qq.1 ∧ p.2.1 = qq.2.1)) = ((P.take k).any (fun p => decide (p.1 = qq.1 ∧ p.2.1 = qq.2.1)) || decide (pp.1 = qq.1 ∧ pp.2.1 = qq.2.1)) := by
            have e2 : P[k] = pp := by rw [List.getElem?_eq_getElem hkt] at hpp; exact Option.some.inj hpp
            rw [List.take_succ_eq_append_getElem hkt, List.any_append, e2]; simp
          cases hin : (P.take k).any (fun p => decide (p.1 = qq.1 ∧ p.2.1 = qq.2.1)) with
          | true =>
            rw [hin] at in8 htk
            simp (disch := first | omega | (simp only [Wx]; done) | (simp only [Wy]; done) | (simp only [Wv]; omega) | with_unfolding_all rfl) only [Wz, ptrTo, sliceTo, rs_8_1, hvP.len, s8, rs_8_0, in8]
            exact ⟨_, by omega, trivial, k + 1, rfl, by omega, rfl, by rw [htk]; rfl⟩
          | false =>
            rw [hin] at in8 htk
            simp (disch := first | omega | (simp only [Wx]; done) | (simp only [Wy]; done) | (simp only [Wv]; omega) | with_unfolding_all rfl) only [Wz, ptrTo, sliceTo, rs_8_1, hvP.len, s8, rs_8_0, in8, s7, hat8, hld8, hat7, hld7, bin_eq27]
            exact ⟨_, by omega, trivial, k + 1, rfl, by omega, rfl, by rw [htk]; rfl⟩
        · have hin : (P.take k).any (fun p => decide (p.1 = qq.1 ∧ p.2.1 = qq.2.1)) = true := by
            rw [List.take_of_length_le (by omega)]
            obtain ⟨p, hp, hp1, hp2⟩ := hsub qq (List.mem_of_getElem? hqq)
            exact List.any_eq_true.2 ⟨p, hp, by simp [hp1, hp2]⟩
          rw [hin] at in8
          simp (disch := first | omega | (simp only [Wx]; done) | (simp only [Wy]; done) | (simp only [Wv]; omega) | with_unfolding_all rfl) only [Wz, ptrTo, sliceTo, rs_8_1, hvP.len, s8, in8, s7]
          exact ⟨_, by omega, trivial, j + 1, rfl, by omega, rfl⟩
      · simp (disch := first | omega | (simp only [Wx]; done) | (simp only [Wy]; done) | (simp only [Wv]; omega) | with_unfolding_all rfl) only [Wz, ptrTo, sliceTo, hvQ.len, s7]
        exact more_end l l7 h2.nx (kt, kr) m H h6 g6 (by omega) (hv1.le hall6) st1 hok hmd.1 hmd.2 (by omega) (by omega)
    cases him : impF (modeOf H) kt kr m with
    | false =>
      simp (disch := first | omega | (simp only [Wx]; done) | (simp only [Wy]; done) | (simp only [Wv]; omega) | with_unfolding_all rfl) only [Wz, ptrTo, sliceTo]
      exact rest h3 (Le.refl _)
    | true =>
      simp (disch := first | omega | (simp only [Wx]; done) | (simp only [Wy]; done) | (simp only [Wv]; omega) | with_unfolding_all rfl) only [Wz, ptrTo, sliceTo, g3]
      refine implied_w B kt kr m h3 _ _ ((hvb.le hleC).le hle3) (by omega) (by omega) ?_
      intro h4 hle4
      simp (disch := first | omega | (simp only [Wx]; done) | (simp only [Wy]; done) | (simp only [Wv]; omega) | with_unfolding_all rfl) only [Wz, ptrTo, sliceTo, t3.imp him]
      exact rest h4 hle4
end Go.Proofs
