/-
  PROVED HERE: a part of the proof, by a calculus of weakest conditions over an abstract heap (U33).
-/
import Derived.Test.YtijmemedhkgplaaGreatDoorUE
set_option linter.unusedVariables false
set_option linter.unusedSimpArgs false
set_option maxRecDepth 100000
set_option maxHeartbeats 8000000
namespace Go.Proofs
open Go.Vai Go.Clashes
-- rs_9 rs_13
theorem veq_ptr (b o : Nat) : veq 8 (.pointer (some ⟨b, o, none⟩)) (.pointer (some ⟨b, o, none⟩)) = true := by
  show (Nat.beq b b && Nat.beq o o) = true
  rw [Nat.beq_refl, Nat.beq_refl]; rfl
theorem lawApart_w (L : List Act) (t r : Int) (h : Heap) (v : Value) (hv : Sl encA h v L) (hlo : h.lo ≤ h.nx) (hno : ∀ c vs t, h.bl.get c ≠ some (cellsO vs t true)) (κ : Value → Heap → Prop) (hk : ∀ h', κ (.bool true) h') :
    CallW Tryz.prog 3 [v, nmV t r] h κ := by
  obtain ⟨x, cc, ev, _⟩ := (show Sl encA h v L from hv)
  refine callW_of mixed ?_
  rw [rs_3, ev]
  have hnoA := noNewT hno [.int .i64 t, .int .i64 r] 24 h.nx
  simp (disch := first | omega | (simp only [Wx]; done) | (simp only [Wy]; done) | (simp only [Wv]; omega) | with_unfolding_all rfl) only [Wz, ptrTo, sliceTo, nmV]
  obtain ⟨hA, e_hA⟩ : ∃ hA : Heap, hA = ⟨h.nx + 1, h.bl.upd h.nx (cellsO [.int .i64 t, .int .i64 r] 24 false), h.lo⟩ := ⟨_, rfl⟩
  have le_hA : Le h hA := by rw [e_hA]; exact (Le.refl h).new _
  have n_hA : hA.nx = h.nx + 1 := by rw [e_hA]
  have l_hA : hA.lo = h.lo := by rw [e_hA]
  have gn : hA.bl.get h.nx = some (cellsO [.int .i64 t, .int .i64 r] 24 false) := by rw [e_hA]; exact T.get_upd_same _ _ _
  have hnoC : ∀ c ws t', hA.bl.get c ≠ some (cellsO ws t' true) := by rw [e_hA]; exact hnoA
  rw [← e_hA]
  clear e_hA
  refine closedW mixed livesT_a ?_
  by_cases h40 : L.length ≤ 40
  case neg =>
    simp (disch := first | omega | (simp only [Wx]; done) | (simp only [Wy]; done) | (simp only [Wv]; omega) | with_unfolding_all rfl) only [Wz, ptrTo, sliceTo, rs_3_5, dec_t (show (40 : Int) < (L.length : Int) by omega)]
    exact hk hA
  simp (disch := first | omega | (simp only [Wx]; done) | (simp only [Wy]; done) | (simp only [Wv]; omega) | with_unfolding_all rfl) only [Wz, ptrTo, sliceTo, rs_3_5, lt_f (show (L.length : Int) ≤ 40 by omega), gn]
  refine checkAny_w t r hA (by omega) _ ?_
  intro h2 e le2
  have n2 := le2.nx
  have l2 := le2.lo
  by_cases h0 : e = 0
  case neg =>
    simp (disch := first | omega | (simp only [Wx]; done) | (simp only [Wy]; done) | (simp only [Wv]; omega) | with_unfolding_all rfl) only [Wz, ptrTo, sliceTo, dec_f h0]
    exact hk h2
  simp (disch := first | omega | (simp only [Wx]; done) | (simp only [Wy]; done) | (simp only [Wv]; omega) | with_unfolding_all rfl) only [Wz, ptrTo, sliceTo, dec_t h0, rs_3_4]
  have hf : ∀ (κ : List Value → Prop), fillB False [(0, 1), (1, 1), (2, 1)] [Value.int .i64 16, Value.int .i64 64, Value.int .i64 128] [Value.int .i64 0, Value.int .i64 0, Value.int .i64 0, Value.int .i64 0] κ = κ [Value.int .i64 16, Value.int .i64 64, Value.int .i64 128, Value.int .i64 0] := fun _ => rfl
  obtain ⟨hB, e_hB⟩ : ∃ hB : Heap, hB = ⟨h2.nx + 1, h2.bl.upd h2.nx (cellsO [.int .i64 16, .int .i64 64, .int .i64 128, .int .i64 0] 29 false), h2.lo⟩ := ⟨_, rfl⟩
  have le_hB : Le h2 hB := by rw [e_hB]; exact (Le.refl h2).new _
  have gB : hB.bl.get h2.nx = some (cellsO [.int .i64 16, .int .i64 64, .int .i64 128, .int .i64 0] 29 false) := by rw [e_hB]; exact T.get_upd_same _ _ _
  have n_hB : hB.nx = h2.nx + 1 := by rw [e_hB]
  have l_hB : hB.lo = h2.lo := by rw [e_hB]
  rw [← e_hB]
  clear e_hB
  obtain ⟨c, ec⟩ : ∃ c : Caps, c = ⟨16, 64, 128, 0⟩ := ⟨_, rfl⟩
  have cok : CapsOk c := by rw [ec]; unfold CapsOk; simp
  have cR : c.R = 128 := by rw [ec]
  have cH : c.H = 64 := by rw [ec]
  have eV : (Value.agg ⟨[.int .i64 16, .int .i64 64, .int .i64 128, .int .i64 0]⟩) = capsV c := by rw [ec]; rfl
  rw [eV]
  refine tNewR_w c hB _ (by omega) (fun h' e _ hno => absurd cok hno) ?_
  intro hT tb bw bp bl vb heads T0 F0 sT gbm gbw gbp gbl leT fbT
  have nT := leT.nx
  have lT := leT.lo
  have gT := (leT.get _ (by omega)).trans gB
  simp (disch := first | omega | (simp only [Wx]; done) | (simp only [Wy]; done) | (simp only [Wv]; omega) | with_unfolding_all rfl) only [Wz, ptrTo, sliceTo, gT]
  rw [eV]
  refine tNewR_w c hT _ (by omega) (fun h' e _ hno => absurd cok hno) ?_
  intro hU tb2 bw2 bp2 bl2 vb2 heads2 U0 G0 sU ubm ubw ubp ubl leU fbU
  have nU := leU.nx
  have lU := leU.lo
  simp (disch := first | omega | (simp only [Wx]; done) | (simp only [Wy]; done) | (simp only [Wv]; omega) | with_unfolding_all rfl) only [Wz, ptrTo, sliceTo]
  have leAT := (le2.trans le_hB).trans leT
  have nAB : hA.nx ≤ hB.nx := by omega
  have w0 : Two hU hA c tb bw bp bl tb2 bw2 bp2 bl2 vb vb2 heads heads2 0 t r 0 0 T0 U0 [] [] 0 0 F0 G0 (List.replicate c.R.toNat false) (List.replicate c.R.toNat false) := by
    have t1 := sT.is.ltw
    have t2 := sT.is.pool.fr.lt
    have t3 := sT.is.pool.lt
    refine ⟨sT.le leU, sU, ⟨fun b hb u hu => ?_, fun b hb => ?_, fun u hu => ?_, by omega, by omega, by omega, fun x h1 h2 => ?_⟩, by omega, by omega, by rw [lent_rep]; exact Nat.le_refl _, by rw [lent_rep]; exact Nat.le_refl _, ⟨fun b hb => by have := gbm b hb; omega, by omega, by omega, by omega⟩, ⟨fun b hb => by have := ubm b hb; omega, by omega, by omega, by omega⟩, leAT.trans leU⟩
    · have := ubm u hu; have := (sT.is.bk b hb).ltm; omega
    · have := (sT.is.bk b hb).ltm; omega
    · have := ubm u hu; omega
    · have hx := fbU x h2
      obtain ⟨n, cap, ls, hc⟩ := (FB.congr (leU.get _ t2)).1 h1
      obtain ⟨fs, hg, hpt⟩ := sT.is.pool.fr.cell
      have hfs := cells_first (hg.symm.trans hc)
      rcases hpt with ⟨_, e2⟩ | ⟨b2, G', e2, h5, _⟩
      · rw [e2] at hfs; cases hfs
      · rw [e2] at hfs
        injection hfs with e; injection e with e; injection e with e
        omega
  have sim0 : Sim c.S t r T0 U0 := by
    intro k b u _ hb hu
    have e1 : b.M = [] := sT.none_yet (lent_rep _) b (List.mem_of_getElem? hb)
    have e2 : u.M = [] := sU.none_yet (lent_rep _) u (List.mem_of_getElem? hu)
    rw [e1, e2]
    exact ⟨fun e he => (nomatch he), fun e he => (nomatch he)⟩
  refine ⟨fun m l h' => ∃ (i N N2 : Nat) (Ts Us : List TB) (W W2 : List IE) (wc wc2 : Nat) (F G : List Int) (B B2 : List Bool), slot l 35 = .int .i64 (i : Int) ∧ m = L.length - i ∧ i ≤ L.length ∧ Two h' hA c tb bw bp bl tb2 bw2 bp2 bl2 vb vb2 heads heads2 (2 * i) t r N N2 Ts Us W W2 wc wc2 F G B B2 ∧ Sim c.S t r Ts Us ∧ h'.lo ≤ h'.nx ∧ (lentL B).length ≤ i ∧ (lentL B2).length ≤ i,
    ⟨_, 0, 0, 0, T0, U0, [], [], 0, 0, F0, G0, _, _, rfl, rfl, by omega, w0, sim0, by omega, by rw [lent_rep]; exact Nat.le_refl _, by rw [lent_rep]; exact Nat.le_refl _⟩, ?_⟩
  rintro m l h3 ⟨i, N, N2, Ts, Us, W, W2, wc, wc2, F, G, B, B2, s35, rfl, hi, w, sim, hlo3, hB1, hB2⟩
  have n3 := w.le.nx
  have l3 := w.le.lo
  have gn3 := (w.le.get _ (by omega)).trans gn
  have cT := w.sT.is.cS
  have cU := w.sU.is.cS
  by_cases hil : i < L.length
  case neg =>
    simp (disch := first | omega | (simp only [Wx]; done) | (simp only [Wy]; done) | (simp only [Wv]; omega) | with_unfolding_all rfl) only [Wz, ptrTo, sliceTo, rs_3_3, s35, lt_f (show (L.length : Int) ≤ (i : Int) by omega), rs_3_2, gn3]
    refine told12_w w.sT hlo3 t r _ ?_
    intro h4 K tK le4
    have n4 := le4.nx
    have l4 := le4.lo
    have gn4 := (le4.get _ (by omega)).trans gn3
    simp (disch := first | omega | (simp only [Wx]; done) | (simp only [Wy]; done) | (simp only [Wv]; omega) | with_unfolding_all rfl) only [Wz, ptrTo, sliceTo, gn4, reV, veq_nm, veq_ptr]
    refine told12_w (w.sU.le le4) (by omega) t r _ ?_
    intro h5 K5 tK5 le5
    have e := told_eq w.sT w.sU (by omega) sim tK tK5
    rw [e]
    have es : ∀ (s : ByteArray) (h : Heap) (κ : Value → Heap → Option Value), binB none Tryz.prog .eql 9 false false (.string s) (.string s) h κ = κ (.bool true) h := fun s h κ => by simp only [binB, bytesEqB_eq, fbK_eq, decide_true]
    simp (disch := first | omega | (simp only [Wx]; done) | (simp only [Wy]; done) | (simp only [Wv]; omega) | with_unfolding_all rfl) only [Wz, ptrTo, sliceTo, es]
    exact hk h5
  obtain ⟨q, hq⟩ : ∃ q, L[i]? = some q := ⟨_, List.getElem?_eq_getElem hil⟩
  obtain ⟨b1, o1, hb1, hat1, _, hh1⟩ := (hv.le (le_hA.trans w.le)).ld encA_len i hq
  have rr := fun (β : Type) (fl : β) κ => ldA_has (fl := fl) hh1 6 κ rfl
  rw [ev] at hat1
  simp (disch := first | omega | (simp only [Wx]; done) | (simp only [Wy]; done) | (simp only [Wv]; omega) | with_unfolding_all rfl) only [Wz, ptrTo, sliceTo, rs_3_3, s35, lt_t (show (i : Int) < (L.length : Int) by omega), rs_3_1, hat1, rr, encA]
  refine ⟨fun l' h' => ∃ (N N2 : Nat) (Ts Us : List TB) (W W2 : List IE) (wc wc2 : Nat) (F G : List Int) (B B2 : List Bool), Two h' hA c tb bw bp bl tb2 bw2 bp2 bl2 vb vb2 heads heads2 (2 * (i + 1)) t r N N2 Ts Us W W2 wc wc2 F G B B2 ∧ Sim c.S t r Ts Us ∧ h'.lo ≤ h'.nx ∧ (lentL B).length ≤ i + 1 ∧ (lentL B2).length ≤ i + 1, ?_, ?_⟩
  rotate_left
  · rintro l' h' ⟨N, N2, Ts, Us, W, W2, wc, wc2, F, G, B, B2, w, sim, hlo, k1, k2⟩
    exact ⟨_, by omega, i + 1, N, N2, Ts, Us, W, W2, wc, wc2, F, G, B, B2, rfl, rfl, by omega, w, sim, hlo, k1, k2⟩
  obtain ⟨hq4, e_q⟩ : ∃ hq4 : Heap, hq4 = ⟨h3.nx + 1, h3.bl.upd h3.nx (cellsO [.int .i64 q.k, .int .i64 q.t, .int .i64 q.r, .int .i64 q.id, .int .i64 q.x, .int .i64 q.m] 35 false), h3.lo⟩ := ⟨_, rfl⟩
  have le_q : Le h3 hq4 := by rw [e_q]; exact (Le.refl h3).new _
  have g40 : hq4.bl.get h3.nx = some (cellsO [.int .i64 q.k, .int .i64 q.t, .int .i64 q.r, .int .i64 q.id, .int .i64 q.x, .int .i64 q.m] 35 false) := by rw [e_q]; exact T.get_upd_same _ _ _
  have n_q : hq4.nx = h3.nx + 1 := by rw [e_q]
  have l_q : hq4.lo = h3.lo := by rw [e_q]
  rw [← e_q]
  clear e_q
  have rT := w.sT.room hB1 (by omega) (by omega)
  have rU := w.sU.room hB2 (by omega) (by omega)
  refine Two.ask (w.leH le_q) (by omega) (by omega) hnoC q.t q.r q.x q.m _ ?_
  intro u4 h4 N4 T4 W4 wc4 F4 B4 w4 o4 hl4 lo4 kp4 nx4
  have gq4 := (kp4 _ _ _ (by omega) g40 (by decide) (by decide) (by decide)).trans g40
  have gn4 := (w4.le.get _ (by omega)).trans gn
  have nA4 := w4.le.nx
  simp (disch := first | omega | (simp only [Wx]; done) | (simp only [Wy]; done) | (simp only [Wv]; omega) | with_unfolding_all rfl) only [Wz, ptrTo, sliceTo, gq4, gn4]
  refine tstripe_w w4.sT.is lo4 q.t q.r _ ?_
  intro h5 le5
  have n5 := le5.nx
  have l5 := le5.lo
  have gn5 := (le5.get _ (by omega)).trans gn4
  simp (disch := first | omega | (simp only [Wx]; done) | (simp only [Wy]; done) | (simp only [Wv]; omega) | with_unfolding_all rfl) only [Wz, ptrTo, sliceTo, gn5, reV, veq_nm, veq_ptr]
  refine tstripe_w (w4.sT.le le5).is (by omega) t r _ ?_
  intro h6 le6
  have n6 := le6.nx
  have l6 := le6.lo
  have w6 := (w4.leH le5).leH le6
  have gq6 := ((le5.trans le6).get _ (by omega)).trans gq4
  by_cases he : strN q.t q.r c.S = strN t r c.S
  · simp (disch := first | omega | (simp only [Wx]; done) | (simp only [Wy]; done) | (simp only [Wv]; omega) | with_unfolding_all rfl) only [Wz, ptrTo, sliceTo, dec_t he, rs_3_0, gq6]
    refine Two.ask w6.swap (by omega) (by omega) hnoC q.t q.r q.x q.m _ ?_
    intro u7 h7 N7 U7 W7 wc7 G7 B7 w7 o7 hl7 lo7 kp7 nx7
    exact ⟨_, _, _, _, _, _, _, _, _, _, _, _, w7.swap.up (by omega), sim_both sim (by omega) o4 o7 rT rU he, lo7, by omega, by omega⟩
  · simp (disch := first | omega | (simp only [Wx]; done) | (simp only [Wy]; done) | (simp only [Wv]; omega) | with_unfolding_all rfl) only [Wz, ptrTo, sliceTo, dec_f he]
    exact ⟨_, _, _, _, _, _, _, _, _, _, _, _, w6.up (by omega), sim_skip sim o4 he, by omega, by omega, by omega⟩
end Go.Proofs
