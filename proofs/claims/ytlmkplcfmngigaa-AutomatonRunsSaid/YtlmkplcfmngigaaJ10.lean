/-
  PROVED HERE: a part of the proof, by a calculus of weakest conditions over an abstract heap (J10).
-/
import Derived.Test.YtlmkplcfmngigaaJ
import Derived.Test.YtlmkplcfmngigaaE
set_option linter.unusedVariables false
set_option linter.unusedSimpArgs false
set_option maxRecDepth 100000
namespace Go.Proofs
open Go.Vai Go.Clashes
theorem lives15 : answersS Try.prog 4000 55 [] (.bool true) = true := by kernel_rfl
/-- one of the others that stands in the way -/
def lawR (L : List H4) (a : A6) (i : Nat) : Bool := (L.take i).all fun p => !(decide (p.x ≠ a.x) && decide (p.t = a.t ∧ p.r = a.r) && !cmp p.m (supM (modeA L a.x a.t a.r) a.m))
theorem codes_has {L : List H4} {a : A6} (s : StA L) (hk : a.k = 1) : 1 ∈ codesA L a ↔ mayA L a.x a.t a.r a.m = true := by
  unfold codesA
  rw [if_pos ((chkA_iff L).2 s), if_pos hk, acq_one]
theorem all_take_s {α : Type} {F : α → Bool} {L : List α} {i : Nat} {p : α} (hp : L[i]? = some p) : (L.take (i + 1)).all F = ((L.take i).all F && F p) := by
  rw [List.take_add_one, hp]; simp
theorem lawR_all (L : List H4) (a : A6) (h1 : askA a.t a.r a.m = true) : lawR L a L.length = mayA L a.x a.t a.r a.m := by
  unfold lawR mayA
  rw [List.take_length, h1, Bool.true_and, List.not_any_eq_all_not]
  apply List.all_congr rfl
  intro p
  by_cases h1 : p.x = a.x <;> by_cases h2 : p.t = a.t ∧ p.r = a.r <;> simp [badH, wantA, h1, h2]
theorem lawR_s {L : List H4} {a : A6} {i : Nat} {p : H4} (hp : L[i]? = some p) : lawR L a (i + 1) = (lawR L a i && !(decide (p.x ≠ a.x) && decide (p.t = a.t ∧ p.r = a.r) && !cmp p.m (supM (modeA L a.x a.t a.r) a.m))) := all_take_s hp
theorem right_may (L : List H4) (a : A6) : (askA a.t a.r a.m && lawR L a L.length) = mayA L a.x a.t a.r a.m := by
  cases h : askA a.t a.r a.m with
  | false => simp [mayA, h]
  | true => rw [Bool.true_and, lawR_all L a h]
/-- what the law asks of the state behind -/
theorem may_next {L : List H4} {a : A6} (s : StA L) (hm : mayA L a.x a.t a.r a.m = true) :
    StA (setA L (wantA L a.x a.t a.r a.m)) ∧ (∀ p ∈ L, ¬ (p.x = a.x ∧ p.t = a.t ∧ p.r = a.r) → modeA (setA L (wantA L a.x a.t a.r a.m)) p.x p.t p.r = p.m) ∧
      modeA (setA L (wantA L a.x a.t a.r a.m)) a.x a.t a.r = supM (modeA L a.x a.t a.r) a.m ∧ cov (supM (modeA L a.x a.t a.r) a.m) a.m = true := by
  have s2 := sta_set s hm
  have ha := ((askA_iff _ _ _).1 ((mayA_iff _ _ _ _ _).1 hm).1)
  refine ⟨s2, ?_, ?_, ?_⟩
  · intro p hp hn
    exact modeA_mem s2.sorted ((mem_setA s.sorted _ p).2 (.inr ⟨hp, fun k => hn k⟩)) ⟨rfl, rfl, rfl⟩
  · exact modeA_mem (p := wantA L a.x a.t a.r a.m) s2.sorted ((mem_setA s.sorted _ _).2 (.inl rfl)) ⟨rfl, rfl, rfl⟩
  · exact (sup_of (modeA_kn s _ _ _) ha.2.1).2.2.1
set_option maxHeartbeats 4000000 in
theorem may_loop (L : List H4) (a : A6) (v : Value) (l0 : List Value) (b1 : Nat) (h : Heap) (st : StA L) (hk1 : a.k = 1) (hc1 : a.c = 1) (e32 : slot l0 32 = .bool (askA a.t a.r a.m)) (e35 : slot l0 35 = .int .i64 0)
    (hv : Sl enc4 h v L) (hc : CutH h v L.length) (hn : L.length ≤ 30) (hlo : h.lo ≤ h.nx) (hb : b1 < h.nx) (hg : h.bl.get b1 = some (blkA a)) :
    LoopR l0 h fun l45 h1 N44 => rs_10_5 v l45 b1 (.int .i64 (supM (modeA L a.x a.t a.r) a.m)) N44 h1 IsTrue := by
  have hq := cut_veq hc
  refine ⟨fun n l h1 => ∃ i : Nat, slot l 35 = .int .i64 (i : Int) ∧ i ≤ L.length ∧ n = L.length - i ∧ slot l 32 = .bool (askA a.t a.r a.m && lawR L a i) ∧ HQ h h1, ⟨_, 0, e35, Nat.zero_le _, rfl, by rw [e32]; simp [lawR], rfl⟩, ?_⟩
  rintro n l h1 ⟨i, s1, hi, rfl, s2, hh⟩
  cases (show h = h1 from hh)
  clear hh
  by_cases hlt : i < L.length
  · obtain ⟨p, hp⟩ : ∃ p, L[i]? = some p := ⟨_, List.getElem?_eq_getElem hlt⟩
    obtain ⟨b, o, hb, hat, hld⟩ := ld4 hv i hp
    have es := lawR_s (a := a) hp
    by_cases h1 : p.x = a.x
    · simp (disch := first | omega | (simp only [Wx]; done) | (simp only [Wy]; done) | (simp only [Wv]; omega) | with_unfolding_all rfl) only [Wz, ptrTo, sliceTo, rs_10_5, s1, s2, hv.len]
      refine ⟨fun l' h' => slot l' 28 = .bool (askA a.t a.r a.m && lawR L a (i + 1)) ∧ HQ h h', ?_, ?_⟩
      · simp (disch := first | omega | (simp only [Wx]; done) | (simp only [Wy]; done) | (simp only [Wv]; omega) | with_unfolding_all rfl) only [Wz, ptrTo, sliceTo, rs_10_0, s1, s2, hat, hld, hg, dec_t h1]
        refine ⟨?_, rfl⟩
        rw [es, dec_f (show ¬ p.x ≠ a.x by simp [h1])]; simp
      · rintro l' h' ⟨k1, k2⟩
        cases (show h = h' from k2)
        exact ⟨_, by omega, i + 1, rfl, by omega, rfl, k1, rfl⟩
    · by_cases h2 : p.t = a.t ∧ p.r = a.r
      · simp (disch := first | omega | (simp only [Wx]; done) | (simp only [Wy]; done) | (simp only [Wv]; omega) | with_unfolding_all rfl) only [Wz, ptrTo, sliceTo, rs_10_5, s1, s2, hv.len]
        refine ⟨fun l' h' => slot l' 28 = .bool (askA a.t a.r a.m && lawR L a (i + 1)) ∧ HQ h h', ?_, ?_⟩
        · simp (disch := first | omega | (simp only [Wx]; done) | (simp only [Wy]; done) | (simp only [Wv]; omega) | with_unfolding_all rfl) only [Wz, ptrTo, sliceTo, rs_10_0, s1, s2, hat, hld, hg, dec_f h1, bin_eq27, dec_t h2]
          refine rcompat_w _ _ ?_
          have es2 : lawR L a (i + 1) = (lawR L a i && cmp p.m (supM (modeA L a.x a.t a.r) a.m)) := by rw [es]; simp [h1, h2]
          cases hcm : cmp p.m (supM (modeA L a.x a.t a.r) a.m) with
          | true =>
            simp (disch := first | omega | (simp only [Wx]; done) | (simp only [Wy]; done) | (simp only [Wv]; omega) | with_unfolding_all rfl) only [Wz, ptrTo, sliceTo, s2]
            exact ⟨by rw [es2, hcm, Bool.and_true], rfl⟩
          | false =>
            simp (disch := first | omega | (simp only [Wx]; done) | (simp only [Wy]; done) | (simp only [Wv]; omega) | with_unfolding_all rfl) only [Wz, ptrTo, sliceTo, s2]
            exact ⟨by rw [es2, hcm, Bool.and_false, Bool.and_false], rfl⟩
        · rintro l' h' ⟨k1, k2⟩
          cases (show h = h' from k2)
          exact ⟨_, by omega, i + 1, rfl, by omega, rfl, k1, rfl⟩
      · simp (disch := first | omega | (simp only [Wx]; done) | (simp only [Wy]; done) | (simp only [Wv]; omega) | with_unfolding_all rfl) only [Wz, ptrTo, sliceTo, rs_10_5, s1, s2, hv.len]
        refine ⟨fun l' h' => slot l' 28 = .bool (askA a.t a.r a.m && lawR L a (i + 1)) ∧ HQ h h', ?_, ?_⟩
        · simp (disch := first | omega | (simp only [Wx]; done) | (simp only [Wy]; done) | (simp only [Wv]; omega) | with_unfolding_all rfl) only [Wz, ptrTo, sliceTo, rs_10_0, s1, s2, hat, hld, hg, dec_f h1, bin_eq27, dec_f h2]
          exact ⟨by rw [es]; simp [h2], rfl⟩
        · rintro l' h' ⟨k1, k2⟩
          cases (show h = h' from k2)
          exact ⟨_, by omega, i + 1, rfl, by omega, rfl, k1, rfl⟩
  · have hil : i = L.length := by omega
    subst hil
    rw [right_may] at s2
    simp (disch := first | omega | (simp only [Wx]; done) | (simp only [Wy]; done) | (simp only [Wv]; omega) | with_unfolding_all rfl) only [Wz, ptrTo, sliceTo, rs_10_5, s1, hv.len, rs_10_4, hg]
    have ce := codes_has (a := a) st hk1
    refine step_w L a h v _ hv hc (by omega) hlo ?_
    intro r h2 hr hle2
    have n2 := hle2.nx
    have l2 := hle2.lo
    have g2 := (hle2.get b1 hb).trans hg
    rcases hr with ⟨hs, rfl⟩ | ⟨v', L', hs, rfl, hv', hc', hq'⟩
    · have hno : ¬ a.c ∈ codesA L a := by
        intro hin; unfold stepA at hs; rw [if_pos hin] at hs; cases hs
      rw [hc1] at hno
      have em : mayA L a.x a.t a.r a.m = false := by
        cases hm : mayA L a.x a.t a.r a.m with
        | false => rfl
        | true => exact absurd (ce.2 hm) hno
      simp (disch := first | omega | (simp only [Wx]; done) | (simp only [Wy]; done) | (simp only [Wv]; omega) | with_unfolding_all rfl) only [Wz, ptrTo, sliceTo, s2, em, bin_neqb, g2]
      refine may_w L a.x a.t a.r a.m h2 v _ (hv.le hle2) (by omega) (by omega) ?_
      intro h3 hle3
      simp (disch := first | omega | (simp only [Wx]; done) | (simp only [Wy]; done) | (simp only [Wv]; omega) | with_unfolding_all rfl) only [Wz, ptrTo, sliceTo, s2, em, bin_neqb, rs_10_3]
      rfl
    · have hin : a.c ∈ codesA L a := by
        unfold stepA at hs
        split at hs
        · assumption
        · cases hs
      have em : mayA L a.x a.t a.r a.m = true := ce.1 (by rw [← hc1]; exact hin)
      have eL : L' = setA L (wantA L a.x a.t a.r a.m) := by
        unfold stepA at hs
        rw [if_pos hin] at hs
        cases hs
        unfold nextA
        rw [if_pos hc1, if_pos hk1]
      subst eL
      have hl' := setA_len st.sorted (wantA L a.x a.t a.r a.m)
      obtain ⟨f1, f2, f3, f4⟩ := may_next st em
      simp (disch := first | omega | (simp only [Wx]; done) | (simp only [Wy]; done) | (simp only [Wv]; omega) | with_unfolding_all rfl) only [Wz, ptrTo, sliceTo, s2, em, bin_neqb, g2]
      refine may_w L a.x a.t a.r a.m h2 v _ (hv.le hle2) (by omega) (by omega) ?_
      intro h3 hle3
      have n3 := hle3.nx
      have l3 := hle3.lo
      have g3 := (hle3.get b1 (by omega)).trans g2
      simp (disch := first | omega | (simp only [Wx]; done) | (simp only [Wy]; done) | (simp only [Wv]; omega) | with_unfolding_all rfl) only [Wz, ptrTo, sliceTo, s2, em, bin_neqb, rs_10_3]
      have hv3 := hv.le (hle2.trans hle3)
      refine ⟨fun n l h1 => ∃ i : Nat, slot l 45 = .int .i64 (i : Int) ∧ i ≤ L.length ∧ n = L.length - i ∧ Le h3 h1, ⟨_, 0, rfl, Nat.zero_le _, rfl, Le.refl _⟩, ?_⟩
      rintro n l h4 ⟨i, s1, hi, rfl, hle4⟩
      have n4 := hle4.nx
      have l4 := hle4.lo
      have g4 := (hle4.get b1 (by omega)).trans g3
      have hv4 := hv3.le hle4
      have hv4' := hv'.le (hle3.trans hle4)
      by_cases hlt : i < L.length
      · obtain ⟨p, hp⟩ : ∃ p, L[i]? = some p := ⟨_, List.getElem?_eq_getElem hlt⟩
        obtain ⟨b, o, hb, hat, hld⟩ := ld4 hv4 i hp
        have key : ¬ (p.x = a.x ∧ p.t = a.t ∧ p.r = a.r) → modeA (setA L (wantA L a.x a.t a.r a.m)) p.x p.t p.r = p.m := f2 p (List.mem_of_getElem? hp)
        by_cases h1 : p.x = a.x
        · by_cases h2 : p.t = a.t ∧ p.r = a.r
          · simp (disch := first | omega | (simp only [Wx]; done) | (simp only [Wy]; done) | (simp only [Wv]; omega) | with_unfolding_all rfl) only [Wz, ptrTo, sliceTo, s1, hv4.len, rs_10_1, hat, hld, g4, dec_t h1, dec_t h2, bin_ne27]
            exact ⟨_, by omega, i + 1, rfl, by omega, rfl, hle4⟩
          · simp (disch := first | omega | (simp only [Wx]; done) | (simp only [Wy]; done) | (simp only [Wv]; omega) | with_unfolding_all rfl) only [Wz, ptrTo, sliceTo, s1, hv4.len, rs_10_1, hat, hld, g4, dec_t h1, dec_f h2, bin_ne27]
            refine amode_w _ p.x p.t p.r h4 v' _ hv4' (by omega) (by omega) ?_
            intro h5 hle5
            have hld5 := hle5.get b hb
            simp (disch := first | omega | (simp only [Wx]; done) | (simp only [Wy]; done) | (simp only [Wv]; omega) | with_unfolding_all rfl) only [Wz, ptrTo, sliceTo, s1, hat, hld5, hld, hq, key (fun k => h2 k.2)]
            exact ⟨_, by omega, i + 1, rfl, by omega, rfl, hle4.trans hle5⟩
        · simp (disch := first | omega | (simp only [Wx]; done) | (simp only [Wy]; done) | (simp only [Wv]; omega) | with_unfolding_all rfl) only [Wz, ptrTo, sliceTo, s1, hv4.len, rs_10_1, hat, hld, g4, dec_f h1]
          refine amode_w _ p.x p.t p.r h4 v' _ hv4' (by omega) (by omega) ?_
          intro h5 hle5
          have hld5 := hle5.get b hb
          simp (disch := first | omega | (simp only [Wx]; done) | (simp only [Wy]; done) | (simp only [Wv]; omega) | with_unfolding_all rfl) only [Wz, ptrTo, sliceTo, s1, hat, hld5, hld, hq, key (fun k => h1 k.1)]
          exact ⟨_, by omega, i + 1, rfl, by omega, rfl, hle4.trans hle5⟩
      · simp (disch := first | omega | (simp only [Wx]; done) | (simp only [Wy]; done) | (simp only [Wv]; omega) | with_unfolding_all rfl) only [Wz, ptrTo, sliceTo, s1, hv4.len, rs_10_2, g4]
        refine amode_w _ a.x a.t a.r h4 v' _ hv4' (by omega) (by omega) ?_
        intro h5 hle5
        have g5 := (hle5.get b1 (by omega)).trans g4
        simp (disch := first | omega | (simp only [Wx]; done) | (simp only [Wy]; done) | (simp only [Wv]; omega) | with_unfolding_all rfl) only [Wz, ptrTo, sliceTo, f3, g5]
        refine rcovers_w _ _ ?_
        rw [f4]
        simp (disch := first | omega | (simp only [Wx]; done) | (simp only [Wy]; done) | (simp only [Wv]; omega) | with_unfolding_all rfl) only [Wz, ptrTo, sliceTo, hv4'.len, hv4.len]
        rfl
set_option maxHeartbeats 4000000 in
theorem automatonMay_law (L : List H4) (a : A6) (h : Heap) (v : Value) (hv : Sl enc4 h v L) (hc : CutH h v L.length) (hlo : h.lo ≤ h.nx) : CallW Try.prog 10 [v, aggA a] h IsTrue := by
  refine callW_of mixed ?_
  rw [rs_10]
  simp (disch := first | omega | (simp only [Wx]; done) | (simp only [Wy]; done) | (simp only [Wv]; omega) | with_unfolding_all rfl) only [Wz, ptrTo, sliceTo, aggA, enc6]
  obtain ⟨hA, eA⟩ : ∃ hA : Heap, hA = ⟨h.nx + 1, h.bl.upd h.nx (blkA a), h.lo⟩ := ⟨_, rfl⟩
  have hleA : Le h hA := by subst eA; exact (Le.refl h).new _
  have gA : hA.bl.get h.nx = some (blkA a) := by subst eA; exact T.get_upd_same _ _ _
  have nA : hA.nx = h.nx + 1 := by subst eA; rfl
  have lA : hA.lo = h.lo := by subst eA; rfl
  rw [← eA]
  clear eA
  refine closedW mixed lives15 ?_
  by_cases hn : L.length > 30
  · simp (disch := first | omega | (simp only [Wx]; done) | (simp only [Wy]; done) | (simp only [Wv]; omega) | with_unfolding_all rfl) only [Wz, ptrTo, sliceTo, rs_10_7, hv.len]
    rfl
  simp (disch := first | omega | (simp only [Wx]; done) | (simp only [Wy]; done) | (simp only [Wv]; omega) | with_unfolding_all rfl) only [Wz, ptrTo, sliceTo, rs_10_7, hv.len]
  refine acheck_w L hA v _ (hv.le hleA) (hc.le hleA) (by omega) (by omega) ?_
  intro h2 hle2
  have n2 := hle2.nx
  have l2 := hle2.lo
  have g2 := (hle2.get h.nx (by omega)).trans gA
  have hall2 := hleA.trans hle2
  by_cases hch : chkA L = true
  case neg =>
    simp (disch := first | omega | (simp only [Wx]; done) | (simp only [Wy]; done) | (simp only [Wv]; omega) | with_unfolding_all rfl) only [Wz, ptrTo, sliceTo, if_neg hch]
    rfl
  have st := (chkA_iff L).1 hch
  simp (disch := first | omega | (simp only [Wx]; done) | (simp only [Wy]; done) | (simp only [Wv]; omega) | with_unfolding_all rfl) only [Wz, ptrTo, sliceTo, if_pos hch, rs_10_6, g2]
  obtain ⟨hB, eB⟩ : ∃ hB : Heap, hB = ⟨h2.nx, h2.bl.upd h.nx (cellsO [.int .i64 1, .int .i64 a.x, .int .i64 a.t, .int .i64 a.r, .int .i64 a.m, .int .i64 1] 82 false), h2.lo⟩ := ⟨_, rfl⟩
  have hleB : Le h hB := by subst eB; exact hall2.set (Nat.le_refl _) _
  have gB : hB.bl.get h.nx = some (cellsO [.int .i64 1, .int .i64 a.x, .int .i64 a.t, .int .i64 a.r, .int .i64 a.m, .int .i64 1] 82 false) := by subst eB; exact T.get_upd_same _ _ _
  have nB : hB.nx = h2.nx := by subst eB; rfl
  have lB : hB.lo = h2.lo := by subst eB; rfl
  rw [← eB]
  clear eB
  refine rcheck_w a.t a.r ?_
  have fin : ∀ l0 h3, slot l0 32 = .bool (askA a.t a.r a.m) → slot l0 35 = .int .i64 0 → Le hB h3 → LoopR l0 h3 fun l45 h1 N44 => rs_10_5 v l45 h.nx (.int .i64 (supM (modeA L a.x a.t a.r) a.m)) N44 h1 IsTrue := by
    intro l0 h3 e1 e2 hle3
    have n3 := hle3.nx
    have l3 := hle3.lo
    exact may_loop L ⟨1, a.x, a.t, a.r, a.m, 1⟩ v l0 h.nx h3 st rfl rfl e1 e2 (hv.le (hleB.trans hle3)) (hc.le (hleB.trans hle3)) (by omega) (by omega) (by omega) ((hle3.get _ (by omega)).trans gB)
  cases hok : okN a.t a.r with
  | false =>
    simp (disch := first | omega | (simp only [Wx]; done) | (simp only [Wy]; done) | (simp only [Wv]; omega) | with_unfolding_all rfl) only [Wz, ptrTo, sliceTo, Bool.false_eq_true, if_false, dec_f (show ¬ (2 : Int) = 0 by decide), gB]
    refine amode_w L a.x a.t a.r hB v _ (hv.le hleB) (by omega) (by omega) ?_
    intro h3 hle3
    have g3 := (hle3.get h.nx (by omega)).trans gB
    simp (disch := first | omega | (simp only [Wx]; done) | (simp only [Wy]; done) | (simp only [Wv]; omega) | with_unfolding_all rfl) only [Wz, ptrTo, sliceTo, g3]
    refine rsup_w _ _ ?_
    exact fin _ _ (by show Value.bool false = _; simp [askA, hok]) rfl hle3
  | true =>
    by_cases h0 : a.m = 0
    · simp (disch := first | omega | (simp only [Wx]; done) | (simp only [Wy]; done) | (simp only [Wv]; omega) | with_unfolding_all rfl) only [Wz, ptrTo, sliceTo, if_true, dec_t h0, gB]
      refine amode_w L a.x a.t a.r hB v _ (hv.le hleB) (by omega) (by omega) ?_
      intro h3 hle3
      have g3 := (hle3.get h.nx (by omega)).trans gB
      simp (disch := first | omega | (simp only [Wx]; done) | (simp only [Wy]; done) | (simp only [Wv]; omega) | with_unfolding_all rfl) only [Wz, ptrTo, sliceTo, g3]
      refine rsup_w _ _ ?_
      exact fin _ _ (by show Value.bool false = _; simp [askA, h0]) rfl hle3
    · simp (disch := first | omega | (simp only [Wx]; done) | (simp only [Wy]; done) | (simp only [Wv]; omega) | with_unfolding_all rfl) only [Wz, ptrTo, sliceTo, if_true, dec_f h0, gB]
      refine rknown_w a.m ?_
      simp (disch := first | omega | (simp only [Wx]; done) | (simp only [Wy]; done) | (simp only [Wv]; omega) | with_unfolding_all rfl) only [Wz, ptrTo, sliceTo, gB]
      refine amode_w L a.x a.t a.r hB v _ (hv.le hleB) (by omega) (by omega) ?_
      intro h3 hle3
      have g3 := (hle3.get h.nx (by omega)).trans gB
      simp (disch := first | omega | (simp only [Wx]; done) | (simp only [Wy]; done) | (simp only [Wv]; omega) | with_unfolding_all rfl) only [Wz, ptrTo, sliceTo, g3]
      refine rsup_w _ _ ?_
      exact fin _ _ (by show Value.bool (kn a.m) = _; simp [askA, hok, h0]) rfl hle3
end Go.Proofs
