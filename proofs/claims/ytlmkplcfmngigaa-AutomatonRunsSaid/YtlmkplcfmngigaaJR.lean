/-
  PROVED HERE: a part of the proof, by a calculus of weakest conditions over an abstract heap (J15, J16).
-/
import Derived.Test.YtlmkplcfmngigaaJE
import Derived.Test.YtlmkplcfmngigaaVV
set_option linter.unusedVariables false
set_option linter.unusedSimpArgs false
set_option maxRecDepth 100000
namespace Go.Proofs
open Go.Vai Go.Clashes
theorem step3_w (L : List H4) (a : A6) (h : Heap) (v : Value) (κ : Value → Heap → Prop) (hv : Sl enc4 h v L) (hc : CutH h v L.length) (hlen : L.length ≤ 90000) (hlo : h.lo ≤ h.nx)
    (hk1 : ∀ h', stepA L a = none → Le h h' → κ (.tuple ⟨[.slice none 0 0, .bool false]⟩) h')
    (hk2 : ∀ v' L' h', stepA L a = some L' → Sl enc4 h' v' L' → CutH h' v' L'.length → Le h h' → κ (.tuple ⟨[v', .bool true]⟩) h') : CallW Try.prog 60 [v, aggA a] h κ := by
  refine step_w L a h v κ hv hc hlen hlo ?_
  intro r h' hr hle
  rcases hr with ⟨e1, rfl⟩ | ⟨v', L', e1, rfl, e3, e4, e5⟩
  · exact hk1 h' e1 hle
  · exact hk2 v' L' h' e1 e3 e4 hle
theorem step_sta {L L' : List H4} {a : A6} (h : stepA L a = some L') : StA L' ∧ L'.length ≤ L.length + 1 := by
  unfold stepA at h
  split at h
  · cases h; exact ⟨sta_next (by assumption), next_len (by assumption)⟩
  · cases h
def runA : List H4 → List A6 → Option (List H4)
  | L, [] => some L
  | L, a :: A => match stepA L a with
    | some L' => runA L' A
    | none => none
theorem runA_append (A B : List A6) : ∀ L, runA L (A ++ B) = (runA L A).bind fun M => runA M B := by
  induction A with
  | nil => intro L; rfl
  | cons a A ih =>
    intro L
    show (match stepA L a with | some L' => runA L' (A ++ B) | none => none) = _
    cases h : stepA L a with
    | none => simp only [runA, h]; rfl
    | some L' => simp only [runA, h]; exact ih L'
theorem runA_one (L : List H4) (a : A6) : runA L [a] = stepA L a := by
  unfold runA
  cases stepA L a <;> rfl
theorem runA_s {L M : List H4} {A : List A6} {i : Nat} {a : A6} (ha : A[i]? = some a) (h : runA L (A.take i) = some M) : runA L (A.take (i + 1)) = stepA M a := by
  rw [List.take_add_one, ha, runA_append, h]
  exact runA_one M a
theorem runA_sta {A : List A6} : ∀ {L M : List H4}, StA L → runA L A = some M → StA M ∧ M.length ≤ L.length + A.length := by
  induction A with
  | nil => intro L M s h; cases h; exact ⟨s, Nat.le_refl _⟩
  | cons a A ih =>
    intro L M s h
    unfold runA at h
    cases hs : stepA L a with
    | none => rw [hs] at h; cases h
    | some L' =>
      rw [hs] at h
      obtain ⟨s1, l1⟩ := step_sta hs
      obtain ⟨s2, l2⟩ := ih s1 h
      exact ⟨s2, by simp; omega⟩
set_option maxHeartbeats 4000000 in
theorem run_w (L : List H4) (A : List A6) (h : Heap) (v u : Value) (κ : Value → Heap → Prop) (st : StA L) (hv : Sl enc4 h v L) (hc : CutH h v L.length) (hu : Sl enc6 h u A) (hlen : L.length ≤ 1000) (hlenA : A.length ≤ 1000) (hlo : h.lo ≤ h.nx)
    (hk1 : ∀ i a F h', A[i]? = some a → runA L (A.take i) = some F → stepA F a = none → Le h h' → κ (.tuple ⟨[.slice none 0 0, .int .i64 (i : Nat), .bool false]⟩) h')
    (hk2 : ∀ v' F h', runA L A = some F → Sl enc4 h' v' F → CutH h' v' F.length → Le h h' → κ (.tuple ⟨[v', .int .i64 0, .bool true]⟩) h') : CallW Try.prog 64 [v, u] h κ := by
  refine callW_of mixed ?_
  rw [rs_64]
  refine acheck_w L h v _ hv hc (by omega) hlo ?_
  intro h1 hle1
  have n1 := hle1.nx
  have l1 := hle1.lo
  simp (disch := first | omega | (simp only [Wx]; done) | (simp only [Wy]; done) | (simp only [Wv]; omega) | with_unfolding_all rfl) only [Wz, ptrTo, sliceTo, if_pos ((chkA_iff L).2 st), rs_64_1]
  refine clone_w L h1 v _ (hv.le hle1) (by omega) (by omega) ?_
  intro v2 h2 ho2 hle2
  have n2 := hle2.nx
  have l2 := hle2.lo
  have hall2 := hle1.trans hle2
  simp (disch := first | omega | (simp only [Wx]; done) | (simp only [Wy]; done) | (simp only [Wv]; omega) | with_unfolding_all rfl) only [Wz, ptrTo, sliceTo, hu.len]
  refine ⟨fun n l h' => ∃ (i : Nat) (F : List H4), slot l 22 = .int .i64 (i : Int) ∧ i ≤ A.length ∧ n = A.length - i ∧ runA L (A.take i) = some F ∧ Sl enc4 h' (slot l 20) F ∧ CutH h' (slot l 20) F.length ∧ Le h2 h',
    ⟨_, 0, L, rfl, Nat.zero_le _, rfl, rfl, ho2.sl, Cut.own enc4_len ho2, Le.refl _⟩, ?_⟩
  rintro n l h3 ⟨i, F, s1, hi, rfl, hr, hF, hcF, hle3⟩
  have n3 := hle3.nx
  have l3 := hle3.lo
  have hall3 := hall2.trans hle3
  obtain ⟨w, ew⟩ : ∃ w, slot l 20 = w := ⟨_, rfl⟩
  rw [ew] at hF hcF
  obtain ⟨sF, lF⟩ := runA_sta st hr
  have lF' : F.length ≤ 2000 := by
    have : (A.take i).length ≤ A.length := by simp; omega
    omega
  by_cases hlt : i < A.length
  · obtain ⟨a, ha⟩ : ∃ a, A[i]? = some a := ⟨_, List.getElem?_eq_getElem hlt⟩
    obtain ⟨b, o, hb, hat, hld⟩ := ld6 (hu.le hall3) i ha
    simp (disch := first | omega | (simp only [Wx]; done) | (simp only [Wy]; done) | (simp only [Wv]; omega) | with_unfolding_all rfl) only [Wz, ptrTo, sliceTo, s1, rs_64_0, hat, hld, enc6, ew]
    obtain ⟨hB, eB⟩ : ∃ hB : Heap, hB = ⟨h3.nx + 1, h3.bl.upd h3.nx (blkA a), h3.lo⟩ := ⟨_, rfl⟩
    have hleB : Le h3 hB := by subst eB; exact (Le.refl h3).new _
    have nB : hB.nx = h3.nx + 1 := by subst eB; rfl
    have lB : hB.lo = h3.lo := by subst eB; rfl
    rw [← eB]
    clear eB
    refine step3_w F a hB w _ (hF.le hleB) (hcF.le hleB) (by omega) (by omega) ?_ ?_
    · intro h4 hs hle4
      simp (disch := first | omega | (simp only [Wx]; done) | (simp only [Wy]; done) | (simp only [Wv]; omega) | with_unfolding_all rfl) only [Wz, ptrTo, sliceTo, s1]
      exact hk1 i a F h4 ha hr hs ((hall3.trans hleB).trans hle4)
    · intro v' L' h4 hs hv' hc' hle4
      simp (disch := first | omega | (simp only [Wx]; done) | (simp only [Wy]; done) | (simp only [Wv]; omega) | with_unfolding_all rfl) only [Wz, ptrTo, sliceTo, s1]
      refine ⟨_, by omega, i + 1, L', rfl, by omega, rfl, ?_, hv', hc', (hle3.trans hleB).trans hle4⟩
      rw [runA_s ha hr, hs]
  · simp (disch := first | omega | (simp only [Wx]; done) | (simp only [Wy]; done) | (simp only [Wv]; omega) | with_unfolding_all rfl) only [Wz, ptrTo, sliceTo, s1, ew]
    rw [List.take_of_length_le (by omega)] at hr
    exact hk2 w F h3 hr hF hcF hall3
end Go.Proofs

namespace Go.Proofs
open Go.Vai Go.Clashes
set_option maxHeartbeats 4000000 in
theorem automatonRuns_law (L : List H4) (A : List A6) (cut : Int) (h : Heap) (v u : Value) (hv : Sl enc4 h v L) (hc : CutH h v L.length) (hu : Sl enc6 h u A) (hcu : Cut 82 6 h u A.length) (hlo : h.lo ≤ h.nx) : CallW Try.prog 13 [v, u, .int .i64 cut] h IsTrue := by
  refine callW_of mixed ?_
  rw [rs_13]
  refine closedW mixed lives15 ?_
  by_cases hn : L.length > 30
  · simp (disch := first | omega | (simp only [Wx]; done) | (simp only [Wy]; done) | (simp only [Wv]; omega) | with_unfolding_all rfl) only [Wz, ptrTo, sliceTo, rs_13_4, hv.len]
    rfl
  by_cases hn2 : A.length > 30
  · simp (disch := first | omega | (simp only [Wx]; done) | (simp only [Wy]; done) | (simp only [Wv]; omega) | with_unfolding_all rfl) only [Wz, ptrTo, sliceTo, rs_13_4, hv.len, hu.len]
    rfl
  simp (disch := first | omega | (simp only [Wx]; done) | (simp only [Wy]; done) | (simp only [Wv]; omega) | with_unfolding_all rfl) only [Wz, ptrTo, sliceTo, rs_13_4, hv.len, hu.len]
  refine acheck_w L h v _ hv hc (by omega) (by omega) ?_
  intro h2 hle2
  have n2 := hle2.nx
  have l2 := hle2.lo
  by_cases hch : chkA L = true
  case neg =>
    simp (disch := first | omega | (simp only [Wx]; done) | (simp only [Wy]; done) | (simp only [Wv]; omega) | with_unfolding_all rfl) only [Wz, ptrTo, sliceTo, if_neg hch]
    rfl
  have st := (chkA_iff L).1 hch
  simp (disch := first | omega | (simp only [Wx]; done) | (simp only [Wy]; done) | (simp only [Wv]; omega) | with_unfolding_all rfl) only [Wz, ptrTo, sliceTo, if_pos hch, rs_13_3]
  refine run_w L A h2 v u _ st (hv.le hle2) (hc.le hle2) (hu.le hle2) (by omega) (by omega) (by omega) ?_ ?_
  · intro i a F h3 ha hr hs hle3
    have n3 := hle3.nx
    have l3 := hle3.lo
    have hall3 := hle2.trans hle3
    have hi : i < A.length := (List.getElem?_eq_some_iff.1 ha).1
    simp (disch := first | omega | (simp only [Wx]; done) | (simp only [Wy]; done) | (simp only [Wv]; omega) | with_unfolding_all rfl) only [Wz, ptrTo, sliceTo, rs_13_1, hu.len, lt_f (show (0 : Int) ≤ (i : Int) by omega), lt_t (show (i : Int) < (A.length : Int) by omega), rs_13_0]
    obtain ⟨y, hy1, hy2, hy3⟩ := Cut.to enc6_len' (by decide) (hu.le hall3) (hcu.le hall3) (show i ≤ A.length by omega)
    rw [hy3]
    refine run_w L (A.take i) h3 v y _ st (hv.le hall3) (hc.le hall3) hy1 (by omega) (by simp; omega) (by omega) ?_ ?_
    · intro j b G h4 hb hr2 hs2 hle4
      exfalso
      have e1 := runA_s hb hr2
      rw [hs2] at e1
      have : A.take i = (A.take i).take (j + 1) ++ (A.take i).drop (j + 1) := (List.take_append_drop _ _).symm
      rw [this, runA_append, e1] at hr
      cases hr
    · intro w2 F2 h4 hr2 hF2 hcF2 hle4
      rw [hr] at hr2
      cases hr2
      have n4 := hle4.nx
      have l4 := hle4.lo
      obtain ⟨b, o, hb, hat, hld⟩ := ld6 (hu.le (hall3.trans hle4)) i ha
      have lF := (runA_sta st hr).2
      have : (A.take i).length ≤ A.length := by simp; omega
      simp (disch := first | omega | (simp only [Wx]; done) | (simp only [Wy]; done) | (simp only [Wv]; omega) | with_unfolding_all rfl) only [Wz, ptrTo, sliceTo, hat, hld]
      refine step3_w F a h4 w2 _ hF2 hcF2 (by omega) (by omega) ?_ ?_
      · intro h5 _ hle5
        simp (disch := first | omega | (simp only [Wx]; done) | (simp only [Wy]; done) | (simp only [Wv]; omega) | with_unfolding_all rfl) only [Wz, ptrTo, sliceTo]
        rfl
      · intro v' L' h5 hs' _ _ _
        rw [hs] at hs'; cases hs'
  · intro v19 F h3 hr hF hcF hle3
    have n3 := hle3.nx
    have l3 := hle3.lo
    have hall3 := hle2.trans hle3
    obtain ⟨sF, lF⟩ := runA_sta st hr
    simp (disch := first | omega | (simp only [Wx]; done) | (simp only [Wy]; done) | (simp only [Wv]; omega) | with_unfolding_all rfl) only [Wz, ptrTo, sliceTo, rs_13_2, hu.len]
    refine pick_w _ _ (by omega) ?_
    have hrange := pickM_range (n := cut) (m := (A.length : Int) + 1) (by omega)
    obtain ⟨k, hk⟩ : ∃ k : Nat, pickM cut ((A.length : Int) + 1) = (k : Int) := ⟨(pickM cut ((A.length : Int) + 1)).toNat, by omega⟩
    rw [hk]
    have hkl : k ≤ A.length := by omega
    obtain ⟨y, hy1, hy2, hy3⟩ := Cut.to enc6_len' (by decide) (hu.le hall3) (hcu.le hall3) hkl
    rw [hy3]
    have eA : runA L (A.take k ++ A.drop k) = some F := by rw [List.take_append_drop]; exact hr
    rw [runA_append] at eA
    refine run_w L (A.take k) h3 v y _ st (hv.le hall3) (hc.le hall3) hy1 (by omega) (by simp; omega) (by omega) ?_ ?_
    · intro j b G h4 hb hr2 hs2 hle4
      exfalso
      have e1 := runA_s hb hr2
      rw [hs2] at e1
      have : A.take k = (A.take k).take (j + 1) ++ (A.take k).drop (j + 1) := (List.take_append_drop _ _).symm
      rw [this, runA_append, e1] at eA
      cases eA
    · intro w2 M h4 hr2 hM hcM hle4
      rw [hr2] at eA
      have eA : runA M (A.drop k) = some F := eA
      have n4 := hle4.nx
      have l4 := hle4.lo
      have hall4 := hall3.trans hle4
      obtain ⟨sM, lM⟩ := runA_sta st hr2
      have : (A.take k).length ≤ A.length := by simp; omega
      obtain ⟨z, hz1, hz3⟩ := Cut.from enc6_len' (by decide) (hu.le hall4) (hcu.le hall4) hkl
      simp (disch := first | omega | (simp only [Wx]; done) | (simp only [Wy]; done) | (simp only [Wv]; omega) | with_unfolding_all rfl) only [Wz, ptrTo, sliceTo]
      rw [hz3]
      refine run_w M (A.drop k) h4 w2 z _ sM hM hcM hz1 (by omega) (by simp; omega) (by omega) ?_ ?_
      · intro j b G h5 hb hr3 hs3 hle5
        exfalso
        have e1 := runA_s hb hr3
        rw [hs3] at e1
        have : A.drop k = (A.drop k).take (j + 1) ++ (A.drop k).drop (j + 1) := (List.take_append_drop _ _).symm
        rw [this, runA_append, e1] at eA
        cases eA
      · intro v65 G h5 hr3 hG hcG hle5
        rw [eA] at hr3
        cases hr3
        have n5 := hle5.nx
        have l5 := hle5.lo
        have hF5 := hF.le (hle4.trans hle5)
        simp (disch := first | omega | (simp only [Wx]; done) | (simp only [Wy]; done) | (simp only [Wv]; omega) | with_unfolding_all rfl) only [Wz, ptrTo, sliceTo]
        refine sameA_w F F h5 v65 v19 _ hG hF5 (by omega) (by omega) ?_
        rw [dec_t rfl]
        simp (disch := first | omega | (simp only [Wx]; done) | (simp only [Wy]; done) | (simp only [Wv]; omega) | with_unfolding_all rfl) only [Wz, ptrTo, sliceTo]
        refine acheck_w F h5 v19 _ hF5 (hcF.le (hle4.trans hle5)) (by omega) (by omega) ?_
        intro h6 hle6
        simp (disch := first | omega | (simp only [Wx]; done) | (simp only [Wy]; done) | (simp only [Wv]; omega) | with_unfolding_all rfl) only [Wz, ptrTo, sliceTo, if_pos ((chkA_iff F).2 sF)]
        rfl
end Go.Proofs
