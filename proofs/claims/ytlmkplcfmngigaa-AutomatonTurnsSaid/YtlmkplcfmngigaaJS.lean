/-
  PROVED HERE: a part of the proof, by a calculus of weakest conditions over an abstract heap (J11, J12).
-/
import Derived.Test.YtlmkplcfmngigaaJ10
set_option linter.unusedVariables false
set_option linter.unusedSimpArgs false
set_option maxRecDepth 100000
namespace Go.Proofs
open Go.Vai Go.Clashes
theorem enc6_len' (a : A6) : (enc6 a).length = 6 := rfl
/-- an act in a slice -/
theorem ld6 {h : Heap} {v : Value} {L : List A6} (hs : Sl enc6 h v L) (i : Nat) {p : A6} (hp : L[i]? = some p) :
    ∃ b o, b < h.nx ∧ (∀ (β : Type) (fl : β) (h' : Heap) (κ : Value → Heap → β), indexAddrS fl 6 v (.int .i64 (i : Int)) h' κ = κ (.pointer (some ⟨b, o, none⟩)) h') ∧
      ((∀ (β : Type) (fl : β) (κ : List Value → β), ldA fl (h.bl.get b) o 6 κ = κ (enc6 p)) ∧
      (∀ (β : Type) (fl : β) (κ : Value → β), ldO fl (h.bl.get b) (o + 5) κ = κ (.int .i64 p.c))) := by
  obtain ⟨b, o, h1, h2, h3, hh⟩ := hs.ld enc6_len' i hp
  exact ⟨b, o, h1, h2, h3, fun β fl κ => ldO_has (fl := fl) hh 5 κ (by show 5 < 6; omega)⟩
theorem h4_ext {p q : H4} : p = q ↔ (p.x = q.x ∧ p.t = q.t ∧ p.r = q.r ∧ p.m = q.m) := by
  cases p; cases q; simp
instance : DecidableEq H4 := fun p q => decidable_of_iff _ h4_ext.symm
theorem eqHk (h : Heap) (a b c d a' b' c' d' : Int) : eqB Try.prog h 100 30 (.agg ⟨[.int .i64 a, .int .i64 b, .int .i64 c, .int .i64 d]⟩) (.agg ⟨[.int .i64 a', .int .i64 b', .int .i64 c', .int .i64 d']⟩) =
    (match (some (ieqB a a')) with | some true => (match (match (some (ieqB b b')) with | some true => (match some (ieqB c c') with | some true => some true | r => r) | r => r) with | some true => (match some (ieqB d d') with | some true => some true | r => r) | r => r) | r => r) := by kernel_rfl
theorem eqH (h : Heap) (p q : H4) : eqB Try.prog h 100 30 (.agg ⟨[.int .i64 p.x, .int .i64 p.t, .int .i64 p.r, .int .i64 p.m]⟩) (.agg ⟨[.int .i64 q.x, .int .i64 q.t, .int .i64 q.r, .int .i64 q.m]⟩) = some (decide (p = q)) := by
  rw [eqHk, ieqB_eq, ieqB_eq, ieqB_eq, ieqB_eq]
  by_cases h1 : p.x = q.x <;> by_cases h2 : p.t = q.t <;> by_cases h3 : p.r = q.r <;> by_cases h4 : p.m = q.m <;> simp [h1, h2, h3, h4, h4_ext]
theorem bin_neH {β : Type} {fl : β} (cn : Bool) (p q : H4) (h : Heap) (κ : Value → Heap → β) : binB fl Try.prog .neq 30 cn false (.agg ⟨[.int .i64 p.x, .int .i64 p.t, .int .i64 p.r, .int .i64 p.m]⟩) (.agg ⟨[.int .i64 q.x, .int .i64 q.t, .int .i64 q.r, .int .i64 q.m]⟩) h κ = κ (.bool (!decide (p = q))) h := by
  simp only [binB, eqH, fbK_eq]
theorem equalH_w (L M : List H4) (h : Heap) (v u : Value) (κ : Value → Heap → Prop) (hv : Sl enc4 h v L) (hu : Sl enc4 h u M) (hlen : L.length ≤ 1000000) (hlen2 : M.length ≤ 1000000) (hk : κ (.bool (decide (L = M))) h) : CallW Try.prog 121 [v, u] h κ := by
  refine callW_of mixed ?_
  rw [rs_121]
  simp (disch := first | omega | (simp only [Wx]; done) | (simp only [Wy]; done) | (simp only [Wv]; omega) | with_unfolding_all rfl) only [Wz, ptrTo, sliceTo, hv.len, hu.len]
  by_cases hl : (L.length : Int) = M.length
  case neg =>
    simp (disch := first | omega | (simp only [Wx]; done) | (simp only [Wy]; done) | (simp only [Wv]; omega) | with_unfolding_all rfl) only [Wz, ptrTo, sliceTo, dec_f hl]
    have : ¬ L = M := fun e => hl (by rw [e])
    rwa [dec_f this] at hk
  simp (disch := first | omega | (simp only [Wx]; done) | (simp only [Wy]; done) | (simp only [Wv]; omega) | with_unfolding_all rfl) only [Wz, ptrTo, sliceTo, dec_t hl, hv.len]
  have hlN : L.length = M.length := by omega
  refine ⟨fun n l h1 => ∃ i : Nat, slot l 14 = .int .i64 (i : Int) ∧ i ≤ L.length ∧ n = L.length - i ∧ L.take i = M.take i ∧ HQ h h1, ⟨_, 0, rfl, Nat.zero_le _, rfl, rfl, rfl⟩, ?_⟩
  rintro n l h1 ⟨i, s1, hi, rfl, hall, hh⟩
  cases (show h = h1 from hh)
  clear hh
  by_cases hlt : i < L.length
  · obtain ⟨p, hp⟩ : ∃ p, L[i]? = some p := ⟨_, List.getElem?_eq_getElem hlt⟩
    obtain ⟨q, hq⟩ : ∃ q, M[i]? = some q := ⟨_, List.getElem?_eq_getElem (by omega)⟩
    obtain ⟨b, o, hb, hat, hld⟩ := ld4 hv i hp
    obtain ⟨b', o', hb', hat', hld'⟩ := ld4 hu i hq
    by_cases he : p = q
    · simp (disch := first | omega | (simp only [Wx]; done) | (simp only [Wy]; done) | (simp only [Wv]; omega) | with_unfolding_all rfl) only [Wz, ptrTo, sliceTo, s1, rs_121_0, hat, hld, hat', hld', enc4, bin_neH, dec_t he]
      refine ⟨_, by omega, i + 1, rfl, by omega, rfl, ?_, rfl⟩
      rw [List.take_add_one, List.take_add_one, hall, hp, hq, he]
    · simp (disch := first | omega | (simp only [Wx]; done) | (simp only [Wy]; done) | (simp only [Wv]; omega) | with_unfolding_all rfl) only [Wz, ptrTo, sliceTo, s1, rs_121_0, hat, hld, hat', hld', enc4, bin_neH, dec_f he]
      have : ¬ L = M := fun e => he (by rw [e] at hp; rw [hp] at hq; cases hq; rfl)
      rwa [dec_f this] at hk
  · simp (disch := first | omega | (simp only [Wx]; done) | (simp only [Wy]; done) | (simp only [Wv]; omega) | with_unfolding_all rfl) only [Wz, ptrTo, sliceTo, s1]
    have : L = M := by
      rw [List.take_of_length_le (by omega), List.take_of_length_le (by omega)] at hall
      exact hall
    rwa [dec_t this] at hk
theorem sameA_w (L M : List H4) (h : Heap) (v u : Value) (κ : Value → Heap → Prop) (hv : Sl enc4 h v L) (hu : Sl enc4 h u M) (hlen : L.length ≤ 1000000) (hlen2 : M.length ≤ 1000000) (hk : κ (.bool (decide (L = M))) h) : CallW Try.prog 63 [v, u] h κ := by
  refine callW_of mixed ?_
  rw [rs_63]
  exact equalH_w L M h v u _ hv hu hlen hlen2 hk
end Go.Proofs

namespace Go.Proofs
open Go.Vai Go.Clashes
theorem sta_nil : StA [] := ⟨List.Pairwise.nil, fun p hp => (by cases hp), List.Pairwise.nil⟩
theorem mem_take_s {c q : Int} {C : List Int} {k : Nat} (hq : C[k]? = some q) : c ∈ C.take (k + 1) ↔ c ∈ C.take k ∨ q = c := by
  rw [List.take_add_one, hq]; simp [eq_comm]
/-- two locks of a state -/
theorem two_ok {L : List H4} (s : StA L) {n k : Nat} {p q : H4} (hnk : n < k) (hp : L[n]? = some p) (hq : L[k]? = some q) (hn : p.t = q.t ∧ p.r = q.r) : p.x ≠ q.x ∧ cmp p.m q.m = true := by
  have h1 := pairwise_get.1 s.sorted n k p q hnk hp hq
  have h2 := pairwise_get.1 s.good n k p q hnk hp hq
  have hx : p.x ≠ q.x := fun e => ltA_irr h1 ⟨e, hn.1, hn.2⟩
  exact ⟨hx, (badH_iff p q).1 h2 hn hx⟩
set_option maxHeartbeats 4000000 in
/-- the last part of a round: the pairs -/
theorem safe_pairs (L : List H4) (v13 : Value) (l0 : List Value) (N8 : List Value → Heap → Prop) (l5 : List Value) (a0 v10 v11 v12 v14 v15 v16 v17 : Value) (l19 : List Value) (v20 v21 v46 v47 v48 v49 v51 v53 v55 v57 v59 v61 v63 v65 v67 v69 v71 v73 v74 : Value) (h : Heap)
    (st : StA L) (hv : Sl enc4 h v13 L) (hq : veq 8 v13 v13 = true) (hn : L.length ≤ 1000) (e51 : slot l0 51 = .int .i64 0) (hN : ∀ l, slot l 62 = v13 → N8 l h) :
    LoopR l0 h fun l76 h1 N75 => rs_11_1 v13 l76 N75 N8 l5 a0 v10 v11 v12 v14 v15 v16 v17 l19 v20 v21 v46 v47 v48 v49 v51 v53 v55 v57 v59 v61 v63 v65 v67 v69 v71 v73 v74 h1 IsTrue := by
  refine ⟨fun n l h1 => ∃ k : Nat, slot l 51 = .int .i64 (k : Int) ∧ k ≤ L.length ∧ n = L.length - k ∧ HQ h h1, ⟨_, 0, e51, Nat.zero_le _, rfl, rfl⟩, ?_⟩
  rintro n l h1 ⟨k, s1, hk, rfl, hh⟩
  cases (show h = h1 from hh)
  clear hh
  by_cases hlt : k < L.length
  · obtain ⟨q, hq1⟩ : ∃ q, L[k]? = some q := ⟨_, List.getElem?_eq_getElem hlt⟩
    obtain ⟨b, o, hb, hat, hld⟩ := ld4 hv k hq1
    simp (disch := first | omega | (simp only [Wx]; done) | (simp only [Wy]; done) | (simp only [Wv]; omega) | with_unfolding_all rfl) only [Wz, ptrTo, sliceTo, rs_11_1, s1, hv.len]
    refine ⟨fun n l h1 => ∃ i : Nat, slot l 44 = .int .i64 (i : Int) ∧ i ≤ k ∧ n = k - i ∧ HQ h h1, ⟨_, 0, rfl, Nat.zero_le _, rfl, rfl⟩, ?_⟩
    rintro n2 l2 h1 ⟨i, s2, hi, rfl, hh⟩
    cases (show h = h1 from hh)
    clear hh
    by_cases hlt2 : i < k
    · obtain ⟨p, hp⟩ : ∃ p, L[i]? = some p := ⟨_, List.getElem?_eq_getElem (by omega)⟩
      obtain ⟨b', o', hb', hat', hld'⟩ := ld4 hv i hp
      by_cases hnm : p.t = q.t ∧ p.r = q.r
      · obtain ⟨f1, f2⟩ := two_ok st hlt2 hp hq1 hnm
        simp (disch := first | omega | (simp only [Wx]; done) | (simp only [Wy]; done) | (simp only [Wv]; omega) | with_unfolding_all rfl) only [Wz, ptrTo, sliceTo, s1, s2, rs_11_0, hat, hld, hat', hld', bin_eq27, dec_t hnm, dec_f f1]
        refine rcompat_w _ _ ?_
        rw [f2]
        simp (disch := first | omega | (simp only [Wx]; done) | (simp only [Wy]; done) | (simp only [Wv]; omega) | with_unfolding_all rfl) only [Wz, ptrTo, sliceTo, s2]
        exact ⟨_, by omega, i + 1, rfl, by omega, rfl, rfl⟩
      · simp (disch := first | omega | (simp only [Wx]; done) | (simp only [Wy]; done) | (simp only [Wv]; omega) | with_unfolding_all rfl) only [Wz, ptrTo, sliceTo, s1, s2, rs_11_0, hat, hld, hat', hld', bin_eq27, dec_f hnm]
        exact ⟨_, by omega, i + 1, rfl, by omega, rfl, rfl⟩
    · simp (disch := first | omega | (simp only [Wx]; done) | (simp only [Wy]; done) | (simp only [Wv]; omega) | with_unfolding_all rfl) only [Wz, ptrTo, sliceTo, s1, s2]
      exact ⟨_, by omega, k + 1, rfl, by omega, rfl, rfl⟩
  · simp (disch := first | omega | (simp only [Wx]; done) | (simp only [Wy]; done) | (simp only [Wv]; omega) | with_unfolding_all rfl) only [Wz, ptrTo, sliceTo, rs_11_1, s1, hv.len]
    exact hN _ rfl
set_option maxHeartbeats 8000000 in
theorem automatonSafe_law (A : List A6) (h : Heap) (v : Value) (hv : Sl enc6 h v A) (hc : Cut 82 6 h v A.length) (hlo : h.lo ≤ h.nx) : CallW Try.prog 11 [v] h IsTrue := by
  refine callW_of mixed ?_
  rw [rs_11]
  refine closedW mixed lives15 ?_
  by_cases hn : A.length > 60
  · simp (disch := first | omega | (simp only [Wx]; done) | (simp only [Wy]; done) | (simp only [Wv]; omega) | with_unfolding_all rfl) only [Wz, ptrTo, sliceTo, hv.len]
    rfl
  simp (disch := first | omega | (simp only [Wx]; done) | (simp only [Wy]; done) | (simp only [Wv]; omega) | with_unfolding_all rfl) only [Wz, ptrTo, sliceTo, hv.len]
  have hqa := cut_veq hc
  refine ⟨fun n l h1 => ∃ (i : Nat) (L : List H4), slot l 121 = .int .i64 (i : Int) ∧ i ≤ A.length ∧ n = A.length - i ∧ Sl enc4 h1 (slot l 66) L ∧ CutH h1 (slot l 66) L.length ∧ StA L ∧ L.length ≤ i ∧ Le h h1,
    ⟨_, 0, [], rfl, Nat.zero_le _, rfl, Sl.nil _ _ _, .inl ⟨rfl, rfl⟩, sta_nil, Nat.zero_le _, Le.refl _⟩, ?_⟩
  rintro n l h1 ⟨i, L, s1, hi, rfl, hvl, hcl, st, hll, hle⟩
  have n1 := hle.nx
  have l1 := hle.lo
  obtain ⟨w, ew⟩ : ∃ w, slot l 66 = w := ⟨_, rfl⟩
  rw [ew] at hvl hcl
  by_cases hlt : i < A.length
  · obtain ⟨a, ha⟩ : ∃ a, A[i]? = some a := ⟨_, List.getElem?_eq_getElem hlt⟩
    obtain ⟨b, o, hb, hat, hld⟩ := ld6 hv i ha
    simp (disch := first | omega | (simp only [Wx]; done) | (simp only [Wy]; done) | (simp only [Wv]; omega) | with_unfolding_all rfl) only [Wz, ptrTo, sliceTo, rs_11_6, s1, hv.len]
    refine ⟨fun l' h' => ∃ L', Sl enc4 h' (slot l' 62) L' ∧ CutH h' (slot l' 62) L'.length ∧ StA L' ∧ L'.length ≤ i + 1 ∧ Le h h', ?_, ?_⟩
    · have hld1 := hle.get b hb
      simp (disch := first | omega | (simp only [Wx]; done) | (simp only [Wy]; done) | (simp only [Wv]; omega) | with_unfolding_all rfl) only [Wz, ptrTo, sliceTo, rs_11_5, s1, ew, hat, hld1, hld]
      refine step_w L a h1 w _ hvl hcl (by omega) (by omega) ?_
      intro r h2 hr hle2
      have n2 := hle2.nx
      have l2 := hle2.lo
      have hld2 := (hle.trans hle2).get b hb
      obtain ⟨v13, v14b, er, hcase⟩ : ∃ v13 v14b, r = .tuple ⟨[v13, .bool v14b]⟩ ∧ ((v14b = false ∧ ¬ a.c ∈ codesA L a) ∨ (v14b = true ∧ a.c ∈ codesA L a ∧ Sl enc4 h2 v13 (nextA L a) ∧ CutH h2 v13 (nextA L a).length)) := by
        rcases hr with ⟨e1, e2⟩ | ⟨v', L', e1, e2, e3, e4, e5⟩
        · refine ⟨_, _, e2, .inl ⟨rfl, fun hin => ?_⟩⟩
          unfold stepA at e1; rw [if_pos hin] at e1; cases e1
        · refine ⟨_, _, e2, .inr ⟨rfl, ?_⟩⟩
          unfold stepA at e1
          split at e1
          · cases e1; exact ⟨by assumption, e3, e4⟩
          · cases e1
      subst er
      simp (disch := first | omega | (simp only [Wx]; done) | (simp only [Wy]; done) | (simp only [Wv]; omega) | with_unfolding_all rfl) only [Wz, ptrTo, sliceTo, s1, hat, hld2, hld]
      refine codes_w L a h2 w _ (hvl.le hle2) (hcl.le hle2) (by omega) (by omega) ?_
      intro v17 h3 hv17 hle3
      have n3 := hle3.nx
      have l3 := hle3.lo
      have hld3 := ((hle.trans hle2).trans hle3).get b hb
      have hcl17 : (codesA L a).length ≤ 1000000 := by
        unfold codesA acqA passA
        repeat' split
        all_goals simp
      refine ⟨fun n l' h' => ∃ k : Nat, slot l' 20 = .int .i64 (k : Int) ∧ k ≤ (codesA L a).length ∧ n = (codesA L a).length - k ∧ slot l' 17 = .bool (decide (a.c ∈ (codesA L a).take k)) ∧ HQ h3 h',
        ⟨_, 0, rfl, Nat.zero_le _, rfl, by rw [List.take_zero]; rfl, rfl⟩, ?_⟩
      rintro n l' h' ⟨k, t1, hk, rfl, t2, hh⟩
      cases (show h3 = h' from hh)
      clear hh
      by_cases hkl : k < (codesA L a).length
      · obtain ⟨q, hq⟩ : ∃ q, (codesA L a)[k]? = some q := ⟨_, List.getElem?_eq_getElem hkl⟩
        obtain ⟨b', o', hb', hat', hld'⟩ := ldI hv17 k hq
        by_cases hin : a.c ∈ (codesA L a).take k
        · simp (disch := first | omega | (simp only [Wx]; done) | (simp only [Wy]; done) | (simp only [Wv]; omega) | with_unfolding_all rfl) only [Wz, ptrTo, sliceTo, t1, hv17.len, rs_11_3, t2, dec_t hin]
          refine ⟨_, by omega, k + 1, rfl, by omega, rfl, ?_, rfl⟩
          rw [dec_t ((mem_take_s hq).2 (.inl hin))]
        · simp (disch := first | omega | (simp only [Wx]; done) | (simp only [Wy]; done) | (simp only [Wv]; omega) | with_unfolding_all rfl) only [Wz, ptrTo, sliceTo, t1, hv17.len, rs_11_3, t2, dec_f hin, hat', hld', s1, hat, hld3, hld]
          refine ⟨_, by omega, k + 1, rfl, by omega, rfl, ?_, rfl⟩
          congr 1
          rw [decide_eq_decide, mem_take_s hq]
          exact ⟨fun e => .inr e, fun e => e.resolve_left hin⟩
      · have ek : k = (codesA L a).length := by omega
        subst ek
        rw [List.take_length] at t2
        rcases hcase with ⟨rfl, hin⟩ | ⟨rfl, hin, hv13, hc13⟩
        · simp (disch := first | omega | (simp only [Wx]; done) | (simp only [Wy]; done) | (simp only [Wv]; omega) | with_unfolding_all rfl) only [Wz, ptrTo, sliceTo, t1, hv17.len, rs_11_4, t2, dec_f hin, bin_neqb, ew]
          exact ⟨L, hvl.le (hle2.trans hle3), hcl.le (hle2.trans hle3), st, by omega, (hle.trans hle2).trans hle3⟩
        · have sn := sta_next hin
          have ln := next_len hin
          have cn := (chkA_iff _).2 sn
          simp (disch := first | omega | (simp only [Wx]; done) | (simp only [Wy]; done) | (simp only [Wv]; omega) | with_unfolding_all rfl) only [Wz, ptrTo, sliceTo, t1, hv17.len, rs_11_4, t2, dec_t hin, bin_neqb, rs_11_2]
          refine acheck_w (nextA L a) h3 v13 _ (hv13.le hle3) (hc13.le hle3) (by omega) (by omega) ?_
          intro h4 hle4
          have n4 := hle4.nx
          have l4 := hle4.lo
          have hall4 := ((hle.trans hle2).trans hle3).trans hle4
          have hld4 := hall4.get b hb
          have hv4 := hv13.le (hle3.trans hle4)
          have hc4 := hc13.le (hle3.trans hle4)
          have fin : ∀ l'', slot l'' 62 = v13 → ∃ L', Sl enc4 h4 (slot l'' 62) L' ∧ CutH h4 (slot l'' 62) L'.length ∧ StA L' ∧ L'.length ≤ i + 1 ∧ Le h h4 := by
            intro l'' e
            rw [e]
            exact ⟨nextA L a, hv4, hc4, sn, by omega, hall4⟩
          by_cases hc1 : a.c = 1
          · simp (disch := first | omega | (simp only [Wx]; done) | (simp only [Wy]; done) | (simp only [Wv]; omega) | with_unfolding_all rfl) only [Wz, ptrTo, sliceTo, if_pos cn, s1, hat, hld4, hld, dec_t hc1, ew]
            exact safe_pairs (nextA L a) v13 _ _ _ _ _ _ _ _ _ _ _ _ _ _ _ _ _ _ _ _ _ _ _ _ _ _ _ _ _ _ _ h4 sn hv4 (cut_veq hc4) (by omega) rfl fin
          · simp (disch := first | omega | (simp only [Wx]; done) | (simp only [Wy]; done) | (simp only [Wv]; omega) | with_unfolding_all rfl) only [Wz, ptrTo, sliceTo, if_pos cn, s1, hat, hld4, hld, dec_f hc1, ew]
            have e1 : nextA L a = L := if_neg hc1
            refine sameA_w (nextA L a) L h4 v13 w _ hv4 (hvl.le ((hle2.trans hle3).trans hle4)) (by omega) (by omega) ?_
            rw [dec_t e1]
            simp (disch := first | omega | (simp only [Wx]; done) | (simp only [Wy]; done) | (simp only [Wv]; omega) | with_unfolding_all rfl) only [Wz, ptrTo, sliceTo]
            exact safe_pairs (nextA L a) v13 _ _ _ _ _ _ _ _ _ _ _ _ _ _ _ _ _ _ _ _ _ _ _ _ _ _ _ _ _ _ _ h4 sn hv4 (cut_veq hc4) (by omega) rfl fin
    · rintro l' h' ⟨L', g1, g2, g3, g4, g5⟩
      exact ⟨_, by omega, i + 1, L', rfl, by omega, rfl, g1, g2, g3, g4, g5⟩
  · simp (disch := first | omega | (simp only [Wx]; done) | (simp only [Wy]; done) | (simp only [Wv]; omega) | with_unfolding_all rfl) only [Wz, ptrTo, sliceTo, rs_11_6, s1, hv.len]
    rfl
end Go.Proofs
