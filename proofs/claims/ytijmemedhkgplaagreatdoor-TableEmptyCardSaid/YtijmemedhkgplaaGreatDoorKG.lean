/-
  PROVED HERE: a part of the proof, by a calculus of weakest conditions over an abstract heap (K42, K43, K44).
-/
import Derived.Test.YtijmemedhkgplaaGreatDoorKF
set_option linter.unusedVariables false
set_option linter.unusedSimpArgs false
set_option maxRecDepth 100000
namespace Go.Proofs
open Go.Vai Go.Clashes
/-! ## the document's queue: what is asked of a head -/
theorem c24a : ∀ i, i < 7 → ∀ j, j < 7 → answersS Tryz.prog 200 24 [.int .i64 (.ofNat i), .int .i64 (.ofNat j)] (.bool (cmp (.ofNat i) (.ofNat j))) = true := by decide +kernel
theorem c24b (n : Nat) (b : Int) : answersS Tryz.prog 200 24 [.int .i64 (.negSucc n), .int .i64 b] (.bool false) = true := by kernel_rfl
theorem c24c (n : Nat) (b : Int) : answersS Tryz.prog 200 24 [.int .i64 (.ofNat (n + 7)), .int .i64 b] (.bool false) = true := by kernel_rfl
theorem c24d : ∀ i, i < 7 → ∀ n : Nat, answersS Tryz.prog 200 24 [.int .i64 (.ofNat i), .int .i64 (.negSucc n)] (.bool false) = true := by
  refine seven ?_ ?_ ?_ ?_ ?_ ?_ ?_ <;> intro n <;> kernel_rfl
theorem c24e : ∀ i, i < 7 → ∀ n : Nat, answersS Tryz.prog 200 24 [.int .i64 (.ofNat i), .int .i64 (.ofNat (n + 7))] (.bool false) = true := by
  refine seven ?_ ?_ ?_ ?_ ?_ ?_ ?_ <;> intro n <;> kernel_rfl
theorem rcompat_w (a b : Int) {h : Heap} {κ : Value → Heap → Prop} (hk : κ (.bool (cmp a b)) h) : CallW Tryz.prog 24 [.int .i64 a, .int .i64 b] h κ :=
  two_modes mixed (F := fun a b => .bool (cmp a b)) c24a (fun n b => by rw [cmp_l (kn_neg n)]; exact c24b n b) (fun n b => by rw [cmp_l (kn_big n)]; exact c24c n b) (fun i hi n => by rw [cmp_r (kn_neg n)]; exact c24d i hi n) (fun i hi n => by rw [cmp_r (kn_big n)]; exact c24e i hi n) a b hk
theorem c117a : ∀ i, i < 7 → ∀ j, j < 7 → answersS Tryz.prog 200 117 [.int .i64 (.ofNat i), .int .i64 (.ofNat j)] (.bool (cov (.ofNat i) (.ofNat j))) = true := by decide +kernel
theorem c117b (n : Nat) (b : Int) : answersS Tryz.prog 200 117 [.int .i64 (.negSucc n), .int .i64 b] (.bool false) = true := by kernel_rfl
theorem c117c (n : Nat) (b : Int) : answersS Tryz.prog 200 117 [.int .i64 (.ofNat (n + 7)), .int .i64 b] (.bool false) = true := by kernel_rfl
theorem c117d : ∀ i, i < 7 → ∀ n : Nat, answersS Tryz.prog 200 117 [.int .i64 (.ofNat i), .int .i64 (.negSucc n)] (.bool false) = true := by
  refine seven ?_ ?_ ?_ ?_ ?_ ?_ ?_ <;> intro n <;> kernel_rfl
theorem c117e : ∀ i, i < 7 → ∀ n : Nat, answersS Tryz.prog 200 117 [.int .i64 (.ofNat i), .int .i64 (.ofNat (n + 7))] (.bool false) = true := by
  refine seven ?_ ?_ ?_ ?_ ?_ ?_ ?_ <;> intro n <;> kernel_rfl
theorem rcovers_w (a b : Int) {h : Heap} {κ : Value → Heap → Prop} (hk : κ (.bool (cov a b)) h) : CallW Tryz.prog 117 [.int .i64 a, .int .i64 b] h κ :=
  two_modes mixed (F := fun a b => .bool (cov a b)) c117a (fun n b => by rw [cov_l (kn_neg n)]; exact c117b n b) (fun n b => by rw [cov_l (kn_big n)]; exact c117c n b) (fun i hi n => by rw [cov_r (kn_neg n)]; exact c117d i hi n) (fun i hi n => by rw [cov_r (kn_big n)]; exact c117e i hi n) a b hk
theorem rholds_w (r : R5) {h : Heap} {κ : Value → Heap → Prop} (hk : κ (.bool (decide (r.m ≠ 0))) h) : CallW Tryz.prog 68 [aggR r] h κ := by
  refine pureW (v := .bool (decide (r.m ≠ 0))) rfl rfl (callW_of mixed ?_) hk
  rw [rs_68]
  simp (disch := first | omega | (simp only [Wx]; done) | (simp only [Wy]; done) | (simp only [Wv]; omega) | with_unfolding_all rfl) only [Wz, ptrTo, sliceTo, enc5]
  simp
theorem rwaits_w (r : R5) {h : Heap} {κ : Value → Heap → Prop} (hk : κ (.bool (decide (0 < r.s))) h) : CallW Tryz.prog 67 [aggR r] h κ := by
  refine pureW (v := .bool (decide (0 < r.s))) rfl rfl (callW_of mixed ?_) hk
  rw [rs_67]
  simp (disch := first | omega | (simp only [Wx]; done) | (simp only [Wy]; done) | (simp only [Wv]; omega) | with_unfolding_all rfl) only [Wz, ptrTo, sliceTo, enc5]
theorem rright_w (r : R5) (W : Int) (R : RightR W r) {h : Heap} {κ : Value → Heap → Prop} (hk : κ (.bool true) h) : CallW Tryz.prog 66 [aggR r, .int .i64 W] h κ := by
  have h1 := R.id
  have h2 := R.s0
  have h3 := R.sW
  refine pureW (v := .bool true) rfl rfl (callW_of mixed ?_) hk
  rw [rs_66]
  simp (disch := first | omega | (simp only [Wx]; done) | (simp only [Wy]; done) | (simp only [Wv]; omega) | with_unfolding_all rfl) only [Wz, ptrTo, sliceTo, enc5, lt_f h1]
  refine rknown_w _ ?_
  rw [R.km]
  simp (disch := first | omega | (simp only [Wx]; done) | (simp only [Wy]; done) | (simp only [Wv]; omega) | with_unfolding_all rfl) only [Wz, ptrTo, sliceTo]
  refine rknown_w _ ?_
  rw [R.kw]
  simp (disch := first | omega | (simp only [Wx]; done) | (simp only [Wy]; done) | (simp only [Wv]; omega) | with_unfolding_all rfl) only [Wz, ptrTo, sliceTo, lt_f h2, lt_f h3]
  refine rwaits_w r ?_
  by_cases h4 : 0 < r.s
  · simp (disch := first | omega | (simp only [Wx]; done) | (simp only [Wy]; done) | (simp only [Wv]; omega) | with_unfolding_all rfl) only [Wz, ptrTo, sliceTo, dec_t h4, rs_66_0]
    refine rcovers_w _ _ ?_
    rw [R.wait h4]
    simp (disch := first | omega | (simp only [Wx]; done) | (simp only [Wy]; done) | (simp only [Wv]; omega) | with_unfolding_all rfl) only [Wz, ptrTo, sliceTo]
  · obtain ⟨m0, mw⟩ := R.hold (by omega)
    simp (disch := first | omega | (simp only [Wx]; done) | (simp only [Wy]; done) | (simp only [Wv]; omega) | with_unfolding_all rfl) only [Wz, ptrTo, sliceTo, dec_f h4, rs_66_1]
    refine rholds_w r ?_
    simp (disch := first | omega | (simp only [Wx]; done) | (simp only [Wy]; done) | (simp only [Wv]; omega) | with_unfolding_all rfl) only [Wz, ptrTo, sliceTo, dec_t m0, dec_t mw]
theorem rup_w (t r' : Int) (q : Value) (w : Int) (Q : List R5) (h : Heap) (κ : Value → Heap → Prop) (hq : Sl enc5 h q Q) (hlen : Q.length ≤ 1000000) (hlo : h.lo ≤ h.nx) (hk : ∀ h', Le h h' → κ (.int .i64 (optI (best Q Q.length))) h') :
    CallW Tryz.prog 63 [hdV t r' q w] h κ := by
  obtain ⟨hc, ho⟩ := sl_cells hq
  refine callW_of mixed ?_
  rw [rs_63]
  simp (disch := first | omega | (simp only [Wx]; done) | (simp only [Wy]; done) | (simp only [Wv]; omega) | with_unfolding_all rfl) only [Wz, ptrTo, sliceTo, hdV]
  obtain ⟨hA, e_hA⟩ : ∃ hA : Heap, hA = ⟨h.nx + 1, (h.bl.upd (h.nx) (cellsO [.int .i64 t, .int .i64 r', q, .int .i64 w] 51 false)), h.lo⟩ := ⟨_, rfl⟩
  have le_hA : Le h hA := by subst e_hA; exact ((Le.refl h).new _)
  have gA : hA.bl.get (h.nx) = some (cellsO [.int .i64 t, .int .i64 r', q, .int .i64 w] 51 false) := by subst e_hA; exact T.get_upd_same _ _ _
  have n_hA : hA.nx = h.nx + 1 := by subst e_hA; rfl
  have l_hA : hA.lo = h.lo := by subst e_hA; rfl
  rw [← e_hA]
  clear e_hA
  refine ⟨fun n l h1 => ∃ i : Nat, slot l 36 = .int .i64 (i : Int) ∧ slot l 33 = .int .i64 (optI (best Q i)) ∧ i ≤ Q.length ∧ n = Q.length - i ∧ Le hA h1, ⟨_, 0, rfl, rfl, Nat.zero_le _, rfl, Le.refl _⟩, ?_⟩
  rintro n l h1 ⟨i, s1, s2, hi, rfl, hle⟩
  have n1 := hle.nx
  have l1 := hle.lo
  have g1 := (hle.get h.nx (by omega)).trans gA
  have hq1 := hq.le (le_hA.trans hle)
  by_cases hlt : i < Q.length
  · obtain ⟨p, hp⟩ : ∃ p, Q[i]? = some p := ⟨_, List.getElem?_eq_getElem hlt⟩
    obtain ⟨b, o, hb, hat, hld⟩ := ld5 hq1 i hp
    have ebest : best Q (i + 1) = if (upR p && lessQ Q p (best Q i)) = true then some i else best Q i := by
      show (match Q[i]? with | some r => _ | none => _) = _
      rw [hp]
    simp (disch := first | omega | (simp only [Wx]; done) | (simp only [Wy]; done) | (simp only [Wv]; omega) | with_unfolding_all rfl) only [Wz, ptrTo, sliceTo, rs_63_1, s1, g1, hq1.len]
    refine ⟨fun l' h' => slot l' 28 = .int .i64 (optI (best Q (i + 1))) ∧ Le hA h', ?_, ?_⟩
    · simp (disch := first | omega | (simp only [Wx]; done) | (simp only [Wy]; done) | (simp only [Wv]; omega) | with_unfolding_all rfl) only [Wz, ptrTo, sliceTo, rs_63_0, s1, s2, g1, hat, hld, enc5]
      obtain ⟨hB, eB⟩ : ∃ hB : Heap, hB = ⟨h1.nx + 1, h1.bl.upd h1.nx (blkR p), h1.lo⟩ := ⟨_, rfl⟩
      have hleB : Le h1 hB := by subst eB; exact (Le.refl h1).new _
      have gB : hB.bl.get h1.nx = some (blkR p) := by subst eB; exact T.get_upd_same _ _ _
      have gB1 := (hleB.get h.nx (by omega)).trans g1
      have nB : hB.nx = h1.nx + 1 := by subst eB; rfl
      have lB : hB.lo = h1.lo := by subst eB; rfl
      rw [← eB]
      clear eB
      refine rholds_w p ?_
      by_cases hm : p.m = 0
      · simp (disch := first | omega | (simp only [Wx]; done) | (simp only [Wy]; done) | (simp only [Wv]; omega) | with_unfolding_all rfl) only [Wz, ptrTo, sliceTo, dec_f (show ¬ p.m ≠ 0 by omega), s2]
        refine ⟨?_, hle.trans hleB⟩
        rw [ebest, show upR p = false by simp [upR, hm]]; simp
      · simp (disch := first | omega | (simp only [Wx]; done) | (simp only [Wy]; done) | (simp only [Wv]; omega) | with_unfolding_all rfl) only [Wz, ptrTo, sliceTo, dec_t (show p.m ≠ 0 from hm), gB]
        refine rwaits_w p ?_
        by_cases hs0 : 0 < p.s
        · have hu : upR p = true := (upR_iff p).2 ⟨hm, hs0⟩
          cases hbst : best Q i with
          | none =>
            simp (disch := first | omega | (simp only [Wx]; done) | (simp only [Wy]; done) | (simp only [Wv]; omega) | with_unfolding_all rfl) only [Wz, ptrTo, sliceTo, dec_t hs0, s2, optI, lt_t (show (-1 : Int) < 0 by decide), hbst]
            refine ⟨?_, hle.trans hleB⟩
            rw [ebest, hu, hbst]; rfl
          | some k =>
            obtain ⟨hkl, pk, hpk, _⟩ := best_lt Q i k hbst
            obtain ⟨b', o', hb', hat', hld'⟩ := ld5 (hq1.le hleB) k hpk
            have eless : lessQ Q p (some k) = decide (p.s < pk.s) := by simp only [lessQ, hpk]
            simp (disch := first | omega | (simp only [Wx]; done) | (simp only [Wy]; done) | (simp only [Wv]; omega) | with_unfolding_all rfl) only [Wz, ptrTo, sliceTo, dec_t hs0, s2, optI, lt_f (show (0 : Int) ≤ (k : Int) by omega), hbst, gB, gB1, hat', hld']
            by_cases hs : p.s < pk.s
            · simp (disch := first | omega | (simp only [Wx]; done) | (simp only [Wy]; done) | (simp only [Wv]; omega) | with_unfolding_all rfl) only [Wz, ptrTo, sliceTo, dec_t hs]
              refine ⟨?_, hle.trans hleB⟩
              rw [ebest, hu, hbst, eless, dec_t hs]; rfl
            · simp (disch := first | omega | (simp only [Wx]; done) | (simp only [Wy]; done) | (simp only [Wv]; omega) | with_unfolding_all rfl) only [Wz, ptrTo, sliceTo, dec_f hs]
              refine ⟨?_, hle.trans hleB⟩
              rw [ebest, hu, hbst, eless, dec_f hs]
              first | rfl | (rw [s2, hbst]; rfl)
        · simp (disch := first | omega | (simp only [Wx]; done) | (simp only [Wy]; done) | (simp only [Wv]; omega) | with_unfolding_all rfl) only [Wz, ptrTo, sliceTo, dec_f hs0, s2]
          refine ⟨?_, hle.trans hleB⟩
          rw [ebest, show upR p = false by simp [upR, hs0]]; simp
    · rintro l' h' ⟨k1, k2⟩
      exact ⟨_, by omega, i + 1, rfl, k1, by omega, rfl, k2⟩
  · have hil : i = Q.length := by omega
    subst hil
    simp (disch := first | omega | (simp only [Wx]; done) | (simp only [Wy]; done) | (simp only [Wv]; omega) | with_unfolding_all rfl) only [Wz, ptrTo, sliceTo, rs_63_1, s1, s2, g1, hq1.len]
    exact hk h1 (le_hA.trans hle)
theorem find_first {Q : List R5} {F : R5 → Bool} {i : Nat} {p : R5} (hp : Q[i]? = some p) (hF : F p = true) (hn : ∀ (j : Nat) (q : R5), j < i → Q[j]? = some q → F q = false) : Q.findIdx? F = some i := by
  rcases find_cases Q F with ⟨e, h⟩ | ⟨k, q, e, hq, h1, h2⟩
  · have := h p (List.mem_of_getElem? hp)
    rw [hF] at this; cases this
  · rw [e]
    rcases Nat.lt_trichotomy k i with h3 | h3 | h3
    · have := hn k q h3 hq; rw [h1] at this; cases this
    · rw [h3]
    · have := h2 i p h3 hp; rw [hF] at this; cases this
theorem find_no {Q : List R5} {F : R5 → Bool} (hn : ∀ (j : Nat) (q : R5), j < Q.length → Q[j]? = some q → F q = false) : Q.findIdx? F = none := by
  rcases find_cases Q F with ⟨e, h⟩ | ⟨k, q, e, hq, h1, h2⟩
  · exact e
  · have := hn k q (List.getElem?_eq_some_iff.1 hq).1 hq
    rw [h1] at this; cases this
theorem rwaiting_w (t r' : Int) (q : Value) (w : Int) (Q : List R5) (h : Heap) (κ : Value → Heap → Prop) (hq : Sl enc5 h q Q) (hlen : Q.length ≤ 1000000) (hlo : h.lo ≤ h.nx) (hk : ∀ h', Le h h' → κ (.int .i64 (optI (Q.findIdx? fun r => decide (r.m = 0)))) h') :
    CallW Tryz.prog 64 [hdV t r' q w] h κ := by
  obtain ⟨hc, ho⟩ := sl_cells hq
  refine callW_of mixed ?_
  rw [rs_64]
  simp (disch := first | omega | (simp only [Wx]; done) | (simp only [Wy]; done) | (simp only [Wv]; omega) | with_unfolding_all rfl) only [Wz, ptrTo, sliceTo, hdV]
  obtain ⟨hA, e_hA⟩ : ∃ hA : Heap, hA = ⟨h.nx + 1, (h.bl.upd (h.nx) (cellsO [.int .i64 t, .int .i64 r', q, .int .i64 w] 51 false)), h.lo⟩ := ⟨_, rfl⟩
  have le_hA : Le h hA := by subst e_hA; exact ((Le.refl h).new _)
  have gA : hA.bl.get (h.nx) = some (cellsO [.int .i64 t, .int .i64 r', q, .int .i64 w] 51 false) := by subst e_hA; exact T.get_upd_same _ _ _
  have n_hA : hA.nx = h.nx + 1 := by subst e_hA; rfl
  have l_hA : hA.lo = h.lo := by subst e_hA; rfl
  rw [← e_hA]
  clear e_hA
  have hqA := hq.le le_hA
  refine ⟨fun n l h1 => ∃ i : Nat, slot l 16 = .int .i64 (i : Int) ∧ (∀ (j : Nat) (p : R5), j < i → Q[j]? = some p → decide (p.m = 0) = false) ∧ i ≤ Q.length ∧ n = Q.length - i ∧ HQ hA h1, ⟨_, 0, rfl, fun j p h => (by omega), Nat.zero_le _, rfl, rfl⟩, ?_⟩
  rintro n l h1 ⟨i, s1, hn, hi, rfl, hle⟩
  cases (show hA = h1 from hle)
  by_cases hlt : i < Q.length
  · obtain ⟨p, hp⟩ : ∃ p, Q[i]? = some p := ⟨_, List.getElem?_eq_getElem hlt⟩
    obtain ⟨b, o, hb, hat, hld⟩ := ld5 hqA i hp
    simp (disch := first | omega | (simp only [Wx]; done) | (simp only [Wy]; done) | (simp only [Wv]; omega) | with_unfolding_all rfl) only [Wz, ptrTo, sliceTo, rs_64_1, s1, gA, hqA.len, rs_64_0, hat, hld, enc5]
    refine rholds_w p ?_
    by_cases hm : p.m = 0
    · simp (disch := first | omega | (simp only [Wx]; done) | (simp only [Wy]; done) | (simp only [Wv]; omega) | with_unfolding_all rfl) only [Wz, ptrTo, sliceTo, dec_f (show ¬ p.m ≠ 0 by omega)]
      have := hk hA le_hA
      rw [find_first hp (by simp [hm]) hn] at this
      exact this
    · simp (disch := first | omega | (simp only [Wx]; done) | (simp only [Wy]; done) | (simp only [Wv]; omega) | with_unfolding_all rfl) only [Wz, ptrTo, sliceTo, dec_t (show p.m ≠ 0 from hm)]
      refine ⟨_, by omega, i + 1, rfl, fun j q hj hq => ?_, by omega, rfl, rfl⟩
      by_cases hji : j = i
      · subst hji; rw [hp] at hq; cases hq; simp [hm]
      · exact hn j q (by omega) hq
  · have hil : i = Q.length := by omega
    subst hil
    simp (disch := first | omega | (simp only [Wx]; done) | (simp only [Wy]; done) | (simp only [Wv]; omega) | with_unfolding_all rfl) only [Wz, ptrTo, sliceTo, rs_64_1, s1, gA, hqA.len]
    have := hk hA le_hA
    rw [find_no hn] at this
    exact this
/-- compatible with the first ones that hold, but one -/
def fitsN (Q : List R5) (m but : Int) : Nat → Bool
  | 0 => true
  | n + 1 => fitsN Q m but n && (match Q[n]? with | some p => decide ((n : Int) = but) || decide (p.m = 0) || cmp p.m m | none => true)
theorem fitsN_false {Q : List R5} {m but : Int} {n : Nat} (h : fitsN Q m but n = false) : ∀ k, n ≤ k → fitsN Q m but k = false := by
  intro k hk
  induction k with
  | zero => have : n = 0 := by omega
            subst this; exact h
  | succ k ih =>
    by_cases e : n = k + 1
    · subst e; exact h
    · unfold fitsN; rw [ih (by omega)]; rfl
theorem fitsN_iff {Q : List R5} {m but : Int} : ∀ n, fitsN Q m but n = true ↔ ∀ (j : Nat) (p : R5), j < n → Q[j]? = some p → (j : Int) ≠ but → p.m ≠ 0 → cmp p.m m = true := by
  intro n
  induction n with
  | zero => exact ⟨fun _ j p h => (by omega), fun _ => rfl⟩
  | succ n ih =>
    unfold fitsN
    rw [Bool.and_eq_true, ih]
    constructor
    · rintro ⟨h1, h2⟩ j p hj hp hb hm
      by_cases e : j = n
      · subst e; rw [hp] at h2; simpa [hb, hm] using h2
      · exact h1 j p (by omega) hp hb hm
    · intro h
      refine ⟨fun j p hj hp hb hm => h j p (by omega) hp hb hm, ?_⟩
      split
      · rename_i p hp
        by_cases hb : (n : Int) = but
        · simp [hb]
        · by_cases hm : p.m = 0
          · simp [hm]
          · simp [h n p (by omega) hp hb hm]
      · rfl
theorem fitsN_eq {Q : List R5} (hp : Q.Pairwise Beside) {i : Nat} {r : R5} (hr : Q[i]? = some r) : fitsN Q r.w i Q.length = fitsQ Q r := by
  rw [Bool.eq_iff_iff, fitsN_iff, fitsQ_iff]
  constructor
  · intro h o ho h1 h2
    obtain ⟨j, hj⟩ := List.getElem?_of_mem ho
    refine h j o (List.getElem?_eq_some_iff.1 hj).1 hj (fun e => h1 ?_) h2
    have : j = i := by omega
    subst this; rw [hr] at hj; cases hj; rfl
  · intro h j p hj hpj hb hm
    exact h p (List.mem_of_getElem? hpj) (fun e => hb (by rw [ids_at hp hpj hr e])) hm
theorem rfits_w (t r' : Int) (q : Value) (w m but : Int) (Q : List R5) (h : Heap) (κ : Value → Heap → Prop) (hq : Sl enc5 h q Q) (hlen : Q.length ≤ 1000000) (hlo : h.lo ≤ h.nx) (hk : ∀ h', Le h h' → κ (.bool (fitsN Q m but Q.length)) h') :
    CallW Tryz.prog 65 [hdV t r' q w, .int .i64 m, .int .i64 but] h κ := by
  obtain ⟨hc, ho⟩ := sl_cells hq
  refine callW_of mixed ?_
  rw [rs_65]
  simp (disch := first | omega | (simp only [Wx]; done) | (simp only [Wy]; done) | (simp only [Wv]; omega) | with_unfolding_all rfl) only [Wz, ptrTo, sliceTo, hdV]
  obtain ⟨hA, e_hA⟩ : ∃ hA : Heap, hA = ⟨h.nx + 1, (h.bl.upd (h.nx) (cellsO [.int .i64 t, .int .i64 r', q, .int .i64 w] 51 false)), h.lo⟩ := ⟨_, rfl⟩
  have le_hA : Le h hA := by subst e_hA; exact ((Le.refl h).new _)
  have gA : hA.bl.get (h.nx) = some (cellsO [.int .i64 t, .int .i64 r', q, .int .i64 w] 51 false) := by subst e_hA; exact T.get_upd_same _ _ _
  have n_hA : hA.nx = h.nx + 1 := by subst e_hA; rfl
  have l_hA : hA.lo = h.lo := by subst e_hA; rfl
  rw [← e_hA]
  clear e_hA
  have hqA := hq.le le_hA
  have hk := hk hA le_hA
  refine ⟨fun n l h1 => ∃ i : Nat, slot l 30 = .int .i64 (i : Int) ∧ fitsN Q m but i = true ∧ i ≤ Q.length ∧ n = Q.length - i ∧ HQ hA h1, ⟨_, 0, rfl, rfl, Nat.zero_le _, rfl, rfl⟩, ?_⟩
  rintro n l h1 ⟨i, s1, hn, hi, rfl, hle⟩
  cases (show hA = h1 from hle)
  by_cases hlt : i < Q.length
  · obtain ⟨p, hp⟩ : ∃ p, Q[i]? = some p := ⟨_, List.getElem?_eq_getElem hlt⟩
    obtain ⟨b, o, hb, hat, hld⟩ := ld5 hqA i hp
    have estep : fitsN Q m but (i + 1) = (fitsN Q m but i && (decide ((i : Int) = but) || decide (p.m = 0) || cmp p.m m)) := by
      show (fitsN Q m but i && (match Q[i]? with | some p => _ | none => _)) = _
      rw [hp]
    have next : (decide ((i : Int) = but) || decide (p.m = 0) || cmp p.m m) = true → fitsN Q m but (i + 1) = true := fun h => by rw [estep, hn, h]; rfl
    simp (disch := first | omega | (simp only [Wx]; done) | (simp only [Wy]; done) | (simp only [Wv]; omega) | with_unfolding_all rfl) only [Wz, ptrTo, sliceTo, rs_65_1, s1, gA, hqA.len]
    by_cases hbut : (i : Int) = but
    · simp (disch := first | omega | (simp only [Wx]; done) | (simp only [Wy]; done) | (simp only [Wv]; omega) | with_unfolding_all rfl) only [Wz, ptrTo, sliceTo, rs_65_0, s1, dec_t hbut]
      exact ⟨_, by omega, i + 1, rfl, next (by simp [hbut]), by omega, rfl, rfl⟩
    · simp (disch := first | omega | (simp only [Wx]; done) | (simp only [Wy]; done) | (simp only [Wv]; omega) | with_unfolding_all rfl) only [Wz, ptrTo, sliceTo, rs_65_0, s1, dec_f hbut, gA, hat, hld, enc5]
      refine rholds_w p ?_
      by_cases hm : p.m = 0
      · simp (disch := first | omega | (simp only [Wx]; done) | (simp only [Wy]; done) | (simp only [Wv]; omega) | with_unfolding_all rfl) only [Wz, ptrTo, sliceTo, dec_f (show ¬ p.m ≠ 0 by omega), s1]
        exact ⟨_, by omega, i + 1, rfl, next (by simp [hm]), by omega, rfl, rfl⟩
      · simp (disch := first | omega | (simp only [Wx]; done) | (simp only [Wy]; done) | (simp only [Wv]; omega) | with_unfolding_all rfl) only [Wz, ptrTo, sliceTo, dec_t (show p.m ≠ 0 from hm), gA, s1, hat, hld]
        refine rcompat_w _ _ ?_
        cases hcm : cmp p.m m with
        | true =>
          simp (disch := first | omega | (simp only [Wx]; done) | (simp only [Wy]; done) | (simp only [Wv]; omega) | with_unfolding_all rfl) only [Wz, ptrTo, sliceTo, s1]
          exact ⟨_, by omega, i + 1, rfl, next (by simp [hcm]), by omega, rfl, rfl⟩
        | false =>
          simp (disch := first | omega | (simp only [Wx]; done) | (simp only [Wy]; done) | (simp only [Wv]; omega) | with_unfolding_all rfl) only [Wz, ptrTo, sliceTo]
          rw [fitsN_false (n := i + 1) (by rw [estep, hcm]; simp [hbut, hm]) Q.length (by omega)] at hk
          exact hk
  · have hil : i = Q.length := by omega
    subst hil
    simp (disch := first | omega | (simp only [Wx]; done) | (simp only [Wy]; done) | (simp only [Wv]; omega) | with_unfolding_all rfl) only [Wz, ptrTo, sliceTo, rs_65_1, s1, gA, hqA.len]
    rw [hn] at hk
    exact hk
end Go.Proofs

namespace Go.Proofs
open Go.Vai Go.Clashes
theorem repeat0 {zs : List Value} (κ : List Value → Prop) : fillB False [] [] (repeatL zs 0) κ = κ [] := id rfl
theorem rcopied_w (t r : Int) (q : Value) (w : Int) (Q : List R5) (h : Heap) (κ : Value → Heap → Prop) (hq : Sl enc5 h q Q) (hlen : Q.length ≤ 100000) (hlo : h.lo ≤ h.nx) (hk : ∀ q' h', OwnR h h' q' Q → Le h h' → κ (hdV t r q' w) h') :
    CallW Tryz.prog 62 [hdV t r q w] h κ := by
  obtain ⟨qx, qc, rfl, _⟩ := id hq
  refine callW_of mixed ?_
  rw [rs_62]
  simp (disch := first | omega | (simp only [Wx]; done) | (simp only [Wy]; done) | (simp only [Wv]; omega) | with_unfolding_all rfl) only [Wz, ptrTo, sliceTo, hdV, repeat0]
  obtain ⟨hA, e_hA⟩ : ∃ hA : Heap, hA = ⟨h.nx + 1 + 1 + 1, (((h.bl.upd (h.nx) (cellsO [.int .i64 t, .int .i64 r, .slice qx Q.length qc, .int .i64 w] 51 false)).upd (h.nx + 1) (cellsO [.int .i64 0, .int .i64 0, .slice none 0 0, .int .i64 0] 51 false)).upd (h.nx + 1 + 1) (cellsO [] 54 false)), h.lo⟩ := ⟨_, rfl⟩
  have le_hA : Le h hA := by subst e_hA; exact ((((Le.refl h).new _).new _).new _)
  have g1 : hA.bl.get (h.nx) = some (cellsO [.int .i64 t, .int .i64 r, .slice qx Q.length qc, .int .i64 w] 51 false) := by subst e_hA; exact (T.get_updne _ _ (by omega)).trans ((T.get_updne _ _ (by omega)).trans (T.get_upd_same _ _ _))
  have g3 : hA.bl.get (h.nx + 1) = some (cellsO [.int .i64 0, .int .i64 0, .slice none 0 0, .int .i64 0] 51 false) := by subst e_hA; exact (T.get_updne _ _ (by omega)).trans (T.get_upd_same _ _ _)
  have g5 : hA.bl.get (h.nx + 1 + 1) = some (cellsO [] 54 false) := by subst e_hA; exact T.get_upd_same _ _ _
  have n_hA : hA.nx = h.nx + 1 + 1 + 1 := by subst e_hA; rfl
  have l_hA : hA.lo = h.lo := by subst e_hA; rfl
  rw [← e_hA]
  clear e_hA
  refine append_in (enc := enc5) (a := h) (L := []) (M := Q) enc5_len enc5_one (by decide) (by decide) (.inl ⟨rfl, .inr ⟨_, _, rfl⟩⟩) (hq.le le_hA) le_hA (by simp; omega) (by omega) _ ?_
  intro v' h' ho' hle' _ hn2 hl' hsame
  have g1 := (hsame h.nx (by omega) (by rw [g1]; exact cells_op)).trans g1
  have g3 := (hsame (h.nx + 1) (by omega) (by rw [g3]; exact cells_op)).trans g3
  rw [List.nil_append] at ho'
  obtain ⟨qx', qc', rfl, _⟩ := id ho'.sl
  simp (disch := first | omega | (simp only [Wx]; done) | (simp only [Wy]; done) | (simp only [Wv]; omega) | with_unfolding_all rfl) only [Wz, ptrTo, sliceTo, g1]
  simp (disch := first | omega | (simp only [Wx]; done) | (simp only [Wy]; done) | (simp only [Wv]; omega) | with_unfolding_all rfl) only [Wz, ptrTo, sliceTo, g3]
  refine hk _ _ ?_ ?_
  · refine Own.put (Own.put ho' (by rw [g1]; exact cells_op) _) ?_ _
    show (h'.bl.upd h.nx _).get (h.nx + 1) ≠ _
    rw [T.get_updne _ _ (by omega), g3]; exact cells_op
  · exact (hle'.set (b := h.nx) (by omega) _).set (b := h.nx + 1) (by omega) _
theorem firstQ_of {Q : List R5} : firstQ Q = (match best Q Q.length with | some b => some b | none => Q.findIdx? (fun r => decide (r.m = 0))) := rfl
/-- nothing can be granted in it -/
theorem rscan_w (t r : Int) (q : Value) (w : Int) (Q : List R5) (h : Heap) (κ : Value → Heap → Prop) (hq : Sl enc5 h q Q) (hlen : Q.length ≤ 100000) (hlo : h.lo ≤ h.nx) (vp : Q.Pairwise Beside) (hst : stuckQ Q) (hk : ∀ q' h', OwnR h h' q' Q → Le h h' → κ (.tuple ⟨[hdV t r q' w, .slice none 0 0]⟩) h') :
    CallW Tryz.prog 21 [hdV t r q w] h κ := by
  obtain ⟨qx, qc, rfl, _⟩ := id hq
  refine callW_of mixed ?_
  rw [rs_21]
  simp (disch := first | omega | (simp only [Wx]; done) | (simp only [Wy]; done) | (simp only [Wv]; omega) | with_unfolding_all rfl) only [Wz, ptrTo, sliceTo, hdV]
  obtain ⟨hA, e_hA⟩ : ∃ hA : Heap, hA = ⟨h.nx + 1 + 1, ((h.bl.upd (h.nx) (cellsO [.int .i64 t, .int .i64 r, .slice qx Q.length qc, .int .i64 w] 51 false)).upd (h.nx + 1) (cellsO [.int .i64 0, .int .i64 0, .slice none 0 0, .int .i64 0] 51 false)), h.lo⟩ := ⟨_, rfl⟩
  have le_hA : Le h hA := by subst e_hA; exact (((Le.refl h).new _).new _)
  have g1 : hA.bl.get (h.nx) = some (cellsO [.int .i64 t, .int .i64 r, .slice qx Q.length qc, .int .i64 w] 51 false) := by subst e_hA; exact (T.get_updne _ _ (by omega)).trans (T.get_upd_same _ _ _)
  have g3 : hA.bl.get (h.nx + 1) = some (cellsO [.int .i64 0, .int .i64 0, .slice none 0 0, .int .i64 0] 51 false) := by subst e_hA; exact T.get_upd_same _ _ _
  have n_hA : hA.nx = h.nx + 1 + 1 := by subst e_hA; rfl
  have l_hA : hA.lo = h.lo := by subst e_hA; rfl
  rw [← e_hA]
  clear e_hA
  refine rcopied_w t r _ w Q hA _ (hq.le le_hA) hlen (by omega) ?_
  intro q2 h2 ho2 le2
  have n_le2 := le2.nx
  have l_le2 := le2.lo
  have g3 := (le2.get _ (by omega)).trans g3
  obtain ⟨qx2, qc2, rfl, _⟩ := id ho2.sl
  simp (disch := first | omega | (simp only [Wx]; done) | (simp only [Wy]; done) | (simp only [Wv]; omega) | with_unfolding_all rfl) only [Wz, ptrTo, sliceTo, hdV]
  obtain ⟨hB, e_hB⟩ : ∃ hB : Heap, hB = ⟨h2.nx + 1, (h2.bl.upd (h2.nx) (cellsO [.int .i64 t, .int .i64 r, .slice qx2 Q.length qc2, .int .i64 w] 51 false)), h2.lo⟩ := ⟨_, rfl⟩
  have le_hB : Le h2 hB := by subst e_hB; exact ((Le.refl h2).new _)
  have g7 : hB.bl.get (h2.nx) = some (cellsO [.int .i64 t, .int .i64 r, .slice qx2 Q.length qc2, .int .i64 w] 51 false) := by subst e_hB; exact T.get_upd_same _ _ _
  have n_hB : hB.nx = h2.nx + 1 := by subst e_hB; rfl
  have l_hB : hB.lo = h2.lo := by subst e_hB; rfl
  rw [← e_hB]
  clear e_hB
  have n_le_hB := le_hB.nx
  have l_le_hB := le_hB.lo
  have g3 := (le_hB.get _ (by omega)).trans g3
  refine ⟨fun n l h1 => slot l 49 = .slice none 0 0 ∧ HQ hB h1, ⟨0, rfl, rfl⟩, ?_⟩
  rintro n l h1 ⟨s1, hQ⟩
  cases (show hB = h1 from hQ)
  simp (disch := first | omega | (simp only [Wx]; done) | (simp only [Wy]; done) | (simp only [Wv]; omega) | with_unfolding_all rfl) only [Wz, ptrTo, sliceTo, rs_21_2, g7]
  have hoB := ho2.le le_hB
  refine rup_w t r _ w Q hB _ hoB.sl (by omega) (by omega) ?_
  intro h3 le3
  have n_le3 := le3.nx
  have l_le3 := le3.lo
  have g3 := (le3.get _ (by omega)).trans g3
  have g7 := (le3.get _ (by omega)).trans g7
  have ho3 := hoB.le le3
  refine ⟨fun l' h' => slot l' 4 = .int .i64 (optI (firstQ Q)) ∧ Le h3 h', ?_, ?_⟩
  · cases hb : best Q Q.length with
    | some b =>
      simp (disch := first | omega | (simp only [Wx]; done) | (simp only [Wy]; done) | (simp only [Wv]; omega) | with_unfolding_all rfl) only [Wz, ptrTo, sliceTo, optI, lt_f (show (0 : Int) ≤ (b : Int) by omega)]
      refine ⟨?_, Le.refl _⟩
      rw [firstQ_of, hb]
    | none =>
      simp (disch := first | omega | (simp only [Wx]; done) | (simp only [Wy]; done) | (simp only [Wv]; omega) | with_unfolding_all rfl) only [Wz, ptrTo, sliceTo, optI, lt_t (show (-1 : Int) < 0 by decide), g7]
      refine rwaiting_w t r _ w Q h3 _ ho3.sl (by omega) (by omega) ?_
      intro h4 le4
      refine ⟨?_, le4⟩
      rw [firstQ_of, hb]; rfl
  rintro l4 h4 ⟨s4, le4⟩
  have n_le4 := le4.nx
  have l_le4 := le4.lo
  have g3 := (le4.get _ (by omega)).trans g3
  have g7 := (le4.get _ (by omega)).trans g7
  have ho4 := ho3.le le4
  have fin : ∀ h5, Le h4 h5 → κ (.tuple ⟨[hdV t r (.slice qx2 Q.length qc2) w, .slice none 0 0]⟩) ⟨h5.nx, h5.bl.upd (h.nx + 1) (cellsO [.int .i64 t, .int .i64 r, .slice qx2 Q.length qc2, .int .i64 w] 51 false), h5.lo⟩ := by
    intro h5 le5
    have n5 := le5.nx
    refine hk _ _ ?_ ?_
    · exact Own.put (Own.base (ho4.le le5) (by omega)) (by rw [(le5.get _ (by omega)).trans g3]; exact cells_op) _
    · exact ((((((le_hA.trans le2).trans le_hB).trans le3).trans le4).trans le5).set (b := h.nx + 1) (by omega) _)
  have fin0 := fin h4 (Le.refl _)
  cases hf : firstQ Q with
  | none =>
    rw [hf] at s4
    simp (disch := first | omega | (simp only [Wx]; done) | (simp only [Wy]; done) | (simp only [Wv]; omega) | with_unfolding_all rfl) only [Wz, ptrTo, sliceTo, rs_21_1, s4, optI, lt_t (show (-1 : Int) < 0 by decide), g7, g3, s1]
    exact fin0
  | some i =>
    rw [hf] at s4
    obtain ⟨p, hp, _⟩ := first_some hf
    obtain ⟨b, o, hb, hat, hld⟩ := ld5 ho4.sl i hp
    simp (disch := first | omega | (simp only [Wx]; done) | (simp only [Wy]; done) | (simp only [Wv]; omega) | with_unfolding_all rfl) only [Wz, ptrTo, sliceTo, rs_21_1, s4, optI, lt_f (show (0 : Int) ≤ (i : Int) by omega), g7, hat, hld]
    refine rfits_w t r _ w p.w i Q h4 _ ho4.sl (by omega) (by omega) ?_
    intro h5 le5
    have n_le5 := le5.nx
    have l_le5 := le5.lo
    have g3 := (le5.get _ (by omega)).trans g3
    have g7 := (le5.get _ (by omega)).trans g7
    rw [fitsN_eq vp hp, hst i p hf hp]
    simp (disch := first | omega | (simp only [Wx]; done) | (simp only [Wy]; done) | (simp only [Wv]; omega) | with_unfolding_all rfl) only [Wz, ptrTo, sliceTo, g7, g3, s1]
    exact fin h5 le5
theorem rcheck_w (t r : Int) (q : Value) (w : Int) (Q : List R5) (h : Heap) (κ : Value → Heap → Prop) (hq : Sl enc5 h q Q) (hlen : Q.length ≤ 100000) (hlo : h.lo ≤ h.nx) (v : VQ Q w) (hw : w ≤ 1000000) (hk : ∀ h', Le h h' → κ (.int .i64 0) h') :
    CallW Tryz.prog 22 [hdV t r q w] h κ := by
  obtain ⟨hc, ho⟩ := sl_cells hq
  have hw0 := v.w0
  refine callW_of mixed ?_
  rw [rs_22]
  simp (disch := first | omega | (simp only [Wx]; done) | (simp only [Wy]; done) | (simp only [Wv]; omega) | with_unfolding_all rfl) only [Wz, ptrTo, sliceTo, hdV]
  obtain ⟨hA, e_hA⟩ : ∃ hA : Heap, hA = ⟨h.nx + 1, (h.bl.upd (h.nx) (cellsO [.int .i64 t, .int .i64 r, q, .int .i64 w] 51 false)), h.lo⟩ := ⟨_, rfl⟩
  have le_hA : Le h hA := by subst e_hA; exact ((Le.refl h).new _)
  have gA : hA.bl.get (h.nx) = some (cellsO [.int .i64 t, .int .i64 r, q, .int .i64 w] 51 false) := by subst e_hA; exact T.get_upd_same _ _ _
  have n_hA : hA.nx = h.nx + 1 := by subst e_hA; rfl
  have l_hA : hA.lo = h.lo := by subst e_hA; rfl
  rw [← e_hA]
  clear e_hA
  refine ⟨fun n l h1 => ∃ i : Nat, slot l 86 = .int .i64 (i : Int) ∧ i ≤ Q.length ∧ n = Q.length - i ∧ Le hA h1, ⟨_, 0, rfl, Nat.zero_le _, rfl, Le.refl _⟩, ?_⟩
  rintro n l h1 ⟨i, s1, hi, rfl, le1⟩
  have n_le1 := le1.nx
  have l_le1 := le1.lo
  have gA := (le1.get _ (by omega)).trans gA
  have hq1 := hq.le (le_hA.trans le1)
  by_cases hlt : i < Q.length
  · obtain ⟨b, hb⟩ : ∃ p, Q[i]? = some p := ⟨_, List.getElem?_eq_getElem hlt⟩
    obtain ⟨b1, o1, hb1, hat1, hld1⟩ := ld5 hq1 i hb
    simp (disch := first | omega | (simp only [Wx]; done) | (simp only [Wy]; done) | (simp only [Wv]; omega) | with_unfolding_all rfl) only [Wz, ptrTo, sliceTo, rs_22_2, s1, gA, hq1.len, rs_22_1, hat1, hld1, enc5]
    obtain ⟨hB, eB⟩ : ∃ hB : Heap, hB = ⟨h1.nx + 1, h1.bl.upd h1.nx (blkR b), h1.lo⟩ := ⟨_, rfl⟩
    have leB : Le h1 hB := by subst eB; exact (Le.refl h1).new _
    have gb : hB.bl.get h1.nx = some (blkR b) := by subst eB; exact T.get_upd_same _ _ _
    have nB : hB.nx = h1.nx + 1 := by subst eB; rfl
    have lB : hB.lo = h1.lo := by subst eB; rfl
    rw [← eB]
    clear eB
    have gAB := (leB.get _ (by omega)).trans gA
    refine rright_w b w (v.right b (List.mem_of_getElem? hb)) ?_
    simp (disch := first | omega | (simp only [Wx]; done) | (simp only [Wy]; done) | (simp only [Wv]; omega) | with_unfolding_all rfl) only [Wz, ptrTo, sliceTo]
    refine ⟨fun n l h2 => ∃ k : Nat, slot l 67 = .int .i64 (k : Int) ∧ k ≤ i ∧ n = i - k ∧ Le hB h2, ⟨_, 0, rfl, Nat.zero_le _, rfl, Le.refl _⟩, ?_⟩
    rintro n2 l2 h2 ⟨k, s2, hk2, rfl, le2⟩
    have n_le2 := le2.nx
    have l_le2 := le2.lo
    have gAB := (le2.get _ (by omega)).trans gAB
    have gb := (le2.get _ (by omega)).trans gb
    have hq2 := hq1.le (leB.trans le2)
    by_cases hki : k < i
    · obtain ⟨a, ha⟩ : ∃ p, Q[k]? = some p := ⟨_, List.getElem?_eq_getElem (by omega)⟩
      have P := pw_get.1 v.pair k i a b hki ha hb
      obtain ⟨b2, o2, hb2, hat2, hld2⟩ := ld5 hq2 k ha
      simp (disch := first | omega | (simp only [Wx]; done) | (simp only [Wy]; done) | (simp only [Wv]; omega) | with_unfolding_all rfl) only [Wz, ptrTo, sliceTo, s1, s2, rs_22_0, gAB, gb, hat2, hld2, enc5, dec_f P.id, dec_f P.x]
      obtain ⟨hC, eC⟩ : ∃ hC : Heap, hC = ⟨h2.nx + 1, h2.bl.upd h2.nx (blkR a), h2.lo⟩ := ⟨_, rfl⟩
      have leC : Le h2 hC := by subst eC; exact (Le.refl h2).new _
      have ga : hC.bl.get h2.nx = some (blkR a) := by subst eC; exact T.get_upd_same _ _ _
      have nC : hC.nx = h2.nx + 1 := by subst eC; rfl
      have lC : hC.lo = h2.lo := by subst eC; rfl
      rw [← eC]
      clear eC
      have gbC := (leC.get _ (by omega)).trans gb
      have done : ∃ m, m < i - k ∧ ∃ k' : Nat, Value.int .i64 ((k : Int) + 1) = .int .i64 (k' : Int) ∧ k' ≤ i ∧ m = i - k' ∧ Le hB hC := ⟨_, by omega, k + 1, rfl, by omega, rfl, le2.trans leC⟩
      refine rwaits_w a ?_
      by_cases hs : 0 < a.s
      · simp (disch := first | omega | (simp only [Wx]; done) | (simp only [Wy]; done) | (simp only [Wv]; omega) | with_unfolding_all rfl) only [Wz, ptrTo, sliceTo, dec_t hs, ga, gbC, dec_f (P.s hs)]
        refine rholds_w a ?_
        by_cases hm : a.m = 0
        · obtain ⟨bm, bs⟩ := P.ord hm
          simp (disch := first | omega | (simp only [Wx]; done) | (simp only [Wy]; done) | (simp only [Wv]; omega) | with_unfolding_all rfl) only [Wz, ptrTo, sliceTo, dec_f (show ¬ a.m ≠ 0 by omega), gbC]
          refine rholds_w b ?_
          simp (disch := first | omega | (simp only [Wx]; done) | (simp only [Wy]; done) | (simp only [Wv]; omega) | with_unfolding_all rfl) only [Wz, ptrTo, sliceTo, dec_f (show ¬ b.m ≠ 0 by omega), ga, gbC, lt_f (show a.s ≤ b.s by omega)]
          refine rholds_w a ?_
          simp (disch := first | omega | (simp only [Wx]; done) | (simp only [Wy]; done) | (simp only [Wv]; omega) | with_unfolding_all rfl) only [Wz, ptrTo, sliceTo, dec_f (show ¬ a.m ≠ 0 by omega), s2]
          exact done
        · simp (disch := first | omega | (simp only [Wx]; done) | (simp only [Wy]; done) | (simp only [Wv]; omega) | with_unfolding_all rfl) only [Wz, ptrTo, sliceTo, dec_t (show a.m ≠ 0 from hm), ga]
          refine rholds_w a ?_
          simp (disch := first | omega | (simp only [Wx]; done) | (simp only [Wy]; done) | (simp only [Wv]; omega) | with_unfolding_all rfl) only [Wz, ptrTo, sliceTo, dec_t (show a.m ≠ 0 from hm), gbC]
          refine rholds_w b ?_
          by_cases hm2 : b.m = 0
          · simp (disch := first | omega | (simp only [Wx]; done) | (simp only [Wy]; done) | (simp only [Wv]; omega) | with_unfolding_all rfl) only [Wz, ptrTo, sliceTo, dec_f (show ¬ b.m ≠ 0 by omega), s2]
            exact done
          · simp (disch := first | omega | (simp only [Wx]; done) | (simp only [Wy]; done) | (simp only [Wv]; omega) | with_unfolding_all rfl) only [Wz, ptrTo, sliceTo, dec_t (show b.m ≠ 0 from hm2), ga, gbC]
            refine rcompat_w _ _ ?_
            rw [P.cm hm hm2]
            simp (disch := first | omega | (simp only [Wx]; done) | (simp only [Wy]; done) | (simp only [Wv]; omega) | with_unfolding_all rfl) only [Wz, ptrTo, sliceTo, s2]
            exact done
      · simp (disch := first | omega | (simp only [Wx]; done) | (simp only [Wy]; done) | (simp only [Wv]; omega) | with_unfolding_all rfl) only [Wz, ptrTo, sliceTo, dec_f hs, ga]
        refine rholds_w a ?_
        by_cases hm : a.m = 0
        · obtain ⟨bm, bs⟩ := P.ord hm
          simp (disch := first | omega | (simp only [Wx]; done) | (simp only [Wy]; done) | (simp only [Wv]; omega) | with_unfolding_all rfl) only [Wz, ptrTo, sliceTo, dec_f (show ¬ a.m ≠ 0 by omega), gbC]
          refine rholds_w b ?_
          simp (disch := first | omega | (simp only [Wx]; done) | (simp only [Wy]; done) | (simp only [Wv]; omega) | with_unfolding_all rfl) only [Wz, ptrTo, sliceTo, dec_f (show ¬ b.m ≠ 0 by omega), ga, gbC, lt_f (show a.s ≤ b.s by omega)]
          refine rholds_w a ?_
          simp (disch := first | omega | (simp only [Wx]; done) | (simp only [Wy]; done) | (simp only [Wv]; omega) | with_unfolding_all rfl) only [Wz, ptrTo, sliceTo, dec_f (show ¬ a.m ≠ 0 by omega), s2]
          exact done
        · simp (disch := first | omega | (simp only [Wx]; done) | (simp only [Wy]; done) | (simp only [Wv]; omega) | with_unfolding_all rfl) only [Wz, ptrTo, sliceTo, dec_t (show a.m ≠ 0 from hm), ga]
          refine rholds_w a ?_
          simp (disch := first | omega | (simp only [Wx]; done) | (simp only [Wy]; done) | (simp only [Wv]; omega) | with_unfolding_all rfl) only [Wz, ptrTo, sliceTo, dec_t (show a.m ≠ 0 from hm), gbC]
          refine rholds_w b ?_
          by_cases hm2 : b.m = 0
          · simp (disch := first | omega | (simp only [Wx]; done) | (simp only [Wy]; done) | (simp only [Wv]; omega) | with_unfolding_all rfl) only [Wz, ptrTo, sliceTo, dec_f (show ¬ b.m ≠ 0 by omega), s2]
            exact done
          · simp (disch := first | omega | (simp only [Wx]; done) | (simp only [Wy]; done) | (simp only [Wv]; omega) | with_unfolding_all rfl) only [Wz, ptrTo, sliceTo, dec_t (show b.m ≠ 0 from hm2), ga, gbC]
            refine rcompat_w _ _ ?_
            rw [P.cm hm hm2]
            simp (disch := first | omega | (simp only [Wx]; done) | (simp only [Wy]; done) | (simp only [Wv]; omega) | with_unfolding_all rfl) only [Wz, ptrTo, sliceTo, s2]
            exact done
    · have hki : k = i := by omega
      subst hki
      simp (disch := first | omega | (simp only [Wx]; done) | (simp only [Wy]; done) | (simp only [Wv]; omega) | with_unfolding_all rfl) only [Wz, ptrTo, sliceTo, s1, s2]
      exact ⟨_, by omega, k + 1, rfl, by omega, rfl, (le1.trans leB).trans le2⟩
  · have hil : i = Q.length := by omega
    subst hil
    simp (disch := first | omega | (simp only [Wx]; done) | (simp only [Wy]; done) | (simp only [Wv]; omega) | with_unfolding_all rfl) only [Wz, ptrTo, sliceTo, rs_22_2, s1, gA, hq1.len]
    exact hk h1 (le_hA.trans le1)
end Go.Proofs

namespace Go.Proofs
open Go.Vai Go.Clashes
def sumQ (K : List HE) : Nat := (K.map fun e => e.Q.length).sum
theorem sumQ_ids (M : List HE) : (idsM M).length = sumQ M := by
  unfold idsM sumQ
  rw [List.length_flatMap]
  congr 1
  exact List.map_congr_left fun e _ => by simp
theorem sumQ_told {h : Heap} {M : List HE} {clock : Nat} (o : MapOk M clock) {v : Value} {K : List HE} (t : Told h M v K) : sumQ K = sumQ M := by
  let f : Int × Int → Nat := fun n => ((M.find? fun e => decide (nmOf e = n)).map fun e => e.Q.length).getD 0
  have hM : ∀ e ∈ M, f (nmOf e) = e.Q.length := by
    intro e he
    show ((M.find? fun x => decide (nmOf x = nmOf e)).map fun e => e.Q.length).getD 0 = _
    cases hf : M.find? fun x => decide (nmOf x = nmOf e) with
    | none =>
      rw [List.find?_eq_none] at hf
      have := hf e he
      simp at this
    | some x =>
      have h1 := List.find?_some hf
      have h2 := List.mem_of_find?_eq_some hf
      have h3 : nmOf x = nmOf e := by simpa using h1
      rw [o.uniq h2 he (congrArg Prod.fst h3) (congrArg Prod.snd h3)]; rfl
  have hK : ∀ k ∈ K, f (nmOf k) = k.Q.length := by
    intro k hk
    obtain ⟨e, he, se⟩ := (t.each k hk).1
    have : nmOf k = nmOf e := Prod.ext se.1 se.2.1
    rw [this, hM e he, se.2.2.2]
  have e1 : K.map (fun e => e.Q.length) = (K.map nmOf).map f := by
    rw [List.map_map]; exact List.map_congr_left fun k hk => (hK k hk).symm
  have e2 : M.map (fun e => e.Q.length) = (M.map nmOf).map f := by
    rw [List.map_map]; exact List.map_congr_left fun k hk => (hM k hk).symm
  unfold sumQ
  rw [e1, e2]
  exact (t.perm.map f).sum_nat
theorem sumQ_take {K : List HE} {k : Nat} {e : HE} (hk : K[k]? = some e) : sumQ (K.take (k + 1)) = sumQ (K.take k) + e.Q.length := by
  unfold sumQ
  rw [List.take_add_one, hk]
  simp
theorem bin_neNt {β : Type} {fl : β} (cn : Bool) (a b c d : Int) (h : Heap) (κ : Value → Heap → β) (e : a = c ∧ b = d) : binB fl Tryz.prog .neq 24 cn false (.agg ⟨[.int .i64 a, .int .i64 b]⟩) (.agg ⟨[.int .i64 c, .int .i64 d]⟩) h κ = κ (.bool false) h := by
  rw [bin_neN, dec_t e]; rfl
theorem ldHs {h : Heap} {v : Value} {K : List HE} (hs : Sl encH h v K) (i : Nat) {e : HE} (hp : K[i]? = some e) (hq : slV e.q = e.q) :
    ∃ b o, b < h.nx ∧ (∀ (β : Type) (fl : β) (h' : Heap) (κ : Value → Heap → β), indexAddrS fl 4 v (.int .i64 (i : Int)) h' κ = κ (.pointer (some ⟨b, o, none⟩)) h') ∧
      ∀ h', Le h h' → ((∀ (β : Type) (fl : β) (κ : List Value → β), ldA fl (h'.bl.get b) o 2 κ = κ [.int .i64 e.t, .int .i64 e.r]) ∧
      (∀ (β : Type) (fl : β) (κ : List Value → β), ldA fl (h'.bl.get b) o 4 κ = κ [.int .i64 e.t, .int .i64 e.r, e.q, .int .i64 e.w]) ∧
      (∀ (β : Type) (fl : β) (κ : Value → β), ldO fl (h'.bl.get b) o κ = κ (.int .i64 e.t)) ∧
      (∀ (β : Type) (fl : β) (κ : Value → β), ldO fl (h'.bl.get b) (o + 1) κ = κ (.int .i64 e.r)) ∧
      (∀ (β : Type) (fl : β) (κ : Value → β), ldO fl (h'.bl.get b) (o + 2) κ = κ e.q) ∧
      (∀ (β : Type) (fl : β) (κ : Value → β), ldO fl (h'.bl.get b) (o + 3) κ = κ (.int .i64 e.w))) := by
  obtain ⟨b, o, h1, h2, h3, hh⟩ := hs.ld encH_len i hp
  refine ⟨b, o, h1, h2, fun h' l => ?_⟩
  rw [l.get b h1]
  refine ⟨fun β fl κ => ?_, fun β fl κ => ?_, fun β fl κ => ?_, fun β fl κ => ?_, fun β fl κ => ?_, fun β fl κ => ?_⟩
  · have := hh.sub 0 2 (by show 0 + 2 ≤ 4; omega)
    rw [Nat.add_zero] at this
    exact ldA_has this 2 κ rfl
  · rw [ldA_has hh 4 κ rfl]; unfold encH; rw [hq]
  · exact ldO_has (fl := fl) hh 0 κ (by show 0 < 4; omega)
  · exact ldO_has (fl := fl) hh 1 κ (by show 1 < 4; omega)
  · rw [ldO_has (fl := fl) hh 2 κ (by show 2 < 4; omega)]; show κ (slV e.q) = _; rw [hq]
  · exact ldO_has (fl := fl) hh 3 κ (by show 3 < 4; omega)
end Go.Proofs
