/-
  PROVED HERE: a part of the proof, by a calculus of weakest conditions over an abstract heap (K42, K43, K44).
-/
import Derived.Test.YtijmemedhkgplaaGreatKE
import Derived.Test.YtijmemedhkgplaaGreatKF
set_option linter.unusedVariables false
set_option linter.unusedSimpArgs false
set_option maxRecDepth 100000
namespace Go.Proofs
open Go.Vai Go.Clashes
theorem c62a : ∀ i, i < 7 → ∀ j, j < 7 → answersS Tryz.prog 200 62 [.int .i64 (.ofNat i), .int .i64 (.ofNat j)] (.bool (cmp (.ofNat i) (.ofNat j))) = true := by decide +kernel
theorem c62b (n : Nat) (b : Int) : answersS Tryz.prog 200 62 [.int .i64 (.negSucc n), .int .i64 b] (.bool false) = true := by kernel_rfl
theorem c62c (n : Nat) (b : Int) : answersS Tryz.prog 200 62 [.int .i64 (.ofNat (n + 7)), .int .i64 b] (.bool false) = true := by kernel_rfl
theorem c62d : ∀ i, i < 7 → ∀ n : Nat, answersS Tryz.prog 200 62 [.int .i64 (.ofNat i), .int .i64 (.negSucc n)] (.bool false) = true := by
  refine seven ?_ ?_ ?_ ?_ ?_ ?_ ?_ <;> intro n <;> kernel_rfl
theorem c62e : ∀ i, i < 7 → ∀ n : Nat, answersS Tryz.prog 200 62 [.int .i64 (.ofNat i), .int .i64 (.ofNat (n + 7))] (.bool false) = true := by
  refine seven ?_ ?_ ?_ ?_ ?_ ?_ ?_ <;> intro n <;> kernel_rfl
theorem rcompat_w (a b : Int) {h : Heap} {κ : Value → Heap → Prop} (hk : κ (.bool (cmp a b)) h) : CallW Tryz.prog 62 [.int .i64 a, .int .i64 b] h κ :=
  two_modes mixed (F := fun a b => .bool (cmp a b)) c62a (fun n b => by rw [cmp_l (kn_neg n)]; exact c62b n b) (fun n b => by rw [cmp_l (kn_big n)]; exact c62c n b) (fun i hi n => by rw [cmp_r (kn_neg n)]; exact c62d i hi n) (fun i hi n => by rw [cmp_r (kn_big n)]; exact c62e i hi n) a b hk
theorem rholds_w (r : R5) {h : Heap} {κ : Value → Heap → Prop} (hk : κ (.bool (decide (r.m ≠ 0))) h) : CallW Tryz.prog 61 [aggR r] h κ := by
  refine pureW (v := .bool (decide (r.m ≠ 0))) rfl rfl (callW_of mixed ?_) hk
  rw [rs_61]
  simp(disch:=first|omega|(simp only[Wx];done)|(simp only[Wy];done)|(simp only[Wv];omega)|with_unfolding_all rfl)only[Wz,ptrTo,sliceTo, enc5]
  simp
theorem rwaits_w (r : R5) {h : Heap} {κ : Value → Heap → Prop} (hk : κ (.bool (decide (0 < r.s))) h) : CallW Tryz.prog 60 [aggR r] h κ := by
  refine pureW (v := .bool (decide (0 < r.s))) rfl rfl (callW_of mixed ?_) hk
  rw [rs_60]
  simp(disch:=first|omega|(simp only[Wx];done)|(simp only[Wy];done)|(simp only[Wv];omega)|with_unfolding_all rfl)only[Wz,ptrTo,sliceTo, enc5]
theorem rup_w (t r' : Int) (q : Value) (w : Int) (Q : List R5) (h : Heap) (κ : Value → Heap → Prop) (hq : Sl enc5 h q Q) (hlen : Q.length ≤ 1000000) (hlo : h.lo ≤ h.nx) (hk : ∀ h', Le h h' → κ (.int .i64 (optI (best Q Q.length))) h') :
    CallW Tryz.prog 56 [hdV t r' q w] h κ := by
  obtain ⟨hc, ho⟩ := sl_cells hq
  refine callW_of mixed ?_
  rw [rs_56]
  simp(disch:=first|omega|(simp only[Wx];done)|(simp only[Wy];done)|(simp only[Wv];omega)|with_unfolding_all rfl)only[Wz,ptrTo,sliceTo, hdV]
  obtain ⟨hA, e_hA⟩ : ∃ hA : Heap, hA = ⟨h.nx + 1, (h.bl.upd (h.nx) (cellsO [.int .i64 t, .int .i64 r', q, .int .i64 w] 56 false)), h.lo⟩ := ⟨_, rfl⟩
  have le_hA : Le h hA := by subst e_hA; exact ((Le.refl h).new _)
  have gA : hA.bl.get (h.nx) = some (cellsO [.int .i64 t, .int .i64 r', q, .int .i64 w] 56 false) := by subst e_hA; exact T.get_upd_same _ _ _
  have n_hA : hA.nx = h.nx + 1 := by subst e_hA; rfl
  have l_hA : hA.lo = h.lo := by subst e_hA; rfl
  rw [← e_hA]
  clear e_hA
  refine ⟨fun n l h1 => ∃ i : Nat, slot l 36 = .int .i64 (i : Int) ∧ slot l 33 = .int .i64 (optI (best Q i)) ∧ i ≤ Q.length ∧ n = Q.length - i ∧ Le hA h1, ⟨_, 0, rfl, rfl, Nat.zero_le _, rfl, Le.refl _⟩, ?_⟩
  rintro n l h1 ⟨i, s1, s2, hi, rfl, hle⟩
  have n1 := hle.nx
  have l1 := hle.lo
  have g1 := (hle.get h.nx (by omega)).trans gA
  have hq1 := hq.le (le_hA.trans hle)
  by_cases hlt : i < Q.length
  · obtain ⟨p, hp⟩ : ∃ p, Q[i]? = some p := ⟨_, List.getElem?_eq_getElem hlt⟩
    obtain ⟨b, o, hb, hat, hld⟩ := ld5 hq1 i hp
    have ebest : best Q (i + 1) = if (upR p && lessQ Q p (best Q i)) = true then some i else best Q i := by
      show (match Q[i]? with | some r => _ | none => _) = _
      rw [hp]
    simp(disch:=first|omega|(simp only[Wx];done)|(simp only[Wy];done)|(simp only[Wv];omega)|with_unfolding_all rfl)only[Wz,ptrTo,sliceTo, rs_56_1, s1, g1, hq1.len]
    refine ⟨fun l' h' => slot l' 28 = .int .i64 (optI (best Q (i + 1))) ∧ Le hA h', ?_, ?_⟩
    · simp(disch:=first|omega|(simp only[Wx];done)|(simp only[Wy];done)|(simp only[Wv];omega)|with_unfolding_all rfl)only[Wz,ptrTo,sliceTo, rs_56_0, s1, s2, g1, hat, hld, enc5]
      obtain ⟨hB, eB⟩ : ∃ hB : Heap, hB = ⟨h1.nx + 1, h1.bl.upd h1.nx (blkR p), h1.lo⟩ := ⟨_, rfl⟩
      have hleB : Le h1 hB := by subst eB; exact (Le.refl h1).new _
      have gB : hB.bl.get h1.nx = some (blkR p) := by subst eB; exact T.get_upd_same _ _ _
      have gB1 := (hleB.get h.nx (by omega)).trans g1
      have nB : hB.nx = h1.nx + 1 := by subst eB; rfl
      have lB : hB.lo = h1.lo := by subst eB; rfl
      rw [← eB]
      clear eB
      refine rholds_w p ?_
      by_cases hm : p.m = 0
      · simp(disch:=first|omega|(simp only[Wx];done)|(simp only[Wy];done)|(simp only[Wv];omega)|with_unfolding_all rfl)only[Wz,ptrTo,sliceTo, dec_f (show ¬ p.m ≠ 0 by omega), s2]
        refine ⟨?_, hle.trans hleB⟩
        rw [ebest, show upR p = false by simp [upR, hm]]; simp
      · simp(disch:=first|omega|(simp only[Wx];done)|(simp only[Wy];done)|(simp only[Wv];omega)|with_unfolding_all rfl)only[Wz,ptrTo,sliceTo, dec_t (show p.m ≠ 0 from hm), gB]
        refine rwaits_w p ?_
        by_cases hs0 : 0 < p.s
        · have hu : upR p = true := (upR_iff p).2 ⟨hm, hs0⟩
          cases hbst : best Q i with
          | none =>
            simp(disch:=first|omega|(simp only[Wx];done)|(simp only[Wy];done)|(simp only[Wv];omega)|with_unfolding_all rfl)only[Wz,ptrTo,sliceTo, dec_t hs0, s2, optI, lt_t (show (-1 : Int) < 0 by decide), hbst]
            refine ⟨?_, hle.trans hleB⟩
            rw [ebest, hu, hbst]; rfl
          | some k =>
            obtain ⟨hkl, pk, hpk, _⟩ := best_lt Q i k hbst
            obtain ⟨b', o', hb', hat', hld'⟩ := ld5 (hq1.le hleB) k hpk
            have eless : lessQ Q p (some k) = decide (p.s < pk.s) := by simp only [lessQ, hpk]
            simp(disch:=first|omega|(simp only[Wx];done)|(simp only[Wy];done)|(simp only[Wv];omega)|with_unfolding_all rfl)only[Wz,ptrTo,sliceTo, dec_t hs0, s2, optI, lt_f (show (0 : Int) ≤ (k : Int) by omega), hbst, gB, gB1, hat', hld']
            by_cases hs : p.s < pk.s
            · simp(disch:=first|omega|(simp only[Wx];done)|(simp only[Wy];done)|(simp only[Wv];omega)|with_unfolding_all rfl)only[Wz,ptrTo,sliceTo, dec_t hs]
              refine ⟨?_, hle.trans hleB⟩
              rw [ebest, hu, hbst, eless, dec_t hs]; rfl
            · simp(disch:=first|omega|(simp only[Wx];done)|(simp only[Wy];done)|(simp only[Wv];omega)|with_unfolding_all rfl)only[Wz,ptrTo,sliceTo, dec_f hs]
              refine ⟨?_, hle.trans hleB⟩
              rw [ebest, hu, hbst, eless, dec_f hs]
              first | rfl | (rw [s2, hbst]; rfl)
        · simp(disch:=first|omega|(simp only[Wx];done)|(simp only[Wy];done)|(simp only[Wv];omega)|with_unfolding_all rfl)only[Wz,ptrTo,sliceTo, dec_f hs0, s2]
          refine ⟨?_, hle.trans hleB⟩
          rw [ebest, show upR p = false by simp [upR, hs0]]; simp
    · rintro l' h' ⟨k1, k2⟩
      exact ⟨_, by omega, i + 1, rfl, k1, by omega, rfl, k2⟩
  · have hil : i = Q.length := by omega
    subst hil
    simp(disch:=first|omega|(simp only[Wx];done)|(simp only[Wy];done)|(simp only[Wv];omega)|with_unfolding_all rfl)only[Wz,ptrTo,sliceTo, rs_56_1, s1, s2, g1, hq1.len]
    exact hk h1 (le_hA.trans hle)
theorem find_first {Q : List R5} {F : R5 → Bool} {i : Nat} {p : R5} (hp : Q[i]? = some p) (hF : F p = true) (hn : ∀ (j : Nat) (q : R5), j < i → Q[j]? = some q → F q = false) : Q.findIdx? F = some i := by
  rcases find_cases Q F with ⟨e, h⟩ | ⟨k, q, e, hq, h1, h2⟩
  · have := h p (List.mem_of_getElem? hp)
    rw [hF] at this; cases this
  · rw [e]
    rcases Nat.lt_trichotomy k i with h3 | h3 | h3
    · have := hn k q h3 hq; rw [h1] at this; cases this
    · rw [h3]
    · have := h2 i p h3 hp; rw [hF] at this; cases this
theorem find_no {Q : List R5} {F : R5 → Bool} (hn : ∀ (j : Nat) (q : R5), j < Q.length → Q[j]? = some q → F q = false) : Q.findIdx? F = none := by
  rcases find_cases Q F with ⟨e, h⟩ | ⟨k, q, e, hq, h1, h2⟩
  · exact e
  · have := hn k q (List.getElem?_eq_some_iff.1 hq).1 hq
    rw [h1] at this; cases this
theorem rwaiting_w (t r' : Int) (q : Value) (w : Int) (Q : List R5) (h : Heap) (κ : Value → Heap → Prop) (hq : Sl enc5 h q Q) (hlen : Q.length ≤ 1000000) (hlo : h.lo ≤ h.nx) (hk : ∀ h', Le h h' → κ (.int .i64 (optI (Q.findIdx? fun r => decide (r.m = 0)))) h') :
    CallW Tryz.prog 57 [hdV t r' q w] h κ := by
  obtain ⟨hc, ho⟩ := sl_cells hq
  refine callW_of mixed ?_
  rw [rs_57]
  simp(disch:=first|omega|(simp only[Wx];done)|(simp only[Wy];done)|(simp only[Wv];omega)|with_unfolding_all rfl)only[Wz,ptrTo,sliceTo, hdV]
  obtain ⟨hA, e_hA⟩ : ∃ hA : Heap, hA = ⟨h.nx + 1, (h.bl.upd (h.nx) (cellsO [.int .i64 t, .int .i64 r', q, .int .i64 w] 56 false)), h.lo⟩ := ⟨_, rfl⟩
  have le_hA : Le h hA := by subst e_hA; exact ((Le.refl h).new _)
  have gA : hA.bl.get (h.nx) = some (cellsO [.int .i64 t, .int .i64 r', q, .int .i64 w] 56 false) := by subst e_hA; exact T.get_upd_same _ _ _
  have n_hA : hA.nx = h.nx + 1 := by subst e_hA; rfl
  have l_hA : hA.lo = h.lo := by subst e_hA; rfl
  rw [← e_hA]
  clear e_hA
  have hqA := hq.le le_hA
  refine ⟨fun n l h1 => ∃ i : Nat, slot l 16 = .int .i64 (i : Int) ∧ (∀ (j : Nat) (p : R5), j < i → Q[j]? = some p → decide (p.m = 0) = false) ∧ i ≤ Q.length ∧ n = Q.length - i ∧ HQ hA h1, ⟨_, 0, rfl, fun j p h => (by omega), Nat.zero_le _, rfl, rfl⟩, ?_⟩
  rintro n l h1 ⟨i, s1, hn, hi, rfl, hle⟩
  cases (show hA = h1 from hle)
  by_cases hlt : i < Q.length
  · obtain ⟨p, hp⟩ : ∃ p, Q[i]? = some p := ⟨_, List.getElem?_eq_getElem hlt⟩
    obtain ⟨b, o, hb, hat, hld⟩ := ld5 hqA i hp
    simp(disch:=first|omega|(simp only[Wx];done)|(simp only[Wy];done)|(simp only[Wv];omega)|with_unfolding_all rfl)only[Wz,ptrTo,sliceTo, rs_57_1, s1, gA, hqA.len, rs_57_0, hat, hld, enc5]
    refine rholds_w p ?_
    by_cases hm : p.m = 0
    · simp(disch:=first|omega|(simp only[Wx];done)|(simp only[Wy];done)|(simp only[Wv];omega)|with_unfolding_all rfl)only[Wz,ptrTo,sliceTo, dec_f (show ¬ p.m ≠ 0 by omega)]
      have := hk hA le_hA
      rw [find_first hp (by simp [hm]) hn] at this
      exact this
    · simp(disch:=first|omega|(simp only[Wx];done)|(simp only[Wy];done)|(simp only[Wv];omega)|with_unfolding_all rfl)only[Wz,ptrTo,sliceTo, dec_t (show p.m ≠ 0 from hm)]
      refine ⟨_, by omega, i + 1, rfl, fun j q hj hq => ?_, by omega, rfl, rfl⟩
      by_cases hji : j = i
      · subst hji; rw [hp] at hq; cases hq; simp [hm]
      · exact hn j q (by omega) hq
  · have hil : i = Q.length := by omega
    subst hil
    simp(disch:=first|omega|(simp only[Wx];done)|(simp only[Wy];done)|(simp only[Wv];omega)|with_unfolding_all rfl)only[Wz,ptrTo,sliceTo, rs_57_1, s1, gA, hqA.len]
    have := hk hA le_hA
    rw [find_no hn] at this
    exact this
def fitsN (Q : List R5) (m but : Int) : Nat → Bool
  | 0 => true
  | n + 1 => fitsN Q m but n && (match Q[n]? with | some p => decide ((n : Int) = but) || decide (p.m = 0) || cmp p.m m | none => true)
theorem fitsN_false {Q : List R5} {m but : Int} {n : Nat} (h : fitsN Q m but n = false) : ∀ k, n ≤ k → fitsN Q m but k = false := by
  intro k hk
  induction k with
  | zero => have : n = 0 := by omega
            subst this; exact h
  | succ k ih =>
    by_cases e : n = k + 1
    · subst e; exact h
    · unfold fitsN; rw [ih (by omega)]; rfl
theorem fitsN_iff {Q : List R5} {m but : Int} : ∀ n, fitsN Q m but n = true ↔ ∀ (j : Nat) (p : R5), j < n → Q[j]? = some p → (j : Int) ≠ but → p.m ≠ 0 → cmp p.m m = true := by
  intro n
  induction n with
  | zero => exact ⟨fun _ j p h => (by omega), fun _ => rfl⟩
  | succ n ih =>
    unfold fitsN
    rw [Bool.and_eq_true, ih]
    constructor
    · rintro ⟨h1, h2⟩ j p hj hp hb hm
      by_cases e : j = n
      · subst e; rw [hp] at h2; simpa [hb, hm] using h2
      · exact h1 j p (by omega) hp hb hm
    · intro h
      refine ⟨fun j p hj hp hb hm => h j p (by omega) hp hb hm, ?_⟩
      split
      · rename_i p hp
        by_cases hb : (n : Int) = but
        · simp [hb]
        · by_cases hm : p.m = 0
          · simp [hm]
          · simp [h n p (by omega) hp hb hm]
      · rfl
theorem fitsN_eq {Q : List R5} (hp : Q.Pairwise Beside) {i : Nat} {r : R5} (hr : Q[i]? = some r) : fitsN Q r.w i Q.length = fitsQ Q r := by
  rw [Bool.eq_iff_iff, fitsN_iff, fitsQ_iff]
  constructor
  · intro h o ho h1 h2
    obtain ⟨j, hj⟩ := List.getElem?_of_mem ho
    refine h j o (List.getElem?_eq_some_iff.1 hj).1 hj (fun e => h1 ?_) h2
    have : j = i := by omega
    subst this; rw [hr] at hj; cases hj; rfl
  · intro h j p hj hpj hb hm
    exact h p (List.mem_of_getElem? hpj) (fun e => hb (by rw [ids_at hp hpj hr e])) hm
theorem rfits_w (t r' : Int) (q : Value) (w m but : Int) (Q : List R5) (h : Heap) (κ : Value → Heap → Prop) (hq : Sl enc5 h q Q) (hlen : Q.length ≤ 1000000) (hlo : h.lo ≤ h.nx) (hk : ∀ h', Le h h' → κ (.bool (fitsN Q m but Q.length)) h') :
    CallW Tryz.prog 58 [hdV t r' q w, .int .i64 m, .int .i64 but] h κ := by
  obtain ⟨hc, ho⟩ := sl_cells hq
  refine callW_of mixed ?_
  rw [rs_58]
  simp(disch:=first|omega|(simp only[Wx];done)|(simp only[Wy];done)|(simp only[Wv];omega)|with_unfolding_all rfl)only[Wz,ptrTo,sliceTo, hdV]
  obtain ⟨hA, e_hA⟩ : ∃ hA : Heap, hA = ⟨h.nx + 1, (h.bl.upd (h.nx) (cellsO [.int .i64 t, .int .i64 r', q, .int .i64 w] 56 false)), h.lo⟩ := ⟨_, rfl⟩
  have le_hA : Le h hA := by subst e_hA; exact ((Le.refl h).new _)
  have gA : hA.bl.get (h.nx) = some (cellsO [.int .i64 t, .int .i64 r', q, .int .i64 w] 56 false) := by subst e_hA; exact T.get_upd_same _ _ _
  have n_hA : hA.nx = h.nx + 1 := by subst e_hA; rfl
  have l_hA : hA.lo = h.lo := by subst e_hA; rfl
  rw [← e_hA]
  clear e_hA
  have hqA := hq.le le_hA
  have hk := hk hA le_hA
  refine ⟨fun n l h1 => ∃ i : Nat, slot l 30 = .int .i64 (i : Int) ∧ fitsN Q m but i = true ∧ i ≤ Q.length ∧ n = Q.length - i ∧ HQ hA h1, ⟨_, 0, rfl, rfl, Nat.zero_le _, rfl, rfl⟩, ?_⟩
  rintro n l h1 ⟨i, s1, hn, hi, rfl, hle⟩
  cases (show hA = h1 from hle)
  by_cases hlt : i < Q.length
  · obtain ⟨p, hp⟩ : ∃ p, Q[i]? = some p := ⟨_, List.getElem?_eq_getElem hlt⟩
    obtain ⟨b, o, hb, hat, hld⟩ := ld5 hqA i hp
    have estep : fitsN Q m but (i + 1) = (fitsN Q m but i && (decide ((i : Int) = but) || decide (p.m = 0) || cmp p.m m)) := by
      show (fitsN Q m but i && (match Q[i]? with | some p => _ | none => _)) = _
      rw [hp]
    have next : (decide ((i : Int) = but) || decide (p.m = 0) || cmp p.m m) = true → fitsN Q m but (i + 1) = true := fun h => by rw [estep, hn, h]; rfl
    simp(disch:=first|omega|(simp only[Wx];done)|(simp only[Wy];done)|(simp only[Wv];omega)|with_unfolding_all rfl)only[Wz,ptrTo,sliceTo, rs_58_1, s1, gA, hqA.len]
    by_cases hbut : (i : Int) = but
    · simp(disch:=first|omega|(simp only[Wx];done)|(simp only[Wy];done)|(simp only[Wv];omega)|with_unfolding_all rfl)only[Wz,ptrTo,sliceTo, rs_58_0, s1, dec_t hbut]
      exact ⟨_, by omega, i + 1, rfl, next (by simp [hbut]), by omega, rfl, rfl⟩
    · simp(disch:=first|omega|(simp only[Wx];done)|(simp only[Wy];done)|(simp only[Wv];omega)|with_unfolding_all rfl)only[Wz,ptrTo,sliceTo, rs_58_0, s1, dec_f hbut, gA, hat, hld, enc5]
      refine rholds_w p ?_
      by_cases hm : p.m = 0
      · simp(disch:=first|omega|(simp only[Wx];done)|(simp only[Wy];done)|(simp only[Wv];omega)|with_unfolding_all rfl)only[Wz,ptrTo,sliceTo, dec_f (show ¬ p.m ≠ 0 by omega), s1]
        exact ⟨_, by omega, i + 1, rfl, next (by simp [hm]), by omega, rfl, rfl⟩
      · simp(disch:=first|omega|(simp only[Wx];done)|(simp only[Wy];done)|(simp only[Wv];omega)|with_unfolding_all rfl)only[Wz,ptrTo,sliceTo, dec_t (show p.m ≠ 0 from hm), gA, s1, hat, hld]
        refine rcompat_w _ _ ?_
        cases hcm : cmp p.m m with
        | true =>
          simp(disch:=first|omega|(simp only[Wx];done)|(simp only[Wy];done)|(simp only[Wv];omega)|with_unfolding_all rfl)only[Wz,ptrTo,sliceTo, s1]
          exact ⟨_, by omega, i + 1, rfl, next (by simp [hcm]), by omega, rfl, rfl⟩
        | false =>
          simp(disch:=first|omega|(simp only[Wx];done)|(simp only[Wy];done)|(simp only[Wv];omega)|with_unfolding_all rfl)only[Wz,ptrTo,sliceTo]
          rw [fitsN_false (n := i + 1) (by rw [estep, hcm]; simp [hbut, hm]) Q.length (by omega)] at hk
          exact hk
  · have hil : i = Q.length := by omega
    subst hil
    simp(disch:=first|omega|(simp only[Wx];done)|(simp only[Wy];done)|(simp only[Wv];omega)|with_unfolding_all rfl)only[Wz,ptrTo,sliceTo, rs_58_1, s1, gA, hqA.len]
    rw [hn] at hk
    exact hk
end Go.Proofs

namespace Go.Proofs
open Go.Vai Go.Clashes
theorem repeat0 {zs : List Value} (κ : List Value → Prop) : fillB False [] [] (repeatL zs 0) κ = κ [] := id rfl
theorem rcopied_w (t r : Int) (q : Value) (w : Int) (Q : List R5) (h : Heap) (κ : Value → Heap → Prop) (hq : Sl enc5 h q Q) (hlen : Q.length ≤ 100000) (hlo : h.lo ≤ h.nx) (hk : ∀ q' h', OwnR h h' q' Q → Le h h' → κ (hdV t r q' w) h') :
    CallW Tryz.prog 55 [hdV t r q w] h κ := by
  obtain ⟨qx, qc, rfl, _⟩ := id hq
  refine callW_of mixed ?_
  rw [rs_55]
  simp(disch:=first|omega|(simp only[Wx];done)|(simp only[Wy];done)|(simp only[Wv];omega)|with_unfolding_all rfl)only[Wz,ptrTo,sliceTo, hdV, repeat0]
  obtain ⟨hA, e_hA⟩ : ∃ hA : Heap, hA = ⟨h.nx + 1 + 1 + 1, (((h.bl.upd (h.nx) (cellsO [.int .i64 t, .int .i64 r, .slice qx Q.length qc, .int .i64 w] 56 false)).upd (h.nx + 1) (cellsO [.int .i64 0, .int .i64 0, .slice none 0 0, .int .i64 0] 56 false)).upd (h.nx + 1 + 1) (cellsO [] 47 false)), h.lo⟩ := ⟨_, rfl⟩
  have le_hA : Le h hA := by subst e_hA; exact ((((Le.refl h).new _).new _).new _)
  have g1 : hA.bl.get (h.nx) = some (cellsO [.int .i64 t, .int .i64 r, .slice qx Q.length qc, .int .i64 w] 56 false) := by subst e_hA; exact (T.get_updne _ _ (by omega)).trans ((T.get_updne _ _ (by omega)).trans (T.get_upd_same _ _ _))
  have g3 : hA.bl.get (h.nx + 1) = some (cellsO [.int .i64 0, .int .i64 0, .slice none 0 0, .int .i64 0] 56 false) := by subst e_hA; exact (T.get_updne _ _ (by omega)).trans (T.get_upd_same _ _ _)
  have g5 : hA.bl.get (h.nx + 1 + 1) = some (cellsO [] 47 false) := by subst e_hA; exact T.get_upd_same _ _ _
  have n_hA : hA.nx = h.nx + 1 + 1 + 1 := by subst e_hA; rfl
  have l_hA : hA.lo = h.lo := by subst e_hA; rfl
  rw [← e_hA]
  clear e_hA
  refine append_in (enc := enc5) (a := h) (L := []) (M := Q) enc5_len enc5_one (by decide) (by decide) (.inl ⟨rfl, .inr ⟨_, _, rfl⟩⟩) (hq.le le_hA) le_hA (by simp; omega) (by omega) _ ?_
  intro v' h' ho' hle' _ hn2 hl' hsame
  have g1 := (hsame h.nx (by omega) (by rw [g1]; exact cells_op)).trans g1
  have g3 := (hsame (h.nx + 1) (by omega) (by rw [g3]; exact cells_op)).trans g3
  rw [List.nil_append] at ho'
  obtain ⟨qx', qc', rfl, _⟩ := id ho'.sl
  simp(disch:=first|omega|(simp only[Wx];done)|(simp only[Wy];done)|(simp only[Wv];omega)|with_unfolding_all rfl)only[Wz,ptrTo,sliceTo, g1]
  simp(disch:=first|omega|(simp only[Wx];done)|(simp only[Wy];done)|(simp only[Wv];omega)|with_unfolding_all rfl)only[Wz,ptrTo,sliceTo, g3]
  refine hk _ _ ?_ ?_
  · refine Own.put (Own.put ho' (by rw [g1]; exact cells_op) _) ?_ _
    show (h'.bl.upd h.nx _).get (h.nx + 1) ≠ _
    rw [T.get_updne _ _ (by omega), g3]; exact cells_op
  · exact (hle'.set (b := h.nx) (by omega) _).set (b := h.nx + 1) (by omega) _
theorem firstQ_of {Q : List R5} : firstQ Q = (match best Q Q.length with | some b => some b | none => Q.findIdx? (fun r => decide (r.m = 0))) := rfl
end Go.Proofs

namespace Go.Proofs
open Go.Vai Go.Clashes
theorem ldHs {h : Heap} {v : Value} {K : List HE} (hs : Sl encH h v K) (i : Nat) {e : HE} (hp : K[i]? = some e) (hq : slV e.q = e.q) :
    ∃ b o, b < h.nx ∧ (∀ (β : Type) (fl : β) (h' : Heap) (κ : Value → Heap → β), indexAddrS fl 4 v (.int .i64 (i : Int)) h' κ = κ (.pointer (some ⟨b, o, none⟩)) h') ∧
      ∀ h', Le h h' → ((∀ (β : Type) (fl : β) (κ : List Value → β), ldA fl (h'.bl.get b) o 2 κ = κ [.int .i64 e.t, .int .i64 e.r]) ∧
      (∀ (β : Type) (fl : β) (κ : List Value → β), ldA fl (h'.bl.get b) o 4 κ = κ [.int .i64 e.t, .int .i64 e.r, e.q, .int .i64 e.w]) ∧
      (∀ (β : Type) (fl : β) (κ : Value → β), ldO fl (h'.bl.get b) o κ = κ (.int .i64 e.t)) ∧
      (∀ (β : Type) (fl : β) (κ : Value → β), ldO fl (h'.bl.get b) (o + 1) κ = κ (.int .i64 e.r)) ∧
      (∀ (β : Type) (fl : β) (κ : Value → β), ldO fl (h'.bl.get b) (o + 2) κ = κ e.q) ∧
      (∀ (β : Type) (fl : β) (κ : Value → β), ldO fl (h'.bl.get b) (o + 3) κ = κ (.int .i64 e.w))) := by
  obtain ⟨b, o, h1, h2, h3, hh⟩ := hs.ld encH_len i hp
  refine ⟨b, o, h1, h2, fun h' l => ?_⟩
  rw [l.get b h1]
  refine ⟨fun β fl κ => ?_, fun β fl κ => ?_, fun β fl κ => ?_, fun β fl κ => ?_, fun β fl κ => ?_, fun β fl κ => ?_⟩
  · have := hh.sub 0 2 (by show 0 + 2 ≤ 4; omega)
    rw [Nat.add_zero] at this
    exact ldA_has this 2 κ rfl
  · rw [ldA_has hh 4 κ rfl]; unfold encH; rw [hq]
  · exact ldO_has (fl := fl) hh 0 κ (by show 0 < 4; omega)
  · exact ldO_has (fl := fl) hh 1 κ (by show 1 < 4; omega)
  · rw [ldO_has (fl := fl) hh 2 κ (by show 2 < 4; omega)]; show κ (slV e.q) = _; rw [hq]
  · exact ldO_has (fl := fl) hh 3 κ (by show 3 < 4; omega)
end Go.Proofs
