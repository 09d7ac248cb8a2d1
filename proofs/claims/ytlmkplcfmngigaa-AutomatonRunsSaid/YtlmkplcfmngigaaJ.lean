/-
  PROVED HERE: a part of the proof, by a calculus of weakest conditions over an abstract heap (J1, J2, J3, J4, J5, J6, J7, J8, J9).
-/
import Derived.Test.YtlmkplcfmngigaaF
import Derived.Test.YtlmkplcfmngigaaJN
set_option linter.unusedVariables false
set_option linter.unusedSimpArgs false
set_option maxRecDepth 100000
namespace Go.Proofs
open Go.Vai Go.Clashes
/-! ## automaton: the small parts -/
def mine (x t r : Int) (p : H4) : Bool := decide (p.x = x) && decide (p.t = t ∧ p.r = r)
def modeA (L : List H4) (x t r : Int) : Int := match L.find? (mine x t r) with | some p => p.m | none => 0
def cmpA (p q : H4) : Int := if cmpI p.x q.x = 0 then nmCmp p.t p.r q.t q.r else cmpI p.x q.x
def askA (t r m : Int) : Bool := okN t r && kn m && decide (m ≠ 0)
def badH (p q : H4) : Bool := decide (p.t = q.t ∧ p.r = q.r) && (decide (p.x ≠ q.x) && !cmp p.m q.m)
theorem acmp_w (p q : H4) {h : Heap} {κ : Value → Heap → Prop} (hk : κ (.int .i64 (cmpA p q)) h) : CallW Try.prog 107 [aggH p, aggH q] h κ := by
  refine pureW (v := .int .i64 (cmpA p q)) rfl rfl (callW_of mixed ?_) hk
  rw [rs_107]
  simp (disch := first | omega | (simp only [Wx]; done) | (simp only [Wy]; done) | (simp only [Wv]; omega) | with_unfolding_all rfl) only [Wz, ptrTo, sliceTo, aggH, enc4]
  refine compareI_w _ _ ?_
  simp (disch := first | omega | (simp only [Wx]; done) | (simp only [Wy]; done) | (simp only [Wv]; omega) | with_unfolding_all rfl) only [Wz, ptrTo, sliceTo]
  refine nmCompare_w _ _ _ _ ?_
  simp (disch := first | omega | (simp only [Wx]; done) | (simp only [Wy]; done) | (simp only [Wv]; omega) | with_unfolding_all rfl) only [Wz, ptrTo, sliceTo]
  refine or_w _ _ _ _ (Sl.new (L := [cmpI p.x q.x, nmCmp p.t p.r q.t q.r]) (e := 3) (op := false) (Nat.lt_succ_self _) (T.get_upd_same _ _ _) _) _ ?_
  rfl
theorem askedA_w (t r m : Int) {h : Heap} {κ : Value → Heap → Prop} (hk : κ (.bool (askA t r m)) h) : CallW Try.prog 108 [nmV t r, .int .i64 m] h κ := by
  refine pureW (v := .bool (askA t r m)) rfl rfl (callW_of mixed ?_) hk
  rw [rs_108]
  simp (disch := first | omega | (simp only [Wx]; done) | (simp only [Wy]; done) | (simp only [Wv]; omega) | with_unfolding_all rfl) only [Wz, ptrTo, sliceTo, nmV]
  refine check_w t r ?_
  cases hok : okN t r with
  | false =>
    simp (disch := first | omega | (simp only [Wx]; done) | (simp only [Wy]; done) | (simp only [Wv]; omega) | with_unfolding_all rfl) only [Wz, ptrTo, sliceTo, dec_f (show ¬ (2 : Int) = 0 by decide), Bool.false_eq_true, if_false]
    simp [askA, hok]
  | true =>
    by_cases h0 : m = 0
    · simp (disch := first | omega | (simp only [Wx]; done) | (simp only [Wy]; done) | (simp only [Wv]; omega) | with_unfolding_all rfl) only [Wz, ptrTo, sliceTo, if_true, dec_t h0]
      simp [askA, hok, h0]
    · simp (disch := first | omega | (simp only [Wx]; done) | (simp only [Wy]; done) | (simp only [Wv]; omega) | with_unfolding_all rfl) only [Wz, ptrTo, sliceTo, if_true, dec_f h0]
      refine known_w m ?_
      simp [askA, hok, h0]
theorem clashA_w (p q : H4) {h : Heap} {κ : Value → Heap → Prop} (hk : κ (.bool (badH p q)) h) : CallW Try.prog 110 [aggH p, aggH q] h κ := by
  refine pureW (v := .bool (badH p q)) rfl rfl (callW_of mixed ?_) hk
  rw [rs_110]
  by_cases h1 : p.t = q.t ∧ p.r = q.r
  · by_cases h2 : p.x = q.x
    · simp (disch := first | omega | (simp only [Wx]; done) | (simp only [Wy]; done) | (simp only [Wv]; omega) | with_unfolding_all rfl) only [Wz, ptrTo, sliceTo, aggH, enc4, bin_eq27, dec_t h1, dec_t h2]
      simp [badH, h2]
    · simp (disch := first | omega | (simp only [Wx]; done) | (simp only [Wy]; done) | (simp only [Wv]; omega) | with_unfolding_all rfl) only [Wz, ptrTo, sliceTo, aggH, enc4, bin_eq27, dec_t h1, dec_f h2]
      refine compat_w _ _ ?_
      simp (disch := first | omega | (simp only [Wx]; done) | (simp only [Wy]; done) | (simp only [Wv]; omega) | with_unfolding_all rfl) only [Wz, ptrTo, sliceTo]
      simp [badH, h1, h2]
  · simp (disch := first | omega | (simp only [Wx]; done) | (simp only [Wy]; done) | (simp only [Wv]; omega) | with_unfolding_all rfl) only [Wz, ptrTo, sliceTo, aggH, enc4, bin_eq27, dec_f h1]
    simp [badH, h1]
/-- what a closure of Check, and of May, tells -/
theorem clash1_w (f : FuncId) (hf : f = 109 ∨ f = 116) (p q : H4) (b : Nat) (h : Heap) (κ : Value → Heap → Prop) (hlo : h.lo ≤ h.nx) (hb : b < h.nx) (hg : h.bl.get b = some (cellsO [.int .i64 q.x, .int .i64 q.t, .int .i64 q.r, .int .i64 q.m] 30 false)) (hk : ∀ h', Le h h' → κ (.bool (badH p q)) h') :
    CallW Try.prog f [aggH p, ptrTo b] h κ := by
  have hle := (Le.refl h).new (cellsO [.int .i64 p.x, .int .i64 p.t, .int .i64 p.r, .int .i64 p.m] 30 false)
  have key := clashA_w p q (κ := κ) (hk _ hle)
  unfold aggH at key
  unfold enc4 at key
  rcases hf with rfl | rfl
  · refine callW_of mixed ?_
    rw [rs_109]
    simp (disch := first | omega | (simp only [Wx]; done) | (simp only [Wy]; done) | (simp only [Wv]; omega) | with_unfolding_all rfl) only [Wz, ptrTo, sliceTo, aggH, enc4, hg]
    exact key
  · refine callW_of mixed ?_
    rw [rs_116]
    simp (disch := first | omega | (simp only [Wx]; done) | (simp only [Wy]; done) | (simp only [Wv]; omega) | with_unfolding_all rfl) only [Wz, ptrTo, sliceTo, aggH, enc4, hg]
    exact key
theorem mine1_w (x t r : Int) (p : H4) (b1 b3 : Nat) (h : Heap) (κ : Value → Heap → Prop) (hlo : h.lo ≤ h.nx) (hb : b1 < h.nx) (hb3 : b3 < h.nx) (hg : h.bl.get b1 = some (cellsO [.int .i64 x] 3 false)) (hg3 : h.bl.get b3 = some (cellsO [.int .i64 t, .int .i64 r] 27 false)) (hk : ∀ h', Le h h' → κ (.bool (mine x t r p)) h') :
    CallW Try.prog 136 [aggH p, ptrTo b1, ptrTo b3] h κ := by
  have hk := hk _ ((Le.refl h).new (cellsO [.int .i64 p.x, .int .i64 p.t, .int .i64 p.r, .int .i64 p.m] 30 false))
  refine callW_of mixed ?_
  rw [rs_136]
  by_cases h1 : p.x = x
  · simp (disch := first | omega | (simp only [Wx]; done) | (simp only [Wy]; done) | (simp only [Wv]; omega) | with_unfolding_all rfl) only [Wz, ptrTo, sliceTo, aggH, enc4, hg, hg3, dec_t h1, bin_eq27]
    simpa [mine, h1] using hk
  · simp (disch := first | omega | (simp only [Wx]; done) | (simp only [Wy]; done) | (simp only [Wv]; omega) | with_unfolding_all rfl) only [Wz, ptrTo, sliceTo, aggH, enc4, hg, hg3, dec_f h1, bin_eq27]
    simpa [mine, h1] using hk
theorem place_w (L : List H4) (x t r : Int) (h : Heap) (v : Value) (κ : Value → Heap → Prop) (hv : Sl enc4 h v L) (hlen : L.length ≤ 1000000) (hlo : h.lo ≤ h.nx) (hk : ∀ h', Le h h' → κ (.int .i64 (optI (L.findIdx? (mine x t r)))) h') :
    CallW Try.prog 111 [v, .int .i64 x, nmV t r] h κ := by
  refine callW_of mixed ?_
  rw [rs_111]
  simp (disch := first | omega | (simp only [Wx]; done) | (simp only [Wy]; done) | (simp only [Wv]; omega) | with_unfolding_all rfl) only [Wz, ptrTo, sliceTo, nmV]
  obtain ⟨hA, eA⟩ : ∃ hA : Heap, hA = ⟨h.nx + 1 + 1, (h.bl.upd h.nx (cellsO [.int .i64 x] 3 false)).upd (h.nx + 1) (cellsO [.int .i64 t, .int .i64 r] 27 false), h.lo⟩ := ⟨_, rfl⟩
  have hleA : Le h hA := by subst eA; exact ((Le.refl h).new _).new _
  have g1 : hA.bl.get h.nx = some (cellsO [.int .i64 x] 3 false) := by subst eA; exact (T.get_updne _ _ (by omega)).trans (T.get_upd_same _ _ _)
  have g3 : hA.bl.get (h.nx + 1) = some (cellsO [.int .i64 t, .int .i64 r] 27 false) := by subst eA; exact T.get_upd_same _ _ _
  have nA : hA.nx = h.nx + 1 + 1 := by subst eA; rfl
  have lA : hA.lo = h.lo := by subst eA; rfl
  rw [← eA]
  clear eA
  refine indexFunc_w L (mine x t r) hA v _ _ (hv.le hleA) hlen ?_ fun h' hl => hk h' (hleA.trans hl)
  intro p hp h1 κ1 hl1 hk1
  have n1 := hl1.nx
  have l1 := hl1.lo
  simp (disch := first | omega | (simp only [Wx]; done) | (simp only [Wy]; done) | (simp only [Wv]; omega) | with_unfolding_all rfl) only [Wz, ptrTo, sliceTo, List.nil_append, List.cons_append]
  exact mine1_w x t r p h.nx (h.nx + 1) h1 κ1 (by omega) (by omega) (by omega) ((hl1.get _ (by omega)).trans g1) ((hl1.get _ (by omega)).trans g3) hk1
theorem amode_w (L : List H4) (x t r : Int) (h : Heap) (v : Value) (κ : Value → Heap → Prop) (hv : Sl enc4 h v L) (hlen : L.length ≤ 1000000) (hlo : h.lo ≤ h.nx) (hk : ∀ h', Le h h' → κ (.int .i64 (modeA L x t r)) h') :
    CallW Try.prog 59 [v, .int .i64 x, nmV t r] h κ := by
  refine callW_of mixed ?_
  rw [rs_59]
  simp (disch := first | omega | (simp only [Wx]; done) | (simp only [Wy]; done) | (simp only [Wv]; omega) | with_unfolding_all rfl) only [Wz, ptrTo, sliceTo, nmV]
  have hle := (Le.refl h).new (cellsO [.int .i64 t, .int .i64 r] 27 false)
  refine place_w L x t r _ v _ (hv.le hle) hlen (by show h.lo ≤ h.nx + 1; omega) ?_
  intro h' hle'
  have hall := hle.trans hle'
  rcases findIdx_find L (mine x t r) with ⟨h1, h2⟩ | ⟨i, p, h1, h2, h3, h4⟩
  · simp only [h1, optI]
    simp (disch := first | omega | (simp only [Wx]; done) | (simp only [Wy]; done) | (simp only [Wv]; omega) | with_unfolding_all rfl) only [Wz, ptrTo, sliceTo]
    have := hk h' hall
    simpa only [modeA, h2] using this
  · simp only [h1, optI]
    obtain ⟨b, o, hb, hat, hld⟩ := ld4 (hv.le hall) i h2
    have hil : (i : Int) ≥ 0 := by omega
    simp (disch := first | omega | (simp only [Wx]; done) | (simp only [Wy]; done) | (simp only [Wv]; omega) | with_unfolding_all rfl) only [Wz, ptrTo, sliceTo, hat, hld]
    have := hk h' hall
    simpa only [modeA, h4] using this
def wantA (L : List H4) (x t r m : Int) : H4 := ⟨x, t, r, supM (modeA L x t r) m⟩
theorem wanted_w (L : List H4) (x t r m : Int) (h : Heap) (v : Value) (κ : Value → Heap → Prop) (hv : Sl enc4 h v L) (hlen : L.length ≤ 1000000) (hlo : h.lo ≤ h.nx) (hk : ∀ h', Le h h' → κ (aggH (wantA L x t r m)) h') :
    CallW Try.prog 113 [v, .int .i64 x, nmV t r, .int .i64 m] h κ := by
  refine callW_of mixed ?_
  rw [rs_113]
  simp (disch := first | omega | (simp only [Wx]; done) | (simp only [Wy]; done) | (simp only [Wv]; omega) | with_unfolding_all rfl) only [Wz, ptrTo, sliceTo, nmV]
  obtain ⟨hA, eA⟩ : ∃ hA : Heap, hA = ⟨h.nx + 1 + 1, (h.bl.upd h.nx (cellsO [.int .i64 t, .int .i64 r] 27 false)).upd (h.nx + 1) (cellsO [.int .i64 0, .int .i64 0, .int .i64 0, .int .i64 0] 30 false), h.lo⟩ := ⟨_, rfl⟩
  have hleA : Le h hA := by subst eA; exact ((Le.refl h).new _).new _
  have g1 : hA.bl.get h.nx = some (cellsO [.int .i64 t, .int .i64 r] 27 false) := by subst eA; exact (T.get_updne _ _ (by omega)).trans (T.get_upd_same _ _ _)
  have g3 : hA.bl.get (h.nx + 1) = some (cellsO [.int .i64 0, .int .i64 0, .int .i64 0, .int .i64 0] 30 false) := by subst eA; exact T.get_upd_same _ _ _
  have nA : hA.nx = h.nx + 1 + 1 := by subst eA; rfl
  have lA : hA.lo = h.lo := by subst eA; rfl
  rw [← eA]
  clear eA
  refine amode_w L x t r hA v _ (hv.le hleA) hlen (by omega) ?_
  intro h2 hle2
  have n2 := hle2.nx
  have l2 := hle2.lo
  have g1' := (hle2.get h.nx (by omega)).trans g1
  have g3' := (hle2.get (h.nx + 1) (by omega)).trans g3
  simp (disch := first | omega | (simp only [Wx]; done) | (simp only [Wy]; done) | (simp only [Wv]; omega) | with_unfolding_all rfl) only [Wz, ptrTo, sliceTo, g1']
  refine sup_w _ _ ?_
  simp (disch := first | omega | (simp only [Wx]; done) | (simp only [Wy]; done) | (simp only [Wv]; omega) | with_unfolding_all rfl) only [Wz, ptrTo, sliceTo, g1', g3']
  have := hk _ ((hleA.trans hle2).set (b := h.nx + 1) (by omega) (cellsO [.int .i64 x, .int .i64 t, .int .i64 r, .int .i64 (supM (modeA L x t r) m)] 30 false))
  simpa only [aggH, enc4, wantA] using this
def mayA (L : List H4) (x t r m : Int) : Bool := askA t r m && !L.any fun h => badH h (wantA L x t r m)
theorem anyH_w (L : List H4) (F : H4 → Bool) (h : Heap) (v fv : Value) (κ : Value → Heap → Prop) (hv : Sl enc4 h v L) (hlen : L.length ≤ 1000000)
    (hF : ∀ p, p ∈ L → ∀ (h1 : Heap) (κ1 : Value → Heap → Prop), Le h h1 → (∀ h2, Le h1 h2 → κ1 (.bool (F p)) h2) → CallV Try.prog fv [aggH p] h1 κ1)
    (hk : ∀ h', Le h h' → κ (.bool (L.any F)) h') : CallW Try.prog 102 [v, fv] h κ := by
  refine callW_of mixed ?_
  rw [rs_102]
  refine indexFunc_w L F h v fv _ hv hlen hF ?_
  intro h' hl
  have := hk h' hl
  rw [← optI_any] at this
  by_cases h0 : optI (L.findIdx? F) < 0
  · simp (disch := first | omega | (simp only [Wx]; done) | (simp only [Wy]; done) | (simp only [Wv]; omega) | with_unfolding_all rfl) only [Wz, ptrTo, sliceTo]
    rwa [dec_f (by omega)] at this
  · simp (disch := first | omega | (simp only [Wx]; done) | (simp only [Wy]; done) | (simp only [Wv]; omega) | with_unfolding_all rfl) only [Wz, ptrTo, sliceTo]
    rwa [dec_t (by omega)] at this
theorem may_w (L : List H4) (x t r m : Int) (h : Heap) (v : Value) (κ : Value → Heap → Prop) (hv : Sl enc4 h v L) (hlen : L.length ≤ 1000000) (hlo : h.lo ≤ h.nx) (hk : ∀ h', Le h h' → κ (.bool (mayA L x t r m)) h') :
    CallW Try.prog 61 [v, .int .i64 x, nmV t r, .int .i64 m] h κ := by
  refine callW_of mixed ?_
  rw [rs_61]
  simp (disch := first | omega | (simp only [Wx]; done) | (simp only [Wy]; done) | (simp only [Wv]; omega) | with_unfolding_all rfl) only [Wz, ptrTo, sliceTo, nmV]
  obtain ⟨hA, eA⟩ : ∃ hA : Heap, hA = ⟨h.nx + 1, h.bl.upd h.nx (cellsO [.int .i64 t, .int .i64 r] 27 false), h.lo⟩ := ⟨_, rfl⟩
  have hleA : Le h hA := by subst eA; exact (Le.refl h).new _
  have gA : hA.bl.get h.nx = some (cellsO [.int .i64 t, .int .i64 r] 27 false) := by subst eA; exact T.get_upd_same _ _ _
  have nA : hA.nx = h.nx + 1 := by subst eA; rfl
  have lA : hA.lo = h.lo := by subst eA; rfl
  rw [← eA]
  clear eA
  refine wanted_w L x t r m hA v _ (hv.le hleA) hlen (by omega) ?_
  intro h2 hle2
  have n2 := hle2.nx
  have l2 := hle2.lo
  have g2 := (hle2.get h.nx (by omega)).trans gA
  simp (disch := first | omega | (simp only [Wx]; done) | (simp only [Wy]; done) | (simp only [Wv]; omega) | with_unfolding_all rfl) only [Wz, ptrTo, sliceTo, aggH, enc4, g2]
  obtain ⟨w, ew⟩ : ∃ w, wantA L x t r m = w := ⟨_, rfl⟩
  rw [ew]
  obtain ⟨hB, eB⟩ : ∃ hB : Heap, hB = ⟨h2.nx + 1, h2.bl.upd h2.nx (cellsO [.int .i64 w.x, .int .i64 w.t, .int .i64 w.r, .int .i64 w.m] 30 false), h2.lo⟩ := ⟨_, rfl⟩
  have hleB : Le h2 hB := by subst eB; exact (Le.refl h2).new _
  have gB : hB.bl.get h2.nx = some (cellsO [.int .i64 w.x, .int .i64 w.t, .int .i64 w.r, .int .i64 w.m] 30 false) := by subst eB; exact T.get_upd_same _ _ _
  have nB : hB.nx = h2.nx + 1 := by subst eB; rfl
  have lB : hB.lo = h2.lo := by subst eB; rfl
  rw [← eB]
  clear eB
  have hall := (hleA.trans hle2).trans hleB
  refine askedA_w t r m ?_
  cases ha : askA t r m with
  | false =>
    simp (disch := first | omega | (simp only [Wx]; done) | (simp only [Wy]; done) | (simp only [Wv]; omega) | with_unfolding_all rfl) only [Wz, ptrTo, sliceTo]
    have := hk hB hall
    simpa [mayA, ha] using this
  | true =>
    simp (disch := first | omega | (simp only [Wx]; done) | (simp only [Wy]; done) | (simp only [Wv]; omega) | with_unfolding_all rfl) only [Wz, ptrTo, sliceTo]
    refine anyH_w L (fun p => badH p w) hB v _ _ (hv.le hall) hlen ?_ ?_
    · intro p hp h3 κ3 hle3 hk3
      have n3 := hle3.nx
      have l3 := hle3.lo
      simp (disch := first | omega | (simp only [Wx]; done) | (simp only [Wy]; done) | (simp only [Wv]; omega) | with_unfolding_all rfl) only [Wz, ptrTo, sliceTo, List.nil_append, List.cons_append]
      exact clash1_w 116 (.inr rfl) p w h2.nx h3 κ3 (by omega) (by omega) ((hle3.get _ (by omega)).trans gB) hk3
    · intro h3 hle3
      simp (disch := first | omega | (simp only [Wx]; done) | (simp only [Wy]; done) | (simp only [Wv]; omega) | with_unfolding_all rfl) only [Wz, ptrTo, sliceTo]
      have := hk h3 (hall.trans hle3)
      simpa [mayA, ha, ew] using this
/-! ## Check -/
def riseA (L : List H4) (i : Nat) : Bool := decide (i = 0) || (match L[i - 1]? with | some q => (match L[i]? with | some p => decide (cmpA q p < 0) | none => false) | none => false)
def okI (L : List H4) (i : Nat) : Bool := match L[i]? with
  | some p => askA p.t p.r p.m && riseA L i && !(L.take i).any fun o => badH o p
  | none => true
def chkA (L : List H4) : Bool := (List.range L.length).all fun i => okI L i
theorem Sl.take {α : Type} {enc : α → List Value} {s : Nat} {h : Heap} {v : Value} {L : List α} (he : ∀ a : α, (enc a).length = s) (hs : Sl enc h v L) {i : Nat} (hi : i ≤ L.length) (hn : L ≠ []) : Sl enc h (frontV v i) (L.take i) := by
  obtain ⟨x, cap, rfl, h2⟩ := hs
  obtain ⟨b, o, rfl, h3, h4⟩ := h2 hn
  refine ⟨_, cap, by simp [frontV, Nat.min_eq_left hi], fun _ => ⟨b, o, rfl, h3, ?_⟩⟩
  have hl := flat_length (enc := enc) he L
  have hle : i * s ≤ L.length * s := Nat.mul_le_mul_right _ hi
  have := h4.sub 0 (i * s) (by omega)
  rw [Nat.add_zero, List.drop_zero, flat_take' he] at this
  exact this
end Go.Proofs

namespace Go.Proofs
open Go.Vai Go.Clashes
/-! ## automaton: Check, and the binary search -/
abbrev CutH (h : Heap) (v : Value) (n : Nat) : Prop := Cut 30 4 h v n
theorem okI_at {L : List H4} {i : Nat} {p : H4} (hp : L[i]? = some p) : okI L i = (askA p.t p.r p.m && riseA L i && !(L.take i).any fun o => badH o p) := by
  unfold okI; rw [hp]
theorem rise_0 (L : List H4) : riseA L 0 = true := by simp [riseA]
theorem rise_s {L : List H4} {i : Nat} {q p : H4} (hi : i ≠ 0) (hq : L[i - 1]? = some q) (hp : L[i]? = some p) : riseA L i = decide (cmpA q p < 0) := by
  simp [riseA, hi, hq, hp]
theorem chkA_f {L : List H4} {i : Nat} (hi : i < L.length) (h : okI L i = false) : chkA L = false := by
  unfold chkA
  rw [List.all_eq_false]
  exact ⟨i, by simpa using hi, by simp [h]⟩
theorem chkA_t {L : List H4} (h : ∀ i, i < L.length → okI L i = true) : chkA L = true := by
  unfold chkA
  rw [List.all_eq_true]
  intro i hi
  exact h i (by simpa using hi)
theorem acheck_w (L : List H4) (h : Heap) (v : Value) (κ : Value → Heap → Prop) (hv : Sl enc4 h v L) (hc : CutH h v L.length) (hlen : L.length ≤ 1000000) (hlo : h.lo ≤ h.nx) (hk : ∀ h', Le h h' → κ (.int .i64 (if chkA L = true then 0 else 2)) h') :
    CallW Try.prog 56 [v] h κ := by
  refine callW_of mixed ?_
  rw [rs_56]
  simp (disch := first | omega | (simp only [Wx]; done) | (simp only [Wy]; done) | (simp only [Wv]; omega) | with_unfolding_all rfl) only [Wz, ptrTo, sliceTo, hv.len]
  refine ⟨fun n l h1 => ∃ i : Nat, slot l 38 = .int .i64 (i : Int) ∧ i ≤ L.length ∧ n = L.length - i ∧ (∀ j, j < i → okI L j = true) ∧ Le h h1, ⟨_, 0, rfl, Nat.zero_le _, rfl, by omega, Le.refl _⟩, ?_⟩
  rintro n l h1 ⟨i, s1, hi, rfl, hall, hle⟩
  have n1 := hle.nx
  have l1 := hle.lo
  by_cases hlt : i < L.length
  · obtain ⟨p, hp⟩ : ∃ p, L[i]? = some p := ⟨_, List.getElem?_eq_getElem hlt⟩
    obtain ⟨b, o, hb, hat, hld⟩ := ld4 (hv.le hle) i hp
    simp (disch := first | omega | (simp only [Wx]; done) | (simp only [Wy]; done) | (simp only [Wv]; omega) | with_unfolding_all rfl) only [Wz, ptrTo, sliceTo, s1, rs_56_0, hat, hld, enc4]
    obtain ⟨hA, eA⟩ : ∃ hA : Heap, hA = ⟨h1.nx + 1, h1.bl.upd h1.nx (cellsO [.int .i64 p.x, .int .i64 p.t, .int .i64 p.r, .int .i64 p.m] 30 false), h1.lo⟩ := ⟨_, rfl⟩
    have hleA : Le h1 hA := by subst eA; exact (Le.refl h1).new _
    have gA : hA.bl.get h1.nx = some (cellsO [.int .i64 p.x, .int .i64 p.t, .int .i64 p.r, .int .i64 p.m] 30 false) := by subst eA; exact T.get_upd_same _ _ _
    have nA : hA.nx = h1.nx + 1 := by subst eA; rfl
    have lA : hA.lo = h1.lo := by subst eA; rfl
    rw [← eA]
    clear eA
    obtain ⟨u, hu1, hu2, hu3⟩ := Cut.to enc4_len (by decide) (hv.le (hle.trans hleA)) (hc.le (hle.trans hleA)) hi
    by_cases h0 : i = 0
    · have hr : riseA L i = true := by rw [h0]; exact rise_0 L
      simp (disch := first | omega | (simp only [Wx]; done) | (simp only [Wy]; done) | (simp only [Wv]; omega) | with_unfolding_all rfl) only [Wz, ptrTo, sliceTo, dec_t (show ((i : Nat) : Int) = 0 by omega), gA]
      refine askedA_w p.t p.r p.m ?_
      cases ha : askA p.t p.r p.m with
      | false =>
        simp (disch := first | omega | (simp only [Wx]; done) | (simp only [Wy]; done) | (simp only [Wv]; omega) | with_unfolding_all rfl) only [Wz, ptrTo, sliceTo]
        have e := hk hA (hle.trans hleA)
        rw [chkA_f hlt (by rw [okI_at hp, ha]; rfl)] at e
        exact e
      | true =>
        skip
        simp (disch := first | omega | (simp only [Wx]; done) | (simp only [Wy]; done) | (simp only [Wv]; omega) | with_unfolding_all rfl) only [Wz, ptrTo, sliceTo, hu3]
        refine anyH_w (L.take i) (fun o => badH o p) hA u _ _ hu1 (by simp; omega) ?_ ?_
        · intro q' hq' h3 κ3 hle3 hk3
          have n3 := hle3.nx
          have l3 := hle3.lo
          simp (disch := first | omega | (simp only [Wx]; done) | (simp only [Wy]; done) | (simp only [Wv]; omega) | with_unfolding_all rfl) only [Wz, ptrTo, sliceTo, List.nil_append, List.cons_append]
          exact clash1_w 109 (.inl rfl) q' p h1.nx h3 κ3 (by omega) (by omega) ((hle3.get _ (by omega)).trans gA) hk3
        · intro h3 hle3
          cases hb : (L.take i).any (fun o => badH o p) with
          | true =>
            simp (disch := first | omega | (simp only [Wx]; done) | (simp only [Wy]; done) | (simp only [Wv]; omega) | with_unfolding_all rfl) only [Wz, ptrTo, sliceTo]
            have e := hk h3 ((hle.trans hleA).trans hle3)
            rw [chkA_f hlt (by rw [okI_at hp, ha, hr, hb]; rfl)] at e
            exact e
          | false =>
            simp (disch := first | omega | (simp only [Wx]; done) | (simp only [Wy]; done) | (simp only [Wv]; omega) | with_unfolding_all rfl) only [Wz, ptrTo, sliceTo, s1]
            refine ⟨_, by omega, i + 1, rfl, by omega, rfl, ?_, (hle.trans hleA).trans hle3⟩
            intro j hj
            by_cases hji : j = i
            · subst hji; rw [okI_at hp, ha, hr, hb]; rfl
            · exact hall j (by omega)
    · obtain ⟨q, hq⟩ : ∃ q, L[i - 1]? = some q := ⟨_, List.getElem?_eq_getElem (by omega)⟩
      obtain ⟨b', o', hb', hat', hld'⟩ := ld4 (hv.le (hle.trans hleA)) (i - 1) hq
      have e1 : (i : Int) - 1 = ((i - 1 : Nat) : Int) := by omega
      have hrs := rise_s h0 hq hp
      simp (disch := first | omega | (simp only [Wx]; done) | (simp only [Wy]; done) | (simp only [Wv]; omega) | with_unfolding_all rfl) only [Wz, ptrTo, sliceTo, dec_f (show ¬ ((i : Int) = 0) by omega), e1, hat', hld', gA]
      refine acmp_w q p ?_
      simp (disch := first | omega | (simp only [Wx]; done) | (simp only [Wy]; done) | (simp only [Wv]; omega) | with_unfolding_all rfl) only [Wz, ptrTo, sliceTo, gA]
      refine askedA_w p.t p.r p.m ?_
      cases ha : askA p.t p.r p.m with
      | false =>
        simp (disch := first | omega | (simp only [Wx]; done) | (simp only [Wy]; done) | (simp only [Wv]; omega) | with_unfolding_all rfl) only [Wz, ptrTo, sliceTo]
        have e := hk hA (hle.trans hleA)
        rw [chkA_f hlt (by rw [okI_at hp, ha]; rfl)] at e
        exact e
      | true =>
        cases hr : riseA L i with
        | false =>
          rw [hr] at hrs
          simp (disch := first | omega | (simp only [Wx]; done) | (simp only [Wy]; done) | (simp only [Wv]; omega) | with_unfolding_all rfl) only [Wz, ptrTo, sliceTo, ← hrs]
          have e := hk hA (hle.trans hleA)
          rw [chkA_f hlt (by rw [okI_at hp, ha, hr]; rfl)] at e
          exact e
        | true =>
        rw [hr] at hrs
        simp only [← hrs]
        simp (disch := first | omega | (simp only [Wx]; done) | (simp only [Wy]; done) | (simp only [Wv]; omega) | with_unfolding_all rfl) only [Wz, ptrTo, sliceTo, hu3]
        refine anyH_w (L.take i) (fun o => badH o p) hA u _ _ hu1 (by simp; omega) ?_ ?_
        · intro q' hq' h3 κ3 hle3 hk3
          have n3 := hle3.nx
          have l3 := hle3.lo
          simp (disch := first | omega | (simp only [Wx]; done) | (simp only [Wy]; done) | (simp only [Wv]; omega) | with_unfolding_all rfl) only [Wz, ptrTo, sliceTo, List.nil_append, List.cons_append]
          exact clash1_w 109 (.inl rfl) q' p h1.nx h3 κ3 (by omega) (by omega) ((hle3.get _ (by omega)).trans gA) hk3
        · intro h3 hle3
          cases hb : (L.take i).any (fun o => badH o p) with
          | true =>
            simp (disch := first | omega | (simp only [Wx]; done) | (simp only [Wy]; done) | (simp only [Wv]; omega) | with_unfolding_all rfl) only [Wz, ptrTo, sliceTo]
            have e := hk h3 ((hle.trans hleA).trans hle3)
            rw [chkA_f hlt (by rw [okI_at hp, ha, hr, hb]; rfl)] at e
            exact e
          | false =>
            simp (disch := first | omega | (simp only [Wx]; done) | (simp only [Wy]; done) | (simp only [Wv]; omega) | with_unfolding_all rfl) only [Wz, ptrTo, sliceTo, s1]
            refine ⟨_, by omega, i + 1, rfl, by omega, rfl, ?_, (hle.trans hleA).trans hle3⟩
            intro j hj
            by_cases hji : j = i
            · subst hji; rw [okI_at hp, ha, hr, hb]; rfl
            · exact hall j (by omega)
  · have e := hk h1 hle
    rw [if_pos (chkA_t fun j hj => hall j (by omega))] at e
    simp (disch := first | omega | (simp only [Wx]; done) | (simp only [Wy]; done) | (simp only [Wv]; omega) | with_unfolding_all rfl) only [Wz, ptrTo, sliceTo, s1]
    exact e
end Go.Proofs

namespace Go.Proofs
open Go.Vai Go.Clashes
section
variable {β : Type} {fl : β}
theorem conv_u64 (n : Int) (h : Heap) (κ : Value → Heap → β) (hn : 0 ≤ n ∧ n ≤ 18446744073709551615) : convI fl .u64 (.int .i64 n) h κ = κ (.int .u64 n) h := by
  unfold convI; simp only [fiK_eq, wrapB_eq]; rw [IntWalk.u64_in _ hn]
theorem conv_i64u (n : Int) (h : Heap) (κ : Value → Heap → β) (hn : 0 ≤ n ∧ n ≤ 9223372036854775807) : convI fl .i64 (.int .u64 n) h κ = κ (.int .i64 n) h := by
  unfold convI; simp only [fiK_eq, wrapB_eq]; rw [IntWalk.i64_in _ (by omega)]
theorem shr_1 (P : Program) (t : TypeId) (cn gd : Bool) (n : Int) (h : Heap) (κ : Value → Heap → β) : binB fl P .shr t cn gd (.int .u64 n) (.int .u64 1) h κ = κ (.int .u64 (n / 2)) h := by
  have e : iltB 1 0 = false := by rw [iltB_eq]; rfl
  simp only [binB, kindEq_self, intB, e, fiK_eq]
  have e2 : n.fdiv (2 ^ min (1 : Int).toNat IntKind.u64.bits) = n / 2 := by
    rw [Int.fdiv_eq_ediv_of_nonneg _ (by decide)]; rfl
  rw [e2]
end
def eqA (L : List H4) (i : Nat) (w : H4) : Bool := match L[i]? with | some p => decide (cmpA p w = 0) | none => false
theorem bsearch_w (L : List H4) (w : H4) (h : Heap) (v : Value) (κ : Value → Heap → Prop) (hv : Sl enc4 h v L) (hlen : L.length ≤ 1000000) (hlo : h.lo ≤ h.nx)
    (hs : ∀ (i j : Nat) (p q : H4), i ≤ j → L[i]? = some p → L[j]? = some q → cmpA q w < 0 → cmpA p w < 0)
    (hk : ∀ (i : Nat) (h' : Heap), i ≤ L.length → (∀ (k : Nat) (p : H4), k < i → L[k]? = some p → cmpA p w < 0) → (∀ (k : Nat) (p : H4), i ≤ k → L[k]? = some p → ¬ cmpA p w < 0) → Le h h' → κ (.tuple ⟨[.int .i64 (i : Nat), .bool (eqA L i w)]⟩) h') :
    CallW Try.prog 114 [v, aggH w, .func (.func 107) ⟨[]⟩ ⟨[]⟩] h κ := by
  refine callW_of mixed ?_
  rw [rs_114]
  simp (disch := first | omega | (simp only [Wx]; done) | (simp only [Wy]; done) | (simp only [Wv]; omega) | with_unfolding_all rfl) only [Wz, ptrTo, sliceTo, aggH, enc4]
  obtain ⟨hA, eA⟩ : ∃ hA : Heap, hA = ⟨h.nx + 1, h.bl.upd h.nx (cellsO [.int .i64 w.x, .int .i64 w.t, .int .i64 w.r, .int .i64 w.m] 30 false), h.lo⟩ := ⟨_, rfl⟩
  have hleA : Le h hA := by subst eA; exact (Le.refl h).new _
  have gA : hA.bl.get h.nx = some (cellsO [.int .i64 w.x, .int .i64 w.t, .int .i64 w.r, .int .i64 w.m] 30 false) := by subst eA; exact T.get_upd_same _ _ _
  have nA : hA.nx = h.nx + 1 := by subst eA; rfl
  have lA : hA.lo = h.lo := by subst eA; rfl
  rw [← eA]
  clear eA
  simp (disch := first | omega | (simp only [Wx]; done) | (simp only [Wy]; done) | (simp only [Wv]; omega) | with_unfolding_all rfl) only [Wz, ptrTo, sliceTo, hv.len]
  refine ⟨fun n l h1 => ∃ i j : Nat, slot l 20 = .int .i64 (i : Int) ∧ slot l 22 = .int .i64 (j : Int) ∧ i ≤ j ∧ j ≤ L.length ∧ n = j - i ∧ (∀ (k : Nat) (p : H4), k < i → L[k]? = some p → cmpA p w < 0) ∧ (∀ (k : Nat) (p : H4), j ≤ k → L[k]? = some p → ¬ cmpA p w < 0) ∧ h1 = hA,
    ⟨_, 0, L.length, rfl, rfl, Nat.zero_le _, Nat.le_refl _, rfl, by omega, ?_, rfl⟩, ?_⟩
  · intro k p hk hp
    have := (List.getElem?_eq_some_iff.1 hp).1
    omega
  rintro n l h1 ⟨i, j, s1, s2, hij, hj, rfl, hlow, hhigh, rfl⟩
  by_cases hlt : i < j
  · have e1 : ((i : Int) + (j : Int)) / 2 = (((i + j) / 2 : Nat) : Int) := by omega
    obtain ⟨m, hm⟩ : ∃ m, (i + j) / 2 = m := ⟨_, rfl⟩
    rw [hm] at e1
    obtain ⟨p, hp⟩ : ∃ p, L[m]? = some p := ⟨_, List.getElem?_eq_getElem (by omega)⟩
    obtain ⟨b, o, hb, hat, hld⟩ := ld4 (hv.le hleA) m hp
    simp (disch := first | omega | (simp only [Wx]; done) | (simp only [Wy]; done) | (simp only [Wv]; omega) | with_unfolding_all rfl) only [Wz, ptrTo, sliceTo, s1, s2, rs_114_0, conv_u64, conv_i64u, shr_1, e1, hat, hld, gA, List.nil_append, List.cons_append]
    refine acmp_w p w ?_
    by_cases hc : cmpA p w < 0
    · simp (disch := first | omega | (simp only [Wx]; done) | (simp only [Wy]; done) | (simp only [Wv]; omega) | with_unfolding_all rfl) only [Wz, ptrTo, sliceTo, dec_t hc]
      refine ⟨_, by omega, m + 1, j, by simp, rfl, by omega, hj, rfl, ?_, hhigh, trivial⟩
      intro k q hk hq
      exact hs k m q p (by omega) hq hp hc
    · simp (disch := first | omega | (simp only [Wx]; done) | (simp only [Wy]; done) | (simp only [Wv]; omega) | with_unfolding_all rfl) only [Wz, ptrTo, sliceTo, dec_f hc]
      refine ⟨_, by omega, i, m, rfl, rfl, by omega, by omega, rfl, hlow, ?_, trivial⟩
      intro k q hk hq hcq
      exact hc (hs m k p q hk hp hq hcq)
  · have hji : j = i := by omega
    subst hji
    have key := hk j _ hj hlow hhigh hleA
    by_cases hin : j < L.length
    · obtain ⟨p, hp⟩ : ∃ p, L[j]? = some p := ⟨_, List.getElem?_eq_getElem hin⟩
      obtain ⟨b, o, hb, hat, hld⟩ := ld4 (hv.le hleA) j hp
      simp (disch := first | omega | (simp only [Wx]; done) | (simp only [Wy]; done) | (simp only [Wv]; omega) | with_unfolding_all rfl) only [Wz, ptrTo, sliceTo, s1, s2, rs_114_1, hat, hld, gA, List.nil_append, List.cons_append]
      refine acmp_w p w ?_
      simp (disch := first | omega | (simp only [Wx]; done) | (simp only [Wy]; done) | (simp only [Wv]; omega) | with_unfolding_all rfl) only [Wz, ptrTo, sliceTo, s1]
      simp only [eqA, hp] at key
      exact key
    · simp (disch := first | omega | (simp only [Wx]; done) | (simp only [Wy]; done) | (simp only [Wv]; omega) | with_unfolding_all rfl) only [Wz, ptrTo, sliceTo, s1, s2, rs_114_1]
      rw [show eqA L j w = false by simp [eqA, List.getElem?_eq_none (show L.length ≤ j by omega)]] at key
      exact key
end Go.Proofs

namespace Go.Proofs
open Go.Vai Go.Clashes
/-! ## automaton: the codes -/
def HQ (a b : Heap) : Prop := a = b
def encI (n : Int) : List Value := [.int .i64 n]
theorem encI_len (n : Int) : (encI n).length = 1 := rfl
theorem ldI {h : Heap} {v : Value} {L : List Int} (hs : Sl encI h v L) (i : Nat) {p : Int} (hp : L[i]? = some p) :
    ∃ b o, b < h.nx ∧ (∀ (β : Type) (fl : β) (h' : Heap) (κ : Value → Heap → β), indexAddrS fl 1 v (.int .i64 (i : Int)) h' κ = κ (.pointer (some ⟨b, o, none⟩)) h') ∧
      (∀ (β : Type) (fl : β) (κ : Value → β), ldO fl (h.bl.get b) o κ = κ (.int .i64 p)) := by
  obtain ⟨b, o, h1, h2, h3, hh⟩ := hs.ld encI_len i hp
  exact ⟨b, o, h1, h2, fun β fl κ => ldO_has (fl := fl) hh 0 κ (Nat.lt_succ_self _)⟩
theorem indexI_w (L : List Int) (c : Int) (h : Heap) (v : Value) (κ : Value → Heap → Prop) (hv : Sl encI h v L) (hlen : L.length ≤ 1000000) (hk : κ (.int .i64 (optI (L.findIdx? (fun x => decide (c = x))))) h) :
    CallW Try.prog 137 [v, .int .i64 c] h κ := by
  refine callW_of mixed ?_
  rw [rs_137]
  simp (disch := first | omega | (simp only [Wx]; done) | (simp only [Wy]; done) | (simp only [Wv]; omega) | with_unfolding_all rfl) only [Wz, ptrTo, sliceTo, hv.len]
  refine ⟨fun n l h1 => ∃ i : Nat, slot l 12 = .int .i64 (i : Int) ∧ i ≤ L.length ∧ n = L.length - i ∧ (∀ k p, k < i → L[k]? = some p → ¬ c = p) ∧ HQ h h1, ⟨_, 0, rfl, Nat.zero_le _, rfl, by omega, rfl⟩, ?_⟩
  rintro n l h1 ⟨i, s1, hi, rfl, hall, hh⟩
  cases (show h = h1 from hh)
  clear hh
  by_cases hlt : i < L.length
  · obtain ⟨p, hp⟩ : ∃ p, L[i]? = some p := ⟨_, List.getElem?_eq_getElem hlt⟩
    obtain ⟨b, o, hb, hat, hld⟩ := ldI hv i hp
    by_cases hc : c = p
    · simp (disch := first | omega | (simp only [Wx]; done) | (simp only [Wy]; done) | (simp only [Wv]; omega) | with_unfolding_all rfl) only [Wz, ptrTo, sliceTo, s1, rs_137_0, hat, hld, dec_t hc]
      have : L.findIdx? (fun x => decide (c = x)) = some i := by
        rw [List.findIdx?_eq_some_iff_getElem]
        refine ⟨hlt, ?_, ?_⟩
        · rw [(List.getElem?_eq_some_iff.1 hp).2]; simpa using hc
        · intro j hj
          have := hall j _ hj (List.getElem?_eq_getElem (by omega))
          simpa using this
      rw [this] at hk
      exact hk
    · simp (disch := first | omega | (simp only [Wx]; done) | (simp only [Wy]; done) | (simp only [Wv]; omega) | with_unfolding_all rfl) only [Wz, ptrTo, sliceTo, s1, rs_137_0, hat, hld, dec_f hc]
      refine ⟨_, by omega, i + 1, by simp, by omega, rfl, ?_, rfl⟩
      intro k q hk' hq
      by_cases hki : k = i
      · subst hki; rw [hp] at hq; cases hq; exact hc
      · exact hall k q (by omega) hq
  · simp (disch := first | omega | (simp only [Wx]; done) | (simp only [Wy]; done) | (simp only [Wv]; omega) | with_unfolding_all rfl) only [Wz, ptrTo, sliceTo, s1]
    have : L.findIdx? (fun x => decide (c = x)) = none := by
      rw [List.findIdx?_eq_none_iff]
      intro x hx
      obtain ⟨k, hk1⟩ := List.getElem?_of_mem hx
      have := hall k x (by have := (List.getElem?_eq_some_iff.1 hk1).1; omega) hk1
      simpa using this
    rw [this] at hk
    exact hk
theorem containsI_w (L : List Int) (c : Int) (h : Heap) (v : Value) (κ : Value → Heap → Prop) (hv : Sl encI h v L) (hlen : L.length ≤ 1000000) (hk : κ (.bool (decide (c ∈ L))) h) :
    CallW Try.prog 112 [v, .int .i64 c] h κ := by
  refine callW_of mixed ?_
  rw [rs_112]
  refine indexI_w L c h v _ hv hlen ?_
  cases hf : L.findIdx? (fun x => decide (c = x)) with
  | none =>
    rw [List.findIdx?_eq_none_iff] at hf
    have : ¬ c ∈ L := fun hm => by simpa using hf c hm
    rw [dec_f this] at hk
    simp (disch := first | omega | (simp only [Wx]; done) | (simp only [Wy]; done) | (simp only [Wv]; omega) | with_unfolding_all rfl) only [Wz, ptrTo, sliceTo, optI]
    exact hk
  | some i =>
    rw [List.findIdx?_eq_some_iff_getElem] at hf
    obtain ⟨hi, h1, _⟩ := hf
    have : c ∈ L := by
      have e : c = L[i] := by simpa using h1
      rw [e]; exact List.getElem_mem hi
    rw [dec_t this] at hk
    simp (disch := first | omega | (simp only [Wx]; done) | (simp only [Wy]; done) | (simp only [Wv]; omega) | with_unfolding_all rfl) only [Wz, ptrTo, sliceTo, optI, lt_f (show (0 : Int) ≤ (i : Int) by omega)]
    exact hk
/-! ### slices.Insert at int -/
noncomputable def z3 : List Value := match zOf Try.prog 3 with | some (z, _) => z | none => []
theorem z3_ok : zOf Try.prog 3 = some (z3, 1) := by kernel_rfl
theorem info3 : (match Try.prog.info? 3 with | some i => (match i.zero with | some z => Nat.beq z.cells.size 1 && Nat.ble i.bytes 10000 | none => false) | none => false) = true := by decide +kernel
theorem info3' : ∃ i z, Try.prog.info? 3 = some i ∧ i.zero = some z ∧ z.cells.size = 1 ∧ i.bytes ≤ 10000 := by
  have h := info3
  split at h <;> try contradiction
  rename_i i hi
  split at h <;> try contradiction
  rename_i z hz
  simp only [Bool.and_eq_true] at h
  exact ⟨i, z, hi, hz, beq_t h.1, ble_t h.2⟩
theorem insI_w {args : List Value} {h : Heap} {κ : Value → Heap → Prop} (hg : insertB False 3 1 z3 args h κ) : CallW Try.prog 138 args h κ := by
  intro φ w args' ha hr
  obtain ⟨i, z, h1, h2, h3, h4⟩ := info3'
  exact insertB_sound (good := ok) ok_false (insert138 h1 h2 h3 h4 Try.underlying3) Try.underlying50 z3_ok h1 h4 hr ha hg
/-- five codes -/
theorem ins5_w (b b' : Nat) (h : Heap) (κ : Value → Heap → Prop) (hbb : b' ≠ b) (hlo : h.lo ≤ h.nx) (hg : h.bl.get b = some (cellsO ([2, 3, 4, 5].flatMap encI) 3 false)) (hg' : h.bl.get b' = some (cellsO ([1].flatMap encI) 3 false))
    (hk : ∀ v' h', Sl encI h' v' [1, 2, 3, 4, 5] → Le h h' → κ v' h') : CallW Try.prog 138 [sliceTo 4 4 b, .int .i64 0, sliceTo 1 1 b'] h κ := by
  refine insI_w ?_
  have hh1 : Has (h.bl.get b) 0 (([2, 3, 4, 5] : List Int).flatMap encI) := by rw [hg]; exact Has.all
  have hh2 : Has (h.bl.get b') 0 (([1] : List Int).flatMap encI) := by rw [hg']; exact Has.all
  have f1 : ∀ κ : List Value → Prop, firstB False h 1 4 (.slice (some ⟨b, 0, none⟩) 4 4) κ = κ _ := fun κ => firstB_has hh1 1 4 4 4 κ rfl
  have f2 : ∀ κ : List Value → Prop, firstB False h 1 (0 + 1) (.slice (some ⟨b', 0, none⟩) (0 + 1) 1) κ = κ _ := fun κ => firstB_has hh2 1 (0 + 1) (0 + 1) 1 κ rfl
  have e1 : Nat.beq b' b = false := by
    cases hq : Nat.beq b' b with
    | false => rfl
    | true => exact absurd (beq_t hq) hbb
  have g1 := hg
  have g2 := hg'
  simp only [cellsO] at g1 g2
  unfold insertB
  show insertX False 3 1 (some ⟨b, 0, none⟩) 4 4 0 b' 0 0 1 h κ
  unfold insertX
  have e2 : Nat.ble (0 + 1) 4 = true := rfl
  have e3 : (Nat.ble 4 1000000000 && Nat.ble (4 + 1) (4 + (0 + 1))) = true := rfl
  simp only [e2, e3, e1, g1, g2]
  show (firstB False h 1 4 (.slice (some ⟨b, 0, none⟩) 4 4) fun old => firstB False h 1 (0 + 1) (.slice (some ⟨b', 0, none⟩) (0 + 1) 1) fun new => _)
  rw [f1, f2]
  show newCells False _ 3 true h _
  unfold newCells
  rw [cellsK_eq _ _ _ _ (by decide), newBlock_eq]
  refine hk _ _ (Sl.new (L := [1, 2, 3, 4, 5]) (Nat.lt_succ_self _) (T.get_upd_same _ _ _) _) ((Le.refl h).new _)
end Go.Proofs

namespace Go.Proofs
open Go.Vai Go.Clashes
theorem repeatL_4 (a : Value) : repeatL [a] 4 = [a, a, a, a] := by simp [repeatL]
structure A6 where
  k : Int
  x : Int
  t : Int
  r : Int
  m : Int
  c : Int
def enc6 (a : A6) : List Value := [.int .i64 a.k, .int .i64 a.x, .int .i64 a.t, .int .i64 a.r, .int .i64 a.m, .int .i64 a.c]
def aggA (a : A6) : Value := .agg ⟨enc6 a⟩
noncomputable abbrev blkA (a : A6) : AObj := cellsO [.int .i64 a.k, .int .i64 a.x, .int .i64 a.t, .int .i64 a.r, .int .i64 a.m, .int .i64 a.c] 82 false
def acqA (L : List H4) (a : A6) : List Int := if askA a.t a.r a.m = true then (if mayA L a.x a.t a.r a.m = true then [1, 2, 3, 4, 5] else [2, 3, 4, 5]) else [6]
def hasA (L : List H4) (x t r : Int) : Bool := L.any (mine x t r)
theorem acquire_w (L : List H4) (a : A6) (h : Heap) (v : Value) (κ : Value → Heap → Prop) (hv : Sl enc4 h v L) (hlen : L.length ≤ 1000000) (hlo : h.lo ≤ h.nx) (hk : ∀ v' h', Sl encI h' v' (acqA L a) → Le h h' → κ v' h') :
    CallW Try.prog 118 [v, aggA a] h κ := by
  refine callW_of mixed ?_
  rw [rs_118]
  simp (disch := first | omega | (simp only [Wx]; done) | (simp only [Wy]; done) | (simp only [Wv]; omega) | with_unfolding_all rfl) only [Wz, ptrTo, sliceTo, aggA, enc6]
  obtain ⟨hA, eA⟩ : ∃ hA : Heap, hA = ⟨h.nx + 1, h.bl.upd h.nx (blkA a), h.lo⟩ := ⟨_, rfl⟩
  have hleA : Le h hA := by subst eA; exact (Le.refl h).new _
  have gA : hA.bl.get h.nx = some (blkA a) := by subst eA; exact T.get_upd_same _ _ _
  have nA : hA.nx = h.nx + 1 := by subst eA; rfl
  have lA : hA.lo = h.lo := by subst eA; rfl
  rw [← eA]
  clear eA
  refine askedA_w a.t a.r a.m ?_
  cases ha : askA a.t a.r a.m with
  | false =>
    simp (disch := first | omega | (simp only [Wx]; done) | (simp only [Wy]; done) | (simp only [Wv]; omega) | with_unfolding_all rfl) only [Wz, ptrTo, sliceTo]
    have e : acqA L a = [6] := by simp [acqA, ha]
    rw [e] at hk
    exact hk _ _ (Sl.new (L := [6]) (Nat.lt_succ_self _) (T.get_upd_same _ _ _) _) (hleA.new _)
  | true =>
    simp (disch := first | omega | (simp only [Wx]; done) | (simp only [Wy]; done) | (simp only [Wv]; omega) | with_unfolding_all rfl) only [Wz, ptrTo, sliceTo, rs_118_0, gA, repeatL_4]
    obtain ⟨hB, eB⟩ : ∃ hB : Heap, hB = ⟨hA.nx + 1, hA.bl.upd hA.nx (cellsO [.int .i64 2, .int .i64 3, .int .i64 4, .int .i64 5] 3 false), hA.lo⟩ := ⟨_, rfl⟩
    have hleB : Le hA hB := by subst eB; exact (Le.refl hA).new _
    have gB : hB.bl.get hA.nx = some (cellsO [.int .i64 2, .int .i64 3, .int .i64 4, .int .i64 5] 3 false) := by subst eB; exact T.get_upd_same _ _ _
    have gBA := (hleB.get h.nx (by omega)).trans gA
    have nB : hB.nx = hA.nx + 1 := by subst eB; rfl
    have lB : hB.lo = hA.lo := by subst eB; rfl
    rw [← eB]
    clear eB
    refine may_w L a.x a.t a.r a.m hB v _ (hv.le (hleA.trans hleB)) hlen (by omega) ?_
    intro h2 hle2
    have n2 := hle2.nx
    have l2 := hle2.lo
    have g2 := (hle2.get hA.nx (by omega)).trans gB
    have hall := (hleA.trans hleB).trans hle2
    cases hm : mayA L a.x a.t a.r a.m with
    | false =>
      simp (disch := first | omega | (simp only [Wx]; done) | (simp only [Wy]; done) | (simp only [Wv]; omega) | with_unfolding_all rfl) only [Wz, ptrTo, sliceTo]
      have e : acqA L a = [2, 3, 4, 5] := by simp [acqA, ha, hm]
      rw [e] at hk
      exact hk _ _ (Sl.new (L := [2, 3, 4, 5]) (by omega) g2 _) hall
    | true =>
      simp (disch := first | omega | (simp only [Wx]; done) | (simp only [Wy]; done) | (simp only [Wv]; omega) | with_unfolding_all rfl) only [Wz, ptrTo, sliceTo]
      have e : acqA L a = [1, 2, 3, 4, 5] := by simp [acqA, ha, hm]
      rw [e] at hk
      refine ins5_w hA.nx h2.nx _ _ (by omega) (by show h2.lo ≤ h2.nx + 1; omega) ((T.get_updne _ _ (by omega)).trans g2) (T.get_upd_same _ _ _) ?_
      intro v' h' hv' hl'
      exact hk v' h' hv' ((hall.new _).trans hl')
def relA (L : List H4) (a : A6) : Int := if hasA L a.x a.t a.r = true then 1 else 6
theorem release_w (L : List H4) (a : A6) (h : Heap) (v : Value) (κ : Value → Heap → Prop) (hv : Sl enc4 h v L) (hlen : L.length ≤ 1000000) (hlo : h.lo ≤ h.nx)
    (hk : ∀ b h', b < h'.nx → h'.lo ≤ b → h.nx ≤ b → h'.bl.get b = some (cellsO [.int .i64 (relA L a)] 3 false) → Le h h' → κ (sliceTo 1 1 b) h') :
    CallW Try.prog 119 [v, aggA a] h κ := by
  refine callW_of mixed ?_
  rw [rs_119]
  simp (disch := first | omega | (simp only [Wx]; done) | (simp only [Wy]; done) | (simp only [Wv]; omega) | with_unfolding_all rfl) only [Wz, ptrTo, sliceTo, aggA, enc6]
  obtain ⟨hA, eA⟩ : ∃ hA : Heap, hA = ⟨h.nx + 1, h.bl.upd h.nx (blkA a), h.lo⟩ := ⟨_, rfl⟩
  have hleA : Le h hA := by subst eA; exact (Le.refl h).new _
  have nA : hA.nx = h.nx + 1 := by subst eA; rfl
  have lA : hA.lo = h.lo := by subst eA; rfl
  rw [← eA]
  clear eA
  refine place_w L a.x a.t a.r hA v _ (hv.le hleA) hlen (by omega) ?_
  intro h2 hle2
  have n2 := hle2.nx
  have l2 := hle2.lo
  have e := optI_any L (mine a.x a.t a.r)
  by_cases h0 : optI (L.findIdx? (mine a.x a.t a.r)) < 0
  · rw [dec_f (by omega)] at e
    simp (disch := first | omega | (simp only [Wx]; done) | (simp only [Wy]; done) | (simp only [Wv]; omega) | with_unfolding_all rfl) only [Wz, ptrTo, sliceTo, dec_t h0]
    have er : relA L a = 6 := by simp [relA, hasA, ← e]
    refine hk h2.nx _ (Nat.lt_succ_self _) (by show h2.lo ≤ h2.nx; omega) (by omega) ?_ ((hleA.trans hle2).new _)
    rw [er]; exact T.get_upd_same _ _ _
  · rw [dec_t (by omega)] at e
    simp (disch := first | omega | (simp only [Wx]; done) | (simp only [Wy]; done) | (simp only [Wv]; omega) | with_unfolding_all rfl) only [Wz, ptrTo, sliceTo, dec_f h0]
    have er : relA L a = 1 := by simp [relA, hasA, ← e]
    refine hk h2.nx _ (Nat.lt_succ_self _) (by show h2.lo ≤ h2.nx; omega) (by omega) ?_ ((hleA.trans hle2).new _)
    rw [er]; exact T.get_upd_same _ _ _

def passA (L : List H4) (a : A6) : List Int := if hasA L a.x a.t a.r = true then [1] else []
theorem indexFuncI_w (L : List Int) (F : Int → Bool) (h : Heap) (v fv : Value) (κ : Value → Heap → Prop) (hv : Sl encI h v L) (hlen : L.length ≤ 1000000)
    (hF : ∀ p, p ∈ L → ∀ κ1 : Value → Heap → Prop, κ1 (.bool (F p)) h → CallV Try.prog fv [.int .i64 p] h κ1) (hk : κ (.int .i64 (optI (L.findIdx? F))) h) :
    CallW Try.prog 147 [v, fv] h κ := by
  refine callW_of mixed ?_
  rw [rs_147]
  simp (disch := first | omega | (simp only [Wx]; done) | (simp only [Wy]; done) | (simp only [Wv]; omega) | with_unfolding_all rfl) only [Wz, ptrTo, sliceTo, hv.len]
  refine ⟨fun n l h1 => ∃ i : Nat, slot l 12 = .int .i64 (i : Int) ∧ i ≤ L.length ∧ n = L.length - i ∧ (∀ k p, k < i → L[k]? = some p → F p = false) ∧ HQ h h1, ⟨_, 0, rfl, Nat.zero_le _, rfl, by omega, rfl⟩, ?_⟩
  rintro n l h1 ⟨i, s1, hi, rfl, hall, hh⟩
  cases (show h = h1 from hh)
  clear hh
  by_cases hlt : i < L.length
  · obtain ⟨p, hp⟩ : ∃ p, L[i]? = some p := ⟨_, List.getElem?_eq_getElem hlt⟩
    obtain ⟨b, o, hb, hat, hld⟩ := ldI hv i hp
    simp (disch := first | omega | (simp only [Wx]; done) | (simp only [Wy]; done) | (simp only [Wv]; omega) | with_unfolding_all rfl) only [Wz, ptrTo, sliceTo, s1, rs_147_0, hat, hld]
    refine hF p (List.mem_of_getElem? hp) _ ?_
    cases hc : F p with
    | true =>
      simp (disch := first | omega | (simp only [Wx]; done) | (simp only [Wy]; done) | (simp only [Wv]; omega) | with_unfolding_all rfl) only [Wz, ptrTo, sliceTo, s1]
      have : L.findIdx? F = some i := by
        rw [List.findIdx?_eq_some_iff_getElem]
        refine ⟨hlt, by rw [(List.getElem?_eq_some_iff.1 hp).2]; exact hc, ?_⟩
        intro j hj
        simpa using hall j _ hj (List.getElem?_eq_getElem (by omega))
      rw [this] at hk
      exact hk
    | false =>
      simp (disch := first | omega | (simp only [Wx]; done) | (simp only [Wy]; done) | (simp only [Wv]; omega) | with_unfolding_all rfl) only [Wz, ptrTo, sliceTo, s1]
      refine ⟨_, by omega, i + 1, rfl, by omega, rfl, ?_, rfl⟩
      intro k q hk' hq
      by_cases hki : k = i
      · subst hki; rw [hp] at hq; cases hq; exact hc
      · exact hall k q (by omega) hq
  · simp (disch := first | omega | (simp only [Wx]; done) | (simp only [Wy]; done) | (simp only [Wv]; omega) | with_unfolding_all rfl) only [Wz, ptrTo, sliceTo, s1]
    have : L.findIdx? F = none := by
      rw [List.findIdx?_eq_none_iff]
      intro x hx
      obtain ⟨k, hk1⟩ := List.getElem?_of_mem hx
      exact hall k x (by have := (List.getElem?_eq_some_iff.1 hk1).1; omega) hk1
    rw [this] at hk
    exact hk
theorem cut0 {β : Type} {fl : β} (b : Nat) (h : Heap) (κ : Value → Heap → β) : sliceB fl 3 1 (.slice (some ⟨b, 0, none⟩) 1 1) (some (.int .i64 0)) none none h κ = κ (.slice (some ⟨b, 0, none⟩) 1 1) h := id rfl
theorem cut1 {β : Type} {fl : β} (b : Nat) (h : Heap) (κ : Value → Heap → β) : sliceB fl 3 1 (.slice (some ⟨b, 0, none⟩) 1 1) none (some (.int .i64 0)) none h κ = κ (.slice (some ⟨b, 0, none⟩) 0 1) h := id rfl
theorem is6_w (c : Int) {h : Heap} {κ : Value → Heap → Prop} (hk : κ (.bool (decide (c = 6))) h) : CallW Try.prog 140 [.int .i64 c] h κ := by
  refine callW_of mixed ?_
  rw [rs_140]
  simp (disch := first | omega | (simp only [Wx]; done) | (simp only [Wy]; done) | (simp only [Wv]; omega) | with_unfolding_all rfl) only [Wz, ptrTo, sliceTo]
  exact hk
/-- slices.DeleteFunc of the one code -/
theorem pass_w (L : List H4) (a : A6) (h : Heap) (v : Value) (κ : Value → Heap → Prop) (hv : Sl enc4 h v L) (hlen : L.length ≤ 1000000) (hlo : h.lo ≤ h.nx) (hk : ∀ v' h', Sl encI h' v' (passA L a) → Le h h' → κ v' h') :
    CallW Try.prog 120 [v, aggA a] h κ := by
  refine callW_of mixed ?_
  rw [rs_120]
  simp (disch := first | omega | (simp only [Wx]; done) | (simp only [Wy]; done) | (simp only [Wv]; omega) | with_unfolding_all rfl) only [Wz, ptrTo, sliceTo, aggA, enc6]
  obtain ⟨hA, eA⟩ : ∃ hA : Heap, hA = ⟨h.nx + 1, h.bl.upd h.nx (blkA a), h.lo⟩ := ⟨_, rfl⟩
  have hleA : Le h hA := by subst eA; exact (Le.refl h).new _
  have nA : hA.nx = h.nx + 1 := by subst eA; rfl
  have lA : hA.lo = h.lo := by subst eA; rfl
  rw [← eA]
  clear eA
  refine release_w L a hA v _ (hv.le hleA) hlen (by omega) ?_
  intro b h2 hb hlb hab hg hle2
  have hall := hleA.trans hle2
  have n2 := hle2.nx
  have l2 := hle2.lo
  simp (disch := first | omega | (simp only [Wx]; done) | (simp only [Wy]; done) | (simp only [Wv]; omega) | with_unfolding_all rfl) only [Wz, ptrTo, sliceTo]
  have hs : Sl encI h2 (.slice (some ⟨b, 0, none⟩) 1 1) [relA L a] := Sl.new (L := [relA L a]) (e := 3) (op := false) hb (by simpa [encI] using hg) _
  refine callW_of mixed ?_
  rw [rs_139]
  refine indexFuncI_w [relA L a] (fun c => decide (c = 6)) h2 _ _ _ hs (by simp) ?_ ?_
  · intro p hp κ1 hk1
    simp (disch := first | omega | (simp only [Wx]; done) | (simp only [Wy]; done) | (simp only [Wv]; omega) | with_unfolding_all rfl) only [Wz, ptrTo, sliceTo, List.nil_append, List.cons_append]
    exact is6_w p hk1
  · cases hh : hasA L a.x a.t a.r with
    | true =>
      have e1 : relA L a = 1 := by simp [relA, hh]
      have e2 : passA L a = [1] := by simp [passA, hh]
      have e3 : optI (List.findIdx? (fun c => decide (c = 6)) [relA L a]) = -1 := by rw [e1]; rfl
      rw [e2] at hk
      rw [e1] at hs
      rw [e3]
      simp (disch := first | omega | (simp only [Wx]; done) | (simp only [Wy]; done) | (simp only [Wv]; omega) | with_unfolding_all rfl) only [Wz, ptrTo, sliceTo]
      exact hk _ _ hs hall
    | false =>
      have e1 : relA L a = 6 := by simp [relA, hh]
      have e2 : passA L a = [] := by simp [passA, hh]
      have e3 : optI (List.findIdx? (fun c => decide (c = 6)) [relA L a]) = 0 := by rw [e1]; rfl
      rw [e2] at hk
      rw [e3]
      simp (disch := first | omega | (simp only [Wx]; done) | (simp only [Wy]; done) | (simp only [Wv]; omega) | with_unfolding_all rfl) only [Wz, ptrTo, sliceTo]
      refine ⟨fun n l h1 => slot l 22 = .int .i64 1 ∧ slot l 19 = .int .i64 0 ∧ HQ h2 h1, ⟨0, rfl, rfl, rfl⟩, ?_⟩
      rintro n l h1 ⟨s1, s2, hq⟩
      cases (show h2 = h1 from hq)
      simp (disch := first | omega | (simp only [Wx]; done) | (simp only [Wy]; done) | (simp only [Wv]; omega) | with_unfolding_all rfl) only [Wz, ptrTo, sliceTo, rs_139_1, s1, s2, cut0, cut1]
      rw [clear_cells hg (by decide) (by rw [repeatL_1]; exact Nat.le_refl 1) rfl hlb]
      simp (disch := first | omega | (simp only [Wx]; done) | (simp only [Wy]; done) | (simp only [Wv]; omega) | with_unfolding_all rfl) only [Wz, ptrTo, sliceTo, cut1]
      exact hk _ _ (Sl.nil _ _ _) (hall.set (by omega) _)
end Go.Proofs

namespace Go.Proofs
open Go.Vai Go.Clashes
def codesA (L : List H4) (a : A6) : List Int :=
  if chkA L = true then (if a.k = 1 then acqA L a else if a.k = 2 then [relA L a] else if a.k = 4 then passA L a else if a.k = 3 then [1] else []) else []
theorem key3 (n : Int) : keyOk Try.prog 20 3 (.int .i64 n) = true := by kernel_rfl
theorem eq3k (h : Heap) (a b : Int) : eqB Try.prog h 100 3 (.int .i64 a) (.int .i64 b) = some (ieqB a b) := by kernel_rfl
theorem eq3 (h : Heap) (a b : Int) : eqB Try.prog h 100 3 (.int .i64 a) (.int .i64 b) = some (decide (a = b)) := by rw [eq3k, ieqB_eq]
def fnOf (f : FuncId) : Value := .func (.func f) ⟨[]⟩ ⟨[]⟩
def enF (k : Int) (f : FuncId) (c : Nat) : MapEntry := { key := .int .i64 k, val := fnOf f, born := c }
theorem find_nil (h : Heap) (n : Int) (i : Nat) : findB Try.prog h 3 (.int .i64 n) [] i = some none := id rfl
theorem find_eq (h : Heap) (n k : Int) (f : FuncId) (c : Nat) (es : List MapEntry) (i : Nat) (e : n = k) : findB Try.prog h 3 (.int .i64 n) (enF k f c :: es) i = some (some (i, enF k f c)) := by
  show (match eqB Try.prog h 100 3 (.int .i64 n) (.int .i64 k) with | some true => _ | some false => _ | none => _) = _
  rw [eq3, dec_t e]
theorem find_ne (h : Heap) (n k : Int) (f : FuncId) (c : Nat) (es : List MapEntry) (i : Nat) (e : ¬ n = k) : findB Try.prog h 3 (.int .i64 n) (enF k f c :: es) i = findB Try.prog h 3 (.int .i64 n) es (Nat.succ i) := by
  show (match eqB Try.prog h 100 3 (.int .i64 n) (.int .i64 k) with | some true => _ | some false => _ | none => _) = _
  rw [eq3, dec_f e]
theorem upd_new {h : Heap} {b : Nat} {es : List MapEntry} {c : Nat} {n : Int} {f : FuncId} (hg : h.bl.get b = some (.map es c)) (hf : findB Try.prog h 3 (.int .i64 n) es 0 = some none) (hlo : h.lo ≤ b) (κ : Value → Heap → Prop) :
    mapUpdateB False Try.prog 3 (.map (some b)) (.int .i64 n) (.func (.func f) ⟨[]⟩ ⟨[]⟩) h κ = κ undef ⟨h.nx, h.bl.upd b (.map (es ++ [enF n f c]) (c + 1)), h.lo⟩ := by
  unfold mapUpdateB
  simp only [key3, hg, hf, snocK_eq, fnK_eq]
  rw [setBlock_eq _ _ _ _ hlo]; rfl
theorem look_fn {h : Heap} {b : Nat} {es : List MapEntry} {c i : Nat} {n k : Int} {f : FuncId} {cc : Nat} (hg : h.bl.get b = some (.map es c)) (hf : findB Try.prog h 3 (.int .i64 n) es 0 = some (some (i, enF k f cc))) (κ : Value → Heap → Prop) :
    lookupB False Try.prog 3 Value.nilFunc true (.map (some b)) (.int .i64 n) h κ = κ (.tuple ⟨[fnOf f, .bool true]⟩) h := by
  unfold lookupB lookupE
  simp only [key3, hg, hf]; rfl
theorem look_no {h : Heap} {b : Nat} {es : List MapEntry} {c : Nat} {n : Int} (hg : h.bl.get b = some (.map es c)) (hf : findB Try.prog h 3 (.int .i64 n) es 0 = some none) (κ : Value → Heap → Prop) :
    lookupB False Try.prog 3 Value.nilFunc true (.map (some b)) (.int .i64 n) h κ = κ (.tuple ⟨[Value.nilFunc, .bool false]⟩) h := by
  unfold lookupB lookupE
  simp only [key3, hg, hf]
theorem codes_w (L : List H4) (a : A6) (h : Heap) (v : Value) (κ : Value → Heap → Prop) (hv : Sl enc4 h v L) (hc : CutH h v L.length) (hlen : L.length ≤ 1000000) (hlo : h.lo ≤ h.nx) (hk : ∀ v' h', Sl encI h' v' (codesA L a) → Le h h' → κ v' h') :
    CallW Try.prog 62 [v, aggA a] h κ := by
  refine callW_of mixed ?_
  rw [rs_62]
  simp (disch := first | omega | (simp only [Wx]; done) | (simp only [Wy]; done) | (simp only [Wv]; omega) | with_unfolding_all rfl) only [Wz, ptrTo, sliceTo, aggA, enc6]
  obtain ⟨hA, eA⟩ : ∃ hA : Heap, hA = ⟨h.nx + 1, h.bl.upd h.nx (blkA a), h.lo⟩ := ⟨_, rfl⟩
  have hleA : Le h hA := by subst eA; exact (Le.refl h).new _
  have gA : hA.bl.get h.nx = some (blkA a) := by subst eA; exact T.get_upd_same _ _ _
  have nA : hA.nx = h.nx + 1 := by subst eA; rfl
  have lA : hA.lo = h.lo := by subst eA; rfl
  rw [← eA]
  clear eA
  refine acheck_w L hA v _ (hv.le hleA) (hc.le hleA) hlen (by omega) ?_
  intro h2 hle2
  have n2 := hle2.nx
  have l2 := hle2.lo
  have g2 := (hle2.get h.nx (by omega)).trans gA
  have hall2 := hleA.trans hle2
  by_cases hch : chkA L = true
  case neg =>
    simp (disch := first | omega | (simp only [Wx]; done) | (simp only [Wy]; done) | (simp only [Wv]; omega) | with_unfolding_all rfl) only [Wz, ptrTo, sliceTo, if_neg hch]
    have e : codesA L a = [] := by simp [codesA, hch]
    rw [e] at hk
    exact hk _ _ (Sl.nil _ _ _) hall2
  simp (disch := first | omega | (simp only [Wx]; done) | (simp only [Wy]; done) | (simp only [Wv]; omega) | with_unfolding_all rfl) only [Wz, ptrTo, sliceTo, if_pos hch, rs_62_0]
  obtain ⟨hB, eB⟩ : ∃ hB : Heap, hB = ⟨h2.nx + 1, h2.bl.upd h2.nx (.map [enF 1 118 0, enF 2 119 1, enF 4 120 2, enF 3 117 3] 4), h2.lo⟩ := ⟨_, rfl⟩
  have hleB : Le h2 hB := by subst eB; exact (Le.refl h2).new _
  have gB : hB.bl.get h2.nx = some (.map [enF 1 118 0, enF 2 119 1, enF 4 120 2, enF 3 117 3] 4) := by subst eB; exact T.get_upd_same _ _ _
  have nB : hB.nx = h2.nx + 1 := by subst eB; rfl
  have lB : hB.lo = h2.lo := by subst eB; rfl
  have gBA := (hleB.get h.nx (by omega)).trans g2
  have hall := hall2.trans hleB
  refine Eq.mpr (upd_new (es := []) (c := 0) (T.get_upd_same _ _ _) (find_nil _ _ _) (by show h2.lo ≤ h2.nx; omega) _) ?_
  rw [T.upd_same]
  refine Eq.mpr (upd_new (es := [enF 1 118 0]) (c := 1) (T.get_upd_same _ _ _) ((find_ne _ _ _ _ _ _ _ (by decide)).trans (find_nil _ _ _)) (by show h2.lo ≤ h2.nx; omega) _) ?_
  rw [T.upd_same]
  refine Eq.mpr (upd_new (es := [enF 1 118 0, enF 2 119 1]) (c := 2) (T.get_upd_same _ _ _) ((find_ne _ _ _ _ _ _ _ (by decide)).trans ((find_ne _ _ _ _ _ _ _ (by decide)).trans (find_nil _ _ _))) (by show h2.lo ≤ h2.nx; omega) _) ?_
  rw [T.upd_same]
  refine Eq.mpr (upd_new (es := [enF 1 118 0, enF 2 119 1, enF 4 120 2]) (c := 3) (T.get_upd_same _ _ _) ((find_ne _ _ _ _ _ _ _ (by decide)).trans ((find_ne _ _ _ _ _ _ _ (by decide)).trans ((find_ne _ _ _ _ _ _ _ (by decide)).trans (find_nil _ _ _)))) (by show h2.lo ≤ h2.nx; omega) _) ?_
  rw [T.upd_same]
  simp only [List.nil_append, List.cons_append, Nat.zero_add, Nat.reduceAdd]
  rw [← eB]
  clear eB
  simp (disch := first | omega | (simp only [Wx]; done) | (simp only [Wy]; done) | (simp only [Wv]; omega) | with_unfolding_all rfl) only [Wz, ptrTo, sliceTo, g2, gBA]
  have cod := hk
  unfold codesA at cod
  rw [if_pos hch] at cod
  by_cases k1 : a.k = 1
  · refine Eq.mpr (look_fn gB (find_eq _ _ _ _ _ _ _ k1) _) ?_
    simp (disch := first | omega | (simp only [Wx]; done) | (simp only [Wy]; done) | (simp only [Wv]; omega) | with_unfolding_all rfl) only [Wz, ptrTo, sliceTo, gBA, fnOf, List.nil_append, List.append_nil, List.cons_append]
    rw [if_pos k1] at cod
    exact acquire_w L a hB v _ (hv.le hall) hlen (by omega) fun v' h' hv' hl' => cod v' h' hv' (hall.trans hl')
  rw [if_neg k1] at cod
  by_cases k2 : a.k = 2
  · refine Eq.mpr (look_fn gB ((find_ne _ _ _ _ _ _ _ k1).trans (find_eq _ _ _ _ _ _ _ k2)) _) ?_
    simp (disch := first | omega | (simp only [Wx]; done) | (simp only [Wy]; done) | (simp only [Wv]; omega) | with_unfolding_all rfl) only [Wz, ptrTo, sliceTo, gBA, fnOf, List.nil_append, List.append_nil, List.cons_append]
    rw [if_pos k2] at cod
    exact release_w L a hB v _ (hv.le hall) hlen (by omega) fun b h' hb _ _ hg hl' => cod _ h' (Sl.new (L := [relA L a]) (e := 3) (op := false) hb (by simpa [encI] using hg) _) (hall.trans hl')
  rw [if_neg k2] at cod
  by_cases k4 : a.k = 4
  · refine Eq.mpr (look_fn gB ((find_ne _ _ _ _ _ _ _ k1).trans ((find_ne _ _ _ _ _ _ _ k2).trans (find_eq _ _ _ _ _ _ _ k4))) _) ?_
    simp (disch := first | omega | (simp only [Wx]; done) | (simp only [Wy]; done) | (simp only [Wv]; omega) | with_unfolding_all rfl) only [Wz, ptrTo, sliceTo, gBA, fnOf, List.nil_append, List.append_nil, List.cons_append]
    rw [if_pos k4] at cod
    exact pass_w L a hB v _ (hv.le hall) hlen (by omega) fun v' h' hv' hl' => cod v' h' hv' (hall.trans hl')
  rw [if_neg k4] at cod
  by_cases k3 : a.k = 3
  · refine Eq.mpr (look_fn gB ((find_ne _ _ _ _ _ _ _ k1).trans ((find_ne _ _ _ _ _ _ _ k2).trans ((find_ne _ _ _ _ _ _ _ k4).trans (find_eq _ _ _ _ _ _ _ k3)))) _) ?_
    simp (disch := first | omega | (simp only [Wx]; done) | (simp only [Wy]; done) | (simp only [Wv]; omega) | with_unfolding_all rfl) only [Wz, ptrTo, sliceTo, gBA, fnOf, List.nil_append, List.append_nil, List.cons_append]
    rw [if_pos k3] at cod
    refine callW_of mixed ?_
    rw [rs_117]
    simp (disch := first | omega | (simp only [Wx]; done) | (simp only [Wy]; done) | (simp only [Wv]; omega) | with_unfolding_all rfl) only [Wz, ptrTo, sliceTo]
    exact cod _ _ (Sl.new (L := [1]) (e := 3) (op := false) (Nat.lt_succ_self _) (T.get_upd_same _ _ _) _) ((hall.new _).new _)
  rw [if_neg k3] at cod
  refine Eq.mpr (look_no gB ((find_ne _ _ _ _ _ _ _ k1).trans ((find_ne _ _ _ _ _ _ _ k2).trans ((find_ne _ _ _ _ _ _ _ k4).trans ((find_ne _ _ _ _ _ _ _ k3).trans (find_nil _ _ _))))) _) ?_
  simp (disch := first | omega | (simp only [Wx]; done) | (simp only [Wy]; done) | (simp only [Wv]; omega) | with_unfolding_all rfl) only [Wz, ptrTo, sliceTo]
  exact cod _ _ (Sl.nil _ _ _) hall
end Go.Proofs

namespace Go.Proofs
open Go.Vai Go.Clashes
def ltA (p q : H4) : Prop := p.x < q.x ∨ (p.x = q.x ∧ (p.t < q.t ∨ (p.t = q.t ∧ p.r < q.r)))
theorem cmpA_lt (p q : H4) : cmpA p q < 0 ↔ ltA p q := by
  unfold cmpA nmCmp cmpI ltA
  repeat' split
  all_goals omega
theorem cmpA_eq (p q : H4) : cmpA p q = 0 ↔ p.x = q.x ∧ p.t = q.t ∧ p.r = q.r := by
  unfold cmpA nmCmp cmpI
  repeat' split
  all_goals omega
theorem ltA_trans {p q s : H4} (h : ltA p q) (k : ltA q s) : ltA p s := by unfold ltA at *; omega
theorem ltA_irr {p q : H4} (h : ltA p q) : ¬ (p.x = q.x ∧ p.t = q.t ∧ p.r = q.r) := by unfold ltA at h; omega
theorem ltA_tri (p q : H4) : ltA p q ∨ (p.x = q.x ∧ p.t = q.t ∧ p.r = q.r) ∨ ltA q p := by unfold ltA; omega
/-- what Check tells -/
structure StA (L : List H4) : Prop where
  sorted : L.Pairwise ltA
  asked : ∀ p ∈ L, askA p.t p.r p.m = true
  good : L.Pairwise fun p q => badH p q = false
theorem pairwise_get {α : Type} {R : α → α → Prop} {L : List α} : L.Pairwise R ↔ ∀ (i j : Nat) (p q : α), i < j → L[i]? = some p → L[j]? = some q → R p q := by
  rw [List.pairwise_iff_getElem]
  constructor
  · intro h i j p q hij hp hq
    obtain ⟨hi, rfl⟩ := List.getElem?_eq_some_iff.1 hp
    obtain ⟨hj, rfl⟩ := List.getElem?_eq_some_iff.1 hq
    exact h i j hi hj hij
  · intro h i j hi hj hij
    exact h i j _ _ hij (List.getElem?_eq_getElem hi) (List.getElem?_eq_getElem hj)
theorem chkA_iff (L : List H4) : chkA L = true ↔ StA L := by
  unfold chkA
  rw [List.all_eq_true]
  constructor
  · intro h
    have h' : ∀ i p, L[i]? = some p → askA p.t p.r p.m = true ∧ riseA L i = true ∧ ((L.take i).any fun o => badH o p) = false := by
      intro i p hp
      have hi := (List.getElem?_eq_some_iff.1 hp).1
      have := h i (by simpa using hi)
      rw [okI_at hp] at this
      simp only [Bool.and_eq_true, Bool.not_eq_true'] at this
      exact ⟨this.1.1, this.1.2, this.2⟩
    refine ⟨?_, ?_, ?_⟩
    · have step : ∀ i p q, L[i]? = some p → L[i + 1]? = some q → ltA p q := by
        intro i p q hp hq
        have := (h' (i + 1) q hq).2.1
        rw [rise_s (by omega) (by simpa using hp) hq] at this
        exact (cmpA_lt p q).1 (by simpa using this)
      have key : ∀ (d i : Nat) (p q : H4), L[i]? = some p → L[i + d + 1]? = some q → ltA p q := by
        intro d
        induction d with
        | zero => intro i p q hp hq; exact step i p q hp hq
        | succ d ih =>
          intro i p q hp hq
          have hlt := (List.getElem?_eq_some_iff.1 hq).1
          have hm : L[i + d + 1]? = some L[i + d + 1] := List.getElem?_eq_getElem (by omega)
          exact ltA_trans (ih i p _ hp hm) (step _ _ _ hm (by rw [show i + d + 1 + 1 = i + (d + 1) + 1 by omega]; exact hq))
      rw [pairwise_get]
      intro i j p q hij hp hq
      refine key (j - i - 1) i p q hp (by rw [show i + (j - i - 1) + 1 = j by omega]; exact hq)
    · intro p hp
      obtain ⟨i, hi⟩ := List.getElem?_of_mem hp
      exact (h' i p hi).1
    · rw [pairwise_get]
      intro i j p q hij hp hq
      have := (h' j q hq).2.2
      rw [List.any_eq_false] at this
      have hm : p ∈ L.take j := List.mem_of_getElem? (by rw [List.getElem?_take_of_lt hij]; exact hp)
      simpa using this p hm
  · rintro ⟨h1, h2, h3⟩ i hi
    have hi' : i < L.length := by simpa using hi
    have hp : L[i]? = some L[i] := List.getElem?_eq_getElem hi'
    rw [okI_at hp]
    simp only [Bool.and_eq_true, Bool.not_eq_true']
    refine ⟨⟨h2 _ (List.getElem_mem hi'), ?_⟩, ?_⟩
    · by_cases h0 : i = 0
      · subst h0; exact rise_0 L
      · have hq : L[i - 1]? = some L[i - 1] := List.getElem?_eq_getElem (by omega)
        rw [rise_s h0 hq hp]
        have := pairwise_get.1 h1 (i - 1) i _ _ (by omega) hq hp
        exact decide_eq_true ((cmpA_lt _ _).2 this)
    · rw [List.any_eq_false]
      intro o ho
      obtain ⟨k, hk⟩ := List.getElem?_of_mem ho
      have hki : k < i := by
        have := (List.getElem?_eq_some_iff.1 hk).1
        simp at this; omega
      rw [List.getElem?_take_of_lt hki] at hk
      have := pairwise_get.1 h3 k i _ _ hki hk hp
      simp [this]
/-- the place of one -/
def posA (L : List H4) (w : H4) : Nat := (L.filter fun p => decide (cmpA p w < 0)).length
theorem pos_of {L : List H4} {w : H4} {i : Nat} (hi : i ≤ L.length) (h1 : ∀ (k : Nat) (p : H4), k < i → L[k]? = some p → cmpA p w < 0) (h2 : ∀ (k : Nat) (p : H4), i ≤ k → L[k]? = some p → ¬ cmpA p w < 0) : posA L w = i := by
  have e : L = L.take i ++ L.drop i := (List.take_append_drop i L).symm
  unfold posA
  rw [e, List.filter_append]
  have a1 : (L.take i).filter (fun p => decide (cmpA p w < 0)) = L.take i := by
    rw [List.filter_eq_self]
    intro p hp
    obtain ⟨k, hk⟩ := List.getElem?_of_mem hp
    have hki : k < i := by have := (List.getElem?_eq_some_iff.1 hk).1; simp at this; omega
    rw [List.getElem?_take_of_lt hki] at hk
    exact decide_eq_true (h1 k p hki hk)
  have a2 : (L.drop i).filter (fun p => decide (cmpA p w < 0)) = [] := by
    rw [List.filter_eq_nil_iff]
    intro p hp
    obtain ⟨k, hk⟩ := List.getElem?_of_mem hp
    rw [List.getElem?_drop] at hk
    simpa using h2 (i + k) p (by omega) hk
  rw [a1, a2, List.append_nil, List.length_take]
  omega
def setA (L : List H4) (w : H4) : List H4 := if eqA L (posA L w) w = true then L.set (posA L w) w else L.take (posA L w) ++ [w] ++ L.drop (posA L w)
def goneA (a : A6) (p : H4) : Bool := decide (p.x = a.x) && (decide (a.k = 3) || decide (p.t = a.t ∧ p.r = a.r))
def nextA (L : List H4) (a : A6) : List H4 := if a.c = 1 then (if a.k = 1 then setA L (wantA L a.x a.t a.r a.m) else L.filter fun p => !goneA a p) else L
def stepA (L : List H4) (a : A6) : Option (List H4) := if a.c ∈ codesA L a then some (nextA L a) else none
theorem step_chk {L : List H4} {a : A6} (h : a.c ∈ codesA L a) : StA L := by
  rw [← chkA_iff]
  unfold codesA at h
  split at h
  · assumption
  · cases h
theorem sorted_mono {L : List H4} (s : StA L) (w : H4) (i j : Nat) (p q : H4) (hij : i ≤ j) (hp : L[i]? = some p) (hq : L[j]? = some q) (h : cmpA q w < 0) : cmpA p w < 0 := by
  by_cases e : i = j
  · subst e; rw [hp] at hq; cases hq; exact h
  · rw [cmpA_lt] at *
    exact ltA_trans (pairwise_get.1 s.sorted i j p q (by omega) hp hq) h
end Go.Proofs

namespace Go.Proofs
open Go.Vai Go.Clashes
theorem gone1_w (a : A6) (p : H4) (b : Nat) (h : Heap) (κ : Value → Heap → Prop) (hlo : h.lo ≤ h.nx) (hb : b < h.nx) (hg : h.bl.get b = some (blkA a)) (hk : ∀ h', Le h h' → κ (.bool (goneA a p)) h') :
    CallW Try.prog 115 [aggH p, ptrTo b] h κ := by
  have hle := (Le.refl h).new (cellsO [.int .i64 p.x, .int .i64 p.t, .int .i64 p.r, .int .i64 p.m] 30 false)
  have hk := hk _ hle
  refine callW_of mixed ?_
  rw [rs_115]
  by_cases h1 : p.x = a.x
  · by_cases h2 : a.k = 3
    · simp (disch := first | omega | (simp only [Wx]; done) | (simp only [Wy]; done) | (simp only [Wv]; omega) | with_unfolding_all rfl) only [Wz, ptrTo, sliceTo, aggH, enc4, hg, dec_t h1, dec_t h2]
      simpa [goneA, h1, h2] using hk
    · simp (disch := first | omega | (simp only [Wx]; done) | (simp only [Wy]; done) | (simp only [Wv]; omega) | with_unfolding_all rfl) only [Wz, ptrTo, sliceTo, aggH, enc4, hg, dec_t h1, dec_f h2, bin_eq27]
      simpa [goneA, h1, h2] using hk
  · simp (disch := first | omega | (simp only [Wx]; done) | (simp only [Wy]; done) | (simp only [Wv]; omega) | with_unfolding_all rfl) only [Wz, ptrTo, sliceTo, aggH, enc4, hg, dec_f h1]
    simpa [goneA, h1] using hk
/-- what Step answers -/
def StepOk6 (L : List H4) (a : A6) (h : Heap) (r : Value) (h' : Heap) : Prop :=
  (stepA L a = none ∧ r = .tuple ⟨[.slice none 0 0, .bool false]⟩) ∨ ∃ v' L', stepA L a = some L' ∧ r = .tuple ⟨[v', .bool true]⟩ ∧ Sl enc4 h' v' L' ∧ CutH h' v' L'.length ∧ veq 8 v' v' = true
theorem own_veq {α : Type} {enc : α → List Value} {a h : Heap} {e : TypeId} {v : Value} {L : List α} (ho : Own enc a e h v L) : veq 8 v v = true := by
  rcases ho with ⟨rfl, rfl | ⟨b, o, rfl⟩⟩ | ⟨b, rfl, _⟩
  · exact veq_sln _ _
  · exact veq_sli _ _ _ _
  · exact veq_sli _ _ _ _
theorem cut_veq {e s : Nat} {h : Heap} {v : Value} {k : Nat} (c : Cut e s h v k) : veq 8 v v = true := by
  rcases c with ⟨_, rfl⟩ | ⟨_, b, o, rfl⟩ | ⟨b, o, cap, rfl, _⟩ | ⟨b, vs, n, rfl, _⟩
  · exact veq_sln _ _
  · exact veq_sli _ _ _ _
  · exact veq_sli _ _ _ _
  · exact veq_sli _ _ _ _
theorem step_w (L : List H4) (a : A6) (h : Heap) (v : Value) (κ : Value → Heap → Prop) (hv : Sl enc4 h v L) (hc : CutH h v L.length) (hlen : L.length ≤ 90000) (hlo : h.lo ≤ h.nx)
    (hk : ∀ r h', StepOk6 L a h r h' → Le h h' → κ r h') : CallW Try.prog 60 [v, aggA a] h κ := by
  refine callW_of mixed ?_
  rw [rs_60]
  simp (disch := first | omega | (simp only [Wx]; done) | (simp only [Wy]; done) | (simp only [Wv]; omega) | with_unfolding_all rfl) only [Wz, ptrTo, sliceTo, aggA, enc6]
  obtain ⟨hA, eA⟩ : ∃ hA : Heap, hA = ⟨h.nx + 1, h.bl.upd h.nx (blkA a), h.lo⟩ := ⟨_, rfl⟩
  have hleA : Le h hA := by subst eA; exact (Le.refl h).new _
  have gA : hA.bl.get h.nx = some (blkA a) := by subst eA; exact T.get_upd_same _ _ _
  have nA : hA.nx = h.nx + 1 := by subst eA; rfl
  have lA : hA.lo = h.lo := by subst eA; rfl
  rw [← eA]
  clear eA
  refine codes_w L a hA v _ (hv.le hleA) (hc.le hleA) (by omega) (by omega) ?_
  intro cv h2 hcv hle2
  have n2 := hle2.nx
  have l2 := hle2.lo
  have g2 := (hle2.get h.nx (by omega)).trans gA
  have hall2 := hleA.trans hle2
  simp (disch := first | omega | (simp only [Wx]; done) | (simp only [Wy]; done) | (simp only [Wv]; omega) | with_unfolding_all rfl) only [Wz, ptrTo, sliceTo, g2]
  have hcl : (codesA L a).length ≤ 1000000 := by
    unfold codesA acqA passA
    repeat' split
    all_goals simp
  refine containsI_w _ a.c h2 cv _ hcv hcl ?_
  by_cases hin : a.c ∈ codesA L a
  case neg =>
    simp (disch := first | omega | (simp only [Wx]; done) | (simp only [Wy]; done) | (simp only [Wv]; omega) | with_unfolding_all rfl) only [Wz, ptrTo, sliceTo, dec_f hin]
    exact hk _ _ (.inl ⟨if_neg hin, rfl⟩) hall2
  have st := step_chk hin
  simp (disch := first | omega | (simp only [Wx]; done) | (simp only [Wy]; done) | (simp only [Wv]; omega) | with_unfolding_all rfl) only [Wz, ptrTo, sliceTo, dec_t hin, rs_60_2]
  refine clone_w L h2 v _ (hv.le hall2) (by omega) (by omega) ?_
  intro v3 h3 ho3 hle3
  have n3 := hle3.nx
  have l3 := hle3.lo
  have g3 := (hle3.get h.nx (by omega)).trans g2
  have hall3 := hall2.trans hle3
  refine ⟨fun l h' => ∃ v', slot l 38 = v' ∧ Sl enc4 h' v' (nextA L a) ∧ CutH h' v' (nextA L a).length ∧ Le h h', ?_, ?_⟩
  rotate_left
  · rintro l h' ⟨v', s1, hs, hcu, hl⟩
    refine hk _ _ (.inr ⟨v', nextA L a, if_pos hin, by rw [s1], hs, hcu, cut_veq hcu⟩) hl
  by_cases hc1 : a.c = 1
  case neg =>
    simp (disch := first | omega | (simp only [Wx]; done) | (simp only [Wy]; done) | (simp only [Wv]; omega) | with_unfolding_all rfl) only [Wz, ptrTo, sliceTo, g3, dec_f hc1]
    have e : nextA L a = L := if_neg hc1
    rw [e]
    exact ⟨v3, rfl, ho3.sl, Cut.own enc4_len ho3, hall3⟩
  simp (disch := first | omega | (simp only [Wx]; done) | (simp only [Wy]; done) | (simp only [Wv]; omega) | with_unfolding_all rfl) only [Wz, ptrTo, sliceTo, g3, dec_t hc1, rs_60_1]
  have en : nextA L a = if a.k = 1 then setA L (wantA L a.x a.t a.r a.m) else L.filter fun p => !goneA a p := if_pos hc1
  by_cases hk1 : a.k = 1
  case neg =>
    rw [if_neg hk1] at en
    rw [en]
    simp (disch := first | omega | (simp only [Wx]; done) | (simp only [Wy]; done) | (simp only [Wv]; omega) | with_unfolding_all rfl) only [Wz, ptrTo, sliceTo, dec_f hk1]
    refine deleteCut_w h2 h3 L (goneA a) v3 _ _ hle3 ho3 (by omega) (by omega) ?_ ?_
    · intro p h4 κ4 hle4 hk4
      have n4 := hle4.nx
      have l4 := hle4.lo
      simp (disch := first | omega | (simp only [Wx]; done) | (simp only [Wy]; done) | (simp only [Wv]; omega) | with_unfolding_all rfl) only [Wz, ptrTo, sliceTo, List.nil_append, List.cons_append]
      exact gone1_w a p h.nx h4 κ4 (by omega) (by omega) ((hle4.get _ (by omega)).trans g2) hk4
    · intro v' h' hs' hc' hl'
      exact ⟨v', rfl, hs', hc', hall2.trans hl'⟩
  rw [if_pos hk1] at en
  rw [en]
  simp (disch := first | omega | (simp only [Wx]; done) | (simp only [Wy]; done) | (simp only [Wv]; omega) | with_unfolding_all rfl) only [Wz, ptrTo, sliceTo, dec_t hk1, rs_60_0, g3]
  refine wanted_w L a.x a.t a.r a.m h3 v _ (hv.le hall3) (by omega) (by omega) ?_
  intro h4 hle4
  have n4 := hle4.nx
  have l4 := hle4.lo
  obtain ⟨w, ew⟩ : ∃ w, wantA L a.x a.t a.r a.m = w := ⟨_, rfl⟩
  rw [ew]
  simp (disch := first | omega | (simp only [Wx]; done) | (simp only [Wy]; done) | (simp only [Wv]; omega) | with_unfolding_all rfl) only [Wz, ptrTo, sliceTo, aggH, enc4]
  obtain ⟨hB, eB⟩ : ∃ hB : Heap, hB = ⟨h4.nx + 1, h4.bl.upd h4.nx (cellsO [.int .i64 w.x, .int .i64 w.t, .int .i64 w.r, .int .i64 w.m] 30 false), h4.lo⟩ := ⟨_, rfl⟩
  have hleB : Le h4 hB := by subst eB; exact (Le.refl h4).new _
  have gB : hB.bl.get h4.nx = some (cellsO [.int .i64 w.x, .int .i64 w.t, .int .i64 w.r, .int .i64 w.m] 30 false) := by subst eB; exact T.get_upd_same _ _ _
  have nB : hB.nx = h4.nx + 1 := by subst eB; rfl
  have lB : hB.lo = h4.lo := by subst eB; rfl
  rw [← eB]
  clear eB
  have hallB := (hall3.trans hle4).trans hleB
  refine bsearch_w L w hB v3 _ (ho3.sl.le (hle4.trans hleB)) (by omega) (by omega) (sorted_mono st w) ?_
  intro i h5 hi hlow hhigh hle5
  have n5 := hle5.nx
  have l5 := hle5.lo
  have g5 := (hle5.get h4.nx (by omega)).trans gB
  have ep := pos_of hi hlow hhigh
  have ho5 : Own enc4 h2 30 h5 v3 L := ho3.le ((hle4.trans hleB).trans hle5)
  have hall5 := hallB.trans hle5
  have hle25 : Le h2 h5 := ((hle3.trans hle4).trans hleB).trans hle5
  cases he : eqA L i w with
  | true =>
    have hin5 : i < L.length := by
      unfold eqA at he
      split at he
      · rename_i q hq; exact (List.getElem?_eq_some_iff.1 hq).1
      · cases he
    have es : setA L w = L.set i w := by unfold setA; rw [ep, he]; rfl
    rw [es]
    rcases ho5 with ⟨rfl, _⟩ | ⟨b, rfl, b1, b2, b3, b4⟩
    · simp at hin5
    · have hfl := flat4 L
      have hov := over_flat L i w hin5
      simp only [enc4] at hov
      simp (disch := first | omega | (simp only [Wx]; done) | (simp only [Wy]; done) | (simp only [Wv]; omega) | with_unfolding_all rfl) only [Wz, ptrTo, sliceTo, g5, indexAddr_eq, b4, enc4, hov]
      refine ⟨_, rfl, ⟨_, openCap, by rw [List.length_set], fun _ => ⟨b, 0, rfl, b2, by rw [T.get_upd_same]; exact Has.all⟩⟩, .inr (.inr (.inr ⟨b, _, L.length, by rw [List.length_set], b2, T.get_upd_same _ _ _, by rw [flat4, List.length_set], by rw [List.length_set]; exact Nat.le_refl _⟩)), hall2.trans (hle25.set b1 _)⟩
  | false =>
    have es : setA L w = L.take i ++ [w] ++ L.drop i := by unfold setA; rw [ep, he]; rfl
    rw [es]
    simp (disch := first | omega | (simp only [Wx]; done) | (simp only [Wy]; done) | (simp only [Wv]; omega) | with_unfolding_all rfl) only [Wz, ptrTo, sliceTo, g5]
    refine insert_w (a := h2) (p := w) hi (ho5.le ((Le.refl h5).new _)) (hle25.new _) (by omega) (by show h5.lo ≤ h5.nx + 1; omega) (T.get_upd_same _ _ _) (Nat.lt_succ_self _) ?_ _ ?_
    · intro hlt b n c hv'
      rcases ho5 with ⟨e, _⟩ | ⟨b', e, _, b2, _⟩
      · subst e; simp at hlt
      · rw [hv'] at e; cases e; omega
    · intro v' h' ho' hl'
      exact ⟨v', rfl, ho'.sl, Cut.own enc4_len ho', hall2.trans hl'⟩
end Go.Proofs

namespace Go.Proofs
open Go.Vai Go.Clashes
def keyA (p q : H4) : Prop := p.x = q.x ∧ p.t = q.t ∧ p.r = q.r
instance (p q : H4) : Decidable (keyA p q) := inferInstanceAs (Decidable (_ ∧ _))
theorem keyA_symm {p q : H4} (h : keyA p q) : keyA q p := ⟨h.1.symm, h.2.1.symm, h.2.2.symm⟩
theorem keyA_trans {p q s : H4} (h : keyA p q) (k : keyA q s) : keyA p s := ⟨h.1.trans k.1, h.2.1.trans k.2.1, h.2.2.trans k.2.2⟩
theorem mine_key (x t r : Int) (p : H4) : mine x t r p = true ↔ p.x = x ∧ p.t = t ∧ p.r = r := by simp [mine]
theorem sorted_key_eq {L : List H4} (hs : L.Pairwise ltA) {p q : H4} (hp : p ∈ L) (hq : q ∈ L) (h : keyA p q) : p = q := by
  obtain ⟨i, hi⟩ := List.getElem?_of_mem hp
  obtain ⟨j, hj⟩ := List.getElem?_of_mem hq
  rcases Nat.lt_trichotomy i j with hij | rfl | hij
  · exact absurd h (ltA_irr (pairwise_get.1 hs i j p q hij hi hj))
  · rw [hi] at hj; cases hj; rfl
  · exact absurd (keyA_symm h) (ltA_irr (pairwise_get.1 hs j i q p hij hj hi))
theorem modeA_mem {L : List H4} (hs : L.Pairwise ltA) {p : H4} (hp : p ∈ L) {x t r : Int} (e : p.x = x ∧ p.t = t ∧ p.r = r) : modeA L x t r = p.m := by
  unfold modeA
  cases hf : L.find? (mine x t r) with
  | none =>
    rw [List.find?_eq_none] at hf
    exact absurd ((mine_key x t r p).2 e) (hf p hp)
  | some q =>
    have h1 := (mine_key x t r q).1 (List.find?_some hf)
    have h2 := List.mem_of_find?_eq_some hf
    have := sorted_key_eq hs h2 hp ⟨h1.1.trans e.1.symm, h1.2.1.trans e.2.1.symm, h1.2.2.trans e.2.2.symm⟩
    rw [this]
theorem modeA_none {L : List H4} {x t r : Int} (h : ∀ p ∈ L, ¬ (p.x = x ∧ p.t = t ∧ p.r = r)) : modeA L x t r = 0 := by
  unfold modeA
  have : L.find? (mine x t r) = none := by
    rw [List.find?_eq_none]
    intro p hp hm
    exact h p hp ((mine_key x t r p).1 hm)
  rw [this]
theorem modeA_cases (L : List H4) (x t r : Int) : (∃ p ∈ L, p.x = x ∧ p.t = t ∧ p.r = r) ∨ ∀ p ∈ L, ¬ (p.x = x ∧ p.t = t ∧ p.r = r) := by
  by_cases h : ∃ p ∈ L, p.x = x ∧ p.t = t ∧ p.r = r
  · exact .inl h
  · exact .inr fun p hp e => h ⟨p, hp, e⟩
theorem askA_iff (t r m : Int) : askA t r m = true ↔ okN t r = true ∧ kn m = true ∧ m ≠ 0 := by
  simp [askA, and_assoc]
theorem modeA_kn {L : List H4} (s : StA L) (x t r : Int) : kn (modeA L x t r) = true := by
  rcases modeA_cases L x t r with ⟨p, hp, e⟩ | h
  · rw [modeA_mem s.sorted hp e]; exact ((askA_iff _ _ _).1 (s.asked p hp)).2.1
  · rw [modeA_none h]; rfl
theorem hasA_iff (L : List H4) (x t r : Int) : hasA L x t r = true ↔ ∃ p ∈ L, p.x = x ∧ p.t = t ∧ p.r = r := by
  unfold hasA
  rw [List.any_eq_true]
  constructor
  · rintro ⟨p, hp, h⟩; exact ⟨p, hp, (mine_key x t r p).1 h⟩
  · rintro ⟨p, hp, h⟩; exact ⟨p, hp, (mine_key x t r p).2 h⟩
theorem sup_kn {a b : Int} (ha : kn a = true) (hb : kn b = true) : kn (supM a b) = true := (cov_kn (sup_of ha hb).2.1).1
theorem badH_iff (p q : H4) : badH p q = false ↔ (p.t = q.t ∧ p.r = q.r → p.x ≠ q.x → cmp p.m q.m = true) := by
  unfold badH
  by_cases h1 : p.t = q.t ∧ p.r = q.r
  · by_cases h2 : p.x = q.x
    · simp [h1, h2]
    · simp [h1, h2]
  · simp only [h1, decide_false, Bool.false_and, false_implies]
theorem badH_symm {p q : H4} (h : badH p q = false) : badH q p = false := by
  rw [badH_iff] at *
  intro h1 h2
  rw [cmp_symm]
  exact h ⟨h1.1.symm, h1.2.symm⟩ (fun e => h2 e.symm)
/-- two sorted lists of the same ones -/
theorem sorted_ext {L M : List H4} (hL : L.Pairwise ltA) (hM : M.Pairwise ltA) (h : ∀ p, p ∈ L ↔ p ∈ M) : L = M := by
  induction L generalizing M with
  | nil =>
    cases M with
    | nil => rfl
    | cons q M => exact absurd ((h q).2 (.head _)) (by simp)
  | cons p L ih =>
    cases M with
    | nil => exact absurd ((h p).1 (.head _)) (by simp)
    | cons q M =>
      rw [List.pairwise_cons] at hL hM
      have e : p = q := by
        rcases List.mem_cons.1 ((h p).1 (.head _)) with e | e
        · exact e
        · rcases List.mem_cons.1 ((h q).2 (.head _)) with e' | e'
          · exact e'.symm
          · have a := hM.1 p e
            have b := hL.1 q e'
            exact absurd (ltA_trans a b) (fun k => ltA_irr k ⟨rfl, rfl, rfl⟩)
      subst e
      congr 1
      refine ih hL.2 hM.2 fun s => ?_
      have := h s
      rw [List.mem_cons, List.mem_cons] at this
      constructor
      · intro hs
        rcases this.1 (.inr hs) with rfl | e
        · exact absurd (hL.1 _ hs) (fun k => ltA_irr k ⟨rfl, rfl, rfl⟩)
        · exact e
      · intro hs
        rcases this.2 (.inr hs) with rfl | e
        · exact absurd (hM.1 _ hs) (fun k => ltA_irr k ⟨rfl, rfl, rfl⟩)
        · exact e
/-! ## one that is put -/
theorem pos_split {L : List H4} (s : L.Pairwise ltA) (w : H4) : posA L w ≤ L.length ∧ (∀ p ∈ L.take (posA L w), ltA p w) ∧ ∀ p ∈ L.drop (posA L w), ¬ ltA p w := by
  induction L with
  | nil => simp [posA]
  | cons p L ih =>
    rw [List.pairwise_cons] at s
    obtain ⟨i1, i2, i3⟩ := ih s.2
    by_cases h : ltA p w
    · have e : posA (p :: L) w = posA L w + 1 := by
        unfold posA; rw [List.filter_cons, if_pos (by simpa using (cmpA_lt p w).2 h)]; rfl
      rw [e]
      refine ⟨by simp; omega, ?_, ?_⟩
      · intro q hq
        rw [List.take_succ_cons] at hq
        rcases List.mem_cons.1 hq with rfl | hq
        · exact h
        · exact i2 q hq
      · intro q hq
        rw [List.drop_succ_cons] at hq
        exact i3 q hq
    · have hall : ∀ q ∈ L, ¬ ltA q w := fun q hq k => h (ltA_trans (s.1 q hq) k)
      have e : posA (p :: L) w = 0 := by
        unfold posA
        rw [List.filter_eq_nil_iff.2]
        · rfl
        · intro q hq
          rw [decide_eq_true_iff, cmpA_lt]
          rcases List.mem_cons.1 hq with rfl | hq
          · exact h
          · exact hall q hq
      rw [e]
      refine ⟨Nat.zero_le _, by simp, ?_⟩
      intro q hq
      rcases List.mem_cons.1 (by simpa using hq) with rfl | hq
      · exact h
      · exact hall q hq
theorem setA_shape {L : List H4} (s : L.Pairwise ltA) (w : H4) : ∃ A B C, L = A ++ B ++ C ∧ setA L w = A ++ [w] ++ C ∧ (∀ p ∈ A, ltA p w) ∧ (∀ p ∈ C, ltA w p) ∧ (∀ p ∈ B, keyA p w) ∧ B.length ≤ 1 := by
  obtain ⟨h1, h2, h3⟩ := pos_split s w
  obtain ⟨i, hi⟩ : ∃ i, posA L w = i := ⟨_, rfl⟩
  rw [hi] at h1 h2 h3
  have eL : L = L.take i ++ L.drop i := (List.take_append_drop i L).symm
  unfold setA
  rw [hi]
  cases hd : L.drop i with
  | nil =>
    have hl : L.length ≤ i := List.drop_eq_nil_iff.1 hd
    have e : eqA L i w = false := by simp [eqA, List.getElem?_eq_none hl]
    rw [e, if_neg (by simp)]
    exact ⟨L.take i, [], [], by rw [List.append_nil, List.append_nil, List.take_of_length_le hl], rfl, h2, by simp, by simp, by simp⟩
  | cons q C =>
    have hil : i < L.length := by
      rcases Nat.lt_or_ge i L.length with h | h
      · exact h
      · rw [List.drop_of_length_le h] at hd; cases hd
    have hq : L[i]? = some q := by
      have := List.getElem?_drop (xs := L) (i := i) (j := 0)
      rw [hd] at this; simpa using this.symm
    have hdrop : L.drop (i + 1) = C := by rw [← List.drop_drop, hd]; rfl
    have nq := h3 q (by rw [hd]; exact .head _)
    have hsd : (q :: C).Pairwise ltA := by rw [← hd]; exact s.sublist (List.drop_sublist _ _)
    rw [List.pairwise_cons] at hsd
    by_cases e : cmpA q w = 0
    · have e1 : eqA L i w = true := by simp [eqA, hq, e]
      rw [e1, if_pos rfl]
      have hk := (cmpA_eq q w).1 e
      refine ⟨L.take i, [q], C, ?_, ?_, h2, ?_, ?_, Nat.le_refl _⟩
      · rw [List.append_assoc, List.singleton_append, ← hd]; exact eL
      · rw [List.set_eq_take_append_cons_drop, if_pos hil, hdrop]; simp
      · intro p hp
        have := hsd.1 p hp
        unfold ltA at *; omega
      · intro p hp
        rw [List.mem_singleton] at hp; subst hp; exact hk
    · have e1 : eqA L i w = false := by simp [eqA, hq, e]
      rw [e1, if_neg (by simp)]
      have hwq : ltA w q := by
        rcases ltA_tri q w with k | k | k
        · exact absurd k nq
        · exact absurd ((cmpA_eq q w).2 k) e
        · exact k
      refine ⟨L.take i, [], q :: C, by rw [List.append_nil, ← hd]; exact eL, rfl, h2, ?_, by simp, by simp⟩
      intro p hp
      rcases List.mem_cons.1 hp with rfl | hp
      · exact hwq
      · exact ltA_trans hwq (hsd.1 p hp)
theorem mem_setA {L : List H4} (s : L.Pairwise ltA) (w p : H4) : p ∈ setA L w ↔ p = w ∨ (p ∈ L ∧ ¬ keyA p w) := by
  obtain ⟨A, B, C, e1, e2, h1, h2, h3, _⟩ := setA_shape s w
  rw [e2]
  have hA : ∀ p ∈ A, ¬ keyA p w := fun p hp => ltA_irr (h1 p hp)
  have hC : ∀ p ∈ C, ¬ keyA p w := fun p hp k => ltA_irr (h2 p hp) (keyA_symm k)
  rw [e1]
  simp only [List.mem_append, List.mem_singleton]
  constructor
  · rintro ((h | h) | h)
    · exact .inr ⟨.inl (.inl h), hA p h⟩
    · exact .inl h
    · exact .inr ⟨.inr h, hC p h⟩
  · rintro (h | ⟨(h | h) | h, k⟩)
    · exact .inl (.inr h)
    · exact .inl (.inl h)
    · exact absurd (h3 p h) k
    · exact .inr h
theorem setA_sorted {L : List H4} (s : L.Pairwise ltA) (w : H4) : (setA L w).Pairwise ltA := by
  obtain ⟨A, B, C, e1, e2, h1, h2, h3, _⟩ := setA_shape s w
  rw [e2]
  rw [e1, List.pairwise_append, List.pairwise_append] at s
  rw [List.pairwise_append, List.pairwise_append]
  refine ⟨⟨s.1.1, List.pairwise_singleton _ _, ?_⟩, s.2.1, ?_⟩
  · intro p hp q hq; rw [List.mem_singleton] at hq; subst hq; exact h1 p hp
  · intro p hp q hq
    rcases List.mem_append.1 hp with hp | hp
    · exact s.2.2 p (List.mem_append_left _ hp) q hq
    · rw [List.mem_singleton] at hp; subst hp; exact h2 q hq
theorem setA_len {L : List H4} (s : L.Pairwise ltA) (w : H4) : (setA L w).length ≤ L.length + 1 := by
  obtain ⟨A, B, C, e1, e2, _, _, _, h4⟩ := setA_shape s w
  rw [e2, e1]; simp; omega
theorem sta_filter {L : List H4} (s : StA L) (F : H4 → Bool) : StA (L.filter F) :=
  ⟨s.sorted.sublist List.filter_sublist, fun p hp => s.asked p (List.mem_filter.1 hp).1, s.good.sublist List.filter_sublist⟩
/-- sorted: all pairs, either way -/
theorem good_all {L : List H4} (s : StA L) {p q : H4} (hp : p ∈ L) (hq : q ∈ L) : badH p q = false := by
  obtain ⟨i, hi⟩ := List.getElem?_of_mem hp
  obtain ⟨j, hj⟩ := List.getElem?_of_mem hq
  rcases Nat.lt_trichotomy i j with hij | rfl | hij
  · exact pairwise_get.1 s.good i j p q hij hi hj
  · rw [hi] at hj; cases hj
    rw [badH_iff]; intro _ h; exact absurd rfl h
  · exact badH_symm (pairwise_get.1 s.good j i q p hij hj hi)
theorem sta_of {L : List H4} (hs : L.Pairwise ltA) (ha : ∀ p ∈ L, askA p.t p.r p.m = true) (hg : ∀ p ∈ L, ∀ q ∈ L, badH p q = false) : StA L := by
  refine ⟨hs, ha, ?_⟩
  rw [pairwise_get]
  intro i j p q _ hp hq
  exact hg p (List.mem_of_getElem? hp) q (List.mem_of_getElem? hq)
theorem mayA_iff (L : List H4) (x t r m : Int) : mayA L x t r m = true ↔ askA t r m = true ∧ ∀ p ∈ L, badH p (wantA L x t r m) = false := by
  unfold mayA
  rw [Bool.and_eq_true, Bool.not_eq_true', List.any_eq_false]
  simp
theorem want_ask {L : List H4} (s : StA L) {x t r m : Int} (h : askA t r m = true) : askA t r (supM (modeA L x t r) m) = true := by
  rw [askA_iff] at *
  have k := modeA_kn s x t r
  exact ⟨h.1, sup_kn k h.2.1, (sup_of k h.2.1).2.2.2 h.2.2⟩
theorem sta_set {L : List H4} (s : StA L) {x t r m : Int} (h : mayA L x t r m = true) : StA (setA L (wantA L x t r m)) := by
  rw [mayA_iff] at h
  have sym : badH (wantA L x t r m) (wantA L x t r m) = false := by rw [badH_iff]; intro _ k; exact absurd rfl k
  refine sta_of (setA_sorted s.sorted _) ?_ ?_
  · intro p hp
    rcases (mem_setA s.sorted _ p).1 hp with rfl | ⟨hp, _⟩
    · exact want_ask s h.1
    · exact s.asked p hp
  · intro p hp q hq
    rcases (mem_setA s.sorted _ p).1 hp with rfl | ⟨hp, _⟩ <;> rcases (mem_setA s.sorted _ q).1 hq with rfl | ⟨hq, _⟩
    · exact sym
    · exact badH_symm (h.2 q hq)
    · exact h.2 p hp
    · exact good_all s hp hq
theorem acq_one (L : List H4) (a : A6) : 1 ∈ acqA L a ↔ mayA L a.x a.t a.r a.m = true := by
  unfold acqA
  cases h1 : askA a.t a.r a.m with
  | false => simp [mayA, h1]
  | true => cases h2 : mayA L a.x a.t a.r a.m <;> simp
theorem sta_next {L : List H4} {a : A6} (h : a.c ∈ codesA L a) : StA (nextA L a) := by
  have s := step_chk h
  unfold nextA
  by_cases h1 : a.c = 1
  · rw [if_pos h1]
    by_cases h2 : a.k = 1
    · rw [if_pos h2]
      unfold codesA at h
      rw [if_pos ((chkA_iff L).2 s), if_pos h2, h1, acq_one] at h
      exact sta_set s h
    · rw [if_neg h2]; exact sta_filter s _
  · rw [if_neg h1]; exact s
theorem next_len {L : List H4} {a : A6} (h : a.c ∈ codesA L a) : (nextA L a).length ≤ L.length + 1 := by
  have s := step_chk h
  unfold nextA
  split
  · split
    · exact setA_len s.sorted _
    · exact Nat.le_succ_of_le (List.length_filter_le _ _)
  · exact Nat.le_succ _
end Go.Proofs
