/-
  PROVED HERE: a part of the proof, by a calculus of weakest conditions over an abstract heap (B1, B2, B3, B4, B5, B6, B7).
-/
import Derived.Test.YtlmkplcfmngigaaA0
import Derived.Test.YtlmkplcfmngigaaV3
import Derived.Test.YtlmkplcfmngigaaIN
set_option linter.unusedVariables false
set_option linter.unusedSimpArgs false
set_option maxRecDepth 100000
namespace Go.Proofs
open Go.Vai Go.Clashes

/-! ## names -/
def within (n : Int) : Bool := decide (0 ≤ n) && decide (n < 100)
def lvl (t r : Int) : Int := if t = -1 ∧ r = -1 then 0 else if within t = true ∧ r = -1 then 1 else if within t = true ∧ within r = true then 2 else -1

theorem within_w (n : Int) {h : Heap} {κ : Value → Heap → Prop} (hk : κ (.bool (within n)) h) : CallW Try.prog 125 [.int .i64 n] h κ := by
  refine pureW (v := .bool (within n)) rfl rfl (callW_of mixed ?_) hk
  rw [rs_125]
  by_cases h1 : n < 0
  · simp (disch := first | omega | (simp only [Wx]; done) | (simp only [Wy]; done) | (simp only [Wv]; omega) | with_unfolding_all rfl) only [Wz, ptrTo, sliceTo]; simp [within]; omega
  · by_cases h2 : n < 100
    · simp (disch := first | omega | (simp only [Wx]; done) | (simp only [Wy]; done) | (simp only [Wv]; omega) | with_unfolding_all rfl) only [Wz, ptrTo, sliceTo]; simp [within]; omega
    · simp (disch := first | omega | (simp only [Wx]; done) | (simp only [Wy]; done) | (simp only [Wv]; omega) | with_unfolding_all rfl) only [Wz, ptrTo, sliceTo]; simp [within]; omega
theorem db_a : answersS Try.prog 100 124 [] (nmV (-1) (-1)) = true := by kernel_rfl
theorem database_w {h : Heap} {κ : Value → Heap → Prop} (hk : κ (nmV (-1) (-1)) h) : CallW Try.prog 124 [] h κ := closedW mixed db_a hk
theorem level_w (t r : Int) {h : Heap} {κ : Value → Heap → Prop} (hk : κ (.int .i64 (lvl t r)) h) : CallW Try.prog 68 [nmV t r] h κ := by
  refine pureW (v := .int .i64 (lvl t r)) rfl rfl (callW_of mixed ?_) hk
  rw [rs_68]
  simp (disch := first | omega | (simp only [Wx]; done) | (simp only [Wy]; done) | (simp only [Wv]; omega) | with_unfolding_all rfl) only [Wz, ptrTo, sliceTo, nmV]
  refine database_w ?_
  by_cases h1 : t = -1 ∧ r = -1
  · simp (disch := first | omega | (simp only [Wx]; done) | (simp only [Wy]; done) | (simp only [Wv]; omega) | with_unfolding_all rfl) only [Wz, ptrTo, sliceTo, nmV, bin_eq27, dec_t h1]
    simp [lvl, h1]
  · simp (disch := first | omega | (simp only [Wx]; done) | (simp only [Wy]; done) | (simp only [Wv]; omega) | with_unfolding_all rfl) only [Wz, ptrTo, sliceTo, nmV, bin_eq27, dec_f h1, rs_68_1]
    refine within_w t ?_
    cases h2 : within t with
    | false =>
      simp (disch := first | omega | (simp only [Wx]; done) | (simp only [Wy]; done) | (simp only [Wv]; omega) | with_unfolding_all rfl) only [Wz, ptrTo, sliceTo, rs_68_0]
      refine within_w t ?_
      simp (disch := first | omega | (simp only [Wx]; done) | (simp only [Wy]; done) | (simp only [Wv]; omega) | with_unfolding_all rfl) only [Wz, ptrTo, sliceTo, h2]
      simp [lvl, h1, h2]
    | true =>
      by_cases h3 : r = -1
      · simp (disch := first | omega | (simp only [Wx]; done) | (simp only [Wy]; done) | (simp only [Wv]; omega) | with_unfolding_all rfl) only [Wz, ptrTo, sliceTo, dec_t h3]
        have : ¬ t = -1 := fun e => h1 ⟨e, h3⟩
        simp [lvl, h2, h3, this]
      · simp (disch := first | omega | (simp only [Wx]; done) | (simp only [Wy]; done) | (simp only [Wv]; omega) | with_unfolding_all rfl) only [Wz, ptrTo, sliceTo, dec_f h3, rs_68_0]
        refine within_w t ?_
        simp (disch := first | omega | (simp only [Wx]; done) | (simp only [Wy]; done) | (simp only [Wv]; omega) | with_unfolding_all rfl) only [Wz, ptrTo, sliceTo, h2]
        refine within_w r ?_
        cases h4 : within r <;> simp (disch := first | omega | (simp only [Wx]; done) | (simp only [Wy]; done) | (simp only [Wv]; omega) | with_unfolding_all rfl) only [Wz, ptrTo, sliceTo] <;> simp [lvl, h1, h2, h3, h4]
/-- is there such a name -/
def okN (t r : Int) : Bool := decide (0 ≤ lvl t r)
theorem lvl_cases (t r : Int) : lvl t r = -1 ∨ lvl t r = 0 ∨ lvl t r = 1 ∨ lvl t r = 2 := by unfold lvl; split <;> (try split) <;> (try split) <;> simp
theorem check_w (t r : Int) {h : Heap} {κ : Value → Heap → Prop} (hk : κ (.int .i64 (if okN t r then 0 else 2)) h) : CallW Try.prog 97 [nmV t r] h κ := by
  refine pureW (v := .int .i64 (if okN t r then 0 else 2)) rfl rfl (callW_of mixed ?_) hk
  rw [rs_97]
  simp (disch := first | omega | (simp only [Wx]; done) | (simp only [Wy]; done) | (simp only [Wv]; omega) | with_unfolding_all rfl) only [Wz, ptrTo, sliceTo, nmV]
  refine level_w t r ?_
  rcases lvl_cases t r with h1 | h1 | h1 | h1 <;> simp (disch := first | omega | (simp only [Wx]; done) | (simp only [Wy]; done) | (simp only [Wv]; omega) | with_unfolding_all rfl) only [Wz, ptrTo, sliceTo, h1] <;> simp [okN, h1]

def cmpI (a b : Int) : Int := if a < b then -1 else if b < a then 1 else 0
def nmCmp (t r t' r' : Int) : Int := if cmpI t t' = 0 then cmpI r r' else cmpI t t'
theorem isNaN_w (a : Int) {h : Heap} {κ : Value → Heap → Prop} (hk : κ (.bool false) h) : CallW Try.prog 141 [.int .i64 a] h κ := by
  refine pureW (v := .bool false) rfl rfl (callW_of mixed ?_) hk
  rw [rs_141]; simp (disch := first | omega | (simp only [Wx]; done) | (simp only [Wy]; done) | (simp only [Wv]; omega) | with_unfolding_all rfl) only [Wz, ptrTo, sliceTo]
theorem compareI_w (a b : Int) {h : Heap} {κ : Value → Heap → Prop} (hk : κ (.int .i64 (cmpI a b)) h) : CallW Try.prog 130 [.int .i64 a, .int .i64 b] h κ := by
  refine pureW (v := .int .i64 (cmpI a b)) rfl rfl (callW_of mixed ?_) hk
  rw [rs_130]
  refine isNaN_w _ (isNaN_w _ ?_)
  rcases Int.lt_trichotomy a b with h1 | h1 | h1
  · simp (disch := first | omega | (simp only [Wx]; done) | (simp only [Wy]; done) | (simp only [Wv]; omega) | with_unfolding_all rfl) only [Wz, ptrTo, sliceTo, rs_130_0]; simp [cmpI, h1]
  · simp (disch := first | omega | (simp only [Wx]; done) | (simp only [Wy]; done) | (simp only [Wv]; omega) | with_unfolding_all rfl) only [Wz, ptrTo, sliceTo, rs_130_0]; simp [cmpI, h1]
  · simp (disch := first | omega | (simp only [Wx]; done) | (simp only [Wy]; done) | (simp only [Wv]; omega) | with_unfolding_all rfl) only [Wz, ptrTo, sliceTo, rs_130_0]; simp [cmpI, h1]; omega
theorem or_w (a b : Int) (h : Heap) (v : Value) (hv : Sl (fun n => [Value.int .i64 n]) h v [a, b]) (κ : Value → Heap → Prop) (hk : κ (.int .i64 (if a = 0 then b else a)) h) : CallW Try.prog 129 [v] h κ := by
  refine callW_of mixed ?_
  rw [rs_129]
  simp only [hv.len]
  have he : ∀ n : Int, ((fun n => [Value.int .i64 n]) n).length = 1 := fun _ => rfl
  have f0 := hv.ld he 0 (p := a) rfl
  have f1 := hv.ld he 1 (p := b) rfl
  obtain ⟨b0, o0, hb0, hat0, _, hh0⟩ := f0
  obtain ⟨b1, o1, hb1, hat1, _, hh1⟩ := f1
  have hx0 := fun (β : Type) (fl : β) κ => ldO_has (fl := fl) hh0 0 κ (Nat.lt_succ_self _)
  have hx1 := fun (β : Type) (fl : β) κ => ldO_has (fl := fl) hh1 0 κ (Nat.lt_succ_self _)
  simp only [Nat.add_zero] at hx0 hx1
  refine ⟨fun n l h1 => h1 = h ∧ ∃ k : Nat, slot l 10 = .int .i64 (k : Int) ∧ k ≤ 2 ∧ n = 2 - k ∧ (0 < k → a = 0) ∧ (1 < k → b = 0), ⟨2, rfl, 0, rfl, by omega, by omega, by omega, by omega⟩, ?_⟩
  rintro n l h1 ⟨rfl, k, hs, hk2, rfl, ha, hb⟩
  have : k = 0 ∨ k = 1 ∨ k = 2 := by omega
  rcases this with rfl | rfl | rfl
  · by_cases h1 : a = 0
    · simp (disch := first | omega | (simp only [Wx]; done) | (simp only [Wy]; done) | (simp only [Wv]; omega) | with_unfolding_all rfl) only [Wz, ptrTo, sliceTo, hv.len, hs, rs_129_0, hat0, hx0, h1, List.length_cons, List.length_nil]
      exact ⟨1, by omega, trivial, 1, rfl, by omega, by omega, fun _ => trivial, fun h => by omega⟩
    · simp (disch := first | omega | (simp only [Wx]; done) | (simp only [Wy]; done) | (simp only [Wv]; omega) | with_unfolding_all rfl) only [Wz, ptrTo, sliceTo, hv.len, hs, rs_129_0, hat0, hx0, dec_f h1, List.length_cons, List.length_nil]
      simpa [h1] using hk
  · have ha := ha (by omega)
    by_cases h1 : b = 0
    · simp (disch := first | omega | (simp only [Wx]; done) | (simp only [Wy]; done) | (simp only [Wv]; omega) | with_unfolding_all rfl) only [Wz, ptrTo, sliceTo, hv.len, hs, rs_129_0, hat1, hx1, h1, List.length_cons, List.length_nil]
      exact ⟨0, by omega, trivial, 2, rfl, by omega, by omega, fun _ => ha, fun h => trivial⟩
    · simp (disch := first | omega | (simp only [Wx]; done) | (simp only [Wy]; done) | (simp only [Wv]; omega) | with_unfolding_all rfl) only [Wz, ptrTo, sliceTo, hv.len, hs, rs_129_0, hat1, hx1, dec_f h1, List.length_cons, List.length_nil]
      simpa [ha] using hk
  · simp (disch := first | omega | (simp only [Wx]; done) | (simp only [Wy]; done) | (simp only [Wv]; omega) | with_unfolding_all rfl) only [Wz, ptrTo, sliceTo, hv.len, hs, List.length_cons, List.length_nil]
    have ha := ha (by omega)
    have hb := hb (by omega)
    simpa [ha, hb] using hk
theorem nmCompare_w (t r t' r' : Int) {h : Heap} {κ : Value → Heap → Prop} (hk : κ (.int .i64 (nmCmp t r t' r')) h) : CallW Try.prog 84 [nmV t r, nmV t' r'] h κ := by
  refine pureW (v := .int .i64 (nmCmp t r t' r')) rfl rfl (callW_of mixed ?_) hk
  rw [rs_84]
  simp (disch := first | omega | (simp only [Wx]; done) | (simp only [Wy]; done) | (simp only [Wv]; omega) | with_unfolding_all rfl) only [Wz, ptrTo, sliceTo, nmV]
  refine compareI_w _ _ ?_
  simp (disch := first | omega | (simp only [Wx]; done) | (simp only [Wy]; done) | (simp only [Wv]; omega) | with_unfolding_all rfl) only [Wz, ptrTo, sliceTo]
  refine compareI_w _ _ ?_
  simp (disch := first | omega | (simp only [Wx]; done) | (simp only [Wy]; done) | (simp only [Wv]; omega) | with_unfolding_all rfl) only [Wz, ptrTo, sliceTo]
  refine or_w _ _ _ _ (Sl.new (L := [cmpI t t', cmpI r r']) (e := 3) (op := false) (Nat.lt_succ_self _) (T.get_upd_same _ _ _) _) _ ?_
  rfl
end Go.Proofs

namespace Go.Proofs
open Go.Vai Go.Clashes

def optI : Option Nat → Int | some i => i | none => -1
def aggH (p : H4) : Value := .agg ⟨enc4 p⟩

/-- slices.IndexFunc at locks -/
theorem indexFunc_w (L : List H4) (F : H4 → Bool) (h : Heap) (v fv : Value) (κ : Value → Heap → Prop) (hv : Sl enc4 h v L) (hlen : L.length ≤ 1000000)
    (hF : ∀ p, p ∈ L → ∀ (h1 : Heap) (κ1 : Value → Heap → Prop), Le h h1 → (∀ h2, Le h1 h2 → κ1 (.bool (F p)) h2) → CallV Try.prog fv [aggH p] h1 κ1)
    (hk : ∀ h', Le h h' → κ (.int .i64 (optI (L.findIdx? F))) h') : CallW Try.prog 82 [v, fv] h κ := by
  refine callW_of mixed ?_
  rw [rs_82]
  simp only [hv.len]
  refine ⟨fun n l h1 => Le h h1 ∧ ∃ k : Nat, slot l 12 = .int .i64 (k : Int) ∧ k ≤ L.length ∧ n = L.length - k ∧ ∀ (j : Nat) p, j < k → L[j]? = some p → F p = false, ⟨_, Le.refl _, 0, rfl, Nat.zero_le _, rfl, by omega⟩, ?_⟩
  rintro n l h1 ⟨hle, k, hs, hkl, rfl, hno⟩
  by_cases hlt : k < L.length
  · obtain ⟨p, hp⟩ : ∃ p, L[k]? = some p := ⟨_, List.getElem?_eq_getElem hlt⟩
    obtain ⟨b, o, hb, hat, hld⟩ := ld4 hv k hp
    have hn := hle.nx
    simp (disch := first | omega | (simp only [Wx]; done) | (simp only [Wy]; done) | (simp only [Wv]; omega) | with_unfolding_all rfl) only [Wz, ptrTo, sliceTo, hv.len, hs, rs_82_0, hat, hle.get, hld]
    refine hF p (List.mem_of_getElem? hp) h1 _ hle ?_
    intro h2 hle2
    cases hc : F p with
    | true =>
      simp (disch := first | omega | (simp only [Wx]; done) | (simp only [Wy]; done) | (simp only [Wv]; omega) | with_unfolding_all rfl) only [Wz, ptrTo, sliceTo, hs]
      have : L.findIdx? F = some k := by
        rw [List.findIdx?_eq_some_iff_getElem]
        obtain ⟨hk1, hk2⟩ := List.getElem?_eq_some_iff.1 hp
        refine ⟨hk1, by rw [hk2]; exact hc, fun j hj => ?_⟩
        have := hno j _ hj (List.getElem?_eq_getElem (by omega))
        simp [this]
      have hk2 := hk h2 (hle.trans hle2)
      rw [this] at hk2
      exact hk2
    | false =>
      simp (disch := first | omega | (simp only [Wx]; done) | (simp only [Wy]; done) | (simp only [Wv]; omega) | with_unfolding_all rfl) only [Wz, ptrTo, sliceTo, hs]
      refine ⟨_, by omega, hle.trans hle2, k + 1, rfl, by omega, rfl, fun j q hj hq => ?_⟩
      rcases Nat.lt_or_ge j k with h4 | h4
      · exact hno j q h4 hq
      · obtain rfl : j = k := by omega
        rw [hp] at hq; cases hq; exact hc
  · simp (disch := first | omega | (simp only [Wx]; done) | (simp only [Wy]; done) | (simp only [Wv]; omega) | with_unfolding_all rfl) only [Wz, ptrTo, sliceTo, hv.len, hs]
    have : L.findIdx? F = none := by
      rw [List.findIdx?_eq_none_iff]
      intro p hp
      obtain ⟨j, hj, rfl⟩ := List.mem_iff_getElem.1 hp
      have := hno j _ (by omega) (List.getElem?_eq_getElem hj)
      simp [this]
    have hk2 := hk h1 hle
    rw [this] at hk2
    exact hk2

/-- of that name -/
def named (t r : Int) (p : H4) : Bool := decide (p.t = t ∧ p.r = r)
theorem at1_w (t r : Int) (p : H4) (b : Nat) (h : Heap) (κ : Value → Heap → Prop) (hlo : h.lo ≤ h.nx) (hb : b < h.nx) (hg : h.bl.get b = some (cellsO [.int .i64 t, .int .i64 r] 27 false)) (hk : ∀ h', Le h h' → κ (.bool (named t r p)) h') :
    CallW Try.prog 128 [aggH p, ptrTo b] h κ := by
  refine callW_of mixed ?_
  rw [rs_128]
  simp (disch := first | omega | (simp only [Wx]; done) | (simp only [Wy]; done) | (simp only [Wv]; omega) | with_unfolding_all rfl) only [Wz, ptrTo, sliceTo, aggH, enc4, hg, bin_eq27]
  exact hk _ ((Le.refl h).new _)
theorem at_w (L : List H4) (t r : Int) (h : Heap) (v : Value) (κ : Value → Heap → Prop) (hv : Sl enc4 h v L) (hlen : L.length ≤ 1000000) (hlo : h.lo ≤ h.nx) (hk : ∀ h', Le h h' → κ (.int .i64 (optI (L.findIdx? (named t r)))) h') :
    CallW Try.prog 79 [v, nmV t r] h κ := by
  refine callW_of mixed ?_
  rw [rs_79]
  simp (disch := first | omega | (simp only [Wx]; done) | (simp only [Wy]; done) | (simp only [Wv]; omega) | with_unfolding_all rfl) only [Wz, ptrTo, sliceTo, nmV]
  have hle := (Le.refl h).new (cellsO [.int .i64 t, .int .i64 r] 27 false)
  refine indexFunc_w L (named t r) _ v _ _ (hv.le hle) hlen ?_ fun h' hl => hk h' (hle.trans hl)
  intro p hp h1 κ1 hl1 hk1
  have hn1 := hl1.nx
  have hg1 := hl1.get
  have ho1 := hl1.lo
  dsimp only at hn1 hg1 ho1
  simp (disch := first | omega | (simp only [Wx]; done) | (simp only [Wy]; done) | (simp only [Wv]; omega) | with_unfolding_all rfl) only [Wz, ptrTo, sliceTo]
  exact at1_w t r p _ h1 κ1 (by omega) (by omega) (by rw [hg1 _ (Nat.lt_succ_self _), T.get_upd_same]) hk1

/-- how a name is had -/
def modeOf (L : List H4) (t r : Int) : Int := match L.find? (named t r) with | some p => p.m | none => 0
theorem findIdx_find (L : List H4) (F : H4 → Bool) : (L.findIdx? F = none ∧ L.find? F = none) ∨ ∃ i p, L.findIdx? F = some i ∧ L[i]? = some p ∧ F p = true ∧ L.find? F = some p := by
  induction L with
  | nil => exact .inl ⟨rfl, rfl⟩
  | cons a L ih =>
    cases hF : F a with
    | true => exact .inr ⟨0, a, by simp [List.findIdx?_cons, hF], rfl, hF, by simp [List.find?, hF]⟩
    | false =>
      rcases ih with ⟨h1, h2⟩ | ⟨i, p, h1, h2, h3, h4⟩
      · exact .inl ⟨by simp [List.findIdx?_cons, hF, h1], by simp [List.find?, hF, h2]⟩
      · exact .inr ⟨i + 1, p, by simp [List.findIdx?_cons, hF, h1], by simpa using h2, h3, by simp [List.find?, hF, h4]⟩
theorem mode_w (L : List H4) (t r : Int) (h : Heap) (v : Value) (κ : Value → Heap → Prop) (hv : Sl enc4 h v L) (hlen : L.length ≤ 1000000) (hlo : h.lo ≤ h.nx) (hk : ∀ h', Le h h' → κ (.int .i64 (modeOf L t r)) h') :
    CallW Try.prog 42 [v, nmV t r] h κ := by
  refine callW_of mixed ?_
  rw [rs_42]
  simp (disch := first | omega | (simp only [Wx]; done) | (simp only [Wy]; done) | (simp only [Wv]; omega) | with_unfolding_all rfl) only [Wz, ptrTo, sliceTo, nmV]
  have hle := (Le.refl h).new (cellsO [.int .i64 t, .int .i64 r] 27 false)
  refine at_w L t r _ v _ (hv.le hle) hlen (by show h.lo ≤ h.nx + 1; omega) ?_
  intro h1 hl1
  have hle1 := hle.trans hl1
  have hn1 := hle1.nx
  rcases findIdx_find L (named t r) with ⟨h2, h3⟩ | ⟨i, p, h2, h3, h4, h5⟩
  · simp only [h2, optI]
    simp (disch := first | omega | (simp only [Wx]; done) | (simp only [Wy]; done) | (simp only [Wv]; omega) | with_unfolding_all rfl) only [Wz, ptrTo, sliceTo]
    have := hk h1 hle1
    simpa only [modeOf, h3] using this
  · simp only [h2, optI]
    obtain ⟨b, o, hb, hat, hld⟩ := ld4 hv i h3
    simp (disch := first | omega | (simp only [Wx]; done) | (simp only [Wy]; done) | (simp only [Wv]; omega) | with_unfolding_all rfl) only [Wz, ptrTo, sliceTo, hat, hle1.get, hld]
    have := hk h1 hle1
    simpa only [modeOf, h5] using this

theorem eq22a (h : Heap) (n c n' c' : Nat) : eqB Try.prog h 100 22 (.slice none n c) (.slice none n' c') = some true := by kernel_rfl
theorem eq22b (h : Heap) (a : Addr) (n c n' c' : Nat) : eqB Try.prog h 100 22 (.slice (some a) n c) (.slice none n' c') = some false := by kernel_rfl
theorem bin_eq22a {β : Type} {fl : β} (cn : Bool) (n c n' c' : Nat) (h : Heap) (κ : Value → Heap → β) : binB fl Try.prog .eql 22 cn false (.slice none n c) (.slice none n' c') h κ = κ (.bool true) h := by
  simp only [binB, eq22a, fbK_eq]
theorem bin_eq22b {β : Type} {fl : β} (cn : Bool) (a : Addr) (n c n' c' : Nat) (h : Heap) (κ : Value → Heap → β) : binB fl Try.prog .eql 22 cn false (.slice (some a) n c) (.slice none n' c') h κ = κ (.bool false) h := by
  simp only [binB, eq22b, fbK_eq]
/-- slices.Clone at locks -/
theorem clone_w (L : List H4) (h : Heap) (v : Value) (κ : Value → Heap → Prop) (hv : Sl enc4 h v L) (hlen : L.length ≤ 1000000) (hlo : h.lo ≤ h.nx) (hk : ∀ v' h', Own enc4 h 30 h' v' L → Le h h' → κ v' h') : CallW Try.prog 81 [v] h κ := by
  refine callW_of mixed ?_
  rw [rs_81]
  have hv0 := hv
  obtain ⟨x, cap, rfl, hx⟩ := hv
  cases x with
  | none =>
    simp (disch := first | omega | (simp only [Wx]; done) | (simp only [Wy]; done) | (simp only [Wv]; omega) | with_unfolding_all rfl) only [Wz, ptrTo, sliceTo, bin_eq22a]
    by_cases hL : L = []
    · exact hk _ _ (.inl ⟨hL, .inl rfl⟩) (Le.refl _)
    · obtain ⟨b, o, e, _⟩ := hx hL; cases e
  | some a =>
    simp (disch := first | omega | (simp only [Wx]; done) | (simp only [Wy]; done) | (simp only [Wv]; omega) | with_unfolding_all rfl) only [Wz, ptrTo, sliceTo, bin_eq22b]
    have hle := (Le.refl h).new (cellsO [] 30 false)
    refine append_own (enc := enc4) (a := h) (L := []) (M := L) enc4_len enc4_one (by omega) (by omega) (.inl ⟨rfl, .inr ⟨_, _, rfl⟩⟩) (hv0.le hle) hle (by simpa using hlen) (by show h.lo ≤ h.nx + 1; omega) _ ?_
    intro v' h' ho hl _ _
    exact hk v' h' (by simpa using ho) hl
end Go.Proofs

namespace Go.Proofs
open Go.Vai Go.Clashes

noncomputable def z30 : List Value := match zOf Try.prog 30 with | some (z, _) => z | none => []
theorem z30_ok : zOf Try.prog 30 = some (z30, 4) := by kernel_rfl
theorem info30 : (match Try.prog.info? 30 with | some i => (match i.zero with | some z => Nat.beq z.cells.size 4 && Nat.ble i.bytes 10000 | none => false) | none => false) = true := by decide +kernel
theorem info30' : ∃ i z, Try.prog.info? 30 = some i ∧ i.zero = some z ∧ z.cells.size = 4 ∧ i.bytes ≤ 10000 := by
  have h := info30
  split at h <;> try contradiction
  rename_i i hi
  split at h <;> try contradiction
  rename_i z hz
  simp only [Bool.and_eq_true] at h
  exact ⟨i, z, hi, hz, beq_t h.1, ble_t h.2⟩
theorem insB_w {args : List Value} {h : Heap} {κ : Value → Heap → Prop} (hg : insertB False 30 4 z30 args h κ) : CallW Try.prog 85 args h κ := by
  intro φ w args' ha hr
  obtain ⟨i, z, h1, h2, h3, h4⟩ := info30'
  exact insertB_sound (good := ok) ok_false (insert85 h1 h2 h3 h4 Try.underlying3) Try.underlying22 z30_ok h1 h4 hr ha hg

theorem flat4 (L : List H4) : (L.flatMap enc4).length = L.length * 4 := flat_length enc4_len L
theorem flat_take (L : List H4) : ∀ i, (L.flatMap enc4).take (i * 4) = (L.take i).flatMap enc4 := by
  induction L with
  | nil => intro i; simp
  | cons a L ih =>
    intro i
    cases i with
    | zero => simp
    | succ i =>
      simp only [List.flatMap_cons, List.take_succ_cons]
      rw [List.take_append, ← ih i, enc4_len, List.take_of_length_le (by rw [enc4_len]; omega), show (i + 1) * 4 - 4 = i * 4 by omega]
theorem flat_drop (L : List H4) : ∀ i, (L.flatMap enc4).drop (i * 4) = (L.drop i).flatMap enc4 := by
  induction L with
  | nil => intro i; simp
  | cons a L ih =>
    intro i
    cases i with
    | zero => simp
    | succ i =>
      simp only [List.flatMap_cons, List.drop_succ_cons]
      rw [List.drop_append, ← ih i, enc4_len, List.drop_of_length_le (by rw [enc4_len]; omega), show (i + 1) * 4 - 4 = i * 4 by omega]
      rfl
theorem over_flat (L : List H4) (i : Nat) (p : H4) (hi : i < L.length) : over (L.flatMap enc4) (i * 4) (enc4 p) = (L.set i p).flatMap enc4 := by
  have e : L.set i p = L.take i ++ [p] ++ L.drop (i + 1) := by
    rw [List.set_eq_take_append_cons_drop, if_pos hi]; simp
  rw [e]
  simp only [over, enc4_len, List.flatMap_append, List.flatMap_cons, List.flatMap_nil, List.append_nil]
  rw [flat_take, show i * 4 + 4 = (i + 1) * 4 by omega, flat_drop]
theorem flat_one (L : List H4) : (L.flatMap enc4).all oneC = true := by
  rw [List.all_flatMap]; simp only [List.all_eq_true]; intro x _; exact List.all_eq_true.1 (enc4_one x)

/-- slices.Insert of one lock into a slice of the call's own -/
theorem insert_w {a h : Heap} {v : Value} {L : List H4} {p : H4} {i : Nat} {vb vc : Nat} (hi : i ≤ L.length) (ho : Own enc4 a 30 h v L) (hle : Le a h) (hlen : L.length ≤ 100000) (hlo : h.lo ≤ h.nx)
    (hvb : h.bl.get vb = some (cellsO (enc4 p) 30 false)) (hvn : vb < h.nx) (hne : i < L.length → ∀ b n c, v = .slice (some ⟨b, 0, none⟩) n c → vb ≠ b) (κ : Value → Heap → Prop)
    (hk : ∀ v' h', Own enc4 a 30 h' v' (L.take i ++ [p] ++ L.drop i) → Le a h' → κ v' h') : CallW Try.prog 85 [v, .int .i64 (i : Int), .slice (some ⟨vb, 0, none⟩) 1 vc] h κ := by
  refine insB_w ?_
  have hx : Sl enc4 h (.slice (some ⟨vb, 0, none⟩) 1 vc) [p] := ⟨_, vc, rfl, fun _ => ⟨vb, 0, rfl, hvn, by rw [hvb]; simpa using Has.all⟩⟩
  by_cases he : i = L.length
  · subst he
    have key : appendB False 30 4 z30 false v (.slice (some ⟨vb, 0, none⟩) 1 vc) h κ := by
      refine append_own (enc := enc4) (a := a) (M := [p]) enc4_len enc4_one (by omega) (by omega) ho hx hle (by simp; omega) hlo _ ?_
      intro v' h' ho' hl' _ _
      refine hk v' h' ?_ hl'
      simpa using ho'
    have fin : ∀ (base : Option Addr) (cap : Nat), v = .slice base L.length cap → insertB False 30 4 z30 [v, .int .i64 (L.length : Int), .slice (some ⟨vb, 0, none⟩) 1 vc] h κ := by
      rintro base cap rfl
      unfold insertB
      show (match Nat.beq L.length L.length with | true => _ | false => _)
      rw [Nat.beq_refl]; exact key
    rcases ho with ⟨rfl, rfl | ⟨b, o, rfl⟩⟩ | ⟨b, rfl, _⟩
    · exact fin _ _ rfl
    · exact fin _ _ rfl
    · exact fin _ _ rfl
  · have hlt : i < L.length := by omega
    rcases ho with ⟨rfl, _⟩ | ⟨b, rfl, h1, h2, h3, h4⟩
    · simp at hlt
    · have hne := hne hlt b _ _ rfl
      unfold insertB
      show (match Nat.beq i L.length with | true => _ | false => _)
      have e1 : Nat.beq i L.length = false := by
        cases hq : Nat.beq i L.length with
        | false => rfl
        | true => exact absurd (beq_t hq) he
      have e2 : Nat.beq openCap openCap = true := Nat.beq_refl _
      have e3 : Nat.ble (i + 1) L.length = true := Nat.ble_eq_true_of_le hlt
      have e4 : Nat.beq vb b = false := by
        cases hq : Nat.beq vb b with
        | false => rfl
        | true => exact absurd (beq_t hq) hne
      have e5 : Nat.ble (L.length + (0 + 1)) 1000000 = true := Nat.ble_eq_true_of_le (by omega)
      have hh1 : Has (h.bl.get b) 0 (L.flatMap enc4) := by rw [h4]; exact Has.all
      have hh2 : Has (h.bl.get vb) 0 (enc4 p) := by rw [hvb]; exact Has.all
      have f1 : ∀ κ : List Value → Prop, firstB False h 4 L.length (.slice (some ⟨b, 0, none⟩) L.length openCap) κ = κ (L.flatMap enc4) := fun κ => firstB_has hh1 _ _ _ _ κ (flat4 L).symm
      have f2 : ∀ κ : List Value → Prop, firstB False h 4 (0 + 1) (.slice (some ⟨vb, 0, none⟩) (0 + 1) vc) κ = κ (enc4 p) := fun κ => firstB_has hh2 _ _ _ _ κ rfl
      have e6 : ((L.flatMap enc4).all oneC && (enc4 p).all oneC) = true := by rw [flat_one]; rfl
      have e7 : Nat.beq 30 30 = true := rfl
      have g4 := h4
      have gvb := hvb
      simp only [cellsO] at g4 gvb
      simp only [e1, e2, e3, e4, g4, gvb, e5, e7, f1, f2, e6]
      rw [setBlock_eq _ _ _ _ h3]
      unfold newCells
      have hfl : ((L.flatMap enc4).take (i * 4) ++ enc4 p ++ (L.flatMap enc4).drop (i * 4)) = (L.take i ++ [p] ++ L.drop i).flatMap enc4 := by
        rw [flat_take, flat_drop]; simp
      rw [hfl, cellsK_eq _ _ _ _ (by rw [flat4]; simp; omega), newBlock_eq]
      refine hk _ _ (.inr ⟨h.nx, ?_, hle.nx, Nat.lt_succ_self _, hlo, T.get_upd_same _ _ _⟩) ((hle.set h1 _).new _)
      rw [show (L.take i ++ [p] ++ L.drop i).length = L.length + (0 + 1) by simp; omega]
end Go.Proofs

namespace Go.Proofs
open Go.Vai Go.Clashes

def above (p x : H4) : Bool := decide (0 < nmCmp x.t x.r p.t p.r)
def putH (L : List H4) (p : H4) : List H4 := match L.findIdx? (named p.t p.r) with
  | some i => L.set i p
  | none => match L.findIdx? (above p) with
    | some i => L.take i ++ [p] ++ L.drop i
    | none => L ++ [p]

theorem put1_w (p x : H4) (b : Nat) (h : Heap) (κ : Value → Heap → Prop) (hlo : h.lo ≤ h.nx) (hb : b < h.nx) (hg : h.bl.get b = some (cellsO (enc4 p) 30 false)) (hk : ∀ h', Le h h' → κ (.bool (above p x)) h') :
    CallW Try.prog 83 [aggH x, ptrTo b] h κ := by
  refine callW_of mixed ?_
  rw [rs_83]
  simp (disch := first | omega | (simp only [Wx]; done) | (simp only [Wy]; done) | (simp only [Wv]; omega) | with_unfolding_all rfl) only [Wz, ptrTo, sliceTo, aggH, enc4, hg]
  refine nmCompare_w _ _ _ _ ?_
  have := hk _ ((Le.refl h).new (cellsO (enc4 x) 30 false))
  by_cases h1 : 0 < nmCmp x.t x.r p.t p.r
  · simp (disch := first | omega | (simp only [Wx]; done) | (simp only [Wy]; done) | (simp only [Wv]; omega) | with_unfolding_all rfl) only [Wz, ptrTo, sliceTo]
    simp only [above, dec_t h1, enc4] at this; exact this
  · simp (disch := first | omega | (simp only [Wx]; done) | (simp only [Wy]; done) | (simp only [Wv]; omega) | with_unfolding_all rfl) only [Wz, ptrTo, sliceTo]
    simp only [above, dec_f h1, enc4] at this; exact this

/-- cache.Put -/
theorem put_w (L : List H4) (p : H4) (h : Heap) (v : Value) (κ : Value → Heap → Prop) (hv : Sl enc4 h v L) (hlen : L.length ≤ 100000) (hlo : h.lo ≤ h.nx) (hk : ∀ v' h', Sl enc4 h' v' (putH L p) → Le h h' → κ v' h') :
    CallW Try.prog 44 [v, aggH p] h κ := by
  refine callW_of mixed ?_
  rw [rs_44]
  simp (disch := first | omega | (simp only [Wx]; done) | (simp only [Wy]; done) | (simp only [Wv]; omega) | with_unfolding_all rfl) only [Wz, ptrTo, sliceTo, aggH, enc4]
  obtain ⟨hA, eA⟩ : ∃ hA : Heap, hA = ⟨h.nx + 1, h.bl.upd h.nx (cellsO (enc4 p) 30 false), h.lo⟩ := ⟨_, rfl⟩
  have hleA : Le h hA := by subst eA; exact (Le.refl h).new _
  have gA : hA.bl.get h.nx = some (cellsO (enc4 p) 30 false) := by subst eA; exact T.get_upd_same _ _ _
  have nA : hA.nx = h.nx + 1 := by subst eA; rfl
  have lA : hA.lo = h.lo := by subst eA; rfl
  simp only [enc4] at eA
  rw [← eA]
  clear eA
  refine clone_w L hA v _ (hv.le hleA) (by omega) (by omega) ?_
  intro v2 h2 ho2 hle2
  have n2 := hle2.nx
  have l2 := hle2.lo
  have g2 := (hle2.get h.nx (by omega)).trans gA
  simp (disch := first | omega | (simp only [Wx]; done) | (simp only [Wy]; done) | (simp only [Wv]; omega) | with_unfolding_all rfl) only [Wz, ptrTo, sliceTo, g2, enc4]
  refine at_w L p.t p.r h2 v2 _ ho2.sl (by omega) (by omega) ?_
  intro h3 hle3
  have n3 := hle3.nx
  have l3 := hle3.lo
  have g3 := (hle3.get h.nx (by omega)).trans g2
  have hall3 := hle2.trans hle3
  rcases findIdx_find L (named p.t p.r) with ⟨f1, _⟩ | ⟨i, q, f1, f2, _, _⟩
  · simp only [f1, optI]
    simp (disch := first | omega | (simp only [Wx]; done) | (simp only [Wy]; done) | (simp only [Wv]; omega) | with_unfolding_all rfl) only [Wz, ptrTo, sliceTo, rs_44_0]
    refine indexFunc_w L (above p) h3 v2 _ _ (ho2.sl.le hle3) (by omega) ?_ ?_
    · intro x hx h4 κ4 hle4 hk4
      have n4 := hle4.nx
      have l4 := hle4.lo
      simp (disch := first | omega | (simp only [Wx]; done) | (simp only [Wy]; done) | (simp only [Wv]; omega) | with_unfolding_all rfl) only [Wz, ptrTo, sliceTo]
      exact put1_w p x h.nx h4 κ4 (by omega) (by omega) ((hle4.get h.nx (by omega)).trans g3) hk4
    · intro h4 hle4
      have n4 := hle4.nx
      have l4 := hle4.lo
      have g4 := (hle4.get h.nx (by omega)).trans g3
      have hall4 := hall3.trans hle4
      refine ⟨fun l h' => h4 = h' ∧ ∃ j : Nat, slot l 4 = .int .i64 (j : Int) ∧ j ≤ L.length ∧ L.take j ++ [p] ++ L.drop j = putH L p, ?_, ?_⟩
      · rcases findIdx_find L (above p) with ⟨e1, _⟩ | ⟨j, q, e1, e2, _, _⟩
        · simp only [e1, optI]
          simp (disch := first | omega | (simp only [Wx]; done) | (simp only [Wy]; done) | (simp only [Wv]; omega) | with_unfolding_all rfl) only [Wz, ptrTo, sliceTo, ho2.sl.len]
          exact ⟨trivial, L.length, rfl, Nat.le_refl _, by simp [putH, f1, e1]⟩
        · simp only [e1, optI]
          simp (disch := first | omega | (simp only [Wx]; done) | (simp only [Wy]; done) | (simp only [Wv]; omega) | with_unfolding_all rfl) only [Wz, ptrTo, sliceTo]
          have hj := (List.getElem?_eq_some_iff.1 e2).1
          exact ⟨trivial, j, rfl, by omega, by simp [putH, f1, e1]⟩
      · rintro l h' ⟨rfl, j, hs, hj, hput⟩
        simp (disch := first | omega | (simp only [Wx]; done) | (simp only [Wy]; done) | (simp only [Wv]; omega) | with_unfolding_all rfl) only [Wz, ptrTo, sliceTo, hs, g4, enc4]
        refine insert_w (a := hA) (L := L) (p := p) hj ((ho2.le (hle3.trans hle4)).le ((Le.refl _).new _)) ((hall4).new _) hlen (by show h4.lo ≤ h4.nx + 1; omega) (T.get_upd_same _ _ _) (Nat.lt_succ_self _) ?_ _ ?_
        · intro hlt b n c e
          subst e
          rcases ho2 with ⟨e, _⟩ | ⟨b', e, _, b2, _⟩
          · subst e; simp at hlt
          · cases e; have := (hle3.trans hle4).nx; omega
        · intro v' h5 ho5 hle5
          rw [hput] at ho5
          exact hk v' h5 ho5.sl (hleA.trans hle5)
  · simp only [f1, optI]
    have hi : i < L.length := (List.getElem?_eq_some_iff.1 f2).1
    have ho3 := ho2.le hle3
    rcases ho3 with ⟨rfl, _⟩ | ⟨b, rfl, b1, b2, b3, b4⟩
    · simp at hi
    · have hfl := flat4 L
      have hov := over_flat L i p hi
      simp only [enc4] at hov
      simp (disch := first | omega | (simp only [Wx]; done) | (simp only [Wy]; done) | (simp only [Wv]; omega) | with_unfolding_all rfl) only [Wz, ptrTo, sliceTo, g3, indexAddr_eq, b4, enc4, hov]
      have hput : putH L p = L.set i p := by simp only [putH, f1]
      rw [hput] at hk
      exact hk _ _ ⟨_, openCap, by rw [List.length_set], fun _ => ⟨b, 0, rfl, b2, by rw [T.get_upd_same]; exact Has.all⟩⟩ (hleA.trans ((hall3).set b1 _))
end Go.Proofs

namespace Go.Proofs
open Go.Vai Go.Clashes

def z4 : List Value := [.int .i64 0, .int .i64 0, .int .i64 0, .int .i64 0]
theorem rep_z4 (n : Nat) : (repeatL z4 n).length = n * 4 ∧ (repeatL z4 n).all oneC = true := by
  induction n with
  | zero => exact ⟨rfl, rfl⟩
  | succ n ih => simp only [repeatL, List.length_append, List.all_append, ih]; exact ⟨by simp [z4]; omega, rfl⟩

theorem filter_take_succ {F : H4 → Bool} {L : List H4} {j : Nat} {p : H4} (hp : L[j]? = some p) : (L.take (j + 1)).filter F = (L.take j).filter F ++ if F p then [p] else [] := by
  obtain ⟨hj, rfl⟩ := List.getElem?_eq_some_iff.1 hp
  rw [List.take_succ_eq_append_getElem hj, List.filter_append]
  cases h : F L[j] <;> simp [h]
theorem filter_all {F : H4 → Bool} {L : List H4} (h : ∀ p ∈ L, F p = true) : L.filter F = L := List.filter_eq_self.2 h

/-- slices.DeleteFunc at locks, of a slice of the call's own -/
theorem deleteCut_w (a h : Heap) (L : List H4) (F : H4 → Bool) (v fv : Value) (κ : Value → Heap → Prop) (hle : Le a h) (ho : Own enc4 a 30 h v L) (hlen : L.length ≤ 100000) (hlo : a.lo ≤ a.nx)
    (hF : ∀ p, ∀ (h1 : Heap) (κ1 : Value → Heap → Prop), Le a h1 → (∀ h2, Le h1 h2 → κ1 (.bool (F p)) h2) → CallV Try.prog fv [aggH p] h1 κ1)
    (hk : ∀ v' h', Sl enc4 h' v' (L.filter fun p => !F p) → Cut 30 4 h' v' (L.filter fun p => !F p).length → Le a h' → κ v' h') : CallW Try.prog 90 [v, fv] h κ := by
  refine callW_of mixed ?_
  rw [rs_90]
  refine indexFunc_w L F h v fv _ ho.sl (by omega) (fun p _ h1 κ1 hl hk1 => hF p h1 κ1 (hle.trans hl) hk1) ?_
  intro h1 hle1
  have hall1 := hle.trans hle1
  have n1 := hall1.nx
  have l1 := hall1.lo
  rcases findIdx_find L F with ⟨e1, e2⟩ | ⟨i0, p0, e1, e2, e3, _⟩
  · simp only [e1, optI]
    simp (disch := first | omega | (simp only [Wx]; done) | (simp only [Wy]; done) | (simp only [Wv]; omega) | with_unfolding_all rfl) only [Wz, ptrTo, sliceTo]
    have : (L.filter fun p => !F p) = L := filter_all fun p hp => by
      rw [List.findIdx?_eq_none_iff] at e1
      have := e1 p hp
      simp [this]
    rw [this] at hk
    exact hk v h1 (ho.sl.le hle1) ((Cut.own enc4_len ho).le hle1) hall1
  · simp only [e1, optI]
    have hi0 : i0 < L.length := (List.getElem?_eq_some_iff.1 e2).1
    have hbefore : (L.take i0).filter (fun p => !F p) = L.take i0 := filter_all fun p hp => by
      rw [List.findIdx?_eq_some_iff_getElem] at e1
      obtain ⟨_, _, e1⟩ := e1
      obtain ⟨j, hj, rfl⟩ := List.mem_iff_getElem.1 hp
      have hj' : j < i0 := by simp at hj; omega
      have := e1 j hj'
      simp only [List.getElem_take]
      simpa using this
    rcases ho.le hle1 with ⟨rfl, _⟩ | ⟨b, rfl, b1, b2, b3, b4⟩
    · simp at hi0
    simp (disch := first | omega | (simp only [Wx]; done) | (simp only [Wy]; done) | (simp only [Wv]; omega) | with_unfolding_all rfl) only [Wz, ptrTo, sliceTo]
    refine ⟨fun n l h2 => Le a h2 ∧ b < h2.nx ∧ ∃ (j i : Nat) (K : List H4), slot l 22 = .int .i64 (j : Int) ∧ slot l 19 = .int .i64 (i : Int) ∧ j ≤ L.length ∧ i < j ∧ n = L.length - j ∧ K.length = L.length ∧
        K.take i = (L.take j).filter (fun p => !F p) ∧ K.drop j = L.drop j ∧ h2.bl.get b = some (cellsO (K.flatMap enc4) 30 true),
      ⟨_, hall1, b2, i0 + 1, i0, L, rfl, rfl, by omega, by omega, rfl, rfl, ?_, rfl, b4⟩, ?_⟩
    · rw [filter_take_succ e2, hbefore, e3]; simp
    rintro n l h2 ⟨hle2, hb2, j, i, K, s1, s2, hj, hij, rfl, hK, hK1, hK2, hg⟩
    have n2 := hle2.nx
    have l2 := hle2.lo
    by_cases hlt : j < L.length
    · obtain ⟨p, hp⟩ : ∃ p, L[j]? = some p := ⟨_, List.getElem?_eq_getElem hlt⟩
      have hpK : K[j]? = some p := by
        have : (K.drop j)[0]? = (L.drop j)[0]? := by rw [hK2]
        simpa [hp] using this
      have hslK : Sl enc4 h2 (.slice (some ⟨b, 0, none⟩) L.length openCap) K := ⟨_, openCap, by rw [hK], fun _ => ⟨b, 0, rfl, hb2, by rw [hg]; exact Has.all⟩⟩
      obtain ⟨b', o', hb', hat, hld⟩ := ld4 hslK j hpK
      have bat := hat Nat 0 h2 fun v _ => match v with | .pointer (some a) => a.block | _ => 0
      rw [indexAddr_eq _ _ _ _ _ _ _ _ hlt] at bat
      have hbb : b = b' := bat
      subst hbb
      simp (disch := first | omega | (simp only [Wx]; done) | (simp only [Wy]; done) | (simp only [Wv]; omega) | with_unfolding_all rfl) only [Wz, ptrTo, sliceTo, rs_90_1, s1, s2, hat, hld]
      refine ⟨fun l h' => Le a h' ∧ b < h'.nx ∧ ∃ (i' : Nat) (K' : List H4), slot l 15 = .int .i64 (i' : Int) ∧ i' < j + 1 ∧ K'.length = L.length ∧
        K'.take i' = (L.take (j + 1)).filter (fun p => !F p) ∧ K'.drop (j + 1) = L.drop (j + 1) ∧ h'.bl.get b = some (cellsO (K'.flatMap enc4) 30 true), ?_, ?_⟩
      · simp (disch := first | omega | (simp only [Wx]; done) | (simp only [Wy]; done) | (simp only [Wv]; omega) | with_unfolding_all rfl) only [Wz, ptrTo, sliceTo, rs_90_0, s1, s2, hat, hld, enc4]
        have hleN := hle2.new (cellsO (enc4 p) 30 false)
        refine hF p _ _ hleN ?_
        intro h3 hle3
        have n3 := hle3.nx
        have l3 := hle3.lo
        dsimp only at n3 l3
        have g3 : h3.bl.get h2.nx = some (cellsO (enc4 p) 30 false) := (hle3.get h2.nx (Nat.lt_succ_self _)).trans (T.get_upd_same _ _ _)
        have gb3 : h3.bl.get b = some (cellsO (K.flatMap enc4) 30 true) := by
          rw [hle3.get b (by show b < h2.nx + 1; omega)]
          show (h2.bl.upd h2.nx _).get b = _
          rw [T.get_updne _ _ (by omega)]; exact hg
        have hall3 := hleN.trans hle3
        cases hc : F p with
        | true =>
          simp (disch := first | omega | (simp only [Wx]; done) | (simp only [Wy]; done) | (simp only [Wv]; omega) | with_unfolding_all rfl) only [Wz, ptrTo, sliceTo, s2]
          exact ⟨hall3, by omega, i, K, rfl, by omega, hK, by rw [filter_take_succ hp, hc]; simpa using hK1, by rw [← List.drop_drop, hK2, List.drop_drop], gb3⟩
        | false =>
          have hfl := flat4 K
          have hov := over_flat K i p (by omega)
          simp only [enc4] at hov
          simp (disch := first | omega | (simp only [Wx]; done) | (simp only [Wy]; done) | (simp only [Wv]; omega) | with_unfolding_all rfl) only [Wz, ptrTo, sliceTo, s2, g3, gb3, indexAddr_eq, enc4, hov]
          refine ⟨hall3.set b1 _, by omega, i + 1, K.set i p, rfl, by omega, by simpa using hK, ?_, ?_, rfl⟩
          · rw [filter_take_succ hp, hc, ← hK1]
            have hiK : i < K.length := by omega
            rw [List.take_succ_eq_append_getElem (by simpa using hiK)]
            simp [List.take_set_of_le]
          · rw [List.drop_set_of_lt (by omega), ← List.drop_drop, hK2, List.drop_drop]
      · rintro l8 h3 ⟨hle3, hb3, i', K', s3, hi', hK', hK1', hK2', hg3⟩
        simp (disch := first | omega | (simp only [Wx]; done) | (simp only [Wy]; done) | (simp only [Wv]; omega) | with_unfolding_all rfl) only [Wz, ptrTo, sliceTo, s1, s3]
        exact ⟨_, by omega, hle3, hb3, j + 1, i', K', rfl, rfl, by omega, hi', rfl, hK', hK1', hK2', hg3⟩
    · have hjL : j = L.length := by omega
      subst hjL
      rw [List.take_length] at hK1
      have hfl := flat4 K
      obtain ⟨r1, r2⟩ := rep_z4 (L.length - i)
      simp only [z4] at r1 r2
      simp (disch := first | omega | (simp only [Wx]; done) | (simp only [Wy]; done) | (simp only [Wv]; omega) | with_unfolding_all rfl) only [Wz, ptrTo, sliceTo, rs_90_1, s1, s2, slice_from (n := L.length) (i := i) (Nat.succ_pos 3) hg (by rw [hfl, hK]) (by omega)]
      rw [clear_cells hg (by omega) (by rw [r1]; omega) r2 (by omega)]
      have hovl : (over (K.flatMap enc4) (i * 4) (repeatL z4 (L.length - i))).length = L.length * 4 := by
        rw [over_length (by simp only [z4]; rw [r1]; omega), hfl, hK]
      rw [slice_to (n := L.length) (i := i) (vs := over (K.flatMap enc4) (i * 4) (repeatL z4 (L.length - i))) (Nat.succ_pos 3) (T.get_upd_same _ _ _) hovl (by omega) (by omega)]
      have hlenF : (L.filter fun p => !F p).length = i := by rw [← hK1]; simp; omega
      refine hk _ _ ⟨_, openCap, by rw [hlenF], fun _ => ⟨b, 0, rfl, hb2, ?_⟩⟩ (.inr (.inr (.inr ⟨b, _, L.length, by rw [hlenF], hb2, T.get_upd_same _ _ _, hovl, by omega⟩))) (hle2.set b1 _)
      have hh : Has (some (cellsO (over (K.flatMap enc4) (i * 4) (repeatL z4 (L.length - i))) 30 true)) 0 (((over (K.flatMap enc4) (i * 4) (repeatL z4 (L.length - i))).drop 0).take (i * 4)) := Has.cells (by rw [hovl]; omega)
      have e9 : ((over (K.flatMap enc4) (i * 4) (repeatL z4 (L.length - i))).drop 0).take (i * 4) = (L.filter fun p => !F p).flatMap enc4 := by
        rw [← hK1, List.drop_zero, over, List.append_assoc, List.take_append_of_le_length (by simp [hfl]; omega), List.take_take, Nat.min_self, flat_take]
      rw [e9] at hh
      show Has ((h2.bl.upd b _).get b) 0 _
      rw [T.get_upd_same]; exact hh
theorem deleteFunc_w (a h : Heap) (L : List H4) (F : H4 → Bool) (v fv : Value) (κ : Value → Heap → Prop) (hle : Le a h) (ho : Own enc4 a 30 h v L) (hlen : L.length ≤ 100000) (hlo : a.lo ≤ a.nx)
    (hF : ∀ p, ∀ (h1 : Heap) (κ1 : Value → Heap → Prop), Le a h1 → (∀ h2, Le h1 h2 → κ1 (.bool (F p)) h2) → CallV Try.prog fv [aggH p] h1 κ1)
    (hk : ∀ v' h', Sl enc4 h' v' (L.filter fun p => !F p) → Le a h' → κ v' h') : CallW Try.prog 90 [v, fv] h κ :=
  deleteCut_w a h L F v fv κ hle ho hlen hlo hF fun v' h' h1 _ h2 => hk v' h' h1 h2
end Go.Proofs

namespace Go.Proofs
open Go.Vai Go.Clashes

/-! ## Drop -/
theorem drop1_w (t r : Int) (p : H4) (b : Nat) (h : Heap) (κ : Value → Heap → Prop) (hlo : h.lo ≤ h.nx) (hb : b < h.nx) (hg : h.bl.get b = some (cellsO [.int .i64 t, .int .i64 r] 27 false)) (hk : ∀ h', Le h h' → κ (.bool (named t r p)) h') :
    CallW Try.prog 91 [aggH p, ptrTo b] h κ := by
  refine callW_of mixed ?_
  rw [rs_91]
  simp (disch := first | omega | (simp only [Wx]; done) | (simp only [Wy]; done) | (simp only [Wv]; omega) | with_unfolding_all rfl) only [Wz, ptrTo, sliceTo, aggH, enc4, hg, bin_eq27]
  exact hk _ ((Le.refl h).new _)
def dropH (L : List H4) (t r : Int) : List H4 := L.filter fun p => !named t r p
theorem drop_w (L : List H4) (t r : Int) (h : Heap) (v : Value) (κ : Value → Heap → Prop) (hv : Sl enc4 h v L) (hlen : L.length ≤ 100000) (hlo : h.lo ≤ h.nx) (hk : ∀ v' h', Sl enc4 h' v' (dropH L t r) → Le h h' → κ v' h') :
    CallW Try.prog 48 [v, nmV t r] h κ := by
  refine callW_of mixed ?_
  rw [rs_48]
  simp (disch := first | omega | (simp only [Wx]; done) | (simp only [Wy]; done) | (simp only [Wv]; omega) | with_unfolding_all rfl) only [Wz, ptrTo, sliceTo, nmV]
  obtain ⟨hA, eA⟩ : ∃ hA : Heap, hA = ⟨h.nx + 1, h.bl.upd h.nx (cellsO [.int .i64 t, .int .i64 r] 27 false), h.lo⟩ := ⟨_, rfl⟩
  have hleA : Le h hA := by subst eA; exact (Le.refl h).new _
  have gA : hA.bl.get h.nx = some (cellsO [.int .i64 t, .int .i64 r] 27 false) := by subst eA; exact T.get_upd_same _ _ _
  have nA : hA.nx = h.nx + 1 := by subst eA; rfl
  have lA : hA.lo = h.lo := by subst eA; rfl
  rw [← eA]
  clear eA
  refine clone_w L hA v _ (hv.le hleA) (by omega) (by omega) ?_
  intro v2 h2 ho2 hle2
  refine deleteFunc_w hA h2 L (named t r) v2 _ _ hle2 ho2 hlen (by omega) ?_ ?_
  · intro p h3 κ3 hle3 hk3
    have n3 := hle3.nx
    have l3 := hle3.lo
    simp (disch := first | omega | (simp only [Wx]; done) | (simp only [Wy]; done) | (simp only [Wv]; omega) | with_unfolding_all rfl) only [Wz, ptrTo, sliceTo]
    exact drop1_w t r p h.nx h3 κ3 (by omega) (by omega) ((hle3.get h.nx (by omega)).trans gA) hk3
  · intro v' h' hs hl
    exact hk v' h' hs (hleA.trans hl)

/-! ## pools -/
theorem eq35a (h : Heap) (b o : Nat) : eqB Try.prog h 100 35 (.pointer (some ⟨b, o, none⟩)) (.pointer none) = some false := by kernel_rfl
theorem eq35b (h : Heap) : eqB Try.prog h 100 35 (.pointer none) (.pointer none) = some true := by kernel_rfl
theorem eq100a (h : Heap) (b o : Nat) : eqB Try.prog h 100 100 (.pointer (some ⟨b, o, none⟩)) (.pointer none) = some false := by kernel_rfl
theorem bin_eq35 {β : Type} {fl : β} (cn : Bool) (b o : Nat) (h : Heap) (κ : Value → Heap → β) : binB fl Try.prog .eql 35 cn false (.pointer (some ⟨b, o, none⟩)) (.pointer none) h κ = κ (.bool false) h := by simp only [binB, eq35a, fbK_eq]
theorem bin_eq35n {β : Type} {fl : β} (cn : Bool) (h : Heap) (κ : Value → Heap → β) : binB fl Try.prog .eql 35 cn false (.pointer none) (.pointer none) h κ = κ (.bool true) h := by simp only [binB, eq35b, fbK_eq]
theorem bin_ne35 {β : Type} {fl : β} (cn : Bool) (b o : Nat) (h : Heap) (κ : Value → Heap → β) : binB fl Try.prog .neq 35 cn false (.pointer (some ⟨b, o, none⟩)) (.pointer none) h κ = κ (.bool true) h := by simp only [binB, eq35a, fbK_eq, Bool.not_false]
theorem bin_eq100 {β : Type} {fl : β} (cn : Bool) (b o : Nat) (h : Heap) (κ : Value → Heap → β) : binB fl Try.prog .eql 100 cn false (.pointer (some ⟨b, o, none⟩)) (.pointer none) h κ = κ (.bool false) h := by simp only [binB, eq100a, fbK_eq]
theorem bin_ne100 {β : Type} {fl : β} (cn : Bool) (b o : Nat) (h : Heap) (κ : Value → Heap → β) : binB fl Try.prog .neq 100 cn false (.pointer (some ⟨b, o, none⟩)) (.pointer none) h κ = κ (.bool true) h := by simp only [binB, eq100a, fbK_eq, Bool.not_false]

/-- a pool: two blocks of its own, behind the heap a -/
structure PoolIs (a h : Heap) (bp bl : Nat) (txn most : Int) (L : List H4) : Prop where
  p1 : a.nx ≤ bp
  p2 : a.nx ≤ bl
  q1 : bp < h.nx
  q2 : bl < h.nx
  ne : bp ≠ bl
  lo : h.lo ≤ bl
  gp : h.bl.get bp = some (cellsO [ptrTo bl, .int .i64 txn, .int .i64 most] 104 false)
  gl : ∃ vl, h.bl.get bl = some (cellsO [vl] 102 false) ∧ Sl enc4 h vl L ∧ oneC vl = true
theorem PoolIs.le {a h h' : Heap} {bp bl : Nat} {txn most : Int} {L : List H4} (p : PoolIs a h bp bl txn most L) (hl : Le h h') : PoolIs a h' bp bl txn most L := by
  obtain ⟨p1, p2, q1, q2, ne, lo, gp, vl, gl, sl, ov⟩ := p
  exact ⟨p1, p2, Nat.lt_of_lt_of_le q1 hl.nx, Nat.lt_of_lt_of_le q2 hl.nx, ne, by rw [hl.lo]; exact lo, by rw [hl.get bp q1]; exact gp, vl, by rw [hl.get bl q2]; exact gl, sl.le hl, ov⟩
/-- a new list is laid into it -/
theorem PoolIs.set {a h : Heap} {bp bl : Nat} {txn most : Int} {L L' : List H4} (p : PoolIs a h bp bl txn most L) {v : Value} (hv : Sl enc4 h v L') (hb : ∀ b o n c, v = .slice (some ⟨b, o, none⟩) n c → L' ≠ [] → b ≠ bl) :
    PoolIs a ⟨h.nx, h.bl.upd bl (cellsO [v] 102 false), h.lo⟩ bp bl txn most L' := by
  obtain ⟨p1, p2, q1, q2, ne, lo, gp, vl, gl, sl, ov⟩ := p
  refine ⟨p1, p2, q1, q2, ne, lo, (T.get_updne _ _ (Ne.symm ne)).trans gp, v, T.get_upd_same _ _ _, ?_, ?_⟩
  · obtain ⟨x, cap, rfl, hx⟩ := hv
    refine ⟨x, cap, rfl, fun hn => ?_⟩
    obtain ⟨b, o, rfl, e2, e3⟩ := hx hn
    exact ⟨b, o, rfl, e2, by show Has ((h.bl.upd bl _).get b) o _; rw [T.get_updne _ _ (Ne.symm (hb b o _ _ rfl hn))]; exact e3⟩
  · obtain ⟨x, cap, rfl, hx⟩ := hv; rfl

/-- a list of locks does not lie in a block of one cell -/
theorem Sl.ne {h : Heap} {v u : Value} {L : List H4} {bl e : Nat} {op : Bool} (hs : Sl enc4 h v L) (hg : h.bl.get bl = some (cellsO [u] e op)) : ∀ b o n c, v = .slice (some ⟨b, o, none⟩) n c → L ≠ [] → b ≠ bl := by
  rintro b o n c rfl hn rfl
  obtain ⟨x, cap, e1, hx⟩ := hs
  obtain ⟨b', o', e2, _, n', c', e', h1, h2, _⟩ := hx hn
  cases e1; cases e2
  rw [hg] at h1
  have hl : (L.flatMap enc4).length = L.length * 4 := flat4 L
  have hpos := List.length_pos_iff.2 hn
  rcases h1 with h1 | ⟨op', h1⟩
  · cases h1
  · simp only [cellsO, Option.some.injEq, AObj.cells.injEq] at h1
    obtain ⟨rfl, _⟩ := h1
    rw [hl] at h2
    simp only [List.length_cons, List.length_nil] at h2; omega

theorem new_w (txn most : Int) (h : Heap) (κ : Value → Heap → Prop) (hlo : h.lo ≤ h.nx) (h1 : txn < 0) (h2 : 0 ≤ most) (h3 : most ≤ 8)
    (hk : ∀ bp bl h', PoolIs h h' bp bl txn most [] → Le h h' → κ (.tuple ⟨[ptrTo bp, .int .i64 0]⟩) h') : CallW Try.prog 19 [.int .i64 txn, .int .i64 most] h κ := by
  refine callW_of mixed ?_
  rw [rs_19]
  simp (disch := first | omega | (simp only [Wx]; done) | (simp only [Wy]; done) | (simp only [Wv]; omega) | with_unfolding_all rfl) only [Wz, ptrTo, sliceTo]
  refine hk (h.nx + 1) h.nx _ ⟨by omega, by omega, by show h.nx + 1 < h.nx + 1 + 1; omega, by show h.nx < h.nx + 1 + 1; omega, by omega, hlo, T.get_upd_same _ _ _, .slice none 0 0, (T.get_updne _ _ (by omega)).trans (T.get_upd_same _ _ _), Sl.nil _ _ _, rfl⟩ (((Le.refl h).new _).new _)

theorem mode2_w (a h : Heap) (bp bl : Nat) (txn most : Int) (L : List H4) (t r : Int) (κ : Value → Heap → Prop) (p : PoolIs a h bp bl txn most L) (hlen : L.length ≤ 100000) (hlo : h.lo ≤ h.nx)
    (hk : ∀ h', Le h h' → κ (.bool (decide (modeOf L t r ≠ 0))) h') : CallW Try.prog 32 [ptrTo bp, nmV t r] h κ := by
  refine callW_of mixed ?_
  rw [rs_32]
  have gp := p.gp
  obtain ⟨vl, gl, sl, ov⟩ := p.gl
  have q1 := p.q1
  have q2 := p.q2
  simp (disch := first | omega | (simp only [Wx]; done) | (simp only [Wy]; done) | (simp only [Wv]; omega) | with_unfolding_all rfl) only [Wz, ptrTo, sliceTo, nmV, bin_ne35, gp]
  have hle := (Le.refl h).new (cellsO [.int .i64 t, .int .i64 r] 27 false)
  refine callW_of mixed ?_
  rw [rs_72]
  simp (disch := first | omega | (simp only [Wx]; done) | (simp only [Wy]; done) | (simp only [Wv]; omega) | with_unfolding_all rfl) only [Wz, ptrTo, sliceTo, nmV, bin_ne100, gl]
  have hle2 := hle.new (cellsO [.int .i64 t, .int .i64 r] 27 false)
  refine mode_w L t r _ vl _ (sl.le hle2) (by omega) (by show h.lo ≤ h.nx + 1 + 1; omega) ?_
  intro h' hl'
  have := hk h' (hle2.trans hl')
  by_cases hm : modeOf L t r = 0
  · simp (disch := first | omega | (simp only [Wx]; done) | (simp only [Wy]; done) | (simp only [Wv]; omega) | with_unfolding_all rfl) only [Wz, ptrTo, sliceTo, dec_t hm]
    simpa [hm] using this
  · simp (disch := first | omega | (simp only [Wx]; done) | (simp only [Wy]; done) | (simp only [Wv]; omega) | with_unfolding_all rfl) only [Wz, ptrTo, sliceTo, dec_f hm]
    simpa [hm] using this

theorem room_w (a h : Heap) (bp bl : Nat) (txn most : Int) (L : List H4) (κ : Value → Heap → Prop) (p : PoolIs a h bp bl txn most L) (hlen : L.length ≤ 100000) (hm : 0 ≤ most ∧ most ≤ 8)
    (hk : κ (.int .i64 (most - L.length)) h) : CallW Try.prog 24 [ptrTo bp] h κ := by
  refine callW_of mixed ?_
  rw [rs_24]
  have gp := p.gp
  obtain ⟨vl, gl, sl, ov⟩ := p.gl
  obtain ⟨x, cap, rfl, hx⟩ := sl
  simp (disch := first | omega | (simp only [Wx]; done) | (simp only [Wy]; done) | (simp only [Wv]; omega) | with_unfolding_all rfl) only [Wz, ptrTo, sliceTo, bin_eq35, gp, gl, rs_24_0]
  exact hk
theorem list_w (a h : Heap) (bp bl : Nat) (txn most : Int) (L : List H4) (κ : Value → Heap → Prop) (p : PoolIs a h bp bl txn most L) (hlen : L.length ≤ 100000) (hlo : h.lo ≤ h.nx)
    (hk : ∀ v' h', Sl enc4 h' v' L → Le h h' → κ v' h') : CallW Try.prog 23 [ptrTo bp] h κ := by
  refine callW_of mixed ?_
  rw [rs_23]
  have gp := p.gp
  obtain ⟨vl, gl, sl, ov⟩ := p.gl
  simp (disch := first | omega | (simp only [Wx]; done) | (simp only [Wy]; done) | (simp only [Wv]; omega) | with_unfolding_all rfl) only [Wz, ptrTo, sliceTo, bin_eq35, gp]
  refine callW_of mixed ?_
  rw [rs_69]
  simp (disch := first | omega | (simp only [Wx]; done) | (simp only [Wy]; done) | (simp only [Wv]; omega) | with_unfolding_all rfl) only [Wz, ptrTo, sliceTo, bin_eq100, gl]
  refine append_own (enc := enc4) (a := h) (L := []) (M := L) enc4_len enc4_one (by omega) (by omega) (.inl ⟨rfl, .inl rfl⟩) sl (Le.refl h) (by simp; omega) hlo _ ?_
  intro v' h' ho hl _ _
  exact hk v' h' (by simpa using ho.sl) hl
theorem len_w (a h : Heap) (bp bl : Nat) (txn most : Int) (L : List H4) (κ : Value → Heap → Prop) (p : PoolIs a h bp bl txn most L) (hlen : L.length ≤ 100000) (hlo : h.lo ≤ h.nx)
    (hk : ∀ h', Le h h' → κ (.int .i64 (L.length : Int)) h') : CallW Try.prog 27 [ptrTo bp] h κ := by
  refine callW_of mixed ?_
  rw [rs_27]
  refine list_w a h bp bl txn most L _ p hlen hlo ?_
  intro v' h' hs hl
  simp (disch := first | omega | (simp only [Wx]; done) | (simp only [Wy]; done) | (simp only [Wv]; omega) | with_unfolding_all rfl) only [Wz, ptrTo, sliceTo, hs.len]
  exact hk h' hl
theorem txn_w (a h : Heap) (bp bl : Nat) (txn most : Int) (L : List H4) (κ : Value → Heap → Prop) (p : PoolIs a h bp bl txn most L) (hk : κ (.int .i64 txn) h) : CallW Try.prog 37 [ptrTo bp] h κ := by
  refine callW_of mixed ?_
  rw [rs_37]
  have gp := p.gp
  simp (disch := first | omega | (simp only [Wx]; done) | (simp only [Wy]; done) | (simp only [Wv]; omega) | with_unfolding_all rfl) only [Wz, ptrTo, sliceTo, bin_eq35, gp]
  exact hk

/-- may a lock be pooled -/
def elig (t r m : Int) : Bool := (decide (lvl t r = 0) || decide (lvl t r = 1)) && (decide (m = 1) || decide (m = 2) || decide (m = 3))
theorem eligible_w (t r m : Int) {h : Heap} {κ : Value → Heap → Prop} (hk : κ (.bool (elig t r m)) h) : CallW Try.prog 21 [nmV t r, .int .i64 m] h κ := by
  refine pureW (v := .bool (elig t r m)) rfl rfl (callW_of mixed ?_) hk
  rw [rs_21]
  simp (disch := first | omega | (simp only [Wx]; done) | (simp only [Wy]; done) | (simp only [Wv]; omega) | with_unfolding_all rfl) only [Wz, ptrTo, sliceTo, nmV]
  refine level_w t r ?_
  have : (m = 1 ∨ m = 2 ∨ m = 3) ∨ (m < 1 ∨ 3 < m) := by omega
  rcases lvl_cases t r with h1 | h1 | h1 | h1 <;> rcases this with (h2 | h2 | h2) | (h2 | h2) <;> simp (disch := first | omega | (simp only [Wx]; done) | (simp only [Wy]; done) | (simp only [Wv]; omega) | with_unfolding_all rfl) only [Wz, ptrTo, sliceTo, h1, h2] <;> simp [elig, h1, h2] <;> omega

theorem Sl.blk {h : Heap} {v : Value} {L : List H4} (hs : Sl enc4 h v L) (hn : L ≠ []) : ∃ b o c, v = .slice (some ⟨b, o, none⟩) L.length c ∧ b < h.nx ∧ Has (h.bl.get b) o (L.flatMap enc4) := by
  obtain ⟨x, cap, rfl, hx⟩ := hs
  obtain ⟨b, o, rfl, h1, h2⟩ := hx hn
  exact ⟨b, o, cap, rfl, h1, h2⟩
/-- all stays but one block -/
structure LeB (bl : Nat) (h h' : Heap) : Prop where
  nx : h.nx ≤ h'.nx
  lo : h'.lo = h.lo
  get : ∀ b, b < h.nx → b ≠ bl → h'.bl.get b = h.bl.get b
theorem LeB.of_le {bl : Nat} {h h' : Heap} (l : Le h h') : LeB bl h h' := ⟨l.nx, l.lo, fun b hb _ => l.get b hb⟩
theorem LeB.set {bl : Nat} {h h' : Heap} (l : Le h h') (o : AObj) : LeB bl h ⟨h'.nx, h'.bl.upd bl o, h'.lo⟩ :=
  ⟨l.nx, l.lo, fun b hb hn => (T.get_updne _ _ (Ne.symm hn)).trans (l.get b hb)⟩
theorem LeB.le {a h h' : Heap} {bl : Nat} (l : LeB bl h h') (k : Le a h) (hb : a.nx ≤ bl) : Le a h' :=
  ⟨Nat.le_trans k.nx l.nx, l.lo.trans k.lo, fun b hl => (l.get b (Nat.lt_of_lt_of_le hl k.nx) (by omega)).trans (k.get b hl)⟩
/-- what comes of a pool when a lock is put -/
def putP (most : Int) (L : List H4) (p : H4) : Int × List H4 :=
  if elig p.t p.r p.m = false then (2, L) else if modeOf L p.t p.r ≠ 0 then (4, L) else if most - L.length = 0 then (8, L) else (0, putH L p)
theorem poolPut_w (a h : Heap) (bp bl : Nat) (txn most : Int) (L : List H4) (t r m : Int) (κ : Value → Heap → Prop) (p : PoolIs a h bp bl txn most L) (hlen : L.length ≤ 100000) (hlo : h.lo ≤ h.nx) (hm : 0 ≤ most ∧ most ≤ 8)
    (hk : ∀ h', PoolIs a h' bp bl txn most (putP most L ⟨txn, t, r, m⟩).2 → LeB bl h h' → κ (.int .i64 (putP most L ⟨txn, t, r, m⟩).1) h') : CallW Try.prog 20 [ptrTo bp, nmV t r, .int .i64 m] h κ := by
  refine callW_of mixed ?_
  rw [rs_20]
  simp (disch := first | omega | (simp only [Wx]; done) | (simp only [Wy]; done) | (simp only [Wv]; omega) | with_unfolding_all rfl) only [Wz, ptrTo, sliceTo, nmV, bin_eq35]
  refine eligible_w t r m ?_
  have hle1 := (Le.refl h).new (cellsO [.int .i64 t, .int .i64 r] 27 false)
  obtain ⟨hA, eA⟩ : ∃ hA : Heap, hA = ⟨h.nx + 1, h.bl.upd h.nx (cellsO [.int .i64 t, .int .i64 r] 27 false), h.lo⟩ := ⟨_, rfl⟩
  have gA : hA.bl.get h.nx = some (cellsO [.int .i64 t, .int .i64 r] 27 false) := by subst eA; exact T.get_upd_same _ _ _
  have nA : hA.nx = h.nx + 1 := by subst eA; rfl
  have lA : hA.lo = h.lo := by subst eA; rfl
  rw [← eA] at hle1 ⊢
  clear eA
  cases he : elig t r m with
  | false =>
    simp (disch := first | omega | (simp only [Wx]; done) | (simp only [Wy]; done) | (simp only [Wv]; omega) | with_unfolding_all rfl) only [Wz, ptrTo, sliceTo]
    have := hk hA (by simpa [putP, he] using p.le hle1) (LeB.of_le hle1)
    simpa [putP, he] using this
  | true =>
    simp (disch := first | omega | (simp only [Wx]; done) | (simp only [Wy]; done) | (simp only [Wv]; omega) | with_unfolding_all rfl) only [Wz, ptrTo, sliceTo, rs_20_1, gA]
    refine mode2_w a hA bp bl txn most L t r _ (p.le hle1) hlen (by omega) ?_
    intro h2 hle2
    have n2 := hle2.nx
    have l2 := hle2.lo
    have g2 := (hle2.get h.nx (by omega)).trans gA
    have p2 := p.le (hle1.trans hle2)
    by_cases hmo : modeOf L t r = 0
    · simp (disch := first | omega | (simp only [Wx]; done) | (simp only [Wy]; done) | (simp only [Wv]; omega) | with_unfolding_all rfl) only [Wz, ptrTo, sliceTo, dec_f (not_not_intro hmo)]
      refine room_w a h2 bp bl txn most L _ p2 hlen hm ?_
      by_cases hr : most - L.length = 0
      · simp (disch := first | omega | (simp only [Wx]; done) | (simp only [Wy]; done) | (simp only [Wv]; omega) | with_unfolding_all rfl) only [Wz, ptrTo, sliceTo, dec_t hr]
        have := hk h2 (by simpa [putP, he, hmo, hr] using p2) (LeB.of_le (hle1.trans hle2))
        simpa [putP, he, hmo, hr] using this
      · simp (disch := first | omega | (simp only [Wx]; done) | (simp only [Wy]; done) | (simp only [Wv]; omega) | with_unfolding_all rfl) only [Wz, ptrTo, sliceTo, dec_f hr]
        have gp := p2.gp
        obtain ⟨vl, gl, sl, ov⟩ := p2.gl
        simp (disch := first | omega | (simp only [Wx]; done) | (simp only [Wy]; done) | (simp only [Wv]; omega) | with_unfolding_all rfl) only [Wz, ptrTo, sliceTo, rs_20_0, gp, gl, g2]
        refine put_w L ⟨txn, t, r, m⟩ h2 vl _ sl hlen (by omega) ?_
        intro v' h3 hs3 hle3
        have p3 := p2.le hle3
        have gp3 := p3.gp
        have lo3 := p3.lo
        obtain ⟨vl3, gl3, sl3, ov3⟩ := p3.gl
        have hne := Sl.ne hs3 gl3
        have hs4 := hs3
        obtain ⟨x, cap, rfl, _⟩ := hs4
        simp (disch := first | omega | (simp only [Wx]; done) | (simp only [Wy]; done) | (simp only [Wv]; omega) | with_unfolding_all rfl) only [Wz, ptrTo, sliceTo, gp3, gl3]
        have p4 := p3.set hs3 hne
        have := hk _ (by simpa [putP, he, hmo, hr] using p4) (LeB.set (hle1.trans (hle2.trans hle3)) _)
        simpa [putP, he, hmo, hr] using this
    · simp (disch := first | omega | (simp only [Wx]; done) | (simp only [Wy]; done) | (simp only [Wv]; omega) | with_unfolding_all rfl) only [Wz, ptrTo, sliceTo, dec_t (show ¬ modeOf L t r = 0 from hmo)]
      have := hk h2 (by simpa [putP, he, hmo] using p2) (LeB.of_le (hle1.trans hle2))
      simpa [putP, he, hmo] using this

def takeP (L : List H4) (t r : Int) : (Int × Bool) × List H4 := if modeOf L t r = 0 then ((0, false), L) else ((modeOf L t r, true), dropH L t r)
theorem poolTake_w (a h : Heap) (bp bl : Nat) (txn most : Int) (L : List H4) (t r : Int) (κ : Value → Heap → Prop) (p : PoolIs a h bp bl txn most L) (hlen : L.length ≤ 100000) (hlo : h.lo ≤ h.nx)
    (hk : ∀ h', PoolIs a h' bp bl txn most (takeP L t r).2 → LeB bl h h' → κ (.tuple ⟨[.int .i64 (takeP L t r).1.1, .bool (takeP L t r).1.2]⟩) h') : CallW Try.prog 22 [ptrTo bp, nmV t r] h κ := by
  refine callW_of mixed ?_
  rw [rs_22]
  simp (disch := first | omega | (simp only [Wx]; done) | (simp only [Wy]; done) | (simp only [Wv]; omega) | with_unfolding_all rfl) only [Wz, ptrTo, sliceTo, nmV, bin_eq35]
  have hle1 := (Le.refl h).new (cellsO [.int .i64 t, .int .i64 r] 27 false)
  obtain ⟨hA, eA⟩ : ∃ hA : Heap, hA = ⟨h.nx + 1, h.bl.upd h.nx (cellsO [.int .i64 t, .int .i64 r] 27 false), h.lo⟩ := ⟨_, rfl⟩
  have gA : hA.bl.get h.nx = some (cellsO [.int .i64 t, .int .i64 r] 27 false) := by subst eA; exact T.get_upd_same _ _ _
  have nA : hA.nx = h.nx + 1 := by subst eA; rfl
  have lA : hA.lo = h.lo := by subst eA; rfl
  rw [← eA] at hle1 ⊢
  clear eA
  refine mode2_w a hA bp bl txn most L t r _ (p.le hle1) hlen (by omega) ?_
  intro h2 hle2
  have n2 := hle2.nx
  have l2 := hle2.lo
  have g2 := (hle2.get h.nx (by omega)).trans gA
  have p2 := p.le (hle1.trans hle2)
  by_cases hmo : modeOf L t r = 0
  · simp (disch := first | omega | (simp only [Wx]; done) | (simp only [Wy]; done) | (simp only [Wv]; omega) | with_unfolding_all rfl) only [Wz, ptrTo, sliceTo, dec_f (not_not_intro hmo)]
    have := hk h2 (by simpa [takeP, hmo] using p2) (LeB.of_le (hle1.trans hle2))
    simpa [takeP, hmo] using this
  · simp (disch := first | omega | (simp only [Wx]; done) | (simp only [Wy]; done) | (simp only [Wv]; omega) | with_unfolding_all rfl) only [Wz, ptrTo, sliceTo, dec_t (show ¬ modeOf L t r = 0 from hmo)]
    have gp := p2.gp
    obtain ⟨vl, gl, sl, ov⟩ := p2.gl
    simp (disch := first | omega | (simp only [Wx]; done) | (simp only [Wy]; done) | (simp only [Wv]; omega) | with_unfolding_all rfl) only [Wz, ptrTo, sliceTo, rs_22_0, gp, gl, g2]
    refine mode_w L t r h2 vl _ sl (by omega) (by omega) ?_
    intro h3 hle3
    have n3 := hle3.nx
    have l3 := hle3.lo
    have p3 := p2.le hle3
    have gp3 := p3.gp
    have g3 := (hle3.get h.nx (by omega)).trans g2
    obtain ⟨vl3, gl3, sl3, ov3⟩ := p3.gl
    simp (disch := first | omega | (simp only [Wx]; done) | (simp only [Wy]; done) | (simp only [Wv]; omega) | with_unfolding_all rfl) only [Wz, ptrTo, sliceTo, gp3, gl3, g3]
    refine drop_w L t r h3 vl3 _ sl3 hlen (by omega) ?_
    intro v' h4 hs4 hle4
    have p4 := p3.le hle4
    have gp4 := p4.gp
    have lo4 := p4.lo
    obtain ⟨vl4, gl4, sl4, ov4⟩ := p4.gl
    have hne := Sl.ne hs4 gl4
    have hs5 := hs4
    obtain ⟨x, cap, rfl, _⟩ := hs5
    simp (disch := first | omega | (simp only [Wx]; done) | (simp only [Wy]; done) | (simp only [Wv]; omega) | with_unfolding_all rfl) only [Wz, ptrTo, sliceTo, gp4, gl4]
    have p5 := p4.set hs4 hne
    have := hk _ (by simpa [takeP, hmo] using p5) (LeB.set (hle1.trans (hle2.trans (hle3.trans hle4))) _)
    simpa [takeP, hmo] using this

/-! ## Pick, T -/
def pickM (n m : Int) : Int := if m < 1 then 0 else if Int.tmod n m < 0 then Int.tmod n m + m else Int.tmod n m
theorem pickM_range {n m : Int} (h : 0 < m) : 0 ≤ pickM n m ∧ pickM n m < m := by
  unfold pickM
  rw [if_neg (by omega)]
  have h1 := Int.tmod_lt_of_pos n h
  have h2 : -m < Int.tmod n m := by
    have := Int.lt_tmod_of_pos n h; omega
  split <;> omega
theorem pick_w (n m : Int) (hm : m ≤ 9223372036854775807) {h : Heap} {κ : Value → Heap → Prop} (hk : κ (.int .i64 (pickM n m)) h) : CallW Try.prog 18 [.int .i64 n, .int .i64 m] h κ := by
  refine pureW (v := .int .i64 (pickM n m)) rfl rfl (callW_of mixed ?_) hk
  rw [rs_18]
  by_cases h1 : m < 1
  · simp (disch := first | omega | (simp only [Wx]; done) | (simp only [Wy]; done) | (simp only [Wv]; omega) | with_unfolding_all rfl) only [Wz, ptrTo, sliceTo]; simp [pickM, h1]
  · have h2 := Int.tmod_lt_of_pos n (show 0 < m by omega)
    have h3 := Int.lt_tmod_of_pos n (show 0 < m by omega)
    simp (disch := first | omega | (simp only [Wx]; done) | (simp only [Wy]; done) | (simp only [Wv]; omega) | with_unfolding_all rfl) only [Wz, ptrTo, sliceTo, rs_18_0, bin_rem _ _ _ _ _ m _ _ (by omega)]
    refine ⟨fun l h' => slot l 5 = .int .i64 (pickM n m), ?_, fun l h' hs => hs⟩
    by_cases h4 : Int.tmod n m < 0
    · simp (disch := first | omega | (simp only [Wx]; done) | (simp only [Wy]; done) | (simp only [Wv]; omega) | with_unfolding_all rfl) only [Wz, ptrTo, sliceTo]; simp [pickM, h1, h4]
    · simp (disch := first | omega | (simp only [Wx]; done) | (simp only [Wy]; done) | (simp only [Wv]; omega) | with_unfolding_all rfl) only [Wz, ptrTo, sliceTo]; simp [pickM, h1, h4]
theorem tname_w (t : Int) {h : Heap} {κ : Value → Heap → Prop} (hk : κ (nmV t (-1)) h) : CallW Try.prog 26 [.int .i64 t] h κ := by
  refine pureW (v := nmV t (-1)) rfl rfl (callW_of mixed ?_) hk
  rw [rs_26]
  simp (disch := first | omega | (simp only [Wx]; done) | (simp only [Wy]; done) | (simp only [Wv]; omega) | with_unfolding_all rfl) only [Wz, ptrTo, sliceTo]
  rfl
/-- latchstringref02.Compare -/
def rCmp (t r t' r' : Int) : Int := if t < t' ∨ (t = t' ∧ r < r') then -1 else if t = t' ∧ r = r' then 0 else 1
theorem rCompare_w (t r t' r' : Int) {h : Heap} {κ : Value → Heap → Prop} (hk : κ (.int .i64 (rCmp t r t' r')) h) : CallW Try.prog 25 [nmV t r, nmV t' r'] h κ := by
  refine pureW (v := .int .i64 (rCmp t r t' r')) rfl rfl (callW_of mixed ?_) hk
  rw [rs_25]
  rcases Int.lt_trichotomy t t' with h1 | h1 | h1
  · simp (disch := first | omega | (simp only [Wx]; done) | (simp only [Wy]; done) | (simp only [Wv]; omega) | with_unfolding_all rfl) only [Wz, ptrTo, sliceTo, nmV]; simp [rCmp, h1]
  · subst h1
    rcases Int.lt_trichotomy r r' with h2 | h2 | h2
    · simp (disch := first | omega | (simp only [Wx]; done) | (simp only [Wy]; done) | (simp only [Wv]; omega) | with_unfolding_all rfl) only [Wz, ptrTo, sliceTo, nmV]; simp [rCmp, h2]
    · subst h2
      simp (disch := first | omega | (simp only [Wx]; done) | (simp only [Wy]; done) | (simp only [Wv]; omega) | with_unfolding_all rfl) only [Wz, ptrTo, sliceTo, nmV, bin_eq27, and_self]; simp [rCmp]
    · have h3 : ¬ (r = r') := by omega
      simp (disch := first | omega | (simp only [Wx]; done) | (simp only [Wy]; done) | (simp only [Wv]; omega) | with_unfolding_all rfl) only [Wz, ptrTo, sliceTo, nmV, bin_eq27, true_and, dec_f h3]; unfold rCmp; rw [if_neg (by omega), if_neg (by omega)]
  · have h3 : ¬ (t = t' ∧ r = r') := by omega
    simp (disch := first | omega | (simp only [Wx]; done) | (simp only [Wy]; done) | (simp only [Wv]; omega) | with_unfolding_all rfl) only [Wz, ptrTo, sliceTo, nmV, bin_eq27, dec_f h3]; unfold rCmp; rw [if_neg (by omega), if_neg (by omega)]
theorem lives18 : answersS Try.prog 2000 17 [] (.bool true) = true := by kernel_rfl
end Go.Proofs

namespace Go.Proofs
open Go.Vai Go.Clashes

/-! ## a map from names to modes -/
structure ME where
  t : Int
  r : Int
  m : Int
  born : Nat
def toE (e : ME) : MapEntry := { key := nmV e.t e.r, val := .int .i64 e.m, born := e.born }
def lookM (t r : Int) : List ME → Int
  | [] => 0
  | e :: M => if t = e.t ∧ r = e.r then e.m else lookM t r M
def setM (t r m : Int) : List ME → List ME
  | [] => []
  | e :: M => if t = e.t ∧ r = e.r then { e with m := m } :: M else e :: setM t r m M
def hasM (t r : Int) (M : List ME) : Prop := ∃ e ∈ M, t = e.t ∧ r = e.r
theorem lookM_set (t r m t' r' : Int) : ∀ M : List ME, hasM t r M → lookM t' r' (setM t r m M) = if t' = t ∧ r' = r then m else lookM t' r' M := by
  intro M
  induction M with
  | nil => rintro ⟨e, he, _⟩; cases he
  | cons e M ih =>
    intro hm
    unfold setM
    by_cases h1 : t = e.t ∧ r = e.r
    · rw [if_pos h1]
      obtain ⟨rfl, rfl⟩ := h1
      simp only [lookM]
      by_cases h2 : t' = e.t ∧ r' = e.r
      · rw [if_pos h2, if_pos h2]
      · rw [if_neg h2, if_neg h2, if_neg h2]
    · rw [if_neg h1]
      have hm' : hasM t r M := by
        obtain ⟨q, hq, h2⟩ := hm
        cases hq with
        | head => exact absurd h2 h1
        | tail _ hq => exact ⟨q, hq, h2⟩
      simp only [lookM, ih hm']
      by_cases h2 : t' = e.t ∧ r' = e.r
      · rw [if_pos h2, if_pos h2]
        rw [if_neg]; rintro ⟨rfl, rfl⟩; exact h1 h2
      · rw [if_neg h2, if_neg h2]
theorem lookM_snoc (t r m t' r' : Int) (b : Nat) : ∀ M : List ME, ¬ hasM t r M → lookM t' r' (M ++ [⟨t, r, m, b⟩]) = if t' = t ∧ r' = r then m else lookM t' r' M := by
  intro M
  induction M with
  | nil => intro _; simp [lookM]
  | cons e M ih =>
    intro hm
    have hm' : ¬ hasM t r M := fun ⟨q, hq, h2⟩ => hm ⟨q, .tail _ hq, h2⟩
    have h1 : ¬ (t = e.t ∧ r = e.r) := fun h => hm ⟨e, .head _, h⟩
    simp only [List.cons_append, lookM, ih hm']
    by_cases h2 : t' = e.t ∧ r' = e.r
    · rw [if_pos h2, if_pos h2]
      rw [if_neg]; rintro ⟨rfl, rfl⟩; exact h1 h2
    · rw [if_neg h2, if_neg h2]

theorem find27 (h : Heap) (t r m : Int) : ∀ (M : List ME) (i : Nat), (findB Try.prog h 27 (nmV t r) (M.map toE) i = some none ∧ ¬ hasM t r M ∧ lookM t r M = 0) ∨
    ∃ (j : Nat) (e : MapEntry), findB Try.prog h 27 (nmV t r) (M.map toE) i = some (some (i + j, e)) ∧ hasM t r M ∧ e.key = nmV t r ∧ e.val = .int .i64 (lookM t r M) ∧
      ∀ κ : List MapEntry → Prop, setAt (fun e => { e with key := nmV t r, val := .int .i64 m }) j (M.map toE) κ = κ ((setM t r m M).map toE) := by
  intro M
  induction M with
  | nil => intro i; exact .inl ⟨rfl, fun ⟨e, he, _⟩ => (by cases he), rfl⟩
  | cons e M ih =>
    intro i
    have hf : findB Try.prog h 27 (nmV t r) ((e :: M).map toE) i = (match (some (decide (t = e.t ∧ r = e.r)) : Option Bool) with | some true => some (some (i, toE e)) | some false => findB Try.prog h 27 (nmV t r) (M.map toE) (Nat.succ i) | none => none) := by
      rw [← eq27 h]; rfl
    rw [hf]
    by_cases h1 : t = e.t ∧ r = e.r
    · rw [dec_t h1]
      obtain ⟨rfl, rfl⟩ := h1
      refine .inr ⟨0, toE e, rfl, ⟨e, .head _, rfl, rfl⟩, rfl, by simp [toE, lookM], fun κ => ?_⟩
      simp only [List.map_cons, setAt, setM, and_self, if_true, toE]
    · rw [dec_f h1]
      rcases ih (Nat.succ i) with ⟨g1, g2, g3⟩ | ⟨j, e', g1, ⟨q, q1, q2⟩, g3, g4, g5⟩
      · refine .inl ⟨g1, ?_, by simp only [lookM, if_neg h1, g3]⟩
        rintro ⟨q, hq, h2⟩
        cases hq with
        | head => exact h1 h2
        | tail _ hq => exact g2 ⟨q, hq, h2⟩
      · refine .inr ⟨j + 1, e', by rw [show i + (j + 1) = Nat.succ i + j by omega]; exact g1, ⟨q, .tail _ q1, q2⟩, g3, by simp only [lookM, if_neg h1, g4], fun κ => ?_⟩
        simp only [List.map_cons, setAt, setM, if_neg h1]
        exact g5 fun l => κ (toE e :: l)

/-- a map of the call's own, as a function -/
def MapIs (a h : Heap) (bm : Nat) (f : Int → Int → Int) : Prop := a.nx ≤ bm ∧ bm < h.nx ∧ h.lo ≤ bm ∧ ∃ M clock, h.bl.get bm = some (.map (M.map toE) clock) ∧ ∀ t r, lookM t r M = f t r
theorem MapIs.le {a h h' : Heap} {bm : Nat} {f : Int → Int → Int} (m : MapIs a h bm f) (hl : Le h h') : MapIs a h' bm f := by
  obtain ⟨h1, h2, h3, M, c, h4, h5⟩ := m
  exact ⟨h1, Nat.lt_of_lt_of_le h2 hl.nx, by rw [hl.lo]; exact h3, M, c, by rw [hl.get bm h2]; exact h4, h5⟩
theorem key27 (t r : Int) : keyOk Try.prog 20 27 (nmV t r) = true := by kernel_rfl
theorem look_w {β : Type} {fl : β} {a h : Heap} {bm : Nat} {f : Int → Int → Int} (m : MapIs a h bm f) (t r : Int) (h' : Heap) (hh : h'.bl.get bm = h.bl.get bm) (κ : Value → Heap → β) :
    lookupB fl Try.prog 27 (.int .i64 0) false (.map (some bm)) (nmV t r) h' κ = κ (.int .i64 (f t r)) h' := by
  obtain ⟨h1, h2, h3, M, c, h4, h5⟩ := m
  unfold lookupB lookupE
  rw [key27]
  simp only [hh, h4]
  rcases find27 h' t r 0 M 0 with ⟨g1, _, g3⟩ | ⟨j, e, g1, _, _, g4, _⟩
  · rw [g1]; simp only; rw [← h5, g3]
  · rw [g1]; simp only; rw [← h5, g4]
theorem veq3 (t r : Int) : veq 3 (nmV t r) (nmV t r) = true := by unfold veq; exact veqL_ints 1 [t, r]
theorem snocK_eq (x : MapEntry) : ∀ (l : List MapEntry) (κ : List MapEntry → Prop), snocK x l κ = κ (l ++ [x]) := by
  intro l
  induction l with
  | nil => intro κ; rfl
  | cons a l ih => intro κ; exact ih _
theorem upd_w {a h : Heap} {bm : Nat} {f : Int → Int → Int} (hm : MapIs a h bm f) (t r m : Int) (κ : Value → Heap → Prop)
    (hk : ∀ o, MapIs a ⟨h.nx, h.bl.upd bm o, h.lo⟩ bm (fun t' r' => if t' = t ∧ r' = r then m else f t' r') → κ undef ⟨h.nx, h.bl.upd bm o, h.lo⟩) : mapUpdateB False Try.prog 27 (.map (some bm)) (nmV t r) (.int .i64 m) h κ := by
  obtain ⟨h1, h2, h3, M, c, h4, h5⟩ := hm
  unfold mapUpdateB
  rw [key27]
  simp only [h4]
  rcases find27 h t r m M 0 with ⟨g1, g2, _⟩ | ⟨j, e, g1, g2, g3, _, g5⟩
  · rw [g1]
    simp only
    rw [snocK_eq]
    simp only [fnK_eq]
    rw [setBlock_eq _ _ _ _ h3]
    refine hk _ ⟨h1, h2, h3, M ++ [⟨t, r, m, c⟩], c + 1, by rw [T.get_upd_same]; simp [toE], fun t' r' => ?_⟩
    rw [lookM_snoc t r m t' r' c M g2, h5]
  · rw [g1]
    simp only [g3, veq3]
    rw [Nat.zero_add, g5, setBlock_eq _ _ _ _ h3]
    refine hk _ ⟨h1, h2, h3, setM t r m M, c, T.get_upd_same _ _ _, fun t' r' => ?_⟩
    rw [lookM_set t r m t' r' M g2, h5]
theorem newMap (h : Heap) (hlo : h.lo ≤ h.nx) : MapIs h ⟨h.nx + 1, h.bl.upd h.nx (.map [] 0), h.lo⟩ h.nx fun _ _ => 0 :=
  ⟨Nat.le_refl _, Nat.lt_succ_self _, hlo, [], 0, T.get_upd_same _ _ _, fun _ _ => rfl⟩
end Go.Proofs
