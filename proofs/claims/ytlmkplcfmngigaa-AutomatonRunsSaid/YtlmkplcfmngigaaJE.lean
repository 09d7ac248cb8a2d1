/-
  PROVED HERE: a part of the proof, by a calculus of weakest conditions over an abstract heap (J11).
-/
import Derived.Test.YtlmkplcfmngigaaJ10
set_option linter.unusedVariables false
set_option linter.unusedSimpArgs false
set_option maxRecDepth 100000
namespace Go.Proofs
open Go.Vai Go.Clashes
theorem enc6_len' (a : A6) : (enc6 a).length = 6 := rfl
/-- an act in a slice -/
theorem ld6 {h : Heap} {v : Value} {L : List A6} (hs : Sl enc6 h v L) (i : Nat) {p : A6} (hp : L[i]? = some p) :
    ∃ b o, b < h.nx ∧ (∀ (β : Type) (fl : β) (h' : Heap) (κ : Value → Heap → β), indexAddrS fl 6 v (.int .i64 (i : Int)) h' κ = κ (.pointer (some ⟨b, o, none⟩)) h') ∧
      ((∀ (β : Type) (fl : β) (κ : List Value → β), ldA fl (h.bl.get b) o 6 κ = κ (enc6 p)) ∧
      (∀ (β : Type) (fl : β) (κ : Value → β), ldO fl (h.bl.get b) (o + 5) κ = κ (.int .i64 p.c))) := by
  obtain ⟨b, o, h1, h2, h3, hh⟩ := hs.ld enc6_len' i hp
  exact ⟨b, o, h1, h2, h3, fun β fl κ => ldO_has (fl := fl) hh 5 κ (by show 5 < 6; omega)⟩
theorem h4_ext {p q : H4} : p = q ↔ (p.x = q.x ∧ p.t = q.t ∧ p.r = q.r ∧ p.m = q.m) := by
  cases p; cases q; simp
instance : DecidableEq H4 := fun p q => decidable_of_iff _ h4_ext.symm
theorem eqHk (h : Heap) (a b c d a' b' c' d' : Int) : eqB Try.prog h 100 30 (.agg ⟨[.int .i64 a, .int .i64 b, .int .i64 c, .int .i64 d]⟩) (.agg ⟨[.int .i64 a', .int .i64 b', .int .i64 c', .int .i64 d']⟩) =
    (match (some (ieqB a a')) with | some true => (match (match (some (ieqB b b')) with | some true => (match some (ieqB c c') with | some true => some true | r => r) | r => r) with | some true => (match some (ieqB d d') with | some true => some true | r => r) | r => r) | r => r) := by kernel_rfl
theorem eqH (h : Heap) (p q : H4) : eqB Try.prog h 100 30 (.agg ⟨[.int .i64 p.x, .int .i64 p.t, .int .i64 p.r, .int .i64 p.m]⟩) (.agg ⟨[.int .i64 q.x, .int .i64 q.t, .int .i64 q.r, .int .i64 q.m]⟩) = some (decide (p = q)) := by
  rw [eqHk, ieqB_eq, ieqB_eq, ieqB_eq, ieqB_eq]
  by_cases h1 : p.x = q.x <;> by_cases h2 : p.t = q.t <;> by_cases h3 : p.r = q.r <;> by_cases h4 : p.m = q.m <;> simp [h1, h2, h3, h4, h4_ext]
theorem bin_neH {β : Type} {fl : β} (cn : Bool) (p q : H4) (h : Heap) (κ : Value → Heap → β) : binB fl Try.prog .neq 30 cn false (.agg ⟨[.int .i64 p.x, .int .i64 p.t, .int .i64 p.r, .int .i64 p.m]⟩) (.agg ⟨[.int .i64 q.x, .int .i64 q.t, .int .i64 q.r, .int .i64 q.m]⟩) h κ = κ (.bool (!decide (p = q))) h := by
  simp only [binB, eqH, fbK_eq]
theorem equalH_w (L M : List H4) (h : Heap) (v u : Value) (κ : Value → Heap → Prop) (hv : Sl enc4 h v L) (hu : Sl enc4 h u M) (hlen : L.length ≤ 1000000) (hlen2 : M.length ≤ 1000000) (hk : κ (.bool (decide (L = M))) h) : CallW Try.prog 121 [v, u] h κ := by
  refine callW_of mixed ?_
  rw [rs_121]
  simp (disch := first | omega | (simp only [Wx]; done) | (simp only [Wy]; done) | (simp only [Wv]; omega) | with_unfolding_all rfl) only [Wz, ptrTo, sliceTo, hv.len, hu.len]
  by_cases hl : (L.length : Int) = M.length
  case neg =>
    simp (disch := first | omega | (simp only [Wx]; done) | (simp only [Wy]; done) | (simp only [Wv]; omega) | with_unfolding_all rfl) only [Wz, ptrTo, sliceTo, dec_f hl]
    have : ¬ L = M := fun e => hl (by rw [e])
    rwa [dec_f this] at hk
  simp (disch := first | omega | (simp only [Wx]; done) | (simp only [Wy]; done) | (simp only [Wv]; omega) | with_unfolding_all rfl) only [Wz, ptrTo, sliceTo, dec_t hl, hv.len]
  have hlN : L.length = M.length := by omega
  refine ⟨fun n l h1 => ∃ i : Nat, slot l 14 = .int .i64 (i : Int) ∧ i ≤ L.length ∧ n = L.length - i ∧ L.take i = M.take i ∧ HQ h h1, ⟨_, 0, rfl, Nat.zero_le _, rfl, rfl, rfl⟩, ?_⟩
  rintro n l h1 ⟨i, s1, hi, rfl, hall, hh⟩
  cases (show h = h1 from hh)
  clear hh
  by_cases hlt : i < L.length
  · obtain ⟨p, hp⟩ : ∃ p, L[i]? = some p := ⟨_, List.getElem?_eq_getElem hlt⟩
    obtain ⟨q, hq⟩ : ∃ q, M[i]? = some q := ⟨_, List.getElem?_eq_getElem (by omega)⟩
    obtain ⟨b, o, hb, hat, hld⟩ := ld4 hv i hp
    obtain ⟨b', o', hb', hat', hld'⟩ := ld4 hu i hq
    by_cases he : p = q
    · simp (disch := first | omega | (simp only [Wx]; done) | (simp only [Wy]; done) | (simp only [Wv]; omega) | with_unfolding_all rfl) only [Wz, ptrTo, sliceTo, s1, rs_121_0, hat, hld, hat', hld', enc4, bin_neH, dec_t he]
      refine ⟨_, by omega, i + 1, rfl, by omega, rfl, ?_, rfl⟩
      rw [List.take_add_one, List.take_add_one, hall, hp, hq, he]
    · simp (disch := first | omega | (simp only [Wx]; done) | (simp only [Wy]; done) | (simp only [Wv]; omega) | with_unfolding_all rfl) only [Wz, ptrTo, sliceTo, s1, rs_121_0, hat, hld, hat', hld', enc4, bin_neH, dec_f he]
      have : ¬ L = M := fun e => he (by rw [e] at hp; rw [hp] at hq; cases hq; rfl)
      rwa [dec_f this] at hk
  · simp (disch := first | omega | (simp only [Wx]; done) | (simp only [Wy]; done) | (simp only [Wv]; omega) | with_unfolding_all rfl) only [Wz, ptrTo, sliceTo, s1]
    have : L = M := by
      rw [List.take_of_length_le (by omega), List.take_of_length_le (by omega)] at hall
      exact hall
    rwa [dec_t this] at hk
theorem sameA_w (L M : List H4) (h : Heap) (v u : Value) (κ : Value → Heap → Prop) (hv : Sl enc4 h v L) (hu : Sl enc4 h u M) (hlen : L.length ≤ 1000000) (hlen2 : M.length ≤ 1000000) (hk : κ (.bool (decide (L = M))) h) : CallW Try.prog 63 [v, u] h κ := by
  refine callW_of mixed ?_
  rw [rs_63]
  exact equalH_w L M h v u _ hv hu hlen hlen2 hk
end Go.Proofs
