/-
  PROVED HERE: a part of the proof, by a calculus of weakest conditions over an abstract heap (VaiV, VaiG, Plain, PM, Q1, Q2, VaiH).
-/
import Derived.Test.YtijmemedhkgplaaGreatV3
set_option linter.unusedVariables false
set_option linter.unusedSimpArgs false
set_option maxRecDepth 100000
namespace Go.Vai
open Go Go.RowKit
section
variable {α : Type} {s : Nat} {enc : α → List Value}
theorem flat_dropQ (he : ∀ a : α, (enc a).length = s) (L : List α) : ∀ i, (L.flatMap enc).drop (i * s) = (L.drop i).flatMap enc := by
  induction L with
  | nil => intro i; simp
  | cons a L ih =>
    intro i
    cases i with
    | zero => simp
    | succ i =>
      simp only [List.flatMap_cons, List.drop_succ_cons]
      rw [List.drop_append, ← ih i, he, List.drop_of_length_le (by rw [he, Nat.succ_mul]; omega), show (i + 1) * s - s = i * s by rw [Nat.succ_mul]; omega]
      rfl
theorem Sl.tail {h : Heap} {b o cap cap' i : Nat} {L : List α} (he : ∀ a : α, (enc a).length = s) (hs : Sl enc h (.slice (some ⟨b, o, none⟩) L.length cap) L) (hi : i < L.length) : Sl enc h (.slice (some ⟨b, o + i * s, none⟩) (L.length - i) cap') (L.drop i) := by
  obtain ⟨x', cap2, e1, h2⟩ := hs
  cases e1
  refine ⟨some ⟨b, o + i * s, none⟩, cap', by simp, fun hn => ?_⟩
  have hL : L ≠ [] := by rintro rfl; simp at hn
  obtain ⟨b', o', e, h3, h4⟩ := h2 hL
  cases e
  refine ⟨_, _, rfl, h3, ?_⟩
  have hl := flat_length (enc := enc) he L
  have hle : i * s ≤ L.length * s := Nat.mul_le_mul_right _ (by omega)
  have := h4.sub (i * s) (L.length * s - i * s) (by omega)
  rw [flat_dropQ he, List.take_of_length_le (by rw [flat_length he, List.length_drop, Nat.sub_mul]; exact Nat.le_refl _)] at this
  exact this
theorem boundsFrom {β : Type} {fl : β} {len lim cap i : Nat} (hi : i ≤ len) (hl : len ≤ lim) (κ : Nat → Nat → Nat → β) : boundsB fl len lim cap (some (.int .i64 (i : Int))) none none κ = κ i len cap := by
  have e1 : Nat.ble i len = true := Nat.ble_eq_true_of_le hi
  have e2 : Nat.ble len lim = true := Nat.ble_eq_true_of_le hl
  unfold boundsB
  simp only [numK_nat, numK_none, e1, e2]
theorem Cut.from {e : Nat} {h : Heap} {v : Value} {L : List α} {i : Nat} (he : ∀ a : α, (enc a).length = s) (hs0 : 0 < s) (hs : Sl enc h v L) (c : Cut e s h v L.length) (hi : i ≤ L.length) :
    ∃ u, Sl enc h u (L.drop i) ∧ ∀ (β : Type) (fl : β) (κ : Value → Heap → β), sliceB fl e s v (some (.int .i64 (i : Int))) none none h κ = κ u h := by
  have nilD : i = L.length → L.drop i = [] := fun e => List.drop_of_length_le (by omega)
  rcases c with ⟨c0, rfl⟩ | ⟨c0, b, o, rfl⟩ | ⟨b, o, cap, rfl, c1, c2⟩ | ⟨b, vs, n, rfl, c2, c3, c4, c5⟩
  · obtain rfl : i = 0 := by omega
    exact ⟨.slice none 0 0, by rw [nilD (by omega)]; exact Sl.nil _ _ _, fun β fl κ => id rfl⟩
  · obtain rfl : i = 0 := by omega
    exact ⟨.slice (some ⟨b, o, none⟩) 0 anyCap, by rw [nilD (by omega)]; exact Sl.nil _ _ _, fun β fl κ => id rfl⟩
  · have e1 : Nat.beq cap anyCap = false := by
      cases hq : Nat.beq cap anyCap with
      | false => rfl
      | true => have := beq_t hq; unfold anyCap at this; omega
    have e2 : Nat.beq cap openCap = false := by
      cases hq : Nat.beq cap openCap with
      | false => rfl
      | true => have := beq_t hq; unfold openCap at this; omega
    have e3 : Nat.ble cap 9223372036854775807 = true := Nat.ble_eq_true_of_le c2
    by_cases h0 : cap = i
    · subst h0
      refine ⟨.slice (some ⟨b, o, none⟩) 0 0, by rw [nilD (by omega)]; exact Sl.nil _ _ _, fun β fl κ => ?_⟩
      unfold sliceB
      simp only [e1, e2, e3]
      rw [boundsFrom (by omega) (by omega)]
      unfold sliceOut
      rw [Nat.beq_refl]
      simp only [fnK_eq]
      show κ (.slice (some ⟨b, o, none⟩) (L.length - cap) 0) h = _
      rw [show L.length - cap = 0 by omega]
    · have e4 : Nat.beq cap i = false := by
        cases hq : Nat.beq cap i with
        | false => rfl
        | true => exact absurd (beq_t hq) h0
      by_cases hlt : i < L.length
      · refine ⟨.slice (some ⟨b, o + i * s, none⟩) (L.length - i) (cap - i), hs.tail he hlt, fun β fl κ => ?_⟩
        unfold sliceB
        simp only [e1, e2, e3]
        rw [boundsFrom (by omega) (by omega)]
        unfold sliceOut
        simp only [e4, fnK_eq]
        rfl
      · refine ⟨.slice (some ⟨b, o + i * s, none⟩) 0 (cap - i), by rw [nilD (by omega)]; exact Sl.nil _ _ _, fun β fl κ => ?_⟩
        unfold sliceB
        simp only [e1, e2, e3]
        rw [boundsFrom (by omega) (by omega)]
        unfold sliceOut
        simp only [e4, fnK_eq]
        show κ (.slice (some ⟨b, o + i * s, none⟩) (L.length - i) (cap - i)) h = _
        rw [show L.length - i = 0 by omega]
  · obtain ⟨s, rfl⟩ : ∃ k, s = k + 1 := ⟨s - 1, by omega⟩
    have hk : knownOf h e b = some (n * (s + 1)) := by unfold knownOf; rw [c3]; simp only [cellsO, beq_self_t, c4]
    have hd : Nat.div (Nat.sub (n * (s + 1)) 0) (s + 1) = n := by show (n * (s + 1) - 0) / (s + 1) = n; rw [Nat.sub_zero, Nat.mul_div_cancel _ (by omega)]
    have e1 : Nat.beq openCap anyCap = false := by decide
    have e2 : Nat.beq openCap openCap = true := Nat.beq_refl _
    have e3 : Nat.ble 0 (n * (s + 1)) = true := Nat.ble_eq_true_of_le (Nat.zero_le _)
    by_cases h0 : i = n
    · subst h0
      refine ⟨.slice (some ⟨b, 0, none⟩) 0 anyCap, by rw [nilD (by omega)]; exact Sl.nil _ _ _, fun β fl κ => ?_⟩
      unfold sliceB
      simp only [e1, e2, hk, e3, hd]
      rw [boundsFrom hi c5]
      simp only [e2, beq_self_t]
    · have e4 : Nat.beq i n = false := by
        cases hq : Nat.beq i n with
        | false => rfl
        | true => exact absurd (beq_t hq) h0
      by_cases hlt : i < L.length
      · refine ⟨.slice (some ⟨b, 0 + i * (s + 1), none⟩) (L.length - i) openCap, hs.tail he hlt, fun β fl κ => ?_⟩
        unfold sliceB
        simp only [e1, e2, hk, e3, hd]
        rw [boundsFrom hi c5]
        simp only [e2, e4, fnK_eq]
        rfl
      · refine ⟨.slice (some ⟨b, 0 + i * (s + 1), none⟩) 0 openCap, by rw [nilD (by omega)]; exact Sl.nil _ _ _, fun β fl κ => ?_⟩
        unfold sliceB
        simp only [e1, e2, hk, e3, hd]
        rw [boundsFrom hi c5]
        simp only [e2, e4, fnK_eq]
        show κ (.slice (some ⟨b, 0 + i * (s + 1), none⟩) (L.length - i) openCap) h = _
        rw [show L.length - i = 0 by omega]
end
end Go.Vai

namespace Go.Vai
open Go Go.RowKit
def optI : Option Nat → Int | some i => i | none => -1
def HQ (a b : Heap) : Prop := a = b
theorem optI_any {α : Type} (L : List α) (F : α → Bool) : (decide (0 ≤ optI (L.findIdx? F))) = L.any F := by
  cases hf : L.findIdx? F with
  | none =>
    rw [List.findIdx?_eq_none_iff] at hf
    have : L.any F = false := by rw [List.any_eq_false]; intro x hx; simp [hf x hx]
    rw [this]; rfl
  | some i =>
    rw [List.findIdx?_eq_some_iff_getElem] at hf
    obtain ⟨hi, h1, _⟩ := hf
    have : L.any F = true := List.any_eq_true.2 ⟨_, List.getElem_mem hi, h1⟩
    rw [this]
    exact decide_eq_true (by show (0 : Int) ≤ (i : Int); omega)
theorem find_cases {α : Type} (L : List α) (F : α → Bool) : (L.findIdx? F = none ∧ ∀ x ∈ L, F x = false) ∨ ∃ (i : Nat) (p : α), L.findIdx? F = some i ∧ L[i]? = some p ∧ F p = true ∧ ∀ (j : Nat) (q : α), j < i → L[j]? = some q → F q = false := by
  cases hf : L.findIdx? F with
  | none =>
    rw [List.findIdx?_eq_none_iff] at hf
    exact .inl ⟨rfl, hf⟩
  | some i =>
    rw [List.findIdx?_eq_some_iff_getElem] at hf
    obtain ⟨hi, h1, h2⟩ := hf
    refine .inr ⟨i, L[i], rfl, List.getElem?_eq_getElem hi, h1, fun j q hj hq => ?_⟩
    have := h2 j hj
    rw [(List.getElem?_eq_some_iff.1 hq).2] at this
    simpa using this
theorem idx_some {α : Type} {L : List α} {F : α → Bool} {i : Nat} {p : α} (hp : L[i]? = some p) (h1 : F p = true) (h2 : ∀ (j : Nat) (q : α), j < i → L[j]? = some q → F q = false) : L.findIdx? F = some i := by
  rw [List.findIdx?_eq_some_iff_getElem]
  obtain ⟨hk1, hk2⟩ := List.getElem?_eq_some_iff.1 hp
  refine ⟨hk1, by rw [hk2]; exact h1, fun j hj => ?_⟩
  simpa using h2 j _ hj (List.getElem?_eq_getElem (by omega))
theorem idx_none {α : Type} {L : List α} {F : α → Bool} (h2 : ∀ (j : Nat) (q : α), L[j]? = some q → F q = false) : L.findIdx? F = none := by
  rw [List.findIdx?_eq_none_iff]
  intro p hp
  obtain ⟨j, hj⟩ := List.getElem?_of_mem hp
  exact h2 j p hj
theorem filter_take_s {α : Type} {F : α → Bool} {L : List α} {j : Nat} {p : α} (hp : L[j]? = some p) : (L.take (j + 1)).filter F = (L.take j).filter F ++ if F p then [p] else [] := by
  obtain ⟨hj, rfl⟩ := List.getElem?_eq_some_iff.1 hp
  rw [List.take_succ_eq_append_getElem hj, List.filter_append]
  cases h : F L[j] <;> simp [h]
noncomputable def shIndexFunc (P : Program) (ti : TypeId) (s : Nat) (a0 a1 : Value) (h : Heap) (κ : Value → Heap → Prop) : Prop :=
  lenSli False a0 h fun v0 h =>
  LoopR [undef, undef, undef, undef, undef, undef, undef, undef, undef, undef, (Value.int .i64 (0)), undef, (Value.int .i64 (0))] h fun l2 h N1 =>
  binB False P .lss ti false false (slot l2 12) v0 h fun v3 h =>
  CondW v3 (
  indexAddrS False s a0 (slot l2 12) h fun v4 h =>
  loadA False s v4 h fun v5 h =>
  CallV P a1 [v5] h fun v6 h =>
  CondW v6 (
  κ (slot l2 12) h) (
  binB False P .add ti true false (slot l2 12) (Value.int .i64 (1)) h fun v7 h =>
  N1 [v3, (slot l2 12), (slot l2 12), a1, a0, (slot l2 12), v4, v5, v6, (slot l2 9), (slot l2 10), v7, v7] h)) (
  κ (Value.int .i64 (-1)) h)
noncomputable def shContainsFunc (P : Program) (ti : TypeId) (g : FuncId) (a0 a1 : Value) (h : Heap) (κ : Value → Heap → Prop) : Prop :=
  CallW P g [a0, a1] h fun v0 h =>
  binB False P .geq ti true false v0 (Value.int .i64 (0)) h fun v1 h =>
  κ v1 h
noncomputable def shClone (P : Program) (tS e s : Nat) (z : List Value) (a0 : Value) (h : Heap) (κ : Value → Heap → Prop) : Prop :=
  binB False P .eql tS true false a0 (Value.slice none 0 0) h fun v0 h =>
  CondW v0 (
  κ (Value.slice none 0 0) h) (
  fillB False [] [] (repeatL z 0) fun cs3 => cellsK False cs3 e false fun o1 => newBlock False o1 h fun b2 h =>
  appendB False e s z false (sliceTo 0 0 b2) a0 h fun v4 h =>
  κ v4 h)
noncomputable def shDeleteFunc (P : Program) (ti : TypeId) (g : FuncId) (e s : Nat) (z : List Value) (a0 a1 : Value) (h : Heap) (κ : Value → Heap → Prop) : Prop :=
  CallW P g [a0, a1] h fun v0 h =>
  binB False P .eql ti true false v0 (Value.int .i64 (-1)) h fun v1 h =>
  CondW v1 (
  κ a0 h) (
  binB False P .add ti true false v0 (Value.int .i64 (1)) h fun v2 h =>
  LoopR [undef, undef, undef, undef, undef, undef, undef, undef, undef, undef, undef, undef, undef, undef, undef, undef, undef, undef, undef, v0, undef, undef, v2] h fun l4 h N3 =>
  lenSli False a0 h fun v5 h =>
  binB False P .lss ti false false (slot l4 22) v5 h fun v6 h =>
  CondW v6 (
  JoinR (fun N7 =>
  indexAddrS False s a0 (slot l4 22) h fun v9 h =>
  loadA False s v9 h fun v10 h =>
  cellsK False z e false fun o11 => newBlock False o11 h fun b12 h =>
  storeV False s (ptrTo b12) v10 h fun v13 h =>
  loadA False s (ptrTo b12) h fun v14 h =>
  CallV P a1 [v14] h fun v15 h =>
  unB False .not v15 h fun v16 h =>
  CondW v16 (
  loadA False s (ptrTo b12) h fun v17 h =>
  indexAddrS False s a0 (slot l4 19) h fun v18 h =>
  storeV False s v18 v17 h fun v19 h =>
  binB False P .add ti true false (slot l4 19) (Value.int .i64 (1)) h fun v20 h =>
  N7 [a0, (slot l4 22), v9, v10, (ptrTo b12), a1, v14, v15, v16, a0, (slot l4 19), v17, v18, (slot l4 19), v20, v20] h) (
  N7 [a0, (slot l4 22), v9, v10, (ptrTo b12), a1, v14, v15, v16, (slot l4 13), (slot l4 14), (slot l4 15), (slot l4 16), (slot l4 17), (slot l4 18), (slot l4 19)] h)) fun l8 h =>
  binB False P .add ti true false (slot l4 22) (Value.int .i64 (1)) h fun v21 h =>
  N3 [(slot l4 22), a0, v5, v6, (slot l8 0), (slot l8 1), (slot l8 2), (slot l8 3), (slot l8 4), (slot l8 5), (slot l8 6), (slot l8 7), (slot l8 8), (slot l8 9), (slot l8 10), (slot l8 11), (slot l8 12), (slot l8 13), (slot l8 14), (slot l8 15), (slot l4 22), v21, v21] h) (
  sliceB False e s a0 (some (slot l4 19)) none none h fun v22 h =>
  clearB False z v22 h fun v23 h =>
  sliceB False e s a0 none (some (slot l4 19)) none h fun v24 h =>
  κ v24 h))
section
variable {P : Program} {α : Type} {enc : α → List Value} {s : Nat} {ti : TypeId} {f g : FuncId}
def aggE (enc : α → List Value) (p : α) : Value := .agg ⟨enc p⟩
theorem gIndexFunc (mix : P.follows .mixedOrders = true) (he : ∀ a : α, (enc a).length = s) (hb : ∀ a0 a1 h κ, BodyW P f [a0, a1] h κ = shIndexFunc P ti s a0 a1 h κ)
    (L : List α) (F : α → Bool) (h : Heap) (v fv : Value) (κ : Value → Heap → Prop) (hv : Sl enc h v L) (hlen : L.length ≤ 1000000)
    (hF : ∀ p, p ∈ L → ∀ (h1 : Heap) (κ1 : Value → Heap → Prop), Le h h1 → (∀ h2, Le h1 h2 → κ1 (.bool (F p)) h2) → CallV P fv [aggE enc p] h1 κ1)
    (hk : ∀ h', Le h h' → κ (.int .i64 (optI (L.findIdx? F))) h') : CallW P f [v, fv] h κ := by
  refine callW_of mix ?_
  rw [hb]
  unfold shIndexFunc
  simp only [hv.len]
  refine ⟨fun n l h1 => Le h h1 ∧ ∃ k : Nat, slot l 12 = .int .i64 (k : Int) ∧ k ≤ L.length ∧ n = L.length - k ∧ ∀ (j : Nat) p, j < k → L[j]? = some p → F p = false, ⟨_, Le.refl _, 0, rfl, Nat.zero_le _, rfl, by omega⟩, ?_⟩
  rintro n l h1 ⟨hle, k, hs, hkl, rfl, hno⟩
  by_cases hlt : k < L.length
  · obtain ⟨p, hp⟩ : ∃ p, L[k]? = some p := ⟨_, List.getElem?_eq_getElem hlt⟩
    obtain ⟨b, o, hb, hat, hld, _⟩ := (hv.le hle).ld he k hp
    simp(disch:=first|omega|(simp only[Wx];done)|(simp only[Wy];done)|(simp only[Wv];omega)|with_unfolding_all rfl)only[Wz,ptrTo,sliceTo, hs, hat, hld]
    refine hF p (List.mem_of_getElem? hp) h1 _ hle ?_
    intro h2 hle2
    cases hc : F p with
    | true =>
      simp(disch:=first|omega|(simp only[Wx];done)|(simp only[Wy];done)|(simp only[Wv];omega)|with_unfolding_all rfl)only[Wz,ptrTo,sliceTo, hs]
      have hk2 := hk h2 (hle.trans hle2)
      rw [idx_some hp hc hno] at hk2
      exact hk2
    | false =>
      simp(disch:=first|omega|(simp only[Wx];done)|(simp only[Wy];done)|(simp only[Wv];omega)|with_unfolding_all rfl)only[Wz,ptrTo,sliceTo, hs]
      refine ⟨_, by omega, hle.trans hle2, k + 1, rfl, by omega, rfl, fun j q hj hq => ?_⟩
      rcases Nat.lt_or_ge j k with h4 | h4
      · exact hno j q h4 hq
      · obtain rfl : j = k := by omega
        rw [hp] at hq; cases hq; exact hc
  · simp(disch:=first|omega|(simp only[Wx];done)|(simp only[Wy];done)|(simp only[Wv];omega)|with_unfolding_all rfl)only[Wz,ptrTo,sliceTo, hs]
    have hk2 := hk h1 hle
    rw [idx_none fun j q hq => hno j q (by have := (List.getElem?_eq_some_iff.1 hq).1; omega) hq] at hk2
    exact hk2
theorem gContainsFunc (mix : P.follows .mixedOrders = true) (he : ∀ a : α, (enc a).length = s) (hg : ∀ a0 a1 h κ, BodyW P g [a0, a1] h κ = shIndexFunc P ti s a0 a1 h κ) (hb : ∀ a0 a1 h κ, BodyW P f [a0, a1] h κ = shContainsFunc P ti g a0 a1 h κ)
    (L : List α) (F : α → Bool) (h : Heap) (v fv : Value) (κ : Value → Heap → Prop) (hv : Sl enc h v L) (hlen : L.length ≤ 1000000)
    (hF : ∀ p, p ∈ L → ∀ (h1 : Heap) (κ1 : Value → Heap → Prop), Le h h1 → (∀ h2, Le h1 h2 → κ1 (.bool (F p)) h2) → CallV P fv [aggE enc p] h1 κ1)
    (hk : ∀ h', Le h h' → κ (.bool (L.any F)) h') : CallW P f [v, fv] h κ := by
  refine callW_of mix ?_
  rw [hb]
  unfold shContainsFunc
  refine gIndexFunc mix he hg L F h v fv _ hv hlen hF ?_
  intro h' hl
  have := hk h' hl
  rw [← optI_any] at this
  by_cases h0 : optI (L.findIdx? F) < 0
  · simp(disch:=first|omega|(simp only[Wx];done)|(simp only[Wy];done)|(simp only[Wv];omega)|with_unfolding_all rfl)only[Wz,ptrTo,sliceTo]
    rwa [dec_f (by omega)] at this
  · simp(disch:=first|omega|(simp only[Wx];done)|(simp only[Wy];done)|(simp only[Wv];omega)|with_unfolding_all rfl)only[Wz,ptrTo,sliceTo]
    rwa [dec_t (by omega)] at this
def NilEq (P : Program) (tS : TypeId) : Prop := (∀ (h : Heap) (n c n' c' : Nat), eqB P h 100 tS (.slice none n c) (.slice none n' c') = some true) ∧ ∀ (h : Heap) (a : Addr) (n c n' c' : Nat), eqB P h 100 tS (.slice (some a) n c) (.slice none n' c') = some false
theorem bin_nil1 {β : Type} {fl : β} {tS : TypeId} (he : NilEq P tS) (cn : Bool) (n c n' c' : Nat) (h : Heap) (κ : Value → Heap → β) : binB fl P .eql tS cn false (.slice none n c) (.slice none n' c') h κ = κ (.bool true) h := by
  simp only [binB, he.1, fbK_eq]
theorem bin_nil2 {β : Type} {fl : β} {tS : TypeId} (he : NilEq P tS) (cn : Bool) (a : Addr) (n c n' c' : Nat) (h : Heap) (κ : Value → Heap → β) : binB fl P .eql tS cn false (.slice (some a) n c) (.slice none n' c') h κ = κ (.bool false) h := by
  simp only [binB, he.2, fbK_eq]
theorem gClone (mix : P.follows .mixedOrders = true) (he : ∀ a : α, (enc a).length = s) (hone : ∀ a : α, (enc a).all oneC = true) (hs0 : 0 < s) (hs1 : s ≤ 100) {tS e : TypeId} {z : List Value} (hq : NilEq P tS) (hb : ∀ a0 h κ, BodyW P f [a0] h κ = shClone P tS e s z a0 h κ)
    (L : List α) (h : Heap) (v : Value) (κ : Value → Heap → Prop) (hv : Sl enc h v L) (hlen : L.length ≤ 1000000) (hlo : h.lo ≤ h.nx) (hk : ∀ v' h', Own enc h e h' v' L → Le h h' → κ v' h') : CallW P f [v] h κ := by
  refine callW_of mix ?_
  rw [hb]
  unfold shClone
  have hv0 := hv
  obtain ⟨x, cap, rfl, hx⟩ := hv
  cases x with
  | none =>
    simp(disch:=first|omega|(simp only[Wx];done)|(simp only[Wy];done)|(simp only[Wv];omega)|with_unfolding_all rfl)only[Wz,ptrTo,sliceTo, bin_nil1 hq]
    by_cases hL : L = []
    · exact hk _ _ (.inl ⟨hL, .inl rfl⟩) (Le.refl _)
    · obtain ⟨b, o, e, _⟩ := hx hL; cases e
  | some a =>
    simp(disch:=first|omega|(simp only[Wx];done)|(simp only[Wy];done)|(simp only[Wv];omega)|with_unfolding_all rfl)only[Wz,ptrTo,sliceTo, bin_nil2 hq]
    have hle := (Le.refl h).new (cellsO [] e false)
    refine append_own (enc := enc) (a := h) (L := []) (M := L) he hone hs0 hs1 (.inl ⟨rfl, .inr ⟨_, _, rfl⟩⟩) (hv0.le hle) hle (by simpa using hlen) (by show h.lo ≤ h.nx + 1; omega) _ ?_
    intro v' h' ho hl _ _
    exact hk v' h' (by simpa using ho) hl
theorem over_flatG (he : ∀ a : α, (enc a).length = s) (L : List α) (i : Nat) (p : α) (hi : i < L.length) : over (L.flatMap enc) (i * s) (enc p) = (L.set i p).flatMap enc := by
  have e : L.set i p = L.take i ++ [p] ++ L.drop (i + 1) := by
    rw [List.set_eq_take_append_cons_drop, if_pos hi]; simp
  rw [e]
  simp only [over, he, List.flatMap_append, List.flatMap_cons, List.flatMap_nil, List.append_nil]
  rw [flat_takeQ he, show i * s + s = (i + 1) * s by rw [Nat.succ_mul], flat_dropQ he]
theorem rep_len {z : List Value} (hz : z.length = s) (n : Nat) : (repeatL z n).length = n * s := by
  induction n with
  | zero => simp [repeatL]
  | succ n ih => simp only [repeatL, List.length_append, ih, hz]; rw [Nat.succ_mul]; omega
theorem rep_one {z : List Value} (hz : z.all oneC = true) (n : Nat) : (repeatL z n).all oneC = true := by
  induction n with
  | zero => rfl
  | succ n ih => simp only [repeatL, List.all_append, ih, hz]; rfl
theorem stG (he : ∀ a : α, (enc a).length = s) (hone : ∀ a : α, (enc a).all oneC = true) (p : α) {vs : List Value} {e : TypeId} {op : Bool} {b o : Nat} {h : Heap} {κ : Heap → Prop} (h3 : o + s ≤ vs.length) (hlo : h.lo ≤ b) :
    stO False (some (cellsO vs e op)) s b o (enc p) h κ = κ ⟨h.nx, h.bl.upd b (cellsO (over vs o (enc p)) e op), h.lo⟩ := stO_cells _ _ _ _ _ _ _ _ _ (he p) (hone p) h3 hlo
def TyS (e : TypeId) (h : Heap) (v : Value) : Prop := ∀ b o n c, v = .slice (some ⟨b, o, none⟩) n c → n ≠ 0 → b < h.nx ∧ ∃ vs op, h.bl.get b = some (cellsO vs e op)
theorem TyS.le {e : TypeId} {h h' : Heap} {v : Value} (t : TyS e h v) (l : Le h h') : TyS e h' v := fun b o n c hv hn => by
  obtain ⟨h1, vs, op, h2⟩ := t b o n c hv hn
  exact ⟨Nat.lt_of_lt_of_le h1 l.nx, vs, op, (l.get b h1).trans h2⟩
theorem TyS.own {a h : Heap} {e : TypeId} {v : Value} {L : List α} (ho : Own enc a e h v L) : TyS e h v := by
  intro b o n c hv hn
  rcases ho with ⟨_, rfl | ⟨b', o', rfl⟩⟩ | ⟨b', rfl, h1, h2, h3, h4⟩
  · cases hv
  · cases hv; exact absurd rfl hn
  · cases hv; exact ⟨h2, _, _, h4⟩
theorem TyS.put {e : TypeId} {h : Heap} {v : Value} (t : TyS e h v) {d : Nat} (hd : ∀ vs op, h.bl.get d ≠ some (cellsO vs e op)) (o' : AObj) : TyS e ⟨h.nx, h.bl.upd d o', h.lo⟩ v := by
  intro b o n c hv hn
  obtain ⟨h1, vs, op, h2⟩ := t b o n c hv hn
  refine ⟨h1, vs, op, (T.get_updne _ _ ?_).trans h2⟩
  rintro rfl
  exact hd vs op h2
theorem Sl.put {e : TypeId} {h : Heap} {v : Value} {L : List α} (hs : Sl enc h v L) (t : TyS e h v) {d : Nat} (hd : ∀ vs op, h.bl.get d ≠ some (cellsO vs e op)) (o' : AObj) : Sl enc ⟨h.nx, h.bl.upd d o', h.lo⟩ v L := by
  obtain ⟨x, cap, rfl, h2⟩ := hs
  refine ⟨x, cap, rfl, fun hn => ?_⟩
  obtain ⟨b, o, rfl, h3, h4⟩ := h2 hn
  obtain ⟨h1, vs, op, h5⟩ := t b o _ cap rfl (by intro h0; exact hn (List.eq_nil_of_length_eq_zero h0))
  refine ⟨b, o, rfl, h3, ?_⟩
  have : (h.bl.upd d o').get b = h.bl.get b := T.get_updne _ _ (by rintro rfl; exact hd vs op h5)
  show Has ((h.bl.upd d o').get b) _ _
  rw [this]; exact h4
theorem gDeleteCut (mix : P.follows .mixedOrders = true) (he : ∀ a : α, (enc a).length = s) (hone : ∀ a : α, (enc a).all oneC = true) (hs0 : 0 < s) {e : TypeId} {z : List Value} (hz : z.length = s) (hz1 : z.all oneC = true) (hs1 : s ≤ 1000)
    (hg : ∀ a0 a1 h κ, BodyW P g [a0, a1] h κ = shIndexFunc P ti s a0 a1 h κ) (hb : ∀ a0 a1 h κ, BodyW P f [a0, a1] h κ = shDeleteFunc P ti g e s z a0 a1 h κ)
    (a h : Heap) (L : List α) (F : α → Bool) (v fv : Value) (κ : Value → Heap → Prop) (hle : Le a h) (ho : Own enc a e h v L) (hlen : L.length ≤ 100000) (hlo : a.lo ≤ a.nx)
    (hF : ∀ p, ∀ (h1 : Heap) (κ1 : Value → Heap → Prop), Le a h1 → (h.nx ≤ h1.nx ∧ ∀ c, c < h.nx → h.bl.get c ≠ some (cellsO (L.flatMap enc) e true) → h1.bl.get c = h.bl.get c) → (∀ h2, Le h1 h2 → κ1 (.bool (F p)) h2) → CallV P fv [aggE enc p] h1 κ1)
    (hk : ∀ v' h', Sl enc h' v' (L.filter fun p => !F p) → Cut e s h' v' (L.filter fun p => !F p).length → Le a h' → (h.nx ≤ h'.nx ∧ ∀ c, c < h.nx → h.bl.get c ≠ some (cellsO (L.flatMap enc) e true) → h'.bl.get c = h.bl.get c) → TyS e h' v' → κ v' h') : CallW P f [v, fv] h κ := by
  refine callW_of mix ?_
  rw [hb]
  unfold shDeleteFunc
  refine gIndexFunc mix he hg L F h v fv _ ho.sl (by omega) (fun p _ h1 κ1 hl hk1 => hF p h1 κ1 (hle.trans hl) ⟨hl.nx, fun c hc _ => hl.get c hc⟩ hk1) ?_
  intro h1 hle1
  have hall1 := hle.trans hle1
  have n1 := hall1.nx
  have l1 := hall1.lo
  rcases find_cases L F with ⟨e1, e2⟩ | ⟨i0, p0, e1, e2, e3, e4⟩
  · simp only [e1, optI]
    simp(disch:=first|omega|(simp only[Wx];done)|(simp only[Wy];done)|(simp only[Wv];omega)|with_unfolding_all rfl)only[Wz,ptrTo,sliceTo]
    have : (L.filter fun p => !F p) = L := List.filter_eq_self.2 fun p hp => by simp [e2 p hp]
    rw [this] at hk
    exact hk v h1 (ho.sl.le hle1) ((Cut.own he ho).le hle1) hall1 ⟨hle1.nx, fun c hc _ => hle1.get c hc⟩ (TyS.own (ho.le hle1))
  · simp only [e1, optI]
    have hi0 : i0 < L.length := (List.getElem?_eq_some_iff.1 e2).1
    have hbefore : (L.take i0).filter (fun p => !F p) = L.take i0 := List.filter_eq_self.2 fun p hp => by
      obtain ⟨j, hj⟩ := List.getElem?_of_mem hp
      have hj' : j < i0 := by have := (List.getElem?_eq_some_iff.1 hj).1; simp at this; omega
      rw [List.getElem?_take_of_lt hj'] at hj
      simp [e4 j p hj' hj]
    rcases ho with ⟨rfl, _⟩ | ⟨b, rfl, b1, b20, b30, b40⟩
    · simp at hi0
    have m1 := hle1.nx
    have b2 : b < h1.nx := by omega
    have b3 : h1.lo ≤ b := by rw [hle1.lo]; exact b30
    have b4 : h1.bl.get b = some (cellsO (L.flatMap enc) e true) := (hle1.get b b20).trans b40
    simp(disch:=first|omega|(simp only[Wx];done)|(simp only[Wy];done)|(simp only[Wv];omega)|with_unfolding_all rfl)only[Wz,ptrTo,sliceTo]
    refine ⟨fun n l h2 => Le a h2 ∧ b < h2.nx ∧ (h.nx ≤ h2.nx ∧ ∀ c, c < h.nx → c ≠ b → h2.bl.get c = h.bl.get c) ∧ ∃ (j i : Nat) (K : List α), slot l 22 = .int .i64 (j : Int) ∧ slot l 19 = .int .i64 (i : Int) ∧ j ≤ L.length ∧ i < j ∧ n = L.length - j ∧ K.length = L.length ∧
        K.take i = (L.take j).filter (fun p => !F p) ∧ K.drop j = L.drop j ∧ h2.bl.get b = some (cellsO (K.flatMap enc) e true),
      ⟨_, hall1, b2, ⟨m1, fun c hc _ => hle1.get c hc⟩, i0 + 1, i0, L, rfl, rfl, by omega, by omega, rfl, rfl, ?_, rfl, b4⟩, ?_⟩
    · rw [filter_take_s e2, hbefore, e3]; simp
    rintro n l h2 ⟨hle2, hb2, hfr, j, i, K, s1, s2, hj, hij, rfl, hK, hK1, hK2, hg2⟩
    have n2 := hle2.nx
    have l2 := hle2.lo
    have hfl := flat_length (enc := enc) he K
    by_cases hlt : j < L.length
    · obtain ⟨p, hp⟩ : ∃ p, L[j]? = some p := ⟨_, List.getElem?_eq_getElem hlt⟩
      have hpK : K[j]? = some p := by
        have : (K.drop j)[0]? = (L.drop j)[0]? := by rw [hK2]
        simpa [hp] using this
      have hslK : Sl enc h2 (.slice (some ⟨b, 0, none⟩) L.length openCap) K := ⟨_, openCap, by rw [hK], fun _ => ⟨b, 0, rfl, hb2, by rw [hg2]; exact Has.all⟩⟩
      obtain ⟨b', o', hb', hat, hld, _⟩ := hslK.ld he j hpK
      have bat := hat Nat 0 h2 fun v _ => match v with | .pointer (some a) => a.block | _ => 0
      rw [indexAddr_eq _ _ _ _ _ _ _ _ hlt] at bat
      have hbb : b = b' := bat
      subst hbb
      have hep := he p
      have hop := hone p
      have htk : (enc p).take s = enc p := by rw [← hep, List.take_length]
      have hxx := over_all z (enc p) (by omega)
      simp(disch:=first|omega|(simp only[Wx];done)|(simp only[Wy];done)|(simp only[Wv];omega)|with_unfolding_all rfl)only[Wz,ptrTo,sliceTo, s1, s2, hat, hld]
      refine ⟨fun l h' => Le a h' ∧ b < h'.nx ∧ (h.nx ≤ h'.nx ∧ ∀ c, c < h.nx → c ≠ b → h'.bl.get c = h.bl.get c) ∧ ∃ (i' : Nat) (K' : List α), slot l 15 = .int .i64 (i' : Int) ∧ i' < j + 1 ∧ K'.length = L.length ∧
        K'.take i' = (L.take (j + 1)).filter (fun p => !F p) ∧ K'.drop (j + 1) = L.drop (j + 1) ∧ h'.bl.get b = some (cellsO (K'.flatMap enc) e true), ?_, ?_⟩
      · simp(disch:=first|omega|(simp only[Wx];done)|(simp only[Wy];done)|(simp only[Wv];omega)|with_unfolding_all rfl)only[Wz,ptrTo,sliceTo, s1, s2, hat, hld, stG he hone p, htk, hxx]
        have hleN := hle2.new (cellsO (enc p) e false)
        refine hF p _ _ hleN ⟨by have := hfr.1; show h.nx ≤ h2.nx + 1; omega, fun c hc hne => (T.get_updne _ _ (by have := hfr.1; omega)).trans (hfr.2 c hc (fun e => hne (by rw [e]; exact b40)))⟩ ?_
        intro h3 hle3
        have n3 := hle3.nx
        have l3 := hle3.lo
        dsimp only at n3 l3
        have g3 : h3.bl.get h2.nx = some (cellsO (enc p) e false) := (hle3.get h2.nx (Nat.lt_succ_self _)).trans (T.get_upd_same _ _ _)
        have gb3 : h3.bl.get b = some (cellsO (K.flatMap enc) e true) := by
          rw [hle3.get b (by show b < h2.nx + 1; omega)]
          show (h2.bl.upd h2.nx _).get b = _
          rw [T.get_updne _ _ (by omega)]; exact hg2
        have hall3 := hleN.trans hle3
        have hfr3 : h.nx ≤ h3.nx ∧ ∀ c, c < h.nx → c ≠ b → h3.bl.get c = h.bl.get c := by
          have q0 := hfr.1
          refine ⟨by omega, fun c hc hne => ?_⟩
          have e1 : (h2.bl.upd h2.nx (cellsO (enc p) e false)).get c = h2.bl.get c := T.get_updne _ _ (by omega)
          exact (hle3.get c (by show c < h2.nx + 1; omega)).trans (e1.trans (hfr.2 c hc hne))
        cases hc : F p with
        | true =>
          simp(disch:=first|omega|(simp only[Wx];done)|(simp only[Wy];done)|(simp only[Wv];omega)|with_unfolding_all rfl)only[Wz,ptrTo,sliceTo, s2]
          exact ⟨hall3, by omega, hfr3, i, K, rfl, by omega, hK, by rw [filter_take_s hp, hc]; simpa using hK1, by rw [← List.drop_drop, hK2, List.drop_drop], gb3⟩
        | false =>
          have hov := over_flatG he K i p (by omega)
          have hbd : i * s + s ≤ (K.flatMap enc).length := by rw [hfl, ← Nat.succ_mul]; exact Nat.mul_le_mul_right _ (by omega)
          simp(disch:=first|omega|(simp only[Wx];done)|(simp only[Wy];done)|(simp only[Wv];omega)|with_unfolding_all rfl)only[Wz,ptrTo,sliceTo, s2, g3, gb3, indexAddr_eq, stG he hone p, htk, hov]
          refine ⟨hall3.set b1 _, by omega, ⟨hfr3.1, fun c hc hne => (T.get_updne _ _ (fun e => hne e.symm)).trans (hfr3.2 c hc hne)⟩, i + 1, K.set i p, rfl, by omega, by simpa using hK, ?_, ?_, rfl⟩
          · rw [filter_take_s hp, hc, ← hK1]
            have hiK : i < K.length := by omega
            rw [List.take_succ_eq_append_getElem (by simpa using hiK)]
            simp [List.take_set_of_le]
          · rw [List.drop_set_of_lt (by omega), ← List.drop_drop, hK2, List.drop_drop]
      · rintro l8 h3 ⟨hle3, hb3, hfr3, i', K', s3, hi', hK', hK1', hK2', hg3⟩
        simp(disch:=first|omega|(simp only[Wx];done)|(simp only[Wy];done)|(simp only[Wv];omega)|with_unfolding_all rfl)only[Wz,ptrTo,sliceTo, s1, s3]
        exact ⟨_, by omega, hle3, hb3, hfr3, j + 1, i', K', rfl, rfl, by omega, hi', rfl, hK', hK1', hK2', hg3⟩
    · have hjL : j = L.length := by omega
      subst hjL
      rw [List.take_length] at hK1
      have r1 := rep_len hz (L.length - i)
      have r2 := rep_one hz1 (L.length - i)
      have hbd : i * s + (L.length - i) * s = L.length * s := by rw [← Nat.add_mul]; congr 1; omega
      simp(disch:=first|omega|(simp only[Wx];done)|(simp only[Wy];done)|(simp only[Wv];omega)|with_unfolding_all rfl)only[Wz,ptrTo,sliceTo, s1, s2, slice_from (n := L.length) (i := i) hs0 hg2 (by rw [hfl, hK]) (by omega)]
      rw [clear_cells hg2 (by omega) (by rw [r1, hfl, hK]; omega) r2 (by omega)]
      have hovl : (over (K.flatMap enc) (i * s) (repeatL z (L.length - i))).length = L.length * s := by
        rw [over_length (by rw [r1, hfl, hK]; omega), hfl, hK]
      rw [slice_to (n := L.length) (i := i) (vs := over (K.flatMap enc) (i * s) (repeatL z (L.length - i))) hs0 (T.get_upd_same _ _ _) hovl (by omega) (by omega)]
      have hlenF : (L.filter fun p => !F p).length = i := by rw [← hK1]; simp; omega
      refine hk _ _ ⟨_, openCap, by rw [hlenF], fun _ => ⟨b, 0, rfl, hb2, ?_⟩⟩ (.inr (.inr (.inr ⟨b, _, L.length, by rw [hlenF], hb2, T.get_upd_same _ _ _, hovl, by omega⟩))) (hle2.set b1 _) ⟨hfr.1, fun c hc hne => (T.get_updne _ _ (fun e => hne (by rw [← e]; exact b40))).trans (hfr.2 c hc (fun e => hne (by rw [e]; exact b40)))⟩ ?_
      rotate_left
      · intro b' o' n' c' hv' _
        cases hv'
        exact ⟨hb2, _, _, T.get_upd_same _ _ _⟩
      have hh : Has (some (cellsO (over (K.flatMap enc) (i * s) (repeatL z (L.length - i))) e true)) 0 (((over (K.flatMap enc) (i * s) (repeatL z (L.length - i))).drop 0).take (i * s)) := Has.cells (by rw [hovl]; exact Nat.le_trans (by omega) (Nat.le_refl _))
      have e9 : ((over (K.flatMap enc) (i * s) (repeatL z (L.length - i))).drop 0).take (i * s) = (L.filter fun p => !F p).flatMap enc := by
        have hle9 : i * s ≤ K.length * s := Nat.mul_le_mul_right _ (by omega)
        rw [← hK1, List.drop_zero, over, List.append_assoc, List.take_append_of_le_length (by rw [List.length_take, hfl]; omega), List.take_take, Nat.min_self, flat_takeQ he]
      rw [e9] at hh
      show Has ((h2.bl.upd b _).get b) 0 _
      rw [T.get_upd_same]; exact hh
end
end Go.Vai

namespace Go.Clashes
structure H4 where
  x : Int
  t : Int
  r : Int
  m : Int
def tab : List (List Bool) := [
  [true, true, true, true, true, true, true],
  [true, true, true, true, true, true, false],
  [true, true, true, false, false, false, false],
  [true, true, false, true, false, true, false],
  [true, true, false, false, false, false, false],
  [true, true, false, true, false, false, false],
  [true, false, false, false, false, false, false]]
def cmp (a b : Int) : Bool := decide (0 ≤ a) && decide (a ≤ 6) && decide (0 ≤ b) && decide (b ≤ 6) && ((tab.getD a.toNat []).getD b.toNat false)
theorem cmp_symm (a b : Int) : cmp a b = cmp b a := by
  by_cases h : (0 ≤ a ∧ a ≤ 6) ∧ (0 ≤ b ∧ b ≤ 6)
  · have key : ∀ i, i < 7 → ∀ j, j < 7 → cmp (i : Nat) (j : Nat) = cmp (j : Nat) (i : Nat) := by decide
    have := key a.toNat (by omega) b.toNat (by omega)
    rwa [show ((a.toNat : Nat) : Int) = a by omega, show ((b.toNat : Nat) : Int) = b by omega] at this
  · have h1 : cmp a b = false := by
      cases hq : cmp a b with
      | false => rfl
      | true => simp [cmp] at hq; omega
    have h2 : cmp b a = false := by
      cases hq : cmp b a with
      | false => rfl
      | true => simp [cmp] at hq; omega
    rw [h1, h2]
def bad (p q : H4) : Bool := (p.t == q.t && p.r == q.r) && !(p.x == q.x) && !cmp p.m q.m
end Go.Clashes

namespace Go.Vai
open Go Go.Clashes
def kn (m : Int) : Bool := decide (0 ≤ m) && decide (m ≤ 6)
def tabC : List (List Bool) := [
  [true, false, false, false, false, false, false],
  [true, true, false, false, false, false, false],
  [true, true, true, false, false, false, false],
  [true, true, false, true, false, false, false],
  [true, true, true, true, true, false, false],
  [true, true, false, true, false, true, false],
  [true, true, true, true, true, true, true]]
def cov (a b : Int) : Bool := kn a && kn b && ((tabC.getD a.toNat []).getD b.toNat false)
def supM (a b : Int) : Int := if (kn a && kn b) = true then (if cov a b then a else if cov b a then b else if cov 4 a && cov 4 b then 4 else 6) else 0
theorem kn_neg (n : Nat) : kn (.negSucc n) = false := by
  have h : ¬ (0 : Int) ≤ .negSucc n := by omega
  unfold kn; rw [dec_f h]; rfl
theorem kn_big (n : Nat) : kn (.ofNat (n + 7)) = false := by
  have h : ¬ (Int.ofNat (n + 7)) ≤ 6 := by show ¬ ((n + 7 : Nat) : Int) ≤ 6; omega
  unfold kn; rw [dec_f h, Bool.and_false]
theorem cov_kn {a b : Int} (h : cov a b = true) : kn a = true ∧ kn b = true := by
  simp only [cov, Bool.and_eq_true] at h; exact h.1
theorem supM_l {a b : Int} (h : kn a = false) : supM a b = 0 := by simp [supM, h]
theorem supM_r {a b : Int} (h : kn b = false) : supM a b = 0 := by simp [supM, h]
theorem cmp_l {a b : Int} (h : kn a = false) : cmp a b = false := by
  unfold cmp; unfold kn at h; rw [h]; rfl
theorem cmp_r {a b : Int} (h : kn b = false) : cmp a b = false := by rw [cmp_symm]; exact cmp_l h
theorem modeCases (a : Int) : (∃ i : Nat, i < 7 ∧ a = Int.ofNat i) ∨ (∃ n : Nat, a = Int.negSucc n) ∨ ∃ n : Nat, a = Int.ofNat (n + 7) := by
  cases a with
  | negSucc n => exact .inr (.inl ⟨n, rfl⟩)
  | ofNat i =>
    rcases Nat.lt_or_ge i 7 with h | h
    · exact .inl ⟨i, h, rfl⟩
    · exact .inr (.inr ⟨i - 7, by congr 1; omega⟩)
theorem seven {p : Nat → Prop} (h0 : p 0) (h1 : p 1) (h2 : p 2) (h3 : p 3) (h4 : p 4) (h5 : p 5) (h6 : p 6) : ∀ i, i < 7 → p i := by
  intro i hi
  have : i = 0 ∨ i = 1 ∨ i = 2 ∨ i = 3 ∨ i = 4 ∨ i = 5 ∨ i = 6 := by omega
  rcases this with rfl | rfl | rfl | rfl | rfl | rfl | rfl <;> assumption
theorem two_modes {P : Program} (mix : P.follows .mixedOrders = true) {f : FuncId} {F : Int → Int → Value} (h1 : ∀ i, i < 7 → ∀ j, j < 7 → answersS P 200 f [.int .i64 (.ofNat i), .int .i64 (.ofNat j)] (F (.ofNat i) (.ofNat j)) = true)
    (h2 : ∀ (n : Nat) (b : Int), answersS P 200 f [.int .i64 (.negSucc n), .int .i64 b] (F (.negSucc n) b) = true) (h3 : ∀ (n : Nat) (b : Int), answersS P 200 f [.int .i64 (.ofNat (n + 7)), .int .i64 b] (F (.ofNat (n + 7)) b) = true)
    (h4 : ∀ i, i < 7 → ∀ n : Nat, answersS P 200 f [.int .i64 (.ofNat i), .int .i64 (.negSucc n)] (F (.ofNat i) (.negSucc n)) = true) (h5 : ∀ i, i < 7 → ∀ n : Nat, answersS P 200 f [.int .i64 (.ofNat i), .int .i64 (.ofNat (n + 7))] (F (.ofNat i) (.ofNat (n + 7))) = true)
    (a b : Int) {h : Heap} {κ : Value → Heap → Prop} (hk : κ (F a b) h) : CallW P f [.int .i64 a, .int .i64 b] h κ := by
  refine closedW mix (n := 200) ?_ hk
  rcases modeCases a with ⟨i, hi, rfl⟩ | ⟨n, rfl⟩ | ⟨n, rfl⟩
  · rcases modeCases b with ⟨j, hj, rfl⟩ | ⟨m, rfl⟩ | ⟨m, rfl⟩
    · exact h1 i hi j hj
    · exact h4 i hi m
    · exact h5 i hi m
  · exact h2 n b
  · exact h3 n b
theorem kn_nat {a : Int} (h : kn a = true) : ∃ i : Nat, i < 7 ∧ a = (i : Int) := by
  unfold kn at h
  simp only [Bool.and_eq_true, decide_eq_true_eq] at h
  exact ⟨a.toNat, by omega, by omega⟩
theorem md_anti : ∀ i, i < 7 → ∀ j, j < 7 → cov (i : Nat) (j : Nat) = true → cov (j : Nat) (i : Nat) = true → i = j := by decide +kernel
theorem cov_anti {a b : Int} (h1 : cov a b = true) (h2 : cov b a = true) : a = b := by
  obtain ⟨i, hi, rfl⟩ := kn_nat (cov_kn h1).1
  obtain ⟨j, hj, rfl⟩ := kn_nat (cov_kn h1).2
  rw [md_anti i hi j hj h1 h2]
theorem md_zero : ∀ i, i < 7 → cov (i : Nat) 0 = true := by decide +kernel
theorem cov_zero {a : Int} (h : kn a = true) : cov a 0 = true := by
  obtain ⟨i, hi, rfl⟩ := kn_nat h
  exact md_zero i hi
theorem md_sup : ∀ i, i < 7 → ∀ j, j < 7 → (cov (i : Nat) (supM (i : Nat) (j : Nat)) = true → cov (i : Nat) (j : Nat) = true) ∧ cov (supM (i : Nat) (j : Nat)) (i : Nat) = true ∧ cov (supM (i : Nat) (j : Nat)) (j : Nat) = true ∧ (j ≠ 0 → supM (i : Nat) (j : Nat) ≠ 0) ∧ (cov (i : Nat) (j : Nat) = true → supM (i : Nat) (j : Nat) = (i : Nat)) := by decide +kernel
theorem sup_of {a b : Int} (ha : kn a = true) (hb : kn b = true) : (cov a (supM a b) = true → cov a b = true) ∧ cov (supM a b) a = true ∧ cov (supM a b) b = true ∧ (b ≠ 0 → supM a b ≠ 0) ∧ (cov a b = true → supM a b = a) := by
  obtain ⟨i, hi, rfl⟩ := kn_nat ha
  obtain ⟨j, hj, rfl⟩ := kn_nat hb
  obtain ⟨h1, h2, h3, h4, h5⟩ := md_sup i hi j hj
  exact ⟨h1, h2, h3, fun hb => h4 (by omega), h5⟩
theorem sup_kn {a b : Int} (ha : kn a = true) (hb : kn b = true) : kn (supM a b) = true := (cov_kn (sup_of ha hb).2.1).1
theorem md_down : ∀ i, i < 7 → ∀ j, j < 7 → ∀ k, k < 7 → cov (i : Nat) (j : Nat) = true → cmp (i : Nat) (k : Nat) = true → cmp (j : Nat) (k : Nat) = true := by decide +kernel
theorem cmp_down {a b c : Int} (hc : kn c = true) (h1 : cov a b = true) (h2 : cmp a c = true) : cmp b c = true := by
  obtain ⟨i, hi, rfl⟩ := kn_nat (cov_kn h1).1
  obtain ⟨j, hj, rfl⟩ := kn_nat (cov_kn h1).2
  obtain ⟨k, hk, rfl⟩ := kn_nat hc
  exact md_down i hi j hj k hk h1 h2
end Go.Vai

namespace Go.Vai
open Go Go.Clashes
structure R5 where
  id : Int
  x : Int
  m : Int
  w : Int
  s : Int
def enc5 (r : R5) : List Value := [.int .i64 r.id, .int .i64 r.x, .int .i64 r.m, .int .i64 r.w, .int .i64 r.s]
theorem enc5_len (r : R5) : (enc5 r).length = 5 := rfl
theorem enc5_one (r : R5) : (enc5 r).all oneC = true := rfl
theorem r5_ext {p q : R5} : p = q ↔ (p.id = q.id ∧ p.x = q.x ∧ p.m = q.m ∧ p.w = q.w ∧ p.s = q.s) := by
  cases p; cases q; simp
instance : DecidableEq R5 := fun p q => decidable_of_iff _ r5_ext.symm
def upR (r : R5) : Bool := decide (r.m ≠ 0) && decide (0 < r.s)
theorem upR_iff (r : R5) : upR r = true ↔ r.m ≠ 0 ∧ 0 < r.s := by simp [upR]
def lessQ (Q : List R5) (r : R5) (o : Option Nat) : Bool := match o with
  | none => true
  | some b => match Q[b]? with
    | some q => decide (r.s < q.s)
    | none => false
def best (Q : List R5) : Nat → Option Nat
  | 0 => none
  | i + 1 => match Q[i]? with
    | some r => if (upR r && lessQ Q r (best Q i)) = true then some i else best Q i
    | none => best Q i
def firstQ (Q : List R5) : Option Nat := match best Q Q.length with | some b => some b | none => Q.findIdx? (fun r => decide (r.m = 0))
def fitsQ (Q : List R5) (r : R5) : Bool := !Q.any fun o => decide (o.id ≠ r.id) && decide (o.m ≠ 0) && !cmp o.m r.w
theorem best_lt (Q : List R5) : ∀ i b, best Q i = some b → b < i ∧ ∃ r, Q[b]? = some r ∧ upR r = true := by
  intro i
  induction i with
  | zero => intro b h; cases h
  | succ i ih =>
    intro b h
    unfold best at h
    split at h
    · rename_i r hr
      split at h
      · rename_i hc
        cases h
        rw [Bool.and_eq_true] at hc
        exact ⟨Nat.lt_succ_self _, r, hr, hc.1⟩
      · obtain ⟨h1, h2⟩ := ih b h
        exact ⟨by omega, h2⟩
    · obtain ⟨h1, h2⟩ := ih b h
      exact ⟨by omega, h2⟩
theorem best_none (Q : List R5) : ∀ i, best Q i = none → ∀ (j : Nat) (r : R5), j < i → Q[j]? = some r → upR r = false := by
  intro i
  induction i with
  | zero => intro _ j r h; omega
  | succ i ih =>
    intro h j r hj hr
    unfold best at h
    split at h
    · rename_i q hq
      split at h
      · cases h
      · rename_i hc
        by_cases hji : j = i
        · subst hji
          rw [hq] at hr; cases hr
          rw [h] at hc
          simpa [lessQ] using hc
        · exact ih h j r (by omega) hr
    · rename_i hq
      by_cases hji : j = i
      · subst hji; rw [hq] at hr; cases hr
      · exact ih h j r (by omega) hr
theorem first_none {Q : List R5} (h : firstQ Q = none) : ∀ r ∈ Q, r.m ≠ 0 ∧ ¬ 0 < r.s := by
  unfold firstQ at h
  split at h
  · cases h
  · rename_i hb
    rw [List.findIdx?_eq_none_iff] at h
    intro r hr
    obtain ⟨j, hj⟩ := List.getElem?_of_mem hr
    have h1 := best_none Q _ hb j r (List.getElem?_eq_some_iff.1 hj).1 hj
    have h2 : r.m ≠ 0 := by simpa using h r hr
    refine ⟨h2, fun h3 => ?_⟩
    rw [(upR_iff r).2 ⟨h2, h3⟩] at h1; cases h1
theorem first_some {Q : List R5} {i : Nat} (h : firstQ Q = some i) : ∃ r, Q[i]? = some r ∧ (upR r = true ∨ (r.m = 0 ∧ (∀ q ∈ Q, upR q = false) ∧ ∀ (j : Nat) (q : R5), j < i → Q[j]? = some q → q.m ≠ 0)) := by
  unfold firstQ at h
  split at h
  · rename_i b hb
    cases h
    obtain ⟨_, r, h1, h2⟩ := best_lt Q _ _ hb
    exact ⟨r, h1, .inl h2⟩
  · rename_i hb
    have hno : ∀ q ∈ Q, upR q = false := fun q hq => by
      obtain ⟨j, hj⟩ := List.getElem?_of_mem hq
      exact best_none Q _ hb j q (List.getElem?_eq_some_iff.1 hj).1 hj
    rcases find_cases Q (fun r => decide (r.m = 0)) with ⟨e, _⟩ | ⟨k, p, e, hp, h1, h2⟩
    · rw [e] at h; cases h
    · rw [e] at h; cases h
      exact ⟨p, hp, .inr ⟨by simpa using h1, hno, fun j q hj hq => by simpa using h2 j q hj hq⟩⟩
theorem fitsQ_iff (Q : List R5) (r : R5) : fitsQ Q r = true ↔ ∀ o ∈ Q, o.id ≠ r.id → o.m ≠ 0 → cmp o.m r.w = true := by
  unfold fitsQ
  rw [Bool.not_eq_true', List.any_eq_false]
  constructor
  · intro h o ho h1 h2
    have := h o ho
    simpa [h1, h2] using this
  · intro h o ho hc
    simp only [Bool.and_eq_true, decide_eq_true_eq, Bool.not_eq_true'] at hc
    rw [h o ho hc.1.1 hc.1.2] at hc
    cases hc.2
structure RightR (W : Int) (r : R5) : Prop where
  id : 0 ≤ r.id
  km : kn r.m = true
  kw : kn r.w = true
  s0 : 0 ≤ r.s
  sW : r.s ≤ W
  wait : 0 < r.s → cov r.m r.w = false
  hold : r.s = 0 → r.m ≠ 0 ∧ r.w = r.m
structure Beside (a b : R5) : Prop where
  id : a.id ≠ b.id
  x : a.x ≠ b.x
  s : 0 < a.s → a.s ≠ b.s
  cm : a.m ≠ 0 → b.m ≠ 0 → cmp a.m b.m = true
  ord : a.m = 0 → b.m = 0 ∧ a.s < b.s
structure VQ (Q : List R5) (W : Int) : Prop where
  w0 : 0 ≤ W
  right : ∀ r ∈ Q, RightR W r
  pair : Q.Pairwise Beside
theorem pw_get {α : Type} {R : α → α → Prop} {L : List α} : L.Pairwise R ↔ ∀ (i j : Nat) (p q : α), i < j → L[i]? = some p → L[j]? = some q → R p q := by
  rw [List.pairwise_iff_getElem]
  constructor
  · intro h i j p q hij hp hq
    obtain ⟨hi, rfl⟩ := List.getElem?_eq_some_iff.1 hp
    obtain ⟨hj, rfl⟩ := List.getElem?_eq_some_iff.1 hq
    exact h i j hi hj hij
  · intro h i j hi hj hij
    exact h i j _ _ hij (List.getElem?_eq_getElem hi) (List.getElem?_eq_getElem hj)
theorem pw_set {α : Type} {R : α → α → Prop} {L : List α} {i : Nat} {p : α} (h : L.Pairwise R) (h1 : ∀ (j : Nat) (q : α), j < i → L[j]? = some q → R q p) (h2 : ∀ (j : Nat) (q : α), i < j → L[j]? = some q → R p q) : (L.set i p).Pairwise R := by
  rw [pw_get] at *
  intro a b u v hab hu hv
  rw [List.getElem?_set] at hu hv
  by_cases ha : i = a
  · subst ha
    rw [if_pos rfl] at hu
    rw [if_neg (by omega)] at hv
    split at hu
    · cases hu; exact h2 b v hab hv
    · cases hu
  · rw [if_neg ha] at hu
    by_cases hb : i = b
    · subst hb
      rw [if_pos rfl] at hv
      split at hv
      · cases hv; exact h1 a u hab hu
      · cases hv
    · rw [if_neg hb] at hv
      exact h a b u v hab hu hv
theorem mem_set {α : Type} {L : List α} {i : Nat} {p q : α} (h : q ∈ L.set i p) : q = p ∨ q ∈ L := by
  rcases List.mem_or_eq_of_mem_set h with h | h
  · exact .inr h
  · exact .inl h
theorem ids_at {Q : List R5} (h : Q.Pairwise Beside) {i j : Nat} {p q : R5} (hp : Q[i]? = some p) (hq : Q[j]? = some q) (he : p.id = q.id) : i = j := by
  rcases Nat.lt_trichotomy i j with h1 | h1 | h1
  · exact absurd he (pw_get.1 h i j p q h1 hp hq).id
  · exact h1
  · exact absurd he.symm (pw_get.1 h j i q p h1 hq hp).id
theorem VQ.mono {Q : List R5} {W W' : Int} (v : VQ Q W) (h : W ≤ W') : VQ Q W' :=
  ⟨Int.le_trans v.w0 h, fun r hr => let a := v.right r hr; ⟨a.id, a.km, a.kw, a.s0, Int.le_trans a.sW h, a.wait, a.hold⟩, v.pair⟩
theorem VQ.nil : VQ [] 0 := ⟨Int.le_refl _, fun r hr => (by cases hr), List.Pairwise.nil⟩
theorem VQ.filter {Q : List R5} {W : Int} (v : VQ Q W) (F : R5 → Bool) : VQ (Q.filter F) W :=
  ⟨v.w0, fun r hr => v.right r (List.mem_filter.1 hr).1, v.pair.sublist List.filter_sublist⟩
theorem waits_want {W : Int} {r : R5} (h : RightR W r) (hs : 0 < r.s) : r.w ≠ 0 := by
  intro e
  have := h.wait hs
  rw [e, cov_zero h.km] at this; cases this
def grantR (r : R5) : R5 := ⟨r.id, r.x, r.w, r.w, 0⟩
theorem VQ.grant {Q : List R5} {W : Int} (v : VQ Q W) {i : Nat} {r : R5} (hf : firstQ Q = some i) (hr : Q[i]? = some r) (hfit : fitsQ Q r = true) : VQ (Q.set i (grantR r)) W := by
  obtain ⟨r', hr', hcase⟩ := first_some hf
  rw [hr] at hr'; cases hr'
  have R := v.right r (List.mem_of_getElem? hr)
  have hs : 0 < r.s := by
    rcases hcase with h | ⟨h, _⟩
    · exact ((upR_iff r).1 h).2
    · rcases Int.lt_or_eq_of_le R.s0 with h0 | h0
      · exact h0
      · exact absurd h (R.hold h0.symm).1
  have hw := waits_want R hs
  rw [fitsQ_iff] at hfit
  refine ⟨v.w0, ?_, ?_⟩
  · intro q hq
    rcases mem_set hq with rfl | hq
    · exact ⟨R.id, R.kw, R.kw, Int.le_refl _, v.w0, fun h => absurd h (Int.lt_irrefl _), fun _ => ⟨hw, rfl⟩⟩
    · exact v.right q hq
  · refine pw_set v.pair ?_ ?_
    · intro j q hj hq
      have P := pw_get.1 v.pair j i q r hj hq hr
      have hm : q.m ≠ 0 := by
        rcases hcase with h | ⟨_, _, h⟩
        · intro e; exact ((upR_iff r).1 h).1 (P.ord e).1
        · exact h j q hj hq
      exact ⟨P.id, P.x, fun h => (fun e : q.s = 0 => by omega), fun h1 _ => hfit q (List.mem_of_getElem? hq) P.id h1, fun e => absurd e hm⟩
    · intro j q hj hq
      have P := pw_get.1 v.pair i j r q hj hr hq
      refine ⟨P.id, P.x, fun h => absurd h (Int.lt_irrefl _), fun _ h2 => ?_, fun e => absurd e hw⟩
      rw [cmp_symm]
      exact hfit q (List.mem_of_getElem? hq) (fun e => P.id e.symm) h2
def cntW (Q : List R5) : Nat := (Q.filter fun r => decide (0 < r.s)).length
theorem cntW_grant {Q : List R5} {i : Nat} {r : R5} (hr : Q[i]? = some r) (hs : 0 < r.s) : cntW (Q.set i (grantR r)) + 1 = cntW Q := by
  obtain ⟨hi, rfl⟩ := List.getElem?_eq_some_iff.1 hr
  have e1 : Q = Q.take i ++ Q[i] :: Q.drop (i + 1) := by
    rw [List.getElem_cons_drop, List.take_append_drop]
  have e2 : Q.set i (grantR Q[i]) = Q.take i ++ grantR Q[i] :: Q.drop (i + 1) := by
    rw [List.set_eq_take_append_cons_drop, if_pos hi]
  have hg : decide (0 < (grantR Q[i]).s) = false := by simp [grantR]
  have h1 : cntW Q = ((Q.take i).filter fun r => decide (0 < r.s)).length + (((Q.drop (i + 1)).filter fun r => decide (0 < r.s)).length + 1) := by
    conv => lhs; rw [e1]
    unfold cntW
    rw [List.filter_append, List.filter_cons, if_pos (by simpa using hs)]
    simp
  rw [e2, h1]
  unfold cntW
  rw [List.filter_append, List.filter_cons, if_neg (by rw [hg]; simp)]
  simp; omega
def scanQ : Nat → List R5 → List R5 × List Int
  | 0, Q => (Q, [])
  | n + 1, Q => match firstQ Q with
    | none => (Q, [])
    | some i => match Q[i]? with
      | none => (Q, [])
      | some r => if fitsQ Q r = true then ((scanQ n (Q.set i (grantR r))).1, r.id :: (scanQ n (Q.set i (grantR r))).2) else (Q, [])
def stuckQ (Q : List R5) : Prop := ∀ i r, firstQ Q = some i → Q[i]? = some r → fitsQ Q r = false
def keyR (r : R5) : Int × Int := (r.id, r.x)
theorem first_waits {Q : List R5} {W : Int} (v : VQ Q W) {i : Nat} {r : R5} (hf : firstQ Q = some i) (hr : Q[i]? = some r) : 0 < r.s := by
  obtain ⟨r', hr', hcase⟩ := first_some hf
  rw [hr] at hr'; cases hr'
  have R := v.right r (List.mem_of_getElem? hr)
  rcases hcase with h | ⟨h, _⟩
  · exact ((upR_iff r).1 h).2
  · rcases Int.lt_or_eq_of_le R.s0 with h0 | h0
    · exact h0
    · exact absurd h (R.hold h0.symm).1
theorem scan_keep {W : Int} : ∀ (n : Nat) {Q : List R5}, VQ Q W → ∀ q ∈ Q, q.s = 0 → q ∈ (scanQ n Q).1 := by
  intro n
  induction n with
  | zero => intro Q v q hq _; exact hq
  | succ n ih =>
    intro Q v q hq h0
    unfold scanQ
    split
    · exact hq
    · rename_i i hf
      split
      · exact hq
      · rename_i r hr
        by_cases hfit : fitsQ Q r = true
        · rw [if_pos hfit]
          refine ih (v.grant hf hr hfit) q ?_ h0
          obtain ⟨k, hk⟩ := List.getElem?_of_mem hq
          have hne : i ≠ k := by
            rintro rfl
            rw [hr] at hk; cases hk
            have := first_waits v hf hr
            omega
          exact List.mem_of_getElem? (i := k) (by rw [List.getElem?_set, if_neg hne]; exact hk)
        · rw [if_neg hfit]; exact hq
theorem scan_ok {W : Int} : ∀ (n : Nat) {Q : List R5}, VQ Q W → VQ (scanQ n Q).1 W ∧ (scanQ n Q).1.map keyR = Q.map keyR ∧ (cntW Q < n → stuckQ (scanQ n Q).1) ∧ (∀ i ∈ (scanQ n Q).2, ∃ r ∈ (scanQ n Q).1, r.id = i ∧ r.m ≠ 0 ∧ r.s = 0) := by
  intro n
  induction n with
  | zero => intro Q v; exact ⟨v, rfl, fun h => (by omega), fun i h => (by cases h)⟩
  | succ n ih =>
    intro Q v
    unfold scanQ
    split
    · rename_i hf
      refine ⟨v, rfl, fun _ => ?_, fun i h => (by cases h)⟩
      intro i r h _
      rw [hf] at h; cases h
    · rename_i i hf
      split
      · rename_i hr
        refine ⟨v, rfl, fun _ => ?_, fun i h => (by cases h)⟩
        intro j r h h2
        rw [hf] at h; cases h; rw [hr] at h2; cases h2
      · rename_i r hr
        by_cases hfit : fitsQ Q r = true
        · rw [if_pos hfit]
          have v2 := v.grant hf hr hfit
          obtain ⟨h1, h2, h3, h4⟩ := ih v2
          have hc := cntW_grant hr (first_waits v hf hr)
          have hkey : (Q.set i (grantR r)).map keyR = Q.map keyR := by
            rw [List.map_set]
            have : keyR (grantR r) = keyR r := rfl
            rw [this]
            apply List.ext_getElem?
            intro k
            rw [List.getElem?_set]
            by_cases hik : i = k
            · subst hik
              have hil := (List.getElem?_eq_some_iff.1 hr).1
              rw [if_pos rfl, if_pos (by simpa using hil), List.getElem?_map, hr]; rfl
            · rw [if_neg hik]
          refine ⟨h1, h2.trans hkey, fun h => h3 (by omega), fun j hj => ?_⟩
          rcases List.mem_cons.1 hj with rfl | hj
          · refine ⟨grantR r, scan_keep n v2 (grantR r) ?_ rfl, rfl, ?_, rfl⟩
            · have hil := (List.getElem?_eq_some_iff.1 hr).1
              exact List.mem_of_getElem? (i := i) (by rw [List.getElem?_set, if_pos rfl, if_pos hil])
            · exact waits_want (v.right r (List.mem_of_getElem? hr)) (first_waits v hf hr)
          · exact h4 j hj
        · rw [if_neg hfit]
          refine ⟨v, rfl, fun _ => ?_, fun i h => (by cases h)⟩
          intro j q h h2
          rw [hf] at h; cases h; rw [hr] at h2; cases h2; simpa using hfit
theorem scan_stuck {Q : List R5} (h : stuckQ Q) (n : Nat) : scanQ n Q = (Q, []) := by
  cases n with
  | zero => rfl
  | succ n =>
    unfold scanQ
    split
    · rfl
    · rename_i i hf
      split
      · rfl
      · rename_i r hr
        rw [if_neg (by rw [h i r hf hr]; simp)]
end Go.Vai

namespace Go.Vai
open Go Go.Clashes
def askedM (m : Int) : Bool := decide (m ≠ 0) && kn m
theorem askedM_iff (m : Int) : askedM m = true ↔ m ≠ 0 ∧ kn m = true := by simp [askedM]
def placeR (id : Int) (r : R5) : Bool := decide (r.id = id)
def findQ (Q : List R5) (id : Int) : Option R5 := Q.find? (placeR id)
theorem findQ_some {Q : List R5} {id : Int} {r : R5} (h : findQ Q id = some r) : r ∈ Q ∧ r.id = id := by
  unfold findQ at h
  have := List.find?_some h
  exact ⟨List.mem_of_find?_eq_some h, by simpa [placeR] using this⟩
theorem findQ_none {Q : List R5} {id : Int} (h : findQ Q id = none) : ∀ r ∈ Q, r.id ≠ id := by
  unfold findQ at h
  rw [List.find?_eq_none] at h
  intro r hr e
  exact h r hr (by simp [placeR, e])
def askR (Q : List R5) (W id x m : Int) : R5 × Int × Bool :=
  if (decide (firstQ Q = none) && fitsQ Q ⟨id, x, 0, m, 0⟩) = true then (⟨id, x, m, m, 0⟩, W, true) else (⟨id, x, 0, m, W + 1⟩, W + 1, false)
theorem cov0 {m : Int} (h : cov 0 m = true) : m = 0 := by
  have key : ∀ j, j < 7 → cov 0 (j : Nat) = true → j = 0 := by decide +kernel
  obtain ⟨j, hj, rfl⟩ := kn_nat (cov_kn h).2
  rw [key j hj h]; rfl
theorem pw_snoc {α : Type} {R : α → α → Prop} {L : List α} {p : α} (h : L.Pairwise R) (h1 : ∀ q ∈ L, R q p) : (L ++ [p]).Pairwise R := by
  rw [List.pairwise_append]
  exact ⟨h, List.pairwise_singleton _ _, fun q hq r hr => by rw [List.mem_singleton] at hr; subst hr; exact h1 q hq⟩
theorem VQ.ask {Q : List R5} {W : Int} (v : VQ Q W) {id x m : Int} (hid : 0 ≤ id) (hm : askedM m = true) (hn : ∀ q ∈ Q, q.id ≠ id ∧ q.x ≠ x) : VQ (Q ++ [(askR Q W id x m).1]) (askR Q W id x m).2.1 := by
  obtain ⟨m0, km⟩ := (askedM_iff m).1 hm
  unfold askR
  by_cases hc : (decide (firstQ Q = none) && fitsQ Q ⟨id, x, 0, m, 0⟩) = true
  · rw [if_pos hc]
    rw [Bool.and_eq_true, decide_eq_true_eq, fitsQ_iff] at hc
    have hall := first_none hc.1
    refine ⟨v.w0, ?_, pw_snoc v.pair ?_⟩
    · intro r hr
      rcases List.mem_append.1 hr with hr | hr
      · exact v.right r hr
      · rw [List.mem_singleton] at hr; subst hr
        exact ⟨hid, km, km, Int.le_refl _, v.w0, fun h => absurd h (Int.lt_irrefl _), fun _ => ⟨m0, rfl⟩⟩
    · intro q hq
      exact ⟨(hn q hq).1, (hn q hq).2, fun h => absurd h (hall q hq).2, fun h1 _ => hc.2 q hq (hn q hq).1 h1, fun e => absurd e (hall q hq).1⟩
  · rw [if_neg hc]
    have v2 := v.mono (W' := W + 1) (by omega)
    refine ⟨v2.w0, ?_, pw_snoc v.pair ?_⟩
    · intro r hr
      rcases List.mem_append.1 hr with hr | hr
      · exact v2.right r hr
      · rw [List.mem_singleton] at hr; subst hr
        refine ⟨hid, rfl, km, v2.w0, Int.le_refl _, fun _ => ?_, fun h => ?_⟩
        · cases hcv : cov 0 m with
          | false => rfl
          | true => exact absurd (cov0 hcv) m0
        · have := v.w0; have h : W + 1 = 0 := h; omega
    · intro q hq
      have := (v.right q hq).sW
      exact ⟨(hn q hq).1, (hn q hq).2, fun _ => (fun e : q.s = W + 1 => by omega), fun _ h => absurd rfl h, fun _ => ⟨rfl, by show q.s < W + 1; omega⟩⟩
def upgR (Q : List R5) (W : Int) (r : R5) (m : Int) : R5 × Int × Bool :=
  if (decide (supM r.m m = r.m) || (fitsQ Q ⟨r.id, r.x, r.m, supM r.m m, r.s⟩ && !Q.any upR)) = true then (⟨r.id, r.x, supM r.m m, supM r.m m, r.s⟩, W, true) else (⟨r.id, r.x, r.m, supM r.m m, W + 1⟩, W + 1, false)
theorem VQ.upg {Q : List R5} {W : Int} (v : VQ Q W) {i : Nat} {r : R5} {m : Int} (hr : Q[i]? = some r) (hs : ¬ 0 < r.s) (hm : askedM m = true) : VQ (Q.set i (upgR Q W r m).1) (upgR Q W r m).2.1 := by
  obtain ⟨m0, km⟩ := (askedM_iff m).1 hm
  have R := v.right r (List.mem_of_getElem? hr)
  have hs0 : r.s = 0 := by have := R.s0; omega
  obtain ⟨rm0, rw⟩ := R.hold hs0
  obtain ⟨_, c1, c2, c3, _⟩ := sup_of R.km km
  have ks := sup_kn R.km km
  have before : ∀ (j : Nat) (q : R5), j < i → Q[j]? = some q → q.m ≠ 0 := fun j q hj hq e => rm0 ((pw_get.1 v.pair j i q r hj hq hr).ord e).1
  unfold upgR
  by_cases hc : (decide (supM r.m m = r.m) || (fitsQ Q ⟨r.id, r.x, r.m, supM r.m m, r.s⟩ && !Q.any upR)) = true
  · rw [if_pos hc]
    have hfit : ∀ o ∈ Q, o.id ≠ r.id → o.m ≠ 0 → cmp o.m (supM r.m m) = true := by
      intro o ho h1 h2
      rw [Bool.or_eq_true, decide_eq_true_eq, Bool.and_eq_true, fitsQ_iff] at hc
      rcases hc with e | ⟨h, _⟩
      · rw [e]
        obtain ⟨k, hk⟩ := List.getElem?_of_mem ho
        rcases Nat.lt_trichotomy k i with hk1 | hk1 | hk1
        · exact (pw_get.1 v.pair k i o r hk1 hk hr).cm h2 rm0
        · subst hk1; rw [hr] at hk; cases hk; exact absurd rfl h1
        · rw [cmp_symm]; exact (pw_get.1 v.pair i k r o hk1 hr hk).cm rm0 h2
      · exact h o ho h1 h2
    refine ⟨v.w0, ?_, pw_set v.pair ?_ ?_⟩
    · intro q hq
      rcases mem_set hq with rfl | hq
      · exact ⟨R.id, ks, ks, R.s0, R.sW, fun h => absurd h hs, fun _ => ⟨c3 m0, rfl⟩⟩
      · exact v.right q hq
    · intro j q hj hq
      have P := pw_get.1 v.pair j i q r hj hq hr
      exact ⟨P.id, P.x, P.s, fun h1 _ => hfit q (List.mem_of_getElem? hq) P.id h1, fun e => absurd e (before j q hj hq)⟩
    · intro j q hj hq
      have P := pw_get.1 v.pair i j r q hj hr hq
      exact ⟨P.id, P.x, P.s, fun _ h2 => by rw [cmp_symm]; exact hfit q (List.mem_of_getElem? hq) (fun e => P.id e.symm) h2, fun e => absurd e (c3 m0)⟩
  · rw [if_neg hc]
    have v2 := v.mono (W' := W + 1) (by omega)
    rw [Bool.or_eq_true, decide_eq_true_eq] at hc
    refine ⟨v2.w0, ?_, pw_set v.pair ?_ ?_⟩
    · intro q hq
      rcases mem_set hq with rfl | hq
      · refine ⟨R.id, R.km, ks, v2.w0, Int.le_refl _, fun _ => ?_, fun h => ?_⟩
        · cases hcv : cov r.m (supM r.m m) with
          | false => rfl
          | true => exact absurd (.inl (cov_anti c1 hcv)) hc
        · have := v.w0; have h : W + 1 = 0 := h; omega
      · exact v2.right q hq
    · intro j q hj hq
      have P := pw_get.1 v.pair j i q r hj hq hr
      have := (v.right q (List.mem_of_getElem? hq)).sW
      exact ⟨P.id, P.x, fun _ => (fun e : q.s = W + 1 => by omega), P.cm, fun e => absurd e (before j q hj hq)⟩
    · intro j q hj hq
      have P := pw_get.1 v.pair i j r q hj hr hq
      have := (v.right q (List.mem_of_getElem? hq)).sW
      exact ⟨P.id, P.x, fun _ => (fun e : W + 1 = q.s => by omega), P.cm, fun e => absurd e rm0⟩
def backR (r : R5) : R5 := ⟨r.id, r.x, r.m, r.m, 0⟩
theorem VQ.back {Q : List R5} {W : Int} (v : VQ Q W) {i : Nat} {r : R5} (hr : Q[i]? = some r) (hm : r.m ≠ 0) : VQ (Q.set i (backR r)) W := by
  have R := v.right r (List.mem_of_getElem? hr)
  refine ⟨v.w0, ?_, pw_set v.pair ?_ ?_⟩
  · intro q hq
    rcases mem_set hq with rfl | hq
    · exact ⟨R.id, R.km, R.km, Int.le_refl _, v.w0, fun h => absurd h (Int.lt_irrefl _), fun _ => ⟨hm, rfl⟩⟩
    · exact v.right q hq
  · intro j q hj hq
    have P := pw_get.1 v.pair j i q r hj hq hr
    exact ⟨P.id, P.x, fun h => (fun e : q.s = 0 => by omega), P.cm, fun e => absurd (P.ord e).1 hm⟩
  · intro j q hj hq
    have P := pw_get.1 v.pair i j r q hj hr hq
    exact ⟨P.id, P.x, fun h => absurd h (Int.lt_irrefl _), P.cm, fun e => absurd e hm⟩
def handR (r : R5) (x : Int) : R5 := ⟨r.id, x, r.m, r.w, r.s⟩
theorem VQ.hand {Q : List R5} {W : Int} (v : VQ Q W) {i : Nat} {r : R5} {x : Int} (hr : Q[i]? = some r) (hx : ∀ q ∈ Q, q.id ≠ r.id → q.x ≠ x) : VQ (Q.set i (handR r x)) W := by
  have R := v.right r (List.mem_of_getElem? hr)
  refine ⟨v.w0, ?_, pw_set v.pair ?_ ?_⟩
  · intro q hq
    rcases mem_set hq with rfl | hq
    · exact ⟨R.id, R.km, R.kw, R.s0, R.sW, R.wait, R.hold⟩
    · exact v.right q hq
  · intro j q hj hq
    have P := pw_get.1 v.pair j i q r hj hq hr
    exact ⟨P.id, hx q (List.mem_of_getElem? hq) P.id, P.s, P.cm, P.ord⟩
  · intro j q hj hq
    have P := pw_get.1 v.pair i j r q hj hr hq
    exact ⟨P.id, fun e => hx q (List.mem_of_getElem? hq) (fun e => P.id e.symm) e.symm, P.s, P.cm, P.ord⟩
end Go.Vai

namespace Go.Vai
open Go
variable {β : Type} {fl : β}
noncomputable def mkSl (fl : β) (l c : Value) (z : List Value) (e : TypeId) (h : Heap) (κ : Value → Heap → β) : β :=
  match l, c with
  | .int _ (.ofNat l), .int _ (.ofNat c) => match Nat.ble l c, Nat.ble c 1000000 with
    | true, true => cellsK fl (repeatL z c) e false fun o => newBlock fl o h fun b h => κ (sliceTo l c b) h
    | _, _ => fl
  | _, _ => fl
theorem mkSl_eq (n : Nat) (z : List Value) (e : TypeId) (h : Heap) (κ : Value → Heap → β) (hn : n ≤ 1000000) (hl : (repeatL z n).length ≤ 1000000000000) :
    mkSl fl (.int .i64 (n : Int)) (.int .i64 (n : Int)) z e h κ = κ (.slice (some ⟨h.nx, 0, none⟩) n n) ⟨h.nx + 1, h.bl.upd h.nx (cellsO (repeatL z n) e false), h.lo⟩ := by
  have e1 : Nat.ble n n = true := Nat.ble_eq_true_of_le (Nat.le_refl _)
  have e2 : Nat.ble n 1000000 = true := Nat.ble_eq_true_of_le hn
  show (match Nat.ble n n, Nat.ble n 1000000 with | true, true => _ | _, _ => fl) = _
  rw [e1, e2]
  simp only
  rw [cellsK_eq _ _ _ _ hl, newBlock_eq]; rfl
end Go.Vai
