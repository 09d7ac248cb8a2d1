/-
  PROVED HERE: a part of the proof, by a calculus of weakest conditions over an abstract heap (VaiV).
-/
import Derived.Test.YtlmkplcfmngigaaV3
set_option linter.unusedVariables false
set_option linter.unusedSimpArgs false
namespace Go.Vai
open Go Go.RowKit
section
variable {α : Type} {s : Nat} {enc : α → List Value}
theorem flat_dropQ (he : ∀ a : α, (enc a).length = s) (L : List α) : ∀ i, (L.flatMap enc).drop (i * s) = (L.drop i).flatMap enc := by
  induction L with
  | nil => intro i; simp
  | cons a L ih =>
    intro i
    cases i with
    | zero => simp
    | succ i =>
      simp only [List.flatMap_cons, List.drop_succ_cons]
      rw [List.drop_append, ← ih i, he, List.drop_of_length_le (by rw [he, Nat.succ_mul]; omega), show (i + 1) * s - s = i * s by rw [Nat.succ_mul]; omega]
      rfl
theorem Sl.tail {h : Heap} {b o cap cap' i : Nat} {L : List α} (he : ∀ a : α, (enc a).length = s) (hs : Sl enc h (.slice (some ⟨b, o, none⟩) L.length cap) L) (hi : i < L.length) : Sl enc h (.slice (some ⟨b, o + i * s, none⟩) (L.length - i) cap') (L.drop i) := by
  obtain ⟨x', cap2, e1, h2⟩ := hs
  cases e1
  refine ⟨some ⟨b, o + i * s, none⟩, cap', by simp, fun hn => ?_⟩
  have hL : L ≠ [] := by rintro rfl; simp at hn
  obtain ⟨b', o', e, h3, h4⟩ := h2 hL
  cases e
  refine ⟨_, _, rfl, h3, ?_⟩
  have hl := flat_length (enc := enc) he L
  have hle : i * s ≤ L.length * s := Nat.mul_le_mul_right _ (by omega)
  have := h4.sub (i * s) (L.length * s - i * s) (by omega)
  rw [flat_dropQ he, List.take_of_length_le (by rw [flat_length he, List.length_drop, Nat.sub_mul]; exact Nat.le_refl _)] at this
  exact this
theorem boundsFrom {β : Type} {fl : β} {len lim cap i : Nat} (hi : i ≤ len) (hl : len ≤ lim) (κ : Nat → Nat → Nat → β) : boundsB fl len lim cap (some (.int .i64 (i : Int))) none none κ = κ i len cap := by
  have e1 : Nat.ble i len = true := Nat.ble_eq_true_of_le hi
  have e2 : Nat.ble len lim = true := Nat.ble_eq_true_of_le hl
  unfold boundsB
  simp only [numK_nat, numK_none, e1, e2]
theorem Cut.from {e : Nat} {h : Heap} {v : Value} {L : List α} {i : Nat} (he : ∀ a : α, (enc a).length = s) (hs0 : 0 < s) (hs : Sl enc h v L) (c : Cut e s h v L.length) (hi : i ≤ L.length) :
    ∃ u, Sl enc h u (L.drop i) ∧ ∀ (β : Type) (fl : β) (κ : Value → Heap → β), sliceB fl e s v (some (.int .i64 (i : Int))) none none h κ = κ u h := by
  have nilD : i = L.length → L.drop i = [] := fun e => List.drop_of_length_le (by omega)
  rcases c with ⟨c0, rfl⟩ | ⟨c0, b, o, rfl⟩ | ⟨b, o, cap, rfl, c1, c2⟩ | ⟨b, vs, n, rfl, c2, c3, c4, c5⟩
  · obtain rfl : i = 0 := by omega
    exact ⟨.slice none 0 0, by rw [nilD (by omega)]; exact Sl.nil _ _ _, fun β fl κ => id rfl⟩
  · obtain rfl : i = 0 := by omega
    exact ⟨.slice (some ⟨b, o, none⟩) 0 anyCap, by rw [nilD (by omega)]; exact Sl.nil _ _ _, fun β fl κ => id rfl⟩
  · have e1 : Nat.beq cap anyCap = false := by
      cases hq : Nat.beq cap anyCap with
      | false => rfl
      | true => have := beq_t hq; unfold anyCap at this; omega
    have e2 : Nat.beq cap openCap = false := by
      cases hq : Nat.beq cap openCap with
      | false => rfl
      | true => have := beq_t hq; unfold openCap at this; omega
    have e3 : Nat.ble cap 9223372036854775807 = true := Nat.ble_eq_true_of_le c2
    by_cases h0 : cap = i
    · subst h0
      refine ⟨.slice (some ⟨b, o, none⟩) 0 0, by rw [nilD (by omega)]; exact Sl.nil _ _ _, fun β fl κ => ?_⟩
      unfold sliceB
      simp only [e1, e2, e3]
      rw [boundsFrom (by omega) (by omega)]
      unfold sliceOut
      rw [Nat.beq_refl]
      simp only [fnK_eq]
      show κ (.slice (some ⟨b, o, none⟩) (L.length - cap) 0) h = _
      rw [show L.length - cap = 0 by omega]
    · have e4 : Nat.beq cap i = false := by
        cases hq : Nat.beq cap i with
        | false => rfl
        | true => exact absurd (beq_t hq) h0
      by_cases hlt : i < L.length
      · refine ⟨.slice (some ⟨b, o + i * s, none⟩) (L.length - i) (cap - i), hs.tail he hlt, fun β fl κ => ?_⟩
        unfold sliceB
        simp only [e1, e2, e3]
        rw [boundsFrom (by omega) (by omega)]
        unfold sliceOut
        simp only [e4, fnK_eq]
        rfl
      · refine ⟨.slice (some ⟨b, o + i * s, none⟩) 0 (cap - i), by rw [nilD (by omega)]; exact Sl.nil _ _ _, fun β fl κ => ?_⟩
        unfold sliceB
        simp only [e1, e2, e3]
        rw [boundsFrom (by omega) (by omega)]
        unfold sliceOut
        simp only [e4, fnK_eq]
        show κ (.slice (some ⟨b, o + i * s, none⟩) (L.length - i) (cap - i)) h = _
        rw [show L.length - i = 0 by omega]
  · obtain ⟨s, rfl⟩ : ∃ k, s = k + 1 := ⟨s - 1, by omega⟩
    have hk : knownOf h e b = some (n * (s + 1)) := by unfold knownOf; rw [c3]; simp only [cellsO, beq_self_t, c4]
    have hd : Nat.div (Nat.sub (n * (s + 1)) 0) (s + 1) = n := by show (n * (s + 1) - 0) / (s + 1) = n; rw [Nat.sub_zero, Nat.mul_div_cancel _ (by omega)]
    have e1 : Nat.beq openCap anyCap = false := by decide
    have e2 : Nat.beq openCap openCap = true := Nat.beq_refl _
    have e3 : Nat.ble 0 (n * (s + 1)) = true := Nat.ble_eq_true_of_le (Nat.zero_le _)
    by_cases h0 : i = n
    · subst h0
      refine ⟨.slice (some ⟨b, 0, none⟩) 0 anyCap, by rw [nilD (by omega)]; exact Sl.nil _ _ _, fun β fl κ => ?_⟩
      unfold sliceB
      simp only [e1, e2, hk, e3, hd]
      rw [boundsFrom hi c5]
      simp only [e2, beq_self_t]
    · have e4 : Nat.beq i n = false := by
        cases hq : Nat.beq i n with
        | false => rfl
        | true => exact absurd (beq_t hq) h0
      by_cases hlt : i < L.length
      · refine ⟨.slice (some ⟨b, 0 + i * (s + 1), none⟩) (L.length - i) openCap, hs.tail he hlt, fun β fl κ => ?_⟩
        unfold sliceB
        simp only [e1, e2, hk, e3, hd]
        rw [boundsFrom hi c5]
        simp only [e2, e4, fnK_eq]
        rfl
      · refine ⟨.slice (some ⟨b, 0 + i * (s + 1), none⟩) 0 openCap, by rw [nilD (by omega)]; exact Sl.nil _ _ _, fun β fl κ => ?_⟩
        unfold sliceB
        simp only [e1, e2, hk, e3, hd]
        rw [boundsFrom hi c5]
        simp only [e2, e4, fnK_eq]
        show κ (.slice (some ⟨b, 0 + i * (s + 1), none⟩) (L.length - i) openCap) h = _
        rw [show L.length - i = 0 by omega]
end
end Go.Vai
