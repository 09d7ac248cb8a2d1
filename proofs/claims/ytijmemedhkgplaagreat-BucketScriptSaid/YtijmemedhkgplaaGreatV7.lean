/-
  PROVED HERE: a part of the proof, by a calculus of weakest conditions over an abstract heap (VaiE).
-/
import Derived.Test.YtijmemedhkgplaaGreatV5
import Derived.Test.YtijmemedhkgplaaGreatV3
set_option linter.unusedVariables false
set_option linter.unusedSimpArgs false
namespace Go.Vai
open Go
section
variable {α : Type} {s : Nat} {enc : α → List Value}
set_option maxRecDepth 20000 in
theorem append_place {h : Heap} {e : TypeId} {z vs : List Value} {x : Value} {M : List α} {b k : Nat} (he : ∀ a : α, (enc a).length = s) (hone : ∀ a : α, (enc a).all oneC = true) (hx : Sl enc h x M) (hM : M ≠ [])
    (hg : h.bl.get b = some (cellsO vs e true)) (hlo : h.lo ≤ b) (hr : (k + M.length) * s ≤ vs.length) (hb : k + M.length ≤ 1000000) (κ : Value → Heap → Prop)
    (hk : κ (.slice (some ⟨b, 0, none⟩) (k + M.length) openCap) ⟨h.nx, h.bl.upd b (cellsO (over vs (k * s) (M.flatMap enc)) e true), h.lo⟩) : appendB False e s z false (.slice (some ⟨b, 0, none⟩) k openCap) x h κ := by
  obtain ⟨m, hm⟩ : ∃ m, M.length = m + 1 := ⟨M.length - 1, by have := List.length_pos_iff.2 hM; omega⟩
  have hfl := flat_length (enc := enc) he
  have hfirst := hx.first (β := Prop) (fl := False) he
  obtain ⟨y, cap, rfl, h2⟩ := hx
  unfold appendB comeB
  simp only
  rw [hfirst]
  simp only [hm, fnK_eq]
  have e1 : Nat.add k (m + 1) = k + (m + 1) := rfl
  rw [e1, show Nat.ble (k + (m + 1)) 1000000000 = true from Nat.ble_eq_true_of_le (by omega)]
  have e2 : Nat.beq openCap anyCap = false := by decide
  have e3 : Nat.beq openCap openCap = true := Nat.beq_refl _
  simp only [e2, e3, hg]
  have e4 : Nat.ble (Nat.add 0 (Nat.mul (k + (m + 1)) s)) vs.length = true := Nat.ble_eq_true_of_le (by show 0 + (k + (m + 1)) * s ≤ _; rw [hm] at hr; omega)
  have e5 : (M.flatMap enc).all oneC = true := by
    rw [List.all_flatMap]; simp only [List.all_eq_true]; intro x _; exact List.all_eq_true.1 (hone x)
  have e6 : Nat.add 0 (Nat.mul k s) = k * s := by show 0 + k * s = _; omega
  have e7 : k * s + (M.flatMap enc).length ≤ vs.length := by rw [hfl, ← Nat.add_mul]; exact hr
  simp only [cellsO, Nat.beq_refl, e4, e6]
  rw [storeN_eq _ _ _ _ _ e7 e5, setBlock_eq _ _ _ _ hlo, lay_lay _ _ _ e7]
  rw [hm] at hk
  have := over_length e7
  simp only [cellsO, this] at hk
  exact hk
end
end Go.Vai
namespace Go.Vai
open Go
section
variable {β : Type} {fl : β} {α : Type} {s : Nat} {enc : α → List Value}
theorem slice_none0 (e s : Nat) (h : Heap) (κ : Value → Heap → β) : sliceB fl e s (.slice none 0 0) (some (.int .i64 0)) none none h κ = κ (.slice none 0 0) h := id rfl
theorem slice_none1 (e s : Nat) (h : Heap) (κ : Value → Heap → β) : sliceB fl e s (.slice none 0 0) none (some (.int .i64 0)) none h κ = κ (.slice none 0 0) h := id rfl
theorem slice_some0 (e s b o : Nat) (h : Heap) (κ : Value → Heap → β) : sliceB fl e s (.slice (some ⟨b, o, none⟩) 0 0) (some (.int .i64 0)) none none h κ = κ (.slice (some ⟨b, o, none⟩) 0 0) h := id rfl
theorem slice_some1 (e s b o : Nat) (h : Heap) (κ : Value → Heap → β) : sliceB fl e s (.slice (some ⟨b, o, none⟩) 0 0) none (some (.int .i64 0)) none h κ = κ (.slice (some ⟨b, o, none⟩) 0 0) h := id rfl
theorem slice_end {h : Heap} {e s b n : Nat} {vs : List Value} (hs : 0 < s) (hb : h.bl.get b = some (cellsO vs e true)) (hvs : vs.length = n * s) (κ : Value → Heap → β) :
    sliceB fl e s (.slice (some ⟨b, 0, none⟩) n openCap) (some (.int .i64 (n : Int))) none none h κ = κ (.slice (some ⟨b, 0, none⟩) 0 anyCap) h := by
  obtain ⟨s, rfl⟩ : ∃ k, s = k + 1 := ⟨s - 1, by omega⟩
  have hk : knownOf h e b = some (n * (s + 1)) := by unfold knownOf; rw [hb]; simp only [cellsO, beq_self_t, hvs]
  have hd : Nat.div (Nat.sub (n * (s + 1)) 0) (s + 1) = n := by show (n * (s + 1) - 0) / (s + 1) = n; rw [Nat.sub_zero, Nat.mul_div_cancel _ (by omega)]
  have e1 : Nat.beq openCap anyCap = false := by decide
  have e2 : Nat.beq openCap openCap = true := Nat.beq_refl _
  have e3 : Nat.ble 0 (n * (s + 1)) = true := Nat.ble_eq_true_of_le (Nat.zero_le _)
  have e5 : Nat.ble n n = true := Nat.ble_eq_true_of_le (Nat.le_refl _)
  unfold sliceB boundsB
  simp only [e1, e2, hk, e3, hd, numK_nat, numK_none, e5, Nat.beq_refl]
theorem Own.tail {a h : Heap} {e : TypeId} {v : Value} {L : List α} (he : ∀ a : α, (enc a).length = s) (hs : 0 < s) (ho : Own enc a e h v L) (i : Nat) (hi : i ≤ L.length) :
    ∃ u, Sl enc h u (L.drop i) ∧ ∀ (β : Type) (fl : β) (κ : Value → Heap → β), sliceB fl e s v (some (.int .i64 (i : Int))) none none h κ = κ u h := by
  rcases ho with ⟨rfl, rfl | ⟨b, o, rfl⟩⟩ | ⟨b, rfl, h1, h2, h3, h4⟩
  · obtain rfl : i = 0 := by simpa using hi
    exact ⟨_, Sl.nil _ _ _, fun β fl κ => slice_none0 ..⟩
  · obtain rfl : i = 0 := by simpa using hi
    exact ⟨_, Sl.nil _ _ _, fun β fl κ => slice_some0 ..⟩
  · by_cases hlt : i < L.length
    · refine ⟨_, ?_, fun β fl κ => slice_from hs h4 (flat_length he L) hlt κ⟩
      refine ⟨_, openCap, by rw [List.length_drop], fun _ => ⟨b, i * s, rfl, h2, ?_⟩⟩
      have hh : Has (h.bl.get b) 0 (L.flatMap enc) := by rw [h4]; exact Has.all
      have hl := flat_length he L
      have hle : i * s ≤ L.length * s := Nat.mul_le_mul_right _ (by omega)
      have := hh.sub (i * s) (L.length * s - i * s) (by omega)
      rw [Nat.zero_add] at this
      have e1 : ((L.flatMap enc).drop (i * s)).take (L.length * s - i * s) = (L.drop i).flatMap enc := by
        have e2 : (L.flatMap enc).drop (i * s) = (L.drop i).flatMap enc := by
          conv => lhs; rw [← List.take_append_drop i L, List.flatMap_append]
          rw [List.drop_append, flat_length he]
          simp only [List.length_take, Nat.min_eq_left hi, Nat.sub_self, List.drop_zero]
          rw [List.drop_of_length_le (by rw [flat_length he]; simp [Nat.min_eq_left hi])]
          rfl
        rw [e2, List.take_of_length_le (by rw [flat_length he, List.length_drop, Nat.sub_mul]; exact Nat.le_refl _)]
      rwa [e1] at this
    · obtain rfl : i = L.length := by omega
      refine ⟨_, ?_, fun β fl κ => slice_end hs h4 (flat_length he L) κ⟩
      rw [List.drop_length]
      exact Sl.nil _ _ _
theorem Own.same {a h : Heap} {e : TypeId} {v : Value} {L : List α} (ho : Own enc a e h v L) : veq 8 v v = true := by
  rcases ho with ⟨rfl, rfl | ⟨b, o, rfl⟩⟩ | ⟨b, rfl, h1, h2, h3, h4⟩
  · rw [veq_sln]
  · rw [veq_sli]
  · rw [veq_sli]
def frontV (v : Value) (i : Nat) : Value := match v with | .slice x _ c => .slice x i c | v => v
theorem Own.head {a h : Heap} {e : TypeId} {v : Value} {L : List α} (he : ∀ a : α, (enc a).length = s) (hs0 : 0 < s) (ho : Own enc a e h v L) (hL : L = [] → (v = .slice none 0 0 ∨ ∃ b o, v = .slice (some ⟨b, o, none⟩) 0 0)) (i : Nat) (hi : i ≤ L.length)
    (κ : Value → Heap → β) : sliceB fl e s v none (some (.int .i64 (i : Int))) none h κ = κ (frontV v i) h := by
  by_cases hn : L = []
  · subst hn
    obtain rfl : i = 0 := by simpa using hi
    rcases hL rfl with rfl | ⟨b, o, rfl⟩
    · exact slice_none1 ..
    · exact slice_some1 ..
  · rcases ho with ⟨rfl, _⟩ | ⟨b, rfl, h1, h2, h3, h4⟩
    · exact absurd rfl hn
    · exact slice_to hs0 h4 (flat_length he L) (List.length_pos_iff.2 hn) hi κ
theorem flat_take' (he : ∀ a : α, (enc a).length = s) (L : List α) : ∀ i, (L.flatMap enc).take (i * s) = (L.take i).flatMap enc := by
  induction L with
  | nil => intro i; simp
  | cons a L ih =>
    intro i
    cases i with
    | zero => simp
    | succ i =>
      simp only [List.flatMap_cons, List.take_succ_cons]
      rw [List.take_append, ← ih i, he, List.take_of_length_le (by rw [he, Nat.succ_mul]; omega), show (i + 1) * s - s = i * s by rw [Nat.succ_mul]; omega]
theorem front_sl {a h : Heap} {e : TypeId} {v : Value} {L : List α} (he : ∀ a : α, (enc a).length = s) (ho : Own enc a e h v L) (i : Nat) (hi : i ≤ L.length) : Sl enc h (frontV v i) (L.take i) := by
  by_cases hn : L = []
  · subst hn
    obtain rfl : i = 0 := by simpa using hi
    rcases ho with ⟨_, rfl | ⟨b, o, rfl⟩⟩ | ⟨b, rfl, _⟩ <;> exact Sl.nil _ _ _
  · have hs := ho.sl
    obtain ⟨x, cap, rfl, h2⟩ := hs
    obtain ⟨b, o, rfl, h3, h4⟩ := h2 hn
    refine ⟨_, cap, by simp [frontV, Nat.min_eq_left hi], fun _ => ⟨b, o, rfl, h3, ?_⟩⟩
    have hl := flat_length (enc := enc) he L
    have hle : i * s ≤ L.length * s := Nat.mul_le_mul_right _ hi
    have := h4.sub 0 (i * s) (by omega)
    rw [Nat.add_zero, List.drop_zero, flat_take' he] at this
    exact this
def EmpV (L : List α) (v : Value) : Prop := L = [] → (v = .slice none 0 0 ∨ ∃ b o, v = .slice (some ⟨b, o, none⟩) 0 0)
theorem front_eq' {a h : Heap} {e : TypeId} {v : Value} {L : List α} (he : ∀ a : α, (enc a).length = s) (hs0 : 0 < s) (ho : Own enc a e h v L) (em : EmpV L v) (i : Nat) (hi : i ≤ L.length) (κ : Value → Heap → β) : sliceB fl e s v none (some (.int .i64 (i : Int))) none h κ = κ (frontV v i) h :=
  Own.head he hs0 ho em i hi κ
theorem app_more {a h : Heap} {e : TypeId} {z : List Value} {v x : Value} {L M : List α} (he : ∀ a : α, (enc a).length = s) (hone : ∀ a : α, (enc a).all oneC = true) (hs0 : 0 < s) (hs1 : s ≤ 100) (ho : Own enc a e h v L) (em : EmpV L v) (hx : Sl enc h x M)
    (hle : Le a h) (hb : L.length + M.length ≤ 1000000) (hal : h.lo ≤ h.nx) (κ : Value → Heap → Prop)
    (hk : ∀ v' h', Own enc a e h' v' (L ++ M) → EmpV (L ++ M) v' → Le a h' → h.nx ≤ h'.nx → κ v' h') : appendB False e s z false v x h κ := by
  by_cases hM : M = []
  · subst hM
    rw [append_nil hx (by rcases ho with ⟨_, rfl | ⟨b, o, rfl⟩⟩ | ⟨b, rfl, _⟩ <;> exact ⟨_, _, _, rfl⟩)]
    exact hk v h (by simpa using ho) (by simpa using em) hle (Nat.le_refl _)
  · refine append_in he hone hs0 hs1 ho hx hle hb hal κ ?_
    intro v' h' ho' hle' _ hn _ _
    exact hk v' h' ho' (fun h => absurd (List.append_eq_nil_iff.1 h).2 hM) hle' hn
end
end Go.Vai
