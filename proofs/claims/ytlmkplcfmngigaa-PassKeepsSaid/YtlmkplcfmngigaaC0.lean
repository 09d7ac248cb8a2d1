/-
  PROVED HERE: a part of the proof, by a calculus of weakest conditions over an abstract heap.
-/
import Derived.Test.YtlmkplcfmngigaaB7
set_option linter.unusedVariables false
set_option linter.unusedSimpArgs false
namespace Go.Vai
open Go
section
variable {α : Type} {s : Nat} {enc : α → List Value}
set_option maxRecDepth 20000 in
theorem append_in {a h : Heap} {e : TypeId} {z : List Value} {v x : Value} {L M : List α} (he : ∀ a : α, (enc a).length = s) (hone : ∀ a : α, (enc a).all oneC = true) (hs0 : 0 < s) (hs1 : s ≤ 100) (ho : Own enc a e h v L) (hx : Sl enc h x M)
    (hle : Le a h) (hb : L.length + M.length ≤ 1000000) (hal : h.lo ≤ h.nx) (κ : Value → Heap → Prop)
    (hk : ∀ v' h', Own enc a e h' v' (L ++ M) → Le a h' → h'.nx ≤ h.nx + 1 → h.nx ≤ h'.nx → h'.lo = h.lo → (∀ b, b < h.nx → h.bl.get b ≠ some (cellsO (L.flatMap enc) e true) → h'.bl.get b = h.bl.get b) → κ v' h') : appendB False e s z false v x h κ := by
  by_cases hM : M = []
  · subst hM
    rw [append_nil hx (by rcases ho with ⟨rfl, rfl | ⟨b, o, rfl⟩⟩ | ⟨b, rfl, _⟩ <;> exact ⟨_, _, _, rfl⟩)]
    exact hk v h (by simpa using ho) hle (Nat.le_succ _) (Nat.le_refl _) rfl (fun _ _ _ => rfl)
  · obtain ⟨m, hm⟩ : ∃ m, M.length = m + 1 := ⟨M.length - 1, by have := List.length_pos_iff.2 hM; omega⟩
    have hfl := flat_length (enc := enc) he
    have hfirst := hx.first (β := Prop) (fl := False) he
    obtain ⟨y, cap, rfl, h2⟩ := hx
    have hml : ∀ K : List α, K.length ≤ 1000000 → (K.flatMap enc).length ≤ 1000000000000 := fun K hK => by
      rw [hfl]
      have := Nat.mul_le_mul hK hs1
      omega
    have fresh : ∀ (hh : Heap) (ws : List Value), ws = (L ++ M).flatMap enc → Le a hh → hh.nx = h.nx → hh.lo = h.lo → (∀ b, b < h.nx → h.bl.get b ≠ some (cellsO (L.flatMap enc) e true) → hh.bl.get b = h.bl.get b) → newCells False ws e true hh fun b h' => κ (.slice (some ⟨b, 0, none⟩) (L.length + M.length) openCap) h' := by
      intro hh ws hw hah hnx hlo hgt
      subst hw
      unfold newCells
      rw [cellsK_eq _ _ _ _ (hml _ (by simp; omega)), newBlock_eq]
      refine hk _ _ (.inr ⟨hh.nx, by simp, hah.nx, Nat.lt_succ_self _, by show hh.lo ≤ _; omega, T.get_upd_same _ _ _⟩) (hah.new _) (by show hh.nx + 1 ≤ _; omega) (by show h.nx ≤ hh.nx + 1; omega) hlo (fun b hb hn => (T.get_updne _ _ (by omega)).trans (hgt b hb hn))
    rcases ho with ⟨rfl, hv⟩ | ⟨b, rfl, h3, h4, h5, h6⟩
    · have hF := fresh h (M.flatMap enc) (by simp) hle rfl rfl (fun _ _ _ => rfl)
      simp only [List.length_nil, Nat.zero_add] at hF
      rcases hv with rfl | ⟨b, o, rfl⟩
      · unfold appendB comeB
        simp only
        rw [hfirst]
        simp only [hm, fnK_eq]
        rw [show Nat.ble (Nat.add 0 (m + 1)) 1000000000 = true from Nat.ble_eq_true_of_le (by show 0 + (m + 1) ≤ _; omega)]
        rw [hm] at hF
        have e1 : Nat.add 0 (m + 1) = m + 1 := by show 0 + (m + 1) = _; omega
        rw [e1]
        exact hF
      · unfold appendB comeB
        simp only
        rw [hfirst]
        simp only [hm, fnK_eq]
        have e1 : Nat.add 0 (m + 1) = m + 1 := by show 0 + (m + 1) = _; omega
        rw [e1, show Nat.ble (m + 1) 1000000000 = true from Nat.ble_eq_true_of_le (by omega)]
        rw [hm] at hF
        show firstB False h s 0 _ _
        rw [firstB_zero _ _ _ _ _ (by simp)]
        exact hF
    · unfold appendB comeB
      simp only
      rw [hfirst]
      simp only [hm, fnK_eq]
      have e1 : Nat.add L.length (m + 1) = L.length + (m + 1) := rfl
      rw [e1, show Nat.ble (L.length + (m + 1)) 1000000000 = true from Nat.ble_eq_true_of_le (by omega)]
      have e2 : Nat.beq openCap anyCap = false := by decide
      have e3 : Nat.beq openCap openCap = true := Nat.beq_refl _
      simp only [e2, e3, h6]
      have e4 : Nat.ble (Nat.add 0 (Nat.mul (L.length + (m + 1)) s)) (L.flatMap enc).length = false := by
        rw [hfl]
        cases hbb : Nat.ble (Nat.add 0 (Nat.mul (L.length + (m + 1)) s)) (L.length * s) with
        | false => rfl
        | true =>
          have h7 : 0 + (L.length + (m + 1)) * s ≤ L.length * s := Nat.le_of_ble_eq_true hbb
          rw [Nat.add_mul, Nat.succ_mul] at h7
          omega
      have e5 : (M.flatMap enc).all oneC = true := by
        rw [List.all_flatMap]; simp only [List.all_eq_true]; intro x _; exact List.all_eq_true.1 (hone x)
      simp only [cellsO, Nat.beq_refl, e4, e5, Bool.and_self]
      have hh : Has (h.bl.get b) 0 (L.flatMap enc) := by rw [h6]; exact Has.all
      rw [firstB_has hh s L.length _ _ _ (hfl L).symm, setBlock_eq _ _ _ _ h5]
      have hF := fresh ⟨h.nx, h.bl.upd b (.dead (L.flatMap enc).length e), h.lo⟩ (L.flatMap enc ++ M.flatMap enc) (by simp) (hle.set h3 _) rfl rfl (fun b' _ hn => T.get_updne _ _ (fun e => hn (by rw [← e]; exact h6)))
      rw [hm] at hF
      exact hF
end
end Go.Vai
