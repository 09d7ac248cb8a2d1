/-
  PROVED HERE: a part of the proof, by a calculus of weakest conditions over an abstract heap.
-/
import Derived.Test.YtlmkplcfmngigaaB2
import Derived.Test.YtlmkplcfmngigaaIW5
set_option linter.unusedVariables false
set_option linter.unusedSimpArgs false
set_option maxRecDepth 100000
namespace Go.Proofs
open Go.Vai Go.Clashes

noncomputable def z30 : List Value := match zOf Try.prog 30 with | some (z, _) => z | none => []
theorem z30_ok : zOf Try.prog 30 = some (z30, 4) := by kernel_rfl
theorem info30 : (match Try.prog.info? 30 with | some i => (match i.zero with | some z => Nat.beq z.cells.size 4 && Nat.ble i.bytes 10000 | none => false) | none => false) = true := by decide +kernel
theorem info30' : ∃ i z, Try.prog.info? 30 = some i ∧ i.zero = some z ∧ z.cells.size = 4 ∧ i.bytes ≤ 10000 := by
  have h := info30
  split at h <;> try contradiction
  rename_i i hi
  split at h <;> try contradiction
  rename_i z hz
  simp only [Bool.and_eq_true] at h
  exact ⟨i, z, hi, hz, beq_t h.1, ble_t h.2⟩
theorem insB_w {args : List Value} {h : Heap} {κ : Value → Heap → Prop} (hg : insertB False 30 4 z30 args h κ) : CallW Try.prog 85 args h κ := by
  intro φ w args' ha hr
  obtain ⟨i, z, h1, h2, h3, h4⟩ := info30'
  exact insertB_sound (good := ok) ok_false (insert85 h1 h2 h3 h4 Try.underlying3) Try.underlying22 z30_ok h1 h4 hr ha hg

theorem flat4 (L : List H4) : (L.flatMap enc4).length = L.length * 4 := flat_length enc4_len L
theorem flat_take (L : List H4) : ∀ i, (L.flatMap enc4).take (i * 4) = (L.take i).flatMap enc4 := by
  induction L with
  | nil => intro i; simp
  | cons a L ih =>
    intro i
    cases i with
    | zero => simp
    | succ i =>
      simp only [List.flatMap_cons, List.take_succ_cons]
      rw [List.take_append, ← ih i, enc4_len, List.take_of_length_le (by rw [enc4_len]; omega), show (i + 1) * 4 - 4 = i * 4 by omega]
theorem flat_drop (L : List H4) : ∀ i, (L.flatMap enc4).drop (i * 4) = (L.drop i).flatMap enc4 := by
  induction L with
  | nil => intro i; simp
  | cons a L ih =>
    intro i
    cases i with
    | zero => simp
    | succ i =>
      simp only [List.flatMap_cons, List.drop_succ_cons]
      rw [List.drop_append, ← ih i, enc4_len, List.drop_of_length_le (by rw [enc4_len]; omega), show (i + 1) * 4 - 4 = i * 4 by omega]
      rfl
theorem over_flat (L : List H4) (i : Nat) (p : H4) (hi : i < L.length) : over (L.flatMap enc4) (i * 4) (enc4 p) = (L.set i p).flatMap enc4 := by
  have e : L.set i p = L.take i ++ [p] ++ L.drop (i + 1) := by
    rw [List.set_eq_take_append_cons_drop, if_pos hi]; simp
  rw [e]
  simp only [over, enc4_len, List.flatMap_append, List.flatMap_cons, List.flatMap_nil, List.append_nil]
  rw [flat_take, show i * 4 + 4 = (i + 1) * 4 by omega, flat_drop]
theorem flat_one (L : List H4) : (L.flatMap enc4).all oneC = true := by
  rw [List.all_flatMap]; simp only [List.all_eq_true]; intro x _; exact List.all_eq_true.1 (enc4_one x)

/-- slices.Insert of one lock into a slice of the call's own -/
theorem insert_w {a h : Heap} {v : Value} {L : List H4} {p : H4} {i : Nat} {vb vc : Nat} (hi : i ≤ L.length) (ho : Own enc4 a 30 h v L) (hle : Le a h) (hlen : L.length ≤ 100000) (hlo : h.lo ≤ h.nx)
    (hvb : h.bl.get vb = some (cellsO (enc4 p) 30 false)) (hvn : vb < h.nx) (hne : i < L.length → ∀ b n c, v = .slice (some ⟨b, 0, none⟩) n c → vb ≠ b) (κ : Value → Heap → Prop)
    (hk : ∀ v' h', Own enc4 a 30 h' v' (L.take i ++ [p] ++ L.drop i) → Le a h' → κ v' h') : CallW Try.prog 85 [v, .int .i64 (i : Int), .slice (some ⟨vb, 0, none⟩) 1 vc] h κ := by
  refine insB_w ?_
  have hx : Sl enc4 h (.slice (some ⟨vb, 0, none⟩) 1 vc) [p] := ⟨_, vc, rfl, fun _ => ⟨vb, 0, rfl, hvn, by rw [hvb]; simpa using Has.all⟩⟩
  by_cases he : i = L.length
  · subst he
    have key : appendB False 30 4 z30 false v (.slice (some ⟨vb, 0, none⟩) 1 vc) h κ := by
      refine append_own (enc := enc4) (a := a) (M := [p]) enc4_len enc4_one (by omega) (by omega) ho hx hle (by simp; omega) hlo _ ?_
      intro v' h' ho' hl' _ _
      refine hk v' h' ?_ hl'
      simpa using ho'
    have fin : ∀ (base : Option Addr) (cap : Nat), v = .slice base L.length cap → insertB False 30 4 z30 [v, .int .i64 (L.length : Int), .slice (some ⟨vb, 0, none⟩) 1 vc] h κ := by
      rintro base cap rfl
      unfold insertB
      show (match Nat.beq L.length L.length with | true => _ | false => _)
      rw [Nat.beq_refl]; exact key
    rcases ho with ⟨rfl, rfl | ⟨b, o, rfl⟩⟩ | ⟨b, rfl, _⟩
    · exact fin _ _ rfl
    · exact fin _ _ rfl
    · exact fin _ _ rfl
  · have hlt : i < L.length := by omega
    rcases ho with ⟨rfl, _⟩ | ⟨b, rfl, h1, h2, h3, h4⟩
    · simp at hlt
    · have hne := hne hlt b _ _ rfl
      unfold insertB
      show (match Nat.beq i L.length with | true => _ | false => _)
      have e1 : Nat.beq i L.length = false := by
        cases hq : Nat.beq i L.length with
        | false => rfl
        | true => exact absurd (beq_t hq) he
      have e2 : Nat.beq openCap openCap = true := Nat.beq_refl _
      have e3 : Nat.ble (i + 1) L.length = true := Nat.ble_eq_true_of_le hlt
      have e4 : Nat.beq vb b = false := by
        cases hq : Nat.beq vb b with
        | false => rfl
        | true => exact absurd (beq_t hq) hne
      have e5 : Nat.ble (L.length + (0 + 1)) 1000000 = true := Nat.ble_eq_true_of_le (by omega)
      have hh1 : Has (h.bl.get b) 0 (L.flatMap enc4) := by rw [h4]; exact Has.all
      have hh2 : Has (h.bl.get vb) 0 (enc4 p) := by rw [hvb]; exact Has.all
      have f1 : ∀ κ : List Value → Prop, firstB False h 4 L.length (.slice (some ⟨b, 0, none⟩) L.length openCap) κ = κ (L.flatMap enc4) := fun κ => firstB_has hh1 _ _ _ _ κ (flat4 L).symm
      have f2 : ∀ κ : List Value → Prop, firstB False h 4 (0 + 1) (.slice (some ⟨vb, 0, none⟩) (0 + 1) vc) κ = κ (enc4 p) := fun κ => firstB_has hh2 _ _ _ _ κ rfl
      have e6 : ((L.flatMap enc4).all oneC && (enc4 p).all oneC) = true := by rw [flat_one]; rfl
      have e7 : Nat.beq 30 30 = true := rfl
      have g4 := h4
      have gvb := hvb
      simp only [cellsO] at g4 gvb
      simp only [e1, e2, e3, e4, g4, gvb, e5, e7, f1, f2, e6]
      rw [setBlock_eq _ _ _ _ h3]
      unfold newCells
      have hfl : ((L.flatMap enc4).take (i * 4) ++ enc4 p ++ (L.flatMap enc4).drop (i * 4)) = (L.take i ++ [p] ++ L.drop i).flatMap enc4 := by
        rw [flat_take, flat_drop]; simp
      rw [hfl, cellsK_eq _ _ _ _ (by rw [flat4]; simp; omega), newBlock_eq]
      refine hk _ _ (.inr ⟨h.nx, ?_, hle.nx, Nat.lt_succ_self _, hlo, T.get_upd_same _ _ _⟩) ((hle.set h1 _).new _)
      rw [show (L.take i ++ [p] ++ L.drop i).length = L.length + (0 + 1) by simp; omega]
end Go.Proofs
