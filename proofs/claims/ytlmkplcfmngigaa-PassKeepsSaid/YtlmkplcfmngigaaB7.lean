/-
  PROVED HERE: a part of the proof, by a calculus of weakest conditions over an abstract heap.
-/
import Derived.Test.YtlmkplcfmngigaaB6
set_option linter.unusedVariables false
set_option linter.unusedSimpArgs false
set_option maxRecDepth 100000
namespace Go.Proofs
open Go.Vai Go.Clashes

/-! ## a map from names to modes -/
structure ME where
  t : Int
  r : Int
  m : Int
  born : Nat
def toE (e : ME) : MapEntry := { key := nmV e.t e.r, val := .int .i64 e.m, born := e.born }
def lookM (t r : Int) : List ME → Int
  | [] => 0
  | e :: M => if t = e.t ∧ r = e.r then e.m else lookM t r M
def setM (t r m : Int) : List ME → List ME
  | [] => []
  | e :: M => if t = e.t ∧ r = e.r then { e with m := m } :: M else e :: setM t r m M
def hasM (t r : Int) (M : List ME) : Prop := ∃ e ∈ M, t = e.t ∧ r = e.r
theorem lookM_set (t r m t' r' : Int) : ∀ M : List ME, hasM t r M → lookM t' r' (setM t r m M) = if t' = t ∧ r' = r then m else lookM t' r' M := by
  intro M
  induction M with
  | nil => rintro ⟨e, he, _⟩; cases he
  | cons e M ih =>
    intro hm
    unfold setM
    by_cases h1 : t = e.t ∧ r = e.r
    · rw [if_pos h1]
      obtain ⟨rfl, rfl⟩ := h1
      simp only [lookM]
      by_cases h2 : t' = e.t ∧ r' = e.r
      · rw [if_pos h2, if_pos h2]
      · rw [if_neg h2, if_neg h2, if_neg h2]
    · rw [if_neg h1]
      have hm' : hasM t r M := by
        obtain ⟨q, hq, h2⟩ := hm
        cases hq with
        | head => exact absurd h2 h1
        | tail _ hq => exact ⟨q, hq, h2⟩
      simp only [lookM, ih hm']
      by_cases h2 : t' = e.t ∧ r' = e.r
      · rw [if_pos h2, if_pos h2]
        rw [if_neg]; rintro ⟨rfl, rfl⟩; exact h1 h2
      · rw [if_neg h2, if_neg h2]
theorem lookM_snoc (t r m t' r' : Int) (b : Nat) : ∀ M : List ME, ¬ hasM t r M → lookM t' r' (M ++ [⟨t, r, m, b⟩]) = if t' = t ∧ r' = r then m else lookM t' r' M := by
  intro M
  induction M with
  | nil => intro _; simp [lookM]
  | cons e M ih =>
    intro hm
    have hm' : ¬ hasM t r M := fun ⟨q, hq, h2⟩ => hm ⟨q, .tail _ hq, h2⟩
    have h1 : ¬ (t = e.t ∧ r = e.r) := fun h => hm ⟨e, .head _, h⟩
    simp only [List.cons_append, lookM, ih hm']
    by_cases h2 : t' = e.t ∧ r' = e.r
    · rw [if_pos h2, if_pos h2]
      rw [if_neg]; rintro ⟨rfl, rfl⟩; exact h1 h2
    · rw [if_neg h2, if_neg h2]

theorem find27 (h : Heap) (t r m : Int) : ∀ (M : List ME) (i : Nat), (findB Try.prog h 27 (nmV t r) (M.map toE) i = some none ∧ ¬ hasM t r M ∧ lookM t r M = 0) ∨
    ∃ (j : Nat) (e : MapEntry), findB Try.prog h 27 (nmV t r) (M.map toE) i = some (some (i + j, e)) ∧ hasM t r M ∧ e.key = nmV t r ∧ e.val = .int .i64 (lookM t r M) ∧
      ∀ κ : List MapEntry → Prop, setAt (fun e => { e with key := nmV t r, val := .int .i64 m }) j (M.map toE) κ = κ ((setM t r m M).map toE) := by
  intro M
  induction M with
  | nil => intro i; exact .inl ⟨rfl, fun ⟨e, he, _⟩ => (by cases he), rfl⟩
  | cons e M ih =>
    intro i
    have hf : findB Try.prog h 27 (nmV t r) ((e :: M).map toE) i = (match (some (decide (t = e.t ∧ r = e.r)) : Option Bool) with | some true => some (some (i, toE e)) | some false => findB Try.prog h 27 (nmV t r) (M.map toE) (Nat.succ i) | none => none) := by
      rw [← eq27 h]; rfl
    rw [hf]
    by_cases h1 : t = e.t ∧ r = e.r
    · rw [dec_t h1]
      obtain ⟨rfl, rfl⟩ := h1
      refine .inr ⟨0, toE e, rfl, ⟨e, .head _, rfl, rfl⟩, rfl, by simp [toE, lookM], fun κ => ?_⟩
      simp only [List.map_cons, setAt, setM, and_self, if_true, toE]
    · rw [dec_f h1]
      rcases ih (Nat.succ i) with ⟨g1, g2, g3⟩ | ⟨j, e', g1, ⟨q, q1, q2⟩, g3, g4, g5⟩
      · refine .inl ⟨g1, ?_, by simp only [lookM, if_neg h1, g3]⟩
        rintro ⟨q, hq, h2⟩
        cases hq with
        | head => exact h1 h2
        | tail _ hq => exact g2 ⟨q, hq, h2⟩
      · refine .inr ⟨j + 1, e', by rw [show i + (j + 1) = Nat.succ i + j by omega]; exact g1, ⟨q, .tail _ q1, q2⟩, g3, by simp only [lookM, if_neg h1, g4], fun κ => ?_⟩
        simp only [List.map_cons, setAt, setM, if_neg h1]
        exact g5 fun l => κ (toE e :: l)

/-- a map of the call's own, as a function -/
def MapIs (a h : Heap) (bm : Nat) (f : Int → Int → Int) : Prop := a.nx ≤ bm ∧ bm < h.nx ∧ h.lo ≤ bm ∧ ∃ M clock, h.bl.get bm = some (.map (M.map toE) clock) ∧ ∀ t r, lookM t r M = f t r
theorem MapIs.le {a h h' : Heap} {bm : Nat} {f : Int → Int → Int} (m : MapIs a h bm f) (hl : Le h h') : MapIs a h' bm f := by
  obtain ⟨h1, h2, h3, M, c, h4, h5⟩ := m
  exact ⟨h1, Nat.lt_of_lt_of_le h2 hl.nx, by rw [hl.lo]; exact h3, M, c, by rw [hl.get bm h2]; exact h4, h5⟩
theorem key27 (t r : Int) : keyOk Try.prog 20 27 (nmV t r) = true := by kernel_rfl
theorem look_w {β : Type} {fl : β} {a h : Heap} {bm : Nat} {f : Int → Int → Int} (m : MapIs a h bm f) (t r : Int) (h' : Heap) (hh : h'.bl.get bm = h.bl.get bm) (κ : Value → Heap → β) :
    lookupB fl Try.prog 27 (.int .i64 0) false (.map (some bm)) (nmV t r) h' κ = κ (.int .i64 (f t r)) h' := by
  obtain ⟨h1, h2, h3, M, c, h4, h5⟩ := m
  unfold lookupB lookupE
  rw [key27]
  simp only [hh, h4]
  rcases find27 h' t r 0 M 0 with ⟨g1, _, g3⟩ | ⟨j, e, g1, _, _, g4, _⟩
  · rw [g1]; simp only; rw [← h5, g3]
  · rw [g1]; simp only; rw [← h5, g4]
theorem veq3 (t r : Int) : veq 3 (nmV t r) (nmV t r) = true := by unfold veq; exact veqL_ints 1 [t, r]
theorem snocK_eq (x : MapEntry) : ∀ (l : List MapEntry) (κ : List MapEntry → Prop), snocK x l κ = κ (l ++ [x]) := by
  intro l
  induction l with
  | nil => intro κ; rfl
  | cons a l ih => intro κ; exact ih _
theorem upd_w {a h : Heap} {bm : Nat} {f : Int → Int → Int} (hm : MapIs a h bm f) (t r m : Int) (κ : Value → Heap → Prop)
    (hk : ∀ o, MapIs a ⟨h.nx, h.bl.upd bm o, h.lo⟩ bm (fun t' r' => if t' = t ∧ r' = r then m else f t' r') → κ undef ⟨h.nx, h.bl.upd bm o, h.lo⟩) : mapUpdateB False Try.prog 27 (.map (some bm)) (nmV t r) (.int .i64 m) h κ := by
  obtain ⟨h1, h2, h3, M, c, h4, h5⟩ := hm
  unfold mapUpdateB
  rw [key27]
  simp only [h4]
  rcases find27 h t r m M 0 with ⟨g1, g2, _⟩ | ⟨j, e, g1, g2, g3, _, g5⟩
  · rw [g1]
    simp only
    rw [snocK_eq]
    simp only [fnK_eq]
    rw [setBlock_eq _ _ _ _ h3]
    refine hk _ ⟨h1, h2, h3, M ++ [⟨t, r, m, c⟩], c + 1, by rw [T.get_upd_same]; simp [toE], fun t' r' => ?_⟩
    rw [lookM_snoc t r m t' r' c M g2, h5]
  · rw [g1]
    simp only [g3, veq3]
    rw [Nat.zero_add, g5, setBlock_eq _ _ _ _ h3]
    refine hk _ ⟨h1, h2, h3, setM t r m M, c, T.get_upd_same _ _ _, fun t' r' => ?_⟩
    rw [lookM_set t r m t' r' M g2, h5]
theorem newMap (h : Heap) (hlo : h.lo ≤ h.nx) : MapIs h ⟨h.nx + 1, h.bl.upd h.nx (.map [] 0), h.lo⟩ h.nx fun _ _ => 0 :=
  ⟨Nat.le_refl _, Nat.lt_succ_self _, hlo, [], 0, T.get_upd_same _ _ _, fun _ _ => rfl⟩
end Go.Proofs
