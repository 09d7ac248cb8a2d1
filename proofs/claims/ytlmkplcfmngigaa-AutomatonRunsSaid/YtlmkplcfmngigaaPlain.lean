/-
  PROVED HERE: a part of the proof, by a calculus of weakest conditions over an abstract heap (Plain).
-/
set_option linter.unusedVariables false
set_option linter.unusedSimpArgs false
namespace Go.Clashes

structure H4 where
  x : Int
  t : Int
  r : Int
  m : Int

/-- which modes may stand side by side -/
def tab : List (List Bool) := [
  [true, true, true, true, true, true, true],
  [true, true, true, true, true, true, false],
  [true, true, true, false, false, false, false],
  [true, true, false, true, false, true, false],
  [true, true, false, false, false, false, false],
  [true, true, false, true, false, false, false],
  [true, false, false, false, false, false, false]]
def cmp (a b : Int) : Bool := decide (0 ≤ a) && decide (a ≤ 6) && decide (0 ≤ b) && decide (b ≤ 6) && ((tab.getD a.toNat []).getD b.toNat false)

theorem cmp_symm (a b : Int) : cmp a b = cmp b a := by
  by_cases h : (0 ≤ a ∧ a ≤ 6) ∧ (0 ≤ b ∧ b ≤ 6)
  · have key : ∀ i, i < 7 → ∀ j, j < 7 → cmp (i : Nat) (j : Nat) = cmp (j : Nat) (i : Nat) := by decide
    have := key a.toNat (by omega) b.toNat (by omega)
    rwa [show ((a.toNat : Nat) : Int) = a by omega, show ((b.toNat : Nat) : Int) = b by omega] at this
  · have h1 : cmp a b = false := by
      cases hq : cmp a b with
      | false => rfl
      | true => simp [cmp] at hq; omega
    have h2 : cmp b a = false := by
      cases hq : cmp b a with
      | false => rfl
      | true => simp [cmp] at hq; omega
    rw [h1, h2]

def bad (p q : H4) : Bool := (p.t == q.t && p.r == q.r) && !(p.x == q.x) && !cmp p.m q.m

theorem bad_symm (p q : H4) : bad p q = bad q p := by
  unfold bad
  rw [cmp_symm p.m q.m, Bool.beq_comm (a := p.t), Bool.beq_comm (a := p.r), Bool.beq_comm (a := p.x)]

/-- what Clash answers -/
def Says (L : List H4) (a b : Int) (is : Bool) : Prop :=
  (is = true ∧ ∃ i k : Nat, ∃ p q, a = i ∧ b = k ∧ i < k ∧ k < L.length ∧ L[i]? = some p ∧ L[k]? = some q ∧ bad p q = true ∧
    ∀ (i' k' : Nat) p' q', i' < k' → L[i']? = some p' → L[k']? = some q' → bad p' q' = true → i < i' ∨ (i = i' ∧ k ≤ k')) ∨
  (is = false ∧ a = 0 ∧ b = 0 ∧ ∀ (i' k' : Nat) p' q', i' < k' → L[i']? = some p' → L[k']? = some q' → bad p' q' = false)

theorem says_rev {L : List H4} {a b a' b' : Int} {is is' : Bool} (h : Says L a b is) (h' : Says L.reverse a' b' is') : is' = is := by
  have rev : ∀ {j : Nat} {p : H4}, L.reverse[j]? = some p → j < L.length ∧ L[L.length - 1 - j]? = some p := by
    intro j p hj
    have hlt : j < L.reverse.length := (List.getElem?_eq_some_iff.1 hj).1
    rw [List.length_reverse] at hlt
    rw [List.getElem?_reverse hlt] at hj
    exact ⟨hlt, hj⟩
  rcases h with ⟨rfl, i, k, p, q, _, _, h1, h2, h3, h4, h5, _⟩ | ⟨rfl, _, _, h1⟩
  · rcases h' with ⟨rfl, _⟩ | ⟨rfl, _, _, k1⟩
    · rfl
    · have e1 : L.reverse[L.length - 1 - k]? = some q := by
        rw [List.getElem?_reverse (by omega), show L.length - 1 - (L.length - 1 - k) = k by omega]; exact h4
      have e2 : L.reverse[L.length - 1 - i]? = some p := by
        rw [List.getElem?_reverse (by omega), show L.length - 1 - (L.length - 1 - i) = i by omega]; exact h3
      have := k1 _ _ q p (by omega) e1 e2
      rw [bad_symm, h5] at this
      cases this
  · rcases h' with ⟨rfl, i, k, p, q, _, _, g1, g2, g3, g4, g5, _⟩ | ⟨rfl, _⟩
    · obtain ⟨a1, a2⟩ := rev g3
      obtain ⟨b1, b2⟩ := rev g4
      have := h1 _ _ q p (by omega) b2 a2
      rw [bad_symm, g5] at this
      cases this
    · rfl
end Go.Clashes
