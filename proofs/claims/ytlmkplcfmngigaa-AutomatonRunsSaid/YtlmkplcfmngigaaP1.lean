/-
  PROVED HERE: a part of the proof, by a calculus of weakest conditions over an abstract heap (P1).
-/
import Derived.Test.YtlmkplcfmngigaaB
set_option linter.unusedVariables false
set_option linter.unusedSimpArgs false
/-! The plain law of pools: sorted lists of locks. -/
namespace Go.Proofs
open Go.Clashes

def ltN (p q : H4) : Prop := p.t < q.t ∨ (p.t = q.t ∧ p.r < q.r)
theorem above_iff (p x : H4) : above p x = true ↔ ltN p x := by
  unfold above nmCmp cmpI ltN
  simp only [decide_eq_true_eq]
  split <;> split <;> (try split) <;> omega
theorem named_iff (t r : Int) (p : H4) : named t r p = true ↔ p.t = t ∧ p.r = r := by simp [named]
theorem ltN_trans {p q s : H4} (h : ltN p q) (k : ltN q s) : ltN p s := by unfold ltN at *; omega
theorem ltN_tri (p q : H4) : ltN p q ∨ (p.t = q.t ∧ p.r = q.r) ∨ ltN q p := by unfold ltN; omega
theorem ltN_irr {p q : H4} (h : ltN p q) : ¬ (p.t = q.t ∧ p.r = q.r) := by unfold ltN at h; omega

def ins (p : H4) : List H4 → List H4
  | [] => [p]
  | x :: L => if above p x = true then p :: x :: L else x :: ins p L
theorem ins_eq (p : H4) : ∀ L : List H4, (match L.findIdx? (above p) with | some i => L.take i ++ [p] ++ L.drop i | none => L ++ [p]) = ins p L := by
  intro L
  induction L with
  | nil => rfl
  | cons x L ih =>
    rw [List.findIdx?_cons]
    cases h : above p x with
    | true => simp [ins, h]
    | false =>
      simp only [ins, h]
      rw [← ih]
      cases hq : L.findIdx? (above p) <;> simp
theorem putH_new {L : List H4} {p : H4} (h : ∀ x ∈ L, ¬ (x.t = p.t ∧ x.r = p.r)) : putH L p = ins p L := by
  have : L.findIdx? (named p.t p.r) = none := by
    rw [List.findIdx?_eq_none_iff]
    intro x hx
    cases hn : named p.t p.r x with
    | false => rfl
    | true => exact absurd ((named_iff _ _ _).1 hn) (h x hx)
  unfold putH
  rw [this]
  exact ins_eq p L
theorem mem_ins {p x : H4} : ∀ {L : List H4}, x ∈ ins p L ↔ x = p ∨ x ∈ L := by
  intro L
  induction L with
  | nil => simp [ins]
  | cons a L ih =>
    unfold ins
    split
    · simp
    · simp only [List.mem_cons, ih]; constructor <;> (rintro (h | h | h) <;> simp [h])
theorem len_ins (p : H4) : ∀ L : List H4, (ins p L).length = L.length + 1 := by
  intro L
  induction L with
  | nil => rfl
  | cons a L ih => unfold ins; split <;> simp [ih]
theorem ins_sorted {p : H4} : ∀ {L : List H4}, L.Pairwise ltN → (∀ x ∈ L, ¬ (x.t = p.t ∧ x.r = p.r)) → (ins p L).Pairwise ltN := by
  intro L
  induction L with
  | nil => intro _ _; simp [ins]
  | cons a L ih =>
    intro hs hn
    rw [List.pairwise_cons] at hs
    unfold ins
    split
    · rename_i h
      have h := (above_iff p a).1 h
      rw [List.pairwise_cons, List.pairwise_cons]
      refine ⟨?_, hs⟩
      intro x hx
      cases hx with
      | head => exact h
      | tail _ hx => exact ltN_trans h (hs.1 x hx)
    · rename_i h
      have h1 : ltN a p := by
        rcases ltN_tri a p with h2 | h2 | h2
        · exact h2
        · exact absurd h2 (hn a (.head _))
        · exact absurd ((above_iff p a).2 h2) h
      rw [List.pairwise_cons]
      refine ⟨fun x hx => ?_, ih hs.2 fun x hx => hn x (.tail _ hx)⟩
      rcases mem_ins.1 hx with rfl | hx
      · exact h1
      · exact hs.1 x hx

/-- of a list in which no name stands twice: how a name is had -/
theorem modeOf_mem {L : List H4} (hs : L.Pairwise ltN) {p : H4} (hp : p ∈ L) : modeOf L p.t p.r = p.m := by
  induction L with
  | nil => cases hp
  | cons a L ih =>
    rw [List.pairwise_cons] at hs
    unfold modeOf
    by_cases h : named p.t p.r a = true
    · rw [List.find?_cons_of_pos h]
      cases hp with
      | head => rfl
      | tail _ hp =>
        have := hs.1 p hp
        exact absurd ((named_iff _ _ _).1 h) (ltN_irr this)
    · rw [List.find?_cons_of_neg h]
      cases hp with
      | head => exact absurd ((named_iff _ _ _).2 ⟨rfl, rfl⟩) h
      | tail _ hp => exact ih hs.2 hp
theorem modeOf_none {L : List H4} {t r : Int} (h : ∀ x ∈ L, ¬ (x.t = t ∧ x.r = r)) : modeOf L t r = 0 := by
  have : L.find? (named t r) = none := by
    rw [List.find?_eq_none]
    intro x hx hn
    exact h x hx ((named_iff _ _ _).1 hn)
  unfold modeOf; rw [this]
theorem modeOf_cases (L : List H4) (t r : Int) : (∃ p ∈ L, p.t = t ∧ p.r = r) ∨ ∀ x ∈ L, ¬ (x.t = t ∧ x.r = r) := by
  by_cases h : ∃ p ∈ L, p.t = t ∧ p.r = r
  · exact .inl h
  · exact .inr fun x hx hn => h ⟨x, hx, hn⟩

/-- a pool's list: by increasing names, eligible -/
structure Good (txn : Int) (L : List H4) : Prop where
  sorted : L.Pairwise ltN
  el : ∀ p ∈ L, elig p.t p.r p.m = true
  tx : ∀ p ∈ L, p.x = txn
theorem elig_ne {t r m : Int} (h : elig t r m = true) : m ≠ 0 := by rintro rfl; simp [elig] at h
theorem Good.absent {txn : Int} {L : List H4} (g : Good txn L) {t r : Int} (h : modeOf L t r = 0) : ∀ x ∈ L, ¬ (x.t = t ∧ x.r = r) := by
  rintro x hx ⟨rfl, rfl⟩
  rw [modeOf_mem g.sorted hx] at h
  exact elig_ne (g.el x hx) h
theorem Good.put {txn : Int} {L : List H4} (g : Good txn L) {t r m : Int} (he : elig t r m = true) (h : modeOf L t r = 0) :
    Good txn (putH L ⟨txn, t, r, m⟩) ∧ (putH L ⟨txn, t, r, m⟩).length = L.length + 1 ∧ ∀ t' r', modeOf (putH L ⟨txn, t, r, m⟩) t' r' = if t' = t ∧ r' = r then m else modeOf L t' r' := by
  have ha := g.absent h
  rw [putH_new (p := ⟨txn, t, r, m⟩) ha]
  have g' : Good txn (ins ⟨txn, t, r, m⟩ L) := by
    refine ⟨ins_sorted g.sorted ha, fun p hp => ?_, fun p hp => ?_⟩
    · rcases mem_ins.1 hp with rfl | hp
      · exact he
      · exact g.el p hp
    · rcases mem_ins.1 hp with rfl | hp
      · rfl
      · exact g.tx p hp
  refine ⟨g', len_ins _ _, fun t' r' => ?_⟩
  by_cases h1 : t' = t ∧ r' = r
  · obtain ⟨rfl, rfl⟩ := h1
    rw [if_pos ⟨rfl, rfl⟩]
    exact modeOf_mem g'.sorted (p := ⟨txn, t', r', m⟩) (mem_ins.2 (.inl rfl))
  · rw [if_neg h1]
    rcases modeOf_cases L t' r' with ⟨p, hp, rfl, rfl⟩ | h2
    · rw [modeOf_mem g.sorted hp, modeOf_mem g'.sorted (mem_ins.2 (.inr hp))]
    · rw [modeOf_none h2, modeOf_none]
      intro x hx
      rcases mem_ins.1 hx with rfl | hx
      · exact fun e => h1 ⟨e.1.symm, e.2.symm⟩
      · exact h2 x hx
theorem mem_drop {L : List H4} {t r : Int} {x : H4} : x ∈ dropH L t r ↔ x ∈ L ∧ ¬ (x.t = t ∧ x.r = r) := by
  unfold dropH
  rw [List.mem_filter]
  constructor
  · rintro ⟨h1, h2⟩
    refine ⟨h1, fun e => ?_⟩
    rw [(named_iff t r x).2 e] at h2; cases h2
  · rintro ⟨h1, h2⟩
    refine ⟨h1, ?_⟩
    cases hn : named t r x with
    | false => rfl
    | true => exact absurd ((named_iff _ _ _).1 hn) h2
theorem Good.drop {txn : Int} {L : List H4} (g : Good txn L) (t r : Int) :
    Good txn (dropH L t r) ∧ (dropH L t r).length ≤ L.length ∧ ∀ t' r', modeOf (dropH L t r) t' r' = if t' = t ∧ r' = r then 0 else modeOf L t' r' := by
  have g' : Good txn (dropH L t r) := ⟨g.sorted.filter _, fun p hp => g.el p (mem_drop.1 hp).1, fun p hp => g.tx p (mem_drop.1 hp).1⟩
  refine ⟨g', List.length_filter_le _ _, fun t' r' => ?_⟩
  by_cases h1 : t' = t ∧ r' = r
  · obtain ⟨rfl, rfl⟩ := h1
    rw [if_pos ⟨rfl, rfl⟩]
    exact modeOf_none fun x hx => (mem_drop.1 hx).2
  · rw [if_neg h1]
    rcases modeOf_cases L t' r' with ⟨p, hp, rfl, rfl⟩ | h2
    · rw [modeOf_mem g.sorted hp, modeOf_mem g'.sorted (mem_drop.2 ⟨hp, h1⟩)]
    · rw [modeOf_none h2, modeOf_none fun x hx => h2 x (mem_drop.1 hx).1]
theorem drop_absent {L : List H4} {t r : Int} (h : ∀ x ∈ L, ¬ (x.t = t ∧ x.r = r)) : dropH L t r = L :=
  List.filter_eq_self.2 fun x hx => by
    cases hn : named t r x with
    | false => rfl
    | true => exact absurd ((named_iff _ _ _).1 hn) (h x hx)
theorem rCmp_lt {p q : H4} (h : ltN p q) : rCmp p.t p.r q.t q.r = -1 := by unfold rCmp; unfold ltN at h; rw [if_pos h]
end Go.Proofs
