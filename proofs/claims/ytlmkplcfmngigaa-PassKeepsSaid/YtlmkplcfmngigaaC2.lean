/-
  PROVED HERE: a part of the proof, by a calculus of weakest conditions over an abstract heap.
-/
import Derived.Test.YtlmkplcfmngigaaC1
set_option linter.unusedVariables false
set_option linter.unusedSimpArgs false
set_option maxRecDepth 100000
namespace Go.Proofs
open Go.Vai Go.Clashes

def enc1 (n : Int) : List Value := [.int .i64 n]
theorem enc1_len (n : Int) : (enc1 n).length = 1 := rfl
theorem enc1_one (n : Int) : (enc1 n).all oneC = true := rfl
def encT (k : Nat) : List Value := [.int .i64 (k : Int), .int .i64 (-1)]
theorem encT_len (n : Nat) : (encT n).length = 2 := rfl
theorem encT_one (n : Nat) : (encT n).all oneC = true := rfl
theorem ld1 {h : Heap} {v : Value} {L : List Int} (hs : Sl enc1 h v L) (i : Nat) {p : Int} (hp : L[i]? = some p) :
    ∃ b o, b < h.nx ∧ (∀ (β : Type) (fl : β) (h' : Heap) (κ : Value → Heap → β), indexAddrS fl 1 v (.int .i64 (i : Int)) h' κ = κ (.pointer (some ⟨b, o, none⟩)) h') ∧
      (∀ (β : Type) (fl : β) (κ : Value → β), ldO fl (h.bl.get b) o κ = κ (.int .i64 p)) := by
  obtain ⟨b, o, h1, h2, h3, hh⟩ := hs.ld enc1_len i hp
  exact ⟨b, o, h1, h2, fun β fl κ => ldO_has (fl := fl) hh 0 κ (Nat.lt_succ_self _)⟩
theorem ldT {h : Heap} {v : Value} {L : List Nat} (hs : Sl encT h v L) (i : Nat) {p : Nat} (hp : L[i]? = some p) :
    ∃ b o, b < h.nx ∧ (∀ (β : Type) (fl : β) (h' : Heap) (κ : Value → Heap → β), indexAddrS fl 2 v (.int .i64 (i : Int)) h' κ = κ (.pointer (some ⟨b, o, none⟩)) h') ∧
      ((∀ (β : Type) (fl : β) (κ : List Value → β), ldA fl (h.bl.get b) o 2 κ = κ [.int .i64 (p : Int), .int .i64 (-1)]) ∧
      (∀ (β : Type) (fl : β) (κ : Value → β), ldO fl (h.bl.get b) o κ = κ (.int .i64 (p : Int)))) := by
  obtain ⟨b, o, h1, h2, h3, hh⟩ := hs.ld encT_len i hp
  exact ⟨b, o, h1, h2, h3, fun β fl κ => ldO_has (fl := fl) hh 0 κ (by show 0 < 2; omega)⟩

/-- which table comes at a place -/
def rot (n tu i : Nat) : Nat := (i + tu) % n
theorem rot_inj {n tu i j : Nat} (hi : i < n) (hj : j < n) (h : rot n tu i = rot n tu j) : i = j := by
  unfold rot at h
  rcases Nat.lt_trichotomy i j with h1 | h1 | h1
  · have := Nat.sub_mod_eq_zero_of_mod_eq h.symm
    rw [show j + tu - (i + tu) = j - i by omega, Nat.mod_eq_of_lt (by omega)] at this
    omega
  · exact h1
  · have := Nat.sub_mod_eq_zero_of_mod_eq h
    rw [show i + tu - (j + tu) = i - j by omega, Nat.mod_eq_of_lt (by omega)] at this
    omega
theorem rot_tmod (n tu i : Nat) : Int.tmod ((i : Int) + (tu : Int)) (n : Int) = ((rot n tu i : Nat) : Int) := by
  rw [Int.tmod_eq_emod_of_nonneg (by omega)]
  unfold rot
  rw [Int.natCast_emod, Int.natCast_add]

def md (M : List Int) (k : Nat) : Int := 1 + pickM (M.getD k 0) 3
theorem md_range (M : List Int) (k : Nat) : 1 ≤ md M k ∧ md M k ≤ 3 := by
  have := pickM_range (n := M.getD k 0) (m := 3) (by omega)
  unfold md; omega
theorem md_elig (M : List Int) (k : Nat) (hk : k < 8) : elig (k : Int) (-1) (md M k) = true := by
  have h := md_range M k
  have hl : lvl (k : Int) (-1) = 1 := by
    unfold lvl within
    rw [if_neg (by omega), if_pos]
    refine ⟨?_, rfl⟩
    simp; omega
  unfold elig
  rw [hl]
  have : md M k = 1 ∨ md M k = 2 ∨ md M k = 3 := by omega
  rcases this with e | e | e <;> simp [e]

/-- the pool has just the tables at places from c to d -/
structure Fits (M : List Int) (tu : Nat) (P : List H4) (c d : Nat) : Prop where
  good : Good (-2) P
  len : P.length = d - c
  has : ∀ i, c ≤ i → i < d → modeOf P (rot M.length tu i : Int) (-1) = md M (rot M.length tu i)
  hasnt : ∀ i, i < M.length → i < c ∨ d ≤ i → modeOf P (rot M.length tu i : Int) (-1) = 0
theorem Fits.put {M : List Int} {tu : Nat} {P : List H4} {d : Nat} (f : Fits M tu P 0 d) (hd : d < M.length) (h8 : M.length ≤ 8) :
    Fits M tu (putH P ⟨-2, (rot M.length tu d : Int), -1, md M (rot M.length tu d)⟩) 0 (d + 1) := by
  have hr : rot M.length tu d < M.length := Nat.mod_lt _ (by omega)
  obtain ⟨q1, q2, q3⟩ := f.good.put (md_elig M (rot M.length tu d) (by omega)) (f.hasnt d hd (.inr (Nat.le_refl _)))
  refine ⟨q1, by rw [q2, f.len]; omega, fun i h1 h2 => ?_, fun i h1 h2 => ?_⟩
  · rw [q3]
    by_cases e : i = d
    · subst e; rw [if_pos ⟨rfl, rfl⟩]
    · rw [if_neg]
      · exact f.has i h1 (by omega)
      · rintro ⟨e2, _⟩; exact e (rot_inj (by omega) hd (Int.ofNat.inj e2))
  · rw [q3, if_neg]
    · exact f.hasnt i h1 (by omega)
    · rintro ⟨e2, _⟩
      have := rot_inj h1 hd (Int.ofNat.inj e2)
      omega
theorem Fits.take {M : List Int} {tu : Nat} {P : List H4} {c d : Nat} (f : Fits M tu P c d) (hc : c < d) (hd : d ≤ M.length) :
    Fits M tu (dropH P (rot M.length tu c : Int) (-1)) (c + 1) d := by
  obtain ⟨q1, q2, q3⟩ := f.good.drop (rot M.length tu c : Int) (-1)
  have hm := f.has c (Nat.le_refl _) hc
  have hmem : ∃ p ∈ P, p.t = (rot M.length tu c : Int) ∧ p.r = -1 := by
    rcases modeOf_cases P (rot M.length tu c : Int) (-1) with h | h
    · exact h
    · rw [modeOf_none h] at hm
      have := md_range M (rot M.length tu c); omega
  refine ⟨q1, ?_, fun i h1 h2 => ?_, fun i h1 h2 => ?_⟩
  · obtain ⟨p, hp, e1, e2⟩ := hmem
    have hlen : ∀ (Q : List H4), Q.Pairwise ltN → p ∈ Q → (dropH Q p.t p.r).length + 1 = Q.length := by
      intro Q
      induction Q with
      | nil => intro _ h; cases h
      | cons a Q ih =>
        intro hs hp
        rw [List.pairwise_cons] at hs
        unfold dropH at ih ⊢
        by_cases hn : named p.t p.r a = true
        · rw [List.filter_cons_of_neg (by simp [hn])]
          have : Q.filter (fun q => !named p.t p.r q) = Q := List.filter_eq_self.2 fun x hx => by
            cases hx2 : named p.t p.r x with
            | false => rfl
            | true =>
              have h1 := (named_iff _ _ _).1 hn
              have h2 := (named_iff _ _ _).1 hx2
              exact absurd ⟨h1.1.trans h2.1.symm, h1.2.trans h2.2.symm⟩ (ltN_irr (hs.1 x hx))
          rw [this]; rfl
        · rw [List.filter_cons_of_pos (by simp [hn])]
          cases hp with
          | head => exact absurd ((named_iff _ _ _).2 ⟨rfl, rfl⟩) hn
          | tail _ hp => simp only [List.length_cons]; rw [ih hs.2 hp]
    have := hlen P f.good.sorted hp
    rw [e1, e2, f.len] at this
    omega
  · rw [q3, if_neg]
    · exact f.has i (by omega) h2
    · rintro ⟨e2, _⟩
      have := rot_inj (show i < M.length by omega) (show c < M.length by omega) (Int.ofNat.inj e2)
      omega
  · rw [q3]
    split
    · rfl
    · rename_i hne
      refine f.hasnt i h1 ?_
      by_cases e : i = c
      · subst e; exact absurd ⟨rfl, rfl⟩ hne
      · omega
end Go.Proofs
