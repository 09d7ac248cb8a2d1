/-
  PROVED HERE: a part of the proof, by a calculus of weakest conditions over an abstract heap (DP1, DP2, DP3).
-/
import Derived.Test.YtmjghbjpdoeemaaDoorUA
import Derived.Test.YtmjghbjpdoeemaaDoorDA
import Derived.Test.YtmjghbjpdoeemaaDoorKA
set_option linter.unusedVariables false
set_option linter.unusedSimpArgs false
set_option maxRecDepth 100000
set_option maxHeartbeats 2000000
namespace Go.Proofs
open Go.Vai Go.Clashes
structure Caps where
  S : Int
  H : Int
  R : Int
  P : Int
def reqsD (K : List HE) : Nat := (K.map fun e => e.Q.length).sum
def cntD (K : List HE) (S s : Int) : Nat := K.countP fun e => decide (strN e.t e.r S = s)
def withinD (K : List HE) (c : Caps) : Bool := decide ((reqsD K : Int) ≤ c.R) && K.all fun e => decide (strN e.t e.r c.S < 0) || decide ((cntD K c.S (strN e.t e.r c.S) : Int) ≤ c.H)
def eligD (t r m : Int) : Bool := (decide (levelN t r = 0) || decide (levelN t r = 1)) && (decide (m = 1) || decide (m = 2) || decide (m = 3))
def restD (t r : Int) (p : R5) : Bool := decide (0 < p.s) || decide (0 ≤ p.x) || !eligD t r p.m
def allD (K : List HE) : List R5 := K.flatMap (·.Q)
def poolD (K : List HE) (x : Int) : Nat := (allD K).countP fun p => decide (p.x = x)
def drainedD (K : List HE) (c : Caps) : Bool := (K.all fun e => e.Q.all fun p => !restD e.t e.r p) && withinD K c && (allD K).all fun p => decide ((poolD K p.x : Int) ≤ c.P)
def heldD (K : List HE) : List L4 := K.flatMap fun e => (e.Q.filter fun p => decide (p.x < 0) && decide (p.m ≠ 0)).map fun p => ⟨p.x, e.t, e.r, p.m⟩
theorem sum_erase : ∀ (L : List Nat) (k : Nat), (L.eraseIdx k).sum ≤ L.sum
  | [], k => by simp
  | a :: L, 0 => by simp
  | a :: L, k + 1 => by
    have := sum_erase L k
    simp only [List.eraseIdx_cons_succ, List.sum_cons]
    omega
theorem reqs_erase (K : List HE) (k : Nat) : reqsD (K.eraseIdx k) ≤ reqsD K := by
  unfold reqsD
  rw [erase_map]
  exact sum_erase _ k
theorem cnt_erase (K : List HE) (S s : Int) (k : Nat) : cntD (K.eraseIdx k) S s ≤ cntD K S s := (List.eraseIdx_sublist ..).countP_le
theorem within_erase {K : List HE} {c : Caps} (h : withinD K c = true) (k : Nat) : withinD (K.eraseIdx k) c = true := by
  unfold withinD at *
  simp only [Bool.and_eq_true, decide_eq_true_eq, List.all_eq_true, Bool.or_eq_true] at *
  obtain ⟨h1, h2⟩ := h
  have := reqs_erase K k
  refine ⟨by omega, fun e he => ?_⟩
  have := cnt_erase K c.S (strN e.t e.r c.S) k
  rcases h2 e (List.mem_of_mem_eraseIdx he) with h | h
  · exact .inl h
  · exact .inr (by omega)
theorem all_erase (K : List HE) (k : Nat) : (allD (K.eraseIdx k)).Sublist (allD K) := by
  unfold allD
  induction K generalizing k with
  | nil => simp
  | cons e K ih =>
    cases k with
    | zero => simp
    | succ k => simp only [List.eraseIdx_cons_succ, List.flatMap_cons]; exact (List.Sublist.refl _).append (ih k)
theorem drained_erase {K : List HE} {c : Caps} (h : drainedD K c = true) (k : Nat) : drainedD (K.eraseIdx k) c = true := by
  unfold drainedD at *
  simp only [Bool.and_eq_true] at *
  obtain ⟨⟨h1, h2⟩, h3⟩ := h
  refine ⟨⟨?_, within_erase h2 k⟩, ?_⟩
  · rw [List.all_eq_true] at *
    exact fun e he => h1 e (List.mem_of_mem_eraseIdx he)
  · rw [List.all_eq_true] at *
    intro p hp
    have h4 := h3 p ((all_erase K k).mem hp)
    have : poolD (K.eraseIdx k) p.x ≤ poolD K p.x := (all_erase K k).countP_le
    simp only [decide_eq_true_eq] at *
    omega
theorem drained_within {K : List HE} {c : Caps} (h : drainedD K c = true) : withinD K c = true := by
  unfold drainedD at h
  simp only [Bool.and_eq_true] at h
  exact h.1.2
theorem drained_not {K : List HE} {c : Caps} {e : HE} (he : e ∈ K) {p : R5} (hp : p ∈ e.Q) (hr : restD e.t e.r p = true) : drainedD K c = false := by
  cases hd : drainedD K c with
  | false => rfl
  | true =>
    unfold drainedD at hd
    simp only [Bool.and_eq_true, List.all_eq_true] at hd
    have := hd.1.1 e he p hp
    rw [hr] at this
    simp at this
theorem within_iff {K : List HE} {c : Caps} {g : Int} (hg0 : g = 0 ∨ ∃ e ∈ K, 0 ≤ strN e.t e.r c.S ∧ g = (cntD K c.S (strN e.t e.r c.S) : Int)) (hg : ∀ e ∈ K, 0 ≤ strN e.t e.r c.S → (cntD K c.S (strN e.t e.r c.S) : Int) ≤ g) :
    withinD K c = (decide ((reqsD K : Int) ≤ c.R) && ((K.all fun e => decide (strN e.t e.r c.S < 0)) || decide (g ≤ c.H))) := by
  unfold withinD
  congr 1
  rw [Bool.eq_iff_iff]
  simp only [Bool.or_eq_true, decide_eq_true_eq, List.all_eq_true]
  constructor
  · intro h
    rcases hg0 with rfl | ⟨e, he, h0, rfl⟩
    · by_cases hn : ∀ e ∈ K, strN e.t e.r c.S < 0
      · exact .inl hn
      · obtain ⟨e, he, hne⟩ : ∃ e ∈ K, ¬ strN e.t e.r c.S < 0 := by
          apply Classical.byContradiction
          intro hc
          exact hn fun e he => Classical.byContradiction fun h' => hc ⟨e, he, h'⟩
        have := hg e he (by omega)
        have hp : 0 < cntD K c.S (strN e.t e.r c.S) := List.countP_pos_iff.2 ⟨e, he, by simp⟩
        omega
    · rcases h e he with h | h
      · omega
      · exact .inr h
  · rintro (h | h) e he
    · exact .inl (h e he)
    · by_cases h0 : strN e.t e.r c.S < 0
      · exact .inl h0
      · have := hg e he (by omega)
        exact .inr (by omega)
theorem pools_iff {K : List HE} {c : Caps} {g : Int} (hg0 : g = 0 ∨ ∃ p ∈ allD K, g = (poolD K p.x : Int)) (hg : ∀ p ∈ allD K, (poolD K p.x : Int) ≤ g) :
    ((allD K).all fun p => decide ((poolD K p.x : Int) ≤ c.P)) = (decide (allD K = []) || decide (g ≤ c.P)) := by
  rw [Bool.eq_iff_iff]
  simp only [Bool.or_eq_true, decide_eq_true_eq, List.all_eq_true]
  constructor
  · intro h
    rcases hg0 with rfl | ⟨p, hp, rfl⟩
    · cases ha : allD K with
      | nil => exact .inl rfl
      | cons p L =>
        have hp : p ∈ allD K := by rw [ha]; exact .head _
        have := hg p hp
        have hpos : 0 < poolD K p.x := List.countP_pos_iff.2 ⟨p, hp, by simp⟩
        omega
    · exact .inr (h p hp)
  · rintro (h | h) p hp
    · rw [h] at hp; nomatch hp
    · have := hg p hp; omega
end Go.Proofs

namespace Go.Proofs
open Go.Vai Go.Clashes
structure CM (W : List IE) (clock : Nat) (f : Int → Nat) : Prop where
  ky : W.Pairwise fun a b => a.1 ≠ b.1
  bn : W.Pairwise fun a b => a.2.2 ≠ b.2.2
  lt : ∀ e ∈ W, e.2.2 < clock
  vl : ∀ e ∈ W, e.2.1 = (f e.1 : Int) ∧ 0 < f e.1
  al : ∀ k, 0 < f k → ∃ e ∈ W, e.1 = k
theorem CM.nil (clock : Nat) : CM [] clock fun _ => 0 := ⟨.nil, .nil, fun e he => (nomatch he), fun e he => (nomatch he), fun k hk => absurd hk (Nat.lt_irrefl 0)⟩
theorem CM.congr {W : List IE} {clock : Nat} {f g : Int → Nat} (c : CM W clock f) (h : ∀ k, f k = g k) : CM W clock g := by
  have : f = g := funext h
  rw [← this]; exact c
def incF (f : Int → Nat) (k : Int) : Int → Nat := fun x => if x = k then f k + 1 else f x
theorem CM.zero {W : List IE} {clock : Nat} {f : Int → Nat} (c : CM W clock f) {k : Int} (hn : W.find? (fun e => decide (k = e.1)) = none) : f k = 0 := by
  apply Nat.eq_zero_of_not_pos
  intro hp
  obtain ⟨e, he, rfl⟩ := c.al k hp
  have := List.find?_eq_none.1 hn e he
  simp at this
theorem CM.add {W : List IE} {clock : Nat} {f : Int → Nat} (c : CM W clock f) {k : Int} (hn : W.find? (fun e => decide (k = e.1)) = none) : CM (W ++ [(k, 1, clock)]) (clock + 1) (incF f k) := by
  have h0 := c.zero hn
  have hne : ∀ e ∈ W, e.1 ≠ k := fun e he h => by have := List.find?_eq_none.1 hn e he; simp [h] at this
  refine ⟨?_, ?_, ?_, ?_, ?_⟩
  · exact pw_snoc c.ky fun q hq => hne q hq
  · exact pw_snoc c.bn fun q hq => Nat.ne_of_lt (c.lt q hq)
  · intro e he
    rcases List.mem_append.1 he with he | he
    · have := c.lt e he; omega
    · rw [List.mem_singleton] at he; subst he; exact Nat.lt_succ_self _
  · intro e he
    rcases List.mem_append.1 he with he | he
    · have := c.vl e he
      unfold incF; rw [if_neg (hne e he)]; exact this
    · rw [List.mem_singleton] at he; subst he
      simp [incF, h0]
  · intro x hx
    unfold incF at hx
    by_cases h : x = k
    · subst h; exact ⟨_, List.mem_append_right _ (.head _), rfl⟩
    · rw [if_neg h] at hx
      obtain ⟨e, he, h1⟩ := c.al x hx
      exact ⟨e, List.mem_append_left _ he, h1⟩
theorem CM.bump {W : List IE} {clock : Nat} {f : Int → Nat} (c : CM W clock f) {j : Nat} {e : IE} (hj : W[j]? = some e) : CM (W.set j (e.1, ((f e.1 + 1 : Nat) : Int), e.2.2)) clock (incF f e.1) := by
  have hil := (List.getElem?_eq_some_iff.1 hj).1
  refine ⟨?_, ?_, ?_, ?_, ?_⟩
  · exact pw_set c.ky (fun i q hi hq => pw_get.1 c.ky i j q e hi hq hj) fun i q hi hq => pw_get.1 c.ky j i e q hi hj hq
  · exact pw_set c.bn (fun i q hi hq => pw_get.1 c.bn i j q e hi hq hj) fun i q hi hq => pw_get.1 c.bn j i e q hi hj hq
  · intro x hx
    rcases mem_set hx with rfl | hx
    · exact c.lt e (List.mem_of_getElem? hj)
    · exact c.lt x hx
  · intro x hx
    obtain ⟨i, hi⟩ := List.getElem?_of_mem hx
    rw [List.getElem?_set] at hi
    split at hi
    · cases hi
      simp [incF]
    · rename_i hne
      have hk : x.1 ≠ e.1 := by
        rcases Nat.lt_or_gt_of_ne hne with h | h
        · exact fun h2 => pw_get.1 c.ky j i e x h hj hi h2.symm
        · exact pw_get.1 c.ky i j x e h hi hj
      have := c.vl x (List.mem_of_getElem? hi)
      unfold incF; rw [if_neg hk]; exact this
  · intro x hx
    unfold incF at hx
    by_cases h : x = e.1
    · exact ⟨(e.1, ((f e.1 + 1 : Nat) : Int), e.2.2), List.mem_of_getElem? (i := j) (by rw [List.getElem?_set, if_pos rfl, if_pos hil]), h.symm⟩
    · rw [if_neg h] at hx
      obtain ⟨e', he', h1⟩ := c.al x hx
      obtain ⟨i, hi⟩ := List.getElem?_of_mem he'
      by_cases hij : j = i
      · subst hij; rw [hj] at hi; cases hi; exact absurd h1.symm h
      · exact ⟨e', List.mem_of_getElem? (i := i) (by rw [List.getElem?_set, if_neg hij]; exact hi), h1⟩
theorem cm_look {β : Type} {fl : β} {W : List IE} {clock : Nat} {f : Int → Nat} {h : Heap} {bw : Nat} (c : CM W clock f) (g : h.bl.get bw = some (.map (W.map toI) clock)) (k : Int) (κ : Value → Heap → β) :
    lookupB fl Tryd.prog 3 (.int .i64 0) false (.map (some bw)) (.int .i64 k) h κ = κ (.int .i64 (f k : Int)) h := by
  unfold lookupB lookupE
  rw [keyI]
  simp only [g]
  rcases findI h k W 0 with ⟨g1, g2⟩ | ⟨j, e', g1, g2, g3, g4, _⟩
  · rw [g1, c.zero g2]; rfl
  · rw [g1]
    have := (c.vl e' (List.mem_of_getElem? g2)).1
    subst g3
    simp only [toI, this]
theorem cm_put {W : List IE} {clock : Nat} {f : Int → Nat} {h : Heap} {bw : Nat} (c : CM W clock f) (g : h.bl.get bw = some (.map (W.map toI) clock)) (hlo : h.lo ≤ bw) (k : Int) (κ : Value → Heap → Prop)
    (hk : ∀ W' clock', CM W' clock' (incF f k) → κ undef ⟨h.nx, h.bl.upd bw (.map (W'.map toI) clock'), h.lo⟩) :
    mapUpdateB False Tryd.prog 3 (.map (some bw)) (.int .i64 k) (.int .i64 ((f k : Int) + 1)) h κ := by
  unfold mapUpdateB
  rw [keyI]
  simp only [g]
  rcases findI h k W 0 with ⟨g1, g2⟩ | ⟨j, e, g1, g2, g3, g4, g5⟩
  · rw [g1]
    simp only
    rw [snocK_eq]
    simp only [fnK_eq]
    rw [setBlock_eq _ _ _ _ hlo]
    have := hk (W ++ [(k, 1, clock)]) (clock + 1) (c.add g2)
    rw [List.map_append] at this
    have h0 := c.zero g2
    rw [h0]
    exact this
  · rw [g1]
    subst g3
    simp only [toI, veqI]
    rw [Nat.zero_add, setAt_eq _ _ j (toI e) _ (by rw [List.getElem?_map, g2]; rfl), setBlock_eq _ _ _ _ hlo]
    have := hk _ clock (c.bump g2)
    rw [List.map_set] at this
    exact this
theorem nextE_w {W : List IE} {clock b bm : Nat} {f : Int → Nat} {seen : List Nat} {h : Heap} (o : CM W clock f) (hb : h.bl.get b = some (.miter (some bm) clock seen clock)) (g : h.bl.get bm = some (.map (W.map toI) clock)) (hlo : h.lo ≤ b) (κ : Value → Heap → Prop)
    (hk0 : (∀ e ∈ W, seen.any (Nat.beq e.2.2) = true) → κ (.tuple ⟨[.bool false]⟩) h)
    (hk1 : ∀ e ∈ W, seen.any (Nat.beq e.2.2) = false → κ (.tuple ⟨[.bool true, .int .i64 e.1, .int .i64 e.2.1]⟩) ⟨h.nx, h.bl.upd b (.miter (some bm) clock (e.2.2 :: seen) clock), h.lo⟩) :
    nextB False And (.pointer (some ⟨b, 0, none⟩)) h κ := by
  unfold nextB
  simp only [hb, g]
  have e1 : (!seen.isEmpty && !(W.map toI).isEmpty && (W.map toI).all (fun e => Nat.ble clock e.born)) = false := by
    cases W with
    | nil => simp
    | cons e W =>
      have : Nat.ble clock (toI e).born = false := by
        have := o.lt e (.head _)
        cases hc : Nat.ble clock (toI e).born with
        | false => rfl
        | true => have := Nat.le_of_ble_eq_true hc; simp only [toI] at this; omega
      rw [List.map_cons, List.all_cons, this]; simp
  rw [e1]
  simp only
  rw [List.filter_map]
  have hmem : ∀ x, x ∈ (W.filter ((fun e : MapEntry => !seen.any (Nat.beq e.born)) ∘ toI)).map toI → ∃ e ∈ W, seen.any (Nat.beq e.2.2) = false ∧ x = toI e := by
    intro x hx
    obtain ⟨e, he, rfl⟩ := List.mem_map.1 hx
    rw [List.mem_filter] at he
    exact ⟨e, he.1, by have := he.2; simpa [toI] using this, rfl⟩
  split
  · rename_i hnil
    refine hk0 fun e he => ?_
    cases hs : seen.any (Nat.beq e.2.2) with
    | true => rfl
    | false =>
      have : toI e ∈ (W.filter ((fun e : MapEntry => !seen.any (Nat.beq e.born)) ∘ toI)).map toI := List.mem_map.2 ⟨e, List.mem_filter.2 ⟨he, by simp only [Function.comp, toI, hs]; rfl⟩, rfl⟩
      rw [hnil] at this
      nomatch this
  · rename_i e es heq
    rw [heq] at hmem
    refine anyNext_of hlo es e (fun x hx => ?_) fun x hx => ?_
    · obtain ⟨y, hy, _, rfl⟩ := hmem x hx
      exact o.lt y hy
    · obtain ⟨y, hy, h1, rfl⟩ := hmem x hx
      exact hk1 y hy h1
theorem entryE_w {β : Type} {fl : β} {W : List IE} {clock b bm : Nat} {f : Int → Nat} {seen : List Nat} {h : Heap} (o : CM W clock f) {e : IE} (he : e ∈ W) (hb : h.bl.get b = some (.miter (some bm) clock (e.2.2 :: seen) clock)) (g : h.bl.get bm = some (.map (W.map toI) clock)) (κ : Value → Heap → β) :
    entryB fl (.pointer (some ⟨b, 0, none⟩)) h κ = κ (.tuple ⟨[.int .i64 e.1, .int .i64 e.2.1]⟩) h := by
  unfold entryB
  simp only [hb, g]
  have e1 : Nat.beq clock clock = true := Nat.beq_refl _
  rw [e1]
  simp only
  have : (W.map toI).find? (fun x => Nat.beq x.born e.2.2) = some (toI e) := by
    have key : ∀ (L : List IE), (L.Pairwise fun a b => a.2.2 ≠ b.2.2) → e ∈ L → (L.map toI).find? (fun x => Nat.beq x.born e.2.2) = some (toI e) := by
      intro L
      induction L with
      | nil => intro _ h; nomatch h
      | cons a L ih =>
        intro hp h1
        rw [List.pairwise_cons] at hp
        rw [List.map_cons, List.find?_cons]
        rcases List.mem_cons.1 h1 with rfl | k1
        · have : Nat.beq (toI e).born e.2.2 = true := Nat.beq_refl _
          rw [this]
        · have : Nat.beq (toI a).born e.2.2 = false := by
            cases hc : Nat.beq (toI a).born e.2.2 with
            | false => rfl
            | true => exact absurd (Nat.eq_of_beq_eq_true hc) (hp.1 e k1)
          rw [this]
          exact ih hp.2 k1
    exact key W o.bn he
  rw [this]
  rfl
def unseenI (W : List IE) (seen : List Nat) : Nat := W.countP fun e => !seen.any (Nat.beq e.2.2)
theorem unseenI_lt {W : List IE} {seen : List Nat} {e : IE} (he : e ∈ W) (hn : seen.any (Nat.beq e.2.2) = false) : unseenI W (e.2.2 :: seen) < unseenI W seen := by
  refine countP_lt W (fun x _ h => ?_) ⟨e, he, by rw [hn]; rfl, by simp⟩
  rw [List.any_cons, Bool.not_or, Bool.and_eq_true] at h
  exact h.2
theorem max_i {β : Type} {fl : β} (a b : Int) (h : Heap) (κ : Value → Heap → β) : maxB fl (.int .i64 a) (.int .i64 b) h κ = κ (.int .i64 (max a b)) h := by
  unfold maxB
  simp only [iltB_eq]
  by_cases hab : a < b
  · rw [dec_t hab, Int.max_eq_right (by omega)]
  · rw [dec_f hab, Int.max_eq_left (by omega)]
theorem greatest_w {W : List IE} {clock bm : Nat} {f : Int → Nat} (o : CM W clock f) (h : Heap) (g : h.bl.get bm = some (.map (W.map toI) clock)) (hbm : bm < h.nx) (hlo : h.lo ≤ h.nx) (κ : Value → Heap → Prop)
    (hk : ∀ h' (n : Int), (n = 0 ∨ ∃ e ∈ W, n = e.2.1) → (∀ e ∈ W, e.2.1 ≤ n) → Le h h' → κ (.int .i64 n) h') : CallW Tryd.prog 15 [.map (some bm)] h κ := by
  refine callW_of mixed ?_
  rw [rs_15, range_eq g]
  refine ⟨fun k l h1 => ∃ (seen : List Nat) (n : Int), slot l 8 = .int .i64 n ∧ k = unseenI W seen ∧ (n = 0 ∨ ∃ e ∈ W, n = e.2.1) ∧ (∀ e ∈ W, seen.any (Nat.beq e.2.2) = true → e.2.1 ≤ n) ∧ h1.bl.get h.nx = some (.miter (some bm) clock seen clock) ∧ h.nx < h1.nx ∧ Le h h1,
    ⟨_, [], 0, rfl, rfl, .inl rfl, fun e he hs => by simp at hs, T.get_upd_same _ _ _, Nat.lt_succ_self _, (Le.refl h).new _⟩, ?_⟩
  rintro k l h1 ⟨seen, n, s1, rfl, hn, hall, hb, hnx, le1⟩
  have l1 := le1.lo
  have g1 := (le1.get bm hbm).trans g
  show rs_15_0 _ _ _ _ _
  unfold rs_15_0
  refine nextE_w o hb g1 (by omega) _ ?_ ?_
  · intro hs
    simp(disch:=first|omega|(simp only[Wx];done)|(simp only[Wy];done)|(simp only[Wv];omega)|with_unfolding_all rfl)only[Wz,ptrTo,sliceTo, s1]
    exact hk h1 n hn (fun e he => hall e he (hs e he)) le1
  · intro e he hs
    have hlt := unseenI_lt he hs
    obtain ⟨h2, e2⟩ : ∃ h2 : Heap, h2 = ⟨h1.nx, h1.bl.upd h.nx (.miter (some bm) clock (e.2.2 :: seen) clock), h1.lo⟩ := ⟨_, rfl⟩
    have le2 : Le h h2 := by rw [e2]; exact le1.set (Nat.le_refl _) _
    have gi2 : h2.bl.get h.nx = some (.miter (some bm) clock (e.2.2 :: seen) clock) := by rw [e2]; exact T.get_upd_same _ _ _
    have n2 : h2.nx = h1.nx := by rw [e2]
    rw [← e2]
    clear e2
    have gm2 := (le2.get bm hbm).trans g
    simp(disch:=first|omega|(simp only[Wx];done)|(simp only[Wy];done)|(simp only[Wv];omega)|with_unfolding_all rfl)only[Wz,ptrTo,sliceTo, entryE_w o he gi2 gm2, s1, max_i]
    refine ⟨_, hlt, e.2.2 :: seen, _, rfl, rfl, ?_, ?_, gi2, by omega, le2⟩
    · by_cases hm : n ≤ e.2.1
      · exact .inr ⟨e, he, Int.max_eq_right hm⟩
      · rw [Int.max_eq_left (by omega)]; exact hn
    · intro x hx hs2
      rw [List.any_cons, Bool.or_eq_true] at hs2
      rcases hs2 with h3 | h3
      · have : x.2.2 = e.2.2 := Nat.eq_of_beq_eq_true h3
        have hxe : x = e := by
          obtain ⟨i, hi⟩ := List.getElem?_of_mem hx
          obtain ⟨j, hj⟩ := List.getElem?_of_mem he
          rcases Nat.lt_trichotomy i j with h4 | h4 | h4
          · exact absurd this (pw_get.1 o.bn i j x e h4 hi hj)
          · subst h4; rw [hi] at hj; exact Option.some.inj hj
          · exact absurd this.symm (pw_get.1 o.bn j i e x h4 hj hi)
        subst hxe
        exact Int.le_max_right ..
      · exact Int.le_trans (hall x hx h3) (Int.le_max_left ..)
end Go.Proofs

namespace Go.Proofs
open Go.Vai Go.Clashes
structure HeadsIs (h : Heap) (v : Value) (K : List HE) : Prop where
  sl : Sl encH h v K
  q : ∀ k ∈ K, slV k.q = k.q ∧ Sl enc5 h k.q k.Q ∧ k.Q.length ≤ 13
  len : K.length ≤ 20
theorem HeadsIs.le {h h' : Heap} {v : Value} {K : List HE} (s : HeadsIs h v K) (l : Le h h') : HeadsIs h' v K := ⟨s.sl.le l, fun k hk => ⟨(s.q k hk).1, (s.q k hk).2.1.le l, (s.q k hk).2.2⟩, s.len⟩
def capsV (c : Caps) : Value := .agg ⟨[.int .i64 c.S, .int .i64 c.H, .int .i64 c.R, .int .i64 c.P]⟩
theorem elig_w (t r m : Int) (h : Heap) (κ : Value → Heap → Prop) (hlo : h.lo ≤ h.nx) (hk : ∀ h', Le h h' → κ (.bool (eligD t r m)) h') : CallW Tryd.prog 14 [nmV t r, .int .i64 m] h κ := by
  refine callW_of mixed ?_
  rw [rs_14]
  simp(disch:=first|omega|(simp only[Wx];done)|(simp only[Wy];done)|(simp only[Wv];omega)|with_unfolding_all rfl)only[Wz,ptrTo,sliceTo, nmV]
  obtain ⟨hA, e_hA⟩ : ∃ hA : Heap, hA = ⟨h.nx + 1, (h.bl.upd (h.nx) (cellsO [.int .i64 t, .int .i64 r] 30 false)), h.lo⟩ := ⟨_, rfl⟩
  have le_hA : Le h hA := by subst e_hA; exact ((Le.refl h).new _)
  have g1 : hA.bl.get (h.nx) = some (cellsO [.int .i64 t, .int .i64 r] 30 false) := by subst e_hA; exact T.get_upd_same _ _ _
  have n_hA : hA.nx = h.nx + 1 := by subst e_hA; rfl
  have l_hA : hA.lo = h.lo := by subst e_hA; rfl
  rw [← e_hA]
  clear e_hA
  have hk := hk hA le_hA
  refine level_w t r ?_
  unfold eligD at hk
  by_cases h0 : levelN t r = 0
  · rw [dec_t h0, Bool.true_or, Bool.true_and] at hk
    simp(disch:=first|omega|(simp only[Wx];done)|(simp only[Wy];done)|(simp only[Wv];omega)|with_unfolding_all rfl)only[Wz,ptrTo,sliceTo, dec_t h0]
    by_cases h1 : m = 1
    · rw [dec_t h1, Bool.true_or, Bool.true_or] at hk
      simp(disch:=first|omega|(simp only[Wx];done)|(simp only[Wy];done)|(simp only[Wv];omega)|with_unfolding_all rfl)only[Wz,ptrTo,sliceTo, dec_t h1]; exact hk
    · by_cases h2 : m = 2
      · rw [dec_f h1, dec_t h2, Bool.false_or, Bool.true_or] at hk
        simp(disch:=first|omega|(simp only[Wx];done)|(simp only[Wy];done)|(simp only[Wv];omega)|with_unfolding_all rfl)only[Wz,ptrTo,sliceTo, dec_f h1, dec_t h2]; exact hk
      · rw [dec_f h1, dec_f h2, Bool.false_or, Bool.false_or] at hk
        simp(disch:=first|omega|(simp only[Wx];done)|(simp only[Wy];done)|(simp only[Wv];omega)|with_unfolding_all rfl)only[Wz,ptrTo,sliceTo, dec_f h1, dec_f h2]; exact hk
  · by_cases h00 : levelN t r = 1
    · rw [dec_f h0, dec_t h00, Bool.false_or, Bool.true_and] at hk
      simp(disch:=first|omega|(simp only[Wx];done)|(simp only[Wy];done)|(simp only[Wv];omega)|with_unfolding_all rfl)only[Wz,ptrTo,sliceTo, dec_f h0, dec_t h00]
      by_cases h1 : m = 1
      · rw [dec_t h1, Bool.true_or, Bool.true_or] at hk
        simp(disch:=first|omega|(simp only[Wx];done)|(simp only[Wy];done)|(simp only[Wv];omega)|with_unfolding_all rfl)only[Wz,ptrTo,sliceTo, dec_t h1]; exact hk
      · by_cases h2 : m = 2
        · rw [dec_f h1, dec_t h2, Bool.false_or, Bool.true_or] at hk
          simp(disch:=first|omega|(simp only[Wx];done)|(simp only[Wy];done)|(simp only[Wv];omega)|with_unfolding_all rfl)only[Wz,ptrTo,sliceTo, dec_f h1, dec_t h2]; exact hk
        · rw [dec_f h1, dec_f h2, Bool.false_or, Bool.false_or] at hk
          simp(disch:=first|omega|(simp only[Wx];done)|(simp only[Wy];done)|(simp only[Wv];omega)|with_unfolding_all rfl)only[Wz,ptrTo,sliceTo, dec_f h1, dec_f h2]; exact hk
    · rw [dec_f h0, dec_f h00, Bool.false_or, Bool.false_and] at hk
      simp(disch:=first|omega|(simp only[Wx];done)|(simp only[Wy];done)|(simp only[Wv];omega)|with_unfolding_all rfl)only[Wz,ptrTo,sliceTo, dec_f h0, dec_f h00]
      exact hk
theorem lenMap_w {β : Type} {fl : β} {h : Heap} {b : Nat} {es : List MapEntry} {cl : Nat} (g : h.bl.get b = some (.map es cl)) (κ : Value → Heap → β) : lenMap fl (.map (some b)) h κ = κ (.int .i64 (es.length : Int)) h := by
  unfold lenMap
  simp only [g, fnK_eq]
  rfl
theorem le_nlt (a b : Int) : (!decide (b < a)) = decide (a ≤ b) := by
  by_cases h : b < a
  · rw [dec_t h, dec_f (show ¬ a ≤ b by omega)]; rfl
  · rw [dec_f h, dec_t (show a ≤ b by omega)]; rfl
def cntF (K : List HE) (S : Int) : Int → Nat := fun s => if 0 ≤ s then cntD K S s else 0
theorem reqs_take {K : List HE} {i : Nat} {e : HE} (h : K[i]? = some e) : reqsD (K.take (i + 1)) = reqsD (K.take i) + e.Q.length := by
  unfold reqsD
  rw [List.take_add_one, h]; simp
theorem cnt_take {K : List HE} {i : Nat} {e : HE} (h : K[i]? = some e) (S s : Int) : cntD (K.take (i + 1)) S s = cntD (K.take i) S s + if strN e.t e.r S = s then 1 else 0 := by
  unfold cntD
  rw [List.take_add_one, h]
  simp [List.countP_append, List.countP_cons]
theorem cntF_pos {K : List HE} {i : Nat} {e : HE} (h : K[i]? = some e) {S : Int} (hp : 0 ≤ strN e.t e.r S) : ∀ k, incF (cntF (K.take i) S) (strN e.t e.r S) k = cntF (K.take (i + 1)) S k := by
  intro k
  unfold incF cntF
  rw [cnt_take h]
  by_cases hk : k = strN e.t e.r S
  · subst hk; simp [hp]
  · rw [if_neg hk, if_neg (fun e : strN _ _ _ = k => hk e.symm), Nat.add_zero]
theorem cntF_neg {K : List HE} {i : Nat} {e : HE} (h : K[i]? = some e) {S : Int} (hp : strN e.t e.r S < 0) : ∀ k, cntF (K.take i) S k = cntF (K.take (i + 1)) S k := by
  intro k
  unfold cntF
  split
  · rw [cnt_take h, if_neg (by omega), Nat.add_zero]
  · rfl
theorem reqs_le {K : List HE} (hq : ∀ k ∈ K, k.Q.length ≤ 13) : reqsD K ≤ 13 * K.length := by
  unfold reqsD
  induction K with
  | nil => simp
  | cons k K ih =>
    have := ih fun x hx => hq x (.tail _ hx)
    have := hq k (.head _)
    simp only [List.map_cons, List.sum_cons, List.length_cons]
    omega
theorem within_fin {K : List HE} {c : Caps} {W : List IE} {clock : Nat} (o : CM W clock (cntF K c.S)) : (W = [] → withinD K c = decide ((reqsD K : Int) ≤ c.R)) ∧ ∀ g : Int, (g = 0 ∨ ∃ e ∈ W, g = e.2.1) → (∀ e ∈ W, e.2.1 ≤ g) → W ≠ [] → withinD K c = (decide ((reqsD K : Int) ≤ c.R) && decide (g ≤ c.H)) := by
  have key : ∀ e ∈ W, 0 ≤ e.1 ∧ e.2.1 = (cntD K c.S e.1 : Int) ∧ ∃ k ∈ K, strN k.t k.r c.S = e.1 := by
    intro e he
    obtain ⟨h1, h2⟩ := o.vl e he
    unfold cntF at h1 h2
    by_cases h0 : 0 ≤ e.1
    · rw [if_pos h0] at h1 h2
      obtain ⟨k, hk, h3⟩ := List.countP_pos_iff.1 h2
      exact ⟨h0, h1, k, hk, by simpa using h3⟩
    · rw [if_neg h0] at h2; exact absurd h2 (Nat.lt_irrefl 0)
  have key2 : ∀ k ∈ K, 0 ≤ strN k.t k.r c.S → ∃ e ∈ W, e.2.1 = (cntD K c.S (strN k.t k.r c.S) : Int) := by
    intro k hk h0
    have hp : 0 < cntD K c.S (strN k.t k.r c.S) := List.countP_pos_iff.2 ⟨k, hk, by simp⟩
    obtain ⟨e, he, h1⟩ := o.al (strN k.t k.r c.S) (by unfold cntF; rw [if_pos h0]; exact hp)
    exact ⟨e, he, by rw [(key e he).2.1, h1]⟩
  constructor
  · intro hW
    have hall : (K.all fun e => decide (strN e.t e.r c.S < 0)) = true := by
      rw [List.all_eq_true]
      intro k hk
      apply decide_eq_true
      apply Classical.byContradiction
      intro hn
      obtain ⟨e, he, _⟩ := key2 k hk (by omega)
      rw [hW] at he; nomatch he
    rw [within_iff (g := 0) (.inl rfl) (fun e he h0 => ?_), hall]
    · simp
    · rw [List.all_eq_true] at hall
      have := hall e he
      simp only [decide_eq_true_eq] at this
      omega
  · intro g h1 h2 hne
    have hg0 : g = 0 ∨ ∃ e ∈ K, 0 ≤ strN e.t e.r c.S ∧ g = (cntD K c.S (strN e.t e.r c.S) : Int) := by
      rcases h1 with h | ⟨e, he, h⟩
      · exact .inl h
      · obtain ⟨h3, h4, k, hk, h5⟩ := key e he
        exact .inr ⟨k, hk, by omega, by rw [h, h4, h5]⟩
    rw [within_iff hg0 (fun k hk h0 => by obtain ⟨e, he, h3⟩ := key2 k hk h0; have := h2 e he; omega)]
    have hall : (K.all fun e => decide (strN e.t e.r c.S < 0)) = false := by
      cases W with
      | nil => exact absurd rfl hne
      | cons e W =>
        obtain ⟨h3, _, k, hk, h5⟩ := key e (.head _)
        rw [List.all_eq_false]
        exact ⟨k, hk, by simp; omega⟩
    rw [hall, Bool.false_or]
theorem drWithin_w (c : Caps) (K : List HE) (v : Value) (h : Heap) (κ : Value → Heap → Prop) (hv : HeadsIs h v K) (hlo : h.lo ≤ h.nx) (hk : ∀ h', Le h h' → κ (.bool (withinD K c)) h') :
    CallW Tryd.prog 9 [v, capsV c] h κ := by
  refine callW_of mixed ?_
  rw [rs_9]
  obtain ⟨vx, vc, ev, _⟩ := (show Sl encH h v K from hv.sl)
  have hlen : ∀ (β : Type) (fl : β) (h' : Heap) (κ : Value → Heap → β), lenSli fl v h' κ = κ (.int .i64 (K.length : Int)) h' := fun β fl h' κ => by rw [ev]; exact lenSli_eq _ _ _ _ _
  have hqs : ∀ k ∈ K, k.Q.length ≤ 13 := fun k hk => (hv.q k hk).2.2
  have hKl := hv.len
  simp(disch:=first|omega|(simp only[Wx];done)|(simp only[Wy];done)|(simp only[Wv];omega)|with_unfolding_all rfl)only[Wz,ptrTo,sliceTo, capsV, hlen]
  obtain ⟨hA, e_hA⟩ : ∃ hA : Heap, hA = ⟨h.nx + 1 + 1, ((h.bl.upd (h.nx) (cellsO [.int .i64 c.S, .int .i64 c.H, .int .i64 c.R, .int .i64 c.P] 24 false)).upd (h.nx + 1) (.map [] 0)), h.lo⟩ := ⟨_, rfl⟩
  have le_hA : Le h hA := by subst e_hA; exact (((Le.refl h).new _).new _)
  have gc : hA.bl.get (h.nx) = some (cellsO [.int .i64 c.S, .int .i64 c.H, .int .i64 c.R, .int .i64 c.P] 24 false) := by subst e_hA; exact (T.get_updne _ _ (by omega)).trans (T.get_upd_same _ _ _)
  have gm : hA.bl.get (h.nx + 1) = some (.map [] 0) := by subst e_hA; exact T.get_upd_same _ _ _
  have n_hA : hA.nx = h.nx + 1 + 1 := by subst e_hA; rfl
  have l_hA : hA.lo = h.lo := by subst e_hA; rfl
  rw [← e_hA]
  clear e_hA
  refine ⟨fun n l h1 => ∃ (i : Nat) (W : List IE) (clock : Nat), slot l 23 = .int .i64 (i : Int) ∧ slot l 9 = .int .i64 (reqsD (K.take i) : Int) ∧ n = K.length - i ∧ i ≤ K.length ∧ CM W clock (cntF (K.take i) c.S) ∧ h1.bl.get (h.nx + 1) = some (.map (W.map toI) clock) ∧ h1.bl.get h.nx = some (cellsO [.int .i64 c.S, .int .i64 c.H, .int .i64 c.R, .int .i64 c.P] 24 false) ∧ hA.nx ≤ h1.nx ∧ Le h h1,
    ⟨_, 0, [], 0, rfl, rfl, rfl, Nat.zero_le _, (CM.nil 0).congr (fun k => by unfold cntF cntD; simp), gm, gc, Nat.le_refl _, le_hA⟩, ?_⟩
  rintro n l h1 ⟨i, W, clock, s1, s2, rfl, hi, o, gm1, gc1, hn1, le1⟩
  have l1 := le1.lo
  have hrl := reqs_le (K := K.take i) fun k hk => hqs k (List.mem_of_mem_take hk)
  have htl : (K.take i).length ≤ K.length := by rw [List.length_take]; omega
  by_cases hlt : i < K.length
  · obtain ⟨e, he⟩ : ∃ e, K[i]? = some e := ⟨_, List.getElem?_eq_getElem hlt⟩
    have heK := List.mem_of_getElem? he
    obtain ⟨q1, q2, q3⟩ := hv.q e heK
    obtain ⟨b0, o0, hb0, hx0, hr0⟩ := ldHs hv.sl i he q1
    have R1 := hr0 h1 le1
    obtain ⟨qx, qc, eq, _⟩ := (show Sl enc5 h e.q e.Q from q2)
    rw [eq] at R1
    simp(disch:=first|omega|(simp only[Wx];done)|(simp only[Wy];done)|(simp only[Wv];omega)|with_unfolding_all rfl)only[Wz,ptrTo,sliceTo, s1, lt_t (show (i : Int) < (K.length : Int) by omega), rs_9_2]
    refine ⟨fun l' h' => ∃ (W : List IE) (clock : Nat), slot l' 8 = .int .i64 (reqsD (K.take (i + 1)) : Int) ∧ CM W clock (cntF (K.take (i + 1)) c.S) ∧ h'.bl.get (h.nx + 1) = some (.map (W.map toI) clock) ∧ h'.bl.get h.nx = some (cellsO [.int .i64 c.S, .int .i64 c.H, .int .i64 c.R, .int .i64 c.P] 24 false) ∧ hA.nx ≤ h'.nx ∧ Le h h', ?_, ?_⟩
    rotate_left
    · rintro l' h' ⟨W', clock', t1, o', gm', gc', hn', le'⟩
      exact ⟨_, by omega, i + 1, W', clock', rfl, t1, rfl, by omega, o', gm', gc', hn', le'⟩
    simp(disch:=first|omega|(simp only[Wx];done)|(simp only[Wy];done)|(simp only[Wv];omega)|with_unfolding_all rfl)only[Wz,ptrTo,sliceTo, rs_9_0, s1, s2, hx0, R1]
    obtain ⟨hB, e_hB⟩ : ∃ hB : Heap, hB = ⟨h1.nx + 1, (h1.bl.upd (h1.nx) (cellsO [.int .i64 e.t, .int .i64 e.r, .slice qx e.Q.length qc, .int .i64 e.w] 33 false)), h1.lo⟩ := ⟨_, rfl⟩
    have le_hB : Le h1 hB := by subst e_hB; exact ((Le.refl h1).new _)
    have gb : hB.bl.get (h1.nx) = some (cellsO [.int .i64 e.t, .int .i64 e.r, .slice qx e.Q.length qc, .int .i64 e.w] 33 false) := by subst e_hB; exact T.get_upd_same _ _ _
    have n_hB : hB.nx = h1.nx + 1 := by subst e_hB; rfl
    have l_hB : hB.lo = h1.lo := by subst e_hB; rfl
    rw [← e_hB]
    clear e_hB
    have gm1B := (le_hB.get _ (by omega)).trans gm1
    have gc1B := (le_hB.get _ (by omega)).trans gc1
    have eR : (reqsD (K.take i) : Int) + (e.Q.length : Int) = (reqsD (K.take (i + 1)) : Int) := by rw [reqs_take he]; omega
    simp(disch:=first|omega|(simp only[Wx];done)|(simp only[Wy];done)|(simp only[Wv];omega)|with_unfolding_all rfl)only[Wz,ptrTo,sliceTo, gb, gc1, gc1B, eR]
    refine stripe_w e.t e.r c.S ?_
    by_cases hneg : strN e.t e.r c.S < 0
    · simp(disch:=first|omega|(simp only[Wx];done)|(simp only[Wy];done)|(simp only[Wv];omega)|with_unfolding_all rfl)only[Wz,ptrTo,sliceTo, dec_f (show ¬ 0 ≤ strN e.t e.r c.S by omega)]
      exact ⟨W, clock, by first | rfl | trivial, o.congr (cntF_neg he hneg), gm1B, gc1B, by omega, le1.trans le_hB⟩
    · have hcl : cntF (K.take i) c.S (strN e.t e.r c.S) ≤ 1000 := by
        unfold cntF
        split
        · have := List.countP_le_length (p := fun k : HE => decide (strN k.t k.r c.S = strN e.t e.r c.S)) (l := K.take i)
          unfold cntD; omega
        · omega
      simp(disch:=first|omega|(simp only[Wx];done)|(simp only[Wy];done)|(simp only[Wv];omega)|with_unfolding_all rfl)only[Wz,ptrTo,sliceTo, dec_t (show 0 ≤ strN e.t e.r c.S by omega), mapTo, cm_look o gm1B]
      refine cm_put o gm1B (by omega) _ _ ?_
      intro W' clock' o'
      exact ⟨W', clock', by first | rfl | trivial, o'.congr (cntF_pos he (by omega)), T.get_upd_same _ _ _, (T.get_updne _ _ (by omega)).trans gc1B, by show hA.nx ≤ hB.nx; omega, (le1.trans le_hB).set (by omega) _⟩
  · have hil : i = K.length := by omega
    subst hil
    rw [List.take_length] at o s2
    obtain ⟨w1, w2⟩ := within_fin o
    simp(disch:=first|omega|(simp only[Wx];done)|(simp only[Wy];done)|(simp only[Wv];omega)|with_unfolding_all rfl)only[Wz,ptrTo,sliceTo, s1, lt_f (show (K.length : Int) ≤ (K.length : Int) by omega), rs_9_2, rs_9_1, s2, gc1]
    by_cases hr : (reqsD K : Int) ≤ c.R
    · simp(disch:=first|omega|(simp only[Wx];done)|(simp only[Wy];done)|(simp only[Wv];omega)|with_unfolding_all rfl)only[Wz,ptrTo,sliceTo, dec_t hr, mapTo, lenMap_w gm1]
      cases W with
      | nil =>
        have hk := hk h1 le1
        rw [w1 rfl, dec_t hr] at hk
        exact hk
      | cons e W =>
        simp(disch:=first|omega|(simp only[Wx];done)|(simp only[Wy];done)|(simp only[Wv];omega)|with_unfolding_all rfl)only[Wz,ptrTo,sliceTo, List.map_cons, List.length_cons, dec_f (show ¬ ((W.length + 1 : Nat) : Int) = 0 by omega), gc1]
        refine greatest_w o h1 gm1 (by omega) (by omega) _ ?_
        intro h2 g g1 g2 le2
        have n_le2 := le2.nx
        have l_le2 := le2.lo
        have gc1 := (le2.get _ (by omega)).trans gc1
        have hk := hk h2 (le1.trans le2)
        rw [w2 g g1 g2 (by simp), dec_t hr, Bool.true_and] at hk
        simp(disch:=first|omega|(simp only[Wx];done)|(simp only[Wy];done)|(simp only[Wv];omega)|with_unfolding_all rfl)only[Wz,ptrTo,sliceTo, gc1, le_nlt]
        exact hk
    · have hk := hk h1 le1
      have hw : withinD K c = false := by
        unfold withinD; rw [dec_f hr, Bool.false_and]
      rw [hw] at hk
      simp(disch:=first|omega|(simp only[Wx];done)|(simp only[Wy];done)|(simp only[Wv];omega)|with_unfolding_all rfl)only[Wz,ptrTo,sliceTo, dec_f hr]
      exact hk
end Go.Proofs
